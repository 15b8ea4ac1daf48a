/- Printed by gen2.py: the walks. -/
import Derived.Test.YtmmhbhhcloobnaaDoorWlkA
set_option linter.unusedVariables false
set_option maxRecDepth 100000
namespace Go.Proofs.YtmmhbhhcloobnaaDoor
open Go.GL Go.Maps Go.WideMaps
theorem spec_ParseIns_ok (n : Nat) (p0 : Str) (p1 : Int) (p2 : Int) {r : D.Ins × Bool} (h : spec_ParseIns n p0 p1 p2 = some r) {w : World} :
   Calls Tryd.prog 15 [Str.val p0, I p1, I p2].toArray w fun e w' => ∃ v, e = .returned v ∧ v = .tuple #[.agg #[I r.1.Op, I r.1.A, I r.1.B, I r.1.C], .bool r.2] ∧ Chg Non w w' := by
 unfold spec_ParseIns at h
 have hs := Sep.nil w Non
 have hM0 : Mem w Non (fun k => (False) ∧ k < w.heap.size) w Non (fun k => (False) ∧ k < w.heap.size) := Mem.start (fun _ h => h.elim) (fun _ h => h.2) (fun _ h => h.elim)
 refine enter (N := 109) Tryd.func15 rfl Tryd.ntmps15 rfl fun fr hF => ?_
 refine wp_seq (wp_text' ?_)
 refine q_alloc (z := .agg #[I 0, I 0, I 0, I 0]) hs hM0 [I 0, I 0, I 0, I 0] rfl rfl hF (by kernel_rfl) rfl fun b1 w1 S1 fr hs hp hF => ?_
 have hM0 := hM0.stp hp
 have hs : Sep [BX b1 25 [I 0, I 0, I 0, I 0]] w1 S1 := hs
 refine from_pure 1 [(0, Str.val p0), (1, I p1), (2, I p2), (6, B b1 0)] hF (by kernel_rfl) fun fr hF => ?_
 refine from_end rfl (then_normal ?_)
 refine wp_seq (wp_text' ?_)
 refine from_pure 1 [(0, Str.val p0), (1, I p1), (2, I p2), (6, B b1 0), (12, Str.val p0)] hF (by kernel_rfl) fun fr hF => ?_
 obtain ⟨x1, hx1, h⟩ := bindE h
 refine s_call [Str.val p0] Tryd.call44 rfl rfl hF rfl (spec_Words_ok n p0 hx1) fun v w2 fr hRes hF => ?_
 obtain ⟨a1, c1, rfl, _, hp, hs2⟩ := hRes
 obtain ⟨S2, hp, hs⟩ := hs.got hM0 hp hs2
 have hM0 := hM0.stp hp
 have hs : Sep [sl9 (L a1 x1 c1) x1, BX b1 25 [I 0, I 0, I 0, I 0]] w2 S2 := hs
 refine from_pure 1 [(0, Str.val p0), (1, I p1), (2, I p2), (6, B b1 0), (8, L a1 x1 c1)] hF (by kernel_rfl) fun fr hF => ?_
 refine from_end rfl (then_normal ?_)
 refine wp_seq ?_
 refine wp_seq (region_b [] [true, true, true, true, true, true, true, true]
     [.eq (L a1 x1 c1), .eq (I (len x1)), .eq (.bool ((len x1) == 0)), .eq (.bool ((len x1) == 0)), .eq (L a1 x1 c1), .eq (I (len x1)), .eq (.bool (decide ((len x1) > 3))), .eq (.bool (((len x1) == 0) || (decide ((len x1) > 3))))]
     [(0, Str.val p0), (1, I p1), (2, I p2), (6, B b1 0), (8, L a1 x1 c1), (21, .bool (((len x1) == 0) || (decide ((len x1) > 3))))] mix hF (by kernel_rfl) (by kernel_rfl) (by kernel_rfl) trivial (fun hG => trivial) (by kernel_rfl) fun fr w3 hF hE hc => then_normal ?_)
 have hs := hs.ext hc
 have hM0 := hM0.ext hc
 refine (wp_if hF (b := (((len x1) == 0) || (decide ((len x1) > 3)))) rfl (fun hb => ?_) (fun hb => ?_))
 · replace h := iteT hb h
   have hs : Sep [BX b1 25 [I 0, I 0, I 0, I 0]] w3 S2 := Sep.pick [1] hs (by decide) rfl
   refine wp_seq (wp_text' ?_)
   refine from_pure 1 [(6, B b1 0), (22, .agg #[I 0, I 0, I 0, I 0])] hF (by kernel_rfl) fun fr hF => ?_
   refine q_storeBoxS 0 hs hM0 rfl [I 0, I 0, I 0, I 0] rfl hF rfl rfl (by kernel_rfl) rfl rfl rfl fun w4 S3 hs hp hF => ?_
   have hM0 := hM0.stp hp
   have hs : Sep [BX b1 25 [I 0, I 0, I 0, I 0]] w4 S3 := hs
   refine from_pure 1 [(6, B b1 0), (7, .bool false)] hF (by kernel_rfl) fun fr hF => ?_
   refine from_end rfl (then_normal ?_)
   have hrets := fun {σ : List (Nat × Value)} (h : σ = [(6, B b1 0), (7, .bool false)]) => (by subst h; exact (Rets.cell rfl ty25 (hs.bx 0 rfl) rfl rfl (Rets.tmp rfl Rets.nil)) : Rets Tryd.prog σ w4 [.cell 6 25, .tmp 7] [.agg #[I 0, I 0, I 0, I 0], .bool false])
   obtain rfl := Option.some.inj h
   exact wp_ret (then_ret (retG (rs := [.cell 6 25, .tmp 7]) rfl (hF.sub [(6, B b1 0), (7, .bool false)] (by kernel_rfl)) (hrets rfl) rfl ⟨_, rfl, rfl, hM0.chg⟩))
 replace h := iteF hb h
 refine (wp_skip (then_normal ?_))
 refine wp_seq (wp_text' ?_)
 refine from_pure 1 [(0, Str.val p0), (1, I p1), (2, I p2), (6, B b1 0), (8, L a1 x1 c1), (23, .agg #[I 0, I 0, I 0, I 0])] hF (by kernel_rfl) fun fr hF => ?_
 refine q_alloc (z := .agg #[I 0, I 0, I 0, I 0]) hs hM0 [I 0, I 0, I 0, I 0] rfl rfl hF (by kernel_rfl) rfl fun b2 w5 S4 fr hs hp hF => ?_
 have hM0 := hM0.stp hp
 have hs : Sep [BX b2 25 [I 0, I 0, I 0, I 0], sl9 (L a1 x1 c1) x1, BX b1 25 [I 0, I 0, I 0, I 0]] w5 S4 := hs
 refine q_storeBoxS 0 hs hM0 rfl [I 0, I 0, I 0, I 0] rfl hF rfl rfl (by kernel_rfl) rfl rfl rfl fun w6 S5 hs hp hF => ?_
 have hM0 := hM0.stp hp
 have hs : Sep [BX b2 25 [I 0, I 0, I 0, I 0], sl9 (L a1 x1 c1) x1, BX b1 25 [I 0, I 0, I 0, I 0]] w6 S5 := hs
 refine from_end rfl (then_normal ?_)
 refine wp_seq ?_
 refine wp_seq (wp_pure [(0, Str.val p0), (1, I p1), (2, I p2), (6, B b1 0), (8, L a1 x1 c1), (9, B b2 0), (10, I 1)] hF (by kernel_rfl) fun fr hF => then_normal ?_)
 obtain ⟨rl1, hit1, h⟩ := bindE h
 have hk1 := h
 refine (GL.wp_cut (M := fun fr w' => ∃ S7 F2, FrS 109 [(0, Str.val p0), (1, I p1), (2, I p2), (6, B b1 0), (8, L a1 x1 c1), (9, B b2 0)] fr ∧ Mem w6 S5 (fun k => (False) ∧ k < w.heap.size) w' S7 F2 ∧ Sep [BX b2 25 [I rl1, I 0, I 0, I 0], sl9 (L a1 x1 c1) x1, BX b1 25 [I 0, I 0, I 0, I 0]] w' S7) (wp_block (wp_iter (Inv := fun s1 fr w' => ∃ S6 F1, FrS 109 [(0, Str.val p0), (1, I p1), (2, I p2), (6, B b1 0), (8, L a1 x1 c1), (9, B b2 0), (10, I s1.1)] fr ∧ Mem w6 S5 (fun k => (False) ∧ k < w.heap.size) w' S6 F1 ∧ Sep [BX b2 25 [I s1.2, I 0, I 0, I 0], sl9 (L a1 x1 c1) x1, BX b1 25 [I 0, I 0, I 0, I 0]] w' S6) hit1 ⟨S5, _, hF.sub _ (by kernel_rfl), (Mem.start hM0.bd hM0.bdF hM0.dj), hs⟩ fun s1 q1 fr w1i hI h hr1 => ?_)) fun fr w1o hM => ?_)
 · obtain ⟨S6, F1, hF, hM1, hs⟩ := hI
   refine wp_seq ?_
   refine wp_seq (wp_pure [(0, Str.val p0), (1, I p1), (2, I p2), (6, B b1 0), (8, L a1 x1 c1), (9, B b2 0), (10, I s1.1), (25, .bool (decide (s1.1 ≤ 14)))] hF (by kernel_rfl) fun fr hF => then_normal ?_)
   refine (wp_if hF (b := (decide (s1.1 ≤ 14))) rfl (fun hb => ?_) (fun hb => ?_))
   · replace h := iteT hb h
     refine (wp_skip (then_normal ?_))
     refine wp_seq (wp_block ?_)
     obtain ⟨x2, hx2, h⟩ := bindE h
     obtain ⟨x3, hx3, h⟩ := bindE h
     refine wp_seq (region_bm 11 [0, 1, 3, 7, 15, 31, 7, 71, 199, 511, 1023] [true, true, true, true, true, false, true, false, false, true, true]
         [.eq (I s1.1), .eq (.bool (s1.1 != 3)), .eq (.bool (s1.1 != 3)), .eq (I s1.1), .eq (.agg #[I s1.1, I 0, I 0, I 0]), .eq (Str.val x2), .eq (L a1 x1 c1), .is fun v w => ElemP w (fun k => k < w1i.heap.size) v (x3 : Str), .eq (Str.val x3), .eq (.bool (Str.eqb x2 x3)), .eq (.bool ((s1.1 != 3) && (Str.eqb x2 x3)))]
         [(0, Str.val p0), (1, I p1), (2, I p2), (6, B b1 0), (8, L a1 x1 c1), (9, B b2 0), (10, I s1.1), (38, .bool ((s1.1 != 3) && (Str.eqb x2 x3)))] mix hF (by kernel_rfl) (by kernel_rfl) (by kernel_rfl) (by kernel_rfl) ⟨Pd.monoO_eq, (Pd.monoO_is mono_elem), Pd.monoO_eq, trivial⟩ (fun ow hG => ⟨np_to ow (np_call [.agg #[I s1.1, I 0, I 0, I 0]] hG hF Tryd.call27 rfl rfl (fun w hC hg => (spec_l05Word_ok (D.Ins.mk s1.1 0 0 0) (iteT hg.2 hx2)).mono fun e w' ⟨v, he, hv, hc⟩ => ⟨v, he, hc, hv⟩)), np_to ow (np_index hG hF ty9 Tryd.underlying55 rfl rfl (RV.sub (hs.rv 1 rfl) fun k hk _ => hk) rfl rfl (fun hg => ⟨get?_nn (iteT hg.2 hx3), get?_at (iteT hg.2 hx3)⟩)), np_to ow (np_loadF (z := x3) (i := 7) hG hF ty9 rfl rfl rfl rfl rfl rfl rfl), trivial⟩) (by kernel_rfl) fun ow fr w7 hF hE hc => ?_)
     have hs := hs.ext hc
     have hM1 := hM1.ext hc
     refine from_end rfl (then_normal ?_)
     refine (wp_if hF (b := ((s1.1 != 3) && (Str.eqb x2 x3))) rfl (fun hb => ?_) (fun hb => ?_))
     · replace h := iteT hb h
       refine (wp_text' ?_)
       refine from_pure 2 [(0, Str.val p0), (1, I p1), (2, I p2), (6, B b1 0), (8, L a1 x1 c1), (9, B b2 0), (10, I s1.1), (39, I s1.1), (40, B b2 0)] hF (by kernel_rfl) fun fr hF => ?_
       refine q_storeBox 0 hs hM1 rfl [I s1.1, I 0, I 0, I 0] rfl hF rfl rfl (by kernel_rfl) rfl rfl rfl fun w8 S8 hs hp hF => ?_
       have hM1 := hM1.stp hp
       have hs : Sep [BX b2 25 [I s1.1, I 0, I 0, I 0], sl9 (L a1 x1 c1) x1, BX b1 25 [I 0, I 0, I 0, I 0]] w8 S8 := hs
       refine from_end rfl ?_
       refine blk_normal (then_normal ?_)
       refine (wp_pure [(0, Str.val p0), (1, I p1), (2, I p2), (6, B b1 0), (8, L a1 x1 c1), (9, B b2 0), (10, I (w64 (s1.1 + 1)))] hF (by kernel_rfl) fun fr hF => then_normal ?_)
       exact ⟨_, (Option.some.inj h).symm, S8, _, hF.sub _ (by kernel_rfl), hM1, hs⟩
     replace h := iteF hb h
     refine (wp_skip ?_)
     refine blk_normal (then_normal ?_)
     refine (wp_pure [(0, Str.val p0), (1, I p1), (2, I p2), (6, B b1 0), (8, L a1 x1 c1), (9, B b2 0), (10, I (w64 (s1.1 + 1)))] hF (by kernel_rfl) fun fr hF => then_normal ?_)
     exact ⟨_, (Option.some.inj h).symm, S6, _, hF.sub _ (by kernel_rfl), hM1, hs⟩
   replace h := iteF hb h
   refine (wp_exit (then_exit (then_exit (blk_exit_eq ?_))))
   obtain rfl := hr1 _ (Option.some.inj h).symm
   exact then_normal ⟨S6, _, hF.sub _ (by kernel_rfl), hM1, hs⟩
 · obtain ⟨S7, F2, hF, hMx, hs⟩ := hM
   have hM0 := hM0.trans hMx
   refine wp_seq ?_
   obtain ⟨x4, hx4, h⟩ := bindE h
   obtain ⟨x5, hx5, h⟩ := bindE h
   refine wp_seq (region_b [] [true, false, true, true, true, false, false, false, true, true]
       [.eq (B b2 0), .eq (I rl1), .eq (.bool (rl1 == 0)), .eq (.bool (rl1 == 0)), .eq (L a1 x1 c1), .is fun v w => ElemP w (fun k => k < w1o.heap.size) v (x4 : Str), .eq (Str.val x4), .eq (I x5), .eq (.bool (decide (x5 ≥ 3))), .eq (.bool ((rl1 == 0) && (decide (x5 ≥ 3))))]
       [(0, Str.val p0), (1, I p1), (2, I p2), (6, B b1 0), (8, L a1 x1 c1), (9, B b2 0), (50, .bool ((rl1 == 0) && (decide (x5 ≥ 3))))] mix hF (by kernel_rfl) (by kernel_rfl) (by kernel_rfl) ⟨Pd.mono_eq, mono_elem, Pd.mono_eq, Pd.mono_eq, trivial⟩ (fun hG => ⟨np_loadBox hG hF ty3 rfl rfl (hs.bx 0 rfl) rfl rfl rfl, np_index hG hF ty9 Tryd.underlying55 rfl rfl (RV.sub (hs.rv 1 rfl) fun k hk _ => hk) rfl rfl (fun hg => ⟨get?_nn (iteT hg.2 hx4), get?_at (iteT hg.2 hx4)⟩), np_loadF (z := x4) (i := 5) hG hF ty9 rfl rfl rfl rfl rfl rfl rfl, np_call [Str.val x4] hG hF Tryd.call45 rfl rfl (fun w hC hg => (spec_OpOf_ok n x4 (iteT hg.2 hx5)).mono fun e w' ⟨v, he, hv, hc⟩ => ⟨v, he, hc, hv⟩), trivial⟩) (by kernel_rfl) fun fr w9 hF hE hc => then_normal ?_)
   have hs := hs.ext hc
   have hM0 := hM0.ext hc
   refine (wp_if hF (b := ((rl1 == 0) && (decide (x5 ≥ 3)))) rfl (fun hb => ?_) (fun hb => ?_))
   · replace h := iteT hb h
     refine wp_seq (wp_text' ?_)
     refine from_pure 1 [(0, Str.val p0), (1, I p1), (2, I p2), (6, B b1 0), (8, L a1 x1 c1), (9, B b2 0), (51, B b2 0)] hF (by kernel_rfl) fun fr hF => ?_
     refine q_storeBox 0 hs hM0 rfl [I 3, I 0, I 0, I 0] rfl hF rfl rfl (by kernel_rfl) rfl rfl rfl fun w10 S9 hs hp hF => ?_
     have hM0 := hM0.stp hp
     have hs : Sep [BX b2 25 [I 3, I 0, I 0, I 0], sl9 (L a1 x1 c1) x1, BX b1 25 [I 0, I 0, I 0, I 0]] w10 S9 := hs
     refine from_end rfl (then_normal ?_)
     refine (wp_text' ?_)
     refine from_pure 1 [(0, Str.val p0), (1, I p1), (2, I p2), (6, B b1 0), (8, L a1 x1 c1), (9, B b2 0), (52, L a1 x1 c1)] hF (by kernel_rfl) fun fr hF => ?_
     obtain ⟨x6, hx6, h⟩ := bindE h
     refine s_elemF (z := x6) (Str.val x6) ty9 Tryd.underlying55 rfl rfl rfl rfl rfl hF rfl (hs.rv 1 rfl) rfl (get?_nn hx6) (get?_at hx6) rfl fun p fr hF => ?_
     obtain ⟨x7, hx7, h⟩ := bindE h
     refine s_call [Str.val x6] Tryd.call45 rfl rfl hF rfl (spec_OpOf_ok n x6 hx7) fun v w11 fr hRes hF => ?_
     obtain ⟨rfl, hc⟩ := hRes
     have hs := hs.ext hc
     have hM0 := hM0.ext hc
     refine from_pure 1 [(0, Str.val p0), (1, I p1), (2, I p2), (6, B b1 0), (8, L a1 x1 c1), (9, B b2 0), (55, I x7), (56, B b2 3)] hF (by kernel_rfl) fun fr hF => ?_
     refine q_storeBox 0 hs hM0 rfl [I 3, I 0, I 0, I x7] rfl hF rfl rfl (by kernel_rfl) rfl rfl rfl fun w12 S10 hs hp hF => ?_
     have hM0 := hM0.stp hp
     have hs : Sep [BX b2 25 [I 3, I 0, I 0, I x7], sl9 (L a1 x1 c1) x1, BX b1 25 [I 0, I 0, I 0, I 0]] w12 S10 := hs
     refine from_end rfl (then_normal ?_)
     refine wp_seq (wp_pure [(0, Str.val p0), (1, I p1), (2, I p2), (6, B b1 0), (8, L a1 x1 c1), (9, B b2 0), (11, I 0)] hF (by kernel_rfl) fun fr hF => then_normal ?_)
     refine wp_seq ?_
     refine wp_seq (wp_pure [(0, Str.val p0), (1, I p1), (2, I p2), (6, B b1 0), (8, L a1 x1 c1), (9, B b2 0), (11, I 0), (59, .bool (decide ((len x1) > 1)))] hF (by kernel_rfl) fun fr hF => then_normal ?_)
     refine (wp_if hF (b := (decide ((len x1) > 1))) rfl (fun hb => ?_) (fun hb => ?_))
     · replace h := iteT hb h
       refine wp_seq (wp_text' ?_)
       refine from_pure 4 [(0, Str.val p0), (1, I p1), (2, I p2), (6, B b1 0), (8, L a1 x1 c1), (9, B b2 0), (60, L a1 x1 c1), (63, I (w64 ((len x1) - 1)))] hF (by kernel_rfl) fun fr hF => ?_
       obtain ⟨x8, hx8, h⟩ := bindE h
       refine s_elemF (z := x8) (Str.val x8) ty9 Tryd.underlying55 rfl rfl rfl rfl rfl hF rfl (hs.rv 1 rfl) rfl (get?_nn hx8) (get?_at hx8) rfl fun p fr hF => ?_
       obtain ⟨x9, hx9, h⟩ := bindE h
       refine s_call [Str.val x8] Tryd.call46 rfl rfl hF rfl (spec_l05Number_ok n x8 hx9) fun v w13 fr hRes hF => ?_
       obtain ⟨rfl, hc⟩ := hRes
       have hs := hs.ext hc
       have hM0 := hM0.ext hc
       refine from_pure 1 [(0, Str.val p0), (1, I p1), (2, I p2), (6, B b1 0), (8, L a1 x1 c1), (9, B b2 0), (11, I x9)] hF (by kernel_rfl) fun fr hF => ?_
       refine from_end rfl (then_normal ?_)
       refine (wp_text' ?_)
       refine from_pure 1 [(0, Str.val p0), (1, I p1), (2, I p2), (6, B b1 0), (8, L a1 x1 c1), (9, B b2 0), (11, I x9), (67, L a1 x1 c1)] hF (by kernel_rfl) fun fr hF => ?_
       obtain ⟨x10, hx10, h⟩ := bindE h
       refine s_elemF (z := x10) (Str.val x10) ty9 Tryd.underlying55 rfl rfl rfl rfl rfl hF rfl (hs.rv 1 rfl) rfl (get?_nn hx10) (get?_at hx10) rfl fun p fr hF => ?_
       obtain ⟨x11, hx11, h⟩ := bindE h
       refine s_call [Str.val x10] Tryd.call46 rfl rfl hF rfl (spec_l05Number_ok n x10 hx11) fun v w14 fr hRes hF => ?_
       obtain ⟨rfl, hc⟩ := hRes
       have hs := hs.ext hc
       have hM0 := hM0.ext hc
       refine from_pure 1 [(0, Str.val p0), (1, I p1), (2, I p2), (6, B b1 0), (8, L a1 x1 c1), (9, B b2 0), (11, I x9), (70, I x11), (71, B b2 1)] hF (by kernel_rfl) fun fr hF => ?_
       refine q_storeBox 0 hs hM0 rfl [I 3, I x11, I 0, I x7] rfl hF rfl rfl (by kernel_rfl) rfl rfl rfl fun w15 S11 hs hp hF => ?_
       have hM0 := hM0.stp hp
       have hs : Sep [BX b2 25 [I 3, I x11, I 0, I x7], sl9 (L a1 x1 c1) x1, BX b1 25 [I 0, I 0, I 0, I 0]] w15 S11 := hs
       refine from_end rfl (then_normal ?_)
       refine wp_seq ?_
       refine wp_seq (region_b [] [true, true, true, true, true, false, true, true, true, true, false, true, true]
           [.eq (L a1 x1 c1), .eq (I (len x1)), .eq (.bool (decide ((len x1) > 2))), .eq (.bool (decide ((len x1) > 2))), .eq (B b2 0), .eq (I 3), .eq (.bool (3 == 9)), .eq (.bool ((decide ((len x1) > 2)) || (3 == 9))), .eq (.bool ((decide ((len x1) > 2)) || (3 == 9))), .eq (B b2 0), .eq (I 3), .eq (.bool (3 == 11)), .eq (.bool (((decide ((len x1) > 2)) || (3 == 9)) || (3 == 11)))]
           [(0, Str.val p0), (1, I p1), (2, I p2), (6, B b1 0), (9, B b2 0), (11, I x9), (84, .bool (((decide ((len x1) > 2)) || (3 == 9)) || (3 == 11)))] mix hF (by kernel_rfl) (by kernel_rfl) (by kernel_rfl) ⟨Pd.mono_eq, Pd.mono_eq, trivial⟩ (fun hG => ⟨np_loadBox hG hF ty3 rfl rfl (hs.bx 0 rfl) rfl rfl rfl, np_loadBox hG hF ty3 rfl rfl (hs.bx 0 rfl) rfl rfl rfl, trivial⟩) (by kernel_rfl) fun fr w16 hF hE hc => then_normal ?_)
       have hs := hs.ext hc
       have hM0 := hM0.ext hc
       have hs : Sep [BX b2 25 [I 3, I x11, I 0, I x7], BX b1 25 [I 0, I 0, I 0, I 0]] w16 S11 := Sep.pick [0, 2] hs (by decide) rfl
       refine (wp_if hF (b := (((decide ((len x1) > 2)) || (3 == 9)) || (3 == 11))) rfl (fun hb => ?_) (fun hb => ?_))
       · replace h := iteT hb h
         refine (wp_text' ?_)
         refine from_pure 2 [(0, Str.val p0), (1, I p1), (2, I p2), (6, B b1 0), (9, B b2 0), (85, I x9), (86, B b2 2)] hF (by kernel_rfl) fun fr hF => ?_
         refine q_storeBox 0 hs hM0 rfl [I 3, I x11, I x9, I x7] rfl hF rfl rfl (by kernel_rfl) rfl rfl rfl fun w17 S12 hs hp hF => ?_
         have hM0 := hM0.stp hp
         have hs : Sep [BX b2 25 [I 3, I x11, I x9, I x7], BX b1 25 [I 0, I 0, I 0, I 0]] w17 S12 := hs
         refine from_end rfl (then_normal ?_)
         refine wp_seq ?_
         refine wp_seq (region_b [] [true, false, true, true, true, false, true, true]
             [.eq (B b2 0), .eq (I 3), .eq (.bool (3 == 9)), .eq (.bool (3 == 9)), .eq (B b2 0), .eq (I 3), .eq (.bool (3 == 11)), .eq (.bool ((3 == 9) || (3 == 11)))]
             [(0, Str.val p0), (1, I p1), (2, I p2), (6, B b1 0), (9, B b2 0), (94, .bool ((3 == 9) || (3 == 11)))] mix hF (by kernel_rfl) (by kernel_rfl) (by kernel_rfl) ⟨Pd.mono_eq, Pd.mono_eq, trivial⟩ (fun hG => ⟨np_loadBox hG hF ty3 rfl rfl (hs.bx 0 rfl) rfl rfl rfl, np_loadBox hG hF ty3 rfl rfl (hs.bx 0 rfl) rfl rfl rfl, trivial⟩) (by kernel_rfl) fun fr w18 hF hE hc => then_normal ?_)
         have hs := hs.ext hc
         have hM0 := hM0.ext hc
         refine (wp_if hF (b := ((3 == 9) || (3 == 11))) rfl (fun hb => ?_) (fun hb => ?_))
         · replace h := iteT hb h
           refine (wp_text' ?_)
           refine from_pure 1 [(0, Str.val p0), (1, I p1), (2, I p2), (6, B b1 0), (9, B b2 0), (95, B b2 1)] hF (by kernel_rfl) fun fr hF => ?_
           refine q_storeBox 0 hs hM0 rfl [I 3, I 0, I x9, I x7] rfl hF rfl rfl (by kernel_rfl) rfl rfl rfl fun w19 S13 hs hp hF => ?_
           have hM0 := hM0.stp hp
           have hs : Sep [BX b2 25 [I 3, I 0, I x9, I x7], BX b1 25 [I 0, I 0, I 0, I 0]] w19 S13 := hs
           refine from_end rfl (then_normal ?_)
           refine wp_seq ?_
           obtain ⟨x12, hx12, h⟩ := bindE h
           refine wp_seq (region_b [] [true, false, true, true, false, true, true, false, true, true, true]
               [.eq (B b2 0), .eq (I 3), .eq (.bool (3 == 0)), .eq (.bool (3 == 0)), .eq (.agg #[I 3, I 0, I x9, I x7]), .eq (I p1), .eq (I p2), .eq (Str.val x12), .eq (Str.val p0), .eq (.bool (!(Str.eqb x12 p0))), .eq (.bool ((3 == 0) || (!(Str.eqb x12 p0))))]
               [(6, B b1 0), (9, B b2 0), (106, .bool ((3 == 0) || (!(Str.eqb x12 p0))))] mix hF (by kernel_rfl) (by kernel_rfl) (by kernel_rfl) ⟨Pd.mono_eq, Pd.mono_eq, Pd.mono_eq, trivial⟩ (fun hG => ⟨np_loadBox hG hF ty3 rfl rfl (hs.bx 0 rfl) rfl rfl rfl, np_loadBoxS hG hF ty25 rfl rfl (hs.bx 0 rfl) rfl rfl rfl rfl, np_call [.agg #[I 3, I 0, I x9, I x7], I p1, I p2] hG hF Tryd.call7 rfl rfl (fun w hC hg => (spec_FormatIns_ok n (D.Ins.mk 3 0 x9 x7) p1 p2 (iteF hg.2 hx12)).mono fun e w' ⟨v, he, hv, hc⟩ => ⟨v, he, hc, hv⟩), trivial⟩) (by kernel_rfl) fun fr w20 hF hE hc => then_normal ?_)
           have hs := hs.ext hc
           have hM0 := hM0.ext hc
           refine (wp_if hF (b := ((3 == 0) || (!(Str.eqb x12 p0)))) rfl (fun hb => ?_) (fun hb => ?_))
           · replace h := iteT hb h
             have hs : Sep [BX b1 25 [I 0, I 0, I 0, I 0]] w20 S13 := Sep.pick [1] hs (by decide) rfl
             refine wp_seq (wp_text' ?_)
             refine from_pure 1 [(6, B b1 0), (107, .agg #[I 0, I 0, I 0, I 0])] hF (by kernel_rfl) fun fr hF => ?_
             refine q_storeBoxS 0 hs hM0 rfl [I 0, I 0, I 0, I 0] rfl hF rfl rfl (by kernel_rfl) rfl rfl rfl fun w21 S14 hs hp hF => ?_
             have hM0 := hM0.stp hp
             have hs : Sep [BX b1 25 [I 0, I 0, I 0, I 0]] w21 S14 := hs
             refine from_pure 1 [(6, B b1 0), (7, .bool false)] hF (by kernel_rfl) fun fr hF => ?_
             refine from_end rfl (then_normal ?_)
             have hrets := fun {σ : List (Nat × Value)} (h : σ = [(6, B b1 0), (7, .bool false)]) => (by subst h; exact (Rets.cell rfl ty25 (hs.bx 0 rfl) rfl rfl (Rets.tmp rfl Rets.nil)) : Rets Tryd.prog σ w21 [.cell 6 25, .tmp 7] [.agg #[I 0, I 0, I 0, I 0], .bool false])
             obtain rfl := Option.some.inj h
             exact wp_ret (then_ret (retG (rs := [.cell 6 25, .tmp 7]) rfl (hF.sub [(6, B b1 0), (7, .bool false)] (by kernel_rfl)) (hrets rfl) rfl ⟨_, rfl, rfl, hM0.chg⟩))
           replace h := iteF hb h
           refine (wp_skip (then_normal ?_))
           refine wp_seq (wp_text' ?_)
           refine s_loadBoxS ty25 rfl rfl hF rfl (hs.bx 0 rfl) rfl rfl fun fr hF => ?_
           have hs : Sep [BX b1 25 [I 0, I 0, I 0, I 0]] w20 S13 := Sep.pick [1] hs (by decide) rfl
           refine q_storeBoxS 0 hs hM0 rfl [I 3, I 0, I x9, I x7] rfl hF rfl rfl (by kernel_rfl) rfl rfl rfl fun w22 S15 hs hp hF => ?_
           have hM0 := hM0.stp hp
           have hs : Sep [BX b1 25 [I 3, I 0, I x9, I x7]] w22 S15 := hs
           refine from_pure 1 [(6, B b1 0), (7, .bool true)] hF (by kernel_rfl) fun fr hF => ?_
           refine from_end rfl (then_normal ?_)
           have hrets := fun {σ : List (Nat × Value)} (h : σ = [(6, B b1 0), (7, .bool true)]) => (by subst h; exact (Rets.cell rfl ty25 (hs.bx 0 rfl) rfl rfl (Rets.tmp rfl Rets.nil)) : Rets Tryd.prog σ w22 [.cell 6 25, .tmp 7] [.agg #[I 3, I 0, I x9, I x7], .bool true])
           obtain rfl := Option.some.inj h
           exact wp_ret (retG (rs := [.cell 6 25, .tmp 7]) rfl (hF.sub [(6, B b1 0), (7, .bool true)] (by kernel_rfl)) (hrets rfl) rfl ⟨_, rfl, rfl, hM0.chg⟩)
         replace h := iteF hb h
         refine (wp_skip (then_normal ?_))
         refine wp_seq ?_
         obtain ⟨x13, hx13, h⟩ := bindE h
         refine wp_seq (region_b [] [true, false, true, true, false, true, true, false, true, true, true]
             [.eq (B b2 0), .eq (I 3), .eq (.bool (3 == 0)), .eq (.bool (3 == 0)), .eq (.agg #[I 3, I x11, I x9, I x7]), .eq (I p1), .eq (I p2), .eq (Str.val x13), .eq (Str.val p0), .eq (.bool (!(Str.eqb x13 p0))), .eq (.bool ((3 == 0) || (!(Str.eqb x13 p0))))]
             [(6, B b1 0), (9, B b2 0), (106, .bool ((3 == 0) || (!(Str.eqb x13 p0))))] mix hF (by kernel_rfl) (by kernel_rfl) (by kernel_rfl) ⟨Pd.mono_eq, Pd.mono_eq, Pd.mono_eq, trivial⟩ (fun hG => ⟨np_loadBox hG hF ty3 rfl rfl (hs.bx 0 rfl) rfl rfl rfl, np_loadBoxS hG hF ty25 rfl rfl (hs.bx 0 rfl) rfl rfl rfl rfl, np_call [.agg #[I 3, I x11, I x9, I x7], I p1, I p2] hG hF Tryd.call7 rfl rfl (fun w hC hg => (spec_FormatIns_ok n (D.Ins.mk 3 x11 x9 x7) p1 p2 (iteF hg.2 hx13)).mono fun e w' ⟨v, he, hv, hc⟩ => ⟨v, he, hc, hv⟩), trivial⟩) (by kernel_rfl) fun fr w23 hF hE hc => then_normal ?_)
         have hs := hs.ext hc
         have hM0 := hM0.ext hc
         refine (wp_if hF (b := ((3 == 0) || (!(Str.eqb x13 p0)))) rfl (fun hb => ?_) (fun hb => ?_))
         · replace h := iteT hb h
           have hs : Sep [BX b1 25 [I 0, I 0, I 0, I 0]] w23 S12 := Sep.pick [1] hs (by decide) rfl
           refine wp_seq (wp_text' ?_)
           refine from_pure 1 [(6, B b1 0), (107, .agg #[I 0, I 0, I 0, I 0])] hF (by kernel_rfl) fun fr hF => ?_
           refine q_storeBoxS 0 hs hM0 rfl [I 0, I 0, I 0, I 0] rfl hF rfl rfl (by kernel_rfl) rfl rfl rfl fun w24 S16 hs hp hF => ?_
           have hM0 := hM0.stp hp
           have hs : Sep [BX b1 25 [I 0, I 0, I 0, I 0]] w24 S16 := hs
           refine from_pure 1 [(6, B b1 0), (7, .bool false)] hF (by kernel_rfl) fun fr hF => ?_
           refine from_end rfl (then_normal ?_)
           have hrets := fun {σ : List (Nat × Value)} (h : σ = [(6, B b1 0), (7, .bool false)]) => (by subst h; exact (Rets.cell rfl ty25 (hs.bx 0 rfl) rfl rfl (Rets.tmp rfl Rets.nil)) : Rets Tryd.prog σ w24 [.cell 6 25, .tmp 7] [.agg #[I 0, I 0, I 0, I 0], .bool false])
           obtain rfl := Option.some.inj h
           exact wp_ret (then_ret (retG (rs := [.cell 6 25, .tmp 7]) rfl (hF.sub [(6, B b1 0), (7, .bool false)] (by kernel_rfl)) (hrets rfl) rfl ⟨_, rfl, rfl, hM0.chg⟩))
         replace h := iteF hb h
         refine (wp_skip (then_normal ?_))
         refine wp_seq (wp_text' ?_)
         refine s_loadBoxS ty25 rfl rfl hF rfl (hs.bx 0 rfl) rfl rfl fun fr hF => ?_
         have hs : Sep [BX b1 25 [I 0, I 0, I 0, I 0]] w23 S12 := Sep.pick [1] hs (by decide) rfl
         refine q_storeBoxS 0 hs hM0 rfl [I 3, I x11, I x9, I x7] rfl hF rfl rfl (by kernel_rfl) rfl rfl rfl fun w25 S17 hs hp hF => ?_
         have hM0 := hM0.stp hp
         have hs : Sep [BX b1 25 [I 3, I x11, I x9, I x7]] w25 S17 := hs
         refine from_pure 1 [(6, B b1 0), (7, .bool true)] hF (by kernel_rfl) fun fr hF => ?_
         refine from_end rfl (then_normal ?_)
         have hrets := fun {σ : List (Nat × Value)} (h : σ = [(6, B b1 0), (7, .bool true)]) => (by subst h; exact (Rets.cell rfl ty25 (hs.bx 0 rfl) rfl rfl (Rets.tmp rfl Rets.nil)) : Rets Tryd.prog σ w25 [.cell 6 25, .tmp 7] [.agg #[I 3, I x11, I x9, I x7], .bool true])
         obtain rfl := Option.some.inj h
         exact wp_ret (retG (rs := [.cell 6 25, .tmp 7]) rfl (hF.sub [(6, B b1 0), (7, .bool true)] (by kernel_rfl)) (hrets rfl) rfl ⟨_, rfl, rfl, hM0.chg⟩)
       replace h := iteF hb h
       refine (wp_skip (then_normal ?_))
       refine wp_seq ?_
       refine wp_seq (region_b [] [true, false, true, true, true, false, true, true]
           [.eq (B b2 0), .eq (I 3), .eq (.bool (3 == 9)), .eq (.bool (3 == 9)), .eq (B b2 0), .eq (I 3), .eq (.bool (3 == 11)), .eq (.bool ((3 == 9) || (3 == 11)))]
           [(0, Str.val p0), (1, I p1), (2, I p2), (6, B b1 0), (9, B b2 0), (94, .bool ((3 == 9) || (3 == 11)))] mix hF (by kernel_rfl) (by kernel_rfl) (by kernel_rfl) ⟨Pd.mono_eq, Pd.mono_eq, trivial⟩ (fun hG => ⟨np_loadBox hG hF ty3 rfl rfl (hs.bx 0 rfl) rfl rfl rfl, np_loadBox hG hF ty3 rfl rfl (hs.bx 0 rfl) rfl rfl rfl, trivial⟩) (by kernel_rfl) fun fr w26 hF hE hc => then_normal ?_)
       have hs := hs.ext hc
       have hM0 := hM0.ext hc
       refine (wp_if hF (b := ((3 == 9) || (3 == 11))) rfl (fun hb => ?_) (fun hb => ?_))
       · replace h := iteT hb h
         refine (wp_text' ?_)
         refine from_pure 1 [(0, Str.val p0), (1, I p1), (2, I p2), (6, B b1 0), (9, B b2 0), (95, B b2 1)] hF (by kernel_rfl) fun fr hF => ?_
         refine q_storeBox 0 hs hM0 rfl [I 3, I 0, I 0, I x7] rfl hF rfl rfl (by kernel_rfl) rfl rfl rfl fun w27 S18 hs hp hF => ?_
         have hM0 := hM0.stp hp
         have hs : Sep [BX b2 25 [I 3, I 0, I 0, I x7], BX b1 25 [I 0, I 0, I 0, I 0]] w27 S18 := hs
         refine from_end rfl (then_normal ?_)
         refine wp_seq ?_
         obtain ⟨x14, hx14, h⟩ := bindE h
         refine wp_seq (region_b [] [true, false, true, true, false, true, true, false, true, true, true]
             [.eq (B b2 0), .eq (I 3), .eq (.bool (3 == 0)), .eq (.bool (3 == 0)), .eq (.agg #[I 3, I 0, I 0, I x7]), .eq (I p1), .eq (I p2), .eq (Str.val x14), .eq (Str.val p0), .eq (.bool (!(Str.eqb x14 p0))), .eq (.bool ((3 == 0) || (!(Str.eqb x14 p0))))]
             [(6, B b1 0), (9, B b2 0), (106, .bool ((3 == 0) || (!(Str.eqb x14 p0))))] mix hF (by kernel_rfl) (by kernel_rfl) (by kernel_rfl) ⟨Pd.mono_eq, Pd.mono_eq, Pd.mono_eq, trivial⟩ (fun hG => ⟨np_loadBox hG hF ty3 rfl rfl (hs.bx 0 rfl) rfl rfl rfl, np_loadBoxS hG hF ty25 rfl rfl (hs.bx 0 rfl) rfl rfl rfl rfl, np_call [.agg #[I 3, I 0, I 0, I x7], I p1, I p2] hG hF Tryd.call7 rfl rfl (fun w hC hg => (spec_FormatIns_ok n (D.Ins.mk 3 0 0 x7) p1 p2 (iteF hg.2 hx14)).mono fun e w' ⟨v, he, hv, hc⟩ => ⟨v, he, hc, hv⟩), trivial⟩) (by kernel_rfl) fun fr w28 hF hE hc => then_normal ?_)
         have hs := hs.ext hc
         have hM0 := hM0.ext hc
         refine (wp_if hF (b := ((3 == 0) || (!(Str.eqb x14 p0)))) rfl (fun hb => ?_) (fun hb => ?_))
         · replace h := iteT hb h
           have hs : Sep [BX b1 25 [I 0, I 0, I 0, I 0]] w28 S18 := Sep.pick [1] hs (by decide) rfl
           refine wp_seq (wp_text' ?_)
           refine from_pure 1 [(6, B b1 0), (107, .agg #[I 0, I 0, I 0, I 0])] hF (by kernel_rfl) fun fr hF => ?_
           refine q_storeBoxS 0 hs hM0 rfl [I 0, I 0, I 0, I 0] rfl hF rfl rfl (by kernel_rfl) rfl rfl rfl fun w29 S19 hs hp hF => ?_
           have hM0 := hM0.stp hp
           have hs : Sep [BX b1 25 [I 0, I 0, I 0, I 0]] w29 S19 := hs
           refine from_pure 1 [(6, B b1 0), (7, .bool false)] hF (by kernel_rfl) fun fr hF => ?_
           refine from_end rfl (then_normal ?_)
           have hrets := fun {σ : List (Nat × Value)} (h : σ = [(6, B b1 0), (7, .bool false)]) => (by subst h; exact (Rets.cell rfl ty25 (hs.bx 0 rfl) rfl rfl (Rets.tmp rfl Rets.nil)) : Rets Tryd.prog σ w29 [.cell 6 25, .tmp 7] [.agg #[I 0, I 0, I 0, I 0], .bool false])
           obtain rfl := Option.some.inj h
           exact wp_ret (then_ret (retG (rs := [.cell 6 25, .tmp 7]) rfl (hF.sub [(6, B b1 0), (7, .bool false)] (by kernel_rfl)) (hrets rfl) rfl ⟨_, rfl, rfl, hM0.chg⟩))
         replace h := iteF hb h
         refine (wp_skip (then_normal ?_))
         refine wp_seq (wp_text' ?_)
         refine s_loadBoxS ty25 rfl rfl hF rfl (hs.bx 0 rfl) rfl rfl fun fr hF => ?_
         have hs : Sep [BX b1 25 [I 0, I 0, I 0, I 0]] w28 S18 := Sep.pick [1] hs (by decide) rfl
         refine q_storeBoxS 0 hs hM0 rfl [I 3, I 0, I 0, I x7] rfl hF rfl rfl (by kernel_rfl) rfl rfl rfl fun w30 S20 hs hp hF => ?_
         have hM0 := hM0.stp hp
         have hs : Sep [BX b1 25 [I 3, I 0, I 0, I x7]] w30 S20 := hs
         refine from_pure 1 [(6, B b1 0), (7, .bool true)] hF (by kernel_rfl) fun fr hF => ?_
         refine from_end rfl (then_normal ?_)
         have hrets := fun {σ : List (Nat × Value)} (h : σ = [(6, B b1 0), (7, .bool true)]) => (by subst h; exact (Rets.cell rfl ty25 (hs.bx 0 rfl) rfl rfl (Rets.tmp rfl Rets.nil)) : Rets Tryd.prog σ w30 [.cell 6 25, .tmp 7] [.agg #[I 3, I 0, I 0, I x7], .bool true])
         obtain rfl := Option.some.inj h
         exact wp_ret (retG (rs := [.cell 6 25, .tmp 7]) rfl (hF.sub [(6, B b1 0), (7, .bool true)] (by kernel_rfl)) (hrets rfl) rfl ⟨_, rfl, rfl, hM0.chg⟩)
       replace h := iteF hb h
       refine (wp_skip (then_normal ?_))
       refine wp_seq ?_
       obtain ⟨x15, hx15, h⟩ := bindE h
       refine wp_seq (region_b [] [true, false, true, true, false, true, true, false, true, true, true]
           [.eq (B b2 0), .eq (I 3), .eq (.bool (3 == 0)), .eq (.bool (3 == 0)), .eq (.agg #[I 3, I x11, I 0, I x7]), .eq (I p1), .eq (I p2), .eq (Str.val x15), .eq (Str.val p0), .eq (.bool (!(Str.eqb x15 p0))), .eq (.bool ((3 == 0) || (!(Str.eqb x15 p0))))]
           [(6, B b1 0), (9, B b2 0), (106, .bool ((3 == 0) || (!(Str.eqb x15 p0))))] mix hF (by kernel_rfl) (by kernel_rfl) (by kernel_rfl) ⟨Pd.mono_eq, Pd.mono_eq, Pd.mono_eq, trivial⟩ (fun hG => ⟨np_loadBox hG hF ty3 rfl rfl (hs.bx 0 rfl) rfl rfl rfl, np_loadBoxS hG hF ty25 rfl rfl (hs.bx 0 rfl) rfl rfl rfl rfl, np_call [.agg #[I 3, I x11, I 0, I x7], I p1, I p2] hG hF Tryd.call7 rfl rfl (fun w hC hg => (spec_FormatIns_ok n (D.Ins.mk 3 x11 0 x7) p1 p2 (iteF hg.2 hx15)).mono fun e w' ⟨v, he, hv, hc⟩ => ⟨v, he, hc, hv⟩), trivial⟩) (by kernel_rfl) fun fr w31 hF hE hc => then_normal ?_)
       have hs := hs.ext hc
       have hM0 := hM0.ext hc
       refine (wp_if hF (b := ((3 == 0) || (!(Str.eqb x15 p0)))) rfl (fun hb => ?_) (fun hb => ?_))
       · replace h := iteT hb h
         have hs : Sep [BX b1 25 [I 0, I 0, I 0, I 0]] w31 S11 := Sep.pick [1] hs (by decide) rfl
         refine wp_seq (wp_text' ?_)
         refine from_pure 1 [(6, B b1 0), (107, .agg #[I 0, I 0, I 0, I 0])] hF (by kernel_rfl) fun fr hF => ?_
         refine q_storeBoxS 0 hs hM0 rfl [I 0, I 0, I 0, I 0] rfl hF rfl rfl (by kernel_rfl) rfl rfl rfl fun w32 S21 hs hp hF => ?_
         have hM0 := hM0.stp hp
         have hs : Sep [BX b1 25 [I 0, I 0, I 0, I 0]] w32 S21 := hs
         refine from_pure 1 [(6, B b1 0), (7, .bool false)] hF (by kernel_rfl) fun fr hF => ?_
         refine from_end rfl (then_normal ?_)
         have hrets := fun {σ : List (Nat × Value)} (h : σ = [(6, B b1 0), (7, .bool false)]) => (by subst h; exact (Rets.cell rfl ty25 (hs.bx 0 rfl) rfl rfl (Rets.tmp rfl Rets.nil)) : Rets Tryd.prog σ w32 [.cell 6 25, .tmp 7] [.agg #[I 0, I 0, I 0, I 0], .bool false])
         obtain rfl := Option.some.inj h
         exact wp_ret (then_ret (retG (rs := [.cell 6 25, .tmp 7]) rfl (hF.sub [(6, B b1 0), (7, .bool false)] (by kernel_rfl)) (hrets rfl) rfl ⟨_, rfl, rfl, hM0.chg⟩))
       replace h := iteF hb h
       refine (wp_skip (then_normal ?_))
       refine wp_seq (wp_text' ?_)
       refine s_loadBoxS ty25 rfl rfl hF rfl (hs.bx 0 rfl) rfl rfl fun fr hF => ?_
       have hs : Sep [BX b1 25 [I 0, I 0, I 0, I 0]] w31 S11 := Sep.pick [1] hs (by decide) rfl
       refine q_storeBoxS 0 hs hM0 rfl [I 3, I x11, I 0, I x7] rfl hF rfl rfl (by kernel_rfl) rfl rfl rfl fun w33 S22 hs hp hF => ?_
       have hM0 := hM0.stp hp
       have hs : Sep [BX b1 25 [I 3, I x11, I 0, I x7]] w33 S22 := hs
       refine from_pure 1 [(6, B b1 0), (7, .bool true)] hF (by kernel_rfl) fun fr hF => ?_
       refine from_end rfl (then_normal ?_)
       have hrets := fun {σ : List (Nat × Value)} (h : σ = [(6, B b1 0), (7, .bool true)]) => (by subst h; exact (Rets.cell rfl ty25 (hs.bx 0 rfl) rfl rfl (Rets.tmp rfl Rets.nil)) : Rets Tryd.prog σ w33 [.cell 6 25, .tmp 7] [.agg #[I 3, I x11, I 0, I x7], .bool true])
       obtain rfl := Option.some.inj h
       exact wp_ret (retG (rs := [.cell 6 25, .tmp 7]) rfl (hF.sub [(6, B b1 0), (7, .bool true)] (by kernel_rfl)) (hrets rfl) rfl ⟨_, rfl, rfl, hM0.chg⟩)
     replace h := iteF hb h
     refine (wp_skip (then_normal ?_))
     refine wp_seq ?_
     refine wp_seq (region_b [] [true, true, true, true, true, false, true, true, true, true, false, true, true]
         [.eq (L a1 x1 c1), .eq (I (len x1)), .eq (.bool (decide ((len x1) > 2))), .eq (.bool (decide ((len x1) > 2))), .eq (B b2 0), .eq (I 3), .eq (.bool (3 == 9)), .eq (.bool ((decide ((len x1) > 2)) || (3 == 9))), .eq (.bool ((decide ((len x1) > 2)) || (3 == 9))), .eq (B b2 0), .eq (I 3), .eq (.bool (3 == 11)), .eq (.bool (((decide ((len x1) > 2)) || (3 == 9)) || (3 == 11)))]
         [(0, Str.val p0), (1, I p1), (2, I p2), (6, B b1 0), (9, B b2 0), (11, I 0), (84, .bool (((decide ((len x1) > 2)) || (3 == 9)) || (3 == 11)))] mix hF (by kernel_rfl) (by kernel_rfl) (by kernel_rfl) ⟨Pd.mono_eq, Pd.mono_eq, trivial⟩ (fun hG => ⟨np_loadBox hG hF ty3 rfl rfl (hs.bx 0 rfl) rfl rfl rfl, np_loadBox hG hF ty3 rfl rfl (hs.bx 0 rfl) rfl rfl rfl, trivial⟩) (by kernel_rfl) fun fr w34 hF hE hc => then_normal ?_)
     have hs := hs.ext hc
     have hM0 := hM0.ext hc
     have hs : Sep [BX b2 25 [I 3, I 0, I 0, I x7], BX b1 25 [I 0, I 0, I 0, I 0]] w34 S10 := Sep.pick [0, 2] hs (by decide) rfl
     refine (wp_if hF (b := (((decide ((len x1) > 2)) || (3 == 9)) || (3 == 11))) rfl (fun hb => ?_) (fun hb => ?_))
     · replace h := iteT hb h
       refine (wp_text' ?_)
       refine from_pure 2 [(0, Str.val p0), (1, I p1), (2, I p2), (6, B b1 0), (9, B b2 0), (85, I 0), (86, B b2 2)] hF (by kernel_rfl) fun fr hF => ?_
       refine q_storeBox 0 hs hM0 rfl [I 3, I 0, I 0, I x7] rfl hF rfl rfl (by kernel_rfl) rfl rfl rfl fun w35 S23 hs hp hF => ?_
       have hM0 := hM0.stp hp
       have hs : Sep [BX b2 25 [I 3, I 0, I 0, I x7], BX b1 25 [I 0, I 0, I 0, I 0]] w35 S23 := hs
       refine from_end rfl (then_normal ?_)
       refine wp_seq ?_
       refine wp_seq (region_b [] [true, false, true, true, true, false, true, true]
           [.eq (B b2 0), .eq (I 3), .eq (.bool (3 == 9)), .eq (.bool (3 == 9)), .eq (B b2 0), .eq (I 3), .eq (.bool (3 == 11)), .eq (.bool ((3 == 9) || (3 == 11)))]
           [(0, Str.val p0), (1, I p1), (2, I p2), (6, B b1 0), (9, B b2 0), (94, .bool ((3 == 9) || (3 == 11)))] mix hF (by kernel_rfl) (by kernel_rfl) (by kernel_rfl) ⟨Pd.mono_eq, Pd.mono_eq, trivial⟩ (fun hG => ⟨np_loadBox hG hF ty3 rfl rfl (hs.bx 0 rfl) rfl rfl rfl, np_loadBox hG hF ty3 rfl rfl (hs.bx 0 rfl) rfl rfl rfl, trivial⟩) (by kernel_rfl) fun fr w36 hF hE hc => then_normal ?_)
       have hs := hs.ext hc
       have hM0 := hM0.ext hc
       refine (wp_if hF (b := ((3 == 9) || (3 == 11))) rfl (fun hb => ?_) (fun hb => ?_))
       · replace h := iteT hb h
         refine (wp_text' ?_)
         refine from_pure 1 [(0, Str.val p0), (1, I p1), (2, I p2), (6, B b1 0), (9, B b2 0), (95, B b2 1)] hF (by kernel_rfl) fun fr hF => ?_
         refine q_storeBox 0 hs hM0 rfl [I 3, I 0, I 0, I x7] rfl hF rfl rfl (by kernel_rfl) rfl rfl rfl fun w37 S24 hs hp hF => ?_
         have hM0 := hM0.stp hp
         have hs : Sep [BX b2 25 [I 3, I 0, I 0, I x7], BX b1 25 [I 0, I 0, I 0, I 0]] w37 S24 := hs
         refine from_end rfl (then_normal ?_)
         refine wp_seq ?_
         obtain ⟨x16, hx16, h⟩ := bindE h
         refine wp_seq (region_b [] [true, false, true, true, false, true, true, false, true, true, true]
             [.eq (B b2 0), .eq (I 3), .eq (.bool (3 == 0)), .eq (.bool (3 == 0)), .eq (.agg #[I 3, I 0, I 0, I x7]), .eq (I p1), .eq (I p2), .eq (Str.val x16), .eq (Str.val p0), .eq (.bool (!(Str.eqb x16 p0))), .eq (.bool ((3 == 0) || (!(Str.eqb x16 p0))))]
             [(6, B b1 0), (9, B b2 0), (106, .bool ((3 == 0) || (!(Str.eqb x16 p0))))] mix hF (by kernel_rfl) (by kernel_rfl) (by kernel_rfl) ⟨Pd.mono_eq, Pd.mono_eq, Pd.mono_eq, trivial⟩ (fun hG => ⟨np_loadBox hG hF ty3 rfl rfl (hs.bx 0 rfl) rfl rfl rfl, np_loadBoxS hG hF ty25 rfl rfl (hs.bx 0 rfl) rfl rfl rfl rfl, np_call [.agg #[I 3, I 0, I 0, I x7], I p1, I p2] hG hF Tryd.call7 rfl rfl (fun w hC hg => (spec_FormatIns_ok n (D.Ins.mk 3 0 0 x7) p1 p2 (iteF hg.2 hx16)).mono fun e w' ⟨v, he, hv, hc⟩ => ⟨v, he, hc, hv⟩), trivial⟩) (by kernel_rfl) fun fr w38 hF hE hc => then_normal ?_)
         have hs := hs.ext hc
         have hM0 := hM0.ext hc
         refine (wp_if hF (b := ((3 == 0) || (!(Str.eqb x16 p0)))) rfl (fun hb => ?_) (fun hb => ?_))
         · replace h := iteT hb h
           have hs : Sep [BX b1 25 [I 0, I 0, I 0, I 0]] w38 S24 := Sep.pick [1] hs (by decide) rfl
           refine wp_seq (wp_text' ?_)
           refine from_pure 1 [(6, B b1 0), (107, .agg #[I 0, I 0, I 0, I 0])] hF (by kernel_rfl) fun fr hF => ?_
           refine q_storeBoxS 0 hs hM0 rfl [I 0, I 0, I 0, I 0] rfl hF rfl rfl (by kernel_rfl) rfl rfl rfl fun w39 S25 hs hp hF => ?_
           have hM0 := hM0.stp hp
           have hs : Sep [BX b1 25 [I 0, I 0, I 0, I 0]] w39 S25 := hs
           refine from_pure 1 [(6, B b1 0), (7, .bool false)] hF (by kernel_rfl) fun fr hF => ?_
           refine from_end rfl (then_normal ?_)
           have hrets := fun {σ : List (Nat × Value)} (h : σ = [(6, B b1 0), (7, .bool false)]) => (by subst h; exact (Rets.cell rfl ty25 (hs.bx 0 rfl) rfl rfl (Rets.tmp rfl Rets.nil)) : Rets Tryd.prog σ w39 [.cell 6 25, .tmp 7] [.agg #[I 0, I 0, I 0, I 0], .bool false])
           obtain rfl := Option.some.inj h
           exact wp_ret (then_ret (retG (rs := [.cell 6 25, .tmp 7]) rfl (hF.sub [(6, B b1 0), (7, .bool false)] (by kernel_rfl)) (hrets rfl) rfl ⟨_, rfl, rfl, hM0.chg⟩))
         replace h := iteF hb h
         refine (wp_skip (then_normal ?_))
         refine wp_seq (wp_text' ?_)
         refine s_loadBoxS ty25 rfl rfl hF rfl (hs.bx 0 rfl) rfl rfl fun fr hF => ?_
         have hs : Sep [BX b1 25 [I 0, I 0, I 0, I 0]] w38 S24 := Sep.pick [1] hs (by decide) rfl
         refine q_storeBoxS 0 hs hM0 rfl [I 3, I 0, I 0, I x7] rfl hF rfl rfl (by kernel_rfl) rfl rfl rfl fun w40 S26 hs hp hF => ?_
         have hM0 := hM0.stp hp
         have hs : Sep [BX b1 25 [I 3, I 0, I 0, I x7]] w40 S26 := hs
         refine from_pure 1 [(6, B b1 0), (7, .bool true)] hF (by kernel_rfl) fun fr hF => ?_
         refine from_end rfl (then_normal ?_)
         have hrets := fun {σ : List (Nat × Value)} (h : σ = [(6, B b1 0), (7, .bool true)]) => (by subst h; exact (Rets.cell rfl ty25 (hs.bx 0 rfl) rfl rfl (Rets.tmp rfl Rets.nil)) : Rets Tryd.prog σ w40 [.cell 6 25, .tmp 7] [.agg #[I 3, I 0, I 0, I x7], .bool true])
         obtain rfl := Option.some.inj h
         exact wp_ret (retG (rs := [.cell 6 25, .tmp 7]) rfl (hF.sub [(6, B b1 0), (7, .bool true)] (by kernel_rfl)) (hrets rfl) rfl ⟨_, rfl, rfl, hM0.chg⟩)
       replace h := iteF hb h
       refine (wp_skip (then_normal ?_))
       refine wp_seq ?_
       obtain ⟨x17, hx17, h⟩ := bindE h
       refine wp_seq (region_b [] [true, false, true, true, false, true, true, false, true, true, true]
           [.eq (B b2 0), .eq (I 3), .eq (.bool (3 == 0)), .eq (.bool (3 == 0)), .eq (.agg #[I 3, I 0, I 0, I x7]), .eq (I p1), .eq (I p2), .eq (Str.val x17), .eq (Str.val p0), .eq (.bool (!(Str.eqb x17 p0))), .eq (.bool ((3 == 0) || (!(Str.eqb x17 p0))))]
           [(6, B b1 0), (9, B b2 0), (106, .bool ((3 == 0) || (!(Str.eqb x17 p0))))] mix hF (by kernel_rfl) (by kernel_rfl) (by kernel_rfl) ⟨Pd.mono_eq, Pd.mono_eq, Pd.mono_eq, trivial⟩ (fun hG => ⟨np_loadBox hG hF ty3 rfl rfl (hs.bx 0 rfl) rfl rfl rfl, np_loadBoxS hG hF ty25 rfl rfl (hs.bx 0 rfl) rfl rfl rfl rfl, np_call [.agg #[I 3, I 0, I 0, I x7], I p1, I p2] hG hF Tryd.call7 rfl rfl (fun w hC hg => (spec_FormatIns_ok n (D.Ins.mk 3 0 0 x7) p1 p2 (iteF hg.2 hx17)).mono fun e w' ⟨v, he, hv, hc⟩ => ⟨v, he, hc, hv⟩), trivial⟩) (by kernel_rfl) fun fr w41 hF hE hc => then_normal ?_)
       have hs := hs.ext hc
       have hM0 := hM0.ext hc
       refine (wp_if hF (b := ((3 == 0) || (!(Str.eqb x17 p0)))) rfl (fun hb => ?_) (fun hb => ?_))
       · replace h := iteT hb h
         have hs : Sep [BX b1 25 [I 0, I 0, I 0, I 0]] w41 S23 := Sep.pick [1] hs (by decide) rfl
         refine wp_seq (wp_text' ?_)
         refine from_pure 1 [(6, B b1 0), (107, .agg #[I 0, I 0, I 0, I 0])] hF (by kernel_rfl) fun fr hF => ?_
         refine q_storeBoxS 0 hs hM0 rfl [I 0, I 0, I 0, I 0] rfl hF rfl rfl (by kernel_rfl) rfl rfl rfl fun w42 S27 hs hp hF => ?_
         have hM0 := hM0.stp hp
         have hs : Sep [BX b1 25 [I 0, I 0, I 0, I 0]] w42 S27 := hs
         refine from_pure 1 [(6, B b1 0), (7, .bool false)] hF (by kernel_rfl) fun fr hF => ?_
         refine from_end rfl (then_normal ?_)
         have hrets := fun {σ : List (Nat × Value)} (h : σ = [(6, B b1 0), (7, .bool false)]) => (by subst h; exact (Rets.cell rfl ty25 (hs.bx 0 rfl) rfl rfl (Rets.tmp rfl Rets.nil)) : Rets Tryd.prog σ w42 [.cell 6 25, .tmp 7] [.agg #[I 0, I 0, I 0, I 0], .bool false])
         obtain rfl := Option.some.inj h
         exact wp_ret (then_ret (retG (rs := [.cell 6 25, .tmp 7]) rfl (hF.sub [(6, B b1 0), (7, .bool false)] (by kernel_rfl)) (hrets rfl) rfl ⟨_, rfl, rfl, hM0.chg⟩))
       replace h := iteF hb h
       refine (wp_skip (then_normal ?_))
       refine wp_seq (wp_text' ?_)
       refine s_loadBoxS ty25 rfl rfl hF rfl (hs.bx 0 rfl) rfl rfl fun fr hF => ?_
       have hs : Sep [BX b1 25 [I 0, I 0, I 0, I 0]] w41 S23 := Sep.pick [1] hs (by decide) rfl
       refine q_storeBoxS 0 hs hM0 rfl [I 3, I 0, I 0, I x7] rfl hF rfl rfl (by kernel_rfl) rfl rfl rfl fun w43 S28 hs hp hF => ?_
       have hM0 := hM0.stp hp
       have hs : Sep [BX b1 25 [I 3, I 0, I 0, I x7]] w43 S28 := hs
       refine from_pure 1 [(6, B b1 0), (7, .bool true)] hF (by kernel_rfl) fun fr hF => ?_
       refine from_end rfl (then_normal ?_)
       have hrets := fun {σ : List (Nat × Value)} (h : σ = [(6, B b1 0), (7, .bool true)]) => (by subst h; exact (Rets.cell rfl ty25 (hs.bx 0 rfl) rfl rfl (Rets.tmp rfl Rets.nil)) : Rets Tryd.prog σ w43 [.cell 6 25, .tmp 7] [.agg #[I 3, I 0, I 0, I x7], .bool true])
       obtain rfl := Option.some.inj h
       exact wp_ret (retG (rs := [.cell 6 25, .tmp 7]) rfl (hF.sub [(6, B b1 0), (7, .bool true)] (by kernel_rfl)) (hrets rfl) rfl ⟨_, rfl, rfl, hM0.chg⟩)
     replace h := iteF hb h
     refine (wp_skip (then_normal ?_))
     refine wp_seq ?_
     refine wp_seq (region_b [] [true, false, true, true, true, false, true, true]
         [.eq (B b2 0), .eq (I 3), .eq (.bool (3 == 9)), .eq (.bool (3 == 9)), .eq (B b2 0), .eq (I 3), .eq (.bool (3 == 11)), .eq (.bool ((3 == 9) || (3 == 11)))]
         [(0, Str.val p0), (1, I p1), (2, I p2), (6, B b1 0), (9, B b2 0), (94, .bool ((3 == 9) || (3 == 11)))] mix hF (by kernel_rfl) (by kernel_rfl) (by kernel_rfl) ⟨Pd.mono_eq, Pd.mono_eq, trivial⟩ (fun hG => ⟨np_loadBox hG hF ty3 rfl rfl (hs.bx 0 rfl) rfl rfl rfl, np_loadBox hG hF ty3 rfl rfl (hs.bx 0 rfl) rfl rfl rfl, trivial⟩) (by kernel_rfl) fun fr w44 hF hE hc => then_normal ?_)
     have hs := hs.ext hc
     have hM0 := hM0.ext hc
     refine (wp_if hF (b := ((3 == 9) || (3 == 11))) rfl (fun hb => ?_) (fun hb => ?_))
     · replace h := iteT hb h
       refine (wp_text' ?_)
       refine from_pure 1 [(0, Str.val p0), (1, I p1), (2, I p2), (6, B b1 0), (9, B b2 0), (95, B b2 1)] hF (by kernel_rfl) fun fr hF => ?_
       refine q_storeBox 0 hs hM0 rfl [I 3, I 0, I 0, I x7] rfl hF rfl rfl (by kernel_rfl) rfl rfl rfl fun w45 S29 hs hp hF => ?_
       have hM0 := hM0.stp hp
       have hs : Sep [BX b2 25 [I 3, I 0, I 0, I x7], BX b1 25 [I 0, I 0, I 0, I 0]] w45 S29 := hs
       refine from_end rfl (then_normal ?_)
       refine wp_seq ?_
       obtain ⟨x18, hx18, h⟩ := bindE h
       refine wp_seq (region_b [] [true, false, true, true, false, true, true, false, true, true, true]
           [.eq (B b2 0), .eq (I 3), .eq (.bool (3 == 0)), .eq (.bool (3 == 0)), .eq (.agg #[I 3, I 0, I 0, I x7]), .eq (I p1), .eq (I p2), .eq (Str.val x18), .eq (Str.val p0), .eq (.bool (!(Str.eqb x18 p0))), .eq (.bool ((3 == 0) || (!(Str.eqb x18 p0))))]
           [(6, B b1 0), (9, B b2 0), (106, .bool ((3 == 0) || (!(Str.eqb x18 p0))))] mix hF (by kernel_rfl) (by kernel_rfl) (by kernel_rfl) ⟨Pd.mono_eq, Pd.mono_eq, Pd.mono_eq, trivial⟩ (fun hG => ⟨np_loadBox hG hF ty3 rfl rfl (hs.bx 0 rfl) rfl rfl rfl, np_loadBoxS hG hF ty25 rfl rfl (hs.bx 0 rfl) rfl rfl rfl rfl, np_call [.agg #[I 3, I 0, I 0, I x7], I p1, I p2] hG hF Tryd.call7 rfl rfl (fun w hC hg => (spec_FormatIns_ok n (D.Ins.mk 3 0 0 x7) p1 p2 (iteF hg.2 hx18)).mono fun e w' ⟨v, he, hv, hc⟩ => ⟨v, he, hc, hv⟩), trivial⟩) (by kernel_rfl) fun fr w46 hF hE hc => then_normal ?_)
       have hs := hs.ext hc
       have hM0 := hM0.ext hc
       refine (wp_if hF (b := ((3 == 0) || (!(Str.eqb x18 p0)))) rfl (fun hb => ?_) (fun hb => ?_))
       · replace h := iteT hb h
         have hs : Sep [BX b1 25 [I 0, I 0, I 0, I 0]] w46 S29 := Sep.pick [1] hs (by decide) rfl
         refine wp_seq (wp_text' ?_)
         refine from_pure 1 [(6, B b1 0), (107, .agg #[I 0, I 0, I 0, I 0])] hF (by kernel_rfl) fun fr hF => ?_
         refine q_storeBoxS 0 hs hM0 rfl [I 0, I 0, I 0, I 0] rfl hF rfl rfl (by kernel_rfl) rfl rfl rfl fun w47 S30 hs hp hF => ?_
         have hM0 := hM0.stp hp
         have hs : Sep [BX b1 25 [I 0, I 0, I 0, I 0]] w47 S30 := hs
         refine from_pure 1 [(6, B b1 0), (7, .bool false)] hF (by kernel_rfl) fun fr hF => ?_
         refine from_end rfl (then_normal ?_)
         have hrets := fun {σ : List (Nat × Value)} (h : σ = [(6, B b1 0), (7, .bool false)]) => (by subst h; exact (Rets.cell rfl ty25 (hs.bx 0 rfl) rfl rfl (Rets.tmp rfl Rets.nil)) : Rets Tryd.prog σ w47 [.cell 6 25, .tmp 7] [.agg #[I 0, I 0, I 0, I 0], .bool false])
         obtain rfl := Option.some.inj h
         exact wp_ret (then_ret (retG (rs := [.cell 6 25, .tmp 7]) rfl (hF.sub [(6, B b1 0), (7, .bool false)] (by kernel_rfl)) (hrets rfl) rfl ⟨_, rfl, rfl, hM0.chg⟩))
       replace h := iteF hb h
       refine (wp_skip (then_normal ?_))
       refine wp_seq (wp_text' ?_)
       refine s_loadBoxS ty25 rfl rfl hF rfl (hs.bx 0 rfl) rfl rfl fun fr hF => ?_
       have hs : Sep [BX b1 25 [I 0, I 0, I 0, I 0]] w46 S29 := Sep.pick [1] hs (by decide) rfl
       refine q_storeBoxS 0 hs hM0 rfl [I 3, I 0, I 0, I x7] rfl hF rfl rfl (by kernel_rfl) rfl rfl rfl fun w48 S31 hs hp hF => ?_
       have hM0 := hM0.stp hp
       have hs : Sep [BX b1 25 [I 3, I 0, I 0, I x7]] w48 S31 := hs
       refine from_pure 1 [(6, B b1 0), (7, .bool true)] hF (by kernel_rfl) fun fr hF => ?_
       refine from_end rfl (then_normal ?_)
       have hrets := fun {σ : List (Nat × Value)} (h : σ = [(6, B b1 0), (7, .bool true)]) => (by subst h; exact (Rets.cell rfl ty25 (hs.bx 0 rfl) rfl rfl (Rets.tmp rfl Rets.nil)) : Rets Tryd.prog σ w48 [.cell 6 25, .tmp 7] [.agg #[I 3, I 0, I 0, I x7], .bool true])
       obtain rfl := Option.some.inj h
       exact wp_ret (retG (rs := [.cell 6 25, .tmp 7]) rfl (hF.sub [(6, B b1 0), (7, .bool true)] (by kernel_rfl)) (hrets rfl) rfl ⟨_, rfl, rfl, hM0.chg⟩)
     replace h := iteF hb h
     refine (wp_skip (then_normal ?_))
     refine wp_seq ?_
     obtain ⟨x19, hx19, h⟩ := bindE h
     refine wp_seq (region_b [] [true, false, true, true, false, true, true, false, true, true, true]
         [.eq (B b2 0), .eq (I 3), .eq (.bool (3 == 0)), .eq (.bool (3 == 0)), .eq (.agg #[I 3, I 0, I 0, I x7]), .eq (I p1), .eq (I p2), .eq (Str.val x19), .eq (Str.val p0), .eq (.bool (!(Str.eqb x19 p0))), .eq (.bool ((3 == 0) || (!(Str.eqb x19 p0))))]
         [(6, B b1 0), (9, B b2 0), (106, .bool ((3 == 0) || (!(Str.eqb x19 p0))))] mix hF (by kernel_rfl) (by kernel_rfl) (by kernel_rfl) ⟨Pd.mono_eq, Pd.mono_eq, Pd.mono_eq, trivial⟩ (fun hG => ⟨np_loadBox hG hF ty3 rfl rfl (hs.bx 0 rfl) rfl rfl rfl, np_loadBoxS hG hF ty25 rfl rfl (hs.bx 0 rfl) rfl rfl rfl rfl, np_call [.agg #[I 3, I 0, I 0, I x7], I p1, I p2] hG hF Tryd.call7 rfl rfl (fun w hC hg => (spec_FormatIns_ok n (D.Ins.mk 3 0 0 x7) p1 p2 (iteF hg.2 hx19)).mono fun e w' ⟨v, he, hv, hc⟩ => ⟨v, he, hc, hv⟩), trivial⟩) (by kernel_rfl) fun fr w49 hF hE hc => then_normal ?_)
     have hs := hs.ext hc
     have hM0 := hM0.ext hc
     refine (wp_if hF (b := ((3 == 0) || (!(Str.eqb x19 p0)))) rfl (fun hb => ?_) (fun hb => ?_))
     · replace h := iteT hb h
       have hs : Sep [BX b1 25 [I 0, I 0, I 0, I 0]] w49 S10 := Sep.pick [1] hs (by decide) rfl
       refine wp_seq (wp_text' ?_)
       refine from_pure 1 [(6, B b1 0), (107, .agg #[I 0, I 0, I 0, I 0])] hF (by kernel_rfl) fun fr hF => ?_
       refine q_storeBoxS 0 hs hM0 rfl [I 0, I 0, I 0, I 0] rfl hF rfl rfl (by kernel_rfl) rfl rfl rfl fun w50 S32 hs hp hF => ?_
       have hM0 := hM0.stp hp
       have hs : Sep [BX b1 25 [I 0, I 0, I 0, I 0]] w50 S32 := hs
       refine from_pure 1 [(6, B b1 0), (7, .bool false)] hF (by kernel_rfl) fun fr hF => ?_
       refine from_end rfl (then_normal ?_)
       have hrets := fun {σ : List (Nat × Value)} (h : σ = [(6, B b1 0), (7, .bool false)]) => (by subst h; exact (Rets.cell rfl ty25 (hs.bx 0 rfl) rfl rfl (Rets.tmp rfl Rets.nil)) : Rets Tryd.prog σ w50 [.cell 6 25, .tmp 7] [.agg #[I 0, I 0, I 0, I 0], .bool false])
       obtain rfl := Option.some.inj h
       exact wp_ret (then_ret (retG (rs := [.cell 6 25, .tmp 7]) rfl (hF.sub [(6, B b1 0), (7, .bool false)] (by kernel_rfl)) (hrets rfl) rfl ⟨_, rfl, rfl, hM0.chg⟩))
     replace h := iteF hb h
     refine (wp_skip (then_normal ?_))
     refine wp_seq (wp_text' ?_)
     refine s_loadBoxS ty25 rfl rfl hF rfl (hs.bx 0 rfl) rfl rfl fun fr hF => ?_
     have hs : Sep [BX b1 25 [I 0, I 0, I 0, I 0]] w49 S10 := Sep.pick [1] hs (by decide) rfl
     refine q_storeBoxS 0 hs hM0 rfl [I 3, I 0, I 0, I x7] rfl hF rfl rfl (by kernel_rfl) rfl rfl rfl fun w51 S33 hs hp hF => ?_
     have hM0 := hM0.stp hp
     have hs : Sep [BX b1 25 [I 3, I 0, I 0, I x7]] w51 S33 := hs
     refine from_pure 1 [(6, B b1 0), (7, .bool true)] hF (by kernel_rfl) fun fr hF => ?_
     refine from_end rfl (then_normal ?_)
     have hrets := fun {σ : List (Nat × Value)} (h : σ = [(6, B b1 0), (7, .bool true)]) => (by subst h; exact (Rets.cell rfl ty25 (hs.bx 0 rfl) rfl rfl (Rets.tmp rfl Rets.nil)) : Rets Tryd.prog σ w51 [.cell 6 25, .tmp 7] [.agg #[I 3, I 0, I 0, I x7], .bool true])
     obtain rfl := Option.some.inj h
     exact wp_ret (retG (rs := [.cell 6 25, .tmp 7]) rfl (hF.sub [(6, B b1 0), (7, .bool true)] (by kernel_rfl)) (hrets rfl) rfl ⟨_, rfl, rfl, hM0.chg⟩)
   replace h := iteF hb h
   refine (wp_skip (then_normal ?_))
   refine wp_seq (wp_pure [(0, Str.val p0), (1, I p1), (2, I p2), (6, B b1 0), (8, L a1 x1 c1), (9, B b2 0), (11, I 0)] hF (by kernel_rfl) fun fr hF => then_normal ?_)
   refine wp_seq ?_
   refine wp_seq (wp_pure [(0, Str.val p0), (1, I p1), (2, I p2), (6, B b1 0), (8, L a1 x1 c1), (9, B b2 0), (11, I 0), (59, .bool (decide ((len x1) > 1)))] hF (by kernel_rfl) fun fr hF => then_normal ?_)
   refine (wp_if hF (b := (decide ((len x1) > 1))) rfl (fun hb => ?_) (fun hb => ?_))
   · replace h := iteT hb h
     refine wp_seq (wp_text' ?_)
     refine from_pure 4 [(0, Str.val p0), (1, I p1), (2, I p2), (6, B b1 0), (8, L a1 x1 c1), (9, B b2 0), (60, L a1 x1 c1), (63, I (w64 ((len x1) - 1)))] hF (by kernel_rfl) fun fr hF => ?_
     obtain ⟨x20, hx20, h⟩ := bindE h
     refine s_elemF (z := x20) (Str.val x20) ty9 Tryd.underlying55 rfl rfl rfl rfl rfl hF rfl (hs.rv 1 rfl) rfl (get?_nn hx20) (get?_at hx20) rfl fun p fr hF => ?_
     obtain ⟨x21, hx21, h⟩ := bindE h
     refine s_call [Str.val x20] Tryd.call46 rfl rfl hF rfl (spec_l05Number_ok n x20 hx21) fun v w52 fr hRes hF => ?_
     obtain ⟨rfl, hc⟩ := hRes
     have hs := hs.ext hc
     have hM0 := hM0.ext hc
     refine from_pure 1 [(0, Str.val p0), (1, I p1), (2, I p2), (6, B b1 0), (8, L a1 x1 c1), (9, B b2 0), (11, I x21)] hF (by kernel_rfl) fun fr hF => ?_
     refine from_end rfl (then_normal ?_)
     refine (wp_text' ?_)
     refine from_pure 1 [(0, Str.val p0), (1, I p1), (2, I p2), (6, B b1 0), (8, L a1 x1 c1), (9, B b2 0), (11, I x21), (67, L a1 x1 c1)] hF (by kernel_rfl) fun fr hF => ?_
     obtain ⟨x22, hx22, h⟩ := bindE h
     refine s_elemF (z := x22) (Str.val x22) ty9 Tryd.underlying55 rfl rfl rfl rfl rfl hF rfl (hs.rv 1 rfl) rfl (get?_nn hx22) (get?_at hx22) rfl fun p fr hF => ?_
     obtain ⟨x23, hx23, h⟩ := bindE h
     refine s_call [Str.val x22] Tryd.call46 rfl rfl hF rfl (spec_l05Number_ok n x22 hx23) fun v w53 fr hRes hF => ?_
     obtain ⟨rfl, hc⟩ := hRes
     have hs := hs.ext hc
     have hM0 := hM0.ext hc
     refine from_pure 1 [(0, Str.val p0), (1, I p1), (2, I p2), (6, B b1 0), (8, L a1 x1 c1), (9, B b2 0), (11, I x21), (70, I x23), (71, B b2 1)] hF (by kernel_rfl) fun fr hF => ?_
     refine q_storeBox 0 hs hM0 rfl [I rl1, I x23, I 0, I 0] rfl hF rfl rfl (by kernel_rfl) rfl rfl rfl fun w54 S34 hs hp hF => ?_
     have hM0 := hM0.stp hp
     have hs : Sep [BX b2 25 [I rl1, I x23, I 0, I 0], sl9 (L a1 x1 c1) x1, BX b1 25 [I 0, I 0, I 0, I 0]] w54 S34 := hs
     refine from_end rfl (then_normal ?_)
     refine wp_seq ?_
     refine wp_seq (region_b [] [true, true, true, true, true, false, true, true, true, true, false, true, true]
         [.eq (L a1 x1 c1), .eq (I (len x1)), .eq (.bool (decide ((len x1) > 2))), .eq (.bool (decide ((len x1) > 2))), .eq (B b2 0), .eq (I rl1), .eq (.bool (rl1 == 9)), .eq (.bool ((decide ((len x1) > 2)) || (rl1 == 9))), .eq (.bool ((decide ((len x1) > 2)) || (rl1 == 9))), .eq (B b2 0), .eq (I rl1), .eq (.bool (rl1 == 11)), .eq (.bool (((decide ((len x1) > 2)) || (rl1 == 9)) || (rl1 == 11)))]
         [(0, Str.val p0), (1, I p1), (2, I p2), (6, B b1 0), (9, B b2 0), (11, I x21), (84, .bool (((decide ((len x1) > 2)) || (rl1 == 9)) || (rl1 == 11)))] mix hF (by kernel_rfl) (by kernel_rfl) (by kernel_rfl) ⟨Pd.mono_eq, Pd.mono_eq, trivial⟩ (fun hG => ⟨np_loadBox hG hF ty3 rfl rfl (hs.bx 0 rfl) rfl rfl rfl, np_loadBox hG hF ty3 rfl rfl (hs.bx 0 rfl) rfl rfl rfl, trivial⟩) (by kernel_rfl) fun fr w55 hF hE hc => then_normal ?_)
     have hs := hs.ext hc
     have hM0 := hM0.ext hc
     have hs : Sep [BX b2 25 [I rl1, I x23, I 0, I 0], BX b1 25 [I 0, I 0, I 0, I 0]] w55 S34 := Sep.pick [0, 2] hs (by decide) rfl
     refine (wp_if hF (b := (((decide ((len x1) > 2)) || (rl1 == 9)) || (rl1 == 11))) rfl (fun hb => ?_) (fun hb => ?_))
     · replace h := iteT hb h
       refine (wp_text' ?_)
       refine from_pure 2 [(0, Str.val p0), (1, I p1), (2, I p2), (6, B b1 0), (9, B b2 0), (85, I x21), (86, B b2 2)] hF (by kernel_rfl) fun fr hF => ?_
       refine q_storeBox 0 hs hM0 rfl [I rl1, I x23, I x21, I 0] rfl hF rfl rfl (by kernel_rfl) rfl rfl rfl fun w56 S35 hs hp hF => ?_
       have hM0 := hM0.stp hp
       have hs : Sep [BX b2 25 [I rl1, I x23, I x21, I 0], BX b1 25 [I 0, I 0, I 0, I 0]] w56 S35 := hs
       refine from_end rfl (then_normal ?_)
       refine wp_seq ?_
       refine wp_seq (region_b [] [true, false, true, true, true, false, true, true]
           [.eq (B b2 0), .eq (I rl1), .eq (.bool (rl1 == 9)), .eq (.bool (rl1 == 9)), .eq (B b2 0), .eq (I rl1), .eq (.bool (rl1 == 11)), .eq (.bool ((rl1 == 9) || (rl1 == 11)))]
           [(0, Str.val p0), (1, I p1), (2, I p2), (6, B b1 0), (9, B b2 0), (94, .bool ((rl1 == 9) || (rl1 == 11)))] mix hF (by kernel_rfl) (by kernel_rfl) (by kernel_rfl) ⟨Pd.mono_eq, Pd.mono_eq, trivial⟩ (fun hG => ⟨np_loadBox hG hF ty3 rfl rfl (hs.bx 0 rfl) rfl rfl rfl, np_loadBox hG hF ty3 rfl rfl (hs.bx 0 rfl) rfl rfl rfl, trivial⟩) (by kernel_rfl) fun fr w57 hF hE hc => then_normal ?_)
       have hs := hs.ext hc
       have hM0 := hM0.ext hc
       refine (wp_if hF (b := ((rl1 == 9) || (rl1 == 11))) rfl (fun hb => ?_) (fun hb => ?_))
       · replace h := iteT hb h
         refine (wp_text' ?_)
         refine from_pure 1 [(0, Str.val p0), (1, I p1), (2, I p2), (6, B b1 0), (9, B b2 0), (95, B b2 1)] hF (by kernel_rfl) fun fr hF => ?_
         refine q_storeBox 0 hs hM0 rfl [I rl1, I 0, I x21, I 0] rfl hF rfl rfl (by kernel_rfl) rfl rfl rfl fun w58 S36 hs hp hF => ?_
         have hM0 := hM0.stp hp
         have hs : Sep [BX b2 25 [I rl1, I 0, I x21, I 0], BX b1 25 [I 0, I 0, I 0, I 0]] w58 S36 := hs
         refine from_end rfl (then_normal ?_)
         refine wp_seq ?_
         obtain ⟨x24, hx24, h⟩ := bindE h
         refine wp_seq (region_b [] [true, false, true, true, false, true, true, false, true, true, true]
             [.eq (B b2 0), .eq (I rl1), .eq (.bool (rl1 == 0)), .eq (.bool (rl1 == 0)), .eq (.agg #[I rl1, I 0, I x21, I 0]), .eq (I p1), .eq (I p2), .eq (Str.val x24), .eq (Str.val p0), .eq (.bool (!(Str.eqb x24 p0))), .eq (.bool ((rl1 == 0) || (!(Str.eqb x24 p0))))]
             [(6, B b1 0), (9, B b2 0), (106, .bool ((rl1 == 0) || (!(Str.eqb x24 p0))))] mix hF (by kernel_rfl) (by kernel_rfl) (by kernel_rfl) ⟨Pd.mono_eq, Pd.mono_eq, Pd.mono_eq, trivial⟩ (fun hG => ⟨np_loadBox hG hF ty3 rfl rfl (hs.bx 0 rfl) rfl rfl rfl, np_loadBoxS hG hF ty25 rfl rfl (hs.bx 0 rfl) rfl rfl rfl rfl, np_call [.agg #[I rl1, I 0, I x21, I 0], I p1, I p2] hG hF Tryd.call7 rfl rfl (fun w hC hg => (spec_FormatIns_ok n (D.Ins.mk rl1 0 x21 0) p1 p2 (iteF hg.2 hx24)).mono fun e w' ⟨v, he, hv, hc⟩ => ⟨v, he, hc, hv⟩), trivial⟩) (by kernel_rfl) fun fr w59 hF hE hc => then_normal ?_)
         have hs := hs.ext hc
         have hM0 := hM0.ext hc
         refine (wp_if hF (b := ((rl1 == 0) || (!(Str.eqb x24 p0)))) rfl (fun hb => ?_) (fun hb => ?_))
         · replace h := iteT hb h
           have hs : Sep [BX b1 25 [I 0, I 0, I 0, I 0]] w59 S36 := Sep.pick [1] hs (by decide) rfl
           refine wp_seq (wp_text' ?_)
           refine from_pure 1 [(6, B b1 0), (107, .agg #[I 0, I 0, I 0, I 0])] hF (by kernel_rfl) fun fr hF => ?_
           refine q_storeBoxS 0 hs hM0 rfl [I 0, I 0, I 0, I 0] rfl hF rfl rfl (by kernel_rfl) rfl rfl rfl fun w60 S37 hs hp hF => ?_
           have hM0 := hM0.stp hp
           have hs : Sep [BX b1 25 [I 0, I 0, I 0, I 0]] w60 S37 := hs
           refine from_pure 1 [(6, B b1 0), (7, .bool false)] hF (by kernel_rfl) fun fr hF => ?_
           refine from_end rfl (then_normal ?_)
           have hrets := fun {σ : List (Nat × Value)} (h : σ = [(6, B b1 0), (7, .bool false)]) => (by subst h; exact (Rets.cell rfl ty25 (hs.bx 0 rfl) rfl rfl (Rets.tmp rfl Rets.nil)) : Rets Tryd.prog σ w60 [.cell 6 25, .tmp 7] [.agg #[I 0, I 0, I 0, I 0], .bool false])
           obtain rfl := Option.some.inj h
           exact wp_ret (then_ret (retG (rs := [.cell 6 25, .tmp 7]) rfl (hF.sub [(6, B b1 0), (7, .bool false)] (by kernel_rfl)) (hrets rfl) rfl ⟨_, rfl, rfl, hM0.chg⟩))
         replace h := iteF hb h
         refine (wp_skip (then_normal ?_))
         refine wp_seq (wp_text' ?_)
         refine s_loadBoxS ty25 rfl rfl hF rfl (hs.bx 0 rfl) rfl rfl fun fr hF => ?_
         have hs : Sep [BX b1 25 [I 0, I 0, I 0, I 0]] w59 S36 := Sep.pick [1] hs (by decide) rfl
         refine q_storeBoxS 0 hs hM0 rfl [I rl1, I 0, I x21, I 0] rfl hF rfl rfl (by kernel_rfl) rfl rfl rfl fun w61 S38 hs hp hF => ?_
         have hM0 := hM0.stp hp
         have hs : Sep [BX b1 25 [I rl1, I 0, I x21, I 0]] w61 S38 := hs
         refine from_pure 1 [(6, B b1 0), (7, .bool true)] hF (by kernel_rfl) fun fr hF => ?_
         refine from_end rfl (then_normal ?_)
         have hrets := fun {σ : List (Nat × Value)} (h : σ = [(6, B b1 0), (7, .bool true)]) => (by subst h; exact (Rets.cell rfl ty25 (hs.bx 0 rfl) rfl rfl (Rets.tmp rfl Rets.nil)) : Rets Tryd.prog σ w61 [.cell 6 25, .tmp 7] [.agg #[I rl1, I 0, I x21, I 0], .bool true])
         obtain rfl := Option.some.inj h
         exact wp_ret (retG (rs := [.cell 6 25, .tmp 7]) rfl (hF.sub [(6, B b1 0), (7, .bool true)] (by kernel_rfl)) (hrets rfl) rfl ⟨_, rfl, rfl, hM0.chg⟩)
       replace h := iteF hb h
       refine (wp_skip (then_normal ?_))
       refine wp_seq ?_
       obtain ⟨x25, hx25, h⟩ := bindE h
       refine wp_seq (region_b [] [true, false, true, true, false, true, true, false, true, true, true]
           [.eq (B b2 0), .eq (I rl1), .eq (.bool (rl1 == 0)), .eq (.bool (rl1 == 0)), .eq (.agg #[I rl1, I x23, I x21, I 0]), .eq (I p1), .eq (I p2), .eq (Str.val x25), .eq (Str.val p0), .eq (.bool (!(Str.eqb x25 p0))), .eq (.bool ((rl1 == 0) || (!(Str.eqb x25 p0))))]
           [(6, B b1 0), (9, B b2 0), (106, .bool ((rl1 == 0) || (!(Str.eqb x25 p0))))] mix hF (by kernel_rfl) (by kernel_rfl) (by kernel_rfl) ⟨Pd.mono_eq, Pd.mono_eq, Pd.mono_eq, trivial⟩ (fun hG => ⟨np_loadBox hG hF ty3 rfl rfl (hs.bx 0 rfl) rfl rfl rfl, np_loadBoxS hG hF ty25 rfl rfl (hs.bx 0 rfl) rfl rfl rfl rfl, np_call [.agg #[I rl1, I x23, I x21, I 0], I p1, I p2] hG hF Tryd.call7 rfl rfl (fun w hC hg => (spec_FormatIns_ok n (D.Ins.mk rl1 x23 x21 0) p1 p2 (iteF hg.2 hx25)).mono fun e w' ⟨v, he, hv, hc⟩ => ⟨v, he, hc, hv⟩), trivial⟩) (by kernel_rfl) fun fr w62 hF hE hc => then_normal ?_)
       have hs := hs.ext hc
       have hM0 := hM0.ext hc
       refine (wp_if hF (b := ((rl1 == 0) || (!(Str.eqb x25 p0)))) rfl (fun hb => ?_) (fun hb => ?_))
       · replace h := iteT hb h
         have hs : Sep [BX b1 25 [I 0, I 0, I 0, I 0]] w62 S35 := Sep.pick [1] hs (by decide) rfl
         refine wp_seq (wp_text' ?_)
         refine from_pure 1 [(6, B b1 0), (107, .agg #[I 0, I 0, I 0, I 0])] hF (by kernel_rfl) fun fr hF => ?_
         refine q_storeBoxS 0 hs hM0 rfl [I 0, I 0, I 0, I 0] rfl hF rfl rfl (by kernel_rfl) rfl rfl rfl fun w63 S39 hs hp hF => ?_
         have hM0 := hM0.stp hp
         have hs : Sep [BX b1 25 [I 0, I 0, I 0, I 0]] w63 S39 := hs
         refine from_pure 1 [(6, B b1 0), (7, .bool false)] hF (by kernel_rfl) fun fr hF => ?_
         refine from_end rfl (then_normal ?_)
         have hrets := fun {σ : List (Nat × Value)} (h : σ = [(6, B b1 0), (7, .bool false)]) => (by subst h; exact (Rets.cell rfl ty25 (hs.bx 0 rfl) rfl rfl (Rets.tmp rfl Rets.nil)) : Rets Tryd.prog σ w63 [.cell 6 25, .tmp 7] [.agg #[I 0, I 0, I 0, I 0], .bool false])
         obtain rfl := Option.some.inj h
         exact wp_ret (then_ret (retG (rs := [.cell 6 25, .tmp 7]) rfl (hF.sub [(6, B b1 0), (7, .bool false)] (by kernel_rfl)) (hrets rfl) rfl ⟨_, rfl, rfl, hM0.chg⟩))
       replace h := iteF hb h
       refine (wp_skip (then_normal ?_))
       refine wp_seq (wp_text' ?_)
       refine s_loadBoxS ty25 rfl rfl hF rfl (hs.bx 0 rfl) rfl rfl fun fr hF => ?_
       have hs : Sep [BX b1 25 [I 0, I 0, I 0, I 0]] w62 S35 := Sep.pick [1] hs (by decide) rfl
       refine q_storeBoxS 0 hs hM0 rfl [I rl1, I x23, I x21, I 0] rfl hF rfl rfl (by kernel_rfl) rfl rfl rfl fun w65 S40 hs hp hF => ?_
       have hM0 := hM0.stp hp
       have hs : Sep [BX b1 25 [I rl1, I x23, I x21, I 0]] w65 S40 := hs
       refine from_pure 1 [(6, B b1 0), (7, .bool true)] hF (by kernel_rfl) fun fr hF => ?_
       refine from_end rfl (then_normal ?_)
       have hrets := fun {σ : List (Nat × Value)} (h : σ = [(6, B b1 0), (7, .bool true)]) => (by subst h; exact (Rets.cell rfl ty25 (hs.bx 0 rfl) rfl rfl (Rets.tmp rfl Rets.nil)) : Rets Tryd.prog σ w65 [.cell 6 25, .tmp 7] [.agg #[I rl1, I x23, I x21, I 0], .bool true])
       obtain rfl := Option.some.inj h
       exact wp_ret (retG (rs := [.cell 6 25, .tmp 7]) rfl (hF.sub [(6, B b1 0), (7, .bool true)] (by kernel_rfl)) (hrets rfl) rfl ⟨_, rfl, rfl, hM0.chg⟩)
     replace h := iteF hb h
     refine (wp_skip (then_normal ?_))
     refine wp_seq ?_
     refine wp_seq (region_b [] [true, false, true, true, true, false, true, true]
         [.eq (B b2 0), .eq (I rl1), .eq (.bool (rl1 == 9)), .eq (.bool (rl1 == 9)), .eq (B b2 0), .eq (I rl1), .eq (.bool (rl1 == 11)), .eq (.bool ((rl1 == 9) || (rl1 == 11)))]
         [(0, Str.val p0), (1, I p1), (2, I p2), (6, B b1 0), (9, B b2 0), (94, .bool ((rl1 == 9) || (rl1 == 11)))] mix hF (by kernel_rfl) (by kernel_rfl) (by kernel_rfl) ⟨Pd.mono_eq, Pd.mono_eq, trivial⟩ (fun hG => ⟨np_loadBox hG hF ty3 rfl rfl (hs.bx 0 rfl) rfl rfl rfl, np_loadBox hG hF ty3 rfl rfl (hs.bx 0 rfl) rfl rfl rfl, trivial⟩) (by kernel_rfl) fun fr w66 hF hE hc => then_normal ?_)
     have hs := hs.ext hc
     have hM0 := hM0.ext hc
     refine (wp_if hF (b := ((rl1 == 9) || (rl1 == 11))) rfl (fun hb => ?_) (fun hb => ?_))
     · replace h := iteT hb h
       refine (wp_text' ?_)
       refine from_pure 1 [(0, Str.val p0), (1, I p1), (2, I p2), (6, B b1 0), (9, B b2 0), (95, B b2 1)] hF (by kernel_rfl) fun fr hF => ?_
       refine q_storeBox 0 hs hM0 rfl [I rl1, I 0, I 0, I 0] rfl hF rfl rfl (by kernel_rfl) rfl rfl rfl fun w67 S41 hs hp hF => ?_
       have hM0 := hM0.stp hp
       have hs : Sep [BX b2 25 [I rl1, I 0, I 0, I 0], BX b1 25 [I 0, I 0, I 0, I 0]] w67 S41 := hs
       refine from_end rfl (then_normal ?_)
       refine wp_seq ?_
       obtain ⟨x26, hx26, h⟩ := bindE h
       refine wp_seq (region_b [] [true, false, true, true, false, true, true, false, true, true, true]
           [.eq (B b2 0), .eq (I rl1), .eq (.bool (rl1 == 0)), .eq (.bool (rl1 == 0)), .eq (.agg #[I rl1, I 0, I 0, I 0]), .eq (I p1), .eq (I p2), .eq (Str.val x26), .eq (Str.val p0), .eq (.bool (!(Str.eqb x26 p0))), .eq (.bool ((rl1 == 0) || (!(Str.eqb x26 p0))))]
           [(6, B b1 0), (9, B b2 0), (106, .bool ((rl1 == 0) || (!(Str.eqb x26 p0))))] mix hF (by kernel_rfl) (by kernel_rfl) (by kernel_rfl) ⟨Pd.mono_eq, Pd.mono_eq, Pd.mono_eq, trivial⟩ (fun hG => ⟨np_loadBox hG hF ty3 rfl rfl (hs.bx 0 rfl) rfl rfl rfl, np_loadBoxS hG hF ty25 rfl rfl (hs.bx 0 rfl) rfl rfl rfl rfl, np_call [.agg #[I rl1, I 0, I 0, I 0], I p1, I p2] hG hF Tryd.call7 rfl rfl (fun w hC hg => (spec_FormatIns_ok n (D.Ins.mk rl1 0 0 0) p1 p2 (iteF hg.2 hx26)).mono fun e w' ⟨v, he, hv, hc⟩ => ⟨v, he, hc, hv⟩), trivial⟩) (by kernel_rfl) fun fr w68 hF hE hc => then_normal ?_)
       have hs := hs.ext hc
       have hM0 := hM0.ext hc
       refine (wp_if hF (b := ((rl1 == 0) || (!(Str.eqb x26 p0)))) rfl (fun hb => ?_) (fun hb => ?_))
       · replace h := iteT hb h
         have hs : Sep [BX b1 25 [I 0, I 0, I 0, I 0]] w68 S41 := Sep.pick [1] hs (by decide) rfl
         refine wp_seq (wp_text' ?_)
         refine from_pure 1 [(6, B b1 0), (107, .agg #[I 0, I 0, I 0, I 0])] hF (by kernel_rfl) fun fr hF => ?_
         refine q_storeBoxS 0 hs hM0 rfl [I 0, I 0, I 0, I 0] rfl hF rfl rfl (by kernel_rfl) rfl rfl rfl fun w69 S42 hs hp hF => ?_
         have hM0 := hM0.stp hp
         have hs : Sep [BX b1 25 [I 0, I 0, I 0, I 0]] w69 S42 := hs
         refine from_pure 1 [(6, B b1 0), (7, .bool false)] hF (by kernel_rfl) fun fr hF => ?_
         refine from_end rfl (then_normal ?_)
         have hrets := fun {σ : List (Nat × Value)} (h : σ = [(6, B b1 0), (7, .bool false)]) => (by subst h; exact (Rets.cell rfl ty25 (hs.bx 0 rfl) rfl rfl (Rets.tmp rfl Rets.nil)) : Rets Tryd.prog σ w69 [.cell 6 25, .tmp 7] [.agg #[I 0, I 0, I 0, I 0], .bool false])
         obtain rfl := Option.some.inj h
         exact wp_ret (then_ret (retG (rs := [.cell 6 25, .tmp 7]) rfl (hF.sub [(6, B b1 0), (7, .bool false)] (by kernel_rfl)) (hrets rfl) rfl ⟨_, rfl, rfl, hM0.chg⟩))
       replace h := iteF hb h
       refine (wp_skip (then_normal ?_))
       refine wp_seq (wp_text' ?_)
       refine s_loadBoxS ty25 rfl rfl hF rfl (hs.bx 0 rfl) rfl rfl fun fr hF => ?_
       have hs : Sep [BX b1 25 [I 0, I 0, I 0, I 0]] w68 S41 := Sep.pick [1] hs (by decide) rfl
       refine q_storeBoxS 0 hs hM0 rfl [I rl1, I 0, I 0, I 0] rfl hF rfl rfl (by kernel_rfl) rfl rfl rfl fun w70 S43 hs hp hF => ?_
       have hM0 := hM0.stp hp
       have hs : Sep [BX b1 25 [I rl1, I 0, I 0, I 0]] w70 S43 := hs
       refine from_pure 1 [(6, B b1 0), (7, .bool true)] hF (by kernel_rfl) fun fr hF => ?_
       refine from_end rfl (then_normal ?_)
       have hrets := fun {σ : List (Nat × Value)} (h : σ = [(6, B b1 0), (7, .bool true)]) => (by subst h; exact (Rets.cell rfl ty25 (hs.bx 0 rfl) rfl rfl (Rets.tmp rfl Rets.nil)) : Rets Tryd.prog σ w70 [.cell 6 25, .tmp 7] [.agg #[I rl1, I 0, I 0, I 0], .bool true])
       obtain rfl := Option.some.inj h
       exact wp_ret (retG (rs := [.cell 6 25, .tmp 7]) rfl (hF.sub [(6, B b1 0), (7, .bool true)] (by kernel_rfl)) (hrets rfl) rfl ⟨_, rfl, rfl, hM0.chg⟩)
     replace h := iteF hb h
     refine (wp_skip (then_normal ?_))
     refine wp_seq ?_
     obtain ⟨x27, hx27, h⟩ := bindE h
     refine wp_seq (region_b [] [true, false, true, true, false, true, true, false, true, true, true]
         [.eq (B b2 0), .eq (I rl1), .eq (.bool (rl1 == 0)), .eq (.bool (rl1 == 0)), .eq (.agg #[I rl1, I x23, I 0, I 0]), .eq (I p1), .eq (I p2), .eq (Str.val x27), .eq (Str.val p0), .eq (.bool (!(Str.eqb x27 p0))), .eq (.bool ((rl1 == 0) || (!(Str.eqb x27 p0))))]
         [(6, B b1 0), (9, B b2 0), (106, .bool ((rl1 == 0) || (!(Str.eqb x27 p0))))] mix hF (by kernel_rfl) (by kernel_rfl) (by kernel_rfl) ⟨Pd.mono_eq, Pd.mono_eq, Pd.mono_eq, trivial⟩ (fun hG => ⟨np_loadBox hG hF ty3 rfl rfl (hs.bx 0 rfl) rfl rfl rfl, np_loadBoxS hG hF ty25 rfl rfl (hs.bx 0 rfl) rfl rfl rfl rfl, np_call [.agg #[I rl1, I x23, I 0, I 0], I p1, I p2] hG hF Tryd.call7 rfl rfl (fun w hC hg => (spec_FormatIns_ok n (D.Ins.mk rl1 x23 0 0) p1 p2 (iteF hg.2 hx27)).mono fun e w' ⟨v, he, hv, hc⟩ => ⟨v, he, hc, hv⟩), trivial⟩) (by kernel_rfl) fun fr w71 hF hE hc => then_normal ?_)
     have hs := hs.ext hc
     have hM0 := hM0.ext hc
     refine (wp_if hF (b := ((rl1 == 0) || (!(Str.eqb x27 p0)))) rfl (fun hb => ?_) (fun hb => ?_))
     · replace h := iteT hb h
       have hs : Sep [BX b1 25 [I 0, I 0, I 0, I 0]] w71 S34 := Sep.pick [1] hs (by decide) rfl
       refine wp_seq (wp_text' ?_)
       refine from_pure 1 [(6, B b1 0), (107, .agg #[I 0, I 0, I 0, I 0])] hF (by kernel_rfl) fun fr hF => ?_
       refine q_storeBoxS 0 hs hM0 rfl [I 0, I 0, I 0, I 0] rfl hF rfl rfl (by kernel_rfl) rfl rfl rfl fun w72 S44 hs hp hF => ?_
       have hM0 := hM0.stp hp
       have hs : Sep [BX b1 25 [I 0, I 0, I 0, I 0]] w72 S44 := hs
       refine from_pure 1 [(6, B b1 0), (7, .bool false)] hF (by kernel_rfl) fun fr hF => ?_
       refine from_end rfl (then_normal ?_)
       have hrets := fun {σ : List (Nat × Value)} (h : σ = [(6, B b1 0), (7, .bool false)]) => (by subst h; exact (Rets.cell rfl ty25 (hs.bx 0 rfl) rfl rfl (Rets.tmp rfl Rets.nil)) : Rets Tryd.prog σ w72 [.cell 6 25, .tmp 7] [.agg #[I 0, I 0, I 0, I 0], .bool false])
       obtain rfl := Option.some.inj h
       exact wp_ret (then_ret (retG (rs := [.cell 6 25, .tmp 7]) rfl (hF.sub [(6, B b1 0), (7, .bool false)] (by kernel_rfl)) (hrets rfl) rfl ⟨_, rfl, rfl, hM0.chg⟩))
     replace h := iteF hb h
     refine (wp_skip (then_normal ?_))
     refine wp_seq (wp_text' ?_)
     refine s_loadBoxS ty25 rfl rfl hF rfl (hs.bx 0 rfl) rfl rfl fun fr hF => ?_
     have hs : Sep [BX b1 25 [I 0, I 0, I 0, I 0]] w71 S34 := Sep.pick [1] hs (by decide) rfl
     refine q_storeBoxS 0 hs hM0 rfl [I rl1, I x23, I 0, I 0] rfl hF rfl rfl (by kernel_rfl) rfl rfl rfl fun w73 S45 hs hp hF => ?_
     have hM0 := hM0.stp hp
     have hs : Sep [BX b1 25 [I rl1, I x23, I 0, I 0]] w73 S45 := hs
     refine from_pure 1 [(6, B b1 0), (7, .bool true)] hF (by kernel_rfl) fun fr hF => ?_
     refine from_end rfl (then_normal ?_)
     have hrets := fun {σ : List (Nat × Value)} (h : σ = [(6, B b1 0), (7, .bool true)]) => (by subst h; exact (Rets.cell rfl ty25 (hs.bx 0 rfl) rfl rfl (Rets.tmp rfl Rets.nil)) : Rets Tryd.prog σ w73 [.cell 6 25, .tmp 7] [.agg #[I rl1, I x23, I 0, I 0], .bool true])
     obtain rfl := Option.some.inj h
     exact wp_ret (retG (rs := [.cell 6 25, .tmp 7]) rfl (hF.sub [(6, B b1 0), (7, .bool true)] (by kernel_rfl)) (hrets rfl) rfl ⟨_, rfl, rfl, hM0.chg⟩)
   replace h := iteF hb h
   refine (wp_skip (then_normal ?_))
   refine wp_seq ?_
   refine wp_seq (region_b [] [true, true, true, true, true, false, true, true, true, true, false, true, true]
       [.eq (L a1 x1 c1), .eq (I (len x1)), .eq (.bool (decide ((len x1) > 2))), .eq (.bool (decide ((len x1) > 2))), .eq (B b2 0), .eq (I rl1), .eq (.bool (rl1 == 9)), .eq (.bool ((decide ((len x1) > 2)) || (rl1 == 9))), .eq (.bool ((decide ((len x1) > 2)) || (rl1 == 9))), .eq (B b2 0), .eq (I rl1), .eq (.bool (rl1 == 11)), .eq (.bool (((decide ((len x1) > 2)) || (rl1 == 9)) || (rl1 == 11)))]
       [(0, Str.val p0), (1, I p1), (2, I p2), (6, B b1 0), (9, B b2 0), (11, I 0), (84, .bool (((decide ((len x1) > 2)) || (rl1 == 9)) || (rl1 == 11)))] mix hF (by kernel_rfl) (by kernel_rfl) (by kernel_rfl) ⟨Pd.mono_eq, Pd.mono_eq, trivial⟩ (fun hG => ⟨np_loadBox hG hF ty3 rfl rfl (hs.bx 0 rfl) rfl rfl rfl, np_loadBox hG hF ty3 rfl rfl (hs.bx 0 rfl) rfl rfl rfl, trivial⟩) (by kernel_rfl) fun fr w74 hF hE hc => then_normal ?_)
   have hs := hs.ext hc
   have hM0 := hM0.ext hc
   have hs : Sep [BX b2 25 [I rl1, I 0, I 0, I 0], BX b1 25 [I 0, I 0, I 0, I 0]] w74 S7 := Sep.pick [0, 2] hs (by decide) rfl
   refine (wp_if hF (b := (((decide ((len x1) > 2)) || (rl1 == 9)) || (rl1 == 11))) rfl (fun hb => ?_) (fun hb => ?_))
   · replace h := iteT hb h
     refine (wp_text' ?_)
     refine from_pure 2 [(0, Str.val p0), (1, I p1), (2, I p2), (6, B b1 0), (9, B b2 0), (85, I 0), (86, B b2 2)] hF (by kernel_rfl) fun fr hF => ?_
     refine q_storeBox 0 hs hM0 rfl [I rl1, I 0, I 0, I 0] rfl hF rfl rfl (by kernel_rfl) rfl rfl rfl fun w75 S46 hs hp hF => ?_
     have hM0 := hM0.stp hp
     have hs : Sep [BX b2 25 [I rl1, I 0, I 0, I 0], BX b1 25 [I 0, I 0, I 0, I 0]] w75 S46 := hs
     refine from_end rfl (then_normal ?_)
     refine wp_seq ?_
     refine wp_seq (region_b [] [true, false, true, true, true, false, true, true]
         [.eq (B b2 0), .eq (I rl1), .eq (.bool (rl1 == 9)), .eq (.bool (rl1 == 9)), .eq (B b2 0), .eq (I rl1), .eq (.bool (rl1 == 11)), .eq (.bool ((rl1 == 9) || (rl1 == 11)))]
         [(0, Str.val p0), (1, I p1), (2, I p2), (6, B b1 0), (9, B b2 0), (94, .bool ((rl1 == 9) || (rl1 == 11)))] mix hF (by kernel_rfl) (by kernel_rfl) (by kernel_rfl) ⟨Pd.mono_eq, Pd.mono_eq, trivial⟩ (fun hG => ⟨np_loadBox hG hF ty3 rfl rfl (hs.bx 0 rfl) rfl rfl rfl, np_loadBox hG hF ty3 rfl rfl (hs.bx 0 rfl) rfl rfl rfl, trivial⟩) (by kernel_rfl) fun fr w76 hF hE hc => then_normal ?_)
     have hs := hs.ext hc
     have hM0 := hM0.ext hc
     refine (wp_if hF (b := ((rl1 == 9) || (rl1 == 11))) rfl (fun hb => ?_) (fun hb => ?_))
     · replace h := iteT hb h
       refine (wp_text' ?_)
       refine from_pure 1 [(0, Str.val p0), (1, I p1), (2, I p2), (6, B b1 0), (9, B b2 0), (95, B b2 1)] hF (by kernel_rfl) fun fr hF => ?_
       refine q_storeBox 0 hs hM0 rfl [I rl1, I 0, I 0, I 0] rfl hF rfl rfl (by kernel_rfl) rfl rfl rfl fun w77 S47 hs hp hF => ?_
       have hM0 := hM0.stp hp
       have hs : Sep [BX b2 25 [I rl1, I 0, I 0, I 0], BX b1 25 [I 0, I 0, I 0, I 0]] w77 S47 := hs
       refine from_end rfl (then_normal ?_)
       refine wp_seq ?_
       obtain ⟨x28, hx28, h⟩ := bindE h
       refine wp_seq (region_b [] [true, false, true, true, false, true, true, false, true, true, true]
           [.eq (B b2 0), .eq (I rl1), .eq (.bool (rl1 == 0)), .eq (.bool (rl1 == 0)), .eq (.agg #[I rl1, I 0, I 0, I 0]), .eq (I p1), .eq (I p2), .eq (Str.val x28), .eq (Str.val p0), .eq (.bool (!(Str.eqb x28 p0))), .eq (.bool ((rl1 == 0) || (!(Str.eqb x28 p0))))]
           [(6, B b1 0), (9, B b2 0), (106, .bool ((rl1 == 0) || (!(Str.eqb x28 p0))))] mix hF (by kernel_rfl) (by kernel_rfl) (by kernel_rfl) ⟨Pd.mono_eq, Pd.mono_eq, Pd.mono_eq, trivial⟩ (fun hG => ⟨np_loadBox hG hF ty3 rfl rfl (hs.bx 0 rfl) rfl rfl rfl, np_loadBoxS hG hF ty25 rfl rfl (hs.bx 0 rfl) rfl rfl rfl rfl, np_call [.agg #[I rl1, I 0, I 0, I 0], I p1, I p2] hG hF Tryd.call7 rfl rfl (fun w hC hg => (spec_FormatIns_ok n (D.Ins.mk rl1 0 0 0) p1 p2 (iteF hg.2 hx28)).mono fun e w' ⟨v, he, hv, hc⟩ => ⟨v, he, hc, hv⟩), trivial⟩) (by kernel_rfl) fun fr w78 hF hE hc => then_normal ?_)
       have hs := hs.ext hc
       have hM0 := hM0.ext hc
       refine (wp_if hF (b := ((rl1 == 0) || (!(Str.eqb x28 p0)))) rfl (fun hb => ?_) (fun hb => ?_))
       · replace h := iteT hb h
         have hs : Sep [BX b1 25 [I 0, I 0, I 0, I 0]] w78 S47 := Sep.pick [1] hs (by decide) rfl
         refine wp_seq (wp_text' ?_)
         refine from_pure 1 [(6, B b1 0), (107, .agg #[I 0, I 0, I 0, I 0])] hF (by kernel_rfl) fun fr hF => ?_
         refine q_storeBoxS 0 hs hM0 rfl [I 0, I 0, I 0, I 0] rfl hF rfl rfl (by kernel_rfl) rfl rfl rfl fun w79 S48 hs hp hF => ?_
         have hM0 := hM0.stp hp
         have hs : Sep [BX b1 25 [I 0, I 0, I 0, I 0]] w79 S48 := hs
         refine from_pure 1 [(6, B b1 0), (7, .bool false)] hF (by kernel_rfl) fun fr hF => ?_
         refine from_end rfl (then_normal ?_)
         have hrets := fun {σ : List (Nat × Value)} (h : σ = [(6, B b1 0), (7, .bool false)]) => (by subst h; exact (Rets.cell rfl ty25 (hs.bx 0 rfl) rfl rfl (Rets.tmp rfl Rets.nil)) : Rets Tryd.prog σ w79 [.cell 6 25, .tmp 7] [.agg #[I 0, I 0, I 0, I 0], .bool false])
         obtain rfl := Option.some.inj h
         exact wp_ret (then_ret (retG (rs := [.cell 6 25, .tmp 7]) rfl (hF.sub [(6, B b1 0), (7, .bool false)] (by kernel_rfl)) (hrets rfl) rfl ⟨_, rfl, rfl, hM0.chg⟩))
       replace h := iteF hb h
       refine (wp_skip (then_normal ?_))
       refine wp_seq (wp_text' ?_)
       refine s_loadBoxS ty25 rfl rfl hF rfl (hs.bx 0 rfl) rfl rfl fun fr hF => ?_
       have hs : Sep [BX b1 25 [I 0, I 0, I 0, I 0]] w78 S47 := Sep.pick [1] hs (by decide) rfl
       refine q_storeBoxS 0 hs hM0 rfl [I rl1, I 0, I 0, I 0] rfl hF rfl rfl (by kernel_rfl) rfl rfl rfl fun w80 S49 hs hp hF => ?_
       have hM0 := hM0.stp hp
       have hs : Sep [BX b1 25 [I rl1, I 0, I 0, I 0]] w80 S49 := hs
       refine from_pure 1 [(6, B b1 0), (7, .bool true)] hF (by kernel_rfl) fun fr hF => ?_
       refine from_end rfl (then_normal ?_)
       have hrets := fun {σ : List (Nat × Value)} (h : σ = [(6, B b1 0), (7, .bool true)]) => (by subst h; exact (Rets.cell rfl ty25 (hs.bx 0 rfl) rfl rfl (Rets.tmp rfl Rets.nil)) : Rets Tryd.prog σ w80 [.cell 6 25, .tmp 7] [.agg #[I rl1, I 0, I 0, I 0], .bool true])
       obtain rfl := Option.some.inj h
       exact wp_ret (retG (rs := [.cell 6 25, .tmp 7]) rfl (hF.sub [(6, B b1 0), (7, .bool true)] (by kernel_rfl)) (hrets rfl) rfl ⟨_, rfl, rfl, hM0.chg⟩)
     replace h := iteF hb h
     refine (wp_skip (then_normal ?_))
     refine wp_seq ?_
     obtain ⟨x29, hx29, h⟩ := bindE h
     refine wp_seq (region_b [] [true, false, true, true, false, true, true, false, true, true, true]
         [.eq (B b2 0), .eq (I rl1), .eq (.bool (rl1 == 0)), .eq (.bool (rl1 == 0)), .eq (.agg #[I rl1, I 0, I 0, I 0]), .eq (I p1), .eq (I p2), .eq (Str.val x29), .eq (Str.val p0), .eq (.bool (!(Str.eqb x29 p0))), .eq (.bool ((rl1 == 0) || (!(Str.eqb x29 p0))))]
         [(6, B b1 0), (9, B b2 0), (106, .bool ((rl1 == 0) || (!(Str.eqb x29 p0))))] mix hF (by kernel_rfl) (by kernel_rfl) (by kernel_rfl) ⟨Pd.mono_eq, Pd.mono_eq, Pd.mono_eq, trivial⟩ (fun hG => ⟨np_loadBox hG hF ty3 rfl rfl (hs.bx 0 rfl) rfl rfl rfl, np_loadBoxS hG hF ty25 rfl rfl (hs.bx 0 rfl) rfl rfl rfl rfl, np_call [.agg #[I rl1, I 0, I 0, I 0], I p1, I p2] hG hF Tryd.call7 rfl rfl (fun w hC hg => (spec_FormatIns_ok n (D.Ins.mk rl1 0 0 0) p1 p2 (iteF hg.2 hx29)).mono fun e w' ⟨v, he, hv, hc⟩ => ⟨v, he, hc, hv⟩), trivial⟩) (by kernel_rfl) fun fr w81 hF hE hc => then_normal ?_)
     have hs := hs.ext hc
     have hM0 := hM0.ext hc
     refine (wp_if hF (b := ((rl1 == 0) || (!(Str.eqb x29 p0)))) rfl (fun hb => ?_) (fun hb => ?_))
     · replace h := iteT hb h
       have hs : Sep [BX b1 25 [I 0, I 0, I 0, I 0]] w81 S46 := Sep.pick [1] hs (by decide) rfl
       refine wp_seq (wp_text' ?_)
       refine from_pure 1 [(6, B b1 0), (107, .agg #[I 0, I 0, I 0, I 0])] hF (by kernel_rfl) fun fr hF => ?_
       refine q_storeBoxS 0 hs hM0 rfl [I 0, I 0, I 0, I 0] rfl hF rfl rfl (by kernel_rfl) rfl rfl rfl fun w82 S50 hs hp hF => ?_
       have hM0 := hM0.stp hp
       have hs : Sep [BX b1 25 [I 0, I 0, I 0, I 0]] w82 S50 := hs
       refine from_pure 1 [(6, B b1 0), (7, .bool false)] hF (by kernel_rfl) fun fr hF => ?_
       refine from_end rfl (then_normal ?_)
       have hrets := fun {σ : List (Nat × Value)} (h : σ = [(6, B b1 0), (7, .bool false)]) => (by subst h; exact (Rets.cell rfl ty25 (hs.bx 0 rfl) rfl rfl (Rets.tmp rfl Rets.nil)) : Rets Tryd.prog σ w82 [.cell 6 25, .tmp 7] [.agg #[I 0, I 0, I 0, I 0], .bool false])
       obtain rfl := Option.some.inj h
       exact wp_ret (then_ret (retG (rs := [.cell 6 25, .tmp 7]) rfl (hF.sub [(6, B b1 0), (7, .bool false)] (by kernel_rfl)) (hrets rfl) rfl ⟨_, rfl, rfl, hM0.chg⟩))
     replace h := iteF hb h
     refine (wp_skip (then_normal ?_))
     refine wp_seq (wp_text' ?_)
     refine s_loadBoxS ty25 rfl rfl hF rfl (hs.bx 0 rfl) rfl rfl fun fr hF => ?_
     have hs : Sep [BX b1 25 [I 0, I 0, I 0, I 0]] w81 S46 := Sep.pick [1] hs (by decide) rfl
     refine q_storeBoxS 0 hs hM0 rfl [I rl1, I 0, I 0, I 0] rfl hF rfl rfl (by kernel_rfl) rfl rfl rfl fun w83 S51 hs hp hF => ?_
     have hM0 := hM0.stp hp
     have hs : Sep [BX b1 25 [I rl1, I 0, I 0, I 0]] w83 S51 := hs
     refine from_pure 1 [(6, B b1 0), (7, .bool true)] hF (by kernel_rfl) fun fr hF => ?_
     refine from_end rfl (then_normal ?_)
     have hrets := fun {σ : List (Nat × Value)} (h : σ = [(6, B b1 0), (7, .bool true)]) => (by subst h; exact (Rets.cell rfl ty25 (hs.bx 0 rfl) rfl rfl (Rets.tmp rfl Rets.nil)) : Rets Tryd.prog σ w83 [.cell 6 25, .tmp 7] [.agg #[I rl1, I 0, I 0, I 0], .bool true])
     obtain rfl := Option.some.inj h
     exact wp_ret (retG (rs := [.cell 6 25, .tmp 7]) rfl (hF.sub [(6, B b1 0), (7, .bool true)] (by kernel_rfl)) (hrets rfl) rfl ⟨_, rfl, rfl, hM0.chg⟩)
   replace h := iteF hb h
   refine (wp_skip (then_normal ?_))
   refine wp_seq ?_
   refine wp_seq (region_b [] [true, false, true, true, true, false, true, true]
       [.eq (B b2 0), .eq (I rl1), .eq (.bool (rl1 == 9)), .eq (.bool (rl1 == 9)), .eq (B b2 0), .eq (I rl1), .eq (.bool (rl1 == 11)), .eq (.bool ((rl1 == 9) || (rl1 == 11)))]
       [(0, Str.val p0), (1, I p1), (2, I p2), (6, B b1 0), (9, B b2 0), (94, .bool ((rl1 == 9) || (rl1 == 11)))] mix hF (by kernel_rfl) (by kernel_rfl) (by kernel_rfl) ⟨Pd.mono_eq, Pd.mono_eq, trivial⟩ (fun hG => ⟨np_loadBox hG hF ty3 rfl rfl (hs.bx 0 rfl) rfl rfl rfl, np_loadBox hG hF ty3 rfl rfl (hs.bx 0 rfl) rfl rfl rfl, trivial⟩) (by kernel_rfl) fun fr w84 hF hE hc => then_normal ?_)
   have hs := hs.ext hc
   have hM0 := hM0.ext hc
   refine (wp_if hF (b := ((rl1 == 9) || (rl1 == 11))) rfl (fun hb => ?_) (fun hb => ?_))
   · replace h := iteT hb h
     refine (wp_text' ?_)
     refine from_pure 1 [(0, Str.val p0), (1, I p1), (2, I p2), (6, B b1 0), (9, B b2 0), (95, B b2 1)] hF (by kernel_rfl) fun fr hF => ?_
     refine q_storeBox 0 hs hM0 rfl [I rl1, I 0, I 0, I 0] rfl hF rfl rfl (by kernel_rfl) rfl rfl rfl fun w85 S52 hs hp hF => ?_
     have hM0 := hM0.stp hp
     have hs : Sep [BX b2 25 [I rl1, I 0, I 0, I 0], BX b1 25 [I 0, I 0, I 0, I 0]] w85 S52 := hs
     refine from_end rfl (then_normal ?_)
     refine wp_seq ?_
     obtain ⟨x30, hx30, h⟩ := bindE h
     refine wp_seq (region_b [] [true, false, true, true, false, true, true, false, true, true, true]
         [.eq (B b2 0), .eq (I rl1), .eq (.bool (rl1 == 0)), .eq (.bool (rl1 == 0)), .eq (.agg #[I rl1, I 0, I 0, I 0]), .eq (I p1), .eq (I p2), .eq (Str.val x30), .eq (Str.val p0), .eq (.bool (!(Str.eqb x30 p0))), .eq (.bool ((rl1 == 0) || (!(Str.eqb x30 p0))))]
         [(6, B b1 0), (9, B b2 0), (106, .bool ((rl1 == 0) || (!(Str.eqb x30 p0))))] mix hF (by kernel_rfl) (by kernel_rfl) (by kernel_rfl) ⟨Pd.mono_eq, Pd.mono_eq, Pd.mono_eq, trivial⟩ (fun hG => ⟨np_loadBox hG hF ty3 rfl rfl (hs.bx 0 rfl) rfl rfl rfl, np_loadBoxS hG hF ty25 rfl rfl (hs.bx 0 rfl) rfl rfl rfl rfl, np_call [.agg #[I rl1, I 0, I 0, I 0], I p1, I p2] hG hF Tryd.call7 rfl rfl (fun w hC hg => (spec_FormatIns_ok n (D.Ins.mk rl1 0 0 0) p1 p2 (iteF hg.2 hx30)).mono fun e w' ⟨v, he, hv, hc⟩ => ⟨v, he, hc, hv⟩), trivial⟩) (by kernel_rfl) fun fr w86 hF hE hc => then_normal ?_)
     have hs := hs.ext hc
     have hM0 := hM0.ext hc
     refine (wp_if hF (b := ((rl1 == 0) || (!(Str.eqb x30 p0)))) rfl (fun hb => ?_) (fun hb => ?_))
     · replace h := iteT hb h
       have hs : Sep [BX b1 25 [I 0, I 0, I 0, I 0]] w86 S52 := Sep.pick [1] hs (by decide) rfl
       refine wp_seq (wp_text' ?_)
       refine from_pure 1 [(6, B b1 0), (107, .agg #[I 0, I 0, I 0, I 0])] hF (by kernel_rfl) fun fr hF => ?_
       refine q_storeBoxS 0 hs hM0 rfl [I 0, I 0, I 0, I 0] rfl hF rfl rfl (by kernel_rfl) rfl rfl rfl fun w87 S53 hs hp hF => ?_
       have hM0 := hM0.stp hp
       have hs : Sep [BX b1 25 [I 0, I 0, I 0, I 0]] w87 S53 := hs
       refine from_pure 1 [(6, B b1 0), (7, .bool false)] hF (by kernel_rfl) fun fr hF => ?_
       refine from_end rfl (then_normal ?_)
       have hrets := fun {σ : List (Nat × Value)} (h : σ = [(6, B b1 0), (7, .bool false)]) => (by subst h; exact (Rets.cell rfl ty25 (hs.bx 0 rfl) rfl rfl (Rets.tmp rfl Rets.nil)) : Rets Tryd.prog σ w87 [.cell 6 25, .tmp 7] [.agg #[I 0, I 0, I 0, I 0], .bool false])
       obtain rfl := Option.some.inj h
       exact wp_ret (then_ret (retG (rs := [.cell 6 25, .tmp 7]) rfl (hF.sub [(6, B b1 0), (7, .bool false)] (by kernel_rfl)) (hrets rfl) rfl ⟨_, rfl, rfl, hM0.chg⟩))
     replace h := iteF hb h
     refine (wp_skip (then_normal ?_))
     refine wp_seq (wp_text' ?_)
     refine s_loadBoxS ty25 rfl rfl hF rfl (hs.bx 0 rfl) rfl rfl fun fr hF => ?_
     have hs : Sep [BX b1 25 [I 0, I 0, I 0, I 0]] w86 S52 := Sep.pick [1] hs (by decide) rfl
     refine q_storeBoxS 0 hs hM0 rfl [I rl1, I 0, I 0, I 0] rfl hF rfl rfl (by kernel_rfl) rfl rfl rfl fun w88 S54 hs hp hF => ?_
     have hM0 := hM0.stp hp
     have hs : Sep [BX b1 25 [I rl1, I 0, I 0, I 0]] w88 S54 := hs
     refine from_pure 1 [(6, B b1 0), (7, .bool true)] hF (by kernel_rfl) fun fr hF => ?_
     refine from_end rfl (then_normal ?_)
     have hrets := fun {σ : List (Nat × Value)} (h : σ = [(6, B b1 0), (7, .bool true)]) => (by subst h; exact (Rets.cell rfl ty25 (hs.bx 0 rfl) rfl rfl (Rets.tmp rfl Rets.nil)) : Rets Tryd.prog σ w88 [.cell 6 25, .tmp 7] [.agg #[I rl1, I 0, I 0, I 0], .bool true])
     obtain rfl := Option.some.inj h
     exact wp_ret (retG (rs := [.cell 6 25, .tmp 7]) rfl (hF.sub [(6, B b1 0), (7, .bool true)] (by kernel_rfl)) (hrets rfl) rfl ⟨_, rfl, rfl, hM0.chg⟩)
   replace h := iteF hb h
   refine (wp_skip (then_normal ?_))
   refine wp_seq ?_
   obtain ⟨x31, hx31, h⟩ := bindE h
   refine wp_seq (region_b [] [true, false, true, true, false, true, true, false, true, true, true]
       [.eq (B b2 0), .eq (I rl1), .eq (.bool (rl1 == 0)), .eq (.bool (rl1 == 0)), .eq (.agg #[I rl1, I 0, I 0, I 0]), .eq (I p1), .eq (I p2), .eq (Str.val x31), .eq (Str.val p0), .eq (.bool (!(Str.eqb x31 p0))), .eq (.bool ((rl1 == 0) || (!(Str.eqb x31 p0))))]
       [(6, B b1 0), (9, B b2 0), (106, .bool ((rl1 == 0) || (!(Str.eqb x31 p0))))] mix hF (by kernel_rfl) (by kernel_rfl) (by kernel_rfl) ⟨Pd.mono_eq, Pd.mono_eq, Pd.mono_eq, trivial⟩ (fun hG => ⟨np_loadBox hG hF ty3 rfl rfl (hs.bx 0 rfl) rfl rfl rfl, np_loadBoxS hG hF ty25 rfl rfl (hs.bx 0 rfl) rfl rfl rfl rfl, np_call [.agg #[I rl1, I 0, I 0, I 0], I p1, I p2] hG hF Tryd.call7 rfl rfl (fun w hC hg => (spec_FormatIns_ok n (D.Ins.mk rl1 0 0 0) p1 p2 (iteF hg.2 hx31)).mono fun e w' ⟨v, he, hv, hc⟩ => ⟨v, he, hc, hv⟩), trivial⟩) (by kernel_rfl) fun fr w89 hF hE hc => then_normal ?_)
   have hs := hs.ext hc
   have hM0 := hM0.ext hc
   refine (wp_if hF (b := ((rl1 == 0) || (!(Str.eqb x31 p0)))) rfl (fun hb => ?_) (fun hb => ?_))
   · replace h := iteT hb h
     have hs : Sep [BX b1 25 [I 0, I 0, I 0, I 0]] w89 S7 := Sep.pick [1] hs (by decide) rfl
     refine wp_seq (wp_text' ?_)
     refine from_pure 1 [(6, B b1 0), (107, .agg #[I 0, I 0, I 0, I 0])] hF (by kernel_rfl) fun fr hF => ?_
     refine q_storeBoxS 0 hs hM0 rfl [I 0, I 0, I 0, I 0] rfl hF rfl rfl (by kernel_rfl) rfl rfl rfl fun w90 S55 hs hp hF => ?_
     have hM0 := hM0.stp hp
     have hs : Sep [BX b1 25 [I 0, I 0, I 0, I 0]] w90 S55 := hs
     refine from_pure 1 [(6, B b1 0), (7, .bool false)] hF (by kernel_rfl) fun fr hF => ?_
     refine from_end rfl (then_normal ?_)
     have hrets := fun {σ : List (Nat × Value)} (h : σ = [(6, B b1 0), (7, .bool false)]) => (by subst h; exact (Rets.cell rfl ty25 (hs.bx 0 rfl) rfl rfl (Rets.tmp rfl Rets.nil)) : Rets Tryd.prog σ w90 [.cell 6 25, .tmp 7] [.agg #[I 0, I 0, I 0, I 0], .bool false])
     obtain rfl := Option.some.inj h
     exact wp_ret (then_ret (retG (rs := [.cell 6 25, .tmp 7]) rfl (hF.sub [(6, B b1 0), (7, .bool false)] (by kernel_rfl)) (hrets rfl) rfl ⟨_, rfl, rfl, hM0.chg⟩))
   replace h := iteF hb h
   refine (wp_skip (then_normal ?_))
   refine wp_seq (wp_text' ?_)
   refine s_loadBoxS ty25 rfl rfl hF rfl (hs.bx 0 rfl) rfl rfl fun fr hF => ?_
   have hs : Sep [BX b1 25 [I 0, I 0, I 0, I 0]] w89 S7 := Sep.pick [1] hs (by decide) rfl
   refine q_storeBoxS 0 hs hM0 rfl [I rl1, I 0, I 0, I 0] rfl hF rfl rfl (by kernel_rfl) rfl rfl rfl fun w91 S56 hs hp hF => ?_
   have hM0 := hM0.stp hp
   have hs : Sep [BX b1 25 [I rl1, I 0, I 0, I 0]] w91 S56 := hs
   refine from_pure 1 [(6, B b1 0), (7, .bool true)] hF (by kernel_rfl) fun fr hF => ?_
   refine from_end rfl (then_normal ?_)
   have hrets := fun {σ : List (Nat × Value)} (h : σ = [(6, B b1 0), (7, .bool true)]) => (by subst h; exact (Rets.cell rfl ty25 (hs.bx 0 rfl) rfl rfl (Rets.tmp rfl Rets.nil)) : Rets Tryd.prog σ w91 [.cell 6 25, .tmp 7] [.agg #[I rl1, I 0, I 0, I 0], .bool true])
   obtain rfl := Option.some.inj h
   exact wp_ret (retG (rs := [.cell 6 25, .tmp 7]) rfl (hF.sub [(6, B b1 0), (7, .bool true)] (by kernel_rfl)) (hrets rfl) rfl ⟨_, rfl, rfl, hM0.chg⟩)



theorem impl_insWord_ok (p0 : Int) {r : Str} (h : impl_insWord p0 = some r) {w : World} :
   Calls Tryd.prog 33 [I p0].toArray w fun e w' => ∃ v, e = .returned v ∧ v = Str.val r ∧ Chg Non w w' := by
 unfold impl_insWord at h
 have hs := Sep.nil w Non
 have hM0 : Mem w Non (fun k => (False) ∧ k < w.heap.size) w Non (fun k => (False) ∧ k < w.heap.size) := Mem.start (fun _ h => h.elim) (fun _ h => h.2) (fun _ h => h.elim)
 refine enter (N := 30) Tryd.func33 rfl Tryd.ntmps33 rfl fun fr hF => ?_
 refine wp_seq (wp_pure [(0, I p0)] hF (by kernel_rfl) fun fr hF => then_normal ?_)
 refine wp_seq ?_
 refine wp_seq (wp_pure [(3, I p0)] hF (by kernel_rfl) fun fr hF => then_normal ?_)
 refine (wp_block ?_)
 refine wp_seq (wp_pure [(3, I p0), (4, .bool (p0 == 1))] hF (by kernel_rfl) fun fr hF => then_normal ?_)
 refine (wp_if hF (b := (p0 == 1)) rfl (fun hb => ?_) (fun hb => ?_))
 · replace h := iteT hb h
   refine wp_seq (wp_pure [(2, Str.val (⟨[115, 101, 116]⟩))] hF (by kernel_rfl) fun fr hF => then_normal ?_)
   obtain rfl := Option.some.inj h
   exact wp_ret (blk_ret (then_ret (ret1 rfl hF rfl ⟨_, rfl, rfl, hM0.chg⟩)))
 replace h := iteF hb h
 refine wp_seq (wp_pure [(3, I p0), (6, .bool (p0 == 2))] hF (by kernel_rfl) fun fr hF => then_normal ?_)
 refine (wp_if hF (b := (p0 == 2)) rfl (fun hb => ?_) (fun hb => ?_))
 · replace h := iteT hb h
   refine wp_seq (wp_pure [(2, Str.val (⟨[109, 111, 118, 101]⟩))] hF (by kernel_rfl) fun fr hF => then_normal ?_)
   obtain rfl := Option.some.inj h
   exact wp_ret (blk_ret (then_ret (ret1 rfl hF rfl ⟨_, rfl, rfl, hM0.chg⟩)))
 replace h := iteF hb h
 refine wp_seq (wp_pure [(3, I p0), (8, .bool (p0 == 4))] hF (by kernel_rfl) fun fr hF => then_normal ?_)
 refine (wp_if hF (b := (p0 == 4)) rfl (fun hb => ?_) (fun hb => ?_))
 · replace h := iteT hb h
   refine wp_seq (wp_pure [(2, Str.val (⟨[110, 111, 116]⟩))] hF (by kernel_rfl) fun fr hF => then_normal ?_)
   obtain rfl := Option.some.inj h
   exact wp_ret (blk_ret (then_ret (ret1 rfl hF rfl ⟨_, rfl, rfl, hM0.chg⟩)))
 replace h := iteF hb h
 refine wp_seq (wp_pure [(3, I p0), (10, .bool (p0 == 5))] hF (by kernel_rfl) fun fr hF => then_normal ?_)
 refine (wp_if hF (b := (p0 == 5)) rfl (fun hb => ?_) (fun hb => ?_))
 · replace h := iteT hb h
   refine wp_seq (wp_pure [(2, Str.val (⟨[105, 110]⟩))] hF (by kernel_rfl) fun fr hF => then_normal ?_)
   obtain rfl := Option.some.inj h
   exact wp_ret (blk_ret (then_ret (ret1 rfl hF rfl ⟨_, rfl, rfl, hM0.chg⟩)))
 replace h := iteF hb h
 refine wp_seq (wp_pure [(3, I p0), (12, .bool (p0 == 6))] hF (by kernel_rfl) fun fr hF => then_normal ?_)
 refine (wp_if hF (b := (p0 == 6)) rfl (fun hb => ?_) (fun hb => ?_))
 · replace h := iteT hb h
   refine wp_seq (wp_pure [(2, Str.val (⟨[111, 117, 116]⟩))] hF (by kernel_rfl) fun fr hF => then_normal ?_)
   obtain rfl := Option.some.inj h
   exact wp_ret (blk_ret (then_ret (ret1 rfl hF rfl ⟨_, rfl, rfl, hM0.chg⟩)))
 replace h := iteF hb h
 refine wp_seq (wp_pure [(3, I p0), (14, .bool (p0 == 7))] hF (by kernel_rfl) fun fr hF => then_normal ?_)
 refine (wp_if hF (b := (p0 == 7)) rfl (fun hb => ?_) (fun hb => ?_))
 · replace h := iteT hb h
   refine wp_seq (wp_pure [(2, Str.val (⟨[108, 111, 97, 100]⟩))] hF (by kernel_rfl) fun fr hF => then_normal ?_)
   obtain rfl := Option.some.inj h
   exact wp_ret (blk_ret (then_ret (ret1 rfl hF rfl ⟨_, rfl, rfl, hM0.chg⟩)))
 replace h := iteF hb h
 refine wp_seq (wp_pure [(3, I p0), (16, .bool (p0 == 8))] hF (by kernel_rfl) fun fr hF => then_normal ?_)
 refine (wp_if hF (b := (p0 == 8)) rfl (fun hb => ?_) (fun hb => ?_))
 · replace h := iteT hb h
   refine wp_seq (wp_pure [(2, Str.val (⟨[115, 116, 111, 114, 101]⟩))] hF (by kernel_rfl) fun fr hF => then_normal ?_)
   obtain rfl := Option.some.inj h
   exact wp_ret (blk_ret (then_ret (ret1 rfl hF rfl ⟨_, rfl, rfl, hM0.chg⟩)))
 replace h := iteF hb h
 refine wp_seq (wp_pure [(3, I p0), (18, .bool (p0 == 9))] hF (by kernel_rfl) fun fr hF => then_normal ?_)
 refine (wp_if hF (b := (p0 == 9)) rfl (fun hb => ?_) (fun hb => ?_))
 · replace h := iteT hb h
   refine wp_seq (wp_pure [(2, Str.val (⟨[106, 117, 109, 112]⟩))] hF (by kernel_rfl) fun fr hF => then_normal ?_)
   obtain rfl := Option.some.inj h
   exact wp_ret (blk_ret (then_ret (ret1 rfl hF rfl ⟨_, rfl, rfl, hM0.chg⟩)))
 replace h := iteF hb h
 refine wp_seq (wp_pure [(3, I p0), (20, .bool (p0 == 10))] hF (by kernel_rfl) fun fr hF => then_normal ?_)
 refine (wp_if hF (b := (p0 == 10)) rfl (fun hb => ?_) (fun hb => ?_))
 · replace h := iteT hb h
   refine wp_seq (wp_pure [(2, Str.val (⟨[122, 101, 114, 111]⟩))] hF (by kernel_rfl) fun fr hF => then_normal ?_)
   obtain rfl := Option.some.inj h
   exact wp_ret (blk_ret (then_ret (ret1 rfl hF rfl ⟨_, rfl, rfl, hM0.chg⟩)))
 replace h := iteF hb h
 refine wp_seq (wp_pure [(3, I p0), (22, .bool (p0 == 11))] hF (by kernel_rfl) fun fr hF => then_normal ?_)
 refine (wp_if hF (b := (p0 == 11)) rfl (fun hb => ?_) (fun hb => ?_))
 · replace h := iteT hb h
   refine wp_seq (wp_pure [(2, Str.val (⟨[99, 97, 108, 108]⟩))] hF (by kernel_rfl) fun fr hF => then_normal ?_)
   obtain rfl := Option.some.inj h
   exact wp_ret (blk_ret (then_ret (ret1 rfl hF rfl ⟨_, rfl, rfl, hM0.chg⟩)))
 replace h := iteF hb h
 refine wp_seq (wp_pure [(3, I p0), (24, .bool (p0 == 12))] hF (by kernel_rfl) fun fr hF => then_normal ?_)
 refine (wp_if hF (b := (p0 == 12)) rfl (fun hb => ?_) (fun hb => ?_))
 · replace h := iteT hb h
   refine wp_seq (wp_pure [(2, Str.val (⟨[114, 101, 116]⟩))] hF (by kernel_rfl) fun fr hF => then_normal ?_)
   obtain rfl := Option.some.inj h
   exact wp_ret (blk_ret (then_ret (ret1 rfl hF rfl ⟨_, rfl, rfl, hM0.chg⟩)))
 replace h := iteF hb h
 refine wp_seq (wp_pure [(3, I p0), (26, .bool (p0 == 13))] hF (by kernel_rfl) fun fr hF => then_normal ?_)
 refine (wp_if hF (b := (p0 == 13)) rfl (fun hb => ?_) (fun hb => ?_))
 · replace h := iteT hb h
   refine wp_seq (wp_pure [(2, Str.val (⟨[99, 104, 101, 99, 107]⟩))] hF (by kernel_rfl) fun fr hF => then_normal ?_)
   obtain rfl := Option.some.inj h
   exact wp_ret (blk_ret (then_ret (ret1 rfl hF rfl ⟨_, rfl, rfl, hM0.chg⟩)))
 replace h := iteF hb h
 refine wp_seq (wp_pure [(28, .bool (p0 == 14))] hF (by kernel_rfl) fun fr hF => then_normal ?_)
 refine (wp_if hF (b := (p0 == 14)) rfl (fun hb => ?_) (fun hb => ?_))
 · replace h := iteT hb h
   refine wp_seq (wp_pure [(2, Str.val (⟨[104, 97, 108, 116]⟩))] hF (by kernel_rfl) fun fr hF => then_normal ?_)
   obtain rfl := Option.some.inj h
   exact wp_ret (blk_ret (then_ret (ret1 rfl hF rfl ⟨_, rfl, rfl, hM0.chg⟩)))
 replace h := iteF hb h
 refine (wp_skip ?_)
 refine blk_normal (then_normal ?_)
 refine wp_seq (wp_pure [(2, Str.val (⟨[]⟩))] hF (by kernel_rfl) fun fr hF => then_normal ?_)
 obtain rfl := Option.some.inj h
 exact wp_ret (ret1 rfl hF rfl ⟨_, rfl, rfl, hM0.chg⟩)

theorem impl_OpName_ok (p0 : Int) {r : Str} (h : impl_OpName p0 = some r) {w : World} :
   Calls Tryd.prog 31 [I p0].toArray w fun e w' => ∃ v, e = .returned v ∧ v = Str.val r ∧ Chg Non w w' := by
 unfold impl_OpName at h
 have hs := Sep.nil w Non
 have hM0 : Mem w Non (fun k => (False) ∧ k < w.heap.size) w Non (fun k => (False) ∧ k < w.heap.size) := Mem.start (fun _ h => h.elim) (fun _ h => h.2) (fun _ h => h.elim)
 refine enter (N := 18) Tryd.func31 rfl Tryd.ntmps31 rfl fun fr hF => ?_
 refine wp_seq (wp_pure [(0, I p0)] hF (by kernel_rfl) fun fr hF => then_normal ?_)
 refine wp_seq (wp_text' ?_)
 refine q_lit (E := 9) hs hM0 [Str.val (⟨[110, 111, 116]⟩), Str.val (⟨[110, 101, 103]⟩), Str.val (⟨[97, 100, 100]⟩), Str.val (⟨[115, 117, 98]⟩), Str.val (⟨[109, 117, 108]⟩), Str.val (⟨[100, 105, 118]⟩), Str.val (⟨[114, 101, 109]⟩), Str.val (⟨[97, 110, 100]⟩), Str.val (⟨[111, 114]⟩), Str.val (⟨[120, 111, 114]⟩), Str.val (⟨[115, 104, 108]⟩), Str.val (⟨[115, 104, 114]⟩), Str.val (⟨[115, 97, 114]⟩), Str.val (⟨[101, 113]⟩), Str.val (⟨[108, 101, 115, 115]⟩), Str.val (⟨[98, 101, 108, 111, 119]⟩)] (([⟨[110, 111, 116]⟩, ⟨[110, 101, 103]⟩, ⟨[97, 100, 100]⟩, ⟨[115, 117, 98]⟩, ⟨[109, 117, 108]⟩, ⟨[100, 105, 118]⟩, ⟨[114, 101, 109]⟩, ⟨[97, 110, 100]⟩, ⟨[111, 114]⟩, ⟨[120, 111, 114]⟩, ⟨[115, 104, 108]⟩, ⟨[115, 104, 114]⟩, ⟨[115, 97, 114]⟩, ⟨[101, 113]⟩, ⟨[108, 101, 115, 115]⟩, ⟨[98, 101, 108, 111, 119]⟩] : List Str).map Flat.enc) ([⟨[110, 111, 116]⟩, ⟨[110, 101, 103]⟩, ⟨[97, 100, 100]⟩, ⟨[115, 117, 98]⟩, ⟨[109, 117, 108]⟩, ⟨[100, 105, 118]⟩, ⟨[114, 101, 109]⟩, ⟨[97, 110, 100]⟩, ⟨[111, 114]⟩, ⟨[120, 111, 114]⟩, ⟨[115, 104, 108]⟩, ⟨[115, 104, 114]⟩, ⟨[115, 97, 114]⟩, ⟨[101, 113]⟩, ⟨[108, 101, 115, 115]⟩, ⟨[98, 101, 108, 111, 119]⟩] : List Str) rfl rfl hF [Str.val (⟨[110, 111, 116]⟩), Str.val (⟨[110, 101, 103]⟩), Str.val (⟨[97, 100, 100]⟩), Str.val (⟨[115, 117, 98]⟩), Str.val (⟨[109, 117, 108]⟩), Str.val (⟨[100, 105, 118]⟩), Str.val (⟨[114, 101, 109]⟩), Str.val (⟨[97, 110, 100]⟩), Str.val (⟨[111, 114]⟩), Str.val (⟨[120, 111, 114]⟩), Str.val (⟨[115, 104, 108]⟩), Str.val (⟨[115, 104, 114]⟩), Str.val (⟨[115, 97, 114]⟩), Str.val (⟨[101, 113]⟩), Str.val (⟨[108, 101, 115, 115]⟩), Str.val (⟨[98, 101, 108, 111, 119]⟩)] rfl (fun w => by kernel_rfl) (css_flat _) rfl rfl rfl fun a1 c1 w1 S1 fr hs hp hF => ?_
 have hM0 := hM0.stp hp
 have hs : Sep [sl9 (L a1 ([⟨[110, 111, 116]⟩, ⟨[110, 101, 103]⟩, ⟨[97, 100, 100]⟩, ⟨[115, 117, 98]⟩, ⟨[109, 117, 108]⟩, ⟨[100, 105, 118]⟩, ⟨[114, 101, 109]⟩, ⟨[97, 110, 100]⟩, ⟨[111, 114]⟩, ⟨[120, 111, 114]⟩, ⟨[115, 104, 108]⟩, ⟨[115, 104, 114]⟩, ⟨[115, 97, 114]⟩, ⟨[101, 113]⟩, ⟨[108, 101, 115, 115]⟩, ⟨[98, 101, 108, 111, 119]⟩] : List Str) c1) ([⟨[110, 111, 116]⟩, ⟨[110, 101, 103]⟩, ⟨[97, 100, 100]⟩, ⟨[115, 117, 98]⟩, ⟨[109, 117, 108]⟩, ⟨[100, 105, 118]⟩, ⟨[114, 101, 109]⟩, ⟨[97, 110, 100]⟩, ⟨[111, 114]⟩, ⟨[120, 111, 114]⟩, ⟨[115, 104, 108]⟩, ⟨[115, 104, 114]⟩, ⟨[115, 97, 114]⟩, ⟨[101, 113]⟩, ⟨[108, 101, 115, 115]⟩, ⟨[98, 101, 108, 111, 119]⟩] : List Str)] w1 S1 := hs
 refine from_pure 1 [(0, I p0), (3, L a1 ([⟨[110, 111, 116]⟩, ⟨[110, 101, 103]⟩, ⟨[97, 100, 100]⟩, ⟨[115, 117, 98]⟩, ⟨[109, 117, 108]⟩, ⟨[100, 105, 118]⟩, ⟨[114, 101, 109]⟩, ⟨[97, 110, 100]⟩, ⟨[111, 114]⟩, ⟨[120, 111, 114]⟩, ⟨[115, 104, 108]⟩, ⟨[115, 104, 114]⟩, ⟨[115, 97, 114]⟩, ⟨[101, 113]⟩, ⟨[108, 101, 115, 115]⟩, ⟨[98, 101, 108, 111, 119]⟩] : List Str) c1)] hF (by kernel_rfl) fun fr hF => ?_
 refine from_end rfl (then_normal ?_)
 refine wp_seq ?_
 refine wp_seq (region_b [] [true, true, true, true, true, true, true, true]
     [.eq (I p0), .eq (.bool (decide (p0 < 1))), .eq (.bool (decide (p0 < 1))), .eq (I p0), .eq (L a1 ([⟨[110, 111, 116]⟩, ⟨[110, 101, 103]⟩, ⟨[97, 100, 100]⟩, ⟨[115, 117, 98]⟩, ⟨[109, 117, 108]⟩, ⟨[100, 105, 118]⟩, ⟨[114, 101, 109]⟩, ⟨[97, 110, 100]⟩, ⟨[111, 114]⟩, ⟨[120, 111, 114]⟩, ⟨[115, 104, 108]⟩, ⟨[115, 104, 114]⟩, ⟨[115, 97, 114]⟩, ⟨[101, 113]⟩, ⟨[108, 101, 115, 115]⟩, ⟨[98, 101, 108, 111, 119]⟩] : List Str) c1), .eq (I (len ([⟨[110, 111, 116]⟩, ⟨[110, 101, 103]⟩, ⟨[97, 100, 100]⟩, ⟨[115, 117, 98]⟩, ⟨[109, 117, 108]⟩, ⟨[100, 105, 118]⟩, ⟨[114, 101, 109]⟩, ⟨[97, 110, 100]⟩, ⟨[111, 114]⟩, ⟨[120, 111, 114]⟩, ⟨[115, 104, 108]⟩, ⟨[115, 104, 114]⟩, ⟨[115, 97, 114]⟩, ⟨[101, 113]⟩, ⟨[108, 101, 115, 115]⟩, ⟨[98, 101, 108, 111, 119]⟩] : List Str))), .eq (.bool (decide (p0 > (len ([⟨[110, 111, 116]⟩, ⟨[110, 101, 103]⟩, ⟨[97, 100, 100]⟩, ⟨[115, 117, 98]⟩, ⟨[109, 117, 108]⟩, ⟨[100, 105, 118]⟩, ⟨[114, 101, 109]⟩, ⟨[97, 110, 100]⟩, ⟨[111, 114]⟩, ⟨[120, 111, 114]⟩, ⟨[115, 104, 108]⟩, ⟨[115, 104, 114]⟩, ⟨[115, 97, 114]⟩, ⟨[101, 113]⟩, ⟨[108, 101, 115, 115]⟩, ⟨[98, 101, 108, 111, 119]⟩] : List Str))))), .eq (.bool ((decide (p0 < 1)) || (decide (p0 > (len ([⟨[110, 111, 116]⟩, ⟨[110, 101, 103]⟩, ⟨[97, 100, 100]⟩, ⟨[115, 117, 98]⟩, ⟨[109, 117, 108]⟩, ⟨[100, 105, 118]⟩, ⟨[114, 101, 109]⟩, ⟨[97, 110, 100]⟩, ⟨[111, 114]⟩, ⟨[120, 111, 114]⟩, ⟨[115, 104, 108]⟩, ⟨[115, 104, 114]⟩, ⟨[115, 97, 114]⟩, ⟨[101, 113]⟩, ⟨[108, 101, 115, 115]⟩, ⟨[98, 101, 108, 111, 119]⟩] : List Str))))))]
     [(0, I p0), (3, L a1 ([⟨[110, 111, 116]⟩, ⟨[110, 101, 103]⟩, ⟨[97, 100, 100]⟩, ⟨[115, 117, 98]⟩, ⟨[109, 117, 108]⟩, ⟨[100, 105, 118]⟩, ⟨[114, 101, 109]⟩, ⟨[97, 110, 100]⟩, ⟨[111, 114]⟩, ⟨[120, 111, 114]⟩, ⟨[115, 104, 108]⟩, ⟨[115, 104, 114]⟩, ⟨[115, 97, 114]⟩, ⟨[101, 113]⟩, ⟨[108, 101, 115, 115]⟩, ⟨[98, 101, 108, 111, 119]⟩] : List Str) c1), (12, .bool ((decide (p0 < 1)) || (decide (p0 > (len ([⟨[110, 111, 116]⟩, ⟨[110, 101, 103]⟩, ⟨[97, 100, 100]⟩, ⟨[115, 117, 98]⟩, ⟨[109, 117, 108]⟩, ⟨[100, 105, 118]⟩, ⟨[114, 101, 109]⟩, ⟨[97, 110, 100]⟩, ⟨[111, 114]⟩, ⟨[120, 111, 114]⟩, ⟨[115, 104, 108]⟩, ⟨[115, 104, 114]⟩, ⟨[115, 97, 114]⟩, ⟨[101, 113]⟩, ⟨[108, 101, 115, 115]⟩, ⟨[98, 101, 108, 111, 119]⟩] : List Str))))))] mix hF (by kernel_rfl) (by kernel_rfl) (by kernel_rfl) trivial (fun hG => trivial) (by kernel_rfl) fun fr w2 hF hE hc => then_normal ?_)
 have hs := hs.ext hc
 have hM0 := hM0.ext hc
 refine (wp_if hF (b := ((decide (p0 < 1)) || (decide (p0 > (len ([⟨[110, 111, 116]⟩, ⟨[110, 101, 103]⟩, ⟨[97, 100, 100]⟩, ⟨[115, 117, 98]⟩, ⟨[109, 117, 108]⟩, ⟨[100, 105, 118]⟩, ⟨[114, 101, 109]⟩, ⟨[97, 110, 100]⟩, ⟨[111, 114]⟩, ⟨[120, 111, 114]⟩, ⟨[115, 104, 108]⟩, ⟨[115, 104, 114]⟩, ⟨[115, 97, 114]⟩, ⟨[101, 113]⟩, ⟨[108, 101, 115, 115]⟩, ⟨[98, 101, 108, 111, 119]⟩] : List Str)))))) rfl (fun hb => ?_) (fun hb => ?_))
 · replace h := iteT hb h
   have hs : Sep [] w2 S1 := Sep.pick [] hs (by decide) rfl
   refine wp_seq (wp_pure [(2, Str.val (⟨[]⟩))] hF (by kernel_rfl) fun fr hF => then_normal ?_)
   obtain rfl := Option.some.inj h
   exact wp_ret (then_ret (ret1 rfl hF rfl ⟨_, rfl, rfl, hM0.chg⟩))
 replace h := iteF hb h
 refine (wp_skip (then_normal ?_))
 refine wp_seq (wp_text' ?_)
 refine from_pure 3 [(13, L a1 ([⟨[110, 111, 116]⟩, ⟨[110, 101, 103]⟩, ⟨[97, 100, 100]⟩, ⟨[115, 117, 98]⟩, ⟨[109, 117, 108]⟩, ⟨[100, 105, 118]⟩, ⟨[114, 101, 109]⟩, ⟨[97, 110, 100]⟩, ⟨[111, 114]⟩, ⟨[120, 111, 114]⟩, ⟨[115, 104, 108]⟩, ⟨[115, 104, 114]⟩, ⟨[115, 97, 114]⟩, ⟨[101, 113]⟩, ⟨[108, 101, 115, 115]⟩, ⟨[98, 101, 108, 111, 119]⟩] : List Str) c1), (15, I (w64 (p0 - 1)))] hF (by kernel_rfl) fun fr hF => ?_
 obtain ⟨x1, hx1, h⟩ := bindE h
 refine s_elemF (z := x1) (Str.val x1) ty9 Tryd.underlying55 rfl rfl rfl rfl rfl hF rfl (hs.rv 0 rfl) rfl (get?_nn hx1) (get?_at hx1) rfl fun p fr hF => ?_
 have hs : Sep [] w2 S1 := Sep.pick [] hs (by decide) rfl
 refine from_pure 1 [(2, Str.val x1)] hF (by kernel_rfl) fun fr hF => ?_
 refine from_end rfl (then_normal ?_)
 obtain rfl := Option.some.inj h
 exact wp_ret (ret1 rfl hF rfl ⟨_, rfl, rfl, hM0.chg⟩)

theorem impl_OpOf_ok (n : Nat) (p0 : Str) {r : Int} (h : impl_OpOf n p0 = some r) {w : World} :
   Calls Tryd.prog 48 [Str.val p0].toArray w fun e w' => ∃ v, e = .returned v ∧ v = I r ∧ Chg Non w w' := by
 unfold impl_OpOf at h
 have hs := Sep.nil w Non
 have hM0 : Mem w Non (fun k => (False) ∧ k < w.heap.size) w Non (fun k => (False) ∧ k < w.heap.size) := Mem.start (fun _ h => h.elim) (fun _ h => h.2) (fun _ h => h.elim)
 refine enter (N := 13) Tryd.func48 rfl Tryd.ntmps48 rfl fun fr hF => ?_
 refine wp_seq (wp_pure [(0, Str.val p0)] hF (by kernel_rfl) fun fr hF => then_normal ?_)
 refine wp_seq ?_
 refine wp_seq (wp_pure [(0, Str.val p0), (3, I 1)] hF (by kernel_rfl) fun fr hF => then_normal ?_)
 obtain ⟨rl1, hit1, h⟩ := bindE h
 have hk1 := h
 refine (GL.wp_cut (M := fun fr w' => ∃ s, rl1 = .inl s ∧ ∃ S2 F2, FrS 13 [] fr ∧ Mem w Non (fun k => (False) ∧ k < w.heap.size) w' S2 F2 ∧ Sep [] w' S2) (wp_block (wp_iter (Inv := fun s1 fr w' => ∃ S1 F1, FrS 13 [(0, Str.val p0), (3, I s1)] fr ∧ Mem w Non (fun k => (False) ∧ k < w.heap.size) w' S1 F1 ∧ Sep [] w' S1) hit1 ⟨Non, _, hF.sub _ (by kernel_rfl), (Mem.start hM0.bd hM0.bdF hM0.dj), hs⟩ fun s1 q1 fr w1i hI h hr1 => ?_)) fun fr w1o hM => ?_)
 · obtain ⟨S1, F1, hF, hM1, hs⟩ := hI
   refine wp_seq ?_
   refine wp_seq (wp_pure [(0, Str.val p0), (3, I s1), (5, .bool (decide (s1 ≤ 16)))] hF (by kernel_rfl) fun fr hF => then_normal ?_)
   refine (wp_if hF (b := (decide (s1 ≤ 16))) rfl (fun hb => ?_) (fun hb => ?_))
   · replace h := iteT hb h
     refine (wp_skip (then_normal ?_))
     refine wp_seq (wp_block ?_)
     refine wp_seq (wp_text' ?_)
     refine from_pure 1 [(0, Str.val p0), (3, I s1), (8, I s1)] hF (by kernel_rfl) fun fr hF => ?_
     obtain ⟨x1, hx1, h⟩ := bindE h
     refine s_call [I s1] Tryd.call31 rfl rfl hF rfl (impl_OpName_ok s1 hx1) fun v w1 fr hRes hF => ?_
     obtain ⟨rfl, hc⟩ := hRes
     have hs := hs.ext hc
     have hM1 := hM1.ext hc
     refine from_pure 2 [(0, Str.val p0), (3, I s1), (11, .bool (Str.eqb x1 p0))] hF (by kernel_rfl) fun fr hF => ?_
     refine from_end rfl (then_normal ?_)
     refine (wp_if hF (b := (Str.eqb x1 p0)) rfl (fun hb => ?_) (fun hb => ?_))
     · replace h := iteT hb h
       refine wp_seq (wp_pure [(2, I s1)] hF (by kernel_rfl) fun fr hF => then_normal ?_)
       obtain rfl := hr1 _ (Option.some.inj h).symm
       obtain rfl := Option.some.inj hk1
       exact wp_ret (blk_ret (then_ret (then_ret (blk_ret (then_ret (ret1 rfl hF rfl ⟨_, rfl, rfl, (hM0.trans hM1).chg⟩))))))
     replace h := iteF hb h
     refine (wp_skip ?_)
     refine blk_normal (then_normal ?_)
     refine (wp_pure [(0, Str.val p0), (3, I (w64 (s1 + 1)))] hF (by kernel_rfl) fun fr hF => then_normal ?_)
     exact ⟨_, (Option.some.inj h).symm, S1, _, hF.sub _ (by kernel_rfl), hM1, hs⟩
   replace h := iteF hb h
   refine (wp_exit (then_exit (then_exit (blk_exit_eq ?_))))
   obtain rfl := hr1 _ (Option.some.inj h).symm
   exact then_normal ⟨_, rfl, S1, _, hF.sub _ (by kernel_rfl), hM1, hs⟩
 · obtain ⟨s1r, rfl, hM⟩ := hM
   obtain ⟨S2, F2, hF, hMx, hs⟩ := hM
   have hM0 := hM0.trans hMx
   refine wp_seq (wp_pure [(2, I 0)] hF (by kernel_rfl) fun fr hF => then_normal ?_)
   obtain rfl := Option.some.inj h
   exact wp_ret (ret1 rfl hF rfl ⟨_, rfl, rfl, hM0.chg⟩)

theorem impl_isTwoWords_ok (p0 : Int) {r : Bool} (h : impl_isTwoWords p0 = some r) {w : World} :
   Calls Tryd.prog 49 [I p0].toArray w fun e w' => ∃ v, e = .returned v ∧ v = .bool r ∧ Chg Non w w' := by
 unfold impl_isTwoWords at h
 have hs := Sep.nil w Non
 have hM0 : Mem w Non (fun k => (False) ∧ k < w.heap.size) w Non (fun k => (False) ∧ k < w.heap.size) := Mem.start (fun _ h => h.elim) (fun _ h => h.2) (fun _ h => h.elim)
 refine enter (N := 9) Tryd.func49 rfl Tryd.ntmps49 rfl fun fr hF => ?_
 refine wp_seq (wp_pure [(0, I p0)] hF (by kernel_rfl) fun fr hF => then_normal ?_)
 refine wp_seq (region_b [] [true, true, true, true, true, true, true]
     [.eq (I p0), .eq (.bool (decide (p0 ≥ 3))), .eq (.bool (decide (p0 ≥ 3))), .eq (I p0), .eq (.bool (decide (p0 ≤ 16))), .eq (.bool ((decide (p0 ≥ 3)) && (decide (p0 ≤ 16)))), .eq (.bool ((decide (p0 ≥ 3)) && (decide (p0 ≤ 16))))]
     [(2, .bool ((decide (p0 ≥ 3)) && (decide (p0 ≤ 16))))] mix hF (by kernel_rfl) (by kernel_rfl) (by kernel_rfl) trivial (fun hG => trivial) (by kernel_rfl) fun fr w1 hF hE hc => then_normal ?_)
 have hs := hs.ext hc
 have hM0 := hM0.ext hc
 obtain rfl := Option.some.inj h
 exact wp_ret (ret1 rfl hF rfl ⟨_, rfl, rfl, hM0.chg⟩)

theorem impl_parseReg_ok (p0 : Str) {r : Int × Bool} (h : impl_parseReg p0 = some r) {w : World} :
   Calls Tryd.prog 72 [Str.val p0].toArray w fun e w' => ∃ v, e = .returned v ∧ v = .tuple #[I r.1, .bool r.2] ∧ Chg Non w w' := by
 unfold impl_parseReg at h
 have hs := Sep.nil w Non
 have hM0 : Mem w Non (fun k => (False) ∧ k < w.heap.size) w Non (fun k => (False) ∧ k < w.heap.size) := Mem.start (fun _ h => h.elim) (fun _ h => h.2) (fun _ h => h.elim)
 refine enter (N := 26) Tryd.func72 rfl Tryd.ntmps72 rfl fun fr hF => ?_
 refine wp_seq (wp_pure [(0, Str.val p0)] hF (by kernel_rfl) fun fr hF => then_normal ?_)
 refine wp_seq ?_
 obtain ⟨x1, hx1, h⟩ := bindE h
 obtain ⟨x2, hx2, h⟩ := bindE h
 obtain ⟨x3, hx3, h⟩ := bindE h
 refine wp_seq (region_b [] [true, true, true, true, true, false, true, true, true, true, false, true, true, true, true, false, true, true]
     [.eq (Str.val p0), .eq (I (len p0.bytes)), .eq (.bool ((len p0.bytes) != 2)), .eq (.bool ((len p0.bytes) != 2)), .eq (Str.val p0), .eq (.int .u8 x1), .eq (.bool (x1 != 114)), .eq (.bool (((len p0.bytes) != 2) || (x1 != 114))), .eq (.bool (((len p0.bytes) != 2) || (x1 != 114))), .eq (Str.val p0), .eq (.int .u8 x2), .eq (.bool (decide (x2 < 48))), .eq (.bool ((((len p0.bytes) != 2) || (x1 != 114)) || (decide (x2 < 48)))), .eq (.bool ((((len p0.bytes) != 2) || (x1 != 114)) || (decide (x2 < 48)))), .eq (Str.val p0), .eq (.int .u8 x3), .eq (.bool (decide (x3 > 51))), .eq (.bool (((((len p0.bytes) != 2) || (x1 != 114)) || (decide (x2 < 48))) || (decide (x3 > 51))))]
     [(0, Str.val p0), (21, .bool (((((len p0.bytes) != 2) || (x1 != 114)) || (decide (x2 < 48))) || (decide (x3 > 51))))] mix hF (by kernel_rfl) (by kernel_rfl) (by kernel_rfl) ⟨Pd.mono_eq, Pd.mono_eq, Pd.mono_eq, trivial⟩ (fun hG => ⟨np_index_str (s := p0) hG hF Tryd.underlying9 rfl rfl rfl (fun hg => (iteF hg.2 hx1)) rfl, np_index_str (s := p0) hG hF Tryd.underlying9 rfl rfl rfl (fun hg => (iteF hg.2 hx2)) rfl, np_index_str (s := p0) hG hF Tryd.underlying9 rfl rfl rfl (fun hg => (iteF hg.2 hx3)) rfl, trivial⟩) (by kernel_rfl) fun fr w1 hF hE hc => then_normal ?_)
 have hs := hs.ext hc
 have hM0 := hM0.ext hc
 refine (wp_if hF (b := (((((len p0.bytes) != 2) || (x1 != 114)) || (decide (x2 < 48))) || (decide (x3 > 51)))) rfl (fun hb => ?_) (fun hb => ?_))
 · replace h := iteT hb h
   refine wp_seq (wp_pure [(2, I 0), (3, .bool false)] hF (by kernel_rfl) fun fr hF => then_normal ?_)
   have hrets := fun {σ : List (Nat × Value)} (h : σ = [(2, I 0), (3, .bool false)]) => (by subst h; exact (Rets.tmp rfl (Rets.tmp rfl Rets.nil)) : Rets Tryd.prog σ w1 [.tmp 2, .tmp 3] [I 0, .bool false])
   obtain rfl := Option.some.inj h
   exact wp_ret (then_ret (retG (rs := [.tmp 2, .tmp 3]) rfl (hF.sub [(2, I 0), (3, .bool false)] (by kernel_rfl)) (hrets rfl) rfl ⟨_, rfl, rfl, hM0.chg⟩))
 replace h := iteF hb h
 refine (wp_skip (then_normal ?_))
 refine wp_seq (wp_text' ?_)
 refine from_pure 1 [(22, Str.val p0)] hF (by kernel_rfl) fun fr hF => ?_
 obtain ⟨x4, hx4, h⟩ := bindE h
 refine s_index (s := p0) Tryd.underlying9 rfl rfl hF rfl rfl hx4 fun fr hF => ?_
 refine from_pure 4 [(2, I (w64 (IntKind.u8.wrap (x4 - 48)))), (3, .bool true)] hF (by kernel_rfl) fun fr hF => ?_
 refine from_end rfl (then_normal ?_)
 have hrets := fun {σ : List (Nat × Value)} (h : σ = [(2, I (w64 (IntKind.u8.wrap (x4 - 48)))), (3, .bool true)]) => (by subst h; exact (Rets.tmp rfl (Rets.tmp rfl Rets.nil)) : Rets Tryd.prog σ w1 [.tmp 2, .tmp 3] [I (w64 (IntKind.u8.wrap (x4 - 48))), .bool true])
 obtain rfl := Option.some.inj h
 exact wp_ret (retG (rs := [.tmp 2, .tmp 3]) rfl (hF.sub [(2, I (w64 (IntKind.u8.wrap (x4 - 48)))), (3, .bool true)] (by kernel_rfl)) (hrets rfl) rfl ⟨_, rfl, rfl, hM0.chg⟩)



theorem strconv_Itoa_ok (p0 : Int) {r : Str} (h : strconv_Itoa p0 = some r) {w : World} {G99 : Nat → Prop} (tb : TX Tryd.prog w G99) :
   Calls Tryd.prog 67 [I p0].toArray w fun e w' => ∃ v, e = .returned v ∧ v = Str.val r ∧ Chg Non w w' := by
 unfold strconv_Itoa at h
 split at h
 · rename_i hl
   obtain rfl := Option.some.inj h
   refine (Tryd.strconv_Itoa p0 hl.1 hl.2 w tb.tab).mono ?_
   rintro e w' ⟨rfl, k, os, rfl⟩
   exact ⟨_, rfl, rfl, chg_grow w k os⟩
 · cases h

theorem impl_ParseInt_ok (p0 : Str) {r : Int × Bool} (h : impl_ParseInt p0 = some r) {w : World} {G99 : Nat → Prop} (tb : TX Tryd.prog w G99) :
   Calls Tryd.prog 55 [Str.val p0].toArray w fun e w' => ∃ v, e = .returned v ∧ v = .tuple #[I r.1, .bool r.2] ∧ Chg Non w w' := by
 unfold impl_ParseInt at h
 have hs := Sep.nil w Non
 have hM0 : Mem w Non (fun k => (G99 k) ∧ k < w.heap.size) w Non (fun k => (G99 k) ∧ k < w.heap.size) := Mem.start (fun _ h => h.elim) (fun _ h => h.2) (fun _ h => h.elim)
 have tb := tb.sub (F' := (fun k => (G99 k) ∧ k < w.heap.size)) (fun k hk h => ⟨h, hk⟩)
 refine enter (N := 20) Tryd.func55 rfl Tryd.ntmps55 rfl fun fr hF => ?_
 refine wp_seq (wp_pure [(0, Str.val p0)] hF (by kernel_rfl) fun fr hF => then_normal ?_)
 refine wp_seq (wp_text' ?_)
 refine from_pure 1 [(0, Str.val p0), (7, Str.val p0)] hF (by kernel_rfl) fun fr hF => ?_
 obtain ⟨x1, hx1, h⟩ := bindE h
 refine s_call [Str.val p0] Tryd.call74 rfl rfl hF rfl (strconv_Atoi_ok p0 hx1 tb) fun v w1 fr hRes hF => ?_
 obtain ⟨u1, rfl, hu1, hc⟩ := hRes
 have tb := tb.ext hc
 have hs := hs.ext hc
 have hM0 := hM0.ext hc
 refine from_pure 5 [(0, Str.val p0), (4, I x1.1), (5, u1)] hF (by kernel_rfl) fun fr hF => ?_
 refine from_end rfl (then_normal ?_)
 refine wp_seq ?_
 refine wp_seq (wp_text' ?_)
 refine from_pure 1 [(0, Str.val p0), (4, I x1.1), (11, u1)] hF (by kernel_rfl) fun fr hF => ?_
 refine s_bin rfl rfl hF rfl rfl (err_guard hu1 _ _ _ _ _) (err_neq Tryd.underlying68 hu1 _) fun fr hF => ?_
 refine from_pure 1 [(0, Str.val p0), (4, I x1.1), (13, .bool x1.2)] hF (by kernel_rfl) fun fr hF => ?_
 rcases ite_split (b := x1.2) h with ⟨hg1, h⟩ | ⟨hg1, h⟩
 · simp only [hg1] at hF
   refine from_skip hF rfl rfl rfl rfl rfl rfl rfl rfl rfl fun fr hF => ?_
   refine from_skip hF rfl rfl rfl rfl rfl rfl rfl rfl rfl fun fr hF => ?_
   refine from_skip hF rfl rfl rfl rfl rfl rfl rfl rfl rfl fun fr hF => ?_
   refine from_skip hF rfl rfl rfl rfl rfl rfl rfl rfl rfl fun fr hF => ?_
   refine from_pick rfl rfl hF rfl rfl fun fr hF => ?_
   refine from_end rfl (then_normal ?_)
   refine (wp_if hF (b := true) rfl (fun hb => ?_) (fun hb => ?_))
   · replace h := iteT hb h
     refine wp_seq (wp_pure [(2, I 0), (3, .bool false)] hF (by kernel_rfl) fun fr hF => then_normal ?_)
     have hrets := fun {σ : List (Nat × Value)} (h : σ = [(2, I 0), (3, .bool false)]) => (by subst h; exact (Rets.tmp rfl (Rets.tmp rfl Rets.nil)) : Rets Tryd.prog σ w1 [.tmp 2, .tmp 3] [I 0, .bool false])
     obtain rfl := Option.some.inj h
     exact wp_ret (then_ret (retG (rs := [.tmp 2, .tmp 3]) rfl (hF.sub [(2, I 0), (3, .bool false)] (by kernel_rfl)) (hrets rfl) rfl ⟨_, rfl, rfl, hM0.chg⟩))
   replace h := iteF hb h
   refine (wp_skip (then_normal ?_))
   refine wp_seq (wp_pure [(2, I x1.1), (3, .bool true)] hF (by kernel_rfl) fun fr hF => then_normal ?_)
   have hrets := fun {σ : List (Nat × Value)} (h : σ = [(2, I x1.1), (3, .bool true)]) => (by subst h; exact (Rets.tmp rfl (Rets.tmp rfl Rets.nil)) : Rets Tryd.prog σ w1 [.tmp 2, .tmp 3] [I x1.1, .bool true])
   obtain rfl := Option.some.inj h
   exact wp_ret (retG (rs := [.tmp 2, .tmp 3]) rfl (hF.sub [(2, I x1.1), (3, .bool true)] (by kernel_rfl)) (hrets rfl) rfl ⟨_, rfl, rfl, hM0.chg⟩)
 simp only [hg1] at hF
 refine from_takeL hF rfl rfl rfl rfl rfl rfl ?_
 dsimp only [List.set]
 refine from_pure 1 [(0, Str.val p0), (4, I x1.1), (13, .bool false), (14, I x1.1)] hF (by kernel_rfl) fun fr hF => ?_
 refine from_takeL hF rfl rfl rfl rfl rfl rfl ?_
 dsimp only [List.set]
 obtain ⟨x2, hx2, h⟩ := bindE h
 refine s_call [I x1.1] Tryd.call67 rfl rfl hF rfl (strconv_Itoa_ok x1.1 hx2 tb) fun v w2 fr hRes hF => ?_
 obtain ⟨rfl, hc⟩ := hRes
 have tb := tb.ext hc
 have hs := hs.ext hc
 have hM0 := hM0.ext hc
 refine from_takeL hF rfl rfl rfl rfl rfl rfl ?_
 dsimp only [List.set]
 refine from_pure 1 [(4, I x1.1), (13, .bool false), (15, Str.val x2), (16, Str.val p0)] hF (by kernel_rfl) fun fr hF => ?_
 refine from_takeL hF rfl rfl rfl rfl rfl rfl ?_
 dsimp only [List.set]
 refine from_pure 1 [(4, I x1.1), (13, .bool false), (17, .bool (!(Str.eqb x2 p0)))] hF (by kernel_rfl) fun fr hF => ?_
 refine from_pick rfl rfl hF rfl rfl fun fr hF => ?_
 refine from_end rfl (then_normal ?_)
 refine (wp_if hF (b := (!(Str.eqb x2 p0))) rfl (fun hb => ?_) (fun hb => ?_))
 · replace h := iteT hb h
   refine wp_seq (wp_pure [(2, I 0), (3, .bool false)] hF (by kernel_rfl) fun fr hF => then_normal ?_)
   have hrets := fun {σ : List (Nat × Value)} (h : σ = [(2, I 0), (3, .bool false)]) => (by subst h; exact (Rets.tmp rfl (Rets.tmp rfl Rets.nil)) : Rets Tryd.prog σ w2 [.tmp 2, .tmp 3] [I 0, .bool false])
   obtain rfl := Option.some.inj h
   exact wp_ret (then_ret (retG (rs := [.tmp 2, .tmp 3]) rfl (hF.sub [(2, I 0), (3, .bool false)] (by kernel_rfl)) (hrets rfl) rfl ⟨_, rfl, rfl, hM0.chg⟩))
 replace h := iteF hb h
 refine (wp_skip (then_normal ?_))
 refine wp_seq (wp_pure [(2, I x1.1), (3, .bool true)] hF (by kernel_rfl) fun fr hF => then_normal ?_)
 have hrets := fun {σ : List (Nat × Value)} (h : σ = [(2, I x1.1), (3, .bool true)]) => (by subst h; exact (Rets.tmp rfl (Rets.tmp rfl Rets.nil)) : Rets Tryd.prog σ w2 [.tmp 2, .tmp 3] [I x1.1, .bool true])
 obtain rfl := Option.some.inj h
 exact wp_ret (retG (rs := [.tmp 2, .tmp 3]) rfl (hF.sub [(2, I x1.1), (3, .bool true)] (by kernel_rfl)) (hrets rfl) rfl ⟨_, rfl, rfl, hM0.chg⟩)

theorem impl_parseOperand_ok (p0 : Str) {r : Int} (h : impl_parseOperand p0 = some r) {w : World} {G99 : Nat → Prop} (tb : TX Tryd.prog w G99) :
   Calls Tryd.prog 50 [Str.val p0].toArray w fun e w' => ∃ v, e = .returned v ∧ v = I r ∧ Chg Non w w' := by
 unfold impl_parseOperand at h
 have hs := Sep.nil w Non
 have hM0 : Mem w Non (fun k => (G99 k) ∧ k < w.heap.size) w Non (fun k => (G99 k) ∧ k < w.heap.size) := Mem.start (fun _ h => h.elim) (fun _ h => h.2) (fun _ h => h.elim)
 have tb := tb.sub (F' := (fun k => (G99 k) ∧ k < w.heap.size)) (fun k hk h => ⟨h, hk⟩)
 refine enter (N := 20) Tryd.func50 rfl Tryd.ntmps50 rfl fun fr hF => ?_
 refine wp_seq (wp_pure [(0, Str.val p0)] hF (by kernel_rfl) fun fr hF => then_normal ?_)
 refine wp_seq ?_
 refine wp_seq (wp_text' ?_)
 refine from_pure 1 [(0, Str.val p0), (8, Str.val p0)] hF (by kernel_rfl) fun fr hF => ?_
 obtain ⟨x1, hx1, h⟩ := bindE h
 refine s_call [Str.val p0] Tryd.call72 rfl rfl hF rfl (impl_parseReg_ok p0 hx1) fun v w1 fr hRes hF => ?_
 obtain ⟨rfl, hc⟩ := hRes
 have tb := tb.ext hc
 have hs := hs.ext hc
 have hM0 := hM0.ext hc
 refine from_pure 5 [(0, Str.val p0), (3, I x1.1), (4, .bool x1.2)] hF (by kernel_rfl) fun fr hF => ?_
 refine from_end rfl (then_normal ?_)
 refine wp_seq (wp_pure [(0, Str.val p0), (3, I x1.1), (12, .bool x1.2)] hF (by kernel_rfl) fun fr hF => then_normal ?_)
 refine (wp_if hF (b := x1.2) rfl (fun hb => ?_) (fun hb => ?_))
 · replace h := iteT hb h
   refine wp_seq (wp_pure [(2, I x1.1)] hF (by kernel_rfl) fun fr hF => then_normal ?_)
   obtain rfl := Option.some.inj h
   exact wp_ret (then_ret (ret1 rfl hF rfl ⟨_, rfl, rfl, hM0.chg⟩))
 replace h := iteF hb h
 refine (wp_skip (then_normal ?_))
 refine wp_seq (wp_text' ?_)
 refine from_pure 1 [(15, Str.val p0)] hF (by kernel_rfl) fun fr hF => ?_
 obtain ⟨x2, hx2, h⟩ := bindE h
 refine s_call [Str.val p0] Tryd.call55 rfl rfl hF rfl (impl_ParseInt_ok p0 hx2 tb) fun v w2 fr hRes hF => ?_
 obtain ⟨rfl, hc⟩ := hRes
 have tb := tb.ext hc
 have hs := hs.ext hc
 have hM0 := hM0.ext hc
 refine from_pure 5 [(5, I x2.1)] hF (by kernel_rfl) fun fr hF => ?_
 refine from_end rfl (then_normal ?_)
 refine wp_seq (wp_pure [(2, I x2.1)] hF (by kernel_rfl) fun fr hF => then_normal ?_)
 obtain rfl := Option.some.inj h
 exact wp_ret (ret1 rfl hF rfl ⟨_, rfl, rfl, hM0.chg⟩)

theorem impl_shapeOk_ok (p0 : Int) (p1 : Int) {r : Bool} (h : impl_shapeOk p0 p1 = some r) {w : World} :
   Calls Tryd.prog 29 [I p0, I p1].toArray w fun e w' => ∃ v, e = .returned v ∧ v = .bool r ∧ Chg Non w w' := by
 unfold impl_shapeOk at h
 have hs := Sep.nil w Non
 have hM0 : Mem w Non (fun k => (False) ∧ k < w.heap.size) w Non (fun k => (False) ∧ k < w.heap.size) := Mem.start (fun _ h => h.elim) (fun _ h => h.2) (fun _ h => h.elim)
 refine enter (N := 19) Tryd.func29 rfl Tryd.ntmps29 rfl fun fr hF => ?_
 refine wp_seq (wp_pure [(0, I p0), (1, I p1)] hF (by kernel_rfl) fun fr hF => then_normal ?_)
 refine wp_seq (region_b [] [true, true, true, true, true, true, true, true, true, true, true, true, true, true, true]
     [.eq (I p0), .eq (.bool (decide (p0 ≥ 2))), .eq (.bool (decide (p0 ≥ 2))), .eq (I p0), .eq (.bool (decide (p0 ≤ 8))), .eq (.bool ((decide (p0 ≥ 2)) && (decide (p0 ≤ 8)))), .eq (.bool ((decide (p0 ≥ 2)) && (decide (p0 ≤ 8)))), .eq (I p1), .eq (.bool (decide (p1 ≥ 1))), .eq (.bool (((decide (p0 ≥ 2)) && (decide (p0 ≤ 8))) && (decide (p1 ≥ 1)))), .eq (.bool (((decide (p0 ≥ 2)) && (decide (p0 ≤ 8))) && (decide (p1 ≥ 1)))), .eq (I p1), .eq (.bool (decide (p1 ≤ 40))), .eq (.bool ((((decide (p0 ≥ 2)) && (decide (p0 ≤ 8))) && (decide (p1 ≥ 1))) && (decide (p1 ≤ 40)))), .eq (.bool ((((decide (p0 ≥ 2)) && (decide (p0 ≤ 8))) && (decide (p1 ≥ 1))) && (decide (p1 ≤ 40))))]
     [(4, .bool ((((decide (p0 ≥ 2)) && (decide (p0 ≤ 8))) && (decide (p1 ≥ 1))) && (decide (p1 ≤ 40))))] mix hF (by kernel_rfl) (by kernel_rfl) (by kernel_rfl) trivial (fun hG => trivial) (by kernel_rfl) fun fr w1 hF hE hc => then_normal ?_)
 have hs := hs.ext hc
 have hM0 := hM0.ext hc
 obtain rfl := Option.some.inj h
 exact wp_ret (ret1 rfl hF rfl ⟨_, rfl, rfl, hM0.chg⟩)

theorem impl_isReg_ok (p0 : Int) {r : Bool} (h : impl_isReg p0 = some r) {w : World} :
   Calls Tryd.prog 65 [I p0].toArray w fun e w' => ∃ v, e = .returned v ∧ v = .bool r ∧ Chg Non w w' := by
 unfold impl_isReg at h
 have hs := Sep.nil w Non
 have hM0 : Mem w Non (fun k => (False) ∧ k < w.heap.size) w Non (fun k => (False) ∧ k < w.heap.size) := Mem.start (fun _ h => h.elim) (fun _ h => h.2) (fun _ h => h.elim)
 refine enter (N := 9) Tryd.func65 rfl Tryd.ntmps65 rfl fun fr hF => ?_
 refine wp_seq (wp_pure [(0, I p0)] hF (by kernel_rfl) fun fr hF => then_normal ?_)
 refine wp_seq (region_b [] [true, true, true, true, true, true, true]
     [.eq (I p0), .eq (.bool (decide (p0 ≥ 0))), .eq (.bool (decide (p0 ≥ 0))), .eq (I p0), .eq (.bool (decide (p0 < 4))), .eq (.bool ((decide (p0 ≥ 0)) && (decide (p0 < 4)))), .eq (.bool ((decide (p0 ≥ 0)) && (decide (p0 < 4))))]
     [(2, .bool ((decide (p0 ≥ 0)) && (decide (p0 < 4))))] mix hF (by kernel_rfl) (by kernel_rfl) (by kernel_rfl) trivial (fun hG => trivial) (by kernel_rfl) fun fr w1 hF hE hc => then_normal ?_)
 have hs := hs.ext hc
 have hM0 := hM0.ext hc
 obtain rfl := Option.some.inj h
 exact wp_ret (ret1 rfl hF rfl ⟨_, rfl, rfl, hM0.chg⟩)

theorem impl_isWidth_ok (p0 : Int) {r : Bool} (h : impl_isWidth p0 = some r) {w : World} :
   Calls Tryd.prog 79 [I p0].toArray w fun e w' => ∃ v, e = .returned v ∧ v = .bool r ∧ Chg Non w w' := by
 unfold impl_isWidth at h
 have hs := Sep.nil w Non
 have hM0 : Mem w Non (fun k => (False) ∧ k < w.heap.size) w Non (fun k => (False) ∧ k < w.heap.size) := Mem.start (fun _ h => h.elim) (fun _ h => h.2) (fun _ h => h.elim)
 refine enter (N := 9) Tryd.func79 rfl Tryd.ntmps79 rfl fun fr hF => ?_
 refine wp_seq (wp_pure [(0, I p0)] hF (by kernel_rfl) fun fr hF => then_normal ?_)
 refine wp_seq (region_b [] [true, true, true, true, true, true, true]
     [.eq (I p0), .eq (.bool (decide (p0 ≥ 1))), .eq (.bool (decide (p0 ≥ 1))), .eq (I p0), .eq (.bool (decide (p0 ≤ 16))), .eq (.bool ((decide (p0 ≥ 1)) && (decide (p0 ≤ 16)))), .eq (.bool ((decide (p0 ≥ 1)) && (decide (p0 ≤ 16))))]
     [(2, .bool ((decide (p0 ≥ 1)) && (decide (p0 ≤ 16))))] mix hF (by kernel_rfl) (by kernel_rfl) (by kernel_rfl) trivial (fun hG => trivial) (by kernel_rfl) fun fr w1 hF hE hc => then_normal ?_)
 have hs := hs.ext hc
 have hM0 := hM0.ext hc
 obtain rfl := Option.some.inj h
 exact wp_ret (ret1 rfl hF rfl ⟨_, rfl, rfl, hM0.chg⟩)

theorem impl_WordOk_ok (p0 : Int) (p1 : Int) {r : Bool} (h : impl_WordOk p0 p1 = some r) {w : World} :
   Calls Tryd.prog 66 [I p0, I p1].toArray w fun e w' => ∃ v, e = .returned v ∧ v = .bool r ∧ Chg Non w w' := by
 unfold impl_WordOk at h
 have hs := Sep.nil w Non
 have hM0 : Mem w Non (fun k => (False) ∧ k < w.heap.size) w Non (fun k => (False) ∧ k < w.heap.size) := Mem.start (fun _ h => h.elim) (fun _ h => h.2) (fun _ h => h.elim)
 refine enter (N := 18) Tryd.func66 rfl Tryd.ntmps66 rfl fun fr hF => ?_
 refine wp_seq (wp_pure [(0, I p0), (1, I p1)] hF (by kernel_rfl) fun fr hF => then_normal ?_)
 obtain ⟨x1, hx1, h⟩ := bindE h
 obtain ⟨x2, hx2, h⟩ := bindE h
 refine wp_seq (region_b [] [true, false, true, true, true, true, true, true, true, true, false, true, true, true]
     [.eq (I p0), .eq (.bool x1), .eq (.bool x1), .eq (I p1), .eq (.bool (decide (p1 ≥ 0))), .eq (.bool (x1 && (decide (p1 ≥ 0)))), .eq (.bool (x1 && (decide (p1 ≥ 0)))), .eq (I p1), .eq (I p0), .eq (.int .u64 (IntKind.u64.wrap p0)), .eq (I x2), .eq (.bool (decide (p1 < x2))), .eq (.bool ((x1 && (decide (p1 ≥ 0))) && (decide (p1 < x2)))), .eq (.bool ((x1 && (decide (p1 ≥ 0))) && (decide (p1 < x2))))]
     [(4, .bool ((x1 && (decide (p1 ≥ 0))) && (decide (p1 < x2))))] mix hF (by kernel_rfl) (by kernel_rfl) (by kernel_rfl) ⟨Pd.mono_eq, Pd.mono_eq, trivial⟩ (fun hG => ⟨np_call [I p0] hG hF Tryd.call79 rfl rfl (fun w hC hg => (impl_isWidth_ok p0 hx1).mono fun e w' ⟨v, he, hv, hc⟩ => ⟨v, he, hc, hv⟩), np_shl hG hF rfl rfl rfl (fun hg => (iteT hg.2 hx2)) rfl, trivial⟩) (by kernel_rfl) fun fr w1 hF hE hc => then_normal ?_)
 have hs := hs.ext hc
 have hM0 := hM0.ext hc
 obtain rfl := Option.some.inj h
 exact wp_ret (ret1 rfl hF rfl ⟨_, rfl, rfl, hM0.chg⟩)

theorem impl_insOk_ok (p0 : D.Ins) (p1 : Int) (p2 : Int) {r : Bool} (h : impl_insOk p0 p1 p2 = some r) {w : World} :
   Calls Tryd.prog 30 [.agg #[I p0.Op, I p0.A, I p0.B, I p0.C], I p1, I p2].toArray w fun e w' => ∃ v, e = .returned v ∧ v = .bool r ∧ Chg Non w w' := by
 unfold impl_insOk at h
 have hs := Sep.nil w Non
 have hM0 : Mem w Non (fun k => (False) ∧ k < w.heap.size) w Non (fun k => (False) ∧ k < w.heap.size) := Mem.start (fun _ h => h.elim) (fun _ h => h.2) (fun _ h => h.elim)
 refine enter (N := 102) Tryd.func30 rfl Tryd.ntmps30 rfl fun fr hF => ?_
 refine wp_seq (wp_text' ?_)
 refine q_box hs hM0 [I p0.Op, I p0.A, I p0.B, I p0.C] rfl rfl hF rfl rfl fun b1 w1 S1 fr hs hp hF => ?_
 have hM0 := hM0.stp hp
 have hs : Sep [BX b1 25 [I p0.Op, I p0.A, I p0.B, I p0.C]] w1 S1 := hs
 refine from_pure 1 [(1, I p1), (2, I p2), (3, B b1 0)] hF (by kernel_rfl) fun fr hF => ?_
 refine from_end rfl (then_normal ?_)
 refine wp_seq (region_b [] [true, false, true, true, true, false, true, true, true, true]
     [.eq (B b1 2), .eq (I p0.B), .eq (.bool (decide (p0.B ≥ 0))), .eq (.bool (decide (p0.B ≥ 0))), .eq (B b1 2), .eq (I p0.B), .eq (I p2), .eq (.bool (decide (p0.B ≤ p2))), .eq (.bool ((decide (p0.B ≥ 0)) && (decide (p0.B ≤ p2)))), .eq (.bool ((decide (p0.B ≥ 0)) && (decide (p0.B ≤ p2))))]
     [(1, I p1), (3, B b1 0), (7, .bool ((decide (p0.B ≥ 0)) && (decide (p0.B ≤ p2))))] mix hF (by kernel_rfl) (by kernel_rfl) (by kernel_rfl) ⟨Pd.mono_eq, Pd.mono_eq, trivial⟩ (fun hG => ⟨np_loadBox hG hF ty3 rfl rfl (hs.bx 0 rfl) rfl rfl rfl, np_loadBox hG hF ty3 rfl rfl (hs.bx 0 rfl) rfl rfl rfl, trivial⟩) (by kernel_rfl) fun fr w2 hF hE hc => then_normal ?_)
 have hs := hs.ext hc
 have hM0 := hM0.ext hc
 refine wp_seq ?_
 refine wp_seq (wp_text' ?_)
 refine from_pure 1 [(1, I p1), (3, B b1 0), (7, .bool ((decide (p0.B ≥ 0)) && (decide (p0.B ≤ p2)))), (17, B b1 0)] hF (by kernel_rfl) fun fr hF => ?_
 refine s_loadBox (I p0.Op) ty3 rfl rfl hF rfl (hs.bx 0 rfl) rfl rfl fun fr hF => ?_
 refine from_pure 1 [(1, I p1), (3, B b1 0), (7, .bool ((decide (p0.B ≥ 0)) && (decide (p0.B ≤ p2)))), (19, .bool (p0.Op == 3))] hF (by kernel_rfl) fun fr hF => ?_
 refine from_end rfl (then_normal ?_)
 refine (wp_if hF (b := (p0.Op == 3)) rfl (fun hb => ?_) (fun hb => ?_))
 · replace h := iteT hb h
   obtain ⟨x1, hx1, h⟩ := bindE h
   obtain ⟨x2, hx2, h⟩ := bindE h
   obtain ⟨x3, hx3, h⟩ := bindE h
   refine wp_seq (region_b [] [true, false, false, true, true, false, false, true, true, true, false, false, true, true]
       [.eq (B b1 1), .eq (I p0.A), .eq (.bool x1), .eq (.bool x1), .eq (B b1 2), .eq (I p0.B), .eq (.bool x2), .eq (.bool (x1 && x2)), .eq (.bool (x1 && x2)), .eq (B b1 3), .eq (I p0.C), .eq (.bool x3), .eq (.bool ((x1 && x2) && x3)), .eq (.bool ((x1 && x2) && x3))]
       [(6, .bool ((x1 && x2) && x3))] mix hF (by kernel_rfl) (by kernel_rfl) (by kernel_rfl) ⟨Pd.mono_eq, Pd.mono_eq, Pd.mono_eq, Pd.mono_eq, Pd.mono_eq, Pd.mono_eq, trivial⟩ (fun hG => ⟨np_loadBox hG hF ty3 rfl rfl (hs.bx 0 rfl) rfl rfl rfl, np_call [I p0.A] hG hF Tryd.call65 rfl rfl (fun w hC hg => (impl_isReg_ok p0.A hx1).mono fun e w' ⟨v, he, hv, hc⟩ => ⟨v, he, hc, hv⟩), np_loadBox hG hF ty3 rfl rfl (hs.bx 0 rfl) rfl rfl rfl, np_call [I p0.B] hG hF Tryd.call65 rfl rfl (fun w hC hg => (impl_isReg_ok p0.B (iteT hg.2 hx2)).mono fun e w' ⟨v, he, hv, hc⟩ => ⟨v, he, hc, hv⟩), np_loadBox hG hF ty3 rfl rfl (hs.bx 0 rfl) rfl rfl rfl, np_call [I p0.C] hG hF Tryd.call49 rfl rfl (fun w hC hg => (impl_isTwoWords_ok p0.C (iteT hg.2 hx3)).mono fun e w' ⟨v, he, hv, hc⟩ => ⟨v, he, hc, hv⟩), trivial⟩) (by kernel_rfl) fun fr w3 hF hE hc => then_normal ?_)
   have hs := hs.ext hc
   have hM0 := hM0.ext hc
   have hs : Sep [] w3 S1 := Sep.pick [] hs (by decide) rfl
   obtain rfl := Option.some.inj h
   exact wp_ret (then_ret (ret1 rfl hF rfl ⟨_, rfl, rfl, hM0.chg⟩))
 replace h := iteF hb h
 refine (wp_skip (then_normal ?_))
 refine wp_seq ?_
 refine wp_seq (wp_text' ?_)
 refine from_pure 1 [(1, I p1), (3, B b1 0), (7, .bool ((decide (p0.B ≥ 0)) && (decide (p0.B ≤ p2)))), (33, B b1 3)] hF (by kernel_rfl) fun fr hF => ?_
 refine s_loadBox (I p0.C) ty3 rfl rfl hF rfl (hs.bx 0 rfl) rfl rfl fun fr hF => ?_
 refine from_pure 1 [(1, I p1), (3, B b1 0), (7, .bool ((decide (p0.B ≥ 0)) && (decide (p0.B ≤ p2)))), (35, .bool (p0.C != 0))] hF (by kernel_rfl) fun fr hF => ?_
 refine from_end rfl (then_normal ?_)
 refine (wp_if hF (b := (p0.C != 0)) rfl (fun hb => ?_) (fun hb => ?_))
 · replace h := iteT hb h
   have hs : Sep [] w2 S1 := Sep.pick [] hs (by decide) rfl
   refine wp_seq (wp_pure [(6, .bool false)] hF (by kernel_rfl) fun fr hF => then_normal ?_)
   obtain rfl := Option.some.inj h
   exact wp_ret (then_ret (ret1 rfl hF rfl ⟨_, rfl, rfl, hM0.chg⟩))
 replace h := iteF hb h
 refine (wp_skip (then_normal ?_))
 refine wp_seq ?_
 refine wp_seq (wp_text' ?_)
 refine from_pure 1 [(1, I p1), (3, B b1 0), (7, .bool ((decide (p0.B ≥ 0)) && (decide (p0.B ≤ p2)))), (36, B b1 0)] hF (by kernel_rfl) fun fr hF => ?_
 refine s_loadBox (I p0.Op) ty3 rfl rfl hF rfl (hs.bx 0 rfl) rfl rfl fun fr hF => ?_
 refine from_end rfl (then_normal ?_)
 refine (wp_block ?_)
 refine wp_seq (wp_pure [(1, I p1), (3, B b1 0), (7, .bool ((decide (p0.B ≥ 0)) && (decide (p0.B ≤ p2)))), (37, I p0.Op), (38, .bool (p0.Op == 1))] hF (by kernel_rfl) fun fr hF => then_normal ?_)
 refine (wp_if hF (b := (p0.Op == 1)) rfl (fun hb => ?_) (fun hb => ?_))
 · replace h := iteT hb h
   obtain ⟨x4, hx4, h⟩ := bindE h
   obtain ⟨x5, hx5, h⟩ := bindE h
   refine wp_seq (region_b [] [true, false, false, true, true, true, false, false, true, true]
       [.eq (B b1 1), .eq (I p0.A), .eq (.bool x4), .eq (.bool x4), .eq (I p1), .eq (B b1 2), .eq (I p0.B), .eq (.bool x5), .eq (.bool (x4 && x5)), .eq (.bool (x4 && x5))]
       [(6, .bool (x4 && x5))] mix hF (by kernel_rfl) (by kernel_rfl) (by kernel_rfl) ⟨Pd.mono_eq, Pd.mono_eq, Pd.mono_eq, Pd.mono_eq, trivial⟩ (fun hG => ⟨np_loadBox hG hF ty3 rfl rfl (hs.bx 0 rfl) rfl rfl rfl, np_call [I p0.A] hG hF Tryd.call65 rfl rfl (fun w hC hg => (impl_isReg_ok p0.A hx4).mono fun e w' ⟨v, he, hv, hc⟩ => ⟨v, he, hc, hv⟩), np_loadBox hG hF ty3 rfl rfl (hs.bx 0 rfl) rfl rfl rfl, np_call [I p1, I p0.B] hG hF Tryd.call66 rfl rfl (fun w hC hg => (impl_WordOk_ok p1 p0.B (iteT hg.2 hx5)).mono fun e w' ⟨v, he, hv, hc⟩ => ⟨v, he, hc, hv⟩), trivial⟩) (by kernel_rfl) fun fr w4 hF hE hc => then_normal ?_)
   have hs := hs.ext hc
   have hM0 := hM0.ext hc
   have hs : Sep [] w4 S1 := Sep.pick [] hs (by decide) rfl
   obtain rfl := Option.some.inj h
   exact wp_ret (blk_ret (then_ret (ret1 rfl hF rfl ⟨_, rfl, rfl, hM0.chg⟩)))
 replace h := iteF hb h
 refine wp_seq ?_
 refine wp_seq (wp_pure [(3, B b1 0), (7, .bool ((decide (p0.B ≥ 0)) && (decide (p0.B ≤ p2)))), (37, I p0.Op), (49, .bool (p0.Op == 2))] hF (by kernel_rfl) fun fr hF => then_normal ?_)
 refine (wp_if hF (b := (p0.Op == 2)) rfl (fun hb => ?_) (fun hb => ?_))
 · replace h := iteT hb h
   refine (wp_skip (then_normal ?_))
   refine (wp_if hF (b := (p0.Op == 2)) rfl (fun hb => ?_) (fun hb => ?_))
   · replace h := iteT hb h
     obtain ⟨x6, hx6, h⟩ := bindE h
     obtain ⟨x7, hx7, h⟩ := bindE h
     refine wp_seq (region_b [] [true, false, false, true, true, false, false, true, true]
         [.eq (B b1 1), .eq (I p0.A), .eq (.bool x6), .eq (.bool x6), .eq (B b1 2), .eq (I p0.B), .eq (.bool x7), .eq (.bool (x6 && x7)), .eq (.bool (x6 && x7))]
         [(6, .bool (x6 && x7))] mix hF (by kernel_rfl) (by kernel_rfl) (by kernel_rfl) ⟨Pd.mono_eq, Pd.mono_eq, Pd.mono_eq, Pd.mono_eq, trivial⟩ (fun hG => ⟨np_loadBox hG hF ty3 rfl rfl (hs.bx 0 rfl) rfl rfl rfl, np_call [I p0.A] hG hF Tryd.call65 rfl rfl (fun w hC hg => (impl_isReg_ok p0.A hx6).mono fun e w' ⟨v, he, hv, hc⟩ => ⟨v, he, hc, hv⟩), np_loadBox hG hF ty3 rfl rfl (hs.bx 0 rfl) rfl rfl rfl, np_call [I p0.B] hG hF Tryd.call65 rfl rfl (fun w hC hg => (impl_isReg_ok p0.B (iteT hg.2 hx7)).mono fun e w' ⟨v, he, hv, hc⟩ => ⟨v, he, hc, hv⟩), trivial⟩) (by kernel_rfl) fun fr w5 hF hE hc => then_normal ?_)
     have hs := hs.ext hc
     have hM0 := hM0.ext hc
     have hs : Sep [] w5 S1 := Sep.pick [] hs (by decide) rfl
     obtain rfl := Option.some.inj h
     exact wp_ret (blk_ret (then_ret (ret1 rfl hF rfl ⟨_, rfl, rfl, hM0.chg⟩)))
   replace h := iteF hb h
   refine wp_seq ?_
   refine wp_seq (wp_pure [(3, B b1 0), (7, .bool ((decide (p0.B ≥ 0)) && (decide (p0.B ≤ p2)))), (37, I p0.Op), (61, .bool (p0.Op == 4))] hF (by kernel_rfl) fun fr hF => then_normal ?_)
   refine (wp_if hF (b := (p0.Op == 4)) rfl (fun hb => ?_) (fun hb => ?_))
   · replace h := iteT hb h
     refine (wp_skip (then_normal ?_))
     refine (wp_if hF (b := (p0.Op == 4)) rfl (fun hb => ?_) (fun hb => ?_))
     · replace h := iteT hb h
       obtain ⟨x8, hx8, h⟩ := bindE h
       refine wp_seq (region_b [] [true, false, false, true, true, false, true, true, true]
           [.eq (B b1 1), .eq (I p0.A), .eq (.bool x8), .eq (.bool x8), .eq (B b1 2), .eq (I p0.B), .eq (.bool (p0.B == 0)), .eq (.bool (x8 && (p0.B == 0))), .eq (.bool (x8 && (p0.B == 0)))]
           [(6, .bool (x8 && (p0.B == 0)))] mix hF (by kernel_rfl) (by kernel_rfl) (by kernel_rfl) ⟨Pd.mono_eq, Pd.mono_eq, Pd.mono_eq, trivial⟩ (fun hG => ⟨np_loadBox hG hF ty3 rfl rfl (hs.bx 0 rfl) rfl rfl rfl, np_call [I p0.A] hG hF Tryd.call65 rfl rfl (fun w hC hg => (impl_isReg_ok p0.A hx8).mono fun e w' ⟨v, he, hv, hc⟩ => ⟨v, he, hc, hv⟩), np_loadBox hG hF ty3 rfl rfl (hs.bx 0 rfl) rfl rfl rfl, trivial⟩) (by kernel_rfl) fun fr w6 hF hE hc => then_normal ?_)
       have hs := hs.ext hc
       have hM0 := hM0.ext hc
       have hs : Sep [] w6 S1 := Sep.pick [] hs (by decide) rfl
       obtain rfl := Option.some.inj h
       exact wp_ret (blk_ret (then_ret (ret1 rfl hF rfl ⟨_, rfl, rfl, hM0.chg⟩)))
     replace h := iteF hb h
     refine wp_seq ?_
     refine wp_seq (wp_pure [(3, B b1 0), (7, .bool ((decide (p0.B ≥ 0)) && (decide (p0.B ≤ p2)))), (37, I p0.Op), (74, .bool (p0.Op == 9))] hF (by kernel_rfl) fun fr hF => then_normal ?_)
     refine (wp_merge [(3, B b1 0), (7, .bool ((decide (p0.B ≥ 0)) && (decide (p0.B ≤ p2)))), (37, I p0.Op), (74, .bool ((p0.Op == 9) || (p0.Op == 11)))] hF (b := (p0.Op == 9)) rfl (fun hb => ?_) (fun hb => ?_) fun fr hF => then_normal ?_)
     · exact wp_skip ⟨rfl, rfl, (hF.sub [(3, B b1 0), (7, .bool ((decide (p0.B ≥ 0)) && (decide (p0.B ≤ p2)))), (37, I p0.Op), (74, .bool (p0.Op == 9))] (by kernel_rfl)).eqs (by first | (simp only [hb]; done) | (simp only [hb]; rfl))⟩
     · exact wp_pure [(3, B b1 0), (7, .bool ((decide (p0.B ≥ 0)) && (decide (p0.B ≤ p2)))), (37, I p0.Op), (74, .bool (p0.Op == 11))] hF (by kernel_rfl) fun fr hF => ⟨rfl, rfl, hF.eqs (by first | (simp only [hb]; done) | (simp only [hb]; rfl))⟩
     refine (wp_if hF (b := ((p0.Op == 9) || (p0.Op == 11))) rfl (fun hb => ?_) (fun hb => ?_))
     · replace h := iteT hb h
       refine wp_seq (region_b [] [true, false, true, true, true, true, true]
           [.eq (B b1 1), .eq (I p0.A), .eq (.bool (p0.A == 0)), .eq (.bool (p0.A == 0)), .eq (.bool ((decide (p0.B ≥ 0)) && (decide (p0.B ≤ p2)))), .eq (.bool ((p0.A == 0) && ((decide (p0.B ≥ 0)) && (decide (p0.B ≤ p2))))), .eq (.bool ((p0.A == 0) && ((decide (p0.B ≥ 0)) && (decide (p0.B ≤ p2)))))]
           [(6, .bool ((p0.A == 0) && ((decide (p0.B ≥ 0)) && (decide (p0.B ≤ p2)))))] mix hF (by kernel_rfl) (by kernel_rfl) (by kernel_rfl) ⟨Pd.mono_eq, trivial⟩ (fun hG => ⟨np_loadBox hG hF ty3 rfl rfl (hs.bx 0 rfl) rfl rfl rfl, trivial⟩) (by kernel_rfl) fun fr w7 hF hE hc => then_normal ?_)
       have hs := hs.ext hc
       have hM0 := hM0.ext hc
       have hs : Sep [] w7 S1 := Sep.pick [] hs (by decide) rfl
       obtain rfl := Option.some.inj h
       exact wp_ret (blk_ret (then_ret (ret1 rfl hF rfl ⟨_, rfl, rfl, hM0.chg⟩)))
     replace h := iteF hb h
     refine wp_seq (wp_pure [(3, B b1 0), (7, .bool ((decide (p0.B ≥ 0)) && (decide (p0.B ≤ p2)))), (37, I p0.Op), (83, .bool (p0.Op == 10))] hF (by kernel_rfl) fun fr hF => then_normal ?_)
     refine (wp_if hF (b := (p0.Op == 10)) rfl (fun hb => ?_) (fun hb => ?_))
     · replace h := iteT hb h
       obtain ⟨x9, hx9, h⟩ := bindE h
       refine wp_seq (region_b [] [true, false, false, true, true, true, true]
           [.eq (B b1 1), .eq (I p0.A), .eq (.bool x9), .eq (.bool x9), .eq (.bool ((decide (p0.B ≥ 0)) && (decide (p0.B ≤ p2)))), .eq (.bool (x9 && ((decide (p0.B ≥ 0)) && (decide (p0.B ≤ p2))))), .eq (.bool (x9 && ((decide (p0.B ≥ 0)) && (decide (p0.B ≤ p2)))))]
           [(6, .bool (x9 && ((decide (p0.B ≥ 0)) && (decide (p0.B ≤ p2)))))] mix hF (by kernel_rfl) (by kernel_rfl) (by kernel_rfl) ⟨Pd.mono_eq, Pd.mono_eq, trivial⟩ (fun hG => ⟨np_loadBox hG hF ty3 rfl rfl (hs.bx 0 rfl) rfl rfl rfl, np_call [I p0.A] hG hF Tryd.call65 rfl rfl (fun w hC hg => (impl_isReg_ok p0.A hx9).mono fun e w' ⟨v, he, hv, hc⟩ => ⟨v, he, hc, hv⟩), trivial⟩) (by kernel_rfl) fun fr w8 hF hE hc => then_normal ?_)
       have hs := hs.ext hc
       have hM0 := hM0.ext hc
       have hs : Sep [] w8 S1 := Sep.pick [] hs (by decide) rfl
       obtain rfl := Option.some.inj h
       exact wp_ret (blk_ret (then_ret (ret1 rfl hF rfl ⟨_, rfl, rfl, hM0.chg⟩)))
     replace h := iteF hb h
     refine wp_seq ?_
     refine wp_seq (wp_pure [(3, B b1 0), (37, I p0.Op), (91, .bool (p0.Op == 12))] hF (by kernel_rfl) fun fr hF => then_normal ?_)
     refine (wp_merge [(3, B b1 0), (91, .bool ((p0.Op == 12) || (p0.Op == 14)))] hF (b := (p0.Op == 12)) rfl (fun hb => ?_) (fun hb => ?_) fun fr hF => then_normal ?_)
     · exact wp_skip ⟨rfl, rfl, (hF.sub [(3, B b1 0), (91, .bool (p0.Op == 12))] (by kernel_rfl)).eqs (by first | (simp only [hb]; done) | (simp only [hb]; rfl))⟩
     · exact wp_pure [(3, B b1 0), (91, .bool (p0.Op == 14))] hF (by kernel_rfl) fun fr hF => ⟨rfl, rfl, hF.eqs (by first | (simp only [hb]; done) | (simp only [hb]; rfl))⟩
     refine (wp_if hF (b := ((p0.Op == 12) || (p0.Op == 14))) rfl (fun hb => ?_) (fun hb => ?_))
     · replace h := iteT hb h
       refine wp_seq (region_b [] [true, false, true, true, true, false, true, true, true]
           [.eq (B b1 1), .eq (I p0.A), .eq (.bool (p0.A == 0)), .eq (.bool (p0.A == 0)), .eq (B b1 2), .eq (I p0.B), .eq (.bool (p0.B == 0)), .eq (.bool ((p0.A == 0) && (p0.B == 0))), .eq (.bool ((p0.A == 0) && (p0.B == 0)))]
           [(6, .bool ((p0.A == 0) && (p0.B == 0)))] mix hF (by kernel_rfl) (by kernel_rfl) (by kernel_rfl) ⟨Pd.mono_eq, Pd.mono_eq, trivial⟩ (fun hG => ⟨np_loadBox hG hF ty3 rfl rfl (hs.bx 0 rfl) rfl rfl rfl, np_loadBox hG hF ty3 rfl rfl (hs.bx 0 rfl) rfl rfl rfl, trivial⟩) (by kernel_rfl) fun fr w9 hF hE hc => then_normal ?_)
       have hs := hs.ext hc
       have hM0 := hM0.ext hc
       have hs : Sep [] w9 S1 := Sep.pick [] hs (by decide) rfl
       obtain rfl := Option.some.inj h
       exact wp_ret (blk_ret (then_ret (ret1 rfl hF rfl ⟨_, rfl, rfl, hM0.chg⟩)))
     replace h := iteF hb h
     have hs : Sep [] w2 S1 := Sep.pick [] hs (by decide) rfl
     refine (wp_skip ?_)
     refine blk_normal (then_normal ?_)
     refine wp_seq (wp_pure [(6, .bool false)] hF (by kernel_rfl) fun fr hF => then_normal ?_)
     obtain rfl := Option.some.inj h
     exact wp_ret (ret1 rfl hF rfl ⟨_, rfl, rfl, hM0.chg⟩)
   replace h := iteF hb h
   refine wp_seq (wp_pure [(3, B b1 0), (7, .bool ((decide (p0.B ≥ 0)) && (decide (p0.B ≤ p2)))), (37, I p0.Op), (61, .bool (p0.Op == 5))] hF (by kernel_rfl) fun fr hF => then_normal ?_)
   refine (wp_if hF (b := (p0.Op == 5)) rfl (fun hb => ?_) (fun hb => ?_))
   · replace h := iteT hb h
     refine (wp_skip (then_normal ?_))
     refine (wp_if hF (b := (p0.Op == 5)) rfl (fun hb => ?_) (fun hb => ?_))
     · replace h := iteT hb h
       obtain ⟨x10, hx10, h⟩ := bindE h
       refine wp_seq (region_b [] [true, false, false, true, true, false, true, true, true]
           [.eq (B b1 1), .eq (I p0.A), .eq (.bool x10), .eq (.bool x10), .eq (B b1 2), .eq (I p0.B), .eq (.bool (p0.B == 0)), .eq (.bool (x10 && (p0.B == 0))), .eq (.bool (x10 && (p0.B == 0)))]
           [(6, .bool (x10 && (p0.B == 0)))] mix hF (by kernel_rfl) (by kernel_rfl) (by kernel_rfl) ⟨Pd.mono_eq, Pd.mono_eq, Pd.mono_eq, trivial⟩ (fun hG => ⟨np_loadBox hG hF ty3 rfl rfl (hs.bx 0 rfl) rfl rfl rfl, np_call [I p0.A] hG hF Tryd.call65 rfl rfl (fun w hC hg => (impl_isReg_ok p0.A hx10).mono fun e w' ⟨v, he, hv, hc⟩ => ⟨v, he, hc, hv⟩), np_loadBox hG hF ty3 rfl rfl (hs.bx 0 rfl) rfl rfl rfl, trivial⟩) (by kernel_rfl) fun fr w10 hF hE hc => then_normal ?_)
       have hs := hs.ext hc
       have hM0 := hM0.ext hc
       have hs : Sep [] w10 S1 := Sep.pick [] hs (by decide) rfl
       obtain rfl := Option.some.inj h
       exact wp_ret (blk_ret (then_ret (ret1 rfl hF rfl ⟨_, rfl, rfl, hM0.chg⟩)))
     replace h := iteF hb h
     refine wp_seq ?_
     refine wp_seq (wp_pure [(3, B b1 0), (7, .bool ((decide (p0.B ≥ 0)) && (decide (p0.B ≤ p2)))), (37, I p0.Op), (74, .bool (p0.Op == 9))] hF (by kernel_rfl) fun fr hF => then_normal ?_)
     refine (wp_merge [(3, B b1 0), (7, .bool ((decide (p0.B ≥ 0)) && (decide (p0.B ≤ p2)))), (37, I p0.Op), (74, .bool ((p0.Op == 9) || (p0.Op == 11)))] hF (b := (p0.Op == 9)) rfl (fun hb => ?_) (fun hb => ?_) fun fr hF => then_normal ?_)
     · exact wp_skip ⟨rfl, rfl, (hF.sub [(3, B b1 0), (7, .bool ((decide (p0.B ≥ 0)) && (decide (p0.B ≤ p2)))), (37, I p0.Op), (74, .bool (p0.Op == 9))] (by kernel_rfl)).eqs (by first | (simp only [hb]; done) | (simp only [hb]; rfl))⟩
     · exact wp_pure [(3, B b1 0), (7, .bool ((decide (p0.B ≥ 0)) && (decide (p0.B ≤ p2)))), (37, I p0.Op), (74, .bool (p0.Op == 11))] hF (by kernel_rfl) fun fr hF => ⟨rfl, rfl, hF.eqs (by first | (simp only [hb]; done) | (simp only [hb]; rfl))⟩
     refine (wp_if hF (b := ((p0.Op == 9) || (p0.Op == 11))) rfl (fun hb => ?_) (fun hb => ?_))
     · replace h := iteT hb h
       refine wp_seq (region_b [] [true, false, true, true, true, true, true]
           [.eq (B b1 1), .eq (I p0.A), .eq (.bool (p0.A == 0)), .eq (.bool (p0.A == 0)), .eq (.bool ((decide (p0.B ≥ 0)) && (decide (p0.B ≤ p2)))), .eq (.bool ((p0.A == 0) && ((decide (p0.B ≥ 0)) && (decide (p0.B ≤ p2))))), .eq (.bool ((p0.A == 0) && ((decide (p0.B ≥ 0)) && (decide (p0.B ≤ p2)))))]
           [(6, .bool ((p0.A == 0) && ((decide (p0.B ≥ 0)) && (decide (p0.B ≤ p2)))))] mix hF (by kernel_rfl) (by kernel_rfl) (by kernel_rfl) ⟨Pd.mono_eq, trivial⟩ (fun hG => ⟨np_loadBox hG hF ty3 rfl rfl (hs.bx 0 rfl) rfl rfl rfl, trivial⟩) (by kernel_rfl) fun fr w11 hF hE hc => then_normal ?_)
       have hs := hs.ext hc
       have hM0 := hM0.ext hc
       have hs : Sep [] w11 S1 := Sep.pick [] hs (by decide) rfl
       obtain rfl := Option.some.inj h
       exact wp_ret (blk_ret (then_ret (ret1 rfl hF rfl ⟨_, rfl, rfl, hM0.chg⟩)))
     replace h := iteF hb h
     refine wp_seq (wp_pure [(3, B b1 0), (7, .bool ((decide (p0.B ≥ 0)) && (decide (p0.B ≤ p2)))), (37, I p0.Op), (83, .bool (p0.Op == 10))] hF (by kernel_rfl) fun fr hF => then_normal ?_)
     refine (wp_if hF (b := (p0.Op == 10)) rfl (fun hb => ?_) (fun hb => ?_))
     · replace h := iteT hb h
       obtain ⟨x11, hx11, h⟩ := bindE h
       refine wp_seq (region_b [] [true, false, false, true, true, true, true]
           [.eq (B b1 1), .eq (I p0.A), .eq (.bool x11), .eq (.bool x11), .eq (.bool ((decide (p0.B ≥ 0)) && (decide (p0.B ≤ p2)))), .eq (.bool (x11 && ((decide (p0.B ≥ 0)) && (decide (p0.B ≤ p2))))), .eq (.bool (x11 && ((decide (p0.B ≥ 0)) && (decide (p0.B ≤ p2)))))]
           [(6, .bool (x11 && ((decide (p0.B ≥ 0)) && (decide (p0.B ≤ p2)))))] mix hF (by kernel_rfl) (by kernel_rfl) (by kernel_rfl) ⟨Pd.mono_eq, Pd.mono_eq, trivial⟩ (fun hG => ⟨np_loadBox hG hF ty3 rfl rfl (hs.bx 0 rfl) rfl rfl rfl, np_call [I p0.A] hG hF Tryd.call65 rfl rfl (fun w hC hg => (impl_isReg_ok p0.A hx11).mono fun e w' ⟨v, he, hv, hc⟩ => ⟨v, he, hc, hv⟩), trivial⟩) (by kernel_rfl) fun fr w12 hF hE hc => then_normal ?_)
       have hs := hs.ext hc
       have hM0 := hM0.ext hc
       have hs : Sep [] w12 S1 := Sep.pick [] hs (by decide) rfl
       obtain rfl := Option.some.inj h
       exact wp_ret (blk_ret (then_ret (ret1 rfl hF rfl ⟨_, rfl, rfl, hM0.chg⟩)))
     replace h := iteF hb h
     refine wp_seq ?_
     refine wp_seq (wp_pure [(3, B b1 0), (37, I p0.Op), (91, .bool (p0.Op == 12))] hF (by kernel_rfl) fun fr hF => then_normal ?_)
     refine (wp_merge [(3, B b1 0), (91, .bool ((p0.Op == 12) || (p0.Op == 14)))] hF (b := (p0.Op == 12)) rfl (fun hb => ?_) (fun hb => ?_) fun fr hF => then_normal ?_)
     · exact wp_skip ⟨rfl, rfl, (hF.sub [(3, B b1 0), (91, .bool (p0.Op == 12))] (by kernel_rfl)).eqs (by first | (simp only [hb]; done) | (simp only [hb]; rfl))⟩
     · exact wp_pure [(3, B b1 0), (91, .bool (p0.Op == 14))] hF (by kernel_rfl) fun fr hF => ⟨rfl, rfl, hF.eqs (by first | (simp only [hb]; done) | (simp only [hb]; rfl))⟩
     refine (wp_if hF (b := ((p0.Op == 12) || (p0.Op == 14))) rfl (fun hb => ?_) (fun hb => ?_))
     · replace h := iteT hb h
       refine wp_seq (region_b [] [true, false, true, true, true, false, true, true, true]
           [.eq (B b1 1), .eq (I p0.A), .eq (.bool (p0.A == 0)), .eq (.bool (p0.A == 0)), .eq (B b1 2), .eq (I p0.B), .eq (.bool (p0.B == 0)), .eq (.bool ((p0.A == 0) && (p0.B == 0))), .eq (.bool ((p0.A == 0) && (p0.B == 0)))]
           [(6, .bool ((p0.A == 0) && (p0.B == 0)))] mix hF (by kernel_rfl) (by kernel_rfl) (by kernel_rfl) ⟨Pd.mono_eq, Pd.mono_eq, trivial⟩ (fun hG => ⟨np_loadBox hG hF ty3 rfl rfl (hs.bx 0 rfl) rfl rfl rfl, np_loadBox hG hF ty3 rfl rfl (hs.bx 0 rfl) rfl rfl rfl, trivial⟩) (by kernel_rfl) fun fr w13 hF hE hc => then_normal ?_)
       have hs := hs.ext hc
       have hM0 := hM0.ext hc
       have hs : Sep [] w13 S1 := Sep.pick [] hs (by decide) rfl
       obtain rfl := Option.some.inj h
       exact wp_ret (blk_ret (then_ret (ret1 rfl hF rfl ⟨_, rfl, rfl, hM0.chg⟩)))
     replace h := iteF hb h
     have hs : Sep [] w2 S1 := Sep.pick [] hs (by decide) rfl
     refine (wp_skip ?_)
     refine blk_normal (then_normal ?_)
     refine wp_seq (wp_pure [(6, .bool false)] hF (by kernel_rfl) fun fr hF => then_normal ?_)
     obtain rfl := Option.some.inj h
     exact wp_ret (ret1 rfl hF rfl ⟨_, rfl, rfl, hM0.chg⟩)
   replace h := iteF hb h
   refine wp_seq (wp_pure [(3, B b1 0), (7, .bool ((decide (p0.B ≥ 0)) && (decide (p0.B ≤ p2)))), (37, I p0.Op), (61, .bool (p0.Op == 6))] hF (by kernel_rfl) fun fr hF => then_normal ?_)
   refine (wp_merge [(3, B b1 0), (7, .bool ((decide (p0.B ≥ 0)) && (decide (p0.B ≤ p2)))), (37, I p0.Op), (61, .bool ((p0.Op == 6) || (p0.Op == 13)))] hF (b := (p0.Op == 6)) rfl (fun hb => ?_) (fun hb => ?_) fun fr hF => then_normal ?_)
   · exact wp_skip ⟨rfl, rfl, (hF.sub [(3, B b1 0), (7, .bool ((decide (p0.B ≥ 0)) && (decide (p0.B ≤ p2)))), (37, I p0.Op), (61, .bool (p0.Op == 6))] (by kernel_rfl)).eqs (by first | (simp only [hb]; done) | (simp only [hb]; rfl))⟩
   · exact wp_pure [(3, B b1 0), (7, .bool ((decide (p0.B ≥ 0)) && (decide (p0.B ≤ p2)))), (37, I p0.Op), (61, .bool (p0.Op == 13))] hF (by kernel_rfl) fun fr hF => ⟨rfl, rfl, hF.eqs (by first | (simp only [hb]; done) | (simp only [hb]; rfl))⟩
   refine (wp_if hF (b := ((p0.Op == 6) || (p0.Op == 13))) rfl (fun hb => ?_) (fun hb => ?_))
   · replace h := iteT hb h
     obtain ⟨x12, hx12, h⟩ := bindE h
     refine wp_seq (region_b [] [true, false, false, true, true, false, true, true, true]
         [.eq (B b1 1), .eq (I p0.A), .eq (.bool x12), .eq (.bool x12), .eq (B b1 2), .eq (I p0.B), .eq (.bool (p0.B == 0)), .eq (.bool (x12 && (p0.B == 0))), .eq (.bool (x12 && (p0.B == 0)))]
         [(6, .bool (x12 && (p0.B == 0)))] mix hF (by kernel_rfl) (by kernel_rfl) (by kernel_rfl) ⟨Pd.mono_eq, Pd.mono_eq, Pd.mono_eq, trivial⟩ (fun hG => ⟨np_loadBox hG hF ty3 rfl rfl (hs.bx 0 rfl) rfl rfl rfl, np_call [I p0.A] hG hF Tryd.call65 rfl rfl (fun w hC hg => (impl_isReg_ok p0.A hx12).mono fun e w' ⟨v, he, hv, hc⟩ => ⟨v, he, hc, hv⟩), np_loadBox hG hF ty3 rfl rfl (hs.bx 0 rfl) rfl rfl rfl, trivial⟩) (by kernel_rfl) fun fr w14 hF hE hc => then_normal ?_)
     have hs := hs.ext hc
     have hM0 := hM0.ext hc
     have hs : Sep [] w14 S1 := Sep.pick [] hs (by decide) rfl
     obtain rfl := Option.some.inj h
     exact wp_ret (blk_ret (then_ret (ret1 rfl hF rfl ⟨_, rfl, rfl, hM0.chg⟩)))
   replace h := iteF hb h
   refine wp_seq ?_
   refine wp_seq (wp_pure [(3, B b1 0), (7, .bool ((decide (p0.B ≥ 0)) && (decide (p0.B ≤ p2)))), (37, I p0.Op), (74, .bool (p0.Op == 9))] hF (by kernel_rfl) fun fr hF => then_normal ?_)
   refine (wp_merge [(3, B b1 0), (7, .bool ((decide (p0.B ≥ 0)) && (decide (p0.B ≤ p2)))), (37, I p0.Op), (74, .bool ((p0.Op == 9) || (p0.Op == 11)))] hF (b := (p0.Op == 9)) rfl (fun hb => ?_) (fun hb => ?_) fun fr hF => then_normal ?_)
   · exact wp_skip ⟨rfl, rfl, (hF.sub [(3, B b1 0), (7, .bool ((decide (p0.B ≥ 0)) && (decide (p0.B ≤ p2)))), (37, I p0.Op), (74, .bool (p0.Op == 9))] (by kernel_rfl)).eqs (by first | (simp only [hb]; done) | (simp only [hb]; rfl))⟩
   · exact wp_pure [(3, B b1 0), (7, .bool ((decide (p0.B ≥ 0)) && (decide (p0.B ≤ p2)))), (37, I p0.Op), (74, .bool (p0.Op == 11))] hF (by kernel_rfl) fun fr hF => ⟨rfl, rfl, hF.eqs (by first | (simp only [hb]; done) | (simp only [hb]; rfl))⟩
   refine (wp_if hF (b := ((p0.Op == 9) || (p0.Op == 11))) rfl (fun hb => ?_) (fun hb => ?_))
   · replace h := iteT hb h
     refine wp_seq (region_b [] [true, false, true, true, true, true, true]
         [.eq (B b1 1), .eq (I p0.A), .eq (.bool (p0.A == 0)), .eq (.bool (p0.A == 0)), .eq (.bool ((decide (p0.B ≥ 0)) && (decide (p0.B ≤ p2)))), .eq (.bool ((p0.A == 0) && ((decide (p0.B ≥ 0)) && (decide (p0.B ≤ p2))))), .eq (.bool ((p0.A == 0) && ((decide (p0.B ≥ 0)) && (decide (p0.B ≤ p2)))))]
         [(6, .bool ((p0.A == 0) && ((decide (p0.B ≥ 0)) && (decide (p0.B ≤ p2)))))] mix hF (by kernel_rfl) (by kernel_rfl) (by kernel_rfl) ⟨Pd.mono_eq, trivial⟩ (fun hG => ⟨np_loadBox hG hF ty3 rfl rfl (hs.bx 0 rfl) rfl rfl rfl, trivial⟩) (by kernel_rfl) fun fr w15 hF hE hc => then_normal ?_)
     have hs := hs.ext hc
     have hM0 := hM0.ext hc
     have hs : Sep [] w15 S1 := Sep.pick [] hs (by decide) rfl
     obtain rfl := Option.some.inj h
     exact wp_ret (blk_ret (then_ret (ret1 rfl hF rfl ⟨_, rfl, rfl, hM0.chg⟩)))
   replace h := iteF hb h
   refine wp_seq (wp_pure [(3, B b1 0), (7, .bool ((decide (p0.B ≥ 0)) && (decide (p0.B ≤ p2)))), (37, I p0.Op), (83, .bool (p0.Op == 10))] hF (by kernel_rfl) fun fr hF => then_normal ?_)
   refine (wp_if hF (b := (p0.Op == 10)) rfl (fun hb => ?_) (fun hb => ?_))
   · replace h := iteT hb h
     obtain ⟨x13, hx13, h⟩ := bindE h
     refine wp_seq (region_b [] [true, false, false, true, true, true, true]
         [.eq (B b1 1), .eq (I p0.A), .eq (.bool x13), .eq (.bool x13), .eq (.bool ((decide (p0.B ≥ 0)) && (decide (p0.B ≤ p2)))), .eq (.bool (x13 && ((decide (p0.B ≥ 0)) && (decide (p0.B ≤ p2))))), .eq (.bool (x13 && ((decide (p0.B ≥ 0)) && (decide (p0.B ≤ p2)))))]
         [(6, .bool (x13 && ((decide (p0.B ≥ 0)) && (decide (p0.B ≤ p2)))))] mix hF (by kernel_rfl) (by kernel_rfl) (by kernel_rfl) ⟨Pd.mono_eq, Pd.mono_eq, trivial⟩ (fun hG => ⟨np_loadBox hG hF ty3 rfl rfl (hs.bx 0 rfl) rfl rfl rfl, np_call [I p0.A] hG hF Tryd.call65 rfl rfl (fun w hC hg => (impl_isReg_ok p0.A hx13).mono fun e w' ⟨v, he, hv, hc⟩ => ⟨v, he, hc, hv⟩), trivial⟩) (by kernel_rfl) fun fr w16 hF hE hc => then_normal ?_)
     have hs := hs.ext hc
     have hM0 := hM0.ext hc
     have hs : Sep [] w16 S1 := Sep.pick [] hs (by decide) rfl
     obtain rfl := Option.some.inj h
     exact wp_ret (blk_ret (then_ret (ret1 rfl hF rfl ⟨_, rfl, rfl, hM0.chg⟩)))
   replace h := iteF hb h
   refine wp_seq ?_
   refine wp_seq (wp_pure [(3, B b1 0), (37, I p0.Op), (91, .bool (p0.Op == 12))] hF (by kernel_rfl) fun fr hF => then_normal ?_)
   refine (wp_merge [(3, B b1 0), (91, .bool ((p0.Op == 12) || (p0.Op == 14)))] hF (b := (p0.Op == 12)) rfl (fun hb => ?_) (fun hb => ?_) fun fr hF => then_normal ?_)
   · exact wp_skip ⟨rfl, rfl, (hF.sub [(3, B b1 0), (91, .bool (p0.Op == 12))] (by kernel_rfl)).eqs (by first | (simp only [hb]; done) | (simp only [hb]; rfl))⟩
   · exact wp_pure [(3, B b1 0), (91, .bool (p0.Op == 14))] hF (by kernel_rfl) fun fr hF => ⟨rfl, rfl, hF.eqs (by first | (simp only [hb]; done) | (simp only [hb]; rfl))⟩
   refine (wp_if hF (b := ((p0.Op == 12) || (p0.Op == 14))) rfl (fun hb => ?_) (fun hb => ?_))
   · replace h := iteT hb h
     refine wp_seq (region_b [] [true, false, true, true, true, false, true, true, true]
         [.eq (B b1 1), .eq (I p0.A), .eq (.bool (p0.A == 0)), .eq (.bool (p0.A == 0)), .eq (B b1 2), .eq (I p0.B), .eq (.bool (p0.B == 0)), .eq (.bool ((p0.A == 0) && (p0.B == 0))), .eq (.bool ((p0.A == 0) && (p0.B == 0)))]
         [(6, .bool ((p0.A == 0) && (p0.B == 0)))] mix hF (by kernel_rfl) (by kernel_rfl) (by kernel_rfl) ⟨Pd.mono_eq, Pd.mono_eq, trivial⟩ (fun hG => ⟨np_loadBox hG hF ty3 rfl rfl (hs.bx 0 rfl) rfl rfl rfl, np_loadBox hG hF ty3 rfl rfl (hs.bx 0 rfl) rfl rfl rfl, trivial⟩) (by kernel_rfl) fun fr w17 hF hE hc => then_normal ?_)
     have hs := hs.ext hc
     have hM0 := hM0.ext hc
     have hs : Sep [] w17 S1 := Sep.pick [] hs (by decide) rfl
     obtain rfl := Option.some.inj h
     exact wp_ret (blk_ret (then_ret (ret1 rfl hF rfl ⟨_, rfl, rfl, hM0.chg⟩)))
   replace h := iteF hb h
   have hs : Sep [] w2 S1 := Sep.pick [] hs (by decide) rfl
   refine (wp_skip ?_)
   refine blk_normal (then_normal ?_)
   refine wp_seq (wp_pure [(6, .bool false)] hF (by kernel_rfl) fun fr hF => then_normal ?_)
   obtain rfl := Option.some.inj h
   exact wp_ret (ret1 rfl hF rfl ⟨_, rfl, rfl, hM0.chg⟩)
 replace h := iteF hb h
 refine wp_seq (wp_pure [(3, B b1 0), (7, .bool ((decide (p0.B ≥ 0)) && (decide (p0.B ≤ p2)))), (37, I p0.Op), (49, .bool (p0.Op == 7))] hF (by kernel_rfl) fun fr hF => then_normal ?_)
 refine (wp_merge [(3, B b1 0), (7, .bool ((decide (p0.B ≥ 0)) && (decide (p0.B ≤ p2)))), (37, I p0.Op), (49, .bool ((p0.Op == 7) || (p0.Op == 8)))] hF (b := (p0.Op == 7)) rfl (fun hb => ?_) (fun hb => ?_) fun fr hF => then_normal ?_)
 · exact wp_skip ⟨rfl, rfl, (hF.sub [(3, B b1 0), (7, .bool ((decide (p0.B ≥ 0)) && (decide (p0.B ≤ p2)))), (37, I p0.Op), (49, .bool (p0.Op == 7))] (by kernel_rfl)).eqs (by first | (simp only [hb]; done) | (simp only [hb]; rfl))⟩
 · exact wp_pure [(3, B b1 0), (7, .bool ((decide (p0.B ≥ 0)) && (decide (p0.B ≤ p2)))), (37, I p0.Op), (49, .bool (p0.Op == 8))] hF (by kernel_rfl) fun fr hF => ⟨rfl, rfl, hF.eqs (by first | (simp only [hb]; done) | (simp only [hb]; rfl))⟩
 refine (wp_if hF (b := ((p0.Op == 7) || (p0.Op == 8))) rfl (fun hb => ?_) (fun hb => ?_))
 · replace h := iteT hb h
   obtain ⟨x14, hx14, h⟩ := bindE h
   obtain ⟨x15, hx15, h⟩ := bindE h
   refine wp_seq (region_b [] [true, false, false, true, true, false, false, true, true]
       [.eq (B b1 1), .eq (I p0.A), .eq (.bool x14), .eq (.bool x14), .eq (B b1 2), .eq (I p0.B), .eq (.bool x15), .eq (.bool (x14 && x15)), .eq (.bool (x14 && x15))]
       [(6, .bool (x14 && x15))] mix hF (by kernel_rfl) (by kernel_rfl) (by kernel_rfl) ⟨Pd.mono_eq, Pd.mono_eq, Pd.mono_eq, Pd.mono_eq, trivial⟩ (fun hG => ⟨np_loadBox hG hF ty3 rfl rfl (hs.bx 0 rfl) rfl rfl rfl, np_call [I p0.A] hG hF Tryd.call65 rfl rfl (fun w hC hg => (impl_isReg_ok p0.A hx14).mono fun e w' ⟨v, he, hv, hc⟩ => ⟨v, he, hc, hv⟩), np_loadBox hG hF ty3 rfl rfl (hs.bx 0 rfl) rfl rfl rfl, np_call [I p0.B] hG hF Tryd.call65 rfl rfl (fun w hC hg => (impl_isReg_ok p0.B (iteT hg.2 hx15)).mono fun e w' ⟨v, he, hv, hc⟩ => ⟨v, he, hc, hv⟩), trivial⟩) (by kernel_rfl) fun fr w18 hF hE hc => then_normal ?_)
   have hs := hs.ext hc
   have hM0 := hM0.ext hc
   have hs : Sep [] w18 S1 := Sep.pick [] hs (by decide) rfl
   obtain rfl := Option.some.inj h
   exact wp_ret (blk_ret (then_ret (ret1 rfl hF rfl ⟨_, rfl, rfl, hM0.chg⟩)))
 replace h := iteF hb h
 refine wp_seq ?_
 refine wp_seq (wp_pure [(3, B b1 0), (7, .bool ((decide (p0.B ≥ 0)) && (decide (p0.B ≤ p2)))), (37, I p0.Op), (61, .bool (p0.Op == 4))] hF (by kernel_rfl) fun fr hF => then_normal ?_)
 refine (wp_if hF (b := (p0.Op == 4)) rfl (fun hb => ?_) (fun hb => ?_))
 · replace h := iteT hb h
   refine (wp_skip (then_normal ?_))
   refine (wp_if hF (b := (p0.Op == 4)) rfl (fun hb => ?_) (fun hb => ?_))
   · replace h := iteT hb h
     obtain ⟨x16, hx16, h⟩ := bindE h
     refine wp_seq (region_b [] [true, false, false, true, true, false, true, true, true]
         [.eq (B b1 1), .eq (I p0.A), .eq (.bool x16), .eq (.bool x16), .eq (B b1 2), .eq (I p0.B), .eq (.bool (p0.B == 0)), .eq (.bool (x16 && (p0.B == 0))), .eq (.bool (x16 && (p0.B == 0)))]
         [(6, .bool (x16 && (p0.B == 0)))] mix hF (by kernel_rfl) (by kernel_rfl) (by kernel_rfl) ⟨Pd.mono_eq, Pd.mono_eq, Pd.mono_eq, trivial⟩ (fun hG => ⟨np_loadBox hG hF ty3 rfl rfl (hs.bx 0 rfl) rfl rfl rfl, np_call [I p0.A] hG hF Tryd.call65 rfl rfl (fun w hC hg => (impl_isReg_ok p0.A hx16).mono fun e w' ⟨v, he, hv, hc⟩ => ⟨v, he, hc, hv⟩), np_loadBox hG hF ty3 rfl rfl (hs.bx 0 rfl) rfl rfl rfl, trivial⟩) (by kernel_rfl) fun fr w19 hF hE hc => then_normal ?_)
     have hs := hs.ext hc
     have hM0 := hM0.ext hc
     have hs : Sep [] w19 S1 := Sep.pick [] hs (by decide) rfl
     obtain rfl := Option.some.inj h
     exact wp_ret (blk_ret (then_ret (ret1 rfl hF rfl ⟨_, rfl, rfl, hM0.chg⟩)))
   replace h := iteF hb h
   refine wp_seq ?_
   refine wp_seq (wp_pure [(3, B b1 0), (7, .bool ((decide (p0.B ≥ 0)) && (decide (p0.B ≤ p2)))), (37, I p0.Op), (74, .bool (p0.Op == 9))] hF (by kernel_rfl) fun fr hF => then_normal ?_)
   refine (wp_merge [(3, B b1 0), (7, .bool ((decide (p0.B ≥ 0)) && (decide (p0.B ≤ p2)))), (37, I p0.Op), (74, .bool ((p0.Op == 9) || (p0.Op == 11)))] hF (b := (p0.Op == 9)) rfl (fun hb => ?_) (fun hb => ?_) fun fr hF => then_normal ?_)
   · exact wp_skip ⟨rfl, rfl, (hF.sub [(3, B b1 0), (7, .bool ((decide (p0.B ≥ 0)) && (decide (p0.B ≤ p2)))), (37, I p0.Op), (74, .bool (p0.Op == 9))] (by kernel_rfl)).eqs (by first | (simp only [hb]; done) | (simp only [hb]; rfl))⟩
   · exact wp_pure [(3, B b1 0), (7, .bool ((decide (p0.B ≥ 0)) && (decide (p0.B ≤ p2)))), (37, I p0.Op), (74, .bool (p0.Op == 11))] hF (by kernel_rfl) fun fr hF => ⟨rfl, rfl, hF.eqs (by first | (simp only [hb]; done) | (simp only [hb]; rfl))⟩
   refine (wp_if hF (b := ((p0.Op == 9) || (p0.Op == 11))) rfl (fun hb => ?_) (fun hb => ?_))
   · replace h := iteT hb h
     refine wp_seq (region_b [] [true, false, true, true, true, true, true]
         [.eq (B b1 1), .eq (I p0.A), .eq (.bool (p0.A == 0)), .eq (.bool (p0.A == 0)), .eq (.bool ((decide (p0.B ≥ 0)) && (decide (p0.B ≤ p2)))), .eq (.bool ((p0.A == 0) && ((decide (p0.B ≥ 0)) && (decide (p0.B ≤ p2))))), .eq (.bool ((p0.A == 0) && ((decide (p0.B ≥ 0)) && (decide (p0.B ≤ p2)))))]
         [(6, .bool ((p0.A == 0) && ((decide (p0.B ≥ 0)) && (decide (p0.B ≤ p2)))))] mix hF (by kernel_rfl) (by kernel_rfl) (by kernel_rfl) ⟨Pd.mono_eq, trivial⟩ (fun hG => ⟨np_loadBox hG hF ty3 rfl rfl (hs.bx 0 rfl) rfl rfl rfl, trivial⟩) (by kernel_rfl) fun fr w20 hF hE hc => then_normal ?_)
     have hs := hs.ext hc
     have hM0 := hM0.ext hc
     have hs : Sep [] w20 S1 := Sep.pick [] hs (by decide) rfl
     obtain rfl := Option.some.inj h
     exact wp_ret (blk_ret (then_ret (ret1 rfl hF rfl ⟨_, rfl, rfl, hM0.chg⟩)))
   replace h := iteF hb h
   refine wp_seq (wp_pure [(3, B b1 0), (7, .bool ((decide (p0.B ≥ 0)) && (decide (p0.B ≤ p2)))), (37, I p0.Op), (83, .bool (p0.Op == 10))] hF (by kernel_rfl) fun fr hF => then_normal ?_)
   refine (wp_if hF (b := (p0.Op == 10)) rfl (fun hb => ?_) (fun hb => ?_))
   · replace h := iteT hb h
     obtain ⟨x17, hx17, h⟩ := bindE h
     refine wp_seq (region_b [] [true, false, false, true, true, true, true]
         [.eq (B b1 1), .eq (I p0.A), .eq (.bool x17), .eq (.bool x17), .eq (.bool ((decide (p0.B ≥ 0)) && (decide (p0.B ≤ p2)))), .eq (.bool (x17 && ((decide (p0.B ≥ 0)) && (decide (p0.B ≤ p2))))), .eq (.bool (x17 && ((decide (p0.B ≥ 0)) && (decide (p0.B ≤ p2)))))]
         [(6, .bool (x17 && ((decide (p0.B ≥ 0)) && (decide (p0.B ≤ p2)))))] mix hF (by kernel_rfl) (by kernel_rfl) (by kernel_rfl) ⟨Pd.mono_eq, Pd.mono_eq, trivial⟩ (fun hG => ⟨np_loadBox hG hF ty3 rfl rfl (hs.bx 0 rfl) rfl rfl rfl, np_call [I p0.A] hG hF Tryd.call65 rfl rfl (fun w hC hg => (impl_isReg_ok p0.A hx17).mono fun e w' ⟨v, he, hv, hc⟩ => ⟨v, he, hc, hv⟩), trivial⟩) (by kernel_rfl) fun fr w21 hF hE hc => then_normal ?_)
     have hs := hs.ext hc
     have hM0 := hM0.ext hc
     have hs : Sep [] w21 S1 := Sep.pick [] hs (by decide) rfl
     obtain rfl := Option.some.inj h
     exact wp_ret (blk_ret (then_ret (ret1 rfl hF rfl ⟨_, rfl, rfl, hM0.chg⟩)))
   replace h := iteF hb h
   refine wp_seq ?_
   refine wp_seq (wp_pure [(3, B b1 0), (37, I p0.Op), (91, .bool (p0.Op == 12))] hF (by kernel_rfl) fun fr hF => then_normal ?_)
   refine (wp_merge [(3, B b1 0), (91, .bool ((p0.Op == 12) || (p0.Op == 14)))] hF (b := (p0.Op == 12)) rfl (fun hb => ?_) (fun hb => ?_) fun fr hF => then_normal ?_)
   · exact wp_skip ⟨rfl, rfl, (hF.sub [(3, B b1 0), (91, .bool (p0.Op == 12))] (by kernel_rfl)).eqs (by first | (simp only [hb]; done) | (simp only [hb]; rfl))⟩
   · exact wp_pure [(3, B b1 0), (91, .bool (p0.Op == 14))] hF (by kernel_rfl) fun fr hF => ⟨rfl, rfl, hF.eqs (by first | (simp only [hb]; done) | (simp only [hb]; rfl))⟩
   refine (wp_if hF (b := ((p0.Op == 12) || (p0.Op == 14))) rfl (fun hb => ?_) (fun hb => ?_))
   · replace h := iteT hb h
     refine wp_seq (region_b [] [true, false, true, true, true, false, true, true, true]
         [.eq (B b1 1), .eq (I p0.A), .eq (.bool (p0.A == 0)), .eq (.bool (p0.A == 0)), .eq (B b1 2), .eq (I p0.B), .eq (.bool (p0.B == 0)), .eq (.bool ((p0.A == 0) && (p0.B == 0))), .eq (.bool ((p0.A == 0) && (p0.B == 0)))]
         [(6, .bool ((p0.A == 0) && (p0.B == 0)))] mix hF (by kernel_rfl) (by kernel_rfl) (by kernel_rfl) ⟨Pd.mono_eq, Pd.mono_eq, trivial⟩ (fun hG => ⟨np_loadBox hG hF ty3 rfl rfl (hs.bx 0 rfl) rfl rfl rfl, np_loadBox hG hF ty3 rfl rfl (hs.bx 0 rfl) rfl rfl rfl, trivial⟩) (by kernel_rfl) fun fr w22 hF hE hc => then_normal ?_)
     have hs := hs.ext hc
     have hM0 := hM0.ext hc
     have hs : Sep [] w22 S1 := Sep.pick [] hs (by decide) rfl
     obtain rfl := Option.some.inj h
     exact wp_ret (blk_ret (then_ret (ret1 rfl hF rfl ⟨_, rfl, rfl, hM0.chg⟩)))
   replace h := iteF hb h
   have hs : Sep [] w2 S1 := Sep.pick [] hs (by decide) rfl
   refine (wp_skip ?_)
   refine blk_normal (then_normal ?_)
   refine wp_seq (wp_pure [(6, .bool false)] hF (by kernel_rfl) fun fr hF => then_normal ?_)
   obtain rfl := Option.some.inj h
   exact wp_ret (ret1 rfl hF rfl ⟨_, rfl, rfl, hM0.chg⟩)
 replace h := iteF hb h
 refine wp_seq (wp_pure [(3, B b1 0), (7, .bool ((decide (p0.B ≥ 0)) && (decide (p0.B ≤ p2)))), (37, I p0.Op), (61, .bool (p0.Op == 5))] hF (by kernel_rfl) fun fr hF => then_normal ?_)
 refine (wp_if hF (b := (p0.Op == 5)) rfl (fun hb => ?_) (fun hb => ?_))
 · replace h := iteT hb h
   refine (wp_skip (then_normal ?_))
   refine (wp_if hF (b := (p0.Op == 5)) rfl (fun hb => ?_) (fun hb => ?_))
   · replace h := iteT hb h
     obtain ⟨x18, hx18, h⟩ := bindE h
     refine wp_seq (region_b [] [true, false, false, true, true, false, true, true, true]
         [.eq (B b1 1), .eq (I p0.A), .eq (.bool x18), .eq (.bool x18), .eq (B b1 2), .eq (I p0.B), .eq (.bool (p0.B == 0)), .eq (.bool (x18 && (p0.B == 0))), .eq (.bool (x18 && (p0.B == 0)))]
         [(6, .bool (x18 && (p0.B == 0)))] mix hF (by kernel_rfl) (by kernel_rfl) (by kernel_rfl) ⟨Pd.mono_eq, Pd.mono_eq, Pd.mono_eq, trivial⟩ (fun hG => ⟨np_loadBox hG hF ty3 rfl rfl (hs.bx 0 rfl) rfl rfl rfl, np_call [I p0.A] hG hF Tryd.call65 rfl rfl (fun w hC hg => (impl_isReg_ok p0.A hx18).mono fun e w' ⟨v, he, hv, hc⟩ => ⟨v, he, hc, hv⟩), np_loadBox hG hF ty3 rfl rfl (hs.bx 0 rfl) rfl rfl rfl, trivial⟩) (by kernel_rfl) fun fr w23 hF hE hc => then_normal ?_)
     have hs := hs.ext hc
     have hM0 := hM0.ext hc
     have hs : Sep [] w23 S1 := Sep.pick [] hs (by decide) rfl
     obtain rfl := Option.some.inj h
     exact wp_ret (blk_ret (then_ret (ret1 rfl hF rfl ⟨_, rfl, rfl, hM0.chg⟩)))
   replace h := iteF hb h
   refine wp_seq ?_
   refine wp_seq (wp_pure [(3, B b1 0), (7, .bool ((decide (p0.B ≥ 0)) && (decide (p0.B ≤ p2)))), (37, I p0.Op), (74, .bool (p0.Op == 9))] hF (by kernel_rfl) fun fr hF => then_normal ?_)
   refine (wp_merge [(3, B b1 0), (7, .bool ((decide (p0.B ≥ 0)) && (decide (p0.B ≤ p2)))), (37, I p0.Op), (74, .bool ((p0.Op == 9) || (p0.Op == 11)))] hF (b := (p0.Op == 9)) rfl (fun hb => ?_) (fun hb => ?_) fun fr hF => then_normal ?_)
   · exact wp_skip ⟨rfl, rfl, (hF.sub [(3, B b1 0), (7, .bool ((decide (p0.B ≥ 0)) && (decide (p0.B ≤ p2)))), (37, I p0.Op), (74, .bool (p0.Op == 9))] (by kernel_rfl)).eqs (by first | (simp only [hb]; done) | (simp only [hb]; rfl))⟩
   · exact wp_pure [(3, B b1 0), (7, .bool ((decide (p0.B ≥ 0)) && (decide (p0.B ≤ p2)))), (37, I p0.Op), (74, .bool (p0.Op == 11))] hF (by kernel_rfl) fun fr hF => ⟨rfl, rfl, hF.eqs (by first | (simp only [hb]; done) | (simp only [hb]; rfl))⟩
   refine (wp_if hF (b := ((p0.Op == 9) || (p0.Op == 11))) rfl (fun hb => ?_) (fun hb => ?_))
   · replace h := iteT hb h
     refine wp_seq (region_b [] [true, false, true, true, true, true, true]
         [.eq (B b1 1), .eq (I p0.A), .eq (.bool (p0.A == 0)), .eq (.bool (p0.A == 0)), .eq (.bool ((decide (p0.B ≥ 0)) && (decide (p0.B ≤ p2)))), .eq (.bool ((p0.A == 0) && ((decide (p0.B ≥ 0)) && (decide (p0.B ≤ p2))))), .eq (.bool ((p0.A == 0) && ((decide (p0.B ≥ 0)) && (decide (p0.B ≤ p2)))))]
         [(6, .bool ((p0.A == 0) && ((decide (p0.B ≥ 0)) && (decide (p0.B ≤ p2)))))] mix hF (by kernel_rfl) (by kernel_rfl) (by kernel_rfl) ⟨Pd.mono_eq, trivial⟩ (fun hG => ⟨np_loadBox hG hF ty3 rfl rfl (hs.bx 0 rfl) rfl rfl rfl, trivial⟩) (by kernel_rfl) fun fr w24 hF hE hc => then_normal ?_)
     have hs := hs.ext hc
     have hM0 := hM0.ext hc
     have hs : Sep [] w24 S1 := Sep.pick [] hs (by decide) rfl
     obtain rfl := Option.some.inj h
     exact wp_ret (blk_ret (then_ret (ret1 rfl hF rfl ⟨_, rfl, rfl, hM0.chg⟩)))
   replace h := iteF hb h
   refine wp_seq (wp_pure [(3, B b1 0), (7, .bool ((decide (p0.B ≥ 0)) && (decide (p0.B ≤ p2)))), (37, I p0.Op), (83, .bool (p0.Op == 10))] hF (by kernel_rfl) fun fr hF => then_normal ?_)
   refine (wp_if hF (b := (p0.Op == 10)) rfl (fun hb => ?_) (fun hb => ?_))
   · replace h := iteT hb h
     obtain ⟨x19, hx19, h⟩ := bindE h
     refine wp_seq (region_b [] [true, false, false, true, true, true, true]
         [.eq (B b1 1), .eq (I p0.A), .eq (.bool x19), .eq (.bool x19), .eq (.bool ((decide (p0.B ≥ 0)) && (decide (p0.B ≤ p2)))), .eq (.bool (x19 && ((decide (p0.B ≥ 0)) && (decide (p0.B ≤ p2))))), .eq (.bool (x19 && ((decide (p0.B ≥ 0)) && (decide (p0.B ≤ p2)))))]
         [(6, .bool (x19 && ((decide (p0.B ≥ 0)) && (decide (p0.B ≤ p2)))))] mix hF (by kernel_rfl) (by kernel_rfl) (by kernel_rfl) ⟨Pd.mono_eq, Pd.mono_eq, trivial⟩ (fun hG => ⟨np_loadBox hG hF ty3 rfl rfl (hs.bx 0 rfl) rfl rfl rfl, np_call [I p0.A] hG hF Tryd.call65 rfl rfl (fun w hC hg => (impl_isReg_ok p0.A hx19).mono fun e w' ⟨v, he, hv, hc⟩ => ⟨v, he, hc, hv⟩), trivial⟩) (by kernel_rfl) fun fr w25 hF hE hc => then_normal ?_)
     have hs := hs.ext hc
     have hM0 := hM0.ext hc
     have hs : Sep [] w25 S1 := Sep.pick [] hs (by decide) rfl
     obtain rfl := Option.some.inj h
     exact wp_ret (blk_ret (then_ret (ret1 rfl hF rfl ⟨_, rfl, rfl, hM0.chg⟩)))
   replace h := iteF hb h
   refine wp_seq ?_
   refine wp_seq (wp_pure [(3, B b1 0), (37, I p0.Op), (91, .bool (p0.Op == 12))] hF (by kernel_rfl) fun fr hF => then_normal ?_)
   refine (wp_merge [(3, B b1 0), (91, .bool ((p0.Op == 12) || (p0.Op == 14)))] hF (b := (p0.Op == 12)) rfl (fun hb => ?_) (fun hb => ?_) fun fr hF => then_normal ?_)
   · exact wp_skip ⟨rfl, rfl, (hF.sub [(3, B b1 0), (91, .bool (p0.Op == 12))] (by kernel_rfl)).eqs (by first | (simp only [hb]; done) | (simp only [hb]; rfl))⟩
   · exact wp_pure [(3, B b1 0), (91, .bool (p0.Op == 14))] hF (by kernel_rfl) fun fr hF => ⟨rfl, rfl, hF.eqs (by first | (simp only [hb]; done) | (simp only [hb]; rfl))⟩
   refine (wp_if hF (b := ((p0.Op == 12) || (p0.Op == 14))) rfl (fun hb => ?_) (fun hb => ?_))
   · replace h := iteT hb h
     refine wp_seq (region_b [] [true, false, true, true, true, false, true, true, true]
         [.eq (B b1 1), .eq (I p0.A), .eq (.bool (p0.A == 0)), .eq (.bool (p0.A == 0)), .eq (B b1 2), .eq (I p0.B), .eq (.bool (p0.B == 0)), .eq (.bool ((p0.A == 0) && (p0.B == 0))), .eq (.bool ((p0.A == 0) && (p0.B == 0)))]
         [(6, .bool ((p0.A == 0) && (p0.B == 0)))] mix hF (by kernel_rfl) (by kernel_rfl) (by kernel_rfl) ⟨Pd.mono_eq, Pd.mono_eq, trivial⟩ (fun hG => ⟨np_loadBox hG hF ty3 rfl rfl (hs.bx 0 rfl) rfl rfl rfl, np_loadBox hG hF ty3 rfl rfl (hs.bx 0 rfl) rfl rfl rfl, trivial⟩) (by kernel_rfl) fun fr w26 hF hE hc => then_normal ?_)
     have hs := hs.ext hc
     have hM0 := hM0.ext hc
     have hs : Sep [] w26 S1 := Sep.pick [] hs (by decide) rfl
     obtain rfl := Option.some.inj h
     exact wp_ret (blk_ret (then_ret (ret1 rfl hF rfl ⟨_, rfl, rfl, hM0.chg⟩)))
   replace h := iteF hb h
   have hs : Sep [] w2 S1 := Sep.pick [] hs (by decide) rfl
   refine (wp_skip ?_)
   refine blk_normal (then_normal ?_)
   refine wp_seq (wp_pure [(6, .bool false)] hF (by kernel_rfl) fun fr hF => then_normal ?_)
   obtain rfl := Option.some.inj h
   exact wp_ret (ret1 rfl hF rfl ⟨_, rfl, rfl, hM0.chg⟩)
 replace h := iteF hb h
 refine wp_seq (wp_pure [(3, B b1 0), (7, .bool ((decide (p0.B ≥ 0)) && (decide (p0.B ≤ p2)))), (37, I p0.Op), (61, .bool (p0.Op == 6))] hF (by kernel_rfl) fun fr hF => then_normal ?_)
 refine (wp_merge [(3, B b1 0), (7, .bool ((decide (p0.B ≥ 0)) && (decide (p0.B ≤ p2)))), (37, I p0.Op), (61, .bool ((p0.Op == 6) || (p0.Op == 13)))] hF (b := (p0.Op == 6)) rfl (fun hb => ?_) (fun hb => ?_) fun fr hF => then_normal ?_)
 · exact wp_skip ⟨rfl, rfl, (hF.sub [(3, B b1 0), (7, .bool ((decide (p0.B ≥ 0)) && (decide (p0.B ≤ p2)))), (37, I p0.Op), (61, .bool (p0.Op == 6))] (by kernel_rfl)).eqs (by first | (simp only [hb]; done) | (simp only [hb]; rfl))⟩
 · exact wp_pure [(3, B b1 0), (7, .bool ((decide (p0.B ≥ 0)) && (decide (p0.B ≤ p2)))), (37, I p0.Op), (61, .bool (p0.Op == 13))] hF (by kernel_rfl) fun fr hF => ⟨rfl, rfl, hF.eqs (by first | (simp only [hb]; done) | (simp only [hb]; rfl))⟩
 refine (wp_if hF (b := ((p0.Op == 6) || (p0.Op == 13))) rfl (fun hb => ?_) (fun hb => ?_))
 · replace h := iteT hb h
   obtain ⟨x20, hx20, h⟩ := bindE h
   refine wp_seq (region_b [] [true, false, false, true, true, false, true, true, true]
       [.eq (B b1 1), .eq (I p0.A), .eq (.bool x20), .eq (.bool x20), .eq (B b1 2), .eq (I p0.B), .eq (.bool (p0.B == 0)), .eq (.bool (x20 && (p0.B == 0))), .eq (.bool (x20 && (p0.B == 0)))]
       [(6, .bool (x20 && (p0.B == 0)))] mix hF (by kernel_rfl) (by kernel_rfl) (by kernel_rfl) ⟨Pd.mono_eq, Pd.mono_eq, Pd.mono_eq, trivial⟩ (fun hG => ⟨np_loadBox hG hF ty3 rfl rfl (hs.bx 0 rfl) rfl rfl rfl, np_call [I p0.A] hG hF Tryd.call65 rfl rfl (fun w hC hg => (impl_isReg_ok p0.A hx20).mono fun e w' ⟨v, he, hv, hc⟩ => ⟨v, he, hc, hv⟩), np_loadBox hG hF ty3 rfl rfl (hs.bx 0 rfl) rfl rfl rfl, trivial⟩) (by kernel_rfl) fun fr w27 hF hE hc => then_normal ?_)
   have hs := hs.ext hc
   have hM0 := hM0.ext hc
   have hs : Sep [] w27 S1 := Sep.pick [] hs (by decide) rfl
   obtain rfl := Option.some.inj h
   exact wp_ret (blk_ret (then_ret (ret1 rfl hF rfl ⟨_, rfl, rfl, hM0.chg⟩)))
 replace h := iteF hb h
 refine wp_seq ?_
 refine wp_seq (wp_pure [(3, B b1 0), (7, .bool ((decide (p0.B ≥ 0)) && (decide (p0.B ≤ p2)))), (37, I p0.Op), (74, .bool (p0.Op == 9))] hF (by kernel_rfl) fun fr hF => then_normal ?_)
 refine (wp_merge [(3, B b1 0), (7, .bool ((decide (p0.B ≥ 0)) && (decide (p0.B ≤ p2)))), (37, I p0.Op), (74, .bool ((p0.Op == 9) || (p0.Op == 11)))] hF (b := (p0.Op == 9)) rfl (fun hb => ?_) (fun hb => ?_) fun fr hF => then_normal ?_)
 · exact wp_skip ⟨rfl, rfl, (hF.sub [(3, B b1 0), (7, .bool ((decide (p0.B ≥ 0)) && (decide (p0.B ≤ p2)))), (37, I p0.Op), (74, .bool (p0.Op == 9))] (by kernel_rfl)).eqs (by first | (simp only [hb]; done) | (simp only [hb]; rfl))⟩
 · exact wp_pure [(3, B b1 0), (7, .bool ((decide (p0.B ≥ 0)) && (decide (p0.B ≤ p2)))), (37, I p0.Op), (74, .bool (p0.Op == 11))] hF (by kernel_rfl) fun fr hF => ⟨rfl, rfl, hF.eqs (by first | (simp only [hb]; done) | (simp only [hb]; rfl))⟩
 refine (wp_if hF (b := ((p0.Op == 9) || (p0.Op == 11))) rfl (fun hb => ?_) (fun hb => ?_))
 · replace h := iteT hb h
   refine wp_seq (region_b [] [true, false, true, true, true, true, true]
       [.eq (B b1 1), .eq (I p0.A), .eq (.bool (p0.A == 0)), .eq (.bool (p0.A == 0)), .eq (.bool ((decide (p0.B ≥ 0)) && (decide (p0.B ≤ p2)))), .eq (.bool ((p0.A == 0) && ((decide (p0.B ≥ 0)) && (decide (p0.B ≤ p2))))), .eq (.bool ((p0.A == 0) && ((decide (p0.B ≥ 0)) && (decide (p0.B ≤ p2)))))]
       [(6, .bool ((p0.A == 0) && ((decide (p0.B ≥ 0)) && (decide (p0.B ≤ p2)))))] mix hF (by kernel_rfl) (by kernel_rfl) (by kernel_rfl) ⟨Pd.mono_eq, trivial⟩ (fun hG => ⟨np_loadBox hG hF ty3 rfl rfl (hs.bx 0 rfl) rfl rfl rfl, trivial⟩) (by kernel_rfl) fun fr w28 hF hE hc => then_normal ?_)
   have hs := hs.ext hc
   have hM0 := hM0.ext hc
   have hs : Sep [] w28 S1 := Sep.pick [] hs (by decide) rfl
   obtain rfl := Option.some.inj h
   exact wp_ret (blk_ret (then_ret (ret1 rfl hF rfl ⟨_, rfl, rfl, hM0.chg⟩)))
 replace h := iteF hb h
 refine wp_seq (wp_pure [(3, B b1 0), (7, .bool ((decide (p0.B ≥ 0)) && (decide (p0.B ≤ p2)))), (37, I p0.Op), (83, .bool (p0.Op == 10))] hF (by kernel_rfl) fun fr hF => then_normal ?_)
 refine (wp_if hF (b := (p0.Op == 10)) rfl (fun hb => ?_) (fun hb => ?_))
 · replace h := iteT hb h
   obtain ⟨x21, hx21, h⟩ := bindE h
   refine wp_seq (region_b [] [true, false, false, true, true, true, true]
       [.eq (B b1 1), .eq (I p0.A), .eq (.bool x21), .eq (.bool x21), .eq (.bool ((decide (p0.B ≥ 0)) && (decide (p0.B ≤ p2)))), .eq (.bool (x21 && ((decide (p0.B ≥ 0)) && (decide (p0.B ≤ p2))))), .eq (.bool (x21 && ((decide (p0.B ≥ 0)) && (decide (p0.B ≤ p2)))))]
       [(6, .bool (x21 && ((decide (p0.B ≥ 0)) && (decide (p0.B ≤ p2)))))] mix hF (by kernel_rfl) (by kernel_rfl) (by kernel_rfl) ⟨Pd.mono_eq, Pd.mono_eq, trivial⟩ (fun hG => ⟨np_loadBox hG hF ty3 rfl rfl (hs.bx 0 rfl) rfl rfl rfl, np_call [I p0.A] hG hF Tryd.call65 rfl rfl (fun w hC hg => (impl_isReg_ok p0.A hx21).mono fun e w' ⟨v, he, hv, hc⟩ => ⟨v, he, hc, hv⟩), trivial⟩) (by kernel_rfl) fun fr w29 hF hE hc => then_normal ?_)
   have hs := hs.ext hc
   have hM0 := hM0.ext hc
   have hs : Sep [] w29 S1 := Sep.pick [] hs (by decide) rfl
   obtain rfl := Option.some.inj h
   exact wp_ret (blk_ret (then_ret (ret1 rfl hF rfl ⟨_, rfl, rfl, hM0.chg⟩)))
 replace h := iteF hb h
 refine wp_seq ?_
 refine wp_seq (wp_pure [(3, B b1 0), (37, I p0.Op), (91, .bool (p0.Op == 12))] hF (by kernel_rfl) fun fr hF => then_normal ?_)
 refine (wp_merge [(3, B b1 0), (91, .bool ((p0.Op == 12) || (p0.Op == 14)))] hF (b := (p0.Op == 12)) rfl (fun hb => ?_) (fun hb => ?_) fun fr hF => then_normal ?_)
 · exact wp_skip ⟨rfl, rfl, (hF.sub [(3, B b1 0), (91, .bool (p0.Op == 12))] (by kernel_rfl)).eqs (by first | (simp only [hb]; done) | (simp only [hb]; rfl))⟩
 · exact wp_pure [(3, B b1 0), (91, .bool (p0.Op == 14))] hF (by kernel_rfl) fun fr hF => ⟨rfl, rfl, hF.eqs (by first | (simp only [hb]; done) | (simp only [hb]; rfl))⟩
 refine (wp_if hF (b := ((p0.Op == 12) || (p0.Op == 14))) rfl (fun hb => ?_) (fun hb => ?_))
 · replace h := iteT hb h
   refine wp_seq (region_b [] [true, false, true, true, true, false, true, true, true]
       [.eq (B b1 1), .eq (I p0.A), .eq (.bool (p0.A == 0)), .eq (.bool (p0.A == 0)), .eq (B b1 2), .eq (I p0.B), .eq (.bool (p0.B == 0)), .eq (.bool ((p0.A == 0) && (p0.B == 0))), .eq (.bool ((p0.A == 0) && (p0.B == 0)))]
       [(6, .bool ((p0.A == 0) && (p0.B == 0)))] mix hF (by kernel_rfl) (by kernel_rfl) (by kernel_rfl) ⟨Pd.mono_eq, Pd.mono_eq, trivial⟩ (fun hG => ⟨np_loadBox hG hF ty3 rfl rfl (hs.bx 0 rfl) rfl rfl rfl, np_loadBox hG hF ty3 rfl rfl (hs.bx 0 rfl) rfl rfl rfl, trivial⟩) (by kernel_rfl) fun fr w30 hF hE hc => then_normal ?_)
   have hs := hs.ext hc
   have hM0 := hM0.ext hc
   have hs : Sep [] w30 S1 := Sep.pick [] hs (by decide) rfl
   obtain rfl := Option.some.inj h
   exact wp_ret (blk_ret (then_ret (ret1 rfl hF rfl ⟨_, rfl, rfl, hM0.chg⟩)))
 replace h := iteF hb h
 have hs : Sep [] w2 S1 := Sep.pick [] hs (by decide) rfl
 refine (wp_skip ?_)
 refine blk_normal (then_normal ?_)
 refine wp_seq (wp_pure [(6, .bool false)] hF (by kernel_rfl) fun fr hF => then_normal ?_)
 obtain rfl := Option.some.inj h
 exact wp_ret (ret1 rfl hF rfl ⟨_, rfl, rfl, hM0.chg⟩)

theorem impl_FormatInt_ok (p0 : Int) {r : Str} (h : impl_FormatInt p0 = some r) {w : World} {G99 : Nat → Prop} (tb : TX Tryd.prog w G99) :
   Calls Tryd.prog 34 [I p0].toArray w fun e w' => ∃ v, e = .returned v ∧ v = Str.val r ∧ Chg Non w w' := by
 unfold impl_FormatInt at h
 have hs := Sep.nil w Non
 have hM0 : Mem w Non (fun k => (G99 k) ∧ k < w.heap.size) w Non (fun k => (G99 k) ∧ k < w.heap.size) := Mem.start (fun _ h => h.elim) (fun _ h => h.2) (fun _ h => h.elim)
 have tb := tb.sub (F' := (fun k => (G99 k) ∧ k < w.heap.size)) (fun k hk h => ⟨h, hk⟩)
 refine enter (N := 5) Tryd.func34 rfl Tryd.ntmps34 rfl fun fr hF => ?_
 refine wp_seq (wp_pure [(0, I p0)] hF (by kernel_rfl) fun fr hF => then_normal ?_)
 refine wp_seq (wp_text' ?_)
 refine from_pure 1 [(3, I p0)] hF (by kernel_rfl) fun fr hF => ?_
 obtain ⟨x1, hx1, h⟩ := bindE h
 refine s_call [I p0] Tryd.call67 rfl rfl hF rfl (strconv_Itoa_ok p0 hx1 tb) fun v w1 fr hRes hF => ?_
 obtain ⟨rfl, hc⟩ := hRes
 have tb := tb.ext hc
 have hs := hs.ext hc
 have hM0 := hM0.ext hc
 refine from_pure 1 [(2, Str.val x1)] hF (by kernel_rfl) fun fr hF => ?_
 refine from_end rfl (then_normal ?_)
 obtain rfl := Option.some.inj h
 exact wp_ret (ret1 rfl hF rfl ⟨_, rfl, rfl, hM0.chg⟩)

theorem impl_regName_ok (p0 : Int) {r : Str} (h : impl_regName p0 = some r) {w : World} {G99 : Nat → Prop} (tb : TX Tryd.prog w G99) :
   Calls Tryd.prog 32 [I p0].toArray w fun e w' => ∃ v, e = .returned v ∧ v = Str.val r ∧ Chg Non w w' := by
 unfold impl_regName at h
 have hs := Sep.nil w Non
 have hM0 : Mem w Non (fun k => (G99 k) ∧ k < w.heap.size) w Non (fun k => (G99 k) ∧ k < w.heap.size) := Mem.start (fun _ h => h.elim) (fun _ h => h.2) (fun _ h => h.elim)
 have tb := tb.sub (F' := (fun k => (G99 k) ∧ k < w.heap.size)) (fun k hk h => ⟨h, hk⟩)
 refine enter (N := 6) Tryd.func32 rfl Tryd.ntmps32 rfl fun fr hF => ?_
 refine wp_seq (wp_pure [(0, I p0)] hF (by kernel_rfl) fun fr hF => then_normal ?_)
 refine wp_seq (wp_text' ?_)
 refine from_pure 1 [(3, I p0)] hF (by kernel_rfl) fun fr hF => ?_
 obtain ⟨x1, hx1, h⟩ := bindE h
 refine s_call [I p0] Tryd.call34 rfl rfl hF rfl (impl_FormatInt_ok p0 hx1 tb) fun v w1 fr hRes hF => ?_
 obtain ⟨rfl, hc⟩ := hRes
 have tb := tb.ext hc
 have hs := hs.ext hc
 have hM0 := hM0.ext hc
 obtain ⟨x2, hx2, h⟩ := bindE h
 refine s_cat (s1 := (⟨[114]⟩)) (s2 := x1) rfl rfl hF rfl rfl hx2 fun fr hF => ?_
 refine from_pure 1 [(2, Str.val x2)] hF (by kernel_rfl) fun fr hF => ?_
 refine from_end rfl (then_normal ?_)
 obtain rfl := Option.some.inj h
 exact wp_ret (ret1 rfl hF rfl ⟨_, rfl, rfl, hM0.chg⟩)

theorem impl_FormatIns_ok (p0 : D.Ins) (p1 : Int) (p2 : Int) {r : Str} (h : impl_FormatIns p0 p1 p2 = some r) {w : World} {G99 : Nat → Prop} (tb : TX Tryd.prog w G99) :
   Calls Tryd.prog 9 [.agg #[I p0.Op, I p0.A, I p0.B, I p0.C], I p1, I p2].toArray w fun e w' => ∃ v, e = .returned v ∧ v = Str.val r ∧ Chg Non w w' := by
 unfold impl_FormatIns at h
 have hs := Sep.nil w Non
 have hM0 : Mem w Non (fun k => (G99 k) ∧ k < w.heap.size) w Non (fun k => (G99 k) ∧ k < w.heap.size) := Mem.start (fun _ h => h.elim) (fun _ h => h.2) (fun _ h => h.elim)
 have tb := tb.sub (F' := (fun k => (G99 k) ∧ k < w.heap.size)) (fun k hk h => ⟨h, hk⟩)
 refine enter (N := 95) Tryd.func9 rfl Tryd.ntmps9 rfl fun fr hF => ?_
 refine wp_seq (wp_text' ?_)
 refine q_box hs hM0 [I p0.Op, I p0.A, I p0.B, I p0.C] rfl rfl hF rfl rfl fun b1 w1 S1 fr hs hp hF => ?_
 have tb := tb.stp hM0 hp
 have hM0 := hM0.stp hp
 have hs : Sep [BX b1 25 [I p0.Op, I p0.A, I p0.B, I p0.C]] w1 S1 := hs
 refine from_pure 1 [(1, I p1), (2, I p2), (3, B b1 0)] hF (by kernel_rfl) fun fr hF => ?_
 refine from_end rfl (then_normal ?_)
 refine wp_seq ?_
 obtain ⟨x1, hx1, h⟩ := bindE h
 obtain ⟨x2, hx2, h⟩ := bindE h
 refine wp_seq (region_b [] [true, true, false, true, true, false, true, true, false, true, true]
     [.eq (I p1), .eq (I p2), .eq (.bool x1), .eq (.bool (!x1)), .eq (.bool (!x1)), .eq (.agg #[I p0.Op, I p0.A, I p0.B, I p0.C]), .eq (I p1), .eq (I p2), .eq (.bool x2), .eq (.bool (!x2)), .eq (.bool ((!x1) || (!x2)))]
     [(3, B b1 0), (17, .bool ((!x1) || (!x2)))] mix hF (by kernel_rfl) (by kernel_rfl) (by kernel_rfl) ⟨Pd.mono_eq, Pd.mono_eq, Pd.mono_eq, trivial⟩ (fun hG => ⟨np_call [I p1, I p2] hG hF Tryd.call29 rfl rfl (fun w hC hg => (impl_shapeOk_ok p1 p2 hx1).mono fun e w' ⟨v, he, hv, hc⟩ => ⟨v, he, hc, hv⟩), np_loadBoxS hG hF ty25 rfl rfl (hs.bx 0 rfl) rfl rfl rfl rfl, np_call [.agg #[I p0.Op, I p0.A, I p0.B, I p0.C], I p1, I p2] hG hF Tryd.call30 rfl rfl (fun w hC hg => (impl_insOk_ok p0 p1 p2 (iteF hg.2 hx2)).mono fun e w' ⟨v, he, hv, hc⟩ => ⟨v, he, hc, hv⟩), trivial⟩) (by kernel_rfl) fun fr w2 hF hE hc => then_normal ?_)
 have tb := tb.ext hc
 have hs := hs.ext hc
 have hM0 := hM0.ext hc
 refine (wp_if hF (b := ((!x1) || (!x2))) rfl (fun hb => ?_) (fun hb => ?_))
 · replace h := iteT hb h
   have hs : Sep [] w2 S1 := Sep.pick [] hs (by decide) rfl
   refine wp_seq (wp_pure [(6, Str.val (⟨[]⟩))] hF (by kernel_rfl) fun fr hF => then_normal ?_)
   obtain rfl := Option.some.inj h
   exact wp_ret (then_ret (ret1 rfl hF rfl ⟨_, rfl, rfl, hM0.chg⟩))
 replace h := iteF hb h
 refine (wp_skip (then_normal ?_))
 refine wp_seq ?_
 refine wp_seq (wp_text' ?_)
 refine from_pure 1 [(3, B b1 0), (18, B b1 0)] hF (by kernel_rfl) fun fr hF => ?_
 refine s_loadBox (I p0.Op) ty3 rfl rfl hF rfl (hs.bx 0 rfl) rfl rfl fun fr hF => ?_
 refine from_end rfl (then_normal ?_)
 refine (wp_block ?_)
 refine wp_seq (wp_pure [(3, B b1 0), (19, I p0.Op), (20, .bool (p0.Op == 3))] hF (by kernel_rfl) fun fr hF => then_normal ?_)
 refine (wp_if hF (b := (p0.Op == 3)) rfl (fun hb => ?_) (fun hb => ?_))
 · replace h := iteT hb h
   obtain ⟨x3, hx3, h⟩ := bindE h
   obtain ⟨x4, hx4, h⟩ := bindE h
   obtain ⟨x5, hx5, h⟩ := bindE h
   obtain ⟨x6, hx6, h⟩ := bindE h
   obtain ⟨x7, hx7, h⟩ := bindE h
   obtain ⟨x8, hx8, h⟩ := bindE h
   obtain ⟨x9, hx9, h⟩ := bindE h
   refine wp_seq (region_bm 14 [0, 1, 3, 7, 0, 16, 55, 127, 255, 0, 512, 1655, 4095, 8191] [true, false, false, false, true, false, false, false, false, true, false, false, false, true]
       [.eq (B b1 3), .eq (I p0.C), .eq (Str.val x3), .eq (Str.val x4), .eq (B b1 1), .eq (I p0.A), .eq (Str.val x5), .eq (Str.val x6), .eq (Str.val x7), .eq (B b1 2), .eq (I p0.B), .eq (Str.val x8), .eq (Str.val x9), .eq (Str.val x9)]
       [(6, Str.val x9)] mix hF (by kernel_rfl) (by kernel_rfl) (by kernel_rfl) (by kernel_rfl) ⟨Pd.monoO_eq, Pd.monoO_eq, Pd.monoO_eq, Pd.monoO_eq, Pd.monoO_eq, Pd.monoO_eq, Pd.monoO_eq, Pd.monoO_eq, Pd.monoO_eq, Pd.monoO_eq, trivial⟩ (fun ow hG => ⟨np_to ow (np_loadBox hG hF ty3 rfl rfl (hs.bx 0 rfl) rfl rfl rfl), np_to ow (np_call [I p0.C] hG hF Tryd.call31 rfl rfl (fun w hC hg => (impl_OpName_ok p0.C hx3).mono fun e w' ⟨v, he, hv, hc⟩ => ⟨v, he, hc, hv⟩)), np_to ow (np_cat (s1 := x3) (s2 := (⟨[32]⟩)) hG hF rfl rfl rfl (fun hg => hx4) rfl), np_to ow (np_loadBox hG hF ty3 rfl rfl (hs.bx 0 rfl) rfl rfl rfl), np_to ow (np_call [I p0.A] hG hF Tryd.call32 rfl rfl (fun w hC hg => (impl_regName_ok p0.A hx5 (tb.ext hC)).mono fun e w' ⟨v, he, hv, hc⟩ => ⟨v, he, hc, hv⟩)), np_to ow (np_cat (s1 := x4) (s2 := x5) hG hF rfl rfl rfl (fun hg => hx6) rfl), np_to ow (np_cat (s1 := x6) (s2 := (⟨[32]⟩)) hG hF rfl rfl rfl (fun hg => hx7) rfl), np_to ow (np_loadBox hG hF ty3 rfl rfl (hs.bx 0 rfl) rfl rfl rfl), np_to ow (np_call [I p0.B] hG hF Tryd.call32 rfl rfl (fun w hC hg => (impl_regName_ok p0.B hx8 (tb.ext hC)).mono fun e w' ⟨v, he, hv, hc⟩ => ⟨v, he, hc, hv⟩)), np_to ow (np_cat (s1 := x7) (s2 := x8) hG hF rfl rfl rfl (fun hg => hx9) rfl), trivial⟩) (by kernel_rfl) fun ow fr w3 hF hE hc => ?_)
   have tb := tb.ext hc
   have hs := hs.ext hc
   have hM0 := hM0.ext hc
   have hs : Sep [] w3 S1 := Sep.pick [] hs (by decide) rfl
   refine from_end rfl (then_normal ?_)
   obtain rfl := Option.some.inj h
   exact wp_ret (blk_ret (then_ret (ret1 rfl hF rfl ⟨_, rfl, rfl, hM0.chg⟩)))
 replace h := iteF hb h
 refine wp_seq ?_
 refine wp_seq (wp_pure [(3, B b1 0), (19, I p0.Op), (35, .bool (p0.Op == 2))] hF (by kernel_rfl) fun fr hF => then_normal ?_)
 refine (wp_if hF (b := (p0.Op == 2)) rfl (fun hb => ?_) (fun hb => ?_))
 · replace h := iteT hb h
   refine (wp_skip (then_normal ?_))
   refine (wp_if hF (b := (p0.Op == 2)) rfl (fun hb => ?_) (fun hb => ?_))
   · replace h := iteT hb h
     obtain ⟨x10, hx10, h⟩ := bindE h
     obtain ⟨x11, hx11, h⟩ := bindE h
     obtain ⟨x12, hx12, h⟩ := bindE h
     obtain ⟨x13, hx13, h⟩ := bindE h
     obtain ⟨x14, hx14, h⟩ := bindE h
     obtain ⟨x15, hx15, h⟩ := bindE h
     obtain ⟨x16, hx16, h⟩ := bindE h
     refine wp_seq (region_bm 14 [0, 1, 3, 7, 0, 16, 55, 127, 255, 0, 512, 1655, 4095, 8191] [true, false, false, false, true, false, false, false, false, true, false, false, false, true]
         [.eq (B b1 0), .eq (I p0.Op), .eq (Str.val x10), .eq (Str.val x11), .eq (B b1 1), .eq (I p0.A), .eq (Str.val x12), .eq (Str.val x13), .eq (Str.val x14), .eq (B b1 2), .eq (I p0.B), .eq (Str.val x15), .eq (Str.val x16), .eq (Str.val x16)]
         [(6, Str.val x16)] mix hF (by kernel_rfl) (by kernel_rfl) (by kernel_rfl) (by kernel_rfl) ⟨Pd.monoO_eq, Pd.monoO_eq, Pd.monoO_eq, Pd.monoO_eq, Pd.monoO_eq, Pd.monoO_eq, Pd.monoO_eq, Pd.monoO_eq, Pd.monoO_eq, Pd.monoO_eq, trivial⟩ (fun ow hG => ⟨np_to ow (np_loadBox hG hF ty3 rfl rfl (hs.bx 0 rfl) rfl rfl rfl), np_to ow (np_call [I p0.Op] hG hF Tryd.call33 rfl rfl (fun w hC hg => (impl_insWord_ok p0.Op hx10).mono fun e w' ⟨v, he, hv, hc⟩ => ⟨v, he, hc, hv⟩)), np_to ow (np_cat (s1 := x10) (s2 := (⟨[32]⟩)) hG hF rfl rfl rfl (fun hg => hx11) rfl), np_to ow (np_loadBox hG hF ty3 rfl rfl (hs.bx 0 rfl) rfl rfl rfl), np_to ow (np_call [I p0.A] hG hF Tryd.call32 rfl rfl (fun w hC hg => (impl_regName_ok p0.A hx12 (tb.ext hC)).mono fun e w' ⟨v, he, hv, hc⟩ => ⟨v, he, hc, hv⟩)), np_to ow (np_cat (s1 := x11) (s2 := x12) hG hF rfl rfl rfl (fun hg => hx13) rfl), np_to ow (np_cat (s1 := x13) (s2 := (⟨[32]⟩)) hG hF rfl rfl rfl (fun hg => hx14) rfl), np_to ow (np_loadBox hG hF ty3 rfl rfl (hs.bx 0 rfl) rfl rfl rfl), np_to ow (np_call [I p0.B] hG hF Tryd.call32 rfl rfl (fun w hC hg => (impl_regName_ok p0.B hx15 (tb.ext hC)).mono fun e w' ⟨v, he, hv, hc⟩ => ⟨v, he, hc, hv⟩)), np_to ow (np_cat (s1 := x14) (s2 := x15) hG hF rfl rfl rfl (fun hg => hx16) rfl), trivial⟩) (by kernel_rfl) fun ow fr w4 hF hE hc => ?_)
     have tb := tb.ext hc
     have hs := hs.ext hc
     have hM0 := hM0.ext hc
     have hs : Sep [] w4 S1 := Sep.pick [] hs (by decide) rfl
     refine from_end rfl (then_normal ?_)
     obtain rfl := Option.some.inj h
     exact wp_ret (blk_ret (then_ret (ret1 rfl hF rfl ⟨_, rfl, rfl, hM0.chg⟩)))
   replace h := iteF hb h
   refine wp_seq ?_
   refine wp_seq (wp_pure [(3, B b1 0), (19, I p0.Op), (52, .bool (p0.Op == 1))] hF (by kernel_rfl) fun fr hF => then_normal ?_)
   refine (wp_merge [(3, B b1 0), (19, I p0.Op), (52, .bool ((p0.Op == 1) || (p0.Op == 10)))] hF (b := (p0.Op == 1)) rfl (fun hb => ?_) (fun hb => ?_) fun fr hF => then_normal ?_)
   · exact wp_skip ⟨rfl, rfl, (hF.sub [(3, B b1 0), (19, I p0.Op), (52, .bool (p0.Op == 1))] (by kernel_rfl)).eqs (by first | (simp only [hb]; done) | (simp only [hb]; rfl))⟩
   · exact wp_pure [(3, B b1 0), (19, I p0.Op), (52, .bool (p0.Op == 10))] hF (by kernel_rfl) fun fr hF => ⟨rfl, rfl, hF.eqs (by first | (simp only [hb]; done) | (simp only [hb]; rfl))⟩
   refine (wp_if hF (b := ((p0.Op == 1) || (p0.Op == 10))) rfl (fun hb => ?_) (fun hb => ?_))
   · replace h := iteT hb h
     obtain ⟨x17, hx17, h⟩ := bindE h
     obtain ⟨x18, hx18, h⟩ := bindE h
     obtain ⟨x19, hx19, h⟩ := bindE h
     obtain ⟨x20, hx20, h⟩ := bindE h
     obtain ⟨x21, hx21, h⟩ := bindE h
     obtain ⟨x22, hx22, h⟩ := bindE h
     obtain ⟨x23, hx23, h⟩ := bindE h
     refine wp_seq (region_bm 14 [0, 1, 3, 7, 0, 16, 55, 127, 255, 0, 512, 1655, 4095, 8191] [true, false, false, false, true, false, false, false, false, true, false, false, false, true]
         [.eq (B b1 0), .eq (I p0.Op), .eq (Str.val x17), .eq (Str.val x18), .eq (B b1 1), .eq (I p0.A), .eq (Str.val x19), .eq (Str.val x20), .eq (Str.val x21), .eq (B b1 2), .eq (I p0.B), .eq (Str.val x22), .eq (Str.val x23), .eq (Str.val x23)]
         [(6, Str.val x23)] mix hF (by kernel_rfl) (by kernel_rfl) (by kernel_rfl) (by kernel_rfl) ⟨Pd.monoO_eq, Pd.monoO_eq, Pd.monoO_eq, Pd.monoO_eq, Pd.monoO_eq, Pd.monoO_eq, Pd.monoO_eq, Pd.monoO_eq, Pd.monoO_eq, Pd.monoO_eq, trivial⟩ (fun ow hG => ⟨np_to ow (np_loadBox hG hF ty3 rfl rfl (hs.bx 0 rfl) rfl rfl rfl), np_to ow (np_call [I p0.Op] hG hF Tryd.call33 rfl rfl (fun w hC hg => (impl_insWord_ok p0.Op hx17).mono fun e w' ⟨v, he, hv, hc⟩ => ⟨v, he, hc, hv⟩)), np_to ow (np_cat (s1 := x17) (s2 := (⟨[32]⟩)) hG hF rfl rfl rfl (fun hg => hx18) rfl), np_to ow (np_loadBox hG hF ty3 rfl rfl (hs.bx 0 rfl) rfl rfl rfl), np_to ow (np_call [I p0.A] hG hF Tryd.call32 rfl rfl (fun w hC hg => (impl_regName_ok p0.A hx19 (tb.ext hC)).mono fun e w' ⟨v, he, hv, hc⟩ => ⟨v, he, hc, hv⟩)), np_to ow (np_cat (s1 := x18) (s2 := x19) hG hF rfl rfl rfl (fun hg => hx20) rfl), np_to ow (np_cat (s1 := x20) (s2 := (⟨[32]⟩)) hG hF rfl rfl rfl (fun hg => hx21) rfl), np_to ow (np_loadBox hG hF ty3 rfl rfl (hs.bx 0 rfl) rfl rfl rfl), np_to ow (np_call [I p0.B] hG hF Tryd.call34 rfl rfl (fun w hC hg => (impl_FormatInt_ok p0.B hx22 (tb.ext hC)).mono fun e w' ⟨v, he, hv, hc⟩ => ⟨v, he, hc, hv⟩)), np_to ow (np_cat (s1 := x21) (s2 := x22) hG hF rfl rfl rfl (fun hg => hx23) rfl), trivial⟩) (by kernel_rfl) fun ow fr w5 hF hE hc => ?_)
     have tb := tb.ext hc
     have hs := hs.ext hc
     have hM0 := hM0.ext hc
     have hs : Sep [] w5 S1 := Sep.pick [] hs (by decide) rfl
     refine from_end rfl (then_normal ?_)
     obtain rfl := Option.some.inj h
     exact wp_ret (blk_ret (then_ret (ret1 rfl hF rfl ⟨_, rfl, rfl, hM0.chg⟩)))
   replace h := iteF hb h
   refine wp_seq ?_
   refine wp_seq (wp_pure [(3, B b1 0), (19, I p0.Op), (68, .bool (p0.Op == 4))] hF (by kernel_rfl) fun fr hF => then_normal ?_)
   refine (wp_if hF (b := (p0.Op == 4)) rfl (fun hb => ?_) (fun hb => ?_))
   · replace h := iteT hb h
     refine (wp_skip (then_normal ?_))
     refine (wp_if hF (b := (p0.Op == 4)) rfl (fun hb => ?_) (fun hb => ?_))
     · replace h := iteT hb h
       obtain ⟨x24, hx24, h⟩ := bindE h
       obtain ⟨x25, hx25, h⟩ := bindE h
       obtain ⟨x26, hx26, h⟩ := bindE h
       obtain ⟨x27, hx27, h⟩ := bindE h
       refine wp_seq (region_bm 9 [0, 1, 3, 7, 0, 16, 55, 127, 255] [true, false, false, false, true, false, false, false, true]
           [.eq (B b1 0), .eq (I p0.Op), .eq (Str.val x24), .eq (Str.val x25), .eq (B b1 1), .eq (I p0.A), .eq (Str.val x26), .eq (Str.val x27), .eq (Str.val x27)]
           [(6, Str.val x27)] mix hF (by kernel_rfl) (by kernel_rfl) (by kernel_rfl) (by kernel_rfl) ⟨Pd.monoO_eq, Pd.monoO_eq, Pd.monoO_eq, Pd.monoO_eq, Pd.monoO_eq, Pd.monoO_eq, trivial⟩ (fun ow hG => ⟨np_to ow (np_loadBox hG hF ty3 rfl rfl (hs.bx 0 rfl) rfl rfl rfl), np_to ow (np_call [I p0.Op] hG hF Tryd.call33 rfl rfl (fun w hC hg => (impl_insWord_ok p0.Op hx24).mono fun e w' ⟨v, he, hv, hc⟩ => ⟨v, he, hc, hv⟩)), np_to ow (np_cat (s1 := x24) (s2 := (⟨[32]⟩)) hG hF rfl rfl rfl (fun hg => hx25) rfl), np_to ow (np_loadBox hG hF ty3 rfl rfl (hs.bx 0 rfl) rfl rfl rfl), np_to ow (np_call [I p0.A] hG hF Tryd.call32 rfl rfl (fun w hC hg => (impl_regName_ok p0.A hx26 (tb.ext hC)).mono fun e w' ⟨v, he, hv, hc⟩ => ⟨v, he, hc, hv⟩)), np_to ow (np_cat (s1 := x25) (s2 := x26) hG hF rfl rfl rfl (fun hg => hx27) rfl), trivial⟩) (by kernel_rfl) fun ow fr w6 hF hE hc => ?_)
       have tb := tb.ext hc
       have hs := hs.ext hc
       have hM0 := hM0.ext hc
       have hs : Sep [] w6 S1 := Sep.pick [] hs (by decide) rfl
       refine from_end rfl (then_normal ?_)
       obtain rfl := Option.some.inj h
       exact wp_ret (blk_ret (then_ret (ret1 rfl hF rfl ⟨_, rfl, rfl, hM0.chg⟩)))
     replace h := iteF hb h
     refine wp_seq ?_
     refine wp_seq (wp_pure [(3, B b1 0), (19, I p0.Op), (81, .bool (p0.Op == 9))] hF (by kernel_rfl) fun fr hF => then_normal ?_)
     refine (wp_merge [(3, B b1 0), (81, .bool ((p0.Op == 9) || (p0.Op == 11)))] hF (b := (p0.Op == 9)) rfl (fun hb => ?_) (fun hb => ?_) fun fr hF => then_normal ?_)
     · exact wp_skip ⟨rfl, rfl, (hF.sub [(3, B b1 0), (81, .bool (p0.Op == 9))] (by kernel_rfl)).eqs (by first | (simp only [hb]; done) | (simp only [hb]; rfl))⟩
     · exact wp_pure [(3, B b1 0), (81, .bool (p0.Op == 11))] hF (by kernel_rfl) fun fr hF => ⟨rfl, rfl, hF.eqs (by first | (simp only [hb]; done) | (simp only [hb]; rfl))⟩
     refine (wp_if hF (b := ((p0.Op == 9) || (p0.Op == 11))) rfl (fun hb => ?_) (fun hb => ?_))
     · replace h := iteT hb h
       obtain ⟨x28, hx28, h⟩ := bindE h
       obtain ⟨x29, hx29, h⟩ := bindE h
       obtain ⟨x30, hx30, h⟩ := bindE h
       obtain ⟨x31, hx31, h⟩ := bindE h
       refine wp_seq (region_bm 9 [0, 1, 3, 7, 0, 16, 55, 127, 255] [true, false, false, false, true, false, false, false, true]
           [.eq (B b1 0), .eq (I p0.Op), .eq (Str.val x28), .eq (Str.val x29), .eq (B b1 2), .eq (I p0.B), .eq (Str.val x30), .eq (Str.val x31), .eq (Str.val x31)]
           [(6, Str.val x31)] mix hF (by kernel_rfl) (by kernel_rfl) (by kernel_rfl) (by kernel_rfl) ⟨Pd.monoO_eq, Pd.monoO_eq, Pd.monoO_eq, Pd.monoO_eq, Pd.monoO_eq, Pd.monoO_eq, trivial⟩ (fun ow hG => ⟨np_to ow (np_loadBox hG hF ty3 rfl rfl (hs.bx 0 rfl) rfl rfl rfl), np_to ow (np_call [I p0.Op] hG hF Tryd.call33 rfl rfl (fun w hC hg => (impl_insWord_ok p0.Op hx28).mono fun e w' ⟨v, he, hv, hc⟩ => ⟨v, he, hc, hv⟩)), np_to ow (np_cat (s1 := x28) (s2 := (⟨[32]⟩)) hG hF rfl rfl rfl (fun hg => hx29) rfl), np_to ow (np_loadBox hG hF ty3 rfl rfl (hs.bx 0 rfl) rfl rfl rfl), np_to ow (np_call [I p0.B] hG hF Tryd.call34 rfl rfl (fun w hC hg => (impl_FormatInt_ok p0.B hx30 (tb.ext hC)).mono fun e w' ⟨v, he, hv, hc⟩ => ⟨v, he, hc, hv⟩)), np_to ow (np_cat (s1 := x29) (s2 := x30) hG hF rfl rfl rfl (fun hg => hx31) rfl), trivial⟩) (by kernel_rfl) fun ow fr w7 hF hE hc => ?_)
       have tb := tb.ext hc
       have hs := hs.ext hc
       have hM0 := hM0.ext hc
       have hs : Sep [] w7 S1 := Sep.pick [] hs (by decide) rfl
       refine from_end rfl (then_normal ?_)
       obtain rfl := Option.some.inj h
       exact wp_ret (blk_ret (then_ret (ret1 rfl hF rfl ⟨_, rfl, rfl, hM0.chg⟩)))
     replace h := iteF hb h
     refine (wp_skip ?_)
     refine blk_normal (then_normal ?_)
     refine wp_seq (wp_text' ?_)
     refine from_pure 1 [(92, B b1 0)] hF (by kernel_rfl) fun fr hF => ?_
     refine s_loadBox (I p0.Op) ty3 rfl rfl hF rfl (hs.bx 0 rfl) rfl rfl fun fr hF => ?_
     have hs : Sep [] w2 S1 := Sep.pick [] hs (by decide) rfl
     obtain ⟨x32, hx32, h⟩ := bindE h
     refine s_call [I p0.Op] Tryd.call33 rfl rfl hF rfl (impl_insWord_ok p0.Op hx32) fun v w8 fr hRes hF => ?_
     obtain ⟨rfl, hc⟩ := hRes
     have tb := tb.ext hc
     have hs := hs.ext hc
     have hM0 := hM0.ext hc
     refine from_pure 1 [(6, Str.val x32)] hF (by kernel_rfl) fun fr hF => ?_
     refine from_end rfl (then_normal ?_)
     obtain rfl := Option.some.inj h
     exact wp_ret (ret1 rfl hF rfl ⟨_, rfl, rfl, hM0.chg⟩)
   replace h := iteF hb h
   refine wp_seq (wp_pure [(3, B b1 0), (19, I p0.Op), (68, .bool (p0.Op == 5))] hF (by kernel_rfl) fun fr hF => then_normal ?_)
   refine (wp_if hF (b := (p0.Op == 5)) rfl (fun hb => ?_) (fun hb => ?_))
   · replace h := iteT hb h
     refine (wp_skip (then_normal ?_))
     refine (wp_if hF (b := (p0.Op == 5)) rfl (fun hb => ?_) (fun hb => ?_))
     · replace h := iteT hb h
       obtain ⟨x33, hx33, h⟩ := bindE h
       obtain ⟨x34, hx34, h⟩ := bindE h
       obtain ⟨x35, hx35, h⟩ := bindE h
       obtain ⟨x36, hx36, h⟩ := bindE h
       refine wp_seq (region_bm 9 [0, 1, 3, 7, 0, 16, 55, 127, 255] [true, false, false, false, true, false, false, false, true]
           [.eq (B b1 0), .eq (I p0.Op), .eq (Str.val x33), .eq (Str.val x34), .eq (B b1 1), .eq (I p0.A), .eq (Str.val x35), .eq (Str.val x36), .eq (Str.val x36)]
           [(6, Str.val x36)] mix hF (by kernel_rfl) (by kernel_rfl) (by kernel_rfl) (by kernel_rfl) ⟨Pd.monoO_eq, Pd.monoO_eq, Pd.monoO_eq, Pd.monoO_eq, Pd.monoO_eq, Pd.monoO_eq, trivial⟩ (fun ow hG => ⟨np_to ow (np_loadBox hG hF ty3 rfl rfl (hs.bx 0 rfl) rfl rfl rfl), np_to ow (np_call [I p0.Op] hG hF Tryd.call33 rfl rfl (fun w hC hg => (impl_insWord_ok p0.Op hx33).mono fun e w' ⟨v, he, hv, hc⟩ => ⟨v, he, hc, hv⟩)), np_to ow (np_cat (s1 := x33) (s2 := (⟨[32]⟩)) hG hF rfl rfl rfl (fun hg => hx34) rfl), np_to ow (np_loadBox hG hF ty3 rfl rfl (hs.bx 0 rfl) rfl rfl rfl), np_to ow (np_call [I p0.A] hG hF Tryd.call32 rfl rfl (fun w hC hg => (impl_regName_ok p0.A hx35 (tb.ext hC)).mono fun e w' ⟨v, he, hv, hc⟩ => ⟨v, he, hc, hv⟩)), np_to ow (np_cat (s1 := x34) (s2 := x35) hG hF rfl rfl rfl (fun hg => hx36) rfl), trivial⟩) (by kernel_rfl) fun ow fr w9 hF hE hc => ?_)
       have tb := tb.ext hc
       have hs := hs.ext hc
       have hM0 := hM0.ext hc
       have hs : Sep [] w9 S1 := Sep.pick [] hs (by decide) rfl
       refine from_end rfl (then_normal ?_)
       obtain rfl := Option.some.inj h
       exact wp_ret (blk_ret (then_ret (ret1 rfl hF rfl ⟨_, rfl, rfl, hM0.chg⟩)))
     replace h := iteF hb h
     refine wp_seq ?_
     refine wp_seq (wp_pure [(3, B b1 0), (19, I p0.Op), (81, .bool (p0.Op == 9))] hF (by kernel_rfl) fun fr hF => then_normal ?_)
     refine (wp_merge [(3, B b1 0), (81, .bool ((p0.Op == 9) || (p0.Op == 11)))] hF (b := (p0.Op == 9)) rfl (fun hb => ?_) (fun hb => ?_) fun fr hF => then_normal ?_)
     · exact wp_skip ⟨rfl, rfl, (hF.sub [(3, B b1 0), (81, .bool (p0.Op == 9))] (by kernel_rfl)).eqs (by first | (simp only [hb]; done) | (simp only [hb]; rfl))⟩
     · exact wp_pure [(3, B b1 0), (81, .bool (p0.Op == 11))] hF (by kernel_rfl) fun fr hF => ⟨rfl, rfl, hF.eqs (by first | (simp only [hb]; done) | (simp only [hb]; rfl))⟩
     refine (wp_if hF (b := ((p0.Op == 9) || (p0.Op == 11))) rfl (fun hb => ?_) (fun hb => ?_))
     · replace h := iteT hb h
       obtain ⟨x37, hx37, h⟩ := bindE h
       obtain ⟨x38, hx38, h⟩ := bindE h
       obtain ⟨x39, hx39, h⟩ := bindE h
       obtain ⟨x40, hx40, h⟩ := bindE h
       refine wp_seq (region_bm 9 [0, 1, 3, 7, 0, 16, 55, 127, 255] [true, false, false, false, true, false, false, false, true]
           [.eq (B b1 0), .eq (I p0.Op), .eq (Str.val x37), .eq (Str.val x38), .eq (B b1 2), .eq (I p0.B), .eq (Str.val x39), .eq (Str.val x40), .eq (Str.val x40)]
           [(6, Str.val x40)] mix hF (by kernel_rfl) (by kernel_rfl) (by kernel_rfl) (by kernel_rfl) ⟨Pd.monoO_eq, Pd.monoO_eq, Pd.monoO_eq, Pd.monoO_eq, Pd.monoO_eq, Pd.monoO_eq, trivial⟩ (fun ow hG => ⟨np_to ow (np_loadBox hG hF ty3 rfl rfl (hs.bx 0 rfl) rfl rfl rfl), np_to ow (np_call [I p0.Op] hG hF Tryd.call33 rfl rfl (fun w hC hg => (impl_insWord_ok p0.Op hx37).mono fun e w' ⟨v, he, hv, hc⟩ => ⟨v, he, hc, hv⟩)), np_to ow (np_cat (s1 := x37) (s2 := (⟨[32]⟩)) hG hF rfl rfl rfl (fun hg => hx38) rfl), np_to ow (np_loadBox hG hF ty3 rfl rfl (hs.bx 0 rfl) rfl rfl rfl), np_to ow (np_call [I p0.B] hG hF Tryd.call34 rfl rfl (fun w hC hg => (impl_FormatInt_ok p0.B hx39 (tb.ext hC)).mono fun e w' ⟨v, he, hv, hc⟩ => ⟨v, he, hc, hv⟩)), np_to ow (np_cat (s1 := x38) (s2 := x39) hG hF rfl rfl rfl (fun hg => hx40) rfl), trivial⟩) (by kernel_rfl) fun ow fr w10 hF hE hc => ?_)
       have tb := tb.ext hc
       have hs := hs.ext hc
       have hM0 := hM0.ext hc
       have hs : Sep [] w10 S1 := Sep.pick [] hs (by decide) rfl
       refine from_end rfl (then_normal ?_)
       obtain rfl := Option.some.inj h
       exact wp_ret (blk_ret (then_ret (ret1 rfl hF rfl ⟨_, rfl, rfl, hM0.chg⟩)))
     replace h := iteF hb h
     refine (wp_skip ?_)
     refine blk_normal (then_normal ?_)
     refine wp_seq (wp_text' ?_)
     refine from_pure 1 [(92, B b1 0)] hF (by kernel_rfl) fun fr hF => ?_
     refine s_loadBox (I p0.Op) ty3 rfl rfl hF rfl (hs.bx 0 rfl) rfl rfl fun fr hF => ?_
     have hs : Sep [] w2 S1 := Sep.pick [] hs (by decide) rfl
     obtain ⟨x41, hx41, h⟩ := bindE h
     refine s_call [I p0.Op] Tryd.call33 rfl rfl hF rfl (impl_insWord_ok p0.Op hx41) fun v w11 fr hRes hF => ?_
     obtain ⟨rfl, hc⟩ := hRes
     have tb := tb.ext hc
     have hs := hs.ext hc
     have hM0 := hM0.ext hc
     refine from_pure 1 [(6, Str.val x41)] hF (by kernel_rfl) fun fr hF => ?_
     refine from_end rfl (then_normal ?_)
     obtain rfl := Option.some.inj h
     exact wp_ret (ret1 rfl hF rfl ⟨_, rfl, rfl, hM0.chg⟩)
   replace h := iteF hb h
   refine wp_seq (wp_pure [(3, B b1 0), (19, I p0.Op), (68, .bool (p0.Op == 6))] hF (by kernel_rfl) fun fr hF => then_normal ?_)
   refine (wp_merge [(3, B b1 0), (19, I p0.Op), (68, .bool ((p0.Op == 6) || (p0.Op == 13)))] hF (b := (p0.Op == 6)) rfl (fun hb => ?_) (fun hb => ?_) fun fr hF => then_normal ?_)
   · exact wp_skip ⟨rfl, rfl, (hF.sub [(3, B b1 0), (19, I p0.Op), (68, .bool (p0.Op == 6))] (by kernel_rfl)).eqs (by first | (simp only [hb]; done) | (simp only [hb]; rfl))⟩
   · exact wp_pure [(3, B b1 0), (19, I p0.Op), (68, .bool (p0.Op == 13))] hF (by kernel_rfl) fun fr hF => ⟨rfl, rfl, hF.eqs (by first | (simp only [hb]; done) | (simp only [hb]; rfl))⟩
   refine (wp_if hF (b := ((p0.Op == 6) || (p0.Op == 13))) rfl (fun hb => ?_) (fun hb => ?_))
   · replace h := iteT hb h
     obtain ⟨x42, hx42, h⟩ := bindE h
     obtain ⟨x43, hx43, h⟩ := bindE h
     obtain ⟨x44, hx44, h⟩ := bindE h
     obtain ⟨x45, hx45, h⟩ := bindE h
     refine wp_seq (region_bm 9 [0, 1, 3, 7, 0, 16, 55, 127, 255] [true, false, false, false, true, false, false, false, true]
         [.eq (B b1 0), .eq (I p0.Op), .eq (Str.val x42), .eq (Str.val x43), .eq (B b1 1), .eq (I p0.A), .eq (Str.val x44), .eq (Str.val x45), .eq (Str.val x45)]
         [(6, Str.val x45)] mix hF (by kernel_rfl) (by kernel_rfl) (by kernel_rfl) (by kernel_rfl) ⟨Pd.monoO_eq, Pd.monoO_eq, Pd.monoO_eq, Pd.monoO_eq, Pd.monoO_eq, Pd.monoO_eq, trivial⟩ (fun ow hG => ⟨np_to ow (np_loadBox hG hF ty3 rfl rfl (hs.bx 0 rfl) rfl rfl rfl), np_to ow (np_call [I p0.Op] hG hF Tryd.call33 rfl rfl (fun w hC hg => (impl_insWord_ok p0.Op hx42).mono fun e w' ⟨v, he, hv, hc⟩ => ⟨v, he, hc, hv⟩)), np_to ow (np_cat (s1 := x42) (s2 := (⟨[32]⟩)) hG hF rfl rfl rfl (fun hg => hx43) rfl), np_to ow (np_loadBox hG hF ty3 rfl rfl (hs.bx 0 rfl) rfl rfl rfl), np_to ow (np_call [I p0.A] hG hF Tryd.call32 rfl rfl (fun w hC hg => (impl_regName_ok p0.A hx44 (tb.ext hC)).mono fun e w' ⟨v, he, hv, hc⟩ => ⟨v, he, hc, hv⟩)), np_to ow (np_cat (s1 := x43) (s2 := x44) hG hF rfl rfl rfl (fun hg => hx45) rfl), trivial⟩) (by kernel_rfl) fun ow fr w12 hF hE hc => ?_)
     have tb := tb.ext hc
     have hs := hs.ext hc
     have hM0 := hM0.ext hc
     have hs : Sep [] w12 S1 := Sep.pick [] hs (by decide) rfl
     refine from_end rfl (then_normal ?_)
     obtain rfl := Option.some.inj h
     exact wp_ret (blk_ret (then_ret (ret1 rfl hF rfl ⟨_, rfl, rfl, hM0.chg⟩)))
   replace h := iteF hb h
   refine wp_seq ?_
   refine wp_seq (wp_pure [(3, B b1 0), (19, I p0.Op), (81, .bool (p0.Op == 9))] hF (by kernel_rfl) fun fr hF => then_normal ?_)
   refine (wp_merge [(3, B b1 0), (81, .bool ((p0.Op == 9) || (p0.Op == 11)))] hF (b := (p0.Op == 9)) rfl (fun hb => ?_) (fun hb => ?_) fun fr hF => then_normal ?_)
   · exact wp_skip ⟨rfl, rfl, (hF.sub [(3, B b1 0), (81, .bool (p0.Op == 9))] (by kernel_rfl)).eqs (by first | (simp only [hb]; done) | (simp only [hb]; rfl))⟩
   · exact wp_pure [(3, B b1 0), (81, .bool (p0.Op == 11))] hF (by kernel_rfl) fun fr hF => ⟨rfl, rfl, hF.eqs (by first | (simp only [hb]; done) | (simp only [hb]; rfl))⟩
   refine (wp_if hF (b := ((p0.Op == 9) || (p0.Op == 11))) rfl (fun hb => ?_) (fun hb => ?_))
   · replace h := iteT hb h
     obtain ⟨x46, hx46, h⟩ := bindE h
     obtain ⟨x47, hx47, h⟩ := bindE h
     obtain ⟨x48, hx48, h⟩ := bindE h
     obtain ⟨x49, hx49, h⟩ := bindE h
     refine wp_seq (region_bm 9 [0, 1, 3, 7, 0, 16, 55, 127, 255] [true, false, false, false, true, false, false, false, true]
         [.eq (B b1 0), .eq (I p0.Op), .eq (Str.val x46), .eq (Str.val x47), .eq (B b1 2), .eq (I p0.B), .eq (Str.val x48), .eq (Str.val x49), .eq (Str.val x49)]
         [(6, Str.val x49)] mix hF (by kernel_rfl) (by kernel_rfl) (by kernel_rfl) (by kernel_rfl) ⟨Pd.monoO_eq, Pd.monoO_eq, Pd.monoO_eq, Pd.monoO_eq, Pd.monoO_eq, Pd.monoO_eq, trivial⟩ (fun ow hG => ⟨np_to ow (np_loadBox hG hF ty3 rfl rfl (hs.bx 0 rfl) rfl rfl rfl), np_to ow (np_call [I p0.Op] hG hF Tryd.call33 rfl rfl (fun w hC hg => (impl_insWord_ok p0.Op hx46).mono fun e w' ⟨v, he, hv, hc⟩ => ⟨v, he, hc, hv⟩)), np_to ow (np_cat (s1 := x46) (s2 := (⟨[32]⟩)) hG hF rfl rfl rfl (fun hg => hx47) rfl), np_to ow (np_loadBox hG hF ty3 rfl rfl (hs.bx 0 rfl) rfl rfl rfl), np_to ow (np_call [I p0.B] hG hF Tryd.call34 rfl rfl (fun w hC hg => (impl_FormatInt_ok p0.B hx48 (tb.ext hC)).mono fun e w' ⟨v, he, hv, hc⟩ => ⟨v, he, hc, hv⟩)), np_to ow (np_cat (s1 := x47) (s2 := x48) hG hF rfl rfl rfl (fun hg => hx49) rfl), trivial⟩) (by kernel_rfl) fun ow fr w13 hF hE hc => ?_)
     have tb := tb.ext hc
     have hs := hs.ext hc
     have hM0 := hM0.ext hc
     have hs : Sep [] w13 S1 := Sep.pick [] hs (by decide) rfl
     refine from_end rfl (then_normal ?_)
     obtain rfl := Option.some.inj h
     exact wp_ret (blk_ret (then_ret (ret1 rfl hF rfl ⟨_, rfl, rfl, hM0.chg⟩)))
   replace h := iteF hb h
   refine (wp_skip ?_)
   refine blk_normal (then_normal ?_)
   refine wp_seq (wp_text' ?_)
   refine from_pure 1 [(92, B b1 0)] hF (by kernel_rfl) fun fr hF => ?_
   refine s_loadBox (I p0.Op) ty3 rfl rfl hF rfl (hs.bx 0 rfl) rfl rfl fun fr hF => ?_
   have hs : Sep [] w2 S1 := Sep.pick [] hs (by decide) rfl
   obtain ⟨x50, hx50, h⟩ := bindE h
   refine s_call [I p0.Op] Tryd.call33 rfl rfl hF rfl (impl_insWord_ok p0.Op hx50) fun v w14 fr hRes hF => ?_
   obtain ⟨rfl, hc⟩ := hRes
   have tb := tb.ext hc
   have hs := hs.ext hc
   have hM0 := hM0.ext hc
   refine from_pure 1 [(6, Str.val x50)] hF (by kernel_rfl) fun fr hF => ?_
   refine from_end rfl (then_normal ?_)
   obtain rfl := Option.some.inj h
   exact wp_ret (ret1 rfl hF rfl ⟨_, rfl, rfl, hM0.chg⟩)
 replace h := iteF hb h
 refine wp_seq (wp_pure [(3, B b1 0), (19, I p0.Op), (35, .bool (p0.Op == 7))] hF (by kernel_rfl) fun fr hF => then_normal ?_)
 refine (wp_merge [(3, B b1 0), (19, I p0.Op), (35, .bool ((p0.Op == 7) || (p0.Op == 8)))] hF (b := (p0.Op == 7)) rfl (fun hb => ?_) (fun hb => ?_) fun fr hF => then_normal ?_)
 · exact wp_skip ⟨rfl, rfl, (hF.sub [(3, B b1 0), (19, I p0.Op), (35, .bool (p0.Op == 7))] (by kernel_rfl)).eqs (by first | (simp only [hb]; done) | (simp only [hb]; rfl))⟩
 · exact wp_pure [(3, B b1 0), (19, I p0.Op), (35, .bool (p0.Op == 8))] hF (by kernel_rfl) fun fr hF => ⟨rfl, rfl, hF.eqs (by first | (simp only [hb]; done) | (simp only [hb]; rfl))⟩
 refine (wp_if hF (b := ((p0.Op == 7) || (p0.Op == 8))) rfl (fun hb => ?_) (fun hb => ?_))
 · replace h := iteT hb h
   obtain ⟨x51, hx51, h⟩ := bindE h
   obtain ⟨x52, hx52, h⟩ := bindE h
   obtain ⟨x53, hx53, h⟩ := bindE h
   obtain ⟨x54, hx54, h⟩ := bindE h
   obtain ⟨x55, hx55, h⟩ := bindE h
   obtain ⟨x56, hx56, h⟩ := bindE h
   obtain ⟨x57, hx57, h⟩ := bindE h
   refine wp_seq (region_bm 14 [0, 1, 3, 7, 0, 16, 55, 127, 255, 0, 512, 1655, 4095, 8191] [true, false, false, false, true, false, false, false, false, true, false, false, false, true]
       [.eq (B b1 0), .eq (I p0.Op), .eq (Str.val x51), .eq (Str.val x52), .eq (B b1 1), .eq (I p0.A), .eq (Str.val x53), .eq (Str.val x54), .eq (Str.val x55), .eq (B b1 2), .eq (I p0.B), .eq (Str.val x56), .eq (Str.val x57), .eq (Str.val x57)]
       [(6, Str.val x57)] mix hF (by kernel_rfl) (by kernel_rfl) (by kernel_rfl) (by kernel_rfl) ⟨Pd.monoO_eq, Pd.monoO_eq, Pd.monoO_eq, Pd.monoO_eq, Pd.monoO_eq, Pd.monoO_eq, Pd.monoO_eq, Pd.monoO_eq, Pd.monoO_eq, Pd.monoO_eq, trivial⟩ (fun ow hG => ⟨np_to ow (np_loadBox hG hF ty3 rfl rfl (hs.bx 0 rfl) rfl rfl rfl), np_to ow (np_call [I p0.Op] hG hF Tryd.call33 rfl rfl (fun w hC hg => (impl_insWord_ok p0.Op hx51).mono fun e w' ⟨v, he, hv, hc⟩ => ⟨v, he, hc, hv⟩)), np_to ow (np_cat (s1 := x51) (s2 := (⟨[32]⟩)) hG hF rfl rfl rfl (fun hg => hx52) rfl), np_to ow (np_loadBox hG hF ty3 rfl rfl (hs.bx 0 rfl) rfl rfl rfl), np_to ow (np_call [I p0.A] hG hF Tryd.call32 rfl rfl (fun w hC hg => (impl_regName_ok p0.A hx53 (tb.ext hC)).mono fun e w' ⟨v, he, hv, hc⟩ => ⟨v, he, hc, hv⟩)), np_to ow (np_cat (s1 := x52) (s2 := x53) hG hF rfl rfl rfl (fun hg => hx54) rfl), np_to ow (np_cat (s1 := x54) (s2 := (⟨[32]⟩)) hG hF rfl rfl rfl (fun hg => hx55) rfl), np_to ow (np_loadBox hG hF ty3 rfl rfl (hs.bx 0 rfl) rfl rfl rfl), np_to ow (np_call [I p0.B] hG hF Tryd.call32 rfl rfl (fun w hC hg => (impl_regName_ok p0.B hx56 (tb.ext hC)).mono fun e w' ⟨v, he, hv, hc⟩ => ⟨v, he, hc, hv⟩)), np_to ow (np_cat (s1 := x55) (s2 := x56) hG hF rfl rfl rfl (fun hg => hx57) rfl), trivial⟩) (by kernel_rfl) fun ow fr w15 hF hE hc => ?_)
   have tb := tb.ext hc
   have hs := hs.ext hc
   have hM0 := hM0.ext hc
   have hs : Sep [] w15 S1 := Sep.pick [] hs (by decide) rfl
   refine from_end rfl (then_normal ?_)
   obtain rfl := Option.some.inj h
   exact wp_ret (blk_ret (then_ret (ret1 rfl hF rfl ⟨_, rfl, rfl, hM0.chg⟩)))
 replace h := iteF hb h
 refine wp_seq ?_
 refine wp_seq (wp_pure [(3, B b1 0), (19, I p0.Op), (52, .bool (p0.Op == 1))] hF (by kernel_rfl) fun fr hF => then_normal ?_)
 refine (wp_merge [(3, B b1 0), (19, I p0.Op), (52, .bool ((p0.Op == 1) || (p0.Op == 10)))] hF (b := (p0.Op == 1)) rfl (fun hb => ?_) (fun hb => ?_) fun fr hF => then_normal ?_)
 · exact wp_skip ⟨rfl, rfl, (hF.sub [(3, B b1 0), (19, I p0.Op), (52, .bool (p0.Op == 1))] (by kernel_rfl)).eqs (by first | (simp only [hb]; done) | (simp only [hb]; rfl))⟩
 · exact wp_pure [(3, B b1 0), (19, I p0.Op), (52, .bool (p0.Op == 10))] hF (by kernel_rfl) fun fr hF => ⟨rfl, rfl, hF.eqs (by first | (simp only [hb]; done) | (simp only [hb]; rfl))⟩
 refine (wp_if hF (b := ((p0.Op == 1) || (p0.Op == 10))) rfl (fun hb => ?_) (fun hb => ?_))
 · replace h := iteT hb h
   obtain ⟨x58, hx58, h⟩ := bindE h
   obtain ⟨x59, hx59, h⟩ := bindE h
   obtain ⟨x60, hx60, h⟩ := bindE h
   obtain ⟨x61, hx61, h⟩ := bindE h
   obtain ⟨x62, hx62, h⟩ := bindE h
   obtain ⟨x63, hx63, h⟩ := bindE h
   obtain ⟨x64, hx64, h⟩ := bindE h
   refine wp_seq (region_bm 14 [0, 1, 3, 7, 0, 16, 55, 127, 255, 0, 512, 1655, 4095, 8191] [true, false, false, false, true, false, false, false, false, true, false, false, false, true]
       [.eq (B b1 0), .eq (I p0.Op), .eq (Str.val x58), .eq (Str.val x59), .eq (B b1 1), .eq (I p0.A), .eq (Str.val x60), .eq (Str.val x61), .eq (Str.val x62), .eq (B b1 2), .eq (I p0.B), .eq (Str.val x63), .eq (Str.val x64), .eq (Str.val x64)]
       [(6, Str.val x64)] mix hF (by kernel_rfl) (by kernel_rfl) (by kernel_rfl) (by kernel_rfl) ⟨Pd.monoO_eq, Pd.monoO_eq, Pd.monoO_eq, Pd.monoO_eq, Pd.monoO_eq, Pd.monoO_eq, Pd.monoO_eq, Pd.monoO_eq, Pd.monoO_eq, Pd.monoO_eq, trivial⟩ (fun ow hG => ⟨np_to ow (np_loadBox hG hF ty3 rfl rfl (hs.bx 0 rfl) rfl rfl rfl), np_to ow (np_call [I p0.Op] hG hF Tryd.call33 rfl rfl (fun w hC hg => (impl_insWord_ok p0.Op hx58).mono fun e w' ⟨v, he, hv, hc⟩ => ⟨v, he, hc, hv⟩)), np_to ow (np_cat (s1 := x58) (s2 := (⟨[32]⟩)) hG hF rfl rfl rfl (fun hg => hx59) rfl), np_to ow (np_loadBox hG hF ty3 rfl rfl (hs.bx 0 rfl) rfl rfl rfl), np_to ow (np_call [I p0.A] hG hF Tryd.call32 rfl rfl (fun w hC hg => (impl_regName_ok p0.A hx60 (tb.ext hC)).mono fun e w' ⟨v, he, hv, hc⟩ => ⟨v, he, hc, hv⟩)), np_to ow (np_cat (s1 := x59) (s2 := x60) hG hF rfl rfl rfl (fun hg => hx61) rfl), np_to ow (np_cat (s1 := x61) (s2 := (⟨[32]⟩)) hG hF rfl rfl rfl (fun hg => hx62) rfl), np_to ow (np_loadBox hG hF ty3 rfl rfl (hs.bx 0 rfl) rfl rfl rfl), np_to ow (np_call [I p0.B] hG hF Tryd.call34 rfl rfl (fun w hC hg => (impl_FormatInt_ok p0.B hx63 (tb.ext hC)).mono fun e w' ⟨v, he, hv, hc⟩ => ⟨v, he, hc, hv⟩)), np_to ow (np_cat (s1 := x62) (s2 := x63) hG hF rfl rfl rfl (fun hg => hx64) rfl), trivial⟩) (by kernel_rfl) fun ow fr w16 hF hE hc => ?_)
   have tb := tb.ext hc
   have hs := hs.ext hc
   have hM0 := hM0.ext hc
   have hs : Sep [] w16 S1 := Sep.pick [] hs (by decide) rfl
   refine from_end rfl (then_normal ?_)
   obtain rfl := Option.some.inj h
   exact wp_ret (blk_ret (then_ret (ret1 rfl hF rfl ⟨_, rfl, rfl, hM0.chg⟩)))
 replace h := iteF hb h
 refine wp_seq ?_
 refine wp_seq (wp_pure [(3, B b1 0), (19, I p0.Op), (68, .bool (p0.Op == 4))] hF (by kernel_rfl) fun fr hF => then_normal ?_)
 refine (wp_if hF (b := (p0.Op == 4)) rfl (fun hb => ?_) (fun hb => ?_))
 · replace h := iteT hb h
   refine (wp_skip (then_normal ?_))
   refine (wp_if hF (b := (p0.Op == 4)) rfl (fun hb => ?_) (fun hb => ?_))
   · replace h := iteT hb h
     obtain ⟨x65, hx65, h⟩ := bindE h
     obtain ⟨x66, hx66, h⟩ := bindE h
     obtain ⟨x67, hx67, h⟩ := bindE h
     obtain ⟨x68, hx68, h⟩ := bindE h
     refine wp_seq (region_bm 9 [0, 1, 3, 7, 0, 16, 55, 127, 255] [true, false, false, false, true, false, false, false, true]
         [.eq (B b1 0), .eq (I p0.Op), .eq (Str.val x65), .eq (Str.val x66), .eq (B b1 1), .eq (I p0.A), .eq (Str.val x67), .eq (Str.val x68), .eq (Str.val x68)]
         [(6, Str.val x68)] mix hF (by kernel_rfl) (by kernel_rfl) (by kernel_rfl) (by kernel_rfl) ⟨Pd.monoO_eq, Pd.monoO_eq, Pd.monoO_eq, Pd.monoO_eq, Pd.monoO_eq, Pd.monoO_eq, trivial⟩ (fun ow hG => ⟨np_to ow (np_loadBox hG hF ty3 rfl rfl (hs.bx 0 rfl) rfl rfl rfl), np_to ow (np_call [I p0.Op] hG hF Tryd.call33 rfl rfl (fun w hC hg => (impl_insWord_ok p0.Op hx65).mono fun e w' ⟨v, he, hv, hc⟩ => ⟨v, he, hc, hv⟩)), np_to ow (np_cat (s1 := x65) (s2 := (⟨[32]⟩)) hG hF rfl rfl rfl (fun hg => hx66) rfl), np_to ow (np_loadBox hG hF ty3 rfl rfl (hs.bx 0 rfl) rfl rfl rfl), np_to ow (np_call [I p0.A] hG hF Tryd.call32 rfl rfl (fun w hC hg => (impl_regName_ok p0.A hx67 (tb.ext hC)).mono fun e w' ⟨v, he, hv, hc⟩ => ⟨v, he, hc, hv⟩)), np_to ow (np_cat (s1 := x66) (s2 := x67) hG hF rfl rfl rfl (fun hg => hx68) rfl), trivial⟩) (by kernel_rfl) fun ow fr w17 hF hE hc => ?_)
     have tb := tb.ext hc
     have hs := hs.ext hc
     have hM0 := hM0.ext hc
     have hs : Sep [] w17 S1 := Sep.pick [] hs (by decide) rfl
     refine from_end rfl (then_normal ?_)
     obtain rfl := Option.some.inj h
     exact wp_ret (blk_ret (then_ret (ret1 rfl hF rfl ⟨_, rfl, rfl, hM0.chg⟩)))
   replace h := iteF hb h
   refine wp_seq ?_
   refine wp_seq (wp_pure [(3, B b1 0), (19, I p0.Op), (81, .bool (p0.Op == 9))] hF (by kernel_rfl) fun fr hF => then_normal ?_)
   refine (wp_merge [(3, B b1 0), (81, .bool ((p0.Op == 9) || (p0.Op == 11)))] hF (b := (p0.Op == 9)) rfl (fun hb => ?_) (fun hb => ?_) fun fr hF => then_normal ?_)
   · exact wp_skip ⟨rfl, rfl, (hF.sub [(3, B b1 0), (81, .bool (p0.Op == 9))] (by kernel_rfl)).eqs (by first | (simp only [hb]; done) | (simp only [hb]; rfl))⟩
   · exact wp_pure [(3, B b1 0), (81, .bool (p0.Op == 11))] hF (by kernel_rfl) fun fr hF => ⟨rfl, rfl, hF.eqs (by first | (simp only [hb]; done) | (simp only [hb]; rfl))⟩
   refine (wp_if hF (b := ((p0.Op == 9) || (p0.Op == 11))) rfl (fun hb => ?_) (fun hb => ?_))
   · replace h := iteT hb h
     obtain ⟨x69, hx69, h⟩ := bindE h
     obtain ⟨x70, hx70, h⟩ := bindE h
     obtain ⟨x71, hx71, h⟩ := bindE h
     obtain ⟨x72, hx72, h⟩ := bindE h
     refine wp_seq (region_bm 9 [0, 1, 3, 7, 0, 16, 55, 127, 255] [true, false, false, false, true, false, false, false, true]
         [.eq (B b1 0), .eq (I p0.Op), .eq (Str.val x69), .eq (Str.val x70), .eq (B b1 2), .eq (I p0.B), .eq (Str.val x71), .eq (Str.val x72), .eq (Str.val x72)]
         [(6, Str.val x72)] mix hF (by kernel_rfl) (by kernel_rfl) (by kernel_rfl) (by kernel_rfl) ⟨Pd.monoO_eq, Pd.monoO_eq, Pd.monoO_eq, Pd.monoO_eq, Pd.monoO_eq, Pd.monoO_eq, trivial⟩ (fun ow hG => ⟨np_to ow (np_loadBox hG hF ty3 rfl rfl (hs.bx 0 rfl) rfl rfl rfl), np_to ow (np_call [I p0.Op] hG hF Tryd.call33 rfl rfl (fun w hC hg => (impl_insWord_ok p0.Op hx69).mono fun e w' ⟨v, he, hv, hc⟩ => ⟨v, he, hc, hv⟩)), np_to ow (np_cat (s1 := x69) (s2 := (⟨[32]⟩)) hG hF rfl rfl rfl (fun hg => hx70) rfl), np_to ow (np_loadBox hG hF ty3 rfl rfl (hs.bx 0 rfl) rfl rfl rfl), np_to ow (np_call [I p0.B] hG hF Tryd.call34 rfl rfl (fun w hC hg => (impl_FormatInt_ok p0.B hx71 (tb.ext hC)).mono fun e w' ⟨v, he, hv, hc⟩ => ⟨v, he, hc, hv⟩)), np_to ow (np_cat (s1 := x70) (s2 := x71) hG hF rfl rfl rfl (fun hg => hx72) rfl), trivial⟩) (by kernel_rfl) fun ow fr w18 hF hE hc => ?_)
     have tb := tb.ext hc
     have hs := hs.ext hc
     have hM0 := hM0.ext hc
     have hs : Sep [] w18 S1 := Sep.pick [] hs (by decide) rfl
     refine from_end rfl (then_normal ?_)
     obtain rfl := Option.some.inj h
     exact wp_ret (blk_ret (then_ret (ret1 rfl hF rfl ⟨_, rfl, rfl, hM0.chg⟩)))
   replace h := iteF hb h
   refine (wp_skip ?_)
   refine blk_normal (then_normal ?_)
   refine wp_seq (wp_text' ?_)
   refine from_pure 1 [(92, B b1 0)] hF (by kernel_rfl) fun fr hF => ?_
   refine s_loadBox (I p0.Op) ty3 rfl rfl hF rfl (hs.bx 0 rfl) rfl rfl fun fr hF => ?_
   have hs : Sep [] w2 S1 := Sep.pick [] hs (by decide) rfl
   obtain ⟨x73, hx73, h⟩ := bindE h
   refine s_call [I p0.Op] Tryd.call33 rfl rfl hF rfl (impl_insWord_ok p0.Op hx73) fun v w19 fr hRes hF => ?_
   obtain ⟨rfl, hc⟩ := hRes
   have tb := tb.ext hc
   have hs := hs.ext hc
   have hM0 := hM0.ext hc
   refine from_pure 1 [(6, Str.val x73)] hF (by kernel_rfl) fun fr hF => ?_
   refine from_end rfl (then_normal ?_)
   obtain rfl := Option.some.inj h
   exact wp_ret (ret1 rfl hF rfl ⟨_, rfl, rfl, hM0.chg⟩)
 replace h := iteF hb h
 refine wp_seq (wp_pure [(3, B b1 0), (19, I p0.Op), (68, .bool (p0.Op == 5))] hF (by kernel_rfl) fun fr hF => then_normal ?_)
 refine (wp_if hF (b := (p0.Op == 5)) rfl (fun hb => ?_) (fun hb => ?_))
 · replace h := iteT hb h
   refine (wp_skip (then_normal ?_))
   refine (wp_if hF (b := (p0.Op == 5)) rfl (fun hb => ?_) (fun hb => ?_))
   · replace h := iteT hb h
     obtain ⟨x74, hx74, h⟩ := bindE h
     obtain ⟨x75, hx75, h⟩ := bindE h
     obtain ⟨x76, hx76, h⟩ := bindE h
     obtain ⟨x77, hx77, h⟩ := bindE h
     refine wp_seq (region_bm 9 [0, 1, 3, 7, 0, 16, 55, 127, 255] [true, false, false, false, true, false, false, false, true]
         [.eq (B b1 0), .eq (I p0.Op), .eq (Str.val x74), .eq (Str.val x75), .eq (B b1 1), .eq (I p0.A), .eq (Str.val x76), .eq (Str.val x77), .eq (Str.val x77)]
         [(6, Str.val x77)] mix hF (by kernel_rfl) (by kernel_rfl) (by kernel_rfl) (by kernel_rfl) ⟨Pd.monoO_eq, Pd.monoO_eq, Pd.monoO_eq, Pd.monoO_eq, Pd.monoO_eq, Pd.monoO_eq, trivial⟩ (fun ow hG => ⟨np_to ow (np_loadBox hG hF ty3 rfl rfl (hs.bx 0 rfl) rfl rfl rfl), np_to ow (np_call [I p0.Op] hG hF Tryd.call33 rfl rfl (fun w hC hg => (impl_insWord_ok p0.Op hx74).mono fun e w' ⟨v, he, hv, hc⟩ => ⟨v, he, hc, hv⟩)), np_to ow (np_cat (s1 := x74) (s2 := (⟨[32]⟩)) hG hF rfl rfl rfl (fun hg => hx75) rfl), np_to ow (np_loadBox hG hF ty3 rfl rfl (hs.bx 0 rfl) rfl rfl rfl), np_to ow (np_call [I p0.A] hG hF Tryd.call32 rfl rfl (fun w hC hg => (impl_regName_ok p0.A hx76 (tb.ext hC)).mono fun e w' ⟨v, he, hv, hc⟩ => ⟨v, he, hc, hv⟩)), np_to ow (np_cat (s1 := x75) (s2 := x76) hG hF rfl rfl rfl (fun hg => hx77) rfl), trivial⟩) (by kernel_rfl) fun ow fr w20 hF hE hc => ?_)
     have tb := tb.ext hc
     have hs := hs.ext hc
     have hM0 := hM0.ext hc
     have hs : Sep [] w20 S1 := Sep.pick [] hs (by decide) rfl
     refine from_end rfl (then_normal ?_)
     obtain rfl := Option.some.inj h
     exact wp_ret (blk_ret (then_ret (ret1 rfl hF rfl ⟨_, rfl, rfl, hM0.chg⟩)))
   replace h := iteF hb h
   refine wp_seq ?_
   refine wp_seq (wp_pure [(3, B b1 0), (19, I p0.Op), (81, .bool (p0.Op == 9))] hF (by kernel_rfl) fun fr hF => then_normal ?_)
   refine (wp_merge [(3, B b1 0), (81, .bool ((p0.Op == 9) || (p0.Op == 11)))] hF (b := (p0.Op == 9)) rfl (fun hb => ?_) (fun hb => ?_) fun fr hF => then_normal ?_)
   · exact wp_skip ⟨rfl, rfl, (hF.sub [(3, B b1 0), (81, .bool (p0.Op == 9))] (by kernel_rfl)).eqs (by first | (simp only [hb]; done) | (simp only [hb]; rfl))⟩
   · exact wp_pure [(3, B b1 0), (81, .bool (p0.Op == 11))] hF (by kernel_rfl) fun fr hF => ⟨rfl, rfl, hF.eqs (by first | (simp only [hb]; done) | (simp only [hb]; rfl))⟩
   refine (wp_if hF (b := ((p0.Op == 9) || (p0.Op == 11))) rfl (fun hb => ?_) (fun hb => ?_))
   · replace h := iteT hb h
     obtain ⟨x78, hx78, h⟩ := bindE h
     obtain ⟨x79, hx79, h⟩ := bindE h
     obtain ⟨x80, hx80, h⟩ := bindE h
     obtain ⟨x81, hx81, h⟩ := bindE h
     refine wp_seq (region_bm 9 [0, 1, 3, 7, 0, 16, 55, 127, 255] [true, false, false, false, true, false, false, false, true]
         [.eq (B b1 0), .eq (I p0.Op), .eq (Str.val x78), .eq (Str.val x79), .eq (B b1 2), .eq (I p0.B), .eq (Str.val x80), .eq (Str.val x81), .eq (Str.val x81)]
         [(6, Str.val x81)] mix hF (by kernel_rfl) (by kernel_rfl) (by kernel_rfl) (by kernel_rfl) ⟨Pd.monoO_eq, Pd.monoO_eq, Pd.monoO_eq, Pd.monoO_eq, Pd.monoO_eq, Pd.monoO_eq, trivial⟩ (fun ow hG => ⟨np_to ow (np_loadBox hG hF ty3 rfl rfl (hs.bx 0 rfl) rfl rfl rfl), np_to ow (np_call [I p0.Op] hG hF Tryd.call33 rfl rfl (fun w hC hg => (impl_insWord_ok p0.Op hx78).mono fun e w' ⟨v, he, hv, hc⟩ => ⟨v, he, hc, hv⟩)), np_to ow (np_cat (s1 := x78) (s2 := (⟨[32]⟩)) hG hF rfl rfl rfl (fun hg => hx79) rfl), np_to ow (np_loadBox hG hF ty3 rfl rfl (hs.bx 0 rfl) rfl rfl rfl), np_to ow (np_call [I p0.B] hG hF Tryd.call34 rfl rfl (fun w hC hg => (impl_FormatInt_ok p0.B hx80 (tb.ext hC)).mono fun e w' ⟨v, he, hv, hc⟩ => ⟨v, he, hc, hv⟩)), np_to ow (np_cat (s1 := x79) (s2 := x80) hG hF rfl rfl rfl (fun hg => hx81) rfl), trivial⟩) (by kernel_rfl) fun ow fr w21 hF hE hc => ?_)
     have tb := tb.ext hc
     have hs := hs.ext hc
     have hM0 := hM0.ext hc
     have hs : Sep [] w21 S1 := Sep.pick [] hs (by decide) rfl
     refine from_end rfl (then_normal ?_)
     obtain rfl := Option.some.inj h
     exact wp_ret (blk_ret (then_ret (ret1 rfl hF rfl ⟨_, rfl, rfl, hM0.chg⟩)))
   replace h := iteF hb h
   refine (wp_skip ?_)
   refine blk_normal (then_normal ?_)
   refine wp_seq (wp_text' ?_)
   refine from_pure 1 [(92, B b1 0)] hF (by kernel_rfl) fun fr hF => ?_
   refine s_loadBox (I p0.Op) ty3 rfl rfl hF rfl (hs.bx 0 rfl) rfl rfl fun fr hF => ?_
   have hs : Sep [] w2 S1 := Sep.pick [] hs (by decide) rfl
   obtain ⟨x82, hx82, h⟩ := bindE h
   refine s_call [I p0.Op] Tryd.call33 rfl rfl hF rfl (impl_insWord_ok p0.Op hx82) fun v w22 fr hRes hF => ?_
   obtain ⟨rfl, hc⟩ := hRes
   have tb := tb.ext hc
   have hs := hs.ext hc
   have hM0 := hM0.ext hc
   refine from_pure 1 [(6, Str.val x82)] hF (by kernel_rfl) fun fr hF => ?_
   refine from_end rfl (then_normal ?_)
   obtain rfl := Option.some.inj h
   exact wp_ret (ret1 rfl hF rfl ⟨_, rfl, rfl, hM0.chg⟩)
 replace h := iteF hb h
 refine wp_seq (wp_pure [(3, B b1 0), (19, I p0.Op), (68, .bool (p0.Op == 6))] hF (by kernel_rfl) fun fr hF => then_normal ?_)
 refine (wp_merge [(3, B b1 0), (19, I p0.Op), (68, .bool ((p0.Op == 6) || (p0.Op == 13)))] hF (b := (p0.Op == 6)) rfl (fun hb => ?_) (fun hb => ?_) fun fr hF => then_normal ?_)
 · exact wp_skip ⟨rfl, rfl, (hF.sub [(3, B b1 0), (19, I p0.Op), (68, .bool (p0.Op == 6))] (by kernel_rfl)).eqs (by first | (simp only [hb]; done) | (simp only [hb]; rfl))⟩
 · exact wp_pure [(3, B b1 0), (19, I p0.Op), (68, .bool (p0.Op == 13))] hF (by kernel_rfl) fun fr hF => ⟨rfl, rfl, hF.eqs (by first | (simp only [hb]; done) | (simp only [hb]; rfl))⟩
 refine (wp_if hF (b := ((p0.Op == 6) || (p0.Op == 13))) rfl (fun hb => ?_) (fun hb => ?_))
 · replace h := iteT hb h
   obtain ⟨x83, hx83, h⟩ := bindE h
   obtain ⟨x84, hx84, h⟩ := bindE h
   obtain ⟨x85, hx85, h⟩ := bindE h
   obtain ⟨x86, hx86, h⟩ := bindE h
   refine wp_seq (region_bm 9 [0, 1, 3, 7, 0, 16, 55, 127, 255] [true, false, false, false, true, false, false, false, true]
       [.eq (B b1 0), .eq (I p0.Op), .eq (Str.val x83), .eq (Str.val x84), .eq (B b1 1), .eq (I p0.A), .eq (Str.val x85), .eq (Str.val x86), .eq (Str.val x86)]
       [(6, Str.val x86)] mix hF (by kernel_rfl) (by kernel_rfl) (by kernel_rfl) (by kernel_rfl) ⟨Pd.monoO_eq, Pd.monoO_eq, Pd.monoO_eq, Pd.monoO_eq, Pd.monoO_eq, Pd.monoO_eq, trivial⟩ (fun ow hG => ⟨np_to ow (np_loadBox hG hF ty3 rfl rfl (hs.bx 0 rfl) rfl rfl rfl), np_to ow (np_call [I p0.Op] hG hF Tryd.call33 rfl rfl (fun w hC hg => (impl_insWord_ok p0.Op hx83).mono fun e w' ⟨v, he, hv, hc⟩ => ⟨v, he, hc, hv⟩)), np_to ow (np_cat (s1 := x83) (s2 := (⟨[32]⟩)) hG hF rfl rfl rfl (fun hg => hx84) rfl), np_to ow (np_loadBox hG hF ty3 rfl rfl (hs.bx 0 rfl) rfl rfl rfl), np_to ow (np_call [I p0.A] hG hF Tryd.call32 rfl rfl (fun w hC hg => (impl_regName_ok p0.A hx85 (tb.ext hC)).mono fun e w' ⟨v, he, hv, hc⟩ => ⟨v, he, hc, hv⟩)), np_to ow (np_cat (s1 := x84) (s2 := x85) hG hF rfl rfl rfl (fun hg => hx86) rfl), trivial⟩) (by kernel_rfl) fun ow fr w23 hF hE hc => ?_)
   have tb := tb.ext hc
   have hs := hs.ext hc
   have hM0 := hM0.ext hc
   have hs : Sep [] w23 S1 := Sep.pick [] hs (by decide) rfl
   refine from_end rfl (then_normal ?_)
   obtain rfl := Option.some.inj h
   exact wp_ret (blk_ret (then_ret (ret1 rfl hF rfl ⟨_, rfl, rfl, hM0.chg⟩)))
 replace h := iteF hb h
 refine wp_seq ?_
 refine wp_seq (wp_pure [(3, B b1 0), (19, I p0.Op), (81, .bool (p0.Op == 9))] hF (by kernel_rfl) fun fr hF => then_normal ?_)
 refine (wp_merge [(3, B b1 0), (81, .bool ((p0.Op == 9) || (p0.Op == 11)))] hF (b := (p0.Op == 9)) rfl (fun hb => ?_) (fun hb => ?_) fun fr hF => then_normal ?_)
 · exact wp_skip ⟨rfl, rfl, (hF.sub [(3, B b1 0), (81, .bool (p0.Op == 9))] (by kernel_rfl)).eqs (by first | (simp only [hb]; done) | (simp only [hb]; rfl))⟩
 · exact wp_pure [(3, B b1 0), (81, .bool (p0.Op == 11))] hF (by kernel_rfl) fun fr hF => ⟨rfl, rfl, hF.eqs (by first | (simp only [hb]; done) | (simp only [hb]; rfl))⟩
 refine (wp_if hF (b := ((p0.Op == 9) || (p0.Op == 11))) rfl (fun hb => ?_) (fun hb => ?_))
 · replace h := iteT hb h
   obtain ⟨x87, hx87, h⟩ := bindE h
   obtain ⟨x88, hx88, h⟩ := bindE h
   obtain ⟨x89, hx89, h⟩ := bindE h
   obtain ⟨x90, hx90, h⟩ := bindE h
   refine wp_seq (region_bm 9 [0, 1, 3, 7, 0, 16, 55, 127, 255] [true, false, false, false, true, false, false, false, true]
       [.eq (B b1 0), .eq (I p0.Op), .eq (Str.val x87), .eq (Str.val x88), .eq (B b1 2), .eq (I p0.B), .eq (Str.val x89), .eq (Str.val x90), .eq (Str.val x90)]
       [(6, Str.val x90)] mix hF (by kernel_rfl) (by kernel_rfl) (by kernel_rfl) (by kernel_rfl) ⟨Pd.monoO_eq, Pd.monoO_eq, Pd.monoO_eq, Pd.monoO_eq, Pd.monoO_eq, Pd.monoO_eq, trivial⟩ (fun ow hG => ⟨np_to ow (np_loadBox hG hF ty3 rfl rfl (hs.bx 0 rfl) rfl rfl rfl), np_to ow (np_call [I p0.Op] hG hF Tryd.call33 rfl rfl (fun w hC hg => (impl_insWord_ok p0.Op hx87).mono fun e w' ⟨v, he, hv, hc⟩ => ⟨v, he, hc, hv⟩)), np_to ow (np_cat (s1 := x87) (s2 := (⟨[32]⟩)) hG hF rfl rfl rfl (fun hg => hx88) rfl), np_to ow (np_loadBox hG hF ty3 rfl rfl (hs.bx 0 rfl) rfl rfl rfl), np_to ow (np_call [I p0.B] hG hF Tryd.call34 rfl rfl (fun w hC hg => (impl_FormatInt_ok p0.B hx89 (tb.ext hC)).mono fun e w' ⟨v, he, hv, hc⟩ => ⟨v, he, hc, hv⟩)), np_to ow (np_cat (s1 := x88) (s2 := x89) hG hF rfl rfl rfl (fun hg => hx90) rfl), trivial⟩) (by kernel_rfl) fun ow fr w24 hF hE hc => ?_)
   have tb := tb.ext hc
   have hs := hs.ext hc
   have hM0 := hM0.ext hc
   have hs : Sep [] w24 S1 := Sep.pick [] hs (by decide) rfl
   refine from_end rfl (then_normal ?_)
   obtain rfl := Option.some.inj h
   exact wp_ret (blk_ret (then_ret (ret1 rfl hF rfl ⟨_, rfl, rfl, hM0.chg⟩)))
 replace h := iteF hb h
 refine (wp_skip ?_)
 refine blk_normal (then_normal ?_)
 refine wp_seq (wp_text' ?_)
 refine from_pure 1 [(92, B b1 0)] hF (by kernel_rfl) fun fr hF => ?_
 refine s_loadBox (I p0.Op) ty3 rfl rfl hF rfl (hs.bx 0 rfl) rfl rfl fun fr hF => ?_
 have hs : Sep [] w2 S1 := Sep.pick [] hs (by decide) rfl
 obtain ⟨x91, hx91, h⟩ := bindE h
 refine s_call [I p0.Op] Tryd.call33 rfl rfl hF rfl (impl_insWord_ok p0.Op hx91) fun v w25 fr hRes hF => ?_
 obtain ⟨rfl, hc⟩ := hRes
 have tb := tb.ext hc
 have hs := hs.ext hc
 have hM0 := hM0.ext hc
 refine from_pure 1 [(6, Str.val x91)] hF (by kernel_rfl) fun fr hF => ?_
 refine from_end rfl (then_normal ?_)
 obtain rfl := Option.some.inj h
 exact wp_ret (ret1 rfl hF rfl ⟨_, rfl, rfl, hM0.chg⟩)
end Go.Proofs.YtmmhbhhcloobnaaDoor
