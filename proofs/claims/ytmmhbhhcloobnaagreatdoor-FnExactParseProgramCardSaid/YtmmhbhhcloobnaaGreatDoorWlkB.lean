/- Printed by gen2.py: the walks. -/
import Derived.Test.YtmmhbhhcloobnaaGreatDoorWlkA
set_option linter.unusedVariables false
set_option maxRecDepth 100000
namespace Go.Proofs.YtmmhbhhcloobnaaGreatDoor
open Go.GL Go.Maps Go.WideMaps
theorem spec_ParseIns_ok (n : Nat) (p0 : Str) (p1 : Int) (p2 : Int) {r : D.Ins × Bool} (h : spec_ParseIns n p0 p1 p2 = some r) {w : World} :
   Calls Tryz.prog 14 [Str.val p0, I p1, I p2].toArray w fun e w' => ∃ v, e = .returned v ∧ v = .tuple #[.agg #[I r.1.Op, I r.1.A, I r.1.B, I r.1.C], .bool r.2] ∧ Chg Non w w' := by
 unfold spec_ParseIns at h
 have hs := Sep.nil w Non
 have hM0 : Mem w Non (fun k => (False) ∧ k < w.heap.size) w Non (fun k => (False) ∧ k < w.heap.size) := Mem.start (fun _ h => h.elim) (fun _ h => h.2) (fun _ h => h.elim)
 refine enter (N := 109) Tryz.func14 rfl Tryz.ntmps14 rfl fun fr hF => ?_
 refine wp_seq (wp_text' ?_)
 refine q_alloc (z := .agg #[I 0, I 0, I 0, I 0]) hs hM0 [I 0, I 0, I 0, I 0] rfl rfl hF (by kernel_rfl) rfl fun b1 w1 S1 fr hs hp hF => ?_
 have hM0 := hM0.stp hp
 have hs : Sep [BX b1 38 [I 0, I 0, I 0, I 0]] w1 S1 := hs
 refine from_pure 1 [(0, Str.val p0), (1, I p1), (2, I p2), (6, B b1 0)] hF (by kernel_rfl) fun fr hF => ?_
 refine from_end rfl (then_normal ?_)
 refine wp_seq (wp_text' ?_)
 refine from_pure 1 [(0, Str.val p0), (1, I p1), (2, I p2), (6, B b1 0), (12, Str.val p0)] hF (by kernel_rfl) fun fr hF => ?_
 obtain ⟨x1, hx1, h⟩ := bindE h
 refine s_call [Str.val p0] Tryz.call11 rfl rfl hF rfl (spec_Words_ok n p0 hx1) fun v w2 fr hRes hF => ?_
 obtain ⟨a1, c1, rfl, _, hp, hs2⟩ := hRes
 obtain ⟨S2, hp, hs⟩ := hs.got hM0 hp hs2
 have hM0 := hM0.stp hp
 have hs : Sep [sl9 (L a1 x1 c1) x1, BX b1 38 [I 0, I 0, I 0, I 0]] w2 S2 := hs
 refine from_pure 1 [(0, Str.val p0), (1, I p1), (2, I p2), (6, B b1 0), (8, L a1 x1 c1)] hF (by kernel_rfl) fun fr hF => ?_
 refine from_end rfl (then_normal ?_)
 refine wp_seq ?_
 refine wp_seq (region_b [] [true, true, true, true, true, true, true, true]
     [.eq (L a1 x1 c1), .eq (I (len x1)), .eq (.bool ((len x1) == 0)), .eq (.bool ((len x1) == 0)), .eq (L a1 x1 c1), .eq (I (len x1)), .eq (.bool (decide ((len x1) > 3))), .eq (.bool (((len x1) == 0) || (decide ((len x1) > 3))))]
     [(0, Str.val p0), (1, I p1), (2, I p2), (6, B b1 0), (8, L a1 x1 c1), (21, .bool (((len x1) == 0) || (decide ((len x1) > 3))))] mix hF (by kernel_rfl) (by kernel_rfl) (by kernel_rfl) trivial (fun hG => trivial) (by kernel_rfl) fun fr w3 hF hE hc => then_normal ?_)
 have hs := hs.ext hc
 have hM0 := hM0.ext hc
 refine (wp_if hF (b := (((len x1) == 0) || (decide ((len x1) > 3)))) rfl (fun hb => ?_) (fun hb => ?_))
 · replace h := iteT hb h
   have hs : Sep [BX b1 38 [I 0, I 0, I 0, I 0]] w3 S2 := Sep.pick [1] hs (by decide) rfl
   refine wp_seq (wp_text' ?_)
   refine from_pure 1 [(6, B b1 0), (22, .agg #[I 0, I 0, I 0, I 0])] hF (by kernel_rfl) fun fr hF => ?_
   refine q_storeBoxS 0 hs hM0 rfl [I 0, I 0, I 0, I 0] rfl hF rfl rfl (by kernel_rfl) rfl rfl rfl fun w4 S3 hs hp hF => ?_
   have hM0 := hM0.stp hp
   have hs : Sep [BX b1 38 [I 0, I 0, I 0, I 0]] w4 S3 := hs
   refine from_pure 1 [(6, B b1 0), (7, .bool false)] hF (by kernel_rfl) fun fr hF => ?_
   refine from_end rfl (then_normal ?_)
   have hrets := fun {σ : List (Nat × Value)} (h : σ = [(6, B b1 0), (7, .bool false)]) => (by subst h; exact (Rets.cell rfl ty38 (hs.bx 0 rfl) rfl rfl (Rets.tmp rfl Rets.nil)) : Rets Tryz.prog σ w4 [.cell 6 38, .tmp 7] [.agg #[I 0, I 0, I 0, I 0], .bool false])
   obtain rfl := Option.some.inj h
   exact wp_ret (then_ret (retG (rs := [.cell 6 38, .tmp 7]) rfl (hF.sub [(6, B b1 0), (7, .bool false)] (by kernel_rfl)) (hrets rfl) rfl ⟨_, rfl, rfl, hM0.chg⟩))
 replace h := iteF hb h
 refine (wp_skip (then_normal ?_))
 refine wp_seq (wp_text' ?_)
 refine from_pure 1 [(0, Str.val p0), (1, I p1), (2, I p2), (6, B b1 0), (8, L a1 x1 c1), (23, .agg #[I 0, I 0, I 0, I 0])] hF (by kernel_rfl) fun fr hF => ?_
 refine q_alloc (z := .agg #[I 0, I 0, I 0, I 0]) hs hM0 [I 0, I 0, I 0, I 0] rfl rfl hF (by kernel_rfl) rfl fun b2 w5 S4 fr hs hp hF => ?_
 have hM0 := hM0.stp hp
 have hs : Sep [BX b2 38 [I 0, I 0, I 0, I 0], sl9 (L a1 x1 c1) x1, BX b1 38 [I 0, I 0, I 0, I 0]] w5 S4 := hs
 refine q_storeBoxS 0 hs hM0 rfl [I 0, I 0, I 0, I 0] rfl hF rfl rfl (by kernel_rfl) rfl rfl rfl fun w6 S5 hs hp hF => ?_
 have hM0 := hM0.stp hp
 have hs : Sep [BX b2 38 [I 0, I 0, I 0, I 0], sl9 (L a1 x1 c1) x1, BX b1 38 [I 0, I 0, I 0, I 0]] w6 S5 := hs
 refine from_end rfl (then_normal ?_)
 refine wp_seq ?_
 refine wp_seq (wp_pure [(0, Str.val p0), (1, I p1), (2, I p2), (6, B b1 0), (8, L a1 x1 c1), (9, B b2 0), (10, I 1)] hF (by kernel_rfl) fun fr hF => then_normal ?_)
 obtain ⟨rl1, hit1, h⟩ := bindE h
 have hk1 := h
 refine (GL.wp_cut (M := fun fr w' => ∃ S7 F2, FrS 109 [(0, Str.val p0), (1, I p1), (2, I p2), (6, B b1 0), (8, L a1 x1 c1), (9, B b2 0)] fr ∧ Mem w6 S5 (fun k => (False) ∧ k < w.heap.size) w' S7 F2 ∧ Sep [BX b2 38 [I rl1, I 0, I 0, I 0], sl9 (L a1 x1 c1) x1, BX b1 38 [I 0, I 0, I 0, I 0]] w' S7) (wp_block (wp_iter (Inv := fun s1 fr w' => ∃ S6 F1, FrS 109 [(0, Str.val p0), (1, I p1), (2, I p2), (6, B b1 0), (8, L a1 x1 c1), (9, B b2 0), (10, I s1.1)] fr ∧ Mem w6 S5 (fun k => (False) ∧ k < w.heap.size) w' S6 F1 ∧ Sep [BX b2 38 [I s1.2, I 0, I 0, I 0], sl9 (L a1 x1 c1) x1, BX b1 38 [I 0, I 0, I 0, I 0]] w' S6) hit1 ⟨S5, _, hF.sub _ (by kernel_rfl), (Mem.start hM0.bd hM0.bdF hM0.dj), hs⟩ fun s1 q1 fr w1i hI h hr1 => ?_)) fun fr w1o hM => ?_)
 · obtain ⟨S6, F1, hF, hM1, hs⟩ := hI
   refine wp_seq ?_
   refine wp_seq (wp_pure [(0, Str.val p0), (1, I p1), (2, I p2), (6, B b1 0), (8, L a1 x1 c1), (9, B b2 0), (10, I s1.1), (25, .bool (decide (s1.1 ≤ 14)))] hF (by kernel_rfl) fun fr hF => then_normal ?_)
   refine (wp_if hF (b := (decide (s1.1 ≤ 14))) rfl (fun hb => ?_) (fun hb => ?_))
   · replace h := iteT hb h
     refine (wp_skip (then_normal ?_))
     refine wp_seq (wp_block ?_)
     obtain ⟨x2, hx2, h⟩ := bindE h
     obtain ⟨x3, hx3, h⟩ := bindE h
     refine wp_seq (region_bm 11 [0, 1, 3, 7, 15, 31, 7, 71, 199, 511, 1023] [true, true, true, true, true, false, true, false, false, true, true]
         [.eq (I s1.1), .eq (.bool (s1.1 != 3)), .eq (.bool (s1.1 != 3)), .eq (I s1.1), .eq (.agg #[I s1.1, I 0, I 0, I 0]), .eq (Str.val x2), .eq (L a1 x1 c1), .is fun v w => ElemP w (fun k => k < w1i.heap.size) v (x3 : Str), .eq (Str.val x3), .eq (.bool (Str.eqb x2 x3)), .eq (.bool ((s1.1 != 3) && (Str.eqb x2 x3)))]
         [(0, Str.val p0), (1, I p1), (2, I p2), (6, B b1 0), (8, L a1 x1 c1), (9, B b2 0), (10, I s1.1), (38, .bool ((s1.1 != 3) && (Str.eqb x2 x3)))] mix hF (by kernel_rfl) (by kernel_rfl) (by kernel_rfl) (by kernel_rfl) ⟨Pd.monoO_eq, (Pd.monoO_is mono_elem), Pd.monoO_eq, trivial⟩ (fun ow hG => ⟨np_to ow (np_call [.agg #[I s1.1, I 0, I 0, I 0]] hG hF Tryz.call27 rfl rfl (fun w hC hg => (spec_l05Word_ok (D.Ins.mk s1.1 0 0 0) (iteT hg.2 hx2)).mono fun e w' ⟨v, he, hv, hc⟩ => ⟨v, he, hc, hv⟩)), np_to ow (np_index hG hF ty9 Tryz.underlying30 rfl rfl (RV.sub (hs.rv 1 rfl) fun k hk _ => hk) rfl rfl (fun hg => ⟨get?_nn (iteT hg.2 hx3), get?_at (iteT hg.2 hx3)⟩)), np_to ow (np_loadF (z := x3) (i := 7) hG hF ty9 rfl rfl rfl rfl rfl rfl rfl), trivial⟩) (by kernel_rfl) fun ow fr w7 hF hE hc => ?_)
     have hs := hs.ext hc
     have hM1 := hM1.ext hc
     refine from_end rfl (then_normal ?_)
     refine (wp_if hF (b := ((s1.1 != 3) && (Str.eqb x2 x3))) rfl (fun hb => ?_) (fun hb => ?_))
     · replace h := iteT hb h
       refine (wp_text' ?_)
       refine from_pure 2 [(0, Str.val p0), (1, I p1), (2, I p2), (6, B b1 0), (8, L a1 x1 c1), (9, B b2 0), (10, I s1.1), (39, I s1.1), (40, B b2 0)] hF (by kernel_rfl) fun fr hF => ?_
       refine q_storeBox 0 hs hM1 rfl [I s1.1, I 0, I 0, I 0] rfl hF rfl rfl (by kernel_rfl) rfl rfl rfl fun w8 S8 hs hp hF => ?_
       have hM1 := hM1.stp hp
       have hs : Sep [BX b2 38 [I s1.1, I 0, I 0, I 0], sl9 (L a1 x1 c1) x1, BX b1 38 [I 0, I 0, I 0, I 0]] w8 S8 := hs
       refine from_end rfl ?_
       refine blk_normal (then_normal ?_)
       refine (wp_pure [(0, Str.val p0), (1, I p1), (2, I p2), (6, B b1 0), (8, L a1 x1 c1), (9, B b2 0), (10, I (w64 (s1.1 + 1)))] hF (by kernel_rfl) fun fr hF => then_normal ?_)
       exact ⟨_, (Option.some.inj h).symm, S8, _, hF.sub _ (by kernel_rfl), hM1, hs⟩
     replace h := iteF hb h
     refine (wp_skip ?_)
     refine blk_normal (then_normal ?_)
     refine (wp_pure [(0, Str.val p0), (1, I p1), (2, I p2), (6, B b1 0), (8, L a1 x1 c1), (9, B b2 0), (10, I (w64 (s1.1 + 1)))] hF (by kernel_rfl) fun fr hF => then_normal ?_)
     exact ⟨_, (Option.some.inj h).symm, S6, _, hF.sub _ (by kernel_rfl), hM1, hs⟩
   replace h := iteF hb h
   refine (wp_exit (then_exit (then_exit (blk_exit_eq ?_))))
   obtain rfl := hr1 _ (Option.some.inj h).symm
   exact then_normal ⟨S6, _, hF.sub _ (by kernel_rfl), hM1, hs⟩
 · obtain ⟨S7, F2, hF, hMx, hs⟩ := hM
   have hM0 := hM0.trans hMx
   refine wp_seq ?_
   obtain ⟨x4, hx4, h⟩ := bindE h
   obtain ⟨x5, hx5, h⟩ := bindE h
   refine wp_seq (region_b [] [true, false, true, true, true, false, false, false, true, true]
       [.eq (B b2 0), .eq (I rl1), .eq (.bool (rl1 == 0)), .eq (.bool (rl1 == 0)), .eq (L a1 x1 c1), .is fun v w => ElemP w (fun k => k < w1o.heap.size) v (x4 : Str), .eq (Str.val x4), .eq (I x5), .eq (.bool (decide (x5 ≥ 3))), .eq (.bool ((rl1 == 0) && (decide (x5 ≥ 3))))]
       [(0, Str.val p0), (1, I p1), (2, I p2), (6, B b1 0), (8, L a1 x1 c1), (9, B b2 0), (50, .bool ((rl1 == 0) && (decide (x5 ≥ 3))))] mix hF (by kernel_rfl) (by kernel_rfl) (by kernel_rfl) ⟨Pd.mono_eq, mono_elem, Pd.mono_eq, Pd.mono_eq, trivial⟩ (fun hG => ⟨np_loadBox hG hF ty3 rfl rfl (hs.bx 0 rfl) rfl rfl rfl, np_index hG hF ty9 Tryz.underlying30 rfl rfl (RV.sub (hs.rv 1 rfl) fun k hk _ => hk) rfl rfl (fun hg => ⟨get?_nn (iteT hg.2 hx4), get?_at (iteT hg.2 hx4)⟩), np_loadF (z := x4) (i := 5) hG hF ty9 rfl rfl rfl rfl rfl rfl rfl, np_call [Str.val x4] hG hF Tryz.call28 rfl rfl (fun w hC hg => (spec_OpOf_ok n x4 (iteT hg.2 hx5)).mono fun e w' ⟨v, he, hv, hc⟩ => ⟨v, he, hc, hv⟩), trivial⟩) (by kernel_rfl) fun fr w9 hF hE hc => then_normal ?_)
   have hs := hs.ext hc
   have hM0 := hM0.ext hc
   refine (wp_if hF (b := ((rl1 == 0) && (decide (x5 ≥ 3)))) rfl (fun hb => ?_) (fun hb => ?_))
   · replace h := iteT hb h
     refine wp_seq (wp_text' ?_)
     refine from_pure 1 [(0, Str.val p0), (1, I p1), (2, I p2), (6, B b1 0), (8, L a1 x1 c1), (9, B b2 0), (51, B b2 0)] hF (by kernel_rfl) fun fr hF => ?_
     refine q_storeBox 0 hs hM0 rfl [I 3, I 0, I 0, I 0] rfl hF rfl rfl (by kernel_rfl) rfl rfl rfl fun w10 S9 hs hp hF => ?_
     have hM0 := hM0.stp hp
     have hs : Sep [BX b2 38 [I 3, I 0, I 0, I 0], sl9 (L a1 x1 c1) x1, BX b1 38 [I 0, I 0, I 0, I 0]] w10 S9 := hs
     refine from_end rfl (then_normal ?_)
     refine (wp_text' ?_)
     refine from_pure 1 [(0, Str.val p0), (1, I p1), (2, I p2), (6, B b1 0), (8, L a1 x1 c1), (9, B b2 0), (52, L a1 x1 c1)] hF (by kernel_rfl) fun fr hF => ?_
     obtain ⟨x6, hx6, h⟩ := bindE h
     refine s_elemF (z := x6) (Str.val x6) ty9 Tryz.underlying30 rfl rfl rfl rfl rfl hF rfl (hs.rv 1 rfl) rfl (get?_nn hx6) (get?_at hx6) rfl fun p fr hF => ?_
     obtain ⟨x7, hx7, h⟩ := bindE h
     refine s_call [Str.val x6] Tryz.call28 rfl rfl hF rfl (spec_OpOf_ok n x6 hx7) fun v w11 fr hRes hF => ?_
     obtain ⟨rfl, hc⟩ := hRes
     have hs := hs.ext hc
     have hM0 := hM0.ext hc
     refine from_pure 1 [(0, Str.val p0), (1, I p1), (2, I p2), (6, B b1 0), (8, L a1 x1 c1), (9, B b2 0), (55, I x7), (56, B b2 3)] hF (by kernel_rfl) fun fr hF => ?_
     refine q_storeBox 0 hs hM0 rfl [I 3, I 0, I 0, I x7] rfl hF rfl rfl (by kernel_rfl) rfl rfl rfl fun w12 S10 hs hp hF => ?_
     have hM0 := hM0.stp hp
     have hs : Sep [BX b2 38 [I 3, I 0, I 0, I x7], sl9 (L a1 x1 c1) x1, BX b1 38 [I 0, I 0, I 0, I 0]] w12 S10 := hs
     refine from_end rfl (then_normal ?_)
     refine wp_seq (wp_pure [(0, Str.val p0), (1, I p1), (2, I p2), (6, B b1 0), (8, L a1 x1 c1), (9, B b2 0), (11, I 0)] hF (by kernel_rfl) fun fr hF => then_normal ?_)
     refine wp_seq ?_
     refine wp_seq (wp_pure [(0, Str.val p0), (1, I p1), (2, I p2), (6, B b1 0), (8, L a1 x1 c1), (9, B b2 0), (11, I 0), (59, .bool (decide ((len x1) > 1)))] hF (by kernel_rfl) fun fr hF => then_normal ?_)
     refine (wp_if hF (b := (decide ((len x1) > 1))) rfl (fun hb => ?_) (fun hb => ?_))
     · replace h := iteT hb h
       refine wp_seq (wp_text' ?_)
       refine from_pure 4 [(0, Str.val p0), (1, I p1), (2, I p2), (6, B b1 0), (8, L a1 x1 c1), (9, B b2 0), (60, L a1 x1 c1), (63, I (w64 ((len x1) - 1)))] hF (by kernel_rfl) fun fr hF => ?_
       obtain ⟨x8, hx8, h⟩ := bindE h
       refine s_elemF (z := x8) (Str.val x8) ty9 Tryz.underlying30 rfl rfl rfl rfl rfl hF rfl (hs.rv 1 rfl) rfl (get?_nn hx8) (get?_at hx8) rfl fun p fr hF => ?_
       obtain ⟨x9, hx9, h⟩ := bindE h
       refine s_call [Str.val x8] Tryz.call29 rfl rfl hF rfl (spec_l05Number_ok n x8 hx9) fun v w13 fr hRes hF => ?_
       obtain ⟨rfl, hc⟩ := hRes
       have hs := hs.ext hc
       have hM0 := hM0.ext hc
       refine from_pure 1 [(0, Str.val p0), (1, I p1), (2, I p2), (6, B b1 0), (8, L a1 x1 c1), (9, B b2 0), (11, I x9)] hF (by kernel_rfl) fun fr hF => ?_
       refine from_end rfl (then_normal ?_)
       refine (wp_text' ?_)
       refine from_pure 1 [(0, Str.val p0), (1, I p1), (2, I p2), (6, B b1 0), (8, L a1 x1 c1), (9, B b2 0), (11, I x9), (67, L a1 x1 c1)] hF (by kernel_rfl) fun fr hF => ?_
       obtain ⟨x10, hx10, h⟩ := bindE h
       refine s_elemF (z := x10) (Str.val x10) ty9 Tryz.underlying30 rfl rfl rfl rfl rfl hF rfl (hs.rv 1 rfl) rfl (get?_nn hx10) (get?_at hx10) rfl fun p fr hF => ?_
       obtain ⟨x11, hx11, h⟩ := bindE h
       refine s_call [Str.val x10] Tryz.call29 rfl rfl hF rfl (spec_l05Number_ok n x10 hx11) fun v w14 fr hRes hF => ?_
       obtain ⟨rfl, hc⟩ := hRes
       have hs := hs.ext hc
       have hM0 := hM0.ext hc
       refine from_pure 1 [(0, Str.val p0), (1, I p1), (2, I p2), (6, B b1 0), (8, L a1 x1 c1), (9, B b2 0), (11, I x9), (70, I x11), (71, B b2 1)] hF (by kernel_rfl) fun fr hF => ?_
       refine q_storeBox 0 hs hM0 rfl [I 3, I x11, I 0, I x7] rfl hF rfl rfl (by kernel_rfl) rfl rfl rfl fun w15 S11 hs hp hF => ?_
       have hM0 := hM0.stp hp
       have hs : Sep [BX b2 38 [I 3, I x11, I 0, I x7], sl9 (L a1 x1 c1) x1, BX b1 38 [I 0, I 0, I 0, I 0]] w15 S11 := hs
       refine from_end rfl (then_normal ?_)
       refine wp_seq ?_
       refine wp_seq (region_b [] [true, true, true, true, true, false, true, true, true, true, false, true, true]
           [.eq (L a1 x1 c1), .eq (I (len x1)), .eq (.bool (decide ((len x1) > 2))), .eq (.bool (decide ((len x1) > 2))), .eq (B b2 0), .eq (I 3), .eq (.bool (3 == 9)), .eq (.bool ((decide ((len x1) > 2)) || (3 == 9))), .eq (.bool ((decide ((len x1) > 2)) || (3 == 9))), .eq (B b2 0), .eq (I 3), .eq (.bool (3 == 11)), .eq (.bool (((decide ((len x1) > 2)) || (3 == 9)) || (3 == 11)))]
           [(0, Str.val p0), (1, I p1), (2, I p2), (6, B b1 0), (9, B b2 0), (11, I x9), (84, .bool (((decide ((len x1) > 2)) || (3 == 9)) || (3 == 11)))] mix hF (by kernel_rfl) (by kernel_rfl) (by kernel_rfl) ⟨Pd.mono_eq, Pd.mono_eq, trivial⟩ (fun hG => ⟨np_loadBox hG hF ty3 rfl rfl (hs.bx 0 rfl) rfl rfl rfl, np_loadBox hG hF ty3 rfl rfl (hs.bx 0 rfl) rfl rfl rfl, trivial⟩) (by kernel_rfl) fun fr w16 hF hE hc => then_normal ?_)
       have hs := hs.ext hc
       have hM0 := hM0.ext hc
       have hs : Sep [BX b2 38 [I 3, I x11, I 0, I x7], BX b1 38 [I 0, I 0, I 0, I 0]] w16 S11 := Sep.pick [0, 2] hs (by decide) rfl
       refine (wp_if hF (b := (((decide ((len x1) > 2)) || (3 == 9)) || (3 == 11))) rfl (fun hb => ?_) (fun hb => ?_))
       · replace h := iteT hb h
         refine (wp_text' ?_)
         refine from_pure 2 [(0, Str.val p0), (1, I p1), (2, I p2), (6, B b1 0), (9, B b2 0), (85, I x9), (86, B b2 2)] hF (by kernel_rfl) fun fr hF => ?_
         refine q_storeBox 0 hs hM0 rfl [I 3, I x11, I x9, I x7] rfl hF rfl rfl (by kernel_rfl) rfl rfl rfl fun w17 S12 hs hp hF => ?_
         have hM0 := hM0.stp hp
         have hs : Sep [BX b2 38 [I 3, I x11, I x9, I x7], BX b1 38 [I 0, I 0, I 0, I 0]] w17 S12 := hs
         refine from_end rfl (then_normal ?_)
         refine wp_seq ?_
         refine wp_seq (region_b [] [true, false, true, true, true, false, true, true]
             [.eq (B b2 0), .eq (I 3), .eq (.bool (3 == 9)), .eq (.bool (3 == 9)), .eq (B b2 0), .eq (I 3), .eq (.bool (3 == 11)), .eq (.bool ((3 == 9) || (3 == 11)))]
             [(0, Str.val p0), (1, I p1), (2, I p2), (6, B b1 0), (9, B b2 0), (94, .bool ((3 == 9) || (3 == 11)))] mix hF (by kernel_rfl) (by kernel_rfl) (by kernel_rfl) ⟨Pd.mono_eq, Pd.mono_eq, trivial⟩ (fun hG => ⟨np_loadBox hG hF ty3 rfl rfl (hs.bx 0 rfl) rfl rfl rfl, np_loadBox hG hF ty3 rfl rfl (hs.bx 0 rfl) rfl rfl rfl, trivial⟩) (by kernel_rfl) fun fr w18 hF hE hc => then_normal ?_)
         have hs := hs.ext hc
         have hM0 := hM0.ext hc
         refine (wp_if hF (b := ((3 == 9) || (3 == 11))) rfl (fun hb => ?_) (fun hb => ?_))
         · replace h := iteT hb h
           refine (wp_text' ?_)
           refine from_pure 1 [(0, Str.val p0), (1, I p1), (2, I p2), (6, B b1 0), (9, B b2 0), (95, B b2 1)] hF (by kernel_rfl) fun fr hF => ?_
           refine q_storeBox 0 hs hM0 rfl [I 3, I 0, I x9, I x7] rfl hF rfl rfl (by kernel_rfl) rfl rfl rfl fun w19 S13 hs hp hF => ?_
           have hM0 := hM0.stp hp
           have hs : Sep [BX b2 38 [I 3, I 0, I x9, I x7], BX b1 38 [I 0, I 0, I 0, I 0]] w19 S13 := hs
           refine from_end rfl (then_normal ?_)
           refine wp_seq ?_
           obtain ⟨x12, hx12, h⟩ := bindE h
           refine wp_seq (region_b [] [true, false, true, true, false, true, true, false, true, true, true]
               [.eq (B b2 0), .eq (I 3), .eq (.bool (3 == 0)), .eq (.bool (3 == 0)), .eq (.agg #[I 3, I 0, I x9, I x7]), .eq (I p1), .eq (I p2), .eq (Str.val x12), .eq (Str.val p0), .eq (.bool (!(Str.eqb x12 p0))), .eq (.bool ((3 == 0) || (!(Str.eqb x12 p0))))]
               [(6, B b1 0), (9, B b2 0), (106, .bool ((3 == 0) || (!(Str.eqb x12 p0))))] mix hF (by kernel_rfl) (by kernel_rfl) (by kernel_rfl) ⟨Pd.mono_eq, Pd.mono_eq, Pd.mono_eq, trivial⟩ (fun hG => ⟨np_loadBox hG hF ty3 rfl rfl (hs.bx 0 rfl) rfl rfl rfl, np_loadBoxS hG hF ty38 rfl rfl (hs.bx 0 rfl) rfl rfl rfl rfl, np_call [.agg #[I 3, I 0, I x9, I x7], I p1, I p2] hG hF Tryz.call30 rfl rfl (fun w hC hg => (spec_FormatIns_ok n (D.Ins.mk 3 0 x9 x7) p1 p2 (iteF hg.2 hx12)).mono fun e w' ⟨v, he, hv, hc⟩ => ⟨v, he, hc, hv⟩), trivial⟩) (by kernel_rfl) fun fr w20 hF hE hc => then_normal ?_)
           have hs := hs.ext hc
           have hM0 := hM0.ext hc
           refine (wp_if hF (b := ((3 == 0) || (!(Str.eqb x12 p0)))) rfl (fun hb => ?_) (fun hb => ?_))
           · replace h := iteT hb h
             have hs : Sep [BX b1 38 [I 0, I 0, I 0, I 0]] w20 S13 := Sep.pick [1] hs (by decide) rfl
             refine wp_seq (wp_text' ?_)
             refine from_pure 1 [(6, B b1 0), (107, .agg #[I 0, I 0, I 0, I 0])] hF (by kernel_rfl) fun fr hF => ?_
             refine q_storeBoxS 0 hs hM0 rfl [I 0, I 0, I 0, I 0] rfl hF rfl rfl (by kernel_rfl) rfl rfl rfl fun w21 S14 hs hp hF => ?_
             have hM0 := hM0.stp hp
             have hs : Sep [BX b1 38 [I 0, I 0, I 0, I 0]] w21 S14 := hs
             refine from_pure 1 [(6, B b1 0), (7, .bool false)] hF (by kernel_rfl) fun fr hF => ?_
             refine from_end rfl (then_normal ?_)
             have hrets := fun {σ : List (Nat × Value)} (h : σ = [(6, B b1 0), (7, .bool false)]) => (by subst h; exact (Rets.cell rfl ty38 (hs.bx 0 rfl) rfl rfl (Rets.tmp rfl Rets.nil)) : Rets Tryz.prog σ w21 [.cell 6 38, .tmp 7] [.agg #[I 0, I 0, I 0, I 0], .bool false])
             obtain rfl := Option.some.inj h
             exact wp_ret (then_ret (retG (rs := [.cell 6 38, .tmp 7]) rfl (hF.sub [(6, B b1 0), (7, .bool false)] (by kernel_rfl)) (hrets rfl) rfl ⟨_, rfl, rfl, hM0.chg⟩))
           replace h := iteF hb h
           refine (wp_skip (then_normal ?_))
           refine wp_seq (wp_text' ?_)
           refine s_loadBoxS ty38 rfl rfl hF rfl (hs.bx 0 rfl) rfl rfl fun fr hF => ?_
           have hs : Sep [BX b1 38 [I 0, I 0, I 0, I 0]] w20 S13 := Sep.pick [1] hs (by decide) rfl
           refine q_storeBoxS 0 hs hM0 rfl [I 3, I 0, I x9, I x7] rfl hF rfl rfl (by kernel_rfl) rfl rfl rfl fun w22 S15 hs hp hF => ?_
           have hM0 := hM0.stp hp
           have hs : Sep [BX b1 38 [I 3, I 0, I x9, I x7]] w22 S15 := hs
           refine from_pure 1 [(6, B b1 0), (7, .bool true)] hF (by kernel_rfl) fun fr hF => ?_
           refine from_end rfl (then_normal ?_)
           have hrets := fun {σ : List (Nat × Value)} (h : σ = [(6, B b1 0), (7, .bool true)]) => (by subst h; exact (Rets.cell rfl ty38 (hs.bx 0 rfl) rfl rfl (Rets.tmp rfl Rets.nil)) : Rets Tryz.prog σ w22 [.cell 6 38, .tmp 7] [.agg #[I 3, I 0, I x9, I x7], .bool true])
           obtain rfl := Option.some.inj h
           exact wp_ret (retG (rs := [.cell 6 38, .tmp 7]) rfl (hF.sub [(6, B b1 0), (7, .bool true)] (by kernel_rfl)) (hrets rfl) rfl ⟨_, rfl, rfl, hM0.chg⟩)
         replace h := iteF hb h
         refine (wp_skip (then_normal ?_))
         refine wp_seq ?_
         obtain ⟨x13, hx13, h⟩ := bindE h
         refine wp_seq (region_b [] [true, false, true, true, false, true, true, false, true, true, true]
             [.eq (B b2 0), .eq (I 3), .eq (.bool (3 == 0)), .eq (.bool (3 == 0)), .eq (.agg #[I 3, I x11, I x9, I x7]), .eq (I p1), .eq (I p2), .eq (Str.val x13), .eq (Str.val p0), .eq (.bool (!(Str.eqb x13 p0))), .eq (.bool ((3 == 0) || (!(Str.eqb x13 p0))))]
             [(6, B b1 0), (9, B b2 0), (106, .bool ((3 == 0) || (!(Str.eqb x13 p0))))] mix hF (by kernel_rfl) (by kernel_rfl) (by kernel_rfl) ⟨Pd.mono_eq, Pd.mono_eq, Pd.mono_eq, trivial⟩ (fun hG => ⟨np_loadBox hG hF ty3 rfl rfl (hs.bx 0 rfl) rfl rfl rfl, np_loadBoxS hG hF ty38 rfl rfl (hs.bx 0 rfl) rfl rfl rfl rfl, np_call [.agg #[I 3, I x11, I x9, I x7], I p1, I p2] hG hF Tryz.call30 rfl rfl (fun w hC hg => (spec_FormatIns_ok n (D.Ins.mk 3 x11 x9 x7) p1 p2 (iteF hg.2 hx13)).mono fun e w' ⟨v, he, hv, hc⟩ => ⟨v, he, hc, hv⟩), trivial⟩) (by kernel_rfl) fun fr w23 hF hE hc => then_normal ?_)
         have hs := hs.ext hc
         have hM0 := hM0.ext hc
         refine (wp_if hF (b := ((3 == 0) || (!(Str.eqb x13 p0)))) rfl (fun hb => ?_) (fun hb => ?_))
         · replace h := iteT hb h
           have hs : Sep [BX b1 38 [I 0, I 0, I 0, I 0]] w23 S12 := Sep.pick [1] hs (by decide) rfl
           refine wp_seq (wp_text' ?_)
           refine from_pure 1 [(6, B b1 0), (107, .agg #[I 0, I 0, I 0, I 0])] hF (by kernel_rfl) fun fr hF => ?_
           refine q_storeBoxS 0 hs hM0 rfl [I 0, I 0, I 0, I 0] rfl hF rfl rfl (by kernel_rfl) rfl rfl rfl fun w24 S16 hs hp hF => ?_
           have hM0 := hM0.stp hp
           have hs : Sep [BX b1 38 [I 0, I 0, I 0, I 0]] w24 S16 := hs
           refine from_pure 1 [(6, B b1 0), (7, .bool false)] hF (by kernel_rfl) fun fr hF => ?_
           refine from_end rfl (then_normal ?_)
           have hrets := fun {σ : List (Nat × Value)} (h : σ = [(6, B b1 0), (7, .bool false)]) => (by subst h; exact (Rets.cell rfl ty38 (hs.bx 0 rfl) rfl rfl (Rets.tmp rfl Rets.nil)) : Rets Tryz.prog σ w24 [.cell 6 38, .tmp 7] [.agg #[I 0, I 0, I 0, I 0], .bool false])
           obtain rfl := Option.some.inj h
           exact wp_ret (then_ret (retG (rs := [.cell 6 38, .tmp 7]) rfl (hF.sub [(6, B b1 0), (7, .bool false)] (by kernel_rfl)) (hrets rfl) rfl ⟨_, rfl, rfl, hM0.chg⟩))
         replace h := iteF hb h
         refine (wp_skip (then_normal ?_))
         refine wp_seq (wp_text' ?_)
         refine s_loadBoxS ty38 rfl rfl hF rfl (hs.bx 0 rfl) rfl rfl fun fr hF => ?_
         have hs : Sep [BX b1 38 [I 0, I 0, I 0, I 0]] w23 S12 := Sep.pick [1] hs (by decide) rfl
         refine q_storeBoxS 0 hs hM0 rfl [I 3, I x11, I x9, I x7] rfl hF rfl rfl (by kernel_rfl) rfl rfl rfl fun w25 S17 hs hp hF => ?_
         have hM0 := hM0.stp hp
         have hs : Sep [BX b1 38 [I 3, I x11, I x9, I x7]] w25 S17 := hs
         refine from_pure 1 [(6, B b1 0), (7, .bool true)] hF (by kernel_rfl) fun fr hF => ?_
         refine from_end rfl (then_normal ?_)
         have hrets := fun {σ : List (Nat × Value)} (h : σ = [(6, B b1 0), (7, .bool true)]) => (by subst h; exact (Rets.cell rfl ty38 (hs.bx 0 rfl) rfl rfl (Rets.tmp rfl Rets.nil)) : Rets Tryz.prog σ w25 [.cell 6 38, .tmp 7] [.agg #[I 3, I x11, I x9, I x7], .bool true])
         obtain rfl := Option.some.inj h
         exact wp_ret (retG (rs := [.cell 6 38, .tmp 7]) rfl (hF.sub [(6, B b1 0), (7, .bool true)] (by kernel_rfl)) (hrets rfl) rfl ⟨_, rfl, rfl, hM0.chg⟩)
       replace h := iteF hb h
       refine (wp_skip (then_normal ?_))
       refine wp_seq ?_
       refine wp_seq (region_b [] [true, false, true, true, true, false, true, true]
           [.eq (B b2 0), .eq (I 3), .eq (.bool (3 == 9)), .eq (.bool (3 == 9)), .eq (B b2 0), .eq (I 3), .eq (.bool (3 == 11)), .eq (.bool ((3 == 9) || (3 == 11)))]
           [(0, Str.val p0), (1, I p1), (2, I p2), (6, B b1 0), (9, B b2 0), (94, .bool ((3 == 9) || (3 == 11)))] mix hF (by kernel_rfl) (by kernel_rfl) (by kernel_rfl) ⟨Pd.mono_eq, Pd.mono_eq, trivial⟩ (fun hG => ⟨np_loadBox hG hF ty3 rfl rfl (hs.bx 0 rfl) rfl rfl rfl, np_loadBox hG hF ty3 rfl rfl (hs.bx 0 rfl) rfl rfl rfl, trivial⟩) (by kernel_rfl) fun fr w26 hF hE hc => then_normal ?_)
       have hs := hs.ext hc
       have hM0 := hM0.ext hc
       refine (wp_if hF (b := ((3 == 9) || (3 == 11))) rfl (fun hb => ?_) (fun hb => ?_))
       · replace h := iteT hb h
         refine (wp_text' ?_)
         refine from_pure 1 [(0, Str.val p0), (1, I p1), (2, I p2), (6, B b1 0), (9, B b2 0), (95, B b2 1)] hF (by kernel_rfl) fun fr hF => ?_
         refine q_storeBox 0 hs hM0 rfl [I 3, I 0, I 0, I x7] rfl hF rfl rfl (by kernel_rfl) rfl rfl rfl fun w27 S18 hs hp hF => ?_
         have hM0 := hM0.stp hp
         have hs : Sep [BX b2 38 [I 3, I 0, I 0, I x7], BX b1 38 [I 0, I 0, I 0, I 0]] w27 S18 := hs
         refine from_end rfl (then_normal ?_)
         refine wp_seq ?_
         obtain ⟨x14, hx14, h⟩ := bindE h
         refine wp_seq (region_b [] [true, false, true, true, false, true, true, false, true, true, true]
             [.eq (B b2 0), .eq (I 3), .eq (.bool (3 == 0)), .eq (.bool (3 == 0)), .eq (.agg #[I 3, I 0, I 0, I x7]), .eq (I p1), .eq (I p2), .eq (Str.val x14), .eq (Str.val p0), .eq (.bool (!(Str.eqb x14 p0))), .eq (.bool ((3 == 0) || (!(Str.eqb x14 p0))))]
             [(6, B b1 0), (9, B b2 0), (106, .bool ((3 == 0) || (!(Str.eqb x14 p0))))] mix hF (by kernel_rfl) (by kernel_rfl) (by kernel_rfl) ⟨Pd.mono_eq, Pd.mono_eq, Pd.mono_eq, trivial⟩ (fun hG => ⟨np_loadBox hG hF ty3 rfl rfl (hs.bx 0 rfl) rfl rfl rfl, np_loadBoxS hG hF ty38 rfl rfl (hs.bx 0 rfl) rfl rfl rfl rfl, np_call [.agg #[I 3, I 0, I 0, I x7], I p1, I p2] hG hF Tryz.call30 rfl rfl (fun w hC hg => (spec_FormatIns_ok n (D.Ins.mk 3 0 0 x7) p1 p2 (iteF hg.2 hx14)).mono fun e w' ⟨v, he, hv, hc⟩ => ⟨v, he, hc, hv⟩), trivial⟩) (by kernel_rfl) fun fr w28 hF hE hc => then_normal ?_)
         have hs := hs.ext hc
         have hM0 := hM0.ext hc
         refine (wp_if hF (b := ((3 == 0) || (!(Str.eqb x14 p0)))) rfl (fun hb => ?_) (fun hb => ?_))
         · replace h := iteT hb h
           have hs : Sep [BX b1 38 [I 0, I 0, I 0, I 0]] w28 S18 := Sep.pick [1] hs (by decide) rfl
           refine wp_seq (wp_text' ?_)
           refine from_pure 1 [(6, B b1 0), (107, .agg #[I 0, I 0, I 0, I 0])] hF (by kernel_rfl) fun fr hF => ?_
           refine q_storeBoxS 0 hs hM0 rfl [I 0, I 0, I 0, I 0] rfl hF rfl rfl (by kernel_rfl) rfl rfl rfl fun w29 S19 hs hp hF => ?_
           have hM0 := hM0.stp hp
           have hs : Sep [BX b1 38 [I 0, I 0, I 0, I 0]] w29 S19 := hs
           refine from_pure 1 [(6, B b1 0), (7, .bool false)] hF (by kernel_rfl) fun fr hF => ?_
           refine from_end rfl (then_normal ?_)
           have hrets := fun {σ : List (Nat × Value)} (h : σ = [(6, B b1 0), (7, .bool false)]) => (by subst h; exact (Rets.cell rfl ty38 (hs.bx 0 rfl) rfl rfl (Rets.tmp rfl Rets.nil)) : Rets Tryz.prog σ w29 [.cell 6 38, .tmp 7] [.agg #[I 0, I 0, I 0, I 0], .bool false])
           obtain rfl := Option.some.inj h
           exact wp_ret (then_ret (retG (rs := [.cell 6 38, .tmp 7]) rfl (hF.sub [(6, B b1 0), (7, .bool false)] (by kernel_rfl)) (hrets rfl) rfl ⟨_, rfl, rfl, hM0.chg⟩))
         replace h := iteF hb h
         refine (wp_skip (then_normal ?_))
         refine wp_seq (wp_text' ?_)
         refine s_loadBoxS ty38 rfl rfl hF rfl (hs.bx 0 rfl) rfl rfl fun fr hF => ?_
         have hs : Sep [BX b1 38 [I 0, I 0, I 0, I 0]] w28 S18 := Sep.pick [1] hs (by decide) rfl
         refine q_storeBoxS 0 hs hM0 rfl [I 3, I 0, I 0, I x7] rfl hF rfl rfl (by kernel_rfl) rfl rfl rfl fun w30 S20 hs hp hF => ?_
         have hM0 := hM0.stp hp
         have hs : Sep [BX b1 38 [I 3, I 0, I 0, I x7]] w30 S20 := hs
         refine from_pure 1 [(6, B b1 0), (7, .bool true)] hF (by kernel_rfl) fun fr hF => ?_
         refine from_end rfl (then_normal ?_)
         have hrets := fun {σ : List (Nat × Value)} (h : σ = [(6, B b1 0), (7, .bool true)]) => (by subst h; exact (Rets.cell rfl ty38 (hs.bx 0 rfl) rfl rfl (Rets.tmp rfl Rets.nil)) : Rets Tryz.prog σ w30 [.cell 6 38, .tmp 7] [.agg #[I 3, I 0, I 0, I x7], .bool true])
         obtain rfl := Option.some.inj h
         exact wp_ret (retG (rs := [.cell 6 38, .tmp 7]) rfl (hF.sub [(6, B b1 0), (7, .bool true)] (by kernel_rfl)) (hrets rfl) rfl ⟨_, rfl, rfl, hM0.chg⟩)
       replace h := iteF hb h
       refine (wp_skip (then_normal ?_))
       refine wp_seq ?_
       obtain ⟨x15, hx15, h⟩ := bindE h
       refine wp_seq (region_b [] [true, false, true, true, false, true, true, false, true, true, true]
           [.eq (B b2 0), .eq (I 3), .eq (.bool (3 == 0)), .eq (.bool (3 == 0)), .eq (.agg #[I 3, I x11, I 0, I x7]), .eq (I p1), .eq (I p2), .eq (Str.val x15), .eq (Str.val p0), .eq (.bool (!(Str.eqb x15 p0))), .eq (.bool ((3 == 0) || (!(Str.eqb x15 p0))))]
           [(6, B b1 0), (9, B b2 0), (106, .bool ((3 == 0) || (!(Str.eqb x15 p0))))] mix hF (by kernel_rfl) (by kernel_rfl) (by kernel_rfl) ⟨Pd.mono_eq, Pd.mono_eq, Pd.mono_eq, trivial⟩ (fun hG => ⟨np_loadBox hG hF ty3 rfl rfl (hs.bx 0 rfl) rfl rfl rfl, np_loadBoxS hG hF ty38 rfl rfl (hs.bx 0 rfl) rfl rfl rfl rfl, np_call [.agg #[I 3, I x11, I 0, I x7], I p1, I p2] hG hF Tryz.call30 rfl rfl (fun w hC hg => (spec_FormatIns_ok n (D.Ins.mk 3 x11 0 x7) p1 p2 (iteF hg.2 hx15)).mono fun e w' ⟨v, he, hv, hc⟩ => ⟨v, he, hc, hv⟩), trivial⟩) (by kernel_rfl) fun fr w31 hF hE hc => then_normal ?_)
       have hs := hs.ext hc
       have hM0 := hM0.ext hc
       refine (wp_if hF (b := ((3 == 0) || (!(Str.eqb x15 p0)))) rfl (fun hb => ?_) (fun hb => ?_))
       · replace h := iteT hb h
         have hs : Sep [BX b1 38 [I 0, I 0, I 0, I 0]] w31 S11 := Sep.pick [1] hs (by decide) rfl
         refine wp_seq (wp_text' ?_)
         refine from_pure 1 [(6, B b1 0), (107, .agg #[I 0, I 0, I 0, I 0])] hF (by kernel_rfl) fun fr hF => ?_
         refine q_storeBoxS 0 hs hM0 rfl [I 0, I 0, I 0, I 0] rfl hF rfl rfl (by kernel_rfl) rfl rfl rfl fun w32 S21 hs hp hF => ?_
         have hM0 := hM0.stp hp
         have hs : Sep [BX b1 38 [I 0, I 0, I 0, I 0]] w32 S21 := hs
         refine from_pure 1 [(6, B b1 0), (7, .bool false)] hF (by kernel_rfl) fun fr hF => ?_
         refine from_end rfl (then_normal ?_)
         have hrets := fun {σ : List (Nat × Value)} (h : σ = [(6, B b1 0), (7, .bool false)]) => (by subst h; exact (Rets.cell rfl ty38 (hs.bx 0 rfl) rfl rfl (Rets.tmp rfl Rets.nil)) : Rets Tryz.prog σ w32 [.cell 6 38, .tmp 7] [.agg #[I 0, I 0, I 0, I 0], .bool false])
         obtain rfl := Option.some.inj h
         exact wp_ret (then_ret (retG (rs := [.cell 6 38, .tmp 7]) rfl (hF.sub [(6, B b1 0), (7, .bool false)] (by kernel_rfl)) (hrets rfl) rfl ⟨_, rfl, rfl, hM0.chg⟩))
       replace h := iteF hb h
       refine (wp_skip (then_normal ?_))
       refine wp_seq (wp_text' ?_)
       refine s_loadBoxS ty38 rfl rfl hF rfl (hs.bx 0 rfl) rfl rfl fun fr hF => ?_
       have hs : Sep [BX b1 38 [I 0, I 0, I 0, I 0]] w31 S11 := Sep.pick [1] hs (by decide) rfl
       refine q_storeBoxS 0 hs hM0 rfl [I 3, I x11, I 0, I x7] rfl hF rfl rfl (by kernel_rfl) rfl rfl rfl fun w33 S22 hs hp hF => ?_
       have hM0 := hM0.stp hp
       have hs : Sep [BX b1 38 [I 3, I x11, I 0, I x7]] w33 S22 := hs
       refine from_pure 1 [(6, B b1 0), (7, .bool true)] hF (by kernel_rfl) fun fr hF => ?_
       refine from_end rfl (then_normal ?_)
       have hrets := fun {σ : List (Nat × Value)} (h : σ = [(6, B b1 0), (7, .bool true)]) => (by subst h; exact (Rets.cell rfl ty38 (hs.bx 0 rfl) rfl rfl (Rets.tmp rfl Rets.nil)) : Rets Tryz.prog σ w33 [.cell 6 38, .tmp 7] [.agg #[I 3, I x11, I 0, I x7], .bool true])
       obtain rfl := Option.some.inj h
       exact wp_ret (retG (rs := [.cell 6 38, .tmp 7]) rfl (hF.sub [(6, B b1 0), (7, .bool true)] (by kernel_rfl)) (hrets rfl) rfl ⟨_, rfl, rfl, hM0.chg⟩)
     replace h := iteF hb h
     refine (wp_skip (then_normal ?_))
     refine wp_seq ?_
     refine wp_seq (region_b [] [true, true, true, true, true, false, true, true, true, true, false, true, true]
         [.eq (L a1 x1 c1), .eq (I (len x1)), .eq (.bool (decide ((len x1) > 2))), .eq (.bool (decide ((len x1) > 2))), .eq (B b2 0), .eq (I 3), .eq (.bool (3 == 9)), .eq (.bool ((decide ((len x1) > 2)) || (3 == 9))), .eq (.bool ((decide ((len x1) > 2)) || (3 == 9))), .eq (B b2 0), .eq (I 3), .eq (.bool (3 == 11)), .eq (.bool (((decide ((len x1) > 2)) || (3 == 9)) || (3 == 11)))]
         [(0, Str.val p0), (1, I p1), (2, I p2), (6, B b1 0), (9, B b2 0), (11, I 0), (84, .bool (((decide ((len x1) > 2)) || (3 == 9)) || (3 == 11)))] mix hF (by kernel_rfl) (by kernel_rfl) (by kernel_rfl) ⟨Pd.mono_eq, Pd.mono_eq, trivial⟩ (fun hG => ⟨np_loadBox hG hF ty3 rfl rfl (hs.bx 0 rfl) rfl rfl rfl, np_loadBox hG hF ty3 rfl rfl (hs.bx 0 rfl) rfl rfl rfl, trivial⟩) (by kernel_rfl) fun fr w34 hF hE hc => then_normal ?_)
     have hs := hs.ext hc
     have hM0 := hM0.ext hc
     have hs : Sep [BX b2 38 [I 3, I 0, I 0, I x7], BX b1 38 [I 0, I 0, I 0, I 0]] w34 S10 := Sep.pick [0, 2] hs (by decide) rfl
     refine (wp_if hF (b := (((decide ((len x1) > 2)) || (3 == 9)) || (3 == 11))) rfl (fun hb => ?_) (fun hb => ?_))
     · replace h := iteT hb h
       refine (wp_text' ?_)
       refine from_pure 2 [(0, Str.val p0), (1, I p1), (2, I p2), (6, B b1 0), (9, B b2 0), (85, I 0), (86, B b2 2)] hF (by kernel_rfl) fun fr hF => ?_
       refine q_storeBox 0 hs hM0 rfl [I 3, I 0, I 0, I x7] rfl hF rfl rfl (by kernel_rfl) rfl rfl rfl fun w35 S23 hs hp hF => ?_
       have hM0 := hM0.stp hp
       have hs : Sep [BX b2 38 [I 3, I 0, I 0, I x7], BX b1 38 [I 0, I 0, I 0, I 0]] w35 S23 := hs
       refine from_end rfl (then_normal ?_)
       refine wp_seq ?_
       refine wp_seq (region_b [] [true, false, true, true, true, false, true, true]
           [.eq (B b2 0), .eq (I 3), .eq (.bool (3 == 9)), .eq (.bool (3 == 9)), .eq (B b2 0), .eq (I 3), .eq (.bool (3 == 11)), .eq (.bool ((3 == 9) || (3 == 11)))]
           [(0, Str.val p0), (1, I p1), (2, I p2), (6, B b1 0), (9, B b2 0), (94, .bool ((3 == 9) || (3 == 11)))] mix hF (by kernel_rfl) (by kernel_rfl) (by kernel_rfl) ⟨Pd.mono_eq, Pd.mono_eq, trivial⟩ (fun hG => ⟨np_loadBox hG hF ty3 rfl rfl (hs.bx 0 rfl) rfl rfl rfl, np_loadBox hG hF ty3 rfl rfl (hs.bx 0 rfl) rfl rfl rfl, trivial⟩) (by kernel_rfl) fun fr w36 hF hE hc => then_normal ?_)
       have hs := hs.ext hc
       have hM0 := hM0.ext hc
       refine (wp_if hF (b := ((3 == 9) || (3 == 11))) rfl (fun hb => ?_) (fun hb => ?_))
       · replace h := iteT hb h
         refine (wp_text' ?_)
         refine from_pure 1 [(0, Str.val p0), (1, I p1), (2, I p2), (6, B b1 0), (9, B b2 0), (95, B b2 1)] hF (by kernel_rfl) fun fr hF => ?_
         refine q_storeBox 0 hs hM0 rfl [I 3, I 0, I 0, I x7] rfl hF rfl rfl (by kernel_rfl) rfl rfl rfl fun w37 S24 hs hp hF => ?_
         have hM0 := hM0.stp hp
         have hs : Sep [BX b2 38 [I 3, I 0, I 0, I x7], BX b1 38 [I 0, I 0, I 0, I 0]] w37 S24 := hs
         refine from_end rfl (then_normal ?_)
         refine wp_seq ?_
         obtain ⟨x16, hx16, h⟩ := bindE h
         refine wp_seq (region_b [] [true, false, true, true, false, true, true, false, true, true, true]
             [.eq (B b2 0), .eq (I 3), .eq (.bool (3 == 0)), .eq (.bool (3 == 0)), .eq (.agg #[I 3, I 0, I 0, I x7]), .eq (I p1), .eq (I p2), .eq (Str.val x16), .eq (Str.val p0), .eq (.bool (!(Str.eqb x16 p0))), .eq (.bool ((3 == 0) || (!(Str.eqb x16 p0))))]
             [(6, B b1 0), (9, B b2 0), (106, .bool ((3 == 0) || (!(Str.eqb x16 p0))))] mix hF (by kernel_rfl) (by kernel_rfl) (by kernel_rfl) ⟨Pd.mono_eq, Pd.mono_eq, Pd.mono_eq, trivial⟩ (fun hG => ⟨np_loadBox hG hF ty3 rfl rfl (hs.bx 0 rfl) rfl rfl rfl, np_loadBoxS hG hF ty38 rfl rfl (hs.bx 0 rfl) rfl rfl rfl rfl, np_call [.agg #[I 3, I 0, I 0, I x7], I p1, I p2] hG hF Tryz.call30 rfl rfl (fun w hC hg => (spec_FormatIns_ok n (D.Ins.mk 3 0 0 x7) p1 p2 (iteF hg.2 hx16)).mono fun e w' ⟨v, he, hv, hc⟩ => ⟨v, he, hc, hv⟩), trivial⟩) (by kernel_rfl) fun fr w38 hF hE hc => then_normal ?_)
         have hs := hs.ext hc
         have hM0 := hM0.ext hc
         refine (wp_if hF (b := ((3 == 0) || (!(Str.eqb x16 p0)))) rfl (fun hb => ?_) (fun hb => ?_))
         · replace h := iteT hb h
           have hs : Sep [BX b1 38 [I 0, I 0, I 0, I 0]] w38 S24 := Sep.pick [1] hs (by decide) rfl
           refine wp_seq (wp_text' ?_)
           refine from_pure 1 [(6, B b1 0), (107, .agg #[I 0, I 0, I 0, I 0])] hF (by kernel_rfl) fun fr hF => ?_
           refine q_storeBoxS 0 hs hM0 rfl [I 0, I 0, I 0, I 0] rfl hF rfl rfl (by kernel_rfl) rfl rfl rfl fun w39 S25 hs hp hF => ?_
           have hM0 := hM0.stp hp
           have hs : Sep [BX b1 38 [I 0, I 0, I 0, I 0]] w39 S25 := hs
           refine from_pure 1 [(6, B b1 0), (7, .bool false)] hF (by kernel_rfl) fun fr hF => ?_
           refine from_end rfl (then_normal ?_)
           have hrets := fun {σ : List (Nat × Value)} (h : σ = [(6, B b1 0), (7, .bool false)]) => (by subst h; exact (Rets.cell rfl ty38 (hs.bx 0 rfl) rfl rfl (Rets.tmp rfl Rets.nil)) : Rets Tryz.prog σ w39 [.cell 6 38, .tmp 7] [.agg #[I 0, I 0, I 0, I 0], .bool false])
           obtain rfl := Option.some.inj h
           exact wp_ret (then_ret (retG (rs := [.cell 6 38, .tmp 7]) rfl (hF.sub [(6, B b1 0), (7, .bool false)] (by kernel_rfl)) (hrets rfl) rfl ⟨_, rfl, rfl, hM0.chg⟩))
         replace h := iteF hb h
         refine (wp_skip (then_normal ?_))
         refine wp_seq (wp_text' ?_)
         refine s_loadBoxS ty38 rfl rfl hF rfl (hs.bx 0 rfl) rfl rfl fun fr hF => ?_
         have hs : Sep [BX b1 38 [I 0, I 0, I 0, I 0]] w38 S24 := Sep.pick [1] hs (by decide) rfl
         refine q_storeBoxS 0 hs hM0 rfl [I 3, I 0, I 0, I x7] rfl hF rfl rfl (by kernel_rfl) rfl rfl rfl fun w40 S26 hs hp hF => ?_
         have hM0 := hM0.stp hp
         have hs : Sep [BX b1 38 [I 3, I 0, I 0, I x7]] w40 S26 := hs
         refine from_pure 1 [(6, B b1 0), (7, .bool true)] hF (by kernel_rfl) fun fr hF => ?_
         refine from_end rfl (then_normal ?_)
         have hrets := fun {σ : List (Nat × Value)} (h : σ = [(6, B b1 0), (7, .bool true)]) => (by subst h; exact (Rets.cell rfl ty38 (hs.bx 0 rfl) rfl rfl (Rets.tmp rfl Rets.nil)) : Rets Tryz.prog σ w40 [.cell 6 38, .tmp 7] [.agg #[I 3, I 0, I 0, I x7], .bool true])
         obtain rfl := Option.some.inj h
         exact wp_ret (retG (rs := [.cell 6 38, .tmp 7]) rfl (hF.sub [(6, B b1 0), (7, .bool true)] (by kernel_rfl)) (hrets rfl) rfl ⟨_, rfl, rfl, hM0.chg⟩)
       replace h := iteF hb h
       refine (wp_skip (then_normal ?_))
       refine wp_seq ?_
       obtain ⟨x17, hx17, h⟩ := bindE h
       refine wp_seq (region_b [] [true, false, true, true, false, true, true, false, true, true, true]
           [.eq (B b2 0), .eq (I 3), .eq (.bool (3 == 0)), .eq (.bool (3 == 0)), .eq (.agg #[I 3, I 0, I 0, I x7]), .eq (I p1), .eq (I p2), .eq (Str.val x17), .eq (Str.val p0), .eq (.bool (!(Str.eqb x17 p0))), .eq (.bool ((3 == 0) || (!(Str.eqb x17 p0))))]
           [(6, B b1 0), (9, B b2 0), (106, .bool ((3 == 0) || (!(Str.eqb x17 p0))))] mix hF (by kernel_rfl) (by kernel_rfl) (by kernel_rfl) ⟨Pd.mono_eq, Pd.mono_eq, Pd.mono_eq, trivial⟩ (fun hG => ⟨np_loadBox hG hF ty3 rfl rfl (hs.bx 0 rfl) rfl rfl rfl, np_loadBoxS hG hF ty38 rfl rfl (hs.bx 0 rfl) rfl rfl rfl rfl, np_call [.agg #[I 3, I 0, I 0, I x7], I p1, I p2] hG hF Tryz.call30 rfl rfl (fun w hC hg => (spec_FormatIns_ok n (D.Ins.mk 3 0 0 x7) p1 p2 (iteF hg.2 hx17)).mono fun e w' ⟨v, he, hv, hc⟩ => ⟨v, he, hc, hv⟩), trivial⟩) (by kernel_rfl) fun fr w41 hF hE hc => then_normal ?_)
       have hs := hs.ext hc
       have hM0 := hM0.ext hc
       refine (wp_if hF (b := ((3 == 0) || (!(Str.eqb x17 p0)))) rfl (fun hb => ?_) (fun hb => ?_))
       · replace h := iteT hb h
         have hs : Sep [BX b1 38 [I 0, I 0, I 0, I 0]] w41 S23 := Sep.pick [1] hs (by decide) rfl
         refine wp_seq (wp_text' ?_)
         refine from_pure 1 [(6, B b1 0), (107, .agg #[I 0, I 0, I 0, I 0])] hF (by kernel_rfl) fun fr hF => ?_
         refine q_storeBoxS 0 hs hM0 rfl [I 0, I 0, I 0, I 0] rfl hF rfl rfl (by kernel_rfl) rfl rfl rfl fun w42 S27 hs hp hF => ?_
         have hM0 := hM0.stp hp
         have hs : Sep [BX b1 38 [I 0, I 0, I 0, I 0]] w42 S27 := hs
         refine from_pure 1 [(6, B b1 0), (7, .bool false)] hF (by kernel_rfl) fun fr hF => ?_
         refine from_end rfl (then_normal ?_)
         have hrets := fun {σ : List (Nat × Value)} (h : σ = [(6, B b1 0), (7, .bool false)]) => (by subst h; exact (Rets.cell rfl ty38 (hs.bx 0 rfl) rfl rfl (Rets.tmp rfl Rets.nil)) : Rets Tryz.prog σ w42 [.cell 6 38, .tmp 7] [.agg #[I 0, I 0, I 0, I 0], .bool false])
         obtain rfl := Option.some.inj h
         exact wp_ret (then_ret (retG (rs := [.cell 6 38, .tmp 7]) rfl (hF.sub [(6, B b1 0), (7, .bool false)] (by kernel_rfl)) (hrets rfl) rfl ⟨_, rfl, rfl, hM0.chg⟩))
       replace h := iteF hb h
       refine (wp_skip (then_normal ?_))
       refine wp_seq (wp_text' ?_)
       refine s_loadBoxS ty38 rfl rfl hF rfl (hs.bx 0 rfl) rfl rfl fun fr hF => ?_
       have hs : Sep [BX b1 38 [I 0, I 0, I 0, I 0]] w41 S23 := Sep.pick [1] hs (by decide) rfl
       refine q_storeBoxS 0 hs hM0 rfl [I 3, I 0, I 0, I x7] rfl hF rfl rfl (by kernel_rfl) rfl rfl rfl fun w43 S28 hs hp hF => ?_
       have hM0 := hM0.stp hp
       have hs : Sep [BX b1 38 [I 3, I 0, I 0, I x7]] w43 S28 := hs
       refine from_pure 1 [(6, B b1 0), (7, .bool true)] hF (by kernel_rfl) fun fr hF => ?_
       refine from_end rfl (then_normal ?_)
       have hrets := fun {σ : List (Nat × Value)} (h : σ = [(6, B b1 0), (7, .bool true)]) => (by subst h; exact (Rets.cell rfl ty38 (hs.bx 0 rfl) rfl rfl (Rets.tmp rfl Rets.nil)) : Rets Tryz.prog σ w43 [.cell 6 38, .tmp 7] [.agg #[I 3, I 0, I 0, I x7], .bool true])
       obtain rfl := Option.some.inj h
       exact wp_ret (retG (rs := [.cell 6 38, .tmp 7]) rfl (hF.sub [(6, B b1 0), (7, .bool true)] (by kernel_rfl)) (hrets rfl) rfl ⟨_, rfl, rfl, hM0.chg⟩)
     replace h := iteF hb h
     refine (wp_skip (then_normal ?_))
     refine wp_seq ?_
     refine wp_seq (region_b [] [true, false, true, true, true, false, true, true]
         [.eq (B b2 0), .eq (I 3), .eq (.bool (3 == 9)), .eq (.bool (3 == 9)), .eq (B b2 0), .eq (I 3), .eq (.bool (3 == 11)), .eq (.bool ((3 == 9) || (3 == 11)))]
         [(0, Str.val p0), (1, I p1), (2, I p2), (6, B b1 0), (9, B b2 0), (94, .bool ((3 == 9) || (3 == 11)))] mix hF (by kernel_rfl) (by kernel_rfl) (by kernel_rfl) ⟨Pd.mono_eq, Pd.mono_eq, trivial⟩ (fun hG => ⟨np_loadBox hG hF ty3 rfl rfl (hs.bx 0 rfl) rfl rfl rfl, np_loadBox hG hF ty3 rfl rfl (hs.bx 0 rfl) rfl rfl rfl, trivial⟩) (by kernel_rfl) fun fr w44 hF hE hc => then_normal ?_)
     have hs := hs.ext hc
     have hM0 := hM0.ext hc
     refine (wp_if hF (b := ((3 == 9) || (3 == 11))) rfl (fun hb => ?_) (fun hb => ?_))
     · replace h := iteT hb h
       refine (wp_text' ?_)
       refine from_pure 1 [(0, Str.val p0), (1, I p1), (2, I p2), (6, B b1 0), (9, B b2 0), (95, B b2 1)] hF (by kernel_rfl) fun fr hF => ?_
       refine q_storeBox 0 hs hM0 rfl [I 3, I 0, I 0, I x7] rfl hF rfl rfl (by kernel_rfl) rfl rfl rfl fun w45 S29 hs hp hF => ?_
       have hM0 := hM0.stp hp
       have hs : Sep [BX b2 38 [I 3, I 0, I 0, I x7], BX b1 38 [I 0, I 0, I 0, I 0]] w45 S29 := hs
       refine from_end rfl (then_normal ?_)
       refine wp_seq ?_
       obtain ⟨x18, hx18, h⟩ := bindE h
       refine wp_seq (region_b [] [true, false, true, true, false, true, true, false, true, true, true]
           [.eq (B b2 0), .eq (I 3), .eq (.bool (3 == 0)), .eq (.bool (3 == 0)), .eq (.agg #[I 3, I 0, I 0, I x7]), .eq (I p1), .eq (I p2), .eq (Str.val x18), .eq (Str.val p0), .eq (.bool (!(Str.eqb x18 p0))), .eq (.bool ((3 == 0) || (!(Str.eqb x18 p0))))]
           [(6, B b1 0), (9, B b2 0), (106, .bool ((3 == 0) || (!(Str.eqb x18 p0))))] mix hF (by kernel_rfl) (by kernel_rfl) (by kernel_rfl) ⟨Pd.mono_eq, Pd.mono_eq, Pd.mono_eq, trivial⟩ (fun hG => ⟨np_loadBox hG hF ty3 rfl rfl (hs.bx 0 rfl) rfl rfl rfl, np_loadBoxS hG hF ty38 rfl rfl (hs.bx 0 rfl) rfl rfl rfl rfl, np_call [.agg #[I 3, I 0, I 0, I x7], I p1, I p2] hG hF Tryz.call30 rfl rfl (fun w hC hg => (spec_FormatIns_ok n (D.Ins.mk 3 0 0 x7) p1 p2 (iteF hg.2 hx18)).mono fun e w' ⟨v, he, hv, hc⟩ => ⟨v, he, hc, hv⟩), trivial⟩) (by kernel_rfl) fun fr w46 hF hE hc => then_normal ?_)
       have hs := hs.ext hc
       have hM0 := hM0.ext hc
       refine (wp_if hF (b := ((3 == 0) || (!(Str.eqb x18 p0)))) rfl (fun hb => ?_) (fun hb => ?_))
       · replace h := iteT hb h
         have hs : Sep [BX b1 38 [I 0, I 0, I 0, I 0]] w46 S29 := Sep.pick [1] hs (by decide) rfl
         refine wp_seq (wp_text' ?_)
         refine from_pure 1 [(6, B b1 0), (107, .agg #[I 0, I 0, I 0, I 0])] hF (by kernel_rfl) fun fr hF => ?_
         refine q_storeBoxS 0 hs hM0 rfl [I 0, I 0, I 0, I 0] rfl hF rfl rfl (by kernel_rfl) rfl rfl rfl fun w47 S30 hs hp hF => ?_
         have hM0 := hM0.stp hp
         have hs : Sep [BX b1 38 [I 0, I 0, I 0, I 0]] w47 S30 := hs
         refine from_pure 1 [(6, B b1 0), (7, .bool false)] hF (by kernel_rfl) fun fr hF => ?_
         refine from_end rfl (then_normal ?_)
         have hrets := fun {σ : List (Nat × Value)} (h : σ = [(6, B b1 0), (7, .bool false)]) => (by subst h; exact (Rets.cell rfl ty38 (hs.bx 0 rfl) rfl rfl (Rets.tmp rfl Rets.nil)) : Rets Tryz.prog σ w47 [.cell 6 38, .tmp 7] [.agg #[I 0, I 0, I 0, I 0], .bool false])
         obtain rfl := Option.some.inj h
         exact wp_ret (then_ret (retG (rs := [.cell 6 38, .tmp 7]) rfl (hF.sub [(6, B b1 0), (7, .bool false)] (by kernel_rfl)) (hrets rfl) rfl ⟨_, rfl, rfl, hM0.chg⟩))
       replace h := iteF hb h
       refine (wp_skip (then_normal ?_))
       refine wp_seq (wp_text' ?_)
       refine s_loadBoxS ty38 rfl rfl hF rfl (hs.bx 0 rfl) rfl rfl fun fr hF => ?_
       have hs : Sep [BX b1 38 [I 0, I 0, I 0, I 0]] w46 S29 := Sep.pick [1] hs (by decide) rfl
       refine q_storeBoxS 0 hs hM0 rfl [I 3, I 0, I 0, I x7] rfl hF rfl rfl (by kernel_rfl) rfl rfl rfl fun w48 S31 hs hp hF => ?_
       have hM0 := hM0.stp hp
       have hs : Sep [BX b1 38 [I 3, I 0, I 0, I x7]] w48 S31 := hs
       refine from_pure 1 [(6, B b1 0), (7, .bool true)] hF (by kernel_rfl) fun fr hF => ?_
       refine from_end rfl (then_normal ?_)
       have hrets := fun {σ : List (Nat × Value)} (h : σ = [(6, B b1 0), (7, .bool true)]) => (by subst h; exact (Rets.cell rfl ty38 (hs.bx 0 rfl) rfl rfl (Rets.tmp rfl Rets.nil)) : Rets Tryz.prog σ w48 [.cell 6 38, .tmp 7] [.agg #[I 3, I 0, I 0, I x7], .bool true])
       obtain rfl := Option.some.inj h
       exact wp_ret (retG (rs := [.cell 6 38, .tmp 7]) rfl (hF.sub [(6, B b1 0), (7, .bool true)] (by kernel_rfl)) (hrets rfl) rfl ⟨_, rfl, rfl, hM0.chg⟩)
     replace h := iteF hb h
     refine (wp_skip (then_normal ?_))
     refine wp_seq ?_
     obtain ⟨x19, hx19, h⟩ := bindE h
     refine wp_seq (region_b [] [true, false, true, true, false, true, true, false, true, true, true]
         [.eq (B b2 0), .eq (I 3), .eq (.bool (3 == 0)), .eq (.bool (3 == 0)), .eq (.agg #[I 3, I 0, I 0, I x7]), .eq (I p1), .eq (I p2), .eq (Str.val x19), .eq (Str.val p0), .eq (.bool (!(Str.eqb x19 p0))), .eq (.bool ((3 == 0) || (!(Str.eqb x19 p0))))]
         [(6, B b1 0), (9, B b2 0), (106, .bool ((3 == 0) || (!(Str.eqb x19 p0))))] mix hF (by kernel_rfl) (by kernel_rfl) (by kernel_rfl) ⟨Pd.mono_eq, Pd.mono_eq, Pd.mono_eq, trivial⟩ (fun hG => ⟨np_loadBox hG hF ty3 rfl rfl (hs.bx 0 rfl) rfl rfl rfl, np_loadBoxS hG hF ty38 rfl rfl (hs.bx 0 rfl) rfl rfl rfl rfl, np_call [.agg #[I 3, I 0, I 0, I x7], I p1, I p2] hG hF Tryz.call30 rfl rfl (fun w hC hg => (spec_FormatIns_ok n (D.Ins.mk 3 0 0 x7) p1 p2 (iteF hg.2 hx19)).mono fun e w' ⟨v, he, hv, hc⟩ => ⟨v, he, hc, hv⟩), trivial⟩) (by kernel_rfl) fun fr w49 hF hE hc => then_normal ?_)
     have hs := hs.ext hc
     have hM0 := hM0.ext hc
     refine (wp_if hF (b := ((3 == 0) || (!(Str.eqb x19 p0)))) rfl (fun hb => ?_) (fun hb => ?_))
     · replace h := iteT hb h
       have hs : Sep [BX b1 38 [I 0, I 0, I 0, I 0]] w49 S10 := Sep.pick [1] hs (by decide) rfl
       refine wp_seq (wp_text' ?_)
       refine from_pure 1 [(6, B b1 0), (107, .agg #[I 0, I 0, I 0, I 0])] hF (by kernel_rfl) fun fr hF => ?_
       refine q_storeBoxS 0 hs hM0 rfl [I 0, I 0, I 0, I 0] rfl hF rfl rfl (by kernel_rfl) rfl rfl rfl fun w50 S32 hs hp hF => ?_
       have hM0 := hM0.stp hp
       have hs : Sep [BX b1 38 [I 0, I 0, I 0, I 0]] w50 S32 := hs
       refine from_pure 1 [(6, B b1 0), (7, .bool false)] hF (by kernel_rfl) fun fr hF => ?_
       refine from_end rfl (then_normal ?_)
       have hrets := fun {σ : List (Nat × Value)} (h : σ = [(6, B b1 0), (7, .bool false)]) => (by subst h; exact (Rets.cell rfl ty38 (hs.bx 0 rfl) rfl rfl (Rets.tmp rfl Rets.nil)) : Rets Tryz.prog σ w50 [.cell 6 38, .tmp 7] [.agg #[I 0, I 0, I 0, I 0], .bool false])
       obtain rfl := Option.some.inj h
       exact wp_ret (then_ret (retG (rs := [.cell 6 38, .tmp 7]) rfl (hF.sub [(6, B b1 0), (7, .bool false)] (by kernel_rfl)) (hrets rfl) rfl ⟨_, rfl, rfl, hM0.chg⟩))
     replace h := iteF hb h
     refine (wp_skip (then_normal ?_))
     refine wp_seq (wp_text' ?_)
     refine s_loadBoxS ty38 rfl rfl hF rfl (hs.bx 0 rfl) rfl rfl fun fr hF => ?_
     have hs : Sep [BX b1 38 [I 0, I 0, I 0, I 0]] w49 S10 := Sep.pick [1] hs (by decide) rfl
     refine q_storeBoxS 0 hs hM0 rfl [I 3, I 0, I 0, I x7] rfl hF rfl rfl (by kernel_rfl) rfl rfl rfl fun w51 S33 hs hp hF => ?_
     have hM0 := hM0.stp hp
     have hs : Sep [BX b1 38 [I 3, I 0, I 0, I x7]] w51 S33 := hs
     refine from_pure 1 [(6, B b1 0), (7, .bool true)] hF (by kernel_rfl) fun fr hF => ?_
     refine from_end rfl (then_normal ?_)
     have hrets := fun {σ : List (Nat × Value)} (h : σ = [(6, B b1 0), (7, .bool true)]) => (by subst h; exact (Rets.cell rfl ty38 (hs.bx 0 rfl) rfl rfl (Rets.tmp rfl Rets.nil)) : Rets Tryz.prog σ w51 [.cell 6 38, .tmp 7] [.agg #[I 3, I 0, I 0, I x7], .bool true])
     obtain rfl := Option.some.inj h
     exact wp_ret (retG (rs := [.cell 6 38, .tmp 7]) rfl (hF.sub [(6, B b1 0), (7, .bool true)] (by kernel_rfl)) (hrets rfl) rfl ⟨_, rfl, rfl, hM0.chg⟩)
   replace h := iteF hb h
   refine (wp_skip (then_normal ?_))
   refine wp_seq (wp_pure [(0, Str.val p0), (1, I p1), (2, I p2), (6, B b1 0), (8, L a1 x1 c1), (9, B b2 0), (11, I 0)] hF (by kernel_rfl) fun fr hF => then_normal ?_)
   refine wp_seq ?_
   refine wp_seq (wp_pure [(0, Str.val p0), (1, I p1), (2, I p2), (6, B b1 0), (8, L a1 x1 c1), (9, B b2 0), (11, I 0), (59, .bool (decide ((len x1) > 1)))] hF (by kernel_rfl) fun fr hF => then_normal ?_)
   refine (wp_if hF (b := (decide ((len x1) > 1))) rfl (fun hb => ?_) (fun hb => ?_))
   · replace h := iteT hb h
     refine wp_seq (wp_text' ?_)
     refine from_pure 4 [(0, Str.val p0), (1, I p1), (2, I p2), (6, B b1 0), (8, L a1 x1 c1), (9, B b2 0), (60, L a1 x1 c1), (63, I (w64 ((len x1) - 1)))] hF (by kernel_rfl) fun fr hF => ?_
     obtain ⟨x20, hx20, h⟩ := bindE h
     refine s_elemF (z := x20) (Str.val x20) ty9 Tryz.underlying30 rfl rfl rfl rfl rfl hF rfl (hs.rv 1 rfl) rfl (get?_nn hx20) (get?_at hx20) rfl fun p fr hF => ?_
     obtain ⟨x21, hx21, h⟩ := bindE h
     refine s_call [Str.val x20] Tryz.call29 rfl rfl hF rfl (spec_l05Number_ok n x20 hx21) fun v w52 fr hRes hF => ?_
     obtain ⟨rfl, hc⟩ := hRes
     have hs := hs.ext hc
     have hM0 := hM0.ext hc
     refine from_pure 1 [(0, Str.val p0), (1, I p1), (2, I p2), (6, B b1 0), (8, L a1 x1 c1), (9, B b2 0), (11, I x21)] hF (by kernel_rfl) fun fr hF => ?_
     refine from_end rfl (then_normal ?_)
     refine (wp_text' ?_)
     refine from_pure 1 [(0, Str.val p0), (1, I p1), (2, I p2), (6, B b1 0), (8, L a1 x1 c1), (9, B b2 0), (11, I x21), (67, L a1 x1 c1)] hF (by kernel_rfl) fun fr hF => ?_
     obtain ⟨x22, hx22, h⟩ := bindE h
     refine s_elemF (z := x22) (Str.val x22) ty9 Tryz.underlying30 rfl rfl rfl rfl rfl hF rfl (hs.rv 1 rfl) rfl (get?_nn hx22) (get?_at hx22) rfl fun p fr hF => ?_
     obtain ⟨x23, hx23, h⟩ := bindE h
     refine s_call [Str.val x22] Tryz.call29 rfl rfl hF rfl (spec_l05Number_ok n x22 hx23) fun v w53 fr hRes hF => ?_
     obtain ⟨rfl, hc⟩ := hRes
     have hs := hs.ext hc
     have hM0 := hM0.ext hc
     refine from_pure 1 [(0, Str.val p0), (1, I p1), (2, I p2), (6, B b1 0), (8, L a1 x1 c1), (9, B b2 0), (11, I x21), (70, I x23), (71, B b2 1)] hF (by kernel_rfl) fun fr hF => ?_
     refine q_storeBox 0 hs hM0 rfl [I rl1, I x23, I 0, I 0] rfl hF rfl rfl (by kernel_rfl) rfl rfl rfl fun w54 S34 hs hp hF => ?_
     have hM0 := hM0.stp hp
     have hs : Sep [BX b2 38 [I rl1, I x23, I 0, I 0], sl9 (L a1 x1 c1) x1, BX b1 38 [I 0, I 0, I 0, I 0]] w54 S34 := hs
     refine from_end rfl (then_normal ?_)
     refine wp_seq ?_
     refine wp_seq (region_b [] [true, true, true, true, true, false, true, true, true, true, false, true, true]
         [.eq (L a1 x1 c1), .eq (I (len x1)), .eq (.bool (decide ((len x1) > 2))), .eq (.bool (decide ((len x1) > 2))), .eq (B b2 0), .eq (I rl1), .eq (.bool (rl1 == 9)), .eq (.bool ((decide ((len x1) > 2)) || (rl1 == 9))), .eq (.bool ((decide ((len x1) > 2)) || (rl1 == 9))), .eq (B b2 0), .eq (I rl1), .eq (.bool (rl1 == 11)), .eq (.bool (((decide ((len x1) > 2)) || (rl1 == 9)) || (rl1 == 11)))]
         [(0, Str.val p0), (1, I p1), (2, I p2), (6, B b1 0), (9, B b2 0), (11, I x21), (84, .bool (((decide ((len x1) > 2)) || (rl1 == 9)) || (rl1 == 11)))] mix hF (by kernel_rfl) (by kernel_rfl) (by kernel_rfl) ⟨Pd.mono_eq, Pd.mono_eq, trivial⟩ (fun hG => ⟨np_loadBox hG hF ty3 rfl rfl (hs.bx 0 rfl) rfl rfl rfl, np_loadBox hG hF ty3 rfl rfl (hs.bx 0 rfl) rfl rfl rfl, trivial⟩) (by kernel_rfl) fun fr w55 hF hE hc => then_normal ?_)
     have hs := hs.ext hc
     have hM0 := hM0.ext hc
     have hs : Sep [BX b2 38 [I rl1, I x23, I 0, I 0], BX b1 38 [I 0, I 0, I 0, I 0]] w55 S34 := Sep.pick [0, 2] hs (by decide) rfl
     refine (wp_if hF (b := (((decide ((len x1) > 2)) || (rl1 == 9)) || (rl1 == 11))) rfl (fun hb => ?_) (fun hb => ?_))
     · replace h := iteT hb h
       refine (wp_text' ?_)
       refine from_pure 2 [(0, Str.val p0), (1, I p1), (2, I p2), (6, B b1 0), (9, B b2 0), (85, I x21), (86, B b2 2)] hF (by kernel_rfl) fun fr hF => ?_
       refine q_storeBox 0 hs hM0 rfl [I rl1, I x23, I x21, I 0] rfl hF rfl rfl (by kernel_rfl) rfl rfl rfl fun w56 S35 hs hp hF => ?_
       have hM0 := hM0.stp hp
       have hs : Sep [BX b2 38 [I rl1, I x23, I x21, I 0], BX b1 38 [I 0, I 0, I 0, I 0]] w56 S35 := hs
       refine from_end rfl (then_normal ?_)
       refine wp_seq ?_
       refine wp_seq (region_b [] [true, false, true, true, true, false, true, true]
           [.eq (B b2 0), .eq (I rl1), .eq (.bool (rl1 == 9)), .eq (.bool (rl1 == 9)), .eq (B b2 0), .eq (I rl1), .eq (.bool (rl1 == 11)), .eq (.bool ((rl1 == 9) || (rl1 == 11)))]
           [(0, Str.val p0), (1, I p1), (2, I p2), (6, B b1 0), (9, B b2 0), (94, .bool ((rl1 == 9) || (rl1 == 11)))] mix hF (by kernel_rfl) (by kernel_rfl) (by kernel_rfl) ⟨Pd.mono_eq, Pd.mono_eq, trivial⟩ (fun hG => ⟨np_loadBox hG hF ty3 rfl rfl (hs.bx 0 rfl) rfl rfl rfl, np_loadBox hG hF ty3 rfl rfl (hs.bx 0 rfl) rfl rfl rfl, trivial⟩) (by kernel_rfl) fun fr w57 hF hE hc => then_normal ?_)
       have hs := hs.ext hc
       have hM0 := hM0.ext hc
       refine (wp_if hF (b := ((rl1 == 9) || (rl1 == 11))) rfl (fun hb => ?_) (fun hb => ?_))
       · replace h := iteT hb h
         refine (wp_text' ?_)
         refine from_pure 1 [(0, Str.val p0), (1, I p1), (2, I p2), (6, B b1 0), (9, B b2 0), (95, B b2 1)] hF (by kernel_rfl) fun fr hF => ?_
         refine q_storeBox 0 hs hM0 rfl [I rl1, I 0, I x21, I 0] rfl hF rfl rfl (by kernel_rfl) rfl rfl rfl fun w58 S36 hs hp hF => ?_
         have hM0 := hM0.stp hp
         have hs : Sep [BX b2 38 [I rl1, I 0, I x21, I 0], BX b1 38 [I 0, I 0, I 0, I 0]] w58 S36 := hs
         refine from_end rfl (then_normal ?_)
         refine wp_seq ?_
         obtain ⟨x24, hx24, h⟩ := bindE h
         refine wp_seq (region_b [] [true, false, true, true, false, true, true, false, true, true, true]
             [.eq (B b2 0), .eq (I rl1), .eq (.bool (rl1 == 0)), .eq (.bool (rl1 == 0)), .eq (.agg #[I rl1, I 0, I x21, I 0]), .eq (I p1), .eq (I p2), .eq (Str.val x24), .eq (Str.val p0), .eq (.bool (!(Str.eqb x24 p0))), .eq (.bool ((rl1 == 0) || (!(Str.eqb x24 p0))))]
             [(6, B b1 0), (9, B b2 0), (106, .bool ((rl1 == 0) || (!(Str.eqb x24 p0))))] mix hF (by kernel_rfl) (by kernel_rfl) (by kernel_rfl) ⟨Pd.mono_eq, Pd.mono_eq, Pd.mono_eq, trivial⟩ (fun hG => ⟨np_loadBox hG hF ty3 rfl rfl (hs.bx 0 rfl) rfl rfl rfl, np_loadBoxS hG hF ty38 rfl rfl (hs.bx 0 rfl) rfl rfl rfl rfl, np_call [.agg #[I rl1, I 0, I x21, I 0], I p1, I p2] hG hF Tryz.call30 rfl rfl (fun w hC hg => (spec_FormatIns_ok n (D.Ins.mk rl1 0 x21 0) p1 p2 (iteF hg.2 hx24)).mono fun e w' ⟨v, he, hv, hc⟩ => ⟨v, he, hc, hv⟩), trivial⟩) (by kernel_rfl) fun fr w59 hF hE hc => then_normal ?_)
         have hs := hs.ext hc
         have hM0 := hM0.ext hc
         refine (wp_if hF (b := ((rl1 == 0) || (!(Str.eqb x24 p0)))) rfl (fun hb => ?_) (fun hb => ?_))
         · replace h := iteT hb h
           have hs : Sep [BX b1 38 [I 0, I 0, I 0, I 0]] w59 S36 := Sep.pick [1] hs (by decide) rfl
           refine wp_seq (wp_text' ?_)
           refine from_pure 1 [(6, B b1 0), (107, .agg #[I 0, I 0, I 0, I 0])] hF (by kernel_rfl) fun fr hF => ?_
           refine q_storeBoxS 0 hs hM0 rfl [I 0, I 0, I 0, I 0] rfl hF rfl rfl (by kernel_rfl) rfl rfl rfl fun w60 S37 hs hp hF => ?_
           have hM0 := hM0.stp hp
           have hs : Sep [BX b1 38 [I 0, I 0, I 0, I 0]] w60 S37 := hs
           refine from_pure 1 [(6, B b1 0), (7, .bool false)] hF (by kernel_rfl) fun fr hF => ?_
           refine from_end rfl (then_normal ?_)
           have hrets := fun {σ : List (Nat × Value)} (h : σ = [(6, B b1 0), (7, .bool false)]) => (by subst h; exact (Rets.cell rfl ty38 (hs.bx 0 rfl) rfl rfl (Rets.tmp rfl Rets.nil)) : Rets Tryz.prog σ w60 [.cell 6 38, .tmp 7] [.agg #[I 0, I 0, I 0, I 0], .bool false])
           obtain rfl := Option.some.inj h
           exact wp_ret (then_ret (retG (rs := [.cell 6 38, .tmp 7]) rfl (hF.sub [(6, B b1 0), (7, .bool false)] (by kernel_rfl)) (hrets rfl) rfl ⟨_, rfl, rfl, hM0.chg⟩))
         replace h := iteF hb h
         refine (wp_skip (then_normal ?_))
         refine wp_seq (wp_text' ?_)
         refine s_loadBoxS ty38 rfl rfl hF rfl (hs.bx 0 rfl) rfl rfl fun fr hF => ?_
         have hs : Sep [BX b1 38 [I 0, I 0, I 0, I 0]] w59 S36 := Sep.pick [1] hs (by decide) rfl
         refine q_storeBoxS 0 hs hM0 rfl [I rl1, I 0, I x21, I 0] rfl hF rfl rfl (by kernel_rfl) rfl rfl rfl fun w61 S38 hs hp hF => ?_
         have hM0 := hM0.stp hp
         have hs : Sep [BX b1 38 [I rl1, I 0, I x21, I 0]] w61 S38 := hs
         refine from_pure 1 [(6, B b1 0), (7, .bool true)] hF (by kernel_rfl) fun fr hF => ?_
         refine from_end rfl (then_normal ?_)
         have hrets := fun {σ : List (Nat × Value)} (h : σ = [(6, B b1 0), (7, .bool true)]) => (by subst h; exact (Rets.cell rfl ty38 (hs.bx 0 rfl) rfl rfl (Rets.tmp rfl Rets.nil)) : Rets Tryz.prog σ w61 [.cell 6 38, .tmp 7] [.agg #[I rl1, I 0, I x21, I 0], .bool true])
         obtain rfl := Option.some.inj h
         exact wp_ret (retG (rs := [.cell 6 38, .tmp 7]) rfl (hF.sub [(6, B b1 0), (7, .bool true)] (by kernel_rfl)) (hrets rfl) rfl ⟨_, rfl, rfl, hM0.chg⟩)
       replace h := iteF hb h
       refine (wp_skip (then_normal ?_))
       refine wp_seq ?_
       obtain ⟨x25, hx25, h⟩ := bindE h
       refine wp_seq (region_b [] [true, false, true, true, false, true, true, false, true, true, true]
           [.eq (B b2 0), .eq (I rl1), .eq (.bool (rl1 == 0)), .eq (.bool (rl1 == 0)), .eq (.agg #[I rl1, I x23, I x21, I 0]), .eq (I p1), .eq (I p2), .eq (Str.val x25), .eq (Str.val p0), .eq (.bool (!(Str.eqb x25 p0))), .eq (.bool ((rl1 == 0) || (!(Str.eqb x25 p0))))]
           [(6, B b1 0), (9, B b2 0), (106, .bool ((rl1 == 0) || (!(Str.eqb x25 p0))))] mix hF (by kernel_rfl) (by kernel_rfl) (by kernel_rfl) ⟨Pd.mono_eq, Pd.mono_eq, Pd.mono_eq, trivial⟩ (fun hG => ⟨np_loadBox hG hF ty3 rfl rfl (hs.bx 0 rfl) rfl rfl rfl, np_loadBoxS hG hF ty38 rfl rfl (hs.bx 0 rfl) rfl rfl rfl rfl, np_call [.agg #[I rl1, I x23, I x21, I 0], I p1, I p2] hG hF Tryz.call30 rfl rfl (fun w hC hg => (spec_FormatIns_ok n (D.Ins.mk rl1 x23 x21 0) p1 p2 (iteF hg.2 hx25)).mono fun e w' ⟨v, he, hv, hc⟩ => ⟨v, he, hc, hv⟩), trivial⟩) (by kernel_rfl) fun fr w62 hF hE hc => then_normal ?_)
       have hs := hs.ext hc
       have hM0 := hM0.ext hc
       refine (wp_if hF (b := ((rl1 == 0) || (!(Str.eqb x25 p0)))) rfl (fun hb => ?_) (fun hb => ?_))
       · replace h := iteT hb h
         have hs : Sep [BX b1 38 [I 0, I 0, I 0, I 0]] w62 S35 := Sep.pick [1] hs (by decide) rfl
         refine wp_seq (wp_text' ?_)
         refine from_pure 1 [(6, B b1 0), (107, .agg #[I 0, I 0, I 0, I 0])] hF (by kernel_rfl) fun fr hF => ?_
         refine q_storeBoxS 0 hs hM0 rfl [I 0, I 0, I 0, I 0] rfl hF rfl rfl (by kernel_rfl) rfl rfl rfl fun w63 S39 hs hp hF => ?_
         have hM0 := hM0.stp hp
         have hs : Sep [BX b1 38 [I 0, I 0, I 0, I 0]] w63 S39 := hs
         refine from_pure 1 [(6, B b1 0), (7, .bool false)] hF (by kernel_rfl) fun fr hF => ?_
         refine from_end rfl (then_normal ?_)
         have hrets := fun {σ : List (Nat × Value)} (h : σ = [(6, B b1 0), (7, .bool false)]) => (by subst h; exact (Rets.cell rfl ty38 (hs.bx 0 rfl) rfl rfl (Rets.tmp rfl Rets.nil)) : Rets Tryz.prog σ w63 [.cell 6 38, .tmp 7] [.agg #[I 0, I 0, I 0, I 0], .bool false])
         obtain rfl := Option.some.inj h
         exact wp_ret (then_ret (retG (rs := [.cell 6 38, .tmp 7]) rfl (hF.sub [(6, B b1 0), (7, .bool false)] (by kernel_rfl)) (hrets rfl) rfl ⟨_, rfl, rfl, hM0.chg⟩))
       replace h := iteF hb h
       refine (wp_skip (then_normal ?_))
       refine wp_seq (wp_text' ?_)
       refine s_loadBoxS ty38 rfl rfl hF rfl (hs.bx 0 rfl) rfl rfl fun fr hF => ?_
       have hs : Sep [BX b1 38 [I 0, I 0, I 0, I 0]] w62 S35 := Sep.pick [1] hs (by decide) rfl
       refine q_storeBoxS 0 hs hM0 rfl [I rl1, I x23, I x21, I 0] rfl hF rfl rfl (by kernel_rfl) rfl rfl rfl fun w65 S40 hs hp hF => ?_
       have hM0 := hM0.stp hp
       have hs : Sep [BX b1 38 [I rl1, I x23, I x21, I 0]] w65 S40 := hs
       refine from_pure 1 [(6, B b1 0), (7, .bool true)] hF (by kernel_rfl) fun fr hF => ?_
       refine from_end rfl (then_normal ?_)
       have hrets := fun {σ : List (Nat × Value)} (h : σ = [(6, B b1 0), (7, .bool true)]) => (by subst h; exact (Rets.cell rfl ty38 (hs.bx 0 rfl) rfl rfl (Rets.tmp rfl Rets.nil)) : Rets Tryz.prog σ w65 [.cell 6 38, .tmp 7] [.agg #[I rl1, I x23, I x21, I 0], .bool true])
       obtain rfl := Option.some.inj h
       exact wp_ret (retG (rs := [.cell 6 38, .tmp 7]) rfl (hF.sub [(6, B b1 0), (7, .bool true)] (by kernel_rfl)) (hrets rfl) rfl ⟨_, rfl, rfl, hM0.chg⟩)
     replace h := iteF hb h
     refine (wp_skip (then_normal ?_))
     refine wp_seq ?_
     refine wp_seq (region_b [] [true, false, true, true, true, false, true, true]
         [.eq (B b2 0), .eq (I rl1), .eq (.bool (rl1 == 9)), .eq (.bool (rl1 == 9)), .eq (B b2 0), .eq (I rl1), .eq (.bool (rl1 == 11)), .eq (.bool ((rl1 == 9) || (rl1 == 11)))]
         [(0, Str.val p0), (1, I p1), (2, I p2), (6, B b1 0), (9, B b2 0), (94, .bool ((rl1 == 9) || (rl1 == 11)))] mix hF (by kernel_rfl) (by kernel_rfl) (by kernel_rfl) ⟨Pd.mono_eq, Pd.mono_eq, trivial⟩ (fun hG => ⟨np_loadBox hG hF ty3 rfl rfl (hs.bx 0 rfl) rfl rfl rfl, np_loadBox hG hF ty3 rfl rfl (hs.bx 0 rfl) rfl rfl rfl, trivial⟩) (by kernel_rfl) fun fr w66 hF hE hc => then_normal ?_)
     have hs := hs.ext hc
     have hM0 := hM0.ext hc
     refine (wp_if hF (b := ((rl1 == 9) || (rl1 == 11))) rfl (fun hb => ?_) (fun hb => ?_))
     · replace h := iteT hb h
       refine (wp_text' ?_)
       refine from_pure 1 [(0, Str.val p0), (1, I p1), (2, I p2), (6, B b1 0), (9, B b2 0), (95, B b2 1)] hF (by kernel_rfl) fun fr hF => ?_
       refine q_storeBox 0 hs hM0 rfl [I rl1, I 0, I 0, I 0] rfl hF rfl rfl (by kernel_rfl) rfl rfl rfl fun w67 S41 hs hp hF => ?_
       have hM0 := hM0.stp hp
       have hs : Sep [BX b2 38 [I rl1, I 0, I 0, I 0], BX b1 38 [I 0, I 0, I 0, I 0]] w67 S41 := hs
       refine from_end rfl (then_normal ?_)
       refine wp_seq ?_
       obtain ⟨x26, hx26, h⟩ := bindE h
       refine wp_seq (region_b [] [true, false, true, true, false, true, true, false, true, true, true]
           [.eq (B b2 0), .eq (I rl1), .eq (.bool (rl1 == 0)), .eq (.bool (rl1 == 0)), .eq (.agg #[I rl1, I 0, I 0, I 0]), .eq (I p1), .eq (I p2), .eq (Str.val x26), .eq (Str.val p0), .eq (.bool (!(Str.eqb x26 p0))), .eq (.bool ((rl1 == 0) || (!(Str.eqb x26 p0))))]
           [(6, B b1 0), (9, B b2 0), (106, .bool ((rl1 == 0) || (!(Str.eqb x26 p0))))] mix hF (by kernel_rfl) (by kernel_rfl) (by kernel_rfl) ⟨Pd.mono_eq, Pd.mono_eq, Pd.mono_eq, trivial⟩ (fun hG => ⟨np_loadBox hG hF ty3 rfl rfl (hs.bx 0 rfl) rfl rfl rfl, np_loadBoxS hG hF ty38 rfl rfl (hs.bx 0 rfl) rfl rfl rfl rfl, np_call [.agg #[I rl1, I 0, I 0, I 0], I p1, I p2] hG hF Tryz.call30 rfl rfl (fun w hC hg => (spec_FormatIns_ok n (D.Ins.mk rl1 0 0 0) p1 p2 (iteF hg.2 hx26)).mono fun e w' ⟨v, he, hv, hc⟩ => ⟨v, he, hc, hv⟩), trivial⟩) (by kernel_rfl) fun fr w68 hF hE hc => then_normal ?_)
       have hs := hs.ext hc
       have hM0 := hM0.ext hc
       refine (wp_if hF (b := ((rl1 == 0) || (!(Str.eqb x26 p0)))) rfl (fun hb => ?_) (fun hb => ?_))
       · replace h := iteT hb h
         have hs : Sep [BX b1 38 [I 0, I 0, I 0, I 0]] w68 S41 := Sep.pick [1] hs (by decide) rfl
         refine wp_seq (wp_text' ?_)
         refine from_pure 1 [(6, B b1 0), (107, .agg #[I 0, I 0, I 0, I 0])] hF (by kernel_rfl) fun fr hF => ?_
         refine q_storeBoxS 0 hs hM0 rfl [I 0, I 0, I 0, I 0] rfl hF rfl rfl (by kernel_rfl) rfl rfl rfl fun w69 S42 hs hp hF => ?_
         have hM0 := hM0.stp hp
         have hs : Sep [BX b1 38 [I 0, I 0, I 0, I 0]] w69 S42 := hs
         refine from_pure 1 [(6, B b1 0), (7, .bool false)] hF (by kernel_rfl) fun fr hF => ?_
         refine from_end rfl (then_normal ?_)
         have hrets := fun {σ : List (Nat × Value)} (h : σ = [(6, B b1 0), (7, .bool false)]) => (by subst h; exact (Rets.cell rfl ty38 (hs.bx 0 rfl) rfl rfl (Rets.tmp rfl Rets.nil)) : Rets Tryz.prog σ w69 [.cell 6 38, .tmp 7] [.agg #[I 0, I 0, I 0, I 0], .bool false])
         obtain rfl := Option.some.inj h
         exact wp_ret (then_ret (retG (rs := [.cell 6 38, .tmp 7]) rfl (hF.sub [(6, B b1 0), (7, .bool false)] (by kernel_rfl)) (hrets rfl) rfl ⟨_, rfl, rfl, hM0.chg⟩))
       replace h := iteF hb h
       refine (wp_skip (then_normal ?_))
       refine wp_seq (wp_text' ?_)
       refine s_loadBoxS ty38 rfl rfl hF rfl (hs.bx 0 rfl) rfl rfl fun fr hF => ?_
       have hs : Sep [BX b1 38 [I 0, I 0, I 0, I 0]] w68 S41 := Sep.pick [1] hs (by decide) rfl
       refine q_storeBoxS 0 hs hM0 rfl [I rl1, I 0, I 0, I 0] rfl hF rfl rfl (by kernel_rfl) rfl rfl rfl fun w70 S43 hs hp hF => ?_
       have hM0 := hM0.stp hp
       have hs : Sep [BX b1 38 [I rl1, I 0, I 0, I 0]] w70 S43 := hs
       refine from_pure 1 [(6, B b1 0), (7, .bool true)] hF (by kernel_rfl) fun fr hF => ?_
       refine from_end rfl (then_normal ?_)
       have hrets := fun {σ : List (Nat × Value)} (h : σ = [(6, B b1 0), (7, .bool true)]) => (by subst h; exact (Rets.cell rfl ty38 (hs.bx 0 rfl) rfl rfl (Rets.tmp rfl Rets.nil)) : Rets Tryz.prog σ w70 [.cell 6 38, .tmp 7] [.agg #[I rl1, I 0, I 0, I 0], .bool true])
       obtain rfl := Option.some.inj h
       exact wp_ret (retG (rs := [.cell 6 38, .tmp 7]) rfl (hF.sub [(6, B b1 0), (7, .bool true)] (by kernel_rfl)) (hrets rfl) rfl ⟨_, rfl, rfl, hM0.chg⟩)
     replace h := iteF hb h
     refine (wp_skip (then_normal ?_))
     refine wp_seq ?_
     obtain ⟨x27, hx27, h⟩ := bindE h
     refine wp_seq (region_b [] [true, false, true, true, false, true, true, false, true, true, true]
         [.eq (B b2 0), .eq (I rl1), .eq (.bool (rl1 == 0)), .eq (.bool (rl1 == 0)), .eq (.agg #[I rl1, I x23, I 0, I 0]), .eq (I p1), .eq (I p2), .eq (Str.val x27), .eq (Str.val p0), .eq (.bool (!(Str.eqb x27 p0))), .eq (.bool ((rl1 == 0) || (!(Str.eqb x27 p0))))]
         [(6, B b1 0), (9, B b2 0), (106, .bool ((rl1 == 0) || (!(Str.eqb x27 p0))))] mix hF (by kernel_rfl) (by kernel_rfl) (by kernel_rfl) ⟨Pd.mono_eq, Pd.mono_eq, Pd.mono_eq, trivial⟩ (fun hG => ⟨np_loadBox hG hF ty3 rfl rfl (hs.bx 0 rfl) rfl rfl rfl, np_loadBoxS hG hF ty38 rfl rfl (hs.bx 0 rfl) rfl rfl rfl rfl, np_call [.agg #[I rl1, I x23, I 0, I 0], I p1, I p2] hG hF Tryz.call30 rfl rfl (fun w hC hg => (spec_FormatIns_ok n (D.Ins.mk rl1 x23 0 0) p1 p2 (iteF hg.2 hx27)).mono fun e w' ⟨v, he, hv, hc⟩ => ⟨v, he, hc, hv⟩), trivial⟩) (by kernel_rfl) fun fr w71 hF hE hc => then_normal ?_)
     have hs := hs.ext hc
     have hM0 := hM0.ext hc
     refine (wp_if hF (b := ((rl1 == 0) || (!(Str.eqb x27 p0)))) rfl (fun hb => ?_) (fun hb => ?_))
     · replace h := iteT hb h
       have hs : Sep [BX b1 38 [I 0, I 0, I 0, I 0]] w71 S34 := Sep.pick [1] hs (by decide) rfl
       refine wp_seq (wp_text' ?_)
       refine from_pure 1 [(6, B b1 0), (107, .agg #[I 0, I 0, I 0, I 0])] hF (by kernel_rfl) fun fr hF => ?_
       refine q_storeBoxS 0 hs hM0 rfl [I 0, I 0, I 0, I 0] rfl hF rfl rfl (by kernel_rfl) rfl rfl rfl fun w72 S44 hs hp hF => ?_
       have hM0 := hM0.stp hp
       have hs : Sep [BX b1 38 [I 0, I 0, I 0, I 0]] w72 S44 := hs
       refine from_pure 1 [(6, B b1 0), (7, .bool false)] hF (by kernel_rfl) fun fr hF => ?_
       refine from_end rfl (then_normal ?_)
       have hrets := fun {σ : List (Nat × Value)} (h : σ = [(6, B b1 0), (7, .bool false)]) => (by subst h; exact (Rets.cell rfl ty38 (hs.bx 0 rfl) rfl rfl (Rets.tmp rfl Rets.nil)) : Rets Tryz.prog σ w72 [.cell 6 38, .tmp 7] [.agg #[I 0, I 0, I 0, I 0], .bool false])
       obtain rfl := Option.some.inj h
       exact wp_ret (then_ret (retG (rs := [.cell 6 38, .tmp 7]) rfl (hF.sub [(6, B b1 0), (7, .bool false)] (by kernel_rfl)) (hrets rfl) rfl ⟨_, rfl, rfl, hM0.chg⟩))
     replace h := iteF hb h
     refine (wp_skip (then_normal ?_))
     refine wp_seq (wp_text' ?_)
     refine s_loadBoxS ty38 rfl rfl hF rfl (hs.bx 0 rfl) rfl rfl fun fr hF => ?_
     have hs : Sep [BX b1 38 [I 0, I 0, I 0, I 0]] w71 S34 := Sep.pick [1] hs (by decide) rfl
     refine q_storeBoxS 0 hs hM0 rfl [I rl1, I x23, I 0, I 0] rfl hF rfl rfl (by kernel_rfl) rfl rfl rfl fun w73 S45 hs hp hF => ?_
     have hM0 := hM0.stp hp
     have hs : Sep [BX b1 38 [I rl1, I x23, I 0, I 0]] w73 S45 := hs
     refine from_pure 1 [(6, B b1 0), (7, .bool true)] hF (by kernel_rfl) fun fr hF => ?_
     refine from_end rfl (then_normal ?_)
     have hrets := fun {σ : List (Nat × Value)} (h : σ = [(6, B b1 0), (7, .bool true)]) => (by subst h; exact (Rets.cell rfl ty38 (hs.bx 0 rfl) rfl rfl (Rets.tmp rfl Rets.nil)) : Rets Tryz.prog σ w73 [.cell 6 38, .tmp 7] [.agg #[I rl1, I x23, I 0, I 0], .bool true])
     obtain rfl := Option.some.inj h
     exact wp_ret (retG (rs := [.cell 6 38, .tmp 7]) rfl (hF.sub [(6, B b1 0), (7, .bool true)] (by kernel_rfl)) (hrets rfl) rfl ⟨_, rfl, rfl, hM0.chg⟩)
   replace h := iteF hb h
   refine (wp_skip (then_normal ?_))
   refine wp_seq ?_
   refine wp_seq (region_b [] [true, true, true, true, true, false, true, true, true, true, false, true, true]
       [.eq (L a1 x1 c1), .eq (I (len x1)), .eq (.bool (decide ((len x1) > 2))), .eq (.bool (decide ((len x1) > 2))), .eq (B b2 0), .eq (I rl1), .eq (.bool (rl1 == 9)), .eq (.bool ((decide ((len x1) > 2)) || (rl1 == 9))), .eq (.bool ((decide ((len x1) > 2)) || (rl1 == 9))), .eq (B b2 0), .eq (I rl1), .eq (.bool (rl1 == 11)), .eq (.bool (((decide ((len x1) > 2)) || (rl1 == 9)) || (rl1 == 11)))]
       [(0, Str.val p0), (1, I p1), (2, I p2), (6, B b1 0), (9, B b2 0), (11, I 0), (84, .bool (((decide ((len x1) > 2)) || (rl1 == 9)) || (rl1 == 11)))] mix hF (by kernel_rfl) (by kernel_rfl) (by kernel_rfl) ⟨Pd.mono_eq, Pd.mono_eq, trivial⟩ (fun hG => ⟨np_loadBox hG hF ty3 rfl rfl (hs.bx 0 rfl) rfl rfl rfl, np_loadBox hG hF ty3 rfl rfl (hs.bx 0 rfl) rfl rfl rfl, trivial⟩) (by kernel_rfl) fun fr w74 hF hE hc => then_normal ?_)
   have hs := hs.ext hc
   have hM0 := hM0.ext hc
   have hs : Sep [BX b2 38 [I rl1, I 0, I 0, I 0], BX b1 38 [I 0, I 0, I 0, I 0]] w74 S7 := Sep.pick [0, 2] hs (by decide) rfl
   refine (wp_if hF (b := (((decide ((len x1) > 2)) || (rl1 == 9)) || (rl1 == 11))) rfl (fun hb => ?_) (fun hb => ?_))
   · replace h := iteT hb h
     refine (wp_text' ?_)
     refine from_pure 2 [(0, Str.val p0), (1, I p1), (2, I p2), (6, B b1 0), (9, B b2 0), (85, I 0), (86, B b2 2)] hF (by kernel_rfl) fun fr hF => ?_
     refine q_storeBox 0 hs hM0 rfl [I rl1, I 0, I 0, I 0] rfl hF rfl rfl (by kernel_rfl) rfl rfl rfl fun w75 S46 hs hp hF => ?_
     have hM0 := hM0.stp hp
     have hs : Sep [BX b2 38 [I rl1, I 0, I 0, I 0], BX b1 38 [I 0, I 0, I 0, I 0]] w75 S46 := hs
     refine from_end rfl (then_normal ?_)
     refine wp_seq ?_
     refine wp_seq (region_b [] [true, false, true, true, true, false, true, true]
         [.eq (B b2 0), .eq (I rl1), .eq (.bool (rl1 == 9)), .eq (.bool (rl1 == 9)), .eq (B b2 0), .eq (I rl1), .eq (.bool (rl1 == 11)), .eq (.bool ((rl1 == 9) || (rl1 == 11)))]
         [(0, Str.val p0), (1, I p1), (2, I p2), (6, B b1 0), (9, B b2 0), (94, .bool ((rl1 == 9) || (rl1 == 11)))] mix hF (by kernel_rfl) (by kernel_rfl) (by kernel_rfl) ⟨Pd.mono_eq, Pd.mono_eq, trivial⟩ (fun hG => ⟨np_loadBox hG hF ty3 rfl rfl (hs.bx 0 rfl) rfl rfl rfl, np_loadBox hG hF ty3 rfl rfl (hs.bx 0 rfl) rfl rfl rfl, trivial⟩) (by kernel_rfl) fun fr w76 hF hE hc => then_normal ?_)
     have hs := hs.ext hc
     have hM0 := hM0.ext hc
     refine (wp_if hF (b := ((rl1 == 9) || (rl1 == 11))) rfl (fun hb => ?_) (fun hb => ?_))
     · replace h := iteT hb h
       refine (wp_text' ?_)
       refine from_pure 1 [(0, Str.val p0), (1, I p1), (2, I p2), (6, B b1 0), (9, B b2 0), (95, B b2 1)] hF (by kernel_rfl) fun fr hF => ?_
       refine q_storeBox 0 hs hM0 rfl [I rl1, I 0, I 0, I 0] rfl hF rfl rfl (by kernel_rfl) rfl rfl rfl fun w77 S47 hs hp hF => ?_
       have hM0 := hM0.stp hp
       have hs : Sep [BX b2 38 [I rl1, I 0, I 0, I 0], BX b1 38 [I 0, I 0, I 0, I 0]] w77 S47 := hs
       refine from_end rfl (then_normal ?_)
       refine wp_seq ?_
       obtain ⟨x28, hx28, h⟩ := bindE h
       refine wp_seq (region_b [] [true, false, true, true, false, true, true, false, true, true, true]
           [.eq (B b2 0), .eq (I rl1), .eq (.bool (rl1 == 0)), .eq (.bool (rl1 == 0)), .eq (.agg #[I rl1, I 0, I 0, I 0]), .eq (I p1), .eq (I p2), .eq (Str.val x28), .eq (Str.val p0), .eq (.bool (!(Str.eqb x28 p0))), .eq (.bool ((rl1 == 0) || (!(Str.eqb x28 p0))))]
           [(6, B b1 0), (9, B b2 0), (106, .bool ((rl1 == 0) || (!(Str.eqb x28 p0))))] mix hF (by kernel_rfl) (by kernel_rfl) (by kernel_rfl) ⟨Pd.mono_eq, Pd.mono_eq, Pd.mono_eq, trivial⟩ (fun hG => ⟨np_loadBox hG hF ty3 rfl rfl (hs.bx 0 rfl) rfl rfl rfl, np_loadBoxS hG hF ty38 rfl rfl (hs.bx 0 rfl) rfl rfl rfl rfl, np_call [.agg #[I rl1, I 0, I 0, I 0], I p1, I p2] hG hF Tryz.call30 rfl rfl (fun w hC hg => (spec_FormatIns_ok n (D.Ins.mk rl1 0 0 0) p1 p2 (iteF hg.2 hx28)).mono fun e w' ⟨v, he, hv, hc⟩ => ⟨v, he, hc, hv⟩), trivial⟩) (by kernel_rfl) fun fr w78 hF hE hc => then_normal ?_)
       have hs := hs.ext hc
       have hM0 := hM0.ext hc
       refine (wp_if hF (b := ((rl1 == 0) || (!(Str.eqb x28 p0)))) rfl (fun hb => ?_) (fun hb => ?_))
       · replace h := iteT hb h
         have hs : Sep [BX b1 38 [I 0, I 0, I 0, I 0]] w78 S47 := Sep.pick [1] hs (by decide) rfl
         refine wp_seq (wp_text' ?_)
         refine from_pure 1 [(6, B b1 0), (107, .agg #[I 0, I 0, I 0, I 0])] hF (by kernel_rfl) fun fr hF => ?_
         refine q_storeBoxS 0 hs hM0 rfl [I 0, I 0, I 0, I 0] rfl hF rfl rfl (by kernel_rfl) rfl rfl rfl fun w79 S48 hs hp hF => ?_
         have hM0 := hM0.stp hp
         have hs : Sep [BX b1 38 [I 0, I 0, I 0, I 0]] w79 S48 := hs
         refine from_pure 1 [(6, B b1 0), (7, .bool false)] hF (by kernel_rfl) fun fr hF => ?_
         refine from_end rfl (then_normal ?_)
         have hrets := fun {σ : List (Nat × Value)} (h : σ = [(6, B b1 0), (7, .bool false)]) => (by subst h; exact (Rets.cell rfl ty38 (hs.bx 0 rfl) rfl rfl (Rets.tmp rfl Rets.nil)) : Rets Tryz.prog σ w79 [.cell 6 38, .tmp 7] [.agg #[I 0, I 0, I 0, I 0], .bool false])
         obtain rfl := Option.some.inj h
         exact wp_ret (then_ret (retG (rs := [.cell 6 38, .tmp 7]) rfl (hF.sub [(6, B b1 0), (7, .bool false)] (by kernel_rfl)) (hrets rfl) rfl ⟨_, rfl, rfl, hM0.chg⟩))
       replace h := iteF hb h
       refine (wp_skip (then_normal ?_))
       refine wp_seq (wp_text' ?_)
       refine s_loadBoxS ty38 rfl rfl hF rfl (hs.bx 0 rfl) rfl rfl fun fr hF => ?_
       have hs : Sep [BX b1 38 [I 0, I 0, I 0, I 0]] w78 S47 := Sep.pick [1] hs (by decide) rfl
       refine q_storeBoxS 0 hs hM0 rfl [I rl1, I 0, I 0, I 0] rfl hF rfl rfl (by kernel_rfl) rfl rfl rfl fun w80 S49 hs hp hF => ?_
       have hM0 := hM0.stp hp
       have hs : Sep [BX b1 38 [I rl1, I 0, I 0, I 0]] w80 S49 := hs
       refine from_pure 1 [(6, B b1 0), (7, .bool true)] hF (by kernel_rfl) fun fr hF => ?_
       refine from_end rfl (then_normal ?_)
       have hrets := fun {σ : List (Nat × Value)} (h : σ = [(6, B b1 0), (7, .bool true)]) => (by subst h; exact (Rets.cell rfl ty38 (hs.bx 0 rfl) rfl rfl (Rets.tmp rfl Rets.nil)) : Rets Tryz.prog σ w80 [.cell 6 38, .tmp 7] [.agg #[I rl1, I 0, I 0, I 0], .bool true])
       obtain rfl := Option.some.inj h
       exact wp_ret (retG (rs := [.cell 6 38, .tmp 7]) rfl (hF.sub [(6, B b1 0), (7, .bool true)] (by kernel_rfl)) (hrets rfl) rfl ⟨_, rfl, rfl, hM0.chg⟩)
     replace h := iteF hb h
     refine (wp_skip (then_normal ?_))
     refine wp_seq ?_
     obtain ⟨x29, hx29, h⟩ := bindE h
     refine wp_seq (region_b [] [true, false, true, true, false, true, true, false, true, true, true]
         [.eq (B b2 0), .eq (I rl1), .eq (.bool (rl1 == 0)), .eq (.bool (rl1 == 0)), .eq (.agg #[I rl1, I 0, I 0, I 0]), .eq (I p1), .eq (I p2), .eq (Str.val x29), .eq (Str.val p0), .eq (.bool (!(Str.eqb x29 p0))), .eq (.bool ((rl1 == 0) || (!(Str.eqb x29 p0))))]
         [(6, B b1 0), (9, B b2 0), (106, .bool ((rl1 == 0) || (!(Str.eqb x29 p0))))] mix hF (by kernel_rfl) (by kernel_rfl) (by kernel_rfl) ⟨Pd.mono_eq, Pd.mono_eq, Pd.mono_eq, trivial⟩ (fun hG => ⟨np_loadBox hG hF ty3 rfl rfl (hs.bx 0 rfl) rfl rfl rfl, np_loadBoxS hG hF ty38 rfl rfl (hs.bx 0 rfl) rfl rfl rfl rfl, np_call [.agg #[I rl1, I 0, I 0, I 0], I p1, I p2] hG hF Tryz.call30 rfl rfl (fun w hC hg => (spec_FormatIns_ok n (D.Ins.mk rl1 0 0 0) p1 p2 (iteF hg.2 hx29)).mono fun e w' ⟨v, he, hv, hc⟩ => ⟨v, he, hc, hv⟩), trivial⟩) (by kernel_rfl) fun fr w81 hF hE hc => then_normal ?_)
     have hs := hs.ext hc
     have hM0 := hM0.ext hc
     refine (wp_if hF (b := ((rl1 == 0) || (!(Str.eqb x29 p0)))) rfl (fun hb => ?_) (fun hb => ?_))
     · replace h := iteT hb h
       have hs : Sep [BX b1 38 [I 0, I 0, I 0, I 0]] w81 S46 := Sep.pick [1] hs (by decide) rfl
       refine wp_seq (wp_text' ?_)
       refine from_pure 1 [(6, B b1 0), (107, .agg #[I 0, I 0, I 0, I 0])] hF (by kernel_rfl) fun fr hF => ?_
       refine q_storeBoxS 0 hs hM0 rfl [I 0, I 0, I 0, I 0] rfl hF rfl rfl (by kernel_rfl) rfl rfl rfl fun w82 S50 hs hp hF => ?_
       have hM0 := hM0.stp hp
       have hs : Sep [BX b1 38 [I 0, I 0, I 0, I 0]] w82 S50 := hs
       refine from_pure 1 [(6, B b1 0), (7, .bool false)] hF (by kernel_rfl) fun fr hF => ?_
       refine from_end rfl (then_normal ?_)
       have hrets := fun {σ : List (Nat × Value)} (h : σ = [(6, B b1 0), (7, .bool false)]) => (by subst h; exact (Rets.cell rfl ty38 (hs.bx 0 rfl) rfl rfl (Rets.tmp rfl Rets.nil)) : Rets Tryz.prog σ w82 [.cell 6 38, .tmp 7] [.agg #[I 0, I 0, I 0, I 0], .bool false])
       obtain rfl := Option.some.inj h
       exact wp_ret (then_ret (retG (rs := [.cell 6 38, .tmp 7]) rfl (hF.sub [(6, B b1 0), (7, .bool false)] (by kernel_rfl)) (hrets rfl) rfl ⟨_, rfl, rfl, hM0.chg⟩))
     replace h := iteF hb h
     refine (wp_skip (then_normal ?_))
     refine wp_seq (wp_text' ?_)
     refine s_loadBoxS ty38 rfl rfl hF rfl (hs.bx 0 rfl) rfl rfl fun fr hF => ?_
     have hs : Sep [BX b1 38 [I 0, I 0, I 0, I 0]] w81 S46 := Sep.pick [1] hs (by decide) rfl
     refine q_storeBoxS 0 hs hM0 rfl [I rl1, I 0, I 0, I 0] rfl hF rfl rfl (by kernel_rfl) rfl rfl rfl fun w83 S51 hs hp hF => ?_
     have hM0 := hM0.stp hp
     have hs : Sep [BX b1 38 [I rl1, I 0, I 0, I 0]] w83 S51 := hs
     refine from_pure 1 [(6, B b1 0), (7, .bool true)] hF (by kernel_rfl) fun fr hF => ?_
     refine from_end rfl (then_normal ?_)
     have hrets := fun {σ : List (Nat × Value)} (h : σ = [(6, B b1 0), (7, .bool true)]) => (by subst h; exact (Rets.cell rfl ty38 (hs.bx 0 rfl) rfl rfl (Rets.tmp rfl Rets.nil)) : Rets Tryz.prog σ w83 [.cell 6 38, .tmp 7] [.agg #[I rl1, I 0, I 0, I 0], .bool true])
     obtain rfl := Option.some.inj h
     exact wp_ret (retG (rs := [.cell 6 38, .tmp 7]) rfl (hF.sub [(6, B b1 0), (7, .bool true)] (by kernel_rfl)) (hrets rfl) rfl ⟨_, rfl, rfl, hM0.chg⟩)
   replace h := iteF hb h
   refine (wp_skip (then_normal ?_))
   refine wp_seq ?_
   refine wp_seq (region_b [] [true, false, true, true, true, false, true, true]
       [.eq (B b2 0), .eq (I rl1), .eq (.bool (rl1 == 9)), .eq (.bool (rl1 == 9)), .eq (B b2 0), .eq (I rl1), .eq (.bool (rl1 == 11)), .eq (.bool ((rl1 == 9) || (rl1 == 11)))]
       [(0, Str.val p0), (1, I p1), (2, I p2), (6, B b1 0), (9, B b2 0), (94, .bool ((rl1 == 9) || (rl1 == 11)))] mix hF (by kernel_rfl) (by kernel_rfl) (by kernel_rfl) ⟨Pd.mono_eq, Pd.mono_eq, trivial⟩ (fun hG => ⟨np_loadBox hG hF ty3 rfl rfl (hs.bx 0 rfl) rfl rfl rfl, np_loadBox hG hF ty3 rfl rfl (hs.bx 0 rfl) rfl rfl rfl, trivial⟩) (by kernel_rfl) fun fr w84 hF hE hc => then_normal ?_)
   have hs := hs.ext hc
   have hM0 := hM0.ext hc
   refine (wp_if hF (b := ((rl1 == 9) || (rl1 == 11))) rfl (fun hb => ?_) (fun hb => ?_))
   · replace h := iteT hb h
     refine (wp_text' ?_)
     refine from_pure 1 [(0, Str.val p0), (1, I p1), (2, I p2), (6, B b1 0), (9, B b2 0), (95, B b2 1)] hF (by kernel_rfl) fun fr hF => ?_
     refine q_storeBox 0 hs hM0 rfl [I rl1, I 0, I 0, I 0] rfl hF rfl rfl (by kernel_rfl) rfl rfl rfl fun w85 S52 hs hp hF => ?_
     have hM0 := hM0.stp hp
     have hs : Sep [BX b2 38 [I rl1, I 0, I 0, I 0], BX b1 38 [I 0, I 0, I 0, I 0]] w85 S52 := hs
     refine from_end rfl (then_normal ?_)
     refine wp_seq ?_
     obtain ⟨x30, hx30, h⟩ := bindE h
     refine wp_seq (region_b [] [true, false, true, true, false, true, true, false, true, true, true]
         [.eq (B b2 0), .eq (I rl1), .eq (.bool (rl1 == 0)), .eq (.bool (rl1 == 0)), .eq (.agg #[I rl1, I 0, I 0, I 0]), .eq (I p1), .eq (I p2), .eq (Str.val x30), .eq (Str.val p0), .eq (.bool (!(Str.eqb x30 p0))), .eq (.bool ((rl1 == 0) || (!(Str.eqb x30 p0))))]
         [(6, B b1 0), (9, B b2 0), (106, .bool ((rl1 == 0) || (!(Str.eqb x30 p0))))] mix hF (by kernel_rfl) (by kernel_rfl) (by kernel_rfl) ⟨Pd.mono_eq, Pd.mono_eq, Pd.mono_eq, trivial⟩ (fun hG => ⟨np_loadBox hG hF ty3 rfl rfl (hs.bx 0 rfl) rfl rfl rfl, np_loadBoxS hG hF ty38 rfl rfl (hs.bx 0 rfl) rfl rfl rfl rfl, np_call [.agg #[I rl1, I 0, I 0, I 0], I p1, I p2] hG hF Tryz.call30 rfl rfl (fun w hC hg => (spec_FormatIns_ok n (D.Ins.mk rl1 0 0 0) p1 p2 (iteF hg.2 hx30)).mono fun e w' ⟨v, he, hv, hc⟩ => ⟨v, he, hc, hv⟩), trivial⟩) (by kernel_rfl) fun fr w86 hF hE hc => then_normal ?_)
     have hs := hs.ext hc
     have hM0 := hM0.ext hc
     refine (wp_if hF (b := ((rl1 == 0) || (!(Str.eqb x30 p0)))) rfl (fun hb => ?_) (fun hb => ?_))
     · replace h := iteT hb h
       have hs : Sep [BX b1 38 [I 0, I 0, I 0, I 0]] w86 S52 := Sep.pick [1] hs (by decide) rfl
       refine wp_seq (wp_text' ?_)
       refine from_pure 1 [(6, B b1 0), (107, .agg #[I 0, I 0, I 0, I 0])] hF (by kernel_rfl) fun fr hF => ?_
       refine q_storeBoxS 0 hs hM0 rfl [I 0, I 0, I 0, I 0] rfl hF rfl rfl (by kernel_rfl) rfl rfl rfl fun w87 S53 hs hp hF => ?_
       have hM0 := hM0.stp hp
       have hs : Sep [BX b1 38 [I 0, I 0, I 0, I 0]] w87 S53 := hs
       refine from_pure 1 [(6, B b1 0), (7, .bool false)] hF (by kernel_rfl) fun fr hF => ?_
       refine from_end rfl (then_normal ?_)
       have hrets := fun {σ : List (Nat × Value)} (h : σ = [(6, B b1 0), (7, .bool false)]) => (by subst h; exact (Rets.cell rfl ty38 (hs.bx 0 rfl) rfl rfl (Rets.tmp rfl Rets.nil)) : Rets Tryz.prog σ w87 [.cell 6 38, .tmp 7] [.agg #[I 0, I 0, I 0, I 0], .bool false])
       obtain rfl := Option.some.inj h
       exact wp_ret (then_ret (retG (rs := [.cell 6 38, .tmp 7]) rfl (hF.sub [(6, B b1 0), (7, .bool false)] (by kernel_rfl)) (hrets rfl) rfl ⟨_, rfl, rfl, hM0.chg⟩))
     replace h := iteF hb h
     refine (wp_skip (then_normal ?_))
     refine wp_seq (wp_text' ?_)
     refine s_loadBoxS ty38 rfl rfl hF rfl (hs.bx 0 rfl) rfl rfl fun fr hF => ?_
     have hs : Sep [BX b1 38 [I 0, I 0, I 0, I 0]] w86 S52 := Sep.pick [1] hs (by decide) rfl
     refine q_storeBoxS 0 hs hM0 rfl [I rl1, I 0, I 0, I 0] rfl hF rfl rfl (by kernel_rfl) rfl rfl rfl fun w88 S54 hs hp hF => ?_
     have hM0 := hM0.stp hp
     have hs : Sep [BX b1 38 [I rl1, I 0, I 0, I 0]] w88 S54 := hs
     refine from_pure 1 [(6, B b1 0), (7, .bool true)] hF (by kernel_rfl) fun fr hF => ?_
     refine from_end rfl (then_normal ?_)
     have hrets := fun {σ : List (Nat × Value)} (h : σ = [(6, B b1 0), (7, .bool true)]) => (by subst h; exact (Rets.cell rfl ty38 (hs.bx 0 rfl) rfl rfl (Rets.tmp rfl Rets.nil)) : Rets Tryz.prog σ w88 [.cell 6 38, .tmp 7] [.agg #[I rl1, I 0, I 0, I 0], .bool true])
     obtain rfl := Option.some.inj h
     exact wp_ret (retG (rs := [.cell 6 38, .tmp 7]) rfl (hF.sub [(6, B b1 0), (7, .bool true)] (by kernel_rfl)) (hrets rfl) rfl ⟨_, rfl, rfl, hM0.chg⟩)
   replace h := iteF hb h
   refine (wp_skip (then_normal ?_))
   refine wp_seq ?_
   obtain ⟨x31, hx31, h⟩ := bindE h
   refine wp_seq (region_b [] [true, false, true, true, false, true, true, false, true, true, true]
       [.eq (B b2 0), .eq (I rl1), .eq (.bool (rl1 == 0)), .eq (.bool (rl1 == 0)), .eq (.agg #[I rl1, I 0, I 0, I 0]), .eq (I p1), .eq (I p2), .eq (Str.val x31), .eq (Str.val p0), .eq (.bool (!(Str.eqb x31 p0))), .eq (.bool ((rl1 == 0) || (!(Str.eqb x31 p0))))]
       [(6, B b1 0), (9, B b2 0), (106, .bool ((rl1 == 0) || (!(Str.eqb x31 p0))))] mix hF (by kernel_rfl) (by kernel_rfl) (by kernel_rfl) ⟨Pd.mono_eq, Pd.mono_eq, Pd.mono_eq, trivial⟩ (fun hG => ⟨np_loadBox hG hF ty3 rfl rfl (hs.bx 0 rfl) rfl rfl rfl, np_loadBoxS hG hF ty38 rfl rfl (hs.bx 0 rfl) rfl rfl rfl rfl, np_call [.agg #[I rl1, I 0, I 0, I 0], I p1, I p2] hG hF Tryz.call30 rfl rfl (fun w hC hg => (spec_FormatIns_ok n (D.Ins.mk rl1 0 0 0) p1 p2 (iteF hg.2 hx31)).mono fun e w' ⟨v, he, hv, hc⟩ => ⟨v, he, hc, hv⟩), trivial⟩) (by kernel_rfl) fun fr w89 hF hE hc => then_normal ?_)
   have hs := hs.ext hc
   have hM0 := hM0.ext hc
   refine (wp_if hF (b := ((rl1 == 0) || (!(Str.eqb x31 p0)))) rfl (fun hb => ?_) (fun hb => ?_))
   · replace h := iteT hb h
     have hs : Sep [BX b1 38 [I 0, I 0, I 0, I 0]] w89 S7 := Sep.pick [1] hs (by decide) rfl
     refine wp_seq (wp_text' ?_)
     refine from_pure 1 [(6, B b1 0), (107, .agg #[I 0, I 0, I 0, I 0])] hF (by kernel_rfl) fun fr hF => ?_
     refine q_storeBoxS 0 hs hM0 rfl [I 0, I 0, I 0, I 0] rfl hF rfl rfl (by kernel_rfl) rfl rfl rfl fun w90 S55 hs hp hF => ?_
     have hM0 := hM0.stp hp
     have hs : Sep [BX b1 38 [I 0, I 0, I 0, I 0]] w90 S55 := hs
     refine from_pure 1 [(6, B b1 0), (7, .bool false)] hF (by kernel_rfl) fun fr hF => ?_
     refine from_end rfl (then_normal ?_)
     have hrets := fun {σ : List (Nat × Value)} (h : σ = [(6, B b1 0), (7, .bool false)]) => (by subst h; exact (Rets.cell rfl ty38 (hs.bx 0 rfl) rfl rfl (Rets.tmp rfl Rets.nil)) : Rets Tryz.prog σ w90 [.cell 6 38, .tmp 7] [.agg #[I 0, I 0, I 0, I 0], .bool false])
     obtain rfl := Option.some.inj h
     exact wp_ret (then_ret (retG (rs := [.cell 6 38, .tmp 7]) rfl (hF.sub [(6, B b1 0), (7, .bool false)] (by kernel_rfl)) (hrets rfl) rfl ⟨_, rfl, rfl, hM0.chg⟩))
   replace h := iteF hb h
   refine (wp_skip (then_normal ?_))
   refine wp_seq (wp_text' ?_)
   refine s_loadBoxS ty38 rfl rfl hF rfl (hs.bx 0 rfl) rfl rfl fun fr hF => ?_
   have hs : Sep [BX b1 38 [I 0, I 0, I 0, I 0]] w89 S7 := Sep.pick [1] hs (by decide) rfl
   refine q_storeBoxS 0 hs hM0 rfl [I rl1, I 0, I 0, I 0] rfl hF rfl rfl (by kernel_rfl) rfl rfl rfl fun w91 S56 hs hp hF => ?_
   have hM0 := hM0.stp hp
   have hs : Sep [BX b1 38 [I rl1, I 0, I 0, I 0]] w91 S56 := hs
   refine from_pure 1 [(6, B b1 0), (7, .bool true)] hF (by kernel_rfl) fun fr hF => ?_
   refine from_end rfl (then_normal ?_)
   have hrets := fun {σ : List (Nat × Value)} (h : σ = [(6, B b1 0), (7, .bool true)]) => (by subst h; exact (Rets.cell rfl ty38 (hs.bx 0 rfl) rfl rfl (Rets.tmp rfl Rets.nil)) : Rets Tryz.prog σ w91 [.cell 6 38, .tmp 7] [.agg #[I rl1, I 0, I 0, I 0], .bool true])
   obtain rfl := Option.some.inj h
   exact wp_ret (retG (rs := [.cell 6 38, .tmp 7]) rfl (hF.sub [(6, B b1 0), (7, .bool true)] (by kernel_rfl)) (hrets rfl) rfl ⟨_, rfl, rfl, hM0.chg⟩)

theorem spec_ProgramOk_ok (n : Nat) (p0 : D.Program) {r : Bool} (h : spec_ProgramOk n p0 = some r) {w : World} {G0 : Nat → Prop} {va0 : Value} (ra0 : RV w G0 va0 p0) :
   Calls Tryz.prog 15 [va0].toArray w fun e w' => ∃ v, e = .returned v ∧ v = .bool r ∧ Chg Non w w' := by
 unfold spec_ProgramOk at h
 have hs := Sep.nil w Non
 have hM0 : Mem w Non (fun k => (G0 k) ∧ k < w.heap.size) w Non (fun k => (G0 k) ∧ k < w.heap.size) := Mem.start (fun _ h => h.elim) (fun _ h => h.2) (fun _ h => h.elim)
 have ra0 := ra0.sub (F' := (fun k => (G0 k) ∧ k < w.heap.size)) (fun k hk h => ⟨h, hk⟩)
 obtain ⟨v1, rfl, r1⟩ := RV.Program ra0
 obtain ⟨a1, c1, rfl, -⟩ := r1.slice
 refine enter (N := 52) Tryz.func15 rfl Tryz.ntmps15 rfl fun fr hF => ?_
 refine wp_seq (wp_text' ?_)
 refine q_box hs hM0 [I p0.W, I p0.Mem, I p0.In, L a1 p0.Code c1] rfl rfl hF rfl rfl fun b1 w1 S1 fr hs hp hF => ?_
 have r1 := r1.stp hM0 hp
 have hM0 := hM0.stp hp
 have hs : Sep [BX b1 24 [I p0.W, I p0.Mem, I p0.In, L a1 p0.Code c1]] w1 S1 := hs
 refine from_pure 1 [(1, B b1 0)] hF (by kernel_rfl) fun fr hF => ?_
 refine from_end rfl (then_normal ?_)
 refine wp_seq ?_
 obtain ⟨x1, hx1, h⟩ := bindE h
 obtain ⟨x2, hx2, h⟩ := bindE h
 obtain ⟨x3, hx3, h⟩ := bindE h
 obtain ⟨x4, hx4, h⟩ := bindE h
 obtain ⟨x5, hx5, h⟩ := bindE h
 refine wp_seq (region_b [] [true, false, false, true, true, true, false, false, true, true, true, true, false, true, false, false, true, true, true, true, false, false, true, true, true, true, false, true, false, true, true]
     (.eq (B b1 0) :: .eq (I p0.W) :: .eq (.bool x1) :: .eq (.bool (!x1)) :: .eq (.bool (!x1)) :: .eq (B b1 1) :: .eq (I p0.Mem) :: .eq (.bool x2) :: .eq (.bool (!x2)) :: .eq (.bool ((!x1) || (!x2))) :: .eq (.bool ((!x1) || (!x2))) :: .eq (B b1 0) :: .eq (I p0.W) :: .eq (B b1 1) :: .eq (I p0.Mem) :: .eq (.bool x3) :: .eq (.bool (!x3)) :: .eq (.bool (((!x1) || (!x2)) || (!x3))) :: .eq (.bool (((!x1) || (!x2)) || (!x3))) :: .eq (B b1 2) :: .eq (I p0.In) :: .eq (.bool x4) :: .eq (.bool (!x4)) :: .eq (.bool ((((!x1) || (!x2)) || (!x3)) || (!x4))) :: .eq (.bool ((((!x1) || (!x2)) || (!x3)) || (!x4))) :: .eq (B b1 3) :: .eq (L a1 p0.Code c1) :: .eq (I (len p0.Code)) :: .eq (.bool x5) :: .eq (.bool (!x5)) :: .eq (.bool (((((!x1) || (!x2)) || (!x3)) || (!x4)) || (!x5))) :: [])
     [(1, B b1 0), (35, .bool (((((!x1) || (!x2)) || (!x3)) || (!x4)) || (!x5)))] mix hF (by kernel_rfl) (by kernel_rfl) (by kernel_rfl) ⟨Pd.mono_eq, Pd.mono_eq, Pd.mono_eq, Pd.mono_eq, Pd.mono_eq, Pd.mono_eq, Pd.mono_eq, Pd.mono_eq, Pd.mono_eq, Pd.mono_eq, Pd.mono_eq, trivial⟩ (fun hG => ⟨np_loadBox hG hF ty3 rfl rfl (hs.bx 0 rfl) rfl rfl rfl, np_call [I p0.W, I 2, I 8] hG hF Tryz.call10 rfl rfl (fun w hC hg => (spec_l01In_ok p0.W 2 8 hx1).mono fun e w' ⟨v, he, hv, hc⟩ => ⟨v, he, hc, hv⟩), np_loadBox hG hF ty3 rfl rfl (hs.bx 0 rfl) rfl rfl rfl, np_call [I p0.Mem, I 1, I 6] hG hF Tryz.call10 rfl rfl (fun w hC hg => (spec_l01In_ok p0.Mem 1 6 (iteF hg.2 hx2)).mono fun e w' ⟨v, he, hv, hc⟩ => ⟨v, he, hc, hv⟩), np_loadBox hG hF ty3 rfl rfl (hs.bx 0 rfl) rfl rfl rfl, np_loadBox hG hF ty3 rfl rfl (hs.bx 0 rfl) rfl rfl rfl, np_call [I p0.W, I p0.Mem] hG hF Tryz.call31 rfl rfl (fun w hC hg => (spec_WordOk_ok p0.W p0.Mem (iteF hg.2 hx3)).mono fun e w' ⟨v, he, hv, hc⟩ => ⟨v, he, hc, hv⟩), np_loadBox hG hF ty3 rfl rfl (hs.bx 0 rfl) rfl rfl rfl, np_call [I p0.In, I 0, I 3] hG hF Tryz.call10 rfl rfl (fun w hC hg => (spec_l01In_ok p0.In 0 3 (iteF hg.2 hx4)).mono fun e w' ⟨v, he, hv, hc⟩ => ⟨v, he, hc, hv⟩), np_loadBox hG hF ty22 rfl rfl (hs.bx 0 rfl) rfl rfl rfl, np_call [I (len p0.Code), I 1, I 40] hG hF Tryz.call10 rfl rfl (fun w hC hg => (spec_l01In_ok (len p0.Code) 1 40 (iteF hg.2 hx5)).mono fun e w' ⟨v, he, hv, hc⟩ => ⟨v, he, hc, hv⟩), trivial⟩) (by kernel_rfl) fun fr w2 hF hE hc => then_normal ?_)
 have r1 := r1.ext hc
 have hs := hs.ext hc
 have hM0 := hM0.ext hc
 refine (wp_if hF (b := (((((!x1) || (!x2)) || (!x3)) || (!x4)) || (!x5))) rfl (fun hb => ?_) (fun hb => ?_))
 · replace h := iteT hb h
   have hs : Sep [] w2 S1 := Sep.pick [] hs (by decide) rfl
   refine wp_seq (wp_pure [(2, .bool false)] hF (by kernel_rfl) fun fr hF => then_normal ?_)
   obtain rfl := Option.some.inj h
   exact wp_ret (then_ret (ret1 rfl hF rfl ⟨_, rfl, rfl, hM0.chg⟩))
 replace h := iteF hb h
 refine (wp_skip (then_normal ?_))
 refine wp_seq ?_
 refine wp_seq (wp_text' ?_)
 refine from_pure 1 [(1, B b1 0), (36, B b1 3)] hF (by kernel_rfl) fun fr hF => ?_
 refine s_loadBox (L a1 p0.Code c1) ty22 rfl rfl hF rfl (hs.bx 0 rfl) rfl rfl fun fr hF => ?_
 refine from_pure 2 [(1, B b1 0), (37, L a1 p0.Code c1), (38, I (len p0.Code)), (39, I 0)] hF (by kernel_rfl) fun fr hF => ?_
 refine from_end rfl (then_normal ?_)
 obtain ⟨rl1, hit1, h⟩ := bindE h
 have hk1 := h
 refine (GL.wp_cut (M := fun fr w' => ∃ s, rl1 = .inl s ∧ ∃ S3 F2, FrS 52 [] fr ∧ Mem w2 S1 (fun k => (G0 k) ∧ k < w.heap.size) w' S3 F2 ∧ Sep [] w' S3) (wp_block (wp_iter (Inv := fun s1 fr w' => ∃ S2 F1, FrS 52 [(1, B b1 0), (37, L a1 p0.Code c1), (38, I (len p0.Code)), (39, I s1)] fr ∧ Mem w2 S1 (fun k => (G0 k) ∧ k < w.heap.size) w' S2 F1 ∧ Sep [BX b1 24 [I p0.W, I p0.Mem, I p0.In, L a1 p0.Code c1]] w' S2) hit1 ⟨S1, _, hF.sub _ (by kernel_rfl), (Mem.start hM0.bd hM0.bdF hM0.dj), hs⟩ fun s1 q1 fr w1i hI h hr1 => ?_)) fun fr w1o hM => ?_)
 · obtain ⟨S2, F1, hF, hM1, hs⟩ := hI
   have r1 := r1.mem hM1
   refine wp_seq (wp_pure [(1, B b1 0), (37, L a1 p0.Code c1), (38, I (len p0.Code)), (39, I s1), (40, .bool (decide (s1 < (len p0.Code))))] hF (by kernel_rfl) fun fr hF => then_normal ?_)
   refine wp_seq (wp_if hF (b := (decide (s1 < (len p0.Code)))) rfl (fun hb => ?_) (fun hb => ?_))
   · replace h := iteT hb h
     refine (wp_skip (then_normal ?_))
     refine wp_seq (wp_block ?_)
     refine wp_seq (wp_text' ?_)
     obtain ⟨x6, hx6, h⟩ := bindE h
     refine s_elemF (z := x6) (.agg #[I x6.Op, I x6.A, I x6.B, I x6.C]) ty38 Tryz.underlying22 rfl rfl rfl rfl rfl hF rfl (r1) rfl (get?_nn hx6) (get?_at hx6) rfl fun p fr hF => ?_
     refine q_alloc (z := .agg #[I 0, I 0, I 0, I 0]) hs hM1 [I 0, I 0, I 0, I 0] rfl rfl hF (by kernel_rfl) rfl fun b2 w3 S4 fr hs hp hF => ?_
     have r1 := r1.stp hM1 hp
     have hM1 := hM1.stp hp
     have hs : Sep [BX b2 38 [I 0, I 0, I 0, I 0], BX b1 24 [I p0.W, I p0.Mem, I p0.In, L a1 p0.Code c1]] w3 S4 := hs
     refine q_storeBoxS 0 hs hM1 rfl [I x6.Op, I x6.A, I x6.B, I x6.C] rfl hF rfl rfl (by kernel_rfl) rfl rfl rfl fun w4 S5 hs hp hF => ?_
     have r1 := r1.stp hM1 hp
     have hM1 := hM1.stp hp
     have hs : Sep [BX b2 38 [I x6.Op, I x6.A, I x6.B, I x6.C], BX b1 24 [I p0.W, I p0.Mem, I p0.In, L a1 p0.Code c1]] w4 S5 := hs
     refine from_end rfl (then_normal ?_)
     refine wp_seq (wp_text' ?_)
     refine s_loadBoxS ty38 rfl rfl hF rfl (hs.bx 0 rfl) rfl rfl fun fr hF => ?_
     have hs : Sep [BX b1 24 [I p0.W, I p0.Mem, I p0.In, L a1 p0.Code c1]] w4 S5 := Sep.pick [1] hs (by decide) rfl
     refine from_pure 1 [(1, B b1 0), (37, L a1 p0.Code c1), (38, I (len p0.Code)), (39, I s1), (43, .agg #[I x6.Op, I x6.A, I x6.B, I x6.C]), (44, B b1 0)] hF (by kernel_rfl) fun fr hF => ?_
     refine s_loadBox (I p0.W) ty3 rfl rfl hF rfl (hs.bx 0 rfl) rfl rfl fun fr hF => ?_
     refine from_pure 1 [(1, B b1 0), (37, L a1 p0.Code c1), (38, I (len p0.Code)), (39, I s1), (43, .agg #[I x6.Op, I x6.A, I x6.B, I x6.C]), (45, I p0.W), (46, B b1 3)] hF (by kernel_rfl) fun fr hF => ?_
     refine s_loadBox (L a1 p0.Code c1) ty22 rfl rfl hF rfl (hs.bx 0 rfl) rfl rfl fun fr hF => ?_
     refine from_pure 1 [(1, B b1 0), (37, L a1 p0.Code c1), (38, I (len p0.Code)), (39, I s1), (43, .agg #[I x6.Op, I x6.A, I x6.B, I x6.C]), (45, I p0.W), (48, I (len p0.Code))] hF (by kernel_rfl) fun fr hF => ?_
     obtain ⟨x7, hx7, h⟩ := bindE h
     refine s_call [.agg #[I x6.Op, I x6.A, I x6.B, I x6.C], I p0.W, I (len p0.Code)] Tryz.call32 rfl rfl hF rfl (spec_l05Ins_ok x6 p0.W (len p0.Code) hx7) fun v w5 fr hRes hF => ?_
     obtain ⟨rfl, hc⟩ := hRes
     have r1 := r1.ext hc
     have hs := hs.ext hc
     have hM1 := hM1.ext hc
     refine from_pure 1 [(1, B b1 0), (37, L a1 p0.Code c1), (38, I (len p0.Code)), (39, I s1), (50, .bool (!x7))] hF (by kernel_rfl) fun fr hF => ?_
     refine from_end rfl (then_normal ?_)
     refine (wp_if hF (b := (!x7)) rfl (fun hb => ?_) (fun hb => ?_))
     · replace h := iteT hb h
       have hs : Sep [] w5 S5 := Sep.pick [] hs (by decide) rfl
       refine wp_seq (wp_pure [(2, .bool false)] hF (by kernel_rfl) fun fr hF => then_normal ?_)
       obtain rfl := hr1 _ (Option.some.inj h).symm
       obtain rfl := Option.some.inj hk1
       exact wp_ret (blk_ret (then_ret (then_ret (blk_ret (then_ret (ret1 rfl hF rfl ⟨_, rfl, rfl, (hM0.trans hM1).chg⟩))))))
     replace h := iteF hb h
     refine (wp_skip ?_)
     refine blk_normal (then_normal ?_)
     refine (wp_pure [(1, B b1 0), (37, L a1 p0.Code c1), (38, I (len p0.Code)), (39, I (w64 (s1 + 1)))] hF (by kernel_rfl) fun fr hF => then_normal ?_)
     exact ⟨_, (Option.some.inj h).symm, S5, _, hF.sub _ (by kernel_rfl), hM1, hs⟩
   replace h := iteF hb h
   have hs : Sep [] w1i S2 := Sep.pick [] hs (by decide) rfl
   refine (wp_exit (then_exit (then_exit (blk_exit_eq ?_))))
   obtain rfl := hr1 _ (Option.some.inj h).symm
   exact then_normal ⟨_, rfl, S2, _, hF.sub _ (by kernel_rfl), hM1, hs⟩
 · obtain ⟨s1r, rfl, hM⟩ := hM
   obtain ⟨S3, F2, hF, hMx, hs⟩ := hM
   have hM0 := hM0.trans hMx
   refine wp_seq (wp_pure [(2, .bool true)] hF (by kernel_rfl) fun fr hF => then_normal ?_)
   obtain rfl := Option.some.inj h
   exact wp_ret (ret1 rfl hF rfl ⟨_, rfl, rfl, hM0.chg⟩)

theorem spec_FormatInts_ok (n : Nat) (p0 : List Int) {r : Str} (h : spec_FormatInts n p0 = some r) {w : World} {G0 : Nat → Prop} {va0 : Value} (ra0 : RV w G0 va0 p0) :
   Calls Tryz.prog 33 [va0].toArray w fun e w' => ∃ v, e = .returned v ∧ v = Str.val r ∧ Chg Non w w' := by
 unfold spec_FormatInts at h
 have hs := Sep.nil w Non
 have hM0 : Mem w Non (fun k => (G0 k) ∧ k < w.heap.size) w Non (fun k => (G0 k) ∧ k < w.heap.size) := Mem.start (fun _ h => h.elim) (fun _ h => h.2) (fun _ h => h.elim)
 have ra0 := ra0.sub (F' := (fun k => (G0 k) ∧ k < w.heap.size)) (fun k hk h => ⟨h, hk⟩)
 obtain ⟨a1, c1, rfl, -⟩ := ra0.slice
 refine enter (N := 21) Tryz.func33 rfl Tryz.ntmps33 rfl fun fr hF => ?_
 refine wp_seq (wp_pure [(0, L a1 p0 c1)] hF (by kernel_rfl) fun fr hF => then_normal ?_)
 refine wp_seq (wp_text' ?_)
 refine q_lit (E := 9) hs hM0 [] (([] : List Str).map Flat.enc) ([] : List Str) rfl rfl hF [] rfl (fun w => by kernel_rfl) (css_flat _) rfl rfl rfl fun a2 c2 w1 S1 fr hs hp hF => ?_
 have ra0 := ra0.stp hM0 hp
 have hM0 := hM0.stp hp
 have hs : Sep [sl9 (L a2 ([] : List Str) c2) ([] : List Str)] w1 S1 := hs
 refine from_pure 1 [(0, L a1 p0 c1), (3, L a2 ([] : List Str) c2)] hF (by kernel_rfl) fun fr hF => ?_
 refine from_end rfl (then_normal ?_)
 refine wp_seq ?_
 refine wp_seq (wp_pure [(3, L a2 ([] : List Str) c2), (7, L a1 p0 c1), (8, I (len p0)), (9, I 0)] hF (by kernel_rfl) fun fr hF => then_normal ?_)
 obtain ⟨rl1, hit1, h⟩ := bindE h
 have hk1 := h
 refine (GL.wp_cut (M := fun fr w' => ∃ a4 c4 S3 F2, FrS 21 [(3, L a4 rl1 c4)] fr ∧ Mem w1 S1 (fun k => (G0 k) ∧ k < w.heap.size) w' S3 F2 ∧ Sep [sl9 (L a4 rl1 c4) rl1] w' S3) (wp_block (wp_iter (Inv := fun s1 fr w' => ∃ a3 c3 S2 F1, FrS 21 [(3, L a3 s1.2 c3), (7, L a1 p0 c1), (8, I (len p0)), (9, I s1.1)] fr ∧ Mem w1 S1 (fun k => (G0 k) ∧ k < w.heap.size) w' S2 F1 ∧ Sep [sl9 (L a3 s1.2 c3) s1.2] w' S2) hit1 ⟨a2, c2, S1, _, hF.sub _ (by kernel_rfl), (Mem.start hM0.bd hM0.bdF hM0.dj), hs⟩ fun s1 q1 fr w1i hI h hr1 => ?_)) fun fr w1o hM => ?_)
 · obtain ⟨a3, c3, S2, F1, hF, hM1, hs⟩ := hI
   have ra0 := ra0.mem hM1
   refine wp_seq (wp_pure [(3, L a3 s1.2 c3), (7, L a1 p0 c1), (8, I (len p0)), (9, I s1.1), (10, .bool (decide (s1.1 < (len p0))))] hF (by kernel_rfl) fun fr hF => then_normal ?_)
   refine wp_seq (wp_if hF (b := (decide (s1.1 < (len p0)))) rfl (fun hb => ?_) (fun hb => ?_))
   · replace h := iteT hb h
     refine (wp_skip (then_normal ?_))
     refine wp_seq (wp_block ?_)
     refine wp_seq (wp_text' ?_)
     obtain ⟨x1, hx1, h⟩ := bindE h
     refine s_elemF (z := x1) (I x1) ty3 Tryz.underlying33 rfl rfl rfl rfl rfl hF rfl (ra0) rfl (get?_nn hx1) (get?_at hx1) rfl fun p fr hF => ?_
     refine from_pure 1 [(3, L a3 s1.2 c3), (5, I x1), (7, L a1 p0 c1), (8, I (len p0)), (9, I s1.1)] hF (by kernel_rfl) fun fr hF => ?_
     refine from_end rfl (then_normal ?_)
     refine (wp_text' ?_)
     refine from_pure 2 [(7, L a1 p0 c1), (8, I (len p0)), (9, I s1.1), (13, L a3 s1.2 c3), (14, I x1)] hF (by kernel_rfl) fun fr hF => ?_
     obtain ⟨x2, hx2, h⟩ := bindE h
     refine s_call [I x1] Tryz.call49 rfl rfl hF rfl (spec_FormatInt_ok n x1 hx2) fun v w2 fr hRes hF => ?_
     obtain ⟨rfl, hc⟩ := hRes
     have ra0 := ra0.ext hc
     have hs := hs.ext hc
     have hM1 := hM1.ext hc
     refine q_lit (E := 9) hs hM1 [Str.val x2] (([x2] : List Str).map Flat.enc) ([x2] : List Str) rfl rfl hF [Str.val x2] rfl (fun w => by kernel_rfl) (css_flat _) rfl rfl rfl fun a5 c5 w3 S4 fr hs hp hF => ?_
     have ra0 := ra0.stp hM1 hp
     have hM1 := hM1.stp hp
     have hs : Sep [sl9 (L a5 ([x2] : List Str) c5) ([x2] : List Str), sl9 (L a3 s1.2 c3) s1.2] w3 S4 := hs
     obtain ⟨x3, hx3, h⟩ := bindE h
     refine q_append 1 hs hM1 rfl Tryz.underlying30 el9 rfl rfl rfl hF rfl rfl (hs.rv 0 rfl) hx3 fun a6 c6 w4 S5 fr hs hp hF => ?_
     have ra0 := ra0.stp hM1 hp
     have hM1 := hM1.stp hp
     have hs : Sep [sl9 (L a5 ([x2] : List Str) c5) ([x2] : List Str), sl9 (L a6 x3 c6) x3] w4 S5 := hs
     have hs : Sep [sl9 (L a6 x3 c6) x3] w4 S5 := Sep.pick [1] hs (by decide) rfl
     refine from_pure 1 [(3, L a6 x3 c6), (7, L a1 p0 c1), (8, I (len p0)), (9, I s1.1)] hF (by kernel_rfl) fun fr hF => ?_
     refine from_end rfl ?_
     refine blk_normal (then_normal ?_)
     refine (wp_pure [(3, L a6 x3 c6), (7, L a1 p0 c1), (8, I (len p0)), (9, I (w64 (s1.1 + 1)))] hF (by kernel_rfl) fun fr hF => then_normal ?_)
     exact ⟨_, (Option.some.inj h).symm, a6, c6, S5, _, hF.sub _ (by kernel_rfl), hM1, hs⟩
   replace h := iteF hb h
   refine (wp_exit (then_exit (then_exit (blk_exit_eq ?_))))
   obtain rfl := hr1 _ (Option.some.inj h).symm
   exact then_normal ⟨a3, c3, S2, _, hF.sub _ (by kernel_rfl), hM1, hs⟩
 · obtain ⟨a4, c4, S3, F2, hF, hMx, hs⟩ := hM
   have hM0 := hM0.trans hMx
   refine wp_seq (wp_text' ?_)
   refine from_pure 1 [(19, L a4 rl1 c4)] hF (by kernel_rfl) fun fr hF => ?_
   obtain ⟨x4, hx4, h⟩ := bindE h
   refine s_call [L a4 rl1 c4, Str.val (⟨[32]⟩)] Tryz.call13 rfl rfl hF rfl (spec_Join_ok n rl1 (⟨[32]⟩) hx4 (hs.rv 0 rfl)) fun v w5 fr hRes hF => ?_
   obtain ⟨rfl, hc⟩ := hRes
   have hs := hs.ext hc
   have hM0 := hM0.ext hc
   have hs : Sep [] w5 S3 := Sep.pick [] hs (by decide) rfl
   refine from_pure 1 [(2, Str.val x4)] hF (by kernel_rfl) fun fr hF => ?_
   refine from_end rfl (then_normal ?_)
   obtain rfl := Option.some.inj h
   exact wp_ret (ret1 rfl hF rfl ⟨_, rfl, rfl, hM0.chg⟩)

theorem spec_FormatProgram_ok (n : Nat) (p0 : D.Program) {r : Str} (h : spec_FormatProgram n p0 = some r) {w : World} {G0 : Nat → Prop} {va0 : Value} (ra0 : RV w G0 va0 p0) :
   Calls Tryz.prog 16 [va0].toArray w fun e w' => ∃ v, e = .returned v ∧ v = Str.val r ∧ Chg Non w w' := by
 unfold spec_FormatProgram at h
 have hs := Sep.nil w Non
 have hM0 : Mem w Non (fun k => (G0 k) ∧ k < w.heap.size) w Non (fun k => (G0 k) ∧ k < w.heap.size) := Mem.start (fun _ h => h.elim) (fun _ h => h.2) (fun _ h => h.elim)
 have ra0 := ra0.sub (F' := (fun k => (G0 k) ∧ k < w.heap.size)) (fun k hk h => ⟨h, hk⟩)
 obtain ⟨v1, rfl, r1⟩ := RV.Program ra0
 obtain ⟨a1, c1, rfl, -⟩ := r1.slice
 refine enter (N := 42) Tryz.func16 rfl Tryz.ntmps16 rfl fun fr hF => ?_
 refine wp_seq (wp_text' ?_)
 refine q_box hs hM0 [I p0.W, I p0.Mem, I p0.In, L a1 p0.Code c1] rfl rfl hF rfl rfl fun b1 w1 S1 fr hs hp hF => ?_
 have r1 := r1.stp hM0 hp
 have hM0 := hM0.stp hp
 have hs : Sep [BX b1 24 [I p0.W, I p0.Mem, I p0.In, L a1 p0.Code c1]] w1 S1 := hs
 refine from_pure 1 [(1, B b1 0)] hF (by kernel_rfl) fun fr hF => ?_
 refine from_end rfl (then_normal ?_)
 refine wp_seq ?_
 refine wp_seq (wp_text' ?_)
 refine s_loadBoxS ty24 rfl rfl hF rfl (hs.bx 0 rfl) rfl rfl fun fr hF => ?_
 obtain ⟨x1, hx1, h⟩ := bindE h
 refine s_call [.agg #[I p0.W, I p0.Mem, I p0.In, L a1 p0.Code c1]] Tryz.call15 rfl rfl hF rfl (spec_ProgramOk_ok n p0 hx1 (RV.mk_Program p0 (r1))) fun v w2 fr hRes hF => ?_
 obtain ⟨rfl, hc⟩ := hRes
 have r1 := r1.ext hc
 have hs := hs.ext hc
 have hM0 := hM0.ext hc
 refine from_pure 1 [(1, B b1 0), (8, .bool (!x1))] hF (by kernel_rfl) fun fr hF => ?_
 refine from_end rfl (then_normal ?_)
 refine (wp_if hF (b := (!x1)) rfl (fun hb => ?_) (fun hb => ?_))
 · replace h := iteT hb h
   have hs : Sep [] w2 S1 := Sep.pick [] hs (by decide) rfl
   refine wp_seq (wp_pure [(2, Str.val (⟨[]⟩))] hF (by kernel_rfl) fun fr hF => then_normal ?_)
   obtain rfl := Option.some.inj h
   exact wp_ret (then_ret (ret1 rfl hF rfl ⟨_, rfl, rfl, hM0.chg⟩))
 replace h := iteF hb h
 refine (wp_skip (then_normal ?_))
 obtain ⟨x2, hx2, h⟩ := bindE h
 obtain ⟨x3, hx3, h⟩ := bindE h
 obtain ⟨x4, hx4, h⟩ := bindE h
 refine wp_seq (region_bm 13 [0, 1, 0, 4, 0, 16, 63, 127, 255, 0, 512, 2047, 4095] [true, false, true, false, true, false, false, false, false, false, false, false, true]
     [.eq (B b1 0), .eq (I p0.W), .eq (B b1 1), .eq (I p0.Mem), .eq (B b1 2), .eq (I p0.In), .is fun v w => RV w (fun k => k < w.heap.size) v ([p0.W, p0.Mem, p0.In] : List Int), .eq (Str.val x2), .eq (Str.val x3), .is fun v w => RV w (fun k => k < w.heap.size) v ([(Byt.mk 10)] : List Byt), .eq (Str.val (strOf ([(Byt.mk 10)] : List Byt))), .eq (Str.val x4), .eq (Str.val x4)]
     [(1, B b1 0), (3, Str.val x4)] mix hF (by kernel_rfl) (by kernel_rfl) (by kernel_rfl) (by kernel_rfl) ⟨Pd.monoO_eq, Pd.monoO_eq, Pd.monoO_eq, (Pd.monoO_is mono_rvb), Pd.monoO_eq, Pd.monoO_eq, (Pd.monoO_is mono_rvb), Pd.monoO_eq, Pd.monoO_eq, trivial⟩ (fun ow hG => ⟨np_to ow (np_loadBox hG hF ty3 rfl rfl (hs.bx 0 rfl) rfl rfl rfl), np_to ow (np_loadBox hG hF ty3 rfl rfl (hs.bx 0 rfl) rfl rfl rfl), np_to ow (np_loadBox hG hF ty3 rfl rfl (hs.bx 0 rfl) rfl rfl rfl), np_to ow (np_litI (E := 3) [I p0.W, I p0.Mem, I p0.In] (([p0.W, p0.Mem, p0.In] : List Int).map Flat.enc) ([p0.W, p0.Mem, p0.In] : List Int) hG hF rfl [I p0.W, I p0.Mem, I p0.In] rfl (fun w => by kernel_rfl) (fun w => css_flat _) rfl rfl rfl rfl), np_to ow (np_callI [.inr 6] hG hF Tryz.call33 rfl rfl (by kernel_rfl) (fun w vs hC hg ha => by obtain ⟨vq0, _, rfl, hq0, rfl⟩ := ha; exact (spec_FormatInts_ok n ([p0.W, p0.Mem, p0.In] : List Int) hx2 (show RV w (fun k => k < w.heap.size) vq0 ([p0.W, p0.Mem, p0.In] : List Int) from hq0)).mono fun e w' ⟨v, he, hv, hc⟩ => ⟨v, he, hc, hv⟩)), np_to ow (np_cat (s1 := (⟨[109, 97, 99, 104, 105, 110, 101, 32]⟩)) (s2 := x2) hG hF rfl rfl rfl (fun hg => hx3) rfl), np_to ow (np_litI (E := 5) [.int .u8 10] (([(Byt.mk 10)] : List Byt).map Flat.enc) ([(Byt.mk 10)] : List Byt) hG hF rfl [.int .u8 10] rfl (fun w => by kernel_rfl) (fun w => css_flat _) rfl rfl rfl rfl), np_to ow (np_bytesD (le := ([(Byt.mk 10)] : List Byt)) (i := 9) (s := 18) hG hF rfl rfl rfl rfl rfl Tryz.underlying55 Tryz.underlying5 Tryz.underlying9 rfl), np_to ow (np_cat (s1 := x3) (s2 := (strOf ([(Byt.mk 10)] : List Byt))) hG hF rfl rfl rfl (fun hg => hx4) rfl), trivial⟩) (by kernel_rfl) fun ow fr w3 hF hE hc => ?_)
 have r1 := r1.ext hc
 have hs := hs.ext hc
 have hM0 := hM0.ext hc
 refine from_end rfl (then_normal ?_)
 refine wp_seq ?_
 refine wp_seq (wp_text' ?_)
 refine from_pure 1 [(1, B b1 0), (3, Str.val x4), (21, B b1 3)] hF (by kernel_rfl) fun fr hF => ?_
 refine s_loadBox (L a1 p0.Code c1) ty22 rfl rfl hF rfl (hs.bx 0 rfl) rfl rfl fun fr hF => ?_
 refine from_pure 2 [(1, B b1 0), (3, Str.val x4), (22, L a1 p0.Code c1), (23, I (len p0.Code)), (24, I 0)] hF (by kernel_rfl) fun fr hF => ?_
 refine from_end rfl (then_normal ?_)
 obtain ⟨rl1, hit1, h⟩ := bindE h
 have hk1 := h
 refine (GL.wp_cut (M := fun fr w' => ∃ S3 F2, FrS 42 [(3, Str.val rl1)] fr ∧ Mem w3 S1 (fun k => (G0 k) ∧ k < w.heap.size) w' S3 F2 ∧ Sep [] w' S3) (wp_block (wp_iter (Inv := fun s1 fr w' => ∃ S2 F1, FrS 42 [(1, B b1 0), (3, Str.val s1.1), (22, L a1 p0.Code c1), (23, I (len p0.Code)), (24, I s1.2)] fr ∧ Mem w3 S1 (fun k => (G0 k) ∧ k < w.heap.size) w' S2 F1 ∧ Sep [BX b1 24 [I p0.W, I p0.Mem, I p0.In, L a1 p0.Code c1]] w' S2) hit1 ⟨S1, _, hF.sub _ (by kernel_rfl), (Mem.start hM0.bd hM0.bdF hM0.dj), hs⟩ fun s1 q1 fr w1i hI h hr1 => ?_)) fun fr w1o hM => ?_)
 · obtain ⟨S2, F1, hF, hM1, hs⟩ := hI
   have r1 := r1.mem hM1
   refine wp_seq (wp_pure [(1, B b1 0), (3, Str.val s1.1), (22, L a1 p0.Code c1), (23, I (len p0.Code)), (24, I s1.2), (25, .bool (decide (s1.2 < (len p0.Code))))] hF (by kernel_rfl) fun fr hF => then_normal ?_)
   refine wp_seq (wp_if hF (b := (decide (s1.2 < (len p0.Code)))) rfl (fun hb => ?_) (fun hb => ?_))
   · replace h := iteT hb h
     refine (wp_skip (then_normal ?_))
     refine wp_seq (wp_block ?_)
     refine wp_seq (wp_text' ?_)
     obtain ⟨x5, hx5, h⟩ := bindE h
     refine s_elemF (z := x5) (.agg #[I x5.Op, I x5.A, I x5.B, I x5.C]) ty38 Tryz.underlying22 rfl rfl rfl rfl rfl hF rfl (r1) rfl (get?_nn hx5) (get?_at hx5) rfl fun p fr hF => ?_
     refine q_alloc (z := .agg #[I 0, I 0, I 0, I 0]) hs hM1 [I 0, I 0, I 0, I 0] rfl rfl hF (by kernel_rfl) rfl fun b2 w4 S4 fr hs hp hF => ?_
     have r1 := r1.stp hM1 hp
     have hM1 := hM1.stp hp
     have hs : Sep [BX b2 38 [I 0, I 0, I 0, I 0], BX b1 24 [I p0.W, I p0.Mem, I p0.In, L a1 p0.Code c1]] w4 S4 := hs
     refine q_storeBoxS 0 hs hM1 rfl [I x5.Op, I x5.A, I x5.B, I x5.C] rfl hF rfl rfl (by kernel_rfl) rfl rfl rfl fun w5 S5 hs hp hF => ?_
     have r1 := r1.stp hM1 hp
     have hM1 := hM1.stp hp
     have hs : Sep [BX b2 38 [I x5.Op, I x5.A, I x5.B, I x5.C], BX b1 24 [I p0.W, I p0.Mem, I p0.In, L a1 p0.Code c1]] w5 S5 := hs
     refine from_end rfl (then_normal ?_)
     obtain ⟨x6, hx6, h⟩ := bindE h
     obtain ⟨x7, hx7, h⟩ := bindE h
     obtain ⟨x8, hx8, h⟩ := bindE h
     refine (region_bm 13 [0, 0, 0, 4, 0, 16, 48, 126, 255, 0, 512, 2047, 4095] [true, false, true, false, true, false, true, false, false, false, false, false, true]
         [.eq (Str.val s1.1), .eq (.agg #[I x5.Op, I x5.A, I x5.B, I x5.C]), .eq (B b1 0), .eq (I p0.W), .eq (B b1 3), .eq (L a1 p0.Code c1), .eq (I (len p0.Code)), .eq (Str.val x6), .eq (Str.val x7), .is fun v w => RV w (fun k => k < w.heap.size) v ([(Byt.mk 10)] : List Byt), .eq (Str.val (strOf ([(Byt.mk 10)] : List Byt))), .eq (Str.val x8), .eq (Str.val x8)]
         [(1, B b1 0), (3, Str.val x8), (22, L a1 p0.Code c1), (23, I (len p0.Code)), (24, I s1.2)] mix hF (by kernel_rfl) (by kernel_rfl) (by kernel_rfl) (by kernel_rfl) ⟨Pd.monoO_eq, Pd.monoO_eq, Pd.monoO_eq, Pd.monoO_eq, Pd.monoO_eq, (Pd.monoO_is mono_rvb), Pd.monoO_eq, Pd.monoO_eq, trivial⟩ (fun ow hG => ⟨np_to ow (np_loadBoxS hG hF ty38 rfl rfl (hs.bx 0 rfl) rfl rfl rfl rfl), np_to ow (np_loadBox hG hF ty3 rfl rfl (hs.bx 1 rfl) rfl rfl rfl), np_to ow (np_loadBox hG hF ty22 rfl rfl (hs.bx 1 rfl) rfl rfl rfl), np_to ow (np_call [.agg #[I x5.Op, I x5.A, I x5.B, I x5.C], I p0.W, I (len p0.Code)] hG hF Tryz.call30 rfl rfl (fun w hC hg => (spec_FormatIns_ok n x5 p0.W (len p0.Code) hx6).mono fun e w' ⟨v, he, hv, hc⟩ => ⟨v, he, hc, hv⟩)), np_to ow (np_cat (s1 := s1.1) (s2 := x6) hG hF rfl rfl rfl (fun hg => hx7) rfl), np_to ow (np_litI (E := 5) [.int .u8 10] (([(Byt.mk 10)] : List Byt).map Flat.enc) ([(Byt.mk 10)] : List Byt) hG hF rfl [.int .u8 10] rfl (fun w => by kernel_rfl) (fun w => css_flat _) rfl rfl rfl rfl), np_to ow (np_bytesD (le := ([(Byt.mk 10)] : List Byt)) (i := 9) (s := 37) hG hF rfl rfl rfl rfl rfl Tryz.underlying55 Tryz.underlying5 Tryz.underlying9 rfl), np_to ow (np_cat (s1 := x7) (s2 := (strOf ([(Byt.mk 10)] : List Byt))) hG hF rfl rfl rfl (fun hg => hx8) rfl), trivial⟩) (by kernel_rfl) fun ow fr w6 hF hE hc => ?_)
     have r1 := r1.ext hc
     have hs := hs.ext hc
     have hM1 := hM1.ext hc
     have hs : Sep [BX b1 24 [I p0.W, I p0.Mem, I p0.In, L a1 p0.Code c1]] w6 S5 := Sep.pick [1] hs (by decide) rfl
     refine from_end rfl ?_
     refine blk_normal (then_normal ?_)
     refine (wp_pure [(1, B b1 0), (3, Str.val x8), (22, L a1 p0.Code c1), (23, I (len p0.Code)), (24, I (w64 (s1.2 + 1)))] hF (by kernel_rfl) fun fr hF => then_normal ?_)
     exact ⟨_, (Option.some.inj h).symm, S5, _, hF.sub _ (by kernel_rfl), hM1, hs⟩
   replace h := iteF hb h
   have hs : Sep [] w1i S2 := Sep.pick [] hs (by decide) rfl
   refine (wp_exit (then_exit (then_exit (blk_exit_eq ?_))))
   obtain rfl := hr1 _ (Option.some.inj h).symm
   exact then_normal ⟨S2, _, hF.sub _ (by kernel_rfl), hM1, hs⟩
 · obtain ⟨S3, F2, hF, hMx, hs⟩ := hM
   have hM0 := hM0.trans hMx
   refine wp_seq (wp_pure [(2, Str.val rl1)] hF (by kernel_rfl) fun fr hF => then_normal ?_)
   obtain rfl := Option.some.inj h
   exact wp_ret (ret1 rfl hF rfl ⟨_, rfl, rfl, hM0.chg⟩)

theorem spec_ParseProgram_ok (n : Nat) (p0 : Str) {r : D.Program × Bool} (h : spec_ParseProgram n p0 = some r) {w : World} :
   Calls Tryz.prog 4 [Str.val p0].toArray w fun e w' => ∃ v, e = .returned v ∧ ∃ a1 c1, v = .tuple #[.agg #[I r.1.W, I r.1.Mem, I r.1.In, L a1 r.1.Code c1], .bool r.2] ∧ ∃ S', Stp w Non w' S' ∧ Sep [sl38 (L a1 r.1.Code c1) r.1.Code] w' S' := by
 unfold spec_ParseProgram at h
 have hs := Sep.nil w Non
 have hM0 : Mem w Non (fun k => (False) ∧ k < w.heap.size) w Non (fun k => (False) ∧ k < w.heap.size) := Mem.start (fun _ h => h.elim) (fun _ h => h.2) (fun _ h => h.elim)
 refine enter (N := 91) Tryz.func4 rfl Tryz.ntmps4 rfl fun fr hF => ?_
 refine wp_seq (wp_text' ?_)
 refine q_alloc (z := .agg #[I 0, I 0, I 0, L none ([] : List D.Ins) 0]) hs hM0 [I 0, I 0, I 0, L none ([] : List D.Ins) 0] rfl rfl hF (by kernel_rfl) rfl fun b1 w1 S1 fr hs hp hF => ?_
 have hM0 := hM0.stp hp
 have hs : Sep [BX b1 24 [I 0, I 0, I 0, L none ([] : List D.Ins) 0]] w1 S1 := hs
 refine from_pure 1 [(0, Str.val p0), (2, B b1 0)] hF (by kernel_rfl) fun fr hF => ?_
 refine from_end rfl (then_normal ?_)
 refine wp_seq (wp_text' ?_)
 refine from_pure 1 [(0, Str.val p0), (2, B b1 0), (13, Str.val p0)] hF (by kernel_rfl) fun fr hF => ?_
 obtain ⟨x1, hx1, h⟩ := bindE h
 refine s_call [Str.val p0] Tryz.call9 rfl rfl hF rfl (spec_SplitLines_ok n p0 hx1) fun v w2 fr hRes hF => ?_
 obtain ⟨a1, c1, rfl, _, hp, hs2⟩ := hRes
 obtain ⟨S2, hp, hs⟩ := hs.got hM0 hp hs2
 have hM0 := hM0.stp hp
 have hs : Sep [sl9 (L a1 x1 c1) x1, BX b1 24 [I 0, I 0, I 0, L none ([] : List D.Ins) 0]] w2 S2 := hs
 refine from_pure 1 [(0, Str.val p0), (2, B b1 0), (4, L a1 x1 c1)] hF (by kernel_rfl) fun fr hF => ?_
 refine from_end rfl (then_normal ?_)
 refine wp_seq ?_
 refine wp_seq (wp_text' ?_)
 refine from_pure 2 [(0, Str.val p0), (2, B b1 0), (4, L a1 x1 c1), (16, I (len x1))] hF (by kernel_rfl) fun fr hF => ?_
 obtain ⟨x2, hx2, h⟩ := bindE h
 refine s_call [I (len x1), I 2, I 41] Tryz.call10 rfl rfl hF rfl (spec_l01In_ok (len x1) 2 41 hx2) fun v w3 fr hRes hF => ?_
 obtain ⟨rfl, hc⟩ := hRes
 have hs := hs.ext hc
 have hM0 := hM0.ext hc
 refine from_pure 1 [(0, Str.val p0), (2, B b1 0), (4, L a1 x1 c1), (18, .bool (!x2))] hF (by kernel_rfl) fun fr hF => ?_
 refine from_end rfl (then_normal ?_)
 refine (wp_if hF (b := (!x2)) rfl (fun hb => ?_) (fun hb => ?_))
 · replace h := iteT hb h
   have hs : Sep [BX b1 24 [I 0, I 0, I 0, L none ([] : List D.Ins) 0]] w3 S2 := Sep.pick [1] hs (by decide) rfl
   refine wp_seq (wp_text' ?_)
   refine from_pure 1 [(2, B b1 0), (19, .agg #[I 0, I 0, I 0, L none ([] : List D.Ins) 0])] hF (by kernel_rfl) fun fr hF => ?_
   refine q_storeBoxS 0 hs hM0 rfl [I 0, I 0, I 0, L none ([] : List D.Ins) 0] rfl hF rfl rfl (by kernel_rfl) rfl rfl rfl fun w4 S3 hs hp hF => ?_
   have hM0 := hM0.stp hp
   have hs : Sep [BX b1 24 [I 0, I 0, I 0, L none ([] : List D.Ins) 0]] w4 S3 := hs
   refine from_pure 1 [(2, B b1 0), (3, .bool false)] hF (by kernel_rfl) fun fr hF => ?_
   refine from_end rfl (then_normal ?_)
   have hrets := fun {σ : List (Nat × Value)} (h : σ = [(2, B b1 0), (3, .bool false)]) => (by subst h; exact (Rets.cell rfl ty24 (hs.bx 0 rfl) rfl rfl (Rets.tmp rfl Rets.nil)) : Rets Tryz.prog σ w4 [.cell 2 24, .tmp 3] [.agg #[I 0, I 0, I 0, L none ([] : List D.Ins) 0], .bool false])
   have hs : Sep [sl38 (L none ([] : List D.Ins) 0) ([] : List D.Ins), BX b1 24 [I 0, I 0, I 0, L none ([] : List D.Ins) 0]] w4 S3 := hs.cons_nil (α := D.Ins) 38
   obtain rfl := Option.some.inj h
   have hs : Sep [sl38 (L none ([] : List D.Ins) 0) ([] : List D.Ins)] w4 S3 := Sep.pick [0] hs (by decide) rfl
   exact wp_ret (then_ret (retG (rs := [.cell 2 24, .tmp 3]) rfl (hF.sub [(2, B b1 0), (3, .bool false)] (by kernel_rfl)) (hrets rfl) rfl ⟨_, rfl, none, 0, rfl, S3, hM0.out, hs⟩))
 replace h := iteF hb h
 refine (wp_skip (then_normal ?_))
 refine wp_seq (wp_text' ?_)
 refine from_pure 1 [(0, Str.val p0), (2, B b1 0), (4, L a1 x1 c1), (20, L a1 x1 c1)] hF (by kernel_rfl) fun fr hF => ?_
 obtain ⟨x3, hx3, h⟩ := bindE h
 refine s_elemF (z := x3) (Str.val x3) ty9 Tryz.underlying30 rfl rfl rfl rfl rfl hF rfl (hs.rv 0 rfl) rfl (get?_nn hx3) (get?_at hx3) rfl fun p fr hF => ?_
 obtain ⟨x4, hx4, h⟩ := bindE h
 refine s_call [Str.val x3] Tryz.call11 rfl rfl hF rfl (spec_Words_ok n x3 hx4) fun v w5 fr hRes hF => ?_
 obtain ⟨a2, c2, rfl, _, hp, hs2⟩ := hRes
 obtain ⟨S4, hp, hs⟩ := hs.got hM0 hp hs2
 have hM0 := hM0.stp hp
 have hs : Sep [sl9 (L a2 x4 c2) x4, sl9 (L a1 x1 c1) x1, BX b1 24 [I 0, I 0, I 0, L none ([] : List D.Ins) 0]] w5 S4 := hs
 refine from_pure 1 [(0, Str.val p0), (2, B b1 0), (4, L a1 x1 c1), (5, L a2 x4 c2)] hF (by kernel_rfl) fun fr hF => ?_
 refine from_end rfl (then_normal ?_)
 refine wp_seq ?_
 refine wp_seq (wp_pure [(0, Str.val p0), (2, B b1 0), (4, L a1 x1 c1), (5, L a2 x4 c2), (26, .bool ((len x4) != 4))] hF (by kernel_rfl) fun fr hF => then_normal ?_)
 refine (wp_if hF (b := ((len x4) != 4)) rfl (fun hb => ?_) (fun hb => ?_))
 · replace h := iteT hb h
   have hs : Sep [BX b1 24 [I 0, I 0, I 0, L none ([] : List D.Ins) 0]] w5 S4 := Sep.pick [2] hs (by decide) rfl
   refine wp_seq (wp_text' ?_)
   refine from_pure 1 [(2, B b1 0), (27, .agg #[I 0, I 0, I 0, L none ([] : List D.Ins) 0])] hF (by kernel_rfl) fun fr hF => ?_
   refine q_storeBoxS 0 hs hM0 rfl [I 0, I 0, I 0, L none ([] : List D.Ins) 0] rfl hF rfl rfl (by kernel_rfl) rfl rfl rfl fun w6 S5 hs hp hF => ?_
   have hM0 := hM0.stp hp
   have hs : Sep [BX b1 24 [I 0, I 0, I 0, L none ([] : List D.Ins) 0]] w6 S5 := hs
   refine from_pure 1 [(2, B b1 0), (3, .bool false)] hF (by kernel_rfl) fun fr hF => ?_
   refine from_end rfl (then_normal ?_)
   have hrets := fun {σ : List (Nat × Value)} (h : σ = [(2, B b1 0), (3, .bool false)]) => (by subst h; exact (Rets.cell rfl ty24 (hs.bx 0 rfl) rfl rfl (Rets.tmp rfl Rets.nil)) : Rets Tryz.prog σ w6 [.cell 2 24, .tmp 3] [.agg #[I 0, I 0, I 0, L none ([] : List D.Ins) 0], .bool false])
   have hs : Sep [sl38 (L none ([] : List D.Ins) 0) ([] : List D.Ins), BX b1 24 [I 0, I 0, I 0, L none ([] : List D.Ins) 0]] w6 S5 := hs.cons_nil (α := D.Ins) 38
   obtain rfl := Option.some.inj h
   have hs : Sep [sl38 (L none ([] : List D.Ins) 0) ([] : List D.Ins)] w6 S5 := Sep.pick [0] hs (by decide) rfl
   exact wp_ret (then_ret (retG (rs := [.cell 2 24, .tmp 3]) rfl (hF.sub [(2, B b1 0), (3, .bool false)] (by kernel_rfl)) (hrets rfl) rfl ⟨_, rfl, none, 0, rfl, S5, hM0.out, hs⟩))
 replace h := iteF hb h
 refine (wp_skip (then_normal ?_))
 refine wp_seq (wp_text' ?_)
 refine from_pure 1 [(0, Str.val p0), (2, B b1 0), (4, L a1 x1 c1), (29, L a2 x4 c2)] hF (by kernel_rfl) fun fr hF => ?_
 obtain ⟨x5, hx5, h⟩ := bindE h
 refine s_view ty9 Tryz.underlying30 rfl rfl hF rfl (hs.rv 0 rfl) ⟨_, rfl⟩ rfl hx5 fun a3 c3 fr hv1 hle1 hF => ?_
 obtain ⟨x6, hx6, h⟩ := bindE h
 refine s_call [L a3 x5 c3, Str.val (⟨[32]⟩)] Tryz.call13 rfl rfl hF rfl (spec_Join_ok n (vcut x4 1 (List.length x5)) (⟨[32]⟩) hx6 (view_rv (hs.rv 0 rfl) hv1 (by have h1 := (hs.relen 0 rfl).1; omega))) fun v w7 fr hRes hF => ?_
 obtain ⟨rfl, hc⟩ := hRes
 have hs := hs.ext hc
 have hM0 := hM0.ext hc
 have hs : Sep [sl9 (L a1 x1 c1) x1, BX b1 24 [I 0, I 0, I 0, L none ([] : List D.Ins) 0]] w7 S4 := Sep.pick [1, 2] hs (by decide) rfl
 obtain ⟨x7, hx7, h⟩ := bindE h
 refine s_call [Str.val x6] Tryz.call12 rfl rfl hF rfl (spec_ParseInts_ok n x6 hx7) fun v w8 fr hRes hF => ?_
 obtain ⟨a4, c4, rfl, _, hp, hs2⟩ := hRes
 obtain ⟨S6, hp, hs⟩ := hs.got hM0 hp hs2
 have hM0 := hM0.stp hp
 have hs : Sep [sl3 (L a4 x7.1 c4) x7.1, sl9 (L a1 x1 c1) x1, BX b1 24 [I 0, I 0, I 0, L none ([] : List D.Ins) 0]] w8 S6 := hs
 refine from_pure 5 [(0, Str.val p0), (2, B b1 0), (4, L a1 x1 c1), (6, L a4 x7.1 c4), (7, .bool x7.2)] hF (by kernel_rfl) fun fr hF => ?_
 refine from_end rfl (then_normal ?_)
 refine wp_seq ?_
 refine wp_seq (region_b [] [true, true, true, true, true, true, true]
     [.eq (.bool x7.2), .eq (.bool (!x7.2)), .eq (.bool (!x7.2)), .eq (L a4 x7.1 c4), .eq (I (len x7.1)), .eq (.bool ((len x7.1) != 3)), .eq (.bool ((!x7.2) || ((len x7.1) != 3)))]
     [(0, Str.val p0), (2, B b1 0), (4, L a1 x1 c1), (6, L a4 x7.1 c4), (41, .bool ((!x7.2) || ((len x7.1) != 3)))] mix hF (by kernel_rfl) (by kernel_rfl) (by kernel_rfl) trivial (fun hG => trivial) (by kernel_rfl) fun fr w9 hF hE hc => then_normal ?_)
 have hs := hs.ext hc
 have hM0 := hM0.ext hc
 refine (wp_if hF (b := ((!x7.2) || ((len x7.1) != 3))) rfl (fun hb => ?_) (fun hb => ?_))
 · replace h := iteT hb h
   have hs : Sep [BX b1 24 [I 0, I 0, I 0, L none ([] : List D.Ins) 0]] w9 S6 := Sep.pick [2] hs (by decide) rfl
   refine wp_seq (wp_text' ?_)
   refine from_pure 1 [(2, B b1 0), (42, .agg #[I 0, I 0, I 0, L none ([] : List D.Ins) 0])] hF (by kernel_rfl) fun fr hF => ?_
   refine q_storeBoxS 0 hs hM0 rfl [I 0, I 0, I 0, L none ([] : List D.Ins) 0] rfl hF rfl rfl (by kernel_rfl) rfl rfl rfl fun w10 S7 hs hp hF => ?_
   have hM0 := hM0.stp hp
   have hs : Sep [BX b1 24 [I 0, I 0, I 0, L none ([] : List D.Ins) 0]] w10 S7 := hs
   refine from_pure 1 [(2, B b1 0), (3, .bool false)] hF (by kernel_rfl) fun fr hF => ?_
   refine from_end rfl (then_normal ?_)
   have hrets := fun {σ : List (Nat × Value)} (h : σ = [(2, B b1 0), (3, .bool false)]) => (by subst h; exact (Rets.cell rfl ty24 (hs.bx 0 rfl) rfl rfl (Rets.tmp rfl Rets.nil)) : Rets Tryz.prog σ w10 [.cell 2 24, .tmp 3] [.agg #[I 0, I 0, I 0, L none ([] : List D.Ins) 0], .bool false])
   have hs : Sep [sl38 (L none ([] : List D.Ins) 0) ([] : List D.Ins), BX b1 24 [I 0, I 0, I 0, L none ([] : List D.Ins) 0]] w10 S7 := hs.cons_nil (α := D.Ins) 38
   obtain rfl := Option.some.inj h
   have hs : Sep [sl38 (L none ([] : List D.Ins) 0) ([] : List D.Ins)] w10 S7 := Sep.pick [0] hs (by decide) rfl
   exact wp_ret (then_ret (retG (rs := [.cell 2 24, .tmp 3]) rfl (hF.sub [(2, B b1 0), (3, .bool false)] (by kernel_rfl)) (hrets rfl) rfl ⟨_, rfl, none, 0, rfl, S7, hM0.out, hs⟩))
 replace h := iteF hb h
 refine (wp_skip (then_normal ?_))
 obtain ⟨x8, hx8, h⟩ := bindE h
 obtain ⟨x9, hx9, h⟩ := bindE h
 obtain ⟨x10, hx10, h⟩ := bindE h
 refine wp_seq (region_bm 11 [0, 1, 3, 0, 8, 24, 0, 64, 192, 511, 0, 2047] [true, false, false, true, false, false, true, false, false, true, false]
     [.eq (L a4 x7.1 c4), .is fun v w => ElemP w (fun k => k < w9.heap.size) v (x8 : Int), .eq (I x8), .eq (L a4 x7.1 c4), .is fun v w => ElemP w (fun k => k < w9.heap.size) v (x9 : Int), .eq (I x9), .eq (L a4 x7.1 c4), .is fun v w => ElemP w (fun k => k < w9.heap.size) v (x10 : Int), .eq (I x10), .eq (.agg #[I x8, I x9, I x10, L none ([] : List D.Ins) 0]), .own fun ow v w => ∃ b, v = B b 0 ∧ (BX b 24 [I 0, I 0, I 0, L none ([] : List D.Ins) 0]).ok w (fun k => w9.heap.size ≤ k ∧ k < w.heap.size ∧ ow k = 10), .any]
     [(0, Str.val p0), (2, B b1 0), (4, L a1 x1 c1), (52, .agg #[I x8, I x9, I x10, L none ([] : List D.Ins) 0])] mix hF (by kernel_rfl) (by kernel_rfl) (by kernel_rfl) (by kernel_rfl) ⟨(Pd.monoO_is mono_elem), Pd.monoO_eq, (Pd.monoO_is mono_elem), Pd.monoO_eq, (Pd.monoO_is mono_elem), Pd.monoO_eq, mono_new, trivial⟩ (fun ow hG => ⟨np_to ow (np_index hG hF ty3 Tryz.underlying33 rfl rfl (RV.sub (hs.rv 0 rfl) fun k hk _ => hk) rfl rfl (fun hg => ⟨get?_nn hx8, get?_at hx8⟩)), np_to ow (np_loadF (z := x8) (i := 1) hG hF ty3 rfl rfl rfl rfl rfl rfl rfl), np_to ow (np_index hG hF ty3 Tryz.underlying33 rfl rfl (RV.sub (hs.rv 0 rfl) fun k hk _ => hk) rfl rfl (fun hg => ⟨get?_nn hx9, get?_at hx9⟩)), np_to ow (np_loadF (z := x9) (i := 4) hG hF ty3 rfl rfl rfl rfl rfl rfl rfl), np_to ow (np_index hG hF ty3 Tryz.underlying33 rfl rfl (RV.sub (hs.rv 0 rfl) fun k hk _ => hk) rfl rfl (fun hg => ⟨get?_nn hx10, get?_at hx10⟩)), np_to ow (np_loadF (z := x10) (i := 7) hG hF ty3 rfl rfl rfl rfl rfl rfl rfl), np_alloc (z := .agg #[I 0, I 0, I 0, L none ([] : List D.Ins) 0]) hG hF rfl (by kernel_rfl) rfl rfl, trivial⟩) (by kernel_rfl) fun ow fr w11 hF hE hc => ?_)
 obtain ⟨b2, hv, hnw10⟩ := hE.is 8 10 rfl rfl
 have hF := hF.cons hv
 have hsN := sepO (w0 := w9) (ow := ow) [(10, BX b2 24 [I 0, I 0, I 0, L none ([] : List D.Ins) 0])] (show ([10] : List Nat).Nodup by decide) ⟨hnw10, trivial⟩ rfl
 obtain ⟨S8, hp, hs⟩ := hs.got hM0 (stp_new hc) hsN
 have hM0 := hM0.stp hp
 have hs : Sep [BX b2 24 [I 0, I 0, I 0, L none ([] : List D.Ins) 0], sl3 (L a4 x7.1 c4) x7.1, sl9 (L a1 x1 c1) x1, BX b1 24 [I 0, I 0, I 0, L none ([] : List D.Ins) 0]] w11 S8 := hs
 have hs : Sep [BX b2 24 [I 0, I 0, I 0, L none ([] : List D.Ins) 0], sl9 (L a1 x1 c1) x1, BX b1 24 [I 0, I 0, I 0, L none ([] : List D.Ins) 0]] w11 S8 := Sep.pick [0, 2, 3] hs (by decide) rfl
 refine q_storeBoxS 0 hs hM0 rfl [I x8, I x9, I x10, L none ([] : List D.Ins) 0] rfl hF rfl rfl (by kernel_rfl) rfl rfl rfl fun w12 S9 hs hp hF => ?_
 have hM0 := hM0.stp hp
 have hs : Sep [BX b2 24 [I x8, I x9, I x10, L none ([] : List D.Ins) 0], sl9 (L a1 x1 c1) x1, BX b1 24 [I 0, I 0, I 0, L none ([] : List D.Ins) 0]] w12 S9 := hs
 refine from_end rfl (then_normal ?_)
 refine wp_seq ?_
 refine wp_seq (wp_text' ?_)
 refine from_pure 1 [(0, Str.val p0), (2, B b1 0), (4, L a1 x1 c1), (8, B b2 0), (53, L a1 x1 c1)] hF (by kernel_rfl) fun fr hF => ?_
 obtain ⟨x11, hx11, h⟩ := bindE h
 refine s_view ty9 Tryz.underlying30 rfl rfl hF rfl (hs.rv 1 rfl) ⟨_, rfl⟩ rfl hx11 fun a5 c5 fr hv2 hle2 hF => ?_
 refine from_pure 2 [(0, Str.val p0), (2, B b1 0), (4, L a1 x1 c1), (8, B b2 0), (54, L a5 x11 c5), (55, I (len x11)), (56, I 0)] hF (by kernel_rfl) fun fr hF => ?_
 refine from_end rfl (then_normal ?_)
 have hs : Sep [sl38 (L none ([] : List D.Ins) 0) ([] : List D.Ins), BX b2 24 [I x8, I x9, I x10, L none ([] : List D.Ins) 0], sl9 (L a1 x1 c1) x1, BX b1 24 [I 0, I 0, I 0, L none ([] : List D.Ins) 0]] w12 S9 := hs.cons_nil (α := D.Ins) 38
 have hs : Sep [sl38 (L none ([] : List D.Ins) 0) ([] : List D.Ins), BX b2 24 [I x8, I x9, I x10, L none ([] : List D.Ins) 0], sl9 (L a1 x1 c1) x1, BX b1 24 [I 0, I 0, I 0, L none ([] : List D.Ins) 0]] w12 S9 := hs
 obtain ⟨rl1, hit1, h⟩ := bindE h
 have hk1 := h
 refine (GL.wp_cut (M := fun fr w' => ∃ s, rl1 = .inl s ∧ ∃ a7 c7 S11 F2, FrS 91 [(0, Str.val p0), (2, B b1 0), (8, B b2 0)] fr ∧ Mem w12 S9 (fun k => (False) ∧ k < w.heap.size) w' S11 F2 ∧ Sep [sl38 (L a7 s c7) s, BX b2 24 [I x8, I x9, I x10, L a7 s c7], BX b1 24 [I 0, I 0, I 0, L none ([] : List D.Ins) 0]] w' S11) (wp_block (wp_iter (Inv := fun s1 fr w' => ∃ a6 c6 S10 F1, FrS 91 [(0, Str.val p0), (2, B b1 0), (4, L a1 x1 c1), (8, B b2 0), (54, L a5 x11 c5), (55, I (len x11)), (56, I s1.1)] fr ∧ Mem w12 S9 (fun k => (False) ∧ k < w.heap.size) w' S10 F1 ∧ Sep [sl38 (L a6 s1.2 c6) s1.2, BX b2 24 [I x8, I x9, I x10, L a6 s1.2 c6], sl9 (L a1 x1 c1) x1, BX b1 24 [I 0, I 0, I 0, L none ([] : List D.Ins) 0]] w' S10) hit1 ⟨none, 0, S9, _, hF.sub _ (by kernel_rfl), (Mem.start hM0.bd hM0.bdF hM0.dj), hs⟩ fun s1 q1 fr w1i hI h hr1 => ?_)) fun fr w1o hM => ?_)
 · obtain ⟨a6, c6, S10, F1, hF, hM1, hs⟩ := hI
   refine wp_seq (wp_pure [(0, Str.val p0), (2, B b1 0), (4, L a1 x1 c1), (8, B b2 0), (54, L a5 x11 c5), (55, I (len x11)), (56, I s1.1), (57, .bool (decide (s1.1 < (len x11))))] hF (by kernel_rfl) fun fr hF => then_normal ?_)
   refine wp_seq (wp_if hF (b := (decide (s1.1 < (len x11)))) rfl (fun hb => ?_) (fun hb => ?_))
   · replace h := iteT hb h
     refine (wp_skip (then_normal ?_))
     refine wp_seq (wp_block ?_)
     refine wp_seq (wp_text' ?_)
     obtain ⟨x12, hx12, h⟩ := bindE h
     refine s_elemF (z := x12) (Str.val x12) ty9 Tryz.underlying30 rfl rfl rfl rfl rfl hF rfl (view_rv (hs.rv 2 rfl) hv2 (by have h1 := (hs.relen 2 rfl).1; omega)) rfl (get?_nn hx12) (get?_at hx12) rfl fun p fr hF => ?_
     refine from_pure 1 [(0, Str.val p0), (2, B b1 0), (4, L a1 x1 c1), (8, B b2 0), (10, Str.val x12), (54, L a5 x11 c5), (55, I (len x11)), (56, I s1.1)] hF (by kernel_rfl) fun fr hF => ?_
     refine from_end rfl (then_normal ?_)
     refine wp_seq (wp_text' ?_)
     refine from_pure 2 [(0, Str.val p0), (2, B b1 0), (4, L a1 x1 c1), (8, B b2 0), (54, L a5 x11 c5), (55, I (len x11)), (56, I s1.1), (61, Str.val x12), (62, B b2 0)] hF (by kernel_rfl) fun fr hF => ?_
     refine s_loadBox (I x8) ty3 rfl rfl hF rfl (hs.bx 1 rfl) rfl rfl fun fr hF => ?_
     refine from_pure 3 [(0, Str.val p0), (2, B b1 0), (4, L a1 x1 c1), (8, B b2 0), (54, L a5 x11 c5), (55, I (len x11)), (56, I s1.1), (61, Str.val x12), (63, I x8), (66, I (w64 ((len x1) - 1)))] hF (by kernel_rfl) fun fr hF => ?_
     obtain ⟨x13, hx13, h⟩ := bindE h
     refine s_call [Str.val x12, I x8, I (w64 ((len x1) - 1))] Tryz.call14 rfl rfl hF rfl (spec_ParseIns_ok n x12 x8 (w64 ((len x1) - 1)) hx13) fun v w13 fr hRes hF => ?_
     obtain ⟨rfl, hc⟩ := hRes
     have hs := hs.ext hc
     have hM1 := hM1.ext hc
     refine from_pure 3 [(0, Str.val p0), (2, B b1 0), (4, L a1 x1 c1), (8, B b2 0), (54, L a5 x11 c5), (55, I (len x11)), (56, I s1.1), (68, .agg #[I x13.1.Op, I x13.1.A, I x13.1.B, I x13.1.C]), (69, .bool x13.2)] hF (by kernel_rfl) fun fr hF => ?_
     refine q_alloc (z := .agg #[I 0, I 0, I 0, I 0]) hs hM1 [I 0, I 0, I 0, I 0] rfl rfl hF (by kernel_rfl) rfl fun b3 w14 S12 fr hs hp hF => ?_
     have hM1 := hM1.stp hp
     have hs : Sep [BX b3 38 [I 0, I 0, I 0, I 0], sl38 (L a6 s1.2 c6) s1.2, BX b2 24 [I x8, I x9, I x10, L a6 s1.2 c6], sl9 (L a1 x1 c1) x1, BX b1 24 [I 0, I 0, I 0, L none ([] : List D.Ins) 0]] w14 S12 := hs
     refine q_storeBoxS 0 hs hM1 rfl [I x13.1.Op, I x13.1.A, I x13.1.B, I x13.1.C] rfl hF rfl rfl (by kernel_rfl) rfl rfl rfl fun w15 S13 hs hp hF => ?_
     have hM1 := hM1.stp hp
     have hs : Sep [BX b3 38 [I x13.1.Op, I x13.1.A, I x13.1.B, I x13.1.C], sl38 (L a6 s1.2 c6) s1.2, BX b2 24 [I x8, I x9, I x10, L a6 s1.2 c6], sl9 (L a1 x1 c1) x1, BX b1 24 [I 0, I 0, I 0, L none ([] : List D.Ins) 0]] w15 S13 := hs
     refine from_pure 1 [(0, Str.val p0), (2, B b1 0), (4, L a1 x1 c1), (8, B b2 0), (11, B b3 0), (12, .bool x13.2), (54, L a5 x11 c5), (55, I (len x11)), (56, I s1.1)] hF (by kernel_rfl) fun fr hF => ?_
     refine from_end rfl (then_normal ?_)
     refine wp_seq ?_
     refine wp_seq (wp_pure [(0, Str.val p0), (2, B b1 0), (4, L a1 x1 c1), (8, B b2 0), (11, B b3 0), (54, L a5 x11 c5), (55, I (len x11)), (56, I s1.1), (71, .bool (!x13.2))] hF (by kernel_rfl) fun fr hF => then_normal ?_)
     refine (wp_if hF (b := (!x13.2)) rfl (fun hb => ?_) (fun hb => ?_))
     · replace h := iteT hb h
       have hs : Sep [BX b1 24 [I 0, I 0, I 0, L none ([] : List D.Ins) 0]] w15 S13 := Sep.pick [4] hs (by decide) rfl
       refine wp_seq (wp_text' ?_)
       refine from_pure 1 [(2, B b1 0), (72, .agg #[I 0, I 0, I 0, L none ([] : List D.Ins) 0])] hF (by kernel_rfl) fun fr hF => ?_
       refine q_storeBoxS 0 hs hM1 rfl [I 0, I 0, I 0, L none ([] : List D.Ins) 0] rfl hF rfl rfl (by kernel_rfl) rfl rfl rfl fun w16 S14 hs hp hF => ?_
       have hM1 := hM1.stp hp
       have hs : Sep [BX b1 24 [I 0, I 0, I 0, L none ([] : List D.Ins) 0]] w16 S14 := hs
       refine from_pure 1 [(2, B b1 0), (3, .bool false)] hF (by kernel_rfl) fun fr hF => ?_
       refine from_end rfl (then_normal ?_)
       have hrets := fun {σ : List (Nat × Value)} (h : σ = [(2, B b1 0), (3, .bool false)]) => (by subst h; exact (Rets.cell rfl ty24 (hs.bx 0 rfl) rfl rfl (Rets.tmp rfl Rets.nil)) : Rets Tryz.prog σ w16 [.cell 2 24, .tmp 3] [.agg #[I 0, I 0, I 0, L none ([] : List D.Ins) 0], .bool false])
       have hs : Sep [sl38 (L none ([] : List D.Ins) 0) ([] : List D.Ins), BX b1 24 [I 0, I 0, I 0, L none ([] : List D.Ins) 0]] w16 S14 := hs.cons_nil (α := D.Ins) 38
       obtain rfl := hr1 _ (Option.some.inj h).symm
       obtain rfl := Option.some.inj hk1
       have hs : Sep [sl38 (L none ([] : List D.Ins) 0) ([] : List D.Ins)] w16 S14 := Sep.pick [0] hs (by decide) rfl
       exact wp_ret (then_ret (blk_ret (then_ret (then_ret (blk_ret (then_ret (retG (rs := [.cell 2 24, .tmp 3]) rfl (hF.sub [(2, B b1 0), (3, .bool false)] (by kernel_rfl)) (hrets rfl) rfl ⟨_, rfl, none, 0, rfl, S14, (hM0.trans hM1).out, hs⟩)))))))
     replace h := iteF hb h
     refine (wp_skip (then_normal ?_))
     refine (wp_text' ?_)
     refine from_pure 1 [(0, Str.val p0), (2, B b1 0), (4, L a1 x1 c1), (8, B b2 0), (11, B b3 0), (54, L a5 x11 c5), (55, I (len x11)), (56, I s1.1), (73, B b2 3)] hF (by kernel_rfl) fun fr hF => ?_
     refine s_loadBox (L a6 s1.2 c6) ty22 rfl rfl hF rfl (hs.bx 2 rfl) rfl rfl fun fr hF => ?_
     refine s_loadBoxS ty38 rfl rfl hF rfl (hs.bx 0 rfl) rfl rfl fun fr hF => ?_
     have hs : Sep [sl38 (L a6 s1.2 c6) s1.2, BX b2 24 [I x8, I x9, I x10, L a6 s1.2 c6], sl9 (L a1 x1 c1) x1, BX b1 24 [I 0, I 0, I 0, L none ([] : List D.Ins) 0]] w15 S13 := Sep.pick [1, 2, 3, 4] hs (by decide) rfl
     refine q_lit (E := 38) hs hM1 [I x13.1.Op, I x13.1.A, I x13.1.B, I x13.1.C] (([x13.1] : List D.Ins).map Flat.enc) ([x13.1] : List D.Ins) rfl rfl hF [.agg #[I x13.1.Op, I x13.1.A, I x13.1.B, I x13.1.C]] rfl (fun w => by kernel_rfl) (css_flat _) rfl rfl rfl fun a8 c8 w17 S15 fr hs hp hF => ?_
     have hM1 := hM1.stp hp
     have hs : Sep [sl38 (L a8 ([x13.1] : List D.Ins) c8) ([x13.1] : List D.Ins), sl38 (L a6 s1.2 c6) s1.2, BX b2 24 [I x8, I x9, I x10, L a6 s1.2 c6], sl9 (L a1 x1 c1) x1, BX b1 24 [I 0, I 0, I 0, L none ([] : List D.Ins) 0]] w17 S15 := hs
     obtain ⟨x14, hx14, h⟩ := bindE h
     refine q_append 1 hs hM1 rfl Tryz.underlying22 el38 rfl rfl rfl hF rfl rfl (hs.rv 0 rfl) hx14 fun a9 c9 w18 S16 fr hs hp hF => ?_
     have hM1 := hM1.stp hp
     have hs : Sep [sl38 (L a8 ([x13.1] : List D.Ins) c8) ([x13.1] : List D.Ins), sl38 (L a9 x14 c9) x14, BX b2 24 [I x8, I x9, I x10, L a6 s1.2 c6], sl9 (L a1 x1 c1) x1, BX b1 24 [I 0, I 0, I 0, L none ([] : List D.Ins) 0]] w18 S16 := hs
     have hs : Sep [sl38 (L a9 x14 c9) x14, BX b2 24 [I x8, I x9, I x10, L a6 s1.2 c6], sl9 (L a1 x1 c1) x1, BX b1 24 [I 0, I 0, I 0, L none ([] : List D.Ins) 0]] w18 S16 := Sep.pick [1, 2, 3, 4] hs (by decide) rfl
     refine from_pure 1 [(0, Str.val p0), (2, B b1 0), (4, L a1 x1 c1), (8, B b2 0), (54, L a5 x11 c5), (55, I (len x11)), (56, I s1.1), (77, L a9 x14 c9), (78, B b2 3)] hF (by kernel_rfl) fun fr hF => ?_
     refine q_storeBox 1 hs hM1 rfl [I x8, I x9, I x10, L a9 x14 c9] rfl hF rfl rfl (by kernel_rfl) rfl rfl rfl fun w19 S17 hs hp hF => ?_
     have hM1 := hM1.stp hp
     have hs : Sep [sl38 (L a9 x14 c9) x14, BX b2 24 [I x8, I x9, I x10, L a9 x14 c9], sl9 (L a1 x1 c1) x1, BX b1 24 [I 0, I 0, I 0, L none ([] : List D.Ins) 0]] w19 S17 := hs
     refine from_end rfl ?_
     refine blk_normal (then_normal ?_)
     refine (wp_pure [(0, Str.val p0), (2, B b1 0), (4, L a1 x1 c1), (8, B b2 0), (54, L a5 x11 c5), (55, I (len x11)), (56, I (w64 (s1.1 + 1)))] hF (by kernel_rfl) fun fr hF => then_normal ?_)
     exact ⟨_, (Option.some.inj h).symm, a9, c9, S17, _, hF.sub _ (by kernel_rfl), hM1, hs⟩
   replace h := iteF hb h
   have hs : Sep [sl38 (L a6 s1.2 c6) s1.2, BX b2 24 [I x8, I x9, I x10, L a6 s1.2 c6], BX b1 24 [I 0, I 0, I 0, L none ([] : List D.Ins) 0]] w1i S10 := Sep.pick [0, 1, 3] hs (by decide) rfl
   refine (wp_exit (then_exit (then_exit (blk_exit_eq ?_))))
   obtain rfl := hr1 _ (Option.some.inj h).symm
   exact then_normal ⟨_, rfl, a6, c6, S10, _, hF.sub _ (by kernel_rfl), hM1, hs⟩
 · obtain ⟨s1r, rfl, hM⟩ := hM
   obtain ⟨a7, c7, S11, F2, hF, hMx, hs⟩ := hM
   have hM0 := hM0.trans hMx
   refine wp_seq ?_
   obtain ⟨x15, hx15, h⟩ := bindE h
   obtain ⟨x16, hx16, h⟩ := bindE h
   refine wp_seq (region_b [] [false, false, true, true, false, false, true, true, true]
       [.eq (.agg #[I x8, I x9, I x10, L a7 s1r c7]), .eq (.bool x15), .eq (.bool (!x15)), .eq (.bool (!x15)), .eq (.agg #[I x8, I x9, I x10, L a7 s1r c7]), .eq (Str.val x16), .eq (Str.val p0), .eq (.bool (!(Str.eqb x16 p0))), .eq (.bool ((!x15) || (!(Str.eqb x16 p0))))]
       [(2, B b1 0), (8, B b2 0), (88, .bool ((!x15) || (!(Str.eqb x16 p0))))] mix hF (by kernel_rfl) (by kernel_rfl) (by kernel_rfl) ⟨Pd.mono_eq, Pd.mono_eq, Pd.mono_eq, Pd.mono_eq, trivial⟩ (fun hG => ⟨np_loadBoxS hG hF ty24 rfl rfl (hs.bx 1 rfl) rfl rfl rfl rfl, np_call [.agg #[I x8, I x9, I x10, L a7 s1r c7]] hG hF Tryz.call15 rfl rfl (fun w hC hg => (spec_ProgramOk_ok n (D.Program.mk x8 x9 x10 s1r) hx15 ((RV.mk_Program (D.Program.mk x8 x9 x10 s1r) (RV.any (hs.rv 0 rfl))).ext hC)).mono fun e w' ⟨v, he, hv, hc⟩ => ⟨v, he, hc, hv⟩), np_loadBoxS hG hF ty24 rfl rfl (hs.bx 1 rfl) rfl rfl rfl rfl, np_call [.agg #[I x8, I x9, I x10, L a7 s1r c7]] hG hF Tryz.call16 rfl rfl (fun w hC hg => (spec_FormatProgram_ok n (D.Program.mk x8 x9 x10 s1r) (iteF hg.2 hx16) ((RV.mk_Program (D.Program.mk x8 x9 x10 s1r) (RV.any (hs.rv 0 rfl))).ext hC)).mono fun e w' ⟨v, he, hv, hc⟩ => ⟨v, he, hc, hv⟩), trivial⟩) (by kernel_rfl) fun fr w20 hF hE hc => then_normal ?_)
   have hs := hs.ext hc
   have hM0 := hM0.ext hc
   refine (wp_if hF (b := ((!x15) || (!(Str.eqb x16 p0)))) rfl (fun hb => ?_) (fun hb => ?_))
   · replace h := iteT hb h
     have hs : Sep [BX b1 24 [I 0, I 0, I 0, L none ([] : List D.Ins) 0]] w20 S11 := Sep.pick [2] hs (by decide) rfl
     refine wp_seq (wp_text' ?_)
     refine from_pure 1 [(2, B b1 0), (89, .agg #[I 0, I 0, I 0, L none ([] : List D.Ins) 0])] hF (by kernel_rfl) fun fr hF => ?_
     refine q_storeBoxS 0 hs hM0 rfl [I 0, I 0, I 0, L none ([] : List D.Ins) 0] rfl hF rfl rfl (by kernel_rfl) rfl rfl rfl fun w21 S18 hs hp hF => ?_
     have hM0 := hM0.stp hp
     have hs : Sep [BX b1 24 [I 0, I 0, I 0, L none ([] : List D.Ins) 0]] w21 S18 := hs
     refine from_pure 1 [(2, B b1 0), (3, .bool false)] hF (by kernel_rfl) fun fr hF => ?_
     refine from_end rfl (then_normal ?_)
     have hrets := fun {σ : List (Nat × Value)} (h : σ = [(2, B b1 0), (3, .bool false)]) => (by subst h; exact (Rets.cell rfl ty24 (hs.bx 0 rfl) rfl rfl (Rets.tmp rfl Rets.nil)) : Rets Tryz.prog σ w21 [.cell 2 24, .tmp 3] [.agg #[I 0, I 0, I 0, L none ([] : List D.Ins) 0], .bool false])
     have hs : Sep [sl38 (L none ([] : List D.Ins) 0) ([] : List D.Ins), BX b1 24 [I 0, I 0, I 0, L none ([] : List D.Ins) 0]] w21 S18 := hs.cons_nil (α := D.Ins) 38
     obtain rfl := Option.some.inj h
     have hs : Sep [sl38 (L none ([] : List D.Ins) 0) ([] : List D.Ins)] w21 S18 := Sep.pick [0] hs (by decide) rfl
     exact wp_ret (then_ret (retG (rs := [.cell 2 24, .tmp 3]) rfl (hF.sub [(2, B b1 0), (3, .bool false)] (by kernel_rfl)) (hrets rfl) rfl ⟨_, rfl, none, 0, rfl, S18, hM0.out, hs⟩))
   replace h := iteF hb h
   refine (wp_skip (then_normal ?_))
   refine wp_seq (wp_text' ?_)
   refine s_loadBoxS ty24 rfl rfl hF rfl (hs.bx 1 rfl) rfl rfl fun fr hF => ?_
   have hs : Sep [sl38 (L a7 s1r c7) s1r, BX b1 24 [I 0, I 0, I 0, L none ([] : List D.Ins) 0]] w20 S11 := Sep.pick [0, 2] hs (by decide) rfl
   refine q_storeBoxS 1 hs hM0 rfl [I x8, I x9, I x10, L a7 s1r c7] rfl hF rfl rfl (by kernel_rfl) rfl rfl rfl fun w22 S19 hs hp hF => ?_
   have hM0 := hM0.stp hp
   have hs : Sep [sl38 (L a7 s1r c7) s1r, BX b1 24 [I x8, I x9, I x10, L a7 s1r c7]] w22 S19 := hs
   refine from_pure 1 [(2, B b1 0), (3, .bool true)] hF (by kernel_rfl) fun fr hF => ?_
   refine from_end rfl (then_normal ?_)
   have hrets := fun {σ : List (Nat × Value)} (h : σ = [(2, B b1 0), (3, .bool true)]) => (by subst h; exact (Rets.cell rfl ty24 (hs.bx 1 rfl) rfl rfl (Rets.tmp rfl Rets.nil)) : Rets Tryz.prog σ w22 [.cell 2 24, .tmp 3] [.agg #[I x8, I x9, I x10, L a7 s1r c7], .bool true])
   obtain rfl := Option.some.inj h
   have hs : Sep [sl38 (L a7 s1r c7) s1r] w22 S19 := Sep.pick [0] hs (by decide) rfl
   exact wp_ret (retG (rs := [.cell 2 24, .tmp 3]) rfl (hF.sub [(2, B b1 0), (3, .bool true)] (by kernel_rfl)) (hrets rfl) rfl ⟨_, rfl, a7, c7, rfl, S19, hM0.out, hs⟩)



theorem impl_SplitLines_ok (p0 : Str) {r : (List Str)} (h : impl_SplitLines p0 = some r) {w : World} {G99 : Nat → Prop} (tb : TX Tryz.prog w G99) :
   Calls Tryz.prog 17 [Str.val p0].toArray w fun e w' => ∃ v, e = .returned v ∧ ∃ a1 c1, v = L a1 r c1 ∧ ∃ S', Stp w Non w' S' ∧ Sep [sl9 (L a1 r c1) r] w' S' := by
 unfold impl_SplitLines at h
 have hs := Sep.nil w Non
 have hM0 : Mem w Non (fun k => (G99 k) ∧ k < w.heap.size) w Non (fun k => (G99 k) ∧ k < w.heap.size) := Mem.start (fun _ h => h.elim) (fun _ h => h.2) (fun _ h => h.elim)
 have tb := tb.sub (F' := (fun k => (G99 k) ∧ k < w.heap.size)) (fun k hk h => ⟨h, hk⟩)
 refine enter (N := 21) Tryz.func17 rfl Tryz.ntmps17 rfl fun fr hF => ?_
 refine wp_seq (wp_pure [(0, Str.val p0)] hF (by kernel_rfl) fun fr hF => then_normal ?_)
 refine wp_seq ?_
 refine wp_seq (wp_pure [(0, Str.val p0), (5, .bool (Str.eqb p0 (⟨[]⟩)))] hF (by kernel_rfl) fun fr hF => then_normal ?_)
 refine (wp_if hF (b := (Str.eqb p0 (⟨[]⟩))) rfl (fun hb => ?_) (fun hb => ?_))
 · replace h := iteT hb h
   refine wp_seq (wp_pure [(2, L none ([] : List Str) 0)] hF (by kernel_rfl) fun fr hF => then_normal ?_)
   have hs : Sep [sl9 (L none ([] : List Str) 0) ([] : List Str)] w Non := hs.cons_nil (α := Str) 9
   obtain rfl := Option.some.inj h
   exact wp_ret (then_ret (ret1 rfl hF rfl ⟨_, rfl, none, 0, rfl, Non, hM0.out, hs⟩))
 replace h := iteF hb h
 refine (wp_skip (then_normal ?_))
 refine wp_seq (wp_text' ?_)
 refine from_pure 1 [(6, Str.val p0)] hF (by kernel_rfl) fun fr hF => ?_
 obtain ⟨x1, hx1, h⟩ := bindE h
 refine s_call [Str.val p0, Str.val (⟨[10]⟩)] Tryz.call34 rfl rfl hF rfl (strings_Split_ok p0 (⟨[10]⟩) hx1 tb) fun v w1 fr hRes hF => ?_
 obtain ⟨a1, c1, rfl, _, hp, hs2⟩ := hRes
 obtain ⟨S1, hp, hs⟩ := hs.got hM0 hp hs2
 have tb := tb.stp hM0 hp
 have hM0 := hM0.stp hp
 have hs : Sep [sl9 (L a1 x1 c1) x1] w1 S1 := hs
 refine from_pure 1 [(3, L a1 x1 c1)] hF (by kernel_rfl) fun fr hF => ?_
 refine from_end rfl (then_normal ?_)
 refine wp_seq ?_
 refine wp_seq (wp_text' ?_)
 refine from_pure 4 [(3, L a1 x1 c1), (8, L a1 x1 c1), (11, I (w64 ((len x1) - 1)))] hF (by kernel_rfl) fun fr hF => ?_
 obtain ⟨x2, hx2, h⟩ := bindE h
 refine s_elemF (z := x2) (Str.val x2) ty9 Tryz.underlying30 rfl rfl rfl rfl rfl hF rfl (hs.rv 0 rfl) rfl (get?_nn hx2) (get?_at hx2) rfl fun p fr hF => ?_
 refine from_pure 1 [(3, L a1 x1 c1), (14, .bool (Str.eqb x2 (⟨[]⟩)))] hF (by kernel_rfl) fun fr hF => ?_
 refine from_end rfl (then_normal ?_)
 refine (wp_if hF (b := (Str.eqb x2 (⟨[]⟩))) rfl (fun hb => ?_) (fun hb => ?_))
 · replace h := iteT hb h
   refine (wp_text' ?_)
   refine from_pure 4 [(15, L a1 x1 c1), (18, I (w64 ((len x1) - 1)))] hF (by kernel_rfl) fun fr hF => ?_
   obtain ⟨x3, hx3, h⟩ := bindE h
   refine q_front 0 hs hM0 rfl Tryz.underlying30 ty9 rfl rfl hF rfl (.inl rfl) rfl hx3 fun c2 w2 S2 fr hs hp hF => ?_
   have tb := tb.stp hM0 hp
   have hM0 := hM0.stp hp
   have hs : Sep [sl9 (L a1 x3 c2) x3] w2 S2 := hs
   refine from_pure 1 [(3, L a1 x3 c2)] hF (by kernel_rfl) fun fr hF => ?_
   refine from_end rfl (then_normal ?_)
   refine wp_seq (wp_pure [(2, L a1 x3 c2)] hF (by kernel_rfl) fun fr hF => then_normal ?_)
   obtain rfl := Option.some.inj h
   exact wp_ret (ret1 rfl hF rfl ⟨_, rfl, a1, c2, rfl, S2, hM0.out, hs⟩)
 replace h := iteF hb h
 refine (wp_skip (then_normal ?_))
 refine wp_seq (wp_pure [(2, L a1 x1 c1)] hF (by kernel_rfl) fun fr hF => then_normal ?_)
 obtain rfl := Option.some.inj h
 exact wp_ret (ret1 rfl hF rfl ⟨_, rfl, a1, c1, rfl, S1, hM0.out, hs⟩)

theorem internal_stringslite_HasPrefix_ok (p0 : Str) (p1 : Str) {r : Bool} (h : internal_stringslite_HasPrefix p0 p1 = some r) {w : World} :
   Calls Tryz.prog 55 [Str.val p0, Str.val p1].toArray w fun e w' => ∃ v, e = .returned v ∧ v = .bool r ∧ Chg Non w w' := by
 unfold internal_stringslite_HasPrefix at h
 have hs := Sep.nil w Non
 have hM0 : Mem w Non (fun k => (False) ∧ k < w.heap.size) w Non (fun k => (False) ∧ k < w.heap.size) := Mem.start (fun _ h => h.elim) (fun _ h => h.2) (fun _ h => h.elim)
 refine enter (N := 18) Tryz.func55 rfl Tryz.ntmps55 rfl fun fr hF => ?_
 refine wp_seq (wp_pure [(0, Str.val p0), (1, Str.val p1)] hF (by kernel_rfl) fun fr hF => then_normal ?_)
 refine wp_seq (wp_text' ?_)
 refine from_pure 1 [(0, Str.val p0), (1, Str.val p1), (5, Str.val p0)] hF (by kernel_rfl) fun fr hF => ?_
 refine from_pure 1 [(0, Str.val p0), (1, Str.val p1), (6, I (len p0.bytes))] hF (by kernel_rfl) fun fr hF => ?_
 refine from_pure 1 [(0, Str.val p0), (1, Str.val p1), (6, I (len p0.bytes)), (7, Str.val p1)] hF (by kernel_rfl) fun fr hF => ?_
 refine from_pure 1 [(0, Str.val p0), (1, Str.val p1), (6, I (len p0.bytes)), (8, I (len p1.bytes))] hF (by kernel_rfl) fun fr hF => ?_
 refine from_pure 1 [(0, Str.val p0), (1, Str.val p1), (9, .bool (decide ((len p0.bytes) ≥ (len p1.bytes))))] hF (by kernel_rfl) fun fr hF => ?_
 refine from_pure 1 [(0, Str.val p0), (1, Str.val p1), (10, .bool (decide ((len p0.bytes) ≥ (len p1.bytes))))] hF (by kernel_rfl) fun fr hF => ?_
 rcases ite_split (b := (decide ((len p0.bytes) ≥ (len p1.bytes)))) h with ⟨hg1, h⟩ | ⟨hg1, h⟩
 · simp only [hg1] at hF
   refine from_takeL hF rfl rfl rfl rfl rfl rfl ?_
   dsimp only [List.set]
   refine from_pure 1 [(1, Str.val p1), (10, .bool true), (11, Str.val p0)] hF (by kernel_rfl) fun fr hF => ?_
   refine from_takeL hF rfl rfl rfl rfl rfl rfl ?_
   dsimp only [List.set]
   refine from_pure 1 [(1, Str.val p1), (10, .bool true), (11, Str.val p0), (12, Str.val p1)] hF (by kernel_rfl) fun fr hF => ?_
   refine from_takeL hF rfl rfl rfl rfl rfl rfl ?_
   dsimp only [List.set]
   refine from_pure 1 [(1, Str.val p1), (10, .bool true), (11, Str.val p0), (13, I (len p1.bytes))] hF (by kernel_rfl) fun fr hF => ?_
   refine from_takeL hF rfl rfl rfl rfl rfl rfl ?_
   dsimp only [List.set]
   obtain ⟨x1, hx1, h⟩ := bindE h
   refine s_scut (s := p0) Tryz.underlying9 rfl rfl hF rfl rfl ⟨_, rfl⟩ hx1 fun fr hF => ?_
   refine from_takeL hF rfl rfl rfl rfl rfl rfl ?_
   dsimp only [List.set]
   refine from_pure 1 [(10, .bool true), (14, Str.val x1), (15, Str.val p1)] hF (by kernel_rfl) fun fr hF => ?_
   refine from_takeL hF rfl rfl rfl rfl rfl rfl ?_
   dsimp only [List.set]
   refine from_pure 1 [(10, .bool true), (16, .bool (Str.eqb x1 p1))] hF (by kernel_rfl) fun fr hF => ?_
   refine from_pick rfl rfl hF rfl rfl fun fr hF => ?_
   refine from_pure 1 [(4, .bool (Str.eqb x1 p1))] hF (by kernel_rfl) fun fr hF => ?_
   refine from_end rfl (then_normal ?_)
   obtain rfl := Option.some.inj h
   exact wp_ret (ret1 rfl hF rfl ⟨_, rfl, rfl, hM0.chg⟩)
 simp only [hg1] at hF
 refine from_skip hF rfl rfl rfl rfl rfl rfl rfl rfl rfl fun fr hF => ?_
 refine from_skip hF rfl rfl rfl rfl rfl rfl rfl rfl rfl fun fr hF => ?_
 refine from_skip hF rfl rfl rfl rfl rfl rfl rfl rfl rfl fun fr hF => ?_
 refine from_skip hF rfl rfl rfl rfl rfl rfl rfl rfl rfl fun fr hF => ?_
 refine from_skip hF rfl rfl rfl rfl rfl rfl rfl rfl rfl fun fr hF => ?_
 refine from_skip hF rfl rfl rfl rfl rfl rfl rfl rfl rfl fun fr hF => ?_
 refine from_pick rfl rfl hF rfl rfl fun fr hF => ?_
 refine from_pure 1 [(4, .bool false)] hF (by kernel_rfl) fun fr hF => ?_
 refine from_end rfl (then_normal ?_)
 obtain rfl := Option.some.inj h
 exact wp_ret (ret1 rfl hF rfl ⟨_, rfl, rfl, hM0.chg⟩)

theorem internal_stringslite_CutPrefix_ok (p0 : Str) (p1 : Str) {r : Str × Bool} (h : internal_stringslite_CutPrefix p0 p1 = some r) {w : World} :
   Calls Tryz.prog 35 [Str.val p0, Str.val p1].toArray w fun e w' => ∃ v, e = .returned v ∧ v = .tuple #[Str.val r.1, .bool r.2] ∧ Chg Non w w' := by
 unfold internal_stringslite_CutPrefix at h
 have hs := Sep.nil w Non
 have hM0 : Mem w Non (fun k => (False) ∧ k < w.heap.size) w Non (fun k => (False) ∧ k < w.heap.size) := Mem.start (fun _ h => h.elim) (fun _ h => h.2) (fun _ h => h.elim)
 refine enter (N := 15) Tryz.func35 rfl Tryz.ntmps35 rfl fun fr hF => ?_
 refine wp_seq (wp_pure [(0, Str.val p0), (1, Str.val p1)] hF (by kernel_rfl) fun fr hF => then_normal ?_)
 refine wp_seq ?_
 refine wp_seq (wp_text' ?_)
 refine from_pure 2 [(0, Str.val p0), (1, Str.val p1), (6, Str.val p0), (7, Str.val p1)] hF (by kernel_rfl) fun fr hF => ?_
 obtain ⟨x1, hx1, h⟩ := bindE h
 refine s_call [Str.val p0, Str.val p1] Tryz.call55 rfl rfl hF rfl (internal_stringslite_HasPrefix_ok p0 p1 hx1) fun v w1 fr hRes hF => ?_
 obtain ⟨rfl, hc⟩ := hRes
 have hs := hs.ext hc
 have hM0 := hM0.ext hc
 refine from_pure 1 [(0, Str.val p0), (1, Str.val p1), (9, .bool (!x1))] hF (by kernel_rfl) fun fr hF => ?_
 refine from_end rfl (then_normal ?_)
 refine (wp_if hF (b := (!x1)) rfl (fun hb => ?_) (fun hb => ?_))
 · replace h := iteT hb h
   refine wp_seq (wp_pure [(4, Str.val p0), (5, .bool false)] hF (by kernel_rfl) fun fr hF => then_normal ?_)
   have hrets := fun {σ : List (Nat × Value)} (h : σ = [(4, Str.val p0), (5, .bool false)]) => (by subst h; exact (Rets.tmp rfl (Rets.tmp rfl Rets.nil)) : Rets Tryz.prog σ w1 [.tmp 4, .tmp 5] [Str.val p0, .bool false])
   obtain rfl := Option.some.inj h
   exact wp_ret (then_ret (retG (rs := [.tmp 4, .tmp 5]) rfl (hF.sub [(4, Str.val p0), (5, .bool false)] (by kernel_rfl)) (hrets rfl) rfl ⟨_, rfl, rfl, hM0.chg⟩))
 replace h := iteF hb h
 refine (wp_skip (then_normal ?_))
 refine wp_seq (wp_text' ?_)
 refine from_pure 3 [(11, Str.val p0), (13, I (len p1.bytes))] hF (by kernel_rfl) fun fr hF => ?_
 obtain ⟨x2, hx2, h⟩ := bindE h
 refine s_scut (s := p0) Tryz.underlying9 rfl rfl hF rfl ⟨_, rfl⟩ rfl hx2 fun fr hF => ?_
 refine from_pure 2 [(4, Str.val x2), (5, .bool true)] hF (by kernel_rfl) fun fr hF => ?_
 refine from_end rfl (then_normal ?_)
 have hrets := fun {σ : List (Nat × Value)} (h : σ = [(4, Str.val x2), (5, .bool true)]) => (by subst h; exact (Rets.tmp rfl (Rets.tmp rfl Rets.nil)) : Rets Tryz.prog σ w1 [.tmp 4, .tmp 5] [Str.val x2, .bool true])
 obtain rfl := Option.some.inj h
 exact wp_ret (retG (rs := [.tmp 4, .tmp 5]) rfl (hF.sub [(4, Str.val x2), (5, .bool true)] (by kernel_rfl)) (hrets rfl) rfl ⟨_, rfl, rfl, hM0.chg⟩)

theorem strings_CutPrefix_ok (p0 : Str) (p1 : Str) {r : Str × Bool} (h : strings_CutPrefix p0 p1 = some r) {w : World} :
   Calls Tryz.prog 18 [Str.val p0, Str.val p1].toArray w fun e w' => ∃ v, e = .returned v ∧ v = .tuple #[Str.val r.1, .bool r.2] ∧ Chg Non w w' := by
 unfold strings_CutPrefix at h
 have hs := Sep.nil w Non
 have hM0 : Mem w Non (fun k => (False) ∧ k < w.heap.size) w Non (fun k => (False) ∧ k < w.heap.size) := Mem.start (fun _ h => h.elim) (fun _ h => h.2) (fun _ h => h.elim)
 refine enter (N := 11) Tryz.func18 rfl Tryz.ntmps18 rfl fun fr hF => ?_
 refine wp_seq (wp_pure [(0, Str.val p0), (1, Str.val p1)] hF (by kernel_rfl) fun fr hF => then_normal ?_)
 refine wp_seq (wp_text' ?_)
 refine from_pure 2 [(6, Str.val p0), (7, Str.val p1)] hF (by kernel_rfl) fun fr hF => ?_
 obtain ⟨x1, hx1, h⟩ := bindE h
 refine s_call [Str.val p0, Str.val p1] Tryz.call35 rfl rfl hF rfl (internal_stringslite_CutPrefix_ok p0 p1 hx1) fun v w1 fr hRes hF => ?_
 obtain ⟨rfl, hc⟩ := hRes
 have hs := hs.ext hc
 have hM0 := hM0.ext hc
 refine from_pure 4 [(4, Str.val x1.1), (5, .bool x1.2)] hF (by kernel_rfl) fun fr hF => ?_
 refine from_end rfl (then_normal ?_)
 have hrets := fun {σ : List (Nat × Value)} (h : σ = [(4, Str.val x1.1), (5, .bool x1.2)]) => (by subst h; exact (Rets.tmp rfl (Rets.tmp rfl Rets.nil)) : Rets Tryz.prog σ w1 [.tmp 4, .tmp 5] [Str.val x1.1, .bool x1.2])
 obtain rfl := Option.some.inj h
 exact wp_ret (retG (rs := [.tmp 4, .tmp 5]) rfl (hF.sub [(4, Str.val x1.1), (5, .bool x1.2)] (by kernel_rfl)) (hrets rfl) rfl ⟨_, rfl, rfl, hM0.chg⟩)



theorem strconv_Itoa_ok (p0 : Int) {r : Str} (h : strconv_Itoa p0 = some r) {w : World} {G99 : Nat → Prop} (tb : TX Tryz.prog w G99) :
   Calls Tryz.prog 57 [I p0].toArray w fun e w' => ∃ v, e = .returned v ∧ v = Str.val r ∧ Chg Non w w' := by
 unfold strconv_Itoa at h
 split at h
 · rename_i hl
   obtain rfl := Option.some.inj h
   refine (Tryz.strconv_Itoa p0 hl.1 hl.2 w tb.tab).mono ?_
   rintro e w' ⟨rfl, k, os, rfl⟩
   exact ⟨_, rfl, rfl, chg_grow w k os⟩
 · cases h

theorem impl_ParseInt_ok (p0 : Str) {r : Int × Bool} (h : impl_ParseInt p0 = some r) {w : World} {G99 : Nat → Prop} (tb : TX Tryz.prog w G99) :
   Calls Tryz.prog 36 [Str.val p0].toArray w fun e w' => ∃ v, e = .returned v ∧ v = .tuple #[I r.1, .bool r.2] ∧ Chg Non w w' := by
 unfold impl_ParseInt at h
 have hs := Sep.nil w Non
 have hM0 : Mem w Non (fun k => (G99 k) ∧ k < w.heap.size) w Non (fun k => (G99 k) ∧ k < w.heap.size) := Mem.start (fun _ h => h.elim) (fun _ h => h.2) (fun _ h => h.elim)
 have tb := tb.sub (F' := (fun k => (G99 k) ∧ k < w.heap.size)) (fun k hk h => ⟨h, hk⟩)
 refine enter (N := 20) Tryz.func36 rfl Tryz.ntmps36 rfl fun fr hF => ?_
 refine wp_seq (wp_pure [(0, Str.val p0)] hF (by kernel_rfl) fun fr hF => then_normal ?_)
 refine wp_seq (wp_text' ?_)
 refine from_pure 1 [(0, Str.val p0), (7, Str.val p0)] hF (by kernel_rfl) fun fr hF => ?_
 obtain ⟨x1, hx1, h⟩ := bindE h
 refine s_call [Str.val p0] Tryz.call56 rfl rfl hF rfl (strconv_Atoi_ok p0 hx1 tb) fun v w1 fr hRes hF => ?_
 obtain ⟨u1, rfl, hu1, hc⟩ := hRes
 have tb := tb.ext hc
 have hs := hs.ext hc
 have hM0 := hM0.ext hc
 refine from_pure 5 [(0, Str.val p0), (4, I x1.1), (5, u1)] hF (by kernel_rfl) fun fr hF => ?_
 refine from_end rfl (then_normal ?_)
 refine wp_seq ?_
 refine wp_seq (wp_text' ?_)
 refine from_pure 1 [(0, Str.val p0), (4, I x1.1), (11, u1)] hF (by kernel_rfl) fun fr hF => ?_
 refine s_bin rfl rfl hF rfl rfl (err_guard hu1 _ _ _ _ _) (err_neq Tryz.underlying63 hu1 _) fun fr hF => ?_
 refine from_pure 1 [(0, Str.val p0), (4, I x1.1), (13, .bool x1.2)] hF (by kernel_rfl) fun fr hF => ?_
 rcases ite_split (b := x1.2) h with ⟨hg1, h⟩ | ⟨hg1, h⟩
 · simp only [hg1] at hF
   refine from_skip hF rfl rfl rfl rfl rfl rfl rfl rfl rfl fun fr hF => ?_
   refine from_skip hF rfl rfl rfl rfl rfl rfl rfl rfl rfl fun fr hF => ?_
   refine from_skip hF rfl rfl rfl rfl rfl rfl rfl rfl rfl fun fr hF => ?_
   refine from_skip hF rfl rfl rfl rfl rfl rfl rfl rfl rfl fun fr hF => ?_
   refine from_pick rfl rfl hF rfl rfl fun fr hF => ?_
   refine from_end rfl (then_normal ?_)
   refine (wp_if hF (b := true) rfl (fun hb => ?_) (fun hb => ?_))
   · replace h := iteT hb h
     refine wp_seq (wp_pure [(2, I 0), (3, .bool false)] hF (by kernel_rfl) fun fr hF => then_normal ?_)
     have hrets := fun {σ : List (Nat × Value)} (h : σ = [(2, I 0), (3, .bool false)]) => (by subst h; exact (Rets.tmp rfl (Rets.tmp rfl Rets.nil)) : Rets Tryz.prog σ w1 [.tmp 2, .tmp 3] [I 0, .bool false])
     obtain rfl := Option.some.inj h
     exact wp_ret (then_ret (retG (rs := [.tmp 2, .tmp 3]) rfl (hF.sub [(2, I 0), (3, .bool false)] (by kernel_rfl)) (hrets rfl) rfl ⟨_, rfl, rfl, hM0.chg⟩))
   replace h := iteF hb h
   refine (wp_skip (then_normal ?_))
   refine wp_seq (wp_pure [(2, I x1.1), (3, .bool true)] hF (by kernel_rfl) fun fr hF => then_normal ?_)
   have hrets := fun {σ : List (Nat × Value)} (h : σ = [(2, I x1.1), (3, .bool true)]) => (by subst h; exact (Rets.tmp rfl (Rets.tmp rfl Rets.nil)) : Rets Tryz.prog σ w1 [.tmp 2, .tmp 3] [I x1.1, .bool true])
   obtain rfl := Option.some.inj h
   exact wp_ret (retG (rs := [.tmp 2, .tmp 3]) rfl (hF.sub [(2, I x1.1), (3, .bool true)] (by kernel_rfl)) (hrets rfl) rfl ⟨_, rfl, rfl, hM0.chg⟩)
 simp only [hg1] at hF
 refine from_takeL hF rfl rfl rfl rfl rfl rfl ?_
 dsimp only [List.set]
 refine from_pure 1 [(0, Str.val p0), (4, I x1.1), (13, .bool false), (14, I x1.1)] hF (by kernel_rfl) fun fr hF => ?_
 refine from_takeL hF rfl rfl rfl rfl rfl rfl ?_
 dsimp only [List.set]
 obtain ⟨x2, hx2, h⟩ := bindE h
 refine s_call [I x1.1] Tryz.call57 rfl rfl hF rfl (strconv_Itoa_ok x1.1 hx2 tb) fun v w2 fr hRes hF => ?_
 obtain ⟨rfl, hc⟩ := hRes
 have tb := tb.ext hc
 have hs := hs.ext hc
 have hM0 := hM0.ext hc
 refine from_takeL hF rfl rfl rfl rfl rfl rfl ?_
 dsimp only [List.set]
 refine from_pure 1 [(4, I x1.1), (13, .bool false), (15, Str.val x2), (16, Str.val p0)] hF (by kernel_rfl) fun fr hF => ?_
 refine from_takeL hF rfl rfl rfl rfl rfl rfl ?_
 dsimp only [List.set]
 refine from_pure 1 [(4, I x1.1), (13, .bool false), (17, .bool (!(Str.eqb x2 p0)))] hF (by kernel_rfl) fun fr hF => ?_
 refine from_pick rfl rfl hF rfl rfl fun fr hF => ?_
 refine from_end rfl (then_normal ?_)
 refine (wp_if hF (b := (!(Str.eqb x2 p0))) rfl (fun hb => ?_) (fun hb => ?_))
 · replace h := iteT hb h
   refine wp_seq (wp_pure [(2, I 0), (3, .bool false)] hF (by kernel_rfl) fun fr hF => then_normal ?_)
   have hrets := fun {σ : List (Nat × Value)} (h : σ = [(2, I 0), (3, .bool false)]) => (by subst h; exact (Rets.tmp rfl (Rets.tmp rfl Rets.nil)) : Rets Tryz.prog σ w2 [.tmp 2, .tmp 3] [I 0, .bool false])
   obtain rfl := Option.some.inj h
   exact wp_ret (then_ret (retG (rs := [.tmp 2, .tmp 3]) rfl (hF.sub [(2, I 0), (3, .bool false)] (by kernel_rfl)) (hrets rfl) rfl ⟨_, rfl, rfl, hM0.chg⟩))
 replace h := iteF hb h
 refine (wp_skip (then_normal ?_))
 refine wp_seq (wp_pure [(2, I x1.1), (3, .bool true)] hF (by kernel_rfl) fun fr hF => then_normal ?_)
 have hrets := fun {σ : List (Nat × Value)} (h : σ = [(2, I x1.1), (3, .bool true)]) => (by subst h; exact (Rets.tmp rfl (Rets.tmp rfl Rets.nil)) : Rets Tryz.prog σ w2 [.tmp 2, .tmp 3] [I x1.1, .bool true])
 obtain rfl := Option.some.inj h
 exact wp_ret (retG (rs := [.tmp 2, .tmp 3]) rfl (hF.sub [(2, I x1.1), (3, .bool true)] (by kernel_rfl)) (hrets rfl) rfl ⟨_, rfl, rfl, hM0.chg⟩)

theorem impl_ParseInts_ok (n : Nat) (p0 : Str) {r : (List Int) × Bool} (h : impl_ParseInts n p0 = some r) {w : World} {G99 : Nat → Prop} (tb : TX Tryz.prog w G99) :
   Calls Tryz.prog 19 [Str.val p0].toArray w fun e w' => ∃ v, e = .returned v ∧ ∃ a1 c1, v = .tuple #[L a1 r.1 c1, .bool r.2] ∧ ∃ S', Stp w Non w' S' ∧ Sep [sl3 (L a1 r.1 c1) r.1] w' S' := by
 unfold impl_ParseInts at h
 have hs := Sep.nil w Non
 have hM0 : Mem w Non (fun k => (G99 k) ∧ k < w.heap.size) w Non (fun k => (G99 k) ∧ k < w.heap.size) := Mem.start (fun _ h => h.elim) (fun _ h => h.2) (fun _ h => h.elim)
 have tb := tb.sub (F' := (fun k => (G99 k) ∧ k < w.heap.size)) (fun k hk h => ⟨h, hk⟩)
 refine enter (N := 31) Tryz.func19 rfl Tryz.ntmps19 rfl fun fr hF => ?_
 refine wp_seq (wp_pure [(0, Str.val p0)] hF (by kernel_rfl) fun fr hF => then_normal ?_)
 refine wp_seq ?_
 refine wp_seq (wp_pure [(0, Str.val p0), (10, .bool (Str.eqb p0 (⟨[]⟩)))] hF (by kernel_rfl) fun fr hF => then_normal ?_)
 refine (wp_if hF (b := (Str.eqb p0 (⟨[]⟩))) rfl (fun hb => ?_) (fun hb => ?_))
 · replace h := iteT hb h
   refine wp_seq (wp_pure [(2, L none ([] : List Int) 0), (3, .bool true)] hF (by kernel_rfl) fun fr hF => then_normal ?_)
   have hrets := fun {σ : List (Nat × Value)} (h : σ = [(2, L none ([] : List Int) 0), (3, .bool true)]) => (by subst h; exact (Rets.tmp rfl (Rets.tmp rfl Rets.nil)) : Rets Tryz.prog σ w [.tmp 2, .tmp 3] [L none ([] : List Int) 0, .bool true])
   have hs : Sep [sl3 (L none ([] : List Int) 0) ([] : List Int)] w Non := hs.cons_nil (α := Int) 3
   obtain rfl := Option.some.inj h
   exact wp_ret (then_ret (retG (rs := [.tmp 2, .tmp 3]) rfl (hF.sub [(2, L none ([] : List Int) 0), (3, .bool true)] (by kernel_rfl)) (hrets rfl) rfl ⟨_, rfl, none, 0, rfl, Non, hM0.out, hs⟩))
 replace h := iteF hb h
 refine (wp_skip (then_normal ?_))
 refine wp_seq (wp_pure [(0, Str.val p0), (4, L none ([] : List Int) 0)] hF (by kernel_rfl) fun fr hF => then_normal ?_)
 refine wp_seq ?_
 refine wp_seq (wp_text' ?_)
 refine from_pure 1 [(4, L none ([] : List Int) 0), (11, Str.val p0)] hF (by kernel_rfl) fun fr hF => ?_
 obtain ⟨x1, hx1, h⟩ := bindE h
 refine s_call [Str.val p0, Str.val (⟨[32]⟩)] Tryz.call34 rfl rfl hF rfl (strings_Split_ok p0 (⟨[32]⟩) hx1 tb) fun v w1 fr hRes hF => ?_
 obtain ⟨a1, c1, rfl, _, hp, hs2⟩ := hRes
 obtain ⟨S1, hp, hs⟩ := hs.got hM0 hp hs2
 have tb := tb.stp hM0 hp
 have hM0 := hM0.stp hp
 have hs : Sep [sl9 (L a1 x1 c1) x1] w1 S1 := hs
 refine from_pure 2 [(4, L none ([] : List Int) 0), (12, L a1 x1 c1), (13, I (len x1)), (14, I 0)] hF (by kernel_rfl) fun fr hF => ?_
 refine from_end rfl (then_normal ?_)
 have hs : Sep [sl3 (L none ([] : List Int) 0) ([] : List Int), sl9 (L a1 x1 c1) x1] w1 S1 := hs.cons_nil (α := Int) 3
 obtain ⟨rl1, hit1, h⟩ := bindE h
 have hk1 := h
 refine (GL.wp_cut (M := fun fr w' => ∃ s, rl1 = .inl s ∧ ∃ a3 c3 S3 F2, FrS 31 [(4, L a3 s c3)] fr ∧ Mem w1 S1 (fun k => (G99 k) ∧ k < w.heap.size) w' S3 F2 ∧ Sep [sl3 (L a3 s c3) s] w' S3) (wp_block (wp_iter (Inv := fun s1 fr w' => ∃ a2 c2 S2 F1, FrS 31 [(4, L a2 s1.2 c2), (12, L a1 x1 c1), (13, I (len x1)), (14, I s1.1)] fr ∧ Mem w1 S1 (fun k => (G99 k) ∧ k < w.heap.size) w' S2 F1 ∧ Sep [sl3 (L a2 s1.2 c2) s1.2, sl9 (L a1 x1 c1) x1] w' S2) hit1 ⟨none, 0, S1, _, hF.sub _ (by kernel_rfl), (Mem.start hM0.bd hM0.bdF hM0.dj), hs⟩ fun s1 q1 fr w1i hI h hr1 => ?_)) fun fr w1o hM => ?_)
 · obtain ⟨a2, c2, S2, F1, hF, hM1, hs⟩ := hI
   have tb := tb.mem hM1
   refine wp_seq (wp_pure [(4, L a2 s1.2 c2), (12, L a1 x1 c1), (13, I (len x1)), (14, I s1.1), (15, .bool (decide (s1.1 < (len x1))))] hF (by kernel_rfl) fun fr hF => then_normal ?_)
   refine wp_seq (wp_if hF (b := (decide (s1.1 < (len x1)))) rfl (fun hb => ?_) (fun hb => ?_))
   · replace h := iteT hb h
     refine (wp_skip (then_normal ?_))
     refine wp_seq (wp_block ?_)
     refine wp_seq (wp_text' ?_)
     obtain ⟨x2, hx2, h⟩ := bindE h
     refine s_elemF (z := x2) (Str.val x2) ty9 Tryz.underlying30 rfl rfl rfl rfl rfl hF rfl (hs.rv 1 rfl) rfl (get?_nn hx2) (get?_at hx2) rfl fun p fr hF => ?_
     refine from_pure 1 [(4, L a2 s1.2 c2), (6, Str.val x2), (12, L a1 x1 c1), (13, I (len x1)), (14, I s1.1)] hF (by kernel_rfl) fun fr hF => ?_
     refine from_end rfl (then_normal ?_)
     refine wp_seq (wp_text' ?_)
     refine from_pure 1 [(4, L a2 s1.2 c2), (12, L a1 x1 c1), (13, I (len x1)), (14, I s1.1), (19, Str.val x2)] hF (by kernel_rfl) fun fr hF => ?_
     obtain ⟨x3, hx3, h⟩ := bindE h
     refine s_call [Str.val x2] Tryz.call36 rfl rfl hF rfl (impl_ParseInt_ok x2 hx3 tb) fun v w2 fr hRes hF => ?_
     obtain ⟨rfl, hc⟩ := hRes
     have tb := tb.ext hc
     have hs := hs.ext hc
     have hM1 := hM1.ext hc
     refine from_pure 5 [(4, L a2 s1.2 c2), (7, I x3.1), (8, .bool x3.2), (12, L a1 x1 c1), (13, I (len x1)), (14, I s1.1)] hF (by kernel_rfl) fun fr hF => ?_
     refine from_end rfl (then_normal ?_)
     refine wp_seq ?_
     refine wp_seq (wp_pure [(4, L a2 s1.2 c2), (7, I x3.1), (12, L a1 x1 c1), (13, I (len x1)), (14, I s1.1), (24, .bool (!x3.2))] hF (by kernel_rfl) fun fr hF => then_normal ?_)
     refine (wp_if hF (b := (!x3.2)) rfl (fun hb => ?_) (fun hb => ?_))
     · replace h := iteT hb h
       have hs : Sep [] w2 S2 := Sep.pick [] hs (by decide) rfl
       refine wp_seq (wp_pure [(2, L none ([] : List Int) 0), (3, .bool false)] hF (by kernel_rfl) fun fr hF => then_normal ?_)
       have hrets := fun {σ : List (Nat × Value)} (h : σ = [(2, L none ([] : List Int) 0), (3, .bool false)]) => (by subst h; exact (Rets.tmp rfl (Rets.tmp rfl Rets.nil)) : Rets Tryz.prog σ w2 [.tmp 2, .tmp 3] [L none ([] : List Int) 0, .bool false])
       have hs : Sep [sl3 (L none ([] : List Int) 0) ([] : List Int)] w2 S2 := hs.cons_nil (α := Int) 3
       obtain rfl := hr1 _ (Option.some.inj h).symm
       obtain rfl := Option.some.inj hk1
       exact wp_ret (then_ret (blk_ret (then_ret (then_ret (blk_ret (then_ret (retG (rs := [.tmp 2, .tmp 3]) rfl (hF.sub [(2, L none ([] : List Int) 0), (3, .bool false)] (by kernel_rfl)) (hrets rfl) rfl ⟨_, rfl, none, 0, rfl, S2, (hM0.trans hM1).out, hs⟩)))))))
     replace h := iteF hb h
     refine (wp_skip (then_normal ?_))
     refine (wp_text' ?_)
     refine from_pure 2 [(12, L a1 x1 c1), (13, I (len x1)), (14, I s1.1), (25, L a2 s1.2 c2), (26, I x3.1)] hF (by kernel_rfl) fun fr hF => ?_
     refine q_lit (E := 3) hs hM1 [I x3.1] (([x3.1] : List Int).map Flat.enc) ([x3.1] : List Int) rfl rfl hF [I x3.1] rfl (fun w => by kernel_rfl) (css_flat _) rfl rfl rfl fun a4 c4 w3 S4 fr hs hp hF => ?_
     have tb := tb.stp hM1 hp
     have hM1 := hM1.stp hp
     have hs : Sep [sl3 (L a4 ([x3.1] : List Int) c4) ([x3.1] : List Int), sl3 (L a2 s1.2 c2) s1.2, sl9 (L a1 x1 c1) x1] w3 S4 := hs
     obtain ⟨x4, hx4, h⟩ := bindE h
     refine q_append 1 hs hM1 rfl Tryz.underlying33 el3 rfl rfl rfl hF rfl rfl (hs.rv 0 rfl) hx4 fun a5 c5 w4 S5 fr hs hp hF => ?_
     have tb := tb.stp hM1 hp
     have hM1 := hM1.stp hp
     have hs : Sep [sl3 (L a4 ([x3.1] : List Int) c4) ([x3.1] : List Int), sl3 (L a5 x4 c5) x4, sl9 (L a1 x1 c1) x1] w4 S5 := hs
     have hs : Sep [sl3 (L a5 x4 c5) x4, sl9 (L a1 x1 c1) x1] w4 S5 := Sep.pick [1, 2] hs (by decide) rfl
     refine from_pure 1 [(4, L a5 x4 c5), (12, L a1 x1 c1), (13, I (len x1)), (14, I s1.1)] hF (by kernel_rfl) fun fr hF => ?_
     refine from_end rfl ?_
     refine blk_normal (then_normal ?_)
     refine (wp_pure [(4, L a5 x4 c5), (12, L a1 x1 c1), (13, I (len x1)), (14, I (w64 (s1.1 + 1)))] hF (by kernel_rfl) fun fr hF => then_normal ?_)
     exact ⟨_, (Option.some.inj h).symm, a5, c5, S5, _, hF.sub _ (by kernel_rfl), hM1, hs⟩
   replace h := iteF hb h
   have hs : Sep [sl3 (L a2 s1.2 c2) s1.2] w1i S2 := Sep.pick [0] hs (by decide) rfl
   refine (wp_exit (then_exit (then_exit (blk_exit_eq ?_))))
   obtain rfl := hr1 _ (Option.some.inj h).symm
   exact then_normal ⟨_, rfl, a2, c2, S2, _, hF.sub _ (by kernel_rfl), hM1, hs⟩
 · obtain ⟨s1r, rfl, hM⟩ := hM
   obtain ⟨a3, c3, S3, F2, hF, hMx, hs⟩ := hM
   have tb := tb.mem hMx
   have hM0 := hM0.trans hMx
   refine wp_seq (wp_pure [(2, L a3 s1r c3), (3, .bool true)] hF (by kernel_rfl) fun fr hF => then_normal ?_)
   have hrets := fun {σ : List (Nat × Value)} (h : σ = [(2, L a3 s1r c3), (3, .bool true)]) => (by subst h; exact (Rets.tmp rfl (Rets.tmp rfl Rets.nil)) : Rets Tryz.prog σ w1o [.tmp 2, .tmp 3] [L a3 s1r c3, .bool true])
   obtain rfl := Option.some.inj h
   exact wp_ret (retG (rs := [.tmp 2, .tmp 3]) rfl (hF.sub [(2, L a3 s1r c3), (3, .bool true)] (by kernel_rfl)) (hrets rfl) rfl ⟨_, rfl, a3, c3, rfl, S3, hM0.out, hs⟩)

theorem impl_insWord_ok (p0 : Int) {r : Str} (h : impl_insWord p0 = some r) {w : World} :
   Calls Tryz.prog 37 [I p0].toArray w fun e w' => ∃ v, e = .returned v ∧ v = Str.val r ∧ Chg Non w w' := by
 unfold impl_insWord at h
 have hs := Sep.nil w Non
 have hM0 : Mem w Non (fun k => (False) ∧ k < w.heap.size) w Non (fun k => (False) ∧ k < w.heap.size) := Mem.start (fun _ h => h.elim) (fun _ h => h.2) (fun _ h => h.elim)
 refine enter (N := 30) Tryz.func37 rfl Tryz.ntmps37 rfl fun fr hF => ?_
 refine wp_seq (wp_pure [(0, I p0)] hF (by kernel_rfl) fun fr hF => then_normal ?_)
 refine wp_seq ?_
 refine wp_seq (wp_pure [(3, I p0)] hF (by kernel_rfl) fun fr hF => then_normal ?_)
 refine (wp_block ?_)
 refine wp_seq (wp_pure [(3, I p0), (4, .bool (p0 == 1))] hF (by kernel_rfl) fun fr hF => then_normal ?_)
 refine (wp_if hF (b := (p0 == 1)) rfl (fun hb => ?_) (fun hb => ?_))
 · replace h := iteT hb h
   refine wp_seq (wp_pure [(2, Str.val (⟨[115, 101, 116]⟩))] hF (by kernel_rfl) fun fr hF => then_normal ?_)
   obtain rfl := Option.some.inj h
   exact wp_ret (blk_ret (then_ret (ret1 rfl hF rfl ⟨_, rfl, rfl, hM0.chg⟩)))
 replace h := iteF hb h
 refine wp_seq (wp_pure [(3, I p0), (6, .bool (p0 == 2))] hF (by kernel_rfl) fun fr hF => then_normal ?_)
 refine (wp_if hF (b := (p0 == 2)) rfl (fun hb => ?_) (fun hb => ?_))
 · replace h := iteT hb h
   refine wp_seq (wp_pure [(2, Str.val (⟨[109, 111, 118, 101]⟩))] hF (by kernel_rfl) fun fr hF => then_normal ?_)
   obtain rfl := Option.some.inj h
   exact wp_ret (blk_ret (then_ret (ret1 rfl hF rfl ⟨_, rfl, rfl, hM0.chg⟩)))
 replace h := iteF hb h
 refine wp_seq (wp_pure [(3, I p0), (8, .bool (p0 == 4))] hF (by kernel_rfl) fun fr hF => then_normal ?_)
 refine (wp_if hF (b := (p0 == 4)) rfl (fun hb => ?_) (fun hb => ?_))
 · replace h := iteT hb h
   refine wp_seq (wp_pure [(2, Str.val (⟨[110, 111, 116]⟩))] hF (by kernel_rfl) fun fr hF => then_normal ?_)
   obtain rfl := Option.some.inj h
   exact wp_ret (blk_ret (then_ret (ret1 rfl hF rfl ⟨_, rfl, rfl, hM0.chg⟩)))
 replace h := iteF hb h
 refine wp_seq (wp_pure [(3, I p0), (10, .bool (p0 == 5))] hF (by kernel_rfl) fun fr hF => then_normal ?_)
 refine (wp_if hF (b := (p0 == 5)) rfl (fun hb => ?_) (fun hb => ?_))
 · replace h := iteT hb h
   refine wp_seq (wp_pure [(2, Str.val (⟨[105, 110]⟩))] hF (by kernel_rfl) fun fr hF => then_normal ?_)
   obtain rfl := Option.some.inj h
   exact wp_ret (blk_ret (then_ret (ret1 rfl hF rfl ⟨_, rfl, rfl, hM0.chg⟩)))
 replace h := iteF hb h
 refine wp_seq (wp_pure [(3, I p0), (12, .bool (p0 == 6))] hF (by kernel_rfl) fun fr hF => then_normal ?_)
 refine (wp_if hF (b := (p0 == 6)) rfl (fun hb => ?_) (fun hb => ?_))
 · replace h := iteT hb h
   refine wp_seq (wp_pure [(2, Str.val (⟨[111, 117, 116]⟩))] hF (by kernel_rfl) fun fr hF => then_normal ?_)
   obtain rfl := Option.some.inj h
   exact wp_ret (blk_ret (then_ret (ret1 rfl hF rfl ⟨_, rfl, rfl, hM0.chg⟩)))
 replace h := iteF hb h
 refine wp_seq (wp_pure [(3, I p0), (14, .bool (p0 == 7))] hF (by kernel_rfl) fun fr hF => then_normal ?_)
 refine (wp_if hF (b := (p0 == 7)) rfl (fun hb => ?_) (fun hb => ?_))
 · replace h := iteT hb h
   refine wp_seq (wp_pure [(2, Str.val (⟨[108, 111, 97, 100]⟩))] hF (by kernel_rfl) fun fr hF => then_normal ?_)
   obtain rfl := Option.some.inj h
   exact wp_ret (blk_ret (then_ret (ret1 rfl hF rfl ⟨_, rfl, rfl, hM0.chg⟩)))
 replace h := iteF hb h
 refine wp_seq (wp_pure [(3, I p0), (16, .bool (p0 == 8))] hF (by kernel_rfl) fun fr hF => then_normal ?_)
 refine (wp_if hF (b := (p0 == 8)) rfl (fun hb => ?_) (fun hb => ?_))
 · replace h := iteT hb h
   refine wp_seq (wp_pure [(2, Str.val (⟨[115, 116, 111, 114, 101]⟩))] hF (by kernel_rfl) fun fr hF => then_normal ?_)
   obtain rfl := Option.some.inj h
   exact wp_ret (blk_ret (then_ret (ret1 rfl hF rfl ⟨_, rfl, rfl, hM0.chg⟩)))
 replace h := iteF hb h
 refine wp_seq (wp_pure [(3, I p0), (18, .bool (p0 == 9))] hF (by kernel_rfl) fun fr hF => then_normal ?_)
 refine (wp_if hF (b := (p0 == 9)) rfl (fun hb => ?_) (fun hb => ?_))
 · replace h := iteT hb h
   refine wp_seq (wp_pure [(2, Str.val (⟨[106, 117, 109, 112]⟩))] hF (by kernel_rfl) fun fr hF => then_normal ?_)
   obtain rfl := Option.some.inj h
   exact wp_ret (blk_ret (then_ret (ret1 rfl hF rfl ⟨_, rfl, rfl, hM0.chg⟩)))
 replace h := iteF hb h
 refine wp_seq (wp_pure [(3, I p0), (20, .bool (p0 == 10))] hF (by kernel_rfl) fun fr hF => then_normal ?_)
 refine (wp_if hF (b := (p0 == 10)) rfl (fun hb => ?_) (fun hb => ?_))
 · replace h := iteT hb h
   refine wp_seq (wp_pure [(2, Str.val (⟨[122, 101, 114, 111]⟩))] hF (by kernel_rfl) fun fr hF => then_normal ?_)
   obtain rfl := Option.some.inj h
   exact wp_ret (blk_ret (then_ret (ret1 rfl hF rfl ⟨_, rfl, rfl, hM0.chg⟩)))
 replace h := iteF hb h
 refine wp_seq (wp_pure [(3, I p0), (22, .bool (p0 == 11))] hF (by kernel_rfl) fun fr hF => then_normal ?_)
 refine (wp_if hF (b := (p0 == 11)) rfl (fun hb => ?_) (fun hb => ?_))
 · replace h := iteT hb h
   refine wp_seq (wp_pure [(2, Str.val (⟨[99, 97, 108, 108]⟩))] hF (by kernel_rfl) fun fr hF => then_normal ?_)
   obtain rfl := Option.some.inj h
   exact wp_ret (blk_ret (then_ret (ret1 rfl hF rfl ⟨_, rfl, rfl, hM0.chg⟩)))
 replace h := iteF hb h
 refine wp_seq (wp_pure [(3, I p0), (24, .bool (p0 == 12))] hF (by kernel_rfl) fun fr hF => then_normal ?_)
 refine (wp_if hF (b := (p0 == 12)) rfl (fun hb => ?_) (fun hb => ?_))
 · replace h := iteT hb h
   refine wp_seq (wp_pure [(2, Str.val (⟨[114, 101, 116]⟩))] hF (by kernel_rfl) fun fr hF => then_normal ?_)
   obtain rfl := Option.some.inj h
   exact wp_ret (blk_ret (then_ret (ret1 rfl hF rfl ⟨_, rfl, rfl, hM0.chg⟩)))
 replace h := iteF hb h
 refine wp_seq (wp_pure [(3, I p0), (26, .bool (p0 == 13))] hF (by kernel_rfl) fun fr hF => then_normal ?_)
 refine (wp_if hF (b := (p0 == 13)) rfl (fun hb => ?_) (fun hb => ?_))
 · replace h := iteT hb h
   refine wp_seq (wp_pure [(2, Str.val (⟨[99, 104, 101, 99, 107]⟩))] hF (by kernel_rfl) fun fr hF => then_normal ?_)
   obtain rfl := Option.some.inj h
   exact wp_ret (blk_ret (then_ret (ret1 rfl hF rfl ⟨_, rfl, rfl, hM0.chg⟩)))
 replace h := iteF hb h
 refine wp_seq (wp_pure [(28, .bool (p0 == 14))] hF (by kernel_rfl) fun fr hF => then_normal ?_)
 refine (wp_if hF (b := (p0 == 14)) rfl (fun hb => ?_) (fun hb => ?_))
 · replace h := iteT hb h
   refine wp_seq (wp_pure [(2, Str.val (⟨[104, 97, 108, 116]⟩))] hF (by kernel_rfl) fun fr hF => then_normal ?_)
   obtain rfl := Option.some.inj h
   exact wp_ret (blk_ret (then_ret (ret1 rfl hF rfl ⟨_, rfl, rfl, hM0.chg⟩)))
 replace h := iteF hb h
 refine (wp_skip ?_)
 refine blk_normal (then_normal ?_)
 refine wp_seq (wp_pure [(2, Str.val (⟨[]⟩))] hF (by kernel_rfl) fun fr hF => then_normal ?_)
 obtain rfl := Option.some.inj h
 exact wp_ret (ret1 rfl hF rfl ⟨_, rfl, rfl, hM0.chg⟩)

theorem impl_OpName_ok (p0 : Int) {r : Str} (h : impl_OpName p0 = some r) {w : World} :
   Calls Tryz.prog 58 [I p0].toArray w fun e w' => ∃ v, e = .returned v ∧ v = Str.val r ∧ Chg Non w w' := by
 unfold impl_OpName at h
 have hs := Sep.nil w Non
 have hM0 : Mem w Non (fun k => (False) ∧ k < w.heap.size) w Non (fun k => (False) ∧ k < w.heap.size) := Mem.start (fun _ h => h.elim) (fun _ h => h.2) (fun _ h => h.elim)
 refine enter (N := 18) Tryz.func58 rfl Tryz.ntmps58 rfl fun fr hF => ?_
 refine wp_seq (wp_pure [(0, I p0)] hF (by kernel_rfl) fun fr hF => then_normal ?_)
 refine wp_seq (wp_text' ?_)
 refine q_lit (E := 9) hs hM0 [Str.val (⟨[110, 111, 116]⟩), Str.val (⟨[110, 101, 103]⟩), Str.val (⟨[97, 100, 100]⟩), Str.val (⟨[115, 117, 98]⟩), Str.val (⟨[109, 117, 108]⟩), Str.val (⟨[100, 105, 118]⟩), Str.val (⟨[114, 101, 109]⟩), Str.val (⟨[97, 110, 100]⟩), Str.val (⟨[111, 114]⟩), Str.val (⟨[120, 111, 114]⟩), Str.val (⟨[115, 104, 108]⟩), Str.val (⟨[115, 104, 114]⟩), Str.val (⟨[115, 97, 114]⟩), Str.val (⟨[101, 113]⟩), Str.val (⟨[108, 101, 115, 115]⟩), Str.val (⟨[98, 101, 108, 111, 119]⟩)] (([⟨[110, 111, 116]⟩, ⟨[110, 101, 103]⟩, ⟨[97, 100, 100]⟩, ⟨[115, 117, 98]⟩, ⟨[109, 117, 108]⟩, ⟨[100, 105, 118]⟩, ⟨[114, 101, 109]⟩, ⟨[97, 110, 100]⟩, ⟨[111, 114]⟩, ⟨[120, 111, 114]⟩, ⟨[115, 104, 108]⟩, ⟨[115, 104, 114]⟩, ⟨[115, 97, 114]⟩, ⟨[101, 113]⟩, ⟨[108, 101, 115, 115]⟩, ⟨[98, 101, 108, 111, 119]⟩] : List Str).map Flat.enc) ([⟨[110, 111, 116]⟩, ⟨[110, 101, 103]⟩, ⟨[97, 100, 100]⟩, ⟨[115, 117, 98]⟩, ⟨[109, 117, 108]⟩, ⟨[100, 105, 118]⟩, ⟨[114, 101, 109]⟩, ⟨[97, 110, 100]⟩, ⟨[111, 114]⟩, ⟨[120, 111, 114]⟩, ⟨[115, 104, 108]⟩, ⟨[115, 104, 114]⟩, ⟨[115, 97, 114]⟩, ⟨[101, 113]⟩, ⟨[108, 101, 115, 115]⟩, ⟨[98, 101, 108, 111, 119]⟩] : List Str) rfl rfl hF [Str.val (⟨[110, 111, 116]⟩), Str.val (⟨[110, 101, 103]⟩), Str.val (⟨[97, 100, 100]⟩), Str.val (⟨[115, 117, 98]⟩), Str.val (⟨[109, 117, 108]⟩), Str.val (⟨[100, 105, 118]⟩), Str.val (⟨[114, 101, 109]⟩), Str.val (⟨[97, 110, 100]⟩), Str.val (⟨[111, 114]⟩), Str.val (⟨[120, 111, 114]⟩), Str.val (⟨[115, 104, 108]⟩), Str.val (⟨[115, 104, 114]⟩), Str.val (⟨[115, 97, 114]⟩), Str.val (⟨[101, 113]⟩), Str.val (⟨[108, 101, 115, 115]⟩), Str.val (⟨[98, 101, 108, 111, 119]⟩)] rfl (fun w => by kernel_rfl) (css_flat _) rfl rfl rfl fun a1 c1 w1 S1 fr hs hp hF => ?_
 have hM0 := hM0.stp hp
 have hs : Sep [sl9 (L a1 ([⟨[110, 111, 116]⟩, ⟨[110, 101, 103]⟩, ⟨[97, 100, 100]⟩, ⟨[115, 117, 98]⟩, ⟨[109, 117, 108]⟩, ⟨[100, 105, 118]⟩, ⟨[114, 101, 109]⟩, ⟨[97, 110, 100]⟩, ⟨[111, 114]⟩, ⟨[120, 111, 114]⟩, ⟨[115, 104, 108]⟩, ⟨[115, 104, 114]⟩, ⟨[115, 97, 114]⟩, ⟨[101, 113]⟩, ⟨[108, 101, 115, 115]⟩, ⟨[98, 101, 108, 111, 119]⟩] : List Str) c1) ([⟨[110, 111, 116]⟩, ⟨[110, 101, 103]⟩, ⟨[97, 100, 100]⟩, ⟨[115, 117, 98]⟩, ⟨[109, 117, 108]⟩, ⟨[100, 105, 118]⟩, ⟨[114, 101, 109]⟩, ⟨[97, 110, 100]⟩, ⟨[111, 114]⟩, ⟨[120, 111, 114]⟩, ⟨[115, 104, 108]⟩, ⟨[115, 104, 114]⟩, ⟨[115, 97, 114]⟩, ⟨[101, 113]⟩, ⟨[108, 101, 115, 115]⟩, ⟨[98, 101, 108, 111, 119]⟩] : List Str)] w1 S1 := hs
 refine from_pure 1 [(0, I p0), (3, L a1 ([⟨[110, 111, 116]⟩, ⟨[110, 101, 103]⟩, ⟨[97, 100, 100]⟩, ⟨[115, 117, 98]⟩, ⟨[109, 117, 108]⟩, ⟨[100, 105, 118]⟩, ⟨[114, 101, 109]⟩, ⟨[97, 110, 100]⟩, ⟨[111, 114]⟩, ⟨[120, 111, 114]⟩, ⟨[115, 104, 108]⟩, ⟨[115, 104, 114]⟩, ⟨[115, 97, 114]⟩, ⟨[101, 113]⟩, ⟨[108, 101, 115, 115]⟩, ⟨[98, 101, 108, 111, 119]⟩] : List Str) c1)] hF (by kernel_rfl) fun fr hF => ?_
 refine from_end rfl (then_normal ?_)
 refine wp_seq ?_
 refine wp_seq (region_b [] [true, true, true, true, true, true, true, true]
     [.eq (I p0), .eq (.bool (decide (p0 < 1))), .eq (.bool (decide (p0 < 1))), .eq (I p0), .eq (L a1 ([⟨[110, 111, 116]⟩, ⟨[110, 101, 103]⟩, ⟨[97, 100, 100]⟩, ⟨[115, 117, 98]⟩, ⟨[109, 117, 108]⟩, ⟨[100, 105, 118]⟩, ⟨[114, 101, 109]⟩, ⟨[97, 110, 100]⟩, ⟨[111, 114]⟩, ⟨[120, 111, 114]⟩, ⟨[115, 104, 108]⟩, ⟨[115, 104, 114]⟩, ⟨[115, 97, 114]⟩, ⟨[101, 113]⟩, ⟨[108, 101, 115, 115]⟩, ⟨[98, 101, 108, 111, 119]⟩] : List Str) c1), .eq (I (len ([⟨[110, 111, 116]⟩, ⟨[110, 101, 103]⟩, ⟨[97, 100, 100]⟩, ⟨[115, 117, 98]⟩, ⟨[109, 117, 108]⟩, ⟨[100, 105, 118]⟩, ⟨[114, 101, 109]⟩, ⟨[97, 110, 100]⟩, ⟨[111, 114]⟩, ⟨[120, 111, 114]⟩, ⟨[115, 104, 108]⟩, ⟨[115, 104, 114]⟩, ⟨[115, 97, 114]⟩, ⟨[101, 113]⟩, ⟨[108, 101, 115, 115]⟩, ⟨[98, 101, 108, 111, 119]⟩] : List Str))), .eq (.bool (decide (p0 > (len ([⟨[110, 111, 116]⟩, ⟨[110, 101, 103]⟩, ⟨[97, 100, 100]⟩, ⟨[115, 117, 98]⟩, ⟨[109, 117, 108]⟩, ⟨[100, 105, 118]⟩, ⟨[114, 101, 109]⟩, ⟨[97, 110, 100]⟩, ⟨[111, 114]⟩, ⟨[120, 111, 114]⟩, ⟨[115, 104, 108]⟩, ⟨[115, 104, 114]⟩, ⟨[115, 97, 114]⟩, ⟨[101, 113]⟩, ⟨[108, 101, 115, 115]⟩, ⟨[98, 101, 108, 111, 119]⟩] : List Str))))), .eq (.bool ((decide (p0 < 1)) || (decide (p0 > (len ([⟨[110, 111, 116]⟩, ⟨[110, 101, 103]⟩, ⟨[97, 100, 100]⟩, ⟨[115, 117, 98]⟩, ⟨[109, 117, 108]⟩, ⟨[100, 105, 118]⟩, ⟨[114, 101, 109]⟩, ⟨[97, 110, 100]⟩, ⟨[111, 114]⟩, ⟨[120, 111, 114]⟩, ⟨[115, 104, 108]⟩, ⟨[115, 104, 114]⟩, ⟨[115, 97, 114]⟩, ⟨[101, 113]⟩, ⟨[108, 101, 115, 115]⟩, ⟨[98, 101, 108, 111, 119]⟩] : List Str))))))]
     [(0, I p0), (3, L a1 ([⟨[110, 111, 116]⟩, ⟨[110, 101, 103]⟩, ⟨[97, 100, 100]⟩, ⟨[115, 117, 98]⟩, ⟨[109, 117, 108]⟩, ⟨[100, 105, 118]⟩, ⟨[114, 101, 109]⟩, ⟨[97, 110, 100]⟩, ⟨[111, 114]⟩, ⟨[120, 111, 114]⟩, ⟨[115, 104, 108]⟩, ⟨[115, 104, 114]⟩, ⟨[115, 97, 114]⟩, ⟨[101, 113]⟩, ⟨[108, 101, 115, 115]⟩, ⟨[98, 101, 108, 111, 119]⟩] : List Str) c1), (12, .bool ((decide (p0 < 1)) || (decide (p0 > (len ([⟨[110, 111, 116]⟩, ⟨[110, 101, 103]⟩, ⟨[97, 100, 100]⟩, ⟨[115, 117, 98]⟩, ⟨[109, 117, 108]⟩, ⟨[100, 105, 118]⟩, ⟨[114, 101, 109]⟩, ⟨[97, 110, 100]⟩, ⟨[111, 114]⟩, ⟨[120, 111, 114]⟩, ⟨[115, 104, 108]⟩, ⟨[115, 104, 114]⟩, ⟨[115, 97, 114]⟩, ⟨[101, 113]⟩, ⟨[108, 101, 115, 115]⟩, ⟨[98, 101, 108, 111, 119]⟩] : List Str))))))] mix hF (by kernel_rfl) (by kernel_rfl) (by kernel_rfl) trivial (fun hG => trivial) (by kernel_rfl) fun fr w2 hF hE hc => then_normal ?_)
 have hs := hs.ext hc
 have hM0 := hM0.ext hc
 refine (wp_if hF (b := ((decide (p0 < 1)) || (decide (p0 > (len ([⟨[110, 111, 116]⟩, ⟨[110, 101, 103]⟩, ⟨[97, 100, 100]⟩, ⟨[115, 117, 98]⟩, ⟨[109, 117, 108]⟩, ⟨[100, 105, 118]⟩, ⟨[114, 101, 109]⟩, ⟨[97, 110, 100]⟩, ⟨[111, 114]⟩, ⟨[120, 111, 114]⟩, ⟨[115, 104, 108]⟩, ⟨[115, 104, 114]⟩, ⟨[115, 97, 114]⟩, ⟨[101, 113]⟩, ⟨[108, 101, 115, 115]⟩, ⟨[98, 101, 108, 111, 119]⟩] : List Str)))))) rfl (fun hb => ?_) (fun hb => ?_))
 · replace h := iteT hb h
   have hs : Sep [] w2 S1 := Sep.pick [] hs (by decide) rfl
   refine wp_seq (wp_pure [(2, Str.val (⟨[]⟩))] hF (by kernel_rfl) fun fr hF => then_normal ?_)
   obtain rfl := Option.some.inj h
   exact wp_ret (then_ret (ret1 rfl hF rfl ⟨_, rfl, rfl, hM0.chg⟩))
 replace h := iteF hb h
 refine (wp_skip (then_normal ?_))
 refine wp_seq (wp_text' ?_)
 refine from_pure 3 [(13, L a1 ([⟨[110, 111, 116]⟩, ⟨[110, 101, 103]⟩, ⟨[97, 100, 100]⟩, ⟨[115, 117, 98]⟩, ⟨[109, 117, 108]⟩, ⟨[100, 105, 118]⟩, ⟨[114, 101, 109]⟩, ⟨[97, 110, 100]⟩, ⟨[111, 114]⟩, ⟨[120, 111, 114]⟩, ⟨[115, 104, 108]⟩, ⟨[115, 104, 114]⟩, ⟨[115, 97, 114]⟩, ⟨[101, 113]⟩, ⟨[108, 101, 115, 115]⟩, ⟨[98, 101, 108, 111, 119]⟩] : List Str) c1), (15, I (w64 (p0 - 1)))] hF (by kernel_rfl) fun fr hF => ?_
 obtain ⟨x1, hx1, h⟩ := bindE h
 refine s_elemF (z := x1) (Str.val x1) ty9 Tryz.underlying30 rfl rfl rfl rfl rfl hF rfl (hs.rv 0 rfl) rfl (get?_nn hx1) (get?_at hx1) rfl fun p fr hF => ?_
 have hs : Sep [] w2 S1 := Sep.pick [] hs (by decide) rfl
 refine from_pure 1 [(2, Str.val x1)] hF (by kernel_rfl) fun fr hF => ?_
 refine from_end rfl (then_normal ?_)
 obtain rfl := Option.some.inj h
 exact wp_ret (ret1 rfl hF rfl ⟨_, rfl, rfl, hM0.chg⟩)

theorem impl_OpOf_ok (n : Nat) (p0 : Str) {r : Int} (h : impl_OpOf n p0 = some r) {w : World} :
   Calls Tryz.prog 38 [Str.val p0].toArray w fun e w' => ∃ v, e = .returned v ∧ v = I r ∧ Chg Non w w' := by
 unfold impl_OpOf at h
 have hs := Sep.nil w Non
 have hM0 : Mem w Non (fun k => (False) ∧ k < w.heap.size) w Non (fun k => (False) ∧ k < w.heap.size) := Mem.start (fun _ h => h.elim) (fun _ h => h.2) (fun _ h => h.elim)
 refine enter (N := 13) Tryz.func38 rfl Tryz.ntmps38 rfl fun fr hF => ?_
 refine wp_seq (wp_pure [(0, Str.val p0)] hF (by kernel_rfl) fun fr hF => then_normal ?_)
 refine wp_seq ?_
 refine wp_seq (wp_pure [(0, Str.val p0), (3, I 1)] hF (by kernel_rfl) fun fr hF => then_normal ?_)
 obtain ⟨rl1, hit1, h⟩ := bindE h
 have hk1 := h
 refine (GL.wp_cut (M := fun fr w' => ∃ s, rl1 = .inl s ∧ ∃ S2 F2, FrS 13 [] fr ∧ Mem w Non (fun k => (False) ∧ k < w.heap.size) w' S2 F2 ∧ Sep [] w' S2) (wp_block (wp_iter (Inv := fun s1 fr w' => ∃ S1 F1, FrS 13 [(0, Str.val p0), (3, I s1)] fr ∧ Mem w Non (fun k => (False) ∧ k < w.heap.size) w' S1 F1 ∧ Sep [] w' S1) hit1 ⟨Non, _, hF.sub _ (by kernel_rfl), (Mem.start hM0.bd hM0.bdF hM0.dj), hs⟩ fun s1 q1 fr w1i hI h hr1 => ?_)) fun fr w1o hM => ?_)
 · obtain ⟨S1, F1, hF, hM1, hs⟩ := hI
   refine wp_seq ?_
   refine wp_seq (wp_pure [(0, Str.val p0), (3, I s1), (5, .bool (decide (s1 ≤ 16)))] hF (by kernel_rfl) fun fr hF => then_normal ?_)
   refine (wp_if hF (b := (decide (s1 ≤ 16))) rfl (fun hb => ?_) (fun hb => ?_))
   · replace h := iteT hb h
     refine (wp_skip (then_normal ?_))
     refine wp_seq (wp_block ?_)
     refine wp_seq (wp_text' ?_)
     refine from_pure 1 [(0, Str.val p0), (3, I s1), (8, I s1)] hF (by kernel_rfl) fun fr hF => ?_
     obtain ⟨x1, hx1, h⟩ := bindE h
     refine s_call [I s1] Tryz.call58 rfl rfl hF rfl (impl_OpName_ok s1 hx1) fun v w1 fr hRes hF => ?_
     obtain ⟨rfl, hc⟩ := hRes
     have hs := hs.ext hc
     have hM1 := hM1.ext hc
     refine from_pure 2 [(0, Str.val p0), (3, I s1), (11, .bool (Str.eqb x1 p0))] hF (by kernel_rfl) fun fr hF => ?_
     refine from_end rfl (then_normal ?_)
     refine (wp_if hF (b := (Str.eqb x1 p0)) rfl (fun hb => ?_) (fun hb => ?_))
     · replace h := iteT hb h
       refine wp_seq (wp_pure [(2, I s1)] hF (by kernel_rfl) fun fr hF => then_normal ?_)
       obtain rfl := hr1 _ (Option.some.inj h).symm
       obtain rfl := Option.some.inj hk1
       exact wp_ret (blk_ret (then_ret (then_ret (blk_ret (then_ret (ret1 rfl hF rfl ⟨_, rfl, rfl, (hM0.trans hM1).chg⟩))))))
     replace h := iteF hb h
     refine (wp_skip ?_)
     refine blk_normal (then_normal ?_)
     refine (wp_pure [(0, Str.val p0), (3, I (w64 (s1 + 1)))] hF (by kernel_rfl) fun fr hF => then_normal ?_)
     exact ⟨_, (Option.some.inj h).symm, S1, _, hF.sub _ (by kernel_rfl), hM1, hs⟩
   replace h := iteF hb h
   refine (wp_exit (then_exit (then_exit (blk_exit_eq ?_))))
   obtain rfl := hr1 _ (Option.some.inj h).symm
   exact then_normal ⟨_, rfl, S1, _, hF.sub _ (by kernel_rfl), hM1, hs⟩
 · obtain ⟨s1r, rfl, hM⟩ := hM
   obtain ⟨S2, F2, hF, hMx, hs⟩ := hM
   have hM0 := hM0.trans hMx
   refine wp_seq (wp_pure [(2, I 0)] hF (by kernel_rfl) fun fr hF => then_normal ?_)
   obtain rfl := Option.some.inj h
   exact wp_ret (ret1 rfl hF rfl ⟨_, rfl, rfl, hM0.chg⟩)

theorem impl_isTwoWords_ok (p0 : Int) {r : Bool} (h : impl_isTwoWords p0 = some r) {w : World} :
   Calls Tryz.prog 39 [I p0].toArray w fun e w' => ∃ v, e = .returned v ∧ v = .bool r ∧ Chg Non w w' := by
 unfold impl_isTwoWords at h
 have hs := Sep.nil w Non
 have hM0 : Mem w Non (fun k => (False) ∧ k < w.heap.size) w Non (fun k => (False) ∧ k < w.heap.size) := Mem.start (fun _ h => h.elim) (fun _ h => h.2) (fun _ h => h.elim)
 refine enter (N := 9) Tryz.func39 rfl Tryz.ntmps39 rfl fun fr hF => ?_
 refine wp_seq (wp_pure [(0, I p0)] hF (by kernel_rfl) fun fr hF => then_normal ?_)
 refine wp_seq (region_b [] [true, true, true, true, true, true, true]
     [.eq (I p0), .eq (.bool (decide (p0 ≥ 3))), .eq (.bool (decide (p0 ≥ 3))), .eq (I p0), .eq (.bool (decide (p0 ≤ 16))), .eq (.bool ((decide (p0 ≥ 3)) && (decide (p0 ≤ 16)))), .eq (.bool ((decide (p0 ≥ 3)) && (decide (p0 ≤ 16))))]
     [(2, .bool ((decide (p0 ≥ 3)) && (decide (p0 ≤ 16))))] mix hF (by kernel_rfl) (by kernel_rfl) (by kernel_rfl) trivial (fun hG => trivial) (by kernel_rfl) fun fr w1 hF hE hc => then_normal ?_)
 have hs := hs.ext hc
 have hM0 := hM0.ext hc
 obtain rfl := Option.some.inj h
 exact wp_ret (ret1 rfl hF rfl ⟨_, rfl, rfl, hM0.chg⟩)

theorem impl_parseReg_ok (p0 : Str) {r : Int × Bool} (h : impl_parseReg p0 = some r) {w : World} :
   Calls Tryz.prog 59 [Str.val p0].toArray w fun e w' => ∃ v, e = .returned v ∧ v = .tuple #[I r.1, .bool r.2] ∧ Chg Non w w' := by
 unfold impl_parseReg at h
 have hs := Sep.nil w Non
 have hM0 : Mem w Non (fun k => (False) ∧ k < w.heap.size) w Non (fun k => (False) ∧ k < w.heap.size) := Mem.start (fun _ h => h.elim) (fun _ h => h.2) (fun _ h => h.elim)
 refine enter (N := 26) Tryz.func59 rfl Tryz.ntmps59 rfl fun fr hF => ?_
 refine wp_seq (wp_pure [(0, Str.val p0)] hF (by kernel_rfl) fun fr hF => then_normal ?_)
 refine wp_seq ?_
 obtain ⟨x1, hx1, h⟩ := bindE h
 obtain ⟨x2, hx2, h⟩ := bindE h
 obtain ⟨x3, hx3, h⟩ := bindE h
 refine wp_seq (region_b [] [true, true, true, true, true, false, true, true, true, true, false, true, true, true, true, false, true, true]
     [.eq (Str.val p0), .eq (I (len p0.bytes)), .eq (.bool ((len p0.bytes) != 2)), .eq (.bool ((len p0.bytes) != 2)), .eq (Str.val p0), .eq (.int .u8 x1), .eq (.bool (x1 != 114)), .eq (.bool (((len p0.bytes) != 2) || (x1 != 114))), .eq (.bool (((len p0.bytes) != 2) || (x1 != 114))), .eq (Str.val p0), .eq (.int .u8 x2), .eq (.bool (decide (x2 < 48))), .eq (.bool ((((len p0.bytes) != 2) || (x1 != 114)) || (decide (x2 < 48)))), .eq (.bool ((((len p0.bytes) != 2) || (x1 != 114)) || (decide (x2 < 48)))), .eq (Str.val p0), .eq (.int .u8 x3), .eq (.bool (decide (x3 > 51))), .eq (.bool (((((len p0.bytes) != 2) || (x1 != 114)) || (decide (x2 < 48))) || (decide (x3 > 51))))]
     [(0, Str.val p0), (21, .bool (((((len p0.bytes) != 2) || (x1 != 114)) || (decide (x2 < 48))) || (decide (x3 > 51))))] mix hF (by kernel_rfl) (by kernel_rfl) (by kernel_rfl) ⟨Pd.mono_eq, Pd.mono_eq, Pd.mono_eq, trivial⟩ (fun hG => ⟨np_index_str (s := p0) hG hF Tryz.underlying9 rfl rfl rfl (fun hg => (iteF hg.2 hx1)) rfl, np_index_str (s := p0) hG hF Tryz.underlying9 rfl rfl rfl (fun hg => (iteF hg.2 hx2)) rfl, np_index_str (s := p0) hG hF Tryz.underlying9 rfl rfl rfl (fun hg => (iteF hg.2 hx3)) rfl, trivial⟩) (by kernel_rfl) fun fr w1 hF hE hc => then_normal ?_)
 have hs := hs.ext hc
 have hM0 := hM0.ext hc
 refine (wp_if hF (b := (((((len p0.bytes) != 2) || (x1 != 114)) || (decide (x2 < 48))) || (decide (x3 > 51)))) rfl (fun hb => ?_) (fun hb => ?_))
 · replace h := iteT hb h
   refine wp_seq (wp_pure [(2, I 0), (3, .bool false)] hF (by kernel_rfl) fun fr hF => then_normal ?_)
   have hrets := fun {σ : List (Nat × Value)} (h : σ = [(2, I 0), (3, .bool false)]) => (by subst h; exact (Rets.tmp rfl (Rets.tmp rfl Rets.nil)) : Rets Tryz.prog σ w1 [.tmp 2, .tmp 3] [I 0, .bool false])
   obtain rfl := Option.some.inj h
   exact wp_ret (then_ret (retG (rs := [.tmp 2, .tmp 3]) rfl (hF.sub [(2, I 0), (3, .bool false)] (by kernel_rfl)) (hrets rfl) rfl ⟨_, rfl, rfl, hM0.chg⟩))
 replace h := iteF hb h
 refine (wp_skip (then_normal ?_))
 refine wp_seq (wp_text' ?_)
 refine from_pure 1 [(22, Str.val p0)] hF (by kernel_rfl) fun fr hF => ?_
 obtain ⟨x4, hx4, h⟩ := bindE h
 refine s_index (s := p0) Tryz.underlying9 rfl rfl hF rfl rfl hx4 fun fr hF => ?_
 refine from_pure 4 [(2, I (w64 (IntKind.u8.wrap (x4 - 48)))), (3, .bool true)] hF (by kernel_rfl) fun fr hF => ?_
 refine from_end rfl (then_normal ?_)
 have hrets := fun {σ : List (Nat × Value)} (h : σ = [(2, I (w64 (IntKind.u8.wrap (x4 - 48)))), (3, .bool true)]) => (by subst h; exact (Rets.tmp rfl (Rets.tmp rfl Rets.nil)) : Rets Tryz.prog σ w1 [.tmp 2, .tmp 3] [I (w64 (IntKind.u8.wrap (x4 - 48))), .bool true])
 obtain rfl := Option.some.inj h
 exact wp_ret (retG (rs := [.tmp 2, .tmp 3]) rfl (hF.sub [(2, I (w64 (IntKind.u8.wrap (x4 - 48)))), (3, .bool true)] (by kernel_rfl)) (hrets rfl) rfl ⟨_, rfl, rfl, hM0.chg⟩)

theorem impl_parseOperand_ok (p0 : Str) {r : Int} (h : impl_parseOperand p0 = some r) {w : World} {G99 : Nat → Prop} (tb : TX Tryz.prog w G99) :
   Calls Tryz.prog 40 [Str.val p0].toArray w fun e w' => ∃ v, e = .returned v ∧ v = I r ∧ Chg Non w w' := by
 unfold impl_parseOperand at h
 have hs := Sep.nil w Non
 have hM0 : Mem w Non (fun k => (G99 k) ∧ k < w.heap.size) w Non (fun k => (G99 k) ∧ k < w.heap.size) := Mem.start (fun _ h => h.elim) (fun _ h => h.2) (fun _ h => h.elim)
 have tb := tb.sub (F' := (fun k => (G99 k) ∧ k < w.heap.size)) (fun k hk h => ⟨h, hk⟩)
 refine enter (N := 20) Tryz.func40 rfl Tryz.ntmps40 rfl fun fr hF => ?_
 refine wp_seq (wp_pure [(0, Str.val p0)] hF (by kernel_rfl) fun fr hF => then_normal ?_)
 refine wp_seq ?_
 refine wp_seq (wp_text' ?_)
 refine from_pure 1 [(0, Str.val p0), (8, Str.val p0)] hF (by kernel_rfl) fun fr hF => ?_
 obtain ⟨x1, hx1, h⟩ := bindE h
 refine s_call [Str.val p0] Tryz.call59 rfl rfl hF rfl (impl_parseReg_ok p0 hx1) fun v w1 fr hRes hF => ?_
 obtain ⟨rfl, hc⟩ := hRes
 have tb := tb.ext hc
 have hs := hs.ext hc
 have hM0 := hM0.ext hc
 refine from_pure 5 [(0, Str.val p0), (3, I x1.1), (4, .bool x1.2)] hF (by kernel_rfl) fun fr hF => ?_
 refine from_end rfl (then_normal ?_)
 refine wp_seq (wp_pure [(0, Str.val p0), (3, I x1.1), (12, .bool x1.2)] hF (by kernel_rfl) fun fr hF => then_normal ?_)
 refine (wp_if hF (b := x1.2) rfl (fun hb => ?_) (fun hb => ?_))
 · replace h := iteT hb h
   refine wp_seq (wp_pure [(2, I x1.1)] hF (by kernel_rfl) fun fr hF => then_normal ?_)
   obtain rfl := Option.some.inj h
   exact wp_ret (then_ret (ret1 rfl hF rfl ⟨_, rfl, rfl, hM0.chg⟩))
 replace h := iteF hb h
 refine (wp_skip (then_normal ?_))
 refine wp_seq (wp_text' ?_)
 refine from_pure 1 [(15, Str.val p0)] hF (by kernel_rfl) fun fr hF => ?_
 obtain ⟨x2, hx2, h⟩ := bindE h
 refine s_call [Str.val p0] Tryz.call36 rfl rfl hF rfl (impl_ParseInt_ok p0 hx2 tb) fun v w2 fr hRes hF => ?_
 obtain ⟨rfl, hc⟩ := hRes
 have tb := tb.ext hc
 have hs := hs.ext hc
 have hM0 := hM0.ext hc
 refine from_pure 5 [(5, I x2.1)] hF (by kernel_rfl) fun fr hF => ?_
 refine from_end rfl (then_normal ?_)
 refine wp_seq (wp_pure [(2, I x2.1)] hF (by kernel_rfl) fun fr hF => then_normal ?_)
 obtain rfl := Option.some.inj h
 exact wp_ret (ret1 rfl hF rfl ⟨_, rfl, rfl, hM0.chg⟩)

theorem impl_shapeOk_ok (p0 : Int) (p1 : Int) {r : Bool} (h : impl_shapeOk p0 p1 = some r) {w : World} :
   Calls Tryz.prog 42 [I p0, I p1].toArray w fun e w' => ∃ v, e = .returned v ∧ v = .bool r ∧ Chg Non w w' := by
 unfold impl_shapeOk at h
 have hs := Sep.nil w Non
 have hM0 : Mem w Non (fun k => (False) ∧ k < w.heap.size) w Non (fun k => (False) ∧ k < w.heap.size) := Mem.start (fun _ h => h.elim) (fun _ h => h.2) (fun _ h => h.elim)
 refine enter (N := 19) Tryz.func42 rfl Tryz.ntmps42 rfl fun fr hF => ?_
 refine wp_seq (wp_pure [(0, I p0), (1, I p1)] hF (by kernel_rfl) fun fr hF => then_normal ?_)
 refine wp_seq (region_b [] [true, true, true, true, true, true, true, true, true, true, true, true, true, true, true]
     [.eq (I p0), .eq (.bool (decide (p0 ≥ 2))), .eq (.bool (decide (p0 ≥ 2))), .eq (I p0), .eq (.bool (decide (p0 ≤ 8))), .eq (.bool ((decide (p0 ≥ 2)) && (decide (p0 ≤ 8)))), .eq (.bool ((decide (p0 ≥ 2)) && (decide (p0 ≤ 8)))), .eq (I p1), .eq (.bool (decide (p1 ≥ 1))), .eq (.bool (((decide (p0 ≥ 2)) && (decide (p0 ≤ 8))) && (decide (p1 ≥ 1)))), .eq (.bool (((decide (p0 ≥ 2)) && (decide (p0 ≤ 8))) && (decide (p1 ≥ 1)))), .eq (I p1), .eq (.bool (decide (p1 ≤ 40))), .eq (.bool ((((decide (p0 ≥ 2)) && (decide (p0 ≤ 8))) && (decide (p1 ≥ 1))) && (decide (p1 ≤ 40)))), .eq (.bool ((((decide (p0 ≥ 2)) && (decide (p0 ≤ 8))) && (decide (p1 ≥ 1))) && (decide (p1 ≤ 40))))]
     [(4, .bool ((((decide (p0 ≥ 2)) && (decide (p0 ≤ 8))) && (decide (p1 ≥ 1))) && (decide (p1 ≤ 40))))] mix hF (by kernel_rfl) (by kernel_rfl) (by kernel_rfl) trivial (fun hG => trivial) (by kernel_rfl) fun fr w1 hF hE hc => then_normal ?_)
 have hs := hs.ext hc
 have hM0 := hM0.ext hc
 obtain rfl := Option.some.inj h
 exact wp_ret (ret1 rfl hF rfl ⟨_, rfl, rfl, hM0.chg⟩)

theorem impl_isReg_ok (p0 : Int) {r : Bool} (h : impl_isReg p0 = some r) {w : World} :
   Calls Tryz.prog 63 [I p0].toArray w fun e w' => ∃ v, e = .returned v ∧ v = .bool r ∧ Chg Non w w' := by
 unfold impl_isReg at h
 have hs := Sep.nil w Non
 have hM0 : Mem w Non (fun k => (False) ∧ k < w.heap.size) w Non (fun k => (False) ∧ k < w.heap.size) := Mem.start (fun _ h => h.elim) (fun _ h => h.2) (fun _ h => h.elim)
 refine enter (N := 9) Tryz.func63 rfl Tryz.ntmps63 rfl fun fr hF => ?_
 refine wp_seq (wp_pure [(0, I p0)] hF (by kernel_rfl) fun fr hF => then_normal ?_)
 refine wp_seq (region_b [] [true, true, true, true, true, true, true]
     [.eq (I p0), .eq (.bool (decide (p0 ≥ 0))), .eq (.bool (decide (p0 ≥ 0))), .eq (I p0), .eq (.bool (decide (p0 < 4))), .eq (.bool ((decide (p0 ≥ 0)) && (decide (p0 < 4)))), .eq (.bool ((decide (p0 ≥ 0)) && (decide (p0 < 4))))]
     [(2, .bool ((decide (p0 ≥ 0)) && (decide (p0 < 4))))] mix hF (by kernel_rfl) (by kernel_rfl) (by kernel_rfl) trivial (fun hG => trivial) (by kernel_rfl) fun fr w1 hF hE hc => then_normal ?_)
 have hs := hs.ext hc
 have hM0 := hM0.ext hc
 obtain rfl := Option.some.inj h
 exact wp_ret (ret1 rfl hF rfl ⟨_, rfl, rfl, hM0.chg⟩)

theorem impl_isWidth_ok (p0 : Int) {r : Bool} (h : impl_isWidth p0 = some r) {w : World} :
   Calls Tryz.prog 62 [I p0].toArray w fun e w' => ∃ v, e = .returned v ∧ v = .bool r ∧ Chg Non w w' := by
 unfold impl_isWidth at h
 have hs := Sep.nil w Non
 have hM0 : Mem w Non (fun k => (False) ∧ k < w.heap.size) w Non (fun k => (False) ∧ k < w.heap.size) := Mem.start (fun _ h => h.elim) (fun _ h => h.2) (fun _ h => h.elim)
 refine enter (N := 9) Tryz.func62 rfl Tryz.ntmps62 rfl fun fr hF => ?_
 refine wp_seq (wp_pure [(0, I p0)] hF (by kernel_rfl) fun fr hF => then_normal ?_)
 refine wp_seq (region_b [] [true, true, true, true, true, true, true]
     [.eq (I p0), .eq (.bool (decide (p0 ≥ 1))), .eq (.bool (decide (p0 ≥ 1))), .eq (I p0), .eq (.bool (decide (p0 ≤ 16))), .eq (.bool ((decide (p0 ≥ 1)) && (decide (p0 ≤ 16)))), .eq (.bool ((decide (p0 ≥ 1)) && (decide (p0 ≤ 16))))]
     [(2, .bool ((decide (p0 ≥ 1)) && (decide (p0 ≤ 16))))] mix hF (by kernel_rfl) (by kernel_rfl) (by kernel_rfl) trivial (fun hG => trivial) (by kernel_rfl) fun fr w1 hF hE hc => then_normal ?_)
 have hs := hs.ext hc
 have hM0 := hM0.ext hc
 obtain rfl := Option.some.inj h
 exact wp_ret (ret1 rfl hF rfl ⟨_, rfl, rfl, hM0.chg⟩)

theorem impl_WordOk_ok (p0 : Int) (p1 : Int) {r : Bool} (h : impl_WordOk p0 p1 = some r) {w : World} :
   Calls Tryz.prog 43 [I p0, I p1].toArray w fun e w' => ∃ v, e = .returned v ∧ v = .bool r ∧ Chg Non w w' := by
 unfold impl_WordOk at h
 have hs := Sep.nil w Non
 have hM0 : Mem w Non (fun k => (False) ∧ k < w.heap.size) w Non (fun k => (False) ∧ k < w.heap.size) := Mem.start (fun _ h => h.elim) (fun _ h => h.2) (fun _ h => h.elim)
 refine enter (N := 18) Tryz.func43 rfl Tryz.ntmps43 rfl fun fr hF => ?_
 refine wp_seq (wp_pure [(0, I p0), (1, I p1)] hF (by kernel_rfl) fun fr hF => then_normal ?_)
 obtain ⟨x1, hx1, h⟩ := bindE h
 obtain ⟨x2, hx2, h⟩ := bindE h
 refine wp_seq (region_b [] [true, false, true, true, true, true, true, true, true, true, false, true, true, true]
     [.eq (I p0), .eq (.bool x1), .eq (.bool x1), .eq (I p1), .eq (.bool (decide (p1 ≥ 0))), .eq (.bool (x1 && (decide (p1 ≥ 0)))), .eq (.bool (x1 && (decide (p1 ≥ 0)))), .eq (I p1), .eq (I p0), .eq (.int .u64 (IntKind.u64.wrap p0)), .eq (I x2), .eq (.bool (decide (p1 < x2))), .eq (.bool ((x1 && (decide (p1 ≥ 0))) && (decide (p1 < x2)))), .eq (.bool ((x1 && (decide (p1 ≥ 0))) && (decide (p1 < x2))))]
     [(4, .bool ((x1 && (decide (p1 ≥ 0))) && (decide (p1 < x2))))] mix hF (by kernel_rfl) (by kernel_rfl) (by kernel_rfl) ⟨Pd.mono_eq, Pd.mono_eq, trivial⟩ (fun hG => ⟨np_call [I p0] hG hF Tryz.call62 rfl rfl (fun w hC hg => (impl_isWidth_ok p0 hx1).mono fun e w' ⟨v, he, hv, hc⟩ => ⟨v, he, hc, hv⟩), np_shl hG hF rfl rfl rfl (fun hg => (iteT hg.2 hx2)) rfl, trivial⟩) (by kernel_rfl) fun fr w1 hF hE hc => then_normal ?_)
 have hs := hs.ext hc
 have hM0 := hM0.ext hc
 obtain rfl := Option.some.inj h
 exact wp_ret (ret1 rfl hF rfl ⟨_, rfl, rfl, hM0.chg⟩)
end Go.Proofs.YtmmhbhhcloobnaaGreatDoor
