/- Printed by gen2.py: the walks. -/
import Derived.Test.YtmmhbhhcloobnaaDoorWlkB
set_option linter.unusedVariables false
set_option maxRecDepth 100000
namespace Go.Proofs.YtmmhbhhcloobnaaDoor
open Go.GL Go.Maps Go.WideMaps
theorem impl_ParseIns_ok (n : Nat) (p0 : Str) (p1 : Int) (p2 : Int) {r : D.Ins × Bool} (h : impl_ParseIns n p0 p1 p2 = some r) {w : World} {G99 : Nat → Prop} (tb : TX Tryd.prog w G99) :
   Calls Tryd.prog 16 [Str.val p0, I p1, I p2].toArray w fun e w' => ∃ v, e = .returned v ∧ v = .tuple #[.agg #[I r.1.Op, I r.1.A, I r.1.B, I r.1.C], .bool r.2] ∧ Chg Non w w' := by
 unfold impl_ParseIns at h
 have hs := Sep.nil w Non
 have hM0 : Mem w Non (fun k => (G99 k) ∧ k < w.heap.size) w Non (fun k => (G99 k) ∧ k < w.heap.size) := Mem.start (fun _ h => h.elim) (fun _ h => h.2) (fun _ h => h.elim)
 have tb := tb.sub (F' := (fun k => (G99 k) ∧ k < w.heap.size)) (fun k hk h => ⟨h, hk⟩)
 refine enter (N := 98) Tryd.func16 rfl Tryd.ntmps16 rfl fun fr hF => ?_
 refine wp_seq (wp_text' ?_)
 refine q_alloc (z := .agg #[I 0, I 0, I 0, I 0]) hs hM0 [I 0, I 0, I 0, I 0] rfl rfl hF (by kernel_rfl) rfl fun b1 w1 S1 fr hs hp hF => ?_
 have tb := tb.stp hM0 hp
 have hM0 := hM0.stp hp
 have hs : Sep [BX b1 25 [I 0, I 0, I 0, I 0]] w1 S1 := hs
 refine from_pure 1 [(0, Str.val p0), (1, I p1), (2, I p2), (6, B b1 0)] hF (by kernel_rfl) fun fr hF => ?_
 refine from_end rfl (then_normal ?_)
 refine wp_seq (wp_text' ?_)
 refine from_pure 1 [(0, Str.val p0), (1, I p1), (2, I p2), (6, B b1 0), (12, Str.val p0)] hF (by kernel_rfl) fun fr hF => ?_
 obtain ⟨x1, hx1, h⟩ := bindE h
 refine s_call [Str.val p0, Str.val (⟨[32]⟩)] Tryd.call47 rfl rfl hF rfl (strings_Split_ok p0 (⟨[32]⟩) hx1 tb) fun v w2 fr hRes hF => ?_
 obtain ⟨a1, c1, rfl, _, hp, hs2⟩ := hRes
 obtain ⟨S2, hp, hs⟩ := hs.got hM0 hp hs2
 have tb := tb.stp hM0 hp
 have hM0 := hM0.stp hp
 have hs : Sep [sl9 (L a1 x1 c1) x1, BX b1 25 [I 0, I 0, I 0, I 0]] w2 S2 := hs
 refine from_pure 1 [(0, Str.val p0), (1, I p1), (2, I p2), (6, B b1 0), (8, L a1 x1 c1)] hF (by kernel_rfl) fun fr hF => ?_
 refine from_end rfl (then_normal ?_)
 refine wp_seq ?_
 refine wp_seq (region_b [] [true, true, true, true, true, true, true]
     [.eq (Str.val p0), .eq (.bool (Str.eqb p0 (⟨[]⟩))), .eq (.bool (Str.eqb p0 (⟨[]⟩))), .eq (L a1 x1 c1), .eq (I (len x1)), .eq (.bool (decide ((len x1) > 3))), .eq (.bool ((Str.eqb p0 (⟨[]⟩)) || (decide ((len x1) > 3))))]
     [(0, Str.val p0), (1, I p1), (2, I p2), (6, B b1 0), (8, L a1 x1 c1), (20, .bool ((Str.eqb p0 (⟨[]⟩)) || (decide ((len x1) > 3))))] mix hF (by kernel_rfl) (by kernel_rfl) (by kernel_rfl) trivial (fun hG => trivial) (by kernel_rfl) fun fr w3 hF hE hc => then_normal ?_)
 have tb := tb.ext hc
 have hs := hs.ext hc
 have hM0 := hM0.ext hc
 refine (wp_if hF (b := ((Str.eqb p0 (⟨[]⟩)) || (decide ((len x1) > 3)))) rfl (fun hb => ?_) (fun hb => ?_))
 · replace h := iteT hb h
   have hs : Sep [BX b1 25 [I 0, I 0, I 0, I 0]] w3 S2 := Sep.pick [1] hs (by decide) rfl
   refine wp_seq (wp_text' ?_)
   refine from_pure 1 [(6, B b1 0), (21, .agg #[I 0, I 0, I 0, I 0])] hF (by kernel_rfl) fun fr hF => ?_
   refine q_storeBoxS 0 hs hM0 rfl [I 0, I 0, I 0, I 0] rfl hF rfl rfl (by kernel_rfl) rfl rfl rfl fun w4 S3 hs hp hF => ?_
   have tb := tb.stp hM0 hp
   have hM0 := hM0.stp hp
   have hs : Sep [BX b1 25 [I 0, I 0, I 0, I 0]] w4 S3 := hs
   refine from_pure 1 [(6, B b1 0), (7, .bool false)] hF (by kernel_rfl) fun fr hF => ?_
   refine from_end rfl (then_normal ?_)
   have hrets := fun {σ : List (Nat × Value)} (h : σ = [(6, B b1 0), (7, .bool false)]) => (by subst h; exact (Rets.cell rfl ty25 (hs.bx 0 rfl) rfl rfl (Rets.tmp rfl Rets.nil)) : Rets Tryd.prog σ w4 [.cell 6 25, .tmp 7] [.agg #[I 0, I 0, I 0, I 0], .bool false])
   obtain rfl := Option.some.inj h
   exact wp_ret (then_ret (retG (rs := [.cell 6 25, .tmp 7]) rfl (hF.sub [(6, B b1 0), (7, .bool false)] (by kernel_rfl)) (hrets rfl) rfl ⟨_, rfl, rfl, hM0.chg⟩))
 replace h := iteF hb h
 refine (wp_skip (then_normal ?_))
 refine wp_seq (wp_text' ?_)
 refine q_alloc (z := .agg #[I 0, I 0, I 0, I 0]) hs hM0 [I 0, I 0, I 0, I 0] rfl rfl hF (by kernel_rfl) rfl fun b2 w5 S4 fr hs hp hF => ?_
 have tb := tb.stp hM0 hp
 have hM0 := hM0.stp hp
 have hs : Sep [BX b2 25 [I 0, I 0, I 0, I 0], sl9 (L a1 x1 c1) x1, BX b1 25 [I 0, I 0, I 0, I 0]] w5 S4 := hs
 refine from_end rfl (then_normal ?_)
 refine wp_seq ?_
 refine wp_seq (wp_pure [(0, Str.val p0), (1, I p1), (2, I p2), (6, B b1 0), (8, L a1 x1 c1), (9, B b2 0), (10, I 1)] hF (by kernel_rfl) fun fr hF => then_normal ?_)
 obtain ⟨rl1, hit1, h⟩ := bindE h
 have hk1 := h
 refine (GL.wp_cut (M := fun fr w' => ∃ S6 F2, FrS 98 [(0, Str.val p0), (1, I p1), (2, I p2), (6, B b1 0), (8, L a1 x1 c1), (9, B b2 0)] fr ∧ Mem w5 S4 (fun k => (G99 k) ∧ k < w.heap.size) w' S6 F2 ∧ Sep [BX b2 25 [I rl1, I 0, I 0, I 0], sl9 (L a1 x1 c1) x1, BX b1 25 [I 0, I 0, I 0, I 0]] w' S6) (wp_block (wp_iter (Inv := fun s1 fr w' => ∃ S5 F1, FrS 98 [(0, Str.val p0), (1, I p1), (2, I p2), (6, B b1 0), (8, L a1 x1 c1), (9, B b2 0), (10, I s1.1)] fr ∧ Mem w5 S4 (fun k => (G99 k) ∧ k < w.heap.size) w' S5 F1 ∧ Sep [BX b2 25 [I s1.2, I 0, I 0, I 0], sl9 (L a1 x1 c1) x1, BX b1 25 [I 0, I 0, I 0, I 0]] w' S5) hit1 ⟨S4, _, hF.sub _ (by kernel_rfl), (Mem.start hM0.bd hM0.bdF hM0.dj), hs⟩ fun s1 q1 fr w1i hI h hr1 => ?_)) fun fr w1o hM => ?_)
 · obtain ⟨S5, F1, hF, hM1, hs⟩ := hI
   have tb := tb.mem hM1
   refine wp_seq ?_
   refine wp_seq (wp_pure [(0, Str.val p0), (1, I p1), (2, I p2), (6, B b1 0), (8, L a1 x1 c1), (9, B b2 0), (10, I s1.1), (23, .bool (decide (s1.1 ≤ 14)))] hF (by kernel_rfl) fun fr hF => then_normal ?_)
   refine (wp_if hF (b := (decide (s1.1 ≤ 14))) rfl (fun hb => ?_) (fun hb => ?_))
   · replace h := iteT hb h
     refine (wp_skip (then_normal ?_))
     refine wp_seq (wp_block ?_)
     obtain ⟨x2, hx2, h⟩ := bindE h
     obtain ⟨x3, hx3, h⟩ := bindE h
     refine wp_seq (region_bm 6 [0, 1, 0, 4, 12, 31] [true, false, true, false, false, true]
         [.eq (I s1.1), .eq (Str.val x2), .eq (L a1 x1 c1), .is fun v w => ElemP w (fun k => k < w1i.heap.size) v (x3 : Str), .eq (Str.val x3), .eq (.bool (Str.eqb x2 x3))]
         [(0, Str.val p0), (1, I p1), (2, I p2), (6, B b1 0), (8, L a1 x1 c1), (9, B b2 0), (10, I s1.1), (31, .bool (Str.eqb x2 x3))] mix hF (by kernel_rfl) (by kernel_rfl) (by kernel_rfl) (by kernel_rfl) ⟨Pd.monoO_eq, (Pd.monoO_is mono_elem), Pd.monoO_eq, trivial⟩ (fun ow hG => ⟨np_to ow (np_call [I s1.1] hG hF Tryd.call33 rfl rfl (fun w hC hg => (impl_insWord_ok s1.1 hx2).mono fun e w' ⟨v, he, hv, hc⟩ => ⟨v, he, hc, hv⟩)), np_to ow (np_index hG hF ty9 Tryd.underlying55 rfl rfl (RV.sub (hs.rv 1 rfl) fun k hk _ => hk) rfl rfl (fun hg => ⟨get?_nn hx3, get?_at hx3⟩)), np_to ow (np_loadF (z := x3) (i := 3) hG hF ty9 rfl rfl rfl rfl rfl rfl rfl), trivial⟩) (by kernel_rfl) fun ow fr w6 hF hE hc => ?_)
     have tb := tb.ext hc
     have hs := hs.ext hc
     have hM1 := hM1.ext hc
     refine from_end rfl (then_normal ?_)
     refine (wp_if hF (b := (Str.eqb x2 x3)) rfl (fun hb => ?_) (fun hb => ?_))
     · replace h := iteT hb h
       refine (wp_text' ?_)
       refine from_pure 2 [(0, Str.val p0), (1, I p1), (2, I p2), (6, B b1 0), (8, L a1 x1 c1), (9, B b2 0), (10, I s1.1), (32, I s1.1), (33, B b2 0)] hF (by kernel_rfl) fun fr hF => ?_
       refine q_storeBox 0 hs hM1 rfl [I s1.1, I 0, I 0, I 0] rfl hF rfl rfl (by kernel_rfl) rfl rfl rfl fun w7 S7 hs hp hF => ?_
       have tb := tb.stp hM1 hp
       have hM1 := hM1.stp hp
       have hs : Sep [BX b2 25 [I s1.1, I 0, I 0, I 0], sl9 (L a1 x1 c1) x1, BX b1 25 [I 0, I 0, I 0, I 0]] w7 S7 := hs
       refine from_end rfl ?_
       refine blk_normal (then_normal ?_)
       refine (wp_pure [(0, Str.val p0), (1, I p1), (2, I p2), (6, B b1 0), (8, L a1 x1 c1), (9, B b2 0), (10, I (w64 (s1.1 + 1)))] hF (by kernel_rfl) fun fr hF => then_normal ?_)
       exact ⟨_, (Option.some.inj h).symm, S7, _, hF.sub _ (by kernel_rfl), hM1, hs⟩
     replace h := iteF hb h
     refine (wp_skip ?_)
     refine blk_normal (then_normal ?_)
     refine (wp_pure [(0, Str.val p0), (1, I p1), (2, I p2), (6, B b1 0), (8, L a1 x1 c1), (9, B b2 0), (10, I (w64 (s1.1 + 1)))] hF (by kernel_rfl) fun fr hF => then_normal ?_)
     exact ⟨_, (Option.some.inj h).symm, S5, _, hF.sub _ (by kernel_rfl), hM1, hs⟩
   replace h := iteF hb h
   refine (wp_exit (then_exit (then_exit (blk_exit_eq ?_))))
   obtain rfl := hr1 _ (Option.some.inj h).symm
   exact then_normal ⟨S5, _, hF.sub _ (by kernel_rfl), hM1, hs⟩
 · obtain ⟨S6, F2, hF, hMx, hs⟩ := hM
   have tb := tb.mem hMx
   have hM0 := hM0.trans hMx
   refine wp_seq ?_
   refine wp_seq (wp_text' ?_)
   refine from_pure 1 [(0, Str.val p0), (1, I p1), (2, I p2), (6, B b1 0), (8, L a1 x1 c1), (9, B b2 0), (34, L a1 x1 c1)] hF (by kernel_rfl) fun fr hF => ?_
   obtain ⟨x4, hx4, h⟩ := bindE h
   refine s_elemF (z := x4) (Str.val x4) ty9 Tryd.underlying55 rfl rfl rfl rfl rfl hF rfl (hs.rv 1 rfl) rfl (get?_nn hx4) (get?_at hx4) rfl fun p fr hF => ?_
   obtain ⟨x5, hx5, h⟩ := bindE h
   refine s_call [Str.val x4] Tryd.call48 rfl rfl hF rfl (impl_OpOf_ok n x4 hx5) fun v w8 fr hRes hF => ?_
   obtain ⟨rfl, hc⟩ := hRes
   have tb := tb.ext hc
   have hs := hs.ext hc
   have hM0 := hM0.ext hc
   refine from_pure 1 [(0, Str.val p0), (1, I p1), (2, I p2), (6, B b1 0), (8, L a1 x1 c1), (9, B b2 0), (11, I x5)] hF (by kernel_rfl) fun fr hF => ?_
   refine from_end rfl (then_normal ?_)
   obtain ⟨x6, hx6, h⟩ := bindE h
   refine wp_seq (region_b [] [true, false, true, true, true, false, true]
       [.eq (B b2 0), .eq (I rl1), .eq (.bool (rl1 == 0)), .eq (.bool (rl1 == 0)), .eq (I x5), .eq (.bool x6), .eq (.bool ((rl1 == 0) && x6))]
       [(0, Str.val p0), (1, I p1), (2, I p2), (6, B b1 0), (8, L a1 x1 c1), (9, B b2 0), (11, I x5), (44, .bool ((rl1 == 0) && x6))] mix hF (by kernel_rfl) (by kernel_rfl) (by kernel_rfl) ⟨Pd.mono_eq, Pd.mono_eq, trivial⟩ (fun hG => ⟨np_loadBox hG hF ty3 rfl rfl (hs.bx 0 rfl) rfl rfl rfl, np_call [I x5] hG hF Tryd.call49 rfl rfl (fun w hC hg => (impl_isTwoWords_ok x5 (iteT hg.2 hx6)).mono fun e w' ⟨v, he, hv, hc⟩ => ⟨v, he, hc, hv⟩), trivial⟩) (by kernel_rfl) fun fr w9 hF hE hc => then_normal ?_)
   have tb := tb.ext hc
   have hs := hs.ext hc
   have hM0 := hM0.ext hc
   refine (wp_if hF (b := ((rl1 == 0) && x6)) rfl (fun hb => ?_) (fun hb => ?_))
   · replace h := iteT hb h
     refine (wp_text' ?_)
     refine from_pure 2 [(0, Str.val p0), (1, I p1), (2, I p2), (6, B b1 0), (8, L a1 x1 c1), (9, B b2 0), (45, I x5), (46, B b2 0)] hF (by kernel_rfl) fun fr hF => ?_
     refine q_storeBox 0 hs hM0 rfl [I 3, I 0, I 0, I 0] rfl hF rfl rfl (by kernel_rfl) rfl rfl rfl fun w10 S8 hs hp hF => ?_
     have tb := tb.stp hM0 hp
     have hM0 := hM0.stp hp
     have hs : Sep [BX b2 25 [I 3, I 0, I 0, I 0], sl9 (L a1 x1 c1) x1, BX b1 25 [I 0, I 0, I 0, I 0]] w10 S8 := hs
     refine from_pure 1 [(0, Str.val p0), (1, I p1), (2, I p2), (6, B b1 0), (8, L a1 x1 c1), (9, B b2 0), (45, I x5), (47, B b2 3)] hF (by kernel_rfl) fun fr hF => ?_
     refine q_storeBox 0 hs hM0 rfl [I 3, I 0, I 0, I x5] rfl hF rfl rfl (by kernel_rfl) rfl rfl rfl fun w11 S9 hs hp hF => ?_
     have tb := tb.stp hM0 hp
     have hM0 := hM0.stp hp
     have hs : Sep [BX b2 25 [I 3, I 0, I 0, I x5], sl9 (L a1 x1 c1) x1, BX b1 25 [I 0, I 0, I 0, I 0]] w11 S9 := hs
     refine from_end rfl (then_normal ?_)
     refine wp_seq (wp_block ?_)
     refine wp_seq (wp_pure [(0, Str.val p0), (1, I p1), (2, I p2), (6, B b1 0), (8, L a1 x1 c1), (9, B b2 0), (48, .bool ((len x1) == 3))] hF (by kernel_rfl) fun fr hF => then_normal ?_)
     refine (wp_if hF (b := ((len x1) == 3)) rfl (fun hb => ?_) (fun hb => ?_))
     · replace h := iteT hb h
       obtain ⟨x7, hx7, h⟩ := bindE h
       obtain ⟨x8, hx8, h⟩ := bindE h
       obtain ⟨x9, hx9, h⟩ := bindE h
       obtain ⟨x10, hx10, h⟩ := bindE h
       refine (region_bm 9 [0, 1, 3, 7, 0, 16, 48, 127, 15, 511, 1023, 2047] [true, false, false, false, true, false, false, false, true]
           [.eq (L a1 x1 c1), .is fun v w => ElemP w (fun k => k < w11.heap.size) v (x7 : Str), .eq (Str.val x7), .eq (I x8), .eq (L a1 x1 c1), .is fun v w => ElemP w (fun k => k < w11.heap.size) v (x9 : Str), .eq (Str.val x9), .eq (I x10), .eq (B b2 1), .any, .any, .any]
           [(0, Str.val p0), (1, I p1), (2, I p2), (6, B b1 0), (9, B b2 0), (55, I x8), (59, I x10), (60, B b2 1)] mix hF (by kernel_rfl) (by kernel_rfl) (by kernel_rfl) (by kernel_rfl) ⟨(Pd.monoO_is mono_elem), Pd.monoO_eq, Pd.monoO_eq, (Pd.monoO_is mono_elem), Pd.monoO_eq, Pd.monoO_eq, trivial⟩ (fun ow hG => ⟨np_to ow (np_index hG hF ty9 Tryd.underlying55 rfl rfl (RV.sub (hs.rv 1 rfl) fun k hk _ => hk) rfl rfl (fun hg => ⟨get?_nn hx7, get?_at hx7⟩)), np_to ow (np_loadF (z := x7) (i := 1) hG hF ty9 rfl rfl rfl rfl rfl rfl rfl), np_to ow (np_call [Str.val x7] hG hF Tryd.call50 rfl rfl (fun w hC hg => (impl_parseOperand_ok x7 hx8 (tb.ext hC)).mono fun e w' ⟨v, he, hv, hc⟩ => ⟨v, he, hc, hv⟩)), np_to ow (np_index hG hF ty9 Tryd.underlying55 rfl rfl (RV.sub (hs.rv 1 rfl) fun k hk _ => hk) rfl rfl (fun hg => ⟨get?_nn hx9, get?_at hx9⟩)), np_to ow (np_loadF (z := x9) (i := 5) hG hF ty9 rfl rfl rfl rfl rfl rfl rfl), np_to ow (np_call [Str.val x9] hG hF Tryd.call50 rfl rfl (fun w hC hg => (impl_parseOperand_ok x9 hx10 (tb.ext hC)).mono fun e w' ⟨v, he, hv, hc⟩ => ⟨v, he, hc, hv⟩)), trivial⟩) (by kernel_rfl) fun ow fr w12 hF hE hc => ?_)
       have tb := tb.ext hc
       have hs := hs.ext hc
       have hM0 := hM0.ext hc
       have hs : Sep [BX b2 25 [I 3, I 0, I 0, I x5], BX b1 25 [I 0, I 0, I 0, I 0]] w12 S9 := Sep.pick [0, 2] hs (by decide) rfl
       refine q_storeBox 0 hs hM0 rfl [I 3, I x8, I 0, I x5] rfl hF rfl rfl (by kernel_rfl) rfl rfl rfl fun w13 S10 hs hp hF => ?_
       have tb := tb.stp hM0 hp
       have hM0 := hM0.stp hp
       have hs : Sep [BX b2 25 [I 3, I x8, I 0, I x5], BX b1 25 [I 0, I 0, I 0, I 0]] w13 S10 := hs
       refine from_pure 1 [(0, Str.val p0), (1, I p1), (2, I p2), (6, B b1 0), (9, B b2 0), (59, I x10), (61, B b2 2)] hF (by kernel_rfl) fun fr hF => ?_
       refine q_storeBox 0 hs hM0 rfl [I 3, I x8, I x10, I x5] rfl hF rfl rfl (by kernel_rfl) rfl rfl rfl fun w14 S11 hs hp hF => ?_
       have tb := tb.stp hM0 hp
       have hM0 := hM0.stp hp
       have hs : Sep [BX b2 25 [I 3, I x8, I x10, I x5], BX b1 25 [I 0, I 0, I 0, I 0]] w14 S11 := hs
       refine from_end rfl ?_
       refine blk_normal (then_normal ?_)
       refine wp_seq ?_
       refine wp_seq (wp_text' ?_)
       refine s_loadBoxS ty25 rfl rfl hF rfl (hs.bx 0 rfl) rfl rfl fun fr hF => ?_
       refine from_pure 2 [(0, Str.val p0), (6, B b1 0), (9, B b2 0), (90, .agg #[I 3, I x8, I x10, I x5]), (91, I p1), (92, I p2)] hF (by kernel_rfl) fun fr hF => ?_
       obtain ⟨x11, hx11, h⟩ := bindE h
       refine s_call [.agg #[I 3, I x8, I x10, I x5], I p1, I p2] Tryd.call9 rfl rfl hF rfl (impl_FormatIns_ok (D.Ins.mk 3 x8 x10 x5) p1 p2 hx11 tb) fun v w15 fr hRes hF => ?_
       obtain ⟨rfl, hc⟩ := hRes
       have tb := tb.ext hc
       have hs := hs.ext hc
       have hM0 := hM0.ext hc
       refine from_pure 2 [(6, B b1 0), (9, B b2 0), (95, .bool (!(Str.eqb x11 p0)))] hF (by kernel_rfl) fun fr hF => ?_
       refine from_end rfl (then_normal ?_)
       refine (wp_if hF (b := (!(Str.eqb x11 p0))) rfl (fun hb => ?_) (fun hb => ?_))
       · replace h := iteT hb h
         have hs : Sep [BX b1 25 [I 0, I 0, I 0, I 0]] w15 S11 := Sep.pick [1] hs (by decide) rfl
         refine wp_seq (wp_text' ?_)
         refine from_pure 1 [(6, B b1 0), (96, .agg #[I 0, I 0, I 0, I 0])] hF (by kernel_rfl) fun fr hF => ?_
         refine q_storeBoxS 0 hs hM0 rfl [I 0, I 0, I 0, I 0] rfl hF rfl rfl (by kernel_rfl) rfl rfl rfl fun w16 S12 hs hp hF => ?_
         have tb := tb.stp hM0 hp
         have hM0 := hM0.stp hp
         have hs : Sep [BX b1 25 [I 0, I 0, I 0, I 0]] w16 S12 := hs
         refine from_pure 1 [(6, B b1 0), (7, .bool false)] hF (by kernel_rfl) fun fr hF => ?_
         refine from_end rfl (then_normal ?_)
         have hrets := fun {σ : List (Nat × Value)} (h : σ = [(6, B b1 0), (7, .bool false)]) => (by subst h; exact (Rets.cell rfl ty25 (hs.bx 0 rfl) rfl rfl (Rets.tmp rfl Rets.nil)) : Rets Tryd.prog σ w16 [.cell 6 25, .tmp 7] [.agg #[I 0, I 0, I 0, I 0], .bool false])
         obtain rfl := Option.some.inj h
         exact wp_ret (then_ret (retG (rs := [.cell 6 25, .tmp 7]) rfl (hF.sub [(6, B b1 0), (7, .bool false)] (by kernel_rfl)) (hrets rfl) rfl ⟨_, rfl, rfl, hM0.chg⟩))
       replace h := iteF hb h
       refine (wp_skip (then_normal ?_))
       refine wp_seq (wp_text' ?_)
       refine s_loadBoxS ty25 rfl rfl hF rfl (hs.bx 0 rfl) rfl rfl fun fr hF => ?_
       have hs : Sep [BX b1 25 [I 0, I 0, I 0, I 0]] w15 S11 := Sep.pick [1] hs (by decide) rfl
       refine q_storeBoxS 0 hs hM0 rfl [I 3, I x8, I x10, I x5] rfl hF rfl rfl (by kernel_rfl) rfl rfl rfl fun w17 S13 hs hp hF => ?_
       have tb := tb.stp hM0 hp
       have hM0 := hM0.stp hp
       have hs : Sep [BX b1 25 [I 3, I x8, I x10, I x5]] w17 S13 := hs
       refine from_pure 1 [(6, B b1 0), (7, .bool true)] hF (by kernel_rfl) fun fr hF => ?_
       refine from_end rfl (then_normal ?_)
       have hrets := fun {σ : List (Nat × Value)} (h : σ = [(6, B b1 0), (7, .bool true)]) => (by subst h; exact (Rets.cell rfl ty25 (hs.bx 0 rfl) rfl rfl (Rets.tmp rfl Rets.nil)) : Rets Tryd.prog σ w17 [.cell 6 25, .tmp 7] [.agg #[I 3, I x8, I x10, I x5], .bool true])
       obtain rfl := Option.some.inj h
       exact wp_ret (retG (rs := [.cell 6 25, .tmp 7]) rfl (hF.sub [(6, B b1 0), (7, .bool true)] (by kernel_rfl)) (hrets rfl) rfl ⟨_, rfl, rfl, hM0.chg⟩)
     replace h := iteF hb h
     refine wp_seq (wp_text' ?_)
     refine from_pure 1 [(0, Str.val p0), (1, I p1), (2, I p2), (6, B b1 0), (8, L a1 x1 c1), (9, B b2 0), (63, L a1 x1 c1)] hF (by kernel_rfl) fun fr hF => ?_
     refine from_pure 1 [(0, Str.val p0), (1, I p1), (2, I p2), (6, B b1 0), (8, L a1 x1 c1), (9, B b2 0), (64, I (len x1))] hF (by kernel_rfl) fun fr hF => ?_
     refine from_pure 1 [(0, Str.val p0), (1, I p1), (2, I p2), (6, B b1 0), (8, L a1 x1 c1), (9, B b2 0), (65, .bool ((len x1) == 2))] hF (by kernel_rfl) fun fr hF => ?_
     refine from_pure 1 [(0, Str.val p0), (1, I p1), (2, I p2), (6, B b1 0), (8, L a1 x1 c1), (9, B b2 0), (66, .bool ((len x1) == 2))] hF (by kernel_rfl) fun fr hF => ?_
     rcases ite_split (b := ((len x1) == 2)) h with ⟨hg1, h⟩ | ⟨hg1, h⟩
     · simp only [hg1] at hF
       refine from_takeL hF rfl rfl rfl rfl rfl rfl ?_
       dsimp only [List.set]
       refine from_pure 1 [(0, Str.val p0), (1, I p1), (2, I p2), (6, B b1 0), (8, L a1 x1 c1), (9, B b2 0), (66, .bool true), (67, B b2 0)] hF (by kernel_rfl) fun fr hF => ?_
       refine from_takeL hF rfl rfl rfl rfl rfl rfl ?_
       dsimp only [List.set]
       refine s_loadBox (I 3) ty3 rfl rfl hF rfl (hs.bx 0 rfl) rfl rfl fun fr hF => ?_
       refine from_takeL hF rfl rfl rfl rfl rfl rfl ?_
       dsimp only [List.set]
       refine from_pure 1 [(0, Str.val p0), (1, I p1), (2, I p2), (6, B b1 0), (8, L a1 x1 c1), (9, B b2 0), (66, .bool true), (69, .bool (3 == 9))] hF (by kernel_rfl) fun fr hF => ?_
       refine from_takeL hF rfl rfl rfl rfl rfl rfl ?_
       dsimp only [List.set]
       refine from_pure 1 [(0, Str.val p0), (1, I p1), (2, I p2), (6, B b1 0), (8, L a1 x1 c1), (9, B b2 0), (66, .bool true), (70, .bool (3 == 9))] hF (by kernel_rfl) fun fr hF => ?_
       rcases ite_split (b := (3 == 9)) h with ⟨hg2, h⟩ | ⟨hg2, h⟩
       · simp only [hg2] at hF
         refine from_skip hF rfl rfl rfl rfl rfl rfl rfl rfl rfl fun fr hF => ?_
         refine from_skip hF rfl rfl rfl rfl rfl rfl rfl rfl rfl fun fr hF => ?_
         refine from_skip hF rfl rfl rfl rfl rfl rfl rfl rfl rfl fun fr hF => ?_
         refine from_takeL hF rfl rfl rfl rfl rfl rfl ?_
         dsimp only [List.set]
         refine from_pick rfl rfl hF rfl rfl fun fr hF => ?_
         refine from_pick rfl rfl hF rfl rfl fun fr hF => ?_
         refine from_pure 1 [(0, Str.val p0), (1, I p1), (2, I p2), (6, B b1 0), (8, L a1 x1 c1), (9, B b2 0), (62, .bool true)] hF (by kernel_rfl) fun fr hF => ?_
         refine from_end rfl (then_normal ?_)
         refine (wp_if hF (b := true) rfl (fun hb => ?_) (fun hb => ?_))
         · replace h := iteT hb h
           refine (wp_text' ?_)
           refine from_pure 1 [(0, Str.val p0), (1, I p1), (2, I p2), (6, B b1 0), (9, B b2 0), (76, L a1 x1 c1)] hF (by kernel_rfl) fun fr hF => ?_
           obtain ⟨x12, hx12, h⟩ := bindE h
           refine s_elemF (z := x12) (Str.val x12) ty9 Tryd.underlying55 rfl rfl rfl rfl rfl hF rfl (hs.rv 1 rfl) rfl (get?_nn hx12) (get?_at hx12) rfl fun p fr hF => ?_
           have hs : Sep [BX b2 25 [I 3, I 0, I 0, I x5], BX b1 25 [I 0, I 0, I 0, I 0]] w11 S9 := Sep.pick [0, 2] hs (by decide) rfl
           obtain ⟨x13, hx13, h⟩ := bindE h
           refine s_call [Str.val x12] Tryd.call50 rfl rfl hF rfl (impl_parseOperand_ok x12 hx13 tb) fun v w18 fr hRes hF => ?_
           obtain ⟨rfl, hc⟩ := hRes
           have tb := tb.ext hc
           have hs := hs.ext hc
           have hM0 := hM0.ext hc
           refine from_pure 1 [(0, Str.val p0), (1, I p1), (2, I p2), (6, B b1 0), (9, B b2 0), (79, I x13), (80, B b2 2)] hF (by kernel_rfl) fun fr hF => ?_
           refine q_storeBox 0 hs hM0 rfl [I 3, I 0, I x13, I x5] rfl hF rfl rfl (by kernel_rfl) rfl rfl rfl fun w19 S14 hs hp hF => ?_
           have tb := tb.stp hM0 hp
           have hM0 := hM0.stp hp
           have hs : Sep [BX b2 25 [I 3, I 0, I x13, I x5], BX b1 25 [I 0, I 0, I 0, I 0]] w19 S14 := hs
           refine from_end rfl ?_
           refine blk_normal (then_normal ?_)
           refine wp_seq ?_
           refine wp_seq (wp_text' ?_)
           refine s_loadBoxS ty25 rfl rfl hF rfl (hs.bx 0 rfl) rfl rfl fun fr hF => ?_
           refine from_pure 2 [(0, Str.val p0), (6, B b1 0), (9, B b2 0), (90, .agg #[I 3, I 0, I x13, I x5]), (91, I p1), (92, I p2)] hF (by kernel_rfl) fun fr hF => ?_
           obtain ⟨x14, hx14, h⟩ := bindE h
           refine s_call [.agg #[I 3, I 0, I x13, I x5], I p1, I p2] Tryd.call9 rfl rfl hF rfl (impl_FormatIns_ok (D.Ins.mk 3 0 x13 x5) p1 p2 hx14 tb) fun v w20 fr hRes hF => ?_
           obtain ⟨rfl, hc⟩ := hRes
           have tb := tb.ext hc
           have hs := hs.ext hc
           have hM0 := hM0.ext hc
           refine from_pure 2 [(6, B b1 0), (9, B b2 0), (95, .bool (!(Str.eqb x14 p0)))] hF (by kernel_rfl) fun fr hF => ?_
           refine from_end rfl (then_normal ?_)
           refine (wp_if hF (b := (!(Str.eqb x14 p0))) rfl (fun hb => ?_) (fun hb => ?_))
           · replace h := iteT hb h
             have hs : Sep [BX b1 25 [I 0, I 0, I 0, I 0]] w20 S14 := Sep.pick [1] hs (by decide) rfl
             refine wp_seq (wp_text' ?_)
             refine from_pure 1 [(6, B b1 0), (96, .agg #[I 0, I 0, I 0, I 0])] hF (by kernel_rfl) fun fr hF => ?_
             refine q_storeBoxS 0 hs hM0 rfl [I 0, I 0, I 0, I 0] rfl hF rfl rfl (by kernel_rfl) rfl rfl rfl fun w21 S15 hs hp hF => ?_
             have tb := tb.stp hM0 hp
             have hM0 := hM0.stp hp
             have hs : Sep [BX b1 25 [I 0, I 0, I 0, I 0]] w21 S15 := hs
             refine from_pure 1 [(6, B b1 0), (7, .bool false)] hF (by kernel_rfl) fun fr hF => ?_
             refine from_end rfl (then_normal ?_)
             have hrets := fun {σ : List (Nat × Value)} (h : σ = [(6, B b1 0), (7, .bool false)]) => (by subst h; exact (Rets.cell rfl ty25 (hs.bx 0 rfl) rfl rfl (Rets.tmp rfl Rets.nil)) : Rets Tryd.prog σ w21 [.cell 6 25, .tmp 7] [.agg #[I 0, I 0, I 0, I 0], .bool false])
             obtain rfl := Option.some.inj h
             exact wp_ret (then_ret (retG (rs := [.cell 6 25, .tmp 7]) rfl (hF.sub [(6, B b1 0), (7, .bool false)] (by kernel_rfl)) (hrets rfl) rfl ⟨_, rfl, rfl, hM0.chg⟩))
           replace h := iteF hb h
           refine (wp_skip (then_normal ?_))
           refine wp_seq (wp_text' ?_)
           refine s_loadBoxS ty25 rfl rfl hF rfl (hs.bx 0 rfl) rfl rfl fun fr hF => ?_
           have hs : Sep [BX b1 25 [I 0, I 0, I 0, I 0]] w20 S14 := Sep.pick [1] hs (by decide) rfl
           refine q_storeBoxS 0 hs hM0 rfl [I 3, I 0, I x13, I x5] rfl hF rfl rfl (by kernel_rfl) rfl rfl rfl fun w22 S16 hs hp hF => ?_
           have tb := tb.stp hM0 hp
           have hM0 := hM0.stp hp
           have hs : Sep [BX b1 25 [I 3, I 0, I x13, I x5]] w22 S16 := hs
           refine from_pure 1 [(6, B b1 0), (7, .bool true)] hF (by kernel_rfl) fun fr hF => ?_
           refine from_end rfl (then_normal ?_)
           have hrets := fun {σ : List (Nat × Value)} (h : σ = [(6, B b1 0), (7, .bool true)]) => (by subst h; exact (Rets.cell rfl ty25 (hs.bx 0 rfl) rfl rfl (Rets.tmp rfl Rets.nil)) : Rets Tryd.prog σ w22 [.cell 6 25, .tmp 7] [.agg #[I 3, I 0, I x13, I x5], .bool true])
           obtain rfl := Option.some.inj h
           exact wp_ret (retG (rs := [.cell 6 25, .tmp 7]) rfl (hF.sub [(6, B b1 0), (7, .bool true)] (by kernel_rfl)) (hrets rfl) rfl ⟨_, rfl, rfl, hM0.chg⟩)
         replace h := iteF hb h
         refine wp_seq (wp_pure [(0, Str.val p0), (1, I p1), (2, I p2), (6, B b1 0), (8, L a1 x1 c1), (9, B b2 0), (81, .bool ((len x1) == 2))] hF (by kernel_rfl) fun fr hF => then_normal ?_)
         refine (wp_if hF (b := ((len x1) == 2)) rfl (fun hb => ?_) (fun hb => ?_))
         · replace h := iteT hb h
           refine (wp_text' ?_)
           refine from_pure 1 [(0, Str.val p0), (1, I p1), (2, I p2), (6, B b1 0), (9, B b2 0), (85, L a1 x1 c1)] hF (by kernel_rfl) fun fr hF => ?_
           obtain ⟨x15, hx15, h⟩ := bindE h
           refine s_elemF (z := x15) (Str.val x15) ty9 Tryd.underlying55 rfl rfl rfl rfl rfl hF rfl (hs.rv 1 rfl) rfl (get?_nn hx15) (get?_at hx15) rfl fun p fr hF => ?_
           have hs : Sep [BX b2 25 [I 3, I 0, I 0, I x5], BX b1 25 [I 0, I 0, I 0, I 0]] w11 S9 := Sep.pick [0, 2] hs (by decide) rfl
           obtain ⟨x16, hx16, h⟩ := bindE h
           refine s_call [Str.val x15] Tryd.call50 rfl rfl hF rfl (impl_parseOperand_ok x15 hx16 tb) fun v w23 fr hRes hF => ?_
           obtain ⟨rfl, hc⟩ := hRes
           have tb := tb.ext hc
           have hs := hs.ext hc
           have hM0 := hM0.ext hc
           refine from_pure 1 [(0, Str.val p0), (1, I p1), (2, I p2), (6, B b1 0), (9, B b2 0), (88, I x16), (89, B b2 1)] hF (by kernel_rfl) fun fr hF => ?_
           refine q_storeBox 0 hs hM0 rfl [I 3, I x16, I 0, I x5] rfl hF rfl rfl (by kernel_rfl) rfl rfl rfl fun w24 S17 hs hp hF => ?_
           have tb := tb.stp hM0 hp
           have hM0 := hM0.stp hp
           have hs : Sep [BX b2 25 [I 3, I x16, I 0, I x5], BX b1 25 [I 0, I 0, I 0, I 0]] w24 S17 := hs
           refine from_end rfl ?_
           refine blk_normal (then_normal ?_)
           refine wp_seq ?_
           refine wp_seq (wp_text' ?_)
           refine s_loadBoxS ty25 rfl rfl hF rfl (hs.bx 0 rfl) rfl rfl fun fr hF => ?_
           refine from_pure 2 [(0, Str.val p0), (6, B b1 0), (9, B b2 0), (90, .agg #[I 3, I x16, I 0, I x5]), (91, I p1), (92, I p2)] hF (by kernel_rfl) fun fr hF => ?_
           obtain ⟨x17, hx17, h⟩ := bindE h
           refine s_call [.agg #[I 3, I x16, I 0, I x5], I p1, I p2] Tryd.call9 rfl rfl hF rfl (impl_FormatIns_ok (D.Ins.mk 3 x16 0 x5) p1 p2 hx17 tb) fun v w25 fr hRes hF => ?_
           obtain ⟨rfl, hc⟩ := hRes
           have tb := tb.ext hc
           have hs := hs.ext hc
           have hM0 := hM0.ext hc
           refine from_pure 2 [(6, B b1 0), (9, B b2 0), (95, .bool (!(Str.eqb x17 p0)))] hF (by kernel_rfl) fun fr hF => ?_
           refine from_end rfl (then_normal ?_)
           refine (wp_if hF (b := (!(Str.eqb x17 p0))) rfl (fun hb => ?_) (fun hb => ?_))
           · replace h := iteT hb h
             have hs : Sep [BX b1 25 [I 0, I 0, I 0, I 0]] w25 S17 := Sep.pick [1] hs (by decide) rfl
             refine wp_seq (wp_text' ?_)
             refine from_pure 1 [(6, B b1 0), (96, .agg #[I 0, I 0, I 0, I 0])] hF (by kernel_rfl) fun fr hF => ?_
             refine q_storeBoxS 0 hs hM0 rfl [I 0, I 0, I 0, I 0] rfl hF rfl rfl (by kernel_rfl) rfl rfl rfl fun w26 S18 hs hp hF => ?_
             have tb := tb.stp hM0 hp
             have hM0 := hM0.stp hp
             have hs : Sep [BX b1 25 [I 0, I 0, I 0, I 0]] w26 S18 := hs
             refine from_pure 1 [(6, B b1 0), (7, .bool false)] hF (by kernel_rfl) fun fr hF => ?_
             refine from_end rfl (then_normal ?_)
             have hrets := fun {σ : List (Nat × Value)} (h : σ = [(6, B b1 0), (7, .bool false)]) => (by subst h; exact (Rets.cell rfl ty25 (hs.bx 0 rfl) rfl rfl (Rets.tmp rfl Rets.nil)) : Rets Tryd.prog σ w26 [.cell 6 25, .tmp 7] [.agg #[I 0, I 0, I 0, I 0], .bool false])
             obtain rfl := Option.some.inj h
             exact wp_ret (then_ret (retG (rs := [.cell 6 25, .tmp 7]) rfl (hF.sub [(6, B b1 0), (7, .bool false)] (by kernel_rfl)) (hrets rfl) rfl ⟨_, rfl, rfl, hM0.chg⟩))
           replace h := iteF hb h
           refine (wp_skip (then_normal ?_))
           refine wp_seq (wp_text' ?_)
           refine s_loadBoxS ty25 rfl rfl hF rfl (hs.bx 0 rfl) rfl rfl fun fr hF => ?_
           have hs : Sep [BX b1 25 [I 0, I 0, I 0, I 0]] w25 S17 := Sep.pick [1] hs (by decide) rfl
           refine q_storeBoxS 0 hs hM0 rfl [I 3, I x16, I 0, I x5] rfl hF rfl rfl (by kernel_rfl) rfl rfl rfl fun w27 S19 hs hp hF => ?_
           have tb := tb.stp hM0 hp
           have hM0 := hM0.stp hp
           have hs : Sep [BX b1 25 [I 3, I x16, I 0, I x5]] w27 S19 := hs
           refine from_pure 1 [(6, B b1 0), (7, .bool true)] hF (by kernel_rfl) fun fr hF => ?_
           refine from_end rfl (then_normal ?_)
           have hrets := fun {σ : List (Nat × Value)} (h : σ = [(6, B b1 0), (7, .bool true)]) => (by subst h; exact (Rets.cell rfl ty25 (hs.bx 0 rfl) rfl rfl (Rets.tmp rfl Rets.nil)) : Rets Tryd.prog σ w27 [.cell 6 25, .tmp 7] [.agg #[I 3, I x16, I 0, I x5], .bool true])
           obtain rfl := Option.some.inj h
           exact wp_ret (retG (rs := [.cell 6 25, .tmp 7]) rfl (hF.sub [(6, B b1 0), (7, .bool true)] (by kernel_rfl)) (hrets rfl) rfl ⟨_, rfl, rfl, hM0.chg⟩)
         replace h := iteF hb h
         have hs : Sep [BX b2 25 [I 3, I 0, I 0, I x5], BX b1 25 [I 0, I 0, I 0, I 0]] w11 S9 := Sep.pick [0, 2] hs (by decide) rfl
         refine (wp_skip ?_)
         refine blk_normal (then_normal ?_)
         refine wp_seq ?_
         refine wp_seq (wp_text' ?_)
         refine s_loadBoxS ty25 rfl rfl hF rfl (hs.bx 0 rfl) rfl rfl fun fr hF => ?_
         refine from_pure 2 [(0, Str.val p0), (6, B b1 0), (9, B b2 0), (90, .agg #[I 3, I 0, I 0, I x5]), (91, I p1), (92, I p2)] hF (by kernel_rfl) fun fr hF => ?_
         obtain ⟨x18, hx18, h⟩ := bindE h
         refine s_call [.agg #[I 3, I 0, I 0, I x5], I p1, I p2] Tryd.call9 rfl rfl hF rfl (impl_FormatIns_ok (D.Ins.mk 3 0 0 x5) p1 p2 hx18 tb) fun v w28 fr hRes hF => ?_
         obtain ⟨rfl, hc⟩ := hRes
         have tb := tb.ext hc
         have hs := hs.ext hc
         have hM0 := hM0.ext hc
         refine from_pure 2 [(6, B b1 0), (9, B b2 0), (95, .bool (!(Str.eqb x18 p0)))] hF (by kernel_rfl) fun fr hF => ?_
         refine from_end rfl (then_normal ?_)
         refine (wp_if hF (b := (!(Str.eqb x18 p0))) rfl (fun hb => ?_) (fun hb => ?_))
         · replace h := iteT hb h
           have hs : Sep [BX b1 25 [I 0, I 0, I 0, I 0]] w28 S9 := Sep.pick [1] hs (by decide) rfl
           refine wp_seq (wp_text' ?_)
           refine from_pure 1 [(6, B b1 0), (96, .agg #[I 0, I 0, I 0, I 0])] hF (by kernel_rfl) fun fr hF => ?_
           refine q_storeBoxS 0 hs hM0 rfl [I 0, I 0, I 0, I 0] rfl hF rfl rfl (by kernel_rfl) rfl rfl rfl fun w29 S20 hs hp hF => ?_
           have tb := tb.stp hM0 hp
           have hM0 := hM0.stp hp
           have hs : Sep [BX b1 25 [I 0, I 0, I 0, I 0]] w29 S20 := hs
           refine from_pure 1 [(6, B b1 0), (7, .bool false)] hF (by kernel_rfl) fun fr hF => ?_
           refine from_end rfl (then_normal ?_)
           have hrets := fun {σ : List (Nat × Value)} (h : σ = [(6, B b1 0), (7, .bool false)]) => (by subst h; exact (Rets.cell rfl ty25 (hs.bx 0 rfl) rfl rfl (Rets.tmp rfl Rets.nil)) : Rets Tryd.prog σ w29 [.cell 6 25, .tmp 7] [.agg #[I 0, I 0, I 0, I 0], .bool false])
           obtain rfl := Option.some.inj h
           exact wp_ret (then_ret (retG (rs := [.cell 6 25, .tmp 7]) rfl (hF.sub [(6, B b1 0), (7, .bool false)] (by kernel_rfl)) (hrets rfl) rfl ⟨_, rfl, rfl, hM0.chg⟩))
         replace h := iteF hb h
         refine (wp_skip (then_normal ?_))
         refine wp_seq (wp_text' ?_)
         refine s_loadBoxS ty25 rfl rfl hF rfl (hs.bx 0 rfl) rfl rfl fun fr hF => ?_
         have hs : Sep [BX b1 25 [I 0, I 0, I 0, I 0]] w28 S9 := Sep.pick [1] hs (by decide) rfl
         refine q_storeBoxS 0 hs hM0 rfl [I 3, I 0, I 0, I x5] rfl hF rfl rfl (by kernel_rfl) rfl rfl rfl fun w30 S21 hs hp hF => ?_
         have tb := tb.stp hM0 hp
         have hM0 := hM0.stp hp
         have hs : Sep [BX b1 25 [I 3, I 0, I 0, I x5]] w30 S21 := hs
         refine from_pure 1 [(6, B b1 0), (7, .bool true)] hF (by kernel_rfl) fun fr hF => ?_
         refine from_end rfl (then_normal ?_)
         have hrets := fun {σ : List (Nat × Value)} (h : σ = [(6, B b1 0), (7, .bool true)]) => (by subst h; exact (Rets.cell rfl ty25 (hs.bx 0 rfl) rfl rfl (Rets.tmp rfl Rets.nil)) : Rets Tryd.prog σ w30 [.cell 6 25, .tmp 7] [.agg #[I 3, I 0, I 0, I x5], .bool true])
         obtain rfl := Option.some.inj h
         exact wp_ret (retG (rs := [.cell 6 25, .tmp 7]) rfl (hF.sub [(6, B b1 0), (7, .bool true)] (by kernel_rfl)) (hrets rfl) rfl ⟨_, rfl, rfl, hM0.chg⟩)
       simp only [hg2] at hF
       refine from_takeL hF rfl rfl rfl rfl rfl rfl ?_
       dsimp only [List.set]
       refine from_pure 1 [(0, Str.val p0), (1, I p1), (2, I p2), (6, B b1 0), (8, L a1 x1 c1), (9, B b2 0), (66, .bool true), (70, .bool false), (71, B b2 0)] hF (by kernel_rfl) fun fr hF => ?_
       refine from_takeL hF rfl rfl rfl rfl rfl rfl ?_
       dsimp only [List.set]
       refine s_loadBox (I 3) ty3 rfl rfl hF rfl (hs.bx 0 rfl) rfl rfl fun fr hF => ?_
       refine from_takeL hF rfl rfl rfl rfl rfl rfl ?_
       dsimp only [List.set]
       refine from_pure 1 [(0, Str.val p0), (1, I p1), (2, I p2), (6, B b1 0), (8, L a1 x1 c1), (9, B b2 0), (66, .bool true), (70, .bool false), (73, .bool (3 == 11))] hF (by kernel_rfl) fun fr hF => ?_
       refine from_takeL hF rfl rfl rfl rfl rfl rfl ?_
       dsimp only [List.set]
       refine from_pick rfl rfl hF rfl rfl fun fr hF => ?_
       refine from_pick rfl rfl hF rfl rfl fun fr hF => ?_
       refine from_pure 1 [(0, Str.val p0), (1, I p1), (2, I p2), (6, B b1 0), (8, L a1 x1 c1), (9, B b2 0), (62, .bool (3 == 11))] hF (by kernel_rfl) fun fr hF => ?_
       refine from_end rfl (then_normal ?_)
       refine (wp_if hF (b := (3 == 11)) rfl (fun hb => ?_) (fun hb => ?_))
       · replace h := iteT hb h
         refine (wp_text' ?_)
         refine from_pure 1 [(0, Str.val p0), (1, I p1), (2, I p2), (6, B b1 0), (9, B b2 0), (76, L a1 x1 c1)] hF (by kernel_rfl) fun fr hF => ?_
         obtain ⟨x19, hx19, h⟩ := bindE h
         refine s_elemF (z := x19) (Str.val x19) ty9 Tryd.underlying55 rfl rfl rfl rfl rfl hF rfl (hs.rv 1 rfl) rfl (get?_nn hx19) (get?_at hx19) rfl fun p fr hF => ?_
         have hs : Sep [BX b2 25 [I 3, I 0, I 0, I x5], BX b1 25 [I 0, I 0, I 0, I 0]] w11 S9 := Sep.pick [0, 2] hs (by decide) rfl
         obtain ⟨x20, hx20, h⟩ := bindE h
         refine s_call [Str.val x19] Tryd.call50 rfl rfl hF rfl (impl_parseOperand_ok x19 hx20 tb) fun v w31 fr hRes hF => ?_
         obtain ⟨rfl, hc⟩ := hRes
         have tb := tb.ext hc
         have hs := hs.ext hc
         have hM0 := hM0.ext hc
         refine from_pure 1 [(0, Str.val p0), (1, I p1), (2, I p2), (6, B b1 0), (9, B b2 0), (79, I x20), (80, B b2 2)] hF (by kernel_rfl) fun fr hF => ?_
         refine q_storeBox 0 hs hM0 rfl [I 3, I 0, I x20, I x5] rfl hF rfl rfl (by kernel_rfl) rfl rfl rfl fun w32 S22 hs hp hF => ?_
         have tb := tb.stp hM0 hp
         have hM0 := hM0.stp hp
         have hs : Sep [BX b2 25 [I 3, I 0, I x20, I x5], BX b1 25 [I 0, I 0, I 0, I 0]] w32 S22 := hs
         refine from_end rfl ?_
         refine blk_normal (then_normal ?_)
         refine wp_seq ?_
         refine wp_seq (wp_text' ?_)
         refine s_loadBoxS ty25 rfl rfl hF rfl (hs.bx 0 rfl) rfl rfl fun fr hF => ?_
         refine from_pure 2 [(0, Str.val p0), (6, B b1 0), (9, B b2 0), (90, .agg #[I 3, I 0, I x20, I x5]), (91, I p1), (92, I p2)] hF (by kernel_rfl) fun fr hF => ?_
         obtain ⟨x21, hx21, h⟩ := bindE h
         refine s_call [.agg #[I 3, I 0, I x20, I x5], I p1, I p2] Tryd.call9 rfl rfl hF rfl (impl_FormatIns_ok (D.Ins.mk 3 0 x20 x5) p1 p2 hx21 tb) fun v w33 fr hRes hF => ?_
         obtain ⟨rfl, hc⟩ := hRes
         have tb := tb.ext hc
         have hs := hs.ext hc
         have hM0 := hM0.ext hc
         refine from_pure 2 [(6, B b1 0), (9, B b2 0), (95, .bool (!(Str.eqb x21 p0)))] hF (by kernel_rfl) fun fr hF => ?_
         refine from_end rfl (then_normal ?_)
         refine (wp_if hF (b := (!(Str.eqb x21 p0))) rfl (fun hb => ?_) (fun hb => ?_))
         · replace h := iteT hb h
           have hs : Sep [BX b1 25 [I 0, I 0, I 0, I 0]] w33 S22 := Sep.pick [1] hs (by decide) rfl
           refine wp_seq (wp_text' ?_)
           refine from_pure 1 [(6, B b1 0), (96, .agg #[I 0, I 0, I 0, I 0])] hF (by kernel_rfl) fun fr hF => ?_
           refine q_storeBoxS 0 hs hM0 rfl [I 0, I 0, I 0, I 0] rfl hF rfl rfl (by kernel_rfl) rfl rfl rfl fun w34 S23 hs hp hF => ?_
           have tb := tb.stp hM0 hp
           have hM0 := hM0.stp hp
           have hs : Sep [BX b1 25 [I 0, I 0, I 0, I 0]] w34 S23 := hs
           refine from_pure 1 [(6, B b1 0), (7, .bool false)] hF (by kernel_rfl) fun fr hF => ?_
           refine from_end rfl (then_normal ?_)
           have hrets := fun {σ : List (Nat × Value)} (h : σ = [(6, B b1 0), (7, .bool false)]) => (by subst h; exact (Rets.cell rfl ty25 (hs.bx 0 rfl) rfl rfl (Rets.tmp rfl Rets.nil)) : Rets Tryd.prog σ w34 [.cell 6 25, .tmp 7] [.agg #[I 0, I 0, I 0, I 0], .bool false])
           obtain rfl := Option.some.inj h
           exact wp_ret (then_ret (retG (rs := [.cell 6 25, .tmp 7]) rfl (hF.sub [(6, B b1 0), (7, .bool false)] (by kernel_rfl)) (hrets rfl) rfl ⟨_, rfl, rfl, hM0.chg⟩))
         replace h := iteF hb h
         refine (wp_skip (then_normal ?_))
         refine wp_seq (wp_text' ?_)
         refine s_loadBoxS ty25 rfl rfl hF rfl (hs.bx 0 rfl) rfl rfl fun fr hF => ?_
         have hs : Sep [BX b1 25 [I 0, I 0, I 0, I 0]] w33 S22 := Sep.pick [1] hs (by decide) rfl
         refine q_storeBoxS 0 hs hM0 rfl [I 3, I 0, I x20, I x5] rfl hF rfl rfl (by kernel_rfl) rfl rfl rfl fun w35 S24 hs hp hF => ?_
         have tb := tb.stp hM0 hp
         have hM0 := hM0.stp hp
         have hs : Sep [BX b1 25 [I 3, I 0, I x20, I x5]] w35 S24 := hs
         refine from_pure 1 [(6, B b1 0), (7, .bool true)] hF (by kernel_rfl) fun fr hF => ?_
         refine from_end rfl (then_normal ?_)
         have hrets := fun {σ : List (Nat × Value)} (h : σ = [(6, B b1 0), (7, .bool true)]) => (by subst h; exact (Rets.cell rfl ty25 (hs.bx 0 rfl) rfl rfl (Rets.tmp rfl Rets.nil)) : Rets Tryd.prog σ w35 [.cell 6 25, .tmp 7] [.agg #[I 3, I 0, I x20, I x5], .bool true])
         obtain rfl := Option.some.inj h
         exact wp_ret (retG (rs := [.cell 6 25, .tmp 7]) rfl (hF.sub [(6, B b1 0), (7, .bool true)] (by kernel_rfl)) (hrets rfl) rfl ⟨_, rfl, rfl, hM0.chg⟩)
       replace h := iteF hb h
       refine wp_seq (wp_pure [(0, Str.val p0), (1, I p1), (2, I p2), (6, B b1 0), (8, L a1 x1 c1), (9, B b2 0), (81, .bool ((len x1) == 2))] hF (by kernel_rfl) fun fr hF => then_normal ?_)
       refine (wp_if hF (b := ((len x1) == 2)) rfl (fun hb => ?_) (fun hb => ?_))
       · replace h := iteT hb h
         refine (wp_text' ?_)
         refine from_pure 1 [(0, Str.val p0), (1, I p1), (2, I p2), (6, B b1 0), (9, B b2 0), (85, L a1 x1 c1)] hF (by kernel_rfl) fun fr hF => ?_
         obtain ⟨x22, hx22, h⟩ := bindE h
         refine s_elemF (z := x22) (Str.val x22) ty9 Tryd.underlying55 rfl rfl rfl rfl rfl hF rfl (hs.rv 1 rfl) rfl (get?_nn hx22) (get?_at hx22) rfl fun p fr hF => ?_
         have hs : Sep [BX b2 25 [I 3, I 0, I 0, I x5], BX b1 25 [I 0, I 0, I 0, I 0]] w11 S9 := Sep.pick [0, 2] hs (by decide) rfl
         obtain ⟨x23, hx23, h⟩ := bindE h
         refine s_call [Str.val x22] Tryd.call50 rfl rfl hF rfl (impl_parseOperand_ok x22 hx23 tb) fun v w36 fr hRes hF => ?_
         obtain ⟨rfl, hc⟩ := hRes
         have tb := tb.ext hc
         have hs := hs.ext hc
         have hM0 := hM0.ext hc
         refine from_pure 1 [(0, Str.val p0), (1, I p1), (2, I p2), (6, B b1 0), (9, B b2 0), (88, I x23), (89, B b2 1)] hF (by kernel_rfl) fun fr hF => ?_
         refine q_storeBox 0 hs hM0 rfl [I 3, I x23, I 0, I x5] rfl hF rfl rfl (by kernel_rfl) rfl rfl rfl fun w37 S25 hs hp hF => ?_
         have tb := tb.stp hM0 hp
         have hM0 := hM0.stp hp
         have hs : Sep [BX b2 25 [I 3, I x23, I 0, I x5], BX b1 25 [I 0, I 0, I 0, I 0]] w37 S25 := hs
         refine from_end rfl ?_
         refine blk_normal (then_normal ?_)
         refine wp_seq ?_
         refine wp_seq (wp_text' ?_)
         refine s_loadBoxS ty25 rfl rfl hF rfl (hs.bx 0 rfl) rfl rfl fun fr hF => ?_
         refine from_pure 2 [(0, Str.val p0), (6, B b1 0), (9, B b2 0), (90, .agg #[I 3, I x23, I 0, I x5]), (91, I p1), (92, I p2)] hF (by kernel_rfl) fun fr hF => ?_
         obtain ⟨x24, hx24, h⟩ := bindE h
         refine s_call [.agg #[I 3, I x23, I 0, I x5], I p1, I p2] Tryd.call9 rfl rfl hF rfl (impl_FormatIns_ok (D.Ins.mk 3 x23 0 x5) p1 p2 hx24 tb) fun v w38 fr hRes hF => ?_
         obtain ⟨rfl, hc⟩ := hRes
         have tb := tb.ext hc
         have hs := hs.ext hc
         have hM0 := hM0.ext hc
         refine from_pure 2 [(6, B b1 0), (9, B b2 0), (95, .bool (!(Str.eqb x24 p0)))] hF (by kernel_rfl) fun fr hF => ?_
         refine from_end rfl (then_normal ?_)
         refine (wp_if hF (b := (!(Str.eqb x24 p0))) rfl (fun hb => ?_) (fun hb => ?_))
         · replace h := iteT hb h
           have hs : Sep [BX b1 25 [I 0, I 0, I 0, I 0]] w38 S25 := Sep.pick [1] hs (by decide) rfl
           refine wp_seq (wp_text' ?_)
           refine from_pure 1 [(6, B b1 0), (96, .agg #[I 0, I 0, I 0, I 0])] hF (by kernel_rfl) fun fr hF => ?_
           refine q_storeBoxS 0 hs hM0 rfl [I 0, I 0, I 0, I 0] rfl hF rfl rfl (by kernel_rfl) rfl rfl rfl fun w39 S26 hs hp hF => ?_
           have tb := tb.stp hM0 hp
           have hM0 := hM0.stp hp
           have hs : Sep [BX b1 25 [I 0, I 0, I 0, I 0]] w39 S26 := hs
           refine from_pure 1 [(6, B b1 0), (7, .bool false)] hF (by kernel_rfl) fun fr hF => ?_
           refine from_end rfl (then_normal ?_)
           have hrets := fun {σ : List (Nat × Value)} (h : σ = [(6, B b1 0), (7, .bool false)]) => (by subst h; exact (Rets.cell rfl ty25 (hs.bx 0 rfl) rfl rfl (Rets.tmp rfl Rets.nil)) : Rets Tryd.prog σ w39 [.cell 6 25, .tmp 7] [.agg #[I 0, I 0, I 0, I 0], .bool false])
           obtain rfl := Option.some.inj h
           exact wp_ret (then_ret (retG (rs := [.cell 6 25, .tmp 7]) rfl (hF.sub [(6, B b1 0), (7, .bool false)] (by kernel_rfl)) (hrets rfl) rfl ⟨_, rfl, rfl, hM0.chg⟩))
         replace h := iteF hb h
         refine (wp_skip (then_normal ?_))
         refine wp_seq (wp_text' ?_)
         refine s_loadBoxS ty25 rfl rfl hF rfl (hs.bx 0 rfl) rfl rfl fun fr hF => ?_
         have hs : Sep [BX b1 25 [I 0, I 0, I 0, I 0]] w38 S25 := Sep.pick [1] hs (by decide) rfl
         refine q_storeBoxS 0 hs hM0 rfl [I 3, I x23, I 0, I x5] rfl hF rfl rfl (by kernel_rfl) rfl rfl rfl fun w40 S27 hs hp hF => ?_
         have tb := tb.stp hM0 hp
         have hM0 := hM0.stp hp
         have hs : Sep [BX b1 25 [I 3, I x23, I 0, I x5]] w40 S27 := hs
         refine from_pure 1 [(6, B b1 0), (7, .bool true)] hF (by kernel_rfl) fun fr hF => ?_
         refine from_end rfl (then_normal ?_)
         have hrets := fun {σ : List (Nat × Value)} (h : σ = [(6, B b1 0), (7, .bool true)]) => (by subst h; exact (Rets.cell rfl ty25 (hs.bx 0 rfl) rfl rfl (Rets.tmp rfl Rets.nil)) : Rets Tryd.prog σ w40 [.cell 6 25, .tmp 7] [.agg #[I 3, I x23, I 0, I x5], .bool true])
         obtain rfl := Option.some.inj h
         exact wp_ret (retG (rs := [.cell 6 25, .tmp 7]) rfl (hF.sub [(6, B b1 0), (7, .bool true)] (by kernel_rfl)) (hrets rfl) rfl ⟨_, rfl, rfl, hM0.chg⟩)
       replace h := iteF hb h
       have hs : Sep [BX b2 25 [I 3, I 0, I 0, I x5], BX b1 25 [I 0, I 0, I 0, I 0]] w11 S9 := Sep.pick [0, 2] hs (by decide) rfl
       refine (wp_skip ?_)
       refine blk_normal (then_normal ?_)
       refine wp_seq ?_
       refine wp_seq (wp_text' ?_)
       refine s_loadBoxS ty25 rfl rfl hF rfl (hs.bx 0 rfl) rfl rfl fun fr hF => ?_
       refine from_pure 2 [(0, Str.val p0), (6, B b1 0), (9, B b2 0), (90, .agg #[I 3, I 0, I 0, I x5]), (91, I p1), (92, I p2)] hF (by kernel_rfl) fun fr hF => ?_
       obtain ⟨x25, hx25, h⟩ := bindE h
       refine s_call [.agg #[I 3, I 0, I 0, I x5], I p1, I p2] Tryd.call9 rfl rfl hF rfl (impl_FormatIns_ok (D.Ins.mk 3 0 0 x5) p1 p2 hx25 tb) fun v w41 fr hRes hF => ?_
       obtain ⟨rfl, hc⟩ := hRes
       have tb := tb.ext hc
       have hs := hs.ext hc
       have hM0 := hM0.ext hc
       refine from_pure 2 [(6, B b1 0), (9, B b2 0), (95, .bool (!(Str.eqb x25 p0)))] hF (by kernel_rfl) fun fr hF => ?_
       refine from_end rfl (then_normal ?_)
       refine (wp_if hF (b := (!(Str.eqb x25 p0))) rfl (fun hb => ?_) (fun hb => ?_))
       · replace h := iteT hb h
         have hs : Sep [BX b1 25 [I 0, I 0, I 0, I 0]] w41 S9 := Sep.pick [1] hs (by decide) rfl
         refine wp_seq (wp_text' ?_)
         refine from_pure 1 [(6, B b1 0), (96, .agg #[I 0, I 0, I 0, I 0])] hF (by kernel_rfl) fun fr hF => ?_
         refine q_storeBoxS 0 hs hM0 rfl [I 0, I 0, I 0, I 0] rfl hF rfl rfl (by kernel_rfl) rfl rfl rfl fun w42 S28 hs hp hF => ?_
         have tb := tb.stp hM0 hp
         have hM0 := hM0.stp hp
         have hs : Sep [BX b1 25 [I 0, I 0, I 0, I 0]] w42 S28 := hs
         refine from_pure 1 [(6, B b1 0), (7, .bool false)] hF (by kernel_rfl) fun fr hF => ?_
         refine from_end rfl (then_normal ?_)
         have hrets := fun {σ : List (Nat × Value)} (h : σ = [(6, B b1 0), (7, .bool false)]) => (by subst h; exact (Rets.cell rfl ty25 (hs.bx 0 rfl) rfl rfl (Rets.tmp rfl Rets.nil)) : Rets Tryd.prog σ w42 [.cell 6 25, .tmp 7] [.agg #[I 0, I 0, I 0, I 0], .bool false])
         obtain rfl := Option.some.inj h
         exact wp_ret (then_ret (retG (rs := [.cell 6 25, .tmp 7]) rfl (hF.sub [(6, B b1 0), (7, .bool false)] (by kernel_rfl)) (hrets rfl) rfl ⟨_, rfl, rfl, hM0.chg⟩))
       replace h := iteF hb h
       refine (wp_skip (then_normal ?_))
       refine wp_seq (wp_text' ?_)
       refine s_loadBoxS ty25 rfl rfl hF rfl (hs.bx 0 rfl) rfl rfl fun fr hF => ?_
       have hs : Sep [BX b1 25 [I 0, I 0, I 0, I 0]] w41 S9 := Sep.pick [1] hs (by decide) rfl
       refine q_storeBoxS 0 hs hM0 rfl [I 3, I 0, I 0, I x5] rfl hF rfl rfl (by kernel_rfl) rfl rfl rfl fun w43 S29 hs hp hF => ?_
       have tb := tb.stp hM0 hp
       have hM0 := hM0.stp hp
       have hs : Sep [BX b1 25 [I 3, I 0, I 0, I x5]] w43 S29 := hs
       refine from_pure 1 [(6, B b1 0), (7, .bool true)] hF (by kernel_rfl) fun fr hF => ?_
       refine from_end rfl (then_normal ?_)
       have hrets := fun {σ : List (Nat × Value)} (h : σ = [(6, B b1 0), (7, .bool true)]) => (by subst h; exact (Rets.cell rfl ty25 (hs.bx 0 rfl) rfl rfl (Rets.tmp rfl Rets.nil)) : Rets Tryd.prog σ w43 [.cell 6 25, .tmp 7] [.agg #[I 3, I 0, I 0, I x5], .bool true])
       obtain rfl := Option.some.inj h
       exact wp_ret (retG (rs := [.cell 6 25, .tmp 7]) rfl (hF.sub [(6, B b1 0), (7, .bool true)] (by kernel_rfl)) (hrets rfl) rfl ⟨_, rfl, rfl, hM0.chg⟩)
     simp only [hg1] at hF
     refine from_skip hF rfl rfl rfl rfl rfl rfl rfl rfl rfl fun fr hF => ?_
     refine from_skip hF rfl rfl rfl rfl rfl rfl rfl rfl rfl fun fr hF => ?_
     refine from_skip hF rfl rfl rfl rfl rfl rfl rfl rfl rfl fun fr hF => ?_
     refine from_skip hF rfl rfl rfl rfl rfl rfl rfl rfl rfl fun fr hF => ?_
     refine from_skipU hF rfl rfl rfl rfl rfl rfl rfl rfl fun fr hF => ?_
     refine from_skipU hF rfl rfl rfl rfl rfl rfl rfl rfl fun fr hF => ?_
     refine from_skipU hF rfl rfl rfl rfl rfl rfl rfl rfl fun fr hF => ?_
     refine from_skip hF rfl rfl rfl rfl rfl rfl rfl rfl rfl fun fr hF => ?_
     refine from_pick rfl rfl hF rfl rfl fun fr hF => ?_
     refine from_pure 1 [(0, Str.val p0), (1, I p1), (2, I p2), (6, B b1 0), (8, L a1 x1 c1), (9, B b2 0), (62, .bool false)] hF (by kernel_rfl) fun fr hF => ?_
     refine from_end rfl (then_normal ?_)
     refine (wp_if hF (b := false) rfl (fun hb => ?_) (fun hb => ?_))
     · replace h := iteT hb h
       refine (wp_text' ?_)
       refine from_pure 1 [(0, Str.val p0), (1, I p1), (2, I p2), (6, B b1 0), (9, B b2 0), (76, L a1 x1 c1)] hF (by kernel_rfl) fun fr hF => ?_
       obtain ⟨x26, hx26, h⟩ := bindE h
       refine s_elemF (z := x26) (Str.val x26) ty9 Tryd.underlying55 rfl rfl rfl rfl rfl hF rfl (hs.rv 1 rfl) rfl (get?_nn hx26) (get?_at hx26) rfl fun p fr hF => ?_
       have hs : Sep [BX b2 25 [I 3, I 0, I 0, I x5], BX b1 25 [I 0, I 0, I 0, I 0]] w11 S9 := Sep.pick [0, 2] hs (by decide) rfl
       obtain ⟨x27, hx27, h⟩ := bindE h
       refine s_call [Str.val x26] Tryd.call50 rfl rfl hF rfl (impl_parseOperand_ok x26 hx27 tb) fun v w44 fr hRes hF => ?_
       obtain ⟨rfl, hc⟩ := hRes
       have tb := tb.ext hc
       have hs := hs.ext hc
       have hM0 := hM0.ext hc
       refine from_pure 1 [(0, Str.val p0), (1, I p1), (2, I p2), (6, B b1 0), (9, B b2 0), (79, I x27), (80, B b2 2)] hF (by kernel_rfl) fun fr hF => ?_
       refine q_storeBox 0 hs hM0 rfl [I 3, I 0, I x27, I x5] rfl hF rfl rfl (by kernel_rfl) rfl rfl rfl fun w45 S30 hs hp hF => ?_
       have tb := tb.stp hM0 hp
       have hM0 := hM0.stp hp
       have hs : Sep [BX b2 25 [I 3, I 0, I x27, I x5], BX b1 25 [I 0, I 0, I 0, I 0]] w45 S30 := hs
       refine from_end rfl ?_
       refine blk_normal (then_normal ?_)
       refine wp_seq ?_
       refine wp_seq (wp_text' ?_)
       refine s_loadBoxS ty25 rfl rfl hF rfl (hs.bx 0 rfl) rfl rfl fun fr hF => ?_
       refine from_pure 2 [(0, Str.val p0), (6, B b1 0), (9, B b2 0), (90, .agg #[I 3, I 0, I x27, I x5]), (91, I p1), (92, I p2)] hF (by kernel_rfl) fun fr hF => ?_
       obtain ⟨x28, hx28, h⟩ := bindE h
       refine s_call [.agg #[I 3, I 0, I x27, I x5], I p1, I p2] Tryd.call9 rfl rfl hF rfl (impl_FormatIns_ok (D.Ins.mk 3 0 x27 x5) p1 p2 hx28 tb) fun v w46 fr hRes hF => ?_
       obtain ⟨rfl, hc⟩ := hRes
       have tb := tb.ext hc
       have hs := hs.ext hc
       have hM0 := hM0.ext hc
       refine from_pure 2 [(6, B b1 0), (9, B b2 0), (95, .bool (!(Str.eqb x28 p0)))] hF (by kernel_rfl) fun fr hF => ?_
       refine from_end rfl (then_normal ?_)
       refine (wp_if hF (b := (!(Str.eqb x28 p0))) rfl (fun hb => ?_) (fun hb => ?_))
       · replace h := iteT hb h
         have hs : Sep [BX b1 25 [I 0, I 0, I 0, I 0]] w46 S30 := Sep.pick [1] hs (by decide) rfl
         refine wp_seq (wp_text' ?_)
         refine from_pure 1 [(6, B b1 0), (96, .agg #[I 0, I 0, I 0, I 0])] hF (by kernel_rfl) fun fr hF => ?_
         refine q_storeBoxS 0 hs hM0 rfl [I 0, I 0, I 0, I 0] rfl hF rfl rfl (by kernel_rfl) rfl rfl rfl fun w47 S31 hs hp hF => ?_
         have tb := tb.stp hM0 hp
         have hM0 := hM0.stp hp
         have hs : Sep [BX b1 25 [I 0, I 0, I 0, I 0]] w47 S31 := hs
         refine from_pure 1 [(6, B b1 0), (7, .bool false)] hF (by kernel_rfl) fun fr hF => ?_
         refine from_end rfl (then_normal ?_)
         have hrets := fun {σ : List (Nat × Value)} (h : σ = [(6, B b1 0), (7, .bool false)]) => (by subst h; exact (Rets.cell rfl ty25 (hs.bx 0 rfl) rfl rfl (Rets.tmp rfl Rets.nil)) : Rets Tryd.prog σ w47 [.cell 6 25, .tmp 7] [.agg #[I 0, I 0, I 0, I 0], .bool false])
         obtain rfl := Option.some.inj h
         exact wp_ret (then_ret (retG (rs := [.cell 6 25, .tmp 7]) rfl (hF.sub [(6, B b1 0), (7, .bool false)] (by kernel_rfl)) (hrets rfl) rfl ⟨_, rfl, rfl, hM0.chg⟩))
       replace h := iteF hb h
       refine (wp_skip (then_normal ?_))
       refine wp_seq (wp_text' ?_)
       refine s_loadBoxS ty25 rfl rfl hF rfl (hs.bx 0 rfl) rfl rfl fun fr hF => ?_
       have hs : Sep [BX b1 25 [I 0, I 0, I 0, I 0]] w46 S30 := Sep.pick [1] hs (by decide) rfl
       refine q_storeBoxS 0 hs hM0 rfl [I 3, I 0, I x27, I x5] rfl hF rfl rfl (by kernel_rfl) rfl rfl rfl fun w48 S32 hs hp hF => ?_
       have tb := tb.stp hM0 hp
       have hM0 := hM0.stp hp
       have hs : Sep [BX b1 25 [I 3, I 0, I x27, I x5]] w48 S32 := hs
       refine from_pure 1 [(6, B b1 0), (7, .bool true)] hF (by kernel_rfl) fun fr hF => ?_
       refine from_end rfl (then_normal ?_)
       have hrets := fun {σ : List (Nat × Value)} (h : σ = [(6, B b1 0), (7, .bool true)]) => (by subst h; exact (Rets.cell rfl ty25 (hs.bx 0 rfl) rfl rfl (Rets.tmp rfl Rets.nil)) : Rets Tryd.prog σ w48 [.cell 6 25, .tmp 7] [.agg #[I 3, I 0, I x27, I x5], .bool true])
       obtain rfl := Option.some.inj h
       exact wp_ret (retG (rs := [.cell 6 25, .tmp 7]) rfl (hF.sub [(6, B b1 0), (7, .bool true)] (by kernel_rfl)) (hrets rfl) rfl ⟨_, rfl, rfl, hM0.chg⟩)
     replace h := iteF hb h
     refine wp_seq (wp_pure [(0, Str.val p0), (1, I p1), (2, I p2), (6, B b1 0), (8, L a1 x1 c1), (9, B b2 0), (81, .bool ((len x1) == 2))] hF (by kernel_rfl) fun fr hF => then_normal ?_)
     refine (wp_if hF (b := ((len x1) == 2)) rfl (fun hb => ?_) (fun hb => ?_))
     · replace h := iteT hb h
       refine (wp_text' ?_)
       refine from_pure 1 [(0, Str.val p0), (1, I p1), (2, I p2), (6, B b1 0), (9, B b2 0), (85, L a1 x1 c1)] hF (by kernel_rfl) fun fr hF => ?_
       obtain ⟨x29, hx29, h⟩ := bindE h
       refine s_elemF (z := x29) (Str.val x29) ty9 Tryd.underlying55 rfl rfl rfl rfl rfl hF rfl (hs.rv 1 rfl) rfl (get?_nn hx29) (get?_at hx29) rfl fun p fr hF => ?_
       have hs : Sep [BX b2 25 [I 3, I 0, I 0, I x5], BX b1 25 [I 0, I 0, I 0, I 0]] w11 S9 := Sep.pick [0, 2] hs (by decide) rfl
       obtain ⟨x30, hx30, h⟩ := bindE h
       refine s_call [Str.val x29] Tryd.call50 rfl rfl hF rfl (impl_parseOperand_ok x29 hx30 tb) fun v w49 fr hRes hF => ?_
       obtain ⟨rfl, hc⟩ := hRes
       have tb := tb.ext hc
       have hs := hs.ext hc
       have hM0 := hM0.ext hc
       refine from_pure 1 [(0, Str.val p0), (1, I p1), (2, I p2), (6, B b1 0), (9, B b2 0), (88, I x30), (89, B b2 1)] hF (by kernel_rfl) fun fr hF => ?_
       refine q_storeBox 0 hs hM0 rfl [I 3, I x30, I 0, I x5] rfl hF rfl rfl (by kernel_rfl) rfl rfl rfl fun w50 S33 hs hp hF => ?_
       have tb := tb.stp hM0 hp
       have hM0 := hM0.stp hp
       have hs : Sep [BX b2 25 [I 3, I x30, I 0, I x5], BX b1 25 [I 0, I 0, I 0, I 0]] w50 S33 := hs
       refine from_end rfl ?_
       refine blk_normal (then_normal ?_)
       refine wp_seq ?_
       refine wp_seq (wp_text' ?_)
       refine s_loadBoxS ty25 rfl rfl hF rfl (hs.bx 0 rfl) rfl rfl fun fr hF => ?_
       refine from_pure 2 [(0, Str.val p0), (6, B b1 0), (9, B b2 0), (90, .agg #[I 3, I x30, I 0, I x5]), (91, I p1), (92, I p2)] hF (by kernel_rfl) fun fr hF => ?_
       obtain ⟨x31, hx31, h⟩ := bindE h
       refine s_call [.agg #[I 3, I x30, I 0, I x5], I p1, I p2] Tryd.call9 rfl rfl hF rfl (impl_FormatIns_ok (D.Ins.mk 3 x30 0 x5) p1 p2 hx31 tb) fun v w51 fr hRes hF => ?_
       obtain ⟨rfl, hc⟩ := hRes
       have tb := tb.ext hc
       have hs := hs.ext hc
       have hM0 := hM0.ext hc
       refine from_pure 2 [(6, B b1 0), (9, B b2 0), (95, .bool (!(Str.eqb x31 p0)))] hF (by kernel_rfl) fun fr hF => ?_
       refine from_end rfl (then_normal ?_)
       refine (wp_if hF (b := (!(Str.eqb x31 p0))) rfl (fun hb => ?_) (fun hb => ?_))
       · replace h := iteT hb h
         have hs : Sep [BX b1 25 [I 0, I 0, I 0, I 0]] w51 S33 := Sep.pick [1] hs (by decide) rfl
         refine wp_seq (wp_text' ?_)
         refine from_pure 1 [(6, B b1 0), (96, .agg #[I 0, I 0, I 0, I 0])] hF (by kernel_rfl) fun fr hF => ?_
         refine q_storeBoxS 0 hs hM0 rfl [I 0, I 0, I 0, I 0] rfl hF rfl rfl (by kernel_rfl) rfl rfl rfl fun w52 S34 hs hp hF => ?_
         have tb := tb.stp hM0 hp
         have hM0 := hM0.stp hp
         have hs : Sep [BX b1 25 [I 0, I 0, I 0, I 0]] w52 S34 := hs
         refine from_pure 1 [(6, B b1 0), (7, .bool false)] hF (by kernel_rfl) fun fr hF => ?_
         refine from_end rfl (then_normal ?_)
         have hrets := fun {σ : List (Nat × Value)} (h : σ = [(6, B b1 0), (7, .bool false)]) => (by subst h; exact (Rets.cell rfl ty25 (hs.bx 0 rfl) rfl rfl (Rets.tmp rfl Rets.nil)) : Rets Tryd.prog σ w52 [.cell 6 25, .tmp 7] [.agg #[I 0, I 0, I 0, I 0], .bool false])
         obtain rfl := Option.some.inj h
         exact wp_ret (then_ret (retG (rs := [.cell 6 25, .tmp 7]) rfl (hF.sub [(6, B b1 0), (7, .bool false)] (by kernel_rfl)) (hrets rfl) rfl ⟨_, rfl, rfl, hM0.chg⟩))
       replace h := iteF hb h
       refine (wp_skip (then_normal ?_))
       refine wp_seq (wp_text' ?_)
       refine s_loadBoxS ty25 rfl rfl hF rfl (hs.bx 0 rfl) rfl rfl fun fr hF => ?_
       have hs : Sep [BX b1 25 [I 0, I 0, I 0, I 0]] w51 S33 := Sep.pick [1] hs (by decide) rfl
       refine q_storeBoxS 0 hs hM0 rfl [I 3, I x30, I 0, I x5] rfl hF rfl rfl (by kernel_rfl) rfl rfl rfl fun w53 S35 hs hp hF => ?_
       have tb := tb.stp hM0 hp
       have hM0 := hM0.stp hp
       have hs : Sep [BX b1 25 [I 3, I x30, I 0, I x5]] w53 S35 := hs
       refine from_pure 1 [(6, B b1 0), (7, .bool true)] hF (by kernel_rfl) fun fr hF => ?_
       refine from_end rfl (then_normal ?_)
       have hrets := fun {σ : List (Nat × Value)} (h : σ = [(6, B b1 0), (7, .bool true)]) => (by subst h; exact (Rets.cell rfl ty25 (hs.bx 0 rfl) rfl rfl (Rets.tmp rfl Rets.nil)) : Rets Tryd.prog σ w53 [.cell 6 25, .tmp 7] [.agg #[I 3, I x30, I 0, I x5], .bool true])
       obtain rfl := Option.some.inj h
       exact wp_ret (retG (rs := [.cell 6 25, .tmp 7]) rfl (hF.sub [(6, B b1 0), (7, .bool true)] (by kernel_rfl)) (hrets rfl) rfl ⟨_, rfl, rfl, hM0.chg⟩)
     replace h := iteF hb h
     have hs : Sep [BX b2 25 [I 3, I 0, I 0, I x5], BX b1 25 [I 0, I 0, I 0, I 0]] w11 S9 := Sep.pick [0, 2] hs (by decide) rfl
     refine (wp_skip ?_)
     refine blk_normal (then_normal ?_)
     refine wp_seq ?_
     refine wp_seq (wp_text' ?_)
     refine s_loadBoxS ty25 rfl rfl hF rfl (hs.bx 0 rfl) rfl rfl fun fr hF => ?_
     refine from_pure 2 [(0, Str.val p0), (6, B b1 0), (9, B b2 0), (90, .agg #[I 3, I 0, I 0, I x5]), (91, I p1), (92, I p2)] hF (by kernel_rfl) fun fr hF => ?_
     obtain ⟨x32, hx32, h⟩ := bindE h
     refine s_call [.agg #[I 3, I 0, I 0, I x5], I p1, I p2] Tryd.call9 rfl rfl hF rfl (impl_FormatIns_ok (D.Ins.mk 3 0 0 x5) p1 p2 hx32 tb) fun v w54 fr hRes hF => ?_
     obtain ⟨rfl, hc⟩ := hRes
     have tb := tb.ext hc
     have hs := hs.ext hc
     have hM0 := hM0.ext hc
     refine from_pure 2 [(6, B b1 0), (9, B b2 0), (95, .bool (!(Str.eqb x32 p0)))] hF (by kernel_rfl) fun fr hF => ?_
     refine from_end rfl (then_normal ?_)
     refine (wp_if hF (b := (!(Str.eqb x32 p0))) rfl (fun hb => ?_) (fun hb => ?_))
     · replace h := iteT hb h
       have hs : Sep [BX b1 25 [I 0, I 0, I 0, I 0]] w54 S9 := Sep.pick [1] hs (by decide) rfl
       refine wp_seq (wp_text' ?_)
       refine from_pure 1 [(6, B b1 0), (96, .agg #[I 0, I 0, I 0, I 0])] hF (by kernel_rfl) fun fr hF => ?_
       refine q_storeBoxS 0 hs hM0 rfl [I 0, I 0, I 0, I 0] rfl hF rfl rfl (by kernel_rfl) rfl rfl rfl fun w55 S36 hs hp hF => ?_
       have tb := tb.stp hM0 hp
       have hM0 := hM0.stp hp
       have hs : Sep [BX b1 25 [I 0, I 0, I 0, I 0]] w55 S36 := hs
       refine from_pure 1 [(6, B b1 0), (7, .bool false)] hF (by kernel_rfl) fun fr hF => ?_
       refine from_end rfl (then_normal ?_)
       have hrets := fun {σ : List (Nat × Value)} (h : σ = [(6, B b1 0), (7, .bool false)]) => (by subst h; exact (Rets.cell rfl ty25 (hs.bx 0 rfl) rfl rfl (Rets.tmp rfl Rets.nil)) : Rets Tryd.prog σ w55 [.cell 6 25, .tmp 7] [.agg #[I 0, I 0, I 0, I 0], .bool false])
       obtain rfl := Option.some.inj h
       exact wp_ret (then_ret (retG (rs := [.cell 6 25, .tmp 7]) rfl (hF.sub [(6, B b1 0), (7, .bool false)] (by kernel_rfl)) (hrets rfl) rfl ⟨_, rfl, rfl, hM0.chg⟩))
     replace h := iteF hb h
     refine (wp_skip (then_normal ?_))
     refine wp_seq (wp_text' ?_)
     refine s_loadBoxS ty25 rfl rfl hF rfl (hs.bx 0 rfl) rfl rfl fun fr hF => ?_
     have hs : Sep [BX b1 25 [I 0, I 0, I 0, I 0]] w54 S9 := Sep.pick [1] hs (by decide) rfl
     refine q_storeBoxS 0 hs hM0 rfl [I 3, I 0, I 0, I x5] rfl hF rfl rfl (by kernel_rfl) rfl rfl rfl fun w56 S37 hs hp hF => ?_
     have tb := tb.stp hM0 hp
     have hM0 := hM0.stp hp
     have hs : Sep [BX b1 25 [I 3, I 0, I 0, I x5]] w56 S37 := hs
     refine from_pure 1 [(6, B b1 0), (7, .bool true)] hF (by kernel_rfl) fun fr hF => ?_
     refine from_end rfl (then_normal ?_)
     have hrets := fun {σ : List (Nat × Value)} (h : σ = [(6, B b1 0), (7, .bool true)]) => (by subst h; exact (Rets.cell rfl ty25 (hs.bx 0 rfl) rfl rfl (Rets.tmp rfl Rets.nil)) : Rets Tryd.prog σ w56 [.cell 6 25, .tmp 7] [.agg #[I 3, I 0, I 0, I x5], .bool true])
     obtain rfl := Option.some.inj h
     exact wp_ret (retG (rs := [.cell 6 25, .tmp 7]) rfl (hF.sub [(6, B b1 0), (7, .bool true)] (by kernel_rfl)) (hrets rfl) rfl ⟨_, rfl, rfl, hM0.chg⟩)
   replace h := iteF hb h
   refine (wp_skip (then_normal ?_))
   refine wp_seq (wp_block ?_)
   refine wp_seq (wp_pure [(0, Str.val p0), (1, I p1), (2, I p2), (6, B b1 0), (8, L a1 x1 c1), (9, B b2 0), (48, .bool ((len x1) == 3))] hF (by kernel_rfl) fun fr hF => then_normal ?_)
   refine (wp_if hF (b := ((len x1) == 3)) rfl (fun hb => ?_) (fun hb => ?_))
   · replace h := iteT hb h
     obtain ⟨x33, hx33, h⟩ := bindE h
     obtain ⟨x34, hx34, h⟩ := bindE h
     obtain ⟨x35, hx35, h⟩ := bindE h
     obtain ⟨x36, hx36, h⟩ := bindE h
     refine (region_bm 9 [0, 1, 3, 7, 0, 16, 48, 127, 15, 511, 1023, 2047] [true, false, false, false, true, false, false, false, true]
         [.eq (L a1 x1 c1), .is fun v w => ElemP w (fun k => k < w9.heap.size) v (x33 : Str), .eq (Str.val x33), .eq (I x34), .eq (L a1 x1 c1), .is fun v w => ElemP w (fun k => k < w9.heap.size) v (x35 : Str), .eq (Str.val x35), .eq (I x36), .eq (B b2 1), .any, .any, .any]
         [(0, Str.val p0), (1, I p1), (2, I p2), (6, B b1 0), (9, B b2 0), (55, I x34), (59, I x36), (60, B b2 1)] mix hF (by kernel_rfl) (by kernel_rfl) (by kernel_rfl) (by kernel_rfl) ⟨(Pd.monoO_is mono_elem), Pd.monoO_eq, Pd.monoO_eq, (Pd.monoO_is mono_elem), Pd.monoO_eq, Pd.monoO_eq, trivial⟩ (fun ow hG => ⟨np_to ow (np_index hG hF ty9 Tryd.underlying55 rfl rfl (RV.sub (hs.rv 1 rfl) fun k hk _ => hk) rfl rfl (fun hg => ⟨get?_nn hx33, get?_at hx33⟩)), np_to ow (np_loadF (z := x33) (i := 1) hG hF ty9 rfl rfl rfl rfl rfl rfl rfl), np_to ow (np_call [Str.val x33] hG hF Tryd.call50 rfl rfl (fun w hC hg => (impl_parseOperand_ok x33 hx34 (tb.ext hC)).mono fun e w' ⟨v, he, hv, hc⟩ => ⟨v, he, hc, hv⟩)), np_to ow (np_index hG hF ty9 Tryd.underlying55 rfl rfl (RV.sub (hs.rv 1 rfl) fun k hk _ => hk) rfl rfl (fun hg => ⟨get?_nn hx35, get?_at hx35⟩)), np_to ow (np_loadF (z := x35) (i := 5) hG hF ty9 rfl rfl rfl rfl rfl rfl rfl), np_to ow (np_call [Str.val x35] hG hF Tryd.call50 rfl rfl (fun w hC hg => (impl_parseOperand_ok x35 hx36 (tb.ext hC)).mono fun e w' ⟨v, he, hv, hc⟩ => ⟨v, he, hc, hv⟩)), trivial⟩) (by kernel_rfl) fun ow fr w57 hF hE hc => ?_)
     have tb := tb.ext hc
     have hs := hs.ext hc
     have hM0 := hM0.ext hc
     have hs : Sep [BX b2 25 [I rl1, I 0, I 0, I 0], BX b1 25 [I 0, I 0, I 0, I 0]] w57 S6 := Sep.pick [0, 2] hs (by decide) rfl
     refine q_storeBox 0 hs hM0 rfl [I rl1, I x34, I 0, I 0] rfl hF rfl rfl (by kernel_rfl) rfl rfl rfl fun w58 S38 hs hp hF => ?_
     have tb := tb.stp hM0 hp
     have hM0 := hM0.stp hp
     have hs : Sep [BX b2 25 [I rl1, I x34, I 0, I 0], BX b1 25 [I 0, I 0, I 0, I 0]] w58 S38 := hs
     refine from_pure 1 [(0, Str.val p0), (1, I p1), (2, I p2), (6, B b1 0), (9, B b2 0), (59, I x36), (61, B b2 2)] hF (by kernel_rfl) fun fr hF => ?_
     refine q_storeBox 0 hs hM0 rfl [I rl1, I x34, I x36, I 0] rfl hF rfl rfl (by kernel_rfl) rfl rfl rfl fun w59 S39 hs hp hF => ?_
     have tb := tb.stp hM0 hp
     have hM0 := hM0.stp hp
     have hs : Sep [BX b2 25 [I rl1, I x34, I x36, I 0], BX b1 25 [I 0, I 0, I 0, I 0]] w59 S39 := hs
     refine from_end rfl ?_
     refine blk_normal (then_normal ?_)
     refine wp_seq ?_
     refine wp_seq (wp_text' ?_)
     refine s_loadBoxS ty25 rfl rfl hF rfl (hs.bx 0 rfl) rfl rfl fun fr hF => ?_
     refine from_pure 2 [(0, Str.val p0), (6, B b1 0), (9, B b2 0), (90, .agg #[I rl1, I x34, I x36, I 0]), (91, I p1), (92, I p2)] hF (by kernel_rfl) fun fr hF => ?_
     obtain ⟨x37, hx37, h⟩ := bindE h
     refine s_call [.agg #[I rl1, I x34, I x36, I 0], I p1, I p2] Tryd.call9 rfl rfl hF rfl (impl_FormatIns_ok (D.Ins.mk rl1 x34 x36 0) p1 p2 hx37 tb) fun v w60 fr hRes hF => ?_
     obtain ⟨rfl, hc⟩ := hRes
     have tb := tb.ext hc
     have hs := hs.ext hc
     have hM0 := hM0.ext hc
     refine from_pure 2 [(6, B b1 0), (9, B b2 0), (95, .bool (!(Str.eqb x37 p0)))] hF (by kernel_rfl) fun fr hF => ?_
     refine from_end rfl (then_normal ?_)
     refine (wp_if hF (b := (!(Str.eqb x37 p0))) rfl (fun hb => ?_) (fun hb => ?_))
     · replace h := iteT hb h
       have hs : Sep [BX b1 25 [I 0, I 0, I 0, I 0]] w60 S39 := Sep.pick [1] hs (by decide) rfl
       refine wp_seq (wp_text' ?_)
       refine from_pure 1 [(6, B b1 0), (96, .agg #[I 0, I 0, I 0, I 0])] hF (by kernel_rfl) fun fr hF => ?_
       refine q_storeBoxS 0 hs hM0 rfl [I 0, I 0, I 0, I 0] rfl hF rfl rfl (by kernel_rfl) rfl rfl rfl fun w61 S40 hs hp hF => ?_
       have tb := tb.stp hM0 hp
       have hM0 := hM0.stp hp
       have hs : Sep [BX b1 25 [I 0, I 0, I 0, I 0]] w61 S40 := hs
       refine from_pure 1 [(6, B b1 0), (7, .bool false)] hF (by kernel_rfl) fun fr hF => ?_
       refine from_end rfl (then_normal ?_)
       have hrets := fun {σ : List (Nat × Value)} (h : σ = [(6, B b1 0), (7, .bool false)]) => (by subst h; exact (Rets.cell rfl ty25 (hs.bx 0 rfl) rfl rfl (Rets.tmp rfl Rets.nil)) : Rets Tryd.prog σ w61 [.cell 6 25, .tmp 7] [.agg #[I 0, I 0, I 0, I 0], .bool false])
       obtain rfl := Option.some.inj h
       exact wp_ret (then_ret (retG (rs := [.cell 6 25, .tmp 7]) rfl (hF.sub [(6, B b1 0), (7, .bool false)] (by kernel_rfl)) (hrets rfl) rfl ⟨_, rfl, rfl, hM0.chg⟩))
     replace h := iteF hb h
     refine (wp_skip (then_normal ?_))
     refine wp_seq (wp_text' ?_)
     refine s_loadBoxS ty25 rfl rfl hF rfl (hs.bx 0 rfl) rfl rfl fun fr hF => ?_
     have hs : Sep [BX b1 25 [I 0, I 0, I 0, I 0]] w60 S39 := Sep.pick [1] hs (by decide) rfl
     refine q_storeBoxS 0 hs hM0 rfl [I rl1, I x34, I x36, I 0] rfl hF rfl rfl (by kernel_rfl) rfl rfl rfl fun w62 S41 hs hp hF => ?_
     have tb := tb.stp hM0 hp
     have hM0 := hM0.stp hp
     have hs : Sep [BX b1 25 [I rl1, I x34, I x36, I 0]] w62 S41 := hs
     refine from_pure 1 [(6, B b1 0), (7, .bool true)] hF (by kernel_rfl) fun fr hF => ?_
     refine from_end rfl (then_normal ?_)
     have hrets := fun {σ : List (Nat × Value)} (h : σ = [(6, B b1 0), (7, .bool true)]) => (by subst h; exact (Rets.cell rfl ty25 (hs.bx 0 rfl) rfl rfl (Rets.tmp rfl Rets.nil)) : Rets Tryd.prog σ w62 [.cell 6 25, .tmp 7] [.agg #[I rl1, I x34, I x36, I 0], .bool true])
     obtain rfl := Option.some.inj h
     exact wp_ret (retG (rs := [.cell 6 25, .tmp 7]) rfl (hF.sub [(6, B b1 0), (7, .bool true)] (by kernel_rfl)) (hrets rfl) rfl ⟨_, rfl, rfl, hM0.chg⟩)
   replace h := iteF hb h
   refine wp_seq (wp_text' ?_)
   refine from_pure 1 [(0, Str.val p0), (1, I p1), (2, I p2), (6, B b1 0), (8, L a1 x1 c1), (9, B b2 0), (63, L a1 x1 c1)] hF (by kernel_rfl) fun fr hF => ?_
   refine from_pure 1 [(0, Str.val p0), (1, I p1), (2, I p2), (6, B b1 0), (8, L a1 x1 c1), (9, B b2 0), (64, I (len x1))] hF (by kernel_rfl) fun fr hF => ?_
   refine from_pure 1 [(0, Str.val p0), (1, I p1), (2, I p2), (6, B b1 0), (8, L a1 x1 c1), (9, B b2 0), (65, .bool ((len x1) == 2))] hF (by kernel_rfl) fun fr hF => ?_
   refine from_pure 1 [(0, Str.val p0), (1, I p1), (2, I p2), (6, B b1 0), (8, L a1 x1 c1), (9, B b2 0), (66, .bool ((len x1) == 2))] hF (by kernel_rfl) fun fr hF => ?_
   rcases ite_split (b := ((len x1) == 2)) h with ⟨hg3, h⟩ | ⟨hg3, h⟩
   · simp only [hg3] at hF
     refine from_takeL hF rfl rfl rfl rfl rfl rfl ?_
     dsimp only [List.set]
     refine from_pure 1 [(0, Str.val p0), (1, I p1), (2, I p2), (6, B b1 0), (8, L a1 x1 c1), (9, B b2 0), (66, .bool true), (67, B b2 0)] hF (by kernel_rfl) fun fr hF => ?_
     refine from_takeL hF rfl rfl rfl rfl rfl rfl ?_
     dsimp only [List.set]
     refine s_loadBox (I rl1) ty3 rfl rfl hF rfl (hs.bx 0 rfl) rfl rfl fun fr hF => ?_
     refine from_takeL hF rfl rfl rfl rfl rfl rfl ?_
     dsimp only [List.set]
     refine from_pure 1 [(0, Str.val p0), (1, I p1), (2, I p2), (6, B b1 0), (8, L a1 x1 c1), (9, B b2 0), (66, .bool true), (69, .bool (rl1 == 9))] hF (by kernel_rfl) fun fr hF => ?_
     refine from_takeL hF rfl rfl rfl rfl rfl rfl ?_
     dsimp only [List.set]
     refine from_pure 1 [(0, Str.val p0), (1, I p1), (2, I p2), (6, B b1 0), (8, L a1 x1 c1), (9, B b2 0), (66, .bool true), (70, .bool (rl1 == 9))] hF (by kernel_rfl) fun fr hF => ?_
     rcases ite_split (b := (rl1 == 9)) h with ⟨hg4, h⟩ | ⟨hg4, h⟩
     · simp only [hg4] at hF
       refine from_skip hF rfl rfl rfl rfl rfl rfl rfl rfl rfl fun fr hF => ?_
       refine from_skip hF rfl rfl rfl rfl rfl rfl rfl rfl rfl fun fr hF => ?_
       refine from_skip hF rfl rfl rfl rfl rfl rfl rfl rfl rfl fun fr hF => ?_
       refine from_takeL hF rfl rfl rfl rfl rfl rfl ?_
       dsimp only [List.set]
       refine from_pick rfl rfl hF rfl rfl fun fr hF => ?_
       refine from_pick rfl rfl hF rfl rfl fun fr hF => ?_
       refine from_pure 1 [(0, Str.val p0), (1, I p1), (2, I p2), (6, B b1 0), (8, L a1 x1 c1), (9, B b2 0), (62, .bool true)] hF (by kernel_rfl) fun fr hF => ?_
       refine from_end rfl (then_normal ?_)
       refine (wp_if hF (b := true) rfl (fun hb => ?_) (fun hb => ?_))
       · replace h := iteT hb h
         refine (wp_text' ?_)
         refine from_pure 1 [(0, Str.val p0), (1, I p1), (2, I p2), (6, B b1 0), (9, B b2 0), (76, L a1 x1 c1)] hF (by kernel_rfl) fun fr hF => ?_
         obtain ⟨x38, hx38, h⟩ := bindE h
         refine s_elemF (z := x38) (Str.val x38) ty9 Tryd.underlying55 rfl rfl rfl rfl rfl hF rfl (hs.rv 1 rfl) rfl (get?_nn hx38) (get?_at hx38) rfl fun p fr hF => ?_
         have hs : Sep [BX b2 25 [I rl1, I 0, I 0, I 0], BX b1 25 [I 0, I 0, I 0, I 0]] w9 S6 := Sep.pick [0, 2] hs (by decide) rfl
         obtain ⟨x39, hx39, h⟩ := bindE h
         refine s_call [Str.val x38] Tryd.call50 rfl rfl hF rfl (impl_parseOperand_ok x38 hx39 tb) fun v w63 fr hRes hF => ?_
         obtain ⟨rfl, hc⟩ := hRes
         have tb := tb.ext hc
         have hs := hs.ext hc
         have hM0 := hM0.ext hc
         refine from_pure 1 [(0, Str.val p0), (1, I p1), (2, I p2), (6, B b1 0), (9, B b2 0), (79, I x39), (80, B b2 2)] hF (by kernel_rfl) fun fr hF => ?_
         refine q_storeBox 0 hs hM0 rfl [I rl1, I 0, I x39, I 0] rfl hF rfl rfl (by kernel_rfl) rfl rfl rfl fun w65 S42 hs hp hF => ?_
         have tb := tb.stp hM0 hp
         have hM0 := hM0.stp hp
         have hs : Sep [BX b2 25 [I rl1, I 0, I x39, I 0], BX b1 25 [I 0, I 0, I 0, I 0]] w65 S42 := hs
         refine from_end rfl ?_
         refine blk_normal (then_normal ?_)
         refine wp_seq ?_
         refine wp_seq (wp_text' ?_)
         refine s_loadBoxS ty25 rfl rfl hF rfl (hs.bx 0 rfl) rfl rfl fun fr hF => ?_
         refine from_pure 2 [(0, Str.val p0), (6, B b1 0), (9, B b2 0), (90, .agg #[I rl1, I 0, I x39, I 0]), (91, I p1), (92, I p2)] hF (by kernel_rfl) fun fr hF => ?_
         obtain ⟨x40, hx40, h⟩ := bindE h
         refine s_call [.agg #[I rl1, I 0, I x39, I 0], I p1, I p2] Tryd.call9 rfl rfl hF rfl (impl_FormatIns_ok (D.Ins.mk rl1 0 x39 0) p1 p2 hx40 tb) fun v w66 fr hRes hF => ?_
         obtain ⟨rfl, hc⟩ := hRes
         have tb := tb.ext hc
         have hs := hs.ext hc
         have hM0 := hM0.ext hc
         refine from_pure 2 [(6, B b1 0), (9, B b2 0), (95, .bool (!(Str.eqb x40 p0)))] hF (by kernel_rfl) fun fr hF => ?_
         refine from_end rfl (then_normal ?_)
         refine (wp_if hF (b := (!(Str.eqb x40 p0))) rfl (fun hb => ?_) (fun hb => ?_))
         · replace h := iteT hb h
           have hs : Sep [BX b1 25 [I 0, I 0, I 0, I 0]] w66 S42 := Sep.pick [1] hs (by decide) rfl
           refine wp_seq (wp_text' ?_)
           refine from_pure 1 [(6, B b1 0), (96, .agg #[I 0, I 0, I 0, I 0])] hF (by kernel_rfl) fun fr hF => ?_
           refine q_storeBoxS 0 hs hM0 rfl [I 0, I 0, I 0, I 0] rfl hF rfl rfl (by kernel_rfl) rfl rfl rfl fun w67 S43 hs hp hF => ?_
           have tb := tb.stp hM0 hp
           have hM0 := hM0.stp hp
           have hs : Sep [BX b1 25 [I 0, I 0, I 0, I 0]] w67 S43 := hs
           refine from_pure 1 [(6, B b1 0), (7, .bool false)] hF (by kernel_rfl) fun fr hF => ?_
           refine from_end rfl (then_normal ?_)
           have hrets := fun {σ : List (Nat × Value)} (h : σ = [(6, B b1 0), (7, .bool false)]) => (by subst h; exact (Rets.cell rfl ty25 (hs.bx 0 rfl) rfl rfl (Rets.tmp rfl Rets.nil)) : Rets Tryd.prog σ w67 [.cell 6 25, .tmp 7] [.agg #[I 0, I 0, I 0, I 0], .bool false])
           obtain rfl := Option.some.inj h
           exact wp_ret (then_ret (retG (rs := [.cell 6 25, .tmp 7]) rfl (hF.sub [(6, B b1 0), (7, .bool false)] (by kernel_rfl)) (hrets rfl) rfl ⟨_, rfl, rfl, hM0.chg⟩))
         replace h := iteF hb h
         refine (wp_skip (then_normal ?_))
         refine wp_seq (wp_text' ?_)
         refine s_loadBoxS ty25 rfl rfl hF rfl (hs.bx 0 rfl) rfl rfl fun fr hF => ?_
         have hs : Sep [BX b1 25 [I 0, I 0, I 0, I 0]] w66 S42 := Sep.pick [1] hs (by decide) rfl
         refine q_storeBoxS 0 hs hM0 rfl [I rl1, I 0, I x39, I 0] rfl hF rfl rfl (by kernel_rfl) rfl rfl rfl fun w68 S44 hs hp hF => ?_
         have tb := tb.stp hM0 hp
         have hM0 := hM0.stp hp
         have hs : Sep [BX b1 25 [I rl1, I 0, I x39, I 0]] w68 S44 := hs
         refine from_pure 1 [(6, B b1 0), (7, .bool true)] hF (by kernel_rfl) fun fr hF => ?_
         refine from_end rfl (then_normal ?_)
         have hrets := fun {σ : List (Nat × Value)} (h : σ = [(6, B b1 0), (7, .bool true)]) => (by subst h; exact (Rets.cell rfl ty25 (hs.bx 0 rfl) rfl rfl (Rets.tmp rfl Rets.nil)) : Rets Tryd.prog σ w68 [.cell 6 25, .tmp 7] [.agg #[I rl1, I 0, I x39, I 0], .bool true])
         obtain rfl := Option.some.inj h
         exact wp_ret (retG (rs := [.cell 6 25, .tmp 7]) rfl (hF.sub [(6, B b1 0), (7, .bool true)] (by kernel_rfl)) (hrets rfl) rfl ⟨_, rfl, rfl, hM0.chg⟩)
       replace h := iteF hb h
       refine wp_seq (wp_pure [(0, Str.val p0), (1, I p1), (2, I p2), (6, B b1 0), (8, L a1 x1 c1), (9, B b2 0), (81, .bool ((len x1) == 2))] hF (by kernel_rfl) fun fr hF => then_normal ?_)
       refine (wp_if hF (b := ((len x1) == 2)) rfl (fun hb => ?_) (fun hb => ?_))
       · replace h := iteT hb h
         refine (wp_text' ?_)
         refine from_pure 1 [(0, Str.val p0), (1, I p1), (2, I p2), (6, B b1 0), (9, B b2 0), (85, L a1 x1 c1)] hF (by kernel_rfl) fun fr hF => ?_
         obtain ⟨x41, hx41, h⟩ := bindE h
         refine s_elemF (z := x41) (Str.val x41) ty9 Tryd.underlying55 rfl rfl rfl rfl rfl hF rfl (hs.rv 1 rfl) rfl (get?_nn hx41) (get?_at hx41) rfl fun p fr hF => ?_
         have hs : Sep [BX b2 25 [I rl1, I 0, I 0, I 0], BX b1 25 [I 0, I 0, I 0, I 0]] w9 S6 := Sep.pick [0, 2] hs (by decide) rfl
         obtain ⟨x42, hx42, h⟩ := bindE h
         refine s_call [Str.val x41] Tryd.call50 rfl rfl hF rfl (impl_parseOperand_ok x41 hx42 tb) fun v w69 fr hRes hF => ?_
         obtain ⟨rfl, hc⟩ := hRes
         have tb := tb.ext hc
         have hs := hs.ext hc
         have hM0 := hM0.ext hc
         refine from_pure 1 [(0, Str.val p0), (1, I p1), (2, I p2), (6, B b1 0), (9, B b2 0), (88, I x42), (89, B b2 1)] hF (by kernel_rfl) fun fr hF => ?_
         refine q_storeBox 0 hs hM0 rfl [I rl1, I x42, I 0, I 0] rfl hF rfl rfl (by kernel_rfl) rfl rfl rfl fun w70 S45 hs hp hF => ?_
         have tb := tb.stp hM0 hp
         have hM0 := hM0.stp hp
         have hs : Sep [BX b2 25 [I rl1, I x42, I 0, I 0], BX b1 25 [I 0, I 0, I 0, I 0]] w70 S45 := hs
         refine from_end rfl ?_
         refine blk_normal (then_normal ?_)
         refine wp_seq ?_
         refine wp_seq (wp_text' ?_)
         refine s_loadBoxS ty25 rfl rfl hF rfl (hs.bx 0 rfl) rfl rfl fun fr hF => ?_
         refine from_pure 2 [(0, Str.val p0), (6, B b1 0), (9, B b2 0), (90, .agg #[I rl1, I x42, I 0, I 0]), (91, I p1), (92, I p2)] hF (by kernel_rfl) fun fr hF => ?_
         obtain ⟨x43, hx43, h⟩ := bindE h
         refine s_call [.agg #[I rl1, I x42, I 0, I 0], I p1, I p2] Tryd.call9 rfl rfl hF rfl (impl_FormatIns_ok (D.Ins.mk rl1 x42 0 0) p1 p2 hx43 tb) fun v w71 fr hRes hF => ?_
         obtain ⟨rfl, hc⟩ := hRes
         have tb := tb.ext hc
         have hs := hs.ext hc
         have hM0 := hM0.ext hc
         refine from_pure 2 [(6, B b1 0), (9, B b2 0), (95, .bool (!(Str.eqb x43 p0)))] hF (by kernel_rfl) fun fr hF => ?_
         refine from_end rfl (then_normal ?_)
         refine (wp_if hF (b := (!(Str.eqb x43 p0))) rfl (fun hb => ?_) (fun hb => ?_))
         · replace h := iteT hb h
           have hs : Sep [BX b1 25 [I 0, I 0, I 0, I 0]] w71 S45 := Sep.pick [1] hs (by decide) rfl
           refine wp_seq (wp_text' ?_)
           refine from_pure 1 [(6, B b1 0), (96, .agg #[I 0, I 0, I 0, I 0])] hF (by kernel_rfl) fun fr hF => ?_
           refine q_storeBoxS 0 hs hM0 rfl [I 0, I 0, I 0, I 0] rfl hF rfl rfl (by kernel_rfl) rfl rfl rfl fun w72 S46 hs hp hF => ?_
           have tb := tb.stp hM0 hp
           have hM0 := hM0.stp hp
           have hs : Sep [BX b1 25 [I 0, I 0, I 0, I 0]] w72 S46 := hs
           refine from_pure 1 [(6, B b1 0), (7, .bool false)] hF (by kernel_rfl) fun fr hF => ?_
           refine from_end rfl (then_normal ?_)
           have hrets := fun {σ : List (Nat × Value)} (h : σ = [(6, B b1 0), (7, .bool false)]) => (by subst h; exact (Rets.cell rfl ty25 (hs.bx 0 rfl) rfl rfl (Rets.tmp rfl Rets.nil)) : Rets Tryd.prog σ w72 [.cell 6 25, .tmp 7] [.agg #[I 0, I 0, I 0, I 0], .bool false])
           obtain rfl := Option.some.inj h
           exact wp_ret (then_ret (retG (rs := [.cell 6 25, .tmp 7]) rfl (hF.sub [(6, B b1 0), (7, .bool false)] (by kernel_rfl)) (hrets rfl) rfl ⟨_, rfl, rfl, hM0.chg⟩))
         replace h := iteF hb h
         refine (wp_skip (then_normal ?_))
         refine wp_seq (wp_text' ?_)
         refine s_loadBoxS ty25 rfl rfl hF rfl (hs.bx 0 rfl) rfl rfl fun fr hF => ?_
         have hs : Sep [BX b1 25 [I 0, I 0, I 0, I 0]] w71 S45 := Sep.pick [1] hs (by decide) rfl
         refine q_storeBoxS 0 hs hM0 rfl [I rl1, I x42, I 0, I 0] rfl hF rfl rfl (by kernel_rfl) rfl rfl rfl fun w73 S47 hs hp hF => ?_
         have tb := tb.stp hM0 hp
         have hM0 := hM0.stp hp
         have hs : Sep [BX b1 25 [I rl1, I x42, I 0, I 0]] w73 S47 := hs
         refine from_pure 1 [(6, B b1 0), (7, .bool true)] hF (by kernel_rfl) fun fr hF => ?_
         refine from_end rfl (then_normal ?_)
         have hrets := fun {σ : List (Nat × Value)} (h : σ = [(6, B b1 0), (7, .bool true)]) => (by subst h; exact (Rets.cell rfl ty25 (hs.bx 0 rfl) rfl rfl (Rets.tmp rfl Rets.nil)) : Rets Tryd.prog σ w73 [.cell 6 25, .tmp 7] [.agg #[I rl1, I x42, I 0, I 0], .bool true])
         obtain rfl := Option.some.inj h
         exact wp_ret (retG (rs := [.cell 6 25, .tmp 7]) rfl (hF.sub [(6, B b1 0), (7, .bool true)] (by kernel_rfl)) (hrets rfl) rfl ⟨_, rfl, rfl, hM0.chg⟩)
       replace h := iteF hb h
       have hs : Sep [BX b2 25 [I rl1, I 0, I 0, I 0], BX b1 25 [I 0, I 0, I 0, I 0]] w9 S6 := Sep.pick [0, 2] hs (by decide) rfl
       refine (wp_skip ?_)
       refine blk_normal (then_normal ?_)
       refine wp_seq ?_
       refine wp_seq (wp_text' ?_)
       refine s_loadBoxS ty25 rfl rfl hF rfl (hs.bx 0 rfl) rfl rfl fun fr hF => ?_
       refine from_pure 2 [(0, Str.val p0), (6, B b1 0), (9, B b2 0), (90, .agg #[I rl1, I 0, I 0, I 0]), (91, I p1), (92, I p2)] hF (by kernel_rfl) fun fr hF => ?_
       obtain ⟨x44, hx44, h⟩ := bindE h
       refine s_call [.agg #[I rl1, I 0, I 0, I 0], I p1, I p2] Tryd.call9 rfl rfl hF rfl (impl_FormatIns_ok (D.Ins.mk rl1 0 0 0) p1 p2 hx44 tb) fun v w74 fr hRes hF => ?_
       obtain ⟨rfl, hc⟩ := hRes
       have tb := tb.ext hc
       have hs := hs.ext hc
       have hM0 := hM0.ext hc
       refine from_pure 2 [(6, B b1 0), (9, B b2 0), (95, .bool (!(Str.eqb x44 p0)))] hF (by kernel_rfl) fun fr hF => ?_
       refine from_end rfl (then_normal ?_)
       refine (wp_if hF (b := (!(Str.eqb x44 p0))) rfl (fun hb => ?_) (fun hb => ?_))
       · replace h := iteT hb h
         have hs : Sep [BX b1 25 [I 0, I 0, I 0, I 0]] w74 S6 := Sep.pick [1] hs (by decide) rfl
         refine wp_seq (wp_text' ?_)
         refine from_pure 1 [(6, B b1 0), (96, .agg #[I 0, I 0, I 0, I 0])] hF (by kernel_rfl) fun fr hF => ?_
         refine q_storeBoxS 0 hs hM0 rfl [I 0, I 0, I 0, I 0] rfl hF rfl rfl (by kernel_rfl) rfl rfl rfl fun w75 S48 hs hp hF => ?_
         have tb := tb.stp hM0 hp
         have hM0 := hM0.stp hp
         have hs : Sep [BX b1 25 [I 0, I 0, I 0, I 0]] w75 S48 := hs
         refine from_pure 1 [(6, B b1 0), (7, .bool false)] hF (by kernel_rfl) fun fr hF => ?_
         refine from_end rfl (then_normal ?_)
         have hrets := fun {σ : List (Nat × Value)} (h : σ = [(6, B b1 0), (7, .bool false)]) => (by subst h; exact (Rets.cell rfl ty25 (hs.bx 0 rfl) rfl rfl (Rets.tmp rfl Rets.nil)) : Rets Tryd.prog σ w75 [.cell 6 25, .tmp 7] [.agg #[I 0, I 0, I 0, I 0], .bool false])
         obtain rfl := Option.some.inj h
         exact wp_ret (then_ret (retG (rs := [.cell 6 25, .tmp 7]) rfl (hF.sub [(6, B b1 0), (7, .bool false)] (by kernel_rfl)) (hrets rfl) rfl ⟨_, rfl, rfl, hM0.chg⟩))
       replace h := iteF hb h
       refine (wp_skip (then_normal ?_))
       refine wp_seq (wp_text' ?_)
       refine s_loadBoxS ty25 rfl rfl hF rfl (hs.bx 0 rfl) rfl rfl fun fr hF => ?_
       have hs : Sep [BX b1 25 [I 0, I 0, I 0, I 0]] w74 S6 := Sep.pick [1] hs (by decide) rfl
       refine q_storeBoxS 0 hs hM0 rfl [I rl1, I 0, I 0, I 0] rfl hF rfl rfl (by kernel_rfl) rfl rfl rfl fun w76 S49 hs hp hF => ?_
       have tb := tb.stp hM0 hp
       have hM0 := hM0.stp hp
       have hs : Sep [BX b1 25 [I rl1, I 0, I 0, I 0]] w76 S49 := hs
       refine from_pure 1 [(6, B b1 0), (7, .bool true)] hF (by kernel_rfl) fun fr hF => ?_
       refine from_end rfl (then_normal ?_)
       have hrets := fun {σ : List (Nat × Value)} (h : σ = [(6, B b1 0), (7, .bool true)]) => (by subst h; exact (Rets.cell rfl ty25 (hs.bx 0 rfl) rfl rfl (Rets.tmp rfl Rets.nil)) : Rets Tryd.prog σ w76 [.cell 6 25, .tmp 7] [.agg #[I rl1, I 0, I 0, I 0], .bool true])
       obtain rfl := Option.some.inj h
       exact wp_ret (retG (rs := [.cell 6 25, .tmp 7]) rfl (hF.sub [(6, B b1 0), (7, .bool true)] (by kernel_rfl)) (hrets rfl) rfl ⟨_, rfl, rfl, hM0.chg⟩)
     simp only [hg4] at hF
     refine from_takeL hF rfl rfl rfl rfl rfl rfl ?_
     dsimp only [List.set]
     refine from_pure 1 [(0, Str.val p0), (1, I p1), (2, I p2), (6, B b1 0), (8, L a1 x1 c1), (9, B b2 0), (66, .bool true), (70, .bool false), (71, B b2 0)] hF (by kernel_rfl) fun fr hF => ?_
     refine from_takeL hF rfl rfl rfl rfl rfl rfl ?_
     dsimp only [List.set]
     refine s_loadBox (I rl1) ty3 rfl rfl hF rfl (hs.bx 0 rfl) rfl rfl fun fr hF => ?_
     refine from_takeL hF rfl rfl rfl rfl rfl rfl ?_
     dsimp only [List.set]
     refine from_pure 1 [(0, Str.val p0), (1, I p1), (2, I p2), (6, B b1 0), (8, L a1 x1 c1), (9, B b2 0), (66, .bool true), (70, .bool false), (73, .bool (rl1 == 11))] hF (by kernel_rfl) fun fr hF => ?_
     refine from_takeL hF rfl rfl rfl rfl rfl rfl ?_
     dsimp only [List.set]
     refine from_pick rfl rfl hF rfl rfl fun fr hF => ?_
     refine from_pick rfl rfl hF rfl rfl fun fr hF => ?_
     refine from_pure 1 [(0, Str.val p0), (1, I p1), (2, I p2), (6, B b1 0), (8, L a1 x1 c1), (9, B b2 0), (62, .bool (rl1 == 11))] hF (by kernel_rfl) fun fr hF => ?_
     refine from_end rfl (then_normal ?_)
     refine (wp_if hF (b := (rl1 == 11)) rfl (fun hb => ?_) (fun hb => ?_))
     · replace h := iteT hb h
       refine (wp_text' ?_)
       refine from_pure 1 [(0, Str.val p0), (1, I p1), (2, I p2), (6, B b1 0), (9, B b2 0), (76, L a1 x1 c1)] hF (by kernel_rfl) fun fr hF => ?_
       obtain ⟨x45, hx45, h⟩ := bindE h
       refine s_elemF (z := x45) (Str.val x45) ty9 Tryd.underlying55 rfl rfl rfl rfl rfl hF rfl (hs.rv 1 rfl) rfl (get?_nn hx45) (get?_at hx45) rfl fun p fr hF => ?_
       have hs : Sep [BX b2 25 [I rl1, I 0, I 0, I 0], BX b1 25 [I 0, I 0, I 0, I 0]] w9 S6 := Sep.pick [0, 2] hs (by decide) rfl
       obtain ⟨x46, hx46, h⟩ := bindE h
       refine s_call [Str.val x45] Tryd.call50 rfl rfl hF rfl (impl_parseOperand_ok x45 hx46 tb) fun v w77 fr hRes hF => ?_
       obtain ⟨rfl, hc⟩ := hRes
       have tb := tb.ext hc
       have hs := hs.ext hc
       have hM0 := hM0.ext hc
       refine from_pure 1 [(0, Str.val p0), (1, I p1), (2, I p2), (6, B b1 0), (9, B b2 0), (79, I x46), (80, B b2 2)] hF (by kernel_rfl) fun fr hF => ?_
       refine q_storeBox 0 hs hM0 rfl [I rl1, I 0, I x46, I 0] rfl hF rfl rfl (by kernel_rfl) rfl rfl rfl fun w78 S50 hs hp hF => ?_
       have tb := tb.stp hM0 hp
       have hM0 := hM0.stp hp
       have hs : Sep [BX b2 25 [I rl1, I 0, I x46, I 0], BX b1 25 [I 0, I 0, I 0, I 0]] w78 S50 := hs
       refine from_end rfl ?_
       refine blk_normal (then_normal ?_)
       refine wp_seq ?_
       refine wp_seq (wp_text' ?_)
       refine s_loadBoxS ty25 rfl rfl hF rfl (hs.bx 0 rfl) rfl rfl fun fr hF => ?_
       refine from_pure 2 [(0, Str.val p0), (6, B b1 0), (9, B b2 0), (90, .agg #[I rl1, I 0, I x46, I 0]), (91, I p1), (92, I p2)] hF (by kernel_rfl) fun fr hF => ?_
       obtain ⟨x47, hx47, h⟩ := bindE h
       refine s_call [.agg #[I rl1, I 0, I x46, I 0], I p1, I p2] Tryd.call9 rfl rfl hF rfl (impl_FormatIns_ok (D.Ins.mk rl1 0 x46 0) p1 p2 hx47 tb) fun v w79 fr hRes hF => ?_
       obtain ⟨rfl, hc⟩ := hRes
       have tb := tb.ext hc
       have hs := hs.ext hc
       have hM0 := hM0.ext hc
       refine from_pure 2 [(6, B b1 0), (9, B b2 0), (95, .bool (!(Str.eqb x47 p0)))] hF (by kernel_rfl) fun fr hF => ?_
       refine from_end rfl (then_normal ?_)
       refine (wp_if hF (b := (!(Str.eqb x47 p0))) rfl (fun hb => ?_) (fun hb => ?_))
       · replace h := iteT hb h
         have hs : Sep [BX b1 25 [I 0, I 0, I 0, I 0]] w79 S50 := Sep.pick [1] hs (by decide) rfl
         refine wp_seq (wp_text' ?_)
         refine from_pure 1 [(6, B b1 0), (96, .agg #[I 0, I 0, I 0, I 0])] hF (by kernel_rfl) fun fr hF => ?_
         refine q_storeBoxS 0 hs hM0 rfl [I 0, I 0, I 0, I 0] rfl hF rfl rfl (by kernel_rfl) rfl rfl rfl fun w80 S51 hs hp hF => ?_
         have tb := tb.stp hM0 hp
         have hM0 := hM0.stp hp
         have hs : Sep [BX b1 25 [I 0, I 0, I 0, I 0]] w80 S51 := hs
         refine from_pure 1 [(6, B b1 0), (7, .bool false)] hF (by kernel_rfl) fun fr hF => ?_
         refine from_end rfl (then_normal ?_)
         have hrets := fun {σ : List (Nat × Value)} (h : σ = [(6, B b1 0), (7, .bool false)]) => (by subst h; exact (Rets.cell rfl ty25 (hs.bx 0 rfl) rfl rfl (Rets.tmp rfl Rets.nil)) : Rets Tryd.prog σ w80 [.cell 6 25, .tmp 7] [.agg #[I 0, I 0, I 0, I 0], .bool false])
         obtain rfl := Option.some.inj h
         exact wp_ret (then_ret (retG (rs := [.cell 6 25, .tmp 7]) rfl (hF.sub [(6, B b1 0), (7, .bool false)] (by kernel_rfl)) (hrets rfl) rfl ⟨_, rfl, rfl, hM0.chg⟩))
       replace h := iteF hb h
       refine (wp_skip (then_normal ?_))
       refine wp_seq (wp_text' ?_)
       refine s_loadBoxS ty25 rfl rfl hF rfl (hs.bx 0 rfl) rfl rfl fun fr hF => ?_
       have hs : Sep [BX b1 25 [I 0, I 0, I 0, I 0]] w79 S50 := Sep.pick [1] hs (by decide) rfl
       refine q_storeBoxS 0 hs hM0 rfl [I rl1, I 0, I x46, I 0] rfl hF rfl rfl (by kernel_rfl) rfl rfl rfl fun w81 S52 hs hp hF => ?_
       have tb := tb.stp hM0 hp
       have hM0 := hM0.stp hp
       have hs : Sep [BX b1 25 [I rl1, I 0, I x46, I 0]] w81 S52 := hs
       refine from_pure 1 [(6, B b1 0), (7, .bool true)] hF (by kernel_rfl) fun fr hF => ?_
       refine from_end rfl (then_normal ?_)
       have hrets := fun {σ : List (Nat × Value)} (h : σ = [(6, B b1 0), (7, .bool true)]) => (by subst h; exact (Rets.cell rfl ty25 (hs.bx 0 rfl) rfl rfl (Rets.tmp rfl Rets.nil)) : Rets Tryd.prog σ w81 [.cell 6 25, .tmp 7] [.agg #[I rl1, I 0, I x46, I 0], .bool true])
       obtain rfl := Option.some.inj h
       exact wp_ret (retG (rs := [.cell 6 25, .tmp 7]) rfl (hF.sub [(6, B b1 0), (7, .bool true)] (by kernel_rfl)) (hrets rfl) rfl ⟨_, rfl, rfl, hM0.chg⟩)
     replace h := iteF hb h
     refine wp_seq (wp_pure [(0, Str.val p0), (1, I p1), (2, I p2), (6, B b1 0), (8, L a1 x1 c1), (9, B b2 0), (81, .bool ((len x1) == 2))] hF (by kernel_rfl) fun fr hF => then_normal ?_)
     refine (wp_if hF (b := ((len x1) == 2)) rfl (fun hb => ?_) (fun hb => ?_))
     · replace h := iteT hb h
       refine (wp_text' ?_)
       refine from_pure 1 [(0, Str.val p0), (1, I p1), (2, I p2), (6, B b1 0), (9, B b2 0), (85, L a1 x1 c1)] hF (by kernel_rfl) fun fr hF => ?_
       obtain ⟨x48, hx48, h⟩ := bindE h
       refine s_elemF (z := x48) (Str.val x48) ty9 Tryd.underlying55 rfl rfl rfl rfl rfl hF rfl (hs.rv 1 rfl) rfl (get?_nn hx48) (get?_at hx48) rfl fun p fr hF => ?_
       have hs : Sep [BX b2 25 [I rl1, I 0, I 0, I 0], BX b1 25 [I 0, I 0, I 0, I 0]] w9 S6 := Sep.pick [0, 2] hs (by decide) rfl
       obtain ⟨x49, hx49, h⟩ := bindE h
       refine s_call [Str.val x48] Tryd.call50 rfl rfl hF rfl (impl_parseOperand_ok x48 hx49 tb) fun v w82 fr hRes hF => ?_
       obtain ⟨rfl, hc⟩ := hRes
       have tb := tb.ext hc
       have hs := hs.ext hc
       have hM0 := hM0.ext hc
       refine from_pure 1 [(0, Str.val p0), (1, I p1), (2, I p2), (6, B b1 0), (9, B b2 0), (88, I x49), (89, B b2 1)] hF (by kernel_rfl) fun fr hF => ?_
       refine q_storeBox 0 hs hM0 rfl [I rl1, I x49, I 0, I 0] rfl hF rfl rfl (by kernel_rfl) rfl rfl rfl fun w83 S53 hs hp hF => ?_
       have tb := tb.stp hM0 hp
       have hM0 := hM0.stp hp
       have hs : Sep [BX b2 25 [I rl1, I x49, I 0, I 0], BX b1 25 [I 0, I 0, I 0, I 0]] w83 S53 := hs
       refine from_end rfl ?_
       refine blk_normal (then_normal ?_)
       refine wp_seq ?_
       refine wp_seq (wp_text' ?_)
       refine s_loadBoxS ty25 rfl rfl hF rfl (hs.bx 0 rfl) rfl rfl fun fr hF => ?_
       refine from_pure 2 [(0, Str.val p0), (6, B b1 0), (9, B b2 0), (90, .agg #[I rl1, I x49, I 0, I 0]), (91, I p1), (92, I p2)] hF (by kernel_rfl) fun fr hF => ?_
       obtain ⟨x50, hx50, h⟩ := bindE h
       refine s_call [.agg #[I rl1, I x49, I 0, I 0], I p1, I p2] Tryd.call9 rfl rfl hF rfl (impl_FormatIns_ok (D.Ins.mk rl1 x49 0 0) p1 p2 hx50 tb) fun v w84 fr hRes hF => ?_
       obtain ⟨rfl, hc⟩ := hRes
       have tb := tb.ext hc
       have hs := hs.ext hc
       have hM0 := hM0.ext hc
       refine from_pure 2 [(6, B b1 0), (9, B b2 0), (95, .bool (!(Str.eqb x50 p0)))] hF (by kernel_rfl) fun fr hF => ?_
       refine from_end rfl (then_normal ?_)
       refine (wp_if hF (b := (!(Str.eqb x50 p0))) rfl (fun hb => ?_) (fun hb => ?_))
       · replace h := iteT hb h
         have hs : Sep [BX b1 25 [I 0, I 0, I 0, I 0]] w84 S53 := Sep.pick [1] hs (by decide) rfl
         refine wp_seq (wp_text' ?_)
         refine from_pure 1 [(6, B b1 0), (96, .agg #[I 0, I 0, I 0, I 0])] hF (by kernel_rfl) fun fr hF => ?_
         refine q_storeBoxS 0 hs hM0 rfl [I 0, I 0, I 0, I 0] rfl hF rfl rfl (by kernel_rfl) rfl rfl rfl fun w85 S54 hs hp hF => ?_
         have tb := tb.stp hM0 hp
         have hM0 := hM0.stp hp
         have hs : Sep [BX b1 25 [I 0, I 0, I 0, I 0]] w85 S54 := hs
         refine from_pure 1 [(6, B b1 0), (7, .bool false)] hF (by kernel_rfl) fun fr hF => ?_
         refine from_end rfl (then_normal ?_)
         have hrets := fun {σ : List (Nat × Value)} (h : σ = [(6, B b1 0), (7, .bool false)]) => (by subst h; exact (Rets.cell rfl ty25 (hs.bx 0 rfl) rfl rfl (Rets.tmp rfl Rets.nil)) : Rets Tryd.prog σ w85 [.cell 6 25, .tmp 7] [.agg #[I 0, I 0, I 0, I 0], .bool false])
         obtain rfl := Option.some.inj h
         exact wp_ret (then_ret (retG (rs := [.cell 6 25, .tmp 7]) rfl (hF.sub [(6, B b1 0), (7, .bool false)] (by kernel_rfl)) (hrets rfl) rfl ⟨_, rfl, rfl, hM0.chg⟩))
       replace h := iteF hb h
       refine (wp_skip (then_normal ?_))
       refine wp_seq (wp_text' ?_)
       refine s_loadBoxS ty25 rfl rfl hF rfl (hs.bx 0 rfl) rfl rfl fun fr hF => ?_
       have hs : Sep [BX b1 25 [I 0, I 0, I 0, I 0]] w84 S53 := Sep.pick [1] hs (by decide) rfl
       refine q_storeBoxS 0 hs hM0 rfl [I rl1, I x49, I 0, I 0] rfl hF rfl rfl (by kernel_rfl) rfl rfl rfl fun w86 S55 hs hp hF => ?_
       have tb := tb.stp hM0 hp
       have hM0 := hM0.stp hp
       have hs : Sep [BX b1 25 [I rl1, I x49, I 0, I 0]] w86 S55 := hs
       refine from_pure 1 [(6, B b1 0), (7, .bool true)] hF (by kernel_rfl) fun fr hF => ?_
       refine from_end rfl (then_normal ?_)
       have hrets := fun {σ : List (Nat × Value)} (h : σ = [(6, B b1 0), (7, .bool true)]) => (by subst h; exact (Rets.cell rfl ty25 (hs.bx 0 rfl) rfl rfl (Rets.tmp rfl Rets.nil)) : Rets Tryd.prog σ w86 [.cell 6 25, .tmp 7] [.agg #[I rl1, I x49, I 0, I 0], .bool true])
       obtain rfl := Option.some.inj h
       exact wp_ret (retG (rs := [.cell 6 25, .tmp 7]) rfl (hF.sub [(6, B b1 0), (7, .bool true)] (by kernel_rfl)) (hrets rfl) rfl ⟨_, rfl, rfl, hM0.chg⟩)
     replace h := iteF hb h
     have hs : Sep [BX b2 25 [I rl1, I 0, I 0, I 0], BX b1 25 [I 0, I 0, I 0, I 0]] w9 S6 := Sep.pick [0, 2] hs (by decide) rfl
     refine (wp_skip ?_)
     refine blk_normal (then_normal ?_)
     refine wp_seq ?_
     refine wp_seq (wp_text' ?_)
     refine s_loadBoxS ty25 rfl rfl hF rfl (hs.bx 0 rfl) rfl rfl fun fr hF => ?_
     refine from_pure 2 [(0, Str.val p0), (6, B b1 0), (9, B b2 0), (90, .agg #[I rl1, I 0, I 0, I 0]), (91, I p1), (92, I p2)] hF (by kernel_rfl) fun fr hF => ?_
     obtain ⟨x51, hx51, h⟩ := bindE h
     refine s_call [.agg #[I rl1, I 0, I 0, I 0], I p1, I p2] Tryd.call9 rfl rfl hF rfl (impl_FormatIns_ok (D.Ins.mk rl1 0 0 0) p1 p2 hx51 tb) fun v w87 fr hRes hF => ?_
     obtain ⟨rfl, hc⟩ := hRes
     have tb := tb.ext hc
     have hs := hs.ext hc
     have hM0 := hM0.ext hc
     refine from_pure 2 [(6, B b1 0), (9, B b2 0), (95, .bool (!(Str.eqb x51 p0)))] hF (by kernel_rfl) fun fr hF => ?_
     refine from_end rfl (then_normal ?_)
     refine (wp_if hF (b := (!(Str.eqb x51 p0))) rfl (fun hb => ?_) (fun hb => ?_))
     · replace h := iteT hb h
       have hs : Sep [BX b1 25 [I 0, I 0, I 0, I 0]] w87 S6 := Sep.pick [1] hs (by decide) rfl
       refine wp_seq (wp_text' ?_)
       refine from_pure 1 [(6, B b1 0), (96, .agg #[I 0, I 0, I 0, I 0])] hF (by kernel_rfl) fun fr hF => ?_
       refine q_storeBoxS 0 hs hM0 rfl [I 0, I 0, I 0, I 0] rfl hF rfl rfl (by kernel_rfl) rfl rfl rfl fun w88 S56 hs hp hF => ?_
       have tb := tb.stp hM0 hp
       have hM0 := hM0.stp hp
       have hs : Sep [BX b1 25 [I 0, I 0, I 0, I 0]] w88 S56 := hs
       refine from_pure 1 [(6, B b1 0), (7, .bool false)] hF (by kernel_rfl) fun fr hF => ?_
       refine from_end rfl (then_normal ?_)
       have hrets := fun {σ : List (Nat × Value)} (h : σ = [(6, B b1 0), (7, .bool false)]) => (by subst h; exact (Rets.cell rfl ty25 (hs.bx 0 rfl) rfl rfl (Rets.tmp rfl Rets.nil)) : Rets Tryd.prog σ w88 [.cell 6 25, .tmp 7] [.agg #[I 0, I 0, I 0, I 0], .bool false])
       obtain rfl := Option.some.inj h
       exact wp_ret (then_ret (retG (rs := [.cell 6 25, .tmp 7]) rfl (hF.sub [(6, B b1 0), (7, .bool false)] (by kernel_rfl)) (hrets rfl) rfl ⟨_, rfl, rfl, hM0.chg⟩))
     replace h := iteF hb h
     refine (wp_skip (then_normal ?_))
     refine wp_seq (wp_text' ?_)
     refine s_loadBoxS ty25 rfl rfl hF rfl (hs.bx 0 rfl) rfl rfl fun fr hF => ?_
     have hs : Sep [BX b1 25 [I 0, I 0, I 0, I 0]] w87 S6 := Sep.pick [1] hs (by decide) rfl
     refine q_storeBoxS 0 hs hM0 rfl [I rl1, I 0, I 0, I 0] rfl hF rfl rfl (by kernel_rfl) rfl rfl rfl fun w89 S57 hs hp hF => ?_
     have tb := tb.stp hM0 hp
     have hM0 := hM0.stp hp
     have hs : Sep [BX b1 25 [I rl1, I 0, I 0, I 0]] w89 S57 := hs
     refine from_pure 1 [(6, B b1 0), (7, .bool true)] hF (by kernel_rfl) fun fr hF => ?_
     refine from_end rfl (then_normal ?_)
     have hrets := fun {σ : List (Nat × Value)} (h : σ = [(6, B b1 0), (7, .bool true)]) => (by subst h; exact (Rets.cell rfl ty25 (hs.bx 0 rfl) rfl rfl (Rets.tmp rfl Rets.nil)) : Rets Tryd.prog σ w89 [.cell 6 25, .tmp 7] [.agg #[I rl1, I 0, I 0, I 0], .bool true])
     obtain rfl := Option.some.inj h
     exact wp_ret (retG (rs := [.cell 6 25, .tmp 7]) rfl (hF.sub [(6, B b1 0), (7, .bool true)] (by kernel_rfl)) (hrets rfl) rfl ⟨_, rfl, rfl, hM0.chg⟩)
   simp only [hg3] at hF
   refine from_skip hF rfl rfl rfl rfl rfl rfl rfl rfl rfl fun fr hF => ?_
   refine from_skip hF rfl rfl rfl rfl rfl rfl rfl rfl rfl fun fr hF => ?_
   refine from_skip hF rfl rfl rfl rfl rfl rfl rfl rfl rfl fun fr hF => ?_
   refine from_skip hF rfl rfl rfl rfl rfl rfl rfl rfl rfl fun fr hF => ?_
   refine from_skipU hF rfl rfl rfl rfl rfl rfl rfl rfl fun fr hF => ?_
   refine from_skipU hF rfl rfl rfl rfl rfl rfl rfl rfl fun fr hF => ?_
   refine from_skipU hF rfl rfl rfl rfl rfl rfl rfl rfl fun fr hF => ?_
   refine from_skip hF rfl rfl rfl rfl rfl rfl rfl rfl rfl fun fr hF => ?_
   refine from_pick rfl rfl hF rfl rfl fun fr hF => ?_
   refine from_pure 1 [(0, Str.val p0), (1, I p1), (2, I p2), (6, B b1 0), (8, L a1 x1 c1), (9, B b2 0), (62, .bool false)] hF (by kernel_rfl) fun fr hF => ?_
   refine from_end rfl (then_normal ?_)
   refine (wp_if hF (b := false) rfl (fun hb => ?_) (fun hb => ?_))
   · replace h := iteT hb h
     refine (wp_text' ?_)
     refine from_pure 1 [(0, Str.val p0), (1, I p1), (2, I p2), (6, B b1 0), (9, B b2 0), (76, L a1 x1 c1)] hF (by kernel_rfl) fun fr hF => ?_
     obtain ⟨x52, hx52, h⟩ := bindE h
     refine s_elemF (z := x52) (Str.val x52) ty9 Tryd.underlying55 rfl rfl rfl rfl rfl hF rfl (hs.rv 1 rfl) rfl (get?_nn hx52) (get?_at hx52) rfl fun p fr hF => ?_
     have hs : Sep [BX b2 25 [I rl1, I 0, I 0, I 0], BX b1 25 [I 0, I 0, I 0, I 0]] w9 S6 := Sep.pick [0, 2] hs (by decide) rfl
     obtain ⟨x53, hx53, h⟩ := bindE h
     refine s_call [Str.val x52] Tryd.call50 rfl rfl hF rfl (impl_parseOperand_ok x52 hx53 tb) fun v w90 fr hRes hF => ?_
     obtain ⟨rfl, hc⟩ := hRes
     have tb := tb.ext hc
     have hs := hs.ext hc
     have hM0 := hM0.ext hc
     refine from_pure 1 [(0, Str.val p0), (1, I p1), (2, I p2), (6, B b1 0), (9, B b2 0), (79, I x53), (80, B b2 2)] hF (by kernel_rfl) fun fr hF => ?_
     refine q_storeBox 0 hs hM0 rfl [I rl1, I 0, I x53, I 0] rfl hF rfl rfl (by kernel_rfl) rfl rfl rfl fun w91 S58 hs hp hF => ?_
     have tb := tb.stp hM0 hp
     have hM0 := hM0.stp hp
     have hs : Sep [BX b2 25 [I rl1, I 0, I x53, I 0], BX b1 25 [I 0, I 0, I 0, I 0]] w91 S58 := hs
     refine from_end rfl ?_
     refine blk_normal (then_normal ?_)
     refine wp_seq ?_
     refine wp_seq (wp_text' ?_)
     refine s_loadBoxS ty25 rfl rfl hF rfl (hs.bx 0 rfl) rfl rfl fun fr hF => ?_
     refine from_pure 2 [(0, Str.val p0), (6, B b1 0), (9, B b2 0), (90, .agg #[I rl1, I 0, I x53, I 0]), (91, I p1), (92, I p2)] hF (by kernel_rfl) fun fr hF => ?_
     obtain ⟨x54, hx54, h⟩ := bindE h
     refine s_call [.agg #[I rl1, I 0, I x53, I 0], I p1, I p2] Tryd.call9 rfl rfl hF rfl (impl_FormatIns_ok (D.Ins.mk rl1 0 x53 0) p1 p2 hx54 tb) fun v w92 fr hRes hF => ?_
     obtain ⟨rfl, hc⟩ := hRes
     have tb := tb.ext hc
     have hs := hs.ext hc
     have hM0 := hM0.ext hc
     refine from_pure 2 [(6, B b1 0), (9, B b2 0), (95, .bool (!(Str.eqb x54 p0)))] hF (by kernel_rfl) fun fr hF => ?_
     refine from_end rfl (then_normal ?_)
     refine (wp_if hF (b := (!(Str.eqb x54 p0))) rfl (fun hb => ?_) (fun hb => ?_))
     · replace h := iteT hb h
       have hs : Sep [BX b1 25 [I 0, I 0, I 0, I 0]] w92 S58 := Sep.pick [1] hs (by decide) rfl
       refine wp_seq (wp_text' ?_)
       refine from_pure 1 [(6, B b1 0), (96, .agg #[I 0, I 0, I 0, I 0])] hF (by kernel_rfl) fun fr hF => ?_
       refine q_storeBoxS 0 hs hM0 rfl [I 0, I 0, I 0, I 0] rfl hF rfl rfl (by kernel_rfl) rfl rfl rfl fun w93 S59 hs hp hF => ?_
       have tb := tb.stp hM0 hp
       have hM0 := hM0.stp hp
       have hs : Sep [BX b1 25 [I 0, I 0, I 0, I 0]] w93 S59 := hs
       refine from_pure 1 [(6, B b1 0), (7, .bool false)] hF (by kernel_rfl) fun fr hF => ?_
       refine from_end rfl (then_normal ?_)
       have hrets := fun {σ : List (Nat × Value)} (h : σ = [(6, B b1 0), (7, .bool false)]) => (by subst h; exact (Rets.cell rfl ty25 (hs.bx 0 rfl) rfl rfl (Rets.tmp rfl Rets.nil)) : Rets Tryd.prog σ w93 [.cell 6 25, .tmp 7] [.agg #[I 0, I 0, I 0, I 0], .bool false])
       obtain rfl := Option.some.inj h
       exact wp_ret (then_ret (retG (rs := [.cell 6 25, .tmp 7]) rfl (hF.sub [(6, B b1 0), (7, .bool false)] (by kernel_rfl)) (hrets rfl) rfl ⟨_, rfl, rfl, hM0.chg⟩))
     replace h := iteF hb h
     refine (wp_skip (then_normal ?_))
     refine wp_seq (wp_text' ?_)
     refine s_loadBoxS ty25 rfl rfl hF rfl (hs.bx 0 rfl) rfl rfl fun fr hF => ?_
     have hs : Sep [BX b1 25 [I 0, I 0, I 0, I 0]] w92 S58 := Sep.pick [1] hs (by decide) rfl
     refine q_storeBoxS 0 hs hM0 rfl [I rl1, I 0, I x53, I 0] rfl hF rfl rfl (by kernel_rfl) rfl rfl rfl fun w94 S60 hs hp hF => ?_
     have tb := tb.stp hM0 hp
     have hM0 := hM0.stp hp
     have hs : Sep [BX b1 25 [I rl1, I 0, I x53, I 0]] w94 S60 := hs
     refine from_pure 1 [(6, B b1 0), (7, .bool true)] hF (by kernel_rfl) fun fr hF => ?_
     refine from_end rfl (then_normal ?_)
     have hrets := fun {σ : List (Nat × Value)} (h : σ = [(6, B b1 0), (7, .bool true)]) => (by subst h; exact (Rets.cell rfl ty25 (hs.bx 0 rfl) rfl rfl (Rets.tmp rfl Rets.nil)) : Rets Tryd.prog σ w94 [.cell 6 25, .tmp 7] [.agg #[I rl1, I 0, I x53, I 0], .bool true])
     obtain rfl := Option.some.inj h
     exact wp_ret (retG (rs := [.cell 6 25, .tmp 7]) rfl (hF.sub [(6, B b1 0), (7, .bool true)] (by kernel_rfl)) (hrets rfl) rfl ⟨_, rfl, rfl, hM0.chg⟩)
   replace h := iteF hb h
   refine wp_seq (wp_pure [(0, Str.val p0), (1, I p1), (2, I p2), (6, B b1 0), (8, L a1 x1 c1), (9, B b2 0), (81, .bool ((len x1) == 2))] hF (by kernel_rfl) fun fr hF => then_normal ?_)
   refine (wp_if hF (b := ((len x1) == 2)) rfl (fun hb => ?_) (fun hb => ?_))
   · replace h := iteT hb h
     refine (wp_text' ?_)
     refine from_pure 1 [(0, Str.val p0), (1, I p1), (2, I p2), (6, B b1 0), (9, B b2 0), (85, L a1 x1 c1)] hF (by kernel_rfl) fun fr hF => ?_
     obtain ⟨x55, hx55, h⟩ := bindE h
     refine s_elemF (z := x55) (Str.val x55) ty9 Tryd.underlying55 rfl rfl rfl rfl rfl hF rfl (hs.rv 1 rfl) rfl (get?_nn hx55) (get?_at hx55) rfl fun p fr hF => ?_
     have hs : Sep [BX b2 25 [I rl1, I 0, I 0, I 0], BX b1 25 [I 0, I 0, I 0, I 0]] w9 S6 := Sep.pick [0, 2] hs (by decide) rfl
     obtain ⟨x56, hx56, h⟩ := bindE h
     refine s_call [Str.val x55] Tryd.call50 rfl rfl hF rfl (impl_parseOperand_ok x55 hx56 tb) fun v w95 fr hRes hF => ?_
     obtain ⟨rfl, hc⟩ := hRes
     have tb := tb.ext hc
     have hs := hs.ext hc
     have hM0 := hM0.ext hc
     refine from_pure 1 [(0, Str.val p0), (1, I p1), (2, I p2), (6, B b1 0), (9, B b2 0), (88, I x56), (89, B b2 1)] hF (by kernel_rfl) fun fr hF => ?_
     refine q_storeBox 0 hs hM0 rfl [I rl1, I x56, I 0, I 0] rfl hF rfl rfl (by kernel_rfl) rfl rfl rfl fun w96 S61 hs hp hF => ?_
     have tb := tb.stp hM0 hp
     have hM0 := hM0.stp hp
     have hs : Sep [BX b2 25 [I rl1, I x56, I 0, I 0], BX b1 25 [I 0, I 0, I 0, I 0]] w96 S61 := hs
     refine from_end rfl ?_
     refine blk_normal (then_normal ?_)
     refine wp_seq ?_
     refine wp_seq (wp_text' ?_)
     refine s_loadBoxS ty25 rfl rfl hF rfl (hs.bx 0 rfl) rfl rfl fun fr hF => ?_
     refine from_pure 2 [(0, Str.val p0), (6, B b1 0), (9, B b2 0), (90, .agg #[I rl1, I x56, I 0, I 0]), (91, I p1), (92, I p2)] hF (by kernel_rfl) fun fr hF => ?_
     obtain ⟨x57, hx57, h⟩ := bindE h
     refine s_call [.agg #[I rl1, I x56, I 0, I 0], I p1, I p2] Tryd.call9 rfl rfl hF rfl (impl_FormatIns_ok (D.Ins.mk rl1 x56 0 0) p1 p2 hx57 tb) fun v w97 fr hRes hF => ?_
     obtain ⟨rfl, hc⟩ := hRes
     have tb := tb.ext hc
     have hs := hs.ext hc
     have hM0 := hM0.ext hc
     refine from_pure 2 [(6, B b1 0), (9, B b2 0), (95, .bool (!(Str.eqb x57 p0)))] hF (by kernel_rfl) fun fr hF => ?_
     refine from_end rfl (then_normal ?_)
     refine (wp_if hF (b := (!(Str.eqb x57 p0))) rfl (fun hb => ?_) (fun hb => ?_))
     · replace h := iteT hb h
       have hs : Sep [BX b1 25 [I 0, I 0, I 0, I 0]] w97 S61 := Sep.pick [1] hs (by decide) rfl
       refine wp_seq (wp_text' ?_)
       refine from_pure 1 [(6, B b1 0), (96, .agg #[I 0, I 0, I 0, I 0])] hF (by kernel_rfl) fun fr hF => ?_
       refine q_storeBoxS 0 hs hM0 rfl [I 0, I 0, I 0, I 0] rfl hF rfl rfl (by kernel_rfl) rfl rfl rfl fun w98 S62 hs hp hF => ?_
       have tb := tb.stp hM0 hp
       have hM0 := hM0.stp hp
       have hs : Sep [BX b1 25 [I 0, I 0, I 0, I 0]] w98 S62 := hs
       refine from_pure 1 [(6, B b1 0), (7, .bool false)] hF (by kernel_rfl) fun fr hF => ?_
       refine from_end rfl (then_normal ?_)
       have hrets := fun {σ : List (Nat × Value)} (h : σ = [(6, B b1 0), (7, .bool false)]) => (by subst h; exact (Rets.cell rfl ty25 (hs.bx 0 rfl) rfl rfl (Rets.tmp rfl Rets.nil)) : Rets Tryd.prog σ w98 [.cell 6 25, .tmp 7] [.agg #[I 0, I 0, I 0, I 0], .bool false])
       obtain rfl := Option.some.inj h
       exact wp_ret (then_ret (retG (rs := [.cell 6 25, .tmp 7]) rfl (hF.sub [(6, B b1 0), (7, .bool false)] (by kernel_rfl)) (hrets rfl) rfl ⟨_, rfl, rfl, hM0.chg⟩))
     replace h := iteF hb h
     refine (wp_skip (then_normal ?_))
     refine wp_seq (wp_text' ?_)
     refine s_loadBoxS ty25 rfl rfl hF rfl (hs.bx 0 rfl) rfl rfl fun fr hF => ?_
     have hs : Sep [BX b1 25 [I 0, I 0, I 0, I 0]] w97 S61 := Sep.pick [1] hs (by decide) rfl
     refine q_storeBoxS 0 hs hM0 rfl [I rl1, I x56, I 0, I 0] rfl hF rfl rfl (by kernel_rfl) rfl rfl rfl fun w99 S63 hs hp hF => ?_
     have tb := tb.stp hM0 hp
     have hM0 := hM0.stp hp
     have hs : Sep [BX b1 25 [I rl1, I x56, I 0, I 0]] w99 S63 := hs
     refine from_pure 1 [(6, B b1 0), (7, .bool true)] hF (by kernel_rfl) fun fr hF => ?_
     refine from_end rfl (then_normal ?_)
     have hrets := fun {σ : List (Nat × Value)} (h : σ = [(6, B b1 0), (7, .bool true)]) => (by subst h; exact (Rets.cell rfl ty25 (hs.bx 0 rfl) rfl rfl (Rets.tmp rfl Rets.nil)) : Rets Tryd.prog σ w99 [.cell 6 25, .tmp 7] [.agg #[I rl1, I x56, I 0, I 0], .bool true])
     obtain rfl := Option.some.inj h
     exact wp_ret (retG (rs := [.cell 6 25, .tmp 7]) rfl (hF.sub [(6, B b1 0), (7, .bool true)] (by kernel_rfl)) (hrets rfl) rfl ⟨_, rfl, rfl, hM0.chg⟩)
   replace h := iteF hb h
   have hs : Sep [BX b2 25 [I rl1, I 0, I 0, I 0], BX b1 25 [I 0, I 0, I 0, I 0]] w9 S6 := Sep.pick [0, 2] hs (by decide) rfl
   refine (wp_skip ?_)
   refine blk_normal (then_normal ?_)
   refine wp_seq ?_
   refine wp_seq (wp_text' ?_)
   refine s_loadBoxS ty25 rfl rfl hF rfl (hs.bx 0 rfl) rfl rfl fun fr hF => ?_
   refine from_pure 2 [(0, Str.val p0), (6, B b1 0), (9, B b2 0), (90, .agg #[I rl1, I 0, I 0, I 0]), (91, I p1), (92, I p2)] hF (by kernel_rfl) fun fr hF => ?_
   obtain ⟨x58, hx58, h⟩ := bindE h
   refine s_call [.agg #[I rl1, I 0, I 0, I 0], I p1, I p2] Tryd.call9 rfl rfl hF rfl (impl_FormatIns_ok (D.Ins.mk rl1 0 0 0) p1 p2 hx58 tb) fun v w100 fr hRes hF => ?_
   obtain ⟨rfl, hc⟩ := hRes
   have tb := tb.ext hc
   have hs := hs.ext hc
   have hM0 := hM0.ext hc
   refine from_pure 2 [(6, B b1 0), (9, B b2 0), (95, .bool (!(Str.eqb x58 p0)))] hF (by kernel_rfl) fun fr hF => ?_
   refine from_end rfl (then_normal ?_)
   refine (wp_if hF (b := (!(Str.eqb x58 p0))) rfl (fun hb => ?_) (fun hb => ?_))
   · replace h := iteT hb h
     have hs : Sep [BX b1 25 [I 0, I 0, I 0, I 0]] w100 S6 := Sep.pick [1] hs (by decide) rfl
     refine wp_seq (wp_text' ?_)
     refine from_pure 1 [(6, B b1 0), (96, .agg #[I 0, I 0, I 0, I 0])] hF (by kernel_rfl) fun fr hF => ?_
     refine q_storeBoxS 0 hs hM0 rfl [I 0, I 0, I 0, I 0] rfl hF rfl rfl (by kernel_rfl) rfl rfl rfl fun w101 S64 hs hp hF => ?_
     have tb := tb.stp hM0 hp
     have hM0 := hM0.stp hp
     have hs : Sep [BX b1 25 [I 0, I 0, I 0, I 0]] w101 S64 := hs
     refine from_pure 1 [(6, B b1 0), (7, .bool false)] hF (by kernel_rfl) fun fr hF => ?_
     refine from_end rfl (then_normal ?_)
     have hrets := fun {σ : List (Nat × Value)} (h : σ = [(6, B b1 0), (7, .bool false)]) => (by subst h; exact (Rets.cell rfl ty25 (hs.bx 0 rfl) rfl rfl (Rets.tmp rfl Rets.nil)) : Rets Tryd.prog σ w101 [.cell 6 25, .tmp 7] [.agg #[I 0, I 0, I 0, I 0], .bool false])
     obtain rfl := Option.some.inj h
     exact wp_ret (then_ret (retG (rs := [.cell 6 25, .tmp 7]) rfl (hF.sub [(6, B b1 0), (7, .bool false)] (by kernel_rfl)) (hrets rfl) rfl ⟨_, rfl, rfl, hM0.chg⟩))
   replace h := iteF hb h
   refine (wp_skip (then_normal ?_))
   refine wp_seq (wp_text' ?_)
   refine s_loadBoxS ty25 rfl rfl hF rfl (hs.bx 0 rfl) rfl rfl fun fr hF => ?_
   have hs : Sep [BX b1 25 [I 0, I 0, I 0, I 0]] w100 S6 := Sep.pick [1] hs (by decide) rfl
   refine q_storeBoxS 0 hs hM0 rfl [I rl1, I 0, I 0, I 0] rfl hF rfl rfl (by kernel_rfl) rfl rfl rfl fun w102 S65 hs hp hF => ?_
   have tb := tb.stp hM0 hp
   have hM0 := hM0.stp hp
   have hs : Sep [BX b1 25 [I rl1, I 0, I 0, I 0]] w102 S65 := hs
   refine from_pure 1 [(6, B b1 0), (7, .bool true)] hF (by kernel_rfl) fun fr hF => ?_
   refine from_end rfl (then_normal ?_)
   have hrets := fun {σ : List (Nat × Value)} (h : σ = [(6, B b1 0), (7, .bool true)]) => (by subst h; exact (Rets.cell rfl ty25 (hs.bx 0 rfl) rfl rfl (Rets.tmp rfl Rets.nil)) : Rets Tryd.prog σ w102 [.cell 6 25, .tmp 7] [.agg #[I rl1, I 0, I 0, I 0], .bool true])
   obtain rfl := Option.some.inj h
   exact wp_ret (retG (rs := [.cell 6 25, .tmp 7]) rfl (hF.sub [(6, B b1 0), (7, .bool true)] (by kernel_rfl)) (hrets rfl) rfl ⟨_, rfl, rfl, hM0.chg⟩)

theorem laws_eqIns_ok (p0 : D.Ins) (p1 : D.Ins) {r : Bool} (h : laws_eqIns p0 p1 = some r) {w : World} :
   Calls Tryd.prog 17 [.agg #[I p0.Op, I p0.A, I p0.B, I p0.C], .agg #[I p1.Op, I p1.A, I p1.B, I p1.C]].toArray w fun e w' => ∃ v, e = .returned v ∧ v = .bool r ∧ Chg Non w w' := by
 unfold laws_eqIns at h
 have hs := Sep.nil w Non
 have hM0 : Mem w Non (fun k => (False) ∧ k < w.heap.size) w Non (fun k => (False) ∧ k < w.heap.size) := Mem.start (fun _ h => h.elim) (fun _ h => h.2) (fun _ h => h.elim)
 refine enter (N := 25) Tryd.func17 rfl Tryd.ntmps17 rfl fun fr hF => ?_
 refine wp_seq (wp_text' ?_)
 refine q_box hs hM0 [I p0.Op, I p0.A, I p0.B, I p0.C] rfl rfl hF rfl rfl fun b1 w1 S1 fr hs hp hF => ?_
 have hM0 := hM0.stp hp
 have hs : Sep [BX b1 25 [I p0.Op, I p0.A, I p0.B, I p0.C]] w1 S1 := hs
 refine q_box hs hM0 [I p1.Op, I p1.A, I p1.B, I p1.C] rfl rfl hF rfl rfl fun b2 w2 S2 fr hs hp hF => ?_
 have hM0 := hM0.stp hp
 have hs : Sep [BX b2 25 [I p1.Op, I p1.A, I p1.B, I p1.C], BX b1 25 [I p0.Op, I p0.A, I p0.B, I p0.C]] w2 S2 := hs
 refine from_pure 1 [(2, B b1 0), (3, B b2 0)] hF (by kernel_rfl) fun fr hF => ?_
 refine from_end rfl (then_normal ?_)
 refine wp_seq ?_
 refine wp_seq (wp_text' ?_)
 refine from_pure 1 [(2, B b1 0), (3, B b2 0), (5, B b1 0)] hF (by kernel_rfl) fun fr hF => ?_
 refine s_loadBox (I p0.Op) ty3 rfl rfl hF rfl (hs.bx 1 rfl) rfl rfl fun fr hF => ?_
 refine from_pure 1 [(2, B b1 0), (3, B b2 0), (6, I p0.Op), (7, B b2 0)] hF (by kernel_rfl) fun fr hF => ?_
 refine s_loadBox (I p1.Op) ty3 rfl rfl hF rfl (hs.bx 0 rfl) rfl rfl fun fr hF => ?_
 refine from_pure 1 [(2, B b1 0), (3, B b2 0), (9, .bool (p0.Op != p1.Op))] hF (by kernel_rfl) fun fr hF => ?_
 refine from_end rfl (then_normal ?_)
 refine (wp_if hF (b := (p0.Op != p1.Op)) rfl (fun hb => ?_) (fun hb => ?_))
 · replace h := iteT hb h
   have hs : Sep [] w2 S2 := Sep.pick [] hs (by decide) rfl
   refine wp_seq (wp_pure [(4, .bool false)] hF (by kernel_rfl) fun fr hF => then_normal ?_)
   obtain rfl := Option.some.inj h
   exact wp_ret (then_ret (ret1 rfl hF rfl ⟨_, rfl, rfl, hM0.chg⟩))
 replace h := iteF hb h
 refine (wp_skip (then_normal ?_))
 refine wp_seq ?_
 refine wp_seq (wp_text' ?_)
 refine from_pure 1 [(2, B b1 0), (3, B b2 0), (10, B b1 1)] hF (by kernel_rfl) fun fr hF => ?_
 refine s_loadBox (I p0.A) ty3 rfl rfl hF rfl (hs.bx 1 rfl) rfl rfl fun fr hF => ?_
 refine from_pure 1 [(2, B b1 0), (3, B b2 0), (11, I p0.A), (12, B b2 1)] hF (by kernel_rfl) fun fr hF => ?_
 refine s_loadBox (I p1.A) ty3 rfl rfl hF rfl (hs.bx 0 rfl) rfl rfl fun fr hF => ?_
 refine from_pure 1 [(2, B b1 0), (3, B b2 0), (14, .bool (p0.A != p1.A))] hF (by kernel_rfl) fun fr hF => ?_
 refine from_end rfl (then_normal ?_)
 refine (wp_if hF (b := (p0.A != p1.A)) rfl (fun hb => ?_) (fun hb => ?_))
 · replace h := iteT hb h
   have hs : Sep [] w2 S2 := Sep.pick [] hs (by decide) rfl
   refine wp_seq (wp_pure [(4, .bool false)] hF (by kernel_rfl) fun fr hF => then_normal ?_)
   obtain rfl := Option.some.inj h
   exact wp_ret (then_ret (ret1 rfl hF rfl ⟨_, rfl, rfl, hM0.chg⟩))
 replace h := iteF hb h
 refine (wp_skip (then_normal ?_))
 refine wp_seq ?_
 refine wp_seq (wp_text' ?_)
 refine from_pure 1 [(2, B b1 0), (3, B b2 0), (15, B b1 2)] hF (by kernel_rfl) fun fr hF => ?_
 refine s_loadBox (I p0.B) ty3 rfl rfl hF rfl (hs.bx 1 rfl) rfl rfl fun fr hF => ?_
 refine from_pure 1 [(2, B b1 0), (3, B b2 0), (16, I p0.B), (17, B b2 2)] hF (by kernel_rfl) fun fr hF => ?_
 refine s_loadBox (I p1.B) ty3 rfl rfl hF rfl (hs.bx 0 rfl) rfl rfl fun fr hF => ?_
 refine from_pure 1 [(2, B b1 0), (3, B b2 0), (19, .bool (p0.B != p1.B))] hF (by kernel_rfl) fun fr hF => ?_
 refine from_end rfl (then_normal ?_)
 refine (wp_if hF (b := (p0.B != p1.B)) rfl (fun hb => ?_) (fun hb => ?_))
 · replace h := iteT hb h
   have hs : Sep [] w2 S2 := Sep.pick [] hs (by decide) rfl
   refine wp_seq (wp_pure [(4, .bool false)] hF (by kernel_rfl) fun fr hF => then_normal ?_)
   obtain rfl := Option.some.inj h
   exact wp_ret (then_ret (ret1 rfl hF rfl ⟨_, rfl, rfl, hM0.chg⟩))
 replace h := iteF hb h
 refine (wp_skip (then_normal ?_))
 refine wp_seq ?_
 refine wp_seq (wp_text' ?_)
 refine from_pure 1 [(3, B b2 0), (20, B b1 3)] hF (by kernel_rfl) fun fr hF => ?_
 refine s_loadBox (I p0.C) ty3 rfl rfl hF rfl (hs.bx 1 rfl) rfl rfl fun fr hF => ?_
 have hs : Sep [BX b2 25 [I p1.Op, I p1.A, I p1.B, I p1.C]] w2 S2 := Sep.pick [0] hs (by decide) rfl
 refine from_pure 1 [(21, I p0.C), (22, B b2 3)] hF (by kernel_rfl) fun fr hF => ?_
 refine s_loadBox (I p1.C) ty3 rfl rfl hF rfl (hs.bx 0 rfl) rfl rfl fun fr hF => ?_
 have hs : Sep [] w2 S2 := Sep.pick [] hs (by decide) rfl
 refine from_pure 1 [(24, .bool (p0.C != p1.C))] hF (by kernel_rfl) fun fr hF => ?_
 refine from_end rfl (then_normal ?_)
 refine (wp_if hF (b := (p0.C != p1.C)) rfl (fun hb => ?_) (fun hb => ?_))
 · replace h := iteT hb h
   refine wp_seq (wp_pure [(4, .bool false)] hF (by kernel_rfl) fun fr hF => then_normal ?_)
   obtain rfl := Option.some.inj h
   exact wp_ret (then_ret (ret1 rfl hF rfl ⟨_, rfl, rfl, hM0.chg⟩))
 replace h := iteF hb h
 refine (wp_skip (then_normal ?_))
 refine wp_seq (wp_pure [(4, .bool true)] hF (by kernel_rfl) fun fr hF => then_normal ?_)
 obtain rfl := Option.some.inj h
 exact wp_ret (ret1 rfl hF rfl ⟨_, rfl, rfl, hM0.chg⟩)

theorem laws_FnExactParseIns_ok (n : Nat) (p0 : Str) (p1 : Int) (p2 : Int) {r : Bool} (h : laws_FnExactParseIns n p0 p1 p2 = some r) {w : World} {G99 : Nat → Prop} (tb : TX Tryd.prog w G99) :
   Calls Tryd.prog 5 [Str.val p0, I p1, I p2].toArray w fun e w' => ∃ v, e = .returned v ∧ v = .bool r ∧ Chg Non w w' := by
 unfold laws_FnExactParseIns at h
 have hs := Sep.nil w Non
 have hM0 : Mem w Non (fun k => (G99 k) ∧ k < w.heap.size) w Non (fun k => (G99 k) ∧ k < w.heap.size) := Mem.start (fun _ h => h.elim) (fun _ h => h.2) (fun _ h => h.elim)
 have tb := tb.sub (F' := (fun k => (G99 k) ∧ k < w.heap.size)) (fun k hk h => ⟨h, hk⟩)
 refine enter (N := 37) Tryd.func5 rfl Tryd.ntmps5 rfl fun fr hF => ?_
 refine wp_seq (wp_pure [(0, Str.val p0), (1, I p1), (2, I p2)] hF (by kernel_rfl) fun fr hF => then_normal ?_)
 refine wp_seq ?_
 refine wp_seq (wp_pure [(0, Str.val p0), (1, I p1), (2, I p2), (13, .bool (decide ((len p0.bytes) > 1048576)))] hF (by kernel_rfl) fun fr hF => then_normal ?_)
 refine (wp_if hF (b := (decide ((len p0.bytes) > 1048576))) rfl (fun hb => ?_) (fun hb => ?_))
 · replace h := iteT hb h
   refine wp_seq (wp_pure [(6, .bool true)] hF (by kernel_rfl) fun fr hF => then_normal ?_)
   obtain rfl := Option.some.inj h
   exact wp_ret (then_ret (ret1 rfl hF rfl ⟨_, rfl, rfl, hM0.chg⟩))
 replace h := iteF hb h
 refine (wp_skip (then_normal ?_))
 refine wp_seq (wp_text' ?_)
 refine from_pure 3 [(0, Str.val p0), (1, I p1), (2, I p2), (15, Str.val p0), (16, I p1), (17, I p2)] hF (by kernel_rfl) fun fr hF => ?_
 obtain ⟨x1, hx1, h⟩ := bindE h
 refine s_call [Str.val p0, I p1, I p2] Tryd.call15 rfl rfl hF rfl (spec_ParseIns_ok n p0 p1 p2 hx1) fun v w1 fr hRes hF => ?_
 obtain ⟨rfl, hc⟩ := hRes
 have tb := tb.ext hc
 have hs := hs.ext hc
 have hM0 := hM0.ext hc
 refine from_pure 3 [(0, Str.val p0), (1, I p1), (2, I p2), (19, .agg #[I x1.1.Op, I x1.1.A, I x1.1.B, I x1.1.C]), (20, .bool x1.2)] hF (by kernel_rfl) fun fr hF => ?_
 refine q_alloc (z := .agg #[I 0, I 0, I 0, I 0]) hs hM0 [I 0, I 0, I 0, I 0] rfl rfl hF (by kernel_rfl) rfl fun b1 w2 S1 fr hs hp hF => ?_
 have tb := tb.stp hM0 hp
 have hM0 := hM0.stp hp
 have hs : Sep [BX b1 25 [I 0, I 0, I 0, I 0]] w2 S1 := hs
 refine q_storeBoxS 0 hs hM0 rfl [I x1.1.Op, I x1.1.A, I x1.1.B, I x1.1.C] rfl hF rfl rfl (by kernel_rfl) rfl rfl rfl fun w3 S2 hs hp hF => ?_
 have tb := tb.stp hM0 hp
 have hM0 := hM0.stp hp
 have hs : Sep [BX b1 25 [I x1.1.Op, I x1.1.A, I x1.1.B, I x1.1.C]] w3 S2 := hs
 refine from_pure 1 [(0, Str.val p0), (1, I p1), (2, I p2), (7, B b1 0), (8, .bool x1.2)] hF (by kernel_rfl) fun fr hF => ?_
 refine from_end rfl (then_normal ?_)
 refine wp_seq (wp_text' ?_)
 refine from_pure 3 [(7, B b1 0), (8, .bool x1.2), (22, Str.val p0), (23, I p1), (24, I p2)] hF (by kernel_rfl) fun fr hF => ?_
 obtain ⟨x2, hx2, h⟩ := bindE h
 refine s_call [Str.val p0, I p1, I p2] Tryd.call16 rfl rfl hF rfl (impl_ParseIns_ok n p0 p1 p2 hx2 tb) fun v w4 fr hRes hF => ?_
 obtain ⟨rfl, hc⟩ := hRes
 have tb := tb.ext hc
 have hs := hs.ext hc
 have hM0 := hM0.ext hc
 refine from_pure 3 [(7, B b1 0), (8, .bool x1.2), (26, .agg #[I x2.1.Op, I x2.1.A, I x2.1.B, I x2.1.C]), (27, .bool x2.2)] hF (by kernel_rfl) fun fr hF => ?_
 refine q_alloc (z := .agg #[I 0, I 0, I 0, I 0]) hs hM0 [I 0, I 0, I 0, I 0] rfl rfl hF (by kernel_rfl) rfl fun b2 w5 S3 fr hs hp hF => ?_
 have tb := tb.stp hM0 hp
 have hM0 := hM0.stp hp
 have hs : Sep [BX b2 25 [I 0, I 0, I 0, I 0], BX b1 25 [I x1.1.Op, I x1.1.A, I x1.1.B, I x1.1.C]] w5 S3 := hs
 refine q_storeBoxS 0 hs hM0 rfl [I x2.1.Op, I x2.1.A, I x2.1.B, I x2.1.C] rfl hF rfl rfl (by kernel_rfl) rfl rfl rfl fun w6 S4 hs hp hF => ?_
 have tb := tb.stp hM0 hp
 have hM0 := hM0.stp hp
 have hs : Sep [BX b2 25 [I x2.1.Op, I x2.1.A, I x2.1.B, I x2.1.C], BX b1 25 [I x1.1.Op, I x1.1.A, I x1.1.B, I x1.1.C]] w6 S4 := hs
 refine from_pure 1 [(7, B b1 0), (8, .bool x1.2), (9, B b2 0), (10, .bool x2.2)] hF (by kernel_rfl) fun fr hF => ?_
 refine from_end rfl (then_normal ?_)
 refine wp_seq ?_
 obtain ⟨x3, hx3, h⟩ := bindE h
 refine wp_seq (region_b [] [false, false, false, true, true, true, true, true, true]
     [.eq (.agg #[I x2.1.Op, I x2.1.A, I x2.1.B, I x2.1.C]), .eq (.agg #[I x1.1.Op, I x1.1.A, I x1.1.B, I x1.1.C]), .eq (.bool x3), .eq (.bool (!x3)), .eq (.bool (!x3)), .eq (.bool x2.2), .eq (.bool x1.2), .eq (.bool (!(x2.2 == x1.2))), .eq (.bool ((!x3) || (!(x2.2 == x1.2))))]
     [(36, .bool ((!x3) || (!(x2.2 == x1.2))))] mix hF (by kernel_rfl) (by kernel_rfl) (by kernel_rfl) ⟨Pd.mono_eq, Pd.mono_eq, Pd.mono_eq, trivial⟩ (fun hG => ⟨np_loadBoxS hG hF ty25 rfl rfl (hs.bx 0 rfl) rfl rfl rfl rfl, np_loadBoxS hG hF ty25 rfl rfl (hs.bx 1 rfl) rfl rfl rfl rfl, np_call [.agg #[I x2.1.Op, I x2.1.A, I x2.1.B, I x2.1.C], .agg #[I x1.1.Op, I x1.1.A, I x1.1.B, I x1.1.C]] hG hF Tryd.call17 rfl rfl (fun w hC hg => (laws_eqIns_ok x2.1 x1.1 hx3).mono fun e w' ⟨v, he, hv, hc⟩ => ⟨v, he, hc, hv⟩), trivial⟩) (by kernel_rfl) fun fr w7 hF hE hc => then_normal ?_)
 have tb := tb.ext hc
 have hs := hs.ext hc
 have hM0 := hM0.ext hc
 have hs : Sep [] w7 S4 := Sep.pick [] hs (by decide) rfl
 refine (wp_if hF (b := ((!x3) || (!(x2.2 == x1.2)))) rfl (fun hb => ?_) (fun hb => ?_))
 · replace h := iteT hb h
   refine wp_seq (wp_pure [(6, .bool false)] hF (by kernel_rfl) fun fr hF => then_normal ?_)
   obtain rfl := Option.some.inj h
   exact wp_ret (then_ret (ret1 rfl hF rfl ⟨_, rfl, rfl, hM0.chg⟩))
 replace h := iteF hb h
 refine (wp_skip (then_normal ?_))
 refine wp_seq (wp_pure [(6, .bool true)] hF (by kernel_rfl) fun fr hF => then_normal ?_)
 obtain rfl := Option.some.inj h
 exact wp_ret (ret1 rfl hF rfl ⟨_, rfl, rfl, hM0.chg⟩)
end Go.Proofs.YtmmhbhhcloobnaaDoor
