/- Printed by gen2.py: the walks. -/
import Derived.Test.YtckeihpjfeonmaaWlkB
set_option linter.unusedVariables false
set_option maxRecDepth 100000
namespace Go.Proofs.Ytckeihpjfeonmaa
open Go.GL Go.Maps Go.WideMaps
theorem laws_FnOperations_ok (n : Nat) (p0 : List Byt) {r : Bool} (h : laws_FnOperations n p0 = some r) {w : World} {G0 : Nat → Prop} {va0 : Value} (ra0 : RV w G0 va0 p0) :
   Calls Try.prog 11 [va0].toArray w fun e w' => ∃ v, e = .returned v ∧ v = .bool r ∧ Chg Non w w' := by
 unfold laws_FnOperations at h
 have hs := Sep.nil w Non
 have hM0 : Mem w Non (fun k => (G0 k) ∧ k < w.heap.size) w Non (fun k => (G0 k) ∧ k < w.heap.size) := Mem.start (fun _ h => h.elim) (fun _ h => h.2) (fun _ h => h.elim)
 have ra0 := ra0.sub (F' := (fun k => (G0 k) ∧ k < w.heap.size)) (fun k hk h => ⟨h, hk⟩)
 obtain ⟨a1, c1, rfl, -⟩ := ra0.slice
 refine enter (N := 130) Try.func11 rfl Try.ntmps11 rfl fun fr hF => ?_
 refine wp_seq (wp_pure [(0, L a1 p0 c1)] hF (by kernel_rfl) fun fr hF => then_normal ?_)
 refine wp_seq ?_
 refine wp_seq (wp_pure [(0, L a1 p0 c1), (18, .bool (decide ((len p0) > 1048576)))] hF (by kernel_rfl) fun fr hF => then_normal ?_)
 refine (wp_if hF (b := (decide ((len p0) > 1048576))) rfl (fun hb => ?_) (fun hb => ?_))
 · replace h := iteT hb h
   refine wp_seq (wp_pure [(2, .bool true)] hF (by kernel_rfl) fun fr hF => then_normal ?_)
   obtain rfl := Option.some.inj h
   exact wp_ret (then_ret (ret1 rfl hF rfl ⟨_, rfl, rfl, hM0.chg⟩))
 replace h := iteF hb h
 refine (wp_skip (then_normal ?_))
 refine wp_seq (wp_text' ?_)
 refine from_pure 1 [(0, L a1 p0 c1), (19, L a1 p0 c1)] hF (by kernel_rfl) fun fr hF => ?_
 obtain ⟨x1, hx1, h⟩ := bindE h
 refine s_call [L a1 p0 c1, I 0] Try.call33 rfl rfl hF rfl (spec_GiveCircuit_ok n p0 0 hx1 (ra0)) fun v w1 fr hRes hF => ?_
 obtain ⟨a2, c2, rfl, _, hp, hs2⟩ := hRes
 obtain ⟨S1, hp, hs⟩ := hs.got hM0 hp hs2
 have ra0 := ra0.stp hM0 hp
 have hM0 := hM0.stp hp
 have hs : Sep [sl59 (L a2 x1.Gates c2) x1.Gates] w1 S1 := hs
 refine q_alloc (z := .agg #[I 0, L none ([] : List D.Gate) 0]) hs hM0 [I 0, L none ([] : List D.Gate) 0] rfl rfl hF (by kernel_rfl) rfl fun b1 w2 S2 fr hs hp hF => ?_
 have ra0 := ra0.stp hM0 hp
 have hM0 := hM0.stp hp
 have hs : Sep [BX b1 28 [I 0, L none ([] : List D.Gate) 0], sl59 (L a2 x1.Gates c2) x1.Gates] w2 S2 := hs
 refine q_storeBoxS 0 hs hM0 rfl [I x1.Inputs, L a2 x1.Gates c2] rfl hF rfl rfl (by kernel_rfl) rfl rfl rfl fun w3 S3 hs hp hF => ?_
 have ra0 := ra0.stp hM0 hp
 have hM0 := hM0.stp hp
 have hs : Sep [BX b1 28 [I x1.Inputs, L a2 x1.Gates c2], sl59 (L a2 x1.Gates c2) x1.Gates] w3 S3 := hs
 refine from_end rfl (then_normal ?_)
 refine wp_seq (wp_text' ?_)
 refine from_pure 1 [(0, L a1 p0 c1), (3, B b1 0), (21, L a1 p0 c1)] hF (by kernel_rfl) fun fr hF => ?_
 obtain ⟨x2, hx2, h⟩ := bindE h
 refine s_call [L a1 p0 c1, I 40, I 1, I 4] Try.call39 rfl rfl hF rfl (spec_GiveSize_ok n p0 40 1 4 hx2 (ra0)) fun v w4 fr hRes hF => ?_
 obtain ⟨rfl, hc⟩ := hRes
 have ra0 := ra0.ext hc
 have hs := hs.ext hc
 have hM0 := hM0.ext hc
 refine from_pure 1 [(0, L a1 p0 c1), (3, B b1 0), (4, I x2)] hF (by kernel_rfl) fun fr hF => ?_
 refine from_end rfl (then_normal ?_)
 refine wp_seq (wp_text' ?_)
 refine q_lit (E := 3) hs hM0 [] (([] : List Int).map Flat.enc) ([] : List Int) rfl rfl hF [] rfl (fun w => by kernel_rfl) (css_flat _) rfl rfl rfl fun a3 c3 w5 S4 fr hs hp hF => ?_
 have ra0 := ra0.stp hM0 hp
 have hM0 := hM0.stp hp
 have hs : Sep [sl3 (L a3 ([] : List Int) c3) ([] : List Int), BX b1 28 [I x1.Inputs, L a2 x1.Gates c2], sl59 (L a2 x1.Gates c2) x1.Gates] w5 S4 := hs
 refine from_pure 1 [(0, L a1 p0 c1), (3, B b1 0), (4, I x2), (5, L a3 ([] : List Int) c3)] hF (by kernel_rfl) fun fr hF => ?_
 refine from_end rfl (then_normal ?_)
 refine wp_seq (wp_text' ?_)
 refine q_lit (E := 3) hs hM0 [] (([] : List Int).map Flat.enc) ([] : List Int) rfl rfl hF [] rfl (fun w => by kernel_rfl) (css_flat _) rfl rfl rfl fun a4 c4 w6 S5 fr hs hp hF => ?_
 have ra0 := ra0.stp hM0 hp
 have hM0 := hM0.stp hp
 have hs : Sep [sl3 (L a4 ([] : List Int) c4) ([] : List Int), sl3 (L a3 ([] : List Int) c3) ([] : List Int), BX b1 28 [I x1.Inputs, L a2 x1.Gates c2], sl59 (L a2 x1.Gates c2) x1.Gates] w6 S5 := hs
 refine from_pure 1 [(0, L a1 p0 c1), (3, B b1 0), (4, I x2), (5, L a3 ([] : List Int) c3), (6, L a4 ([] : List Int) c4)] hF (by kernel_rfl) fun fr hF => ?_
 refine from_end rfl (then_normal ?_)
 refine wp_seq ?_
 refine wp_seq (wp_pure [(0, L a1 p0 c1), (3, B b1 0), (4, I x2), (5, L a3 ([] : List Int) c3), (6, L a4 ([] : List Int) c4), (7, I 0)] hF (by kernel_rfl) fun fr hF => then_normal ?_)
 obtain ⟨rl1, hit1, h⟩ := bindE h
 have hk1 := h
 refine (wp_cut (M := fun fr w' => ∃ a7 c7 a8 c8 S7 F2, FrS 130 [(0, L a1 p0 c1), (3, B b1 0), (4, I x2), (5, L a8 rl1.2 c8), (6, L a7 rl1.1 c7)] fr ∧ Mem w6 S5 (fun k => (G0 k) ∧ k < w.heap.size) w' S7 F2 ∧ Sep [sl3 (L a7 rl1.1 c7) rl1.1, sl3 (L a8 rl1.2 c8) rl1.2, BX b1 28 [I x1.Inputs, L a2 x1.Gates c2], sl59 (L a2 x1.Gates c2) x1.Gates] w' S7) (wp_block (wp_iter (Inv := fun s1 fr w' => ∃ a5 c5 a6 c6 S6 F1, FrS 130 [(0, L a1 p0 c1), (3, B b1 0), (4, I x2), (5, L a6 s1.2.2 c6), (6, L a5 s1.2.1 c5), (7, I s1.1)] fr ∧ Mem w6 S5 (fun k => (G0 k) ∧ k < w.heap.size) w' S6 F1 ∧ Sep [sl3 (L a5 s1.2.1 c5) s1.2.1, sl3 (L a6 s1.2.2 c6) s1.2.2, BX b1 28 [I x1.Inputs, L a2 x1.Gates c2], sl59 (L a2 x1.Gates c2) x1.Gates] w' S6) hit1 ⟨a4, c4, a3, c3, S5, _, hF.sub _ (by kernel_rfl), (Mem.start hM0.bd hM0.bdF hM0.dj), hs⟩ fun s1 q1 fr w1i hI h hr1 => ?_)) fun fr w1o hM => ?_)
 · obtain ⟨a5, c5, a6, c6, S6, F1, hF, hM1, hs⟩ := hI
   have ra0 := ra0.mem hM1
   refine wp_seq ?_
   refine wp_seq (wp_pure [(0, L a1 p0 c1), (3, B b1 0), (4, I x2), (5, L a6 s1.2.2 c6), (6, L a5 s1.2.1 c5), (7, I s1.1), (27, .bool (decide (s1.1 < x2)))] hF (by kernel_rfl) fun fr hF => then_normal ?_)
   refine (wp_if hF (b := (decide (s1.1 < x2))) rfl (fun hb => ?_) (fun hb => ?_))
   · replace h := iteT hb h
     refine (wp_skip (then_normal ?_))
     refine wp_seq (wp_block ?_)
     refine wp_seq (wp_text' ?_)
     refine from_pure 4 [(0, L a1 p0 c1), (3, B b1 0), (4, I x2), (6, L a5 s1.2.1 c5), (7, I s1.1), (30, L a6 s1.2.2 c6), (31, L a1 p0 c1), (33, I (w64 (50 + s1.1)))] hF (by kernel_rfl) fun fr hF => ?_
     refine s_loadBoxS ty28 rfl rfl hF rfl (hs.bx 2 rfl) rfl rfl fun fr hF => ?_
     obtain ⟨x3, hx3, h⟩ := bindE h
     refine s_call [L a1 p0 c1, I (w64 (50 + s1.1)), .agg #[I x1.Inputs, L a2 x1.Gates c2]] Try.call34 rfl rfl hF rfl (spec_GiveLit_ok n p0 (w64 (50 + s1.1)) x1 hx3 (ra0) (RV.mk_Circuit x1 (RV.any (hs.rv 3 rfl)))) fun v w7 fr hRes hF => ?_
     obtain ⟨rfl, hc⟩ := hRes
     have ra0 := ra0.ext hc
     have hs := hs.ext hc
     have hM1 := hM1.ext hc
     refine q_lit (E := 3) hs hM1 [I x3] (([x3] : List Int).map Flat.enc) ([x3] : List Int) rfl rfl hF [I x3] rfl (fun w => by kernel_rfl) (css_flat _) rfl rfl rfl fun a9 c9 w8 S8 fr hs hp hF => ?_
     have ra0 := ra0.stp hM1 hp
     have hM1 := hM1.stp hp
     have hs : Sep [sl3 (L a9 ([x3] : List Int) c9) ([x3] : List Int), sl3 (L a5 s1.2.1 c5) s1.2.1, sl3 (L a6 s1.2.2 c6) s1.2.2, BX b1 28 [I x1.Inputs, L a2 x1.Gates c2], sl59 (L a2 x1.Gates c2) x1.Gates] w8 S8 := hs
     obtain ⟨x4, hx4, h⟩ := bindE h
     refine q_append 2 hs hM1 rfl Try.underlying37 el3 rfl rfl rfl hF rfl rfl (hs.rv 0 rfl) hx4 fun a10 c10 w9 S9 fr hs hp hF => ?_
     have ra0 := ra0.stp hM1 hp
     have hM1 := hM1.stp hp
     have hs : Sep [sl3 (L a9 ([x3] : List Int) c9) ([x3] : List Int), sl3 (L a5 s1.2.1 c5) s1.2.1, sl3 (L a10 x4 c10) x4, BX b1 28 [I x1.Inputs, L a2 x1.Gates c2], sl59 (L a2 x1.Gates c2) x1.Gates] w9 S9 := hs
     have hs : Sep [sl3 (L a5 s1.2.1 c5) s1.2.1, sl3 (L a10 x4 c10) x4, BX b1 28 [I x1.Inputs, L a2 x1.Gates c2], sl59 (L a2 x1.Gates c2) x1.Gates] w9 S9 := Sep.pick [1, 2, 3, 4] hs (by decide) rfl
     refine from_pure 1 [(0, L a1 p0 c1), (3, B b1 0), (4, I x2), (5, L a10 x4 c10), (6, L a5 s1.2.1 c5), (7, I s1.1)] hF (by kernel_rfl) fun fr hF => ?_
     refine from_end rfl (then_normal ?_)
     refine (wp_text' ?_)
     refine from_pure 4 [(0, L a1 p0 c1), (3, B b1 0), (4, I x2), (5, L a10 x4 c10), (7, I s1.1), (38, L a5 s1.2.1 c5), (39, L a1 p0 c1), (41, I (w64 (60 + s1.1)))] hF (by kernel_rfl) fun fr hF => ?_
     refine s_loadBoxS ty28 rfl rfl hF rfl (hs.bx 2 rfl) rfl rfl fun fr hF => ?_
     obtain ⟨x5, hx5, h⟩ := bindE h
     refine s_call [L a1 p0 c1, I (w64 (60 + s1.1)), .agg #[I x1.Inputs, L a2 x1.Gates c2]] Try.call34 rfl rfl hF rfl (spec_GiveLit_ok n p0 (w64 (60 + s1.1)) x1 hx5 (ra0) (RV.mk_Circuit x1 (RV.any (hs.rv 3 rfl)))) fun v w10 fr hRes hF => ?_
     obtain ⟨rfl, hc⟩ := hRes
     have ra0 := ra0.ext hc
     have hs := hs.ext hc
     have hM1 := hM1.ext hc
     refine q_lit (E := 3) hs hM1 [I x5] (([x5] : List Int).map Flat.enc) ([x5] : List Int) rfl rfl hF [I x5] rfl (fun w => by kernel_rfl) (css_flat _) rfl rfl rfl fun a11 c11 w11 S10 fr hs hp hF => ?_
     have ra0 := ra0.stp hM1 hp
     have hM1 := hM1.stp hp
     have hs : Sep [sl3 (L a11 ([x5] : List Int) c11) ([x5] : List Int), sl3 (L a5 s1.2.1 c5) s1.2.1, sl3 (L a10 x4 c10) x4, BX b1 28 [I x1.Inputs, L a2 x1.Gates c2], sl59 (L a2 x1.Gates c2) x1.Gates] w11 S10 := hs
     obtain ⟨x6, hx6, h⟩ := bindE h
     refine q_append 1 hs hM1 rfl Try.underlying37 el3 rfl rfl rfl hF rfl rfl (hs.rv 0 rfl) hx6 fun a12 c12 w12 S11 fr hs hp hF => ?_
     have ra0 := ra0.stp hM1 hp
     have hM1 := hM1.stp hp
     have hs : Sep [sl3 (L a11 ([x5] : List Int) c11) ([x5] : List Int), sl3 (L a12 x6 c12) x6, sl3 (L a10 x4 c10) x4, BX b1 28 [I x1.Inputs, L a2 x1.Gates c2], sl59 (L a2 x1.Gates c2) x1.Gates] w12 S11 := hs
     have hs : Sep [sl3 (L a12 x6 c12) x6, sl3 (L a10 x4 c10) x4, BX b1 28 [I x1.Inputs, L a2 x1.Gates c2], sl59 (L a2 x1.Gates c2) x1.Gates] w12 S11 := Sep.pick [1, 2, 3, 4] hs (by decide) rfl
     refine from_pure 1 [(0, L a1 p0 c1), (3, B b1 0), (4, I x2), (5, L a10 x4 c10), (6, L a12 x6 c12), (7, I s1.1)] hF (by kernel_rfl) fun fr hF => ?_
     refine from_end rfl ?_
     refine blk_normal (then_normal ?_)
     refine (wp_pure [(0, L a1 p0 c1), (3, B b1 0), (4, I x2), (5, L a10 x4 c10), (6, L a12 x6 c12), (7, I (w64 (s1.1 + 1)))] hF (by kernel_rfl) fun fr hF => then_normal ?_)
     exact ⟨_, (Option.some.inj h).symm, a12, c12, a10, c10, S11, _, hF.sub _ (by kernel_rfl), hM1, hs⟩
   replace h := iteF hb h
   refine (wp_exit (then_exit (then_exit (blk_exit_eq ?_))))
   obtain rfl := hr1 _ (Option.some.inj h).symm
   exact then_normal ⟨a5, c5, a6, c6, S6, _, hF.sub _ (by kernel_rfl), hM1, hs⟩
 · obtain ⟨a7, c7, a8, c8, S7, F2, hF, hMx, hs⟩ := hM
   have ra0 := ra0.mem hMx
   have hM0 := hM0.trans hMx
   refine wp_seq (wp_text' ?_)
   refine from_pure 1 [(3, B b1 0), (4, I x2), (5, L a8 rl1.2 c8), (6, L a7 rl1.1 c7), (46, L a1 p0 c1)] hF (by kernel_rfl) fun fr hF => ?_
   obtain ⟨x7, hx7, h⟩ := bindE h
   refine s_call [L a1 p0 c1, I 42, I 3, I 16] Try.call39 rfl rfl hF rfl (spec_GiveSize_ok n p0 42 3 16 hx7 (ra0)) fun v w13 fr hRes hF => ?_
   obtain ⟨rfl, hc⟩ := hRes
   have ra0 := ra0.ext hc
   have hs := hs.ext hc
   have hM0 := hM0.ext hc
   refine from_pure 1 [(3, B b1 0), (4, I x2), (5, L a8 rl1.2 c8), (6, L a7 rl1.1 c7), (8, I x7)] hF (by kernel_rfl) fun fr hF => ?_
   refine from_end rfl (then_normal ?_)
   refine wp_seq (wp_text' ?_)
   refine s_loadBoxS ty28 rfl rfl hF rfl (hs.bx 2 rfl) rfl rfl fun fr hF => ?_
   refine from_pure 3 [(3, B b1 0), (4, I x2), (5, L a8 rl1.2 c8), (6, L a7 rl1.1 c7), (8, I x7), (49, .agg #[I x1.Inputs, L a2 x1.Gates c2]), (50, I x7), (51, L a8 rl1.2 c8), (52, L a7 rl1.1 c7)] hF (by kernel_rfl) fun fr hF => ?_
   obtain ⟨x8, hx8, h⟩ := bindE h
   refine s_call [.agg #[I x1.Inputs, L a2 x1.Gates c2], I x7, L a8 rl1.2 c8, L a7 rl1.1 c7] Try.call32 rfl rfl hF rfl (impl_OpLits_ok n x1 x7 rl1.2 rl1.1 hx8 (RV.mk_Circuit x1 (RV.any (hs.rv 3 rfl))) (hs.rv 1 rfl) (hs.rv 0 rfl)) fun v w14 fr hRes hF => ?_
   obtain ⟨a13, c13, a14, c14, rfl, _, hp, hs2⟩ := hRes
   obtain ⟨S12, hp, hs⟩ := hs.got hM0 hp hs2
   have hM0 := hM0.stp hp
   have hs : Sep [sl59 (L a13 x8.1.Gates c13) x8.1.Gates, sl3 (L a14 x8.2.1 c14) x8.2.1, sl3 (L a7 rl1.1 c7) rl1.1, sl3 (L a8 rl1.2 c8) rl1.2, BX b1 28 [I x1.Inputs, L a2 x1.Gates c2], sl59 (L a2 x1.Gates c2) x1.Gates] w14 S12 := hs
   refine from_pure 4 [(3, B b1 0), (4, I x2), (5, L a8 rl1.2 c8), (6, L a7 rl1.1 c7), (8, I x7), (54, .agg #[I x8.1.Inputs, L a13 x8.1.Gates c13]), (55, L a14 x8.2.1 c14), (56, .bool x8.2.2)] hF (by kernel_rfl) fun fr hF => ?_
   refine q_alloc (z := .agg #[I 0, L none ([] : List D.Gate) 0]) hs hM0 [I 0, L none ([] : List D.Gate) 0] rfl rfl hF (by kernel_rfl) rfl fun b2 w15 S13 fr hs hp hF => ?_
   have hM0 := hM0.stp hp
   have hs : Sep [BX b2 28 [I 0, L none ([] : List D.Gate) 0], sl59 (L a13 x8.1.Gates c13) x8.1.Gates, sl3 (L a14 x8.2.1 c14) x8.2.1, sl3 (L a7 rl1.1 c7) rl1.1, sl3 (L a8 rl1.2 c8) rl1.2, BX b1 28 [I x1.Inputs, L a2 x1.Gates c2], sl59 (L a2 x1.Gates c2) x1.Gates] w15 S13 := hs
   refine q_storeBoxS 0 hs hM0 rfl [I x8.1.Inputs, L a13 x8.1.Gates c13] rfl hF rfl rfl (by kernel_rfl) rfl rfl rfl fun w16 S14 hs hp hF => ?_
   have hM0 := hM0.stp hp
   have hs : Sep [BX b2 28 [I x8.1.Inputs, L a13 x8.1.Gates c13], sl59 (L a13 x8.1.Gates c13) x8.1.Gates, sl3 (L a14 x8.2.1 c14) x8.2.1, sl3 (L a7 rl1.1 c7) rl1.1, sl3 (L a8 rl1.2 c8) rl1.2, BX b1 28 [I x1.Inputs, L a2 x1.Gates c2], sl59 (L a2 x1.Gates c2) x1.Gates] w16 S14 := hs
   refine from_pure 2 [(3, B b1 0), (4, I x2), (5, L a8 rl1.2 c8), (6, L a7 rl1.1 c7), (8, I x7), (9, B b2 0), (10, L a14 x8.2.1 c14), (11, .bool x8.2.2)] hF (by kernel_rfl) fun fr hF => ?_
   refine from_end rfl (then_normal ?_)
   refine wp_seq ?_
   obtain ⟨x9, hx9, h⟩ := bindE h
   obtain ⟨x10, hx10, h⟩ := bindE h
   refine wp_seq (region_b [] [true, true, true, false, false, true, true, true, true, false, true, false, true, true, true, true, false, true, true, false, true, true, true, true, true, true, true, true, false, true, true]
       (.eq (.bool x8.2.2) :: .eq (.bool (!x8.2.2)) :: .eq (.bool (!x8.2.2)) :: .eq (.agg #[I x8.1.Inputs, L a13 x8.1.Gates c13]) :: .eq (.bool x9) :: .eq (.bool (!x9)) :: .eq (.bool ((!x8.2.2) || (!x9))) :: .eq (.bool ((!x8.2.2) || (!x9))) :: .eq (B b2 0) :: .eq (I x8.1.Inputs) :: .eq (B b1 0) :: .eq (I x1.Inputs) :: .eq (.bool (x8.1.Inputs != x1.Inputs)) :: .eq (.bool (((!x8.2.2) || (!x9)) || (x8.1.Inputs != x1.Inputs))) :: .eq (.bool (((!x8.2.2) || (!x9)) || (x8.1.Inputs != x1.Inputs))) :: .eq (B b2 1) :: .eq (L a13 x8.1.Gates c13) :: .eq (I (len x8.1.Gates)) :: .eq (B b1 1) :: .eq (L a2 x1.Gates c2) :: .eq (I (len x1.Gates)) :: .eq (.bool (decide ((len x8.1.Gates) < (len x1.Gates)))) :: .eq (.bool ((((!x8.2.2) || (!x9)) || (x8.1.Inputs != x1.Inputs)) || (decide ((len x8.1.Gates) < (len x1.Gates))))) :: .eq (.bool ((((!x8.2.2) || (!x9)) || (x8.1.Inputs != x1.Inputs)) || (decide ((len x8.1.Gates) < (len x1.Gates))))) :: .eq (L a14 x8.2.1 c14) :: .eq (I (len x8.2.1)) :: .eq (I x7) :: .eq (I x2) :: .eq (I x10) :: .eq (.bool ((len x8.2.1) != x10)) :: .eq (.bool (((((!x8.2.2) || (!x9)) || (x8.1.Inputs != x1.Inputs)) || (decide ((len x8.1.Gates) < (len x1.Gates)))) || ((len x8.2.1) != x10))) :: [])
       [(3, B b1 0), (4, I x2), (5, L a8 rl1.2 c8), (6, L a7 rl1.1 c7), (8, I x7), (9, B b2 0), (10, L a14 x8.2.1 c14), (87, .bool (((((!x8.2.2) || (!x9)) || (x8.1.Inputs != x1.Inputs)) || (decide ((len x8.1.Gates) < (len x1.Gates)))) || ((len x8.2.1) != x10)))] mix hF (by kernel_rfl) (by kernel_rfl) (by kernel_rfl) ⟨Pd.mono_eq, Pd.mono_eq, Pd.mono_eq, Pd.mono_eq, Pd.mono_eq, Pd.mono_eq, Pd.mono_eq, trivial⟩ (fun hG => ⟨np_loadBoxS hG hF ty28 rfl rfl (hs.bx 0 rfl) rfl rfl rfl rfl, np_call [.agg #[I x8.1.Inputs, L a13 x8.1.Gates c13]] hG hF Try.call35 rfl rfl (fun w hC hg => (impl_CircuitOk_ok n x8.1 (iteF hg.2 hx9) ((RV.mk_Circuit x8.1 (RV.any (hs.rv 1 rfl))).ext hC)).mono fun e w' ⟨v, he, hv, hc⟩ => ⟨v, he, hc, hv⟩), np_loadBox hG hF ty3 rfl rfl (hs.bx 0 rfl) rfl rfl rfl, np_loadBox hG hF ty3 rfl rfl (hs.bx 5 rfl) rfl rfl rfl, np_loadBox hG hF ty26 rfl rfl (hs.bx 0 rfl) rfl rfl rfl, np_loadBox hG hF ty26 rfl rfl (hs.bx 5 rfl) rfl rfl rfl, np_call [I x7, I x2] hG hF Try.call40 rfl rfl (fun w hC hg => (spec_ResultWidth_ok x7 x2 (iteF hg.2 hx10)).mono fun e w' ⟨v, he, hv, hc⟩ => ⟨v, he, hc, hv⟩), trivial⟩) (by kernel_rfl) fun fr w17 hF hE hc => then_normal ?_)
   have hs := hs.ext hc
   have hM0 := hM0.ext hc
   refine (wp_if hF (b := (((((!x8.2.2) || (!x9)) || (x8.1.Inputs != x1.Inputs)) || (decide ((len x8.1.Gates) < (len x1.Gates)))) || ((len x8.2.1) != x10))) rfl (fun hb => ?_) (fun hb => ?_))
   · replace h := iteT hb h
     have hs : Sep [] w17 S14 := Sep.pick [] hs (by decide) rfl
     refine wp_seq (wp_pure [(2, .bool false)] hF (by kernel_rfl) fun fr hF => then_normal ?_)
     obtain rfl := Option.some.inj h
     exact wp_ret (then_ret (ret1 rfl hF rfl ⟨_, rfl, rfl, hM0.chg⟩))
   replace h := iteF hb h
   refine (wp_skip (then_normal ?_))
   refine wp_seq ?_
   refine wp_seq (wp_text' ?_)
   refine from_pure 1 [(3, B b1 0), (4, I x2), (5, L a8 rl1.2 c8), (6, L a7 rl1.1 c7), (8, I x7), (9, B b2 0), (10, L a14 x8.2.1 c14), (88, B b1 1)] hF (by kernel_rfl) fun fr hF => ?_
   refine s_loadBox (L a2 x1.Gates c2) ty26 rfl rfl hF rfl (hs.bx 5 rfl) rfl rfl fun fr hF => ?_
   refine from_pure 2 [(3, B b1 0), (4, I x2), (5, L a8 rl1.2 c8), (6, L a7 rl1.1 c7), (8, I x7), (9, B b2 0), (10, L a14 x8.2.1 c14), (89, L a2 x1.Gates c2), (90, I (len x1.Gates)), (91, I 0)] hF (by kernel_rfl) fun fr hF => ?_
   refine from_end rfl (then_normal ?_)
   obtain ⟨rl2, hit2, h⟩ := bindE h
   have hk2 := h
   refine (wp_cut (M := fun fr w' => ∃ s, rl2 = .inl s ∧ ∃ S16 F4, FrS 130 [(3, B b1 0), (4, I x2), (5, L a8 rl1.2 c8), (6, L a7 rl1.1 c7), (8, I x7), (9, B b2 0), (10, L a14 x8.2.1 c14)] fr ∧ Mem w17 S14 F2 w' S16 F4 ∧ Sep [BX b2 28 [I x8.1.Inputs, L a13 x8.1.Gates c13], sl59 (L a13 x8.1.Gates c13) x8.1.Gates, sl3 (L a14 x8.2.1 c14) x8.2.1, sl3 (L a7 rl1.1 c7) rl1.1, sl3 (L a8 rl1.2 c8) rl1.2, BX b1 28 [I x1.Inputs, L a2 x1.Gates c2], sl59 (L a2 x1.Gates c2) x1.Gates] w' S16) (wp_block (wp_iter (Inv := fun s2 fr w' => ∃ S15 F3, FrS 130 [(3, B b1 0), (4, I x2), (5, L a8 rl1.2 c8), (6, L a7 rl1.1 c7), (8, I x7), (9, B b2 0), (10, L a14 x8.2.1 c14), (89, L a2 x1.Gates c2), (90, I (len x1.Gates)), (91, I s2)] fr ∧ Mem w17 S14 F2 w' S15 F3 ∧ Sep [BX b2 28 [I x8.1.Inputs, L a13 x8.1.Gates c13], sl59 (L a13 x8.1.Gates c13) x8.1.Gates, sl3 (L a14 x8.2.1 c14) x8.2.1, sl3 (L a7 rl1.1 c7) rl1.1, sl3 (L a8 rl1.2 c8) rl1.2, BX b1 28 [I x1.Inputs, L a2 x1.Gates c2], sl59 (L a2 x1.Gates c2) x1.Gates] w' S15) hit2 ⟨S14, _, hF.sub _ (by kernel_rfl), (Mem.start hM0.bd hM0.bdF hM0.dj), hs⟩ fun s2 q2 fr w2i hI h hr2 => ?_)) fun fr w2o hM => ?_)
   · obtain ⟨S15, F3, hF, hM1, hs⟩ := hI
     refine wp_seq (wp_pure [(3, B b1 0), (4, I x2), (5, L a8 rl1.2 c8), (6, L a7 rl1.1 c7), (8, I x7), (9, B b2 0), (10, L a14 x8.2.1 c14), (89, L a2 x1.Gates c2), (90, I (len x1.Gates)), (91, I s2), (92, .bool (decide (s2 < (len x1.Gates))))] hF (by kernel_rfl) fun fr hF => then_normal ?_)
     refine wp_seq (wp_if hF (b := (decide (s2 < (len x1.Gates)))) rfl (fun hb => ?_) (fun hb => ?_))
     · replace h := iteT hb h
       refine (wp_skip (then_normal ?_))
       refine wp_seq (wp_block ?_)
       refine wp_seq (wp_text' ?_)
       refine from_pure 1 [(3, B b1 0), (4, I x2), (5, L a8 rl1.2 c8), (6, L a7 rl1.1 c7), (8, I x7), (9, B b2 0), (10, L a14 x8.2.1 c14), (89, L a2 x1.Gates c2), (90, I (len x1.Gates)), (91, I s2), (93, I s2)] hF (by kernel_rfl) fun fr hF => ?_
       obtain ⟨x11, hx11, h⟩ := bindE h
       refine s_elemF (z := x11) (.agg #[I x11.A, I x11.B]) ty59 Try.underlying26 rfl rfl rfl rfl rfl hF rfl (hs.rv 6 rfl) rfl (get?_nn hx11) (get?_at hx11) rfl fun p fr hF => ?_
       refine q_alloc (z := .agg #[I 0, I 0]) hs hM1 [I 0, I 0] rfl rfl hF (by kernel_rfl) rfl fun b3 w18 S17 fr hs hp hF => ?_
       have hM1 := hM1.stp hp
       have hs : Sep [BX b3 59 [I 0, I 0], BX b2 28 [I x8.1.Inputs, L a13 x8.1.Gates c13], sl59 (L a13 x8.1.Gates c13) x8.1.Gates, sl3 (L a14 x8.2.1 c14) x8.2.1, sl3 (L a7 rl1.1 c7) rl1.1, sl3 (L a8 rl1.2 c8) rl1.2, BX b1 28 [I x1.Inputs, L a2 x1.Gates c2], sl59 (L a2 x1.Gates c2) x1.Gates] w18 S17 := hs
       refine from_pure 1 [(3, B b1 0), (4, I x2), (5, L a8 rl1.2 c8), (6, L a7 rl1.1 c7), (8, I x7), (9, B b2 0), (10, L a14 x8.2.1 c14), (12, I s2), (13, B b3 0), (89, L a2 x1.Gates c2), (90, I (len x1.Gates)), (91, I s2), (95, .agg #[I x11.A, I x11.B])] hF (by kernel_rfl) fun fr hF => ?_
       refine q_storeBoxS 0 hs hM1 rfl [I x11.A, I x11.B] rfl hF rfl rfl (by kernel_rfl) rfl rfl rfl fun w19 S18 hs hp hF => ?_
       have hM1 := hM1.stp hp
       have hs : Sep [BX b3 59 [I x11.A, I x11.B], BX b2 28 [I x8.1.Inputs, L a13 x8.1.Gates c13], sl59 (L a13 x8.1.Gates c13) x8.1.Gates, sl3 (L a14 x8.2.1 c14) x8.2.1, sl3 (L a7 rl1.1 c7) rl1.1, sl3 (L a8 rl1.2 c8) rl1.2, BX b1 28 [I x1.Inputs, L a2 x1.Gates c2], sl59 (L a2 x1.Gates c2) x1.Gates] w19 S18 := hs
       refine from_end rfl (then_normal ?_)
       obtain ⟨x12, hx12, h⟩ := bindE h
       refine wp_seq (region_bm 7 [0, 1, 0, 7, 15, 0, 63] [true, false, true, false, false, false, false]
           [.eq (B b2 1), .eq (L a13 x8.1.Gates c13), .eq (I s2), .is fun v w => ElemP w (fun k => k < w19.heap.size) v (x12 : D.Gate), .eq (.agg #[I x12.A, I x12.B]), .eq (.agg #[I x11.A, I x11.B]), .eq (.bool (!decide (x12 = x11)))]
           [(3, B b1 0), (4, I x2), (5, L a8 rl1.2 c8), (6, L a7 rl1.1 c7), (8, I x7), (9, B b2 0), (10, L a14 x8.2.1 c14), (89, L a2 x1.Gates c2), (90, I (len x1.Gates)), (91, I s2), (102, .bool (!decide (x12 = x11)))] mix hF (by kernel_rfl) (by kernel_rfl) (by kernel_rfl) (by kernel_rfl) ⟨Pd.monoO_eq, (Pd.monoO_is mono_elem), Pd.monoO_eq, Pd.monoO_eq, Pd.monoO_eq, trivial⟩ (fun ow hG => ⟨np_to ow (np_loadBox hG hF ty26 rfl rfl (hs.bx 1 rfl) rfl rfl rfl), np_to ow (np_index hG hF ty59 Try.underlying26 rfl rfl (RV.sub (hs.rv 2 rfl) fun k hk _ => hk) rfl rfl (fun hg => ⟨get?_nn hx12, get?_at hx12⟩)), np_to ow (np_loadF (z := x12) (i := 3) hG hF ty59 rfl rfl rfl rfl rfl rfl rfl), np_to ow (np_loadBoxS hG hF ty59 rfl rfl (hs.bx 0 rfl) rfl rfl rfl rfl), np_to ow (np_bin hG hF rfl rfl rfl (fun w => neg59 _ _ _ _ w) (fun _ w => ne59 x12 x11 w) rfl), trivial⟩) (by kernel_rfl) fun ow fr w20 hF hE hc => ?_)
       have hs := hs.ext hc
       have hM1 := hM1.ext hc
       have hs : Sep [BX b2 28 [I x8.1.Inputs, L a13 x8.1.Gates c13], sl59 (L a13 x8.1.Gates c13) x8.1.Gates, sl3 (L a14 x8.2.1 c14) x8.2.1, sl3 (L a7 rl1.1 c7) rl1.1, sl3 (L a8 rl1.2 c8) rl1.2, BX b1 28 [I x1.Inputs, L a2 x1.Gates c2], sl59 (L a2 x1.Gates c2) x1.Gates] w20 S18 := Sep.pick [1, 2, 3, 4, 5, 6, 7] hs (by decide) rfl
       refine from_end rfl (then_normal ?_)
       refine (wp_if hF (b := (!decide (x12 = x11))) rfl (fun hb => ?_) (fun hb => ?_))
       · replace h := iteT hb h
         have hs : Sep [] w20 S18 := Sep.pick [] hs (by decide) rfl
         refine wp_seq (wp_pure [(2, .bool false)] hF (by kernel_rfl) fun fr hF => then_normal ?_)
         obtain rfl := hr2 _ (Option.some.inj h).symm
         obtain rfl := Option.some.inj hk2
         exact wp_ret (blk_ret (then_ret (then_ret (blk_ret (then_ret (ret1 rfl hF rfl ⟨_, rfl, rfl, (hM0.trans hM1).chg⟩))))))
       replace h := iteF hb h
       refine (wp_skip ?_)
       refine blk_normal (then_normal ?_)
       refine (wp_pure [(3, B b1 0), (4, I x2), (5, L a8 rl1.2 c8), (6, L a7 rl1.1 c7), (8, I x7), (9, B b2 0), (10, L a14 x8.2.1 c14), (89, L a2 x1.Gates c2), (90, I (len x1.Gates)), (91, I (w64 (s2 + 1)))] hF (by kernel_rfl) fun fr hF => then_normal ?_)
       exact ⟨_, (Option.some.inj h).symm, S18, _, hF.sub _ (by kernel_rfl), hM1, hs⟩
     replace h := iteF hb h
     refine (wp_exit (then_exit (then_exit (blk_exit_eq ?_))))
     obtain rfl := hr2 _ (Option.some.inj h).symm
     exact then_normal ⟨_, rfl, S15, _, hF.sub _ (by kernel_rfl), hM1, hs⟩
   · obtain ⟨s2r, rfl, hM⟩ := hM
     obtain ⟨S16, F4, hF, hMx, hs⟩ := hM
     have hM0 := hM0.trans hMx
     refine wp_seq ?_
     refine wp_seq (wp_pure [(3, B b1 0), (4, I x2), (5, L a8 rl1.2 c8), (6, L a7 rl1.1 c7), (8, I x7), (9, B b2 0), (10, L a14 x8.2.1 c14), (14, I 0)] hF (by kernel_rfl) fun fr hF => then_normal ?_)
     obtain ⟨rl3, hit3, h⟩ := bindE h
     have hk3 := h
     refine (wp_cut (M := fun fr w' => ∃ s, rl3 = .inl s ∧ ∃ S20 F6, FrS 130 [] fr ∧ Mem w2o S16 F4 w' S20 F6 ∧ Sep [] w' S20) (wp_block (wp_iter (Inv := fun s3 fr w' => ∃ S19 F5, FrS 130 [(3, B b1 0), (4, I x2), (5, L a8 rl1.2 c8), (6, L a7 rl1.1 c7), (8, I x7), (9, B b2 0), (10, L a14 x8.2.1 c14), (14, I s3)] fr ∧ Mem w2o S16 F4 w' S19 F5 ∧ Sep [BX b2 28 [I x8.1.Inputs, L a13 x8.1.Gates c13], sl59 (L a13 x8.1.Gates c13) x8.1.Gates, sl3 (L a14 x8.2.1 c14) x8.2.1, sl3 (L a7 rl1.1 c7) rl1.1, sl3 (L a8 rl1.2 c8) rl1.2, BX b1 28 [I x1.Inputs, L a2 x1.Gates c2], sl59 (L a2 x1.Gates c2) x1.Gates] w' S19) hit3 ⟨S16, _, hF.sub _ (by kernel_rfl), (Mem.start hM0.bd hM0.bdF hM0.dj), hs⟩ fun s3 q3 fr w3i hI h hr3 => ?_)) fun fr w3o hM => ?_)
     · obtain ⟨S19, F5, hF, hM1, hs⟩ := hI
       refine wp_seq ?_
       refine wp_seq (wp_text' ?_)
       refine from_pure 2 [(3, B b1 0), (4, I x2), (5, L a8 rl1.2 c8), (6, L a7 rl1.1 c7), (8, I x7), (9, B b2 0), (10, L a14 x8.2.1 c14), (14, I s3), (104, I s3), (105, B b1 0)] hF (by kernel_rfl) fun fr hF => ?_
       refine s_loadBox (I x1.Inputs) ty3 rfl rfl hF rfl (hs.bx 5 rfl) rfl rfl fun fr hF => ?_
       obtain ⟨x13, hx13, h⟩ := bindE h
       refine s_shl rfl rfl hF rfl rfl hx13 fun fr hF => ?_
       refine from_pure 1 [(3, B b1 0), (4, I x2), (5, L a8 rl1.2 c8), (6, L a7 rl1.1 c7), (8, I x7), (9, B b2 0), (10, L a14 x8.2.1 c14), (14, I s3), (108, .bool (decide (s3 < x13)))] hF (by kernel_rfl) fun fr hF => ?_
       refine from_end rfl (then_normal ?_)
       refine (wp_if hF (b := (decide (s3 < x13))) rfl (fun hb => ?_) (fun hb => ?_))
       · replace h := iteT hb h
         refine (wp_skip (then_normal ?_))
         refine wp_seq (wp_block ?_)
         obtain ⟨x14, hx14, h⟩ := bindE h
         refine wp_seq (region_bm 5 [0, 0, 2, 0, 14, 31, 63] [false, true, false, true, false]
             [.eq (.agg #[I x8.1.Inputs, L a13 x8.1.Gates c13]), .eq (B b1 0), .eq (I x1.Inputs), .eq (I s3), .own fun ow v w => ∃ i : Option Addr × Nat, v = L i.1 x14 i.2 ∧ (sl4 (L i.1 x14 i.2) x14).ok w (fun k => w3i.heap.size ≤ k ∧ k < w.heap.size ∧ ow k = 4), .any, .any]
             [(3, B b1 0), (4, I x2), (5, L a8 rl1.2 c8), (6, L a7 rl1.1 c7), (8, I x7), (9, B b2 0), (10, L a14 x8.2.1 c14), (14, I s3), (111, .agg #[I x8.1.Inputs, L a13 x8.1.Gates c13])] mix hF (by kernel_rfl) (by kernel_rfl) (by kernel_rfl) (by kernel_rfl) ⟨Pd.monoO_eq, Pd.monoO_eq, mono_new, trivial⟩ (fun ow hG => ⟨np_to ow (np_loadBoxS hG hF ty28 rfl rfl (hs.bx 0 rfl) rfl rfl rfl rfl), np_to ow (np_loadBox hG hF ty3 rfl rfl (hs.bx 5 rfl) rfl rfl rfl), np_callN (V := fun i : Option Addr × Nat => L i.1 x14 i.2) (H := fun i => SL 4 (L i.1 x14 i.2) x14) [.inl (I x1.Inputs), .inl (I s3)] hG hF Try.call37 rfl rfl (by kernel_rfl) rfl (fun w vs hC hg ha => by obtain ⟨_, rfl, _, rfl, rfl⟩ := ha; exact (laws_bools_ok n x1.Inputs s3 hx14).mono fun e w' ⟨v, he, a0, c0, hv, _, hp, ho⟩ => ⟨v, he, hp.chg, (a0, c0), hv, sep_one hp ho⟩), trivial⟩) (by kernel_rfl) fun ow fr w21 hF hE hc => ?_)
         obtain ⟨⟨a15, c15⟩, hv, hnw4⟩ := hE.is 115 4 rfl rfl
         have hF := hF.cons hv
         have hsN := sepO (w0 := w3i) (ow := ow) [(4, sl4 (L a15 x14 c15) x14)] (show ([4] : List Nat).Nodup by decide) ⟨hnw4, trivial⟩ rfl
         obtain ⟨S21, hp, hs⟩ := hs.got hM1 (stp_new hc) hsN
         have hM1 := hM1.stp hp
         have hs : Sep [sl4 (L a15 x14 c15) x14, BX b2 28 [I x8.1.Inputs, L a13 x8.1.Gates c13], sl59 (L a13 x8.1.Gates c13) x8.1.Gates, sl3 (L a14 x8.2.1 c14) x8.2.1, sl3 (L a7 rl1.1 c7) rl1.1, sl3 (L a8 rl1.2 c8) rl1.2, BX b1 28 [I x1.Inputs, L a2 x1.Gates c2], sl59 (L a2 x1.Gates c2) x1.Gates] w21 S21 := hs
         obtain ⟨x15, hx15, h⟩ := bindE h
         refine s_call [.agg #[I x8.1.Inputs, L a13 x8.1.Gates c13], L a15 x14 c15] Try.call36 rfl rfl hF rfl (impl_EvalCircuit_ok n x8.1 x14 hx15 (RV.mk_Circuit x8.1 (RV.any (hs.rv 2 rfl))) (hs.rv 0 rfl)) fun v w22 fr hRes hF => ?_
         obtain ⟨a16, c16, rfl, _, hp, hs2⟩ := hRes
         obtain ⟨S22, hp, hs⟩ := hs.got hM1 hp hs2
         have hM1 := hM1.stp hp
         have hs : Sep [sl4 (L a16 x15 c16) x15, sl4 (L a15 x14 c15) x14, BX b2 28 [I x8.1.Inputs, L a13 x8.1.Gates c13], sl59 (L a13 x8.1.Gates c13) x8.1.Gates, sl3 (L a14 x8.2.1 c14) x8.2.1, sl3 (L a7 rl1.1 c7) rl1.1, sl3 (L a8 rl1.2 c8) rl1.2, BX b1 28 [I x1.Inputs, L a2 x1.Gates c2], sl59 (L a2 x1.Gates c2) x1.Gates] w22 S22 := hs
         have hs : Sep [sl4 (L a16 x15 c16) x15, BX b2 28 [I x8.1.Inputs, L a13 x8.1.Gates c13], sl59 (L a13 x8.1.Gates c13) x8.1.Gates, sl3 (L a14 x8.2.1 c14) x8.2.1, sl3 (L a7 rl1.1 c7) rl1.1, sl3 (L a8 rl1.2 c8) rl1.2, BX b1 28 [I x1.Inputs, L a2 x1.Gates c2], sl59 (L a2 x1.Gates c2) x1.Gates] w22 S22 := Sep.pick [0, 2, 3, 4, 5, 6, 7, 8] hs (by decide) rfl
         refine from_pure 1 [(3, B b1 0), (4, I x2), (5, L a8 rl1.2 c8), (6, L a7 rl1.1 c7), (8, I x7), (9, B b2 0), (10, L a14 x8.2.1 c14), (14, I s3), (15, L a16 x15 c16)] hF (by kernel_rfl) fun fr hF => ?_
         refine from_end rfl (then_normal ?_)
         refine wp_seq (wp_text' ?_)
         refine from_pure 2 [(3, B b1 0), (4, I x2), (5, L a8 rl1.2 c8), (6, L a7 rl1.1 c7), (8, I x7), (9, B b2 0), (10, L a14 x8.2.1 c14), (14, I s3), (15, L a16 x15 c16), (117, L a16 x15 c16), (118, L a14 x8.2.1 c14)] hF (by kernel_rfl) fun fr hF => ?_
         obtain ⟨x16, hx16, h⟩ := bindE h
         refine s_call [L a16 x15 c16, L a14 x8.2.1 c14] Try.call38 rfl rfl hF rfl (laws_word_ok n x15 x8.2.1 hx16 (hs.rv 0 rfl) (hs.rv 3 rfl)) fun v w23 fr hRes hF => ?_
         obtain ⟨rfl, hc⟩ := hRes
         have hs := hs.ext hc
         have hM1 := hM1.ext hc
         refine from_pure 4 [(3, B b1 0), (4, I x2), (5, L a8 rl1.2 c8), (6, L a7 rl1.1 c7), (8, I x7), (9, B b2 0), (10, L a14 x8.2.1 c14), (14, I s3), (15, L a16 x15 c16), (119, I x16), (120, I x7), (121, I x2), (122, L a16 x15 c16), (123, L a8 rl1.2 c8)] hF (by kernel_rfl) fun fr hF => ?_
         obtain ⟨x17, hx17, h⟩ := bindE h
         refine s_call [L a16 x15 c16, L a8 rl1.2 c8] Try.call38 rfl rfl hF rfl (laws_word_ok n x15 rl1.2 hx17 (hs.rv 0 rfl) (hs.rv 5 rfl)) fun v w24 fr hRes hF => ?_
         obtain ⟨rfl, hc⟩ := hRes
         have hs := hs.ext hc
         have hM1 := hM1.ext hc
         refine from_pure 2 [(3, B b1 0), (4, I x2), (5, L a8 rl1.2 c8), (6, L a7 rl1.1 c7), (8, I x7), (9, B b2 0), (10, L a14 x8.2.1 c14), (14, I s3), (119, I x16), (120, I x7), (121, I x2), (124, I x17), (125, L a16 x15 c16), (126, L a7 rl1.1 c7)] hF (by kernel_rfl) fun fr hF => ?_
         obtain ⟨x18, hx18, h⟩ := bindE h
         refine s_call [L a16 x15 c16, L a7 rl1.1 c7] Try.call38 rfl rfl hF rfl (laws_word_ok n x15 rl1.1 hx18 (hs.rv 0 rfl) (hs.rv 4 rfl)) fun v w25 fr hRes hF => ?_
         obtain ⟨rfl, hc⟩ := hRes
         have hs := hs.ext hc
         have hM1 := hM1.ext hc
         have hs : Sep [BX b2 28 [I x8.1.Inputs, L a13 x8.1.Gates c13], sl59 (L a13 x8.1.Gates c13) x8.1.Gates, sl3 (L a14 x8.2.1 c14) x8.2.1, sl3 (L a7 rl1.1 c7) rl1.1, sl3 (L a8 rl1.2 c8) rl1.2, BX b1 28 [I x1.Inputs, L a2 x1.Gates c2], sl59 (L a2 x1.Gates c2) x1.Gates] w25 S22 := Sep.pick [1, 2, 3, 4, 5, 6, 7] hs (by decide) rfl
         obtain ⟨x19, hx19, h⟩ := bindE h
         refine s_call [I x7, I x2, I x17, I x18] Try.call41 rfl rfl hF rfl (spec_ApplyBinary_ok x7 x2 x17 x18 hx19) fun v w26 fr hRes hF => ?_
         obtain ⟨rfl, hc⟩ := hRes
         have hs := hs.ext hc
         have hM1 := hM1.ext hc
         refine from_pure 1 [(3, B b1 0), (4, I x2), (5, L a8 rl1.2 c8), (6, L a7 rl1.1 c7), (8, I x7), (9, B b2 0), (10, L a14 x8.2.1 c14), (14, I s3), (129, .bool (x16 != x19))] hF (by kernel_rfl) fun fr hF => ?_
         refine from_end rfl (then_normal ?_)
         refine (wp_if hF (b := (x16 != x19)) rfl (fun hb => ?_) (fun hb => ?_))
         · replace h := iteT hb h
           have hs : Sep [] w26 S22 := Sep.pick [] hs (by decide) rfl
           refine wp_seq (wp_pure [(2, .bool false)] hF (by kernel_rfl) fun fr hF => then_normal ?_)
           obtain rfl := hr3 _ (Option.some.inj h).symm
           obtain rfl := Option.some.inj hk3
           exact wp_ret (blk_ret (then_ret (then_ret (blk_ret (then_ret (ret1 rfl hF rfl ⟨_, rfl, rfl, (hM0.trans hM1).chg⟩))))))
         replace h := iteF hb h
         refine (wp_skip ?_)
         refine blk_normal (then_normal ?_)
         refine (wp_pure [(3, B b1 0), (4, I x2), (5, L a8 rl1.2 c8), (6, L a7 rl1.1 c7), (8, I x7), (9, B b2 0), (10, L a14 x8.2.1 c14), (14, I (w64 (s3 + 1)))] hF (by kernel_rfl) fun fr hF => then_normal ?_)
         exact ⟨_, (Option.some.inj h).symm, S22, _, hF.sub _ (by kernel_rfl), hM1, hs⟩
       replace h := iteF hb h
       have hs : Sep [] w3i S19 := Sep.pick [] hs (by decide) rfl
       refine (wp_exit (then_exit (then_exit (blk_exit_eq ?_))))
       obtain rfl := hr3 _ (Option.some.inj h).symm
       exact then_normal ⟨_, rfl, S19, _, hF.sub _ (by kernel_rfl), hM1, hs⟩
     · obtain ⟨s3r, rfl, hM⟩ := hM
       obtain ⟨S20, F6, hF, hMx, hs⟩ := hM
       have hM0 := hM0.trans hMx
       refine wp_seq (wp_pure [(2, .bool true)] hF (by kernel_rfl) fun fr hF => then_normal ?_)
       obtain rfl := Option.some.inj h
       exact wp_ret (ret1 rfl hF rfl ⟨_, rfl, rfl, hM0.chg⟩)
end Go.Proofs.Ytckeihpjfeonmaa
