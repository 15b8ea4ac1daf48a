/- Printed by gen2.py: the walks. -/
import Derived.Test.YtckeihpjfeonmaaWlkA
set_option linter.unusedVariables false
set_option maxRecDepth 100000
namespace Go.Proofs.Ytckeihpjfeonmaa
open Go.GL Go.Maps Go.WideMaps
theorem spec_l04Net_l04Op_ok (n : Nat) (p0 : D.l04Net) (p1 : Int) (p2 : List Int) (p3 : List Int) {r : (List Int) × D.l04Net} (h : spec_l04Net_l04Op n p0 p1 p2 p3 = some r) {w : World} {S0 F0 : Nat → Prop} {pa0 : Option Addr} {pn0 pc0 : Nat} {b1 : Nat} (hs : Sep [BX b1 76 [I p0.c.Inputs, .slice pa0 pn0 pc0, .bool p0.full], sl59 (.slice pa0 pn0 pc0) p0.c.Gates] w S0) (hb : ∀ k, S0 k → k < w.heap.size) (hd : ∀ k, S0 k → F0 k → False) {va2 : Value} (ra2 : RV w F0 va2 p2) {va3 : Value} (ra3 : RV w F0 va3 p3) :
   Calls Try.prog 71 [B b1 0, I p1, va2, va3].toArray w fun e w' => ∃ v, e = .returned v ∧ ∃ u0 a1 c1, v = u0 ∧ ∃ S' F', Stp w S0 w' S' ∧ Sep [BX b1 76 [I r.2.c.Inputs, L a1 r.2.c.Gates c1, .bool r.2.full], sl59 (L a1 r.2.c.Gates c1) r.2.c.Gates] w' S' ∧ RvF w w' S0 F0 S' F' ∧ RV w' F' u0 r.1 := by
 unfold spec_l04Net_l04Op at h
 obtain ⟨hpn, hs⟩ := hs.relen 1 rfl
 subst hpn
 have hs : Sep [BX b1 76 [I p0.c.Inputs, L pa0 p0.c.Gates pc0, .bool p0.full], sl59 (L pa0 p0.c.Gates pc0) p0.c.Gates] w S0 := hs
 have hM0 : Mem w S0 (fun k => F0 k ∧ k < w.heap.size) w S0 (fun k => F0 k ∧ k < w.heap.size) := Mem.start hb (fun _ h => h.2) (fun k h1 h2 => hd k h1 h2.1)
 have ra2 := ra2.sub (F' := (fun k => F0 k ∧ k < w.heap.size)) (fun k hk h => ⟨h, hk⟩)
 obtain ⟨a1, c1, rfl, -⟩ := ra2.slice
 have ra3 := ra3.sub (F' := (fun k => F0 k ∧ k < w.heap.size)) (fun k hk h => ⟨h, hk⟩)
 obtain ⟨a2, c2, rfl, -⟩ := ra3.slice
 refine enter (N := 160) Try.func71 rfl Try.ntmps71 rfl fun fr hF => ?_
 refine wp_seq (wp_pure [(0, B b1 0), (1, I p1), (2, L a1 p2 c1), (3, L a2 p3 c2)] hF (by kernel_rfl) fun fr hF => then_normal ?_)
 refine wp_seq (wp_text' ?_)
 refine q_lit (E := 3) hs hM0 [] (([] : List Int).map Flat.enc) ([] : List Int) rfl rfl hF [] rfl (fun w => by kernel_rfl) (css_flat _) rfl rfl rfl fun a3 c3 w1 S1 fr hs hp hF => ?_
 have ra2 := ra2.stp hM0 hp
 have ra3 := ra3.stp hM0 hp
 have hM0 := hM0.stp hp
 have hs : Sep [sl3 (L a3 ([] : List Int) c3) ([] : List Int), BX b1 76 [I p0.c.Inputs, L pa0 p0.c.Gates pc0, .bool p0.full], sl59 (L pa0 p0.c.Gates pc0) p0.c.Gates] w1 S1 := hs
 refine from_pure 1 [(0, B b1 0), (1, I p1), (2, L a1 p2 c1), (3, L a2 p3 c2), (9, L a3 ([] : List Int) c3)] hF (by kernel_rfl) fun fr hF => ?_
 refine from_end rfl (then_normal ?_)
 refine wp_seq ?_
 refine wp_seq (wp_pure [(0, B b1 0), (1, I p1), (2, L a1 p2 c1), (3, L a2 p3 c2), (9, L a3 ([] : List Int) c3), (16, I p1)] hF (by kernel_rfl) fun fr hF => then_normal ?_)
 refine (wp_block ?_)
 refine wp_seq (wp_pure [(0, B b1 0), (1, I p1), (2, L a1 p2 c1), (3, L a2 p3 c2), (9, L a3 ([] : List Int) c3), (16, I p1), (17, .bool (p1 == 3))] hF (by kernel_rfl) fun fr hF => then_normal ?_)
 refine (wp_if hF (b := (p1 == 3)) rfl (fun hb => ?_) (fun hb => ?_))
 · replace h := iteT hb h
   have hs : Sep [BX b1 76 [I p0.c.Inputs, L pa0 p0.c.Gates pc0, .bool p0.full], sl59 (L pa0 p0.c.Gates pc0) p0.c.Gates] w1 S1 := Sep.pick [1, 2] hs (by decide) rfl
   refine (wp_text' ?_)
   refine from_pure 3 [(20, B b1 0), (21, L a1 p2 c1), (22, L a2 p3 c2)] hF (by kernel_rfl) fun fr hF => ?_
   obtain ⟨x1, hx1, h⟩ := bindE h
   obtain ⟨A1, R1, hsA, hsR, hdA, hbA, hup⟩ := Sep.call (L1 := [BX b1 76 [I p0.c.Inputs, L pa0 p0.c.Gates pc0, .bool p0.full], sl59 (L pa0 p0.c.Gates pc0) p0.c.Gates]) (L2 := []) hs hM0
   refine s_call [B b1 0, L a1 p2 c1, L a2 p3 c2, I (-1)] Try.call64 rfl rfl hF rfl (spec_l04Net_l04Add_ok n p0 p2 p3 (-1) hx1 hsA hbA hdA (ra2.big (fun _ h => .inl h)) (ra3.big (fun _ h => .inl h))) fun v w2 fr hRes hF => ?_
   obtain ⟨a4, c4, a5, c5, rfl, _, hp, hs⟩ := hRes
   obtain ⟨S2, hp, hs⟩ := hup hp hs
   have ra2 := ra2.stp hM0 hp
   have ra3 := ra3.stp hM0 hp
   have hM0 := hM0.stp hp
   have hs : Sep [sl3 (L a4 x1.1 c4) x1.1, BX b1 76 [I x1.2.2.c.Inputs, L a5 x1.2.2.c.Gates c5, .bool x1.2.2.full], sl59 (L a5 x1.2.2.c.Gates c5) x1.2.2.c.Gates] w2 S2 := hs
   refine from_pure 4 [(9, L a4 x1.1 c4)] hF (by kernel_rfl) fun fr hF => ?_
   refine from_end rfl ?_
   refine blk_normal (then_normal ?_)
   refine wp_seq (wp_pure [(8, L a4 x1.1 c4)] hF (by kernel_rfl) fun fr hF => then_normal ?_)
   obtain rfl := Option.some.inj h
   obtain ⟨S3, F1, hMn, hs, r1, hfz⟩ := Sep.freeze hs hM0
   have r1 := SL.rv r1
   have hM0 := hMn
   exact wp_ret (ret1 rfl hF rfl ⟨_, rfl, _, a5, c5, rfl, S3, _, hM0.out, hs, hM0.rvF, (r1)⟩)
 replace h := iteF hb h
 refine wp_seq (wp_pure [(0, B b1 0), (1, I p1), (2, L a1 p2 c1), (3, L a2 p3 c2), (9, L a3 ([] : List Int) c3), (16, I p1), (26, .bool (p1 == 4))] hF (by kernel_rfl) fun fr hF => then_normal ?_)
 refine (wp_if hF (b := (p1 == 4)) rfl (fun hb => ?_) (fun hb => ?_))
 · replace h := iteT hb h
   have hs : Sep [BX b1 76 [I p0.c.Inputs, L pa0 p0.c.Gates pc0, .bool p0.full], sl59 (L pa0 p0.c.Gates pc0) p0.c.Gates] w1 S1 := Sep.pick [1, 2] hs (by decide) rfl
   refine (wp_text' ?_)
   refine from_pure 3 [(29, B b1 0), (30, L a1 p2 c1), (31, L a2 p3 c2)] hF (by kernel_rfl) fun fr hF => ?_
   obtain ⟨x2, hx2, h⟩ := bindE h
   refine s_call [L a2 p3 c2] Try.call89 rfl rfl hF rfl (spec_l04Not_ok n p3 hx2 (ra3)) fun v w3 fr hRes hF => ?_
   obtain ⟨a6, c6, rfl, _, hp, hs2⟩ := hRes
   obtain ⟨S4, hp, hs⟩ := hs.got hM0 hp hs2
   have ra2 := ra2.stp hM0 hp
   have ra3 := ra3.stp hM0 hp
   have hM0 := hM0.stp hp
   have hs : Sep [sl3 (L a6 x2 c6) x2, BX b1 76 [I p0.c.Inputs, L pa0 p0.c.Gates pc0, .bool p0.full], sl59 (L pa0 p0.c.Gates pc0) p0.c.Gates] w3 S4 := hs
   obtain ⟨x3, hx3, h⟩ := bindE h
   have hs : Sep [BX b1 76 [I p0.c.Inputs, L pa0 p0.c.Gates pc0, .bool p0.full], sl59 (L pa0 p0.c.Gates pc0) p0.c.Gates, sl3 (L a6 x2 c6) x2] w3 S4 := Sep.pick [1, 2, 0] hs (by decide) rfl
   obtain ⟨A2, R2, hsA, hsR, hdA, hbA, hup⟩ := Sep.call (L1 := [BX b1 76 [I p0.c.Inputs, L pa0 p0.c.Gates pc0, .bool p0.full], sl59 (L pa0 p0.c.Gates pc0) p0.c.Gates]) (L2 := [sl3 (L a6 x2 c6) x2]) hs hM0
   refine s_call [B b1 0, L a1 p2 c1, L a6 x2 c6, I 1] Try.call64 rfl rfl hF rfl (spec_l04Net_l04Add_ok n p0 p2 x2 1 hx3 hsA hbA hdA (ra2.big (fun _ h => .inl h)) ((hsR.rv 0 rfl).big (fun _ h => .inr h))) fun v w4 fr hRes hF => ?_
   obtain ⟨a7, c7, a8, c8, rfl, _, hp, hs⟩ := hRes
   obtain ⟨S5, hp, hs⟩ := hup hp hs
   have ra2 := ra2.stp hM0 hp
   have hM0 := hM0.stp hp
   have hs : Sep [sl3 (L a7 x3.1 c7) x3.1, BX b1 76 [I x3.2.2.c.Inputs, L a8 x3.2.2.c.Gates c8, .bool x3.2.2.full], sl59 (L a8 x3.2.2.c.Gates c8) x3.2.2.c.Gates, sl3 (L a6 x2 c6) x2] w4 S5 := hs
   have hs : Sep [sl3 (L a7 x3.1 c7) x3.1, BX b1 76 [I x3.2.2.c.Inputs, L a8 x3.2.2.c.Gates c8, .bool x3.2.2.full], sl59 (L a8 x3.2.2.c.Gates c8) x3.2.2.c.Gates] w4 S5 := Sep.pick [0, 1, 2] hs (by decide) rfl
   refine from_pure 4 [(9, L a7 x3.1 c7)] hF (by kernel_rfl) fun fr hF => ?_
   refine from_end rfl ?_
   refine blk_normal (then_normal ?_)
   refine wp_seq (wp_pure [(8, L a7 x3.1 c7)] hF (by kernel_rfl) fun fr hF => then_normal ?_)
   obtain rfl := Option.some.inj h
   obtain ⟨S6, F2, hMn, hs, r2, hfz⟩ := Sep.freeze hs hM0
   have r2 := SL.rv r2
   have hM0 := hMn
   exact wp_ret (ret1 rfl hF rfl ⟨_, rfl, _, a8, c8, rfl, S6, _, hM0.out, hs, hM0.rvF, (r2)⟩)
 replace h := iteF hb h
 refine wp_seq (wp_pure [(0, B b1 0), (1, I p1), (2, L a1 p2 c1), (3, L a2 p3 c2), (9, L a3 ([] : List Int) c3), (16, I p1), (36, .bool (p1 == 5))] hF (by kernel_rfl) fun fr hF => then_normal ?_)
 refine (wp_if hF (b := (p1 == 5)) rfl (fun hb => ?_) (fun hb => ?_))
 · replace h := iteT hb h
   have hs : Sep [BX b1 76 [I p0.c.Inputs, L pa0 p0.c.Gates pc0, .bool p0.full], sl59 (L pa0 p0.c.Gates pc0) p0.c.Gates] w1 S1 := Sep.pick [1, 2] hs (by decide) rfl
   refine (wp_text' ?_)
   refine from_pure 3 [(38, B b1 0), (39, L a1 p2 c1), (40, L a2 p3 c2)] hF (by kernel_rfl) fun fr hF => ?_
   obtain ⟨x4, hx4, h⟩ := bindE h
   obtain ⟨A3, R3, hsA, hsR, hdA, hbA, hup⟩ := Sep.call (L1 := [BX b1 76 [I p0.c.Inputs, L pa0 p0.c.Gates pc0, .bool p0.full], sl59 (L pa0 p0.c.Gates pc0) p0.c.Gates]) (L2 := []) hs hM0
   refine s_call [B b1 0, L a1 p2 c1, L a2 p3 c2] Try.call90 rfl rfl hF rfl (spec_l04Net_l04Mul_ok n p0 p2 p3 hx4 hsA hbA hdA (ra2.big (fun _ h => .inl h)) (ra3.big (fun _ h => .inl h))) fun v w5 fr hRes hF => ?_
   obtain ⟨a9, c9, a10, c10, rfl, _, hp, hs⟩ := hRes
   obtain ⟨S7, hp, hs⟩ := hup hp hs
   have ra2 := ra2.stp hM0 hp
   have ra3 := ra3.stp hM0 hp
   have hM0 := hM0.stp hp
   have hs : Sep [sl3 (L a9 x4.1 c9) x4.1, BX b1 76 [I x4.2.c.Inputs, L a10 x4.2.c.Gates c10, .bool x4.2.full], sl59 (L a10 x4.2.c.Gates c10) x4.2.c.Gates] w5 S7 := hs
   refine from_pure 1 [(9, L a9 x4.1 c9)] hF (by kernel_rfl) fun fr hF => ?_
   refine from_end rfl ?_
   refine blk_normal (then_normal ?_)
   refine wp_seq (wp_pure [(8, L a9 x4.1 c9)] hF (by kernel_rfl) fun fr hF => then_normal ?_)
   obtain rfl := Option.some.inj h
   obtain ⟨S8, F3, hMn, hs, r3, hfz⟩ := Sep.freeze hs hM0
   have r3 := SL.rv r3
   have hM0 := hMn
   exact wp_ret (ret1 rfl hF rfl ⟨_, rfl, _, a10, c10, rfl, S8, _, hM0.out, hs, hM0.rvF, (r3)⟩)
 replace h := iteF hb h
 refine wp_seq (wp_pure [(0, B b1 0), (1, I p1), (2, L a1 p2 c1), (3, L a2 p3 c2), (9, L a3 ([] : List Int) c3), (16, I p1), (42, .bool (p1 == 6))] hF (by kernel_rfl) fun fr hF => then_normal ?_)
 refine (wp_if hF (b := (p1 == 6)) rfl (fun hb => ?_) (fun hb => ?_))
 · replace h := iteT hb h
   have hs : Sep [BX b1 76 [I p0.c.Inputs, L pa0 p0.c.Gates pc0, .bool p0.full], sl59 (L pa0 p0.c.Gates pc0) p0.c.Gates] w1 S1 := Sep.pick [1, 2] hs (by decide) rfl
   refine (wp_text' ?_)
   refine from_pure 3 [(45, B b1 0), (46, L a1 p2 c1), (47, L a2 p3 c2)] hF (by kernel_rfl) fun fr hF => ?_
   obtain ⟨x5, hx5, h⟩ := bindE h
   obtain ⟨A4, R4, hsA, hsR, hdA, hbA, hup⟩ := Sep.call (L1 := [BX b1 76 [I p0.c.Inputs, L pa0 p0.c.Gates pc0, .bool p0.full], sl59 (L pa0 p0.c.Gates pc0) p0.c.Gates]) (L2 := []) hs hM0
   refine s_call [B b1 0, L a1 p2 c1, L a2 p3 c2] Try.call91 rfl rfl hF rfl (spec_l04Net_l04Div_ok n p0 p2 p3 hx5 hsA hbA hdA (ra2.big (fun _ h => .inl h)) (ra3.big (fun _ h => .inl h))) fun v w6 fr hRes hF => ?_
   obtain ⟨a11, c11, a12, c12, a13, c13, rfl, _, hp, hs⟩ := hRes
   obtain ⟨S9, hp, hs⟩ := hup hp hs
   have ra2 := ra2.stp hM0 hp
   have ra3 := ra3.stp hM0 hp
   have hM0 := hM0.stp hp
   have hs : Sep [sl3 (L a11 x5.1 c11) x5.1, sl3 (L a12 x5.2.1 c12) x5.2.1, BX b1 76 [I x5.2.2.c.Inputs, L a13 x5.2.2.c.Gates c13, .bool x5.2.2.full], sl59 (L a13 x5.2.2.c.Gates c13) x5.2.2.c.Gates] w6 S9 := hs
   refine from_pure 4 [(9, L a11 x5.1 c11)] hF (by kernel_rfl) fun fr hF => ?_
   have hs : Sep [sl3 (L a11 x5.1 c11) x5.1, BX b1 76 [I x5.2.2.c.Inputs, L a13 x5.2.2.c.Gates c13, .bool x5.2.2.full], sl59 (L a13 x5.2.2.c.Gates c13) x5.2.2.c.Gates] w6 S9 := Sep.pick [0, 2, 3] hs (by decide) rfl
   refine from_end rfl ?_
   refine blk_normal (then_normal ?_)
   refine wp_seq (wp_pure [(8, L a11 x5.1 c11)] hF (by kernel_rfl) fun fr hF => then_normal ?_)
   obtain rfl := Option.some.inj h
   obtain ⟨S10, F4, hMn, hs, r4, hfz⟩ := Sep.freeze hs hM0
   have r4 := SL.rv r4
   have hM0 := hMn
   exact wp_ret (ret1 rfl hF rfl ⟨_, rfl, _, a13, c13, rfl, S10, _, hM0.out, hs, hM0.rvF, (r4)⟩)
 replace h := iteF hb h
 refine wp_seq (wp_pure [(0, B b1 0), (1, I p1), (2, L a1 p2 c1), (3, L a2 p3 c2), (9, L a3 ([] : List Int) c3), (16, I p1), (51, .bool (p1 == 7))] hF (by kernel_rfl) fun fr hF => then_normal ?_)
 refine (wp_if hF (b := (p1 == 7)) rfl (fun hb => ?_) (fun hb => ?_))
 · replace h := iteT hb h
   have hs : Sep [BX b1 76 [I p0.c.Inputs, L pa0 p0.c.Gates pc0, .bool p0.full], sl59 (L pa0 p0.c.Gates pc0) p0.c.Gates] w1 S1 := Sep.pick [1, 2] hs (by decide) rfl
   refine (wp_text' ?_)
   refine from_pure 3 [(54, B b1 0), (55, L a1 p2 c1), (56, L a2 p3 c2)] hF (by kernel_rfl) fun fr hF => ?_
   obtain ⟨x6, hx6, h⟩ := bindE h
   obtain ⟨A5, R5, hsA, hsR, hdA, hbA, hup⟩ := Sep.call (L1 := [BX b1 76 [I p0.c.Inputs, L pa0 p0.c.Gates pc0, .bool p0.full], sl59 (L pa0 p0.c.Gates pc0) p0.c.Gates]) (L2 := []) hs hM0
   refine s_call [B b1 0, L a1 p2 c1, L a2 p3 c2] Try.call91 rfl rfl hF rfl (spec_l04Net_l04Div_ok n p0 p2 p3 hx6 hsA hbA hdA (ra2.big (fun _ h => .inl h)) (ra3.big (fun _ h => .inl h))) fun v w7 fr hRes hF => ?_
   obtain ⟨a14, c14, a15, c15, a16, c16, rfl, _, hp, hs⟩ := hRes
   obtain ⟨S11, hp, hs⟩ := hup hp hs
   have ra2 := ra2.stp hM0 hp
   have ra3 := ra3.stp hM0 hp
   have hM0 := hM0.stp hp
   have hs : Sep [sl3 (L a14 x6.1 c14) x6.1, sl3 (L a15 x6.2.1 c15) x6.2.1, BX b1 76 [I x6.2.2.c.Inputs, L a16 x6.2.2.c.Gates c16, .bool x6.2.2.full], sl59 (L a16 x6.2.2.c.Gates c16) x6.2.2.c.Gates] w7 S11 := hs
   refine from_pure 4 [(9, L a15 x6.2.1 c15)] hF (by kernel_rfl) fun fr hF => ?_
   have hs : Sep [sl3 (L a15 x6.2.1 c15) x6.2.1, BX b1 76 [I x6.2.2.c.Inputs, L a16 x6.2.2.c.Gates c16, .bool x6.2.2.full], sl59 (L a16 x6.2.2.c.Gates c16) x6.2.2.c.Gates] w7 S11 := Sep.pick [1, 2, 3] hs (by decide) rfl
   refine from_end rfl ?_
   refine blk_normal (then_normal ?_)
   refine wp_seq (wp_pure [(8, L a15 x6.2.1 c15)] hF (by kernel_rfl) fun fr hF => then_normal ?_)
   obtain rfl := Option.some.inj h
   obtain ⟨S12, F5, hMn, hs, r5, hfz⟩ := Sep.freeze hs hM0
   have r5 := SL.rv r5
   have hM0 := hMn
   exact wp_ret (ret1 rfl hF rfl ⟨_, rfl, _, a16, c16, rfl, S12, _, hM0.out, hs, hM0.rvF, (r5)⟩)
 replace h := iteF hb h
 refine wp_seq ?_
 refine wp_seq (wp_pure [(0, B b1 0), (1, I p1), (2, L a1 p2 c1), (3, L a2 p3 c2), (9, L a3 ([] : List Int) c3), (16, I p1), (60, .bool (p1 == 8))] hF (by kernel_rfl) fun fr hF => then_normal ?_)
 refine (wp_if hF (b := (p1 == 8)) rfl (fun hb => ?_) (fun hb => ?_))
 · replace h := iteT hb h
   refine (wp_skip (then_normal ?_))
   refine (wp_if hF (b := (p1 == 8)) rfl (fun hb => ?_) (fun hb => ?_))
   · replace h := iteT hb h
     refine wp_seq (wp_pure [(0, B b1 0), (1, I p1), (2, L a1 p2 c1), (3, L a2 p3 c2), (9, L a3 ([] : List Int) c3), (65, I (len p2)), (66, I 0)] hF (by kernel_rfl) fun fr hF => then_normal ?_)
     obtain ⟨rl1, hit1, h⟩ := bindE h
     have hk1 := h
     refine (wp_cut' (M := fun fr w' => ∃ a19 c19 a20 c20 S14 F7, FrS 160 [(9, L a19 rl1.1 c19)] fr ∧ Mem w1 S1 (fun k => F0 k ∧ k < w.heap.size) w' S14 F7 ∧ Sep [sl3 (L a19 rl1.1 c19) rl1.1, BX b1 76 [I rl1.2.1, L a20 rl1.2.2.2 c20, .bool rl1.2.2.1], sl59 (L a20 rl1.2.2.2 c20) rl1.2.2.2] w' S14) (wp_block (wp_iter (Inv := fun s1 fr w' => ∃ a17 c17 a18 c18 S13 F6, FrS 160 [(0, B b1 0), (1, I p1), (2, L a1 p2 c1), (3, L a2 p3 c2), (9, L a17 s1.2.1 c17), (65, I (len p2)), (66, I s1.1)] fr ∧ Mem w1 S1 (fun k => F0 k ∧ k < w.heap.size) w' S13 F6 ∧ Sep [sl3 (L a17 s1.2.1 c17) s1.2.1, BX b1 76 [I s1.2.2.1, L a18 s1.2.2.2.2 c18, .bool s1.2.2.2.1], sl59 (L a18 s1.2.2.2.2 c18) s1.2.2.2.2] w' S13) hit1 ⟨a3, c3, pa0, pc0, S1, _, hF.sub _ (by kernel_rfl), (Mem.start hM0.bd hM0.bdF hM0.dj), hs⟩ fun s1 q1 fr w1i hI h hr1 => ?_)) fun fr w1o hM => ?_)
     · obtain ⟨a17, c17, a18, c18, S13, F6, hF, hM1, hs⟩ := hI
       have ra2 := ra2.mem hM1
       have ra3 := ra3.mem hM1
       refine wp_seq (wp_pure [(0, B b1 0), (1, I p1), (2, L a1 p2 c1), (3, L a2 p3 c2), (9, L a17 s1.2.1 c17), (65, I (len p2)), (66, I s1.1), (67, .bool (decide (s1.1 < (len p2))))] hF (by kernel_rfl) fun fr hF => then_normal ?_)
       refine wp_seq (wp_if hF (b := (decide (s1.1 < (len p2)))) rfl (fun hb => ?_) (fun hb => ?_))
       · replace h := iteT hb h
         refine (wp_skip (then_normal ?_))
         refine wp_seq (wp_block ?_)
         refine wp_seq (wp_pure [(0, B b1 0), (1, I p1), (2, L a1 p2 c1), (3, L a2 p3 c2), (9, L a17 s1.2.1 c17), (10, I s1.1), (65, I (len p2)), (66, I s1.1)] hF (by kernel_rfl) fun fr hF => then_normal ?_)
         refine wp_seq (wp_pure [(0, B b1 0), (1, I p1), (2, L a1 p2 c1), (3, L a2 p3 c2), (9, L a17 s1.2.1 c17), (10, I s1.1), (65, I (len p2)), (66, I s1.1)] hF (by kernel_rfl) fun fr hF => then_normal ?_)
         refine wp_seq ?_
         refine wp_seq (wp_pure [(0, B b1 0), (1, I p1), (2, L a1 p2 c1), (3, L a2 p3 c2), (9, L a17 s1.2.1 c17), (10, I s1.1), (65, I (len p2)), (66, I s1.1), (69, I p1)] hF (by kernel_rfl) fun fr hF => then_normal ?_)
         refine (wp_block ?_)
         refine wp_seq (wp_pure [(0, B b1 0), (1, I p1), (2, L a1 p2 c1), (3, L a2 p3 c2), (9, L a17 s1.2.1 c17), (10, I s1.1), (65, I (len p2)), (66, I s1.1), (69, I p1), (80, .bool (p1 == 8))] hF (by kernel_rfl) fun fr hF => then_normal ?_)
         refine (wp_if hF (b := (p1 == 8)) rfl (fun hb => ?_) (fun hb => ?_))
         · replace h := iteT hb h
           obtain ⟨x7, hx7, h⟩ := bindE h
           obtain ⟨x8, hx8, h⟩ := bindE h
           refine (region_bm 9 [0, 0, 0, 6, 14, 0, 0, 96, 224, 511, 1023] [true, true, true, false, false, true, true, false, false]
               [.eq (B b1 0), .eq (L a1 p2 c1), .eq (I s1.1), .is fun v w => ElemP w (fun k => k < w1i.heap.size) v (x7 : Int), .eq (I x7), .eq (L a2 p3 c2), .eq (I s1.1), .is fun v w => ElemP w (fun k => k < w1i.heap.size) v (x8 : Int), .eq (I x8), .any, .any]
               [(0, B b1 0), (1, I p1), (2, L a1 p2 c1), (3, L a2 p3 c2), (9, L a17 s1.2.1 c17), (65, I (len p2)), (66, I s1.1), (82, B b1 0), (86, I x7), (90, I x8)] mix hF (by kernel_rfl) (by kernel_rfl) (by kernel_rfl) (by kernel_rfl) ⟨(Pd.monoO_is mono_elem), Pd.monoO_eq, (Pd.monoO_is mono_elem), Pd.monoO_eq, trivial⟩ (fun ow hG => ⟨np_to ow (np_index hG hF ty3 Try.underlying37 rfl rfl (RV.sub (ra2) fun k hk _ => hk) rfl rfl (fun hg => ⟨get?_nn hx7, get?_at hx7⟩)), np_to ow (np_loadF (z := x7) (i := 3) hG hF ty3 rfl rfl rfl rfl rfl rfl rfl), np_to ow (np_index hG hF ty3 Try.underlying37 rfl rfl (RV.sub (ra3) fun k hk _ => hk) rfl rfl (fun hg => ⟨get?_nn hx8, get?_at hx8⟩)), np_to ow (np_loadF (z := x8) (i := 7) hG hF ty3 rfl rfl rfl rfl rfl rfl rfl), trivial⟩) (by kernel_rfl) fun ow fr w8 hF hE hc => ?_)
           have ra2 := ra2.ext hc
           have ra3 := ra3.ext hc
           have hs := hs.ext hc
           have hM1 := hM1.ext hc
           obtain ⟨x9, hx9, h⟩ := bindE h
           have hs : Sep [BX b1 76 [I s1.2.2.1, L a18 s1.2.2.2.2 c18, .bool s1.2.2.2.1], sl59 (L a18 s1.2.2.2.2 c18) s1.2.2.2.2, sl3 (L a17 s1.2.1 c17) s1.2.1] w8 S13 := Sep.pick [1, 2, 0] hs (by decide) rfl
           obtain ⟨A6, R6, hsA, hsR, hdA, hbA, hup⟩ := Sep.call (L1 := [BX b1 76 [I s1.2.2.1, L a18 s1.2.2.2.2 c18, .bool s1.2.2.2.1], sl59 (L a18 s1.2.2.2.2 c18) s1.2.2.2.2]) (L2 := [sl3 (L a17 s1.2.1 c17) s1.2.1]) hs hM1
           refine s_call [B b1 0, I x7, I x8] Try.call46 rfl rfl hF rfl (spec_l04Net_l04And_ok n (D.l04Net.mk (D.Circuit.mk s1.2.2.1 s1.2.2.2.2) s1.2.2.2.1) x7 x8 hx9 hsA hbA hdA) fun v w9 fr hRes hF => ?_
           obtain ⟨a21, c21, rfl, _, hp, hs⟩ := hRes
           obtain ⟨S15, hp, hs⟩ := hup hp hs
           have ra2 := ra2.stp hM1 hp
           have ra3 := ra3.stp hM1 hp
           have hM1 := hM1.stp hp
           have hs : Sep [BX b1 76 [I x9.2.c.Inputs, L a21 x9.2.c.Gates c21, .bool x9.2.full], sl59 (L a21 x9.2.c.Gates c21) x9.2.c.Gates, sl3 (L a17 s1.2.1 c17) s1.2.1] w9 S15 := hs
           refine from_pure 1 [(0, B b1 0), (1, I p1), (2, L a1 p2 c1), (3, L a2 p3 c2), (9, L a17 s1.2.1 c17), (11, I x9.1), (65, I (len p2)), (66, I s1.1)] hF (by kernel_rfl) fun fr hF => ?_
           refine from_end rfl ?_
           refine blk_normal (then_normal ?_)
           refine (wp_text' ?_)
           refine from_pure 2 [(0, B b1 0), (1, I p1), (2, L a1 p2 c1), (3, L a2 p3 c2), (65, I (len p2)), (66, I s1.1), (104, L a17 s1.2.1 c17), (105, I x9.1)] hF (by kernel_rfl) fun fr hF => ?_
           refine q_lit (E := 3) hs hM1 [I x9.1] (([x9.1] : List Int).map Flat.enc) ([x9.1] : List Int) rfl rfl hF [I x9.1] rfl (fun w => by kernel_rfl) (css_flat _) rfl rfl rfl fun a22 c22 w10 S16 fr hs hp hF => ?_
           have ra2 := ra2.stp hM1 hp
           have ra3 := ra3.stp hM1 hp
           have hM1 := hM1.stp hp
           have hs : Sep [sl3 (L a22 ([x9.1] : List Int) c22) ([x9.1] : List Int), BX b1 76 [I x9.2.c.Inputs, L a21 x9.2.c.Gates c21, .bool x9.2.full], sl59 (L a21 x9.2.c.Gates c21) x9.2.c.Gates, sl3 (L a17 s1.2.1 c17) s1.2.1] w10 S16 := hs
           obtain ⟨x10, hx10, h⟩ := bindE h
           refine q_append 3 hs hM1 rfl Try.underlying37 el3 rfl rfl rfl hF rfl rfl (hs.rv 0 rfl) hx10 fun a23 c23 w11 S17 fr hs hp hF => ?_
           have ra2 := ra2.stp hM1 hp
           have ra3 := ra3.stp hM1 hp
           have hM1 := hM1.stp hp
           have hs : Sep [sl3 (L a22 ([x9.1] : List Int) c22) ([x9.1] : List Int), BX b1 76 [I x9.2.c.Inputs, L a21 x9.2.c.Gates c21, .bool x9.2.full], sl59 (L a21 x9.2.c.Gates c21) x9.2.c.Gates, sl3 (L a23 x10 c23) x10] w11 S17 := hs
           have hs : Sep [BX b1 76 [I x9.2.c.Inputs, L a21 x9.2.c.Gates c21, .bool x9.2.full], sl59 (L a21 x9.2.c.Gates c21) x9.2.c.Gates, sl3 (L a23 x10 c23) x10] w11 S17 := Sep.pick [1, 2, 3] hs (by decide) rfl
           refine from_pure 1 [(0, B b1 0), (1, I p1), (2, L a1 p2 c1), (3, L a2 p3 c2), (9, L a23 x10 c23), (65, I (len p2)), (66, I s1.1)] hF (by kernel_rfl) fun fr hF => ?_
           refine from_end rfl ?_
           refine blk_normal (then_normal ?_)
           refine (wp_pure [(0, B b1 0), (1, I p1), (2, L a1 p2 c1), (3, L a2 p3 c2), (9, L a23 x10 c23), (65, I (len p2)), (66, I (w64 (s1.1 + 1)))] hF (by kernel_rfl) fun fr hF => then_normal ?_)
           have hs : Sep [sl3 (L a23 x10 c23) x10, BX b1 76 [I x9.2.c.Inputs, L a21 x9.2.c.Gates c21, .bool x9.2.full], sl59 (L a21 x9.2.c.Gates c21) x9.2.c.Gates] w11 S17 := Sep.pick [2, 0, 1] hs (by decide) rfl
           exact ⟨_, (Option.some.inj h).symm, a23, c23, a21, c21, S17, _, hF.sub _ (by kernel_rfl), hM1, hs⟩
         replace h := iteF hb h
         refine wp_seq (wp_pure [(0, B b1 0), (1, I p1), (2, L a1 p2 c1), (3, L a2 p3 c2), (9, L a17 s1.2.1 c17), (10, I s1.1), (65, I (len p2)), (66, I s1.1), (92, .bool (p1 == 9))] hF (by kernel_rfl) fun fr hF => then_normal ?_)
         refine (wp_if hF (b := (p1 == 9)) rfl (fun hb => ?_) (fun hb => ?_))
         · replace h := iteT hb h
           obtain ⟨x11, hx11, h⟩ := bindE h
           obtain ⟨x12, hx12, h⟩ := bindE h
           refine (region_bm 9 [0, 0, 0, 6, 14, 0, 0, 96, 224, 511, 1023] [true, true, true, false, false, true, true, false, false]
               [.eq (B b1 0), .eq (L a1 p2 c1), .eq (I s1.1), .is fun v w => ElemP w (fun k => k < w1i.heap.size) v (x11 : Int), .eq (I x11), .eq (L a2 p3 c2), .eq (I s1.1), .is fun v w => ElemP w (fun k => k < w1i.heap.size) v (x12 : Int), .eq (I x12), .any, .any]
               [(0, B b1 0), (1, I p1), (2, L a1 p2 c1), (3, L a2 p3 c2), (9, L a17 s1.2.1 c17), (65, I (len p2)), (66, I s1.1), (94, B b1 0), (98, I x11), (102, I x12)] mix hF (by kernel_rfl) (by kernel_rfl) (by kernel_rfl) (by kernel_rfl) ⟨(Pd.monoO_is mono_elem), Pd.monoO_eq, (Pd.monoO_is mono_elem), Pd.monoO_eq, trivial⟩ (fun ow hG => ⟨np_to ow (np_index hG hF ty3 Try.underlying37 rfl rfl (RV.sub (ra2) fun k hk _ => hk) rfl rfl (fun hg => ⟨get?_nn hx11, get?_at hx11⟩)), np_to ow (np_loadF (z := x11) (i := 3) hG hF ty3 rfl rfl rfl rfl rfl rfl rfl), np_to ow (np_index hG hF ty3 Try.underlying37 rfl rfl (RV.sub (ra3) fun k hk _ => hk) rfl rfl (fun hg => ⟨get?_nn hx12, get?_at hx12⟩)), np_to ow (np_loadF (z := x12) (i := 7) hG hF ty3 rfl rfl rfl rfl rfl rfl rfl), trivial⟩) (by kernel_rfl) fun ow fr w12 hF hE hc => ?_)
           have ra2 := ra2.ext hc
           have ra3 := ra3.ext hc
           have hs := hs.ext hc
           have hM1 := hM1.ext hc
           obtain ⟨x13, hx13, h⟩ := bindE h
           have hs : Sep [BX b1 76 [I s1.2.2.1, L a18 s1.2.2.2.2 c18, .bool s1.2.2.2.1], sl59 (L a18 s1.2.2.2.2 c18) s1.2.2.2.2, sl3 (L a17 s1.2.1 c17) s1.2.1] w12 S13 := Sep.pick [1, 2, 0] hs (by decide) rfl
           obtain ⟨A7, R7, hsA, hsR, hdA, hbA, hup⟩ := Sep.call (L1 := [BX b1 76 [I s1.2.2.1, L a18 s1.2.2.2.2 c18, .bool s1.2.2.2.1], sl59 (L a18 s1.2.2.2.2 c18) s1.2.2.2.2]) (L2 := [sl3 (L a17 s1.2.1 c17) s1.2.1]) hs hM1
           refine s_call [B b1 0, I x11, I x12] Try.call55 rfl rfl hF rfl (spec_l04Net_l04Or_ok n (D.l04Net.mk (D.Circuit.mk s1.2.2.1 s1.2.2.2.2) s1.2.2.2.1) x11 x12 hx13 hsA hbA hdA) fun v w13 fr hRes hF => ?_
           obtain ⟨a24, c24, rfl, _, hp, hs⟩ := hRes
           obtain ⟨S18, hp, hs⟩ := hup hp hs
           have ra2 := ra2.stp hM1 hp
           have ra3 := ra3.stp hM1 hp
           have hM1 := hM1.stp hp
           have hs : Sep [BX b1 76 [I x13.2.c.Inputs, L a24 x13.2.c.Gates c24, .bool x13.2.full], sl59 (L a24 x13.2.c.Gates c24) x13.2.c.Gates, sl3 (L a17 s1.2.1 c17) s1.2.1] w13 S18 := hs
           refine from_pure 1 [(0, B b1 0), (1, I p1), (2, L a1 p2 c1), (3, L a2 p3 c2), (9, L a17 s1.2.1 c17), (11, I x13.1), (65, I (len p2)), (66, I s1.1)] hF (by kernel_rfl) fun fr hF => ?_
           refine from_end rfl ?_
           refine blk_normal (then_normal ?_)
           refine (wp_text' ?_)
           refine from_pure 2 [(0, B b1 0), (1, I p1), (2, L a1 p2 c1), (3, L a2 p3 c2), (65, I (len p2)), (66, I s1.1), (104, L a17 s1.2.1 c17), (105, I x13.1)] hF (by kernel_rfl) fun fr hF => ?_
           refine q_lit (E := 3) hs hM1 [I x13.1] (([x13.1] : List Int).map Flat.enc) ([x13.1] : List Int) rfl rfl hF [I x13.1] rfl (fun w => by kernel_rfl) (css_flat _) rfl rfl rfl fun a25 c25 w14 S19 fr hs hp hF => ?_
           have ra2 := ra2.stp hM1 hp
           have ra3 := ra3.stp hM1 hp
           have hM1 := hM1.stp hp
           have hs : Sep [sl3 (L a25 ([x13.1] : List Int) c25) ([x13.1] : List Int), BX b1 76 [I x13.2.c.Inputs, L a24 x13.2.c.Gates c24, .bool x13.2.full], sl59 (L a24 x13.2.c.Gates c24) x13.2.c.Gates, sl3 (L a17 s1.2.1 c17) s1.2.1] w14 S19 := hs
           obtain ⟨x14, hx14, h⟩ := bindE h
           refine q_append 3 hs hM1 rfl Try.underlying37 el3 rfl rfl rfl hF rfl rfl (hs.rv 0 rfl) hx14 fun a26 c26 w15 S20 fr hs hp hF => ?_
           have ra2 := ra2.stp hM1 hp
           have ra3 := ra3.stp hM1 hp
           have hM1 := hM1.stp hp
           have hs : Sep [sl3 (L a25 ([x13.1] : List Int) c25) ([x13.1] : List Int), BX b1 76 [I x13.2.c.Inputs, L a24 x13.2.c.Gates c24, .bool x13.2.full], sl59 (L a24 x13.2.c.Gates c24) x13.2.c.Gates, sl3 (L a26 x14 c26) x14] w15 S20 := hs
           have hs : Sep [BX b1 76 [I x13.2.c.Inputs, L a24 x13.2.c.Gates c24, .bool x13.2.full], sl59 (L a24 x13.2.c.Gates c24) x13.2.c.Gates, sl3 (L a26 x14 c26) x14] w15 S20 := Sep.pick [1, 2, 3] hs (by decide) rfl
           refine from_pure 1 [(0, B b1 0), (1, I p1), (2, L a1 p2 c1), (3, L a2 p3 c2), (9, L a26 x14 c26), (65, I (len p2)), (66, I s1.1)] hF (by kernel_rfl) fun fr hF => ?_
           refine from_end rfl ?_
           refine blk_normal (then_normal ?_)
           refine (wp_pure [(0, B b1 0), (1, I p1), (2, L a1 p2 c1), (3, L a2 p3 c2), (9, L a26 x14 c26), (65, I (len p2)), (66, I (w64 (s1.1 + 1)))] hF (by kernel_rfl) fun fr hF => then_normal ?_)
           have hs : Sep [sl3 (L a26 x14 c26) x14, BX b1 76 [I x13.2.c.Inputs, L a24 x13.2.c.Gates c24, .bool x13.2.full], sl59 (L a24 x13.2.c.Gates c24) x13.2.c.Gates] w15 S20 := Sep.pick [2, 0, 1] hs (by decide) rfl
           exact ⟨_, (Option.some.inj h).symm, a26, c26, a24, c24, S20, _, hF.sub _ (by kernel_rfl), hM1, hs⟩
         replace h := iteF hb h
         obtain ⟨x15, hx15, h⟩ := bindE h
         obtain ⟨x16, hx16, h⟩ := bindE h
         refine (region_bm 9 [0, 0, 0, 6, 14, 0, 0, 96, 224, 511, 1023] [true, true, true, false, false, true, true, false, false]
             [.eq (B b1 0), .eq (L a1 p2 c1), .eq (I s1.1), .is fun v w => ElemP w (fun k => k < w1i.heap.size) v (x15 : Int), .eq (I x15), .eq (L a2 p3 c2), .eq (I s1.1), .is fun v w => ElemP w (fun k => k < w1i.heap.size) v (x16 : Int), .eq (I x16), .any, .any]
             [(0, B b1 0), (1, I p1), (2, L a1 p2 c1), (3, L a2 p3 c2), (9, L a17 s1.2.1 c17), (65, I (len p2)), (66, I s1.1), (70, B b1 0), (74, I x15), (78, I x16)] mix hF (by kernel_rfl) (by kernel_rfl) (by kernel_rfl) (by kernel_rfl) ⟨(Pd.monoO_is mono_elem), Pd.monoO_eq, (Pd.monoO_is mono_elem), Pd.monoO_eq, trivial⟩ (fun ow hG => ⟨np_to ow (np_index hG hF ty3 Try.underlying37 rfl rfl (RV.sub (ra2) fun k hk _ => hk) rfl rfl (fun hg => ⟨get?_nn hx15, get?_at hx15⟩)), np_to ow (np_loadF (z := x15) (i := 3) hG hF ty3 rfl rfl rfl rfl rfl rfl rfl), np_to ow (np_index hG hF ty3 Try.underlying37 rfl rfl (RV.sub (ra3) fun k hk _ => hk) rfl rfl (fun hg => ⟨get?_nn hx16, get?_at hx16⟩)), np_to ow (np_loadF (z := x16) (i := 7) hG hF ty3 rfl rfl rfl rfl rfl rfl rfl), trivial⟩) (by kernel_rfl) fun ow fr w16 hF hE hc => ?_)
         have ra2 := ra2.ext hc
         have ra3 := ra3.ext hc
         have hs := hs.ext hc
         have hM1 := hM1.ext hc
         obtain ⟨x17, hx17, h⟩ := bindE h
         have hs : Sep [BX b1 76 [I s1.2.2.1, L a18 s1.2.2.2.2 c18, .bool s1.2.2.2.1], sl59 (L a18 s1.2.2.2.2 c18) s1.2.2.2.2, sl3 (L a17 s1.2.1 c17) s1.2.1] w16 S13 := Sep.pick [1, 2, 0] hs (by decide) rfl
         obtain ⟨A8, R8, hsA, hsR, hdA, hbA, hup⟩ := Sep.call (L1 := [BX b1 76 [I s1.2.2.1, L a18 s1.2.2.2.2 c18, .bool s1.2.2.2.1], sl59 (L a18 s1.2.2.2.2 c18) s1.2.2.2.2]) (L2 := [sl3 (L a17 s1.2.1 c17) s1.2.1]) hs hM1
         refine s_call [B b1 0, I x15, I x16] Try.call58 rfl rfl hF rfl (spec_l04Net_l04Xor_ok n (D.l04Net.mk (D.Circuit.mk s1.2.2.1 s1.2.2.2.2) s1.2.2.2.1) x15 x16 hx17 hsA hbA hdA) fun v w17 fr hRes hF => ?_
         obtain ⟨a27, c27, rfl, _, hp, hs⟩ := hRes
         obtain ⟨S21, hp, hs⟩ := hup hp hs
         have ra2 := ra2.stp hM1 hp
         have ra3 := ra3.stp hM1 hp
         have hM1 := hM1.stp hp
         have hs : Sep [BX b1 76 [I x17.2.c.Inputs, L a27 x17.2.c.Gates c27, .bool x17.2.full], sl59 (L a27 x17.2.c.Gates c27) x17.2.c.Gates, sl3 (L a17 s1.2.1 c17) s1.2.1] w17 S21 := hs
         refine from_pure 1 [(0, B b1 0), (1, I p1), (2, L a1 p2 c1), (3, L a2 p3 c2), (9, L a17 s1.2.1 c17), (11, I x17.1), (65, I (len p2)), (66, I s1.1)] hF (by kernel_rfl) fun fr hF => ?_
         refine from_end rfl ?_
         refine blk_normal (then_normal ?_)
         refine (wp_text' ?_)
         refine from_pure 2 [(0, B b1 0), (1, I p1), (2, L a1 p2 c1), (3, L a2 p3 c2), (65, I (len p2)), (66, I s1.1), (104, L a17 s1.2.1 c17), (105, I x17.1)] hF (by kernel_rfl) fun fr hF => ?_
         refine q_lit (E := 3) hs hM1 [I x17.1] (([x17.1] : List Int).map Flat.enc) ([x17.1] : List Int) rfl rfl hF [I x17.1] rfl (fun w => by kernel_rfl) (css_flat _) rfl rfl rfl fun a28 c28 w18 S22 fr hs hp hF => ?_
         have ra2 := ra2.stp hM1 hp
         have ra3 := ra3.stp hM1 hp
         have hM1 := hM1.stp hp
         have hs : Sep [sl3 (L a28 ([x17.1] : List Int) c28) ([x17.1] : List Int), BX b1 76 [I x17.2.c.Inputs, L a27 x17.2.c.Gates c27, .bool x17.2.full], sl59 (L a27 x17.2.c.Gates c27) x17.2.c.Gates, sl3 (L a17 s1.2.1 c17) s1.2.1] w18 S22 := hs
         obtain ⟨x18, hx18, h⟩ := bindE h
         refine q_append 3 hs hM1 rfl Try.underlying37 el3 rfl rfl rfl hF rfl rfl (hs.rv 0 rfl) hx18 fun a29 c29 w19 S23 fr hs hp hF => ?_
         have ra2 := ra2.stp hM1 hp
         have ra3 := ra3.stp hM1 hp
         have hM1 := hM1.stp hp
         have hs : Sep [sl3 (L a28 ([x17.1] : List Int) c28) ([x17.1] : List Int), BX b1 76 [I x17.2.c.Inputs, L a27 x17.2.c.Gates c27, .bool x17.2.full], sl59 (L a27 x17.2.c.Gates c27) x17.2.c.Gates, sl3 (L a29 x18 c29) x18] w19 S23 := hs
         have hs : Sep [BX b1 76 [I x17.2.c.Inputs, L a27 x17.2.c.Gates c27, .bool x17.2.full], sl59 (L a27 x17.2.c.Gates c27) x17.2.c.Gates, sl3 (L a29 x18 c29) x18] w19 S23 := Sep.pick [1, 2, 3] hs (by decide) rfl
         refine from_pure 1 [(0, B b1 0), (1, I p1), (2, L a1 p2 c1), (3, L a2 p3 c2), (9, L a29 x18 c29), (65, I (len p2)), (66, I s1.1)] hF (by kernel_rfl) fun fr hF => ?_
         refine from_end rfl ?_
         refine blk_normal (then_normal ?_)
         refine (wp_pure [(0, B b1 0), (1, I p1), (2, L a1 p2 c1), (3, L a2 p3 c2), (9, L a29 x18 c29), (65, I (len p2)), (66, I (w64 (s1.1 + 1)))] hF (by kernel_rfl) fun fr hF => then_normal ?_)
         have hs : Sep [sl3 (L a29 x18 c29) x18, BX b1 76 [I x17.2.c.Inputs, L a27 x17.2.c.Gates c27, .bool x17.2.full], sl59 (L a27 x17.2.c.Gates c27) x17.2.c.Gates] w19 S23 := Sep.pick [2, 0, 1] hs (by decide) rfl
         exact ⟨_, (Option.some.inj h).symm, a29, c29, a27, c27, S23, _, hF.sub _ (by kernel_rfl), hM1, hs⟩
       replace h := iteF hb h
       refine (wp_exit (then_exit (then_exit (blk_exit_eq ?_))))
       obtain rfl := hr1 _ (Option.some.inj h).symm
       exact then_normal ⟨a17, c17, a18, c18, S13, _, hF.sub _ (by kernel_rfl), hM1, hs⟩
     · obtain ⟨a19, c19, a20, c20, S14, F7, hF, hMx, hs⟩ := hM
       have hM0 := hM0.trans hMx
       refine blk_normal (then_normal ?_)
       refine wp_seq (wp_pure [(8, L a19 rl1.1 c19)] hF (by kernel_rfl) fun fr hF => then_normal ?_)
       obtain rfl := Option.some.inj h
       obtain ⟨S24, F8, hMn, hs, r6, hfz⟩ := Sep.freeze hs hM0
       have r6 := SL.rv r6
       have hM0 := hMn
       exact wp_ret (ret1 rfl hF rfl ⟨_, rfl, _, a20, c20, rfl, S24, _, hM0.out, hs, hM0.rvF, (r6)⟩)
   replace h := iteF hb h
   refine wp_seq ?_
   refine wp_seq (wp_pure [(0, B b1 0), (1, I p1), (2, L a1 p2 c1), (3, L a2 p3 c2), (9, L a3 ([] : List Int) c3), (16, I p1), (109, .bool (p1 == 11))] hF (by kernel_rfl) fun fr hF => then_normal ?_)
   refine (wp_if hF (b := (p1 == 11)) rfl (fun hb => ?_) (fun hb => ?_))
   · replace h := iteT hb h
     refine (wp_skip (then_normal ?_))
     refine (wp_if hF (b := (p1 == 11)) rfl (fun hb => ?_) (fun hb => ?_))
     · replace h := iteT hb h
       have hs : Sep [BX b1 76 [I p0.c.Inputs, L pa0 p0.c.Gates pc0, .bool p0.full], sl59 (L pa0 p0.c.Gates pc0) p0.c.Gates] w1 S1 := Sep.pick [1, 2] hs (by decide) rfl
       refine (wp_text' ?_)
       refine from_pure 4 [(113, B b1 0), (114, I p1), (115, L a1 p2 c1), (116, L a2 p3 c2)] hF (by kernel_rfl) fun fr hF => ?_
       obtain ⟨x19, hx19, h⟩ := bindE h
       obtain ⟨A9, R9, hsA, hsR, hdA, hbA, hup⟩ := Sep.call2 (L1 := [BX b1 76 [I p0.c.Inputs, L pa0 p0.c.Gates pc0, .bool p0.full], sl59 (L pa0 p0.c.Gates pc0) p0.c.Gates]) (L2 := []) hs hM0
       refine s_call [B b1 0, I p1, L a1 p2 c1, L a2 p3 c2] Try.call92 rfl rfl hF rfl (spec_l04Net_l04Shift_ok n p0 p1 p2 p3 hx19 hsA hbA hdA (ra2) (ra3)) fun v w20 fr hRes hF => ?_
       obtain ⟨v1, a30, c30, rfl, _, _, hp, hs, hvF, r7⟩ := hRes
       obtain ⟨S25, F9, hp, hs, hMn, hfz, hnw⟩ := hup hp hs hvF
       have ra2 := (ra2.stp hM0 hp).big hfz
       have ra3 := (ra3.stp hM0 hp).big hfz
       have hM0 := hMn
       have hs : Sep [BX b1 76 [I x19.2.c.Inputs, L a30 x19.2.c.Gates c30, .bool x19.2.full], sl59 (L a30 x19.2.c.Gates c30) x19.2.c.Gates] w20 S25 := hs
       have r7 := r7.big hnw
       obtain ⟨a31, c31, rfl, -⟩ := r7.slice
       refine from_pure 1 [(9, L a31 x19.1 c31)] hF (by kernel_rfl) fun fr hF => ?_
       refine from_end rfl ?_
       refine blk_normal (then_normal ?_)
       refine wp_seq (wp_pure [(8, L a31 x19.1 c31)] hF (by kernel_rfl) fun fr hF => then_normal ?_)
       obtain rfl := Option.some.inj h
       exact wp_ret (ret1 rfl hF rfl ⟨_, rfl, _, a30, c30, rfl, S25, _, hM0.out, hs, hM0.rvF, (r7)⟩)
     replace h := iteF hb h
     refine wp_seq (wp_pure [(0, B b1 0), (2, L a1 p2 c1), (3, L a2 p3 c2), (9, L a3 ([] : List Int) c3), (16, I p1), (118, .bool (p1 == 14))] hF (by kernel_rfl) fun fr hF => then_normal ?_)
     refine (wp_if hF (b := (p1 == 14)) rfl (fun hb => ?_) (fun hb => ?_))
     · replace h := iteT hb h
       have hs : Sep [BX b1 76 [I p0.c.Inputs, L pa0 p0.c.Gates pc0, .bool p0.full], sl59 (L pa0 p0.c.Gates pc0) p0.c.Gates] w1 S1 := Sep.pick [1, 2] hs (by decide) rfl
       refine wp_seq (wp_pure [(0, B b1 0), (2, L a1 p2 c1), (3, L a2 p3 c2), (12, I 1)] hF (by kernel_rfl) fun fr hF => then_normal ?_)
       refine wp_seq ?_
       refine wp_seq (wp_pure [(0, B b1 0), (2, L a1 p2 c1), (3, L a2 p3 c2), (12, I 1), (121, I (len p2)), (122, I 0)] hF (by kernel_rfl) fun fr hF => then_normal ?_)
       obtain ⟨rl2, hit2, h⟩ := bindE h
       have hk2 := h
       refine (wp_cut (M := fun fr w' => ∃ a33 c33 S27 F11, FrS 160 [(12, I rl2.1)] fr ∧ Mem w1 S1 (fun k => F0 k ∧ k < w.heap.size) w' S27 F11 ∧ Sep [BX b1 76 [I rl2.2.1, L a33 rl2.2.2.2 c33, .bool rl2.2.2.1], sl59 (L a33 rl2.2.2.2 c33) rl2.2.2.2] w' S27) (wp_block (wp_iter (Inv := fun s2 fr w' => ∃ a32 c32 S26 F10, FrS 160 [(0, B b1 0), (2, L a1 p2 c1), (3, L a2 p3 c2), (12, I s2.1), (121, I (len p2)), (122, I s2.2.1)] fr ∧ Mem w1 S1 (fun k => F0 k ∧ k < w.heap.size) w' S26 F10 ∧ Sep [BX b1 76 [I s2.2.2.1, L a32 s2.2.2.2.2 c32, .bool s2.2.2.2.1], sl59 (L a32 s2.2.2.2.2 c32) s2.2.2.2.2] w' S26) hit2 ⟨pa0, pc0, S1, _, hF.sub _ (by kernel_rfl), (Mem.start hM0.bd hM0.bdF hM0.dj), hs⟩ fun s2 q2 fr w2i hI h hr2 => ?_)) fun fr w2o hM => ?_)
       · obtain ⟨a32, c32, S26, F10, hF, hM1, hs⟩ := hI
         have ra2 := ra2.mem hM1
         have ra3 := ra3.mem hM1
         refine wp_seq (wp_pure [(0, B b1 0), (2, L a1 p2 c1), (3, L a2 p3 c2), (12, I s2.1), (121, I (len p2)), (122, I s2.2.1), (123, .bool (decide (s2.2.1 < (len p2))))] hF (by kernel_rfl) fun fr hF => then_normal ?_)
         refine wp_seq (wp_if hF (b := (decide (s2.2.1 < (len p2)))) rfl (fun hb => ?_) (fun hb => ?_))
         · replace h := iteT hb h
           refine (wp_skip (then_normal ?_))
           refine wp_seq (wp_block ?_)
           refine wp_seq (wp_pure [(0, B b1 0), (2, L a1 p2 c1), (3, L a2 p3 c2), (12, I s2.1), (13, I s2.2.1), (121, I (len p2)), (122, I s2.2.1)] hF (by kernel_rfl) fun fr hF => then_normal ?_)
           obtain ⟨x20, hx20, h⟩ := bindE h
           obtain ⟨x21, hx21, h⟩ := bindE h
           refine wp_seq (region_bm 9 [0, 0, 0, 6, 14, 0, 0, 96, 224, 511, 1023] [true, true, true, false, false, true, true, false, false]
               [.eq (B b1 0), .eq (L a1 p2 c1), .eq (I s2.2.1), .is fun v w => ElemP w (fun k => k < w2i.heap.size) v (x20 : Int), .eq (I x20), .eq (L a2 p3 c2), .eq (I s2.2.1), .is fun v w => ElemP w (fun k => k < w2i.heap.size) v (x21 : Int), .eq (I x21), .any, .any]
               [(0, B b1 0), (2, L a1 p2 c1), (3, L a2 p3 c2), (12, I s2.1), (121, I (len p2)), (122, I s2.2.1), (125, B b1 0), (129, I x20), (133, I x21)] mix hF (by kernel_rfl) (by kernel_rfl) (by kernel_rfl) (by kernel_rfl) ⟨(Pd.monoO_is mono_elem), Pd.monoO_eq, (Pd.monoO_is mono_elem), Pd.monoO_eq, trivial⟩ (fun ow hG => ⟨np_to ow (np_index hG hF ty3 Try.underlying37 rfl rfl (RV.sub (ra2) fun k hk _ => hk) rfl rfl (fun hg => ⟨get?_nn hx20, get?_at hx20⟩)), np_to ow (np_loadF (z := x20) (i := 3) hG hF ty3 rfl rfl rfl rfl rfl rfl rfl), np_to ow (np_index hG hF ty3 Try.underlying37 rfl rfl (RV.sub (ra3) fun k hk _ => hk) rfl rfl (fun hg => ⟨get?_nn hx21, get?_at hx21⟩)), np_to ow (np_loadF (z := x21) (i := 7) hG hF ty3 rfl rfl rfl rfl rfl rfl rfl), trivial⟩) (by kernel_rfl) fun ow fr w21 hF hE hc => ?_)
           have ra2 := ra2.ext hc
           have ra3 := ra3.ext hc
           have hs := hs.ext hc
           have hM1 := hM1.ext hc
           obtain ⟨x22, hx22, h⟩ := bindE h
           obtain ⟨A10, R10, hsA, hsR, hdA, hbA, hup⟩ := Sep.call (L1 := [BX b1 76 [I s2.2.2.1, L a32 s2.2.2.2.2 c32, .bool s2.2.2.2.1], sl59 (L a32 s2.2.2.2.2 c32) s2.2.2.2.2]) (L2 := []) hs hM1
           refine s_call [B b1 0, I x20, I x21] Try.call58 rfl rfl hF rfl (spec_l04Net_l04Xor_ok n (D.l04Net.mk (D.Circuit.mk s2.2.2.1 s2.2.2.2.2) s2.2.2.2.1) x20 x21 hx22 hsA hbA hdA) fun v w22 fr hRes hF => ?_
           obtain ⟨a34, c34, rfl, _, hp, hs⟩ := hRes
           obtain ⟨S28, hp, hs⟩ := hup hp hs
           have ra2 := ra2.stp hM1 hp
           have ra3 := ra3.stp hM1 hp
           have hM1 := hM1.stp hp
           have hs : Sep [BX b1 76 [I x22.2.c.Inputs, L a34 x22.2.c.Gates c34, .bool x22.2.full], sl59 (L a34 x22.2.c.Gates c34) x22.2.c.Gates] w22 S28 := hs
           refine from_pure 1 [(0, B b1 0), (2, L a1 p2 c1), (3, L a2 p3 c2), (12, I s2.1), (14, I x22.1), (121, I (len p2)), (122, I s2.2.1)] hF (by kernel_rfl) fun fr hF => ?_
           refine from_end rfl (then_normal ?_)
           refine (wp_text' ?_)
           refine from_pure 4 [(0, B b1 0), (2, L a1 p2 c1), (3, L a2 p3 c2), (121, I (len p2)), (122, I s2.2.1), (135, B b1 0), (136, I s2.1), (138, I (w64 (0 - x22.1)))] hF (by kernel_rfl) fun fr hF => ?_
           obtain ⟨x23, hx23, h⟩ := bindE h
           obtain ⟨A11, R11, hsA, hsR, hdA, hbA, hup⟩ := Sep.call (L1 := [BX b1 76 [I x22.2.c.Inputs, L a34 x22.2.c.Gates c34, .bool x22.2.full], sl59 (L a34 x22.2.c.Gates c34) x22.2.c.Gates]) (L2 := []) hs hM1
           refine s_call [B b1 0, I s2.1, I (w64 (0 - x22.1))] Try.call46 rfl rfl hF rfl (spec_l04Net_l04And_ok n x22.2 s2.1 (w64 (0 - x22.1)) hx23 hsA hbA hdA) fun v w23 fr hRes hF => ?_
           obtain ⟨a35, c35, rfl, _, hp, hs⟩ := hRes
           obtain ⟨S29, hp, hs⟩ := hup hp hs
           have ra2 := ra2.stp hM1 hp
           have ra3 := ra3.stp hM1 hp
           have hM1 := hM1.stp hp
           have hs : Sep [BX b1 76 [I x23.2.c.Inputs, L a35 x23.2.c.Gates c35, .bool x23.2.full], sl59 (L a35 x23.2.c.Gates c35) x23.2.c.Gates] w23 S29 := hs
           refine from_pure 1 [(0, B b1 0), (2, L a1 p2 c1), (3, L a2 p3 c2), (12, I x23.1), (121, I (len p2)), (122, I s2.2.1)] hF (by kernel_rfl) fun fr hF => ?_
           refine from_end rfl ?_
           refine blk_normal (then_normal ?_)
           refine (wp_pure [(0, B b1 0), (2, L a1 p2 c1), (3, L a2 p3 c2), (12, I x23.1), (121, I (len p2)), (122, I (w64 (s2.2.1 + 1)))] hF (by kernel_rfl) fun fr hF => then_normal ?_)
           exact ⟨_, (Option.some.inj h).symm, a35, c35, S29, _, hF.sub _ (by kernel_rfl), hM1, hs⟩
         replace h := iteF hb h
         refine (wp_exit (then_exit (then_exit (blk_exit_eq ?_))))
         obtain rfl := hr2 _ (Option.some.inj h).symm
         exact then_normal ⟨a32, c32, S26, _, hF.sub _ (by kernel_rfl), hM1, hs⟩
       · obtain ⟨a33, c33, S27, F11, hF, hMx, hs⟩ := hM
         have hM0 := hM0.trans hMx
         refine (wp_text' ?_)
         refine from_pure 1 [(141, I rl2.1)] hF (by kernel_rfl) fun fr hF => ?_
         refine q_lit (E := 3) hs hM0 [I rl2.1] (([rl2.1] : List Int).map Flat.enc) ([rl2.1] : List Int) rfl rfl hF [I rl2.1] rfl (fun w => by kernel_rfl) (css_flat _) rfl rfl rfl fun a36 c36 w24 S30 fr hs hp hF => ?_
         have hM0 := hM0.stp hp
         have hs : Sep [sl3 (L a36 ([rl2.1] : List Int) c36) ([rl2.1] : List Int), BX b1 76 [I rl2.2.1, L a33 rl2.2.2.2 c33, .bool rl2.2.2.1], sl59 (L a33 rl2.2.2.2 c33) rl2.2.2.2] w24 S30 := hs
         refine from_pure 1 [(9, L a36 ([rl2.1] : List Int) c36)] hF (by kernel_rfl) fun fr hF => ?_
         refine from_end rfl ?_
         refine blk_normal (then_normal ?_)
         refine wp_seq (wp_pure [(8, L a36 ([rl2.1] : List Int) c36)] hF (by kernel_rfl) fun fr hF => then_normal ?_)
         obtain rfl := Option.some.inj h
         obtain ⟨S31, F12, hMn, hs, r8, hfz⟩ := Sep.freeze hs hM0
         have r8 := SL.rv r8
         have hM0 := hMn
         exact wp_ret (ret1 rfl hF rfl ⟨_, rfl, _, a33, c33, rfl, S31, _, hM0.out, hs, hM0.rvF, (r8)⟩)
     replace h := iteF hb h
     refine wp_seq (wp_pure [(0, B b1 0), (2, L a1 p2 c1), (3, L a2 p3 c2), (9, L a3 ([] : List Int) c3), (16, I p1), (143, .bool (p1 == 15))] hF (by kernel_rfl) fun fr hF => then_normal ?_)
     refine (wp_if hF (b := (p1 == 15)) rfl (fun hb => ?_) (fun hb => ?_))
     · replace h := iteT hb h
       have hs : Sep [BX b1 76 [I p0.c.Inputs, L pa0 p0.c.Gates pc0, .bool p0.full], sl59 (L pa0 p0.c.Gates pc0) p0.c.Gates] w1 S1 := Sep.pick [1, 2] hs (by decide) rfl
       refine (wp_text' ?_)
       refine from_pure 3 [(145, B b1 0), (146, L a1 p2 c1), (147, L a2 p3 c2)] hF (by kernel_rfl) fun fr hF => ?_
       obtain ⟨x24, hx24, h⟩ := bindE h
       obtain ⟨A12, R12, hsA, hsR, hdA, hbA, hup⟩ := Sep.call (L1 := [BX b1 76 [I p0.c.Inputs, L pa0 p0.c.Gates pc0, .bool p0.full], sl59 (L pa0 p0.c.Gates pc0) p0.c.Gates]) (L2 := []) hs hM0
       refine s_call [B b1 0, L a1 p2 c1, L a2 p3 c2] Try.call93 rfl rfl hF rfl (spec_l04Net_l04Less_ok n p0 p2 p3 hx24 hsA hbA hdA (ra2.big (fun _ h => .inl h)) (ra3.big (fun _ h => .inl h))) fun v w25 fr hRes hF => ?_
       obtain ⟨a37, c37, rfl, _, hp, hs⟩ := hRes
       obtain ⟨S32, hp, hs⟩ := hup hp hs
       have ra2 := ra2.stp hM0 hp
       have ra3 := ra3.stp hM0 hp
       have hM0 := hM0.stp hp
       have hs : Sep [BX b1 76 [I x24.2.c.Inputs, L a37 x24.2.c.Gates c37, .bool x24.2.full], sl59 (L a37 x24.2.c.Gates c37) x24.2.c.Gates] w25 S32 := hs
       refine q_lit (E := 3) hs hM0 [I x24.1] (([x24.1] : List Int).map Flat.enc) ([x24.1] : List Int) rfl rfl hF [I x24.1] rfl (fun w => by kernel_rfl) (css_flat _) rfl rfl rfl fun a38 c38 w26 S33 fr hs hp hF => ?_
       have hM0 := hM0.stp hp
       have hs : Sep [sl3 (L a38 ([x24.1] : List Int) c38) ([x24.1] : List Int), BX b1 76 [I x24.2.c.Inputs, L a37 x24.2.c.Gates c37, .bool x24.2.full], sl59 (L a37 x24.2.c.Gates c37) x24.2.c.Gates] w26 S33 := hs
       refine from_pure 1 [(9, L a38 ([x24.1] : List Int) c38)] hF (by kernel_rfl) fun fr hF => ?_
       refine from_end rfl ?_
       refine blk_normal (then_normal ?_)
       refine wp_seq (wp_pure [(8, L a38 ([x24.1] : List Int) c38)] hF (by kernel_rfl) fun fr hF => then_normal ?_)
       obtain rfl := Option.some.inj h
       obtain ⟨S34, F13, hMn, hs, r9, hfz⟩ := Sep.freeze hs hM0
       have r9 := SL.rv r9
       have hM0 := hMn
       exact wp_ret (ret1 rfl hF rfl ⟨_, rfl, _, a37, c37, rfl, S34, _, hM0.out, hs, hM0.rvF, (r9)⟩)
     replace h := iteF hb h
     refine wp_seq (wp_pure [(0, B b1 0), (2, L a1 p2 c1), (3, L a2 p3 c2), (9, L a3 ([] : List Int) c3), (150, .bool (p1 == 16))] hF (by kernel_rfl) fun fr hF => then_normal ?_)
     refine (wp_if hF (b := (p1 == 16)) rfl (fun hb => ?_) (fun hb => ?_))
     · replace h := iteT hb h
       have hs : Sep [BX b1 76 [I p0.c.Inputs, L pa0 p0.c.Gates pc0, .bool p0.full], sl59 (L pa0 p0.c.Gates pc0) p0.c.Gates] w1 S1 := Sep.pick [1, 2] hs (by decide) rfl
       refine (wp_text' ?_)
       refine from_pure 2 [(3, L a2 p3 c2), (152, B b1 0), (153, L a1 p2 c1)] hF (by kernel_rfl) fun fr hF => ?_
       obtain ⟨x25, hx25, h⟩ := bindE h
       refine s_call [L a1 p2 c1] Try.call94 rfl rfl hF rfl (spec_l04Flip_ok p2 hx25 (ra2)) fun v w27 fr hRes hF => ?_
       obtain ⟨a39, c39, rfl, _, hp, hs2⟩ := hRes
       obtain ⟨S35, hp, hs⟩ := hs.got hM0 hp hs2
       have ra3 := ra3.stp hM0 hp
       have ra2 := ra2.stp hM0 hp
       have hM0 := hM0.stp hp
       have hs : Sep [sl3 (L a39 x25 c39) x25, BX b1 76 [I p0.c.Inputs, L pa0 p0.c.Gates pc0, .bool p0.full], sl59 (L pa0 p0.c.Gates pc0) p0.c.Gates] w27 S35 := hs
       refine from_pure 1 [(152, B b1 0), (154, L a39 x25 c39), (155, L a2 p3 c2)] hF (by kernel_rfl) fun fr hF => ?_
       obtain ⟨x26, hx26, h⟩ := bindE h
       refine s_call [L a2 p3 c2] Try.call94 rfl rfl hF rfl (spec_l04Flip_ok p3 hx26 (ra3)) fun v w28 fr hRes hF => ?_
       obtain ⟨a40, c40, rfl, _, hp, hs2⟩ := hRes
       obtain ⟨S36, hp, hs⟩ := hs.got hM0 hp hs2
       have ra3 := ra3.stp hM0 hp
       have hM0 := hM0.stp hp
       have hs : Sep [sl3 (L a40 x26 c40) x26, sl3 (L a39 x25 c39) x25, BX b1 76 [I p0.c.Inputs, L pa0 p0.c.Gates pc0, .bool p0.full], sl59 (L pa0 p0.c.Gates pc0) p0.c.Gates] w28 S36 := hs
       obtain ⟨x27, hx27, h⟩ := bindE h
       have hs : Sep [BX b1 76 [I p0.c.Inputs, L pa0 p0.c.Gates pc0, .bool p0.full], sl59 (L pa0 p0.c.Gates pc0) p0.c.Gates, sl3 (L a40 x26 c40) x26, sl3 (L a39 x25 c39) x25] w28 S36 := Sep.pick [2, 3, 0, 1] hs (by decide) rfl
       obtain ⟨A13, R13, hsA, hsR, hdA, hbA, hup⟩ := Sep.call (L1 := [BX b1 76 [I p0.c.Inputs, L pa0 p0.c.Gates pc0, .bool p0.full], sl59 (L pa0 p0.c.Gates pc0) p0.c.Gates]) (L2 := [sl3 (L a40 x26 c40) x26, sl3 (L a39 x25 c39) x25]) hs hM0
       refine s_call [B b1 0, L a39 x25 c39, L a40 x26 c40] Try.call93 rfl rfl hF rfl (spec_l04Net_l04Less_ok n p0 x25 x26 hx27 hsA hbA hdA ((hsR.rv 1 rfl).big (fun _ h => .inr h)) ((hsR.rv 0 rfl).big (fun _ h => .inr h))) fun v w29 fr hRes hF => ?_
       obtain ⟨a41, c41, rfl, _, hp, hs⟩ := hRes
       obtain ⟨S37, hp, hs⟩ := hup hp hs
       have hM0 := hM0.stp hp
       have hs : Sep [BX b1 76 [I x27.2.c.Inputs, L a41 x27.2.c.Gates c41, .bool x27.2.full], sl59 (L a41 x27.2.c.Gates c41) x27.2.c.Gates, sl3 (L a40 x26 c40) x26, sl3 (L a39 x25 c39) x25] w29 S37 := hs
       have hs : Sep [BX b1 76 [I x27.2.c.Inputs, L a41 x27.2.c.Gates c41, .bool x27.2.full], sl59 (L a41 x27.2.c.Gates c41) x27.2.c.Gates] w29 S37 := Sep.pick [0, 1] hs (by decide) rfl
       refine q_lit (E := 3) hs hM0 [I x27.1] (([x27.1] : List Int).map Flat.enc) ([x27.1] : List Int) rfl rfl hF [I x27.1] rfl (fun w => by kernel_rfl) (css_flat _) rfl rfl rfl fun a42 c42 w30 S38 fr hs hp hF => ?_
       have hM0 := hM0.stp hp
       have hs : Sep [sl3 (L a42 ([x27.1] : List Int) c42) ([x27.1] : List Int), BX b1 76 [I x27.2.c.Inputs, L a41 x27.2.c.Gates c41, .bool x27.2.full], sl59 (L a41 x27.2.c.Gates c41) x27.2.c.Gates] w30 S38 := hs
       refine from_pure 1 [(9, L a42 ([x27.1] : List Int) c42)] hF (by kernel_rfl) fun fr hF => ?_
       refine from_end rfl ?_
       refine blk_normal (then_normal ?_)
       refine wp_seq (wp_pure [(8, L a42 ([x27.1] : List Int) c42)] hF (by kernel_rfl) fun fr hF => then_normal ?_)
       obtain rfl := Option.some.inj h
       obtain ⟨S39, F14, hMn, hs, r10, hfz⟩ := Sep.freeze hs hM0
       have r10 := SL.rv r10
       have hM0 := hMn
       exact wp_ret (ret1 rfl hF rfl ⟨_, rfl, _, a41, c41, rfl, S39, _, hM0.out, hs, hM0.rvF, (r10)⟩)
     replace h := iteF hb h
     refine (wp_skip ?_)
     refine blk_normal (then_normal ?_)
     refine wp_seq (wp_pure [(8, L a3 ([] : List Int) c3)] hF (by kernel_rfl) fun fr hF => then_normal ?_)
     obtain rfl := Option.some.inj h
     obtain ⟨S40, F15, hMn, hs, r11, hfz⟩ := Sep.freeze hs hM0
     have r11 := SL.rv r11
     have hM0 := hMn
     exact wp_ret (ret1 rfl hF rfl ⟨_, rfl, _, pa0, pc0, rfl, S40, _, hM0.out, hs, hM0.rvF, (r11)⟩)
   replace h := iteF hb h
   refine wp_seq (wp_pure [(0, B b1 0), (1, I p1), (2, L a1 p2 c1), (3, L a2 p3 c2), (9, L a3 ([] : List Int) c3), (16, I p1), (109, .bool (p1 == 12))] hF (by kernel_rfl) fun fr hF => then_normal ?_)
   refine (wp_merge [(0, B b1 0), (1, I p1), (2, L a1 p2 c1), (3, L a2 p3 c2), (9, L a3 ([] : List Int) c3), (16, I p1), (109, .bool ((p1 == 12) || (p1 == 13)))] hF (b := (p1 == 12)) rfl (fun hb => ?_) (fun hb => ?_) fun fr hF => then_normal ?_)
   · exact wp_skip ⟨rfl, rfl, (hF.sub [(0, B b1 0), (1, I p1), (2, L a1 p2 c1), (3, L a2 p3 c2), (9, L a3 ([] : List Int) c3), (16, I p1), (109, .bool (p1 == 12))] (by kernel_rfl)).eqs (by first | (simp only [hb]; done) | (simp only [hb]; rfl))⟩
   · exact wp_pure [(0, B b1 0), (1, I p1), (2, L a1 p2 c1), (3, L a2 p3 c2), (9, L a3 ([] : List Int) c3), (16, I p1), (109, .bool (p1 == 13))] hF (by kernel_rfl) fun fr hF => ⟨rfl, rfl, hF.eqs (by first | (simp only [hb]; done) | (simp only [hb]; rfl))⟩
   refine (wp_if hF (b := ((p1 == 12) || (p1 == 13))) rfl (fun hb => ?_) (fun hb => ?_))
   · replace h := iteT hb h
     have hs : Sep [BX b1 76 [I p0.c.Inputs, L pa0 p0.c.Gates pc0, .bool p0.full], sl59 (L pa0 p0.c.Gates pc0) p0.c.Gates] w1 S1 := Sep.pick [1, 2] hs (by decide) rfl
     refine (wp_text' ?_)
     refine from_pure 4 [(113, B b1 0), (114, I p1), (115, L a1 p2 c1), (116, L a2 p3 c2)] hF (by kernel_rfl) fun fr hF => ?_
     obtain ⟨x28, hx28, h⟩ := bindE h
     obtain ⟨A14, R14, hsA, hsR, hdA, hbA, hup⟩ := Sep.call2 (L1 := [BX b1 76 [I p0.c.Inputs, L pa0 p0.c.Gates pc0, .bool p0.full], sl59 (L pa0 p0.c.Gates pc0) p0.c.Gates]) (L2 := []) hs hM0
     refine s_call [B b1 0, I p1, L a1 p2 c1, L a2 p3 c2] Try.call92 rfl rfl hF rfl (spec_l04Net_l04Shift_ok n p0 p1 p2 p3 hx28 hsA hbA hdA (ra2) (ra3)) fun v w31 fr hRes hF => ?_
     obtain ⟨v2, a43, c43, rfl, _, _, hp, hs, hvF, r12⟩ := hRes
     obtain ⟨S41, F16, hp, hs, hMn, hfz, hnw⟩ := hup hp hs hvF
     have ra2 := (ra2.stp hM0 hp).big hfz
     have ra3 := (ra3.stp hM0 hp).big hfz
     have hM0 := hMn
     have hs : Sep [BX b1 76 [I x28.2.c.Inputs, L a43 x28.2.c.Gates c43, .bool x28.2.full], sl59 (L a43 x28.2.c.Gates c43) x28.2.c.Gates] w31 S41 := hs
     have r12 := r12.big hnw
     obtain ⟨a44, c44, rfl, -⟩ := r12.slice
     refine from_pure 1 [(9, L a44 x28.1 c44)] hF (by kernel_rfl) fun fr hF => ?_
     refine from_end rfl ?_
     refine blk_normal (then_normal ?_)
     refine wp_seq (wp_pure [(8, L a44 x28.1 c44)] hF (by kernel_rfl) fun fr hF => then_normal ?_)
     obtain rfl := Option.some.inj h
     exact wp_ret (ret1 rfl hF rfl ⟨_, rfl, _, a43, c43, rfl, S41, _, hM0.out, hs, hM0.rvF, (r12)⟩)
   replace h := iteF hb h
   refine wp_seq (wp_pure [(0, B b1 0), (2, L a1 p2 c1), (3, L a2 p3 c2), (9, L a3 ([] : List Int) c3), (16, I p1), (118, .bool (p1 == 14))] hF (by kernel_rfl) fun fr hF => then_normal ?_)
   refine (wp_if hF (b := (p1 == 14)) rfl (fun hb => ?_) (fun hb => ?_))
   · replace h := iteT hb h
     have hs : Sep [BX b1 76 [I p0.c.Inputs, L pa0 p0.c.Gates pc0, .bool p0.full], sl59 (L pa0 p0.c.Gates pc0) p0.c.Gates] w1 S1 := Sep.pick [1, 2] hs (by decide) rfl
     refine wp_seq (wp_pure [(0, B b1 0), (2, L a1 p2 c1), (3, L a2 p3 c2), (12, I 1)] hF (by kernel_rfl) fun fr hF => then_normal ?_)
     refine wp_seq ?_
     refine wp_seq (wp_pure [(0, B b1 0), (2, L a1 p2 c1), (3, L a2 p3 c2), (12, I 1), (121, I (len p2)), (122, I 0)] hF (by kernel_rfl) fun fr hF => then_normal ?_)
     obtain ⟨rl3, hit3, h⟩ := bindE h
     have hk3 := h
     refine (wp_cut (M := fun fr w' => ∃ a46 c46 S43 F18, FrS 160 [(12, I rl3.1)] fr ∧ Mem w1 S1 (fun k => F0 k ∧ k < w.heap.size) w' S43 F18 ∧ Sep [BX b1 76 [I rl3.2.1, L a46 rl3.2.2.2 c46, .bool rl3.2.2.1], sl59 (L a46 rl3.2.2.2 c46) rl3.2.2.2] w' S43) (wp_block (wp_iter (Inv := fun s3 fr w' => ∃ a45 c45 S42 F17, FrS 160 [(0, B b1 0), (2, L a1 p2 c1), (3, L a2 p3 c2), (12, I s3.1), (121, I (len p2)), (122, I s3.2.1)] fr ∧ Mem w1 S1 (fun k => F0 k ∧ k < w.heap.size) w' S42 F17 ∧ Sep [BX b1 76 [I s3.2.2.1, L a45 s3.2.2.2.2 c45, .bool s3.2.2.2.1], sl59 (L a45 s3.2.2.2.2 c45) s3.2.2.2.2] w' S42) hit3 ⟨pa0, pc0, S1, _, hF.sub _ (by kernel_rfl), (Mem.start hM0.bd hM0.bdF hM0.dj), hs⟩ fun s3 q3 fr w3i hI h hr3 => ?_)) fun fr w3o hM => ?_)
     · obtain ⟨a45, c45, S42, F17, hF, hM1, hs⟩ := hI
       have ra2 := ra2.mem hM1
       have ra3 := ra3.mem hM1
       refine wp_seq (wp_pure [(0, B b1 0), (2, L a1 p2 c1), (3, L a2 p3 c2), (12, I s3.1), (121, I (len p2)), (122, I s3.2.1), (123, .bool (decide (s3.2.1 < (len p2))))] hF (by kernel_rfl) fun fr hF => then_normal ?_)
       refine wp_seq (wp_if hF (b := (decide (s3.2.1 < (len p2)))) rfl (fun hb => ?_) (fun hb => ?_))
       · replace h := iteT hb h
         refine (wp_skip (then_normal ?_))
         refine wp_seq (wp_block ?_)
         refine wp_seq (wp_pure [(0, B b1 0), (2, L a1 p2 c1), (3, L a2 p3 c2), (12, I s3.1), (13, I s3.2.1), (121, I (len p2)), (122, I s3.2.1)] hF (by kernel_rfl) fun fr hF => then_normal ?_)
         obtain ⟨x29, hx29, h⟩ := bindE h
         obtain ⟨x30, hx30, h⟩ := bindE h
         refine wp_seq (region_bm 9 [0, 0, 0, 6, 14, 0, 0, 96, 224, 511, 1023] [true, true, true, false, false, true, true, false, false]
             [.eq (B b1 0), .eq (L a1 p2 c1), .eq (I s3.2.1), .is fun v w => ElemP w (fun k => k < w3i.heap.size) v (x29 : Int), .eq (I x29), .eq (L a2 p3 c2), .eq (I s3.2.1), .is fun v w => ElemP w (fun k => k < w3i.heap.size) v (x30 : Int), .eq (I x30), .any, .any]
             [(0, B b1 0), (2, L a1 p2 c1), (3, L a2 p3 c2), (12, I s3.1), (121, I (len p2)), (122, I s3.2.1), (125, B b1 0), (129, I x29), (133, I x30)] mix hF (by kernel_rfl) (by kernel_rfl) (by kernel_rfl) (by kernel_rfl) ⟨(Pd.monoO_is mono_elem), Pd.monoO_eq, (Pd.monoO_is mono_elem), Pd.monoO_eq, trivial⟩ (fun ow hG => ⟨np_to ow (np_index hG hF ty3 Try.underlying37 rfl rfl (RV.sub (ra2) fun k hk _ => hk) rfl rfl (fun hg => ⟨get?_nn hx29, get?_at hx29⟩)), np_to ow (np_loadF (z := x29) (i := 3) hG hF ty3 rfl rfl rfl rfl rfl rfl rfl), np_to ow (np_index hG hF ty3 Try.underlying37 rfl rfl (RV.sub (ra3) fun k hk _ => hk) rfl rfl (fun hg => ⟨get?_nn hx30, get?_at hx30⟩)), np_to ow (np_loadF (z := x30) (i := 7) hG hF ty3 rfl rfl rfl rfl rfl rfl rfl), trivial⟩) (by kernel_rfl) fun ow fr w32 hF hE hc => ?_)
         have ra2 := ra2.ext hc
         have ra3 := ra3.ext hc
         have hs := hs.ext hc
         have hM1 := hM1.ext hc
         obtain ⟨x31, hx31, h⟩ := bindE h
         obtain ⟨A15, R15, hsA, hsR, hdA, hbA, hup⟩ := Sep.call (L1 := [BX b1 76 [I s3.2.2.1, L a45 s3.2.2.2.2 c45, .bool s3.2.2.2.1], sl59 (L a45 s3.2.2.2.2 c45) s3.2.2.2.2]) (L2 := []) hs hM1
         refine s_call [B b1 0, I x29, I x30] Try.call58 rfl rfl hF rfl (spec_l04Net_l04Xor_ok n (D.l04Net.mk (D.Circuit.mk s3.2.2.1 s3.2.2.2.2) s3.2.2.2.1) x29 x30 hx31 hsA hbA hdA) fun v w33 fr hRes hF => ?_
         obtain ⟨a47, c47, rfl, _, hp, hs⟩ := hRes
         obtain ⟨S44, hp, hs⟩ := hup hp hs
         have ra2 := ra2.stp hM1 hp
         have ra3 := ra3.stp hM1 hp
         have hM1 := hM1.stp hp
         have hs : Sep [BX b1 76 [I x31.2.c.Inputs, L a47 x31.2.c.Gates c47, .bool x31.2.full], sl59 (L a47 x31.2.c.Gates c47) x31.2.c.Gates] w33 S44 := hs
         refine from_pure 1 [(0, B b1 0), (2, L a1 p2 c1), (3, L a2 p3 c2), (12, I s3.1), (14, I x31.1), (121, I (len p2)), (122, I s3.2.1)] hF (by kernel_rfl) fun fr hF => ?_
         refine from_end rfl (then_normal ?_)
         refine (wp_text' ?_)
         refine from_pure 4 [(0, B b1 0), (2, L a1 p2 c1), (3, L a2 p3 c2), (121, I (len p2)), (122, I s3.2.1), (135, B b1 0), (136, I s3.1), (138, I (w64 (0 - x31.1)))] hF (by kernel_rfl) fun fr hF => ?_
         obtain ⟨x32, hx32, h⟩ := bindE h
         obtain ⟨A16, R16, hsA, hsR, hdA, hbA, hup⟩ := Sep.call (L1 := [BX b1 76 [I x31.2.c.Inputs, L a47 x31.2.c.Gates c47, .bool x31.2.full], sl59 (L a47 x31.2.c.Gates c47) x31.2.c.Gates]) (L2 := []) hs hM1
         refine s_call [B b1 0, I s3.1, I (w64 (0 - x31.1))] Try.call46 rfl rfl hF rfl (spec_l04Net_l04And_ok n x31.2 s3.1 (w64 (0 - x31.1)) hx32 hsA hbA hdA) fun v w34 fr hRes hF => ?_
         obtain ⟨a48, c48, rfl, _, hp, hs⟩ := hRes
         obtain ⟨S45, hp, hs⟩ := hup hp hs
         have ra2 := ra2.stp hM1 hp
         have ra3 := ra3.stp hM1 hp
         have hM1 := hM1.stp hp
         have hs : Sep [BX b1 76 [I x32.2.c.Inputs, L a48 x32.2.c.Gates c48, .bool x32.2.full], sl59 (L a48 x32.2.c.Gates c48) x32.2.c.Gates] w34 S45 := hs
         refine from_pure 1 [(0, B b1 0), (2, L a1 p2 c1), (3, L a2 p3 c2), (12, I x32.1), (121, I (len p2)), (122, I s3.2.1)] hF (by kernel_rfl) fun fr hF => ?_
         refine from_end rfl ?_
         refine blk_normal (then_normal ?_)
         refine (wp_pure [(0, B b1 0), (2, L a1 p2 c1), (3, L a2 p3 c2), (12, I x32.1), (121, I (len p2)), (122, I (w64 (s3.2.1 + 1)))] hF (by kernel_rfl) fun fr hF => then_normal ?_)
         exact ⟨_, (Option.some.inj h).symm, a48, c48, S45, _, hF.sub _ (by kernel_rfl), hM1, hs⟩
       replace h := iteF hb h
       refine (wp_exit (then_exit (then_exit (blk_exit_eq ?_))))
       obtain rfl := hr3 _ (Option.some.inj h).symm
       exact then_normal ⟨a45, c45, S42, _, hF.sub _ (by kernel_rfl), hM1, hs⟩
     · obtain ⟨a46, c46, S43, F18, hF, hMx, hs⟩ := hM
       have hM0 := hM0.trans hMx
       refine (wp_text' ?_)
       refine from_pure 1 [(141, I rl3.1)] hF (by kernel_rfl) fun fr hF => ?_
       refine q_lit (E := 3) hs hM0 [I rl3.1] (([rl3.1] : List Int).map Flat.enc) ([rl3.1] : List Int) rfl rfl hF [I rl3.1] rfl (fun w => by kernel_rfl) (css_flat _) rfl rfl rfl fun a49 c49 w35 S46 fr hs hp hF => ?_
       have hM0 := hM0.stp hp
       have hs : Sep [sl3 (L a49 ([rl3.1] : List Int) c49) ([rl3.1] : List Int), BX b1 76 [I rl3.2.1, L a46 rl3.2.2.2 c46, .bool rl3.2.2.1], sl59 (L a46 rl3.2.2.2 c46) rl3.2.2.2] w35 S46 := hs
       refine from_pure 1 [(9, L a49 ([rl3.1] : List Int) c49)] hF (by kernel_rfl) fun fr hF => ?_
       refine from_end rfl ?_
       refine blk_normal (then_normal ?_)
       refine wp_seq (wp_pure [(8, L a49 ([rl3.1] : List Int) c49)] hF (by kernel_rfl) fun fr hF => then_normal ?_)
       obtain rfl := Option.some.inj h
       obtain ⟨S47, F19, hMn, hs, r13, hfz⟩ := Sep.freeze hs hM0
       have r13 := SL.rv r13
       have hM0 := hMn
       exact wp_ret (ret1 rfl hF rfl ⟨_, rfl, _, a46, c46, rfl, S47, _, hM0.out, hs, hM0.rvF, (r13)⟩)
   replace h := iteF hb h
   refine wp_seq (wp_pure [(0, B b1 0), (2, L a1 p2 c1), (3, L a2 p3 c2), (9, L a3 ([] : List Int) c3), (16, I p1), (143, .bool (p1 == 15))] hF (by kernel_rfl) fun fr hF => then_normal ?_)
   refine (wp_if hF (b := (p1 == 15)) rfl (fun hb => ?_) (fun hb => ?_))
   · replace h := iteT hb h
     have hs : Sep [BX b1 76 [I p0.c.Inputs, L pa0 p0.c.Gates pc0, .bool p0.full], sl59 (L pa0 p0.c.Gates pc0) p0.c.Gates] w1 S1 := Sep.pick [1, 2] hs (by decide) rfl
     refine (wp_text' ?_)
     refine from_pure 3 [(145, B b1 0), (146, L a1 p2 c1), (147, L a2 p3 c2)] hF (by kernel_rfl) fun fr hF => ?_
     obtain ⟨x33, hx33, h⟩ := bindE h
     obtain ⟨A17, R17, hsA, hsR, hdA, hbA, hup⟩ := Sep.call (L1 := [BX b1 76 [I p0.c.Inputs, L pa0 p0.c.Gates pc0, .bool p0.full], sl59 (L pa0 p0.c.Gates pc0) p0.c.Gates]) (L2 := []) hs hM0
     refine s_call [B b1 0, L a1 p2 c1, L a2 p3 c2] Try.call93 rfl rfl hF rfl (spec_l04Net_l04Less_ok n p0 p2 p3 hx33 hsA hbA hdA (ra2.big (fun _ h => .inl h)) (ra3.big (fun _ h => .inl h))) fun v w36 fr hRes hF => ?_
     obtain ⟨a50, c50, rfl, _, hp, hs⟩ := hRes
     obtain ⟨S48, hp, hs⟩ := hup hp hs
     have ra2 := ra2.stp hM0 hp
     have ra3 := ra3.stp hM0 hp
     have hM0 := hM0.stp hp
     have hs : Sep [BX b1 76 [I x33.2.c.Inputs, L a50 x33.2.c.Gates c50, .bool x33.2.full], sl59 (L a50 x33.2.c.Gates c50) x33.2.c.Gates] w36 S48 := hs
     refine q_lit (E := 3) hs hM0 [I x33.1] (([x33.1] : List Int).map Flat.enc) ([x33.1] : List Int) rfl rfl hF [I x33.1] rfl (fun w => by kernel_rfl) (css_flat _) rfl rfl rfl fun a51 c51 w37 S49 fr hs hp hF => ?_
     have hM0 := hM0.stp hp
     have hs : Sep [sl3 (L a51 ([x33.1] : List Int) c51) ([x33.1] : List Int), BX b1 76 [I x33.2.c.Inputs, L a50 x33.2.c.Gates c50, .bool x33.2.full], sl59 (L a50 x33.2.c.Gates c50) x33.2.c.Gates] w37 S49 := hs
     refine from_pure 1 [(9, L a51 ([x33.1] : List Int) c51)] hF (by kernel_rfl) fun fr hF => ?_
     refine from_end rfl ?_
     refine blk_normal (then_normal ?_)
     refine wp_seq (wp_pure [(8, L a51 ([x33.1] : List Int) c51)] hF (by kernel_rfl) fun fr hF => then_normal ?_)
     obtain rfl := Option.some.inj h
     obtain ⟨S50, F20, hMn, hs, r14, hfz⟩ := Sep.freeze hs hM0
     have r14 := SL.rv r14
     have hM0 := hMn
     exact wp_ret (ret1 rfl hF rfl ⟨_, rfl, _, a50, c50, rfl, S50, _, hM0.out, hs, hM0.rvF, (r14)⟩)
   replace h := iteF hb h
   refine wp_seq (wp_pure [(0, B b1 0), (2, L a1 p2 c1), (3, L a2 p3 c2), (9, L a3 ([] : List Int) c3), (150, .bool (p1 == 16))] hF (by kernel_rfl) fun fr hF => then_normal ?_)
   refine (wp_if hF (b := (p1 == 16)) rfl (fun hb => ?_) (fun hb => ?_))
   · replace h := iteT hb h
     have hs : Sep [BX b1 76 [I p0.c.Inputs, L pa0 p0.c.Gates pc0, .bool p0.full], sl59 (L pa0 p0.c.Gates pc0) p0.c.Gates] w1 S1 := Sep.pick [1, 2] hs (by decide) rfl
     refine (wp_text' ?_)
     refine from_pure 2 [(3, L a2 p3 c2), (152, B b1 0), (153, L a1 p2 c1)] hF (by kernel_rfl) fun fr hF => ?_
     obtain ⟨x34, hx34, h⟩ := bindE h
     refine s_call [L a1 p2 c1] Try.call94 rfl rfl hF rfl (spec_l04Flip_ok p2 hx34 (ra2)) fun v w38 fr hRes hF => ?_
     obtain ⟨a52, c52, rfl, _, hp, hs2⟩ := hRes
     obtain ⟨S51, hp, hs⟩ := hs.got hM0 hp hs2
     have ra3 := ra3.stp hM0 hp
     have ra2 := ra2.stp hM0 hp
     have hM0 := hM0.stp hp
     have hs : Sep [sl3 (L a52 x34 c52) x34, BX b1 76 [I p0.c.Inputs, L pa0 p0.c.Gates pc0, .bool p0.full], sl59 (L pa0 p0.c.Gates pc0) p0.c.Gates] w38 S51 := hs
     refine from_pure 1 [(152, B b1 0), (154, L a52 x34 c52), (155, L a2 p3 c2)] hF (by kernel_rfl) fun fr hF => ?_
     obtain ⟨x35, hx35, h⟩ := bindE h
     refine s_call [L a2 p3 c2] Try.call94 rfl rfl hF rfl (spec_l04Flip_ok p3 hx35 (ra3)) fun v w39 fr hRes hF => ?_
     obtain ⟨a53, c53, rfl, _, hp, hs2⟩ := hRes
     obtain ⟨S52, hp, hs⟩ := hs.got hM0 hp hs2
     have ra3 := ra3.stp hM0 hp
     have hM0 := hM0.stp hp
     have hs : Sep [sl3 (L a53 x35 c53) x35, sl3 (L a52 x34 c52) x34, BX b1 76 [I p0.c.Inputs, L pa0 p0.c.Gates pc0, .bool p0.full], sl59 (L pa0 p0.c.Gates pc0) p0.c.Gates] w39 S52 := hs
     obtain ⟨x36, hx36, h⟩ := bindE h
     have hs : Sep [BX b1 76 [I p0.c.Inputs, L pa0 p0.c.Gates pc0, .bool p0.full], sl59 (L pa0 p0.c.Gates pc0) p0.c.Gates, sl3 (L a53 x35 c53) x35, sl3 (L a52 x34 c52) x34] w39 S52 := Sep.pick [2, 3, 0, 1] hs (by decide) rfl
     obtain ⟨A18, R18, hsA, hsR, hdA, hbA, hup⟩ := Sep.call (L1 := [BX b1 76 [I p0.c.Inputs, L pa0 p0.c.Gates pc0, .bool p0.full], sl59 (L pa0 p0.c.Gates pc0) p0.c.Gates]) (L2 := [sl3 (L a53 x35 c53) x35, sl3 (L a52 x34 c52) x34]) hs hM0
     refine s_call [B b1 0, L a52 x34 c52, L a53 x35 c53] Try.call93 rfl rfl hF rfl (spec_l04Net_l04Less_ok n p0 x34 x35 hx36 hsA hbA hdA ((hsR.rv 1 rfl).big (fun _ h => .inr h)) ((hsR.rv 0 rfl).big (fun _ h => .inr h))) fun v w40 fr hRes hF => ?_
     obtain ⟨a54, c54, rfl, _, hp, hs⟩ := hRes
     obtain ⟨S53, hp, hs⟩ := hup hp hs
     have hM0 := hM0.stp hp
     have hs : Sep [BX b1 76 [I x36.2.c.Inputs, L a54 x36.2.c.Gates c54, .bool x36.2.full], sl59 (L a54 x36.2.c.Gates c54) x36.2.c.Gates, sl3 (L a53 x35 c53) x35, sl3 (L a52 x34 c52) x34] w40 S53 := hs
     have hs : Sep [BX b1 76 [I x36.2.c.Inputs, L a54 x36.2.c.Gates c54, .bool x36.2.full], sl59 (L a54 x36.2.c.Gates c54) x36.2.c.Gates] w40 S53 := Sep.pick [0, 1] hs (by decide) rfl
     refine q_lit (E := 3) hs hM0 [I x36.1] (([x36.1] : List Int).map Flat.enc) ([x36.1] : List Int) rfl rfl hF [I x36.1] rfl (fun w => by kernel_rfl) (css_flat _) rfl rfl rfl fun a55 c55 w41 S54 fr hs hp hF => ?_
     have hM0 := hM0.stp hp
     have hs : Sep [sl3 (L a55 ([x36.1] : List Int) c55) ([x36.1] : List Int), BX b1 76 [I x36.2.c.Inputs, L a54 x36.2.c.Gates c54, .bool x36.2.full], sl59 (L a54 x36.2.c.Gates c54) x36.2.c.Gates] w41 S54 := hs
     refine from_pure 1 [(9, L a55 ([x36.1] : List Int) c55)] hF (by kernel_rfl) fun fr hF => ?_
     refine from_end rfl ?_
     refine blk_normal (then_normal ?_)
     refine wp_seq (wp_pure [(8, L a55 ([x36.1] : List Int) c55)] hF (by kernel_rfl) fun fr hF => then_normal ?_)
     obtain rfl := Option.some.inj h
     obtain ⟨S55, F21, hMn, hs, r15, hfz⟩ := Sep.freeze hs hM0
     have r15 := SL.rv r15
     have hM0 := hMn
     exact wp_ret (ret1 rfl hF rfl ⟨_, rfl, _, a54, c54, rfl, S55, _, hM0.out, hs, hM0.rvF, (r15)⟩)
   replace h := iteF hb h
   refine (wp_skip ?_)
   refine blk_normal (then_normal ?_)
   refine wp_seq (wp_pure [(8, L a3 ([] : List Int) c3)] hF (by kernel_rfl) fun fr hF => then_normal ?_)
   obtain rfl := Option.some.inj h
   obtain ⟨S56, F22, hMn, hs, r16, hfz⟩ := Sep.freeze hs hM0
   have r16 := SL.rv r16
   have hM0 := hMn
   exact wp_ret (ret1 rfl hF rfl ⟨_, rfl, _, pa0, pc0, rfl, S56, _, hM0.out, hs, hM0.rvF, (r16)⟩)
 replace h := iteF hb h
 refine wp_seq (wp_pure [(0, B b1 0), (1, I p1), (2, L a1 p2 c1), (3, L a2 p3 c2), (9, L a3 ([] : List Int) c3), (16, I p1), (60, .bool (p1 == 9))] hF (by kernel_rfl) fun fr hF => then_normal ?_)
 refine (wp_merge [(0, B b1 0), (1, I p1), (2, L a1 p2 c1), (3, L a2 p3 c2), (9, L a3 ([] : List Int) c3), (16, I p1), (60, .bool ((p1 == 9) || (p1 == 10)))] hF (b := (p1 == 9)) rfl (fun hb => ?_) (fun hb => ?_) fun fr hF => then_normal ?_)
 · exact wp_skip ⟨rfl, rfl, (hF.sub [(0, B b1 0), (1, I p1), (2, L a1 p2 c1), (3, L a2 p3 c2), (9, L a3 ([] : List Int) c3), (16, I p1), (60, .bool (p1 == 9))] (by kernel_rfl)).eqs (by first | (simp only [hb]; done) | (simp only [hb]; rfl))⟩
 · exact wp_pure [(0, B b1 0), (1, I p1), (2, L a1 p2 c1), (3, L a2 p3 c2), (9, L a3 ([] : List Int) c3), (16, I p1), (60, .bool (p1 == 10))] hF (by kernel_rfl) fun fr hF => ⟨rfl, rfl, hF.eqs (by first | (simp only [hb]; done) | (simp only [hb]; rfl))⟩
 refine (wp_if hF (b := ((p1 == 9) || (p1 == 10))) rfl (fun hb => ?_) (fun hb => ?_))
 · replace h := iteT hb h
   refine wp_seq (wp_pure [(0, B b1 0), (1, I p1), (2, L a1 p2 c1), (3, L a2 p3 c2), (9, L a3 ([] : List Int) c3), (65, I (len p2)), (66, I 0)] hF (by kernel_rfl) fun fr hF => then_normal ?_)
   obtain ⟨rl4, hit4, h⟩ := bindE h
   have hk4 := h
   refine (wp_cut' (M := fun fr w' => ∃ a58 c58 a59 c59 S58 F24, FrS 160 [(9, L a58 rl4.1 c58)] fr ∧ Mem w1 S1 (fun k => F0 k ∧ k < w.heap.size) w' S58 F24 ∧ Sep [sl3 (L a58 rl4.1 c58) rl4.1, BX b1 76 [I rl4.2.1, L a59 rl4.2.2.2 c59, .bool rl4.2.2.1], sl59 (L a59 rl4.2.2.2 c59) rl4.2.2.2] w' S58) (wp_block (wp_iter (Inv := fun s4 fr w' => ∃ a56 c56 a57 c57 S57 F23, FrS 160 [(0, B b1 0), (1, I p1), (2, L a1 p2 c1), (3, L a2 p3 c2), (9, L a56 s4.2.1 c56), (65, I (len p2)), (66, I s4.1)] fr ∧ Mem w1 S1 (fun k => F0 k ∧ k < w.heap.size) w' S57 F23 ∧ Sep [sl3 (L a56 s4.2.1 c56) s4.2.1, BX b1 76 [I s4.2.2.1, L a57 s4.2.2.2.2 c57, .bool s4.2.2.2.1], sl59 (L a57 s4.2.2.2.2 c57) s4.2.2.2.2] w' S57) hit4 ⟨a3, c3, pa0, pc0, S1, _, hF.sub _ (by kernel_rfl), (Mem.start hM0.bd hM0.bdF hM0.dj), hs⟩ fun s4 q4 fr w4i hI h hr4 => ?_)) fun fr w4o hM => ?_)
   · obtain ⟨a56, c56, a57, c57, S57, F23, hF, hM1, hs⟩ := hI
     have ra2 := ra2.mem hM1
     have ra3 := ra3.mem hM1
     refine wp_seq (wp_pure [(0, B b1 0), (1, I p1), (2, L a1 p2 c1), (3, L a2 p3 c2), (9, L a56 s4.2.1 c56), (65, I (len p2)), (66, I s4.1), (67, .bool (decide (s4.1 < (len p2))))] hF (by kernel_rfl) fun fr hF => then_normal ?_)
     refine wp_seq (wp_if hF (b := (decide (s4.1 < (len p2)))) rfl (fun hb => ?_) (fun hb => ?_))
     · replace h := iteT hb h
       refine (wp_skip (then_normal ?_))
       refine wp_seq (wp_block ?_)
       refine wp_seq (wp_pure [(0, B b1 0), (1, I p1), (2, L a1 p2 c1), (3, L a2 p3 c2), (9, L a56 s4.2.1 c56), (10, I s4.1), (65, I (len p2)), (66, I s4.1)] hF (by kernel_rfl) fun fr hF => then_normal ?_)
       refine wp_seq (wp_pure [(0, B b1 0), (1, I p1), (2, L a1 p2 c1), (3, L a2 p3 c2), (9, L a56 s4.2.1 c56), (10, I s4.1), (65, I (len p2)), (66, I s4.1)] hF (by kernel_rfl) fun fr hF => then_normal ?_)
       refine wp_seq ?_
       refine wp_seq (wp_pure [(0, B b1 0), (1, I p1), (2, L a1 p2 c1), (3, L a2 p3 c2), (9, L a56 s4.2.1 c56), (10, I s4.1), (65, I (len p2)), (66, I s4.1), (69, I p1)] hF (by kernel_rfl) fun fr hF => then_normal ?_)
       refine (wp_block ?_)
       refine wp_seq (wp_pure [(0, B b1 0), (1, I p1), (2, L a1 p2 c1), (3, L a2 p3 c2), (9, L a56 s4.2.1 c56), (10, I s4.1), (65, I (len p2)), (66, I s4.1), (69, I p1), (80, .bool (p1 == 8))] hF (by kernel_rfl) fun fr hF => then_normal ?_)
       refine (wp_if hF (b := (p1 == 8)) rfl (fun hb => ?_) (fun hb => ?_))
       · replace h := iteT hb h
         obtain ⟨x37, hx37, h⟩ := bindE h
         obtain ⟨x38, hx38, h⟩ := bindE h
         refine (region_bm 9 [0, 0, 0, 6, 14, 0, 0, 96, 224, 511, 1023] [true, true, true, false, false, true, true, false, false]
             [.eq (B b1 0), .eq (L a1 p2 c1), .eq (I s4.1), .is fun v w => ElemP w (fun k => k < w4i.heap.size) v (x37 : Int), .eq (I x37), .eq (L a2 p3 c2), .eq (I s4.1), .is fun v w => ElemP w (fun k => k < w4i.heap.size) v (x38 : Int), .eq (I x38), .any, .any]
             [(0, B b1 0), (1, I p1), (2, L a1 p2 c1), (3, L a2 p3 c2), (9, L a56 s4.2.1 c56), (65, I (len p2)), (66, I s4.1), (82, B b1 0), (86, I x37), (90, I x38)] mix hF (by kernel_rfl) (by kernel_rfl) (by kernel_rfl) (by kernel_rfl) ⟨(Pd.monoO_is mono_elem), Pd.monoO_eq, (Pd.monoO_is mono_elem), Pd.monoO_eq, trivial⟩ (fun ow hG => ⟨np_to ow (np_index hG hF ty3 Try.underlying37 rfl rfl (RV.sub (ra2) fun k hk _ => hk) rfl rfl (fun hg => ⟨get?_nn hx37, get?_at hx37⟩)), np_to ow (np_loadF (z := x37) (i := 3) hG hF ty3 rfl rfl rfl rfl rfl rfl rfl), np_to ow (np_index hG hF ty3 Try.underlying37 rfl rfl (RV.sub (ra3) fun k hk _ => hk) rfl rfl (fun hg => ⟨get?_nn hx38, get?_at hx38⟩)), np_to ow (np_loadF (z := x38) (i := 7) hG hF ty3 rfl rfl rfl rfl rfl rfl rfl), trivial⟩) (by kernel_rfl) fun ow fr w42 hF hE hc => ?_)
         have ra2 := ra2.ext hc
         have ra3 := ra3.ext hc
         have hs := hs.ext hc
         have hM1 := hM1.ext hc
         obtain ⟨x39, hx39, h⟩ := bindE h
         have hs : Sep [BX b1 76 [I s4.2.2.1, L a57 s4.2.2.2.2 c57, .bool s4.2.2.2.1], sl59 (L a57 s4.2.2.2.2 c57) s4.2.2.2.2, sl3 (L a56 s4.2.1 c56) s4.2.1] w42 S57 := Sep.pick [1, 2, 0] hs (by decide) rfl
         obtain ⟨A19, R19, hsA, hsR, hdA, hbA, hup⟩ := Sep.call (L1 := [BX b1 76 [I s4.2.2.1, L a57 s4.2.2.2.2 c57, .bool s4.2.2.2.1], sl59 (L a57 s4.2.2.2.2 c57) s4.2.2.2.2]) (L2 := [sl3 (L a56 s4.2.1 c56) s4.2.1]) hs hM1
         refine s_call [B b1 0, I x37, I x38] Try.call46 rfl rfl hF rfl (spec_l04Net_l04And_ok n (D.l04Net.mk (D.Circuit.mk s4.2.2.1 s4.2.2.2.2) s4.2.2.2.1) x37 x38 hx39 hsA hbA hdA) fun v w43 fr hRes hF => ?_
         obtain ⟨a60, c60, rfl, _, hp, hs⟩ := hRes
         obtain ⟨S59, hp, hs⟩ := hup hp hs
         have ra2 := ra2.stp hM1 hp
         have ra3 := ra3.stp hM1 hp
         have hM1 := hM1.stp hp
         have hs : Sep [BX b1 76 [I x39.2.c.Inputs, L a60 x39.2.c.Gates c60, .bool x39.2.full], sl59 (L a60 x39.2.c.Gates c60) x39.2.c.Gates, sl3 (L a56 s4.2.1 c56) s4.2.1] w43 S59 := hs
         refine from_pure 1 [(0, B b1 0), (1, I p1), (2, L a1 p2 c1), (3, L a2 p3 c2), (9, L a56 s4.2.1 c56), (11, I x39.1), (65, I (len p2)), (66, I s4.1)] hF (by kernel_rfl) fun fr hF => ?_
         refine from_end rfl ?_
         refine blk_normal (then_normal ?_)
         refine (wp_text' ?_)
         refine from_pure 2 [(0, B b1 0), (1, I p1), (2, L a1 p2 c1), (3, L a2 p3 c2), (65, I (len p2)), (66, I s4.1), (104, L a56 s4.2.1 c56), (105, I x39.1)] hF (by kernel_rfl) fun fr hF => ?_
         refine q_lit (E := 3) hs hM1 [I x39.1] (([x39.1] : List Int).map Flat.enc) ([x39.1] : List Int) rfl rfl hF [I x39.1] rfl (fun w => by kernel_rfl) (css_flat _) rfl rfl rfl fun a61 c61 w44 S60 fr hs hp hF => ?_
         have ra2 := ra2.stp hM1 hp
         have ra3 := ra3.stp hM1 hp
         have hM1 := hM1.stp hp
         have hs : Sep [sl3 (L a61 ([x39.1] : List Int) c61) ([x39.1] : List Int), BX b1 76 [I x39.2.c.Inputs, L a60 x39.2.c.Gates c60, .bool x39.2.full], sl59 (L a60 x39.2.c.Gates c60) x39.2.c.Gates, sl3 (L a56 s4.2.1 c56) s4.2.1] w44 S60 := hs
         obtain ⟨x40, hx40, h⟩ := bindE h
         refine q_append 3 hs hM1 rfl Try.underlying37 el3 rfl rfl rfl hF rfl rfl (hs.rv 0 rfl) hx40 fun a62 c62 w45 S61 fr hs hp hF => ?_
         have ra2 := ra2.stp hM1 hp
         have ra3 := ra3.stp hM1 hp
         have hM1 := hM1.stp hp
         have hs : Sep [sl3 (L a61 ([x39.1] : List Int) c61) ([x39.1] : List Int), BX b1 76 [I x39.2.c.Inputs, L a60 x39.2.c.Gates c60, .bool x39.2.full], sl59 (L a60 x39.2.c.Gates c60) x39.2.c.Gates, sl3 (L a62 x40 c62) x40] w45 S61 := hs
         have hs : Sep [BX b1 76 [I x39.2.c.Inputs, L a60 x39.2.c.Gates c60, .bool x39.2.full], sl59 (L a60 x39.2.c.Gates c60) x39.2.c.Gates, sl3 (L a62 x40 c62) x40] w45 S61 := Sep.pick [1, 2, 3] hs (by decide) rfl
         refine from_pure 1 [(0, B b1 0), (1, I p1), (2, L a1 p2 c1), (3, L a2 p3 c2), (9, L a62 x40 c62), (65, I (len p2)), (66, I s4.1)] hF (by kernel_rfl) fun fr hF => ?_
         refine from_end rfl ?_
         refine blk_normal (then_normal ?_)
         refine (wp_pure [(0, B b1 0), (1, I p1), (2, L a1 p2 c1), (3, L a2 p3 c2), (9, L a62 x40 c62), (65, I (len p2)), (66, I (w64 (s4.1 + 1)))] hF (by kernel_rfl) fun fr hF => then_normal ?_)
         have hs : Sep [sl3 (L a62 x40 c62) x40, BX b1 76 [I x39.2.c.Inputs, L a60 x39.2.c.Gates c60, .bool x39.2.full], sl59 (L a60 x39.2.c.Gates c60) x39.2.c.Gates] w45 S61 := Sep.pick [2, 0, 1] hs (by decide) rfl
         exact ⟨_, (Option.some.inj h).symm, a62, c62, a60, c60, S61, _, hF.sub _ (by kernel_rfl), hM1, hs⟩
       replace h := iteF hb h
       refine wp_seq (wp_pure [(0, B b1 0), (1, I p1), (2, L a1 p2 c1), (3, L a2 p3 c2), (9, L a56 s4.2.1 c56), (10, I s4.1), (65, I (len p2)), (66, I s4.1), (92, .bool (p1 == 9))] hF (by kernel_rfl) fun fr hF => then_normal ?_)
       refine (wp_if hF (b := (p1 == 9)) rfl (fun hb => ?_) (fun hb => ?_))
       · replace h := iteT hb h
         obtain ⟨x41, hx41, h⟩ := bindE h
         obtain ⟨x42, hx42, h⟩ := bindE h
         refine (region_bm 9 [0, 0, 0, 6, 14, 0, 0, 96, 224, 511, 1023] [true, true, true, false, false, true, true, false, false]
             [.eq (B b1 0), .eq (L a1 p2 c1), .eq (I s4.1), .is fun v w => ElemP w (fun k => k < w4i.heap.size) v (x41 : Int), .eq (I x41), .eq (L a2 p3 c2), .eq (I s4.1), .is fun v w => ElemP w (fun k => k < w4i.heap.size) v (x42 : Int), .eq (I x42), .any, .any]
             [(0, B b1 0), (1, I p1), (2, L a1 p2 c1), (3, L a2 p3 c2), (9, L a56 s4.2.1 c56), (65, I (len p2)), (66, I s4.1), (94, B b1 0), (98, I x41), (102, I x42)] mix hF (by kernel_rfl) (by kernel_rfl) (by kernel_rfl) (by kernel_rfl) ⟨(Pd.monoO_is mono_elem), Pd.monoO_eq, (Pd.monoO_is mono_elem), Pd.monoO_eq, trivial⟩ (fun ow hG => ⟨np_to ow (np_index hG hF ty3 Try.underlying37 rfl rfl (RV.sub (ra2) fun k hk _ => hk) rfl rfl (fun hg => ⟨get?_nn hx41, get?_at hx41⟩)), np_to ow (np_loadF (z := x41) (i := 3) hG hF ty3 rfl rfl rfl rfl rfl rfl rfl), np_to ow (np_index hG hF ty3 Try.underlying37 rfl rfl (RV.sub (ra3) fun k hk _ => hk) rfl rfl (fun hg => ⟨get?_nn hx42, get?_at hx42⟩)), np_to ow (np_loadF (z := x42) (i := 7) hG hF ty3 rfl rfl rfl rfl rfl rfl rfl), trivial⟩) (by kernel_rfl) fun ow fr w46 hF hE hc => ?_)
         have ra2 := ra2.ext hc
         have ra3 := ra3.ext hc
         have hs := hs.ext hc
         have hM1 := hM1.ext hc
         obtain ⟨x43, hx43, h⟩ := bindE h
         have hs : Sep [BX b1 76 [I s4.2.2.1, L a57 s4.2.2.2.2 c57, .bool s4.2.2.2.1], sl59 (L a57 s4.2.2.2.2 c57) s4.2.2.2.2, sl3 (L a56 s4.2.1 c56) s4.2.1] w46 S57 := Sep.pick [1, 2, 0] hs (by decide) rfl
         obtain ⟨A20, R20, hsA, hsR, hdA, hbA, hup⟩ := Sep.call (L1 := [BX b1 76 [I s4.2.2.1, L a57 s4.2.2.2.2 c57, .bool s4.2.2.2.1], sl59 (L a57 s4.2.2.2.2 c57) s4.2.2.2.2]) (L2 := [sl3 (L a56 s4.2.1 c56) s4.2.1]) hs hM1
         refine s_call [B b1 0, I x41, I x42] Try.call55 rfl rfl hF rfl (spec_l04Net_l04Or_ok n (D.l04Net.mk (D.Circuit.mk s4.2.2.1 s4.2.2.2.2) s4.2.2.2.1) x41 x42 hx43 hsA hbA hdA) fun v w47 fr hRes hF => ?_
         obtain ⟨a63, c63, rfl, _, hp, hs⟩ := hRes
         obtain ⟨S62, hp, hs⟩ := hup hp hs
         have ra2 := ra2.stp hM1 hp
         have ra3 := ra3.stp hM1 hp
         have hM1 := hM1.stp hp
         have hs : Sep [BX b1 76 [I x43.2.c.Inputs, L a63 x43.2.c.Gates c63, .bool x43.2.full], sl59 (L a63 x43.2.c.Gates c63) x43.2.c.Gates, sl3 (L a56 s4.2.1 c56) s4.2.1] w47 S62 := hs
         refine from_pure 1 [(0, B b1 0), (1, I p1), (2, L a1 p2 c1), (3, L a2 p3 c2), (9, L a56 s4.2.1 c56), (11, I x43.1), (65, I (len p2)), (66, I s4.1)] hF (by kernel_rfl) fun fr hF => ?_
         refine from_end rfl ?_
         refine blk_normal (then_normal ?_)
         refine (wp_text' ?_)
         refine from_pure 2 [(0, B b1 0), (1, I p1), (2, L a1 p2 c1), (3, L a2 p3 c2), (65, I (len p2)), (66, I s4.1), (104, L a56 s4.2.1 c56), (105, I x43.1)] hF (by kernel_rfl) fun fr hF => ?_
         refine q_lit (E := 3) hs hM1 [I x43.1] (([x43.1] : List Int).map Flat.enc) ([x43.1] : List Int) rfl rfl hF [I x43.1] rfl (fun w => by kernel_rfl) (css_flat _) rfl rfl rfl fun a64 c64 w48 S63 fr hs hp hF => ?_
         have ra2 := ra2.stp hM1 hp
         have ra3 := ra3.stp hM1 hp
         have hM1 := hM1.stp hp
         have hs : Sep [sl3 (L a64 ([x43.1] : List Int) c64) ([x43.1] : List Int), BX b1 76 [I x43.2.c.Inputs, L a63 x43.2.c.Gates c63, .bool x43.2.full], sl59 (L a63 x43.2.c.Gates c63) x43.2.c.Gates, sl3 (L a56 s4.2.1 c56) s4.2.1] w48 S63 := hs
         obtain ⟨x44, hx44, h⟩ := bindE h
         refine q_append 3 hs hM1 rfl Try.underlying37 el3 rfl rfl rfl hF rfl rfl (hs.rv 0 rfl) hx44 fun a65 c65 w49 S64 fr hs hp hF => ?_
         have ra2 := ra2.stp hM1 hp
         have ra3 := ra3.stp hM1 hp
         have hM1 := hM1.stp hp
         have hs : Sep [sl3 (L a64 ([x43.1] : List Int) c64) ([x43.1] : List Int), BX b1 76 [I x43.2.c.Inputs, L a63 x43.2.c.Gates c63, .bool x43.2.full], sl59 (L a63 x43.2.c.Gates c63) x43.2.c.Gates, sl3 (L a65 x44 c65) x44] w49 S64 := hs
         have hs : Sep [BX b1 76 [I x43.2.c.Inputs, L a63 x43.2.c.Gates c63, .bool x43.2.full], sl59 (L a63 x43.2.c.Gates c63) x43.2.c.Gates, sl3 (L a65 x44 c65) x44] w49 S64 := Sep.pick [1, 2, 3] hs (by decide) rfl
         refine from_pure 1 [(0, B b1 0), (1, I p1), (2, L a1 p2 c1), (3, L a2 p3 c2), (9, L a65 x44 c65), (65, I (len p2)), (66, I s4.1)] hF (by kernel_rfl) fun fr hF => ?_
         refine from_end rfl ?_
         refine blk_normal (then_normal ?_)
         refine (wp_pure [(0, B b1 0), (1, I p1), (2, L a1 p2 c1), (3, L a2 p3 c2), (9, L a65 x44 c65), (65, I (len p2)), (66, I (w64 (s4.1 + 1)))] hF (by kernel_rfl) fun fr hF => then_normal ?_)
         have hs : Sep [sl3 (L a65 x44 c65) x44, BX b1 76 [I x43.2.c.Inputs, L a63 x43.2.c.Gates c63, .bool x43.2.full], sl59 (L a63 x43.2.c.Gates c63) x43.2.c.Gates] w49 S64 := Sep.pick [2, 0, 1] hs (by decide) rfl
         exact ⟨_, (Option.some.inj h).symm, a65, c65, a63, c63, S64, _, hF.sub _ (by kernel_rfl), hM1, hs⟩
       replace h := iteF hb h
       obtain ⟨x45, hx45, h⟩ := bindE h
       obtain ⟨x46, hx46, h⟩ := bindE h
       refine (region_bm 9 [0, 0, 0, 6, 14, 0, 0, 96, 224, 511, 1023] [true, true, true, false, false, true, true, false, false]
           [.eq (B b1 0), .eq (L a1 p2 c1), .eq (I s4.1), .is fun v w => ElemP w (fun k => k < w4i.heap.size) v (x45 : Int), .eq (I x45), .eq (L a2 p3 c2), .eq (I s4.1), .is fun v w => ElemP w (fun k => k < w4i.heap.size) v (x46 : Int), .eq (I x46), .any, .any]
           [(0, B b1 0), (1, I p1), (2, L a1 p2 c1), (3, L a2 p3 c2), (9, L a56 s4.2.1 c56), (65, I (len p2)), (66, I s4.1), (70, B b1 0), (74, I x45), (78, I x46)] mix hF (by kernel_rfl) (by kernel_rfl) (by kernel_rfl) (by kernel_rfl) ⟨(Pd.monoO_is mono_elem), Pd.monoO_eq, (Pd.monoO_is mono_elem), Pd.monoO_eq, trivial⟩ (fun ow hG => ⟨np_to ow (np_index hG hF ty3 Try.underlying37 rfl rfl (RV.sub (ra2) fun k hk _ => hk) rfl rfl (fun hg => ⟨get?_nn hx45, get?_at hx45⟩)), np_to ow (np_loadF (z := x45) (i := 3) hG hF ty3 rfl rfl rfl rfl rfl rfl rfl), np_to ow (np_index hG hF ty3 Try.underlying37 rfl rfl (RV.sub (ra3) fun k hk _ => hk) rfl rfl (fun hg => ⟨get?_nn hx46, get?_at hx46⟩)), np_to ow (np_loadF (z := x46) (i := 7) hG hF ty3 rfl rfl rfl rfl rfl rfl rfl), trivial⟩) (by kernel_rfl) fun ow fr w50 hF hE hc => ?_)
       have ra2 := ra2.ext hc
       have ra3 := ra3.ext hc
       have hs := hs.ext hc
       have hM1 := hM1.ext hc
       obtain ⟨x47, hx47, h⟩ := bindE h
       have hs : Sep [BX b1 76 [I s4.2.2.1, L a57 s4.2.2.2.2 c57, .bool s4.2.2.2.1], sl59 (L a57 s4.2.2.2.2 c57) s4.2.2.2.2, sl3 (L a56 s4.2.1 c56) s4.2.1] w50 S57 := Sep.pick [1, 2, 0] hs (by decide) rfl
       obtain ⟨A21, R21, hsA, hsR, hdA, hbA, hup⟩ := Sep.call (L1 := [BX b1 76 [I s4.2.2.1, L a57 s4.2.2.2.2 c57, .bool s4.2.2.2.1], sl59 (L a57 s4.2.2.2.2 c57) s4.2.2.2.2]) (L2 := [sl3 (L a56 s4.2.1 c56) s4.2.1]) hs hM1
       refine s_call [B b1 0, I x45, I x46] Try.call58 rfl rfl hF rfl (spec_l04Net_l04Xor_ok n (D.l04Net.mk (D.Circuit.mk s4.2.2.1 s4.2.2.2.2) s4.2.2.2.1) x45 x46 hx47 hsA hbA hdA) fun v w51 fr hRes hF => ?_
       obtain ⟨a66, c66, rfl, _, hp, hs⟩ := hRes
       obtain ⟨S65, hp, hs⟩ := hup hp hs
       have ra2 := ra2.stp hM1 hp
       have ra3 := ra3.stp hM1 hp
       have hM1 := hM1.stp hp
       have hs : Sep [BX b1 76 [I x47.2.c.Inputs, L a66 x47.2.c.Gates c66, .bool x47.2.full], sl59 (L a66 x47.2.c.Gates c66) x47.2.c.Gates, sl3 (L a56 s4.2.1 c56) s4.2.1] w51 S65 := hs
       refine from_pure 1 [(0, B b1 0), (1, I p1), (2, L a1 p2 c1), (3, L a2 p3 c2), (9, L a56 s4.2.1 c56), (11, I x47.1), (65, I (len p2)), (66, I s4.1)] hF (by kernel_rfl) fun fr hF => ?_
       refine from_end rfl ?_
       refine blk_normal (then_normal ?_)
       refine (wp_text' ?_)
       refine from_pure 2 [(0, B b1 0), (1, I p1), (2, L a1 p2 c1), (3, L a2 p3 c2), (65, I (len p2)), (66, I s4.1), (104, L a56 s4.2.1 c56), (105, I x47.1)] hF (by kernel_rfl) fun fr hF => ?_
       refine q_lit (E := 3) hs hM1 [I x47.1] (([x47.1] : List Int).map Flat.enc) ([x47.1] : List Int) rfl rfl hF [I x47.1] rfl (fun w => by kernel_rfl) (css_flat _) rfl rfl rfl fun a67 c67 w52 S66 fr hs hp hF => ?_
       have ra2 := ra2.stp hM1 hp
       have ra3 := ra3.stp hM1 hp
       have hM1 := hM1.stp hp
       have hs : Sep [sl3 (L a67 ([x47.1] : List Int) c67) ([x47.1] : List Int), BX b1 76 [I x47.2.c.Inputs, L a66 x47.2.c.Gates c66, .bool x47.2.full], sl59 (L a66 x47.2.c.Gates c66) x47.2.c.Gates, sl3 (L a56 s4.2.1 c56) s4.2.1] w52 S66 := hs
       obtain ⟨x48, hx48, h⟩ := bindE h
       refine q_append 3 hs hM1 rfl Try.underlying37 el3 rfl rfl rfl hF rfl rfl (hs.rv 0 rfl) hx48 fun a68 c68 w53 S67 fr hs hp hF => ?_
       have ra2 := ra2.stp hM1 hp
       have ra3 := ra3.stp hM1 hp
       have hM1 := hM1.stp hp
       have hs : Sep [sl3 (L a67 ([x47.1] : List Int) c67) ([x47.1] : List Int), BX b1 76 [I x47.2.c.Inputs, L a66 x47.2.c.Gates c66, .bool x47.2.full], sl59 (L a66 x47.2.c.Gates c66) x47.2.c.Gates, sl3 (L a68 x48 c68) x48] w53 S67 := hs
       have hs : Sep [BX b1 76 [I x47.2.c.Inputs, L a66 x47.2.c.Gates c66, .bool x47.2.full], sl59 (L a66 x47.2.c.Gates c66) x47.2.c.Gates, sl3 (L a68 x48 c68) x48] w53 S67 := Sep.pick [1, 2, 3] hs (by decide) rfl
       refine from_pure 1 [(0, B b1 0), (1, I p1), (2, L a1 p2 c1), (3, L a2 p3 c2), (9, L a68 x48 c68), (65, I (len p2)), (66, I s4.1)] hF (by kernel_rfl) fun fr hF => ?_
       refine from_end rfl ?_
       refine blk_normal (then_normal ?_)
       refine (wp_pure [(0, B b1 0), (1, I p1), (2, L a1 p2 c1), (3, L a2 p3 c2), (9, L a68 x48 c68), (65, I (len p2)), (66, I (w64 (s4.1 + 1)))] hF (by kernel_rfl) fun fr hF => then_normal ?_)
       have hs : Sep [sl3 (L a68 x48 c68) x48, BX b1 76 [I x47.2.c.Inputs, L a66 x47.2.c.Gates c66, .bool x47.2.full], sl59 (L a66 x47.2.c.Gates c66) x47.2.c.Gates] w53 S67 := Sep.pick [2, 0, 1] hs (by decide) rfl
       exact ⟨_, (Option.some.inj h).symm, a68, c68, a66, c66, S67, _, hF.sub _ (by kernel_rfl), hM1, hs⟩
     replace h := iteF hb h
     refine (wp_exit (then_exit (then_exit (blk_exit_eq ?_))))
     obtain rfl := hr4 _ (Option.some.inj h).symm
     exact then_normal ⟨a56, c56, a57, c57, S57, _, hF.sub _ (by kernel_rfl), hM1, hs⟩
   · obtain ⟨a58, c58, a59, c59, S58, F24, hF, hMx, hs⟩ := hM
     have hM0 := hM0.trans hMx
     refine blk_normal (then_normal ?_)
     refine wp_seq (wp_pure [(8, L a58 rl4.1 c58)] hF (by kernel_rfl) fun fr hF => then_normal ?_)
     obtain rfl := Option.some.inj h
     obtain ⟨S68, F25, hMn, hs, r17, hfz⟩ := Sep.freeze hs hM0
     have r17 := SL.rv r17
     have hM0 := hMn
     exact wp_ret (ret1 rfl hF rfl ⟨_, rfl, _, a59, c59, rfl, S68, _, hM0.out, hs, hM0.rvF, (r17)⟩)
 replace h := iteF hb h
 refine wp_seq ?_
 refine wp_seq (wp_pure [(0, B b1 0), (1, I p1), (2, L a1 p2 c1), (3, L a2 p3 c2), (9, L a3 ([] : List Int) c3), (16, I p1), (109, .bool (p1 == 11))] hF (by kernel_rfl) fun fr hF => then_normal ?_)
 refine (wp_if hF (b := (p1 == 11)) rfl (fun hb => ?_) (fun hb => ?_))
 · replace h := iteT hb h
   refine (wp_skip (then_normal ?_))
   refine (wp_if hF (b := (p1 == 11)) rfl (fun hb => ?_) (fun hb => ?_))
   · replace h := iteT hb h
     have hs : Sep [BX b1 76 [I p0.c.Inputs, L pa0 p0.c.Gates pc0, .bool p0.full], sl59 (L pa0 p0.c.Gates pc0) p0.c.Gates] w1 S1 := Sep.pick [1, 2] hs (by decide) rfl
     refine (wp_text' ?_)
     refine from_pure 4 [(113, B b1 0), (114, I p1), (115, L a1 p2 c1), (116, L a2 p3 c2)] hF (by kernel_rfl) fun fr hF => ?_
     obtain ⟨x49, hx49, h⟩ := bindE h
     obtain ⟨A22, R22, hsA, hsR, hdA, hbA, hup⟩ := Sep.call2 (L1 := [BX b1 76 [I p0.c.Inputs, L pa0 p0.c.Gates pc0, .bool p0.full], sl59 (L pa0 p0.c.Gates pc0) p0.c.Gates]) (L2 := []) hs hM0
     refine s_call [B b1 0, I p1, L a1 p2 c1, L a2 p3 c2] Try.call92 rfl rfl hF rfl (spec_l04Net_l04Shift_ok n p0 p1 p2 p3 hx49 hsA hbA hdA (ra2) (ra3)) fun v w54 fr hRes hF => ?_
     obtain ⟨v3, a69, c69, rfl, _, _, hp, hs, hvF, r18⟩ := hRes
     obtain ⟨S69, F26, hp, hs, hMn, hfz, hnw⟩ := hup hp hs hvF
     have ra2 := (ra2.stp hM0 hp).big hfz
     have ra3 := (ra3.stp hM0 hp).big hfz
     have hM0 := hMn
     have hs : Sep [BX b1 76 [I x49.2.c.Inputs, L a69 x49.2.c.Gates c69, .bool x49.2.full], sl59 (L a69 x49.2.c.Gates c69) x49.2.c.Gates] w54 S69 := hs
     have r18 := r18.big hnw
     obtain ⟨a70, c70, rfl, -⟩ := r18.slice
     refine from_pure 1 [(9, L a70 x49.1 c70)] hF (by kernel_rfl) fun fr hF => ?_
     refine from_end rfl ?_
     refine blk_normal (then_normal ?_)
     refine wp_seq (wp_pure [(8, L a70 x49.1 c70)] hF (by kernel_rfl) fun fr hF => then_normal ?_)
     obtain rfl := Option.some.inj h
     exact wp_ret (ret1 rfl hF rfl ⟨_, rfl, _, a69, c69, rfl, S69, _, hM0.out, hs, hM0.rvF, (r18)⟩)
   replace h := iteF hb h
   refine wp_seq (wp_pure [(0, B b1 0), (2, L a1 p2 c1), (3, L a2 p3 c2), (9, L a3 ([] : List Int) c3), (16, I p1), (118, .bool (p1 == 14))] hF (by kernel_rfl) fun fr hF => then_normal ?_)
   refine (wp_if hF (b := (p1 == 14)) rfl (fun hb => ?_) (fun hb => ?_))
   · replace h := iteT hb h
     have hs : Sep [BX b1 76 [I p0.c.Inputs, L pa0 p0.c.Gates pc0, .bool p0.full], sl59 (L pa0 p0.c.Gates pc0) p0.c.Gates] w1 S1 := Sep.pick [1, 2] hs (by decide) rfl
     refine wp_seq (wp_pure [(0, B b1 0), (2, L a1 p2 c1), (3, L a2 p3 c2), (12, I 1)] hF (by kernel_rfl) fun fr hF => then_normal ?_)
     refine wp_seq ?_
     refine wp_seq (wp_pure [(0, B b1 0), (2, L a1 p2 c1), (3, L a2 p3 c2), (12, I 1), (121, I (len p2)), (122, I 0)] hF (by kernel_rfl) fun fr hF => then_normal ?_)
     obtain ⟨rl5, hit5, h⟩ := bindE h
     have hk5 := h
     refine (wp_cut (M := fun fr w' => ∃ a72 c72 S71 F28, FrS 160 [(12, I rl5.1)] fr ∧ Mem w1 S1 (fun k => F0 k ∧ k < w.heap.size) w' S71 F28 ∧ Sep [BX b1 76 [I rl5.2.1, L a72 rl5.2.2.2 c72, .bool rl5.2.2.1], sl59 (L a72 rl5.2.2.2 c72) rl5.2.2.2] w' S71) (wp_block (wp_iter (Inv := fun s5 fr w' => ∃ a71 c71 S70 F27, FrS 160 [(0, B b1 0), (2, L a1 p2 c1), (3, L a2 p3 c2), (12, I s5.1), (121, I (len p2)), (122, I s5.2.1)] fr ∧ Mem w1 S1 (fun k => F0 k ∧ k < w.heap.size) w' S70 F27 ∧ Sep [BX b1 76 [I s5.2.2.1, L a71 s5.2.2.2.2 c71, .bool s5.2.2.2.1], sl59 (L a71 s5.2.2.2.2 c71) s5.2.2.2.2] w' S70) hit5 ⟨pa0, pc0, S1, _, hF.sub _ (by kernel_rfl), (Mem.start hM0.bd hM0.bdF hM0.dj), hs⟩ fun s5 q5 fr w5i hI h hr5 => ?_)) fun fr w5o hM => ?_)
     · obtain ⟨a71, c71, S70, F27, hF, hM1, hs⟩ := hI
       have ra2 := ra2.mem hM1
       have ra3 := ra3.mem hM1
       refine wp_seq (wp_pure [(0, B b1 0), (2, L a1 p2 c1), (3, L a2 p3 c2), (12, I s5.1), (121, I (len p2)), (122, I s5.2.1), (123, .bool (decide (s5.2.1 < (len p2))))] hF (by kernel_rfl) fun fr hF => then_normal ?_)
       refine wp_seq (wp_if hF (b := (decide (s5.2.1 < (len p2)))) rfl (fun hb => ?_) (fun hb => ?_))
       · replace h := iteT hb h
         refine (wp_skip (then_normal ?_))
         refine wp_seq (wp_block ?_)
         refine wp_seq (wp_pure [(0, B b1 0), (2, L a1 p2 c1), (3, L a2 p3 c2), (12, I s5.1), (13, I s5.2.1), (121, I (len p2)), (122, I s5.2.1)] hF (by kernel_rfl) fun fr hF => then_normal ?_)
         obtain ⟨x50, hx50, h⟩ := bindE h
         obtain ⟨x51, hx51, h⟩ := bindE h
         refine wp_seq (region_bm 9 [0, 0, 0, 6, 14, 0, 0, 96, 224, 511, 1023] [true, true, true, false, false, true, true, false, false]
             [.eq (B b1 0), .eq (L a1 p2 c1), .eq (I s5.2.1), .is fun v w => ElemP w (fun k => k < w5i.heap.size) v (x50 : Int), .eq (I x50), .eq (L a2 p3 c2), .eq (I s5.2.1), .is fun v w => ElemP w (fun k => k < w5i.heap.size) v (x51 : Int), .eq (I x51), .any, .any]
             [(0, B b1 0), (2, L a1 p2 c1), (3, L a2 p3 c2), (12, I s5.1), (121, I (len p2)), (122, I s5.2.1), (125, B b1 0), (129, I x50), (133, I x51)] mix hF (by kernel_rfl) (by kernel_rfl) (by kernel_rfl) (by kernel_rfl) ⟨(Pd.monoO_is mono_elem), Pd.monoO_eq, (Pd.monoO_is mono_elem), Pd.monoO_eq, trivial⟩ (fun ow hG => ⟨np_to ow (np_index hG hF ty3 Try.underlying37 rfl rfl (RV.sub (ra2) fun k hk _ => hk) rfl rfl (fun hg => ⟨get?_nn hx50, get?_at hx50⟩)), np_to ow (np_loadF (z := x50) (i := 3) hG hF ty3 rfl rfl rfl rfl rfl rfl rfl), np_to ow (np_index hG hF ty3 Try.underlying37 rfl rfl (RV.sub (ra3) fun k hk _ => hk) rfl rfl (fun hg => ⟨get?_nn hx51, get?_at hx51⟩)), np_to ow (np_loadF (z := x51) (i := 7) hG hF ty3 rfl rfl rfl rfl rfl rfl rfl), trivial⟩) (by kernel_rfl) fun ow fr w55 hF hE hc => ?_)
         have ra2 := ra2.ext hc
         have ra3 := ra3.ext hc
         have hs := hs.ext hc
         have hM1 := hM1.ext hc
         obtain ⟨x52, hx52, h⟩ := bindE h
         obtain ⟨A23, R23, hsA, hsR, hdA, hbA, hup⟩ := Sep.call (L1 := [BX b1 76 [I s5.2.2.1, L a71 s5.2.2.2.2 c71, .bool s5.2.2.2.1], sl59 (L a71 s5.2.2.2.2 c71) s5.2.2.2.2]) (L2 := []) hs hM1
         refine s_call [B b1 0, I x50, I x51] Try.call58 rfl rfl hF rfl (spec_l04Net_l04Xor_ok n (D.l04Net.mk (D.Circuit.mk s5.2.2.1 s5.2.2.2.2) s5.2.2.2.1) x50 x51 hx52 hsA hbA hdA) fun v w56 fr hRes hF => ?_
         obtain ⟨a73, c73, rfl, _, hp, hs⟩ := hRes
         obtain ⟨S72, hp, hs⟩ := hup hp hs
         have ra2 := ra2.stp hM1 hp
         have ra3 := ra3.stp hM1 hp
         have hM1 := hM1.stp hp
         have hs : Sep [BX b1 76 [I x52.2.c.Inputs, L a73 x52.2.c.Gates c73, .bool x52.2.full], sl59 (L a73 x52.2.c.Gates c73) x52.2.c.Gates] w56 S72 := hs
         refine from_pure 1 [(0, B b1 0), (2, L a1 p2 c1), (3, L a2 p3 c2), (12, I s5.1), (14, I x52.1), (121, I (len p2)), (122, I s5.2.1)] hF (by kernel_rfl) fun fr hF => ?_
         refine from_end rfl (then_normal ?_)
         refine (wp_text' ?_)
         refine from_pure 4 [(0, B b1 0), (2, L a1 p2 c1), (3, L a2 p3 c2), (121, I (len p2)), (122, I s5.2.1), (135, B b1 0), (136, I s5.1), (138, I (w64 (0 - x52.1)))] hF (by kernel_rfl) fun fr hF => ?_
         obtain ⟨x53, hx53, h⟩ := bindE h
         obtain ⟨A24, R24, hsA, hsR, hdA, hbA, hup⟩ := Sep.call (L1 := [BX b1 76 [I x52.2.c.Inputs, L a73 x52.2.c.Gates c73, .bool x52.2.full], sl59 (L a73 x52.2.c.Gates c73) x52.2.c.Gates]) (L2 := []) hs hM1
         refine s_call [B b1 0, I s5.1, I (w64 (0 - x52.1))] Try.call46 rfl rfl hF rfl (spec_l04Net_l04And_ok n x52.2 s5.1 (w64 (0 - x52.1)) hx53 hsA hbA hdA) fun v w57 fr hRes hF => ?_
         obtain ⟨a74, c74, rfl, _, hp, hs⟩ := hRes
         obtain ⟨S73, hp, hs⟩ := hup hp hs
         have ra2 := ra2.stp hM1 hp
         have ra3 := ra3.stp hM1 hp
         have hM1 := hM1.stp hp
         have hs : Sep [BX b1 76 [I x53.2.c.Inputs, L a74 x53.2.c.Gates c74, .bool x53.2.full], sl59 (L a74 x53.2.c.Gates c74) x53.2.c.Gates] w57 S73 := hs
         refine from_pure 1 [(0, B b1 0), (2, L a1 p2 c1), (3, L a2 p3 c2), (12, I x53.1), (121, I (len p2)), (122, I s5.2.1)] hF (by kernel_rfl) fun fr hF => ?_
         refine from_end rfl ?_
         refine blk_normal (then_normal ?_)
         refine (wp_pure [(0, B b1 0), (2, L a1 p2 c1), (3, L a2 p3 c2), (12, I x53.1), (121, I (len p2)), (122, I (w64 (s5.2.1 + 1)))] hF (by kernel_rfl) fun fr hF => then_normal ?_)
         exact ⟨_, (Option.some.inj h).symm, a74, c74, S73, _, hF.sub _ (by kernel_rfl), hM1, hs⟩
       replace h := iteF hb h
       refine (wp_exit (then_exit (then_exit (blk_exit_eq ?_))))
       obtain rfl := hr5 _ (Option.some.inj h).symm
       exact then_normal ⟨a71, c71, S70, _, hF.sub _ (by kernel_rfl), hM1, hs⟩
     · obtain ⟨a72, c72, S71, F28, hF, hMx, hs⟩ := hM
       have hM0 := hM0.trans hMx
       refine (wp_text' ?_)
       refine from_pure 1 [(141, I rl5.1)] hF (by kernel_rfl) fun fr hF => ?_
       refine q_lit (E := 3) hs hM0 [I rl5.1] (([rl5.1] : List Int).map Flat.enc) ([rl5.1] : List Int) rfl rfl hF [I rl5.1] rfl (fun w => by kernel_rfl) (css_flat _) rfl rfl rfl fun a75 c75 w58 S74 fr hs hp hF => ?_
       have hM0 := hM0.stp hp
       have hs : Sep [sl3 (L a75 ([rl5.1] : List Int) c75) ([rl5.1] : List Int), BX b1 76 [I rl5.2.1, L a72 rl5.2.2.2 c72, .bool rl5.2.2.1], sl59 (L a72 rl5.2.2.2 c72) rl5.2.2.2] w58 S74 := hs
       refine from_pure 1 [(9, L a75 ([rl5.1] : List Int) c75)] hF (by kernel_rfl) fun fr hF => ?_
       refine from_end rfl ?_
       refine blk_normal (then_normal ?_)
       refine wp_seq (wp_pure [(8, L a75 ([rl5.1] : List Int) c75)] hF (by kernel_rfl) fun fr hF => then_normal ?_)
       obtain rfl := Option.some.inj h
       obtain ⟨S75, F29, hMn, hs, r19, hfz⟩ := Sep.freeze hs hM0
       have r19 := SL.rv r19
       have hM0 := hMn
       exact wp_ret (ret1 rfl hF rfl ⟨_, rfl, _, a72, c72, rfl, S75, _, hM0.out, hs, hM0.rvF, (r19)⟩)
   replace h := iteF hb h
   refine wp_seq (wp_pure [(0, B b1 0), (2, L a1 p2 c1), (3, L a2 p3 c2), (9, L a3 ([] : List Int) c3), (16, I p1), (143, .bool (p1 == 15))] hF (by kernel_rfl) fun fr hF => then_normal ?_)
   refine (wp_if hF (b := (p1 == 15)) rfl (fun hb => ?_) (fun hb => ?_))
   · replace h := iteT hb h
     have hs : Sep [BX b1 76 [I p0.c.Inputs, L pa0 p0.c.Gates pc0, .bool p0.full], sl59 (L pa0 p0.c.Gates pc0) p0.c.Gates] w1 S1 := Sep.pick [1, 2] hs (by decide) rfl
     refine (wp_text' ?_)
     refine from_pure 3 [(145, B b1 0), (146, L a1 p2 c1), (147, L a2 p3 c2)] hF (by kernel_rfl) fun fr hF => ?_
     obtain ⟨x54, hx54, h⟩ := bindE h
     obtain ⟨A25, R25, hsA, hsR, hdA, hbA, hup⟩ := Sep.call (L1 := [BX b1 76 [I p0.c.Inputs, L pa0 p0.c.Gates pc0, .bool p0.full], sl59 (L pa0 p0.c.Gates pc0) p0.c.Gates]) (L2 := []) hs hM0
     refine s_call [B b1 0, L a1 p2 c1, L a2 p3 c2] Try.call93 rfl rfl hF rfl (spec_l04Net_l04Less_ok n p0 p2 p3 hx54 hsA hbA hdA (ra2.big (fun _ h => .inl h)) (ra3.big (fun _ h => .inl h))) fun v w59 fr hRes hF => ?_
     obtain ⟨a76, c76, rfl, _, hp, hs⟩ := hRes
     obtain ⟨S76, hp, hs⟩ := hup hp hs
     have ra2 := ra2.stp hM0 hp
     have ra3 := ra3.stp hM0 hp
     have hM0 := hM0.stp hp
     have hs : Sep [BX b1 76 [I x54.2.c.Inputs, L a76 x54.2.c.Gates c76, .bool x54.2.full], sl59 (L a76 x54.2.c.Gates c76) x54.2.c.Gates] w59 S76 := hs
     refine q_lit (E := 3) hs hM0 [I x54.1] (([x54.1] : List Int).map Flat.enc) ([x54.1] : List Int) rfl rfl hF [I x54.1] rfl (fun w => by kernel_rfl) (css_flat _) rfl rfl rfl fun a77 c77 w60 S77 fr hs hp hF => ?_
     have hM0 := hM0.stp hp
     have hs : Sep [sl3 (L a77 ([x54.1] : List Int) c77) ([x54.1] : List Int), BX b1 76 [I x54.2.c.Inputs, L a76 x54.2.c.Gates c76, .bool x54.2.full], sl59 (L a76 x54.2.c.Gates c76) x54.2.c.Gates] w60 S77 := hs
     refine from_pure 1 [(9, L a77 ([x54.1] : List Int) c77)] hF (by kernel_rfl) fun fr hF => ?_
     refine from_end rfl ?_
     refine blk_normal (then_normal ?_)
     refine wp_seq (wp_pure [(8, L a77 ([x54.1] : List Int) c77)] hF (by kernel_rfl) fun fr hF => then_normal ?_)
     obtain rfl := Option.some.inj h
     obtain ⟨S78, F30, hMn, hs, r20, hfz⟩ := Sep.freeze hs hM0
     have r20 := SL.rv r20
     have hM0 := hMn
     exact wp_ret (ret1 rfl hF rfl ⟨_, rfl, _, a76, c76, rfl, S78, _, hM0.out, hs, hM0.rvF, (r20)⟩)
   replace h := iteF hb h
   refine wp_seq (wp_pure [(0, B b1 0), (2, L a1 p2 c1), (3, L a2 p3 c2), (9, L a3 ([] : List Int) c3), (150, .bool (p1 == 16))] hF (by kernel_rfl) fun fr hF => then_normal ?_)
   refine (wp_if hF (b := (p1 == 16)) rfl (fun hb => ?_) (fun hb => ?_))
   · replace h := iteT hb h
     have hs : Sep [BX b1 76 [I p0.c.Inputs, L pa0 p0.c.Gates pc0, .bool p0.full], sl59 (L pa0 p0.c.Gates pc0) p0.c.Gates] w1 S1 := Sep.pick [1, 2] hs (by decide) rfl
     refine (wp_text' ?_)
     refine from_pure 2 [(3, L a2 p3 c2), (152, B b1 0), (153, L a1 p2 c1)] hF (by kernel_rfl) fun fr hF => ?_
     obtain ⟨x55, hx55, h⟩ := bindE h
     refine s_call [L a1 p2 c1] Try.call94 rfl rfl hF rfl (spec_l04Flip_ok p2 hx55 (ra2)) fun v w61 fr hRes hF => ?_
     obtain ⟨a78, c78, rfl, _, hp, hs2⟩ := hRes
     obtain ⟨S79, hp, hs⟩ := hs.got hM0 hp hs2
     have ra3 := ra3.stp hM0 hp
     have ra2 := ra2.stp hM0 hp
     have hM0 := hM0.stp hp
     have hs : Sep [sl3 (L a78 x55 c78) x55, BX b1 76 [I p0.c.Inputs, L pa0 p0.c.Gates pc0, .bool p0.full], sl59 (L pa0 p0.c.Gates pc0) p0.c.Gates] w61 S79 := hs
     refine from_pure 1 [(152, B b1 0), (154, L a78 x55 c78), (155, L a2 p3 c2)] hF (by kernel_rfl) fun fr hF => ?_
     obtain ⟨x56, hx56, h⟩ := bindE h
     refine s_call [L a2 p3 c2] Try.call94 rfl rfl hF rfl (spec_l04Flip_ok p3 hx56 (ra3)) fun v w62 fr hRes hF => ?_
     obtain ⟨a79, c79, rfl, _, hp, hs2⟩ := hRes
     obtain ⟨S80, hp, hs⟩ := hs.got hM0 hp hs2
     have ra3 := ra3.stp hM0 hp
     have hM0 := hM0.stp hp
     have hs : Sep [sl3 (L a79 x56 c79) x56, sl3 (L a78 x55 c78) x55, BX b1 76 [I p0.c.Inputs, L pa0 p0.c.Gates pc0, .bool p0.full], sl59 (L pa0 p0.c.Gates pc0) p0.c.Gates] w62 S80 := hs
     obtain ⟨x57, hx57, h⟩ := bindE h
     have hs : Sep [BX b1 76 [I p0.c.Inputs, L pa0 p0.c.Gates pc0, .bool p0.full], sl59 (L pa0 p0.c.Gates pc0) p0.c.Gates, sl3 (L a79 x56 c79) x56, sl3 (L a78 x55 c78) x55] w62 S80 := Sep.pick [2, 3, 0, 1] hs (by decide) rfl
     obtain ⟨A26, R26, hsA, hsR, hdA, hbA, hup⟩ := Sep.call (L1 := [BX b1 76 [I p0.c.Inputs, L pa0 p0.c.Gates pc0, .bool p0.full], sl59 (L pa0 p0.c.Gates pc0) p0.c.Gates]) (L2 := [sl3 (L a79 x56 c79) x56, sl3 (L a78 x55 c78) x55]) hs hM0
     refine s_call [B b1 0, L a78 x55 c78, L a79 x56 c79] Try.call93 rfl rfl hF rfl (spec_l04Net_l04Less_ok n p0 x55 x56 hx57 hsA hbA hdA ((hsR.rv 1 rfl).big (fun _ h => .inr h)) ((hsR.rv 0 rfl).big (fun _ h => .inr h))) fun v w63 fr hRes hF => ?_
     obtain ⟨a80, c80, rfl, _, hp, hs⟩ := hRes
     obtain ⟨S81, hp, hs⟩ := hup hp hs
     have hM0 := hM0.stp hp
     have hs : Sep [BX b1 76 [I x57.2.c.Inputs, L a80 x57.2.c.Gates c80, .bool x57.2.full], sl59 (L a80 x57.2.c.Gates c80) x57.2.c.Gates, sl3 (L a79 x56 c79) x56, sl3 (L a78 x55 c78) x55] w63 S81 := hs
     have hs : Sep [BX b1 76 [I x57.2.c.Inputs, L a80 x57.2.c.Gates c80, .bool x57.2.full], sl59 (L a80 x57.2.c.Gates c80) x57.2.c.Gates] w63 S81 := Sep.pick [0, 1] hs (by decide) rfl
     refine q_lit (E := 3) hs hM0 [I x57.1] (([x57.1] : List Int).map Flat.enc) ([x57.1] : List Int) rfl rfl hF [I x57.1] rfl (fun w => by kernel_rfl) (css_flat _) rfl rfl rfl fun a81 c81 w64 S82 fr hs hp hF => ?_
     have hM0 := hM0.stp hp
     have hs : Sep [sl3 (L a81 ([x57.1] : List Int) c81) ([x57.1] : List Int), BX b1 76 [I x57.2.c.Inputs, L a80 x57.2.c.Gates c80, .bool x57.2.full], sl59 (L a80 x57.2.c.Gates c80) x57.2.c.Gates] w64 S82 := hs
     refine from_pure 1 [(9, L a81 ([x57.1] : List Int) c81)] hF (by kernel_rfl) fun fr hF => ?_
     refine from_end rfl ?_
     refine blk_normal (then_normal ?_)
     refine wp_seq (wp_pure [(8, L a81 ([x57.1] : List Int) c81)] hF (by kernel_rfl) fun fr hF => then_normal ?_)
     obtain rfl := Option.some.inj h
     obtain ⟨S83, F31, hMn, hs, r21, hfz⟩ := Sep.freeze hs hM0
     have r21 := SL.rv r21
     have hM0 := hMn
     exact wp_ret (ret1 rfl hF rfl ⟨_, rfl, _, a80, c80, rfl, S83, _, hM0.out, hs, hM0.rvF, (r21)⟩)
   replace h := iteF hb h
   refine (wp_skip ?_)
   refine blk_normal (then_normal ?_)
   refine wp_seq (wp_pure [(8, L a3 ([] : List Int) c3)] hF (by kernel_rfl) fun fr hF => then_normal ?_)
   obtain rfl := Option.some.inj h
   obtain ⟨S84, F32, hMn, hs, r22, hfz⟩ := Sep.freeze hs hM0
   have r22 := SL.rv r22
   have hM0 := hMn
   exact wp_ret (ret1 rfl hF rfl ⟨_, rfl, _, pa0, pc0, rfl, S84, _, hM0.out, hs, hM0.rvF, (r22)⟩)
 replace h := iteF hb h
 refine wp_seq (wp_pure [(0, B b1 0), (1, I p1), (2, L a1 p2 c1), (3, L a2 p3 c2), (9, L a3 ([] : List Int) c3), (16, I p1), (109, .bool (p1 == 12))] hF (by kernel_rfl) fun fr hF => then_normal ?_)
 refine (wp_merge [(0, B b1 0), (1, I p1), (2, L a1 p2 c1), (3, L a2 p3 c2), (9, L a3 ([] : List Int) c3), (16, I p1), (109, .bool ((p1 == 12) || (p1 == 13)))] hF (b := (p1 == 12)) rfl (fun hb => ?_) (fun hb => ?_) fun fr hF => then_normal ?_)
 · exact wp_skip ⟨rfl, rfl, (hF.sub [(0, B b1 0), (1, I p1), (2, L a1 p2 c1), (3, L a2 p3 c2), (9, L a3 ([] : List Int) c3), (16, I p1), (109, .bool (p1 == 12))] (by kernel_rfl)).eqs (by first | (simp only [hb]; done) | (simp only [hb]; rfl))⟩
 · exact wp_pure [(0, B b1 0), (1, I p1), (2, L a1 p2 c1), (3, L a2 p3 c2), (9, L a3 ([] : List Int) c3), (16, I p1), (109, .bool (p1 == 13))] hF (by kernel_rfl) fun fr hF => ⟨rfl, rfl, hF.eqs (by first | (simp only [hb]; done) | (simp only [hb]; rfl))⟩
 refine (wp_if hF (b := ((p1 == 12) || (p1 == 13))) rfl (fun hb => ?_) (fun hb => ?_))
 · replace h := iteT hb h
   have hs : Sep [BX b1 76 [I p0.c.Inputs, L pa0 p0.c.Gates pc0, .bool p0.full], sl59 (L pa0 p0.c.Gates pc0) p0.c.Gates] w1 S1 := Sep.pick [1, 2] hs (by decide) rfl
   refine (wp_text' ?_)
   refine from_pure 4 [(113, B b1 0), (114, I p1), (115, L a1 p2 c1), (116, L a2 p3 c2)] hF (by kernel_rfl) fun fr hF => ?_
   obtain ⟨x58, hx58, h⟩ := bindE h
   obtain ⟨A27, R27, hsA, hsR, hdA, hbA, hup⟩ := Sep.call2 (L1 := [BX b1 76 [I p0.c.Inputs, L pa0 p0.c.Gates pc0, .bool p0.full], sl59 (L pa0 p0.c.Gates pc0) p0.c.Gates]) (L2 := []) hs hM0
   refine s_call [B b1 0, I p1, L a1 p2 c1, L a2 p3 c2] Try.call92 rfl rfl hF rfl (spec_l04Net_l04Shift_ok n p0 p1 p2 p3 hx58 hsA hbA hdA (ra2) (ra3)) fun v w65 fr hRes hF => ?_
   obtain ⟨v4, a82, c82, rfl, _, _, hp, hs, hvF, r23⟩ := hRes
   obtain ⟨S85, F33, hp, hs, hMn, hfz, hnw⟩ := hup hp hs hvF
   have ra2 := (ra2.stp hM0 hp).big hfz
   have ra3 := (ra3.stp hM0 hp).big hfz
   have hM0 := hMn
   have hs : Sep [BX b1 76 [I x58.2.c.Inputs, L a82 x58.2.c.Gates c82, .bool x58.2.full], sl59 (L a82 x58.2.c.Gates c82) x58.2.c.Gates] w65 S85 := hs
   have r23 := r23.big hnw
   obtain ⟨a83, c83, rfl, -⟩ := r23.slice
   refine from_pure 1 [(9, L a83 x58.1 c83)] hF (by kernel_rfl) fun fr hF => ?_
   refine from_end rfl ?_
   refine blk_normal (then_normal ?_)
   refine wp_seq (wp_pure [(8, L a83 x58.1 c83)] hF (by kernel_rfl) fun fr hF => then_normal ?_)
   obtain rfl := Option.some.inj h
   exact wp_ret (ret1 rfl hF rfl ⟨_, rfl, _, a82, c82, rfl, S85, _, hM0.out, hs, hM0.rvF, (r23)⟩)
 replace h := iteF hb h
 refine wp_seq (wp_pure [(0, B b1 0), (2, L a1 p2 c1), (3, L a2 p3 c2), (9, L a3 ([] : List Int) c3), (16, I p1), (118, .bool (p1 == 14))] hF (by kernel_rfl) fun fr hF => then_normal ?_)
 refine (wp_if hF (b := (p1 == 14)) rfl (fun hb => ?_) (fun hb => ?_))
 · replace h := iteT hb h
   have hs : Sep [BX b1 76 [I p0.c.Inputs, L pa0 p0.c.Gates pc0, .bool p0.full], sl59 (L pa0 p0.c.Gates pc0) p0.c.Gates] w1 S1 := Sep.pick [1, 2] hs (by decide) rfl
   refine wp_seq (wp_pure [(0, B b1 0), (2, L a1 p2 c1), (3, L a2 p3 c2), (12, I 1)] hF (by kernel_rfl) fun fr hF => then_normal ?_)
   refine wp_seq ?_
   refine wp_seq (wp_pure [(0, B b1 0), (2, L a1 p2 c1), (3, L a2 p3 c2), (12, I 1), (121, I (len p2)), (122, I 0)] hF (by kernel_rfl) fun fr hF => then_normal ?_)
   obtain ⟨rl6, hit6, h⟩ := bindE h
   have hk6 := h
   refine (wp_cut (M := fun fr w' => ∃ a85 c85 S87 F35, FrS 160 [(12, I rl6.1)] fr ∧ Mem w1 S1 (fun k => F0 k ∧ k < w.heap.size) w' S87 F35 ∧ Sep [BX b1 76 [I rl6.2.1, L a85 rl6.2.2.2 c85, .bool rl6.2.2.1], sl59 (L a85 rl6.2.2.2 c85) rl6.2.2.2] w' S87) (wp_block (wp_iter (Inv := fun s6 fr w' => ∃ a84 c84 S86 F34, FrS 160 [(0, B b1 0), (2, L a1 p2 c1), (3, L a2 p3 c2), (12, I s6.1), (121, I (len p2)), (122, I s6.2.1)] fr ∧ Mem w1 S1 (fun k => F0 k ∧ k < w.heap.size) w' S86 F34 ∧ Sep [BX b1 76 [I s6.2.2.1, L a84 s6.2.2.2.2 c84, .bool s6.2.2.2.1], sl59 (L a84 s6.2.2.2.2 c84) s6.2.2.2.2] w' S86) hit6 ⟨pa0, pc0, S1, _, hF.sub _ (by kernel_rfl), (Mem.start hM0.bd hM0.bdF hM0.dj), hs⟩ fun s6 q6 fr w6i hI h hr6 => ?_)) fun fr w6o hM => ?_)
   · obtain ⟨a84, c84, S86, F34, hF, hM1, hs⟩ := hI
     have ra2 := ra2.mem hM1
     have ra3 := ra3.mem hM1
     refine wp_seq (wp_pure [(0, B b1 0), (2, L a1 p2 c1), (3, L a2 p3 c2), (12, I s6.1), (121, I (len p2)), (122, I s6.2.1), (123, .bool (decide (s6.2.1 < (len p2))))] hF (by kernel_rfl) fun fr hF => then_normal ?_)
     refine wp_seq (wp_if hF (b := (decide (s6.2.1 < (len p2)))) rfl (fun hb => ?_) (fun hb => ?_))
     · replace h := iteT hb h
       refine (wp_skip (then_normal ?_))
       refine wp_seq (wp_block ?_)
       refine wp_seq (wp_pure [(0, B b1 0), (2, L a1 p2 c1), (3, L a2 p3 c2), (12, I s6.1), (13, I s6.2.1), (121, I (len p2)), (122, I s6.2.1)] hF (by kernel_rfl) fun fr hF => then_normal ?_)
       obtain ⟨x59, hx59, h⟩ := bindE h
       obtain ⟨x60, hx60, h⟩ := bindE h
       refine wp_seq (region_bm 9 [0, 0, 0, 6, 14, 0, 0, 96, 224, 511, 1023] [true, true, true, false, false, true, true, false, false]
           [.eq (B b1 0), .eq (L a1 p2 c1), .eq (I s6.2.1), .is fun v w => ElemP w (fun k => k < w6i.heap.size) v (x59 : Int), .eq (I x59), .eq (L a2 p3 c2), .eq (I s6.2.1), .is fun v w => ElemP w (fun k => k < w6i.heap.size) v (x60 : Int), .eq (I x60), .any, .any]
           [(0, B b1 0), (2, L a1 p2 c1), (3, L a2 p3 c2), (12, I s6.1), (121, I (len p2)), (122, I s6.2.1), (125, B b1 0), (129, I x59), (133, I x60)] mix hF (by kernel_rfl) (by kernel_rfl) (by kernel_rfl) (by kernel_rfl) ⟨(Pd.monoO_is mono_elem), Pd.monoO_eq, (Pd.monoO_is mono_elem), Pd.monoO_eq, trivial⟩ (fun ow hG => ⟨np_to ow (np_index hG hF ty3 Try.underlying37 rfl rfl (RV.sub (ra2) fun k hk _ => hk) rfl rfl (fun hg => ⟨get?_nn hx59, get?_at hx59⟩)), np_to ow (np_loadF (z := x59) (i := 3) hG hF ty3 rfl rfl rfl rfl rfl rfl rfl), np_to ow (np_index hG hF ty3 Try.underlying37 rfl rfl (RV.sub (ra3) fun k hk _ => hk) rfl rfl (fun hg => ⟨get?_nn hx60, get?_at hx60⟩)), np_to ow (np_loadF (z := x60) (i := 7) hG hF ty3 rfl rfl rfl rfl rfl rfl rfl), trivial⟩) (by kernel_rfl) fun ow fr w66 hF hE hc => ?_)
       have ra2 := ra2.ext hc
       have ra3 := ra3.ext hc
       have hs := hs.ext hc
       have hM1 := hM1.ext hc
       obtain ⟨x61, hx61, h⟩ := bindE h
       obtain ⟨A28, R28, hsA, hsR, hdA, hbA, hup⟩ := Sep.call (L1 := [BX b1 76 [I s6.2.2.1, L a84 s6.2.2.2.2 c84, .bool s6.2.2.2.1], sl59 (L a84 s6.2.2.2.2 c84) s6.2.2.2.2]) (L2 := []) hs hM1
       refine s_call [B b1 0, I x59, I x60] Try.call58 rfl rfl hF rfl (spec_l04Net_l04Xor_ok n (D.l04Net.mk (D.Circuit.mk s6.2.2.1 s6.2.2.2.2) s6.2.2.2.1) x59 x60 hx61 hsA hbA hdA) fun v w67 fr hRes hF => ?_
       obtain ⟨a86, c86, rfl, _, hp, hs⟩ := hRes
       obtain ⟨S88, hp, hs⟩ := hup hp hs
       have ra2 := ra2.stp hM1 hp
       have ra3 := ra3.stp hM1 hp
       have hM1 := hM1.stp hp
       have hs : Sep [BX b1 76 [I x61.2.c.Inputs, L a86 x61.2.c.Gates c86, .bool x61.2.full], sl59 (L a86 x61.2.c.Gates c86) x61.2.c.Gates] w67 S88 := hs
       refine from_pure 1 [(0, B b1 0), (2, L a1 p2 c1), (3, L a2 p3 c2), (12, I s6.1), (14, I x61.1), (121, I (len p2)), (122, I s6.2.1)] hF (by kernel_rfl) fun fr hF => ?_
       refine from_end rfl (then_normal ?_)
       refine (wp_text' ?_)
       refine from_pure 4 [(0, B b1 0), (2, L a1 p2 c1), (3, L a2 p3 c2), (121, I (len p2)), (122, I s6.2.1), (135, B b1 0), (136, I s6.1), (138, I (w64 (0 - x61.1)))] hF (by kernel_rfl) fun fr hF => ?_
       obtain ⟨x62, hx62, h⟩ := bindE h
       obtain ⟨A29, R29, hsA, hsR, hdA, hbA, hup⟩ := Sep.call (L1 := [BX b1 76 [I x61.2.c.Inputs, L a86 x61.2.c.Gates c86, .bool x61.2.full], sl59 (L a86 x61.2.c.Gates c86) x61.2.c.Gates]) (L2 := []) hs hM1
       refine s_call [B b1 0, I s6.1, I (w64 (0 - x61.1))] Try.call46 rfl rfl hF rfl (spec_l04Net_l04And_ok n x61.2 s6.1 (w64 (0 - x61.1)) hx62 hsA hbA hdA) fun v w68 fr hRes hF => ?_
       obtain ⟨a87, c87, rfl, _, hp, hs⟩ := hRes
       obtain ⟨S89, hp, hs⟩ := hup hp hs
       have ra2 := ra2.stp hM1 hp
       have ra3 := ra3.stp hM1 hp
       have hM1 := hM1.stp hp
       have hs : Sep [BX b1 76 [I x62.2.c.Inputs, L a87 x62.2.c.Gates c87, .bool x62.2.full], sl59 (L a87 x62.2.c.Gates c87) x62.2.c.Gates] w68 S89 := hs
       refine from_pure 1 [(0, B b1 0), (2, L a1 p2 c1), (3, L a2 p3 c2), (12, I x62.1), (121, I (len p2)), (122, I s6.2.1)] hF (by kernel_rfl) fun fr hF => ?_
       refine from_end rfl ?_
       refine blk_normal (then_normal ?_)
       refine (wp_pure [(0, B b1 0), (2, L a1 p2 c1), (3, L a2 p3 c2), (12, I x62.1), (121, I (len p2)), (122, I (w64 (s6.2.1 + 1)))] hF (by kernel_rfl) fun fr hF => then_normal ?_)
       exact ⟨_, (Option.some.inj h).symm, a87, c87, S89, _, hF.sub _ (by kernel_rfl), hM1, hs⟩
     replace h := iteF hb h
     refine (wp_exit (then_exit (then_exit (blk_exit_eq ?_))))
     obtain rfl := hr6 _ (Option.some.inj h).symm
     exact then_normal ⟨a84, c84, S86, _, hF.sub _ (by kernel_rfl), hM1, hs⟩
   · obtain ⟨a85, c85, S87, F35, hF, hMx, hs⟩ := hM
     have hM0 := hM0.trans hMx
     refine (wp_text' ?_)
     refine from_pure 1 [(141, I rl6.1)] hF (by kernel_rfl) fun fr hF => ?_
     refine q_lit (E := 3) hs hM0 [I rl6.1] (([rl6.1] : List Int).map Flat.enc) ([rl6.1] : List Int) rfl rfl hF [I rl6.1] rfl (fun w => by kernel_rfl) (css_flat _) rfl rfl rfl fun a88 c88 w69 S90 fr hs hp hF => ?_
     have hM0 := hM0.stp hp
     have hs : Sep [sl3 (L a88 ([rl6.1] : List Int) c88) ([rl6.1] : List Int), BX b1 76 [I rl6.2.1, L a85 rl6.2.2.2 c85, .bool rl6.2.2.1], sl59 (L a85 rl6.2.2.2 c85) rl6.2.2.2] w69 S90 := hs
     refine from_pure 1 [(9, L a88 ([rl6.1] : List Int) c88)] hF (by kernel_rfl) fun fr hF => ?_
     refine from_end rfl ?_
     refine blk_normal (then_normal ?_)
     refine wp_seq (wp_pure [(8, L a88 ([rl6.1] : List Int) c88)] hF (by kernel_rfl) fun fr hF => then_normal ?_)
     obtain rfl := Option.some.inj h
     obtain ⟨S91, F36, hMn, hs, r24, hfz⟩ := Sep.freeze hs hM0
     have r24 := SL.rv r24
     have hM0 := hMn
     exact wp_ret (ret1 rfl hF rfl ⟨_, rfl, _, a85, c85, rfl, S91, _, hM0.out, hs, hM0.rvF, (r24)⟩)
 replace h := iteF hb h
 refine wp_seq (wp_pure [(0, B b1 0), (2, L a1 p2 c1), (3, L a2 p3 c2), (9, L a3 ([] : List Int) c3), (16, I p1), (143, .bool (p1 == 15))] hF (by kernel_rfl) fun fr hF => then_normal ?_)
 refine (wp_if hF (b := (p1 == 15)) rfl (fun hb => ?_) (fun hb => ?_))
 · replace h := iteT hb h
   have hs : Sep [BX b1 76 [I p0.c.Inputs, L pa0 p0.c.Gates pc0, .bool p0.full], sl59 (L pa0 p0.c.Gates pc0) p0.c.Gates] w1 S1 := Sep.pick [1, 2] hs (by decide) rfl
   refine (wp_text' ?_)
   refine from_pure 3 [(145, B b1 0), (146, L a1 p2 c1), (147, L a2 p3 c2)] hF (by kernel_rfl) fun fr hF => ?_
   obtain ⟨x63, hx63, h⟩ := bindE h
   obtain ⟨A30, R30, hsA, hsR, hdA, hbA, hup⟩ := Sep.call (L1 := [BX b1 76 [I p0.c.Inputs, L pa0 p0.c.Gates pc0, .bool p0.full], sl59 (L pa0 p0.c.Gates pc0) p0.c.Gates]) (L2 := []) hs hM0
   refine s_call [B b1 0, L a1 p2 c1, L a2 p3 c2] Try.call93 rfl rfl hF rfl (spec_l04Net_l04Less_ok n p0 p2 p3 hx63 hsA hbA hdA (ra2.big (fun _ h => .inl h)) (ra3.big (fun _ h => .inl h))) fun v w70 fr hRes hF => ?_
   obtain ⟨a89, c89, rfl, _, hp, hs⟩ := hRes
   obtain ⟨S92, hp, hs⟩ := hup hp hs
   have ra2 := ra2.stp hM0 hp
   have ra3 := ra3.stp hM0 hp
   have hM0 := hM0.stp hp
   have hs : Sep [BX b1 76 [I x63.2.c.Inputs, L a89 x63.2.c.Gates c89, .bool x63.2.full], sl59 (L a89 x63.2.c.Gates c89) x63.2.c.Gates] w70 S92 := hs
   refine q_lit (E := 3) hs hM0 [I x63.1] (([x63.1] : List Int).map Flat.enc) ([x63.1] : List Int) rfl rfl hF [I x63.1] rfl (fun w => by kernel_rfl) (css_flat _) rfl rfl rfl fun a90 c90 w71 S93 fr hs hp hF => ?_
   have hM0 := hM0.stp hp
   have hs : Sep [sl3 (L a90 ([x63.1] : List Int) c90) ([x63.1] : List Int), BX b1 76 [I x63.2.c.Inputs, L a89 x63.2.c.Gates c89, .bool x63.2.full], sl59 (L a89 x63.2.c.Gates c89) x63.2.c.Gates] w71 S93 := hs
   refine from_pure 1 [(9, L a90 ([x63.1] : List Int) c90)] hF (by kernel_rfl) fun fr hF => ?_
   refine from_end rfl ?_
   refine blk_normal (then_normal ?_)
   refine wp_seq (wp_pure [(8, L a90 ([x63.1] : List Int) c90)] hF (by kernel_rfl) fun fr hF => then_normal ?_)
   obtain rfl := Option.some.inj h
   obtain ⟨S94, F37, hMn, hs, r25, hfz⟩ := Sep.freeze hs hM0
   have r25 := SL.rv r25
   have hM0 := hMn
   exact wp_ret (ret1 rfl hF rfl ⟨_, rfl, _, a89, c89, rfl, S94, _, hM0.out, hs, hM0.rvF, (r25)⟩)
 replace h := iteF hb h
 refine wp_seq (wp_pure [(0, B b1 0), (2, L a1 p2 c1), (3, L a2 p3 c2), (9, L a3 ([] : List Int) c3), (150, .bool (p1 == 16))] hF (by kernel_rfl) fun fr hF => then_normal ?_)
 refine (wp_if hF (b := (p1 == 16)) rfl (fun hb => ?_) (fun hb => ?_))
 · replace h := iteT hb h
   have hs : Sep [BX b1 76 [I p0.c.Inputs, L pa0 p0.c.Gates pc0, .bool p0.full], sl59 (L pa0 p0.c.Gates pc0) p0.c.Gates] w1 S1 := Sep.pick [1, 2] hs (by decide) rfl
   refine (wp_text' ?_)
   refine from_pure 2 [(3, L a2 p3 c2), (152, B b1 0), (153, L a1 p2 c1)] hF (by kernel_rfl) fun fr hF => ?_
   obtain ⟨x64, hx64, h⟩ := bindE h
   refine s_call [L a1 p2 c1] Try.call94 rfl rfl hF rfl (spec_l04Flip_ok p2 hx64 (ra2)) fun v w72 fr hRes hF => ?_
   obtain ⟨a91, c91, rfl, _, hp, hs2⟩ := hRes
   obtain ⟨S95, hp, hs⟩ := hs.got hM0 hp hs2
   have ra3 := ra3.stp hM0 hp
   have ra2 := ra2.stp hM0 hp
   have hM0 := hM0.stp hp
   have hs : Sep [sl3 (L a91 x64 c91) x64, BX b1 76 [I p0.c.Inputs, L pa0 p0.c.Gates pc0, .bool p0.full], sl59 (L pa0 p0.c.Gates pc0) p0.c.Gates] w72 S95 := hs
   refine from_pure 1 [(152, B b1 0), (154, L a91 x64 c91), (155, L a2 p3 c2)] hF (by kernel_rfl) fun fr hF => ?_
   obtain ⟨x65, hx65, h⟩ := bindE h
   refine s_call [L a2 p3 c2] Try.call94 rfl rfl hF rfl (spec_l04Flip_ok p3 hx65 (ra3)) fun v w73 fr hRes hF => ?_
   obtain ⟨a92, c92, rfl, _, hp, hs2⟩ := hRes
   obtain ⟨S96, hp, hs⟩ := hs.got hM0 hp hs2
   have ra3 := ra3.stp hM0 hp
   have hM0 := hM0.stp hp
   have hs : Sep [sl3 (L a92 x65 c92) x65, sl3 (L a91 x64 c91) x64, BX b1 76 [I p0.c.Inputs, L pa0 p0.c.Gates pc0, .bool p0.full], sl59 (L pa0 p0.c.Gates pc0) p0.c.Gates] w73 S96 := hs
   obtain ⟨x66, hx66, h⟩ := bindE h
   have hs : Sep [BX b1 76 [I p0.c.Inputs, L pa0 p0.c.Gates pc0, .bool p0.full], sl59 (L pa0 p0.c.Gates pc0) p0.c.Gates, sl3 (L a92 x65 c92) x65, sl3 (L a91 x64 c91) x64] w73 S96 := Sep.pick [2, 3, 0, 1] hs (by decide) rfl
   obtain ⟨A31, R31, hsA, hsR, hdA, hbA, hup⟩ := Sep.call (L1 := [BX b1 76 [I p0.c.Inputs, L pa0 p0.c.Gates pc0, .bool p0.full], sl59 (L pa0 p0.c.Gates pc0) p0.c.Gates]) (L2 := [sl3 (L a92 x65 c92) x65, sl3 (L a91 x64 c91) x64]) hs hM0
   refine s_call [B b1 0, L a91 x64 c91, L a92 x65 c92] Try.call93 rfl rfl hF rfl (spec_l04Net_l04Less_ok n p0 x64 x65 hx66 hsA hbA hdA ((hsR.rv 1 rfl).big (fun _ h => .inr h)) ((hsR.rv 0 rfl).big (fun _ h => .inr h))) fun v w74 fr hRes hF => ?_
   obtain ⟨a93, c93, rfl, _, hp, hs⟩ := hRes
   obtain ⟨S97, hp, hs⟩ := hup hp hs
   have hM0 := hM0.stp hp
   have hs : Sep [BX b1 76 [I x66.2.c.Inputs, L a93 x66.2.c.Gates c93, .bool x66.2.full], sl59 (L a93 x66.2.c.Gates c93) x66.2.c.Gates, sl3 (L a92 x65 c92) x65, sl3 (L a91 x64 c91) x64] w74 S97 := hs
   have hs : Sep [BX b1 76 [I x66.2.c.Inputs, L a93 x66.2.c.Gates c93, .bool x66.2.full], sl59 (L a93 x66.2.c.Gates c93) x66.2.c.Gates] w74 S97 := Sep.pick [0, 1] hs (by decide) rfl
   refine q_lit (E := 3) hs hM0 [I x66.1] (([x66.1] : List Int).map Flat.enc) ([x66.1] : List Int) rfl rfl hF [I x66.1] rfl (fun w => by kernel_rfl) (css_flat _) rfl rfl rfl fun a94 c94 w75 S98 fr hs hp hF => ?_
   have hM0 := hM0.stp hp
   have hs : Sep [sl3 (L a94 ([x66.1] : List Int) c94) ([x66.1] : List Int), BX b1 76 [I x66.2.c.Inputs, L a93 x66.2.c.Gates c93, .bool x66.2.full], sl59 (L a93 x66.2.c.Gates c93) x66.2.c.Gates] w75 S98 := hs
   refine from_pure 1 [(9, L a94 ([x66.1] : List Int) c94)] hF (by kernel_rfl) fun fr hF => ?_
   refine from_end rfl ?_
   refine blk_normal (then_normal ?_)
   refine wp_seq (wp_pure [(8, L a94 ([x66.1] : List Int) c94)] hF (by kernel_rfl) fun fr hF => then_normal ?_)
   obtain rfl := Option.some.inj h
   obtain ⟨S99, F38, hMn, hs, r26, hfz⟩ := Sep.freeze hs hM0
   have r26 := SL.rv r26
   have hM0 := hMn
   exact wp_ret (ret1 rfl hF rfl ⟨_, rfl, _, a93, c93, rfl, S99, _, hM0.out, hs, hM0.rvF, (r26)⟩)
 replace h := iteF hb h
 refine (wp_skip ?_)
 refine blk_normal (then_normal ?_)
 refine wp_seq (wp_pure [(8, L a3 ([] : List Int) c3)] hF (by kernel_rfl) fun fr hF => then_normal ?_)
 obtain rfl := Option.some.inj h
 obtain ⟨S100, F39, hMn, hs, r27, hfz⟩ := Sep.freeze hs hM0
 have r27 := SL.rv r27
 have hM0 := hMn
 exact wp_ret (ret1 rfl hF rfl ⟨_, rfl, _, pa0, pc0, rfl, S100, _, hM0.out, hs, hM0.rvF, (r27)⟩)

theorem spec_OpLits_ok (n : Nat) (p0 : D.Circuit) (p1 : Int) (p2 : List Int) (p3 : List Int) {r : D.Circuit × (List Int) × Bool} (h : spec_OpLits n p0 p1 p2 p3 = some r) {w : World} {G0 : Nat → Prop} {va0 : Value} (ra0 : RV w G0 va0 p0) {G2 : Nat → Prop} {va2 : Value} (ra2 : RV w G2 va2 p2) {G3 : Nat → Prop} {va3 : Value} (ra3 : RV w G3 va3 p3) :
   Calls Try.prog 31 [va0, I p1, va2, va3].toArray w fun e w' => ∃ v, e = .returned v ∧ ∃ a1 c1 a2 c2, v = .tuple #[.agg #[I r.1.Inputs, L a1 r.1.Gates c1], L a2 r.2.1 c2, .bool r.2.2] ∧ ∃ S', Stp w Non w' S' ∧ Sep [sl59 (L a1 r.1.Gates c1) r.1.Gates, sl3 (L a2 r.2.1 c2) r.2.1] w' S' := by
 unfold spec_OpLits at h
 have hs := Sep.nil w Non
 have hM0 : Mem w Non (fun k => (G0 k ∨ G2 k ∨ G3 k) ∧ k < w.heap.size) w Non (fun k => (G0 k ∨ G2 k ∨ G3 k) ∧ k < w.heap.size) := Mem.start (fun _ h => h.elim) (fun _ h => h.2) (fun _ h => h.elim)
 have ra0 := ra0.sub (F' := (fun k => (G0 k ∨ G2 k ∨ G3 k) ∧ k < w.heap.size)) (fun k hk h => ⟨.inl h, hk⟩)
 obtain ⟨v1, rfl, r1⟩ := RV.Circuit ra0
 obtain ⟨a1, c1, rfl, -⟩ := r1.slice
 have ra2 := ra2.sub (F' := (fun k => (G0 k ∨ G2 k ∨ G3 k) ∧ k < w.heap.size)) (fun k hk h => ⟨.inr (.inl h), hk⟩)
 obtain ⟨a2, c2, rfl, -⟩ := ra2.slice
 have ra3 := ra3.sub (F' := (fun k => (G0 k ∨ G2 k ∨ G3 k) ∧ k < w.heap.size)) (fun k hk h => ⟨.inr (.inr (h)), hk⟩)
 obtain ⟨a3, c3, rfl, -⟩ := ra3.slice
 refine enter (N := 66) Try.func31 rfl Try.ntmps31 rfl fun fr hF => ?_
 refine wp_seq (wp_text' ?_)
 refine q_box hs hM0 [I p0.Inputs, L a1 p0.Gates c1] rfl rfl hF rfl rfl fun b1 w1 S1 fr hs hp hF => ?_
 have r1 := r1.stp hM0 hp
 have ra2 := ra2.stp hM0 hp
 have ra3 := ra3.stp hM0 hp
 have hM0 := hM0.stp hp
 have hs : Sep [BX b1 28 [I p0.Inputs, L a1 p0.Gates c1]] w1 S1 := hs
 refine q_alloc (z := .agg #[I 0, L none ([] : List D.Gate) 0]) hs hM0 [I 0, L none ([] : List D.Gate) 0] rfl rfl hF (by kernel_rfl) rfl fun b2 w2 S2 fr hs hp hF => ?_
 have ra2 := ra2.stp hM0 hp
 have ra3 := ra3.stp hM0 hp
 have r1 := r1.stp hM0 hp
 have hM0 := hM0.stp hp
 have hs : Sep [BX b2 28 [I 0, L none ([] : List D.Gate) 0], BX b1 28 [I p0.Inputs, L a1 p0.Gates c1]] w2 S2 := hs
 refine from_pure 2 [(1, I p1), (2, L a2 p2 c2), (3, L a3 p3 c3), (4, B b1 0), (8, B b2 0)] hF (by kernel_rfl) fun fr hF => ?_
 refine from_end rfl (then_normal ?_)
 refine wp_seq ?_
 obtain ⟨x1, hx1, h⟩ := bindE h
 obtain ⟨x2, hx2, h⟩ := bindE h
 obtain ⟨x3, hx3, h⟩ := bindE h
 obtain ⟨x4, hx4, h⟩ := bindE h
 obtain ⟨x5, hx5, h⟩ := bindE h
 refine wp_seq (region_b [] [false, false, true, true, true, true, true, true, true, true, true, true, true, false, true, true, true, false, true, false, true, true, true, false, true, false, true, true, true, true, false, true, true]
     (.eq (.agg #[I p0.Inputs, L a1 p0.Gates c1]) :: .eq (.bool x1) :: .eq (.bool (!x1)) :: .eq (.bool (!x1)) :: .eq (L a2 p2 c2) :: .eq (I (len p2)) :: .eq (L a3 p3 c3) :: .eq (I (len p3)) :: .eq (.bool ((len p2) != (len p3))) :: .eq (.bool ((!x1) || ((len p2) != (len p3)))) :: .eq (.bool ((!x1) || ((len p2) != (len p3)))) :: .eq (L a2 p2 c2) :: .eq (I (len p2)) :: .eq (.bool x2) :: .eq (.bool (!x2)) :: .eq (.bool (((!x1) || ((len p2) != (len p3))) || (!x2))) :: .eq (.bool (((!x1) || ((len p2) != (len p3))) || (!x2))) :: .eq (.agg #[I p0.Inputs, L a1 p0.Gates c1]) :: .eq (L a2 p2 c2) :: .eq (.bool x3) :: .eq (.bool (!x3)) :: .eq (.bool ((((!x1) || ((len p2) != (len p3))) || (!x2)) || (!x3))) :: .eq (.bool ((((!x1) || ((len p2) != (len p3))) || (!x2)) || (!x3))) :: .eq (.agg #[I p0.Inputs, L a1 p0.Gates c1]) :: .eq (L a3 p3 c3) :: .eq (.bool x4) :: .eq (.bool (!x4)) :: .eq (.bool (((((!x1) || ((len p2) != (len p3))) || (!x2)) || (!x3)) || (!x4))) :: .eq (.bool (((((!x1) || ((len p2) != (len p3))) || (!x2)) || (!x3)) || (!x4))) :: .eq (I p1) :: .eq (.bool x5) :: .eq (.bool (!x5)) :: .eq (.bool ((((((!x1) || ((len p2) != (len p3))) || (!x2)) || (!x3)) || (!x4)) || (!x5))) :: [])
     [(1, I p1), (2, L a2 p2 c2), (3, L a3 p3 c3), (4, B b1 0), (8, B b2 0), (45, .bool ((((((!x1) || ((len p2) != (len p3))) || (!x2)) || (!x3)) || (!x4)) || (!x5)))] mix hF (by kernel_rfl) (by kernel_rfl) (by kernel_rfl) ⟨Pd.mono_eq, Pd.mono_eq, Pd.mono_eq, Pd.mono_eq, Pd.mono_eq, Pd.mono_eq, Pd.mono_eq, Pd.mono_eq, trivial⟩ (fun hG => ⟨np_loadBoxS hG hF ty28 rfl rfl (hs.bx 1 rfl) rfl rfl rfl rfl, np_call [.agg #[I p0.Inputs, L a1 p0.Gates c1]] hG hF Try.call43 rfl rfl (fun w hC hg => (spec_CircuitOk_ok n p0 hx1 ((RV.mk_Circuit p0 (r1)).ext hC)).mono fun e w' ⟨v, he, hv, hc⟩ => ⟨v, he, hc, hv⟩), np_call [I (len p2), I 1, I 15] hG hF Try.call70 rfl rfl (fun w hC hg => (spec_l01In_ok (len p2) 1 15 (iteF hg.2 hx2)).mono fun e w' ⟨v, he, hv, hc⟩ => ⟨v, he, hc, hv⟩), np_loadBoxS hG hF ty28 rfl rfl (hs.bx 1 rfl) rfl rfl rfl rfl, np_call [.agg #[I p0.Inputs, L a1 p0.Gates c1], L a2 p2 c2] hG hF Try.call44 rfl rfl (fun w hC hg => (spec_l04Lits_ok n p0 p2 (iteF hg.2 hx3) ((RV.mk_Circuit p0 (r1)).ext hC) ((ra2).ext hC)).mono fun e w' ⟨v, he, hv, hc⟩ => ⟨v, he, hc, hv⟩), np_loadBoxS hG hF ty28 rfl rfl (hs.bx 1 rfl) rfl rfl rfl rfl, np_call [.agg #[I p0.Inputs, L a1 p0.Gates c1], L a3 p3 c3] hG hF Try.call44 rfl rfl (fun w hC hg => (spec_l04Lits_ok n p0 p3 (iteF hg.2 hx4) ((RV.mk_Circuit p0 (r1)).ext hC) ((ra3).ext hC)).mono fun e w' ⟨v, he, hv, hc⟩ => ⟨v, he, hc, hv⟩), np_call [I p1, I 3, I 16] hG hF Try.call70 rfl rfl (fun w hC hg => (spec_l01In_ok p1 3 16 (iteF hg.2 hx5)).mono fun e w' ⟨v, he, hv, hc⟩ => ⟨v, he, hc, hv⟩), trivial⟩) (by kernel_rfl) fun fr w3 hF hE hc => then_normal ?_)
 have ra2 := ra2.ext hc
 have ra3 := ra3.ext hc
 have r1 := r1.ext hc
 have hs := hs.ext hc
 have hM0 := hM0.ext hc
 refine (wp_if hF (b := ((((((!x1) || ((len p2) != (len p3))) || (!x2)) || (!x3)) || (!x4)) || (!x5))) rfl (fun hb => ?_) (fun hb => ?_))
 · replace h := iteT hb h
   have hs : Sep [BX b2 28 [I 0, L none ([] : List D.Gate) 0]] w3 S2 := Sep.pick [0] hs (by decide) rfl
   refine wp_seq (wp_text' ?_)
   refine from_pure 1 [(8, B b2 0), (46, .agg #[I 0, L none ([] : List D.Gate) 0])] hF (by kernel_rfl) fun fr hF => ?_
   refine q_storeBoxS 0 hs hM0 rfl [I 0, L none ([] : List D.Gate) 0] rfl hF rfl rfl (by kernel_rfl) rfl rfl rfl fun w4 S3 hs hp hF => ?_
   have hM0 := hM0.stp hp
   have hs : Sep [BX b2 28 [I 0, L none ([] : List D.Gate) 0]] w4 S3 := hs
   refine from_pure 2 [(8, B b2 0), (9, L none ([] : List Int) 0), (10, .bool false)] hF (by kernel_rfl) fun fr hF => ?_
   refine from_end rfl (then_normal ?_)
   have hrets := fun {σ : List (Nat × Value)} (h : σ = [(8, B b2 0), (9, L none ([] : List Int) 0), (10, .bool false)]) => (by subst h; exact (Rets.cell rfl ty28 (hs.bx 0 rfl) rfl rfl (Rets.tmp rfl (Rets.tmp rfl Rets.nil))) : Rets Try.prog σ w4 [.cell 8 28, .tmp 9, .tmp 10] [.agg #[I 0, L none ([] : List D.Gate) 0], L none ([] : List Int) 0, .bool false])
   have hs : Sep [sl59 (L none ([] : List D.Gate) 0) ([] : List D.Gate), BX b2 28 [I 0, L none ([] : List D.Gate) 0]] w4 S3 := hs.cons_nil (α := D.Gate) 59
   have hs : Sep [sl3 (L none ([] : List Int) 0) ([] : List Int), sl59 (L none ([] : List D.Gate) 0) ([] : List D.Gate), BX b2 28 [I 0, L none ([] : List D.Gate) 0]] w4 S3 := hs.cons_nil (α := Int) 3
   obtain rfl := Option.some.inj h
   have hs : Sep [sl59 (L none ([] : List D.Gate) 0) ([] : List D.Gate), sl3 (L none ([] : List Int) 0) ([] : List Int)] w4 S3 := Sep.pick [1, 0] hs (by decide) rfl
   exact wp_ret (then_ret (retG (rs := [.cell 8 28, .tmp 9, .tmp 10]) rfl (hF.sub [(8, B b2 0), (9, L none ([] : List Int) 0), (10, .bool false)] (by kernel_rfl)) (hrets rfl) rfl ⟨_, rfl, none, 0, none, 0, rfl, S3, hM0.out, hs⟩))
 replace h := iteF hb h
 refine (wp_skip (then_normal ?_))
 refine wp_seq (wp_text' ?_)
 refine s_loadBoxS ty28 rfl rfl hF rfl (hs.bx 1 rfl) rfl rfl fun fr hF => ?_
 have hs : Sep [BX b2 28 [I 0, L none ([] : List D.Gate) 0]] w3 S2 := Sep.pick [0] hs (by decide) rfl
 obtain ⟨x6, hx6, h⟩ := bindE h
 refine s_call [.agg #[I p0.Inputs, L a1 p0.Gates c1]] Try.call45 rfl rfl hF rfl (spec_l04New_ok p0 hx6 (RV.mk_Circuit p0 (r1))) fun v w5 fr hRes hF => ?_
 obtain ⟨b3, a4, c4, rfl, _, hp, hs2⟩ := hRes
 obtain ⟨S4, hp, hs⟩ := hs.got hM0 hp hs2
 have ra2 := ra2.stp hM0 hp
 have ra3 := ra3.stp hM0 hp
 have r1 := r1.stp hM0 hp
 have hM0 := hM0.stp hp
 have hs : Sep [BX b3 76 [I x6.c.Inputs, L a4 x6.c.Gates c4, .bool x6.full], sl59 (L a4 x6.c.Gates c4) x6.c.Gates, BX b2 28 [I 0, L none ([] : List D.Gate) 0]] w5 S4 := hs
 refine from_pure 1 [(1, I p1), (2, L a2 p2 c2), (3, L a3 p3 c3), (8, B b2 0), (11, B b3 0)] hF (by kernel_rfl) fun fr hF => ?_
 refine from_end rfl (then_normal ?_)
 refine wp_seq (wp_text' ?_)
 refine from_pure 4 [(8, B b2 0), (11, B b3 0), (49, B b3 0), (50, I p1), (51, L a2 p2 c2), (52, L a3 p3 c3)] hF (by kernel_rfl) fun fr hF => ?_
 obtain ⟨x7, hx7, h⟩ := bindE h
 obtain ⟨A1, R1, hsA, hsR, hdA, hbA, hup⟩ := Sep.call2 (L1 := [BX b3 76 [I x6.c.Inputs, L a4 x6.c.Gates c4, .bool x6.full], sl59 (L a4 x6.c.Gates c4) x6.c.Gates]) (L2 := [BX b2 28 [I 0, L none ([] : List D.Gate) 0]]) hs hM0
 refine s_call [B b3 0, I p1, L a2 p2 c2, L a3 p3 c3] Try.call71 rfl rfl hF rfl (spec_l04Net_l04Op_ok n x6 p1 p2 p3 hx7 hsA hbA hdA (ra2) (ra3)) fun v w6 fr hRes hF => ?_
 obtain ⟨v2, a5, c5, rfl, _, _, hp, hs, hvF, r2⟩ := hRes
 obtain ⟨S5, F1, hp, hs, hMn, hfz, hnw⟩ := hup hp hs hvF
 have ra2 := (ra2.stp hM0 hp).big hfz
 have ra3 := (ra3.stp hM0 hp).big hfz
 have hM0 := hMn
 have hs : Sep [BX b3 76 [I x7.2.c.Inputs, L a5 x7.2.c.Gates c5, .bool x7.2.full], sl59 (L a5 x7.2.c.Gates c5) x7.2.c.Gates, BX b2 28 [I 0, L none ([] : List D.Gate) 0]] w6 S5 := hs
 have r2 := r2.big hnw
 obtain ⟨a6, c6, rfl, -⟩ := r2.slice
 refine from_pure 1 [(8, B b2 0), (11, B b3 0), (12, L a6 x7.1 c6)] hF (by kernel_rfl) fun fr hF => ?_
 refine from_end rfl (then_normal ?_)
 refine wp_seq ?_
 refine wp_seq (wp_text' ?_)
 refine from_pure 3 [(8, B b2 0), (11, B b3 0), (12, L a6 x7.1 c6), (56, B b3 2)] hF (by kernel_rfl) fun fr hF => ?_
 refine s_loadBox (.bool x7.2.full) ty4 rfl rfl hF rfl (hs.bx 0 rfl) rfl rfl fun fr hF => ?_
 refine from_end rfl (then_normal ?_)
 refine (wp_if hF (b := x7.2.full) rfl (fun hb => ?_) (fun hb => ?_))
 · replace h := iteT hb h
   have hs : Sep [BX b2 28 [I 0, L none ([] : List D.Gate) 0]] w6 S5 := Sep.pick [2] hs (by decide) rfl
   refine wp_seq (wp_text' ?_)
   refine from_pure 1 [(8, B b2 0), (58, .agg #[I 0, L none ([] : List D.Gate) 0])] hF (by kernel_rfl) fun fr hF => ?_
   refine q_storeBoxS 0 hs hM0 rfl [I 0, L none ([] : List D.Gate) 0] rfl hF rfl rfl (by kernel_rfl) rfl rfl rfl fun w7 S6 hs hp hF => ?_
   have hM0 := hM0.stp hp
   have hs : Sep [BX b2 28 [I 0, L none ([] : List D.Gate) 0]] w7 S6 := hs
   refine from_pure 2 [(8, B b2 0), (9, L none ([] : List Int) 0), (10, .bool false)] hF (by kernel_rfl) fun fr hF => ?_
   refine from_end rfl (then_normal ?_)
   have hrets := fun {σ : List (Nat × Value)} (h : σ = [(8, B b2 0), (9, L none ([] : List Int) 0), (10, .bool false)]) => (by subst h; exact (Rets.cell rfl ty28 (hs.bx 0 rfl) rfl rfl (Rets.tmp rfl (Rets.tmp rfl Rets.nil))) : Rets Try.prog σ w7 [.cell 8 28, .tmp 9, .tmp 10] [.agg #[I 0, L none ([] : List D.Gate) 0], L none ([] : List Int) 0, .bool false])
   have hs : Sep [sl59 (L none ([] : List D.Gate) 0) ([] : List D.Gate), BX b2 28 [I 0, L none ([] : List D.Gate) 0]] w7 S6 := hs.cons_nil (α := D.Gate) 59
   have hs : Sep [sl3 (L none ([] : List Int) 0) ([] : List Int), sl59 (L none ([] : List D.Gate) 0) ([] : List D.Gate), BX b2 28 [I 0, L none ([] : List D.Gate) 0]] w7 S6 := hs.cons_nil (α := Int) 3
   obtain rfl := Option.some.inj h
   have hs : Sep [sl59 (L none ([] : List D.Gate) 0) ([] : List D.Gate), sl3 (L none ([] : List Int) 0) ([] : List Int)] w7 S6 := Sep.pick [1, 0] hs (by decide) rfl
   exact wp_ret (then_ret (retG (rs := [.cell 8 28, .tmp 9, .tmp 10]) rfl (hF.sub [(8, B b2 0), (9, L none ([] : List Int) 0), (10, .bool false)] (by kernel_rfl)) (hrets rfl) rfl ⟨_, rfl, none, 0, none, 0, rfl, S6, hM0.out, hs⟩))
 replace h := iteF hb h
 refine (wp_skip (then_normal ?_))
 obtain ⟨x8, hx8, h⟩ := bindE h
 refine wp_seq (region_bm 7 [0, 1, 3, 7, 0, 0, 48, 127, 255, 511] [true, true, true, false, false, true, false]
     [.eq (B b3 0), .eq (B b3 0), .eq (B b3 0), .eq (.agg #[I x7.2.c.Inputs, L a5 x7.2.c.Gates c5]), .is fun v _ => ∃ b, v = .slice b 0 0, .eq (L a6 x7.1 c6), .own fun ow v w => ∃ i : Option Addr × Nat, v = L i.1 x8 i.2 ∧ (sl3 (L i.1 x8 i.2) x8).ok w (fun k => w6.heap.size ≤ k ∧ k < w.heap.size ∧ ow k = 6), .any, .any, .any]
     [(8, B b2 0), (62, .agg #[I x7.2.c.Inputs, L a5 x7.2.c.Gates c5])] mix hF (by kernel_rfl) (by kernel_rfl) (by kernel_rfl) (by kernel_rfl) ⟨Pd.monoO_eq, (Pd.monoO_is mono_lit0), mono_new, trivial⟩ (fun ow hG => ⟨np_to ow (np_loadPart [I x7.2.c.Inputs, L a5 x7.2.c.Gates c5] hG hF ty28 rfl rfl (hs.bx 0 rfl) rfl rfl rfl rfl rfl), np_to ow (np_lit0 (E := 3) hG hF rfl (fun w => by kernel_rfl) rfl), np_appE (i := 4) (s := 63) hG hF Try.underlying37 el3 rfl rfl rfl rfl rfl rfl rfl (r2) (fun hg => hx8) rfl, trivial⟩) (by kernel_rfl) fun ow fr w8 hF hE hc => ?_)
 obtain ⟨⟨a7, c7⟩, hv, hnw6⟩ := hE.is 65 6 rfl rfl
 have hF := hF.cons hv
 have hsN := sepO (w0 := w6) (ow := ow) [(6, sl3 (L a7 x8 c7) x8)] (show ([6] : List Nat).Nodup by decide) ⟨hnw6, trivial⟩ rfl
 obtain ⟨S7, hp, hs⟩ := hs.got hM0 (stp_new hc) hsN
 have r2 := r2.stp hM0 hp
 have hM0 := hM0.stp hp
 have hs : Sep [sl3 (L a7 x8 c7) x8, BX b3 76 [I x7.2.c.Inputs, L a5 x7.2.c.Gates c5, .bool x7.2.full], sl59 (L a5 x7.2.c.Gates c5) x7.2.c.Gates, BX b2 28 [I 0, L none ([] : List D.Gate) 0]] w8 S7 := hs
 have hs : Sep [sl3 (L a7 x8 c7) x8, sl59 (L a5 x7.2.c.Gates c5) x7.2.c.Gates, BX b2 28 [I 0, L none ([] : List D.Gate) 0]] w8 S7 := Sep.pick [0, 2, 3] hs (by decide) rfl
 refine q_storeBoxS 2 hs hM0 rfl [I x7.2.c.Inputs, L a5 x7.2.c.Gates c5] rfl hF rfl rfl (by kernel_rfl) rfl rfl rfl fun w9 S8 hs hp hF => ?_
 have hM0 := hM0.stp hp
 have hs : Sep [sl3 (L a7 x8 c7) x8, sl59 (L a5 x7.2.c.Gates c5) x7.2.c.Gates, BX b2 28 [I x7.2.c.Inputs, L a5 x7.2.c.Gates c5]] w9 S8 := hs
 refine from_pure 2 [(8, B b2 0), (9, L a7 x8 c7), (10, .bool true)] hF (by kernel_rfl) fun fr hF => ?_
 refine from_end rfl (then_normal ?_)
 have hrets := fun {σ : List (Nat × Value)} (h : σ = [(8, B b2 0), (9, L a7 x8 c7), (10, .bool true)]) => (by subst h; exact (Rets.cell rfl ty28 (hs.bx 2 rfl) rfl rfl (Rets.tmp rfl (Rets.tmp rfl Rets.nil))) : Rets Try.prog σ w9 [.cell 8 28, .tmp 9, .tmp 10] [.agg #[I x7.2.c.Inputs, L a5 x7.2.c.Gates c5], L a7 x8 c7, .bool true])
 obtain rfl := Option.some.inj h
 have hs : Sep [sl59 (L a5 x7.2.c.Gates c5) x7.2.c.Gates, sl3 (L a7 x8 c7) x8] w9 S8 := Sep.pick [1, 0] hs (by decide) rfl
 exact wp_ret (retG (rs := [.cell 8 28, .tmp 9, .tmp 10]) rfl (hF.sub [(8, B b2 0), (9, L a7 x8 c7), (10, .bool true)] (by kernel_rfl)) (hrets rfl) rfl ⟨_, rfl, a5, c5, a7, c7, rfl, S8, hM0.out, hs⟩)

theorem impl_isLiteral_ok (p0 : Int) (p1 : Int) {r : Bool} (h : impl_isLiteral p0 p1 = some r) {w : World} :
   Calls Try.prog 67 [I p0, I p1].toArray w fun e w' => ∃ v, e = .returned v ∧ v = .bool r ∧ Chg Non w w' := by
 unfold impl_isLiteral at h
 have hs := Sep.nil w Non
 have hM0 : Mem w Non (fun k => (False) ∧ k < w.heap.size) w Non (fun k => (False) ∧ k < w.heap.size) := Mem.start (fun _ h => h.elim) (fun _ h => h.2) (fun _ h => h.elim)
 refine enter (N := 18) Try.func67 rfl Try.ntmps67 rfl fun fr hF => ?_
 refine wp_seq (wp_pure [(0, I p0), (1, I p1)] hF (by kernel_rfl) fun fr hF => then_normal ?_)
 refine wp_seq (region_b [] [true, true, true, true, true, true, true, true, true, true, true, true, true, true]
     [.eq (I p0), .eq (.bool (p0 != 0)), .eq (.bool (p0 != 0)), .eq (I p0), .eq (I p1), .eq (I (w64 (0 - p1))), .eq (.bool (decide (p0 ≥ (w64 (0 - p1))))), .eq (.bool ((p0 != 0) && (decide (p0 ≥ (w64 (0 - p1)))))), .eq (.bool ((p0 != 0) && (decide (p0 ≥ (w64 (0 - p1)))))), .eq (I p0), .eq (I p1), .eq (.bool (decide (p0 ≤ p1))), .eq (.bool (((p0 != 0) && (decide (p0 ≥ (w64 (0 - p1))))) && (decide (p0 ≤ p1)))), .eq (.bool (((p0 != 0) && (decide (p0 ≥ (w64 (0 - p1))))) && (decide (p0 ≤ p1))))]
     [(4, .bool (((p0 != 0) && (decide (p0 ≥ (w64 (0 - p1))))) && (decide (p0 ≤ p1))))] mix hF (by kernel_rfl) (by kernel_rfl) (by kernel_rfl) trivial (fun hG => trivial) (by kernel_rfl) fun fr w1 hF hE hc => then_normal ?_)
 have hs := hs.ext hc
 have hM0 := hM0.ext hc
 obtain rfl := Option.some.inj h
 exact wp_ret (ret1 rfl hF rfl ⟨_, rfl, rfl, hM0.chg⟩)

theorem impl_varOf_ok (p0 : Int) {r : Int} (h : impl_varOf p0 = some r) {w : World} :
   Calls Try.prog 77 [I p0].toArray w fun e w' => ∃ v, e = .returned v ∧ v = I r ∧ Chg Non w w' := by
 unfold impl_varOf at h
 have hs := Sep.nil w Non
 have hM0 : Mem w Non (fun k => (False) ∧ k < w.heap.size) w Non (fun k => (False) ∧ k < w.heap.size) := Mem.start (fun _ h => h.elim) (fun _ h => h.2) (fun _ h => h.elim)
 refine enter (N := 8) Try.func77 rfl Try.ntmps77 rfl fun fr hF => ?_
 refine wp_seq (wp_pure [(0, I p0)] hF (by kernel_rfl) fun fr hF => then_normal ?_)
 refine wp_seq ?_
 refine wp_seq (wp_pure [(0, I p0), (4, .bool (decide (p0 < 0)))] hF (by kernel_rfl) fun fr hF => then_normal ?_)
 refine (wp_if hF (b := (decide (p0 < 0))) rfl (fun hb => ?_) (fun hb => ?_))
 · replace h := iteT hb h
   refine wp_seq (wp_pure [(2, I (w64 (0 - p0)))] hF (by kernel_rfl) fun fr hF => then_normal ?_)
   obtain rfl := Option.some.inj h
   exact wp_ret (then_ret (ret1 rfl hF rfl ⟨_, rfl, rfl, hM0.chg⟩))
 replace h := iteF hb h
 refine (wp_skip (then_normal ?_))
 refine wp_seq (wp_pure [(2, I p0)] hF (by kernel_rfl) fun fr hF => then_normal ?_)
 obtain rfl := Option.some.inj h
 exact wp_ret (ret1 rfl hF rfl ⟨_, rfl, rfl, hM0.chg⟩)

theorem impl_CircuitOk_ok (n : Nat) (p0 : D.Circuit) {r : Bool} (h : impl_CircuitOk n p0 = some r) {w : World} {G0 : Nat → Prop} {va0 : Value} (ra0 : RV w G0 va0 p0) :
   Calls Try.prog 35 [va0].toArray w fun e w' => ∃ v, e = .returned v ∧ v = .bool r ∧ Chg Non w w' := by
 unfold impl_CircuitOk at h
 have hs := Sep.nil w Non
 have hM0 : Mem w Non (fun k => (G0 k) ∧ k < w.heap.size) w Non (fun k => (G0 k) ∧ k < w.heap.size) := Mem.start (fun _ h => h.elim) (fun _ h => h.2) (fun _ h => h.elim)
 have ra0 := ra0.sub (F' := (fun k => (G0 k) ∧ k < w.heap.size)) (fun k hk h => ⟨h, hk⟩)
 obtain ⟨v1, rfl, r1⟩ := RV.Circuit ra0
 obtain ⟨a1, c1, rfl, -⟩ := r1.slice
 refine enter (N := 68) Try.func35 rfl Try.ntmps35 rfl fun fr hF => ?_
 refine wp_seq (wp_text' ?_)
 refine q_box hs hM0 [I p0.Inputs, L a1 p0.Gates c1] rfl rfl hF rfl rfl fun b1 w1 S1 fr hs hp hF => ?_
 have r1 := r1.stp hM0 hp
 have hM0 := hM0.stp hp
 have hs : Sep [BX b1 28 [I p0.Inputs, L a1 p0.Gates c1]] w1 S1 := hs
 refine from_pure 1 [(1, B b1 0)] hF (by kernel_rfl) fun fr hF => ?_
 refine from_end rfl (then_normal ?_)
 refine wp_seq ?_
 refine wp_seq (region_b [] [true, false, true, true, true, false, true, true, true, true, false, true, true, true]
     [.eq (B b1 0), .eq (I p0.Inputs), .eq (.bool (decide (p0.Inputs < 0))), .eq (.bool (decide (p0.Inputs < 0))), .eq (B b1 0), .eq (I p0.Inputs), .eq (.bool (decide (p0.Inputs > 30))), .eq (.bool ((decide (p0.Inputs < 0)) || (decide (p0.Inputs > 30)))), .eq (.bool ((decide (p0.Inputs < 0)) || (decide (p0.Inputs > 30)))), .eq (B b1 1), .eq (L a1 p0.Gates c1), .eq (I (len p0.Gates)), .eq (.bool (decide ((len p0.Gates) > 360))), .eq (.bool (((decide (p0.Inputs < 0)) || (decide (p0.Inputs > 30))) || (decide ((len p0.Gates) > 360))))]
     [(1, B b1 0), (20, .bool (((decide (p0.Inputs < 0)) || (decide (p0.Inputs > 30))) || (decide ((len p0.Gates) > 360))))] mix hF (by kernel_rfl) (by kernel_rfl) (by kernel_rfl) ⟨Pd.mono_eq, Pd.mono_eq, Pd.mono_eq, trivial⟩ (fun hG => ⟨np_loadBox hG hF ty3 rfl rfl (hs.bx 0 rfl) rfl rfl rfl, np_loadBox hG hF ty3 rfl rfl (hs.bx 0 rfl) rfl rfl rfl, np_loadBox hG hF ty26 rfl rfl (hs.bx 0 rfl) rfl rfl rfl, trivial⟩) (by kernel_rfl) fun fr w2 hF hE hc => then_normal ?_)
 have r1 := r1.ext hc
 have hs := hs.ext hc
 have hM0 := hM0.ext hc
 refine (wp_if hF (b := (((decide (p0.Inputs < 0)) || (decide (p0.Inputs > 30))) || (decide ((len p0.Gates) > 360)))) rfl (fun hb => ?_) (fun hb => ?_))
 · replace h := iteT hb h
   have hs : Sep [] w2 S1 := Sep.pick [] hs (by decide) rfl
   refine wp_seq (wp_pure [(2, .bool false)] hF (by kernel_rfl) fun fr hF => then_normal ?_)
   obtain rfl := Option.some.inj h
   exact wp_ret (then_ret (ret1 rfl hF rfl ⟨_, rfl, rfl, hM0.chg⟩))
 replace h := iteF hb h
 refine (wp_skip (then_normal ?_))
 refine wp_seq (wp_text' ?_)
 refine q_makeMap map91 hs hM0 (fun w => by simp [Instr.makeMap, run_newObj_alloc]) rfl rfl hF fun b2 w3 S2 fr hs hp hF => ?_
 have r1 := r1.stp hM0 hp
 have hM0 := hM0.stp hp
 have hs : Sep [MP map91 b2 ([]), BX b1 28 [I p0.Inputs, L a1 p0.Gates c1]] w3 S2 := hs
 refine from_pure 1 [(1, B b1 0), (3, .map (some b2))] hF (by kernel_rfl) fun fr hF => ?_
 refine from_end rfl (then_normal ?_)
 refine wp_seq ?_
 refine wp_seq (wp_text' ?_)
 refine from_pure 1 [(1, B b1 0), (3, .map (some b2)), (22, B b1 1)] hF (by kernel_rfl) fun fr hF => ?_
 refine s_loadBox (L a1 p0.Gates c1) ty26 rfl rfl hF rfl (hs.bx 1 rfl) rfl rfl fun fr hF => ?_
 refine from_pure 2 [(1, B b1 0), (3, .map (some b2)), (23, L a1 p0.Gates c1), (24, I (len p0.Gates)), (25, I 0)] hF (by kernel_rfl) fun fr hF => ?_
 refine from_end rfl (then_normal ?_)
 obtain ⟨rl1, hit1, h⟩ := bindE h
 have hk1 := h
 refine (wp_cut (M := fun fr w' => ∃ s, rl1 = .inl s ∧ ∃ S4 F2, FrS 68 [] fr ∧ Mem w3 S2 (fun k => (G0 k) ∧ k < w.heap.size) w' S4 F2 ∧ Sep [] w' S4) (wp_block (wp_iter (Inv := fun s1 fr w' => ∃ S3 F1, FrS 68 [(1, B b1 0), (3, .map (some b2)), (23, L a1 p0.Gates c1), (24, I (len p0.Gates)), (25, I s1.1)] fr ∧ Mem w3 S2 (fun k => (G0 k) ∧ k < w.heap.size) w' S3 F1 ∧ Sep [MP map91 b2 s1.2, BX b1 28 [I p0.Inputs, L a1 p0.Gates c1]] w' S3) hit1 ⟨S2, _, hF.sub _ (by kernel_rfl), (Mem.start hM0.bd hM0.bdF hM0.dj), hs⟩ fun s1 q1 fr w1i hI h hr1 => ?_)) fun fr w1o hM => ?_)
 · obtain ⟨S3, F1, hF, hM1, hs⟩ := hI
   have r1 := r1.mem hM1
   refine wp_seq (wp_pure [(1, B b1 0), (3, .map (some b2)), (23, L a1 p0.Gates c1), (24, I (len p0.Gates)), (25, I s1.1), (26, .bool (decide (s1.1 < (len p0.Gates))))] hF (by kernel_rfl) fun fr hF => then_normal ?_)
   refine wp_seq (wp_if hF (b := (decide (s1.1 < (len p0.Gates)))) rfl (fun hb => ?_) (fun hb => ?_))
   · replace h := iteT hb h
     refine (wp_skip (then_normal ?_))
     refine wp_seq (wp_block ?_)
     refine wp_seq (wp_text' ?_)
     refine from_pure 1 [(1, B b1 0), (3, .map (some b2)), (23, L a1 p0.Gates c1), (24, I (len p0.Gates)), (25, I s1.1), (27, I s1.1)] hF (by kernel_rfl) fun fr hF => ?_
     obtain ⟨x1, hx1, h⟩ := bindE h
     refine s_elemF (z := x1) (.agg #[I x1.A, I x1.B]) ty59 Try.underlying26 rfl rfl rfl rfl rfl hF rfl (r1) rfl (get?_nn hx1) (get?_at hx1) rfl fun p fr hF => ?_
     refine q_alloc (z := .agg #[I 0, I 0]) hs hM1 [I 0, I 0] rfl rfl hF (by kernel_rfl) rfl fun b3 w4 S5 fr hs hp hF => ?_
     have r1 := r1.stp hM1 hp
     have hM1 := hM1.stp hp
     have hs : Sep [BX b3 59 [I 0, I 0], MP map91 b2 s1.2, BX b1 28 [I p0.Inputs, L a1 p0.Gates c1]] w4 S5 := hs
     refine from_pure 1 [(1, B b1 0), (3, .map (some b2)), (4, I s1.1), (5, B b3 0), (23, L a1 p0.Gates c1), (24, I (len p0.Gates)), (25, I s1.1), (29, .agg #[I x1.A, I x1.B])] hF (by kernel_rfl) fun fr hF => ?_
     refine q_storeBoxS 0 hs hM1 rfl [I x1.A, I x1.B] rfl hF rfl rfl (by kernel_rfl) rfl rfl rfl fun w5 S6 hs hp hF => ?_
     have r1 := r1.stp hM1 hp
     have hM1 := hM1.stp hp
     have hs : Sep [BX b3 59 [I x1.A, I x1.B], MP map91 b2 s1.2, BX b1 28 [I p0.Inputs, L a1 p0.Gates c1]] w5 S6 := hs
     refine from_end rfl (then_normal ?_)
     refine wp_seq (wp_text' ?_)
     refine from_pure 1 [(1, B b1 0), (3, .map (some b2)), (4, I s1.1), (5, B b3 0), (23, L a1 p0.Gates c1), (24, I (len p0.Gates)), (25, I s1.1), (30, B b1 0)] hF (by kernel_rfl) fun fr hF => ?_
     refine s_loadBox (I p0.Inputs) ty3 rfl rfl hF rfl (hs.bx 2 rfl) rfl rfl fun fr hF => ?_
     refine from_pure 4 [(1, B b1 0), (3, .map (some b2)), (5, B b3 0), (6, I (w64 ((w64 (1 + p0.Inputs)) + s1.1))), (23, L a1 p0.Gates c1), (24, I (len p0.Gates)), (25, I s1.1)] hF (by kernel_rfl) fun fr hF => ?_
     refine from_end rfl (then_normal ?_)
     refine wp_seq ?_
     obtain ⟨x2, hx2, h⟩ := bindE h
     obtain ⟨x3, hx3, h⟩ := bindE h
     obtain ⟨x4, hx4, h⟩ := bindE h
     refine wp_seq (region_b [] [true, false, true, false, true, true, true, false, true, false, true, true, true, true, false, false, true]
         [.eq (B b3 0), .eq (I x1.A), .eq (I (w64 ((w64 (1 + p0.Inputs)) + s1.1))), .eq (.bool x2), .eq (.bool (!x2)), .eq (.bool (!x2)), .eq (B b3 1), .eq (I x1.B), .eq (I (w64 ((w64 (1 + p0.Inputs)) + s1.1))), .eq (.bool x3), .eq (.bool (!x3)), .eq (.bool ((!x2) || (!x3))), .eq (.bool ((!x2) || (!x3))), .eq (.map (some b2)), .eq (.agg #[I x1.A, I x1.B]), .eq (.bool x4), .eq (.bool (((!x2) || (!x3)) || x4))]
         [(1, B b1 0), (3, .map (some b2)), (5, B b3 0), (23, L a1 p0.Gates c1), (24, I (len p0.Gates)), (25, I s1.1), (51, .bool (((!x2) || (!x3)) || x4))] mix hF (by kernel_rfl) (by kernel_rfl) (by kernel_rfl) ⟨Pd.mono_eq, Pd.mono_eq, Pd.mono_eq, Pd.mono_eq, Pd.mono_eq, Pd.mono_eq, trivial⟩ (fun hG => ⟨np_loadBox hG hF ty3 rfl rfl (hs.bx 0 rfl) rfl rfl rfl, np_call [I x1.A, I (w64 ((w64 (1 + p0.Inputs)) + s1.1))] hG hF Try.call67 rfl rfl (fun w hC hg => (impl_isLiteral_ok x1.A (w64 ((w64 (1 + p0.Inputs)) + s1.1)) hx2).mono fun e w' ⟨v, he, hv, hc⟩ => ⟨v, he, hc, hv⟩), np_loadBox hG hF ty3 rfl rfl (hs.bx 0 rfl) rfl rfl rfl, np_call [I x1.B, I (w64 ((w64 (1 + p0.Inputs)) + s1.1))] hG hF Try.call67 rfl rfl (fun w hC hg => (impl_isLiteral_ok x1.B (w64 ((w64 (1 + p0.Inputs)) + s1.1)) (iteF hg.2 hx3)).mono fun e w' ⟨v, he, hv, hc⟩ => ⟨v, he, hc, hv⟩), np_loadBoxS hG hF ty59 rfl rfl (hs.bx 0 rfl) rfl rfl rfl rfl, np_mapGet map91 1 hs rfl Try.underlying91 hG hF rfl (u := x1) rfl rfl rfl (fun hg => mget?_fit (iteF hg.2 hx4)) (vr := .bool x4) (fun hg => congrArg (fun y => Rep.val Bool (Flat.enc y)) (mget?_val (iteF hg.2 hx4))) rfl, trivial⟩) (by kernel_rfl) fun fr w6 hF hE hc => then_normal ?_)
     have r1 := r1.ext hc
     have hs := hs.ext hc
     have hM1 := hM1.ext hc
     refine (wp_if hF (b := (((!x2) || (!x3)) || x4)) rfl (fun hb => ?_) (fun hb => ?_))
     · replace h := iteT hb h
       have hs : Sep [] w6 S6 := Sep.pick [] hs (by decide) rfl
       refine wp_seq (wp_pure [(2, .bool false)] hF (by kernel_rfl) fun fr hF => then_normal ?_)
       obtain rfl := hr1 _ (Option.some.inj h).symm
       obtain rfl := Option.some.inj hk1
       exact wp_ret (then_ret (blk_ret (then_ret (then_ret (blk_ret (then_ret (ret1 rfl hF rfl ⟨_, rfl, rfl, (hM0.trans hM1).chg⟩)))))))
     replace h := iteF hb h
     refine (wp_skip (then_normal ?_))
     refine wp_seq ?_
     obtain ⟨x5, hx5, h⟩ := bindE h
     obtain ⟨x6, hx6, h⟩ := bindE h
     obtain ⟨x7, hx7, h⟩ := bindE h
     refine wp_seq (region_bm 13 [0, 1, 3, 7, 15, 31, 63, 127, 31, 287, 1023, 2047, 4095] [true, false, false, true, true, true, false, false, true, false, false, true, true]
         [.eq (B b3 0), .eq (I x1.A), .eq (I x5), .eq (.bool (decide (x5 < 2))), .eq (.bool (decide (x5 < 2))), .eq (B b3 0), .eq (I x1.A), .eq (I x6), .eq (B b3 1), .eq (I x1.B), .eq (I x7), .eq (.bool (decide (x6 ≥ x7))), .eq (.bool ((decide (x5 < 2)) || (decide (x6 ≥ x7))))]
         [(1, B b1 0), (3, .map (some b2)), (5, B b3 0), (23, L a1 p0.Gates c1), (24, I (len p0.Gates)), (25, I s1.1), (64, .bool ((decide (x5 < 2)) || (decide (x6 ≥ x7))))] mix hF (by kernel_rfl) (by kernel_rfl) (by kernel_rfl) (by kernel_rfl) ⟨Pd.monoO_eq, Pd.monoO_eq, Pd.monoO_eq, Pd.monoO_eq, Pd.monoO_eq, Pd.monoO_eq, trivial⟩ (fun ow hG => ⟨np_to ow (np_loadBox hG hF ty3 rfl rfl (hs.bx 0 rfl) rfl rfl rfl), np_to ow (np_call [I x1.A] hG hF Try.call77 rfl rfl (fun w hC hg => (impl_varOf_ok x1.A hx5).mono fun e w' ⟨v, he, hv, hc⟩ => ⟨v, he, hc, hv⟩)), np_to ow (np_loadBox hG hF ty3 rfl rfl (hs.bx 0 rfl) rfl rfl rfl), np_to ow (np_call [I x1.A] hG hF Try.call77 rfl rfl (fun w hC hg => (impl_varOf_ok x1.A (iteF hg.2 hx6)).mono fun e w' ⟨v, he, hv, hc⟩ => ⟨v, he, hc, hv⟩)), np_to ow (np_loadBox hG hF ty3 rfl rfl (hs.bx 0 rfl) rfl rfl rfl), np_to ow (np_call [I x1.B] hG hF Try.call77 rfl rfl (fun w hC hg => (impl_varOf_ok x1.B (iteF hg.2 hx7)).mono fun e w' ⟨v, he, hv, hc⟩ => ⟨v, he, hc, hv⟩)), trivial⟩) (by kernel_rfl) fun ow fr w7 hF hE hc => ?_)
     have r1 := r1.ext hc
     have hs := hs.ext hc
     have hM1 := hM1.ext hc
     refine from_end rfl (then_normal ?_)
     refine (wp_if hF (b := ((decide (x5 < 2)) || (decide (x6 ≥ x7)))) rfl (fun hb => ?_) (fun hb => ?_))
     · replace h := iteT hb h
       have hs : Sep [] w7 S6 := Sep.pick [] hs (by decide) rfl
       refine wp_seq (wp_pure [(2, .bool false)] hF (by kernel_rfl) fun fr hF => then_normal ?_)
       obtain rfl := hr1 _ (Option.some.inj h).symm
       obtain rfl := Option.some.inj hk1
       exact wp_ret (then_ret (blk_ret (then_ret (then_ret (blk_ret (then_ret (ret1 rfl hF rfl ⟨_, rfl, rfl, (hM0.trans hM1).chg⟩)))))))
     replace h := iteF hb h
     refine (wp_skip (then_normal ?_))
     refine (wp_text' ?_)
     refine from_pure 1 [(1, B b1 0), (3, .map (some b2)), (5, B b3 0), (23, L a1 p0.Gates c1), (24, I (len p0.Gates)), (25, I s1.1), (65, .map (some b2))] hF (by kernel_rfl) fun fr hF => ?_
     refine s_loadBoxS ty59 rfl rfl hF rfl (hs.bx 0 rfl) rfl rfl fun fr hF => ?_
     have hs : Sep [MP map91 b2 s1.2, BX b1 28 [I p0.Inputs, L a1 p0.Gates c1]] w7 S6 := Sep.pick [1, 2] hs (by decide) rfl
     obtain ⟨x8, hx8, h⟩ := bindE h
     refine q_mapPut map91 0 hs hM1 rfl Try.underlying91 rfl hF (u := x1) (mput?_fit hx8) true rfl (mput?_len hx8) rfl rfl rfl rfl rfl fun w8 S7 hs hp hF => ?_
     have r1 := r1.stp hM1 hp
     have hM1 := hM1.stp hp
     have hs : Sep [MP map91 b2 x8, BX b1 28 [I p0.Inputs, L a1 p0.Gates c1]] w8 S7 := by rw [mput?_val hx8]; exact hs
     refine from_end rfl ?_
     refine blk_normal (then_normal ?_)
     refine (wp_pure [(1, B b1 0), (3, .map (some b2)), (23, L a1 p0.Gates c1), (24, I (len p0.Gates)), (25, I (w64 (s1.1 + 1)))] hF (by kernel_rfl) fun fr hF => then_normal ?_)
     exact ⟨_, (Option.some.inj h).symm, S7, _, hF.sub _ (by kernel_rfl), hM1, hs⟩
   replace h := iteF hb h
   have hs : Sep [] w1i S3 := Sep.pick [] hs (by decide) rfl
   refine (wp_exit (then_exit (then_exit (blk_exit_eq ?_))))
   obtain rfl := hr1 _ (Option.some.inj h).symm
   exact then_normal ⟨_, rfl, S3, _, hF.sub _ (by kernel_rfl), hM1, hs⟩
 · obtain ⟨s1r, rfl, hM⟩ := hM
   obtain ⟨S4, F2, hF, hMx, hs⟩ := hM
   have hM0 := hM0.trans hMx
   refine wp_seq (wp_pure [(2, .bool true)] hF (by kernel_rfl) fun fr hF => then_normal ?_)
   obtain rfl := Option.some.inj h
   exact wp_ret (ret1 rfl hF rfl ⟨_, rfl, rfl, hM0.chg⟩)

theorem impl_isTwoWords_ok (p0 : Int) {r : Bool} (h : impl_isTwoWords p0 = some r) {w : World} :
   Calls Try.prog 72 [I p0].toArray w fun e w' => ∃ v, e = .returned v ∧ v = .bool r ∧ Chg Non w w' := by
 unfold impl_isTwoWords at h
 have hs := Sep.nil w Non
 have hM0 : Mem w Non (fun k => (False) ∧ k < w.heap.size) w Non (fun k => (False) ∧ k < w.heap.size) := Mem.start (fun _ h => h.elim) (fun _ h => h.2) (fun _ h => h.elim)
 refine enter (N := 9) Try.func72 rfl Try.ntmps72 rfl fun fr hF => ?_
 refine wp_seq (wp_pure [(0, I p0)] hF (by kernel_rfl) fun fr hF => then_normal ?_)
 refine wp_seq (region_b [] [true, true, true, true, true, true, true]
     [.eq (I p0), .eq (.bool (decide (p0 ≥ 3))), .eq (.bool (decide (p0 ≥ 3))), .eq (I p0), .eq (.bool (decide (p0 ≤ 16))), .eq (.bool ((decide (p0 ≥ 3)) && (decide (p0 ≤ 16)))), .eq (.bool ((decide (p0 ≥ 3)) && (decide (p0 ≤ 16))))]
     [(2, .bool ((decide (p0 ≥ 3)) && (decide (p0 ≤ 16))))] mix hF (by kernel_rfl) (by kernel_rfl) (by kernel_rfl) trivial (fun hG => trivial) (by kernel_rfl) fun fr w1 hF hE hc => then_normal ?_)
 have hs := hs.ext hc
 have hM0 := hM0.ext hc
 obtain rfl := Option.some.inj h
 exact wp_ret (ret1 rfl hF rfl ⟨_, rfl, rfl, hM0.chg⟩)

theorem impl_linesOf_ok (p0 : D.Circuit) {r : Int} (h : impl_linesOf p0 = some r) {w : World} {G0 : Nat → Prop} {va0 : Value} (ra0 : RV w G0 va0 p0) :
   Calls Try.prog 65 [va0].toArray w fun e w' => ∃ v, e = .returned v ∧ v = I r ∧ Chg Non w w' := by
 unfold impl_linesOf at h
 have hs := Sep.nil w Non
 have hM0 : Mem w Non (fun k => (G0 k) ∧ k < w.heap.size) w Non (fun k => (G0 k) ∧ k < w.heap.size) := Mem.start (fun _ h => h.elim) (fun _ h => h.2) (fun _ h => h.elim)
 have ra0 := ra0.sub (F' := (fun k => (G0 k) ∧ k < w.heap.size)) (fun k hk h => ⟨h, hk⟩)
 obtain ⟨v1, rfl, r1⟩ := RV.Circuit ra0
 obtain ⟨a1, c1, rfl, -⟩ := r1.slice
 refine enter (N := 10) Try.func65 rfl Try.ntmps65 rfl fun fr hF => ?_
 refine wp_seq (wp_text' ?_)
 refine q_box hs hM0 [I p0.Inputs, L a1 p0.Gates c1] rfl rfl hF rfl rfl fun b1 w1 S1 fr hs hp hF => ?_
 have r1 := r1.stp hM0 hp
 have hM0 := hM0.stp hp
 have hs : Sep [BX b1 28 [I p0.Inputs, L a1 p0.Gates c1]] w1 S1 := hs
 refine from_pure 1 [(1, B b1 0)] hF (by kernel_rfl) fun fr hF => ?_
 refine from_end rfl (then_normal ?_)
 refine wp_seq (wp_text' ?_)
 refine from_pure 1 [(1, B b1 0), (3, B b1 0)] hF (by kernel_rfl) fun fr hF => ?_
 refine s_loadBox (I p0.Inputs) ty3 rfl rfl hF rfl (hs.bx 0 rfl) rfl rfl fun fr hF => ?_
 refine from_pure 2 [(5, I (w64 (1 + p0.Inputs))), (6, B b1 1)] hF (by kernel_rfl) fun fr hF => ?_
 refine s_loadBox (L a1 p0.Gates c1) ty26 rfl rfl hF rfl (hs.bx 0 rfl) rfl rfl fun fr hF => ?_
 have hs : Sep [] w1 S1 := Sep.pick [] hs (by decide) rfl
 refine from_pure 3 [(2, I (w64 ((w64 (1 + p0.Inputs)) + (len p0.Gates))))] hF (by kernel_rfl) fun fr hF => ?_
 refine from_end rfl (then_normal ?_)
 obtain rfl := Option.some.inj h
 exact wp_ret (ret1 rfl hF rfl ⟨_, rfl, rfl, hM0.chg⟩)

theorem impl_literalsOk_ok (n : Nat) (p0 : List Int) (p1 : Int) {r : Bool} (h : impl_literalsOk n p0 p1 = some r) {w : World} {G0 : Nat → Prop} {va0 : Value} (ra0 : RV w G0 va0 p0) :
   Calls Try.prog 66 [va0, I p1].toArray w fun e w' => ∃ v, e = .returned v ∧ v = .bool r ∧ Chg Non w w' := by
 unfold impl_literalsOk at h
 have hs := Sep.nil w Non
 have hM0 : Mem w Non (fun k => (G0 k) ∧ k < w.heap.size) w Non (fun k => (G0 k) ∧ k < w.heap.size) := Mem.start (fun _ h => h.elim) (fun _ h => h.2) (fun _ h => h.elim)
 have ra0 := ra0.sub (F' := (fun k => (G0 k) ∧ k < w.heap.size)) (fun k hk h => ⟨h, hk⟩)
 obtain ⟨a1, c1, rfl, -⟩ := ra0.slice
 refine enter (N := 18) Try.func66 rfl Try.ntmps66 rfl fun fr hF => ?_
 refine wp_seq (wp_pure [(0, L a1 p0 c1), (1, I p1)] hF (by kernel_rfl) fun fr hF => then_normal ?_)
 refine wp_seq ?_
 refine wp_seq (wp_pure [(1, I p1), (7, L a1 p0 c1), (8, I (len p0)), (9, I 0)] hF (by kernel_rfl) fun fr hF => then_normal ?_)
 obtain ⟨rl1, hit1, h⟩ := bindE h
 have hk1 := h
 refine (wp_cut (M := fun fr w' => ∃ s, rl1 = .inl s ∧ ∃ S2 F2, FrS 18 [] fr ∧ Mem w Non (fun k => (G0 k) ∧ k < w.heap.size) w' S2 F2 ∧ Sep [] w' S2) (wp_block (wp_iter (Inv := fun s1 fr w' => ∃ S1 F1, FrS 18 [(1, I p1), (7, L a1 p0 c1), (8, I (len p0)), (9, I s1)] fr ∧ Mem w Non (fun k => (G0 k) ∧ k < w.heap.size) w' S1 F1 ∧ Sep [] w' S1) hit1 ⟨Non, _, hF.sub _ (by kernel_rfl), (Mem.start hM0.bd hM0.bdF hM0.dj), hs⟩ fun s1 q1 fr w1i hI h hr1 => ?_)) fun fr w1o hM => ?_)
 · obtain ⟨S1, F1, hF, hM1, hs⟩ := hI
   have ra0 := ra0.mem hM1
   refine wp_seq (wp_pure [(1, I p1), (7, L a1 p0 c1), (8, I (len p0)), (9, I s1), (10, .bool (decide (s1 < (len p0))))] hF (by kernel_rfl) fun fr hF => then_normal ?_)
   refine wp_seq (wp_if hF (b := (decide (s1 < (len p0)))) rfl (fun hb => ?_) (fun hb => ?_))
   · replace h := iteT hb h
     refine (wp_skip (then_normal ?_))
     refine wp_seq (wp_block ?_)
     refine wp_seq (wp_text' ?_)
     obtain ⟨x1, hx1, h⟩ := bindE h
     refine s_elemF (z := x1) (I x1) ty3 Try.underlying37 rfl rfl rfl rfl rfl hF rfl (ra0) rfl (get?_nn hx1) (get?_at hx1) rfl fun p fr hF => ?_
     refine from_pure 1 [(1, I p1), (6, I x1), (7, L a1 p0 c1), (8, I (len p0)), (9, I s1)] hF (by kernel_rfl) fun fr hF => ?_
     refine from_end rfl (then_normal ?_)
     refine wp_seq (wp_text' ?_)
     refine from_pure 2 [(1, I p1), (7, L a1 p0 c1), (8, I (len p0)), (9, I s1), (13, I x1), (14, I p1)] hF (by kernel_rfl) fun fr hF => ?_
     obtain ⟨x2, hx2, h⟩ := bindE h
     refine s_call [I x1, I p1] Try.call67 rfl rfl hF rfl (impl_isLiteral_ok x1 p1 hx2) fun v w1 fr hRes hF => ?_
     obtain ⟨rfl, hc⟩ := hRes
     have ra0 := ra0.ext hc
     have hs := hs.ext hc
     have hM1 := hM1.ext hc
     refine from_pure 1 [(1, I p1), (7, L a1 p0 c1), (8, I (len p0)), (9, I s1), (16, .bool (!x2))] hF (by kernel_rfl) fun fr hF => ?_
     refine from_end rfl (then_normal ?_)
     refine (wp_if hF (b := (!x2)) rfl (fun hb => ?_) (fun hb => ?_))
     · replace h := iteT hb h
       refine wp_seq (wp_pure [(4, .bool false)] hF (by kernel_rfl) fun fr hF => then_normal ?_)
       obtain rfl := hr1 _ (Option.some.inj h).symm
       obtain rfl := Option.some.inj hk1
       exact wp_ret (blk_ret (then_ret (then_ret (blk_ret (then_ret (ret1 rfl hF rfl ⟨_, rfl, rfl, (hM0.trans hM1).chg⟩))))))
     replace h := iteF hb h
     refine (wp_skip ?_)
     refine blk_normal (then_normal ?_)
     refine (wp_pure [(1, I p1), (7, L a1 p0 c1), (8, I (len p0)), (9, I (w64 (s1 + 1)))] hF (by kernel_rfl) fun fr hF => then_normal ?_)
     exact ⟨_, (Option.some.inj h).symm, S1, _, hF.sub _ (by kernel_rfl), hM1, hs⟩
   replace h := iteF hb h
   refine (wp_exit (then_exit (then_exit (blk_exit_eq ?_))))
   obtain rfl := hr1 _ (Option.some.inj h).symm
   exact then_normal ⟨_, rfl, S1, _, hF.sub _ (by kernel_rfl), hM1, hs⟩
 · obtain ⟨s1r, rfl, hM⟩ := hM
   obtain ⟨S2, F2, hF, hMx, hs⟩ := hM
   have hM0 := hM0.trans hMx
   refine wp_seq (wp_pure [(4, .bool true)] hF (by kernel_rfl) fun fr hF => then_normal ?_)
   obtain rfl := Option.some.inj h
   exact wp_ret (ret1 rfl hF rfl ⟨_, rfl, rfl, hM0.chg⟩)

theorem slices_Clone___impl_Gate_impl_Gate__ok (p0 : List D.Gate) {r : (List D.Gate)} (h : slices_Clone___impl_Gate_impl_Gate_ p0 = some r) {w : World} {G0 : Nat → Prop} {va0 : Value} (ra0 : RV w G0 va0 p0) :
   Calls Try.prog 88 [va0].toArray w fun e w' => ∃ v, e = .returned v ∧ ∃ a1 c1, v = L a1 r c1 ∧ ∃ S', Stp w Non w' S' ∧ Sep [sl59 (L a1 r c1) r] w' S' := by
 unfold slices_Clone___impl_Gate_impl_Gate_ at h
 have hs := Sep.nil w Non
 have hM0 : Mem w Non (fun k => (G0 k) ∧ k < w.heap.size) w Non (fun k => (G0 k) ∧ k < w.heap.size) := Mem.start (fun _ h => h.elim) (fun _ h => h.2) (fun _ h => h.elim)
 have ra0 := ra0.sub (F' := (fun k => (G0 k) ∧ k < w.heap.size)) (fun k hk h => ⟨h, hk⟩)
 obtain ⟨a1, c1, rfl, -⟩ := ra0.slice
 refine enter (N := 8) Try.func88 rfl Try.ntmps88 rfl fun fr hF => ?_
 refine wp_seq (wp_pure [(0, L a1 p0 c1)] hF (by kernel_rfl) fun fr hF => then_normal ?_)
 refine wp_seq ?_
 refine wp_seq (wp_text' ?_)
 refine from_pure 1 [(0, L a1 p0 c1), (3, L a1 p0 c1)] hF (by kernel_rfl) fun fr hF => ?_
 refine s_bin rfl rfl hF rfl rfl (nil_guard _ _ _ _ _ _ _ _ _ _) (nil_eq Try.underlying26 _ _ _ _) fun fr hF => ?_
 refine from_end rfl (then_normal ?_)
 refine (wp_if hF (b := (Option.isNone a1)) rfl (fun hb => ?_) (fun hb => ?_))
 · have hnil := nil_of ra0 (Option.isNone_iff_eq_none.1 hb)
   replace h := nil_app hnil h
   refine wp_seq (wp_pure [(2, L none ([] : List D.Gate) 0)] hF (by kernel_rfl) fun fr hF => then_normal ?_)
   have hs : Sep [sl59 (L none ([] : List D.Gate) 0) ([] : List D.Gate)] w Non := hs.cons_nil (α := D.Gate) 59
   obtain rfl := Option.some.inj h
   exact wp_ret (then_ret (ret1 rfl hF rfl ⟨_, rfl, none, 0, rfl, Non, hM0.out, hs⟩))
 · skip
   refine (wp_skip (then_normal ?_))
   refine wp_seq (wp_text' ?_)
   refine q_lit (E := 59) hs hM0 [] (([] : List D.Gate).map Flat.enc) ([] : List D.Gate) rfl rfl hF [] rfl (fun w => by kernel_rfl) (css_flat _) rfl rfl rfl fun a2 c2 w1 S1 fr hs hp hF => ?_
   have ra0 := ra0.stp hM0 hp
   have hM0 := hM0.stp hp
   have hs : Sep [sl59 (L a2 ([] : List D.Gate) c2) ([] : List D.Gate)] w1 S1 := hs
   refine from_pure 1 [(5, L a2 ([] : List D.Gate) c2), (6, L a1 p0 c1)] hF (by kernel_rfl) fun fr hF => ?_
   obtain ⟨x1, hx1, h⟩ := bindE h
   refine q_append 0 hs hM0 rfl Try.underlying26 el59 rfl rfl rfl hF rfl rfl (ra0) hx1 fun a3 c3 w2 S2 fr hs hp hF => ?_
   have ra0 := ra0.stp hM0 hp
   have hM0 := hM0.stp hp
   have hs : Sep [sl59 (L a3 x1 c3) x1] w2 S2 := hs
   refine from_pure 1 [(2, L a3 x1 c3)] hF (by kernel_rfl) fun fr hF => ?_
   refine from_end rfl (then_normal ?_)
   obtain rfl := Option.some.inj h
   exact wp_ret (ret1 rfl hF rfl ⟨_, rfl, a3, c3, rfl, S2, hM0.out, hs⟩)

theorem impl_newBuilder_ok (n : Nat) (p0 : D.Circuit) {r : D.builder} (h : impl_newBuilder n p0 = some r) {w : World} {G0 : Nat → Prop} {va0 : Value} (ra0 : RV w G0 va0 p0) :
   Calls Try.prog 68 [va0].toArray w fun e w' => ∃ v, e = .returned v ∧ ∃ b5 b6 a1 c1, v = B b5 0 ∧ ∃ S', Stp w Non w' S' ∧ Sep [BX b5 83 [I r.c.Inputs, L a1 r.c.Gates c1, .map (some b6), .bool r.full], sl59 (L a1 r.c.Gates c1) r.c.Gates, MP map81 b6 r.line] w' S' := by
 unfold impl_newBuilder at h
 have hs := Sep.nil w Non
 have hM0 : Mem w Non (fun k => (G0 k) ∧ k < w.heap.size) w Non (fun k => (G0 k) ∧ k < w.heap.size) := Mem.start (fun _ h => h.elim) (fun _ h => h.2) (fun _ h => h.elim)
 have ra0 := ra0.sub (F' := (fun k => (G0 k) ∧ k < w.heap.size)) (fun k hk h => ⟨h, hk⟩)
 obtain ⟨v1, rfl, r1⟩ := RV.Circuit ra0
 obtain ⟨a1, c1, rfl, -⟩ := r1.slice
 refine enter (N := 35) Try.func68 rfl Try.ntmps68 rfl fun fr hF => ?_
 refine wp_seq (wp_text' ?_)
 refine q_box hs hM0 [I p0.Inputs, L a1 p0.Gates c1] rfl rfl hF rfl rfl fun b1 w1 S1 fr hs hp hF => ?_
 have r1 := r1.stp hM0 hp
 have hM0 := hM0.stp hp
 have hs : Sep [BX b1 28 [I p0.Inputs, L a1 p0.Gates c1]] w1 S1 := hs
 refine from_pure 1 [(1, B b1 0)] hF (by kernel_rfl) fun fr hF => ?_
 refine from_end rfl (then_normal ?_)
 obtain ⟨x1, hx1, h⟩ := bindE h
 refine wp_seq (region_bm 7 [0, 1, 0, 4, 12, 31, 0, 127, 255, 511] [true, false, true, false, false, false, false]
     [.eq (B b1 0), .eq (I p0.Inputs), .eq (B b1 1), .eq (L a1 p0.Gates c1), .own fun ow v w => ∃ i : Option Addr × Nat, v = L i.1 x1 i.2 ∧ (sl59 (L i.1 x1 i.2) x1).ok w (fun k => w1.heap.size ≤ k ∧ k < w.heap.size ∧ ow k = 4), .own fun ow v w => ∃ i : Option Addr × Nat, v = .agg #[I p0.Inputs, L i.1 x1 i.2] ∧ (sl59 (L i.1 x1 i.2) x1).ok w (fun k => w1.heap.size ≤ k ∧ k < w.heap.size ∧ ow k = 4), .own fun ow v w => ∃ b : Nat, v = .map (some b) ∧ (MP map81 b []).ok w (fun k => w1.heap.size ≤ k ∧ k < w.heap.size ∧ ow k = 6), .any, .any, .any]
     [(1, B b1 0)] mix hF (by kernel_rfl) (by kernel_rfl) (by kernel_rfl) (by kernel_rfl) ⟨Pd.monoO_eq, Pd.monoO_eq, mono_new, mono_new, mono_new, trivial⟩ (fun ow hG => ⟨np_to ow (np_loadBox hG hF ty3 rfl rfl (hs.bx 0 rfl) rfl rfl rfl), np_to ow (np_loadBox hG hF ty26 rfl rfl (hs.bx 0 rfl) rfl rfl rfl), np_callN (V := fun i : Option Addr × Nat => L i.1 x1 i.2) (H := fun i => SL 59 (L i.1 x1 i.2) x1) [.inl (L a1 p0.Gates c1)] hG hF Try.call88 rfl rfl (by kernel_rfl) rfl (fun w vs hC hg ha => by obtain ⟨_, rfl, rfl⟩ := ha; exact (slices_Clone___impl_Gate_impl_Gate__ok p0.Gates hx1 ((r1).ext hC)).mono fun e w' ⟨v, he, a0, c0, hv, _, hp, ho⟩ => ⟨v, he, hp.chg, (a0, c0), hv, sep_one hp ho⟩), np_to ow (np_thru (V := fun i : Option Addr × Nat => L i.1 x1 i.2) (V' := fun i : Option Addr × Nat => .agg #[I p0.Inputs, L i.1 x1 i.2]) (H := fun i : Option Addr × Nat => sl59 (L i.1 x1 i.2) x1) (i := 4) (s := 10) (tag := 4) hG hF rfl rfl rfl rfl rfl rfl (fun i => rfl) rfl), np_makeMap map81 hG hF (fun w => by simp [Instr.makeMap, run_newObj_alloc]) rfl rfl, trivial⟩) (by kernel_rfl) fun ow fr w2 hF hE hc => ?_)
 obtain ⟨⟨a2, c2⟩, hv, hnw5⟩ := hE.is 11 5 rfl rfl
 have hF := hF.cons hv
 obtain ⟨b2, hv, hnw6⟩ := hE.is 12 6 rfl rfl
 have hF := hF.cons hv
 have hsN := sepO (w0 := w1) (ow := ow) [(4, sl59 (L a2 x1 c2) x1), (6, MP map81 b2 ([]))] (show ([4, 6] : List Nat).Nodup by decide) ⟨hnw5, hnw6, trivial⟩ rfl
 obtain ⟨S2, hp, hs⟩ := hs.got hM0 (stp_new hc) hsN
 have r1 := r1.stp hM0 hp
 have hM0 := hM0.stp hp
 have hs : Sep [sl59 (L a2 x1 c2) x1, MP map81 b2 ([]), BX b1 28 [I p0.Inputs, L a1 p0.Gates c1]] w2 S2 := hs
 refine from_pure 1 [(1, B b1 0), (13, .agg #[I p0.Inputs, L a2 x1 c2, .map (some b2), .bool false])] hF (by kernel_rfl) fun fr hF => ?_
 refine q_box hs hM0 [I p0.Inputs, L a2 x1 c2, .map (some b2), .bool false] rfl rfl hF rfl rfl fun b3 w3 S3 fr hs hp hF => ?_
 have r1 := r1.stp hM0 hp
 have hM0 := hM0.stp hp
 have hs : Sep [BX b3 83 [I p0.Inputs, L a2 x1 c2, .map (some b2), .bool false], sl59 (L a2 x1 c2) x1, MP map81 b2 ([]), BX b1 28 [I p0.Inputs, L a1 p0.Gates c1]] w3 S3 := hs
 refine from_pure 1 [(1, B b1 0), (3, B b3 0)] hF (by kernel_rfl) fun fr hF => ?_
 refine from_end rfl (then_normal ?_)
 refine wp_seq ?_
 refine wp_seq (wp_text' ?_)
 refine from_pure 1 [(1, B b1 0), (3, B b3 0), (15, B b1 1)] hF (by kernel_rfl) fun fr hF => ?_
 refine s_loadBox (L a1 p0.Gates c1) ty26 rfl rfl hF rfl (hs.bx 3 rfl) rfl rfl fun fr hF => ?_
 refine from_pure 2 [(1, B b1 0), (3, B b3 0), (16, L a1 p0.Gates c1), (17, I (len p0.Gates)), (18, I 0)] hF (by kernel_rfl) fun fr hF => ?_
 refine from_end rfl (then_normal ?_)
 obtain ⟨rl1, hit1, h⟩ := bindE h
 have hk1 := h
 refine (wp_cut (M := fun fr w' => ∃ S5 F2, FrS 35 [(3, B b3 0)] fr ∧ Mem w3 S3 (fun k => (G0 k) ∧ k < w.heap.size) w' S5 F2 ∧ Sep [BX b3 83 [I p0.Inputs, L a2 x1 c2, .map (some b2), .bool false], sl59 (L a2 x1 c2) x1, MP map81 b2 rl1] w' S5) (wp_block (wp_iter (Inv := fun s1 fr w' => ∃ S4 F1, FrS 35 [(1, B b1 0), (3, B b3 0), (16, L a1 p0.Gates c1), (17, I (len p0.Gates)), (18, I s1.1)] fr ∧ Mem w3 S3 (fun k => (G0 k) ∧ k < w.heap.size) w' S4 F1 ∧ Sep [BX b3 83 [I p0.Inputs, L a2 x1 c2, .map (some b2), .bool false], sl59 (L a2 x1 c2) x1, MP map81 b2 s1.2, BX b1 28 [I p0.Inputs, L a1 p0.Gates c1]] w' S4) hit1 ⟨S3, _, hF.sub _ (by kernel_rfl), (Mem.start hM0.bd hM0.bdF hM0.dj), hs⟩ fun s1 q1 fr w1i hI h hr1 => ?_)) fun fr w1o hM => ?_)
 · obtain ⟨S4, F1, hF, hM1, hs⟩ := hI
   have r1 := r1.mem hM1
   refine wp_seq (wp_pure [(1, B b1 0), (3, B b3 0), (16, L a1 p0.Gates c1), (17, I (len p0.Gates)), (18, I s1.1), (19, .bool (decide (s1.1 < (len p0.Gates))))] hF (by kernel_rfl) fun fr hF => then_normal ?_)
   refine wp_seq (wp_if hF (b := (decide (s1.1 < (len p0.Gates)))) rfl (fun hb => ?_) (fun hb => ?_))
   · replace h := iteT hb h
     refine (wp_skip (then_normal ?_))
     refine wp_seq (wp_block ?_)
     refine wp_seq (wp_text' ?_)
     refine from_pure 1 [(1, B b1 0), (3, B b3 0), (16, L a1 p0.Gates c1), (17, I (len p0.Gates)), (18, I s1.1), (20, I s1.1)] hF (by kernel_rfl) fun fr hF => ?_
     obtain ⟨x2, hx2, h⟩ := bindE h
     refine s_elemF (z := x2) (.agg #[I x2.A, I x2.B]) ty59 Try.underlying26 rfl rfl rfl rfl rfl hF rfl (r1) rfl (get?_nn hx2) (get?_at hx2) rfl fun p fr hF => ?_
     refine q_alloc (z := .agg #[I 0, I 0]) hs hM1 [I 0, I 0] rfl rfl hF (by kernel_rfl) rfl fun b4 w4 S6 fr hs hp hF => ?_
     have r1 := r1.stp hM1 hp
     have hM1 := hM1.stp hp
     have hs : Sep [BX b4 59 [I 0, I 0], BX b3 83 [I p0.Inputs, L a2 x1 c2, .map (some b2), .bool false], sl59 (L a2 x1 c2) x1, MP map81 b2 s1.2, BX b1 28 [I p0.Inputs, L a1 p0.Gates c1]] w4 S6 := hs
     refine from_pure 1 [(1, B b1 0), (3, B b3 0), (4, I s1.1), (5, B b4 0), (16, L a1 p0.Gates c1), (17, I (len p0.Gates)), (18, I s1.1), (22, .agg #[I x2.A, I x2.B])] hF (by kernel_rfl) fun fr hF => ?_
     refine q_storeBoxS 0 hs hM1 rfl [I x2.A, I x2.B] rfl hF rfl rfl (by kernel_rfl) rfl rfl rfl fun w5 S7 hs hp hF => ?_
     have r1 := r1.stp hM1 hp
     have hM1 := hM1.stp hp
     have hs : Sep [BX b4 59 [I x2.A, I x2.B], BX b3 83 [I p0.Inputs, L a2 x1 c2, .map (some b2), .bool false], sl59 (L a2 x1 c2) x1, MP map81 b2 s1.2, BX b1 28 [I p0.Inputs, L a1 p0.Gates c1]] w5 S7 := hs
     refine from_end rfl (then_normal ?_)
     refine (region_bm 10 [0, 1, 3, 7, 0, 0, 32, 96, 0, 480, 1023] [true, true, true, false, false, true, false, true, true, true]
         [.eq (B b3 0), .eq (B b3 0), .eq (B b3 2), .eq (.map (some b2)), .eq (.agg #[I x2.A, I x2.B]), .eq (B b1 0), .eq (I p0.Inputs), .eq (I (w64 (2 + p0.Inputs))), .eq (I s1.1), .eq (I (w64 ((w64 (2 + p0.Inputs)) + s1.1))), .any]
         [(1, B b1 0), (3, B b3 0), (16, L a1 p0.Gates c1), (17, I (len p0.Gates)), (18, I s1.1), (26, .map (some b2)), (27, .agg #[I x2.A, I x2.B]), (32, I (w64 ((w64 (2 + p0.Inputs)) + s1.1)))] mix hF (by kernel_rfl) (by kernel_rfl) (by kernel_rfl) (by kernel_rfl) ⟨Pd.monoO_eq, Pd.monoO_eq, Pd.monoO_eq, trivial⟩ (fun ow hG => ⟨np_to ow (np_loadBox hG hF ty81 rfl rfl (hs.bx 1 rfl) rfl rfl rfl), np_to ow (np_loadBoxS hG hF ty59 rfl rfl (hs.bx 0 rfl) rfl rfl rfl rfl), np_to ow (np_loadBox hG hF ty3 rfl rfl (hs.bx 4 rfl) rfl rfl rfl), trivial⟩) (by kernel_rfl) fun ow fr w6 hF hE hc => ?_)
     have r1 := r1.ext hc
     have hs := hs.ext hc
     have hM1 := hM1.ext hc
     have hs : Sep [BX b3 83 [I p0.Inputs, L a2 x1 c2, .map (some b2), .bool false], sl59 (L a2 x1 c2) x1, MP map81 b2 s1.2, BX b1 28 [I p0.Inputs, L a1 p0.Gates c1]] w6 S7 := Sep.pick [1, 2, 3, 4] hs (by decide) rfl
     obtain ⟨x3, hx3, h⟩ := bindE h
     refine q_mapPut map81 2 hs hM1 rfl Try.underlying81 rfl hF (u := x2) (mputE?_fit hx3) (w64 ((w64 (2 + p0.Inputs)) + s1.1)) (mputE?_efit hx3) (mputE?_len hx3) rfl rfl rfl rfl rfl fun w7 S8 hs hp hF => ?_
     have r1 := r1.stp hM1 hp
     have hM1 := hM1.stp hp
     have hs : Sep [BX b3 83 [I p0.Inputs, L a2 x1 c2, .map (some b2), .bool false], sl59 (L a2 x1 c2) x1, MP map81 b2 x3, BX b1 28 [I p0.Inputs, L a1 p0.Gates c1]] w7 S8 := by rw [mputE?_val hx3]; exact hs
     refine from_end rfl ?_
     refine blk_normal (then_normal ?_)
     refine (wp_pure [(1, B b1 0), (3, B b3 0), (16, L a1 p0.Gates c1), (17, I (len p0.Gates)), (18, I (w64 (s1.1 + 1)))] hF (by kernel_rfl) fun fr hF => then_normal ?_)
     exact ⟨_, (Option.some.inj h).symm, S8, _, hF.sub _ (by kernel_rfl), hM1, hs⟩
   replace h := iteF hb h
   have hs : Sep [BX b3 83 [I p0.Inputs, L a2 x1 c2, .map (some b2), .bool false], sl59 (L a2 x1 c2) x1, MP map81 b2 s1.2] w1i S4 := Sep.pick [0, 1, 2] hs (by decide) rfl
   refine (wp_exit (then_exit (then_exit (blk_exit_eq ?_))))
   obtain rfl := hr1 _ (Option.some.inj h).symm
   exact then_normal ⟨S4, _, hF.sub _ (by kernel_rfl), hM1, hs⟩
 · obtain ⟨S5, F2, hF, hMx, hs⟩ := hM
   have hM0 := hM0.trans hMx
   refine wp_seq (wp_pure [(2, B b3 0)] hF (by kernel_rfl) fun fr hF => then_normal ?_)
   obtain rfl := Option.some.inj h
   exact wp_ret (ret1 rfl hF rfl ⟨_, rfl, b3, b2, a2, c2, rfl, S5, hM0.out, hs⟩)

theorem impl_builder_and_ok (p0 : D.builder) (p1 : Int) (p2 : Int) {r : Int × D.builder} (h : impl_builder_and p0 p1 p2 = some r) {w : World} {S0 F0 : Nat → Prop} {pa0 : Option Addr} {pn0 pc0 : Nat} {b1 : Nat} {b2 : Nat} (hs : Sep [BX b1 83 [I p0.c.Inputs, .slice pa0 pn0 pc0, .map (some b2), .bool p0.full], sl59 (.slice pa0 pn0 pc0) p0.c.Gates, MP map81 b2 p0.line] w S0) (hb : ∀ k, S0 k → k < w.heap.size) (hd : ∀ k, S0 k → F0 k → False) :
   Calls Try.prog 51 [B b1 0, I p1, I p2].toArray w fun e w' => ∃ v, e = .returned v ∧ ∃ a1 c1, v = I r.1 ∧ ∃ S', Stp w S0 w' S' ∧ Sep [BX b1 83 [I r.2.c.Inputs, L a1 r.2.c.Gates c1, .map (some b2), .bool r.2.full], sl59 (L a1 r.2.c.Gates c1) r.2.c.Gates, MP map81 b2 r.2.line] w' S' := by
 unfold impl_builder_and at h
 obtain ⟨hpn, hs⟩ := hs.relen 1 rfl
 subst hpn
 have hs : Sep [BX b1 83 [I p0.c.Inputs, L pa0 p0.c.Gates pc0, .map (some b2), .bool p0.full], sl59 (L pa0 p0.c.Gates pc0) p0.c.Gates, MP map81 b2 p0.line] w S0 := hs
 have hM0 : Mem w S0 (fun k => F0 k ∧ k < w.heap.size) w S0 (fun k => F0 k ∧ k < w.heap.size) := Mem.start hb (fun _ h => h.2) (fun k h1 h2 => hd k h1 h2.1)
 refine enter (N := 93) Try.func51 rfl Try.ntmps51 rfl fun fr hF => ?_
 refine wp_seq (wp_pure [(0, B b1 0), (1, I p1), (2, I p2)] hF (by kernel_rfl) fun fr hF => then_normal ?_)
 refine wp_seq (wp_block ?_)
 refine wp_seq (region_b [] [true, true, true, true, true, true, true, true, true, true, true, true, true]
     [.eq (I p1), .eq (.bool (p1 == (-1))), .eq (.bool (p1 == (-1))), .eq (I p2), .eq (.bool (p2 == (-1))), .eq (.bool ((p1 == (-1)) || (p2 == (-1)))), .eq (.bool ((p1 == (-1)) || (p2 == (-1)))), .eq (I p1), .eq (I p2), .eq (I (w64 (0 - p2))), .eq (.bool (p1 == (w64 (0 - p2)))), .eq (.bool (((p1 == (-1)) || (p2 == (-1))) || (p1 == (w64 (0 - p2))))), .eq (.bool (((p1 == (-1)) || (p2 == (-1))) || (p1 == (w64 (0 - p2)))))]
     [(0, B b1 0), (1, I p1), (2, I p2), (11, .bool (((p1 == (-1)) || (p2 == (-1))) || (p1 == (w64 (0 - p2)))))] mix hF (by kernel_rfl) (by kernel_rfl) (by kernel_rfl) trivial (fun hG => trivial) (by kernel_rfl) fun fr w1 hF hE hc => then_normal ?_)
 have hs := hs.ext hc
 have hM0 := hM0.ext hc
 refine (wp_if hF (b := (((p1 == (-1)) || (p2 == (-1))) || (p1 == (w64 (0 - p2))))) rfl (fun hb => ?_) (fun hb => ?_))
 · replace h := iteT hb h
   refine wp_seq (wp_pure [(6, I (-1))] hF (by kernel_rfl) fun fr hF => then_normal ?_)
   obtain rfl := Option.some.inj h
   exact wp_ret (blk_ret (then_ret (ret1 rfl hF rfl ⟨_, rfl, pa0, pc0, rfl, S0, hM0.out, hs⟩)))
 replace h := iteF hb h
 refine wp_seq (wp_pure [(0, B b1 0), (1, I p1), (2, I p2), (24, .bool (p1 == 1))] hF (by kernel_rfl) fun fr hF => then_normal ?_)
 refine (wp_if hF (b := (p1 == 1)) rfl (fun hb => ?_) (fun hb => ?_))
 · replace h := iteT hb h
   refine wp_seq (wp_pure [(6, I p2)] hF (by kernel_rfl) fun fr hF => then_normal ?_)
   obtain rfl := Option.some.inj h
   exact wp_ret (blk_ret (then_ret (ret1 rfl hF rfl ⟨_, rfl, pa0, pc0, rfl, S0, hM0.out, hs⟩)))
 replace h := iteF hb h
 refine wp_seq (region_b [] [true, true, true, true, true, true, true, true]
     [.eq (I p2), .eq (.bool (p2 == 1)), .eq (.bool (p2 == 1)), .eq (I p1), .eq (I p2), .eq (.bool (p1 == p2)), .eq (.bool ((p2 == 1) || (p1 == p2))), .eq (.bool ((p2 == 1) || (p1 == p2)))]
     [(0, B b1 0), (1, I p1), (2, I p2), (28, .bool ((p2 == 1) || (p1 == p2)))] mix hF (by kernel_rfl) (by kernel_rfl) (by kernel_rfl) trivial (fun hG => trivial) (by kernel_rfl) fun fr w2 hF hE hc => then_normal ?_)
 have hs := hs.ext hc
 have hM0 := hM0.ext hc
 refine (wp_if hF (b := ((p2 == 1) || (p1 == p2))) rfl (fun hb => ?_) (fun hb => ?_))
 · replace h := iteT hb h
   refine wp_seq (wp_pure [(6, I p1)] hF (by kernel_rfl) fun fr hF => then_normal ?_)
   obtain rfl := Option.some.inj h
   exact wp_ret (blk_ret (then_ret (ret1 rfl hF rfl ⟨_, rfl, pa0, pc0, rfl, S0, hM0.out, hs⟩)))
 replace h := iteF hb h
 refine (wp_skip ?_)
 refine blk_normal (then_normal ?_)
 refine wp_seq (wp_text' ?_)
 refine from_pure 3 [(0, B b1 0), (1, I p1), (2, I p2), (39, .agg #[I p1, I p2])] hF (by kernel_rfl) fun fr hF => ?_
 refine q_alloc (z := .agg #[I 0, I 0]) hs hM0 [I 0, I 0] rfl rfl hF (by kernel_rfl) rfl fun b3 w3 S1 fr hs hp hF => ?_
 have hM0 := hM0.stp hp
 have hs : Sep [BX b3 59 [I 0, I 0], BX b1 83 [I p0.c.Inputs, L pa0 p0.c.Gates pc0, .map (some b2), .bool p0.full], sl59 (L pa0 p0.c.Gates pc0) p0.c.Gates, MP map81 b2 p0.line] w3 S1 := hs
 refine q_storeBoxS 0 hs hM0 rfl [I p1, I p2] rfl hF rfl rfl (by kernel_rfl) rfl rfl rfl fun w4 S2 hs hp hF => ?_
 have hM0 := hM0.stp hp
 have hs : Sep [BX b3 59 [I p1, I p2], BX b1 83 [I p0.c.Inputs, L pa0 p0.c.Gates pc0, .map (some b2), .bool p0.full], sl59 (L pa0 p0.c.Gates pc0) p0.c.Gates, MP map81 b2 p0.line] w4 S2 := hs
 refine from_end rfl (then_normal ?_)
 refine wp_seq ?_
 refine wp_seq (wp_text' ?_)
 refine from_pure 1 [(0, B b1 0), (1, I p1), (2, I p2), (7, B b3 0), (40, I p1)] hF (by kernel_rfl) fun fr hF => ?_
 obtain ⟨x1, hx1, h⟩ := bindE h
 refine s_call [I p1] Try.call77 rfl rfl hF rfl (impl_varOf_ok p1 hx1) fun v w5 fr hRes hF => ?_
 obtain ⟨rfl, hc⟩ := hRes
 have hs := hs.ext hc
 have hM0 := hM0.ext hc
 refine from_pure 1 [(0, B b1 0), (1, I p1), (2, I p2), (7, B b3 0), (41, I x1), (42, I p2)] hF (by kernel_rfl) fun fr hF => ?_
 obtain ⟨x2, hx2, h⟩ := bindE h
 refine s_call [I p2] Try.call77 rfl rfl hF rfl (impl_varOf_ok p2 hx2) fun v w6 fr hRes hF => ?_
 obtain ⟨rfl, hc⟩ := hRes
 have hs := hs.ext hc
 have hM0 := hM0.ext hc
 refine from_pure 1 [(0, B b1 0), (1, I p1), (2, I p2), (7, B b3 0), (44, .bool (decide (x1 > x2)))] hF (by kernel_rfl) fun fr hF => ?_
 refine from_end rfl (then_normal ?_)
 refine (wp_if hF (b := (decide (x1 > x2))) rfl (fun hb => ?_) (fun hb => ?_))
 · replace h := iteT hb h
   refine (wp_text' ?_)
   refine from_pure 3 [(0, B b1 0), (7, B b3 0), (47, .agg #[I p2, I p1])] hF (by kernel_rfl) fun fr hF => ?_
   refine q_storeBoxS 0 hs hM0 rfl [I p2, I p1] rfl hF rfl rfl (by kernel_rfl) rfl rfl rfl fun w7 S3 hs hp hF => ?_
   have hM0 := hM0.stp hp
   have hs : Sep [BX b3 59 [I p2, I p1], BX b1 83 [I p0.c.Inputs, L pa0 p0.c.Gates pc0, .map (some b2), .bool p0.full], sl59 (L pa0 p0.c.Gates pc0) p0.c.Gates, MP map81 b2 p0.line] w7 S3 := hs
   refine from_end rfl (then_normal ?_)
   refine wp_seq ?_
   obtain ⟨x3, hx3, h⟩ := bindE h
   refine wp_seq (region_bm 11 [0, 1, 3, 7, 0, 31, 63, 127, 127, 255, 1023] [true, true, true, false, false, false, true, true, true, true, true]
       [.eq (B b1 0), .eq (B b1 0), .eq (B b1 2), .eq (.map (some b2)), .eq (.agg #[I p2, I p1]), .eq (.tuple #[I x3.1, .bool x3.2]), .eq (.tuple #[I x3.1, .bool x3.2]), .eq (I x3.1), .eq (.bool x3.2), .eq (I x3.1), .eq (.bool x3.2)]
       [(0, B b1 0), (7, B b3 0), (8, I x3.1), (9, .bool x3.2)] mix hF (by kernel_rfl) (by kernel_rfl) (by kernel_rfl) (by kernel_rfl) ⟨Pd.monoO_eq, Pd.monoO_eq, Pd.monoO_eq, trivial⟩ (fun ow hG => ⟨np_to ow (np_loadBox hG hF ty81 rfl rfl (hs.bx 1 rfl) rfl rfl rfl), np_to ow (np_loadBoxS hG hF ty59 rfl rfl (hs.bx 0 rfl) rfl rfl rfl rfl), np_to ow (np_mapGet2 map81 3 hs rfl Try.underlying81 hG hF rfl (u := (D.Gate.mk p2 p1)) rfl rfl rfl (fun hg => mget2?_fit hx3) (r := x3) (fun hg => mget2?_val hx3) rfl rfl), trivial⟩) (by kernel_rfl) fun ow fr w8 hF hE hc => ?_)
   have hs := hs.ext hc
   have hM0 := hM0.ext hc
   refine from_end rfl (then_normal ?_)
   refine wp_seq (wp_pure [(0, B b1 0), (7, B b3 0), (8, I x3.1), (57, .bool x3.2)] hF (by kernel_rfl) fun fr hF => then_normal ?_)
   refine (wp_if hF (b := x3.2) rfl (fun hb => ?_) (fun hb => ?_))
   · replace h := iteT hb h
     have hs : Sep [BX b1 83 [I p0.c.Inputs, L pa0 p0.c.Gates pc0, .map (some b2), .bool p0.full], sl59 (L pa0 p0.c.Gates pc0) p0.c.Gates, MP map81 b2 p0.line] w8 S3 := Sep.pick [1, 2, 3] hs (by decide) rfl
     refine wp_seq (wp_pure [(6, I x3.1)] hF (by kernel_rfl) fun fr hF => then_normal ?_)
     obtain rfl := Option.some.inj h
     exact wp_ret (then_ret (ret1 rfl hF rfl ⟨_, rfl, pa0, pc0, rfl, S3, hM0.out, hs⟩))
   replace h := iteF hb h
   refine (wp_skip (then_normal ?_))
   refine wp_seq ?_
   refine wp_seq (wp_text' ?_)
   refine from_pure 4 [(0, B b1 0), (7, B b3 0), (62, B b1 1)] hF (by kernel_rfl) fun fr hF => ?_
   refine s_loadBox (L pa0 p0.c.Gates pc0) ty26 rfl rfl hF rfl (hs.bx 1 rfl) rfl rfl fun fr hF => ?_
   refine from_pure 2 [(0, B b1 0), (7, B b3 0), (65, .bool (decide ((len p0.c.Gates) ≥ 360)))] hF (by kernel_rfl) fun fr hF => ?_
   refine from_end rfl (then_normal ?_)
   refine (wp_if hF (b := (decide ((len p0.c.Gates) ≥ 360))) rfl (fun hb => ?_) (fun hb => ?_))
   · replace h := iteT hb h
     have hs : Sep [BX b1 83 [I p0.c.Inputs, L pa0 p0.c.Gates pc0, .map (some b2), .bool p0.full], sl59 (L pa0 p0.c.Gates pc0) p0.c.Gates, MP map81 b2 p0.line] w8 S3 := Sep.pick [1, 2, 3] hs (by decide) rfl
     refine wp_seq (wp_text' ?_)
     refine from_pure 3 [(68, B b1 3)] hF (by kernel_rfl) fun fr hF => ?_
     refine q_storeBox 0 hs hM0 rfl [I p0.c.Inputs, L pa0 p0.c.Gates pc0, .map (some b2), .bool true] rfl hF rfl rfl (by kernel_rfl) rfl rfl rfl fun w9 S4 hs hp hF => ?_
     have hM0 := hM0.stp hp
     have hs : Sep [BX b1 83 [I p0.c.Inputs, L pa0 p0.c.Gates pc0, .map (some b2), .bool true], sl59 (L pa0 p0.c.Gates pc0) p0.c.Gates, MP map81 b2 p0.line] w9 S4 := hs
     refine from_end rfl (then_normal ?_)
     refine wp_seq (wp_pure [(6, I (-1))] hF (by kernel_rfl) fun fr hF => then_normal ?_)
     obtain rfl := Option.some.inj h
     exact wp_ret (then_ret (ret1 rfl hF rfl ⟨_, rfl, pa0, pc0, rfl, S4, hM0.out, hs⟩))
   replace h := iteF hb h
   refine (wp_skip (then_normal ?_))
   refine wp_seq (region_bf 8 0 [0, 0, 2, 6, 14, 30, 0, 64, 254, 511, 1023, 2047, 4095] [true, true, true, true, true, false, false, false]
       [.eq (B b1 0), .eq (B b1 0), .eq (B b1 0), .eq (B b1 0), .eq (B b1 1), .eq (L pa0 p0.c.Gates pc0), .eq (.agg #[I p2, I p1]), .own fun ow v w => ∃ i : Option Addr × Nat, v = L i.1 ([(D.Gate.mk p2 p1)] : List D.Gate) i.2 ∧ (sl59 (L i.1 ([(D.Gate.mk p2 p1)] : List D.Gate) i.2) ([(D.Gate.mk p2 p1)] : List D.Gate)).ok w (fun k => w8.heap.size ≤ k ∧ k < w.heap.size ∧ ow k = 7), .any, .any, .any, .any, .any]
       [(0, B b1 0), (7, B b3 0), (69, B b1 0), (74, L pa0 p0.c.Gates pc0)] mix hF (by kernel_rfl) (fun _ _ _ _ _ h => h) (by kernel_rfl) (by kernel_rfl) (by kernel_rfl) ⟨Pd.monoO_eq, Pd.monoO_eq, mono_new, trivial⟩ (fun ow hG => ⟨np_to ow (np_loadBox hG hF ty26 rfl rfl (hs.bx 1 rfl) rfl rfl rfl), np_to ow (np_loadBoxS hG hF ty59 rfl rfl (hs.bx 0 rfl) rfl rfl rfl rfl), np_lit (E := 59) [I p2, I p1] (([(D.Gate.mk p2 p1)] : List D.Gate).map Flat.enc) ([(D.Gate.mk p2 p1)] : List D.Gate) hG hF rfl [.agg #[I p2, I p1]] rfl (fun w => by kernel_rfl) (fun w => css_flat _) rfl rfl rfl rfl, trivial⟩) (by kernel_rfl) fun ow fr w10 hF hE hc => ?_)
   obtain ⟨⟨a1, c1⟩, hv, hnw7⟩ := hE.is 76 7 rfl rfl
   have hF := hF.cons hv
   have hsN := sepO (w0 := w8) (ow := ow) [(7, sl59 (L a1 ([(D.Gate.mk p2 p1)] : List D.Gate) c1) ([(D.Gate.mk p2 p1)] : List D.Gate))] (show ([7] : List Nat).Nodup by decide) ⟨hnw7, trivial⟩ rfl
   obtain ⟨S5, hp, hs⟩ := hs.got hM0 (stp_new hc) hsN
   have hM0 := hM0.stp hp
   have hs : Sep [sl59 (L a1 ([(D.Gate.mk p2 p1)] : List D.Gate) c1) ([(D.Gate.mk p2 p1)] : List D.Gate), BX b3 59 [I p2, I p1], BX b1 83 [I p0.c.Inputs, L pa0 p0.c.Gates pc0, .map (some b2), .bool p0.full], sl59 (L pa0 p0.c.Gates pc0) p0.c.Gates, MP map81 b2 p0.line] w10 S5 := hs
   obtain ⟨x4, hx4, h⟩ := bindE h
   refine q_append 3 hs hM0 rfl Try.underlying26 el59 rfl rfl rfl hF rfl rfl (hs.rv 0 rfl) hx4 fun a2 c2 w11 S6 fr hs hp hF => ?_
   have hM0 := hM0.stp hp
   have hs : Sep [sl59 (L a1 ([(D.Gate.mk p2 p1)] : List D.Gate) c1) ([(D.Gate.mk p2 p1)] : List D.Gate), BX b3 59 [I p2, I p1], BX b1 83 [I p0.c.Inputs, L pa0 p0.c.Gates pc0, .map (some b2), .bool p0.full], sl59 (L a2 x4 c2) x4, MP map81 b2 p0.line] w11 S6 := hs
   have hs : Sep [BX b3 59 [I p2, I p1], BX b1 83 [I p0.c.Inputs, L pa0 p0.c.Gates pc0, .map (some b2), .bool p0.full], sl59 (L a2 x4 c2) x4, MP map81 b2 p0.line] w11 S6 := Sep.pick [1, 2, 3, 4] hs (by decide) rfl
   refine from_pure 3 [(0, B b1 0), (7, B b3 0), (77, L a2 x4 c2), (80, B b1 1)] hF (by kernel_rfl) fun fr hF => ?_
   refine q_storeBox 1 hs hM0 rfl [I p0.c.Inputs, L a2 x4 c2, .map (some b2), .bool p0.full] rfl hF rfl rfl (by kernel_rfl) rfl rfl rfl fun w12 S7 hs hp hF => ?_
   have hM0 := hM0.stp hp
   have hs : Sep [BX b3 59 [I p2, I p1], BX b1 83 [I p0.c.Inputs, L a2 x4 c2, .map (some b2), .bool p0.full], sl59 (L a2 x4 c2) x4, MP map81 b2 p0.line] w12 S7 := hs
   refine from_end rfl (then_normal ?_)
   refine wp_seq (wp_text' ?_)
   refine from_pure 3 [(0, B b1 0), (7, B b3 0), (83, B b1 0)] hF (by kernel_rfl) fun fr hF => ?_
   refine s_loadPart [I p0.c.Inputs, L a2 x4 c2] ty28 rfl rfl hF rfl (hs.bx 1 rfl) rfl rfl rfl fun fr hF => ?_
   obtain ⟨x5, hx5, h⟩ := bindE h
   refine s_call [.agg #[I p0.c.Inputs, L a2 x4 c2]] Try.call65 rfl rfl hF rfl (impl_linesOf_ok (D.Circuit.mk p0.c.Inputs x4) hx5 (RV.mk_Circuit (D.Circuit.mk p0.c.Inputs x4) (RV.any (hs.rv 2 rfl)))) fun v w13 fr hRes hF => ?_
   obtain ⟨rfl, hc⟩ := hRes
   have hs := hs.ext hc
   have hM0 := hM0.ext hc
   refine from_pure 1 [(0, B b1 0), (7, B b3 0), (10, I x5)] hF (by kernel_rfl) fun fr hF => ?_
   refine from_end rfl (then_normal ?_)
   refine wp_seq (region_bm 6 [0, 1, 3, 7, 0, 0, 63] [true, true, true, false, false, true]
       [.eq (B b1 0), .eq (B b1 0), .eq (B b1 2), .eq (.map (some b2)), .eq (.agg #[I p2, I p1]), .eq (I x5), .any]
       [(10, I x5), (89, .map (some b2)), (90, .agg #[I p2, I p1]), (91, I x5)] mix hF (by kernel_rfl) (by kernel_rfl) (by kernel_rfl) (by kernel_rfl) ⟨Pd.monoO_eq, Pd.monoO_eq, trivial⟩ (fun ow hG => ⟨np_to ow (np_loadBox hG hF ty81 rfl rfl (hs.bx 1 rfl) rfl rfl rfl), np_to ow (np_loadBoxS hG hF ty59 rfl rfl (hs.bx 0 rfl) rfl rfl rfl rfl), trivial⟩) (by kernel_rfl) fun ow fr w14 hF hE hc => ?_)
   have hs := hs.ext hc
   have hM0 := hM0.ext hc
   have hs : Sep [BX b1 83 [I p0.c.Inputs, L a2 x4 c2, .map (some b2), .bool p0.full], sl59 (L a2 x4 c2) x4, MP map81 b2 p0.line] w14 S7 := Sep.pick [1, 2, 3] hs (by decide) rfl
   obtain ⟨x6, hx6, h⟩ := bindE h
   refine q_mapPut map81 2 hs hM0 rfl Try.underlying81 rfl hF (u := (D.Gate.mk p2 p1)) (mputE?_fit hx6) x5 (mputE?_efit hx6) (mputE?_len hx6) rfl rfl rfl rfl rfl fun w15 S8 hs hp hF => ?_
   have hM0 := hM0.stp hp
   have hs : Sep [BX b1 83 [I p0.c.Inputs, L a2 x4 c2, .map (some b2), .bool p0.full], sl59 (L a2 x4 c2) x4, MP map81 b2 x6] w15 S8 := by rw [mputE?_val hx6]; exact hs
   refine from_end rfl (then_normal ?_)
   refine wp_seq (wp_pure [(6, I x5)] hF (by kernel_rfl) fun fr hF => then_normal ?_)
   obtain rfl := Option.some.inj h
   exact wp_ret (ret1 rfl hF rfl ⟨_, rfl, a2, c2, rfl, S8, hM0.out, hs⟩)
 replace h := iteF hb h
 refine (wp_skip (then_normal ?_))
 refine wp_seq ?_
 obtain ⟨x7, hx7, h⟩ := bindE h
 refine wp_seq (region_bm 11 [0, 1, 3, 7, 0, 31, 63, 127, 127, 255, 1023] [true, true, true, false, false, false, true, true, true, true, true]
     [.eq (B b1 0), .eq (B b1 0), .eq (B b1 2), .eq (.map (some b2)), .eq (.agg #[I p1, I p2]), .eq (.tuple #[I x7.1, .bool x7.2]), .eq (.tuple #[I x7.1, .bool x7.2]), .eq (I x7.1), .eq (.bool x7.2), .eq (I x7.1), .eq (.bool x7.2)]
     [(0, B b1 0), (7, B b3 0), (8, I x7.1), (9, .bool x7.2)] mix hF (by kernel_rfl) (by kernel_rfl) (by kernel_rfl) (by kernel_rfl) ⟨Pd.monoO_eq, Pd.monoO_eq, Pd.monoO_eq, trivial⟩ (fun ow hG => ⟨np_to ow (np_loadBox hG hF ty81 rfl rfl (hs.bx 1 rfl) rfl rfl rfl), np_to ow (np_loadBoxS hG hF ty59 rfl rfl (hs.bx 0 rfl) rfl rfl rfl rfl), np_to ow (np_mapGet2 map81 3 hs rfl Try.underlying81 hG hF rfl (u := (D.Gate.mk p1 p2)) rfl rfl rfl (fun hg => mget2?_fit hx7) (r := x7) (fun hg => mget2?_val hx7) rfl rfl), trivial⟩) (by kernel_rfl) fun ow fr w16 hF hE hc => ?_)
 have hs := hs.ext hc
 have hM0 := hM0.ext hc
 refine from_end rfl (then_normal ?_)
 refine wp_seq (wp_pure [(0, B b1 0), (7, B b3 0), (8, I x7.1), (57, .bool x7.2)] hF (by kernel_rfl) fun fr hF => then_normal ?_)
 refine (wp_if hF (b := x7.2) rfl (fun hb => ?_) (fun hb => ?_))
 · replace h := iteT hb h
   have hs : Sep [BX b1 83 [I p0.c.Inputs, L pa0 p0.c.Gates pc0, .map (some b2), .bool p0.full], sl59 (L pa0 p0.c.Gates pc0) p0.c.Gates, MP map81 b2 p0.line] w16 S2 := Sep.pick [1, 2, 3] hs (by decide) rfl
   refine wp_seq (wp_pure [(6, I x7.1)] hF (by kernel_rfl) fun fr hF => then_normal ?_)
   obtain rfl := Option.some.inj h
   exact wp_ret (then_ret (ret1 rfl hF rfl ⟨_, rfl, pa0, pc0, rfl, S2, hM0.out, hs⟩))
 replace h := iteF hb h
 refine (wp_skip (then_normal ?_))
 refine wp_seq ?_
 refine wp_seq (wp_text' ?_)
 refine from_pure 4 [(0, B b1 0), (7, B b3 0), (62, B b1 1)] hF (by kernel_rfl) fun fr hF => ?_
 refine s_loadBox (L pa0 p0.c.Gates pc0) ty26 rfl rfl hF rfl (hs.bx 1 rfl) rfl rfl fun fr hF => ?_
 refine from_pure 2 [(0, B b1 0), (7, B b3 0), (65, .bool (decide ((len p0.c.Gates) ≥ 360)))] hF (by kernel_rfl) fun fr hF => ?_
 refine from_end rfl (then_normal ?_)
 refine (wp_if hF (b := (decide ((len p0.c.Gates) ≥ 360))) rfl (fun hb => ?_) (fun hb => ?_))
 · replace h := iteT hb h
   have hs : Sep [BX b1 83 [I p0.c.Inputs, L pa0 p0.c.Gates pc0, .map (some b2), .bool p0.full], sl59 (L pa0 p0.c.Gates pc0) p0.c.Gates, MP map81 b2 p0.line] w16 S2 := Sep.pick [1, 2, 3] hs (by decide) rfl
   refine wp_seq (wp_text' ?_)
   refine from_pure 3 [(68, B b1 3)] hF (by kernel_rfl) fun fr hF => ?_
   refine q_storeBox 0 hs hM0 rfl [I p0.c.Inputs, L pa0 p0.c.Gates pc0, .map (some b2), .bool true] rfl hF rfl rfl (by kernel_rfl) rfl rfl rfl fun w17 S9 hs hp hF => ?_
   have hM0 := hM0.stp hp
   have hs : Sep [BX b1 83 [I p0.c.Inputs, L pa0 p0.c.Gates pc0, .map (some b2), .bool true], sl59 (L pa0 p0.c.Gates pc0) p0.c.Gates, MP map81 b2 p0.line] w17 S9 := hs
   refine from_end rfl (then_normal ?_)
   refine wp_seq (wp_pure [(6, I (-1))] hF (by kernel_rfl) fun fr hF => then_normal ?_)
   obtain rfl := Option.some.inj h
   exact wp_ret (then_ret (ret1 rfl hF rfl ⟨_, rfl, pa0, pc0, rfl, S9, hM0.out, hs⟩))
 replace h := iteF hb h
 refine (wp_skip (then_normal ?_))
 refine wp_seq (region_bf 8 0 [0, 0, 2, 6, 14, 30, 0, 64, 254, 511, 1023, 2047, 4095] [true, true, true, true, true, false, false, false]
     [.eq (B b1 0), .eq (B b1 0), .eq (B b1 0), .eq (B b1 0), .eq (B b1 1), .eq (L pa0 p0.c.Gates pc0), .eq (.agg #[I p1, I p2]), .own fun ow v w => ∃ i : Option Addr × Nat, v = L i.1 ([(D.Gate.mk p1 p2)] : List D.Gate) i.2 ∧ (sl59 (L i.1 ([(D.Gate.mk p1 p2)] : List D.Gate) i.2) ([(D.Gate.mk p1 p2)] : List D.Gate)).ok w (fun k => w16.heap.size ≤ k ∧ k < w.heap.size ∧ ow k = 7), .any, .any, .any, .any, .any]
     [(0, B b1 0), (7, B b3 0), (69, B b1 0), (74, L pa0 p0.c.Gates pc0)] mix hF (by kernel_rfl) (fun _ _ _ _ _ h => h) (by kernel_rfl) (by kernel_rfl) (by kernel_rfl) ⟨Pd.monoO_eq, Pd.monoO_eq, mono_new, trivial⟩ (fun ow hG => ⟨np_to ow (np_loadBox hG hF ty26 rfl rfl (hs.bx 1 rfl) rfl rfl rfl), np_to ow (np_loadBoxS hG hF ty59 rfl rfl (hs.bx 0 rfl) rfl rfl rfl rfl), np_lit (E := 59) [I p1, I p2] (([(D.Gate.mk p1 p2)] : List D.Gate).map Flat.enc) ([(D.Gate.mk p1 p2)] : List D.Gate) hG hF rfl [.agg #[I p1, I p2]] rfl (fun w => by kernel_rfl) (fun w => css_flat _) rfl rfl rfl rfl, trivial⟩) (by kernel_rfl) fun ow fr w18 hF hE hc => ?_)
 obtain ⟨⟨a3, c3⟩, hv, hnw7⟩ := hE.is 76 7 rfl rfl
 have hF := hF.cons hv
 have hsN := sepO (w0 := w16) (ow := ow) [(7, sl59 (L a3 ([(D.Gate.mk p1 p2)] : List D.Gate) c3) ([(D.Gate.mk p1 p2)] : List D.Gate))] (show ([7] : List Nat).Nodup by decide) ⟨hnw7, trivial⟩ rfl
 obtain ⟨S10, hp, hs⟩ := hs.got hM0 (stp_new hc) hsN
 have hM0 := hM0.stp hp
 have hs : Sep [sl59 (L a3 ([(D.Gate.mk p1 p2)] : List D.Gate) c3) ([(D.Gate.mk p1 p2)] : List D.Gate), BX b3 59 [I p1, I p2], BX b1 83 [I p0.c.Inputs, L pa0 p0.c.Gates pc0, .map (some b2), .bool p0.full], sl59 (L pa0 p0.c.Gates pc0) p0.c.Gates, MP map81 b2 p0.line] w18 S10 := hs
 obtain ⟨x8, hx8, h⟩ := bindE h
 refine q_append 3 hs hM0 rfl Try.underlying26 el59 rfl rfl rfl hF rfl rfl (hs.rv 0 rfl) hx8 fun a4 c4 w19 S11 fr hs hp hF => ?_
 have hM0 := hM0.stp hp
 have hs : Sep [sl59 (L a3 ([(D.Gate.mk p1 p2)] : List D.Gate) c3) ([(D.Gate.mk p1 p2)] : List D.Gate), BX b3 59 [I p1, I p2], BX b1 83 [I p0.c.Inputs, L pa0 p0.c.Gates pc0, .map (some b2), .bool p0.full], sl59 (L a4 x8 c4) x8, MP map81 b2 p0.line] w19 S11 := hs
 have hs : Sep [BX b3 59 [I p1, I p2], BX b1 83 [I p0.c.Inputs, L pa0 p0.c.Gates pc0, .map (some b2), .bool p0.full], sl59 (L a4 x8 c4) x8, MP map81 b2 p0.line] w19 S11 := Sep.pick [1, 2, 3, 4] hs (by decide) rfl
 refine from_pure 3 [(0, B b1 0), (7, B b3 0), (77, L a4 x8 c4), (80, B b1 1)] hF (by kernel_rfl) fun fr hF => ?_
 refine q_storeBox 1 hs hM0 rfl [I p0.c.Inputs, L a4 x8 c4, .map (some b2), .bool p0.full] rfl hF rfl rfl (by kernel_rfl) rfl rfl rfl fun w20 S12 hs hp hF => ?_
 have hM0 := hM0.stp hp
 have hs : Sep [BX b3 59 [I p1, I p2], BX b1 83 [I p0.c.Inputs, L a4 x8 c4, .map (some b2), .bool p0.full], sl59 (L a4 x8 c4) x8, MP map81 b2 p0.line] w20 S12 := hs
 refine from_end rfl (then_normal ?_)
 refine wp_seq (wp_text' ?_)
 refine from_pure 3 [(0, B b1 0), (7, B b3 0), (83, B b1 0)] hF (by kernel_rfl) fun fr hF => ?_
 refine s_loadPart [I p0.c.Inputs, L a4 x8 c4] ty28 rfl rfl hF rfl (hs.bx 1 rfl) rfl rfl rfl fun fr hF => ?_
 obtain ⟨x9, hx9, h⟩ := bindE h
 refine s_call [.agg #[I p0.c.Inputs, L a4 x8 c4]] Try.call65 rfl rfl hF rfl (impl_linesOf_ok (D.Circuit.mk p0.c.Inputs x8) hx9 (RV.mk_Circuit (D.Circuit.mk p0.c.Inputs x8) (RV.any (hs.rv 2 rfl)))) fun v w21 fr hRes hF => ?_
 obtain ⟨rfl, hc⟩ := hRes
 have hs := hs.ext hc
 have hM0 := hM0.ext hc
 refine from_pure 1 [(0, B b1 0), (7, B b3 0), (10, I x9)] hF (by kernel_rfl) fun fr hF => ?_
 refine from_end rfl (then_normal ?_)
 refine wp_seq (region_bm 6 [0, 1, 3, 7, 0, 0, 63] [true, true, true, false, false, true]
     [.eq (B b1 0), .eq (B b1 0), .eq (B b1 2), .eq (.map (some b2)), .eq (.agg #[I p1, I p2]), .eq (I x9), .any]
     [(10, I x9), (89, .map (some b2)), (90, .agg #[I p1, I p2]), (91, I x9)] mix hF (by kernel_rfl) (by kernel_rfl) (by kernel_rfl) (by kernel_rfl) ⟨Pd.monoO_eq, Pd.monoO_eq, trivial⟩ (fun ow hG => ⟨np_to ow (np_loadBox hG hF ty81 rfl rfl (hs.bx 1 rfl) rfl rfl rfl), np_to ow (np_loadBoxS hG hF ty59 rfl rfl (hs.bx 0 rfl) rfl rfl rfl rfl), trivial⟩) (by kernel_rfl) fun ow fr w22 hF hE hc => ?_)
 have hs := hs.ext hc
 have hM0 := hM0.ext hc
 have hs : Sep [BX b1 83 [I p0.c.Inputs, L a4 x8 c4, .map (some b2), .bool p0.full], sl59 (L a4 x8 c4) x8, MP map81 b2 p0.line] w22 S12 := Sep.pick [1, 2, 3] hs (by decide) rfl
 obtain ⟨x10, hx10, h⟩ := bindE h
 refine q_mapPut map81 2 hs hM0 rfl Try.underlying81 rfl hF (u := (D.Gate.mk p1 p2)) (mputE?_fit hx10) x9 (mputE?_efit hx10) (mputE?_len hx10) rfl rfl rfl rfl rfl fun w23 S13 hs hp hF => ?_
 have hM0 := hM0.stp hp
 have hs : Sep [BX b1 83 [I p0.c.Inputs, L a4 x8 c4, .map (some b2), .bool p0.full], sl59 (L a4 x8 c4) x8, MP map81 b2 x10] w23 S13 := by rw [mputE?_val hx10]; exact hs
 refine from_end rfl (then_normal ?_)
 refine wp_seq (wp_pure [(6, I x9)] hF (by kernel_rfl) fun fr hF => then_normal ?_)
 obtain rfl := Option.some.inj h
 exact wp_ret (ret1 rfl hF rfl ⟨_, rfl, a4, c4, rfl, S13, hM0.out, hs⟩)

theorem impl_builder_or_ok (p0 : D.builder) (p1 : Int) (p2 : Int) {r : Int × D.builder} (h : impl_builder_or p0 p1 p2 = some r) {w : World} {S0 F0 : Nat → Prop} {pa0 : Option Addr} {pn0 pc0 : Nat} {b1 : Nat} {b2 : Nat} (hs : Sep [BX b1 83 [I p0.c.Inputs, .slice pa0 pn0 pc0, .map (some b2), .bool p0.full], sl59 (.slice pa0 pn0 pc0) p0.c.Gates, MP map81 b2 p0.line] w S0) (hb : ∀ k, S0 k → k < w.heap.size) (hd : ∀ k, S0 k → F0 k → False) :
   Calls Try.prog 57 [B b1 0, I p1, I p2].toArray w fun e w' => ∃ v, e = .returned v ∧ ∃ a1 c1, v = I r.1 ∧ ∃ S', Stp w S0 w' S' ∧ Sep [BX b1 83 [I r.2.c.Inputs, L a1 r.2.c.Gates c1, .map (some b2), .bool r.2.full], sl59 (L a1 r.2.c.Gates c1) r.2.c.Gates, MP map81 b2 r.2.line] w' S' := by
 unfold impl_builder_or at h
 obtain ⟨hpn, hs⟩ := hs.relen 1 rfl
 subst hpn
 have hs : Sep [BX b1 83 [I p0.c.Inputs, L pa0 p0.c.Gates pc0, .map (some b2), .bool p0.full], sl59 (L pa0 p0.c.Gates pc0) p0.c.Gates, MP map81 b2 p0.line] w S0 := hs
 have hM0 : Mem w S0 (fun k => F0 k ∧ k < w.heap.size) w S0 (fun k => F0 k ∧ k < w.heap.size) := Mem.start hb (fun _ h => h.2) (fun k h1 h2 => hd k h1 h2.1)
 refine enter (N := 14) Try.func57 rfl Try.ntmps57 rfl fun fr hF => ?_
 refine wp_seq (wp_pure [(0, B b1 0), (1, I p1), (2, I p2)] hF (by kernel_rfl) fun fr hF => then_normal ?_)
 refine wp_seq (wp_text' ?_)
 refine from_pure 5 [(7, B b1 0), (9, I (w64 (0 - p1))), (11, I (w64 (0 - p2)))] hF (by kernel_rfl) fun fr hF => ?_
 obtain ⟨x1, hx1, h⟩ := bindE h
 obtain ⟨A1, R1, hsA, hsR, hdA, hbA, hup⟩ := Sep.call (L1 := [BX b1 83 [I p0.c.Inputs, L pa0 p0.c.Gates pc0, .map (some b2), .bool p0.full], sl59 (L pa0 p0.c.Gates pc0) p0.c.Gates, MP map81 b2 p0.line]) (L2 := []) hs hM0
 refine s_call [B b1 0, I (w64 (0 - p1)), I (w64 (0 - p2))] Try.call51 rfl rfl hF rfl (impl_builder_and_ok p0 (w64 (0 - p1)) (w64 (0 - p2)) hx1 hsA hbA hdA) fun v w1 fr hRes hF => ?_
 obtain ⟨a1, c1, rfl, _, hp, hs⟩ := hRes
 obtain ⟨S1, hp, hs⟩ := hup hp hs
 have hM0 := hM0.stp hp
 have hs : Sep [BX b1 83 [I x1.2.c.Inputs, L a1 x1.2.c.Gates c1, .map (some b2), .bool x1.2.full], sl59 (L a1 x1.2.c.Gates c1) x1.2.c.Gates, MP map81 b2 x1.2.line] w1 S1 := hs
 refine from_pure 2 [(6, I (w64 (0 - x1.1)))] hF (by kernel_rfl) fun fr hF => ?_
 refine from_end rfl (then_normal ?_)
 obtain rfl := Option.some.inj h
 exact wp_ret (ret1 rfl hF rfl ⟨_, rfl, a1, c1, rfl, S1, hM0.out, hs⟩)

theorem impl_builder_xor_ok (p0 : D.builder) (p1 : Int) (p2 : Int) {r : Int × D.builder} (h : impl_builder_xor p0 p1 p2 = some r) {w : World} {S0 F0 : Nat → Prop} {pa0 : Option Addr} {pn0 pc0 : Nat} {b1 : Nat} {b2 : Nat} (hs : Sep [BX b1 83 [I p0.c.Inputs, .slice pa0 pn0 pc0, .map (some b2), .bool p0.full], sl59 (.slice pa0 pn0 pc0) p0.c.Gates, MP map81 b2 p0.line] w S0) (hb : ∀ k, S0 k → k < w.heap.size) (hd : ∀ k, S0 k → F0 k → False) :
   Calls Try.prog 60 [B b1 0, I p1, I p2].toArray w fun e w' => ∃ v, e = .returned v ∧ ∃ a1 c1, v = I r.1 ∧ ∃ S', Stp w S0 w' S' ∧ Sep [BX b1 83 [I r.2.c.Inputs, L a1 r.2.c.Gates c1, .map (some b2), .bool r.2.full], sl59 (L a1 r.2.c.Gates c1) r.2.c.Gates, MP map81 b2 r.2.line] w' S' := by
 unfold impl_builder_xor at h
 obtain ⟨hpn, hs⟩ := hs.relen 1 rfl
 subst hpn
 have hs : Sep [BX b1 83 [I p0.c.Inputs, L pa0 p0.c.Gates pc0, .map (some b2), .bool p0.full], sl59 (L pa0 p0.c.Gates pc0) p0.c.Gates, MP map81 b2 p0.line] w S0 := hs
 have hM0 : Mem w S0 (fun k => F0 k ∧ k < w.heap.size) w S0 (fun k => F0 k ∧ k < w.heap.size) := Mem.start hb (fun _ h => h.2) (fun k h1 h2 => hd k h1 h2.1)
 refine enter (N := 23) Try.func60 rfl Try.ntmps60 rfl fun fr hF => ?_
 refine wp_seq (wp_pure [(0, B b1 0), (1, I p1), (2, I p2)] hF (by kernel_rfl) fun fr hF => then_normal ?_)
 refine wp_seq (wp_text' ?_)
 refine from_pure 4 [(0, B b1 0), (1, I p1), (2, I p2), (9, B b1 0), (10, I p1), (12, I (w64 (0 - p2)))] hF (by kernel_rfl) fun fr hF => ?_
 obtain ⟨x1, hx1, h⟩ := bindE h
 obtain ⟨A1, R1, hsA, hsR, hdA, hbA, hup⟩ := Sep.call (L1 := [BX b1 83 [I p0.c.Inputs, L pa0 p0.c.Gates pc0, .map (some b2), .bool p0.full], sl59 (L pa0 p0.c.Gates pc0) p0.c.Gates, MP map81 b2 p0.line]) (L2 := []) hs hM0
 refine s_call [B b1 0, I p1, I (w64 (0 - p2))] Try.call51 rfl rfl hF rfl (impl_builder_and_ok p0 p1 (w64 (0 - p2)) hx1 hsA hbA hdA) fun v w1 fr hRes hF => ?_
 obtain ⟨a1, c1, rfl, _, hp, hs⟩ := hRes
 obtain ⟨S1, hp, hs⟩ := hup hp hs
 have hM0 := hM0.stp hp
 have hs : Sep [BX b1 83 [I x1.2.c.Inputs, L a1 x1.2.c.Gates c1, .map (some b2), .bool x1.2.full], sl59 (L a1 x1.2.c.Gates c1) x1.2.c.Gates, MP map81 b2 x1.2.line] w1 S1 := hs
 refine from_pure 1 [(0, B b1 0), (1, I p1), (2, I p2), (7, I x1.1)] hF (by kernel_rfl) fun fr hF => ?_
 refine from_end rfl (then_normal ?_)
 refine wp_seq (wp_text' ?_)
 refine from_pure 4 [(0, B b1 0), (7, I x1.1), (14, B b1 0), (16, I (w64 (0 - p1))), (17, I p2)] hF (by kernel_rfl) fun fr hF => ?_
 obtain ⟨x2, hx2, h⟩ := bindE h
 obtain ⟨A2, R2, hsA, hsR, hdA, hbA, hup⟩ := Sep.call (L1 := [BX b1 83 [I x1.2.c.Inputs, L a1 x1.2.c.Gates c1, .map (some b2), .bool x1.2.full], sl59 (L a1 x1.2.c.Gates c1) x1.2.c.Gates, MP map81 b2 x1.2.line]) (L2 := []) hs hM0
 refine s_call [B b1 0, I (w64 (0 - p1)), I p2] Try.call51 rfl rfl hF rfl (impl_builder_and_ok x1.2 (w64 (0 - p1)) p2 hx2 hsA hbA hdA) fun v w2 fr hRes hF => ?_
 obtain ⟨a2, c2, rfl, _, hp, hs⟩ := hRes
 obtain ⟨S2, hp, hs⟩ := hup hp hs
 have hM0 := hM0.stp hp
 have hs : Sep [BX b1 83 [I x2.2.c.Inputs, L a2 x2.2.c.Gates c2, .map (some b2), .bool x2.2.full], sl59 (L a2 x2.2.c.Gates c2) x2.2.c.Gates, MP map81 b2 x2.2.line] w2 S2 := hs
 refine from_pure 1 [(0, B b1 0), (7, I x1.1), (8, I x2.1)] hF (by kernel_rfl) fun fr hF => ?_
 refine from_end rfl (then_normal ?_)
 refine wp_seq (wp_text' ?_)
 refine from_pure 3 [(19, B b1 0), (20, I x1.1), (21, I x2.1)] hF (by kernel_rfl) fun fr hF => ?_
 obtain ⟨x3, hx3, h⟩ := bindE h
 obtain ⟨A3, R3, hsA, hsR, hdA, hbA, hup⟩ := Sep.call (L1 := [BX b1 83 [I x2.2.c.Inputs, L a2 x2.2.c.Gates c2, .map (some b2), .bool x2.2.full], sl59 (L a2 x2.2.c.Gates c2) x2.2.c.Gates, MP map81 b2 x2.2.line]) (L2 := []) hs hM0
 refine s_call [B b1 0, I x1.1, I x2.1] Try.call57 rfl rfl hF rfl (impl_builder_or_ok x2.2 x1.1 x2.1 hx3 hsA hbA hdA) fun v w3 fr hRes hF => ?_
 obtain ⟨a3, c3, rfl, _, hp, hs⟩ := hRes
 obtain ⟨S3, hp, hs⟩ := hup hp hs
 have hM0 := hM0.stp hp
 have hs : Sep [BX b1 83 [I x3.2.c.Inputs, L a3 x3.2.c.Gates c3, .map (some b2), .bool x3.2.full], sl59 (L a3 x3.2.c.Gates c3) x3.2.c.Gates, MP map81 b2 x3.2.line] w3 S3 := hs
 refine from_pure 1 [(6, I x3.1)] hF (by kernel_rfl) fun fr hF => ?_
 refine from_end rfl (then_normal ?_)
 obtain rfl := Option.some.inj h
 exact wp_ret (ret1 rfl hF rfl ⟨_, rfl, a3, c3, rfl, S3, hM0.out, hs⟩)

theorem impl_builder_add_ok (n : Nat) (p0 : D.builder) (p1 : List Int) (p2 : List Int) (p3 : Int) {r : (List Int) × Int × D.builder} (h : impl_builder_add n p0 p1 p2 p3 = some r) {w : World} {S0 F0 : Nat → Prop} {pa0 : Option Addr} {pn0 pc0 : Nat} {b1 : Nat} {b2 : Nat} (hs : Sep [BX b1 83 [I p0.c.Inputs, .slice pa0 pn0 pc0, .map (some b2), .bool p0.full], sl59 (.slice pa0 pn0 pc0) p0.c.Gates, MP map81 b2 p0.line] w S0) (hb : ∀ k, S0 k → k < w.heap.size) (hd : ∀ k, S0 k → F0 k → False) {va1 : Value} (ra1 : RV w F0 va1 p1) {va2 : Value} (ra2 : RV w F0 va2 p2) :
   Calls Try.prog 69 [B b1 0, va1, va2, I p3].toArray w fun e w' => ∃ v, e = .returned v ∧ ∃ a1 c1 a2 c2, v = .tuple #[L a1 r.1 c1, I r.2.1] ∧ ∃ S', Stp w S0 w' S' ∧ Sep [sl3 (L a1 r.1 c1) r.1, BX b1 83 [I r.2.2.c.Inputs, L a2 r.2.2.c.Gates c2, .map (some b2), .bool r.2.2.full], sl59 (L a2 r.2.2.c.Gates c2) r.2.2.c.Gates, MP map81 b2 r.2.2.line] w' S' := by
 unfold impl_builder_add at h
 obtain ⟨hpn, hs⟩ := hs.relen 1 rfl
 subst hpn
 have hs : Sep [BX b1 83 [I p0.c.Inputs, L pa0 p0.c.Gates pc0, .map (some b2), .bool p0.full], sl59 (L pa0 p0.c.Gates pc0) p0.c.Gates, MP map81 b2 p0.line] w S0 := hs
 have hM0 : Mem w S0 (fun k => F0 k ∧ k < w.heap.size) w S0 (fun k => F0 k ∧ k < w.heap.size) := Mem.start hb (fun _ h => h.2) (fun k h1 h2 => hd k h1 h2.1)
 have ra1 := ra1.sub (F' := (fun k => F0 k ∧ k < w.heap.size)) (fun k hk h => ⟨h, hk⟩)
 obtain ⟨a1, c1, rfl, -⟩ := ra1.slice
 have ra2 := ra2.sub (F' := (fun k => F0 k ∧ k < w.heap.size)) (fun k hk h => ⟨h, hk⟩)
 obtain ⟨a2, c2, rfl, -⟩ := ra2.slice
 refine enter (N := 61) Try.func69 rfl Try.ntmps69 rfl fun fr hF => ?_
 refine wp_seq (wp_pure [(0, B b1 0), (1, L a1 p1 c1), (2, L a2 p2 c2), (3, I p3)] hF (by kernel_rfl) fun fr hF => then_normal ?_)
 refine wp_seq (wp_text' ?_)
 refine from_pure 2 [(0, B b1 0), (1, L a1 p1 c1), (2, L a2 p2 c2), (3, I p3), (16, I (len p1))] hF (by kernel_rfl) fun fr hF => ?_
 obtain ⟨x1, hx1, h⟩ := bindE h
 refine q_make hs hM0 Try.underlying37 el3 (zero_flat _ (by kernel_rfl)) rfl rfl hF rfl rfl hx1 fun a3 c3 w1 S1 fr hs hp hF => ?_
 have ra1 := ra1.stp hM0 hp
 have ra2 := ra2.stp hM0 hp
 have hM0 := hM0.stp hp
 have hs : Sep [sl3 (L a3 x1 c3) x1, BX b1 83 [I p0.c.Inputs, L pa0 p0.c.Gates pc0, .map (some b2), .bool p0.full], sl59 (L pa0 p0.c.Gates pc0) p0.c.Gates, MP map81 b2 p0.line] w1 S1 := hs
 refine from_pure 1 [(0, B b1 0), (1, L a1 p1 c1), (2, L a2 p2 c2), (3, I p3), (10, L a3 x1 c3)] hF (by kernel_rfl) fun fr hF => ?_
 refine from_end rfl (then_normal ?_)
 refine wp_seq ?_
 refine wp_seq (wp_pure [(0, B b1 0), (1, L a1 p1 c1), (2, L a2 p2 c2), (3, I p3), (10, L a3 x1 c3), (19, I (len p1)), (20, I 0)] hF (by kernel_rfl) fun fr hF => then_normal ?_)
 obtain ⟨rl1, hit1, h⟩ := bindE h
 have hk1 := h
 refine (wp_cut (M := fun fr w' => ∃ a5 c5 S3 F2, FrS 61 [(3, I rl1.1), (10, L a3 x1 c3)] fr ∧ Mem w1 S1 (fun k => F0 k ∧ k < w.heap.size) w' S3 F2 ∧ Sep [sl3 (L a3 x1 c3) rl1.2.1, BX b1 83 [I rl1.2.2.1, L a5 rl1.2.2.2.2.1 c5, .map (some b2), .bool rl1.2.2.2.1], sl59 (L a5 rl1.2.2.2.2.1 c5) rl1.2.2.2.2.1, MP map81 b2 rl1.2.2.2.2.2] w' S3) (wp_block (wp_iter (Inv := fun s1 fr w' => ∃ a4 c4 S2 F1, FrS 61 [(0, B b1 0), (1, L a1 p1 c1), (2, L a2 p2 c2), (3, I s1.1), (10, L a3 x1 c3), (19, I (len p1)), (20, I s1.2.1)] fr ∧ Mem w1 S1 (fun k => F0 k ∧ k < w.heap.size) w' S2 F1 ∧ Sep [sl3 (L a3 x1 c3) s1.2.2.1, BX b1 83 [I s1.2.2.2.1, L a4 s1.2.2.2.2.2.1 c4, .map (some b2), .bool s1.2.2.2.2.1], sl59 (L a4 s1.2.2.2.2.2.1 c4) s1.2.2.2.2.2.1, MP map81 b2 s1.2.2.2.2.2.2] w' S2) hit1 ⟨pa0, pc0, S1, _, hF.sub _ (by kernel_rfl), (Mem.start hM0.bd hM0.bdF hM0.dj), hs⟩ fun s1 q1 fr w1i hI h hr1 => ?_)) fun fr w1o hM => ?_)
 · obtain ⟨a4, c4, S2, F1, hF, hM1, hs⟩ := hI
   have ra1 := ra1.mem hM1
   have ra2 := ra2.mem hM1
   refine wp_seq (wp_pure [(0, B b1 0), (1, L a1 p1 c1), (2, L a2 p2 c2), (3, I s1.1), (10, L a3 x1 c3), (19, I (len p1)), (20, I s1.2.1), (21, .bool (decide (s1.2.1 < (len p1))))] hF (by kernel_rfl) fun fr hF => then_normal ?_)
   refine wp_seq (wp_if hF (b := (decide (s1.2.1 < (len p1)))) rfl (fun hb => ?_) (fun hb => ?_))
   · replace h := iteT hb h
     refine (wp_skip (then_normal ?_))
     refine wp_seq (wp_block ?_)
     refine wp_seq (wp_pure [(0, B b1 0), (1, L a1 p1 c1), (2, L a2 p2 c2), (3, I s1.1), (10, L a3 x1 c3), (11, I s1.2.1), (19, I (len p1)), (20, I s1.2.1)] hF (by kernel_rfl) fun fr hF => then_normal ?_)
     obtain ⟨x2, hx2, h⟩ := bindE h
     obtain ⟨x3, hx3, h⟩ := bindE h
     refine wp_seq (region_bm 9 [0, 0, 0, 6, 14, 0, 0, 96, 224, 511, 1023] [true, true, true, false, false, true, true, false, false]
         [.eq (B b1 0), .eq (L a1 p1 c1), .eq (I s1.2.1), .is fun v w => ElemP w (fun k => k < w1i.heap.size) v (x2 : Int), .eq (I x2), .eq (L a2 p2 c2), .eq (I s1.2.1), .is fun v w => ElemP w (fun k => k < w1i.heap.size) v (x3 : Int), .eq (I x3), .any, .any]
         [(0, B b1 0), (1, L a1 p1 c1), (2, L a2 p2 c2), (3, I s1.1), (10, L a3 x1 c3), (11, I s1.2.1), (19, I (len p1)), (20, I s1.2.1), (23, B b1 0), (27, I x2), (31, I x3)] mix hF (by kernel_rfl) (by kernel_rfl) (by kernel_rfl) (by kernel_rfl) ⟨(Pd.monoO_is mono_elem), Pd.monoO_eq, (Pd.monoO_is mono_elem), Pd.monoO_eq, trivial⟩ (fun ow hG => ⟨np_to ow (np_index hG hF ty3 Try.underlying37 rfl rfl (RV.sub (ra1) fun k hk _ => hk) rfl rfl (fun hg => ⟨get?_nn hx2, get?_at hx2⟩)), np_to ow (np_loadF (z := x2) (i := 3) hG hF ty3 rfl rfl rfl rfl rfl rfl rfl), np_to ow (np_index hG hF ty3 Try.underlying37 rfl rfl (RV.sub (ra2) fun k hk _ => hk) rfl rfl (fun hg => ⟨get?_nn hx3, get?_at hx3⟩)), np_to ow (np_loadF (z := x3) (i := 7) hG hF ty3 rfl rfl rfl rfl rfl rfl rfl), trivial⟩) (by kernel_rfl) fun ow fr w2 hF hE hc => ?_)
     have ra1 := ra1.ext hc
     have ra2 := ra2.ext hc
     have hs := hs.ext hc
     have hM1 := hM1.ext hc
     obtain ⟨x4, hx4, h⟩ := bindE h
     have hs : Sep [BX b1 83 [I s1.2.2.2.1, L a4 s1.2.2.2.2.2.1 c4, .map (some b2), .bool s1.2.2.2.2.1], sl59 (L a4 s1.2.2.2.2.2.1 c4) s1.2.2.2.2.2.1, MP map81 b2 s1.2.2.2.2.2.2, sl3 (L a3 x1 c3) s1.2.2.1] w2 S2 := Sep.pick [1, 2, 3, 0] hs (by decide) rfl
     obtain ⟨A1, R1, hsA, hsR, hdA, hbA, hup⟩ := Sep.call (L1 := [BX b1 83 [I s1.2.2.2.1, L a4 s1.2.2.2.2.2.1 c4, .map (some b2), .bool s1.2.2.2.2.1], sl59 (L a4 s1.2.2.2.2.2.1 c4) s1.2.2.2.2.2.1, MP map81 b2 s1.2.2.2.2.2.2]) (L2 := [sl3 (L a3 x1 c3) s1.2.2.1]) hs hM1
     refine s_call [B b1 0, I x2, I x3] Try.call60 rfl rfl hF rfl (impl_builder_xor_ok (D.builder.mk (D.Circuit.mk s1.2.2.2.1 s1.2.2.2.2.2.1) s1.2.2.2.2.2.2 s1.2.2.2.2.1) x2 x3 hx4 hsA hbA hdA) fun v w3 fr hRes hF => ?_
     obtain ⟨a6, c6, rfl, _, hp, hs⟩ := hRes
     obtain ⟨S4, hp, hs⟩ := hup hp hs
     have ra1 := ra1.stp hM1 hp
     have ra2 := ra2.stp hM1 hp
     have hM1 := hM1.stp hp
     have hs : Sep [BX b1 83 [I x4.2.c.Inputs, L a6 x4.2.c.Gates c6, .map (some b2), .bool x4.2.full], sl59 (L a6 x4.2.c.Gates c6) x4.2.c.Gates, MP map81 b2 x4.2.line, sl3 (L a3 x1 c3) s1.2.2.1] w3 S4 := hs
     refine from_pure 1 [(0, B b1 0), (1, L a1 p1 c1), (2, L a2 p2 c2), (3, I s1.1), (10, L a3 x1 c3), (11, I s1.2.1), (12, I x4.1), (19, I (len p1)), (20, I s1.2.1)] hF (by kernel_rfl) fun fr hF => ?_
     refine from_end rfl (then_normal ?_)
     refine wp_seq (wp_text' ?_)
     refine from_pure 5 [(0, B b1 0), (1, L a1 p1 c1), (2, L a2 p2 c2), (3, I s1.1), (10, L a3 x1 c3), (11, I s1.2.1), (12, I x4.1), (19, I (len p1)), (20, I s1.2.1), (33, L a3 x1 c3), (34, I s1.2.1), (35, B b1 0), (36, I x4.1), (37, I s1.1)] hF (by kernel_rfl) fun fr hF => ?_
     obtain ⟨x5, hx5, h⟩ := bindE h
     obtain ⟨A2, R2, hsA, hsR, hdA, hbA, hup⟩ := Sep.call (L1 := [BX b1 83 [I x4.2.c.Inputs, L a6 x4.2.c.Gates c6, .map (some b2), .bool x4.2.full], sl59 (L a6 x4.2.c.Gates c6) x4.2.c.Gates, MP map81 b2 x4.2.line]) (L2 := [sl3 (L a3 x1 c3) s1.2.2.1]) hs hM1
     refine s_call [B b1 0, I x4.1, I s1.1] Try.call60 rfl rfl hF rfl (impl_builder_xor_ok x4.2 x4.1 s1.1 hx5 hsA hbA hdA) fun v w4 fr hRes hF => ?_
     obtain ⟨a7, c7, rfl, _, hp, hs⟩ := hRes
     obtain ⟨S5, hp, hs⟩ := hup hp hs
     have ra1 := ra1.stp hM1 hp
     have ra2 := ra2.stp hM1 hp
     have hM1 := hM1.stp hp
     have hs : Sep [BX b1 83 [I x5.2.c.Inputs, L a7 x5.2.c.Gates c7, .map (some b2), .bool x5.2.full], sl59 (L a7 x5.2.c.Gates c7) x5.2.c.Gates, MP map81 b2 x5.2.line, sl3 (L a3 x1 c3) s1.2.2.1] w4 S5 := hs
     obtain ⟨x6, hx6, h⟩ := bindE h
     refine q_set (q := x5.1) 3 hs hM1 rfl Try.underlying37 ty3 rfl rfl rfl rfl hF rfl rfl (by simp) rfl rfl hx6 fun w5 S6 fr _ hs hp hF => ?_
     have ra1 := ra1.stp hM1 hp
     have ra2 := ra2.stp hM1 hp
     have hM1 := hM1.stp hp
     have hs : Sep [BX b1 83 [I x5.2.c.Inputs, L a7 x5.2.c.Gates c7, .map (some b2), .bool x5.2.full], sl59 (L a7 x5.2.c.Gates c7) x5.2.c.Gates, MP map81 b2 x5.2.line, sl3 (L a3 x1 c3) x6] w5 S6 := hs
     refine from_end rfl (then_normal ?_)
     obtain ⟨x7, hx7, h⟩ := bindE h
     obtain ⟨x8, hx8, h⟩ := bindE h
     refine wp_seq (region_bm 9 [0, 0, 0, 6, 14, 0, 0, 96, 224, 511, 1023] [true, true, true, false, false, true, true, false, false]
         [.eq (B b1 0), .eq (L a1 p1 c1), .eq (I s1.2.1), .is fun v w => ElemP w (fun k => k < w5.heap.size) v (x7 : Int), .eq (I x7), .eq (L a2 p2 c2), .eq (I s1.2.1), .is fun v w => ElemP w (fun k => k < w5.heap.size) v (x8 : Int), .eq (I x8), .any, .any]
         [(0, B b1 0), (1, L a1 p1 c1), (2, L a2 p2 c2), (3, I s1.1), (10, L a3 x1 c3), (12, I x4.1), (19, I (len p1)), (20, I s1.2.1), (40, B b1 0), (44, I x7), (48, I x8)] mix hF (by kernel_rfl) (by kernel_rfl) (by kernel_rfl) (by kernel_rfl) ⟨(Pd.monoO_is mono_elem), Pd.monoO_eq, (Pd.monoO_is mono_elem), Pd.monoO_eq, trivial⟩ (fun ow hG => ⟨np_to ow (np_index hG hF ty3 Try.underlying37 rfl rfl (RV.sub (ra1) fun k hk _ => hk) rfl rfl (fun hg => ⟨get?_nn hx7, get?_at hx7⟩)), np_to ow (np_loadF (z := x7) (i := 3) hG hF ty3 rfl rfl rfl rfl rfl rfl rfl), np_to ow (np_index hG hF ty3 Try.underlying37 rfl rfl (RV.sub (ra2) fun k hk _ => hk) rfl rfl (fun hg => ⟨get?_nn hx8, get?_at hx8⟩)), np_to ow (np_loadF (z := x8) (i := 7) hG hF ty3 rfl rfl rfl rfl rfl rfl rfl), trivial⟩) (by kernel_rfl) fun ow fr w6 hF hE hc => ?_)
     have ra1 := ra1.ext hc
     have ra2 := ra2.ext hc
     have hs := hs.ext hc
     have hM1 := hM1.ext hc
     obtain ⟨x9, hx9, h⟩ := bindE h
     obtain ⟨A3, R3, hsA, hsR, hdA, hbA, hup⟩ := Sep.call (L1 := [BX b1 83 [I x5.2.c.Inputs, L a7 x5.2.c.Gates c7, .map (some b2), .bool x5.2.full], sl59 (L a7 x5.2.c.Gates c7) x5.2.c.Gates, MP map81 b2 x5.2.line]) (L2 := [sl3 (L a3 x1 c3) x6]) hs hM1
     refine s_call [B b1 0, I x7, I x8] Try.call51 rfl rfl hF rfl (impl_builder_and_ok x5.2 x7 x8 hx9 hsA hbA hdA) fun v w7 fr hRes hF => ?_
     obtain ⟨a8, c8, rfl, _, hp, hs⟩ := hRes
     obtain ⟨S7, hp, hs⟩ := hup hp hs
     have ra1 := ra1.stp hM1 hp
     have ra2 := ra2.stp hM1 hp
     have hM1 := hM1.stp hp
     have hs : Sep [BX b1 83 [I x9.2.c.Inputs, L a8 x9.2.c.Gates c8, .map (some b2), .bool x9.2.full], sl59 (L a8 x9.2.c.Gates c8) x9.2.c.Gates, MP map81 b2 x9.2.line, sl3 (L a3 x1 c3) x6] w7 S7 := hs
     refine from_pure 1 [(0, B b1 0), (1, L a1 p1 c1), (2, L a2 p2 c2), (3, I s1.1), (10, L a3 x1 c3), (12, I x4.1), (13, I x9.1), (19, I (len p1)), (20, I s1.2.1)] hF (by kernel_rfl) fun fr hF => ?_
     refine from_end rfl (then_normal ?_)
     refine wp_seq (wp_text' ?_)
     refine from_pure 3 [(0, B b1 0), (1, L a1 p1 c1), (2, L a2 p2 c2), (10, L a3 x1 c3), (13, I x9.1), (19, I (len p1)), (20, I s1.2.1), (50, B b1 0), (51, I x4.1), (52, I s1.1)] hF (by kernel_rfl) fun fr hF => ?_
     obtain ⟨x10, hx10, h⟩ := bindE h
     obtain ⟨A4, R4, hsA, hsR, hdA, hbA, hup⟩ := Sep.call (L1 := [BX b1 83 [I x9.2.c.Inputs, L a8 x9.2.c.Gates c8, .map (some b2), .bool x9.2.full], sl59 (L a8 x9.2.c.Gates c8) x9.2.c.Gates, MP map81 b2 x9.2.line]) (L2 := [sl3 (L a3 x1 c3) x6]) hs hM1
     refine s_call [B b1 0, I x4.1, I s1.1] Try.call51 rfl rfl hF rfl (impl_builder_and_ok x9.2 x4.1 s1.1 hx10 hsA hbA hdA) fun v w8 fr hRes hF => ?_
     obtain ⟨a9, c9, rfl, _, hp, hs⟩ := hRes
     obtain ⟨S8, hp, hs⟩ := hup hp hs
     have ra1 := ra1.stp hM1 hp
     have ra2 := ra2.stp hM1 hp
     have hM1 := hM1.stp hp
     have hs : Sep [BX b1 83 [I x10.2.c.Inputs, L a9 x10.2.c.Gates c9, .map (some b2), .bool x10.2.full], sl59 (L a9 x10.2.c.Gates c9) x10.2.c.Gates, MP map81 b2 x10.2.line, sl3 (L a3 x1 c3) x6] w8 S8 := hs
     refine from_pure 1 [(0, B b1 0), (1, L a1 p1 c1), (2, L a2 p2 c2), (10, L a3 x1 c3), (13, I x9.1), (14, I x10.1), (19, I (len p1)), (20, I s1.2.1)] hF (by kernel_rfl) fun fr hF => ?_
     refine from_end rfl (then_normal ?_)
     refine (wp_text' ?_)
     refine from_pure 3 [(0, B b1 0), (1, L a1 p1 c1), (2, L a2 p2 c2), (10, L a3 x1 c3), (19, I (len p1)), (20, I s1.2.1), (54, B b1 0), (55, I x9.1), (56, I x10.1)] hF (by kernel_rfl) fun fr hF => ?_
     obtain ⟨x11, hx11, h⟩ := bindE h
     obtain ⟨A5, R5, hsA, hsR, hdA, hbA, hup⟩ := Sep.call (L1 := [BX b1 83 [I x10.2.c.Inputs, L a9 x10.2.c.Gates c9, .map (some b2), .bool x10.2.full], sl59 (L a9 x10.2.c.Gates c9) x10.2.c.Gates, MP map81 b2 x10.2.line]) (L2 := [sl3 (L a3 x1 c3) x6]) hs hM1
     refine s_call [B b1 0, I x9.1, I x10.1] Try.call57 rfl rfl hF rfl (impl_builder_or_ok x10.2 x9.1 x10.1 hx11 hsA hbA hdA) fun v w9 fr hRes hF => ?_
     obtain ⟨a10, c10, rfl, _, hp, hs⟩ := hRes
     obtain ⟨S9, hp, hs⟩ := hup hp hs
     have ra1 := ra1.stp hM1 hp
     have ra2 := ra2.stp hM1 hp
     have hM1 := hM1.stp hp
     have hs : Sep [BX b1 83 [I x11.2.c.Inputs, L a10 x11.2.c.Gates c10, .map (some b2), .bool x11.2.full], sl59 (L a10 x11.2.c.Gates c10) x11.2.c.Gates, MP map81 b2 x11.2.line, sl3 (L a3 x1 c3) x6] w9 S9 := hs
     refine from_pure 1 [(0, B b1 0), (1, L a1 p1 c1), (2, L a2 p2 c2), (3, I x11.1), (10, L a3 x1 c3), (19, I (len p1)), (20, I s1.2.1)] hF (by kernel_rfl) fun fr hF => ?_
     refine from_end rfl ?_
     refine blk_normal (then_normal ?_)
     refine (wp_pure [(0, B b1 0), (1, L a1 p1 c1), (2, L a2 p2 c2), (3, I x11.1), (10, L a3 x1 c3), (19, I (len p1)), (20, I (w64 (s1.2.1 + 1)))] hF (by kernel_rfl) fun fr hF => then_normal ?_)
     have hs : Sep [sl3 (L a3 x1 c3) x6, BX b1 83 [I x11.2.c.Inputs, L a10 x11.2.c.Gates c10, .map (some b2), .bool x11.2.full], sl59 (L a10 x11.2.c.Gates c10) x11.2.c.Gates, MP map81 b2 x11.2.line] w9 S9 := Sep.pick [3, 0, 1, 2] hs (by decide) rfl
     exact ⟨_, (Option.some.inj h).symm, a10, c10, S9, _, hF.sub _ (by kernel_rfl), hM1, hs⟩
   replace h := iteF hb h
   refine (wp_exit (then_exit (then_exit (blk_exit_eq ?_))))
   obtain rfl := hr1 _ (Option.some.inj h).symm
   exact then_normal ⟨a4, c4, S2, _, hF.sub _ (by kernel_rfl), hM1, hs⟩
 · obtain ⟨a5, c5, S3, F2, hF, hMx, hs⟩ := hM
   have hM0 := hM0.trans hMx
   refine wp_seq (wp_pure [(8, L a3 x1 c3), (9, I rl1.1)] hF (by kernel_rfl) fun fr hF => then_normal ?_)
   have hrets := fun {σ : List (Nat × Value)} (h : σ = [(8, L a3 x1 c3), (9, I rl1.1)]) => (by subst h; exact (Rets.tmp rfl (Rets.tmp rfl Rets.nil)) : Rets Try.prog σ w1o [.tmp 8, .tmp 9] [L a3 x1 c3, I rl1.1])
   obtain rfl := Option.some.inj h
   obtain ⟨he1, hs⟩ := hs.relen 0 rfl
   have hs : Sep [sl3 (L a3 rl1.2.1 c3) rl1.2.1, BX b1 83 [I rl1.2.2.1, L a5 rl1.2.2.2.2.1 c5, .map (some b2), .bool rl1.2.2.2.1], sl59 (L a5 rl1.2.2.2.2.1 c5) rl1.2.2.2.2.1, MP map81 b2 rl1.2.2.2.2.2] w1o S3 := hs
   exact wp_ret (retG (rs := [.tmp 8, .tmp 9]) rfl (hF.sub [(8, L a3 x1 c3), (9, I rl1.1)] (by kernel_rfl)) (hrets rfl) rfl ⟨_, rfl, a3, c3, a5, c5, (by simp only [L, he1]; rfl), S3, hM0.out, hs⟩)

theorem impl_opposites_ok (n : Nat) (p0 : List Int) {r : (List Int)} (h : impl_opposites n p0 = some r) {w : World} {G0 : Nat → Prop} {va0 : Value} (ra0 : RV w G0 va0 p0) :
   Calls Try.prog 95 [va0].toArray w fun e w' => ∃ v, e = .returned v ∧ ∃ a1 c1, v = L a1 r c1 ∧ ∃ S', Stp w Non w' S' ∧ Sep [sl3 (L a1 r c1) r] w' S' := by
 unfold impl_opposites at h
 have hs := Sep.nil w Non
 have hM0 : Mem w Non (fun k => (G0 k) ∧ k < w.heap.size) w Non (fun k => (G0 k) ∧ k < w.heap.size) := Mem.start (fun _ h => h.elim) (fun _ h => h.2) (fun _ h => h.elim)
 have ra0 := ra0.sub (F' := (fun k => (G0 k) ∧ k < w.heap.size)) (fun k hk h => ⟨h, hk⟩)
 obtain ⟨a1, c1, rfl, -⟩ := ra0.slice
 refine enter (N := 23) Try.func95 rfl Try.ntmps95 rfl fun fr hF => ?_
 refine wp_seq (wp_pure [(0, L a1 p0 c1)] hF (by kernel_rfl) fun fr hF => then_normal ?_)
 refine wp_seq (wp_text' ?_)
 refine from_pure 2 [(0, L a1 p0 c1), (7, I (len p0))] hF (by kernel_rfl) fun fr hF => ?_
 obtain ⟨x1, hx1, h⟩ := bindE h
 refine q_make hs hM0 Try.underlying37 el3 (zero_flat _ (by kernel_rfl)) rfl rfl hF rfl rfl hx1 fun a2 c2 w1 S1 fr hs hp hF => ?_
 have ra0 := ra0.stp hM0 hp
 have hM0 := hM0.stp hp
 have hs : Sep [sl3 (L a2 x1 c2) x1] w1 S1 := hs
 refine from_pure 1 [(0, L a1 p0 c1), (3, L a2 x1 c2)] hF (by kernel_rfl) fun fr hF => ?_
 refine from_end rfl (then_normal ?_)
 refine wp_seq ?_
 refine wp_seq (wp_pure [(3, L a2 x1 c2), (9, L a1 p0 c1), (10, I (len p0)), (11, I 0)] hF (by kernel_rfl) fun fr hF => then_normal ?_)
 obtain ⟨rl1, hit1, h⟩ := bindE h
 have hk1 := h
 refine (wp_cut (M := fun fr w' => ∃ S3 F2, FrS 23 [(3, L a2 x1 c2)] fr ∧ Mem w1 S1 (fun k => (G0 k) ∧ k < w.heap.size) w' S3 F2 ∧ Sep [sl3 (L a2 x1 c2) rl1] w' S3) (wp_block (wp_iter (Inv := fun s1 fr w' => ∃ S2 F1, FrS 23 [(3, L a2 x1 c2), (9, L a1 p0 c1), (10, I (len p0)), (11, I s1.1)] fr ∧ Mem w1 S1 (fun k => (G0 k) ∧ k < w.heap.size) w' S2 F1 ∧ Sep [sl3 (L a2 x1 c2) s1.2] w' S2) hit1 ⟨S1, _, hF.sub _ (by kernel_rfl), (Mem.start hM0.bd hM0.bdF hM0.dj), hs⟩ fun s1 q1 fr w1i hI h hr1 => ?_)) fun fr w1o hM => ?_)
 · obtain ⟨S2, F1, hF, hM1, hs⟩ := hI
   have ra0 := ra0.mem hM1
   refine wp_seq (wp_pure [(3, L a2 x1 c2), (9, L a1 p0 c1), (10, I (len p0)), (11, I s1.1), (12, .bool (decide (s1.1 < (len p0))))] hF (by kernel_rfl) fun fr hF => then_normal ?_)
   refine wp_seq (wp_if hF (b := (decide (s1.1 < (len p0)))) rfl (fun hb => ?_) (fun hb => ?_))
   · replace h := iteT hb h
     refine (wp_skip (then_normal ?_))
     refine wp_seq (wp_block ?_)
     refine wp_seq (wp_text' ?_)
     refine from_pure 1 [(3, L a2 x1 c2), (9, L a1 p0 c1), (10, I (len p0)), (11, I s1.1), (13, I s1.1)] hF (by kernel_rfl) fun fr hF => ?_
     obtain ⟨x2, hx2, h⟩ := bindE h
     refine s_elemF (z := x2) (I x2) ty3 Try.underlying37 rfl rfl rfl rfl rfl hF rfl (ra0) rfl (get?_nn hx2) (get?_at hx2) rfl fun p fr hF => ?_
     refine from_pure 2 [(3, L a2 x1 c2), (4, I s1.1), (5, I x2), (9, L a1 p0 c1), (10, I (len p0)), (11, I s1.1)] hF (by kernel_rfl) fun fr hF => ?_
     refine from_end rfl (then_normal ?_)
     refine (wp_text' ?_)
     refine from_pure 4 [(3, L a2 x1 c2), (9, L a1 p0 c1), (10, I (len p0)), (11, I s1.1), (16, L a2 x1 c2), (17, I s1.1), (19, I (w64 (0 - x2)))] hF (by kernel_rfl) fun fr hF => ?_
     obtain ⟨x3, hx3, h⟩ := bindE h
     refine q_set (q := (w64 (0 - x2))) 0 hs hM1 rfl Try.underlying37 ty3 rfl rfl rfl rfl hF rfl rfl (by simp) rfl rfl hx3 fun w2 S4 fr _ hs hp hF => ?_
     have ra0 := ra0.stp hM1 hp
     have hM1 := hM1.stp hp
     have hs : Sep [sl3 (L a2 x1 c2) x3] w2 S4 := hs
     refine from_end rfl ?_
     refine blk_normal (then_normal ?_)
     refine (wp_pure [(3, L a2 x1 c2), (9, L a1 p0 c1), (10, I (len p0)), (11, I (w64 (s1.1 + 1)))] hF (by kernel_rfl) fun fr hF => then_normal ?_)
     exact ⟨_, (Option.some.inj h).symm, S4, _, hF.sub _ (by kernel_rfl), hM1, hs⟩
   replace h := iteF hb h
   refine (wp_exit (then_exit (then_exit (blk_exit_eq ?_))))
   obtain rfl := hr1 _ (Option.some.inj h).symm
   exact then_normal ⟨S2, _, hF.sub _ (by kernel_rfl), hM1, hs⟩
 · obtain ⟨S3, F2, hF, hMx, hs⟩ := hM
   have hM0 := hM0.trans hMx
   refine wp_seq (wp_pure [(2, L a2 x1 c2)] hF (by kernel_rfl) fun fr hF => then_normal ?_)
   obtain rfl := Option.some.inj h
   obtain ⟨he1, hs⟩ := hs.relen 0 rfl
   have hs : Sep [sl3 (L a2 rl1 c2) rl1] w1o S3 := hs
   exact wp_ret (ret1 rfl hF rfl ⟨_, rfl, a2, c2, (by simp only [L, he1]), S3, hM0.out, hs⟩)

theorem impl_numberOf_ok (n : Nat) (p0 : Int) (p1 : Int) {r : (List Int)} (h : impl_numberOf n p0 p1 = some r) {w : World} :
   Calls Try.prog 107 [I p0, I p1].toArray w fun e w' => ∃ v, e = .returned v ∧ ∃ a1 c1, v = L a1 r c1 ∧ ∃ S', Stp w Non w' S' ∧ Sep [sl3 (L a1 r c1) r] w' S' := by
 unfold impl_numberOf at h
 have hs := Sep.nil w Non
 have hM0 : Mem w Non (fun k => (False) ∧ k < w.heap.size) w Non (fun k => (False) ∧ k < w.heap.size) := Mem.start (fun _ h => h.elim) (fun _ h => h.2) (fun _ h => h.elim)
 refine enter (N := 28) Try.func107 rfl Try.ntmps107 rfl fun fr hF => ?_
 refine wp_seq (wp_pure [(0, I p0), (1, I p1)] hF (by kernel_rfl) fun fr hF => then_normal ?_)
 refine wp_seq (wp_text' ?_)
 refine from_pure 1 [(1, I p1), (7, I p0)] hF (by kernel_rfl) fun fr hF => ?_
 obtain ⟨x1, hx1, h⟩ := bindE h
 refine q_make hs hM0 Try.underlying37 el3 (zero_flat _ (by kernel_rfl)) rfl rfl hF rfl rfl hx1 fun a1 c1 w1 S1 fr hs hp hF => ?_
 have hM0 := hM0.stp hp
 have hs : Sep [sl3 (L a1 x1 c1) x1] w1 S1 := hs
 refine from_pure 1 [(1, I p1), (5, L a1 x1 c1)] hF (by kernel_rfl) fun fr hF => ?_
 refine from_end rfl (then_normal ?_)
 refine wp_seq ?_
 refine wp_seq (wp_pure [(1, I p1), (5, L a1 x1 c1), (10, I (len x1)), (11, I 0)] hF (by kernel_rfl) fun fr hF => then_normal ?_)
 obtain ⟨rl1, hit1, h⟩ := bindE h
 have hk1 := h
 refine (wp_cut (M := fun fr w' => ∃ S3 F2, FrS 28 [(5, L a1 x1 c1)] fr ∧ Mem w1 S1 (fun k => (False) ∧ k < w.heap.size) w' S3 F2 ∧ Sep [sl3 (L a1 x1 c1) rl1] w' S3) (wp_block (wp_iter (Inv := fun s1 fr w' => ∃ S2 F1, FrS 28 [(1, I p1), (5, L a1 x1 c1), (10, I (len x1)), (11, I s1.1)] fr ∧ Mem w1 S1 (fun k => (False) ∧ k < w.heap.size) w' S2 F1 ∧ Sep [sl3 (L a1 x1 c1) s1.2] w' S2) hit1 ⟨S1, _, hF.sub _ (by kernel_rfl), (Mem.start hM0.bd hM0.bdF hM0.dj), hs⟩ fun s1 q1 fr w1i hI h hr1 => ?_)) fun fr w1o hM => ?_)
 · obtain ⟨S2, F1, hF, hM1, hs⟩ := hI
   refine wp_seq (wp_pure [(1, I p1), (5, L a1 x1 c1), (10, I (len x1)), (11, I s1.1), (12, .bool (decide (s1.1 < (len x1))))] hF (by kernel_rfl) fun fr hF => then_normal ?_)
   refine wp_seq (wp_if hF (b := (decide (s1.1 < (len x1)))) rfl (fun hb => ?_) (fun hb => ?_))
   · replace h := iteT hb h
     refine (wp_skip (then_normal ?_))
     refine wp_seq (wp_block ?_)
     refine wp_seq (wp_pure [(1, I p1), (5, L a1 x1 c1), (6, I s1.1), (10, I (len x1)), (11, I s1.1)] hF (by kernel_rfl) fun fr hF => then_normal ?_)
     refine wp_seq (wp_text' ?_)
     refine from_pure 2 [(1, I p1), (5, L a1 x1 c1), (6, I s1.1), (10, I (len x1)), (11, I s1.1), (14, L a1 x1 c1), (15, I s1.1)] hF (by kernel_rfl) fun fr hF => ?_
     obtain ⟨x2, hx2, h⟩ := bindE h
     refine q_set (q := (-1)) 0 hs hM1 rfl Try.underlying37 ty3 rfl rfl rfl rfl hF rfl rfl (by simp) rfl rfl hx2 fun w2 S4 fr _ hs hp hF => ?_
     have hM1 := hM1.stp hp
     have hs : Sep [sl3 (L a1 x1 c1) x2] w2 S4 := hs
     refine from_end rfl (then_normal ?_)
     refine wp_seq (wp_text' ?_)
     refine from_pure 3 [(1, I p1), (5, L a1 x1 c1), (6, I s1.1), (10, I (len x1)), (11, I s1.1), (17, I p1), (19, .int .u64 (IntKind.u64.wrap s1.1))] hF (by kernel_rfl) fun fr hF => ?_
     obtain ⟨x3, hx3, h⟩ := bindE h
     refine s_shr rfl rfl hF rfl rfl hx3 fun fr hF => ?_
     refine from_pure 2 [(1, I p1), (5, L a1 x1 c1), (6, I s1.1), (10, I (len x1)), (11, I s1.1), (22, .bool ((band x3 1) == 1))] hF (by kernel_rfl) fun fr hF => ?_
     refine from_end rfl (then_normal ?_)
     refine (wp_if hF (b := ((band x3 1) == 1)) rfl (fun hb => ?_) (fun hb => ?_))
     · replace h := iteT hb h
       refine (wp_text' ?_)
       refine from_pure 2 [(1, I p1), (5, L a1 x1 c1), (10, I (len x1)), (11, I s1.1), (23, L a1 x1 c1), (24, I s1.1)] hF (by kernel_rfl) fun fr hF => ?_
       obtain ⟨x4, hx4, h⟩ := bindE h
       refine q_set (q := 1) 0 hs hM1 rfl Try.underlying37 ty3 rfl rfl rfl rfl hF rfl rfl (by simp) rfl rfl hx4 fun w3 S5 fr _ hs hp hF => ?_
       have hM1 := hM1.stp hp
       have hs : Sep [sl3 (L a1 x1 c1) x4] w3 S5 := hs
       refine from_end rfl ?_
       refine blk_normal (then_normal ?_)
       refine (wp_pure [(1, I p1), (5, L a1 x1 c1), (10, I (len x1)), (11, I (w64 (s1.1 + 1)))] hF (by kernel_rfl) fun fr hF => then_normal ?_)
       exact ⟨_, (Option.some.inj h).symm, S5, _, hF.sub _ (by kernel_rfl), hM1, hs⟩
     replace h := iteF hb h
     refine (wp_skip ?_)
     refine blk_normal (then_normal ?_)
     refine (wp_pure [(1, I p1), (5, L a1 x1 c1), (10, I (len x1)), (11, I (w64 (s1.1 + 1)))] hF (by kernel_rfl) fun fr hF => then_normal ?_)
     exact ⟨_, (Option.some.inj h).symm, S4, _, hF.sub _ (by kernel_rfl), hM1, hs⟩
   replace h := iteF hb h
   refine (wp_exit (then_exit (then_exit (blk_exit_eq ?_))))
   obtain rfl := hr1 _ (Option.some.inj h).symm
   exact then_normal ⟨S2, _, hF.sub _ (by kernel_rfl), hM1, hs⟩
 · obtain ⟨S3, F2, hF, hMx, hs⟩ := hM
   have hM0 := hM0.trans hMx
   refine wp_seq (wp_pure [(4, L a1 x1 c1)] hF (by kernel_rfl) fun fr hF => then_normal ?_)
   obtain rfl := Option.some.inj h
   obtain ⟨he1, hs⟩ := hs.relen 0 rfl
   have hs : Sep [sl3 (L a1 rl1 c1) rl1] w1o S3 := hs
   exact wp_ret (ret1 rfl hF rfl ⟨_, rfl, a1, c1, (by simp only [L, he1]), S3, hM0.out, hs⟩)

theorem impl_builder_multiply_ok (n : Nat) (p0 : D.builder) (p1 : List Int) (p2 : List Int) {r : (List Int) × D.builder} (h : impl_builder_multiply n p0 p1 p2 = some r) {w : World} {S0 F0 : Nat → Prop} {pa0 : Option Addr} {pn0 pc0 : Nat} {b1 : Nat} {b2 : Nat} (hs : Sep [BX b1 83 [I p0.c.Inputs, .slice pa0 pn0 pc0, .map (some b2), .bool p0.full], sl59 (.slice pa0 pn0 pc0) p0.c.Gates, MP map81 b2 p0.line] w S0) (hb : ∀ k, S0 k → k < w.heap.size) (hd : ∀ k, S0 k → F0 k → False) {va1 : Value} (ra1 : RV w F0 va1 p1) {va2 : Value} (ra2 : RV w F0 va2 p2) :
   Calls Try.prog 96 [B b1 0, va1, va2].toArray w fun e w' => ∃ v, e = .returned v ∧ ∃ a1 c1 a2 c2, v = L a1 r.1 c1 ∧ ∃ S', Stp w S0 w' S' ∧ Sep [sl3 (L a1 r.1 c1) r.1, BX b1 83 [I r.2.c.Inputs, L a2 r.2.c.Gates c2, .map (some b2), .bool r.2.full], sl59 (L a2 r.2.c.Gates c2) r.2.c.Gates, MP map81 b2 r.2.line] w' S' := by
 unfold impl_builder_multiply at h
 obtain ⟨hpn, hs⟩ := hs.relen 1 rfl
 subst hpn
 have hs : Sep [BX b1 83 [I p0.c.Inputs, L pa0 p0.c.Gates pc0, .map (some b2), .bool p0.full], sl59 (L pa0 p0.c.Gates pc0) p0.c.Gates, MP map81 b2 p0.line] w S0 := hs
 have hM0 : Mem w S0 (fun k => F0 k ∧ k < w.heap.size) w S0 (fun k => F0 k ∧ k < w.heap.size) := Mem.start hb (fun _ h => h.2) (fun k h1 h2 => hd k h1 h2.1)
 have ra1 := ra1.sub (F' := (fun k => F0 k ∧ k < w.heap.size)) (fun k hk h => ⟨h, hk⟩)
 obtain ⟨a1, c1, rfl, -⟩ := ra1.slice
 have ra2 := ra2.sub (F' := (fun k => F0 k ∧ k < w.heap.size)) (fun k hk h => ⟨h, hk⟩)
 obtain ⟨a2, c2, rfl, -⟩ := ra2.slice
 refine enter (N := 62) Try.func96 rfl Try.ntmps96 rfl fun fr hF => ?_
 refine wp_seq (wp_pure [(0, B b1 0), (1, L a1 p1 c1), (2, L a2 p2 c2)] hF (by kernel_rfl) fun fr hF => then_normal ?_)
 refine wp_seq (wp_pure [(0, B b1 0), (1, L a1 p1 c1), (2, L a2 p2 c2), (7, I (len p1))] hF (by kernel_rfl) fun fr hF => then_normal ?_)
 refine wp_seq (wp_text' ?_)
 refine from_pure 1 [(0, B b1 0), (1, L a1 p1 c1), (2, L a2 p2 c2), (7, I (len p1)), (16, I (len p1))] hF (by kernel_rfl) fun fr hF => ?_
 obtain ⟨x1, hx1, h⟩ := bindE h
 refine s_call [I (len p1), I 0] Try.call107 rfl rfl hF rfl (impl_numberOf_ok n (len p1) 0 hx1) fun v w1 fr hRes hF => ?_
 obtain ⟨a3, c3, rfl, _, hp, hs2⟩ := hRes
 obtain ⟨S1, hp, hs⟩ := hs.got hM0 hp hs2
 have ra1 := ra1.stp hM0 hp
 have ra2 := ra2.stp hM0 hp
 have hM0 := hM0.stp hp
 have hs : Sep [sl3 (L a3 x1 c3) x1, BX b1 83 [I p0.c.Inputs, L pa0 p0.c.Gates pc0, .map (some b2), .bool p0.full], sl59 (L pa0 p0.c.Gates pc0) p0.c.Gates, MP map81 b2 p0.line] w1 S1 := hs
 refine from_pure 1 [(0, B b1 0), (1, L a1 p1 c1), (2, L a2 p2 c2), (7, I (len p1)), (8, L a3 x1 c3)] hF (by kernel_rfl) fun fr hF => ?_
 refine from_end rfl (then_normal ?_)
 refine wp_seq ?_
 refine wp_seq (wp_pure [(0, B b1 0), (1, L a1 p1 c1), (2, L a2 p2 c2), (7, I (len p1)), (8, L a3 x1 c3), (19, I (len p2)), (20, I 0)] hF (by kernel_rfl) fun fr hF => then_normal ?_)
 obtain ⟨rl1, hit1, h⟩ := bindE h
 have hk1 := h
 refine (wp_cut (M := fun fr w' => ∃ a5 c5 S3 F2, FrS 62 [(8, L a3 x1 c3)] fr ∧ Mem w1 S1 (fun k => F0 k ∧ k < w.heap.size) w' S3 F2 ∧ Sep [sl3 (L a3 x1 c3) rl1.1, BX b1 83 [I rl1.2.1, L a5 rl1.2.2.2.1 c5, .map (some b2), .bool rl1.2.2.1], sl59 (L a5 rl1.2.2.2.1 c5) rl1.2.2.2.1, MP map81 b2 rl1.2.2.2.2] w' S3) (wp_block (wp_iter (Inv := fun s1 fr w' => ∃ a4 c4 S2 F1, FrS 62 [(0, B b1 0), (1, L a1 p1 c1), (2, L a2 p2 c2), (7, I (len p1)), (8, L a3 x1 c3), (19, I (len p2)), (20, I s1.1)] fr ∧ Mem w1 S1 (fun k => F0 k ∧ k < w.heap.size) w' S2 F1 ∧ Sep [sl3 (L a3 x1 c3) s1.2.1, BX b1 83 [I s1.2.2.1, L a4 s1.2.2.2.2.1 c4, .map (some b2), .bool s1.2.2.2.1], sl59 (L a4 s1.2.2.2.2.1 c4) s1.2.2.2.2.1, MP map81 b2 s1.2.2.2.2.2] w' S2) hit1 ⟨pa0, pc0, S1, _, hF.sub _ (by kernel_rfl), (Mem.start hM0.bd hM0.bdF hM0.dj), hs⟩ fun s1 q1 fr w1i hI h hr1 => ?_)) fun fr w1o hM => ?_)
 · obtain ⟨a4, c4, S2, F1, hF, hM1, hs⟩ := hI
   have ra1 := ra1.mem hM1
   have ra2 := ra2.mem hM1
   refine wp_seq (wp_pure [(0, B b1 0), (1, L a1 p1 c1), (2, L a2 p2 c2), (7, I (len p1)), (8, L a3 x1 c3), (19, I (len p2)), (20, I s1.1), (21, .bool (decide (s1.1 < (len p2))))] hF (by kernel_rfl) fun fr hF => then_normal ?_)
   refine wp_seq (wp_if hF (b := (decide (s1.1 < (len p2)))) rfl (fun hb => ?_) (fun hb => ?_))
   · replace h := iteT hb h
     refine (wp_skip (then_normal ?_))
     refine wp_seq (wp_block ?_)
     refine wp_seq (wp_pure [(0, B b1 0), (1, L a1 p1 c1), (2, L a2 p2 c2), (7, I (len p1)), (8, L a3 x1 c3), (9, I s1.1), (19, I (len p2)), (20, I s1.1)] hF (by kernel_rfl) fun fr hF => then_normal ?_)
     refine wp_seq (wp_text' ?_)
     refine from_pure 3 [(0, B b1 0), (1, L a1 p1 c1), (2, L a2 p2 c2), (7, I (len p1)), (8, L a3 x1 c3), (9, I s1.1), (19, I (len p2)), (20, I s1.1), (25, I (w64 ((len p1) - s1.1)))] hF (by kernel_rfl) fun fr hF => ?_
     obtain ⟨x2, hx2, h⟩ := bindE h
     refine q_make hs hM1 Try.underlying37 el3 (zero_flat _ (by kernel_rfl)) rfl rfl hF rfl rfl hx2 fun a6 c6 w2 S4 fr hs hp hF => ?_
     have ra1 := ra1.stp hM1 hp
     have ra2 := ra2.stp hM1 hp
     have hM1 := hM1.stp hp
     have hs : Sep [sl3 (L a6 x2 c6) x2, sl3 (L a3 x1 c3) s1.2.1, BX b1 83 [I s1.2.2.1, L a4 s1.2.2.2.2.1 c4, .map (some b2), .bool s1.2.2.2.1], sl59 (L a4 s1.2.2.2.2.1 c4) s1.2.2.2.2.1, MP map81 b2 s1.2.2.2.2.2] w2 S4 := hs
     refine from_pure 1 [(0, B b1 0), (1, L a1 p1 c1), (2, L a2 p2 c2), (7, I (len p1)), (8, L a3 x1 c3), (9, I s1.1), (10, L a6 x2 c6), (19, I (len p2)), (20, I s1.1)] hF (by kernel_rfl) fun fr hF => ?_
     refine from_end rfl (then_normal ?_)
     refine wp_seq ?_
     refine wp_seq (wp_pure [(0, B b1 0), (1, L a1 p1 c1), (2, L a2 p2 c2), (7, I (len p1)), (8, L a3 x1 c3), (9, I s1.1), (10, L a6 x2 c6), (19, I (len p2)), (20, I s1.1), (28, I (len x2)), (29, I 0)] hF (by kernel_rfl) fun fr hF => then_normal ?_)
     obtain ⟨rl2, hit2, h⟩ := bindE h
     have hk2 := h
     refine (wp_cut (M := fun fr w' => ∃ a8 c8 S6 F4, FrS 62 [(0, B b1 0), (1, L a1 p1 c1), (2, L a2 p2 c2), (7, I (len p1)), (8, L a3 x1 c3), (9, I s1.1), (10, L a6 x2 c6), (19, I (len p2)), (20, I s1.1)] fr ∧ Mem w2 S4 F1 w' S6 F4 ∧ Sep [sl3 (L a6 x2 c6) rl2.1, sl3 (L a3 x1 c3) s1.2.1, BX b1 83 [I rl2.2.1, L a8 rl2.2.2.2.1 c8, .map (some b2), .bool rl2.2.2.1], sl59 (L a8 rl2.2.2.2.1 c8) rl2.2.2.2.1, MP map81 b2 rl2.2.2.2.2] w' S6) (wp_block (wp_iter (Inv := fun s2 fr w' => ∃ a7 c7 S5 F3, FrS 62 [(0, B b1 0), (1, L a1 p1 c1), (2, L a2 p2 c2), (7, I (len p1)), (8, L a3 x1 c3), (9, I s1.1), (10, L a6 x2 c6), (19, I (len p2)), (20, I s1.1), (28, I (len x2)), (29, I s2.1)] fr ∧ Mem w2 S4 F1 w' S5 F3 ∧ Sep [sl3 (L a6 x2 c6) s2.2.1, sl3 (L a3 x1 c3) s1.2.1, BX b1 83 [I s2.2.2.1, L a7 s2.2.2.2.2.1 c7, .map (some b2), .bool s2.2.2.2.1], sl59 (L a7 s2.2.2.2.2.1 c7) s2.2.2.2.2.1, MP map81 b2 s2.2.2.2.2.2] w' S5) hit2 ⟨a4, c4, S4, _, hF.sub _ (by kernel_rfl), (Mem.start hM1.bd hM1.bdF hM1.dj), hs⟩ fun s2 q2 fr w2i hI h hr2 => ?_)) fun fr w2o hM => ?_)
     · obtain ⟨a7, c7, S5, F3, hF, hM2, hs⟩ := hI
       have ra1 := ra1.mem hM2
       have ra2 := ra2.mem hM2
       refine wp_seq (wp_pure [(0, B b1 0), (1, L a1 p1 c1), (2, L a2 p2 c2), (7, I (len p1)), (8, L a3 x1 c3), (9, I s1.1), (10, L a6 x2 c6), (19, I (len p2)), (20, I s1.1), (28, I (len x2)), (29, I s2.1), (30, .bool (decide (s2.1 < (len x2))))] hF (by kernel_rfl) fun fr hF => then_normal ?_)
       refine wp_seq (wp_if hF (b := (decide (s2.1 < (len x2)))) rfl (fun hb => ?_) (fun hb => ?_))
       · replace h := iteT hb h
         refine (wp_skip (then_normal ?_))
         refine wp_seq (wp_block ?_)
         refine wp_seq (wp_pure [(0, B b1 0), (1, L a1 p1 c1), (2, L a2 p2 c2), (7, I (len p1)), (8, L a3 x1 c3), (9, I s1.1), (10, L a6 x2 c6), (11, I s2.1), (19, I (len p2)), (20, I s1.1), (28, I (len x2)), (29, I s2.1)] hF (by kernel_rfl) fun fr hF => then_normal ?_)
         refine (wp_ra mix ?_)
         refine ra_hoist 1 (by kernel_rfl) (fun _ _ _ _ _ h => h) ?_
         refine ra_hoist 0 (by kernel_rfl) (fun _ _ _ _ _ h => h) ?_
         obtain ⟨x3, hx3, h⟩ := bindE h
         obtain ⟨x4, hx4, h⟩ := bindE h
         refine (ra_bm 11 [0, 1, 3, 3, 3, 27, 59, 3, 3, 387, 899, 2047, 4095, 8191] [true, true, true, true, true, false, false, true, true, false, false]
             [.eq (L a6 x2 c6), .eq (I s2.1), .eq (B b1 0), .eq (L a2 p2 c2), .eq (I s1.1), .is fun v w => ElemP w (fun k => k < w2i.heap.size) v (x3 : Int), .eq (I x3), .eq (L a1 p1 c1), .eq (I s2.1), .is fun v w => ElemP w (fun k => k < w2i.heap.size) v (x4 : Int), .eq (I x4), .any, .any, .any]
             [(0, B b1 0), (1, L a1 p1 c1), (2, L a2 p2 c2), (7, I (len p1)), (8, L a3 x1 c3), (9, I s1.1), (10, L a6 x2 c6), (19, I (len p2)), (20, I s1.1), (28, I (len x2)), (29, I s2.1), (32, L a6 x2 c6), (33, I s2.1), (34, B b1 0), (38, I x3), (42, I x4)] hF (by kernel_rfl) (by kernel_rfl) (by kernel_rfl) (by kernel_rfl) ⟨(Pd.monoO_is mono_elem), Pd.monoO_eq, (Pd.monoO_is mono_elem), Pd.monoO_eq, trivial⟩ (fun ow hG => ⟨np_to ow (np_index hG hF ty3 Try.underlying37 rfl rfl (RV.sub (ra2) fun k hk _ => hk) rfl rfl (fun hg => ⟨get?_nn hx3, get?_at hx3⟩)), np_to ow (np_loadF (z := x3) (i := 5) hG hF ty3 rfl rfl rfl rfl rfl rfl rfl), np_to ow (np_index hG hF ty3 Try.underlying37 rfl rfl (RV.sub (ra1) fun k hk _ => hk) rfl rfl (fun hg => ⟨get?_nn hx4, get?_at hx4⟩)), np_to ow (np_loadF (z := x4) (i := 9) hG hF ty3 rfl rfl rfl rfl rfl rfl rfl), trivial⟩) (by kernel_rfl) fun ow fr w3 hF hE hc => ?_)
         have ra1 := ra1.ext hc
         have ra2 := ra2.ext hc
         have hs := hs.ext hc
         have hM2 := hM2.ext hc
         obtain ⟨x5, hx5, h⟩ := bindE h
         have hs : Sep [BX b1 83 [I s2.2.2.1, L a7 s2.2.2.2.2.1 c7, .map (some b2), .bool s2.2.2.2.1], sl59 (L a7 s2.2.2.2.2.1 c7) s2.2.2.2.2.1, MP map81 b2 s2.2.2.2.2.2, sl3 (L a6 x2 c6) s2.2.1, sl3 (L a3 x1 c3) s1.2.1] w3 S5 := Sep.pick [2, 3, 4, 0, 1] hs (by decide) rfl
         obtain ⟨A1, R1, hsA, hsR, hdA, hbA, hup⟩ := Sep.call (L1 := [BX b1 83 [I s2.2.2.1, L a7 s2.2.2.2.2.1 c7, .map (some b2), .bool s2.2.2.2.1], sl59 (L a7 s2.2.2.2.2.1 c7) s2.2.2.2.2.1, MP map81 b2 s2.2.2.2.2.2]) (L2 := [sl3 (L a6 x2 c6) s2.2.1, sl3 (L a3 x1 c3) s1.2.1]) hs hM2
         refine s_call [B b1 0, I x3, I x4] Try.call51 rfl rfl hF rfl (impl_builder_and_ok (D.builder.mk (D.Circuit.mk s2.2.2.1 s2.2.2.2.2.1) s2.2.2.2.2.2 s2.2.2.2.1) x3 x4 hx5 hsA hbA hdA) fun v w4 fr hRes hF => ?_
         obtain ⟨a9, c9, rfl, _, hp, hs⟩ := hRes
         obtain ⟨S7, hp, hs⟩ := hup hp hs
         have ra1 := ra1.stp hM2 hp
         have ra2 := ra2.stp hM2 hp
         have hM2 := hM2.stp hp
         have hs : Sep [BX b1 83 [I x5.2.c.Inputs, L a9 x5.2.c.Gates c9, .map (some b2), .bool x5.2.full], sl59 (L a9 x5.2.c.Gates c9) x5.2.c.Gates, MP map81 b2 x5.2.line, sl3 (L a6 x2 c6) s2.2.1, sl3 (L a3 x1 c3) s1.2.1] w4 S7 := hs
         obtain ⟨x6, hx6, h⟩ := bindE h
         refine q_set (q := x5.1) 3 hs hM2 rfl Try.underlying37 ty3 rfl rfl rfl rfl hF rfl rfl (by simp) rfl rfl hx6 fun w5 S8 fr _ hs hp hF => ?_
         have ra1 := ra1.stp hM2 hp
         have ra2 := ra2.stp hM2 hp
         have hM2 := hM2.stp hp
         have hs : Sep [BX b1 83 [I x5.2.c.Inputs, L a9 x5.2.c.Gates c9, .map (some b2), .bool x5.2.full], sl59 (L a9 x5.2.c.Gates c9) x5.2.c.Gates, MP map81 b2 x5.2.line, sl3 (L a6 x2 c6) x6, sl3 (L a3 x1 c3) s1.2.1] w5 S8 := hs
         refine from_end rfl ?_
         refine blk_normal (then_normal ?_)
         refine (wp_pure [(0, B b1 0), (1, L a1 p1 c1), (2, L a2 p2 c2), (7, I (len p1)), (8, L a3 x1 c3), (9, I s1.1), (10, L a6 x2 c6), (19, I (len p2)), (20, I s1.1), (28, I (len x2)), (29, I (w64 (s2.1 + 1)))] hF (by kernel_rfl) fun fr hF => then_normal ?_)
         have hs : Sep [sl3 (L a6 x2 c6) x6, sl3 (L a3 x1 c3) s1.2.1, BX b1 83 [I x5.2.c.Inputs, L a9 x5.2.c.Gates c9, .map (some b2), .bool x5.2.full], sl59 (L a9 x5.2.c.Gates c9) x5.2.c.Gates, MP map81 b2 x5.2.line] w5 S8 := Sep.pick [3, 4, 0, 1, 2] hs (by decide) rfl
         exact ⟨_, (Option.some.inj h).symm, a9, c9, S8, _, hF.sub _ (by kernel_rfl), hM2, hs⟩
       replace h := iteF hb h
       refine (wp_exit (then_exit (then_exit (blk_exit_eq ?_))))
       obtain rfl := hr2 _ (Option.some.inj h).symm
       exact then_normal ⟨a7, c7, S5, _, hF.sub _ (by kernel_rfl), hM2, hs⟩
     · obtain ⟨a8, c8, S6, F4, hF, hMx, hs⟩ := hM
       have ra1 := ra1.mem hMx
       have ra2 := ra2.mem hMx
       have hM1 := hM1.trans hMx
       refine wp_seq (wp_text' ?_)
       refine from_pure 3 [(0, B b1 0), (1, L a1 p1 c1), (2, L a2 p2 c2), (7, I (len p1)), (8, L a3 x1 c3), (9, I s1.1), (10, L a6 x2 c6), (19, I (len p2)), (20, I s1.1), (47, B b1 0), (48, L a3 x1 c3), (49, I s1.1)] hF (by kernel_rfl) fun fr hF => ?_
       obtain ⟨x7, hx7, h⟩ := bindE h
       refine s_view ty3 Try.underlying37 rfl rfl hF rfl (hs.rv 1 rfl) ⟨_, rfl⟩ (by have h1 := (hs.relen 1 rfl).1; show len x1 = ((List.length s1.2.1 : Nat) : Int); unfold len; omega) hx7 fun a10 c10 fr hv1 hle1 hF => ?_
       have hle1 := (show (s1.1).toNat + List.length x7 ≤ List.length x1 by have h1 := (hs.relen 1 rfl).1; omega)
       refine from_pure 1 [(0, B b1 0), (1, L a1 p1 c1), (2, L a2 p2 c2), (7, I (len p1)), (8, L a3 x1 c3), (9, I s1.1), (19, I (len p2)), (20, I s1.1), (47, B b1 0), (50, L a10 x7 c10), (51, L a6 x2 c6)] hF (by kernel_rfl) fun fr hF => ?_
       obtain ⟨x8, hx8, h⟩ := bindE h
       have hs : Sep [BX b1 83 [I rl2.2.1, L a8 rl2.2.2.2.1 c8, .map (some b2), .bool rl2.2.2.1], sl59 (L a8 rl2.2.2.2.1 c8) rl2.2.2.2.1, MP map81 b2 rl2.2.2.2.2, sl3 (L a6 x2 c6) rl2.1, sl3 (L a3 x1 c3) s1.2.1] w2o S6 := Sep.pick [2, 3, 4, 0, 1] hs (by decide) rfl
       obtain ⟨A2, R2, hsA, hsR, hdA, hbA, hup⟩ := Sep.call (L1 := [BX b1 83 [I rl2.2.1, L a8 rl2.2.2.2.1 c8, .map (some b2), .bool rl2.2.2.1], sl59 (L a8 rl2.2.2.2.1 c8) rl2.2.2.2.1, MP map81 b2 rl2.2.2.2.2]) (L2 := [sl3 (L a6 x2 c6) rl2.1, sl3 (L a3 x1 c3) s1.2.1]) hs hM1
       refine s_call [B b1 0, L a10 x7 c10, L a6 x2 c6, I (-1)] Try.call69 rfl rfl hF rfl (impl_builder_add_ok n (D.builder.mk (D.Circuit.mk rl2.2.1 rl2.2.2.2.1) rl2.2.2.2.2 rl2.2.2.1) (vcut s1.2.1 s1.1 (List.length x7)) rl2.1 (-1) hx8 hsA hbA hdA ((view_rv (hsR.rv 1 rfl) hv1 (by have h1 := (hs.relen 4 rfl).1; omega)).big (fun _ h => .inr h)) ((hsR.rv 0 rfl).big (fun _ h => .inr h))) fun v w6 fr hRes hF => ?_
       obtain ⟨a11, c11, a12, c12, rfl, _, hp, hs⟩ := hRes
       obtain ⟨S9, hp, hs⟩ := hup hp hs
       have ra1 := ra1.stp hM1 hp
       have ra2 := ra2.stp hM1 hp
       have hM1 := hM1.stp hp
       have hs : Sep [sl3 (L a11 x8.1 c11) x8.1, BX b1 83 [I x8.2.2.c.Inputs, L a12 x8.2.2.c.Gates c12, .map (some b2), .bool x8.2.2.full], sl59 (L a12 x8.2.2.c.Gates c12) x8.2.2.c.Gates, MP map81 b2 x8.2.2.line, sl3 (L a6 x2 c6) rl2.1, sl3 (L a3 x1 c3) s1.2.1] w6 S9 := hs
       have hs : Sep [sl3 (L a11 x8.1 c11) x8.1, BX b1 83 [I x8.2.2.c.Inputs, L a12 x8.2.2.c.Gates c12, .map (some b2), .bool x8.2.2.full], sl59 (L a12 x8.2.2.c.Gates c12) x8.2.2.c.Gates, MP map81 b2 x8.2.2.line, sl3 (L a3 x1 c3) s1.2.1] w6 S9 := Sep.pick [0, 1, 2, 3, 5] hs (by decide) rfl
       refine from_pure 5 [(0, B b1 0), (1, L a1 p1 c1), (2, L a2 p2 c2), (7, I (len p1)), (8, L a3 x1 c3), (9, I s1.1), (12, L a11 x8.1 c11), (19, I (len p2)), (20, I s1.1)] hF (by kernel_rfl) fun fr hF => ?_
       refine from_end rfl (then_normal ?_)
       refine (wp_text' ?_)
       refine from_pure 2 [(0, B b1 0), (1, L a1 p1 c1), (2, L a2 p2 c2), (7, I (len p1)), (8, L a3 x1 c3), (12, L a11 x8.1 c11), (19, I (len p2)), (20, I s1.1), (55, L a3 x1 c3), (56, I s1.1)] hF (by kernel_rfl) fun fr hF => ?_
       obtain ⟨x9, hx9, h⟩ := bindE h
       refine s_view ty3 Try.underlying37 rfl rfl hF rfl (hs.rv 4 rfl) ⟨_, rfl⟩ (by have h1 := (hs.relen 4 rfl).1; show len x1 = ((List.length s1.2.1 : Nat) : Int); unfold len; omega) hx9 fun a13 c13 fr hv2 hle2 hF => ?_
       have hle2 := (show (s1.1).toNat + List.length x9 ≤ List.length x1 by have h1 := (hs.relen 4 rfl).1; omega)
       refine from_pure 1 [(0, B b1 0), (1, L a1 p1 c1), (2, L a2 p2 c2), (7, I (len p1)), (8, L a3 x1 c3), (19, I (len p2)), (20, I s1.1), (57, L a13 x9 c13), (58, L a11 x8.1 c11)] hF (by kernel_rfl) fun fr hF => ?_
       refine q_copyV (m := x8.1) 4 hs hM1 rfl Try.underlying37 ty3 rfl rfl hF rfl rfl (hs.rv 0 rfl) hv2 (by have h1 := (hs.relen 4 rfl).1; omega) fun w7 S10 fr q hs hp hF => ?_
       have ra1 := ra1.stp hM1 hp
       have ra2 := ra2.stp hM1 hp
       have hM1 := hM1.stp hp
       have hs : Sep [sl3 (L a11 x8.1 c11) x8.1, BX b1 83 [I x8.2.2.c.Inputs, L a12 x8.2.2.c.Gates c12, .map (some b2), .bool x8.2.2.full], sl59 (L a12 x8.2.2.c.Gates c12) x8.2.2.c.Gates, MP map81 b2 x8.2.2.line, sl3 (L a3 x1 c3) (vcopy s1.2.1 s1.1 (List.length x9) x8.1)] w7 S10 := hs
       have hs : Sep [BX b1 83 [I x8.2.2.c.Inputs, L a12 x8.2.2.c.Gates c12, .map (some b2), .bool x8.2.2.full], sl59 (L a12 x8.2.2.c.Gates c12) x8.2.2.c.Gates, MP map81 b2 x8.2.2.line, sl3 (L a3 x1 c3) (vcopy s1.2.1 s1.1 (List.length x9) x8.1)] w7 S10 := Sep.pick [1, 2, 3, 4] hs (by decide) rfl
       refine from_end rfl ?_
       refine blk_normal (then_normal ?_)
       refine (wp_pure [(0, B b1 0), (1, L a1 p1 c1), (2, L a2 p2 c2), (7, I (len p1)), (8, L a3 x1 c3), (19, I (len p2)), (20, I (w64 (s1.1 + 1)))] hF (by kernel_rfl) fun fr hF => then_normal ?_)
       have hs : Sep [sl3 (L a3 x1 c3) (vcopy s1.2.1 s1.1 (List.length x9) x8.1), BX b1 83 [I x8.2.2.c.Inputs, L a12 x8.2.2.c.Gates c12, .map (some b2), .bool x8.2.2.full], sl59 (L a12 x8.2.2.c.Gates c12) x8.2.2.c.Gates, MP map81 b2 x8.2.2.line] w7 S10 := Sep.pick [3, 0, 1, 2] hs (by decide) rfl
       exact ⟨_, (Option.some.inj h).symm, a12, c12, S10, _, hF.sub _ (by kernel_rfl), hM1, hs⟩
   replace h := iteF hb h
   refine (wp_exit (then_exit (then_exit (blk_exit_eq ?_))))
   obtain rfl := hr1 _ (Option.some.inj h).symm
   exact then_normal ⟨a4, c4, S2, _, hF.sub _ (by kernel_rfl), hM1, hs⟩
 · obtain ⟨a5, c5, S3, F2, hF, hMx, hs⟩ := hM
   have hM0 := hM0.trans hMx
   refine wp_seq (wp_pure [(6, L a3 x1 c3)] hF (by kernel_rfl) fun fr hF => then_normal ?_)
   obtain rfl := Option.some.inj h
   obtain ⟨he1, hs⟩ := hs.relen 0 rfl
   have hs : Sep [sl3 (L a3 rl1.1 c3) rl1.1, BX b1 83 [I rl1.2.1, L a5 rl1.2.2.2.1 c5, .map (some b2), .bool rl1.2.2.1], sl59 (L a5 rl1.2.2.2.1 c5) rl1.2.2.2.1, MP map81 b2 rl1.2.2.2.2] w1o S3 := hs
   exact wp_ret (ret1 rfl hF rfl ⟨_, rfl, a3, c3, a5, c5, (by simp only [L, he1]), S3, hM0.out, hs⟩)
end Go.Proofs.Ytckeihpjfeonmaa
