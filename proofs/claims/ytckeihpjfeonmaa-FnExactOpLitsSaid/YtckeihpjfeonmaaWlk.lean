/- Printed by gen2.py: the walks. -/
import Derived.Test.YtckeihpjfeonmaaWlkC
set_option linter.unusedVariables false
set_option maxRecDepth 100000
namespace Go.Proofs.Ytckeihpjfeonmaa
open Go.GL Go.Maps Go.WideMaps
theorem laws_heldCircuit_ok (n : Nat) (p0 : D.Circuit) (p1 : Int) {r : Int} (h : laws_heldCircuit n p0 p1 = some r) {w : World} {G0 : Nat → Prop} {va0 : Value} (ra0 : RV w G0 va0 p0) :
   Calls Try.prog 18 [va0, I p1].toArray w fun e w' => ∃ v, e = .returned v ∧ v = I r ∧ Chg Non w w' := by
 unfold laws_heldCircuit at h
 have hs := Sep.nil w Non
 have hM0 : Mem w Non (fun k => (G0 k) ∧ k < w.heap.size) w Non (fun k => (G0 k) ∧ k < w.heap.size) := Mem.start (fun _ h => h.elim) (fun _ h => h.2) (fun _ h => h.elim)
 have ra0 := ra0.sub (F' := (fun k => (G0 k) ∧ k < w.heap.size)) (fun k hk h => ⟨h, hk⟩)
 obtain ⟨v1, rfl, r1⟩ := RV.Circuit ra0
 obtain ⟨a1, c1, rfl, -⟩ := r1.slice
 refine enter (N := 12) Try.func18 rfl Try.ntmps18 rfl fun fr hF => ?_
 refine wp_seq (wp_text' ?_)
 refine q_box hs hM0 [I p0.Inputs, L a1 p0.Gates c1] rfl rfl hF rfl rfl fun b1 w1 S1 fr hs hp hF => ?_
 have r1 := r1.stp hM0 hp
 have hM0 := hM0.stp hp
 have hs : Sep [BX b1 28 [I p0.Inputs, L a1 p0.Gates c1]] w1 S1 := hs
 refine from_pure 1 [(1, I p1), (2, B b1 0)] hF (by kernel_rfl) fun fr hF => ?_
 refine from_end rfl (then_normal ?_)
 refine wp_seq (wp_text' ?_)
 refine from_pure 1 [(1, I p1), (5, B b1 1)] hF (by kernel_rfl) fun fr hF => ?_
 refine s_loadBox (L a1 p0.Gates c1) ty26 rfl rfl hF rfl (hs.bx 0 rfl) rfl rfl fun fr hF => ?_
 have hs : Sep [] w1 S1 := Sep.pick [] hs (by decide) rfl
 refine from_pure 1 [(6, L a1 p0.Gates c1), (7, I p1)] hF (by kernel_rfl) fun fr hF => ?_
 obtain ⟨x1, hx1, h⟩ := bindE h
 refine s_call [L a1 p0.Gates c1, I p1] Try.call54 rfl rfl hF rfl (laws_heldGateS_ok n p0.Gates p1 hx1 (r1)) fun v w2 fr hRes hF => ?_
 obtain ⟨rfl, hc⟩ := hRes
 have r1 := r1.ext hc
 have hs := hs.ext hc
 have hM0 := hM0.ext hc
 refine from_pure 1 [(1, I x1)] hF (by kernel_rfl) fun fr hF => ?_
 refine from_end rfl (then_normal ?_)
 refine wp_seq ?_
 refine wp_seq (wp_pure [(1, I x1), (10, .bool (decide (x1 < 0)))] hF (by kernel_rfl) fun fr hF => then_normal ?_)
 refine (wp_if hF (b := (decide (x1 < 0))) rfl (fun hb => ?_) (fun hb => ?_))
 · replace h := iteT hb h
   refine wp_seq (wp_pure [(4, I (-1))] hF (by kernel_rfl) fun fr hF => then_normal ?_)
   obtain rfl := Option.some.inj h
   exact wp_ret (then_ret (ret1 rfl hF rfl ⟨_, rfl, rfl, hM0.chg⟩))
 replace h := iteF hb h
 refine (wp_skip (then_normal ?_))
 refine wp_seq (wp_pure [(4, I x1)] hF (by kernel_rfl) fun fr hF => then_normal ?_)
 obtain rfl := Option.some.inj h
 exact wp_ret (ret1 rfl hF rfl ⟨_, rfl, rfl, hM0.chg⟩)

theorem laws_heldIntS_ok (n : Nat) (p0 : List Int) (p1 : Int) {r : Int} (h : laws_heldIntS n p0 p1 = some r) {w : World} {G0 : Nat → Prop} {va0 : Value} (ra0 : RV w G0 va0 p0) :
   Calls Try.prog 30 [va0, I p1].toArray w fun e w' => ∃ v, e = .returned v ∧ v = I r ∧ Chg Non w w' := by
 unfold laws_heldIntS at h
 have hs := Sep.nil w Non
 have hM0 : Mem w Non (fun k => (G0 k) ∧ k < w.heap.size) w Non (fun k => (G0 k) ∧ k < w.heap.size) := Mem.start (fun _ h => h.elim) (fun _ h => h.2) (fun _ h => h.elim)
 have ra0 := ra0.sub (F' := (fun k => (G0 k) ∧ k < w.heap.size)) (fun k hk h => ⟨h, hk⟩)
 obtain ⟨a1, c1, rfl, -⟩ := ra0.slice
 refine enter (N := 21) Try.func30 rfl Try.ntmps30 rfl fun fr hF => ?_
 refine wp_seq (wp_pure [(0, L a1 p0 c1), (1, I p1)] hF (by kernel_rfl) fun fr hF => then_normal ?_)
 refine wp_seq ?_
 refine wp_seq (wp_pure [(0, L a1 p0 c1), (1, I p1), (5, I 0)] hF (by kernel_rfl) fun fr hF => then_normal ?_)
 obtain ⟨rl1, hit1, h⟩ := bindE h
 have hk1 := h
 refine (wp_cut (M := fun fr w' => ∃ s, rl1 = .inl s ∧ ∃ S2 F2, FrS 21 [(1, I s)] fr ∧ Mem w Non (fun k => (G0 k) ∧ k < w.heap.size) w' S2 F2 ∧ Sep [] w' S2) (wp_block (wp_iter (Inv := fun s1 fr w' => ∃ S1 F1, FrS 21 [(0, L a1 p0 c1), (1, I s1.1), (5, I s1.2)] fr ∧ Mem w Non (fun k => (G0 k) ∧ k < w.heap.size) w' S1 F1 ∧ Sep [] w' S1) hit1 ⟨Non, _, hF.sub _ (by kernel_rfl), (Mem.start hM0.bd hM0.bdF hM0.dj), hs⟩ fun s1 q1 fr w1i hI h hr1 => ?_)) fun fr w1o hM => ?_)
 · obtain ⟨S1, F1, hF, hM1, hs⟩ := hI
   have ra0 := ra0.mem hM1
   refine wp_seq ?_
   refine wp_seq (wp_pure [(0, L a1 p0 c1), (1, I s1.1), (5, I s1.2), (9, .bool (decide (s1.2 < (len p0))))] hF (by kernel_rfl) fun fr hF => then_normal ?_)
   refine (wp_if hF (b := (decide (s1.2 < (len p0)))) rfl (fun hb => ?_) (fun hb => ?_))
   · replace h := iteT hb h
     refine (wp_skip (then_normal ?_))
     refine wp_seq (wp_block ?_)
     refine wp_seq ?_
     refine wp_seq (wp_text' ?_)
     refine from_pure 2 [(0, L a1 p0 c1), (1, I s1.1), (5, I s1.2), (12, L a1 p0 c1), (13, I s1.2)] hF (by kernel_rfl) fun fr hF => ?_
     obtain ⟨x1, hx1, h⟩ := bindE h
     refine s_elemF (z := x1) (I x1) ty3 Try.underlying37 rfl rfl rfl rfl rfl hF rfl (ra0) rfl (get?_nn hx1) (get?_at hx1) rfl fun p fr hF => ?_
     refine from_pure 2 [(0, L a1 p0 c1), (1, I s1.1), (5, I s1.2), (17, .bool (x1 != s1.1))] hF (by kernel_rfl) fun fr hF => ?_
     refine from_end rfl (then_normal ?_)
     refine (wp_if hF (b := (x1 != s1.1)) rfl (fun hb => ?_) (fun hb => ?_))
     · replace h := iteT hb h
       refine wp_seq (wp_pure [(4, I (-1))] hF (by kernel_rfl) fun fr hF => then_normal ?_)
       obtain rfl := hr1 _ (Option.some.inj h).symm
       obtain rfl := Option.some.inj hk1
       exact wp_ret (then_ret (blk_ret (then_ret (then_ret (blk_ret (then_ret (ret1 rfl hF rfl ⟨_, rfl, rfl, (hM0.trans hM1).chg⟩)))))))
     replace h := iteF hb h
     refine (wp_skip (then_normal ?_))
     refine (wp_pure [(0, L a1 p0 c1), (1, I (w64 (s1.1 + 1))), (5, I s1.2)] hF (by kernel_rfl) fun fr hF => ?_)
     refine blk_normal (then_normal ?_)
     refine (wp_pure [(0, L a1 p0 c1), (1, I (w64 (s1.1 + 1))), (5, I (w64 (s1.2 + 1)))] hF (by kernel_rfl) fun fr hF => then_normal ?_)
     exact ⟨_, (Option.some.inj h).symm, S1, _, hF.sub _ (by kernel_rfl), hM1, hs⟩
   replace h := iteF hb h
   refine (wp_exit (then_exit (then_exit (blk_exit_eq ?_))))
   obtain rfl := hr1 _ (Option.some.inj h).symm
   exact then_normal ⟨_, rfl, S1, _, hF.sub _ (by kernel_rfl), hM1, hs⟩
 · obtain ⟨s1r, rfl, hM⟩ := hM
   obtain ⟨S2, F2, hF, hMx, hs⟩ := hM
   have hM0 := hM0.trans hMx
   refine wp_seq (wp_pure [(4, I s1r)] hF (by kernel_rfl) fun fr hF => then_normal ?_)
   obtain rfl := Option.some.inj h
   exact wp_ret (ret1 rfl hF rfl ⟨_, rfl, rfl, hM0.chg⟩)

theorem laws_FnExactOpLits_ok (n : Nat) (p0 : D.Circuit) (p1 : Int) (p2 : List Int) (p3 : List Int) {r : Bool} (h : laws_FnExactOpLits n p0 p1 p2 p3 = some r) {w : World} {G0 : Nat → Prop} {va0 : Value} (ra0 : RV w G0 va0 p0) {G2 : Nat → Prop} {va2 : Value} (ra2 : RV w G2 va2 p2) {G3 : Nat → Prop} {va3 : Value} (ra3 : RV w G3 va3 p3) :
   Calls Try.prog 8 [va0, I p1, va2, va3].toArray w fun e w' => ∃ v, e = .returned v ∧ v = .bool r ∧ Chg Non w w' := by
 unfold laws_FnExactOpLits at h
 have hs := Sep.nil w Non
 have hM0 : Mem w Non (fun k => (G0 k ∨ G2 k ∨ G3 k) ∧ k < w.heap.size) w Non (fun k => (G0 k ∨ G2 k ∨ G3 k) ∧ k < w.heap.size) := Mem.start (fun _ h => h.elim) (fun _ h => h.2) (fun _ h => h.elim)
 have ra0 := ra0.sub (F' := (fun k => (G0 k ∨ G2 k ∨ G3 k) ∧ k < w.heap.size)) (fun k hk h => ⟨.inl h, hk⟩)
 obtain ⟨v1, rfl, r1⟩ := RV.Circuit ra0
 obtain ⟨a1, c1, rfl, -⟩ := r1.slice
 have ra2 := ra2.sub (F' := (fun k => (G0 k ∨ G2 k ∨ G3 k) ∧ k < w.heap.size)) (fun k hk h => ⟨.inr (.inl h), hk⟩)
 obtain ⟨a2, c2, rfl, -⟩ := ra2.slice
 have ra3 := ra3.sub (F' := (fun k => (G0 k ∨ G2 k ∨ G3 k) ∧ k < w.heap.size)) (fun k hk h => ⟨.inr (.inr (h)), hk⟩)
 obtain ⟨a3, c3, rfl, -⟩ := ra3.slice
 refine enter (N := 180) Try.func8 rfl Try.ntmps8 rfl fun fr hF => ?_
 refine wp_seq (wp_text' ?_)
 refine q_box hs hM0 [I p0.Inputs, L a1 p0.Gates c1] rfl rfl hF rfl rfl fun b1 w1 S1 fr hs hp hF => ?_
 have r1 := r1.stp hM0 hp
 have ra2 := ra2.stp hM0 hp
 have ra3 := ra3.stp hM0 hp
 have hM0 := hM0.stp hp
 have hs : Sep [BX b1 24 [I p0.Inputs, L a1 p0.Gates c1]] w1 S1 := hs
 refine from_pure 1 [(1, I p1), (2, L a2 p2 c2), (3, L a3 p3 c3), (4, B b1 0)] hF (by kernel_rfl) fun fr hF => ?_
 refine from_end rfl (then_normal ?_)
 refine wp_seq ?_
 refine wp_seq (wp_pure [(1, I p1), (2, L a2 p2 c2), (3, L a3 p3 c3), (4, B b1 0), (27, .bool (decide ((len p2) > 1048576)))] hF (by kernel_rfl) fun fr hF => then_normal ?_)
 refine (wp_if hF (b := (decide ((len p2) > 1048576))) rfl (fun hb => ?_) (fun hb => ?_))
 · replace h := iteT hb h
   have hs : Sep [] w1 S1 := Sep.pick [] hs (by decide) rfl
   refine wp_seq (wp_pure [(8, .bool true)] hF (by kernel_rfl) fun fr hF => then_normal ?_)
   obtain rfl := Option.some.inj h
   exact wp_ret (then_ret (ret1 rfl hF rfl ⟨_, rfl, rfl, hM0.chg⟩))
 replace h := iteF hb h
 refine (wp_skip (then_normal ?_))
 refine wp_seq ?_
 refine wp_seq (wp_pure [(1, I p1), (2, L a2 p2 c2), (3, L a3 p3 c3), (4, B b1 0), (30, .bool (decide ((len p3) > 1048576)))] hF (by kernel_rfl) fun fr hF => then_normal ?_)
 refine (wp_if hF (b := (decide ((len p3) > 1048576))) rfl (fun hb => ?_) (fun hb => ?_))
 · replace h := iteT hb h
   have hs : Sep [] w1 S1 := Sep.pick [] hs (by decide) rfl
   refine wp_seq (wp_pure [(8, .bool true)] hF (by kernel_rfl) fun fr hF => then_normal ?_)
   obtain rfl := Option.some.inj h
   exact wp_ret (then_ret (ret1 rfl hF rfl ⟨_, rfl, rfl, hM0.chg⟩))
 replace h := iteF hb h
 refine (wp_skip (then_normal ?_))
 refine wp_seq (wp_pure [(1, I p1), (2, L a2 p2 c2), (3, L a3 p3 c3), (4, B b1 0), (9, I 1048576)] hF (by kernel_rfl) fun fr hF => then_normal ?_)
 refine wp_seq (wp_text' ?_)
 refine s_loadBoxS ty24 rfl rfl hF rfl (hs.bx 0 rfl) rfl rfl fun fr hF => ?_
 refine from_pure 1 [(1, I p1), (2, L a2 p2 c2), (3, L a3 p3 c3), (4, B b1 0), (31, .agg #[I p0.Inputs, L a1 p0.Gates c1]), (32, I 1048576)] hF (by kernel_rfl) fun fr hF => ?_
 obtain ⟨x1, hx1, h⟩ := bindE h
 refine s_call [.agg #[I p0.Inputs, L a1 p0.Gates c1], I 1048576] Try.call12 rfl rfl hF rfl (laws_szCircuit_ok p0 1048576 hx1 (RV.mk_Circuit p0 (r1))) fun v w2 fr hRes hF => ?_
 obtain ⟨rfl, hc⟩ := hRes
 have ra2 := ra2.ext hc
 have ra3 := ra3.ext hc
 have r1 := r1.ext hc
 have hs := hs.ext hc
 have hM0 := hM0.ext hc
 refine from_pure 1 [(1, I p1), (2, L a2 p2 c2), (3, L a3 p3 c3), (4, B b1 0), (9, I x1)] hF (by kernel_rfl) fun fr hF => ?_
 refine from_end rfl (then_normal ?_)
 refine wp_seq ?_
 refine wp_seq (wp_pure [(1, I p1), (2, L a2 p2 c2), (3, L a3 p3 c3), (4, B b1 0), (35, .bool (decide (x1 < 0)))] hF (by kernel_rfl) fun fr hF => then_normal ?_)
 refine (wp_if hF (b := (decide (x1 < 0))) rfl (fun hb => ?_) (fun hb => ?_))
 · replace h := iteT hb h
   have hs : Sep [] w2 S1 := Sep.pick [] hs (by decide) rfl
   refine wp_seq (wp_pure [(8, .bool true)] hF (by kernel_rfl) fun fr hF => then_normal ?_)
   obtain rfl := Option.some.inj h
   exact wp_ret (then_ret (ret1 rfl hF rfl ⟨_, rfl, rfl, hM0.chg⟩))
 replace h := iteF hb h
 refine (wp_skip (then_normal ?_))
 refine wp_seq (wp_text' ?_)
 refine s_loadBoxS ty24 rfl rfl hF rfl (hs.bx 0 rfl) rfl rfl fun fr hF => ?_
 obtain ⟨x2, hx2, h⟩ := bindE h
 refine s_call [.agg #[I p0.Inputs, L a1 p0.Gates c1]] Try.call14 rfl rfl hF rfl (laws_toCircuit_ok n p0 hx2 (RV.mk_Circuit p0 (r1))) fun v w3 fr hRes hF => ?_
 obtain ⟨a4, c4, rfl, _, hp, hs2⟩ := hRes
 obtain ⟨S2, hp, hs⟩ := hs.got hM0 hp hs2
 have ra2 := ra2.stp hM0 hp
 have ra3 := ra3.stp hM0 hp
 have r1 := r1.stp hM0 hp
 have hM0 := hM0.stp hp
 have hs : Sep [sl59 (L a4 x2.Gates c4) x2.Gates, BX b1 24 [I p0.Inputs, L a1 p0.Gates c1]] w3 S2 := hs
 refine from_pure 2 [(1, I p1), (2, L a2 p2 c2), (3, L a3 p3 c3), (4, B b1 0), (38, .agg #[I x2.Inputs, L a4 x2.Gates c4]), (39, I p1), (40, L a2 p2 c2)] hF (by kernel_rfl) fun fr hF => ?_
 obtain ⟨x3, hx3, h⟩ := bindE h
 refine s_call [L a2 p2 c2] Try.call26 rfl rfl hF rfl (laws_toIntS_ok n p2 hx3 (ra2)) fun v w4 fr hRes hF => ?_
 obtain ⟨a5, c5, rfl, _, hp, hs2⟩ := hRes
 obtain ⟨S3, hp, hs⟩ := hs.got hM0 hp hs2
 have ra2 := ra2.stp hM0 hp
 have ra3 := ra3.stp hM0 hp
 have r1 := r1.stp hM0 hp
 have hM0 := hM0.stp hp
 have hs : Sep [sl3 (L a5 x3 c5) x3, sl59 (L a4 x2.Gates c4) x2.Gates, BX b1 24 [I p0.Inputs, L a1 p0.Gates c1]] w4 S3 := hs
 refine from_pure 1 [(1, I p1), (2, L a2 p2 c2), (3, L a3 p3 c3), (4, B b1 0), (38, .agg #[I x2.Inputs, L a4 x2.Gates c4]), (39, I p1), (41, L a5 x3 c5), (42, L a3 p3 c3)] hF (by kernel_rfl) fun fr hF => ?_
 obtain ⟨x4, hx4, h⟩ := bindE h
 refine s_call [L a3 p3 c3] Try.call26 rfl rfl hF rfl (laws_toIntS_ok n p3 hx4 (ra3)) fun v w5 fr hRes hF => ?_
 obtain ⟨a6, c6, rfl, _, hp, hs2⟩ := hRes
 obtain ⟨S4, hp, hs⟩ := hs.got hM0 hp hs2
 have ra2 := ra2.stp hM0 hp
 have ra3 := ra3.stp hM0 hp
 have r1 := r1.stp hM0 hp
 have hM0 := hM0.stp hp
 have hs : Sep [sl3 (L a6 x4 c6) x4, sl3 (L a5 x3 c5) x3, sl59 (L a4 x2.Gates c4) x2.Gates, BX b1 24 [I p0.Inputs, L a1 p0.Gates c1]] w5 S4 := hs
 obtain ⟨x5, hx5, h⟩ := bindE h
 refine s_call [.agg #[I x2.Inputs, L a4 x2.Gates c4], I p1, L a5 x3 c5, L a6 x4 c6] Try.call31 rfl rfl hF rfl (spec_OpLits_ok n x2 p1 x3 x4 hx5 (RV.mk_Circuit x2 (RV.any (hs.rv 2 rfl))) (hs.rv 1 rfl) (hs.rv 0 rfl)) fun v w6 fr hRes hF => ?_
 obtain ⟨a7, c7, a8, c8, rfl, _, hp, hs2⟩ := hRes
 obtain ⟨S5, hp, hs⟩ := hs.got hM0 hp hs2
 have ra2 := ra2.stp hM0 hp
 have ra3 := ra3.stp hM0 hp
 have r1 := r1.stp hM0 hp
 have hM0 := hM0.stp hp
 have hs : Sep [sl59 (L a7 x5.1.Gates c7) x5.1.Gates, sl3 (L a8 x5.2.1 c8) x5.2.1, sl3 (L a6 x4 c6) x4, sl3 (L a5 x3 c5) x3, sl59 (L a4 x2.Gates c4) x2.Gates, BX b1 24 [I p0.Inputs, L a1 p0.Gates c1]] w6 S5 := hs
 have hs : Sep [sl59 (L a7 x5.1.Gates c7) x5.1.Gates, sl3 (L a8 x5.2.1 c8) x5.2.1, BX b1 24 [I p0.Inputs, L a1 p0.Gates c1]] w6 S5 := Sep.pick [0, 1, 5] hs (by decide) rfl
 refine from_pure 4 [(1, I p1), (2, L a2 p2 c2), (3, L a3 p3 c3), (4, B b1 0), (45, .agg #[I x5.1.Inputs, L a7 x5.1.Gates c7]), (46, L a8 x5.2.1 c8), (47, .bool x5.2.2)] hF (by kernel_rfl) fun fr hF => ?_
 refine q_alloc (z := .agg #[I 0, L none ([] : List D.Gate) 0]) hs hM0 [I 0, L none ([] : List D.Gate) 0] rfl rfl hF (by kernel_rfl) rfl fun b2 w7 S6 fr hs hp hF => ?_
 have ra2 := ra2.stp hM0 hp
 have ra3 := ra3.stp hM0 hp
 have r1 := r1.stp hM0 hp
 have hM0 := hM0.stp hp
 have hs : Sep [BX b2 28 [I 0, L none ([] : List D.Gate) 0], sl59 (L a7 x5.1.Gates c7) x5.1.Gates, sl3 (L a8 x5.2.1 c8) x5.2.1, BX b1 24 [I p0.Inputs, L a1 p0.Gates c1]] w7 S6 := hs
 refine q_storeBoxS 0 hs hM0 rfl [I x5.1.Inputs, L a7 x5.1.Gates c7] rfl hF rfl rfl (by kernel_rfl) rfl rfl rfl fun w8 S7 hs hp hF => ?_
 have ra2 := ra2.stp hM0 hp
 have ra3 := ra3.stp hM0 hp
 have r1 := r1.stp hM0 hp
 have hM0 := hM0.stp hp
 have hs : Sep [BX b2 28 [I x5.1.Inputs, L a7 x5.1.Gates c7], sl59 (L a7 x5.1.Gates c7) x5.1.Gates, sl3 (L a8 x5.2.1 c8) x5.2.1, BX b1 24 [I p0.Inputs, L a1 p0.Gates c1]] w8 S7 := hs
 refine from_pure 2 [(1, I p1), (2, L a2 p2 c2), (3, L a3 p3 c3), (4, B b1 0), (10, B b2 0), (11, L a8 x5.2.1 c8), (12, .bool x5.2.2)] hF (by kernel_rfl) fun fr hF => ?_
 refine from_end rfl (then_normal ?_)
 refine wp_seq (wp_text' ?_)
 refine s_loadBoxS ty24 rfl rfl hF rfl (hs.bx 3 rfl) rfl rfl fun fr hF => ?_
 obtain ⟨x6, hx6, h⟩ := bindE h
 refine s_call [.agg #[I p0.Inputs, L a1 p0.Gates c1]] Try.call14 rfl rfl hF rfl (laws_toCircuit_ok n p0 hx6 (RV.mk_Circuit p0 (r1))) fun v w9 fr hRes hF => ?_
 obtain ⟨a9, c9, rfl, _, hp, hs2⟩ := hRes
 obtain ⟨S8, hp, hs⟩ := hs.got hM0 hp hs2
 have ra2 := ra2.stp hM0 hp
 have ra3 := ra3.stp hM0 hp
 have r1 := r1.stp hM0 hp
 have hM0 := hM0.stp hp
 have hs : Sep [sl59 (L a9 x6.Gates c9) x6.Gates, BX b2 28 [I x5.1.Inputs, L a7 x5.1.Gates c7], sl59 (L a7 x5.1.Gates c7) x5.1.Gates, sl3 (L a8 x5.2.1 c8) x5.2.1, BX b1 24 [I p0.Inputs, L a1 p0.Gates c1]] w9 S8 := hs
 refine q_alloc (z := .agg #[I 0, L none ([] : List D.Gate) 0]) hs hM0 [I 0, L none ([] : List D.Gate) 0] rfl rfl hF (by kernel_rfl) rfl fun b3 w10 S9 fr hs hp hF => ?_
 have ra2 := ra2.stp hM0 hp
 have ra3 := ra3.stp hM0 hp
 have r1 := r1.stp hM0 hp
 have hM0 := hM0.stp hp
 have hs : Sep [BX b3 28 [I 0, L none ([] : List D.Gate) 0], sl59 (L a9 x6.Gates c9) x6.Gates, BX b2 28 [I x5.1.Inputs, L a7 x5.1.Gates c7], sl59 (L a7 x5.1.Gates c7) x5.1.Gates, sl3 (L a8 x5.2.1 c8) x5.2.1, BX b1 24 [I p0.Inputs, L a1 p0.Gates c1]] w10 S9 := hs
 refine q_storeBoxS 0 hs hM0 rfl [I x6.Inputs, L a9 x6.Gates c9] rfl hF rfl rfl (by kernel_rfl) rfl rfl rfl fun w11 S10 hs hp hF => ?_
 have ra2 := ra2.stp hM0 hp
 have ra3 := ra3.stp hM0 hp
 have r1 := r1.stp hM0 hp
 have hM0 := hM0.stp hp
 have hs : Sep [BX b3 28 [I x6.Inputs, L a9 x6.Gates c9], sl59 (L a9 x6.Gates c9) x6.Gates, BX b2 28 [I x5.1.Inputs, L a7 x5.1.Gates c7], sl59 (L a7 x5.1.Gates c7) x5.1.Gates, sl3 (L a8 x5.2.1 c8) x5.2.1, BX b1 24 [I p0.Inputs, L a1 p0.Gates c1]] w11 S10 := hs
 refine from_end rfl (then_normal ?_)
 refine wp_seq (wp_text' ?_)
 refine from_pure 1 [(1, I p1), (2, L a2 p2 c2), (3, L a3 p3 c3), (4, B b1 0), (10, B b2 0), (11, L a8 x5.2.1 c8), (12, .bool x5.2.2), (13, B b3 0), (50, L a2 p2 c2)] hF (by kernel_rfl) fun fr hF => ?_
 obtain ⟨x7, hx7, h⟩ := bindE h
 refine s_call [L a2 p2 c2] Try.call26 rfl rfl hF rfl (laws_toIntS_ok n p2 hx7 (ra2)) fun v w12 fr hRes hF => ?_
 obtain ⟨a10, c10, rfl, _, hp, hs2⟩ := hRes
 obtain ⟨S11, hp, hs⟩ := hs.got hM0 hp hs2
 have ra2 := ra2.stp hM0 hp
 have ra3 := ra3.stp hM0 hp
 have r1 := r1.stp hM0 hp
 have hM0 := hM0.stp hp
 have hs : Sep [sl3 (L a10 x7 c10) x7, BX b3 28 [I x6.Inputs, L a9 x6.Gates c9], sl59 (L a9 x6.Gates c9) x6.Gates, BX b2 28 [I x5.1.Inputs, L a7 x5.1.Gates c7], sl59 (L a7 x5.1.Gates c7) x5.1.Gates, sl3 (L a8 x5.2.1 c8) x5.2.1, BX b1 24 [I p0.Inputs, L a1 p0.Gates c1]] w12 S11 := hs
 refine from_pure 1 [(1, I p1), (2, L a2 p2 c2), (3, L a3 p3 c3), (4, B b1 0), (10, B b2 0), (11, L a8 x5.2.1 c8), (12, .bool x5.2.2), (13, B b3 0), (14, L a10 x7 c10)] hF (by kernel_rfl) fun fr hF => ?_
 refine from_end rfl (then_normal ?_)
 refine wp_seq (wp_text' ?_)
 refine from_pure 1 [(1, I p1), (2, L a2 p2 c2), (3, L a3 p3 c3), (4, B b1 0), (10, B b2 0), (11, L a8 x5.2.1 c8), (12, .bool x5.2.2), (13, B b3 0), (14, L a10 x7 c10), (52, L a3 p3 c3)] hF (by kernel_rfl) fun fr hF => ?_
 obtain ⟨x8, hx8, h⟩ := bindE h
 refine s_call [L a3 p3 c3] Try.call26 rfl rfl hF rfl (laws_toIntS_ok n p3 hx8 (ra3)) fun v w13 fr hRes hF => ?_
 obtain ⟨a11, c11, rfl, _, hp, hs2⟩ := hRes
 obtain ⟨S12, hp, hs⟩ := hs.got hM0 hp hs2
 have ra2 := ra2.stp hM0 hp
 have ra3 := ra3.stp hM0 hp
 have r1 := r1.stp hM0 hp
 have hM0 := hM0.stp hp
 have hs : Sep [sl3 (L a11 x8 c11) x8, sl3 (L a10 x7 c10) x7, BX b3 28 [I x6.Inputs, L a9 x6.Gates c9], sl59 (L a9 x6.Gates c9) x6.Gates, BX b2 28 [I x5.1.Inputs, L a7 x5.1.Gates c7], sl59 (L a7 x5.1.Gates c7) x5.1.Gates, sl3 (L a8 x5.2.1 c8) x5.2.1, BX b1 24 [I p0.Inputs, L a1 p0.Gates c1]] w13 S12 := hs
 refine from_pure 1 [(1, I p1), (2, L a2 p2 c2), (3, L a3 p3 c3), (4, B b1 0), (10, B b2 0), (11, L a8 x5.2.1 c8), (12, .bool x5.2.2), (13, B b3 0), (14, L a10 x7 c10), (15, L a11 x8 c11)] hF (by kernel_rfl) fun fr hF => ?_
 refine from_end rfl (then_normal ?_)
 refine wp_seq (wp_text' ?_)
 refine s_loadBoxS ty28 rfl rfl hF rfl (hs.bx 2 rfl) rfl rfl fun fr hF => ?_
 refine from_pure 3 [(1, I p1), (2, L a2 p2 c2), (3, L a3 p3 c3), (4, B b1 0), (10, B b2 0), (11, L a8 x5.2.1 c8), (12, .bool x5.2.2), (13, B b3 0), (14, L a10 x7 c10), (15, L a11 x8 c11), (55, .agg #[I x6.Inputs, L a9 x6.Gates c9]), (56, I p1), (57, L a10 x7 c10), (58, L a11 x8 c11)] hF (by kernel_rfl) fun fr hF => ?_
 obtain ⟨x9, hx9, h⟩ := bindE h
 refine s_call [.agg #[I x6.Inputs, L a9 x6.Gates c9], I p1, L a10 x7 c10, L a11 x8 c11] Try.call32 rfl rfl hF rfl (impl_OpLits_ok n x6 p1 x7 x8 hx9 (RV.mk_Circuit x6 (RV.any (hs.rv 3 rfl))) (hs.rv 1 rfl) (hs.rv 0 rfl)) fun v w14 fr hRes hF => ?_
 obtain ⟨a12, c12, a13, c13, rfl, _, hp, hs2⟩ := hRes
 obtain ⟨S13, hp, hs⟩ := hs.got hM0 hp hs2
 have ra2 := ra2.stp hM0 hp
 have ra3 := ra3.stp hM0 hp
 have r1 := r1.stp hM0 hp
 have hM0 := hM0.stp hp
 have hs : Sep [sl59 (L a12 x9.1.Gates c12) x9.1.Gates, sl3 (L a13 x9.2.1 c13) x9.2.1, sl3 (L a11 x8 c11) x8, sl3 (L a10 x7 c10) x7, BX b3 28 [I x6.Inputs, L a9 x6.Gates c9], sl59 (L a9 x6.Gates c9) x6.Gates, BX b2 28 [I x5.1.Inputs, L a7 x5.1.Gates c7], sl59 (L a7 x5.1.Gates c7) x5.1.Gates, sl3 (L a8 x5.2.1 c8) x5.2.1, BX b1 24 [I p0.Inputs, L a1 p0.Gates c1]] w14 S13 := hs
 refine from_pure 4 [(1, I p1), (2, L a2 p2 c2), (3, L a3 p3 c3), (4, B b1 0), (10, B b2 0), (11, L a8 x5.2.1 c8), (12, .bool x5.2.2), (13, B b3 0), (14, L a10 x7 c10), (15, L a11 x8 c11), (60, .agg #[I x9.1.Inputs, L a12 x9.1.Gates c12]), (61, L a13 x9.2.1 c13), (62, .bool x9.2.2)] hF (by kernel_rfl) fun fr hF => ?_
 refine q_alloc (z := .agg #[I 0, L none ([] : List D.Gate) 0]) hs hM0 [I 0, L none ([] : List D.Gate) 0] rfl rfl hF (by kernel_rfl) rfl fun b4 w15 S14 fr hs hp hF => ?_
 have ra2 := ra2.stp hM0 hp
 have ra3 := ra3.stp hM0 hp
 have r1 := r1.stp hM0 hp
 have hM0 := hM0.stp hp
 have hs : Sep [BX b4 28 [I 0, L none ([] : List D.Gate) 0], sl59 (L a12 x9.1.Gates c12) x9.1.Gates, sl3 (L a13 x9.2.1 c13) x9.2.1, sl3 (L a11 x8 c11) x8, sl3 (L a10 x7 c10) x7, BX b3 28 [I x6.Inputs, L a9 x6.Gates c9], sl59 (L a9 x6.Gates c9) x6.Gates, BX b2 28 [I x5.1.Inputs, L a7 x5.1.Gates c7], sl59 (L a7 x5.1.Gates c7) x5.1.Gates, sl3 (L a8 x5.2.1 c8) x5.2.1, BX b1 24 [I p0.Inputs, L a1 p0.Gates c1]] w15 S14 := hs
 refine q_storeBoxS 0 hs hM0 rfl [I x9.1.Inputs, L a12 x9.1.Gates c12] rfl hF rfl rfl (by kernel_rfl) rfl rfl rfl fun w16 S15 hs hp hF => ?_
 have ra2 := ra2.stp hM0 hp
 have ra3 := ra3.stp hM0 hp
 have r1 := r1.stp hM0 hp
 have hM0 := hM0.stp hp
 have hs : Sep [BX b4 28 [I x9.1.Inputs, L a12 x9.1.Gates c12], sl59 (L a12 x9.1.Gates c12) x9.1.Gates, sl3 (L a13 x9.2.1 c13) x9.2.1, sl3 (L a11 x8 c11) x8, sl3 (L a10 x7 c10) x7, BX b3 28 [I x6.Inputs, L a9 x6.Gates c9], sl59 (L a9 x6.Gates c9) x6.Gates, BX b2 28 [I x5.1.Inputs, L a7 x5.1.Gates c7], sl59 (L a7 x5.1.Gates c7) x5.1.Gates, sl3 (L a8 x5.2.1 c8) x5.2.1, BX b1 24 [I p0.Inputs, L a1 p0.Gates c1]] w16 S15 := hs
 refine from_pure 2 [(1, I p1), (2, L a2 p2 c2), (3, L a3 p3 c3), (4, B b1 0), (10, B b2 0), (11, L a8 x5.2.1 c8), (12, .bool x5.2.2), (13, B b3 0), (14, L a10 x7 c10), (15, L a11 x8 c11), (16, B b4 0), (17, L a13 x9.2.1 c13), (18, .bool x9.2.2)] hF (by kernel_rfl) fun fr hF => ?_
 refine from_end rfl (then_normal ?_)
 refine wp_seq ?_
 obtain ⟨x10, hx10, h⟩ := bindE h
 obtain ⟨x11, hx11, h⟩ := bindE h
 refine wp_seq (region_b [] [false, false, false, true, true, true, true, false, true, true, true, true, true, true, true]
     [.eq (.agg #[I x9.1.Inputs, L a12 x9.1.Gates c12]), .eq (.agg #[I x5.1.Inputs, L a7 x5.1.Gates c7]), .eq (.bool x10), .eq (.bool (!x10)), .eq (.bool (!x10)), .eq (L a13 x9.2.1 c13), .eq (L a8 x5.2.1 c8), .eq (.bool x11), .eq (.bool (!x11)), .eq (.bool ((!x10) || (!x11))), .eq (.bool ((!x10) || (!x11))), .eq (.bool x9.2.2), .eq (.bool x5.2.2), .eq (.bool (!(x9.2.2 == x5.2.2))), .eq (.bool (((!x10) || (!x11)) || (!(x9.2.2 == x5.2.2))))]
     [(1, I p1), (2, L a2 p2 c2), (3, L a3 p3 c3), (4, B b1 0), (10, B b2 0), (11, L a8 x5.2.1 c8), (12, .bool x5.2.2), (13, B b3 0), (14, L a10 x7 c10), (15, L a11 x8 c11), (16, B b4 0), (17, L a13 x9.2.1 c13), (18, .bool x9.2.2), (77, .bool (((!x10) || (!x11)) || (!(x9.2.2 == x5.2.2))))] mix hF (by kernel_rfl) (by kernel_rfl) (by kernel_rfl) ⟨Pd.mono_eq, Pd.mono_eq, Pd.mono_eq, Pd.mono_eq, trivial⟩ (fun hG => ⟨np_loadBoxS hG hF ty28 rfl rfl (hs.bx 0 rfl) rfl rfl rfl rfl, np_loadBoxS hG hF ty28 rfl rfl (hs.bx 7 rfl) rfl rfl rfl rfl, np_call [.agg #[I x9.1.Inputs, L a12 x9.1.Gates c12], .agg #[I x5.1.Inputs, L a7 x5.1.Gates c7]] hG hF Try.call16 rfl rfl (fun w hC hg => (laws_eqCircuit_ok n x9.1 x5.1 hx10 ((RV.mk_Circuit x9.1 (RV.any (hs.rv 1 rfl))).ext hC) ((RV.mk_Circuit x5.1 (RV.any (hs.rv 8 rfl))).ext hC)).mono fun e w' ⟨v, he, hv, hc⟩ => ⟨v, he, hc, hv⟩), np_call [L a13 x9.2.1 c13, L a8 x5.2.1 c8] hG hF Try.call28 rfl rfl (fun w hC hg => (laws_eqIntS_ok n x9.2.1 x5.2.1 (iteF hg.2 hx11) ((hs.rv 2 rfl).ext hC) ((hs.rv 9 rfl).ext hC)).mono fun e w' ⟨v, he, hv, hc⟩ => ⟨v, he, hc, hv⟩), trivial⟩) (by kernel_rfl) fun fr w17 hF hE hc => then_normal ?_)
 have ra2 := ra2.ext hc
 have ra3 := ra3.ext hc
 have r1 := r1.ext hc
 have hs := hs.ext hc
 have hM0 := hM0.ext hc
 refine (wp_if hF (b := (((!x10) || (!x11)) || (!(x9.2.2 == x5.2.2)))) rfl (fun hb => ?_) (fun hb => ?_))
 · replace h := iteT hb h
   have hs : Sep [] w17 S15 := Sep.pick [] hs (by decide) rfl
   refine wp_seq (wp_pure [(8, .bool false)] hF (by kernel_rfl) fun fr hF => then_normal ?_)
   obtain rfl := Option.some.inj h
   exact wp_ret (then_ret (ret1 rfl hF rfl ⟨_, rfl, rfl, hM0.chg⟩))
 replace h := iteF hb h
 refine (wp_skip (then_normal ?_))
 refine wp_seq ?_
 obtain ⟨x12, hx12, h⟩ := bindE h
 obtain ⟨x13, hx13, h⟩ := bindE h
 refine wp_seq (region_bm 5 [0, 0, 2, 7, 15] [false, false, false, false, true]
     [.eq (.agg #[I x6.Inputs, L a9 x6.Gates c9]), .eq (.agg #[I p0.Inputs, L a1 p0.Gates c1]), .is fun v w => RV w (fun k => k < w.heap.size) v (x12 : D.Circuit), .eq (.bool x13), .eq (.bool (!x13))]
     [(1, I p1), (2, L a2 p2 c2), (3, L a3 p3 c3), (4, B b1 0), (10, B b2 0), (11, L a8 x5.2.1 c8), (12, .bool x5.2.2), (13, B b3 0), (14, L a10 x7 c10), (15, L a11 x8 c11), (16, B b4 0), (17, L a13 x9.2.1 c13), (18, .bool x9.2.2), (82, .bool (!x13))] mix hF (by kernel_rfl) (by kernel_rfl) (by kernel_rfl) (by kernel_rfl) ⟨Pd.monoO_eq, Pd.monoO_eq, (Pd.monoO_is mono_rvb), Pd.monoO_eq, trivial⟩ (fun ow hG => ⟨np_to ow (np_loadBoxS hG hF ty28 rfl rfl (hs.bx 5 rfl) rfl rfl rfl rfl), np_to ow (np_loadBoxS hG hF ty24 rfl rfl (hs.bx 10 rfl) rfl rfl rfl rfl), np_to ow (np_callI [.inl (.agg #[I p0.Inputs, L a1 p0.Gates c1])] hG hF Try.call14 rfl rfl (by kernel_rfl) (fun w vs hC hg ha => by obtain ⟨_, rfl, rfl⟩ := ha; exact (laws_toCircuit_ok n p0 hx12 ((RV.mk_Circuit p0 (r1)).ext hC)).mono fun e w' ⟨v, he, a0, c0, hv, _, hp, ho⟩ => ⟨_, he, hp.chg, by rw [hv]; exact (show RV w' (fun k => k < w'.heap.size) _ (x12 : D.Circuit) from RV.mk_Circuit x12 ((ho.rv 0 rfl).sub fun k hk _ => hk))⟩)), np_to ow (np_callI [.inl (.agg #[I x6.Inputs, L a9 x6.Gates c9]), .inr 2] hG hF Try.call16 rfl rfl (by kernel_rfl) (fun w vs hC hg ha => by obtain ⟨_, rfl, vq1, _, rfl, hq1, rfl⟩ := ha; exact (laws_eqCircuit_ok n x6 x12 hx13 ((RV.mk_Circuit x6 (RV.any (hs.rv 6 rfl))).ext hC) (show RV w (fun k => k < w.heap.size) vq1 x12 from hq1)).mono fun e w' ⟨v, he, hv, hc⟩ => ⟨v, he, hc, hv⟩)), trivial⟩) (by kernel_rfl) fun ow fr w18 hF hE hc => ?_)
 have ra2 := ra2.ext hc
 have ra3 := ra3.ext hc
 have r1 := r1.ext hc
 have hs := hs.ext hc
 have hM0 := hM0.ext hc
 refine from_end rfl (then_normal ?_)
 refine (wp_if hF (b := (!x13)) rfl (fun hb => ?_) (fun hb => ?_))
 · replace h := iteT hb h
   have hs : Sep [] w18 S15 := Sep.pick [] hs (by decide) rfl
   refine wp_seq (wp_pure [(8, .bool false)] hF (by kernel_rfl) fun fr hF => then_normal ?_)
   obtain rfl := Option.some.inj h
   exact wp_ret (then_ret (ret1 rfl hF rfl ⟨_, rfl, rfl, hM0.chg⟩))
 replace h := iteF hb h
 refine (wp_skip (then_normal ?_))
 refine wp_seq ?_
 refine wp_seq (wp_text' ?_)
 refine from_pure 2 [(1, I p1), (2, L a2 p2 c2), (3, L a3 p3 c3), (4, B b1 0), (10, B b2 0), (11, L a8 x5.2.1 c8), (12, .bool x5.2.2), (13, B b3 0), (14, L a10 x7 c10), (15, L a11 x8 c11), (16, B b4 0), (17, L a13 x9.2.1 c13), (18, .bool x9.2.2), (83, L a10 x7 c10), (84, L a2 p2 c2)] hF (by kernel_rfl) fun fr hF => ?_
 obtain ⟨x14, hx14, h⟩ := bindE h
 refine s_call [L a2 p2 c2] Try.call26 rfl rfl hF rfl (laws_toIntS_ok n p2 hx14 (ra2)) fun v w19 fr hRes hF => ?_
 obtain ⟨a14, c14, rfl, _, hp, hs2⟩ := hRes
 obtain ⟨S16, hp, hs⟩ := hs.got hM0 hp hs2
 have ra2 := ra2.stp hM0 hp
 have ra3 := ra3.stp hM0 hp
 have r1 := r1.stp hM0 hp
 have hM0 := hM0.stp hp
 have hs : Sep [sl3 (L a14 x14 c14) x14, BX b4 28 [I x9.1.Inputs, L a12 x9.1.Gates c12], sl59 (L a12 x9.1.Gates c12) x9.1.Gates, sl3 (L a13 x9.2.1 c13) x9.2.1, sl3 (L a11 x8 c11) x8, sl3 (L a10 x7 c10) x7, BX b3 28 [I x6.Inputs, L a9 x6.Gates c9], sl59 (L a9 x6.Gates c9) x6.Gates, BX b2 28 [I x5.1.Inputs, L a7 x5.1.Gates c7], sl59 (L a7 x5.1.Gates c7) x5.1.Gates, sl3 (L a8 x5.2.1 c8) x5.2.1, BX b1 24 [I p0.Inputs, L a1 p0.Gates c1]] w19 S16 := hs
 obtain ⟨x15, hx15, h⟩ := bindE h
 refine s_call [L a10 x7 c10, L a14 x14 c14] Try.call28 rfl rfl hF rfl (laws_eqIntS_ok n x7 x14 hx15 (hs.rv 5 rfl) (hs.rv 0 rfl)) fun v w20 fr hRes hF => ?_
 obtain ⟨rfl, hc⟩ := hRes
 have ra2 := ra2.ext hc
 have ra3 := ra3.ext hc
 have r1 := r1.ext hc
 have hs := hs.ext hc
 have hM0 := hM0.ext hc
 have hs : Sep [BX b4 28 [I x9.1.Inputs, L a12 x9.1.Gates c12], sl59 (L a12 x9.1.Gates c12) x9.1.Gates, sl3 (L a13 x9.2.1 c13) x9.2.1, sl3 (L a11 x8 c11) x8, sl3 (L a10 x7 c10) x7, BX b3 28 [I x6.Inputs, L a9 x6.Gates c9], sl59 (L a9 x6.Gates c9) x6.Gates, BX b2 28 [I x5.1.Inputs, L a7 x5.1.Gates c7], sl59 (L a7 x5.1.Gates c7) x5.1.Gates, sl3 (L a8 x5.2.1 c8) x5.2.1, BX b1 24 [I p0.Inputs, L a1 p0.Gates c1]] w20 S16 := Sep.pick [1, 2, 3, 4, 5, 6, 7, 8, 9, 10, 11] hs (by decide) rfl
 refine from_pure 1 [(1, I p1), (2, L a2 p2 c2), (3, L a3 p3 c3), (4, B b1 0), (10, B b2 0), (11, L a8 x5.2.1 c8), (12, .bool x5.2.2), (13, B b3 0), (14, L a10 x7 c10), (15, L a11 x8 c11), (16, B b4 0), (17, L a13 x9.2.1 c13), (18, .bool x9.2.2), (87, .bool (!x15))] hF (by kernel_rfl) fun fr hF => ?_
 refine from_end rfl (then_normal ?_)
 refine (wp_if hF (b := (!x15)) rfl (fun hb => ?_) (fun hb => ?_))
 · replace h := iteT hb h
   have hs : Sep [] w20 S16 := Sep.pick [] hs (by decide) rfl
   refine wp_seq (wp_pure [(8, .bool false)] hF (by kernel_rfl) fun fr hF => then_normal ?_)
   obtain rfl := Option.some.inj h
   exact wp_ret (then_ret (ret1 rfl hF rfl ⟨_, rfl, rfl, hM0.chg⟩))
 replace h := iteF hb h
 refine (wp_skip (then_normal ?_))
 refine wp_seq ?_
 refine wp_seq (wp_text' ?_)
 refine from_pure 2 [(1, I p1), (2, L a2 p2 c2), (3, L a3 p3 c3), (4, B b1 0), (10, B b2 0), (11, L a8 x5.2.1 c8), (12, .bool x5.2.2), (13, B b3 0), (14, L a10 x7 c10), (15, L a11 x8 c11), (16, B b4 0), (17, L a13 x9.2.1 c13), (18, .bool x9.2.2), (88, L a11 x8 c11), (89, L a3 p3 c3)] hF (by kernel_rfl) fun fr hF => ?_
 obtain ⟨x16, hx16, h⟩ := bindE h
 refine s_call [L a3 p3 c3] Try.call26 rfl rfl hF rfl (laws_toIntS_ok n p3 hx16 (ra3)) fun v w21 fr hRes hF => ?_
 obtain ⟨a15, c15, rfl, _, hp, hs2⟩ := hRes
 obtain ⟨S17, hp, hs⟩ := hs.got hM0 hp hs2
 have ra2 := ra2.stp hM0 hp
 have ra3 := ra3.stp hM0 hp
 have r1 := r1.stp hM0 hp
 have hM0 := hM0.stp hp
 have hs : Sep [sl3 (L a15 x16 c15) x16, BX b4 28 [I x9.1.Inputs, L a12 x9.1.Gates c12], sl59 (L a12 x9.1.Gates c12) x9.1.Gates, sl3 (L a13 x9.2.1 c13) x9.2.1, sl3 (L a11 x8 c11) x8, sl3 (L a10 x7 c10) x7, BX b3 28 [I x6.Inputs, L a9 x6.Gates c9], sl59 (L a9 x6.Gates c9) x6.Gates, BX b2 28 [I x5.1.Inputs, L a7 x5.1.Gates c7], sl59 (L a7 x5.1.Gates c7) x5.1.Gates, sl3 (L a8 x5.2.1 c8) x5.2.1, BX b1 24 [I p0.Inputs, L a1 p0.Gates c1]] w21 S17 := hs
 obtain ⟨x17, hx17, h⟩ := bindE h
 refine s_call [L a11 x8 c11, L a15 x16 c15] Try.call28 rfl rfl hF rfl (laws_eqIntS_ok n x8 x16 hx17 (hs.rv 4 rfl) (hs.rv 0 rfl)) fun v w22 fr hRes hF => ?_
 obtain ⟨rfl, hc⟩ := hRes
 have ra2 := ra2.ext hc
 have ra3 := ra3.ext hc
 have r1 := r1.ext hc
 have hs := hs.ext hc
 have hM0 := hM0.ext hc
 have hs : Sep [BX b4 28 [I x9.1.Inputs, L a12 x9.1.Gates c12], sl59 (L a12 x9.1.Gates c12) x9.1.Gates, sl3 (L a13 x9.2.1 c13) x9.2.1, sl3 (L a11 x8 c11) x8, sl3 (L a10 x7 c10) x7, BX b3 28 [I x6.Inputs, L a9 x6.Gates c9], sl59 (L a9 x6.Gates c9) x6.Gates, BX b2 28 [I x5.1.Inputs, L a7 x5.1.Gates c7], sl59 (L a7 x5.1.Gates c7) x5.1.Gates, sl3 (L a8 x5.2.1 c8) x5.2.1, BX b1 24 [I p0.Inputs, L a1 p0.Gates c1]] w22 S17 := Sep.pick [1, 2, 3, 4, 5, 6, 7, 8, 9, 10, 11] hs (by decide) rfl
 refine from_pure 1 [(1, I p1), (2, L a2 p2 c2), (3, L a3 p3 c3), (4, B b1 0), (10, B b2 0), (11, L a8 x5.2.1 c8), (12, .bool x5.2.2), (13, B b3 0), (14, L a10 x7 c10), (15, L a11 x8 c11), (16, B b4 0), (17, L a13 x9.2.1 c13), (18, .bool x9.2.2), (92, .bool (!x17))] hF (by kernel_rfl) fun fr hF => ?_
 refine from_end rfl (then_normal ?_)
 refine (wp_if hF (b := (!x17)) rfl (fun hb => ?_) (fun hb => ?_))
 · replace h := iteT hb h
   have hs : Sep [] w22 S17 := Sep.pick [] hs (by decide) rfl
   refine wp_seq (wp_pure [(8, .bool false)] hF (by kernel_rfl) fun fr hF => then_normal ?_)
   obtain rfl := Option.some.inj h
   exact wp_ret (then_ret (ret1 rfl hF rfl ⟨_, rfl, rfl, hM0.chg⟩))
 replace h := iteF hb h
 refine (wp_skip (then_normal ?_))
 refine wp_seq (wp_pure [(1, I p1), (2, L a2 p2 c2), (3, L a3 p3 c3), (4, B b1 0), (10, B b2 0), (11, L a8 x5.2.1 c8), (12, .bool x5.2.2), (13, B b3 0), (14, L a10 x7 c10), (15, L a11 x8 c11), (16, B b4 0), (17, L a13 x9.2.1 c13), (18, .bool x9.2.2), (19, I 1)] hF (by kernel_rfl) fun fr hF => then_normal ?_)
 refine wp_seq (wp_text' ?_)
 refine s_loadBoxS ty28 rfl rfl hF rfl (hs.bx 5 rfl) rfl rfl fun fr hF => ?_
 have hs : Sep [BX b4 28 [I x9.1.Inputs, L a12 x9.1.Gates c12], sl59 (L a12 x9.1.Gates c12) x9.1.Gates, sl3 (L a13 x9.2.1 c13) x9.2.1, sl3 (L a11 x8 c11) x8, sl3 (L a10 x7 c10) x7, sl59 (L a9 x6.Gates c9) x6.Gates, BX b2 28 [I x5.1.Inputs, L a7 x5.1.Gates c7], sl59 (L a7 x5.1.Gates c7) x5.1.Gates, sl3 (L a8 x5.2.1 c8) x5.2.1, BX b1 24 [I p0.Inputs, L a1 p0.Gates c1]] w22 S17 := Sep.pick [0, 1, 2, 3, 4, 6, 7, 8, 9, 10] hs (by decide) rfl
 refine from_pure 1 [(1, I p1), (2, L a2 p2 c2), (3, L a3 p3 c3), (4, B b1 0), (10, B b2 0), (11, L a8 x5.2.1 c8), (12, .bool x5.2.2), (14, L a10 x7 c10), (15, L a11 x8 c11), (16, B b4 0), (17, L a13 x9.2.1 c13), (18, .bool x9.2.2), (93, .agg #[I x6.Inputs, L a9 x6.Gates c9]), (94, I 1)] hF (by kernel_rfl) fun fr hF => ?_
 obtain ⟨x18, hx18, h⟩ := bindE h
 have hs : Sep [sl59 (L a9 x6.Gates c9) x6.Gates, BX b4 28 [I x9.1.Inputs, L a12 x9.1.Gates c12], sl59 (L a12 x9.1.Gates c12) x9.1.Gates, sl3 (L a13 x9.2.1 c13) x9.2.1, sl3 (L a11 x8 c11) x8, sl3 (L a10 x7 c10) x7, BX b2 28 [I x5.1.Inputs, L a7 x5.1.Gates c7], sl59 (L a7 x5.1.Gates c7) x5.1.Gates, sl3 (L a8 x5.2.1 c8) x5.2.1, BX b1 24 [I p0.Inputs, L a1 p0.Gates c1]] w22 S17 := Sep.pick [5, 0, 1, 2, 3, 4, 6, 7, 8, 9] hs (by decide) rfl
 obtain ⟨A1, R1, hsA, hsR, hdA, hbA, hup⟩ := Sep.call (L1 := [sl59 (L a9 x6.Gates c9) x6.Gates]) (L2 := [BX b4 28 [I x9.1.Inputs, L a12 x9.1.Gates c12], sl59 (L a12 x9.1.Gates c12) x9.1.Gates, sl3 (L a13 x9.2.1 c13) x9.2.1, sl3 (L a11 x8 c11) x8, sl3 (L a10 x7 c10) x7, BX b2 28 [I x5.1.Inputs, L a7 x5.1.Gates c7], sl59 (L a7 x5.1.Gates c7) x5.1.Gates, sl3 (L a8 x5.2.1 c8) x5.2.1, BX b1 24 [I p0.Inputs, L a1 p0.Gates c1]]) hs hM0
 refine s_call [.agg #[I x6.Inputs, L a9 x6.Gates c9], I 1] Try.call17 rfl rfl hF rfl (laws_markCircuit_ok n x6 1 hx18 hsA hbA hdA) fun v w23 fr hRes hF => ?_
 obtain ⟨rfl, _, hp, hs⟩ := hRes
 obtain ⟨S18, hp, hs⟩ := hup hp hs
 have ra2 := ra2.stp hM0 hp
 have ra3 := ra3.stp hM0 hp
 have r1 := r1.stp hM0 hp
 have hM0 := hM0.stp hp
 have hs : Sep [sl59 (L a9 x6.Gates c9) x18.2.Gates, BX b4 28 [I x9.1.Inputs, L a12 x9.1.Gates c12], sl59 (L a12 x9.1.Gates c12) x9.1.Gates, sl3 (L a13 x9.2.1 c13) x9.2.1, sl3 (L a11 x8 c11) x8, sl3 (L a10 x7 c10) x7, BX b2 28 [I x5.1.Inputs, L a7 x5.1.Gates c7], sl59 (L a7 x5.1.Gates c7) x5.1.Gates, sl3 (L a8 x5.2.1 c8) x5.2.1, BX b1 24 [I p0.Inputs, L a1 p0.Gates c1]] w23 S18 := hs
 have hs : Sep [BX b4 28 [I x9.1.Inputs, L a12 x9.1.Gates c12], sl59 (L a12 x9.1.Gates c12) x9.1.Gates, sl3 (L a13 x9.2.1 c13) x9.2.1, sl3 (L a11 x8 c11) x8, sl3 (L a10 x7 c10) x7, BX b2 28 [I x5.1.Inputs, L a7 x5.1.Gates c7], sl59 (L a7 x5.1.Gates c7) x5.1.Gates, sl3 (L a8 x5.2.1 c8) x5.2.1, BX b1 24 [I p0.Inputs, L a1 p0.Gates c1]] w23 S18 := Sep.pick [1, 2, 3, 4, 5, 6, 7, 8, 9] hs (by decide) rfl
 refine from_pure 1 [(1, I p1), (2, L a2 p2 c2), (3, L a3 p3 c3), (4, B b1 0), (10, B b2 0), (11, L a8 x5.2.1 c8), (12, .bool x5.2.2), (14, L a10 x7 c10), (15, L a11 x8 c11), (16, B b4 0), (17, L a13 x9.2.1 c13), (18, .bool x9.2.2), (19, I x18.1)] hF (by kernel_rfl) fun fr hF => ?_
 refine from_end rfl (then_normal ?_)
 refine wp_seq (wp_text' ?_)
 refine from_pure 2 [(1, I p1), (2, L a2 p2 c2), (3, L a3 p3 c3), (4, B b1 0), (10, B b2 0), (11, L a8 x5.2.1 c8), (12, .bool x5.2.2), (15, L a11 x8 c11), (16, B b4 0), (17, L a13 x9.2.1 c13), (18, .bool x9.2.2), (96, L a10 x7 c10), (97, I x18.1)] hF (by kernel_rfl) fun fr hF => ?_
 obtain ⟨x19, hx19, h⟩ := bindE h
 have hs : Sep [sl3 (L a10 x7 c10) x7, BX b4 28 [I x9.1.Inputs, L a12 x9.1.Gates c12], sl59 (L a12 x9.1.Gates c12) x9.1.Gates, sl3 (L a13 x9.2.1 c13) x9.2.1, sl3 (L a11 x8 c11) x8, BX b2 28 [I x5.1.Inputs, L a7 x5.1.Gates c7], sl59 (L a7 x5.1.Gates c7) x5.1.Gates, sl3 (L a8 x5.2.1 c8) x5.2.1, BX b1 24 [I p0.Inputs, L a1 p0.Gates c1]] w23 S18 := Sep.pick [4, 0, 1, 2, 3, 5, 6, 7, 8] hs (by decide) rfl
 obtain ⟨A2, R2, hsA, hsR, hdA, hbA, hup⟩ := Sep.call (L1 := [sl3 (L a10 x7 c10) x7]) (L2 := [BX b4 28 [I x9.1.Inputs, L a12 x9.1.Gates c12], sl59 (L a12 x9.1.Gates c12) x9.1.Gates, sl3 (L a13 x9.2.1 c13) x9.2.1, sl3 (L a11 x8 c11) x8, BX b2 28 [I x5.1.Inputs, L a7 x5.1.Gates c7], sl59 (L a7 x5.1.Gates c7) x5.1.Gates, sl3 (L a8 x5.2.1 c8) x5.2.1, BX b1 24 [I p0.Inputs, L a1 p0.Gates c1]]) hs hM0
 refine s_call [L a10 x7 c10, I x18.1] Try.call29 rfl rfl hF rfl (laws_markIntS_ok n x7 x18.1 hx19 hsA hbA hdA) fun v w24 fr hRes hF => ?_
 obtain ⟨rfl, _, hp, hs⟩ := hRes
 obtain ⟨S19, hp, hs⟩ := hup hp hs
 have ra2 := ra2.stp hM0 hp
 have ra3 := ra3.stp hM0 hp
 have r1 := r1.stp hM0 hp
 have hM0 := hM0.stp hp
 have hs : Sep [sl3 (L a10 x7 c10) x19.2, BX b4 28 [I x9.1.Inputs, L a12 x9.1.Gates c12], sl59 (L a12 x9.1.Gates c12) x9.1.Gates, sl3 (L a13 x9.2.1 c13) x9.2.1, sl3 (L a11 x8 c11) x8, BX b2 28 [I x5.1.Inputs, L a7 x5.1.Gates c7], sl59 (L a7 x5.1.Gates c7) x5.1.Gates, sl3 (L a8 x5.2.1 c8) x5.2.1, BX b1 24 [I p0.Inputs, L a1 p0.Gates c1]] w24 S19 := hs
 have hs : Sep [BX b4 28 [I x9.1.Inputs, L a12 x9.1.Gates c12], sl59 (L a12 x9.1.Gates c12) x9.1.Gates, sl3 (L a13 x9.2.1 c13) x9.2.1, sl3 (L a11 x8 c11) x8, BX b2 28 [I x5.1.Inputs, L a7 x5.1.Gates c7], sl59 (L a7 x5.1.Gates c7) x5.1.Gates, sl3 (L a8 x5.2.1 c8) x5.2.1, BX b1 24 [I p0.Inputs, L a1 p0.Gates c1]] w24 S19 := Sep.pick [1, 2, 3, 4, 5, 6, 7, 8] hs (by decide) rfl
 refine from_pure 1 [(1, I p1), (2, L a2 p2 c2), (3, L a3 p3 c3), (4, B b1 0), (10, B b2 0), (11, L a8 x5.2.1 c8), (12, .bool x5.2.2), (15, L a11 x8 c11), (16, B b4 0), (17, L a13 x9.2.1 c13), (18, .bool x9.2.2), (19, I x19.1)] hF (by kernel_rfl) fun fr hF => ?_
 refine from_end rfl (then_normal ?_)
 refine wp_seq (wp_text' ?_)
 refine from_pure 2 [(1, I p1), (2, L a2 p2 c2), (3, L a3 p3 c3), (4, B b1 0), (10, B b2 0), (11, L a8 x5.2.1 c8), (12, .bool x5.2.2), (16, B b4 0), (17, L a13 x9.2.1 c13), (18, .bool x9.2.2), (99, L a11 x8 c11), (100, I x19.1)] hF (by kernel_rfl) fun fr hF => ?_
 obtain ⟨x20, hx20, h⟩ := bindE h
 have hs : Sep [sl3 (L a11 x8 c11) x8, BX b4 28 [I x9.1.Inputs, L a12 x9.1.Gates c12], sl59 (L a12 x9.1.Gates c12) x9.1.Gates, sl3 (L a13 x9.2.1 c13) x9.2.1, BX b2 28 [I x5.1.Inputs, L a7 x5.1.Gates c7], sl59 (L a7 x5.1.Gates c7) x5.1.Gates, sl3 (L a8 x5.2.1 c8) x5.2.1, BX b1 24 [I p0.Inputs, L a1 p0.Gates c1]] w24 S19 := Sep.pick [3, 0, 1, 2, 4, 5, 6, 7] hs (by decide) rfl
 obtain ⟨A3, R3, hsA, hsR, hdA, hbA, hup⟩ := Sep.call (L1 := [sl3 (L a11 x8 c11) x8]) (L2 := [BX b4 28 [I x9.1.Inputs, L a12 x9.1.Gates c12], sl59 (L a12 x9.1.Gates c12) x9.1.Gates, sl3 (L a13 x9.2.1 c13) x9.2.1, BX b2 28 [I x5.1.Inputs, L a7 x5.1.Gates c7], sl59 (L a7 x5.1.Gates c7) x5.1.Gates, sl3 (L a8 x5.2.1 c8) x5.2.1, BX b1 24 [I p0.Inputs, L a1 p0.Gates c1]]) hs hM0
 refine s_call [L a11 x8 c11, I x19.1] Try.call29 rfl rfl hF rfl (laws_markIntS_ok n x8 x19.1 hx20 hsA hbA hdA) fun v w25 fr hRes hF => ?_
 obtain ⟨rfl, _, hp, hs⟩ := hRes
 obtain ⟨S20, hp, hs⟩ := hup hp hs
 have ra2 := ra2.stp hM0 hp
 have ra3 := ra3.stp hM0 hp
 have r1 := r1.stp hM0 hp
 have hM0 := hM0.stp hp
 have hs : Sep [sl3 (L a11 x8 c11) x20.2, BX b4 28 [I x9.1.Inputs, L a12 x9.1.Gates c12], sl59 (L a12 x9.1.Gates c12) x9.1.Gates, sl3 (L a13 x9.2.1 c13) x9.2.1, BX b2 28 [I x5.1.Inputs, L a7 x5.1.Gates c7], sl59 (L a7 x5.1.Gates c7) x5.1.Gates, sl3 (L a8 x5.2.1 c8) x5.2.1, BX b1 24 [I p0.Inputs, L a1 p0.Gates c1]] w25 S20 := hs
 have hs : Sep [BX b4 28 [I x9.1.Inputs, L a12 x9.1.Gates c12], sl59 (L a12 x9.1.Gates c12) x9.1.Gates, sl3 (L a13 x9.2.1 c13) x9.2.1, BX b2 28 [I x5.1.Inputs, L a7 x5.1.Gates c7], sl59 (L a7 x5.1.Gates c7) x5.1.Gates, sl3 (L a8 x5.2.1 c8) x5.2.1, BX b1 24 [I p0.Inputs, L a1 p0.Gates c1]] w25 S20 := Sep.pick [1, 2, 3, 4, 5, 6, 7] hs (by decide) rfl
 refine from_pure 1 [(1, I p1), (2, L a2 p2 c2), (3, L a3 p3 c3), (4, B b1 0), (10, B b2 0), (11, L a8 x5.2.1 c8), (12, .bool x5.2.2), (16, B b4 0), (17, L a13 x9.2.1 c13), (18, .bool x9.2.2), (19, I x20.1)] hF (by kernel_rfl) fun fr hF => ?_
 refine from_end rfl (then_normal ?_)
 refine wp_seq ?_
 obtain ⟨x21, hx21, h⟩ := bindE h
 obtain ⟨x22, hx22, h⟩ := bindE h
 refine wp_seq (region_b [] [true, true, true, false, false, false, true, true, true, true, true, false, true, true, true, true, true, true, true]
     [.eq (I x20.1), .eq (.bool (decide (x20.1 < 0))), .eq (.bool (decide (x20.1 < 0))), .eq (.agg #[I x9.1.Inputs, L a12 x9.1.Gates c12]), .eq (.agg #[I x5.1.Inputs, L a7 x5.1.Gates c7]), .eq (.bool x21), .eq (.bool (!x21)), .eq (.bool ((decide (x20.1 < 0)) || (!x21))), .eq (.bool ((decide (x20.1 < 0)) || (!x21))), .eq (L a13 x9.2.1 c13), .eq (L a8 x5.2.1 c8), .eq (.bool x22), .eq (.bool (!x22)), .eq (.bool (((decide (x20.1 < 0)) || (!x21)) || (!x22))), .eq (.bool (((decide (x20.1 < 0)) || (!x21)) || (!x22))), .eq (.bool x9.2.2), .eq (.bool x5.2.2), .eq (.bool (!(x9.2.2 == x5.2.2))), .eq (.bool ((((decide (x20.1 < 0)) || (!x21)) || (!x22)) || (!(x9.2.2 == x5.2.2))))]
     [(1, I p1), (2, L a2 p2 c2), (3, L a3 p3 c3), (4, B b1 0), (10, B b2 0), (11, L a8 x5.2.1 c8), (12, .bool x5.2.2), (16, B b4 0), (17, L a13 x9.2.1 c13), (120, .bool ((((decide (x20.1 < 0)) || (!x21)) || (!x22)) || (!(x9.2.2 == x5.2.2))))] mix hF (by kernel_rfl) (by kernel_rfl) (by kernel_rfl) ⟨Pd.mono_eq, Pd.mono_eq, Pd.mono_eq, Pd.mono_eq, trivial⟩ (fun hG => ⟨np_loadBoxS hG hF ty28 rfl rfl (hs.bx 0 rfl) rfl rfl rfl rfl, np_loadBoxS hG hF ty28 rfl rfl (hs.bx 3 rfl) rfl rfl rfl rfl, np_call [.agg #[I x9.1.Inputs, L a12 x9.1.Gates c12], .agg #[I x5.1.Inputs, L a7 x5.1.Gates c7]] hG hF Try.call16 rfl rfl (fun w hC hg => (laws_eqCircuit_ok n x9.1 x5.1 (iteF hg.2 hx21) ((RV.mk_Circuit x9.1 (RV.any (hs.rv 1 rfl))).ext hC) ((RV.mk_Circuit x5.1 (RV.any (hs.rv 4 rfl))).ext hC)).mono fun e w' ⟨v, he, hv, hc⟩ => ⟨v, he, hc, hv⟩), np_call [L a13 x9.2.1 c13, L a8 x5.2.1 c8] hG hF Try.call28 rfl rfl (fun w hC hg => (laws_eqIntS_ok n x9.2.1 x5.2.1 (iteF hg.2 hx22) ((hs.rv 2 rfl).ext hC) ((hs.rv 5 rfl).ext hC)).mono fun e w' ⟨v, he, hv, hc⟩ => ⟨v, he, hc, hv⟩), trivial⟩) (by kernel_rfl) fun fr w26 hF hE hc => then_normal ?_)
 have ra2 := ra2.ext hc
 have ra3 := ra3.ext hc
 have r1 := r1.ext hc
 have hs := hs.ext hc
 have hM0 := hM0.ext hc
 refine (wp_if hF (b := ((((decide (x20.1 < 0)) || (!x21)) || (!x22)) || (!(x9.2.2 == x5.2.2)))) rfl (fun hb => ?_) (fun hb => ?_))
 · replace h := iteT hb h
   have hs : Sep [] w26 S20 := Sep.pick [] hs (by decide) rfl
   refine wp_seq (wp_pure [(8, .bool false)] hF (by kernel_rfl) fun fr hF => then_normal ?_)
   obtain rfl := Option.some.inj h
   exact wp_ret (then_ret (ret1 rfl hF rfl ⟨_, rfl, rfl, hM0.chg⟩))
 replace h := iteF hb h
 refine (wp_skip (then_normal ?_))
 refine wp_seq (wp_pure [(1, I p1), (2, L a2 p2 c2), (3, L a3 p3 c3), (4, B b1 0), (10, B b2 0), (11, L a8 x5.2.1 c8), (12, .bool x5.2.2), (16, B b4 0), (17, L a13 x9.2.1 c13), (20, I 1)] hF (by kernel_rfl) fun fr hF => then_normal ?_)
 refine wp_seq (wp_text' ?_)
 refine s_loadBoxS ty28 rfl rfl hF rfl (hs.bx 0 rfl) rfl rfl fun fr hF => ?_
 refine from_pure 1 [(1, I p1), (2, L a2 p2 c2), (3, L a3 p3 c3), (4, B b1 0), (10, B b2 0), (11, L a8 x5.2.1 c8), (12, .bool x5.2.2), (16, B b4 0), (17, L a13 x9.2.1 c13), (121, .agg #[I x9.1.Inputs, L a12 x9.1.Gates c12]), (122, I 1)] hF (by kernel_rfl) fun fr hF => ?_
 obtain ⟨x23, hx23, h⟩ := bindE h
 have hs : Sep [sl59 (L a12 x9.1.Gates c12) x9.1.Gates, BX b4 28 [I x9.1.Inputs, L a12 x9.1.Gates c12], sl3 (L a13 x9.2.1 c13) x9.2.1, BX b2 28 [I x5.1.Inputs, L a7 x5.1.Gates c7], sl59 (L a7 x5.1.Gates c7) x5.1.Gates, sl3 (L a8 x5.2.1 c8) x5.2.1, BX b1 24 [I p0.Inputs, L a1 p0.Gates c1]] w26 S20 := Sep.pick [1, 0, 2, 3, 4, 5, 6] hs (by decide) rfl
 obtain ⟨A4, R4, hsA, hsR, hdA, hbA, hup⟩ := Sep.call (L1 := [sl59 (L a12 x9.1.Gates c12) x9.1.Gates]) (L2 := [BX b4 28 [I x9.1.Inputs, L a12 x9.1.Gates c12], sl3 (L a13 x9.2.1 c13) x9.2.1, BX b2 28 [I x5.1.Inputs, L a7 x5.1.Gates c7], sl59 (L a7 x5.1.Gates c7) x5.1.Gates, sl3 (L a8 x5.2.1 c8) x5.2.1, BX b1 24 [I p0.Inputs, L a1 p0.Gates c1]]) hs hM0
 refine s_call [.agg #[I x9.1.Inputs, L a12 x9.1.Gates c12], I 1] Try.call17 rfl rfl hF rfl (laws_markCircuit_ok n x9.1 1 hx23 hsA hbA hdA) fun v w27 fr hRes hF => ?_
 obtain ⟨rfl, _, hp, hs⟩ := hRes
 obtain ⟨S21, hp, hs⟩ := hup hp hs
 have ra2 := ra2.stp hM0 hp
 have ra3 := ra3.stp hM0 hp
 have r1 := r1.stp hM0 hp
 have hM0 := hM0.stp hp
 have hs : Sep [sl59 (L a12 x9.1.Gates c12) x23.2.Gates, BX b4 28 [I x9.1.Inputs, L a12 x9.1.Gates c12], sl3 (L a13 x9.2.1 c13) x9.2.1, BX b2 28 [I x5.1.Inputs, L a7 x5.1.Gates c7], sl59 (L a7 x5.1.Gates c7) x5.1.Gates, sl3 (L a8 x5.2.1 c8) x5.2.1, BX b1 24 [I p0.Inputs, L a1 p0.Gates c1]] w27 S21 := hs
 refine from_pure 1 [(1, I p1), (2, L a2 p2 c2), (3, L a3 p3 c3), (4, B b1 0), (10, B b2 0), (11, L a8 x5.2.1 c8), (12, .bool x5.2.2), (16, B b4 0), (17, L a13 x9.2.1 c13), (20, I x23.1)] hF (by kernel_rfl) fun fr hF => ?_
 refine from_end rfl (then_normal ?_)
 refine wp_seq (wp_text' ?_)
 refine from_pure 2 [(1, I p1), (2, L a2 p2 c2), (3, L a3 p3 c3), (4, B b1 0), (10, B b2 0), (11, L a8 x5.2.1 c8), (12, .bool x5.2.2), (16, B b4 0), (17, L a13 x9.2.1 c13), (124, L a13 x9.2.1 c13), (125, I x23.1)] hF (by kernel_rfl) fun fr hF => ?_
 obtain ⟨x24, hx24, h⟩ := bindE h
 have hs : Sep [sl3 (L a13 x9.2.1 c13) x9.2.1, sl59 (L a12 x9.1.Gates c12) x23.2.Gates, BX b4 28 [I x9.1.Inputs, L a12 x9.1.Gates c12], BX b2 28 [I x5.1.Inputs, L a7 x5.1.Gates c7], sl59 (L a7 x5.1.Gates c7) x5.1.Gates, sl3 (L a8 x5.2.1 c8) x5.2.1, BX b1 24 [I p0.Inputs, L a1 p0.Gates c1]] w27 S21 := Sep.pick [2, 0, 1, 3, 4, 5, 6] hs (by decide) rfl
 obtain ⟨A5, R5, hsA, hsR, hdA, hbA, hup⟩ := Sep.call (L1 := [sl3 (L a13 x9.2.1 c13) x9.2.1]) (L2 := [sl59 (L a12 x9.1.Gates c12) x23.2.Gates, BX b4 28 [I x9.1.Inputs, L a12 x9.1.Gates c12], BX b2 28 [I x5.1.Inputs, L a7 x5.1.Gates c7], sl59 (L a7 x5.1.Gates c7) x5.1.Gates, sl3 (L a8 x5.2.1 c8) x5.2.1, BX b1 24 [I p0.Inputs, L a1 p0.Gates c1]]) hs hM0
 refine s_call [L a13 x9.2.1 c13, I x23.1] Try.call29 rfl rfl hF rfl (laws_markIntS_ok n x9.2.1 x23.1 hx24 hsA hbA hdA) fun v w28 fr hRes hF => ?_
 obtain ⟨rfl, _, hp, hs⟩ := hRes
 obtain ⟨S22, hp, hs⟩ := hup hp hs
 have ra2 := ra2.stp hM0 hp
 have ra3 := ra3.stp hM0 hp
 have r1 := r1.stp hM0 hp
 have hM0 := hM0.stp hp
 have hs : Sep [sl3 (L a13 x9.2.1 c13) x24.2, sl59 (L a12 x9.1.Gates c12) x23.2.Gates, BX b4 28 [I x9.1.Inputs, L a12 x9.1.Gates c12], BX b2 28 [I x5.1.Inputs, L a7 x5.1.Gates c7], sl59 (L a7 x5.1.Gates c7) x5.1.Gates, sl3 (L a8 x5.2.1 c8) x5.2.1, BX b1 24 [I p0.Inputs, L a1 p0.Gates c1]] w28 S22 := hs
 refine from_pure 1 [(1, I p1), (2, L a2 p2 c2), (3, L a3 p3 c3), (4, B b1 0), (10, B b2 0), (11, L a8 x5.2.1 c8), (12, .bool x5.2.2), (16, B b4 0), (17, L a13 x9.2.1 c13), (20, I x24.1)] hF (by kernel_rfl) fun fr hF => ?_
 refine from_end rfl (then_normal ?_)
 refine wp_seq (wp_pure [(1, I p1), (2, L a2 p2 c2), (3, L a3 p3 c3), (4, B b1 0), (10, B b2 0), (11, L a8 x5.2.1 c8), (12, .bool x5.2.2), (16, B b4 0), (17, L a13 x9.2.1 c13), (20, I x24.1), (21, I 1)] hF (by kernel_rfl) fun fr hF => then_normal ?_)
 refine wp_seq (wp_text' ?_)
 refine s_loadBoxS ty28 rfl rfl hF rfl (hs.bx 2 rfl) rfl rfl fun fr hF => ?_
 refine from_pure 1 [(1, I p1), (2, L a2 p2 c2), (3, L a3 p3 c3), (4, B b1 0), (10, B b2 0), (11, L a8 x5.2.1 c8), (12, .bool x5.2.2), (16, B b4 0), (17, L a13 x9.2.1 c13), (20, I x24.1), (127, .agg #[I x9.1.Inputs, L a12 x9.1.Gates c12]), (128, I 1)] hF (by kernel_rfl) fun fr hF => ?_
 obtain ⟨x25, hx25, h⟩ := bindE h
 refine s_call [.agg #[I x9.1.Inputs, L a12 x9.1.Gates c12], I 1] Try.call18 rfl rfl hF rfl (laws_heldCircuit_ok n (D.Circuit.mk x9.1.Inputs x23.2.Gates) 1 hx25 (RV.mk_Circuit (D.Circuit.mk x9.1.Inputs x23.2.Gates) (RV.any (hs.rv 1 rfl)))) fun v w29 fr hRes hF => ?_
 obtain ⟨rfl, hc⟩ := hRes
 have ra2 := ra2.ext hc
 have ra3 := ra3.ext hc
 have r1 := r1.ext hc
 have hs := hs.ext hc
 have hM0 := hM0.ext hc
 refine from_pure 1 [(1, I p1), (2, L a2 p2 c2), (3, L a3 p3 c3), (4, B b1 0), (10, B b2 0), (11, L a8 x5.2.1 c8), (12, .bool x5.2.2), (16, B b4 0), (17, L a13 x9.2.1 c13), (20, I x24.1), (21, I x25)] hF (by kernel_rfl) fun fr hF => ?_
 refine from_end rfl (then_normal ?_)
 refine wp_seq ?_
 refine wp_seq (wp_pure [(1, I p1), (2, L a2 p2 c2), (3, L a3 p3 c3), (4, B b1 0), (10, B b2 0), (11, L a8 x5.2.1 c8), (12, .bool x5.2.2), (16, B b4 0), (17, L a13 x9.2.1 c13), (20, I x24.1), (21, I x25), (131, .bool (decide (x25 < 0)))] hF (by kernel_rfl) fun fr hF => then_normal ?_)
 refine (wp_if hF (b := (decide (x25 < 0))) rfl (fun hb => ?_) (fun hb => ?_))
 · replace h := iteT hb h
   have hs : Sep [] w29 S22 := Sep.pick [] hs (by decide) rfl
   refine wp_seq (wp_pure [(8, .bool false)] hF (by kernel_rfl) fun fr hF => then_normal ?_)
   obtain rfl := Option.some.inj h
   exact wp_ret (then_ret (ret1 rfl hF rfl ⟨_, rfl, rfl, hM0.chg⟩))
 replace h := iteF hb h
 refine (wp_skip (then_normal ?_))
 refine wp_seq (wp_text' ?_)
 refine from_pure 2 [(1, I p1), (2, L a2 p2 c2), (3, L a3 p3 c3), (4, B b1 0), (10, B b2 0), (11, L a8 x5.2.1 c8), (12, .bool x5.2.2), (16, B b4 0), (17, L a13 x9.2.1 c13), (20, I x24.1), (132, L a13 x9.2.1 c13), (133, I x25)] hF (by kernel_rfl) fun fr hF => ?_
 obtain ⟨x26, hx26, h⟩ := bindE h
 refine s_call [L a13 x9.2.1 c13, I x25] Try.call30 rfl rfl hF rfl (laws_heldIntS_ok n x24.2 x25 hx26 (hs.rv 0 rfl)) fun v w30 fr hRes hF => ?_
 obtain ⟨rfl, hc⟩ := hRes
 have ra2 := ra2.ext hc
 have ra3 := ra3.ext hc
 have r1 := r1.ext hc
 have hs := hs.ext hc
 have hM0 := hM0.ext hc
 refine from_pure 1 [(1, I p1), (2, L a2 p2 c2), (3, L a3 p3 c3), (4, B b1 0), (10, B b2 0), (11, L a8 x5.2.1 c8), (12, .bool x5.2.2), (16, B b4 0), (17, L a13 x9.2.1 c13), (20, I x24.1), (21, I x26)] hF (by kernel_rfl) fun fr hF => ?_
 refine from_end rfl (then_normal ?_)
 refine wp_seq ?_
 refine wp_seq (wp_pure [(1, I p1), (2, L a2 p2 c2), (3, L a3 p3 c3), (4, B b1 0), (10, B b2 0), (11, L a8 x5.2.1 c8), (12, .bool x5.2.2), (16, B b4 0), (17, L a13 x9.2.1 c13), (20, I x24.1), (21, I x26), (136, .bool (decide (x26 < 0)))] hF (by kernel_rfl) fun fr hF => then_normal ?_)
 refine (wp_if hF (b := (decide (x26 < 0))) rfl (fun hb => ?_) (fun hb => ?_))
 · replace h := iteT hb h
   have hs : Sep [] w30 S22 := Sep.pick [] hs (by decide) rfl
   refine wp_seq (wp_pure [(8, .bool false)] hF (by kernel_rfl) fun fr hF => then_normal ?_)
   obtain rfl := Option.some.inj h
   exact wp_ret (then_ret (ret1 rfl hF rfl ⟨_, rfl, rfl, hM0.chg⟩))
 replace h := iteF hb h
 refine (wp_skip (then_normal ?_))
 refine wp_seq ?_
 refine wp_seq (wp_pure [(1, I p1), (2, L a2 p2 c2), (3, L a3 p3 c3), (4, B b1 0), (10, B b2 0), (11, L a8 x5.2.1 c8), (12, .bool x5.2.2), (16, B b4 0), (17, L a13 x9.2.1 c13), (20, I x24.1), (139, .bool (x26 != x24.1))] hF (by kernel_rfl) fun fr hF => then_normal ?_)
 refine (wp_if hF (b := (x26 != x24.1)) rfl (fun hb => ?_) (fun hb => ?_))
 · replace h := iteT hb h
   have hs : Sep [] w30 S22 := Sep.pick [] hs (by decide) rfl
   refine wp_seq (wp_pure [(8, .bool false)] hF (by kernel_rfl) fun fr hF => then_normal ?_)
   obtain rfl := Option.some.inj h
   exact wp_ret (then_ret (ret1 rfl hF rfl ⟨_, rfl, rfl, hM0.chg⟩))
 replace h := iteF hb h
 refine (wp_skip (then_normal ?_))
 refine wp_seq (wp_text' ?_)
 refine s_loadBoxS ty24 rfl rfl hF rfl (hs.bx 6 rfl) rfl rfl fun fr hF => ?_
 have hs : Sep [sl3 (L a13 x9.2.1 c13) x24.2, sl59 (L a12 x9.1.Gates c12) x23.2.Gates, BX b4 28 [I x9.1.Inputs, L a12 x9.1.Gates c12], BX b2 28 [I x5.1.Inputs, L a7 x5.1.Gates c7], sl59 (L a7 x5.1.Gates c7) x5.1.Gates, sl3 (L a8 x5.2.1 c8) x5.2.1] w30 S22 := Sep.pick [0, 1, 2, 3, 4, 5] hs (by decide) rfl
 obtain ⟨x27, hx27, h⟩ := bindE h
 refine s_call [.agg #[I p0.Inputs, L a1 p0.Gates c1]] Try.call14 rfl rfl hF rfl (laws_toCircuit_ok n p0 hx27 (RV.mk_Circuit p0 (r1))) fun v w31 fr hRes hF => ?_
 obtain ⟨a16, c16, rfl, _, hp, hs2⟩ := hRes
 obtain ⟨S23, hp, hs⟩ := hs.got hM0 hp hs2
 have ra2 := ra2.stp hM0 hp
 have ra3 := ra3.stp hM0 hp
 have r1 := r1.stp hM0 hp
 have hM0 := hM0.stp hp
 have hs : Sep [sl59 (L a16 x27.Gates c16) x27.Gates, sl3 (L a13 x9.2.1 c13) x24.2, sl59 (L a12 x9.1.Gates c12) x23.2.Gates, BX b4 28 [I x9.1.Inputs, L a12 x9.1.Gates c12], BX b2 28 [I x5.1.Inputs, L a7 x5.1.Gates c7], sl59 (L a7 x5.1.Gates c7) x5.1.Gates, sl3 (L a8 x5.2.1 c8) x5.2.1] w31 S23 := hs
 refine from_pure 2 [(3, L a3 p3 c3), (10, B b2 0), (11, L a8 x5.2.1 c8), (12, .bool x5.2.2), (16, B b4 0), (17, L a13 x9.2.1 c13), (20, I x24.1), (142, .agg #[I x27.Inputs, L a16 x27.Gates c16]), (143, I p1), (144, L a2 p2 c2)] hF (by kernel_rfl) fun fr hF => ?_
 obtain ⟨x28, hx28, h⟩ := bindE h
 refine s_call [L a2 p2 c2] Try.call26 rfl rfl hF rfl (laws_toIntS_ok n p2 hx28 (ra2)) fun v w32 fr hRes hF => ?_
 obtain ⟨a17, c17, rfl, _, hp, hs2⟩ := hRes
 obtain ⟨S24, hp, hs⟩ := hs.got hM0 hp hs2
 have ra3 := ra3.stp hM0 hp
 have ra2 := ra2.stp hM0 hp
 have hM0 := hM0.stp hp
 have hs : Sep [sl3 (L a17 x28 c17) x28, sl59 (L a16 x27.Gates c16) x27.Gates, sl3 (L a13 x9.2.1 c13) x24.2, sl59 (L a12 x9.1.Gates c12) x23.2.Gates, BX b4 28 [I x9.1.Inputs, L a12 x9.1.Gates c12], BX b2 28 [I x5.1.Inputs, L a7 x5.1.Gates c7], sl59 (L a7 x5.1.Gates c7) x5.1.Gates, sl3 (L a8 x5.2.1 c8) x5.2.1] w32 S24 := hs
 refine from_pure 1 [(10, B b2 0), (11, L a8 x5.2.1 c8), (12, .bool x5.2.2), (16, B b4 0), (17, L a13 x9.2.1 c13), (20, I x24.1), (142, .agg #[I x27.Inputs, L a16 x27.Gates c16]), (143, I p1), (145, L a17 x28 c17), (146, L a3 p3 c3)] hF (by kernel_rfl) fun fr hF => ?_
 obtain ⟨x29, hx29, h⟩ := bindE h
 refine s_call [L a3 p3 c3] Try.call26 rfl rfl hF rfl (laws_toIntS_ok n p3 hx29 (ra3)) fun v w33 fr hRes hF => ?_
 obtain ⟨a18, c18, rfl, _, hp, hs2⟩ := hRes
 obtain ⟨S25, hp, hs⟩ := hs.got hM0 hp hs2
 have ra3 := ra3.stp hM0 hp
 have hM0 := hM0.stp hp
 have hs : Sep [sl3 (L a18 x29 c18) x29, sl3 (L a17 x28 c17) x28, sl59 (L a16 x27.Gates c16) x27.Gates, sl3 (L a13 x9.2.1 c13) x24.2, sl59 (L a12 x9.1.Gates c12) x23.2.Gates, BX b4 28 [I x9.1.Inputs, L a12 x9.1.Gates c12], BX b2 28 [I x5.1.Inputs, L a7 x5.1.Gates c7], sl59 (L a7 x5.1.Gates c7) x5.1.Gates, sl3 (L a8 x5.2.1 c8) x5.2.1] w33 S25 := hs
 obtain ⟨x30, hx30, h⟩ := bindE h
 refine s_call [.agg #[I x27.Inputs, L a16 x27.Gates c16], I p1, L a17 x28 c17, L a18 x29 c18] Try.call32 rfl rfl hF rfl (impl_OpLits_ok n x27 p1 x28 x29 hx30 (RV.mk_Circuit x27 (RV.any (hs.rv 2 rfl))) (hs.rv 1 rfl) (hs.rv 0 rfl)) fun v w34 fr hRes hF => ?_
 obtain ⟨a19, c19, a20, c20, rfl, _, hp, hs2⟩ := hRes
 obtain ⟨S26, hp, hs⟩ := hs.got hM0 hp hs2
 have hM0 := hM0.stp hp
 have hs : Sep [sl59 (L a19 x30.1.Gates c19) x30.1.Gates, sl3 (L a20 x30.2.1 c20) x30.2.1, sl3 (L a18 x29 c18) x29, sl3 (L a17 x28 c17) x28, sl59 (L a16 x27.Gates c16) x27.Gates, sl3 (L a13 x9.2.1 c13) x24.2, sl59 (L a12 x9.1.Gates c12) x23.2.Gates, BX b4 28 [I x9.1.Inputs, L a12 x9.1.Gates c12], BX b2 28 [I x5.1.Inputs, L a7 x5.1.Gates c7], sl59 (L a7 x5.1.Gates c7) x5.1.Gates, sl3 (L a8 x5.2.1 c8) x5.2.1] w34 S26 := hs
 have hs : Sep [sl59 (L a19 x30.1.Gates c19) x30.1.Gates, sl3 (L a20 x30.2.1 c20) x30.2.1, sl3 (L a13 x9.2.1 c13) x24.2, sl59 (L a12 x9.1.Gates c12) x23.2.Gates, BX b4 28 [I x9.1.Inputs, L a12 x9.1.Gates c12], BX b2 28 [I x5.1.Inputs, L a7 x5.1.Gates c7], sl59 (L a7 x5.1.Gates c7) x5.1.Gates, sl3 (L a8 x5.2.1 c8) x5.2.1] w34 S26 := Sep.pick [0, 1, 5, 6, 7, 8, 9, 10] hs (by decide) rfl
 refine from_pure 4 [(10, B b2 0), (11, L a8 x5.2.1 c8), (12, .bool x5.2.2), (16, B b4 0), (17, L a13 x9.2.1 c13), (20, I x24.1), (149, .agg #[I x30.1.Inputs, L a19 x30.1.Gates c19]), (150, L a20 x30.2.1 c20), (151, .bool x30.2.2)] hF (by kernel_rfl) fun fr hF => ?_
 refine q_alloc (z := .agg #[I 0, L none ([] : List D.Gate) 0]) hs hM0 [I 0, L none ([] : List D.Gate) 0] rfl rfl hF (by kernel_rfl) rfl fun b5 w35 S27 fr hs hp hF => ?_
 have hM0 := hM0.stp hp
 have hs : Sep [BX b5 28 [I 0, L none ([] : List D.Gate) 0], sl59 (L a19 x30.1.Gates c19) x30.1.Gates, sl3 (L a20 x30.2.1 c20) x30.2.1, sl3 (L a13 x9.2.1 c13) x24.2, sl59 (L a12 x9.1.Gates c12) x23.2.Gates, BX b4 28 [I x9.1.Inputs, L a12 x9.1.Gates c12], BX b2 28 [I x5.1.Inputs, L a7 x5.1.Gates c7], sl59 (L a7 x5.1.Gates c7) x5.1.Gates, sl3 (L a8 x5.2.1 c8) x5.2.1] w35 S27 := hs
 refine q_storeBoxS 0 hs hM0 rfl [I x30.1.Inputs, L a19 x30.1.Gates c19] rfl hF rfl rfl (by kernel_rfl) rfl rfl rfl fun w36 S28 hs hp hF => ?_
 have hM0 := hM0.stp hp
 have hs : Sep [BX b5 28 [I x30.1.Inputs, L a19 x30.1.Gates c19], sl59 (L a19 x30.1.Gates c19) x30.1.Gates, sl3 (L a20 x30.2.1 c20) x30.2.1, sl3 (L a13 x9.2.1 c13) x24.2, sl59 (L a12 x9.1.Gates c12) x23.2.Gates, BX b4 28 [I x9.1.Inputs, L a12 x9.1.Gates c12], BX b2 28 [I x5.1.Inputs, L a7 x5.1.Gates c7], sl59 (L a7 x5.1.Gates c7) x5.1.Gates, sl3 (L a8 x5.2.1 c8) x5.2.1] w36 S28 := hs
 refine from_pure 2 [(10, B b2 0), (11, L a8 x5.2.1 c8), (12, .bool x5.2.2), (16, B b4 0), (17, L a13 x9.2.1 c13), (20, I x24.1), (22, B b5 0), (23, L a20 x30.2.1 c20), (24, .bool x30.2.2)] hF (by kernel_rfl) fun fr hF => ?_
 refine from_end rfl (then_normal ?_)
 refine wp_seq ?_
 obtain ⟨x31, hx31, h⟩ := bindE h
 obtain ⟨x32, hx32, h⟩ := bindE h
 refine wp_seq (region_b [] [false, false, false, true, true, true, true, false, true, true, true, true, true, true, true]
     [.eq (.agg #[I x30.1.Inputs, L a19 x30.1.Gates c19]), .eq (.agg #[I x5.1.Inputs, L a7 x5.1.Gates c7]), .eq (.bool x31), .eq (.bool (!x31)), .eq (.bool (!x31)), .eq (L a20 x30.2.1 c20), .eq (L a8 x5.2.1 c8), .eq (.bool x32), .eq (.bool (!x32)), .eq (.bool ((!x31) || (!x32))), .eq (.bool ((!x31) || (!x32))), .eq (.bool x30.2.2), .eq (.bool x5.2.2), .eq (.bool (!(x30.2.2 == x5.2.2))), .eq (.bool (((!x31) || (!x32)) || (!(x30.2.2 == x5.2.2))))]
     [(16, B b4 0), (17, L a13 x9.2.1 c13), (20, I x24.1), (166, .bool (((!x31) || (!x32)) || (!(x30.2.2 == x5.2.2))))] mix hF (by kernel_rfl) (by kernel_rfl) (by kernel_rfl) ⟨Pd.mono_eq, Pd.mono_eq, Pd.mono_eq, Pd.mono_eq, trivial⟩ (fun hG => ⟨np_loadBoxS hG hF ty28 rfl rfl (hs.bx 0 rfl) rfl rfl rfl rfl, np_loadBoxS hG hF ty28 rfl rfl (hs.bx 6 rfl) rfl rfl rfl rfl, np_call [.agg #[I x30.1.Inputs, L a19 x30.1.Gates c19], .agg #[I x5.1.Inputs, L a7 x5.1.Gates c7]] hG hF Try.call16 rfl rfl (fun w hC hg => (laws_eqCircuit_ok n x30.1 x5.1 hx31 ((RV.mk_Circuit x30.1 (RV.any (hs.rv 1 rfl))).ext hC) ((RV.mk_Circuit x5.1 (RV.any (hs.rv 7 rfl))).ext hC)).mono fun e w' ⟨v, he, hv, hc⟩ => ⟨v, he, hc, hv⟩), np_call [L a20 x30.2.1 c20, L a8 x5.2.1 c8] hG hF Try.call28 rfl rfl (fun w hC hg => (laws_eqIntS_ok n x30.2.1 x5.2.1 (iteF hg.2 hx32) ((hs.rv 2 rfl).ext hC) ((hs.rv 8 rfl).ext hC)).mono fun e w' ⟨v, he, hv, hc⟩ => ⟨v, he, hc, hv⟩), trivial⟩) (by kernel_rfl) fun fr w37 hF hE hc => then_normal ?_)
 have hs := hs.ext hc
 have hM0 := hM0.ext hc
 have hs : Sep [sl3 (L a13 x9.2.1 c13) x24.2, sl59 (L a12 x9.1.Gates c12) x23.2.Gates, BX b4 28 [I x9.1.Inputs, L a12 x9.1.Gates c12]] w37 S28 := Sep.pick [3, 4, 5] hs (by decide) rfl
 refine (wp_if hF (b := (((!x31) || (!x32)) || (!(x30.2.2 == x5.2.2)))) rfl (fun hb => ?_) (fun hb => ?_))
 · replace h := iteT hb h
   have hs : Sep [] w37 S28 := Sep.pick [] hs (by decide) rfl
   refine wp_seq (wp_pure [(8, .bool false)] hF (by kernel_rfl) fun fr hF => then_normal ?_)
   obtain rfl := Option.some.inj h
   exact wp_ret (then_ret (ret1 rfl hF rfl ⟨_, rfl, rfl, hM0.chg⟩))
 replace h := iteF hb h
 refine (wp_skip (then_normal ?_))
 refine wp_seq (wp_pure [(16, B b4 0), (17, L a13 x9.2.1 c13), (20, I x24.1), (21, I 1)] hF (by kernel_rfl) fun fr hF => then_normal ?_)
 refine wp_seq (wp_text' ?_)
 refine s_loadBoxS ty28 rfl rfl hF rfl (hs.bx 2 rfl) rfl rfl fun fr hF => ?_
 have hs : Sep [sl3 (L a13 x9.2.1 c13) x24.2, sl59 (L a12 x9.1.Gates c12) x23.2.Gates] w37 S28 := Sep.pick [0, 1] hs (by decide) rfl
 refine from_pure 1 [(17, L a13 x9.2.1 c13), (20, I x24.1), (167, .agg #[I x9.1.Inputs, L a12 x9.1.Gates c12]), (168, I 1)] hF (by kernel_rfl) fun fr hF => ?_
 obtain ⟨x33, hx33, h⟩ := bindE h
 refine s_call [.agg #[I x9.1.Inputs, L a12 x9.1.Gates c12], I 1] Try.call18 rfl rfl hF rfl (laws_heldCircuit_ok n (D.Circuit.mk x9.1.Inputs x23.2.Gates) 1 hx33 (RV.mk_Circuit (D.Circuit.mk x9.1.Inputs x23.2.Gates) (RV.any (hs.rv 1 rfl)))) fun v w38 fr hRes hF => ?_
 obtain ⟨rfl, hc⟩ := hRes
 have hs := hs.ext hc
 have hM0 := hM0.ext hc
 have hs : Sep [sl3 (L a13 x9.2.1 c13) x24.2] w38 S28 := Sep.pick [0] hs (by decide) rfl
 refine from_pure 1 [(17, L a13 x9.2.1 c13), (20, I x24.1), (21, I x33)] hF (by kernel_rfl) fun fr hF => ?_
 refine from_end rfl (then_normal ?_)
 refine wp_seq ?_
 refine wp_seq (wp_pure [(17, L a13 x9.2.1 c13), (20, I x24.1), (21, I x33), (171, .bool (decide (x33 < 0)))] hF (by kernel_rfl) fun fr hF => then_normal ?_)
 refine (wp_if hF (b := (decide (x33 < 0))) rfl (fun hb => ?_) (fun hb => ?_))
 · replace h := iteT hb h
   have hs : Sep [] w38 S28 := Sep.pick [] hs (by decide) rfl
   refine wp_seq (wp_pure [(8, .bool false)] hF (by kernel_rfl) fun fr hF => then_normal ?_)
   obtain rfl := Option.some.inj h
   exact wp_ret (then_ret (ret1 rfl hF rfl ⟨_, rfl, rfl, hM0.chg⟩))
 replace h := iteF hb h
 refine (wp_skip (then_normal ?_))
 refine wp_seq (wp_text' ?_)
 refine from_pure 2 [(20, I x24.1), (172, L a13 x9.2.1 c13), (173, I x33)] hF (by kernel_rfl) fun fr hF => ?_
 obtain ⟨x34, hx34, h⟩ := bindE h
 refine s_call [L a13 x9.2.1 c13, I x33] Try.call30 rfl rfl hF rfl (laws_heldIntS_ok n x24.2 x33 hx34 (hs.rv 0 rfl)) fun v w39 fr hRes hF => ?_
 obtain ⟨rfl, hc⟩ := hRes
 have hs := hs.ext hc
 have hM0 := hM0.ext hc
 have hs : Sep [] w39 S28 := Sep.pick [] hs (by decide) rfl
 refine from_pure 1 [(20, I x24.1), (21, I x34)] hF (by kernel_rfl) fun fr hF => ?_
 refine from_end rfl (then_normal ?_)
 refine wp_seq ?_
 refine wp_seq (wp_pure [(20, I x24.1), (21, I x34), (176, .bool (decide (x34 < 0)))] hF (by kernel_rfl) fun fr hF => then_normal ?_)
 refine (wp_if hF (b := (decide (x34 < 0))) rfl (fun hb => ?_) (fun hb => ?_))
 · replace h := iteT hb h
   refine wp_seq (wp_pure [(8, .bool false)] hF (by kernel_rfl) fun fr hF => then_normal ?_)
   obtain rfl := Option.some.inj h
   exact wp_ret (then_ret (ret1 rfl hF rfl ⟨_, rfl, rfl, hM0.chg⟩))
 replace h := iteF hb h
 refine (wp_skip (then_normal ?_))
 refine wp_seq ?_
 refine wp_seq (wp_pure [(179, .bool (x34 != x24.1))] hF (by kernel_rfl) fun fr hF => then_normal ?_)
 refine (wp_if hF (b := (x34 != x24.1)) rfl (fun hb => ?_) (fun hb => ?_))
 · replace h := iteT hb h
   refine wp_seq (wp_pure [(8, .bool false)] hF (by kernel_rfl) fun fr hF => then_normal ?_)
   obtain rfl := Option.some.inj h
   exact wp_ret (then_ret (ret1 rfl hF rfl ⟨_, rfl, rfl, hM0.chg⟩))
 replace h := iteF hb h
 refine (wp_skip (then_normal ?_))
 refine wp_seq (wp_pure [(8, .bool true)] hF (by kernel_rfl) fun fr hF => then_normal ?_)
 obtain rfl := Option.some.inj h
 exact wp_ret (ret1 rfl hF rfl ⟨_, rfl, rfl, hM0.chg⟩)
end Go.Proofs.Ytckeihpjfeonmaa
