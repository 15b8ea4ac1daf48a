/- Printed by gen2.py: the walks. -/
import Derived.Test.YtckeihpjfeonmaaWlkA
set_option linter.unusedVariables false
set_option maxRecDepth 100000
namespace Go.Proofs.Ytckeihpjfeonmaa
open Go.GL Go.Maps Go.WideMaps
theorem laws_FnExactXorOf_ok (n : Nat) (p0 : D.Circuit) (p1 : Int) (p2 : Int) {r : Bool} (h : laws_FnExactXorOf n p0 p1 p2 = some r) {w : World} {G0 : Nat → Prop} {va0 : Value} (ra0 : RV w G0 va0 p0) :
    Calls Try.prog 5 [va0, .int .i64 p1, .int .i64 p2].toArray w fun e w' => ∃ v, e = .returned v ∧ v = .bool r ∧ Chg Non w w' := by
  unfold laws_FnExactXorOf at h
  have hs := Sep.nil w Non
  have hM0 : Mem w Non (fun k => (G0 k) ∧ k < w.heap.size) w Non (fun k => (G0 k) ∧ k < w.heap.size) := Mem.start (fun _ h => h.elim) (fun _ h => h.2) (fun _ h => h.elim)
  have ra0 := ra0.sub (F' := (fun k => (G0 k) ∧ k < w.heap.size)) (fun k hk h => ⟨h, hk⟩)
  obtain ⟨v1, rfl, r1⟩ := RV.Circuit ra0
  obtain ⟨a1, c1, rfl, -⟩ := r1.slice
  refine enter (N := 127) Try.func5 rfl Try.ntmps5 rfl fun fr hF => ?_
  refine wp_seq (wp_text' ?_)
  refine q_box hs hM0 [.int .i64 p0.Inputs, .slice a1 (List.length p0.Gates) c1] rfl rfl hF rfl rfl fun b1 w1 S1 fr hs hp hF => ?_
  have r1 := r1.stp hM0 hp
  have hM0 := hM0.stp hp
  have hs : Sep [BX b1 24 [.int .i64 p0.Inputs, .slice a1 (List.length p0.Gates) c1]] w1 S1 := hs
  refine from_pure 1 [(1, .int .i64 p1), (2, .int .i64 p2), (3, .pointer (some ⟨b1, 0, none⟩))] hF (by kernel_rfl) fun fr hF => ?_
  refine from_end rfl (then_normal ?_)
  refine wp_seq (wp_pure [(1, .int .i64 p1), (2, .int .i64 p2), (3, .pointer (some ⟨b1, 0, none⟩)), (7, .int .i64 1048576)] hF (by kernel_rfl) fun fr hF => then_normal ?_)
  refine wp_seq (wp_text' ?_)
  refine s_loadBoxS ty24 rfl rfl hF rfl (hs.bx 0 rfl) rfl rfl fun fr hF => ?_
  refine from_pure 1 [(1, .int .i64 p1), (2, .int .i64 p2), (3, .pointer (some ⟨b1, 0, none⟩)), (21, .agg #[.int .i64 p0.Inputs, .slice a1 (List.length p0.Gates) c1]), (22, .int .i64 1048576)] hF (by kernel_rfl) fun fr hF => ?_
  obtain ⟨x1, hx1, h⟩ := bindE h
  refine s_call [.agg #[.int .i64 p0.Inputs, .slice a1 (List.length p0.Gates) c1], .int .i64 1048576] Try.call12 rfl rfl hF rfl (laws_szCircuit_ok p0 1048576 hx1 (RV.mk_Circuit p0 (r1))) fun v w2 fr hRes hF => ?_
  obtain ⟨rfl, hc⟩ := hRes
  have r1 := r1.ext hc
  have hs := hs.ext hc
  have hM0 := hM0.ext hc
  refine from_pure 1 [(1, .int .i64 p1), (2, .int .i64 p2), (3, .pointer (some ⟨b1, 0, none⟩)), (7, .int .i64 x1)] hF (by kernel_rfl) fun fr hF => ?_
  refine from_end rfl (then_normal ?_)
  refine wp_seq ?_
  refine wp_seq (wp_pure [(1, .int .i64 p1), (2, .int .i64 p2), (3, .pointer (some ⟨b1, 0, none⟩)), (25, .bool (decide (x1 < 0)))] hF (by kernel_rfl) fun fr hF => then_normal ?_)
  refine (wp_if hF (b := (decide (x1 < 0))) rfl (fun hb => ?_) (fun hb => ?_))
  · replace h := iteT hb h
    have hs : Sep [] w2 S1 := Sep.pick [] hs (by decide) rfl
    refine wp_seq (wp_pure [(6, .bool true)] hF (by kernel_rfl) fun fr hF => then_normal ?_)
    obtain rfl := Option.some.inj h
    exact wp_ret (then_ret (ret1 rfl hF rfl ⟨_, rfl, rfl, hM0.chg⟩))
  replace h := iteF hb h
  refine (wp_skip (then_normal ?_))
  refine wp_seq (wp_text' ?_)
  refine s_loadBoxS ty24 rfl rfl hF rfl (hs.bx 0 rfl) rfl rfl fun fr hF => ?_
  obtain ⟨x2, hx2, h⟩ := bindE h
  refine s_call [.agg #[.int .i64 p0.Inputs, .slice a1 (List.length p0.Gates) c1]] Try.call14 rfl rfl hF rfl (laws_toCircuit_ok n p0 hx2 (RV.mk_Circuit p0 (r1))) fun v w3 fr hRes hF => ?_
  obtain ⟨a2, c2, rfl, _, hp, hs2⟩ := hRes
  obtain ⟨S2, hp, hs⟩ := hs.got hM0 hp hs2
  have r1 := r1.stp hM0 hp
  have hM0 := hM0.stp hp
  have hs : Sep [SL (α := D.Gate) 59 (.slice a2 (List.length x2.Gates) c2) x2.Gates, BX b1 24 [.int .i64 p0.Inputs, .slice a1 (List.length p0.Gates) c1]] w3 S2 := hs
  refine from_pure 2 [(1, .int .i64 p1), (2, .int .i64 p2), (3, .pointer (some ⟨b1, 0, none⟩)), (28, .agg #[.int .i64 x2.Inputs, .slice a2 (List.length x2.Gates) c2]), (29, .int .i64 p1), (30, .int .i64 p2)] hF (by kernel_rfl) fun fr hF => ?_
  obtain ⟨S3, F1, hMn, hs, r2, hfz⟩ := Sep.freeze hs hM0
  have r2 := SL.rv r2
  have r1 := r1.big hfz
  have hM0 := hMn
  obtain ⟨x3, hx3, h⟩ := bindE h
  refine s_call [.agg #[.int .i64 x2.Inputs, .slice a2 (List.length x2.Gates) c2], .int .i64 p1, .int .i64 p2] Try.call21 rfl rfl hF rfl (spec_XorOf_ok n x2 p1 p2 hx3 (RV.mk_Circuit x2 (r2))) fun v w4 fr hRes hF => ?_
  obtain ⟨v2, rfl, hc, r3⟩ := hRes
  obtain ⟨F2, hMn, hfz, hnw⟩ := hM0.grow hc
  have r2 := (r2.ext hc).big hfz
  have r1 := (r1.ext hc).big hfz
  have hs := hs.ext hc
  have hM0 := hMn
  have r3 := r3.sub (F' := F2) fun k hk h => h.elim (fun h => hfz k (by simpa [Non] using h)) (fun h => hnw k h hk)
  obtain ⟨v3, rfl, r4⟩ := RV.Circuit r3
  obtain ⟨a3, c3, rfl, -⟩ := r4.slice
  refine from_pure 4 [(1, .int .i64 p1), (2, .int .i64 p2), (3, .pointer (some ⟨b1, 0, none⟩)), (32, .agg #[.int .i64 x3.1.Inputs, .slice a3 (List.length x3.1.Gates) c3]), (33, .int .i64 x3.2.1), (34, .bool x3.2.2)] hF (by kernel_rfl) fun fr hF => ?_
  refine q_alloc (z := .agg #[.int .i64 0, .slice none (List.length ([] : List D.Gate)) 0]) hs hM0 [.int .i64 0, .slice none (List.length ([] : List D.Gate)) 0] rfl rfl hF (by kernel_rfl) rfl fun b2 w5 S4 fr hs hp hF => ?_
  have r4 := r4.stp hM0 hp
  have r1 := r1.stp hM0 hp
  have hM0 := hM0.stp hp
  have hs : Sep [BX b2 28 [.int .i64 0, .slice none (List.length ([] : List D.Gate)) 0], BX b1 24 [.int .i64 p0.Inputs, .slice a1 (List.length p0.Gates) c1]] w5 S4 := hs
  refine q_storeBoxS 0 hs hM0 rfl [.int .i64 x3.1.Inputs, .slice a3 (List.length x3.1.Gates) c3] rfl hF rfl rfl (by kernel_rfl) rfl rfl rfl fun w6 S5 hs hp hF => ?_
  have r4 := r4.stp hM0 hp
  have r1 := r1.stp hM0 hp
  have hM0 := hM0.stp hp
  have hs : Sep [BX b2 28 [.int .i64 x3.1.Inputs, .slice a3 (List.length x3.1.Gates) c3], BX b1 24 [.int .i64 p0.Inputs, .slice a1 (List.length p0.Gates) c1]] w6 S5 := hs
  refine from_pure 2 [(1, .int .i64 p1), (2, .int .i64 p2), (3, .pointer (some ⟨b1, 0, none⟩)), (8, .pointer (some ⟨b2, 0, none⟩)), (9, .int .i64 x3.2.1), (10, .bool x3.2.2)] hF (by kernel_rfl) fun fr hF => ?_
  refine from_end rfl (then_normal ?_)
  refine wp_seq (wp_text' ?_)
  refine s_loadBoxS ty24 rfl rfl hF rfl (hs.bx 1 rfl) rfl rfl fun fr hF => ?_
  obtain ⟨x4, hx4, h⟩ := bindE h
  refine s_call [.agg #[.int .i64 p0.Inputs, .slice a1 (List.length p0.Gates) c1]] Try.call14 rfl rfl hF rfl (laws_toCircuit_ok n p0 hx4 (RV.mk_Circuit p0 (r1))) fun v w7 fr hRes hF => ?_
  obtain ⟨a4, c4, rfl, _, hp, hs2⟩ := hRes
  obtain ⟨S6, hp, hs⟩ := hs.got hM0 hp hs2
  have r1 := r1.stp hM0 hp
  have r4 := r4.stp hM0 hp
  have hM0 := hM0.stp hp
  have hs : Sep [SL (α := D.Gate) 59 (.slice a4 (List.length x4.Gates) c4) x4.Gates, BX b2 28 [.int .i64 x3.1.Inputs, .slice a3 (List.length x3.1.Gates) c3], BX b1 24 [.int .i64 p0.Inputs, .slice a1 (List.length p0.Gates) c1]] w7 S6 := hs
  refine q_alloc (z := .agg #[.int .i64 0, .slice none (List.length ([] : List D.Gate)) 0]) hs hM0 [.int .i64 0, .slice none (List.length ([] : List D.Gate)) 0] rfl rfl hF (by kernel_rfl) rfl fun b3 w8 S7 fr hs hp hF => ?_
  have r4 := r4.stp hM0 hp
  have r1 := r1.stp hM0 hp
  have hM0 := hM0.stp hp
  have hs : Sep [BX b3 28 [.int .i64 0, .slice none (List.length ([] : List D.Gate)) 0], SL (α := D.Gate) 59 (.slice a4 (List.length x4.Gates) c4) x4.Gates, BX b2 28 [.int .i64 x3.1.Inputs, .slice a3 (List.length x3.1.Gates) c3], BX b1 24 [.int .i64 p0.Inputs, .slice a1 (List.length p0.Gates) c1]] w8 S7 := hs
  refine q_storeBoxS 0 hs hM0 rfl [.int .i64 x4.Inputs, .slice a4 (List.length x4.Gates) c4] rfl hF rfl rfl (by kernel_rfl) rfl rfl rfl fun w9 S8 hs hp hF => ?_
  have r4 := r4.stp hM0 hp
  have r1 := r1.stp hM0 hp
  have hM0 := hM0.stp hp
  have hs : Sep [BX b3 28 [.int .i64 x4.Inputs, .slice a4 (List.length x4.Gates) c4], SL (α := D.Gate) 59 (.slice a4 (List.length x4.Gates) c4) x4.Gates, BX b2 28 [.int .i64 x3.1.Inputs, .slice a3 (List.length x3.1.Gates) c3], BX b1 24 [.int .i64 p0.Inputs, .slice a1 (List.length p0.Gates) c1]] w9 S8 := hs
  refine from_end rfl (then_normal ?_)
  refine wp_seq (wp_text' ?_)
  refine s_loadBoxS ty28 rfl rfl hF rfl (hs.bx 0 rfl) rfl rfl fun fr hF => ?_
  refine from_pure 2 [(1, .int .i64 p1), (2, .int .i64 p2), (3, .pointer (some ⟨b1, 0, none⟩)), (8, .pointer (some ⟨b2, 0, none⟩)), (9, .int .i64 x3.2.1), (10, .bool x3.2.2), (11, .pointer (some ⟨b3, 0, none⟩)), (38, .agg #[.int .i64 x4.Inputs, .slice a4 (List.length x4.Gates) c4]), (39, .int .i64 p1), (40, .int .i64 p2)] hF (by kernel_rfl) fun fr hF => ?_
  obtain ⟨x5, hx5, h⟩ := bindE h
  refine s_call [.agg #[.int .i64 x4.Inputs, .slice a4 (List.length x4.Gates) c4], .int .i64 p1, .int .i64 p2] Try.call22 rfl rfl hF rfl (impl_XorOf_ok n x4 p1 p2 hx5 (RV.mk_Circuit x4 (RV.any (hs.rv 1 rfl)))) fun v w10 fr hRes hF => ?_
  obtain ⟨a5, c5, rfl, _, hp, hs2⟩ := hRes
  obtain ⟨S9, hp, hs⟩ := hs.got hM0 hp hs2
  have r4 := r4.stp hM0 hp
  have r1 := r1.stp hM0 hp
  have hM0 := hM0.stp hp
  have hs : Sep [SL (α := D.Gate) 59 (.slice a5 (List.length x5.1.Gates) c5) x5.1.Gates, BX b3 28 [.int .i64 x4.Inputs, .slice a4 (List.length x4.Gates) c4], SL (α := D.Gate) 59 (.slice a4 (List.length x4.Gates) c4) x4.Gates, BX b2 28 [.int .i64 x3.1.Inputs, .slice a3 (List.length x3.1.Gates) c3], BX b1 24 [.int .i64 p0.Inputs, .slice a1 (List.length p0.Gates) c1]] w10 S9 := hs
  refine from_pure 4 [(1, .int .i64 p1), (2, .int .i64 p2), (3, .pointer (some ⟨b1, 0, none⟩)), (8, .pointer (some ⟨b2, 0, none⟩)), (9, .int .i64 x3.2.1), (10, .bool x3.2.2), (11, .pointer (some ⟨b3, 0, none⟩)), (42, .agg #[.int .i64 x5.1.Inputs, .slice a5 (List.length x5.1.Gates) c5]), (43, .int .i64 x5.2.1), (44, .bool x5.2.2)] hF (by kernel_rfl) fun fr hF => ?_
  refine q_alloc (z := .agg #[.int .i64 0, .slice none (List.length ([] : List D.Gate)) 0]) hs hM0 [.int .i64 0, .slice none (List.length ([] : List D.Gate)) 0] rfl rfl hF (by kernel_rfl) rfl fun b4 w11 S10 fr hs hp hF => ?_
  have r4 := r4.stp hM0 hp
  have r1 := r1.stp hM0 hp
  have hM0 := hM0.stp hp
  have hs : Sep [BX b4 28 [.int .i64 0, .slice none (List.length ([] : List D.Gate)) 0], SL (α := D.Gate) 59 (.slice a5 (List.length x5.1.Gates) c5) x5.1.Gates, BX b3 28 [.int .i64 x4.Inputs, .slice a4 (List.length x4.Gates) c4], SL (α := D.Gate) 59 (.slice a4 (List.length x4.Gates) c4) x4.Gates, BX b2 28 [.int .i64 x3.1.Inputs, .slice a3 (List.length x3.1.Gates) c3], BX b1 24 [.int .i64 p0.Inputs, .slice a1 (List.length p0.Gates) c1]] w11 S10 := hs
  refine q_storeBoxS 0 hs hM0 rfl [.int .i64 x5.1.Inputs, .slice a5 (List.length x5.1.Gates) c5] rfl hF rfl rfl (by kernel_rfl) rfl rfl rfl fun w12 S11 hs hp hF => ?_
  have r4 := r4.stp hM0 hp
  have r1 := r1.stp hM0 hp
  have hM0 := hM0.stp hp
  have hs : Sep [BX b4 28 [.int .i64 x5.1.Inputs, .slice a5 (List.length x5.1.Gates) c5], SL (α := D.Gate) 59 (.slice a5 (List.length x5.1.Gates) c5) x5.1.Gates, BX b3 28 [.int .i64 x4.Inputs, .slice a4 (List.length x4.Gates) c4], SL (α := D.Gate) 59 (.slice a4 (List.length x4.Gates) c4) x4.Gates, BX b2 28 [.int .i64 x3.1.Inputs, .slice a3 (List.length x3.1.Gates) c3], BX b1 24 [.int .i64 p0.Inputs, .slice a1 (List.length p0.Gates) c1]] w12 S11 := hs
  refine from_pure 2 [(1, .int .i64 p1), (2, .int .i64 p2), (3, .pointer (some ⟨b1, 0, none⟩)), (8, .pointer (some ⟨b2, 0, none⟩)), (9, .int .i64 x3.2.1), (10, .bool x3.2.2), (11, .pointer (some ⟨b3, 0, none⟩)), (12, .pointer (some ⟨b4, 0, none⟩)), (13, .int .i64 x5.2.1), (14, .bool x5.2.2)] hF (by kernel_rfl) fun fr hF => ?_
  refine from_end rfl (then_normal ?_)
  refine wp_seq ?_
  obtain ⟨x6, hx6, h⟩ := bindE h
  refine wp_seq (region_b [] [false, false, false, true, true, true, true, true, true, true, true, true, true, true]
      [.eq (.agg #[.int .i64 x5.1.Inputs, .slice a5 (List.length x5.1.Gates) c5]), .eq (.agg #[.int .i64 x3.1.Inputs, .slice a3 (List.length x3.1.Gates) c3]), .eq (.bool x6), .eq (.bool (!x6)), .eq (.bool (!x6)), .eq (.int .i64 x5.2.1), .eq (.int .i64 x3.2.1), .eq (.bool (x5.2.1 != x3.2.1)), .eq (.bool ((!x6) || (x5.2.1 != x3.2.1))), .eq (.bool ((!x6) || (x5.2.1 != x3.2.1))), .eq (.bool x5.2.2), .eq (.bool x3.2.2), .eq (.bool (!(x5.2.2 == x3.2.2))), .eq (.bool (((!x6) || (x5.2.1 != x3.2.1)) || (!(x5.2.2 == x3.2.2))))]
      [(1, .int .i64 p1), (2, .int .i64 p2), (3, .pointer (some ⟨b1, 0, none⟩)), (8, .pointer (some ⟨b2, 0, none⟩)), (9, .int .i64 x3.2.1), (10, .bool x3.2.2), (11, .pointer (some ⟨b3, 0, none⟩)), (12, .pointer (some ⟨b4, 0, none⟩)), (13, .int .i64 x5.2.1), (14, .bool x5.2.2), (58, .bool (((!x6) || (x5.2.1 != x3.2.1)) || (!(x5.2.2 == x3.2.2))))] mix hF (by kernel_rfl) (by kernel_rfl) (by kernel_rfl) ⟨Pd.mono_eq, Pd.mono_eq, Pd.mono_eq, trivial⟩ (fun hG => ⟨np_loadBoxS hG hF ty28 rfl rfl (hs.bx 0 rfl) rfl rfl rfl rfl, np_loadBoxS hG hF ty28 rfl rfl (hs.bx 4 rfl) rfl rfl rfl rfl, np_call [.agg #[.int .i64 x5.1.Inputs, .slice a5 (List.length x5.1.Gates) c5], .agg #[.int .i64 x3.1.Inputs, .slice a3 (List.length x3.1.Gates) c3]] hG hF Try.call16 rfl rfl (fun w hC hg => (laws_eqCircuit_ok n x5.1 x3.1 hx6 ((RV.mk_Circuit x5.1 (RV.any (hs.rv 1 rfl))).ext hC) ((RV.mk_Circuit x3.1 (r4)).ext hC)).mono fun e w' ⟨v, he, hv, hc⟩ => ⟨v, he, hc, hv⟩), trivial⟩) (by kernel_rfl) fun fr w13 hF hE hc => then_normal ?_)
  have r4 := r4.ext hc
  have r1 := r1.ext hc
  have hs := hs.ext hc
  have hM0 := hM0.ext hc
  refine (wp_if hF (b := (((!x6) || (x5.2.1 != x3.2.1)) || (!(x5.2.2 == x3.2.2)))) rfl (fun hb => ?_) (fun hb => ?_))
  · replace h := iteT hb h
    have hs : Sep [] w13 S11 := Sep.pick [] hs (by decide) rfl
    refine wp_seq (wp_pure [(6, .bool false)] hF (by kernel_rfl) fun fr hF => then_normal ?_)
    obtain rfl := Option.some.inj h
    exact wp_ret (then_ret (ret1 rfl hF rfl ⟨_, rfl, rfl, hM0.chg⟩))
  replace h := iteF hb h
  refine (wp_skip (then_normal ?_))
  refine wp_seq ?_
  obtain ⟨x7, hx7, h⟩ := bindE h
  obtain ⟨x8, hx8, h⟩ := bindE h
  refine wp_seq (region_bm 5 [0, 0, 2, 7, 15] [false, false, false, false, true]
      [.eq (.agg #[.int .i64 x4.Inputs, .slice a4 (List.length x4.Gates) c4]), .eq (.agg #[.int .i64 p0.Inputs, .slice a1 (List.length p0.Gates) c1]), .is fun v w => RV w (fun k => k < w.heap.size) v (x7 : D.Circuit), .eq (.bool x8), .eq (.bool (!x8))]
      [(1, .int .i64 p1), (2, .int .i64 p2), (3, .pointer (some ⟨b1, 0, none⟩)), (8, .pointer (some ⟨b2, 0, none⟩)), (9, .int .i64 x3.2.1), (10, .bool x3.2.2), (11, .pointer (some ⟨b3, 0, none⟩)), (12, .pointer (some ⟨b4, 0, none⟩)), (13, .int .i64 x5.2.1), (14, .bool x5.2.2), (63, .bool (!x8))] mix hF (by kernel_rfl) (by kernel_rfl) (by kernel_rfl) (by kernel_rfl) ⟨Pd.monoO_eq, Pd.monoO_eq, (Pd.monoO_is mono_rvb), Pd.monoO_eq, trivial⟩ (fun ow hG => ⟨np_to ow (np_loadBoxS hG hF ty28 rfl rfl (hs.bx 2 rfl) rfl rfl rfl rfl), np_to ow (np_loadBoxS hG hF ty24 rfl rfl (hs.bx 5 rfl) rfl rfl rfl rfl), np_to ow (np_callI [.inl (.agg #[.int .i64 p0.Inputs, .slice a1 (List.length p0.Gates) c1])] hG hF Try.call14 rfl rfl (by kernel_rfl) (fun w vs hC hg ha => by obtain ⟨_, rfl, rfl⟩ := ha; exact (laws_toCircuit_ok n p0 hx7 ((RV.mk_Circuit p0 (r1)).ext hC)).mono fun e w' ⟨v, he, a0, c0, hv, _, hp, ho⟩ => ⟨_, he, hp.chg, by rw [hv]; exact (show RV w' (fun k => k < w'.heap.size) _ (x7 : D.Circuit) from RV.mk_Circuit x7 ((ho.rv 0 rfl).sub fun k hk _ => hk))⟩)), np_to ow (np_callI [.inl (.agg #[.int .i64 x4.Inputs, .slice a4 (List.length x4.Gates) c4]), .inr 2] hG hF Try.call16 rfl rfl (by kernel_rfl) (fun w vs hC hg ha => by obtain ⟨_, rfl, vq1, _, rfl, hq1, rfl⟩ := ha; exact (laws_eqCircuit_ok n x4 x7 hx8 ((RV.mk_Circuit x4 (RV.any (hs.rv 3 rfl))).ext hC) (show RV w (fun k => k < w.heap.size) vq1 x7 from hq1)).mono fun e w' ⟨v, he, hv, hc⟩ => ⟨v, he, hc, hv⟩)), trivial⟩) (by kernel_rfl) fun ow fr w14 hF hE hc => ?_)
  have r1 := r1.ext hc
  have r4 := r4.ext hc
  have hs := hs.ext hc
  have hM0 := hM0.ext hc
  refine from_end rfl (then_normal ?_)
  refine (wp_if hF (b := (!x8)) rfl (fun hb => ?_) (fun hb => ?_))
  · replace h := iteT hb h
    have hs : Sep [] w14 S11 := Sep.pick [] hs (by decide) rfl
    refine wp_seq (wp_pure [(6, .bool false)] hF (by kernel_rfl) fun fr hF => then_normal ?_)
    obtain rfl := Option.some.inj h
    exact wp_ret (then_ret (ret1 rfl hF rfl ⟨_, rfl, rfl, hM0.chg⟩))
  replace h := iteF hb h
  refine (wp_skip (then_normal ?_))
  refine wp_seq (wp_pure [(1, .int .i64 p1), (2, .int .i64 p2), (3, .pointer (some ⟨b1, 0, none⟩)), (8, .pointer (some ⟨b2, 0, none⟩)), (9, .int .i64 x3.2.1), (10, .bool x3.2.2), (11, .pointer (some ⟨b3, 0, none⟩)), (12, .pointer (some ⟨b4, 0, none⟩)), (13, .int .i64 x5.2.1), (14, .bool x5.2.2), (15, .int .i64 1)] hF (by kernel_rfl) fun fr hF => then_normal ?_)
  refine wp_seq (wp_text' ?_)
  refine s_loadBoxS ty28 rfl rfl hF rfl (hs.bx 2 rfl) rfl rfl fun fr hF => ?_
  have hs : Sep [BX b4 28 [.int .i64 x5.1.Inputs, .slice a5 (List.length x5.1.Gates) c5], SL (α := D.Gate) 59 (.slice a5 (List.length x5.1.Gates) c5) x5.1.Gates, SL (α := D.Gate) 59 (.slice a4 (List.length x4.Gates) c4) x4.Gates, BX b2 28 [.int .i64 x3.1.Inputs, .slice a3 (List.length x3.1.Gates) c3], BX b1 24 [.int .i64 p0.Inputs, .slice a1 (List.length p0.Gates) c1]] w14 S11 := Sep.pick [0, 1, 3, 4, 5] hs (by decide) rfl
  refine from_pure 1 [(1, .int .i64 p1), (2, .int .i64 p2), (3, .pointer (some ⟨b1, 0, none⟩)), (8, .pointer (some ⟨b2, 0, none⟩)), (9, .int .i64 x3.2.1), (10, .bool x3.2.2), (12, .pointer (some ⟨b4, 0, none⟩)), (13, .int .i64 x5.2.1), (14, .bool x5.2.2), (64, .agg #[.int .i64 x4.Inputs, .slice a4 (List.length x4.Gates) c4]), (65, .int .i64 1)] hF (by kernel_rfl) fun fr hF => ?_
  obtain ⟨x9, hx9, h⟩ := bindE h
  have hs : Sep [SL (α := D.Gate) 59 (.slice a4 (List.length x4.Gates) c4) x4.Gates, BX b4 28 [.int .i64 x5.1.Inputs, .slice a5 (List.length x5.1.Gates) c5], SL (α := D.Gate) 59 (.slice a5 (List.length x5.1.Gates) c5) x5.1.Gates, BX b2 28 [.int .i64 x3.1.Inputs, .slice a3 (List.length x3.1.Gates) c3], BX b1 24 [.int .i64 p0.Inputs, .slice a1 (List.length p0.Gates) c1]] w14 S11 := Sep.pick [2, 0, 1, 3, 4] hs (by decide) rfl
  obtain ⟨A1, R1, hsA, hsR, hdA, hbA, hup⟩ := Sep.call (L1 := [SL (α := D.Gate) 59 (.slice a4 (List.length x4.Gates) c4) x4.Gates]) (L2 := [BX b4 28 [.int .i64 x5.1.Inputs, .slice a5 (List.length x5.1.Gates) c5], SL (α := D.Gate) 59 (.slice a5 (List.length x5.1.Gates) c5) x5.1.Gates, BX b2 28 [.int .i64 x3.1.Inputs, .slice a3 (List.length x3.1.Gates) c3], BX b1 24 [.int .i64 p0.Inputs, .slice a1 (List.length p0.Gates) c1]]) hs hM0
  refine s_call [.agg #[.int .i64 x4.Inputs, .slice a4 (List.length x4.Gates) c4], .int .i64 1] Try.call17 rfl rfl hF rfl (laws_markCircuit_ok n x4 1 hx9 hsA hbA hdA) fun v w15 fr hRes hF => ?_
  obtain ⟨rfl, _, hp, hs⟩ := hRes
  obtain ⟨S12, hp, hs⟩ := hup hp hs
  have r4 := r4.stp hM0 hp
  have r1 := r1.stp hM0 hp
  have hM0 := hM0.stp hp
  have hs : Sep [SL (α := D.Gate) 59 (.slice a4 (List.length x4.Gates) c4) x9.2.Gates, BX b4 28 [.int .i64 x5.1.Inputs, .slice a5 (List.length x5.1.Gates) c5], SL (α := D.Gate) 59 (.slice a5 (List.length x5.1.Gates) c5) x5.1.Gates, BX b2 28 [.int .i64 x3.1.Inputs, .slice a3 (List.length x3.1.Gates) c3], BX b1 24 [.int .i64 p0.Inputs, .slice a1 (List.length p0.Gates) c1]] w15 S12 := hs
  have hs : Sep [BX b4 28 [.int .i64 x5.1.Inputs, .slice a5 (List.length x5.1.Gates) c5], SL (α := D.Gate) 59 (.slice a5 (List.length x5.1.Gates) c5) x5.1.Gates, BX b2 28 [.int .i64 x3.1.Inputs, .slice a3 (List.length x3.1.Gates) c3], BX b1 24 [.int .i64 p0.Inputs, .slice a1 (List.length p0.Gates) c1]] w15 S12 := Sep.pick [1, 2, 3, 4] hs (by decide) rfl
  refine from_pure 1 [(1, .int .i64 p1), (2, .int .i64 p2), (3, .pointer (some ⟨b1, 0, none⟩)), (8, .pointer (some ⟨b2, 0, none⟩)), (9, .int .i64 x3.2.1), (10, .bool x3.2.2), (12, .pointer (some ⟨b4, 0, none⟩)), (13, .int .i64 x5.2.1), (14, .bool x5.2.2), (15, .int .i64 x9.1)] hF (by kernel_rfl) fun fr hF => ?_
  refine from_end rfl (then_normal ?_)
  refine wp_seq ?_
  obtain ⟨x10, hx10, h⟩ := bindE h
  refine wp_seq (region_b [] [true, true, true, false, false, false, true, true, true, true, true, true, true, true, true, true, true, true]
      [.eq (.int .i64 x9.1), .eq (.bool (decide (x9.1 < 0))), .eq (.bool (decide (x9.1 < 0))), .eq (.agg #[.int .i64 x5.1.Inputs, .slice a5 (List.length x5.1.Gates) c5]), .eq (.agg #[.int .i64 x3.1.Inputs, .slice a3 (List.length x3.1.Gates) c3]), .eq (.bool x10), .eq (.bool (!x10)), .eq (.bool ((decide (x9.1 < 0)) || (!x10))), .eq (.bool ((decide (x9.1 < 0)) || (!x10))), .eq (.int .i64 x5.2.1), .eq (.int .i64 x3.2.1), .eq (.bool (x5.2.1 != x3.2.1)), .eq (.bool (((decide (x9.1 < 0)) || (!x10)) || (x5.2.1 != x3.2.1))), .eq (.bool (((decide (x9.1 < 0)) || (!x10)) || (x5.2.1 != x3.2.1))), .eq (.bool x5.2.2), .eq (.bool x3.2.2), .eq (.bool (!(x5.2.2 == x3.2.2))), .eq (.bool ((((decide (x9.1 < 0)) || (!x10)) || (x5.2.1 != x3.2.1)) || (!(x5.2.2 == x3.2.2))))]
      [(1, .int .i64 p1), (2, .int .i64 p2), (3, .pointer (some ⟨b1, 0, none⟩)), (8, .pointer (some ⟨b2, 0, none⟩)), (9, .int .i64 x3.2.1), (10, .bool x3.2.2), (12, .pointer (some ⟨b4, 0, none⟩)), (84, .bool ((((decide (x9.1 < 0)) || (!x10)) || (x5.2.1 != x3.2.1)) || (!(x5.2.2 == x3.2.2))))] mix hF (by kernel_rfl) (by kernel_rfl) (by kernel_rfl) ⟨Pd.mono_eq, Pd.mono_eq, Pd.mono_eq, trivial⟩ (fun hG => ⟨np_loadBoxS hG hF ty28 rfl rfl (hs.bx 0 rfl) rfl rfl rfl rfl, np_loadBoxS hG hF ty28 rfl rfl (hs.bx 2 rfl) rfl rfl rfl rfl, np_call [.agg #[.int .i64 x5.1.Inputs, .slice a5 (List.length x5.1.Gates) c5], .agg #[.int .i64 x3.1.Inputs, .slice a3 (List.length x3.1.Gates) c3]] hG hF Try.call16 rfl rfl (fun w hC hg => (laws_eqCircuit_ok n x5.1 x3.1 (iteF hg.2 hx10) ((RV.mk_Circuit x5.1 (RV.any (hs.rv 1 rfl))).ext hC) ((RV.mk_Circuit x3.1 (r4)).ext hC)).mono fun e w' ⟨v, he, hv, hc⟩ => ⟨v, he, hc, hv⟩), trivial⟩) (by kernel_rfl) fun fr w16 hF hE hc => then_normal ?_)
  have r4 := r4.ext hc
  have r1 := r1.ext hc
  have hs := hs.ext hc
  have hM0 := hM0.ext hc
  refine (wp_if hF (b := ((((decide (x9.1 < 0)) || (!x10)) || (x5.2.1 != x3.2.1)) || (!(x5.2.2 == x3.2.2)))) rfl (fun hb => ?_) (fun hb => ?_))
  · replace h := iteT hb h
    have hs : Sep [] w16 S12 := Sep.pick [] hs (by decide) rfl
    refine wp_seq (wp_pure [(6, .bool false)] hF (by kernel_rfl) fun fr hF => then_normal ?_)
    obtain rfl := Option.some.inj h
    exact wp_ret (then_ret (ret1 rfl hF rfl ⟨_, rfl, rfl, hM0.chg⟩))
  replace h := iteF hb h
  refine (wp_skip (then_normal ?_))
  refine wp_seq (wp_pure [(1, .int .i64 p1), (2, .int .i64 p2), (3, .pointer (some ⟨b1, 0, none⟩)), (8, .pointer (some ⟨b2, 0, none⟩)), (9, .int .i64 x3.2.1), (10, .bool x3.2.2), (12, .pointer (some ⟨b4, 0, none⟩)), (16, .int .i64 1)] hF (by kernel_rfl) fun fr hF => then_normal ?_)
  refine wp_seq (wp_text' ?_)
  refine s_loadBoxS ty28 rfl rfl hF rfl (hs.bx 0 rfl) rfl rfl fun fr hF => ?_
  refine from_pure 1 [(1, .int .i64 p1), (2, .int .i64 p2), (3, .pointer (some ⟨b1, 0, none⟩)), (8, .pointer (some ⟨b2, 0, none⟩)), (9, .int .i64 x3.2.1), (10, .bool x3.2.2), (12, .pointer (some ⟨b4, 0, none⟩)), (85, .agg #[.int .i64 x5.1.Inputs, .slice a5 (List.length x5.1.Gates) c5]), (86, .int .i64 1)] hF (by kernel_rfl) fun fr hF => ?_
  obtain ⟨x11, hx11, h⟩ := bindE h
  have hs : Sep [SL (α := D.Gate) 59 (.slice a5 (List.length x5.1.Gates) c5) x5.1.Gates, BX b4 28 [.int .i64 x5.1.Inputs, .slice a5 (List.length x5.1.Gates) c5], BX b2 28 [.int .i64 x3.1.Inputs, .slice a3 (List.length x3.1.Gates) c3], BX b1 24 [.int .i64 p0.Inputs, .slice a1 (List.length p0.Gates) c1]] w16 S12 := Sep.pick [1, 0, 2, 3] hs (by decide) rfl
  obtain ⟨A2, R2, hsA, hsR, hdA, hbA, hup⟩ := Sep.call (L1 := [SL (α := D.Gate) 59 (.slice a5 (List.length x5.1.Gates) c5) x5.1.Gates]) (L2 := [BX b4 28 [.int .i64 x5.1.Inputs, .slice a5 (List.length x5.1.Gates) c5], BX b2 28 [.int .i64 x3.1.Inputs, .slice a3 (List.length x3.1.Gates) c3], BX b1 24 [.int .i64 p0.Inputs, .slice a1 (List.length p0.Gates) c1]]) hs hM0
  refine s_call [.agg #[.int .i64 x5.1.Inputs, .slice a5 (List.length x5.1.Gates) c5], .int .i64 1] Try.call17 rfl rfl hF rfl (laws_markCircuit_ok n x5.1 1 hx11 hsA hbA hdA) fun v w17 fr hRes hF => ?_
  obtain ⟨rfl, _, hp, hs⟩ := hRes
  obtain ⟨S13, hp, hs⟩ := hup hp hs
  have r4 := r4.stp hM0 hp
  have r1 := r1.stp hM0 hp
  have hM0 := hM0.stp hp
  have hs : Sep [SL (α := D.Gate) 59 (.slice a5 (List.length x5.1.Gates) c5) x11.2.Gates, BX b4 28 [.int .i64 x5.1.Inputs, .slice a5 (List.length x5.1.Gates) c5], BX b2 28 [.int .i64 x3.1.Inputs, .slice a3 (List.length x3.1.Gates) c3], BX b1 24 [.int .i64 p0.Inputs, .slice a1 (List.length p0.Gates) c1]] w17 S13 := hs
  refine from_pure 1 [(1, .int .i64 p1), (2, .int .i64 p2), (3, .pointer (some ⟨b1, 0, none⟩)), (8, .pointer (some ⟨b2, 0, none⟩)), (9, .int .i64 x3.2.1), (10, .bool x3.2.2), (12, .pointer (some ⟨b4, 0, none⟩)), (16, .int .i64 x11.1)] hF (by kernel_rfl) fun fr hF => ?_
  refine from_end rfl (then_normal ?_)
  refine wp_seq (wp_pure [(1, .int .i64 p1), (2, .int .i64 p2), (3, .pointer (some ⟨b1, 0, none⟩)), (8, .pointer (some ⟨b2, 0, none⟩)), (9, .int .i64 x3.2.1), (10, .bool x3.2.2), (12, .pointer (some ⟨b4, 0, none⟩)), (16, .int .i64 x11.1), (17, .int .i64 1)] hF (by kernel_rfl) fun fr hF => then_normal ?_)
  refine wp_seq (wp_text' ?_)
  refine s_loadBoxS ty28 rfl rfl hF rfl (hs.bx 1 rfl) rfl rfl fun fr hF => ?_
  refine from_pure 1 [(1, .int .i64 p1), (2, .int .i64 p2), (3, .pointer (some ⟨b1, 0, none⟩)), (8, .pointer (some ⟨b2, 0, none⟩)), (9, .int .i64 x3.2.1), (10, .bool x3.2.2), (12, .pointer (some ⟨b4, 0, none⟩)), (16, .int .i64 x11.1), (88, .agg #[.int .i64 x5.1.Inputs, .slice a5 (List.length x5.1.Gates) c5]), (89, .int .i64 1)] hF (by kernel_rfl) fun fr hF => ?_
  obtain ⟨x12, hx12, h⟩ := bindE h
  refine s_call [.agg #[.int .i64 x5.1.Inputs, .slice a5 (List.length x5.1.Gates) c5], .int .i64 1] Try.call18 rfl rfl hF rfl (laws_heldCircuit_ok n (D.Circuit.mk x5.1.Inputs x11.2.Gates) 1 hx12 (RV.mk_Circuit (D.Circuit.mk x5.1.Inputs x11.2.Gates) (RV.any (hs.rv 0 rfl)))) fun v w18 fr hRes hF => ?_
  obtain ⟨rfl, hc⟩ := hRes
  have r4 := r4.ext hc
  have r1 := r1.ext hc
  have hs := hs.ext hc
  have hM0 := hM0.ext hc
  refine from_pure 1 [(1, .int .i64 p1), (2, .int .i64 p2), (3, .pointer (some ⟨b1, 0, none⟩)), (8, .pointer (some ⟨b2, 0, none⟩)), (9, .int .i64 x3.2.1), (10, .bool x3.2.2), (12, .pointer (some ⟨b4, 0, none⟩)), (16, .int .i64 x11.1), (17, .int .i64 x12)] hF (by kernel_rfl) fun fr hF => ?_
  refine from_end rfl (then_normal ?_)
  refine wp_seq ?_
  refine wp_seq (wp_pure [(1, .int .i64 p1), (2, .int .i64 p2), (3, .pointer (some ⟨b1, 0, none⟩)), (8, .pointer (some ⟨b2, 0, none⟩)), (9, .int .i64 x3.2.1), (10, .bool x3.2.2), (12, .pointer (some ⟨b4, 0, none⟩)), (16, .int .i64 x11.1), (17, .int .i64 x12), (92, .bool (decide (x12 < 0)))] hF (by kernel_rfl) fun fr hF => then_normal ?_)
  refine (wp_if hF (b := (decide (x12 < 0))) rfl (fun hb => ?_) (fun hb => ?_))
  · replace h := iteT hb h
    have hs : Sep [] w18 S13 := Sep.pick [] hs (by decide) rfl
    refine wp_seq (wp_pure [(6, .bool false)] hF (by kernel_rfl) fun fr hF => then_normal ?_)
    obtain rfl := Option.some.inj h
    exact wp_ret (then_ret (ret1 rfl hF rfl ⟨_, rfl, rfl, hM0.chg⟩))
  replace h := iteF hb h
  refine (wp_skip (then_normal ?_))
  refine wp_seq ?_
  refine wp_seq (wp_pure [(1, .int .i64 p1), (2, .int .i64 p2), (3, .pointer (some ⟨b1, 0, none⟩)), (8, .pointer (some ⟨b2, 0, none⟩)), (9, .int .i64 x3.2.1), (10, .bool x3.2.2), (12, .pointer (some ⟨b4, 0, none⟩)), (16, .int .i64 x11.1), (95, .bool (x12 != x11.1))] hF (by kernel_rfl) fun fr hF => then_normal ?_)
  refine (wp_if hF (b := (x12 != x11.1)) rfl (fun hb => ?_) (fun hb => ?_))
  · replace h := iteT hb h
    have hs : Sep [] w18 S13 := Sep.pick [] hs (by decide) rfl
    refine wp_seq (wp_pure [(6, .bool false)] hF (by kernel_rfl) fun fr hF => then_normal ?_)
    obtain rfl := Option.some.inj h
    exact wp_ret (then_ret (ret1 rfl hF rfl ⟨_, rfl, rfl, hM0.chg⟩))
  replace h := iteF hb h
  refine (wp_skip (then_normal ?_))
  refine wp_seq (wp_text' ?_)
  refine s_loadBoxS ty24 rfl rfl hF rfl (hs.bx 3 rfl) rfl rfl fun fr hF => ?_
  have hs : Sep [SL (α := D.Gate) 59 (.slice a5 (List.length x5.1.Gates) c5) x11.2.Gates, BX b4 28 [.int .i64 x5.1.Inputs, .slice a5 (List.length x5.1.Gates) c5], BX b2 28 [.int .i64 x3.1.Inputs, .slice a3 (List.length x3.1.Gates) c3]] w18 S13 := Sep.pick [0, 1, 2] hs (by decide) rfl
  obtain ⟨x13, hx13, h⟩ := bindE h
  refine s_call [.agg #[.int .i64 p0.Inputs, .slice a1 (List.length p0.Gates) c1]] Try.call14 rfl rfl hF rfl (laws_toCircuit_ok n p0 hx13 (RV.mk_Circuit p0 (r1))) fun v w19 fr hRes hF => ?_
  obtain ⟨a6, c6, rfl, _, hp, hs2⟩ := hRes
  obtain ⟨S14, hp, hs⟩ := hs.got hM0 hp hs2
  have r1 := r1.stp hM0 hp
  have r4 := r4.stp hM0 hp
  have hM0 := hM0.stp hp
  have hs : Sep [SL (α := D.Gate) 59 (.slice a6 (List.length x13.Gates) c6) x13.Gates, SL (α := D.Gate) 59 (.slice a5 (List.length x5.1.Gates) c5) x11.2.Gates, BX b4 28 [.int .i64 x5.1.Inputs, .slice a5 (List.length x5.1.Gates) c5], BX b2 28 [.int .i64 x3.1.Inputs, .slice a3 (List.length x3.1.Gates) c3]] w19 S14 := hs
  refine from_pure 2 [(8, .pointer (some ⟨b2, 0, none⟩)), (9, .int .i64 x3.2.1), (10, .bool x3.2.2), (12, .pointer (some ⟨b4, 0, none⟩)), (16, .int .i64 x11.1), (98, .agg #[.int .i64 x13.Inputs, .slice a6 (List.length x13.Gates) c6]), (99, .int .i64 p1), (100, .int .i64 p2)] hF (by kernel_rfl) fun fr hF => ?_
  obtain ⟨x14, hx14, h⟩ := bindE h
  refine s_call [.agg #[.int .i64 x13.Inputs, .slice a6 (List.length x13.Gates) c6], .int .i64 p1, .int .i64 p2] Try.call22 rfl rfl hF rfl (impl_XorOf_ok n x13 p1 p2 hx14 (RV.mk_Circuit x13 (RV.any (hs.rv 0 rfl)))) fun v w20 fr hRes hF => ?_
  obtain ⟨a7, c7, rfl, _, hp, hs2⟩ := hRes
  obtain ⟨S15, hp, hs⟩ := hs.got hM0 hp hs2
  have r4 := r4.stp hM0 hp
  have hM0 := hM0.stp hp
  have hs : Sep [SL (α := D.Gate) 59 (.slice a7 (List.length x14.1.Gates) c7) x14.1.Gates, SL (α := D.Gate) 59 (.slice a6 (List.length x13.Gates) c6) x13.Gates, SL (α := D.Gate) 59 (.slice a5 (List.length x5.1.Gates) c5) x11.2.Gates, BX b4 28 [.int .i64 x5.1.Inputs, .slice a5 (List.length x5.1.Gates) c5], BX b2 28 [.int .i64 x3.1.Inputs, .slice a3 (List.length x3.1.Gates) c3]] w20 S15 := hs
  have hs : Sep [SL (α := D.Gate) 59 (.slice a7 (List.length x14.1.Gates) c7) x14.1.Gates, SL (α := D.Gate) 59 (.slice a5 (List.length x5.1.Gates) c5) x11.2.Gates, BX b4 28 [.int .i64 x5.1.Inputs, .slice a5 (List.length x5.1.Gates) c5], BX b2 28 [.int .i64 x3.1.Inputs, .slice a3 (List.length x3.1.Gates) c3]] w20 S15 := Sep.pick [0, 2, 3, 4] hs (by decide) rfl
  refine from_pure 4 [(8, .pointer (some ⟨b2, 0, none⟩)), (9, .int .i64 x3.2.1), (10, .bool x3.2.2), (12, .pointer (some ⟨b4, 0, none⟩)), (16, .int .i64 x11.1), (102, .agg #[.int .i64 x14.1.Inputs, .slice a7 (List.length x14.1.Gates) c7]), (103, .int .i64 x14.2.1), (104, .bool x14.2.2)] hF (by kernel_rfl) fun fr hF => ?_
  refine q_alloc (z := .agg #[.int .i64 0, .slice none (List.length ([] : List D.Gate)) 0]) hs hM0 [.int .i64 0, .slice none (List.length ([] : List D.Gate)) 0] rfl rfl hF (by kernel_rfl) rfl fun b5 w21 S16 fr hs hp hF => ?_
  have r4 := r4.stp hM0 hp
  have hM0 := hM0.stp hp
  have hs : Sep [BX b5 28 [.int .i64 0, .slice none (List.length ([] : List D.Gate)) 0], SL (α := D.Gate) 59 (.slice a7 (List.length x14.1.Gates) c7) x14.1.Gates, SL (α := D.Gate) 59 (.slice a5 (List.length x5.1.Gates) c5) x11.2.Gates, BX b4 28 [.int .i64 x5.1.Inputs, .slice a5 (List.length x5.1.Gates) c5], BX b2 28 [.int .i64 x3.1.Inputs, .slice a3 (List.length x3.1.Gates) c3]] w21 S16 := hs
  refine q_storeBoxS 0 hs hM0 rfl [.int .i64 x14.1.Inputs, .slice a7 (List.length x14.1.Gates) c7] rfl hF rfl rfl (by kernel_rfl) rfl rfl rfl fun w22 S17 hs hp hF => ?_
  have r4 := r4.stp hM0 hp
  have hM0 := hM0.stp hp
  have hs : Sep [BX b5 28 [.int .i64 x14.1.Inputs, .slice a7 (List.length x14.1.Gates) c7], SL (α := D.Gate) 59 (.slice a7 (List.length x14.1.Gates) c7) x14.1.Gates, SL (α := D.Gate) 59 (.slice a5 (List.length x5.1.Gates) c5) x11.2.Gates, BX b4 28 [.int .i64 x5.1.Inputs, .slice a5 (List.length x5.1.Gates) c5], BX b2 28 [.int .i64 x3.1.Inputs, .slice a3 (List.length x3.1.Gates) c3]] w22 S17 := hs
  refine from_pure 2 [(8, .pointer (some ⟨b2, 0, none⟩)), (9, .int .i64 x3.2.1), (10, .bool x3.2.2), (12, .pointer (some ⟨b4, 0, none⟩)), (16, .int .i64 x11.1), (18, .pointer (some ⟨b5, 0, none⟩)), (19, .int .i64 x14.2.1), (20, .bool x14.2.2)] hF (by kernel_rfl) fun fr hF => ?_
  refine from_end rfl (then_normal ?_)
  refine wp_seq ?_
  obtain ⟨x15, hx15, h⟩ := bindE h
  refine wp_seq (region_b [] [false, false, false, true, true, true, true, true, true, true, true, true, true, true]
      [.eq (.agg #[.int .i64 x14.1.Inputs, .slice a7 (List.length x14.1.Gates) c7]), .eq (.agg #[.int .i64 x3.1.Inputs, .slice a3 (List.length x3.1.Gates) c3]), .eq (.bool x15), .eq (.bool (!x15)), .eq (.bool (!x15)), .eq (.int .i64 x14.2.1), .eq (.int .i64 x3.2.1), .eq (.bool (x14.2.1 != x3.2.1)), .eq (.bool ((!x15) || (x14.2.1 != x3.2.1))), .eq (.bool ((!x15) || (x14.2.1 != x3.2.1))), .eq (.bool x14.2.2), .eq (.bool x3.2.2), .eq (.bool (!(x14.2.2 == x3.2.2))), .eq (.bool (((!x15) || (x14.2.1 != x3.2.1)) || (!(x14.2.2 == x3.2.2))))]
      [(12, .pointer (some ⟨b4, 0, none⟩)), (16, .int .i64 x11.1), (118, .bool (((!x15) || (x14.2.1 != x3.2.1)) || (!(x14.2.2 == x3.2.2))))] mix hF (by kernel_rfl) (by kernel_rfl) (by kernel_rfl) ⟨Pd.mono_eq, Pd.mono_eq, Pd.mono_eq, trivial⟩ (fun hG => ⟨np_loadBoxS hG hF ty28 rfl rfl (hs.bx 0 rfl) rfl rfl rfl rfl, np_loadBoxS hG hF ty28 rfl rfl (hs.bx 4 rfl) rfl rfl rfl rfl, np_call [.agg #[.int .i64 x14.1.Inputs, .slice a7 (List.length x14.1.Gates) c7], .agg #[.int .i64 x3.1.Inputs, .slice a3 (List.length x3.1.Gates) c3]] hG hF Try.call16 rfl rfl (fun w hC hg => (laws_eqCircuit_ok n x14.1 x3.1 hx15 ((RV.mk_Circuit x14.1 (RV.any (hs.rv 1 rfl))).ext hC) ((RV.mk_Circuit x3.1 (r4)).ext hC)).mono fun e w' ⟨v, he, hv, hc⟩ => ⟨v, he, hc, hv⟩), trivial⟩) (by kernel_rfl) fun fr w23 hF hE hc => then_normal ?_)
  have r4 := r4.ext hc
  have hs := hs.ext hc
  have hM0 := hM0.ext hc
  have hs : Sep [SL (α := D.Gate) 59 (.slice a5 (List.length x5.1.Gates) c5) x11.2.Gates, BX b4 28 [.int .i64 x5.1.Inputs, .slice a5 (List.length x5.1.Gates) c5]] w23 S17 := Sep.pick [2, 3] hs (by decide) rfl
  refine (wp_if hF (b := (((!x15) || (x14.2.1 != x3.2.1)) || (!(x14.2.2 == x3.2.2)))) rfl (fun hb => ?_) (fun hb => ?_))
  · replace h := iteT hb h
    have hs : Sep [] w23 S17 := Sep.pick [] hs (by decide) rfl
    refine wp_seq (wp_pure [(6, .bool false)] hF (by kernel_rfl) fun fr hF => then_normal ?_)
    obtain rfl := Option.some.inj h
    exact wp_ret (then_ret (ret1 rfl hF rfl ⟨_, rfl, rfl, hM0.chg⟩))
  replace h := iteF hb h
  refine (wp_skip (then_normal ?_))
  refine wp_seq (wp_pure [(12, .pointer (some ⟨b4, 0, none⟩)), (16, .int .i64 x11.1), (17, .int .i64 1)] hF (by kernel_rfl) fun fr hF => then_normal ?_)
  refine wp_seq (wp_text' ?_)
  refine s_loadBoxS ty28 rfl rfl hF rfl (hs.bx 1 rfl) rfl rfl fun fr hF => ?_
  have hs : Sep [SL (α := D.Gate) 59 (.slice a5 (List.length x5.1.Gates) c5) x11.2.Gates] w23 S17 := Sep.pick [0] hs (by decide) rfl
  refine from_pure 1 [(16, .int .i64 x11.1), (119, .agg #[.int .i64 x5.1.Inputs, .slice a5 (List.length x5.1.Gates) c5]), (120, .int .i64 1)] hF (by kernel_rfl) fun fr hF => ?_
  obtain ⟨x16, hx16, h⟩ := bindE h
  refine s_call [.agg #[.int .i64 x5.1.Inputs, .slice a5 (List.length x5.1.Gates) c5], .int .i64 1] Try.call18 rfl rfl hF rfl (laws_heldCircuit_ok n (D.Circuit.mk x5.1.Inputs x11.2.Gates) 1 hx16 (RV.mk_Circuit (D.Circuit.mk x5.1.Inputs x11.2.Gates) (RV.any (hs.rv 0 rfl)))) fun v w24 fr hRes hF => ?_
  obtain ⟨rfl, hc⟩ := hRes
  have hs := hs.ext hc
  have hM0 := hM0.ext hc
  have hs : Sep [] w24 S17 := Sep.pick [] hs (by decide) rfl
  refine from_pure 1 [(16, .int .i64 x11.1), (17, .int .i64 x16)] hF (by kernel_rfl) fun fr hF => ?_
  refine from_end rfl (then_normal ?_)
  refine wp_seq ?_
  refine wp_seq (wp_pure [(16, .int .i64 x11.1), (17, .int .i64 x16), (123, .bool (decide (x16 < 0)))] hF (by kernel_rfl) fun fr hF => then_normal ?_)
  refine (wp_if hF (b := (decide (x16 < 0))) rfl (fun hb => ?_) (fun hb => ?_))
  · replace h := iteT hb h
    refine wp_seq (wp_pure [(6, .bool false)] hF (by kernel_rfl) fun fr hF => then_normal ?_)
    obtain rfl := Option.some.inj h
    exact wp_ret (then_ret (ret1 rfl hF rfl ⟨_, rfl, rfl, hM0.chg⟩))
  replace h := iteF hb h
  refine (wp_skip (then_normal ?_))
  refine wp_seq ?_
  refine wp_seq (wp_pure [(126, .bool (x16 != x11.1))] hF (by kernel_rfl) fun fr hF => then_normal ?_)
  refine (wp_if hF (b := (x16 != x11.1)) rfl (fun hb => ?_) (fun hb => ?_))
  · replace h := iteT hb h
    refine wp_seq (wp_pure [(6, .bool false)] hF (by kernel_rfl) fun fr hF => then_normal ?_)
    obtain rfl := Option.some.inj h
    exact wp_ret (then_ret (ret1 rfl hF rfl ⟨_, rfl, rfl, hM0.chg⟩))
  replace h := iteF hb h
  refine (wp_skip (then_normal ?_))
  refine wp_seq (wp_pure [(6, .bool true)] hF (by kernel_rfl) fun fr hF => then_normal ?_)
  obtain rfl := Option.some.inj h
  exact wp_ret (ret1 rfl hF rfl ⟨_, rfl, rfl, hM0.chg⟩)
end Go.Proofs.Ytckeihpjfeonmaa
