/- Printed by gen2.py: the walks. -/
import Derived.Test.YtbfphbpeajmihaaWlkC
set_option linter.unusedVariables false
set_option maxRecDepth 100000
namespace Go.Proofs.Ytbfphbpeajmihaa
open Go.GL Go.Maps Go.WideMaps
theorem laws_eqState_ok (n : Nat) (p0 : D.State) (p1 : D.State) {r : Bool} (h : laws_eqState n p0 p1 = some r) {w : World} {G0 : Nat → Prop} {va0 : Value} (ra0 : RV w G0 va0 p0) {G1 : Nat → Prop} {va1 : Value} (ra1 : RV w G1 va1 p1) :
    Calls Try.prog 14 [va0, va1].toArray w fun e w' => ∃ v, e = .returned v ∧ v = .bool r ∧ Chg Non w w' := by
  unfold laws_eqState at h
  have hs := Sep.nil w Non
  have hM0 : Mem w Non (fun k => (G0 k ∨ G1 k) ∧ k < w.heap.size) w Non (fun k => (G0 k ∨ G1 k) ∧ k < w.heap.size) := Mem.start (fun _ h => h.elim) (fun _ h => h.2) (fun _ h => h.elim)
  have ra0 := ra0.sub (F' := (fun k => (G0 k ∨ G1 k) ∧ k < w.heap.size)) (fun k hk h => ⟨.inl h, hk⟩)
  obtain ⟨v1, v2, v3, v4, rfl, r1, r2, r3, r4⟩ := RV.State ra0
  obtain ⟨a1, c1, rfl, -⟩ := r1.slice
  obtain ⟨a2, c2, rfl, -⟩ := r2.slice
  obtain ⟨a3, c3, rfl, -⟩ := r3.slice
  obtain ⟨a4, c4, rfl, -⟩ := r4.slice
  have ra1 := ra1.sub (F' := (fun k => (G0 k ∨ G1 k) ∧ k < w.heap.size)) (fun k hk h => ⟨.inr (h), hk⟩)
  obtain ⟨v5, v6, v7, v8, rfl, r5, r6, r7, r8⟩ := RV.State ra1
  obtain ⟨a5, c5, rfl, -⟩ := r5.slice
  obtain ⟨a6, c6, rfl, -⟩ := r6.slice
  obtain ⟨a7, c7, rfl, -⟩ := r7.slice
  obtain ⟨a8, c8, rfl, -⟩ := r8.slice
  refine enter (N := 49) Try.func14 rfl Try.ntmps14 rfl fun fr hF => ?_
  refine wp_seq (wp_text' ?_)
  refine q_box hs hM0 [.int .i64 p0.Pc, .slice a1 (List.length p0.Regs) c1, .slice a2 (List.length p0.Mem) c2, .slice a3 (List.length p0.Stack) c3, .int .i64 p0.In, .slice a4 (List.length p0.Out) c4, .int .i64 p0.Code, .int .i64 p0.Steps] rfl rfl hF rfl rfl fun b1 w1 S1 fr hs hp hF => ?_
  have r1 := r1.stp hM0 hp
  have r2 := r2.stp hM0 hp
  have r3 := r3.stp hM0 hp
  have r4 := r4.stp hM0 hp
  have r5 := r5.stp hM0 hp
  have r6 := r6.stp hM0 hp
  have r7 := r7.stp hM0 hp
  have r8 := r8.stp hM0 hp
  have hM0 := hM0.stp hp
  have hs : Sep [BX b1 28 [.int .i64 p0.Pc, .slice a1 (List.length p0.Regs) c1, .slice a2 (List.length p0.Mem) c2, .slice a3 (List.length p0.Stack) c3, .int .i64 p0.In, .slice a4 (List.length p0.Out) c4, .int .i64 p0.Code, .int .i64 p0.Steps]] w1 S1 := hs
  refine q_box hs hM0 [.int .i64 p1.Pc, .slice a5 (List.length p1.Regs) c5, .slice a6 (List.length p1.Mem) c6, .slice a7 (List.length p1.Stack) c7, .int .i64 p1.In, .slice a8 (List.length p1.Out) c8, .int .i64 p1.Code, .int .i64 p1.Steps] rfl rfl hF rfl rfl fun b2 w2 S2 fr hs hp hF => ?_
  have r5 := r5.stp hM0 hp
  have r6 := r6.stp hM0 hp
  have r7 := r7.stp hM0 hp
  have r8 := r8.stp hM0 hp
  have r1 := r1.stp hM0 hp
  have r2 := r2.stp hM0 hp
  have r3 := r3.stp hM0 hp
  have r4 := r4.stp hM0 hp
  have hM0 := hM0.stp hp
  have hs : Sep [BX b2 28 [.int .i64 p1.Pc, .slice a5 (List.length p1.Regs) c5, .slice a6 (List.length p1.Mem) c6, .slice a7 (List.length p1.Stack) c7, .int .i64 p1.In, .slice a8 (List.length p1.Out) c8, .int .i64 p1.Code, .int .i64 p1.Steps], BX b1 28 [.int .i64 p0.Pc, .slice a1 (List.length p0.Regs) c1, .slice a2 (List.length p0.Mem) c2, .slice a3 (List.length p0.Stack) c3, .int .i64 p0.In, .slice a4 (List.length p0.Out) c4, .int .i64 p0.Code, .int .i64 p0.Steps]] w2 S2 := hs
  refine from_pure 1 [(2, .pointer (some ⟨b1, 0, none⟩)), (3, .pointer (some ⟨b2, 0, none⟩))] hF (by kernel_rfl) fun fr hF => ?_
  refine from_end rfl (then_normal ?_)
  refine wp_seq ?_
  refine wp_seq (wp_text' ?_)
  refine from_pure 1 [(2, .pointer (some ⟨b1, 0, none⟩)), (3, .pointer (some ⟨b2, 0, none⟩)), (5, .pointer (some ⟨b1, 0, none⟩))] hF (by kernel_rfl) fun fr hF => ?_
  refine s_loadBox (.int .i64 p0.Pc) ty3 rfl rfl hF rfl (hs.bx 1 rfl) rfl rfl fun fr hF => ?_
  refine from_pure 1 [(2, .pointer (some ⟨b1, 0, none⟩)), (3, .pointer (some ⟨b2, 0, none⟩)), (6, .int .i64 p0.Pc), (7, .pointer (some ⟨b2, 0, none⟩))] hF (by kernel_rfl) fun fr hF => ?_
  refine s_loadBox (.int .i64 p1.Pc) ty3 rfl rfl hF rfl (hs.bx 0 rfl) rfl rfl fun fr hF => ?_
  refine from_pure 1 [(2, .pointer (some ⟨b1, 0, none⟩)), (3, .pointer (some ⟨b2, 0, none⟩)), (9, .bool (p0.Pc != p1.Pc))] hF (by kernel_rfl) fun fr hF => ?_
  refine from_end rfl (then_normal ?_)
  refine (wp_if hF (b := (p0.Pc != p1.Pc)) rfl (fun hb => ?_) (fun hb => ?_))
  · replace h := iteT hb h
    have hs : Sep [] w2 S2 := Sep.pick [] hs (by decide) rfl
    refine wp_seq (wp_pure [(4, .bool false)] hF (by kernel_rfl) fun fr hF => then_normal ?_)
    obtain rfl := Option.some.inj h
    exact wp_ret (then_ret (ret1 rfl hF rfl ⟨_, rfl, rfl, hM0.chg⟩))
  replace h := iteF hb h
  refine (wp_skip (then_normal ?_))
  refine wp_seq ?_
  refine wp_seq (wp_text' ?_)
  refine from_pure 1 [(2, .pointer (some ⟨b1, 0, none⟩)), (3, .pointer (some ⟨b2, 0, none⟩)), (10, .pointer (some ⟨b1, 1, none⟩))] hF (by kernel_rfl) fun fr hF => ?_
  refine s_loadBox (.slice a1 (List.length p0.Regs) c1) ty26 rfl rfl hF rfl (hs.bx 1 rfl) rfl rfl fun fr hF => ?_
  refine from_pure 1 [(2, .pointer (some ⟨b1, 0, none⟩)), (3, .pointer (some ⟨b2, 0, none⟩)), (11, .slice a1 (List.length p0.Regs) c1), (12, .pointer (some ⟨b2, 1, none⟩))] hF (by kernel_rfl) fun fr hF => ?_
  refine s_loadBox (.slice a5 (List.length p1.Regs) c5) ty26 rfl rfl hF rfl (hs.bx 0 rfl) rfl rfl fun fr hF => ?_
  obtain ⟨x1, hx1, h⟩ := bindE h
  refine s_call [.slice a1 (List.length p0.Regs) c1, .slice a5 (List.length p1.Regs) c5] Try.call24 rfl rfl hF rfl (laws_eqIntS_ok n p0.Regs p1.Regs hx1 (r1) (r5)) fun v w3 fr hRes hF => ?_
  obtain ⟨rfl, hc⟩ := hRes
  have r1 := r1.ext hc
  have r5 := r5.ext hc
  have r6 := r6.ext hc
  have r7 := r7.ext hc
  have r8 := r8.ext hc
  have r2 := r2.ext hc
  have r3 := r3.ext hc
  have r4 := r4.ext hc
  have hs := hs.ext hc
  have hM0 := hM0.ext hc
  refine from_pure 1 [(2, .pointer (some ⟨b1, 0, none⟩)), (3, .pointer (some ⟨b2, 0, none⟩)), (15, .bool (!x1))] hF (by kernel_rfl) fun fr hF => ?_
  refine from_end rfl (then_normal ?_)
  refine (wp_if hF (b := (!x1)) rfl (fun hb => ?_) (fun hb => ?_))
  · replace h := iteT hb h
    have hs : Sep [] w3 S2 := Sep.pick [] hs (by decide) rfl
    refine wp_seq (wp_pure [(4, .bool false)] hF (by kernel_rfl) fun fr hF => then_normal ?_)
    obtain rfl := Option.some.inj h
    exact wp_ret (then_ret (ret1 rfl hF rfl ⟨_, rfl, rfl, hM0.chg⟩))
  replace h := iteF hb h
  refine (wp_skip (then_normal ?_))
  refine wp_seq ?_
  refine wp_seq (wp_text' ?_)
  refine from_pure 1 [(2, .pointer (some ⟨b1, 0, none⟩)), (3, .pointer (some ⟨b2, 0, none⟩)), (16, .pointer (some ⟨b1, 2, none⟩))] hF (by kernel_rfl) fun fr hF => ?_
  refine s_loadBox (.slice a2 (List.length p0.Mem) c2) ty26 rfl rfl hF rfl (hs.bx 1 rfl) rfl rfl fun fr hF => ?_
  refine from_pure 1 [(2, .pointer (some ⟨b1, 0, none⟩)), (3, .pointer (some ⟨b2, 0, none⟩)), (17, .slice a2 (List.length p0.Mem) c2), (18, .pointer (some ⟨b2, 2, none⟩))] hF (by kernel_rfl) fun fr hF => ?_
  refine s_loadBox (.slice a6 (List.length p1.Mem) c6) ty26 rfl rfl hF rfl (hs.bx 0 rfl) rfl rfl fun fr hF => ?_
  obtain ⟨x2, hx2, h⟩ := bindE h
  refine s_call [.slice a2 (List.length p0.Mem) c2, .slice a6 (List.length p1.Mem) c6] Try.call24 rfl rfl hF rfl (laws_eqIntS_ok n p0.Mem p1.Mem hx2 (r2) (r6)) fun v w4 fr hRes hF => ?_
  obtain ⟨rfl, hc⟩ := hRes
  have r2 := r2.ext hc
  have r6 := r6.ext hc
  have r5 := r5.ext hc
  have r7 := r7.ext hc
  have r8 := r8.ext hc
  have r1 := r1.ext hc
  have r3 := r3.ext hc
  have r4 := r4.ext hc
  have hs := hs.ext hc
  have hM0 := hM0.ext hc
  refine from_pure 1 [(2, .pointer (some ⟨b1, 0, none⟩)), (3, .pointer (some ⟨b2, 0, none⟩)), (21, .bool (!x2))] hF (by kernel_rfl) fun fr hF => ?_
  refine from_end rfl (then_normal ?_)
  refine (wp_if hF (b := (!x2)) rfl (fun hb => ?_) (fun hb => ?_))
  · replace h := iteT hb h
    have hs : Sep [] w4 S2 := Sep.pick [] hs (by decide) rfl
    refine wp_seq (wp_pure [(4, .bool false)] hF (by kernel_rfl) fun fr hF => then_normal ?_)
    obtain rfl := Option.some.inj h
    exact wp_ret (then_ret (ret1 rfl hF rfl ⟨_, rfl, rfl, hM0.chg⟩))
  replace h := iteF hb h
  refine (wp_skip (then_normal ?_))
  refine wp_seq ?_
  refine wp_seq (wp_text' ?_)
  refine from_pure 1 [(2, .pointer (some ⟨b1, 0, none⟩)), (3, .pointer (some ⟨b2, 0, none⟩)), (22, .pointer (some ⟨b1, 3, none⟩))] hF (by kernel_rfl) fun fr hF => ?_
  refine s_loadBox (.slice a3 (List.length p0.Stack) c3) ty26 rfl rfl hF rfl (hs.bx 1 rfl) rfl rfl fun fr hF => ?_
  refine from_pure 1 [(2, .pointer (some ⟨b1, 0, none⟩)), (3, .pointer (some ⟨b2, 0, none⟩)), (23, .slice a3 (List.length p0.Stack) c3), (24, .pointer (some ⟨b2, 3, none⟩))] hF (by kernel_rfl) fun fr hF => ?_
  refine s_loadBox (.slice a7 (List.length p1.Stack) c7) ty26 rfl rfl hF rfl (hs.bx 0 rfl) rfl rfl fun fr hF => ?_
  obtain ⟨x3, hx3, h⟩ := bindE h
  refine s_call [.slice a3 (List.length p0.Stack) c3, .slice a7 (List.length p1.Stack) c7] Try.call24 rfl rfl hF rfl (laws_eqIntS_ok n p0.Stack p1.Stack hx3 (r3) (r7)) fun v w5 fr hRes hF => ?_
  obtain ⟨rfl, hc⟩ := hRes
  have r3 := r3.ext hc
  have r7 := r7.ext hc
  have r5 := r5.ext hc
  have r6 := r6.ext hc
  have r8 := r8.ext hc
  have r1 := r1.ext hc
  have r2 := r2.ext hc
  have r4 := r4.ext hc
  have hs := hs.ext hc
  have hM0 := hM0.ext hc
  refine from_pure 1 [(2, .pointer (some ⟨b1, 0, none⟩)), (3, .pointer (some ⟨b2, 0, none⟩)), (27, .bool (!x3))] hF (by kernel_rfl) fun fr hF => ?_
  refine from_end rfl (then_normal ?_)
  refine (wp_if hF (b := (!x3)) rfl (fun hb => ?_) (fun hb => ?_))
  · replace h := iteT hb h
    have hs : Sep [] w5 S2 := Sep.pick [] hs (by decide) rfl
    refine wp_seq (wp_pure [(4, .bool false)] hF (by kernel_rfl) fun fr hF => then_normal ?_)
    obtain rfl := Option.some.inj h
    exact wp_ret (then_ret (ret1 rfl hF rfl ⟨_, rfl, rfl, hM0.chg⟩))
  replace h := iteF hb h
  refine (wp_skip (then_normal ?_))
  refine wp_seq ?_
  refine wp_seq (wp_text' ?_)
  refine from_pure 1 [(2, .pointer (some ⟨b1, 0, none⟩)), (3, .pointer (some ⟨b2, 0, none⟩)), (28, .pointer (some ⟨b1, 4, none⟩))] hF (by kernel_rfl) fun fr hF => ?_
  refine s_loadBox (.int .i64 p0.In) ty3 rfl rfl hF rfl (hs.bx 1 rfl) rfl rfl fun fr hF => ?_
  refine from_pure 1 [(2, .pointer (some ⟨b1, 0, none⟩)), (3, .pointer (some ⟨b2, 0, none⟩)), (29, .int .i64 p0.In), (30, .pointer (some ⟨b2, 4, none⟩))] hF (by kernel_rfl) fun fr hF => ?_
  refine s_loadBox (.int .i64 p1.In) ty3 rfl rfl hF rfl (hs.bx 0 rfl) rfl rfl fun fr hF => ?_
  refine from_pure 1 [(2, .pointer (some ⟨b1, 0, none⟩)), (3, .pointer (some ⟨b2, 0, none⟩)), (32, .bool (p0.In != p1.In))] hF (by kernel_rfl) fun fr hF => ?_
  refine from_end rfl (then_normal ?_)
  refine (wp_if hF (b := (p0.In != p1.In)) rfl (fun hb => ?_) (fun hb => ?_))
  · replace h := iteT hb h
    have hs : Sep [] w5 S2 := Sep.pick [] hs (by decide) rfl
    refine wp_seq (wp_pure [(4, .bool false)] hF (by kernel_rfl) fun fr hF => then_normal ?_)
    obtain rfl := Option.some.inj h
    exact wp_ret (then_ret (ret1 rfl hF rfl ⟨_, rfl, rfl, hM0.chg⟩))
  replace h := iteF hb h
  refine (wp_skip (then_normal ?_))
  refine wp_seq ?_
  refine wp_seq (wp_text' ?_)
  refine from_pure 1 [(2, .pointer (some ⟨b1, 0, none⟩)), (3, .pointer (some ⟨b2, 0, none⟩)), (33, .pointer (some ⟨b1, 5, none⟩))] hF (by kernel_rfl) fun fr hF => ?_
  refine s_loadBox (.slice a4 (List.length p0.Out) c4) ty26 rfl rfl hF rfl (hs.bx 1 rfl) rfl rfl fun fr hF => ?_
  refine from_pure 1 [(2, .pointer (some ⟨b1, 0, none⟩)), (3, .pointer (some ⟨b2, 0, none⟩)), (34, .slice a4 (List.length p0.Out) c4), (35, .pointer (some ⟨b2, 5, none⟩))] hF (by kernel_rfl) fun fr hF => ?_
  refine s_loadBox (.slice a8 (List.length p1.Out) c8) ty26 rfl rfl hF rfl (hs.bx 0 rfl) rfl rfl fun fr hF => ?_
  obtain ⟨x4, hx4, h⟩ := bindE h
  refine s_call [.slice a4 (List.length p0.Out) c4, .slice a8 (List.length p1.Out) c8] Try.call24 rfl rfl hF rfl (laws_eqIntS_ok n p0.Out p1.Out hx4 (r4) (r8)) fun v w6 fr hRes hF => ?_
  obtain ⟨rfl, hc⟩ := hRes
  have r4 := r4.ext hc
  have r8 := r8.ext hc
  have r5 := r5.ext hc
  have r6 := r6.ext hc
  have r7 := r7.ext hc
  have r1 := r1.ext hc
  have r2 := r2.ext hc
  have r3 := r3.ext hc
  have hs := hs.ext hc
  have hM0 := hM0.ext hc
  refine from_pure 1 [(2, .pointer (some ⟨b1, 0, none⟩)), (3, .pointer (some ⟨b2, 0, none⟩)), (38, .bool (!x4))] hF (by kernel_rfl) fun fr hF => ?_
  refine from_end rfl (then_normal ?_)
  refine (wp_if hF (b := (!x4)) rfl (fun hb => ?_) (fun hb => ?_))
  · replace h := iteT hb h
    have hs : Sep [] w6 S2 := Sep.pick [] hs (by decide) rfl
    refine wp_seq (wp_pure [(4, .bool false)] hF (by kernel_rfl) fun fr hF => then_normal ?_)
    obtain rfl := Option.some.inj h
    exact wp_ret (then_ret (ret1 rfl hF rfl ⟨_, rfl, rfl, hM0.chg⟩))
  replace h := iteF hb h
  refine (wp_skip (then_normal ?_))
  refine wp_seq ?_
  refine wp_seq (wp_text' ?_)
  refine from_pure 1 [(2, .pointer (some ⟨b1, 0, none⟩)), (3, .pointer (some ⟨b2, 0, none⟩)), (39, .pointer (some ⟨b1, 6, none⟩))] hF (by kernel_rfl) fun fr hF => ?_
  refine s_loadBox (.int .i64 p0.Code) ty3 rfl rfl hF rfl (hs.bx 1 rfl) rfl rfl fun fr hF => ?_
  refine from_pure 1 [(2, .pointer (some ⟨b1, 0, none⟩)), (3, .pointer (some ⟨b2, 0, none⟩)), (40, .int .i64 p0.Code), (41, .pointer (some ⟨b2, 6, none⟩))] hF (by kernel_rfl) fun fr hF => ?_
  refine s_loadBox (.int .i64 p1.Code) ty3 rfl rfl hF rfl (hs.bx 0 rfl) rfl rfl fun fr hF => ?_
  refine from_pure 1 [(2, .pointer (some ⟨b1, 0, none⟩)), (3, .pointer (some ⟨b2, 0, none⟩)), (43, .bool (p0.Code != p1.Code))] hF (by kernel_rfl) fun fr hF => ?_
  refine from_end rfl (then_normal ?_)
  refine (wp_if hF (b := (p0.Code != p1.Code)) rfl (fun hb => ?_) (fun hb => ?_))
  · replace h := iteT hb h
    have hs : Sep [] w6 S2 := Sep.pick [] hs (by decide) rfl
    refine wp_seq (wp_pure [(4, .bool false)] hF (by kernel_rfl) fun fr hF => then_normal ?_)
    obtain rfl := Option.some.inj h
    exact wp_ret (then_ret (ret1 rfl hF rfl ⟨_, rfl, rfl, hM0.chg⟩))
  replace h := iteF hb h
  refine (wp_skip (then_normal ?_))
  refine wp_seq ?_
  refine wp_seq (wp_text' ?_)
  refine from_pure 1 [(3, .pointer (some ⟨b2, 0, none⟩)), (44, .pointer (some ⟨b1, 7, none⟩))] hF (by kernel_rfl) fun fr hF => ?_
  refine s_loadBox (.int .i64 p0.Steps) ty3 rfl rfl hF rfl (hs.bx 1 rfl) rfl rfl fun fr hF => ?_
  have hs : Sep [BX b2 28 [.int .i64 p1.Pc, .slice a5 (List.length p1.Regs) c5, .slice a6 (List.length p1.Mem) c6, .slice a7 (List.length p1.Stack) c7, .int .i64 p1.In, .slice a8 (List.length p1.Out) c8, .int .i64 p1.Code, .int .i64 p1.Steps]] w6 S2 := Sep.pick [0] hs (by decide) rfl
  refine from_pure 1 [(45, .int .i64 p0.Steps), (46, .pointer (some ⟨b2, 7, none⟩))] hF (by kernel_rfl) fun fr hF => ?_
  refine s_loadBox (.int .i64 p1.Steps) ty3 rfl rfl hF rfl (hs.bx 0 rfl) rfl rfl fun fr hF => ?_
  have hs : Sep [] w6 S2 := Sep.pick [] hs (by decide) rfl
  refine from_pure 1 [(48, .bool (p0.Steps != p1.Steps))] hF (by kernel_rfl) fun fr hF => ?_
  refine from_end rfl (then_normal ?_)
  refine (wp_if hF (b := (p0.Steps != p1.Steps)) rfl (fun hb => ?_) (fun hb => ?_))
  · replace h := iteT hb h
    refine wp_seq (wp_pure [(4, .bool false)] hF (by kernel_rfl) fun fr hF => then_normal ?_)
    obtain rfl := Option.some.inj h
    exact wp_ret (then_ret (ret1 rfl hF rfl ⟨_, rfl, rfl, hM0.chg⟩))
  replace h := iteF hb h
  refine (wp_skip (then_normal ?_))
  refine wp_seq (wp_pure [(4, .bool true)] hF (by kernel_rfl) fun fr hF => then_normal ?_)
  obtain rfl := Option.some.inj h
  exact wp_ret (ret1 rfl hF rfl ⟨_, rfl, rfl, hM0.chg⟩)

theorem laws_eqIns_ok (p0 : D.Ins) (p1 : D.Ins) {r : Bool} (h : laws_eqIns p0 p1 = some r) {w : World} :
    Calls Try.prog 63 [.agg #[.int .i64 p0.Op, .int .i64 p0.A, .int .i64 p0.B, .int .i64 p0.C], .agg #[.int .i64 p1.Op, .int .i64 p1.A, .int .i64 p1.B, .int .i64 p1.C]].toArray w fun e w' => ∃ v, e = .returned v ∧ v = .bool r ∧ Chg Non w w' := by
  unfold laws_eqIns at h
  have hs := Sep.nil w Non
  have hM0 : Mem w Non (fun k => (False) ∧ k < w.heap.size) w Non (fun k => (False) ∧ k < w.heap.size) := Mem.start (fun _ h => h.elim) (fun _ h => h.2) (fun _ h => h.elim)
  refine enter (N := 25) Try.func63 rfl Try.ntmps63 rfl fun fr hF => ?_
  refine wp_seq (wp_text' ?_)
  refine q_box hs hM0 [.int .i64 p0.Op, .int .i64 p0.A, .int .i64 p0.B, .int .i64 p0.C] rfl rfl hF rfl rfl fun b1 w1 S1 fr hs hp hF => ?_
  have hM0 := hM0.stp hp
  have hs : Sep [BX b1 66 [.int .i64 p0.Op, .int .i64 p0.A, .int .i64 p0.B, .int .i64 p0.C]] w1 S1 := hs
  refine q_box hs hM0 [.int .i64 p1.Op, .int .i64 p1.A, .int .i64 p1.B, .int .i64 p1.C] rfl rfl hF rfl rfl fun b2 w2 S2 fr hs hp hF => ?_
  have hM0 := hM0.stp hp
  have hs : Sep [BX b2 66 [.int .i64 p1.Op, .int .i64 p1.A, .int .i64 p1.B, .int .i64 p1.C], BX b1 66 [.int .i64 p0.Op, .int .i64 p0.A, .int .i64 p0.B, .int .i64 p0.C]] w2 S2 := hs
  refine from_pure 1 [(2, .pointer (some ⟨b1, 0, none⟩)), (3, .pointer (some ⟨b2, 0, none⟩))] hF (by kernel_rfl) fun fr hF => ?_
  refine from_end rfl (then_normal ?_)
  refine wp_seq ?_
  refine wp_seq (wp_text' ?_)
  refine from_pure 1 [(2, .pointer (some ⟨b1, 0, none⟩)), (3, .pointer (some ⟨b2, 0, none⟩)), (5, .pointer (some ⟨b1, 0, none⟩))] hF (by kernel_rfl) fun fr hF => ?_
  refine s_loadBox (.int .i64 p0.Op) ty3 rfl rfl hF rfl (hs.bx 1 rfl) rfl rfl fun fr hF => ?_
  refine from_pure 1 [(2, .pointer (some ⟨b1, 0, none⟩)), (3, .pointer (some ⟨b2, 0, none⟩)), (6, .int .i64 p0.Op), (7, .pointer (some ⟨b2, 0, none⟩))] hF (by kernel_rfl) fun fr hF => ?_
  refine s_loadBox (.int .i64 p1.Op) ty3 rfl rfl hF rfl (hs.bx 0 rfl) rfl rfl fun fr hF => ?_
  refine from_pure 1 [(2, .pointer (some ⟨b1, 0, none⟩)), (3, .pointer (some ⟨b2, 0, none⟩)), (9, .bool (p0.Op != p1.Op))] hF (by kernel_rfl) fun fr hF => ?_
  refine from_end rfl (then_normal ?_)
  refine (wp_if hF (b := (p0.Op != p1.Op)) rfl (fun hb => ?_) (fun hb => ?_))
  · replace h := iteT hb h
    have hs : Sep [] w2 S2 := Sep.pick [] hs (by decide) rfl
    refine wp_seq (wp_pure [(4, .bool false)] hF (by kernel_rfl) fun fr hF => then_normal ?_)
    obtain rfl := Option.some.inj h
    exact wp_ret (then_ret (ret1 rfl hF rfl ⟨_, rfl, rfl, hM0.chg⟩))
  replace h := iteF hb h
  refine (wp_skip (then_normal ?_))
  refine wp_seq ?_
  refine wp_seq (wp_text' ?_)
  refine from_pure 1 [(2, .pointer (some ⟨b1, 0, none⟩)), (3, .pointer (some ⟨b2, 0, none⟩)), (10, .pointer (some ⟨b1, 1, none⟩))] hF (by kernel_rfl) fun fr hF => ?_
  refine s_loadBox (.int .i64 p0.A) ty3 rfl rfl hF rfl (hs.bx 1 rfl) rfl rfl fun fr hF => ?_
  refine from_pure 1 [(2, .pointer (some ⟨b1, 0, none⟩)), (3, .pointer (some ⟨b2, 0, none⟩)), (11, .int .i64 p0.A), (12, .pointer (some ⟨b2, 1, none⟩))] hF (by kernel_rfl) fun fr hF => ?_
  refine s_loadBox (.int .i64 p1.A) ty3 rfl rfl hF rfl (hs.bx 0 rfl) rfl rfl fun fr hF => ?_
  refine from_pure 1 [(2, .pointer (some ⟨b1, 0, none⟩)), (3, .pointer (some ⟨b2, 0, none⟩)), (14, .bool (p0.A != p1.A))] hF (by kernel_rfl) fun fr hF => ?_
  refine from_end rfl (then_normal ?_)
  refine (wp_if hF (b := (p0.A != p1.A)) rfl (fun hb => ?_) (fun hb => ?_))
  · replace h := iteT hb h
    have hs : Sep [] w2 S2 := Sep.pick [] hs (by decide) rfl
    refine wp_seq (wp_pure [(4, .bool false)] hF (by kernel_rfl) fun fr hF => then_normal ?_)
    obtain rfl := Option.some.inj h
    exact wp_ret (then_ret (ret1 rfl hF rfl ⟨_, rfl, rfl, hM0.chg⟩))
  replace h := iteF hb h
  refine (wp_skip (then_normal ?_))
  refine wp_seq ?_
  refine wp_seq (wp_text' ?_)
  refine from_pure 1 [(2, .pointer (some ⟨b1, 0, none⟩)), (3, .pointer (some ⟨b2, 0, none⟩)), (15, .pointer (some ⟨b1, 2, none⟩))] hF (by kernel_rfl) fun fr hF => ?_
  refine s_loadBox (.int .i64 p0.B) ty3 rfl rfl hF rfl (hs.bx 1 rfl) rfl rfl fun fr hF => ?_
  refine from_pure 1 [(2, .pointer (some ⟨b1, 0, none⟩)), (3, .pointer (some ⟨b2, 0, none⟩)), (16, .int .i64 p0.B), (17, .pointer (some ⟨b2, 2, none⟩))] hF (by kernel_rfl) fun fr hF => ?_
  refine s_loadBox (.int .i64 p1.B) ty3 rfl rfl hF rfl (hs.bx 0 rfl) rfl rfl fun fr hF => ?_
  refine from_pure 1 [(2, .pointer (some ⟨b1, 0, none⟩)), (3, .pointer (some ⟨b2, 0, none⟩)), (19, .bool (p0.B != p1.B))] hF (by kernel_rfl) fun fr hF => ?_
  refine from_end rfl (then_normal ?_)
  refine (wp_if hF (b := (p0.B != p1.B)) rfl (fun hb => ?_) (fun hb => ?_))
  · replace h := iteT hb h
    have hs : Sep [] w2 S2 := Sep.pick [] hs (by decide) rfl
    refine wp_seq (wp_pure [(4, .bool false)] hF (by kernel_rfl) fun fr hF => then_normal ?_)
    obtain rfl := Option.some.inj h
    exact wp_ret (then_ret (ret1 rfl hF rfl ⟨_, rfl, rfl, hM0.chg⟩))
  replace h := iteF hb h
  refine (wp_skip (then_normal ?_))
  refine wp_seq ?_
  refine wp_seq (wp_text' ?_)
  refine from_pure 1 [(3, .pointer (some ⟨b2, 0, none⟩)), (20, .pointer (some ⟨b1, 3, none⟩))] hF (by kernel_rfl) fun fr hF => ?_
  refine s_loadBox (.int .i64 p0.C) ty3 rfl rfl hF rfl (hs.bx 1 rfl) rfl rfl fun fr hF => ?_
  have hs : Sep [BX b2 66 [.int .i64 p1.Op, .int .i64 p1.A, .int .i64 p1.B, .int .i64 p1.C]] w2 S2 := Sep.pick [0] hs (by decide) rfl
  refine from_pure 1 [(21, .int .i64 p0.C), (22, .pointer (some ⟨b2, 3, none⟩))] hF (by kernel_rfl) fun fr hF => ?_
  refine s_loadBox (.int .i64 p1.C) ty3 rfl rfl hF rfl (hs.bx 0 rfl) rfl rfl fun fr hF => ?_
  have hs : Sep [] w2 S2 := Sep.pick [] hs (by decide) rfl
  refine from_pure 1 [(24, .bool (p0.C != p1.C))] hF (by kernel_rfl) fun fr hF => ?_
  refine from_end rfl (then_normal ?_)
  refine (wp_if hF (b := (p0.C != p1.C)) rfl (fun hb => ?_) (fun hb => ?_))
  · replace h := iteT hb h
    refine wp_seq (wp_pure [(4, .bool false)] hF (by kernel_rfl) fun fr hF => then_normal ?_)
    obtain rfl := Option.some.inj h
    exact wp_ret (then_ret (ret1 rfl hF rfl ⟨_, rfl, rfl, hM0.chg⟩))
  replace h := iteF hb h
  refine (wp_skip (then_normal ?_))
  refine wp_seq (wp_pure [(4, .bool true)] hF (by kernel_rfl) fun fr hF => then_normal ?_)
  obtain rfl := Option.some.inj h
  exact wp_ret (ret1 rfl hF rfl ⟨_, rfl, rfl, hM0.chg⟩)

theorem laws_eqInsS_ok (n : Nat) (p0 : List D.Ins) (p1 : List D.Ins) {r : Bool} (h : laws_eqInsS n p0 p1 = some r) {w : World} {G0 : Nat → Prop} {va0 : Value} (ra0 : RV w G0 va0 p0) {G1 : Nat → Prop} {va1 : Value} (ra1 : RV w G1 va1 p1) :
    Calls Try.prog 41 [va0, va1].toArray w fun e w' => ∃ v, e = .returned v ∧ v = .bool r ∧ Chg Non w w' := by
  unfold laws_eqInsS at h
  have hs := Sep.nil w Non
  have hM0 : Mem w Non (fun k => (G0 k ∨ G1 k) ∧ k < w.heap.size) w Non (fun k => (G0 k ∨ G1 k) ∧ k < w.heap.size) := Mem.start (fun _ h => h.elim) (fun _ h => h.2) (fun _ h => h.elim)
  have ra0 := ra0.sub (F' := (fun k => (G0 k ∨ G1 k) ∧ k < w.heap.size)) (fun k hk h => ⟨.inl h, hk⟩)
  obtain ⟨a1, c1, rfl, -⟩ := ra0.slice
  have ra1 := ra1.sub (F' := (fun k => (G0 k ∨ G1 k) ∧ k < w.heap.size)) (fun k hk h => ⟨.inr (h), hk⟩)
  obtain ⟨a2, c2, rfl, -⟩ := ra1.slice
  refine enter (N := 27) Try.func41 rfl Try.ntmps41 rfl fun fr hF => ?_
  refine wp_seq (wp_pure [(0, .slice a1 (List.length p0) c1), (1, .slice a2 (List.length p1) c2)] hF (by kernel_rfl) fun fr hF => then_normal ?_)
  refine wp_seq ?_
  refine wp_seq (wp_pure [(0, .slice a1 (List.length p0) c1), (1, .slice a2 (List.length p1) c2), (10, .bool ((len p0) != (len p1)))] hF (by kernel_rfl) fun fr hF => then_normal ?_)
  refine (wp_if hF (b := ((len p0) != (len p1))) rfl (fun hb => ?_) (fun hb => ?_))
  · replace h := iteT hb h
    refine wp_seq (wp_pure [(4, .bool false)] hF (by kernel_rfl) fun fr hF => then_normal ?_)
    obtain rfl := Option.some.inj h
    exact wp_ret (then_ret (ret1 rfl hF rfl ⟨_, rfl, rfl, hM0.chg⟩))
  replace h := iteF hb h
  refine (wp_skip (then_normal ?_))
  refine wp_seq ?_
  refine wp_seq (wp_pure [(0, .slice a1 (List.length p0) c1), (1, .slice a2 (List.length p1) c2), (5, .int .i64 0)] hF (by kernel_rfl) fun fr hF => then_normal ?_)
  obtain ⟨rl1, hit1, h⟩ := bindE h
  have hk1 := h
  refine (wp_cut (M := fun fr w' => ∃ s, rl1 = .inl s ∧ ∃ S2 F2, FrS 27 [] fr ∧ Mem w Non (fun k => (G0 k ∨ G1 k) ∧ k < w.heap.size) w' S2 F2 ∧ Sep [] w' S2) (wp_block (wp_iter (Inv := fun s1 fr w' => ∃ S1 F1, FrS 27 [(0, .slice a1 (List.length p0) c1), (1, .slice a2 (List.length p1) c2), (5, .int .i64 s1)] fr ∧ Mem w Non (fun k => (G0 k ∨ G1 k) ∧ k < w.heap.size) w' S1 F1 ∧ Sep [] w' S1) hit1 ⟨Non, _, hF.sub _ (by kernel_rfl), (Mem.start hM0.bd hM0.bdF hM0.dj), hs⟩ fun s1 q1 fr w1i hI h hr1 => ?_)) fun fr w1o hM => ?_)
  · obtain ⟨S1, F1, hF, hM1, hs⟩ := hI
    have ra0 := ra0.mem hM1
    have ra1 := ra1.mem hM1
    refine wp_seq ?_
    refine wp_seq (wp_pure [(0, .slice a1 (List.length p0) c1), (1, .slice a2 (List.length p1) c2), (5, .int .i64 s1), (14, .bool (decide (s1 < (len p0))))] hF (by kernel_rfl) fun fr hF => then_normal ?_)
    refine (wp_if hF (b := (decide (s1 < (len p0)))) rfl (fun hb => ?_) (fun hb => ?_))
    · replace h := iteT hb h
      refine (wp_skip (then_normal ?_))
      refine wp_seq (wp_block ?_)
      obtain ⟨x1, hx1, h⟩ := bindE h
      obtain ⟨x2, hx2, h⟩ := bindE h
      obtain ⟨x3, hx3, h⟩ := bindE h
      refine wp_seq (region_bm 10 [0, 0, 3, 7, 0, 0, 48, 112, 255, 511] [true, true, false, false, true, true, false, false, false, true]
          [.eq (.slice a1 (List.length p0) c1), .eq (.int .i64 s1), .is fun v w => ElemP w (fun k => k < w1i.heap.size) v (x1 : D.Ins), .eq (.agg #[.int .i64 x1.Op, .int .i64 x1.A, .int .i64 x1.B, .int .i64 x1.C]), .eq (.slice a2 (List.length p1) c2), .eq (.int .i64 s1), .is fun v w => ElemP w (fun k => k < w1i.heap.size) v (x2 : D.Ins), .eq (.agg #[.int .i64 x2.Op, .int .i64 x2.A, .int .i64 x2.B, .int .i64 x2.C]), .eq (.bool x3), .eq (.bool (!x3))]
          [(0, .slice a1 (List.length p0) c1), (1, .slice a2 (List.length p1) c2), (5, .int .i64 s1), (26, .bool (!x3))] mix hF (by kernel_rfl) (by kernel_rfl) (by kernel_rfl) (by kernel_rfl) ⟨(Pd.monoO_is mono_elem), Pd.monoO_eq, (Pd.monoO_is mono_elem), Pd.monoO_eq, Pd.monoO_eq, trivial⟩ (fun ow hG => ⟨np_to ow (np_index hG hF ty66 Try.underlying30 rfl rfl (RV.sub (ra0) fun k hk _ => hk) rfl rfl (fun hg => ⟨get?_nn hx1, get?_at hx1⟩)), np_to ow (np_loadF (z := x1) (i := 2) hG hF ty66 rfl rfl rfl rfl rfl rfl rfl), np_to ow (np_index hG hF ty66 Try.underlying30 rfl rfl (RV.sub (ra1) fun k hk _ => hk) rfl rfl (fun hg => ⟨get?_nn hx2, get?_at hx2⟩)), np_to ow (np_loadF (z := x2) (i := 6) hG hF ty66 rfl rfl rfl rfl rfl rfl rfl), np_to ow (np_call [.agg #[.int .i64 x1.Op, .int .i64 x1.A, .int .i64 x1.B, .int .i64 x1.C], .agg #[.int .i64 x2.Op, .int .i64 x2.A, .int .i64 x2.B, .int .i64 x2.C]] hG hF Try.call63 rfl rfl (fun w hC hg => (laws_eqIns_ok x1 x2 hx3).mono fun e w' ⟨v, he, hv, hc⟩ => ⟨v, he, hc, hv⟩)), trivial⟩) (by kernel_rfl) fun ow fr w1 hF hE hc => ?_)
      have ra0 := ra0.ext hc
      have ra1 := ra1.ext hc
      have hs := hs.ext hc
      have hM1 := hM1.ext hc
      refine from_end rfl (then_normal ?_)
      refine (wp_if hF (b := (!x3)) rfl (fun hb => ?_) (fun hb => ?_))
      · replace h := iteT hb h
        refine wp_seq (wp_pure [(4, .bool false)] hF (by kernel_rfl) fun fr hF => then_normal ?_)
        obtain rfl := hr1 _ (Option.some.inj h).symm
        obtain rfl := Option.some.inj hk1
        exact wp_ret (blk_ret (then_ret (then_ret (blk_ret (then_ret (ret1 rfl hF rfl ⟨_, rfl, rfl, (hM0.trans hM1).chg⟩))))))
      replace h := iteF hb h
      refine (wp_skip ?_)
      refine blk_normal (then_normal ?_)
      refine (wp_pure [(0, .slice a1 (List.length p0) c1), (1, .slice a2 (List.length p1) c2), (5, .int .i64 (w64 (s1 + 1)))] hF (by kernel_rfl) fun fr hF => then_normal ?_)
      exact ⟨_, (Option.some.inj h).symm, S1, _, hF.sub _ (by kernel_rfl), hM1, hs⟩
    replace h := iteF hb h
    refine (wp_exit (then_exit (then_exit (blk_exit_eq ?_))))
    obtain rfl := hr1 _ (Option.some.inj h).symm
    exact then_normal ⟨_, rfl, S1, _, hF.sub _ (by kernel_rfl), hM1, hs⟩
  · obtain ⟨s1r, rfl, hM⟩ := hM
    obtain ⟨S2, F2, hF, hMx, hs⟩ := hM
    have hM0 := hM0.trans hMx
    refine wp_seq (wp_pure [(4, .bool true)] hF (by kernel_rfl) fun fr hF => then_normal ?_)
    obtain rfl := Option.some.inj h
    exact wp_ret (ret1 rfl hF rfl ⟨_, rfl, rfl, hM0.chg⟩)

theorem laws_eqProgram_ok (n : Nat) (p0 : D.Program) (p1 : D.Program) {r : Bool} (h : laws_eqProgram n p0 p1 = some r) {w : World} {G0 : Nat → Prop} {va0 : Value} (ra0 : RV w G0 va0 p0) {G1 : Nat → Prop} {va1 : Value} (ra1 : RV w G1 va1 p1) :
    Calls Try.prog 15 [va0, va1].toArray w fun e w' => ∃ v, e = .returned v ∧ v = .bool r ∧ Chg Non w w' := by
  unfold laws_eqProgram at h
  have hs := Sep.nil w Non
  have hM0 : Mem w Non (fun k => (G0 k ∨ G1 k) ∧ k < w.heap.size) w Non (fun k => (G0 k ∨ G1 k) ∧ k < w.heap.size) := Mem.start (fun _ h => h.elim) (fun _ h => h.2) (fun _ h => h.elim)
  have ra0 := ra0.sub (F' := (fun k => (G0 k ∨ G1 k) ∧ k < w.heap.size)) (fun k hk h => ⟨.inl h, hk⟩)
  obtain ⟨v1, rfl, r1⟩ := RV.Program ra0
  obtain ⟨a1, c1, rfl, -⟩ := r1.slice
  have ra1 := ra1.sub (F' := (fun k => (G0 k ∨ G1 k) ∧ k < w.heap.size)) (fun k hk h => ⟨.inr (h), hk⟩)
  obtain ⟨v2, rfl, r2⟩ := RV.Program ra1
  obtain ⟨a2, c2, rfl, -⟩ := r2.slice
  refine enter (N := 26) Try.func15 rfl Try.ntmps15 rfl fun fr hF => ?_
  refine wp_seq (wp_text' ?_)
  refine q_box hs hM0 [.int .i64 p0.W, .int .i64 p0.Mem, .int .i64 p0.In, .slice a1 (List.length p0.Code) c1] rfl rfl hF rfl rfl fun b1 w1 S1 fr hs hp hF => ?_
  have r1 := r1.stp hM0 hp
  have r2 := r2.stp hM0 hp
  have hM0 := hM0.stp hp
  have hs : Sep [BX b1 32 [.int .i64 p0.W, .int .i64 p0.Mem, .int .i64 p0.In, .slice a1 (List.length p0.Code) c1]] w1 S1 := hs
  refine q_box hs hM0 [.int .i64 p1.W, .int .i64 p1.Mem, .int .i64 p1.In, .slice a2 (List.length p1.Code) c2] rfl rfl hF rfl rfl fun b2 w2 S2 fr hs hp hF => ?_
  have r2 := r2.stp hM0 hp
  have r1 := r1.stp hM0 hp
  have hM0 := hM0.stp hp
  have hs : Sep [BX b2 32 [.int .i64 p1.W, .int .i64 p1.Mem, .int .i64 p1.In, .slice a2 (List.length p1.Code) c2], BX b1 32 [.int .i64 p0.W, .int .i64 p0.Mem, .int .i64 p0.In, .slice a1 (List.length p0.Code) c1]] w2 S2 := hs
  refine from_pure 1 [(2, .pointer (some ⟨b1, 0, none⟩)), (3, .pointer (some ⟨b2, 0, none⟩))] hF (by kernel_rfl) fun fr hF => ?_
  refine from_end rfl (then_normal ?_)
  refine wp_seq ?_
  refine wp_seq (wp_text' ?_)
  refine from_pure 1 [(2, .pointer (some ⟨b1, 0, none⟩)), (3, .pointer (some ⟨b2, 0, none⟩)), (5, .pointer (some ⟨b1, 0, none⟩))] hF (by kernel_rfl) fun fr hF => ?_
  refine s_loadBox (.int .i64 p0.W) ty3 rfl rfl hF rfl (hs.bx 1 rfl) rfl rfl fun fr hF => ?_
  refine from_pure 1 [(2, .pointer (some ⟨b1, 0, none⟩)), (3, .pointer (some ⟨b2, 0, none⟩)), (6, .int .i64 p0.W), (7, .pointer (some ⟨b2, 0, none⟩))] hF (by kernel_rfl) fun fr hF => ?_
  refine s_loadBox (.int .i64 p1.W) ty3 rfl rfl hF rfl (hs.bx 0 rfl) rfl rfl fun fr hF => ?_
  refine from_pure 1 [(2, .pointer (some ⟨b1, 0, none⟩)), (3, .pointer (some ⟨b2, 0, none⟩)), (9, .bool (p0.W != p1.W))] hF (by kernel_rfl) fun fr hF => ?_
  refine from_end rfl (then_normal ?_)
  refine (wp_if hF (b := (p0.W != p1.W)) rfl (fun hb => ?_) (fun hb => ?_))
  · replace h := iteT hb h
    have hs : Sep [] w2 S2 := Sep.pick [] hs (by decide) rfl
    refine wp_seq (wp_pure [(4, .bool false)] hF (by kernel_rfl) fun fr hF => then_normal ?_)
    obtain rfl := Option.some.inj h
    exact wp_ret (then_ret (ret1 rfl hF rfl ⟨_, rfl, rfl, hM0.chg⟩))
  replace h := iteF hb h
  refine (wp_skip (then_normal ?_))
  refine wp_seq ?_
  refine wp_seq (wp_text' ?_)
  refine from_pure 1 [(2, .pointer (some ⟨b1, 0, none⟩)), (3, .pointer (some ⟨b2, 0, none⟩)), (10, .pointer (some ⟨b1, 1, none⟩))] hF (by kernel_rfl) fun fr hF => ?_
  refine s_loadBox (.int .i64 p0.Mem) ty3 rfl rfl hF rfl (hs.bx 1 rfl) rfl rfl fun fr hF => ?_
  refine from_pure 1 [(2, .pointer (some ⟨b1, 0, none⟩)), (3, .pointer (some ⟨b2, 0, none⟩)), (11, .int .i64 p0.Mem), (12, .pointer (some ⟨b2, 1, none⟩))] hF (by kernel_rfl) fun fr hF => ?_
  refine s_loadBox (.int .i64 p1.Mem) ty3 rfl rfl hF rfl (hs.bx 0 rfl) rfl rfl fun fr hF => ?_
  refine from_pure 1 [(2, .pointer (some ⟨b1, 0, none⟩)), (3, .pointer (some ⟨b2, 0, none⟩)), (14, .bool (p0.Mem != p1.Mem))] hF (by kernel_rfl) fun fr hF => ?_
  refine from_end rfl (then_normal ?_)
  refine (wp_if hF (b := (p0.Mem != p1.Mem)) rfl (fun hb => ?_) (fun hb => ?_))
  · replace h := iteT hb h
    have hs : Sep [] w2 S2 := Sep.pick [] hs (by decide) rfl
    refine wp_seq (wp_pure [(4, .bool false)] hF (by kernel_rfl) fun fr hF => then_normal ?_)
    obtain rfl := Option.some.inj h
    exact wp_ret (then_ret (ret1 rfl hF rfl ⟨_, rfl, rfl, hM0.chg⟩))
  replace h := iteF hb h
  refine (wp_skip (then_normal ?_))
  refine wp_seq ?_
  refine wp_seq (wp_text' ?_)
  refine from_pure 1 [(2, .pointer (some ⟨b1, 0, none⟩)), (3, .pointer (some ⟨b2, 0, none⟩)), (15, .pointer (some ⟨b1, 2, none⟩))] hF (by kernel_rfl) fun fr hF => ?_
  refine s_loadBox (.int .i64 p0.In) ty3 rfl rfl hF rfl (hs.bx 1 rfl) rfl rfl fun fr hF => ?_
  refine from_pure 1 [(2, .pointer (some ⟨b1, 0, none⟩)), (3, .pointer (some ⟨b2, 0, none⟩)), (16, .int .i64 p0.In), (17, .pointer (some ⟨b2, 2, none⟩))] hF (by kernel_rfl) fun fr hF => ?_
  refine s_loadBox (.int .i64 p1.In) ty3 rfl rfl hF rfl (hs.bx 0 rfl) rfl rfl fun fr hF => ?_
  refine from_pure 1 [(2, .pointer (some ⟨b1, 0, none⟩)), (3, .pointer (some ⟨b2, 0, none⟩)), (19, .bool (p0.In != p1.In))] hF (by kernel_rfl) fun fr hF => ?_
  refine from_end rfl (then_normal ?_)
  refine (wp_if hF (b := (p0.In != p1.In)) rfl (fun hb => ?_) (fun hb => ?_))
  · replace h := iteT hb h
    have hs : Sep [] w2 S2 := Sep.pick [] hs (by decide) rfl
    refine wp_seq (wp_pure [(4, .bool false)] hF (by kernel_rfl) fun fr hF => then_normal ?_)
    obtain rfl := Option.some.inj h
    exact wp_ret (then_ret (ret1 rfl hF rfl ⟨_, rfl, rfl, hM0.chg⟩))
  replace h := iteF hb h
  refine (wp_skip (then_normal ?_))
  refine wp_seq ?_
  refine wp_seq (wp_text' ?_)
  refine from_pure 1 [(3, .pointer (some ⟨b2, 0, none⟩)), (20, .pointer (some ⟨b1, 3, none⟩))] hF (by kernel_rfl) fun fr hF => ?_
  refine s_loadBox (.slice a1 (List.length p0.Code) c1) ty30 rfl rfl hF rfl (hs.bx 1 rfl) rfl rfl fun fr hF => ?_
  have hs : Sep [BX b2 32 [.int .i64 p1.W, .int .i64 p1.Mem, .int .i64 p1.In, .slice a2 (List.length p1.Code) c2]] w2 S2 := Sep.pick [0] hs (by decide) rfl
  refine from_pure 1 [(21, .slice a1 (List.length p0.Code) c1), (22, .pointer (some ⟨b2, 3, none⟩))] hF (by kernel_rfl) fun fr hF => ?_
  refine s_loadBox (.slice a2 (List.length p1.Code) c2) ty30 rfl rfl hF rfl (hs.bx 0 rfl) rfl rfl fun fr hF => ?_
  have hs : Sep [] w2 S2 := Sep.pick [] hs (by decide) rfl
  obtain ⟨x1, hx1, h⟩ := bindE h
  refine s_call [.slice a1 (List.length p0.Code) c1, .slice a2 (List.length p1.Code) c2] Try.call41 rfl rfl hF rfl (laws_eqInsS_ok n p0.Code p1.Code hx1 (r1) (r2)) fun v w3 fr hRes hF => ?_
  obtain ⟨rfl, hc⟩ := hRes
  have r1 := r1.ext hc
  have r2 := r2.ext hc
  have hs := hs.ext hc
  have hM0 := hM0.ext hc
  refine from_pure 1 [(25, .bool (!x1))] hF (by kernel_rfl) fun fr hF => ?_
  refine from_end rfl (then_normal ?_)
  refine (wp_if hF (b := (!x1)) rfl (fun hb => ?_) (fun hb => ?_))
  · replace h := iteT hb h
    refine wp_seq (wp_pure [(4, .bool false)] hF (by kernel_rfl) fun fr hF => then_normal ?_)
    obtain rfl := Option.some.inj h
    exact wp_ret (then_ret (ret1 rfl hF rfl ⟨_, rfl, rfl, hM0.chg⟩))
  replace h := iteF hb h
  refine (wp_skip (then_normal ?_))
  refine wp_seq (wp_pure [(4, .bool true)] hF (by kernel_rfl) fun fr hF => then_normal ?_)
  obtain rfl := Option.some.inj h
  exact wp_ret (ret1 rfl hF rfl ⟨_, rfl, rfl, hM0.chg⟩)

theorem laws_markInsS_ok (n : Nat) (p0 : List D.Ins) (p1 : Int) {r : Int × (List D.Ins)} (h : laws_markInsS n p0 p1 = some r) {w : World} {S0 F0 : Nat → Prop} {pa0 : Option Addr} {pn0 pc0 : Nat} (hs : Sep [SL (α := D.Ins) 66 (.slice pa0 pn0 pc0) p0] w S0) (hb : ∀ k, S0 k → k < w.heap.size) (hd : ∀ k, S0 k → F0 k → False) :
    Calls Try.prog 42 [.slice pa0 pn0 pc0, .int .i64 p1].toArray w fun e w' => ∃ v, e = .returned v ∧ v = .int .i64 r.1 ∧ ∃ S', Stp w S0 w' S' ∧ Sep [SL (α := D.Ins) 66 (.slice pa0 pn0 pc0) r.2] w' S' := by
  unfold laws_markInsS at h
  obtain ⟨hpn, hs⟩ := hs.relen 0 rfl
  subst hpn
  have hs : Sep [SL (α := D.Ins) 66 (.slice pa0 (List.length p0) pc0) p0] w S0 := hs
  have hM0 : Mem w S0 (fun k => F0 k ∧ k < w.heap.size) w S0 (fun k => F0 k ∧ k < w.heap.size) := Mem.start hb (fun _ h => h.2) (fun k h1 h2 => hd k h1 h2.1)
  refine enter (N := 41) Try.func42 rfl Try.ntmps42 rfl fun fr hF => ?_
  refine wp_seq (wp_pure [(0, .slice pa0 (List.length p0) pc0), (1, .int .i64 p1)] hF (by kernel_rfl) fun fr hF => then_normal ?_)
  refine wp_seq ?_
  refine wp_seq (wp_pure [(0, .slice pa0 (List.length p0) pc0), (1, .int .i64 p1), (5, .int .i64 0)] hF (by kernel_rfl) fun fr hF => then_normal ?_)
  obtain ⟨rl1, hit1, h⟩ := bindE h
  have hk1 := h
  refine (wp_cut (M := fun fr w' => ∃ S2 F2, FrS 41 [(1, .int .i64 rl1.1)] fr ∧ Mem w S0 (fun k => F0 k ∧ k < w.heap.size) w' S2 F2 ∧ Sep [SL (α := D.Ins) 66 (.slice pa0 (List.length p0) pc0) rl1.2] w' S2) (wp_block (wp_iter (Inv := fun s1 fr w' => ∃ S1 F1, FrS 41 [(0, .slice pa0 (List.length p0) pc0), (1, .int .i64 s1.1), (5, .int .i64 s1.2.1)] fr ∧ Mem w S0 (fun k => F0 k ∧ k < w.heap.size) w' S1 F1 ∧ Sep [SL (α := D.Ins) 66 (.slice pa0 (List.length p0) pc0) s1.2.2] w' S1) hit1 ⟨S0, _, hF.sub _ (by kernel_rfl), (Mem.start hM0.bd hM0.bdF hM0.dj), hs⟩ fun s1 q1 fr w1i hI h hr1 => ?_)) fun fr w1o hM => ?_)
  · obtain ⟨S1, F1, hF, hM1, hs⟩ := hI
    refine wp_seq ?_
    refine wp_seq (wp_pure [(0, .slice pa0 (List.length p0) pc0), (1, .int .i64 s1.1), (5, .int .i64 s1.2.1), (9, .bool (decide (s1.2.1 < (len p0))))] hF (by kernel_rfl) fun fr hF => then_normal ?_)
    refine (wp_if hF (b := (decide (s1.2.1 < (len p0)))) rfl (fun hb => ?_) (fun hb => ?_))
    · replace h := iteT hb h
      refine (wp_skip (then_normal ?_))
      refine wp_seq (wp_block ?_)
      refine wp_seq (wp_text' ?_)
      refine from_pure 3 [(0, .slice pa0 (List.length p0) pc0), (1, .int .i64 s1.1), (5, .int .i64 s1.2.1), (12, .slice pa0 (List.length p0) pc0), (13, .int .i64 s1.2.1), (14, .int .i64 s1.1)] hF (by kernel_rfl) fun fr hF => ?_
      obtain ⟨x1, hx1, h⟩ := bindE h
      obtain ⟨x2, hx2, h⟩ := bindE h
      refine q_setField (q := x1) (q' := ({ x1 with Op := s1.1 } : D.Ins)) (off := 0) 0 hs hM1 rfl Try.underlying30 ty66 rfl rfl rfl rfl rfl hF rfl rfl rfl rfl (by kernel_rfl) rfl (by kernel_rfl) rfl hx1 rfl hx2 fun w1 S3 fr _ _ hs hp hF => ?_
      have hM1 := hM1.stp hp
      have hs : Sep [SL (α := D.Ins) 66 (.slice pa0 (List.length p0) pc0) x2] w1 S3 := hs
      refine from_end rfl (then_normal ?_)
      refine wp_seq (wp_pure [(0, .slice pa0 (List.length p0) pc0), (1, .int .i64 (w64 (s1.1 + 1))), (5, .int .i64 s1.2.1)] hF (by kernel_rfl) fun fr hF => then_normal ?_)
      refine wp_seq (wp_text' ?_)
      refine from_pure 3 [(0, .slice pa0 (List.length p0) pc0), (1, .int .i64 (w64 (s1.1 + 1))), (5, .int .i64 s1.2.1), (19, .slice pa0 (List.length p0) pc0), (20, .int .i64 s1.2.1), (21, .int .i64 (w64 (s1.1 + 1)))] hF (by kernel_rfl) fun fr hF => ?_
      obtain ⟨x3, hx3, h⟩ := bindE h
      obtain ⟨x4, hx4, h⟩ := bindE h
      refine q_setField (q := x3) (q' := ({ x3 with A := (w64 (s1.1 + 1)) } : D.Ins)) (off := 1) 0 hs hM1 rfl Try.underlying30 ty66 rfl rfl rfl rfl rfl hF rfl rfl rfl rfl (by kernel_rfl) rfl (by kernel_rfl) rfl hx3 rfl hx4 fun w2 S4 fr _ _ hs hp hF => ?_
      have hM1 := hM1.stp hp
      have hs : Sep [SL (α := D.Ins) 66 (.slice pa0 (List.length p0) pc0) x4] w2 S4 := hs
      refine from_end rfl (then_normal ?_)
      refine wp_seq (wp_pure [(0, .slice pa0 (List.length p0) pc0), (1, .int .i64 (w64 ((w64 (s1.1 + 1)) + 1))), (5, .int .i64 s1.2.1)] hF (by kernel_rfl) fun fr hF => then_normal ?_)
      refine wp_seq (wp_text' ?_)
      refine from_pure 3 [(0, .slice pa0 (List.length p0) pc0), (1, .int .i64 (w64 ((w64 (s1.1 + 1)) + 1))), (5, .int .i64 s1.2.1), (26, .slice pa0 (List.length p0) pc0), (27, .int .i64 s1.2.1), (28, .int .i64 (w64 ((w64 (s1.1 + 1)) + 1)))] hF (by kernel_rfl) fun fr hF => ?_
      obtain ⟨x5, hx5, h⟩ := bindE h
      obtain ⟨x6, hx6, h⟩ := bindE h
      refine q_setField (q := x5) (q' := ({ x5 with B := (w64 ((w64 (s1.1 + 1)) + 1)) } : D.Ins)) (off := 2) 0 hs hM1 rfl Try.underlying30 ty66 rfl rfl rfl rfl rfl hF rfl rfl rfl rfl (by kernel_rfl) rfl (by kernel_rfl) rfl hx5 rfl hx6 fun w3 S5 fr _ _ hs hp hF => ?_
      have hM1 := hM1.stp hp
      have hs : Sep [SL (α := D.Ins) 66 (.slice pa0 (List.length p0) pc0) x6] w3 S5 := hs
      refine from_end rfl (then_normal ?_)
      refine wp_seq (wp_pure [(0, .slice pa0 (List.length p0) pc0), (1, .int .i64 (w64 ((w64 ((w64 (s1.1 + 1)) + 1)) + 1))), (5, .int .i64 s1.2.1)] hF (by kernel_rfl) fun fr hF => then_normal ?_)
      refine wp_seq (wp_text' ?_)
      refine from_pure 3 [(0, .slice pa0 (List.length p0) pc0), (1, .int .i64 (w64 ((w64 ((w64 (s1.1 + 1)) + 1)) + 1))), (5, .int .i64 s1.2.1), (33, .slice pa0 (List.length p0) pc0), (34, .int .i64 s1.2.1), (35, .int .i64 (w64 ((w64 ((w64 (s1.1 + 1)) + 1)) + 1)))] hF (by kernel_rfl) fun fr hF => ?_
      obtain ⟨x7, hx7, h⟩ := bindE h
      obtain ⟨x8, hx8, h⟩ := bindE h
      refine q_setField (q := x7) (q' := ({ x7 with C := (w64 ((w64 ((w64 (s1.1 + 1)) + 1)) + 1)) } : D.Ins)) (off := 3) 0 hs hM1 rfl Try.underlying30 ty66 rfl rfl rfl rfl rfl hF rfl rfl rfl rfl (by kernel_rfl) rfl (by kernel_rfl) rfl hx7 rfl hx8 fun w4 S6 fr _ _ hs hp hF => ?_
      have hM1 := hM1.stp hp
      have hs : Sep [SL (α := D.Ins) 66 (.slice pa0 (List.length p0) pc0) x8] w4 S6 := hs
      refine from_end rfl (then_normal ?_)
      refine (wp_pure [(0, .slice pa0 (List.length p0) pc0), (1, .int .i64 (w64 ((w64 ((w64 ((w64 (s1.1 + 1)) + 1)) + 1)) + 1))), (5, .int .i64 s1.2.1)] hF (by kernel_rfl) fun fr hF => ?_)
      refine blk_normal (then_normal ?_)
      refine (wp_pure [(0, .slice pa0 (List.length p0) pc0), (1, .int .i64 (w64 ((w64 ((w64 ((w64 (s1.1 + 1)) + 1)) + 1)) + 1))), (5, .int .i64 (w64 (s1.2.1 + 1)))] hF (by kernel_rfl) fun fr hF => then_normal ?_)
      exact ⟨_, (Option.some.inj h).symm, S6, _, hF.sub _ (by kernel_rfl), hM1, hs⟩
    replace h := iteF hb h
    refine (wp_exit (then_exit (then_exit (blk_exit_eq ?_))))
    obtain rfl := hr1 _ (Option.some.inj h).symm
    exact then_normal ⟨S1, _, hF.sub _ (by kernel_rfl), hM1, hs⟩
  · obtain ⟨S2, F2, hF, hMx, hs⟩ := hM
    have hM0 := hM0.trans hMx
    refine wp_seq (wp_pure [(4, .int .i64 rl1.1)] hF (by kernel_rfl) fun fr hF => then_normal ?_)
    obtain rfl := Option.some.inj h
    exact wp_ret (ret1 rfl hF rfl ⟨_, rfl, rfl, S2, hM0.out, hs⟩)

theorem laws_markProgram_ok (n : Nat) (p0 : D.Program) (p1 : Int) {r : Int × D.Program} (h : laws_markProgram n p0 p1 = some r) {w : World} {S0 F0 : Nat → Prop} {pa0 : Option Addr} {pn0 pc0 : Nat} (hs : Sep [SL (α := D.Ins) 66 (.slice pa0 pn0 pc0) p0.Code] w S0) (hb : ∀ k, S0 k → k < w.heap.size) (hd : ∀ k, S0 k → F0 k → False) :
    Calls Try.prog 16 [.agg #[.int .i64 p0.W, .int .i64 p0.Mem, .int .i64 p0.In, .slice pa0 pn0 pc0], .int .i64 p1].toArray w fun e w' => ∃ v, e = .returned v ∧ v = .int .i64 r.1 ∧ ∃ S', Stp w S0 w' S' ∧ Sep [SL (α := D.Ins) 66 (.slice pa0 pn0 pc0) r.2.Code] w' S' := by
  unfold laws_markProgram at h
  obtain ⟨hpn, hs⟩ := hs.relen 0 rfl
  subst hpn
  have hs : Sep [SL (α := D.Ins) 66 (.slice pa0 (List.length p0.Code) pc0) p0.Code] w S0 := hs
  have hM0 : Mem w S0 (fun k => F0 k ∧ k < w.heap.size) w S0 (fun k => F0 k ∧ k < w.heap.size) := Mem.start hb (fun _ h => h.2) (fun k h1 h2 => hd k h1 h2.1)
  refine enter (N := 10) Try.func16 rfl Try.ntmps16 rfl fun fr hF => ?_
  refine wp_seq (wp_text' ?_)
  refine q_box hs hM0 [.int .i64 p0.W, .int .i64 p0.Mem, .int .i64 p0.In, .slice pa0 (List.length p0.Code) pc0] rfl rfl hF rfl rfl fun b1 w1 S1 fr hs hp hF => ?_
  have hM0 := hM0.stp hp
  have hs : Sep [BX b1 32 [.int .i64 p0.W, .int .i64 p0.Mem, .int .i64 p0.In, .slice pa0 (List.length p0.Code) pc0], SL (α := D.Ins) 66 (.slice pa0 (List.length p0.Code) pc0) p0.Code] w1 S1 := hs
  refine from_pure 1 [(1, .int .i64 p1), (2, .pointer (some ⟨b1, 0, none⟩))] hF (by kernel_rfl) fun fr hF => ?_
  refine from_end rfl (then_normal ?_)
  refine wp_seq (wp_text' ?_)
  refine from_pure 1 [(1, .int .i64 p1), (5, .pointer (some ⟨b1, 3, none⟩))] hF (by kernel_rfl) fun fr hF => ?_
  refine s_loadBox (.slice pa0 (List.length p0.Code) pc0) ty30 rfl rfl hF rfl (hs.bx 0 rfl) rfl rfl fun fr hF => ?_
  have hs : Sep [SL (α := D.Ins) 66 (.slice pa0 (List.length p0.Code) pc0) p0.Code] w1 S1 := Sep.pick [1] hs (by decide) rfl
  refine from_pure 1 [(6, .slice pa0 (List.length p0.Code) pc0), (7, .int .i64 p1)] hF (by kernel_rfl) fun fr hF => ?_
  obtain ⟨x1, hx1, h⟩ := bindE h
  obtain ⟨A1, R1, hsA, hsR, hdA, hbA, hup⟩ := Sep.call (L1 := [SL (α := D.Ins) 66 (.slice pa0 (List.length p0.Code) pc0) p0.Code]) (L2 := []) hs hM0
  refine s_call [.slice pa0 (List.length p0.Code) pc0, .int .i64 p1] Try.call42 rfl rfl hF rfl (laws_markInsS_ok n p0.Code p1 hx1 hsA hbA hdA) fun v w2 fr hRes hF => ?_
  obtain ⟨rfl, _, hp, hs⟩ := hRes
  obtain ⟨S2, hp, hs⟩ := hup hp hs
  have hM0 := hM0.stp hp
  have hs : Sep [SL (α := D.Ins) 66 (.slice pa0 (List.length p0.Code) pc0) x1.2] w2 S2 := hs
  refine from_pure 1 [(1, .int .i64 x1.1)] hF (by kernel_rfl) fun fr hF => ?_
  refine from_end rfl (then_normal ?_)
  refine wp_seq (wp_pure [(4, .int .i64 x1.1)] hF (by kernel_rfl) fun fr hF => then_normal ?_)
  obtain rfl := Option.some.inj h
  exact wp_ret (ret1 rfl hF rfl ⟨_, rfl, rfl, S2, hM0.out, hs⟩)

theorem laws_markIntS_ok (n : Nat) (p0 : List Int) (p1 : Int) {r : Int × (List Int)} (h : laws_markIntS n p0 p1 = some r) {w : World} {S0 F0 : Nat → Prop} {pa0 : Option Addr} {pn0 pc0 : Nat} (hs : Sep [SL (α := Int) 3 (.slice pa0 pn0 pc0) p0] w S0) (hb : ∀ k, S0 k → k < w.heap.size) (hd : ∀ k, S0 k → F0 k → False) :
    Calls Try.prog 25 [.slice pa0 pn0 pc0, .int .i64 p1].toArray w fun e w' => ∃ v, e = .returned v ∧ v = .int .i64 r.1 ∧ ∃ S', Stp w S0 w' S' ∧ Sep [SL (α := Int) 3 (.slice pa0 pn0 pc0) r.2] w' S' := by
  unfold laws_markIntS at h
  obtain ⟨hpn, hs⟩ := hs.relen 0 rfl
  subst hpn
  have hs : Sep [SL (α := Int) 3 (.slice pa0 (List.length p0) pc0) p0] w S0 := hs
  have hM0 : Mem w S0 (fun k => F0 k ∧ k < w.heap.size) w S0 (fun k => F0 k ∧ k < w.heap.size) := Mem.start hb (fun _ h => h.2) (fun k h1 h2 => hd k h1 h2.1)
  refine enter (N := 19) Try.func25 rfl Try.ntmps25 rfl fun fr hF => ?_
  refine wp_seq (wp_pure [(0, .slice pa0 (List.length p0) pc0), (1, .int .i64 p1)] hF (by kernel_rfl) fun fr hF => then_normal ?_)
  refine wp_seq ?_
  refine wp_seq (wp_pure [(0, .slice pa0 (List.length p0) pc0), (1, .int .i64 p1), (5, .int .i64 0)] hF (by kernel_rfl) fun fr hF => then_normal ?_)
  obtain ⟨rl1, hit1, h⟩ := bindE h
  have hk1 := h
  refine (wp_cut (M := fun fr w' => ∃ S2 F2, FrS 19 [(1, .int .i64 rl1.1)] fr ∧ Mem w S0 (fun k => F0 k ∧ k < w.heap.size) w' S2 F2 ∧ Sep [SL (α := Int) 3 (.slice pa0 (List.length p0) pc0) rl1.2] w' S2) (wp_block (wp_iter (Inv := fun s1 fr w' => ∃ S1 F1, FrS 19 [(0, .slice pa0 (List.length p0) pc0), (1, .int .i64 s1.1), (5, .int .i64 s1.2.1)] fr ∧ Mem w S0 (fun k => F0 k ∧ k < w.heap.size) w' S1 F1 ∧ Sep [SL (α := Int) 3 (.slice pa0 (List.length p0) pc0) s1.2.2] w' S1) hit1 ⟨S0, _, hF.sub _ (by kernel_rfl), (Mem.start hM0.bd hM0.bdF hM0.dj), hs⟩ fun s1 q1 fr w1i hI h hr1 => ?_)) fun fr w1o hM => ?_)
  · obtain ⟨S1, F1, hF, hM1, hs⟩ := hI
    refine wp_seq ?_
    refine wp_seq (wp_pure [(0, .slice pa0 (List.length p0) pc0), (1, .int .i64 s1.1), (5, .int .i64 s1.2.1), (9, .bool (decide (s1.2.1 < (len p0))))] hF (by kernel_rfl) fun fr hF => then_normal ?_)
    refine (wp_if hF (b := (decide (s1.2.1 < (len p0)))) rfl (fun hb => ?_) (fun hb => ?_))
    · replace h := iteT hb h
      refine (wp_skip (then_normal ?_))
      refine wp_seq (wp_block ?_)
      refine wp_seq (wp_text' ?_)
      refine from_pure 3 [(0, .slice pa0 (List.length p0) pc0), (1, .int .i64 s1.1), (5, .int .i64 s1.2.1), (12, .slice pa0 (List.length p0) pc0), (13, .int .i64 s1.2.1), (14, .int .i64 s1.1)] hF (by kernel_rfl) fun fr hF => ?_
      obtain ⟨x1, hx1, h⟩ := bindE h
      refine q_set (q := s1.1) 0 hs hM1 rfl Try.underlying26 ty3 rfl rfl rfl rfl hF rfl rfl (by simp) rfl rfl hx1 fun w1 S3 fr _ hs hp hF => ?_
      have hM1 := hM1.stp hp
      have hs : Sep [SL (α := Int) 3 (.slice pa0 (List.length p0) pc0) x1] w1 S3 := hs
      refine from_end rfl (then_normal ?_)
      refine (wp_pure [(0, .slice pa0 (List.length p0) pc0), (1, .int .i64 (w64 (s1.1 + 1))), (5, .int .i64 s1.2.1)] hF (by kernel_rfl) fun fr hF => ?_)
      refine blk_normal (then_normal ?_)
      refine (wp_pure [(0, .slice pa0 (List.length p0) pc0), (1, .int .i64 (w64 (s1.1 + 1))), (5, .int .i64 (w64 (s1.2.1 + 1)))] hF (by kernel_rfl) fun fr hF => then_normal ?_)
      exact ⟨_, (Option.some.inj h).symm, S3, _, hF.sub _ (by kernel_rfl), hM1, hs⟩
    replace h := iteF hb h
    refine (wp_exit (then_exit (then_exit (blk_exit_eq ?_))))
    obtain rfl := hr1 _ (Option.some.inj h).symm
    exact then_normal ⟨S1, _, hF.sub _ (by kernel_rfl), hM1, hs⟩
  · obtain ⟨S2, F2, hF, hMx, hs⟩ := hM
    have hM0 := hM0.trans hMx
    refine wp_seq (wp_pure [(4, .int .i64 rl1.1)] hF (by kernel_rfl) fun fr hF => then_normal ?_)
    obtain rfl := Option.some.inj h
    exact wp_ret (ret1 rfl hF rfl ⟨_, rfl, rfl, S2, hM0.out, hs⟩)

theorem laws_markState_ok (n : Nat) (p0 : D.State) (p1 : Int) {r : Int × D.State} (h : laws_markState n p0 p1 = some r) {w : World} {S0 F0 : Nat → Prop} {pa0 : Option Addr} {pn0 pc0 : Nat} {pa1 : Option Addr} {pn1 pc1 : Nat} {pa2 : Option Addr} {pn2 pc2 : Nat} {pa3 : Option Addr} {pn3 pc3 : Nat} (hs : Sep [SL (α := Int) 3 (.slice pa0 pn0 pc0) p0.Regs, SL (α := Int) 3 (.slice pa1 pn1 pc1) p0.Mem, SL (α := Int) 3 (.slice pa2 pn2 pc2) p0.Stack, SL (α := Int) 3 (.slice pa3 pn3 pc3) p0.Out] w S0) (hb : ∀ k, S0 k → k < w.heap.size) (hd : ∀ k, S0 k → F0 k → False) :
    Calls Try.prog 17 [.agg #[.int .i64 p0.Pc, .slice pa0 pn0 pc0, .slice pa1 pn1 pc1, .slice pa2 pn2 pc2, .int .i64 p0.In, .slice pa3 pn3 pc3, .int .i64 p0.Code, .int .i64 p0.Steps], .int .i64 p1].toArray w fun e w' => ∃ v, e = .returned v ∧ v = .int .i64 r.1 ∧ ∃ S', Stp w S0 w' S' ∧ Sep [SL (α := Int) 3 (.slice pa0 pn0 pc0) r.2.Regs, SL (α := Int) 3 (.slice pa1 pn1 pc1) r.2.Mem, SL (α := Int) 3 (.slice pa2 pn2 pc2) r.2.Stack, SL (α := Int) 3 (.slice pa3 pn3 pc3) r.2.Out] w' S' := by
  unfold laws_markState at h
  obtain ⟨hpn, hs⟩ := hs.relen 0 rfl
  subst hpn
  obtain ⟨hpn, hs⟩ := hs.relen 1 rfl
  subst hpn
  obtain ⟨hpn, hs⟩ := hs.relen 2 rfl
  subst hpn
  obtain ⟨hpn, hs⟩ := hs.relen 3 rfl
  subst hpn
  have hs : Sep [SL (α := Int) 3 (.slice pa0 (List.length p0.Regs) pc0) p0.Regs, SL (α := Int) 3 (.slice pa1 (List.length p0.Mem) pc1) p0.Mem, SL (α := Int) 3 (.slice pa2 (List.length p0.Stack) pc2) p0.Stack, SL (α := Int) 3 (.slice pa3 (List.length p0.Out) pc3) p0.Out] w S0 := hs
  have hM0 : Mem w S0 (fun k => F0 k ∧ k < w.heap.size) w S0 (fun k => F0 k ∧ k < w.heap.size) := Mem.start hb (fun _ h => h.2) (fun k h1 h2 => hd k h1 h2.1)
  refine enter (N := 22) Try.func17 rfl Try.ntmps17 rfl fun fr hF => ?_
  refine wp_seq (wp_text' ?_)
  refine q_box hs hM0 [.int .i64 p0.Pc, .slice pa0 (List.length p0.Regs) pc0, .slice pa1 (List.length p0.Mem) pc1, .slice pa2 (List.length p0.Stack) pc2, .int .i64 p0.In, .slice pa3 (List.length p0.Out) pc3, .int .i64 p0.Code, .int .i64 p0.Steps] rfl rfl hF rfl rfl fun b1 w1 S1 fr hs hp hF => ?_
  have hM0 := hM0.stp hp
  have hs : Sep [BX b1 28 [.int .i64 p0.Pc, .slice pa0 (List.length p0.Regs) pc0, .slice pa1 (List.length p0.Mem) pc1, .slice pa2 (List.length p0.Stack) pc2, .int .i64 p0.In, .slice pa3 (List.length p0.Out) pc3, .int .i64 p0.Code, .int .i64 p0.Steps], SL (α := Int) 3 (.slice pa0 (List.length p0.Regs) pc0) p0.Regs, SL (α := Int) 3 (.slice pa1 (List.length p0.Mem) pc1) p0.Mem, SL (α := Int) 3 (.slice pa2 (List.length p0.Stack) pc2) p0.Stack, SL (α := Int) 3 (.slice pa3 (List.length p0.Out) pc3) p0.Out] w1 S1 := hs
  refine from_pure 1 [(1, .int .i64 p1), (2, .pointer (some ⟨b1, 0, none⟩))] hF (by kernel_rfl) fun fr hF => ?_
  refine from_end rfl (then_normal ?_)
  refine wp_seq (wp_text' ?_)
  refine from_pure 1 [(1, .int .i64 p1), (2, .pointer (some ⟨b1, 0, none⟩)), (5, .pointer (some ⟨b1, 1, none⟩))] hF (by kernel_rfl) fun fr hF => ?_
  refine s_loadBox (.slice pa0 (List.length p0.Regs) pc0) ty26 rfl rfl hF rfl (hs.bx 0 rfl) rfl rfl fun fr hF => ?_
  refine from_pure 1 [(2, .pointer (some ⟨b1, 0, none⟩)), (6, .slice pa0 (List.length p0.Regs) pc0), (7, .int .i64 p1)] hF (by kernel_rfl) fun fr hF => ?_
  obtain ⟨x1, hx1, h⟩ := bindE h
  have hs : Sep [SL (α := Int) 3 (.slice pa0 (List.length p0.Regs) pc0) p0.Regs, BX b1 28 [.int .i64 p0.Pc, .slice pa0 (List.length p0.Regs) pc0, .slice pa1 (List.length p0.Mem) pc1, .slice pa2 (List.length p0.Stack) pc2, .int .i64 p0.In, .slice pa3 (List.length p0.Out) pc3, .int .i64 p0.Code, .int .i64 p0.Steps], SL (α := Int) 3 (.slice pa1 (List.length p0.Mem) pc1) p0.Mem, SL (α := Int) 3 (.slice pa2 (List.length p0.Stack) pc2) p0.Stack, SL (α := Int) 3 (.slice pa3 (List.length p0.Out) pc3) p0.Out] w1 S1 := Sep.pick [1, 0, 2, 3, 4] hs (by decide) rfl
  obtain ⟨A1, R1, hsA, hsR, hdA, hbA, hup⟩ := Sep.call (L1 := [SL (α := Int) 3 (.slice pa0 (List.length p0.Regs) pc0) p0.Regs]) (L2 := [BX b1 28 [.int .i64 p0.Pc, .slice pa0 (List.length p0.Regs) pc0, .slice pa1 (List.length p0.Mem) pc1, .slice pa2 (List.length p0.Stack) pc2, .int .i64 p0.In, .slice pa3 (List.length p0.Out) pc3, .int .i64 p0.Code, .int .i64 p0.Steps], SL (α := Int) 3 (.slice pa1 (List.length p0.Mem) pc1) p0.Mem, SL (α := Int) 3 (.slice pa2 (List.length p0.Stack) pc2) p0.Stack, SL (α := Int) 3 (.slice pa3 (List.length p0.Out) pc3) p0.Out]) hs hM0
  refine s_call [.slice pa0 (List.length p0.Regs) pc0, .int .i64 p1] Try.call25 rfl rfl hF rfl (laws_markIntS_ok n p0.Regs p1 hx1 hsA hbA hdA) fun v w2 fr hRes hF => ?_
  obtain ⟨rfl, _, hp, hs⟩ := hRes
  obtain ⟨S2, hp, hs⟩ := hup hp hs
  have hM0 := hM0.stp hp
  have hs : Sep [SL (α := Int) 3 (.slice pa0 (List.length p0.Regs) pc0) x1.2, BX b1 28 [.int .i64 p0.Pc, .slice pa0 (List.length p0.Regs) pc0, .slice pa1 (List.length p0.Mem) pc1, .slice pa2 (List.length p0.Stack) pc2, .int .i64 p0.In, .slice pa3 (List.length p0.Out) pc3, .int .i64 p0.Code, .int .i64 p0.Steps], SL (α := Int) 3 (.slice pa1 (List.length p0.Mem) pc1) p0.Mem, SL (α := Int) 3 (.slice pa2 (List.length p0.Stack) pc2) p0.Stack, SL (α := Int) 3 (.slice pa3 (List.length p0.Out) pc3) p0.Out] w2 S2 := hs
  refine from_pure 1 [(1, .int .i64 x1.1), (2, .pointer (some ⟨b1, 0, none⟩))] hF (by kernel_rfl) fun fr hF => ?_
  refine from_end rfl (then_normal ?_)
  refine wp_seq (wp_text' ?_)
  refine from_pure 1 [(1, .int .i64 x1.1), (2, .pointer (some ⟨b1, 0, none⟩)), (9, .pointer (some ⟨b1, 2, none⟩))] hF (by kernel_rfl) fun fr hF => ?_
  refine s_loadBox (.slice pa1 (List.length p0.Mem) pc1) ty26 rfl rfl hF rfl (hs.bx 1 rfl) rfl rfl fun fr hF => ?_
  refine from_pure 1 [(2, .pointer (some ⟨b1, 0, none⟩)), (10, .slice pa1 (List.length p0.Mem) pc1), (11, .int .i64 x1.1)] hF (by kernel_rfl) fun fr hF => ?_
  obtain ⟨x2, hx2, h⟩ := bindE h
  have hs : Sep [SL (α := Int) 3 (.slice pa1 (List.length p0.Mem) pc1) p0.Mem, SL (α := Int) 3 (.slice pa0 (List.length p0.Regs) pc0) x1.2, BX b1 28 [.int .i64 p0.Pc, .slice pa0 (List.length p0.Regs) pc0, .slice pa1 (List.length p0.Mem) pc1, .slice pa2 (List.length p0.Stack) pc2, .int .i64 p0.In, .slice pa3 (List.length p0.Out) pc3, .int .i64 p0.Code, .int .i64 p0.Steps], SL (α := Int) 3 (.slice pa2 (List.length p0.Stack) pc2) p0.Stack, SL (α := Int) 3 (.slice pa3 (List.length p0.Out) pc3) p0.Out] w2 S2 := Sep.pick [2, 0, 1, 3, 4] hs (by decide) rfl
  obtain ⟨A2, R2, hsA, hsR, hdA, hbA, hup⟩ := Sep.call (L1 := [SL (α := Int) 3 (.slice pa1 (List.length p0.Mem) pc1) p0.Mem]) (L2 := [SL (α := Int) 3 (.slice pa0 (List.length p0.Regs) pc0) x1.2, BX b1 28 [.int .i64 p0.Pc, .slice pa0 (List.length p0.Regs) pc0, .slice pa1 (List.length p0.Mem) pc1, .slice pa2 (List.length p0.Stack) pc2, .int .i64 p0.In, .slice pa3 (List.length p0.Out) pc3, .int .i64 p0.Code, .int .i64 p0.Steps], SL (α := Int) 3 (.slice pa2 (List.length p0.Stack) pc2) p0.Stack, SL (α := Int) 3 (.slice pa3 (List.length p0.Out) pc3) p0.Out]) hs hM0
  refine s_call [.slice pa1 (List.length p0.Mem) pc1, .int .i64 x1.1] Try.call25 rfl rfl hF rfl (laws_markIntS_ok n p0.Mem x1.1 hx2 hsA hbA hdA) fun v w3 fr hRes hF => ?_
  obtain ⟨rfl, _, hp, hs⟩ := hRes
  obtain ⟨S3, hp, hs⟩ := hup hp hs
  have hM0 := hM0.stp hp
  have hs : Sep [SL (α := Int) 3 (.slice pa1 (List.length p0.Mem) pc1) x2.2, SL (α := Int) 3 (.slice pa0 (List.length p0.Regs) pc0) x1.2, BX b1 28 [.int .i64 p0.Pc, .slice pa0 (List.length p0.Regs) pc0, .slice pa1 (List.length p0.Mem) pc1, .slice pa2 (List.length p0.Stack) pc2, .int .i64 p0.In, .slice pa3 (List.length p0.Out) pc3, .int .i64 p0.Code, .int .i64 p0.Steps], SL (α := Int) 3 (.slice pa2 (List.length p0.Stack) pc2) p0.Stack, SL (α := Int) 3 (.slice pa3 (List.length p0.Out) pc3) p0.Out] w3 S3 := hs
  refine from_pure 1 [(1, .int .i64 x2.1), (2, .pointer (some ⟨b1, 0, none⟩))] hF (by kernel_rfl) fun fr hF => ?_
  refine from_end rfl (then_normal ?_)
  refine wp_seq (wp_text' ?_)
  refine from_pure 1 [(1, .int .i64 x2.1), (2, .pointer (some ⟨b1, 0, none⟩)), (13, .pointer (some ⟨b1, 3, none⟩))] hF (by kernel_rfl) fun fr hF => ?_
  refine s_loadBox (.slice pa2 (List.length p0.Stack) pc2) ty26 rfl rfl hF rfl (hs.bx 2 rfl) rfl rfl fun fr hF => ?_
  refine from_pure 1 [(2, .pointer (some ⟨b1, 0, none⟩)), (14, .slice pa2 (List.length p0.Stack) pc2), (15, .int .i64 x2.1)] hF (by kernel_rfl) fun fr hF => ?_
  obtain ⟨x3, hx3, h⟩ := bindE h
  have hs : Sep [SL (α := Int) 3 (.slice pa2 (List.length p0.Stack) pc2) p0.Stack, SL (α := Int) 3 (.slice pa1 (List.length p0.Mem) pc1) x2.2, SL (α := Int) 3 (.slice pa0 (List.length p0.Regs) pc0) x1.2, BX b1 28 [.int .i64 p0.Pc, .slice pa0 (List.length p0.Regs) pc0, .slice pa1 (List.length p0.Mem) pc1, .slice pa2 (List.length p0.Stack) pc2, .int .i64 p0.In, .slice pa3 (List.length p0.Out) pc3, .int .i64 p0.Code, .int .i64 p0.Steps], SL (α := Int) 3 (.slice pa3 (List.length p0.Out) pc3) p0.Out] w3 S3 := Sep.pick [3, 0, 1, 2, 4] hs (by decide) rfl
  obtain ⟨A3, R3, hsA, hsR, hdA, hbA, hup⟩ := Sep.call (L1 := [SL (α := Int) 3 (.slice pa2 (List.length p0.Stack) pc2) p0.Stack]) (L2 := [SL (α := Int) 3 (.slice pa1 (List.length p0.Mem) pc1) x2.2, SL (α := Int) 3 (.slice pa0 (List.length p0.Regs) pc0) x1.2, BX b1 28 [.int .i64 p0.Pc, .slice pa0 (List.length p0.Regs) pc0, .slice pa1 (List.length p0.Mem) pc1, .slice pa2 (List.length p0.Stack) pc2, .int .i64 p0.In, .slice pa3 (List.length p0.Out) pc3, .int .i64 p0.Code, .int .i64 p0.Steps], SL (α := Int) 3 (.slice pa3 (List.length p0.Out) pc3) p0.Out]) hs hM0
  refine s_call [.slice pa2 (List.length p0.Stack) pc2, .int .i64 x2.1] Try.call25 rfl rfl hF rfl (laws_markIntS_ok n p0.Stack x2.1 hx3 hsA hbA hdA) fun v w4 fr hRes hF => ?_
  obtain ⟨rfl, _, hp, hs⟩ := hRes
  obtain ⟨S4, hp, hs⟩ := hup hp hs
  have hM0 := hM0.stp hp
  have hs : Sep [SL (α := Int) 3 (.slice pa2 (List.length p0.Stack) pc2) x3.2, SL (α := Int) 3 (.slice pa1 (List.length p0.Mem) pc1) x2.2, SL (α := Int) 3 (.slice pa0 (List.length p0.Regs) pc0) x1.2, BX b1 28 [.int .i64 p0.Pc, .slice pa0 (List.length p0.Regs) pc0, .slice pa1 (List.length p0.Mem) pc1, .slice pa2 (List.length p0.Stack) pc2, .int .i64 p0.In, .slice pa3 (List.length p0.Out) pc3, .int .i64 p0.Code, .int .i64 p0.Steps], SL (α := Int) 3 (.slice pa3 (List.length p0.Out) pc3) p0.Out] w4 S4 := hs
  refine from_pure 1 [(1, .int .i64 x3.1), (2, .pointer (some ⟨b1, 0, none⟩))] hF (by kernel_rfl) fun fr hF => ?_
  refine from_end rfl (then_normal ?_)
  refine wp_seq (wp_text' ?_)
  refine from_pure 1 [(1, .int .i64 x3.1), (17, .pointer (some ⟨b1, 5, none⟩))] hF (by kernel_rfl) fun fr hF => ?_
  refine s_loadBox (.slice pa3 (List.length p0.Out) pc3) ty26 rfl rfl hF rfl (hs.bx 3 rfl) rfl rfl fun fr hF => ?_
  have hs : Sep [SL (α := Int) 3 (.slice pa2 (List.length p0.Stack) pc2) x3.2, SL (α := Int) 3 (.slice pa1 (List.length p0.Mem) pc1) x2.2, SL (α := Int) 3 (.slice pa0 (List.length p0.Regs) pc0) x1.2, SL (α := Int) 3 (.slice pa3 (List.length p0.Out) pc3) p0.Out] w4 S4 := Sep.pick [0, 1, 2, 4] hs (by decide) rfl
  refine from_pure 1 [(18, .slice pa3 (List.length p0.Out) pc3), (19, .int .i64 x3.1)] hF (by kernel_rfl) fun fr hF => ?_
  obtain ⟨x4, hx4, h⟩ := bindE h
  have hs : Sep [SL (α := Int) 3 (.slice pa3 (List.length p0.Out) pc3) p0.Out, SL (α := Int) 3 (.slice pa2 (List.length p0.Stack) pc2) x3.2, SL (α := Int) 3 (.slice pa1 (List.length p0.Mem) pc1) x2.2, SL (α := Int) 3 (.slice pa0 (List.length p0.Regs) pc0) x1.2] w4 S4 := Sep.pick [3, 0, 1, 2] hs (by decide) rfl
  obtain ⟨A4, R4, hsA, hsR, hdA, hbA, hup⟩ := Sep.call (L1 := [SL (α := Int) 3 (.slice pa3 (List.length p0.Out) pc3) p0.Out]) (L2 := [SL (α := Int) 3 (.slice pa2 (List.length p0.Stack) pc2) x3.2, SL (α := Int) 3 (.slice pa1 (List.length p0.Mem) pc1) x2.2, SL (α := Int) 3 (.slice pa0 (List.length p0.Regs) pc0) x1.2]) hs hM0
  refine s_call [.slice pa3 (List.length p0.Out) pc3, .int .i64 x3.1] Try.call25 rfl rfl hF rfl (laws_markIntS_ok n p0.Out x3.1 hx4 hsA hbA hdA) fun v w5 fr hRes hF => ?_
  obtain ⟨rfl, _, hp, hs⟩ := hRes
  obtain ⟨S5, hp, hs⟩ := hup hp hs
  have hM0 := hM0.stp hp
  have hs : Sep [SL (α := Int) 3 (.slice pa3 (List.length p0.Out) pc3) x4.2, SL (α := Int) 3 (.slice pa2 (List.length p0.Stack) pc2) x3.2, SL (α := Int) 3 (.slice pa1 (List.length p0.Mem) pc1) x2.2, SL (α := Int) 3 (.slice pa0 (List.length p0.Regs) pc0) x1.2] w5 S5 := hs
  refine from_pure 1 [(1, .int .i64 x4.1)] hF (by kernel_rfl) fun fr hF => ?_
  refine from_end rfl (then_normal ?_)
  refine wp_seq (wp_pure [(4, .int .i64 x4.1)] hF (by kernel_rfl) fun fr hF => then_normal ?_)
  obtain rfl := Option.some.inj h
  have hs : Sep [SL (α := Int) 3 (.slice pa0 (List.length p0.Regs) pc0) x1.2, SL (α := Int) 3 (.slice pa1 (List.length p0.Mem) pc1) x2.2, SL (α := Int) 3 (.slice pa2 (List.length p0.Stack) pc2) x3.2, SL (α := Int) 3 (.slice pa3 (List.length p0.Out) pc3) x4.2] w5 S5 := Sep.pick [3, 2, 1, 0] hs (by decide) rfl
  exact wp_ret (ret1 rfl hF rfl ⟨_, rfl, rfl, S5, hM0.out, hs⟩)

theorem laws_heldIntS_ok (n : Nat) (p0 : List Int) (p1 : Int) {r : Int} (h : laws_heldIntS n p0 p1 = some r) {w : World} {G0 : Nat → Prop} {va0 : Value} (ra0 : RV w G0 va0 p0) :
    Calls Try.prog 30 [va0, .int .i64 p1].toArray w fun e w' => ∃ v, e = .returned v ∧ v = .int .i64 r ∧ Chg Non w w' := by
  unfold laws_heldIntS at h
  have hs := Sep.nil w Non
  have hM0 : Mem w Non (fun k => (G0 k) ∧ k < w.heap.size) w Non (fun k => (G0 k) ∧ k < w.heap.size) := Mem.start (fun _ h => h.elim) (fun _ h => h.2) (fun _ h => h.elim)
  have ra0 := ra0.sub (F' := (fun k => (G0 k) ∧ k < w.heap.size)) (fun k hk h => ⟨h, hk⟩)
  obtain ⟨a1, c1, rfl, -⟩ := ra0.slice
  refine enter (N := 21) Try.func30 rfl Try.ntmps30 rfl fun fr hF => ?_
  refine wp_seq (wp_pure [(0, .slice a1 (List.length p0) c1), (1, .int .i64 p1)] hF (by kernel_rfl) fun fr hF => then_normal ?_)
  refine wp_seq ?_
  refine wp_seq (wp_pure [(0, .slice a1 (List.length p0) c1), (1, .int .i64 p1), (5, .int .i64 0)] hF (by kernel_rfl) fun fr hF => then_normal ?_)
  obtain ⟨rl1, hit1, h⟩ := bindE h
  have hk1 := h
  refine (wp_cut (M := fun fr w' => ∃ s, rl1 = .inl s ∧ ∃ S2 F2, FrS 21 [(1, .int .i64 s)] fr ∧ Mem w Non (fun k => (G0 k) ∧ k < w.heap.size) w' S2 F2 ∧ Sep [] w' S2) (wp_block (wp_iter (Inv := fun s1 fr w' => ∃ S1 F1, FrS 21 [(0, .slice a1 (List.length p0) c1), (1, .int .i64 s1.1), (5, .int .i64 s1.2)] fr ∧ Mem w Non (fun k => (G0 k) ∧ k < w.heap.size) w' S1 F1 ∧ Sep [] w' S1) hit1 ⟨Non, _, hF.sub _ (by kernel_rfl), (Mem.start hM0.bd hM0.bdF hM0.dj), hs⟩ fun s1 q1 fr w1i hI h hr1 => ?_)) fun fr w1o hM => ?_)
  · obtain ⟨S1, F1, hF, hM1, hs⟩ := hI
    have ra0 := ra0.mem hM1
    refine wp_seq ?_
    refine wp_seq (wp_pure [(0, .slice a1 (List.length p0) c1), (1, .int .i64 s1.1), (5, .int .i64 s1.2), (9, .bool (decide (s1.2 < (len p0))))] hF (by kernel_rfl) fun fr hF => then_normal ?_)
    refine (wp_if hF (b := (decide (s1.2 < (len p0)))) rfl (fun hb => ?_) (fun hb => ?_))
    · replace h := iteT hb h
      refine (wp_skip (then_normal ?_))
      refine wp_seq (wp_block ?_)
      refine wp_seq ?_
      refine wp_seq (wp_text' ?_)
      refine from_pure 2 [(0, .slice a1 (List.length p0) c1), (1, .int .i64 s1.1), (5, .int .i64 s1.2), (12, .slice a1 (List.length p0) c1), (13, .int .i64 s1.2)] hF (by kernel_rfl) fun fr hF => ?_
      obtain ⟨x1, hx1, h⟩ := bindE h
      refine s_elemF (z := x1) (.int .i64 x1) ty3 Try.underlying26 rfl rfl rfl rfl rfl hF rfl (ra0) rfl (get?_nn hx1) (get?_at hx1) rfl fun p fr hF => ?_
      refine from_pure 2 [(0, .slice a1 (List.length p0) c1), (1, .int .i64 s1.1), (5, .int .i64 s1.2), (17, .bool (x1 != s1.1))] hF (by kernel_rfl) fun fr hF => ?_
      refine from_end rfl (then_normal ?_)
      refine (wp_if hF (b := (x1 != s1.1)) rfl (fun hb => ?_) (fun hb => ?_))
      · replace h := iteT hb h
        refine wp_seq (wp_pure [(4, .int .i64 (-1))] hF (by kernel_rfl) fun fr hF => then_normal ?_)
        obtain rfl := hr1 _ (Option.some.inj h).symm
        obtain rfl := Option.some.inj hk1
        exact wp_ret (then_ret (blk_ret (then_ret (then_ret (blk_ret (then_ret (ret1 rfl hF rfl ⟨_, rfl, rfl, (hM0.trans hM1).chg⟩)))))))
      replace h := iteF hb h
      refine (wp_skip (then_normal ?_))
      refine (wp_pure [(0, .slice a1 (List.length p0) c1), (1, .int .i64 (w64 (s1.1 + 1))), (5, .int .i64 s1.2)] hF (by kernel_rfl) fun fr hF => ?_)
      refine blk_normal (then_normal ?_)
      refine (wp_pure [(0, .slice a1 (List.length p0) c1), (1, .int .i64 (w64 (s1.1 + 1))), (5, .int .i64 (w64 (s1.2 + 1)))] hF (by kernel_rfl) fun fr hF => then_normal ?_)
      exact ⟨_, (Option.some.inj h).symm, S1, _, hF.sub _ (by kernel_rfl), hM1, hs⟩
    replace h := iteF hb h
    refine (wp_exit (then_exit (then_exit (blk_exit_eq ?_))))
    obtain rfl := hr1 _ (Option.some.inj h).symm
    exact then_normal ⟨_, rfl, S1, _, hF.sub _ (by kernel_rfl), hM1, hs⟩
  · obtain ⟨s1r, rfl, hM⟩ := hM
    obtain ⟨S2, F2, hF, hMx, hs⟩ := hM
    have hM0 := hM0.trans hMx
    refine wp_seq (wp_pure [(4, .int .i64 s1r)] hF (by kernel_rfl) fun fr hF => then_normal ?_)
    obtain rfl := Option.some.inj h
    exact wp_ret (ret1 rfl hF rfl ⟨_, rfl, rfl, hM0.chg⟩)

theorem laws_heldState_ok (n : Nat) (p0 : D.State) (p1 : Int) {r : Int} (h : laws_heldState n p0 p1 = some r) {w : World} {G0 : Nat → Prop} {va0 : Value} (ra0 : RV w G0 va0 p0) :
    Calls Try.prog 18 [va0, .int .i64 p1].toArray w fun e w' => ∃ v, e = .returned v ∧ v = .int .i64 r ∧ Chg Non w w' := by
  unfold laws_heldState at h
  have hs := Sep.nil w Non
  have hM0 : Mem w Non (fun k => (G0 k) ∧ k < w.heap.size) w Non (fun k => (G0 k) ∧ k < w.heap.size) := Mem.start (fun _ h => h.elim) (fun _ h => h.2) (fun _ h => h.elim)
  have ra0 := ra0.sub (F' := (fun k => (G0 k) ∧ k < w.heap.size)) (fun k hk h => ⟨h, hk⟩)
  obtain ⟨v1, v2, v3, v4, rfl, r1, r2, r3, r4⟩ := RV.State ra0
  obtain ⟨a1, c1, rfl, -⟩ := r1.slice
  obtain ⟨a2, c2, rfl, -⟩ := r2.slice
  obtain ⟨a3, c3, rfl, -⟩ := r3.slice
  obtain ⟨a4, c4, rfl, -⟩ := r4.slice
  refine enter (N := 30) Try.func18 rfl Try.ntmps18 rfl fun fr hF => ?_
  refine wp_seq (wp_text' ?_)
  refine q_box hs hM0 [.int .i64 p0.Pc, .slice a1 (List.length p0.Regs) c1, .slice a2 (List.length p0.Mem) c2, .slice a3 (List.length p0.Stack) c3, .int .i64 p0.In, .slice a4 (List.length p0.Out) c4, .int .i64 p0.Code, .int .i64 p0.Steps] rfl rfl hF rfl rfl fun b1 w1 S1 fr hs hp hF => ?_
  have r1 := r1.stp hM0 hp
  have r2 := r2.stp hM0 hp
  have r3 := r3.stp hM0 hp
  have r4 := r4.stp hM0 hp
  have hM0 := hM0.stp hp
  have hs : Sep [BX b1 28 [.int .i64 p0.Pc, .slice a1 (List.length p0.Regs) c1, .slice a2 (List.length p0.Mem) c2, .slice a3 (List.length p0.Stack) c3, .int .i64 p0.In, .slice a4 (List.length p0.Out) c4, .int .i64 p0.Code, .int .i64 p0.Steps]] w1 S1 := hs
  refine from_pure 1 [(1, .int .i64 p1), (2, .pointer (some ⟨b1, 0, none⟩))] hF (by kernel_rfl) fun fr hF => ?_
  refine from_end rfl (then_normal ?_)
  refine wp_seq (wp_text' ?_)
  refine from_pure 1 [(1, .int .i64 p1), (2, .pointer (some ⟨b1, 0, none⟩)), (5, .pointer (some ⟨b1, 1, none⟩))] hF (by kernel_rfl) fun fr hF => ?_
  refine s_loadBox (.slice a1 (List.length p0.Regs) c1) ty26 rfl rfl hF rfl (hs.bx 0 rfl) rfl rfl fun fr hF => ?_
  refine from_pure 1 [(2, .pointer (some ⟨b1, 0, none⟩)), (6, .slice a1 (List.length p0.Regs) c1), (7, .int .i64 p1)] hF (by kernel_rfl) fun fr hF => ?_
  obtain ⟨x1, hx1, h⟩ := bindE h
  refine s_call [.slice a1 (List.length p0.Regs) c1, .int .i64 p1] Try.call30 rfl rfl hF rfl (laws_heldIntS_ok n p0.Regs p1 hx1 (r1)) fun v w2 fr hRes hF => ?_
  obtain ⟨rfl, hc⟩ := hRes
  have r1 := r1.ext hc
  have r2 := r2.ext hc
  have r3 := r3.ext hc
  have r4 := r4.ext hc
  have hs := hs.ext hc
  have hM0 := hM0.ext hc
  refine from_pure 1 [(1, .int .i64 x1), (2, .pointer (some ⟨b1, 0, none⟩))] hF (by kernel_rfl) fun fr hF => ?_
  refine from_end rfl (then_normal ?_)
  refine wp_seq ?_
  refine wp_seq (wp_pure [(1, .int .i64 x1), (2, .pointer (some ⟨b1, 0, none⟩)), (10, .bool (decide (x1 < 0)))] hF (by kernel_rfl) fun fr hF => then_normal ?_)
  refine (wp_if hF (b := (decide (x1 < 0))) rfl (fun hb => ?_) (fun hb => ?_))
  · replace h := iteT hb h
    have hs : Sep [] w2 S1 := Sep.pick [] hs (by decide) rfl
    refine wp_seq (wp_pure [(4, .int .i64 (-1))] hF (by kernel_rfl) fun fr hF => then_normal ?_)
    obtain rfl := Option.some.inj h
    exact wp_ret (then_ret (ret1 rfl hF rfl ⟨_, rfl, rfl, hM0.chg⟩))
  replace h := iteF hb h
  refine (wp_skip (then_normal ?_))
  refine wp_seq (wp_text' ?_)
  refine from_pure 1 [(1, .int .i64 x1), (2, .pointer (some ⟨b1, 0, none⟩)), (11, .pointer (some ⟨b1, 2, none⟩))] hF (by kernel_rfl) fun fr hF => ?_
  refine s_loadBox (.slice a2 (List.length p0.Mem) c2) ty26 rfl rfl hF rfl (hs.bx 0 rfl) rfl rfl fun fr hF => ?_
  refine from_pure 1 [(2, .pointer (some ⟨b1, 0, none⟩)), (12, .slice a2 (List.length p0.Mem) c2), (13, .int .i64 x1)] hF (by kernel_rfl) fun fr hF => ?_
  obtain ⟨x2, hx2, h⟩ := bindE h
  refine s_call [.slice a2 (List.length p0.Mem) c2, .int .i64 x1] Try.call30 rfl rfl hF rfl (laws_heldIntS_ok n p0.Mem x1 hx2 (r2)) fun v w3 fr hRes hF => ?_
  obtain ⟨rfl, hc⟩ := hRes
  have r2 := r2.ext hc
  have r1 := r1.ext hc
  have r3 := r3.ext hc
  have r4 := r4.ext hc
  have hs := hs.ext hc
  have hM0 := hM0.ext hc
  refine from_pure 1 [(1, .int .i64 x2), (2, .pointer (some ⟨b1, 0, none⟩))] hF (by kernel_rfl) fun fr hF => ?_
  refine from_end rfl (then_normal ?_)
  refine wp_seq ?_
  refine wp_seq (wp_pure [(1, .int .i64 x2), (2, .pointer (some ⟨b1, 0, none⟩)), (16, .bool (decide (x2 < 0)))] hF (by kernel_rfl) fun fr hF => then_normal ?_)
  refine (wp_if hF (b := (decide (x2 < 0))) rfl (fun hb => ?_) (fun hb => ?_))
  · replace h := iteT hb h
    have hs : Sep [] w3 S1 := Sep.pick [] hs (by decide) rfl
    refine wp_seq (wp_pure [(4, .int .i64 (-1))] hF (by kernel_rfl) fun fr hF => then_normal ?_)
    obtain rfl := Option.some.inj h
    exact wp_ret (then_ret (ret1 rfl hF rfl ⟨_, rfl, rfl, hM0.chg⟩))
  replace h := iteF hb h
  refine (wp_skip (then_normal ?_))
  refine wp_seq (wp_text' ?_)
  refine from_pure 1 [(1, .int .i64 x2), (2, .pointer (some ⟨b1, 0, none⟩)), (17, .pointer (some ⟨b1, 3, none⟩))] hF (by kernel_rfl) fun fr hF => ?_
  refine s_loadBox (.slice a3 (List.length p0.Stack) c3) ty26 rfl rfl hF rfl (hs.bx 0 rfl) rfl rfl fun fr hF => ?_
  refine from_pure 1 [(2, .pointer (some ⟨b1, 0, none⟩)), (18, .slice a3 (List.length p0.Stack) c3), (19, .int .i64 x2)] hF (by kernel_rfl) fun fr hF => ?_
  obtain ⟨x3, hx3, h⟩ := bindE h
  refine s_call [.slice a3 (List.length p0.Stack) c3, .int .i64 x2] Try.call30 rfl rfl hF rfl (laws_heldIntS_ok n p0.Stack x2 hx3 (r3)) fun v w4 fr hRes hF => ?_
  obtain ⟨rfl, hc⟩ := hRes
  have r3 := r3.ext hc
  have r1 := r1.ext hc
  have r2 := r2.ext hc
  have r4 := r4.ext hc
  have hs := hs.ext hc
  have hM0 := hM0.ext hc
  refine from_pure 1 [(1, .int .i64 x3), (2, .pointer (some ⟨b1, 0, none⟩))] hF (by kernel_rfl) fun fr hF => ?_
  refine from_end rfl (then_normal ?_)
  refine wp_seq ?_
  refine wp_seq (wp_pure [(1, .int .i64 x3), (2, .pointer (some ⟨b1, 0, none⟩)), (22, .bool (decide (x3 < 0)))] hF (by kernel_rfl) fun fr hF => then_normal ?_)
  refine (wp_if hF (b := (decide (x3 < 0))) rfl (fun hb => ?_) (fun hb => ?_))
  · replace h := iteT hb h
    have hs : Sep [] w4 S1 := Sep.pick [] hs (by decide) rfl
    refine wp_seq (wp_pure [(4, .int .i64 (-1))] hF (by kernel_rfl) fun fr hF => then_normal ?_)
    obtain rfl := Option.some.inj h
    exact wp_ret (then_ret (ret1 rfl hF rfl ⟨_, rfl, rfl, hM0.chg⟩))
  replace h := iteF hb h
  refine (wp_skip (then_normal ?_))
  refine wp_seq (wp_text' ?_)
  refine from_pure 1 [(1, .int .i64 x3), (23, .pointer (some ⟨b1, 5, none⟩))] hF (by kernel_rfl) fun fr hF => ?_
  refine s_loadBox (.slice a4 (List.length p0.Out) c4) ty26 rfl rfl hF rfl (hs.bx 0 rfl) rfl rfl fun fr hF => ?_
  have hs : Sep [] w4 S1 := Sep.pick [] hs (by decide) rfl
  refine from_pure 1 [(24, .slice a4 (List.length p0.Out) c4), (25, .int .i64 x3)] hF (by kernel_rfl) fun fr hF => ?_
  obtain ⟨x4, hx4, h⟩ := bindE h
  refine s_call [.slice a4 (List.length p0.Out) c4, .int .i64 x3] Try.call30 rfl rfl hF rfl (laws_heldIntS_ok n p0.Out x3 hx4 (r4)) fun v w5 fr hRes hF => ?_
  obtain ⟨rfl, hc⟩ := hRes
  have r4 := r4.ext hc
  have hs := hs.ext hc
  have hM0 := hM0.ext hc
  refine from_pure 1 [(1, .int .i64 x4)] hF (by kernel_rfl) fun fr hF => ?_
  refine from_end rfl (then_normal ?_)
  refine wp_seq ?_
  refine wp_seq (wp_pure [(1, .int .i64 x4), (28, .bool (decide (x4 < 0)))] hF (by kernel_rfl) fun fr hF => then_normal ?_)
  refine (wp_if hF (b := (decide (x4 < 0))) rfl (fun hb => ?_) (fun hb => ?_))
  · replace h := iteT hb h
    refine wp_seq (wp_pure [(4, .int .i64 (-1))] hF (by kernel_rfl) fun fr hF => then_normal ?_)
    obtain rfl := Option.some.inj h
    exact wp_ret (then_ret (ret1 rfl hF rfl ⟨_, rfl, rfl, hM0.chg⟩))
  replace h := iteF hb h
  refine (wp_skip (then_normal ?_))
  refine wp_seq (wp_pure [(4, .int .i64 x4)] hF (by kernel_rfl) fun fr hF => then_normal ?_)
  obtain rfl := Option.some.inj h
  exact wp_ret (ret1 rfl hF rfl ⟨_, rfl, rfl, hM0.chg⟩)

theorem laws_FnExactStepState_ok (n : Nat) (p0 : D.Program) (p1 : D.State) (p2 : List Int) {r : Bool} (h : laws_FnExactStepState n p0 p1 p2 = some r) {w : World} {G0 : Nat → Prop} {va0 : Value} (ra0 : RV w G0 va0 p0) {G1 : Nat → Prop} {va1 : Value} (ra1 : RV w G1 va1 p1) {G2 : Nat → Prop} {va2 : Value} (ra2 : RV w G2 va2 p2) :
    Calls Try.prog 4 [va0, va1, va2].toArray w fun e w' => ∃ v, e = .returned v ∧ v = .bool r ∧ Chg Non w w' := by
  unfold laws_FnExactStepState at h
  have hs := Sep.nil w Non
  have hM0 : Mem w Non (fun k => (G0 k ∨ G1 k ∨ G2 k) ∧ k < w.heap.size) w Non (fun k => (G0 k ∨ G1 k ∨ G2 k) ∧ k < w.heap.size) := Mem.start (fun _ h => h.elim) (fun _ h => h.2) (fun _ h => h.elim)
  have ra0 := ra0.sub (F' := (fun k => (G0 k ∨ G1 k ∨ G2 k) ∧ k < w.heap.size)) (fun k hk h => ⟨.inl h, hk⟩)
  obtain ⟨v1, rfl, r1⟩ := RV.Program ra0
  obtain ⟨a1, c1, rfl, -⟩ := r1.slice
  have ra1 := ra1.sub (F' := (fun k => (G0 k ∨ G1 k ∨ G2 k) ∧ k < w.heap.size)) (fun k hk h => ⟨.inr (.inl h), hk⟩)
  obtain ⟨v2, v3, v4, v5, rfl, r2, r3, r4, r5⟩ := RV.State ra1
  obtain ⟨a2, c2, rfl, -⟩ := r2.slice
  obtain ⟨a3, c3, rfl, -⟩ := r3.slice
  obtain ⟨a4, c4, rfl, -⟩ := r4.slice
  obtain ⟨a5, c5, rfl, -⟩ := r5.slice
  have ra2 := ra2.sub (F' := (fun k => (G0 k ∨ G1 k ∨ G2 k) ∧ k < w.heap.size)) (fun k hk h => ⟨.inr (.inr (h)), hk⟩)
  obtain ⟨a6, c6, rfl, -⟩ := ra2.slice
  refine enter (N := 113) Try.func4 rfl Try.ntmps4 rfl fun fr hF => ?_
  refine wp_seq (wp_text' ?_)
  refine q_box hs hM0 [.int .i64 p0.W, .int .i64 p0.Mem, .int .i64 p0.In, .slice a1 (List.length p0.Code) c1] rfl rfl hF rfl rfl fun b1 w1 S1 fr hs hp hF => ?_
  have r1 := r1.stp hM0 hp
  have r2 := r2.stp hM0 hp
  have r3 := r3.stp hM0 hp
  have r4 := r4.stp hM0 hp
  have r5 := r5.stp hM0 hp
  have ra2 := ra2.stp hM0 hp
  have hM0 := hM0.stp hp
  have hs : Sep [BX b1 24 [.int .i64 p0.W, .int .i64 p0.Mem, .int .i64 p0.In, .slice a1 (List.length p0.Code) c1]] w1 S1 := hs
  refine q_box hs hM0 [.int .i64 p1.Pc, .slice a2 (List.length p1.Regs) c2, .slice a3 (List.length p1.Mem) c3, .slice a4 (List.length p1.Stack) c4, .int .i64 p1.In, .slice a5 (List.length p1.Out) c5, .int .i64 p1.Code, .int .i64 p1.Steps] rfl rfl hF rfl rfl fun b2 w2 S2 fr hs hp hF => ?_
  have r2 := r2.stp hM0 hp
  have r3 := r3.stp hM0 hp
  have r4 := r4.stp hM0 hp
  have r5 := r5.stp hM0 hp
  have ra2 := ra2.stp hM0 hp
  have r1 := r1.stp hM0 hp
  have hM0 := hM0.stp hp
  have hs : Sep [BX b2 39 [.int .i64 p1.Pc, .slice a2 (List.length p1.Regs) c2, .slice a3 (List.length p1.Mem) c3, .slice a4 (List.length p1.Stack) c4, .int .i64 p1.In, .slice a5 (List.length p1.Out) c5, .int .i64 p1.Code, .int .i64 p1.Steps], BX b1 24 [.int .i64 p0.W, .int .i64 p0.Mem, .int .i64 p0.In, .slice a1 (List.length p0.Code) c1]] w2 S2 := hs
  refine from_pure 1 [(2, .slice a6 (List.length p2) c6), (3, .pointer (some ⟨b1, 0, none⟩)), (4, .pointer (some ⟨b2, 0, none⟩))] hF (by kernel_rfl) fun fr hF => ?_
  refine from_end rfl (then_normal ?_)
  refine wp_seq ?_
  refine wp_seq (wp_pure [(2, .slice a6 (List.length p2) c6), (3, .pointer (some ⟨b1, 0, none⟩)), (4, .pointer (some ⟨b2, 0, none⟩)), (19, .bool (decide ((len p2) > 1048576)))] hF (by kernel_rfl) fun fr hF => then_normal ?_)
  refine (wp_if hF (b := (decide ((len p2) > 1048576))) rfl (fun hb => ?_) (fun hb => ?_))
  · replace h := iteT hb h
    have hs : Sep [] w2 S2 := Sep.pick [] hs (by decide) rfl
    refine wp_seq (wp_pure [(6, .bool true)] hF (by kernel_rfl) fun fr hF => then_normal ?_)
    obtain rfl := Option.some.inj h
    exact wp_ret (then_ret (ret1 rfl hF rfl ⟨_, rfl, rfl, hM0.chg⟩))
  replace h := iteF hb h
  refine (wp_skip (then_normal ?_))
  refine wp_seq (wp_pure [(2, .slice a6 (List.length p2) c6), (3, .pointer (some ⟨b1, 0, none⟩)), (4, .pointer (some ⟨b2, 0, none⟩)), (7, .int .i64 1048576)] hF (by kernel_rfl) fun fr hF => then_normal ?_)
  refine wp_seq (wp_text' ?_)
  refine s_loadBoxS ty24 rfl rfl hF rfl (hs.bx 1 rfl) rfl rfl fun fr hF => ?_
  refine from_pure 1 [(2, .slice a6 (List.length p2) c6), (3, .pointer (some ⟨b1, 0, none⟩)), (4, .pointer (some ⟨b2, 0, none⟩)), (20, .agg #[.int .i64 p0.W, .int .i64 p0.Mem, .int .i64 p0.In, .slice a1 (List.length p0.Code) c1]), (21, .int .i64 1048576)] hF (by kernel_rfl) fun fr hF => ?_
  obtain ⟨x1, hx1, h⟩ := bindE h
  refine s_call [.agg #[.int .i64 p0.W, .int .i64 p0.Mem, .int .i64 p0.In, .slice a1 (List.length p0.Code) c1], .int .i64 1048576] Try.call10 rfl rfl hF rfl (laws_szProgram_ok p0 1048576 hx1 (RV.mk_Program p0 (r1))) fun v w3 fr hRes hF => ?_
  obtain ⟨rfl, hc⟩ := hRes
  have ra2 := ra2.ext hc
  have r1 := r1.ext hc
  have r2 := r2.ext hc
  have r3 := r3.ext hc
  have r4 := r4.ext hc
  have r5 := r5.ext hc
  have hs := hs.ext hc
  have hM0 := hM0.ext hc
  refine from_pure 1 [(2, .slice a6 (List.length p2) c6), (3, .pointer (some ⟨b1, 0, none⟩)), (4, .pointer (some ⟨b2, 0, none⟩)), (7, .int .i64 x1)] hF (by kernel_rfl) fun fr hF => ?_
  refine from_end rfl (then_normal ?_)
  refine wp_seq ?_
  refine wp_seq (wp_pure [(2, .slice a6 (List.length p2) c6), (3, .pointer (some ⟨b1, 0, none⟩)), (4, .pointer (some ⟨b2, 0, none⟩)), (7, .int .i64 x1), (24, .bool (decide (x1 < 0)))] hF (by kernel_rfl) fun fr hF => then_normal ?_)
  refine (wp_if hF (b := (decide (x1 < 0))) rfl (fun hb => ?_) (fun hb => ?_))
  · replace h := iteT hb h
    have hs : Sep [] w3 S2 := Sep.pick [] hs (by decide) rfl
    refine wp_seq (wp_pure [(6, .bool true)] hF (by kernel_rfl) fun fr hF => then_normal ?_)
    obtain rfl := Option.some.inj h
    exact wp_ret (then_ret (ret1 rfl hF rfl ⟨_, rfl, rfl, hM0.chg⟩))
  replace h := iteF hb h
  refine (wp_skip (then_normal ?_))
  refine wp_seq (wp_text' ?_)
  refine s_loadBoxS ty39 rfl rfl hF rfl (hs.bx 0 rfl) rfl rfl fun fr hF => ?_
  refine from_pure 1 [(2, .slice a6 (List.length p2) c6), (3, .pointer (some ⟨b1, 0, none⟩)), (4, .pointer (some ⟨b2, 0, none⟩)), (25, .agg #[.int .i64 p1.Pc, .slice a2 (List.length p1.Regs) c2, .slice a3 (List.length p1.Mem) c3, .slice a4 (List.length p1.Stack) c4, .int .i64 p1.In, .slice a5 (List.length p1.Out) c5, .int .i64 p1.Code, .int .i64 p1.Steps]), (26, .int .i64 x1)] hF (by kernel_rfl) fun fr hF => ?_
  obtain ⟨x2, hx2, h⟩ := bindE h
  refine s_call [.agg #[.int .i64 p1.Pc, .slice a2 (List.length p1.Regs) c2, .slice a3 (List.length p1.Mem) c3, .slice a4 (List.length p1.Stack) c4, .int .i64 p1.In, .slice a5 (List.length p1.Out) c5, .int .i64 p1.Code, .int .i64 p1.Steps], .int .i64 x1] Try.call19 rfl rfl hF rfl (laws_szState_ok p1 x1 hx2 (RV.mk_State p1 (r2) (r3) (r4) (r5))) fun v w4 fr hRes hF => ?_
  obtain ⟨rfl, hc⟩ := hRes
  have ra2 := ra2.ext hc
  have r2 := r2.ext hc
  have r3 := r3.ext hc
  have r4 := r4.ext hc
  have r5 := r5.ext hc
  have r1 := r1.ext hc
  have hs := hs.ext hc
  have hM0 := hM0.ext hc
  refine from_pure 1 [(2, .slice a6 (List.length p2) c6), (3, .pointer (some ⟨b1, 0, none⟩)), (4, .pointer (some ⟨b2, 0, none⟩)), (7, .int .i64 x2)] hF (by kernel_rfl) fun fr hF => ?_
  refine from_end rfl (then_normal ?_)
  refine wp_seq ?_
  refine wp_seq (wp_pure [(2, .slice a6 (List.length p2) c6), (3, .pointer (some ⟨b1, 0, none⟩)), (4, .pointer (some ⟨b2, 0, none⟩)), (29, .bool (decide (x2 < 0)))] hF (by kernel_rfl) fun fr hF => then_normal ?_)
  refine (wp_if hF (b := (decide (x2 < 0))) rfl (fun hb => ?_) (fun hb => ?_))
  · replace h := iteT hb h
    have hs : Sep [] w4 S2 := Sep.pick [] hs (by decide) rfl
    refine wp_seq (wp_pure [(6, .bool true)] hF (by kernel_rfl) fun fr hF => then_normal ?_)
    obtain rfl := Option.some.inj h
    exact wp_ret (then_ret (ret1 rfl hF rfl ⟨_, rfl, rfl, hM0.chg⟩))
  replace h := iteF hb h
  refine (wp_skip (then_normal ?_))
  obtain ⟨x3, hx3, h⟩ := bindE h
  obtain ⟨x4, hx4, h⟩ := bindE h
  obtain ⟨x5, hx5, h⟩ := bindE h
  obtain ⟨x6, hx6, h⟩ := bindE h
  refine wp_seq (region_bm 8 [0, 1, 0, 7, 0, 31, 63, 0, 255] [false, false, false, false, true, false, false, false]
      [.eq (.agg #[.int .i64 p0.W, .int .i64 p0.Mem, .int .i64 p0.In, .slice a1 (List.length p0.Code) c1]), .is fun v w => RV w (fun k => k < w.heap.size) v (x3 : D.Program), .eq (.agg #[.int .i64 p1.Pc, .slice a2 (List.length p1.Regs) c2, .slice a3 (List.length p1.Mem) c3, .slice a4 (List.length p1.Stack) c4, .int .i64 p1.In, .slice a5 (List.length p1.Out) c5, .int .i64 p1.Code, .int .i64 p1.Steps]), .is fun v w => RV w (fun k => k < w.heap.size) v (x4 : D.State), .eq (.slice a6 (List.length p2) c6), .is fun v w => RV w (fun k => k < w.heap.size) v (x5 : List Int), .own fun ow v w => ∃ i : Nat → Option Addr × Nat, v = .agg #[.int .i64 x6.Pc, .slice (i 0).1 (List.length x6.Regs) (i 0).2, .slice (i 1).1 (List.length x6.Mem) (i 1).2, .slice (i 2).1 (List.length x6.Stack) (i 2).2, .int .i64 x6.In, .slice (i 3).1 (List.length x6.Out) (i 3).2, .int .i64 x6.Code, .int .i64 x6.Steps] ∧ (HP.sep [SL (α := Int) 3 (.slice (i 0).1 (List.length x6.Regs) (i 0).2) x6.Regs, SL (α := Int) 3 (.slice (i 1).1 (List.length x6.Mem) (i 1).2) x6.Mem, SL (α := Int) 3 (.slice (i 2).1 (List.length x6.Stack) (i 2).2) x6.Stack, SL (α := Int) 3 (.slice (i 3).1 (List.length x6.Out) (i 3).2) x6.Out]).ok w (fun k => w4.heap.size ≤ k ∧ k < w.heap.size ∧ ow k = 6), .own fun ow v w => ∃ b, v = .pointer (some ⟨b, 0, none⟩) ∧ (BX b 28 [.int .i64 0, .slice none (List.length ([] : List Int)) 0, .slice none (List.length ([] : List Int)) 0, .slice none (List.length ([] : List Int)) 0, .int .i64 0, .slice none (List.length ([] : List Int)) 0, .int .i64 0, .int .i64 0]).ok w (fun k => w4.heap.size ≤ k ∧ k < w.heap.size ∧ ow k = 7), .any]
      [(2, .slice a6 (List.length p2) c6), (3, .pointer (some ⟨b1, 0, none⟩)), (4, .pointer (some ⟨b2, 0, none⟩))] mix hF (by kernel_rfl) (by kernel_rfl) (by kernel_rfl) (by kernel_rfl) ⟨Pd.monoO_eq, (Pd.monoO_is mono_rvb), Pd.monoO_eq, (Pd.monoO_is mono_rvb), (Pd.monoO_is mono_rvb), mono_new, mono_new, trivial⟩ (fun ow hG => ⟨np_to ow (np_loadBoxS hG hF ty24 rfl rfl (hs.bx 1 rfl) rfl rfl rfl rfl), np_to ow (np_callI [.inl (.agg #[.int .i64 p0.W, .int .i64 p0.Mem, .int .i64 p0.In, .slice a1 (List.length p0.Code) c1])] hG hF Try.call12 rfl rfl (by kernel_rfl) (fun w vs hC hg ha => by obtain ⟨_, rfl, rfl⟩ := ha; exact (laws_toProgram_ok n p0 hx3 ((RV.mk_Program p0 (r1)).ext hC)).mono fun e w' ⟨v, he, a0, c0, hv, _, hp, ho⟩ => ⟨_, he, hp.chg, by rw [hv]; exact (show RV w' (fun k => k < w'.heap.size) _ (x3 : D.Program) from RV.mk_Program x3 ((ho.rv 0 rfl).sub fun k hk _ => hk))⟩)), np_to ow (np_loadBoxS hG hF ty39 rfl rfl (hs.bx 0 rfl) rfl rfl rfl rfl), np_to ow (np_callI [.inl (.agg #[.int .i64 p1.Pc, .slice a2 (List.length p1.Regs) c2, .slice a3 (List.length p1.Mem) c3, .slice a4 (List.length p1.Stack) c4, .int .i64 p1.In, .slice a5 (List.length p1.Out) c5, .int .i64 p1.Code, .int .i64 p1.Steps])] hG hF Try.call21 rfl rfl (by kernel_rfl) (fun w vs hC hg ha => by obtain ⟨_, rfl, rfl⟩ := ha; exact (laws_toState_ok n p1 hx4 ((RV.mk_State p1 (r2) (r3) (r4) (r5)).ext hC)).mono fun e w' ⟨v, he, a0, c0, a2, c2, a4, c4, a6, c6, hv, _, hp, ho⟩ => ⟨_, he, hp.chg, by rw [hv]; exact (show RV w' (fun k => k < w'.heap.size) _ (x4 : D.State) from RV.mk_State x4 ((ho.rv 0 rfl).sub fun k hk _ => hk) ((ho.rv 1 rfl).sub fun k hk _ => hk) ((ho.rv 2 rfl).sub fun k hk _ => hk) ((ho.rv 3 rfl).sub fun k hk _ => hk))⟩)), np_to ow (np_callI [.inl (.slice a6 (List.length p2) c6)] hG hF Try.call22 rfl rfl (by kernel_rfl) (fun w vs hC hg ha => by obtain ⟨_, rfl, rfl⟩ := ha; exact (laws_toIntS_ok n p2 hx5 ((ra2).ext hC)).mono fun e w' ⟨v, he, a0, c0, hv, _, hp, ho⟩ => ⟨_, he, hp.chg, by rw [hv]; exact (show RV w' (fun k => k < w'.heap.size) _ (x5 : List Int) from (ho.rv 0 rfl).sub fun k hk _ => hk)⟩)), np_callN (V := fun i : Nat → Option Addr × Nat => .agg #[.int .i64 x6.Pc, .slice (i 0).1 (List.length x6.Regs) (i 0).2, .slice (i 1).1 (List.length x6.Mem) (i 1).2, .slice (i 2).1 (List.length x6.Stack) (i 2).2, .int .i64 x6.In, .slice (i 3).1 (List.length x6.Out) (i 3).2, .int .i64 x6.Code, .int .i64 x6.Steps]) (H := fun i => HP.sep [SL (α := Int) 3 (.slice (i 0).1 (List.length x6.Regs) (i 0).2) x6.Regs, SL (α := Int) 3 (.slice (i 1).1 (List.length x6.Mem) (i 1).2) x6.Mem, SL (α := Int) 3 (.slice (i 2).1 (List.length x6.Stack) (i 2).2) x6.Stack, SL (α := Int) 3 (.slice (i 3).1 (List.length x6.Out) (i 3).2) x6.Out]) [.inr 1, .inr 3, .inr 5] hG hF Try.call20 rfl rfl (by kernel_rfl) rfl (fun w vs hC hg ha => by obtain ⟨vq0, _, rfl, hq0, vq1, _, rfl, hq1, vq2, _, rfl, hq2, rfl⟩ := ha; exact (spec_StepState_ok n x3 x4 x5 hx6 (show RV w (fun k => k < w.heap.size) vq0 x3 from hq0) (show RV w (fun k => k < w.heap.size) vq1 x4 from hq1) (show RV w (fun k => k < w.heap.size) vq2 x5 from hq2)).mono fun e w' ⟨v, he, a0, c0, a2, c2, a4, c4, a6, c6, hv, _, hp, ho⟩ => ⟨v, he, hp.chg, (fun q => ([(a0, c0), (a2, c2), (a4, c4), (a6, c6)] : List (Option Addr × Nat)).getD q default), hv, sep_new hp ho⟩), np_alloc (z := .agg #[.int .i64 0, .slice none (List.length ([] : List Int)) 0, .slice none (List.length ([] : List Int)) 0, .slice none (List.length ([] : List Int)) 0, .int .i64 0, .slice none (List.length ([] : List Int)) 0, .int .i64 0, .int .i64 0]) hG hF rfl (by kernel_rfl) rfl rfl, trivial⟩) (by kernel_rfl) fun ow fr w5 hF hE hc => ?_)
  obtain ⟨i1, hv, hnw6⟩ := hE.is 36 6 rfl rfl
  have hF := hF.cons hv
  obtain ⟨b3, hv, hnw7⟩ := hE.is 8 7 rfl rfl
  have hF := hF.cons hv
  have hsN := sepO (w0 := w4) (ow := ow) [(6, HP.sep [SL (α := Int) 3 (.slice (i1 0).1 (List.length x6.Regs) (i1 0).2) x6.Regs, SL (α := Int) 3 (.slice (i1 1).1 (List.length x6.Mem) (i1 1).2) x6.Mem, SL (α := Int) 3 (.slice (i1 2).1 (List.length x6.Stack) (i1 2).2) x6.Stack, SL (α := Int) 3 (.slice (i1 3).1 (List.length x6.Out) (i1 3).2) x6.Out]), (7, BX b3 28 [.int .i64 0, .slice none (List.length ([] : List Int)) 0, .slice none (List.length ([] : List Int)) 0, .slice none (List.length ([] : List Int)) 0, .int .i64 0, .slice none (List.length ([] : List Int)) 0, .int .i64 0, .int .i64 0])] (show ([6, 7] : List Nat).Nodup by decide) ⟨hnw6, hnw7, trivial⟩ rfl
  obtain ⟨S3, hp, hs⟩ := hs.got hM0 (stp_new hc) hsN
  have ra2 := ra2.stp hM0 hp
  have r1 := r1.stp hM0 hp
  have r2 := r2.stp hM0 hp
  have r3 := r3.stp hM0 hp
  have r4 := r4.stp hM0 hp
  have r5 := r5.stp hM0 hp
  have hM0 := hM0.stp hp
  have hs : Sep [HP.sep [SL (α := Int) 3 (.slice (i1 0).1 (List.length x6.Regs) (i1 0).2) x6.Regs, SL (α := Int) 3 (.slice (i1 1).1 (List.length x6.Mem) (i1 1).2) x6.Mem, SL (α := Int) 3 (.slice (i1 2).1 (List.length x6.Stack) (i1 2).2) x6.Stack, SL (α := Int) 3 (.slice (i1 3).1 (List.length x6.Out) (i1 3).2) x6.Out], BX b3 28 [.int .i64 0, .slice none (List.length ([] : List Int)) 0, .slice none (List.length ([] : List Int)) 0, .slice none (List.length ([] : List Int)) 0, .int .i64 0, .slice none (List.length ([] : List Int)) 0, .int .i64 0, .int .i64 0], BX b2 39 [.int .i64 p1.Pc, .slice a2 (List.length p1.Regs) c2, .slice a3 (List.length p1.Mem) c3, .slice a4 (List.length p1.Stack) c4, .int .i64 p1.In, .slice a5 (List.length p1.Out) c5, .int .i64 p1.Code, .int .i64 p1.Steps], BX b1 24 [.int .i64 p0.W, .int .i64 p0.Mem, .int .i64 p0.In, .slice a1 (List.length p0.Code) c1]] w5 S3 := hs
  have hs : Sep [SL (α := Int) 3 (.slice (i1 0).1 (List.length x6.Regs) (i1 0).2) x6.Regs, SL (α := Int) 3 (.slice (i1 1).1 (List.length x6.Mem) (i1 1).2) x6.Mem, SL (α := Int) 3 (.slice (i1 2).1 (List.length x6.Stack) (i1 2).2) x6.Stack, SL (α := Int) 3 (.slice (i1 3).1 (List.length x6.Out) (i1 3).2) x6.Out, BX b3 28 [.int .i64 0, .slice none (List.length ([] : List Int)) 0, .slice none (List.length ([] : List Int)) 0, .slice none (List.length ([] : List Int)) 0, .int .i64 0, .slice none (List.length ([] : List Int)) 0, .int .i64 0, .int .i64 0], BX b2 39 [.int .i64 p1.Pc, .slice a2 (List.length p1.Regs) c2, .slice a3 (List.length p1.Mem) c3, .slice a4 (List.length p1.Stack) c4, .int .i64 p1.In, .slice a5 (List.length p1.Out) c5, .int .i64 p1.Code, .int .i64 p1.Steps], BX b1 24 [.int .i64 p0.W, .int .i64 p0.Mem, .int .i64 p0.In, .slice a1 (List.length p0.Code) c1]] w5 S3 := hs.flat
  refine q_storeBoxS 4 hs hM0 rfl [.int .i64 x6.Pc, .slice (i1 0).1 (List.length x6.Regs) (i1 0).2, .slice (i1 1).1 (List.length x6.Mem) (i1 1).2, .slice (i1 2).1 (List.length x6.Stack) (i1 2).2, .int .i64 x6.In, .slice (i1 3).1 (List.length x6.Out) (i1 3).2, .int .i64 x6.Code, .int .i64 x6.Steps] rfl hF rfl rfl (by kernel_rfl) rfl rfl rfl fun w6 S4 hs hp hF => ?_
  have ra2 := ra2.stp hM0 hp
  have r2 := r2.stp hM0 hp
  have r3 := r3.stp hM0 hp
  have r4 := r4.stp hM0 hp
  have r5 := r5.stp hM0 hp
  have r1 := r1.stp hM0 hp
  have hM0 := hM0.stp hp
  have hs : Sep [SL (α := Int) 3 (.slice (i1 0).1 (List.length x6.Regs) (i1 0).2) x6.Regs, SL (α := Int) 3 (.slice (i1 1).1 (List.length x6.Mem) (i1 1).2) x6.Mem, SL (α := Int) 3 (.slice (i1 2).1 (List.length x6.Stack) (i1 2).2) x6.Stack, SL (α := Int) 3 (.slice (i1 3).1 (List.length x6.Out) (i1 3).2) x6.Out, BX b3 28 [.int .i64 x6.Pc, .slice (i1 0).1 (List.length x6.Regs) (i1 0).2, .slice (i1 1).1 (List.length x6.Mem) (i1 1).2, .slice (i1 2).1 (List.length x6.Stack) (i1 2).2, .int .i64 x6.In, .slice (i1 3).1 (List.length x6.Out) (i1 3).2, .int .i64 x6.Code, .int .i64 x6.Steps], BX b2 39 [.int .i64 p1.Pc, .slice a2 (List.length p1.Regs) c2, .slice a3 (List.length p1.Mem) c3, .slice a4 (List.length p1.Stack) c4, .int .i64 p1.In, .slice a5 (List.length p1.Out) c5, .int .i64 p1.Code, .int .i64 p1.Steps], BX b1 24 [.int .i64 p0.W, .int .i64 p0.Mem, .int .i64 p0.In, .slice a1 (List.length p0.Code) c1]] w6 S4 := hs
  refine from_end rfl (then_normal ?_)
  refine wp_seq (wp_text' ?_)
  refine s_loadBoxS ty24 rfl rfl hF rfl (hs.bx 6 rfl) rfl rfl fun fr hF => ?_
  obtain ⟨x7, hx7, h⟩ := bindE h
  refine s_call [.agg #[.int .i64 p0.W, .int .i64 p0.Mem, .int .i64 p0.In, .slice a1 (List.length p0.Code) c1]] Try.call12 rfl rfl hF rfl (laws_toProgram_ok n p0 hx7 (RV.mk_Program p0 (r1))) fun v w7 fr hRes hF => ?_
  obtain ⟨a7, c7, rfl, _, hp, hs2⟩ := hRes
  obtain ⟨S5, hp, hs⟩ := hs.got hM0 hp hs2
  have ra2 := ra2.stp hM0 hp
  have r1 := r1.stp hM0 hp
  have r2 := r2.stp hM0 hp
  have r3 := r3.stp hM0 hp
  have r4 := r4.stp hM0 hp
  have r5 := r5.stp hM0 hp
  have hM0 := hM0.stp hp
  have hs : Sep [SL (α := D.Ins) 66 (.slice a7 (List.length x7.Code) c7) x7.Code, SL (α := Int) 3 (.slice (i1 0).1 (List.length x6.Regs) (i1 0).2) x6.Regs, SL (α := Int) 3 (.slice (i1 1).1 (List.length x6.Mem) (i1 1).2) x6.Mem, SL (α := Int) 3 (.slice (i1 2).1 (List.length x6.Stack) (i1 2).2) x6.Stack, SL (α := Int) 3 (.slice (i1 3).1 (List.length x6.Out) (i1 3).2) x6.Out, BX b3 28 [.int .i64 x6.Pc, .slice (i1 0).1 (List.length x6.Regs) (i1 0).2, .slice (i1 1).1 (List.length x6.Mem) (i1 1).2, .slice (i1 2).1 (List.length x6.Stack) (i1 2).2, .int .i64 x6.In, .slice (i1 3).1 (List.length x6.Out) (i1 3).2, .int .i64 x6.Code, .int .i64 x6.Steps], BX b2 39 [.int .i64 p1.Pc, .slice a2 (List.length p1.Regs) c2, .slice a3 (List.length p1.Mem) c3, .slice a4 (List.length p1.Stack) c4, .int .i64 p1.In, .slice a5 (List.length p1.Out) c5, .int .i64 p1.Code, .int .i64 p1.Steps], BX b1 24 [.int .i64 p0.W, .int .i64 p0.Mem, .int .i64 p0.In, .slice a1 (List.length p0.Code) c1]] w7 S5 := hs
  refine q_alloc (z := .agg #[.int .i64 0, .int .i64 0, .int .i64 0, .slice none (List.length ([] : List D.Ins)) 0]) hs hM0 [.int .i64 0, .int .i64 0, .int .i64 0, .slice none (List.length ([] : List D.Ins)) 0] rfl rfl hF (by kernel_rfl) rfl fun b4 w8 S6 fr hs hp hF => ?_
  have ra2 := ra2.stp hM0 hp
  have r2 := r2.stp hM0 hp
  have r3 := r3.stp hM0 hp
  have r4 := r4.stp hM0 hp
  have r5 := r5.stp hM0 hp
  have r1 := r1.stp hM0 hp
  have hM0 := hM0.stp hp
  have hs : Sep [BX b4 32 [.int .i64 0, .int .i64 0, .int .i64 0, .slice none (List.length ([] : List D.Ins)) 0], SL (α := D.Ins) 66 (.slice a7 (List.length x7.Code) c7) x7.Code, SL (α := Int) 3 (.slice (i1 0).1 (List.length x6.Regs) (i1 0).2) x6.Regs, SL (α := Int) 3 (.slice (i1 1).1 (List.length x6.Mem) (i1 1).2) x6.Mem, SL (α := Int) 3 (.slice (i1 2).1 (List.length x6.Stack) (i1 2).2) x6.Stack, SL (α := Int) 3 (.slice (i1 3).1 (List.length x6.Out) (i1 3).2) x6.Out, BX b3 28 [.int .i64 x6.Pc, .slice (i1 0).1 (List.length x6.Regs) (i1 0).2, .slice (i1 1).1 (List.length x6.Mem) (i1 1).2, .slice (i1 2).1 (List.length x6.Stack) (i1 2).2, .int .i64 x6.In, .slice (i1 3).1 (List.length x6.Out) (i1 3).2, .int .i64 x6.Code, .int .i64 x6.Steps], BX b2 39 [.int .i64 p1.Pc, .slice a2 (List.length p1.Regs) c2, .slice a3 (List.length p1.Mem) c3, .slice a4 (List.length p1.Stack) c4, .int .i64 p1.In, .slice a5 (List.length p1.Out) c5, .int .i64 p1.Code, .int .i64 p1.Steps], BX b1 24 [.int .i64 p0.W, .int .i64 p0.Mem, .int .i64 p0.In, .slice a1 (List.length p0.Code) c1]] w8 S6 := hs
  refine q_storeBoxS 0 hs hM0 rfl [.int .i64 x7.W, .int .i64 x7.Mem, .int .i64 x7.In, .slice a7 (List.length x7.Code) c7] rfl hF rfl rfl (by kernel_rfl) rfl rfl rfl fun w9 S7 hs hp hF => ?_
  have ra2 := ra2.stp hM0 hp
  have r2 := r2.stp hM0 hp
  have r3 := r3.stp hM0 hp
  have r4 := r4.stp hM0 hp
  have r5 := r5.stp hM0 hp
  have r1 := r1.stp hM0 hp
  have hM0 := hM0.stp hp
  have hs : Sep [BX b4 32 [.int .i64 x7.W, .int .i64 x7.Mem, .int .i64 x7.In, .slice a7 (List.length x7.Code) c7], SL (α := D.Ins) 66 (.slice a7 (List.length x7.Code) c7) x7.Code, SL (α := Int) 3 (.slice (i1 0).1 (List.length x6.Regs) (i1 0).2) x6.Regs, SL (α := Int) 3 (.slice (i1 1).1 (List.length x6.Mem) (i1 1).2) x6.Mem, SL (α := Int) 3 (.slice (i1 2).1 (List.length x6.Stack) (i1 2).2) x6.Stack, SL (α := Int) 3 (.slice (i1 3).1 (List.length x6.Out) (i1 3).2) x6.Out, BX b3 28 [.int .i64 x6.Pc, .slice (i1 0).1 (List.length x6.Regs) (i1 0).2, .slice (i1 1).1 (List.length x6.Mem) (i1 1).2, .slice (i1 2).1 (List.length x6.Stack) (i1 2).2, .int .i64 x6.In, .slice (i1 3).1 (List.length x6.Out) (i1 3).2, .int .i64 x6.Code, .int .i64 x6.Steps], BX b2 39 [.int .i64 p1.Pc, .slice a2 (List.length p1.Regs) c2, .slice a3 (List.length p1.Mem) c3, .slice a4 (List.length p1.Stack) c4, .int .i64 p1.In, .slice a5 (List.length p1.Out) c5, .int .i64 p1.Code, .int .i64 p1.Steps], BX b1 24 [.int .i64 p0.W, .int .i64 p0.Mem, .int .i64 p0.In, .slice a1 (List.length p0.Code) c1]] w9 S7 := hs
  refine from_end rfl (then_normal ?_)
  refine wp_seq (wp_text' ?_)
  refine s_loadBoxS ty39 rfl rfl hF rfl (hs.bx 7 rfl) rfl rfl fun fr hF => ?_
  obtain ⟨x8, hx8, h⟩ := bindE h
  refine s_call [.agg #[.int .i64 p1.Pc, .slice a2 (List.length p1.Regs) c2, .slice a3 (List.length p1.Mem) c3, .slice a4 (List.length p1.Stack) c4, .int .i64 p1.In, .slice a5 (List.length p1.Out) c5, .int .i64 p1.Code, .int .i64 p1.Steps]] Try.call21 rfl rfl hF rfl (laws_toState_ok n p1 hx8 (RV.mk_State p1 (r2) (r3) (r4) (r5))) fun v w10 fr hRes hF => ?_
  obtain ⟨a8, c8, a9, c9, a10, c10, a11, c11, rfl, _, hp, hs2⟩ := hRes
  obtain ⟨S8, hp, hs⟩ := hs.got hM0 hp hs2
  have ra2 := ra2.stp hM0 hp
  have r2 := r2.stp hM0 hp
  have r3 := r3.stp hM0 hp
  have r4 := r4.stp hM0 hp
  have r5 := r5.stp hM0 hp
  have r1 := r1.stp hM0 hp
  have hM0 := hM0.stp hp
  have hs : Sep [SL (α := Int) 3 (.slice a8 (List.length x8.Regs) c8) x8.Regs, SL (α := Int) 3 (.slice a9 (List.length x8.Mem) c9) x8.Mem, SL (α := Int) 3 (.slice a10 (List.length x8.Stack) c10) x8.Stack, SL (α := Int) 3 (.slice a11 (List.length x8.Out) c11) x8.Out, BX b4 32 [.int .i64 x7.W, .int .i64 x7.Mem, .int .i64 x7.In, .slice a7 (List.length x7.Code) c7], SL (α := D.Ins) 66 (.slice a7 (List.length x7.Code) c7) x7.Code, SL (α := Int) 3 (.slice (i1 0).1 (List.length x6.Regs) (i1 0).2) x6.Regs, SL (α := Int) 3 (.slice (i1 1).1 (List.length x6.Mem) (i1 1).2) x6.Mem, SL (α := Int) 3 (.slice (i1 2).1 (List.length x6.Stack) (i1 2).2) x6.Stack, SL (α := Int) 3 (.slice (i1 3).1 (List.length x6.Out) (i1 3).2) x6.Out, BX b3 28 [.int .i64 x6.Pc, .slice (i1 0).1 (List.length x6.Regs) (i1 0).2, .slice (i1 1).1 (List.length x6.Mem) (i1 1).2, .slice (i1 2).1 (List.length x6.Stack) (i1 2).2, .int .i64 x6.In, .slice (i1 3).1 (List.length x6.Out) (i1 3).2, .int .i64 x6.Code, .int .i64 x6.Steps], BX b2 39 [.int .i64 p1.Pc, .slice a2 (List.length p1.Regs) c2, .slice a3 (List.length p1.Mem) c3, .slice a4 (List.length p1.Stack) c4, .int .i64 p1.In, .slice a5 (List.length p1.Out) c5, .int .i64 p1.Code, .int .i64 p1.Steps], BX b1 24 [.int .i64 p0.W, .int .i64 p0.Mem, .int .i64 p0.In, .slice a1 (List.length p0.Code) c1]] w10 S8 := hs
  refine q_alloc (z := .agg #[.int .i64 0, .slice none (List.length ([] : List Int)) 0, .slice none (List.length ([] : List Int)) 0, .slice none (List.length ([] : List Int)) 0, .int .i64 0, .slice none (List.length ([] : List Int)) 0, .int .i64 0, .int .i64 0]) hs hM0 [.int .i64 0, .slice none (List.length ([] : List Int)) 0, .slice none (List.length ([] : List Int)) 0, .slice none (List.length ([] : List Int)) 0, .int .i64 0, .slice none (List.length ([] : List Int)) 0, .int .i64 0, .int .i64 0] rfl rfl hF (by kernel_rfl) rfl fun b5 w11 S9 fr hs hp hF => ?_
  have ra2 := ra2.stp hM0 hp
  have r2 := r2.stp hM0 hp
  have r3 := r3.stp hM0 hp
  have r4 := r4.stp hM0 hp
  have r5 := r5.stp hM0 hp
  have r1 := r1.stp hM0 hp
  have hM0 := hM0.stp hp
  have hs : Sep [BX b5 28 [.int .i64 0, .slice none (List.length ([] : List Int)) 0, .slice none (List.length ([] : List Int)) 0, .slice none (List.length ([] : List Int)) 0, .int .i64 0, .slice none (List.length ([] : List Int)) 0, .int .i64 0, .int .i64 0], SL (α := Int) 3 (.slice a8 (List.length x8.Regs) c8) x8.Regs, SL (α := Int) 3 (.slice a9 (List.length x8.Mem) c9) x8.Mem, SL (α := Int) 3 (.slice a10 (List.length x8.Stack) c10) x8.Stack, SL (α := Int) 3 (.slice a11 (List.length x8.Out) c11) x8.Out, BX b4 32 [.int .i64 x7.W, .int .i64 x7.Mem, .int .i64 x7.In, .slice a7 (List.length x7.Code) c7], SL (α := D.Ins) 66 (.slice a7 (List.length x7.Code) c7) x7.Code, SL (α := Int) 3 (.slice (i1 0).1 (List.length x6.Regs) (i1 0).2) x6.Regs, SL (α := Int) 3 (.slice (i1 1).1 (List.length x6.Mem) (i1 1).2) x6.Mem, SL (α := Int) 3 (.slice (i1 2).1 (List.length x6.Stack) (i1 2).2) x6.Stack, SL (α := Int) 3 (.slice (i1 3).1 (List.length x6.Out) (i1 3).2) x6.Out, BX b3 28 [.int .i64 x6.Pc, .slice (i1 0).1 (List.length x6.Regs) (i1 0).2, .slice (i1 1).1 (List.length x6.Mem) (i1 1).2, .slice (i1 2).1 (List.length x6.Stack) (i1 2).2, .int .i64 x6.In, .slice (i1 3).1 (List.length x6.Out) (i1 3).2, .int .i64 x6.Code, .int .i64 x6.Steps], BX b2 39 [.int .i64 p1.Pc, .slice a2 (List.length p1.Regs) c2, .slice a3 (List.length p1.Mem) c3, .slice a4 (List.length p1.Stack) c4, .int .i64 p1.In, .slice a5 (List.length p1.Out) c5, .int .i64 p1.Code, .int .i64 p1.Steps], BX b1 24 [.int .i64 p0.W, .int .i64 p0.Mem, .int .i64 p0.In, .slice a1 (List.length p0.Code) c1]] w11 S9 := hs
  refine q_storeBoxS 0 hs hM0 rfl [.int .i64 x8.Pc, .slice a8 (List.length x8.Regs) c8, .slice a9 (List.length x8.Mem) c9, .slice a10 (List.length x8.Stack) c10, .int .i64 x8.In, .slice a11 (List.length x8.Out) c11, .int .i64 x8.Code, .int .i64 x8.Steps] rfl hF rfl rfl (by kernel_rfl) rfl rfl rfl fun w12 S10 hs hp hF => ?_
  have ra2 := ra2.stp hM0 hp
  have r2 := r2.stp hM0 hp
  have r3 := r3.stp hM0 hp
  have r4 := r4.stp hM0 hp
  have r5 := r5.stp hM0 hp
  have r1 := r1.stp hM0 hp
  have hM0 := hM0.stp hp
  have hs : Sep [BX b5 28 [.int .i64 x8.Pc, .slice a8 (List.length x8.Regs) c8, .slice a9 (List.length x8.Mem) c9, .slice a10 (List.length x8.Stack) c10, .int .i64 x8.In, .slice a11 (List.length x8.Out) c11, .int .i64 x8.Code, .int .i64 x8.Steps], SL (α := Int) 3 (.slice a8 (List.length x8.Regs) c8) x8.Regs, SL (α := Int) 3 (.slice a9 (List.length x8.Mem) c9) x8.Mem, SL (α := Int) 3 (.slice a10 (List.length x8.Stack) c10) x8.Stack, SL (α := Int) 3 (.slice a11 (List.length x8.Out) c11) x8.Out, BX b4 32 [.int .i64 x7.W, .int .i64 x7.Mem, .int .i64 x7.In, .slice a7 (List.length x7.Code) c7], SL (α := D.Ins) 66 (.slice a7 (List.length x7.Code) c7) x7.Code, SL (α := Int) 3 (.slice (i1 0).1 (List.length x6.Regs) (i1 0).2) x6.Regs, SL (α := Int) 3 (.slice (i1 1).1 (List.length x6.Mem) (i1 1).2) x6.Mem, SL (α := Int) 3 (.slice (i1 2).1 (List.length x6.Stack) (i1 2).2) x6.Stack, SL (α := Int) 3 (.slice (i1 3).1 (List.length x6.Out) (i1 3).2) x6.Out, BX b3 28 [.int .i64 x6.Pc, .slice (i1 0).1 (List.length x6.Regs) (i1 0).2, .slice (i1 1).1 (List.length x6.Mem) (i1 1).2, .slice (i1 2).1 (List.length x6.Stack) (i1 2).2, .int .i64 x6.In, .slice (i1 3).1 (List.length x6.Out) (i1 3).2, .int .i64 x6.Code, .int .i64 x6.Steps], BX b2 39 [.int .i64 p1.Pc, .slice a2 (List.length p1.Regs) c2, .slice a3 (List.length p1.Mem) c3, .slice a4 (List.length p1.Stack) c4, .int .i64 p1.In, .slice a5 (List.length p1.Out) c5, .int .i64 p1.Code, .int .i64 p1.Steps], BX b1 24 [.int .i64 p0.W, .int .i64 p0.Mem, .int .i64 p0.In, .slice a1 (List.length p0.Code) c1]] w12 S10 := hs
  refine from_end rfl (then_normal ?_)
  refine wp_seq (wp_text' ?_)
  refine from_pure 1 [(2, .slice a6 (List.length p2) c6), (3, .pointer (some ⟨b1, 0, none⟩)), (4, .pointer (some ⟨b2, 0, none⟩)), (8, .pointer (some ⟨b3, 0, none⟩)), (9, .pointer (some ⟨b4, 0, none⟩)), (10, .pointer (some ⟨b5, 0, none⟩)), (41, .slice a6 (List.length p2) c6)] hF (by kernel_rfl) fun fr hF => ?_
  obtain ⟨x9, hx9, h⟩ := bindE h
  refine s_call [.slice a6 (List.length p2) c6] Try.call22 rfl rfl hF rfl (laws_toIntS_ok n p2 hx9 (ra2)) fun v w13 fr hRes hF => ?_
  obtain ⟨a12, c12, rfl, _, hp, hs2⟩ := hRes
  obtain ⟨S11, hp, hs⟩ := hs.got hM0 hp hs2
  have ra2 := ra2.stp hM0 hp
  have r2 := r2.stp hM0 hp
  have r3 := r3.stp hM0 hp
  have r4 := r4.stp hM0 hp
  have r5 := r5.stp hM0 hp
  have r1 := r1.stp hM0 hp
  have hM0 := hM0.stp hp
  have hs : Sep [SL (α := Int) 3 (.slice a12 (List.length x9) c12) x9, BX b5 28 [.int .i64 x8.Pc, .slice a8 (List.length x8.Regs) c8, .slice a9 (List.length x8.Mem) c9, .slice a10 (List.length x8.Stack) c10, .int .i64 x8.In, .slice a11 (List.length x8.Out) c11, .int .i64 x8.Code, .int .i64 x8.Steps], SL (α := Int) 3 (.slice a8 (List.length x8.Regs) c8) x8.Regs, SL (α := Int) 3 (.slice a9 (List.length x8.Mem) c9) x8.Mem, SL (α := Int) 3 (.slice a10 (List.length x8.Stack) c10) x8.Stack, SL (α := Int) 3 (.slice a11 (List.length x8.Out) c11) x8.Out, BX b4 32 [.int .i64 x7.W, .int .i64 x7.Mem, .int .i64 x7.In, .slice a7 (List.length x7.Code) c7], SL (α := D.Ins) 66 (.slice a7 (List.length x7.Code) c7) x7.Code, SL (α := Int) 3 (.slice (i1 0).1 (List.length x6.Regs) (i1 0).2) x6.Regs, SL (α := Int) 3 (.slice (i1 1).1 (List.length x6.Mem) (i1 1).2) x6.Mem, SL (α := Int) 3 (.slice (i1 2).1 (List.length x6.Stack) (i1 2).2) x6.Stack, SL (α := Int) 3 (.slice (i1 3).1 (List.length x6.Out) (i1 3).2) x6.Out, BX b3 28 [.int .i64 x6.Pc, .slice (i1 0).1 (List.length x6.Regs) (i1 0).2, .slice (i1 1).1 (List.length x6.Mem) (i1 1).2, .slice (i1 2).1 (List.length x6.Stack) (i1 2).2, .int .i64 x6.In, .slice (i1 3).1 (List.length x6.Out) (i1 3).2, .int .i64 x6.Code, .int .i64 x6.Steps], BX b2 39 [.int .i64 p1.Pc, .slice a2 (List.length p1.Regs) c2, .slice a3 (List.length p1.Mem) c3, .slice a4 (List.length p1.Stack) c4, .int .i64 p1.In, .slice a5 (List.length p1.Out) c5, .int .i64 p1.Code, .int .i64 p1.Steps], BX b1 24 [.int .i64 p0.W, .int .i64 p0.Mem, .int .i64 p0.In, .slice a1 (List.length p0.Code) c1]] w13 S11 := hs
  refine from_pure 1 [(2, .slice a6 (List.length p2) c6), (3, .pointer (some ⟨b1, 0, none⟩)), (4, .pointer (some ⟨b2, 0, none⟩)), (8, .pointer (some ⟨b3, 0, none⟩)), (9, .pointer (some ⟨b4, 0, none⟩)), (10, .pointer (some ⟨b5, 0, none⟩)), (11, .slice a12 (List.length x9) c12)] hF (by kernel_rfl) fun fr hF => ?_
  refine from_end rfl (then_normal ?_)
  refine wp_seq (wp_text' ?_)
  refine s_loadBoxS ty32 rfl rfl hF rfl (hs.bx 6 rfl) rfl rfl fun fr hF => ?_
  refine s_loadBoxS ty28 rfl rfl hF rfl (hs.bx 1 rfl) rfl rfl fun fr hF => ?_
  refine from_pure 1 [(2, .slice a6 (List.length p2) c6), (3, .pointer (some ⟨b1, 0, none⟩)), (4, .pointer (some ⟨b2, 0, none⟩)), (8, .pointer (some ⟨b3, 0, none⟩)), (9, .pointer (some ⟨b4, 0, none⟩)), (10, .pointer (some ⟨b5, 0, none⟩)), (11, .slice a12 (List.length x9) c12), (43, .agg #[.int .i64 x7.W, .int .i64 x7.Mem, .int .i64 x7.In, .slice a7 (List.length x7.Code) c7]), (44, .agg #[.int .i64 x8.Pc, .slice a8 (List.length x8.Regs) c8, .slice a9 (List.length x8.Mem) c9, .slice a10 (List.length x8.Stack) c10, .int .i64 x8.In, .slice a11 (List.length x8.Out) c11, .int .i64 x8.Code, .int .i64 x8.Steps]), (45, .slice a12 (List.length x9) c12)] hF (by kernel_rfl) fun fr hF => ?_
  obtain ⟨x10, hx10, h⟩ := bindE h
  refine s_call [.agg #[.int .i64 x7.W, .int .i64 x7.Mem, .int .i64 x7.In, .slice a7 (List.length x7.Code) c7], .agg #[.int .i64 x8.Pc, .slice a8 (List.length x8.Regs) c8, .slice a9 (List.length x8.Mem) c9, .slice a10 (List.length x8.Stack) c10, .int .i64 x8.In, .slice a11 (List.length x8.Out) c11, .int .i64 x8.Code, .int .i64 x8.Steps], .slice a12 (List.length x9) c12] Try.call23 rfl rfl hF rfl (impl_StepState_ok n x7 x8 x9 hx10 (RV.mk_Program x7 (RV.any (hs.rv 7 rfl))) (RV.mk_State x8 (RV.any (hs.rv 2 rfl)) (RV.any (hs.rv 3 rfl)) (RV.any (hs.rv 4 rfl)) (RV.any (hs.rv 5 rfl))) (hs.rv 0 rfl)) fun v w14 fr hRes hF => ?_
  obtain ⟨a13, c13, a14, c14, a15, c15, a16, c16, rfl, _, hp, hs2⟩ := hRes
  obtain ⟨S12, hp, hs⟩ := hs.got hM0 hp hs2
  have ra2 := ra2.stp hM0 hp
  have r2 := r2.stp hM0 hp
  have r3 := r3.stp hM0 hp
  have r4 := r4.stp hM0 hp
  have r5 := r5.stp hM0 hp
  have r1 := r1.stp hM0 hp
  have hM0 := hM0.stp hp
  have hs : Sep [SL (α := Int) 3 (.slice a13 (List.length x10.Regs) c13) x10.Regs, SL (α := Int) 3 (.slice a14 (List.length x10.Mem) c14) x10.Mem, SL (α := Int) 3 (.slice a15 (List.length x10.Stack) c15) x10.Stack, SL (α := Int) 3 (.slice a16 (List.length x10.Out) c16) x10.Out, SL (α := Int) 3 (.slice a12 (List.length x9) c12) x9, BX b5 28 [.int .i64 x8.Pc, .slice a8 (List.length x8.Regs) c8, .slice a9 (List.length x8.Mem) c9, .slice a10 (List.length x8.Stack) c10, .int .i64 x8.In, .slice a11 (List.length x8.Out) c11, .int .i64 x8.Code, .int .i64 x8.Steps], SL (α := Int) 3 (.slice a8 (List.length x8.Regs) c8) x8.Regs, SL (α := Int) 3 (.slice a9 (List.length x8.Mem) c9) x8.Mem, SL (α := Int) 3 (.slice a10 (List.length x8.Stack) c10) x8.Stack, SL (α := Int) 3 (.slice a11 (List.length x8.Out) c11) x8.Out, BX b4 32 [.int .i64 x7.W, .int .i64 x7.Mem, .int .i64 x7.In, .slice a7 (List.length x7.Code) c7], SL (α := D.Ins) 66 (.slice a7 (List.length x7.Code) c7) x7.Code, SL (α := Int) 3 (.slice (i1 0).1 (List.length x6.Regs) (i1 0).2) x6.Regs, SL (α := Int) 3 (.slice (i1 1).1 (List.length x6.Mem) (i1 1).2) x6.Mem, SL (α := Int) 3 (.slice (i1 2).1 (List.length x6.Stack) (i1 2).2) x6.Stack, SL (α := Int) 3 (.slice (i1 3).1 (List.length x6.Out) (i1 3).2) x6.Out, BX b3 28 [.int .i64 x6.Pc, .slice (i1 0).1 (List.length x6.Regs) (i1 0).2, .slice (i1 1).1 (List.length x6.Mem) (i1 1).2, .slice (i1 2).1 (List.length x6.Stack) (i1 2).2, .int .i64 x6.In, .slice (i1 3).1 (List.length x6.Out) (i1 3).2, .int .i64 x6.Code, .int .i64 x6.Steps], BX b2 39 [.int .i64 p1.Pc, .slice a2 (List.length p1.Regs) c2, .slice a3 (List.length p1.Mem) c3, .slice a4 (List.length p1.Stack) c4, .int .i64 p1.In, .slice a5 (List.length p1.Out) c5, .int .i64 p1.Code, .int .i64 p1.Steps], BX b1 24 [.int .i64 p0.W, .int .i64 p0.Mem, .int .i64 p0.In, .slice a1 (List.length p0.Code) c1]] w14 S12 := hs
  refine q_alloc (z := .agg #[.int .i64 0, .slice none (List.length ([] : List Int)) 0, .slice none (List.length ([] : List Int)) 0, .slice none (List.length ([] : List Int)) 0, .int .i64 0, .slice none (List.length ([] : List Int)) 0, .int .i64 0, .int .i64 0]) hs hM0 [.int .i64 0, .slice none (List.length ([] : List Int)) 0, .slice none (List.length ([] : List Int)) 0, .slice none (List.length ([] : List Int)) 0, .int .i64 0, .slice none (List.length ([] : List Int)) 0, .int .i64 0, .int .i64 0] rfl rfl hF (by kernel_rfl) rfl fun b6 w15 S13 fr hs hp hF => ?_
  have ra2 := ra2.stp hM0 hp
  have r2 := r2.stp hM0 hp
  have r3 := r3.stp hM0 hp
  have r4 := r4.stp hM0 hp
  have r5 := r5.stp hM0 hp
  have r1 := r1.stp hM0 hp
  have hM0 := hM0.stp hp
  have hs : Sep [BX b6 28 [.int .i64 0, .slice none (List.length ([] : List Int)) 0, .slice none (List.length ([] : List Int)) 0, .slice none (List.length ([] : List Int)) 0, .int .i64 0, .slice none (List.length ([] : List Int)) 0, .int .i64 0, .int .i64 0], SL (α := Int) 3 (.slice a13 (List.length x10.Regs) c13) x10.Regs, SL (α := Int) 3 (.slice a14 (List.length x10.Mem) c14) x10.Mem, SL (α := Int) 3 (.slice a15 (List.length x10.Stack) c15) x10.Stack, SL (α := Int) 3 (.slice a16 (List.length x10.Out) c16) x10.Out, SL (α := Int) 3 (.slice a12 (List.length x9) c12) x9, BX b5 28 [.int .i64 x8.Pc, .slice a8 (List.length x8.Regs) c8, .slice a9 (List.length x8.Mem) c9, .slice a10 (List.length x8.Stack) c10, .int .i64 x8.In, .slice a11 (List.length x8.Out) c11, .int .i64 x8.Code, .int .i64 x8.Steps], SL (α := Int) 3 (.slice a8 (List.length x8.Regs) c8) x8.Regs, SL (α := Int) 3 (.slice a9 (List.length x8.Mem) c9) x8.Mem, SL (α := Int) 3 (.slice a10 (List.length x8.Stack) c10) x8.Stack, SL (α := Int) 3 (.slice a11 (List.length x8.Out) c11) x8.Out, BX b4 32 [.int .i64 x7.W, .int .i64 x7.Mem, .int .i64 x7.In, .slice a7 (List.length x7.Code) c7], SL (α := D.Ins) 66 (.slice a7 (List.length x7.Code) c7) x7.Code, SL (α := Int) 3 (.slice (i1 0).1 (List.length x6.Regs) (i1 0).2) x6.Regs, SL (α := Int) 3 (.slice (i1 1).1 (List.length x6.Mem) (i1 1).2) x6.Mem, SL (α := Int) 3 (.slice (i1 2).1 (List.length x6.Stack) (i1 2).2) x6.Stack, SL (α := Int) 3 (.slice (i1 3).1 (List.length x6.Out) (i1 3).2) x6.Out, BX b3 28 [.int .i64 x6.Pc, .slice (i1 0).1 (List.length x6.Regs) (i1 0).2, .slice (i1 1).1 (List.length x6.Mem) (i1 1).2, .slice (i1 2).1 (List.length x6.Stack) (i1 2).2, .int .i64 x6.In, .slice (i1 3).1 (List.length x6.Out) (i1 3).2, .int .i64 x6.Code, .int .i64 x6.Steps], BX b2 39 [.int .i64 p1.Pc, .slice a2 (List.length p1.Regs) c2, .slice a3 (List.length p1.Mem) c3, .slice a4 (List.length p1.Stack) c4, .int .i64 p1.In, .slice a5 (List.length p1.Out) c5, .int .i64 p1.Code, .int .i64 p1.Steps], BX b1 24 [.int .i64 p0.W, .int .i64 p0.Mem, .int .i64 p0.In, .slice a1 (List.length p0.Code) c1]] w15 S13 := hs
  refine q_storeBoxS 0 hs hM0 rfl [.int .i64 x10.Pc, .slice a13 (List.length x10.Regs) c13, .slice a14 (List.length x10.Mem) c14, .slice a15 (List.length x10.Stack) c15, .int .i64 x10.In, .slice a16 (List.length x10.Out) c16, .int .i64 x10.Code, .int .i64 x10.Steps] rfl hF rfl rfl (by kernel_rfl) rfl rfl rfl fun w16 S14 hs hp hF => ?_
  have ra2 := ra2.stp hM0 hp
  have r2 := r2.stp hM0 hp
  have r3 := r3.stp hM0 hp
  have r4 := r4.stp hM0 hp
  have r5 := r5.stp hM0 hp
  have r1 := r1.stp hM0 hp
  have hM0 := hM0.stp hp
  have hs : Sep [BX b6 28 [.int .i64 x10.Pc, .slice a13 (List.length x10.Regs) c13, .slice a14 (List.length x10.Mem) c14, .slice a15 (List.length x10.Stack) c15, .int .i64 x10.In, .slice a16 (List.length x10.Out) c16, .int .i64 x10.Code, .int .i64 x10.Steps], SL (α := Int) 3 (.slice a13 (List.length x10.Regs) c13) x10.Regs, SL (α := Int) 3 (.slice a14 (List.length x10.Mem) c14) x10.Mem, SL (α := Int) 3 (.slice a15 (List.length x10.Stack) c15) x10.Stack, SL (α := Int) 3 (.slice a16 (List.length x10.Out) c16) x10.Out, SL (α := Int) 3 (.slice a12 (List.length x9) c12) x9, BX b5 28 [.int .i64 x8.Pc, .slice a8 (List.length x8.Regs) c8, .slice a9 (List.length x8.Mem) c9, .slice a10 (List.length x8.Stack) c10, .int .i64 x8.In, .slice a11 (List.length x8.Out) c11, .int .i64 x8.Code, .int .i64 x8.Steps], SL (α := Int) 3 (.slice a8 (List.length x8.Regs) c8) x8.Regs, SL (α := Int) 3 (.slice a9 (List.length x8.Mem) c9) x8.Mem, SL (α := Int) 3 (.slice a10 (List.length x8.Stack) c10) x8.Stack, SL (α := Int) 3 (.slice a11 (List.length x8.Out) c11) x8.Out, BX b4 32 [.int .i64 x7.W, .int .i64 x7.Mem, .int .i64 x7.In, .slice a7 (List.length x7.Code) c7], SL (α := D.Ins) 66 (.slice a7 (List.length x7.Code) c7) x7.Code, SL (α := Int) 3 (.slice (i1 0).1 (List.length x6.Regs) (i1 0).2) x6.Regs, SL (α := Int) 3 (.slice (i1 1).1 (List.length x6.Mem) (i1 1).2) x6.Mem, SL (α := Int) 3 (.slice (i1 2).1 (List.length x6.Stack) (i1 2).2) x6.Stack, SL (α := Int) 3 (.slice (i1 3).1 (List.length x6.Out) (i1 3).2) x6.Out, BX b3 28 [.int .i64 x6.Pc, .slice (i1 0).1 (List.length x6.Regs) (i1 0).2, .slice (i1 1).1 (List.length x6.Mem) (i1 1).2, .slice (i1 2).1 (List.length x6.Stack) (i1 2).2, .int .i64 x6.In, .slice (i1 3).1 (List.length x6.Out) (i1 3).2, .int .i64 x6.Code, .int .i64 x6.Steps], BX b2 39 [.int .i64 p1.Pc, .slice a2 (List.length p1.Regs) c2, .slice a3 (List.length p1.Mem) c3, .slice a4 (List.length p1.Stack) c4, .int .i64 p1.In, .slice a5 (List.length p1.Out) c5, .int .i64 p1.Code, .int .i64 p1.Steps], BX b1 24 [.int .i64 p0.W, .int .i64 p0.Mem, .int .i64 p0.In, .slice a1 (List.length p0.Code) c1]] w16 S14 := hs
  refine from_end rfl (then_normal ?_)
  refine wp_seq ?_
  refine wp_seq (wp_text' ?_)
  refine s_loadBoxS ty28 rfl rfl hF rfl (hs.bx 0 rfl) rfl rfl fun fr hF => ?_
  refine s_loadBoxS ty28 rfl rfl hF rfl (hs.bx 17 rfl) rfl rfl fun fr hF => ?_
  obtain ⟨x11, hx11, h⟩ := bindE h
  refine s_call [.agg #[.int .i64 x10.Pc, .slice a13 (List.length x10.Regs) c13, .slice a14 (List.length x10.Mem) c14, .slice a15 (List.length x10.Stack) c15, .int .i64 x10.In, .slice a16 (List.length x10.Out) c16, .int .i64 x10.Code, .int .i64 x10.Steps], .agg #[.int .i64 x6.Pc, .slice (i1 0).1 (List.length x6.Regs) (i1 0).2, .slice (i1 1).1 (List.length x6.Mem) (i1 1).2, .slice (i1 2).1 (List.length x6.Stack) (i1 2).2, .int .i64 x6.In, .slice (i1 3).1 (List.length x6.Out) (i1 3).2, .int .i64 x6.Code, .int .i64 x6.Steps]] Try.call14 rfl rfl hF rfl (laws_eqState_ok n x10 x6 hx11 (RV.mk_State x10 (RV.any (hs.rv 1 rfl)) (RV.any (hs.rv 2 rfl)) (RV.any (hs.rv 3 rfl)) (RV.any (hs.rv 4 rfl))) (RV.mk_State x6 (RV.any (hs.rv 13 rfl)) (RV.any (hs.rv 14 rfl)) (RV.any (hs.rv 15 rfl)) (RV.any (hs.rv 16 rfl)))) fun v w17 fr hRes hF => ?_
  obtain ⟨rfl, hc⟩ := hRes
  have ra2 := ra2.ext hc
  have r2 := r2.ext hc
  have r3 := r3.ext hc
  have r4 := r4.ext hc
  have r5 := r5.ext hc
  have r1 := r1.ext hc
  have hs := hs.ext hc
  have hM0 := hM0.ext hc
  refine from_pure 1 [(2, .slice a6 (List.length p2) c6), (3, .pointer (some ⟨b1, 0, none⟩)), (4, .pointer (some ⟨b2, 0, none⟩)), (8, .pointer (some ⟨b3, 0, none⟩)), (9, .pointer (some ⟨b4, 0, none⟩)), (10, .pointer (some ⟨b5, 0, none⟩)), (11, .slice a12 (List.length x9) c12), (12, .pointer (some ⟨b6, 0, none⟩)), (50, .bool (!x11))] hF (by kernel_rfl) fun fr hF => ?_
  refine from_end rfl (then_normal ?_)
  refine (wp_if hF (b := (!x11)) rfl (fun hb => ?_) (fun hb => ?_))
  · replace h := iteT hb h
    have hs : Sep [] w17 S14 := Sep.pick [] hs (by decide) rfl
    refine wp_seq (wp_pure [(6, .bool false)] hF (by kernel_rfl) fun fr hF => then_normal ?_)
    obtain rfl := Option.some.inj h
    exact wp_ret (then_ret (ret1 rfl hF rfl ⟨_, rfl, rfl, hM0.chg⟩))
  replace h := iteF hb h
  refine (wp_skip (then_normal ?_))
  refine wp_seq ?_
  obtain ⟨x12, hx12, h⟩ := bindE h
  obtain ⟨x13, hx13, h⟩ := bindE h
  refine wp_seq (region_bm 5 [0, 0, 2, 7, 15] [false, false, false, false, true]
      [.eq (.agg #[.int .i64 x7.W, .int .i64 x7.Mem, .int .i64 x7.In, .slice a7 (List.length x7.Code) c7]), .eq (.agg #[.int .i64 p0.W, .int .i64 p0.Mem, .int .i64 p0.In, .slice a1 (List.length p0.Code) c1]), .is fun v w => RV w (fun k => k < w.heap.size) v (x12 : D.Program), .eq (.bool x13), .eq (.bool (!x13))]
      [(2, .slice a6 (List.length p2) c6), (3, .pointer (some ⟨b1, 0, none⟩)), (4, .pointer (some ⟨b2, 0, none⟩)), (8, .pointer (some ⟨b3, 0, none⟩)), (9, .pointer (some ⟨b4, 0, none⟩)), (10, .pointer (some ⟨b5, 0, none⟩)), (11, .slice a12 (List.length x9) c12), (12, .pointer (some ⟨b6, 0, none⟩)), (55, .bool (!x13))] mix hF (by kernel_rfl) (by kernel_rfl) (by kernel_rfl) (by kernel_rfl) ⟨Pd.monoO_eq, Pd.monoO_eq, (Pd.monoO_is mono_rvb), Pd.monoO_eq, trivial⟩ (fun ow hG => ⟨np_to ow (np_loadBoxS hG hF ty32 rfl rfl (hs.bx 11 rfl) rfl rfl rfl rfl), np_to ow (np_loadBoxS hG hF ty24 rfl rfl (hs.bx 19 rfl) rfl rfl rfl rfl), np_to ow (np_callI [.inl (.agg #[.int .i64 p0.W, .int .i64 p0.Mem, .int .i64 p0.In, .slice a1 (List.length p0.Code) c1])] hG hF Try.call12 rfl rfl (by kernel_rfl) (fun w vs hC hg ha => by obtain ⟨_, rfl, rfl⟩ := ha; exact (laws_toProgram_ok n p0 hx12 ((RV.mk_Program p0 (r1)).ext hC)).mono fun e w' ⟨v, he, a0, c0, hv, _, hp, ho⟩ => ⟨_, he, hp.chg, by rw [hv]; exact (show RV w' (fun k => k < w'.heap.size) _ (x12 : D.Program) from RV.mk_Program x12 ((ho.rv 0 rfl).sub fun k hk _ => hk))⟩)), np_to ow (np_callI [.inl (.agg #[.int .i64 x7.W, .int .i64 x7.Mem, .int .i64 x7.In, .slice a7 (List.length x7.Code) c7]), .inr 2] hG hF Try.call15 rfl rfl (by kernel_rfl) (fun w vs hC hg ha => by obtain ⟨_, rfl, vq1, _, rfl, hq1, rfl⟩ := ha; exact (laws_eqProgram_ok n x7 x12 hx13 ((RV.mk_Program x7 (RV.any (hs.rv 12 rfl))).ext hC) (show RV w (fun k => k < w.heap.size) vq1 x12 from hq1)).mono fun e w' ⟨v, he, hv, hc⟩ => ⟨v, he, hc, hv⟩)), trivial⟩) (by kernel_rfl) fun ow fr w18 hF hE hc => ?_)
  have ra2 := ra2.ext hc
  have r1 := r1.ext hc
  have r2 := r2.ext hc
  have r3 := r3.ext hc
  have r4 := r4.ext hc
  have r5 := r5.ext hc
  have hs := hs.ext hc
  have hM0 := hM0.ext hc
  refine from_end rfl (then_normal ?_)
  refine (wp_if hF (b := (!x13)) rfl (fun hb => ?_) (fun hb => ?_))
  · replace h := iteT hb h
    have hs : Sep [] w18 S14 := Sep.pick [] hs (by decide) rfl
    refine wp_seq (wp_pure [(6, .bool false)] hF (by kernel_rfl) fun fr hF => then_normal ?_)
    obtain rfl := Option.some.inj h
    exact wp_ret (then_ret (ret1 rfl hF rfl ⟨_, rfl, rfl, hM0.chg⟩))
  replace h := iteF hb h
  refine (wp_skip (then_normal ?_))
  refine wp_seq ?_
  obtain ⟨x14, hx14, h⟩ := bindE h
  obtain ⟨x15, hx15, h⟩ := bindE h
  refine wp_seq (region_bm 5 [0, 0, 2, 7, 15] [false, false, false, false, true]
      [.eq (.agg #[.int .i64 x8.Pc, .slice a8 (List.length x8.Regs) c8, .slice a9 (List.length x8.Mem) c9, .slice a10 (List.length x8.Stack) c10, .int .i64 x8.In, .slice a11 (List.length x8.Out) c11, .int .i64 x8.Code, .int .i64 x8.Steps]), .eq (.agg #[.int .i64 p1.Pc, .slice a2 (List.length p1.Regs) c2, .slice a3 (List.length p1.Mem) c3, .slice a4 (List.length p1.Stack) c4, .int .i64 p1.In, .slice a5 (List.length p1.Out) c5, .int .i64 p1.Code, .int .i64 p1.Steps]), .is fun v w => RV w (fun k => k < w.heap.size) v (x14 : D.State), .eq (.bool x15), .eq (.bool (!x15))]
      [(2, .slice a6 (List.length p2) c6), (3, .pointer (some ⟨b1, 0, none⟩)), (4, .pointer (some ⟨b2, 0, none⟩)), (8, .pointer (some ⟨b3, 0, none⟩)), (9, .pointer (some ⟨b4, 0, none⟩)), (10, .pointer (some ⟨b5, 0, none⟩)), (11, .slice a12 (List.length x9) c12), (12, .pointer (some ⟨b6, 0, none⟩)), (60, .bool (!x15))] mix hF (by kernel_rfl) (by kernel_rfl) (by kernel_rfl) (by kernel_rfl) ⟨Pd.monoO_eq, Pd.monoO_eq, (Pd.monoO_is mono_rvb), Pd.monoO_eq, trivial⟩ (fun ow hG => ⟨np_to ow (np_loadBoxS hG hF ty28 rfl rfl (hs.bx 6 rfl) rfl rfl rfl rfl), np_to ow (np_loadBoxS hG hF ty39 rfl rfl (hs.bx 18 rfl) rfl rfl rfl rfl), np_to ow (np_callI [.inl (.agg #[.int .i64 p1.Pc, .slice a2 (List.length p1.Regs) c2, .slice a3 (List.length p1.Mem) c3, .slice a4 (List.length p1.Stack) c4, .int .i64 p1.In, .slice a5 (List.length p1.Out) c5, .int .i64 p1.Code, .int .i64 p1.Steps])] hG hF Try.call21 rfl rfl (by kernel_rfl) (fun w vs hC hg ha => by obtain ⟨_, rfl, rfl⟩ := ha; exact (laws_toState_ok n p1 hx14 ((RV.mk_State p1 (r2) (r3) (r4) (r5)).ext hC)).mono fun e w' ⟨v, he, a0, c0, a2, c2, a4, c4, a6, c6, hv, _, hp, ho⟩ => ⟨_, he, hp.chg, by rw [hv]; exact (show RV w' (fun k => k < w'.heap.size) _ (x14 : D.State) from RV.mk_State x14 ((ho.rv 0 rfl).sub fun k hk _ => hk) ((ho.rv 1 rfl).sub fun k hk _ => hk) ((ho.rv 2 rfl).sub fun k hk _ => hk) ((ho.rv 3 rfl).sub fun k hk _ => hk))⟩)), np_to ow (np_callI [.inl (.agg #[.int .i64 x8.Pc, .slice a8 (List.length x8.Regs) c8, .slice a9 (List.length x8.Mem) c9, .slice a10 (List.length x8.Stack) c10, .int .i64 x8.In, .slice a11 (List.length x8.Out) c11, .int .i64 x8.Code, .int .i64 x8.Steps]), .inr 2] hG hF Try.call14 rfl rfl (by kernel_rfl) (fun w vs hC hg ha => by obtain ⟨_, rfl, vq1, _, rfl, hq1, rfl⟩ := ha; exact (laws_eqState_ok n x8 x14 hx15 ((RV.mk_State x8 (RV.any (hs.rv 7 rfl)) (RV.any (hs.rv 8 rfl)) (RV.any (hs.rv 9 rfl)) (RV.any (hs.rv 10 rfl))).ext hC) (show RV w (fun k => k < w.heap.size) vq1 x14 from hq1)).mono fun e w' ⟨v, he, hv, hc⟩ => ⟨v, he, hc, hv⟩)), trivial⟩) (by kernel_rfl) fun ow fr w19 hF hE hc => ?_)
  have ra2 := ra2.ext hc
  have r2 := r2.ext hc
  have r3 := r3.ext hc
  have r4 := r4.ext hc
  have r5 := r5.ext hc
  have r1 := r1.ext hc
  have hs := hs.ext hc
  have hM0 := hM0.ext hc
  refine from_end rfl (then_normal ?_)
  refine (wp_if hF (b := (!x15)) rfl (fun hb => ?_) (fun hb => ?_))
  · replace h := iteT hb h
    have hs : Sep [] w19 S14 := Sep.pick [] hs (by decide) rfl
    refine wp_seq (wp_pure [(6, .bool false)] hF (by kernel_rfl) fun fr hF => then_normal ?_)
    obtain rfl := Option.some.inj h
    exact wp_ret (then_ret (ret1 rfl hF rfl ⟨_, rfl, rfl, hM0.chg⟩))
  replace h := iteF hb h
  refine (wp_skip (then_normal ?_))
  refine wp_seq ?_
  refine wp_seq (wp_text' ?_)
  refine from_pure 2 [(2, .slice a6 (List.length p2) c6), (3, .pointer (some ⟨b1, 0, none⟩)), (4, .pointer (some ⟨b2, 0, none⟩)), (8, .pointer (some ⟨b3, 0, none⟩)), (9, .pointer (some ⟨b4, 0, none⟩)), (10, .pointer (some ⟨b5, 0, none⟩)), (11, .slice a12 (List.length x9) c12), (12, .pointer (some ⟨b6, 0, none⟩)), (61, .slice a12 (List.length x9) c12), (62, .slice a6 (List.length p2) c6)] hF (by kernel_rfl) fun fr hF => ?_
  obtain ⟨x16, hx16, h⟩ := bindE h
  refine s_call [.slice a6 (List.length p2) c6] Try.call22 rfl rfl hF rfl (laws_toIntS_ok n p2 hx16 (ra2)) fun v w20 fr hRes hF => ?_
  obtain ⟨a17, c17, rfl, _, hp, hs2⟩ := hRes
  obtain ⟨S15, hp, hs⟩ := hs.got hM0 hp hs2
  have ra2 := ra2.stp hM0 hp
  have r2 := r2.stp hM0 hp
  have r3 := r3.stp hM0 hp
  have r4 := r4.stp hM0 hp
  have r5 := r5.stp hM0 hp
  have r1 := r1.stp hM0 hp
  have hM0 := hM0.stp hp
  have hs : Sep [SL (α := Int) 3 (.slice a17 (List.length x16) c17) x16, BX b6 28 [.int .i64 x10.Pc, .slice a13 (List.length x10.Regs) c13, .slice a14 (List.length x10.Mem) c14, .slice a15 (List.length x10.Stack) c15, .int .i64 x10.In, .slice a16 (List.length x10.Out) c16, .int .i64 x10.Code, .int .i64 x10.Steps], SL (α := Int) 3 (.slice a13 (List.length x10.Regs) c13) x10.Regs, SL (α := Int) 3 (.slice a14 (List.length x10.Mem) c14) x10.Mem, SL (α := Int) 3 (.slice a15 (List.length x10.Stack) c15) x10.Stack, SL (α := Int) 3 (.slice a16 (List.length x10.Out) c16) x10.Out, SL (α := Int) 3 (.slice a12 (List.length x9) c12) x9, BX b5 28 [.int .i64 x8.Pc, .slice a8 (List.length x8.Regs) c8, .slice a9 (List.length x8.Mem) c9, .slice a10 (List.length x8.Stack) c10, .int .i64 x8.In, .slice a11 (List.length x8.Out) c11, .int .i64 x8.Code, .int .i64 x8.Steps], SL (α := Int) 3 (.slice a8 (List.length x8.Regs) c8) x8.Regs, SL (α := Int) 3 (.slice a9 (List.length x8.Mem) c9) x8.Mem, SL (α := Int) 3 (.slice a10 (List.length x8.Stack) c10) x8.Stack, SL (α := Int) 3 (.slice a11 (List.length x8.Out) c11) x8.Out, BX b4 32 [.int .i64 x7.W, .int .i64 x7.Mem, .int .i64 x7.In, .slice a7 (List.length x7.Code) c7], SL (α := D.Ins) 66 (.slice a7 (List.length x7.Code) c7) x7.Code, SL (α := Int) 3 (.slice (i1 0).1 (List.length x6.Regs) (i1 0).2) x6.Regs, SL (α := Int) 3 (.slice (i1 1).1 (List.length x6.Mem) (i1 1).2) x6.Mem, SL (α := Int) 3 (.slice (i1 2).1 (List.length x6.Stack) (i1 2).2) x6.Stack, SL (α := Int) 3 (.slice (i1 3).1 (List.length x6.Out) (i1 3).2) x6.Out, BX b3 28 [.int .i64 x6.Pc, .slice (i1 0).1 (List.length x6.Regs) (i1 0).2, .slice (i1 1).1 (List.length x6.Mem) (i1 1).2, .slice (i1 2).1 (List.length x6.Stack) (i1 2).2, .int .i64 x6.In, .slice (i1 3).1 (List.length x6.Out) (i1 3).2, .int .i64 x6.Code, .int .i64 x6.Steps], BX b2 39 [.int .i64 p1.Pc, .slice a2 (List.length p1.Regs) c2, .slice a3 (List.length p1.Mem) c3, .slice a4 (List.length p1.Stack) c4, .int .i64 p1.In, .slice a5 (List.length p1.Out) c5, .int .i64 p1.Code, .int .i64 p1.Steps], BX b1 24 [.int .i64 p0.W, .int .i64 p0.Mem, .int .i64 p0.In, .slice a1 (List.length p0.Code) c1]] w20 S15 := hs
  obtain ⟨x17, hx17, h⟩ := bindE h
  refine s_call [.slice a12 (List.length x9) c12, .slice a17 (List.length x16) c17] Try.call24 rfl rfl hF rfl (laws_eqIntS_ok n x9 x16 hx17 (hs.rv 6 rfl) (hs.rv 0 rfl)) fun v w21 fr hRes hF => ?_
  obtain ⟨rfl, hc⟩ := hRes
  have ra2 := ra2.ext hc
  have r2 := r2.ext hc
  have r3 := r3.ext hc
  have r4 := r4.ext hc
  have r5 := r5.ext hc
  have r1 := r1.ext hc
  have hs := hs.ext hc
  have hM0 := hM0.ext hc
  have hs : Sep [BX b6 28 [.int .i64 x10.Pc, .slice a13 (List.length x10.Regs) c13, .slice a14 (List.length x10.Mem) c14, .slice a15 (List.length x10.Stack) c15, .int .i64 x10.In, .slice a16 (List.length x10.Out) c16, .int .i64 x10.Code, .int .i64 x10.Steps], SL (α := Int) 3 (.slice a13 (List.length x10.Regs) c13) x10.Regs, SL (α := Int) 3 (.slice a14 (List.length x10.Mem) c14) x10.Mem, SL (α := Int) 3 (.slice a15 (List.length x10.Stack) c15) x10.Stack, SL (α := Int) 3 (.slice a16 (List.length x10.Out) c16) x10.Out, SL (α := Int) 3 (.slice a12 (List.length x9) c12) x9, BX b5 28 [.int .i64 x8.Pc, .slice a8 (List.length x8.Regs) c8, .slice a9 (List.length x8.Mem) c9, .slice a10 (List.length x8.Stack) c10, .int .i64 x8.In, .slice a11 (List.length x8.Out) c11, .int .i64 x8.Code, .int .i64 x8.Steps], SL (α := Int) 3 (.slice a8 (List.length x8.Regs) c8) x8.Regs, SL (α := Int) 3 (.slice a9 (List.length x8.Mem) c9) x8.Mem, SL (α := Int) 3 (.slice a10 (List.length x8.Stack) c10) x8.Stack, SL (α := Int) 3 (.slice a11 (List.length x8.Out) c11) x8.Out, BX b4 32 [.int .i64 x7.W, .int .i64 x7.Mem, .int .i64 x7.In, .slice a7 (List.length x7.Code) c7], SL (α := D.Ins) 66 (.slice a7 (List.length x7.Code) c7) x7.Code, SL (α := Int) 3 (.slice (i1 0).1 (List.length x6.Regs) (i1 0).2) x6.Regs, SL (α := Int) 3 (.slice (i1 1).1 (List.length x6.Mem) (i1 1).2) x6.Mem, SL (α := Int) 3 (.slice (i1 2).1 (List.length x6.Stack) (i1 2).2) x6.Stack, SL (α := Int) 3 (.slice (i1 3).1 (List.length x6.Out) (i1 3).2) x6.Out, BX b3 28 [.int .i64 x6.Pc, .slice (i1 0).1 (List.length x6.Regs) (i1 0).2, .slice (i1 1).1 (List.length x6.Mem) (i1 1).2, .slice (i1 2).1 (List.length x6.Stack) (i1 2).2, .int .i64 x6.In, .slice (i1 3).1 (List.length x6.Out) (i1 3).2, .int .i64 x6.Code, .int .i64 x6.Steps], BX b2 39 [.int .i64 p1.Pc, .slice a2 (List.length p1.Regs) c2, .slice a3 (List.length p1.Mem) c3, .slice a4 (List.length p1.Stack) c4, .int .i64 p1.In, .slice a5 (List.length p1.Out) c5, .int .i64 p1.Code, .int .i64 p1.Steps], BX b1 24 [.int .i64 p0.W, .int .i64 p0.Mem, .int .i64 p0.In, .slice a1 (List.length p0.Code) c1]] w21 S15 := Sep.pick [1, 2, 3, 4, 5, 6, 7, 8, 9, 10, 11, 12, 13, 14, 15, 16, 17, 18, 19, 20] hs (by decide) rfl
  refine from_pure 1 [(2, .slice a6 (List.length p2) c6), (3, .pointer (some ⟨b1, 0, none⟩)), (4, .pointer (some ⟨b2, 0, none⟩)), (8, .pointer (some ⟨b3, 0, none⟩)), (9, .pointer (some ⟨b4, 0, none⟩)), (10, .pointer (some ⟨b5, 0, none⟩)), (11, .slice a12 (List.length x9) c12), (12, .pointer (some ⟨b6, 0, none⟩)), (65, .bool (!x17))] hF (by kernel_rfl) fun fr hF => ?_
  refine from_end rfl (then_normal ?_)
  refine (wp_if hF (b := (!x17)) rfl (fun hb => ?_) (fun hb => ?_))
  · replace h := iteT hb h
    have hs : Sep [] w21 S15 := Sep.pick [] hs (by decide) rfl
    refine wp_seq (wp_pure [(6, .bool false)] hF (by kernel_rfl) fun fr hF => then_normal ?_)
    obtain rfl := Option.some.inj h
    exact wp_ret (then_ret (ret1 rfl hF rfl ⟨_, rfl, rfl, hM0.chg⟩))
  replace h := iteF hb h
  refine (wp_skip (then_normal ?_))
  refine wp_seq (wp_pure [(2, .slice a6 (List.length p2) c6), (3, .pointer (some ⟨b1, 0, none⟩)), (4, .pointer (some ⟨b2, 0, none⟩)), (8, .pointer (some ⟨b3, 0, none⟩)), (9, .pointer (some ⟨b4, 0, none⟩)), (10, .pointer (some ⟨b5, 0, none⟩)), (11, .slice a12 (List.length x9) c12), (12, .pointer (some ⟨b6, 0, none⟩)), (13, .int .i64 1)] hF (by kernel_rfl) fun fr hF => then_normal ?_)
  refine wp_seq (wp_text' ?_)
  refine s_loadBoxS ty32 rfl rfl hF rfl (hs.bx 11 rfl) rfl rfl fun fr hF => ?_
  have hs : Sep [BX b6 28 [.int .i64 x10.Pc, .slice a13 (List.length x10.Regs) c13, .slice a14 (List.length x10.Mem) c14, .slice a15 (List.length x10.Stack) c15, .int .i64 x10.In, .slice a16 (List.length x10.Out) c16, .int .i64 x10.Code, .int .i64 x10.Steps], SL (α := Int) 3 (.slice a13 (List.length x10.Regs) c13) x10.Regs, SL (α := Int) 3 (.slice a14 (List.length x10.Mem) c14) x10.Mem, SL (α := Int) 3 (.slice a15 (List.length x10.Stack) c15) x10.Stack, SL (α := Int) 3 (.slice a16 (List.length x10.Out) c16) x10.Out, SL (α := Int) 3 (.slice a12 (List.length x9) c12) x9, BX b5 28 [.int .i64 x8.Pc, .slice a8 (List.length x8.Regs) c8, .slice a9 (List.length x8.Mem) c9, .slice a10 (List.length x8.Stack) c10, .int .i64 x8.In, .slice a11 (List.length x8.Out) c11, .int .i64 x8.Code, .int .i64 x8.Steps], SL (α := Int) 3 (.slice a8 (List.length x8.Regs) c8) x8.Regs, SL (α := Int) 3 (.slice a9 (List.length x8.Mem) c9) x8.Mem, SL (α := Int) 3 (.slice a10 (List.length x8.Stack) c10) x8.Stack, SL (α := Int) 3 (.slice a11 (List.length x8.Out) c11) x8.Out, SL (α := D.Ins) 66 (.slice a7 (List.length x7.Code) c7) x7.Code, SL (α := Int) 3 (.slice (i1 0).1 (List.length x6.Regs) (i1 0).2) x6.Regs, SL (α := Int) 3 (.slice (i1 1).1 (List.length x6.Mem) (i1 1).2) x6.Mem, SL (α := Int) 3 (.slice (i1 2).1 (List.length x6.Stack) (i1 2).2) x6.Stack, SL (α := Int) 3 (.slice (i1 3).1 (List.length x6.Out) (i1 3).2) x6.Out, BX b3 28 [.int .i64 x6.Pc, .slice (i1 0).1 (List.length x6.Regs) (i1 0).2, .slice (i1 1).1 (List.length x6.Mem) (i1 1).2, .slice (i1 2).1 (List.length x6.Stack) (i1 2).2, .int .i64 x6.In, .slice (i1 3).1 (List.length x6.Out) (i1 3).2, .int .i64 x6.Code, .int .i64 x6.Steps], BX b2 39 [.int .i64 p1.Pc, .slice a2 (List.length p1.Regs) c2, .slice a3 (List.length p1.Mem) c3, .slice a4 (List.length p1.Stack) c4, .int .i64 p1.In, .slice a5 (List.length p1.Out) c5, .int .i64 p1.Code, .int .i64 p1.Steps], BX b1 24 [.int .i64 p0.W, .int .i64 p0.Mem, .int .i64 p0.In, .slice a1 (List.length p0.Code) c1]] w21 S15 := Sep.pick [0, 1, 2, 3, 4, 5, 6, 7, 8, 9, 10, 12, 13, 14, 15, 16, 17, 18, 19] hs (by decide) rfl
  refine from_pure 1 [(2, .slice a6 (List.length p2) c6), (3, .pointer (some ⟨b1, 0, none⟩)), (4, .pointer (some ⟨b2, 0, none⟩)), (8, .pointer (some ⟨b3, 0, none⟩)), (10, .pointer (some ⟨b5, 0, none⟩)), (11, .slice a12 (List.length x9) c12), (12, .pointer (some ⟨b6, 0, none⟩)), (66, .agg #[.int .i64 x7.W, .int .i64 x7.Mem, .int .i64 x7.In, .slice a7 (List.length x7.Code) c7]), (67, .int .i64 1)] hF (by kernel_rfl) fun fr hF => ?_
  obtain ⟨x18, hx18, h⟩ := bindE h
  have hs : Sep [SL (α := D.Ins) 66 (.slice a7 (List.length x7.Code) c7) x7.Code, BX b6 28 [.int .i64 x10.Pc, .slice a13 (List.length x10.Regs) c13, .slice a14 (List.length x10.Mem) c14, .slice a15 (List.length x10.Stack) c15, .int .i64 x10.In, .slice a16 (List.length x10.Out) c16, .int .i64 x10.Code, .int .i64 x10.Steps], SL (α := Int) 3 (.slice a13 (List.length x10.Regs) c13) x10.Regs, SL (α := Int) 3 (.slice a14 (List.length x10.Mem) c14) x10.Mem, SL (α := Int) 3 (.slice a15 (List.length x10.Stack) c15) x10.Stack, SL (α := Int) 3 (.slice a16 (List.length x10.Out) c16) x10.Out, SL (α := Int) 3 (.slice a12 (List.length x9) c12) x9, BX b5 28 [.int .i64 x8.Pc, .slice a8 (List.length x8.Regs) c8, .slice a9 (List.length x8.Mem) c9, .slice a10 (List.length x8.Stack) c10, .int .i64 x8.In, .slice a11 (List.length x8.Out) c11, .int .i64 x8.Code, .int .i64 x8.Steps], SL (α := Int) 3 (.slice a8 (List.length x8.Regs) c8) x8.Regs, SL (α := Int) 3 (.slice a9 (List.length x8.Mem) c9) x8.Mem, SL (α := Int) 3 (.slice a10 (List.length x8.Stack) c10) x8.Stack, SL (α := Int) 3 (.slice a11 (List.length x8.Out) c11) x8.Out, SL (α := Int) 3 (.slice (i1 0).1 (List.length x6.Regs) (i1 0).2) x6.Regs, SL (α := Int) 3 (.slice (i1 1).1 (List.length x6.Mem) (i1 1).2) x6.Mem, SL (α := Int) 3 (.slice (i1 2).1 (List.length x6.Stack) (i1 2).2) x6.Stack, SL (α := Int) 3 (.slice (i1 3).1 (List.length x6.Out) (i1 3).2) x6.Out, BX b3 28 [.int .i64 x6.Pc, .slice (i1 0).1 (List.length x6.Regs) (i1 0).2, .slice (i1 1).1 (List.length x6.Mem) (i1 1).2, .slice (i1 2).1 (List.length x6.Stack) (i1 2).2, .int .i64 x6.In, .slice (i1 3).1 (List.length x6.Out) (i1 3).2, .int .i64 x6.Code, .int .i64 x6.Steps], BX b2 39 [.int .i64 p1.Pc, .slice a2 (List.length p1.Regs) c2, .slice a3 (List.length p1.Mem) c3, .slice a4 (List.length p1.Stack) c4, .int .i64 p1.In, .slice a5 (List.length p1.Out) c5, .int .i64 p1.Code, .int .i64 p1.Steps], BX b1 24 [.int .i64 p0.W, .int .i64 p0.Mem, .int .i64 p0.In, .slice a1 (List.length p0.Code) c1]] w21 S15 := Sep.pick [11, 0, 1, 2, 3, 4, 5, 6, 7, 8, 9, 10, 12, 13, 14, 15, 16, 17, 18] hs (by decide) rfl
  obtain ⟨A1, R1, hsA, hsR, hdA, hbA, hup⟩ := Sep.call (L1 := [SL (α := D.Ins) 66 (.slice a7 (List.length x7.Code) c7) x7.Code]) (L2 := [BX b6 28 [.int .i64 x10.Pc, .slice a13 (List.length x10.Regs) c13, .slice a14 (List.length x10.Mem) c14, .slice a15 (List.length x10.Stack) c15, .int .i64 x10.In, .slice a16 (List.length x10.Out) c16, .int .i64 x10.Code, .int .i64 x10.Steps], SL (α := Int) 3 (.slice a13 (List.length x10.Regs) c13) x10.Regs, SL (α := Int) 3 (.slice a14 (List.length x10.Mem) c14) x10.Mem, SL (α := Int) 3 (.slice a15 (List.length x10.Stack) c15) x10.Stack, SL (α := Int) 3 (.slice a16 (List.length x10.Out) c16) x10.Out, SL (α := Int) 3 (.slice a12 (List.length x9) c12) x9, BX b5 28 [.int .i64 x8.Pc, .slice a8 (List.length x8.Regs) c8, .slice a9 (List.length x8.Mem) c9, .slice a10 (List.length x8.Stack) c10, .int .i64 x8.In, .slice a11 (List.length x8.Out) c11, .int .i64 x8.Code, .int .i64 x8.Steps], SL (α := Int) 3 (.slice a8 (List.length x8.Regs) c8) x8.Regs, SL (α := Int) 3 (.slice a9 (List.length x8.Mem) c9) x8.Mem, SL (α := Int) 3 (.slice a10 (List.length x8.Stack) c10) x8.Stack, SL (α := Int) 3 (.slice a11 (List.length x8.Out) c11) x8.Out, SL (α := Int) 3 (.slice (i1 0).1 (List.length x6.Regs) (i1 0).2) x6.Regs, SL (α := Int) 3 (.slice (i1 1).1 (List.length x6.Mem) (i1 1).2) x6.Mem, SL (α := Int) 3 (.slice (i1 2).1 (List.length x6.Stack) (i1 2).2) x6.Stack, SL (α := Int) 3 (.slice (i1 3).1 (List.length x6.Out) (i1 3).2) x6.Out, BX b3 28 [.int .i64 x6.Pc, .slice (i1 0).1 (List.length x6.Regs) (i1 0).2, .slice (i1 1).1 (List.length x6.Mem) (i1 1).2, .slice (i1 2).1 (List.length x6.Stack) (i1 2).2, .int .i64 x6.In, .slice (i1 3).1 (List.length x6.Out) (i1 3).2, .int .i64 x6.Code, .int .i64 x6.Steps], BX b2 39 [.int .i64 p1.Pc, .slice a2 (List.length p1.Regs) c2, .slice a3 (List.length p1.Mem) c3, .slice a4 (List.length p1.Stack) c4, .int .i64 p1.In, .slice a5 (List.length p1.Out) c5, .int .i64 p1.Code, .int .i64 p1.Steps], BX b1 24 [.int .i64 p0.W, .int .i64 p0.Mem, .int .i64 p0.In, .slice a1 (List.length p0.Code) c1]]) hs hM0
  refine s_call [.agg #[.int .i64 x7.W, .int .i64 x7.Mem, .int .i64 x7.In, .slice a7 (List.length x7.Code) c7], .int .i64 1] Try.call16 rfl rfl hF rfl (laws_markProgram_ok n x7 1 hx18 hsA hbA hdA) fun v w22 fr hRes hF => ?_
  obtain ⟨rfl, _, hp, hs⟩ := hRes
  obtain ⟨S16, hp, hs⟩ := hup hp hs
  have ra2 := ra2.stp hM0 hp
  have r2 := r2.stp hM0 hp
  have r3 := r3.stp hM0 hp
  have r4 := r4.stp hM0 hp
  have r5 := r5.stp hM0 hp
  have r1 := r1.stp hM0 hp
  have hM0 := hM0.stp hp
  have hs : Sep [SL (α := D.Ins) 66 (.slice a7 (List.length x7.Code) c7) x18.2.Code, BX b6 28 [.int .i64 x10.Pc, .slice a13 (List.length x10.Regs) c13, .slice a14 (List.length x10.Mem) c14, .slice a15 (List.length x10.Stack) c15, .int .i64 x10.In, .slice a16 (List.length x10.Out) c16, .int .i64 x10.Code, .int .i64 x10.Steps], SL (α := Int) 3 (.slice a13 (List.length x10.Regs) c13) x10.Regs, SL (α := Int) 3 (.slice a14 (List.length x10.Mem) c14) x10.Mem, SL (α := Int) 3 (.slice a15 (List.length x10.Stack) c15) x10.Stack, SL (α := Int) 3 (.slice a16 (List.length x10.Out) c16) x10.Out, SL (α := Int) 3 (.slice a12 (List.length x9) c12) x9, BX b5 28 [.int .i64 x8.Pc, .slice a8 (List.length x8.Regs) c8, .slice a9 (List.length x8.Mem) c9, .slice a10 (List.length x8.Stack) c10, .int .i64 x8.In, .slice a11 (List.length x8.Out) c11, .int .i64 x8.Code, .int .i64 x8.Steps], SL (α := Int) 3 (.slice a8 (List.length x8.Regs) c8) x8.Regs, SL (α := Int) 3 (.slice a9 (List.length x8.Mem) c9) x8.Mem, SL (α := Int) 3 (.slice a10 (List.length x8.Stack) c10) x8.Stack, SL (α := Int) 3 (.slice a11 (List.length x8.Out) c11) x8.Out, SL (α := Int) 3 (.slice (i1 0).1 (List.length x6.Regs) (i1 0).2) x6.Regs, SL (α := Int) 3 (.slice (i1 1).1 (List.length x6.Mem) (i1 1).2) x6.Mem, SL (α := Int) 3 (.slice (i1 2).1 (List.length x6.Stack) (i1 2).2) x6.Stack, SL (α := Int) 3 (.slice (i1 3).1 (List.length x6.Out) (i1 3).2) x6.Out, BX b3 28 [.int .i64 x6.Pc, .slice (i1 0).1 (List.length x6.Regs) (i1 0).2, .slice (i1 1).1 (List.length x6.Mem) (i1 1).2, .slice (i1 2).1 (List.length x6.Stack) (i1 2).2, .int .i64 x6.In, .slice (i1 3).1 (List.length x6.Out) (i1 3).2, .int .i64 x6.Code, .int .i64 x6.Steps], BX b2 39 [.int .i64 p1.Pc, .slice a2 (List.length p1.Regs) c2, .slice a3 (List.length p1.Mem) c3, .slice a4 (List.length p1.Stack) c4, .int .i64 p1.In, .slice a5 (List.length p1.Out) c5, .int .i64 p1.Code, .int .i64 p1.Steps], BX b1 24 [.int .i64 p0.W, .int .i64 p0.Mem, .int .i64 p0.In, .slice a1 (List.length p0.Code) c1]] w22 S16 := hs
  have hs : Sep [BX b6 28 [.int .i64 x10.Pc, .slice a13 (List.length x10.Regs) c13, .slice a14 (List.length x10.Mem) c14, .slice a15 (List.length x10.Stack) c15, .int .i64 x10.In, .slice a16 (List.length x10.Out) c16, .int .i64 x10.Code, .int .i64 x10.Steps], SL (α := Int) 3 (.slice a13 (List.length x10.Regs) c13) x10.Regs, SL (α := Int) 3 (.slice a14 (List.length x10.Mem) c14) x10.Mem, SL (α := Int) 3 (.slice a15 (List.length x10.Stack) c15) x10.Stack, SL (α := Int) 3 (.slice a16 (List.length x10.Out) c16) x10.Out, SL (α := Int) 3 (.slice a12 (List.length x9) c12) x9, BX b5 28 [.int .i64 x8.Pc, .slice a8 (List.length x8.Regs) c8, .slice a9 (List.length x8.Mem) c9, .slice a10 (List.length x8.Stack) c10, .int .i64 x8.In, .slice a11 (List.length x8.Out) c11, .int .i64 x8.Code, .int .i64 x8.Steps], SL (α := Int) 3 (.slice a8 (List.length x8.Regs) c8) x8.Regs, SL (α := Int) 3 (.slice a9 (List.length x8.Mem) c9) x8.Mem, SL (α := Int) 3 (.slice a10 (List.length x8.Stack) c10) x8.Stack, SL (α := Int) 3 (.slice a11 (List.length x8.Out) c11) x8.Out, SL (α := Int) 3 (.slice (i1 0).1 (List.length x6.Regs) (i1 0).2) x6.Regs, SL (α := Int) 3 (.slice (i1 1).1 (List.length x6.Mem) (i1 1).2) x6.Mem, SL (α := Int) 3 (.slice (i1 2).1 (List.length x6.Stack) (i1 2).2) x6.Stack, SL (α := Int) 3 (.slice (i1 3).1 (List.length x6.Out) (i1 3).2) x6.Out, BX b3 28 [.int .i64 x6.Pc, .slice (i1 0).1 (List.length x6.Regs) (i1 0).2, .slice (i1 1).1 (List.length x6.Mem) (i1 1).2, .slice (i1 2).1 (List.length x6.Stack) (i1 2).2, .int .i64 x6.In, .slice (i1 3).1 (List.length x6.Out) (i1 3).2, .int .i64 x6.Code, .int .i64 x6.Steps], BX b2 39 [.int .i64 p1.Pc, .slice a2 (List.length p1.Regs) c2, .slice a3 (List.length p1.Mem) c3, .slice a4 (List.length p1.Stack) c4, .int .i64 p1.In, .slice a5 (List.length p1.Out) c5, .int .i64 p1.Code, .int .i64 p1.Steps], BX b1 24 [.int .i64 p0.W, .int .i64 p0.Mem, .int .i64 p0.In, .slice a1 (List.length p0.Code) c1]] w22 S16 := Sep.pick [1, 2, 3, 4, 5, 6, 7, 8, 9, 10, 11, 12, 13, 14, 15, 16, 17, 18] hs (by decide) rfl
  refine from_pure 1 [(2, .slice a6 (List.length p2) c6), (3, .pointer (some ⟨b1, 0, none⟩)), (4, .pointer (some ⟨b2, 0, none⟩)), (8, .pointer (some ⟨b3, 0, none⟩)), (10, .pointer (some ⟨b5, 0, none⟩)), (11, .slice a12 (List.length x9) c12), (12, .pointer (some ⟨b6, 0, none⟩)), (13, .int .i64 x18.1)] hF (by kernel_rfl) fun fr hF => ?_
  refine from_end rfl (then_normal ?_)
  refine wp_seq (wp_text' ?_)
  refine s_loadBoxS ty28 rfl rfl hF rfl (hs.bx 6 rfl) rfl rfl fun fr hF => ?_
  have hs : Sep [BX b6 28 [.int .i64 x10.Pc, .slice a13 (List.length x10.Regs) c13, .slice a14 (List.length x10.Mem) c14, .slice a15 (List.length x10.Stack) c15, .int .i64 x10.In, .slice a16 (List.length x10.Out) c16, .int .i64 x10.Code, .int .i64 x10.Steps], SL (α := Int) 3 (.slice a13 (List.length x10.Regs) c13) x10.Regs, SL (α := Int) 3 (.slice a14 (List.length x10.Mem) c14) x10.Mem, SL (α := Int) 3 (.slice a15 (List.length x10.Stack) c15) x10.Stack, SL (α := Int) 3 (.slice a16 (List.length x10.Out) c16) x10.Out, SL (α := Int) 3 (.slice a12 (List.length x9) c12) x9, SL (α := Int) 3 (.slice a8 (List.length x8.Regs) c8) x8.Regs, SL (α := Int) 3 (.slice a9 (List.length x8.Mem) c9) x8.Mem, SL (α := Int) 3 (.slice a10 (List.length x8.Stack) c10) x8.Stack, SL (α := Int) 3 (.slice a11 (List.length x8.Out) c11) x8.Out, SL (α := Int) 3 (.slice (i1 0).1 (List.length x6.Regs) (i1 0).2) x6.Regs, SL (α := Int) 3 (.slice (i1 1).1 (List.length x6.Mem) (i1 1).2) x6.Mem, SL (α := Int) 3 (.slice (i1 2).1 (List.length x6.Stack) (i1 2).2) x6.Stack, SL (α := Int) 3 (.slice (i1 3).1 (List.length x6.Out) (i1 3).2) x6.Out, BX b3 28 [.int .i64 x6.Pc, .slice (i1 0).1 (List.length x6.Regs) (i1 0).2, .slice (i1 1).1 (List.length x6.Mem) (i1 1).2, .slice (i1 2).1 (List.length x6.Stack) (i1 2).2, .int .i64 x6.In, .slice (i1 3).1 (List.length x6.Out) (i1 3).2, .int .i64 x6.Code, .int .i64 x6.Steps], BX b2 39 [.int .i64 p1.Pc, .slice a2 (List.length p1.Regs) c2, .slice a3 (List.length p1.Mem) c3, .slice a4 (List.length p1.Stack) c4, .int .i64 p1.In, .slice a5 (List.length p1.Out) c5, .int .i64 p1.Code, .int .i64 p1.Steps], BX b1 24 [.int .i64 p0.W, .int .i64 p0.Mem, .int .i64 p0.In, .slice a1 (List.length p0.Code) c1]] w22 S16 := Sep.pick [0, 1, 2, 3, 4, 5, 7, 8, 9, 10, 11, 12, 13, 14, 15, 16, 17] hs (by decide) rfl
  refine from_pure 1 [(2, .slice a6 (List.length p2) c6), (3, .pointer (some ⟨b1, 0, none⟩)), (4, .pointer (some ⟨b2, 0, none⟩)), (8, .pointer (some ⟨b3, 0, none⟩)), (11, .slice a12 (List.length x9) c12), (12, .pointer (some ⟨b6, 0, none⟩)), (69, .agg #[.int .i64 x8.Pc, .slice a8 (List.length x8.Regs) c8, .slice a9 (List.length x8.Mem) c9, .slice a10 (List.length x8.Stack) c10, .int .i64 x8.In, .slice a11 (List.length x8.Out) c11, .int .i64 x8.Code, .int .i64 x8.Steps]), (70, .int .i64 x18.1)] hF (by kernel_rfl) fun fr hF => ?_
  obtain ⟨x19, hx19, h⟩ := bindE h
  have hs : Sep [SL (α := Int) 3 (.slice a8 (List.length x8.Regs) c8) x8.Regs, SL (α := Int) 3 (.slice a9 (List.length x8.Mem) c9) x8.Mem, SL (α := Int) 3 (.slice a10 (List.length x8.Stack) c10) x8.Stack, SL (α := Int) 3 (.slice a11 (List.length x8.Out) c11) x8.Out, BX b6 28 [.int .i64 x10.Pc, .slice a13 (List.length x10.Regs) c13, .slice a14 (List.length x10.Mem) c14, .slice a15 (List.length x10.Stack) c15, .int .i64 x10.In, .slice a16 (List.length x10.Out) c16, .int .i64 x10.Code, .int .i64 x10.Steps], SL (α := Int) 3 (.slice a13 (List.length x10.Regs) c13) x10.Regs, SL (α := Int) 3 (.slice a14 (List.length x10.Mem) c14) x10.Mem, SL (α := Int) 3 (.slice a15 (List.length x10.Stack) c15) x10.Stack, SL (α := Int) 3 (.slice a16 (List.length x10.Out) c16) x10.Out, SL (α := Int) 3 (.slice a12 (List.length x9) c12) x9, SL (α := Int) 3 (.slice (i1 0).1 (List.length x6.Regs) (i1 0).2) x6.Regs, SL (α := Int) 3 (.slice (i1 1).1 (List.length x6.Mem) (i1 1).2) x6.Mem, SL (α := Int) 3 (.slice (i1 2).1 (List.length x6.Stack) (i1 2).2) x6.Stack, SL (α := Int) 3 (.slice (i1 3).1 (List.length x6.Out) (i1 3).2) x6.Out, BX b3 28 [.int .i64 x6.Pc, .slice (i1 0).1 (List.length x6.Regs) (i1 0).2, .slice (i1 1).1 (List.length x6.Mem) (i1 1).2, .slice (i1 2).1 (List.length x6.Stack) (i1 2).2, .int .i64 x6.In, .slice (i1 3).1 (List.length x6.Out) (i1 3).2, .int .i64 x6.Code, .int .i64 x6.Steps], BX b2 39 [.int .i64 p1.Pc, .slice a2 (List.length p1.Regs) c2, .slice a3 (List.length p1.Mem) c3, .slice a4 (List.length p1.Stack) c4, .int .i64 p1.In, .slice a5 (List.length p1.Out) c5, .int .i64 p1.Code, .int .i64 p1.Steps], BX b1 24 [.int .i64 p0.W, .int .i64 p0.Mem, .int .i64 p0.In, .slice a1 (List.length p0.Code) c1]] w22 S16 := Sep.pick [6, 7, 8, 9, 0, 1, 2, 3, 4, 5, 10, 11, 12, 13, 14, 15, 16] hs (by decide) rfl
  obtain ⟨A2, R2, hsA, hsR, hdA, hbA, hup⟩ := Sep.call (L1 := [SL (α := Int) 3 (.slice a8 (List.length x8.Regs) c8) x8.Regs, SL (α := Int) 3 (.slice a9 (List.length x8.Mem) c9) x8.Mem, SL (α := Int) 3 (.slice a10 (List.length x8.Stack) c10) x8.Stack, SL (α := Int) 3 (.slice a11 (List.length x8.Out) c11) x8.Out]) (L2 := [BX b6 28 [.int .i64 x10.Pc, .slice a13 (List.length x10.Regs) c13, .slice a14 (List.length x10.Mem) c14, .slice a15 (List.length x10.Stack) c15, .int .i64 x10.In, .slice a16 (List.length x10.Out) c16, .int .i64 x10.Code, .int .i64 x10.Steps], SL (α := Int) 3 (.slice a13 (List.length x10.Regs) c13) x10.Regs, SL (α := Int) 3 (.slice a14 (List.length x10.Mem) c14) x10.Mem, SL (α := Int) 3 (.slice a15 (List.length x10.Stack) c15) x10.Stack, SL (α := Int) 3 (.slice a16 (List.length x10.Out) c16) x10.Out, SL (α := Int) 3 (.slice a12 (List.length x9) c12) x9, SL (α := Int) 3 (.slice (i1 0).1 (List.length x6.Regs) (i1 0).2) x6.Regs, SL (α := Int) 3 (.slice (i1 1).1 (List.length x6.Mem) (i1 1).2) x6.Mem, SL (α := Int) 3 (.slice (i1 2).1 (List.length x6.Stack) (i1 2).2) x6.Stack, SL (α := Int) 3 (.slice (i1 3).1 (List.length x6.Out) (i1 3).2) x6.Out, BX b3 28 [.int .i64 x6.Pc, .slice (i1 0).1 (List.length x6.Regs) (i1 0).2, .slice (i1 1).1 (List.length x6.Mem) (i1 1).2, .slice (i1 2).1 (List.length x6.Stack) (i1 2).2, .int .i64 x6.In, .slice (i1 3).1 (List.length x6.Out) (i1 3).2, .int .i64 x6.Code, .int .i64 x6.Steps], BX b2 39 [.int .i64 p1.Pc, .slice a2 (List.length p1.Regs) c2, .slice a3 (List.length p1.Mem) c3, .slice a4 (List.length p1.Stack) c4, .int .i64 p1.In, .slice a5 (List.length p1.Out) c5, .int .i64 p1.Code, .int .i64 p1.Steps], BX b1 24 [.int .i64 p0.W, .int .i64 p0.Mem, .int .i64 p0.In, .slice a1 (List.length p0.Code) c1]]) hs hM0
  refine s_call [.agg #[.int .i64 x8.Pc, .slice a8 (List.length x8.Regs) c8, .slice a9 (List.length x8.Mem) c9, .slice a10 (List.length x8.Stack) c10, .int .i64 x8.In, .slice a11 (List.length x8.Out) c11, .int .i64 x8.Code, .int .i64 x8.Steps], .int .i64 x18.1] Try.call17 rfl rfl hF rfl (laws_markState_ok n x8 x18.1 hx19 hsA hbA hdA) fun v w23 fr hRes hF => ?_
  obtain ⟨rfl, _, hp, hs⟩ := hRes
  obtain ⟨S17, hp, hs⟩ := hup hp hs
  have ra2 := ra2.stp hM0 hp
  have r2 := r2.stp hM0 hp
  have r3 := r3.stp hM0 hp
  have r4 := r4.stp hM0 hp
  have r5 := r5.stp hM0 hp
  have r1 := r1.stp hM0 hp
  have hM0 := hM0.stp hp
  have hs : Sep [SL (α := Int) 3 (.slice a8 (List.length x8.Regs) c8) x19.2.Regs, SL (α := Int) 3 (.slice a9 (List.length x8.Mem) c9) x19.2.Mem, SL (α := Int) 3 (.slice a10 (List.length x8.Stack) c10) x19.2.Stack, SL (α := Int) 3 (.slice a11 (List.length x8.Out) c11) x19.2.Out, BX b6 28 [.int .i64 x10.Pc, .slice a13 (List.length x10.Regs) c13, .slice a14 (List.length x10.Mem) c14, .slice a15 (List.length x10.Stack) c15, .int .i64 x10.In, .slice a16 (List.length x10.Out) c16, .int .i64 x10.Code, .int .i64 x10.Steps], SL (α := Int) 3 (.slice a13 (List.length x10.Regs) c13) x10.Regs, SL (α := Int) 3 (.slice a14 (List.length x10.Mem) c14) x10.Mem, SL (α := Int) 3 (.slice a15 (List.length x10.Stack) c15) x10.Stack, SL (α := Int) 3 (.slice a16 (List.length x10.Out) c16) x10.Out, SL (α := Int) 3 (.slice a12 (List.length x9) c12) x9, SL (α := Int) 3 (.slice (i1 0).1 (List.length x6.Regs) (i1 0).2) x6.Regs, SL (α := Int) 3 (.slice (i1 1).1 (List.length x6.Mem) (i1 1).2) x6.Mem, SL (α := Int) 3 (.slice (i1 2).1 (List.length x6.Stack) (i1 2).2) x6.Stack, SL (α := Int) 3 (.slice (i1 3).1 (List.length x6.Out) (i1 3).2) x6.Out, BX b3 28 [.int .i64 x6.Pc, .slice (i1 0).1 (List.length x6.Regs) (i1 0).2, .slice (i1 1).1 (List.length x6.Mem) (i1 1).2, .slice (i1 2).1 (List.length x6.Stack) (i1 2).2, .int .i64 x6.In, .slice (i1 3).1 (List.length x6.Out) (i1 3).2, .int .i64 x6.Code, .int .i64 x6.Steps], BX b2 39 [.int .i64 p1.Pc, .slice a2 (List.length p1.Regs) c2, .slice a3 (List.length p1.Mem) c3, .slice a4 (List.length p1.Stack) c4, .int .i64 p1.In, .slice a5 (List.length p1.Out) c5, .int .i64 p1.Code, .int .i64 p1.Steps], BX b1 24 [.int .i64 p0.W, .int .i64 p0.Mem, .int .i64 p0.In, .slice a1 (List.length p0.Code) c1]] w23 S17 := hs
  have hs : Sep [BX b6 28 [.int .i64 x10.Pc, .slice a13 (List.length x10.Regs) c13, .slice a14 (List.length x10.Mem) c14, .slice a15 (List.length x10.Stack) c15, .int .i64 x10.In, .slice a16 (List.length x10.Out) c16, .int .i64 x10.Code, .int .i64 x10.Steps], SL (α := Int) 3 (.slice a13 (List.length x10.Regs) c13) x10.Regs, SL (α := Int) 3 (.slice a14 (List.length x10.Mem) c14) x10.Mem, SL (α := Int) 3 (.slice a15 (List.length x10.Stack) c15) x10.Stack, SL (α := Int) 3 (.slice a16 (List.length x10.Out) c16) x10.Out, SL (α := Int) 3 (.slice a12 (List.length x9) c12) x9, SL (α := Int) 3 (.slice (i1 0).1 (List.length x6.Regs) (i1 0).2) x6.Regs, SL (α := Int) 3 (.slice (i1 1).1 (List.length x6.Mem) (i1 1).2) x6.Mem, SL (α := Int) 3 (.slice (i1 2).1 (List.length x6.Stack) (i1 2).2) x6.Stack, SL (α := Int) 3 (.slice (i1 3).1 (List.length x6.Out) (i1 3).2) x6.Out, BX b3 28 [.int .i64 x6.Pc, .slice (i1 0).1 (List.length x6.Regs) (i1 0).2, .slice (i1 1).1 (List.length x6.Mem) (i1 1).2, .slice (i1 2).1 (List.length x6.Stack) (i1 2).2, .int .i64 x6.In, .slice (i1 3).1 (List.length x6.Out) (i1 3).2, .int .i64 x6.Code, .int .i64 x6.Steps], BX b2 39 [.int .i64 p1.Pc, .slice a2 (List.length p1.Regs) c2, .slice a3 (List.length p1.Mem) c3, .slice a4 (List.length p1.Stack) c4, .int .i64 p1.In, .slice a5 (List.length p1.Out) c5, .int .i64 p1.Code, .int .i64 p1.Steps], BX b1 24 [.int .i64 p0.W, .int .i64 p0.Mem, .int .i64 p0.In, .slice a1 (List.length p0.Code) c1]] w23 S17 := Sep.pick [4, 5, 6, 7, 8, 9, 10, 11, 12, 13, 14, 15, 16] hs (by decide) rfl
  refine from_pure 1 [(2, .slice a6 (List.length p2) c6), (3, .pointer (some ⟨b1, 0, none⟩)), (4, .pointer (some ⟨b2, 0, none⟩)), (8, .pointer (some ⟨b3, 0, none⟩)), (11, .slice a12 (List.length x9) c12), (12, .pointer (some ⟨b6, 0, none⟩)), (13, .int .i64 x19.1)] hF (by kernel_rfl) fun fr hF => ?_
  refine from_end rfl (then_normal ?_)
  refine wp_seq (wp_text' ?_)
  refine from_pure 2 [(2, .slice a6 (List.length p2) c6), (3, .pointer (some ⟨b1, 0, none⟩)), (4, .pointer (some ⟨b2, 0, none⟩)), (8, .pointer (some ⟨b3, 0, none⟩)), (12, .pointer (some ⟨b6, 0, none⟩)), (72, .slice a12 (List.length x9) c12), (73, .int .i64 x19.1)] hF (by kernel_rfl) fun fr hF => ?_
  obtain ⟨x20, hx20, h⟩ := bindE h
  have hs : Sep [SL (α := Int) 3 (.slice a12 (List.length x9) c12) x9, BX b6 28 [.int .i64 x10.Pc, .slice a13 (List.length x10.Regs) c13, .slice a14 (List.length x10.Mem) c14, .slice a15 (List.length x10.Stack) c15, .int .i64 x10.In, .slice a16 (List.length x10.Out) c16, .int .i64 x10.Code, .int .i64 x10.Steps], SL (α := Int) 3 (.slice a13 (List.length x10.Regs) c13) x10.Regs, SL (α := Int) 3 (.slice a14 (List.length x10.Mem) c14) x10.Mem, SL (α := Int) 3 (.slice a15 (List.length x10.Stack) c15) x10.Stack, SL (α := Int) 3 (.slice a16 (List.length x10.Out) c16) x10.Out, SL (α := Int) 3 (.slice (i1 0).1 (List.length x6.Regs) (i1 0).2) x6.Regs, SL (α := Int) 3 (.slice (i1 1).1 (List.length x6.Mem) (i1 1).2) x6.Mem, SL (α := Int) 3 (.slice (i1 2).1 (List.length x6.Stack) (i1 2).2) x6.Stack, SL (α := Int) 3 (.slice (i1 3).1 (List.length x6.Out) (i1 3).2) x6.Out, BX b3 28 [.int .i64 x6.Pc, .slice (i1 0).1 (List.length x6.Regs) (i1 0).2, .slice (i1 1).1 (List.length x6.Mem) (i1 1).2, .slice (i1 2).1 (List.length x6.Stack) (i1 2).2, .int .i64 x6.In, .slice (i1 3).1 (List.length x6.Out) (i1 3).2, .int .i64 x6.Code, .int .i64 x6.Steps], BX b2 39 [.int .i64 p1.Pc, .slice a2 (List.length p1.Regs) c2, .slice a3 (List.length p1.Mem) c3, .slice a4 (List.length p1.Stack) c4, .int .i64 p1.In, .slice a5 (List.length p1.Out) c5, .int .i64 p1.Code, .int .i64 p1.Steps], BX b1 24 [.int .i64 p0.W, .int .i64 p0.Mem, .int .i64 p0.In, .slice a1 (List.length p0.Code) c1]] w23 S17 := Sep.pick [5, 0, 1, 2, 3, 4, 6, 7, 8, 9, 10, 11, 12] hs (by decide) rfl
  obtain ⟨A3, R3, hsA, hsR, hdA, hbA, hup⟩ := Sep.call (L1 := [SL (α := Int) 3 (.slice a12 (List.length x9) c12) x9]) (L2 := [BX b6 28 [.int .i64 x10.Pc, .slice a13 (List.length x10.Regs) c13, .slice a14 (List.length x10.Mem) c14, .slice a15 (List.length x10.Stack) c15, .int .i64 x10.In, .slice a16 (List.length x10.Out) c16, .int .i64 x10.Code, .int .i64 x10.Steps], SL (α := Int) 3 (.slice a13 (List.length x10.Regs) c13) x10.Regs, SL (α := Int) 3 (.slice a14 (List.length x10.Mem) c14) x10.Mem, SL (α := Int) 3 (.slice a15 (List.length x10.Stack) c15) x10.Stack, SL (α := Int) 3 (.slice a16 (List.length x10.Out) c16) x10.Out, SL (α := Int) 3 (.slice (i1 0).1 (List.length x6.Regs) (i1 0).2) x6.Regs, SL (α := Int) 3 (.slice (i1 1).1 (List.length x6.Mem) (i1 1).2) x6.Mem, SL (α := Int) 3 (.slice (i1 2).1 (List.length x6.Stack) (i1 2).2) x6.Stack, SL (α := Int) 3 (.slice (i1 3).1 (List.length x6.Out) (i1 3).2) x6.Out, BX b3 28 [.int .i64 x6.Pc, .slice (i1 0).1 (List.length x6.Regs) (i1 0).2, .slice (i1 1).1 (List.length x6.Mem) (i1 1).2, .slice (i1 2).1 (List.length x6.Stack) (i1 2).2, .int .i64 x6.In, .slice (i1 3).1 (List.length x6.Out) (i1 3).2, .int .i64 x6.Code, .int .i64 x6.Steps], BX b2 39 [.int .i64 p1.Pc, .slice a2 (List.length p1.Regs) c2, .slice a3 (List.length p1.Mem) c3, .slice a4 (List.length p1.Stack) c4, .int .i64 p1.In, .slice a5 (List.length p1.Out) c5, .int .i64 p1.Code, .int .i64 p1.Steps], BX b1 24 [.int .i64 p0.W, .int .i64 p0.Mem, .int .i64 p0.In, .slice a1 (List.length p0.Code) c1]]) hs hM0
  refine s_call [.slice a12 (List.length x9) c12, .int .i64 x19.1] Try.call25 rfl rfl hF rfl (laws_markIntS_ok n x9 x19.1 hx20 hsA hbA hdA) fun v w24 fr hRes hF => ?_
  obtain ⟨rfl, _, hp, hs⟩ := hRes
  obtain ⟨S18, hp, hs⟩ := hup hp hs
  have ra2 := ra2.stp hM0 hp
  have r2 := r2.stp hM0 hp
  have r3 := r3.stp hM0 hp
  have r4 := r4.stp hM0 hp
  have r5 := r5.stp hM0 hp
  have r1 := r1.stp hM0 hp
  have hM0 := hM0.stp hp
  have hs : Sep [SL (α := Int) 3 (.slice a12 (List.length x9) c12) x20.2, BX b6 28 [.int .i64 x10.Pc, .slice a13 (List.length x10.Regs) c13, .slice a14 (List.length x10.Mem) c14, .slice a15 (List.length x10.Stack) c15, .int .i64 x10.In, .slice a16 (List.length x10.Out) c16, .int .i64 x10.Code, .int .i64 x10.Steps], SL (α := Int) 3 (.slice a13 (List.length x10.Regs) c13) x10.Regs, SL (α := Int) 3 (.slice a14 (List.length x10.Mem) c14) x10.Mem, SL (α := Int) 3 (.slice a15 (List.length x10.Stack) c15) x10.Stack, SL (α := Int) 3 (.slice a16 (List.length x10.Out) c16) x10.Out, SL (α := Int) 3 (.slice (i1 0).1 (List.length x6.Regs) (i1 0).2) x6.Regs, SL (α := Int) 3 (.slice (i1 1).1 (List.length x6.Mem) (i1 1).2) x6.Mem, SL (α := Int) 3 (.slice (i1 2).1 (List.length x6.Stack) (i1 2).2) x6.Stack, SL (α := Int) 3 (.slice (i1 3).1 (List.length x6.Out) (i1 3).2) x6.Out, BX b3 28 [.int .i64 x6.Pc, .slice (i1 0).1 (List.length x6.Regs) (i1 0).2, .slice (i1 1).1 (List.length x6.Mem) (i1 1).2, .slice (i1 2).1 (List.length x6.Stack) (i1 2).2, .int .i64 x6.In, .slice (i1 3).1 (List.length x6.Out) (i1 3).2, .int .i64 x6.Code, .int .i64 x6.Steps], BX b2 39 [.int .i64 p1.Pc, .slice a2 (List.length p1.Regs) c2, .slice a3 (List.length p1.Mem) c3, .slice a4 (List.length p1.Stack) c4, .int .i64 p1.In, .slice a5 (List.length p1.Out) c5, .int .i64 p1.Code, .int .i64 p1.Steps], BX b1 24 [.int .i64 p0.W, .int .i64 p0.Mem, .int .i64 p0.In, .slice a1 (List.length p0.Code) c1]] w24 S18 := hs
  have hs : Sep [BX b6 28 [.int .i64 x10.Pc, .slice a13 (List.length x10.Regs) c13, .slice a14 (List.length x10.Mem) c14, .slice a15 (List.length x10.Stack) c15, .int .i64 x10.In, .slice a16 (List.length x10.Out) c16, .int .i64 x10.Code, .int .i64 x10.Steps], SL (α := Int) 3 (.slice a13 (List.length x10.Regs) c13) x10.Regs, SL (α := Int) 3 (.slice a14 (List.length x10.Mem) c14) x10.Mem, SL (α := Int) 3 (.slice a15 (List.length x10.Stack) c15) x10.Stack, SL (α := Int) 3 (.slice a16 (List.length x10.Out) c16) x10.Out, SL (α := Int) 3 (.slice (i1 0).1 (List.length x6.Regs) (i1 0).2) x6.Regs, SL (α := Int) 3 (.slice (i1 1).1 (List.length x6.Mem) (i1 1).2) x6.Mem, SL (α := Int) 3 (.slice (i1 2).1 (List.length x6.Stack) (i1 2).2) x6.Stack, SL (α := Int) 3 (.slice (i1 3).1 (List.length x6.Out) (i1 3).2) x6.Out, BX b3 28 [.int .i64 x6.Pc, .slice (i1 0).1 (List.length x6.Regs) (i1 0).2, .slice (i1 1).1 (List.length x6.Mem) (i1 1).2, .slice (i1 2).1 (List.length x6.Stack) (i1 2).2, .int .i64 x6.In, .slice (i1 3).1 (List.length x6.Out) (i1 3).2, .int .i64 x6.Code, .int .i64 x6.Steps], BX b2 39 [.int .i64 p1.Pc, .slice a2 (List.length p1.Regs) c2, .slice a3 (List.length p1.Mem) c3, .slice a4 (List.length p1.Stack) c4, .int .i64 p1.In, .slice a5 (List.length p1.Out) c5, .int .i64 p1.Code, .int .i64 p1.Steps], BX b1 24 [.int .i64 p0.W, .int .i64 p0.Mem, .int .i64 p0.In, .slice a1 (List.length p0.Code) c1]] w24 S18 := Sep.pick [1, 2, 3, 4, 5, 6, 7, 8, 9, 10, 11, 12] hs (by decide) rfl
  refine from_pure 1 [(2, .slice a6 (List.length p2) c6), (3, .pointer (some ⟨b1, 0, none⟩)), (4, .pointer (some ⟨b2, 0, none⟩)), (8, .pointer (some ⟨b3, 0, none⟩)), (12, .pointer (some ⟨b6, 0, none⟩)), (13, .int .i64 x20.1)] hF (by kernel_rfl) fun fr hF => ?_
  refine from_end rfl (then_normal ?_)
  refine wp_seq ?_
  obtain ⟨x21, hx21, h⟩ := bindE h
  refine wp_seq (region_b [] [true, true, true, false, false, false, true, true]
      [.eq (.int .i64 x20.1), .eq (.bool (decide (x20.1 < 0))), .eq (.bool (decide (x20.1 < 0))), .eq (.agg #[.int .i64 x10.Pc, .slice a13 (List.length x10.Regs) c13, .slice a14 (List.length x10.Mem) c14, .slice a15 (List.length x10.Stack) c15, .int .i64 x10.In, .slice a16 (List.length x10.Out) c16, .int .i64 x10.Code, .int .i64 x10.Steps]), .eq (.agg #[.int .i64 x6.Pc, .slice (i1 0).1 (List.length x6.Regs) (i1 0).2, .slice (i1 1).1 (List.length x6.Mem) (i1 1).2, .slice (i1 2).1 (List.length x6.Stack) (i1 2).2, .int .i64 x6.In, .slice (i1 3).1 (List.length x6.Out) (i1 3).2, .int .i64 x6.Code, .int .i64 x6.Steps]), .eq (.bool x21), .eq (.bool (!x21)), .eq (.bool ((decide (x20.1 < 0)) || (!x21)))]
      [(2, .slice a6 (List.length p2) c6), (3, .pointer (some ⟨b1, 0, none⟩)), (4, .pointer (some ⟨b2, 0, none⟩)), (8, .pointer (some ⟨b3, 0, none⟩)), (12, .pointer (some ⟨b6, 0, none⟩)), (82, .bool ((decide (x20.1 < 0)) || (!x21)))] mix hF (by kernel_rfl) (by kernel_rfl) (by kernel_rfl) ⟨Pd.mono_eq, Pd.mono_eq, Pd.mono_eq, trivial⟩ (fun hG => ⟨np_loadBoxS hG hF ty28 rfl rfl (hs.bx 0 rfl) rfl rfl rfl rfl, np_loadBoxS hG hF ty28 rfl rfl (hs.bx 9 rfl) rfl rfl rfl rfl, np_call [.agg #[.int .i64 x10.Pc, .slice a13 (List.length x10.Regs) c13, .slice a14 (List.length x10.Mem) c14, .slice a15 (List.length x10.Stack) c15, .int .i64 x10.In, .slice a16 (List.length x10.Out) c16, .int .i64 x10.Code, .int .i64 x10.Steps], .agg #[.int .i64 x6.Pc, .slice (i1 0).1 (List.length x6.Regs) (i1 0).2, .slice (i1 1).1 (List.length x6.Mem) (i1 1).2, .slice (i1 2).1 (List.length x6.Stack) (i1 2).2, .int .i64 x6.In, .slice (i1 3).1 (List.length x6.Out) (i1 3).2, .int .i64 x6.Code, .int .i64 x6.Steps]] hG hF Try.call14 rfl rfl (fun w hC hg => (laws_eqState_ok n x10 x6 (iteF hg.2 hx21) ((RV.mk_State x10 (RV.any (hs.rv 1 rfl)) (RV.any (hs.rv 2 rfl)) (RV.any (hs.rv 3 rfl)) (RV.any (hs.rv 4 rfl))).ext hC) ((RV.mk_State x6 (RV.any (hs.rv 5 rfl)) (RV.any (hs.rv 6 rfl)) (RV.any (hs.rv 7 rfl)) (RV.any (hs.rv 8 rfl))).ext hC)).mono fun e w' ⟨v, he, hv, hc⟩ => ⟨v, he, hc, hv⟩), trivial⟩) (by kernel_rfl) fun fr w25 hF hE hc => then_normal ?_)
  have ra2 := ra2.ext hc
  have r2 := r2.ext hc
  have r3 := r3.ext hc
  have r4 := r4.ext hc
  have r5 := r5.ext hc
  have r1 := r1.ext hc
  have hs := hs.ext hc
  have hM0 := hM0.ext hc
  refine (wp_if hF (b := ((decide (x20.1 < 0)) || (!x21))) rfl (fun hb => ?_) (fun hb => ?_))
  · replace h := iteT hb h
    have hs : Sep [] w25 S18 := Sep.pick [] hs (by decide) rfl
    refine wp_seq (wp_pure [(6, .bool false)] hF (by kernel_rfl) fun fr hF => then_normal ?_)
    obtain rfl := Option.some.inj h
    exact wp_ret (then_ret (ret1 rfl hF rfl ⟨_, rfl, rfl, hM0.chg⟩))
  replace h := iteF hb h
  refine (wp_skip (then_normal ?_))
  refine wp_seq (wp_pure [(2, .slice a6 (List.length p2) c6), (3, .pointer (some ⟨b1, 0, none⟩)), (4, .pointer (some ⟨b2, 0, none⟩)), (8, .pointer (some ⟨b3, 0, none⟩)), (12, .pointer (some ⟨b6, 0, none⟩)), (14, .int .i64 1)] hF (by kernel_rfl) fun fr hF => then_normal ?_)
  refine wp_seq (wp_text' ?_)
  refine s_loadBoxS ty28 rfl rfl hF rfl (hs.bx 0 rfl) rfl rfl fun fr hF => ?_
  refine from_pure 1 [(2, .slice a6 (List.length p2) c6), (3, .pointer (some ⟨b1, 0, none⟩)), (4, .pointer (some ⟨b2, 0, none⟩)), (8, .pointer (some ⟨b3, 0, none⟩)), (12, .pointer (some ⟨b6, 0, none⟩)), (83, .agg #[.int .i64 x10.Pc, .slice a13 (List.length x10.Regs) c13, .slice a14 (List.length x10.Mem) c14, .slice a15 (List.length x10.Stack) c15, .int .i64 x10.In, .slice a16 (List.length x10.Out) c16, .int .i64 x10.Code, .int .i64 x10.Steps]), (84, .int .i64 1)] hF (by kernel_rfl) fun fr hF => ?_
  obtain ⟨x22, hx22, h⟩ := bindE h
  have hs : Sep [SL (α := Int) 3 (.slice a13 (List.length x10.Regs) c13) x10.Regs, SL (α := Int) 3 (.slice a14 (List.length x10.Mem) c14) x10.Mem, SL (α := Int) 3 (.slice a15 (List.length x10.Stack) c15) x10.Stack, SL (α := Int) 3 (.slice a16 (List.length x10.Out) c16) x10.Out, BX b6 28 [.int .i64 x10.Pc, .slice a13 (List.length x10.Regs) c13, .slice a14 (List.length x10.Mem) c14, .slice a15 (List.length x10.Stack) c15, .int .i64 x10.In, .slice a16 (List.length x10.Out) c16, .int .i64 x10.Code, .int .i64 x10.Steps], SL (α := Int) 3 (.slice (i1 0).1 (List.length x6.Regs) (i1 0).2) x6.Regs, SL (α := Int) 3 (.slice (i1 1).1 (List.length x6.Mem) (i1 1).2) x6.Mem, SL (α := Int) 3 (.slice (i1 2).1 (List.length x6.Stack) (i1 2).2) x6.Stack, SL (α := Int) 3 (.slice (i1 3).1 (List.length x6.Out) (i1 3).2) x6.Out, BX b3 28 [.int .i64 x6.Pc, .slice (i1 0).1 (List.length x6.Regs) (i1 0).2, .slice (i1 1).1 (List.length x6.Mem) (i1 1).2, .slice (i1 2).1 (List.length x6.Stack) (i1 2).2, .int .i64 x6.In, .slice (i1 3).1 (List.length x6.Out) (i1 3).2, .int .i64 x6.Code, .int .i64 x6.Steps], BX b2 39 [.int .i64 p1.Pc, .slice a2 (List.length p1.Regs) c2, .slice a3 (List.length p1.Mem) c3, .slice a4 (List.length p1.Stack) c4, .int .i64 p1.In, .slice a5 (List.length p1.Out) c5, .int .i64 p1.Code, .int .i64 p1.Steps], BX b1 24 [.int .i64 p0.W, .int .i64 p0.Mem, .int .i64 p0.In, .slice a1 (List.length p0.Code) c1]] w25 S18 := Sep.pick [1, 2, 3, 4, 0, 5, 6, 7, 8, 9, 10, 11] hs (by decide) rfl
  obtain ⟨A4, R4, hsA, hsR, hdA, hbA, hup⟩ := Sep.call (L1 := [SL (α := Int) 3 (.slice a13 (List.length x10.Regs) c13) x10.Regs, SL (α := Int) 3 (.slice a14 (List.length x10.Mem) c14) x10.Mem, SL (α := Int) 3 (.slice a15 (List.length x10.Stack) c15) x10.Stack, SL (α := Int) 3 (.slice a16 (List.length x10.Out) c16) x10.Out]) (L2 := [BX b6 28 [.int .i64 x10.Pc, .slice a13 (List.length x10.Regs) c13, .slice a14 (List.length x10.Mem) c14, .slice a15 (List.length x10.Stack) c15, .int .i64 x10.In, .slice a16 (List.length x10.Out) c16, .int .i64 x10.Code, .int .i64 x10.Steps], SL (α := Int) 3 (.slice (i1 0).1 (List.length x6.Regs) (i1 0).2) x6.Regs, SL (α := Int) 3 (.slice (i1 1).1 (List.length x6.Mem) (i1 1).2) x6.Mem, SL (α := Int) 3 (.slice (i1 2).1 (List.length x6.Stack) (i1 2).2) x6.Stack, SL (α := Int) 3 (.slice (i1 3).1 (List.length x6.Out) (i1 3).2) x6.Out, BX b3 28 [.int .i64 x6.Pc, .slice (i1 0).1 (List.length x6.Regs) (i1 0).2, .slice (i1 1).1 (List.length x6.Mem) (i1 1).2, .slice (i1 2).1 (List.length x6.Stack) (i1 2).2, .int .i64 x6.In, .slice (i1 3).1 (List.length x6.Out) (i1 3).2, .int .i64 x6.Code, .int .i64 x6.Steps], BX b2 39 [.int .i64 p1.Pc, .slice a2 (List.length p1.Regs) c2, .slice a3 (List.length p1.Mem) c3, .slice a4 (List.length p1.Stack) c4, .int .i64 p1.In, .slice a5 (List.length p1.Out) c5, .int .i64 p1.Code, .int .i64 p1.Steps], BX b1 24 [.int .i64 p0.W, .int .i64 p0.Mem, .int .i64 p0.In, .slice a1 (List.length p0.Code) c1]]) hs hM0
  refine s_call [.agg #[.int .i64 x10.Pc, .slice a13 (List.length x10.Regs) c13, .slice a14 (List.length x10.Mem) c14, .slice a15 (List.length x10.Stack) c15, .int .i64 x10.In, .slice a16 (List.length x10.Out) c16, .int .i64 x10.Code, .int .i64 x10.Steps], .int .i64 1] Try.call17 rfl rfl hF rfl (laws_markState_ok n x10 1 hx22 hsA hbA hdA) fun v w26 fr hRes hF => ?_
  obtain ⟨rfl, _, hp, hs⟩ := hRes
  obtain ⟨S19, hp, hs⟩ := hup hp hs
  have ra2 := ra2.stp hM0 hp
  have r2 := r2.stp hM0 hp
  have r3 := r3.stp hM0 hp
  have r4 := r4.stp hM0 hp
  have r5 := r5.stp hM0 hp
  have r1 := r1.stp hM0 hp
  have hM0 := hM0.stp hp
  have hs : Sep [SL (α := Int) 3 (.slice a13 (List.length x10.Regs) c13) x22.2.Regs, SL (α := Int) 3 (.slice a14 (List.length x10.Mem) c14) x22.2.Mem, SL (α := Int) 3 (.slice a15 (List.length x10.Stack) c15) x22.2.Stack, SL (α := Int) 3 (.slice a16 (List.length x10.Out) c16) x22.2.Out, BX b6 28 [.int .i64 x10.Pc, .slice a13 (List.length x10.Regs) c13, .slice a14 (List.length x10.Mem) c14, .slice a15 (List.length x10.Stack) c15, .int .i64 x10.In, .slice a16 (List.length x10.Out) c16, .int .i64 x10.Code, .int .i64 x10.Steps], SL (α := Int) 3 (.slice (i1 0).1 (List.length x6.Regs) (i1 0).2) x6.Regs, SL (α := Int) 3 (.slice (i1 1).1 (List.length x6.Mem) (i1 1).2) x6.Mem, SL (α := Int) 3 (.slice (i1 2).1 (List.length x6.Stack) (i1 2).2) x6.Stack, SL (α := Int) 3 (.slice (i1 3).1 (List.length x6.Out) (i1 3).2) x6.Out, BX b3 28 [.int .i64 x6.Pc, .slice (i1 0).1 (List.length x6.Regs) (i1 0).2, .slice (i1 1).1 (List.length x6.Mem) (i1 1).2, .slice (i1 2).1 (List.length x6.Stack) (i1 2).2, .int .i64 x6.In, .slice (i1 3).1 (List.length x6.Out) (i1 3).2, .int .i64 x6.Code, .int .i64 x6.Steps], BX b2 39 [.int .i64 p1.Pc, .slice a2 (List.length p1.Regs) c2, .slice a3 (List.length p1.Mem) c3, .slice a4 (List.length p1.Stack) c4, .int .i64 p1.In, .slice a5 (List.length p1.Out) c5, .int .i64 p1.Code, .int .i64 p1.Steps], BX b1 24 [.int .i64 p0.W, .int .i64 p0.Mem, .int .i64 p0.In, .slice a1 (List.length p0.Code) c1]] w26 S19 := hs
  refine from_pure 1 [(2, .slice a6 (List.length p2) c6), (3, .pointer (some ⟨b1, 0, none⟩)), (4, .pointer (some ⟨b2, 0, none⟩)), (8, .pointer (some ⟨b3, 0, none⟩)), (12, .pointer (some ⟨b6, 0, none⟩)), (14, .int .i64 x22.1)] hF (by kernel_rfl) fun fr hF => ?_
  refine from_end rfl (then_normal ?_)
  refine wp_seq (wp_pure [(2, .slice a6 (List.length p2) c6), (3, .pointer (some ⟨b1, 0, none⟩)), (4, .pointer (some ⟨b2, 0, none⟩)), (8, .pointer (some ⟨b3, 0, none⟩)), (12, .pointer (some ⟨b6, 0, none⟩)), (14, .int .i64 x22.1), (15, .int .i64 1)] hF (by kernel_rfl) fun fr hF => then_normal ?_)
  refine wp_seq (wp_text' ?_)
  refine s_loadBoxS ty28 rfl rfl hF rfl (hs.bx 4 rfl) rfl rfl fun fr hF => ?_
  refine from_pure 1 [(2, .slice a6 (List.length p2) c6), (3, .pointer (some ⟨b1, 0, none⟩)), (4, .pointer (some ⟨b2, 0, none⟩)), (8, .pointer (some ⟨b3, 0, none⟩)), (12, .pointer (some ⟨b6, 0, none⟩)), (14, .int .i64 x22.1), (86, .agg #[.int .i64 x10.Pc, .slice a13 (List.length x10.Regs) c13, .slice a14 (List.length x10.Mem) c14, .slice a15 (List.length x10.Stack) c15, .int .i64 x10.In, .slice a16 (List.length x10.Out) c16, .int .i64 x10.Code, .int .i64 x10.Steps]), (87, .int .i64 1)] hF (by kernel_rfl) fun fr hF => ?_
  obtain ⟨x23, hx23, h⟩ := bindE h
  refine s_call [.agg #[.int .i64 x10.Pc, .slice a13 (List.length x10.Regs) c13, .slice a14 (List.length x10.Mem) c14, .slice a15 (List.length x10.Stack) c15, .int .i64 x10.In, .slice a16 (List.length x10.Out) c16, .int .i64 x10.Code, .int .i64 x10.Steps], .int .i64 1] Try.call18 rfl rfl hF rfl (laws_heldState_ok n (D.State.mk x10.Pc x22.2.Regs x22.2.Mem x22.2.Stack x10.In x22.2.Out x10.Code x10.Steps) 1 hx23 (RV.mk_State (D.State.mk x10.Pc x22.2.Regs x22.2.Mem x22.2.Stack x10.In x22.2.Out x10.Code x10.Steps) (RV.any (hs.rv 0 rfl)) (RV.any (hs.rv 1 rfl)) (RV.any (hs.rv 2 rfl)) (RV.any (hs.rv 3 rfl)))) fun v w27 fr hRes hF => ?_
  obtain ⟨rfl, hc⟩ := hRes
  have ra2 := ra2.ext hc
  have r2 := r2.ext hc
  have r3 := r3.ext hc
  have r4 := r4.ext hc
  have r5 := r5.ext hc
  have r1 := r1.ext hc
  have hs := hs.ext hc
  have hM0 := hM0.ext hc
  refine from_pure 1 [(2, .slice a6 (List.length p2) c6), (3, .pointer (some ⟨b1, 0, none⟩)), (4, .pointer (some ⟨b2, 0, none⟩)), (8, .pointer (some ⟨b3, 0, none⟩)), (12, .pointer (some ⟨b6, 0, none⟩)), (14, .int .i64 x22.1), (15, .int .i64 x23)] hF (by kernel_rfl) fun fr hF => ?_
  refine from_end rfl (then_normal ?_)
  refine wp_seq ?_
  refine wp_seq (wp_pure [(2, .slice a6 (List.length p2) c6), (3, .pointer (some ⟨b1, 0, none⟩)), (4, .pointer (some ⟨b2, 0, none⟩)), (8, .pointer (some ⟨b3, 0, none⟩)), (12, .pointer (some ⟨b6, 0, none⟩)), (14, .int .i64 x22.1), (15, .int .i64 x23), (90, .bool (decide (x23 < 0)))] hF (by kernel_rfl) fun fr hF => then_normal ?_)
  refine (wp_if hF (b := (decide (x23 < 0))) rfl (fun hb => ?_) (fun hb => ?_))
  · replace h := iteT hb h
    have hs : Sep [] w27 S19 := Sep.pick [] hs (by decide) rfl
    refine wp_seq (wp_pure [(6, .bool false)] hF (by kernel_rfl) fun fr hF => then_normal ?_)
    obtain rfl := Option.some.inj h
    exact wp_ret (then_ret (ret1 rfl hF rfl ⟨_, rfl, rfl, hM0.chg⟩))
  replace h := iteF hb h
  refine (wp_skip (then_normal ?_))
  refine wp_seq ?_
  refine wp_seq (wp_pure [(2, .slice a6 (List.length p2) c6), (3, .pointer (some ⟨b1, 0, none⟩)), (4, .pointer (some ⟨b2, 0, none⟩)), (8, .pointer (some ⟨b3, 0, none⟩)), (12, .pointer (some ⟨b6, 0, none⟩)), (14, .int .i64 x22.1), (93, .bool (x23 != x22.1))] hF (by kernel_rfl) fun fr hF => then_normal ?_)
  refine (wp_if hF (b := (x23 != x22.1)) rfl (fun hb => ?_) (fun hb => ?_))
  · replace h := iteT hb h
    have hs : Sep [] w27 S19 := Sep.pick [] hs (by decide) rfl
    refine wp_seq (wp_pure [(6, .bool false)] hF (by kernel_rfl) fun fr hF => then_normal ?_)
    obtain rfl := Option.some.inj h
    exact wp_ret (then_ret (ret1 rfl hF rfl ⟨_, rfl, rfl, hM0.chg⟩))
  replace h := iteF hb h
  refine (wp_skip (then_normal ?_))
  obtain ⟨x24, hx24, h⟩ := bindE h
  obtain ⟨x25, hx25, h⟩ := bindE h
  obtain ⟨x26, hx26, h⟩ := bindE h
  obtain ⟨x27, hx27, h⟩ := bindE h
  refine wp_seq (region_bm 8 [0, 1, 0, 7, 0, 31, 63, 0, 255] [false, false, false, false, true, false, false, false]
      [.eq (.agg #[.int .i64 p0.W, .int .i64 p0.Mem, .int .i64 p0.In, .slice a1 (List.length p0.Code) c1]), .is fun v w => RV w (fun k => k < w.heap.size) v (x24 : D.Program), .eq (.agg #[.int .i64 p1.Pc, .slice a2 (List.length p1.Regs) c2, .slice a3 (List.length p1.Mem) c3, .slice a4 (List.length p1.Stack) c4, .int .i64 p1.In, .slice a5 (List.length p1.Out) c5, .int .i64 p1.Code, .int .i64 p1.Steps]), .is fun v w => RV w (fun k => k < w.heap.size) v (x25 : D.State), .eq (.slice a6 (List.length p2) c6), .is fun v w => RV w (fun k => k < w.heap.size) v (x26 : List Int), .own fun ow v w => ∃ i : Nat → Option Addr × Nat, v = .agg #[.int .i64 x27.Pc, .slice (i 0).1 (List.length x27.Regs) (i 0).2, .slice (i 1).1 (List.length x27.Mem) (i 1).2, .slice (i 2).1 (List.length x27.Stack) (i 2).2, .int .i64 x27.In, .slice (i 3).1 (List.length x27.Out) (i 3).2, .int .i64 x27.Code, .int .i64 x27.Steps] ∧ (HP.sep [SL (α := Int) 3 (.slice (i 0).1 (List.length x27.Regs) (i 0).2) x27.Regs, SL (α := Int) 3 (.slice (i 1).1 (List.length x27.Mem) (i 1).2) x27.Mem, SL (α := Int) 3 (.slice (i 2).1 (List.length x27.Stack) (i 2).2) x27.Stack, SL (α := Int) 3 (.slice (i 3).1 (List.length x27.Out) (i 3).2) x27.Out]).ok w (fun k => w27.heap.size ≤ k ∧ k < w.heap.size ∧ ow k = 6), .own fun ow v w => ∃ b, v = .pointer (some ⟨b, 0, none⟩) ∧ (BX b 28 [.int .i64 0, .slice none (List.length ([] : List Int)) 0, .slice none (List.length ([] : List Int)) 0, .slice none (List.length ([] : List Int)) 0, .int .i64 0, .slice none (List.length ([] : List Int)) 0, .int .i64 0, .int .i64 0]).ok w (fun k => w27.heap.size ≤ k ∧ k < w.heap.size ∧ ow k = 7), .any]
      [(8, .pointer (some ⟨b3, 0, none⟩)), (12, .pointer (some ⟨b6, 0, none⟩)), (14, .int .i64 x22.1)] mix hF (by kernel_rfl) (by kernel_rfl) (by kernel_rfl) (by kernel_rfl) ⟨Pd.monoO_eq, (Pd.monoO_is mono_rvb), Pd.monoO_eq, (Pd.monoO_is mono_rvb), (Pd.monoO_is mono_rvb), mono_new, mono_new, trivial⟩ (fun ow hG => ⟨np_to ow (np_loadBoxS hG hF ty24 rfl rfl (hs.bx 11 rfl) rfl rfl rfl rfl), np_to ow (np_callI [.inl (.agg #[.int .i64 p0.W, .int .i64 p0.Mem, .int .i64 p0.In, .slice a1 (List.length p0.Code) c1])] hG hF Try.call12 rfl rfl (by kernel_rfl) (fun w vs hC hg ha => by obtain ⟨_, rfl, rfl⟩ := ha; exact (laws_toProgram_ok n p0 hx24 ((RV.mk_Program p0 (r1)).ext hC)).mono fun e w' ⟨v, he, a0, c0, hv, _, hp, ho⟩ => ⟨_, he, hp.chg, by rw [hv]; exact (show RV w' (fun k => k < w'.heap.size) _ (x24 : D.Program) from RV.mk_Program x24 ((ho.rv 0 rfl).sub fun k hk _ => hk))⟩)), np_to ow (np_loadBoxS hG hF ty39 rfl rfl (hs.bx 10 rfl) rfl rfl rfl rfl), np_to ow (np_callI [.inl (.agg #[.int .i64 p1.Pc, .slice a2 (List.length p1.Regs) c2, .slice a3 (List.length p1.Mem) c3, .slice a4 (List.length p1.Stack) c4, .int .i64 p1.In, .slice a5 (List.length p1.Out) c5, .int .i64 p1.Code, .int .i64 p1.Steps])] hG hF Try.call21 rfl rfl (by kernel_rfl) (fun w vs hC hg ha => by obtain ⟨_, rfl, rfl⟩ := ha; exact (laws_toState_ok n p1 hx25 ((RV.mk_State p1 (r2) (r3) (r4) (r5)).ext hC)).mono fun e w' ⟨v, he, a0, c0, a2, c2, a4, c4, a6, c6, hv, _, hp, ho⟩ => ⟨_, he, hp.chg, by rw [hv]; exact (show RV w' (fun k => k < w'.heap.size) _ (x25 : D.State) from RV.mk_State x25 ((ho.rv 0 rfl).sub fun k hk _ => hk) ((ho.rv 1 rfl).sub fun k hk _ => hk) ((ho.rv 2 rfl).sub fun k hk _ => hk) ((ho.rv 3 rfl).sub fun k hk _ => hk))⟩)), np_to ow (np_callI [.inl (.slice a6 (List.length p2) c6)] hG hF Try.call22 rfl rfl (by kernel_rfl) (fun w vs hC hg ha => by obtain ⟨_, rfl, rfl⟩ := ha; exact (laws_toIntS_ok n p2 hx26 ((ra2).ext hC)).mono fun e w' ⟨v, he, a0, c0, hv, _, hp, ho⟩ => ⟨_, he, hp.chg, by rw [hv]; exact (show RV w' (fun k => k < w'.heap.size) _ (x26 : List Int) from (ho.rv 0 rfl).sub fun k hk _ => hk)⟩)), np_callN (V := fun i : Nat → Option Addr × Nat => .agg #[.int .i64 x27.Pc, .slice (i 0).1 (List.length x27.Regs) (i 0).2, .slice (i 1).1 (List.length x27.Mem) (i 1).2, .slice (i 2).1 (List.length x27.Stack) (i 2).2, .int .i64 x27.In, .slice (i 3).1 (List.length x27.Out) (i 3).2, .int .i64 x27.Code, .int .i64 x27.Steps]) (H := fun i => HP.sep [SL (α := Int) 3 (.slice (i 0).1 (List.length x27.Regs) (i 0).2) x27.Regs, SL (α := Int) 3 (.slice (i 1).1 (List.length x27.Mem) (i 1).2) x27.Mem, SL (α := Int) 3 (.slice (i 2).1 (List.length x27.Stack) (i 2).2) x27.Stack, SL (α := Int) 3 (.slice (i 3).1 (List.length x27.Out) (i 3).2) x27.Out]) [.inr 1, .inr 3, .inr 5] hG hF Try.call23 rfl rfl (by kernel_rfl) rfl (fun w vs hC hg ha => by obtain ⟨vq0, _, rfl, hq0, vq1, _, rfl, hq1, vq2, _, rfl, hq2, rfl⟩ := ha; exact (impl_StepState_ok n x24 x25 x26 hx27 (show RV w (fun k => k < w.heap.size) vq0 x24 from hq0) (show RV w (fun k => k < w.heap.size) vq1 x25 from hq1) (show RV w (fun k => k < w.heap.size) vq2 x26 from hq2)).mono fun e w' ⟨v, he, a0, c0, a2, c2, a4, c4, a6, c6, hv, _, hp, ho⟩ => ⟨v, he, hp.chg, (fun q => ([(a0, c0), (a2, c2), (a4, c4), (a6, c6)] : List (Option Addr × Nat)).getD q default), hv, sep_new hp ho⟩), np_alloc (z := .agg #[.int .i64 0, .slice none (List.length ([] : List Int)) 0, .slice none (List.length ([] : List Int)) 0, .slice none (List.length ([] : List Int)) 0, .int .i64 0, .slice none (List.length ([] : List Int)) 0, .int .i64 0, .int .i64 0]) hG hF rfl (by kernel_rfl) rfl rfl, trivial⟩) (by kernel_rfl) fun ow fr w28 hF hE hc => ?_)
  obtain ⟨i2, hv, hnw6⟩ := hE.is 100 6 rfl rfl
  have hF := hF.cons hv
  obtain ⟨b7, hv, hnw7⟩ := hE.is 16 7 rfl rfl
  have hF := hF.cons hv
  have hsN := sepO (w0 := w27) (ow := ow) [(6, HP.sep [SL (α := Int) 3 (.slice (i2 0).1 (List.length x27.Regs) (i2 0).2) x27.Regs, SL (α := Int) 3 (.slice (i2 1).1 (List.length x27.Mem) (i2 1).2) x27.Mem, SL (α := Int) 3 (.slice (i2 2).1 (List.length x27.Stack) (i2 2).2) x27.Stack, SL (α := Int) 3 (.slice (i2 3).1 (List.length x27.Out) (i2 3).2) x27.Out]), (7, BX b7 28 [.int .i64 0, .slice none (List.length ([] : List Int)) 0, .slice none (List.length ([] : List Int)) 0, .slice none (List.length ([] : List Int)) 0, .int .i64 0, .slice none (List.length ([] : List Int)) 0, .int .i64 0, .int .i64 0])] (show ([6, 7] : List Nat).Nodup by decide) ⟨hnw6, hnw7, trivial⟩ rfl
  obtain ⟨S20, hp, hs⟩ := hs.got hM0 (stp_new hc) hsN
  have ra2 := ra2.stp hM0 hp
  have r1 := r1.stp hM0 hp
  have r2 := r2.stp hM0 hp
  have r3 := r3.stp hM0 hp
  have r4 := r4.stp hM0 hp
  have r5 := r5.stp hM0 hp
  have hM0 := hM0.stp hp
  have hs : Sep [HP.sep [SL (α := Int) 3 (.slice (i2 0).1 (List.length x27.Regs) (i2 0).2) x27.Regs, SL (α := Int) 3 (.slice (i2 1).1 (List.length x27.Mem) (i2 1).2) x27.Mem, SL (α := Int) 3 (.slice (i2 2).1 (List.length x27.Stack) (i2 2).2) x27.Stack, SL (α := Int) 3 (.slice (i2 3).1 (List.length x27.Out) (i2 3).2) x27.Out], BX b7 28 [.int .i64 0, .slice none (List.length ([] : List Int)) 0, .slice none (List.length ([] : List Int)) 0, .slice none (List.length ([] : List Int)) 0, .int .i64 0, .slice none (List.length ([] : List Int)) 0, .int .i64 0, .int .i64 0], SL (α := Int) 3 (.slice a13 (List.length x10.Regs) c13) x22.2.Regs, SL (α := Int) 3 (.slice a14 (List.length x10.Mem) c14) x22.2.Mem, SL (α := Int) 3 (.slice a15 (List.length x10.Stack) c15) x22.2.Stack, SL (α := Int) 3 (.slice a16 (List.length x10.Out) c16) x22.2.Out, BX b6 28 [.int .i64 x10.Pc, .slice a13 (List.length x10.Regs) c13, .slice a14 (List.length x10.Mem) c14, .slice a15 (List.length x10.Stack) c15, .int .i64 x10.In, .slice a16 (List.length x10.Out) c16, .int .i64 x10.Code, .int .i64 x10.Steps], SL (α := Int) 3 (.slice (i1 0).1 (List.length x6.Regs) (i1 0).2) x6.Regs, SL (α := Int) 3 (.slice (i1 1).1 (List.length x6.Mem) (i1 1).2) x6.Mem, SL (α := Int) 3 (.slice (i1 2).1 (List.length x6.Stack) (i1 2).2) x6.Stack, SL (α := Int) 3 (.slice (i1 3).1 (List.length x6.Out) (i1 3).2) x6.Out, BX b3 28 [.int .i64 x6.Pc, .slice (i1 0).1 (List.length x6.Regs) (i1 0).2, .slice (i1 1).1 (List.length x6.Mem) (i1 1).2, .slice (i1 2).1 (List.length x6.Stack) (i1 2).2, .int .i64 x6.In, .slice (i1 3).1 (List.length x6.Out) (i1 3).2, .int .i64 x6.Code, .int .i64 x6.Steps], BX b2 39 [.int .i64 p1.Pc, .slice a2 (List.length p1.Regs) c2, .slice a3 (List.length p1.Mem) c3, .slice a4 (List.length p1.Stack) c4, .int .i64 p1.In, .slice a5 (List.length p1.Out) c5, .int .i64 p1.Code, .int .i64 p1.Steps], BX b1 24 [.int .i64 p0.W, .int .i64 p0.Mem, .int .i64 p0.In, .slice a1 (List.length p0.Code) c1]] w28 S20 := hs
  have hs : Sep [SL (α := Int) 3 (.slice (i2 0).1 (List.length x27.Regs) (i2 0).2) x27.Regs, SL (α := Int) 3 (.slice (i2 1).1 (List.length x27.Mem) (i2 1).2) x27.Mem, SL (α := Int) 3 (.slice (i2 2).1 (List.length x27.Stack) (i2 2).2) x27.Stack, SL (α := Int) 3 (.slice (i2 3).1 (List.length x27.Out) (i2 3).2) x27.Out, BX b7 28 [.int .i64 0, .slice none (List.length ([] : List Int)) 0, .slice none (List.length ([] : List Int)) 0, .slice none (List.length ([] : List Int)) 0, .int .i64 0, .slice none (List.length ([] : List Int)) 0, .int .i64 0, .int .i64 0], SL (α := Int) 3 (.slice a13 (List.length x10.Regs) c13) x22.2.Regs, SL (α := Int) 3 (.slice a14 (List.length x10.Mem) c14) x22.2.Mem, SL (α := Int) 3 (.slice a15 (List.length x10.Stack) c15) x22.2.Stack, SL (α := Int) 3 (.slice a16 (List.length x10.Out) c16) x22.2.Out, BX b6 28 [.int .i64 x10.Pc, .slice a13 (List.length x10.Regs) c13, .slice a14 (List.length x10.Mem) c14, .slice a15 (List.length x10.Stack) c15, .int .i64 x10.In, .slice a16 (List.length x10.Out) c16, .int .i64 x10.Code, .int .i64 x10.Steps], SL (α := Int) 3 (.slice (i1 0).1 (List.length x6.Regs) (i1 0).2) x6.Regs, SL (α := Int) 3 (.slice (i1 1).1 (List.length x6.Mem) (i1 1).2) x6.Mem, SL (α := Int) 3 (.slice (i1 2).1 (List.length x6.Stack) (i1 2).2) x6.Stack, SL (α := Int) 3 (.slice (i1 3).1 (List.length x6.Out) (i1 3).2) x6.Out, BX b3 28 [.int .i64 x6.Pc, .slice (i1 0).1 (List.length x6.Regs) (i1 0).2, .slice (i1 1).1 (List.length x6.Mem) (i1 1).2, .slice (i1 2).1 (List.length x6.Stack) (i1 2).2, .int .i64 x6.In, .slice (i1 3).1 (List.length x6.Out) (i1 3).2, .int .i64 x6.Code, .int .i64 x6.Steps], BX b2 39 [.int .i64 p1.Pc, .slice a2 (List.length p1.Regs) c2, .slice a3 (List.length p1.Mem) c3, .slice a4 (List.length p1.Stack) c4, .int .i64 p1.In, .slice a5 (List.length p1.Out) c5, .int .i64 p1.Code, .int .i64 p1.Steps], BX b1 24 [.int .i64 p0.W, .int .i64 p0.Mem, .int .i64 p0.In, .slice a1 (List.length p0.Code) c1]] w28 S20 := hs.flat
  have hs : Sep [SL (α := Int) 3 (.slice (i2 0).1 (List.length x27.Regs) (i2 0).2) x27.Regs, SL (α := Int) 3 (.slice (i2 1).1 (List.length x27.Mem) (i2 1).2) x27.Mem, SL (α := Int) 3 (.slice (i2 2).1 (List.length x27.Stack) (i2 2).2) x27.Stack, SL (α := Int) 3 (.slice (i2 3).1 (List.length x27.Out) (i2 3).2) x27.Out, BX b7 28 [.int .i64 0, .slice none (List.length ([] : List Int)) 0, .slice none (List.length ([] : List Int)) 0, .slice none (List.length ([] : List Int)) 0, .int .i64 0, .slice none (List.length ([] : List Int)) 0, .int .i64 0, .int .i64 0], SL (α := Int) 3 (.slice a13 (List.length x10.Regs) c13) x22.2.Regs, SL (α := Int) 3 (.slice a14 (List.length x10.Mem) c14) x22.2.Mem, SL (α := Int) 3 (.slice a15 (List.length x10.Stack) c15) x22.2.Stack, SL (α := Int) 3 (.slice a16 (List.length x10.Out) c16) x22.2.Out, BX b6 28 [.int .i64 x10.Pc, .slice a13 (List.length x10.Regs) c13, .slice a14 (List.length x10.Mem) c14, .slice a15 (List.length x10.Stack) c15, .int .i64 x10.In, .slice a16 (List.length x10.Out) c16, .int .i64 x10.Code, .int .i64 x10.Steps], SL (α := Int) 3 (.slice (i1 0).1 (List.length x6.Regs) (i1 0).2) x6.Regs, SL (α := Int) 3 (.slice (i1 1).1 (List.length x6.Mem) (i1 1).2) x6.Mem, SL (α := Int) 3 (.slice (i1 2).1 (List.length x6.Stack) (i1 2).2) x6.Stack, SL (α := Int) 3 (.slice (i1 3).1 (List.length x6.Out) (i1 3).2) x6.Out, BX b3 28 [.int .i64 x6.Pc, .slice (i1 0).1 (List.length x6.Regs) (i1 0).2, .slice (i1 1).1 (List.length x6.Mem) (i1 1).2, .slice (i1 2).1 (List.length x6.Stack) (i1 2).2, .int .i64 x6.In, .slice (i1 3).1 (List.length x6.Out) (i1 3).2, .int .i64 x6.Code, .int .i64 x6.Steps]] w28 S20 := Sep.pick [0, 1, 2, 3, 4, 5, 6, 7, 8, 9, 10, 11, 12, 13, 14] hs (by decide) rfl
  refine q_storeBoxS 4 hs hM0 rfl [.int .i64 x27.Pc, .slice (i2 0).1 (List.length x27.Regs) (i2 0).2, .slice (i2 1).1 (List.length x27.Mem) (i2 1).2, .slice (i2 2).1 (List.length x27.Stack) (i2 2).2, .int .i64 x27.In, .slice (i2 3).1 (List.length x27.Out) (i2 3).2, .int .i64 x27.Code, .int .i64 x27.Steps] rfl hF rfl rfl (by kernel_rfl) rfl rfl rfl fun w29 S21 hs hp hF => ?_
  have hM0 := hM0.stp hp
  have hs : Sep [SL (α := Int) 3 (.slice (i2 0).1 (List.length x27.Regs) (i2 0).2) x27.Regs, SL (α := Int) 3 (.slice (i2 1).1 (List.length x27.Mem) (i2 1).2) x27.Mem, SL (α := Int) 3 (.slice (i2 2).1 (List.length x27.Stack) (i2 2).2) x27.Stack, SL (α := Int) 3 (.slice (i2 3).1 (List.length x27.Out) (i2 3).2) x27.Out, BX b7 28 [.int .i64 x27.Pc, .slice (i2 0).1 (List.length x27.Regs) (i2 0).2, .slice (i2 1).1 (List.length x27.Mem) (i2 1).2, .slice (i2 2).1 (List.length x27.Stack) (i2 2).2, .int .i64 x27.In, .slice (i2 3).1 (List.length x27.Out) (i2 3).2, .int .i64 x27.Code, .int .i64 x27.Steps], SL (α := Int) 3 (.slice a13 (List.length x10.Regs) c13) x22.2.Regs, SL (α := Int) 3 (.slice a14 (List.length x10.Mem) c14) x22.2.Mem, SL (α := Int) 3 (.slice a15 (List.length x10.Stack) c15) x22.2.Stack, SL (α := Int) 3 (.slice a16 (List.length x10.Out) c16) x22.2.Out, BX b6 28 [.int .i64 x10.Pc, .slice a13 (List.length x10.Regs) c13, .slice a14 (List.length x10.Mem) c14, .slice a15 (List.length x10.Stack) c15, .int .i64 x10.In, .slice a16 (List.length x10.Out) c16, .int .i64 x10.Code, .int .i64 x10.Steps], SL (α := Int) 3 (.slice (i1 0).1 (List.length x6.Regs) (i1 0).2) x6.Regs, SL (α := Int) 3 (.slice (i1 1).1 (List.length x6.Mem) (i1 1).2) x6.Mem, SL (α := Int) 3 (.slice (i1 2).1 (List.length x6.Stack) (i1 2).2) x6.Stack, SL (α := Int) 3 (.slice (i1 3).1 (List.length x6.Out) (i1 3).2) x6.Out, BX b3 28 [.int .i64 x6.Pc, .slice (i1 0).1 (List.length x6.Regs) (i1 0).2, .slice (i1 1).1 (List.length x6.Mem) (i1 1).2, .slice (i1 2).1 (List.length x6.Stack) (i1 2).2, .int .i64 x6.In, .slice (i1 3).1 (List.length x6.Out) (i1 3).2, .int .i64 x6.Code, .int .i64 x6.Steps]] w29 S21 := hs
  refine from_end rfl (then_normal ?_)
  refine wp_seq ?_
  refine wp_seq (wp_text' ?_)
  refine s_loadBoxS ty28 rfl rfl hF rfl (hs.bx 4 rfl) rfl rfl fun fr hF => ?_
  have hs : Sep [SL (α := Int) 3 (.slice (i2 0).1 (List.length x27.Regs) (i2 0).2) x27.Regs, SL (α := Int) 3 (.slice (i2 1).1 (List.length x27.Mem) (i2 1).2) x27.Mem, SL (α := Int) 3 (.slice (i2 2).1 (List.length x27.Stack) (i2 2).2) x27.Stack, SL (α := Int) 3 (.slice (i2 3).1 (List.length x27.Out) (i2 3).2) x27.Out, SL (α := Int) 3 (.slice a13 (List.length x10.Regs) c13) x22.2.Regs, SL (α := Int) 3 (.slice a14 (List.length x10.Mem) c14) x22.2.Mem, SL (α := Int) 3 (.slice a15 (List.length x10.Stack) c15) x22.2.Stack, SL (α := Int) 3 (.slice a16 (List.length x10.Out) c16) x22.2.Out, BX b6 28 [.int .i64 x10.Pc, .slice a13 (List.length x10.Regs) c13, .slice a14 (List.length x10.Mem) c14, .slice a15 (List.length x10.Stack) c15, .int .i64 x10.In, .slice a16 (List.length x10.Out) c16, .int .i64 x10.Code, .int .i64 x10.Steps], SL (α := Int) 3 (.slice (i1 0).1 (List.length x6.Regs) (i1 0).2) x6.Regs, SL (α := Int) 3 (.slice (i1 1).1 (List.length x6.Mem) (i1 1).2) x6.Mem, SL (α := Int) 3 (.slice (i1 2).1 (List.length x6.Stack) (i1 2).2) x6.Stack, SL (α := Int) 3 (.slice (i1 3).1 (List.length x6.Out) (i1 3).2) x6.Out, BX b3 28 [.int .i64 x6.Pc, .slice (i1 0).1 (List.length x6.Regs) (i1 0).2, .slice (i1 1).1 (List.length x6.Mem) (i1 1).2, .slice (i1 2).1 (List.length x6.Stack) (i1 2).2, .int .i64 x6.In, .slice (i1 3).1 (List.length x6.Out) (i1 3).2, .int .i64 x6.Code, .int .i64 x6.Steps]] w29 S21 := Sep.pick [0, 1, 2, 3, 5, 6, 7, 8, 9, 10, 11, 12, 13, 14] hs (by decide) rfl
  refine s_loadBoxS ty28 rfl rfl hF rfl (hs.bx 13 rfl) rfl rfl fun fr hF => ?_
  have hs : Sep [SL (α := Int) 3 (.slice (i2 0).1 (List.length x27.Regs) (i2 0).2) x27.Regs, SL (α := Int) 3 (.slice (i2 1).1 (List.length x27.Mem) (i2 1).2) x27.Mem, SL (α := Int) 3 (.slice (i2 2).1 (List.length x27.Stack) (i2 2).2) x27.Stack, SL (α := Int) 3 (.slice (i2 3).1 (List.length x27.Out) (i2 3).2) x27.Out, SL (α := Int) 3 (.slice a13 (List.length x10.Regs) c13) x22.2.Regs, SL (α := Int) 3 (.slice a14 (List.length x10.Mem) c14) x22.2.Mem, SL (α := Int) 3 (.slice a15 (List.length x10.Stack) c15) x22.2.Stack, SL (α := Int) 3 (.slice a16 (List.length x10.Out) c16) x22.2.Out, BX b6 28 [.int .i64 x10.Pc, .slice a13 (List.length x10.Regs) c13, .slice a14 (List.length x10.Mem) c14, .slice a15 (List.length x10.Stack) c15, .int .i64 x10.In, .slice a16 (List.length x10.Out) c16, .int .i64 x10.Code, .int .i64 x10.Steps], SL (α := Int) 3 (.slice (i1 0).1 (List.length x6.Regs) (i1 0).2) x6.Regs, SL (α := Int) 3 (.slice (i1 1).1 (List.length x6.Mem) (i1 1).2) x6.Mem, SL (α := Int) 3 (.slice (i1 2).1 (List.length x6.Stack) (i1 2).2) x6.Stack, SL (α := Int) 3 (.slice (i1 3).1 (List.length x6.Out) (i1 3).2) x6.Out] w29 S21 := Sep.pick [0, 1, 2, 3, 4, 5, 6, 7, 8, 9, 10, 11, 12] hs (by decide) rfl
  obtain ⟨x28, hx28, h⟩ := bindE h
  refine s_call [.agg #[.int .i64 x27.Pc, .slice (i2 0).1 (List.length x27.Regs) (i2 0).2, .slice (i2 1).1 (List.length x27.Mem) (i2 1).2, .slice (i2 2).1 (List.length x27.Stack) (i2 2).2, .int .i64 x27.In, .slice (i2 3).1 (List.length x27.Out) (i2 3).2, .int .i64 x27.Code, .int .i64 x27.Steps], .agg #[.int .i64 x6.Pc, .slice (i1 0).1 (List.length x6.Regs) (i1 0).2, .slice (i1 1).1 (List.length x6.Mem) (i1 1).2, .slice (i1 2).1 (List.length x6.Stack) (i1 2).2, .int .i64 x6.In, .slice (i1 3).1 (List.length x6.Out) (i1 3).2, .int .i64 x6.Code, .int .i64 x6.Steps]] Try.call14 rfl rfl hF rfl (laws_eqState_ok n x27 x6 hx28 (RV.mk_State x27 (RV.any (hs.rv 0 rfl)) (RV.any (hs.rv 1 rfl)) (RV.any (hs.rv 2 rfl)) (RV.any (hs.rv 3 rfl))) (RV.mk_State x6 (RV.any (hs.rv 9 rfl)) (RV.any (hs.rv 10 rfl)) (RV.any (hs.rv 11 rfl)) (RV.any (hs.rv 12 rfl)))) fun v w30 fr hRes hF => ?_
  obtain ⟨rfl, hc⟩ := hRes
  have hs := hs.ext hc
  have hM0 := hM0.ext hc
  have hs : Sep [SL (α := Int) 3 (.slice a13 (List.length x10.Regs) c13) x22.2.Regs, SL (α := Int) 3 (.slice a14 (List.length x10.Mem) c14) x22.2.Mem, SL (α := Int) 3 (.slice a15 (List.length x10.Stack) c15) x22.2.Stack, SL (α := Int) 3 (.slice a16 (List.length x10.Out) c16) x22.2.Out, BX b6 28 [.int .i64 x10.Pc, .slice a13 (List.length x10.Regs) c13, .slice a14 (List.length x10.Mem) c14, .slice a15 (List.length x10.Stack) c15, .int .i64 x10.In, .slice a16 (List.length x10.Out) c16, .int .i64 x10.Code, .int .i64 x10.Steps]] w30 S21 := Sep.pick [4, 5, 6, 7, 8] hs (by decide) rfl
  refine from_pure 1 [(12, .pointer (some ⟨b6, 0, none⟩)), (14, .int .i64 x22.1), (104, .bool (!x28))] hF (by kernel_rfl) fun fr hF => ?_
  refine from_end rfl (then_normal ?_)
  refine (wp_if hF (b := (!x28)) rfl (fun hb => ?_) (fun hb => ?_))
  · replace h := iteT hb h
    have hs : Sep [] w30 S21 := Sep.pick [] hs (by decide) rfl
    refine wp_seq (wp_pure [(6, .bool false)] hF (by kernel_rfl) fun fr hF => then_normal ?_)
    obtain rfl := Option.some.inj h
    exact wp_ret (then_ret (ret1 rfl hF rfl ⟨_, rfl, rfl, hM0.chg⟩))
  replace h := iteF hb h
  refine (wp_skip (then_normal ?_))
  refine wp_seq (wp_pure [(12, .pointer (some ⟨b6, 0, none⟩)), (14, .int .i64 x22.1), (15, .int .i64 1)] hF (by kernel_rfl) fun fr hF => then_normal ?_)
  refine wp_seq (wp_text' ?_)
  refine s_loadBoxS ty28 rfl rfl hF rfl (hs.bx 4 rfl) rfl rfl fun fr hF => ?_
  have hs : Sep [SL (α := Int) 3 (.slice a13 (List.length x10.Regs) c13) x22.2.Regs, SL (α := Int) 3 (.slice a14 (List.length x10.Mem) c14) x22.2.Mem, SL (α := Int) 3 (.slice a15 (List.length x10.Stack) c15) x22.2.Stack, SL (α := Int) 3 (.slice a16 (List.length x10.Out) c16) x22.2.Out] w30 S21 := Sep.pick [0, 1, 2, 3] hs (by decide) rfl
  refine from_pure 1 [(14, .int .i64 x22.1), (105, .agg #[.int .i64 x10.Pc, .slice a13 (List.length x10.Regs) c13, .slice a14 (List.length x10.Mem) c14, .slice a15 (List.length x10.Stack) c15, .int .i64 x10.In, .slice a16 (List.length x10.Out) c16, .int .i64 x10.Code, .int .i64 x10.Steps]), (106, .int .i64 1)] hF (by kernel_rfl) fun fr hF => ?_
  obtain ⟨x29, hx29, h⟩ := bindE h
  refine s_call [.agg #[.int .i64 x10.Pc, .slice a13 (List.length x10.Regs) c13, .slice a14 (List.length x10.Mem) c14, .slice a15 (List.length x10.Stack) c15, .int .i64 x10.In, .slice a16 (List.length x10.Out) c16, .int .i64 x10.Code, .int .i64 x10.Steps], .int .i64 1] Try.call18 rfl rfl hF rfl (laws_heldState_ok n (D.State.mk x10.Pc x22.2.Regs x22.2.Mem x22.2.Stack x10.In x22.2.Out x10.Code x10.Steps) 1 hx29 (RV.mk_State (D.State.mk x10.Pc x22.2.Regs x22.2.Mem x22.2.Stack x10.In x22.2.Out x10.Code x10.Steps) (RV.any (hs.rv 0 rfl)) (RV.any (hs.rv 1 rfl)) (RV.any (hs.rv 2 rfl)) (RV.any (hs.rv 3 rfl)))) fun v w31 fr hRes hF => ?_
  obtain ⟨rfl, hc⟩ := hRes
  have hs := hs.ext hc
  have hM0 := hM0.ext hc
  have hs : Sep [] w31 S21 := Sep.pick [] hs (by decide) rfl
  refine from_pure 1 [(14, .int .i64 x22.1), (15, .int .i64 x29)] hF (by kernel_rfl) fun fr hF => ?_
  refine from_end rfl (then_normal ?_)
  refine wp_seq ?_
  refine wp_seq (wp_pure [(14, .int .i64 x22.1), (15, .int .i64 x29), (109, .bool (decide (x29 < 0)))] hF (by kernel_rfl) fun fr hF => then_normal ?_)
  refine (wp_if hF (b := (decide (x29 < 0))) rfl (fun hb => ?_) (fun hb => ?_))
  · replace h := iteT hb h
    refine wp_seq (wp_pure [(6, .bool false)] hF (by kernel_rfl) fun fr hF => then_normal ?_)
    obtain rfl := Option.some.inj h
    exact wp_ret (then_ret (ret1 rfl hF rfl ⟨_, rfl, rfl, hM0.chg⟩))
  replace h := iteF hb h
  refine (wp_skip (then_normal ?_))
  refine wp_seq ?_
  refine wp_seq (wp_pure [(112, .bool (x29 != x22.1))] hF (by kernel_rfl) fun fr hF => then_normal ?_)
  refine (wp_if hF (b := (x29 != x22.1)) rfl (fun hb => ?_) (fun hb => ?_))
  · replace h := iteT hb h
    refine wp_seq (wp_pure [(6, .bool false)] hF (by kernel_rfl) fun fr hF => then_normal ?_)
    obtain rfl := Option.some.inj h
    exact wp_ret (then_ret (ret1 rfl hF rfl ⟨_, rfl, rfl, hM0.chg⟩))
  replace h := iteF hb h
  refine (wp_skip (then_normal ?_))
  refine wp_seq (wp_pure [(6, .bool true)] hF (by kernel_rfl) fun fr hF => then_normal ?_)
  obtain rfl := Option.some.inj h
  exact wp_ret (ret1 rfl hF rfl ⟨_, rfl, rfl, hM0.chg⟩)
end Go.Proofs.Ytbfphbpeajmihaa
