/- Printed by gen2.py: the walks. -/
import Derived.Test.YtbfphbpeajmihaaWlkD
set_option linter.unusedVariables false
set_option maxRecDepth 100000
namespace Go.Proofs.Ytbfphbpeajmihaa
open Go.GL Go.Maps Go.WideMaps
theorem laws_eqIntS_ok (n : Nat) (p0 : List Int) (p1 : List Int) {r : Bool} (h : laws_eqIntS n p0 p1 = some r) {w : World} {G0 : Nat → Prop} {va0 : Value} (ra0 : RV w G0 va0 p0) {G1 : Nat → Prop} {va1 : Value} (ra1 : RV w G1 va1 p1) :
    Calls Try.prog 24 [va0, va1].toArray w fun e w' => ∃ v, e = .returned v ∧ v = .bool r ∧ Chg Non w w' := by
  unfold laws_eqIntS at h
  have hs := Sep.nil w Non
  have hM0 : Mem w Non (fun k => (G0 k ∨ G1 k) ∧ k < w.heap.size) w Non (fun k => (G0 k ∨ G1 k) ∧ k < w.heap.size) := Mem.start (fun _ h => h.elim) (fun _ h => h.2) (fun _ h => h.elim)
  have ra0 := ra0.sub (F' := (fun k => (G0 k ∨ G1 k) ∧ k < w.heap.size)) (fun k hk h => ⟨.inl h, hk⟩)
  obtain ⟨a1, c1, rfl, -⟩ := ra0.slice
  have ra1 := ra1.sub (F' := (fun k => (G0 k ∨ G1 k) ∧ k < w.heap.size)) (fun k hk h => ⟨.inr (h), hk⟩)
  obtain ⟨a2, c2, rfl, -⟩ := ra1.slice
  refine enter (N := 26) Try.func24 rfl Try.ntmps24 rfl fun fr hF => ?_
  refine wp_seq (wp_pure [(0, .slice a1 (List.length p0) c1), (1, .slice a2 (List.length p1) c2)] hF (by kernel_rfl) fun fr hF => then_normal ?_)
  refine wp_seq ?_
  refine wp_seq (wp_pure [(0, .slice a1 (List.length p0) c1), (1, .slice a2 (List.length p1) c2), (10, .bool ((len p0) != (len p1)))] hF (by kernel_rfl) fun fr hF => then_normal ?_)
  refine (wp_if hF (b := ((len p0) != (len p1))) rfl (fun hb => ?_) (fun hb => ?_))
  · replace h := iteT hb h
    refine wp_seq (wp_pure [(4, .bool false)] hF (by kernel_rfl) fun fr hF => then_normal ?_)
    obtain rfl := Option.some.inj h
    exact wp_ret (then_ret (ret1 rfl hF rfl ⟨_, rfl, rfl, hM0.chg⟩))
  · replace h := iteF hb h
    refine (wp_skip (then_normal ?_))
    refine wp_seq ?_
    refine wp_seq (wp_pure [(0, .slice a1 (List.length p0) c1), (1, .slice a2 (List.length p1) c2), (5, .int .i64 0)] hF (by kernel_rfl) fun fr hF => then_normal ?_)
    obtain ⟨rl1, hit1, h⟩ := bindE h
    have hk1 := h
    refine (wp_cut (M := fun fr w' => ∃ s, rl1 = .inl s ∧ ∃ S2 F2, FrS 26 [] fr ∧ Mem w Non (fun k => (G0 k ∨ G1 k) ∧ k < w.heap.size) w' S2 F2 ∧ Sep [] w' S2) (wp_block (wp_iter (Inv := fun s1 fr w' => ∃ S1 F1, FrS 26 [(0, .slice a1 (List.length p0) c1), (1, .slice a2 (List.length p1) c2), (5, .int .i64 s1)] fr ∧ Mem w Non (fun k => (G0 k ∨ G1 k) ∧ k < w.heap.size) w' S1 F1 ∧ Sep [] w' S1) hit1 ⟨Non, _, hF.sub _ (by kernel_rfl), (Mem.start hM0.bd hM0.bdF hM0.dj), hs⟩ fun s1 q1 fr w1i hI h hr1 => ?_)) fun fr w1o hM => ?_)
    · obtain ⟨S1, F1, hF, hM1, hs⟩ := hI
      have ra0 := ra0.mem hM1
      have ra1 := ra1.mem hM1
      refine wp_seq ?_
      refine wp_seq (wp_pure [(0, .slice a1 (List.length p0) c1), (1, .slice a2 (List.length p1) c2), (5, .int .i64 s1), (14, .bool (decide (s1 < (len p0))))] hF (by kernel_rfl) fun fr hF => then_normal ?_)
      refine (wp_if hF (b := (decide (s1 < (len p0)))) rfl (fun hb => ?_) (fun hb => ?_))
      · replace h := iteT hb h
        refine (wp_skip (then_normal ?_))
        refine wp_seq (wp_block ?_)
        obtain ⟨x1, hx1, h⟩ := bindE h
        obtain ⟨x2, hx2, h⟩ := bindE h
        refine wp_seq (region_bm 9 [0, 0, 3, 7, 0, 0, 48, 112, 255] [true, true, false, false, true, true, false, false, true]
            [.eq (.slice a1 (List.length p0) c1), .eq (.int .i64 s1), .is fun v w => ElemP w (fun k => k < w1i.heap.size) v (x1 : Int), .eq (.int .i64 x1), .eq (.slice a2 (List.length p1) c2), .eq (.int .i64 s1), .is fun v w => ElemP w (fun k => k < w1i.heap.size) v (x2 : Int), .eq (.int .i64 x2), .eq (.bool (x1 != x2))]
            [(0, .slice a1 (List.length p0) c1), (1, .slice a2 (List.length p1) c2), (5, .int .i64 s1), (25, .bool (x1 != x2))] mix hF (by kernel_rfl) (by kernel_rfl) (by kernel_rfl) (by kernel_rfl) ⟨(Pd.monoO_is mono_elem), Pd.monoO_eq, (Pd.monoO_is mono_elem), Pd.monoO_eq, trivial⟩ (fun ow hG => ⟨np_to ow (np_index hG hF ty3 Try.underlying26 rfl rfl (RV.sub (ra0) fun k hk _ => hk) rfl rfl (fun hg => ⟨get?_nn hx1, get?_at hx1⟩)), np_to ow (np_loadF (z := x1) (i := 2) hG hF ty3 rfl rfl rfl rfl rfl rfl rfl), np_to ow (np_index hG hF ty3 Try.underlying26 rfl rfl (RV.sub (ra1) fun k hk _ => hk) rfl rfl (fun hg => ⟨get?_nn hx2, get?_at hx2⟩)), np_to ow (np_loadF (z := x2) (i := 6) hG hF ty3 rfl rfl rfl rfl rfl rfl rfl), trivial⟩) (by kernel_rfl) fun ow fr w1 hF hE hc => ?_)
        have ra0 := ra0.ext hc
        have ra1 := ra1.ext hc
        have hs := hs.ext hc
        have hM1 := hM1.ext hc
        refine from_end rfl (then_normal ?_)
        refine (wp_if hF (b := (x1 != x2)) rfl (fun hb => ?_) (fun hb => ?_))
        · replace h := iteT hb h
          refine wp_seq (wp_pure [(4, .bool false)] hF (by kernel_rfl) fun fr hF => then_normal ?_)
          obtain rfl := hr1 _ (Option.some.inj h).symm
          obtain rfl := Option.some.inj hk1
          exact wp_ret (blk_ret (then_ret (then_ret (blk_ret (then_ret (ret1 rfl hF rfl ⟨_, rfl, rfl, (hM0.trans hM1).chg⟩))))))
        · replace h := iteF hb h
          refine (wp_skip ?_)
          refine blk_normal (then_normal ?_)
          refine (wp_pure [(0, .slice a1 (List.length p0) c1), (1, .slice a2 (List.length p1) c2), (5, .int .i64 (w64 (s1 + 1)))] hF (by kernel_rfl) fun fr hF => then_normal ?_)
          exact ⟨_, (Option.some.inj h).symm, S1, _, hF.sub _ (by kernel_rfl), hM1, hs⟩
      · replace h := iteF hb h
        refine (wp_exit (then_exit (then_exit (blk_exit_eq ?_))))
        obtain rfl := hr1 _ (Option.some.inj h).symm
        exact then_normal ⟨_, rfl, S1, _, hF.sub _ (by kernel_rfl), hM1, hs⟩
    · obtain ⟨s1r, rfl, hM⟩ := hM
      obtain ⟨S2, F2, hF, hMx, hs⟩ := hM
      have hM0 := hM0.trans hMx
      refine wp_seq (wp_pure [(4, .bool true)] hF (by kernel_rfl) fun fr hF => then_normal ?_)
      obtain rfl := Option.some.inj h
      exact wp_ret (ret1 rfl hF rfl ⟨_, rfl, rfl, hM0.chg⟩)

theorem laws_eqState_ok (n : Nat) (p0 : D.State) (p1 : D.State) {r : Bool} (h : laws_eqState n p0 p1 = some r) {w : World} {G0 : Nat → Prop} {va0 : Value} (ra0 : RV w G0 va0 p0) {G1 : Nat → Prop} {va1 : Value} (ra1 : RV w G1 va1 p1) :
    Calls Try.prog 14 [va0, va1].toArray w fun e w' => ∃ v, e = .returned v ∧ v = .bool r ∧ Chg Non w w' := by
  unfold laws_eqState at h
  have hs := Sep.nil w Non
  have hM0 : Mem w Non (fun k => (G0 k ∨ G1 k) ∧ k < w.heap.size) w Non (fun k => (G0 k ∨ G1 k) ∧ k < w.heap.size) := Mem.start (fun _ h => h.elim) (fun _ h => h.2) (fun _ h => h.elim)
  have ra0 := ra0.sub (F' := (fun k => (G0 k ∨ G1 k) ∧ k < w.heap.size)) (fun k hk h => ⟨.inl h, hk⟩)
  obtain ⟨v1, v2, v3, v4, rfl, r1, r2, r3, r4⟩ := RV.State ra0
  obtain ⟨a1, c1, rfl, -⟩ := r1.slice
  obtain ⟨a2, c2, rfl, -⟩ := r2.slice
  obtain ⟨a3, c3, rfl, -⟩ := r3.slice
  obtain ⟨a4, c4, rfl, -⟩ := r4.slice
  have ra1 := ra1.sub (F' := (fun k => (G0 k ∨ G1 k) ∧ k < w.heap.size)) (fun k hk h => ⟨.inr (h), hk⟩)
  obtain ⟨v5, v6, v7, v8, rfl, r5, r6, r7, r8⟩ := RV.State ra1
  obtain ⟨a5, c5, rfl, -⟩ := r5.slice
  obtain ⟨a6, c6, rfl, -⟩ := r6.slice
  obtain ⟨a7, c7, rfl, -⟩ := r7.slice
  obtain ⟨a8, c8, rfl, -⟩ := r8.slice
  refine enter (N := 49) Try.func14 rfl Try.ntmps14 rfl fun fr hF => ?_
  refine wp_seq (wp_text' ?_)
  refine q_box hs hM0 [.int .i64 p0.Pc, .slice a1 (List.length p0.Regs) c1, .slice a2 (List.length p0.Mem) c2, .slice a3 (List.length p0.Stack) c3, .int .i64 p0.In, .slice a4 (List.length p0.Out) c4, .int .i64 p0.Code, .int .i64 p0.Steps] rfl rfl hF rfl rfl fun b1 w1 S1 fr hs hp hF => ?_
  have r1 := r1.stp hM0 hp
  have r2 := r2.stp hM0 hp
  have r3 := r3.stp hM0 hp
  have r4 := r4.stp hM0 hp
  have r5 := r5.stp hM0 hp
  have r6 := r6.stp hM0 hp
  have r7 := r7.stp hM0 hp
  have r8 := r8.stp hM0 hp
  have hM0 := hM0.stp hp
  have hs : Sep [BX b1 28 [.int .i64 p0.Pc, .slice a1 (List.length p0.Regs) c1, .slice a2 (List.length p0.Mem) c2, .slice a3 (List.length p0.Stack) c3, .int .i64 p0.In, .slice a4 (List.length p0.Out) c4, .int .i64 p0.Code, .int .i64 p0.Steps]] w1 S1 := hs
  refine q_box hs hM0 [.int .i64 p1.Pc, .slice a5 (List.length p1.Regs) c5, .slice a6 (List.length p1.Mem) c6, .slice a7 (List.length p1.Stack) c7, .int .i64 p1.In, .slice a8 (List.length p1.Out) c8, .int .i64 p1.Code, .int .i64 p1.Steps] rfl rfl hF rfl rfl fun b2 w2 S2 fr hs hp hF => ?_
  have r5 := r5.stp hM0 hp
  have r6 := r6.stp hM0 hp
  have r7 := r7.stp hM0 hp
  have r8 := r8.stp hM0 hp
  have r1 := r1.stp hM0 hp
  have r2 := r2.stp hM0 hp
  have r3 := r3.stp hM0 hp
  have r4 := r4.stp hM0 hp
  have hM0 := hM0.stp hp
  have hs : Sep [BX b2 28 [.int .i64 p1.Pc, .slice a5 (List.length p1.Regs) c5, .slice a6 (List.length p1.Mem) c6, .slice a7 (List.length p1.Stack) c7, .int .i64 p1.In, .slice a8 (List.length p1.Out) c8, .int .i64 p1.Code, .int .i64 p1.Steps], BX b1 28 [.int .i64 p0.Pc, .slice a1 (List.length p0.Regs) c1, .slice a2 (List.length p0.Mem) c2, .slice a3 (List.length p0.Stack) c3, .int .i64 p0.In, .slice a4 (List.length p0.Out) c4, .int .i64 p0.Code, .int .i64 p0.Steps]] w2 S2 := hs
  refine from_pure 1 [(2, .pointer (some ⟨b1, 0, none⟩)), (3, .pointer (some ⟨b2, 0, none⟩))] hF (by kernel_rfl) fun fr hF => ?_
  refine from_end rfl (then_normal ?_)
  refine wp_seq ?_
  refine wp_seq (wp_text' ?_)
  refine from_pure 1 [(2, .pointer (some ⟨b1, 0, none⟩)), (3, .pointer (some ⟨b2, 0, none⟩)), (5, .pointer (some ⟨b1, 0, none⟩))] hF (by kernel_rfl) fun fr hF => ?_
  refine s_loadBox (.int .i64 p0.Pc) ty3 rfl rfl hF rfl (hs.bx 1 rfl) rfl rfl fun fr hF => ?_
  refine from_pure 1 [(2, .pointer (some ⟨b1, 0, none⟩)), (3, .pointer (some ⟨b2, 0, none⟩)), (6, .int .i64 p0.Pc), (7, .pointer (some ⟨b2, 0, none⟩))] hF (by kernel_rfl) fun fr hF => ?_
  refine s_loadBox (.int .i64 p1.Pc) ty3 rfl rfl hF rfl (hs.bx 0 rfl) rfl rfl fun fr hF => ?_
  refine from_pure 1 [(2, .pointer (some ⟨b1, 0, none⟩)), (3, .pointer (some ⟨b2, 0, none⟩)), (9, .bool (p0.Pc != p1.Pc))] hF (by kernel_rfl) fun fr hF => ?_
  refine from_end rfl (then_normal ?_)
  refine (wp_if hF (b := (p0.Pc != p1.Pc)) rfl (fun hb => ?_) (fun hb => ?_))
  · replace h := iteT hb h
    have hs : Sep [] w2 S2 := Sep.pick [] hs (by decide) rfl
    refine wp_seq (wp_pure [(4, .bool false)] hF (by kernel_rfl) fun fr hF => then_normal ?_)
    obtain rfl := Option.some.inj h
    exact wp_ret (then_ret (ret1 rfl hF rfl ⟨_, rfl, rfl, hM0.chg⟩))
  · replace h := iteF hb h
    refine (wp_skip (then_normal ?_))
    refine wp_seq ?_
    refine wp_seq (wp_text' ?_)
    refine from_pure 1 [(2, .pointer (some ⟨b1, 0, none⟩)), (3, .pointer (some ⟨b2, 0, none⟩)), (10, .pointer (some ⟨b1, 1, none⟩))] hF (by kernel_rfl) fun fr hF => ?_
    refine s_loadBox (.slice a1 (List.length p0.Regs) c1) ty26 rfl rfl hF rfl (hs.bx 1 rfl) rfl rfl fun fr hF => ?_
    refine from_pure 1 [(2, .pointer (some ⟨b1, 0, none⟩)), (3, .pointer (some ⟨b2, 0, none⟩)), (11, .slice a1 (List.length p0.Regs) c1), (12, .pointer (some ⟨b2, 1, none⟩))] hF (by kernel_rfl) fun fr hF => ?_
    refine s_loadBox (.slice a5 (List.length p1.Regs) c5) ty26 rfl rfl hF rfl (hs.bx 0 rfl) rfl rfl fun fr hF => ?_
    obtain ⟨x1, hx1, h⟩ := bindE h
    refine s_call [.slice a1 (List.length p0.Regs) c1, .slice a5 (List.length p1.Regs) c5] Try.call24 rfl rfl hF rfl (laws_eqIntS_ok n p0.Regs p1.Regs hx1 (r1) (r5)) fun v w3 fr hRes hF => ?_
    obtain ⟨rfl, hc⟩ := hRes
    have r1 := r1.ext hc
    have r5 := r5.ext hc
    have r6 := r6.ext hc
    have r7 := r7.ext hc
    have r8 := r8.ext hc
    have r2 := r2.ext hc
    have r3 := r3.ext hc
    have r4 := r4.ext hc
    have hs := hs.ext hc
    have hM0 := hM0.ext hc
    refine from_pure 1 [(2, .pointer (some ⟨b1, 0, none⟩)), (3, .pointer (some ⟨b2, 0, none⟩)), (15, .bool (!x1))] hF (by kernel_rfl) fun fr hF => ?_
    refine from_end rfl (then_normal ?_)
    refine (wp_if hF (b := (!x1)) rfl (fun hb => ?_) (fun hb => ?_))
    · replace h := iteT hb h
      have hs : Sep [] w3 S2 := Sep.pick [] hs (by decide) rfl
      refine wp_seq (wp_pure [(4, .bool false)] hF (by kernel_rfl) fun fr hF => then_normal ?_)
      obtain rfl := Option.some.inj h
      exact wp_ret (then_ret (ret1 rfl hF rfl ⟨_, rfl, rfl, hM0.chg⟩))
    · replace h := iteF hb h
      refine (wp_skip (then_normal ?_))
      refine wp_seq ?_
      refine wp_seq (wp_text' ?_)
      refine from_pure 1 [(2, .pointer (some ⟨b1, 0, none⟩)), (3, .pointer (some ⟨b2, 0, none⟩)), (16, .pointer (some ⟨b1, 2, none⟩))] hF (by kernel_rfl) fun fr hF => ?_
      refine s_loadBox (.slice a2 (List.length p0.Mem) c2) ty26 rfl rfl hF rfl (hs.bx 1 rfl) rfl rfl fun fr hF => ?_
      refine from_pure 1 [(2, .pointer (some ⟨b1, 0, none⟩)), (3, .pointer (some ⟨b2, 0, none⟩)), (17, .slice a2 (List.length p0.Mem) c2), (18, .pointer (some ⟨b2, 2, none⟩))] hF (by kernel_rfl) fun fr hF => ?_
      refine s_loadBox (.slice a6 (List.length p1.Mem) c6) ty26 rfl rfl hF rfl (hs.bx 0 rfl) rfl rfl fun fr hF => ?_
      obtain ⟨x2, hx2, h⟩ := bindE h
      refine s_call [.slice a2 (List.length p0.Mem) c2, .slice a6 (List.length p1.Mem) c6] Try.call24 rfl rfl hF rfl (laws_eqIntS_ok n p0.Mem p1.Mem hx2 (r2) (r6)) fun v w4 fr hRes hF => ?_
      obtain ⟨rfl, hc⟩ := hRes
      have r2 := r2.ext hc
      have r6 := r6.ext hc
      have r5 := r5.ext hc
      have r7 := r7.ext hc
      have r8 := r8.ext hc
      have r1 := r1.ext hc
      have r3 := r3.ext hc
      have r4 := r4.ext hc
      have hs := hs.ext hc
      have hM0 := hM0.ext hc
      refine from_pure 1 [(2, .pointer (some ⟨b1, 0, none⟩)), (3, .pointer (some ⟨b2, 0, none⟩)), (21, .bool (!x2))] hF (by kernel_rfl) fun fr hF => ?_
      refine from_end rfl (then_normal ?_)
      refine (wp_if hF (b := (!x2)) rfl (fun hb => ?_) (fun hb => ?_))
      · replace h := iteT hb h
        have hs : Sep [] w4 S2 := Sep.pick [] hs (by decide) rfl
        refine wp_seq (wp_pure [(4, .bool false)] hF (by kernel_rfl) fun fr hF => then_normal ?_)
        obtain rfl := Option.some.inj h
        exact wp_ret (then_ret (ret1 rfl hF rfl ⟨_, rfl, rfl, hM0.chg⟩))
      · replace h := iteF hb h
        refine (wp_skip (then_normal ?_))
        refine wp_seq ?_
        refine wp_seq (wp_text' ?_)
        refine from_pure 1 [(2, .pointer (some ⟨b1, 0, none⟩)), (3, .pointer (some ⟨b2, 0, none⟩)), (22, .pointer (some ⟨b1, 3, none⟩))] hF (by kernel_rfl) fun fr hF => ?_
        refine s_loadBox (.slice a3 (List.length p0.Stack) c3) ty26 rfl rfl hF rfl (hs.bx 1 rfl) rfl rfl fun fr hF => ?_
        refine from_pure 1 [(2, .pointer (some ⟨b1, 0, none⟩)), (3, .pointer (some ⟨b2, 0, none⟩)), (23, .slice a3 (List.length p0.Stack) c3), (24, .pointer (some ⟨b2, 3, none⟩))] hF (by kernel_rfl) fun fr hF => ?_
        refine s_loadBox (.slice a7 (List.length p1.Stack) c7) ty26 rfl rfl hF rfl (hs.bx 0 rfl) rfl rfl fun fr hF => ?_
        obtain ⟨x3, hx3, h⟩ := bindE h
        refine s_call [.slice a3 (List.length p0.Stack) c3, .slice a7 (List.length p1.Stack) c7] Try.call24 rfl rfl hF rfl (laws_eqIntS_ok n p0.Stack p1.Stack hx3 (r3) (r7)) fun v w5 fr hRes hF => ?_
        obtain ⟨rfl, hc⟩ := hRes
        have r3 := r3.ext hc
        have r7 := r7.ext hc
        have r5 := r5.ext hc
        have r6 := r6.ext hc
        have r8 := r8.ext hc
        have r1 := r1.ext hc
        have r2 := r2.ext hc
        have r4 := r4.ext hc
        have hs := hs.ext hc
        have hM0 := hM0.ext hc
        refine from_pure 1 [(2, .pointer (some ⟨b1, 0, none⟩)), (3, .pointer (some ⟨b2, 0, none⟩)), (27, .bool (!x3))] hF (by kernel_rfl) fun fr hF => ?_
        refine from_end rfl (then_normal ?_)
        refine (wp_if hF (b := (!x3)) rfl (fun hb => ?_) (fun hb => ?_))
        · replace h := iteT hb h
          have hs : Sep [] w5 S2 := Sep.pick [] hs (by decide) rfl
          refine wp_seq (wp_pure [(4, .bool false)] hF (by kernel_rfl) fun fr hF => then_normal ?_)
          obtain rfl := Option.some.inj h
          exact wp_ret (then_ret (ret1 rfl hF rfl ⟨_, rfl, rfl, hM0.chg⟩))
        · replace h := iteF hb h
          refine (wp_skip (then_normal ?_))
          refine wp_seq ?_
          refine wp_seq (wp_text' ?_)
          refine from_pure 1 [(2, .pointer (some ⟨b1, 0, none⟩)), (3, .pointer (some ⟨b2, 0, none⟩)), (28, .pointer (some ⟨b1, 4, none⟩))] hF (by kernel_rfl) fun fr hF => ?_
          refine s_loadBox (.int .i64 p0.In) ty3 rfl rfl hF rfl (hs.bx 1 rfl) rfl rfl fun fr hF => ?_
          refine from_pure 1 [(2, .pointer (some ⟨b1, 0, none⟩)), (3, .pointer (some ⟨b2, 0, none⟩)), (29, .int .i64 p0.In), (30, .pointer (some ⟨b2, 4, none⟩))] hF (by kernel_rfl) fun fr hF => ?_
          refine s_loadBox (.int .i64 p1.In) ty3 rfl rfl hF rfl (hs.bx 0 rfl) rfl rfl fun fr hF => ?_
          refine from_pure 1 [(2, .pointer (some ⟨b1, 0, none⟩)), (3, .pointer (some ⟨b2, 0, none⟩)), (32, .bool (p0.In != p1.In))] hF (by kernel_rfl) fun fr hF => ?_
          refine from_end rfl (then_normal ?_)
          refine (wp_if hF (b := (p0.In != p1.In)) rfl (fun hb => ?_) (fun hb => ?_))
          · replace h := iteT hb h
            have hs : Sep [] w5 S2 := Sep.pick [] hs (by decide) rfl
            refine wp_seq (wp_pure [(4, .bool false)] hF (by kernel_rfl) fun fr hF => then_normal ?_)
            obtain rfl := Option.some.inj h
            exact wp_ret (then_ret (ret1 rfl hF rfl ⟨_, rfl, rfl, hM0.chg⟩))
          · replace h := iteF hb h
            refine (wp_skip (then_normal ?_))
            refine wp_seq ?_
            refine wp_seq (wp_text' ?_)
            refine from_pure 1 [(2, .pointer (some ⟨b1, 0, none⟩)), (3, .pointer (some ⟨b2, 0, none⟩)), (33, .pointer (some ⟨b1, 5, none⟩))] hF (by kernel_rfl) fun fr hF => ?_
            refine s_loadBox (.slice a4 (List.length p0.Out) c4) ty26 rfl rfl hF rfl (hs.bx 1 rfl) rfl rfl fun fr hF => ?_
            refine from_pure 1 [(2, .pointer (some ⟨b1, 0, none⟩)), (3, .pointer (some ⟨b2, 0, none⟩)), (34, .slice a4 (List.length p0.Out) c4), (35, .pointer (some ⟨b2, 5, none⟩))] hF (by kernel_rfl) fun fr hF => ?_
            refine s_loadBox (.slice a8 (List.length p1.Out) c8) ty26 rfl rfl hF rfl (hs.bx 0 rfl) rfl rfl fun fr hF => ?_
            obtain ⟨x4, hx4, h⟩ := bindE h
            refine s_call [.slice a4 (List.length p0.Out) c4, .slice a8 (List.length p1.Out) c8] Try.call24 rfl rfl hF rfl (laws_eqIntS_ok n p0.Out p1.Out hx4 (r4) (r8)) fun v w6 fr hRes hF => ?_
            obtain ⟨rfl, hc⟩ := hRes
            have r4 := r4.ext hc
            have r8 := r8.ext hc
            have r5 := r5.ext hc
            have r6 := r6.ext hc
            have r7 := r7.ext hc
            have r1 := r1.ext hc
            have r2 := r2.ext hc
            have r3 := r3.ext hc
            have hs := hs.ext hc
            have hM0 := hM0.ext hc
            refine from_pure 1 [(2, .pointer (some ⟨b1, 0, none⟩)), (3, .pointer (some ⟨b2, 0, none⟩)), (38, .bool (!x4))] hF (by kernel_rfl) fun fr hF => ?_
            refine from_end rfl (then_normal ?_)
            refine (wp_if hF (b := (!x4)) rfl (fun hb => ?_) (fun hb => ?_))
            · replace h := iteT hb h
              have hs : Sep [] w6 S2 := Sep.pick [] hs (by decide) rfl
              refine wp_seq (wp_pure [(4, .bool false)] hF (by kernel_rfl) fun fr hF => then_normal ?_)
              obtain rfl := Option.some.inj h
              exact wp_ret (then_ret (ret1 rfl hF rfl ⟨_, rfl, rfl, hM0.chg⟩))
            · replace h := iteF hb h
              refine (wp_skip (then_normal ?_))
              refine wp_seq ?_
              refine wp_seq (wp_text' ?_)
              refine from_pure 1 [(2, .pointer (some ⟨b1, 0, none⟩)), (3, .pointer (some ⟨b2, 0, none⟩)), (39, .pointer (some ⟨b1, 6, none⟩))] hF (by kernel_rfl) fun fr hF => ?_
              refine s_loadBox (.int .i64 p0.Code) ty3 rfl rfl hF rfl (hs.bx 1 rfl) rfl rfl fun fr hF => ?_
              refine from_pure 1 [(2, .pointer (some ⟨b1, 0, none⟩)), (3, .pointer (some ⟨b2, 0, none⟩)), (40, .int .i64 p0.Code), (41, .pointer (some ⟨b2, 6, none⟩))] hF (by kernel_rfl) fun fr hF => ?_
              refine s_loadBox (.int .i64 p1.Code) ty3 rfl rfl hF rfl (hs.bx 0 rfl) rfl rfl fun fr hF => ?_
              refine from_pure 1 [(2, .pointer (some ⟨b1, 0, none⟩)), (3, .pointer (some ⟨b2, 0, none⟩)), (43, .bool (p0.Code != p1.Code))] hF (by kernel_rfl) fun fr hF => ?_
              refine from_end rfl (then_normal ?_)
              refine (wp_if hF (b := (p0.Code != p1.Code)) rfl (fun hb => ?_) (fun hb => ?_))
              · replace h := iteT hb h
                have hs : Sep [] w6 S2 := Sep.pick [] hs (by decide) rfl
                refine wp_seq (wp_pure [(4, .bool false)] hF (by kernel_rfl) fun fr hF => then_normal ?_)
                obtain rfl := Option.some.inj h
                exact wp_ret (then_ret (ret1 rfl hF rfl ⟨_, rfl, rfl, hM0.chg⟩))
              · replace h := iteF hb h
                refine (wp_skip (then_normal ?_))
                refine wp_seq ?_
                refine wp_seq (wp_text' ?_)
                refine from_pure 1 [(3, .pointer (some ⟨b2, 0, none⟩)), (44, .pointer (some ⟨b1, 7, none⟩))] hF (by kernel_rfl) fun fr hF => ?_
                refine s_loadBox (.int .i64 p0.Steps) ty3 rfl rfl hF rfl (hs.bx 1 rfl) rfl rfl fun fr hF => ?_
                have hs : Sep [BX b2 28 [.int .i64 p1.Pc, .slice a5 (List.length p1.Regs) c5, .slice a6 (List.length p1.Mem) c6, .slice a7 (List.length p1.Stack) c7, .int .i64 p1.In, .slice a8 (List.length p1.Out) c8, .int .i64 p1.Code, .int .i64 p1.Steps]] w6 S2 := Sep.pick [0] hs (by decide) rfl
                refine from_pure 1 [(45, .int .i64 p0.Steps), (46, .pointer (some ⟨b2, 7, none⟩))] hF (by kernel_rfl) fun fr hF => ?_
                refine s_loadBox (.int .i64 p1.Steps) ty3 rfl rfl hF rfl (hs.bx 0 rfl) rfl rfl fun fr hF => ?_
                have hs : Sep [] w6 S2 := Sep.pick [] hs (by decide) rfl
                refine from_pure 1 [(48, .bool (p0.Steps != p1.Steps))] hF (by kernel_rfl) fun fr hF => ?_
                refine from_end rfl (then_normal ?_)
                refine (wp_if hF (b := (p0.Steps != p1.Steps)) rfl (fun hb => ?_) (fun hb => ?_))
                · replace h := iteT hb h
                  refine wp_seq (wp_pure [(4, .bool false)] hF (by kernel_rfl) fun fr hF => then_normal ?_)
                  obtain rfl := Option.some.inj h
                  exact wp_ret (then_ret (ret1 rfl hF rfl ⟨_, rfl, rfl, hM0.chg⟩))
                · replace h := iteF hb h
                  refine (wp_skip (then_normal ?_))
                  refine wp_seq (wp_pure [(4, .bool true)] hF (by kernel_rfl) fun fr hF => then_normal ?_)
                  obtain rfl := Option.some.inj h
                  exact wp_ret (ret1 rfl hF rfl ⟨_, rfl, rfl, hM0.chg⟩)

theorem laws_eqIns_ok (p0 : D.Ins) (p1 : D.Ins) {r : Bool} (h : laws_eqIns p0 p1 = some r) {w : World} :
    Calls Try.prog 63 [.agg #[.int .i64 p0.Op, .int .i64 p0.A, .int .i64 p0.B, .int .i64 p0.C], .agg #[.int .i64 p1.Op, .int .i64 p1.A, .int .i64 p1.B, .int .i64 p1.C]].toArray w fun e w' => ∃ v, e = .returned v ∧ v = .bool r ∧ Chg Non w w' := by
  unfold laws_eqIns at h
  have hs := Sep.nil w Non
  have hM0 : Mem w Non (fun k => (False) ∧ k < w.heap.size) w Non (fun k => (False) ∧ k < w.heap.size) := Mem.start (fun _ h => h.elim) (fun _ h => h.2) (fun _ h => h.elim)
  refine enter (N := 25) Try.func63 rfl Try.ntmps63 rfl fun fr hF => ?_
  refine wp_seq (wp_text' ?_)
  refine q_box hs hM0 [.int .i64 p0.Op, .int .i64 p0.A, .int .i64 p0.B, .int .i64 p0.C] rfl rfl hF rfl rfl fun b1 w1 S1 fr hs hp hF => ?_
  have hM0 := hM0.stp hp
  have hs : Sep [BX b1 66 [.int .i64 p0.Op, .int .i64 p0.A, .int .i64 p0.B, .int .i64 p0.C]] w1 S1 := hs
  refine q_box hs hM0 [.int .i64 p1.Op, .int .i64 p1.A, .int .i64 p1.B, .int .i64 p1.C] rfl rfl hF rfl rfl fun b2 w2 S2 fr hs hp hF => ?_
  have hM0 := hM0.stp hp
  have hs : Sep [BX b2 66 [.int .i64 p1.Op, .int .i64 p1.A, .int .i64 p1.B, .int .i64 p1.C], BX b1 66 [.int .i64 p0.Op, .int .i64 p0.A, .int .i64 p0.B, .int .i64 p0.C]] w2 S2 := hs
  refine from_pure 1 [(2, .pointer (some ⟨b1, 0, none⟩)), (3, .pointer (some ⟨b2, 0, none⟩))] hF (by kernel_rfl) fun fr hF => ?_
  refine from_end rfl (then_normal ?_)
  refine wp_seq ?_
  refine wp_seq (wp_text' ?_)
  refine from_pure 1 [(2, .pointer (some ⟨b1, 0, none⟩)), (3, .pointer (some ⟨b2, 0, none⟩)), (5, .pointer (some ⟨b1, 0, none⟩))] hF (by kernel_rfl) fun fr hF => ?_
  refine s_loadBox (.int .i64 p0.Op) ty3 rfl rfl hF rfl (hs.bx 1 rfl) rfl rfl fun fr hF => ?_
  refine from_pure 1 [(2, .pointer (some ⟨b1, 0, none⟩)), (3, .pointer (some ⟨b2, 0, none⟩)), (6, .int .i64 p0.Op), (7, .pointer (some ⟨b2, 0, none⟩))] hF (by kernel_rfl) fun fr hF => ?_
  refine s_loadBox (.int .i64 p1.Op) ty3 rfl rfl hF rfl (hs.bx 0 rfl) rfl rfl fun fr hF => ?_
  refine from_pure 1 [(2, .pointer (some ⟨b1, 0, none⟩)), (3, .pointer (some ⟨b2, 0, none⟩)), (9, .bool (p0.Op != p1.Op))] hF (by kernel_rfl) fun fr hF => ?_
  refine from_end rfl (then_normal ?_)
  refine (wp_if hF (b := (p0.Op != p1.Op)) rfl (fun hb => ?_) (fun hb => ?_))
  · replace h := iteT hb h
    have hs : Sep [] w2 S2 := Sep.pick [] hs (by decide) rfl
    refine wp_seq (wp_pure [(4, .bool false)] hF (by kernel_rfl) fun fr hF => then_normal ?_)
    obtain rfl := Option.some.inj h
    exact wp_ret (then_ret (ret1 rfl hF rfl ⟨_, rfl, rfl, hM0.chg⟩))
  · replace h := iteF hb h
    refine (wp_skip (then_normal ?_))
    refine wp_seq ?_
    refine wp_seq (wp_text' ?_)
    refine from_pure 1 [(2, .pointer (some ⟨b1, 0, none⟩)), (3, .pointer (some ⟨b2, 0, none⟩)), (10, .pointer (some ⟨b1, 1, none⟩))] hF (by kernel_rfl) fun fr hF => ?_
    refine s_loadBox (.int .i64 p0.A) ty3 rfl rfl hF rfl (hs.bx 1 rfl) rfl rfl fun fr hF => ?_
    refine from_pure 1 [(2, .pointer (some ⟨b1, 0, none⟩)), (3, .pointer (some ⟨b2, 0, none⟩)), (11, .int .i64 p0.A), (12, .pointer (some ⟨b2, 1, none⟩))] hF (by kernel_rfl) fun fr hF => ?_
    refine s_loadBox (.int .i64 p1.A) ty3 rfl rfl hF rfl (hs.bx 0 rfl) rfl rfl fun fr hF => ?_
    refine from_pure 1 [(2, .pointer (some ⟨b1, 0, none⟩)), (3, .pointer (some ⟨b2, 0, none⟩)), (14, .bool (p0.A != p1.A))] hF (by kernel_rfl) fun fr hF => ?_
    refine from_end rfl (then_normal ?_)
    refine (wp_if hF (b := (p0.A != p1.A)) rfl (fun hb => ?_) (fun hb => ?_))
    · replace h := iteT hb h
      have hs : Sep [] w2 S2 := Sep.pick [] hs (by decide) rfl
      refine wp_seq (wp_pure [(4, .bool false)] hF (by kernel_rfl) fun fr hF => then_normal ?_)
      obtain rfl := Option.some.inj h
      exact wp_ret (then_ret (ret1 rfl hF rfl ⟨_, rfl, rfl, hM0.chg⟩))
    · replace h := iteF hb h
      refine (wp_skip (then_normal ?_))
      refine wp_seq ?_
      refine wp_seq (wp_text' ?_)
      refine from_pure 1 [(2, .pointer (some ⟨b1, 0, none⟩)), (3, .pointer (some ⟨b2, 0, none⟩)), (15, .pointer (some ⟨b1, 2, none⟩))] hF (by kernel_rfl) fun fr hF => ?_
      refine s_loadBox (.int .i64 p0.B) ty3 rfl rfl hF rfl (hs.bx 1 rfl) rfl rfl fun fr hF => ?_
      refine from_pure 1 [(2, .pointer (some ⟨b1, 0, none⟩)), (3, .pointer (some ⟨b2, 0, none⟩)), (16, .int .i64 p0.B), (17, .pointer (some ⟨b2, 2, none⟩))] hF (by kernel_rfl) fun fr hF => ?_
      refine s_loadBox (.int .i64 p1.B) ty3 rfl rfl hF rfl (hs.bx 0 rfl) rfl rfl fun fr hF => ?_
      refine from_pure 1 [(2, .pointer (some ⟨b1, 0, none⟩)), (3, .pointer (some ⟨b2, 0, none⟩)), (19, .bool (p0.B != p1.B))] hF (by kernel_rfl) fun fr hF => ?_
      refine from_end rfl (then_normal ?_)
      refine (wp_if hF (b := (p0.B != p1.B)) rfl (fun hb => ?_) (fun hb => ?_))
      · replace h := iteT hb h
        have hs : Sep [] w2 S2 := Sep.pick [] hs (by decide) rfl
        refine wp_seq (wp_pure [(4, .bool false)] hF (by kernel_rfl) fun fr hF => then_normal ?_)
        obtain rfl := Option.some.inj h
        exact wp_ret (then_ret (ret1 rfl hF rfl ⟨_, rfl, rfl, hM0.chg⟩))
      · replace h := iteF hb h
        refine (wp_skip (then_normal ?_))
        refine wp_seq ?_
        refine wp_seq (wp_text' ?_)
        refine from_pure 1 [(3, .pointer (some ⟨b2, 0, none⟩)), (20, .pointer (some ⟨b1, 3, none⟩))] hF (by kernel_rfl) fun fr hF => ?_
        refine s_loadBox (.int .i64 p0.C) ty3 rfl rfl hF rfl (hs.bx 1 rfl) rfl rfl fun fr hF => ?_
        have hs : Sep [BX b2 66 [.int .i64 p1.Op, .int .i64 p1.A, .int .i64 p1.B, .int .i64 p1.C]] w2 S2 := Sep.pick [0] hs (by decide) rfl
        refine from_pure 1 [(21, .int .i64 p0.C), (22, .pointer (some ⟨b2, 3, none⟩))] hF (by kernel_rfl) fun fr hF => ?_
        refine s_loadBox (.int .i64 p1.C) ty3 rfl rfl hF rfl (hs.bx 0 rfl) rfl rfl fun fr hF => ?_
        have hs : Sep [] w2 S2 := Sep.pick [] hs (by decide) rfl
        refine from_pure 1 [(24, .bool (p0.C != p1.C))] hF (by kernel_rfl) fun fr hF => ?_
        refine from_end rfl (then_normal ?_)
        refine (wp_if hF (b := (p0.C != p1.C)) rfl (fun hb => ?_) (fun hb => ?_))
        · replace h := iteT hb h
          refine wp_seq (wp_pure [(4, .bool false)] hF (by kernel_rfl) fun fr hF => then_normal ?_)
          obtain rfl := Option.some.inj h
          exact wp_ret (then_ret (ret1 rfl hF rfl ⟨_, rfl, rfl, hM0.chg⟩))
        · replace h := iteF hb h
          refine (wp_skip (then_normal ?_))
          refine wp_seq (wp_pure [(4, .bool true)] hF (by kernel_rfl) fun fr hF => then_normal ?_)
          obtain rfl := Option.some.inj h
          exact wp_ret (ret1 rfl hF rfl ⟨_, rfl, rfl, hM0.chg⟩)

theorem laws_eqInsS_ok (n : Nat) (p0 : List D.Ins) (p1 : List D.Ins) {r : Bool} (h : laws_eqInsS n p0 p1 = some r) {w : World} {G0 : Nat → Prop} {va0 : Value} (ra0 : RV w G0 va0 p0) {G1 : Nat → Prop} {va1 : Value} (ra1 : RV w G1 va1 p1) :
    Calls Try.prog 41 [va0, va1].toArray w fun e w' => ∃ v, e = .returned v ∧ v = .bool r ∧ Chg Non w w' := by
  unfold laws_eqInsS at h
  have hs := Sep.nil w Non
  have hM0 : Mem w Non (fun k => (G0 k ∨ G1 k) ∧ k < w.heap.size) w Non (fun k => (G0 k ∨ G1 k) ∧ k < w.heap.size) := Mem.start (fun _ h => h.elim) (fun _ h => h.2) (fun _ h => h.elim)
  have ra0 := ra0.sub (F' := (fun k => (G0 k ∨ G1 k) ∧ k < w.heap.size)) (fun k hk h => ⟨.inl h, hk⟩)
  obtain ⟨a1, c1, rfl, -⟩ := ra0.slice
  have ra1 := ra1.sub (F' := (fun k => (G0 k ∨ G1 k) ∧ k < w.heap.size)) (fun k hk h => ⟨.inr (h), hk⟩)
  obtain ⟨a2, c2, rfl, -⟩ := ra1.slice
  refine enter (N := 27) Try.func41 rfl Try.ntmps41 rfl fun fr hF => ?_
  refine wp_seq (wp_pure [(0, .slice a1 (List.length p0) c1), (1, .slice a2 (List.length p1) c2)] hF (by kernel_rfl) fun fr hF => then_normal ?_)
  refine wp_seq ?_
  refine wp_seq (wp_pure [(0, .slice a1 (List.length p0) c1), (1, .slice a2 (List.length p1) c2), (10, .bool ((len p0) != (len p1)))] hF (by kernel_rfl) fun fr hF => then_normal ?_)
  refine (wp_if hF (b := ((len p0) != (len p1))) rfl (fun hb => ?_) (fun hb => ?_))
  · replace h := iteT hb h
    refine wp_seq (wp_pure [(4, .bool false)] hF (by kernel_rfl) fun fr hF => then_normal ?_)
    obtain rfl := Option.some.inj h
    exact wp_ret (then_ret (ret1 rfl hF rfl ⟨_, rfl, rfl, hM0.chg⟩))
  · replace h := iteF hb h
    refine (wp_skip (then_normal ?_))
    refine wp_seq ?_
    refine wp_seq (wp_pure [(0, .slice a1 (List.length p0) c1), (1, .slice a2 (List.length p1) c2), (5, .int .i64 0)] hF (by kernel_rfl) fun fr hF => then_normal ?_)
    obtain ⟨rl1, hit1, h⟩ := bindE h
    have hk1 := h
    refine (wp_cut (M := fun fr w' => ∃ s, rl1 = .inl s ∧ ∃ S2 F2, FrS 27 [] fr ∧ Mem w Non (fun k => (G0 k ∨ G1 k) ∧ k < w.heap.size) w' S2 F2 ∧ Sep [] w' S2) (wp_block (wp_iter (Inv := fun s1 fr w' => ∃ S1 F1, FrS 27 [(0, .slice a1 (List.length p0) c1), (1, .slice a2 (List.length p1) c2), (5, .int .i64 s1)] fr ∧ Mem w Non (fun k => (G0 k ∨ G1 k) ∧ k < w.heap.size) w' S1 F1 ∧ Sep [] w' S1) hit1 ⟨Non, _, hF.sub _ (by kernel_rfl), (Mem.start hM0.bd hM0.bdF hM0.dj), hs⟩ fun s1 q1 fr w1i hI h hr1 => ?_)) fun fr w1o hM => ?_)
    · obtain ⟨S1, F1, hF, hM1, hs⟩ := hI
      have ra0 := ra0.mem hM1
      have ra1 := ra1.mem hM1
      refine wp_seq ?_
      refine wp_seq (wp_pure [(0, .slice a1 (List.length p0) c1), (1, .slice a2 (List.length p1) c2), (5, .int .i64 s1), (14, .bool (decide (s1 < (len p0))))] hF (by kernel_rfl) fun fr hF => then_normal ?_)
      refine (wp_if hF (b := (decide (s1 < (len p0)))) rfl (fun hb => ?_) (fun hb => ?_))
      · replace h := iteT hb h
        refine (wp_skip (then_normal ?_))
        refine wp_seq (wp_block ?_)
        obtain ⟨x1, hx1, h⟩ := bindE h
        obtain ⟨x2, hx2, h⟩ := bindE h
        obtain ⟨x3, hx3, h⟩ := bindE h
        refine wp_seq (region_bm 10 [0, 0, 3, 7, 0, 0, 48, 112, 255, 511] [true, true, false, false, true, true, false, false, false, true]
            [.eq (.slice a1 (List.length p0) c1), .eq (.int .i64 s1), .is fun v w => ElemP w (fun k => k < w1i.heap.size) v (x1 : D.Ins), .eq (.agg #[.int .i64 x1.Op, .int .i64 x1.A, .int .i64 x1.B, .int .i64 x1.C]), .eq (.slice a2 (List.length p1) c2), .eq (.int .i64 s1), .is fun v w => ElemP w (fun k => k < w1i.heap.size) v (x2 : D.Ins), .eq (.agg #[.int .i64 x2.Op, .int .i64 x2.A, .int .i64 x2.B, .int .i64 x2.C]), .eq (.bool x3), .eq (.bool (!x3))]
            [(0, .slice a1 (List.length p0) c1), (1, .slice a2 (List.length p1) c2), (5, .int .i64 s1), (26, .bool (!x3))] mix hF (by kernel_rfl) (by kernel_rfl) (by kernel_rfl) (by kernel_rfl) ⟨(Pd.monoO_is mono_elem), Pd.monoO_eq, (Pd.monoO_is mono_elem), Pd.monoO_eq, Pd.monoO_eq, trivial⟩ (fun ow hG => ⟨np_to ow (np_index hG hF ty66 Try.underlying30 rfl rfl (RV.sub (ra0) fun k hk _ => hk) rfl rfl (fun hg => ⟨get?_nn hx1, get?_at hx1⟩)), np_to ow (np_loadF (z := x1) (i := 2) hG hF ty66 rfl rfl rfl rfl rfl rfl rfl), np_to ow (np_index hG hF ty66 Try.underlying30 rfl rfl (RV.sub (ra1) fun k hk _ => hk) rfl rfl (fun hg => ⟨get?_nn hx2, get?_at hx2⟩)), np_to ow (np_loadF (z := x2) (i := 6) hG hF ty66 rfl rfl rfl rfl rfl rfl rfl), np_to ow (np_call [.agg #[.int .i64 x1.Op, .int .i64 x1.A, .int .i64 x1.B, .int .i64 x1.C], .agg #[.int .i64 x2.Op, .int .i64 x2.A, .int .i64 x2.B, .int .i64 x2.C]] hG hF Try.call63 rfl rfl (fun w hC hg => (laws_eqIns_ok x1 x2 hx3).mono fun e w' ⟨v, he, hv, hc⟩ => ⟨v, he, hc, hv⟩)), trivial⟩) (by kernel_rfl) fun ow fr w1 hF hE hc => ?_)
        have ra0 := ra0.ext hc
        have ra1 := ra1.ext hc
        have hs := hs.ext hc
        have hM1 := hM1.ext hc
        refine from_end rfl (then_normal ?_)
        refine (wp_if hF (b := (!x3)) rfl (fun hb => ?_) (fun hb => ?_))
        · replace h := iteT hb h
          refine wp_seq (wp_pure [(4, .bool false)] hF (by kernel_rfl) fun fr hF => then_normal ?_)
          obtain rfl := hr1 _ (Option.some.inj h).symm
          obtain rfl := Option.some.inj hk1
          exact wp_ret (blk_ret (then_ret (then_ret (blk_ret (then_ret (ret1 rfl hF rfl ⟨_, rfl, rfl, (hM0.trans hM1).chg⟩))))))
        · replace h := iteF hb h
          refine (wp_skip ?_)
          refine blk_normal (then_normal ?_)
          refine (wp_pure [(0, .slice a1 (List.length p0) c1), (1, .slice a2 (List.length p1) c2), (5, .int .i64 (w64 (s1 + 1)))] hF (by kernel_rfl) fun fr hF => then_normal ?_)
          exact ⟨_, (Option.some.inj h).symm, S1, _, hF.sub _ (by kernel_rfl), hM1, hs⟩
      · replace h := iteF hb h
        refine (wp_exit (then_exit (then_exit (blk_exit_eq ?_))))
        obtain rfl := hr1 _ (Option.some.inj h).symm
        exact then_normal ⟨_, rfl, S1, _, hF.sub _ (by kernel_rfl), hM1, hs⟩
    · obtain ⟨s1r, rfl, hM⟩ := hM
      obtain ⟨S2, F2, hF, hMx, hs⟩ := hM
      have hM0 := hM0.trans hMx
      refine wp_seq (wp_pure [(4, .bool true)] hF (by kernel_rfl) fun fr hF => then_normal ?_)
      obtain rfl := Option.some.inj h
      exact wp_ret (ret1 rfl hF rfl ⟨_, rfl, rfl, hM0.chg⟩)

theorem laws_eqProgram_ok (n : Nat) (p0 : D.Program) (p1 : D.Program) {r : Bool} (h : laws_eqProgram n p0 p1 = some r) {w : World} {G0 : Nat → Prop} {va0 : Value} (ra0 : RV w G0 va0 p0) {G1 : Nat → Prop} {va1 : Value} (ra1 : RV w G1 va1 p1) :
    Calls Try.prog 15 [va0, va1].toArray w fun e w' => ∃ v, e = .returned v ∧ v = .bool r ∧ Chg Non w w' := by
  unfold laws_eqProgram at h
  have hs := Sep.nil w Non
  have hM0 : Mem w Non (fun k => (G0 k ∨ G1 k) ∧ k < w.heap.size) w Non (fun k => (G0 k ∨ G1 k) ∧ k < w.heap.size) := Mem.start (fun _ h => h.elim) (fun _ h => h.2) (fun _ h => h.elim)
  have ra0 := ra0.sub (F' := (fun k => (G0 k ∨ G1 k) ∧ k < w.heap.size)) (fun k hk h => ⟨.inl h, hk⟩)
  obtain ⟨v1, rfl, r1⟩ := RV.Program ra0
  obtain ⟨a1, c1, rfl, -⟩ := r1.slice
  have ra1 := ra1.sub (F' := (fun k => (G0 k ∨ G1 k) ∧ k < w.heap.size)) (fun k hk h => ⟨.inr (h), hk⟩)
  obtain ⟨v2, rfl, r2⟩ := RV.Program ra1
  obtain ⟨a2, c2, rfl, -⟩ := r2.slice
  refine enter (N := 26) Try.func15 rfl Try.ntmps15 rfl fun fr hF => ?_
  refine wp_seq (wp_text' ?_)
  refine q_box hs hM0 [.int .i64 p0.W, .int .i64 p0.Mem, .int .i64 p0.In, .slice a1 (List.length p0.Code) c1] rfl rfl hF rfl rfl fun b1 w1 S1 fr hs hp hF => ?_
  have r1 := r1.stp hM0 hp
  have r2 := r2.stp hM0 hp
  have hM0 := hM0.stp hp
  have hs : Sep [BX b1 32 [.int .i64 p0.W, .int .i64 p0.Mem, .int .i64 p0.In, .slice a1 (List.length p0.Code) c1]] w1 S1 := hs
  refine q_box hs hM0 [.int .i64 p1.W, .int .i64 p1.Mem, .int .i64 p1.In, .slice a2 (List.length p1.Code) c2] rfl rfl hF rfl rfl fun b2 w2 S2 fr hs hp hF => ?_
  have r2 := r2.stp hM0 hp
  have r1 := r1.stp hM0 hp
  have hM0 := hM0.stp hp
  have hs : Sep [BX b2 32 [.int .i64 p1.W, .int .i64 p1.Mem, .int .i64 p1.In, .slice a2 (List.length p1.Code) c2], BX b1 32 [.int .i64 p0.W, .int .i64 p0.Mem, .int .i64 p0.In, .slice a1 (List.length p0.Code) c1]] w2 S2 := hs
  refine from_pure 1 [(2, .pointer (some ⟨b1, 0, none⟩)), (3, .pointer (some ⟨b2, 0, none⟩))] hF (by kernel_rfl) fun fr hF => ?_
  refine from_end rfl (then_normal ?_)
  refine wp_seq ?_
  refine wp_seq (wp_text' ?_)
  refine from_pure 1 [(2, .pointer (some ⟨b1, 0, none⟩)), (3, .pointer (some ⟨b2, 0, none⟩)), (5, .pointer (some ⟨b1, 0, none⟩))] hF (by kernel_rfl) fun fr hF => ?_
  refine s_loadBox (.int .i64 p0.W) ty3 rfl rfl hF rfl (hs.bx 1 rfl) rfl rfl fun fr hF => ?_
  refine from_pure 1 [(2, .pointer (some ⟨b1, 0, none⟩)), (3, .pointer (some ⟨b2, 0, none⟩)), (6, .int .i64 p0.W), (7, .pointer (some ⟨b2, 0, none⟩))] hF (by kernel_rfl) fun fr hF => ?_
  refine s_loadBox (.int .i64 p1.W) ty3 rfl rfl hF rfl (hs.bx 0 rfl) rfl rfl fun fr hF => ?_
  refine from_pure 1 [(2, .pointer (some ⟨b1, 0, none⟩)), (3, .pointer (some ⟨b2, 0, none⟩)), (9, .bool (p0.W != p1.W))] hF (by kernel_rfl) fun fr hF => ?_
  refine from_end rfl (then_normal ?_)
  refine (wp_if hF (b := (p0.W != p1.W)) rfl (fun hb => ?_) (fun hb => ?_))
  · replace h := iteT hb h
    have hs : Sep [] w2 S2 := Sep.pick [] hs (by decide) rfl
    refine wp_seq (wp_pure [(4, .bool false)] hF (by kernel_rfl) fun fr hF => then_normal ?_)
    obtain rfl := Option.some.inj h
    exact wp_ret (then_ret (ret1 rfl hF rfl ⟨_, rfl, rfl, hM0.chg⟩))
  · replace h := iteF hb h
    refine (wp_skip (then_normal ?_))
    refine wp_seq ?_
    refine wp_seq (wp_text' ?_)
    refine from_pure 1 [(2, .pointer (some ⟨b1, 0, none⟩)), (3, .pointer (some ⟨b2, 0, none⟩)), (10, .pointer (some ⟨b1, 1, none⟩))] hF (by kernel_rfl) fun fr hF => ?_
    refine s_loadBox (.int .i64 p0.Mem) ty3 rfl rfl hF rfl (hs.bx 1 rfl) rfl rfl fun fr hF => ?_
    refine from_pure 1 [(2, .pointer (some ⟨b1, 0, none⟩)), (3, .pointer (some ⟨b2, 0, none⟩)), (11, .int .i64 p0.Mem), (12, .pointer (some ⟨b2, 1, none⟩))] hF (by kernel_rfl) fun fr hF => ?_
    refine s_loadBox (.int .i64 p1.Mem) ty3 rfl rfl hF rfl (hs.bx 0 rfl) rfl rfl fun fr hF => ?_
    refine from_pure 1 [(2, .pointer (some ⟨b1, 0, none⟩)), (3, .pointer (some ⟨b2, 0, none⟩)), (14, .bool (p0.Mem != p1.Mem))] hF (by kernel_rfl) fun fr hF => ?_
    refine from_end rfl (then_normal ?_)
    refine (wp_if hF (b := (p0.Mem != p1.Mem)) rfl (fun hb => ?_) (fun hb => ?_))
    · replace h := iteT hb h
      have hs : Sep [] w2 S2 := Sep.pick [] hs (by decide) rfl
      refine wp_seq (wp_pure [(4, .bool false)] hF (by kernel_rfl) fun fr hF => then_normal ?_)
      obtain rfl := Option.some.inj h
      exact wp_ret (then_ret (ret1 rfl hF rfl ⟨_, rfl, rfl, hM0.chg⟩))
    · replace h := iteF hb h
      refine (wp_skip (then_normal ?_))
      refine wp_seq ?_
      refine wp_seq (wp_text' ?_)
      refine from_pure 1 [(2, .pointer (some ⟨b1, 0, none⟩)), (3, .pointer (some ⟨b2, 0, none⟩)), (15, .pointer (some ⟨b1, 2, none⟩))] hF (by kernel_rfl) fun fr hF => ?_
      refine s_loadBox (.int .i64 p0.In) ty3 rfl rfl hF rfl (hs.bx 1 rfl) rfl rfl fun fr hF => ?_
      refine from_pure 1 [(2, .pointer (some ⟨b1, 0, none⟩)), (3, .pointer (some ⟨b2, 0, none⟩)), (16, .int .i64 p0.In), (17, .pointer (some ⟨b2, 2, none⟩))] hF (by kernel_rfl) fun fr hF => ?_
      refine s_loadBox (.int .i64 p1.In) ty3 rfl rfl hF rfl (hs.bx 0 rfl) rfl rfl fun fr hF => ?_
      refine from_pure 1 [(2, .pointer (some ⟨b1, 0, none⟩)), (3, .pointer (some ⟨b2, 0, none⟩)), (19, .bool (p0.In != p1.In))] hF (by kernel_rfl) fun fr hF => ?_
      refine from_end rfl (then_normal ?_)
      refine (wp_if hF (b := (p0.In != p1.In)) rfl (fun hb => ?_) (fun hb => ?_))
      · replace h := iteT hb h
        have hs : Sep [] w2 S2 := Sep.pick [] hs (by decide) rfl
        refine wp_seq (wp_pure [(4, .bool false)] hF (by kernel_rfl) fun fr hF => then_normal ?_)
        obtain rfl := Option.some.inj h
        exact wp_ret (then_ret (ret1 rfl hF rfl ⟨_, rfl, rfl, hM0.chg⟩))
      · replace h := iteF hb h
        refine (wp_skip (then_normal ?_))
        refine wp_seq ?_
        refine wp_seq (wp_text' ?_)
        refine from_pure 1 [(3, .pointer (some ⟨b2, 0, none⟩)), (20, .pointer (some ⟨b1, 3, none⟩))] hF (by kernel_rfl) fun fr hF => ?_
        refine s_loadBox (.slice a1 (List.length p0.Code) c1) ty30 rfl rfl hF rfl (hs.bx 1 rfl) rfl rfl fun fr hF => ?_
        have hs : Sep [BX b2 32 [.int .i64 p1.W, .int .i64 p1.Mem, .int .i64 p1.In, .slice a2 (List.length p1.Code) c2]] w2 S2 := Sep.pick [0] hs (by decide) rfl
        refine from_pure 1 [(21, .slice a1 (List.length p0.Code) c1), (22, .pointer (some ⟨b2, 3, none⟩))] hF (by kernel_rfl) fun fr hF => ?_
        refine s_loadBox (.slice a2 (List.length p1.Code) c2) ty30 rfl rfl hF rfl (hs.bx 0 rfl) rfl rfl fun fr hF => ?_
        have hs : Sep [] w2 S2 := Sep.pick [] hs (by decide) rfl
        obtain ⟨x1, hx1, h⟩ := bindE h
        refine s_call [.slice a1 (List.length p0.Code) c1, .slice a2 (List.length p1.Code) c2] Try.call41 rfl rfl hF rfl (laws_eqInsS_ok n p0.Code p1.Code hx1 (r1) (r2)) fun v w3 fr hRes hF => ?_
        obtain ⟨rfl, hc⟩ := hRes
        have r1 := r1.ext hc
        have r2 := r2.ext hc
        have hs := hs.ext hc
        have hM0 := hM0.ext hc
        refine from_pure 1 [(25, .bool (!x1))] hF (by kernel_rfl) fun fr hF => ?_
        refine from_end rfl (then_normal ?_)
        refine (wp_if hF (b := (!x1)) rfl (fun hb => ?_) (fun hb => ?_))
        · replace h := iteT hb h
          refine wp_seq (wp_pure [(4, .bool false)] hF (by kernel_rfl) fun fr hF => then_normal ?_)
          obtain rfl := Option.some.inj h
          exact wp_ret (then_ret (ret1 rfl hF rfl ⟨_, rfl, rfl, hM0.chg⟩))
        · replace h := iteF hb h
          refine (wp_skip (then_normal ?_))
          refine wp_seq (wp_pure [(4, .bool true)] hF (by kernel_rfl) fun fr hF => then_normal ?_)
          obtain rfl := Option.some.inj h
          exact wp_ret (ret1 rfl hF rfl ⟨_, rfl, rfl, hM0.chg⟩)

theorem laws_markInsS_ok (n : Nat) (p0 : List D.Ins) (p1 : Int) {r : Int × (List D.Ins)} (h : laws_markInsS n p0 p1 = some r) {w : World} {S0 F0 : Nat → Prop} {pa0 : Option Addr} {pn0 pc0 : Nat} (hs : Sep [SL (α := D.Ins) 66 (.slice pa0 pn0 pc0) p0] w S0) (hb : ∀ k, S0 k → k < w.heap.size) (hd : ∀ k, S0 k → F0 k → False) :
    Calls Try.prog 42 [.slice pa0 pn0 pc0, .int .i64 p1].toArray w fun e w' => ∃ v, e = .returned v ∧ v = .int .i64 r.1 ∧ ∃ S', Stp w S0 w' S' ∧ Sep [SL (α := D.Ins) 66 (.slice pa0 pn0 pc0) r.2] w' S' := by
  unfold laws_markInsS at h
  obtain ⟨hpn, hs⟩ := hs.relen 0 rfl
  subst hpn
  have hs : Sep [SL (α := D.Ins) 66 (.slice pa0 (List.length p0) pc0) p0] w S0 := hs
  have hM0 : Mem w S0 (fun k => F0 k ∧ k < w.heap.size) w S0 (fun k => F0 k ∧ k < w.heap.size) := Mem.start hb (fun _ h => h.2) (fun k h1 h2 => hd k h1 h2.1)
  refine enter (N := 41) Try.func42 rfl Try.ntmps42 rfl fun fr hF => ?_
  refine wp_seq (wp_pure [(0, .slice pa0 (List.length p0) pc0), (1, .int .i64 p1)] hF (by kernel_rfl) fun fr hF => then_normal ?_)
  refine wp_seq ?_
  refine wp_seq (wp_pure [(0, .slice pa0 (List.length p0) pc0), (1, .int .i64 p1), (5, .int .i64 0)] hF (by kernel_rfl) fun fr hF => then_normal ?_)
  obtain ⟨rl1, hit1, h⟩ := bindE h
  have hk1 := h
  refine (wp_cut (M := fun fr w' => ∃ S2 F2, FrS 41 [(1, .int .i64 rl1.1)] fr ∧ Mem w S0 (fun k => F0 k ∧ k < w.heap.size) w' S2 F2 ∧ Sep [SL (α := D.Ins) 66 (.slice pa0 (List.length p0) pc0) rl1.2] w' S2) (wp_block (wp_iter (Inv := fun s1 fr w' => ∃ S1 F1, FrS 41 [(0, .slice pa0 (List.length p0) pc0), (1, .int .i64 s1.1), (5, .int .i64 s1.2.1)] fr ∧ Mem w S0 (fun k => F0 k ∧ k < w.heap.size) w' S1 F1 ∧ Sep [SL (α := D.Ins) 66 (.slice pa0 (List.length p0) pc0) s1.2.2] w' S1) hit1 ⟨S0, _, hF.sub _ (by kernel_rfl), (Mem.start hM0.bd hM0.bdF hM0.dj), hs⟩ fun s1 q1 fr w1i hI h hr1 => ?_)) fun fr w1o hM => ?_)
  · obtain ⟨S1, F1, hF, hM1, hs⟩ := hI
    refine wp_seq ?_
    refine wp_seq (wp_pure [(0, .slice pa0 (List.length p0) pc0), (1, .int .i64 s1.1), (5, .int .i64 s1.2.1), (9, .bool (decide (s1.2.1 < (len p0))))] hF (by kernel_rfl) fun fr hF => then_normal ?_)
    refine (wp_if hF (b := (decide (s1.2.1 < (len p0)))) rfl (fun hb => ?_) (fun hb => ?_))
    · replace h := iteT hb h
      refine (wp_skip (then_normal ?_))
      refine wp_seq (wp_block ?_)
      refine wp_seq (wp_text' ?_)
      refine from_pure 3 [(0, .slice pa0 (List.length p0) pc0), (1, .int .i64 s1.1), (5, .int .i64 s1.2.1), (12, .slice pa0 (List.length p0) pc0), (13, .int .i64 s1.2.1), (14, .int .i64 s1.1)] hF (by kernel_rfl) fun fr hF => ?_
      obtain ⟨x1, hx1, h⟩ := bindE h
      obtain ⟨x2, hx2, h⟩ := bindE h
      refine q_setField (q := x1) (q' := ({ x1 with Op := s1.1 } : D.Ins)) (off := 0) 0 hs hM1 rfl Try.underlying30 ty66 rfl rfl rfl rfl rfl hF rfl rfl rfl rfl (by kernel_rfl) rfl (by kernel_rfl) rfl hx1 rfl hx2 fun w1 S3 fr _ _ hs hp hF => ?_
      have hM1 := hM1.stp hp
      have hs : Sep [SL (α := D.Ins) 66 (.slice pa0 (List.length p0) pc0) x2] w1 S3 := hs
      refine from_end rfl (then_normal ?_)
      refine wp_seq (wp_pure [(0, .slice pa0 (List.length p0) pc0), (1, .int .i64 (w64 (s1.1 + 1))), (5, .int .i64 s1.2.1)] hF (by kernel_rfl) fun fr hF => then_normal ?_)
      refine wp_seq (wp_text' ?_)
      refine from_pure 3 [(0, .slice pa0 (List.length p0) pc0), (1, .int .i64 (w64 (s1.1 + 1))), (5, .int .i64 s1.2.1), (19, .slice pa0 (List.length p0) pc0), (20, .int .i64 s1.2.1), (21, .int .i64 (w64 (s1.1 + 1)))] hF (by kernel_rfl) fun fr hF => ?_
      obtain ⟨x3, hx3, h⟩ := bindE h
      obtain ⟨x4, hx4, h⟩ := bindE h
      refine q_setField (q := x3) (q' := ({ x3 with A := (w64 (s1.1 + 1)) } : D.Ins)) (off := 1) 0 hs hM1 rfl Try.underlying30 ty66 rfl rfl rfl rfl rfl hF rfl rfl rfl rfl (by kernel_rfl) rfl (by kernel_rfl) rfl hx3 rfl hx4 fun w2 S4 fr _ _ hs hp hF => ?_
      have hM1 := hM1.stp hp
      have hs : Sep [SL (α := D.Ins) 66 (.slice pa0 (List.length p0) pc0) x4] w2 S4 := hs
      refine from_end rfl (then_normal ?_)
      refine wp_seq (wp_pure [(0, .slice pa0 (List.length p0) pc0), (1, .int .i64 (w64 ((w64 (s1.1 + 1)) + 1))), (5, .int .i64 s1.2.1)] hF (by kernel_rfl) fun fr hF => then_normal ?_)
      refine wp_seq (wp_text' ?_)
      refine from_pure 3 [(0, .slice pa0 (List.length p0) pc0), (1, .int .i64 (w64 ((w64 (s1.1 + 1)) + 1))), (5, .int .i64 s1.2.1), (26, .slice pa0 (List.length p0) pc0), (27, .int .i64 s1.2.1), (28, .int .i64 (w64 ((w64 (s1.1 + 1)) + 1)))] hF (by kernel_rfl) fun fr hF => ?_
      obtain ⟨x5, hx5, h⟩ := bindE h
      obtain ⟨x6, hx6, h⟩ := bindE h
      refine q_setField (q := x5) (q' := ({ x5 with B := (w64 ((w64 (s1.1 + 1)) + 1)) } : D.Ins)) (off := 2) 0 hs hM1 rfl Try.underlying30 ty66 rfl rfl rfl rfl rfl hF rfl rfl rfl rfl (by kernel_rfl) rfl (by kernel_rfl) rfl hx5 rfl hx6 fun w3 S5 fr _ _ hs hp hF => ?_
      have hM1 := hM1.stp hp
      have hs : Sep [SL (α := D.Ins) 66 (.slice pa0 (List.length p0) pc0) x6] w3 S5 := hs
      refine from_end rfl (then_normal ?_)
      refine wp_seq (wp_pure [(0, .slice pa0 (List.length p0) pc0), (1, .int .i64 (w64 ((w64 ((w64 (s1.1 + 1)) + 1)) + 1))), (5, .int .i64 s1.2.1)] hF (by kernel_rfl) fun fr hF => then_normal ?_)
      refine wp_seq (wp_text' ?_)
      refine from_pure 3 [(0, .slice pa0 (List.length p0) pc0), (1, .int .i64 (w64 ((w64 ((w64 (s1.1 + 1)) + 1)) + 1))), (5, .int .i64 s1.2.1), (33, .slice pa0 (List.length p0) pc0), (34, .int .i64 s1.2.1), (35, .int .i64 (w64 ((w64 ((w64 (s1.1 + 1)) + 1)) + 1)))] hF (by kernel_rfl) fun fr hF => ?_
      obtain ⟨x7, hx7, h⟩ := bindE h
      obtain ⟨x8, hx8, h⟩ := bindE h
      refine q_setField (q := x7) (q' := ({ x7 with C := (w64 ((w64 ((w64 (s1.1 + 1)) + 1)) + 1)) } : D.Ins)) (off := 3) 0 hs hM1 rfl Try.underlying30 ty66 rfl rfl rfl rfl rfl hF rfl rfl rfl rfl (by kernel_rfl) rfl (by kernel_rfl) rfl hx7 rfl hx8 fun w4 S6 fr _ _ hs hp hF => ?_
      have hM1 := hM1.stp hp
      have hs : Sep [SL (α := D.Ins) 66 (.slice pa0 (List.length p0) pc0) x8] w4 S6 := hs
      refine from_end rfl (then_normal ?_)
      refine (wp_pure [(0, .slice pa0 (List.length p0) pc0), (1, .int .i64 (w64 ((w64 ((w64 ((w64 (s1.1 + 1)) + 1)) + 1)) + 1))), (5, .int .i64 s1.2.1)] hF (by kernel_rfl) fun fr hF => ?_)
      refine blk_normal (then_normal ?_)
      refine (wp_pure [(0, .slice pa0 (List.length p0) pc0), (1, .int .i64 (w64 ((w64 ((w64 ((w64 (s1.1 + 1)) + 1)) + 1)) + 1))), (5, .int .i64 (w64 (s1.2.1 + 1)))] hF (by kernel_rfl) fun fr hF => then_normal ?_)
      exact ⟨_, (Option.some.inj h).symm, S6, _, hF.sub _ (by kernel_rfl), hM1, hs⟩
    · replace h := iteF hb h
      refine (wp_exit (then_exit (then_exit (blk_exit_eq ?_))))
      obtain rfl := hr1 _ (Option.some.inj h).symm
      exact then_normal ⟨S1, _, hF.sub _ (by kernel_rfl), hM1, hs⟩
  · obtain ⟨S2, F2, hF, hMx, hs⟩ := hM
    have hM0 := hM0.trans hMx
    refine wp_seq (wp_pure [(4, .int .i64 rl1.1)] hF (by kernel_rfl) fun fr hF => then_normal ?_)
    obtain rfl := Option.some.inj h
    exact wp_ret (ret1 rfl hF rfl ⟨_, rfl, rfl, S2, hM0.out, hs⟩)

theorem laws_markProgram_ok (n : Nat) (p0 : D.Program) (p1 : Int) {r : Int × D.Program} (h : laws_markProgram n p0 p1 = some r) {w : World} {S0 F0 : Nat → Prop} {pa0 : Option Addr} {pn0 pc0 : Nat} (hs : Sep [SL (α := D.Ins) 66 (.slice pa0 pn0 pc0) p0.Code] w S0) (hb : ∀ k, S0 k → k < w.heap.size) (hd : ∀ k, S0 k → F0 k → False) :
    Calls Try.prog 16 [.agg #[.int .i64 p0.W, .int .i64 p0.Mem, .int .i64 p0.In, .slice pa0 pn0 pc0], .int .i64 p1].toArray w fun e w' => ∃ v, e = .returned v ∧ v = .int .i64 r.1 ∧ ∃ S', Stp w S0 w' S' ∧ Sep [SL (α := D.Ins) 66 (.slice pa0 pn0 pc0) r.2.Code] w' S' := by
  unfold laws_markProgram at h
  obtain ⟨hpn, hs⟩ := hs.relen 0 rfl
  subst hpn
  have hs : Sep [SL (α := D.Ins) 66 (.slice pa0 (List.length p0.Code) pc0) p0.Code] w S0 := hs
  have hM0 : Mem w S0 (fun k => F0 k ∧ k < w.heap.size) w S0 (fun k => F0 k ∧ k < w.heap.size) := Mem.start hb (fun _ h => h.2) (fun k h1 h2 => hd k h1 h2.1)
  refine enter (N := 10) Try.func16 rfl Try.ntmps16 rfl fun fr hF => ?_
  refine wp_seq (wp_text' ?_)
  refine q_box hs hM0 [.int .i64 p0.W, .int .i64 p0.Mem, .int .i64 p0.In, .slice pa0 (List.length p0.Code) pc0] rfl rfl hF rfl rfl fun b1 w1 S1 fr hs hp hF => ?_
  have hM0 := hM0.stp hp
  have hs : Sep [BX b1 32 [.int .i64 p0.W, .int .i64 p0.Mem, .int .i64 p0.In, .slice pa0 (List.length p0.Code) pc0], SL (α := D.Ins) 66 (.slice pa0 (List.length p0.Code) pc0) p0.Code] w1 S1 := hs
  refine from_pure 1 [(1, .int .i64 p1), (2, .pointer (some ⟨b1, 0, none⟩))] hF (by kernel_rfl) fun fr hF => ?_
  refine from_end rfl (then_normal ?_)
  refine wp_seq (wp_text' ?_)
  refine from_pure 1 [(1, .int .i64 p1), (5, .pointer (some ⟨b1, 3, none⟩))] hF (by kernel_rfl) fun fr hF => ?_
  refine s_loadBox (.slice pa0 (List.length p0.Code) pc0) ty30 rfl rfl hF rfl (hs.bx 0 rfl) rfl rfl fun fr hF => ?_
  have hs : Sep [SL (α := D.Ins) 66 (.slice pa0 (List.length p0.Code) pc0) p0.Code] w1 S1 := Sep.pick [1] hs (by decide) rfl
  refine from_pure 1 [(6, .slice pa0 (List.length p0.Code) pc0), (7, .int .i64 p1)] hF (by kernel_rfl) fun fr hF => ?_
  obtain ⟨x1, hx1, h⟩ := bindE h
  obtain ⟨A1, R1, hsA, hsR, hdA, hbA, hup⟩ := Sep.call (L1 := [SL (α := D.Ins) 66 (.slice pa0 (List.length p0.Code) pc0) p0.Code]) (L2 := []) hs hM0
  refine s_call [.slice pa0 (List.length p0.Code) pc0, .int .i64 p1] Try.call42 rfl rfl hF rfl (laws_markInsS_ok n p0.Code p1 hx1 hsA hbA hdA) fun v w2 fr hRes hF => ?_
  obtain ⟨rfl, _, hp, hs⟩ := hRes
  obtain ⟨S2, hp, hs⟩ := hup hp hs
  have hM0 := hM0.stp hp
  have hs : Sep [SL (α := D.Ins) 66 (.slice pa0 (List.length p0.Code) pc0) x1.2] w2 S2 := hs
  refine from_pure 1 [(1, .int .i64 x1.1)] hF (by kernel_rfl) fun fr hF => ?_
  refine from_end rfl (then_normal ?_)
  refine wp_seq (wp_pure [(4, .int .i64 x1.1)] hF (by kernel_rfl) fun fr hF => then_normal ?_)
  obtain rfl := Option.some.inj h
  exact wp_ret (ret1 rfl hF rfl ⟨_, rfl, rfl, S2, hM0.out, hs⟩)

theorem laws_markIntS_ok (n : Nat) (p0 : List Int) (p1 : Int) {r : Int × (List Int)} (h : laws_markIntS n p0 p1 = some r) {w : World} {S0 F0 : Nat → Prop} {pa0 : Option Addr} {pn0 pc0 : Nat} (hs : Sep [SL (α := Int) 3 (.slice pa0 pn0 pc0) p0] w S0) (hb : ∀ k, S0 k → k < w.heap.size) (hd : ∀ k, S0 k → F0 k → False) :
    Calls Try.prog 25 [.slice pa0 pn0 pc0, .int .i64 p1].toArray w fun e w' => ∃ v, e = .returned v ∧ v = .int .i64 r.1 ∧ ∃ S', Stp w S0 w' S' ∧ Sep [SL (α := Int) 3 (.slice pa0 pn0 pc0) r.2] w' S' := by
  unfold laws_markIntS at h
  obtain ⟨hpn, hs⟩ := hs.relen 0 rfl
  subst hpn
  have hs : Sep [SL (α := Int) 3 (.slice pa0 (List.length p0) pc0) p0] w S0 := hs
  have hM0 : Mem w S0 (fun k => F0 k ∧ k < w.heap.size) w S0 (fun k => F0 k ∧ k < w.heap.size) := Mem.start hb (fun _ h => h.2) (fun k h1 h2 => hd k h1 h2.1)
  refine enter (N := 19) Try.func25 rfl Try.ntmps25 rfl fun fr hF => ?_
  refine wp_seq (wp_pure [(0, .slice pa0 (List.length p0) pc0), (1, .int .i64 p1)] hF (by kernel_rfl) fun fr hF => then_normal ?_)
  refine wp_seq ?_
  refine wp_seq (wp_pure [(0, .slice pa0 (List.length p0) pc0), (1, .int .i64 p1), (5, .int .i64 0)] hF (by kernel_rfl) fun fr hF => then_normal ?_)
  obtain ⟨rl1, hit1, h⟩ := bindE h
  have hk1 := h
  refine (wp_cut (M := fun fr w' => ∃ S2 F2, FrS 19 [(1, .int .i64 rl1.1)] fr ∧ Mem w S0 (fun k => F0 k ∧ k < w.heap.size) w' S2 F2 ∧ Sep [SL (α := Int) 3 (.slice pa0 (List.length p0) pc0) rl1.2] w' S2) (wp_block (wp_iter (Inv := fun s1 fr w' => ∃ S1 F1, FrS 19 [(0, .slice pa0 (List.length p0) pc0), (1, .int .i64 s1.1), (5, .int .i64 s1.2.1)] fr ∧ Mem w S0 (fun k => F0 k ∧ k < w.heap.size) w' S1 F1 ∧ Sep [SL (α := Int) 3 (.slice pa0 (List.length p0) pc0) s1.2.2] w' S1) hit1 ⟨S0, _, hF.sub _ (by kernel_rfl), (Mem.start hM0.bd hM0.bdF hM0.dj), hs⟩ fun s1 q1 fr w1i hI h hr1 => ?_)) fun fr w1o hM => ?_)
  · obtain ⟨S1, F1, hF, hM1, hs⟩ := hI
    refine wp_seq ?_
    refine wp_seq (wp_pure [(0, .slice pa0 (List.length p0) pc0), (1, .int .i64 s1.1), (5, .int .i64 s1.2.1), (9, .bool (decide (s1.2.1 < (len p0))))] hF (by kernel_rfl) fun fr hF => then_normal ?_)
    refine (wp_if hF (b := (decide (s1.2.1 < (len p0)))) rfl (fun hb => ?_) (fun hb => ?_))
    · replace h := iteT hb h
      refine (wp_skip (then_normal ?_))
      refine wp_seq (wp_block ?_)
      refine wp_seq (wp_text' ?_)
      refine from_pure 3 [(0, .slice pa0 (List.length p0) pc0), (1, .int .i64 s1.1), (5, .int .i64 s1.2.1), (12, .slice pa0 (List.length p0) pc0), (13, .int .i64 s1.2.1), (14, .int .i64 s1.1)] hF (by kernel_rfl) fun fr hF => ?_
      obtain ⟨x1, hx1, h⟩ := bindE h
      refine q_set (q := s1.1) 0 hs hM1 rfl Try.underlying26 ty3 rfl rfl rfl rfl hF rfl rfl (by simp) rfl rfl hx1 fun w1 S3 fr _ hs hp hF => ?_
      have hM1 := hM1.stp hp
      have hs : Sep [SL (α := Int) 3 (.slice pa0 (List.length p0) pc0) x1] w1 S3 := hs
      refine from_end rfl (then_normal ?_)
      refine (wp_pure [(0, .slice pa0 (List.length p0) pc0), (1, .int .i64 (w64 (s1.1 + 1))), (5, .int .i64 s1.2.1)] hF (by kernel_rfl) fun fr hF => ?_)
      refine blk_normal (then_normal ?_)
      refine (wp_pure [(0, .slice pa0 (List.length p0) pc0), (1, .int .i64 (w64 (s1.1 + 1))), (5, .int .i64 (w64 (s1.2.1 + 1)))] hF (by kernel_rfl) fun fr hF => then_normal ?_)
      exact ⟨_, (Option.some.inj h).symm, S3, _, hF.sub _ (by kernel_rfl), hM1, hs⟩
    · replace h := iteF hb h
      refine (wp_exit (then_exit (then_exit (blk_exit_eq ?_))))
      obtain rfl := hr1 _ (Option.some.inj h).symm
      exact then_normal ⟨S1, _, hF.sub _ (by kernel_rfl), hM1, hs⟩
  · obtain ⟨S2, F2, hF, hMx, hs⟩ := hM
    have hM0 := hM0.trans hMx
    refine wp_seq (wp_pure [(4, .int .i64 rl1.1)] hF (by kernel_rfl) fun fr hF => then_normal ?_)
    obtain rfl := Option.some.inj h
    exact wp_ret (ret1 rfl hF rfl ⟨_, rfl, rfl, S2, hM0.out, hs⟩)

theorem laws_markState_ok (n : Nat) (p0 : D.State) (p1 : Int) {r : Int × D.State} (h : laws_markState n p0 p1 = some r) {w : World} {S0 F0 : Nat → Prop} {pa0 : Option Addr} {pn0 pc0 : Nat} {pa1 : Option Addr} {pn1 pc1 : Nat} {pa2 : Option Addr} {pn2 pc2 : Nat} {pa3 : Option Addr} {pn3 pc3 : Nat} (hs : Sep [SL (α := Int) 3 (.slice pa0 pn0 pc0) p0.Regs, SL (α := Int) 3 (.slice pa1 pn1 pc1) p0.Mem, SL (α := Int) 3 (.slice pa2 pn2 pc2) p0.Stack, SL (α := Int) 3 (.slice pa3 pn3 pc3) p0.Out] w S0) (hb : ∀ k, S0 k → k < w.heap.size) (hd : ∀ k, S0 k → F0 k → False) :
    Calls Try.prog 17 [.agg #[.int .i64 p0.Pc, .slice pa0 pn0 pc0, .slice pa1 pn1 pc1, .slice pa2 pn2 pc2, .int .i64 p0.In, .slice pa3 pn3 pc3, .int .i64 p0.Code, .int .i64 p0.Steps], .int .i64 p1].toArray w fun e w' => ∃ v, e = .returned v ∧ v = .int .i64 r.1 ∧ ∃ S', Stp w S0 w' S' ∧ Sep [SL (α := Int) 3 (.slice pa0 pn0 pc0) r.2.Regs, SL (α := Int) 3 (.slice pa1 pn1 pc1) r.2.Mem, SL (α := Int) 3 (.slice pa2 pn2 pc2) r.2.Stack, SL (α := Int) 3 (.slice pa3 pn3 pc3) r.2.Out] w' S' := by
  unfold laws_markState at h
  obtain ⟨hpn, hs⟩ := hs.relen 0 rfl
  subst hpn
  obtain ⟨hpn, hs⟩ := hs.relen 1 rfl
  subst hpn
  obtain ⟨hpn, hs⟩ := hs.relen 2 rfl
  subst hpn
  obtain ⟨hpn, hs⟩ := hs.relen 3 rfl
  subst hpn
  have hs : Sep [SL (α := Int) 3 (.slice pa0 (List.length p0.Regs) pc0) p0.Regs, SL (α := Int) 3 (.slice pa1 (List.length p0.Mem) pc1) p0.Mem, SL (α := Int) 3 (.slice pa2 (List.length p0.Stack) pc2) p0.Stack, SL (α := Int) 3 (.slice pa3 (List.length p0.Out) pc3) p0.Out] w S0 := hs
  have hM0 : Mem w S0 (fun k => F0 k ∧ k < w.heap.size) w S0 (fun k => F0 k ∧ k < w.heap.size) := Mem.start hb (fun _ h => h.2) (fun k h1 h2 => hd k h1 h2.1)
  refine enter (N := 22) Try.func17 rfl Try.ntmps17 rfl fun fr hF => ?_
  refine wp_seq (wp_text' ?_)
  refine q_box hs hM0 [.int .i64 p0.Pc, .slice pa0 (List.length p0.Regs) pc0, .slice pa1 (List.length p0.Mem) pc1, .slice pa2 (List.length p0.Stack) pc2, .int .i64 p0.In, .slice pa3 (List.length p0.Out) pc3, .int .i64 p0.Code, .int .i64 p0.Steps] rfl rfl hF rfl rfl fun b1 w1 S1 fr hs hp hF => ?_
  have hM0 := hM0.stp hp
  have hs : Sep [BX b1 28 [.int .i64 p0.Pc, .slice pa0 (List.length p0.Regs) pc0, .slice pa1 (List.length p0.Mem) pc1, .slice pa2 (List.length p0.Stack) pc2, .int .i64 p0.In, .slice pa3 (List.length p0.Out) pc3, .int .i64 p0.Code, .int .i64 p0.Steps], SL (α := Int) 3 (.slice pa0 (List.length p0.Regs) pc0) p0.Regs, SL (α := Int) 3 (.slice pa1 (List.length p0.Mem) pc1) p0.Mem, SL (α := Int) 3 (.slice pa2 (List.length p0.Stack) pc2) p0.Stack, SL (α := Int) 3 (.slice pa3 (List.length p0.Out) pc3) p0.Out] w1 S1 := hs
  refine from_pure 1 [(1, .int .i64 p1), (2, .pointer (some ⟨b1, 0, none⟩))] hF (by kernel_rfl) fun fr hF => ?_
  refine from_end rfl (then_normal ?_)
  refine wp_seq (wp_text' ?_)
  refine from_pure 1 [(1, .int .i64 p1), (2, .pointer (some ⟨b1, 0, none⟩)), (5, .pointer (some ⟨b1, 1, none⟩))] hF (by kernel_rfl) fun fr hF => ?_
  refine s_loadBox (.slice pa0 (List.length p0.Regs) pc0) ty26 rfl rfl hF rfl (hs.bx 0 rfl) rfl rfl fun fr hF => ?_
  refine from_pure 1 [(2, .pointer (some ⟨b1, 0, none⟩)), (6, .slice pa0 (List.length p0.Regs) pc0), (7, .int .i64 p1)] hF (by kernel_rfl) fun fr hF => ?_
  obtain ⟨x1, hx1, h⟩ := bindE h
  have hs : Sep [SL (α := Int) 3 (.slice pa0 (List.length p0.Regs) pc0) p0.Regs, BX b1 28 [.int .i64 p0.Pc, .slice pa0 (List.length p0.Regs) pc0, .slice pa1 (List.length p0.Mem) pc1, .slice pa2 (List.length p0.Stack) pc2, .int .i64 p0.In, .slice pa3 (List.length p0.Out) pc3, .int .i64 p0.Code, .int .i64 p0.Steps], SL (α := Int) 3 (.slice pa1 (List.length p0.Mem) pc1) p0.Mem, SL (α := Int) 3 (.slice pa2 (List.length p0.Stack) pc2) p0.Stack, SL (α := Int) 3 (.slice pa3 (List.length p0.Out) pc3) p0.Out] w1 S1 := Sep.pick [1, 0, 2, 3, 4] hs (by decide) rfl
  obtain ⟨A1, R1, hsA, hsR, hdA, hbA, hup⟩ := Sep.call (L1 := [SL (α := Int) 3 (.slice pa0 (List.length p0.Regs) pc0) p0.Regs]) (L2 := [BX b1 28 [.int .i64 p0.Pc, .slice pa0 (List.length p0.Regs) pc0, .slice pa1 (List.length p0.Mem) pc1, .slice pa2 (List.length p0.Stack) pc2, .int .i64 p0.In, .slice pa3 (List.length p0.Out) pc3, .int .i64 p0.Code, .int .i64 p0.Steps], SL (α := Int) 3 (.slice pa1 (List.length p0.Mem) pc1) p0.Mem, SL (α := Int) 3 (.slice pa2 (List.length p0.Stack) pc2) p0.Stack, SL (α := Int) 3 (.slice pa3 (List.length p0.Out) pc3) p0.Out]) hs hM0
  refine s_call [.slice pa0 (List.length p0.Regs) pc0, .int .i64 p1] Try.call25 rfl rfl hF rfl (laws_markIntS_ok n p0.Regs p1 hx1 hsA hbA hdA) fun v w2 fr hRes hF => ?_
  obtain ⟨rfl, _, hp, hs⟩ := hRes
  obtain ⟨S2, hp, hs⟩ := hup hp hs
  have hM0 := hM0.stp hp
  have hs : Sep [SL (α := Int) 3 (.slice pa0 (List.length p0.Regs) pc0) x1.2, BX b1 28 [.int .i64 p0.Pc, .slice pa0 (List.length p0.Regs) pc0, .slice pa1 (List.length p0.Mem) pc1, .slice pa2 (List.length p0.Stack) pc2, .int .i64 p0.In, .slice pa3 (List.length p0.Out) pc3, .int .i64 p0.Code, .int .i64 p0.Steps], SL (α := Int) 3 (.slice pa1 (List.length p0.Mem) pc1) p0.Mem, SL (α := Int) 3 (.slice pa2 (List.length p0.Stack) pc2) p0.Stack, SL (α := Int) 3 (.slice pa3 (List.length p0.Out) pc3) p0.Out] w2 S2 := hs
  refine from_pure 1 [(1, .int .i64 x1.1), (2, .pointer (some ⟨b1, 0, none⟩))] hF (by kernel_rfl) fun fr hF => ?_
  refine from_end rfl (then_normal ?_)
  refine wp_seq (wp_text' ?_)
  refine from_pure 1 [(1, .int .i64 x1.1), (2, .pointer (some ⟨b1, 0, none⟩)), (9, .pointer (some ⟨b1, 2, none⟩))] hF (by kernel_rfl) fun fr hF => ?_
  refine s_loadBox (.slice pa1 (List.length p0.Mem) pc1) ty26 rfl rfl hF rfl (hs.bx 1 rfl) rfl rfl fun fr hF => ?_
  refine from_pure 1 [(2, .pointer (some ⟨b1, 0, none⟩)), (10, .slice pa1 (List.length p0.Mem) pc1), (11, .int .i64 x1.1)] hF (by kernel_rfl) fun fr hF => ?_
  obtain ⟨x2, hx2, h⟩ := bindE h
  have hs : Sep [SL (α := Int) 3 (.slice pa1 (List.length p0.Mem) pc1) p0.Mem, SL (α := Int) 3 (.slice pa0 (List.length p0.Regs) pc0) x1.2, BX b1 28 [.int .i64 p0.Pc, .slice pa0 (List.length p0.Regs) pc0, .slice pa1 (List.length p0.Mem) pc1, .slice pa2 (List.length p0.Stack) pc2, .int .i64 p0.In, .slice pa3 (List.length p0.Out) pc3, .int .i64 p0.Code, .int .i64 p0.Steps], SL (α := Int) 3 (.slice pa2 (List.length p0.Stack) pc2) p0.Stack, SL (α := Int) 3 (.slice pa3 (List.length p0.Out) pc3) p0.Out] w2 S2 := Sep.pick [2, 0, 1, 3, 4] hs (by decide) rfl
  obtain ⟨A2, R2, hsA, hsR, hdA, hbA, hup⟩ := Sep.call (L1 := [SL (α := Int) 3 (.slice pa1 (List.length p0.Mem) pc1) p0.Mem]) (L2 := [SL (α := Int) 3 (.slice pa0 (List.length p0.Regs) pc0) x1.2, BX b1 28 [.int .i64 p0.Pc, .slice pa0 (List.length p0.Regs) pc0, .slice pa1 (List.length p0.Mem) pc1, .slice pa2 (List.length p0.Stack) pc2, .int .i64 p0.In, .slice pa3 (List.length p0.Out) pc3, .int .i64 p0.Code, .int .i64 p0.Steps], SL (α := Int) 3 (.slice pa2 (List.length p0.Stack) pc2) p0.Stack, SL (α := Int) 3 (.slice pa3 (List.length p0.Out) pc3) p0.Out]) hs hM0
  refine s_call [.slice pa1 (List.length p0.Mem) pc1, .int .i64 x1.1] Try.call25 rfl rfl hF rfl (laws_markIntS_ok n p0.Mem x1.1 hx2 hsA hbA hdA) fun v w3 fr hRes hF => ?_
  obtain ⟨rfl, _, hp, hs⟩ := hRes
  obtain ⟨S3, hp, hs⟩ := hup hp hs
  have hM0 := hM0.stp hp
  have hs : Sep [SL (α := Int) 3 (.slice pa1 (List.length p0.Mem) pc1) x2.2, SL (α := Int) 3 (.slice pa0 (List.length p0.Regs) pc0) x1.2, BX b1 28 [.int .i64 p0.Pc, .slice pa0 (List.length p0.Regs) pc0, .slice pa1 (List.length p0.Mem) pc1, .slice pa2 (List.length p0.Stack) pc2, .int .i64 p0.In, .slice pa3 (List.length p0.Out) pc3, .int .i64 p0.Code, .int .i64 p0.Steps], SL (α := Int) 3 (.slice pa2 (List.length p0.Stack) pc2) p0.Stack, SL (α := Int) 3 (.slice pa3 (List.length p0.Out) pc3) p0.Out] w3 S3 := hs
  refine from_pure 1 [(1, .int .i64 x2.1), (2, .pointer (some ⟨b1, 0, none⟩))] hF (by kernel_rfl) fun fr hF => ?_
  refine from_end rfl (then_normal ?_)
  refine wp_seq (wp_text' ?_)
  refine from_pure 1 [(1, .int .i64 x2.1), (2, .pointer (some ⟨b1, 0, none⟩)), (13, .pointer (some ⟨b1, 3, none⟩))] hF (by kernel_rfl) fun fr hF => ?_
  refine s_loadBox (.slice pa2 (List.length p0.Stack) pc2) ty26 rfl rfl hF rfl (hs.bx 2 rfl) rfl rfl fun fr hF => ?_
  refine from_pure 1 [(2, .pointer (some ⟨b1, 0, none⟩)), (14, .slice pa2 (List.length p0.Stack) pc2), (15, .int .i64 x2.1)] hF (by kernel_rfl) fun fr hF => ?_
  obtain ⟨x3, hx3, h⟩ := bindE h
  have hs : Sep [SL (α := Int) 3 (.slice pa2 (List.length p0.Stack) pc2) p0.Stack, SL (α := Int) 3 (.slice pa1 (List.length p0.Mem) pc1) x2.2, SL (α := Int) 3 (.slice pa0 (List.length p0.Regs) pc0) x1.2, BX b1 28 [.int .i64 p0.Pc, .slice pa0 (List.length p0.Regs) pc0, .slice pa1 (List.length p0.Mem) pc1, .slice pa2 (List.length p0.Stack) pc2, .int .i64 p0.In, .slice pa3 (List.length p0.Out) pc3, .int .i64 p0.Code, .int .i64 p0.Steps], SL (α := Int) 3 (.slice pa3 (List.length p0.Out) pc3) p0.Out] w3 S3 := Sep.pick [3, 0, 1, 2, 4] hs (by decide) rfl
  obtain ⟨A3, R3, hsA, hsR, hdA, hbA, hup⟩ := Sep.call (L1 := [SL (α := Int) 3 (.slice pa2 (List.length p0.Stack) pc2) p0.Stack]) (L2 := [SL (α := Int) 3 (.slice pa1 (List.length p0.Mem) pc1) x2.2, SL (α := Int) 3 (.slice pa0 (List.length p0.Regs) pc0) x1.2, BX b1 28 [.int .i64 p0.Pc, .slice pa0 (List.length p0.Regs) pc0, .slice pa1 (List.length p0.Mem) pc1, .slice pa2 (List.length p0.Stack) pc2, .int .i64 p0.In, .slice pa3 (List.length p0.Out) pc3, .int .i64 p0.Code, .int .i64 p0.Steps], SL (α := Int) 3 (.slice pa3 (List.length p0.Out) pc3) p0.Out]) hs hM0
  refine s_call [.slice pa2 (List.length p0.Stack) pc2, .int .i64 x2.1] Try.call25 rfl rfl hF rfl (laws_markIntS_ok n p0.Stack x2.1 hx3 hsA hbA hdA) fun v w4 fr hRes hF => ?_
  obtain ⟨rfl, _, hp, hs⟩ := hRes
  obtain ⟨S4, hp, hs⟩ := hup hp hs
  have hM0 := hM0.stp hp
  have hs : Sep [SL (α := Int) 3 (.slice pa2 (List.length p0.Stack) pc2) x3.2, SL (α := Int) 3 (.slice pa1 (List.length p0.Mem) pc1) x2.2, SL (α := Int) 3 (.slice pa0 (List.length p0.Regs) pc0) x1.2, BX b1 28 [.int .i64 p0.Pc, .slice pa0 (List.length p0.Regs) pc0, .slice pa1 (List.length p0.Mem) pc1, .slice pa2 (List.length p0.Stack) pc2, .int .i64 p0.In, .slice pa3 (List.length p0.Out) pc3, .int .i64 p0.Code, .int .i64 p0.Steps], SL (α := Int) 3 (.slice pa3 (List.length p0.Out) pc3) p0.Out] w4 S4 := hs
  refine from_pure 1 [(1, .int .i64 x3.1), (2, .pointer (some ⟨b1, 0, none⟩))] hF (by kernel_rfl) fun fr hF => ?_
  refine from_end rfl (then_normal ?_)
  refine wp_seq (wp_text' ?_)
  refine from_pure 1 [(1, .int .i64 x3.1), (17, .pointer (some ⟨b1, 5, none⟩))] hF (by kernel_rfl) fun fr hF => ?_
  refine s_loadBox (.slice pa3 (List.length p0.Out) pc3) ty26 rfl rfl hF rfl (hs.bx 3 rfl) rfl rfl fun fr hF => ?_
  have hs : Sep [SL (α := Int) 3 (.slice pa2 (List.length p0.Stack) pc2) x3.2, SL (α := Int) 3 (.slice pa1 (List.length p0.Mem) pc1) x2.2, SL (α := Int) 3 (.slice pa0 (List.length p0.Regs) pc0) x1.2, SL (α := Int) 3 (.slice pa3 (List.length p0.Out) pc3) p0.Out] w4 S4 := Sep.pick [0, 1, 2, 4] hs (by decide) rfl
  refine from_pure 1 [(18, .slice pa3 (List.length p0.Out) pc3), (19, .int .i64 x3.1)] hF (by kernel_rfl) fun fr hF => ?_
  obtain ⟨x4, hx4, h⟩ := bindE h
  have hs : Sep [SL (α := Int) 3 (.slice pa3 (List.length p0.Out) pc3) p0.Out, SL (α := Int) 3 (.slice pa2 (List.length p0.Stack) pc2) x3.2, SL (α := Int) 3 (.slice pa1 (List.length p0.Mem) pc1) x2.2, SL (α := Int) 3 (.slice pa0 (List.length p0.Regs) pc0) x1.2] w4 S4 := Sep.pick [3, 0, 1, 2] hs (by decide) rfl
  obtain ⟨A4, R4, hsA, hsR, hdA, hbA, hup⟩ := Sep.call (L1 := [SL (α := Int) 3 (.slice pa3 (List.length p0.Out) pc3) p0.Out]) (L2 := [SL (α := Int) 3 (.slice pa2 (List.length p0.Stack) pc2) x3.2, SL (α := Int) 3 (.slice pa1 (List.length p0.Mem) pc1) x2.2, SL (α := Int) 3 (.slice pa0 (List.length p0.Regs) pc0) x1.2]) hs hM0
  refine s_call [.slice pa3 (List.length p0.Out) pc3, .int .i64 x3.1] Try.call25 rfl rfl hF rfl (laws_markIntS_ok n p0.Out x3.1 hx4 hsA hbA hdA) fun v w5 fr hRes hF => ?_
  obtain ⟨rfl, _, hp, hs⟩ := hRes
  obtain ⟨S5, hp, hs⟩ := hup hp hs
  have hM0 := hM0.stp hp
  have hs : Sep [SL (α := Int) 3 (.slice pa3 (List.length p0.Out) pc3) x4.2, SL (α := Int) 3 (.slice pa2 (List.length p0.Stack) pc2) x3.2, SL (α := Int) 3 (.slice pa1 (List.length p0.Mem) pc1) x2.2, SL (α := Int) 3 (.slice pa0 (List.length p0.Regs) pc0) x1.2] w5 S5 := hs
  refine from_pure 1 [(1, .int .i64 x4.1)] hF (by kernel_rfl) fun fr hF => ?_
  refine from_end rfl (then_normal ?_)
  refine wp_seq (wp_pure [(4, .int .i64 x4.1)] hF (by kernel_rfl) fun fr hF => then_normal ?_)
  obtain rfl := Option.some.inj h
  have hs : Sep [SL (α := Int) 3 (.slice pa0 (List.length p0.Regs) pc0) x1.2, SL (α := Int) 3 (.slice pa1 (List.length p0.Mem) pc1) x2.2, SL (α := Int) 3 (.slice pa2 (List.length p0.Stack) pc2) x3.2, SL (α := Int) 3 (.slice pa3 (List.length p0.Out) pc3) x4.2] w5 S5 := Sep.pick [3, 2, 1, 0] hs (by decide) rfl
  exact wp_ret (ret1 rfl hF rfl ⟨_, rfl, rfl, S5, hM0.out, hs⟩)

theorem laws_heldIntS_ok (n : Nat) (p0 : List Int) (p1 : Int) {r : Int} (h : laws_heldIntS n p0 p1 = some r) {w : World} {G0 : Nat → Prop} {va0 : Value} (ra0 : RV w G0 va0 p0) :
    Calls Try.prog 30 [va0, .int .i64 p1].toArray w fun e w' => ∃ v, e = .returned v ∧ v = .int .i64 r ∧ Chg Non w w' := by
  unfold laws_heldIntS at h
  have hs := Sep.nil w Non
  have hM0 : Mem w Non (fun k => (G0 k) ∧ k < w.heap.size) w Non (fun k => (G0 k) ∧ k < w.heap.size) := Mem.start (fun _ h => h.elim) (fun _ h => h.2) (fun _ h => h.elim)
  have ra0 := ra0.sub (F' := (fun k => (G0 k) ∧ k < w.heap.size)) (fun k hk h => ⟨h, hk⟩)
  obtain ⟨a1, c1, rfl, -⟩ := ra0.slice
  refine enter (N := 21) Try.func30 rfl Try.ntmps30 rfl fun fr hF => ?_
  refine wp_seq (wp_pure [(0, .slice a1 (List.length p0) c1), (1, .int .i64 p1)] hF (by kernel_rfl) fun fr hF => then_normal ?_)
  refine wp_seq ?_
  refine wp_seq (wp_pure [(0, .slice a1 (List.length p0) c1), (1, .int .i64 p1), (5, .int .i64 0)] hF (by kernel_rfl) fun fr hF => then_normal ?_)
  obtain ⟨rl1, hit1, h⟩ := bindE h
  have hk1 := h
  refine (wp_cut (M := fun fr w' => ∃ s, rl1 = .inl s ∧ ∃ S2 F2, FrS 21 [(1, .int .i64 s)] fr ∧ Mem w Non (fun k => (G0 k) ∧ k < w.heap.size) w' S2 F2 ∧ Sep [] w' S2) (wp_block (wp_iter (Inv := fun s1 fr w' => ∃ S1 F1, FrS 21 [(0, .slice a1 (List.length p0) c1), (1, .int .i64 s1.1), (5, .int .i64 s1.2)] fr ∧ Mem w Non (fun k => (G0 k) ∧ k < w.heap.size) w' S1 F1 ∧ Sep [] w' S1) hit1 ⟨Non, _, hF.sub _ (by kernel_rfl), (Mem.start hM0.bd hM0.bdF hM0.dj), hs⟩ fun s1 q1 fr w1i hI h hr1 => ?_)) fun fr w1o hM => ?_)
  · obtain ⟨S1, F1, hF, hM1, hs⟩ := hI
    have ra0 := ra0.mem hM1
    refine wp_seq ?_
    refine wp_seq (wp_pure [(0, .slice a1 (List.length p0) c1), (1, .int .i64 s1.1), (5, .int .i64 s1.2), (9, .bool (decide (s1.2 < (len p0))))] hF (by kernel_rfl) fun fr hF => then_normal ?_)
    refine (wp_if hF (b := (decide (s1.2 < (len p0)))) rfl (fun hb => ?_) (fun hb => ?_))
    · replace h := iteT hb h
      refine (wp_skip (then_normal ?_))
      refine wp_seq (wp_block ?_)
      refine wp_seq ?_
      refine wp_seq (wp_text' ?_)
      refine from_pure 2 [(0, .slice a1 (List.length p0) c1), (1, .int .i64 s1.1), (5, .int .i64 s1.2), (12, .slice a1 (List.length p0) c1), (13, .int .i64 s1.2)] hF (by kernel_rfl) fun fr hF => ?_
      obtain ⟨x1, hx1, h⟩ := bindE h
      refine s_elemF (z := x1) (.int .i64 x1) ty3 Try.underlying26 rfl rfl rfl rfl rfl hF rfl (ra0) rfl (get?_nn hx1) (get?_at hx1) rfl fun p fr hF => ?_
      refine from_pure 2 [(0, .slice a1 (List.length p0) c1), (1, .int .i64 s1.1), (5, .int .i64 s1.2), (17, .bool (x1 != s1.1))] hF (by kernel_rfl) fun fr hF => ?_
      refine from_end rfl (then_normal ?_)
      refine (wp_if hF (b := (x1 != s1.1)) rfl (fun hb => ?_) (fun hb => ?_))
      · replace h := iteT hb h
        refine wp_seq (wp_pure [(4, .int .i64 (-1))] hF (by kernel_rfl) fun fr hF => then_normal ?_)
        obtain rfl := hr1 _ (Option.some.inj h).symm
        obtain rfl := Option.some.inj hk1
        exact wp_ret (then_ret (blk_ret (then_ret (then_ret (blk_ret (then_ret (ret1 rfl hF rfl ⟨_, rfl, rfl, (hM0.trans hM1).chg⟩)))))))
      · replace h := iteF hb h
        refine (wp_skip (then_normal ?_))
        refine (wp_pure [(0, .slice a1 (List.length p0) c1), (1, .int .i64 (w64 (s1.1 + 1))), (5, .int .i64 s1.2)] hF (by kernel_rfl) fun fr hF => ?_)
        refine blk_normal (then_normal ?_)
        refine (wp_pure [(0, .slice a1 (List.length p0) c1), (1, .int .i64 (w64 (s1.1 + 1))), (5, .int .i64 (w64 (s1.2 + 1)))] hF (by kernel_rfl) fun fr hF => then_normal ?_)
        exact ⟨_, (Option.some.inj h).symm, S1, _, hF.sub _ (by kernel_rfl), hM1, hs⟩
    · replace h := iteF hb h
      refine (wp_exit (then_exit (then_exit (blk_exit_eq ?_))))
      obtain rfl := hr1 _ (Option.some.inj h).symm
      exact then_normal ⟨_, rfl, S1, _, hF.sub _ (by kernel_rfl), hM1, hs⟩
  · obtain ⟨s1r, rfl, hM⟩ := hM
    obtain ⟨S2, F2, hF, hMx, hs⟩ := hM
    have hM0 := hM0.trans hMx
    refine wp_seq (wp_pure [(4, .int .i64 s1r)] hF (by kernel_rfl) fun fr hF => then_normal ?_)
    obtain rfl := Option.some.inj h
    exact wp_ret (ret1 rfl hF rfl ⟨_, rfl, rfl, hM0.chg⟩)

theorem laws_heldState_ok (n : Nat) (p0 : D.State) (p1 : Int) {r : Int} (h : laws_heldState n p0 p1 = some r) {w : World} {G0 : Nat → Prop} {va0 : Value} (ra0 : RV w G0 va0 p0) :
    Calls Try.prog 18 [va0, .int .i64 p1].toArray w fun e w' => ∃ v, e = .returned v ∧ v = .int .i64 r ∧ Chg Non w w' := by
  unfold laws_heldState at h
  have hs := Sep.nil w Non
  have hM0 : Mem w Non (fun k => (G0 k) ∧ k < w.heap.size) w Non (fun k => (G0 k) ∧ k < w.heap.size) := Mem.start (fun _ h => h.elim) (fun _ h => h.2) (fun _ h => h.elim)
  have ra0 := ra0.sub (F' := (fun k => (G0 k) ∧ k < w.heap.size)) (fun k hk h => ⟨h, hk⟩)
  obtain ⟨v1, v2, v3, v4, rfl, r1, r2, r3, r4⟩ := RV.State ra0
  obtain ⟨a1, c1, rfl, -⟩ := r1.slice
  obtain ⟨a2, c2, rfl, -⟩ := r2.slice
  obtain ⟨a3, c3, rfl, -⟩ := r3.slice
  obtain ⟨a4, c4, rfl, -⟩ := r4.slice
  refine enter (N := 30) Try.func18 rfl Try.ntmps18 rfl fun fr hF => ?_
  refine wp_seq (wp_text' ?_)
  refine q_box hs hM0 [.int .i64 p0.Pc, .slice a1 (List.length p0.Regs) c1, .slice a2 (List.length p0.Mem) c2, .slice a3 (List.length p0.Stack) c3, .int .i64 p0.In, .slice a4 (List.length p0.Out) c4, .int .i64 p0.Code, .int .i64 p0.Steps] rfl rfl hF rfl rfl fun b1 w1 S1 fr hs hp hF => ?_
  have r1 := r1.stp hM0 hp
  have r2 := r2.stp hM0 hp
  have r3 := r3.stp hM0 hp
  have r4 := r4.stp hM0 hp
  have hM0 := hM0.stp hp
  have hs : Sep [BX b1 28 [.int .i64 p0.Pc, .slice a1 (List.length p0.Regs) c1, .slice a2 (List.length p0.Mem) c2, .slice a3 (List.length p0.Stack) c3, .int .i64 p0.In, .slice a4 (List.length p0.Out) c4, .int .i64 p0.Code, .int .i64 p0.Steps]] w1 S1 := hs
  refine from_pure 1 [(1, .int .i64 p1), (2, .pointer (some ⟨b1, 0, none⟩))] hF (by kernel_rfl) fun fr hF => ?_
  refine from_end rfl (then_normal ?_)
  refine wp_seq (wp_text' ?_)
  refine from_pure 1 [(1, .int .i64 p1), (2, .pointer (some ⟨b1, 0, none⟩)), (5, .pointer (some ⟨b1, 1, none⟩))] hF (by kernel_rfl) fun fr hF => ?_
  refine s_loadBox (.slice a1 (List.length p0.Regs) c1) ty26 rfl rfl hF rfl (hs.bx 0 rfl) rfl rfl fun fr hF => ?_
  refine from_pure 1 [(2, .pointer (some ⟨b1, 0, none⟩)), (6, .slice a1 (List.length p0.Regs) c1), (7, .int .i64 p1)] hF (by kernel_rfl) fun fr hF => ?_
  obtain ⟨x1, hx1, h⟩ := bindE h
  refine s_call [.slice a1 (List.length p0.Regs) c1, .int .i64 p1] Try.call30 rfl rfl hF rfl (laws_heldIntS_ok n p0.Regs p1 hx1 (r1)) fun v w2 fr hRes hF => ?_
  obtain ⟨rfl, hc⟩ := hRes
  have r1 := r1.ext hc
  have r2 := r2.ext hc
  have r3 := r3.ext hc
  have r4 := r4.ext hc
  have hs := hs.ext hc
  have hM0 := hM0.ext hc
  refine from_pure 1 [(1, .int .i64 x1), (2, .pointer (some ⟨b1, 0, none⟩))] hF (by kernel_rfl) fun fr hF => ?_
  refine from_end rfl (then_normal ?_)
  refine wp_seq ?_
  refine wp_seq (wp_pure [(1, .int .i64 x1), (2, .pointer (some ⟨b1, 0, none⟩)), (10, .bool (decide (x1 < 0)))] hF (by kernel_rfl) fun fr hF => then_normal ?_)
  refine (wp_if hF (b := (decide (x1 < 0))) rfl (fun hb => ?_) (fun hb => ?_))
  · replace h := iteT hb h
    have hs : Sep [] w2 S1 := Sep.pick [] hs (by decide) rfl
    refine wp_seq (wp_pure [(4, .int .i64 (-1))] hF (by kernel_rfl) fun fr hF => then_normal ?_)
    obtain rfl := Option.some.inj h
    exact wp_ret (then_ret (ret1 rfl hF rfl ⟨_, rfl, rfl, hM0.chg⟩))
  · replace h := iteF hb h
    refine (wp_skip (then_normal ?_))
    refine wp_seq (wp_text' ?_)
    refine from_pure 1 [(1, .int .i64 x1), (2, .pointer (some ⟨b1, 0, none⟩)), (11, .pointer (some ⟨b1, 2, none⟩))] hF (by kernel_rfl) fun fr hF => ?_
    refine s_loadBox (.slice a2 (List.length p0.Mem) c2) ty26 rfl rfl hF rfl (hs.bx 0 rfl) rfl rfl fun fr hF => ?_
    refine from_pure 1 [(2, .pointer (some ⟨b1, 0, none⟩)), (12, .slice a2 (List.length p0.Mem) c2), (13, .int .i64 x1)] hF (by kernel_rfl) fun fr hF => ?_
    obtain ⟨x2, hx2, h⟩ := bindE h
    refine s_call [.slice a2 (List.length p0.Mem) c2, .int .i64 x1] Try.call30 rfl rfl hF rfl (laws_heldIntS_ok n p0.Mem x1 hx2 (r2)) fun v w3 fr hRes hF => ?_
    obtain ⟨rfl, hc⟩ := hRes
    have r2 := r2.ext hc
    have r1 := r1.ext hc
    have r3 := r3.ext hc
    have r4 := r4.ext hc
    have hs := hs.ext hc
    have hM0 := hM0.ext hc
    refine from_pure 1 [(1, .int .i64 x2), (2, .pointer (some ⟨b1, 0, none⟩))] hF (by kernel_rfl) fun fr hF => ?_
    refine from_end rfl (then_normal ?_)
    refine wp_seq ?_
    refine wp_seq (wp_pure [(1, .int .i64 x2), (2, .pointer (some ⟨b1, 0, none⟩)), (16, .bool (decide (x2 < 0)))] hF (by kernel_rfl) fun fr hF => then_normal ?_)
    refine (wp_if hF (b := (decide (x2 < 0))) rfl (fun hb => ?_) (fun hb => ?_))
    · replace h := iteT hb h
      have hs : Sep [] w3 S1 := Sep.pick [] hs (by decide) rfl
      refine wp_seq (wp_pure [(4, .int .i64 (-1))] hF (by kernel_rfl) fun fr hF => then_normal ?_)
      obtain rfl := Option.some.inj h
      exact wp_ret (then_ret (ret1 rfl hF rfl ⟨_, rfl, rfl, hM0.chg⟩))
    · replace h := iteF hb h
      refine (wp_skip (then_normal ?_))
      refine wp_seq (wp_text' ?_)
      refine from_pure 1 [(1, .int .i64 x2), (2, .pointer (some ⟨b1, 0, none⟩)), (17, .pointer (some ⟨b1, 3, none⟩))] hF (by kernel_rfl) fun fr hF => ?_
      refine s_loadBox (.slice a3 (List.length p0.Stack) c3) ty26 rfl rfl hF rfl (hs.bx 0 rfl) rfl rfl fun fr hF => ?_
      refine from_pure 1 [(2, .pointer (some ⟨b1, 0, none⟩)), (18, .slice a3 (List.length p0.Stack) c3), (19, .int .i64 x2)] hF (by kernel_rfl) fun fr hF => ?_
      obtain ⟨x3, hx3, h⟩ := bindE h
      refine s_call [.slice a3 (List.length p0.Stack) c3, .int .i64 x2] Try.call30 rfl rfl hF rfl (laws_heldIntS_ok n p0.Stack x2 hx3 (r3)) fun v w4 fr hRes hF => ?_
      obtain ⟨rfl, hc⟩ := hRes
      have r3 := r3.ext hc
      have r1 := r1.ext hc
      have r2 := r2.ext hc
      have r4 := r4.ext hc
      have hs := hs.ext hc
      have hM0 := hM0.ext hc
      refine from_pure 1 [(1, .int .i64 x3), (2, .pointer (some ⟨b1, 0, none⟩))] hF (by kernel_rfl) fun fr hF => ?_
      refine from_end rfl (then_normal ?_)
      refine wp_seq ?_
      refine wp_seq (wp_pure [(1, .int .i64 x3), (2, .pointer (some ⟨b1, 0, none⟩)), (22, .bool (decide (x3 < 0)))] hF (by kernel_rfl) fun fr hF => then_normal ?_)
      refine (wp_if hF (b := (decide (x3 < 0))) rfl (fun hb => ?_) (fun hb => ?_))
      · replace h := iteT hb h
        have hs : Sep [] w4 S1 := Sep.pick [] hs (by decide) rfl
        refine wp_seq (wp_pure [(4, .int .i64 (-1))] hF (by kernel_rfl) fun fr hF => then_normal ?_)
        obtain rfl := Option.some.inj h
        exact wp_ret (then_ret (ret1 rfl hF rfl ⟨_, rfl, rfl, hM0.chg⟩))
      · replace h := iteF hb h
        refine (wp_skip (then_normal ?_))
        refine wp_seq (wp_text' ?_)
        refine from_pure 1 [(1, .int .i64 x3), (23, .pointer (some ⟨b1, 5, none⟩))] hF (by kernel_rfl) fun fr hF => ?_
        refine s_loadBox (.slice a4 (List.length p0.Out) c4) ty26 rfl rfl hF rfl (hs.bx 0 rfl) rfl rfl fun fr hF => ?_
        have hs : Sep [] w4 S1 := Sep.pick [] hs (by decide) rfl
        refine from_pure 1 [(24, .slice a4 (List.length p0.Out) c4), (25, .int .i64 x3)] hF (by kernel_rfl) fun fr hF => ?_
        obtain ⟨x4, hx4, h⟩ := bindE h
        refine s_call [.slice a4 (List.length p0.Out) c4, .int .i64 x3] Try.call30 rfl rfl hF rfl (laws_heldIntS_ok n p0.Out x3 hx4 (r4)) fun v w5 fr hRes hF => ?_
        obtain ⟨rfl, hc⟩ := hRes
        have r4 := r4.ext hc
        have hs := hs.ext hc
        have hM0 := hM0.ext hc
        refine from_pure 1 [(1, .int .i64 x4)] hF (by kernel_rfl) fun fr hF => ?_
        refine from_end rfl (then_normal ?_)
        refine wp_seq ?_
        refine wp_seq (wp_pure [(1, .int .i64 x4), (28, .bool (decide (x4 < 0)))] hF (by kernel_rfl) fun fr hF => then_normal ?_)
        refine (wp_if hF (b := (decide (x4 < 0))) rfl (fun hb => ?_) (fun hb => ?_))
        · replace h := iteT hb h
          refine wp_seq (wp_pure [(4, .int .i64 (-1))] hF (by kernel_rfl) fun fr hF => then_normal ?_)
          obtain rfl := Option.some.inj h
          exact wp_ret (then_ret (ret1 rfl hF rfl ⟨_, rfl, rfl, hM0.chg⟩))
        · replace h := iteF hb h
          refine (wp_skip (then_normal ?_))
          refine wp_seq (wp_pure [(4, .int .i64 x4)] hF (by kernel_rfl) fun fr hF => then_normal ?_)
          obtain rfl := Option.some.inj h
          exact wp_ret (ret1 rfl hF rfl ⟨_, rfl, rfl, hM0.chg⟩)

theorem laws_FnExactNewState_ok (n : Nat) (p0 : D.Program) {r : Bool} (h : laws_FnExactNewState n p0 = some r) {w : World} {G0 : Nat → Prop} {va0 : Value} (ra0 : RV w G0 va0 p0) :
    Calls Try.prog 3 [va0].toArray w fun e w' => ∃ v, e = .returned v ∧ v = .bool r ∧ Chg Non w w' := by
  unfold laws_FnExactNewState at h
  have hs := Sep.nil w Non
  have hM0 : Mem w Non (fun k => (G0 k) ∧ k < w.heap.size) w Non (fun k => (G0 k) ∧ k < w.heap.size) := Mem.start (fun _ h => h.elim) (fun _ h => h.2) (fun _ h => h.elim)
  have ra0 := ra0.sub (F' := (fun k => (G0 k) ∧ k < w.heap.size)) (fun k hk h => ⟨h, hk⟩)
  obtain ⟨v1, rfl, r1⟩ := RV.Program ra0
  obtain ⟨a1, c1, rfl, -⟩ := r1.slice
  refine enter (N := 69) Try.func3 rfl Try.ntmps3 rfl fun fr hF => ?_
  refine wp_seq (wp_text' ?_)
  refine q_box hs hM0 [.int .i64 p0.W, .int .i64 p0.Mem, .int .i64 p0.In, .slice a1 (List.length p0.Code) c1] rfl rfl hF rfl rfl fun b1 w1 S1 fr hs hp hF => ?_
  have r1 := r1.stp hM0 hp
  have hM0 := hM0.stp hp
  have hs : Sep [BX b1 24 [.int .i64 p0.W, .int .i64 p0.Mem, .int .i64 p0.In, .slice a1 (List.length p0.Code) c1]] w1 S1 := hs
  refine from_pure 1 [(1, .pointer (some ⟨b1, 0, none⟩))] hF (by kernel_rfl) fun fr hF => ?_
  refine from_end rfl (then_normal ?_)
  refine wp_seq (wp_pure [(1, .pointer (some ⟨b1, 0, none⟩)), (3, .int .i64 1048576)] hF (by kernel_rfl) fun fr hF => then_normal ?_)
  refine wp_seq (wp_text' ?_)
  refine s_loadBoxS ty24 rfl rfl hF rfl (hs.bx 0 rfl) rfl rfl fun fr hF => ?_
  refine from_pure 1 [(1, .pointer (some ⟨b1, 0, none⟩)), (11, .agg #[.int .i64 p0.W, .int .i64 p0.Mem, .int .i64 p0.In, .slice a1 (List.length p0.Code) c1]), (12, .int .i64 1048576)] hF (by kernel_rfl) fun fr hF => ?_
  obtain ⟨x1, hx1, h⟩ := bindE h
  refine s_call [.agg #[.int .i64 p0.W, .int .i64 p0.Mem, .int .i64 p0.In, .slice a1 (List.length p0.Code) c1], .int .i64 1048576] Try.call10 rfl rfl hF rfl (laws_szProgram_ok p0 1048576 hx1 (RV.mk_Program p0 (r1))) fun v w2 fr hRes hF => ?_
  obtain ⟨rfl, hc⟩ := hRes
  have r1 := r1.ext hc
  have hs := hs.ext hc
  have hM0 := hM0.ext hc
  refine from_pure 1 [(1, .pointer (some ⟨b1, 0, none⟩)), (3, .int .i64 x1)] hF (by kernel_rfl) fun fr hF => ?_
  refine from_end rfl (then_normal ?_)
  refine wp_seq ?_
  refine wp_seq (wp_pure [(1, .pointer (some ⟨b1, 0, none⟩)), (15, .bool (decide (x1 < 0)))] hF (by kernel_rfl) fun fr hF => then_normal ?_)
  refine (wp_if hF (b := (decide (x1 < 0))) rfl (fun hb => ?_) (fun hb => ?_))
  · replace h := iteT hb h
    have hs : Sep [] w2 S1 := Sep.pick [] hs (by decide) rfl
    refine wp_seq (wp_pure [(2, .bool true)] hF (by kernel_rfl) fun fr hF => then_normal ?_)
    obtain rfl := Option.some.inj h
    exact wp_ret (then_ret (ret1 rfl hF rfl ⟨_, rfl, rfl, hM0.chg⟩))
  · replace h := iteF hb h
    refine (wp_skip (then_normal ?_))
    refine wp_seq (wp_text' ?_)
    refine s_loadBoxS ty24 rfl rfl hF rfl (hs.bx 0 rfl) rfl rfl fun fr hF => ?_
    obtain ⟨x2, hx2, h⟩ := bindE h
    refine s_call [.agg #[.int .i64 p0.W, .int .i64 p0.Mem, .int .i64 p0.In, .slice a1 (List.length p0.Code) c1]] Try.call12 rfl rfl hF rfl (laws_toProgram_ok n p0 hx2 (RV.mk_Program p0 (r1))) fun v w3 fr hRes hF => ?_
    obtain ⟨a2, c2, rfl, _, hp, hs2⟩ := hRes
    obtain ⟨S2, hp, hs⟩ := hs.got hM0 hp hs2
    have r1 := r1.stp hM0 hp
    have hM0 := hM0.stp hp
    have hs : Sep [SL (α := D.Ins) 66 (.slice a2 (List.length x2.Code) c2) x2.Code, BX b1 24 [.int .i64 p0.W, .int .i64 p0.Mem, .int .i64 p0.In, .slice a1 (List.length p0.Code) c1]] w3 S2 := hs
    obtain ⟨x3, hx3, h⟩ := bindE h
    refine s_call [.agg #[.int .i64 x2.W, .int .i64 x2.Mem, .int .i64 x2.In, .slice a2 (List.length x2.Code) c2]] Try.call11 rfl rfl hF rfl (spec_NewState_ok n x2 hx3 (RV.mk_Program x2 (RV.any (hs.rv 0 rfl)))) fun v w4 fr hRes hF => ?_
    obtain ⟨a3, c3, a4, c4, a5, c5, a6, c6, rfl, _, hp, hs2⟩ := hRes
    obtain ⟨S3, hp, hs⟩ := hs.got hM0 hp hs2
    have r1 := r1.stp hM0 hp
    have hM0 := hM0.stp hp
    have hs : Sep [SL (α := Int) 3 (.slice a3 (List.length x3.Regs) c3) x3.Regs, SL (α := Int) 3 (.slice a4 (List.length x3.Mem) c4) x3.Mem, SL (α := Int) 3 (.slice a5 (List.length x3.Stack) c5) x3.Stack, SL (α := Int) 3 (.slice a6 (List.length x3.Out) c6) x3.Out, SL (α := D.Ins) 66 (.slice a2 (List.length x2.Code) c2) x2.Code, BX b1 24 [.int .i64 p0.W, .int .i64 p0.Mem, .int .i64 p0.In, .slice a1 (List.length p0.Code) c1]] w4 S3 := hs
    have hs : Sep [SL (α := Int) 3 (.slice a3 (List.length x3.Regs) c3) x3.Regs, SL (α := Int) 3 (.slice a4 (List.length x3.Mem) c4) x3.Mem, SL (α := Int) 3 (.slice a5 (List.length x3.Stack) c5) x3.Stack, SL (α := Int) 3 (.slice a6 (List.length x3.Out) c6) x3.Out, BX b1 24 [.int .i64 p0.W, .int .i64 p0.Mem, .int .i64 p0.In, .slice a1 (List.length p0.Code) c1]] w4 S3 := Sep.pick [0, 1, 2, 3, 5] hs (by decide) rfl
    refine q_alloc (z := .agg #[.int .i64 0, .slice none (List.length ([] : List Int)) 0, .slice none (List.length ([] : List Int)) 0, .slice none (List.length ([] : List Int)) 0, .int .i64 0, .slice none (List.length ([] : List Int)) 0, .int .i64 0, .int .i64 0]) hs hM0 [.int .i64 0, .slice none (List.length ([] : List Int)) 0, .slice none (List.length ([] : List Int)) 0, .slice none (List.length ([] : List Int)) 0, .int .i64 0, .slice none (List.length ([] : List Int)) 0, .int .i64 0, .int .i64 0] rfl rfl hF (by kernel_rfl) rfl fun b2 w5 S4 fr hs hp hF => ?_
    have r1 := r1.stp hM0 hp
    have hM0 := hM0.stp hp
    have hs : Sep [BX b2 28 [.int .i64 0, .slice none (List.length ([] : List Int)) 0, .slice none (List.length ([] : List Int)) 0, .slice none (List.length ([] : List Int)) 0, .int .i64 0, .slice none (List.length ([] : List Int)) 0, .int .i64 0, .int .i64 0], SL (α := Int) 3 (.slice a3 (List.length x3.Regs) c3) x3.Regs, SL (α := Int) 3 (.slice a4 (List.length x3.Mem) c4) x3.Mem, SL (α := Int) 3 (.slice a5 (List.length x3.Stack) c5) x3.Stack, SL (α := Int) 3 (.slice a6 (List.length x3.Out) c6) x3.Out, BX b1 24 [.int .i64 p0.W, .int .i64 p0.Mem, .int .i64 p0.In, .slice a1 (List.length p0.Code) c1]] w5 S4 := hs
    refine q_storeBoxS 0 hs hM0 rfl [.int .i64 x3.Pc, .slice a3 (List.length x3.Regs) c3, .slice a4 (List.length x3.Mem) c4, .slice a5 (List.length x3.Stack) c5, .int .i64 x3.In, .slice a6 (List.length x3.Out) c6, .int .i64 x3.Code, .int .i64 x3.Steps] rfl hF rfl rfl (by kernel_rfl) rfl rfl rfl fun w6 S5 hs hp hF => ?_
    have r1 := r1.stp hM0 hp
    have hM0 := hM0.stp hp
    have hs : Sep [BX b2 28 [.int .i64 x3.Pc, .slice a3 (List.length x3.Regs) c3, .slice a4 (List.length x3.Mem) c4, .slice a5 (List.length x3.Stack) c5, .int .i64 x3.In, .slice a6 (List.length x3.Out) c6, .int .i64 x3.Code, .int .i64 x3.Steps], SL (α := Int) 3 (.slice a3 (List.length x3.Regs) c3) x3.Regs, SL (α := Int) 3 (.slice a4 (List.length x3.Mem) c4) x3.Mem, SL (α := Int) 3 (.slice a5 (List.length x3.Stack) c5) x3.Stack, SL (α := Int) 3 (.slice a6 (List.length x3.Out) c6) x3.Out, BX b1 24 [.int .i64 p0.W, .int .i64 p0.Mem, .int .i64 p0.In, .slice a1 (List.length p0.Code) c1]] w6 S5 := hs
    refine from_end rfl (then_normal ?_)
    refine wp_seq (wp_text' ?_)
    refine s_loadBoxS ty24 rfl rfl hF rfl (hs.bx 5 rfl) rfl rfl fun fr hF => ?_
    obtain ⟨x4, hx4, h⟩ := bindE h
    refine s_call [.agg #[.int .i64 p0.W, .int .i64 p0.Mem, .int .i64 p0.In, .slice a1 (List.length p0.Code) c1]] Try.call12 rfl rfl hF rfl (laws_toProgram_ok n p0 hx4 (RV.mk_Program p0 (r1))) fun v w7 fr hRes hF => ?_
    obtain ⟨a7, c7, rfl, _, hp, hs2⟩ := hRes
    obtain ⟨S6, hp, hs⟩ := hs.got hM0 hp hs2
    have r1 := r1.stp hM0 hp
    have hM0 := hM0.stp hp
    have hs : Sep [SL (α := D.Ins) 66 (.slice a7 (List.length x4.Code) c7) x4.Code, BX b2 28 [.int .i64 x3.Pc, .slice a3 (List.length x3.Regs) c3, .slice a4 (List.length x3.Mem) c4, .slice a5 (List.length x3.Stack) c5, .int .i64 x3.In, .slice a6 (List.length x3.Out) c6, .int .i64 x3.Code, .int .i64 x3.Steps], SL (α := Int) 3 (.slice a3 (List.length x3.Regs) c3) x3.Regs, SL (α := Int) 3 (.slice a4 (List.length x3.Mem) c4) x3.Mem, SL (α := Int) 3 (.slice a5 (List.length x3.Stack) c5) x3.Stack, SL (α := Int) 3 (.slice a6 (List.length x3.Out) c6) x3.Out, BX b1 24 [.int .i64 p0.W, .int .i64 p0.Mem, .int .i64 p0.In, .slice a1 (List.length p0.Code) c1]] w7 S6 := hs
    refine q_alloc (z := .agg #[.int .i64 0, .int .i64 0, .int .i64 0, .slice none (List.length ([] : List D.Ins)) 0]) hs hM0 [.int .i64 0, .int .i64 0, .int .i64 0, .slice none (List.length ([] : List D.Ins)) 0] rfl rfl hF (by kernel_rfl) rfl fun b3 w8 S7 fr hs hp hF => ?_
    have r1 := r1.stp hM0 hp
    have hM0 := hM0.stp hp
    have hs : Sep [BX b3 32 [.int .i64 0, .int .i64 0, .int .i64 0, .slice none (List.length ([] : List D.Ins)) 0], SL (α := D.Ins) 66 (.slice a7 (List.length x4.Code) c7) x4.Code, BX b2 28 [.int .i64 x3.Pc, .slice a3 (List.length x3.Regs) c3, .slice a4 (List.length x3.Mem) c4, .slice a5 (List.length x3.Stack) c5, .int .i64 x3.In, .slice a6 (List.length x3.Out) c6, .int .i64 x3.Code, .int .i64 x3.Steps], SL (α := Int) 3 (.slice a3 (List.length x3.Regs) c3) x3.Regs, SL (α := Int) 3 (.slice a4 (List.length x3.Mem) c4) x3.Mem, SL (α := Int) 3 (.slice a5 (List.length x3.Stack) c5) x3.Stack, SL (α := Int) 3 (.slice a6 (List.length x3.Out) c6) x3.Out, BX b1 24 [.int .i64 p0.W, .int .i64 p0.Mem, .int .i64 p0.In, .slice a1 (List.length p0.Code) c1]] w8 S7 := hs
    refine q_storeBoxS 0 hs hM0 rfl [.int .i64 x4.W, .int .i64 x4.Mem, .int .i64 x4.In, .slice a7 (List.length x4.Code) c7] rfl hF rfl rfl (by kernel_rfl) rfl rfl rfl fun w9 S8 hs hp hF => ?_
    have r1 := r1.stp hM0 hp
    have hM0 := hM0.stp hp
    have hs : Sep [BX b3 32 [.int .i64 x4.W, .int .i64 x4.Mem, .int .i64 x4.In, .slice a7 (List.length x4.Code) c7], SL (α := D.Ins) 66 (.slice a7 (List.length x4.Code) c7) x4.Code, BX b2 28 [.int .i64 x3.Pc, .slice a3 (List.length x3.Regs) c3, .slice a4 (List.length x3.Mem) c4, .slice a5 (List.length x3.Stack) c5, .int .i64 x3.In, .slice a6 (List.length x3.Out) c6, .int .i64 x3.Code, .int .i64 x3.Steps], SL (α := Int) 3 (.slice a3 (List.length x3.Regs) c3) x3.Regs, SL (α := Int) 3 (.slice a4 (List.length x3.Mem) c4) x3.Mem, SL (α := Int) 3 (.slice a5 (List.length x3.Stack) c5) x3.Stack, SL (α := Int) 3 (.slice a6 (List.length x3.Out) c6) x3.Out, BX b1 24 [.int .i64 p0.W, .int .i64 p0.Mem, .int .i64 p0.In, .slice a1 (List.length p0.Code) c1]] w9 S8 := hs
    refine from_end rfl (then_normal ?_)
    refine wp_seq (wp_text' ?_)
    refine s_loadBoxS ty32 rfl rfl hF rfl (hs.bx 0 rfl) rfl rfl fun fr hF => ?_
    obtain ⟨x5, hx5, h⟩ := bindE h
    refine s_call [.agg #[.int .i64 x4.W, .int .i64 x4.Mem, .int .i64 x4.In, .slice a7 (List.length x4.Code) c7]] Try.call13 rfl rfl hF rfl (impl_NewState_ok n x4 hx5 (RV.mk_Program x4 (RV.any (hs.rv 1 rfl)))) fun v w10 fr hRes hF => ?_
    obtain ⟨a8, c8, a9, c9, a10, c10, a11, c11, rfl, _, hp, hs2⟩ := hRes
    obtain ⟨S9, hp, hs⟩ := hs.got hM0 hp hs2
    have r1 := r1.stp hM0 hp
    have hM0 := hM0.stp hp
    have hs : Sep [SL (α := Int) 3 (.slice a8 (List.length x5.Regs) c8) x5.Regs, SL (α := Int) 3 (.slice a9 (List.length x5.Mem) c9) x5.Mem, SL (α := Int) 3 (.slice a10 (List.length x5.Stack) c10) x5.Stack, SL (α := Int) 3 (.slice a11 (List.length x5.Out) c11) x5.Out, BX b3 32 [.int .i64 x4.W, .int .i64 x4.Mem, .int .i64 x4.In, .slice a7 (List.length x4.Code) c7], SL (α := D.Ins) 66 (.slice a7 (List.length x4.Code) c7) x4.Code, BX b2 28 [.int .i64 x3.Pc, .slice a3 (List.length x3.Regs) c3, .slice a4 (List.length x3.Mem) c4, .slice a5 (List.length x3.Stack) c5, .int .i64 x3.In, .slice a6 (List.length x3.Out) c6, .int .i64 x3.Code, .int .i64 x3.Steps], SL (α := Int) 3 (.slice a3 (List.length x3.Regs) c3) x3.Regs, SL (α := Int) 3 (.slice a4 (List.length x3.Mem) c4) x3.Mem, SL (α := Int) 3 (.slice a5 (List.length x3.Stack) c5) x3.Stack, SL (α := Int) 3 (.slice a6 (List.length x3.Out) c6) x3.Out, BX b1 24 [.int .i64 p0.W, .int .i64 p0.Mem, .int .i64 p0.In, .slice a1 (List.length p0.Code) c1]] w10 S9 := hs
    refine q_alloc (z := .agg #[.int .i64 0, .slice none (List.length ([] : List Int)) 0, .slice none (List.length ([] : List Int)) 0, .slice none (List.length ([] : List Int)) 0, .int .i64 0, .slice none (List.length ([] : List Int)) 0, .int .i64 0, .int .i64 0]) hs hM0 [.int .i64 0, .slice none (List.length ([] : List Int)) 0, .slice none (List.length ([] : List Int)) 0, .slice none (List.length ([] : List Int)) 0, .int .i64 0, .slice none (List.length ([] : List Int)) 0, .int .i64 0, .int .i64 0] rfl rfl hF (by kernel_rfl) rfl fun b4 w11 S10 fr hs hp hF => ?_
    have r1 := r1.stp hM0 hp
    have hM0 := hM0.stp hp
    have hs : Sep [BX b4 28 [.int .i64 0, .slice none (List.length ([] : List Int)) 0, .slice none (List.length ([] : List Int)) 0, .slice none (List.length ([] : List Int)) 0, .int .i64 0, .slice none (List.length ([] : List Int)) 0, .int .i64 0, .int .i64 0], SL (α := Int) 3 (.slice a8 (List.length x5.Regs) c8) x5.Regs, SL (α := Int) 3 (.slice a9 (List.length x5.Mem) c9) x5.Mem, SL (α := Int) 3 (.slice a10 (List.length x5.Stack) c10) x5.Stack, SL (α := Int) 3 (.slice a11 (List.length x5.Out) c11) x5.Out, BX b3 32 [.int .i64 x4.W, .int .i64 x4.Mem, .int .i64 x4.In, .slice a7 (List.length x4.Code) c7], SL (α := D.Ins) 66 (.slice a7 (List.length x4.Code) c7) x4.Code, BX b2 28 [.int .i64 x3.Pc, .slice a3 (List.length x3.Regs) c3, .slice a4 (List.length x3.Mem) c4, .slice a5 (List.length x3.Stack) c5, .int .i64 x3.In, .slice a6 (List.length x3.Out) c6, .int .i64 x3.Code, .int .i64 x3.Steps], SL (α := Int) 3 (.slice a3 (List.length x3.Regs) c3) x3.Regs, SL (α := Int) 3 (.slice a4 (List.length x3.Mem) c4) x3.Mem, SL (α := Int) 3 (.slice a5 (List.length x3.Stack) c5) x3.Stack, SL (α := Int) 3 (.slice a6 (List.length x3.Out) c6) x3.Out, BX b1 24 [.int .i64 p0.W, .int .i64 p0.Mem, .int .i64 p0.In, .slice a1 (List.length p0.Code) c1]] w11 S10 := hs
    refine q_storeBoxS 0 hs hM0 rfl [.int .i64 x5.Pc, .slice a8 (List.length x5.Regs) c8, .slice a9 (List.length x5.Mem) c9, .slice a10 (List.length x5.Stack) c10, .int .i64 x5.In, .slice a11 (List.length x5.Out) c11, .int .i64 x5.Code, .int .i64 x5.Steps] rfl hF rfl rfl (by kernel_rfl) rfl rfl rfl fun w12 S11 hs hp hF => ?_
    have r1 := r1.stp hM0 hp
    have hM0 := hM0.stp hp
    have hs : Sep [BX b4 28 [.int .i64 x5.Pc, .slice a8 (List.length x5.Regs) c8, .slice a9 (List.length x5.Mem) c9, .slice a10 (List.length x5.Stack) c10, .int .i64 x5.In, .slice a11 (List.length x5.Out) c11, .int .i64 x5.Code, .int .i64 x5.Steps], SL (α := Int) 3 (.slice a8 (List.length x5.Regs) c8) x5.Regs, SL (α := Int) 3 (.slice a9 (List.length x5.Mem) c9) x5.Mem, SL (α := Int) 3 (.slice a10 (List.length x5.Stack) c10) x5.Stack, SL (α := Int) 3 (.slice a11 (List.length x5.Out) c11) x5.Out, BX b3 32 [.int .i64 x4.W, .int .i64 x4.Mem, .int .i64 x4.In, .slice a7 (List.length x4.Code) c7], SL (α := D.Ins) 66 (.slice a7 (List.length x4.Code) c7) x4.Code, BX b2 28 [.int .i64 x3.Pc, .slice a3 (List.length x3.Regs) c3, .slice a4 (List.length x3.Mem) c4, .slice a5 (List.length x3.Stack) c5, .int .i64 x3.In, .slice a6 (List.length x3.Out) c6, .int .i64 x3.Code, .int .i64 x3.Steps], SL (α := Int) 3 (.slice a3 (List.length x3.Regs) c3) x3.Regs, SL (α := Int) 3 (.slice a4 (List.length x3.Mem) c4) x3.Mem, SL (α := Int) 3 (.slice a5 (List.length x3.Stack) c5) x3.Stack, SL (α := Int) 3 (.slice a6 (List.length x3.Out) c6) x3.Out, BX b1 24 [.int .i64 p0.W, .int .i64 p0.Mem, .int .i64 p0.In, .slice a1 (List.length p0.Code) c1]] w12 S11 := hs
    refine from_end rfl (then_normal ?_)
    refine wp_seq ?_
    refine wp_seq (wp_text' ?_)
    refine s_loadBoxS ty28 rfl rfl hF rfl (hs.bx 0 rfl) rfl rfl fun fr hF => ?_
    refine s_loadBoxS ty28 rfl rfl hF rfl (hs.bx 7 rfl) rfl rfl fun fr hF => ?_
    obtain ⟨x6, hx6, h⟩ := bindE h
    refine s_call [.agg #[.int .i64 x5.Pc, .slice a8 (List.length x5.Regs) c8, .slice a9 (List.length x5.Mem) c9, .slice a10 (List.length x5.Stack) c10, .int .i64 x5.In, .slice a11 (List.length x5.Out) c11, .int .i64 x5.Code, .int .i64 x5.Steps], .agg #[.int .i64 x3.Pc, .slice a3 (List.length x3.Regs) c3, .slice a4 (List.length x3.Mem) c4, .slice a5 (List.length x3.Stack) c5, .int .i64 x3.In, .slice a6 (List.length x3.Out) c6, .int .i64 x3.Code, .int .i64 x3.Steps]] Try.call14 rfl rfl hF rfl (laws_eqState_ok n x5 x3 hx6 (RV.mk_State x5 (RV.any (hs.rv 1 rfl)) (RV.any (hs.rv 2 rfl)) (RV.any (hs.rv 3 rfl)) (RV.any (hs.rv 4 rfl))) (RV.mk_State x3 (RV.any (hs.rv 8 rfl)) (RV.any (hs.rv 9 rfl)) (RV.any (hs.rv 10 rfl)) (RV.any (hs.rv 11 rfl)))) fun v w13 fr hRes hF => ?_
    obtain ⟨rfl, hc⟩ := hRes
    have r1 := r1.ext hc
    have hs := hs.ext hc
    have hM0 := hM0.ext hc
    refine from_pure 1 [(1, .pointer (some ⟨b1, 0, none⟩)), (4, .pointer (some ⟨b2, 0, none⟩)), (5, .pointer (some ⟨b3, 0, none⟩)), (6, .pointer (some ⟨b4, 0, none⟩)), (26, .bool (!x6))] hF (by kernel_rfl) fun fr hF => ?_
    refine from_end rfl (then_normal ?_)
    refine (wp_if hF (b := (!x6)) rfl (fun hb => ?_) (fun hb => ?_))
    · replace h := iteT hb h
      have hs : Sep [] w13 S11 := Sep.pick [] hs (by decide) rfl
      refine wp_seq (wp_pure [(2, .bool false)] hF (by kernel_rfl) fun fr hF => then_normal ?_)
      obtain rfl := Option.some.inj h
      exact wp_ret (then_ret (ret1 rfl hF rfl ⟨_, rfl, rfl, hM0.chg⟩))
    · replace h := iteF hb h
      refine (wp_skip (then_normal ?_))
      refine wp_seq ?_
      obtain ⟨x7, hx7, h⟩ := bindE h
      obtain ⟨x8, hx8, h⟩ := bindE h
      refine wp_seq (region_bm 5 [0, 0, 2, 7, 15] [false, false, false, false, true]
          [.eq (.agg #[.int .i64 x4.W, .int .i64 x4.Mem, .int .i64 x4.In, .slice a7 (List.length x4.Code) c7]), .eq (.agg #[.int .i64 p0.W, .int .i64 p0.Mem, .int .i64 p0.In, .slice a1 (List.length p0.Code) c1]), .is fun v w => RV w (fun k => k < w.heap.size) v (x7 : D.Program), .eq (.bool x8), .eq (.bool (!x8))]
          [(1, .pointer (some ⟨b1, 0, none⟩)), (4, .pointer (some ⟨b2, 0, none⟩)), (5, .pointer (some ⟨b3, 0, none⟩)), (6, .pointer (some ⟨b4, 0, none⟩)), (31, .bool (!x8))] mix hF (by kernel_rfl) (by kernel_rfl) (by kernel_rfl) (by kernel_rfl) ⟨Pd.monoO_eq, Pd.monoO_eq, (Pd.monoO_is mono_rvb), Pd.monoO_eq, trivial⟩ (fun ow hG => ⟨np_to ow (np_loadBoxS hG hF ty32 rfl rfl (hs.bx 5 rfl) rfl rfl rfl rfl), np_to ow (np_loadBoxS hG hF ty24 rfl rfl (hs.bx 12 rfl) rfl rfl rfl rfl), np_to ow (np_callI [.inl (.agg #[.int .i64 p0.W, .int .i64 p0.Mem, .int .i64 p0.In, .slice a1 (List.length p0.Code) c1])] hG hF Try.call12 rfl rfl (by kernel_rfl) (fun w vs hC hg ha => by obtain ⟨_, rfl, rfl⟩ := ha; exact (laws_toProgram_ok n p0 hx7 ((RV.mk_Program p0 (r1)).ext hC)).mono fun e w' ⟨v, he, a0, c0, hv, _, hp, ho⟩ => ⟨_, he, hp.chg, by rw [hv]; exact (show RV w' (fun k => k < w'.heap.size) _ (x7 : D.Program) from RV.mk_Program x7 ((ho.rv 0 rfl).sub fun k hk _ => hk))⟩)), np_to ow (np_callI [.inl (.agg #[.int .i64 x4.W, .int .i64 x4.Mem, .int .i64 x4.In, .slice a7 (List.length x4.Code) c7]), .inr 2] hG hF Try.call15 rfl rfl (by kernel_rfl) (fun w vs hC hg ha => by obtain ⟨_, rfl, vq1, _, rfl, hq1, rfl⟩ := ha; exact (laws_eqProgram_ok n x4 x7 hx8 ((RV.mk_Program x4 (RV.any (hs.rv 6 rfl))).ext hC) (show RV w (fun k => k < w.heap.size) vq1 x7 from hq1)).mono fun e w' ⟨v, he, hv, hc⟩ => ⟨v, he, hc, hv⟩)), trivial⟩) (by kernel_rfl) fun ow fr w14 hF hE hc => ?_)
      have r1 := r1.ext hc
      have hs := hs.ext hc
      have hM0 := hM0.ext hc
      refine from_end rfl (then_normal ?_)
      refine (wp_if hF (b := (!x8)) rfl (fun hb => ?_) (fun hb => ?_))
      · replace h := iteT hb h
        have hs : Sep [] w14 S11 := Sep.pick [] hs (by decide) rfl
        refine wp_seq (wp_pure [(2, .bool false)] hF (by kernel_rfl) fun fr hF => then_normal ?_)
        obtain rfl := Option.some.inj h
        exact wp_ret (then_ret (ret1 rfl hF rfl ⟨_, rfl, rfl, hM0.chg⟩))
      · replace h := iteF hb h
        refine (wp_skip (then_normal ?_))
        refine wp_seq (wp_pure [(1, .pointer (some ⟨b1, 0, none⟩)), (4, .pointer (some ⟨b2, 0, none⟩)), (5, .pointer (some ⟨b3, 0, none⟩)), (6, .pointer (some ⟨b4, 0, none⟩)), (7, .int .i64 1)] hF (by kernel_rfl) fun fr hF => then_normal ?_)
        refine wp_seq (wp_text' ?_)
        refine s_loadBoxS ty32 rfl rfl hF rfl (hs.bx 5 rfl) rfl rfl fun fr hF => ?_
        have hs : Sep [BX b4 28 [.int .i64 x5.Pc, .slice a8 (List.length x5.Regs) c8, .slice a9 (List.length x5.Mem) c9, .slice a10 (List.length x5.Stack) c10, .int .i64 x5.In, .slice a11 (List.length x5.Out) c11, .int .i64 x5.Code, .int .i64 x5.Steps], SL (α := Int) 3 (.slice a8 (List.length x5.Regs) c8) x5.Regs, SL (α := Int) 3 (.slice a9 (List.length x5.Mem) c9) x5.Mem, SL (α := Int) 3 (.slice a10 (List.length x5.Stack) c10) x5.Stack, SL (α := Int) 3 (.slice a11 (List.length x5.Out) c11) x5.Out, SL (α := D.Ins) 66 (.slice a7 (List.length x4.Code) c7) x4.Code, BX b2 28 [.int .i64 x3.Pc, .slice a3 (List.length x3.Regs) c3, .slice a4 (List.length x3.Mem) c4, .slice a5 (List.length x3.Stack) c5, .int .i64 x3.In, .slice a6 (List.length x3.Out) c6, .int .i64 x3.Code, .int .i64 x3.Steps], SL (α := Int) 3 (.slice a3 (List.length x3.Regs) c3) x3.Regs, SL (α := Int) 3 (.slice a4 (List.length x3.Mem) c4) x3.Mem, SL (α := Int) 3 (.slice a5 (List.length x3.Stack) c5) x3.Stack, SL (α := Int) 3 (.slice a6 (List.length x3.Out) c6) x3.Out, BX b1 24 [.int .i64 p0.W, .int .i64 p0.Mem, .int .i64 p0.In, .slice a1 (List.length p0.Code) c1]] w14 S11 := Sep.pick [0, 1, 2, 3, 4, 6, 7, 8, 9, 10, 11, 12] hs (by decide) rfl
        refine from_pure 1 [(1, .pointer (some ⟨b1, 0, none⟩)), (4, .pointer (some ⟨b2, 0, none⟩)), (6, .pointer (some ⟨b4, 0, none⟩)), (32, .agg #[.int .i64 x4.W, .int .i64 x4.Mem, .int .i64 x4.In, .slice a7 (List.length x4.Code) c7]), (33, .int .i64 1)] hF (by kernel_rfl) fun fr hF => ?_
        obtain ⟨x9, hx9, h⟩ := bindE h
        have hs : Sep [SL (α := D.Ins) 66 (.slice a7 (List.length x4.Code) c7) x4.Code, BX b4 28 [.int .i64 x5.Pc, .slice a8 (List.length x5.Regs) c8, .slice a9 (List.length x5.Mem) c9, .slice a10 (List.length x5.Stack) c10, .int .i64 x5.In, .slice a11 (List.length x5.Out) c11, .int .i64 x5.Code, .int .i64 x5.Steps], SL (α := Int) 3 (.slice a8 (List.length x5.Regs) c8) x5.Regs, SL (α := Int) 3 (.slice a9 (List.length x5.Mem) c9) x5.Mem, SL (α := Int) 3 (.slice a10 (List.length x5.Stack) c10) x5.Stack, SL (α := Int) 3 (.slice a11 (List.length x5.Out) c11) x5.Out, BX b2 28 [.int .i64 x3.Pc, .slice a3 (List.length x3.Regs) c3, .slice a4 (List.length x3.Mem) c4, .slice a5 (List.length x3.Stack) c5, .int .i64 x3.In, .slice a6 (List.length x3.Out) c6, .int .i64 x3.Code, .int .i64 x3.Steps], SL (α := Int) 3 (.slice a3 (List.length x3.Regs) c3) x3.Regs, SL (α := Int) 3 (.slice a4 (List.length x3.Mem) c4) x3.Mem, SL (α := Int) 3 (.slice a5 (List.length x3.Stack) c5) x3.Stack, SL (α := Int) 3 (.slice a6 (List.length x3.Out) c6) x3.Out, BX b1 24 [.int .i64 p0.W, .int .i64 p0.Mem, .int .i64 p0.In, .slice a1 (List.length p0.Code) c1]] w14 S11 := Sep.pick [5, 0, 1, 2, 3, 4, 6, 7, 8, 9, 10, 11] hs (by decide) rfl
        obtain ⟨A1, R1, hsA, hsR, hdA, hbA, hup⟩ := Sep.call (L1 := [SL (α := D.Ins) 66 (.slice a7 (List.length x4.Code) c7) x4.Code]) (L2 := [BX b4 28 [.int .i64 x5.Pc, .slice a8 (List.length x5.Regs) c8, .slice a9 (List.length x5.Mem) c9, .slice a10 (List.length x5.Stack) c10, .int .i64 x5.In, .slice a11 (List.length x5.Out) c11, .int .i64 x5.Code, .int .i64 x5.Steps], SL (α := Int) 3 (.slice a8 (List.length x5.Regs) c8) x5.Regs, SL (α := Int) 3 (.slice a9 (List.length x5.Mem) c9) x5.Mem, SL (α := Int) 3 (.slice a10 (List.length x5.Stack) c10) x5.Stack, SL (α := Int) 3 (.slice a11 (List.length x5.Out) c11) x5.Out, BX b2 28 [.int .i64 x3.Pc, .slice a3 (List.length x3.Regs) c3, .slice a4 (List.length x3.Mem) c4, .slice a5 (List.length x3.Stack) c5, .int .i64 x3.In, .slice a6 (List.length x3.Out) c6, .int .i64 x3.Code, .int .i64 x3.Steps], SL (α := Int) 3 (.slice a3 (List.length x3.Regs) c3) x3.Regs, SL (α := Int) 3 (.slice a4 (List.length x3.Mem) c4) x3.Mem, SL (α := Int) 3 (.slice a5 (List.length x3.Stack) c5) x3.Stack, SL (α := Int) 3 (.slice a6 (List.length x3.Out) c6) x3.Out, BX b1 24 [.int .i64 p0.W, .int .i64 p0.Mem, .int .i64 p0.In, .slice a1 (List.length p0.Code) c1]]) hs hM0
        refine s_call [.agg #[.int .i64 x4.W, .int .i64 x4.Mem, .int .i64 x4.In, .slice a7 (List.length x4.Code) c7], .int .i64 1] Try.call16 rfl rfl hF rfl (laws_markProgram_ok n x4 1 hx9 hsA hbA hdA) fun v w15 fr hRes hF => ?_
        obtain ⟨rfl, _, hp, hs⟩ := hRes
        obtain ⟨S12, hp, hs⟩ := hup hp hs
        have r1 := r1.stp hM0 hp
        have hM0 := hM0.stp hp
        have hs : Sep [SL (α := D.Ins) 66 (.slice a7 (List.length x4.Code) c7) x9.2.Code, BX b4 28 [.int .i64 x5.Pc, .slice a8 (List.length x5.Regs) c8, .slice a9 (List.length x5.Mem) c9, .slice a10 (List.length x5.Stack) c10, .int .i64 x5.In, .slice a11 (List.length x5.Out) c11, .int .i64 x5.Code, .int .i64 x5.Steps], SL (α := Int) 3 (.slice a8 (List.length x5.Regs) c8) x5.Regs, SL (α := Int) 3 (.slice a9 (List.length x5.Mem) c9) x5.Mem, SL (α := Int) 3 (.slice a10 (List.length x5.Stack) c10) x5.Stack, SL (α := Int) 3 (.slice a11 (List.length x5.Out) c11) x5.Out, BX b2 28 [.int .i64 x3.Pc, .slice a3 (List.length x3.Regs) c3, .slice a4 (List.length x3.Mem) c4, .slice a5 (List.length x3.Stack) c5, .int .i64 x3.In, .slice a6 (List.length x3.Out) c6, .int .i64 x3.Code, .int .i64 x3.Steps], SL (α := Int) 3 (.slice a3 (List.length x3.Regs) c3) x3.Regs, SL (α := Int) 3 (.slice a4 (List.length x3.Mem) c4) x3.Mem, SL (α := Int) 3 (.slice a5 (List.length x3.Stack) c5) x3.Stack, SL (α := Int) 3 (.slice a6 (List.length x3.Out) c6) x3.Out, BX b1 24 [.int .i64 p0.W, .int .i64 p0.Mem, .int .i64 p0.In, .slice a1 (List.length p0.Code) c1]] w15 S12 := hs
        have hs : Sep [BX b4 28 [.int .i64 x5.Pc, .slice a8 (List.length x5.Regs) c8, .slice a9 (List.length x5.Mem) c9, .slice a10 (List.length x5.Stack) c10, .int .i64 x5.In, .slice a11 (List.length x5.Out) c11, .int .i64 x5.Code, .int .i64 x5.Steps], SL (α := Int) 3 (.slice a8 (List.length x5.Regs) c8) x5.Regs, SL (α := Int) 3 (.slice a9 (List.length x5.Mem) c9) x5.Mem, SL (α := Int) 3 (.slice a10 (List.length x5.Stack) c10) x5.Stack, SL (α := Int) 3 (.slice a11 (List.length x5.Out) c11) x5.Out, BX b2 28 [.int .i64 x3.Pc, .slice a3 (List.length x3.Regs) c3, .slice a4 (List.length x3.Mem) c4, .slice a5 (List.length x3.Stack) c5, .int .i64 x3.In, .slice a6 (List.length x3.Out) c6, .int .i64 x3.Code, .int .i64 x3.Steps], SL (α := Int) 3 (.slice a3 (List.length x3.Regs) c3) x3.Regs, SL (α := Int) 3 (.slice a4 (List.length x3.Mem) c4) x3.Mem, SL (α := Int) 3 (.slice a5 (List.length x3.Stack) c5) x3.Stack, SL (α := Int) 3 (.slice a6 (List.length x3.Out) c6) x3.Out, BX b1 24 [.int .i64 p0.W, .int .i64 p0.Mem, .int .i64 p0.In, .slice a1 (List.length p0.Code) c1]] w15 S12 := Sep.pick [1, 2, 3, 4, 5, 6, 7, 8, 9, 10, 11] hs (by decide) rfl
        refine from_pure 1 [(1, .pointer (some ⟨b1, 0, none⟩)), (4, .pointer (some ⟨b2, 0, none⟩)), (6, .pointer (some ⟨b4, 0, none⟩)), (7, .int .i64 x9.1)] hF (by kernel_rfl) fun fr hF => ?_
        refine from_end rfl (then_normal ?_)
        refine wp_seq ?_
        obtain ⟨x10, hx10, h⟩ := bindE h
        refine wp_seq (region_b [] [true, true, true, false, false, false, true, true]
            [.eq (.int .i64 x9.1), .eq (.bool (decide (x9.1 < 0))), .eq (.bool (decide (x9.1 < 0))), .eq (.agg #[.int .i64 x5.Pc, .slice a8 (List.length x5.Regs) c8, .slice a9 (List.length x5.Mem) c9, .slice a10 (List.length x5.Stack) c10, .int .i64 x5.In, .slice a11 (List.length x5.Out) c11, .int .i64 x5.Code, .int .i64 x5.Steps]), .eq (.agg #[.int .i64 x3.Pc, .slice a3 (List.length x3.Regs) c3, .slice a4 (List.length x3.Mem) c4, .slice a5 (List.length x3.Stack) c5, .int .i64 x3.In, .slice a6 (List.length x3.Out) c6, .int .i64 x3.Code, .int .i64 x3.Steps]), .eq (.bool x10), .eq (.bool (!x10)), .eq (.bool ((decide (x9.1 < 0)) || (!x10)))]
            [(1, .pointer (some ⟨b1, 0, none⟩)), (4, .pointer (some ⟨b2, 0, none⟩)), (6, .pointer (some ⟨b4, 0, none⟩)), (42, .bool ((decide (x9.1 < 0)) || (!x10)))] mix hF (by kernel_rfl) (by kernel_rfl) (by kernel_rfl) ⟨Pd.mono_eq, Pd.mono_eq, Pd.mono_eq, trivial⟩ (fun hG => ⟨np_loadBoxS hG hF ty28 rfl rfl (hs.bx 0 rfl) rfl rfl rfl rfl, np_loadBoxS hG hF ty28 rfl rfl (hs.bx 5 rfl) rfl rfl rfl rfl, np_call [.agg #[.int .i64 x5.Pc, .slice a8 (List.length x5.Regs) c8, .slice a9 (List.length x5.Mem) c9, .slice a10 (List.length x5.Stack) c10, .int .i64 x5.In, .slice a11 (List.length x5.Out) c11, .int .i64 x5.Code, .int .i64 x5.Steps], .agg #[.int .i64 x3.Pc, .slice a3 (List.length x3.Regs) c3, .slice a4 (List.length x3.Mem) c4, .slice a5 (List.length x3.Stack) c5, .int .i64 x3.In, .slice a6 (List.length x3.Out) c6, .int .i64 x3.Code, .int .i64 x3.Steps]] hG hF Try.call14 rfl rfl (fun w hC hg => (laws_eqState_ok n x5 x3 (iteF hg.2 hx10) ((RV.mk_State x5 (RV.any (hs.rv 1 rfl)) (RV.any (hs.rv 2 rfl)) (RV.any (hs.rv 3 rfl)) (RV.any (hs.rv 4 rfl))).ext hC) ((RV.mk_State x3 (RV.any (hs.rv 6 rfl)) (RV.any (hs.rv 7 rfl)) (RV.any (hs.rv 8 rfl)) (RV.any (hs.rv 9 rfl))).ext hC)).mono fun e w' ⟨v, he, hv, hc⟩ => ⟨v, he, hc, hv⟩), trivial⟩) (by kernel_rfl) fun fr w16 hF hE hc => then_normal ?_)
        have r1 := r1.ext hc
        have hs := hs.ext hc
        have hM0 := hM0.ext hc
        refine (wp_if hF (b := ((decide (x9.1 < 0)) || (!x10))) rfl (fun hb => ?_) (fun hb => ?_))
        · replace h := iteT hb h
          have hs : Sep [] w16 S12 := Sep.pick [] hs (by decide) rfl
          refine wp_seq (wp_pure [(2, .bool false)] hF (by kernel_rfl) fun fr hF => then_normal ?_)
          obtain rfl := Option.some.inj h
          exact wp_ret (then_ret (ret1 rfl hF rfl ⟨_, rfl, rfl, hM0.chg⟩))
        · replace h := iteF hb h
          refine (wp_skip (then_normal ?_))
          refine wp_seq (wp_pure [(1, .pointer (some ⟨b1, 0, none⟩)), (4, .pointer (some ⟨b2, 0, none⟩)), (6, .pointer (some ⟨b4, 0, none⟩)), (8, .int .i64 1)] hF (by kernel_rfl) fun fr hF => then_normal ?_)
          refine wp_seq (wp_text' ?_)
          refine s_loadBoxS ty28 rfl rfl hF rfl (hs.bx 0 rfl) rfl rfl fun fr hF => ?_
          refine from_pure 1 [(1, .pointer (some ⟨b1, 0, none⟩)), (4, .pointer (some ⟨b2, 0, none⟩)), (6, .pointer (some ⟨b4, 0, none⟩)), (43, .agg #[.int .i64 x5.Pc, .slice a8 (List.length x5.Regs) c8, .slice a9 (List.length x5.Mem) c9, .slice a10 (List.length x5.Stack) c10, .int .i64 x5.In, .slice a11 (List.length x5.Out) c11, .int .i64 x5.Code, .int .i64 x5.Steps]), (44, .int .i64 1)] hF (by kernel_rfl) fun fr hF => ?_
          obtain ⟨x11, hx11, h⟩ := bindE h
          have hs : Sep [SL (α := Int) 3 (.slice a8 (List.length x5.Regs) c8) x5.Regs, SL (α := Int) 3 (.slice a9 (List.length x5.Mem) c9) x5.Mem, SL (α := Int) 3 (.slice a10 (List.length x5.Stack) c10) x5.Stack, SL (α := Int) 3 (.slice a11 (List.length x5.Out) c11) x5.Out, BX b4 28 [.int .i64 x5.Pc, .slice a8 (List.length x5.Regs) c8, .slice a9 (List.length x5.Mem) c9, .slice a10 (List.length x5.Stack) c10, .int .i64 x5.In, .slice a11 (List.length x5.Out) c11, .int .i64 x5.Code, .int .i64 x5.Steps], BX b2 28 [.int .i64 x3.Pc, .slice a3 (List.length x3.Regs) c3, .slice a4 (List.length x3.Mem) c4, .slice a5 (List.length x3.Stack) c5, .int .i64 x3.In, .slice a6 (List.length x3.Out) c6, .int .i64 x3.Code, .int .i64 x3.Steps], SL (α := Int) 3 (.slice a3 (List.length x3.Regs) c3) x3.Regs, SL (α := Int) 3 (.slice a4 (List.length x3.Mem) c4) x3.Mem, SL (α := Int) 3 (.slice a5 (List.length x3.Stack) c5) x3.Stack, SL (α := Int) 3 (.slice a6 (List.length x3.Out) c6) x3.Out, BX b1 24 [.int .i64 p0.W, .int .i64 p0.Mem, .int .i64 p0.In, .slice a1 (List.length p0.Code) c1]] w16 S12 := Sep.pick [1, 2, 3, 4, 0, 5, 6, 7, 8, 9, 10] hs (by decide) rfl
          obtain ⟨A2, R2, hsA, hsR, hdA, hbA, hup⟩ := Sep.call (L1 := [SL (α := Int) 3 (.slice a8 (List.length x5.Regs) c8) x5.Regs, SL (α := Int) 3 (.slice a9 (List.length x5.Mem) c9) x5.Mem, SL (α := Int) 3 (.slice a10 (List.length x5.Stack) c10) x5.Stack, SL (α := Int) 3 (.slice a11 (List.length x5.Out) c11) x5.Out]) (L2 := [BX b4 28 [.int .i64 x5.Pc, .slice a8 (List.length x5.Regs) c8, .slice a9 (List.length x5.Mem) c9, .slice a10 (List.length x5.Stack) c10, .int .i64 x5.In, .slice a11 (List.length x5.Out) c11, .int .i64 x5.Code, .int .i64 x5.Steps], BX b2 28 [.int .i64 x3.Pc, .slice a3 (List.length x3.Regs) c3, .slice a4 (List.length x3.Mem) c4, .slice a5 (List.length x3.Stack) c5, .int .i64 x3.In, .slice a6 (List.length x3.Out) c6, .int .i64 x3.Code, .int .i64 x3.Steps], SL (α := Int) 3 (.slice a3 (List.length x3.Regs) c3) x3.Regs, SL (α := Int) 3 (.slice a4 (List.length x3.Mem) c4) x3.Mem, SL (α := Int) 3 (.slice a5 (List.length x3.Stack) c5) x3.Stack, SL (α := Int) 3 (.slice a6 (List.length x3.Out) c6) x3.Out, BX b1 24 [.int .i64 p0.W, .int .i64 p0.Mem, .int .i64 p0.In, .slice a1 (List.length p0.Code) c1]]) hs hM0
          refine s_call [.agg #[.int .i64 x5.Pc, .slice a8 (List.length x5.Regs) c8, .slice a9 (List.length x5.Mem) c9, .slice a10 (List.length x5.Stack) c10, .int .i64 x5.In, .slice a11 (List.length x5.Out) c11, .int .i64 x5.Code, .int .i64 x5.Steps], .int .i64 1] Try.call17 rfl rfl hF rfl (laws_markState_ok n x5 1 hx11 hsA hbA hdA) fun v w17 fr hRes hF => ?_
          obtain ⟨rfl, _, hp, hs⟩ := hRes
          obtain ⟨S13, hp, hs⟩ := hup hp hs
          have r1 := r1.stp hM0 hp
          have hM0 := hM0.stp hp
          have hs : Sep [SL (α := Int) 3 (.slice a8 (List.length x5.Regs) c8) x11.2.Regs, SL (α := Int) 3 (.slice a9 (List.length x5.Mem) c9) x11.2.Mem, SL (α := Int) 3 (.slice a10 (List.length x5.Stack) c10) x11.2.Stack, SL (α := Int) 3 (.slice a11 (List.length x5.Out) c11) x11.2.Out, BX b4 28 [.int .i64 x5.Pc, .slice a8 (List.length x5.Regs) c8, .slice a9 (List.length x5.Mem) c9, .slice a10 (List.length x5.Stack) c10, .int .i64 x5.In, .slice a11 (List.length x5.Out) c11, .int .i64 x5.Code, .int .i64 x5.Steps], BX b2 28 [.int .i64 x3.Pc, .slice a3 (List.length x3.Regs) c3, .slice a4 (List.length x3.Mem) c4, .slice a5 (List.length x3.Stack) c5, .int .i64 x3.In, .slice a6 (List.length x3.Out) c6, .int .i64 x3.Code, .int .i64 x3.Steps], SL (α := Int) 3 (.slice a3 (List.length x3.Regs) c3) x3.Regs, SL (α := Int) 3 (.slice a4 (List.length x3.Mem) c4) x3.Mem, SL (α := Int) 3 (.slice a5 (List.length x3.Stack) c5) x3.Stack, SL (α := Int) 3 (.slice a6 (List.length x3.Out) c6) x3.Out, BX b1 24 [.int .i64 p0.W, .int .i64 p0.Mem, .int .i64 p0.In, .slice a1 (List.length p0.Code) c1]] w17 S13 := hs
          refine from_pure 1 [(1, .pointer (some ⟨b1, 0, none⟩)), (4, .pointer (some ⟨b2, 0, none⟩)), (6, .pointer (some ⟨b4, 0, none⟩)), (8, .int .i64 x11.1)] hF (by kernel_rfl) fun fr hF => ?_
          refine from_end rfl (then_normal ?_)
          refine wp_seq (wp_pure [(1, .pointer (some ⟨b1, 0, none⟩)), (4, .pointer (some ⟨b2, 0, none⟩)), (6, .pointer (some ⟨b4, 0, none⟩)), (8, .int .i64 x11.1), (9, .int .i64 1)] hF (by kernel_rfl) fun fr hF => then_normal ?_)
          refine wp_seq (wp_text' ?_)
          refine s_loadBoxS ty28 rfl rfl hF rfl (hs.bx 4 rfl) rfl rfl fun fr hF => ?_
          refine from_pure 1 [(1, .pointer (some ⟨b1, 0, none⟩)), (4, .pointer (some ⟨b2, 0, none⟩)), (6, .pointer (some ⟨b4, 0, none⟩)), (8, .int .i64 x11.1), (46, .agg #[.int .i64 x5.Pc, .slice a8 (List.length x5.Regs) c8, .slice a9 (List.length x5.Mem) c9, .slice a10 (List.length x5.Stack) c10, .int .i64 x5.In, .slice a11 (List.length x5.Out) c11, .int .i64 x5.Code, .int .i64 x5.Steps]), (47, .int .i64 1)] hF (by kernel_rfl) fun fr hF => ?_
          obtain ⟨x12, hx12, h⟩ := bindE h
          refine s_call [.agg #[.int .i64 x5.Pc, .slice a8 (List.length x5.Regs) c8, .slice a9 (List.length x5.Mem) c9, .slice a10 (List.length x5.Stack) c10, .int .i64 x5.In, .slice a11 (List.length x5.Out) c11, .int .i64 x5.Code, .int .i64 x5.Steps], .int .i64 1] Try.call18 rfl rfl hF rfl (laws_heldState_ok n (D.State.mk x5.Pc x11.2.Regs x11.2.Mem x11.2.Stack x5.In x11.2.Out x5.Code x5.Steps) 1 hx12 (RV.mk_State (D.State.mk x5.Pc x11.2.Regs x11.2.Mem x11.2.Stack x5.In x11.2.Out x5.Code x5.Steps) (RV.any (hs.rv 0 rfl)) (RV.any (hs.rv 1 rfl)) (RV.any (hs.rv 2 rfl)) (RV.any (hs.rv 3 rfl)))) fun v w18 fr hRes hF => ?_
          obtain ⟨rfl, hc⟩ := hRes
          have r1 := r1.ext hc
          have hs := hs.ext hc
          have hM0 := hM0.ext hc
          refine from_pure 1 [(1, .pointer (some ⟨b1, 0, none⟩)), (4, .pointer (some ⟨b2, 0, none⟩)), (6, .pointer (some ⟨b4, 0, none⟩)), (8, .int .i64 x11.1), (9, .int .i64 x12)] hF (by kernel_rfl) fun fr hF => ?_
          refine from_end rfl (then_normal ?_)
          refine wp_seq ?_
          refine wp_seq (wp_pure [(1, .pointer (some ⟨b1, 0, none⟩)), (4, .pointer (some ⟨b2, 0, none⟩)), (6, .pointer (some ⟨b4, 0, none⟩)), (8, .int .i64 x11.1), (9, .int .i64 x12), (50, .bool (decide (x12 < 0)))] hF (by kernel_rfl) fun fr hF => then_normal ?_)
          refine (wp_if hF (b := (decide (x12 < 0))) rfl (fun hb => ?_) (fun hb => ?_))
          · replace h := iteT hb h
            have hs : Sep [] w18 S13 := Sep.pick [] hs (by decide) rfl
            refine wp_seq (wp_pure [(2, .bool false)] hF (by kernel_rfl) fun fr hF => then_normal ?_)
            obtain rfl := Option.some.inj h
            exact wp_ret (then_ret (ret1 rfl hF rfl ⟨_, rfl, rfl, hM0.chg⟩))
          · replace h := iteF hb h
            refine (wp_skip (then_normal ?_))
            refine wp_seq ?_
            refine wp_seq (wp_pure [(1, .pointer (some ⟨b1, 0, none⟩)), (4, .pointer (some ⟨b2, 0, none⟩)), (6, .pointer (some ⟨b4, 0, none⟩)), (8, .int .i64 x11.1), (53, .bool (x12 != x11.1))] hF (by kernel_rfl) fun fr hF => then_normal ?_)
            refine (wp_if hF (b := (x12 != x11.1)) rfl (fun hb => ?_) (fun hb => ?_))
            · replace h := iteT hb h
              have hs : Sep [] w18 S13 := Sep.pick [] hs (by decide) rfl
              refine wp_seq (wp_pure [(2, .bool false)] hF (by kernel_rfl) fun fr hF => then_normal ?_)
              obtain rfl := Option.some.inj h
              exact wp_ret (then_ret (ret1 rfl hF rfl ⟨_, rfl, rfl, hM0.chg⟩))
            · replace h := iteF hb h
              refine (wp_skip (then_normal ?_))
              refine wp_seq (wp_text' ?_)
              refine s_loadBoxS ty24 rfl rfl hF rfl (hs.bx 10 rfl) rfl rfl fun fr hF => ?_
              have hs : Sep [SL (α := Int) 3 (.slice a8 (List.length x5.Regs) c8) x11.2.Regs, SL (α := Int) 3 (.slice a9 (List.length x5.Mem) c9) x11.2.Mem, SL (α := Int) 3 (.slice a10 (List.length x5.Stack) c10) x11.2.Stack, SL (α := Int) 3 (.slice a11 (List.length x5.Out) c11) x11.2.Out, BX b4 28 [.int .i64 x5.Pc, .slice a8 (List.length x5.Regs) c8, .slice a9 (List.length x5.Mem) c9, .slice a10 (List.length x5.Stack) c10, .int .i64 x5.In, .slice a11 (List.length x5.Out) c11, .int .i64 x5.Code, .int .i64 x5.Steps], BX b2 28 [.int .i64 x3.Pc, .slice a3 (List.length x3.Regs) c3, .slice a4 (List.length x3.Mem) c4, .slice a5 (List.length x3.Stack) c5, .int .i64 x3.In, .slice a6 (List.length x3.Out) c6, .int .i64 x3.Code, .int .i64 x3.Steps], SL (α := Int) 3 (.slice a3 (List.length x3.Regs) c3) x3.Regs, SL (α := Int) 3 (.slice a4 (List.length x3.Mem) c4) x3.Mem, SL (α := Int) 3 (.slice a5 (List.length x3.Stack) c5) x3.Stack, SL (α := Int) 3 (.slice a6 (List.length x3.Out) c6) x3.Out] w18 S13 := Sep.pick [0, 1, 2, 3, 4, 5, 6, 7, 8, 9] hs (by decide) rfl
              obtain ⟨x13, hx13, h⟩ := bindE h
              refine s_call [.agg #[.int .i64 p0.W, .int .i64 p0.Mem, .int .i64 p0.In, .slice a1 (List.length p0.Code) c1]] Try.call12 rfl rfl hF rfl (laws_toProgram_ok n p0 hx13 (RV.mk_Program p0 (r1))) fun v w19 fr hRes hF => ?_
              obtain ⟨a12, c12, rfl, _, hp, hs2⟩ := hRes
              obtain ⟨S14, hp, hs⟩ := hs.got hM0 hp hs2
              have r1 := r1.stp hM0 hp
              have hM0 := hM0.stp hp
              have hs : Sep [SL (α := D.Ins) 66 (.slice a12 (List.length x13.Code) c12) x13.Code, SL (α := Int) 3 (.slice a8 (List.length x5.Regs) c8) x11.2.Regs, SL (α := Int) 3 (.slice a9 (List.length x5.Mem) c9) x11.2.Mem, SL (α := Int) 3 (.slice a10 (List.length x5.Stack) c10) x11.2.Stack, SL (α := Int) 3 (.slice a11 (List.length x5.Out) c11) x11.2.Out, BX b4 28 [.int .i64 x5.Pc, .slice a8 (List.length x5.Regs) c8, .slice a9 (List.length x5.Mem) c9, .slice a10 (List.length x5.Stack) c10, .int .i64 x5.In, .slice a11 (List.length x5.Out) c11, .int .i64 x5.Code, .int .i64 x5.Steps], BX b2 28 [.int .i64 x3.Pc, .slice a3 (List.length x3.Regs) c3, .slice a4 (List.length x3.Mem) c4, .slice a5 (List.length x3.Stack) c5, .int .i64 x3.In, .slice a6 (List.length x3.Out) c6, .int .i64 x3.Code, .int .i64 x3.Steps], SL (α := Int) 3 (.slice a3 (List.length x3.Regs) c3) x3.Regs, SL (α := Int) 3 (.slice a4 (List.length x3.Mem) c4) x3.Mem, SL (α := Int) 3 (.slice a5 (List.length x3.Stack) c5) x3.Stack, SL (α := Int) 3 (.slice a6 (List.length x3.Out) c6) x3.Out] w19 S14 := hs
              obtain ⟨x14, hx14, h⟩ := bindE h
              refine s_call [.agg #[.int .i64 x13.W, .int .i64 x13.Mem, .int .i64 x13.In, .slice a12 (List.length x13.Code) c12]] Try.call13 rfl rfl hF rfl (impl_NewState_ok n x13 hx14 (RV.mk_Program x13 (RV.any (hs.rv 0 rfl)))) fun v w20 fr hRes hF => ?_
              obtain ⟨a13, c13, a14, c14, a15, c15, a16, c16, rfl, _, hp, hs2⟩ := hRes
              obtain ⟨S15, hp, hs⟩ := hs.got hM0 hp hs2
              have hM0 := hM0.stp hp
              have hs : Sep [SL (α := Int) 3 (.slice a13 (List.length x14.Regs) c13) x14.Regs, SL (α := Int) 3 (.slice a14 (List.length x14.Mem) c14) x14.Mem, SL (α := Int) 3 (.slice a15 (List.length x14.Stack) c15) x14.Stack, SL (α := Int) 3 (.slice a16 (List.length x14.Out) c16) x14.Out, SL (α := D.Ins) 66 (.slice a12 (List.length x13.Code) c12) x13.Code, SL (α := Int) 3 (.slice a8 (List.length x5.Regs) c8) x11.2.Regs, SL (α := Int) 3 (.slice a9 (List.length x5.Mem) c9) x11.2.Mem, SL (α := Int) 3 (.slice a10 (List.length x5.Stack) c10) x11.2.Stack, SL (α := Int) 3 (.slice a11 (List.length x5.Out) c11) x11.2.Out, BX b4 28 [.int .i64 x5.Pc, .slice a8 (List.length x5.Regs) c8, .slice a9 (List.length x5.Mem) c9, .slice a10 (List.length x5.Stack) c10, .int .i64 x5.In, .slice a11 (List.length x5.Out) c11, .int .i64 x5.Code, .int .i64 x5.Steps], BX b2 28 [.int .i64 x3.Pc, .slice a3 (List.length x3.Regs) c3, .slice a4 (List.length x3.Mem) c4, .slice a5 (List.length x3.Stack) c5, .int .i64 x3.In, .slice a6 (List.length x3.Out) c6, .int .i64 x3.Code, .int .i64 x3.Steps], SL (α := Int) 3 (.slice a3 (List.length x3.Regs) c3) x3.Regs, SL (α := Int) 3 (.slice a4 (List.length x3.Mem) c4) x3.Mem, SL (α := Int) 3 (.slice a5 (List.length x3.Stack) c5) x3.Stack, SL (α := Int) 3 (.slice a6 (List.length x3.Out) c6) x3.Out] w20 S15 := hs
              have hs : Sep [SL (α := Int) 3 (.slice a13 (List.length x14.Regs) c13) x14.Regs, SL (α := Int) 3 (.slice a14 (List.length x14.Mem) c14) x14.Mem, SL (α := Int) 3 (.slice a15 (List.length x14.Stack) c15) x14.Stack, SL (α := Int) 3 (.slice a16 (List.length x14.Out) c16) x14.Out, SL (α := Int) 3 (.slice a8 (List.length x5.Regs) c8) x11.2.Regs, SL (α := Int) 3 (.slice a9 (List.length x5.Mem) c9) x11.2.Mem, SL (α := Int) 3 (.slice a10 (List.length x5.Stack) c10) x11.2.Stack, SL (α := Int) 3 (.slice a11 (List.length x5.Out) c11) x11.2.Out, BX b4 28 [.int .i64 x5.Pc, .slice a8 (List.length x5.Regs) c8, .slice a9 (List.length x5.Mem) c9, .slice a10 (List.length x5.Stack) c10, .int .i64 x5.In, .slice a11 (List.length x5.Out) c11, .int .i64 x5.Code, .int .i64 x5.Steps], BX b2 28 [.int .i64 x3.Pc, .slice a3 (List.length x3.Regs) c3, .slice a4 (List.length x3.Mem) c4, .slice a5 (List.length x3.Stack) c5, .int .i64 x3.In, .slice a6 (List.length x3.Out) c6, .int .i64 x3.Code, .int .i64 x3.Steps], SL (α := Int) 3 (.slice a3 (List.length x3.Regs) c3) x3.Regs, SL (α := Int) 3 (.slice a4 (List.length x3.Mem) c4) x3.Mem, SL (α := Int) 3 (.slice a5 (List.length x3.Stack) c5) x3.Stack, SL (α := Int) 3 (.slice a6 (List.length x3.Out) c6) x3.Out] w20 S15 := Sep.pick [0, 1, 2, 3, 5, 6, 7, 8, 9, 10, 11, 12, 13, 14] hs (by decide) rfl
              refine q_alloc (z := .agg #[.int .i64 0, .slice none (List.length ([] : List Int)) 0, .slice none (List.length ([] : List Int)) 0, .slice none (List.length ([] : List Int)) 0, .int .i64 0, .slice none (List.length ([] : List Int)) 0, .int .i64 0, .int .i64 0]) hs hM0 [.int .i64 0, .slice none (List.length ([] : List Int)) 0, .slice none (List.length ([] : List Int)) 0, .slice none (List.length ([] : List Int)) 0, .int .i64 0, .slice none (List.length ([] : List Int)) 0, .int .i64 0, .int .i64 0] rfl rfl hF (by kernel_rfl) rfl fun b5 w21 S16 fr hs hp hF => ?_
              have hM0 := hM0.stp hp
              have hs : Sep [BX b5 28 [.int .i64 0, .slice none (List.length ([] : List Int)) 0, .slice none (List.length ([] : List Int)) 0, .slice none (List.length ([] : List Int)) 0, .int .i64 0, .slice none (List.length ([] : List Int)) 0, .int .i64 0, .int .i64 0], SL (α := Int) 3 (.slice a13 (List.length x14.Regs) c13) x14.Regs, SL (α := Int) 3 (.slice a14 (List.length x14.Mem) c14) x14.Mem, SL (α := Int) 3 (.slice a15 (List.length x14.Stack) c15) x14.Stack, SL (α := Int) 3 (.slice a16 (List.length x14.Out) c16) x14.Out, SL (α := Int) 3 (.slice a8 (List.length x5.Regs) c8) x11.2.Regs, SL (α := Int) 3 (.slice a9 (List.length x5.Mem) c9) x11.2.Mem, SL (α := Int) 3 (.slice a10 (List.length x5.Stack) c10) x11.2.Stack, SL (α := Int) 3 (.slice a11 (List.length x5.Out) c11) x11.2.Out, BX b4 28 [.int .i64 x5.Pc, .slice a8 (List.length x5.Regs) c8, .slice a9 (List.length x5.Mem) c9, .slice a10 (List.length x5.Stack) c10, .int .i64 x5.In, .slice a11 (List.length x5.Out) c11, .int .i64 x5.Code, .int .i64 x5.Steps], BX b2 28 [.int .i64 x3.Pc, .slice a3 (List.length x3.Regs) c3, .slice a4 (List.length x3.Mem) c4, .slice a5 (List.length x3.Stack) c5, .int .i64 x3.In, .slice a6 (List.length x3.Out) c6, .int .i64 x3.Code, .int .i64 x3.Steps], SL (α := Int) 3 (.slice a3 (List.length x3.Regs) c3) x3.Regs, SL (α := Int) 3 (.slice a4 (List.length x3.Mem) c4) x3.Mem, SL (α := Int) 3 (.slice a5 (List.length x3.Stack) c5) x3.Stack, SL (α := Int) 3 (.slice a6 (List.length x3.Out) c6) x3.Out] w21 S16 := hs
              refine q_storeBoxS 0 hs hM0 rfl [.int .i64 x14.Pc, .slice a13 (List.length x14.Regs) c13, .slice a14 (List.length x14.Mem) c14, .slice a15 (List.length x14.Stack) c15, .int .i64 x14.In, .slice a16 (List.length x14.Out) c16, .int .i64 x14.Code, .int .i64 x14.Steps] rfl hF rfl rfl (by kernel_rfl) rfl rfl rfl fun w22 S17 hs hp hF => ?_
              have hM0 := hM0.stp hp
              have hs : Sep [BX b5 28 [.int .i64 x14.Pc, .slice a13 (List.length x14.Regs) c13, .slice a14 (List.length x14.Mem) c14, .slice a15 (List.length x14.Stack) c15, .int .i64 x14.In, .slice a16 (List.length x14.Out) c16, .int .i64 x14.Code, .int .i64 x14.Steps], SL (α := Int) 3 (.slice a13 (List.length x14.Regs) c13) x14.Regs, SL (α := Int) 3 (.slice a14 (List.length x14.Mem) c14) x14.Mem, SL (α := Int) 3 (.slice a15 (List.length x14.Stack) c15) x14.Stack, SL (α := Int) 3 (.slice a16 (List.length x14.Out) c16) x14.Out, SL (α := Int) 3 (.slice a8 (List.length x5.Regs) c8) x11.2.Regs, SL (α := Int) 3 (.slice a9 (List.length x5.Mem) c9) x11.2.Mem, SL (α := Int) 3 (.slice a10 (List.length x5.Stack) c10) x11.2.Stack, SL (α := Int) 3 (.slice a11 (List.length x5.Out) c11) x11.2.Out, BX b4 28 [.int .i64 x5.Pc, .slice a8 (List.length x5.Regs) c8, .slice a9 (List.length x5.Mem) c9, .slice a10 (List.length x5.Stack) c10, .int .i64 x5.In, .slice a11 (List.length x5.Out) c11, .int .i64 x5.Code, .int .i64 x5.Steps], BX b2 28 [.int .i64 x3.Pc, .slice a3 (List.length x3.Regs) c3, .slice a4 (List.length x3.Mem) c4, .slice a5 (List.length x3.Stack) c5, .int .i64 x3.In, .slice a6 (List.length x3.Out) c6, .int .i64 x3.Code, .int .i64 x3.Steps], SL (α := Int) 3 (.slice a3 (List.length x3.Regs) c3) x3.Regs, SL (α := Int) 3 (.slice a4 (List.length x3.Mem) c4) x3.Mem, SL (α := Int) 3 (.slice a5 (List.length x3.Stack) c5) x3.Stack, SL (α := Int) 3 (.slice a6 (List.length x3.Out) c6) x3.Out] w22 S17 := hs
              refine from_end rfl (then_normal ?_)
              refine wp_seq ?_
              refine wp_seq (wp_text' ?_)
              refine s_loadBoxS ty28 rfl rfl hF rfl (hs.bx 0 rfl) rfl rfl fun fr hF => ?_
              have hs : Sep [SL (α := Int) 3 (.slice a13 (List.length x14.Regs) c13) x14.Regs, SL (α := Int) 3 (.slice a14 (List.length x14.Mem) c14) x14.Mem, SL (α := Int) 3 (.slice a15 (List.length x14.Stack) c15) x14.Stack, SL (α := Int) 3 (.slice a16 (List.length x14.Out) c16) x14.Out, SL (α := Int) 3 (.slice a8 (List.length x5.Regs) c8) x11.2.Regs, SL (α := Int) 3 (.slice a9 (List.length x5.Mem) c9) x11.2.Mem, SL (α := Int) 3 (.slice a10 (List.length x5.Stack) c10) x11.2.Stack, SL (α := Int) 3 (.slice a11 (List.length x5.Out) c11) x11.2.Out, BX b4 28 [.int .i64 x5.Pc, .slice a8 (List.length x5.Regs) c8, .slice a9 (List.length x5.Mem) c9, .slice a10 (List.length x5.Stack) c10, .int .i64 x5.In, .slice a11 (List.length x5.Out) c11, .int .i64 x5.Code, .int .i64 x5.Steps], BX b2 28 [.int .i64 x3.Pc, .slice a3 (List.length x3.Regs) c3, .slice a4 (List.length x3.Mem) c4, .slice a5 (List.length x3.Stack) c5, .int .i64 x3.In, .slice a6 (List.length x3.Out) c6, .int .i64 x3.Code, .int .i64 x3.Steps], SL (α := Int) 3 (.slice a3 (List.length x3.Regs) c3) x3.Regs, SL (α := Int) 3 (.slice a4 (List.length x3.Mem) c4) x3.Mem, SL (α := Int) 3 (.slice a5 (List.length x3.Stack) c5) x3.Stack, SL (α := Int) 3 (.slice a6 (List.length x3.Out) c6) x3.Out] w22 S17 := Sep.pick [1, 2, 3, 4, 5, 6, 7, 8, 9, 10, 11, 12, 13, 14] hs (by decide) rfl
              refine s_loadBoxS ty28 rfl rfl hF rfl (hs.bx 9 rfl) rfl rfl fun fr hF => ?_
              have hs : Sep [SL (α := Int) 3 (.slice a13 (List.length x14.Regs) c13) x14.Regs, SL (α := Int) 3 (.slice a14 (List.length x14.Mem) c14) x14.Mem, SL (α := Int) 3 (.slice a15 (List.length x14.Stack) c15) x14.Stack, SL (α := Int) 3 (.slice a16 (List.length x14.Out) c16) x14.Out, SL (α := Int) 3 (.slice a8 (List.length x5.Regs) c8) x11.2.Regs, SL (α := Int) 3 (.slice a9 (List.length x5.Mem) c9) x11.2.Mem, SL (α := Int) 3 (.slice a10 (List.length x5.Stack) c10) x11.2.Stack, SL (α := Int) 3 (.slice a11 (List.length x5.Out) c11) x11.2.Out, BX b4 28 [.int .i64 x5.Pc, .slice a8 (List.length x5.Regs) c8, .slice a9 (List.length x5.Mem) c9, .slice a10 (List.length x5.Stack) c10, .int .i64 x5.In, .slice a11 (List.length x5.Out) c11, .int .i64 x5.Code, .int .i64 x5.Steps], SL (α := Int) 3 (.slice a3 (List.length x3.Regs) c3) x3.Regs, SL (α := Int) 3 (.slice a4 (List.length x3.Mem) c4) x3.Mem, SL (α := Int) 3 (.slice a5 (List.length x3.Stack) c5) x3.Stack, SL (α := Int) 3 (.slice a6 (List.length x3.Out) c6) x3.Out] w22 S17 := Sep.pick [0, 1, 2, 3, 4, 5, 6, 7, 8, 10, 11, 12, 13] hs (by decide) rfl
              obtain ⟨x15, hx15, h⟩ := bindE h
              refine s_call [.agg #[.int .i64 x14.Pc, .slice a13 (List.length x14.Regs) c13, .slice a14 (List.length x14.Mem) c14, .slice a15 (List.length x14.Stack) c15, .int .i64 x14.In, .slice a16 (List.length x14.Out) c16, .int .i64 x14.Code, .int .i64 x14.Steps], .agg #[.int .i64 x3.Pc, .slice a3 (List.length x3.Regs) c3, .slice a4 (List.length x3.Mem) c4, .slice a5 (List.length x3.Stack) c5, .int .i64 x3.In, .slice a6 (List.length x3.Out) c6, .int .i64 x3.Code, .int .i64 x3.Steps]] Try.call14 rfl rfl hF rfl (laws_eqState_ok n x14 x3 hx15 (RV.mk_State x14 (RV.any (hs.rv 0 rfl)) (RV.any (hs.rv 1 rfl)) (RV.any (hs.rv 2 rfl)) (RV.any (hs.rv 3 rfl))) (RV.mk_State x3 (RV.any (hs.rv 9 rfl)) (RV.any (hs.rv 10 rfl)) (RV.any (hs.rv 11 rfl)) (RV.any (hs.rv 12 rfl)))) fun v w23 fr hRes hF => ?_
              obtain ⟨rfl, hc⟩ := hRes
              have hs := hs.ext hc
              have hM0 := hM0.ext hc
              have hs : Sep [SL (α := Int) 3 (.slice a8 (List.length x5.Regs) c8) x11.2.Regs, SL (α := Int) 3 (.slice a9 (List.length x5.Mem) c9) x11.2.Mem, SL (α := Int) 3 (.slice a10 (List.length x5.Stack) c10) x11.2.Stack, SL (α := Int) 3 (.slice a11 (List.length x5.Out) c11) x11.2.Out, BX b4 28 [.int .i64 x5.Pc, .slice a8 (List.length x5.Regs) c8, .slice a9 (List.length x5.Mem) c9, .slice a10 (List.length x5.Stack) c10, .int .i64 x5.In, .slice a11 (List.length x5.Out) c11, .int .i64 x5.Code, .int .i64 x5.Steps]] w23 S17 := Sep.pick [4, 5, 6, 7, 8] hs (by decide) rfl
              refine from_pure 1 [(6, .pointer (some ⟨b4, 0, none⟩)), (8, .int .i64 x11.1), (60, .bool (!x15))] hF (by kernel_rfl) fun fr hF => ?_
              refine from_end rfl (then_normal ?_)
              refine (wp_if hF (b := (!x15)) rfl (fun hb => ?_) (fun hb => ?_))
              · replace h := iteT hb h
                have hs : Sep [] w23 S17 := Sep.pick [] hs (by decide) rfl
                refine wp_seq (wp_pure [(2, .bool false)] hF (by kernel_rfl) fun fr hF => then_normal ?_)
                obtain rfl := Option.some.inj h
                exact wp_ret (then_ret (ret1 rfl hF rfl ⟨_, rfl, rfl, hM0.chg⟩))
              · replace h := iteF hb h
                refine (wp_skip (then_normal ?_))
                refine wp_seq (wp_pure [(6, .pointer (some ⟨b4, 0, none⟩)), (8, .int .i64 x11.1), (9, .int .i64 1)] hF (by kernel_rfl) fun fr hF => then_normal ?_)
                refine wp_seq (wp_text' ?_)
                refine s_loadBoxS ty28 rfl rfl hF rfl (hs.bx 4 rfl) rfl rfl fun fr hF => ?_
                have hs : Sep [SL (α := Int) 3 (.slice a8 (List.length x5.Regs) c8) x11.2.Regs, SL (α := Int) 3 (.slice a9 (List.length x5.Mem) c9) x11.2.Mem, SL (α := Int) 3 (.slice a10 (List.length x5.Stack) c10) x11.2.Stack, SL (α := Int) 3 (.slice a11 (List.length x5.Out) c11) x11.2.Out] w23 S17 := Sep.pick [0, 1, 2, 3] hs (by decide) rfl
                refine from_pure 1 [(8, .int .i64 x11.1), (61, .agg #[.int .i64 x5.Pc, .slice a8 (List.length x5.Regs) c8, .slice a9 (List.length x5.Mem) c9, .slice a10 (List.length x5.Stack) c10, .int .i64 x5.In, .slice a11 (List.length x5.Out) c11, .int .i64 x5.Code, .int .i64 x5.Steps]), (62, .int .i64 1)] hF (by kernel_rfl) fun fr hF => ?_
                obtain ⟨x16, hx16, h⟩ := bindE h
                refine s_call [.agg #[.int .i64 x5.Pc, .slice a8 (List.length x5.Regs) c8, .slice a9 (List.length x5.Mem) c9, .slice a10 (List.length x5.Stack) c10, .int .i64 x5.In, .slice a11 (List.length x5.Out) c11, .int .i64 x5.Code, .int .i64 x5.Steps], .int .i64 1] Try.call18 rfl rfl hF rfl (laws_heldState_ok n (D.State.mk x5.Pc x11.2.Regs x11.2.Mem x11.2.Stack x5.In x11.2.Out x5.Code x5.Steps) 1 hx16 (RV.mk_State (D.State.mk x5.Pc x11.2.Regs x11.2.Mem x11.2.Stack x5.In x11.2.Out x5.Code x5.Steps) (RV.any (hs.rv 0 rfl)) (RV.any (hs.rv 1 rfl)) (RV.any (hs.rv 2 rfl)) (RV.any (hs.rv 3 rfl)))) fun v w24 fr hRes hF => ?_
                obtain ⟨rfl, hc⟩ := hRes
                have hs := hs.ext hc
                have hM0 := hM0.ext hc
                have hs : Sep [] w24 S17 := Sep.pick [] hs (by decide) rfl
                refine from_pure 1 [(8, .int .i64 x11.1), (9, .int .i64 x16)] hF (by kernel_rfl) fun fr hF => ?_
                refine from_end rfl (then_normal ?_)
                refine wp_seq ?_
                refine wp_seq (wp_pure [(8, .int .i64 x11.1), (9, .int .i64 x16), (65, .bool (decide (x16 < 0)))] hF (by kernel_rfl) fun fr hF => then_normal ?_)
                refine (wp_if hF (b := (decide (x16 < 0))) rfl (fun hb => ?_) (fun hb => ?_))
                · replace h := iteT hb h
                  refine wp_seq (wp_pure [(2, .bool false)] hF (by kernel_rfl) fun fr hF => then_normal ?_)
                  obtain rfl := Option.some.inj h
                  exact wp_ret (then_ret (ret1 rfl hF rfl ⟨_, rfl, rfl, hM0.chg⟩))
                · replace h := iteF hb h
                  refine (wp_skip (then_normal ?_))
                  refine wp_seq ?_
                  refine wp_seq (wp_pure [(68, .bool (x16 != x11.1))] hF (by kernel_rfl) fun fr hF => then_normal ?_)
                  refine (wp_if hF (b := (x16 != x11.1)) rfl (fun hb => ?_) (fun hb => ?_))
                  · replace h := iteT hb h
                    refine wp_seq (wp_pure [(2, .bool false)] hF (by kernel_rfl) fun fr hF => then_normal ?_)
                    obtain rfl := Option.some.inj h
                    exact wp_ret (then_ret (ret1 rfl hF rfl ⟨_, rfl, rfl, hM0.chg⟩))
                  · replace h := iteF hb h
                    refine (wp_skip (then_normal ?_))
                    refine wp_seq (wp_pure [(2, .bool true)] hF (by kernel_rfl) fun fr hF => then_normal ?_)
                    obtain rfl := Option.some.inj h
                    exact wp_ret (ret1 rfl hF rfl ⟨_, rfl, rfl, hM0.chg⟩)
end Go.Proofs.Ytbfphbpeajmihaa
