/- Printed by gen2.py: the walks. -/
import Derived.Test.YtbfphbpeajmihaaWlkC
set_option linter.unusedVariables false
set_option maxRecDepth 100000
namespace Go.Proofs.Ytbfphbpeajmihaa
open Go.GL Go.Maps Go.WideMaps
theorem laws_markInsS_ok (n : Nat) (p0 : List D.Ins) (p1 : Int) {r : Int × (List D.Ins)} (h : laws_markInsS n p0 p1 = some r) {w : World} {S0 F0 : Nat → Prop} {pa0 : Option Addr} {pn0 pc0 : Nat} (hs : Sep [SL (α := D.Ins) 66 (.slice pa0 pn0 pc0) p0] w S0) (hb : ∀ k, S0 k → k < w.heap.size) (hd : ∀ k, S0 k → F0 k → False) :
    Calls Try.prog 42 [.slice pa0 pn0 pc0, .int .i64 p1].toArray w fun e w' => ∃ v, e = .returned v ∧ v = .int .i64 r.1 ∧ ∃ S', Stp w S0 w' S' ∧ Sep [SL (α := D.Ins) 66 (.slice pa0 pn0 pc0) r.2] w' S' := by
  unfold laws_markInsS at h
  obtain ⟨hpn, hs⟩ := hs.relen 0 rfl
  subst hpn
  have hs : Sep [SL (α := D.Ins) 66 (.slice pa0 (List.length p0) pc0) p0] w S0 := hs
  have hM0 : Mem w S0 (fun k => F0 k ∧ k < w.heap.size) w S0 (fun k => F0 k ∧ k < w.heap.size) := Mem.start hb (fun _ h => h.2) (fun k h1 h2 => hd k h1 h2.1)
  refine enter (N := 41) Try.func42 rfl Try.ntmps42 rfl fun fr hF => ?_
  refine wp_seq (wp_pure [(0, .slice pa0 (List.length p0) pc0), (1, .int .i64 p1)] hF (by kernel_rfl) fun fr hF => then_normal ?_)
  refine wp_seq ?_
  refine wp_seq (wp_pure [(0, .slice pa0 (List.length p0) pc0), (1, .int .i64 p1), (5, .int .i64 0)] hF (by kernel_rfl) fun fr hF => then_normal ?_)
  obtain ⟨rl1, hit1, h⟩ := bindE h
  have hk1 := h
  refine (wp_cut (M := fun fr w' => ∃ S2 F2, FrS 41 [(1, .int .i64 rl1.1)] fr ∧ Mem w S0 (fun k => F0 k ∧ k < w.heap.size) w' S2 F2 ∧ Sep [SL (α := D.Ins) 66 (.slice pa0 (List.length p0) pc0) rl1.2] w' S2) (wp_block (wp_iter (Inv := fun s1 fr w' => ∃ S1 F1, FrS 41 [(0, .slice pa0 (List.length p0) pc0), (1, .int .i64 s1.1), (5, .int .i64 s1.2.1)] fr ∧ Mem w S0 (fun k => F0 k ∧ k < w.heap.size) w' S1 F1 ∧ Sep [SL (α := D.Ins) 66 (.slice pa0 (List.length p0) pc0) s1.2.2] w' S1) hit1 ⟨S0, _, hF.sub _ (by kernel_rfl), (Mem.start hM0.bd hM0.bdF hM0.dj), hs⟩ fun s1 q1 fr w1i hI h hr1 => ?_)) fun fr w1o hM => ?_)
  · obtain ⟨S1, F1, hF, hM1, hs⟩ := hI
    refine wp_seq ?_
    refine wp_seq (wp_pure [(0, .slice pa0 (List.length p0) pc0), (1, .int .i64 s1.1), (5, .int .i64 s1.2.1), (9, .bool (decide (s1.2.1 < (len p0))))] hF (by kernel_rfl) fun fr hF => then_normal ?_)
    refine (wp_if hF (b := (decide (s1.2.1 < (len p0)))) rfl (fun hb => ?_) (fun hb => ?_))
    · replace h := iteT hb h
      refine (wp_skip (then_normal ?_))
      refine wp_seq (wp_block ?_)
      refine wp_seq (wp_text' ?_)
      refine from_pure 3 [(0, .slice pa0 (List.length p0) pc0), (1, .int .i64 s1.1), (5, .int .i64 s1.2.1), (12, .slice pa0 (List.length p0) pc0), (13, .int .i64 s1.2.1), (14, .int .i64 s1.1)] hF (by kernel_rfl) fun fr hF => ?_
      obtain ⟨x1, hx1, h⟩ := bindE h
      obtain ⟨x2, hx2, h⟩ := bindE h
      refine q_setField (q := x1) (q' := ({ x1 with Op := s1.1 } : D.Ins)) (off := 0) 0 hs hM1 rfl Try.underlying30 ty66 rfl rfl rfl rfl rfl hF rfl rfl rfl rfl (by kernel_rfl) rfl (by kernel_rfl) rfl hx1 rfl hx2 fun w1 S3 fr _ _ hs hp hF => ?_
      have hM1 := hM1.stp hp
      have hs : Sep [SL (α := D.Ins) 66 (.slice pa0 (List.length p0) pc0) x2] w1 S3 := hs
      refine from_end rfl (then_normal ?_)
      refine wp_seq (wp_pure [(0, .slice pa0 (List.length p0) pc0), (1, .int .i64 (w64 (s1.1 + 1))), (5, .int .i64 s1.2.1)] hF (by kernel_rfl) fun fr hF => then_normal ?_)
      refine wp_seq (wp_text' ?_)
      refine from_pure 3 [(0, .slice pa0 (List.length p0) pc0), (1, .int .i64 (w64 (s1.1 + 1))), (5, .int .i64 s1.2.1), (19, .slice pa0 (List.length p0) pc0), (20, .int .i64 s1.2.1), (21, .int .i64 (w64 (s1.1 + 1)))] hF (by kernel_rfl) fun fr hF => ?_
      obtain ⟨x3, hx3, h⟩ := bindE h
      obtain ⟨x4, hx4, h⟩ := bindE h
      refine q_setField (q := x3) (q' := ({ x3 with A := (w64 (s1.1 + 1)) } : D.Ins)) (off := 1) 0 hs hM1 rfl Try.underlying30 ty66 rfl rfl rfl rfl rfl hF rfl rfl rfl rfl (by kernel_rfl) rfl (by kernel_rfl) rfl hx3 rfl hx4 fun w2 S4 fr _ _ hs hp hF => ?_
      have hM1 := hM1.stp hp
      have hs : Sep [SL (α := D.Ins) 66 (.slice pa0 (List.length p0) pc0) x4] w2 S4 := hs
      refine from_end rfl (then_normal ?_)
      refine wp_seq (wp_pure [(0, .slice pa0 (List.length p0) pc0), (1, .int .i64 (w64 ((w64 (s1.1 + 1)) + 1))), (5, .int .i64 s1.2.1)] hF (by kernel_rfl) fun fr hF => then_normal ?_)
      refine wp_seq (wp_text' ?_)
      refine from_pure 3 [(0, .slice pa0 (List.length p0) pc0), (1, .int .i64 (w64 ((w64 (s1.1 + 1)) + 1))), (5, .int .i64 s1.2.1), (26, .slice pa0 (List.length p0) pc0), (27, .int .i64 s1.2.1), (28, .int .i64 (w64 ((w64 (s1.1 + 1)) + 1)))] hF (by kernel_rfl) fun fr hF => ?_
      obtain ⟨x5, hx5, h⟩ := bindE h
      obtain ⟨x6, hx6, h⟩ := bindE h
      refine q_setField (q := x5) (q' := ({ x5 with B := (w64 ((w64 (s1.1 + 1)) + 1)) } : D.Ins)) (off := 2) 0 hs hM1 rfl Try.underlying30 ty66 rfl rfl rfl rfl rfl hF rfl rfl rfl rfl (by kernel_rfl) rfl (by kernel_rfl) rfl hx5 rfl hx6 fun w3 S5 fr _ _ hs hp hF => ?_
      have hM1 := hM1.stp hp
      have hs : Sep [SL (α := D.Ins) 66 (.slice pa0 (List.length p0) pc0) x6] w3 S5 := hs
      refine from_end rfl (then_normal ?_)
      refine wp_seq (wp_pure [(0, .slice pa0 (List.length p0) pc0), (1, .int .i64 (w64 ((w64 ((w64 (s1.1 + 1)) + 1)) + 1))), (5, .int .i64 s1.2.1)] hF (by kernel_rfl) fun fr hF => then_normal ?_)
      refine wp_seq (wp_text' ?_)
      refine from_pure 3 [(0, .slice pa0 (List.length p0) pc0), (1, .int .i64 (w64 ((w64 ((w64 (s1.1 + 1)) + 1)) + 1))), (5, .int .i64 s1.2.1), (33, .slice pa0 (List.length p0) pc0), (34, .int .i64 s1.2.1), (35, .int .i64 (w64 ((w64 ((w64 (s1.1 + 1)) + 1)) + 1)))] hF (by kernel_rfl) fun fr hF => ?_
      obtain ⟨x7, hx7, h⟩ := bindE h
      obtain ⟨x8, hx8, h⟩ := bindE h
      refine q_setField (q := x7) (q' := ({ x7 with C := (w64 ((w64 ((w64 (s1.1 + 1)) + 1)) + 1)) } : D.Ins)) (off := 3) 0 hs hM1 rfl Try.underlying30 ty66 rfl rfl rfl rfl rfl hF rfl rfl rfl rfl (by kernel_rfl) rfl (by kernel_rfl) rfl hx7 rfl hx8 fun w4 S6 fr _ _ hs hp hF => ?_
      have hM1 := hM1.stp hp
      have hs : Sep [SL (α := D.Ins) 66 (.slice pa0 (List.length p0) pc0) x8] w4 S6 := hs
      refine from_end rfl (then_normal ?_)
      refine (wp_pure [(0, .slice pa0 (List.length p0) pc0), (1, .int .i64 (w64 ((w64 ((w64 ((w64 (s1.1 + 1)) + 1)) + 1)) + 1))), (5, .int .i64 s1.2.1)] hF (by kernel_rfl) fun fr hF => ?_)
      refine blk_normal (then_normal ?_)
      refine (wp_pure [(0, .slice pa0 (List.length p0) pc0), (1, .int .i64 (w64 ((w64 ((w64 ((w64 (s1.1 + 1)) + 1)) + 1)) + 1))), (5, .int .i64 (w64 (s1.2.1 + 1)))] hF (by kernel_rfl) fun fr hF => then_normal ?_)
      exact ⟨_, (Option.some.inj h).symm, S6, _, hF.sub _ (by kernel_rfl), hM1, hs⟩
    replace h := iteF hb h
    refine (wp_exit (then_exit (then_exit (blk_exit_eq ?_))))
    obtain rfl := hr1 _ (Option.some.inj h).symm
    exact then_normal ⟨S1, _, hF.sub _ (by kernel_rfl), hM1, hs⟩
  · obtain ⟨S2, F2, hF, hMx, hs⟩ := hM
    have hM0 := hM0.trans hMx
    refine wp_seq (wp_pure [(4, .int .i64 rl1.1)] hF (by kernel_rfl) fun fr hF => then_normal ?_)
    obtain rfl := Option.some.inj h
    exact wp_ret (ret1 rfl hF rfl ⟨_, rfl, rfl, S2, hM0.out, hs⟩)

theorem laws_markProgram_ok (n : Nat) (p0 : D.Program) (p1 : Int) {r : Int × D.Program} (h : laws_markProgram n p0 p1 = some r) {w : World} {S0 F0 : Nat → Prop} {pa0 : Option Addr} {pn0 pc0 : Nat} (hs : Sep [SL (α := D.Ins) 66 (.slice pa0 pn0 pc0) p0.Code] w S0) (hb : ∀ k, S0 k → k < w.heap.size) (hd : ∀ k, S0 k → F0 k → False) :
    Calls Try.prog 16 [.agg #[.int .i64 p0.W, .int .i64 p0.Mem, .int .i64 p0.In, .slice pa0 pn0 pc0], .int .i64 p1].toArray w fun e w' => ∃ v, e = .returned v ∧ v = .int .i64 r.1 ∧ ∃ S', Stp w S0 w' S' ∧ Sep [SL (α := D.Ins) 66 (.slice pa0 pn0 pc0) r.2.Code] w' S' := by
  unfold laws_markProgram at h
  obtain ⟨hpn, hs⟩ := hs.relen 0 rfl
  subst hpn
  have hs : Sep [SL (α := D.Ins) 66 (.slice pa0 (List.length p0.Code) pc0) p0.Code] w S0 := hs
  have hM0 : Mem w S0 (fun k => F0 k ∧ k < w.heap.size) w S0 (fun k => F0 k ∧ k < w.heap.size) := Mem.start hb (fun _ h => h.2) (fun k h1 h2 => hd k h1 h2.1)
  refine enter (N := 10) Try.func16 rfl Try.ntmps16 rfl fun fr hF => ?_
  refine wp_seq (wp_text' ?_)
  refine q_box hs hM0 [.int .i64 p0.W, .int .i64 p0.Mem, .int .i64 p0.In, .slice pa0 (List.length p0.Code) pc0] rfl rfl hF rfl rfl fun b1 w1 S1 fr hs hp hF => ?_
  have hM0 := hM0.stp hp
  have hs : Sep [BX b1 32 [.int .i64 p0.W, .int .i64 p0.Mem, .int .i64 p0.In, .slice pa0 (List.length p0.Code) pc0], SL (α := D.Ins) 66 (.slice pa0 (List.length p0.Code) pc0) p0.Code] w1 S1 := hs
  refine from_pure 1 [(1, .int .i64 p1), (2, .pointer (some ⟨b1, 0, none⟩))] hF (by kernel_rfl) fun fr hF => ?_
  refine from_end rfl (then_normal ?_)
  refine wp_seq (wp_text' ?_)
  refine from_pure 1 [(1, .int .i64 p1), (5, .pointer (some ⟨b1, 3, none⟩))] hF (by kernel_rfl) fun fr hF => ?_
  refine s_loadBox (.slice pa0 (List.length p0.Code) pc0) ty30 rfl rfl hF rfl (hs.bx 0 rfl) rfl rfl fun fr hF => ?_
  have hs : Sep [SL (α := D.Ins) 66 (.slice pa0 (List.length p0.Code) pc0) p0.Code] w1 S1 := Sep.pick [1] hs (by decide) rfl
  refine from_pure 1 [(6, .slice pa0 (List.length p0.Code) pc0), (7, .int .i64 p1)] hF (by kernel_rfl) fun fr hF => ?_
  obtain ⟨x1, hx1, h⟩ := bindE h
  obtain ⟨A1, R1, hsA, hsR, hdA, hbA, hup⟩ := Sep.call (L1 := [SL (α := D.Ins) 66 (.slice pa0 (List.length p0.Code) pc0) p0.Code]) (L2 := []) hs hM0
  refine s_call [.slice pa0 (List.length p0.Code) pc0, .int .i64 p1] Try.call42 rfl rfl hF rfl (laws_markInsS_ok n p0.Code p1 hx1 hsA hbA hdA) fun v w2 fr hRes hF => ?_
  obtain ⟨rfl, _, hp, hs⟩ := hRes
  obtain ⟨S2, hp, hs⟩ := hup hp hs
  have hM0 := hM0.stp hp
  have hs : Sep [SL (α := D.Ins) 66 (.slice pa0 (List.length p0.Code) pc0) x1.2] w2 S2 := hs
  refine from_pure 1 [(1, .int .i64 x1.1)] hF (by kernel_rfl) fun fr hF => ?_
  refine from_end rfl (then_normal ?_)
  refine wp_seq (wp_pure [(4, .int .i64 x1.1)] hF (by kernel_rfl) fun fr hF => then_normal ?_)
  obtain rfl := Option.some.inj h
  exact wp_ret (ret1 rfl hF rfl ⟨_, rfl, rfl, S2, hM0.out, hs⟩)

theorem laws_markIntS_ok (n : Nat) (p0 : List Int) (p1 : Int) {r : Int × (List Int)} (h : laws_markIntS n p0 p1 = some r) {w : World} {S0 F0 : Nat → Prop} {pa0 : Option Addr} {pn0 pc0 : Nat} (hs : Sep [SL (α := Int) 3 (.slice pa0 pn0 pc0) p0] w S0) (hb : ∀ k, S0 k → k < w.heap.size) (hd : ∀ k, S0 k → F0 k → False) :
    Calls Try.prog 25 [.slice pa0 pn0 pc0, .int .i64 p1].toArray w fun e w' => ∃ v, e = .returned v ∧ v = .int .i64 r.1 ∧ ∃ S', Stp w S0 w' S' ∧ Sep [SL (α := Int) 3 (.slice pa0 pn0 pc0) r.2] w' S' := by
  unfold laws_markIntS at h
  obtain ⟨hpn, hs⟩ := hs.relen 0 rfl
  subst hpn
  have hs : Sep [SL (α := Int) 3 (.slice pa0 (List.length p0) pc0) p0] w S0 := hs
  have hM0 : Mem w S0 (fun k => F0 k ∧ k < w.heap.size) w S0 (fun k => F0 k ∧ k < w.heap.size) := Mem.start hb (fun _ h => h.2) (fun k h1 h2 => hd k h1 h2.1)
  refine enter (N := 19) Try.func25 rfl Try.ntmps25 rfl fun fr hF => ?_
  refine wp_seq (wp_pure [(0, .slice pa0 (List.length p0) pc0), (1, .int .i64 p1)] hF (by kernel_rfl) fun fr hF => then_normal ?_)
  refine wp_seq ?_
  refine wp_seq (wp_pure [(0, .slice pa0 (List.length p0) pc0), (1, .int .i64 p1), (5, .int .i64 0)] hF (by kernel_rfl) fun fr hF => then_normal ?_)
  obtain ⟨rl1, hit1, h⟩ := bindE h
  have hk1 := h
  refine (wp_cut (M := fun fr w' => ∃ S2 F2, FrS 19 [(1, .int .i64 rl1.1)] fr ∧ Mem w S0 (fun k => F0 k ∧ k < w.heap.size) w' S2 F2 ∧ Sep [SL (α := Int) 3 (.slice pa0 (List.length p0) pc0) rl1.2] w' S2) (wp_block (wp_iter (Inv := fun s1 fr w' => ∃ S1 F1, FrS 19 [(0, .slice pa0 (List.length p0) pc0), (1, .int .i64 s1.1), (5, .int .i64 s1.2.1)] fr ∧ Mem w S0 (fun k => F0 k ∧ k < w.heap.size) w' S1 F1 ∧ Sep [SL (α := Int) 3 (.slice pa0 (List.length p0) pc0) s1.2.2] w' S1) hit1 ⟨S0, _, hF.sub _ (by kernel_rfl), (Mem.start hM0.bd hM0.bdF hM0.dj), hs⟩ fun s1 q1 fr w1i hI h hr1 => ?_)) fun fr w1o hM => ?_)
  · obtain ⟨S1, F1, hF, hM1, hs⟩ := hI
    refine wp_seq ?_
    refine wp_seq (wp_pure [(0, .slice pa0 (List.length p0) pc0), (1, .int .i64 s1.1), (5, .int .i64 s1.2.1), (9, .bool (decide (s1.2.1 < (len p0))))] hF (by kernel_rfl) fun fr hF => then_normal ?_)
    refine (wp_if hF (b := (decide (s1.2.1 < (len p0)))) rfl (fun hb => ?_) (fun hb => ?_))
    · replace h := iteT hb h
      refine (wp_skip (then_normal ?_))
      refine wp_seq (wp_block ?_)
      refine wp_seq (wp_text' ?_)
      refine from_pure 3 [(0, .slice pa0 (List.length p0) pc0), (1, .int .i64 s1.1), (5, .int .i64 s1.2.1), (12, .slice pa0 (List.length p0) pc0), (13, .int .i64 s1.2.1), (14, .int .i64 s1.1)] hF (by kernel_rfl) fun fr hF => ?_
      obtain ⟨x1, hx1, h⟩ := bindE h
      refine q_set (q := s1.1) 0 hs hM1 rfl Try.underlying26 ty3 rfl rfl rfl rfl hF rfl rfl (by simp) rfl rfl hx1 fun w1 S3 fr _ hs hp hF => ?_
      have hM1 := hM1.stp hp
      have hs : Sep [SL (α := Int) 3 (.slice pa0 (List.length p0) pc0) x1] w1 S3 := hs
      refine from_end rfl (then_normal ?_)
      refine (wp_pure [(0, .slice pa0 (List.length p0) pc0), (1, .int .i64 (w64 (s1.1 + 1))), (5, .int .i64 s1.2.1)] hF (by kernel_rfl) fun fr hF => ?_)
      refine blk_normal (then_normal ?_)
      refine (wp_pure [(0, .slice pa0 (List.length p0) pc0), (1, .int .i64 (w64 (s1.1 + 1))), (5, .int .i64 (w64 (s1.2.1 + 1)))] hF (by kernel_rfl) fun fr hF => then_normal ?_)
      exact ⟨_, (Option.some.inj h).symm, S3, _, hF.sub _ (by kernel_rfl), hM1, hs⟩
    replace h := iteF hb h
    refine (wp_exit (then_exit (then_exit (blk_exit_eq ?_))))
    obtain rfl := hr1 _ (Option.some.inj h).symm
    exact then_normal ⟨S1, _, hF.sub _ (by kernel_rfl), hM1, hs⟩
  · obtain ⟨S2, F2, hF, hMx, hs⟩ := hM
    have hM0 := hM0.trans hMx
    refine wp_seq (wp_pure [(4, .int .i64 rl1.1)] hF (by kernel_rfl) fun fr hF => then_normal ?_)
    obtain rfl := Option.some.inj h
    exact wp_ret (ret1 rfl hF rfl ⟨_, rfl, rfl, S2, hM0.out, hs⟩)

theorem laws_markState_ok (n : Nat) (p0 : D.State) (p1 : Int) {r : Int × D.State} (h : laws_markState n p0 p1 = some r) {w : World} {S0 F0 : Nat → Prop} {pa0 : Option Addr} {pn0 pc0 : Nat} {pa1 : Option Addr} {pn1 pc1 : Nat} {pa2 : Option Addr} {pn2 pc2 : Nat} {pa3 : Option Addr} {pn3 pc3 : Nat} (hs : Sep [SL (α := Int) 3 (.slice pa0 pn0 pc0) p0.Regs, SL (α := Int) 3 (.slice pa1 pn1 pc1) p0.Mem, SL (α := Int) 3 (.slice pa2 pn2 pc2) p0.Stack, SL (α := Int) 3 (.slice pa3 pn3 pc3) p0.Out] w S0) (hb : ∀ k, S0 k → k < w.heap.size) (hd : ∀ k, S0 k → F0 k → False) :
    Calls Try.prog 17 [.agg #[.int .i64 p0.Pc, .slice pa0 pn0 pc0, .slice pa1 pn1 pc1, .slice pa2 pn2 pc2, .int .i64 p0.In, .slice pa3 pn3 pc3, .int .i64 p0.Code, .int .i64 p0.Steps], .int .i64 p1].toArray w fun e w' => ∃ v, e = .returned v ∧ v = .int .i64 r.1 ∧ ∃ S', Stp w S0 w' S' ∧ Sep [SL (α := Int) 3 (.slice pa0 pn0 pc0) r.2.Regs, SL (α := Int) 3 (.slice pa1 pn1 pc1) r.2.Mem, SL (α := Int) 3 (.slice pa2 pn2 pc2) r.2.Stack, SL (α := Int) 3 (.slice pa3 pn3 pc3) r.2.Out] w' S' := by
  unfold laws_markState at h
  obtain ⟨hpn, hs⟩ := hs.relen 0 rfl
  subst hpn
  obtain ⟨hpn, hs⟩ := hs.relen 1 rfl
  subst hpn
  obtain ⟨hpn, hs⟩ := hs.relen 2 rfl
  subst hpn
  obtain ⟨hpn, hs⟩ := hs.relen 3 rfl
  subst hpn
  have hs : Sep [SL (α := Int) 3 (.slice pa0 (List.length p0.Regs) pc0) p0.Regs, SL (α := Int) 3 (.slice pa1 (List.length p0.Mem) pc1) p0.Mem, SL (α := Int) 3 (.slice pa2 (List.length p0.Stack) pc2) p0.Stack, SL (α := Int) 3 (.slice pa3 (List.length p0.Out) pc3) p0.Out] w S0 := hs
  have hM0 : Mem w S0 (fun k => F0 k ∧ k < w.heap.size) w S0 (fun k => F0 k ∧ k < w.heap.size) := Mem.start hb (fun _ h => h.2) (fun k h1 h2 => hd k h1 h2.1)
  refine enter (N := 22) Try.func17 rfl Try.ntmps17 rfl fun fr hF => ?_
  refine wp_seq (wp_text' ?_)
  refine q_box hs hM0 [.int .i64 p0.Pc, .slice pa0 (List.length p0.Regs) pc0, .slice pa1 (List.length p0.Mem) pc1, .slice pa2 (List.length p0.Stack) pc2, .int .i64 p0.In, .slice pa3 (List.length p0.Out) pc3, .int .i64 p0.Code, .int .i64 p0.Steps] rfl rfl hF rfl rfl fun b1 w1 S1 fr hs hp hF => ?_
  have hM0 := hM0.stp hp
  have hs : Sep [BX b1 28 [.int .i64 p0.Pc, .slice pa0 (List.length p0.Regs) pc0, .slice pa1 (List.length p0.Mem) pc1, .slice pa2 (List.length p0.Stack) pc2, .int .i64 p0.In, .slice pa3 (List.length p0.Out) pc3, .int .i64 p0.Code, .int .i64 p0.Steps], SL (α := Int) 3 (.slice pa0 (List.length p0.Regs) pc0) p0.Regs, SL (α := Int) 3 (.slice pa1 (List.length p0.Mem) pc1) p0.Mem, SL (α := Int) 3 (.slice pa2 (List.length p0.Stack) pc2) p0.Stack, SL (α := Int) 3 (.slice pa3 (List.length p0.Out) pc3) p0.Out] w1 S1 := hs
  refine from_pure 1 [(1, .int .i64 p1), (2, .pointer (some ⟨b1, 0, none⟩))] hF (by kernel_rfl) fun fr hF => ?_
  refine from_end rfl (then_normal ?_)
  refine wp_seq (wp_text' ?_)
  refine from_pure 1 [(1, .int .i64 p1), (2, .pointer (some ⟨b1, 0, none⟩)), (5, .pointer (some ⟨b1, 1, none⟩))] hF (by kernel_rfl) fun fr hF => ?_
  refine s_loadBox (.slice pa0 (List.length p0.Regs) pc0) ty26 rfl rfl hF rfl (hs.bx 0 rfl) rfl rfl fun fr hF => ?_
  refine from_pure 1 [(2, .pointer (some ⟨b1, 0, none⟩)), (6, .slice pa0 (List.length p0.Regs) pc0), (7, .int .i64 p1)] hF (by kernel_rfl) fun fr hF => ?_
  obtain ⟨x1, hx1, h⟩ := bindE h
  have hs : Sep [SL (α := Int) 3 (.slice pa0 (List.length p0.Regs) pc0) p0.Regs, BX b1 28 [.int .i64 p0.Pc, .slice pa0 (List.length p0.Regs) pc0, .slice pa1 (List.length p0.Mem) pc1, .slice pa2 (List.length p0.Stack) pc2, .int .i64 p0.In, .slice pa3 (List.length p0.Out) pc3, .int .i64 p0.Code, .int .i64 p0.Steps], SL (α := Int) 3 (.slice pa1 (List.length p0.Mem) pc1) p0.Mem, SL (α := Int) 3 (.slice pa2 (List.length p0.Stack) pc2) p0.Stack, SL (α := Int) 3 (.slice pa3 (List.length p0.Out) pc3) p0.Out] w1 S1 := Sep.pick [1, 0, 2, 3, 4] hs (by decide) rfl
  obtain ⟨A1, R1, hsA, hsR, hdA, hbA, hup⟩ := Sep.call (L1 := [SL (α := Int) 3 (.slice pa0 (List.length p0.Regs) pc0) p0.Regs]) (L2 := [BX b1 28 [.int .i64 p0.Pc, .slice pa0 (List.length p0.Regs) pc0, .slice pa1 (List.length p0.Mem) pc1, .slice pa2 (List.length p0.Stack) pc2, .int .i64 p0.In, .slice pa3 (List.length p0.Out) pc3, .int .i64 p0.Code, .int .i64 p0.Steps], SL (α := Int) 3 (.slice pa1 (List.length p0.Mem) pc1) p0.Mem, SL (α := Int) 3 (.slice pa2 (List.length p0.Stack) pc2) p0.Stack, SL (α := Int) 3 (.slice pa3 (List.length p0.Out) pc3) p0.Out]) hs hM0
  refine s_call [.slice pa0 (List.length p0.Regs) pc0, .int .i64 p1] Try.call25 rfl rfl hF rfl (laws_markIntS_ok n p0.Regs p1 hx1 hsA hbA hdA) fun v w2 fr hRes hF => ?_
  obtain ⟨rfl, _, hp, hs⟩ := hRes
  obtain ⟨S2, hp, hs⟩ := hup hp hs
  have hM0 := hM0.stp hp
  have hs : Sep [SL (α := Int) 3 (.slice pa0 (List.length p0.Regs) pc0) x1.2, BX b1 28 [.int .i64 p0.Pc, .slice pa0 (List.length p0.Regs) pc0, .slice pa1 (List.length p0.Mem) pc1, .slice pa2 (List.length p0.Stack) pc2, .int .i64 p0.In, .slice pa3 (List.length p0.Out) pc3, .int .i64 p0.Code, .int .i64 p0.Steps], SL (α := Int) 3 (.slice pa1 (List.length p0.Mem) pc1) p0.Mem, SL (α := Int) 3 (.slice pa2 (List.length p0.Stack) pc2) p0.Stack, SL (α := Int) 3 (.slice pa3 (List.length p0.Out) pc3) p0.Out] w2 S2 := hs
  refine from_pure 1 [(1, .int .i64 x1.1), (2, .pointer (some ⟨b1, 0, none⟩))] hF (by kernel_rfl) fun fr hF => ?_
  refine from_end rfl (then_normal ?_)
  refine wp_seq (wp_text' ?_)
  refine from_pure 1 [(1, .int .i64 x1.1), (2, .pointer (some ⟨b1, 0, none⟩)), (9, .pointer (some ⟨b1, 2, none⟩))] hF (by kernel_rfl) fun fr hF => ?_
  refine s_loadBox (.slice pa1 (List.length p0.Mem) pc1) ty26 rfl rfl hF rfl (hs.bx 1 rfl) rfl rfl fun fr hF => ?_
  refine from_pure 1 [(2, .pointer (some ⟨b1, 0, none⟩)), (10, .slice pa1 (List.length p0.Mem) pc1), (11, .int .i64 x1.1)] hF (by kernel_rfl) fun fr hF => ?_
  obtain ⟨x2, hx2, h⟩ := bindE h
  have hs : Sep [SL (α := Int) 3 (.slice pa1 (List.length p0.Mem) pc1) p0.Mem, SL (α := Int) 3 (.slice pa0 (List.length p0.Regs) pc0) x1.2, BX b1 28 [.int .i64 p0.Pc, .slice pa0 (List.length p0.Regs) pc0, .slice pa1 (List.length p0.Mem) pc1, .slice pa2 (List.length p0.Stack) pc2, .int .i64 p0.In, .slice pa3 (List.length p0.Out) pc3, .int .i64 p0.Code, .int .i64 p0.Steps], SL (α := Int) 3 (.slice pa2 (List.length p0.Stack) pc2) p0.Stack, SL (α := Int) 3 (.slice pa3 (List.length p0.Out) pc3) p0.Out] w2 S2 := Sep.pick [2, 0, 1, 3, 4] hs (by decide) rfl
  obtain ⟨A2, R2, hsA, hsR, hdA, hbA, hup⟩ := Sep.call (L1 := [SL (α := Int) 3 (.slice pa1 (List.length p0.Mem) pc1) p0.Mem]) (L2 := [SL (α := Int) 3 (.slice pa0 (List.length p0.Regs) pc0) x1.2, BX b1 28 [.int .i64 p0.Pc, .slice pa0 (List.length p0.Regs) pc0, .slice pa1 (List.length p0.Mem) pc1, .slice pa2 (List.length p0.Stack) pc2, .int .i64 p0.In, .slice pa3 (List.length p0.Out) pc3, .int .i64 p0.Code, .int .i64 p0.Steps], SL (α := Int) 3 (.slice pa2 (List.length p0.Stack) pc2) p0.Stack, SL (α := Int) 3 (.slice pa3 (List.length p0.Out) pc3) p0.Out]) hs hM0
  refine s_call [.slice pa1 (List.length p0.Mem) pc1, .int .i64 x1.1] Try.call25 rfl rfl hF rfl (laws_markIntS_ok n p0.Mem x1.1 hx2 hsA hbA hdA) fun v w3 fr hRes hF => ?_
  obtain ⟨rfl, _, hp, hs⟩ := hRes
  obtain ⟨S3, hp, hs⟩ := hup hp hs
  have hM0 := hM0.stp hp
  have hs : Sep [SL (α := Int) 3 (.slice pa1 (List.length p0.Mem) pc1) x2.2, SL (α := Int) 3 (.slice pa0 (List.length p0.Regs) pc0) x1.2, BX b1 28 [.int .i64 p0.Pc, .slice pa0 (List.length p0.Regs) pc0, .slice pa1 (List.length p0.Mem) pc1, .slice pa2 (List.length p0.Stack) pc2, .int .i64 p0.In, .slice pa3 (List.length p0.Out) pc3, .int .i64 p0.Code, .int .i64 p0.Steps], SL (α := Int) 3 (.slice pa2 (List.length p0.Stack) pc2) p0.Stack, SL (α := Int) 3 (.slice pa3 (List.length p0.Out) pc3) p0.Out] w3 S3 := hs
  refine from_pure 1 [(1, .int .i64 x2.1), (2, .pointer (some ⟨b1, 0, none⟩))] hF (by kernel_rfl) fun fr hF => ?_
  refine from_end rfl (then_normal ?_)
  refine wp_seq (wp_text' ?_)
  refine from_pure 1 [(1, .int .i64 x2.1), (2, .pointer (some ⟨b1, 0, none⟩)), (13, .pointer (some ⟨b1, 3, none⟩))] hF (by kernel_rfl) fun fr hF => ?_
  refine s_loadBox (.slice pa2 (List.length p0.Stack) pc2) ty26 rfl rfl hF rfl (hs.bx 2 rfl) rfl rfl fun fr hF => ?_
  refine from_pure 1 [(2, .pointer (some ⟨b1, 0, none⟩)), (14, .slice pa2 (List.length p0.Stack) pc2), (15, .int .i64 x2.1)] hF (by kernel_rfl) fun fr hF => ?_
  obtain ⟨x3, hx3, h⟩ := bindE h
  have hs : Sep [SL (α := Int) 3 (.slice pa2 (List.length p0.Stack) pc2) p0.Stack, SL (α := Int) 3 (.slice pa1 (List.length p0.Mem) pc1) x2.2, SL (α := Int) 3 (.slice pa0 (List.length p0.Regs) pc0) x1.2, BX b1 28 [.int .i64 p0.Pc, .slice pa0 (List.length p0.Regs) pc0, .slice pa1 (List.length p0.Mem) pc1, .slice pa2 (List.length p0.Stack) pc2, .int .i64 p0.In, .slice pa3 (List.length p0.Out) pc3, .int .i64 p0.Code, .int .i64 p0.Steps], SL (α := Int) 3 (.slice pa3 (List.length p0.Out) pc3) p0.Out] w3 S3 := Sep.pick [3, 0, 1, 2, 4] hs (by decide) rfl
  obtain ⟨A3, R3, hsA, hsR, hdA, hbA, hup⟩ := Sep.call (L1 := [SL (α := Int) 3 (.slice pa2 (List.length p0.Stack) pc2) p0.Stack]) (L2 := [SL (α := Int) 3 (.slice pa1 (List.length p0.Mem) pc1) x2.2, SL (α := Int) 3 (.slice pa0 (List.length p0.Regs) pc0) x1.2, BX b1 28 [.int .i64 p0.Pc, .slice pa0 (List.length p0.Regs) pc0, .slice pa1 (List.length p0.Mem) pc1, .slice pa2 (List.length p0.Stack) pc2, .int .i64 p0.In, .slice pa3 (List.length p0.Out) pc3, .int .i64 p0.Code, .int .i64 p0.Steps], SL (α := Int) 3 (.slice pa3 (List.length p0.Out) pc3) p0.Out]) hs hM0
  refine s_call [.slice pa2 (List.length p0.Stack) pc2, .int .i64 x2.1] Try.call25 rfl rfl hF rfl (laws_markIntS_ok n p0.Stack x2.1 hx3 hsA hbA hdA) fun v w4 fr hRes hF => ?_
  obtain ⟨rfl, _, hp, hs⟩ := hRes
  obtain ⟨S4, hp, hs⟩ := hup hp hs
  have hM0 := hM0.stp hp
  have hs : Sep [SL (α := Int) 3 (.slice pa2 (List.length p0.Stack) pc2) x3.2, SL (α := Int) 3 (.slice pa1 (List.length p0.Mem) pc1) x2.2, SL (α := Int) 3 (.slice pa0 (List.length p0.Regs) pc0) x1.2, BX b1 28 [.int .i64 p0.Pc, .slice pa0 (List.length p0.Regs) pc0, .slice pa1 (List.length p0.Mem) pc1, .slice pa2 (List.length p0.Stack) pc2, .int .i64 p0.In, .slice pa3 (List.length p0.Out) pc3, .int .i64 p0.Code, .int .i64 p0.Steps], SL (α := Int) 3 (.slice pa3 (List.length p0.Out) pc3) p0.Out] w4 S4 := hs
  refine from_pure 1 [(1, .int .i64 x3.1), (2, .pointer (some ⟨b1, 0, none⟩))] hF (by kernel_rfl) fun fr hF => ?_
  refine from_end rfl (then_normal ?_)
  refine wp_seq (wp_text' ?_)
  refine from_pure 1 [(1, .int .i64 x3.1), (17, .pointer (some ⟨b1, 5, none⟩))] hF (by kernel_rfl) fun fr hF => ?_
  refine s_loadBox (.slice pa3 (List.length p0.Out) pc3) ty26 rfl rfl hF rfl (hs.bx 3 rfl) rfl rfl fun fr hF => ?_
  have hs : Sep [SL (α := Int) 3 (.slice pa2 (List.length p0.Stack) pc2) x3.2, SL (α := Int) 3 (.slice pa1 (List.length p0.Mem) pc1) x2.2, SL (α := Int) 3 (.slice pa0 (List.length p0.Regs) pc0) x1.2, SL (α := Int) 3 (.slice pa3 (List.length p0.Out) pc3) p0.Out] w4 S4 := Sep.pick [0, 1, 2, 4] hs (by decide) rfl
  refine from_pure 1 [(18, .slice pa3 (List.length p0.Out) pc3), (19, .int .i64 x3.1)] hF (by kernel_rfl) fun fr hF => ?_
  obtain ⟨x4, hx4, h⟩ := bindE h
  have hs : Sep [SL (α := Int) 3 (.slice pa3 (List.length p0.Out) pc3) p0.Out, SL (α := Int) 3 (.slice pa2 (List.length p0.Stack) pc2) x3.2, SL (α := Int) 3 (.slice pa1 (List.length p0.Mem) pc1) x2.2, SL (α := Int) 3 (.slice pa0 (List.length p0.Regs) pc0) x1.2] w4 S4 := Sep.pick [3, 0, 1, 2] hs (by decide) rfl
  obtain ⟨A4, R4, hsA, hsR, hdA, hbA, hup⟩ := Sep.call (L1 := [SL (α := Int) 3 (.slice pa3 (List.length p0.Out) pc3) p0.Out]) (L2 := [SL (α := Int) 3 (.slice pa2 (List.length p0.Stack) pc2) x3.2, SL (α := Int) 3 (.slice pa1 (List.length p0.Mem) pc1) x2.2, SL (α := Int) 3 (.slice pa0 (List.length p0.Regs) pc0) x1.2]) hs hM0
  refine s_call [.slice pa3 (List.length p0.Out) pc3, .int .i64 x3.1] Try.call25 rfl rfl hF rfl (laws_markIntS_ok n p0.Out x3.1 hx4 hsA hbA hdA) fun v w5 fr hRes hF => ?_
  obtain ⟨rfl, _, hp, hs⟩ := hRes
  obtain ⟨S5, hp, hs⟩ := hup hp hs
  have hM0 := hM0.stp hp
  have hs : Sep [SL (α := Int) 3 (.slice pa3 (List.length p0.Out) pc3) x4.2, SL (α := Int) 3 (.slice pa2 (List.length p0.Stack) pc2) x3.2, SL (α := Int) 3 (.slice pa1 (List.length p0.Mem) pc1) x2.2, SL (α := Int) 3 (.slice pa0 (List.length p0.Regs) pc0) x1.2] w5 S5 := hs
  refine from_pure 1 [(1, .int .i64 x4.1)] hF (by kernel_rfl) fun fr hF => ?_
  refine from_end rfl (then_normal ?_)
  refine wp_seq (wp_pure [(4, .int .i64 x4.1)] hF (by kernel_rfl) fun fr hF => then_normal ?_)
  obtain rfl := Option.some.inj h
  have hs : Sep [SL (α := Int) 3 (.slice pa0 (List.length p0.Regs) pc0) x1.2, SL (α := Int) 3 (.slice pa1 (List.length p0.Mem) pc1) x2.2, SL (α := Int) 3 (.slice pa2 (List.length p0.Stack) pc2) x3.2, SL (α := Int) 3 (.slice pa3 (List.length p0.Out) pc3) x4.2] w5 S5 := Sep.pick [3, 2, 1, 0] hs (by decide) rfl
  exact wp_ret (ret1 rfl hF rfl ⟨_, rfl, rfl, S5, hM0.out, hs⟩)

theorem laws_heldIntS_ok (n : Nat) (p0 : List Int) (p1 : Int) {r : Int} (h : laws_heldIntS n p0 p1 = some r) {w : World} {G0 : Nat → Prop} {va0 : Value} (ra0 : RV w G0 va0 p0) :
    Calls Try.prog 30 [va0, .int .i64 p1].toArray w fun e w' => ∃ v, e = .returned v ∧ v = .int .i64 r ∧ Chg Non w w' := by
  unfold laws_heldIntS at h
  have hs := Sep.nil w Non
  have hM0 : Mem w Non (fun k => (G0 k) ∧ k < w.heap.size) w Non (fun k => (G0 k) ∧ k < w.heap.size) := Mem.start (fun _ h => h.elim) (fun _ h => h.2) (fun _ h => h.elim)
  have ra0 := ra0.sub (F' := (fun k => (G0 k) ∧ k < w.heap.size)) (fun k hk h => ⟨h, hk⟩)
  obtain ⟨a1, c1, rfl, -⟩ := ra0.slice
  refine enter (N := 21) Try.func30 rfl Try.ntmps30 rfl fun fr hF => ?_
  refine wp_seq (wp_pure [(0, .slice a1 (List.length p0) c1), (1, .int .i64 p1)] hF (by kernel_rfl) fun fr hF => then_normal ?_)
  refine wp_seq ?_
  refine wp_seq (wp_pure [(0, .slice a1 (List.length p0) c1), (1, .int .i64 p1), (5, .int .i64 0)] hF (by kernel_rfl) fun fr hF => then_normal ?_)
  obtain ⟨rl1, hit1, h⟩ := bindE h
  have hk1 := h
  refine (wp_cut (M := fun fr w' => ∃ s, rl1 = .inl s ∧ ∃ S2 F2, FrS 21 [(1, .int .i64 s)] fr ∧ Mem w Non (fun k => (G0 k) ∧ k < w.heap.size) w' S2 F2 ∧ Sep [] w' S2) (wp_block (wp_iter (Inv := fun s1 fr w' => ∃ S1 F1, FrS 21 [(0, .slice a1 (List.length p0) c1), (1, .int .i64 s1.1), (5, .int .i64 s1.2)] fr ∧ Mem w Non (fun k => (G0 k) ∧ k < w.heap.size) w' S1 F1 ∧ Sep [] w' S1) hit1 ⟨Non, _, hF.sub _ (by kernel_rfl), (Mem.start hM0.bd hM0.bdF hM0.dj), hs⟩ fun s1 q1 fr w1i hI h hr1 => ?_)) fun fr w1o hM => ?_)
  · obtain ⟨S1, F1, hF, hM1, hs⟩ := hI
    have ra0 := ra0.mem hM1
    refine wp_seq ?_
    refine wp_seq (wp_pure [(0, .slice a1 (List.length p0) c1), (1, .int .i64 s1.1), (5, .int .i64 s1.2), (9, .bool (decide (s1.2 < (len p0))))] hF (by kernel_rfl) fun fr hF => then_normal ?_)
    refine (wp_if hF (b := (decide (s1.2 < (len p0)))) rfl (fun hb => ?_) (fun hb => ?_))
    · replace h := iteT hb h
      refine (wp_skip (then_normal ?_))
      refine wp_seq (wp_block ?_)
      refine wp_seq ?_
      refine wp_seq (wp_text' ?_)
      refine from_pure 2 [(0, .slice a1 (List.length p0) c1), (1, .int .i64 s1.1), (5, .int .i64 s1.2), (12, .slice a1 (List.length p0) c1), (13, .int .i64 s1.2)] hF (by kernel_rfl) fun fr hF => ?_
      obtain ⟨x1, hx1, h⟩ := bindE h
      refine s_elemF (z := x1) (.int .i64 x1) ty3 Try.underlying26 rfl rfl rfl rfl rfl hF rfl (ra0) rfl (get?_nn hx1) (get?_at hx1) rfl fun p fr hF => ?_
      refine from_pure 2 [(0, .slice a1 (List.length p0) c1), (1, .int .i64 s1.1), (5, .int .i64 s1.2), (17, .bool (x1 != s1.1))] hF (by kernel_rfl) fun fr hF => ?_
      refine from_end rfl (then_normal ?_)
      refine (wp_if hF (b := (x1 != s1.1)) rfl (fun hb => ?_) (fun hb => ?_))
      · replace h := iteT hb h
        refine wp_seq (wp_pure [(4, .int .i64 (-1))] hF (by kernel_rfl) fun fr hF => then_normal ?_)
        obtain rfl := hr1 _ (Option.some.inj h).symm
        obtain rfl := Option.some.inj hk1
        exact wp_ret (then_ret (blk_ret (then_ret (then_ret (blk_ret (then_ret (ret1 rfl hF rfl ⟨_, rfl, rfl, (hM0.trans hM1).chg⟩)))))))
      replace h := iteF hb h
      refine (wp_skip (then_normal ?_))
      refine (wp_pure [(0, .slice a1 (List.length p0) c1), (1, .int .i64 (w64 (s1.1 + 1))), (5, .int .i64 s1.2)] hF (by kernel_rfl) fun fr hF => ?_)
      refine blk_normal (then_normal ?_)
      refine (wp_pure [(0, .slice a1 (List.length p0) c1), (1, .int .i64 (w64 (s1.1 + 1))), (5, .int .i64 (w64 (s1.2 + 1)))] hF (by kernel_rfl) fun fr hF => then_normal ?_)
      exact ⟨_, (Option.some.inj h).symm, S1, _, hF.sub _ (by kernel_rfl), hM1, hs⟩
    replace h := iteF hb h
    refine (wp_exit (then_exit (then_exit (blk_exit_eq ?_))))
    obtain rfl := hr1 _ (Option.some.inj h).symm
    exact then_normal ⟨_, rfl, S1, _, hF.sub _ (by kernel_rfl), hM1, hs⟩
  · obtain ⟨s1r, rfl, hM⟩ := hM
    obtain ⟨S2, F2, hF, hMx, hs⟩ := hM
    have hM0 := hM0.trans hMx
    refine wp_seq (wp_pure [(4, .int .i64 s1r)] hF (by kernel_rfl) fun fr hF => then_normal ?_)
    obtain rfl := Option.some.inj h
    exact wp_ret (ret1 rfl hF rfl ⟨_, rfl, rfl, hM0.chg⟩)

theorem laws_heldState_ok (n : Nat) (p0 : D.State) (p1 : Int) {r : Int} (h : laws_heldState n p0 p1 = some r) {w : World} {G0 : Nat → Prop} {va0 : Value} (ra0 : RV w G0 va0 p0) :
    Calls Try.prog 18 [va0, .int .i64 p1].toArray w fun e w' => ∃ v, e = .returned v ∧ v = .int .i64 r ∧ Chg Non w w' := by
  unfold laws_heldState at h
  have hs := Sep.nil w Non
  have hM0 : Mem w Non (fun k => (G0 k) ∧ k < w.heap.size) w Non (fun k => (G0 k) ∧ k < w.heap.size) := Mem.start (fun _ h => h.elim) (fun _ h => h.2) (fun _ h => h.elim)
  have ra0 := ra0.sub (F' := (fun k => (G0 k) ∧ k < w.heap.size)) (fun k hk h => ⟨h, hk⟩)
  obtain ⟨v1, v2, v3, v4, rfl, r1, r2, r3, r4⟩ := RV.State ra0
  obtain ⟨a1, c1, rfl, -⟩ := r1.slice
  obtain ⟨a2, c2, rfl, -⟩ := r2.slice
  obtain ⟨a3, c3, rfl, -⟩ := r3.slice
  obtain ⟨a4, c4, rfl, -⟩ := r4.slice
  refine enter (N := 30) Try.func18 rfl Try.ntmps18 rfl fun fr hF => ?_
  refine wp_seq (wp_text' ?_)
  refine q_box hs hM0 [.int .i64 p0.Pc, .slice a1 (List.length p0.Regs) c1, .slice a2 (List.length p0.Mem) c2, .slice a3 (List.length p0.Stack) c3, .int .i64 p0.In, .slice a4 (List.length p0.Out) c4, .int .i64 p0.Code, .int .i64 p0.Steps] rfl rfl hF rfl rfl fun b1 w1 S1 fr hs hp hF => ?_
  have r1 := r1.stp hM0 hp
  have r2 := r2.stp hM0 hp
  have r3 := r3.stp hM0 hp
  have r4 := r4.stp hM0 hp
  have hM0 := hM0.stp hp
  have hs : Sep [BX b1 28 [.int .i64 p0.Pc, .slice a1 (List.length p0.Regs) c1, .slice a2 (List.length p0.Mem) c2, .slice a3 (List.length p0.Stack) c3, .int .i64 p0.In, .slice a4 (List.length p0.Out) c4, .int .i64 p0.Code, .int .i64 p0.Steps]] w1 S1 := hs
  refine from_pure 1 [(1, .int .i64 p1), (2, .pointer (some ⟨b1, 0, none⟩))] hF (by kernel_rfl) fun fr hF => ?_
  refine from_end rfl (then_normal ?_)
  refine wp_seq (wp_text' ?_)
  refine from_pure 1 [(1, .int .i64 p1), (2, .pointer (some ⟨b1, 0, none⟩)), (5, .pointer (some ⟨b1, 1, none⟩))] hF (by kernel_rfl) fun fr hF => ?_
  refine s_loadBox (.slice a1 (List.length p0.Regs) c1) ty26 rfl rfl hF rfl (hs.bx 0 rfl) rfl rfl fun fr hF => ?_
  refine from_pure 1 [(2, .pointer (some ⟨b1, 0, none⟩)), (6, .slice a1 (List.length p0.Regs) c1), (7, .int .i64 p1)] hF (by kernel_rfl) fun fr hF => ?_
  obtain ⟨x1, hx1, h⟩ := bindE h
  refine s_call [.slice a1 (List.length p0.Regs) c1, .int .i64 p1] Try.call30 rfl rfl hF rfl (laws_heldIntS_ok n p0.Regs p1 hx1 (r1)) fun v w2 fr hRes hF => ?_
  obtain ⟨rfl, hc⟩ := hRes
  have r1 := r1.ext hc
  have r2 := r2.ext hc
  have r3 := r3.ext hc
  have r4 := r4.ext hc
  have hs := hs.ext hc
  have hM0 := hM0.ext hc
  refine from_pure 1 [(1, .int .i64 x1), (2, .pointer (some ⟨b1, 0, none⟩))] hF (by kernel_rfl) fun fr hF => ?_
  refine from_end rfl (then_normal ?_)
  refine wp_seq ?_
  refine wp_seq (wp_pure [(1, .int .i64 x1), (2, .pointer (some ⟨b1, 0, none⟩)), (10, .bool (decide (x1 < 0)))] hF (by kernel_rfl) fun fr hF => then_normal ?_)
  refine (wp_if hF (b := (decide (x1 < 0))) rfl (fun hb => ?_) (fun hb => ?_))
  · replace h := iteT hb h
    have hs : Sep [] w2 S1 := Sep.pick [] hs (by decide) rfl
    refine wp_seq (wp_pure [(4, .int .i64 (-1))] hF (by kernel_rfl) fun fr hF => then_normal ?_)
    obtain rfl := Option.some.inj h
    exact wp_ret (then_ret (ret1 rfl hF rfl ⟨_, rfl, rfl, hM0.chg⟩))
  replace h := iteF hb h
  refine (wp_skip (then_normal ?_))
  refine wp_seq (wp_text' ?_)
  refine from_pure 1 [(1, .int .i64 x1), (2, .pointer (some ⟨b1, 0, none⟩)), (11, .pointer (some ⟨b1, 2, none⟩))] hF (by kernel_rfl) fun fr hF => ?_
  refine s_loadBox (.slice a2 (List.length p0.Mem) c2) ty26 rfl rfl hF rfl (hs.bx 0 rfl) rfl rfl fun fr hF => ?_
  refine from_pure 1 [(2, .pointer (some ⟨b1, 0, none⟩)), (12, .slice a2 (List.length p0.Mem) c2), (13, .int .i64 x1)] hF (by kernel_rfl) fun fr hF => ?_
  obtain ⟨x2, hx2, h⟩ := bindE h
  refine s_call [.slice a2 (List.length p0.Mem) c2, .int .i64 x1] Try.call30 rfl rfl hF rfl (laws_heldIntS_ok n p0.Mem x1 hx2 (r2)) fun v w3 fr hRes hF => ?_
  obtain ⟨rfl, hc⟩ := hRes
  have r2 := r2.ext hc
  have r1 := r1.ext hc
  have r3 := r3.ext hc
  have r4 := r4.ext hc
  have hs := hs.ext hc
  have hM0 := hM0.ext hc
  refine from_pure 1 [(1, .int .i64 x2), (2, .pointer (some ⟨b1, 0, none⟩))] hF (by kernel_rfl) fun fr hF => ?_
  refine from_end rfl (then_normal ?_)
  refine wp_seq ?_
  refine wp_seq (wp_pure [(1, .int .i64 x2), (2, .pointer (some ⟨b1, 0, none⟩)), (16, .bool (decide (x2 < 0)))] hF (by kernel_rfl) fun fr hF => then_normal ?_)
  refine (wp_if hF (b := (decide (x2 < 0))) rfl (fun hb => ?_) (fun hb => ?_))
  · replace h := iteT hb h
    have hs : Sep [] w3 S1 := Sep.pick [] hs (by decide) rfl
    refine wp_seq (wp_pure [(4, .int .i64 (-1))] hF (by kernel_rfl) fun fr hF => then_normal ?_)
    obtain rfl := Option.some.inj h
    exact wp_ret (then_ret (ret1 rfl hF rfl ⟨_, rfl, rfl, hM0.chg⟩))
  replace h := iteF hb h
  refine (wp_skip (then_normal ?_))
  refine wp_seq (wp_text' ?_)
  refine from_pure 1 [(1, .int .i64 x2), (2, .pointer (some ⟨b1, 0, none⟩)), (17, .pointer (some ⟨b1, 3, none⟩))] hF (by kernel_rfl) fun fr hF => ?_
  refine s_loadBox (.slice a3 (List.length p0.Stack) c3) ty26 rfl rfl hF rfl (hs.bx 0 rfl) rfl rfl fun fr hF => ?_
  refine from_pure 1 [(2, .pointer (some ⟨b1, 0, none⟩)), (18, .slice a3 (List.length p0.Stack) c3), (19, .int .i64 x2)] hF (by kernel_rfl) fun fr hF => ?_
  obtain ⟨x3, hx3, h⟩ := bindE h
  refine s_call [.slice a3 (List.length p0.Stack) c3, .int .i64 x2] Try.call30 rfl rfl hF rfl (laws_heldIntS_ok n p0.Stack x2 hx3 (r3)) fun v w4 fr hRes hF => ?_
  obtain ⟨rfl, hc⟩ := hRes
  have r3 := r3.ext hc
  have r1 := r1.ext hc
  have r2 := r2.ext hc
  have r4 := r4.ext hc
  have hs := hs.ext hc
  have hM0 := hM0.ext hc
  refine from_pure 1 [(1, .int .i64 x3), (2, .pointer (some ⟨b1, 0, none⟩))] hF (by kernel_rfl) fun fr hF => ?_
  refine from_end rfl (then_normal ?_)
  refine wp_seq ?_
  refine wp_seq (wp_pure [(1, .int .i64 x3), (2, .pointer (some ⟨b1, 0, none⟩)), (22, .bool (decide (x3 < 0)))] hF (by kernel_rfl) fun fr hF => then_normal ?_)
  refine (wp_if hF (b := (decide (x3 < 0))) rfl (fun hb => ?_) (fun hb => ?_))
  · replace h := iteT hb h
    have hs : Sep [] w4 S1 := Sep.pick [] hs (by decide) rfl
    refine wp_seq (wp_pure [(4, .int .i64 (-1))] hF (by kernel_rfl) fun fr hF => then_normal ?_)
    obtain rfl := Option.some.inj h
    exact wp_ret (then_ret (ret1 rfl hF rfl ⟨_, rfl, rfl, hM0.chg⟩))
  replace h := iteF hb h
  refine (wp_skip (then_normal ?_))
  refine wp_seq (wp_text' ?_)
  refine from_pure 1 [(1, .int .i64 x3), (23, .pointer (some ⟨b1, 5, none⟩))] hF (by kernel_rfl) fun fr hF => ?_
  refine s_loadBox (.slice a4 (List.length p0.Out) c4) ty26 rfl rfl hF rfl (hs.bx 0 rfl) rfl rfl fun fr hF => ?_
  have hs : Sep [] w4 S1 := Sep.pick [] hs (by decide) rfl
  refine from_pure 1 [(24, .slice a4 (List.length p0.Out) c4), (25, .int .i64 x3)] hF (by kernel_rfl) fun fr hF => ?_
  obtain ⟨x4, hx4, h⟩ := bindE h
  refine s_call [.slice a4 (List.length p0.Out) c4, .int .i64 x3] Try.call30 rfl rfl hF rfl (laws_heldIntS_ok n p0.Out x3 hx4 (r4)) fun v w5 fr hRes hF => ?_
  obtain ⟨rfl, hc⟩ := hRes
  have r4 := r4.ext hc
  have hs := hs.ext hc
  have hM0 := hM0.ext hc
  refine from_pure 1 [(1, .int .i64 x4)] hF (by kernel_rfl) fun fr hF => ?_
  refine from_end rfl (then_normal ?_)
  refine wp_seq ?_
  refine wp_seq (wp_pure [(1, .int .i64 x4), (28, .bool (decide (x4 < 0)))] hF (by kernel_rfl) fun fr hF => then_normal ?_)
  refine (wp_if hF (b := (decide (x4 < 0))) rfl (fun hb => ?_) (fun hb => ?_))
  · replace h := iteT hb h
    refine wp_seq (wp_pure [(4, .int .i64 (-1))] hF (by kernel_rfl) fun fr hF => then_normal ?_)
    obtain rfl := Option.some.inj h
    exact wp_ret (then_ret (ret1 rfl hF rfl ⟨_, rfl, rfl, hM0.chg⟩))
  replace h := iteF hb h
  refine (wp_skip (then_normal ?_))
  refine wp_seq (wp_pure [(4, .int .i64 x4)] hF (by kernel_rfl) fun fr hF => then_normal ?_)
  obtain rfl := Option.some.inj h
  exact wp_ret (ret1 rfl hF rfl ⟨_, rfl, rfl, hM0.chg⟩)

theorem laws_FnExactRunProgram_ok (n : Nat) (p0 : D.Program) (p1 : List Int) (p2 : Int) {r : Bool} (h : laws_FnExactRunProgram n p0 p1 p2 = some r) {w : World} {G0 : Nat → Prop} {va0 : Value} (ra0 : RV w G0 va0 p0) {G1 : Nat → Prop} {va1 : Value} (ra1 : RV w G1 va1 p1) :
    Calls Try.prog 5 [va0, va1, .int .i64 p2].toArray w fun e w' => ∃ v, e = .returned v ∧ v = .bool r ∧ Chg Non w w' := by
  unfold laws_FnExactRunProgram at h
  have hs := Sep.nil w Non
  have hM0 : Mem w Non (fun k => (G0 k ∨ G1 k) ∧ k < w.heap.size) w Non (fun k => (G0 k ∨ G1 k) ∧ k < w.heap.size) := Mem.start (fun _ h => h.elim) (fun _ h => h.2) (fun _ h => h.elim)
  have ra0 := ra0.sub (F' := (fun k => (G0 k ∨ G1 k) ∧ k < w.heap.size)) (fun k hk h => ⟨.inl h, hk⟩)
  obtain ⟨v1, rfl, r1⟩ := RV.Program ra0
  obtain ⟨a1, c1, rfl, -⟩ := r1.slice
  have ra1 := ra1.sub (F' := (fun k => (G0 k ∨ G1 k) ∧ k < w.heap.size)) (fun k hk h => ⟨.inr (h), hk⟩)
  obtain ⟨a2, c2, rfl, -⟩ := ra1.slice
  refine enter (N := 95) Try.func5 rfl Try.ntmps5 rfl fun fr hF => ?_
  refine wp_seq (wp_text' ?_)
  refine q_box hs hM0 [.int .i64 p0.W, .int .i64 p0.Mem, .int .i64 p0.In, .slice a1 (List.length p0.Code) c1] rfl rfl hF rfl rfl fun b1 w1 S1 fr hs hp hF => ?_
  have r1 := r1.stp hM0 hp
  have ra1 := ra1.stp hM0 hp
  have hM0 := hM0.stp hp
  have hs : Sep [BX b1 24 [.int .i64 p0.W, .int .i64 p0.Mem, .int .i64 p0.In, .slice a1 (List.length p0.Code) c1]] w1 S1 := hs
  refine from_pure 1 [(1, .slice a2 (List.length p1) c2), (2, .int .i64 p2), (3, .pointer (some ⟨b1, 0, none⟩))] hF (by kernel_rfl) fun fr hF => ?_
  refine from_end rfl (then_normal ?_)
  refine wp_seq ?_
  refine wp_seq (wp_pure [(1, .slice a2 (List.length p1) c2), (2, .int .i64 p2), (3, .pointer (some ⟨b1, 0, none⟩)), (18, .bool (decide ((len p1) > 1048576)))] hF (by kernel_rfl) fun fr hF => then_normal ?_)
  refine (wp_if hF (b := (decide ((len p1) > 1048576))) rfl (fun hb => ?_) (fun hb => ?_))
  · replace h := iteT hb h
    have hs : Sep [] w1 S1 := Sep.pick [] hs (by decide) rfl
    refine wp_seq (wp_pure [(6, .bool true)] hF (by kernel_rfl) fun fr hF => then_normal ?_)
    obtain rfl := Option.some.inj h
    exact wp_ret (then_ret (ret1 rfl hF rfl ⟨_, rfl, rfl, hM0.chg⟩))
  replace h := iteF hb h
  refine (wp_skip (then_normal ?_))
  refine wp_seq (wp_pure [(1, .slice a2 (List.length p1) c2), (2, .int .i64 p2), (3, .pointer (some ⟨b1, 0, none⟩)), (7, .int .i64 1048576)] hF (by kernel_rfl) fun fr hF => then_normal ?_)
  refine wp_seq (wp_text' ?_)
  refine s_loadBoxS ty24 rfl rfl hF rfl (hs.bx 0 rfl) rfl rfl fun fr hF => ?_
  refine from_pure 1 [(1, .slice a2 (List.length p1) c2), (2, .int .i64 p2), (3, .pointer (some ⟨b1, 0, none⟩)), (19, .agg #[.int .i64 p0.W, .int .i64 p0.Mem, .int .i64 p0.In, .slice a1 (List.length p0.Code) c1]), (20, .int .i64 1048576)] hF (by kernel_rfl) fun fr hF => ?_
  obtain ⟨x1, hx1, h⟩ := bindE h
  refine s_call [.agg #[.int .i64 p0.W, .int .i64 p0.Mem, .int .i64 p0.In, .slice a1 (List.length p0.Code) c1], .int .i64 1048576] Try.call10 rfl rfl hF rfl (laws_szProgram_ok p0 1048576 hx1 (RV.mk_Program p0 (r1))) fun v w2 fr hRes hF => ?_
  obtain ⟨rfl, hc⟩ := hRes
  have ra1 := ra1.ext hc
  have r1 := r1.ext hc
  have hs := hs.ext hc
  have hM0 := hM0.ext hc
  refine from_pure 1 [(1, .slice a2 (List.length p1) c2), (2, .int .i64 p2), (3, .pointer (some ⟨b1, 0, none⟩)), (7, .int .i64 x1)] hF (by kernel_rfl) fun fr hF => ?_
  refine from_end rfl (then_normal ?_)
  refine wp_seq ?_
  refine wp_seq (wp_pure [(1, .slice a2 (List.length p1) c2), (2, .int .i64 p2), (3, .pointer (some ⟨b1, 0, none⟩)), (23, .bool (decide (x1 < 0)))] hF (by kernel_rfl) fun fr hF => then_normal ?_)
  refine (wp_if hF (b := (decide (x1 < 0))) rfl (fun hb => ?_) (fun hb => ?_))
  · replace h := iteT hb h
    have hs : Sep [] w2 S1 := Sep.pick [] hs (by decide) rfl
    refine wp_seq (wp_pure [(6, .bool true)] hF (by kernel_rfl) fun fr hF => then_normal ?_)
    obtain rfl := Option.some.inj h
    exact wp_ret (then_ret (ret1 rfl hF rfl ⟨_, rfl, rfl, hM0.chg⟩))
  replace h := iteF hb h
  refine (wp_skip (then_normal ?_))
  refine wp_seq (wp_text' ?_)
  refine s_loadBoxS ty24 rfl rfl hF rfl (hs.bx 0 rfl) rfl rfl fun fr hF => ?_
  obtain ⟨x2, hx2, h⟩ := bindE h
  refine s_call [.agg #[.int .i64 p0.W, .int .i64 p0.Mem, .int .i64 p0.In, .slice a1 (List.length p0.Code) c1]] Try.call12 rfl rfl hF rfl (laws_toProgram_ok n p0 hx2 (RV.mk_Program p0 (r1))) fun v w3 fr hRes hF => ?_
  obtain ⟨a3, c3, rfl, _, hp, hs2⟩ := hRes
  obtain ⟨S2, hp, hs⟩ := hs.got hM0 hp hs2
  have ra1 := ra1.stp hM0 hp
  have r1 := r1.stp hM0 hp
  have hM0 := hM0.stp hp
  have hs : Sep [SL (α := D.Ins) 66 (.slice a3 (List.length x2.Code) c3) x2.Code, BX b1 24 [.int .i64 p0.W, .int .i64 p0.Mem, .int .i64 p0.In, .slice a1 (List.length p0.Code) c1]] w3 S2 := hs
  refine from_pure 1 [(1, .slice a2 (List.length p1) c2), (2, .int .i64 p2), (3, .pointer (some ⟨b1, 0, none⟩)), (25, .agg #[.int .i64 x2.W, .int .i64 x2.Mem, .int .i64 x2.In, .slice a3 (List.length x2.Code) c3]), (26, .slice a2 (List.length p1) c2)] hF (by kernel_rfl) fun fr hF => ?_
  obtain ⟨x3, hx3, h⟩ := bindE h
  refine s_call [.slice a2 (List.length p1) c2] Try.call22 rfl rfl hF rfl (laws_toIntS_ok n p1 hx3 (ra1)) fun v w4 fr hRes hF => ?_
  obtain ⟨a4, c4, rfl, _, hp, hs2⟩ := hRes
  obtain ⟨S3, hp, hs⟩ := hs.got hM0 hp hs2
  have ra1 := ra1.stp hM0 hp
  have r1 := r1.stp hM0 hp
  have hM0 := hM0.stp hp
  have hs : Sep [SL (α := Int) 3 (.slice a4 (List.length x3) c4) x3, SL (α := D.Ins) 66 (.slice a3 (List.length x2.Code) c3) x2.Code, BX b1 24 [.int .i64 p0.W, .int .i64 p0.Mem, .int .i64 p0.In, .slice a1 (List.length p0.Code) c1]] w4 S3 := hs
  refine from_pure 1 [(1, .slice a2 (List.length p1) c2), (2, .int .i64 p2), (3, .pointer (some ⟨b1, 0, none⟩)), (25, .agg #[.int .i64 x2.W, .int .i64 x2.Mem, .int .i64 x2.In, .slice a3 (List.length x2.Code) c3]), (27, .slice a4 (List.length x3) c4), (28, .int .i64 p2)] hF (by kernel_rfl) fun fr hF => ?_
  obtain ⟨x4, hx4, h⟩ := bindE h
  refine s_call [.agg #[.int .i64 x2.W, .int .i64 x2.Mem, .int .i64 x2.In, .slice a3 (List.length x2.Code) c3], .slice a4 (List.length x3) c4, .int .i64 p2] Try.call26 rfl rfl hF rfl (spec_RunProgram_ok n x2 x3 p2 hx4 (RV.mk_Program x2 (RV.any (hs.rv 1 rfl))) (hs.rv 0 rfl)) fun v w5 fr hRes hF => ?_
  obtain ⟨a5, c5, a6, c6, a7, c7, a8, c8, rfl, _, hp, hs2⟩ := hRes
  obtain ⟨S4, hp, hs⟩ := hs.got hM0 hp hs2
  have ra1 := ra1.stp hM0 hp
  have r1 := r1.stp hM0 hp
  have hM0 := hM0.stp hp
  have hs : Sep [SL (α := Int) 3 (.slice a5 (List.length x4.Regs) c5) x4.Regs, SL (α := Int) 3 (.slice a6 (List.length x4.Mem) c6) x4.Mem, SL (α := Int) 3 (.slice a7 (List.length x4.Stack) c7) x4.Stack, SL (α := Int) 3 (.slice a8 (List.length x4.Out) c8) x4.Out, SL (α := Int) 3 (.slice a4 (List.length x3) c4) x3, SL (α := D.Ins) 66 (.slice a3 (List.length x2.Code) c3) x2.Code, BX b1 24 [.int .i64 p0.W, .int .i64 p0.Mem, .int .i64 p0.In, .slice a1 (List.length p0.Code) c1]] w5 S4 := hs
  have hs : Sep [SL (α := Int) 3 (.slice a5 (List.length x4.Regs) c5) x4.Regs, SL (α := Int) 3 (.slice a6 (List.length x4.Mem) c6) x4.Mem, SL (α := Int) 3 (.slice a7 (List.length x4.Stack) c7) x4.Stack, SL (α := Int) 3 (.slice a8 (List.length x4.Out) c8) x4.Out, BX b1 24 [.int .i64 p0.W, .int .i64 p0.Mem, .int .i64 p0.In, .slice a1 (List.length p0.Code) c1]] w5 S4 := Sep.pick [0, 1, 2, 3, 6] hs (by decide) rfl
  refine q_alloc (z := .agg #[.int .i64 0, .slice none (List.length ([] : List Int)) 0, .slice none (List.length ([] : List Int)) 0, .slice none (List.length ([] : List Int)) 0, .int .i64 0, .slice none (List.length ([] : List Int)) 0, .int .i64 0, .int .i64 0]) hs hM0 [.int .i64 0, .slice none (List.length ([] : List Int)) 0, .slice none (List.length ([] : List Int)) 0, .slice none (List.length ([] : List Int)) 0, .int .i64 0, .slice none (List.length ([] : List Int)) 0, .int .i64 0, .int .i64 0] rfl rfl hF (by kernel_rfl) rfl fun b2 w6 S5 fr hs hp hF => ?_
  have ra1 := ra1.stp hM0 hp
  have r1 := r1.stp hM0 hp
  have hM0 := hM0.stp hp
  have hs : Sep [BX b2 28 [.int .i64 0, .slice none (List.length ([] : List Int)) 0, .slice none (List.length ([] : List Int)) 0, .slice none (List.length ([] : List Int)) 0, .int .i64 0, .slice none (List.length ([] : List Int)) 0, .int .i64 0, .int .i64 0], SL (α := Int) 3 (.slice a5 (List.length x4.Regs) c5) x4.Regs, SL (α := Int) 3 (.slice a6 (List.length x4.Mem) c6) x4.Mem, SL (α := Int) 3 (.slice a7 (List.length x4.Stack) c7) x4.Stack, SL (α := Int) 3 (.slice a8 (List.length x4.Out) c8) x4.Out, BX b1 24 [.int .i64 p0.W, .int .i64 p0.Mem, .int .i64 p0.In, .slice a1 (List.length p0.Code) c1]] w6 S5 := hs
  refine q_storeBoxS 0 hs hM0 rfl [.int .i64 x4.Pc, .slice a5 (List.length x4.Regs) c5, .slice a6 (List.length x4.Mem) c6, .slice a7 (List.length x4.Stack) c7, .int .i64 x4.In, .slice a8 (List.length x4.Out) c8, .int .i64 x4.Code, .int .i64 x4.Steps] rfl hF rfl rfl (by kernel_rfl) rfl rfl rfl fun w7 S6 hs hp hF => ?_
  have ra1 := ra1.stp hM0 hp
  have r1 := r1.stp hM0 hp
  have hM0 := hM0.stp hp
  have hs : Sep [BX b2 28 [.int .i64 x4.Pc, .slice a5 (List.length x4.Regs) c5, .slice a6 (List.length x4.Mem) c6, .slice a7 (List.length x4.Stack) c7, .int .i64 x4.In, .slice a8 (List.length x4.Out) c8, .int .i64 x4.Code, .int .i64 x4.Steps], SL (α := Int) 3 (.slice a5 (List.length x4.Regs) c5) x4.Regs, SL (α := Int) 3 (.slice a6 (List.length x4.Mem) c6) x4.Mem, SL (α := Int) 3 (.slice a7 (List.length x4.Stack) c7) x4.Stack, SL (α := Int) 3 (.slice a8 (List.length x4.Out) c8) x4.Out, BX b1 24 [.int .i64 p0.W, .int .i64 p0.Mem, .int .i64 p0.In, .slice a1 (List.length p0.Code) c1]] w7 S6 := hs
  refine from_end rfl (then_normal ?_)
  refine wp_seq (wp_text' ?_)
  refine s_loadBoxS ty24 rfl rfl hF rfl (hs.bx 5 rfl) rfl rfl fun fr hF => ?_
  obtain ⟨x5, hx5, h⟩ := bindE h
  refine s_call [.agg #[.int .i64 p0.W, .int .i64 p0.Mem, .int .i64 p0.In, .slice a1 (List.length p0.Code) c1]] Try.call12 rfl rfl hF rfl (laws_toProgram_ok n p0 hx5 (RV.mk_Program p0 (r1))) fun v w8 fr hRes hF => ?_
  obtain ⟨a9, c9, rfl, _, hp, hs2⟩ := hRes
  obtain ⟨S7, hp, hs⟩ := hs.got hM0 hp hs2
  have ra1 := ra1.stp hM0 hp
  have r1 := r1.stp hM0 hp
  have hM0 := hM0.stp hp
  have hs : Sep [SL (α := D.Ins) 66 (.slice a9 (List.length x5.Code) c9) x5.Code, BX b2 28 [.int .i64 x4.Pc, .slice a5 (List.length x4.Regs) c5, .slice a6 (List.length x4.Mem) c6, .slice a7 (List.length x4.Stack) c7, .int .i64 x4.In, .slice a8 (List.length x4.Out) c8, .int .i64 x4.Code, .int .i64 x4.Steps], SL (α := Int) 3 (.slice a5 (List.length x4.Regs) c5) x4.Regs, SL (α := Int) 3 (.slice a6 (List.length x4.Mem) c6) x4.Mem, SL (α := Int) 3 (.slice a7 (List.length x4.Stack) c7) x4.Stack, SL (α := Int) 3 (.slice a8 (List.length x4.Out) c8) x4.Out, BX b1 24 [.int .i64 p0.W, .int .i64 p0.Mem, .int .i64 p0.In, .slice a1 (List.length p0.Code) c1]] w8 S7 := hs
  refine q_alloc (z := .agg #[.int .i64 0, .int .i64 0, .int .i64 0, .slice none (List.length ([] : List D.Ins)) 0]) hs hM0 [.int .i64 0, .int .i64 0, .int .i64 0, .slice none (List.length ([] : List D.Ins)) 0] rfl rfl hF (by kernel_rfl) rfl fun b3 w9 S8 fr hs hp hF => ?_
  have ra1 := ra1.stp hM0 hp
  have r1 := r1.stp hM0 hp
  have hM0 := hM0.stp hp
  have hs : Sep [BX b3 32 [.int .i64 0, .int .i64 0, .int .i64 0, .slice none (List.length ([] : List D.Ins)) 0], SL (α := D.Ins) 66 (.slice a9 (List.length x5.Code) c9) x5.Code, BX b2 28 [.int .i64 x4.Pc, .slice a5 (List.length x4.Regs) c5, .slice a6 (List.length x4.Mem) c6, .slice a7 (List.length x4.Stack) c7, .int .i64 x4.In, .slice a8 (List.length x4.Out) c8, .int .i64 x4.Code, .int .i64 x4.Steps], SL (α := Int) 3 (.slice a5 (List.length x4.Regs) c5) x4.Regs, SL (α := Int) 3 (.slice a6 (List.length x4.Mem) c6) x4.Mem, SL (α := Int) 3 (.slice a7 (List.length x4.Stack) c7) x4.Stack, SL (α := Int) 3 (.slice a8 (List.length x4.Out) c8) x4.Out, BX b1 24 [.int .i64 p0.W, .int .i64 p0.Mem, .int .i64 p0.In, .slice a1 (List.length p0.Code) c1]] w9 S8 := hs
  refine q_storeBoxS 0 hs hM0 rfl [.int .i64 x5.W, .int .i64 x5.Mem, .int .i64 x5.In, .slice a9 (List.length x5.Code) c9] rfl hF rfl rfl (by kernel_rfl) rfl rfl rfl fun w10 S9 hs hp hF => ?_
  have ra1 := ra1.stp hM0 hp
  have r1 := r1.stp hM0 hp
  have hM0 := hM0.stp hp
  have hs : Sep [BX b3 32 [.int .i64 x5.W, .int .i64 x5.Mem, .int .i64 x5.In, .slice a9 (List.length x5.Code) c9], SL (α := D.Ins) 66 (.slice a9 (List.length x5.Code) c9) x5.Code, BX b2 28 [.int .i64 x4.Pc, .slice a5 (List.length x4.Regs) c5, .slice a6 (List.length x4.Mem) c6, .slice a7 (List.length x4.Stack) c7, .int .i64 x4.In, .slice a8 (List.length x4.Out) c8, .int .i64 x4.Code, .int .i64 x4.Steps], SL (α := Int) 3 (.slice a5 (List.length x4.Regs) c5) x4.Regs, SL (α := Int) 3 (.slice a6 (List.length x4.Mem) c6) x4.Mem, SL (α := Int) 3 (.slice a7 (List.length x4.Stack) c7) x4.Stack, SL (α := Int) 3 (.slice a8 (List.length x4.Out) c8) x4.Out, BX b1 24 [.int .i64 p0.W, .int .i64 p0.Mem, .int .i64 p0.In, .slice a1 (List.length p0.Code) c1]] w10 S9 := hs
  refine from_end rfl (then_normal ?_)
  refine wp_seq (wp_text' ?_)
  refine from_pure 1 [(1, .slice a2 (List.length p1) c2), (2, .int .i64 p2), (3, .pointer (some ⟨b1, 0, none⟩)), (8, .pointer (some ⟨b2, 0, none⟩)), (9, .pointer (some ⟨b3, 0, none⟩)), (32, .slice a2 (List.length p1) c2)] hF (by kernel_rfl) fun fr hF => ?_
  obtain ⟨x6, hx6, h⟩ := bindE h
  refine s_call [.slice a2 (List.length p1) c2] Try.call22 rfl rfl hF rfl (laws_toIntS_ok n p1 hx6 (ra1)) fun v w11 fr hRes hF => ?_
  obtain ⟨a10, c10, rfl, _, hp, hs2⟩ := hRes
  obtain ⟨S10, hp, hs⟩ := hs.got hM0 hp hs2
  have ra1 := ra1.stp hM0 hp
  have r1 := r1.stp hM0 hp
  have hM0 := hM0.stp hp
  have hs : Sep [SL (α := Int) 3 (.slice a10 (List.length x6) c10) x6, BX b3 32 [.int .i64 x5.W, .int .i64 x5.Mem, .int .i64 x5.In, .slice a9 (List.length x5.Code) c9], SL (α := D.Ins) 66 (.slice a9 (List.length x5.Code) c9) x5.Code, BX b2 28 [.int .i64 x4.Pc, .slice a5 (List.length x4.Regs) c5, .slice a6 (List.length x4.Mem) c6, .slice a7 (List.length x4.Stack) c7, .int .i64 x4.In, .slice a8 (List.length x4.Out) c8, .int .i64 x4.Code, .int .i64 x4.Steps], SL (α := Int) 3 (.slice a5 (List.length x4.Regs) c5) x4.Regs, SL (α := Int) 3 (.slice a6 (List.length x4.Mem) c6) x4.Mem, SL (α := Int) 3 (.slice a7 (List.length x4.Stack) c7) x4.Stack, SL (α := Int) 3 (.slice a8 (List.length x4.Out) c8) x4.Out, BX b1 24 [.int .i64 p0.W, .int .i64 p0.Mem, .int .i64 p0.In, .slice a1 (List.length p0.Code) c1]] w11 S10 := hs
  refine from_pure 1 [(1, .slice a2 (List.length p1) c2), (2, .int .i64 p2), (3, .pointer (some ⟨b1, 0, none⟩)), (8, .pointer (some ⟨b2, 0, none⟩)), (9, .pointer (some ⟨b3, 0, none⟩)), (10, .slice a10 (List.length x6) c10)] hF (by kernel_rfl) fun fr hF => ?_
  refine from_end rfl (then_normal ?_)
  refine wp_seq (wp_text' ?_)
  refine s_loadBoxS ty32 rfl rfl hF rfl (hs.bx 1 rfl) rfl rfl fun fr hF => ?_
  refine from_pure 2 [(1, .slice a2 (List.length p1) c2), (2, .int .i64 p2), (3, .pointer (some ⟨b1, 0, none⟩)), (8, .pointer (some ⟨b2, 0, none⟩)), (9, .pointer (some ⟨b3, 0, none⟩)), (10, .slice a10 (List.length x6) c10), (34, .agg #[.int .i64 x5.W, .int .i64 x5.Mem, .int .i64 x5.In, .slice a9 (List.length x5.Code) c9]), (35, .slice a10 (List.length x6) c10), (36, .int .i64 p2)] hF (by kernel_rfl) fun fr hF => ?_
  obtain ⟨x7, hx7, h⟩ := bindE h
  refine s_call [.agg #[.int .i64 x5.W, .int .i64 x5.Mem, .int .i64 x5.In, .slice a9 (List.length x5.Code) c9], .slice a10 (List.length x6) c10, .int .i64 p2] Try.call27 rfl rfl hF rfl (impl_RunProgram_ok n x5 x6 p2 hx7 (RV.mk_Program x5 (RV.any (hs.rv 2 rfl))) (hs.rv 0 rfl)) fun v w12 fr hRes hF => ?_
  obtain ⟨a11, c11, a12, c12, a13, c13, a14, c14, rfl, _, hp, hs2⟩ := hRes
  obtain ⟨S11, hp, hs⟩ := hs.got hM0 hp hs2
  have ra1 := ra1.stp hM0 hp
  have r1 := r1.stp hM0 hp
  have hM0 := hM0.stp hp
  have hs : Sep [SL (α := Int) 3 (.slice a11 (List.length x7.Regs) c11) x7.Regs, SL (α := Int) 3 (.slice a12 (List.length x7.Mem) c12) x7.Mem, SL (α := Int) 3 (.slice a13 (List.length x7.Stack) c13) x7.Stack, SL (α := Int) 3 (.slice a14 (List.length x7.Out) c14) x7.Out, SL (α := Int) 3 (.slice a10 (List.length x6) c10) x6, BX b3 32 [.int .i64 x5.W, .int .i64 x5.Mem, .int .i64 x5.In, .slice a9 (List.length x5.Code) c9], SL (α := D.Ins) 66 (.slice a9 (List.length x5.Code) c9) x5.Code, BX b2 28 [.int .i64 x4.Pc, .slice a5 (List.length x4.Regs) c5, .slice a6 (List.length x4.Mem) c6, .slice a7 (List.length x4.Stack) c7, .int .i64 x4.In, .slice a8 (List.length x4.Out) c8, .int .i64 x4.Code, .int .i64 x4.Steps], SL (α := Int) 3 (.slice a5 (List.length x4.Regs) c5) x4.Regs, SL (α := Int) 3 (.slice a6 (List.length x4.Mem) c6) x4.Mem, SL (α := Int) 3 (.slice a7 (List.length x4.Stack) c7) x4.Stack, SL (α := Int) 3 (.slice a8 (List.length x4.Out) c8) x4.Out, BX b1 24 [.int .i64 p0.W, .int .i64 p0.Mem, .int .i64 p0.In, .slice a1 (List.length p0.Code) c1]] w12 S11 := hs
  refine q_alloc (z := .agg #[.int .i64 0, .slice none (List.length ([] : List Int)) 0, .slice none (List.length ([] : List Int)) 0, .slice none (List.length ([] : List Int)) 0, .int .i64 0, .slice none (List.length ([] : List Int)) 0, .int .i64 0, .int .i64 0]) hs hM0 [.int .i64 0, .slice none (List.length ([] : List Int)) 0, .slice none (List.length ([] : List Int)) 0, .slice none (List.length ([] : List Int)) 0, .int .i64 0, .slice none (List.length ([] : List Int)) 0, .int .i64 0, .int .i64 0] rfl rfl hF (by kernel_rfl) rfl fun b4 w13 S12 fr hs hp hF => ?_
  have ra1 := ra1.stp hM0 hp
  have r1 := r1.stp hM0 hp
  have hM0 := hM0.stp hp
  have hs : Sep [BX b4 28 [.int .i64 0, .slice none (List.length ([] : List Int)) 0, .slice none (List.length ([] : List Int)) 0, .slice none (List.length ([] : List Int)) 0, .int .i64 0, .slice none (List.length ([] : List Int)) 0, .int .i64 0, .int .i64 0], SL (α := Int) 3 (.slice a11 (List.length x7.Regs) c11) x7.Regs, SL (α := Int) 3 (.slice a12 (List.length x7.Mem) c12) x7.Mem, SL (α := Int) 3 (.slice a13 (List.length x7.Stack) c13) x7.Stack, SL (α := Int) 3 (.slice a14 (List.length x7.Out) c14) x7.Out, SL (α := Int) 3 (.slice a10 (List.length x6) c10) x6, BX b3 32 [.int .i64 x5.W, .int .i64 x5.Mem, .int .i64 x5.In, .slice a9 (List.length x5.Code) c9], SL (α := D.Ins) 66 (.slice a9 (List.length x5.Code) c9) x5.Code, BX b2 28 [.int .i64 x4.Pc, .slice a5 (List.length x4.Regs) c5, .slice a6 (List.length x4.Mem) c6, .slice a7 (List.length x4.Stack) c7, .int .i64 x4.In, .slice a8 (List.length x4.Out) c8, .int .i64 x4.Code, .int .i64 x4.Steps], SL (α := Int) 3 (.slice a5 (List.length x4.Regs) c5) x4.Regs, SL (α := Int) 3 (.slice a6 (List.length x4.Mem) c6) x4.Mem, SL (α := Int) 3 (.slice a7 (List.length x4.Stack) c7) x4.Stack, SL (α := Int) 3 (.slice a8 (List.length x4.Out) c8) x4.Out, BX b1 24 [.int .i64 p0.W, .int .i64 p0.Mem, .int .i64 p0.In, .slice a1 (List.length p0.Code) c1]] w13 S12 := hs
  refine q_storeBoxS 0 hs hM0 rfl [.int .i64 x7.Pc, .slice a11 (List.length x7.Regs) c11, .slice a12 (List.length x7.Mem) c12, .slice a13 (List.length x7.Stack) c13, .int .i64 x7.In, .slice a14 (List.length x7.Out) c14, .int .i64 x7.Code, .int .i64 x7.Steps] rfl hF rfl rfl (by kernel_rfl) rfl rfl rfl fun w14 S13 hs hp hF => ?_
  have ra1 := ra1.stp hM0 hp
  have r1 := r1.stp hM0 hp
  have hM0 := hM0.stp hp
  have hs : Sep [BX b4 28 [.int .i64 x7.Pc, .slice a11 (List.length x7.Regs) c11, .slice a12 (List.length x7.Mem) c12, .slice a13 (List.length x7.Stack) c13, .int .i64 x7.In, .slice a14 (List.length x7.Out) c14, .int .i64 x7.Code, .int .i64 x7.Steps], SL (α := Int) 3 (.slice a11 (List.length x7.Regs) c11) x7.Regs, SL (α := Int) 3 (.slice a12 (List.length x7.Mem) c12) x7.Mem, SL (α := Int) 3 (.slice a13 (List.length x7.Stack) c13) x7.Stack, SL (α := Int) 3 (.slice a14 (List.length x7.Out) c14) x7.Out, SL (α := Int) 3 (.slice a10 (List.length x6) c10) x6, BX b3 32 [.int .i64 x5.W, .int .i64 x5.Mem, .int .i64 x5.In, .slice a9 (List.length x5.Code) c9], SL (α := D.Ins) 66 (.slice a9 (List.length x5.Code) c9) x5.Code, BX b2 28 [.int .i64 x4.Pc, .slice a5 (List.length x4.Regs) c5, .slice a6 (List.length x4.Mem) c6, .slice a7 (List.length x4.Stack) c7, .int .i64 x4.In, .slice a8 (List.length x4.Out) c8, .int .i64 x4.Code, .int .i64 x4.Steps], SL (α := Int) 3 (.slice a5 (List.length x4.Regs) c5) x4.Regs, SL (α := Int) 3 (.slice a6 (List.length x4.Mem) c6) x4.Mem, SL (α := Int) 3 (.slice a7 (List.length x4.Stack) c7) x4.Stack, SL (α := Int) 3 (.slice a8 (List.length x4.Out) c8) x4.Out, BX b1 24 [.int .i64 p0.W, .int .i64 p0.Mem, .int .i64 p0.In, .slice a1 (List.length p0.Code) c1]] w14 S13 := hs
  refine from_end rfl (then_normal ?_)
  refine wp_seq ?_
  refine wp_seq (wp_text' ?_)
  refine s_loadBoxS ty28 rfl rfl hF rfl (hs.bx 0 rfl) rfl rfl fun fr hF => ?_
  refine s_loadBoxS ty28 rfl rfl hF rfl (hs.bx 8 rfl) rfl rfl fun fr hF => ?_
  obtain ⟨x8, hx8, h⟩ := bindE h
  refine s_call [.agg #[.int .i64 x7.Pc, .slice a11 (List.length x7.Regs) c11, .slice a12 (List.length x7.Mem) c12, .slice a13 (List.length x7.Stack) c13, .int .i64 x7.In, .slice a14 (List.length x7.Out) c14, .int .i64 x7.Code, .int .i64 x7.Steps], .agg #[.int .i64 x4.Pc, .slice a5 (List.length x4.Regs) c5, .slice a6 (List.length x4.Mem) c6, .slice a7 (List.length x4.Stack) c7, .int .i64 x4.In, .slice a8 (List.length x4.Out) c8, .int .i64 x4.Code, .int .i64 x4.Steps]] Try.call14 rfl rfl hF rfl (laws_eqState_ok n x7 x4 hx8 (RV.mk_State x7 (RV.any (hs.rv 1 rfl)) (RV.any (hs.rv 2 rfl)) (RV.any (hs.rv 3 rfl)) (RV.any (hs.rv 4 rfl))) (RV.mk_State x4 (RV.any (hs.rv 9 rfl)) (RV.any (hs.rv 10 rfl)) (RV.any (hs.rv 11 rfl)) (RV.any (hs.rv 12 rfl)))) fun v w15 fr hRes hF => ?_
  obtain ⟨rfl, hc⟩ := hRes
  have ra1 := ra1.ext hc
  have r1 := r1.ext hc
  have hs := hs.ext hc
  have hM0 := hM0.ext hc
  refine from_pure 1 [(1, .slice a2 (List.length p1) c2), (2, .int .i64 p2), (3, .pointer (some ⟨b1, 0, none⟩)), (8, .pointer (some ⟨b2, 0, none⟩)), (9, .pointer (some ⟨b3, 0, none⟩)), (10, .slice a10 (List.length x6) c10), (11, .pointer (some ⟨b4, 0, none⟩)), (41, .bool (!x8))] hF (by kernel_rfl) fun fr hF => ?_
  refine from_end rfl (then_normal ?_)
  refine (wp_if hF (b := (!x8)) rfl (fun hb => ?_) (fun hb => ?_))
  · replace h := iteT hb h
    have hs : Sep [] w15 S13 := Sep.pick [] hs (by decide) rfl
    refine wp_seq (wp_pure [(6, .bool false)] hF (by kernel_rfl) fun fr hF => then_normal ?_)
    obtain rfl := Option.some.inj h
    exact wp_ret (then_ret (ret1 rfl hF rfl ⟨_, rfl, rfl, hM0.chg⟩))
  replace h := iteF hb h
  refine (wp_skip (then_normal ?_))
  refine wp_seq ?_
  obtain ⟨x9, hx9, h⟩ := bindE h
  obtain ⟨x10, hx10, h⟩ := bindE h
  refine wp_seq (region_bm 5 [0, 0, 2, 7, 15] [false, false, false, false, true]
      [.eq (.agg #[.int .i64 x5.W, .int .i64 x5.Mem, .int .i64 x5.In, .slice a9 (List.length x5.Code) c9]), .eq (.agg #[.int .i64 p0.W, .int .i64 p0.Mem, .int .i64 p0.In, .slice a1 (List.length p0.Code) c1]), .is fun v w => RV w (fun k => k < w.heap.size) v (x9 : D.Program), .eq (.bool x10), .eq (.bool (!x10))]
      [(1, .slice a2 (List.length p1) c2), (2, .int .i64 p2), (3, .pointer (some ⟨b1, 0, none⟩)), (8, .pointer (some ⟨b2, 0, none⟩)), (9, .pointer (some ⟨b3, 0, none⟩)), (10, .slice a10 (List.length x6) c10), (11, .pointer (some ⟨b4, 0, none⟩)), (46, .bool (!x10))] mix hF (by kernel_rfl) (by kernel_rfl) (by kernel_rfl) (by kernel_rfl) ⟨Pd.monoO_eq, Pd.monoO_eq, (Pd.monoO_is mono_rvb), Pd.monoO_eq, trivial⟩ (fun ow hG => ⟨np_to ow (np_loadBoxS hG hF ty32 rfl rfl (hs.bx 6 rfl) rfl rfl rfl rfl), np_to ow (np_loadBoxS hG hF ty24 rfl rfl (hs.bx 13 rfl) rfl rfl rfl rfl), np_to ow (np_callI [.inl (.agg #[.int .i64 p0.W, .int .i64 p0.Mem, .int .i64 p0.In, .slice a1 (List.length p0.Code) c1])] hG hF Try.call12 rfl rfl (by kernel_rfl) (fun w vs hC hg ha => by obtain ⟨_, rfl, rfl⟩ := ha; exact (laws_toProgram_ok n p0 hx9 ((RV.mk_Program p0 (r1)).ext hC)).mono fun e w' ⟨v, he, a0, c0, hv, _, hp, ho⟩ => ⟨_, he, hp.chg, by rw [hv]; exact (show RV w' (fun k => k < w'.heap.size) _ (x9 : D.Program) from RV.mk_Program x9 ((ho.rv 0 rfl).sub fun k hk _ => hk))⟩)), np_to ow (np_callI [.inl (.agg #[.int .i64 x5.W, .int .i64 x5.Mem, .int .i64 x5.In, .slice a9 (List.length x5.Code) c9]), .inr 2] hG hF Try.call15 rfl rfl (by kernel_rfl) (fun w vs hC hg ha => by obtain ⟨_, rfl, vq1, _, rfl, hq1, rfl⟩ := ha; exact (laws_eqProgram_ok n x5 x9 hx10 ((RV.mk_Program x5 (RV.any (hs.rv 7 rfl))).ext hC) (show RV w (fun k => k < w.heap.size) vq1 x9 from hq1)).mono fun e w' ⟨v, he, hv, hc⟩ => ⟨v, he, hc, hv⟩)), trivial⟩) (by kernel_rfl) fun ow fr w16 hF hE hc => ?_)
  have ra1 := ra1.ext hc
  have r1 := r1.ext hc
  have hs := hs.ext hc
  have hM0 := hM0.ext hc
  refine from_end rfl (then_normal ?_)
  refine (wp_if hF (b := (!x10)) rfl (fun hb => ?_) (fun hb => ?_))
  · replace h := iteT hb h
    have hs : Sep [] w16 S13 := Sep.pick [] hs (by decide) rfl
    refine wp_seq (wp_pure [(6, .bool false)] hF (by kernel_rfl) fun fr hF => then_normal ?_)
    obtain rfl := Option.some.inj h
    exact wp_ret (then_ret (ret1 rfl hF rfl ⟨_, rfl, rfl, hM0.chg⟩))
  replace h := iteF hb h
  refine (wp_skip (then_normal ?_))
  refine wp_seq ?_
  refine wp_seq (wp_text' ?_)
  refine from_pure 2 [(1, .slice a2 (List.length p1) c2), (2, .int .i64 p2), (3, .pointer (some ⟨b1, 0, none⟩)), (8, .pointer (some ⟨b2, 0, none⟩)), (9, .pointer (some ⟨b3, 0, none⟩)), (10, .slice a10 (List.length x6) c10), (11, .pointer (some ⟨b4, 0, none⟩)), (47, .slice a10 (List.length x6) c10), (48, .slice a2 (List.length p1) c2)] hF (by kernel_rfl) fun fr hF => ?_
  obtain ⟨x11, hx11, h⟩ := bindE h
  refine s_call [.slice a2 (List.length p1) c2] Try.call22 rfl rfl hF rfl (laws_toIntS_ok n p1 hx11 (ra1)) fun v w17 fr hRes hF => ?_
  obtain ⟨a15, c15, rfl, _, hp, hs2⟩ := hRes
  obtain ⟨S14, hp, hs⟩ := hs.got hM0 hp hs2
  have ra1 := ra1.stp hM0 hp
  have r1 := r1.stp hM0 hp
  have hM0 := hM0.stp hp
  have hs : Sep [SL (α := Int) 3 (.slice a15 (List.length x11) c15) x11, BX b4 28 [.int .i64 x7.Pc, .slice a11 (List.length x7.Regs) c11, .slice a12 (List.length x7.Mem) c12, .slice a13 (List.length x7.Stack) c13, .int .i64 x7.In, .slice a14 (List.length x7.Out) c14, .int .i64 x7.Code, .int .i64 x7.Steps], SL (α := Int) 3 (.slice a11 (List.length x7.Regs) c11) x7.Regs, SL (α := Int) 3 (.slice a12 (List.length x7.Mem) c12) x7.Mem, SL (α := Int) 3 (.slice a13 (List.length x7.Stack) c13) x7.Stack, SL (α := Int) 3 (.slice a14 (List.length x7.Out) c14) x7.Out, SL (α := Int) 3 (.slice a10 (List.length x6) c10) x6, BX b3 32 [.int .i64 x5.W, .int .i64 x5.Mem, .int .i64 x5.In, .slice a9 (List.length x5.Code) c9], SL (α := D.Ins) 66 (.slice a9 (List.length x5.Code) c9) x5.Code, BX b2 28 [.int .i64 x4.Pc, .slice a5 (List.length x4.Regs) c5, .slice a6 (List.length x4.Mem) c6, .slice a7 (List.length x4.Stack) c7, .int .i64 x4.In, .slice a8 (List.length x4.Out) c8, .int .i64 x4.Code, .int .i64 x4.Steps], SL (α := Int) 3 (.slice a5 (List.length x4.Regs) c5) x4.Regs, SL (α := Int) 3 (.slice a6 (List.length x4.Mem) c6) x4.Mem, SL (α := Int) 3 (.slice a7 (List.length x4.Stack) c7) x4.Stack, SL (α := Int) 3 (.slice a8 (List.length x4.Out) c8) x4.Out, BX b1 24 [.int .i64 p0.W, .int .i64 p0.Mem, .int .i64 p0.In, .slice a1 (List.length p0.Code) c1]] w17 S14 := hs
  obtain ⟨x12, hx12, h⟩ := bindE h
  refine s_call [.slice a10 (List.length x6) c10, .slice a15 (List.length x11) c15] Try.call24 rfl rfl hF rfl (laws_eqIntS_ok n x6 x11 hx12 (hs.rv 6 rfl) (hs.rv 0 rfl)) fun v w18 fr hRes hF => ?_
  obtain ⟨rfl, hc⟩ := hRes
  have ra1 := ra1.ext hc
  have r1 := r1.ext hc
  have hs := hs.ext hc
  have hM0 := hM0.ext hc
  have hs : Sep [BX b4 28 [.int .i64 x7.Pc, .slice a11 (List.length x7.Regs) c11, .slice a12 (List.length x7.Mem) c12, .slice a13 (List.length x7.Stack) c13, .int .i64 x7.In, .slice a14 (List.length x7.Out) c14, .int .i64 x7.Code, .int .i64 x7.Steps], SL (α := Int) 3 (.slice a11 (List.length x7.Regs) c11) x7.Regs, SL (α := Int) 3 (.slice a12 (List.length x7.Mem) c12) x7.Mem, SL (α := Int) 3 (.slice a13 (List.length x7.Stack) c13) x7.Stack, SL (α := Int) 3 (.slice a14 (List.length x7.Out) c14) x7.Out, SL (α := Int) 3 (.slice a10 (List.length x6) c10) x6, BX b3 32 [.int .i64 x5.W, .int .i64 x5.Mem, .int .i64 x5.In, .slice a9 (List.length x5.Code) c9], SL (α := D.Ins) 66 (.slice a9 (List.length x5.Code) c9) x5.Code, BX b2 28 [.int .i64 x4.Pc, .slice a5 (List.length x4.Regs) c5, .slice a6 (List.length x4.Mem) c6, .slice a7 (List.length x4.Stack) c7, .int .i64 x4.In, .slice a8 (List.length x4.Out) c8, .int .i64 x4.Code, .int .i64 x4.Steps], SL (α := Int) 3 (.slice a5 (List.length x4.Regs) c5) x4.Regs, SL (α := Int) 3 (.slice a6 (List.length x4.Mem) c6) x4.Mem, SL (α := Int) 3 (.slice a7 (List.length x4.Stack) c7) x4.Stack, SL (α := Int) 3 (.slice a8 (List.length x4.Out) c8) x4.Out, BX b1 24 [.int .i64 p0.W, .int .i64 p0.Mem, .int .i64 p0.In, .slice a1 (List.length p0.Code) c1]] w18 S14 := Sep.pick [1, 2, 3, 4, 5, 6, 7, 8, 9, 10, 11, 12, 13, 14] hs (by decide) rfl
  refine from_pure 1 [(1, .slice a2 (List.length p1) c2), (2, .int .i64 p2), (3, .pointer (some ⟨b1, 0, none⟩)), (8, .pointer (some ⟨b2, 0, none⟩)), (9, .pointer (some ⟨b3, 0, none⟩)), (10, .slice a10 (List.length x6) c10), (11, .pointer (some ⟨b4, 0, none⟩)), (51, .bool (!x12))] hF (by kernel_rfl) fun fr hF => ?_
  refine from_end rfl (then_normal ?_)
  refine (wp_if hF (b := (!x12)) rfl (fun hb => ?_) (fun hb => ?_))
  · replace h := iteT hb h
    have hs : Sep [] w18 S14 := Sep.pick [] hs (by decide) rfl
    refine wp_seq (wp_pure [(6, .bool false)] hF (by kernel_rfl) fun fr hF => then_normal ?_)
    obtain rfl := Option.some.inj h
    exact wp_ret (then_ret (ret1 rfl hF rfl ⟨_, rfl, rfl, hM0.chg⟩))
  replace h := iteF hb h
  refine (wp_skip (then_normal ?_))
  refine wp_seq (wp_pure [(1, .slice a2 (List.length p1) c2), (2, .int .i64 p2), (3, .pointer (some ⟨b1, 0, none⟩)), (8, .pointer (some ⟨b2, 0, none⟩)), (9, .pointer (some ⟨b3, 0, none⟩)), (10, .slice a10 (List.length x6) c10), (11, .pointer (some ⟨b4, 0, none⟩)), (12, .int .i64 1)] hF (by kernel_rfl) fun fr hF => then_normal ?_)
  refine wp_seq (wp_text' ?_)
  refine s_loadBoxS ty32 rfl rfl hF rfl (hs.bx 6 rfl) rfl rfl fun fr hF => ?_
  have hs : Sep [BX b4 28 [.int .i64 x7.Pc, .slice a11 (List.length x7.Regs) c11, .slice a12 (List.length x7.Mem) c12, .slice a13 (List.length x7.Stack) c13, .int .i64 x7.In, .slice a14 (List.length x7.Out) c14, .int .i64 x7.Code, .int .i64 x7.Steps], SL (α := Int) 3 (.slice a11 (List.length x7.Regs) c11) x7.Regs, SL (α := Int) 3 (.slice a12 (List.length x7.Mem) c12) x7.Mem, SL (α := Int) 3 (.slice a13 (List.length x7.Stack) c13) x7.Stack, SL (α := Int) 3 (.slice a14 (List.length x7.Out) c14) x7.Out, SL (α := Int) 3 (.slice a10 (List.length x6) c10) x6, SL (α := D.Ins) 66 (.slice a9 (List.length x5.Code) c9) x5.Code, BX b2 28 [.int .i64 x4.Pc, .slice a5 (List.length x4.Regs) c5, .slice a6 (List.length x4.Mem) c6, .slice a7 (List.length x4.Stack) c7, .int .i64 x4.In, .slice a8 (List.length x4.Out) c8, .int .i64 x4.Code, .int .i64 x4.Steps], SL (α := Int) 3 (.slice a5 (List.length x4.Regs) c5) x4.Regs, SL (α := Int) 3 (.slice a6 (List.length x4.Mem) c6) x4.Mem, SL (α := Int) 3 (.slice a7 (List.length x4.Stack) c7) x4.Stack, SL (α := Int) 3 (.slice a8 (List.length x4.Out) c8) x4.Out, BX b1 24 [.int .i64 p0.W, .int .i64 p0.Mem, .int .i64 p0.In, .slice a1 (List.length p0.Code) c1]] w18 S14 := Sep.pick [0, 1, 2, 3, 4, 5, 7, 8, 9, 10, 11, 12, 13] hs (by decide) rfl
  refine from_pure 1 [(1, .slice a2 (List.length p1) c2), (2, .int .i64 p2), (3, .pointer (some ⟨b1, 0, none⟩)), (8, .pointer (some ⟨b2, 0, none⟩)), (10, .slice a10 (List.length x6) c10), (11, .pointer (some ⟨b4, 0, none⟩)), (52, .agg #[.int .i64 x5.W, .int .i64 x5.Mem, .int .i64 x5.In, .slice a9 (List.length x5.Code) c9]), (53, .int .i64 1)] hF (by kernel_rfl) fun fr hF => ?_
  obtain ⟨x13, hx13, h⟩ := bindE h
  have hs : Sep [SL (α := D.Ins) 66 (.slice a9 (List.length x5.Code) c9) x5.Code, BX b4 28 [.int .i64 x7.Pc, .slice a11 (List.length x7.Regs) c11, .slice a12 (List.length x7.Mem) c12, .slice a13 (List.length x7.Stack) c13, .int .i64 x7.In, .slice a14 (List.length x7.Out) c14, .int .i64 x7.Code, .int .i64 x7.Steps], SL (α := Int) 3 (.slice a11 (List.length x7.Regs) c11) x7.Regs, SL (α := Int) 3 (.slice a12 (List.length x7.Mem) c12) x7.Mem, SL (α := Int) 3 (.slice a13 (List.length x7.Stack) c13) x7.Stack, SL (α := Int) 3 (.slice a14 (List.length x7.Out) c14) x7.Out, SL (α := Int) 3 (.slice a10 (List.length x6) c10) x6, BX b2 28 [.int .i64 x4.Pc, .slice a5 (List.length x4.Regs) c5, .slice a6 (List.length x4.Mem) c6, .slice a7 (List.length x4.Stack) c7, .int .i64 x4.In, .slice a8 (List.length x4.Out) c8, .int .i64 x4.Code, .int .i64 x4.Steps], SL (α := Int) 3 (.slice a5 (List.length x4.Regs) c5) x4.Regs, SL (α := Int) 3 (.slice a6 (List.length x4.Mem) c6) x4.Mem, SL (α := Int) 3 (.slice a7 (List.length x4.Stack) c7) x4.Stack, SL (α := Int) 3 (.slice a8 (List.length x4.Out) c8) x4.Out, BX b1 24 [.int .i64 p0.W, .int .i64 p0.Mem, .int .i64 p0.In, .slice a1 (List.length p0.Code) c1]] w18 S14 := Sep.pick [6, 0, 1, 2, 3, 4, 5, 7, 8, 9, 10, 11, 12] hs (by decide) rfl
  obtain ⟨A1, R1, hsA, hsR, hdA, hbA, hup⟩ := Sep.call (L1 := [SL (α := D.Ins) 66 (.slice a9 (List.length x5.Code) c9) x5.Code]) (L2 := [BX b4 28 [.int .i64 x7.Pc, .slice a11 (List.length x7.Regs) c11, .slice a12 (List.length x7.Mem) c12, .slice a13 (List.length x7.Stack) c13, .int .i64 x7.In, .slice a14 (List.length x7.Out) c14, .int .i64 x7.Code, .int .i64 x7.Steps], SL (α := Int) 3 (.slice a11 (List.length x7.Regs) c11) x7.Regs, SL (α := Int) 3 (.slice a12 (List.length x7.Mem) c12) x7.Mem, SL (α := Int) 3 (.slice a13 (List.length x7.Stack) c13) x7.Stack, SL (α := Int) 3 (.slice a14 (List.length x7.Out) c14) x7.Out, SL (α := Int) 3 (.slice a10 (List.length x6) c10) x6, BX b2 28 [.int .i64 x4.Pc, .slice a5 (List.length x4.Regs) c5, .slice a6 (List.length x4.Mem) c6, .slice a7 (List.length x4.Stack) c7, .int .i64 x4.In, .slice a8 (List.length x4.Out) c8, .int .i64 x4.Code, .int .i64 x4.Steps], SL (α := Int) 3 (.slice a5 (List.length x4.Regs) c5) x4.Regs, SL (α := Int) 3 (.slice a6 (List.length x4.Mem) c6) x4.Mem, SL (α := Int) 3 (.slice a7 (List.length x4.Stack) c7) x4.Stack, SL (α := Int) 3 (.slice a8 (List.length x4.Out) c8) x4.Out, BX b1 24 [.int .i64 p0.W, .int .i64 p0.Mem, .int .i64 p0.In, .slice a1 (List.length p0.Code) c1]]) hs hM0
  refine s_call [.agg #[.int .i64 x5.W, .int .i64 x5.Mem, .int .i64 x5.In, .slice a9 (List.length x5.Code) c9], .int .i64 1] Try.call16 rfl rfl hF rfl (laws_markProgram_ok n x5 1 hx13 hsA hbA hdA) fun v w19 fr hRes hF => ?_
  obtain ⟨rfl, _, hp, hs⟩ := hRes
  obtain ⟨S15, hp, hs⟩ := hup hp hs
  have ra1 := ra1.stp hM0 hp
  have r1 := r1.stp hM0 hp
  have hM0 := hM0.stp hp
  have hs : Sep [SL (α := D.Ins) 66 (.slice a9 (List.length x5.Code) c9) x13.2.Code, BX b4 28 [.int .i64 x7.Pc, .slice a11 (List.length x7.Regs) c11, .slice a12 (List.length x7.Mem) c12, .slice a13 (List.length x7.Stack) c13, .int .i64 x7.In, .slice a14 (List.length x7.Out) c14, .int .i64 x7.Code, .int .i64 x7.Steps], SL (α := Int) 3 (.slice a11 (List.length x7.Regs) c11) x7.Regs, SL (α := Int) 3 (.slice a12 (List.length x7.Mem) c12) x7.Mem, SL (α := Int) 3 (.slice a13 (List.length x7.Stack) c13) x7.Stack, SL (α := Int) 3 (.slice a14 (List.length x7.Out) c14) x7.Out, SL (α := Int) 3 (.slice a10 (List.length x6) c10) x6, BX b2 28 [.int .i64 x4.Pc, .slice a5 (List.length x4.Regs) c5, .slice a6 (List.length x4.Mem) c6, .slice a7 (List.length x4.Stack) c7, .int .i64 x4.In, .slice a8 (List.length x4.Out) c8, .int .i64 x4.Code, .int .i64 x4.Steps], SL (α := Int) 3 (.slice a5 (List.length x4.Regs) c5) x4.Regs, SL (α := Int) 3 (.slice a6 (List.length x4.Mem) c6) x4.Mem, SL (α := Int) 3 (.slice a7 (List.length x4.Stack) c7) x4.Stack, SL (α := Int) 3 (.slice a8 (List.length x4.Out) c8) x4.Out, BX b1 24 [.int .i64 p0.W, .int .i64 p0.Mem, .int .i64 p0.In, .slice a1 (List.length p0.Code) c1]] w19 S15 := hs
  have hs : Sep [BX b4 28 [.int .i64 x7.Pc, .slice a11 (List.length x7.Regs) c11, .slice a12 (List.length x7.Mem) c12, .slice a13 (List.length x7.Stack) c13, .int .i64 x7.In, .slice a14 (List.length x7.Out) c14, .int .i64 x7.Code, .int .i64 x7.Steps], SL (α := Int) 3 (.slice a11 (List.length x7.Regs) c11) x7.Regs, SL (α := Int) 3 (.slice a12 (List.length x7.Mem) c12) x7.Mem, SL (α := Int) 3 (.slice a13 (List.length x7.Stack) c13) x7.Stack, SL (α := Int) 3 (.slice a14 (List.length x7.Out) c14) x7.Out, SL (α := Int) 3 (.slice a10 (List.length x6) c10) x6, BX b2 28 [.int .i64 x4.Pc, .slice a5 (List.length x4.Regs) c5, .slice a6 (List.length x4.Mem) c6, .slice a7 (List.length x4.Stack) c7, .int .i64 x4.In, .slice a8 (List.length x4.Out) c8, .int .i64 x4.Code, .int .i64 x4.Steps], SL (α := Int) 3 (.slice a5 (List.length x4.Regs) c5) x4.Regs, SL (α := Int) 3 (.slice a6 (List.length x4.Mem) c6) x4.Mem, SL (α := Int) 3 (.slice a7 (List.length x4.Stack) c7) x4.Stack, SL (α := Int) 3 (.slice a8 (List.length x4.Out) c8) x4.Out, BX b1 24 [.int .i64 p0.W, .int .i64 p0.Mem, .int .i64 p0.In, .slice a1 (List.length p0.Code) c1]] w19 S15 := Sep.pick [1, 2, 3, 4, 5, 6, 7, 8, 9, 10, 11, 12] hs (by decide) rfl
  refine from_pure 1 [(1, .slice a2 (List.length p1) c2), (2, .int .i64 p2), (3, .pointer (some ⟨b1, 0, none⟩)), (8, .pointer (some ⟨b2, 0, none⟩)), (10, .slice a10 (List.length x6) c10), (11, .pointer (some ⟨b4, 0, none⟩)), (12, .int .i64 x13.1)] hF (by kernel_rfl) fun fr hF => ?_
  refine from_end rfl (then_normal ?_)
  refine wp_seq (wp_text' ?_)
  refine from_pure 2 [(1, .slice a2 (List.length p1) c2), (2, .int .i64 p2), (3, .pointer (some ⟨b1, 0, none⟩)), (8, .pointer (some ⟨b2, 0, none⟩)), (11, .pointer (some ⟨b4, 0, none⟩)), (55, .slice a10 (List.length x6) c10), (56, .int .i64 x13.1)] hF (by kernel_rfl) fun fr hF => ?_
  obtain ⟨x14, hx14, h⟩ := bindE h
  have hs : Sep [SL (α := Int) 3 (.slice a10 (List.length x6) c10) x6, BX b4 28 [.int .i64 x7.Pc, .slice a11 (List.length x7.Regs) c11, .slice a12 (List.length x7.Mem) c12, .slice a13 (List.length x7.Stack) c13, .int .i64 x7.In, .slice a14 (List.length x7.Out) c14, .int .i64 x7.Code, .int .i64 x7.Steps], SL (α := Int) 3 (.slice a11 (List.length x7.Regs) c11) x7.Regs, SL (α := Int) 3 (.slice a12 (List.length x7.Mem) c12) x7.Mem, SL (α := Int) 3 (.slice a13 (List.length x7.Stack) c13) x7.Stack, SL (α := Int) 3 (.slice a14 (List.length x7.Out) c14) x7.Out, BX b2 28 [.int .i64 x4.Pc, .slice a5 (List.length x4.Regs) c5, .slice a6 (List.length x4.Mem) c6, .slice a7 (List.length x4.Stack) c7, .int .i64 x4.In, .slice a8 (List.length x4.Out) c8, .int .i64 x4.Code, .int .i64 x4.Steps], SL (α := Int) 3 (.slice a5 (List.length x4.Regs) c5) x4.Regs, SL (α := Int) 3 (.slice a6 (List.length x4.Mem) c6) x4.Mem, SL (α := Int) 3 (.slice a7 (List.length x4.Stack) c7) x4.Stack, SL (α := Int) 3 (.slice a8 (List.length x4.Out) c8) x4.Out, BX b1 24 [.int .i64 p0.W, .int .i64 p0.Mem, .int .i64 p0.In, .slice a1 (List.length p0.Code) c1]] w19 S15 := Sep.pick [5, 0, 1, 2, 3, 4, 6, 7, 8, 9, 10, 11] hs (by decide) rfl
  obtain ⟨A2, R2, hsA, hsR, hdA, hbA, hup⟩ := Sep.call (L1 := [SL (α := Int) 3 (.slice a10 (List.length x6) c10) x6]) (L2 := [BX b4 28 [.int .i64 x7.Pc, .slice a11 (List.length x7.Regs) c11, .slice a12 (List.length x7.Mem) c12, .slice a13 (List.length x7.Stack) c13, .int .i64 x7.In, .slice a14 (List.length x7.Out) c14, .int .i64 x7.Code, .int .i64 x7.Steps], SL (α := Int) 3 (.slice a11 (List.length x7.Regs) c11) x7.Regs, SL (α := Int) 3 (.slice a12 (List.length x7.Mem) c12) x7.Mem, SL (α := Int) 3 (.slice a13 (List.length x7.Stack) c13) x7.Stack, SL (α := Int) 3 (.slice a14 (List.length x7.Out) c14) x7.Out, BX b2 28 [.int .i64 x4.Pc, .slice a5 (List.length x4.Regs) c5, .slice a6 (List.length x4.Mem) c6, .slice a7 (List.length x4.Stack) c7, .int .i64 x4.In, .slice a8 (List.length x4.Out) c8, .int .i64 x4.Code, .int .i64 x4.Steps], SL (α := Int) 3 (.slice a5 (List.length x4.Regs) c5) x4.Regs, SL (α := Int) 3 (.slice a6 (List.length x4.Mem) c6) x4.Mem, SL (α := Int) 3 (.slice a7 (List.length x4.Stack) c7) x4.Stack, SL (α := Int) 3 (.slice a8 (List.length x4.Out) c8) x4.Out, BX b1 24 [.int .i64 p0.W, .int .i64 p0.Mem, .int .i64 p0.In, .slice a1 (List.length p0.Code) c1]]) hs hM0
  refine s_call [.slice a10 (List.length x6) c10, .int .i64 x13.1] Try.call25 rfl rfl hF rfl (laws_markIntS_ok n x6 x13.1 hx14 hsA hbA hdA) fun v w20 fr hRes hF => ?_
  obtain ⟨rfl, _, hp, hs⟩ := hRes
  obtain ⟨S16, hp, hs⟩ := hup hp hs
  have ra1 := ra1.stp hM0 hp
  have r1 := r1.stp hM0 hp
  have hM0 := hM0.stp hp
  have hs : Sep [SL (α := Int) 3 (.slice a10 (List.length x6) c10) x14.2, BX b4 28 [.int .i64 x7.Pc, .slice a11 (List.length x7.Regs) c11, .slice a12 (List.length x7.Mem) c12, .slice a13 (List.length x7.Stack) c13, .int .i64 x7.In, .slice a14 (List.length x7.Out) c14, .int .i64 x7.Code, .int .i64 x7.Steps], SL (α := Int) 3 (.slice a11 (List.length x7.Regs) c11) x7.Regs, SL (α := Int) 3 (.slice a12 (List.length x7.Mem) c12) x7.Mem, SL (α := Int) 3 (.slice a13 (List.length x7.Stack) c13) x7.Stack, SL (α := Int) 3 (.slice a14 (List.length x7.Out) c14) x7.Out, BX b2 28 [.int .i64 x4.Pc, .slice a5 (List.length x4.Regs) c5, .slice a6 (List.length x4.Mem) c6, .slice a7 (List.length x4.Stack) c7, .int .i64 x4.In, .slice a8 (List.length x4.Out) c8, .int .i64 x4.Code, .int .i64 x4.Steps], SL (α := Int) 3 (.slice a5 (List.length x4.Regs) c5) x4.Regs, SL (α := Int) 3 (.slice a6 (List.length x4.Mem) c6) x4.Mem, SL (α := Int) 3 (.slice a7 (List.length x4.Stack) c7) x4.Stack, SL (α := Int) 3 (.slice a8 (List.length x4.Out) c8) x4.Out, BX b1 24 [.int .i64 p0.W, .int .i64 p0.Mem, .int .i64 p0.In, .slice a1 (List.length p0.Code) c1]] w20 S16 := hs
  have hs : Sep [BX b4 28 [.int .i64 x7.Pc, .slice a11 (List.length x7.Regs) c11, .slice a12 (List.length x7.Mem) c12, .slice a13 (List.length x7.Stack) c13, .int .i64 x7.In, .slice a14 (List.length x7.Out) c14, .int .i64 x7.Code, .int .i64 x7.Steps], SL (α := Int) 3 (.slice a11 (List.length x7.Regs) c11) x7.Regs, SL (α := Int) 3 (.slice a12 (List.length x7.Mem) c12) x7.Mem, SL (α := Int) 3 (.slice a13 (List.length x7.Stack) c13) x7.Stack, SL (α := Int) 3 (.slice a14 (List.length x7.Out) c14) x7.Out, BX b2 28 [.int .i64 x4.Pc, .slice a5 (List.length x4.Regs) c5, .slice a6 (List.length x4.Mem) c6, .slice a7 (List.length x4.Stack) c7, .int .i64 x4.In, .slice a8 (List.length x4.Out) c8, .int .i64 x4.Code, .int .i64 x4.Steps], SL (α := Int) 3 (.slice a5 (List.length x4.Regs) c5) x4.Regs, SL (α := Int) 3 (.slice a6 (List.length x4.Mem) c6) x4.Mem, SL (α := Int) 3 (.slice a7 (List.length x4.Stack) c7) x4.Stack, SL (α := Int) 3 (.slice a8 (List.length x4.Out) c8) x4.Out, BX b1 24 [.int .i64 p0.W, .int .i64 p0.Mem, .int .i64 p0.In, .slice a1 (List.length p0.Code) c1]] w20 S16 := Sep.pick [1, 2, 3, 4, 5, 6, 7, 8, 9, 10, 11] hs (by decide) rfl
  refine from_pure 1 [(1, .slice a2 (List.length p1) c2), (2, .int .i64 p2), (3, .pointer (some ⟨b1, 0, none⟩)), (8, .pointer (some ⟨b2, 0, none⟩)), (11, .pointer (some ⟨b4, 0, none⟩)), (12, .int .i64 x14.1)] hF (by kernel_rfl) fun fr hF => ?_
  refine from_end rfl (then_normal ?_)
  refine wp_seq ?_
  obtain ⟨x15, hx15, h⟩ := bindE h
  refine wp_seq (region_b [] [true, true, true, false, false, false, true, true]
      [.eq (.int .i64 x14.1), .eq (.bool (decide (x14.1 < 0))), .eq (.bool (decide (x14.1 < 0))), .eq (.agg #[.int .i64 x7.Pc, .slice a11 (List.length x7.Regs) c11, .slice a12 (List.length x7.Mem) c12, .slice a13 (List.length x7.Stack) c13, .int .i64 x7.In, .slice a14 (List.length x7.Out) c14, .int .i64 x7.Code, .int .i64 x7.Steps]), .eq (.agg #[.int .i64 x4.Pc, .slice a5 (List.length x4.Regs) c5, .slice a6 (List.length x4.Mem) c6, .slice a7 (List.length x4.Stack) c7, .int .i64 x4.In, .slice a8 (List.length x4.Out) c8, .int .i64 x4.Code, .int .i64 x4.Steps]), .eq (.bool x15), .eq (.bool (!x15)), .eq (.bool ((decide (x14.1 < 0)) || (!x15)))]
      [(1, .slice a2 (List.length p1) c2), (2, .int .i64 p2), (3, .pointer (some ⟨b1, 0, none⟩)), (8, .pointer (some ⟨b2, 0, none⟩)), (11, .pointer (some ⟨b4, 0, none⟩)), (65, .bool ((decide (x14.1 < 0)) || (!x15)))] mix hF (by kernel_rfl) (by kernel_rfl) (by kernel_rfl) ⟨Pd.mono_eq, Pd.mono_eq, Pd.mono_eq, trivial⟩ (fun hG => ⟨np_loadBoxS hG hF ty28 rfl rfl (hs.bx 0 rfl) rfl rfl rfl rfl, np_loadBoxS hG hF ty28 rfl rfl (hs.bx 5 rfl) rfl rfl rfl rfl, np_call [.agg #[.int .i64 x7.Pc, .slice a11 (List.length x7.Regs) c11, .slice a12 (List.length x7.Mem) c12, .slice a13 (List.length x7.Stack) c13, .int .i64 x7.In, .slice a14 (List.length x7.Out) c14, .int .i64 x7.Code, .int .i64 x7.Steps], .agg #[.int .i64 x4.Pc, .slice a5 (List.length x4.Regs) c5, .slice a6 (List.length x4.Mem) c6, .slice a7 (List.length x4.Stack) c7, .int .i64 x4.In, .slice a8 (List.length x4.Out) c8, .int .i64 x4.Code, .int .i64 x4.Steps]] hG hF Try.call14 rfl rfl (fun w hC hg => (laws_eqState_ok n x7 x4 (iteF hg.2 hx15) ((RV.mk_State x7 (RV.any (hs.rv 1 rfl)) (RV.any (hs.rv 2 rfl)) (RV.any (hs.rv 3 rfl)) (RV.any (hs.rv 4 rfl))).ext hC) ((RV.mk_State x4 (RV.any (hs.rv 6 rfl)) (RV.any (hs.rv 7 rfl)) (RV.any (hs.rv 8 rfl)) (RV.any (hs.rv 9 rfl))).ext hC)).mono fun e w' ⟨v, he, hv, hc⟩ => ⟨v, he, hc, hv⟩), trivial⟩) (by kernel_rfl) fun fr w21 hF hE hc => then_normal ?_)
  have ra1 := ra1.ext hc
  have r1 := r1.ext hc
  have hs := hs.ext hc
  have hM0 := hM0.ext hc
  refine (wp_if hF (b := ((decide (x14.1 < 0)) || (!x15))) rfl (fun hb => ?_) (fun hb => ?_))
  · replace h := iteT hb h
    have hs : Sep [] w21 S16 := Sep.pick [] hs (by decide) rfl
    refine wp_seq (wp_pure [(6, .bool false)] hF (by kernel_rfl) fun fr hF => then_normal ?_)
    obtain rfl := Option.some.inj h
    exact wp_ret (then_ret (ret1 rfl hF rfl ⟨_, rfl, rfl, hM0.chg⟩))
  replace h := iteF hb h
  refine (wp_skip (then_normal ?_))
  refine wp_seq (wp_pure [(1, .slice a2 (List.length p1) c2), (2, .int .i64 p2), (3, .pointer (some ⟨b1, 0, none⟩)), (8, .pointer (some ⟨b2, 0, none⟩)), (11, .pointer (some ⟨b4, 0, none⟩)), (13, .int .i64 1)] hF (by kernel_rfl) fun fr hF => then_normal ?_)
  refine wp_seq (wp_text' ?_)
  refine s_loadBoxS ty28 rfl rfl hF rfl (hs.bx 0 rfl) rfl rfl fun fr hF => ?_
  refine from_pure 1 [(1, .slice a2 (List.length p1) c2), (2, .int .i64 p2), (3, .pointer (some ⟨b1, 0, none⟩)), (8, .pointer (some ⟨b2, 0, none⟩)), (11, .pointer (some ⟨b4, 0, none⟩)), (66, .agg #[.int .i64 x7.Pc, .slice a11 (List.length x7.Regs) c11, .slice a12 (List.length x7.Mem) c12, .slice a13 (List.length x7.Stack) c13, .int .i64 x7.In, .slice a14 (List.length x7.Out) c14, .int .i64 x7.Code, .int .i64 x7.Steps]), (67, .int .i64 1)] hF (by kernel_rfl) fun fr hF => ?_
  obtain ⟨x16, hx16, h⟩ := bindE h
  have hs : Sep [SL (α := Int) 3 (.slice a11 (List.length x7.Regs) c11) x7.Regs, SL (α := Int) 3 (.slice a12 (List.length x7.Mem) c12) x7.Mem, SL (α := Int) 3 (.slice a13 (List.length x7.Stack) c13) x7.Stack, SL (α := Int) 3 (.slice a14 (List.length x7.Out) c14) x7.Out, BX b4 28 [.int .i64 x7.Pc, .slice a11 (List.length x7.Regs) c11, .slice a12 (List.length x7.Mem) c12, .slice a13 (List.length x7.Stack) c13, .int .i64 x7.In, .slice a14 (List.length x7.Out) c14, .int .i64 x7.Code, .int .i64 x7.Steps], BX b2 28 [.int .i64 x4.Pc, .slice a5 (List.length x4.Regs) c5, .slice a6 (List.length x4.Mem) c6, .slice a7 (List.length x4.Stack) c7, .int .i64 x4.In, .slice a8 (List.length x4.Out) c8, .int .i64 x4.Code, .int .i64 x4.Steps], SL (α := Int) 3 (.slice a5 (List.length x4.Regs) c5) x4.Regs, SL (α := Int) 3 (.slice a6 (List.length x4.Mem) c6) x4.Mem, SL (α := Int) 3 (.slice a7 (List.length x4.Stack) c7) x4.Stack, SL (α := Int) 3 (.slice a8 (List.length x4.Out) c8) x4.Out, BX b1 24 [.int .i64 p0.W, .int .i64 p0.Mem, .int .i64 p0.In, .slice a1 (List.length p0.Code) c1]] w21 S16 := Sep.pick [1, 2, 3, 4, 0, 5, 6, 7, 8, 9, 10] hs (by decide) rfl
  obtain ⟨A3, R3, hsA, hsR, hdA, hbA, hup⟩ := Sep.call (L1 := [SL (α := Int) 3 (.slice a11 (List.length x7.Regs) c11) x7.Regs, SL (α := Int) 3 (.slice a12 (List.length x7.Mem) c12) x7.Mem, SL (α := Int) 3 (.slice a13 (List.length x7.Stack) c13) x7.Stack, SL (α := Int) 3 (.slice a14 (List.length x7.Out) c14) x7.Out]) (L2 := [BX b4 28 [.int .i64 x7.Pc, .slice a11 (List.length x7.Regs) c11, .slice a12 (List.length x7.Mem) c12, .slice a13 (List.length x7.Stack) c13, .int .i64 x7.In, .slice a14 (List.length x7.Out) c14, .int .i64 x7.Code, .int .i64 x7.Steps], BX b2 28 [.int .i64 x4.Pc, .slice a5 (List.length x4.Regs) c5, .slice a6 (List.length x4.Mem) c6, .slice a7 (List.length x4.Stack) c7, .int .i64 x4.In, .slice a8 (List.length x4.Out) c8, .int .i64 x4.Code, .int .i64 x4.Steps], SL (α := Int) 3 (.slice a5 (List.length x4.Regs) c5) x4.Regs, SL (α := Int) 3 (.slice a6 (List.length x4.Mem) c6) x4.Mem, SL (α := Int) 3 (.slice a7 (List.length x4.Stack) c7) x4.Stack, SL (α := Int) 3 (.slice a8 (List.length x4.Out) c8) x4.Out, BX b1 24 [.int .i64 p0.W, .int .i64 p0.Mem, .int .i64 p0.In, .slice a1 (List.length p0.Code) c1]]) hs hM0
  refine s_call [.agg #[.int .i64 x7.Pc, .slice a11 (List.length x7.Regs) c11, .slice a12 (List.length x7.Mem) c12, .slice a13 (List.length x7.Stack) c13, .int .i64 x7.In, .slice a14 (List.length x7.Out) c14, .int .i64 x7.Code, .int .i64 x7.Steps], .int .i64 1] Try.call17 rfl rfl hF rfl (laws_markState_ok n x7 1 hx16 hsA hbA hdA) fun v w22 fr hRes hF => ?_
  obtain ⟨rfl, _, hp, hs⟩ := hRes
  obtain ⟨S17, hp, hs⟩ := hup hp hs
  have ra1 := ra1.stp hM0 hp
  have r1 := r1.stp hM0 hp
  have hM0 := hM0.stp hp
  have hs : Sep [SL (α := Int) 3 (.slice a11 (List.length x7.Regs) c11) x16.2.Regs, SL (α := Int) 3 (.slice a12 (List.length x7.Mem) c12) x16.2.Mem, SL (α := Int) 3 (.slice a13 (List.length x7.Stack) c13) x16.2.Stack, SL (α := Int) 3 (.slice a14 (List.length x7.Out) c14) x16.2.Out, BX b4 28 [.int .i64 x7.Pc, .slice a11 (List.length x7.Regs) c11, .slice a12 (List.length x7.Mem) c12, .slice a13 (List.length x7.Stack) c13, .int .i64 x7.In, .slice a14 (List.length x7.Out) c14, .int .i64 x7.Code, .int .i64 x7.Steps], BX b2 28 [.int .i64 x4.Pc, .slice a5 (List.length x4.Regs) c5, .slice a6 (List.length x4.Mem) c6, .slice a7 (List.length x4.Stack) c7, .int .i64 x4.In, .slice a8 (List.length x4.Out) c8, .int .i64 x4.Code, .int .i64 x4.Steps], SL (α := Int) 3 (.slice a5 (List.length x4.Regs) c5) x4.Regs, SL (α := Int) 3 (.slice a6 (List.length x4.Mem) c6) x4.Mem, SL (α := Int) 3 (.slice a7 (List.length x4.Stack) c7) x4.Stack, SL (α := Int) 3 (.slice a8 (List.length x4.Out) c8) x4.Out, BX b1 24 [.int .i64 p0.W, .int .i64 p0.Mem, .int .i64 p0.In, .slice a1 (List.length p0.Code) c1]] w22 S17 := hs
  refine from_pure 1 [(1, .slice a2 (List.length p1) c2), (2, .int .i64 p2), (3, .pointer (some ⟨b1, 0, none⟩)), (8, .pointer (some ⟨b2, 0, none⟩)), (11, .pointer (some ⟨b4, 0, none⟩)), (13, .int .i64 x16.1)] hF (by kernel_rfl) fun fr hF => ?_
  refine from_end rfl (then_normal ?_)
  refine wp_seq (wp_pure [(1, .slice a2 (List.length p1) c2), (2, .int .i64 p2), (3, .pointer (some ⟨b1, 0, none⟩)), (8, .pointer (some ⟨b2, 0, none⟩)), (11, .pointer (some ⟨b4, 0, none⟩)), (13, .int .i64 x16.1), (14, .int .i64 1)] hF (by kernel_rfl) fun fr hF => then_normal ?_)
  refine wp_seq (wp_text' ?_)
  refine s_loadBoxS ty28 rfl rfl hF rfl (hs.bx 4 rfl) rfl rfl fun fr hF => ?_
  refine from_pure 1 [(1, .slice a2 (List.length p1) c2), (2, .int .i64 p2), (3, .pointer (some ⟨b1, 0, none⟩)), (8, .pointer (some ⟨b2, 0, none⟩)), (11, .pointer (some ⟨b4, 0, none⟩)), (13, .int .i64 x16.1), (69, .agg #[.int .i64 x7.Pc, .slice a11 (List.length x7.Regs) c11, .slice a12 (List.length x7.Mem) c12, .slice a13 (List.length x7.Stack) c13, .int .i64 x7.In, .slice a14 (List.length x7.Out) c14, .int .i64 x7.Code, .int .i64 x7.Steps]), (70, .int .i64 1)] hF (by kernel_rfl) fun fr hF => ?_
  obtain ⟨x17, hx17, h⟩ := bindE h
  refine s_call [.agg #[.int .i64 x7.Pc, .slice a11 (List.length x7.Regs) c11, .slice a12 (List.length x7.Mem) c12, .slice a13 (List.length x7.Stack) c13, .int .i64 x7.In, .slice a14 (List.length x7.Out) c14, .int .i64 x7.Code, .int .i64 x7.Steps], .int .i64 1] Try.call18 rfl rfl hF rfl (laws_heldState_ok n (D.State.mk x7.Pc x16.2.Regs x16.2.Mem x16.2.Stack x7.In x16.2.Out x7.Code x7.Steps) 1 hx17 (RV.mk_State (D.State.mk x7.Pc x16.2.Regs x16.2.Mem x16.2.Stack x7.In x16.2.Out x7.Code x7.Steps) (RV.any (hs.rv 0 rfl)) (RV.any (hs.rv 1 rfl)) (RV.any (hs.rv 2 rfl)) (RV.any (hs.rv 3 rfl)))) fun v w23 fr hRes hF => ?_
  obtain ⟨rfl, hc⟩ := hRes
  have ra1 := ra1.ext hc
  have r1 := r1.ext hc
  have hs := hs.ext hc
  have hM0 := hM0.ext hc
  refine from_pure 1 [(1, .slice a2 (List.length p1) c2), (2, .int .i64 p2), (3, .pointer (some ⟨b1, 0, none⟩)), (8, .pointer (some ⟨b2, 0, none⟩)), (11, .pointer (some ⟨b4, 0, none⟩)), (13, .int .i64 x16.1), (14, .int .i64 x17)] hF (by kernel_rfl) fun fr hF => ?_
  refine from_end rfl (then_normal ?_)
  refine wp_seq ?_
  refine wp_seq (wp_pure [(1, .slice a2 (List.length p1) c2), (2, .int .i64 p2), (3, .pointer (some ⟨b1, 0, none⟩)), (8, .pointer (some ⟨b2, 0, none⟩)), (11, .pointer (some ⟨b4, 0, none⟩)), (13, .int .i64 x16.1), (14, .int .i64 x17), (73, .bool (decide (x17 < 0)))] hF (by kernel_rfl) fun fr hF => then_normal ?_)
  refine (wp_if hF (b := (decide (x17 < 0))) rfl (fun hb => ?_) (fun hb => ?_))
  · replace h := iteT hb h
    have hs : Sep [] w23 S17 := Sep.pick [] hs (by decide) rfl
    refine wp_seq (wp_pure [(6, .bool false)] hF (by kernel_rfl) fun fr hF => then_normal ?_)
    obtain rfl := Option.some.inj h
    exact wp_ret (then_ret (ret1 rfl hF rfl ⟨_, rfl, rfl, hM0.chg⟩))
  replace h := iteF hb h
  refine (wp_skip (then_normal ?_))
  refine wp_seq ?_
  refine wp_seq (wp_pure [(1, .slice a2 (List.length p1) c2), (2, .int .i64 p2), (3, .pointer (some ⟨b1, 0, none⟩)), (8, .pointer (some ⟨b2, 0, none⟩)), (11, .pointer (some ⟨b4, 0, none⟩)), (13, .int .i64 x16.1), (76, .bool (x17 != x16.1))] hF (by kernel_rfl) fun fr hF => then_normal ?_)
  refine (wp_if hF (b := (x17 != x16.1)) rfl (fun hb => ?_) (fun hb => ?_))
  · replace h := iteT hb h
    have hs : Sep [] w23 S17 := Sep.pick [] hs (by decide) rfl
    refine wp_seq (wp_pure [(6, .bool false)] hF (by kernel_rfl) fun fr hF => then_normal ?_)
    obtain rfl := Option.some.inj h
    exact wp_ret (then_ret (ret1 rfl hF rfl ⟨_, rfl, rfl, hM0.chg⟩))
  replace h := iteF hb h
  refine (wp_skip (then_normal ?_))
  refine wp_seq (wp_text' ?_)
  refine s_loadBoxS ty24 rfl rfl hF rfl (hs.bx 10 rfl) rfl rfl fun fr hF => ?_
  have hs : Sep [SL (α := Int) 3 (.slice a11 (List.length x7.Regs) c11) x16.2.Regs, SL (α := Int) 3 (.slice a12 (List.length x7.Mem) c12) x16.2.Mem, SL (α := Int) 3 (.slice a13 (List.length x7.Stack) c13) x16.2.Stack, SL (α := Int) 3 (.slice a14 (List.length x7.Out) c14) x16.2.Out, BX b4 28 [.int .i64 x7.Pc, .slice a11 (List.length x7.Regs) c11, .slice a12 (List.length x7.Mem) c12, .slice a13 (List.length x7.Stack) c13, .int .i64 x7.In, .slice a14 (List.length x7.Out) c14, .int .i64 x7.Code, .int .i64 x7.Steps], BX b2 28 [.int .i64 x4.Pc, .slice a5 (List.length x4.Regs) c5, .slice a6 (List.length x4.Mem) c6, .slice a7 (List.length x4.Stack) c7, .int .i64 x4.In, .slice a8 (List.length x4.Out) c8, .int .i64 x4.Code, .int .i64 x4.Steps], SL (α := Int) 3 (.slice a5 (List.length x4.Regs) c5) x4.Regs, SL (α := Int) 3 (.slice a6 (List.length x4.Mem) c6) x4.Mem, SL (α := Int) 3 (.slice a7 (List.length x4.Stack) c7) x4.Stack, SL (α := Int) 3 (.slice a8 (List.length x4.Out) c8) x4.Out] w23 S17 := Sep.pick [0, 1, 2, 3, 4, 5, 6, 7, 8, 9] hs (by decide) rfl
  obtain ⟨x18, hx18, h⟩ := bindE h
  refine s_call [.agg #[.int .i64 p0.W, .int .i64 p0.Mem, .int .i64 p0.In, .slice a1 (List.length p0.Code) c1]] Try.call12 rfl rfl hF rfl (laws_toProgram_ok n p0 hx18 (RV.mk_Program p0 (r1))) fun v w24 fr hRes hF => ?_
  obtain ⟨a16, c16, rfl, _, hp, hs2⟩ := hRes
  obtain ⟨S18, hp, hs⟩ := hs.got hM0 hp hs2
  have ra1 := ra1.stp hM0 hp
  have r1 := r1.stp hM0 hp
  have hM0 := hM0.stp hp
  have hs : Sep [SL (α := D.Ins) 66 (.slice a16 (List.length x18.Code) c16) x18.Code, SL (α := Int) 3 (.slice a11 (List.length x7.Regs) c11) x16.2.Regs, SL (α := Int) 3 (.slice a12 (List.length x7.Mem) c12) x16.2.Mem, SL (α := Int) 3 (.slice a13 (List.length x7.Stack) c13) x16.2.Stack, SL (α := Int) 3 (.slice a14 (List.length x7.Out) c14) x16.2.Out, BX b4 28 [.int .i64 x7.Pc, .slice a11 (List.length x7.Regs) c11, .slice a12 (List.length x7.Mem) c12, .slice a13 (List.length x7.Stack) c13, .int .i64 x7.In, .slice a14 (List.length x7.Out) c14, .int .i64 x7.Code, .int .i64 x7.Steps], BX b2 28 [.int .i64 x4.Pc, .slice a5 (List.length x4.Regs) c5, .slice a6 (List.length x4.Mem) c6, .slice a7 (List.length x4.Stack) c7, .int .i64 x4.In, .slice a8 (List.length x4.Out) c8, .int .i64 x4.Code, .int .i64 x4.Steps], SL (α := Int) 3 (.slice a5 (List.length x4.Regs) c5) x4.Regs, SL (α := Int) 3 (.slice a6 (List.length x4.Mem) c6) x4.Mem, SL (α := Int) 3 (.slice a7 (List.length x4.Stack) c7) x4.Stack, SL (α := Int) 3 (.slice a8 (List.length x4.Out) c8) x4.Out] w24 S18 := hs
  refine from_pure 1 [(2, .int .i64 p2), (8, .pointer (some ⟨b2, 0, none⟩)), (11, .pointer (some ⟨b4, 0, none⟩)), (13, .int .i64 x16.1), (78, .agg #[.int .i64 x18.W, .int .i64 x18.Mem, .int .i64 x18.In, .slice a16 (List.length x18.Code) c16]), (79, .slice a2 (List.length p1) c2)] hF (by kernel_rfl) fun fr hF => ?_
  obtain ⟨x19, hx19, h⟩ := bindE h
  refine s_call [.slice a2 (List.length p1) c2] Try.call22 rfl rfl hF rfl (laws_toIntS_ok n p1 hx19 (ra1)) fun v w25 fr hRes hF => ?_
  obtain ⟨a17, c17, rfl, _, hp, hs2⟩ := hRes
  obtain ⟨S19, hp, hs⟩ := hs.got hM0 hp hs2
  have ra1 := ra1.stp hM0 hp
  have hM0 := hM0.stp hp
  have hs : Sep [SL (α := Int) 3 (.slice a17 (List.length x19) c17) x19, SL (α := D.Ins) 66 (.slice a16 (List.length x18.Code) c16) x18.Code, SL (α := Int) 3 (.slice a11 (List.length x7.Regs) c11) x16.2.Regs, SL (α := Int) 3 (.slice a12 (List.length x7.Mem) c12) x16.2.Mem, SL (α := Int) 3 (.slice a13 (List.length x7.Stack) c13) x16.2.Stack, SL (α := Int) 3 (.slice a14 (List.length x7.Out) c14) x16.2.Out, BX b4 28 [.int .i64 x7.Pc, .slice a11 (List.length x7.Regs) c11, .slice a12 (List.length x7.Mem) c12, .slice a13 (List.length x7.Stack) c13, .int .i64 x7.In, .slice a14 (List.length x7.Out) c14, .int .i64 x7.Code, .int .i64 x7.Steps], BX b2 28 [.int .i64 x4.Pc, .slice a5 (List.length x4.Regs) c5, .slice a6 (List.length x4.Mem) c6, .slice a7 (List.length x4.Stack) c7, .int .i64 x4.In, .slice a8 (List.length x4.Out) c8, .int .i64 x4.Code, .int .i64 x4.Steps], SL (α := Int) 3 (.slice a5 (List.length x4.Regs) c5) x4.Regs, SL (α := Int) 3 (.slice a6 (List.length x4.Mem) c6) x4.Mem, SL (α := Int) 3 (.slice a7 (List.length x4.Stack) c7) x4.Stack, SL (α := Int) 3 (.slice a8 (List.length x4.Out) c8) x4.Out] w25 S19 := hs
  refine from_pure 1 [(8, .pointer (some ⟨b2, 0, none⟩)), (11, .pointer (some ⟨b4, 0, none⟩)), (13, .int .i64 x16.1), (78, .agg #[.int .i64 x18.W, .int .i64 x18.Mem, .int .i64 x18.In, .slice a16 (List.length x18.Code) c16]), (80, .slice a17 (List.length x19) c17), (81, .int .i64 p2)] hF (by kernel_rfl) fun fr hF => ?_
  obtain ⟨x20, hx20, h⟩ := bindE h
  refine s_call [.agg #[.int .i64 x18.W, .int .i64 x18.Mem, .int .i64 x18.In, .slice a16 (List.length x18.Code) c16], .slice a17 (List.length x19) c17, .int .i64 p2] Try.call27 rfl rfl hF rfl (impl_RunProgram_ok n x18 x19 p2 hx20 (RV.mk_Program x18 (RV.any (hs.rv 1 rfl))) (hs.rv 0 rfl)) fun v w26 fr hRes hF => ?_
  obtain ⟨a18, c18, a19, c19, a20, c20, a21, c21, rfl, _, hp, hs2⟩ := hRes
  obtain ⟨S20, hp, hs⟩ := hs.got hM0 hp hs2
  have hM0 := hM0.stp hp
  have hs : Sep [SL (α := Int) 3 (.slice a18 (List.length x20.Regs) c18) x20.Regs, SL (α := Int) 3 (.slice a19 (List.length x20.Mem) c19) x20.Mem, SL (α := Int) 3 (.slice a20 (List.length x20.Stack) c20) x20.Stack, SL (α := Int) 3 (.slice a21 (List.length x20.Out) c21) x20.Out, SL (α := Int) 3 (.slice a17 (List.length x19) c17) x19, SL (α := D.Ins) 66 (.slice a16 (List.length x18.Code) c16) x18.Code, SL (α := Int) 3 (.slice a11 (List.length x7.Regs) c11) x16.2.Regs, SL (α := Int) 3 (.slice a12 (List.length x7.Mem) c12) x16.2.Mem, SL (α := Int) 3 (.slice a13 (List.length x7.Stack) c13) x16.2.Stack, SL (α := Int) 3 (.slice a14 (List.length x7.Out) c14) x16.2.Out, BX b4 28 [.int .i64 x7.Pc, .slice a11 (List.length x7.Regs) c11, .slice a12 (List.length x7.Mem) c12, .slice a13 (List.length x7.Stack) c13, .int .i64 x7.In, .slice a14 (List.length x7.Out) c14, .int .i64 x7.Code, .int .i64 x7.Steps], BX b2 28 [.int .i64 x4.Pc, .slice a5 (List.length x4.Regs) c5, .slice a6 (List.length x4.Mem) c6, .slice a7 (List.length x4.Stack) c7, .int .i64 x4.In, .slice a8 (List.length x4.Out) c8, .int .i64 x4.Code, .int .i64 x4.Steps], SL (α := Int) 3 (.slice a5 (List.length x4.Regs) c5) x4.Regs, SL (α := Int) 3 (.slice a6 (List.length x4.Mem) c6) x4.Mem, SL (α := Int) 3 (.slice a7 (List.length x4.Stack) c7) x4.Stack, SL (α := Int) 3 (.slice a8 (List.length x4.Out) c8) x4.Out] w26 S20 := hs
  have hs : Sep [SL (α := Int) 3 (.slice a18 (List.length x20.Regs) c18) x20.Regs, SL (α := Int) 3 (.slice a19 (List.length x20.Mem) c19) x20.Mem, SL (α := Int) 3 (.slice a20 (List.length x20.Stack) c20) x20.Stack, SL (α := Int) 3 (.slice a21 (List.length x20.Out) c21) x20.Out, SL (α := Int) 3 (.slice a11 (List.length x7.Regs) c11) x16.2.Regs, SL (α := Int) 3 (.slice a12 (List.length x7.Mem) c12) x16.2.Mem, SL (α := Int) 3 (.slice a13 (List.length x7.Stack) c13) x16.2.Stack, SL (α := Int) 3 (.slice a14 (List.length x7.Out) c14) x16.2.Out, BX b4 28 [.int .i64 x7.Pc, .slice a11 (List.length x7.Regs) c11, .slice a12 (List.length x7.Mem) c12, .slice a13 (List.length x7.Stack) c13, .int .i64 x7.In, .slice a14 (List.length x7.Out) c14, .int .i64 x7.Code, .int .i64 x7.Steps], BX b2 28 [.int .i64 x4.Pc, .slice a5 (List.length x4.Regs) c5, .slice a6 (List.length x4.Mem) c6, .slice a7 (List.length x4.Stack) c7, .int .i64 x4.In, .slice a8 (List.length x4.Out) c8, .int .i64 x4.Code, .int .i64 x4.Steps], SL (α := Int) 3 (.slice a5 (List.length x4.Regs) c5) x4.Regs, SL (α := Int) 3 (.slice a6 (List.length x4.Mem) c6) x4.Mem, SL (α := Int) 3 (.slice a7 (List.length x4.Stack) c7) x4.Stack, SL (α := Int) 3 (.slice a8 (List.length x4.Out) c8) x4.Out] w26 S20 := Sep.pick [0, 1, 2, 3, 6, 7, 8, 9, 10, 11, 12, 13, 14, 15] hs (by decide) rfl
  refine q_alloc (z := .agg #[.int .i64 0, .slice none (List.length ([] : List Int)) 0, .slice none (List.length ([] : List Int)) 0, .slice none (List.length ([] : List Int)) 0, .int .i64 0, .slice none (List.length ([] : List Int)) 0, .int .i64 0, .int .i64 0]) hs hM0 [.int .i64 0, .slice none (List.length ([] : List Int)) 0, .slice none (List.length ([] : List Int)) 0, .slice none (List.length ([] : List Int)) 0, .int .i64 0, .slice none (List.length ([] : List Int)) 0, .int .i64 0, .int .i64 0] rfl rfl hF (by kernel_rfl) rfl fun b5 w27 S21 fr hs hp hF => ?_
  have hM0 := hM0.stp hp
  have hs : Sep [BX b5 28 [.int .i64 0, .slice none (List.length ([] : List Int)) 0, .slice none (List.length ([] : List Int)) 0, .slice none (List.length ([] : List Int)) 0, .int .i64 0, .slice none (List.length ([] : List Int)) 0, .int .i64 0, .int .i64 0], SL (α := Int) 3 (.slice a18 (List.length x20.Regs) c18) x20.Regs, SL (α := Int) 3 (.slice a19 (List.length x20.Mem) c19) x20.Mem, SL (α := Int) 3 (.slice a20 (List.length x20.Stack) c20) x20.Stack, SL (α := Int) 3 (.slice a21 (List.length x20.Out) c21) x20.Out, SL (α := Int) 3 (.slice a11 (List.length x7.Regs) c11) x16.2.Regs, SL (α := Int) 3 (.slice a12 (List.length x7.Mem) c12) x16.2.Mem, SL (α := Int) 3 (.slice a13 (List.length x7.Stack) c13) x16.2.Stack, SL (α := Int) 3 (.slice a14 (List.length x7.Out) c14) x16.2.Out, BX b4 28 [.int .i64 x7.Pc, .slice a11 (List.length x7.Regs) c11, .slice a12 (List.length x7.Mem) c12, .slice a13 (List.length x7.Stack) c13, .int .i64 x7.In, .slice a14 (List.length x7.Out) c14, .int .i64 x7.Code, .int .i64 x7.Steps], BX b2 28 [.int .i64 x4.Pc, .slice a5 (List.length x4.Regs) c5, .slice a6 (List.length x4.Mem) c6, .slice a7 (List.length x4.Stack) c7, .int .i64 x4.In, .slice a8 (List.length x4.Out) c8, .int .i64 x4.Code, .int .i64 x4.Steps], SL (α := Int) 3 (.slice a5 (List.length x4.Regs) c5) x4.Regs, SL (α := Int) 3 (.slice a6 (List.length x4.Mem) c6) x4.Mem, SL (α := Int) 3 (.slice a7 (List.length x4.Stack) c7) x4.Stack, SL (α := Int) 3 (.slice a8 (List.length x4.Out) c8) x4.Out] w27 S21 := hs
  refine q_storeBoxS 0 hs hM0 rfl [.int .i64 x20.Pc, .slice a18 (List.length x20.Regs) c18, .slice a19 (List.length x20.Mem) c19, .slice a20 (List.length x20.Stack) c20, .int .i64 x20.In, .slice a21 (List.length x20.Out) c21, .int .i64 x20.Code, .int .i64 x20.Steps] rfl hF rfl rfl (by kernel_rfl) rfl rfl rfl fun w28 S22 hs hp hF => ?_
  have hM0 := hM0.stp hp
  have hs : Sep [BX b5 28 [.int .i64 x20.Pc, .slice a18 (List.length x20.Regs) c18, .slice a19 (List.length x20.Mem) c19, .slice a20 (List.length x20.Stack) c20, .int .i64 x20.In, .slice a21 (List.length x20.Out) c21, .int .i64 x20.Code, .int .i64 x20.Steps], SL (α := Int) 3 (.slice a18 (List.length x20.Regs) c18) x20.Regs, SL (α := Int) 3 (.slice a19 (List.length x20.Mem) c19) x20.Mem, SL (α := Int) 3 (.slice a20 (List.length x20.Stack) c20) x20.Stack, SL (α := Int) 3 (.slice a21 (List.length x20.Out) c21) x20.Out, SL (α := Int) 3 (.slice a11 (List.length x7.Regs) c11) x16.2.Regs, SL (α := Int) 3 (.slice a12 (List.length x7.Mem) c12) x16.2.Mem, SL (α := Int) 3 (.slice a13 (List.length x7.Stack) c13) x16.2.Stack, SL (α := Int) 3 (.slice a14 (List.length x7.Out) c14) x16.2.Out, BX b4 28 [.int .i64 x7.Pc, .slice a11 (List.length x7.Regs) c11, .slice a12 (List.length x7.Mem) c12, .slice a13 (List.length x7.Stack) c13, .int .i64 x7.In, .slice a14 (List.length x7.Out) c14, .int .i64 x7.Code, .int .i64 x7.Steps], BX b2 28 [.int .i64 x4.Pc, .slice a5 (List.length x4.Regs) c5, .slice a6 (List.length x4.Mem) c6, .slice a7 (List.length x4.Stack) c7, .int .i64 x4.In, .slice a8 (List.length x4.Out) c8, .int .i64 x4.Code, .int .i64 x4.Steps], SL (α := Int) 3 (.slice a5 (List.length x4.Regs) c5) x4.Regs, SL (α := Int) 3 (.slice a6 (List.length x4.Mem) c6) x4.Mem, SL (α := Int) 3 (.slice a7 (List.length x4.Stack) c7) x4.Stack, SL (α := Int) 3 (.slice a8 (List.length x4.Out) c8) x4.Out] w28 S22 := hs
  refine from_end rfl (then_normal ?_)
  refine wp_seq ?_
  refine wp_seq (wp_text' ?_)
  refine s_loadBoxS ty28 rfl rfl hF rfl (hs.bx 0 rfl) rfl rfl fun fr hF => ?_
  have hs : Sep [SL (α := Int) 3 (.slice a18 (List.length x20.Regs) c18) x20.Regs, SL (α := Int) 3 (.slice a19 (List.length x20.Mem) c19) x20.Mem, SL (α := Int) 3 (.slice a20 (List.length x20.Stack) c20) x20.Stack, SL (α := Int) 3 (.slice a21 (List.length x20.Out) c21) x20.Out, SL (α := Int) 3 (.slice a11 (List.length x7.Regs) c11) x16.2.Regs, SL (α := Int) 3 (.slice a12 (List.length x7.Mem) c12) x16.2.Mem, SL (α := Int) 3 (.slice a13 (List.length x7.Stack) c13) x16.2.Stack, SL (α := Int) 3 (.slice a14 (List.length x7.Out) c14) x16.2.Out, BX b4 28 [.int .i64 x7.Pc, .slice a11 (List.length x7.Regs) c11, .slice a12 (List.length x7.Mem) c12, .slice a13 (List.length x7.Stack) c13, .int .i64 x7.In, .slice a14 (List.length x7.Out) c14, .int .i64 x7.Code, .int .i64 x7.Steps], BX b2 28 [.int .i64 x4.Pc, .slice a5 (List.length x4.Regs) c5, .slice a6 (List.length x4.Mem) c6, .slice a7 (List.length x4.Stack) c7, .int .i64 x4.In, .slice a8 (List.length x4.Out) c8, .int .i64 x4.Code, .int .i64 x4.Steps], SL (α := Int) 3 (.slice a5 (List.length x4.Regs) c5) x4.Regs, SL (α := Int) 3 (.slice a6 (List.length x4.Mem) c6) x4.Mem, SL (α := Int) 3 (.slice a7 (List.length x4.Stack) c7) x4.Stack, SL (α := Int) 3 (.slice a8 (List.length x4.Out) c8) x4.Out] w28 S22 := Sep.pick [1, 2, 3, 4, 5, 6, 7, 8, 9, 10, 11, 12, 13, 14] hs (by decide) rfl
  refine s_loadBoxS ty28 rfl rfl hF rfl (hs.bx 9 rfl) rfl rfl fun fr hF => ?_
  have hs : Sep [SL (α := Int) 3 (.slice a18 (List.length x20.Regs) c18) x20.Regs, SL (α := Int) 3 (.slice a19 (List.length x20.Mem) c19) x20.Mem, SL (α := Int) 3 (.slice a20 (List.length x20.Stack) c20) x20.Stack, SL (α := Int) 3 (.slice a21 (List.length x20.Out) c21) x20.Out, SL (α := Int) 3 (.slice a11 (List.length x7.Regs) c11) x16.2.Regs, SL (α := Int) 3 (.slice a12 (List.length x7.Mem) c12) x16.2.Mem, SL (α := Int) 3 (.slice a13 (List.length x7.Stack) c13) x16.2.Stack, SL (α := Int) 3 (.slice a14 (List.length x7.Out) c14) x16.2.Out, BX b4 28 [.int .i64 x7.Pc, .slice a11 (List.length x7.Regs) c11, .slice a12 (List.length x7.Mem) c12, .slice a13 (List.length x7.Stack) c13, .int .i64 x7.In, .slice a14 (List.length x7.Out) c14, .int .i64 x7.Code, .int .i64 x7.Steps], SL (α := Int) 3 (.slice a5 (List.length x4.Regs) c5) x4.Regs, SL (α := Int) 3 (.slice a6 (List.length x4.Mem) c6) x4.Mem, SL (α := Int) 3 (.slice a7 (List.length x4.Stack) c7) x4.Stack, SL (α := Int) 3 (.slice a8 (List.length x4.Out) c8) x4.Out] w28 S22 := Sep.pick [0, 1, 2, 3, 4, 5, 6, 7, 8, 10, 11, 12, 13] hs (by decide) rfl
  obtain ⟨x21, hx21, h⟩ := bindE h
  refine s_call [.agg #[.int .i64 x20.Pc, .slice a18 (List.length x20.Regs) c18, .slice a19 (List.length x20.Mem) c19, .slice a20 (List.length x20.Stack) c20, .int .i64 x20.In, .slice a21 (List.length x20.Out) c21, .int .i64 x20.Code, .int .i64 x20.Steps], .agg #[.int .i64 x4.Pc, .slice a5 (List.length x4.Regs) c5, .slice a6 (List.length x4.Mem) c6, .slice a7 (List.length x4.Stack) c7, .int .i64 x4.In, .slice a8 (List.length x4.Out) c8, .int .i64 x4.Code, .int .i64 x4.Steps]] Try.call14 rfl rfl hF rfl (laws_eqState_ok n x20 x4 hx21 (RV.mk_State x20 (RV.any (hs.rv 0 rfl)) (RV.any (hs.rv 1 rfl)) (RV.any (hs.rv 2 rfl)) (RV.any (hs.rv 3 rfl))) (RV.mk_State x4 (RV.any (hs.rv 9 rfl)) (RV.any (hs.rv 10 rfl)) (RV.any (hs.rv 11 rfl)) (RV.any (hs.rv 12 rfl)))) fun v w29 fr hRes hF => ?_
  obtain ⟨rfl, hc⟩ := hRes
  have hs := hs.ext hc
  have hM0 := hM0.ext hc
  have hs : Sep [SL (α := Int) 3 (.slice a11 (List.length x7.Regs) c11) x16.2.Regs, SL (α := Int) 3 (.slice a12 (List.length x7.Mem) c12) x16.2.Mem, SL (α := Int) 3 (.slice a13 (List.length x7.Stack) c13) x16.2.Stack, SL (α := Int) 3 (.slice a14 (List.length x7.Out) c14) x16.2.Out, BX b4 28 [.int .i64 x7.Pc, .slice a11 (List.length x7.Regs) c11, .slice a12 (List.length x7.Mem) c12, .slice a13 (List.length x7.Stack) c13, .int .i64 x7.In, .slice a14 (List.length x7.Out) c14, .int .i64 x7.Code, .int .i64 x7.Steps]] w29 S22 := Sep.pick [4, 5, 6, 7, 8] hs (by decide) rfl
  refine from_pure 1 [(11, .pointer (some ⟨b4, 0, none⟩)), (13, .int .i64 x16.1), (86, .bool (!x21))] hF (by kernel_rfl) fun fr hF => ?_
  refine from_end rfl (then_normal ?_)
  refine (wp_if hF (b := (!x21)) rfl (fun hb => ?_) (fun hb => ?_))
  · replace h := iteT hb h
    have hs : Sep [] w29 S22 := Sep.pick [] hs (by decide) rfl
    refine wp_seq (wp_pure [(6, .bool false)] hF (by kernel_rfl) fun fr hF => then_normal ?_)
    obtain rfl := Option.some.inj h
    exact wp_ret (then_ret (ret1 rfl hF rfl ⟨_, rfl, rfl, hM0.chg⟩))
  replace h := iteF hb h
  refine (wp_skip (then_normal ?_))
  refine wp_seq (wp_pure [(11, .pointer (some ⟨b4, 0, none⟩)), (13, .int .i64 x16.1), (14, .int .i64 1)] hF (by kernel_rfl) fun fr hF => then_normal ?_)
  refine wp_seq (wp_text' ?_)
  refine s_loadBoxS ty28 rfl rfl hF rfl (hs.bx 4 rfl) rfl rfl fun fr hF => ?_
  have hs : Sep [SL (α := Int) 3 (.slice a11 (List.length x7.Regs) c11) x16.2.Regs, SL (α := Int) 3 (.slice a12 (List.length x7.Mem) c12) x16.2.Mem, SL (α := Int) 3 (.slice a13 (List.length x7.Stack) c13) x16.2.Stack, SL (α := Int) 3 (.slice a14 (List.length x7.Out) c14) x16.2.Out] w29 S22 := Sep.pick [0, 1, 2, 3] hs (by decide) rfl
  refine from_pure 1 [(13, .int .i64 x16.1), (87, .agg #[.int .i64 x7.Pc, .slice a11 (List.length x7.Regs) c11, .slice a12 (List.length x7.Mem) c12, .slice a13 (List.length x7.Stack) c13, .int .i64 x7.In, .slice a14 (List.length x7.Out) c14, .int .i64 x7.Code, .int .i64 x7.Steps]), (88, .int .i64 1)] hF (by kernel_rfl) fun fr hF => ?_
  obtain ⟨x22, hx22, h⟩ := bindE h
  refine s_call [.agg #[.int .i64 x7.Pc, .slice a11 (List.length x7.Regs) c11, .slice a12 (List.length x7.Mem) c12, .slice a13 (List.length x7.Stack) c13, .int .i64 x7.In, .slice a14 (List.length x7.Out) c14, .int .i64 x7.Code, .int .i64 x7.Steps], .int .i64 1] Try.call18 rfl rfl hF rfl (laws_heldState_ok n (D.State.mk x7.Pc x16.2.Regs x16.2.Mem x16.2.Stack x7.In x16.2.Out x7.Code x7.Steps) 1 hx22 (RV.mk_State (D.State.mk x7.Pc x16.2.Regs x16.2.Mem x16.2.Stack x7.In x16.2.Out x7.Code x7.Steps) (RV.any (hs.rv 0 rfl)) (RV.any (hs.rv 1 rfl)) (RV.any (hs.rv 2 rfl)) (RV.any (hs.rv 3 rfl)))) fun v w30 fr hRes hF => ?_
  obtain ⟨rfl, hc⟩ := hRes
  have hs := hs.ext hc
  have hM0 := hM0.ext hc
  have hs : Sep [] w30 S22 := Sep.pick [] hs (by decide) rfl
  refine from_pure 1 [(13, .int .i64 x16.1), (14, .int .i64 x22)] hF (by kernel_rfl) fun fr hF => ?_
  refine from_end rfl (then_normal ?_)
  refine wp_seq ?_
  refine wp_seq (wp_pure [(13, .int .i64 x16.1), (14, .int .i64 x22), (91, .bool (decide (x22 < 0)))] hF (by kernel_rfl) fun fr hF => then_normal ?_)
  refine (wp_if hF (b := (decide (x22 < 0))) rfl (fun hb => ?_) (fun hb => ?_))
  · replace h := iteT hb h
    refine wp_seq (wp_pure [(6, .bool false)] hF (by kernel_rfl) fun fr hF => then_normal ?_)
    obtain rfl := Option.some.inj h
    exact wp_ret (then_ret (ret1 rfl hF rfl ⟨_, rfl, rfl, hM0.chg⟩))
  replace h := iteF hb h
  refine (wp_skip (then_normal ?_))
  refine wp_seq ?_
  refine wp_seq (wp_pure [(94, .bool (x22 != x16.1))] hF (by kernel_rfl) fun fr hF => then_normal ?_)
  refine (wp_if hF (b := (x22 != x16.1)) rfl (fun hb => ?_) (fun hb => ?_))
  · replace h := iteT hb h
    refine wp_seq (wp_pure [(6, .bool false)] hF (by kernel_rfl) fun fr hF => then_normal ?_)
    obtain rfl := Option.some.inj h
    exact wp_ret (then_ret (ret1 rfl hF rfl ⟨_, rfl, rfl, hM0.chg⟩))
  replace h := iteF hb h
  refine (wp_skip (then_normal ?_))
  refine wp_seq (wp_pure [(6, .bool true)] hF (by kernel_rfl) fun fr hF => then_normal ?_)
  obtain rfl := Option.some.inj h
  exact wp_ret (ret1 rfl hF rfl ⟨_, rfl, rfl, hM0.chg⟩)
end Go.Proofs.Ytbfphbpeajmihaa
