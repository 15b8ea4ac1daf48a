/- Printed by gen2.py: the walks. -/
import Derived.Test.YtbfphbpeajmihaaWlkC
set_option linter.unusedVariables false
set_option maxRecDepth 100000
namespace Go.Proofs.Ytbfphbpeajmihaa
open Go.GL Go.Maps Go.WideMaps
theorem laws_markIntS_ok (n : Nat) (p0 : List Int) (p1 : Int) {r : Int × (List Int)} (h : laws_markIntS n p0 p1 = some r) {w : World} {S0 F0 : Nat → Prop} {pa0 : Option Addr} {pn0 pc0 : Nat} (hs : Sep [SL (α := Int) 3 (.slice pa0 pn0 pc0) p0] w S0) (hb : ∀ k, S0 k → k < w.heap.size) (hd : ∀ k, S0 k → F0 k → False) :
    Calls Try.prog 25 [.slice pa0 pn0 pc0, .int .i64 p1].toArray w fun e w' => ∃ v, e = .returned v ∧ v = .int .i64 r.1 ∧ ∃ S', Stp w S0 w' S' ∧ Sep [SL (α := Int) 3 (.slice pa0 pn0 pc0) r.2] w' S' := by
  unfold laws_markIntS at h
  obtain ⟨hpn, hs⟩ := hs.relen 0 rfl
  subst hpn
  have hs : Sep [SL (α := Int) 3 (.slice pa0 (List.length p0) pc0) p0] w S0 := hs
  have hM0 : Mem w S0 (fun k => F0 k ∧ k < w.heap.size) w S0 (fun k => F0 k ∧ k < w.heap.size) := Mem.start hb (fun _ h => h.2) (fun k h1 h2 => hd k h1 h2.1)
  refine enter (N := 19) Try.func25 rfl Try.ntmps25 rfl fun fr hF => ?_
  refine wp_seq (wp_pure [(0, .slice pa0 (List.length p0) pc0), (1, .int .i64 p1)] hF (by kernel_rfl) fun fr hF => then_normal ?_)
  refine wp_seq ?_
  refine wp_seq (wp_pure [(0, .slice pa0 (List.length p0) pc0), (1, .int .i64 p1), (5, .int .i64 0)] hF (by kernel_rfl) fun fr hF => then_normal ?_)
  obtain ⟨rl1, hit1, h⟩ := bindE h
  have hk1 := h
  refine (wp_cut (M := fun fr w' => ∃ S2 F2, FrS 19 [(1, .int .i64 rl1.1)] fr ∧ Mem w S0 (fun k => F0 k ∧ k < w.heap.size) w' S2 F2 ∧ Sep [SL (α := Int) 3 (.slice pa0 (List.length p0) pc0) rl1.2] w' S2) (wp_block (wp_iter (Inv := fun s1 fr w' => ∃ S1 F1, FrS 19 [(0, .slice pa0 (List.length p0) pc0), (1, .int .i64 s1.1), (5, .int .i64 s1.2.1)] fr ∧ Mem w S0 (fun k => F0 k ∧ k < w.heap.size) w' S1 F1 ∧ Sep [SL (α := Int) 3 (.slice pa0 (List.length p0) pc0) s1.2.2] w' S1) hit1 ⟨S0, _, hF.sub _ (by kernel_rfl), (Mem.start hM0.bd hM0.bdF hM0.dj), hs⟩ fun s1 q1 fr w1i hI h hr1 => ?_)) fun fr w1o hM => ?_)
  · obtain ⟨S1, F1, hF, hM1, hs⟩ := hI
    refine wp_seq ?_
    refine wp_seq (wp_pure [(0, .slice pa0 (List.length p0) pc0), (1, .int .i64 s1.1), (5, .int .i64 s1.2.1), (9, .bool (decide (s1.2.1 < (len p0))))] hF (by kernel_rfl) fun fr hF => then_normal ?_)
    refine (wp_if hF (b := (decide (s1.2.1 < (len p0)))) rfl (fun hb => ?_) (fun hb => ?_))
    · replace h := iteT hb h
      refine (wp_skip (then_normal ?_))
      refine wp_seq (wp_block ?_)
      refine wp_seq (wp_text' ?_)
      refine from_pure 3 [(0, .slice pa0 (List.length p0) pc0), (1, .int .i64 s1.1), (5, .int .i64 s1.2.1), (12, .slice pa0 (List.length p0) pc0), (13, .int .i64 s1.2.1), (14, .int .i64 s1.1)] hF (by kernel_rfl) fun fr hF => ?_
      obtain ⟨x1, hx1, h⟩ := bindE h
      refine q_set (q := s1.1) 0 hs hM1 rfl Try.underlying26 ty3 rfl rfl rfl rfl hF rfl rfl (by simp) rfl rfl hx1 fun w1 S3 fr _ hs hp hF => ?_
      have hM1 := hM1.stp hp
      have hs : Sep [SL (α := Int) 3 (.slice pa0 (List.length p0) pc0) x1] w1 S3 := hs
      refine from_end rfl (then_normal ?_)
      refine (wp_pure [(0, .slice pa0 (List.length p0) pc0), (1, .int .i64 (w64 (s1.1 + 1))), (5, .int .i64 s1.2.1)] hF (by kernel_rfl) fun fr hF => ?_)
      refine blk_normal (then_normal ?_)
      refine (wp_pure [(0, .slice pa0 (List.length p0) pc0), (1, .int .i64 (w64 (s1.1 + 1))), (5, .int .i64 (w64 (s1.2.1 + 1)))] hF (by kernel_rfl) fun fr hF => then_normal ?_)
      exact ⟨_, (Option.some.inj h).symm, S3, _, hF.sub _ (by kernel_rfl), hM1, hs⟩
    replace h := iteF hb h
    refine (wp_exit (then_exit (then_exit (blk_exit_eq ?_))))
    obtain rfl := hr1 _ (Option.some.inj h).symm
    exact then_normal ⟨S1, _, hF.sub _ (by kernel_rfl), hM1, hs⟩
  · obtain ⟨S2, F2, hF, hMx, hs⟩ := hM
    have hM0 := hM0.trans hMx
    refine wp_seq (wp_pure [(4, .int .i64 rl1.1)] hF (by kernel_rfl) fun fr hF => then_normal ?_)
    obtain rfl := Option.some.inj h
    exact wp_ret (ret1 rfl hF rfl ⟨_, rfl, rfl, S2, hM0.out, hs⟩)

theorem laws_heldIntS_ok (n : Nat) (p0 : List Int) (p1 : Int) {r : Int} (h : laws_heldIntS n p0 p1 = some r) {w : World} {G0 : Nat → Prop} {va0 : Value} (ra0 : RV w G0 va0 p0) :
    Calls Try.prog 30 [va0, .int .i64 p1].toArray w fun e w' => ∃ v, e = .returned v ∧ v = .int .i64 r ∧ Chg Non w w' := by
  unfold laws_heldIntS at h
  have hs := Sep.nil w Non
  have hM0 : Mem w Non (fun k => (G0 k) ∧ k < w.heap.size) w Non (fun k => (G0 k) ∧ k < w.heap.size) := Mem.start (fun _ h => h.elim) (fun _ h => h.2) (fun _ h => h.elim)
  have ra0 := ra0.sub (F' := (fun k => (G0 k) ∧ k < w.heap.size)) (fun k hk h => ⟨h, hk⟩)
  obtain ⟨a1, c1, rfl, -⟩ := ra0.slice
  refine enter (N := 21) Try.func30 rfl Try.ntmps30 rfl fun fr hF => ?_
  refine wp_seq (wp_pure [(0, .slice a1 (List.length p0) c1), (1, .int .i64 p1)] hF (by kernel_rfl) fun fr hF => then_normal ?_)
  refine wp_seq ?_
  refine wp_seq (wp_pure [(0, .slice a1 (List.length p0) c1), (1, .int .i64 p1), (5, .int .i64 0)] hF (by kernel_rfl) fun fr hF => then_normal ?_)
  obtain ⟨rl1, hit1, h⟩ := bindE h
  have hk1 := h
  refine (wp_cut (M := fun fr w' => ∃ s, rl1 = .inl s ∧ ∃ S2 F2, FrS 21 [(1, .int .i64 s)] fr ∧ Mem w Non (fun k => (G0 k) ∧ k < w.heap.size) w' S2 F2 ∧ Sep [] w' S2) (wp_block (wp_iter (Inv := fun s1 fr w' => ∃ S1 F1, FrS 21 [(0, .slice a1 (List.length p0) c1), (1, .int .i64 s1.1), (5, .int .i64 s1.2)] fr ∧ Mem w Non (fun k => (G0 k) ∧ k < w.heap.size) w' S1 F1 ∧ Sep [] w' S1) hit1 ⟨Non, _, hF.sub _ (by kernel_rfl), (Mem.start hM0.bd hM0.bdF hM0.dj), hs⟩ fun s1 q1 fr w1i hI h hr1 => ?_)) fun fr w1o hM => ?_)
  · obtain ⟨S1, F1, hF, hM1, hs⟩ := hI
    have ra0 := ra0.mem hM1
    refine wp_seq ?_
    refine wp_seq (wp_pure [(0, .slice a1 (List.length p0) c1), (1, .int .i64 s1.1), (5, .int .i64 s1.2), (9, .bool (decide (s1.2 < (len p0))))] hF (by kernel_rfl) fun fr hF => then_normal ?_)
    refine (wp_if hF (b := (decide (s1.2 < (len p0)))) rfl (fun hb => ?_) (fun hb => ?_))
    · replace h := iteT hb h
      refine (wp_skip (then_normal ?_))
      refine wp_seq (wp_block ?_)
      refine wp_seq ?_
      refine wp_seq (wp_text' ?_)
      refine from_pure 2 [(0, .slice a1 (List.length p0) c1), (1, .int .i64 s1.1), (5, .int .i64 s1.2), (12, .slice a1 (List.length p0) c1), (13, .int .i64 s1.2)] hF (by kernel_rfl) fun fr hF => ?_
      obtain ⟨x1, hx1, h⟩ := bindE h
      refine s_elemF (z := x1) (.int .i64 x1) ty3 Try.underlying26 rfl rfl rfl rfl rfl hF rfl (ra0) rfl (get?_nn hx1) (get?_at hx1) rfl fun p fr hF => ?_
      refine from_pure 2 [(0, .slice a1 (List.length p0) c1), (1, .int .i64 s1.1), (5, .int .i64 s1.2), (17, .bool (x1 != s1.1))] hF (by kernel_rfl) fun fr hF => ?_
      refine from_end rfl (then_normal ?_)
      refine (wp_if hF (b := (x1 != s1.1)) rfl (fun hb => ?_) (fun hb => ?_))
      · replace h := iteT hb h
        refine wp_seq (wp_pure [(4, .int .i64 (-1))] hF (by kernel_rfl) fun fr hF => then_normal ?_)
        obtain rfl := hr1 _ (Option.some.inj h).symm
        obtain rfl := Option.some.inj hk1
        exact wp_ret (then_ret (blk_ret (then_ret (then_ret (blk_ret (then_ret (ret1 rfl hF rfl ⟨_, rfl, rfl, (hM0.trans hM1).chg⟩)))))))
      replace h := iteF hb h
      refine (wp_skip (then_normal ?_))
      refine (wp_pure [(0, .slice a1 (List.length p0) c1), (1, .int .i64 (w64 (s1.1 + 1))), (5, .int .i64 s1.2)] hF (by kernel_rfl) fun fr hF => ?_)
      refine blk_normal (then_normal ?_)
      refine (wp_pure [(0, .slice a1 (List.length p0) c1), (1, .int .i64 (w64 (s1.1 + 1))), (5, .int .i64 (w64 (s1.2 + 1)))] hF (by kernel_rfl) fun fr hF => then_normal ?_)
      exact ⟨_, (Option.some.inj h).symm, S1, _, hF.sub _ (by kernel_rfl), hM1, hs⟩
    replace h := iteF hb h
    refine (wp_exit (then_exit (then_exit (blk_exit_eq ?_))))
    obtain rfl := hr1 _ (Option.some.inj h).symm
    exact then_normal ⟨_, rfl, S1, _, hF.sub _ (by kernel_rfl), hM1, hs⟩
  · obtain ⟨s1r, rfl, hM⟩ := hM
    obtain ⟨S2, F2, hF, hMx, hs⟩ := hM
    have hM0 := hM0.trans hMx
    refine wp_seq (wp_pure [(4, .int .i64 s1r)] hF (by kernel_rfl) fun fr hF => then_normal ?_)
    obtain rfl := Option.some.inj h
    exact wp_ret (ret1 rfl hF rfl ⟨_, rfl, rfl, hM0.chg⟩)

theorem laws_FnExactTraceOf_ok (n : Nat) (p0 : D.Program) (p1 : List Int) (p2 : Int) {r : Bool} (h : laws_FnExactTraceOf n p0 p1 p2 = some r) {w : World} {G0 : Nat → Prop} {va0 : Value} (ra0 : RV w G0 va0 p0) {G1 : Nat → Prop} {va1 : Value} (ra1 : RV w G1 va1 p1) :
    Calls Try.prog 6 [va0, va1, .int .i64 p2].toArray w fun e w' => ∃ v, e = .returned v ∧ v = .bool r ∧ Chg Non w w' := by
  unfold laws_FnExactTraceOf at h
  have hs := Sep.nil w Non
  have hM0 : Mem w Non (fun k => (G0 k ∨ G1 k) ∧ k < w.heap.size) w Non (fun k => (G0 k ∨ G1 k) ∧ k < w.heap.size) := Mem.start (fun _ h => h.elim) (fun _ h => h.2) (fun _ h => h.elim)
  have ra0 := ra0.sub (F' := (fun k => (G0 k ∨ G1 k) ∧ k < w.heap.size)) (fun k hk h => ⟨.inl h, hk⟩)
  obtain ⟨v1, rfl, r1⟩ := RV.Program ra0
  obtain ⟨a1, c1, rfl, -⟩ := r1.slice
  have ra1 := ra1.sub (F' := (fun k => (G0 k ∨ G1 k) ∧ k < w.heap.size)) (fun k hk h => ⟨.inr (h), hk⟩)
  obtain ⟨a2, c2, rfl, -⟩ := ra1.slice
  refine enter (N := 95) Try.func6 rfl Try.ntmps6 rfl fun fr hF => ?_
  refine wp_seq (wp_text' ?_)
  refine q_box hs hM0 [.int .i64 p0.W, .int .i64 p0.Mem, .int .i64 p0.In, .slice a1 (List.length p0.Code) c1] rfl rfl hF rfl rfl fun b1 w1 S1 fr hs hp hF => ?_
  have r1 := r1.stp hM0 hp
  have ra1 := ra1.stp hM0 hp
  have hM0 := hM0.stp hp
  have hs : Sep [BX b1 24 [.int .i64 p0.W, .int .i64 p0.Mem, .int .i64 p0.In, .slice a1 (List.length p0.Code) c1]] w1 S1 := hs
  refine from_pure 1 [(1, .slice a2 (List.length p1) c2), (2, .int .i64 p2), (3, .pointer (some ⟨b1, 0, none⟩))] hF (by kernel_rfl) fun fr hF => ?_
  refine from_end rfl (then_normal ?_)
  refine wp_seq ?_
  refine wp_seq (wp_pure [(1, .slice a2 (List.length p1) c2), (2, .int .i64 p2), (3, .pointer (some ⟨b1, 0, none⟩)), (18, .bool (decide ((len p1) > 1048576)))] hF (by kernel_rfl) fun fr hF => then_normal ?_)
  refine (wp_if hF (b := (decide ((len p1) > 1048576))) rfl (fun hb => ?_) (fun hb => ?_))
  · replace h := iteT hb h
    have hs : Sep [] w1 S1 := Sep.pick [] hs (by decide) rfl
    refine wp_seq (wp_pure [(6, .bool true)] hF (by kernel_rfl) fun fr hF => then_normal ?_)
    obtain rfl := Option.some.inj h
    exact wp_ret (then_ret (ret1 rfl hF rfl ⟨_, rfl, rfl, hM0.chg⟩))
  replace h := iteF hb h
  refine (wp_skip (then_normal ?_))
  refine wp_seq (wp_pure [(1, .slice a2 (List.length p1) c2), (2, .int .i64 p2), (3, .pointer (some ⟨b1, 0, none⟩)), (7, .int .i64 1048576)] hF (by kernel_rfl) fun fr hF => then_normal ?_)
  refine wp_seq (wp_text' ?_)
  refine s_loadBoxS ty24 rfl rfl hF rfl (hs.bx 0 rfl) rfl rfl fun fr hF => ?_
  refine from_pure 1 [(1, .slice a2 (List.length p1) c2), (2, .int .i64 p2), (3, .pointer (some ⟨b1, 0, none⟩)), (19, .agg #[.int .i64 p0.W, .int .i64 p0.Mem, .int .i64 p0.In, .slice a1 (List.length p0.Code) c1]), (20, .int .i64 1048576)] hF (by kernel_rfl) fun fr hF => ?_
  obtain ⟨x1, hx1, h⟩ := bindE h
  refine s_call [.agg #[.int .i64 p0.W, .int .i64 p0.Mem, .int .i64 p0.In, .slice a1 (List.length p0.Code) c1], .int .i64 1048576] Try.call10 rfl rfl hF rfl (laws_szProgram_ok p0 1048576 hx1 (RV.mk_Program p0 (r1))) fun v w2 fr hRes hF => ?_
  obtain ⟨rfl, hc⟩ := hRes
  have ra1 := ra1.ext hc
  have r1 := r1.ext hc
  have hs := hs.ext hc
  have hM0 := hM0.ext hc
  refine from_pure 1 [(1, .slice a2 (List.length p1) c2), (2, .int .i64 p2), (3, .pointer (some ⟨b1, 0, none⟩)), (7, .int .i64 x1)] hF (by kernel_rfl) fun fr hF => ?_
  refine from_end rfl (then_normal ?_)
  refine wp_seq ?_
  refine wp_seq (wp_pure [(1, .slice a2 (List.length p1) c2), (2, .int .i64 p2), (3, .pointer (some ⟨b1, 0, none⟩)), (23, .bool (decide (x1 < 0)))] hF (by kernel_rfl) fun fr hF => then_normal ?_)
  refine (wp_if hF (b := (decide (x1 < 0))) rfl (fun hb => ?_) (fun hb => ?_))
  · replace h := iteT hb h
    have hs : Sep [] w2 S1 := Sep.pick [] hs (by decide) rfl
    refine wp_seq (wp_pure [(6, .bool true)] hF (by kernel_rfl) fun fr hF => then_normal ?_)
    obtain rfl := Option.some.inj h
    exact wp_ret (then_ret (ret1 rfl hF rfl ⟨_, rfl, rfl, hM0.chg⟩))
  replace h := iteF hb h
  refine (wp_skip (then_normal ?_))
  refine wp_seq (wp_text' ?_)
  refine s_loadBoxS ty24 rfl rfl hF rfl (hs.bx 0 rfl) rfl rfl fun fr hF => ?_
  obtain ⟨x2, hx2, h⟩ := bindE h
  refine s_call [.agg #[.int .i64 p0.W, .int .i64 p0.Mem, .int .i64 p0.In, .slice a1 (List.length p0.Code) c1]] Try.call12 rfl rfl hF rfl (laws_toProgram_ok n p0 hx2 (RV.mk_Program p0 (r1))) fun v w3 fr hRes hF => ?_
  obtain ⟨a3, c3, rfl, _, hp, hs2⟩ := hRes
  obtain ⟨S2, hp, hs⟩ := hs.got hM0 hp hs2
  have ra1 := ra1.stp hM0 hp
  have r1 := r1.stp hM0 hp
  have hM0 := hM0.stp hp
  have hs : Sep [SL (α := D.Ins) 66 (.slice a3 (List.length x2.Code) c3) x2.Code, BX b1 24 [.int .i64 p0.W, .int .i64 p0.Mem, .int .i64 p0.In, .slice a1 (List.length p0.Code) c1]] w3 S2 := hs
  refine from_pure 1 [(1, .slice a2 (List.length p1) c2), (2, .int .i64 p2), (3, .pointer (some ⟨b1, 0, none⟩)), (25, .agg #[.int .i64 x2.W, .int .i64 x2.Mem, .int .i64 x2.In, .slice a3 (List.length x2.Code) c3]), (26, .slice a2 (List.length p1) c2)] hF (by kernel_rfl) fun fr hF => ?_
  obtain ⟨x3, hx3, h⟩ := bindE h
  refine s_call [.slice a2 (List.length p1) c2] Try.call22 rfl rfl hF rfl (laws_toIntS_ok n p1 hx3 (ra1)) fun v w4 fr hRes hF => ?_
  obtain ⟨a4, c4, rfl, _, hp, hs2⟩ := hRes
  obtain ⟨S3, hp, hs⟩ := hs.got hM0 hp hs2
  have ra1 := ra1.stp hM0 hp
  have r1 := r1.stp hM0 hp
  have hM0 := hM0.stp hp
  have hs : Sep [SL (α := Int) 3 (.slice a4 (List.length x3) c4) x3, SL (α := D.Ins) 66 (.slice a3 (List.length x2.Code) c3) x2.Code, BX b1 24 [.int .i64 p0.W, .int .i64 p0.Mem, .int .i64 p0.In, .slice a1 (List.length p0.Code) c1]] w4 S3 := hs
  refine from_pure 1 [(1, .slice a2 (List.length p1) c2), (2, .int .i64 p2), (3, .pointer (some ⟨b1, 0, none⟩)), (25, .agg #[.int .i64 x2.W, .int .i64 x2.Mem, .int .i64 x2.In, .slice a3 (List.length x2.Code) c3]), (27, .slice a4 (List.length x3) c4), (28, .int .i64 p2)] hF (by kernel_rfl) fun fr hF => ?_
  obtain ⟨x4, hx4, h⟩ := bindE h
  refine s_call [.agg #[.int .i64 x2.W, .int .i64 x2.Mem, .int .i64 x2.In, .slice a3 (List.length x2.Code) c3], .slice a4 (List.length x3) c4, .int .i64 p2] Try.call28 rfl rfl hF rfl (spec_TraceOf_ok n x2 x3 p2 hx4 (RV.mk_Program x2 (RV.any (hs.rv 1 rfl))) (hs.rv 0 rfl)) fun v w5 fr hRes hF => ?_
  obtain ⟨a5, c5, rfl, _, hp, hs2⟩ := hRes
  obtain ⟨S4, hp, hs⟩ := hs.got hM0 hp hs2
  have ra1 := ra1.stp hM0 hp
  have r1 := r1.stp hM0 hp
  have hM0 := hM0.stp hp
  have hs : Sep [SL (α := Int) 3 (.slice a5 (List.length x4) c5) x4, SL (α := Int) 3 (.slice a4 (List.length x3) c4) x3, SL (α := D.Ins) 66 (.slice a3 (List.length x2.Code) c3) x2.Code, BX b1 24 [.int .i64 p0.W, .int .i64 p0.Mem, .int .i64 p0.In, .slice a1 (List.length p0.Code) c1]] w5 S4 := hs
  have hs : Sep [SL (α := Int) 3 (.slice a5 (List.length x4) c5) x4, BX b1 24 [.int .i64 p0.W, .int .i64 p0.Mem, .int .i64 p0.In, .slice a1 (List.length p0.Code) c1]] w5 S4 := Sep.pick [0, 3] hs (by decide) rfl
  refine from_pure 1 [(1, .slice a2 (List.length p1) c2), (2, .int .i64 p2), (3, .pointer (some ⟨b1, 0, none⟩)), (8, .slice a5 (List.length x4) c5)] hF (by kernel_rfl) fun fr hF => ?_
  refine from_end rfl (then_normal ?_)
  refine wp_seq (wp_text' ?_)
  refine s_loadBoxS ty24 rfl rfl hF rfl (hs.bx 1 rfl) rfl rfl fun fr hF => ?_
  obtain ⟨x5, hx5, h⟩ := bindE h
  refine s_call [.agg #[.int .i64 p0.W, .int .i64 p0.Mem, .int .i64 p0.In, .slice a1 (List.length p0.Code) c1]] Try.call12 rfl rfl hF rfl (laws_toProgram_ok n p0 hx5 (RV.mk_Program p0 (r1))) fun v w6 fr hRes hF => ?_
  obtain ⟨a6, c6, rfl, _, hp, hs2⟩ := hRes
  obtain ⟨S5, hp, hs⟩ := hs.got hM0 hp hs2
  have ra1 := ra1.stp hM0 hp
  have r1 := r1.stp hM0 hp
  have hM0 := hM0.stp hp
  have hs : Sep [SL (α := D.Ins) 66 (.slice a6 (List.length x5.Code) c6) x5.Code, SL (α := Int) 3 (.slice a5 (List.length x4) c5) x4, BX b1 24 [.int .i64 p0.W, .int .i64 p0.Mem, .int .i64 p0.In, .slice a1 (List.length p0.Code) c1]] w6 S5 := hs
  refine q_alloc (z := .agg #[.int .i64 0, .int .i64 0, .int .i64 0, .slice none (List.length ([] : List D.Ins)) 0]) hs hM0 [.int .i64 0, .int .i64 0, .int .i64 0, .slice none (List.length ([] : List D.Ins)) 0] rfl rfl hF (by kernel_rfl) rfl fun b2 w7 S6 fr hs hp hF => ?_
  have ra1 := ra1.stp hM0 hp
  have r1 := r1.stp hM0 hp
  have hM0 := hM0.stp hp
  have hs : Sep [BX b2 32 [.int .i64 0, .int .i64 0, .int .i64 0, .slice none (List.length ([] : List D.Ins)) 0], SL (α := D.Ins) 66 (.slice a6 (List.length x5.Code) c6) x5.Code, SL (α := Int) 3 (.slice a5 (List.length x4) c5) x4, BX b1 24 [.int .i64 p0.W, .int .i64 p0.Mem, .int .i64 p0.In, .slice a1 (List.length p0.Code) c1]] w7 S6 := hs
  refine q_storeBoxS 0 hs hM0 rfl [.int .i64 x5.W, .int .i64 x5.Mem, .int .i64 x5.In, .slice a6 (List.length x5.Code) c6] rfl hF rfl rfl (by kernel_rfl) rfl rfl rfl fun w8 S7 hs hp hF => ?_
  have ra1 := ra1.stp hM0 hp
  have r1 := r1.stp hM0 hp
  have hM0 := hM0.stp hp
  have hs : Sep [BX b2 32 [.int .i64 x5.W, .int .i64 x5.Mem, .int .i64 x5.In, .slice a6 (List.length x5.Code) c6], SL (α := D.Ins) 66 (.slice a6 (List.length x5.Code) c6) x5.Code, SL (α := Int) 3 (.slice a5 (List.length x4) c5) x4, BX b1 24 [.int .i64 p0.W, .int .i64 p0.Mem, .int .i64 p0.In, .slice a1 (List.length p0.Code) c1]] w8 S7 := hs
  refine from_end rfl (then_normal ?_)
  refine wp_seq (wp_text' ?_)
  refine from_pure 1 [(1, .slice a2 (List.length p1) c2), (2, .int .i64 p2), (3, .pointer (some ⟨b1, 0, none⟩)), (8, .slice a5 (List.length x4) c5), (9, .pointer (some ⟨b2, 0, none⟩)), (32, .slice a2 (List.length p1) c2)] hF (by kernel_rfl) fun fr hF => ?_
  obtain ⟨x6, hx6, h⟩ := bindE h
  refine s_call [.slice a2 (List.length p1) c2] Try.call22 rfl rfl hF rfl (laws_toIntS_ok n p1 hx6 (ra1)) fun v w9 fr hRes hF => ?_
  obtain ⟨a7, c7, rfl, _, hp, hs2⟩ := hRes
  obtain ⟨S8, hp, hs⟩ := hs.got hM0 hp hs2
  have ra1 := ra1.stp hM0 hp
  have r1 := r1.stp hM0 hp
  have hM0 := hM0.stp hp
  have hs : Sep [SL (α := Int) 3 (.slice a7 (List.length x6) c7) x6, BX b2 32 [.int .i64 x5.W, .int .i64 x5.Mem, .int .i64 x5.In, .slice a6 (List.length x5.Code) c6], SL (α := D.Ins) 66 (.slice a6 (List.length x5.Code) c6) x5.Code, SL (α := Int) 3 (.slice a5 (List.length x4) c5) x4, BX b1 24 [.int .i64 p0.W, .int .i64 p0.Mem, .int .i64 p0.In, .slice a1 (List.length p0.Code) c1]] w9 S8 := hs
  refine from_pure 1 [(1, .slice a2 (List.length p1) c2), (2, .int .i64 p2), (3, .pointer (some ⟨b1, 0, none⟩)), (8, .slice a5 (List.length x4) c5), (9, .pointer (some ⟨b2, 0, none⟩)), (10, .slice a7 (List.length x6) c7)] hF (by kernel_rfl) fun fr hF => ?_
  refine from_end rfl (then_normal ?_)
  refine wp_seq (wp_text' ?_)
  refine s_loadBoxS ty32 rfl rfl hF rfl (hs.bx 1 rfl) rfl rfl fun fr hF => ?_
  refine from_pure 2 [(1, .slice a2 (List.length p1) c2), (2, .int .i64 p2), (3, .pointer (some ⟨b1, 0, none⟩)), (8, .slice a5 (List.length x4) c5), (9, .pointer (some ⟨b2, 0, none⟩)), (10, .slice a7 (List.length x6) c7), (34, .agg #[.int .i64 x5.W, .int .i64 x5.Mem, .int .i64 x5.In, .slice a6 (List.length x5.Code) c6]), (35, .slice a7 (List.length x6) c7), (36, .int .i64 p2)] hF (by kernel_rfl) fun fr hF => ?_
  obtain ⟨x7, hx7, h⟩ := bindE h
  refine s_call [.agg #[.int .i64 x5.W, .int .i64 x5.Mem, .int .i64 x5.In, .slice a6 (List.length x5.Code) c6], .slice a7 (List.length x6) c7, .int .i64 p2] Try.call29 rfl rfl hF rfl (impl_TraceOf_ok n x5 x6 p2 hx7 (RV.mk_Program x5 (RV.any (hs.rv 2 rfl))) (hs.rv 0 rfl)) fun v w10 fr hRes hF => ?_
  obtain ⟨a8, c8, rfl, _, hp, hs2⟩ := hRes
  obtain ⟨S9, hp, hs⟩ := hs.got hM0 hp hs2
  have ra1 := ra1.stp hM0 hp
  have r1 := r1.stp hM0 hp
  have hM0 := hM0.stp hp
  have hs : Sep [SL (α := Int) 3 (.slice a8 (List.length x7) c8) x7, SL (α := Int) 3 (.slice a7 (List.length x6) c7) x6, BX b2 32 [.int .i64 x5.W, .int .i64 x5.Mem, .int .i64 x5.In, .slice a6 (List.length x5.Code) c6], SL (α := D.Ins) 66 (.slice a6 (List.length x5.Code) c6) x5.Code, SL (α := Int) 3 (.slice a5 (List.length x4) c5) x4, BX b1 24 [.int .i64 p0.W, .int .i64 p0.Mem, .int .i64 p0.In, .slice a1 (List.length p0.Code) c1]] w10 S9 := hs
  refine from_pure 1 [(1, .slice a2 (List.length p1) c2), (2, .int .i64 p2), (3, .pointer (some ⟨b1, 0, none⟩)), (8, .slice a5 (List.length x4) c5), (9, .pointer (some ⟨b2, 0, none⟩)), (10, .slice a7 (List.length x6) c7), (11, .slice a8 (List.length x7) c8)] hF (by kernel_rfl) fun fr hF => ?_
  refine from_end rfl (then_normal ?_)
  refine wp_seq ?_
  refine wp_seq (wp_text' ?_)
  refine from_pure 2 [(1, .slice a2 (List.length p1) c2), (2, .int .i64 p2), (3, .pointer (some ⟨b1, 0, none⟩)), (8, .slice a5 (List.length x4) c5), (9, .pointer (some ⟨b2, 0, none⟩)), (10, .slice a7 (List.length x6) c7), (11, .slice a8 (List.length x7) c8), (38, .slice a8 (List.length x7) c8), (39, .slice a5 (List.length x4) c5)] hF (by kernel_rfl) fun fr hF => ?_
  obtain ⟨x8, hx8, h⟩ := bindE h
  refine s_call [.slice a8 (List.length x7) c8, .slice a5 (List.length x4) c5] Try.call24 rfl rfl hF rfl (laws_eqIntS_ok n x7 x4 hx8 (hs.rv 0 rfl) (hs.rv 4 rfl)) fun v w11 fr hRes hF => ?_
  obtain ⟨rfl, hc⟩ := hRes
  have ra1 := ra1.ext hc
  have r1 := r1.ext hc
  have hs := hs.ext hc
  have hM0 := hM0.ext hc
  refine from_pure 1 [(1, .slice a2 (List.length p1) c2), (2, .int .i64 p2), (3, .pointer (some ⟨b1, 0, none⟩)), (8, .slice a5 (List.length x4) c5), (9, .pointer (some ⟨b2, 0, none⟩)), (10, .slice a7 (List.length x6) c7), (11, .slice a8 (List.length x7) c8), (41, .bool (!x8))] hF (by kernel_rfl) fun fr hF => ?_
  refine from_end rfl (then_normal ?_)
  refine (wp_if hF (b := (!x8)) rfl (fun hb => ?_) (fun hb => ?_))
  · replace h := iteT hb h
    have hs : Sep [] w11 S9 := Sep.pick [] hs (by decide) rfl
    refine wp_seq (wp_pure [(6, .bool false)] hF (by kernel_rfl) fun fr hF => then_normal ?_)
    obtain rfl := Option.some.inj h
    exact wp_ret (then_ret (ret1 rfl hF rfl ⟨_, rfl, rfl, hM0.chg⟩))
  replace h := iteF hb h
  refine (wp_skip (then_normal ?_))
  refine wp_seq ?_
  obtain ⟨x9, hx9, h⟩ := bindE h
  obtain ⟨x10, hx10, h⟩ := bindE h
  refine wp_seq (region_bm 5 [0, 0, 2, 7, 15] [false, false, false, false, true]
      [.eq (.agg #[.int .i64 x5.W, .int .i64 x5.Mem, .int .i64 x5.In, .slice a6 (List.length x5.Code) c6]), .eq (.agg #[.int .i64 p0.W, .int .i64 p0.Mem, .int .i64 p0.In, .slice a1 (List.length p0.Code) c1]), .is fun v w => RV w (fun k => k < w.heap.size) v (x9 : D.Program), .eq (.bool x10), .eq (.bool (!x10))]
      [(1, .slice a2 (List.length p1) c2), (2, .int .i64 p2), (3, .pointer (some ⟨b1, 0, none⟩)), (8, .slice a5 (List.length x4) c5), (9, .pointer (some ⟨b2, 0, none⟩)), (10, .slice a7 (List.length x6) c7), (11, .slice a8 (List.length x7) c8), (46, .bool (!x10))] mix hF (by kernel_rfl) (by kernel_rfl) (by kernel_rfl) (by kernel_rfl) ⟨Pd.monoO_eq, Pd.monoO_eq, (Pd.monoO_is mono_rvb), Pd.monoO_eq, trivial⟩ (fun ow hG => ⟨np_to ow (np_loadBoxS hG hF ty32 rfl rfl (hs.bx 2 rfl) rfl rfl rfl rfl), np_to ow (np_loadBoxS hG hF ty24 rfl rfl (hs.bx 5 rfl) rfl rfl rfl rfl), np_to ow (np_callI [.inl (.agg #[.int .i64 p0.W, .int .i64 p0.Mem, .int .i64 p0.In, .slice a1 (List.length p0.Code) c1])] hG hF Try.call12 rfl rfl (by kernel_rfl) (fun w vs hC hg ha => by obtain ⟨_, rfl, rfl⟩ := ha; exact (laws_toProgram_ok n p0 hx9 ((RV.mk_Program p0 (r1)).ext hC)).mono fun e w' ⟨v, he, a0, c0, hv, _, hp, ho⟩ => ⟨_, he, hp.chg, by rw [hv]; exact (show RV w' (fun k => k < w'.heap.size) _ (x9 : D.Program) from RV.mk_Program x9 ((ho.rv 0 rfl).sub fun k hk _ => hk))⟩)), np_to ow (np_callI [.inl (.agg #[.int .i64 x5.W, .int .i64 x5.Mem, .int .i64 x5.In, .slice a6 (List.length x5.Code) c6]), .inr 2] hG hF Try.call15 rfl rfl (by kernel_rfl) (fun w vs hC hg ha => by obtain ⟨_, rfl, vq1, _, rfl, hq1, rfl⟩ := ha; exact (laws_eqProgram_ok n x5 x9 hx10 ((RV.mk_Program x5 (RV.any (hs.rv 3 rfl))).ext hC) (show RV w (fun k => k < w.heap.size) vq1 x9 from hq1)).mono fun e w' ⟨v, he, hv, hc⟩ => ⟨v, he, hc, hv⟩)), trivial⟩) (by kernel_rfl) fun ow fr w12 hF hE hc => ?_)
  have ra1 := ra1.ext hc
  have r1 := r1.ext hc
  have hs := hs.ext hc
  have hM0 := hM0.ext hc
  refine from_end rfl (then_normal ?_)
  refine (wp_if hF (b := (!x10)) rfl (fun hb => ?_) (fun hb => ?_))
  · replace h := iteT hb h
    have hs : Sep [] w12 S9 := Sep.pick [] hs (by decide) rfl
    refine wp_seq (wp_pure [(6, .bool false)] hF (by kernel_rfl) fun fr hF => then_normal ?_)
    obtain rfl := Option.some.inj h
    exact wp_ret (then_ret (ret1 rfl hF rfl ⟨_, rfl, rfl, hM0.chg⟩))
  replace h := iteF hb h
  refine (wp_skip (then_normal ?_))
  refine wp_seq ?_
  refine wp_seq (wp_text' ?_)
  refine from_pure 2 [(1, .slice a2 (List.length p1) c2), (2, .int .i64 p2), (3, .pointer (some ⟨b1, 0, none⟩)), (8, .slice a5 (List.length x4) c5), (9, .pointer (some ⟨b2, 0, none⟩)), (10, .slice a7 (List.length x6) c7), (11, .slice a8 (List.length x7) c8), (47, .slice a7 (List.length x6) c7), (48, .slice a2 (List.length p1) c2)] hF (by kernel_rfl) fun fr hF => ?_
  obtain ⟨x11, hx11, h⟩ := bindE h
  refine s_call [.slice a2 (List.length p1) c2] Try.call22 rfl rfl hF rfl (laws_toIntS_ok n p1 hx11 (ra1)) fun v w13 fr hRes hF => ?_
  obtain ⟨a9, c9, rfl, _, hp, hs2⟩ := hRes
  obtain ⟨S10, hp, hs⟩ := hs.got hM0 hp hs2
  have ra1 := ra1.stp hM0 hp
  have r1 := r1.stp hM0 hp
  have hM0 := hM0.stp hp
  have hs : Sep [SL (α := Int) 3 (.slice a9 (List.length x11) c9) x11, SL (α := Int) 3 (.slice a8 (List.length x7) c8) x7, SL (α := Int) 3 (.slice a7 (List.length x6) c7) x6, BX b2 32 [.int .i64 x5.W, .int .i64 x5.Mem, .int .i64 x5.In, .slice a6 (List.length x5.Code) c6], SL (α := D.Ins) 66 (.slice a6 (List.length x5.Code) c6) x5.Code, SL (α := Int) 3 (.slice a5 (List.length x4) c5) x4, BX b1 24 [.int .i64 p0.W, .int .i64 p0.Mem, .int .i64 p0.In, .slice a1 (List.length p0.Code) c1]] w13 S10 := hs
  obtain ⟨x12, hx12, h⟩ := bindE h
  refine s_call [.slice a7 (List.length x6) c7, .slice a9 (List.length x11) c9] Try.call24 rfl rfl hF rfl (laws_eqIntS_ok n x6 x11 hx12 (hs.rv 2 rfl) (hs.rv 0 rfl)) fun v w14 fr hRes hF => ?_
  obtain ⟨rfl, hc⟩ := hRes
  have ra1 := ra1.ext hc
  have r1 := r1.ext hc
  have hs := hs.ext hc
  have hM0 := hM0.ext hc
  have hs : Sep [SL (α := Int) 3 (.slice a8 (List.length x7) c8) x7, SL (α := Int) 3 (.slice a7 (List.length x6) c7) x6, BX b2 32 [.int .i64 x5.W, .int .i64 x5.Mem, .int .i64 x5.In, .slice a6 (List.length x5.Code) c6], SL (α := D.Ins) 66 (.slice a6 (List.length x5.Code) c6) x5.Code, SL (α := Int) 3 (.slice a5 (List.length x4) c5) x4, BX b1 24 [.int .i64 p0.W, .int .i64 p0.Mem, .int .i64 p0.In, .slice a1 (List.length p0.Code) c1]] w14 S10 := Sep.pick [1, 2, 3, 4, 5, 6] hs (by decide) rfl
  refine from_pure 1 [(1, .slice a2 (List.length p1) c2), (2, .int .i64 p2), (3, .pointer (some ⟨b1, 0, none⟩)), (8, .slice a5 (List.length x4) c5), (9, .pointer (some ⟨b2, 0, none⟩)), (10, .slice a7 (List.length x6) c7), (11, .slice a8 (List.length x7) c8), (51, .bool (!x12))] hF (by kernel_rfl) fun fr hF => ?_
  refine from_end rfl (then_normal ?_)
  refine (wp_if hF (b := (!x12)) rfl (fun hb => ?_) (fun hb => ?_))
  · replace h := iteT hb h
    have hs : Sep [] w14 S10 := Sep.pick [] hs (by decide) rfl
    refine wp_seq (wp_pure [(6, .bool false)] hF (by kernel_rfl) fun fr hF => then_normal ?_)
    obtain rfl := Option.some.inj h
    exact wp_ret (then_ret (ret1 rfl hF rfl ⟨_, rfl, rfl, hM0.chg⟩))
  replace h := iteF hb h
  refine (wp_skip (then_normal ?_))
  refine wp_seq (wp_pure [(1, .slice a2 (List.length p1) c2), (2, .int .i64 p2), (3, .pointer (some ⟨b1, 0, none⟩)), (8, .slice a5 (List.length x4) c5), (9, .pointer (some ⟨b2, 0, none⟩)), (10, .slice a7 (List.length x6) c7), (11, .slice a8 (List.length x7) c8), (12, .int .i64 1)] hF (by kernel_rfl) fun fr hF => then_normal ?_)
  refine wp_seq (wp_text' ?_)
  refine s_loadBoxS ty32 rfl rfl hF rfl (hs.bx 2 rfl) rfl rfl fun fr hF => ?_
  have hs : Sep [SL (α := Int) 3 (.slice a8 (List.length x7) c8) x7, SL (α := Int) 3 (.slice a7 (List.length x6) c7) x6, SL (α := D.Ins) 66 (.slice a6 (List.length x5.Code) c6) x5.Code, SL (α := Int) 3 (.slice a5 (List.length x4) c5) x4, BX b1 24 [.int .i64 p0.W, .int .i64 p0.Mem, .int .i64 p0.In, .slice a1 (List.length p0.Code) c1]] w14 S10 := Sep.pick [0, 1, 3, 4, 5] hs (by decide) rfl
  refine from_pure 1 [(1, .slice a2 (List.length p1) c2), (2, .int .i64 p2), (3, .pointer (some ⟨b1, 0, none⟩)), (8, .slice a5 (List.length x4) c5), (10, .slice a7 (List.length x6) c7), (11, .slice a8 (List.length x7) c8), (52, .agg #[.int .i64 x5.W, .int .i64 x5.Mem, .int .i64 x5.In, .slice a6 (List.length x5.Code) c6]), (53, .int .i64 1)] hF (by kernel_rfl) fun fr hF => ?_
  obtain ⟨x13, hx13, h⟩ := bindE h
  have hs : Sep [SL (α := D.Ins) 66 (.slice a6 (List.length x5.Code) c6) x5.Code, SL (α := Int) 3 (.slice a8 (List.length x7) c8) x7, SL (α := Int) 3 (.slice a7 (List.length x6) c7) x6, SL (α := Int) 3 (.slice a5 (List.length x4) c5) x4, BX b1 24 [.int .i64 p0.W, .int .i64 p0.Mem, .int .i64 p0.In, .slice a1 (List.length p0.Code) c1]] w14 S10 := Sep.pick [2, 0, 1, 3, 4] hs (by decide) rfl
  obtain ⟨A1, R1, hsA, hsR, hdA, hbA, hup⟩ := Sep.call (L1 := [SL (α := D.Ins) 66 (.slice a6 (List.length x5.Code) c6) x5.Code]) (L2 := [SL (α := Int) 3 (.slice a8 (List.length x7) c8) x7, SL (α := Int) 3 (.slice a7 (List.length x6) c7) x6, SL (α := Int) 3 (.slice a5 (List.length x4) c5) x4, BX b1 24 [.int .i64 p0.W, .int .i64 p0.Mem, .int .i64 p0.In, .slice a1 (List.length p0.Code) c1]]) hs hM0
  refine s_call [.agg #[.int .i64 x5.W, .int .i64 x5.Mem, .int .i64 x5.In, .slice a6 (List.length x5.Code) c6], .int .i64 1] Try.call16 rfl rfl hF rfl (laws_markProgram_ok n x5 1 hx13 hsA hbA hdA) fun v w15 fr hRes hF => ?_
  obtain ⟨rfl, _, hp, hs⟩ := hRes
  obtain ⟨S11, hp, hs⟩ := hup hp hs
  have ra1 := ra1.stp hM0 hp
  have r1 := r1.stp hM0 hp
  have hM0 := hM0.stp hp
  have hs : Sep [SL (α := D.Ins) 66 (.slice a6 (List.length x5.Code) c6) x13.2.Code, SL (α := Int) 3 (.slice a8 (List.length x7) c8) x7, SL (α := Int) 3 (.slice a7 (List.length x6) c7) x6, SL (α := Int) 3 (.slice a5 (List.length x4) c5) x4, BX b1 24 [.int .i64 p0.W, .int .i64 p0.Mem, .int .i64 p0.In, .slice a1 (List.length p0.Code) c1]] w15 S11 := hs
  have hs : Sep [SL (α := Int) 3 (.slice a8 (List.length x7) c8) x7, SL (α := Int) 3 (.slice a7 (List.length x6) c7) x6, SL (α := Int) 3 (.slice a5 (List.length x4) c5) x4, BX b1 24 [.int .i64 p0.W, .int .i64 p0.Mem, .int .i64 p0.In, .slice a1 (List.length p0.Code) c1]] w15 S11 := Sep.pick [1, 2, 3, 4] hs (by decide) rfl
  refine from_pure 1 [(1, .slice a2 (List.length p1) c2), (2, .int .i64 p2), (3, .pointer (some ⟨b1, 0, none⟩)), (8, .slice a5 (List.length x4) c5), (10, .slice a7 (List.length x6) c7), (11, .slice a8 (List.length x7) c8), (12, .int .i64 x13.1)] hF (by kernel_rfl) fun fr hF => ?_
  refine from_end rfl (then_normal ?_)
  refine wp_seq (wp_text' ?_)
  refine from_pure 2 [(1, .slice a2 (List.length p1) c2), (2, .int .i64 p2), (3, .pointer (some ⟨b1, 0, none⟩)), (8, .slice a5 (List.length x4) c5), (11, .slice a8 (List.length x7) c8), (55, .slice a7 (List.length x6) c7), (56, .int .i64 x13.1)] hF (by kernel_rfl) fun fr hF => ?_
  obtain ⟨x14, hx14, h⟩ := bindE h
  have hs : Sep [SL (α := Int) 3 (.slice a7 (List.length x6) c7) x6, SL (α := Int) 3 (.slice a8 (List.length x7) c8) x7, SL (α := Int) 3 (.slice a5 (List.length x4) c5) x4, BX b1 24 [.int .i64 p0.W, .int .i64 p0.Mem, .int .i64 p0.In, .slice a1 (List.length p0.Code) c1]] w15 S11 := Sep.pick [1, 0, 2, 3] hs (by decide) rfl
  obtain ⟨A2, R2, hsA, hsR, hdA, hbA, hup⟩ := Sep.call (L1 := [SL (α := Int) 3 (.slice a7 (List.length x6) c7) x6]) (L2 := [SL (α := Int) 3 (.slice a8 (List.length x7) c8) x7, SL (α := Int) 3 (.slice a5 (List.length x4) c5) x4, BX b1 24 [.int .i64 p0.W, .int .i64 p0.Mem, .int .i64 p0.In, .slice a1 (List.length p0.Code) c1]]) hs hM0
  refine s_call [.slice a7 (List.length x6) c7, .int .i64 x13.1] Try.call25 rfl rfl hF rfl (laws_markIntS_ok n x6 x13.1 hx14 hsA hbA hdA) fun v w16 fr hRes hF => ?_
  obtain ⟨rfl, _, hp, hs⟩ := hRes
  obtain ⟨S12, hp, hs⟩ := hup hp hs
  have ra1 := ra1.stp hM0 hp
  have r1 := r1.stp hM0 hp
  have hM0 := hM0.stp hp
  have hs : Sep [SL (α := Int) 3 (.slice a7 (List.length x6) c7) x14.2, SL (α := Int) 3 (.slice a8 (List.length x7) c8) x7, SL (α := Int) 3 (.slice a5 (List.length x4) c5) x4, BX b1 24 [.int .i64 p0.W, .int .i64 p0.Mem, .int .i64 p0.In, .slice a1 (List.length p0.Code) c1]] w16 S12 := hs
  have hs : Sep [SL (α := Int) 3 (.slice a8 (List.length x7) c8) x7, SL (α := Int) 3 (.slice a5 (List.length x4) c5) x4, BX b1 24 [.int .i64 p0.W, .int .i64 p0.Mem, .int .i64 p0.In, .slice a1 (List.length p0.Code) c1]] w16 S12 := Sep.pick [1, 2, 3] hs (by decide) rfl
  refine from_pure 1 [(1, .slice a2 (List.length p1) c2), (2, .int .i64 p2), (3, .pointer (some ⟨b1, 0, none⟩)), (8, .slice a5 (List.length x4) c5), (11, .slice a8 (List.length x7) c8), (12, .int .i64 x14.1)] hF (by kernel_rfl) fun fr hF => ?_
  refine from_end rfl (then_normal ?_)
  refine wp_seq ?_
  obtain ⟨x15, hx15, h⟩ := bindE h
  refine wp_seq (region_b [] [true, true, true, true, true, false, true, true]
      [.eq (.int .i64 x14.1), .eq (.bool (decide (x14.1 < 0))), .eq (.bool (decide (x14.1 < 0))), .eq (.slice a8 (List.length x7) c8), .eq (.slice a5 (List.length x4) c5), .eq (.bool x15), .eq (.bool (!x15)), .eq (.bool ((decide (x14.1 < 0)) || (!x15)))]
      [(1, .slice a2 (List.length p1) c2), (2, .int .i64 p2), (3, .pointer (some ⟨b1, 0, none⟩)), (8, .slice a5 (List.length x4) c5), (11, .slice a8 (List.length x7) c8), (65, .bool ((decide (x14.1 < 0)) || (!x15)))] mix hF (by kernel_rfl) (by kernel_rfl) (by kernel_rfl) ⟨Pd.mono_eq, trivial⟩ (fun hG => ⟨np_call [.slice a8 (List.length x7) c8, .slice a5 (List.length x4) c5] hG hF Try.call24 rfl rfl (fun w hC hg => (laws_eqIntS_ok n x7 x4 (iteF hg.2 hx15) ((hs.rv 0 rfl).ext hC) ((hs.rv 1 rfl).ext hC)).mono fun e w' ⟨v, he, hv, hc⟩ => ⟨v, he, hc, hv⟩), trivial⟩) (by kernel_rfl) fun fr w17 hF hE hc => then_normal ?_)
  have ra1 := ra1.ext hc
  have r1 := r1.ext hc
  have hs := hs.ext hc
  have hM0 := hM0.ext hc
  refine (wp_if hF (b := ((decide (x14.1 < 0)) || (!x15))) rfl (fun hb => ?_) (fun hb => ?_))
  · replace h := iteT hb h
    have hs : Sep [] w17 S12 := Sep.pick [] hs (by decide) rfl
    refine wp_seq (wp_pure [(6, .bool false)] hF (by kernel_rfl) fun fr hF => then_normal ?_)
    obtain rfl := Option.some.inj h
    exact wp_ret (then_ret (ret1 rfl hF rfl ⟨_, rfl, rfl, hM0.chg⟩))
  replace h := iteF hb h
  refine (wp_skip (then_normal ?_))
  refine wp_seq (wp_pure [(1, .slice a2 (List.length p1) c2), (2, .int .i64 p2), (3, .pointer (some ⟨b1, 0, none⟩)), (8, .slice a5 (List.length x4) c5), (11, .slice a8 (List.length x7) c8), (13, .int .i64 1)] hF (by kernel_rfl) fun fr hF => then_normal ?_)
  refine wp_seq (wp_text' ?_)
  refine from_pure 2 [(1, .slice a2 (List.length p1) c2), (2, .int .i64 p2), (3, .pointer (some ⟨b1, 0, none⟩)), (8, .slice a5 (List.length x4) c5), (11, .slice a8 (List.length x7) c8), (66, .slice a8 (List.length x7) c8), (67, .int .i64 1)] hF (by kernel_rfl) fun fr hF => ?_
  obtain ⟨x16, hx16, h⟩ := bindE h
  obtain ⟨A3, R3, hsA, hsR, hdA, hbA, hup⟩ := Sep.call (L1 := [SL (α := Int) 3 (.slice a8 (List.length x7) c8) x7]) (L2 := [SL (α := Int) 3 (.slice a5 (List.length x4) c5) x4, BX b1 24 [.int .i64 p0.W, .int .i64 p0.Mem, .int .i64 p0.In, .slice a1 (List.length p0.Code) c1]]) hs hM0
  refine s_call [.slice a8 (List.length x7) c8, .int .i64 1] Try.call25 rfl rfl hF rfl (laws_markIntS_ok n x7 1 hx16 hsA hbA hdA) fun v w18 fr hRes hF => ?_
  obtain ⟨rfl, _, hp, hs⟩ := hRes
  obtain ⟨S13, hp, hs⟩ := hup hp hs
  have ra1 := ra1.stp hM0 hp
  have r1 := r1.stp hM0 hp
  have hM0 := hM0.stp hp
  have hs : Sep [SL (α := Int) 3 (.slice a8 (List.length x7) c8) x16.2, SL (α := Int) 3 (.slice a5 (List.length x4) c5) x4, BX b1 24 [.int .i64 p0.W, .int .i64 p0.Mem, .int .i64 p0.In, .slice a1 (List.length p0.Code) c1]] w18 S13 := hs
  refine from_pure 1 [(1, .slice a2 (List.length p1) c2), (2, .int .i64 p2), (3, .pointer (some ⟨b1, 0, none⟩)), (8, .slice a5 (List.length x4) c5), (11, .slice a8 (List.length x7) c8), (13, .int .i64 x16.1)] hF (by kernel_rfl) fun fr hF => ?_
  refine from_end rfl (then_normal ?_)
  refine wp_seq (wp_pure [(1, .slice a2 (List.length p1) c2), (2, .int .i64 p2), (3, .pointer (some ⟨b1, 0, none⟩)), (8, .slice a5 (List.length x4) c5), (11, .slice a8 (List.length x7) c8), (13, .int .i64 x16.1), (14, .int .i64 1)] hF (by kernel_rfl) fun fr hF => then_normal ?_)
  refine wp_seq (wp_text' ?_)
  refine from_pure 2 [(1, .slice a2 (List.length p1) c2), (2, .int .i64 p2), (3, .pointer (some ⟨b1, 0, none⟩)), (8, .slice a5 (List.length x4) c5), (11, .slice a8 (List.length x7) c8), (13, .int .i64 x16.1), (69, .slice a8 (List.length x7) c8), (70, .int .i64 1)] hF (by kernel_rfl) fun fr hF => ?_
  obtain ⟨x17, hx17, h⟩ := bindE h
  refine s_call [.slice a8 (List.length x7) c8, .int .i64 1] Try.call30 rfl rfl hF rfl (laws_heldIntS_ok n x16.2 1 hx17 (hs.rv 0 rfl)) fun v w19 fr hRes hF => ?_
  obtain ⟨rfl, hc⟩ := hRes
  have ra1 := ra1.ext hc
  have r1 := r1.ext hc
  have hs := hs.ext hc
  have hM0 := hM0.ext hc
  refine from_pure 1 [(1, .slice a2 (List.length p1) c2), (2, .int .i64 p2), (3, .pointer (some ⟨b1, 0, none⟩)), (8, .slice a5 (List.length x4) c5), (11, .slice a8 (List.length x7) c8), (13, .int .i64 x16.1), (14, .int .i64 x17)] hF (by kernel_rfl) fun fr hF => ?_
  refine from_end rfl (then_normal ?_)
  refine wp_seq ?_
  refine wp_seq (wp_pure [(1, .slice a2 (List.length p1) c2), (2, .int .i64 p2), (3, .pointer (some ⟨b1, 0, none⟩)), (8, .slice a5 (List.length x4) c5), (11, .slice a8 (List.length x7) c8), (13, .int .i64 x16.1), (14, .int .i64 x17), (73, .bool (decide (x17 < 0)))] hF (by kernel_rfl) fun fr hF => then_normal ?_)
  refine (wp_if hF (b := (decide (x17 < 0))) rfl (fun hb => ?_) (fun hb => ?_))
  · replace h := iteT hb h
    have hs : Sep [] w19 S13 := Sep.pick [] hs (by decide) rfl
    refine wp_seq (wp_pure [(6, .bool false)] hF (by kernel_rfl) fun fr hF => then_normal ?_)
    obtain rfl := Option.some.inj h
    exact wp_ret (then_ret (ret1 rfl hF rfl ⟨_, rfl, rfl, hM0.chg⟩))
  replace h := iteF hb h
  refine (wp_skip (then_normal ?_))
  refine wp_seq ?_
  refine wp_seq (wp_pure [(1, .slice a2 (List.length p1) c2), (2, .int .i64 p2), (3, .pointer (some ⟨b1, 0, none⟩)), (8, .slice a5 (List.length x4) c5), (11, .slice a8 (List.length x7) c8), (13, .int .i64 x16.1), (76, .bool (x17 != x16.1))] hF (by kernel_rfl) fun fr hF => then_normal ?_)
  refine (wp_if hF (b := (x17 != x16.1)) rfl (fun hb => ?_) (fun hb => ?_))
  · replace h := iteT hb h
    have hs : Sep [] w19 S13 := Sep.pick [] hs (by decide) rfl
    refine wp_seq (wp_pure [(6, .bool false)] hF (by kernel_rfl) fun fr hF => then_normal ?_)
    obtain rfl := Option.some.inj h
    exact wp_ret (then_ret (ret1 rfl hF rfl ⟨_, rfl, rfl, hM0.chg⟩))
  replace h := iteF hb h
  refine (wp_skip (then_normal ?_))
  refine wp_seq (wp_text' ?_)
  refine s_loadBoxS ty24 rfl rfl hF rfl (hs.bx 2 rfl) rfl rfl fun fr hF => ?_
  have hs : Sep [SL (α := Int) 3 (.slice a8 (List.length x7) c8) x16.2, SL (α := Int) 3 (.slice a5 (List.length x4) c5) x4] w19 S13 := Sep.pick [0, 1] hs (by decide) rfl
  obtain ⟨x18, hx18, h⟩ := bindE h
  refine s_call [.agg #[.int .i64 p0.W, .int .i64 p0.Mem, .int .i64 p0.In, .slice a1 (List.length p0.Code) c1]] Try.call12 rfl rfl hF rfl (laws_toProgram_ok n p0 hx18 (RV.mk_Program p0 (r1))) fun v w20 fr hRes hF => ?_
  obtain ⟨a10, c10, rfl, _, hp, hs2⟩ := hRes
  obtain ⟨S14, hp, hs⟩ := hs.got hM0 hp hs2
  have ra1 := ra1.stp hM0 hp
  have r1 := r1.stp hM0 hp
  have hM0 := hM0.stp hp
  have hs : Sep [SL (α := D.Ins) 66 (.slice a10 (List.length x18.Code) c10) x18.Code, SL (α := Int) 3 (.slice a8 (List.length x7) c8) x16.2, SL (α := Int) 3 (.slice a5 (List.length x4) c5) x4] w20 S14 := hs
  refine from_pure 1 [(2, .int .i64 p2), (8, .slice a5 (List.length x4) c5), (11, .slice a8 (List.length x7) c8), (13, .int .i64 x16.1), (78, .agg #[.int .i64 x18.W, .int .i64 x18.Mem, .int .i64 x18.In, .slice a10 (List.length x18.Code) c10]), (79, .slice a2 (List.length p1) c2)] hF (by kernel_rfl) fun fr hF => ?_
  obtain ⟨x19, hx19, h⟩ := bindE h
  refine s_call [.slice a2 (List.length p1) c2] Try.call22 rfl rfl hF rfl (laws_toIntS_ok n p1 hx19 (ra1)) fun v w21 fr hRes hF => ?_
  obtain ⟨a11, c11, rfl, _, hp, hs2⟩ := hRes
  obtain ⟨S15, hp, hs⟩ := hs.got hM0 hp hs2
  have ra1 := ra1.stp hM0 hp
  have hM0 := hM0.stp hp
  have hs : Sep [SL (α := Int) 3 (.slice a11 (List.length x19) c11) x19, SL (α := D.Ins) 66 (.slice a10 (List.length x18.Code) c10) x18.Code, SL (α := Int) 3 (.slice a8 (List.length x7) c8) x16.2, SL (α := Int) 3 (.slice a5 (List.length x4) c5) x4] w21 S15 := hs
  refine from_pure 1 [(8, .slice a5 (List.length x4) c5), (11, .slice a8 (List.length x7) c8), (13, .int .i64 x16.1), (78, .agg #[.int .i64 x18.W, .int .i64 x18.Mem, .int .i64 x18.In, .slice a10 (List.length x18.Code) c10]), (80, .slice a11 (List.length x19) c11), (81, .int .i64 p2)] hF (by kernel_rfl) fun fr hF => ?_
  obtain ⟨x20, hx20, h⟩ := bindE h
  refine s_call [.agg #[.int .i64 x18.W, .int .i64 x18.Mem, .int .i64 x18.In, .slice a10 (List.length x18.Code) c10], .slice a11 (List.length x19) c11, .int .i64 p2] Try.call29 rfl rfl hF rfl (impl_TraceOf_ok n x18 x19 p2 hx20 (RV.mk_Program x18 (RV.any (hs.rv 1 rfl))) (hs.rv 0 rfl)) fun v w22 fr hRes hF => ?_
  obtain ⟨a12, c12, rfl, _, hp, hs2⟩ := hRes
  obtain ⟨S16, hp, hs⟩ := hs.got hM0 hp hs2
  have hM0 := hM0.stp hp
  have hs : Sep [SL (α := Int) 3 (.slice a12 (List.length x20) c12) x20, SL (α := Int) 3 (.slice a11 (List.length x19) c11) x19, SL (α := D.Ins) 66 (.slice a10 (List.length x18.Code) c10) x18.Code, SL (α := Int) 3 (.slice a8 (List.length x7) c8) x16.2, SL (α := Int) 3 (.slice a5 (List.length x4) c5) x4] w22 S16 := hs
  have hs : Sep [SL (α := Int) 3 (.slice a12 (List.length x20) c12) x20, SL (α := Int) 3 (.slice a8 (List.length x7) c8) x16.2, SL (α := Int) 3 (.slice a5 (List.length x4) c5) x4] w22 S16 := Sep.pick [0, 3, 4] hs (by decide) rfl
  refine from_pure 1 [(8, .slice a5 (List.length x4) c5), (11, .slice a8 (List.length x7) c8), (13, .int .i64 x16.1), (15, .slice a12 (List.length x20) c12)] hF (by kernel_rfl) fun fr hF => ?_
  refine from_end rfl (then_normal ?_)
  refine wp_seq ?_
  refine wp_seq (wp_text' ?_)
  refine from_pure 2 [(11, .slice a8 (List.length x7) c8), (13, .int .i64 x16.1), (83, .slice a12 (List.length x20) c12), (84, .slice a5 (List.length x4) c5)] hF (by kernel_rfl) fun fr hF => ?_
  obtain ⟨x21, hx21, h⟩ := bindE h
  refine s_call [.slice a12 (List.length x20) c12, .slice a5 (List.length x4) c5] Try.call24 rfl rfl hF rfl (laws_eqIntS_ok n x20 x4 hx21 (hs.rv 0 rfl) (hs.rv 2 rfl)) fun v w23 fr hRes hF => ?_
  obtain ⟨rfl, hc⟩ := hRes
  have hs := hs.ext hc
  have hM0 := hM0.ext hc
  have hs : Sep [SL (α := Int) 3 (.slice a8 (List.length x7) c8) x16.2] w23 S16 := Sep.pick [1] hs (by decide) rfl
  refine from_pure 1 [(11, .slice a8 (List.length x7) c8), (13, .int .i64 x16.1), (86, .bool (!x21))] hF (by kernel_rfl) fun fr hF => ?_
  refine from_end rfl (then_normal ?_)
  refine (wp_if hF (b := (!x21)) rfl (fun hb => ?_) (fun hb => ?_))
  · replace h := iteT hb h
    have hs : Sep [] w23 S16 := Sep.pick [] hs (by decide) rfl
    refine wp_seq (wp_pure [(6, .bool false)] hF (by kernel_rfl) fun fr hF => then_normal ?_)
    obtain rfl := Option.some.inj h
    exact wp_ret (then_ret (ret1 rfl hF rfl ⟨_, rfl, rfl, hM0.chg⟩))
  replace h := iteF hb h
  refine (wp_skip (then_normal ?_))
  refine wp_seq (wp_pure [(11, .slice a8 (List.length x7) c8), (13, .int .i64 x16.1), (14, .int .i64 1)] hF (by kernel_rfl) fun fr hF => then_normal ?_)
  refine wp_seq (wp_text' ?_)
  refine from_pure 2 [(13, .int .i64 x16.1), (87, .slice a8 (List.length x7) c8), (88, .int .i64 1)] hF (by kernel_rfl) fun fr hF => ?_
  obtain ⟨x22, hx22, h⟩ := bindE h
  refine s_call [.slice a8 (List.length x7) c8, .int .i64 1] Try.call30 rfl rfl hF rfl (laws_heldIntS_ok n x16.2 1 hx22 (hs.rv 0 rfl)) fun v w24 fr hRes hF => ?_
  obtain ⟨rfl, hc⟩ := hRes
  have hs := hs.ext hc
  have hM0 := hM0.ext hc
  have hs : Sep [] w24 S16 := Sep.pick [] hs (by decide) rfl
  refine from_pure 1 [(13, .int .i64 x16.1), (14, .int .i64 x22)] hF (by kernel_rfl) fun fr hF => ?_
  refine from_end rfl (then_normal ?_)
  refine wp_seq ?_
  refine wp_seq (wp_pure [(13, .int .i64 x16.1), (14, .int .i64 x22), (91, .bool (decide (x22 < 0)))] hF (by kernel_rfl) fun fr hF => then_normal ?_)
  refine (wp_if hF (b := (decide (x22 < 0))) rfl (fun hb => ?_) (fun hb => ?_))
  · replace h := iteT hb h
    refine wp_seq (wp_pure [(6, .bool false)] hF (by kernel_rfl) fun fr hF => then_normal ?_)
    obtain rfl := Option.some.inj h
    exact wp_ret (then_ret (ret1 rfl hF rfl ⟨_, rfl, rfl, hM0.chg⟩))
  replace h := iteF hb h
  refine (wp_skip (then_normal ?_))
  refine wp_seq ?_
  refine wp_seq (wp_pure [(94, .bool (x22 != x16.1))] hF (by kernel_rfl) fun fr hF => then_normal ?_)
  refine (wp_if hF (b := (x22 != x16.1)) rfl (fun hb => ?_) (fun hb => ?_))
  · replace h := iteT hb h
    refine wp_seq (wp_pure [(6, .bool false)] hF (by kernel_rfl) fun fr hF => then_normal ?_)
    obtain rfl := Option.some.inj h
    exact wp_ret (then_ret (ret1 rfl hF rfl ⟨_, rfl, rfl, hM0.chg⟩))
  replace h := iteF hb h
  refine (wp_skip (then_normal ?_))
  refine wp_seq (wp_pure [(6, .bool true)] hF (by kernel_rfl) fun fr hF => then_normal ?_)
  obtain rfl := Option.some.inj h
  exact wp_ret (ret1 rfl hF rfl ⟨_, rfl, rfl, hM0.chg⟩)
end Go.Proofs.Ytbfphbpeajmihaa
