/- Printed by gen2.py: the walks. -/
import Derived.Test.YtckeihpjfeonmaaWlkA
set_option linter.unusedVariables false
set_option maxRecDepth 100000
namespace Go.Proofs.Ytckeihpjfeonmaa
open Go.GL Go.Maps Go.WideMaps
theorem laws_eqGate_ok (p0 : D.Gate) (p1 : D.Gate) {r : Bool} (h : laws_eqGate p0 p1 = some r) {w : World} :
    Calls Try.prog 87 [.agg #[.int .i64 p0.A, .int .i64 p0.B], .agg #[.int .i64 p1.A, .int .i64 p1.B]].toArray w fun e w' => ∃ v, e = .returned v ∧ v = .bool r ∧ Chg Non w w' := by
  unfold laws_eqGate at h
  have hs := Sep.nil w Non
  have hM0 : Mem w Non (fun k => (False) ∧ k < w.heap.size) w Non (fun k => (False) ∧ k < w.heap.size) := Mem.start (fun _ h => h.elim) (fun _ h => h.2) (fun _ h => h.elim)
  refine enter (N := 15) Try.func87 rfl Try.ntmps87 rfl fun fr hF => ?_
  refine wp_seq (wp_text' ?_)
  refine q_box hs hM0 [.int .i64 p0.A, .int .i64 p0.B] rfl rfl hF rfl rfl fun b1 w1 S1 fr hs hp hF => ?_
  have hM0 := hM0.stp hp
  have hs : Sep [BX b1 59 [.int .i64 p0.A, .int .i64 p0.B]] w1 S1 := hs
  refine q_box hs hM0 [.int .i64 p1.A, .int .i64 p1.B] rfl rfl hF rfl rfl fun b2 w2 S2 fr hs hp hF => ?_
  have hM0 := hM0.stp hp
  have hs : Sep [BX b2 59 [.int .i64 p1.A, .int .i64 p1.B], BX b1 59 [.int .i64 p0.A, .int .i64 p0.B]] w2 S2 := hs
  refine from_pure 1 [(2, .pointer (some ⟨b1, 0, none⟩)), (3, .pointer (some ⟨b2, 0, none⟩))] hF (by kernel_rfl) fun fr hF => ?_
  refine from_end rfl (then_normal ?_)
  refine wp_seq ?_
  refine wp_seq (wp_text' ?_)
  refine from_pure 1 [(2, .pointer (some ⟨b1, 0, none⟩)), (3, .pointer (some ⟨b2, 0, none⟩)), (5, .pointer (some ⟨b1, 0, none⟩))] hF (by kernel_rfl) fun fr hF => ?_
  refine s_loadBox (.int .i64 p0.A) ty3 rfl rfl hF rfl (hs.bx 1 rfl) rfl rfl fun fr hF => ?_
  refine from_pure 1 [(2, .pointer (some ⟨b1, 0, none⟩)), (3, .pointer (some ⟨b2, 0, none⟩)), (6, .int .i64 p0.A), (7, .pointer (some ⟨b2, 0, none⟩))] hF (by kernel_rfl) fun fr hF => ?_
  refine s_loadBox (.int .i64 p1.A) ty3 rfl rfl hF rfl (hs.bx 0 rfl) rfl rfl fun fr hF => ?_
  refine from_pure 1 [(2, .pointer (some ⟨b1, 0, none⟩)), (3, .pointer (some ⟨b2, 0, none⟩)), (9, .bool (p0.A != p1.A))] hF (by kernel_rfl) fun fr hF => ?_
  refine from_end rfl (then_normal ?_)
  refine (wp_if hF (b := (p0.A != p1.A)) rfl (fun hb => ?_) (fun hb => ?_))
  · replace h := iteT hb h
    have hs : Sep [] w2 S2 := Sep.pick [] hs (by decide) rfl
    refine wp_seq (wp_pure [(4, .bool false)] hF (by kernel_rfl) fun fr hF => then_normal ?_)
    obtain rfl := Option.some.inj h
    exact wp_ret (then_ret (ret1 rfl hF rfl ⟨_, rfl, rfl, hM0.chg⟩))
  replace h := iteF hb h
  refine (wp_skip (then_normal ?_))
  refine wp_seq ?_
  refine wp_seq (wp_text' ?_)
  refine from_pure 1 [(3, .pointer (some ⟨b2, 0, none⟩)), (10, .pointer (some ⟨b1, 1, none⟩))] hF (by kernel_rfl) fun fr hF => ?_
  refine s_loadBox (.int .i64 p0.B) ty3 rfl rfl hF rfl (hs.bx 1 rfl) rfl rfl fun fr hF => ?_
  have hs : Sep [BX b2 59 [.int .i64 p1.A, .int .i64 p1.B]] w2 S2 := Sep.pick [0] hs (by decide) rfl
  refine from_pure 1 [(11, .int .i64 p0.B), (12, .pointer (some ⟨b2, 1, none⟩))] hF (by kernel_rfl) fun fr hF => ?_
  refine s_loadBox (.int .i64 p1.B) ty3 rfl rfl hF rfl (hs.bx 0 rfl) rfl rfl fun fr hF => ?_
  have hs : Sep [] w2 S2 := Sep.pick [] hs (by decide) rfl
  refine from_pure 1 [(14, .bool (p0.B != p1.B))] hF (by kernel_rfl) fun fr hF => ?_
  refine from_end rfl (then_normal ?_)
  refine (wp_if hF (b := (p0.B != p1.B)) rfl (fun hb => ?_) (fun hb => ?_))
  · replace h := iteT hb h
    refine wp_seq (wp_pure [(4, .bool false)] hF (by kernel_rfl) fun fr hF => then_normal ?_)
    obtain rfl := Option.some.inj h
    exact wp_ret (then_ret (ret1 rfl hF rfl ⟨_, rfl, rfl, hM0.chg⟩))
  replace h := iteF hb h
  refine (wp_skip (then_normal ?_))
  refine wp_seq (wp_pure [(4, .bool true)] hF (by kernel_rfl) fun fr hF => then_normal ?_)
  obtain rfl := Option.some.inj h
  exact wp_ret (ret1 rfl hF rfl ⟨_, rfl, rfl, hM0.chg⟩)

theorem laws_eqGateS_ok (n : Nat) (p0 : List D.Gate) (p1 : List D.Gate) {r : Bool} (h : laws_eqGateS n p0 p1 = some r) {w : World} {G0 : Nat → Prop} {va0 : Value} (ra0 : RV w G0 va0 p0) {G1 : Nat → Prop} {va1 : Value} (ra1 : RV w G1 va1 p1) :
    Calls Try.prog 52 [va0, va1].toArray w fun e w' => ∃ v, e = .returned v ∧ v = .bool r ∧ Chg Non w w' := by
  unfold laws_eqGateS at h
  have hs := Sep.nil w Non
  have hM0 : Mem w Non (fun k => (G0 k ∨ G1 k) ∧ k < w.heap.size) w Non (fun k => (G0 k ∨ G1 k) ∧ k < w.heap.size) := Mem.start (fun _ h => h.elim) (fun _ h => h.2) (fun _ h => h.elim)
  have ra0 := ra0.sub (F' := (fun k => (G0 k ∨ G1 k) ∧ k < w.heap.size)) (fun k hk h => ⟨.inl h, hk⟩)
  obtain ⟨a1, c1, rfl, -⟩ := ra0.slice
  have ra1 := ra1.sub (F' := (fun k => (G0 k ∨ G1 k) ∧ k < w.heap.size)) (fun k hk h => ⟨.inr (h), hk⟩)
  obtain ⟨a2, c2, rfl, -⟩ := ra1.slice
  refine enter (N := 27) Try.func52 rfl Try.ntmps52 rfl fun fr hF => ?_
  refine wp_seq (wp_pure [(0, .slice a1 (List.length p0) c1), (1, .slice a2 (List.length p1) c2)] hF (by kernel_rfl) fun fr hF => then_normal ?_)
  refine wp_seq ?_
  refine wp_seq (wp_pure [(0, .slice a1 (List.length p0) c1), (1, .slice a2 (List.length p1) c2), (10, .bool ((len p0) != (len p1)))] hF (by kernel_rfl) fun fr hF => then_normal ?_)
  refine (wp_if hF (b := ((len p0) != (len p1))) rfl (fun hb => ?_) (fun hb => ?_))
  · replace h := iteT hb h
    refine wp_seq (wp_pure [(4, .bool false)] hF (by kernel_rfl) fun fr hF => then_normal ?_)
    obtain rfl := Option.some.inj h
    exact wp_ret (then_ret (ret1 rfl hF rfl ⟨_, rfl, rfl, hM0.chg⟩))
  replace h := iteF hb h
  refine (wp_skip (then_normal ?_))
  refine wp_seq ?_
  refine wp_seq (wp_pure [(0, .slice a1 (List.length p0) c1), (1, .slice a2 (List.length p1) c2), (5, .int .i64 0)] hF (by kernel_rfl) fun fr hF => then_normal ?_)
  obtain ⟨rl1, hit1, h⟩ := bindE h
  have hk1 := h
  refine (wp_cut (M := fun fr w' => ∃ s, rl1 = .inl s ∧ ∃ S2 F2, FrS 27 [] fr ∧ Mem w Non (fun k => (G0 k ∨ G1 k) ∧ k < w.heap.size) w' S2 F2 ∧ Sep [] w' S2) (wp_block (wp_iter (Inv := fun s1 fr w' => ∃ S1 F1, FrS 27 [(0, .slice a1 (List.length p0) c1), (1, .slice a2 (List.length p1) c2), (5, .int .i64 s1)] fr ∧ Mem w Non (fun k => (G0 k ∨ G1 k) ∧ k < w.heap.size) w' S1 F1 ∧ Sep [] w' S1) hit1 ⟨Non, _, hF.sub _ (by kernel_rfl), (Mem.start hM0.bd hM0.bdF hM0.dj), hs⟩ fun s1 q1 fr w1i hI h hr1 => ?_)) fun fr w1o hM => ?_)
  · obtain ⟨S1, F1, hF, hM1, hs⟩ := hI
    have ra0 := ra0.mem hM1
    have ra1 := ra1.mem hM1
    refine wp_seq ?_
    refine wp_seq (wp_pure [(0, .slice a1 (List.length p0) c1), (1, .slice a2 (List.length p1) c2), (5, .int .i64 s1), (14, .bool (decide (s1 < (len p0))))] hF (by kernel_rfl) fun fr hF => then_normal ?_)
    refine (wp_if hF (b := (decide (s1 < (len p0)))) rfl (fun hb => ?_) (fun hb => ?_))
    · replace h := iteT hb h
      refine (wp_skip (then_normal ?_))
      refine wp_seq (wp_block ?_)
      obtain ⟨x1, hx1, h⟩ := bindE h
      obtain ⟨x2, hx2, h⟩ := bindE h
      obtain ⟨x3, hx3, h⟩ := bindE h
      refine wp_seq (region_bm 10 [0, 0, 3, 7, 0, 0, 48, 112, 255, 511] [true, true, false, false, true, true, false, false, false, true]
          [.eq (.slice a1 (List.length p0) c1), .eq (.int .i64 s1), .is fun v w => ElemP w (fun k => k < w1i.heap.size) v (x1 : D.Gate), .eq (.agg #[.int .i64 x1.A, .int .i64 x1.B]), .eq (.slice a2 (List.length p1) c2), .eq (.int .i64 s1), .is fun v w => ElemP w (fun k => k < w1i.heap.size) v (x2 : D.Gate), .eq (.agg #[.int .i64 x2.A, .int .i64 x2.B]), .eq (.bool x3), .eq (.bool (!x3))]
          [(0, .slice a1 (List.length p0) c1), (1, .slice a2 (List.length p1) c2), (5, .int .i64 s1), (26, .bool (!x3))] mix hF (by kernel_rfl) (by kernel_rfl) (by kernel_rfl) (by kernel_rfl) ⟨(Pd.monoO_is mono_elem), Pd.monoO_eq, (Pd.monoO_is mono_elem), Pd.monoO_eq, Pd.monoO_eq, trivial⟩ (fun ow hG => ⟨np_to ow (np_index hG hF ty59 Try.underlying26 rfl rfl (RV.sub (ra0) fun k hk _ => hk) rfl rfl (fun hg => ⟨get?_nn hx1, get?_at hx1⟩)), np_to ow (np_loadF (z := x1) (i := 2) hG hF ty59 rfl rfl rfl rfl rfl rfl rfl), np_to ow (np_index hG hF ty59 Try.underlying26 rfl rfl (RV.sub (ra1) fun k hk _ => hk) rfl rfl (fun hg => ⟨get?_nn hx2, get?_at hx2⟩)), np_to ow (np_loadF (z := x2) (i := 6) hG hF ty59 rfl rfl rfl rfl rfl rfl rfl), np_to ow (np_call [.agg #[.int .i64 x1.A, .int .i64 x1.B], .agg #[.int .i64 x2.A, .int .i64 x2.B]] hG hF Try.call87 rfl rfl (fun w hC hg => (laws_eqGate_ok x1 x2 hx3).mono fun e w' ⟨v, he, hv, hc⟩ => ⟨v, he, hc, hv⟩)), trivial⟩) (by kernel_rfl) fun ow fr w1 hF hE hc => ?_)
      have ra0 := ra0.ext hc
      have ra1 := ra1.ext hc
      have hs := hs.ext hc
      have hM1 := hM1.ext hc
      refine from_end rfl (then_normal ?_)
      refine (wp_if hF (b := (!x3)) rfl (fun hb => ?_) (fun hb => ?_))
      · replace h := iteT hb h
        refine wp_seq (wp_pure [(4, .bool false)] hF (by kernel_rfl) fun fr hF => then_normal ?_)
        obtain rfl := hr1 _ (Option.some.inj h).symm
        obtain rfl := Option.some.inj hk1
        exact wp_ret (blk_ret (then_ret (then_ret (blk_ret (then_ret (ret1 rfl hF rfl ⟨_, rfl, rfl, (hM0.trans hM1).chg⟩))))))
      replace h := iteF hb h
      refine (wp_skip ?_)
      refine blk_normal (then_normal ?_)
      refine (wp_pure [(0, .slice a1 (List.length p0) c1), (1, .slice a2 (List.length p1) c2), (5, .int .i64 (w64 (s1 + 1)))] hF (by kernel_rfl) fun fr hF => then_normal ?_)
      exact ⟨_, (Option.some.inj h).symm, S1, _, hF.sub _ (by kernel_rfl), hM1, hs⟩
    replace h := iteF hb h
    refine (wp_exit (then_exit (then_exit (blk_exit_eq ?_))))
    obtain rfl := hr1 _ (Option.some.inj h).symm
    exact then_normal ⟨_, rfl, S1, _, hF.sub _ (by kernel_rfl), hM1, hs⟩
  · obtain ⟨s1r, rfl, hM⟩ := hM
    obtain ⟨S2, F2, hF, hMx, hs⟩ := hM
    have hM0 := hM0.trans hMx
    refine wp_seq (wp_pure [(4, .bool true)] hF (by kernel_rfl) fun fr hF => then_normal ?_)
    obtain rfl := Option.some.inj h
    exact wp_ret (ret1 rfl hF rfl ⟨_, rfl, rfl, hM0.chg⟩)

theorem laws_eqCircuit_ok (n : Nat) (p0 : D.Circuit) (p1 : D.Circuit) {r : Bool} (h : laws_eqCircuit n p0 p1 = some r) {w : World} {G0 : Nat → Prop} {va0 : Value} (ra0 : RV w G0 va0 p0) {G1 : Nat → Prop} {va1 : Value} (ra1 : RV w G1 va1 p1) :
    Calls Try.prog 16 [va0, va1].toArray w fun e w' => ∃ v, e = .returned v ∧ v = .bool r ∧ Chg Non w w' := by
  unfold laws_eqCircuit at h
  have hs := Sep.nil w Non
  have hM0 : Mem w Non (fun k => (G0 k ∨ G1 k) ∧ k < w.heap.size) w Non (fun k => (G0 k ∨ G1 k) ∧ k < w.heap.size) := Mem.start (fun _ h => h.elim) (fun _ h => h.2) (fun _ h => h.elim)
  have ra0 := ra0.sub (F' := (fun k => (G0 k ∨ G1 k) ∧ k < w.heap.size)) (fun k hk h => ⟨.inl h, hk⟩)
  obtain ⟨v1, rfl, r1⟩ := RV.Circuit ra0
  obtain ⟨a1, c1, rfl, -⟩ := r1.slice
  have ra1 := ra1.sub (F' := (fun k => (G0 k ∨ G1 k) ∧ k < w.heap.size)) (fun k hk h => ⟨.inr (h), hk⟩)
  obtain ⟨v2, rfl, r2⟩ := RV.Circuit ra1
  obtain ⟨a2, c2, rfl, -⟩ := r2.slice
  refine enter (N := 16) Try.func16 rfl Try.ntmps16 rfl fun fr hF => ?_
  refine wp_seq (wp_text' ?_)
  refine q_box hs hM0 [.int .i64 p0.Inputs, .slice a1 (List.length p0.Gates) c1] rfl rfl hF rfl rfl fun b1 w1 S1 fr hs hp hF => ?_
  have r1 := r1.stp hM0 hp
  have r2 := r2.stp hM0 hp
  have hM0 := hM0.stp hp
  have hs : Sep [BX b1 28 [.int .i64 p0.Inputs, .slice a1 (List.length p0.Gates) c1]] w1 S1 := hs
  refine q_box hs hM0 [.int .i64 p1.Inputs, .slice a2 (List.length p1.Gates) c2] rfl rfl hF rfl rfl fun b2 w2 S2 fr hs hp hF => ?_
  have r2 := r2.stp hM0 hp
  have r1 := r1.stp hM0 hp
  have hM0 := hM0.stp hp
  have hs : Sep [BX b2 28 [.int .i64 p1.Inputs, .slice a2 (List.length p1.Gates) c2], BX b1 28 [.int .i64 p0.Inputs, .slice a1 (List.length p0.Gates) c1]] w2 S2 := hs
  refine from_pure 1 [(2, .pointer (some ⟨b1, 0, none⟩)), (3, .pointer (some ⟨b2, 0, none⟩))] hF (by kernel_rfl) fun fr hF => ?_
  refine from_end rfl (then_normal ?_)
  refine wp_seq ?_
  refine wp_seq (wp_text' ?_)
  refine from_pure 1 [(2, .pointer (some ⟨b1, 0, none⟩)), (3, .pointer (some ⟨b2, 0, none⟩)), (5, .pointer (some ⟨b1, 0, none⟩))] hF (by kernel_rfl) fun fr hF => ?_
  refine s_loadBox (.int .i64 p0.Inputs) ty3 rfl rfl hF rfl (hs.bx 1 rfl) rfl rfl fun fr hF => ?_
  refine from_pure 1 [(2, .pointer (some ⟨b1, 0, none⟩)), (3, .pointer (some ⟨b2, 0, none⟩)), (6, .int .i64 p0.Inputs), (7, .pointer (some ⟨b2, 0, none⟩))] hF (by kernel_rfl) fun fr hF => ?_
  refine s_loadBox (.int .i64 p1.Inputs) ty3 rfl rfl hF rfl (hs.bx 0 rfl) rfl rfl fun fr hF => ?_
  refine from_pure 1 [(2, .pointer (some ⟨b1, 0, none⟩)), (3, .pointer (some ⟨b2, 0, none⟩)), (9, .bool (p0.Inputs != p1.Inputs))] hF (by kernel_rfl) fun fr hF => ?_
  refine from_end rfl (then_normal ?_)
  refine (wp_if hF (b := (p0.Inputs != p1.Inputs)) rfl (fun hb => ?_) (fun hb => ?_))
  · replace h := iteT hb h
    have hs : Sep [] w2 S2 := Sep.pick [] hs (by decide) rfl
    refine wp_seq (wp_pure [(4, .bool false)] hF (by kernel_rfl) fun fr hF => then_normal ?_)
    obtain rfl := Option.some.inj h
    exact wp_ret (then_ret (ret1 rfl hF rfl ⟨_, rfl, rfl, hM0.chg⟩))
  replace h := iteF hb h
  refine (wp_skip (then_normal ?_))
  refine wp_seq ?_
  refine wp_seq (wp_text' ?_)
  refine from_pure 1 [(3, .pointer (some ⟨b2, 0, none⟩)), (10, .pointer (some ⟨b1, 1, none⟩))] hF (by kernel_rfl) fun fr hF => ?_
  refine s_loadBox (.slice a1 (List.length p0.Gates) c1) ty26 rfl rfl hF rfl (hs.bx 1 rfl) rfl rfl fun fr hF => ?_
  have hs : Sep [BX b2 28 [.int .i64 p1.Inputs, .slice a2 (List.length p1.Gates) c2]] w2 S2 := Sep.pick [0] hs (by decide) rfl
  refine from_pure 1 [(11, .slice a1 (List.length p0.Gates) c1), (12, .pointer (some ⟨b2, 1, none⟩))] hF (by kernel_rfl) fun fr hF => ?_
  refine s_loadBox (.slice a2 (List.length p1.Gates) c2) ty26 rfl rfl hF rfl (hs.bx 0 rfl) rfl rfl fun fr hF => ?_
  have hs : Sep [] w2 S2 := Sep.pick [] hs (by decide) rfl
  obtain ⟨x1, hx1, h⟩ := bindE h
  refine s_call [.slice a1 (List.length p0.Gates) c1, .slice a2 (List.length p1.Gates) c2] Try.call52 rfl rfl hF rfl (laws_eqGateS_ok n p0.Gates p1.Gates hx1 (r1) (r2)) fun v w3 fr hRes hF => ?_
  obtain ⟨rfl, hc⟩ := hRes
  have r1 := r1.ext hc
  have r2 := r2.ext hc
  have hs := hs.ext hc
  have hM0 := hM0.ext hc
  refine from_pure 1 [(15, .bool (!x1))] hF (by kernel_rfl) fun fr hF => ?_
  refine from_end rfl (then_normal ?_)
  refine (wp_if hF (b := (!x1)) rfl (fun hb => ?_) (fun hb => ?_))
  · replace h := iteT hb h
    refine wp_seq (wp_pure [(4, .bool false)] hF (by kernel_rfl) fun fr hF => then_normal ?_)
    obtain rfl := Option.some.inj h
    exact wp_ret (then_ret (ret1 rfl hF rfl ⟨_, rfl, rfl, hM0.chg⟩))
  replace h := iteF hb h
  refine (wp_skip (then_normal ?_))
  refine wp_seq (wp_pure [(4, .bool true)] hF (by kernel_rfl) fun fr hF => then_normal ?_)
  obtain rfl := Option.some.inj h
  exact wp_ret (ret1 rfl hF rfl ⟨_, rfl, rfl, hM0.chg⟩)

theorem laws_eqIntS_ok (n : Nat) (p0 : List Int) (p1 : List Int) {r : Bool} (h : laws_eqIntS n p0 p1 = some r) {w : World} {G0 : Nat → Prop} {va0 : Value} (ra0 : RV w G0 va0 p0) {G1 : Nat → Prop} {va1 : Value} (ra1 : RV w G1 va1 p1) :
    Calls Try.prog 28 [va0, va1].toArray w fun e w' => ∃ v, e = .returned v ∧ v = .bool r ∧ Chg Non w w' := by
  unfold laws_eqIntS at h
  have hs := Sep.nil w Non
  have hM0 : Mem w Non (fun k => (G0 k ∨ G1 k) ∧ k < w.heap.size) w Non (fun k => (G0 k ∨ G1 k) ∧ k < w.heap.size) := Mem.start (fun _ h => h.elim) (fun _ h => h.2) (fun _ h => h.elim)
  have ra0 := ra0.sub (F' := (fun k => (G0 k ∨ G1 k) ∧ k < w.heap.size)) (fun k hk h => ⟨.inl h, hk⟩)
  obtain ⟨a1, c1, rfl, -⟩ := ra0.slice
  have ra1 := ra1.sub (F' := (fun k => (G0 k ∨ G1 k) ∧ k < w.heap.size)) (fun k hk h => ⟨.inr (h), hk⟩)
  obtain ⟨a2, c2, rfl, -⟩ := ra1.slice
  refine enter (N := 26) Try.func28 rfl Try.ntmps28 rfl fun fr hF => ?_
  refine wp_seq (wp_pure [(0, .slice a1 (List.length p0) c1), (1, .slice a2 (List.length p1) c2)] hF (by kernel_rfl) fun fr hF => then_normal ?_)
  refine wp_seq ?_
  refine wp_seq (wp_pure [(0, .slice a1 (List.length p0) c1), (1, .slice a2 (List.length p1) c2), (10, .bool ((len p0) != (len p1)))] hF (by kernel_rfl) fun fr hF => then_normal ?_)
  refine (wp_if hF (b := ((len p0) != (len p1))) rfl (fun hb => ?_) (fun hb => ?_))
  · replace h := iteT hb h
    refine wp_seq (wp_pure [(4, .bool false)] hF (by kernel_rfl) fun fr hF => then_normal ?_)
    obtain rfl := Option.some.inj h
    exact wp_ret (then_ret (ret1 rfl hF rfl ⟨_, rfl, rfl, hM0.chg⟩))
  replace h := iteF hb h
  refine (wp_skip (then_normal ?_))
  refine wp_seq ?_
  refine wp_seq (wp_pure [(0, .slice a1 (List.length p0) c1), (1, .slice a2 (List.length p1) c2), (5, .int .i64 0)] hF (by kernel_rfl) fun fr hF => then_normal ?_)
  obtain ⟨rl1, hit1, h⟩ := bindE h
  have hk1 := h
  refine (wp_cut (M := fun fr w' => ∃ s, rl1 = .inl s ∧ ∃ S2 F2, FrS 26 [] fr ∧ Mem w Non (fun k => (G0 k ∨ G1 k) ∧ k < w.heap.size) w' S2 F2 ∧ Sep [] w' S2) (wp_block (wp_iter (Inv := fun s1 fr w' => ∃ S1 F1, FrS 26 [(0, .slice a1 (List.length p0) c1), (1, .slice a2 (List.length p1) c2), (5, .int .i64 s1)] fr ∧ Mem w Non (fun k => (G0 k ∨ G1 k) ∧ k < w.heap.size) w' S1 F1 ∧ Sep [] w' S1) hit1 ⟨Non, _, hF.sub _ (by kernel_rfl), (Mem.start hM0.bd hM0.bdF hM0.dj), hs⟩ fun s1 q1 fr w1i hI h hr1 => ?_)) fun fr w1o hM => ?_)
  · obtain ⟨S1, F1, hF, hM1, hs⟩ := hI
    have ra0 := ra0.mem hM1
    have ra1 := ra1.mem hM1
    refine wp_seq ?_
    refine wp_seq (wp_pure [(0, .slice a1 (List.length p0) c1), (1, .slice a2 (List.length p1) c2), (5, .int .i64 s1), (14, .bool (decide (s1 < (len p0))))] hF (by kernel_rfl) fun fr hF => then_normal ?_)
    refine (wp_if hF (b := (decide (s1 < (len p0)))) rfl (fun hb => ?_) (fun hb => ?_))
    · replace h := iteT hb h
      refine (wp_skip (then_normal ?_))
      refine wp_seq (wp_block ?_)
      obtain ⟨x1, hx1, h⟩ := bindE h
      obtain ⟨x2, hx2, h⟩ := bindE h
      refine wp_seq (region_bm 9 [0, 0, 3, 7, 0, 0, 48, 112, 255] [true, true, false, false, true, true, false, false, true]
          [.eq (.slice a1 (List.length p0) c1), .eq (.int .i64 s1), .is fun v w => ElemP w (fun k => k < w1i.heap.size) v (x1 : Int), .eq (.int .i64 x1), .eq (.slice a2 (List.length p1) c2), .eq (.int .i64 s1), .is fun v w => ElemP w (fun k => k < w1i.heap.size) v (x2 : Int), .eq (.int .i64 x2), .eq (.bool (x1 != x2))]
          [(0, .slice a1 (List.length p0) c1), (1, .slice a2 (List.length p1) c2), (5, .int .i64 s1), (25, .bool (x1 != x2))] mix hF (by kernel_rfl) (by kernel_rfl) (by kernel_rfl) (by kernel_rfl) ⟨(Pd.monoO_is mono_elem), Pd.monoO_eq, (Pd.monoO_is mono_elem), Pd.monoO_eq, trivial⟩ (fun ow hG => ⟨np_to ow (np_index hG hF ty3 Try.underlying37 rfl rfl (RV.sub (ra0) fun k hk _ => hk) rfl rfl (fun hg => ⟨get?_nn hx1, get?_at hx1⟩)), np_to ow (np_loadF (z := x1) (i := 2) hG hF ty3 rfl rfl rfl rfl rfl rfl rfl), np_to ow (np_index hG hF ty3 Try.underlying37 rfl rfl (RV.sub (ra1) fun k hk _ => hk) rfl rfl (fun hg => ⟨get?_nn hx2, get?_at hx2⟩)), np_to ow (np_loadF (z := x2) (i := 6) hG hF ty3 rfl rfl rfl rfl rfl rfl rfl), trivial⟩) (by kernel_rfl) fun ow fr w1 hF hE hc => ?_)
      have ra0 := ra0.ext hc
      have ra1 := ra1.ext hc
      have hs := hs.ext hc
      have hM1 := hM1.ext hc
      refine from_end rfl (then_normal ?_)
      refine (wp_if hF (b := (x1 != x2)) rfl (fun hb => ?_) (fun hb => ?_))
      · replace h := iteT hb h
        refine wp_seq (wp_pure [(4, .bool false)] hF (by kernel_rfl) fun fr hF => then_normal ?_)
        obtain rfl := hr1 _ (Option.some.inj h).symm
        obtain rfl := Option.some.inj hk1
        exact wp_ret (blk_ret (then_ret (then_ret (blk_ret (then_ret (ret1 rfl hF rfl ⟨_, rfl, rfl, (hM0.trans hM1).chg⟩))))))
      replace h := iteF hb h
      refine (wp_skip ?_)
      refine blk_normal (then_normal ?_)
      refine (wp_pure [(0, .slice a1 (List.length p0) c1), (1, .slice a2 (List.length p1) c2), (5, .int .i64 (w64 (s1 + 1)))] hF (by kernel_rfl) fun fr hF => then_normal ?_)
      exact ⟨_, (Option.some.inj h).symm, S1, _, hF.sub _ (by kernel_rfl), hM1, hs⟩
    replace h := iteF hb h
    refine (wp_exit (then_exit (then_exit (blk_exit_eq ?_))))
    obtain rfl := hr1 _ (Option.some.inj h).symm
    exact then_normal ⟨_, rfl, S1, _, hF.sub _ (by kernel_rfl), hM1, hs⟩
  · obtain ⟨s1r, rfl, hM⟩ := hM
    obtain ⟨S2, F2, hF, hMx, hs⟩ := hM
    have hM0 := hM0.trans hMx
    refine wp_seq (wp_pure [(4, .bool true)] hF (by kernel_rfl) fun fr hF => then_normal ?_)
    obtain rfl := Option.some.inj h
    exact wp_ret (ret1 rfl hF rfl ⟨_, rfl, rfl, hM0.chg⟩)

theorem laws_markGateS_ok (n : Nat) (p0 : List D.Gate) (p1 : Int) {r : Int × (List D.Gate)} (h : laws_markGateS n p0 p1 = some r) {w : World} {S0 F0 : Nat → Prop} {pa0 : Option Addr} {pn0 pc0 : Nat} (hs : Sep [SL (α := D.Gate) 59 (.slice pa0 pn0 pc0) p0] w S0) (hb : ∀ k, S0 k → k < w.heap.size) (hd : ∀ k, S0 k → F0 k → False) :
    Calls Try.prog 53 [.slice pa0 pn0 pc0, .int .i64 p1].toArray w fun e w' => ∃ v, e = .returned v ∧ v = .int .i64 r.1 ∧ ∃ S', Stp w S0 w' S' ∧ Sep [SL (α := D.Gate) 59 (.slice pa0 pn0 pc0) r.2] w' S' := by
  unfold laws_markGateS at h
  obtain ⟨hpn, hs⟩ := hs.relen 0 rfl
  subst hpn
  have hs : Sep [SL (α := D.Gate) 59 (.slice pa0 (List.length p0) pc0) p0] w S0 := hs
  have hM0 : Mem w S0 (fun k => F0 k ∧ k < w.heap.size) w S0 (fun k => F0 k ∧ k < w.heap.size) := Mem.start hb (fun _ h => h.2) (fun k h1 h2 => hd k h1 h2.1)
  refine enter (N := 27) Try.func53 rfl Try.ntmps53 rfl fun fr hF => ?_
  refine wp_seq (wp_pure [(0, .slice pa0 (List.length p0) pc0), (1, .int .i64 p1)] hF (by kernel_rfl) fun fr hF => then_normal ?_)
  refine wp_seq ?_
  refine wp_seq (wp_pure [(0, .slice pa0 (List.length p0) pc0), (1, .int .i64 p1), (5, .int .i64 0)] hF (by kernel_rfl) fun fr hF => then_normal ?_)
  obtain ⟨rl1, hit1, h⟩ := bindE h
  have hk1 := h
  refine (wp_cut (M := fun fr w' => ∃ S2 F2, FrS 27 [(1, .int .i64 rl1.1)] fr ∧ Mem w S0 (fun k => F0 k ∧ k < w.heap.size) w' S2 F2 ∧ Sep [SL (α := D.Gate) 59 (.slice pa0 (List.length p0) pc0) rl1.2] w' S2) (wp_block (wp_iter (Inv := fun s1 fr w' => ∃ S1 F1, FrS 27 [(0, .slice pa0 (List.length p0) pc0), (1, .int .i64 s1.1), (5, .int .i64 s1.2.1)] fr ∧ Mem w S0 (fun k => F0 k ∧ k < w.heap.size) w' S1 F1 ∧ Sep [SL (α := D.Gate) 59 (.slice pa0 (List.length p0) pc0) s1.2.2] w' S1) hit1 ⟨S0, _, hF.sub _ (by kernel_rfl), (Mem.start hM0.bd hM0.bdF hM0.dj), hs⟩ fun s1 q1 fr w1i hI h hr1 => ?_)) fun fr w1o hM => ?_)
  · obtain ⟨S1, F1, hF, hM1, hs⟩ := hI
    refine wp_seq ?_
    refine wp_seq (wp_pure [(0, .slice pa0 (List.length p0) pc0), (1, .int .i64 s1.1), (5, .int .i64 s1.2.1), (9, .bool (decide (s1.2.1 < (len p0))))] hF (by kernel_rfl) fun fr hF => then_normal ?_)
    refine (wp_if hF (b := (decide (s1.2.1 < (len p0)))) rfl (fun hb => ?_) (fun hb => ?_))
    · replace h := iteT hb h
      refine (wp_skip (then_normal ?_))
      refine wp_seq (wp_block ?_)
      refine wp_seq (wp_text' ?_)
      refine from_pure 3 [(0, .slice pa0 (List.length p0) pc0), (1, .int .i64 s1.1), (5, .int .i64 s1.2.1), (12, .slice pa0 (List.length p0) pc0), (13, .int .i64 s1.2.1), (14, .int .i64 s1.1)] hF (by kernel_rfl) fun fr hF => ?_
      obtain ⟨x1, hx1, h⟩ := bindE h
      obtain ⟨x2, hx2, h⟩ := bindE h
      refine q_setField (q := x1) (q' := ({ x1 with A := s1.1 } : D.Gate)) (off := 0) 0 hs hM1 rfl Try.underlying26 ty59 rfl rfl rfl rfl rfl hF rfl rfl rfl rfl (by kernel_rfl) rfl (by kernel_rfl) rfl hx1 rfl hx2 fun w1 S3 fr _ _ hs hp hF => ?_
      have hM1 := hM1.stp hp
      have hs : Sep [SL (α := D.Gate) 59 (.slice pa0 (List.length p0) pc0) x2] w1 S3 := hs
      refine from_end rfl (then_normal ?_)
      refine wp_seq (wp_pure [(0, .slice pa0 (List.length p0) pc0), (1, .int .i64 (w64 (s1.1 + 1))), (5, .int .i64 s1.2.1)] hF (by kernel_rfl) fun fr hF => then_normal ?_)
      refine wp_seq (wp_text' ?_)
      refine from_pure 3 [(0, .slice pa0 (List.length p0) pc0), (1, .int .i64 (w64 (s1.1 + 1))), (5, .int .i64 s1.2.1), (19, .slice pa0 (List.length p0) pc0), (20, .int .i64 s1.2.1), (21, .int .i64 (w64 (s1.1 + 1)))] hF (by kernel_rfl) fun fr hF => ?_
      obtain ⟨x3, hx3, h⟩ := bindE h
      obtain ⟨x4, hx4, h⟩ := bindE h
      refine q_setField (q := x3) (q' := ({ x3 with B := (w64 (s1.1 + 1)) } : D.Gate)) (off := 1) 0 hs hM1 rfl Try.underlying26 ty59 rfl rfl rfl rfl rfl hF rfl rfl rfl rfl (by kernel_rfl) rfl (by kernel_rfl) rfl hx3 rfl hx4 fun w2 S4 fr _ _ hs hp hF => ?_
      have hM1 := hM1.stp hp
      have hs : Sep [SL (α := D.Gate) 59 (.slice pa0 (List.length p0) pc0) x4] w2 S4 := hs
      refine from_end rfl (then_normal ?_)
      refine (wp_pure [(0, .slice pa0 (List.length p0) pc0), (1, .int .i64 (w64 ((w64 (s1.1 + 1)) + 1))), (5, .int .i64 s1.2.1)] hF (by kernel_rfl) fun fr hF => ?_)
      refine blk_normal (then_normal ?_)
      refine (wp_pure [(0, .slice pa0 (List.length p0) pc0), (1, .int .i64 (w64 ((w64 (s1.1 + 1)) + 1))), (5, .int .i64 (w64 (s1.2.1 + 1)))] hF (by kernel_rfl) fun fr hF => then_normal ?_)
      exact ⟨_, (Option.some.inj h).symm, S4, _, hF.sub _ (by kernel_rfl), hM1, hs⟩
    replace h := iteF hb h
    refine (wp_exit (then_exit (then_exit (blk_exit_eq ?_))))
    obtain rfl := hr1 _ (Option.some.inj h).symm
    exact then_normal ⟨S1, _, hF.sub _ (by kernel_rfl), hM1, hs⟩
  · obtain ⟨S2, F2, hF, hMx, hs⟩ := hM
    have hM0 := hM0.trans hMx
    refine wp_seq (wp_pure [(4, .int .i64 rl1.1)] hF (by kernel_rfl) fun fr hF => then_normal ?_)
    obtain rfl := Option.some.inj h
    exact wp_ret (ret1 rfl hF rfl ⟨_, rfl, rfl, S2, hM0.out, hs⟩)

theorem laws_markCircuit_ok (n : Nat) (p0 : D.Circuit) (p1 : Int) {r : Int × D.Circuit} (h : laws_markCircuit n p0 p1 = some r) {w : World} {S0 F0 : Nat → Prop} {pa0 : Option Addr} {pn0 pc0 : Nat} (hs : Sep [SL (α := D.Gate) 59 (.slice pa0 pn0 pc0) p0.Gates] w S0) (hb : ∀ k, S0 k → k < w.heap.size) (hd : ∀ k, S0 k → F0 k → False) :
    Calls Try.prog 17 [.agg #[.int .i64 p0.Inputs, .slice pa0 pn0 pc0], .int .i64 p1].toArray w fun e w' => ∃ v, e = .returned v ∧ v = .int .i64 r.1 ∧ ∃ S', Stp w S0 w' S' ∧ Sep [SL (α := D.Gate) 59 (.slice pa0 pn0 pc0) r.2.Gates] w' S' := by
  unfold laws_markCircuit at h
  obtain ⟨hpn, hs⟩ := hs.relen 0 rfl
  subst hpn
  have hs : Sep [SL (α := D.Gate) 59 (.slice pa0 (List.length p0.Gates) pc0) p0.Gates] w S0 := hs
  have hM0 : Mem w S0 (fun k => F0 k ∧ k < w.heap.size) w S0 (fun k => F0 k ∧ k < w.heap.size) := Mem.start hb (fun _ h => h.2) (fun k h1 h2 => hd k h1 h2.1)
  refine enter (N := 10) Try.func17 rfl Try.ntmps17 rfl fun fr hF => ?_
  refine wp_seq (wp_text' ?_)
  refine q_box hs hM0 [.int .i64 p0.Inputs, .slice pa0 (List.length p0.Gates) pc0] rfl rfl hF rfl rfl fun b1 w1 S1 fr hs hp hF => ?_
  have hM0 := hM0.stp hp
  have hs : Sep [BX b1 28 [.int .i64 p0.Inputs, .slice pa0 (List.length p0.Gates) pc0], SL (α := D.Gate) 59 (.slice pa0 (List.length p0.Gates) pc0) p0.Gates] w1 S1 := hs
  refine from_pure 1 [(1, .int .i64 p1), (2, .pointer (some ⟨b1, 0, none⟩))] hF (by kernel_rfl) fun fr hF => ?_
  refine from_end rfl (then_normal ?_)
  refine wp_seq (wp_text' ?_)
  refine from_pure 1 [(1, .int .i64 p1), (5, .pointer (some ⟨b1, 1, none⟩))] hF (by kernel_rfl) fun fr hF => ?_
  refine s_loadBox (.slice pa0 (List.length p0.Gates) pc0) ty26 rfl rfl hF rfl (hs.bx 0 rfl) rfl rfl fun fr hF => ?_
  have hs : Sep [SL (α := D.Gate) 59 (.slice pa0 (List.length p0.Gates) pc0) p0.Gates] w1 S1 := Sep.pick [1] hs (by decide) rfl
  refine from_pure 1 [(6, .slice pa0 (List.length p0.Gates) pc0), (7, .int .i64 p1)] hF (by kernel_rfl) fun fr hF => ?_
  obtain ⟨x1, hx1, h⟩ := bindE h
  obtain ⟨A1, R1, hsA, hsR, hdA, hbA, hup⟩ := Sep.call (L1 := [SL (α := D.Gate) 59 (.slice pa0 (List.length p0.Gates) pc0) p0.Gates]) (L2 := []) hs hM0
  refine s_call [.slice pa0 (List.length p0.Gates) pc0, .int .i64 p1] Try.call53 rfl rfl hF rfl (laws_markGateS_ok n p0.Gates p1 hx1 hsA hbA hdA) fun v w2 fr hRes hF => ?_
  obtain ⟨rfl, _, hp, hs⟩ := hRes
  obtain ⟨S2, hp, hs⟩ := hup hp hs
  have hM0 := hM0.stp hp
  have hs : Sep [SL (α := D.Gate) 59 (.slice pa0 (List.length p0.Gates) pc0) x1.2] w2 S2 := hs
  refine from_pure 1 [(1, .int .i64 x1.1)] hF (by kernel_rfl) fun fr hF => ?_
  refine from_end rfl (then_normal ?_)
  refine wp_seq (wp_pure [(4, .int .i64 x1.1)] hF (by kernel_rfl) fun fr hF => then_normal ?_)
  obtain rfl := Option.some.inj h
  exact wp_ret (ret1 rfl hF rfl ⟨_, rfl, rfl, S2, hM0.out, hs⟩)

theorem laws_markIntS_ok (n : Nat) (p0 : List Int) (p1 : Int) {r : Int × (List Int)} (h : laws_markIntS n p0 p1 = some r) {w : World} {S0 F0 : Nat → Prop} {pa0 : Option Addr} {pn0 pc0 : Nat} (hs : Sep [SL (α := Int) 3 (.slice pa0 pn0 pc0) p0] w S0) (hb : ∀ k, S0 k → k < w.heap.size) (hd : ∀ k, S0 k → F0 k → False) :
    Calls Try.prog 29 [.slice pa0 pn0 pc0, .int .i64 p1].toArray w fun e w' => ∃ v, e = .returned v ∧ v = .int .i64 r.1 ∧ ∃ S', Stp w S0 w' S' ∧ Sep [SL (α := Int) 3 (.slice pa0 pn0 pc0) r.2] w' S' := by
  unfold laws_markIntS at h
  obtain ⟨hpn, hs⟩ := hs.relen 0 rfl
  subst hpn
  have hs : Sep [SL (α := Int) 3 (.slice pa0 (List.length p0) pc0) p0] w S0 := hs
  have hM0 : Mem w S0 (fun k => F0 k ∧ k < w.heap.size) w S0 (fun k => F0 k ∧ k < w.heap.size) := Mem.start hb (fun _ h => h.2) (fun k h1 h2 => hd k h1 h2.1)
  refine enter (N := 19) Try.func29 rfl Try.ntmps29 rfl fun fr hF => ?_
  refine wp_seq (wp_pure [(0, .slice pa0 (List.length p0) pc0), (1, .int .i64 p1)] hF (by kernel_rfl) fun fr hF => then_normal ?_)
  refine wp_seq ?_
  refine wp_seq (wp_pure [(0, .slice pa0 (List.length p0) pc0), (1, .int .i64 p1), (5, .int .i64 0)] hF (by kernel_rfl) fun fr hF => then_normal ?_)
  obtain ⟨rl1, hit1, h⟩ := bindE h
  have hk1 := h
  refine (wp_cut (M := fun fr w' => ∃ S2 F2, FrS 19 [(1, .int .i64 rl1.1)] fr ∧ Mem w S0 (fun k => F0 k ∧ k < w.heap.size) w' S2 F2 ∧ Sep [SL (α := Int) 3 (.slice pa0 (List.length p0) pc0) rl1.2] w' S2) (wp_block (wp_iter (Inv := fun s1 fr w' => ∃ S1 F1, FrS 19 [(0, .slice pa0 (List.length p0) pc0), (1, .int .i64 s1.1), (5, .int .i64 s1.2.1)] fr ∧ Mem w S0 (fun k => F0 k ∧ k < w.heap.size) w' S1 F1 ∧ Sep [SL (α := Int) 3 (.slice pa0 (List.length p0) pc0) s1.2.2] w' S1) hit1 ⟨S0, _, hF.sub _ (by kernel_rfl), (Mem.start hM0.bd hM0.bdF hM0.dj), hs⟩ fun s1 q1 fr w1i hI h hr1 => ?_)) fun fr w1o hM => ?_)
  · obtain ⟨S1, F1, hF, hM1, hs⟩ := hI
    refine wp_seq ?_
    refine wp_seq (wp_pure [(0, .slice pa0 (List.length p0) pc0), (1, .int .i64 s1.1), (5, .int .i64 s1.2.1), (9, .bool (decide (s1.2.1 < (len p0))))] hF (by kernel_rfl) fun fr hF => then_normal ?_)
    refine (wp_if hF (b := (decide (s1.2.1 < (len p0)))) rfl (fun hb => ?_) (fun hb => ?_))
    · replace h := iteT hb h
      refine (wp_skip (then_normal ?_))
      refine wp_seq (wp_block ?_)
      refine wp_seq (wp_text' ?_)
      refine from_pure 3 [(0, .slice pa0 (List.length p0) pc0), (1, .int .i64 s1.1), (5, .int .i64 s1.2.1), (12, .slice pa0 (List.length p0) pc0), (13, .int .i64 s1.2.1), (14, .int .i64 s1.1)] hF (by kernel_rfl) fun fr hF => ?_
      obtain ⟨x1, hx1, h⟩ := bindE h
      refine q_set (q := s1.1) 0 hs hM1 rfl Try.underlying37 ty3 rfl rfl rfl rfl hF rfl rfl (by simp) rfl rfl hx1 fun w1 S3 fr _ hs hp hF => ?_
      have hM1 := hM1.stp hp
      have hs : Sep [SL (α := Int) 3 (.slice pa0 (List.length p0) pc0) x1] w1 S3 := hs
      refine from_end rfl (then_normal ?_)
      refine (wp_pure [(0, .slice pa0 (List.length p0) pc0), (1, .int .i64 (w64 (s1.1 + 1))), (5, .int .i64 s1.2.1)] hF (by kernel_rfl) fun fr hF => ?_)
      refine blk_normal (then_normal ?_)
      refine (wp_pure [(0, .slice pa0 (List.length p0) pc0), (1, .int .i64 (w64 (s1.1 + 1))), (5, .int .i64 (w64 (s1.2.1 + 1)))] hF (by kernel_rfl) fun fr hF => then_normal ?_)
      exact ⟨_, (Option.some.inj h).symm, S3, _, hF.sub _ (by kernel_rfl), hM1, hs⟩
    replace h := iteF hb h
    refine (wp_exit (then_exit (then_exit (blk_exit_eq ?_))))
    obtain rfl := hr1 _ (Option.some.inj h).symm
    exact then_normal ⟨S1, _, hF.sub _ (by kernel_rfl), hM1, hs⟩
  · obtain ⟨S2, F2, hF, hMx, hs⟩ := hM
    have hM0 := hM0.trans hMx
    refine wp_seq (wp_pure [(4, .int .i64 rl1.1)] hF (by kernel_rfl) fun fr hF => then_normal ?_)
    obtain rfl := Option.some.inj h
    exact wp_ret (ret1 rfl hF rfl ⟨_, rfl, rfl, S2, hM0.out, hs⟩)

theorem laws_heldGateS_ok (n : Nat) (p0 : List D.Gate) (p1 : Int) {r : Int} (h : laws_heldGateS n p0 p1 = some r) {w : World} {G0 : Nat → Prop} {va0 : Value} (ra0 : RV w G0 va0 p0) :
    Calls Try.prog 54 [va0, .int .i64 p1].toArray w fun e w' => ∃ v, e = .returned v ∧ v = .int .i64 r ∧ Chg Non w w' := by
  unfold laws_heldGateS at h
  have hs := Sep.nil w Non
  have hM0 : Mem w Non (fun k => (G0 k) ∧ k < w.heap.size) w Non (fun k => (G0 k) ∧ k < w.heap.size) := Mem.start (fun _ h => h.elim) (fun _ h => h.2) (fun _ h => h.elim)
  have ra0 := ra0.sub (F' := (fun k => (G0 k) ∧ k < w.heap.size)) (fun k hk h => ⟨h, hk⟩)
  obtain ⟨a1, c1, rfl, -⟩ := ra0.slice
  refine enter (N := 31) Try.func54 rfl Try.ntmps54 rfl fun fr hF => ?_
  refine wp_seq (wp_pure [(0, .slice a1 (List.length p0) c1), (1, .int .i64 p1)] hF (by kernel_rfl) fun fr hF => then_normal ?_)
  refine wp_seq ?_
  refine wp_seq (wp_pure [(0, .slice a1 (List.length p0) c1), (1, .int .i64 p1), (5, .int .i64 0)] hF (by kernel_rfl) fun fr hF => then_normal ?_)
  obtain ⟨rl1, hit1, h⟩ := bindE h
  have hk1 := h
  refine (wp_cut (M := fun fr w' => ∃ s, rl1 = .inl s ∧ ∃ S2 F2, FrS 31 [(1, .int .i64 s)] fr ∧ Mem w Non (fun k => (G0 k) ∧ k < w.heap.size) w' S2 F2 ∧ Sep [] w' S2) (wp_block (wp_iter (Inv := fun s1 fr w' => ∃ S1 F1, FrS 31 [(0, .slice a1 (List.length p0) c1), (1, .int .i64 s1.1), (5, .int .i64 s1.2)] fr ∧ Mem w Non (fun k => (G0 k) ∧ k < w.heap.size) w' S1 F1 ∧ Sep [] w' S1) hit1 ⟨Non, _, hF.sub _ (by kernel_rfl), (Mem.start hM0.bd hM0.bdF hM0.dj), hs⟩ fun s1 q1 fr w1i hI h hr1 => ?_)) fun fr w1o hM => ?_)
  · obtain ⟨S1, F1, hF, hM1, hs⟩ := hI
    have ra0 := ra0.mem hM1
    refine wp_seq ?_
    refine wp_seq (wp_pure [(0, .slice a1 (List.length p0) c1), (1, .int .i64 s1.1), (5, .int .i64 s1.2), (9, .bool (decide (s1.2 < (len p0))))] hF (by kernel_rfl) fun fr hF => then_normal ?_)
    refine (wp_if hF (b := (decide (s1.2 < (len p0)))) rfl (fun hb => ?_) (fun hb => ?_))
    · replace h := iteT hb h
      refine (wp_skip (then_normal ?_))
      refine wp_seq (wp_block ?_)
      refine wp_seq ?_
      refine wp_seq (wp_text' ?_)
      refine from_pure 2 [(0, .slice a1 (List.length p0) c1), (1, .int .i64 s1.1), (5, .int .i64 s1.2), (12, .slice a1 (List.length p0) c1), (13, .int .i64 s1.2)] hF (by kernel_rfl) fun fr hF => ?_
      obtain ⟨x1, hx1, h⟩ := bindE h
      refine s_elemField (z := x1) (u := .int .i64 x1.A) ty59 Try.underlying26 ty3 rfl rfl rfl rfl rfl rfl hF rfl (ra0) rfl (get?_nn hx1) (get?_at hx1) rfl rfl rfl fun p p2 fr hF => ?_
      refine from_pure 2 [(0, .slice a1 (List.length p0) c1), (1, .int .i64 s1.1), (5, .int .i64 s1.2), (18, .bool (x1.A != s1.1))] hF (by kernel_rfl) fun fr hF => ?_
      refine from_end rfl (then_normal ?_)
      refine (wp_if hF (b := (x1.A != s1.1)) rfl (fun hb => ?_) (fun hb => ?_))
      · replace h := iteT hb h
        refine wp_seq (wp_pure [(4, .int .i64 (-1))] hF (by kernel_rfl) fun fr hF => then_normal ?_)
        obtain rfl := hr1 _ (Option.some.inj h).symm
        obtain rfl := Option.some.inj hk1
        exact wp_ret (then_ret (blk_ret (then_ret (then_ret (blk_ret (then_ret (ret1 rfl hF rfl ⟨_, rfl, rfl, (hM0.trans hM1).chg⟩)))))))
      replace h := iteF hb h
      refine (wp_skip (then_normal ?_))
      refine wp_seq (wp_pure [(0, .slice a1 (List.length p0) c1), (1, .int .i64 (w64 (s1.1 + 1))), (5, .int .i64 s1.2)] hF (by kernel_rfl) fun fr hF => then_normal ?_)
      refine wp_seq ?_
      refine wp_seq (wp_text' ?_)
      refine from_pure 2 [(0, .slice a1 (List.length p0) c1), (1, .int .i64 (w64 (s1.1 + 1))), (5, .int .i64 s1.2), (21, .slice a1 (List.length p0) c1), (22, .int .i64 s1.2)] hF (by kernel_rfl) fun fr hF => ?_
      obtain ⟨x2, hx2, h⟩ := bindE h
      refine s_elemField (z := x2) (u := .int .i64 x2.B) ty59 Try.underlying26 ty3 rfl rfl rfl rfl rfl rfl hF rfl (ra0) rfl (get?_nn hx2) (get?_at hx2) rfl rfl rfl fun p p2 fr hF => ?_
      refine from_pure 2 [(0, .slice a1 (List.length p0) c1), (1, .int .i64 (w64 (s1.1 + 1))), (5, .int .i64 s1.2), (27, .bool (x2.B != (w64 (s1.1 + 1))))] hF (by kernel_rfl) fun fr hF => ?_
      refine from_end rfl (then_normal ?_)
      refine (wp_if hF (b := (x2.B != (w64 (s1.1 + 1)))) rfl (fun hb => ?_) (fun hb => ?_))
      · replace h := iteT hb h
        refine wp_seq (wp_pure [(4, .int .i64 (-1))] hF (by kernel_rfl) fun fr hF => then_normal ?_)
        obtain rfl := hr1 _ (Option.some.inj h).symm
        obtain rfl := Option.some.inj hk1
        exact wp_ret (then_ret (blk_ret (then_ret (then_ret (blk_ret (then_ret (ret1 rfl hF rfl ⟨_, rfl, rfl, (hM0.trans hM1).chg⟩)))))))
      replace h := iteF hb h
      refine (wp_skip (then_normal ?_))
      refine (wp_pure [(0, .slice a1 (List.length p0) c1), (1, .int .i64 (w64 ((w64 (s1.1 + 1)) + 1))), (5, .int .i64 s1.2)] hF (by kernel_rfl) fun fr hF => ?_)
      refine blk_normal (then_normal ?_)
      refine (wp_pure [(0, .slice a1 (List.length p0) c1), (1, .int .i64 (w64 ((w64 (s1.1 + 1)) + 1))), (5, .int .i64 (w64 (s1.2 + 1)))] hF (by kernel_rfl) fun fr hF => then_normal ?_)
      exact ⟨_, (Option.some.inj h).symm, S1, _, hF.sub _ (by kernel_rfl), hM1, hs⟩
    replace h := iteF hb h
    refine (wp_exit (then_exit (then_exit (blk_exit_eq ?_))))
    obtain rfl := hr1 _ (Option.some.inj h).symm
    exact then_normal ⟨_, rfl, S1, _, hF.sub _ (by kernel_rfl), hM1, hs⟩
  · obtain ⟨s1r, rfl, hM⟩ := hM
    obtain ⟨S2, F2, hF, hMx, hs⟩ := hM
    have hM0 := hM0.trans hMx
    refine wp_seq (wp_pure [(4, .int .i64 s1r)] hF (by kernel_rfl) fun fr hF => then_normal ?_)
    obtain rfl := Option.some.inj h
    exact wp_ret (ret1 rfl hF rfl ⟨_, rfl, rfl, hM0.chg⟩)

theorem laws_heldCircuit_ok (n : Nat) (p0 : D.Circuit) (p1 : Int) {r : Int} (h : laws_heldCircuit n p0 p1 = some r) {w : World} {G0 : Nat → Prop} {va0 : Value} (ra0 : RV w G0 va0 p0) :
    Calls Try.prog 18 [va0, .int .i64 p1].toArray w fun e w' => ∃ v, e = .returned v ∧ v = .int .i64 r ∧ Chg Non w w' := by
  unfold laws_heldCircuit at h
  have hs := Sep.nil w Non
  have hM0 : Mem w Non (fun k => (G0 k) ∧ k < w.heap.size) w Non (fun k => (G0 k) ∧ k < w.heap.size) := Mem.start (fun _ h => h.elim) (fun _ h => h.2) (fun _ h => h.elim)
  have ra0 := ra0.sub (F' := (fun k => (G0 k) ∧ k < w.heap.size)) (fun k hk h => ⟨h, hk⟩)
  obtain ⟨v1, rfl, r1⟩ := RV.Circuit ra0
  obtain ⟨a1, c1, rfl, -⟩ := r1.slice
  refine enter (N := 12) Try.func18 rfl Try.ntmps18 rfl fun fr hF => ?_
  refine wp_seq (wp_text' ?_)
  refine q_box hs hM0 [.int .i64 p0.Inputs, .slice a1 (List.length p0.Gates) c1] rfl rfl hF rfl rfl fun b1 w1 S1 fr hs hp hF => ?_
  have r1 := r1.stp hM0 hp
  have hM0 := hM0.stp hp
  have hs : Sep [BX b1 28 [.int .i64 p0.Inputs, .slice a1 (List.length p0.Gates) c1]] w1 S1 := hs
  refine from_pure 1 [(1, .int .i64 p1), (2, .pointer (some ⟨b1, 0, none⟩))] hF (by kernel_rfl) fun fr hF => ?_
  refine from_end rfl (then_normal ?_)
  refine wp_seq (wp_text' ?_)
  refine from_pure 1 [(1, .int .i64 p1), (5, .pointer (some ⟨b1, 1, none⟩))] hF (by kernel_rfl) fun fr hF => ?_
  refine s_loadBox (.slice a1 (List.length p0.Gates) c1) ty26 rfl rfl hF rfl (hs.bx 0 rfl) rfl rfl fun fr hF => ?_
  have hs : Sep [] w1 S1 := Sep.pick [] hs (by decide) rfl
  refine from_pure 1 [(6, .slice a1 (List.length p0.Gates) c1), (7, .int .i64 p1)] hF (by kernel_rfl) fun fr hF => ?_
  obtain ⟨x1, hx1, h⟩ := bindE h
  refine s_call [.slice a1 (List.length p0.Gates) c1, .int .i64 p1] Try.call54 rfl rfl hF rfl (laws_heldGateS_ok n p0.Gates p1 hx1 (r1)) fun v w2 fr hRes hF => ?_
  obtain ⟨rfl, hc⟩ := hRes
  have r1 := r1.ext hc
  have hs := hs.ext hc
  have hM0 := hM0.ext hc
  refine from_pure 1 [(1, .int .i64 x1)] hF (by kernel_rfl) fun fr hF => ?_
  refine from_end rfl (then_normal ?_)
  refine wp_seq ?_
  refine wp_seq (wp_pure [(1, .int .i64 x1), (10, .bool (decide (x1 < 0)))] hF (by kernel_rfl) fun fr hF => then_normal ?_)
  refine (wp_if hF (b := (decide (x1 < 0))) rfl (fun hb => ?_) (fun hb => ?_))
  · replace h := iteT hb h
    refine wp_seq (wp_pure [(4, .int .i64 (-1))] hF (by kernel_rfl) fun fr hF => then_normal ?_)
    obtain rfl := Option.some.inj h
    exact wp_ret (then_ret (ret1 rfl hF rfl ⟨_, rfl, rfl, hM0.chg⟩))
  replace h := iteF hb h
  refine (wp_skip (then_normal ?_))
  refine wp_seq (wp_pure [(4, .int .i64 x1)] hF (by kernel_rfl) fun fr hF => then_normal ?_)
  obtain rfl := Option.some.inj h
  exact wp_ret (ret1 rfl hF rfl ⟨_, rfl, rfl, hM0.chg⟩)

theorem laws_heldIntS_ok (n : Nat) (p0 : List Int) (p1 : Int) {r : Int} (h : laws_heldIntS n p0 p1 = some r) {w : World} {G0 : Nat → Prop} {va0 : Value} (ra0 : RV w G0 va0 p0) :
    Calls Try.prog 30 [va0, .int .i64 p1].toArray w fun e w' => ∃ v, e = .returned v ∧ v = .int .i64 r ∧ Chg Non w w' := by
  unfold laws_heldIntS at h
  have hs := Sep.nil w Non
  have hM0 : Mem w Non (fun k => (G0 k) ∧ k < w.heap.size) w Non (fun k => (G0 k) ∧ k < w.heap.size) := Mem.start (fun _ h => h.elim) (fun _ h => h.2) (fun _ h => h.elim)
  have ra0 := ra0.sub (F' := (fun k => (G0 k) ∧ k < w.heap.size)) (fun k hk h => ⟨h, hk⟩)
  obtain ⟨a1, c1, rfl, -⟩ := ra0.slice
  refine enter (N := 21) Try.func30 rfl Try.ntmps30 rfl fun fr hF => ?_
  refine wp_seq (wp_pure [(0, .slice a1 (List.length p0) c1), (1, .int .i64 p1)] hF (by kernel_rfl) fun fr hF => then_normal ?_)
  refine wp_seq ?_
  refine wp_seq (wp_pure [(0, .slice a1 (List.length p0) c1), (1, .int .i64 p1), (5, .int .i64 0)] hF (by kernel_rfl) fun fr hF => then_normal ?_)
  obtain ⟨rl1, hit1, h⟩ := bindE h
  have hk1 := h
  refine (wp_cut (M := fun fr w' => ∃ s, rl1 = .inl s ∧ ∃ S2 F2, FrS 21 [(1, .int .i64 s)] fr ∧ Mem w Non (fun k => (G0 k) ∧ k < w.heap.size) w' S2 F2 ∧ Sep [] w' S2) (wp_block (wp_iter (Inv := fun s1 fr w' => ∃ S1 F1, FrS 21 [(0, .slice a1 (List.length p0) c1), (1, .int .i64 s1.1), (5, .int .i64 s1.2)] fr ∧ Mem w Non (fun k => (G0 k) ∧ k < w.heap.size) w' S1 F1 ∧ Sep [] w' S1) hit1 ⟨Non, _, hF.sub _ (by kernel_rfl), (Mem.start hM0.bd hM0.bdF hM0.dj), hs⟩ fun s1 q1 fr w1i hI h hr1 => ?_)) fun fr w1o hM => ?_)
  · obtain ⟨S1, F1, hF, hM1, hs⟩ := hI
    have ra0 := ra0.mem hM1
    refine wp_seq ?_
    refine wp_seq (wp_pure [(0, .slice a1 (List.length p0) c1), (1, .int .i64 s1.1), (5, .int .i64 s1.2), (9, .bool (decide (s1.2 < (len p0))))] hF (by kernel_rfl) fun fr hF => then_normal ?_)
    refine (wp_if hF (b := (decide (s1.2 < (len p0)))) rfl (fun hb => ?_) (fun hb => ?_))
    · replace h := iteT hb h
      refine (wp_skip (then_normal ?_))
      refine wp_seq (wp_block ?_)
      refine wp_seq ?_
      refine wp_seq (wp_text' ?_)
      refine from_pure 2 [(0, .slice a1 (List.length p0) c1), (1, .int .i64 s1.1), (5, .int .i64 s1.2), (12, .slice a1 (List.length p0) c1), (13, .int .i64 s1.2)] hF (by kernel_rfl) fun fr hF => ?_
      obtain ⟨x1, hx1, h⟩ := bindE h
      refine s_elemF (z := x1) (.int .i64 x1) ty3 Try.underlying37 rfl rfl rfl rfl rfl hF rfl (ra0) rfl (get?_nn hx1) (get?_at hx1) rfl fun p fr hF => ?_
      refine from_pure 2 [(0, .slice a1 (List.length p0) c1), (1, .int .i64 s1.1), (5, .int .i64 s1.2), (17, .bool (x1 != s1.1))] hF (by kernel_rfl) fun fr hF => ?_
      refine from_end rfl (then_normal ?_)
      refine (wp_if hF (b := (x1 != s1.1)) rfl (fun hb => ?_) (fun hb => ?_))
      · replace h := iteT hb h
        refine wp_seq (wp_pure [(4, .int .i64 (-1))] hF (by kernel_rfl) fun fr hF => then_normal ?_)
        obtain rfl := hr1 _ (Option.some.inj h).symm
        obtain rfl := Option.some.inj hk1
        exact wp_ret (then_ret (blk_ret (then_ret (then_ret (blk_ret (then_ret (ret1 rfl hF rfl ⟨_, rfl, rfl, (hM0.trans hM1).chg⟩)))))))
      replace h := iteF hb h
      refine (wp_skip (then_normal ?_))
      refine (wp_pure [(0, .slice a1 (List.length p0) c1), (1, .int .i64 (w64 (s1.1 + 1))), (5, .int .i64 s1.2)] hF (by kernel_rfl) fun fr hF => ?_)
      refine blk_normal (then_normal ?_)
      refine (wp_pure [(0, .slice a1 (List.length p0) c1), (1, .int .i64 (w64 (s1.1 + 1))), (5, .int .i64 (w64 (s1.2 + 1)))] hF (by kernel_rfl) fun fr hF => then_normal ?_)
      exact ⟨_, (Option.some.inj h).symm, S1, _, hF.sub _ (by kernel_rfl), hM1, hs⟩
    replace h := iteF hb h
    refine (wp_exit (then_exit (then_exit (blk_exit_eq ?_))))
    obtain rfl := hr1 _ (Option.some.inj h).symm
    exact then_normal ⟨_, rfl, S1, _, hF.sub _ (by kernel_rfl), hM1, hs⟩
  · obtain ⟨s1r, rfl, hM⟩ := hM
    obtain ⟨S2, F2, hF, hMx, hs⟩ := hM
    have hM0 := hM0.trans hMx
    refine wp_seq (wp_pure [(4, .int .i64 s1r)] hF (by kernel_rfl) fun fr hF => then_normal ?_)
    obtain rfl := Option.some.inj h
    exact wp_ret (ret1 rfl hF rfl ⟨_, rfl, rfl, hM0.chg⟩)

theorem laws_FnExactAddLits_ok (n : Nat) (p0 : D.Circuit) (p1 : List Int) (p2 : List Int) (p3 : Int) {r : Bool} (h : laws_FnExactAddLits n p0 p1 p2 p3 = some r) {w : World} {G0 : Nat → Prop} {va0 : Value} (ra0 : RV w G0 va0 p0) {G1 : Nat → Prop} {va1 : Value} (ra1 : RV w G1 va1 p1) {G2 : Nat → Prop} {va2 : Value} (ra2 : RV w G2 va2 p2) :
    Calls Try.prog 7 [va0, va1, va2, .int .i64 p3].toArray w fun e w' => ∃ v, e = .returned v ∧ v = .bool r ∧ Chg Non w w' := by
  unfold laws_FnExactAddLits at h
  have hs := Sep.nil w Non
  have hM0 : Mem w Non (fun k => (G0 k ∨ G1 k ∨ G2 k) ∧ k < w.heap.size) w Non (fun k => (G0 k ∨ G1 k ∨ G2 k) ∧ k < w.heap.size) := Mem.start (fun _ h => h.elim) (fun _ h => h.2) (fun _ h => h.elim)
  have ra0 := ra0.sub (F' := (fun k => (G0 k ∨ G1 k ∨ G2 k) ∧ k < w.heap.size)) (fun k hk h => ⟨.inl h, hk⟩)
  obtain ⟨v1, rfl, r1⟩ := RV.Circuit ra0
  obtain ⟨a1, c1, rfl, -⟩ := r1.slice
  have ra1 := ra1.sub (F' := (fun k => (G0 k ∨ G1 k ∨ G2 k) ∧ k < w.heap.size)) (fun k hk h => ⟨.inr (.inl h), hk⟩)
  obtain ⟨a2, c2, rfl, -⟩ := ra1.slice
  have ra2 := ra2.sub (F' := (fun k => (G0 k ∨ G1 k ∨ G2 k) ∧ k < w.heap.size)) (fun k hk h => ⟨.inr (.inr (h)), hk⟩)
  obtain ⟨a3, c3, rfl, -⟩ := ra2.slice
  refine enter (N := 201) Try.func7 rfl Try.ntmps7 rfl fun fr hF => ?_
  refine wp_seq (wp_text' ?_)
  refine q_box hs hM0 [.int .i64 p0.Inputs, .slice a1 (List.length p0.Gates) c1] rfl rfl hF rfl rfl fun b1 w1 S1 fr hs hp hF => ?_
  have r1 := r1.stp hM0 hp
  have ra1 := ra1.stp hM0 hp
  have ra2 := ra2.stp hM0 hp
  have hM0 := hM0.stp hp
  have hs : Sep [BX b1 24 [.int .i64 p0.Inputs, .slice a1 (List.length p0.Gates) c1]] w1 S1 := hs
  refine from_pure 1 [(1, .slice a2 (List.length p1) c2), (2, .slice a3 (List.length p2) c3), (3, .int .i64 p3), (4, .pointer (some ⟨b1, 0, none⟩))] hF (by kernel_rfl) fun fr hF => ?_
  refine from_end rfl (then_normal ?_)
  refine wp_seq ?_
  refine wp_seq (wp_pure [(1, .slice a2 (List.length p1) c2), (2, .slice a3 (List.length p2) c3), (3, .int .i64 p3), (4, .pointer (some ⟨b1, 0, none⟩)), (30, .bool (decide ((len p1) > 1048576)))] hF (by kernel_rfl) fun fr hF => then_normal ?_)
  refine (wp_if hF (b := (decide ((len p1) > 1048576))) rfl (fun hb => ?_) (fun hb => ?_))
  · replace h := iteT hb h
    have hs : Sep [] w1 S1 := Sep.pick [] hs (by decide) rfl
    refine wp_seq (wp_pure [(8, .bool true)] hF (by kernel_rfl) fun fr hF => then_normal ?_)
    obtain rfl := Option.some.inj h
    exact wp_ret (then_ret (ret1 rfl hF rfl ⟨_, rfl, rfl, hM0.chg⟩))
  replace h := iteF hb h
  refine (wp_skip (then_normal ?_))
  refine wp_seq ?_
  refine wp_seq (wp_pure [(1, .slice a2 (List.length p1) c2), (2, .slice a3 (List.length p2) c3), (3, .int .i64 p3), (4, .pointer (some ⟨b1, 0, none⟩)), (33, .bool (decide ((len p2) > 1048576)))] hF (by kernel_rfl) fun fr hF => then_normal ?_)
  refine (wp_if hF (b := (decide ((len p2) > 1048576))) rfl (fun hb => ?_) (fun hb => ?_))
  · replace h := iteT hb h
    have hs : Sep [] w1 S1 := Sep.pick [] hs (by decide) rfl
    refine wp_seq (wp_pure [(8, .bool true)] hF (by kernel_rfl) fun fr hF => then_normal ?_)
    obtain rfl := Option.some.inj h
    exact wp_ret (then_ret (ret1 rfl hF rfl ⟨_, rfl, rfl, hM0.chg⟩))
  replace h := iteF hb h
  refine (wp_skip (then_normal ?_))
  refine wp_seq (wp_pure [(1, .slice a2 (List.length p1) c2), (2, .slice a3 (List.length p2) c3), (3, .int .i64 p3), (4, .pointer (some ⟨b1, 0, none⟩)), (9, .int .i64 1048576)] hF (by kernel_rfl) fun fr hF => then_normal ?_)
  refine wp_seq (wp_text' ?_)
  refine s_loadBoxS ty24 rfl rfl hF rfl (hs.bx 0 rfl) rfl rfl fun fr hF => ?_
  refine from_pure 1 [(1, .slice a2 (List.length p1) c2), (2, .slice a3 (List.length p2) c3), (3, .int .i64 p3), (4, .pointer (some ⟨b1, 0, none⟩)), (34, .agg #[.int .i64 p0.Inputs, .slice a1 (List.length p0.Gates) c1]), (35, .int .i64 1048576)] hF (by kernel_rfl) fun fr hF => ?_
  obtain ⟨x1, hx1, h⟩ := bindE h
  refine s_call [.agg #[.int .i64 p0.Inputs, .slice a1 (List.length p0.Gates) c1], .int .i64 1048576] Try.call12 rfl rfl hF rfl (laws_szCircuit_ok p0 1048576 hx1 (RV.mk_Circuit p0 (r1))) fun v w2 fr hRes hF => ?_
  obtain ⟨rfl, hc⟩ := hRes
  have ra1 := ra1.ext hc
  have ra2 := ra2.ext hc
  have r1 := r1.ext hc
  have hs := hs.ext hc
  have hM0 := hM0.ext hc
  refine from_pure 1 [(1, .slice a2 (List.length p1) c2), (2, .slice a3 (List.length p2) c3), (3, .int .i64 p3), (4, .pointer (some ⟨b1, 0, none⟩)), (9, .int .i64 x1)] hF (by kernel_rfl) fun fr hF => ?_
  refine from_end rfl (then_normal ?_)
  refine wp_seq ?_
  refine wp_seq (wp_pure [(1, .slice a2 (List.length p1) c2), (2, .slice a3 (List.length p2) c3), (3, .int .i64 p3), (4, .pointer (some ⟨b1, 0, none⟩)), (38, .bool (decide (x1 < 0)))] hF (by kernel_rfl) fun fr hF => then_normal ?_)
  refine (wp_if hF (b := (decide (x1 < 0))) rfl (fun hb => ?_) (fun hb => ?_))
  · replace h := iteT hb h
    have hs : Sep [] w2 S1 := Sep.pick [] hs (by decide) rfl
    refine wp_seq (wp_pure [(8, .bool true)] hF (by kernel_rfl) fun fr hF => then_normal ?_)
    obtain rfl := Option.some.inj h
    exact wp_ret (then_ret (ret1 rfl hF rfl ⟨_, rfl, rfl, hM0.chg⟩))
  replace h := iteF hb h
  refine (wp_skip (then_normal ?_))
  refine wp_seq (wp_text' ?_)
  refine s_loadBoxS ty24 rfl rfl hF rfl (hs.bx 0 rfl) rfl rfl fun fr hF => ?_
  obtain ⟨x2, hx2, h⟩ := bindE h
  refine s_call [.agg #[.int .i64 p0.Inputs, .slice a1 (List.length p0.Gates) c1]] Try.call14 rfl rfl hF rfl (laws_toCircuit_ok n p0 hx2 (RV.mk_Circuit p0 (r1))) fun v w3 fr hRes hF => ?_
  obtain ⟨a4, c4, rfl, _, hp, hs2⟩ := hRes
  obtain ⟨S2, hp, hs⟩ := hs.got hM0 hp hs2
  have ra1 := ra1.stp hM0 hp
  have ra2 := ra2.stp hM0 hp
  have r1 := r1.stp hM0 hp
  have hM0 := hM0.stp hp
  have hs : Sep [SL (α := D.Gate) 59 (.slice a4 (List.length x2.Gates) c4) x2.Gates, BX b1 24 [.int .i64 p0.Inputs, .slice a1 (List.length p0.Gates) c1]] w3 S2 := hs
  refine from_pure 1 [(1, .slice a2 (List.length p1) c2), (2, .slice a3 (List.length p2) c3), (3, .int .i64 p3), (4, .pointer (some ⟨b1, 0, none⟩)), (41, .agg #[.int .i64 x2.Inputs, .slice a4 (List.length x2.Gates) c4]), (42, .slice a2 (List.length p1) c2)] hF (by kernel_rfl) fun fr hF => ?_
  obtain ⟨x3, hx3, h⟩ := bindE h
  refine s_call [.slice a2 (List.length p1) c2] Try.call26 rfl rfl hF rfl (laws_toIntS_ok n p1 hx3 (ra1)) fun v w4 fr hRes hF => ?_
  obtain ⟨a5, c5, rfl, _, hp, hs2⟩ := hRes
  obtain ⟨S3, hp, hs⟩ := hs.got hM0 hp hs2
  have ra1 := ra1.stp hM0 hp
  have ra2 := ra2.stp hM0 hp
  have r1 := r1.stp hM0 hp
  have hM0 := hM0.stp hp
  have hs : Sep [SL (α := Int) 3 (.slice a5 (List.length x3) c5) x3, SL (α := D.Gate) 59 (.slice a4 (List.length x2.Gates) c4) x2.Gates, BX b1 24 [.int .i64 p0.Inputs, .slice a1 (List.length p0.Gates) c1]] w4 S3 := hs
  refine from_pure 1 [(1, .slice a2 (List.length p1) c2), (2, .slice a3 (List.length p2) c3), (3, .int .i64 p3), (4, .pointer (some ⟨b1, 0, none⟩)), (41, .agg #[.int .i64 x2.Inputs, .slice a4 (List.length x2.Gates) c4]), (43, .slice a5 (List.length x3) c5), (44, .slice a3 (List.length p2) c3)] hF (by kernel_rfl) fun fr hF => ?_
  obtain ⟨x4, hx4, h⟩ := bindE h
  refine s_call [.slice a3 (List.length p2) c3] Try.call26 rfl rfl hF rfl (laws_toIntS_ok n p2 hx4 (ra2)) fun v w5 fr hRes hF => ?_
  obtain ⟨a6, c6, rfl, _, hp, hs2⟩ := hRes
  obtain ⟨S4, hp, hs⟩ := hs.got hM0 hp hs2
  have ra1 := ra1.stp hM0 hp
  have ra2 := ra2.stp hM0 hp
  have r1 := r1.stp hM0 hp
  have hM0 := hM0.stp hp
  have hs : Sep [SL (α := Int) 3 (.slice a6 (List.length x4) c6) x4, SL (α := Int) 3 (.slice a5 (List.length x3) c5) x3, SL (α := D.Gate) 59 (.slice a4 (List.length x2.Gates) c4) x2.Gates, BX b1 24 [.int .i64 p0.Inputs, .slice a1 (List.length p0.Gates) c1]] w5 S4 := hs
  refine from_pure 1 [(1, .slice a2 (List.length p1) c2), (2, .slice a3 (List.length p2) c3), (3, .int .i64 p3), (4, .pointer (some ⟨b1, 0, none⟩)), (41, .agg #[.int .i64 x2.Inputs, .slice a4 (List.length x2.Gates) c4]), (43, .slice a5 (List.length x3) c5), (45, .slice a6 (List.length x4) c6), (46, .int .i64 p3)] hF (by kernel_rfl) fun fr hF => ?_
  obtain ⟨x5, hx5, h⟩ := bindE h
  refine s_call [.agg #[.int .i64 x2.Inputs, .slice a4 (List.length x2.Gates) c4], .slice a5 (List.length x3) c5, .slice a6 (List.length x4) c6, .int .i64 p3] Try.call25 rfl rfl hF rfl (spec_AddLits_ok n x2 x3 x4 p3 hx5 (RV.mk_Circuit x2 (RV.any (hs.rv 2 rfl))) (hs.rv 1 rfl) (hs.rv 0 rfl)) fun v w6 fr hRes hF => ?_
  obtain ⟨a7, c7, a8, c8, rfl, _, hp, hs2⟩ := hRes
  obtain ⟨S5, hp, hs⟩ := hs.got hM0 hp hs2
  have ra1 := ra1.stp hM0 hp
  have ra2 := ra2.stp hM0 hp
  have r1 := r1.stp hM0 hp
  have hM0 := hM0.stp hp
  have hs : Sep [SL (α := D.Gate) 59 (.slice a7 (List.length x5.1.Gates) c7) x5.1.Gates, SL (α := Int) 3 (.slice a8 (List.length x5.2.1) c8) x5.2.1, SL (α := Int) 3 (.slice a6 (List.length x4) c6) x4, SL (α := Int) 3 (.slice a5 (List.length x3) c5) x3, SL (α := D.Gate) 59 (.slice a4 (List.length x2.Gates) c4) x2.Gates, BX b1 24 [.int .i64 p0.Inputs, .slice a1 (List.length p0.Gates) c1]] w6 S5 := hs
  have hs : Sep [SL (α := D.Gate) 59 (.slice a7 (List.length x5.1.Gates) c7) x5.1.Gates, SL (α := Int) 3 (.slice a8 (List.length x5.2.1) c8) x5.2.1, BX b1 24 [.int .i64 p0.Inputs, .slice a1 (List.length p0.Gates) c1]] w6 S5 := Sep.pick [0, 1, 5] hs (by decide) rfl
  refine from_pure 5 [(1, .slice a2 (List.length p1) c2), (2, .slice a3 (List.length p2) c3), (3, .int .i64 p3), (4, .pointer (some ⟨b1, 0, none⟩)), (48, .agg #[.int .i64 x5.1.Inputs, .slice a7 (List.length x5.1.Gates) c7]), (49, .slice a8 (List.length x5.2.1) c8), (50, .int .i64 x5.2.2.1), (51, .bool x5.2.2.2)] hF (by kernel_rfl) fun fr hF => ?_
  refine q_alloc (z := .agg #[.int .i64 0, .slice none (List.length ([] : List D.Gate)) 0]) hs hM0 [.int .i64 0, .slice none (List.length ([] : List D.Gate)) 0] rfl rfl hF (by kernel_rfl) rfl fun b2 w7 S6 fr hs hp hF => ?_
  have ra1 := ra1.stp hM0 hp
  have ra2 := ra2.stp hM0 hp
  have r1 := r1.stp hM0 hp
  have hM0 := hM0.stp hp
  have hs : Sep [BX b2 28 [.int .i64 0, .slice none (List.length ([] : List D.Gate)) 0], SL (α := D.Gate) 59 (.slice a7 (List.length x5.1.Gates) c7) x5.1.Gates, SL (α := Int) 3 (.slice a8 (List.length x5.2.1) c8) x5.2.1, BX b1 24 [.int .i64 p0.Inputs, .slice a1 (List.length p0.Gates) c1]] w7 S6 := hs
  refine q_storeBoxS 0 hs hM0 rfl [.int .i64 x5.1.Inputs, .slice a7 (List.length x5.1.Gates) c7] rfl hF rfl rfl (by kernel_rfl) rfl rfl rfl fun w8 S7 hs hp hF => ?_
  have ra1 := ra1.stp hM0 hp
  have ra2 := ra2.stp hM0 hp
  have r1 := r1.stp hM0 hp
  have hM0 := hM0.stp hp
  have hs : Sep [BX b2 28 [.int .i64 x5.1.Inputs, .slice a7 (List.length x5.1.Gates) c7], SL (α := D.Gate) 59 (.slice a7 (List.length x5.1.Gates) c7) x5.1.Gates, SL (α := Int) 3 (.slice a8 (List.length x5.2.1) c8) x5.2.1, BX b1 24 [.int .i64 p0.Inputs, .slice a1 (List.length p0.Gates) c1]] w8 S7 := hs
  refine from_pure 3 [(1, .slice a2 (List.length p1) c2), (2, .slice a3 (List.length p2) c3), (3, .int .i64 p3), (4, .pointer (some ⟨b1, 0, none⟩)), (10, .pointer (some ⟨b2, 0, none⟩)), (11, .slice a8 (List.length x5.2.1) c8), (12, .int .i64 x5.2.2.1), (13, .bool x5.2.2.2)] hF (by kernel_rfl) fun fr hF => ?_
  refine from_end rfl (then_normal ?_)
  refine wp_seq (wp_text' ?_)
  refine s_loadBoxS ty24 rfl rfl hF rfl (hs.bx 3 rfl) rfl rfl fun fr hF => ?_
  obtain ⟨x6, hx6, h⟩ := bindE h
  refine s_call [.agg #[.int .i64 p0.Inputs, .slice a1 (List.length p0.Gates) c1]] Try.call14 rfl rfl hF rfl (laws_toCircuit_ok n p0 hx6 (RV.mk_Circuit p0 (r1))) fun v w9 fr hRes hF => ?_
  obtain ⟨a9, c9, rfl, _, hp, hs2⟩ := hRes
  obtain ⟨S8, hp, hs⟩ := hs.got hM0 hp hs2
  have ra1 := ra1.stp hM0 hp
  have ra2 := ra2.stp hM0 hp
  have r1 := r1.stp hM0 hp
  have hM0 := hM0.stp hp
  have hs : Sep [SL (α := D.Gate) 59 (.slice a9 (List.length x6.Gates) c9) x6.Gates, BX b2 28 [.int .i64 x5.1.Inputs, .slice a7 (List.length x5.1.Gates) c7], SL (α := D.Gate) 59 (.slice a7 (List.length x5.1.Gates) c7) x5.1.Gates, SL (α := Int) 3 (.slice a8 (List.length x5.2.1) c8) x5.2.1, BX b1 24 [.int .i64 p0.Inputs, .slice a1 (List.length p0.Gates) c1]] w9 S8 := hs
  refine q_alloc (z := .agg #[.int .i64 0, .slice none (List.length ([] : List D.Gate)) 0]) hs hM0 [.int .i64 0, .slice none (List.length ([] : List D.Gate)) 0] rfl rfl hF (by kernel_rfl) rfl fun b3 w10 S9 fr hs hp hF => ?_
  have ra1 := ra1.stp hM0 hp
  have ra2 := ra2.stp hM0 hp
  have r1 := r1.stp hM0 hp
  have hM0 := hM0.stp hp
  have hs : Sep [BX b3 28 [.int .i64 0, .slice none (List.length ([] : List D.Gate)) 0], SL (α := D.Gate) 59 (.slice a9 (List.length x6.Gates) c9) x6.Gates, BX b2 28 [.int .i64 x5.1.Inputs, .slice a7 (List.length x5.1.Gates) c7], SL (α := D.Gate) 59 (.slice a7 (List.length x5.1.Gates) c7) x5.1.Gates, SL (α := Int) 3 (.slice a8 (List.length x5.2.1) c8) x5.2.1, BX b1 24 [.int .i64 p0.Inputs, .slice a1 (List.length p0.Gates) c1]] w10 S9 := hs
  refine q_storeBoxS 0 hs hM0 rfl [.int .i64 x6.Inputs, .slice a9 (List.length x6.Gates) c9] rfl hF rfl rfl (by kernel_rfl) rfl rfl rfl fun w11 S10 hs hp hF => ?_
  have ra1 := ra1.stp hM0 hp
  have ra2 := ra2.stp hM0 hp
  have r1 := r1.stp hM0 hp
  have hM0 := hM0.stp hp
  have hs : Sep [BX b3 28 [.int .i64 x6.Inputs, .slice a9 (List.length x6.Gates) c9], SL (α := D.Gate) 59 (.slice a9 (List.length x6.Gates) c9) x6.Gates, BX b2 28 [.int .i64 x5.1.Inputs, .slice a7 (List.length x5.1.Gates) c7], SL (α := D.Gate) 59 (.slice a7 (List.length x5.1.Gates) c7) x5.1.Gates, SL (α := Int) 3 (.slice a8 (List.length x5.2.1) c8) x5.2.1, BX b1 24 [.int .i64 p0.Inputs, .slice a1 (List.length p0.Gates) c1]] w11 S10 := hs
  refine from_end rfl (then_normal ?_)
  refine wp_seq (wp_text' ?_)
  refine from_pure 1 [(1, .slice a2 (List.length p1) c2), (2, .slice a3 (List.length p2) c3), (3, .int .i64 p3), (4, .pointer (some ⟨b1, 0, none⟩)), (10, .pointer (some ⟨b2, 0, none⟩)), (11, .slice a8 (List.length x5.2.1) c8), (12, .int .i64 x5.2.2.1), (13, .bool x5.2.2.2), (14, .pointer (some ⟨b3, 0, none⟩)), (54, .slice a2 (List.length p1) c2)] hF (by kernel_rfl) fun fr hF => ?_
  obtain ⟨x7, hx7, h⟩ := bindE h
  refine s_call [.slice a2 (List.length p1) c2] Try.call26 rfl rfl hF rfl (laws_toIntS_ok n p1 hx7 (ra1)) fun v w12 fr hRes hF => ?_
  obtain ⟨a10, c10, rfl, _, hp, hs2⟩ := hRes
  obtain ⟨S11, hp, hs⟩ := hs.got hM0 hp hs2
  have ra1 := ra1.stp hM0 hp
  have ra2 := ra2.stp hM0 hp
  have r1 := r1.stp hM0 hp
  have hM0 := hM0.stp hp
  have hs : Sep [SL (α := Int) 3 (.slice a10 (List.length x7) c10) x7, BX b3 28 [.int .i64 x6.Inputs, .slice a9 (List.length x6.Gates) c9], SL (α := D.Gate) 59 (.slice a9 (List.length x6.Gates) c9) x6.Gates, BX b2 28 [.int .i64 x5.1.Inputs, .slice a7 (List.length x5.1.Gates) c7], SL (α := D.Gate) 59 (.slice a7 (List.length x5.1.Gates) c7) x5.1.Gates, SL (α := Int) 3 (.slice a8 (List.length x5.2.1) c8) x5.2.1, BX b1 24 [.int .i64 p0.Inputs, .slice a1 (List.length p0.Gates) c1]] w12 S11 := hs
  refine from_pure 1 [(1, .slice a2 (List.length p1) c2), (2, .slice a3 (List.length p2) c3), (3, .int .i64 p3), (4, .pointer (some ⟨b1, 0, none⟩)), (10, .pointer (some ⟨b2, 0, none⟩)), (11, .slice a8 (List.length x5.2.1) c8), (12, .int .i64 x5.2.2.1), (13, .bool x5.2.2.2), (14, .pointer (some ⟨b3, 0, none⟩)), (15, .slice a10 (List.length x7) c10)] hF (by kernel_rfl) fun fr hF => ?_
  refine from_end rfl (then_normal ?_)
  refine wp_seq (wp_text' ?_)
  refine from_pure 1 [(1, .slice a2 (List.length p1) c2), (2, .slice a3 (List.length p2) c3), (3, .int .i64 p3), (4, .pointer (some ⟨b1, 0, none⟩)), (10, .pointer (some ⟨b2, 0, none⟩)), (11, .slice a8 (List.length x5.2.1) c8), (12, .int .i64 x5.2.2.1), (13, .bool x5.2.2.2), (14, .pointer (some ⟨b3, 0, none⟩)), (15, .slice a10 (List.length x7) c10), (56, .slice a3 (List.length p2) c3)] hF (by kernel_rfl) fun fr hF => ?_
  obtain ⟨x8, hx8, h⟩ := bindE h
  refine s_call [.slice a3 (List.length p2) c3] Try.call26 rfl rfl hF rfl (laws_toIntS_ok n p2 hx8 (ra2)) fun v w13 fr hRes hF => ?_
  obtain ⟨a11, c11, rfl, _, hp, hs2⟩ := hRes
  obtain ⟨S12, hp, hs⟩ := hs.got hM0 hp hs2
  have ra1 := ra1.stp hM0 hp
  have ra2 := ra2.stp hM0 hp
  have r1 := r1.stp hM0 hp
  have hM0 := hM0.stp hp
  have hs : Sep [SL (α := Int) 3 (.slice a11 (List.length x8) c11) x8, SL (α := Int) 3 (.slice a10 (List.length x7) c10) x7, BX b3 28 [.int .i64 x6.Inputs, .slice a9 (List.length x6.Gates) c9], SL (α := D.Gate) 59 (.slice a9 (List.length x6.Gates) c9) x6.Gates, BX b2 28 [.int .i64 x5.1.Inputs, .slice a7 (List.length x5.1.Gates) c7], SL (α := D.Gate) 59 (.slice a7 (List.length x5.1.Gates) c7) x5.1.Gates, SL (α := Int) 3 (.slice a8 (List.length x5.2.1) c8) x5.2.1, BX b1 24 [.int .i64 p0.Inputs, .slice a1 (List.length p0.Gates) c1]] w13 S12 := hs
  refine from_pure 1 [(1, .slice a2 (List.length p1) c2), (2, .slice a3 (List.length p2) c3), (3, .int .i64 p3), (4, .pointer (some ⟨b1, 0, none⟩)), (10, .pointer (some ⟨b2, 0, none⟩)), (11, .slice a8 (List.length x5.2.1) c8), (12, .int .i64 x5.2.2.1), (13, .bool x5.2.2.2), (14, .pointer (some ⟨b3, 0, none⟩)), (15, .slice a10 (List.length x7) c10), (16, .slice a11 (List.length x8) c11)] hF (by kernel_rfl) fun fr hF => ?_
  refine from_end rfl (then_normal ?_)
  refine wp_seq (wp_text' ?_)
  refine s_loadBoxS ty28 rfl rfl hF rfl (hs.bx 2 rfl) rfl rfl fun fr hF => ?_
  refine from_pure 3 [(1, .slice a2 (List.length p1) c2), (2, .slice a3 (List.length p2) c3), (3, .int .i64 p3), (4, .pointer (some ⟨b1, 0, none⟩)), (10, .pointer (some ⟨b2, 0, none⟩)), (11, .slice a8 (List.length x5.2.1) c8), (12, .int .i64 x5.2.2.1), (13, .bool x5.2.2.2), (14, .pointer (some ⟨b3, 0, none⟩)), (15, .slice a10 (List.length x7) c10), (16, .slice a11 (List.length x8) c11), (59, .agg #[.int .i64 x6.Inputs, .slice a9 (List.length x6.Gates) c9]), (60, .slice a10 (List.length x7) c10), (61, .slice a11 (List.length x8) c11), (62, .int .i64 p3)] hF (by kernel_rfl) fun fr hF => ?_
  obtain ⟨x9, hx9, h⟩ := bindE h
  refine s_call [.agg #[.int .i64 x6.Inputs, .slice a9 (List.length x6.Gates) c9], .slice a10 (List.length x7) c10, .slice a11 (List.length x8) c11, .int .i64 p3] Try.call27 rfl rfl hF rfl (impl_AddLits_ok n x6 x7 x8 p3 hx9 (RV.mk_Circuit x6 (RV.any (hs.rv 3 rfl))) (hs.rv 1 rfl) (hs.rv 0 rfl)) fun v w14 fr hRes hF => ?_
  obtain ⟨a12, c12, a13, c13, rfl, _, hp, hs2⟩ := hRes
  obtain ⟨S13, hp, hs⟩ := hs.got hM0 hp hs2
  have ra1 := ra1.stp hM0 hp
  have ra2 := ra2.stp hM0 hp
  have r1 := r1.stp hM0 hp
  have hM0 := hM0.stp hp
  have hs : Sep [SL (α := D.Gate) 59 (.slice a12 (List.length x9.1.Gates) c12) x9.1.Gates, SL (α := Int) 3 (.slice a13 (List.length x9.2.1) c13) x9.2.1, SL (α := Int) 3 (.slice a11 (List.length x8) c11) x8, SL (α := Int) 3 (.slice a10 (List.length x7) c10) x7, BX b3 28 [.int .i64 x6.Inputs, .slice a9 (List.length x6.Gates) c9], SL (α := D.Gate) 59 (.slice a9 (List.length x6.Gates) c9) x6.Gates, BX b2 28 [.int .i64 x5.1.Inputs, .slice a7 (List.length x5.1.Gates) c7], SL (α := D.Gate) 59 (.slice a7 (List.length x5.1.Gates) c7) x5.1.Gates, SL (α := Int) 3 (.slice a8 (List.length x5.2.1) c8) x5.2.1, BX b1 24 [.int .i64 p0.Inputs, .slice a1 (List.length p0.Gates) c1]] w14 S13 := hs
  refine from_pure 5 [(1, .slice a2 (List.length p1) c2), (2, .slice a3 (List.length p2) c3), (3, .int .i64 p3), (4, .pointer (some ⟨b1, 0, none⟩)), (10, .pointer (some ⟨b2, 0, none⟩)), (11, .slice a8 (List.length x5.2.1) c8), (12, .int .i64 x5.2.2.1), (13, .bool x5.2.2.2), (14, .pointer (some ⟨b3, 0, none⟩)), (15, .slice a10 (List.length x7) c10), (16, .slice a11 (List.length x8) c11), (64, .agg #[.int .i64 x9.1.Inputs, .slice a12 (List.length x9.1.Gates) c12]), (65, .slice a13 (List.length x9.2.1) c13), (66, .int .i64 x9.2.2.1), (67, .bool x9.2.2.2)] hF (by kernel_rfl) fun fr hF => ?_
  refine q_alloc (z := .agg #[.int .i64 0, .slice none (List.length ([] : List D.Gate)) 0]) hs hM0 [.int .i64 0, .slice none (List.length ([] : List D.Gate)) 0] rfl rfl hF (by kernel_rfl) rfl fun b4 w15 S14 fr hs hp hF => ?_
  have ra1 := ra1.stp hM0 hp
  have ra2 := ra2.stp hM0 hp
  have r1 := r1.stp hM0 hp
  have hM0 := hM0.stp hp
  have hs : Sep [BX b4 28 [.int .i64 0, .slice none (List.length ([] : List D.Gate)) 0], SL (α := D.Gate) 59 (.slice a12 (List.length x9.1.Gates) c12) x9.1.Gates, SL (α := Int) 3 (.slice a13 (List.length x9.2.1) c13) x9.2.1, SL (α := Int) 3 (.slice a11 (List.length x8) c11) x8, SL (α := Int) 3 (.slice a10 (List.length x7) c10) x7, BX b3 28 [.int .i64 x6.Inputs, .slice a9 (List.length x6.Gates) c9], SL (α := D.Gate) 59 (.slice a9 (List.length x6.Gates) c9) x6.Gates, BX b2 28 [.int .i64 x5.1.Inputs, .slice a7 (List.length x5.1.Gates) c7], SL (α := D.Gate) 59 (.slice a7 (List.length x5.1.Gates) c7) x5.1.Gates, SL (α := Int) 3 (.slice a8 (List.length x5.2.1) c8) x5.2.1, BX b1 24 [.int .i64 p0.Inputs, .slice a1 (List.length p0.Gates) c1]] w15 S14 := hs
  refine q_storeBoxS 0 hs hM0 rfl [.int .i64 x9.1.Inputs, .slice a12 (List.length x9.1.Gates) c12] rfl hF rfl rfl (by kernel_rfl) rfl rfl rfl fun w16 S15 hs hp hF => ?_
  have ra1 := ra1.stp hM0 hp
  have ra2 := ra2.stp hM0 hp
  have r1 := r1.stp hM0 hp
  have hM0 := hM0.stp hp
  have hs : Sep [BX b4 28 [.int .i64 x9.1.Inputs, .slice a12 (List.length x9.1.Gates) c12], SL (α := D.Gate) 59 (.slice a12 (List.length x9.1.Gates) c12) x9.1.Gates, SL (α := Int) 3 (.slice a13 (List.length x9.2.1) c13) x9.2.1, SL (α := Int) 3 (.slice a11 (List.length x8) c11) x8, SL (α := Int) 3 (.slice a10 (List.length x7) c10) x7, BX b3 28 [.int .i64 x6.Inputs, .slice a9 (List.length x6.Gates) c9], SL (α := D.Gate) 59 (.slice a9 (List.length x6.Gates) c9) x6.Gates, BX b2 28 [.int .i64 x5.1.Inputs, .slice a7 (List.length x5.1.Gates) c7], SL (α := D.Gate) 59 (.slice a7 (List.length x5.1.Gates) c7) x5.1.Gates, SL (α := Int) 3 (.slice a8 (List.length x5.2.1) c8) x5.2.1, BX b1 24 [.int .i64 p0.Inputs, .slice a1 (List.length p0.Gates) c1]] w16 S15 := hs
  refine from_pure 3 [(1, .slice a2 (List.length p1) c2), (2, .slice a3 (List.length p2) c3), (3, .int .i64 p3), (4, .pointer (some ⟨b1, 0, none⟩)), (10, .pointer (some ⟨b2, 0, none⟩)), (11, .slice a8 (List.length x5.2.1) c8), (12, .int .i64 x5.2.2.1), (13, .bool x5.2.2.2), (14, .pointer (some ⟨b3, 0, none⟩)), (15, .slice a10 (List.length x7) c10), (16, .slice a11 (List.length x8) c11), (17, .pointer (some ⟨b4, 0, none⟩)), (18, .slice a13 (List.length x9.2.1) c13), (19, .int .i64 x9.2.2.1), (20, .bool x9.2.2.2)] hF (by kernel_rfl) fun fr hF => ?_
  refine from_end rfl (then_normal ?_)
  refine wp_seq ?_
  obtain ⟨x10, hx10, h⟩ := bindE h
  obtain ⟨x11, hx11, h⟩ := bindE h
  refine wp_seq (region_b [] [false, false, false, true, true, true, true, false, true, true, true, true, true, true, true, true, true, true, true, true]
      [.eq (.agg #[.int .i64 x9.1.Inputs, .slice a12 (List.length x9.1.Gates) c12]), .eq (.agg #[.int .i64 x5.1.Inputs, .slice a7 (List.length x5.1.Gates) c7]), .eq (.bool x10), .eq (.bool (!x10)), .eq (.bool (!x10)), .eq (.slice a13 (List.length x9.2.1) c13), .eq (.slice a8 (List.length x5.2.1) c8), .eq (.bool x11), .eq (.bool (!x11)), .eq (.bool ((!x10) || (!x11))), .eq (.bool ((!x10) || (!x11))), .eq (.int .i64 x9.2.2.1), .eq (.int .i64 x5.2.2.1), .eq (.bool (x9.2.2.1 != x5.2.2.1)), .eq (.bool (((!x10) || (!x11)) || (x9.2.2.1 != x5.2.2.1))), .eq (.bool (((!x10) || (!x11)) || (x9.2.2.1 != x5.2.2.1))), .eq (.bool x9.2.2.2), .eq (.bool x5.2.2.2), .eq (.bool (!(x9.2.2.2 == x5.2.2.2))), .eq (.bool ((((!x10) || (!x11)) || (x9.2.2.1 != x5.2.2.1)) || (!(x9.2.2.2 == x5.2.2.2))))]
      [(1, .slice a2 (List.length p1) c2), (2, .slice a3 (List.length p2) c3), (3, .int .i64 p3), (4, .pointer (some ⟨b1, 0, none⟩)), (10, .pointer (some ⟨b2, 0, none⟩)), (11, .slice a8 (List.length x5.2.1) c8), (12, .int .i64 x5.2.2.1), (13, .bool x5.2.2.2), (14, .pointer (some ⟨b3, 0, none⟩)), (15, .slice a10 (List.length x7) c10), (16, .slice a11 (List.length x8) c11), (17, .pointer (some ⟨b4, 0, none⟩)), (18, .slice a13 (List.length x9.2.1) c13), (19, .int .i64 x9.2.2.1), (20, .bool x9.2.2.2), (87, .bool ((((!x10) || (!x11)) || (x9.2.2.1 != x5.2.2.1)) || (!(x9.2.2.2 == x5.2.2.2))))] mix hF (by kernel_rfl) (by kernel_rfl) (by kernel_rfl) ⟨Pd.mono_eq, Pd.mono_eq, Pd.mono_eq, Pd.mono_eq, trivial⟩ (fun hG => ⟨np_loadBoxS hG hF ty28 rfl rfl (hs.bx 0 rfl) rfl rfl rfl rfl, np_loadBoxS hG hF ty28 rfl rfl (hs.bx 7 rfl) rfl rfl rfl rfl, np_call [.agg #[.int .i64 x9.1.Inputs, .slice a12 (List.length x9.1.Gates) c12], .agg #[.int .i64 x5.1.Inputs, .slice a7 (List.length x5.1.Gates) c7]] hG hF Try.call16 rfl rfl (fun w hC hg => (laws_eqCircuit_ok n x9.1 x5.1 hx10 ((RV.mk_Circuit x9.1 (RV.any (hs.rv 1 rfl))).ext hC) ((RV.mk_Circuit x5.1 (RV.any (hs.rv 8 rfl))).ext hC)).mono fun e w' ⟨v, he, hv, hc⟩ => ⟨v, he, hc, hv⟩), np_call [.slice a13 (List.length x9.2.1) c13, .slice a8 (List.length x5.2.1) c8] hG hF Try.call28 rfl rfl (fun w hC hg => (laws_eqIntS_ok n x9.2.1 x5.2.1 (iteF hg.2 hx11) ((hs.rv 2 rfl).ext hC) ((hs.rv 9 rfl).ext hC)).mono fun e w' ⟨v, he, hv, hc⟩ => ⟨v, he, hc, hv⟩), trivial⟩) (by kernel_rfl) fun fr w17 hF hE hc => then_normal ?_)
  have ra1 := ra1.ext hc
  have ra2 := ra2.ext hc
  have r1 := r1.ext hc
  have hs := hs.ext hc
  have hM0 := hM0.ext hc
  refine (wp_if hF (b := ((((!x10) || (!x11)) || (x9.2.2.1 != x5.2.2.1)) || (!(x9.2.2.2 == x5.2.2.2)))) rfl (fun hb => ?_) (fun hb => ?_))
  · replace h := iteT hb h
    have hs : Sep [] w17 S15 := Sep.pick [] hs (by decide) rfl
    refine wp_seq (wp_pure [(8, .bool false)] hF (by kernel_rfl) fun fr hF => then_normal ?_)
    obtain rfl := Option.some.inj h
    exact wp_ret (then_ret (ret1 rfl hF rfl ⟨_, rfl, rfl, hM0.chg⟩))
  replace h := iteF hb h
  refine (wp_skip (then_normal ?_))
  refine wp_seq ?_
  obtain ⟨x12, hx12, h⟩ := bindE h
  obtain ⟨x13, hx13, h⟩ := bindE h
  refine wp_seq (region_bm 5 [0, 0, 2, 7, 15] [false, false, false, false, true]
      [.eq (.agg #[.int .i64 x6.Inputs, .slice a9 (List.length x6.Gates) c9]), .eq (.agg #[.int .i64 p0.Inputs, .slice a1 (List.length p0.Gates) c1]), .is fun v w => RV w (fun k => k < w.heap.size) v (x12 : D.Circuit), .eq (.bool x13), .eq (.bool (!x13))]
      [(1, .slice a2 (List.length p1) c2), (2, .slice a3 (List.length p2) c3), (3, .int .i64 p3), (4, .pointer (some ⟨b1, 0, none⟩)), (10, .pointer (some ⟨b2, 0, none⟩)), (11, .slice a8 (List.length x5.2.1) c8), (12, .int .i64 x5.2.2.1), (13, .bool x5.2.2.2), (14, .pointer (some ⟨b3, 0, none⟩)), (15, .slice a10 (List.length x7) c10), (16, .slice a11 (List.length x8) c11), (17, .pointer (some ⟨b4, 0, none⟩)), (18, .slice a13 (List.length x9.2.1) c13), (19, .int .i64 x9.2.2.1), (20, .bool x9.2.2.2), (92, .bool (!x13))] mix hF (by kernel_rfl) (by kernel_rfl) (by kernel_rfl) (by kernel_rfl) ⟨Pd.monoO_eq, Pd.monoO_eq, (Pd.monoO_is mono_rvb), Pd.monoO_eq, trivial⟩ (fun ow hG => ⟨np_to ow (np_loadBoxS hG hF ty28 rfl rfl (hs.bx 5 rfl) rfl rfl rfl rfl), np_to ow (np_loadBoxS hG hF ty24 rfl rfl (hs.bx 10 rfl) rfl rfl rfl rfl), np_to ow (np_callI [.inl (.agg #[.int .i64 p0.Inputs, .slice a1 (List.length p0.Gates) c1])] hG hF Try.call14 rfl rfl (by kernel_rfl) (fun w vs hC hg ha => by obtain ⟨_, rfl, rfl⟩ := ha; exact (laws_toCircuit_ok n p0 hx12 ((RV.mk_Circuit p0 (r1)).ext hC)).mono fun e w' ⟨v, he, a0, c0, hv, _, hp, ho⟩ => ⟨_, he, hp.chg, by rw [hv]; exact (show RV w' (fun k => k < w'.heap.size) _ (x12 : D.Circuit) from RV.mk_Circuit x12 ((ho.rv 0 rfl).sub fun k hk _ => hk))⟩)), np_to ow (np_callI [.inl (.agg #[.int .i64 x6.Inputs, .slice a9 (List.length x6.Gates) c9]), .inr 2] hG hF Try.call16 rfl rfl (by kernel_rfl) (fun w vs hC hg ha => by obtain ⟨_, rfl, vq1, _, rfl, hq1, rfl⟩ := ha; exact (laws_eqCircuit_ok n x6 x12 hx13 ((RV.mk_Circuit x6 (RV.any (hs.rv 6 rfl))).ext hC) (show RV w (fun k => k < w.heap.size) vq1 x12 from hq1)).mono fun e w' ⟨v, he, hv, hc⟩ => ⟨v, he, hc, hv⟩)), trivial⟩) (by kernel_rfl) fun ow fr w18 hF hE hc => ?_)
  have ra1 := ra1.ext hc
  have ra2 := ra2.ext hc
  have r1 := r1.ext hc
  have hs := hs.ext hc
  have hM0 := hM0.ext hc
  refine from_end rfl (then_normal ?_)
  refine (wp_if hF (b := (!x13)) rfl (fun hb => ?_) (fun hb => ?_))
  · replace h := iteT hb h
    have hs : Sep [] w18 S15 := Sep.pick [] hs (by decide) rfl
    refine wp_seq (wp_pure [(8, .bool false)] hF (by kernel_rfl) fun fr hF => then_normal ?_)
    obtain rfl := Option.some.inj h
    exact wp_ret (then_ret (ret1 rfl hF rfl ⟨_, rfl, rfl, hM0.chg⟩))
  replace h := iteF hb h
  refine (wp_skip (then_normal ?_))
  refine wp_seq ?_
  refine wp_seq (wp_text' ?_)
  refine from_pure 2 [(1, .slice a2 (List.length p1) c2), (2, .slice a3 (List.length p2) c3), (3, .int .i64 p3), (4, .pointer (some ⟨b1, 0, none⟩)), (10, .pointer (some ⟨b2, 0, none⟩)), (11, .slice a8 (List.length x5.2.1) c8), (12, .int .i64 x5.2.2.1), (13, .bool x5.2.2.2), (14, .pointer (some ⟨b3, 0, none⟩)), (15, .slice a10 (List.length x7) c10), (16, .slice a11 (List.length x8) c11), (17, .pointer (some ⟨b4, 0, none⟩)), (18, .slice a13 (List.length x9.2.1) c13), (19, .int .i64 x9.2.2.1), (20, .bool x9.2.2.2), (93, .slice a10 (List.length x7) c10), (94, .slice a2 (List.length p1) c2)] hF (by kernel_rfl) fun fr hF => ?_
  obtain ⟨x14, hx14, h⟩ := bindE h
  refine s_call [.slice a2 (List.length p1) c2] Try.call26 rfl rfl hF rfl (laws_toIntS_ok n p1 hx14 (ra1)) fun v w19 fr hRes hF => ?_
  obtain ⟨a14, c14, rfl, _, hp, hs2⟩ := hRes
  obtain ⟨S16, hp, hs⟩ := hs.got hM0 hp hs2
  have ra1 := ra1.stp hM0 hp
  have ra2 := ra2.stp hM0 hp
  have r1 := r1.stp hM0 hp
  have hM0 := hM0.stp hp
  have hs : Sep [SL (α := Int) 3 (.slice a14 (List.length x14) c14) x14, BX b4 28 [.int .i64 x9.1.Inputs, .slice a12 (List.length x9.1.Gates) c12], SL (α := D.Gate) 59 (.slice a12 (List.length x9.1.Gates) c12) x9.1.Gates, SL (α := Int) 3 (.slice a13 (List.length x9.2.1) c13) x9.2.1, SL (α := Int) 3 (.slice a11 (List.length x8) c11) x8, SL (α := Int) 3 (.slice a10 (List.length x7) c10) x7, BX b3 28 [.int .i64 x6.Inputs, .slice a9 (List.length x6.Gates) c9], SL (α := D.Gate) 59 (.slice a9 (List.length x6.Gates) c9) x6.Gates, BX b2 28 [.int .i64 x5.1.Inputs, .slice a7 (List.length x5.1.Gates) c7], SL (α := D.Gate) 59 (.slice a7 (List.length x5.1.Gates) c7) x5.1.Gates, SL (α := Int) 3 (.slice a8 (List.length x5.2.1) c8) x5.2.1, BX b1 24 [.int .i64 p0.Inputs, .slice a1 (List.length p0.Gates) c1]] w19 S16 := hs
  obtain ⟨x15, hx15, h⟩ := bindE h
  refine s_call [.slice a10 (List.length x7) c10, .slice a14 (List.length x14) c14] Try.call28 rfl rfl hF rfl (laws_eqIntS_ok n x7 x14 hx15 (hs.rv 5 rfl) (hs.rv 0 rfl)) fun v w20 fr hRes hF => ?_
  obtain ⟨rfl, hc⟩ := hRes
  have ra1 := ra1.ext hc
  have ra2 := ra2.ext hc
  have r1 := r1.ext hc
  have hs := hs.ext hc
  have hM0 := hM0.ext hc
  have hs : Sep [BX b4 28 [.int .i64 x9.1.Inputs, .slice a12 (List.length x9.1.Gates) c12], SL (α := D.Gate) 59 (.slice a12 (List.length x9.1.Gates) c12) x9.1.Gates, SL (α := Int) 3 (.slice a13 (List.length x9.2.1) c13) x9.2.1, SL (α := Int) 3 (.slice a11 (List.length x8) c11) x8, SL (α := Int) 3 (.slice a10 (List.length x7) c10) x7, BX b3 28 [.int .i64 x6.Inputs, .slice a9 (List.length x6.Gates) c9], SL (α := D.Gate) 59 (.slice a9 (List.length x6.Gates) c9) x6.Gates, BX b2 28 [.int .i64 x5.1.Inputs, .slice a7 (List.length x5.1.Gates) c7], SL (α := D.Gate) 59 (.slice a7 (List.length x5.1.Gates) c7) x5.1.Gates, SL (α := Int) 3 (.slice a8 (List.length x5.2.1) c8) x5.2.1, BX b1 24 [.int .i64 p0.Inputs, .slice a1 (List.length p0.Gates) c1]] w20 S16 := Sep.pick [1, 2, 3, 4, 5, 6, 7, 8, 9, 10, 11] hs (by decide) rfl
  refine from_pure 1 [(1, .slice a2 (List.length p1) c2), (2, .slice a3 (List.length p2) c3), (3, .int .i64 p3), (4, .pointer (some ⟨b1, 0, none⟩)), (10, .pointer (some ⟨b2, 0, none⟩)), (11, .slice a8 (List.length x5.2.1) c8), (12, .int .i64 x5.2.2.1), (13, .bool x5.2.2.2), (14, .pointer (some ⟨b3, 0, none⟩)), (15, .slice a10 (List.length x7) c10), (16, .slice a11 (List.length x8) c11), (17, .pointer (some ⟨b4, 0, none⟩)), (18, .slice a13 (List.length x9.2.1) c13), (19, .int .i64 x9.2.2.1), (20, .bool x9.2.2.2), (97, .bool (!x15))] hF (by kernel_rfl) fun fr hF => ?_
  refine from_end rfl (then_normal ?_)
  refine (wp_if hF (b := (!x15)) rfl (fun hb => ?_) (fun hb => ?_))
  · replace h := iteT hb h
    have hs : Sep [] w20 S16 := Sep.pick [] hs (by decide) rfl
    refine wp_seq (wp_pure [(8, .bool false)] hF (by kernel_rfl) fun fr hF => then_normal ?_)
    obtain rfl := Option.some.inj h
    exact wp_ret (then_ret (ret1 rfl hF rfl ⟨_, rfl, rfl, hM0.chg⟩))
  replace h := iteF hb h
  refine (wp_skip (then_normal ?_))
  refine wp_seq ?_
  refine wp_seq (wp_text' ?_)
  refine from_pure 2 [(1, .slice a2 (List.length p1) c2), (2, .slice a3 (List.length p2) c3), (3, .int .i64 p3), (4, .pointer (some ⟨b1, 0, none⟩)), (10, .pointer (some ⟨b2, 0, none⟩)), (11, .slice a8 (List.length x5.2.1) c8), (12, .int .i64 x5.2.2.1), (13, .bool x5.2.2.2), (14, .pointer (some ⟨b3, 0, none⟩)), (15, .slice a10 (List.length x7) c10), (16, .slice a11 (List.length x8) c11), (17, .pointer (some ⟨b4, 0, none⟩)), (18, .slice a13 (List.length x9.2.1) c13), (19, .int .i64 x9.2.2.1), (20, .bool x9.2.2.2), (98, .slice a11 (List.length x8) c11), (99, .slice a3 (List.length p2) c3)] hF (by kernel_rfl) fun fr hF => ?_
  obtain ⟨x16, hx16, h⟩ := bindE h
  refine s_call [.slice a3 (List.length p2) c3] Try.call26 rfl rfl hF rfl (laws_toIntS_ok n p2 hx16 (ra2)) fun v w21 fr hRes hF => ?_
  obtain ⟨a15, c15, rfl, _, hp, hs2⟩ := hRes
  obtain ⟨S17, hp, hs⟩ := hs.got hM0 hp hs2
  have ra1 := ra1.stp hM0 hp
  have ra2 := ra2.stp hM0 hp
  have r1 := r1.stp hM0 hp
  have hM0 := hM0.stp hp
  have hs : Sep [SL (α := Int) 3 (.slice a15 (List.length x16) c15) x16, BX b4 28 [.int .i64 x9.1.Inputs, .slice a12 (List.length x9.1.Gates) c12], SL (α := D.Gate) 59 (.slice a12 (List.length x9.1.Gates) c12) x9.1.Gates, SL (α := Int) 3 (.slice a13 (List.length x9.2.1) c13) x9.2.1, SL (α := Int) 3 (.slice a11 (List.length x8) c11) x8, SL (α := Int) 3 (.slice a10 (List.length x7) c10) x7, BX b3 28 [.int .i64 x6.Inputs, .slice a9 (List.length x6.Gates) c9], SL (α := D.Gate) 59 (.slice a9 (List.length x6.Gates) c9) x6.Gates, BX b2 28 [.int .i64 x5.1.Inputs, .slice a7 (List.length x5.1.Gates) c7], SL (α := D.Gate) 59 (.slice a7 (List.length x5.1.Gates) c7) x5.1.Gates, SL (α := Int) 3 (.slice a8 (List.length x5.2.1) c8) x5.2.1, BX b1 24 [.int .i64 p0.Inputs, .slice a1 (List.length p0.Gates) c1]] w21 S17 := hs
  obtain ⟨x17, hx17, h⟩ := bindE h
  refine s_call [.slice a11 (List.length x8) c11, .slice a15 (List.length x16) c15] Try.call28 rfl rfl hF rfl (laws_eqIntS_ok n x8 x16 hx17 (hs.rv 4 rfl) (hs.rv 0 rfl)) fun v w22 fr hRes hF => ?_
  obtain ⟨rfl, hc⟩ := hRes
  have ra1 := ra1.ext hc
  have ra2 := ra2.ext hc
  have r1 := r1.ext hc
  have hs := hs.ext hc
  have hM0 := hM0.ext hc
  have hs : Sep [BX b4 28 [.int .i64 x9.1.Inputs, .slice a12 (List.length x9.1.Gates) c12], SL (α := D.Gate) 59 (.slice a12 (List.length x9.1.Gates) c12) x9.1.Gates, SL (α := Int) 3 (.slice a13 (List.length x9.2.1) c13) x9.2.1, SL (α := Int) 3 (.slice a11 (List.length x8) c11) x8, SL (α := Int) 3 (.slice a10 (List.length x7) c10) x7, BX b3 28 [.int .i64 x6.Inputs, .slice a9 (List.length x6.Gates) c9], SL (α := D.Gate) 59 (.slice a9 (List.length x6.Gates) c9) x6.Gates, BX b2 28 [.int .i64 x5.1.Inputs, .slice a7 (List.length x5.1.Gates) c7], SL (α := D.Gate) 59 (.slice a7 (List.length x5.1.Gates) c7) x5.1.Gates, SL (α := Int) 3 (.slice a8 (List.length x5.2.1) c8) x5.2.1, BX b1 24 [.int .i64 p0.Inputs, .slice a1 (List.length p0.Gates) c1]] w22 S17 := Sep.pick [1, 2, 3, 4, 5, 6, 7, 8, 9, 10, 11] hs (by decide) rfl
  refine from_pure 1 [(1, .slice a2 (List.length p1) c2), (2, .slice a3 (List.length p2) c3), (3, .int .i64 p3), (4, .pointer (some ⟨b1, 0, none⟩)), (10, .pointer (some ⟨b2, 0, none⟩)), (11, .slice a8 (List.length x5.2.1) c8), (12, .int .i64 x5.2.2.1), (13, .bool x5.2.2.2), (14, .pointer (some ⟨b3, 0, none⟩)), (15, .slice a10 (List.length x7) c10), (16, .slice a11 (List.length x8) c11), (17, .pointer (some ⟨b4, 0, none⟩)), (18, .slice a13 (List.length x9.2.1) c13), (19, .int .i64 x9.2.2.1), (20, .bool x9.2.2.2), (102, .bool (!x17))] hF (by kernel_rfl) fun fr hF => ?_
  refine from_end rfl (then_normal ?_)
  refine (wp_if hF (b := (!x17)) rfl (fun hb => ?_) (fun hb => ?_))
  · replace h := iteT hb h
    have hs : Sep [] w22 S17 := Sep.pick [] hs (by decide) rfl
    refine wp_seq (wp_pure [(8, .bool false)] hF (by kernel_rfl) fun fr hF => then_normal ?_)
    obtain rfl := Option.some.inj h
    exact wp_ret (then_ret (ret1 rfl hF rfl ⟨_, rfl, rfl, hM0.chg⟩))
  replace h := iteF hb h
  refine (wp_skip (then_normal ?_))
  refine wp_seq (wp_pure [(1, .slice a2 (List.length p1) c2), (2, .slice a3 (List.length p2) c3), (3, .int .i64 p3), (4, .pointer (some ⟨b1, 0, none⟩)), (10, .pointer (some ⟨b2, 0, none⟩)), (11, .slice a8 (List.length x5.2.1) c8), (12, .int .i64 x5.2.2.1), (13, .bool x5.2.2.2), (14, .pointer (some ⟨b3, 0, none⟩)), (15, .slice a10 (List.length x7) c10), (16, .slice a11 (List.length x8) c11), (17, .pointer (some ⟨b4, 0, none⟩)), (18, .slice a13 (List.length x9.2.1) c13), (19, .int .i64 x9.2.2.1), (20, .bool x9.2.2.2), (21, .int .i64 1)] hF (by kernel_rfl) fun fr hF => then_normal ?_)
  refine wp_seq (wp_text' ?_)
  refine s_loadBoxS ty28 rfl rfl hF rfl (hs.bx 5 rfl) rfl rfl fun fr hF => ?_
  have hs : Sep [BX b4 28 [.int .i64 x9.1.Inputs, .slice a12 (List.length x9.1.Gates) c12], SL (α := D.Gate) 59 (.slice a12 (List.length x9.1.Gates) c12) x9.1.Gates, SL (α := Int) 3 (.slice a13 (List.length x9.2.1) c13) x9.2.1, SL (α := Int) 3 (.slice a11 (List.length x8) c11) x8, SL (α := Int) 3 (.slice a10 (List.length x7) c10) x7, SL (α := D.Gate) 59 (.slice a9 (List.length x6.Gates) c9) x6.Gates, BX b2 28 [.int .i64 x5.1.Inputs, .slice a7 (List.length x5.1.Gates) c7], SL (α := D.Gate) 59 (.slice a7 (List.length x5.1.Gates) c7) x5.1.Gates, SL (α := Int) 3 (.slice a8 (List.length x5.2.1) c8) x5.2.1, BX b1 24 [.int .i64 p0.Inputs, .slice a1 (List.length p0.Gates) c1]] w22 S17 := Sep.pick [0, 1, 2, 3, 4, 6, 7, 8, 9, 10] hs (by decide) rfl
  refine from_pure 1 [(1, .slice a2 (List.length p1) c2), (2, .slice a3 (List.length p2) c3), (3, .int .i64 p3), (4, .pointer (some ⟨b1, 0, none⟩)), (10, .pointer (some ⟨b2, 0, none⟩)), (11, .slice a8 (List.length x5.2.1) c8), (12, .int .i64 x5.2.2.1), (13, .bool x5.2.2.2), (15, .slice a10 (List.length x7) c10), (16, .slice a11 (List.length x8) c11), (17, .pointer (some ⟨b4, 0, none⟩)), (18, .slice a13 (List.length x9.2.1) c13), (19, .int .i64 x9.2.2.1), (20, .bool x9.2.2.2), (103, .agg #[.int .i64 x6.Inputs, .slice a9 (List.length x6.Gates) c9]), (104, .int .i64 1)] hF (by kernel_rfl) fun fr hF => ?_
  obtain ⟨x18, hx18, h⟩ := bindE h
  have hs : Sep [SL (α := D.Gate) 59 (.slice a9 (List.length x6.Gates) c9) x6.Gates, BX b4 28 [.int .i64 x9.1.Inputs, .slice a12 (List.length x9.1.Gates) c12], SL (α := D.Gate) 59 (.slice a12 (List.length x9.1.Gates) c12) x9.1.Gates, SL (α := Int) 3 (.slice a13 (List.length x9.2.1) c13) x9.2.1, SL (α := Int) 3 (.slice a11 (List.length x8) c11) x8, SL (α := Int) 3 (.slice a10 (List.length x7) c10) x7, BX b2 28 [.int .i64 x5.1.Inputs, .slice a7 (List.length x5.1.Gates) c7], SL (α := D.Gate) 59 (.slice a7 (List.length x5.1.Gates) c7) x5.1.Gates, SL (α := Int) 3 (.slice a8 (List.length x5.2.1) c8) x5.2.1, BX b1 24 [.int .i64 p0.Inputs, .slice a1 (List.length p0.Gates) c1]] w22 S17 := Sep.pick [5, 0, 1, 2, 3, 4, 6, 7, 8, 9] hs (by decide) rfl
  obtain ⟨A1, R1, hsA, hsR, hdA, hbA, hup⟩ := Sep.call (L1 := [SL (α := D.Gate) 59 (.slice a9 (List.length x6.Gates) c9) x6.Gates]) (L2 := [BX b4 28 [.int .i64 x9.1.Inputs, .slice a12 (List.length x9.1.Gates) c12], SL (α := D.Gate) 59 (.slice a12 (List.length x9.1.Gates) c12) x9.1.Gates, SL (α := Int) 3 (.slice a13 (List.length x9.2.1) c13) x9.2.1, SL (α := Int) 3 (.slice a11 (List.length x8) c11) x8, SL (α := Int) 3 (.slice a10 (List.length x7) c10) x7, BX b2 28 [.int .i64 x5.1.Inputs, .slice a7 (List.length x5.1.Gates) c7], SL (α := D.Gate) 59 (.slice a7 (List.length x5.1.Gates) c7) x5.1.Gates, SL (α := Int) 3 (.slice a8 (List.length x5.2.1) c8) x5.2.1, BX b1 24 [.int .i64 p0.Inputs, .slice a1 (List.length p0.Gates) c1]]) hs hM0
  refine s_call [.agg #[.int .i64 x6.Inputs, .slice a9 (List.length x6.Gates) c9], .int .i64 1] Try.call17 rfl rfl hF rfl (laws_markCircuit_ok n x6 1 hx18 hsA hbA hdA) fun v w23 fr hRes hF => ?_
  obtain ⟨rfl, _, hp, hs⟩ := hRes
  obtain ⟨S18, hp, hs⟩ := hup hp hs
  have ra1 := ra1.stp hM0 hp
  have ra2 := ra2.stp hM0 hp
  have r1 := r1.stp hM0 hp
  have hM0 := hM0.stp hp
  have hs : Sep [SL (α := D.Gate) 59 (.slice a9 (List.length x6.Gates) c9) x18.2.Gates, BX b4 28 [.int .i64 x9.1.Inputs, .slice a12 (List.length x9.1.Gates) c12], SL (α := D.Gate) 59 (.slice a12 (List.length x9.1.Gates) c12) x9.1.Gates, SL (α := Int) 3 (.slice a13 (List.length x9.2.1) c13) x9.2.1, SL (α := Int) 3 (.slice a11 (List.length x8) c11) x8, SL (α := Int) 3 (.slice a10 (List.length x7) c10) x7, BX b2 28 [.int .i64 x5.1.Inputs, .slice a7 (List.length x5.1.Gates) c7], SL (α := D.Gate) 59 (.slice a7 (List.length x5.1.Gates) c7) x5.1.Gates, SL (α := Int) 3 (.slice a8 (List.length x5.2.1) c8) x5.2.1, BX b1 24 [.int .i64 p0.Inputs, .slice a1 (List.length p0.Gates) c1]] w23 S18 := hs
  have hs : Sep [BX b4 28 [.int .i64 x9.1.Inputs, .slice a12 (List.length x9.1.Gates) c12], SL (α := D.Gate) 59 (.slice a12 (List.length x9.1.Gates) c12) x9.1.Gates, SL (α := Int) 3 (.slice a13 (List.length x9.2.1) c13) x9.2.1, SL (α := Int) 3 (.slice a11 (List.length x8) c11) x8, SL (α := Int) 3 (.slice a10 (List.length x7) c10) x7, BX b2 28 [.int .i64 x5.1.Inputs, .slice a7 (List.length x5.1.Gates) c7], SL (α := D.Gate) 59 (.slice a7 (List.length x5.1.Gates) c7) x5.1.Gates, SL (α := Int) 3 (.slice a8 (List.length x5.2.1) c8) x5.2.1, BX b1 24 [.int .i64 p0.Inputs, .slice a1 (List.length p0.Gates) c1]] w23 S18 := Sep.pick [1, 2, 3, 4, 5, 6, 7, 8, 9] hs (by decide) rfl
  refine from_pure 1 [(1, .slice a2 (List.length p1) c2), (2, .slice a3 (List.length p2) c3), (3, .int .i64 p3), (4, .pointer (some ⟨b1, 0, none⟩)), (10, .pointer (some ⟨b2, 0, none⟩)), (11, .slice a8 (List.length x5.2.1) c8), (12, .int .i64 x5.2.2.1), (13, .bool x5.2.2.2), (15, .slice a10 (List.length x7) c10), (16, .slice a11 (List.length x8) c11), (17, .pointer (some ⟨b4, 0, none⟩)), (18, .slice a13 (List.length x9.2.1) c13), (19, .int .i64 x9.2.2.1), (20, .bool x9.2.2.2), (21, .int .i64 x18.1)] hF (by kernel_rfl) fun fr hF => ?_
  refine from_end rfl (then_normal ?_)
  refine wp_seq (wp_text' ?_)
  refine from_pure 2 [(1, .slice a2 (List.length p1) c2), (2, .slice a3 (List.length p2) c3), (3, .int .i64 p3), (4, .pointer (some ⟨b1, 0, none⟩)), (10, .pointer (some ⟨b2, 0, none⟩)), (11, .slice a8 (List.length x5.2.1) c8), (12, .int .i64 x5.2.2.1), (13, .bool x5.2.2.2), (16, .slice a11 (List.length x8) c11), (17, .pointer (some ⟨b4, 0, none⟩)), (18, .slice a13 (List.length x9.2.1) c13), (19, .int .i64 x9.2.2.1), (20, .bool x9.2.2.2), (106, .slice a10 (List.length x7) c10), (107, .int .i64 x18.1)] hF (by kernel_rfl) fun fr hF => ?_
  obtain ⟨x19, hx19, h⟩ := bindE h
  have hs : Sep [SL (α := Int) 3 (.slice a10 (List.length x7) c10) x7, BX b4 28 [.int .i64 x9.1.Inputs, .slice a12 (List.length x9.1.Gates) c12], SL (α := D.Gate) 59 (.slice a12 (List.length x9.1.Gates) c12) x9.1.Gates, SL (α := Int) 3 (.slice a13 (List.length x9.2.1) c13) x9.2.1, SL (α := Int) 3 (.slice a11 (List.length x8) c11) x8, BX b2 28 [.int .i64 x5.1.Inputs, .slice a7 (List.length x5.1.Gates) c7], SL (α := D.Gate) 59 (.slice a7 (List.length x5.1.Gates) c7) x5.1.Gates, SL (α := Int) 3 (.slice a8 (List.length x5.2.1) c8) x5.2.1, BX b1 24 [.int .i64 p0.Inputs, .slice a1 (List.length p0.Gates) c1]] w23 S18 := Sep.pick [4, 0, 1, 2, 3, 5, 6, 7, 8] hs (by decide) rfl
  obtain ⟨A2, R2, hsA, hsR, hdA, hbA, hup⟩ := Sep.call (L1 := [SL (α := Int) 3 (.slice a10 (List.length x7) c10) x7]) (L2 := [BX b4 28 [.int .i64 x9.1.Inputs, .slice a12 (List.length x9.1.Gates) c12], SL (α := D.Gate) 59 (.slice a12 (List.length x9.1.Gates) c12) x9.1.Gates, SL (α := Int) 3 (.slice a13 (List.length x9.2.1) c13) x9.2.1, SL (α := Int) 3 (.slice a11 (List.length x8) c11) x8, BX b2 28 [.int .i64 x5.1.Inputs, .slice a7 (List.length x5.1.Gates) c7], SL (α := D.Gate) 59 (.slice a7 (List.length x5.1.Gates) c7) x5.1.Gates, SL (α := Int) 3 (.slice a8 (List.length x5.2.1) c8) x5.2.1, BX b1 24 [.int .i64 p0.Inputs, .slice a1 (List.length p0.Gates) c1]]) hs hM0
  refine s_call [.slice a10 (List.length x7) c10, .int .i64 x18.1] Try.call29 rfl rfl hF rfl (laws_markIntS_ok n x7 x18.1 hx19 hsA hbA hdA) fun v w24 fr hRes hF => ?_
  obtain ⟨rfl, _, hp, hs⟩ := hRes
  obtain ⟨S19, hp, hs⟩ := hup hp hs
  have ra1 := ra1.stp hM0 hp
  have ra2 := ra2.stp hM0 hp
  have r1 := r1.stp hM0 hp
  have hM0 := hM0.stp hp
  have hs : Sep [SL (α := Int) 3 (.slice a10 (List.length x7) c10) x19.2, BX b4 28 [.int .i64 x9.1.Inputs, .slice a12 (List.length x9.1.Gates) c12], SL (α := D.Gate) 59 (.slice a12 (List.length x9.1.Gates) c12) x9.1.Gates, SL (α := Int) 3 (.slice a13 (List.length x9.2.1) c13) x9.2.1, SL (α := Int) 3 (.slice a11 (List.length x8) c11) x8, BX b2 28 [.int .i64 x5.1.Inputs, .slice a7 (List.length x5.1.Gates) c7], SL (α := D.Gate) 59 (.slice a7 (List.length x5.1.Gates) c7) x5.1.Gates, SL (α := Int) 3 (.slice a8 (List.length x5.2.1) c8) x5.2.1, BX b1 24 [.int .i64 p0.Inputs, .slice a1 (List.length p0.Gates) c1]] w24 S19 := hs
  have hs : Sep [BX b4 28 [.int .i64 x9.1.Inputs, .slice a12 (List.length x9.1.Gates) c12], SL (α := D.Gate) 59 (.slice a12 (List.length x9.1.Gates) c12) x9.1.Gates, SL (α := Int) 3 (.slice a13 (List.length x9.2.1) c13) x9.2.1, SL (α := Int) 3 (.slice a11 (List.length x8) c11) x8, BX b2 28 [.int .i64 x5.1.Inputs, .slice a7 (List.length x5.1.Gates) c7], SL (α := D.Gate) 59 (.slice a7 (List.length x5.1.Gates) c7) x5.1.Gates, SL (α := Int) 3 (.slice a8 (List.length x5.2.1) c8) x5.2.1, BX b1 24 [.int .i64 p0.Inputs, .slice a1 (List.length p0.Gates) c1]] w24 S19 := Sep.pick [1, 2, 3, 4, 5, 6, 7, 8] hs (by decide) rfl
  refine from_pure 1 [(1, .slice a2 (List.length p1) c2), (2, .slice a3 (List.length p2) c3), (3, .int .i64 p3), (4, .pointer (some ⟨b1, 0, none⟩)), (10, .pointer (some ⟨b2, 0, none⟩)), (11, .slice a8 (List.length x5.2.1) c8), (12, .int .i64 x5.2.2.1), (13, .bool x5.2.2.2), (16, .slice a11 (List.length x8) c11), (17, .pointer (some ⟨b4, 0, none⟩)), (18, .slice a13 (List.length x9.2.1) c13), (19, .int .i64 x9.2.2.1), (20, .bool x9.2.2.2), (21, .int .i64 x19.1)] hF (by kernel_rfl) fun fr hF => ?_
  refine from_end rfl (then_normal ?_)
  refine wp_seq (wp_text' ?_)
  refine from_pure 2 [(1, .slice a2 (List.length p1) c2), (2, .slice a3 (List.length p2) c3), (3, .int .i64 p3), (4, .pointer (some ⟨b1, 0, none⟩)), (10, .pointer (some ⟨b2, 0, none⟩)), (11, .slice a8 (List.length x5.2.1) c8), (12, .int .i64 x5.2.2.1), (13, .bool x5.2.2.2), (17, .pointer (some ⟨b4, 0, none⟩)), (18, .slice a13 (List.length x9.2.1) c13), (19, .int .i64 x9.2.2.1), (20, .bool x9.2.2.2), (109, .slice a11 (List.length x8) c11), (110, .int .i64 x19.1)] hF (by kernel_rfl) fun fr hF => ?_
  obtain ⟨x20, hx20, h⟩ := bindE h
  have hs : Sep [SL (α := Int) 3 (.slice a11 (List.length x8) c11) x8, BX b4 28 [.int .i64 x9.1.Inputs, .slice a12 (List.length x9.1.Gates) c12], SL (α := D.Gate) 59 (.slice a12 (List.length x9.1.Gates) c12) x9.1.Gates, SL (α := Int) 3 (.slice a13 (List.length x9.2.1) c13) x9.2.1, BX b2 28 [.int .i64 x5.1.Inputs, .slice a7 (List.length x5.1.Gates) c7], SL (α := D.Gate) 59 (.slice a7 (List.length x5.1.Gates) c7) x5.1.Gates, SL (α := Int) 3 (.slice a8 (List.length x5.2.1) c8) x5.2.1, BX b1 24 [.int .i64 p0.Inputs, .slice a1 (List.length p0.Gates) c1]] w24 S19 := Sep.pick [3, 0, 1, 2, 4, 5, 6, 7] hs (by decide) rfl
  obtain ⟨A3, R3, hsA, hsR, hdA, hbA, hup⟩ := Sep.call (L1 := [SL (α := Int) 3 (.slice a11 (List.length x8) c11) x8]) (L2 := [BX b4 28 [.int .i64 x9.1.Inputs, .slice a12 (List.length x9.1.Gates) c12], SL (α := D.Gate) 59 (.slice a12 (List.length x9.1.Gates) c12) x9.1.Gates, SL (α := Int) 3 (.slice a13 (List.length x9.2.1) c13) x9.2.1, BX b2 28 [.int .i64 x5.1.Inputs, .slice a7 (List.length x5.1.Gates) c7], SL (α := D.Gate) 59 (.slice a7 (List.length x5.1.Gates) c7) x5.1.Gates, SL (α := Int) 3 (.slice a8 (List.length x5.2.1) c8) x5.2.1, BX b1 24 [.int .i64 p0.Inputs, .slice a1 (List.length p0.Gates) c1]]) hs hM0
  refine s_call [.slice a11 (List.length x8) c11, .int .i64 x19.1] Try.call29 rfl rfl hF rfl (laws_markIntS_ok n x8 x19.1 hx20 hsA hbA hdA) fun v w25 fr hRes hF => ?_
  obtain ⟨rfl, _, hp, hs⟩ := hRes
  obtain ⟨S20, hp, hs⟩ := hup hp hs
  have ra1 := ra1.stp hM0 hp
  have ra2 := ra2.stp hM0 hp
  have r1 := r1.stp hM0 hp
  have hM0 := hM0.stp hp
  have hs : Sep [SL (α := Int) 3 (.slice a11 (List.length x8) c11) x20.2, BX b4 28 [.int .i64 x9.1.Inputs, .slice a12 (List.length x9.1.Gates) c12], SL (α := D.Gate) 59 (.slice a12 (List.length x9.1.Gates) c12) x9.1.Gates, SL (α := Int) 3 (.slice a13 (List.length x9.2.1) c13) x9.2.1, BX b2 28 [.int .i64 x5.1.Inputs, .slice a7 (List.length x5.1.Gates) c7], SL (α := D.Gate) 59 (.slice a7 (List.length x5.1.Gates) c7) x5.1.Gates, SL (α := Int) 3 (.slice a8 (List.length x5.2.1) c8) x5.2.1, BX b1 24 [.int .i64 p0.Inputs, .slice a1 (List.length p0.Gates) c1]] w25 S20 := hs
  have hs : Sep [BX b4 28 [.int .i64 x9.1.Inputs, .slice a12 (List.length x9.1.Gates) c12], SL (α := D.Gate) 59 (.slice a12 (List.length x9.1.Gates) c12) x9.1.Gates, SL (α := Int) 3 (.slice a13 (List.length x9.2.1) c13) x9.2.1, BX b2 28 [.int .i64 x5.1.Inputs, .slice a7 (List.length x5.1.Gates) c7], SL (α := D.Gate) 59 (.slice a7 (List.length x5.1.Gates) c7) x5.1.Gates, SL (α := Int) 3 (.slice a8 (List.length x5.2.1) c8) x5.2.1, BX b1 24 [.int .i64 p0.Inputs, .slice a1 (List.length p0.Gates) c1]] w25 S20 := Sep.pick [1, 2, 3, 4, 5, 6, 7] hs (by decide) rfl
  refine from_pure 1 [(1, .slice a2 (List.length p1) c2), (2, .slice a3 (List.length p2) c3), (3, .int .i64 p3), (4, .pointer (some ⟨b1, 0, none⟩)), (10, .pointer (some ⟨b2, 0, none⟩)), (11, .slice a8 (List.length x5.2.1) c8), (12, .int .i64 x5.2.2.1), (13, .bool x5.2.2.2), (17, .pointer (some ⟨b4, 0, none⟩)), (18, .slice a13 (List.length x9.2.1) c13), (19, .int .i64 x9.2.2.1), (20, .bool x9.2.2.2), (21, .int .i64 x20.1)] hF (by kernel_rfl) fun fr hF => ?_
  refine from_end rfl (then_normal ?_)
  refine wp_seq ?_
  obtain ⟨x21, hx21, h⟩ := bindE h
  obtain ⟨x22, hx22, h⟩ := bindE h
  refine wp_seq (region_b [] [true, true, true, false, false, false, true, true, true, true, true, false, true, true, true, true, true, true, true, true, true, true, true, true]
      [.eq (.int .i64 x20.1), .eq (.bool (decide (x20.1 < 0))), .eq (.bool (decide (x20.1 < 0))), .eq (.agg #[.int .i64 x9.1.Inputs, .slice a12 (List.length x9.1.Gates) c12]), .eq (.agg #[.int .i64 x5.1.Inputs, .slice a7 (List.length x5.1.Gates) c7]), .eq (.bool x21), .eq (.bool (!x21)), .eq (.bool ((decide (x20.1 < 0)) || (!x21))), .eq (.bool ((decide (x20.1 < 0)) || (!x21))), .eq (.slice a13 (List.length x9.2.1) c13), .eq (.slice a8 (List.length x5.2.1) c8), .eq (.bool x22), .eq (.bool (!x22)), .eq (.bool (((decide (x20.1 < 0)) || (!x21)) || (!x22))), .eq (.bool (((decide (x20.1 < 0)) || (!x21)) || (!x22))), .eq (.int .i64 x9.2.2.1), .eq (.int .i64 x5.2.2.1), .eq (.bool (x9.2.2.1 != x5.2.2.1)), .eq (.bool ((((decide (x20.1 < 0)) || (!x21)) || (!x22)) || (x9.2.2.1 != x5.2.2.1))), .eq (.bool ((((decide (x20.1 < 0)) || (!x21)) || (!x22)) || (x9.2.2.1 != x5.2.2.1))), .eq (.bool x9.2.2.2), .eq (.bool x5.2.2.2), .eq (.bool (!(x9.2.2.2 == x5.2.2.2))), .eq (.bool (((((decide (x20.1 < 0)) || (!x21)) || (!x22)) || (x9.2.2.1 != x5.2.2.1)) || (!(x9.2.2.2 == x5.2.2.2))))]
      [(1, .slice a2 (List.length p1) c2), (2, .slice a3 (List.length p2) c3), (3, .int .i64 p3), (4, .pointer (some ⟨b1, 0, none⟩)), (10, .pointer (some ⟨b2, 0, none⟩)), (11, .slice a8 (List.length x5.2.1) c8), (12, .int .i64 x5.2.2.1), (13, .bool x5.2.2.2), (17, .pointer (some ⟨b4, 0, none⟩)), (18, .slice a13 (List.length x9.2.1) c13), (135, .bool (((((decide (x20.1 < 0)) || (!x21)) || (!x22)) || (x9.2.2.1 != x5.2.2.1)) || (!(x9.2.2.2 == x5.2.2.2))))] mix hF (by kernel_rfl) (by kernel_rfl) (by kernel_rfl) ⟨Pd.mono_eq, Pd.mono_eq, Pd.mono_eq, Pd.mono_eq, trivial⟩ (fun hG => ⟨np_loadBoxS hG hF ty28 rfl rfl (hs.bx 0 rfl) rfl rfl rfl rfl, np_loadBoxS hG hF ty28 rfl rfl (hs.bx 3 rfl) rfl rfl rfl rfl, np_call [.agg #[.int .i64 x9.1.Inputs, .slice a12 (List.length x9.1.Gates) c12], .agg #[.int .i64 x5.1.Inputs, .slice a7 (List.length x5.1.Gates) c7]] hG hF Try.call16 rfl rfl (fun w hC hg => (laws_eqCircuit_ok n x9.1 x5.1 (iteF hg.2 hx21) ((RV.mk_Circuit x9.1 (RV.any (hs.rv 1 rfl))).ext hC) ((RV.mk_Circuit x5.1 (RV.any (hs.rv 4 rfl))).ext hC)).mono fun e w' ⟨v, he, hv, hc⟩ => ⟨v, he, hc, hv⟩), np_call [.slice a13 (List.length x9.2.1) c13, .slice a8 (List.length x5.2.1) c8] hG hF Try.call28 rfl rfl (fun w hC hg => (laws_eqIntS_ok n x9.2.1 x5.2.1 (iteF hg.2 hx22) ((hs.rv 2 rfl).ext hC) ((hs.rv 5 rfl).ext hC)).mono fun e w' ⟨v, he, hv, hc⟩ => ⟨v, he, hc, hv⟩), trivial⟩) (by kernel_rfl) fun fr w26 hF hE hc => then_normal ?_)
  have ra1 := ra1.ext hc
  have ra2 := ra2.ext hc
  have r1 := r1.ext hc
  have hs := hs.ext hc
  have hM0 := hM0.ext hc
  refine (wp_if hF (b := (((((decide (x20.1 < 0)) || (!x21)) || (!x22)) || (x9.2.2.1 != x5.2.2.1)) || (!(x9.2.2.2 == x5.2.2.2)))) rfl (fun hb => ?_) (fun hb => ?_))
  · replace h := iteT hb h
    have hs : Sep [] w26 S20 := Sep.pick [] hs (by decide) rfl
    refine wp_seq (wp_pure [(8, .bool false)] hF (by kernel_rfl) fun fr hF => then_normal ?_)
    obtain rfl := Option.some.inj h
    exact wp_ret (then_ret (ret1 rfl hF rfl ⟨_, rfl, rfl, hM0.chg⟩))
  replace h := iteF hb h
  refine (wp_skip (then_normal ?_))
  refine wp_seq (wp_pure [(1, .slice a2 (List.length p1) c2), (2, .slice a3 (List.length p2) c3), (3, .int .i64 p3), (4, .pointer (some ⟨b1, 0, none⟩)), (10, .pointer (some ⟨b2, 0, none⟩)), (11, .slice a8 (List.length x5.2.1) c8), (12, .int .i64 x5.2.2.1), (13, .bool x5.2.2.2), (17, .pointer (some ⟨b4, 0, none⟩)), (18, .slice a13 (List.length x9.2.1) c13), (22, .int .i64 1)] hF (by kernel_rfl) fun fr hF => then_normal ?_)
  refine wp_seq (wp_text' ?_)
  refine s_loadBoxS ty28 rfl rfl hF rfl (hs.bx 0 rfl) rfl rfl fun fr hF => ?_
  refine from_pure 1 [(1, .slice a2 (List.length p1) c2), (2, .slice a3 (List.length p2) c3), (3, .int .i64 p3), (4, .pointer (some ⟨b1, 0, none⟩)), (10, .pointer (some ⟨b2, 0, none⟩)), (11, .slice a8 (List.length x5.2.1) c8), (12, .int .i64 x5.2.2.1), (13, .bool x5.2.2.2), (17, .pointer (some ⟨b4, 0, none⟩)), (18, .slice a13 (List.length x9.2.1) c13), (136, .agg #[.int .i64 x9.1.Inputs, .slice a12 (List.length x9.1.Gates) c12]), (137, .int .i64 1)] hF (by kernel_rfl) fun fr hF => ?_
  obtain ⟨x23, hx23, h⟩ := bindE h
  have hs : Sep [SL (α := D.Gate) 59 (.slice a12 (List.length x9.1.Gates) c12) x9.1.Gates, BX b4 28 [.int .i64 x9.1.Inputs, .slice a12 (List.length x9.1.Gates) c12], SL (α := Int) 3 (.slice a13 (List.length x9.2.1) c13) x9.2.1, BX b2 28 [.int .i64 x5.1.Inputs, .slice a7 (List.length x5.1.Gates) c7], SL (α := D.Gate) 59 (.slice a7 (List.length x5.1.Gates) c7) x5.1.Gates, SL (α := Int) 3 (.slice a8 (List.length x5.2.1) c8) x5.2.1, BX b1 24 [.int .i64 p0.Inputs, .slice a1 (List.length p0.Gates) c1]] w26 S20 := Sep.pick [1, 0, 2, 3, 4, 5, 6] hs (by decide) rfl
  obtain ⟨A4, R4, hsA, hsR, hdA, hbA, hup⟩ := Sep.call (L1 := [SL (α := D.Gate) 59 (.slice a12 (List.length x9.1.Gates) c12) x9.1.Gates]) (L2 := [BX b4 28 [.int .i64 x9.1.Inputs, .slice a12 (List.length x9.1.Gates) c12], SL (α := Int) 3 (.slice a13 (List.length x9.2.1) c13) x9.2.1, BX b2 28 [.int .i64 x5.1.Inputs, .slice a7 (List.length x5.1.Gates) c7], SL (α := D.Gate) 59 (.slice a7 (List.length x5.1.Gates) c7) x5.1.Gates, SL (α := Int) 3 (.slice a8 (List.length x5.2.1) c8) x5.2.1, BX b1 24 [.int .i64 p0.Inputs, .slice a1 (List.length p0.Gates) c1]]) hs hM0
  refine s_call [.agg #[.int .i64 x9.1.Inputs, .slice a12 (List.length x9.1.Gates) c12], .int .i64 1] Try.call17 rfl rfl hF rfl (laws_markCircuit_ok n x9.1 1 hx23 hsA hbA hdA) fun v w27 fr hRes hF => ?_
  obtain ⟨rfl, _, hp, hs⟩ := hRes
  obtain ⟨S21, hp, hs⟩ := hup hp hs
  have ra1 := ra1.stp hM0 hp
  have ra2 := ra2.stp hM0 hp
  have r1 := r1.stp hM0 hp
  have hM0 := hM0.stp hp
  have hs : Sep [SL (α := D.Gate) 59 (.slice a12 (List.length x9.1.Gates) c12) x23.2.Gates, BX b4 28 [.int .i64 x9.1.Inputs, .slice a12 (List.length x9.1.Gates) c12], SL (α := Int) 3 (.slice a13 (List.length x9.2.1) c13) x9.2.1, BX b2 28 [.int .i64 x5.1.Inputs, .slice a7 (List.length x5.1.Gates) c7], SL (α := D.Gate) 59 (.slice a7 (List.length x5.1.Gates) c7) x5.1.Gates, SL (α := Int) 3 (.slice a8 (List.length x5.2.1) c8) x5.2.1, BX b1 24 [.int .i64 p0.Inputs, .slice a1 (List.length p0.Gates) c1]] w27 S21 := hs
  refine from_pure 1 [(1, .slice a2 (List.length p1) c2), (2, .slice a3 (List.length p2) c3), (3, .int .i64 p3), (4, .pointer (some ⟨b1, 0, none⟩)), (10, .pointer (some ⟨b2, 0, none⟩)), (11, .slice a8 (List.length x5.2.1) c8), (12, .int .i64 x5.2.2.1), (13, .bool x5.2.2.2), (17, .pointer (some ⟨b4, 0, none⟩)), (18, .slice a13 (List.length x9.2.1) c13), (22, .int .i64 x23.1)] hF (by kernel_rfl) fun fr hF => ?_
  refine from_end rfl (then_normal ?_)
  refine wp_seq (wp_text' ?_)
  refine from_pure 2 [(1, .slice a2 (List.length p1) c2), (2, .slice a3 (List.length p2) c3), (3, .int .i64 p3), (4, .pointer (some ⟨b1, 0, none⟩)), (10, .pointer (some ⟨b2, 0, none⟩)), (11, .slice a8 (List.length x5.2.1) c8), (12, .int .i64 x5.2.2.1), (13, .bool x5.2.2.2), (17, .pointer (some ⟨b4, 0, none⟩)), (18, .slice a13 (List.length x9.2.1) c13), (139, .slice a13 (List.length x9.2.1) c13), (140, .int .i64 x23.1)] hF (by kernel_rfl) fun fr hF => ?_
  obtain ⟨x24, hx24, h⟩ := bindE h
  have hs : Sep [SL (α := Int) 3 (.slice a13 (List.length x9.2.1) c13) x9.2.1, SL (α := D.Gate) 59 (.slice a12 (List.length x9.1.Gates) c12) x23.2.Gates, BX b4 28 [.int .i64 x9.1.Inputs, .slice a12 (List.length x9.1.Gates) c12], BX b2 28 [.int .i64 x5.1.Inputs, .slice a7 (List.length x5.1.Gates) c7], SL (α := D.Gate) 59 (.slice a7 (List.length x5.1.Gates) c7) x5.1.Gates, SL (α := Int) 3 (.slice a8 (List.length x5.2.1) c8) x5.2.1, BX b1 24 [.int .i64 p0.Inputs, .slice a1 (List.length p0.Gates) c1]] w27 S21 := Sep.pick [2, 0, 1, 3, 4, 5, 6] hs (by decide) rfl
  obtain ⟨A5, R5, hsA, hsR, hdA, hbA, hup⟩ := Sep.call (L1 := [SL (α := Int) 3 (.slice a13 (List.length x9.2.1) c13) x9.2.1]) (L2 := [SL (α := D.Gate) 59 (.slice a12 (List.length x9.1.Gates) c12) x23.2.Gates, BX b4 28 [.int .i64 x9.1.Inputs, .slice a12 (List.length x9.1.Gates) c12], BX b2 28 [.int .i64 x5.1.Inputs, .slice a7 (List.length x5.1.Gates) c7], SL (α := D.Gate) 59 (.slice a7 (List.length x5.1.Gates) c7) x5.1.Gates, SL (α := Int) 3 (.slice a8 (List.length x5.2.1) c8) x5.2.1, BX b1 24 [.int .i64 p0.Inputs, .slice a1 (List.length p0.Gates) c1]]) hs hM0
  refine s_call [.slice a13 (List.length x9.2.1) c13, .int .i64 x23.1] Try.call29 rfl rfl hF rfl (laws_markIntS_ok n x9.2.1 x23.1 hx24 hsA hbA hdA) fun v w28 fr hRes hF => ?_
  obtain ⟨rfl, _, hp, hs⟩ := hRes
  obtain ⟨S22, hp, hs⟩ := hup hp hs
  have ra1 := ra1.stp hM0 hp
  have ra2 := ra2.stp hM0 hp
  have r1 := r1.stp hM0 hp
  have hM0 := hM0.stp hp
  have hs : Sep [SL (α := Int) 3 (.slice a13 (List.length x9.2.1) c13) x24.2, SL (α := D.Gate) 59 (.slice a12 (List.length x9.1.Gates) c12) x23.2.Gates, BX b4 28 [.int .i64 x9.1.Inputs, .slice a12 (List.length x9.1.Gates) c12], BX b2 28 [.int .i64 x5.1.Inputs, .slice a7 (List.length x5.1.Gates) c7], SL (α := D.Gate) 59 (.slice a7 (List.length x5.1.Gates) c7) x5.1.Gates, SL (α := Int) 3 (.slice a8 (List.length x5.2.1) c8) x5.2.1, BX b1 24 [.int .i64 p0.Inputs, .slice a1 (List.length p0.Gates) c1]] w28 S22 := hs
  refine from_pure 1 [(1, .slice a2 (List.length p1) c2), (2, .slice a3 (List.length p2) c3), (3, .int .i64 p3), (4, .pointer (some ⟨b1, 0, none⟩)), (10, .pointer (some ⟨b2, 0, none⟩)), (11, .slice a8 (List.length x5.2.1) c8), (12, .int .i64 x5.2.2.1), (13, .bool x5.2.2.2), (17, .pointer (some ⟨b4, 0, none⟩)), (18, .slice a13 (List.length x9.2.1) c13), (22, .int .i64 x24.1)] hF (by kernel_rfl) fun fr hF => ?_
  refine from_end rfl (then_normal ?_)
  refine wp_seq (wp_pure [(1, .slice a2 (List.length p1) c2), (2, .slice a3 (List.length p2) c3), (3, .int .i64 p3), (4, .pointer (some ⟨b1, 0, none⟩)), (10, .pointer (some ⟨b2, 0, none⟩)), (11, .slice a8 (List.length x5.2.1) c8), (12, .int .i64 x5.2.2.1), (13, .bool x5.2.2.2), (17, .pointer (some ⟨b4, 0, none⟩)), (18, .slice a13 (List.length x9.2.1) c13), (22, .int .i64 x24.1), (23, .int .i64 1)] hF (by kernel_rfl) fun fr hF => then_normal ?_)
  refine wp_seq (wp_text' ?_)
  refine s_loadBoxS ty28 rfl rfl hF rfl (hs.bx 2 rfl) rfl rfl fun fr hF => ?_
  refine from_pure 1 [(1, .slice a2 (List.length p1) c2), (2, .slice a3 (List.length p2) c3), (3, .int .i64 p3), (4, .pointer (some ⟨b1, 0, none⟩)), (10, .pointer (some ⟨b2, 0, none⟩)), (11, .slice a8 (List.length x5.2.1) c8), (12, .int .i64 x5.2.2.1), (13, .bool x5.2.2.2), (17, .pointer (some ⟨b4, 0, none⟩)), (18, .slice a13 (List.length x9.2.1) c13), (22, .int .i64 x24.1), (142, .agg #[.int .i64 x9.1.Inputs, .slice a12 (List.length x9.1.Gates) c12]), (143, .int .i64 1)] hF (by kernel_rfl) fun fr hF => ?_
  obtain ⟨x25, hx25, h⟩ := bindE h
  refine s_call [.agg #[.int .i64 x9.1.Inputs, .slice a12 (List.length x9.1.Gates) c12], .int .i64 1] Try.call18 rfl rfl hF rfl (laws_heldCircuit_ok n (D.Circuit.mk x9.1.Inputs x23.2.Gates) 1 hx25 (RV.mk_Circuit (D.Circuit.mk x9.1.Inputs x23.2.Gates) (RV.any (hs.rv 1 rfl)))) fun v w29 fr hRes hF => ?_
  obtain ⟨rfl, hc⟩ := hRes
  have ra1 := ra1.ext hc
  have ra2 := ra2.ext hc
  have r1 := r1.ext hc
  have hs := hs.ext hc
  have hM0 := hM0.ext hc
  refine from_pure 1 [(1, .slice a2 (List.length p1) c2), (2, .slice a3 (List.length p2) c3), (3, .int .i64 p3), (4, .pointer (some ⟨b1, 0, none⟩)), (10, .pointer (some ⟨b2, 0, none⟩)), (11, .slice a8 (List.length x5.2.1) c8), (12, .int .i64 x5.2.2.1), (13, .bool x5.2.2.2), (17, .pointer (some ⟨b4, 0, none⟩)), (18, .slice a13 (List.length x9.2.1) c13), (22, .int .i64 x24.1), (23, .int .i64 x25)] hF (by kernel_rfl) fun fr hF => ?_
  refine from_end rfl (then_normal ?_)
  refine wp_seq ?_
  refine wp_seq (wp_pure [(1, .slice a2 (List.length p1) c2), (2, .slice a3 (List.length p2) c3), (3, .int .i64 p3), (4, .pointer (some ⟨b1, 0, none⟩)), (10, .pointer (some ⟨b2, 0, none⟩)), (11, .slice a8 (List.length x5.2.1) c8), (12, .int .i64 x5.2.2.1), (13, .bool x5.2.2.2), (17, .pointer (some ⟨b4, 0, none⟩)), (18, .slice a13 (List.length x9.2.1) c13), (22, .int .i64 x24.1), (23, .int .i64 x25), (146, .bool (decide (x25 < 0)))] hF (by kernel_rfl) fun fr hF => then_normal ?_)
  refine (wp_if hF (b := (decide (x25 < 0))) rfl (fun hb => ?_) (fun hb => ?_))
  · replace h := iteT hb h
    have hs : Sep [] w29 S22 := Sep.pick [] hs (by decide) rfl
    refine wp_seq (wp_pure [(8, .bool false)] hF (by kernel_rfl) fun fr hF => then_normal ?_)
    obtain rfl := Option.some.inj h
    exact wp_ret (then_ret (ret1 rfl hF rfl ⟨_, rfl, rfl, hM0.chg⟩))
  replace h := iteF hb h
  refine (wp_skip (then_normal ?_))
  refine wp_seq (wp_text' ?_)
  refine from_pure 2 [(1, .slice a2 (List.length p1) c2), (2, .slice a3 (List.length p2) c3), (3, .int .i64 p3), (4, .pointer (some ⟨b1, 0, none⟩)), (10, .pointer (some ⟨b2, 0, none⟩)), (11, .slice a8 (List.length x5.2.1) c8), (12, .int .i64 x5.2.2.1), (13, .bool x5.2.2.2), (17, .pointer (some ⟨b4, 0, none⟩)), (18, .slice a13 (List.length x9.2.1) c13), (22, .int .i64 x24.1), (147, .slice a13 (List.length x9.2.1) c13), (148, .int .i64 x25)] hF (by kernel_rfl) fun fr hF => ?_
  obtain ⟨x26, hx26, h⟩ := bindE h
  refine s_call [.slice a13 (List.length x9.2.1) c13, .int .i64 x25] Try.call30 rfl rfl hF rfl (laws_heldIntS_ok n x24.2 x25 hx26 (hs.rv 0 rfl)) fun v w30 fr hRes hF => ?_
  obtain ⟨rfl, hc⟩ := hRes
  have ra1 := ra1.ext hc
  have ra2 := ra2.ext hc
  have r1 := r1.ext hc
  have hs := hs.ext hc
  have hM0 := hM0.ext hc
  refine from_pure 1 [(1, .slice a2 (List.length p1) c2), (2, .slice a3 (List.length p2) c3), (3, .int .i64 p3), (4, .pointer (some ⟨b1, 0, none⟩)), (10, .pointer (some ⟨b2, 0, none⟩)), (11, .slice a8 (List.length x5.2.1) c8), (12, .int .i64 x5.2.2.1), (13, .bool x5.2.2.2), (17, .pointer (some ⟨b4, 0, none⟩)), (18, .slice a13 (List.length x9.2.1) c13), (22, .int .i64 x24.1), (23, .int .i64 x26)] hF (by kernel_rfl) fun fr hF => ?_
  refine from_end rfl (then_normal ?_)
  refine wp_seq ?_
  refine wp_seq (wp_pure [(1, .slice a2 (List.length p1) c2), (2, .slice a3 (List.length p2) c3), (3, .int .i64 p3), (4, .pointer (some ⟨b1, 0, none⟩)), (10, .pointer (some ⟨b2, 0, none⟩)), (11, .slice a8 (List.length x5.2.1) c8), (12, .int .i64 x5.2.2.1), (13, .bool x5.2.2.2), (17, .pointer (some ⟨b4, 0, none⟩)), (18, .slice a13 (List.length x9.2.1) c13), (22, .int .i64 x24.1), (23, .int .i64 x26), (151, .bool (decide (x26 < 0)))] hF (by kernel_rfl) fun fr hF => then_normal ?_)
  refine (wp_if hF (b := (decide (x26 < 0))) rfl (fun hb => ?_) (fun hb => ?_))
  · replace h := iteT hb h
    have hs : Sep [] w30 S22 := Sep.pick [] hs (by decide) rfl
    refine wp_seq (wp_pure [(8, .bool false)] hF (by kernel_rfl) fun fr hF => then_normal ?_)
    obtain rfl := Option.some.inj h
    exact wp_ret (then_ret (ret1 rfl hF rfl ⟨_, rfl, rfl, hM0.chg⟩))
  replace h := iteF hb h
  refine (wp_skip (then_normal ?_))
  refine wp_seq ?_
  refine wp_seq (wp_pure [(1, .slice a2 (List.length p1) c2), (2, .slice a3 (List.length p2) c3), (3, .int .i64 p3), (4, .pointer (some ⟨b1, 0, none⟩)), (10, .pointer (some ⟨b2, 0, none⟩)), (11, .slice a8 (List.length x5.2.1) c8), (12, .int .i64 x5.2.2.1), (13, .bool x5.2.2.2), (17, .pointer (some ⟨b4, 0, none⟩)), (18, .slice a13 (List.length x9.2.1) c13), (22, .int .i64 x24.1), (154, .bool (x26 != x24.1))] hF (by kernel_rfl) fun fr hF => then_normal ?_)
  refine (wp_if hF (b := (x26 != x24.1)) rfl (fun hb => ?_) (fun hb => ?_))
  · replace h := iteT hb h
    have hs : Sep [] w30 S22 := Sep.pick [] hs (by decide) rfl
    refine wp_seq (wp_pure [(8, .bool false)] hF (by kernel_rfl) fun fr hF => then_normal ?_)
    obtain rfl := Option.some.inj h
    exact wp_ret (then_ret (ret1 rfl hF rfl ⟨_, rfl, rfl, hM0.chg⟩))
  replace h := iteF hb h
  refine (wp_skip (then_normal ?_))
  refine wp_seq (wp_text' ?_)
  refine s_loadBoxS ty24 rfl rfl hF rfl (hs.bx 6 rfl) rfl rfl fun fr hF => ?_
  have hs : Sep [SL (α := Int) 3 (.slice a13 (List.length x9.2.1) c13) x24.2, SL (α := D.Gate) 59 (.slice a12 (List.length x9.1.Gates) c12) x23.2.Gates, BX b4 28 [.int .i64 x9.1.Inputs, .slice a12 (List.length x9.1.Gates) c12], BX b2 28 [.int .i64 x5.1.Inputs, .slice a7 (List.length x5.1.Gates) c7], SL (α := D.Gate) 59 (.slice a7 (List.length x5.1.Gates) c7) x5.1.Gates, SL (α := Int) 3 (.slice a8 (List.length x5.2.1) c8) x5.2.1] w30 S22 := Sep.pick [0, 1, 2, 3, 4, 5] hs (by decide) rfl
  obtain ⟨x27, hx27, h⟩ := bindE h
  refine s_call [.agg #[.int .i64 p0.Inputs, .slice a1 (List.length p0.Gates) c1]] Try.call14 rfl rfl hF rfl (laws_toCircuit_ok n p0 hx27 (RV.mk_Circuit p0 (r1))) fun v w31 fr hRes hF => ?_
  obtain ⟨a16, c16, rfl, _, hp, hs2⟩ := hRes
  obtain ⟨S23, hp, hs⟩ := hs.got hM0 hp hs2
  have ra1 := ra1.stp hM0 hp
  have ra2 := ra2.stp hM0 hp
  have r1 := r1.stp hM0 hp
  have hM0 := hM0.stp hp
  have hs : Sep [SL (α := D.Gate) 59 (.slice a16 (List.length x27.Gates) c16) x27.Gates, SL (α := Int) 3 (.slice a13 (List.length x9.2.1) c13) x24.2, SL (α := D.Gate) 59 (.slice a12 (List.length x9.1.Gates) c12) x23.2.Gates, BX b4 28 [.int .i64 x9.1.Inputs, .slice a12 (List.length x9.1.Gates) c12], BX b2 28 [.int .i64 x5.1.Inputs, .slice a7 (List.length x5.1.Gates) c7], SL (α := D.Gate) 59 (.slice a7 (List.length x5.1.Gates) c7) x5.1.Gates, SL (α := Int) 3 (.slice a8 (List.length x5.2.1) c8) x5.2.1] w31 S23 := hs
  refine from_pure 1 [(2, .slice a3 (List.length p2) c3), (3, .int .i64 p3), (10, .pointer (some ⟨b2, 0, none⟩)), (11, .slice a8 (List.length x5.2.1) c8), (12, .int .i64 x5.2.2.1), (13, .bool x5.2.2.2), (17, .pointer (some ⟨b4, 0, none⟩)), (18, .slice a13 (List.length x9.2.1) c13), (22, .int .i64 x24.1), (157, .agg #[.int .i64 x27.Inputs, .slice a16 (List.length x27.Gates) c16]), (158, .slice a2 (List.length p1) c2)] hF (by kernel_rfl) fun fr hF => ?_
  obtain ⟨x28, hx28, h⟩ := bindE h
  refine s_call [.slice a2 (List.length p1) c2] Try.call26 rfl rfl hF rfl (laws_toIntS_ok n p1 hx28 (ra1)) fun v w32 fr hRes hF => ?_
  obtain ⟨a17, c17, rfl, _, hp, hs2⟩ := hRes
  obtain ⟨S24, hp, hs⟩ := hs.got hM0 hp hs2
  have ra2 := ra2.stp hM0 hp
  have ra1 := ra1.stp hM0 hp
  have hM0 := hM0.stp hp
  have hs : Sep [SL (α := Int) 3 (.slice a17 (List.length x28) c17) x28, SL (α := D.Gate) 59 (.slice a16 (List.length x27.Gates) c16) x27.Gates, SL (α := Int) 3 (.slice a13 (List.length x9.2.1) c13) x24.2, SL (α := D.Gate) 59 (.slice a12 (List.length x9.1.Gates) c12) x23.2.Gates, BX b4 28 [.int .i64 x9.1.Inputs, .slice a12 (List.length x9.1.Gates) c12], BX b2 28 [.int .i64 x5.1.Inputs, .slice a7 (List.length x5.1.Gates) c7], SL (α := D.Gate) 59 (.slice a7 (List.length x5.1.Gates) c7) x5.1.Gates, SL (α := Int) 3 (.slice a8 (List.length x5.2.1) c8) x5.2.1] w32 S24 := hs
  refine from_pure 1 [(3, .int .i64 p3), (10, .pointer (some ⟨b2, 0, none⟩)), (11, .slice a8 (List.length x5.2.1) c8), (12, .int .i64 x5.2.2.1), (13, .bool x5.2.2.2), (17, .pointer (some ⟨b4, 0, none⟩)), (18, .slice a13 (List.length x9.2.1) c13), (22, .int .i64 x24.1), (157, .agg #[.int .i64 x27.Inputs, .slice a16 (List.length x27.Gates) c16]), (159, .slice a17 (List.length x28) c17), (160, .slice a3 (List.length p2) c3)] hF (by kernel_rfl) fun fr hF => ?_
  obtain ⟨x29, hx29, h⟩ := bindE h
  refine s_call [.slice a3 (List.length p2) c3] Try.call26 rfl rfl hF rfl (laws_toIntS_ok n p2 hx29 (ra2)) fun v w33 fr hRes hF => ?_
  obtain ⟨a18, c18, rfl, _, hp, hs2⟩ := hRes
  obtain ⟨S25, hp, hs⟩ := hs.got hM0 hp hs2
  have ra2 := ra2.stp hM0 hp
  have hM0 := hM0.stp hp
  have hs : Sep [SL (α := Int) 3 (.slice a18 (List.length x29) c18) x29, SL (α := Int) 3 (.slice a17 (List.length x28) c17) x28, SL (α := D.Gate) 59 (.slice a16 (List.length x27.Gates) c16) x27.Gates, SL (α := Int) 3 (.slice a13 (List.length x9.2.1) c13) x24.2, SL (α := D.Gate) 59 (.slice a12 (List.length x9.1.Gates) c12) x23.2.Gates, BX b4 28 [.int .i64 x9.1.Inputs, .slice a12 (List.length x9.1.Gates) c12], BX b2 28 [.int .i64 x5.1.Inputs, .slice a7 (List.length x5.1.Gates) c7], SL (α := D.Gate) 59 (.slice a7 (List.length x5.1.Gates) c7) x5.1.Gates, SL (α := Int) 3 (.slice a8 (List.length x5.2.1) c8) x5.2.1] w33 S25 := hs
  refine from_pure 1 [(10, .pointer (some ⟨b2, 0, none⟩)), (11, .slice a8 (List.length x5.2.1) c8), (12, .int .i64 x5.2.2.1), (13, .bool x5.2.2.2), (17, .pointer (some ⟨b4, 0, none⟩)), (18, .slice a13 (List.length x9.2.1) c13), (22, .int .i64 x24.1), (157, .agg #[.int .i64 x27.Inputs, .slice a16 (List.length x27.Gates) c16]), (159, .slice a17 (List.length x28) c17), (161, .slice a18 (List.length x29) c18), (162, .int .i64 p3)] hF (by kernel_rfl) fun fr hF => ?_
  obtain ⟨x30, hx30, h⟩ := bindE h
  refine s_call [.agg #[.int .i64 x27.Inputs, .slice a16 (List.length x27.Gates) c16], .slice a17 (List.length x28) c17, .slice a18 (List.length x29) c18, .int .i64 p3] Try.call27 rfl rfl hF rfl (impl_AddLits_ok n x27 x28 x29 p3 hx30 (RV.mk_Circuit x27 (RV.any (hs.rv 2 rfl))) (hs.rv 1 rfl) (hs.rv 0 rfl)) fun v w34 fr hRes hF => ?_
  obtain ⟨a19, c19, a20, c20, rfl, _, hp, hs2⟩ := hRes
  obtain ⟨S26, hp, hs⟩ := hs.got hM0 hp hs2
  have hM0 := hM0.stp hp
  have hs : Sep [SL (α := D.Gate) 59 (.slice a19 (List.length x30.1.Gates) c19) x30.1.Gates, SL (α := Int) 3 (.slice a20 (List.length x30.2.1) c20) x30.2.1, SL (α := Int) 3 (.slice a18 (List.length x29) c18) x29, SL (α := Int) 3 (.slice a17 (List.length x28) c17) x28, SL (α := D.Gate) 59 (.slice a16 (List.length x27.Gates) c16) x27.Gates, SL (α := Int) 3 (.slice a13 (List.length x9.2.1) c13) x24.2, SL (α := D.Gate) 59 (.slice a12 (List.length x9.1.Gates) c12) x23.2.Gates, BX b4 28 [.int .i64 x9.1.Inputs, .slice a12 (List.length x9.1.Gates) c12], BX b2 28 [.int .i64 x5.1.Inputs, .slice a7 (List.length x5.1.Gates) c7], SL (α := D.Gate) 59 (.slice a7 (List.length x5.1.Gates) c7) x5.1.Gates, SL (α := Int) 3 (.slice a8 (List.length x5.2.1) c8) x5.2.1] w34 S26 := hs
  have hs : Sep [SL (α := D.Gate) 59 (.slice a19 (List.length x30.1.Gates) c19) x30.1.Gates, SL (α := Int) 3 (.slice a20 (List.length x30.2.1) c20) x30.2.1, SL (α := Int) 3 (.slice a13 (List.length x9.2.1) c13) x24.2, SL (α := D.Gate) 59 (.slice a12 (List.length x9.1.Gates) c12) x23.2.Gates, BX b4 28 [.int .i64 x9.1.Inputs, .slice a12 (List.length x9.1.Gates) c12], BX b2 28 [.int .i64 x5.1.Inputs, .slice a7 (List.length x5.1.Gates) c7], SL (α := D.Gate) 59 (.slice a7 (List.length x5.1.Gates) c7) x5.1.Gates, SL (α := Int) 3 (.slice a8 (List.length x5.2.1) c8) x5.2.1] w34 S26 := Sep.pick [0, 1, 5, 6, 7, 8, 9, 10] hs (by decide) rfl
  refine from_pure 5 [(10, .pointer (some ⟨b2, 0, none⟩)), (11, .slice a8 (List.length x5.2.1) c8), (12, .int .i64 x5.2.2.1), (13, .bool x5.2.2.2), (17, .pointer (some ⟨b4, 0, none⟩)), (18, .slice a13 (List.length x9.2.1) c13), (22, .int .i64 x24.1), (164, .agg #[.int .i64 x30.1.Inputs, .slice a19 (List.length x30.1.Gates) c19]), (165, .slice a20 (List.length x30.2.1) c20), (166, .int .i64 x30.2.2.1), (167, .bool x30.2.2.2)] hF (by kernel_rfl) fun fr hF => ?_
  refine q_alloc (z := .agg #[.int .i64 0, .slice none (List.length ([] : List D.Gate)) 0]) hs hM0 [.int .i64 0, .slice none (List.length ([] : List D.Gate)) 0] rfl rfl hF (by kernel_rfl) rfl fun b5 w35 S27 fr hs hp hF => ?_
  have hM0 := hM0.stp hp
  have hs : Sep [BX b5 28 [.int .i64 0, .slice none (List.length ([] : List D.Gate)) 0], SL (α := D.Gate) 59 (.slice a19 (List.length x30.1.Gates) c19) x30.1.Gates, SL (α := Int) 3 (.slice a20 (List.length x30.2.1) c20) x30.2.1, SL (α := Int) 3 (.slice a13 (List.length x9.2.1) c13) x24.2, SL (α := D.Gate) 59 (.slice a12 (List.length x9.1.Gates) c12) x23.2.Gates, BX b4 28 [.int .i64 x9.1.Inputs, .slice a12 (List.length x9.1.Gates) c12], BX b2 28 [.int .i64 x5.1.Inputs, .slice a7 (List.length x5.1.Gates) c7], SL (α := D.Gate) 59 (.slice a7 (List.length x5.1.Gates) c7) x5.1.Gates, SL (α := Int) 3 (.slice a8 (List.length x5.2.1) c8) x5.2.1] w35 S27 := hs
  refine q_storeBoxS 0 hs hM0 rfl [.int .i64 x30.1.Inputs, .slice a19 (List.length x30.1.Gates) c19] rfl hF rfl rfl (by kernel_rfl) rfl rfl rfl fun w36 S28 hs hp hF => ?_
  have hM0 := hM0.stp hp
  have hs : Sep [BX b5 28 [.int .i64 x30.1.Inputs, .slice a19 (List.length x30.1.Gates) c19], SL (α := D.Gate) 59 (.slice a19 (List.length x30.1.Gates) c19) x30.1.Gates, SL (α := Int) 3 (.slice a20 (List.length x30.2.1) c20) x30.2.1, SL (α := Int) 3 (.slice a13 (List.length x9.2.1) c13) x24.2, SL (α := D.Gate) 59 (.slice a12 (List.length x9.1.Gates) c12) x23.2.Gates, BX b4 28 [.int .i64 x9.1.Inputs, .slice a12 (List.length x9.1.Gates) c12], BX b2 28 [.int .i64 x5.1.Inputs, .slice a7 (List.length x5.1.Gates) c7], SL (α := D.Gate) 59 (.slice a7 (List.length x5.1.Gates) c7) x5.1.Gates, SL (α := Int) 3 (.slice a8 (List.length x5.2.1) c8) x5.2.1] w36 S28 := hs
  refine from_pure 3 [(10, .pointer (some ⟨b2, 0, none⟩)), (11, .slice a8 (List.length x5.2.1) c8), (12, .int .i64 x5.2.2.1), (13, .bool x5.2.2.2), (17, .pointer (some ⟨b4, 0, none⟩)), (18, .slice a13 (List.length x9.2.1) c13), (22, .int .i64 x24.1), (24, .pointer (some ⟨b5, 0, none⟩)), (25, .slice a20 (List.length x30.2.1) c20), (26, .int .i64 x30.2.2.1), (27, .bool x30.2.2.2)] hF (by kernel_rfl) fun fr hF => ?_
  refine from_end rfl (then_normal ?_)
  refine wp_seq ?_
  obtain ⟨x31, hx31, h⟩ := bindE h
  obtain ⟨x32, hx32, h⟩ := bindE h
  refine wp_seq (region_b [] [false, false, false, true, true, true, true, false, true, true, true, true, true, true, true, true, true, true, true, true]
      [.eq (.agg #[.int .i64 x30.1.Inputs, .slice a19 (List.length x30.1.Gates) c19]), .eq (.agg #[.int .i64 x5.1.Inputs, .slice a7 (List.length x5.1.Gates) c7]), .eq (.bool x31), .eq (.bool (!x31)), .eq (.bool (!x31)), .eq (.slice a20 (List.length x30.2.1) c20), .eq (.slice a8 (List.length x5.2.1) c8), .eq (.bool x32), .eq (.bool (!x32)), .eq (.bool ((!x31) || (!x32))), .eq (.bool ((!x31) || (!x32))), .eq (.int .i64 x30.2.2.1), .eq (.int .i64 x5.2.2.1), .eq (.bool (x30.2.2.1 != x5.2.2.1)), .eq (.bool (((!x31) || (!x32)) || (x30.2.2.1 != x5.2.2.1))), .eq (.bool (((!x31) || (!x32)) || (x30.2.2.1 != x5.2.2.1))), .eq (.bool x30.2.2.2), .eq (.bool x5.2.2.2), .eq (.bool (!(x30.2.2.2 == x5.2.2.2))), .eq (.bool ((((!x31) || (!x32)) || (x30.2.2.1 != x5.2.2.1)) || (!(x30.2.2.2 == x5.2.2.2))))]
      [(17, .pointer (some ⟨b4, 0, none⟩)), (18, .slice a13 (List.length x9.2.1) c13), (22, .int .i64 x24.1), (187, .bool ((((!x31) || (!x32)) || (x30.2.2.1 != x5.2.2.1)) || (!(x30.2.2.2 == x5.2.2.2))))] mix hF (by kernel_rfl) (by kernel_rfl) (by kernel_rfl) ⟨Pd.mono_eq, Pd.mono_eq, Pd.mono_eq, Pd.mono_eq, trivial⟩ (fun hG => ⟨np_loadBoxS hG hF ty28 rfl rfl (hs.bx 0 rfl) rfl rfl rfl rfl, np_loadBoxS hG hF ty28 rfl rfl (hs.bx 6 rfl) rfl rfl rfl rfl, np_call [.agg #[.int .i64 x30.1.Inputs, .slice a19 (List.length x30.1.Gates) c19], .agg #[.int .i64 x5.1.Inputs, .slice a7 (List.length x5.1.Gates) c7]] hG hF Try.call16 rfl rfl (fun w hC hg => (laws_eqCircuit_ok n x30.1 x5.1 hx31 ((RV.mk_Circuit x30.1 (RV.any (hs.rv 1 rfl))).ext hC) ((RV.mk_Circuit x5.1 (RV.any (hs.rv 7 rfl))).ext hC)).mono fun e w' ⟨v, he, hv, hc⟩ => ⟨v, he, hc, hv⟩), np_call [.slice a20 (List.length x30.2.1) c20, .slice a8 (List.length x5.2.1) c8] hG hF Try.call28 rfl rfl (fun w hC hg => (laws_eqIntS_ok n x30.2.1 x5.2.1 (iteF hg.2 hx32) ((hs.rv 2 rfl).ext hC) ((hs.rv 8 rfl).ext hC)).mono fun e w' ⟨v, he, hv, hc⟩ => ⟨v, he, hc, hv⟩), trivial⟩) (by kernel_rfl) fun fr w37 hF hE hc => then_normal ?_)
  have hs := hs.ext hc
  have hM0 := hM0.ext hc
  have hs : Sep [SL (α := Int) 3 (.slice a13 (List.length x9.2.1) c13) x24.2, SL (α := D.Gate) 59 (.slice a12 (List.length x9.1.Gates) c12) x23.2.Gates, BX b4 28 [.int .i64 x9.1.Inputs, .slice a12 (List.length x9.1.Gates) c12]] w37 S28 := Sep.pick [3, 4, 5] hs (by decide) rfl
  refine (wp_if hF (b := ((((!x31) || (!x32)) || (x30.2.2.1 != x5.2.2.1)) || (!(x30.2.2.2 == x5.2.2.2)))) rfl (fun hb => ?_) (fun hb => ?_))
  · replace h := iteT hb h
    have hs : Sep [] w37 S28 := Sep.pick [] hs (by decide) rfl
    refine wp_seq (wp_pure [(8, .bool false)] hF (by kernel_rfl) fun fr hF => then_normal ?_)
    obtain rfl := Option.some.inj h
    exact wp_ret (then_ret (ret1 rfl hF rfl ⟨_, rfl, rfl, hM0.chg⟩))
  replace h := iteF hb h
  refine (wp_skip (then_normal ?_))
  refine wp_seq (wp_pure [(17, .pointer (some ⟨b4, 0, none⟩)), (18, .slice a13 (List.length x9.2.1) c13), (22, .int .i64 x24.1), (23, .int .i64 1)] hF (by kernel_rfl) fun fr hF => then_normal ?_)
  refine wp_seq (wp_text' ?_)
  refine s_loadBoxS ty28 rfl rfl hF rfl (hs.bx 2 rfl) rfl rfl fun fr hF => ?_
  have hs : Sep [SL (α := Int) 3 (.slice a13 (List.length x9.2.1) c13) x24.2, SL (α := D.Gate) 59 (.slice a12 (List.length x9.1.Gates) c12) x23.2.Gates] w37 S28 := Sep.pick [0, 1] hs (by decide) rfl
  refine from_pure 1 [(18, .slice a13 (List.length x9.2.1) c13), (22, .int .i64 x24.1), (188, .agg #[.int .i64 x9.1.Inputs, .slice a12 (List.length x9.1.Gates) c12]), (189, .int .i64 1)] hF (by kernel_rfl) fun fr hF => ?_
  obtain ⟨x33, hx33, h⟩ := bindE h
  refine s_call [.agg #[.int .i64 x9.1.Inputs, .slice a12 (List.length x9.1.Gates) c12], .int .i64 1] Try.call18 rfl rfl hF rfl (laws_heldCircuit_ok n (D.Circuit.mk x9.1.Inputs x23.2.Gates) 1 hx33 (RV.mk_Circuit (D.Circuit.mk x9.1.Inputs x23.2.Gates) (RV.any (hs.rv 1 rfl)))) fun v w38 fr hRes hF => ?_
  obtain ⟨rfl, hc⟩ := hRes
  have hs := hs.ext hc
  have hM0 := hM0.ext hc
  have hs : Sep [SL (α := Int) 3 (.slice a13 (List.length x9.2.1) c13) x24.2] w38 S28 := Sep.pick [0] hs (by decide) rfl
  refine from_pure 1 [(18, .slice a13 (List.length x9.2.1) c13), (22, .int .i64 x24.1), (23, .int .i64 x33)] hF (by kernel_rfl) fun fr hF => ?_
  refine from_end rfl (then_normal ?_)
  refine wp_seq ?_
  refine wp_seq (wp_pure [(18, .slice a13 (List.length x9.2.1) c13), (22, .int .i64 x24.1), (23, .int .i64 x33), (192, .bool (decide (x33 < 0)))] hF (by kernel_rfl) fun fr hF => then_normal ?_)
  refine (wp_if hF (b := (decide (x33 < 0))) rfl (fun hb => ?_) (fun hb => ?_))
  · replace h := iteT hb h
    have hs : Sep [] w38 S28 := Sep.pick [] hs (by decide) rfl
    refine wp_seq (wp_pure [(8, .bool false)] hF (by kernel_rfl) fun fr hF => then_normal ?_)
    obtain rfl := Option.some.inj h
    exact wp_ret (then_ret (ret1 rfl hF rfl ⟨_, rfl, rfl, hM0.chg⟩))
  replace h := iteF hb h
  refine (wp_skip (then_normal ?_))
  refine wp_seq (wp_text' ?_)
  refine from_pure 2 [(22, .int .i64 x24.1), (193, .slice a13 (List.length x9.2.1) c13), (194, .int .i64 x33)] hF (by kernel_rfl) fun fr hF => ?_
  obtain ⟨x34, hx34, h⟩ := bindE h
  refine s_call [.slice a13 (List.length x9.2.1) c13, .int .i64 x33] Try.call30 rfl rfl hF rfl (laws_heldIntS_ok n x24.2 x33 hx34 (hs.rv 0 rfl)) fun v w39 fr hRes hF => ?_
  obtain ⟨rfl, hc⟩ := hRes
  have hs := hs.ext hc
  have hM0 := hM0.ext hc
  have hs : Sep [] w39 S28 := Sep.pick [] hs (by decide) rfl
  refine from_pure 1 [(22, .int .i64 x24.1), (23, .int .i64 x34)] hF (by kernel_rfl) fun fr hF => ?_
  refine from_end rfl (then_normal ?_)
  refine wp_seq ?_
  refine wp_seq (wp_pure [(22, .int .i64 x24.1), (23, .int .i64 x34), (197, .bool (decide (x34 < 0)))] hF (by kernel_rfl) fun fr hF => then_normal ?_)
  refine (wp_if hF (b := (decide (x34 < 0))) rfl (fun hb => ?_) (fun hb => ?_))
  · replace h := iteT hb h
    refine wp_seq (wp_pure [(8, .bool false)] hF (by kernel_rfl) fun fr hF => then_normal ?_)
    obtain rfl := Option.some.inj h
    exact wp_ret (then_ret (ret1 rfl hF rfl ⟨_, rfl, rfl, hM0.chg⟩))
  replace h := iteF hb h
  refine (wp_skip (then_normal ?_))
  refine wp_seq ?_
  refine wp_seq (wp_pure [(200, .bool (x34 != x24.1))] hF (by kernel_rfl) fun fr hF => then_normal ?_)
  refine (wp_if hF (b := (x34 != x24.1)) rfl (fun hb => ?_) (fun hb => ?_))
  · replace h := iteT hb h
    refine wp_seq (wp_pure [(8, .bool false)] hF (by kernel_rfl) fun fr hF => then_normal ?_)
    obtain rfl := Option.some.inj h
    exact wp_ret (then_ret (ret1 rfl hF rfl ⟨_, rfl, rfl, hM0.chg⟩))
  replace h := iteF hb h
  refine (wp_skip (then_normal ?_))
  refine wp_seq (wp_pure [(8, .bool true)] hF (by kernel_rfl) fun fr hF => then_normal ?_)
  obtain rfl := Option.some.inj h
  exact wp_ret (ret1 rfl hF rfl ⟨_, rfl, rfl, hM0.chg⟩)
end Go.Proofs.Ytckeihpjfeonmaa
