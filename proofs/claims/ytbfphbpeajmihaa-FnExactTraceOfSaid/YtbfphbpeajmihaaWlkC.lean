/- Printed by gen2.py: the walks. -/
import Derived.Test.YtbfphbpeajmihaaWlkB
set_option linter.unusedVariables false
set_option maxRecDepth 100000
namespace Go.Proofs.Ytbfphbpeajmihaa
open Go.GL Go.Maps Go.WideMaps
theorem impl_NewState_ok (n : Nat) (p0 : D.Program) {r : D.State} (h : impl_NewState n p0 = some r) {w : World} {G0 : Nat → Prop} {va0 : Value} (ra0 : RV w G0 va0 p0) :
    Calls Try.prog 13 [va0].toArray w fun e w' => ∃ v, e = .returned v ∧ ∃ a1 c1 a2 c2 a3 c3 a4 c4, v = .agg #[.int .i64 r.Pc, .slice a1 (List.length r.Regs) c1, .slice a2 (List.length r.Mem) c2, .slice a3 (List.length r.Stack) c3, .int .i64 r.In, .slice a4 (List.length r.Out) c4, .int .i64 r.Code, .int .i64 r.Steps] ∧ ∃ S', Stp w Non w' S' ∧ Sep [SL (α := Int) 3 (.slice a1 (List.length r.Regs) c1) r.Regs, SL (α := Int) 3 (.slice a2 (List.length r.Mem) c2) r.Mem, SL (α := Int) 3 (.slice a3 (List.length r.Stack) c3) r.Stack, SL (α := Int) 3 (.slice a4 (List.length r.Out) c4) r.Out] w' S' := by
  unfold impl_NewState at h
  have hs := Sep.nil w Non
  have hM0 : Mem w Non (fun k => (G0 k) ∧ k < w.heap.size) w Non (fun k => (G0 k) ∧ k < w.heap.size) := Mem.start (fun _ h => h.elim) (fun _ h => h.2) (fun _ h => h.elim)
  have ra0 := ra0.sub (F' := (fun k => (G0 k) ∧ k < w.heap.size)) (fun k hk h => ⟨h, hk⟩)
  obtain ⟨v1, rfl, r1⟩ := RV.Program ra0
  obtain ⟨a1, c1, rfl, -⟩ := r1.slice
  refine enter (N := 12) Try.func13 rfl Try.ntmps13 rfl fun fr hF => ?_
  refine wp_seq (wp_text' ?_)
  refine q_box hs hM0 [.int .i64 p0.W, .int .i64 p0.Mem, .int .i64 p0.In, .slice a1 (List.length p0.Code) c1] rfl rfl hF rfl rfl fun b1 w1 S1 fr hs hp hF => ?_
  have r1 := r1.stp hM0 hp
  have hM0 := hM0.stp hp
  have hs : Sep [BX b1 32 [.int .i64 p0.W, .int .i64 p0.Mem, .int .i64 p0.In, .slice a1 (List.length p0.Code) c1]] w1 S1 := hs
  refine q_alloc (z := .agg #[.int .i64 0, .slice none (List.length ([] : List Int)) 0, .slice none (List.length ([] : List Int)) 0, .slice none (List.length ([] : List Int)) 0, .int .i64 0, .slice none (List.length ([] : List Int)) 0, .int .i64 0, .int .i64 0]) hs hM0 [.int .i64 0, .slice none (List.length ([] : List Int)) 0, .slice none (List.length ([] : List Int)) 0, .slice none (List.length ([] : List Int)) 0, .int .i64 0, .slice none (List.length ([] : List Int)) 0, .int .i64 0, .int .i64 0] rfl rfl hF (by kernel_rfl) rfl fun b2 w2 S2 fr hs hp hF => ?_
  have r1 := r1.stp hM0 hp
  have hM0 := hM0.stp hp
  have hs : Sep [BX b2 28 [.int .i64 0, .slice none (List.length ([] : List Int)) 0, .slice none (List.length ([] : List Int)) 0, .slice none (List.length ([] : List Int)) 0, .int .i64 0, .slice none (List.length ([] : List Int)) 0, .int .i64 0, .int .i64 0], BX b1 32 [.int .i64 p0.W, .int .i64 p0.Mem, .int .i64 p0.In, .slice a1 (List.length p0.Code) c1]] w2 S2 := hs
  refine from_end rfl (then_normal ?_)
  refine wp_seq ?_
  refine wp_seq (wp_text' ?_)
  refine s_loadBoxS ty32 rfl rfl hF rfl (hs.bx 1 rfl) rfl rfl fun fr hF => ?_
  obtain ⟨x1, hx1, h⟩ := bindE h
  refine s_call [.agg #[.int .i64 p0.W, .int .i64 p0.Mem, .int .i64 p0.In, .slice a1 (List.length p0.Code) c1]] Try.call40 rfl rfl hF rfl (impl_ProgramOk_ok n p0 hx1 (RV.mk_Program p0 (r1))) fun v w3 fr hRes hF => ?_
  obtain ⟨rfl, hc⟩ := hRes
  have r1 := r1.ext hc
  have hs := hs.ext hc
  have hM0 := hM0.ext hc
  refine from_pure 1 [(1, .pointer (some ⟨b1, 0, none⟩)), (2, .pointer (some ⟨b2, 0, none⟩)), (5, .bool (!x1))] hF (by kernel_rfl) fun fr hF => ?_
  refine from_end rfl (then_normal ?_)
  refine (wp_if hF (b := (!x1)) rfl (fun hb => ?_) (fun hb => ?_))
  · replace h := iteT hb h
    have hs : Sep [BX b2 28 [.int .i64 0, .slice none (List.length ([] : List Int)) 0, .slice none (List.length ([] : List Int)) 0, .slice none (List.length ([] : List Int)) 0, .int .i64 0, .slice none (List.length ([] : List Int)) 0, .int .i64 0, .int .i64 0]] w3 S2 := Sep.pick [0] hs (by decide) rfl
    refine wp_seq (wp_text' ?_)
    refine from_pure 1 [(2, .pointer (some ⟨b2, 0, none⟩)), (6, .agg #[.int .i64 0, .slice none (List.length ([] : List Int)) 0, .slice none (List.length ([] : List Int)) 0, .slice none (List.length ([] : List Int)) 0, .int .i64 0, .slice none (List.length ([] : List Int)) 0, .int .i64 0, .int .i64 0])] hF (by kernel_rfl) fun fr hF => ?_
    refine q_storeBoxS 0 hs hM0 rfl [.int .i64 0, .slice none (List.length ([] : List Int)) 0, .slice none (List.length ([] : List Int)) 0, .slice none (List.length ([] : List Int)) 0, .int .i64 0, .slice none (List.length ([] : List Int)) 0, .int .i64 0, .int .i64 0] rfl hF rfl rfl (by kernel_rfl) rfl rfl rfl fun w4 S3 hs hp hF => ?_
    have hM0 := hM0.stp hp
    have hs : Sep [BX b2 28 [.int .i64 0, .slice none (List.length ([] : List Int)) 0, .slice none (List.length ([] : List Int)) 0, .slice none (List.length ([] : List Int)) 0, .int .i64 0, .slice none (List.length ([] : List Int)) 0, .int .i64 0, .int .i64 0]] w4 S3 := hs
    refine from_end rfl (then_normal ?_)
    have hbr := (hs.bx 0 rfl)
    have hs : Sep [SL (α := Int) 3 (.slice none (List.length ([] : List Int)) 0) ([] : List Int), BX b2 28 [.int .i64 0, .slice none (List.length ([] : List Int)) 0, .slice none (List.length ([] : List Int)) 0, .slice none (List.length ([] : List Int)) 0, .int .i64 0, .slice none (List.length ([] : List Int)) 0, .int .i64 0, .int .i64 0]] w4 S3 := hs.cons_nil (α := Int) 3
    have hs : Sep [SL (α := Int) 3 (.slice none (List.length ([] : List Int)) 0) ([] : List Int), SL (α := Int) 3 (.slice none (List.length ([] : List Int)) 0) ([] : List Int), BX b2 28 [.int .i64 0, .slice none (List.length ([] : List Int)) 0, .slice none (List.length ([] : List Int)) 0, .slice none (List.length ([] : List Int)) 0, .int .i64 0, .slice none (List.length ([] : List Int)) 0, .int .i64 0, .int .i64 0]] w4 S3 := hs.cons_nil (α := Int) 3
    have hs : Sep [SL (α := Int) 3 (.slice none (List.length ([] : List Int)) 0) ([] : List Int), SL (α := Int) 3 (.slice none (List.length ([] : List Int)) 0) ([] : List Int), SL (α := Int) 3 (.slice none (List.length ([] : List Int)) 0) ([] : List Int), BX b2 28 [.int .i64 0, .slice none (List.length ([] : List Int)) 0, .slice none (List.length ([] : List Int)) 0, .slice none (List.length ([] : List Int)) 0, .int .i64 0, .slice none (List.length ([] : List Int)) 0, .int .i64 0, .int .i64 0]] w4 S3 := hs.cons_nil (α := Int) 3
    have hs : Sep [SL (α := Int) 3 (.slice none (List.length ([] : List Int)) 0) ([] : List Int), SL (α := Int) 3 (.slice none (List.length ([] : List Int)) 0) ([] : List Int), SL (α := Int) 3 (.slice none (List.length ([] : List Int)) 0) ([] : List Int), SL (α := Int) 3 (.slice none (List.length ([] : List Int)) 0) ([] : List Int), BX b2 28 [.int .i64 0, .slice none (List.length ([] : List Int)) 0, .slice none (List.length ([] : List Int)) 0, .slice none (List.length ([] : List Int)) 0, .int .i64 0, .slice none (List.length ([] : List Int)) 0, .int .i64 0, .int .i64 0]] w4 S3 := hs.cons_nil (α := Int) 3
    obtain rfl := Option.some.inj h
    have hs : Sep [SL (α := Int) 3 (.slice none (List.length ([] : List Int)) 0) ([] : List Int), SL (α := Int) 3 (.slice none (List.length ([] : List Int)) 0) ([] : List Int), SL (α := Int) 3 (.slice none (List.length ([] : List Int)) 0) ([] : List Int), SL (α := Int) 3 (.slice none (List.length ([] : List Int)) 0) ([] : List Int)] w4 S3 := Sep.pick [3, 2, 1, 0] hs (by decide) rfl
    exact wp_ret (then_ret (retS rfl hF ty28 rfl rfl hbr rfl ⟨_, rfl, none, 0, none, 0, none, 0, none, 0, rfl, S3, hM0.out, hs⟩))
  replace h := iteF hb h
  refine (wp_skip (then_normal ?_))
  obtain ⟨x2, hx2, h⟩ := bindE h
  obtain ⟨x3, hx3, h⟩ := bindE h
  refine wp_seq (region_bm 4 [0, 0, 2, 6, 15, 31] [false, true, false, false]
      [.own fun ow v w => ∃ i : Option Addr × Nat, v = .slice i.1 (List.length x2) i.2 ∧ (SL (α := Int) 3 (.slice i.1 (List.length x2) i.2) x2).ok w (fun k => w3.heap.size ≤ k ∧ k < w.heap.size ∧ ow k = 0), .eq (.pointer (some ⟨b1, 1, none⟩)), .eq (.int .i64 p0.Mem), .own fun ow v w => ∃ i : Option Addr × Nat, v = .slice i.1 (List.length x3) i.2 ∧ (SL (α := Int) 3 (.slice i.1 (List.length x3) i.2) x3).ok w (fun k => w3.heap.size ≤ k ∧ k < w.heap.size ∧ ow k = 3), .any, .any]
      [(2, .pointer (some ⟨b2, 0, none⟩))] mix hF (by kernel_rfl) (by kernel_rfl) (by kernel_rfl) (by kernel_rfl) ⟨mono_new, Pd.monoO_eq, mono_new, trivial⟩ (fun ow hG => ⟨np_make hG hF Try.underlying26 el3 (fun w => zero_flat _ (by kernel_rfl)) rfl rfl rfl (fun hg => hx2) rfl, np_to ow (np_loadBox hG hF ty3 rfl rfl (hs.bx 1 rfl) rfl rfl rfl), np_make hG hF Try.underlying26 el3 (fun w => zero_flat _ (by kernel_rfl)) rfl rfl rfl (fun hg => hx3) rfl, trivial⟩) (by kernel_rfl) fun ow fr w5 hF hE hc => ?_)
  obtain ⟨⟨a2, c2⟩, hv, hnw0⟩ := hE.is 7 0 rfl rfl
  have hF := hF.cons hv
  obtain ⟨⟨a3, c3⟩, hv, hnw3⟩ := hE.is 10 3 rfl rfl
  have hF := hF.cons hv
  have hsN := sepO (w0 := w3) (ow := ow) [(0, SL (α := Int) 3 (.slice a2 (List.length x2) c2) x2), (3, SL (α := Int) 3 (.slice a3 (List.length x3) c3) x3)] (show ([0, 3] : List Nat).Nodup by decide) ⟨hnw0, hnw3, trivial⟩ rfl
  obtain ⟨S4, hp, hs⟩ := hs.got hM0 (stp_new hc) hsN
  have r1 := r1.stp hM0 hp
  have hM0 := hM0.stp hp
  have hs : Sep [SL (α := Int) 3 (.slice a2 (List.length x2) c2) x2, SL (α := Int) 3 (.slice a3 (List.length x3) c3) x3, BX b2 28 [.int .i64 0, .slice none (List.length ([] : List Int)) 0, .slice none (List.length ([] : List Int)) 0, .slice none (List.length ([] : List Int)) 0, .int .i64 0, .slice none (List.length ([] : List Int)) 0, .int .i64 0, .int .i64 0], BX b1 32 [.int .i64 p0.W, .int .i64 p0.Mem, .int .i64 p0.In, .slice a1 (List.length p0.Code) c1]] w5 S4 := hs
  have hs : Sep [SL (α := Int) 3 (.slice a2 (List.length x2) c2) x2, SL (α := Int) 3 (.slice a3 (List.length x3) c3) x3, BX b2 28 [.int .i64 0, .slice none (List.length ([] : List Int)) 0, .slice none (List.length ([] : List Int)) 0, .slice none (List.length ([] : List Int)) 0, .int .i64 0, .slice none (List.length ([] : List Int)) 0, .int .i64 0, .int .i64 0]] w5 S4 := Sep.pick [0, 1, 2] hs (by decide) rfl
  refine from_pure 1 [(2, .pointer (some ⟨b2, 0, none⟩)), (11, .agg #[.int .i64 0, .slice a2 (List.length x2) c2, .slice a3 (List.length x3) c3, .slice none (List.length ([] : List Int)) 0, .int .i64 0, .slice none (List.length ([] : List Int)) 0, .int .i64 0, .int .i64 0])] hF (by kernel_rfl) fun fr hF => ?_
  refine q_storeBoxS 2 hs hM0 rfl [.int .i64 0, .slice a2 (List.length x2) c2, .slice a3 (List.length x3) c3, .slice none (List.length ([] : List Int)) 0, .int .i64 0, .slice none (List.length ([] : List Int)) 0, .int .i64 0, .int .i64 0] rfl hF rfl rfl (by kernel_rfl) rfl rfl rfl fun w6 S5 hs hp hF => ?_
  have hM0 := hM0.stp hp
  have hs : Sep [SL (α := Int) 3 (.slice a2 (List.length x2) c2) x2, SL (α := Int) 3 (.slice a3 (List.length x3) c3) x3, BX b2 28 [.int .i64 0, .slice a2 (List.length x2) c2, .slice a3 (List.length x3) c3, .slice none (List.length ([] : List Int)) 0, .int .i64 0, .slice none (List.length ([] : List Int)) 0, .int .i64 0, .int .i64 0]] w6 S5 := hs
  refine from_end rfl (then_normal ?_)
  have hbr := (hs.bx 2 rfl)
  have hs : Sep [SL (α := Int) 3 (.slice none (List.length ([] : List Int)) 0) ([] : List Int), SL (α := Int) 3 (.slice a2 (List.length x2) c2) x2, SL (α := Int) 3 (.slice a3 (List.length x3) c3) x3, BX b2 28 [.int .i64 0, .slice a2 (List.length x2) c2, .slice a3 (List.length x3) c3, .slice none (List.length ([] : List Int)) 0, .int .i64 0, .slice none (List.length ([] : List Int)) 0, .int .i64 0, .int .i64 0]] w6 S5 := hs.cons_nil (α := Int) 3
  have hs : Sep [SL (α := Int) 3 (.slice none (List.length ([] : List Int)) 0) ([] : List Int), SL (α := Int) 3 (.slice none (List.length ([] : List Int)) 0) ([] : List Int), SL (α := Int) 3 (.slice a2 (List.length x2) c2) x2, SL (α := Int) 3 (.slice a3 (List.length x3) c3) x3, BX b2 28 [.int .i64 0, .slice a2 (List.length x2) c2, .slice a3 (List.length x3) c3, .slice none (List.length ([] : List Int)) 0, .int .i64 0, .slice none (List.length ([] : List Int)) 0, .int .i64 0, .int .i64 0]] w6 S5 := hs.cons_nil (α := Int) 3
  obtain rfl := Option.some.inj h
  have hs : Sep [SL (α := Int) 3 (.slice a2 (List.length x2) c2) x2, SL (α := Int) 3 (.slice a3 (List.length x3) c3) x3, SL (α := Int) 3 (.slice none (List.length ([] : List Int)) 0) ([] : List Int), SL (α := Int) 3 (.slice none (List.length ([] : List Int)) 0) ([] : List Int)] w6 S5 := Sep.pick [2, 3, 1, 0] hs (by decide) rfl
  exact wp_ret (retS rfl hF ty28 rfl rfl hbr rfl ⟨_, rfl, a2, c2, a3, c3, none, 0, none, 0, rfl, S5, hM0.out, hs⟩)

theorem impl_State_moves_ok (p0 : D.State) {r : Bool} (h : impl_State_moves p0 = some r) {w : World} {pa0 : Option Addr} {pn0 pc0 : Nat} {pa1 : Option Addr} {pn1 pc1 : Nat} {pa2 : Option Addr} {pn2 pc2 : Nat} {pa3 : Option Addr} {pn3 pc3 : Nat} {G0 : Nat → Prop} {pb0 : Nat} (hb0 : FB w G0 pb0 28 [.int .i64 p0.Pc, .slice pa0 pn0 pc0, .slice pa1 pn1 pc1, .slice pa2 pn2 pc2, .int .i64 p0.In, .slice pa3 pn3 pc3, .int .i64 p0.Code, .int .i64 p0.Steps]) (ra0_0 : RV w G0 (.slice pa0 pn0 pc0) p0.Regs) (ra0_1 : RV w G0 (.slice pa1 pn1 pc1) p0.Mem) (ra0_2 : RV w G0 (.slice pa2 pn2 pc2) p0.Stack) (ra0_3 : RV w G0 (.slice pa3 pn3 pc3) p0.Out) :
    Calls Try.prog 54 [.pointer (some ⟨pb0, 0, none⟩)].toArray w fun e w' => ∃ v, e = .returned v ∧ v = .bool r ∧ Chg Non w w' := by
  unfold impl_State_moves at h
  have hpn := ra0_0.len; subst hpn
  have hpn := ra0_1.len; subst hpn
  have hpn := ra0_2.len; subst hpn
  have hpn := ra0_3.len; subst hpn
  have hs := Sep.nil w Non
  have hM0 : Mem w Non (fun k => (G0 k) ∧ k < w.heap.size) w Non (fun k => (G0 k) ∧ k < w.heap.size) := Mem.start (fun _ h => h.elim) (fun _ h => h.2) (fun _ h => h.elim)
  have hb0 := hb0.sub (F' := (fun k => (G0 k) ∧ k < w.heap.size)) (fun k hk h => ⟨h, hk⟩)
  have ra0_0 := ra0_0.sub (F' := (fun k => (G0 k) ∧ k < w.heap.size)) (fun k hk h => ⟨h, hk⟩)
  have ra0_1 := ra0_1.sub (F' := (fun k => (G0 k) ∧ k < w.heap.size)) (fun k hk h => ⟨h, hk⟩)
  have ra0_2 := ra0_2.sub (F' := (fun k => (G0 k) ∧ k < w.heap.size)) (fun k hk h => ⟨h, hk⟩)
  have ra0_3 := ra0_3.sub (F' := (fun k => (G0 k) ∧ k < w.heap.size)) (fun k hk h => ⟨h, hk⟩)
  refine enter (N := 15) Try.func54 rfl Try.ntmps54 rfl fun fr hF => ?_
  refine wp_seq (wp_pure [(0, .pointer (some ⟨pb0, 0, none⟩))] hF (by kernel_rfl) fun fr hF => then_normal ?_)
  refine wp_seq (region_b [] [true, true, true, false, true, true, true, true, true, false, true, true, true]
      [.eq (.pointer (some ⟨pb0, 0, none⟩)), .eq (.pointer (some ⟨pb0, 0, none⟩)), .eq (.pointer (some ⟨pb0, 6, none⟩)), .eq (.int .i64 p0.Code), .eq (.bool (p0.Code == 0)), .eq (.bool (p0.Code == 0)), .eq (.pointer (some ⟨pb0, 0, none⟩)), .eq (.pointer (some ⟨pb0, 0, none⟩)), .eq (.pointer (some ⟨pb0, 7, none⟩)), .eq (.int .i64 p0.Steps), .eq (.bool (decide (p0.Steps < 400))), .eq (.bool ((p0.Code == 0) && (decide (p0.Steps < 400)))), .eq (.bool ((p0.Code == 0) && (decide (p0.Steps < 400))))]
      [(2, .bool ((p0.Code == 0) && (decide (p0.Steps < 400))))] mix hF (by kernel_rfl) (by kernel_rfl) (by kernel_rfl) ⟨Pd.mono_eq, Pd.mono_eq, trivial⟩ (fun hG => ⟨np_loadBox hG hF ty3 rfl rfl hb0.1 rfl rfl rfl, np_loadBox hG hF ty3 rfl rfl hb0.1 rfl rfl rfl, trivial⟩) (by kernel_rfl) fun fr w1 hF hE hc => then_normal ?_)
  have hb0 := hb0.ext hc
  have ra0_0 := ra0_0.ext hc
  have ra0_1 := ra0_1.ext hc
  have ra0_2 := ra0_2.ext hc
  have ra0_3 := ra0_3.ext hc
  have hs := hs.ext hc
  have hM0 := hM0.ext hc
  obtain rfl := Option.some.inj h
  exact wp_ret (ret1 rfl hF rfl ⟨_, rfl, rfl, hM0.chg⟩)

theorem impl_State_trouble_ok (p0 : D.State) (p1 : D.Program) (p2 : D.Ins) (p3 : List Int) {r : Int} (h : impl_State_trouble p0 p1 p2 p3 = some r) {w : World} {pa0 : Option Addr} {pn0 pc0 : Nat} {pa1 : Option Addr} {pn1 pc1 : Nat} {pa2 : Option Addr} {pn2 pc2 : Nat} {pa3 : Option Addr} {pn3 pc3 : Nat} {G0 : Nat → Prop} {pb0 : Nat} (hb0 : FB w G0 pb0 28 [.int .i64 p0.Pc, .slice pa0 pn0 pc0, .slice pa1 pn1 pc1, .slice pa2 pn2 pc2, .int .i64 p0.In, .slice pa3 pn3 pc3, .int .i64 p0.Code, .int .i64 p0.Steps]) (ra0_0 : RV w G0 (.slice pa0 pn0 pc0) p0.Regs) (ra0_1 : RV w G0 (.slice pa1 pn1 pc1) p0.Mem) (ra0_2 : RV w G0 (.slice pa2 pn2 pc2) p0.Stack) (ra0_3 : RV w G0 (.slice pa3 pn3 pc3) p0.Out) {G1 : Nat → Prop} {va1 : Value} (ra1 : RV w G1 va1 p1) {G3 : Nat → Prop} {va3 : Value} (ra3 : RV w G3 va3 p3) :
    Calls Try.prog 71 [.pointer (some ⟨pb0, 0, none⟩), va1, .agg #[.int .i64 p2.Op, .int .i64 p2.A, .int .i64 p2.B, .int .i64 p2.C], va3].toArray w fun e w' => ∃ v, e = .returned v ∧ v = .int .i64 r ∧ Chg Non w w' := by
  unfold impl_State_trouble at h
  have hpn := ra0_0.len; subst hpn
  have hpn := ra0_1.len; subst hpn
  have hpn := ra0_2.len; subst hpn
  have hpn := ra0_3.len; subst hpn
  have hs := Sep.nil w Non
  have hM0 : Mem w Non (fun k => (G0 k ∨ G1 k ∨ G3 k) ∧ k < w.heap.size) w Non (fun k => (G0 k ∨ G1 k ∨ G3 k) ∧ k < w.heap.size) := Mem.start (fun _ h => h.elim) (fun _ h => h.2) (fun _ h => h.elim)
  have ra1 := ra1.sub (F' := (fun k => (G0 k ∨ G1 k ∨ G3 k) ∧ k < w.heap.size)) (fun k hk h => ⟨.inr (.inl h), hk⟩)
  obtain ⟨v1, rfl, r1⟩ := RV.Program ra1
  obtain ⟨a1, c1, rfl, -⟩ := r1.slice
  have ra3 := ra3.sub (F' := (fun k => (G0 k ∨ G1 k ∨ G3 k) ∧ k < w.heap.size)) (fun k hk h => ⟨.inr (.inr (h)), hk⟩)
  obtain ⟨a2, c2, rfl, -⟩ := ra3.slice
  have hb0 := hb0.sub (F' := (fun k => (G0 k ∨ G1 k ∨ G3 k) ∧ k < w.heap.size)) (fun k hk h => ⟨.inl h, hk⟩)
  have ra0_0 := ra0_0.sub (F' := (fun k => (G0 k ∨ G1 k ∨ G3 k) ∧ k < w.heap.size)) (fun k hk h => ⟨.inl h, hk⟩)
  have ra0_1 := ra0_1.sub (F' := (fun k => (G0 k ∨ G1 k ∨ G3 k) ∧ k < w.heap.size)) (fun k hk h => ⟨.inl h, hk⟩)
  have ra0_2 := ra0_2.sub (F' := (fun k => (G0 k ∨ G1 k ∨ G3 k) ∧ k < w.heap.size)) (fun k hk h => ⟨.inl h, hk⟩)
  have ra0_3 := ra0_3.sub (F' := (fun k => (G0 k ∨ G1 k ∨ G3 k) ∧ k < w.heap.size)) (fun k hk h => ⟨.inl h, hk⟩)
  refine enter (N := 102) Try.func71 rfl Try.ntmps71 rfl fun fr hF => ?_
  refine wp_seq (wp_text' ?_)
  refine q_box hs hM0 [.int .i64 p1.W, .int .i64 p1.Mem, .int .i64 p1.In, .slice a1 (List.length p1.Code) c1] rfl rfl hF rfl rfl fun b1 w1 S1 fr hs hp hF => ?_
  have r1 := r1.stp hM0 hp
  have ra3 := ra3.stp hM0 hp
  have hb0 := hb0.stp hM0 hp
  have ra0_0 := ra0_0.stp hM0 hp
  have ra0_1 := ra0_1.stp hM0 hp
  have ra0_2 := ra0_2.stp hM0 hp
  have ra0_3 := ra0_3.stp hM0 hp
  have hM0 := hM0.stp hp
  have hs : Sep [BX b1 32 [.int .i64 p1.W, .int .i64 p1.Mem, .int .i64 p1.In, .slice a1 (List.length p1.Code) c1]] w1 S1 := hs
  refine q_box hs hM0 [.int .i64 p2.Op, .int .i64 p2.A, .int .i64 p2.B, .int .i64 p2.C] rfl rfl hF rfl rfl fun b2 w2 S2 fr hs hp hF => ?_
  have ra3 := ra3.stp hM0 hp
  have r1 := r1.stp hM0 hp
  have hb0 := hb0.stp hM0 hp
  have ra0_0 := ra0_0.stp hM0 hp
  have ra0_1 := ra0_1.stp hM0 hp
  have ra0_2 := ra0_2.stp hM0 hp
  have ra0_3 := ra0_3.stp hM0 hp
  have hM0 := hM0.stp hp
  have hs : Sep [BX b2 66 [.int .i64 p2.Op, .int .i64 p2.A, .int .i64 p2.B, .int .i64 p2.C], BX b1 32 [.int .i64 p1.W, .int .i64 p1.Mem, .int .i64 p1.In, .slice a1 (List.length p1.Code) c1]] w2 S2 := hs
  refine from_pure 1 [(0, .pointer (some ⟨pb0, 0, none⟩)), (3, .slice a2 (List.length p3) c2), (5, .pointer (some ⟨b1, 0, none⟩)), (6, .pointer (some ⟨b2, 0, none⟩))] hF (by kernel_rfl) fun fr hF => ?_
  refine from_end rfl (then_normal ?_)
  refine wp_seq ?_
  refine wp_seq (wp_text' ?_)
  refine from_pure 1 [(0, .pointer (some ⟨pb0, 0, none⟩)), (3, .slice a2 (List.length p3) c2), (5, .pointer (some ⟨b1, 0, none⟩)), (6, .pointer (some ⟨b2, 0, none⟩)), (9, .pointer (some ⟨b2, 0, none⟩))] hF (by kernel_rfl) fun fr hF => ?_
  refine s_loadBox (.int .i64 p2.Op) ty3 rfl rfl hF rfl (hs.bx 0 rfl) rfl rfl fun fr hF => ?_
  refine from_end rfl (then_normal ?_)
  refine (wp_block ?_)
  refine wp_seq (wp_pure [(0, .pointer (some ⟨pb0, 0, none⟩)), (3, .slice a2 (List.length p3) c2), (5, .pointer (some ⟨b1, 0, none⟩)), (6, .pointer (some ⟨b2, 0, none⟩)), (10, .int .i64 p2.Op), (11, .bool (p2.Op == 5))] hF (by kernel_rfl) fun fr hF => then_normal ?_)
  refine (wp_if hF (b := (p2.Op == 5)) rfl (fun hb => ?_) (fun hb => ?_))
  · replace h := iteT hb h
    have hs : Sep [] w2 S2 := Sep.pick [] hs (by decide) rfl
    refine wp_seq (wp_text' ?_)
    refine from_pure 3 [(3, .slice a2 (List.length p3) c2), (15, .pointer (some ⟨pb0, 4, none⟩))] hF (by kernel_rfl) fun fr hF => ?_
    refine s_loadBox (.int .i64 p0.In) ty3 rfl rfl hF rfl hb0.1 rfl rfl fun fr hF => ?_
    refine from_pure 3 [(19, .bool (decide (p0.In ≥ (len p3))))] hF (by kernel_rfl) fun fr hF => ?_
    refine from_end rfl (then_normal ?_)
    refine (wp_if hF (b := (decide (p0.In ≥ (len p3)))) rfl (fun hb => ?_) (fun hb => ?_))
    · replace h := iteT hb h
      refine wp_seq (wp_pure [(8, .int .i64 3)] hF (by kernel_rfl) fun fr hF => then_normal ?_)
      obtain rfl := Option.some.inj h
      exact wp_ret (blk_ret (then_ret (ret1 rfl hF rfl ⟨_, rfl, rfl, hM0.chg⟩)))
    replace h := iteF hb h
    refine (wp_skip ?_)
    refine blk_normal (then_normal ?_)
    refine wp_seq (wp_pure [(8, .int .i64 0)] hF (by kernel_rfl) fun fr hF => then_normal ?_)
    obtain rfl := Option.some.inj h
    exact wp_ret (ret1 rfl hF rfl ⟨_, rfl, rfl, hM0.chg⟩)
  replace h := iteF hb h
  refine wp_seq (wp_pure [(0, .pointer (some ⟨pb0, 0, none⟩)), (5, .pointer (some ⟨b1, 0, none⟩)), (6, .pointer (some ⟨b2, 0, none⟩)), (10, .int .i64 p2.Op), (20, .bool (p2.Op == 6))] hF (by kernel_rfl) fun fr hF => then_normal ?_)
  refine (wp_if hF (b := (p2.Op == 6)) rfl (fun hb => ?_) (fun hb => ?_))
  · replace h := iteT hb h
    have hs : Sep [] w2 S2 := Sep.pick [] hs (by decide) rfl
    refine wp_seq (wp_text' ?_)
    refine from_pure 3 [(24, .pointer (some ⟨pb0, 5, none⟩))] hF (by kernel_rfl) fun fr hF => ?_
    refine s_loadBox (.slice pa3 (List.length p0.Out) pc3) ty26 rfl rfl hF rfl hb0.1 rfl rfl fun fr hF => ?_
    refine from_pure 2 [(27, .bool (decide ((len p0.Out) ≥ 6)))] hF (by kernel_rfl) fun fr hF => ?_
    refine from_end rfl (then_normal ?_)
    refine (wp_if hF (b := (decide ((len p0.Out) ≥ 6))) rfl (fun hb => ?_) (fun hb => ?_))
    · replace h := iteT hb h
      refine wp_seq (wp_pure [(8, .int .i64 4)] hF (by kernel_rfl) fun fr hF => then_normal ?_)
      obtain rfl := Option.some.inj h
      exact wp_ret (blk_ret (then_ret (ret1 rfl hF rfl ⟨_, rfl, rfl, hM0.chg⟩)))
    replace h := iteF hb h
    refine (wp_skip ?_)
    refine blk_normal (then_normal ?_)
    refine wp_seq (wp_pure [(8, .int .i64 0)] hF (by kernel_rfl) fun fr hF => then_normal ?_)
    obtain rfl := Option.some.inj h
    exact wp_ret (ret1 rfl hF rfl ⟨_, rfl, rfl, hM0.chg⟩)
  replace h := iteF hb h
  refine wp_seq (wp_pure [(0, .pointer (some ⟨pb0, 0, none⟩)), (5, .pointer (some ⟨b1, 0, none⟩)), (6, .pointer (some ⟨b2, 0, none⟩)), (10, .int .i64 p2.Op), (28, .bool (p2.Op == 7))] hF (by kernel_rfl) fun fr hF => then_normal ?_)
  refine (wp_if hF (b := (p2.Op == 7)) rfl (fun hb => ?_) (fun hb => ?_))
  · replace h := iteT hb h
    obtain ⟨x1, hx1, h⟩ := bindE h
    refine wp_seq (region_bm 11 [0, 1, 3, 7, 0, 16, 63, 127, 0, 256, 1023] [true, true, true, false, true, false, false, false, true, false, true]
        [.eq (.pointer (some ⟨pb0, 0, none⟩)), .eq (.pointer (some ⟨pb0, 0, none⟩)), .eq (.pointer (some ⟨pb0, 1, none⟩)), .eq (.slice pa0 (List.length p0.Regs) pc0), .eq (.pointer (some ⟨b2, 2, none⟩)), .eq (.int .i64 p2.B), .is fun v w => ElemP w (fun k => k < w2.heap.size) v (x1 : Int), .eq (.int .i64 x1), .eq (.pointer (some ⟨b1, 1, none⟩)), .eq (.int .i64 p1.Mem), .eq (.bool (decide (x1 ≥ p1.Mem)))]
        [(40, .bool (decide (x1 ≥ p1.Mem)))] mix hF (by kernel_rfl) (by kernel_rfl) (by kernel_rfl) (by kernel_rfl) ⟨Pd.monoO_eq, Pd.monoO_eq, (Pd.monoO_is mono_elem), Pd.monoO_eq, Pd.monoO_eq, trivial⟩ (fun ow hG => ⟨np_to ow (np_loadBox hG hF ty26 rfl rfl hb0.1 rfl rfl rfl), np_to ow (np_loadBox hG hF ty3 rfl rfl (hs.bx 0 rfl) rfl rfl rfl), np_to ow (np_index hG hF ty3 Try.underlying26 rfl rfl (RV.sub (ra0_0) fun k hk _ => hk) rfl rfl (fun hg => ⟨get?_nn hx1, get?_at hx1⟩)), np_to ow (np_loadF (z := x1) (i := 6) hG hF ty3 rfl rfl rfl rfl rfl rfl rfl), np_to ow (np_loadBox hG hF ty3 rfl rfl (hs.bx 1 rfl) rfl rfl rfl), trivial⟩) (by kernel_rfl) fun ow fr w3 hF hE hc => ?_)
    have ra0_0 := ra0_0.ext hc
    have r1 := r1.ext hc
    have hb0 := hb0.ext hc
    have ra0_1 := ra0_1.ext hc
    have ra0_2 := ra0_2.ext hc
    have ra0_3 := ra0_3.ext hc
    have hs := hs.ext hc
    have hM0 := hM0.ext hc
    have hs : Sep [] w3 S2 := Sep.pick [] hs (by decide) rfl
    refine from_end rfl (then_normal ?_)
    refine (wp_if hF (b := (decide (x1 ≥ p1.Mem))) rfl (fun hb => ?_) (fun hb => ?_))
    · replace h := iteT hb h
      refine wp_seq (wp_pure [(8, .int .i64 5)] hF (by kernel_rfl) fun fr hF => then_normal ?_)
      obtain rfl := Option.some.inj h
      exact wp_ret (blk_ret (then_ret (ret1 rfl hF rfl ⟨_, rfl, rfl, hM0.chg⟩)))
    replace h := iteF hb h
    refine (wp_skip ?_)
    refine blk_normal (then_normal ?_)
    refine wp_seq (wp_pure [(8, .int .i64 0)] hF (by kernel_rfl) fun fr hF => then_normal ?_)
    obtain rfl := Option.some.inj h
    exact wp_ret (ret1 rfl hF rfl ⟨_, rfl, rfl, hM0.chg⟩)
  replace h := iteF hb h
  refine wp_seq (wp_pure [(0, .pointer (some ⟨pb0, 0, none⟩)), (5, .pointer (some ⟨b1, 0, none⟩)), (6, .pointer (some ⟨b2, 0, none⟩)), (10, .int .i64 p2.Op), (41, .bool (p2.Op == 8))] hF (by kernel_rfl) fun fr hF => then_normal ?_)
  refine (wp_if hF (b := (p2.Op == 8)) rfl (fun hb => ?_) (fun hb => ?_))
  · replace h := iteT hb h
    obtain ⟨x2, hx2, h⟩ := bindE h
    refine wp_seq (region_bm 11 [0, 1, 3, 7, 0, 16, 63, 127, 0, 256, 1023] [true, true, true, false, true, false, false, false, true, false, true]
        [.eq (.pointer (some ⟨pb0, 0, none⟩)), .eq (.pointer (some ⟨pb0, 0, none⟩)), .eq (.pointer (some ⟨pb0, 1, none⟩)), .eq (.slice pa0 (List.length p0.Regs) pc0), .eq (.pointer (some ⟨b2, 1, none⟩)), .eq (.int .i64 p2.A), .is fun v w => ElemP w (fun k => k < w2.heap.size) v (x2 : Int), .eq (.int .i64 x2), .eq (.pointer (some ⟨b1, 1, none⟩)), .eq (.int .i64 p1.Mem), .eq (.bool (decide (x2 ≥ p1.Mem)))]
        [(53, .bool (decide (x2 ≥ p1.Mem)))] mix hF (by kernel_rfl) (by kernel_rfl) (by kernel_rfl) (by kernel_rfl) ⟨Pd.monoO_eq, Pd.monoO_eq, (Pd.monoO_is mono_elem), Pd.monoO_eq, Pd.monoO_eq, trivial⟩ (fun ow hG => ⟨np_to ow (np_loadBox hG hF ty26 rfl rfl hb0.1 rfl rfl rfl), np_to ow (np_loadBox hG hF ty3 rfl rfl (hs.bx 0 rfl) rfl rfl rfl), np_to ow (np_index hG hF ty3 Try.underlying26 rfl rfl (RV.sub (ra0_0) fun k hk _ => hk) rfl rfl (fun hg => ⟨get?_nn hx2, get?_at hx2⟩)), np_to ow (np_loadF (z := x2) (i := 6) hG hF ty3 rfl rfl rfl rfl rfl rfl rfl), np_to ow (np_loadBox hG hF ty3 rfl rfl (hs.bx 1 rfl) rfl rfl rfl), trivial⟩) (by kernel_rfl) fun ow fr w4 hF hE hc => ?_)
    have ra0_0 := ra0_0.ext hc
    have r1 := r1.ext hc
    have hb0 := hb0.ext hc
    have ra0_1 := ra0_1.ext hc
    have ra0_2 := ra0_2.ext hc
    have ra0_3 := ra0_3.ext hc
    have hs := hs.ext hc
    have hM0 := hM0.ext hc
    have hs : Sep [] w4 S2 := Sep.pick [] hs (by decide) rfl
    refine from_end rfl (then_normal ?_)
    refine (wp_if hF (b := (decide (x2 ≥ p1.Mem))) rfl (fun hb => ?_) (fun hb => ?_))
    · replace h := iteT hb h
      refine wp_seq (wp_pure [(8, .int .i64 5)] hF (by kernel_rfl) fun fr hF => then_normal ?_)
      obtain rfl := Option.some.inj h
      exact wp_ret (blk_ret (then_ret (ret1 rfl hF rfl ⟨_, rfl, rfl, hM0.chg⟩)))
    replace h := iteF hb h
    refine (wp_skip ?_)
    refine blk_normal (then_normal ?_)
    refine wp_seq (wp_pure [(8, .int .i64 0)] hF (by kernel_rfl) fun fr hF => then_normal ?_)
    obtain rfl := Option.some.inj h
    exact wp_ret (ret1 rfl hF rfl ⟨_, rfl, rfl, hM0.chg⟩)
  replace h := iteF hb h
  have hs : Sep [BX b2 66 [.int .i64 p2.Op, .int .i64 p2.A, .int .i64 p2.B, .int .i64 p2.C]] w2 S2 := Sep.pick [0] hs (by decide) rfl
  refine wp_seq (wp_pure [(0, .pointer (some ⟨pb0, 0, none⟩)), (6, .pointer (some ⟨b2, 0, none⟩)), (10, .int .i64 p2.Op), (54, .bool (p2.Op == 3))] hF (by kernel_rfl) fun fr hF => then_normal ?_)
  refine (wp_if hF (b := (p2.Op == 3)) rfl (fun hb => ?_) (fun hb => ?_))
  · replace h := iteT hb h
    obtain ⟨x3, hx3, h⟩ := bindE h
    refine wp_seq (region_bm 19 [0, 1, 3, 7, 15, 31, 63, 127, 255, 511, 1023, 2047, 4095, 511, 8703, 32767, 65535, 131071, 262143] [true, false, true, true, true, false, true, true, true, true, true, true, false, true, false, false, false, true, true]
        [.eq (.pointer (some ⟨b2, 3, none⟩)), .eq (.int .i64 p2.C), .eq (.bool (p2.C == 6)), .eq (.bool (p2.C == 6)), .eq (.pointer (some ⟨b2, 3, none⟩)), .eq (.int .i64 p2.C), .eq (.bool (p2.C == 7)), .eq (.bool ((p2.C == 6) || (p2.C == 7))), .eq (.bool ((p2.C == 6) || (p2.C == 7))), .eq (.pointer (some ⟨pb0, 0, none⟩)), .eq (.pointer (some ⟨pb0, 0, none⟩)), .eq (.pointer (some ⟨pb0, 1, none⟩)), .eq (.slice pa0 (List.length p0.Regs) pc0), .eq (.pointer (some ⟨b2, 2, none⟩)), .eq (.int .i64 p2.B), .is fun v w => ElemP w (fun k => k < w2.heap.size) v (x3 : Int), .eq (.int .i64 x3), .eq (.bool (x3 == 0)), .eq (.bool (((p2.C == 6) || (p2.C == 7)) && (x3 == 0)))]
        [(74, .bool (((p2.C == 6) || (p2.C == 7)) && (x3 == 0)))] mix hF (by kernel_rfl) (by kernel_rfl) (by kernel_rfl) (by kernel_rfl) ⟨Pd.monoO_eq, Pd.monoO_eq, Pd.monoO_eq, Pd.monoO_eq, (Pd.monoO_is mono_elem), Pd.monoO_eq, trivial⟩ (fun ow hG => ⟨np_to ow (np_loadBox hG hF ty3 rfl rfl (hs.bx 0 rfl) rfl rfl rfl), np_to ow (np_loadBox hG hF ty3 rfl rfl (hs.bx 0 rfl) rfl rfl rfl), np_to ow (np_loadBox hG hF ty26 rfl rfl hb0.1 rfl rfl rfl), np_to ow (np_loadBox hG hF ty3 rfl rfl (hs.bx 0 rfl) rfl rfl rfl), np_to ow (np_index hG hF ty3 Try.underlying26 rfl rfl (RV.sub (ra0_0) fun k hk _ => hk) rfl rfl (fun hg => ⟨get?_nn (iteT hg.2 hx3), get?_at (iteT hg.2 hx3)⟩)), np_to ow (np_loadF (z := x3) (i := 15) hG hF ty3 rfl rfl rfl rfl rfl rfl rfl), trivial⟩) (by kernel_rfl) fun ow fr w5 hF hE hc => ?_)
    have ra0_0 := ra0_0.ext hc
    have hb0 := hb0.ext hc
    have ra0_1 := ra0_1.ext hc
    have ra0_2 := ra0_2.ext hc
    have ra0_3 := ra0_3.ext hc
    have hs := hs.ext hc
    have hM0 := hM0.ext hc
    have hs : Sep [] w5 S2 := Sep.pick [] hs (by decide) rfl
    refine from_end rfl (then_normal ?_)
    refine (wp_if hF (b := (((p2.C == 6) || (p2.C == 7)) && (x3 == 0))) rfl (fun hb => ?_) (fun hb => ?_))
    · replace h := iteT hb h
      refine wp_seq (wp_pure [(8, .int .i64 6)] hF (by kernel_rfl) fun fr hF => then_normal ?_)
      obtain rfl := Option.some.inj h
      exact wp_ret (blk_ret (then_ret (ret1 rfl hF rfl ⟨_, rfl, rfl, hM0.chg⟩)))
    replace h := iteF hb h
    refine (wp_skip ?_)
    refine blk_normal (then_normal ?_)
    refine wp_seq (wp_pure [(8, .int .i64 0)] hF (by kernel_rfl) fun fr hF => then_normal ?_)
    obtain rfl := Option.some.inj h
    exact wp_ret (ret1 rfl hF rfl ⟨_, rfl, rfl, hM0.chg⟩)
  replace h := iteF hb h
  refine wp_seq (wp_pure [(0, .pointer (some ⟨pb0, 0, none⟩)), (6, .pointer (some ⟨b2, 0, none⟩)), (10, .int .i64 p2.Op), (75, .bool (p2.Op == 11))] hF (by kernel_rfl) fun fr hF => then_normal ?_)
  refine (wp_if hF (b := (p2.Op == 11)) rfl (fun hb => ?_) (fun hb => ?_))
  · replace h := iteT hb h
    have hs : Sep [] w2 S2 := Sep.pick [] hs (by decide) rfl
    refine wp_seq (wp_text' ?_)
    refine from_pure 3 [(79, .pointer (some ⟨pb0, 3, none⟩))] hF (by kernel_rfl) fun fr hF => ?_
    refine s_loadBox (.slice pa2 (List.length p0.Stack) pc2) ty26 rfl rfl hF rfl hb0.1 rfl rfl fun fr hF => ?_
    refine from_pure 2 [(82, .bool (decide ((len p0.Stack) ≥ 3)))] hF (by kernel_rfl) fun fr hF => ?_
    refine from_end rfl (then_normal ?_)
    refine (wp_if hF (b := (decide ((len p0.Stack) ≥ 3))) rfl (fun hb => ?_) (fun hb => ?_))
    · replace h := iteT hb h
      refine wp_seq (wp_pure [(8, .int .i64 7)] hF (by kernel_rfl) fun fr hF => then_normal ?_)
      obtain rfl := Option.some.inj h
      exact wp_ret (blk_ret (then_ret (ret1 rfl hF rfl ⟨_, rfl, rfl, hM0.chg⟩)))
    replace h := iteF hb h
    refine (wp_skip ?_)
    refine blk_normal (then_normal ?_)
    refine wp_seq (wp_pure [(8, .int .i64 0)] hF (by kernel_rfl) fun fr hF => then_normal ?_)
    obtain rfl := Option.some.inj h
    exact wp_ret (ret1 rfl hF rfl ⟨_, rfl, rfl, hM0.chg⟩)
  replace h := iteF hb h
  refine wp_seq (wp_pure [(0, .pointer (some ⟨pb0, 0, none⟩)), (6, .pointer (some ⟨b2, 0, none⟩)), (10, .int .i64 p2.Op), (83, .bool (p2.Op == 12))] hF (by kernel_rfl) fun fr hF => then_normal ?_)
  refine (wp_if hF (b := (p2.Op == 12)) rfl (fun hb => ?_) (fun hb => ?_))
  · replace h := iteT hb h
    have hs : Sep [] w2 S2 := Sep.pick [] hs (by decide) rfl
    refine wp_seq (wp_text' ?_)
    refine from_pure 3 [(87, .pointer (some ⟨pb0, 3, none⟩))] hF (by kernel_rfl) fun fr hF => ?_
    refine s_loadBox (.slice pa2 (List.length p0.Stack) pc2) ty26 rfl rfl hF rfl hb0.1 rfl rfl fun fr hF => ?_
    refine from_pure 2 [(90, .bool ((len p0.Stack) == 0))] hF (by kernel_rfl) fun fr hF => ?_
    refine from_end rfl (then_normal ?_)
    refine (wp_if hF (b := ((len p0.Stack) == 0)) rfl (fun hb => ?_) (fun hb => ?_))
    · replace h := iteT hb h
      refine wp_seq (wp_pure [(8, .int .i64 7)] hF (by kernel_rfl) fun fr hF => then_normal ?_)
      obtain rfl := Option.some.inj h
      exact wp_ret (blk_ret (then_ret (ret1 rfl hF rfl ⟨_, rfl, rfl, hM0.chg⟩)))
    replace h := iteF hb h
    refine (wp_skip ?_)
    refine blk_normal (then_normal ?_)
    refine wp_seq (wp_pure [(8, .int .i64 0)] hF (by kernel_rfl) fun fr hF => then_normal ?_)
    obtain rfl := Option.some.inj h
    exact wp_ret (ret1 rfl hF rfl ⟨_, rfl, rfl, hM0.chg⟩)
  replace h := iteF hb h
  refine wp_seq (wp_pure [(0, .pointer (some ⟨pb0, 0, none⟩)), (6, .pointer (some ⟨b2, 0, none⟩)), (91, .bool (p2.Op == 13))] hF (by kernel_rfl) fun fr hF => then_normal ?_)
  refine (wp_if hF (b := (p2.Op == 13)) rfl (fun hb => ?_) (fun hb => ?_))
  · replace h := iteT hb h
    obtain ⟨x4, hx4, h⟩ := bindE h
    refine wp_seq (region_bm 9 [0, 1, 3, 7, 0, 16, 63, 127, 255] [true, true, true, false, true, false, false, false, true]
        [.eq (.pointer (some ⟨pb0, 0, none⟩)), .eq (.pointer (some ⟨pb0, 0, none⟩)), .eq (.pointer (some ⟨pb0, 1, none⟩)), .eq (.slice pa0 (List.length p0.Regs) pc0), .eq (.pointer (some ⟨b2, 1, none⟩)), .eq (.int .i64 p2.A), .is fun v w => ElemP w (fun k => k < w2.heap.size) v (x4 : Int), .eq (.int .i64 x4), .eq (.bool (x4 == 0))]
        [(101, .bool (x4 == 0))] mix hF (by kernel_rfl) (by kernel_rfl) (by kernel_rfl) (by kernel_rfl) ⟨Pd.monoO_eq, Pd.monoO_eq, (Pd.monoO_is mono_elem), Pd.monoO_eq, trivial⟩ (fun ow hG => ⟨np_to ow (np_loadBox hG hF ty26 rfl rfl hb0.1 rfl rfl rfl), np_to ow (np_loadBox hG hF ty3 rfl rfl (hs.bx 0 rfl) rfl rfl rfl), np_to ow (np_index hG hF ty3 Try.underlying26 rfl rfl (RV.sub (ra0_0) fun k hk _ => hk) rfl rfl (fun hg => ⟨get?_nn hx4, get?_at hx4⟩)), np_to ow (np_loadF (z := x4) (i := 6) hG hF ty3 rfl rfl rfl rfl rfl rfl rfl), trivial⟩) (by kernel_rfl) fun ow fr w6 hF hE hc => ?_)
    have ra0_0 := ra0_0.ext hc
    have hb0 := hb0.ext hc
    have ra0_1 := ra0_1.ext hc
    have ra0_2 := ra0_2.ext hc
    have ra0_3 := ra0_3.ext hc
    have hs := hs.ext hc
    have hM0 := hM0.ext hc
    have hs : Sep [] w6 S2 := Sep.pick [] hs (by decide) rfl
    refine from_end rfl (then_normal ?_)
    refine (wp_if hF (b := (x4 == 0)) rfl (fun hb => ?_) (fun hb => ?_))
    · replace h := iteT hb h
      refine wp_seq (wp_pure [(8, .int .i64 8)] hF (by kernel_rfl) fun fr hF => then_normal ?_)
      obtain rfl := Option.some.inj h
      exact wp_ret (blk_ret (then_ret (ret1 rfl hF rfl ⟨_, rfl, rfl, hM0.chg⟩)))
    replace h := iteF hb h
    refine (wp_skip ?_)
    refine blk_normal (then_normal ?_)
    refine wp_seq (wp_pure [(8, .int .i64 0)] hF (by kernel_rfl) fun fr hF => then_normal ?_)
    obtain rfl := Option.some.inj h
    exact wp_ret (ret1 rfl hF rfl ⟨_, rfl, rfl, hM0.chg⟩)
  replace h := iteF hb h
  have hs : Sep [] w2 S2 := Sep.pick [] hs (by decide) rfl
  refine (wp_skip ?_)
  refine blk_normal (then_normal ?_)
  refine wp_seq (wp_pure [(8, .int .i64 0)] hF (by kernel_rfl) fun fr hF => then_normal ?_)
  obtain rfl := Option.some.inj h
  exact wp_ret (ret1 rfl hF rfl ⟨_, rfl, rfl, hM0.chg⟩)

theorem impl_WordOf_ok (p0 : Int) (p1 : Int) {r : Int} (h : impl_WordOf p0 p1 = some r) {w : World} :
    Calls Try.prog 86 [.int .i64 p0, .int .i64 p1].toArray w fun e w' => ∃ v, e = .returned v ∧ v = .int .i64 r ∧ Chg Non w w' := by
  unfold impl_WordOf at h
  have hs := Sep.nil w Non
  have hM0 : Mem w Non (fun k => (False) ∧ k < w.heap.size) w Non (fun k => (False) ∧ k < w.heap.size) := Mem.start (fun _ h => h.elim) (fun _ h => h.2) (fun _ h => h.elim)
  refine enter (N := 14) Try.func86 rfl Try.ntmps86 rfl fun fr hF => ?_
  refine wp_seq (wp_pure [(0, .int .i64 p0), (1, .int .i64 p1)] hF (by kernel_rfl) fun fr hF => then_normal ?_)
  refine wp_seq ?_
  refine wp_seq (wp_text' ?_)
  refine from_pure 1 [(0, .int .i64 p0), (1, .int .i64 p1), (5, .int .i64 p0)] hF (by kernel_rfl) fun fr hF => ?_
  obtain ⟨x1, hx1, h⟩ := bindE h
  refine s_call [.int .i64 p0] Try.call76 rfl rfl hF rfl (impl_isWidth_ok p0 hx1) fun v w1 fr hRes hF => ?_
  obtain ⟨rfl, hc⟩ := hRes
  have hs := hs.ext hc
  have hM0 := hM0.ext hc
  refine from_pure 1 [(0, .int .i64 p0), (1, .int .i64 p1), (7, .bool (!x1))] hF (by kernel_rfl) fun fr hF => ?_
  refine from_end rfl (then_normal ?_)
  refine (wp_if hF (b := (!x1)) rfl (fun hb => ?_) (fun hb => ?_))
  · replace h := iteT hb h
    refine wp_seq (wp_pure [(4, .int .i64 (-1))] hF (by kernel_rfl) fun fr hF => then_normal ?_)
    obtain rfl := Option.some.inj h
    exact wp_ret (then_ret (ret1 rfl hF rfl ⟨_, rfl, rfl, hM0.chg⟩))
  replace h := iteF hb h
  refine (wp_skip (then_normal ?_))
  refine wp_seq (wp_text' ?_)
  refine from_pure 3 [(8, .int .i64 p1), (10, .int .u64 (IntKind.u64.wrap p0))] hF (by kernel_rfl) fun fr hF => ?_
  obtain ⟨x2, hx2, h⟩ := bindE h
  refine s_shl rfl rfl hF rfl rfl hx2 fun fr hF => ?_
  refine from_pure 3 [(4, .int .i64 (band p1 (w64 (x2 - 1))))] hF (by kernel_rfl) fun fr hF => ?_
  refine from_end rfl (then_normal ?_)
  obtain rfl := Option.some.inj h
  exact wp_ret (ret1 rfl hF rfl ⟨_, rfl, rfl, hM0.chg⟩)

theorem impl_SignedOf_ok (p0 : Int) (p1 : Int) {r : Int} (h : impl_SignedOf p0 p1 = some r) {w : World} :
    Calls Try.prog 89 [.int .i64 p0, .int .i64 p1].toArray w fun e w' => ∃ v, e = .returned v ∧ v = .int .i64 r ∧ Chg Non w w' := by
  unfold impl_SignedOf at h
  have hs := Sep.nil w Non
  have hM0 : Mem w Non (fun k => (False) ∧ k < w.heap.size) w Non (fun k => (False) ∧ k < w.heap.size) := Mem.start (fun _ h => h.elim) (fun _ h => h.2) (fun _ h => h.elim)
  refine enter (N := 21) Try.func89 rfl Try.ntmps89 rfl fun fr hF => ?_
  refine wp_seq (wp_pure [(0, .int .i64 p0), (1, .int .i64 p1)] hF (by kernel_rfl) fun fr hF => then_normal ?_)
  refine wp_seq ?_
  refine wp_seq (wp_text' ?_)
  refine from_pure 2 [(0, .int .i64 p0), (1, .int .i64 p1), (5, .int .i64 p0), (6, .int .i64 p1)] hF (by kernel_rfl) fun fr hF => ?_
  obtain ⟨x1, hx1, h⟩ := bindE h
  refine s_call [.int .i64 p0, .int .i64 p1] Try.call61 rfl rfl hF rfl (impl_WordOk_ok p0 p1 hx1) fun v w1 fr hRes hF => ?_
  obtain ⟨rfl, hc⟩ := hRes
  have hs := hs.ext hc
  have hM0 := hM0.ext hc
  refine from_pure 1 [(0, .int .i64 p0), (1, .int .i64 p1), (8, .bool (!x1))] hF (by kernel_rfl) fun fr hF => ?_
  refine from_end rfl (then_normal ?_)
  refine (wp_if hF (b := (!x1)) rfl (fun hb => ?_) (fun hb => ?_))
  · replace h := iteT hb h
    refine wp_seq (wp_pure [(4, .int .i64 0)] hF (by kernel_rfl) fun fr hF => then_normal ?_)
    obtain rfl := Option.some.inj h
    exact wp_ret (then_ret (ret1 rfl hF rfl ⟨_, rfl, rfl, hM0.chg⟩))
  replace h := iteF hb h
  refine (wp_skip (then_normal ?_))
  refine wp_seq ?_
  refine wp_seq (wp_text' ?_)
  refine from_pure 4 [(0, .int .i64 p0), (1, .int .i64 p1), (9, .int .i64 p1), (12, .int .u64 (IntKind.u64.wrap (w64 (p0 - 1))))] hF (by kernel_rfl) fun fr hF => ?_
  obtain ⟨x2, hx2, h⟩ := bindE h
  refine s_shr rfl rfl hF rfl rfl hx2 fun fr hF => ?_
  refine from_pure 1 [(0, .int .i64 p0), (1, .int .i64 p1), (14, .bool (x2 == 0))] hF (by kernel_rfl) fun fr hF => ?_
  refine from_end rfl (then_normal ?_)
  refine (wp_if hF (b := (x2 == 0)) rfl (fun hb => ?_) (fun hb => ?_))
  · replace h := iteT hb h
    refine wp_seq (wp_pure [(4, .int .i64 p1)] hF (by kernel_rfl) fun fr hF => then_normal ?_)
    obtain rfl := Option.some.inj h
    exact wp_ret (then_ret (ret1 rfl hF rfl ⟨_, rfl, rfl, hM0.chg⟩))
  replace h := iteF hb h
  refine (wp_skip (then_normal ?_))
  refine wp_seq (wp_text' ?_)
  refine from_pure 3 [(16, .int .i64 p1), (18, .int .u64 (IntKind.u64.wrap p0))] hF (by kernel_rfl) fun fr hF => ?_
  obtain ⟨x3, hx3, h⟩ := bindE h
  refine s_shl rfl rfl hF rfl rfl hx3 fun fr hF => ?_
  refine from_pure 2 [(4, .int .i64 (w64 (p1 - x3)))] hF (by kernel_rfl) fun fr hF => ?_
  refine from_end rfl (then_normal ?_)
  obtain rfl := Option.some.inj h
  exact wp_ret (ret1 rfl hF rfl ⟨_, rfl, rfl, hM0.chg⟩)

theorem impl_shiftWord_ok (p0 : Int) (p1 : Int) (p2 : Int) (p3 : Int) {r : Int} (h : impl_shiftWord p0 p1 p2 p3 = some r) {w : World} :
    Calls Try.prog 87 [.int .i64 p0, .int .i64 p1, .int .i64 p2, .int .i64 p3].toArray w fun e w' => ∃ v, e = .returned v ∧ v = .int .i64 r ∧ Chg Non w w' := by
  unfold impl_shiftWord at h
  have hs := Sep.nil w Non
  have hM0 : Mem w Non (fun k => (False) ∧ k < w.heap.size) w Non (fun k => (False) ∧ k < w.heap.size) := Mem.start (fun _ h => h.elim) (fun _ h => h.2) (fun _ h => h.elim)
  refine enter (N := 37) Try.func87 rfl Try.ntmps87 rfl fun fr hF => ?_
  refine wp_seq (wp_pure [(0, .int .i64 p0), (1, .int .i64 p1), (2, .int .i64 p2), (3, .int .i64 p3)] hF (by kernel_rfl) fun fr hF => then_normal ?_)
  refine wp_seq ?_
  refine wp_seq (wp_pure [(0, .int .i64 p0), (1, .int .i64 p1), (2, .int .i64 p2), (3, .int .i64 p3), (10, .bool (p0 == 13))] hF (by kernel_rfl) fun fr hF => then_normal ?_)
  refine (wp_if hF (b := (p0 == 13)) rfl (fun hb => ?_) (fun hb => ?_))
  · replace h := iteT hb h
    refine wp_seq (wp_text' ?_)
    refine from_pure 3 [(1, .int .i64 p1), (3, .int .i64 p3), (11, .int .i64 p1), (12, .int .i64 p1), (13, .int .i64 p2)] hF (by kernel_rfl) fun fr hF => ?_
    obtain ⟨x1, hx1, h⟩ := bindE h
    refine s_call [.int .i64 p1, .int .i64 p2] Try.call89 rfl rfl hF rfl (impl_SignedOf_ok p1 p2 hx1) fun v w1 fr hRes hF => ?_
    obtain ⟨rfl, hc⟩ := hRes
    have hs := hs.ext hc
    have hM0 := hM0.ext hc
    refine from_pure 5 [(11, .int .i64 p1), (14, .int .i64 x1), (19, .int .u64 (IntKind.u64.wrap (imin p3 (w64 (p1 - 1)))))] hF (by kernel_rfl) fun fr hF => ?_
    obtain ⟨x2, hx2, h⟩ := bindE h
    refine s_shr rfl rfl hF rfl rfl hx2 fun fr hF => ?_
    obtain ⟨x3, hx3, h⟩ := bindE h
    refine s_call [.int .i64 p1, .int .i64 x2] Try.call86 rfl rfl hF rfl (impl_WordOf_ok p1 x2 hx3) fun v w2 fr hRes hF => ?_
    obtain ⟨rfl, hc⟩ := hRes
    have hs := hs.ext hc
    have hM0 := hM0.ext hc
    refine from_pure 1 [(8, .int .i64 x3)] hF (by kernel_rfl) fun fr hF => ?_
    refine from_end rfl (then_normal ?_)
    obtain rfl := Option.some.inj h
    exact wp_ret (then_ret (ret1 rfl hF rfl ⟨_, rfl, rfl, hM0.chg⟩))
  replace h := iteF hb h
  refine (wp_skip (then_normal ?_))
  refine wp_seq ?_
  refine wp_seq (wp_pure [(0, .int .i64 p0), (1, .int .i64 p1), (2, .int .i64 p2), (3, .int .i64 p3), (24, .bool (decide (p3 ≥ p1)))] hF (by kernel_rfl) fun fr hF => then_normal ?_)
  refine (wp_if hF (b := (decide (p3 ≥ p1))) rfl (fun hb => ?_) (fun hb => ?_))
  · replace h := iteT hb h
    refine wp_seq (wp_pure [(8, .int .i64 0)] hF (by kernel_rfl) fun fr hF => then_normal ?_)
    obtain rfl := Option.some.inj h
    exact wp_ret (then_ret (ret1 rfl hF rfl ⟨_, rfl, rfl, hM0.chg⟩))
  replace h := iteF hb h
  refine (wp_skip (then_normal ?_))
  refine wp_seq ?_
  refine wp_seq (wp_pure [(1, .int .i64 p1), (2, .int .i64 p2), (3, .int .i64 p3), (26, .bool (p0 == 11))] hF (by kernel_rfl) fun fr hF => then_normal ?_)
  refine (wp_if hF (b := (p0 == 11)) rfl (fun hb => ?_) (fun hb => ?_))
  · replace h := iteT hb h
    refine wp_seq (wp_text' ?_)
    refine from_pure 4 [(27, .int .i64 p1), (28, .int .i64 p2), (30, .int .u64 (IntKind.u64.wrap p3))] hF (by kernel_rfl) fun fr hF => ?_
    obtain ⟨x4, hx4, h⟩ := bindE h
    refine s_shl rfl rfl hF rfl rfl hx4 fun fr hF => ?_
    obtain ⟨x5, hx5, h⟩ := bindE h
    refine s_call [.int .i64 p1, .int .i64 x4] Try.call86 rfl rfl hF rfl (impl_WordOf_ok p1 x4 hx5) fun v w3 fr hRes hF => ?_
    obtain ⟨rfl, hc⟩ := hRes
    have hs := hs.ext hc
    have hM0 := hM0.ext hc
    refine from_pure 1 [(8, .int .i64 x5)] hF (by kernel_rfl) fun fr hF => ?_
    refine from_end rfl (then_normal ?_)
    obtain rfl := Option.some.inj h
    exact wp_ret (then_ret (ret1 rfl hF rfl ⟨_, rfl, rfl, hM0.chg⟩))
  replace h := iteF hb h
  refine (wp_skip (then_normal ?_))
  refine wp_seq (wp_text' ?_)
  refine from_pure 3 [(33, .int .i64 p2), (35, .int .u64 (IntKind.u64.wrap p3))] hF (by kernel_rfl) fun fr hF => ?_
  obtain ⟨x6, hx6, h⟩ := bindE h
  refine s_shr rfl rfl hF rfl rfl hx6 fun fr hF => ?_
  refine from_pure 1 [(8, .int .i64 x6)] hF (by kernel_rfl) fun fr hF => ?_
  refine from_end rfl (then_normal ?_)
  obtain rfl := Option.some.inj h
  exact wp_ret (ret1 rfl hF rfl ⟨_, rfl, rfl, hM0.chg⟩)

theorem impl_boolWord_ok (p0 : Bool) {r : Int} (h : impl_boolWord p0 = some r) {w : World} :
    Calls Try.prog 88 [.bool p0].toArray w fun e w' => ∃ v, e = .returned v ∧ v = .int .i64 r ∧ Chg Non w w' := by
  unfold impl_boolWord at h
  have hs := Sep.nil w Non
  have hM0 : Mem w Non (fun k => (False) ∧ k < w.heap.size) w Non (fun k => (False) ∧ k < w.heap.size) := Mem.start (fun _ h => h.elim) (fun _ h => h.2) (fun _ h => h.elim)
  refine enter (N := 4) Try.func88 rfl Try.ntmps88 rfl fun fr hF => ?_
  refine wp_seq (wp_pure [(0, .bool p0)] hF (by kernel_rfl) fun fr hF => then_normal ?_)
  refine wp_seq ?_
  refine wp_seq (wp_pure [(3, .bool p0)] hF (by kernel_rfl) fun fr hF => then_normal ?_)
  refine (wp_if hF (b := p0) rfl (fun hb => ?_) (fun hb => ?_))
  · replace h := iteT hb h
    refine wp_seq (wp_pure [(2, .int .i64 1)] hF (by kernel_rfl) fun fr hF => then_normal ?_)
    obtain rfl := Option.some.inj h
    exact wp_ret (then_ret (ret1 rfl hF rfl ⟨_, rfl, rfl, hM0.chg⟩))
  replace h := iteF hb h
  refine (wp_skip (then_normal ?_))
  refine wp_seq (wp_pure [(2, .int .i64 0)] hF (by kernel_rfl) fun fr hF => then_normal ?_)
  obtain rfl := Option.some.inj h
  exact wp_ret (ret1 rfl hF rfl ⟨_, rfl, rfl, hM0.chg⟩)

theorem impl_ApplyBinary_ok (p0 : Int) (p1 : Int) (p2 : Int) (p3 : Int) {r : Int} (h : impl_ApplyBinary p0 p1 p2 p3 = some r) {w : World} :
    Calls Try.prog 82 [.int .i64 p0, .int .i64 p1, .int .i64 p2, .int .i64 p3].toArray w fun e w' => ∃ v, e = .returned v ∧ v = .int .i64 r ∧ Chg Non w w' := by
  unfold impl_ApplyBinary at h
  have hs := Sep.nil w Non
  have hM0 : Mem w Non (fun k => (False) ∧ k < w.heap.size) w Non (fun k => (False) ∧ k < w.heap.size) := Mem.start (fun _ h => h.elim) (fun _ h => h.2) (fun _ h => h.elim)
  refine enter (N := 106) Try.func82 rfl Try.ntmps82 rfl fun fr hF => ?_
  refine wp_seq (wp_pure [(0, .int .i64 p0), (1, .int .i64 p1), (2, .int .i64 p2), (3, .int .i64 p3)] hF (by kernel_rfl) fun fr hF => then_normal ?_)
  refine wp_seq ?_
  obtain ⟨x1, hx1, h⟩ := bindE h
  obtain ⟨x2, hx2, h⟩ := bindE h
  refine wp_seq (region_b [] [true, true, false, true, true, true, true, false, true, true]
      [.eq (.int .i64 p1), .eq (.int .i64 p2), .eq (.bool x1), .eq (.bool (!x1)), .eq (.bool (!x1)), .eq (.int .i64 p1), .eq (.int .i64 p3), .eq (.bool x2), .eq (.bool (!x2)), .eq (.bool ((!x1) || (!x2)))]
      [(0, .int .i64 p0), (1, .int .i64 p1), (2, .int .i64 p2), (3, .int .i64 p3), (18, .bool ((!x1) || (!x2)))] mix hF (by kernel_rfl) (by kernel_rfl) (by kernel_rfl) ⟨Pd.mono_eq, Pd.mono_eq, trivial⟩ (fun hG => ⟨np_call [.int .i64 p1, .int .i64 p2] hG hF Try.call61 rfl rfl (fun w hC hg => (impl_WordOk_ok p1 p2 hx1).mono fun e w' ⟨v, he, hv, hc⟩ => ⟨v, he, hc, hv⟩), np_call [.int .i64 p1, .int .i64 p3] hG hF Try.call61 rfl rfl (fun w hC hg => (impl_WordOk_ok p1 p3 (iteF hg.2 hx2)).mono fun e w' ⟨v, he, hv, hc⟩ => ⟨v, he, hc, hv⟩), trivial⟩) (by kernel_rfl) fun fr w1 hF hE hc => then_normal ?_)
  have hs := hs.ext hc
  have hM0 := hM0.ext hc
  refine (wp_if hF (b := ((!x1) || (!x2))) rfl (fun hb => ?_) (fun hb => ?_))
  · replace h := iteT hb h
    refine wp_seq (wp_pure [(8, .int .i64 (-1))] hF (by kernel_rfl) fun fr hF => then_normal ?_)
    obtain rfl := Option.some.inj h
    exact wp_ret (then_ret (ret1 rfl hF rfl ⟨_, rfl, rfl, hM0.chg⟩))
  replace h := iteF hb h
  refine (wp_skip (then_normal ?_))
  refine wp_seq ?_
  refine wp_seq (wp_pure [(0, .int .i64 p0), (1, .int .i64 p1), (2, .int .i64 p2), (3, .int .i64 p3), (19, .int .i64 p0)] hF (by kernel_rfl) fun fr hF => then_normal ?_)
  refine (wp_block ?_)
  refine wp_seq (wp_pure [(0, .int .i64 p0), (1, .int .i64 p1), (2, .int .i64 p2), (3, .int .i64 p3), (19, .int .i64 p0), (20, .bool (p0 == 3))] hF (by kernel_rfl) fun fr hF => then_normal ?_)
  refine (wp_if hF (b := (p0 == 3)) rfl (fun hb => ?_) (fun hb => ?_))
  · replace h := iteT hb h
    refine wp_seq (wp_text' ?_)
    refine from_pure 4 [(22, .int .i64 p1), (25, .int .i64 (w64 (p2 + p3)))] hF (by kernel_rfl) fun fr hF => ?_
    obtain ⟨x3, hx3, h⟩ := bindE h
    refine s_call [.int .i64 p1, .int .i64 (w64 (p2 + p3))] Try.call86 rfl rfl hF rfl (impl_WordOf_ok p1 (w64 (p2 + p3)) hx3) fun v w2 fr hRes hF => ?_
    obtain ⟨rfl, hc⟩ := hRes
    have hs := hs.ext hc
    have hM0 := hM0.ext hc
    refine from_pure 1 [(8, .int .i64 x3)] hF (by kernel_rfl) fun fr hF => ?_
    refine from_end rfl (then_normal ?_)
    obtain rfl := Option.some.inj h
    exact wp_ret (blk_ret (then_ret (ret1 rfl hF rfl ⟨_, rfl, rfl, hM0.chg⟩)))
  replace h := iteF hb h
  refine wp_seq (wp_pure [(0, .int .i64 p0), (1, .int .i64 p1), (2, .int .i64 p2), (3, .int .i64 p3), (19, .int .i64 p0), (27, .bool (p0 == 4))] hF (by kernel_rfl) fun fr hF => then_normal ?_)
  refine (wp_if hF (b := (p0 == 4)) rfl (fun hb => ?_) (fun hb => ?_))
  · replace h := iteT hb h
    refine wp_seq (wp_text' ?_)
    refine from_pure 4 [(29, .int .i64 p1), (32, .int .i64 (w64 (p2 - p3)))] hF (by kernel_rfl) fun fr hF => ?_
    obtain ⟨x4, hx4, h⟩ := bindE h
    refine s_call [.int .i64 p1, .int .i64 (w64 (p2 - p3))] Try.call86 rfl rfl hF rfl (impl_WordOf_ok p1 (w64 (p2 - p3)) hx4) fun v w3 fr hRes hF => ?_
    obtain ⟨rfl, hc⟩ := hRes
    have hs := hs.ext hc
    have hM0 := hM0.ext hc
    refine from_pure 1 [(8, .int .i64 x4)] hF (by kernel_rfl) fun fr hF => ?_
    refine from_end rfl (then_normal ?_)
    obtain rfl := Option.some.inj h
    exact wp_ret (blk_ret (then_ret (ret1 rfl hF rfl ⟨_, rfl, rfl, hM0.chg⟩)))
  replace h := iteF hb h
  refine wp_seq (wp_pure [(0, .int .i64 p0), (1, .int .i64 p1), (2, .int .i64 p2), (3, .int .i64 p3), (19, .int .i64 p0), (34, .bool (p0 == 5))] hF (by kernel_rfl) fun fr hF => then_normal ?_)
  refine (wp_if hF (b := (p0 == 5)) rfl (fun hb => ?_) (fun hb => ?_))
  · replace h := iteT hb h
    refine wp_seq (wp_text' ?_)
    refine from_pure 4 [(36, .int .i64 p1), (39, .int .i64 (w64 (p2 * p3)))] hF (by kernel_rfl) fun fr hF => ?_
    obtain ⟨x5, hx5, h⟩ := bindE h
    refine s_call [.int .i64 p1, .int .i64 (w64 (p2 * p3))] Try.call86 rfl rfl hF rfl (impl_WordOf_ok p1 (w64 (p2 * p3)) hx5) fun v w4 fr hRes hF => ?_
    obtain ⟨rfl, hc⟩ := hRes
    have hs := hs.ext hc
    have hM0 := hM0.ext hc
    refine from_pure 1 [(8, .int .i64 x5)] hF (by kernel_rfl) fun fr hF => ?_
    refine from_end rfl (then_normal ?_)
    obtain rfl := Option.some.inj h
    exact wp_ret (blk_ret (then_ret (ret1 rfl hF rfl ⟨_, rfl, rfl, hM0.chg⟩)))
  replace h := iteF hb h
  refine wp_seq (wp_pure [(0, .int .i64 p0), (1, .int .i64 p1), (2, .int .i64 p2), (3, .int .i64 p3), (19, .int .i64 p0), (41, .bool (p0 == 6))] hF (by kernel_rfl) fun fr hF => then_normal ?_)
  refine (wp_if hF (b := (p0 == 6)) rfl (fun hb => ?_) (fun hb => ?_))
  · replace h := iteT hb h
    refine wp_seq ?_
    refine wp_seq (wp_pure [(1, .int .i64 p1), (2, .int .i64 p2), (3, .int .i64 p3), (44, .bool (p3 == 0))] hF (by kernel_rfl) fun fr hF => then_normal ?_)
    refine (wp_if hF (b := (p3 == 0)) rfl (fun hb => ?_) (fun hb => ?_))
    · replace h := iteT hb h
      refine wp_seq (wp_text' ?_)
      refine from_pure 2 [(46, .int .u64 (IntKind.u64.wrap p1))] hF (by kernel_rfl) fun fr hF => ?_
      obtain ⟨x6, hx6, h⟩ := bindE h
      refine s_shl rfl rfl hF rfl rfl hx6 fun fr hF => ?_
      refine from_pure 2 [(8, .int .i64 (w64 (x6 - 1)))] hF (by kernel_rfl) fun fr hF => ?_
      refine from_end rfl (then_normal ?_)
      obtain rfl := Option.some.inj h
      exact wp_ret (then_ret (blk_ret (then_ret (ret1 rfl hF rfl ⟨_, rfl, rfl, hM0.chg⟩))))
    replace h := iteF hb h
    refine (wp_skip (then_normal ?_))
    refine wp_seq (wp_text' ?_)
    refine from_pure 2 [(49, .int .i64 p2), (50, .int .i64 p3)] hF (by kernel_rfl) fun fr hF => ?_
    obtain ⟨x7, hx7, h⟩ := bindE h
    refine s_quo rfl rfl hF rfl rfl hx7 fun fr hF => ?_
    refine from_pure 1 [(8, .int .i64 x7)] hF (by kernel_rfl) fun fr hF => ?_
    refine from_end rfl (then_normal ?_)
    obtain rfl := Option.some.inj h
    exact wp_ret (blk_ret (then_ret (ret1 rfl hF rfl ⟨_, rfl, rfl, hM0.chg⟩)))
  replace h := iteF hb h
  refine wp_seq (wp_pure [(0, .int .i64 p0), (1, .int .i64 p1), (2, .int .i64 p2), (3, .int .i64 p3), (19, .int .i64 p0), (52, .bool (p0 == 7))] hF (by kernel_rfl) fun fr hF => then_normal ?_)
  refine (wp_if hF (b := (p0 == 7)) rfl (fun hb => ?_) (fun hb => ?_))
  · replace h := iteT hb h
    refine wp_seq ?_
    refine wp_seq (wp_pure [(2, .int .i64 p2), (3, .int .i64 p3), (55, .bool (p3 == 0))] hF (by kernel_rfl) fun fr hF => then_normal ?_)
    refine (wp_if hF (b := (p3 == 0)) rfl (fun hb => ?_) (fun hb => ?_))
    · replace h := iteT hb h
      refine wp_seq (wp_pure [(8, .int .i64 p2)] hF (by kernel_rfl) fun fr hF => then_normal ?_)
      obtain rfl := Option.some.inj h
      exact wp_ret (then_ret (blk_ret (then_ret (ret1 rfl hF rfl ⟨_, rfl, rfl, hM0.chg⟩))))
    replace h := iteF hb h
    refine (wp_skip (then_normal ?_))
    refine wp_seq (wp_text' ?_)
    refine from_pure 2 [(57, .int .i64 p2), (58, .int .i64 p3)] hF (by kernel_rfl) fun fr hF => ?_
    obtain ⟨x8, hx8, h⟩ := bindE h
    refine s_rem rfl rfl hF rfl rfl hx8 fun fr hF => ?_
    refine from_pure 1 [(8, .int .i64 x8)] hF (by kernel_rfl) fun fr hF => ?_
    refine from_end rfl (then_normal ?_)
    obtain rfl := Option.some.inj h
    exact wp_ret (blk_ret (then_ret (ret1 rfl hF rfl ⟨_, rfl, rfl, hM0.chg⟩)))
  replace h := iteF hb h
  refine wp_seq (wp_pure [(0, .int .i64 p0), (1, .int .i64 p1), (2, .int .i64 p2), (3, .int .i64 p3), (19, .int .i64 p0), (60, .bool (p0 == 8))] hF (by kernel_rfl) fun fr hF => then_normal ?_)
  refine (wp_if hF (b := (p0 == 8)) rfl (fun hb => ?_) (fun hb => ?_))
  · replace h := iteT hb h
    refine wp_seq (wp_pure [(8, .int .i64 (band p2 p3))] hF (by kernel_rfl) fun fr hF => then_normal ?_)
    obtain rfl := Option.some.inj h
    exact wp_ret (blk_ret (then_ret (ret1 rfl hF rfl ⟨_, rfl, rfl, hM0.chg⟩)))
  replace h := iteF hb h
  refine wp_seq (wp_pure [(0, .int .i64 p0), (1, .int .i64 p1), (2, .int .i64 p2), (3, .int .i64 p3), (19, .int .i64 p0), (65, .bool (p0 == 9))] hF (by kernel_rfl) fun fr hF => then_normal ?_)
  refine (wp_if hF (b := (p0 == 9)) rfl (fun hb => ?_) (fun hb => ?_))
  · replace h := iteT hb h
    refine wp_seq (wp_pure [(8, .int .i64 (bor p2 p3))] hF (by kernel_rfl) fun fr hF => then_normal ?_)
    obtain rfl := Option.some.inj h
    exact wp_ret (blk_ret (then_ret (ret1 rfl hF rfl ⟨_, rfl, rfl, hM0.chg⟩)))
  replace h := iteF hb h
  refine wp_seq (wp_pure [(0, .int .i64 p0), (1, .int .i64 p1), (2, .int .i64 p2), (3, .int .i64 p3), (19, .int .i64 p0), (70, .bool (p0 == 10))] hF (by kernel_rfl) fun fr hF => then_normal ?_)
  refine (wp_if hF (b := (p0 == 10)) rfl (fun hb => ?_) (fun hb => ?_))
  · replace h := iteT hb h
    refine wp_seq (wp_pure [(8, .int .i64 (bxor p2 p3))] hF (by kernel_rfl) fun fr hF => then_normal ?_)
    obtain rfl := Option.some.inj h
    exact wp_ret (blk_ret (then_ret (ret1 rfl hF rfl ⟨_, rfl, rfl, hM0.chg⟩)))
  replace h := iteF hb h
  refine wp_seq ?_
  refine wp_seq (wp_pure [(0, .int .i64 p0), (1, .int .i64 p1), (2, .int .i64 p2), (3, .int .i64 p3), (19, .int .i64 p0), (75, .bool (p0 == 11))] hF (by kernel_rfl) fun fr hF => then_normal ?_)
  refine (wp_if hF (b := (p0 == 11)) rfl (fun hb => ?_) (fun hb => ?_))
  · replace h := iteT hb h
    refine (wp_skip (then_normal ?_))
    refine (wp_if hF (b := (p0 == 11)) rfl (fun hb => ?_) (fun hb => ?_))
    · replace h := iteT hb h
      refine wp_seq (wp_text' ?_)
      refine from_pure 4 [(79, .int .i64 p0), (80, .int .i64 p1), (81, .int .i64 p2), (82, .int .i64 p3)] hF (by kernel_rfl) fun fr hF => ?_
      obtain ⟨x9, hx9, h⟩ := bindE h
      refine s_call [.int .i64 p0, .int .i64 p1, .int .i64 p2, .int .i64 p3] Try.call87 rfl rfl hF rfl (impl_shiftWord_ok p0 p1 p2 p3 hx9) fun v w5 fr hRes hF => ?_
      obtain ⟨rfl, hc⟩ := hRes
      have hs := hs.ext hc
      have hM0 := hM0.ext hc
      refine from_pure 1 [(8, .int .i64 x9)] hF (by kernel_rfl) fun fr hF => ?_
      refine from_end rfl (then_normal ?_)
      obtain rfl := Option.some.inj h
      exact wp_ret (blk_ret (then_ret (ret1 rfl hF rfl ⟨_, rfl, rfl, hM0.chg⟩)))
    replace h := iteF hb h
    refine wp_seq (wp_pure [(1, .int .i64 p1), (2, .int .i64 p2), (3, .int .i64 p3), (19, .int .i64 p0), (84, .bool (p0 == 14))] hF (by kernel_rfl) fun fr hF => then_normal ?_)
    refine (wp_if hF (b := (p0 == 14)) rfl (fun hb => ?_) (fun hb => ?_))
    · replace h := iteT hb h
      refine wp_seq (wp_text' ?_)
      refine from_pure 3 [(88, .bool (p2 == p3))] hF (by kernel_rfl) fun fr hF => ?_
      obtain ⟨x10, hx10, h⟩ := bindE h
      refine s_call [.bool (p2 == p3)] Try.call88 rfl rfl hF rfl (impl_boolWord_ok (p2 == p3) hx10) fun v w6 fr hRes hF => ?_
      obtain ⟨rfl, hc⟩ := hRes
      have hs := hs.ext hc
      have hM0 := hM0.ext hc
      refine from_pure 1 [(8, .int .i64 x10)] hF (by kernel_rfl) fun fr hF => ?_
      refine from_end rfl (then_normal ?_)
      obtain rfl := Option.some.inj h
      exact wp_ret (blk_ret (then_ret (ret1 rfl hF rfl ⟨_, rfl, rfl, hM0.chg⟩)))
    replace h := iteF hb h
    refine wp_seq (wp_pure [(1, .int .i64 p1), (2, .int .i64 p2), (3, .int .i64 p3), (19, .int .i64 p0), (90, .bool (p0 == 15))] hF (by kernel_rfl) fun fr hF => then_normal ?_)
    refine (wp_if hF (b := (p0 == 15)) rfl (fun hb => ?_) (fun hb => ?_))
    · replace h := iteT hb h
      refine wp_seq (wp_text' ?_)
      refine from_pure 3 [(94, .bool (decide (p2 < p3)))] hF (by kernel_rfl) fun fr hF => ?_
      obtain ⟨x11, hx11, h⟩ := bindE h
      refine s_call [.bool (decide (p2 < p3))] Try.call88 rfl rfl hF rfl (impl_boolWord_ok (decide (p2 < p3)) hx11) fun v w7 fr hRes hF => ?_
      obtain ⟨rfl, hc⟩ := hRes
      have hs := hs.ext hc
      have hM0 := hM0.ext hc
      refine from_pure 1 [(8, .int .i64 x11)] hF (by kernel_rfl) fun fr hF => ?_
      refine from_end rfl (then_normal ?_)
      obtain rfl := Option.some.inj h
      exact wp_ret (blk_ret (then_ret (ret1 rfl hF rfl ⟨_, rfl, rfl, hM0.chg⟩)))
    replace h := iteF hb h
    refine wp_seq (wp_pure [(1, .int .i64 p1), (2, .int .i64 p2), (3, .int .i64 p3), (96, .bool (p0 == 16))] hF (by kernel_rfl) fun fr hF => then_normal ?_)
    refine (wp_if hF (b := (p0 == 16)) rfl (fun hb => ?_) (fun hb => ?_))
    · replace h := iteT hb h
      refine wp_seq (wp_text' ?_)
      refine from_pure 2 [(1, .int .i64 p1), (3, .int .i64 p3), (98, .int .i64 p1), (99, .int .i64 p2)] hF (by kernel_rfl) fun fr hF => ?_
      obtain ⟨x12, hx12, h⟩ := bindE h
      refine s_call [.int .i64 p1, .int .i64 p2] Try.call89 rfl rfl hF rfl (impl_SignedOf_ok p1 p2 hx12) fun v w8 fr hRes hF => ?_
      obtain ⟨rfl, hc⟩ := hRes
      have hs := hs.ext hc
      have hM0 := hM0.ext hc
      refine from_pure 2 [(100, .int .i64 x12), (101, .int .i64 p1), (102, .int .i64 p3)] hF (by kernel_rfl) fun fr hF => ?_
      obtain ⟨x13, hx13, h⟩ := bindE h
      refine s_call [.int .i64 p1, .int .i64 p3] Try.call89 rfl rfl hF rfl (impl_SignedOf_ok p1 p3 hx13) fun v w9 fr hRes hF => ?_
      obtain ⟨rfl, hc⟩ := hRes
      have hs := hs.ext hc
      have hM0 := hM0.ext hc
      refine from_pure 1 [(104, .bool (decide (x12 < x13)))] hF (by kernel_rfl) fun fr hF => ?_
      obtain ⟨x14, hx14, h⟩ := bindE h
      refine s_call [.bool (decide (x12 < x13))] Try.call88 rfl rfl hF rfl (impl_boolWord_ok (decide (x12 < x13)) hx14) fun v w10 fr hRes hF => ?_
      obtain ⟨rfl, hc⟩ := hRes
      have hs := hs.ext hc
      have hM0 := hM0.ext hc
      refine from_pure 1 [(8, .int .i64 x14)] hF (by kernel_rfl) fun fr hF => ?_
      refine from_end rfl (then_normal ?_)
      obtain rfl := Option.some.inj h
      exact wp_ret (blk_ret (then_ret (ret1 rfl hF rfl ⟨_, rfl, rfl, hM0.chg⟩)))
    replace h := iteF hb h
    refine (wp_skip ?_)
    refine blk_normal (then_normal ?_)
    refine wp_seq (wp_pure [(8, .int .i64 (-1))] hF (by kernel_rfl) fun fr hF => then_normal ?_)
    obtain rfl := Option.some.inj h
    exact wp_ret (ret1 rfl hF rfl ⟨_, rfl, rfl, hM0.chg⟩)
  replace h := iteF hb h
  refine wp_seq (wp_pure [(0, .int .i64 p0), (1, .int .i64 p1), (2, .int .i64 p2), (3, .int .i64 p3), (19, .int .i64 p0), (75, .bool (p0 == 12))] hF (by kernel_rfl) fun fr hF => then_normal ?_)
  refine (wp_merge [(0, .int .i64 p0), (1, .int .i64 p1), (2, .int .i64 p2), (3, .int .i64 p3), (19, .int .i64 p0), (75, .bool ((p0 == 12) || (p0 == 13)))] hF (b := (p0 == 12)) rfl (fun hb => ?_) (fun hb => ?_) fun fr hF => then_normal ?_)
  · exact wp_skip ⟨rfl, rfl, (hF.sub [(0, .int .i64 p0), (1, .int .i64 p1), (2, .int .i64 p2), (3, .int .i64 p3), (19, .int .i64 p0), (75, .bool (p0 == 12))] (by kernel_rfl)).eqs (by first | (simp only [hb]; done) | (simp only [hb]; rfl))⟩
  · exact wp_pure [(0, .int .i64 p0), (1, .int .i64 p1), (2, .int .i64 p2), (3, .int .i64 p3), (19, .int .i64 p0), (75, .bool (p0 == 13))] hF (by kernel_rfl) fun fr hF => ⟨rfl, rfl, hF.eqs (by first | (simp only [hb]; done) | (simp only [hb]; rfl))⟩
  refine (wp_if hF (b := ((p0 == 12) || (p0 == 13))) rfl (fun hb => ?_) (fun hb => ?_))
  · replace h := iteT hb h
    refine wp_seq (wp_text' ?_)
    refine from_pure 4 [(79, .int .i64 p0), (80, .int .i64 p1), (81, .int .i64 p2), (82, .int .i64 p3)] hF (by kernel_rfl) fun fr hF => ?_
    obtain ⟨x15, hx15, h⟩ := bindE h
    refine s_call [.int .i64 p0, .int .i64 p1, .int .i64 p2, .int .i64 p3] Try.call87 rfl rfl hF rfl (impl_shiftWord_ok p0 p1 p2 p3 hx15) fun v w11 fr hRes hF => ?_
    obtain ⟨rfl, hc⟩ := hRes
    have hs := hs.ext hc
    have hM0 := hM0.ext hc
    refine from_pure 1 [(8, .int .i64 x15)] hF (by kernel_rfl) fun fr hF => ?_
    refine from_end rfl (then_normal ?_)
    obtain rfl := Option.some.inj h
    exact wp_ret (blk_ret (then_ret (ret1 rfl hF rfl ⟨_, rfl, rfl, hM0.chg⟩)))
  replace h := iteF hb h
  refine wp_seq (wp_pure [(1, .int .i64 p1), (2, .int .i64 p2), (3, .int .i64 p3), (19, .int .i64 p0), (84, .bool (p0 == 14))] hF (by kernel_rfl) fun fr hF => then_normal ?_)
  refine (wp_if hF (b := (p0 == 14)) rfl (fun hb => ?_) (fun hb => ?_))
  · replace h := iteT hb h
    refine wp_seq (wp_text' ?_)
    refine from_pure 3 [(88, .bool (p2 == p3))] hF (by kernel_rfl) fun fr hF => ?_
    obtain ⟨x16, hx16, h⟩ := bindE h
    refine s_call [.bool (p2 == p3)] Try.call88 rfl rfl hF rfl (impl_boolWord_ok (p2 == p3) hx16) fun v w12 fr hRes hF => ?_
    obtain ⟨rfl, hc⟩ := hRes
    have hs := hs.ext hc
    have hM0 := hM0.ext hc
    refine from_pure 1 [(8, .int .i64 x16)] hF (by kernel_rfl) fun fr hF => ?_
    refine from_end rfl (then_normal ?_)
    obtain rfl := Option.some.inj h
    exact wp_ret (blk_ret (then_ret (ret1 rfl hF rfl ⟨_, rfl, rfl, hM0.chg⟩)))
  replace h := iteF hb h
  refine wp_seq (wp_pure [(1, .int .i64 p1), (2, .int .i64 p2), (3, .int .i64 p3), (19, .int .i64 p0), (90, .bool (p0 == 15))] hF (by kernel_rfl) fun fr hF => then_normal ?_)
  refine (wp_if hF (b := (p0 == 15)) rfl (fun hb => ?_) (fun hb => ?_))
  · replace h := iteT hb h
    refine wp_seq (wp_text' ?_)
    refine from_pure 3 [(94, .bool (decide (p2 < p3)))] hF (by kernel_rfl) fun fr hF => ?_
    obtain ⟨x17, hx17, h⟩ := bindE h
    refine s_call [.bool (decide (p2 < p3))] Try.call88 rfl rfl hF rfl (impl_boolWord_ok (decide (p2 < p3)) hx17) fun v w13 fr hRes hF => ?_
    obtain ⟨rfl, hc⟩ := hRes
    have hs := hs.ext hc
    have hM0 := hM0.ext hc
    refine from_pure 1 [(8, .int .i64 x17)] hF (by kernel_rfl) fun fr hF => ?_
    refine from_end rfl (then_normal ?_)
    obtain rfl := Option.some.inj h
    exact wp_ret (blk_ret (then_ret (ret1 rfl hF rfl ⟨_, rfl, rfl, hM0.chg⟩)))
  replace h := iteF hb h
  refine wp_seq (wp_pure [(1, .int .i64 p1), (2, .int .i64 p2), (3, .int .i64 p3), (96, .bool (p0 == 16))] hF (by kernel_rfl) fun fr hF => then_normal ?_)
  refine (wp_if hF (b := (p0 == 16)) rfl (fun hb => ?_) (fun hb => ?_))
  · replace h := iteT hb h
    refine wp_seq (wp_text' ?_)
    refine from_pure 2 [(1, .int .i64 p1), (3, .int .i64 p3), (98, .int .i64 p1), (99, .int .i64 p2)] hF (by kernel_rfl) fun fr hF => ?_
    obtain ⟨x18, hx18, h⟩ := bindE h
    refine s_call [.int .i64 p1, .int .i64 p2] Try.call89 rfl rfl hF rfl (impl_SignedOf_ok p1 p2 hx18) fun v w14 fr hRes hF => ?_
    obtain ⟨rfl, hc⟩ := hRes
    have hs := hs.ext hc
    have hM0 := hM0.ext hc
    refine from_pure 2 [(100, .int .i64 x18), (101, .int .i64 p1), (102, .int .i64 p3)] hF (by kernel_rfl) fun fr hF => ?_
    obtain ⟨x19, hx19, h⟩ := bindE h
    refine s_call [.int .i64 p1, .int .i64 p3] Try.call89 rfl rfl hF rfl (impl_SignedOf_ok p1 p3 hx19) fun v w15 fr hRes hF => ?_
    obtain ⟨rfl, hc⟩ := hRes
    have hs := hs.ext hc
    have hM0 := hM0.ext hc
    refine from_pure 1 [(104, .bool (decide (x18 < x19)))] hF (by kernel_rfl) fun fr hF => ?_
    obtain ⟨x20, hx20, h⟩ := bindE h
    refine s_call [.bool (decide (x18 < x19))] Try.call88 rfl rfl hF rfl (impl_boolWord_ok (decide (x18 < x19)) hx20) fun v w16 fr hRes hF => ?_
    obtain ⟨rfl, hc⟩ := hRes
    have hs := hs.ext hc
    have hM0 := hM0.ext hc
    refine from_pure 1 [(8, .int .i64 x20)] hF (by kernel_rfl) fun fr hF => ?_
    refine from_end rfl (then_normal ?_)
    obtain rfl := Option.some.inj h
    exact wp_ret (blk_ret (then_ret (ret1 rfl hF rfl ⟨_, rfl, rfl, hM0.chg⟩)))
  replace h := iteF hb h
  refine (wp_skip ?_)
  refine blk_normal (then_normal ?_)
  refine wp_seq (wp_pure [(8, .int .i64 (-1))] hF (by kernel_rfl) fun fr hF => then_normal ?_)
  obtain rfl := Option.some.inj h
  exact wp_ret (ret1 rfl hF rfl ⟨_, rfl, rfl, hM0.chg⟩)

theorem impl_ApplyUnary_ok (p0 : Int) (p1 : Int) (p2 : Int) {r : Int} (h : impl_ApplyUnary p0 p1 p2 = some r) {w : World} :
    Calls Try.prog 83 [.int .i64 p0, .int .i64 p1, .int .i64 p2].toArray w fun e w' => ∃ v, e = .returned v ∧ v = .int .i64 r ∧ Chg Non w w' := by
  unfold impl_ApplyUnary at h
  have hs := Sep.nil w Non
  have hM0 : Mem w Non (fun k => (False) ∧ k < w.heap.size) w Non (fun k => (False) ∧ k < w.heap.size) := Mem.start (fun _ h => h.elim) (fun _ h => h.2) (fun _ h => h.elim)
  refine enter (N := 26) Try.func83 rfl Try.ntmps83 rfl fun fr hF => ?_
  refine wp_seq (wp_pure [(0, .int .i64 p0), (1, .int .i64 p1), (2, .int .i64 p2)] hF (by kernel_rfl) fun fr hF => then_normal ?_)
  refine wp_seq ?_
  refine wp_seq (wp_text' ?_)
  refine from_pure 2 [(0, .int .i64 p0), (1, .int .i64 p1), (2, .int .i64 p2), (7, .int .i64 p1), (8, .int .i64 p2)] hF (by kernel_rfl) fun fr hF => ?_
  obtain ⟨x1, hx1, h⟩ := bindE h
  refine s_call [.int .i64 p1, .int .i64 p2] Try.call61 rfl rfl hF rfl (impl_WordOk_ok p1 p2 hx1) fun v w1 fr hRes hF => ?_
  obtain ⟨rfl, hc⟩ := hRes
  have hs := hs.ext hc
  have hM0 := hM0.ext hc
  refine from_pure 1 [(0, .int .i64 p0), (1, .int .i64 p1), (2, .int .i64 p2), (10, .bool (!x1))] hF (by kernel_rfl) fun fr hF => ?_
  refine from_end rfl (then_normal ?_)
  refine (wp_if hF (b := (!x1)) rfl (fun hb => ?_) (fun hb => ?_))
  · replace h := iteT hb h
    refine wp_seq (wp_pure [(6, .int .i64 (-1))] hF (by kernel_rfl) fun fr hF => then_normal ?_)
    obtain rfl := Option.some.inj h
    exact wp_ret (then_ret (ret1 rfl hF rfl ⟨_, rfl, rfl, hM0.chg⟩))
  replace h := iteF hb h
  refine (wp_skip (then_normal ?_))
  refine wp_seq ?_
  refine wp_seq (wp_pure [(1, .int .i64 p1), (2, .int .i64 p2), (11, .int .i64 p0)] hF (by kernel_rfl) fun fr hF => then_normal ?_)
  refine (wp_block ?_)
  refine wp_seq (wp_pure [(1, .int .i64 p1), (2, .int .i64 p2), (11, .int .i64 p0), (12, .bool (p0 == 1))] hF (by kernel_rfl) fun fr hF => then_normal ?_)
  refine (wp_if hF (b := (p0 == 1)) rfl (fun hb => ?_) (fun hb => ?_))
  · replace h := iteT hb h
    refine wp_seq (wp_text' ?_)
    refine from_pure 2 [(2, .int .i64 p2), (15, .int .u64 (IntKind.u64.wrap p1))] hF (by kernel_rfl) fun fr hF => ?_
    obtain ⟨x2, hx2, h⟩ := bindE h
    refine s_shl rfl rfl hF rfl rfl hx2 fun fr hF => ?_
    refine from_pure 4 [(6, .int .i64 (w64 ((w64 (x2 - 1)) - p2)))] hF (by kernel_rfl) fun fr hF => ?_
    refine from_end rfl (then_normal ?_)
    obtain rfl := Option.some.inj h
    exact wp_ret (blk_ret (then_ret (ret1 rfl hF rfl ⟨_, rfl, rfl, hM0.chg⟩)))
  replace h := iteF hb h
  refine wp_seq (wp_pure [(1, .int .i64 p1), (2, .int .i64 p2), (20, .bool (p0 == 2))] hF (by kernel_rfl) fun fr hF => then_normal ?_)
  refine (wp_if hF (b := (p0 == 2)) rfl (fun hb => ?_) (fun hb => ?_))
  · replace h := iteT hb h
    refine wp_seq (wp_text' ?_)
    refine from_pure 3 [(22, .int .i64 p1), (24, .int .i64 (w64 (0 - p2)))] hF (by kernel_rfl) fun fr hF => ?_
    obtain ⟨x3, hx3, h⟩ := bindE h
    refine s_call [.int .i64 p1, .int .i64 (w64 (0 - p2))] Try.call86 rfl rfl hF rfl (impl_WordOf_ok p1 (w64 (0 - p2)) hx3) fun v w2 fr hRes hF => ?_
    obtain ⟨rfl, hc⟩ := hRes
    have hs := hs.ext hc
    have hM0 := hM0.ext hc
    refine from_pure 1 [(6, .int .i64 x3)] hF (by kernel_rfl) fun fr hF => ?_
    refine from_end rfl (then_normal ?_)
    obtain rfl := Option.some.inj h
    exact wp_ret (blk_ret (then_ret (ret1 rfl hF rfl ⟨_, rfl, rfl, hM0.chg⟩)))
  replace h := iteF hb h
  refine (wp_skip ?_)
  refine blk_normal (then_normal ?_)
  refine wp_seq (wp_pure [(6, .int .i64 (-1))] hF (by kernel_rfl) fun fr hF => then_normal ?_)
  obtain rfl := Option.some.inj h
  exact wp_ret (ret1 rfl hF rfl ⟨_, rfl, rfl, hM0.chg⟩)

theorem impl_State_perform_ok (p0 : D.State) (p1 : D.Program) (p2 : D.Ins) (p3 : List Int) {r : D.State} (h : impl_State_perform p0 p1 p2 p3 = some r) {w : World} {S0 F0 : Nat → Prop} {pa0 : Option Addr} {pn0 pc0 : Nat} {pa1 : Option Addr} {pn1 pc1 : Nat} {pa2 : Option Addr} {pn2 pc2 : Nat} {pa3 : Option Addr} {pn3 pc3 : Nat} {b1 : Nat} (hs : Sep [BX b1 28 [.int .i64 p0.Pc, .slice pa0 pn0 pc0, .slice pa1 pn1 pc1, .slice pa2 pn2 pc2, .int .i64 p0.In, .slice pa3 pn3 pc3, .int .i64 p0.Code, .int .i64 p0.Steps], SL (α := Int) 3 (.slice pa0 pn0 pc0) p0.Regs, SL (α := Int) 3 (.slice pa1 pn1 pc1) p0.Mem, SL (α := Int) 3 (.slice pa2 pn2 pc2) p0.Stack, SL (α := Int) 3 (.slice pa3 pn3 pc3) p0.Out] w S0) (hb : ∀ k, S0 k → k < w.heap.size) (hd : ∀ k, S0 k → F0 k → False) {va1 : Value} (ra1 : RV w F0 va1 p1) {va3 : Value} (ra3 : RV w F0 va3 p3) :
    Calls Try.prog 72 [.pointer (some ⟨b1, 0, none⟩), va1, .agg #[.int .i64 p2.Op, .int .i64 p2.A, .int .i64 p2.B, .int .i64 p2.C], va3].toArray w fun e w' => ∃ v, e = .returned v ∧ ∃ a1 c1 a2 c2 a3 c3 a4 c4, v = .tuple #[] ∧ ∃ S', Stp w S0 w' S' ∧ Sep [BX b1 28 [.int .i64 r.Pc, .slice a1 (List.length r.Regs) c1, .slice a2 (List.length r.Mem) c2, .slice a3 (List.length r.Stack) c3, .int .i64 r.In, .slice a4 (List.length r.Out) c4, .int .i64 r.Code, .int .i64 r.Steps], SL (α := Int) 3 (.slice a1 (List.length r.Regs) c1) r.Regs, SL (α := Int) 3 (.slice a2 (List.length r.Mem) c2) r.Mem, SL (α := Int) 3 (.slice a3 (List.length r.Stack) c3) r.Stack, SL (α := Int) 3 (.slice a4 (List.length r.Out) c4) r.Out] w' S' := by
  unfold impl_State_perform at h
  obtain ⟨hpn, hs⟩ := hs.relen 1 rfl
  subst hpn
  obtain ⟨hpn, hs⟩ := hs.relen 2 rfl
  subst hpn
  obtain ⟨hpn, hs⟩ := hs.relen 3 rfl
  subst hpn
  obtain ⟨hpn, hs⟩ := hs.relen 4 rfl
  subst hpn
  have hs : Sep [BX b1 28 [.int .i64 p0.Pc, .slice pa0 (List.length p0.Regs) pc0, .slice pa1 (List.length p0.Mem) pc1, .slice pa2 (List.length p0.Stack) pc2, .int .i64 p0.In, .slice pa3 (List.length p0.Out) pc3, .int .i64 p0.Code, .int .i64 p0.Steps], SL (α := Int) 3 (.slice pa0 (List.length p0.Regs) pc0) p0.Regs, SL (α := Int) 3 (.slice pa1 (List.length p0.Mem) pc1) p0.Mem, SL (α := Int) 3 (.slice pa2 (List.length p0.Stack) pc2) p0.Stack, SL (α := Int) 3 (.slice pa3 (List.length p0.Out) pc3) p0.Out] w S0 := hs
  have hM0 : Mem w S0 (fun k => F0 k ∧ k < w.heap.size) w S0 (fun k => F0 k ∧ k < w.heap.size) := Mem.start hb (fun _ h => h.2) (fun k h1 h2 => hd k h1 h2.1)
  have ra1 := ra1.sub (F' := (fun k => F0 k ∧ k < w.heap.size)) (fun k hk h => ⟨h, hk⟩)
  obtain ⟨v1, rfl, r1⟩ := RV.Program ra1
  obtain ⟨a1, c1, rfl, -⟩ := r1.slice
  have ra3 := ra3.sub (F' := (fun k => F0 k ∧ k < w.heap.size)) (fun k hk h => ⟨h, hk⟩)
  obtain ⟨a2, c2, rfl, -⟩ := ra3.slice
  refine enter (N := 250) Try.func72 rfl Try.ntmps72 rfl fun fr hF => ?_
  refine wp_seq (wp_text' ?_)
  refine q_box hs hM0 [.int .i64 p1.W, .int .i64 p1.Mem, .int .i64 p1.In, .slice a1 (List.length p1.Code) c1] rfl rfl hF rfl rfl fun b2 w1 S1 fr hs hp hF => ?_
  have r1 := r1.stp hM0 hp
  have ra3 := ra3.stp hM0 hp
  have hM0 := hM0.stp hp
  have hs : Sep [BX b2 32 [.int .i64 p1.W, .int .i64 p1.Mem, .int .i64 p1.In, .slice a1 (List.length p1.Code) c1], BX b1 28 [.int .i64 p0.Pc, .slice pa0 (List.length p0.Regs) pc0, .slice pa1 (List.length p0.Mem) pc1, .slice pa2 (List.length p0.Stack) pc2, .int .i64 p0.In, .slice pa3 (List.length p0.Out) pc3, .int .i64 p0.Code, .int .i64 p0.Steps], SL (α := Int) 3 (.slice pa0 (List.length p0.Regs) pc0) p0.Regs, SL (α := Int) 3 (.slice pa1 (List.length p0.Mem) pc1) p0.Mem, SL (α := Int) 3 (.slice pa2 (List.length p0.Stack) pc2) p0.Stack, SL (α := Int) 3 (.slice pa3 (List.length p0.Out) pc3) p0.Out] w1 S1 := hs
  refine q_box hs hM0 [.int .i64 p2.Op, .int .i64 p2.A, .int .i64 p2.B, .int .i64 p2.C] rfl rfl hF rfl rfl fun b3 w2 S2 fr hs hp hF => ?_
  have ra3 := ra3.stp hM0 hp
  have r1 := r1.stp hM0 hp
  have hM0 := hM0.stp hp
  have hs : Sep [BX b3 66 [.int .i64 p2.Op, .int .i64 p2.A, .int .i64 p2.B, .int .i64 p2.C], BX b2 32 [.int .i64 p1.W, .int .i64 p1.Mem, .int .i64 p1.In, .slice a1 (List.length p1.Code) c1], BX b1 28 [.int .i64 p0.Pc, .slice pa0 (List.length p0.Regs) pc0, .slice pa1 (List.length p0.Mem) pc1, .slice pa2 (List.length p0.Stack) pc2, .int .i64 p0.In, .slice pa3 (List.length p0.Out) pc3, .int .i64 p0.Code, .int .i64 p0.Steps], SL (α := Int) 3 (.slice pa0 (List.length p0.Regs) pc0) p0.Regs, SL (α := Int) 3 (.slice pa1 (List.length p0.Mem) pc1) p0.Mem, SL (α := Int) 3 (.slice pa2 (List.length p0.Stack) pc2) p0.Stack, SL (α := Int) 3 (.slice pa3 (List.length p0.Out) pc3) p0.Out] w2 S2 := hs
  refine from_end rfl (then_normal ?_)
  refine wp_seq (wp_text' ?_)
  refine from_pure 3 [(0, .pointer (some ⟨b1, 0, none⟩)), (3, .slice a2 (List.length p3) c2), (5, .pointer (some ⟨b2, 0, none⟩)), (6, .pointer (some ⟨b3, 0, none⟩)), (11, .pointer (some ⟨b1, 0, none⟩))] hF (by kernel_rfl) fun fr hF => ?_
  refine s_loadBox (.int .i64 p0.Pc) ty3 rfl rfl hF rfl (hs.bx 2 rfl) rfl rfl fun fr hF => ?_
  refine from_pure 2 [(0, .pointer (some ⟨b1, 0, none⟩)), (3, .slice a2 (List.length p3) c2), (5, .pointer (some ⟨b2, 0, none⟩)), (6, .pointer (some ⟨b3, 0, none⟩)), (8, .int .i64 (w64 (p0.Pc + 1)))] hF (by kernel_rfl) fun fr hF => ?_
  refine from_end rfl (then_normal ?_)
  refine wp_seq ?_
  refine wp_seq (wp_text' ?_)
  refine from_pure 1 [(0, .pointer (some ⟨b1, 0, none⟩)), (3, .slice a2 (List.length p3) c2), (5, .pointer (some ⟨b2, 0, none⟩)), (6, .pointer (some ⟨b3, 0, none⟩)), (8, .int .i64 (w64 (p0.Pc + 1))), (14, .pointer (some ⟨b3, 0, none⟩))] hF (by kernel_rfl) fun fr hF => ?_
  refine s_loadBox (.int .i64 p2.Op) ty3 rfl rfl hF rfl (hs.bx 0 rfl) rfl rfl fun fr hF => ?_
  refine from_end rfl (then_normal ?_)
  refine (wp_block ?_)
  refine wp_seq (wp_pure [(0, .pointer (some ⟨b1, 0, none⟩)), (3, .slice a2 (List.length p3) c2), (5, .pointer (some ⟨b2, 0, none⟩)), (6, .pointer (some ⟨b3, 0, none⟩)), (8, .int .i64 (w64 (p0.Pc + 1))), (15, .int .i64 p2.Op), (16, .bool (p2.Op == 1))] hF (by kernel_rfl) fun fr hF => then_normal ?_)
  refine (wp_if hF (b := (p2.Op == 1)) rfl (fun hb => ?_) (fun hb => ?_))
  · replace h := iteT hb h
    have hs : Sep [BX b3 66 [.int .i64 p2.Op, .int .i64 p2.A, .int .i64 p2.B, .int .i64 p2.C], BX b1 28 [.int .i64 p0.Pc, .slice pa0 (List.length p0.Regs) pc0, .slice pa1 (List.length p0.Mem) pc1, .slice pa2 (List.length p0.Stack) pc2, .int .i64 p0.In, .slice pa3 (List.length p0.Out) pc3, .int .i64 p0.Code, .int .i64 p0.Steps], SL (α := Int) 3 (.slice pa0 (List.length p0.Regs) pc0) p0.Regs, SL (α := Int) 3 (.slice pa1 (List.length p0.Mem) pc1) p0.Mem, SL (α := Int) 3 (.slice pa2 (List.length p0.Stack) pc2) p0.Stack, SL (α := Int) 3 (.slice pa3 (List.length p0.Out) pc3) p0.Out] w2 S2 := Sep.pick [0, 2, 3, 4, 5, 6] hs (by decide) rfl
    refine (region_bm 8 [0, 1, 3, 7, 0, 16, 0, 64, 255, 511] [true, true, true, false, true, false, true, false]
        [.eq (.pointer (some ⟨b1, 0, none⟩)), .eq (.pointer (some ⟨b1, 0, none⟩)), .eq (.pointer (some ⟨b1, 1, none⟩)), .eq (.slice pa0 (List.length p0.Regs) pc0), .eq (.pointer (some ⟨b3, 1, none⟩)), .eq (.int .i64 p2.A), .eq (.pointer (some ⟨b3, 2, none⟩)), .eq (.int .i64 p2.B), .any, .any]
        [(0, .pointer (some ⟨b1, 0, none⟩)), (8, .int .i64 (w64 (p0.Pc + 1))), (21, .slice pa0 (List.length p0.Regs) pc0), (23, .int .i64 p2.A), (25, .int .i64 p2.B)] mix hF (by kernel_rfl) (by kernel_rfl) (by kernel_rfl) (by kernel_rfl) ⟨Pd.monoO_eq, Pd.monoO_eq, Pd.monoO_eq, trivial⟩ (fun ow hG => ⟨np_to ow (np_loadBox hG hF ty26 rfl rfl (hs.bx 1 rfl) rfl rfl rfl), np_to ow (np_loadBox hG hF ty3 rfl rfl (hs.bx 0 rfl) rfl rfl rfl), np_to ow (np_loadBox hG hF ty3 rfl rfl (hs.bx 0 rfl) rfl rfl rfl), trivial⟩) (by kernel_rfl) fun ow fr w3 hF hE hc => ?_)
    have hs := hs.ext hc
    have hM0 := hM0.ext hc
    have hs : Sep [BX b1 28 [.int .i64 p0.Pc, .slice pa0 (List.length p0.Regs) pc0, .slice pa1 (List.length p0.Mem) pc1, .slice pa2 (List.length p0.Stack) pc2, .int .i64 p0.In, .slice pa3 (List.length p0.Out) pc3, .int .i64 p0.Code, .int .i64 p0.Steps], SL (α := Int) 3 (.slice pa0 (List.length p0.Regs) pc0) p0.Regs, SL (α := Int) 3 (.slice pa1 (List.length p0.Mem) pc1) p0.Mem, SL (α := Int) 3 (.slice pa2 (List.length p0.Stack) pc2) p0.Stack, SL (α := Int) 3 (.slice pa3 (List.length p0.Out) pc3) p0.Out] w3 S2 := Sep.pick [1, 2, 3, 4, 5] hs (by decide) rfl
    obtain ⟨x1, hx1, h⟩ := bindE h
    refine q_set (q := p2.B) 1 hs hM0 rfl Try.underlying26 ty3 rfl rfl rfl rfl hF rfl rfl (by simp) rfl rfl hx1 fun w4 S3 fr _ hs hp hF => ?_
    have hM0 := hM0.stp hp
    have hs : Sep [BX b1 28 [.int .i64 p0.Pc, .slice pa0 (List.length p0.Regs) pc0, .slice pa1 (List.length p0.Mem) pc1, .slice pa2 (List.length p0.Stack) pc2, .int .i64 p0.In, .slice pa3 (List.length p0.Out) pc3, .int .i64 p0.Code, .int .i64 p0.Steps], SL (α := Int) 3 (.slice pa0 (List.length p0.Regs) pc0) x1, SL (α := Int) 3 (.slice pa1 (List.length p0.Mem) pc1) p0.Mem, SL (α := Int) 3 (.slice pa2 (List.length p0.Stack) pc2) p0.Stack, SL (α := Int) 3 (.slice pa3 (List.length p0.Out) pc3) p0.Out] w4 S3 := hs
    refine from_end rfl ?_
    refine blk_normal (then_normal ?_)
    refine (wp_text' ?_)
    refine from_pure 4 [(247, .int .i64 (w64 (p0.Pc + 1))), (249, .pointer (some ⟨b1, 0, none⟩))] hF (by kernel_rfl) fun fr hF => ?_
    refine q_storeBox 0 hs hM0 rfl [.int .i64 (w64 (p0.Pc + 1)), .slice pa0 (List.length p0.Regs) pc0, .slice pa1 (List.length p0.Mem) pc1, .slice pa2 (List.length p0.Stack) pc2, .int .i64 p0.In, .slice pa3 (List.length p0.Out) pc3, .int .i64 p0.Code, .int .i64 p0.Steps] rfl hF rfl rfl (by kernel_rfl) rfl rfl rfl fun w5 S4 hs hp hF => ?_
    have hM0 := hM0.stp hp
    have hs : Sep [BX b1 28 [.int .i64 (w64 (p0.Pc + 1)), .slice pa0 (List.length p0.Regs) pc0, .slice pa1 (List.length p0.Mem) pc1, .slice pa2 (List.length p0.Stack) pc2, .int .i64 p0.In, .slice pa3 (List.length p0.Out) pc3, .int .i64 p0.Code, .int .i64 p0.Steps], SL (α := Int) 3 (.slice pa0 (List.length p0.Regs) pc0) x1, SL (α := Int) 3 (.slice pa1 (List.length p0.Mem) pc1) p0.Mem, SL (α := Int) 3 (.slice pa2 (List.length p0.Stack) pc2) p0.Stack, SL (α := Int) 3 (.slice pa3 (List.length p0.Out) pc3) p0.Out] w5 S4 := hs
    refine from_end rfl ?_
    have hrets := fun {σ : List (Nat × Value)} (h : σ = []) => (by subst h; exact Rets.nil : Rets Try.prog σ w5 [] [])
    obtain rfl := Option.some.inj h
    obtain ⟨he1, hs⟩ := hs.relen 1 rfl
    have hs : Sep [BX b1 28 [.int .i64 (w64 (p0.Pc + 1)), .slice pa0 (List.length p0.Regs) pc0, .slice pa1 (List.length p0.Mem) pc1, .slice pa2 (List.length p0.Stack) pc2, .int .i64 p0.In, .slice pa3 (List.length p0.Out) pc3, .int .i64 p0.Code, .int .i64 p0.Steps], SL (α := Int) 3 (.slice pa0 (List.length x1) pc0) x1, SL (α := Int) 3 (.slice pa1 (List.length p0.Mem) pc1) p0.Mem, SL (α := Int) 3 (.slice pa2 (List.length p0.Stack) pc2) p0.Stack, SL (α := Int) 3 (.slice pa3 (List.length p0.Out) pc3) p0.Out] w5 S4 := hs
    have hs : Sep [BX b1 28 [.int .i64 (w64 (p0.Pc + 1)), .slice pa0 (List.length x1) pc0, .slice pa1 (List.length p0.Mem) pc1, .slice pa2 (List.length p0.Stack) pc2, .int .i64 p0.In, .slice pa3 (List.length p0.Out) pc3, .int .i64 p0.Code, .int .i64 p0.Steps], SL (α := Int) 3 (.slice pa0 (List.length x1) pc0) x1, SL (α := Int) 3 (.slice pa1 (List.length p0.Mem) pc1) p0.Mem, SL (α := Int) 3 (.slice pa2 (List.length p0.Stack) pc2) p0.Stack, SL (α := Int) 3 (.slice pa3 (List.length p0.Out) pc3) p0.Out] w5 S4 := by rw [he1] at hs; exact hs
    exact (retGn (rs := []) rfl (hF.sub [] (by kernel_rfl)) (hrets rfl) rfl ⟨_, rfl, pa0, pc0, pa1, pc1, pa2, pc2, pa3, pc3, rfl, S4, hM0.out, hs⟩)
  replace h := iteF hb h
  refine wp_seq (wp_pure [(0, .pointer (some ⟨b1, 0, none⟩)), (3, .slice a2 (List.length p3) c2), (5, .pointer (some ⟨b2, 0, none⟩)), (6, .pointer (some ⟨b3, 0, none⟩)), (8, .int .i64 (w64 (p0.Pc + 1))), (15, .int .i64 p2.Op), (27, .bool (p2.Op == 2))] hF (by kernel_rfl) fun fr hF => then_normal ?_)
  refine (wp_if hF (b := (p2.Op == 2)) rfl (fun hb => ?_) (fun hb => ?_))
  · replace h := iteT hb h
    have hs : Sep [BX b3 66 [.int .i64 p2.Op, .int .i64 p2.A, .int .i64 p2.B, .int .i64 p2.C], BX b1 28 [.int .i64 p0.Pc, .slice pa0 (List.length p0.Regs) pc0, .slice pa1 (List.length p0.Mem) pc1, .slice pa2 (List.length p0.Stack) pc2, .int .i64 p0.In, .slice pa3 (List.length p0.Out) pc3, .int .i64 p0.Code, .int .i64 p0.Steps], SL (α := Int) 3 (.slice pa0 (List.length p0.Regs) pc0) p0.Regs, SL (α := Int) 3 (.slice pa1 (List.length p0.Mem) pc1) p0.Mem, SL (α := Int) 3 (.slice pa2 (List.length p0.Stack) pc2) p0.Stack, SL (α := Int) 3 (.slice pa3 (List.length p0.Out) pc3) p0.Out] w2 S2 := Sep.pick [0, 2, 3, 4, 5, 6] hs (by decide) rfl
    obtain ⟨x2, hx2, h⟩ := bindE h
    refine (region_bm 14 [0, 1, 3, 7, 0, 16, 0, 64, 192, 448, 0, 1024, 4032, 8128, 16383, 32767] [true, true, true, false, true, false, true, true, true, false, true, false, false, false]
        [.eq (.pointer (some ⟨b1, 0, none⟩)), .eq (.pointer (some ⟨b1, 0, none⟩)), .eq (.pointer (some ⟨b1, 1, none⟩)), .eq (.slice pa0 (List.length p0.Regs) pc0), .eq (.pointer (some ⟨b3, 1, none⟩)), .eq (.int .i64 p2.A), .eq (.pointer (some ⟨b1, 0, none⟩)), .eq (.pointer (some ⟨b1, 0, none⟩)), .eq (.pointer (some ⟨b1, 1, none⟩)), .eq (.slice pa0 (List.length p0.Regs) pc0), .eq (.pointer (some ⟨b3, 2, none⟩)), .eq (.int .i64 p2.B), .is fun v w => ElemP w (fun k => k < w2.heap.size) v (x2 : Int), .eq (.int .i64 x2), .any, .any]
        [(0, .pointer (some ⟨b1, 0, none⟩)), (8, .int .i64 (w64 (p0.Pc + 1))), (32, .slice pa0 (List.length p0.Regs) pc0), (34, .int .i64 p2.A), (42, .int .i64 x2)] mix hF (by kernel_rfl) (by kernel_rfl) (by kernel_rfl) (by kernel_rfl) ⟨Pd.monoO_eq, Pd.monoO_eq, Pd.monoO_eq, Pd.monoO_eq, (Pd.monoO_is mono_elem), Pd.monoO_eq, trivial⟩ (fun ow hG => ⟨np_to ow (np_loadBox hG hF ty26 rfl rfl (hs.bx 1 rfl) rfl rfl rfl), np_to ow (np_loadBox hG hF ty3 rfl rfl (hs.bx 0 rfl) rfl rfl rfl), np_to ow (np_loadBox hG hF ty26 rfl rfl (hs.bx 1 rfl) rfl rfl rfl), np_to ow (np_loadBox hG hF ty3 rfl rfl (hs.bx 0 rfl) rfl rfl rfl), np_to ow (np_index hG hF ty3 Try.underlying26 rfl rfl (RV.sub (hs.rv 2 rfl) fun k hk _ => hk) rfl rfl (fun hg => ⟨get?_nn hx2, get?_at hx2⟩)), np_to ow (np_loadF (z := x2) (i := 12) hG hF ty3 rfl rfl rfl rfl rfl rfl rfl), trivial⟩) (by kernel_rfl) fun ow fr w6 hF hE hc => ?_)
    have hs := hs.ext hc
    have hM0 := hM0.ext hc
    have hs : Sep [BX b1 28 [.int .i64 p0.Pc, .slice pa0 (List.length p0.Regs) pc0, .slice pa1 (List.length p0.Mem) pc1, .slice pa2 (List.length p0.Stack) pc2, .int .i64 p0.In, .slice pa3 (List.length p0.Out) pc3, .int .i64 p0.Code, .int .i64 p0.Steps], SL (α := Int) 3 (.slice pa0 (List.length p0.Regs) pc0) p0.Regs, SL (α := Int) 3 (.slice pa1 (List.length p0.Mem) pc1) p0.Mem, SL (α := Int) 3 (.slice pa2 (List.length p0.Stack) pc2) p0.Stack, SL (α := Int) 3 (.slice pa3 (List.length p0.Out) pc3) p0.Out] w6 S2 := Sep.pick [1, 2, 3, 4, 5] hs (by decide) rfl
    obtain ⟨x3, hx3, h⟩ := bindE h
    refine q_set (q := x2) 1 hs hM0 rfl Try.underlying26 ty3 rfl rfl rfl rfl hF rfl rfl (by simp) rfl rfl hx3 fun w7 S5 fr _ hs hp hF => ?_
    have hM0 := hM0.stp hp
    have hs : Sep [BX b1 28 [.int .i64 p0.Pc, .slice pa0 (List.length p0.Regs) pc0, .slice pa1 (List.length p0.Mem) pc1, .slice pa2 (List.length p0.Stack) pc2, .int .i64 p0.In, .slice pa3 (List.length p0.Out) pc3, .int .i64 p0.Code, .int .i64 p0.Steps], SL (α := Int) 3 (.slice pa0 (List.length p0.Regs) pc0) x3, SL (α := Int) 3 (.slice pa1 (List.length p0.Mem) pc1) p0.Mem, SL (α := Int) 3 (.slice pa2 (List.length p0.Stack) pc2) p0.Stack, SL (α := Int) 3 (.slice pa3 (List.length p0.Out) pc3) p0.Out] w7 S5 := hs
    refine from_end rfl ?_
    refine blk_normal (then_normal ?_)
    refine (wp_text' ?_)
    refine from_pure 4 [(247, .int .i64 (w64 (p0.Pc + 1))), (249, .pointer (some ⟨b1, 0, none⟩))] hF (by kernel_rfl) fun fr hF => ?_
    refine q_storeBox 0 hs hM0 rfl [.int .i64 (w64 (p0.Pc + 1)), .slice pa0 (List.length p0.Regs) pc0, .slice pa1 (List.length p0.Mem) pc1, .slice pa2 (List.length p0.Stack) pc2, .int .i64 p0.In, .slice pa3 (List.length p0.Out) pc3, .int .i64 p0.Code, .int .i64 p0.Steps] rfl hF rfl rfl (by kernel_rfl) rfl rfl rfl fun w8 S6 hs hp hF => ?_
    have hM0 := hM0.stp hp
    have hs : Sep [BX b1 28 [.int .i64 (w64 (p0.Pc + 1)), .slice pa0 (List.length p0.Regs) pc0, .slice pa1 (List.length p0.Mem) pc1, .slice pa2 (List.length p0.Stack) pc2, .int .i64 p0.In, .slice pa3 (List.length p0.Out) pc3, .int .i64 p0.Code, .int .i64 p0.Steps], SL (α := Int) 3 (.slice pa0 (List.length p0.Regs) pc0) x3, SL (α := Int) 3 (.slice pa1 (List.length p0.Mem) pc1) p0.Mem, SL (α := Int) 3 (.slice pa2 (List.length p0.Stack) pc2) p0.Stack, SL (α := Int) 3 (.slice pa3 (List.length p0.Out) pc3) p0.Out] w8 S6 := hs
    refine from_end rfl ?_
    have hrets := fun {σ : List (Nat × Value)} (h : σ = []) => (by subst h; exact Rets.nil : Rets Try.prog σ w8 [] [])
    obtain rfl := Option.some.inj h
    obtain ⟨he2, hs⟩ := hs.relen 1 rfl
    have hs : Sep [BX b1 28 [.int .i64 (w64 (p0.Pc + 1)), .slice pa0 (List.length p0.Regs) pc0, .slice pa1 (List.length p0.Mem) pc1, .slice pa2 (List.length p0.Stack) pc2, .int .i64 p0.In, .slice pa3 (List.length p0.Out) pc3, .int .i64 p0.Code, .int .i64 p0.Steps], SL (α := Int) 3 (.slice pa0 (List.length x3) pc0) x3, SL (α := Int) 3 (.slice pa1 (List.length p0.Mem) pc1) p0.Mem, SL (α := Int) 3 (.slice pa2 (List.length p0.Stack) pc2) p0.Stack, SL (α := Int) 3 (.slice pa3 (List.length p0.Out) pc3) p0.Out] w8 S6 := hs
    have hs : Sep [BX b1 28 [.int .i64 (w64 (p0.Pc + 1)), .slice pa0 (List.length x3) pc0, .slice pa1 (List.length p0.Mem) pc1, .slice pa2 (List.length p0.Stack) pc2, .int .i64 p0.In, .slice pa3 (List.length p0.Out) pc3, .int .i64 p0.Code, .int .i64 p0.Steps], SL (α := Int) 3 (.slice pa0 (List.length x3) pc0) x3, SL (α := Int) 3 (.slice pa1 (List.length p0.Mem) pc1) p0.Mem, SL (α := Int) 3 (.slice pa2 (List.length p0.Stack) pc2) p0.Stack, SL (α := Int) 3 (.slice pa3 (List.length p0.Out) pc3) p0.Out] w8 S6 := by rw [he2] at hs; exact hs
    exact (retGn (rs := []) rfl (hF.sub [] (by kernel_rfl)) (hrets rfl) rfl ⟨_, rfl, pa0, pc0, pa1, pc1, pa2, pc2, pa3, pc3, rfl, S6, hM0.out, hs⟩)
  replace h := iteF hb h
  refine wp_seq (wp_pure [(0, .pointer (some ⟨b1, 0, none⟩)), (3, .slice a2 (List.length p3) c2), (5, .pointer (some ⟨b2, 0, none⟩)), (6, .pointer (some ⟨b3, 0, none⟩)), (8, .int .i64 (w64 (p0.Pc + 1))), (15, .int .i64 p2.Op), (44, .bool (p2.Op == 3))] hF (by kernel_rfl) fun fr hF => then_normal ?_)
  refine (wp_if hF (b := (p2.Op == 3)) rfl (fun hb => ?_) (fun hb => ?_))
  · replace h := iteT hb h
    obtain ⟨x4, hx4, h⟩ := bindE h
    obtain ⟨x5, hx5, h⟩ := bindE h
    obtain ⟨x6, hx6, h⟩ := bindE h
    refine (region_bm 27 [0, 1, 3, 7, 0, 16, 0, 64, 0, 256, 0, 1024, 3072, 7168, 0, 16384, 64512, 130048, 0, 262144, 786432, 1835008, 0, 4194304, 16515072, 33292288, 67108800, 134217727, 268435455] [true, true, true, false, true, false, true, false, true, false, true, true, true, false, true, false, false, false, true, true, true, false, true, false, false, false, false]
        [.eq (.pointer (some ⟨b1, 0, none⟩)), .eq (.pointer (some ⟨b1, 0, none⟩)), .eq (.pointer (some ⟨b1, 1, none⟩)), .eq (.slice pa0 (List.length p0.Regs) pc0), .eq (.pointer (some ⟨b3, 1, none⟩)), .eq (.int .i64 p2.A), .eq (.pointer (some ⟨b3, 3, none⟩)), .eq (.int .i64 p2.C), .eq (.pointer (some ⟨b2, 0, none⟩)), .eq (.int .i64 p1.W), .eq (.pointer (some ⟨b1, 0, none⟩)), .eq (.pointer (some ⟨b1, 0, none⟩)), .eq (.pointer (some ⟨b1, 1, none⟩)), .eq (.slice pa0 (List.length p0.Regs) pc0), .eq (.pointer (some ⟨b3, 1, none⟩)), .eq (.int .i64 p2.A), .is fun v w => ElemP w (fun k => k < w2.heap.size) v (x4 : Int), .eq (.int .i64 x4), .eq (.pointer (some ⟨b1, 0, none⟩)), .eq (.pointer (some ⟨b1, 0, none⟩)), .eq (.pointer (some ⟨b1, 1, none⟩)), .eq (.slice pa0 (List.length p0.Regs) pc0), .eq (.pointer (some ⟨b3, 2, none⟩)), .eq (.int .i64 p2.B), .is fun v w => ElemP w (fun k => k < w2.heap.size) v (x5 : Int), .eq (.int .i64 x5), .eq (.int .i64 x6), .any, .any]
        [(0, .pointer (some ⟨b1, 0, none⟩)), (8, .int .i64 (w64 (p0.Pc + 1))), (49, .slice pa0 (List.length p0.Regs) pc0), (51, .int .i64 p2.A), (72, .int .i64 x6)] mix hF (by kernel_rfl) (by kernel_rfl) (by kernel_rfl) (by kernel_rfl) ⟨Pd.monoO_eq, Pd.monoO_eq, Pd.monoO_eq, Pd.monoO_eq, Pd.monoO_eq, Pd.monoO_eq, (Pd.monoO_is mono_elem), Pd.monoO_eq, Pd.monoO_eq, Pd.monoO_eq, (Pd.monoO_is mono_elem), Pd.monoO_eq, Pd.monoO_eq, trivial⟩ (fun ow hG => ⟨np_to ow (np_loadBox hG hF ty26 rfl rfl (hs.bx 2 rfl) rfl rfl rfl), np_to ow (np_loadBox hG hF ty3 rfl rfl (hs.bx 0 rfl) rfl rfl rfl), np_to ow (np_loadBox hG hF ty3 rfl rfl (hs.bx 0 rfl) rfl rfl rfl), np_to ow (np_loadBox hG hF ty3 rfl rfl (hs.bx 1 rfl) rfl rfl rfl), np_to ow (np_loadBox hG hF ty26 rfl rfl (hs.bx 2 rfl) rfl rfl rfl), np_to ow (np_loadBox hG hF ty3 rfl rfl (hs.bx 0 rfl) rfl rfl rfl), np_to ow (np_index hG hF ty3 Try.underlying26 rfl rfl (RV.sub (hs.rv 3 rfl) fun k hk _ => hk) rfl rfl (fun hg => ⟨get?_nn hx4, get?_at hx4⟩)), np_to ow (np_loadF (z := x4) (i := 16) hG hF ty3 rfl rfl rfl rfl rfl rfl rfl), np_to ow (np_loadBox hG hF ty26 rfl rfl (hs.bx 2 rfl) rfl rfl rfl), np_to ow (np_loadBox hG hF ty3 rfl rfl (hs.bx 0 rfl) rfl rfl rfl), np_to ow (np_index hG hF ty3 Try.underlying26 rfl rfl (RV.sub (hs.rv 3 rfl) fun k hk _ => hk) rfl rfl (fun hg => ⟨get?_nn hx5, get?_at hx5⟩)), np_to ow (np_loadF (z := x5) (i := 24) hG hF ty3 rfl rfl rfl rfl rfl rfl rfl), np_to ow (np_call [.int .i64 p2.C, .int .i64 p1.W, .int .i64 x4, .int .i64 x5] hG hF Try.call82 rfl rfl (fun w hC hg => (impl_ApplyBinary_ok p2.C p1.W x4 x5 hx6).mono fun e w' ⟨v, he, hv, hc⟩ => ⟨v, he, hc, hv⟩)), trivial⟩) (by kernel_rfl) fun ow fr w9 hF hE hc => ?_)
    have r1 := r1.ext hc
    have hs := hs.ext hc
    have hM0 := hM0.ext hc
    have hs : Sep [BX b1 28 [.int .i64 p0.Pc, .slice pa0 (List.length p0.Regs) pc0, .slice pa1 (List.length p0.Mem) pc1, .slice pa2 (List.length p0.Stack) pc2, .int .i64 p0.In, .slice pa3 (List.length p0.Out) pc3, .int .i64 p0.Code, .int .i64 p0.Steps], SL (α := Int) 3 (.slice pa0 (List.length p0.Regs) pc0) p0.Regs, SL (α := Int) 3 (.slice pa1 (List.length p0.Mem) pc1) p0.Mem, SL (α := Int) 3 (.slice pa2 (List.length p0.Stack) pc2) p0.Stack, SL (α := Int) 3 (.slice pa3 (List.length p0.Out) pc3) p0.Out] w9 S2 := Sep.pick [2, 3, 4, 5, 6] hs (by decide) rfl
    obtain ⟨x7, hx7, h⟩ := bindE h
    refine q_set (q := x6) 1 hs hM0 rfl Try.underlying26 ty3 rfl rfl rfl rfl hF rfl rfl (by simp) rfl rfl hx7 fun w10 S7 fr _ hs hp hF => ?_
    have hM0 := hM0.stp hp
    have hs : Sep [BX b1 28 [.int .i64 p0.Pc, .slice pa0 (List.length p0.Regs) pc0, .slice pa1 (List.length p0.Mem) pc1, .slice pa2 (List.length p0.Stack) pc2, .int .i64 p0.In, .slice pa3 (List.length p0.Out) pc3, .int .i64 p0.Code, .int .i64 p0.Steps], SL (α := Int) 3 (.slice pa0 (List.length p0.Regs) pc0) x7, SL (α := Int) 3 (.slice pa1 (List.length p0.Mem) pc1) p0.Mem, SL (α := Int) 3 (.slice pa2 (List.length p0.Stack) pc2) p0.Stack, SL (α := Int) 3 (.slice pa3 (List.length p0.Out) pc3) p0.Out] w10 S7 := hs
    refine from_end rfl ?_
    refine blk_normal (then_normal ?_)
    refine (wp_text' ?_)
    refine from_pure 4 [(247, .int .i64 (w64 (p0.Pc + 1))), (249, .pointer (some ⟨b1, 0, none⟩))] hF (by kernel_rfl) fun fr hF => ?_
    refine q_storeBox 0 hs hM0 rfl [.int .i64 (w64 (p0.Pc + 1)), .slice pa0 (List.length p0.Regs) pc0, .slice pa1 (List.length p0.Mem) pc1, .slice pa2 (List.length p0.Stack) pc2, .int .i64 p0.In, .slice pa3 (List.length p0.Out) pc3, .int .i64 p0.Code, .int .i64 p0.Steps] rfl hF rfl rfl (by kernel_rfl) rfl rfl rfl fun w11 S8 hs hp hF => ?_
    have hM0 := hM0.stp hp
    have hs : Sep [BX b1 28 [.int .i64 (w64 (p0.Pc + 1)), .slice pa0 (List.length p0.Regs) pc0, .slice pa1 (List.length p0.Mem) pc1, .slice pa2 (List.length p0.Stack) pc2, .int .i64 p0.In, .slice pa3 (List.length p0.Out) pc3, .int .i64 p0.Code, .int .i64 p0.Steps], SL (α := Int) 3 (.slice pa0 (List.length p0.Regs) pc0) x7, SL (α := Int) 3 (.slice pa1 (List.length p0.Mem) pc1) p0.Mem, SL (α := Int) 3 (.slice pa2 (List.length p0.Stack) pc2) p0.Stack, SL (α := Int) 3 (.slice pa3 (List.length p0.Out) pc3) p0.Out] w11 S8 := hs
    refine from_end rfl ?_
    have hrets := fun {σ : List (Nat × Value)} (h : σ = []) => (by subst h; exact Rets.nil : Rets Try.prog σ w11 [] [])
    obtain rfl := Option.some.inj h
    obtain ⟨he3, hs⟩ := hs.relen 1 rfl
    have hs : Sep [BX b1 28 [.int .i64 (w64 (p0.Pc + 1)), .slice pa0 (List.length p0.Regs) pc0, .slice pa1 (List.length p0.Mem) pc1, .slice pa2 (List.length p0.Stack) pc2, .int .i64 p0.In, .slice pa3 (List.length p0.Out) pc3, .int .i64 p0.Code, .int .i64 p0.Steps], SL (α := Int) 3 (.slice pa0 (List.length x7) pc0) x7, SL (α := Int) 3 (.slice pa1 (List.length p0.Mem) pc1) p0.Mem, SL (α := Int) 3 (.slice pa2 (List.length p0.Stack) pc2) p0.Stack, SL (α := Int) 3 (.slice pa3 (List.length p0.Out) pc3) p0.Out] w11 S8 := hs
    have hs : Sep [BX b1 28 [.int .i64 (w64 (p0.Pc + 1)), .slice pa0 (List.length x7) pc0, .slice pa1 (List.length p0.Mem) pc1, .slice pa2 (List.length p0.Stack) pc2, .int .i64 p0.In, .slice pa3 (List.length p0.Out) pc3, .int .i64 p0.Code, .int .i64 p0.Steps], SL (α := Int) 3 (.slice pa0 (List.length x7) pc0) x7, SL (α := Int) 3 (.slice pa1 (List.length p0.Mem) pc1) p0.Mem, SL (α := Int) 3 (.slice pa2 (List.length p0.Stack) pc2) p0.Stack, SL (α := Int) 3 (.slice pa3 (List.length p0.Out) pc3) p0.Out] w11 S8 := by rw [he3] at hs; exact hs
    exact (retGn (rs := []) rfl (hF.sub [] (by kernel_rfl)) (hrets rfl) rfl ⟨_, rfl, pa0, pc0, pa1, pc1, pa2, pc2, pa3, pc3, rfl, S8, hM0.out, hs⟩)
  replace h := iteF hb h
  refine wp_seq (wp_pure [(0, .pointer (some ⟨b1, 0, none⟩)), (3, .slice a2 (List.length p3) c2), (5, .pointer (some ⟨b2, 0, none⟩)), (6, .pointer (some ⟨b3, 0, none⟩)), (8, .int .i64 (w64 (p0.Pc + 1))), (15, .int .i64 p2.Op), (74, .bool (p2.Op == 4))] hF (by kernel_rfl) fun fr hF => then_normal ?_)
  refine (wp_if hF (b := (p2.Op == 4)) rfl (fun hb => ?_) (fun hb => ?_))
  · replace h := iteT hb h
    obtain ⟨x8, hx8, h⟩ := bindE h
    obtain ⟨x9, hx9, h⟩ := bindE h
    refine (region_bm 17 [0, 1, 3, 7, 0, 16, 0, 64, 0, 256, 768, 1792, 0, 4096, 16128, 32512, 65472, 131071, 262143] [true, true, true, false, true, false, true, false, true, true, true, false, true, false, false, false, false]
        [.eq (.pointer (some ⟨b1, 0, none⟩)), .eq (.pointer (some ⟨b1, 0, none⟩)), .eq (.pointer (some ⟨b1, 1, none⟩)), .eq (.slice pa0 (List.length p0.Regs) pc0), .eq (.pointer (some ⟨b3, 1, none⟩)), .eq (.int .i64 p2.A), .eq (.pointer (some ⟨b2, 0, none⟩)), .eq (.int .i64 p1.W), .eq (.pointer (some ⟨b1, 0, none⟩)), .eq (.pointer (some ⟨b1, 0, none⟩)), .eq (.pointer (some ⟨b1, 1, none⟩)), .eq (.slice pa0 (List.length p0.Regs) pc0), .eq (.pointer (some ⟨b3, 1, none⟩)), .eq (.int .i64 p2.A), .is fun v w => ElemP w (fun k => k < w2.heap.size) v (x8 : Int), .eq (.int .i64 x8), .eq (.int .i64 x9), .any, .any]
        [(0, .pointer (some ⟨b1, 0, none⟩)), (8, .int .i64 (w64 (p0.Pc + 1))), (79, .slice pa0 (List.length p0.Regs) pc0), (81, .int .i64 p2.A), (92, .int .i64 x9)] mix hF (by kernel_rfl) (by kernel_rfl) (by kernel_rfl) (by kernel_rfl) ⟨Pd.monoO_eq, Pd.monoO_eq, Pd.monoO_eq, Pd.monoO_eq, Pd.monoO_eq, (Pd.monoO_is mono_elem), Pd.monoO_eq, Pd.monoO_eq, trivial⟩ (fun ow hG => ⟨np_to ow (np_loadBox hG hF ty26 rfl rfl (hs.bx 2 rfl) rfl rfl rfl), np_to ow (np_loadBox hG hF ty3 rfl rfl (hs.bx 0 rfl) rfl rfl rfl), np_to ow (np_loadBox hG hF ty3 rfl rfl (hs.bx 1 rfl) rfl rfl rfl), np_to ow (np_loadBox hG hF ty26 rfl rfl (hs.bx 2 rfl) rfl rfl rfl), np_to ow (np_loadBox hG hF ty3 rfl rfl (hs.bx 0 rfl) rfl rfl rfl), np_to ow (np_index hG hF ty3 Try.underlying26 rfl rfl (RV.sub (hs.rv 3 rfl) fun k hk _ => hk) rfl rfl (fun hg => ⟨get?_nn hx8, get?_at hx8⟩)), np_to ow (np_loadF (z := x8) (i := 14) hG hF ty3 rfl rfl rfl rfl rfl rfl rfl), np_to ow (np_call [.int .i64 1, .int .i64 p1.W, .int .i64 x8] hG hF Try.call83 rfl rfl (fun w hC hg => (impl_ApplyUnary_ok 1 p1.W x8 hx9).mono fun e w' ⟨v, he, hv, hc⟩ => ⟨v, he, hc, hv⟩)), trivial⟩) (by kernel_rfl) fun ow fr w12 hF hE hc => ?_)
    have r1 := r1.ext hc
    have hs := hs.ext hc
    have hM0 := hM0.ext hc
    have hs : Sep [BX b1 28 [.int .i64 p0.Pc, .slice pa0 (List.length p0.Regs) pc0, .slice pa1 (List.length p0.Mem) pc1, .slice pa2 (List.length p0.Stack) pc2, .int .i64 p0.In, .slice pa3 (List.length p0.Out) pc3, .int .i64 p0.Code, .int .i64 p0.Steps], SL (α := Int) 3 (.slice pa0 (List.length p0.Regs) pc0) p0.Regs, SL (α := Int) 3 (.slice pa1 (List.length p0.Mem) pc1) p0.Mem, SL (α := Int) 3 (.slice pa2 (List.length p0.Stack) pc2) p0.Stack, SL (α := Int) 3 (.slice pa3 (List.length p0.Out) pc3) p0.Out] w12 S2 := Sep.pick [2, 3, 4, 5, 6] hs (by decide) rfl
    obtain ⟨x10, hx10, h⟩ := bindE h
    refine q_set (q := x9) 1 hs hM0 rfl Try.underlying26 ty3 rfl rfl rfl rfl hF rfl rfl (by simp) rfl rfl hx10 fun w13 S9 fr _ hs hp hF => ?_
    have hM0 := hM0.stp hp
    have hs : Sep [BX b1 28 [.int .i64 p0.Pc, .slice pa0 (List.length p0.Regs) pc0, .slice pa1 (List.length p0.Mem) pc1, .slice pa2 (List.length p0.Stack) pc2, .int .i64 p0.In, .slice pa3 (List.length p0.Out) pc3, .int .i64 p0.Code, .int .i64 p0.Steps], SL (α := Int) 3 (.slice pa0 (List.length p0.Regs) pc0) x10, SL (α := Int) 3 (.slice pa1 (List.length p0.Mem) pc1) p0.Mem, SL (α := Int) 3 (.slice pa2 (List.length p0.Stack) pc2) p0.Stack, SL (α := Int) 3 (.slice pa3 (List.length p0.Out) pc3) p0.Out] w13 S9 := hs
    refine from_end rfl ?_
    refine blk_normal (then_normal ?_)
    refine (wp_text' ?_)
    refine from_pure 4 [(247, .int .i64 (w64 (p0.Pc + 1))), (249, .pointer (some ⟨b1, 0, none⟩))] hF (by kernel_rfl) fun fr hF => ?_
    refine q_storeBox 0 hs hM0 rfl [.int .i64 (w64 (p0.Pc + 1)), .slice pa0 (List.length p0.Regs) pc0, .slice pa1 (List.length p0.Mem) pc1, .slice pa2 (List.length p0.Stack) pc2, .int .i64 p0.In, .slice pa3 (List.length p0.Out) pc3, .int .i64 p0.Code, .int .i64 p0.Steps] rfl hF rfl rfl (by kernel_rfl) rfl rfl rfl fun w14 S10 hs hp hF => ?_
    have hM0 := hM0.stp hp
    have hs : Sep [BX b1 28 [.int .i64 (w64 (p0.Pc + 1)), .slice pa0 (List.length p0.Regs) pc0, .slice pa1 (List.length p0.Mem) pc1, .slice pa2 (List.length p0.Stack) pc2, .int .i64 p0.In, .slice pa3 (List.length p0.Out) pc3, .int .i64 p0.Code, .int .i64 p0.Steps], SL (α := Int) 3 (.slice pa0 (List.length p0.Regs) pc0) x10, SL (α := Int) 3 (.slice pa1 (List.length p0.Mem) pc1) p0.Mem, SL (α := Int) 3 (.slice pa2 (List.length p0.Stack) pc2) p0.Stack, SL (α := Int) 3 (.slice pa3 (List.length p0.Out) pc3) p0.Out] w14 S10 := hs
    refine from_end rfl ?_
    have hrets := fun {σ : List (Nat × Value)} (h : σ = []) => (by subst h; exact Rets.nil : Rets Try.prog σ w14 [] [])
    obtain rfl := Option.some.inj h
    obtain ⟨he4, hs⟩ := hs.relen 1 rfl
    have hs : Sep [BX b1 28 [.int .i64 (w64 (p0.Pc + 1)), .slice pa0 (List.length p0.Regs) pc0, .slice pa1 (List.length p0.Mem) pc1, .slice pa2 (List.length p0.Stack) pc2, .int .i64 p0.In, .slice pa3 (List.length p0.Out) pc3, .int .i64 p0.Code, .int .i64 p0.Steps], SL (α := Int) 3 (.slice pa0 (List.length x10) pc0) x10, SL (α := Int) 3 (.slice pa1 (List.length p0.Mem) pc1) p0.Mem, SL (α := Int) 3 (.slice pa2 (List.length p0.Stack) pc2) p0.Stack, SL (α := Int) 3 (.slice pa3 (List.length p0.Out) pc3) p0.Out] w14 S10 := hs
    have hs : Sep [BX b1 28 [.int .i64 (w64 (p0.Pc + 1)), .slice pa0 (List.length x10) pc0, .slice pa1 (List.length p0.Mem) pc1, .slice pa2 (List.length p0.Stack) pc2, .int .i64 p0.In, .slice pa3 (List.length p0.Out) pc3, .int .i64 p0.Code, .int .i64 p0.Steps], SL (α := Int) 3 (.slice pa0 (List.length x10) pc0) x10, SL (α := Int) 3 (.slice pa1 (List.length p0.Mem) pc1) p0.Mem, SL (α := Int) 3 (.slice pa2 (List.length p0.Stack) pc2) p0.Stack, SL (α := Int) 3 (.slice pa3 (List.length p0.Out) pc3) p0.Out] w14 S10 := by rw [he4] at hs; exact hs
    exact (retGn (rs := []) rfl (hF.sub [] (by kernel_rfl)) (hrets rfl) rfl ⟨_, rfl, pa0, pc0, pa1, pc1, pa2, pc2, pa3, pc3, rfl, S10, hM0.out, hs⟩)
  replace h := iteF hb h
  have hs : Sep [BX b3 66 [.int .i64 p2.Op, .int .i64 p2.A, .int .i64 p2.B, .int .i64 p2.C], BX b1 28 [.int .i64 p0.Pc, .slice pa0 (List.length p0.Regs) pc0, .slice pa1 (List.length p0.Mem) pc1, .slice pa2 (List.length p0.Stack) pc2, .int .i64 p0.In, .slice pa3 (List.length p0.Out) pc3, .int .i64 p0.Code, .int .i64 p0.Steps], SL (α := Int) 3 (.slice pa0 (List.length p0.Regs) pc0) p0.Regs, SL (α := Int) 3 (.slice pa1 (List.length p0.Mem) pc1) p0.Mem, SL (α := Int) 3 (.slice pa2 (List.length p0.Stack) pc2) p0.Stack, SL (α := Int) 3 (.slice pa3 (List.length p0.Out) pc3) p0.Out] w2 S2 := Sep.pick [0, 2, 3, 4, 5, 6] hs (by decide) rfl
  refine wp_seq (wp_pure [(0, .pointer (some ⟨b1, 0, none⟩)), (3, .slice a2 (List.length p3) c2), (6, .pointer (some ⟨b3, 0, none⟩)), (8, .int .i64 (w64 (p0.Pc + 1))), (15, .int .i64 p2.Op), (94, .bool (p2.Op == 5))] hF (by kernel_rfl) fun fr hF => then_normal ?_)
  refine (wp_if hF (b := (p2.Op == 5)) rfl (fun hb => ?_) (fun hb => ?_))
  · replace h := iteT hb h
    obtain ⟨x11, hx11, h⟩ := bindE h
    refine wp_seq (region_bm 13 [0, 1, 3, 7, 0, 16, 0, 0, 128, 384, 896, 1984, 4032, 8191, 16383] [true, true, true, false, true, false, true, true, true, true, false, false, false]
        [.eq (.pointer (some ⟨b1, 0, none⟩)), .eq (.pointer (some ⟨b1, 0, none⟩)), .eq (.pointer (some ⟨b1, 1, none⟩)), .eq (.slice pa0 (List.length p0.Regs) pc0), .eq (.pointer (some ⟨b3, 1, none⟩)), .eq (.int .i64 p2.A), .eq (.slice a2 (List.length p3) c2), .eq (.pointer (some ⟨b1, 0, none⟩)), .eq (.pointer (some ⟨b1, 0, none⟩)), .eq (.pointer (some ⟨b1, 4, none⟩)), .eq (.int .i64 p0.In), .is fun v w => ElemP w (fun k => k < w2.heap.size) v (x11 : Int), .eq (.int .i64 x11), .any, .any]
        [(0, .pointer (some ⟨b1, 0, none⟩)), (8, .int .i64 (w64 (p0.Pc + 1))), (99, .slice pa0 (List.length p0.Regs) pc0), (101, .int .i64 p2.A), (108, .int .i64 x11)] mix hF (by kernel_rfl) (by kernel_rfl) (by kernel_rfl) (by kernel_rfl) ⟨Pd.monoO_eq, Pd.monoO_eq, Pd.monoO_eq, (Pd.monoO_is mono_elem), Pd.monoO_eq, trivial⟩ (fun ow hG => ⟨np_to ow (np_loadBox hG hF ty26 rfl rfl (hs.bx 1 rfl) rfl rfl rfl), np_to ow (np_loadBox hG hF ty3 rfl rfl (hs.bx 0 rfl) rfl rfl rfl), np_to ow (np_loadBox hG hF ty3 rfl rfl (hs.bx 1 rfl) rfl rfl rfl), np_to ow (np_index hG hF ty3 Try.underlying26 rfl rfl (RV.sub (ra3) fun k hk _ => hk) rfl rfl (fun hg => ⟨get?_nn hx11, get?_at hx11⟩)), np_to ow (np_loadF (z := x11) (i := 11) hG hF ty3 rfl rfl rfl rfl rfl rfl rfl), trivial⟩) (by kernel_rfl) fun ow fr w15 hF hE hc => ?_)
    have ra3 := ra3.ext hc
    have hs := hs.ext hc
    have hM0 := hM0.ext hc
    have hs : Sep [BX b1 28 [.int .i64 p0.Pc, .slice pa0 (List.length p0.Regs) pc0, .slice pa1 (List.length p0.Mem) pc1, .slice pa2 (List.length p0.Stack) pc2, .int .i64 p0.In, .slice pa3 (List.length p0.Out) pc3, .int .i64 p0.Code, .int .i64 p0.Steps], SL (α := Int) 3 (.slice pa0 (List.length p0.Regs) pc0) p0.Regs, SL (α := Int) 3 (.slice pa1 (List.length p0.Mem) pc1) p0.Mem, SL (α := Int) 3 (.slice pa2 (List.length p0.Stack) pc2) p0.Stack, SL (α := Int) 3 (.slice pa3 (List.length p0.Out) pc3) p0.Out] w15 S2 := Sep.pick [1, 2, 3, 4, 5] hs (by decide) rfl
    obtain ⟨x12, hx12, h⟩ := bindE h
    refine q_set (q := x11) 1 hs hM0 rfl Try.underlying26 ty3 rfl rfl rfl rfl hF rfl rfl (by simp) rfl rfl hx12 fun w16 S11 fr _ hs hp hF => ?_
    have hM0 := hM0.stp hp
    have hs : Sep [BX b1 28 [.int .i64 p0.Pc, .slice pa0 (List.length p0.Regs) pc0, .slice pa1 (List.length p0.Mem) pc1, .slice pa2 (List.length p0.Stack) pc2, .int .i64 p0.In, .slice pa3 (List.length p0.Out) pc3, .int .i64 p0.Code, .int .i64 p0.Steps], SL (α := Int) 3 (.slice pa0 (List.length p0.Regs) pc0) x12, SL (α := Int) 3 (.slice pa1 (List.length p0.Mem) pc1) p0.Mem, SL (α := Int) 3 (.slice pa2 (List.length p0.Stack) pc2) p0.Stack, SL (α := Int) 3 (.slice pa3 (List.length p0.Out) pc3) p0.Out] w16 S11 := hs
    refine from_end rfl (then_normal ?_)
    refine (wp_text' ?_)
    refine from_pure 3 [(0, .pointer (some ⟨b1, 0, none⟩)), (8, .int .i64 (w64 (p0.Pc + 1))), (110, .pointer (some ⟨b1, 0, none⟩)), (112, .pointer (some ⟨b1, 4, none⟩))] hF (by kernel_rfl) fun fr hF => ?_
    refine s_loadBox (.int .i64 p0.In) ty3 rfl rfl hF rfl (hs.bx 0 rfl) rfl rfl fun fr hF => ?_
    refine from_pure 3 [(0, .pointer (some ⟨b1, 0, none⟩)), (8, .int .i64 (w64 (p0.Pc + 1))), (114, .int .i64 (w64 (p0.In + 1))), (116, .pointer (some ⟨b1, 4, none⟩))] hF (by kernel_rfl) fun fr hF => ?_
    refine q_storeBox 0 hs hM0 rfl [.int .i64 p0.Pc, .slice pa0 (List.length p0.Regs) pc0, .slice pa1 (List.length p0.Mem) pc1, .slice pa2 (List.length p0.Stack) pc2, .int .i64 (w64 (p0.In + 1)), .slice pa3 (List.length p0.Out) pc3, .int .i64 p0.Code, .int .i64 p0.Steps] rfl hF rfl rfl (by kernel_rfl) rfl rfl rfl fun w17 S12 hs hp hF => ?_
    have hM0 := hM0.stp hp
    have hs : Sep [BX b1 28 [.int .i64 p0.Pc, .slice pa0 (List.length p0.Regs) pc0, .slice pa1 (List.length p0.Mem) pc1, .slice pa2 (List.length p0.Stack) pc2, .int .i64 (w64 (p0.In + 1)), .slice pa3 (List.length p0.Out) pc3, .int .i64 p0.Code, .int .i64 p0.Steps], SL (α := Int) 3 (.slice pa0 (List.length p0.Regs) pc0) x12, SL (α := Int) 3 (.slice pa1 (List.length p0.Mem) pc1) p0.Mem, SL (α := Int) 3 (.slice pa2 (List.length p0.Stack) pc2) p0.Stack, SL (α := Int) 3 (.slice pa3 (List.length p0.Out) pc3) p0.Out] w17 S12 := hs
    refine from_end rfl ?_
    refine blk_normal (then_normal ?_)
    refine (wp_text' ?_)
    refine from_pure 4 [(247, .int .i64 (w64 (p0.Pc + 1))), (249, .pointer (some ⟨b1, 0, none⟩))] hF (by kernel_rfl) fun fr hF => ?_
    refine q_storeBox 0 hs hM0 rfl [.int .i64 (w64 (p0.Pc + 1)), .slice pa0 (List.length p0.Regs) pc0, .slice pa1 (List.length p0.Mem) pc1, .slice pa2 (List.length p0.Stack) pc2, .int .i64 (w64 (p0.In + 1)), .slice pa3 (List.length p0.Out) pc3, .int .i64 p0.Code, .int .i64 p0.Steps] rfl hF rfl rfl (by kernel_rfl) rfl rfl rfl fun w18 S13 hs hp hF => ?_
    have hM0 := hM0.stp hp
    have hs : Sep [BX b1 28 [.int .i64 (w64 (p0.Pc + 1)), .slice pa0 (List.length p0.Regs) pc0, .slice pa1 (List.length p0.Mem) pc1, .slice pa2 (List.length p0.Stack) pc2, .int .i64 (w64 (p0.In + 1)), .slice pa3 (List.length p0.Out) pc3, .int .i64 p0.Code, .int .i64 p0.Steps], SL (α := Int) 3 (.slice pa0 (List.length p0.Regs) pc0) x12, SL (α := Int) 3 (.slice pa1 (List.length p0.Mem) pc1) p0.Mem, SL (α := Int) 3 (.slice pa2 (List.length p0.Stack) pc2) p0.Stack, SL (α := Int) 3 (.slice pa3 (List.length p0.Out) pc3) p0.Out] w18 S13 := hs
    refine from_end rfl ?_
    have hrets := fun {σ : List (Nat × Value)} (h : σ = []) => (by subst h; exact Rets.nil : Rets Try.prog σ w18 [] [])
    obtain rfl := Option.some.inj h
    obtain ⟨he5, hs⟩ := hs.relen 1 rfl
    have hs : Sep [BX b1 28 [.int .i64 (w64 (p0.Pc + 1)), .slice pa0 (List.length p0.Regs) pc0, .slice pa1 (List.length p0.Mem) pc1, .slice pa2 (List.length p0.Stack) pc2, .int .i64 (w64 (p0.In + 1)), .slice pa3 (List.length p0.Out) pc3, .int .i64 p0.Code, .int .i64 p0.Steps], SL (α := Int) 3 (.slice pa0 (List.length x12) pc0) x12, SL (α := Int) 3 (.slice pa1 (List.length p0.Mem) pc1) p0.Mem, SL (α := Int) 3 (.slice pa2 (List.length p0.Stack) pc2) p0.Stack, SL (α := Int) 3 (.slice pa3 (List.length p0.Out) pc3) p0.Out] w18 S13 := hs
    have hs : Sep [BX b1 28 [.int .i64 (w64 (p0.Pc + 1)), .slice pa0 (List.length x12) pc0, .slice pa1 (List.length p0.Mem) pc1, .slice pa2 (List.length p0.Stack) pc2, .int .i64 (w64 (p0.In + 1)), .slice pa3 (List.length p0.Out) pc3, .int .i64 p0.Code, .int .i64 p0.Steps], SL (α := Int) 3 (.slice pa0 (List.length x12) pc0) x12, SL (α := Int) 3 (.slice pa1 (List.length p0.Mem) pc1) p0.Mem, SL (α := Int) 3 (.slice pa2 (List.length p0.Stack) pc2) p0.Stack, SL (α := Int) 3 (.slice pa3 (List.length p0.Out) pc3) p0.Out] w18 S13 := by rw [he5] at hs; exact hs
    exact (retGn (rs := []) rfl (hF.sub [] (by kernel_rfl)) (hrets rfl) rfl ⟨_, rfl, pa0, pc0, pa1, pc1, pa2, pc2, pa3, pc3, rfl, S13, hM0.out, hs⟩)
  replace h := iteF hb h
  refine wp_seq (wp_pure [(0, .pointer (some ⟨b1, 0, none⟩)), (6, .pointer (some ⟨b3, 0, none⟩)), (8, .int .i64 (w64 (p0.Pc + 1))), (15, .int .i64 p2.Op), (117, .bool (p2.Op == 6))] hF (by kernel_rfl) fun fr hF => then_normal ?_)
  refine (wp_if hF (b := (p2.Op == 6)) rfl (fun hb => ?_) (fun hb => ?_))
  · replace h := iteT hb h
    obtain ⟨x13, hx13, h⟩ := bindE h
    refine (region_bf 14 0 [0, 0, 2, 6, 14, 0, 32, 96, 224, 0, 512, 2016, 4064, 8160, 16382, 32767, 65535, 131071] [true, true, true, true, false, true, true, true, false, true, false, false, false, false]
        [.eq (.pointer (some ⟨b1, 0, none⟩)), .eq (.pointer (some ⟨b1, 0, none⟩)), .eq (.pointer (some ⟨b1, 0, none⟩)), .eq (.pointer (some ⟨b1, 5, none⟩)), .eq (.slice pa3 (List.length p0.Out) pc3), .eq (.pointer (some ⟨b1, 0, none⟩)), .eq (.pointer (some ⟨b1, 0, none⟩)), .eq (.pointer (some ⟨b1, 1, none⟩)), .eq (.slice pa0 (List.length p0.Regs) pc0), .eq (.pointer (some ⟨b3, 1, none⟩)), .eq (.int .i64 p2.A), .is fun v w => ElemP w (fun k => k < w2.heap.size) v (x13 : Int), .eq (.int .i64 x13), .own fun ow v w => ∃ i : Option Addr × Nat, v = .slice i.1 (List.length ([x13] : List Int)) i.2 ∧ (SL (α := Int) 3 (.slice i.1 (List.length ([x13] : List Int)) i.2) ([x13] : List Int)).ok w (fun k => w2.heap.size ≤ k ∧ k < w.heap.size ∧ ow k = 13), .any, .any, .any, .any]
        [(0, .pointer (some ⟨b1, 0, none⟩)), (8, .int .i64 (w64 (p0.Pc + 1))), (119, .pointer (some ⟨b1, 0, none⟩)), (123, .slice pa3 (List.length p0.Out) pc3)] mix hF (by kernel_rfl) (fun _ _ _ _ _ h => h) (by kernel_rfl) (by kernel_rfl) (by kernel_rfl) ⟨Pd.monoO_eq, Pd.monoO_eq, Pd.monoO_eq, (Pd.monoO_is mono_elem), Pd.monoO_eq, mono_new, trivial⟩ (fun ow hG => ⟨np_to ow (np_loadBox hG hF ty26 rfl rfl (hs.bx 1 rfl) rfl rfl rfl), np_to ow (np_loadBox hG hF ty26 rfl rfl (hs.bx 1 rfl) rfl rfl rfl), np_to ow (np_loadBox hG hF ty3 rfl rfl (hs.bx 0 rfl) rfl rfl rfl), np_to ow (np_index hG hF ty3 Try.underlying26 rfl rfl (RV.sub (hs.rv 2 rfl) fun k hk _ => hk) rfl rfl (fun hg => ⟨get?_nn hx13, get?_at hx13⟩)), np_to ow (np_loadF (z := x13) (i := 11) hG hF ty3 rfl rfl rfl rfl rfl rfl rfl), np_lit (E := 3) [.int .i64 x13] (([x13] : List Int).map Flat.enc) ([x13] : List Int) hG hF rfl [.int .i64 x13] rfl (fun w => by kernel_rfl) (fun w => css_flat _) rfl rfl rfl rfl, trivial⟩) (by kernel_rfl) fun ow fr w19 hF hE hc => ?_)
    obtain ⟨⟨a3, c3⟩, hv, hnw13⟩ := hE.is 132 13 rfl rfl
    have hF := hF.cons hv
    have hsN := sepO (w0 := w2) (ow := ow) [(13, SL (α := Int) 3 (.slice a3 (List.length ([x13] : List Int)) c3) ([x13] : List Int))] (show ([13] : List Nat).Nodup by decide) ⟨hnw13, trivial⟩ rfl
    obtain ⟨S14, hp, hs⟩ := hs.got hM0 (stp_new hc) hsN
    have hM0 := hM0.stp hp
    have hs : Sep [SL (α := Int) 3 (.slice a3 (List.length ([x13] : List Int)) c3) ([x13] : List Int), BX b3 66 [.int .i64 p2.Op, .int .i64 p2.A, .int .i64 p2.B, .int .i64 p2.C], BX b1 28 [.int .i64 p0.Pc, .slice pa0 (List.length p0.Regs) pc0, .slice pa1 (List.length p0.Mem) pc1, .slice pa2 (List.length p0.Stack) pc2, .int .i64 p0.In, .slice pa3 (List.length p0.Out) pc3, .int .i64 p0.Code, .int .i64 p0.Steps], SL (α := Int) 3 (.slice pa0 (List.length p0.Regs) pc0) p0.Regs, SL (α := Int) 3 (.slice pa1 (List.length p0.Mem) pc1) p0.Mem, SL (α := Int) 3 (.slice pa2 (List.length p0.Stack) pc2) p0.Stack, SL (α := Int) 3 (.slice pa3 (List.length p0.Out) pc3) p0.Out] w19 S14 := hs
    have hs : Sep [SL (α := Int) 3 (.slice a3 (List.length ([x13] : List Int)) c3) ([x13] : List Int), BX b1 28 [.int .i64 p0.Pc, .slice pa0 (List.length p0.Regs) pc0, .slice pa1 (List.length p0.Mem) pc1, .slice pa2 (List.length p0.Stack) pc2, .int .i64 p0.In, .slice pa3 (List.length p0.Out) pc3, .int .i64 p0.Code, .int .i64 p0.Steps], SL (α := Int) 3 (.slice pa0 (List.length p0.Regs) pc0) p0.Regs, SL (α := Int) 3 (.slice pa1 (List.length p0.Mem) pc1) p0.Mem, SL (α := Int) 3 (.slice pa2 (List.length p0.Stack) pc2) p0.Stack, SL (α := Int) 3 (.slice pa3 (List.length p0.Out) pc3) p0.Out] w19 S14 := Sep.pick [0, 2, 3, 4, 5, 6] hs (by decide) rfl
    obtain ⟨x14, hx14, h⟩ := bindE h
    refine q_append 5 hs hM0 rfl Try.underlying26 el3 rfl rfl rfl hF rfl rfl (hs.rv 0 rfl) hx14 fun a4 c4 w20 S15 fr hs hp hF => ?_
    have hM0 := hM0.stp hp
    have hs : Sep [SL (α := Int) 3 (.slice a3 (List.length ([x13] : List Int)) c3) ([x13] : List Int), BX b1 28 [.int .i64 p0.Pc, .slice pa0 (List.length p0.Regs) pc0, .slice pa1 (List.length p0.Mem) pc1, .slice pa2 (List.length p0.Stack) pc2, .int .i64 p0.In, .slice pa3 (List.length p0.Out) pc3, .int .i64 p0.Code, .int .i64 p0.Steps], SL (α := Int) 3 (.slice pa0 (List.length p0.Regs) pc0) p0.Regs, SL (α := Int) 3 (.slice pa1 (List.length p0.Mem) pc1) p0.Mem, SL (α := Int) 3 (.slice pa2 (List.length p0.Stack) pc2) p0.Stack, SL (α := Int) 3 (.slice a4 (List.length x14) c4) x14] w20 S15 := hs
    have hs : Sep [BX b1 28 [.int .i64 p0.Pc, .slice pa0 (List.length p0.Regs) pc0, .slice pa1 (List.length p0.Mem) pc1, .slice pa2 (List.length p0.Stack) pc2, .int .i64 p0.In, .slice pa3 (List.length p0.Out) pc3, .int .i64 p0.Code, .int .i64 p0.Steps], SL (α := Int) 3 (.slice pa0 (List.length p0.Regs) pc0) p0.Regs, SL (α := Int) 3 (.slice pa1 (List.length p0.Mem) pc1) p0.Mem, SL (α := Int) 3 (.slice pa2 (List.length p0.Stack) pc2) p0.Stack, SL (α := Int) 3 (.slice a4 (List.length x14) c4) x14] w20 S15 := Sep.pick [1, 2, 3, 4, 5] hs (by decide) rfl
    refine from_pure 2 [(0, .pointer (some ⟨b1, 0, none⟩)), (8, .int .i64 (w64 (p0.Pc + 1))), (133, .slice a4 (List.length x14) c4), (135, .pointer (some ⟨b1, 5, none⟩))] hF (by kernel_rfl) fun fr hF => ?_
    refine q_storeBox 0 hs hM0 rfl [.int .i64 p0.Pc, .slice pa0 (List.length p0.Regs) pc0, .slice pa1 (List.length p0.Mem) pc1, .slice pa2 (List.length p0.Stack) pc2, .int .i64 p0.In, .slice a4 (List.length x14) c4, .int .i64 p0.Code, .int .i64 p0.Steps] rfl hF rfl rfl (by kernel_rfl) rfl rfl rfl fun w21 S16 hs hp hF => ?_
    have hM0 := hM0.stp hp
    have hs : Sep [BX b1 28 [.int .i64 p0.Pc, .slice pa0 (List.length p0.Regs) pc0, .slice pa1 (List.length p0.Mem) pc1, .slice pa2 (List.length p0.Stack) pc2, .int .i64 p0.In, .slice a4 (List.length x14) c4, .int .i64 p0.Code, .int .i64 p0.Steps], SL (α := Int) 3 (.slice pa0 (List.length p0.Regs) pc0) p0.Regs, SL (α := Int) 3 (.slice pa1 (List.length p0.Mem) pc1) p0.Mem, SL (α := Int) 3 (.slice pa2 (List.length p0.Stack) pc2) p0.Stack, SL (α := Int) 3 (.slice a4 (List.length x14) c4) x14] w21 S16 := hs
    refine from_end rfl ?_
    refine blk_normal (then_normal ?_)
    refine (wp_text' ?_)
    refine from_pure 4 [(247, .int .i64 (w64 (p0.Pc + 1))), (249, .pointer (some ⟨b1, 0, none⟩))] hF (by kernel_rfl) fun fr hF => ?_
    refine q_storeBox 0 hs hM0 rfl [.int .i64 (w64 (p0.Pc + 1)), .slice pa0 (List.length p0.Regs) pc0, .slice pa1 (List.length p0.Mem) pc1, .slice pa2 (List.length p0.Stack) pc2, .int .i64 p0.In, .slice a4 (List.length x14) c4, .int .i64 p0.Code, .int .i64 p0.Steps] rfl hF rfl rfl (by kernel_rfl) rfl rfl rfl fun w22 S17 hs hp hF => ?_
    have hM0 := hM0.stp hp
    have hs : Sep [BX b1 28 [.int .i64 (w64 (p0.Pc + 1)), .slice pa0 (List.length p0.Regs) pc0, .slice pa1 (List.length p0.Mem) pc1, .slice pa2 (List.length p0.Stack) pc2, .int .i64 p0.In, .slice a4 (List.length x14) c4, .int .i64 p0.Code, .int .i64 p0.Steps], SL (α := Int) 3 (.slice pa0 (List.length p0.Regs) pc0) p0.Regs, SL (α := Int) 3 (.slice pa1 (List.length p0.Mem) pc1) p0.Mem, SL (α := Int) 3 (.slice pa2 (List.length p0.Stack) pc2) p0.Stack, SL (α := Int) 3 (.slice a4 (List.length x14) c4) x14] w22 S17 := hs
    refine from_end rfl ?_
    have hrets := fun {σ : List (Nat × Value)} (h : σ = []) => (by subst h; exact Rets.nil : Rets Try.prog σ w22 [] [])
    obtain rfl := Option.some.inj h
    exact (retGn (rs := []) rfl (hF.sub [] (by kernel_rfl)) (hrets rfl) rfl ⟨_, rfl, pa0, pc0, pa1, pc1, pa2, pc2, a4, c4, rfl, S17, hM0.out, hs⟩)
  replace h := iteF hb h
  refine wp_seq (wp_pure [(0, .pointer (some ⟨b1, 0, none⟩)), (6, .pointer (some ⟨b3, 0, none⟩)), (8, .int .i64 (w64 (p0.Pc + 1))), (15, .int .i64 p2.Op), (136, .bool (p2.Op == 7))] hF (by kernel_rfl) fun fr hF => then_normal ?_)
  refine (wp_if hF (b := (p2.Op == 7)) rfl (fun hb => ?_) (fun hb => ?_))
  · replace h := iteT hb h
    obtain ⟨x15, hx15, h⟩ := bindE h
    obtain ⟨x16, hx16, h⟩ := bindE h
    refine (region_bm 20 [0, 1, 3, 7, 0, 16, 0, 64, 192, 448, 0, 1024, 3072, 7168, 0, 16384, 64512, 130048, 262080, 524224, 1048575, 2097151] [true, true, true, false, true, false, true, true, true, false, true, true, true, false, true, false, false, false, false, false]
        [.eq (.pointer (some ⟨b1, 0, none⟩)), .eq (.pointer (some ⟨b1, 0, none⟩)), .eq (.pointer (some ⟨b1, 1, none⟩)), .eq (.slice pa0 (List.length p0.Regs) pc0), .eq (.pointer (some ⟨b3, 1, none⟩)), .eq (.int .i64 p2.A), .eq (.pointer (some ⟨b1, 0, none⟩)), .eq (.pointer (some ⟨b1, 0, none⟩)), .eq (.pointer (some ⟨b1, 2, none⟩)), .eq (.slice pa1 (List.length p0.Mem) pc1), .eq (.pointer (some ⟨b1, 0, none⟩)), .eq (.pointer (some ⟨b1, 0, none⟩)), .eq (.pointer (some ⟨b1, 1, none⟩)), .eq (.slice pa0 (List.length p0.Regs) pc0), .eq (.pointer (some ⟨b3, 2, none⟩)), .eq (.int .i64 p2.B), .is fun v w => ElemP w (fun k => k < w2.heap.size) v (x15 : Int), .eq (.int .i64 x15), .is fun v w => ElemP w (fun k => k < w2.heap.size) v (x16 : Int), .eq (.int .i64 x16), .any, .any]
        [(0, .pointer (some ⟨b1, 0, none⟩)), (8, .int .i64 (w64 (p0.Pc + 1))), (141, .slice pa0 (List.length p0.Regs) pc0), (143, .int .i64 p2.A), (157, .int .i64 x16)] mix hF (by kernel_rfl) (by kernel_rfl) (by kernel_rfl) (by kernel_rfl) ⟨Pd.monoO_eq, Pd.monoO_eq, Pd.monoO_eq, Pd.monoO_eq, Pd.monoO_eq, (Pd.monoO_is mono_elem), Pd.monoO_eq, (Pd.monoO_is mono_elem), Pd.monoO_eq, trivial⟩ (fun ow hG => ⟨np_to ow (np_loadBox hG hF ty26 rfl rfl (hs.bx 1 rfl) rfl rfl rfl), np_to ow (np_loadBox hG hF ty3 rfl rfl (hs.bx 0 rfl) rfl rfl rfl), np_to ow (np_loadBox hG hF ty26 rfl rfl (hs.bx 1 rfl) rfl rfl rfl), np_to ow (np_loadBox hG hF ty26 rfl rfl (hs.bx 1 rfl) rfl rfl rfl), np_to ow (np_loadBox hG hF ty3 rfl rfl (hs.bx 0 rfl) rfl rfl rfl), np_to ow (np_index hG hF ty3 Try.underlying26 rfl rfl (RV.sub (hs.rv 2 rfl) fun k hk _ => hk) rfl rfl (fun hg => ⟨get?_nn hx15, get?_at hx15⟩)), np_to ow (np_loadF (z := x15) (i := 16) hG hF ty3 rfl rfl rfl rfl rfl rfl rfl), np_to ow (np_index hG hF ty3 Try.underlying26 rfl rfl (RV.sub (hs.rv 3 rfl) fun k hk _ => hk) rfl rfl (fun hg => ⟨get?_nn hx16, get?_at hx16⟩)), np_to ow (np_loadF (z := x16) (i := 18) hG hF ty3 rfl rfl rfl rfl rfl rfl rfl), trivial⟩) (by kernel_rfl) fun ow fr w23 hF hE hc => ?_)
    have hs := hs.ext hc
    have hM0 := hM0.ext hc
    have hs : Sep [BX b1 28 [.int .i64 p0.Pc, .slice pa0 (List.length p0.Regs) pc0, .slice pa1 (List.length p0.Mem) pc1, .slice pa2 (List.length p0.Stack) pc2, .int .i64 p0.In, .slice pa3 (List.length p0.Out) pc3, .int .i64 p0.Code, .int .i64 p0.Steps], SL (α := Int) 3 (.slice pa0 (List.length p0.Regs) pc0) p0.Regs, SL (α := Int) 3 (.slice pa1 (List.length p0.Mem) pc1) p0.Mem, SL (α := Int) 3 (.slice pa2 (List.length p0.Stack) pc2) p0.Stack, SL (α := Int) 3 (.slice pa3 (List.length p0.Out) pc3) p0.Out] w23 S2 := Sep.pick [1, 2, 3, 4, 5] hs (by decide) rfl
    obtain ⟨x17, hx17, h⟩ := bindE h
    refine q_set (q := x16) 1 hs hM0 rfl Try.underlying26 ty3 rfl rfl rfl rfl hF rfl rfl (by simp) rfl rfl hx17 fun w24 S18 fr _ hs hp hF => ?_
    have hM0 := hM0.stp hp
    have hs : Sep [BX b1 28 [.int .i64 p0.Pc, .slice pa0 (List.length p0.Regs) pc0, .slice pa1 (List.length p0.Mem) pc1, .slice pa2 (List.length p0.Stack) pc2, .int .i64 p0.In, .slice pa3 (List.length p0.Out) pc3, .int .i64 p0.Code, .int .i64 p0.Steps], SL (α := Int) 3 (.slice pa0 (List.length p0.Regs) pc0) x17, SL (α := Int) 3 (.slice pa1 (List.length p0.Mem) pc1) p0.Mem, SL (α := Int) 3 (.slice pa2 (List.length p0.Stack) pc2) p0.Stack, SL (α := Int) 3 (.slice pa3 (List.length p0.Out) pc3) p0.Out] w24 S18 := hs
    refine from_end rfl ?_
    refine blk_normal (then_normal ?_)
    refine (wp_text' ?_)
    refine from_pure 4 [(247, .int .i64 (w64 (p0.Pc + 1))), (249, .pointer (some ⟨b1, 0, none⟩))] hF (by kernel_rfl) fun fr hF => ?_
    refine q_storeBox 0 hs hM0 rfl [.int .i64 (w64 (p0.Pc + 1)), .slice pa0 (List.length p0.Regs) pc0, .slice pa1 (List.length p0.Mem) pc1, .slice pa2 (List.length p0.Stack) pc2, .int .i64 p0.In, .slice pa3 (List.length p0.Out) pc3, .int .i64 p0.Code, .int .i64 p0.Steps] rfl hF rfl rfl (by kernel_rfl) rfl rfl rfl fun w25 S19 hs hp hF => ?_
    have hM0 := hM0.stp hp
    have hs : Sep [BX b1 28 [.int .i64 (w64 (p0.Pc + 1)), .slice pa0 (List.length p0.Regs) pc0, .slice pa1 (List.length p0.Mem) pc1, .slice pa2 (List.length p0.Stack) pc2, .int .i64 p0.In, .slice pa3 (List.length p0.Out) pc3, .int .i64 p0.Code, .int .i64 p0.Steps], SL (α := Int) 3 (.slice pa0 (List.length p0.Regs) pc0) x17, SL (α := Int) 3 (.slice pa1 (List.length p0.Mem) pc1) p0.Mem, SL (α := Int) 3 (.slice pa2 (List.length p0.Stack) pc2) p0.Stack, SL (α := Int) 3 (.slice pa3 (List.length p0.Out) pc3) p0.Out] w25 S19 := hs
    refine from_end rfl ?_
    have hrets := fun {σ : List (Nat × Value)} (h : σ = []) => (by subst h; exact Rets.nil : Rets Try.prog σ w25 [] [])
    obtain rfl := Option.some.inj h
    obtain ⟨he6, hs⟩ := hs.relen 1 rfl
    have hs : Sep [BX b1 28 [.int .i64 (w64 (p0.Pc + 1)), .slice pa0 (List.length p0.Regs) pc0, .slice pa1 (List.length p0.Mem) pc1, .slice pa2 (List.length p0.Stack) pc2, .int .i64 p0.In, .slice pa3 (List.length p0.Out) pc3, .int .i64 p0.Code, .int .i64 p0.Steps], SL (α := Int) 3 (.slice pa0 (List.length x17) pc0) x17, SL (α := Int) 3 (.slice pa1 (List.length p0.Mem) pc1) p0.Mem, SL (α := Int) 3 (.slice pa2 (List.length p0.Stack) pc2) p0.Stack, SL (α := Int) 3 (.slice pa3 (List.length p0.Out) pc3) p0.Out] w25 S19 := hs
    have hs : Sep [BX b1 28 [.int .i64 (w64 (p0.Pc + 1)), .slice pa0 (List.length x17) pc0, .slice pa1 (List.length p0.Mem) pc1, .slice pa2 (List.length p0.Stack) pc2, .int .i64 p0.In, .slice pa3 (List.length p0.Out) pc3, .int .i64 p0.Code, .int .i64 p0.Steps], SL (α := Int) 3 (.slice pa0 (List.length x17) pc0) x17, SL (α := Int) 3 (.slice pa1 (List.length p0.Mem) pc1) p0.Mem, SL (α := Int) 3 (.slice pa2 (List.length p0.Stack) pc2) p0.Stack, SL (α := Int) 3 (.slice pa3 (List.length p0.Out) pc3) p0.Out] w25 S19 := by rw [he6] at hs; exact hs
    exact (retGn (rs := []) rfl (hF.sub [] (by kernel_rfl)) (hrets rfl) rfl ⟨_, rfl, pa0, pc0, pa1, pc1, pa2, pc2, pa3, pc3, rfl, S19, hM0.out, hs⟩)
  replace h := iteF hb h
  refine wp_seq (wp_pure [(0, .pointer (some ⟨b1, 0, none⟩)), (6, .pointer (some ⟨b3, 0, none⟩)), (8, .int .i64 (w64 (p0.Pc + 1))), (15, .int .i64 p2.Op), (159, .bool (p2.Op == 8))] hF (by kernel_rfl) fun fr hF => then_normal ?_)
  refine (wp_if hF (b := (p2.Op == 8)) rfl (fun hb => ?_) (fun hb => ?_))
  · replace h := iteT hb h
    obtain ⟨x18, hx18, h⟩ := bindE h
    obtain ⟨x19, hx19, h⟩ := bindE h
    refine (region_bm 20 [0, 1, 3, 7, 0, 16, 48, 112, 0, 256, 1008, 2032, 0, 4096, 12288, 28672, 0, 65536, 258048, 520192, 1048575, 2097151] [true, true, true, false, true, true, true, false, true, false, false, false, true, true, true, false, true, false, false, false]
        [.eq (.pointer (some ⟨b1, 0, none⟩)), .eq (.pointer (some ⟨b1, 0, none⟩)), .eq (.pointer (some ⟨b1, 2, none⟩)), .eq (.slice pa1 (List.length p0.Mem) pc1), .eq (.pointer (some ⟨b1, 0, none⟩)), .eq (.pointer (some ⟨b1, 0, none⟩)), .eq (.pointer (some ⟨b1, 1, none⟩)), .eq (.slice pa0 (List.length p0.Regs) pc0), .eq (.pointer (some ⟨b3, 1, none⟩)), .eq (.int .i64 p2.A), .is fun v w => ElemP w (fun k => k < w2.heap.size) v (x18 : Int), .eq (.int .i64 x18), .eq (.pointer (some ⟨b1, 0, none⟩)), .eq (.pointer (some ⟨b1, 0, none⟩)), .eq (.pointer (some ⟨b1, 1, none⟩)), .eq (.slice pa0 (List.length p0.Regs) pc0), .eq (.pointer (some ⟨b3, 2, none⟩)), .eq (.int .i64 p2.B), .is fun v w => ElemP w (fun k => k < w2.heap.size) v (x19 : Int), .eq (.int .i64 x19), .any, .any]
        [(0, .pointer (some ⟨b1, 0, none⟩)), (8, .int .i64 (w64 (p0.Pc + 1))), (164, .slice pa1 (List.length p0.Mem) pc1), (172, .int .i64 x18), (180, .int .i64 x19)] mix hF (by kernel_rfl) (by kernel_rfl) (by kernel_rfl) (by kernel_rfl) ⟨Pd.monoO_eq, Pd.monoO_eq, Pd.monoO_eq, (Pd.monoO_is mono_elem), Pd.monoO_eq, Pd.monoO_eq, Pd.monoO_eq, (Pd.monoO_is mono_elem), Pd.monoO_eq, trivial⟩ (fun ow hG => ⟨np_to ow (np_loadBox hG hF ty26 rfl rfl (hs.bx 1 rfl) rfl rfl rfl), np_to ow (np_loadBox hG hF ty26 rfl rfl (hs.bx 1 rfl) rfl rfl rfl), np_to ow (np_loadBox hG hF ty3 rfl rfl (hs.bx 0 rfl) rfl rfl rfl), np_to ow (np_index hG hF ty3 Try.underlying26 rfl rfl (RV.sub (hs.rv 2 rfl) fun k hk _ => hk) rfl rfl (fun hg => ⟨get?_nn hx18, get?_at hx18⟩)), np_to ow (np_loadF (z := x18) (i := 10) hG hF ty3 rfl rfl rfl rfl rfl rfl rfl), np_to ow (np_loadBox hG hF ty26 rfl rfl (hs.bx 1 rfl) rfl rfl rfl), np_to ow (np_loadBox hG hF ty3 rfl rfl (hs.bx 0 rfl) rfl rfl rfl), np_to ow (np_index hG hF ty3 Try.underlying26 rfl rfl (RV.sub (hs.rv 2 rfl) fun k hk _ => hk) rfl rfl (fun hg => ⟨get?_nn hx19, get?_at hx19⟩)), np_to ow (np_loadF (z := x19) (i := 18) hG hF ty3 rfl rfl rfl rfl rfl rfl rfl), trivial⟩) (by kernel_rfl) fun ow fr w26 hF hE hc => ?_)
    have hs := hs.ext hc
    have hM0 := hM0.ext hc
    have hs : Sep [BX b1 28 [.int .i64 p0.Pc, .slice pa0 (List.length p0.Regs) pc0, .slice pa1 (List.length p0.Mem) pc1, .slice pa2 (List.length p0.Stack) pc2, .int .i64 p0.In, .slice pa3 (List.length p0.Out) pc3, .int .i64 p0.Code, .int .i64 p0.Steps], SL (α := Int) 3 (.slice pa0 (List.length p0.Regs) pc0) p0.Regs, SL (α := Int) 3 (.slice pa1 (List.length p0.Mem) pc1) p0.Mem, SL (α := Int) 3 (.slice pa2 (List.length p0.Stack) pc2) p0.Stack, SL (α := Int) 3 (.slice pa3 (List.length p0.Out) pc3) p0.Out] w26 S2 := Sep.pick [1, 2, 3, 4, 5] hs (by decide) rfl
    obtain ⟨x20, hx20, h⟩ := bindE h
    refine q_set (q := x19) 2 hs hM0 rfl Try.underlying26 ty3 rfl rfl rfl rfl hF rfl rfl (by simp) rfl rfl hx20 fun w27 S20 fr _ hs hp hF => ?_
    have hM0 := hM0.stp hp
    have hs : Sep [BX b1 28 [.int .i64 p0.Pc, .slice pa0 (List.length p0.Regs) pc0, .slice pa1 (List.length p0.Mem) pc1, .slice pa2 (List.length p0.Stack) pc2, .int .i64 p0.In, .slice pa3 (List.length p0.Out) pc3, .int .i64 p0.Code, .int .i64 p0.Steps], SL (α := Int) 3 (.slice pa0 (List.length p0.Regs) pc0) p0.Regs, SL (α := Int) 3 (.slice pa1 (List.length p0.Mem) pc1) x20, SL (α := Int) 3 (.slice pa2 (List.length p0.Stack) pc2) p0.Stack, SL (α := Int) 3 (.slice pa3 (List.length p0.Out) pc3) p0.Out] w27 S20 := hs
    refine from_end rfl ?_
    refine blk_normal (then_normal ?_)
    refine (wp_text' ?_)
    refine from_pure 4 [(247, .int .i64 (w64 (p0.Pc + 1))), (249, .pointer (some ⟨b1, 0, none⟩))] hF (by kernel_rfl) fun fr hF => ?_
    refine q_storeBox 0 hs hM0 rfl [.int .i64 (w64 (p0.Pc + 1)), .slice pa0 (List.length p0.Regs) pc0, .slice pa1 (List.length p0.Mem) pc1, .slice pa2 (List.length p0.Stack) pc2, .int .i64 p0.In, .slice pa3 (List.length p0.Out) pc3, .int .i64 p0.Code, .int .i64 p0.Steps] rfl hF rfl rfl (by kernel_rfl) rfl rfl rfl fun w28 S21 hs hp hF => ?_
    have hM0 := hM0.stp hp
    have hs : Sep [BX b1 28 [.int .i64 (w64 (p0.Pc + 1)), .slice pa0 (List.length p0.Regs) pc0, .slice pa1 (List.length p0.Mem) pc1, .slice pa2 (List.length p0.Stack) pc2, .int .i64 p0.In, .slice pa3 (List.length p0.Out) pc3, .int .i64 p0.Code, .int .i64 p0.Steps], SL (α := Int) 3 (.slice pa0 (List.length p0.Regs) pc0) p0.Regs, SL (α := Int) 3 (.slice pa1 (List.length p0.Mem) pc1) x20, SL (α := Int) 3 (.slice pa2 (List.length p0.Stack) pc2) p0.Stack, SL (α := Int) 3 (.slice pa3 (List.length p0.Out) pc3) p0.Out] w28 S21 := hs
    refine from_end rfl ?_
    have hrets := fun {σ : List (Nat × Value)} (h : σ = []) => (by subst h; exact Rets.nil : Rets Try.prog σ w28 [] [])
    obtain rfl := Option.some.inj h
    obtain ⟨he7, hs⟩ := hs.relen 2 rfl
    have hs : Sep [BX b1 28 [.int .i64 (w64 (p0.Pc + 1)), .slice pa0 (List.length p0.Regs) pc0, .slice pa1 (List.length p0.Mem) pc1, .slice pa2 (List.length p0.Stack) pc2, .int .i64 p0.In, .slice pa3 (List.length p0.Out) pc3, .int .i64 p0.Code, .int .i64 p0.Steps], SL (α := Int) 3 (.slice pa0 (List.length p0.Regs) pc0) p0.Regs, SL (α := Int) 3 (.slice pa1 (List.length x20) pc1) x20, SL (α := Int) 3 (.slice pa2 (List.length p0.Stack) pc2) p0.Stack, SL (α := Int) 3 (.slice pa3 (List.length p0.Out) pc3) p0.Out] w28 S21 := hs
    have hs : Sep [BX b1 28 [.int .i64 (w64 (p0.Pc + 1)), .slice pa0 (List.length p0.Regs) pc0, .slice pa1 (List.length x20) pc1, .slice pa2 (List.length p0.Stack) pc2, .int .i64 p0.In, .slice pa3 (List.length p0.Out) pc3, .int .i64 p0.Code, .int .i64 p0.Steps], SL (α := Int) 3 (.slice pa0 (List.length p0.Regs) pc0) p0.Regs, SL (α := Int) 3 (.slice pa1 (List.length x20) pc1) x20, SL (α := Int) 3 (.slice pa2 (List.length p0.Stack) pc2) p0.Stack, SL (α := Int) 3 (.slice pa3 (List.length p0.Out) pc3) p0.Out] w28 S21 := by rw [he7] at hs; exact hs
    exact (retGn (rs := []) rfl (hF.sub [] (by kernel_rfl)) (hrets rfl) rfl ⟨_, rfl, pa0, pc0, pa1, pc1, pa2, pc2, pa3, pc3, rfl, S21, hM0.out, hs⟩)
  replace h := iteF hb h
  refine wp_seq (wp_pure [(0, .pointer (some ⟨b1, 0, none⟩)), (6, .pointer (some ⟨b3, 0, none⟩)), (8, .int .i64 (w64 (p0.Pc + 1))), (15, .int .i64 p2.Op), (182, .bool (p2.Op == 9))] hF (by kernel_rfl) fun fr hF => then_normal ?_)
  refine (wp_if hF (b := (p2.Op == 9)) rfl (fun hb => ?_) (fun hb => ?_))
  · replace h := iteT hb h
    refine (wp_text' ?_)
    refine from_pure 1 [(0, .pointer (some ⟨b1, 0, none⟩)), (184, .pointer (some ⟨b3, 2, none⟩))] hF (by kernel_rfl) fun fr hF => ?_
    refine s_loadBox (.int .i64 p2.B) ty3 rfl rfl hF rfl (hs.bx 0 rfl) rfl rfl fun fr hF => ?_
    have hs : Sep [BX b1 28 [.int .i64 p0.Pc, .slice pa0 (List.length p0.Regs) pc0, .slice pa1 (List.length p0.Mem) pc1, .slice pa2 (List.length p0.Stack) pc2, .int .i64 p0.In, .slice pa3 (List.length p0.Out) pc3, .int .i64 p0.Code, .int .i64 p0.Steps], SL (α := Int) 3 (.slice pa0 (List.length p0.Regs) pc0) p0.Regs, SL (α := Int) 3 (.slice pa1 (List.length p0.Mem) pc1) p0.Mem, SL (α := Int) 3 (.slice pa2 (List.length p0.Stack) pc2) p0.Stack, SL (α := Int) 3 (.slice pa3 (List.length p0.Out) pc3) p0.Out] w2 S2 := Sep.pick [1, 2, 3, 4, 5] hs (by decide) rfl
    refine from_pure 1 [(0, .pointer (some ⟨b1, 0, none⟩)), (8, .int .i64 p2.B)] hF (by kernel_rfl) fun fr hF => ?_
    refine from_end rfl ?_
    refine blk_normal (then_normal ?_)
    refine (wp_text' ?_)
    refine from_pure 4 [(247, .int .i64 p2.B), (249, .pointer (some ⟨b1, 0, none⟩))] hF (by kernel_rfl) fun fr hF => ?_
    refine q_storeBox 0 hs hM0 rfl [.int .i64 p2.B, .slice pa0 (List.length p0.Regs) pc0, .slice pa1 (List.length p0.Mem) pc1, .slice pa2 (List.length p0.Stack) pc2, .int .i64 p0.In, .slice pa3 (List.length p0.Out) pc3, .int .i64 p0.Code, .int .i64 p0.Steps] rfl hF rfl rfl (by kernel_rfl) rfl rfl rfl fun w29 S22 hs hp hF => ?_
    have hM0 := hM0.stp hp
    have hs : Sep [BX b1 28 [.int .i64 p2.B, .slice pa0 (List.length p0.Regs) pc0, .slice pa1 (List.length p0.Mem) pc1, .slice pa2 (List.length p0.Stack) pc2, .int .i64 p0.In, .slice pa3 (List.length p0.Out) pc3, .int .i64 p0.Code, .int .i64 p0.Steps], SL (α := Int) 3 (.slice pa0 (List.length p0.Regs) pc0) p0.Regs, SL (α := Int) 3 (.slice pa1 (List.length p0.Mem) pc1) p0.Mem, SL (α := Int) 3 (.slice pa2 (List.length p0.Stack) pc2) p0.Stack, SL (α := Int) 3 (.slice pa3 (List.length p0.Out) pc3) p0.Out] w29 S22 := hs
    refine from_end rfl ?_
    have hrets := fun {σ : List (Nat × Value)} (h : σ = []) => (by subst h; exact Rets.nil : Rets Try.prog σ w29 [] [])
    obtain rfl := Option.some.inj h
    exact (retGn (rs := []) rfl (hF.sub [] (by kernel_rfl)) (hrets rfl) rfl ⟨_, rfl, pa0, pc0, pa1, pc1, pa2, pc2, pa3, pc3, rfl, S22, hM0.out, hs⟩)
  replace h := iteF hb h
  refine wp_seq (wp_pure [(0, .pointer (some ⟨b1, 0, none⟩)), (6, .pointer (some ⟨b3, 0, none⟩)), (8, .int .i64 (w64 (p0.Pc + 1))), (15, .int .i64 p2.Op), (186, .bool (p2.Op == 10))] hF (by kernel_rfl) fun fr hF => then_normal ?_)
  refine (wp_if hF (b := (p2.Op == 10)) rfl (fun hb => ?_) (fun hb => ?_))
  · replace h := iteT hb h
    obtain ⟨x21, hx21, h⟩ := bindE h
    refine wp_seq (region_bm 9 [0, 1, 3, 7, 0, 16, 63, 127, 255] [true, true, true, false, true, false, false, false, true]
        [.eq (.pointer (some ⟨b1, 0, none⟩)), .eq (.pointer (some ⟨b1, 0, none⟩)), .eq (.pointer (some ⟨b1, 1, none⟩)), .eq (.slice pa0 (List.length p0.Regs) pc0), .eq (.pointer (some ⟨b3, 1, none⟩)), .eq (.int .i64 p2.A), .is fun v w => ElemP w (fun k => k < w2.heap.size) v (x21 : Int), .eq (.int .i64 x21), .eq (.bool (x21 == 0))]
        [(0, .pointer (some ⟨b1, 0, none⟩)), (6, .pointer (some ⟨b3, 0, none⟩)), (8, .int .i64 (w64 (p0.Pc + 1))), (196, .bool (x21 == 0))] mix hF (by kernel_rfl) (by kernel_rfl) (by kernel_rfl) (by kernel_rfl) ⟨Pd.monoO_eq, Pd.monoO_eq, (Pd.monoO_is mono_elem), Pd.monoO_eq, trivial⟩ (fun ow hG => ⟨np_to ow (np_loadBox hG hF ty26 rfl rfl (hs.bx 1 rfl) rfl rfl rfl), np_to ow (np_loadBox hG hF ty3 rfl rfl (hs.bx 0 rfl) rfl rfl rfl), np_to ow (np_index hG hF ty3 Try.underlying26 rfl rfl (RV.sub (hs.rv 2 rfl) fun k hk _ => hk) rfl rfl (fun hg => ⟨get?_nn hx21, get?_at hx21⟩)), np_to ow (np_loadF (z := x21) (i := 6) hG hF ty3 rfl rfl rfl rfl rfl rfl rfl), trivial⟩) (by kernel_rfl) fun ow fr w30 hF hE hc => ?_)
    have hs := hs.ext hc
    have hM0 := hM0.ext hc
    refine from_end rfl (then_normal ?_)
    refine (wp_if hF (b := (x21 == 0)) rfl (fun hb => ?_) (fun hb => ?_))
    · replace h := iteT hb h
      refine (wp_text' ?_)
      refine from_pure 1 [(0, .pointer (some ⟨b1, 0, none⟩)), (197, .pointer (some ⟨b3, 2, none⟩))] hF (by kernel_rfl) fun fr hF => ?_
      refine s_loadBox (.int .i64 p2.B) ty3 rfl rfl hF rfl (hs.bx 0 rfl) rfl rfl fun fr hF => ?_
      have hs : Sep [BX b1 28 [.int .i64 p0.Pc, .slice pa0 (List.length p0.Regs) pc0, .slice pa1 (List.length p0.Mem) pc1, .slice pa2 (List.length p0.Stack) pc2, .int .i64 p0.In, .slice pa3 (List.length p0.Out) pc3, .int .i64 p0.Code, .int .i64 p0.Steps], SL (α := Int) 3 (.slice pa0 (List.length p0.Regs) pc0) p0.Regs, SL (α := Int) 3 (.slice pa1 (List.length p0.Mem) pc1) p0.Mem, SL (α := Int) 3 (.slice pa2 (List.length p0.Stack) pc2) p0.Stack, SL (α := Int) 3 (.slice pa3 (List.length p0.Out) pc3) p0.Out] w30 S2 := Sep.pick [1, 2, 3, 4, 5] hs (by decide) rfl
      refine from_pure 1 [(0, .pointer (some ⟨b1, 0, none⟩)), (8, .int .i64 p2.B)] hF (by kernel_rfl) fun fr hF => ?_
      refine from_end rfl ?_
      refine blk_normal (then_normal ?_)
      refine (wp_text' ?_)
      refine from_pure 4 [(247, .int .i64 p2.B), (249, .pointer (some ⟨b1, 0, none⟩))] hF (by kernel_rfl) fun fr hF => ?_
      refine q_storeBox 0 hs hM0 rfl [.int .i64 p2.B, .slice pa0 (List.length p0.Regs) pc0, .slice pa1 (List.length p0.Mem) pc1, .slice pa2 (List.length p0.Stack) pc2, .int .i64 p0.In, .slice pa3 (List.length p0.Out) pc3, .int .i64 p0.Code, .int .i64 p0.Steps] rfl hF rfl rfl (by kernel_rfl) rfl rfl rfl fun w31 S23 hs hp hF => ?_
      have hM0 := hM0.stp hp
      have hs : Sep [BX b1 28 [.int .i64 p2.B, .slice pa0 (List.length p0.Regs) pc0, .slice pa1 (List.length p0.Mem) pc1, .slice pa2 (List.length p0.Stack) pc2, .int .i64 p0.In, .slice pa3 (List.length p0.Out) pc3, .int .i64 p0.Code, .int .i64 p0.Steps], SL (α := Int) 3 (.slice pa0 (List.length p0.Regs) pc0) p0.Regs, SL (α := Int) 3 (.slice pa1 (List.length p0.Mem) pc1) p0.Mem, SL (α := Int) 3 (.slice pa2 (List.length p0.Stack) pc2) p0.Stack, SL (α := Int) 3 (.slice pa3 (List.length p0.Out) pc3) p0.Out] w31 S23 := hs
      refine from_end rfl ?_
      have hrets := fun {σ : List (Nat × Value)} (h : σ = []) => (by subst h; exact Rets.nil : Rets Try.prog σ w31 [] [])
      obtain rfl := Option.some.inj h
      exact (retGn (rs := []) rfl (hF.sub [] (by kernel_rfl)) (hrets rfl) rfl ⟨_, rfl, pa0, pc0, pa1, pc1, pa2, pc2, pa3, pc3, rfl, S23, hM0.out, hs⟩)
    replace h := iteF hb h
    have hs : Sep [BX b1 28 [.int .i64 p0.Pc, .slice pa0 (List.length p0.Regs) pc0, .slice pa1 (List.length p0.Mem) pc1, .slice pa2 (List.length p0.Stack) pc2, .int .i64 p0.In, .slice pa3 (List.length p0.Out) pc3, .int .i64 p0.Code, .int .i64 p0.Steps], SL (α := Int) 3 (.slice pa0 (List.length p0.Regs) pc0) p0.Regs, SL (α := Int) 3 (.slice pa1 (List.length p0.Mem) pc1) p0.Mem, SL (α := Int) 3 (.slice pa2 (List.length p0.Stack) pc2) p0.Stack, SL (α := Int) 3 (.slice pa3 (List.length p0.Out) pc3) p0.Out] w30 S2 := Sep.pick [1, 2, 3, 4, 5] hs (by decide) rfl
    refine (wp_skip ?_)
    refine blk_normal (then_normal ?_)
    refine (wp_text' ?_)
    refine from_pure 4 [(247, .int .i64 (w64 (p0.Pc + 1))), (249, .pointer (some ⟨b1, 0, none⟩))] hF (by kernel_rfl) fun fr hF => ?_
    refine q_storeBox 0 hs hM0 rfl [.int .i64 (w64 (p0.Pc + 1)), .slice pa0 (List.length p0.Regs) pc0, .slice pa1 (List.length p0.Mem) pc1, .slice pa2 (List.length p0.Stack) pc2, .int .i64 p0.In, .slice pa3 (List.length p0.Out) pc3, .int .i64 p0.Code, .int .i64 p0.Steps] rfl hF rfl rfl (by kernel_rfl) rfl rfl rfl fun w32 S24 hs hp hF => ?_
    have hM0 := hM0.stp hp
    have hs : Sep [BX b1 28 [.int .i64 (w64 (p0.Pc + 1)), .slice pa0 (List.length p0.Regs) pc0, .slice pa1 (List.length p0.Mem) pc1, .slice pa2 (List.length p0.Stack) pc2, .int .i64 p0.In, .slice pa3 (List.length p0.Out) pc3, .int .i64 p0.Code, .int .i64 p0.Steps], SL (α := Int) 3 (.slice pa0 (List.length p0.Regs) pc0) p0.Regs, SL (α := Int) 3 (.slice pa1 (List.length p0.Mem) pc1) p0.Mem, SL (α := Int) 3 (.slice pa2 (List.length p0.Stack) pc2) p0.Stack, SL (α := Int) 3 (.slice pa3 (List.length p0.Out) pc3) p0.Out] w32 S24 := hs
    refine from_end rfl ?_
    have hrets := fun {σ : List (Nat × Value)} (h : σ = []) => (by subst h; exact Rets.nil : Rets Try.prog σ w32 [] [])
    obtain rfl := Option.some.inj h
    exact (retGn (rs := []) rfl (hF.sub [] (by kernel_rfl)) (hrets rfl) rfl ⟨_, rfl, pa0, pc0, pa1, pc1, pa2, pc2, pa3, pc3, rfl, S24, hM0.out, hs⟩)
  replace h := iteF hb h
  refine wp_seq (wp_pure [(0, .pointer (some ⟨b1, 0, none⟩)), (6, .pointer (some ⟨b3, 0, none⟩)), (8, .int .i64 (w64 (p0.Pc + 1))), (15, .int .i64 p2.Op), (199, .bool (p2.Op == 11))] hF (by kernel_rfl) fun fr hF => then_normal ?_)
  refine (wp_if hF (b := (p2.Op == 11)) rfl (fun hb => ?_) (fun hb => ?_))
  · replace h := iteT hb h
    refine wp_seq (wp_text' ?_)
    refine from_pure 4 [(0, .pointer (some ⟨b1, 0, none⟩)), (6, .pointer (some ⟨b3, 0, none⟩)), (8, .int .i64 (w64 (p0.Pc + 1))), (201, .pointer (some ⟨b1, 0, none⟩)), (204, .pointer (some ⟨b1, 3, none⟩))] hF (by kernel_rfl) fun fr hF => ?_
    refine s_loadBox (.slice pa2 (List.length p0.Stack) pc2) ty26 rfl rfl hF rfl (hs.bx 1 rfl) rfl rfl fun fr hF => ?_
    refine from_pure 1 [(0, .pointer (some ⟨b1, 0, none⟩)), (6, .pointer (some ⟨b3, 0, none⟩)), (201, .pointer (some ⟨b1, 0, none⟩)), (205, .slice pa2 (List.length p0.Stack) pc2), (206, .int .i64 (w64 (p0.Pc + 1)))] hF (by kernel_rfl) fun fr hF => ?_
    refine q_lit (E := 3) hs hM0 [.int .i64 (w64 (p0.Pc + 1))] (([(w64 (p0.Pc + 1))] : List Int).map Flat.enc) ([(w64 (p0.Pc + 1))] : List Int) rfl rfl hF [.int .i64 (w64 (p0.Pc + 1))] rfl (fun w => by kernel_rfl) (css_flat _) rfl rfl rfl fun a5 c5 w33 S25 fr hs hp hF => ?_
    have hM0 := hM0.stp hp
    have hs : Sep [SL (α := Int) 3 (.slice a5 (List.length ([(w64 (p0.Pc + 1))] : List Int)) c5) ([(w64 (p0.Pc + 1))] : List Int), BX b3 66 [.int .i64 p2.Op, .int .i64 p2.A, .int .i64 p2.B, .int .i64 p2.C], BX b1 28 [.int .i64 p0.Pc, .slice pa0 (List.length p0.Regs) pc0, .slice pa1 (List.length p0.Mem) pc1, .slice pa2 (List.length p0.Stack) pc2, .int .i64 p0.In, .slice pa3 (List.length p0.Out) pc3, .int .i64 p0.Code, .int .i64 p0.Steps], SL (α := Int) 3 (.slice pa0 (List.length p0.Regs) pc0) p0.Regs, SL (α := Int) 3 (.slice pa1 (List.length p0.Mem) pc1) p0.Mem, SL (α := Int) 3 (.slice pa2 (List.length p0.Stack) pc2) p0.Stack, SL (α := Int) 3 (.slice pa3 (List.length p0.Out) pc3) p0.Out] w33 S25 := hs
    obtain ⟨x22, hx22, h⟩ := bindE h
    refine q_append 5 hs hM0 rfl Try.underlying26 el3 rfl rfl rfl hF rfl rfl (hs.rv 0 rfl) hx22 fun a6 c6 w34 S26 fr hs hp hF => ?_
    have hM0 := hM0.stp hp
    have hs : Sep [SL (α := Int) 3 (.slice a5 (List.length ([(w64 (p0.Pc + 1))] : List Int)) c5) ([(w64 (p0.Pc + 1))] : List Int), BX b3 66 [.int .i64 p2.Op, .int .i64 p2.A, .int .i64 p2.B, .int .i64 p2.C], BX b1 28 [.int .i64 p0.Pc, .slice pa0 (List.length p0.Regs) pc0, .slice pa1 (List.length p0.Mem) pc1, .slice pa2 (List.length p0.Stack) pc2, .int .i64 p0.In, .slice pa3 (List.length p0.Out) pc3, .int .i64 p0.Code, .int .i64 p0.Steps], SL (α := Int) 3 (.slice pa0 (List.length p0.Regs) pc0) p0.Regs, SL (α := Int) 3 (.slice pa1 (List.length p0.Mem) pc1) p0.Mem, SL (α := Int) 3 (.slice a6 (List.length x22) c6) x22, SL (α := Int) 3 (.slice pa3 (List.length p0.Out) pc3) p0.Out] w34 S26 := hs
    have hs : Sep [BX b3 66 [.int .i64 p2.Op, .int .i64 p2.A, .int .i64 p2.B, .int .i64 p2.C], BX b1 28 [.int .i64 p0.Pc, .slice pa0 (List.length p0.Regs) pc0, .slice pa1 (List.length p0.Mem) pc1, .slice pa2 (List.length p0.Stack) pc2, .int .i64 p0.In, .slice pa3 (List.length p0.Out) pc3, .int .i64 p0.Code, .int .i64 p0.Steps], SL (α := Int) 3 (.slice pa0 (List.length p0.Regs) pc0) p0.Regs, SL (α := Int) 3 (.slice pa1 (List.length p0.Mem) pc1) p0.Mem, SL (α := Int) 3 (.slice a6 (List.length x22) c6) x22, SL (α := Int) 3 (.slice pa3 (List.length p0.Out) pc3) p0.Out] w34 S26 := Sep.pick [1, 2, 3, 4, 5, 6] hs (by decide) rfl
    refine from_pure 2 [(0, .pointer (some ⟨b1, 0, none⟩)), (6, .pointer (some ⟨b3, 0, none⟩)), (208, .slice a6 (List.length x22) c6), (210, .pointer (some ⟨b1, 3, none⟩))] hF (by kernel_rfl) fun fr hF => ?_
    refine q_storeBox 1 hs hM0 rfl [.int .i64 p0.Pc, .slice pa0 (List.length p0.Regs) pc0, .slice pa1 (List.length p0.Mem) pc1, .slice a6 (List.length x22) c6, .int .i64 p0.In, .slice pa3 (List.length p0.Out) pc3, .int .i64 p0.Code, .int .i64 p0.Steps] rfl hF rfl rfl (by kernel_rfl) rfl rfl rfl fun w35 S27 hs hp hF => ?_
    have hM0 := hM0.stp hp
    have hs : Sep [BX b3 66 [.int .i64 p2.Op, .int .i64 p2.A, .int .i64 p2.B, .int .i64 p2.C], BX b1 28 [.int .i64 p0.Pc, .slice pa0 (List.length p0.Regs) pc0, .slice pa1 (List.length p0.Mem) pc1, .slice a6 (List.length x22) c6, .int .i64 p0.In, .slice pa3 (List.length p0.Out) pc3, .int .i64 p0.Code, .int .i64 p0.Steps], SL (α := Int) 3 (.slice pa0 (List.length p0.Regs) pc0) p0.Regs, SL (α := Int) 3 (.slice pa1 (List.length p0.Mem) pc1) p0.Mem, SL (α := Int) 3 (.slice a6 (List.length x22) c6) x22, SL (α := Int) 3 (.slice pa3 (List.length p0.Out) pc3) p0.Out] w35 S27 := hs
    refine from_end rfl (then_normal ?_)
    refine (wp_text' ?_)
    refine from_pure 1 [(0, .pointer (some ⟨b1, 0, none⟩)), (211, .pointer (some ⟨b3, 2, none⟩))] hF (by kernel_rfl) fun fr hF => ?_
    refine s_loadBox (.int .i64 p2.B) ty3 rfl rfl hF rfl (hs.bx 0 rfl) rfl rfl fun fr hF => ?_
    have hs : Sep [BX b1 28 [.int .i64 p0.Pc, .slice pa0 (List.length p0.Regs) pc0, .slice pa1 (List.length p0.Mem) pc1, .slice a6 (List.length x22) c6, .int .i64 p0.In, .slice pa3 (List.length p0.Out) pc3, .int .i64 p0.Code, .int .i64 p0.Steps], SL (α := Int) 3 (.slice pa0 (List.length p0.Regs) pc0) p0.Regs, SL (α := Int) 3 (.slice pa1 (List.length p0.Mem) pc1) p0.Mem, SL (α := Int) 3 (.slice a6 (List.length x22) c6) x22, SL (α := Int) 3 (.slice pa3 (List.length p0.Out) pc3) p0.Out] w35 S27 := Sep.pick [1, 2, 3, 4, 5] hs (by decide) rfl
    refine from_pure 1 [(0, .pointer (some ⟨b1, 0, none⟩)), (8, .int .i64 p2.B)] hF (by kernel_rfl) fun fr hF => ?_
    refine from_end rfl ?_
    refine blk_normal (then_normal ?_)
    refine (wp_text' ?_)
    refine from_pure 4 [(247, .int .i64 p2.B), (249, .pointer (some ⟨b1, 0, none⟩))] hF (by kernel_rfl) fun fr hF => ?_
    refine q_storeBox 0 hs hM0 rfl [.int .i64 p2.B, .slice pa0 (List.length p0.Regs) pc0, .slice pa1 (List.length p0.Mem) pc1, .slice a6 (List.length x22) c6, .int .i64 p0.In, .slice pa3 (List.length p0.Out) pc3, .int .i64 p0.Code, .int .i64 p0.Steps] rfl hF rfl rfl (by kernel_rfl) rfl rfl rfl fun w36 S28 hs hp hF => ?_
    have hM0 := hM0.stp hp
    have hs : Sep [BX b1 28 [.int .i64 p2.B, .slice pa0 (List.length p0.Regs) pc0, .slice pa1 (List.length p0.Mem) pc1, .slice a6 (List.length x22) c6, .int .i64 p0.In, .slice pa3 (List.length p0.Out) pc3, .int .i64 p0.Code, .int .i64 p0.Steps], SL (α := Int) 3 (.slice pa0 (List.length p0.Regs) pc0) p0.Regs, SL (α := Int) 3 (.slice pa1 (List.length p0.Mem) pc1) p0.Mem, SL (α := Int) 3 (.slice a6 (List.length x22) c6) x22, SL (α := Int) 3 (.slice pa3 (List.length p0.Out) pc3) p0.Out] w36 S28 := hs
    refine from_end rfl ?_
    have hrets := fun {σ : List (Nat × Value)} (h : σ = []) => (by subst h; exact Rets.nil : Rets Try.prog σ w36 [] [])
    obtain rfl := Option.some.inj h
    exact (retGn (rs := []) rfl (hF.sub [] (by kernel_rfl)) (hrets rfl) rfl ⟨_, rfl, pa0, pc0, pa1, pc1, a6, c6, pa3, pc3, rfl, S28, hM0.out, hs⟩)
  replace h := iteF hb h
  have hs : Sep [BX b1 28 [.int .i64 p0.Pc, .slice pa0 (List.length p0.Regs) pc0, .slice pa1 (List.length p0.Mem) pc1, .slice pa2 (List.length p0.Stack) pc2, .int .i64 p0.In, .slice pa3 (List.length p0.Out) pc3, .int .i64 p0.Code, .int .i64 p0.Steps], SL (α := Int) 3 (.slice pa0 (List.length p0.Regs) pc0) p0.Regs, SL (α := Int) 3 (.slice pa1 (List.length p0.Mem) pc1) p0.Mem, SL (α := Int) 3 (.slice pa2 (List.length p0.Stack) pc2) p0.Stack, SL (α := Int) 3 (.slice pa3 (List.length p0.Out) pc3) p0.Out] w2 S2 := Sep.pick [1, 2, 3, 4, 5] hs (by decide) rfl
  refine wp_seq (wp_pure [(0, .pointer (some ⟨b1, 0, none⟩)), (8, .int .i64 (w64 (p0.Pc + 1))), (15, .int .i64 p2.Op), (213, .bool (p2.Op == 12))] hF (by kernel_rfl) fun fr hF => then_normal ?_)
  refine (wp_if hF (b := (p2.Op == 12)) rfl (fun hb => ?_) (fun hb => ?_))
  · replace h := iteT hb h
    obtain ⟨x23, hx23, h⟩ := bindE h
    refine wp_seq (region_bm 13 [0, 1, 3, 7, 0, 16, 48, 112, 240, 496, 1023, 2047, 4095] [true, true, true, false, true, true, true, false, true, true, false, false, true]
        [.eq (.pointer (some ⟨b1, 0, none⟩)), .eq (.pointer (some ⟨b1, 0, none⟩)), .eq (.pointer (some ⟨b1, 3, none⟩)), .eq (.slice pa2 (List.length p0.Stack) pc2), .eq (.pointer (some ⟨b1, 0, none⟩)), .eq (.pointer (some ⟨b1, 0, none⟩)), .eq (.pointer (some ⟨b1, 3, none⟩)), .eq (.slice pa2 (List.length p0.Stack) pc2), .eq (.int .i64 (len p0.Stack)), .eq (.int .i64 (w64 ((len p0.Stack) - 1))), .is fun v w => ElemP w (fun k => k < w2.heap.size) v (x23 : Int), .eq (.int .i64 x23), .eq (.int .i64 x23)]
        [(0, .pointer (some ⟨b1, 0, none⟩)), (8, .int .i64 x23)] mix hF (by kernel_rfl) (by kernel_rfl) (by kernel_rfl) (by kernel_rfl) ⟨Pd.monoO_eq, Pd.monoO_eq, (Pd.monoO_is mono_elem), Pd.monoO_eq, trivial⟩ (fun ow hG => ⟨np_to ow (np_loadBox hG hF ty26 rfl rfl (hs.bx 0 rfl) rfl rfl rfl), np_to ow (np_loadBox hG hF ty26 rfl rfl (hs.bx 0 rfl) rfl rfl rfl), np_to ow (np_index hG hF ty3 Try.underlying26 rfl rfl (RV.sub (hs.rv 3 rfl) fun k hk _ => hk) rfl rfl (fun hg => ⟨get?_nn hx23, get?_at hx23⟩)), np_to ow (np_loadF (z := x23) (i := 10) hG hF ty3 rfl rfl rfl rfl rfl rfl rfl), trivial⟩) (by kernel_rfl) fun ow fr w37 hF hE hc => ?_)
    have hs := hs.ext hc
    have hM0 := hM0.ext hc
    refine from_end rfl (then_normal ?_)
    obtain ⟨x24, hx24, h⟩ := bindE h
    refine (region_bm 12 [0, 0, 2, 6, 14, 0, 32, 96, 224, 480, 992, 2046, 4095, 8191, 16383] [true, true, true, true, false, true, true, true, false, true, true, false]
        [.eq (.pointer (some ⟨b1, 0, none⟩)), .eq (.pointer (some ⟨b1, 0, none⟩)), .eq (.pointer (some ⟨b1, 0, none⟩)), .eq (.pointer (some ⟨b1, 3, none⟩)), .eq (.slice pa2 (List.length p0.Stack) pc2), .eq (.pointer (some ⟨b1, 0, none⟩)), .eq (.pointer (some ⟨b1, 0, none⟩)), .eq (.pointer (some ⟨b1, 3, none⟩)), .eq (.slice pa2 (List.length p0.Stack) pc2), .eq (.int .i64 (len p0.Stack)), .eq (.int .i64 (w64 ((len p0.Stack) - 1))), .eq (.slice pa2 (List.length x24) pc2), .any, .any, .any]
        [(0, .pointer (some ⟨b1, 0, none⟩)), (8, .int .i64 x23), (227, .pointer (some ⟨b1, 0, none⟩)), (238, .slice pa2 (List.length x24) pc2)] mix hF (by kernel_rfl) (by kernel_rfl) (by kernel_rfl) (by kernel_rfl) ⟨Pd.monoO_eq, Pd.monoO_eq, Pd.monoO_eq, trivial⟩ (fun ow hG => ⟨np_to ow (np_loadBox hG hF ty26 rfl rfl (hs.bx 0 rfl) rfl rfl rfl), np_to ow (np_loadBox hG hF ty26 rfl rfl (hs.bx 0 rfl) rfl rfl rfl), np_to ow (np_front hG hF ty3 Try.underlying26 rfl rfl rfl (hs.rv 3 rfl) rfl (fun hg => hx24) rfl), trivial⟩) (by kernel_rfl) fun ow fr w38 hF hE hc => ?_)
    have hs := hs.ext hc
    have hM0 := hM0.ext hc
    obtain ⟨S29, hp, hs⟩ := Sep.front 3 hs hM0 rfl hx24
    have hM0 := hM0.stp hp
    have hs : Sep [BX b1 28 [.int .i64 p0.Pc, .slice pa0 (List.length p0.Regs) pc0, .slice pa1 (List.length p0.Mem) pc1, .slice pa2 (List.length p0.Stack) pc2, .int .i64 p0.In, .slice pa3 (List.length p0.Out) pc3, .int .i64 p0.Code, .int .i64 p0.Steps], SL (α := Int) 3 (.slice pa0 (List.length p0.Regs) pc0) p0.Regs, SL (α := Int) 3 (.slice pa1 (List.length p0.Mem) pc1) p0.Mem, SL (α := Int) 3 (.slice pa2 (List.length x24) pc2) x24, SL (α := Int) 3 (.slice pa3 (List.length p0.Out) pc3) p0.Out] w38 S29 := hs
    refine from_pure 2 [(0, .pointer (some ⟨b1, 0, none⟩)), (8, .int .i64 x23), (238, .slice pa2 (List.length x24) pc2), (240, .pointer (some ⟨b1, 3, none⟩))] hF (by kernel_rfl) fun fr hF => ?_
    refine q_storeBox 0 hs hM0 rfl [.int .i64 p0.Pc, .slice pa0 (List.length p0.Regs) pc0, .slice pa1 (List.length p0.Mem) pc1, .slice pa2 (List.length x24) pc2, .int .i64 p0.In, .slice pa3 (List.length p0.Out) pc3, .int .i64 p0.Code, .int .i64 p0.Steps] rfl hF rfl rfl (by kernel_rfl) rfl rfl rfl fun w39 S30 hs hp hF => ?_
    have hM0 := hM0.stp hp
    have hs : Sep [BX b1 28 [.int .i64 p0.Pc, .slice pa0 (List.length p0.Regs) pc0, .slice pa1 (List.length p0.Mem) pc1, .slice pa2 (List.length x24) pc2, .int .i64 p0.In, .slice pa3 (List.length p0.Out) pc3, .int .i64 p0.Code, .int .i64 p0.Steps], SL (α := Int) 3 (.slice pa0 (List.length p0.Regs) pc0) p0.Regs, SL (α := Int) 3 (.slice pa1 (List.length p0.Mem) pc1) p0.Mem, SL (α := Int) 3 (.slice pa2 (List.length x24) pc2) x24, SL (α := Int) 3 (.slice pa3 (List.length p0.Out) pc3) p0.Out] w39 S30 := hs
    refine from_end rfl ?_
    refine blk_normal (then_normal ?_)
    refine (wp_text' ?_)
    refine from_pure 4 [(247, .int .i64 x23), (249, .pointer (some ⟨b1, 0, none⟩))] hF (by kernel_rfl) fun fr hF => ?_
    refine q_storeBox 0 hs hM0 rfl [.int .i64 x23, .slice pa0 (List.length p0.Regs) pc0, .slice pa1 (List.length p0.Mem) pc1, .slice pa2 (List.length x24) pc2, .int .i64 p0.In, .slice pa3 (List.length p0.Out) pc3, .int .i64 p0.Code, .int .i64 p0.Steps] rfl hF rfl rfl (by kernel_rfl) rfl rfl rfl fun w40 S31 hs hp hF => ?_
    have hM0 := hM0.stp hp
    have hs : Sep [BX b1 28 [.int .i64 x23, .slice pa0 (List.length p0.Regs) pc0, .slice pa1 (List.length p0.Mem) pc1, .slice pa2 (List.length x24) pc2, .int .i64 p0.In, .slice pa3 (List.length p0.Out) pc3, .int .i64 p0.Code, .int .i64 p0.Steps], SL (α := Int) 3 (.slice pa0 (List.length p0.Regs) pc0) p0.Regs, SL (α := Int) 3 (.slice pa1 (List.length p0.Mem) pc1) p0.Mem, SL (α := Int) 3 (.slice pa2 (List.length x24) pc2) x24, SL (α := Int) 3 (.slice pa3 (List.length p0.Out) pc3) p0.Out] w40 S31 := hs
    refine from_end rfl ?_
    have hrets := fun {σ : List (Nat × Value)} (h : σ = []) => (by subst h; exact Rets.nil : Rets Try.prog σ w40 [] [])
    obtain rfl := Option.some.inj h
    exact (retGn (rs := []) rfl (hF.sub [] (by kernel_rfl)) (hrets rfl) rfl ⟨_, rfl, pa0, pc0, pa1, pc1, pa2, pc2, pa3, pc3, rfl, S31, hM0.out, hs⟩)
  replace h := iteF hb h
  refine wp_seq (wp_pure [(0, .pointer (some ⟨b1, 0, none⟩)), (8, .int .i64 (w64 (p0.Pc + 1))), (241, .bool (p2.Op == 14))] hF (by kernel_rfl) fun fr hF => then_normal ?_)
  refine (wp_if hF (b := (p2.Op == 14)) rfl (fun hb => ?_) (fun hb => ?_))
  · replace h := iteT hb h
    refine wp_seq (wp_text' ?_)
    refine from_pure 3 [(245, .pointer (some ⟨b1, 6, none⟩))] hF (by kernel_rfl) fun fr hF => ?_
    refine q_storeBox 0 hs hM0 rfl [.int .i64 p0.Pc, .slice pa0 (List.length p0.Regs) pc0, .slice pa1 (List.length p0.Mem) pc1, .slice pa2 (List.length p0.Stack) pc2, .int .i64 p0.In, .slice pa3 (List.length p0.Out) pc3, .int .i64 1, .int .i64 p0.Steps] rfl hF rfl rfl (by kernel_rfl) rfl rfl rfl fun w41 S32 hs hp hF => ?_
    have hM0 := hM0.stp hp
    have hs : Sep [BX b1 28 [.int .i64 p0.Pc, .slice pa0 (List.length p0.Regs) pc0, .slice pa1 (List.length p0.Mem) pc1, .slice pa2 (List.length p0.Stack) pc2, .int .i64 p0.In, .slice pa3 (List.length p0.Out) pc3, .int .i64 1, .int .i64 p0.Steps], SL (α := Int) 3 (.slice pa0 (List.length p0.Regs) pc0) p0.Regs, SL (α := Int) 3 (.slice pa1 (List.length p0.Mem) pc1) p0.Mem, SL (α := Int) 3 (.slice pa2 (List.length p0.Stack) pc2) p0.Stack, SL (α := Int) 3 (.slice pa3 (List.length p0.Out) pc3) p0.Out] w41 S32 := hs
    refine from_end rfl (then_normal ?_)
    have hrets := fun {σ : List (Nat × Value)} (h : σ = []) => (by subst h; exact Rets.nil : Rets Try.prog σ w41 [] [])
    obtain rfl := Option.some.inj h
    exact wp_ret (blk_ret (then_ret (retG (rs := []) rfl (hF.sub [] (by kernel_rfl)) (hrets rfl) rfl ⟨_, rfl, pa0, pc0, pa1, pc1, pa2, pc2, pa3, pc3, rfl, S32, hM0.out, hs⟩)))
  replace h := iteF hb h
  refine (wp_skip ?_)
  refine blk_normal (then_normal ?_)
  refine (wp_text' ?_)
  refine from_pure 4 [(247, .int .i64 (w64 (p0.Pc + 1))), (249, .pointer (some ⟨b1, 0, none⟩))] hF (by kernel_rfl) fun fr hF => ?_
  refine q_storeBox 0 hs hM0 rfl [.int .i64 (w64 (p0.Pc + 1)), .slice pa0 (List.length p0.Regs) pc0, .slice pa1 (List.length p0.Mem) pc1, .slice pa2 (List.length p0.Stack) pc2, .int .i64 p0.In, .slice pa3 (List.length p0.Out) pc3, .int .i64 p0.Code, .int .i64 p0.Steps] rfl hF rfl rfl (by kernel_rfl) rfl rfl rfl fun w42 S33 hs hp hF => ?_
  have hM0 := hM0.stp hp
  have hs : Sep [BX b1 28 [.int .i64 (w64 (p0.Pc + 1)), .slice pa0 (List.length p0.Regs) pc0, .slice pa1 (List.length p0.Mem) pc1, .slice pa2 (List.length p0.Stack) pc2, .int .i64 p0.In, .slice pa3 (List.length p0.Out) pc3, .int .i64 p0.Code, .int .i64 p0.Steps], SL (α := Int) 3 (.slice pa0 (List.length p0.Regs) pc0) p0.Regs, SL (α := Int) 3 (.slice pa1 (List.length p0.Mem) pc1) p0.Mem, SL (α := Int) 3 (.slice pa2 (List.length p0.Stack) pc2) p0.Stack, SL (α := Int) 3 (.slice pa3 (List.length p0.Out) pc3) p0.Out] w42 S33 := hs
  refine from_end rfl ?_
  have hrets := fun {σ : List (Nat × Value)} (h : σ = []) => (by subst h; exact Rets.nil : Rets Try.prog σ w42 [] [])
  obtain rfl := Option.some.inj h
  exact (retGn (rs := []) rfl (hF.sub [] (by kernel_rfl)) (hrets rfl) rfl ⟨_, rfl, pa0, pc0, pa1, pc1, pa2, pc2, pa3, pc3, rfl, S33, hM0.out, hs⟩)

theorem impl_State_step_ok (p0 : D.State) (p1 : D.Program) (p2 : List Int) {r : D.State} (h : impl_State_step p0 p1 p2 = some r) {w : World} {S0 F0 : Nat → Prop} {pa0 : Option Addr} {pn0 pc0 : Nat} {pa1 : Option Addr} {pn1 pc1 : Nat} {pa2 : Option Addr} {pn2 pc2 : Nat} {pa3 : Option Addr} {pn3 pc3 : Nat} {b1 : Nat} (hs : Sep [BX b1 28 [.int .i64 p0.Pc, .slice pa0 pn0 pc0, .slice pa1 pn1 pc1, .slice pa2 pn2 pc2, .int .i64 p0.In, .slice pa3 pn3 pc3, .int .i64 p0.Code, .int .i64 p0.Steps], SL (α := Int) 3 (.slice pa0 pn0 pc0) p0.Regs, SL (α := Int) 3 (.slice pa1 pn1 pc1) p0.Mem, SL (α := Int) 3 (.slice pa2 pn2 pc2) p0.Stack, SL (α := Int) 3 (.slice pa3 pn3 pc3) p0.Out] w S0) (hb : ∀ k, S0 k → k < w.heap.size) (hd : ∀ k, S0 k → F0 k → False) {va1 : Value} (ra1 : RV w F0 va1 p1) {va2 : Value} (ra2 : RV w F0 va2 p2) :
    Calls Try.prog 51 [.pointer (some ⟨b1, 0, none⟩), va1, va2].toArray w fun e w' => ∃ v, e = .returned v ∧ ∃ a1 c1 a2 c2 a3 c3 a4 c4, v = .tuple #[] ∧ ∃ S', Stp w S0 w' S' ∧ Sep [BX b1 28 [.int .i64 r.Pc, .slice a1 (List.length r.Regs) c1, .slice a2 (List.length r.Mem) c2, .slice a3 (List.length r.Stack) c3, .int .i64 r.In, .slice a4 (List.length r.Out) c4, .int .i64 r.Code, .int .i64 r.Steps], SL (α := Int) 3 (.slice a1 (List.length r.Regs) c1) r.Regs, SL (α := Int) 3 (.slice a2 (List.length r.Mem) c2) r.Mem, SL (α := Int) 3 (.slice a3 (List.length r.Stack) c3) r.Stack, SL (α := Int) 3 (.slice a4 (List.length r.Out) c4) r.Out] w' S' := by
  unfold impl_State_step at h
  obtain ⟨hpn, hs⟩ := hs.relen 1 rfl
  subst hpn
  obtain ⟨hpn, hs⟩ := hs.relen 2 rfl
  subst hpn
  obtain ⟨hpn, hs⟩ := hs.relen 3 rfl
  subst hpn
  obtain ⟨hpn, hs⟩ := hs.relen 4 rfl
  subst hpn
  have hs : Sep [BX b1 28 [.int .i64 p0.Pc, .slice pa0 (List.length p0.Regs) pc0, .slice pa1 (List.length p0.Mem) pc1, .slice pa2 (List.length p0.Stack) pc2, .int .i64 p0.In, .slice pa3 (List.length p0.Out) pc3, .int .i64 p0.Code, .int .i64 p0.Steps], SL (α := Int) 3 (.slice pa0 (List.length p0.Regs) pc0) p0.Regs, SL (α := Int) 3 (.slice pa1 (List.length p0.Mem) pc1) p0.Mem, SL (α := Int) 3 (.slice pa2 (List.length p0.Stack) pc2) p0.Stack, SL (α := Int) 3 (.slice pa3 (List.length p0.Out) pc3) p0.Out] w S0 := hs
  have hM0 : Mem w S0 (fun k => F0 k ∧ k < w.heap.size) w S0 (fun k => F0 k ∧ k < w.heap.size) := Mem.start hb (fun _ h => h.2) (fun k h1 h2 => hd k h1 h2.1)
  have ra1 := ra1.sub (F' := (fun k => F0 k ∧ k < w.heap.size)) (fun k hk h => ⟨h, hk⟩)
  obtain ⟨v1, rfl, r1⟩ := RV.Program ra1
  obtain ⟨a1, c1, rfl, -⟩ := r1.slice
  have ra2 := ra2.sub (F' := (fun k => F0 k ∧ k < w.heap.size)) (fun k hk h => ⟨h, hk⟩)
  obtain ⟨a2, c2, rfl, -⟩ := ra2.slice
  refine enter (N := 53) Try.func51 rfl Try.ntmps51 rfl fun fr hF => ?_
  refine wp_seq (wp_text' ?_)
  refine q_box hs hM0 [.int .i64 p1.W, .int .i64 p1.Mem, .int .i64 p1.In, .slice a1 (List.length p1.Code) c1] rfl rfl hF rfl rfl fun b2 w1 S1 fr hs hp hF => ?_
  have r1 := r1.stp hM0 hp
  have ra2 := ra2.stp hM0 hp
  have hM0 := hM0.stp hp
  have hs : Sep [BX b2 32 [.int .i64 p1.W, .int .i64 p1.Mem, .int .i64 p1.In, .slice a1 (List.length p1.Code) c1], BX b1 28 [.int .i64 p0.Pc, .slice pa0 (List.length p0.Regs) pc0, .slice pa1 (List.length p0.Mem) pc1, .slice pa2 (List.length p0.Stack) pc2, .int .i64 p0.In, .slice pa3 (List.length p0.Out) pc3, .int .i64 p0.Code, .int .i64 p0.Steps], SL (α := Int) 3 (.slice pa0 (List.length p0.Regs) pc0) p0.Regs, SL (α := Int) 3 (.slice pa1 (List.length p0.Mem) pc1) p0.Mem, SL (α := Int) 3 (.slice pa2 (List.length p0.Stack) pc2) p0.Stack, SL (α := Int) 3 (.slice pa3 (List.length p0.Out) pc3) p0.Out] w1 S1 := hs
  refine from_end rfl (then_normal ?_)
  refine wp_seq ?_
  refine wp_seq (wp_text' ?_)
  refine from_pure 1 [(0, .pointer (some ⟨b1, 0, none⟩)), (2, .slice a2 (List.length p2) c2), (4, .pointer (some ⟨b2, 0, none⟩)), (8, .pointer (some ⟨b1, 0, none⟩))] hF (by kernel_rfl) fun fr hF => ?_
  obtain ⟨x1, hx1, h⟩ := bindE h
  refine s_call [.pointer (some ⟨b1, 0, none⟩)] Try.call54 rfl rfl hF rfl (impl_State_moves_ok p0 hx1 (hs.fb 1 rfl) (hs.rv 2 rfl) (hs.rv 3 rfl) (hs.rv 4 rfl) (hs.rv 5 rfl)) fun v w2 fr hRes hF => ?_
  obtain ⟨rfl, hc⟩ := hRes
  have ra2 := ra2.ext hc
  have r1 := r1.ext hc
  have hs := hs.ext hc
  have hM0 := hM0.ext hc
  refine from_pure 1 [(0, .pointer (some ⟨b1, 0, none⟩)), (2, .slice a2 (List.length p2) c2), (4, .pointer (some ⟨b2, 0, none⟩)), (10, .bool (!x1))] hF (by kernel_rfl) fun fr hF => ?_
  refine from_end rfl (then_normal ?_)
  refine (wp_if hF (b := (!x1)) rfl (fun hb => ?_) (fun hb => ?_))
  · replace h := iteT hb h
    have hs : Sep [BX b1 28 [.int .i64 p0.Pc, .slice pa0 (List.length p0.Regs) pc0, .slice pa1 (List.length p0.Mem) pc1, .slice pa2 (List.length p0.Stack) pc2, .int .i64 p0.In, .slice pa3 (List.length p0.Out) pc3, .int .i64 p0.Code, .int .i64 p0.Steps], SL (α := Int) 3 (.slice pa0 (List.length p0.Regs) pc0) p0.Regs, SL (α := Int) 3 (.slice pa1 (List.length p0.Mem) pc1) p0.Mem, SL (α := Int) 3 (.slice pa2 (List.length p0.Stack) pc2) p0.Stack, SL (α := Int) 3 (.slice pa3 (List.length p0.Out) pc3) p0.Out] w2 S1 := Sep.pick [1, 2, 3, 4, 5] hs (by decide) rfl
    have hrets := fun {σ : List (Nat × Value)} (h : σ = []) => (by subst h; exact Rets.nil : Rets Try.prog σ w2 [] [])
    obtain rfl := Option.some.inj h
    exact wp_ret (then_ret (retG (rs := []) rfl (hF.sub [] (by kernel_rfl)) (hrets rfl) rfl ⟨_, rfl, pa0, pc0, pa1, pc1, pa2, pc2, pa3, pc3, rfl, S1, hM0.out, hs⟩))
  replace h := iteF hb h
  refine (wp_skip (then_normal ?_))
  refine wp_seq ?_
  refine wp_seq (region_bm 8 [0, 1, 3, 7, 0, 16, 48, 127] [true, true, true, false, true, false, true, true]
      [.eq (.pointer (some ⟨b1, 0, none⟩)), .eq (.pointer (some ⟨b1, 0, none⟩)), .eq (.pointer (some ⟨b1, 0, none⟩)), .eq (.int .i64 p0.Pc), .eq (.pointer (some ⟨b2, 3, none⟩)), .eq (.slice a1 (List.length p1.Code) c1), .eq (.int .i64 (len p1.Code)), .eq (.bool (p0.Pc == (len p1.Code)))]
      [(0, .pointer (some ⟨b1, 0, none⟩)), (2, .slice a2 (List.length p2) c2), (4, .pointer (some ⟨b2, 0, none⟩)), (18, .bool (p0.Pc == (len p1.Code)))] mix hF (by kernel_rfl) (by kernel_rfl) (by kernel_rfl) (by kernel_rfl) ⟨Pd.monoO_eq, Pd.monoO_eq, trivial⟩ (fun ow hG => ⟨np_to ow (np_loadBox hG hF ty3 rfl rfl (hs.bx 1 rfl) rfl rfl rfl), np_to ow (np_loadBox hG hF ty30 rfl rfl (hs.bx 0 rfl) rfl rfl rfl), trivial⟩) (by kernel_rfl) fun ow fr w3 hF hE hc => ?_)
  have ra2 := ra2.ext hc
  have r1 := r1.ext hc
  have hs := hs.ext hc
  have hM0 := hM0.ext hc
  refine from_end rfl (then_normal ?_)
  refine (wp_if hF (b := (p0.Pc == (len p1.Code))) rfl (fun hb => ?_) (fun hb => ?_))
  · replace h := iteT hb h
    have hs : Sep [BX b1 28 [.int .i64 p0.Pc, .slice pa0 (List.length p0.Regs) pc0, .slice pa1 (List.length p0.Mem) pc1, .slice pa2 (List.length p0.Stack) pc2, .int .i64 p0.In, .slice pa3 (List.length p0.Out) pc3, .int .i64 p0.Code, .int .i64 p0.Steps], SL (α := Int) 3 (.slice pa0 (List.length p0.Regs) pc0) p0.Regs, SL (α := Int) 3 (.slice pa1 (List.length p0.Mem) pc1) p0.Mem, SL (α := Int) 3 (.slice pa2 (List.length p0.Stack) pc2) p0.Stack, SL (α := Int) 3 (.slice pa3 (List.length p0.Out) pc3) p0.Out] w3 S1 := Sep.pick [1, 2, 3, 4, 5] hs (by decide) rfl
    refine wp_seq (wp_text' ?_)
    refine from_pure 3 [(21, .pointer (some ⟨b1, 6, none⟩))] hF (by kernel_rfl) fun fr hF => ?_
    refine q_storeBox 0 hs hM0 rfl [.int .i64 p0.Pc, .slice pa0 (List.length p0.Regs) pc0, .slice pa1 (List.length p0.Mem) pc1, .slice pa2 (List.length p0.Stack) pc2, .int .i64 p0.In, .slice pa3 (List.length p0.Out) pc3, .int .i64 2, .int .i64 p0.Steps] rfl hF rfl rfl (by kernel_rfl) rfl rfl rfl fun w4 S2 hs hp hF => ?_
    have hM0 := hM0.stp hp
    have hs : Sep [BX b1 28 [.int .i64 p0.Pc, .slice pa0 (List.length p0.Regs) pc0, .slice pa1 (List.length p0.Mem) pc1, .slice pa2 (List.length p0.Stack) pc2, .int .i64 p0.In, .slice pa3 (List.length p0.Out) pc3, .int .i64 2, .int .i64 p0.Steps], SL (α := Int) 3 (.slice pa0 (List.length p0.Regs) pc0) p0.Regs, SL (α := Int) 3 (.slice pa1 (List.length p0.Mem) pc1) p0.Mem, SL (α := Int) 3 (.slice pa2 (List.length p0.Stack) pc2) p0.Stack, SL (α := Int) 3 (.slice pa3 (List.length p0.Out) pc3) p0.Out] w4 S2 := hs
    refine from_end rfl (then_normal ?_)
    have hrets := fun {σ : List (Nat × Value)} (h : σ = []) => (by subst h; exact Rets.nil : Rets Try.prog σ w4 [] [])
    obtain rfl := Option.some.inj h
    exact wp_ret (then_ret (retG (rs := []) rfl (hF.sub [] (by kernel_rfl)) (hrets rfl) rfl ⟨_, rfl, pa0, pc0, pa1, pc1, pa2, pc2, pa3, pc3, rfl, S2, hM0.out, hs⟩))
  replace h := iteF hb h
  refine (wp_skip (then_normal ?_))
  refine wp_seq (wp_text' ?_)
  refine from_pure 3 [(0, .pointer (some ⟨b1, 0, none⟩)), (2, .slice a2 (List.length p2) c2), (4, .pointer (some ⟨b2, 0, none⟩)), (22, .pointer (some ⟨b1, 0, none⟩)), (24, .pointer (some ⟨b1, 7, none⟩))] hF (by kernel_rfl) fun fr hF => ?_
  refine s_loadBox (.int .i64 p0.Steps) ty3 rfl rfl hF rfl (hs.bx 1 rfl) rfl rfl fun fr hF => ?_
  refine from_pure 3 [(0, .pointer (some ⟨b1, 0, none⟩)), (2, .slice a2 (List.length p2) c2), (4, .pointer (some ⟨b2, 0, none⟩)), (26, .int .i64 (w64 (p0.Steps + 1))), (28, .pointer (some ⟨b1, 7, none⟩))] hF (by kernel_rfl) fun fr hF => ?_
  refine q_storeBox 1 hs hM0 rfl [.int .i64 p0.Pc, .slice pa0 (List.length p0.Regs) pc0, .slice pa1 (List.length p0.Mem) pc1, .slice pa2 (List.length p0.Stack) pc2, .int .i64 p0.In, .slice pa3 (List.length p0.Out) pc3, .int .i64 p0.Code, .int .i64 (w64 (p0.Steps + 1))] rfl hF rfl rfl (by kernel_rfl) rfl rfl rfl fun w5 S3 hs hp hF => ?_
  have ra2 := ra2.stp hM0 hp
  have r1 := r1.stp hM0 hp
  have hM0 := hM0.stp hp
  have hs : Sep [BX b2 32 [.int .i64 p1.W, .int .i64 p1.Mem, .int .i64 p1.In, .slice a1 (List.length p1.Code) c1], BX b1 28 [.int .i64 p0.Pc, .slice pa0 (List.length p0.Regs) pc0, .slice pa1 (List.length p0.Mem) pc1, .slice pa2 (List.length p0.Stack) pc2, .int .i64 p0.In, .slice pa3 (List.length p0.Out) pc3, .int .i64 p0.Code, .int .i64 (w64 (p0.Steps + 1))], SL (α := Int) 3 (.slice pa0 (List.length p0.Regs) pc0) p0.Regs, SL (α := Int) 3 (.slice pa1 (List.length p0.Mem) pc1) p0.Mem, SL (α := Int) 3 (.slice pa2 (List.length p0.Stack) pc2) p0.Stack, SL (α := Int) 3 (.slice pa3 (List.length p0.Out) pc3) p0.Out] w5 S3 := hs
  refine from_end rfl (then_normal ?_)
  obtain ⟨x2, hx2, h⟩ := bindE h
  refine wp_seq (region_bm 9 [0, 1, 0, 4, 12, 28, 63, 127, 0, 511] [true, false, true, true, true, false, false, false, false]
      [.eq (.pointer (some ⟨b2, 3, none⟩)), .eq (.slice a1 (List.length p1.Code) c1), .eq (.pointer (some ⟨b1, 0, none⟩)), .eq (.pointer (some ⟨b1, 0, none⟩)), .eq (.pointer (some ⟨b1, 0, none⟩)), .eq (.int .i64 p0.Pc), .is fun v w => ElemP w (fun k => k < w5.heap.size) v (x2 : D.Ins), .eq (.agg #[.int .i64 x2.Op, .int .i64 x2.A, .int .i64 x2.B, .int .i64 x2.C]), .own fun ow v w => ∃ b, v = .pointer (some ⟨b, 0, none⟩) ∧ (BX b 66 [.int .i64 0, .int .i64 0, .int .i64 0, .int .i64 0]).ok w (fun k => w5.heap.size ≤ k ∧ k < w.heap.size ∧ ow k = 8), .any]
      [(0, .pointer (some ⟨b1, 0, none⟩)), (2, .slice a2 (List.length p2) c2), (4, .pointer (some ⟨b2, 0, none⟩)), (36, .agg #[.int .i64 x2.Op, .int .i64 x2.A, .int .i64 x2.B, .int .i64 x2.C])] mix hF (by kernel_rfl) (by kernel_rfl) (by kernel_rfl) (by kernel_rfl) ⟨Pd.monoO_eq, Pd.monoO_eq, (Pd.monoO_is mono_elem), Pd.monoO_eq, mono_new, trivial⟩ (fun ow hG => ⟨np_to ow (np_loadBox hG hF ty30 rfl rfl (hs.bx 0 rfl) rfl rfl rfl), np_to ow (np_loadBox hG hF ty3 rfl rfl (hs.bx 1 rfl) rfl rfl rfl), np_to ow (np_index hG hF ty66 Try.underlying30 rfl rfl (RV.sub (r1) fun k hk _ => hk) rfl rfl (fun hg => ⟨get?_nn hx2, get?_at hx2⟩)), np_to ow (np_loadF (z := x2) (i := 6) hG hF ty66 rfl rfl rfl rfl rfl rfl rfl), np_alloc (z := .agg #[.int .i64 0, .int .i64 0, .int .i64 0, .int .i64 0]) hG hF rfl (by kernel_rfl) rfl rfl, trivial⟩) (by kernel_rfl) fun ow fr w6 hF hE hc => ?_)
  obtain ⟨b3, hv, hnw8⟩ := hE.is 6 8 rfl rfl
  have hF := hF.cons hv
  have hsN := sepO (w0 := w5) (ow := ow) [(8, BX b3 66 [.int .i64 0, .int .i64 0, .int .i64 0, .int .i64 0])] (show ([8] : List Nat).Nodup by decide) ⟨hnw8, trivial⟩ rfl
  obtain ⟨S4, hp, hs⟩ := hs.got hM0 (stp_new hc) hsN
  have ra2 := ra2.stp hM0 hp
  have r1 := r1.stp hM0 hp
  have hM0 := hM0.stp hp
  have hs : Sep [BX b3 66 [.int .i64 0, .int .i64 0, .int .i64 0, .int .i64 0], BX b2 32 [.int .i64 p1.W, .int .i64 p1.Mem, .int .i64 p1.In, .slice a1 (List.length p1.Code) c1], BX b1 28 [.int .i64 p0.Pc, .slice pa0 (List.length p0.Regs) pc0, .slice pa1 (List.length p0.Mem) pc1, .slice pa2 (List.length p0.Stack) pc2, .int .i64 p0.In, .slice pa3 (List.length p0.Out) pc3, .int .i64 p0.Code, .int .i64 (w64 (p0.Steps + 1))], SL (α := Int) 3 (.slice pa0 (List.length p0.Regs) pc0) p0.Regs, SL (α := Int) 3 (.slice pa1 (List.length p0.Mem) pc1) p0.Mem, SL (α := Int) 3 (.slice pa2 (List.length p0.Stack) pc2) p0.Stack, SL (α := Int) 3 (.slice pa3 (List.length p0.Out) pc3) p0.Out] w6 S4 := hs
  refine q_storeBoxS 0 hs hM0 rfl [.int .i64 x2.Op, .int .i64 x2.A, .int .i64 x2.B, .int .i64 x2.C] rfl hF rfl rfl (by kernel_rfl) rfl rfl rfl fun w7 S5 hs hp hF => ?_
  have ra2 := ra2.stp hM0 hp
  have r1 := r1.stp hM0 hp
  have hM0 := hM0.stp hp
  have hs : Sep [BX b3 66 [.int .i64 x2.Op, .int .i64 x2.A, .int .i64 x2.B, .int .i64 x2.C], BX b2 32 [.int .i64 p1.W, .int .i64 p1.Mem, .int .i64 p1.In, .slice a1 (List.length p1.Code) c1], BX b1 28 [.int .i64 p0.Pc, .slice pa0 (List.length p0.Regs) pc0, .slice pa1 (List.length p0.Mem) pc1, .slice pa2 (List.length p0.Stack) pc2, .int .i64 p0.In, .slice pa3 (List.length p0.Out) pc3, .int .i64 p0.Code, .int .i64 (w64 (p0.Steps + 1))], SL (α := Int) 3 (.slice pa0 (List.length p0.Regs) pc0) p0.Regs, SL (α := Int) 3 (.slice pa1 (List.length p0.Mem) pc1) p0.Mem, SL (α := Int) 3 (.slice pa2 (List.length p0.Stack) pc2) p0.Stack, SL (α := Int) 3 (.slice pa3 (List.length p0.Out) pc3) p0.Out] w7 S5 := hs
  refine from_end rfl (then_normal ?_)
  refine wp_seq ?_
  refine wp_seq (wp_text' ?_)
  refine from_pure 1 [(0, .pointer (some ⟨b1, 0, none⟩)), (2, .slice a2 (List.length p2) c2), (4, .pointer (some ⟨b2, 0, none⟩)), (6, .pointer (some ⟨b3, 0, none⟩)), (37, .pointer (some ⟨b1, 0, none⟩))] hF (by kernel_rfl) fun fr hF => ?_
  refine s_loadBoxS ty32 rfl rfl hF rfl (hs.bx 1 rfl) rfl rfl fun fr hF => ?_
  refine s_loadBoxS ty66 rfl rfl hF rfl (hs.bx 0 rfl) rfl rfl fun fr hF => ?_
  refine from_pure 1 [(0, .pointer (some ⟨b1, 0, none⟩)), (2, .slice a2 (List.length p2) c2), (4, .pointer (some ⟨b2, 0, none⟩)), (6, .pointer (some ⟨b3, 0, none⟩)), (37, .pointer (some ⟨b1, 0, none⟩)), (38, .agg #[.int .i64 p1.W, .int .i64 p1.Mem, .int .i64 p1.In, .slice a1 (List.length p1.Code) c1]), (39, .agg #[.int .i64 x2.Op, .int .i64 x2.A, .int .i64 x2.B, .int .i64 x2.C]), (40, .slice a2 (List.length p2) c2)] hF (by kernel_rfl) fun fr hF => ?_
  obtain ⟨x3, hx3, h⟩ := bindE h
  refine s_call [.pointer (some ⟨b1, 0, none⟩), .agg #[.int .i64 p1.W, .int .i64 p1.Mem, .int .i64 p1.In, .slice a1 (List.length p1.Code) c1], .agg #[.int .i64 x2.Op, .int .i64 x2.A, .int .i64 x2.B, .int .i64 x2.C], .slice a2 (List.length p2) c2] Try.call71 rfl rfl hF rfl (impl_State_trouble_ok (D.State.mk p0.Pc p0.Regs p0.Mem p0.Stack p0.In p0.Out p0.Code (w64 (p0.Steps + 1))) p1 x2 p2 hx3 (hs.fb 2 rfl) (hs.rv 3 rfl) (hs.rv 4 rfl) (hs.rv 5 rfl) (hs.rv 6 rfl) (RV.mk_Program p1 (r1)) (ra2)) fun v w8 fr hRes hF => ?_
  obtain ⟨rfl, hc⟩ := hRes
  have ra2 := ra2.ext hc
  have r1 := r1.ext hc
  have hs := hs.ext hc
  have hM0 := hM0.ext hc
  refine from_pure 1 [(0, .pointer (some ⟨b1, 0, none⟩)), (2, .slice a2 (List.length p2) c2), (4, .pointer (some ⟨b2, 0, none⟩)), (6, .pointer (some ⟨b3, 0, none⟩)), (7, .int .i64 x3)] hF (by kernel_rfl) fun fr hF => ?_
  refine from_end rfl (then_normal ?_)
  refine wp_seq (wp_pure [(0, .pointer (some ⟨b1, 0, none⟩)), (2, .slice a2 (List.length p2) c2), (4, .pointer (some ⟨b2, 0, none⟩)), (6, .pointer (some ⟨b3, 0, none⟩)), (7, .int .i64 x3), (43, .bool (x3 != 0))] hF (by kernel_rfl) fun fr hF => then_normal ?_)
  refine (wp_if hF (b := (x3 != 0)) rfl (fun hb => ?_) (fun hb => ?_))
  · replace h := iteT hb h
    have hs : Sep [BX b1 28 [.int .i64 p0.Pc, .slice pa0 (List.length p0.Regs) pc0, .slice pa1 (List.length p0.Mem) pc1, .slice pa2 (List.length p0.Stack) pc2, .int .i64 p0.In, .slice pa3 (List.length p0.Out) pc3, .int .i64 p0.Code, .int .i64 (w64 (p0.Steps + 1))], SL (α := Int) 3 (.slice pa0 (List.length p0.Regs) pc0) p0.Regs, SL (α := Int) 3 (.slice pa1 (List.length p0.Mem) pc1) p0.Mem, SL (α := Int) 3 (.slice pa2 (List.length p0.Stack) pc2) p0.Stack, SL (α := Int) 3 (.slice pa3 (List.length p0.Out) pc3) p0.Out] w8 S5 := Sep.pick [2, 3, 4, 5, 6] hs (by decide) rfl
    refine wp_seq (wp_text' ?_)
    refine from_pure 4 [(45, .int .i64 x3), (47, .pointer (some ⟨b1, 6, none⟩))] hF (by kernel_rfl) fun fr hF => ?_
    refine q_storeBox 0 hs hM0 rfl [.int .i64 p0.Pc, .slice pa0 (List.length p0.Regs) pc0, .slice pa1 (List.length p0.Mem) pc1, .slice pa2 (List.length p0.Stack) pc2, .int .i64 p0.In, .slice pa3 (List.length p0.Out) pc3, .int .i64 x3, .int .i64 (w64 (p0.Steps + 1))] rfl hF rfl rfl (by kernel_rfl) rfl rfl rfl fun w9 S6 hs hp hF => ?_
    have hM0 := hM0.stp hp
    have hs : Sep [BX b1 28 [.int .i64 p0.Pc, .slice pa0 (List.length p0.Regs) pc0, .slice pa1 (List.length p0.Mem) pc1, .slice pa2 (List.length p0.Stack) pc2, .int .i64 p0.In, .slice pa3 (List.length p0.Out) pc3, .int .i64 x3, .int .i64 (w64 (p0.Steps + 1))], SL (α := Int) 3 (.slice pa0 (List.length p0.Regs) pc0) p0.Regs, SL (α := Int) 3 (.slice pa1 (List.length p0.Mem) pc1) p0.Mem, SL (α := Int) 3 (.slice pa2 (List.length p0.Stack) pc2) p0.Stack, SL (α := Int) 3 (.slice pa3 (List.length p0.Out) pc3) p0.Out] w9 S6 := hs
    refine from_end rfl (then_normal ?_)
    have hrets := fun {σ : List (Nat × Value)} (h : σ = []) => (by subst h; exact Rets.nil : Rets Try.prog σ w9 [] [])
    obtain rfl := Option.some.inj h
    exact wp_ret (then_ret (retG (rs := []) rfl (hF.sub [] (by kernel_rfl)) (hrets rfl) rfl ⟨_, rfl, pa0, pc0, pa1, pc1, pa2, pc2, pa3, pc3, rfl, S6, hM0.out, hs⟩))
  replace h := iteF hb h
  refine (wp_skip (then_normal ?_))
  refine (wp_text' ?_)
  refine from_pure 1 [(2, .slice a2 (List.length p2) c2), (4, .pointer (some ⟨b2, 0, none⟩)), (6, .pointer (some ⟨b3, 0, none⟩)), (48, .pointer (some ⟨b1, 0, none⟩))] hF (by kernel_rfl) fun fr hF => ?_
  refine s_loadBoxS ty32 rfl rfl hF rfl (hs.bx 1 rfl) rfl rfl fun fr hF => ?_
  have hs : Sep [BX b3 66 [.int .i64 x2.Op, .int .i64 x2.A, .int .i64 x2.B, .int .i64 x2.C], BX b1 28 [.int .i64 p0.Pc, .slice pa0 (List.length p0.Regs) pc0, .slice pa1 (List.length p0.Mem) pc1, .slice pa2 (List.length p0.Stack) pc2, .int .i64 p0.In, .slice pa3 (List.length p0.Out) pc3, .int .i64 p0.Code, .int .i64 (w64 (p0.Steps + 1))], SL (α := Int) 3 (.slice pa0 (List.length p0.Regs) pc0) p0.Regs, SL (α := Int) 3 (.slice pa1 (List.length p0.Mem) pc1) p0.Mem, SL (α := Int) 3 (.slice pa2 (List.length p0.Stack) pc2) p0.Stack, SL (α := Int) 3 (.slice pa3 (List.length p0.Out) pc3) p0.Out] w8 S5 := Sep.pick [0, 2, 3, 4, 5, 6] hs (by decide) rfl
  refine s_loadBoxS ty66 rfl rfl hF rfl (hs.bx 0 rfl) rfl rfl fun fr hF => ?_
  have hs : Sep [BX b1 28 [.int .i64 p0.Pc, .slice pa0 (List.length p0.Regs) pc0, .slice pa1 (List.length p0.Mem) pc1, .slice pa2 (List.length p0.Stack) pc2, .int .i64 p0.In, .slice pa3 (List.length p0.Out) pc3, .int .i64 p0.Code, .int .i64 (w64 (p0.Steps + 1))], SL (α := Int) 3 (.slice pa0 (List.length p0.Regs) pc0) p0.Regs, SL (α := Int) 3 (.slice pa1 (List.length p0.Mem) pc1) p0.Mem, SL (α := Int) 3 (.slice pa2 (List.length p0.Stack) pc2) p0.Stack, SL (α := Int) 3 (.slice pa3 (List.length p0.Out) pc3) p0.Out] w8 S5 := Sep.pick [1, 2, 3, 4, 5] hs (by decide) rfl
  refine from_pure 1 [(48, .pointer (some ⟨b1, 0, none⟩)), (49, .agg #[.int .i64 p1.W, .int .i64 p1.Mem, .int .i64 p1.In, .slice a1 (List.length p1.Code) c1]), (50, .agg #[.int .i64 x2.Op, .int .i64 x2.A, .int .i64 x2.B, .int .i64 x2.C]), (51, .slice a2 (List.length p2) c2)] hF (by kernel_rfl) fun fr hF => ?_
  obtain ⟨x4, hx4, h⟩ := bindE h
  obtain ⟨A1, R1, hsA, hsR, hdA, hbA, hup⟩ := Sep.call (L1 := [BX b1 28 [.int .i64 p0.Pc, .slice pa0 (List.length p0.Regs) pc0, .slice pa1 (List.length p0.Mem) pc1, .slice pa2 (List.length p0.Stack) pc2, .int .i64 p0.In, .slice pa3 (List.length p0.Out) pc3, .int .i64 p0.Code, .int .i64 (w64 (p0.Steps + 1))], SL (α := Int) 3 (.slice pa0 (List.length p0.Regs) pc0) p0.Regs, SL (α := Int) 3 (.slice pa1 (List.length p0.Mem) pc1) p0.Mem, SL (α := Int) 3 (.slice pa2 (List.length p0.Stack) pc2) p0.Stack, SL (α := Int) 3 (.slice pa3 (List.length p0.Out) pc3) p0.Out]) (L2 := []) hs hM0
  refine s_call [.pointer (some ⟨b1, 0, none⟩), .agg #[.int .i64 p1.W, .int .i64 p1.Mem, .int .i64 p1.In, .slice a1 (List.length p1.Code) c1], .agg #[.int .i64 x2.Op, .int .i64 x2.A, .int .i64 x2.B, .int .i64 x2.C], .slice a2 (List.length p2) c2] Try.call72 rfl rfl hF rfl (impl_State_perform_ok (D.State.mk p0.Pc p0.Regs p0.Mem p0.Stack p0.In p0.Out p0.Code (w64 (p0.Steps + 1))) p1 x2 p2 hx4 hsA hbA hdA (RV.mk_Program p1 (r1.big (fun _ h => .inl h))) (ra2.big (fun _ h => .inl h))) fun v w10 fr hRes hF => ?_
  obtain ⟨a3, c3, a4, c4, a5, c5, a6, c6, rfl, _, hp, hs⟩ := hRes
  obtain ⟨S7, hp, hs⟩ := hup hp hs
  have r1 := r1.stp hM0 hp
  have ra2 := ra2.stp hM0 hp
  have hM0 := hM0.stp hp
  have hs : Sep [BX b1 28 [.int .i64 x4.Pc, .slice a3 (List.length x4.Regs) c3, .slice a4 (List.length x4.Mem) c4, .slice a5 (List.length x4.Stack) c5, .int .i64 x4.In, .slice a6 (List.length x4.Out) c6, .int .i64 x4.Code, .int .i64 x4.Steps], SL (α := Int) 3 (.slice a3 (List.length x4.Regs) c3) x4.Regs, SL (α := Int) 3 (.slice a4 (List.length x4.Mem) c4) x4.Mem, SL (α := Int) 3 (.slice a5 (List.length x4.Stack) c5) x4.Stack, SL (α := Int) 3 (.slice a6 (List.length x4.Out) c6) x4.Out] w10 S7 := hs
  refine from_end rfl ?_
  have hrets := fun {σ : List (Nat × Value)} (h : σ = []) => (by subst h; exact Rets.nil : Rets Try.prog σ w10 [] [])
  obtain rfl := Option.some.inj h
  exact (retGn (rs := []) rfl (hF.sub [] (by kernel_rfl)) (hrets rfl) rfl ⟨_, rfl, a3, c3, a4, c4, a5, c5, a6, c6, rfl, S7, hM0.out, hs⟩)

theorem impl_TraceOf_ok (n : Nat) (p0 : D.Program) (p1 : List Int) (p2 : Int) {r : (List Int)} (h : impl_TraceOf n p0 p1 p2 = some r) {w : World} {G0 : Nat → Prop} {va0 : Value} (ra0 : RV w G0 va0 p0) {G1 : Nat → Prop} {va1 : Value} (ra1 : RV w G1 va1 p1) :
    Calls Try.prog 29 [va0, va1, .int .i64 p2].toArray w fun e w' => ∃ v, e = .returned v ∧ ∃ a1 c1, v = .slice a1 (List.length r) c1 ∧ ∃ S', Stp w Non w' S' ∧ Sep [SL (α := Int) 3 (.slice a1 (List.length r) c1) r] w' S' := by
  unfold impl_TraceOf at h
  have hs := Sep.nil w Non
  have hM0 : Mem w Non (fun k => (G0 k ∨ G1 k) ∧ k < w.heap.size) w Non (fun k => (G0 k ∨ G1 k) ∧ k < w.heap.size) := Mem.start (fun _ h => h.elim) (fun _ h => h.2) (fun _ h => h.elim)
  have ra0 := ra0.sub (F' := (fun k => (G0 k ∨ G1 k) ∧ k < w.heap.size)) (fun k hk h => ⟨.inl h, hk⟩)
  obtain ⟨v1, rfl, r1⟩ := RV.Program ra0
  obtain ⟨a1, c1, rfl, -⟩ := r1.slice
  have ra1 := ra1.sub (F' := (fun k => (G0 k ∨ G1 k) ∧ k < w.heap.size)) (fun k hk h => ⟨.inr (h), hk⟩)
  obtain ⟨a2, c2, rfl, -⟩ := ra1.slice
  refine enter (N := 44) Try.func29 rfl Try.ntmps29 rfl fun fr hF => ?_
  refine wp_seq (wp_text' ?_)
  refine q_box hs hM0 [.int .i64 p0.W, .int .i64 p0.Mem, .int .i64 p0.In, .slice a1 (List.length p0.Code) c1] rfl rfl hF rfl rfl fun b1 w1 S1 fr hs hp hF => ?_
  have r1 := r1.stp hM0 hp
  have ra1 := ra1.stp hM0 hp
  have hM0 := hM0.stp hp
  have hs : Sep [BX b1 32 [.int .i64 p0.W, .int .i64 p0.Mem, .int .i64 p0.In, .slice a1 (List.length p0.Code) c1]] w1 S1 := hs
  refine from_pure 1 [(1, .slice a2 (List.length p1) c2), (2, .int .i64 p2), (3, .pointer (some ⟨b1, 0, none⟩))] hF (by kernel_rfl) fun fr hF => ?_
  refine from_end rfl (then_normal ?_)
  refine wp_seq ?_
  obtain ⟨x1, hx1, h⟩ := bindE h
  obtain ⟨x2, hx2, h⟩ := bindE h
  refine wp_seq (region_b [] [false, true, false, true, true, true, false, true, true]
      [.eq (.agg #[.int .i64 p0.W, .int .i64 p0.Mem, .int .i64 p0.In, .slice a1 (List.length p0.Code) c1]), .eq (.slice a2 (List.length p1) c2), .eq (.bool x1), .eq (.bool (!x1)), .eq (.bool (!x1)), .eq (.int .i64 p2), .eq (.bool x2), .eq (.bool (!x2)), .eq (.bool ((!x1) || (!x2)))]
      [(1, .slice a2 (List.length p1) c2), (2, .int .i64 p2), (3, .pointer (some ⟨b1, 0, none⟩)), (18, .bool ((!x1) || (!x2)))] mix hF (by kernel_rfl) (by kernel_rfl) (by kernel_rfl) ⟨Pd.mono_eq, Pd.mono_eq, Pd.mono_eq, trivial⟩ (fun hG => ⟨np_loadBoxS hG hF ty32 rfl rfl (hs.bx 0 rfl) rfl rfl rfl rfl, np_call [.agg #[.int .i64 p0.W, .int .i64 p0.Mem, .int .i64 p0.In, .slice a1 (List.length p0.Code) c1], .slice a2 (List.length p1) c2] hG hF Try.call49 rfl rfl (fun w hC hg => (impl_InputsOk_ok n p0 p1 hx1 ((RV.mk_Program p0 (r1)).ext hC) ((ra1).ext hC)).mono fun e w' ⟨v, he, hv, hc⟩ => ⟨v, he, hc, hv⟩), np_call [.int .i64 p2] hG hF Try.call53 rfl rfl (fun w hC hg => (impl_fuelOk_ok p2 (iteF hg.2 hx2)).mono fun e w' ⟨v, he, hv, hc⟩ => ⟨v, he, hc, hv⟩), trivial⟩) (by kernel_rfl) fun fr w2 hF hE hc => then_normal ?_)
  have ra1 := ra1.ext hc
  have r1 := r1.ext hc
  have hs := hs.ext hc
  have hM0 := hM0.ext hc
  refine (wp_if hF (b := ((!x1) || (!x2))) rfl (fun hb => ?_) (fun hb => ?_))
  · replace h := iteT hb h
    have hs : Sep [] w2 S1 := Sep.pick [] hs (by decide) rfl
    refine wp_seq (wp_pure [(6, .slice none (List.length ([] : List Int)) 0)] hF (by kernel_rfl) fun fr hF => then_normal ?_)
    have hs : Sep [SL (α := Int) 3 (.slice none (List.length ([] : List Int)) 0) ([] : List Int)] w2 S1 := hs.cons_nil (α := Int) 3
    obtain rfl := Option.some.inj h
    exact wp_ret (then_ret (ret1 rfl hF rfl ⟨_, rfl, none, 0, rfl, S1, hM0.out, hs⟩))
  replace h := iteF hb h
  refine (wp_skip (then_normal ?_))
  refine wp_seq (wp_pure [(1, .slice a2 (List.length p1) c2), (2, .int .i64 p2), (3, .pointer (some ⟨b1, 0, none⟩)), (7, .slice none (List.length ([] : List Int)) 0)] hF (by kernel_rfl) fun fr hF => then_normal ?_)
  refine wp_seq (wp_text' ?_)
  refine s_loadBoxS ty32 rfl rfl hF rfl (hs.bx 0 rfl) rfl rfl fun fr hF => ?_
  obtain ⟨x3, hx3, h⟩ := bindE h
  refine s_call [.agg #[.int .i64 p0.W, .int .i64 p0.Mem, .int .i64 p0.In, .slice a1 (List.length p0.Code) c1]] Try.call13 rfl rfl hF rfl (impl_NewState_ok n p0 hx3 (RV.mk_Program p0 (r1))) fun v w3 fr hRes hF => ?_
  obtain ⟨a3, c3, a4, c4, a5, c5, a6, c6, rfl, _, hp, hs2⟩ := hRes
  obtain ⟨S2, hp, hs⟩ := hs.got hM0 hp hs2
  have ra1 := ra1.stp hM0 hp
  have r1 := r1.stp hM0 hp
  have hM0 := hM0.stp hp
  have hs : Sep [SL (α := Int) 3 (.slice a3 (List.length x3.Regs) c3) x3.Regs, SL (α := Int) 3 (.slice a4 (List.length x3.Mem) c4) x3.Mem, SL (α := Int) 3 (.slice a5 (List.length x3.Stack) c5) x3.Stack, SL (α := Int) 3 (.slice a6 (List.length x3.Out) c6) x3.Out, BX b1 32 [.int .i64 p0.W, .int .i64 p0.Mem, .int .i64 p0.In, .slice a1 (List.length p0.Code) c1]] w3 S2 := hs
  refine q_alloc (z := .agg #[.int .i64 0, .slice none (List.length ([] : List Int)) 0, .slice none (List.length ([] : List Int)) 0, .slice none (List.length ([] : List Int)) 0, .int .i64 0, .slice none (List.length ([] : List Int)) 0, .int .i64 0, .int .i64 0]) hs hM0 [.int .i64 0, .slice none (List.length ([] : List Int)) 0, .slice none (List.length ([] : List Int)) 0, .slice none (List.length ([] : List Int)) 0, .int .i64 0, .slice none (List.length ([] : List Int)) 0, .int .i64 0, .int .i64 0] rfl rfl hF (by kernel_rfl) rfl fun b2 w4 S3 fr hs hp hF => ?_
  have ra1 := ra1.stp hM0 hp
  have r1 := r1.stp hM0 hp
  have hM0 := hM0.stp hp
  have hs : Sep [BX b2 28 [.int .i64 0, .slice none (List.length ([] : List Int)) 0, .slice none (List.length ([] : List Int)) 0, .slice none (List.length ([] : List Int)) 0, .int .i64 0, .slice none (List.length ([] : List Int)) 0, .int .i64 0, .int .i64 0], SL (α := Int) 3 (.slice a3 (List.length x3.Regs) c3) x3.Regs, SL (α := Int) 3 (.slice a4 (List.length x3.Mem) c4) x3.Mem, SL (α := Int) 3 (.slice a5 (List.length x3.Stack) c5) x3.Stack, SL (α := Int) 3 (.slice a6 (List.length x3.Out) c6) x3.Out, BX b1 32 [.int .i64 p0.W, .int .i64 p0.Mem, .int .i64 p0.In, .slice a1 (List.length p0.Code) c1]] w4 S3 := hs
  refine q_storeBoxS 0 hs hM0 rfl [.int .i64 x3.Pc, .slice a3 (List.length x3.Regs) c3, .slice a4 (List.length x3.Mem) c4, .slice a5 (List.length x3.Stack) c5, .int .i64 x3.In, .slice a6 (List.length x3.Out) c6, .int .i64 x3.Code, .int .i64 x3.Steps] rfl hF rfl rfl (by kernel_rfl) rfl rfl rfl fun w5 S4 hs hp hF => ?_
  have ra1 := ra1.stp hM0 hp
  have r1 := r1.stp hM0 hp
  have hM0 := hM0.stp hp
  have hs : Sep [BX b2 28 [.int .i64 x3.Pc, .slice a3 (List.length x3.Regs) c3, .slice a4 (List.length x3.Mem) c4, .slice a5 (List.length x3.Stack) c5, .int .i64 x3.In, .slice a6 (List.length x3.Out) c6, .int .i64 x3.Code, .int .i64 x3.Steps], SL (α := Int) 3 (.slice a3 (List.length x3.Regs) c3) x3.Regs, SL (α := Int) 3 (.slice a4 (List.length x3.Mem) c4) x3.Mem, SL (α := Int) 3 (.slice a5 (List.length x3.Stack) c5) x3.Stack, SL (α := Int) 3 (.slice a6 (List.length x3.Out) c6) x3.Out, BX b1 32 [.int .i64 p0.W, .int .i64 p0.Mem, .int .i64 p0.In, .slice a1 (List.length p0.Code) c1]] w5 S4 := hs
  refine from_end rfl (then_normal ?_)
  refine wp_seq ?_
  refine wp_seq (wp_pure [(1, .slice a2 (List.length p1) c2), (2, .int .i64 p2), (3, .pointer (some ⟨b1, 0, none⟩)), (7, .slice none (List.length ([] : List Int)) 0), (8, .pointer (some ⟨b2, 0, none⟩)), (9, .int .i64 0)] hF (by kernel_rfl) fun fr hF => then_normal ?_)
  have hs : Sep [SL (α := Int) 3 (.slice none (List.length ([] : List Int)) 0) ([] : List Int), BX b2 28 [.int .i64 x3.Pc, .slice a3 (List.length x3.Regs) c3, .slice a4 (List.length x3.Mem) c4, .slice a5 (List.length x3.Stack) c5, .int .i64 x3.In, .slice a6 (List.length x3.Out) c6, .int .i64 x3.Code, .int .i64 x3.Steps], SL (α := Int) 3 (.slice a3 (List.length x3.Regs) c3) x3.Regs, SL (α := Int) 3 (.slice a4 (List.length x3.Mem) c4) x3.Mem, SL (α := Int) 3 (.slice a5 (List.length x3.Stack) c5) x3.Stack, SL (α := Int) 3 (.slice a6 (List.length x3.Out) c6) x3.Out, BX b1 32 [.int .i64 p0.W, .int .i64 p0.Mem, .int .i64 p0.In, .slice a1 (List.length p0.Code) c1]] w5 S4 := hs.cons_nil (α := Int) 3
  obtain ⟨rl1, hit1, h⟩ := bindE h
  have hk1 := h
  refine (wp_cut (M := fun fr w' => ∃ a12 c12 S6 F2, FrS 44 [(7, .slice a12 (List.length rl1) c12)] fr ∧ Mem w5 S4 (fun k => (G0 k ∨ G1 k) ∧ k < w.heap.size) w' S6 F2 ∧ Sep [SL (α := Int) 3 (.slice a12 (List.length rl1) c12) rl1] w' S6) (wp_block (wp_iter (Inv := fun s1 fr w' => ∃ a7 c7 a8 c8 a9 c9 a10 c10 a11 c11 S5 F1, FrS 44 [(1, .slice a2 (List.length p1) c2), (2, .int .i64 p2), (3, .pointer (some ⟨b1, 0, none⟩)), (7, .slice a7 (List.length s1.2.1) c7), (8, .pointer (some ⟨b2, 0, none⟩)), (9, .int .i64 s1.1)] fr ∧ Mem w5 S4 (fun k => (G0 k ∨ G1 k) ∧ k < w.heap.size) w' S5 F1 ∧ Sep [SL (α := Int) 3 (.slice a7 (List.length s1.2.1) c7) s1.2.1, BX b2 28 [.int .i64 s1.2.2.1, .slice a8 (List.length s1.2.2.2.2.2.2.1) c8, .slice a9 (List.length s1.2.2.2.2.2.2.2.1) c9, .slice a10 (List.length s1.2.2.2.2.2.2.2.2.1) c10, .int .i64 s1.2.2.2.1, .slice a11 (List.length s1.2.2.2.2.2.2.2.2.2) c11, .int .i64 s1.2.2.2.2.1, .int .i64 s1.2.2.2.2.2.1], SL (α := Int) 3 (.slice a8 (List.length s1.2.2.2.2.2.2.1) c8) s1.2.2.2.2.2.2.1, SL (α := Int) 3 (.slice a9 (List.length s1.2.2.2.2.2.2.2.1) c9) s1.2.2.2.2.2.2.2.1, SL (α := Int) 3 (.slice a10 (List.length s1.2.2.2.2.2.2.2.2.1) c10) s1.2.2.2.2.2.2.2.2.1, SL (α := Int) 3 (.slice a11 (List.length s1.2.2.2.2.2.2.2.2.2) c11) s1.2.2.2.2.2.2.2.2.2, BX b1 32 [.int .i64 p0.W, .int .i64 p0.Mem, .int .i64 p0.In, .slice a1 (List.length p0.Code) c1]] w' S5) hit1 ⟨none, 0, a3, c3, a4, c4, a5, c5, a6, c6, S4, _, hF.sub _ (by kernel_rfl), (Mem.start hM0.bd hM0.bdF hM0.dj), hs⟩ fun s1 q1 fr w1i hI h hr1 => ?_)) fun fr w1o hM => ?_)
  · obtain ⟨a7, c7, a8, c8, a9, c9, a10, c10, a11, c11, S5, F1, hF, hM1, hs⟩ := hI
    have ra1 := ra1.mem hM1
    have r1 := r1.mem hM1
    refine wp_seq ?_
    refine wp_seq (wp_pure [(1, .slice a2 (List.length p1) c2), (2, .int .i64 p2), (3, .pointer (some ⟨b1, 0, none⟩)), (7, .slice a7 (List.length s1.2.1) c7), (8, .pointer (some ⟨b2, 0, none⟩)), (9, .int .i64 s1.1), (23, .bool (decide (s1.1 < p2)))] hF (by kernel_rfl) fun fr hF => then_normal ?_)
    refine (wp_if hF (b := (decide (s1.1 < p2))) rfl (fun hb => ?_) (fun hb => ?_))
    · replace h := iteT hb h
      refine (wp_skip (then_normal ?_))
      refine wp_seq (wp_block ?_)
      refine wp_seq ?_
      obtain ⟨x4, hx4, h⟩ := bindE h
      refine wp_seq (region_b [] [false, true, true, false, true, false, true, true, true]
          [.eq (.bool x4), .eq (.bool x4), .eq (.pointer (some ⟨b2, 0, none⟩)), .eq (.int .i64 s1.2.2.1), .eq (.pointer (some ⟨b1, 3, none⟩)), .eq (.slice a1 (List.length p0.Code) c1), .eq (.int .i64 (len p0.Code)), .eq (.bool (decide (s1.2.2.1 < (len p0.Code)))), .eq (.bool (x4 && (decide (s1.2.2.1 < (len p0.Code)))))]
          [(1, .slice a2 (List.length p1) c2), (2, .int .i64 p2), (3, .pointer (some ⟨b1, 0, none⟩)), (7, .slice a7 (List.length s1.2.1) c7), (8, .pointer (some ⟨b2, 0, none⟩)), (9, .int .i64 s1.1), (34, .bool (x4 && (decide (s1.2.2.1 < (len p0.Code)))))] mix hF (by kernel_rfl) (by kernel_rfl) (by kernel_rfl) ⟨Pd.mono_eq, Pd.mono_eq, Pd.mono_eq, trivial⟩ (fun hG => ⟨np_call [.pointer (some ⟨b2, 0, none⟩)] hG hF Try.call54 rfl rfl (fun w hC hg => (impl_State_moves_ok (D.State.mk s1.2.2.1 s1.2.2.2.2.2.2.1 s1.2.2.2.2.2.2.2.1 s1.2.2.2.2.2.2.2.2.1 s1.2.2.2.1 s1.2.2.2.2.2.2.2.2.2 s1.2.2.2.2.1 s1.2.2.2.2.2.1) hx4 ((hs.fb 1 rfl).ext hC) ((hs.rv 2 rfl).ext hC) ((hs.rv 3 rfl).ext hC) ((hs.rv 4 rfl).ext hC) ((hs.rv 5 rfl).ext hC)).mono fun e w' ⟨v, he, hv, hc⟩ => ⟨v, he, hc, hv⟩), np_loadBox hG hF ty3 rfl rfl (hs.bx 1 rfl) rfl rfl rfl, np_loadBox hG hF ty30 rfl rfl (hs.bx 6 rfl) rfl rfl rfl, trivial⟩) (by kernel_rfl) fun fr w6 hF hE hc => then_normal ?_)
      have ra1 := ra1.ext hc
      have r1 := r1.ext hc
      have hs := hs.ext hc
      have hM1 := hM1.ext hc
      refine (wp_if hF (b := (x4 && (decide (s1.2.2.1 < (len p0.Code))))) rfl (fun hb => ?_) (fun hb => ?_))
      · replace h := iteT hb h
        refine (wp_text' ?_)
        refine from_pure 2 [(1, .slice a2 (List.length p1) c2), (2, .int .i64 p2), (3, .pointer (some ⟨b1, 0, none⟩)), (8, .pointer (some ⟨b2, 0, none⟩)), (9, .int .i64 s1.1), (35, .slice a7 (List.length s1.2.1) c7), (36, .pointer (some ⟨b2, 0, none⟩))] hF (by kernel_rfl) fun fr hF => ?_
        refine s_loadBox (.int .i64 s1.2.2.1) ty3 rfl rfl hF rfl (hs.bx 1 rfl) rfl rfl fun fr hF => ?_
        refine q_lit (E := 3) hs hM1 [.int .i64 s1.2.2.1] (([s1.2.2.1] : List Int).map Flat.enc) ([s1.2.2.1] : List Int) rfl rfl hF [.int .i64 s1.2.2.1] rfl (fun w => by kernel_rfl) (css_flat _) rfl rfl rfl fun a13 c13 w7 S7 fr hs hp hF => ?_
        have ra1 := ra1.stp hM1 hp
        have r1 := r1.stp hM1 hp
        have hM1 := hM1.stp hp
        have hs : Sep [SL (α := Int) 3 (.slice a13 (List.length ([s1.2.2.1] : List Int)) c13) ([s1.2.2.1] : List Int), SL (α := Int) 3 (.slice a7 (List.length s1.2.1) c7) s1.2.1, BX b2 28 [.int .i64 s1.2.2.1, .slice a8 (List.length s1.2.2.2.2.2.2.1) c8, .slice a9 (List.length s1.2.2.2.2.2.2.2.1) c9, .slice a10 (List.length s1.2.2.2.2.2.2.2.2.1) c10, .int .i64 s1.2.2.2.1, .slice a11 (List.length s1.2.2.2.2.2.2.2.2.2) c11, .int .i64 s1.2.2.2.2.1, .int .i64 s1.2.2.2.2.2.1], SL (α := Int) 3 (.slice a8 (List.length s1.2.2.2.2.2.2.1) c8) s1.2.2.2.2.2.2.1, SL (α := Int) 3 (.slice a9 (List.length s1.2.2.2.2.2.2.2.1) c9) s1.2.2.2.2.2.2.2.1, SL (α := Int) 3 (.slice a10 (List.length s1.2.2.2.2.2.2.2.2.1) c10) s1.2.2.2.2.2.2.2.2.1, SL (α := Int) 3 (.slice a11 (List.length s1.2.2.2.2.2.2.2.2.2) c11) s1.2.2.2.2.2.2.2.2.2, BX b1 32 [.int .i64 p0.W, .int .i64 p0.Mem, .int .i64 p0.In, .slice a1 (List.length p0.Code) c1]] w7 S7 := hs
        obtain ⟨x5, hx5, h⟩ := bindE h
        refine q_append 1 hs hM1 rfl Try.underlying26 el3 rfl rfl rfl hF rfl rfl (hs.rv 0 rfl) hx5 fun a14 c14 w8 S8 fr hs hp hF => ?_
        have ra1 := ra1.stp hM1 hp
        have r1 := r1.stp hM1 hp
        have hM1 := hM1.stp hp
        have hs : Sep [SL (α := Int) 3 (.slice a13 (List.length ([s1.2.2.1] : List Int)) c13) ([s1.2.2.1] : List Int), SL (α := Int) 3 (.slice a14 (List.length x5) c14) x5, BX b2 28 [.int .i64 s1.2.2.1, .slice a8 (List.length s1.2.2.2.2.2.2.1) c8, .slice a9 (List.length s1.2.2.2.2.2.2.2.1) c9, .slice a10 (List.length s1.2.2.2.2.2.2.2.2.1) c10, .int .i64 s1.2.2.2.1, .slice a11 (List.length s1.2.2.2.2.2.2.2.2.2) c11, .int .i64 s1.2.2.2.2.1, .int .i64 s1.2.2.2.2.2.1], SL (α := Int) 3 (.slice a8 (List.length s1.2.2.2.2.2.2.1) c8) s1.2.2.2.2.2.2.1, SL (α := Int) 3 (.slice a9 (List.length s1.2.2.2.2.2.2.2.1) c9) s1.2.2.2.2.2.2.2.1, SL (α := Int) 3 (.slice a10 (List.length s1.2.2.2.2.2.2.2.2.1) c10) s1.2.2.2.2.2.2.2.2.1, SL (α := Int) 3 (.slice a11 (List.length s1.2.2.2.2.2.2.2.2.2) c11) s1.2.2.2.2.2.2.2.2.2, BX b1 32 [.int .i64 p0.W, .int .i64 p0.Mem, .int .i64 p0.In, .slice a1 (List.length p0.Code) c1]] w8 S8 := hs
        have hs : Sep [SL (α := Int) 3 (.slice a14 (List.length x5) c14) x5, BX b2 28 [.int .i64 s1.2.2.1, .slice a8 (List.length s1.2.2.2.2.2.2.1) c8, .slice a9 (List.length s1.2.2.2.2.2.2.2.1) c9, .slice a10 (List.length s1.2.2.2.2.2.2.2.2.1) c10, .int .i64 s1.2.2.2.1, .slice a11 (List.length s1.2.2.2.2.2.2.2.2.2) c11, .int .i64 s1.2.2.2.2.1, .int .i64 s1.2.2.2.2.2.1], SL (α := Int) 3 (.slice a8 (List.length s1.2.2.2.2.2.2.1) c8) s1.2.2.2.2.2.2.1, SL (α := Int) 3 (.slice a9 (List.length s1.2.2.2.2.2.2.2.1) c9) s1.2.2.2.2.2.2.2.1, SL (α := Int) 3 (.slice a10 (List.length s1.2.2.2.2.2.2.2.2.1) c10) s1.2.2.2.2.2.2.2.2.1, SL (α := Int) 3 (.slice a11 (List.length s1.2.2.2.2.2.2.2.2.2) c11) s1.2.2.2.2.2.2.2.2.2, BX b1 32 [.int .i64 p0.W, .int .i64 p0.Mem, .int .i64 p0.In, .slice a1 (List.length p0.Code) c1]] w8 S8 := Sep.pick [1, 2, 3, 4, 5, 6, 7] hs (by decide) rfl
        refine from_pure 1 [(1, .slice a2 (List.length p1) c2), (2, .int .i64 p2), (3, .pointer (some ⟨b1, 0, none⟩)), (7, .slice a14 (List.length x5) c14), (8, .pointer (some ⟨b2, 0, none⟩)), (9, .int .i64 s1.1)] hF (by kernel_rfl) fun fr hF => ?_
        refine from_end rfl (then_normal ?_)
        refine (wp_text' ?_)
        refine s_loadBoxS ty32 rfl rfl hF rfl (hs.bx 6 rfl) rfl rfl fun fr hF => ?_
        refine from_pure 1 [(1, .slice a2 (List.length p1) c2), (2, .int .i64 p2), (3, .pointer (some ⟨b1, 0, none⟩)), (7, .slice a14 (List.length x5) c14), (8, .pointer (some ⟨b2, 0, none⟩)), (9, .int .i64 s1.1), (40, .agg #[.int .i64 p0.W, .int .i64 p0.Mem, .int .i64 p0.In, .slice a1 (List.length p0.Code) c1]), (41, .slice a2 (List.length p1) c2)] hF (by kernel_rfl) fun fr hF => ?_
        obtain ⟨x6, hx6, h⟩ := bindE h
        have hs : Sep [BX b2 28 [.int .i64 s1.2.2.1, .slice a8 (List.length s1.2.2.2.2.2.2.1) c8, .slice a9 (List.length s1.2.2.2.2.2.2.2.1) c9, .slice a10 (List.length s1.2.2.2.2.2.2.2.2.1) c10, .int .i64 s1.2.2.2.1, .slice a11 (List.length s1.2.2.2.2.2.2.2.2.2) c11, .int .i64 s1.2.2.2.2.1, .int .i64 s1.2.2.2.2.2.1], SL (α := Int) 3 (.slice a8 (List.length s1.2.2.2.2.2.2.1) c8) s1.2.2.2.2.2.2.1, SL (α := Int) 3 (.slice a9 (List.length s1.2.2.2.2.2.2.2.1) c9) s1.2.2.2.2.2.2.2.1, SL (α := Int) 3 (.slice a10 (List.length s1.2.2.2.2.2.2.2.2.1) c10) s1.2.2.2.2.2.2.2.2.1, SL (α := Int) 3 (.slice a11 (List.length s1.2.2.2.2.2.2.2.2.2) c11) s1.2.2.2.2.2.2.2.2.2, SL (α := Int) 3 (.slice a14 (List.length x5) c14) x5, BX b1 32 [.int .i64 p0.W, .int .i64 p0.Mem, .int .i64 p0.In, .slice a1 (List.length p0.Code) c1]] w8 S8 := Sep.pick [1, 2, 3, 4, 5, 0, 6] hs (by decide) rfl
        obtain ⟨A1, R1, hsA, hsR, hdA, hbA, hup⟩ := Sep.call (L1 := [BX b2 28 [.int .i64 s1.2.2.1, .slice a8 (List.length s1.2.2.2.2.2.2.1) c8, .slice a9 (List.length s1.2.2.2.2.2.2.2.1) c9, .slice a10 (List.length s1.2.2.2.2.2.2.2.2.1) c10, .int .i64 s1.2.2.2.1, .slice a11 (List.length s1.2.2.2.2.2.2.2.2.2) c11, .int .i64 s1.2.2.2.2.1, .int .i64 s1.2.2.2.2.2.1], SL (α := Int) 3 (.slice a8 (List.length s1.2.2.2.2.2.2.1) c8) s1.2.2.2.2.2.2.1, SL (α := Int) 3 (.slice a9 (List.length s1.2.2.2.2.2.2.2.1) c9) s1.2.2.2.2.2.2.2.1, SL (α := Int) 3 (.slice a10 (List.length s1.2.2.2.2.2.2.2.2.1) c10) s1.2.2.2.2.2.2.2.2.1, SL (α := Int) 3 (.slice a11 (List.length s1.2.2.2.2.2.2.2.2.2) c11) s1.2.2.2.2.2.2.2.2.2]) (L2 := [SL (α := Int) 3 (.slice a14 (List.length x5) c14) x5, BX b1 32 [.int .i64 p0.W, .int .i64 p0.Mem, .int .i64 p0.In, .slice a1 (List.length p0.Code) c1]]) hs hM1
        refine s_call [.pointer (some ⟨b2, 0, none⟩), .agg #[.int .i64 p0.W, .int .i64 p0.Mem, .int .i64 p0.In, .slice a1 (List.length p0.Code) c1], .slice a2 (List.length p1) c2] Try.call51 rfl rfl hF rfl (impl_State_step_ok (D.State.mk s1.2.2.1 s1.2.2.2.2.2.2.1 s1.2.2.2.2.2.2.2.1 s1.2.2.2.2.2.2.2.2.1 s1.2.2.2.1 s1.2.2.2.2.2.2.2.2.2 s1.2.2.2.2.1 s1.2.2.2.2.2.1) p0 p1 hx6 hsA hbA hdA (RV.mk_Program p0 (r1.big (fun _ h => .inl h))) (ra1.big (fun _ h => .inl h))) fun v w9 fr hRes hF => ?_
        obtain ⟨a15, c15, a16, c16, a17, c17, a18, c18, rfl, _, hp, hs⟩ := hRes
        obtain ⟨S9, hp, hs⟩ := hup hp hs
        have ra1 := ra1.stp hM1 hp
        have r1 := r1.stp hM1 hp
        have hM1 := hM1.stp hp
        have hs : Sep [BX b2 28 [.int .i64 x6.Pc, .slice a15 (List.length x6.Regs) c15, .slice a16 (List.length x6.Mem) c16, .slice a17 (List.length x6.Stack) c17, .int .i64 x6.In, .slice a18 (List.length x6.Out) c18, .int .i64 x6.Code, .int .i64 x6.Steps], SL (α := Int) 3 (.slice a15 (List.length x6.Regs) c15) x6.Regs, SL (α := Int) 3 (.slice a16 (List.length x6.Mem) c16) x6.Mem, SL (α := Int) 3 (.slice a17 (List.length x6.Stack) c17) x6.Stack, SL (α := Int) 3 (.slice a18 (List.length x6.Out) c18) x6.Out, SL (α := Int) 3 (.slice a14 (List.length x5) c14) x5, BX b1 32 [.int .i64 p0.W, .int .i64 p0.Mem, .int .i64 p0.In, .slice a1 (List.length p0.Code) c1]] w9 S9 := hs
        refine from_end rfl ?_
        refine blk_normal (then_normal ?_)
        refine (wp_pure [(1, .slice a2 (List.length p1) c2), (2, .int .i64 p2), (3, .pointer (some ⟨b1, 0, none⟩)), (7, .slice a14 (List.length x5) c14), (8, .pointer (some ⟨b2, 0, none⟩)), (9, .int .i64 (w64 (s1.1 + 1)))] hF (by kernel_rfl) fun fr hF => then_normal ?_)
        have hs : Sep [SL (α := Int) 3 (.slice a14 (List.length x5) c14) x5, BX b2 28 [.int .i64 x6.Pc, .slice a15 (List.length x6.Regs) c15, .slice a16 (List.length x6.Mem) c16, .slice a17 (List.length x6.Stack) c17, .int .i64 x6.In, .slice a18 (List.length x6.Out) c18, .int .i64 x6.Code, .int .i64 x6.Steps], SL (α := Int) 3 (.slice a15 (List.length x6.Regs) c15) x6.Regs, SL (α := Int) 3 (.slice a16 (List.length x6.Mem) c16) x6.Mem, SL (α := Int) 3 (.slice a17 (List.length x6.Stack) c17) x6.Stack, SL (α := Int) 3 (.slice a18 (List.length x6.Out) c18) x6.Out, BX b1 32 [.int .i64 p0.W, .int .i64 p0.Mem, .int .i64 p0.In, .slice a1 (List.length p0.Code) c1]] w9 S9 := Sep.pick [5, 0, 1, 2, 3, 4, 6] hs (by decide) rfl
        exact ⟨_, (Option.some.inj h).symm, a14, c14, a15, c15, a16, c16, a17, c17, a18, c18, S9, _, hF.sub _ (by kernel_rfl), hM1, hs⟩
      replace h := iteF hb h
      refine (wp_skip (then_normal ?_))
      refine (wp_text' ?_)
      refine s_loadBoxS ty32 rfl rfl hF rfl (hs.bx 6 rfl) rfl rfl fun fr hF => ?_
      refine from_pure 1 [(1, .slice a2 (List.length p1) c2), (2, .int .i64 p2), (3, .pointer (some ⟨b1, 0, none⟩)), (7, .slice a7 (List.length s1.2.1) c7), (8, .pointer (some ⟨b2, 0, none⟩)), (9, .int .i64 s1.1), (40, .agg #[.int .i64 p0.W, .int .i64 p0.Mem, .int .i64 p0.In, .slice a1 (List.length p0.Code) c1]), (41, .slice a2 (List.length p1) c2)] hF (by kernel_rfl) fun fr hF => ?_
      obtain ⟨x7, hx7, h⟩ := bindE h
      have hs : Sep [BX b2 28 [.int .i64 s1.2.2.1, .slice a8 (List.length s1.2.2.2.2.2.2.1) c8, .slice a9 (List.length s1.2.2.2.2.2.2.2.1) c9, .slice a10 (List.length s1.2.2.2.2.2.2.2.2.1) c10, .int .i64 s1.2.2.2.1, .slice a11 (List.length s1.2.2.2.2.2.2.2.2.2) c11, .int .i64 s1.2.2.2.2.1, .int .i64 s1.2.2.2.2.2.1], SL (α := Int) 3 (.slice a8 (List.length s1.2.2.2.2.2.2.1) c8) s1.2.2.2.2.2.2.1, SL (α := Int) 3 (.slice a9 (List.length s1.2.2.2.2.2.2.2.1) c9) s1.2.2.2.2.2.2.2.1, SL (α := Int) 3 (.slice a10 (List.length s1.2.2.2.2.2.2.2.2.1) c10) s1.2.2.2.2.2.2.2.2.1, SL (α := Int) 3 (.slice a11 (List.length s1.2.2.2.2.2.2.2.2.2) c11) s1.2.2.2.2.2.2.2.2.2, SL (α := Int) 3 (.slice a7 (List.length s1.2.1) c7) s1.2.1, BX b1 32 [.int .i64 p0.W, .int .i64 p0.Mem, .int .i64 p0.In, .slice a1 (List.length p0.Code) c1]] w6 S5 := Sep.pick [1, 2, 3, 4, 5, 0, 6] hs (by decide) rfl
      obtain ⟨A2, R2, hsA, hsR, hdA, hbA, hup⟩ := Sep.call (L1 := [BX b2 28 [.int .i64 s1.2.2.1, .slice a8 (List.length s1.2.2.2.2.2.2.1) c8, .slice a9 (List.length s1.2.2.2.2.2.2.2.1) c9, .slice a10 (List.length s1.2.2.2.2.2.2.2.2.1) c10, .int .i64 s1.2.2.2.1, .slice a11 (List.length s1.2.2.2.2.2.2.2.2.2) c11, .int .i64 s1.2.2.2.2.1, .int .i64 s1.2.2.2.2.2.1], SL (α := Int) 3 (.slice a8 (List.length s1.2.2.2.2.2.2.1) c8) s1.2.2.2.2.2.2.1, SL (α := Int) 3 (.slice a9 (List.length s1.2.2.2.2.2.2.2.1) c9) s1.2.2.2.2.2.2.2.1, SL (α := Int) 3 (.slice a10 (List.length s1.2.2.2.2.2.2.2.2.1) c10) s1.2.2.2.2.2.2.2.2.1, SL (α := Int) 3 (.slice a11 (List.length s1.2.2.2.2.2.2.2.2.2) c11) s1.2.2.2.2.2.2.2.2.2]) (L2 := [SL (α := Int) 3 (.slice a7 (List.length s1.2.1) c7) s1.2.1, BX b1 32 [.int .i64 p0.W, .int .i64 p0.Mem, .int .i64 p0.In, .slice a1 (List.length p0.Code) c1]]) hs hM1
      refine s_call [.pointer (some ⟨b2, 0, none⟩), .agg #[.int .i64 p0.W, .int .i64 p0.Mem, .int .i64 p0.In, .slice a1 (List.length p0.Code) c1], .slice a2 (List.length p1) c2] Try.call51 rfl rfl hF rfl (impl_State_step_ok (D.State.mk s1.2.2.1 s1.2.2.2.2.2.2.1 s1.2.2.2.2.2.2.2.1 s1.2.2.2.2.2.2.2.2.1 s1.2.2.2.1 s1.2.2.2.2.2.2.2.2.2 s1.2.2.2.2.1 s1.2.2.2.2.2.1) p0 p1 hx7 hsA hbA hdA (RV.mk_Program p0 (r1.big (fun _ h => .inl h))) (ra1.big (fun _ h => .inl h))) fun v w10 fr hRes hF => ?_
      obtain ⟨a19, c19, a20, c20, a21, c21, a22, c22, rfl, _, hp, hs⟩ := hRes
      obtain ⟨S10, hp, hs⟩ := hup hp hs
      have ra1 := ra1.stp hM1 hp
      have r1 := r1.stp hM1 hp
      have hM1 := hM1.stp hp
      have hs : Sep [BX b2 28 [.int .i64 x7.Pc, .slice a19 (List.length x7.Regs) c19, .slice a20 (List.length x7.Mem) c20, .slice a21 (List.length x7.Stack) c21, .int .i64 x7.In, .slice a22 (List.length x7.Out) c22, .int .i64 x7.Code, .int .i64 x7.Steps], SL (α := Int) 3 (.slice a19 (List.length x7.Regs) c19) x7.Regs, SL (α := Int) 3 (.slice a20 (List.length x7.Mem) c20) x7.Mem, SL (α := Int) 3 (.slice a21 (List.length x7.Stack) c21) x7.Stack, SL (α := Int) 3 (.slice a22 (List.length x7.Out) c22) x7.Out, SL (α := Int) 3 (.slice a7 (List.length s1.2.1) c7) s1.2.1, BX b1 32 [.int .i64 p0.W, .int .i64 p0.Mem, .int .i64 p0.In, .slice a1 (List.length p0.Code) c1]] w10 S10 := hs
      refine from_end rfl ?_
      refine blk_normal (then_normal ?_)
      refine (wp_pure [(1, .slice a2 (List.length p1) c2), (2, .int .i64 p2), (3, .pointer (some ⟨b1, 0, none⟩)), (7, .slice a7 (List.length s1.2.1) c7), (8, .pointer (some ⟨b2, 0, none⟩)), (9, .int .i64 (w64 (s1.1 + 1)))] hF (by kernel_rfl) fun fr hF => then_normal ?_)
      have hs : Sep [SL (α := Int) 3 (.slice a7 (List.length s1.2.1) c7) s1.2.1, BX b2 28 [.int .i64 x7.Pc, .slice a19 (List.length x7.Regs) c19, .slice a20 (List.length x7.Mem) c20, .slice a21 (List.length x7.Stack) c21, .int .i64 x7.In, .slice a22 (List.length x7.Out) c22, .int .i64 x7.Code, .int .i64 x7.Steps], SL (α := Int) 3 (.slice a19 (List.length x7.Regs) c19) x7.Regs, SL (α := Int) 3 (.slice a20 (List.length x7.Mem) c20) x7.Mem, SL (α := Int) 3 (.slice a21 (List.length x7.Stack) c21) x7.Stack, SL (α := Int) 3 (.slice a22 (List.length x7.Out) c22) x7.Out, BX b1 32 [.int .i64 p0.W, .int .i64 p0.Mem, .int .i64 p0.In, .slice a1 (List.length p0.Code) c1]] w10 S10 := Sep.pick [5, 0, 1, 2, 3, 4, 6] hs (by decide) rfl
      exact ⟨_, (Option.some.inj h).symm, a7, c7, a19, c19, a20, c20, a21, c21, a22, c22, S10, _, hF.sub _ (by kernel_rfl), hM1, hs⟩
    replace h := iteF hb h
    have hs : Sep [SL (α := Int) 3 (.slice a7 (List.length s1.2.1) c7) s1.2.1] w1i S5 := Sep.pick [0] hs (by decide) rfl
    refine (wp_exit (then_exit (then_exit (blk_exit_eq ?_))))
    obtain rfl := hr1 _ (Option.some.inj h).symm
    exact then_normal ⟨a7, c7, S5, _, hF.sub _ (by kernel_rfl), hM1, hs⟩
  · obtain ⟨a12, c12, S6, F2, hF, hMx, hs⟩ := hM
    have hM0 := hM0.trans hMx
    refine wp_seq (wp_pure [(6, .slice a12 (List.length rl1) c12)] hF (by kernel_rfl) fun fr hF => then_normal ?_)
    obtain rfl := Option.some.inj h
    exact wp_ret (ret1 rfl hF rfl ⟨_, rfl, a12, c12, rfl, S6, hM0.out, hs⟩)

theorem laws_eqIntS_ok (n : Nat) (p0 : List Int) (p1 : List Int) {r : Bool} (h : laws_eqIntS n p0 p1 = some r) {w : World} {G0 : Nat → Prop} {va0 : Value} (ra0 : RV w G0 va0 p0) {G1 : Nat → Prop} {va1 : Value} (ra1 : RV w G1 va1 p1) :
    Calls Try.prog 24 [va0, va1].toArray w fun e w' => ∃ v, e = .returned v ∧ v = .bool r ∧ Chg Non w w' := by
  unfold laws_eqIntS at h
  have hs := Sep.nil w Non
  have hM0 : Mem w Non (fun k => (G0 k ∨ G1 k) ∧ k < w.heap.size) w Non (fun k => (G0 k ∨ G1 k) ∧ k < w.heap.size) := Mem.start (fun _ h => h.elim) (fun _ h => h.2) (fun _ h => h.elim)
  have ra0 := ra0.sub (F' := (fun k => (G0 k ∨ G1 k) ∧ k < w.heap.size)) (fun k hk h => ⟨.inl h, hk⟩)
  obtain ⟨a1, c1, rfl, -⟩ := ra0.slice
  have ra1 := ra1.sub (F' := (fun k => (G0 k ∨ G1 k) ∧ k < w.heap.size)) (fun k hk h => ⟨.inr (h), hk⟩)
  obtain ⟨a2, c2, rfl, -⟩ := ra1.slice
  refine enter (N := 26) Try.func24 rfl Try.ntmps24 rfl fun fr hF => ?_
  refine wp_seq (wp_pure [(0, .slice a1 (List.length p0) c1), (1, .slice a2 (List.length p1) c2)] hF (by kernel_rfl) fun fr hF => then_normal ?_)
  refine wp_seq ?_
  refine wp_seq (wp_pure [(0, .slice a1 (List.length p0) c1), (1, .slice a2 (List.length p1) c2), (10, .bool ((len p0) != (len p1)))] hF (by kernel_rfl) fun fr hF => then_normal ?_)
  refine (wp_if hF (b := ((len p0) != (len p1))) rfl (fun hb => ?_) (fun hb => ?_))
  · replace h := iteT hb h
    refine wp_seq (wp_pure [(4, .bool false)] hF (by kernel_rfl) fun fr hF => then_normal ?_)
    obtain rfl := Option.some.inj h
    exact wp_ret (then_ret (ret1 rfl hF rfl ⟨_, rfl, rfl, hM0.chg⟩))
  replace h := iteF hb h
  refine (wp_skip (then_normal ?_))
  refine wp_seq ?_
  refine wp_seq (wp_pure [(0, .slice a1 (List.length p0) c1), (1, .slice a2 (List.length p1) c2), (5, .int .i64 0)] hF (by kernel_rfl) fun fr hF => then_normal ?_)
  obtain ⟨rl1, hit1, h⟩ := bindE h
  have hk1 := h
  refine (wp_cut (M := fun fr w' => ∃ s, rl1 = .inl s ∧ ∃ S2 F2, FrS 26 [] fr ∧ Mem w Non (fun k => (G0 k ∨ G1 k) ∧ k < w.heap.size) w' S2 F2 ∧ Sep [] w' S2) (wp_block (wp_iter (Inv := fun s1 fr w' => ∃ S1 F1, FrS 26 [(0, .slice a1 (List.length p0) c1), (1, .slice a2 (List.length p1) c2), (5, .int .i64 s1)] fr ∧ Mem w Non (fun k => (G0 k ∨ G1 k) ∧ k < w.heap.size) w' S1 F1 ∧ Sep [] w' S1) hit1 ⟨Non, _, hF.sub _ (by kernel_rfl), (Mem.start hM0.bd hM0.bdF hM0.dj), hs⟩ fun s1 q1 fr w1i hI h hr1 => ?_)) fun fr w1o hM => ?_)
  · obtain ⟨S1, F1, hF, hM1, hs⟩ := hI
    have ra0 := ra0.mem hM1
    have ra1 := ra1.mem hM1
    refine wp_seq ?_
    refine wp_seq (wp_pure [(0, .slice a1 (List.length p0) c1), (1, .slice a2 (List.length p1) c2), (5, .int .i64 s1), (14, .bool (decide (s1 < (len p0))))] hF (by kernel_rfl) fun fr hF => then_normal ?_)
    refine (wp_if hF (b := (decide (s1 < (len p0)))) rfl (fun hb => ?_) (fun hb => ?_))
    · replace h := iteT hb h
      refine (wp_skip (then_normal ?_))
      refine wp_seq (wp_block ?_)
      obtain ⟨x1, hx1, h⟩ := bindE h
      obtain ⟨x2, hx2, h⟩ := bindE h
      refine wp_seq (region_bm 9 [0, 0, 3, 7, 0, 0, 48, 112, 255] [true, true, false, false, true, true, false, false, true]
          [.eq (.slice a1 (List.length p0) c1), .eq (.int .i64 s1), .is fun v w => ElemP w (fun k => k < w1i.heap.size) v (x1 : Int), .eq (.int .i64 x1), .eq (.slice a2 (List.length p1) c2), .eq (.int .i64 s1), .is fun v w => ElemP w (fun k => k < w1i.heap.size) v (x2 : Int), .eq (.int .i64 x2), .eq (.bool (x1 != x2))]
          [(0, .slice a1 (List.length p0) c1), (1, .slice a2 (List.length p1) c2), (5, .int .i64 s1), (25, .bool (x1 != x2))] mix hF (by kernel_rfl) (by kernel_rfl) (by kernel_rfl) (by kernel_rfl) ⟨(Pd.monoO_is mono_elem), Pd.monoO_eq, (Pd.monoO_is mono_elem), Pd.monoO_eq, trivial⟩ (fun ow hG => ⟨np_to ow (np_index hG hF ty3 Try.underlying26 rfl rfl (RV.sub (ra0) fun k hk _ => hk) rfl rfl (fun hg => ⟨get?_nn hx1, get?_at hx1⟩)), np_to ow (np_loadF (z := x1) (i := 2) hG hF ty3 rfl rfl rfl rfl rfl rfl rfl), np_to ow (np_index hG hF ty3 Try.underlying26 rfl rfl (RV.sub (ra1) fun k hk _ => hk) rfl rfl (fun hg => ⟨get?_nn hx2, get?_at hx2⟩)), np_to ow (np_loadF (z := x2) (i := 6) hG hF ty3 rfl rfl rfl rfl rfl rfl rfl), trivial⟩) (by kernel_rfl) fun ow fr w1 hF hE hc => ?_)
      have ra0 := ra0.ext hc
      have ra1 := ra1.ext hc
      have hs := hs.ext hc
      have hM1 := hM1.ext hc
      refine from_end rfl (then_normal ?_)
      refine (wp_if hF (b := (x1 != x2)) rfl (fun hb => ?_) (fun hb => ?_))
      · replace h := iteT hb h
        refine wp_seq (wp_pure [(4, .bool false)] hF (by kernel_rfl) fun fr hF => then_normal ?_)
        obtain rfl := hr1 _ (Option.some.inj h).symm
        obtain rfl := Option.some.inj hk1
        exact wp_ret (blk_ret (then_ret (then_ret (blk_ret (then_ret (ret1 rfl hF rfl ⟨_, rfl, rfl, (hM0.trans hM1).chg⟩))))))
      replace h := iteF hb h
      refine (wp_skip ?_)
      refine blk_normal (then_normal ?_)
      refine (wp_pure [(0, .slice a1 (List.length p0) c1), (1, .slice a2 (List.length p1) c2), (5, .int .i64 (w64 (s1 + 1)))] hF (by kernel_rfl) fun fr hF => then_normal ?_)
      exact ⟨_, (Option.some.inj h).symm, S1, _, hF.sub _ (by kernel_rfl), hM1, hs⟩
    replace h := iteF hb h
    refine (wp_exit (then_exit (then_exit (blk_exit_eq ?_))))
    obtain rfl := hr1 _ (Option.some.inj h).symm
    exact then_normal ⟨_, rfl, S1, _, hF.sub _ (by kernel_rfl), hM1, hs⟩
  · obtain ⟨s1r, rfl, hM⟩ := hM
    obtain ⟨S2, F2, hF, hMx, hs⟩ := hM
    have hM0 := hM0.trans hMx
    refine wp_seq (wp_pure [(4, .bool true)] hF (by kernel_rfl) fun fr hF => then_normal ?_)
    obtain rfl := Option.some.inj h
    exact wp_ret (ret1 rfl hF rfl ⟨_, rfl, rfl, hM0.chg⟩)

theorem laws_eqIns_ok (p0 : D.Ins) (p1 : D.Ins) {r : Bool} (h : laws_eqIns p0 p1 = some r) {w : World} :
    Calls Try.prog 63 [.agg #[.int .i64 p0.Op, .int .i64 p0.A, .int .i64 p0.B, .int .i64 p0.C], .agg #[.int .i64 p1.Op, .int .i64 p1.A, .int .i64 p1.B, .int .i64 p1.C]].toArray w fun e w' => ∃ v, e = .returned v ∧ v = .bool r ∧ Chg Non w w' := by
  unfold laws_eqIns at h
  have hs := Sep.nil w Non
  have hM0 : Mem w Non (fun k => (False) ∧ k < w.heap.size) w Non (fun k => (False) ∧ k < w.heap.size) := Mem.start (fun _ h => h.elim) (fun _ h => h.2) (fun _ h => h.elim)
  refine enter (N := 25) Try.func63 rfl Try.ntmps63 rfl fun fr hF => ?_
  refine wp_seq (wp_text' ?_)
  refine q_box hs hM0 [.int .i64 p0.Op, .int .i64 p0.A, .int .i64 p0.B, .int .i64 p0.C] rfl rfl hF rfl rfl fun b1 w1 S1 fr hs hp hF => ?_
  have hM0 := hM0.stp hp
  have hs : Sep [BX b1 66 [.int .i64 p0.Op, .int .i64 p0.A, .int .i64 p0.B, .int .i64 p0.C]] w1 S1 := hs
  refine q_box hs hM0 [.int .i64 p1.Op, .int .i64 p1.A, .int .i64 p1.B, .int .i64 p1.C] rfl rfl hF rfl rfl fun b2 w2 S2 fr hs hp hF => ?_
  have hM0 := hM0.stp hp
  have hs : Sep [BX b2 66 [.int .i64 p1.Op, .int .i64 p1.A, .int .i64 p1.B, .int .i64 p1.C], BX b1 66 [.int .i64 p0.Op, .int .i64 p0.A, .int .i64 p0.B, .int .i64 p0.C]] w2 S2 := hs
  refine from_pure 1 [(2, .pointer (some ⟨b1, 0, none⟩)), (3, .pointer (some ⟨b2, 0, none⟩))] hF (by kernel_rfl) fun fr hF => ?_
  refine from_end rfl (then_normal ?_)
  refine wp_seq ?_
  refine wp_seq (wp_text' ?_)
  refine from_pure 1 [(2, .pointer (some ⟨b1, 0, none⟩)), (3, .pointer (some ⟨b2, 0, none⟩)), (5, .pointer (some ⟨b1, 0, none⟩))] hF (by kernel_rfl) fun fr hF => ?_
  refine s_loadBox (.int .i64 p0.Op) ty3 rfl rfl hF rfl (hs.bx 1 rfl) rfl rfl fun fr hF => ?_
  refine from_pure 1 [(2, .pointer (some ⟨b1, 0, none⟩)), (3, .pointer (some ⟨b2, 0, none⟩)), (6, .int .i64 p0.Op), (7, .pointer (some ⟨b2, 0, none⟩))] hF (by kernel_rfl) fun fr hF => ?_
  refine s_loadBox (.int .i64 p1.Op) ty3 rfl rfl hF rfl (hs.bx 0 rfl) rfl rfl fun fr hF => ?_
  refine from_pure 1 [(2, .pointer (some ⟨b1, 0, none⟩)), (3, .pointer (some ⟨b2, 0, none⟩)), (9, .bool (p0.Op != p1.Op))] hF (by kernel_rfl) fun fr hF => ?_
  refine from_end rfl (then_normal ?_)
  refine (wp_if hF (b := (p0.Op != p1.Op)) rfl (fun hb => ?_) (fun hb => ?_))
  · replace h := iteT hb h
    have hs : Sep [] w2 S2 := Sep.pick [] hs (by decide) rfl
    refine wp_seq (wp_pure [(4, .bool false)] hF (by kernel_rfl) fun fr hF => then_normal ?_)
    obtain rfl := Option.some.inj h
    exact wp_ret (then_ret (ret1 rfl hF rfl ⟨_, rfl, rfl, hM0.chg⟩))
  replace h := iteF hb h
  refine (wp_skip (then_normal ?_))
  refine wp_seq ?_
  refine wp_seq (wp_text' ?_)
  refine from_pure 1 [(2, .pointer (some ⟨b1, 0, none⟩)), (3, .pointer (some ⟨b2, 0, none⟩)), (10, .pointer (some ⟨b1, 1, none⟩))] hF (by kernel_rfl) fun fr hF => ?_
  refine s_loadBox (.int .i64 p0.A) ty3 rfl rfl hF rfl (hs.bx 1 rfl) rfl rfl fun fr hF => ?_
  refine from_pure 1 [(2, .pointer (some ⟨b1, 0, none⟩)), (3, .pointer (some ⟨b2, 0, none⟩)), (11, .int .i64 p0.A), (12, .pointer (some ⟨b2, 1, none⟩))] hF (by kernel_rfl) fun fr hF => ?_
  refine s_loadBox (.int .i64 p1.A) ty3 rfl rfl hF rfl (hs.bx 0 rfl) rfl rfl fun fr hF => ?_
  refine from_pure 1 [(2, .pointer (some ⟨b1, 0, none⟩)), (3, .pointer (some ⟨b2, 0, none⟩)), (14, .bool (p0.A != p1.A))] hF (by kernel_rfl) fun fr hF => ?_
  refine from_end rfl (then_normal ?_)
  refine (wp_if hF (b := (p0.A != p1.A)) rfl (fun hb => ?_) (fun hb => ?_))
  · replace h := iteT hb h
    have hs : Sep [] w2 S2 := Sep.pick [] hs (by decide) rfl
    refine wp_seq (wp_pure [(4, .bool false)] hF (by kernel_rfl) fun fr hF => then_normal ?_)
    obtain rfl := Option.some.inj h
    exact wp_ret (then_ret (ret1 rfl hF rfl ⟨_, rfl, rfl, hM0.chg⟩))
  replace h := iteF hb h
  refine (wp_skip (then_normal ?_))
  refine wp_seq ?_
  refine wp_seq (wp_text' ?_)
  refine from_pure 1 [(2, .pointer (some ⟨b1, 0, none⟩)), (3, .pointer (some ⟨b2, 0, none⟩)), (15, .pointer (some ⟨b1, 2, none⟩))] hF (by kernel_rfl) fun fr hF => ?_
  refine s_loadBox (.int .i64 p0.B) ty3 rfl rfl hF rfl (hs.bx 1 rfl) rfl rfl fun fr hF => ?_
  refine from_pure 1 [(2, .pointer (some ⟨b1, 0, none⟩)), (3, .pointer (some ⟨b2, 0, none⟩)), (16, .int .i64 p0.B), (17, .pointer (some ⟨b2, 2, none⟩))] hF (by kernel_rfl) fun fr hF => ?_
  refine s_loadBox (.int .i64 p1.B) ty3 rfl rfl hF rfl (hs.bx 0 rfl) rfl rfl fun fr hF => ?_
  refine from_pure 1 [(2, .pointer (some ⟨b1, 0, none⟩)), (3, .pointer (some ⟨b2, 0, none⟩)), (19, .bool (p0.B != p1.B))] hF (by kernel_rfl) fun fr hF => ?_
  refine from_end rfl (then_normal ?_)
  refine (wp_if hF (b := (p0.B != p1.B)) rfl (fun hb => ?_) (fun hb => ?_))
  · replace h := iteT hb h
    have hs : Sep [] w2 S2 := Sep.pick [] hs (by decide) rfl
    refine wp_seq (wp_pure [(4, .bool false)] hF (by kernel_rfl) fun fr hF => then_normal ?_)
    obtain rfl := Option.some.inj h
    exact wp_ret (then_ret (ret1 rfl hF rfl ⟨_, rfl, rfl, hM0.chg⟩))
  replace h := iteF hb h
  refine (wp_skip (then_normal ?_))
  refine wp_seq ?_
  refine wp_seq (wp_text' ?_)
  refine from_pure 1 [(3, .pointer (some ⟨b2, 0, none⟩)), (20, .pointer (some ⟨b1, 3, none⟩))] hF (by kernel_rfl) fun fr hF => ?_
  refine s_loadBox (.int .i64 p0.C) ty3 rfl rfl hF rfl (hs.bx 1 rfl) rfl rfl fun fr hF => ?_
  have hs : Sep [BX b2 66 [.int .i64 p1.Op, .int .i64 p1.A, .int .i64 p1.B, .int .i64 p1.C]] w2 S2 := Sep.pick [0] hs (by decide) rfl
  refine from_pure 1 [(21, .int .i64 p0.C), (22, .pointer (some ⟨b2, 3, none⟩))] hF (by kernel_rfl) fun fr hF => ?_
  refine s_loadBox (.int .i64 p1.C) ty3 rfl rfl hF rfl (hs.bx 0 rfl) rfl rfl fun fr hF => ?_
  have hs : Sep [] w2 S2 := Sep.pick [] hs (by decide) rfl
  refine from_pure 1 [(24, .bool (p0.C != p1.C))] hF (by kernel_rfl) fun fr hF => ?_
  refine from_end rfl (then_normal ?_)
  refine (wp_if hF (b := (p0.C != p1.C)) rfl (fun hb => ?_) (fun hb => ?_))
  · replace h := iteT hb h
    refine wp_seq (wp_pure [(4, .bool false)] hF (by kernel_rfl) fun fr hF => then_normal ?_)
    obtain rfl := Option.some.inj h
    exact wp_ret (then_ret (ret1 rfl hF rfl ⟨_, rfl, rfl, hM0.chg⟩))
  replace h := iteF hb h
  refine (wp_skip (then_normal ?_))
  refine wp_seq (wp_pure [(4, .bool true)] hF (by kernel_rfl) fun fr hF => then_normal ?_)
  obtain rfl := Option.some.inj h
  exact wp_ret (ret1 rfl hF rfl ⟨_, rfl, rfl, hM0.chg⟩)

theorem laws_eqInsS_ok (n : Nat) (p0 : List D.Ins) (p1 : List D.Ins) {r : Bool} (h : laws_eqInsS n p0 p1 = some r) {w : World} {G0 : Nat → Prop} {va0 : Value} (ra0 : RV w G0 va0 p0) {G1 : Nat → Prop} {va1 : Value} (ra1 : RV w G1 va1 p1) :
    Calls Try.prog 41 [va0, va1].toArray w fun e w' => ∃ v, e = .returned v ∧ v = .bool r ∧ Chg Non w w' := by
  unfold laws_eqInsS at h
  have hs := Sep.nil w Non
  have hM0 : Mem w Non (fun k => (G0 k ∨ G1 k) ∧ k < w.heap.size) w Non (fun k => (G0 k ∨ G1 k) ∧ k < w.heap.size) := Mem.start (fun _ h => h.elim) (fun _ h => h.2) (fun _ h => h.elim)
  have ra0 := ra0.sub (F' := (fun k => (G0 k ∨ G1 k) ∧ k < w.heap.size)) (fun k hk h => ⟨.inl h, hk⟩)
  obtain ⟨a1, c1, rfl, -⟩ := ra0.slice
  have ra1 := ra1.sub (F' := (fun k => (G0 k ∨ G1 k) ∧ k < w.heap.size)) (fun k hk h => ⟨.inr (h), hk⟩)
  obtain ⟨a2, c2, rfl, -⟩ := ra1.slice
  refine enter (N := 27) Try.func41 rfl Try.ntmps41 rfl fun fr hF => ?_
  refine wp_seq (wp_pure [(0, .slice a1 (List.length p0) c1), (1, .slice a2 (List.length p1) c2)] hF (by kernel_rfl) fun fr hF => then_normal ?_)
  refine wp_seq ?_
  refine wp_seq (wp_pure [(0, .slice a1 (List.length p0) c1), (1, .slice a2 (List.length p1) c2), (10, .bool ((len p0) != (len p1)))] hF (by kernel_rfl) fun fr hF => then_normal ?_)
  refine (wp_if hF (b := ((len p0) != (len p1))) rfl (fun hb => ?_) (fun hb => ?_))
  · replace h := iteT hb h
    refine wp_seq (wp_pure [(4, .bool false)] hF (by kernel_rfl) fun fr hF => then_normal ?_)
    obtain rfl := Option.some.inj h
    exact wp_ret (then_ret (ret1 rfl hF rfl ⟨_, rfl, rfl, hM0.chg⟩))
  replace h := iteF hb h
  refine (wp_skip (then_normal ?_))
  refine wp_seq ?_
  refine wp_seq (wp_pure [(0, .slice a1 (List.length p0) c1), (1, .slice a2 (List.length p1) c2), (5, .int .i64 0)] hF (by kernel_rfl) fun fr hF => then_normal ?_)
  obtain ⟨rl1, hit1, h⟩ := bindE h
  have hk1 := h
  refine (wp_cut (M := fun fr w' => ∃ s, rl1 = .inl s ∧ ∃ S2 F2, FrS 27 [] fr ∧ Mem w Non (fun k => (G0 k ∨ G1 k) ∧ k < w.heap.size) w' S2 F2 ∧ Sep [] w' S2) (wp_block (wp_iter (Inv := fun s1 fr w' => ∃ S1 F1, FrS 27 [(0, .slice a1 (List.length p0) c1), (1, .slice a2 (List.length p1) c2), (5, .int .i64 s1)] fr ∧ Mem w Non (fun k => (G0 k ∨ G1 k) ∧ k < w.heap.size) w' S1 F1 ∧ Sep [] w' S1) hit1 ⟨Non, _, hF.sub _ (by kernel_rfl), (Mem.start hM0.bd hM0.bdF hM0.dj), hs⟩ fun s1 q1 fr w1i hI h hr1 => ?_)) fun fr w1o hM => ?_)
  · obtain ⟨S1, F1, hF, hM1, hs⟩ := hI
    have ra0 := ra0.mem hM1
    have ra1 := ra1.mem hM1
    refine wp_seq ?_
    refine wp_seq (wp_pure [(0, .slice a1 (List.length p0) c1), (1, .slice a2 (List.length p1) c2), (5, .int .i64 s1), (14, .bool (decide (s1 < (len p0))))] hF (by kernel_rfl) fun fr hF => then_normal ?_)
    refine (wp_if hF (b := (decide (s1 < (len p0)))) rfl (fun hb => ?_) (fun hb => ?_))
    · replace h := iteT hb h
      refine (wp_skip (then_normal ?_))
      refine wp_seq (wp_block ?_)
      obtain ⟨x1, hx1, h⟩ := bindE h
      obtain ⟨x2, hx2, h⟩ := bindE h
      obtain ⟨x3, hx3, h⟩ := bindE h
      refine wp_seq (region_bm 10 [0, 0, 3, 7, 0, 0, 48, 112, 255, 511] [true, true, false, false, true, true, false, false, false, true]
          [.eq (.slice a1 (List.length p0) c1), .eq (.int .i64 s1), .is fun v w => ElemP w (fun k => k < w1i.heap.size) v (x1 : D.Ins), .eq (.agg #[.int .i64 x1.Op, .int .i64 x1.A, .int .i64 x1.B, .int .i64 x1.C]), .eq (.slice a2 (List.length p1) c2), .eq (.int .i64 s1), .is fun v w => ElemP w (fun k => k < w1i.heap.size) v (x2 : D.Ins), .eq (.agg #[.int .i64 x2.Op, .int .i64 x2.A, .int .i64 x2.B, .int .i64 x2.C]), .eq (.bool x3), .eq (.bool (!x3))]
          [(0, .slice a1 (List.length p0) c1), (1, .slice a2 (List.length p1) c2), (5, .int .i64 s1), (26, .bool (!x3))] mix hF (by kernel_rfl) (by kernel_rfl) (by kernel_rfl) (by kernel_rfl) ⟨(Pd.monoO_is mono_elem), Pd.monoO_eq, (Pd.monoO_is mono_elem), Pd.monoO_eq, Pd.monoO_eq, trivial⟩ (fun ow hG => ⟨np_to ow (np_index hG hF ty66 Try.underlying30 rfl rfl (RV.sub (ra0) fun k hk _ => hk) rfl rfl (fun hg => ⟨get?_nn hx1, get?_at hx1⟩)), np_to ow (np_loadF (z := x1) (i := 2) hG hF ty66 rfl rfl rfl rfl rfl rfl rfl), np_to ow (np_index hG hF ty66 Try.underlying30 rfl rfl (RV.sub (ra1) fun k hk _ => hk) rfl rfl (fun hg => ⟨get?_nn hx2, get?_at hx2⟩)), np_to ow (np_loadF (z := x2) (i := 6) hG hF ty66 rfl rfl rfl rfl rfl rfl rfl), np_to ow (np_call [.agg #[.int .i64 x1.Op, .int .i64 x1.A, .int .i64 x1.B, .int .i64 x1.C], .agg #[.int .i64 x2.Op, .int .i64 x2.A, .int .i64 x2.B, .int .i64 x2.C]] hG hF Try.call63 rfl rfl (fun w hC hg => (laws_eqIns_ok x1 x2 hx3).mono fun e w' ⟨v, he, hv, hc⟩ => ⟨v, he, hc, hv⟩)), trivial⟩) (by kernel_rfl) fun ow fr w1 hF hE hc => ?_)
      have ra0 := ra0.ext hc
      have ra1 := ra1.ext hc
      have hs := hs.ext hc
      have hM1 := hM1.ext hc
      refine from_end rfl (then_normal ?_)
      refine (wp_if hF (b := (!x3)) rfl (fun hb => ?_) (fun hb => ?_))
      · replace h := iteT hb h
        refine wp_seq (wp_pure [(4, .bool false)] hF (by kernel_rfl) fun fr hF => then_normal ?_)
        obtain rfl := hr1 _ (Option.some.inj h).symm
        obtain rfl := Option.some.inj hk1
        exact wp_ret (blk_ret (then_ret (then_ret (blk_ret (then_ret (ret1 rfl hF rfl ⟨_, rfl, rfl, (hM0.trans hM1).chg⟩))))))
      replace h := iteF hb h
      refine (wp_skip ?_)
      refine blk_normal (then_normal ?_)
      refine (wp_pure [(0, .slice a1 (List.length p0) c1), (1, .slice a2 (List.length p1) c2), (5, .int .i64 (w64 (s1 + 1)))] hF (by kernel_rfl) fun fr hF => then_normal ?_)
      exact ⟨_, (Option.some.inj h).symm, S1, _, hF.sub _ (by kernel_rfl), hM1, hs⟩
    replace h := iteF hb h
    refine (wp_exit (then_exit (then_exit (blk_exit_eq ?_))))
    obtain rfl := hr1 _ (Option.some.inj h).symm
    exact then_normal ⟨_, rfl, S1, _, hF.sub _ (by kernel_rfl), hM1, hs⟩
  · obtain ⟨s1r, rfl, hM⟩ := hM
    obtain ⟨S2, F2, hF, hMx, hs⟩ := hM
    have hM0 := hM0.trans hMx
    refine wp_seq (wp_pure [(4, .bool true)] hF (by kernel_rfl) fun fr hF => then_normal ?_)
    obtain rfl := Option.some.inj h
    exact wp_ret (ret1 rfl hF rfl ⟨_, rfl, rfl, hM0.chg⟩)

theorem laws_eqProgram_ok (n : Nat) (p0 : D.Program) (p1 : D.Program) {r : Bool} (h : laws_eqProgram n p0 p1 = some r) {w : World} {G0 : Nat → Prop} {va0 : Value} (ra0 : RV w G0 va0 p0) {G1 : Nat → Prop} {va1 : Value} (ra1 : RV w G1 va1 p1) :
    Calls Try.prog 15 [va0, va1].toArray w fun e w' => ∃ v, e = .returned v ∧ v = .bool r ∧ Chg Non w w' := by
  unfold laws_eqProgram at h
  have hs := Sep.nil w Non
  have hM0 : Mem w Non (fun k => (G0 k ∨ G1 k) ∧ k < w.heap.size) w Non (fun k => (G0 k ∨ G1 k) ∧ k < w.heap.size) := Mem.start (fun _ h => h.elim) (fun _ h => h.2) (fun _ h => h.elim)
  have ra0 := ra0.sub (F' := (fun k => (G0 k ∨ G1 k) ∧ k < w.heap.size)) (fun k hk h => ⟨.inl h, hk⟩)
  obtain ⟨v1, rfl, r1⟩ := RV.Program ra0
  obtain ⟨a1, c1, rfl, -⟩ := r1.slice
  have ra1 := ra1.sub (F' := (fun k => (G0 k ∨ G1 k) ∧ k < w.heap.size)) (fun k hk h => ⟨.inr (h), hk⟩)
  obtain ⟨v2, rfl, r2⟩ := RV.Program ra1
  obtain ⟨a2, c2, rfl, -⟩ := r2.slice
  refine enter (N := 26) Try.func15 rfl Try.ntmps15 rfl fun fr hF => ?_
  refine wp_seq (wp_text' ?_)
  refine q_box hs hM0 [.int .i64 p0.W, .int .i64 p0.Mem, .int .i64 p0.In, .slice a1 (List.length p0.Code) c1] rfl rfl hF rfl rfl fun b1 w1 S1 fr hs hp hF => ?_
  have r1 := r1.stp hM0 hp
  have r2 := r2.stp hM0 hp
  have hM0 := hM0.stp hp
  have hs : Sep [BX b1 32 [.int .i64 p0.W, .int .i64 p0.Mem, .int .i64 p0.In, .slice a1 (List.length p0.Code) c1]] w1 S1 := hs
  refine q_box hs hM0 [.int .i64 p1.W, .int .i64 p1.Mem, .int .i64 p1.In, .slice a2 (List.length p1.Code) c2] rfl rfl hF rfl rfl fun b2 w2 S2 fr hs hp hF => ?_
  have r2 := r2.stp hM0 hp
  have r1 := r1.stp hM0 hp
  have hM0 := hM0.stp hp
  have hs : Sep [BX b2 32 [.int .i64 p1.W, .int .i64 p1.Mem, .int .i64 p1.In, .slice a2 (List.length p1.Code) c2], BX b1 32 [.int .i64 p0.W, .int .i64 p0.Mem, .int .i64 p0.In, .slice a1 (List.length p0.Code) c1]] w2 S2 := hs
  refine from_pure 1 [(2, .pointer (some ⟨b1, 0, none⟩)), (3, .pointer (some ⟨b2, 0, none⟩))] hF (by kernel_rfl) fun fr hF => ?_
  refine from_end rfl (then_normal ?_)
  refine wp_seq ?_
  refine wp_seq (wp_text' ?_)
  refine from_pure 1 [(2, .pointer (some ⟨b1, 0, none⟩)), (3, .pointer (some ⟨b2, 0, none⟩)), (5, .pointer (some ⟨b1, 0, none⟩))] hF (by kernel_rfl) fun fr hF => ?_
  refine s_loadBox (.int .i64 p0.W) ty3 rfl rfl hF rfl (hs.bx 1 rfl) rfl rfl fun fr hF => ?_
  refine from_pure 1 [(2, .pointer (some ⟨b1, 0, none⟩)), (3, .pointer (some ⟨b2, 0, none⟩)), (6, .int .i64 p0.W), (7, .pointer (some ⟨b2, 0, none⟩))] hF (by kernel_rfl) fun fr hF => ?_
  refine s_loadBox (.int .i64 p1.W) ty3 rfl rfl hF rfl (hs.bx 0 rfl) rfl rfl fun fr hF => ?_
  refine from_pure 1 [(2, .pointer (some ⟨b1, 0, none⟩)), (3, .pointer (some ⟨b2, 0, none⟩)), (9, .bool (p0.W != p1.W))] hF (by kernel_rfl) fun fr hF => ?_
  refine from_end rfl (then_normal ?_)
  refine (wp_if hF (b := (p0.W != p1.W)) rfl (fun hb => ?_) (fun hb => ?_))
  · replace h := iteT hb h
    have hs : Sep [] w2 S2 := Sep.pick [] hs (by decide) rfl
    refine wp_seq (wp_pure [(4, .bool false)] hF (by kernel_rfl) fun fr hF => then_normal ?_)
    obtain rfl := Option.some.inj h
    exact wp_ret (then_ret (ret1 rfl hF rfl ⟨_, rfl, rfl, hM0.chg⟩))
  replace h := iteF hb h
  refine (wp_skip (then_normal ?_))
  refine wp_seq ?_
  refine wp_seq (wp_text' ?_)
  refine from_pure 1 [(2, .pointer (some ⟨b1, 0, none⟩)), (3, .pointer (some ⟨b2, 0, none⟩)), (10, .pointer (some ⟨b1, 1, none⟩))] hF (by kernel_rfl) fun fr hF => ?_
  refine s_loadBox (.int .i64 p0.Mem) ty3 rfl rfl hF rfl (hs.bx 1 rfl) rfl rfl fun fr hF => ?_
  refine from_pure 1 [(2, .pointer (some ⟨b1, 0, none⟩)), (3, .pointer (some ⟨b2, 0, none⟩)), (11, .int .i64 p0.Mem), (12, .pointer (some ⟨b2, 1, none⟩))] hF (by kernel_rfl) fun fr hF => ?_
  refine s_loadBox (.int .i64 p1.Mem) ty3 rfl rfl hF rfl (hs.bx 0 rfl) rfl rfl fun fr hF => ?_
  refine from_pure 1 [(2, .pointer (some ⟨b1, 0, none⟩)), (3, .pointer (some ⟨b2, 0, none⟩)), (14, .bool (p0.Mem != p1.Mem))] hF (by kernel_rfl) fun fr hF => ?_
  refine from_end rfl (then_normal ?_)
  refine (wp_if hF (b := (p0.Mem != p1.Mem)) rfl (fun hb => ?_) (fun hb => ?_))
  · replace h := iteT hb h
    have hs : Sep [] w2 S2 := Sep.pick [] hs (by decide) rfl
    refine wp_seq (wp_pure [(4, .bool false)] hF (by kernel_rfl) fun fr hF => then_normal ?_)
    obtain rfl := Option.some.inj h
    exact wp_ret (then_ret (ret1 rfl hF rfl ⟨_, rfl, rfl, hM0.chg⟩))
  replace h := iteF hb h
  refine (wp_skip (then_normal ?_))
  refine wp_seq ?_
  refine wp_seq (wp_text' ?_)
  refine from_pure 1 [(2, .pointer (some ⟨b1, 0, none⟩)), (3, .pointer (some ⟨b2, 0, none⟩)), (15, .pointer (some ⟨b1, 2, none⟩))] hF (by kernel_rfl) fun fr hF => ?_
  refine s_loadBox (.int .i64 p0.In) ty3 rfl rfl hF rfl (hs.bx 1 rfl) rfl rfl fun fr hF => ?_
  refine from_pure 1 [(2, .pointer (some ⟨b1, 0, none⟩)), (3, .pointer (some ⟨b2, 0, none⟩)), (16, .int .i64 p0.In), (17, .pointer (some ⟨b2, 2, none⟩))] hF (by kernel_rfl) fun fr hF => ?_
  refine s_loadBox (.int .i64 p1.In) ty3 rfl rfl hF rfl (hs.bx 0 rfl) rfl rfl fun fr hF => ?_
  refine from_pure 1 [(2, .pointer (some ⟨b1, 0, none⟩)), (3, .pointer (some ⟨b2, 0, none⟩)), (19, .bool (p0.In != p1.In))] hF (by kernel_rfl) fun fr hF => ?_
  refine from_end rfl (then_normal ?_)
  refine (wp_if hF (b := (p0.In != p1.In)) rfl (fun hb => ?_) (fun hb => ?_))
  · replace h := iteT hb h
    have hs : Sep [] w2 S2 := Sep.pick [] hs (by decide) rfl
    refine wp_seq (wp_pure [(4, .bool false)] hF (by kernel_rfl) fun fr hF => then_normal ?_)
    obtain rfl := Option.some.inj h
    exact wp_ret (then_ret (ret1 rfl hF rfl ⟨_, rfl, rfl, hM0.chg⟩))
  replace h := iteF hb h
  refine (wp_skip (then_normal ?_))
  refine wp_seq ?_
  refine wp_seq (wp_text' ?_)
  refine from_pure 1 [(3, .pointer (some ⟨b2, 0, none⟩)), (20, .pointer (some ⟨b1, 3, none⟩))] hF (by kernel_rfl) fun fr hF => ?_
  refine s_loadBox (.slice a1 (List.length p0.Code) c1) ty30 rfl rfl hF rfl (hs.bx 1 rfl) rfl rfl fun fr hF => ?_
  have hs : Sep [BX b2 32 [.int .i64 p1.W, .int .i64 p1.Mem, .int .i64 p1.In, .slice a2 (List.length p1.Code) c2]] w2 S2 := Sep.pick [0] hs (by decide) rfl
  refine from_pure 1 [(21, .slice a1 (List.length p0.Code) c1), (22, .pointer (some ⟨b2, 3, none⟩))] hF (by kernel_rfl) fun fr hF => ?_
  refine s_loadBox (.slice a2 (List.length p1.Code) c2) ty30 rfl rfl hF rfl (hs.bx 0 rfl) rfl rfl fun fr hF => ?_
  have hs : Sep [] w2 S2 := Sep.pick [] hs (by decide) rfl
  obtain ⟨x1, hx1, h⟩ := bindE h
  refine s_call [.slice a1 (List.length p0.Code) c1, .slice a2 (List.length p1.Code) c2] Try.call41 rfl rfl hF rfl (laws_eqInsS_ok n p0.Code p1.Code hx1 (r1) (r2)) fun v w3 fr hRes hF => ?_
  obtain ⟨rfl, hc⟩ := hRes
  have r1 := r1.ext hc
  have r2 := r2.ext hc
  have hs := hs.ext hc
  have hM0 := hM0.ext hc
  refine from_pure 1 [(25, .bool (!x1))] hF (by kernel_rfl) fun fr hF => ?_
  refine from_end rfl (then_normal ?_)
  refine (wp_if hF (b := (!x1)) rfl (fun hb => ?_) (fun hb => ?_))
  · replace h := iteT hb h
    refine wp_seq (wp_pure [(4, .bool false)] hF (by kernel_rfl) fun fr hF => then_normal ?_)
    obtain rfl := Option.some.inj h
    exact wp_ret (then_ret (ret1 rfl hF rfl ⟨_, rfl, rfl, hM0.chg⟩))
  replace h := iteF hb h
  refine (wp_skip (then_normal ?_))
  refine wp_seq (wp_pure [(4, .bool true)] hF (by kernel_rfl) fun fr hF => then_normal ?_)
  obtain rfl := Option.some.inj h
  exact wp_ret (ret1 rfl hF rfl ⟨_, rfl, rfl, hM0.chg⟩)

theorem laws_markInsS_ok (n : Nat) (p0 : List D.Ins) (p1 : Int) {r : Int × (List D.Ins)} (h : laws_markInsS n p0 p1 = some r) {w : World} {S0 F0 : Nat → Prop} {pa0 : Option Addr} {pn0 pc0 : Nat} (hs : Sep [SL (α := D.Ins) 66 (.slice pa0 pn0 pc0) p0] w S0) (hb : ∀ k, S0 k → k < w.heap.size) (hd : ∀ k, S0 k → F0 k → False) :
    Calls Try.prog 42 [.slice pa0 pn0 pc0, .int .i64 p1].toArray w fun e w' => ∃ v, e = .returned v ∧ v = .int .i64 r.1 ∧ ∃ S', Stp w S0 w' S' ∧ Sep [SL (α := D.Ins) 66 (.slice pa0 pn0 pc0) r.2] w' S' := by
  unfold laws_markInsS at h
  obtain ⟨hpn, hs⟩ := hs.relen 0 rfl
  subst hpn
  have hs : Sep [SL (α := D.Ins) 66 (.slice pa0 (List.length p0) pc0) p0] w S0 := hs
  have hM0 : Mem w S0 (fun k => F0 k ∧ k < w.heap.size) w S0 (fun k => F0 k ∧ k < w.heap.size) := Mem.start hb (fun _ h => h.2) (fun k h1 h2 => hd k h1 h2.1)
  refine enter (N := 41) Try.func42 rfl Try.ntmps42 rfl fun fr hF => ?_
  refine wp_seq (wp_pure [(0, .slice pa0 (List.length p0) pc0), (1, .int .i64 p1)] hF (by kernel_rfl) fun fr hF => then_normal ?_)
  refine wp_seq ?_
  refine wp_seq (wp_pure [(0, .slice pa0 (List.length p0) pc0), (1, .int .i64 p1), (5, .int .i64 0)] hF (by kernel_rfl) fun fr hF => then_normal ?_)
  obtain ⟨rl1, hit1, h⟩ := bindE h
  have hk1 := h
  refine (wp_cut (M := fun fr w' => ∃ S2 F2, FrS 41 [(1, .int .i64 rl1.1)] fr ∧ Mem w S0 (fun k => F0 k ∧ k < w.heap.size) w' S2 F2 ∧ Sep [SL (α := D.Ins) 66 (.slice pa0 (List.length p0) pc0) rl1.2] w' S2) (wp_block (wp_iter (Inv := fun s1 fr w' => ∃ S1 F1, FrS 41 [(0, .slice pa0 (List.length p0) pc0), (1, .int .i64 s1.1), (5, .int .i64 s1.2.1)] fr ∧ Mem w S0 (fun k => F0 k ∧ k < w.heap.size) w' S1 F1 ∧ Sep [SL (α := D.Ins) 66 (.slice pa0 (List.length p0) pc0) s1.2.2] w' S1) hit1 ⟨S0, _, hF.sub _ (by kernel_rfl), (Mem.start hM0.bd hM0.bdF hM0.dj), hs⟩ fun s1 q1 fr w1i hI h hr1 => ?_)) fun fr w1o hM => ?_)
  · obtain ⟨S1, F1, hF, hM1, hs⟩ := hI
    refine wp_seq ?_
    refine wp_seq (wp_pure [(0, .slice pa0 (List.length p0) pc0), (1, .int .i64 s1.1), (5, .int .i64 s1.2.1), (9, .bool (decide (s1.2.1 < (len p0))))] hF (by kernel_rfl) fun fr hF => then_normal ?_)
    refine (wp_if hF (b := (decide (s1.2.1 < (len p0)))) rfl (fun hb => ?_) (fun hb => ?_))
    · replace h := iteT hb h
      refine (wp_skip (then_normal ?_))
      refine wp_seq (wp_block ?_)
      refine wp_seq (wp_text' ?_)
      refine from_pure 3 [(0, .slice pa0 (List.length p0) pc0), (1, .int .i64 s1.1), (5, .int .i64 s1.2.1), (12, .slice pa0 (List.length p0) pc0), (13, .int .i64 s1.2.1), (14, .int .i64 s1.1)] hF (by kernel_rfl) fun fr hF => ?_
      obtain ⟨x1, hx1, h⟩ := bindE h
      obtain ⟨x2, hx2, h⟩ := bindE h
      refine q_setField (q := x1) (q' := ({ x1 with Op := s1.1 } : D.Ins)) (off := 0) 0 hs hM1 rfl Try.underlying30 ty66 rfl rfl rfl rfl rfl hF rfl rfl rfl rfl (by kernel_rfl) rfl (by kernel_rfl) rfl hx1 rfl hx2 fun w1 S3 fr _ _ hs hp hF => ?_
      have hM1 := hM1.stp hp
      have hs : Sep [SL (α := D.Ins) 66 (.slice pa0 (List.length p0) pc0) x2] w1 S3 := hs
      refine from_end rfl (then_normal ?_)
      refine wp_seq (wp_pure [(0, .slice pa0 (List.length p0) pc0), (1, .int .i64 (w64 (s1.1 + 1))), (5, .int .i64 s1.2.1)] hF (by kernel_rfl) fun fr hF => then_normal ?_)
      refine wp_seq (wp_text' ?_)
      refine from_pure 3 [(0, .slice pa0 (List.length p0) pc0), (1, .int .i64 (w64 (s1.1 + 1))), (5, .int .i64 s1.2.1), (19, .slice pa0 (List.length p0) pc0), (20, .int .i64 s1.2.1), (21, .int .i64 (w64 (s1.1 + 1)))] hF (by kernel_rfl) fun fr hF => ?_
      obtain ⟨x3, hx3, h⟩ := bindE h
      obtain ⟨x4, hx4, h⟩ := bindE h
      refine q_setField (q := x3) (q' := ({ x3 with A := (w64 (s1.1 + 1)) } : D.Ins)) (off := 1) 0 hs hM1 rfl Try.underlying30 ty66 rfl rfl rfl rfl rfl hF rfl rfl rfl rfl (by kernel_rfl) rfl (by kernel_rfl) rfl hx3 rfl hx4 fun w2 S4 fr _ _ hs hp hF => ?_
      have hM1 := hM1.stp hp
      have hs : Sep [SL (α := D.Ins) 66 (.slice pa0 (List.length p0) pc0) x4] w2 S4 := hs
      refine from_end rfl (then_normal ?_)
      refine wp_seq (wp_pure [(0, .slice pa0 (List.length p0) pc0), (1, .int .i64 (w64 ((w64 (s1.1 + 1)) + 1))), (5, .int .i64 s1.2.1)] hF (by kernel_rfl) fun fr hF => then_normal ?_)
      refine wp_seq (wp_text' ?_)
      refine from_pure 3 [(0, .slice pa0 (List.length p0) pc0), (1, .int .i64 (w64 ((w64 (s1.1 + 1)) + 1))), (5, .int .i64 s1.2.1), (26, .slice pa0 (List.length p0) pc0), (27, .int .i64 s1.2.1), (28, .int .i64 (w64 ((w64 (s1.1 + 1)) + 1)))] hF (by kernel_rfl) fun fr hF => ?_
      obtain ⟨x5, hx5, h⟩ := bindE h
      obtain ⟨x6, hx6, h⟩ := bindE h
      refine q_setField (q := x5) (q' := ({ x5 with B := (w64 ((w64 (s1.1 + 1)) + 1)) } : D.Ins)) (off := 2) 0 hs hM1 rfl Try.underlying30 ty66 rfl rfl rfl rfl rfl hF rfl rfl rfl rfl (by kernel_rfl) rfl (by kernel_rfl) rfl hx5 rfl hx6 fun w3 S5 fr _ _ hs hp hF => ?_
      have hM1 := hM1.stp hp
      have hs : Sep [SL (α := D.Ins) 66 (.slice pa0 (List.length p0) pc0) x6] w3 S5 := hs
      refine from_end rfl (then_normal ?_)
      refine wp_seq (wp_pure [(0, .slice pa0 (List.length p0) pc0), (1, .int .i64 (w64 ((w64 ((w64 (s1.1 + 1)) + 1)) + 1))), (5, .int .i64 s1.2.1)] hF (by kernel_rfl) fun fr hF => then_normal ?_)
      refine wp_seq (wp_text' ?_)
      refine from_pure 3 [(0, .slice pa0 (List.length p0) pc0), (1, .int .i64 (w64 ((w64 ((w64 (s1.1 + 1)) + 1)) + 1))), (5, .int .i64 s1.2.1), (33, .slice pa0 (List.length p0) pc0), (34, .int .i64 s1.2.1), (35, .int .i64 (w64 ((w64 ((w64 (s1.1 + 1)) + 1)) + 1)))] hF (by kernel_rfl) fun fr hF => ?_
      obtain ⟨x7, hx7, h⟩ := bindE h
      obtain ⟨x8, hx8, h⟩ := bindE h
      refine q_setField (q := x7) (q' := ({ x7 with C := (w64 ((w64 ((w64 (s1.1 + 1)) + 1)) + 1)) } : D.Ins)) (off := 3) 0 hs hM1 rfl Try.underlying30 ty66 rfl rfl rfl rfl rfl hF rfl rfl rfl rfl (by kernel_rfl) rfl (by kernel_rfl) rfl hx7 rfl hx8 fun w4 S6 fr _ _ hs hp hF => ?_
      have hM1 := hM1.stp hp
      have hs : Sep [SL (α := D.Ins) 66 (.slice pa0 (List.length p0) pc0) x8] w4 S6 := hs
      refine from_end rfl (then_normal ?_)
      refine (wp_pure [(0, .slice pa0 (List.length p0) pc0), (1, .int .i64 (w64 ((w64 ((w64 ((w64 (s1.1 + 1)) + 1)) + 1)) + 1))), (5, .int .i64 s1.2.1)] hF (by kernel_rfl) fun fr hF => ?_)
      refine blk_normal (then_normal ?_)
      refine (wp_pure [(0, .slice pa0 (List.length p0) pc0), (1, .int .i64 (w64 ((w64 ((w64 ((w64 (s1.1 + 1)) + 1)) + 1)) + 1))), (5, .int .i64 (w64 (s1.2.1 + 1)))] hF (by kernel_rfl) fun fr hF => then_normal ?_)
      exact ⟨_, (Option.some.inj h).symm, S6, _, hF.sub _ (by kernel_rfl), hM1, hs⟩
    replace h := iteF hb h
    refine (wp_exit (then_exit (then_exit (blk_exit_eq ?_))))
    obtain rfl := hr1 _ (Option.some.inj h).symm
    exact then_normal ⟨S1, _, hF.sub _ (by kernel_rfl), hM1, hs⟩
  · obtain ⟨S2, F2, hF, hMx, hs⟩ := hM
    have hM0 := hM0.trans hMx
    refine wp_seq (wp_pure [(4, .int .i64 rl1.1)] hF (by kernel_rfl) fun fr hF => then_normal ?_)
    obtain rfl := Option.some.inj h
    exact wp_ret (ret1 rfl hF rfl ⟨_, rfl, rfl, S2, hM0.out, hs⟩)

theorem laws_markProgram_ok (n : Nat) (p0 : D.Program) (p1 : Int) {r : Int × D.Program} (h : laws_markProgram n p0 p1 = some r) {w : World} {S0 F0 : Nat → Prop} {pa0 : Option Addr} {pn0 pc0 : Nat} (hs : Sep [SL (α := D.Ins) 66 (.slice pa0 pn0 pc0) p0.Code] w S0) (hb : ∀ k, S0 k → k < w.heap.size) (hd : ∀ k, S0 k → F0 k → False) :
    Calls Try.prog 16 [.agg #[.int .i64 p0.W, .int .i64 p0.Mem, .int .i64 p0.In, .slice pa0 pn0 pc0], .int .i64 p1].toArray w fun e w' => ∃ v, e = .returned v ∧ v = .int .i64 r.1 ∧ ∃ S', Stp w S0 w' S' ∧ Sep [SL (α := D.Ins) 66 (.slice pa0 pn0 pc0) r.2.Code] w' S' := by
  unfold laws_markProgram at h
  obtain ⟨hpn, hs⟩ := hs.relen 0 rfl
  subst hpn
  have hs : Sep [SL (α := D.Ins) 66 (.slice pa0 (List.length p0.Code) pc0) p0.Code] w S0 := hs
  have hM0 : Mem w S0 (fun k => F0 k ∧ k < w.heap.size) w S0 (fun k => F0 k ∧ k < w.heap.size) := Mem.start hb (fun _ h => h.2) (fun k h1 h2 => hd k h1 h2.1)
  refine enter (N := 10) Try.func16 rfl Try.ntmps16 rfl fun fr hF => ?_
  refine wp_seq (wp_text' ?_)
  refine q_box hs hM0 [.int .i64 p0.W, .int .i64 p0.Mem, .int .i64 p0.In, .slice pa0 (List.length p0.Code) pc0] rfl rfl hF rfl rfl fun b1 w1 S1 fr hs hp hF => ?_
  have hM0 := hM0.stp hp
  have hs : Sep [BX b1 32 [.int .i64 p0.W, .int .i64 p0.Mem, .int .i64 p0.In, .slice pa0 (List.length p0.Code) pc0], SL (α := D.Ins) 66 (.slice pa0 (List.length p0.Code) pc0) p0.Code] w1 S1 := hs
  refine from_pure 1 [(1, .int .i64 p1), (2, .pointer (some ⟨b1, 0, none⟩))] hF (by kernel_rfl) fun fr hF => ?_
  refine from_end rfl (then_normal ?_)
  refine wp_seq (wp_text' ?_)
  refine from_pure 1 [(1, .int .i64 p1), (5, .pointer (some ⟨b1, 3, none⟩))] hF (by kernel_rfl) fun fr hF => ?_
  refine s_loadBox (.slice pa0 (List.length p0.Code) pc0) ty30 rfl rfl hF rfl (hs.bx 0 rfl) rfl rfl fun fr hF => ?_
  have hs : Sep [SL (α := D.Ins) 66 (.slice pa0 (List.length p0.Code) pc0) p0.Code] w1 S1 := Sep.pick [1] hs (by decide) rfl
  refine from_pure 1 [(6, .slice pa0 (List.length p0.Code) pc0), (7, .int .i64 p1)] hF (by kernel_rfl) fun fr hF => ?_
  obtain ⟨x1, hx1, h⟩ := bindE h
  obtain ⟨A1, R1, hsA, hsR, hdA, hbA, hup⟩ := Sep.call (L1 := [SL (α := D.Ins) 66 (.slice pa0 (List.length p0.Code) pc0) p0.Code]) (L2 := []) hs hM0
  refine s_call [.slice pa0 (List.length p0.Code) pc0, .int .i64 p1] Try.call42 rfl rfl hF rfl (laws_markInsS_ok n p0.Code p1 hx1 hsA hbA hdA) fun v w2 fr hRes hF => ?_
  obtain ⟨rfl, _, hp, hs⟩ := hRes
  obtain ⟨S2, hp, hs⟩ := hup hp hs
  have hM0 := hM0.stp hp
  have hs : Sep [SL (α := D.Ins) 66 (.slice pa0 (List.length p0.Code) pc0) x1.2] w2 S2 := hs
  refine from_pure 1 [(1, .int .i64 x1.1)] hF (by kernel_rfl) fun fr hF => ?_
  refine from_end rfl (then_normal ?_)
  refine wp_seq (wp_pure [(4, .int .i64 x1.1)] hF (by kernel_rfl) fun fr hF => then_normal ?_)
  obtain rfl := Option.some.inj h
  exact wp_ret (ret1 rfl hF rfl ⟨_, rfl, rfl, S2, hM0.out, hs⟩)
end Go.Proofs.Ytbfphbpeajmihaa
