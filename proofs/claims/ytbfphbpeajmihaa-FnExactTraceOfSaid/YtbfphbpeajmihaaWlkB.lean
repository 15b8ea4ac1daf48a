/- Printed by gen2.py: the walks. -/
import Derived.Test.YtbfphbpeajmihaaWlkA
set_option linter.unusedVariables false
set_option maxRecDepth 100000
namespace Go.Proofs.Ytbfphbpeajmihaa
open Go.GL Go.Maps Go.WideMaps
theorem spec_l05Step_ok (p0 : D.Program) (p1 : D.State) (p2 : List Int) {r : D.State} (h : spec_l05Step p0 p1 p2 = some r) {w : World} {S0 F0 : Nat → Prop} {pa0 : Option Addr} {pn0 pc0 : Nat} {pa1 : Option Addr} {pn1 pc1 : Nat} {pa2 : Option Addr} {pn2 pc2 : Nat} {pa3 : Option Addr} {pn3 pc3 : Nat} (hs : Sep [SL (α := Int) 3 (.slice pa0 pn0 pc0) p1.Regs, SL (α := Int) 3 (.slice pa1 pn1 pc1) p1.Mem, SL (α := Int) 3 (.slice pa2 pn2 pc2) p1.Stack, SL (α := Int) 3 (.slice pa3 pn3 pc3) p1.Out] w S0) (hb : ∀ k, S0 k → k < w.heap.size) (hd : ∀ k, S0 k → F0 k → False) {va0 : Value} (ra0 : RV w F0 va0 p0) {va2 : Value} (ra2 : RV w F0 va2 p2) :
    Calls Try.prog 46 [va0, .agg #[.int .i64 p1.Pc, .slice pa0 pn0 pc0, .slice pa1 pn1 pc1, .slice pa2 pn2 pc2, .int .i64 p1.In, .slice pa3 pn3 pc3, .int .i64 p1.Code, .int .i64 p1.Steps], va2].toArray w fun e w' => ∃ v, e = .returned v ∧ ∃ a1 c1 a2 c2 a3 c3 a4 c4, v = .agg #[.int .i64 r.Pc, .slice a1 (List.length r.Regs) c1, .slice a2 (List.length r.Mem) c2, .slice a3 (List.length r.Stack) c3, .int .i64 r.In, .slice a4 (List.length r.Out) c4, .int .i64 r.Code, .int .i64 r.Steps] ∧ ∃ S', Stp w S0 w' S' ∧ Sep [SL (α := Int) 3 (.slice a1 (List.length r.Regs) c1) r.Regs, SL (α := Int) 3 (.slice a2 (List.length r.Mem) c2) r.Mem, SL (α := Int) 3 (.slice a3 (List.length r.Stack) c3) r.Stack, SL (α := Int) 3 (.slice a4 (List.length r.Out) c4) r.Out] w' S' := by
  unfold spec_l05Step at h
  obtain ⟨hpn, hs⟩ := hs.relen 0 rfl
  subst hpn
  obtain ⟨hpn, hs⟩ := hs.relen 1 rfl
  subst hpn
  obtain ⟨hpn, hs⟩ := hs.relen 2 rfl
  subst hpn
  obtain ⟨hpn, hs⟩ := hs.relen 3 rfl
  subst hpn
  have hs : Sep [SL (α := Int) 3 (.slice pa0 (List.length p1.Regs) pc0) p1.Regs, SL (α := Int) 3 (.slice pa1 (List.length p1.Mem) pc1) p1.Mem, SL (α := Int) 3 (.slice pa2 (List.length p1.Stack) pc2) p1.Stack, SL (α := Int) 3 (.slice pa3 (List.length p1.Out) pc3) p1.Out] w S0 := hs
  have hM0 : Mem w S0 (fun k => F0 k ∧ k < w.heap.size) w S0 (fun k => F0 k ∧ k < w.heap.size) := Mem.start hb (fun _ h => h.2) (fun k h1 h2 => hd k h1 h2.1)
  have ra0 := ra0.sub (F' := (fun k => F0 k ∧ k < w.heap.size)) (fun k hk h => ⟨h, hk⟩)
  obtain ⟨v1, rfl, r1⟩ := RV.Program ra0
  obtain ⟨a1, c1, rfl, -⟩ := r1.slice
  have ra2 := ra2.sub (F' := (fun k => F0 k ∧ k < w.heap.size)) (fun k hk h => ⟨h, hk⟩)
  obtain ⟨a2, c2, rfl, -⟩ := ra2.slice
  refine enter (N := 223) Try.func46 rfl Try.ntmps46 rfl fun fr hF => ?_
  refine wp_seq (wp_text' ?_)
  refine q_box hs hM0 [.int .i64 p0.W, .int .i64 p0.Mem, .int .i64 p0.In, .slice a1 (List.length p0.Code) c1] rfl rfl hF rfl rfl fun b1 w1 S1 fr hs hp hF => ?_
  have r1 := r1.stp hM0 hp
  have ra2 := ra2.stp hM0 hp
  have hM0 := hM0.stp hp
  have hs : Sep [BX b1 32 [.int .i64 p0.W, .int .i64 p0.Mem, .int .i64 p0.In, .slice a1 (List.length p0.Code) c1], SL (α := Int) 3 (.slice pa0 (List.length p1.Regs) pc0) p1.Regs, SL (α := Int) 3 (.slice pa1 (List.length p1.Mem) pc1) p1.Mem, SL (α := Int) 3 (.slice pa2 (List.length p1.Stack) pc2) p1.Stack, SL (α := Int) 3 (.slice pa3 (List.length p1.Out) pc3) p1.Out] w1 S1 := hs
  refine q_box hs hM0 [.int .i64 p1.Pc, .slice pa0 (List.length p1.Regs) pc0, .slice pa1 (List.length p1.Mem) pc1, .slice pa2 (List.length p1.Stack) pc2, .int .i64 p1.In, .slice pa3 (List.length p1.Out) pc3, .int .i64 p1.Code, .int .i64 p1.Steps] rfl rfl hF rfl rfl fun b2 w2 S2 fr hs hp hF => ?_
  have ra2 := ra2.stp hM0 hp
  have r1 := r1.stp hM0 hp
  have hM0 := hM0.stp hp
  have hs : Sep [BX b2 28 [.int .i64 p1.Pc, .slice pa0 (List.length p1.Regs) pc0, .slice pa1 (List.length p1.Mem) pc1, .slice pa2 (List.length p1.Stack) pc2, .int .i64 p1.In, .slice pa3 (List.length p1.Out) pc3, .int .i64 p1.Code, .int .i64 p1.Steps], BX b1 32 [.int .i64 p0.W, .int .i64 p0.Mem, .int .i64 p0.In, .slice a1 (List.length p0.Code) c1], SL (α := Int) 3 (.slice pa0 (List.length p1.Regs) pc0) p1.Regs, SL (α := Int) 3 (.slice pa1 (List.length p1.Mem) pc1) p1.Mem, SL (α := Int) 3 (.slice pa2 (List.length p1.Stack) pc2) p1.Stack, SL (α := Int) 3 (.slice pa3 (List.length p1.Out) pc3) p1.Out] w2 S2 := hs
  refine q_alloc (z := .agg #[.int .i64 0, .slice none (List.length ([] : List Int)) 0, .slice none (List.length ([] : List Int)) 0, .slice none (List.length ([] : List Int)) 0, .int .i64 0, .slice none (List.length ([] : List Int)) 0, .int .i64 0, .int .i64 0]) hs hM0 [.int .i64 0, .slice none (List.length ([] : List Int)) 0, .slice none (List.length ([] : List Int)) 0, .slice none (List.length ([] : List Int)) 0, .int .i64 0, .slice none (List.length ([] : List Int)) 0, .int .i64 0, .int .i64 0] rfl rfl hF (by kernel_rfl) rfl fun b3 w3 S3 fr hs hp hF => ?_
  have ra2 := ra2.stp hM0 hp
  have r1 := r1.stp hM0 hp
  have hM0 := hM0.stp hp
  have hs : Sep [BX b3 28 [.int .i64 0, .slice none (List.length ([] : List Int)) 0, .slice none (List.length ([] : List Int)) 0, .slice none (List.length ([] : List Int)) 0, .int .i64 0, .slice none (List.length ([] : List Int)) 0, .int .i64 0, .int .i64 0], BX b2 28 [.int .i64 p1.Pc, .slice pa0 (List.length p1.Regs) pc0, .slice pa1 (List.length p1.Mem) pc1, .slice pa2 (List.length p1.Stack) pc2, .int .i64 p1.In, .slice pa3 (List.length p1.Out) pc3, .int .i64 p1.Code, .int .i64 p1.Steps], BX b1 32 [.int .i64 p0.W, .int .i64 p0.Mem, .int .i64 p0.In, .slice a1 (List.length p0.Code) c1], SL (α := Int) 3 (.slice pa0 (List.length p1.Regs) pc0) p1.Regs, SL (α := Int) 3 (.slice pa1 (List.length p1.Mem) pc1) p1.Mem, SL (α := Int) 3 (.slice pa2 (List.length p1.Stack) pc2) p1.Stack, SL (α := Int) 3 (.slice pa3 (List.length p1.Out) pc3) p1.Out] w3 S3 := hs
  refine from_end rfl (then_normal ?_)
  refine wp_seq ?_
  refine wp_seq (region_b [] [true, false, true, true, true, false, true, true]
      [.eq (.pointer (some ⟨b2, 6, none⟩)), .eq (.int .i64 p1.Code), .eq (.bool (p1.Code != 0)), .eq (.bool (p1.Code != 0)), .eq (.pointer (some ⟨b2, 7, none⟩)), .eq (.int .i64 p1.Steps), .eq (.bool (p1.Steps == 400)), .eq (.bool ((p1.Code != 0) || (p1.Steps == 400)))]
      [(2, .slice a2 (List.length p2) c2), (3, .pointer (some ⟨b1, 0, none⟩)), (4, .pointer (some ⟨b2, 0, none⟩)), (6, .pointer (some ⟨b3, 0, none⟩)), (16, .bool ((p1.Code != 0) || (p1.Steps == 400)))] mix hF (by kernel_rfl) (by kernel_rfl) (by kernel_rfl) ⟨Pd.mono_eq, Pd.mono_eq, trivial⟩ (fun hG => ⟨np_loadBox hG hF ty3 rfl rfl (hs.bx 1 rfl) rfl rfl rfl, np_loadBox hG hF ty3 rfl rfl (hs.bx 1 rfl) rfl rfl rfl, trivial⟩) (by kernel_rfl) fun fr w4 hF hE hc => then_normal ?_)
  have ra2 := ra2.ext hc
  have r1 := r1.ext hc
  have hs := hs.ext hc
  have hM0 := hM0.ext hc
  refine (wp_if hF (b := ((p1.Code != 0) || (p1.Steps == 400))) rfl (fun hb => ?_) (fun hb => ?_))
  · replace h := iteT hb h
    have hs : Sep [BX b3 28 [.int .i64 0, .slice none (List.length ([] : List Int)) 0, .slice none (List.length ([] : List Int)) 0, .slice none (List.length ([] : List Int)) 0, .int .i64 0, .slice none (List.length ([] : List Int)) 0, .int .i64 0, .int .i64 0], BX b2 28 [.int .i64 p1.Pc, .slice pa0 (List.length p1.Regs) pc0, .slice pa1 (List.length p1.Mem) pc1, .slice pa2 (List.length p1.Stack) pc2, .int .i64 p1.In, .slice pa3 (List.length p1.Out) pc3, .int .i64 p1.Code, .int .i64 p1.Steps], SL (α := Int) 3 (.slice pa0 (List.length p1.Regs) pc0) p1.Regs, SL (α := Int) 3 (.slice pa1 (List.length p1.Mem) pc1) p1.Mem, SL (α := Int) 3 (.slice pa2 (List.length p1.Stack) pc2) p1.Stack, SL (α := Int) 3 (.slice pa3 (List.length p1.Out) pc3) p1.Out] w4 S3 := Sep.pick [0, 1, 3, 4, 5, 6] hs (by decide) rfl
    refine wp_seq (wp_text' ?_)
    refine s_loadBoxS ty28 rfl rfl hF rfl (hs.bx 1 rfl) rfl rfl fun fr hF => ?_
    have hs : Sep [BX b3 28 [.int .i64 0, .slice none (List.length ([] : List Int)) 0, .slice none (List.length ([] : List Int)) 0, .slice none (List.length ([] : List Int)) 0, .int .i64 0, .slice none (List.length ([] : List Int)) 0, .int .i64 0, .int .i64 0], SL (α := Int) 3 (.slice pa0 (List.length p1.Regs) pc0) p1.Regs, SL (α := Int) 3 (.slice pa1 (List.length p1.Mem) pc1) p1.Mem, SL (α := Int) 3 (.slice pa2 (List.length p1.Stack) pc2) p1.Stack, SL (α := Int) 3 (.slice pa3 (List.length p1.Out) pc3) p1.Out] w4 S3 := Sep.pick [0, 2, 3, 4, 5] hs (by decide) rfl
    refine q_storeBoxS 0 hs hM0 rfl [.int .i64 p1.Pc, .slice pa0 (List.length p1.Regs) pc0, .slice pa1 (List.length p1.Mem) pc1, .slice pa2 (List.length p1.Stack) pc2, .int .i64 p1.In, .slice pa3 (List.length p1.Out) pc3, .int .i64 p1.Code, .int .i64 p1.Steps] rfl hF rfl rfl (by kernel_rfl) rfl rfl rfl fun w5 S4 hs hp hF => ?_
    have hM0 := hM0.stp hp
    have hs : Sep [BX b3 28 [.int .i64 p1.Pc, .slice pa0 (List.length p1.Regs) pc0, .slice pa1 (List.length p1.Mem) pc1, .slice pa2 (List.length p1.Stack) pc2, .int .i64 p1.In, .slice pa3 (List.length p1.Out) pc3, .int .i64 p1.Code, .int .i64 p1.Steps], SL (α := Int) 3 (.slice pa0 (List.length p1.Regs) pc0) p1.Regs, SL (α := Int) 3 (.slice pa1 (List.length p1.Mem) pc1) p1.Mem, SL (α := Int) 3 (.slice pa2 (List.length p1.Stack) pc2) p1.Stack, SL (α := Int) 3 (.slice pa3 (List.length p1.Out) pc3) p1.Out] w5 S4 := hs
    refine from_end rfl (then_normal ?_)
    have hbr := (hs.bx 0 rfl)
    obtain rfl := Option.some.inj h
    have hs : Sep [SL (α := Int) 3 (.slice pa0 (List.length p1.Regs) pc0) p1.Regs, SL (α := Int) 3 (.slice pa1 (List.length p1.Mem) pc1) p1.Mem, SL (α := Int) 3 (.slice pa2 (List.length p1.Stack) pc2) p1.Stack, SL (α := Int) 3 (.slice pa3 (List.length p1.Out) pc3) p1.Out] w5 S4 := Sep.pick [1, 2, 3, 4] hs (by decide) rfl
    exact wp_ret (then_ret (retS rfl hF ty28 rfl rfl hbr rfl ⟨_, rfl, pa0, pc0, pa1, pc1, pa2, pc2, pa3, pc3, rfl, S4, hM0.out, hs⟩))
  replace h := iteF hb h
  refine (wp_skip (then_normal ?_))
  refine wp_seq ?_
  refine wp_seq (wp_text' ?_)
  refine from_pure 1 [(2, .slice a2 (List.length p2) c2), (3, .pointer (some ⟨b1, 0, none⟩)), (4, .pointer (some ⟨b2, 0, none⟩)), (6, .pointer (some ⟨b3, 0, none⟩)), (18, .pointer (some ⟨b2, 0, none⟩))] hF (by kernel_rfl) fun fr hF => ?_
  refine s_loadBox (.int .i64 p1.Pc) ty3 rfl rfl hF rfl (hs.bx 1 rfl) rfl rfl fun fr hF => ?_
  refine from_pure 1 [(2, .slice a2 (List.length p2) c2), (3, .pointer (some ⟨b1, 0, none⟩)), (4, .pointer (some ⟨b2, 0, none⟩)), (6, .pointer (some ⟨b3, 0, none⟩)), (19, .int .i64 p1.Pc), (20, .pointer (some ⟨b1, 3, none⟩))] hF (by kernel_rfl) fun fr hF => ?_
  refine s_loadBox (.slice a1 (List.length p0.Code) c1) ty30 rfl rfl hF rfl (hs.bx 2 rfl) rfl rfl fun fr hF => ?_
  refine from_pure 2 [(2, .slice a2 (List.length p2) c2), (3, .pointer (some ⟨b1, 0, none⟩)), (4, .pointer (some ⟨b2, 0, none⟩)), (6, .pointer (some ⟨b3, 0, none⟩)), (23, .bool (p1.Pc == (len p0.Code)))] hF (by kernel_rfl) fun fr hF => ?_
  refine from_end rfl (then_normal ?_)
  refine (wp_if hF (b := (p1.Pc == (len p0.Code))) rfl (fun hb => ?_) (fun hb => ?_))
  · replace h := iteT hb h
    have hs : Sep [BX b3 28 [.int .i64 0, .slice none (List.length ([] : List Int)) 0, .slice none (List.length ([] : List Int)) 0, .slice none (List.length ([] : List Int)) 0, .int .i64 0, .slice none (List.length ([] : List Int)) 0, .int .i64 0, .int .i64 0], BX b2 28 [.int .i64 p1.Pc, .slice pa0 (List.length p1.Regs) pc0, .slice pa1 (List.length p1.Mem) pc1, .slice pa2 (List.length p1.Stack) pc2, .int .i64 p1.In, .slice pa3 (List.length p1.Out) pc3, .int .i64 p1.Code, .int .i64 p1.Steps], SL (α := Int) 3 (.slice pa0 (List.length p1.Regs) pc0) p1.Regs, SL (α := Int) 3 (.slice pa1 (List.length p1.Mem) pc1) p1.Mem, SL (α := Int) 3 (.slice pa2 (List.length p1.Stack) pc2) p1.Stack, SL (α := Int) 3 (.slice pa3 (List.length p1.Out) pc3) p1.Out] w4 S3 := Sep.pick [0, 1, 3, 4, 5, 6] hs (by decide) rfl
    refine wp_seq (wp_text' ?_)
    refine from_pure 1 [(4, .pointer (some ⟨b2, 0, none⟩)), (6, .pointer (some ⟨b3, 0, none⟩)), (24, .pointer (some ⟨b2, 6, none⟩))] hF (by kernel_rfl) fun fr hF => ?_
    refine q_storeBox 1 hs hM0 rfl [.int .i64 p1.Pc, .slice pa0 (List.length p1.Regs) pc0, .slice pa1 (List.length p1.Mem) pc1, .slice pa2 (List.length p1.Stack) pc2, .int .i64 p1.In, .slice pa3 (List.length p1.Out) pc3, .int .i64 2, .int .i64 p1.Steps] rfl hF rfl rfl (by kernel_rfl) rfl rfl rfl fun w6 S5 hs hp hF => ?_
    have hM0 := hM0.stp hp
    have hs : Sep [BX b3 28 [.int .i64 0, .slice none (List.length ([] : List Int)) 0, .slice none (List.length ([] : List Int)) 0, .slice none (List.length ([] : List Int)) 0, .int .i64 0, .slice none (List.length ([] : List Int)) 0, .int .i64 0, .int .i64 0], BX b2 28 [.int .i64 p1.Pc, .slice pa0 (List.length p1.Regs) pc0, .slice pa1 (List.length p1.Mem) pc1, .slice pa2 (List.length p1.Stack) pc2, .int .i64 p1.In, .slice pa3 (List.length p1.Out) pc3, .int .i64 2, .int .i64 p1.Steps], SL (α := Int) 3 (.slice pa0 (List.length p1.Regs) pc0) p1.Regs, SL (α := Int) 3 (.slice pa1 (List.length p1.Mem) pc1) p1.Mem, SL (α := Int) 3 (.slice pa2 (List.length p1.Stack) pc2) p1.Stack, SL (α := Int) 3 (.slice pa3 (List.length p1.Out) pc3) p1.Out] w6 S5 := hs
    refine from_end rfl (then_normal ?_)
    refine wp_seq (wp_text' ?_)
    refine s_loadBoxS ty28 rfl rfl hF rfl (hs.bx 1 rfl) rfl rfl fun fr hF => ?_
    have hs : Sep [BX b3 28 [.int .i64 0, .slice none (List.length ([] : List Int)) 0, .slice none (List.length ([] : List Int)) 0, .slice none (List.length ([] : List Int)) 0, .int .i64 0, .slice none (List.length ([] : List Int)) 0, .int .i64 0, .int .i64 0], SL (α := Int) 3 (.slice pa0 (List.length p1.Regs) pc0) p1.Regs, SL (α := Int) 3 (.slice pa1 (List.length p1.Mem) pc1) p1.Mem, SL (α := Int) 3 (.slice pa2 (List.length p1.Stack) pc2) p1.Stack, SL (α := Int) 3 (.slice pa3 (List.length p1.Out) pc3) p1.Out] w6 S5 := Sep.pick [0, 2, 3, 4, 5] hs (by decide) rfl
    refine q_storeBoxS 0 hs hM0 rfl [.int .i64 p1.Pc, .slice pa0 (List.length p1.Regs) pc0, .slice pa1 (List.length p1.Mem) pc1, .slice pa2 (List.length p1.Stack) pc2, .int .i64 p1.In, .slice pa3 (List.length p1.Out) pc3, .int .i64 2, .int .i64 p1.Steps] rfl hF rfl rfl (by kernel_rfl) rfl rfl rfl fun w7 S6 hs hp hF => ?_
    have hM0 := hM0.stp hp
    have hs : Sep [BX b3 28 [.int .i64 p1.Pc, .slice pa0 (List.length p1.Regs) pc0, .slice pa1 (List.length p1.Mem) pc1, .slice pa2 (List.length p1.Stack) pc2, .int .i64 p1.In, .slice pa3 (List.length p1.Out) pc3, .int .i64 2, .int .i64 p1.Steps], SL (α := Int) 3 (.slice pa0 (List.length p1.Regs) pc0) p1.Regs, SL (α := Int) 3 (.slice pa1 (List.length p1.Mem) pc1) p1.Mem, SL (α := Int) 3 (.slice pa2 (List.length p1.Stack) pc2) p1.Stack, SL (α := Int) 3 (.slice pa3 (List.length p1.Out) pc3) p1.Out] w7 S6 := hs
    refine from_end rfl (then_normal ?_)
    have hbr := (hs.bx 0 rfl)
    obtain rfl := Option.some.inj h
    have hs : Sep [SL (α := Int) 3 (.slice pa0 (List.length p1.Regs) pc0) p1.Regs, SL (α := Int) 3 (.slice pa1 (List.length p1.Mem) pc1) p1.Mem, SL (α := Int) 3 (.slice pa2 (List.length p1.Stack) pc2) p1.Stack, SL (α := Int) 3 (.slice pa3 (List.length p1.Out) pc3) p1.Out] w7 S6 := Sep.pick [1, 2, 3, 4] hs (by decide) rfl
    exact wp_ret (then_ret (retS rfl hF ty28 rfl rfl hbr rfl ⟨_, rfl, pa0, pc0, pa1, pc1, pa2, pc2, pa3, pc3, rfl, S6, hM0.out, hs⟩))
  replace h := iteF hb h
  refine (wp_skip (then_normal ?_))
  refine wp_seq (wp_text' ?_)
  refine from_pure 1 [(2, .slice a2 (List.length p2) c2), (3, .pointer (some ⟨b1, 0, none⟩)), (4, .pointer (some ⟨b2, 0, none⟩)), (6, .pointer (some ⟨b3, 0, none⟩)), (26, .pointer (some ⟨b1, 3, none⟩))] hF (by kernel_rfl) fun fr hF => ?_
  refine s_loadBox (.slice a1 (List.length p0.Code) c1) ty30 rfl rfl hF rfl (hs.bx 2 rfl) rfl rfl fun fr hF => ?_
  refine from_pure 1 [(2, .slice a2 (List.length p2) c2), (3, .pointer (some ⟨b1, 0, none⟩)), (4, .pointer (some ⟨b2, 0, none⟩)), (6, .pointer (some ⟨b3, 0, none⟩)), (27, .slice a1 (List.length p0.Code) c1), (28, .pointer (some ⟨b2, 0, none⟩))] hF (by kernel_rfl) fun fr hF => ?_
  refine s_loadBox (.int .i64 p1.Pc) ty3 rfl rfl hF rfl (hs.bx 1 rfl) rfl rfl fun fr hF => ?_
  obtain ⟨x1, hx1, h⟩ := bindE h
  refine s_elemF (z := x1) (.agg #[.int .i64 x1.Op, .int .i64 x1.A, .int .i64 x1.B, .int .i64 x1.C]) ty66 Try.underlying30 rfl rfl rfl rfl rfl hF rfl (r1) rfl (get?_nn hx1) (get?_at hx1) rfl fun p fr hF => ?_
  refine q_alloc (z := .agg #[.int .i64 0, .int .i64 0, .int .i64 0, .int .i64 0]) hs hM0 [.int .i64 0, .int .i64 0, .int .i64 0, .int .i64 0] rfl rfl hF (by kernel_rfl) rfl fun b4 w8 S7 fr hs hp hF => ?_
  have ra2 := ra2.stp hM0 hp
  have r1 := r1.stp hM0 hp
  have hM0 := hM0.stp hp
  have hs : Sep [BX b4 66 [.int .i64 0, .int .i64 0, .int .i64 0, .int .i64 0], BX b3 28 [.int .i64 0, .slice none (List.length ([] : List Int)) 0, .slice none (List.length ([] : List Int)) 0, .slice none (List.length ([] : List Int)) 0, .int .i64 0, .slice none (List.length ([] : List Int)) 0, .int .i64 0, .int .i64 0], BX b2 28 [.int .i64 p1.Pc, .slice pa0 (List.length p1.Regs) pc0, .slice pa1 (List.length p1.Mem) pc1, .slice pa2 (List.length p1.Stack) pc2, .int .i64 p1.In, .slice pa3 (List.length p1.Out) pc3, .int .i64 p1.Code, .int .i64 p1.Steps], BX b1 32 [.int .i64 p0.W, .int .i64 p0.Mem, .int .i64 p0.In, .slice a1 (List.length p0.Code) c1], SL (α := Int) 3 (.slice pa0 (List.length p1.Regs) pc0) p1.Regs, SL (α := Int) 3 (.slice pa1 (List.length p1.Mem) pc1) p1.Mem, SL (α := Int) 3 (.slice pa2 (List.length p1.Stack) pc2) p1.Stack, SL (α := Int) 3 (.slice pa3 (List.length p1.Out) pc3) p1.Out] w8 S7 := hs
  refine q_storeBoxS 0 hs hM0 rfl [.int .i64 x1.Op, .int .i64 x1.A, .int .i64 x1.B, .int .i64 x1.C] rfl hF rfl rfl (by kernel_rfl) rfl rfl rfl fun w9 S8 hs hp hF => ?_
  have ra2 := ra2.stp hM0 hp
  have r1 := r1.stp hM0 hp
  have hM0 := hM0.stp hp
  have hs : Sep [BX b4 66 [.int .i64 x1.Op, .int .i64 x1.A, .int .i64 x1.B, .int .i64 x1.C], BX b3 28 [.int .i64 0, .slice none (List.length ([] : List Int)) 0, .slice none (List.length ([] : List Int)) 0, .slice none (List.length ([] : List Int)) 0, .int .i64 0, .slice none (List.length ([] : List Int)) 0, .int .i64 0, .int .i64 0], BX b2 28 [.int .i64 p1.Pc, .slice pa0 (List.length p1.Regs) pc0, .slice pa1 (List.length p1.Mem) pc1, .slice pa2 (List.length p1.Stack) pc2, .int .i64 p1.In, .slice pa3 (List.length p1.Out) pc3, .int .i64 p1.Code, .int .i64 p1.Steps], BX b1 32 [.int .i64 p0.W, .int .i64 p0.Mem, .int .i64 p0.In, .slice a1 (List.length p0.Code) c1], SL (α := Int) 3 (.slice pa0 (List.length p1.Regs) pc0) p1.Regs, SL (α := Int) 3 (.slice pa1 (List.length p1.Mem) pc1) p1.Mem, SL (α := Int) 3 (.slice pa2 (List.length p1.Stack) pc2) p1.Stack, SL (α := Int) 3 (.slice pa3 (List.length p1.Out) pc3) p1.Out] w9 S8 := hs
  refine from_end rfl (then_normal ?_)
  refine wp_seq (wp_text' ?_)
  refine from_pure 1 [(2, .slice a2 (List.length p2) c2), (3, .pointer (some ⟨b1, 0, none⟩)), (4, .pointer (some ⟨b2, 0, none⟩)), (6, .pointer (some ⟨b3, 0, none⟩)), (7, .pointer (some ⟨b4, 0, none⟩)), (32, .pointer (some ⟨b2, 7, none⟩))] hF (by kernel_rfl) fun fr hF => ?_
  refine s_loadBox (.int .i64 p1.Steps) ty3 rfl rfl hF rfl (hs.bx 2 rfl) rfl rfl fun fr hF => ?_
  refine from_pure 2 [(2, .slice a2 (List.length p2) c2), (3, .pointer (some ⟨b1, 0, none⟩)), (4, .pointer (some ⟨b2, 0, none⟩)), (6, .pointer (some ⟨b3, 0, none⟩)), (7, .pointer (some ⟨b4, 0, none⟩)), (34, .int .i64 (w64 (p1.Steps + 1))), (35, .pointer (some ⟨b2, 7, none⟩))] hF (by kernel_rfl) fun fr hF => ?_
  refine q_storeBox 2 hs hM0 rfl [.int .i64 p1.Pc, .slice pa0 (List.length p1.Regs) pc0, .slice pa1 (List.length p1.Mem) pc1, .slice pa2 (List.length p1.Stack) pc2, .int .i64 p1.In, .slice pa3 (List.length p1.Out) pc3, .int .i64 p1.Code, .int .i64 (w64 (p1.Steps + 1))] rfl hF rfl rfl (by kernel_rfl) rfl rfl rfl fun w10 S9 hs hp hF => ?_
  have ra2 := ra2.stp hM0 hp
  have r1 := r1.stp hM0 hp
  have hM0 := hM0.stp hp
  have hs : Sep [BX b4 66 [.int .i64 x1.Op, .int .i64 x1.A, .int .i64 x1.B, .int .i64 x1.C], BX b3 28 [.int .i64 0, .slice none (List.length ([] : List Int)) 0, .slice none (List.length ([] : List Int)) 0, .slice none (List.length ([] : List Int)) 0, .int .i64 0, .slice none (List.length ([] : List Int)) 0, .int .i64 0, .int .i64 0], BX b2 28 [.int .i64 p1.Pc, .slice pa0 (List.length p1.Regs) pc0, .slice pa1 (List.length p1.Mem) pc1, .slice pa2 (List.length p1.Stack) pc2, .int .i64 p1.In, .slice pa3 (List.length p1.Out) pc3, .int .i64 p1.Code, .int .i64 (w64 (p1.Steps + 1))], BX b1 32 [.int .i64 p0.W, .int .i64 p0.Mem, .int .i64 p0.In, .slice a1 (List.length p0.Code) c1], SL (α := Int) 3 (.slice pa0 (List.length p1.Regs) pc0) p1.Regs, SL (α := Int) 3 (.slice pa1 (List.length p1.Mem) pc1) p1.Mem, SL (α := Int) 3 (.slice pa2 (List.length p1.Stack) pc2) p1.Stack, SL (α := Int) 3 (.slice pa3 (List.length p1.Out) pc3) p1.Out] w10 S9 := hs
  refine from_end rfl (then_normal ?_)
  refine wp_seq (wp_text' ?_)
  refine s_loadBoxS ty32 rfl rfl hF rfl (hs.bx 3 rfl) rfl rfl fun fr hF => ?_
  refine s_loadBoxS ty28 rfl rfl hF rfl (hs.bx 2 rfl) rfl rfl fun fr hF => ?_
  refine s_loadBoxS ty66 rfl rfl hF rfl (hs.bx 0 rfl) rfl rfl fun fr hF => ?_
  obtain ⟨x2, hx2, h⟩ := bindE h
  refine s_call [.agg #[.int .i64 p0.W, .int .i64 p0.Mem, .int .i64 p0.In, .slice a1 (List.length p0.Code) c1], .agg #[.int .i64 p1.Pc, .slice pa0 (List.length p1.Regs) pc0, .slice pa1 (List.length p1.Mem) pc1, .slice pa2 (List.length p1.Stack) pc2, .int .i64 p1.In, .slice pa3 (List.length p1.Out) pc3, .int .i64 p1.Code, .int .i64 (w64 (p1.Steps + 1))], .agg #[.int .i64 x1.Op, .int .i64 x1.A, .int .i64 x1.B, .int .i64 x1.C]] Try.call65 rfl rfl hF rfl (spec_l05Why_ok p0 (D.State.mk p1.Pc p1.Regs p1.Mem p1.Stack p1.In p1.Out p1.Code (w64 (p1.Steps + 1))) x1 hx2 (RV.mk_Program p0 (r1)) (RV.mk_State (D.State.mk p1.Pc p1.Regs p1.Mem p1.Stack p1.In p1.Out p1.Code (w64 (p1.Steps + 1))) (RV.any (hs.rv 4 rfl)) (RV.any (hs.rv 5 rfl)) (RV.any (hs.rv 6 rfl)) (RV.any (hs.rv 7 rfl)))) fun v w11 fr hRes hF => ?_
  obtain ⟨rfl, hc⟩ := hRes
  have ra2 := ra2.ext hc
  have r1 := r1.ext hc
  have hs := hs.ext hc
  have hM0 := hM0.ext hc
  refine from_pure 1 [(2, .slice a2 (List.length p2) c2), (3, .pointer (some ⟨b1, 0, none⟩)), (4, .pointer (some ⟨b2, 0, none⟩)), (6, .pointer (some ⟨b3, 0, none⟩)), (7, .pointer (some ⟨b4, 0, none⟩)), (39, .int .i64 x2), (40, .pointer (some ⟨b2, 6, none⟩))] hF (by kernel_rfl) fun fr hF => ?_
  refine q_storeBox 2 hs hM0 rfl [.int .i64 p1.Pc, .slice pa0 (List.length p1.Regs) pc0, .slice pa1 (List.length p1.Mem) pc1, .slice pa2 (List.length p1.Stack) pc2, .int .i64 p1.In, .slice pa3 (List.length p1.Out) pc3, .int .i64 x2, .int .i64 (w64 (p1.Steps + 1))] rfl hF rfl rfl (by kernel_rfl) rfl rfl rfl fun w12 S10 hs hp hF => ?_
  have ra2 := ra2.stp hM0 hp
  have r1 := r1.stp hM0 hp
  have hM0 := hM0.stp hp
  have hs : Sep [BX b4 66 [.int .i64 x1.Op, .int .i64 x1.A, .int .i64 x1.B, .int .i64 x1.C], BX b3 28 [.int .i64 0, .slice none (List.length ([] : List Int)) 0, .slice none (List.length ([] : List Int)) 0, .slice none (List.length ([] : List Int)) 0, .int .i64 0, .slice none (List.length ([] : List Int)) 0, .int .i64 0, .int .i64 0], BX b2 28 [.int .i64 p1.Pc, .slice pa0 (List.length p1.Regs) pc0, .slice pa1 (List.length p1.Mem) pc1, .slice pa2 (List.length p1.Stack) pc2, .int .i64 p1.In, .slice pa3 (List.length p1.Out) pc3, .int .i64 x2, .int .i64 (w64 (p1.Steps + 1))], BX b1 32 [.int .i64 p0.W, .int .i64 p0.Mem, .int .i64 p0.In, .slice a1 (List.length p0.Code) c1], SL (α := Int) 3 (.slice pa0 (List.length p1.Regs) pc0) p1.Regs, SL (α := Int) 3 (.slice pa1 (List.length p1.Mem) pc1) p1.Mem, SL (α := Int) 3 (.slice pa2 (List.length p1.Stack) pc2) p1.Stack, SL (α := Int) 3 (.slice pa3 (List.length p1.Out) pc3) p1.Out] w12 S10 := hs
  refine from_end rfl (then_normal ?_)
  refine wp_seq ?_
  refine wp_seq (wp_text' ?_)
  refine from_pure 1 [(2, .slice a2 (List.length p2) c2), (3, .pointer (some ⟨b1, 0, none⟩)), (4, .pointer (some ⟨b2, 0, none⟩)), (6, .pointer (some ⟨b3, 0, none⟩)), (7, .pointer (some ⟨b4, 0, none⟩)), (41, .pointer (some ⟨b2, 6, none⟩))] hF (by kernel_rfl) fun fr hF => ?_
  refine s_loadBox (.int .i64 x2) ty3 rfl rfl hF rfl (hs.bx 2 rfl) rfl rfl fun fr hF => ?_
  refine from_pure 1 [(2, .slice a2 (List.length p2) c2), (3, .pointer (some ⟨b1, 0, none⟩)), (4, .pointer (some ⟨b2, 0, none⟩)), (6, .pointer (some ⟨b3, 0, none⟩)), (7, .pointer (some ⟨b4, 0, none⟩)), (43, .bool (x2 != 0))] hF (by kernel_rfl) fun fr hF => ?_
  refine from_end rfl (then_normal ?_)
  refine (wp_if hF (b := (x2 != 0)) rfl (fun hb => ?_) (fun hb => ?_))
  · replace h := iteT hb h
    have hs : Sep [BX b3 28 [.int .i64 0, .slice none (List.length ([] : List Int)) 0, .slice none (List.length ([] : List Int)) 0, .slice none (List.length ([] : List Int)) 0, .int .i64 0, .slice none (List.length ([] : List Int)) 0, .int .i64 0, .int .i64 0], BX b2 28 [.int .i64 p1.Pc, .slice pa0 (List.length p1.Regs) pc0, .slice pa1 (List.length p1.Mem) pc1, .slice pa2 (List.length p1.Stack) pc2, .int .i64 p1.In, .slice pa3 (List.length p1.Out) pc3, .int .i64 x2, .int .i64 (w64 (p1.Steps + 1))], SL (α := Int) 3 (.slice pa0 (List.length p1.Regs) pc0) p1.Regs, SL (α := Int) 3 (.slice pa1 (List.length p1.Mem) pc1) p1.Mem, SL (α := Int) 3 (.slice pa2 (List.length p1.Stack) pc2) p1.Stack, SL (α := Int) 3 (.slice pa3 (List.length p1.Out) pc3) p1.Out] w12 S10 := Sep.pick [1, 2, 4, 5, 6, 7] hs (by decide) rfl
    refine wp_seq (wp_text' ?_)
    refine s_loadBoxS ty28 rfl rfl hF rfl (hs.bx 1 rfl) rfl rfl fun fr hF => ?_
    have hs : Sep [BX b3 28 [.int .i64 0, .slice none (List.length ([] : List Int)) 0, .slice none (List.length ([] : List Int)) 0, .slice none (List.length ([] : List Int)) 0, .int .i64 0, .slice none (List.length ([] : List Int)) 0, .int .i64 0, .int .i64 0], SL (α := Int) 3 (.slice pa0 (List.length p1.Regs) pc0) p1.Regs, SL (α := Int) 3 (.slice pa1 (List.length p1.Mem) pc1) p1.Mem, SL (α := Int) 3 (.slice pa2 (List.length p1.Stack) pc2) p1.Stack, SL (α := Int) 3 (.slice pa3 (List.length p1.Out) pc3) p1.Out] w12 S10 := Sep.pick [0, 2, 3, 4, 5] hs (by decide) rfl
    refine q_storeBoxS 0 hs hM0 rfl [.int .i64 p1.Pc, .slice pa0 (List.length p1.Regs) pc0, .slice pa1 (List.length p1.Mem) pc1, .slice pa2 (List.length p1.Stack) pc2, .int .i64 p1.In, .slice pa3 (List.length p1.Out) pc3, .int .i64 x2, .int .i64 (w64 (p1.Steps + 1))] rfl hF rfl rfl (by kernel_rfl) rfl rfl rfl fun w13 S11 hs hp hF => ?_
    have hM0 := hM0.stp hp
    have hs : Sep [BX b3 28 [.int .i64 p1.Pc, .slice pa0 (List.length p1.Regs) pc0, .slice pa1 (List.length p1.Mem) pc1, .slice pa2 (List.length p1.Stack) pc2, .int .i64 p1.In, .slice pa3 (List.length p1.Out) pc3, .int .i64 x2, .int .i64 (w64 (p1.Steps + 1))], SL (α := Int) 3 (.slice pa0 (List.length p1.Regs) pc0) p1.Regs, SL (α := Int) 3 (.slice pa1 (List.length p1.Mem) pc1) p1.Mem, SL (α := Int) 3 (.slice pa2 (List.length p1.Stack) pc2) p1.Stack, SL (α := Int) 3 (.slice pa3 (List.length p1.Out) pc3) p1.Out] w13 S11 := hs
    refine from_end rfl (then_normal ?_)
    have hbr := (hs.bx 0 rfl)
    obtain rfl := Option.some.inj h
    have hs : Sep [SL (α := Int) 3 (.slice pa0 (List.length p1.Regs) pc0) p1.Regs, SL (α := Int) 3 (.slice pa1 (List.length p1.Mem) pc1) p1.Mem, SL (α := Int) 3 (.slice pa2 (List.length p1.Stack) pc2) p1.Stack, SL (α := Int) 3 (.slice pa3 (List.length p1.Out) pc3) p1.Out] w13 S11 := Sep.pick [1, 2, 3, 4] hs (by decide) rfl
    exact wp_ret (then_ret (retS rfl hF ty28 rfl rfl hbr rfl ⟨_, rfl, pa0, pc0, pa1, pc1, pa2, pc2, pa3, pc3, rfl, S11, hM0.out, hs⟩))
  replace h := iteF hb h
  refine (wp_skip (then_normal ?_))
  refine wp_seq (wp_text' ?_)
  refine from_pure 1 [(2, .slice a2 (List.length p2) c2), (3, .pointer (some ⟨b1, 0, none⟩)), (4, .pointer (some ⟨b2, 0, none⟩)), (6, .pointer (some ⟨b3, 0, none⟩)), (7, .pointer (some ⟨b4, 0, none⟩)), (45, .pointer (some ⟨b2, 0, none⟩))] hF (by kernel_rfl) fun fr hF => ?_
  refine s_loadBox (.int .i64 p1.Pc) ty3 rfl rfl hF rfl (hs.bx 2 rfl) rfl rfl fun fr hF => ?_
  refine from_pure 2 [(2, .slice a2 (List.length p2) c2), (3, .pointer (some ⟨b1, 0, none⟩)), (4, .pointer (some ⟨b2, 0, none⟩)), (6, .pointer (some ⟨b3, 0, none⟩)), (7, .pointer (some ⟨b4, 0, none⟩)), (47, .int .i64 (w64 (p1.Pc + 1))), (48, .pointer (some ⟨b2, 0, none⟩))] hF (by kernel_rfl) fun fr hF => ?_
  refine q_storeBox 2 hs hM0 rfl [.int .i64 (w64 (p1.Pc + 1)), .slice pa0 (List.length p1.Regs) pc0, .slice pa1 (List.length p1.Mem) pc1, .slice pa2 (List.length p1.Stack) pc2, .int .i64 p1.In, .slice pa3 (List.length p1.Out) pc3, .int .i64 x2, .int .i64 (w64 (p1.Steps + 1))] rfl hF rfl rfl (by kernel_rfl) rfl rfl rfl fun w14 S12 hs hp hF => ?_
  have ra2 := ra2.stp hM0 hp
  have r1 := r1.stp hM0 hp
  have hM0 := hM0.stp hp
  have hs : Sep [BX b4 66 [.int .i64 x1.Op, .int .i64 x1.A, .int .i64 x1.B, .int .i64 x1.C], BX b3 28 [.int .i64 0, .slice none (List.length ([] : List Int)) 0, .slice none (List.length ([] : List Int)) 0, .slice none (List.length ([] : List Int)) 0, .int .i64 0, .slice none (List.length ([] : List Int)) 0, .int .i64 0, .int .i64 0], BX b2 28 [.int .i64 (w64 (p1.Pc + 1)), .slice pa0 (List.length p1.Regs) pc0, .slice pa1 (List.length p1.Mem) pc1, .slice pa2 (List.length p1.Stack) pc2, .int .i64 p1.In, .slice pa3 (List.length p1.Out) pc3, .int .i64 x2, .int .i64 (w64 (p1.Steps + 1))], BX b1 32 [.int .i64 p0.W, .int .i64 p0.Mem, .int .i64 p0.In, .slice a1 (List.length p0.Code) c1], SL (α := Int) 3 (.slice pa0 (List.length p1.Regs) pc0) p1.Regs, SL (α := Int) 3 (.slice pa1 (List.length p1.Mem) pc1) p1.Mem, SL (α := Int) 3 (.slice pa2 (List.length p1.Stack) pc2) p1.Stack, SL (α := Int) 3 (.slice pa3 (List.length p1.Out) pc3) p1.Out] w14 S12 := hs
  refine from_end rfl (then_normal ?_)
  refine wp_seq ?_
  refine wp_seq (wp_text' ?_)
  refine from_pure 1 [(2, .slice a2 (List.length p2) c2), (3, .pointer (some ⟨b1, 0, none⟩)), (4, .pointer (some ⟨b2, 0, none⟩)), (6, .pointer (some ⟨b3, 0, none⟩)), (7, .pointer (some ⟨b4, 0, none⟩)), (49, .pointer (some ⟨b4, 0, none⟩))] hF (by kernel_rfl) fun fr hF => ?_
  refine s_loadBox (.int .i64 x1.Op) ty3 rfl rfl hF rfl (hs.bx 0 rfl) rfl rfl fun fr hF => ?_
  refine from_end rfl (then_normal ?_)
  refine (wp_block ?_)
  refine wp_seq (wp_pure [(2, .slice a2 (List.length p2) c2), (3, .pointer (some ⟨b1, 0, none⟩)), (4, .pointer (some ⟨b2, 0, none⟩)), (6, .pointer (some ⟨b3, 0, none⟩)), (7, .pointer (some ⟨b4, 0, none⟩)), (50, .int .i64 x1.Op), (51, .bool (x1.Op == 1))] hF (by kernel_rfl) fun fr hF => then_normal ?_)
  refine (wp_if hF (b := (x1.Op == 1)) rfl (fun hb => ?_) (fun hb => ?_))
  · replace h := iteT hb h
    have hs : Sep [BX b4 66 [.int .i64 x1.Op, .int .i64 x1.A, .int .i64 x1.B, .int .i64 x1.C], BX b3 28 [.int .i64 0, .slice none (List.length ([] : List Int)) 0, .slice none (List.length ([] : List Int)) 0, .slice none (List.length ([] : List Int)) 0, .int .i64 0, .slice none (List.length ([] : List Int)) 0, .int .i64 0, .int .i64 0], BX b2 28 [.int .i64 (w64 (p1.Pc + 1)), .slice pa0 (List.length p1.Regs) pc0, .slice pa1 (List.length p1.Mem) pc1, .slice pa2 (List.length p1.Stack) pc2, .int .i64 p1.In, .slice pa3 (List.length p1.Out) pc3, .int .i64 x2, .int .i64 (w64 (p1.Steps + 1))], SL (α := Int) 3 (.slice pa0 (List.length p1.Regs) pc0) p1.Regs, SL (α := Int) 3 (.slice pa1 (List.length p1.Mem) pc1) p1.Mem, SL (α := Int) 3 (.slice pa2 (List.length p1.Stack) pc2) p1.Stack, SL (α := Int) 3 (.slice pa3 (List.length p1.Out) pc3) p1.Out] w14 S12 := Sep.pick [0, 1, 2, 4, 5, 6, 7] hs (by decide) rfl
    refine (wp_text' ?_)
    refine from_pure 1 [(4, .pointer (some ⟨b2, 0, none⟩)), (6, .pointer (some ⟨b3, 0, none⟩)), (7, .pointer (some ⟨b4, 0, none⟩)), (53, .pointer (some ⟨b2, 1, none⟩))] hF (by kernel_rfl) fun fr hF => ?_
    refine s_loadBox (.slice pa0 (List.length p1.Regs) pc0) ty26 rfl rfl hF rfl (hs.bx 2 rfl) rfl rfl fun fr hF => ?_
    refine from_pure 1 [(4, .pointer (some ⟨b2, 0, none⟩)), (6, .pointer (some ⟨b3, 0, none⟩)), (7, .pointer (some ⟨b4, 0, none⟩)), (54, .slice pa0 (List.length p1.Regs) pc0), (55, .pointer (some ⟨b4, 1, none⟩))] hF (by kernel_rfl) fun fr hF => ?_
    refine s_loadBox (.int .i64 x1.A) ty3 rfl rfl hF rfl (hs.bx 0 rfl) rfl rfl fun fr hF => ?_
    refine from_pure 1 [(4, .pointer (some ⟨b2, 0, none⟩)), (6, .pointer (some ⟨b3, 0, none⟩)), (54, .slice pa0 (List.length p1.Regs) pc0), (56, .int .i64 x1.A), (57, .pointer (some ⟨b4, 2, none⟩))] hF (by kernel_rfl) fun fr hF => ?_
    refine s_loadBox (.int .i64 x1.B) ty3 rfl rfl hF rfl (hs.bx 0 rfl) rfl rfl fun fr hF => ?_
    have hs : Sep [BX b3 28 [.int .i64 0, .slice none (List.length ([] : List Int)) 0, .slice none (List.length ([] : List Int)) 0, .slice none (List.length ([] : List Int)) 0, .int .i64 0, .slice none (List.length ([] : List Int)) 0, .int .i64 0, .int .i64 0], BX b2 28 [.int .i64 (w64 (p1.Pc + 1)), .slice pa0 (List.length p1.Regs) pc0, .slice pa1 (List.length p1.Mem) pc1, .slice pa2 (List.length p1.Stack) pc2, .int .i64 p1.In, .slice pa3 (List.length p1.Out) pc3, .int .i64 x2, .int .i64 (w64 (p1.Steps + 1))], SL (α := Int) 3 (.slice pa0 (List.length p1.Regs) pc0) p1.Regs, SL (α := Int) 3 (.slice pa1 (List.length p1.Mem) pc1) p1.Mem, SL (α := Int) 3 (.slice pa2 (List.length p1.Stack) pc2) p1.Stack, SL (α := Int) 3 (.slice pa3 (List.length p1.Out) pc3) p1.Out] w14 S12 := Sep.pick [1, 2, 3, 4, 5, 6] hs (by decide) rfl
    obtain ⟨x3, hx3, h⟩ := bindE h
    refine q_set (q := x1.B) 2 hs hM0 rfl Try.underlying26 ty3 rfl rfl rfl rfl hF rfl rfl (by simp) rfl rfl hx3 fun w15 S13 fr _ hs hp hF => ?_
    have hM0 := hM0.stp hp
    have hs : Sep [BX b3 28 [.int .i64 0, .slice none (List.length ([] : List Int)) 0, .slice none (List.length ([] : List Int)) 0, .slice none (List.length ([] : List Int)) 0, .int .i64 0, .slice none (List.length ([] : List Int)) 0, .int .i64 0, .int .i64 0], BX b2 28 [.int .i64 (w64 (p1.Pc + 1)), .slice pa0 (List.length p1.Regs) pc0, .slice pa1 (List.length p1.Mem) pc1, .slice pa2 (List.length p1.Stack) pc2, .int .i64 p1.In, .slice pa3 (List.length p1.Out) pc3, .int .i64 x2, .int .i64 (w64 (p1.Steps + 1))], SL (α := Int) 3 (.slice pa0 (List.length p1.Regs) pc0) x3, SL (α := Int) 3 (.slice pa1 (List.length p1.Mem) pc1) p1.Mem, SL (α := Int) 3 (.slice pa2 (List.length p1.Stack) pc2) p1.Stack, SL (α := Int) 3 (.slice pa3 (List.length p1.Out) pc3) p1.Out] w15 S13 := hs
    refine from_end rfl ?_
    refine blk_normal (then_normal ?_)
    refine wp_seq (wp_text' ?_)
    refine s_loadBoxS ty28 rfl rfl hF rfl (hs.bx 1 rfl) rfl rfl fun fr hF => ?_
    have hs : Sep [BX b3 28 [.int .i64 0, .slice none (List.length ([] : List Int)) 0, .slice none (List.length ([] : List Int)) 0, .slice none (List.length ([] : List Int)) 0, .int .i64 0, .slice none (List.length ([] : List Int)) 0, .int .i64 0, .int .i64 0], SL (α := Int) 3 (.slice pa0 (List.length p1.Regs) pc0) x3, SL (α := Int) 3 (.slice pa1 (List.length p1.Mem) pc1) p1.Mem, SL (α := Int) 3 (.slice pa2 (List.length p1.Stack) pc2) p1.Stack, SL (α := Int) 3 (.slice pa3 (List.length p1.Out) pc3) p1.Out] w15 S13 := Sep.pick [0, 2, 3, 4, 5] hs (by decide) rfl
    refine q_storeBoxS 0 hs hM0 rfl [.int .i64 (w64 (p1.Pc + 1)), .slice pa0 (List.length p1.Regs) pc0, .slice pa1 (List.length p1.Mem) pc1, .slice pa2 (List.length p1.Stack) pc2, .int .i64 p1.In, .slice pa3 (List.length p1.Out) pc3, .int .i64 x2, .int .i64 (w64 (p1.Steps + 1))] rfl hF rfl rfl (by kernel_rfl) rfl rfl rfl fun w16 S14 hs hp hF => ?_
    have hM0 := hM0.stp hp
    have hs : Sep [BX b3 28 [.int .i64 (w64 (p1.Pc + 1)), .slice pa0 (List.length p1.Regs) pc0, .slice pa1 (List.length p1.Mem) pc1, .slice pa2 (List.length p1.Stack) pc2, .int .i64 p1.In, .slice pa3 (List.length p1.Out) pc3, .int .i64 x2, .int .i64 (w64 (p1.Steps + 1))], SL (α := Int) 3 (.slice pa0 (List.length p1.Regs) pc0) x3, SL (α := Int) 3 (.slice pa1 (List.length p1.Mem) pc1) p1.Mem, SL (α := Int) 3 (.slice pa2 (List.length p1.Stack) pc2) p1.Stack, SL (α := Int) 3 (.slice pa3 (List.length p1.Out) pc3) p1.Out] w16 S14 := hs
    refine from_end rfl (then_normal ?_)
    have hbr := (hs.bx 0 rfl)
    obtain rfl := Option.some.inj h
    have hs : Sep [SL (α := Int) 3 (.slice pa0 (List.length p1.Regs) pc0) x3, SL (α := Int) 3 (.slice pa1 (List.length p1.Mem) pc1) p1.Mem, SL (α := Int) 3 (.slice pa2 (List.length p1.Stack) pc2) p1.Stack, SL (α := Int) 3 (.slice pa3 (List.length p1.Out) pc3) p1.Out] w16 S14 := Sep.pick [1, 2, 3, 4] hs (by decide) rfl
    obtain ⟨he1, hs⟩ := hs.relen 0 rfl
    have hs : Sep [SL (α := Int) 3 (.slice pa0 (List.length x3) pc0) x3, SL (α := Int) 3 (.slice pa1 (List.length p1.Mem) pc1) p1.Mem, SL (α := Int) 3 (.slice pa2 (List.length p1.Stack) pc2) p1.Stack, SL (α := Int) 3 (.slice pa3 (List.length p1.Out) pc3) p1.Out] w16 S14 := hs
    exact wp_ret (retS rfl hF ty28 rfl rfl hbr rfl ⟨_, rfl, pa0, pc0, pa1, pc1, pa2, pc2, pa3, pc3, (by simp only [he1]), S14, hM0.out, hs⟩)
  replace h := iteF hb h
  refine wp_seq (wp_pure [(2, .slice a2 (List.length p2) c2), (3, .pointer (some ⟨b1, 0, none⟩)), (4, .pointer (some ⟨b2, 0, none⟩)), (6, .pointer (some ⟨b3, 0, none⟩)), (7, .pointer (some ⟨b4, 0, none⟩)), (50, .int .i64 x1.Op), (60, .bool (x1.Op == 2))] hF (by kernel_rfl) fun fr hF => then_normal ?_)
  refine (wp_if hF (b := (x1.Op == 2)) rfl (fun hb => ?_) (fun hb => ?_))
  · replace h := iteT hb h
    have hs : Sep [BX b4 66 [.int .i64 x1.Op, .int .i64 x1.A, .int .i64 x1.B, .int .i64 x1.C], BX b3 28 [.int .i64 0, .slice none (List.length ([] : List Int)) 0, .slice none (List.length ([] : List Int)) 0, .slice none (List.length ([] : List Int)) 0, .int .i64 0, .slice none (List.length ([] : List Int)) 0, .int .i64 0, .int .i64 0], BX b2 28 [.int .i64 (w64 (p1.Pc + 1)), .slice pa0 (List.length p1.Regs) pc0, .slice pa1 (List.length p1.Mem) pc1, .slice pa2 (List.length p1.Stack) pc2, .int .i64 p1.In, .slice pa3 (List.length p1.Out) pc3, .int .i64 x2, .int .i64 (w64 (p1.Steps + 1))], SL (α := Int) 3 (.slice pa0 (List.length p1.Regs) pc0) p1.Regs, SL (α := Int) 3 (.slice pa1 (List.length p1.Mem) pc1) p1.Mem, SL (α := Int) 3 (.slice pa2 (List.length p1.Stack) pc2) p1.Stack, SL (α := Int) 3 (.slice pa3 (List.length p1.Out) pc3) p1.Out] w14 S12 := Sep.pick [0, 1, 2, 4, 5, 6, 7] hs (by decide) rfl
    obtain ⟨x4, hx4, h⟩ := bindE h
    refine (region_bm 10 [0, 1, 0, 4, 0, 16, 0, 64, 240, 496, 1023, 2047] [true, false, true, false, true, false, true, false, false, false]
        [.eq (.pointer (some ⟨b2, 1, none⟩)), .eq (.slice pa0 (List.length p1.Regs) pc0), .eq (.pointer (some ⟨b4, 1, none⟩)), .eq (.int .i64 x1.A), .eq (.pointer (some ⟨b2, 1, none⟩)), .eq (.slice pa0 (List.length p1.Regs) pc0), .eq (.pointer (some ⟨b4, 2, none⟩)), .eq (.int .i64 x1.B), .is fun v w => ElemP w (fun k => k < w14.heap.size) v (x4 : Int), .eq (.int .i64 x4), .any, .any]
        [(4, .pointer (some ⟨b2, 0, none⟩)), (6, .pointer (some ⟨b3, 0, none⟩)), (63, .slice pa0 (List.length p1.Regs) pc0), (65, .int .i64 x1.A), (71, .int .i64 x4)] mix hF (by kernel_rfl) (by kernel_rfl) (by kernel_rfl) (by kernel_rfl) ⟨Pd.monoO_eq, Pd.monoO_eq, Pd.monoO_eq, Pd.monoO_eq, (Pd.monoO_is mono_elem), Pd.monoO_eq, trivial⟩ (fun ow hG => ⟨np_to ow (np_loadBox hG hF ty26 rfl rfl (hs.bx 2 rfl) rfl rfl rfl), np_to ow (np_loadBox hG hF ty3 rfl rfl (hs.bx 0 rfl) rfl rfl rfl), np_to ow (np_loadBox hG hF ty26 rfl rfl (hs.bx 2 rfl) rfl rfl rfl), np_to ow (np_loadBox hG hF ty3 rfl rfl (hs.bx 0 rfl) rfl rfl rfl), np_to ow (np_index hG hF ty3 Try.underlying26 rfl rfl (RV.sub (hs.rv 3 rfl) fun k hk _ => hk) rfl rfl (fun hg => ⟨get?_nn hx4, get?_at hx4⟩)), np_to ow (np_loadF (z := x4) (i := 8) hG hF ty3 rfl rfl rfl rfl rfl rfl rfl), trivial⟩) (by kernel_rfl) fun ow fr w17 hF hE hc => ?_)
    have hs := hs.ext hc
    have hM0 := hM0.ext hc
    have hs : Sep [BX b3 28 [.int .i64 0, .slice none (List.length ([] : List Int)) 0, .slice none (List.length ([] : List Int)) 0, .slice none (List.length ([] : List Int)) 0, .int .i64 0, .slice none (List.length ([] : List Int)) 0, .int .i64 0, .int .i64 0], BX b2 28 [.int .i64 (w64 (p1.Pc + 1)), .slice pa0 (List.length p1.Regs) pc0, .slice pa1 (List.length p1.Mem) pc1, .slice pa2 (List.length p1.Stack) pc2, .int .i64 p1.In, .slice pa3 (List.length p1.Out) pc3, .int .i64 x2, .int .i64 (w64 (p1.Steps + 1))], SL (α := Int) 3 (.slice pa0 (List.length p1.Regs) pc0) p1.Regs, SL (α := Int) 3 (.slice pa1 (List.length p1.Mem) pc1) p1.Mem, SL (α := Int) 3 (.slice pa2 (List.length p1.Stack) pc2) p1.Stack, SL (α := Int) 3 (.slice pa3 (List.length p1.Out) pc3) p1.Out] w17 S12 := Sep.pick [1, 2, 3, 4, 5, 6] hs (by decide) rfl
    obtain ⟨x5, hx5, h⟩ := bindE h
    refine q_set (q := x4) 2 hs hM0 rfl Try.underlying26 ty3 rfl rfl rfl rfl hF rfl rfl (by simp) rfl rfl hx5 fun w18 S15 fr _ hs hp hF => ?_
    have hM0 := hM0.stp hp
    have hs : Sep [BX b3 28 [.int .i64 0, .slice none (List.length ([] : List Int)) 0, .slice none (List.length ([] : List Int)) 0, .slice none (List.length ([] : List Int)) 0, .int .i64 0, .slice none (List.length ([] : List Int)) 0, .int .i64 0, .int .i64 0], BX b2 28 [.int .i64 (w64 (p1.Pc + 1)), .slice pa0 (List.length p1.Regs) pc0, .slice pa1 (List.length p1.Mem) pc1, .slice pa2 (List.length p1.Stack) pc2, .int .i64 p1.In, .slice pa3 (List.length p1.Out) pc3, .int .i64 x2, .int .i64 (w64 (p1.Steps + 1))], SL (α := Int) 3 (.slice pa0 (List.length p1.Regs) pc0) x5, SL (α := Int) 3 (.slice pa1 (List.length p1.Mem) pc1) p1.Mem, SL (α := Int) 3 (.slice pa2 (List.length p1.Stack) pc2) p1.Stack, SL (α := Int) 3 (.slice pa3 (List.length p1.Out) pc3) p1.Out] w18 S15 := hs
    refine from_end rfl ?_
    refine blk_normal (then_normal ?_)
    refine wp_seq (wp_text' ?_)
    refine s_loadBoxS ty28 rfl rfl hF rfl (hs.bx 1 rfl) rfl rfl fun fr hF => ?_
    have hs : Sep [BX b3 28 [.int .i64 0, .slice none (List.length ([] : List Int)) 0, .slice none (List.length ([] : List Int)) 0, .slice none (List.length ([] : List Int)) 0, .int .i64 0, .slice none (List.length ([] : List Int)) 0, .int .i64 0, .int .i64 0], SL (α := Int) 3 (.slice pa0 (List.length p1.Regs) pc0) x5, SL (α := Int) 3 (.slice pa1 (List.length p1.Mem) pc1) p1.Mem, SL (α := Int) 3 (.slice pa2 (List.length p1.Stack) pc2) p1.Stack, SL (α := Int) 3 (.slice pa3 (List.length p1.Out) pc3) p1.Out] w18 S15 := Sep.pick [0, 2, 3, 4, 5] hs (by decide) rfl
    refine q_storeBoxS 0 hs hM0 rfl [.int .i64 (w64 (p1.Pc + 1)), .slice pa0 (List.length p1.Regs) pc0, .slice pa1 (List.length p1.Mem) pc1, .slice pa2 (List.length p1.Stack) pc2, .int .i64 p1.In, .slice pa3 (List.length p1.Out) pc3, .int .i64 x2, .int .i64 (w64 (p1.Steps + 1))] rfl hF rfl rfl (by kernel_rfl) rfl rfl rfl fun w19 S16 hs hp hF => ?_
    have hM0 := hM0.stp hp
    have hs : Sep [BX b3 28 [.int .i64 (w64 (p1.Pc + 1)), .slice pa0 (List.length p1.Regs) pc0, .slice pa1 (List.length p1.Mem) pc1, .slice pa2 (List.length p1.Stack) pc2, .int .i64 p1.In, .slice pa3 (List.length p1.Out) pc3, .int .i64 x2, .int .i64 (w64 (p1.Steps + 1))], SL (α := Int) 3 (.slice pa0 (List.length p1.Regs) pc0) x5, SL (α := Int) 3 (.slice pa1 (List.length p1.Mem) pc1) p1.Mem, SL (α := Int) 3 (.slice pa2 (List.length p1.Stack) pc2) p1.Stack, SL (α := Int) 3 (.slice pa3 (List.length p1.Out) pc3) p1.Out] w19 S16 := hs
    refine from_end rfl (then_normal ?_)
    have hbr := (hs.bx 0 rfl)
    obtain rfl := Option.some.inj h
    have hs : Sep [SL (α := Int) 3 (.slice pa0 (List.length p1.Regs) pc0) x5, SL (α := Int) 3 (.slice pa1 (List.length p1.Mem) pc1) p1.Mem, SL (α := Int) 3 (.slice pa2 (List.length p1.Stack) pc2) p1.Stack, SL (α := Int) 3 (.slice pa3 (List.length p1.Out) pc3) p1.Out] w19 S16 := Sep.pick [1, 2, 3, 4] hs (by decide) rfl
    obtain ⟨he2, hs⟩ := hs.relen 0 rfl
    have hs : Sep [SL (α := Int) 3 (.slice pa0 (List.length x5) pc0) x5, SL (α := Int) 3 (.slice pa1 (List.length p1.Mem) pc1) p1.Mem, SL (α := Int) 3 (.slice pa2 (List.length p1.Stack) pc2) p1.Stack, SL (α := Int) 3 (.slice pa3 (List.length p1.Out) pc3) p1.Out] w19 S16 := hs
    exact wp_ret (retS rfl hF ty28 rfl rfl hbr rfl ⟨_, rfl, pa0, pc0, pa1, pc1, pa2, pc2, pa3, pc3, (by simp only [he2]), S16, hM0.out, hs⟩)
  replace h := iteF hb h
  refine wp_seq (wp_pure [(2, .slice a2 (List.length p2) c2), (3, .pointer (some ⟨b1, 0, none⟩)), (4, .pointer (some ⟨b2, 0, none⟩)), (6, .pointer (some ⟨b3, 0, none⟩)), (7, .pointer (some ⟨b4, 0, none⟩)), (50, .int .i64 x1.Op), (73, .bool (x1.Op == 3))] hF (by kernel_rfl) fun fr hF => then_normal ?_)
  refine (wp_if hF (b := (x1.Op == 3)) rfl (fun hb => ?_) (fun hb => ?_))
  · replace h := iteT hb h
    obtain ⟨x6, hx6, h⟩ := bindE h
    obtain ⟨x7, hx7, h⟩ := bindE h
    obtain ⟨x8, hx8, h⟩ := bindE h
    refine (region_bm 21 [0, 1, 0, 4, 0, 16, 0, 64, 0, 256, 0, 1024, 3840, 7936, 0, 16384, 0, 65536, 245760, 507904, 1048560, 2097151, 4194303] [true, false, true, false, true, false, true, false, true, false, true, false, false, false, true, false, true, false, false, false, false]
        [.eq (.pointer (some ⟨b2, 1, none⟩)), .eq (.slice pa0 (List.length p1.Regs) pc0), .eq (.pointer (some ⟨b4, 1, none⟩)), .eq (.int .i64 x1.A), .eq (.pointer (some ⟨b4, 3, none⟩)), .eq (.int .i64 x1.C), .eq (.pointer (some ⟨b1, 0, none⟩)), .eq (.int .i64 p0.W), .eq (.pointer (some ⟨b2, 1, none⟩)), .eq (.slice pa0 (List.length p1.Regs) pc0), .eq (.pointer (some ⟨b4, 1, none⟩)), .eq (.int .i64 x1.A), .is fun v w => ElemP w (fun k => k < w14.heap.size) v (x6 : Int), .eq (.int .i64 x6), .eq (.pointer (some ⟨b2, 1, none⟩)), .eq (.slice pa0 (List.length p1.Regs) pc0), .eq (.pointer (some ⟨b4, 2, none⟩)), .eq (.int .i64 x1.B), .is fun v w => ElemP w (fun k => k < w14.heap.size) v (x7 : Int), .eq (.int .i64 x7), .eq (.int .i64 x8), .any, .any]
        [(4, .pointer (some ⟨b2, 0, none⟩)), (6, .pointer (some ⟨b3, 0, none⟩)), (76, .slice pa0 (List.length p1.Regs) pc0), (78, .int .i64 x1.A), (95, .int .i64 x8)] mix hF (by kernel_rfl) (by kernel_rfl) (by kernel_rfl) (by kernel_rfl) ⟨Pd.monoO_eq, Pd.monoO_eq, Pd.monoO_eq, Pd.monoO_eq, Pd.monoO_eq, Pd.monoO_eq, (Pd.monoO_is mono_elem), Pd.monoO_eq, Pd.monoO_eq, Pd.monoO_eq, (Pd.monoO_is mono_elem), Pd.monoO_eq, Pd.monoO_eq, trivial⟩ (fun ow hG => ⟨np_to ow (np_loadBox hG hF ty26 rfl rfl (hs.bx 2 rfl) rfl rfl rfl), np_to ow (np_loadBox hG hF ty3 rfl rfl (hs.bx 0 rfl) rfl rfl rfl), np_to ow (np_loadBox hG hF ty3 rfl rfl (hs.bx 0 rfl) rfl rfl rfl), np_to ow (np_loadBox hG hF ty3 rfl rfl (hs.bx 3 rfl) rfl rfl rfl), np_to ow (np_loadBox hG hF ty26 rfl rfl (hs.bx 2 rfl) rfl rfl rfl), np_to ow (np_loadBox hG hF ty3 rfl rfl (hs.bx 0 rfl) rfl rfl rfl), np_to ow (np_index hG hF ty3 Try.underlying26 rfl rfl (RV.sub (hs.rv 4 rfl) fun k hk _ => hk) rfl rfl (fun hg => ⟨get?_nn hx6, get?_at hx6⟩)), np_to ow (np_loadF (z := x6) (i := 12) hG hF ty3 rfl rfl rfl rfl rfl rfl rfl), np_to ow (np_loadBox hG hF ty26 rfl rfl (hs.bx 2 rfl) rfl rfl rfl), np_to ow (np_loadBox hG hF ty3 rfl rfl (hs.bx 0 rfl) rfl rfl rfl), np_to ow (np_index hG hF ty3 Try.underlying26 rfl rfl (RV.sub (hs.rv 4 rfl) fun k hk _ => hk) rfl rfl (fun hg => ⟨get?_nn hx7, get?_at hx7⟩)), np_to ow (np_loadF (z := x7) (i := 18) hG hF ty3 rfl rfl rfl rfl rfl rfl rfl), np_to ow (np_call [.int .i64 x1.C, .int .i64 p0.W, .int .i64 x6, .int .i64 x7] hG hF Try.call66 rfl rfl (fun w hC hg => (spec_ApplyBinary_ok x1.C p0.W x6 x7 hx8).mono fun e w' ⟨v, he, hv, hc⟩ => ⟨v, he, hc, hv⟩)), trivial⟩) (by kernel_rfl) fun ow fr w20 hF hE hc => ?_)
    have r1 := r1.ext hc
    have hs := hs.ext hc
    have hM0 := hM0.ext hc
    have hs : Sep [BX b3 28 [.int .i64 0, .slice none (List.length ([] : List Int)) 0, .slice none (List.length ([] : List Int)) 0, .slice none (List.length ([] : List Int)) 0, .int .i64 0, .slice none (List.length ([] : List Int)) 0, .int .i64 0, .int .i64 0], BX b2 28 [.int .i64 (w64 (p1.Pc + 1)), .slice pa0 (List.length p1.Regs) pc0, .slice pa1 (List.length p1.Mem) pc1, .slice pa2 (List.length p1.Stack) pc2, .int .i64 p1.In, .slice pa3 (List.length p1.Out) pc3, .int .i64 x2, .int .i64 (w64 (p1.Steps + 1))], SL (α := Int) 3 (.slice pa0 (List.length p1.Regs) pc0) p1.Regs, SL (α := Int) 3 (.slice pa1 (List.length p1.Mem) pc1) p1.Mem, SL (α := Int) 3 (.slice pa2 (List.length p1.Stack) pc2) p1.Stack, SL (α := Int) 3 (.slice pa3 (List.length p1.Out) pc3) p1.Out] w20 S12 := Sep.pick [1, 2, 4, 5, 6, 7] hs (by decide) rfl
    obtain ⟨x9, hx9, h⟩ := bindE h
    refine q_set (q := x8) 2 hs hM0 rfl Try.underlying26 ty3 rfl rfl rfl rfl hF rfl rfl (by simp) rfl rfl hx9 fun w21 S17 fr _ hs hp hF => ?_
    have hM0 := hM0.stp hp
    have hs : Sep [BX b3 28 [.int .i64 0, .slice none (List.length ([] : List Int)) 0, .slice none (List.length ([] : List Int)) 0, .slice none (List.length ([] : List Int)) 0, .int .i64 0, .slice none (List.length ([] : List Int)) 0, .int .i64 0, .int .i64 0], BX b2 28 [.int .i64 (w64 (p1.Pc + 1)), .slice pa0 (List.length p1.Regs) pc0, .slice pa1 (List.length p1.Mem) pc1, .slice pa2 (List.length p1.Stack) pc2, .int .i64 p1.In, .slice pa3 (List.length p1.Out) pc3, .int .i64 x2, .int .i64 (w64 (p1.Steps + 1))], SL (α := Int) 3 (.slice pa0 (List.length p1.Regs) pc0) x9, SL (α := Int) 3 (.slice pa1 (List.length p1.Mem) pc1) p1.Mem, SL (α := Int) 3 (.slice pa2 (List.length p1.Stack) pc2) p1.Stack, SL (α := Int) 3 (.slice pa3 (List.length p1.Out) pc3) p1.Out] w21 S17 := hs
    refine from_end rfl ?_
    refine blk_normal (then_normal ?_)
    refine wp_seq (wp_text' ?_)
    refine s_loadBoxS ty28 rfl rfl hF rfl (hs.bx 1 rfl) rfl rfl fun fr hF => ?_
    have hs : Sep [BX b3 28 [.int .i64 0, .slice none (List.length ([] : List Int)) 0, .slice none (List.length ([] : List Int)) 0, .slice none (List.length ([] : List Int)) 0, .int .i64 0, .slice none (List.length ([] : List Int)) 0, .int .i64 0, .int .i64 0], SL (α := Int) 3 (.slice pa0 (List.length p1.Regs) pc0) x9, SL (α := Int) 3 (.slice pa1 (List.length p1.Mem) pc1) p1.Mem, SL (α := Int) 3 (.slice pa2 (List.length p1.Stack) pc2) p1.Stack, SL (α := Int) 3 (.slice pa3 (List.length p1.Out) pc3) p1.Out] w21 S17 := Sep.pick [0, 2, 3, 4, 5] hs (by decide) rfl
    refine q_storeBoxS 0 hs hM0 rfl [.int .i64 (w64 (p1.Pc + 1)), .slice pa0 (List.length p1.Regs) pc0, .slice pa1 (List.length p1.Mem) pc1, .slice pa2 (List.length p1.Stack) pc2, .int .i64 p1.In, .slice pa3 (List.length p1.Out) pc3, .int .i64 x2, .int .i64 (w64 (p1.Steps + 1))] rfl hF rfl rfl (by kernel_rfl) rfl rfl rfl fun w22 S18 hs hp hF => ?_
    have hM0 := hM0.stp hp
    have hs : Sep [BX b3 28 [.int .i64 (w64 (p1.Pc + 1)), .slice pa0 (List.length p1.Regs) pc0, .slice pa1 (List.length p1.Mem) pc1, .slice pa2 (List.length p1.Stack) pc2, .int .i64 p1.In, .slice pa3 (List.length p1.Out) pc3, .int .i64 x2, .int .i64 (w64 (p1.Steps + 1))], SL (α := Int) 3 (.slice pa0 (List.length p1.Regs) pc0) x9, SL (α := Int) 3 (.slice pa1 (List.length p1.Mem) pc1) p1.Mem, SL (α := Int) 3 (.slice pa2 (List.length p1.Stack) pc2) p1.Stack, SL (α := Int) 3 (.slice pa3 (List.length p1.Out) pc3) p1.Out] w22 S18 := hs
    refine from_end rfl (then_normal ?_)
    have hbr := (hs.bx 0 rfl)
    obtain rfl := Option.some.inj h
    have hs : Sep [SL (α := Int) 3 (.slice pa0 (List.length p1.Regs) pc0) x9, SL (α := Int) 3 (.slice pa1 (List.length p1.Mem) pc1) p1.Mem, SL (α := Int) 3 (.slice pa2 (List.length p1.Stack) pc2) p1.Stack, SL (α := Int) 3 (.slice pa3 (List.length p1.Out) pc3) p1.Out] w22 S18 := Sep.pick [1, 2, 3, 4] hs (by decide) rfl
    obtain ⟨he3, hs⟩ := hs.relen 0 rfl
    have hs : Sep [SL (α := Int) 3 (.slice pa0 (List.length x9) pc0) x9, SL (α := Int) 3 (.slice pa1 (List.length p1.Mem) pc1) p1.Mem, SL (α := Int) 3 (.slice pa2 (List.length p1.Stack) pc2) p1.Stack, SL (α := Int) 3 (.slice pa3 (List.length p1.Out) pc3) p1.Out] w22 S18 := hs
    exact wp_ret (retS rfl hF ty28 rfl rfl hbr rfl ⟨_, rfl, pa0, pc0, pa1, pc1, pa2, pc2, pa3, pc3, (by simp only [he3]), S18, hM0.out, hs⟩)
  replace h := iteF hb h
  refine wp_seq (wp_pure [(2, .slice a2 (List.length p2) c2), (3, .pointer (some ⟨b1, 0, none⟩)), (4, .pointer (some ⟨b2, 0, none⟩)), (6, .pointer (some ⟨b3, 0, none⟩)), (7, .pointer (some ⟨b4, 0, none⟩)), (50, .int .i64 x1.Op), (97, .bool (x1.Op == 4))] hF (by kernel_rfl) fun fr hF => then_normal ?_)
  refine (wp_if hF (b := (x1.Op == 4)) rfl (fun hb => ?_) (fun hb => ?_))
  · replace h := iteT hb h
    obtain ⟨x10, hx10, h⟩ := bindE h
    obtain ⟨x11, hx11, h⟩ := bindE h
    refine (region_bm 13 [0, 1, 0, 4, 0, 16, 0, 64, 0, 256, 960, 1984, 4080, 8191, 16383] [true, false, true, false, true, false, true, false, true, false, false, false, false]
        [.eq (.pointer (some ⟨b2, 1, none⟩)), .eq (.slice pa0 (List.length p1.Regs) pc0), .eq (.pointer (some ⟨b4, 1, none⟩)), .eq (.int .i64 x1.A), .eq (.pointer (some ⟨b1, 0, none⟩)), .eq (.int .i64 p0.W), .eq (.pointer (some ⟨b2, 1, none⟩)), .eq (.slice pa0 (List.length p1.Regs) pc0), .eq (.pointer (some ⟨b4, 1, none⟩)), .eq (.int .i64 x1.A), .is fun v w => ElemP w (fun k => k < w14.heap.size) v (x10 : Int), .eq (.int .i64 x10), .eq (.int .i64 x11), .any, .any]
        [(4, .pointer (some ⟨b2, 0, none⟩)), (6, .pointer (some ⟨b3, 0, none⟩)), (100, .slice pa0 (List.length p1.Regs) pc0), (102, .int .i64 x1.A), (111, .int .i64 x11)] mix hF (by kernel_rfl) (by kernel_rfl) (by kernel_rfl) (by kernel_rfl) ⟨Pd.monoO_eq, Pd.monoO_eq, Pd.monoO_eq, Pd.monoO_eq, Pd.monoO_eq, (Pd.monoO_is mono_elem), Pd.monoO_eq, Pd.monoO_eq, trivial⟩ (fun ow hG => ⟨np_to ow (np_loadBox hG hF ty26 rfl rfl (hs.bx 2 rfl) rfl rfl rfl), np_to ow (np_loadBox hG hF ty3 rfl rfl (hs.bx 0 rfl) rfl rfl rfl), np_to ow (np_loadBox hG hF ty3 rfl rfl (hs.bx 3 rfl) rfl rfl rfl), np_to ow (np_loadBox hG hF ty26 rfl rfl (hs.bx 2 rfl) rfl rfl rfl), np_to ow (np_loadBox hG hF ty3 rfl rfl (hs.bx 0 rfl) rfl rfl rfl), np_to ow (np_index hG hF ty3 Try.underlying26 rfl rfl (RV.sub (hs.rv 4 rfl) fun k hk _ => hk) rfl rfl (fun hg => ⟨get?_nn hx10, get?_at hx10⟩)), np_to ow (np_loadF (z := x10) (i := 10) hG hF ty3 rfl rfl rfl rfl rfl rfl rfl), np_to ow (np_call [.int .i64 1, .int .i64 p0.W, .int .i64 x10] hG hF Try.call67 rfl rfl (fun w hC hg => (spec_ApplyUnary_ok 1 p0.W x10 hx11).mono fun e w' ⟨v, he, hv, hc⟩ => ⟨v, he, hc, hv⟩)), trivial⟩) (by kernel_rfl) fun ow fr w23 hF hE hc => ?_)
    have r1 := r1.ext hc
    have hs := hs.ext hc
    have hM0 := hM0.ext hc
    have hs : Sep [BX b3 28 [.int .i64 0, .slice none (List.length ([] : List Int)) 0, .slice none (List.length ([] : List Int)) 0, .slice none (List.length ([] : List Int)) 0, .int .i64 0, .slice none (List.length ([] : List Int)) 0, .int .i64 0, .int .i64 0], BX b2 28 [.int .i64 (w64 (p1.Pc + 1)), .slice pa0 (List.length p1.Regs) pc0, .slice pa1 (List.length p1.Mem) pc1, .slice pa2 (List.length p1.Stack) pc2, .int .i64 p1.In, .slice pa3 (List.length p1.Out) pc3, .int .i64 x2, .int .i64 (w64 (p1.Steps + 1))], SL (α := Int) 3 (.slice pa0 (List.length p1.Regs) pc0) p1.Regs, SL (α := Int) 3 (.slice pa1 (List.length p1.Mem) pc1) p1.Mem, SL (α := Int) 3 (.slice pa2 (List.length p1.Stack) pc2) p1.Stack, SL (α := Int) 3 (.slice pa3 (List.length p1.Out) pc3) p1.Out] w23 S12 := Sep.pick [1, 2, 4, 5, 6, 7] hs (by decide) rfl
    obtain ⟨x12, hx12, h⟩ := bindE h
    refine q_set (q := x11) 2 hs hM0 rfl Try.underlying26 ty3 rfl rfl rfl rfl hF rfl rfl (by simp) rfl rfl hx12 fun w24 S19 fr _ hs hp hF => ?_
    have hM0 := hM0.stp hp
    have hs : Sep [BX b3 28 [.int .i64 0, .slice none (List.length ([] : List Int)) 0, .slice none (List.length ([] : List Int)) 0, .slice none (List.length ([] : List Int)) 0, .int .i64 0, .slice none (List.length ([] : List Int)) 0, .int .i64 0, .int .i64 0], BX b2 28 [.int .i64 (w64 (p1.Pc + 1)), .slice pa0 (List.length p1.Regs) pc0, .slice pa1 (List.length p1.Mem) pc1, .slice pa2 (List.length p1.Stack) pc2, .int .i64 p1.In, .slice pa3 (List.length p1.Out) pc3, .int .i64 x2, .int .i64 (w64 (p1.Steps + 1))], SL (α := Int) 3 (.slice pa0 (List.length p1.Regs) pc0) x12, SL (α := Int) 3 (.slice pa1 (List.length p1.Mem) pc1) p1.Mem, SL (α := Int) 3 (.slice pa2 (List.length p1.Stack) pc2) p1.Stack, SL (α := Int) 3 (.slice pa3 (List.length p1.Out) pc3) p1.Out] w24 S19 := hs
    refine from_end rfl ?_
    refine blk_normal (then_normal ?_)
    refine wp_seq (wp_text' ?_)
    refine s_loadBoxS ty28 rfl rfl hF rfl (hs.bx 1 rfl) rfl rfl fun fr hF => ?_
    have hs : Sep [BX b3 28 [.int .i64 0, .slice none (List.length ([] : List Int)) 0, .slice none (List.length ([] : List Int)) 0, .slice none (List.length ([] : List Int)) 0, .int .i64 0, .slice none (List.length ([] : List Int)) 0, .int .i64 0, .int .i64 0], SL (α := Int) 3 (.slice pa0 (List.length p1.Regs) pc0) x12, SL (α := Int) 3 (.slice pa1 (List.length p1.Mem) pc1) p1.Mem, SL (α := Int) 3 (.slice pa2 (List.length p1.Stack) pc2) p1.Stack, SL (α := Int) 3 (.slice pa3 (List.length p1.Out) pc3) p1.Out] w24 S19 := Sep.pick [0, 2, 3, 4, 5] hs (by decide) rfl
    refine q_storeBoxS 0 hs hM0 rfl [.int .i64 (w64 (p1.Pc + 1)), .slice pa0 (List.length p1.Regs) pc0, .slice pa1 (List.length p1.Mem) pc1, .slice pa2 (List.length p1.Stack) pc2, .int .i64 p1.In, .slice pa3 (List.length p1.Out) pc3, .int .i64 x2, .int .i64 (w64 (p1.Steps + 1))] rfl hF rfl rfl (by kernel_rfl) rfl rfl rfl fun w25 S20 hs hp hF => ?_
    have hM0 := hM0.stp hp
    have hs : Sep [BX b3 28 [.int .i64 (w64 (p1.Pc + 1)), .slice pa0 (List.length p1.Regs) pc0, .slice pa1 (List.length p1.Mem) pc1, .slice pa2 (List.length p1.Stack) pc2, .int .i64 p1.In, .slice pa3 (List.length p1.Out) pc3, .int .i64 x2, .int .i64 (w64 (p1.Steps + 1))], SL (α := Int) 3 (.slice pa0 (List.length p1.Regs) pc0) x12, SL (α := Int) 3 (.slice pa1 (List.length p1.Mem) pc1) p1.Mem, SL (α := Int) 3 (.slice pa2 (List.length p1.Stack) pc2) p1.Stack, SL (α := Int) 3 (.slice pa3 (List.length p1.Out) pc3) p1.Out] w25 S20 := hs
    refine from_end rfl (then_normal ?_)
    have hbr := (hs.bx 0 rfl)
    obtain rfl := Option.some.inj h
    have hs : Sep [SL (α := Int) 3 (.slice pa0 (List.length p1.Regs) pc0) x12, SL (α := Int) 3 (.slice pa1 (List.length p1.Mem) pc1) p1.Mem, SL (α := Int) 3 (.slice pa2 (List.length p1.Stack) pc2) p1.Stack, SL (α := Int) 3 (.slice pa3 (List.length p1.Out) pc3) p1.Out] w25 S20 := Sep.pick [1, 2, 3, 4] hs (by decide) rfl
    obtain ⟨he4, hs⟩ := hs.relen 0 rfl
    have hs : Sep [SL (α := Int) 3 (.slice pa0 (List.length x12) pc0) x12, SL (α := Int) 3 (.slice pa1 (List.length p1.Mem) pc1) p1.Mem, SL (α := Int) 3 (.slice pa2 (List.length p1.Stack) pc2) p1.Stack, SL (α := Int) 3 (.slice pa3 (List.length p1.Out) pc3) p1.Out] w25 S20 := hs
    exact wp_ret (retS rfl hF ty28 rfl rfl hbr rfl ⟨_, rfl, pa0, pc0, pa1, pc1, pa2, pc2, pa3, pc3, (by simp only [he4]), S20, hM0.out, hs⟩)
  replace h := iteF hb h
  have hs : Sep [BX b4 66 [.int .i64 x1.Op, .int .i64 x1.A, .int .i64 x1.B, .int .i64 x1.C], BX b3 28 [.int .i64 0, .slice none (List.length ([] : List Int)) 0, .slice none (List.length ([] : List Int)) 0, .slice none (List.length ([] : List Int)) 0, .int .i64 0, .slice none (List.length ([] : List Int)) 0, .int .i64 0, .int .i64 0], BX b2 28 [.int .i64 (w64 (p1.Pc + 1)), .slice pa0 (List.length p1.Regs) pc0, .slice pa1 (List.length p1.Mem) pc1, .slice pa2 (List.length p1.Stack) pc2, .int .i64 p1.In, .slice pa3 (List.length p1.Out) pc3, .int .i64 x2, .int .i64 (w64 (p1.Steps + 1))], SL (α := Int) 3 (.slice pa0 (List.length p1.Regs) pc0) p1.Regs, SL (α := Int) 3 (.slice pa1 (List.length p1.Mem) pc1) p1.Mem, SL (α := Int) 3 (.slice pa2 (List.length p1.Stack) pc2) p1.Stack, SL (α := Int) 3 (.slice pa3 (List.length p1.Out) pc3) p1.Out] w14 S12 := Sep.pick [0, 1, 2, 4, 5, 6, 7] hs (by decide) rfl
  refine wp_seq (wp_pure [(2, .slice a2 (List.length p2) c2), (4, .pointer (some ⟨b2, 0, none⟩)), (6, .pointer (some ⟨b3, 0, none⟩)), (7, .pointer (some ⟨b4, 0, none⟩)), (50, .int .i64 x1.Op), (113, .bool (x1.Op == 5))] hF (by kernel_rfl) fun fr hF => then_normal ?_)
  refine (wp_if hF (b := (x1.Op == 5)) rfl (fun hb => ?_) (fun hb => ?_))
  · replace h := iteT hb h
    obtain ⟨x13, hx13, h⟩ := bindE h
    refine wp_seq (region_bm 9 [0, 1, 0, 4, 0, 0, 32, 112, 240, 511, 1023] [true, false, true, false, true, true, false, false, false]
        [.eq (.pointer (some ⟨b2, 1, none⟩)), .eq (.slice pa0 (List.length p1.Regs) pc0), .eq (.pointer (some ⟨b4, 1, none⟩)), .eq (.int .i64 x1.A), .eq (.slice a2 (List.length p2) c2), .eq (.pointer (some ⟨b2, 4, none⟩)), .eq (.int .i64 p1.In), .is fun v w => ElemP w (fun k => k < w14.heap.size) v (x13 : Int), .eq (.int .i64 x13), .any, .any]
        [(4, .pointer (some ⟨b2, 0, none⟩)), (6, .pointer (some ⟨b3, 0, none⟩)), (116, .slice pa0 (List.length p1.Regs) pc0), (118, .int .i64 x1.A), (123, .int .i64 x13)] mix hF (by kernel_rfl) (by kernel_rfl) (by kernel_rfl) (by kernel_rfl) ⟨Pd.monoO_eq, Pd.monoO_eq, Pd.monoO_eq, (Pd.monoO_is mono_elem), Pd.monoO_eq, trivial⟩ (fun ow hG => ⟨np_to ow (np_loadBox hG hF ty26 rfl rfl (hs.bx 2 rfl) rfl rfl rfl), np_to ow (np_loadBox hG hF ty3 rfl rfl (hs.bx 0 rfl) rfl rfl rfl), np_to ow (np_loadBox hG hF ty3 rfl rfl (hs.bx 2 rfl) rfl rfl rfl), np_to ow (np_index hG hF ty3 Try.underlying26 rfl rfl (RV.sub (ra2) fun k hk _ => hk) rfl rfl (fun hg => ⟨get?_nn hx13, get?_at hx13⟩)), np_to ow (np_loadF (z := x13) (i := 7) hG hF ty3 rfl rfl rfl rfl rfl rfl rfl), trivial⟩) (by kernel_rfl) fun ow fr w26 hF hE hc => ?_)
    have ra2 := ra2.ext hc
    have hs := hs.ext hc
    have hM0 := hM0.ext hc
    have hs : Sep [BX b3 28 [.int .i64 0, .slice none (List.length ([] : List Int)) 0, .slice none (List.length ([] : List Int)) 0, .slice none (List.length ([] : List Int)) 0, .int .i64 0, .slice none (List.length ([] : List Int)) 0, .int .i64 0, .int .i64 0], BX b2 28 [.int .i64 (w64 (p1.Pc + 1)), .slice pa0 (List.length p1.Regs) pc0, .slice pa1 (List.length p1.Mem) pc1, .slice pa2 (List.length p1.Stack) pc2, .int .i64 p1.In, .slice pa3 (List.length p1.Out) pc3, .int .i64 x2, .int .i64 (w64 (p1.Steps + 1))], SL (α := Int) 3 (.slice pa0 (List.length p1.Regs) pc0) p1.Regs, SL (α := Int) 3 (.slice pa1 (List.length p1.Mem) pc1) p1.Mem, SL (α := Int) 3 (.slice pa2 (List.length p1.Stack) pc2) p1.Stack, SL (α := Int) 3 (.slice pa3 (List.length p1.Out) pc3) p1.Out] w26 S12 := Sep.pick [1, 2, 3, 4, 5, 6] hs (by decide) rfl
    obtain ⟨x14, hx14, h⟩ := bindE h
    refine q_set (q := x13) 2 hs hM0 rfl Try.underlying26 ty3 rfl rfl rfl rfl hF rfl rfl (by simp) rfl rfl hx14 fun w27 S21 fr _ hs hp hF => ?_
    have hM0 := hM0.stp hp
    have hs : Sep [BX b3 28 [.int .i64 0, .slice none (List.length ([] : List Int)) 0, .slice none (List.length ([] : List Int)) 0, .slice none (List.length ([] : List Int)) 0, .int .i64 0, .slice none (List.length ([] : List Int)) 0, .int .i64 0, .int .i64 0], BX b2 28 [.int .i64 (w64 (p1.Pc + 1)), .slice pa0 (List.length p1.Regs) pc0, .slice pa1 (List.length p1.Mem) pc1, .slice pa2 (List.length p1.Stack) pc2, .int .i64 p1.In, .slice pa3 (List.length p1.Out) pc3, .int .i64 x2, .int .i64 (w64 (p1.Steps + 1))], SL (α := Int) 3 (.slice pa0 (List.length p1.Regs) pc0) x14, SL (α := Int) 3 (.slice pa1 (List.length p1.Mem) pc1) p1.Mem, SL (α := Int) 3 (.slice pa2 (List.length p1.Stack) pc2) p1.Stack, SL (α := Int) 3 (.slice pa3 (List.length p1.Out) pc3) p1.Out] w27 S21 := hs
    refine from_end rfl (then_normal ?_)
    refine (wp_text' ?_)
    refine from_pure 1 [(4, .pointer (some ⟨b2, 0, none⟩)), (6, .pointer (some ⟨b3, 0, none⟩)), (125, .pointer (some ⟨b2, 4, none⟩))] hF (by kernel_rfl) fun fr hF => ?_
    refine s_loadBox (.int .i64 p1.In) ty3 rfl rfl hF rfl (hs.bx 1 rfl) rfl rfl fun fr hF => ?_
    refine from_pure 2 [(4, .pointer (some ⟨b2, 0, none⟩)), (6, .pointer (some ⟨b3, 0, none⟩)), (127, .int .i64 (w64 (p1.In + 1))), (128, .pointer (some ⟨b2, 4, none⟩))] hF (by kernel_rfl) fun fr hF => ?_
    refine q_storeBox 1 hs hM0 rfl [.int .i64 (w64 (p1.Pc + 1)), .slice pa0 (List.length p1.Regs) pc0, .slice pa1 (List.length p1.Mem) pc1, .slice pa2 (List.length p1.Stack) pc2, .int .i64 (w64 (p1.In + 1)), .slice pa3 (List.length p1.Out) pc3, .int .i64 x2, .int .i64 (w64 (p1.Steps + 1))] rfl hF rfl rfl (by kernel_rfl) rfl rfl rfl fun w28 S22 hs hp hF => ?_
    have hM0 := hM0.stp hp
    have hs : Sep [BX b3 28 [.int .i64 0, .slice none (List.length ([] : List Int)) 0, .slice none (List.length ([] : List Int)) 0, .slice none (List.length ([] : List Int)) 0, .int .i64 0, .slice none (List.length ([] : List Int)) 0, .int .i64 0, .int .i64 0], BX b2 28 [.int .i64 (w64 (p1.Pc + 1)), .slice pa0 (List.length p1.Regs) pc0, .slice pa1 (List.length p1.Mem) pc1, .slice pa2 (List.length p1.Stack) pc2, .int .i64 (w64 (p1.In + 1)), .slice pa3 (List.length p1.Out) pc3, .int .i64 x2, .int .i64 (w64 (p1.Steps + 1))], SL (α := Int) 3 (.slice pa0 (List.length p1.Regs) pc0) x14, SL (α := Int) 3 (.slice pa1 (List.length p1.Mem) pc1) p1.Mem, SL (α := Int) 3 (.slice pa2 (List.length p1.Stack) pc2) p1.Stack, SL (α := Int) 3 (.slice pa3 (List.length p1.Out) pc3) p1.Out] w28 S22 := hs
    refine from_end rfl ?_
    refine blk_normal (then_normal ?_)
    refine wp_seq (wp_text' ?_)
    refine s_loadBoxS ty28 rfl rfl hF rfl (hs.bx 1 rfl) rfl rfl fun fr hF => ?_
    have hs : Sep [BX b3 28 [.int .i64 0, .slice none (List.length ([] : List Int)) 0, .slice none (List.length ([] : List Int)) 0, .slice none (List.length ([] : List Int)) 0, .int .i64 0, .slice none (List.length ([] : List Int)) 0, .int .i64 0, .int .i64 0], SL (α := Int) 3 (.slice pa0 (List.length p1.Regs) pc0) x14, SL (α := Int) 3 (.slice pa1 (List.length p1.Mem) pc1) p1.Mem, SL (α := Int) 3 (.slice pa2 (List.length p1.Stack) pc2) p1.Stack, SL (α := Int) 3 (.slice pa3 (List.length p1.Out) pc3) p1.Out] w28 S22 := Sep.pick [0, 2, 3, 4, 5] hs (by decide) rfl
    refine q_storeBoxS 0 hs hM0 rfl [.int .i64 (w64 (p1.Pc + 1)), .slice pa0 (List.length p1.Regs) pc0, .slice pa1 (List.length p1.Mem) pc1, .slice pa2 (List.length p1.Stack) pc2, .int .i64 (w64 (p1.In + 1)), .slice pa3 (List.length p1.Out) pc3, .int .i64 x2, .int .i64 (w64 (p1.Steps + 1))] rfl hF rfl rfl (by kernel_rfl) rfl rfl rfl fun w29 S23 hs hp hF => ?_
    have hM0 := hM0.stp hp
    have hs : Sep [BX b3 28 [.int .i64 (w64 (p1.Pc + 1)), .slice pa0 (List.length p1.Regs) pc0, .slice pa1 (List.length p1.Mem) pc1, .slice pa2 (List.length p1.Stack) pc2, .int .i64 (w64 (p1.In + 1)), .slice pa3 (List.length p1.Out) pc3, .int .i64 x2, .int .i64 (w64 (p1.Steps + 1))], SL (α := Int) 3 (.slice pa0 (List.length p1.Regs) pc0) x14, SL (α := Int) 3 (.slice pa1 (List.length p1.Mem) pc1) p1.Mem, SL (α := Int) 3 (.slice pa2 (List.length p1.Stack) pc2) p1.Stack, SL (α := Int) 3 (.slice pa3 (List.length p1.Out) pc3) p1.Out] w29 S23 := hs
    refine from_end rfl (then_normal ?_)
    have hbr := (hs.bx 0 rfl)
    obtain rfl := Option.some.inj h
    have hs : Sep [SL (α := Int) 3 (.slice pa0 (List.length p1.Regs) pc0) x14, SL (α := Int) 3 (.slice pa1 (List.length p1.Mem) pc1) p1.Mem, SL (α := Int) 3 (.slice pa2 (List.length p1.Stack) pc2) p1.Stack, SL (α := Int) 3 (.slice pa3 (List.length p1.Out) pc3) p1.Out] w29 S23 := Sep.pick [1, 2, 3, 4] hs (by decide) rfl
    obtain ⟨he5, hs⟩ := hs.relen 0 rfl
    have hs : Sep [SL (α := Int) 3 (.slice pa0 (List.length x14) pc0) x14, SL (α := Int) 3 (.slice pa1 (List.length p1.Mem) pc1) p1.Mem, SL (α := Int) 3 (.slice pa2 (List.length p1.Stack) pc2) p1.Stack, SL (α := Int) 3 (.slice pa3 (List.length p1.Out) pc3) p1.Out] w29 S23 := hs
    exact wp_ret (retS rfl hF ty28 rfl rfl hbr rfl ⟨_, rfl, pa0, pc0, pa1, pc1, pa2, pc2, pa3, pc3, (by simp only [he5]), S23, hM0.out, hs⟩)
  replace h := iteF hb h
  refine wp_seq (wp_pure [(4, .pointer (some ⟨b2, 0, none⟩)), (6, .pointer (some ⟨b3, 0, none⟩)), (7, .pointer (some ⟨b4, 0, none⟩)), (50, .int .i64 x1.Op), (129, .bool (x1.Op == 6))] hF (by kernel_rfl) fun fr hF => then_normal ?_)
  refine (wp_if hF (b := (x1.Op == 6)) rfl (fun hb => ?_) (fun hb => ?_))
  · replace h := iteT hb h
    obtain ⟨x15, hx15, h⟩ := bindE h
    refine (region_bm 9 [0, 1, 0, 4, 0, 16, 60, 124, 252, 511, 1023, 2047] [true, false, true, false, true, false, false, false, false]
        [.eq (.pointer (some ⟨b2, 5, none⟩)), .eq (.slice pa3 (List.length p1.Out) pc3), .eq (.pointer (some ⟨b2, 1, none⟩)), .eq (.slice pa0 (List.length p1.Regs) pc0), .eq (.pointer (some ⟨b4, 1, none⟩)), .eq (.int .i64 x1.A), .is fun v w => ElemP w (fun k => k < w14.heap.size) v (x15 : Int), .eq (.int .i64 x15), .own fun ow v w => ∃ i : Option Addr × Nat, v = .slice i.1 (List.length ([x15] : List Int)) i.2 ∧ (SL (α := Int) 3 (.slice i.1 (List.length ([x15] : List Int)) i.2) ([x15] : List Int)).ok w (fun k => w14.heap.size ≤ k ∧ k < w.heap.size ∧ ow k = 8), .any, .any, .any]
        [(4, .pointer (some ⟨b2, 0, none⟩)), (6, .pointer (some ⟨b3, 0, none⟩)), (132, .slice pa3 (List.length p1.Out) pc3)] mix hF (by kernel_rfl) (by kernel_rfl) (by kernel_rfl) (by kernel_rfl) ⟨Pd.monoO_eq, Pd.monoO_eq, Pd.monoO_eq, (Pd.monoO_is mono_elem), Pd.monoO_eq, mono_new, trivial⟩ (fun ow hG => ⟨np_to ow (np_loadBox hG hF ty26 rfl rfl (hs.bx 2 rfl) rfl rfl rfl), np_to ow (np_loadBox hG hF ty26 rfl rfl (hs.bx 2 rfl) rfl rfl rfl), np_to ow (np_loadBox hG hF ty3 rfl rfl (hs.bx 0 rfl) rfl rfl rfl), np_to ow (np_index hG hF ty3 Try.underlying26 rfl rfl (RV.sub (hs.rv 3 rfl) fun k hk _ => hk) rfl rfl (fun hg => ⟨get?_nn hx15, get?_at hx15⟩)), np_to ow (np_loadF (z := x15) (i := 6) hG hF ty3 rfl rfl rfl rfl rfl rfl rfl), np_lit (E := 3) [.int .i64 x15] (([x15] : List Int).map Flat.enc) ([x15] : List Int) hG hF rfl [.int .i64 x15] rfl (fun w => by kernel_rfl) (fun w => css_flat _) rfl rfl rfl rfl, trivial⟩) (by kernel_rfl) fun ow fr w30 hF hE hc => ?_)
    obtain ⟨⟨a3, c3⟩, hv, hnw8⟩ := hE.is 139 8 rfl rfl
    have hF := hF.cons hv
    have hsN := sepO (w0 := w14) (ow := ow) [(8, SL (α := Int) 3 (.slice a3 (List.length ([x15] : List Int)) c3) ([x15] : List Int))] (show ([8] : List Nat).Nodup by decide) ⟨hnw8, trivial⟩ rfl
    obtain ⟨S24, hp, hs⟩ := hs.got hM0 (stp_new hc) hsN
    have hM0 := hM0.stp hp
    have hs : Sep [SL (α := Int) 3 (.slice a3 (List.length ([x15] : List Int)) c3) ([x15] : List Int), BX b4 66 [.int .i64 x1.Op, .int .i64 x1.A, .int .i64 x1.B, .int .i64 x1.C], BX b3 28 [.int .i64 0, .slice none (List.length ([] : List Int)) 0, .slice none (List.length ([] : List Int)) 0, .slice none (List.length ([] : List Int)) 0, .int .i64 0, .slice none (List.length ([] : List Int)) 0, .int .i64 0, .int .i64 0], BX b2 28 [.int .i64 (w64 (p1.Pc + 1)), .slice pa0 (List.length p1.Regs) pc0, .slice pa1 (List.length p1.Mem) pc1, .slice pa2 (List.length p1.Stack) pc2, .int .i64 p1.In, .slice pa3 (List.length p1.Out) pc3, .int .i64 x2, .int .i64 (w64 (p1.Steps + 1))], SL (α := Int) 3 (.slice pa0 (List.length p1.Regs) pc0) p1.Regs, SL (α := Int) 3 (.slice pa1 (List.length p1.Mem) pc1) p1.Mem, SL (α := Int) 3 (.slice pa2 (List.length p1.Stack) pc2) p1.Stack, SL (α := Int) 3 (.slice pa3 (List.length p1.Out) pc3) p1.Out] w30 S24 := hs
    have hs : Sep [SL (α := Int) 3 (.slice a3 (List.length ([x15] : List Int)) c3) ([x15] : List Int), BX b3 28 [.int .i64 0, .slice none (List.length ([] : List Int)) 0, .slice none (List.length ([] : List Int)) 0, .slice none (List.length ([] : List Int)) 0, .int .i64 0, .slice none (List.length ([] : List Int)) 0, .int .i64 0, .int .i64 0], BX b2 28 [.int .i64 (w64 (p1.Pc + 1)), .slice pa0 (List.length p1.Regs) pc0, .slice pa1 (List.length p1.Mem) pc1, .slice pa2 (List.length p1.Stack) pc2, .int .i64 p1.In, .slice pa3 (List.length p1.Out) pc3, .int .i64 x2, .int .i64 (w64 (p1.Steps + 1))], SL (α := Int) 3 (.slice pa0 (List.length p1.Regs) pc0) p1.Regs, SL (α := Int) 3 (.slice pa1 (List.length p1.Mem) pc1) p1.Mem, SL (α := Int) 3 (.slice pa2 (List.length p1.Stack) pc2) p1.Stack, SL (α := Int) 3 (.slice pa3 (List.length p1.Out) pc3) p1.Out] w30 S24 := Sep.pick [0, 2, 3, 4, 5, 6, 7] hs (by decide) rfl
    obtain ⟨x16, hx16, h⟩ := bindE h
    refine q_append 6 hs hM0 rfl Try.underlying26 el3 rfl rfl rfl hF rfl rfl (hs.rv 0 rfl) hx16 fun a4 c4 w31 S25 fr hs hp hF => ?_
    have hM0 := hM0.stp hp
    have hs : Sep [SL (α := Int) 3 (.slice a3 (List.length ([x15] : List Int)) c3) ([x15] : List Int), BX b3 28 [.int .i64 0, .slice none (List.length ([] : List Int)) 0, .slice none (List.length ([] : List Int)) 0, .slice none (List.length ([] : List Int)) 0, .int .i64 0, .slice none (List.length ([] : List Int)) 0, .int .i64 0, .int .i64 0], BX b2 28 [.int .i64 (w64 (p1.Pc + 1)), .slice pa0 (List.length p1.Regs) pc0, .slice pa1 (List.length p1.Mem) pc1, .slice pa2 (List.length p1.Stack) pc2, .int .i64 p1.In, .slice pa3 (List.length p1.Out) pc3, .int .i64 x2, .int .i64 (w64 (p1.Steps + 1))], SL (α := Int) 3 (.slice pa0 (List.length p1.Regs) pc0) p1.Regs, SL (α := Int) 3 (.slice pa1 (List.length p1.Mem) pc1) p1.Mem, SL (α := Int) 3 (.slice pa2 (List.length p1.Stack) pc2) p1.Stack, SL (α := Int) 3 (.slice a4 (List.length x16) c4) x16] w31 S25 := hs
    have hs : Sep [BX b3 28 [.int .i64 0, .slice none (List.length ([] : List Int)) 0, .slice none (List.length ([] : List Int)) 0, .slice none (List.length ([] : List Int)) 0, .int .i64 0, .slice none (List.length ([] : List Int)) 0, .int .i64 0, .int .i64 0], BX b2 28 [.int .i64 (w64 (p1.Pc + 1)), .slice pa0 (List.length p1.Regs) pc0, .slice pa1 (List.length p1.Mem) pc1, .slice pa2 (List.length p1.Stack) pc2, .int .i64 p1.In, .slice pa3 (List.length p1.Out) pc3, .int .i64 x2, .int .i64 (w64 (p1.Steps + 1))], SL (α := Int) 3 (.slice pa0 (List.length p1.Regs) pc0) p1.Regs, SL (α := Int) 3 (.slice pa1 (List.length p1.Mem) pc1) p1.Mem, SL (α := Int) 3 (.slice pa2 (List.length p1.Stack) pc2) p1.Stack, SL (α := Int) 3 (.slice a4 (List.length x16) c4) x16] w31 S25 := Sep.pick [1, 2, 3, 4, 5, 6] hs (by decide) rfl
    refine from_pure 1 [(4, .pointer (some ⟨b2, 0, none⟩)), (6, .pointer (some ⟨b3, 0, none⟩)), (140, .slice a4 (List.length x16) c4), (141, .pointer (some ⟨b2, 5, none⟩))] hF (by kernel_rfl) fun fr hF => ?_
    refine q_storeBox 1 hs hM0 rfl [.int .i64 (w64 (p1.Pc + 1)), .slice pa0 (List.length p1.Regs) pc0, .slice pa1 (List.length p1.Mem) pc1, .slice pa2 (List.length p1.Stack) pc2, .int .i64 p1.In, .slice a4 (List.length x16) c4, .int .i64 x2, .int .i64 (w64 (p1.Steps + 1))] rfl hF rfl rfl (by kernel_rfl) rfl rfl rfl fun w32 S26 hs hp hF => ?_
    have hM0 := hM0.stp hp
    have hs : Sep [BX b3 28 [.int .i64 0, .slice none (List.length ([] : List Int)) 0, .slice none (List.length ([] : List Int)) 0, .slice none (List.length ([] : List Int)) 0, .int .i64 0, .slice none (List.length ([] : List Int)) 0, .int .i64 0, .int .i64 0], BX b2 28 [.int .i64 (w64 (p1.Pc + 1)), .slice pa0 (List.length p1.Regs) pc0, .slice pa1 (List.length p1.Mem) pc1, .slice pa2 (List.length p1.Stack) pc2, .int .i64 p1.In, .slice a4 (List.length x16) c4, .int .i64 x2, .int .i64 (w64 (p1.Steps + 1))], SL (α := Int) 3 (.slice pa0 (List.length p1.Regs) pc0) p1.Regs, SL (α := Int) 3 (.slice pa1 (List.length p1.Mem) pc1) p1.Mem, SL (α := Int) 3 (.slice pa2 (List.length p1.Stack) pc2) p1.Stack, SL (α := Int) 3 (.slice a4 (List.length x16) c4) x16] w32 S26 := hs
    refine from_end rfl ?_
    refine blk_normal (then_normal ?_)
    refine wp_seq (wp_text' ?_)
    refine s_loadBoxS ty28 rfl rfl hF rfl (hs.bx 1 rfl) rfl rfl fun fr hF => ?_
    have hs : Sep [BX b3 28 [.int .i64 0, .slice none (List.length ([] : List Int)) 0, .slice none (List.length ([] : List Int)) 0, .slice none (List.length ([] : List Int)) 0, .int .i64 0, .slice none (List.length ([] : List Int)) 0, .int .i64 0, .int .i64 0], SL (α := Int) 3 (.slice pa0 (List.length p1.Regs) pc0) p1.Regs, SL (α := Int) 3 (.slice pa1 (List.length p1.Mem) pc1) p1.Mem, SL (α := Int) 3 (.slice pa2 (List.length p1.Stack) pc2) p1.Stack, SL (α := Int) 3 (.slice a4 (List.length x16) c4) x16] w32 S26 := Sep.pick [0, 2, 3, 4, 5] hs (by decide) rfl
    refine q_storeBoxS 0 hs hM0 rfl [.int .i64 (w64 (p1.Pc + 1)), .slice pa0 (List.length p1.Regs) pc0, .slice pa1 (List.length p1.Mem) pc1, .slice pa2 (List.length p1.Stack) pc2, .int .i64 p1.In, .slice a4 (List.length x16) c4, .int .i64 x2, .int .i64 (w64 (p1.Steps + 1))] rfl hF rfl rfl (by kernel_rfl) rfl rfl rfl fun w33 S27 hs hp hF => ?_
    have hM0 := hM0.stp hp
    have hs : Sep [BX b3 28 [.int .i64 (w64 (p1.Pc + 1)), .slice pa0 (List.length p1.Regs) pc0, .slice pa1 (List.length p1.Mem) pc1, .slice pa2 (List.length p1.Stack) pc2, .int .i64 p1.In, .slice a4 (List.length x16) c4, .int .i64 x2, .int .i64 (w64 (p1.Steps + 1))], SL (α := Int) 3 (.slice pa0 (List.length p1.Regs) pc0) p1.Regs, SL (α := Int) 3 (.slice pa1 (List.length p1.Mem) pc1) p1.Mem, SL (α := Int) 3 (.slice pa2 (List.length p1.Stack) pc2) p1.Stack, SL (α := Int) 3 (.slice a4 (List.length x16) c4) x16] w33 S27 := hs
    refine from_end rfl (then_normal ?_)
    have hbr := (hs.bx 0 rfl)
    obtain rfl := Option.some.inj h
    have hs : Sep [SL (α := Int) 3 (.slice pa0 (List.length p1.Regs) pc0) p1.Regs, SL (α := Int) 3 (.slice pa1 (List.length p1.Mem) pc1) p1.Mem, SL (α := Int) 3 (.slice pa2 (List.length p1.Stack) pc2) p1.Stack, SL (α := Int) 3 (.slice a4 (List.length x16) c4) x16] w33 S27 := Sep.pick [1, 2, 3, 4] hs (by decide) rfl
    exact wp_ret (retS rfl hF ty28 rfl rfl hbr rfl ⟨_, rfl, pa0, pc0, pa1, pc1, pa2, pc2, a4, c4, rfl, S27, hM0.out, hs⟩)
  replace h := iteF hb h
  refine wp_seq (wp_pure [(4, .pointer (some ⟨b2, 0, none⟩)), (6, .pointer (some ⟨b3, 0, none⟩)), (7, .pointer (some ⟨b4, 0, none⟩)), (50, .int .i64 x1.Op), (142, .bool (x1.Op == 7))] hF (by kernel_rfl) fun fr hF => then_normal ?_)
  refine (wp_if hF (b := (x1.Op == 7)) rfl (fun hb => ?_) (fun hb => ?_))
  · replace h := iteT hb h
    obtain ⟨x17, hx17, h⟩ := bindE h
    obtain ⟨x18, hx18, h⟩ := bindE h
    refine (region_bm 14 [0, 1, 0, 4, 0, 16, 0, 64, 0, 256, 960, 1984, 4080, 8176, 16383, 32767] [true, false, true, false, true, false, true, false, true, false, false, false, false, false]
        [.eq (.pointer (some ⟨b2, 1, none⟩)), .eq (.slice pa0 (List.length p1.Regs) pc0), .eq (.pointer (some ⟨b4, 1, none⟩)), .eq (.int .i64 x1.A), .eq (.pointer (some ⟨b2, 2, none⟩)), .eq (.slice pa1 (List.length p1.Mem) pc1), .eq (.pointer (some ⟨b2, 1, none⟩)), .eq (.slice pa0 (List.length p1.Regs) pc0), .eq (.pointer (some ⟨b4, 2, none⟩)), .eq (.int .i64 x1.B), .is fun v w => ElemP w (fun k => k < w14.heap.size) v (x17 : Int), .eq (.int .i64 x17), .is fun v w => ElemP w (fun k => k < w14.heap.size) v (x18 : Int), .eq (.int .i64 x18), .any, .any]
        [(4, .pointer (some ⟨b2, 0, none⟩)), (6, .pointer (some ⟨b3, 0, none⟩)), (145, .slice pa0 (List.length p1.Regs) pc0), (147, .int .i64 x1.A), (157, .int .i64 x18)] mix hF (by kernel_rfl) (by kernel_rfl) (by kernel_rfl) (by kernel_rfl) ⟨Pd.monoO_eq, Pd.monoO_eq, Pd.monoO_eq, Pd.monoO_eq, Pd.monoO_eq, (Pd.monoO_is mono_elem), Pd.monoO_eq, (Pd.monoO_is mono_elem), Pd.monoO_eq, trivial⟩ (fun ow hG => ⟨np_to ow (np_loadBox hG hF ty26 rfl rfl (hs.bx 2 rfl) rfl rfl rfl), np_to ow (np_loadBox hG hF ty3 rfl rfl (hs.bx 0 rfl) rfl rfl rfl), np_to ow (np_loadBox hG hF ty26 rfl rfl (hs.bx 2 rfl) rfl rfl rfl), np_to ow (np_loadBox hG hF ty26 rfl rfl (hs.bx 2 rfl) rfl rfl rfl), np_to ow (np_loadBox hG hF ty3 rfl rfl (hs.bx 0 rfl) rfl rfl rfl), np_to ow (np_index hG hF ty3 Try.underlying26 rfl rfl (RV.sub (hs.rv 3 rfl) fun k hk _ => hk) rfl rfl (fun hg => ⟨get?_nn hx17, get?_at hx17⟩)), np_to ow (np_loadF (z := x17) (i := 10) hG hF ty3 rfl rfl rfl rfl rfl rfl rfl), np_to ow (np_index hG hF ty3 Try.underlying26 rfl rfl (RV.sub (hs.rv 4 rfl) fun k hk _ => hk) rfl rfl (fun hg => ⟨get?_nn hx18, get?_at hx18⟩)), np_to ow (np_loadF (z := x18) (i := 12) hG hF ty3 rfl rfl rfl rfl rfl rfl rfl), trivial⟩) (by kernel_rfl) fun ow fr w34 hF hE hc => ?_)
    have hs := hs.ext hc
    have hM0 := hM0.ext hc
    have hs : Sep [BX b3 28 [.int .i64 0, .slice none (List.length ([] : List Int)) 0, .slice none (List.length ([] : List Int)) 0, .slice none (List.length ([] : List Int)) 0, .int .i64 0, .slice none (List.length ([] : List Int)) 0, .int .i64 0, .int .i64 0], BX b2 28 [.int .i64 (w64 (p1.Pc + 1)), .slice pa0 (List.length p1.Regs) pc0, .slice pa1 (List.length p1.Mem) pc1, .slice pa2 (List.length p1.Stack) pc2, .int .i64 p1.In, .slice pa3 (List.length p1.Out) pc3, .int .i64 x2, .int .i64 (w64 (p1.Steps + 1))], SL (α := Int) 3 (.slice pa0 (List.length p1.Regs) pc0) p1.Regs, SL (α := Int) 3 (.slice pa1 (List.length p1.Mem) pc1) p1.Mem, SL (α := Int) 3 (.slice pa2 (List.length p1.Stack) pc2) p1.Stack, SL (α := Int) 3 (.slice pa3 (List.length p1.Out) pc3) p1.Out] w34 S12 := Sep.pick [1, 2, 3, 4, 5, 6] hs (by decide) rfl
    obtain ⟨x19, hx19, h⟩ := bindE h
    refine q_set (q := x18) 2 hs hM0 rfl Try.underlying26 ty3 rfl rfl rfl rfl hF rfl rfl (by simp) rfl rfl hx19 fun w35 S28 fr _ hs hp hF => ?_
    have hM0 := hM0.stp hp
    have hs : Sep [BX b3 28 [.int .i64 0, .slice none (List.length ([] : List Int)) 0, .slice none (List.length ([] : List Int)) 0, .slice none (List.length ([] : List Int)) 0, .int .i64 0, .slice none (List.length ([] : List Int)) 0, .int .i64 0, .int .i64 0], BX b2 28 [.int .i64 (w64 (p1.Pc + 1)), .slice pa0 (List.length p1.Regs) pc0, .slice pa1 (List.length p1.Mem) pc1, .slice pa2 (List.length p1.Stack) pc2, .int .i64 p1.In, .slice pa3 (List.length p1.Out) pc3, .int .i64 x2, .int .i64 (w64 (p1.Steps + 1))], SL (α := Int) 3 (.slice pa0 (List.length p1.Regs) pc0) x19, SL (α := Int) 3 (.slice pa1 (List.length p1.Mem) pc1) p1.Mem, SL (α := Int) 3 (.slice pa2 (List.length p1.Stack) pc2) p1.Stack, SL (α := Int) 3 (.slice pa3 (List.length p1.Out) pc3) p1.Out] w35 S28 := hs
    refine from_end rfl ?_
    refine blk_normal (then_normal ?_)
    refine wp_seq (wp_text' ?_)
    refine s_loadBoxS ty28 rfl rfl hF rfl (hs.bx 1 rfl) rfl rfl fun fr hF => ?_
    have hs : Sep [BX b3 28 [.int .i64 0, .slice none (List.length ([] : List Int)) 0, .slice none (List.length ([] : List Int)) 0, .slice none (List.length ([] : List Int)) 0, .int .i64 0, .slice none (List.length ([] : List Int)) 0, .int .i64 0, .int .i64 0], SL (α := Int) 3 (.slice pa0 (List.length p1.Regs) pc0) x19, SL (α := Int) 3 (.slice pa1 (List.length p1.Mem) pc1) p1.Mem, SL (α := Int) 3 (.slice pa2 (List.length p1.Stack) pc2) p1.Stack, SL (α := Int) 3 (.slice pa3 (List.length p1.Out) pc3) p1.Out] w35 S28 := Sep.pick [0, 2, 3, 4, 5] hs (by decide) rfl
    refine q_storeBoxS 0 hs hM0 rfl [.int .i64 (w64 (p1.Pc + 1)), .slice pa0 (List.length p1.Regs) pc0, .slice pa1 (List.length p1.Mem) pc1, .slice pa2 (List.length p1.Stack) pc2, .int .i64 p1.In, .slice pa3 (List.length p1.Out) pc3, .int .i64 x2, .int .i64 (w64 (p1.Steps + 1))] rfl hF rfl rfl (by kernel_rfl) rfl rfl rfl fun w36 S29 hs hp hF => ?_
    have hM0 := hM0.stp hp
    have hs : Sep [BX b3 28 [.int .i64 (w64 (p1.Pc + 1)), .slice pa0 (List.length p1.Regs) pc0, .slice pa1 (List.length p1.Mem) pc1, .slice pa2 (List.length p1.Stack) pc2, .int .i64 p1.In, .slice pa3 (List.length p1.Out) pc3, .int .i64 x2, .int .i64 (w64 (p1.Steps + 1))], SL (α := Int) 3 (.slice pa0 (List.length p1.Regs) pc0) x19, SL (α := Int) 3 (.slice pa1 (List.length p1.Mem) pc1) p1.Mem, SL (α := Int) 3 (.slice pa2 (List.length p1.Stack) pc2) p1.Stack, SL (α := Int) 3 (.slice pa3 (List.length p1.Out) pc3) p1.Out] w36 S29 := hs
    refine from_end rfl (then_normal ?_)
    have hbr := (hs.bx 0 rfl)
    obtain rfl := Option.some.inj h
    have hs : Sep [SL (α := Int) 3 (.slice pa0 (List.length p1.Regs) pc0) x19, SL (α := Int) 3 (.slice pa1 (List.length p1.Mem) pc1) p1.Mem, SL (α := Int) 3 (.slice pa2 (List.length p1.Stack) pc2) p1.Stack, SL (α := Int) 3 (.slice pa3 (List.length p1.Out) pc3) p1.Out] w36 S29 := Sep.pick [1, 2, 3, 4] hs (by decide) rfl
    obtain ⟨he6, hs⟩ := hs.relen 0 rfl
    have hs : Sep [SL (α := Int) 3 (.slice pa0 (List.length x19) pc0) x19, SL (α := Int) 3 (.slice pa1 (List.length p1.Mem) pc1) p1.Mem, SL (α := Int) 3 (.slice pa2 (List.length p1.Stack) pc2) p1.Stack, SL (α := Int) 3 (.slice pa3 (List.length p1.Out) pc3) p1.Out] w36 S29 := hs
    exact wp_ret (retS rfl hF ty28 rfl rfl hbr rfl ⟨_, rfl, pa0, pc0, pa1, pc1, pa2, pc2, pa3, pc3, (by simp only [he6]), S29, hM0.out, hs⟩)
  replace h := iteF hb h
  refine wp_seq (wp_pure [(4, .pointer (some ⟨b2, 0, none⟩)), (6, .pointer (some ⟨b3, 0, none⟩)), (7, .pointer (some ⟨b4, 0, none⟩)), (50, .int .i64 x1.Op), (159, .bool (x1.Op == 8))] hF (by kernel_rfl) fun fr hF => then_normal ?_)
  refine (wp_if hF (b := (x1.Op == 8)) rfl (fun hb => ?_) (fun hb => ?_))
  · replace h := iteT hb h
    obtain ⟨x20, hx20, h⟩ := bindE h
    obtain ⟨x21, hx21, h⟩ := bindE h
    refine (region_bm 14 [0, 1, 0, 4, 0, 16, 60, 124, 0, 256, 0, 1024, 3840, 7936, 16383, 32767] [true, false, true, false, true, false, false, false, true, false, true, false, false, false]
        [.eq (.pointer (some ⟨b2, 2, none⟩)), .eq (.slice pa1 (List.length p1.Mem) pc1), .eq (.pointer (some ⟨b2, 1, none⟩)), .eq (.slice pa0 (List.length p1.Regs) pc0), .eq (.pointer (some ⟨b4, 1, none⟩)), .eq (.int .i64 x1.A), .is fun v w => ElemP w (fun k => k < w14.heap.size) v (x20 : Int), .eq (.int .i64 x20), .eq (.pointer (some ⟨b2, 1, none⟩)), .eq (.slice pa0 (List.length p1.Regs) pc0), .eq (.pointer (some ⟨b4, 2, none⟩)), .eq (.int .i64 x1.B), .is fun v w => ElemP w (fun k => k < w14.heap.size) v (x21 : Int), .eq (.int .i64 x21), .any, .any]
        [(4, .pointer (some ⟨b2, 0, none⟩)), (6, .pointer (some ⟨b3, 0, none⟩)), (162, .slice pa1 (List.length p1.Mem) pc1), (168, .int .i64 x20), (174, .int .i64 x21)] mix hF (by kernel_rfl) (by kernel_rfl) (by kernel_rfl) (by kernel_rfl) ⟨Pd.monoO_eq, Pd.monoO_eq, Pd.monoO_eq, (Pd.monoO_is mono_elem), Pd.monoO_eq, Pd.monoO_eq, Pd.monoO_eq, (Pd.monoO_is mono_elem), Pd.monoO_eq, trivial⟩ (fun ow hG => ⟨np_to ow (np_loadBox hG hF ty26 rfl rfl (hs.bx 2 rfl) rfl rfl rfl), np_to ow (np_loadBox hG hF ty26 rfl rfl (hs.bx 2 rfl) rfl rfl rfl), np_to ow (np_loadBox hG hF ty3 rfl rfl (hs.bx 0 rfl) rfl rfl rfl), np_to ow (np_index hG hF ty3 Try.underlying26 rfl rfl (RV.sub (hs.rv 3 rfl) fun k hk _ => hk) rfl rfl (fun hg => ⟨get?_nn hx20, get?_at hx20⟩)), np_to ow (np_loadF (z := x20) (i := 6) hG hF ty3 rfl rfl rfl rfl rfl rfl rfl), np_to ow (np_loadBox hG hF ty26 rfl rfl (hs.bx 2 rfl) rfl rfl rfl), np_to ow (np_loadBox hG hF ty3 rfl rfl (hs.bx 0 rfl) rfl rfl rfl), np_to ow (np_index hG hF ty3 Try.underlying26 rfl rfl (RV.sub (hs.rv 3 rfl) fun k hk _ => hk) rfl rfl (fun hg => ⟨get?_nn hx21, get?_at hx21⟩)), np_to ow (np_loadF (z := x21) (i := 12) hG hF ty3 rfl rfl rfl rfl rfl rfl rfl), trivial⟩) (by kernel_rfl) fun ow fr w37 hF hE hc => ?_)
    have hs := hs.ext hc
    have hM0 := hM0.ext hc
    have hs : Sep [BX b3 28 [.int .i64 0, .slice none (List.length ([] : List Int)) 0, .slice none (List.length ([] : List Int)) 0, .slice none (List.length ([] : List Int)) 0, .int .i64 0, .slice none (List.length ([] : List Int)) 0, .int .i64 0, .int .i64 0], BX b2 28 [.int .i64 (w64 (p1.Pc + 1)), .slice pa0 (List.length p1.Regs) pc0, .slice pa1 (List.length p1.Mem) pc1, .slice pa2 (List.length p1.Stack) pc2, .int .i64 p1.In, .slice pa3 (List.length p1.Out) pc3, .int .i64 x2, .int .i64 (w64 (p1.Steps + 1))], SL (α := Int) 3 (.slice pa0 (List.length p1.Regs) pc0) p1.Regs, SL (α := Int) 3 (.slice pa1 (List.length p1.Mem) pc1) p1.Mem, SL (α := Int) 3 (.slice pa2 (List.length p1.Stack) pc2) p1.Stack, SL (α := Int) 3 (.slice pa3 (List.length p1.Out) pc3) p1.Out] w37 S12 := Sep.pick [1, 2, 3, 4, 5, 6] hs (by decide) rfl
    obtain ⟨x22, hx22, h⟩ := bindE h
    refine q_set (q := x21) 3 hs hM0 rfl Try.underlying26 ty3 rfl rfl rfl rfl hF rfl rfl (by simp) rfl rfl hx22 fun w38 S30 fr _ hs hp hF => ?_
    have hM0 := hM0.stp hp
    have hs : Sep [BX b3 28 [.int .i64 0, .slice none (List.length ([] : List Int)) 0, .slice none (List.length ([] : List Int)) 0, .slice none (List.length ([] : List Int)) 0, .int .i64 0, .slice none (List.length ([] : List Int)) 0, .int .i64 0, .int .i64 0], BX b2 28 [.int .i64 (w64 (p1.Pc + 1)), .slice pa0 (List.length p1.Regs) pc0, .slice pa1 (List.length p1.Mem) pc1, .slice pa2 (List.length p1.Stack) pc2, .int .i64 p1.In, .slice pa3 (List.length p1.Out) pc3, .int .i64 x2, .int .i64 (w64 (p1.Steps + 1))], SL (α := Int) 3 (.slice pa0 (List.length p1.Regs) pc0) p1.Regs, SL (α := Int) 3 (.slice pa1 (List.length p1.Mem) pc1) x22, SL (α := Int) 3 (.slice pa2 (List.length p1.Stack) pc2) p1.Stack, SL (α := Int) 3 (.slice pa3 (List.length p1.Out) pc3) p1.Out] w38 S30 := hs
    refine from_end rfl ?_
    refine blk_normal (then_normal ?_)
    refine wp_seq (wp_text' ?_)
    refine s_loadBoxS ty28 rfl rfl hF rfl (hs.bx 1 rfl) rfl rfl fun fr hF => ?_
    have hs : Sep [BX b3 28 [.int .i64 0, .slice none (List.length ([] : List Int)) 0, .slice none (List.length ([] : List Int)) 0, .slice none (List.length ([] : List Int)) 0, .int .i64 0, .slice none (List.length ([] : List Int)) 0, .int .i64 0, .int .i64 0], SL (α := Int) 3 (.slice pa0 (List.length p1.Regs) pc0) p1.Regs, SL (α := Int) 3 (.slice pa1 (List.length p1.Mem) pc1) x22, SL (α := Int) 3 (.slice pa2 (List.length p1.Stack) pc2) p1.Stack, SL (α := Int) 3 (.slice pa3 (List.length p1.Out) pc3) p1.Out] w38 S30 := Sep.pick [0, 2, 3, 4, 5] hs (by decide) rfl
    refine q_storeBoxS 0 hs hM0 rfl [.int .i64 (w64 (p1.Pc + 1)), .slice pa0 (List.length p1.Regs) pc0, .slice pa1 (List.length p1.Mem) pc1, .slice pa2 (List.length p1.Stack) pc2, .int .i64 p1.In, .slice pa3 (List.length p1.Out) pc3, .int .i64 x2, .int .i64 (w64 (p1.Steps + 1))] rfl hF rfl rfl (by kernel_rfl) rfl rfl rfl fun w39 S31 hs hp hF => ?_
    have hM0 := hM0.stp hp
    have hs : Sep [BX b3 28 [.int .i64 (w64 (p1.Pc + 1)), .slice pa0 (List.length p1.Regs) pc0, .slice pa1 (List.length p1.Mem) pc1, .slice pa2 (List.length p1.Stack) pc2, .int .i64 p1.In, .slice pa3 (List.length p1.Out) pc3, .int .i64 x2, .int .i64 (w64 (p1.Steps + 1))], SL (α := Int) 3 (.slice pa0 (List.length p1.Regs) pc0) p1.Regs, SL (α := Int) 3 (.slice pa1 (List.length p1.Mem) pc1) x22, SL (α := Int) 3 (.slice pa2 (List.length p1.Stack) pc2) p1.Stack, SL (α := Int) 3 (.slice pa3 (List.length p1.Out) pc3) p1.Out] w39 S31 := hs
    refine from_end rfl (then_normal ?_)
    have hbr := (hs.bx 0 rfl)
    obtain rfl := Option.some.inj h
    have hs : Sep [SL (α := Int) 3 (.slice pa0 (List.length p1.Regs) pc0) p1.Regs, SL (α := Int) 3 (.slice pa1 (List.length p1.Mem) pc1) x22, SL (α := Int) 3 (.slice pa2 (List.length p1.Stack) pc2) p1.Stack, SL (α := Int) 3 (.slice pa3 (List.length p1.Out) pc3) p1.Out] w39 S31 := Sep.pick [1, 2, 3, 4] hs (by decide) rfl
    obtain ⟨he7, hs⟩ := hs.relen 1 rfl
    have hs : Sep [SL (α := Int) 3 (.slice pa0 (List.length p1.Regs) pc0) p1.Regs, SL (α := Int) 3 (.slice pa1 (List.length x22) pc1) x22, SL (α := Int) 3 (.slice pa2 (List.length p1.Stack) pc2) p1.Stack, SL (α := Int) 3 (.slice pa3 (List.length p1.Out) pc3) p1.Out] w39 S31 := hs
    exact wp_ret (retS rfl hF ty28 rfl rfl hbr rfl ⟨_, rfl, pa0, pc0, pa1, pc1, pa2, pc2, pa3, pc3, (by simp only [he7]), S31, hM0.out, hs⟩)
  replace h := iteF hb h
  refine wp_seq (wp_pure [(4, .pointer (some ⟨b2, 0, none⟩)), (6, .pointer (some ⟨b3, 0, none⟩)), (7, .pointer (some ⟨b4, 0, none⟩)), (50, .int .i64 x1.Op), (176, .bool (x1.Op == 9))] hF (by kernel_rfl) fun fr hF => then_normal ?_)
  refine (wp_if hF (b := (x1.Op == 9)) rfl (fun hb => ?_) (fun hb => ?_))
  · replace h := iteT hb h
    refine (wp_text' ?_)
    refine from_pure 1 [(4, .pointer (some ⟨b2, 0, none⟩)), (6, .pointer (some ⟨b3, 0, none⟩)), (178, .pointer (some ⟨b4, 2, none⟩))] hF (by kernel_rfl) fun fr hF => ?_
    refine s_loadBox (.int .i64 x1.B) ty3 rfl rfl hF rfl (hs.bx 0 rfl) rfl rfl fun fr hF => ?_
    have hs : Sep [BX b3 28 [.int .i64 0, .slice none (List.length ([] : List Int)) 0, .slice none (List.length ([] : List Int)) 0, .slice none (List.length ([] : List Int)) 0, .int .i64 0, .slice none (List.length ([] : List Int)) 0, .int .i64 0, .int .i64 0], BX b2 28 [.int .i64 (w64 (p1.Pc + 1)), .slice pa0 (List.length p1.Regs) pc0, .slice pa1 (List.length p1.Mem) pc1, .slice pa2 (List.length p1.Stack) pc2, .int .i64 p1.In, .slice pa3 (List.length p1.Out) pc3, .int .i64 x2, .int .i64 (w64 (p1.Steps + 1))], SL (α := Int) 3 (.slice pa0 (List.length p1.Regs) pc0) p1.Regs, SL (α := Int) 3 (.slice pa1 (List.length p1.Mem) pc1) p1.Mem, SL (α := Int) 3 (.slice pa2 (List.length p1.Stack) pc2) p1.Stack, SL (α := Int) 3 (.slice pa3 (List.length p1.Out) pc3) p1.Out] w14 S12 := Sep.pick [1, 2, 3, 4, 5, 6] hs (by decide) rfl
    refine from_pure 1 [(4, .pointer (some ⟨b2, 0, none⟩)), (6, .pointer (some ⟨b3, 0, none⟩)), (179, .int .i64 x1.B), (180, .pointer (some ⟨b2, 0, none⟩))] hF (by kernel_rfl) fun fr hF => ?_
    refine q_storeBox 1 hs hM0 rfl [.int .i64 x1.B, .slice pa0 (List.length p1.Regs) pc0, .slice pa1 (List.length p1.Mem) pc1, .slice pa2 (List.length p1.Stack) pc2, .int .i64 p1.In, .slice pa3 (List.length p1.Out) pc3, .int .i64 x2, .int .i64 (w64 (p1.Steps + 1))] rfl hF rfl rfl (by kernel_rfl) rfl rfl rfl fun w40 S32 hs hp hF => ?_
    have hM0 := hM0.stp hp
    have hs : Sep [BX b3 28 [.int .i64 0, .slice none (List.length ([] : List Int)) 0, .slice none (List.length ([] : List Int)) 0, .slice none (List.length ([] : List Int)) 0, .int .i64 0, .slice none (List.length ([] : List Int)) 0, .int .i64 0, .int .i64 0], BX b2 28 [.int .i64 x1.B, .slice pa0 (List.length p1.Regs) pc0, .slice pa1 (List.length p1.Mem) pc1, .slice pa2 (List.length p1.Stack) pc2, .int .i64 p1.In, .slice pa3 (List.length p1.Out) pc3, .int .i64 x2, .int .i64 (w64 (p1.Steps + 1))], SL (α := Int) 3 (.slice pa0 (List.length p1.Regs) pc0) p1.Regs, SL (α := Int) 3 (.slice pa1 (List.length p1.Mem) pc1) p1.Mem, SL (α := Int) 3 (.slice pa2 (List.length p1.Stack) pc2) p1.Stack, SL (α := Int) 3 (.slice pa3 (List.length p1.Out) pc3) p1.Out] w40 S32 := hs
    refine from_end rfl ?_
    refine blk_normal (then_normal ?_)
    refine wp_seq (wp_text' ?_)
    refine s_loadBoxS ty28 rfl rfl hF rfl (hs.bx 1 rfl) rfl rfl fun fr hF => ?_
    have hs : Sep [BX b3 28 [.int .i64 0, .slice none (List.length ([] : List Int)) 0, .slice none (List.length ([] : List Int)) 0, .slice none (List.length ([] : List Int)) 0, .int .i64 0, .slice none (List.length ([] : List Int)) 0, .int .i64 0, .int .i64 0], SL (α := Int) 3 (.slice pa0 (List.length p1.Regs) pc0) p1.Regs, SL (α := Int) 3 (.slice pa1 (List.length p1.Mem) pc1) p1.Mem, SL (α := Int) 3 (.slice pa2 (List.length p1.Stack) pc2) p1.Stack, SL (α := Int) 3 (.slice pa3 (List.length p1.Out) pc3) p1.Out] w40 S32 := Sep.pick [0, 2, 3, 4, 5] hs (by decide) rfl
    refine q_storeBoxS 0 hs hM0 rfl [.int .i64 x1.B, .slice pa0 (List.length p1.Regs) pc0, .slice pa1 (List.length p1.Mem) pc1, .slice pa2 (List.length p1.Stack) pc2, .int .i64 p1.In, .slice pa3 (List.length p1.Out) pc3, .int .i64 x2, .int .i64 (w64 (p1.Steps + 1))] rfl hF rfl rfl (by kernel_rfl) rfl rfl rfl fun w41 S33 hs hp hF => ?_
    have hM0 := hM0.stp hp
    have hs : Sep [BX b3 28 [.int .i64 x1.B, .slice pa0 (List.length p1.Regs) pc0, .slice pa1 (List.length p1.Mem) pc1, .slice pa2 (List.length p1.Stack) pc2, .int .i64 p1.In, .slice pa3 (List.length p1.Out) pc3, .int .i64 x2, .int .i64 (w64 (p1.Steps + 1))], SL (α := Int) 3 (.slice pa0 (List.length p1.Regs) pc0) p1.Regs, SL (α := Int) 3 (.slice pa1 (List.length p1.Mem) pc1) p1.Mem, SL (α := Int) 3 (.slice pa2 (List.length p1.Stack) pc2) p1.Stack, SL (α := Int) 3 (.slice pa3 (List.length p1.Out) pc3) p1.Out] w41 S33 := hs
    refine from_end rfl (then_normal ?_)
    have hbr := (hs.bx 0 rfl)
    obtain rfl := Option.some.inj h
    have hs : Sep [SL (α := Int) 3 (.slice pa0 (List.length p1.Regs) pc0) p1.Regs, SL (α := Int) 3 (.slice pa1 (List.length p1.Mem) pc1) p1.Mem, SL (α := Int) 3 (.slice pa2 (List.length p1.Stack) pc2) p1.Stack, SL (α := Int) 3 (.slice pa3 (List.length p1.Out) pc3) p1.Out] w41 S33 := Sep.pick [1, 2, 3, 4] hs (by decide) rfl
    exact wp_ret (retS rfl hF ty28 rfl rfl hbr rfl ⟨_, rfl, pa0, pc0, pa1, pc1, pa2, pc2, pa3, pc3, rfl, S33, hM0.out, hs⟩)
  replace h := iteF hb h
  refine wp_seq (wp_pure [(4, .pointer (some ⟨b2, 0, none⟩)), (6, .pointer (some ⟨b3, 0, none⟩)), (7, .pointer (some ⟨b4, 0, none⟩)), (50, .int .i64 x1.Op), (181, .bool (x1.Op == 10))] hF (by kernel_rfl) fun fr hF => then_normal ?_)
  refine (wp_if hF (b := (x1.Op == 10)) rfl (fun hb => ?_) (fun hb => ?_))
  · replace h := iteT hb h
    refine wp_seq (wp_text' ?_)
    refine from_pure 1 [(4, .pointer (some ⟨b2, 0, none⟩)), (6, .pointer (some ⟨b3, 0, none⟩)), (7, .pointer (some ⟨b4, 0, none⟩)), (183, .pointer (some ⟨b2, 1, none⟩))] hF (by kernel_rfl) fun fr hF => ?_
    refine s_loadBox (.slice pa0 (List.length p1.Regs) pc0) ty26 rfl rfl hF rfl (hs.bx 2 rfl) rfl rfl fun fr hF => ?_
    refine from_pure 1 [(4, .pointer (some ⟨b2, 0, none⟩)), (6, .pointer (some ⟨b3, 0, none⟩)), (7, .pointer (some ⟨b4, 0, none⟩)), (184, .slice pa0 (List.length p1.Regs) pc0), (185, .pointer (some ⟨b4, 1, none⟩))] hF (by kernel_rfl) fun fr hF => ?_
    refine s_loadBox (.int .i64 x1.A) ty3 rfl rfl hF rfl (hs.bx 0 rfl) rfl rfl fun fr hF => ?_
    obtain ⟨x23, hx23, h⟩ := bindE h
    refine s_elemF (z := x23) (.int .i64 x23) ty3 Try.underlying26 rfl rfl rfl rfl rfl hF rfl (hs.rv 3 rfl) rfl (get?_nn hx23) (get?_at hx23) rfl fun p fr hF => ?_
    refine from_pure 1 [(4, .pointer (some ⟨b2, 0, none⟩)), (6, .pointer (some ⟨b3, 0, none⟩)), (7, .pointer (some ⟨b4, 0, none⟩)), (189, .bool (x23 == 0))] hF (by kernel_rfl) fun fr hF => ?_
    refine from_end rfl (then_normal ?_)
    refine (wp_if hF (b := (x23 == 0)) rfl (fun hb => ?_) (fun hb => ?_))
    · replace h := iteT hb h
      refine (wp_text' ?_)
      refine from_pure 1 [(4, .pointer (some ⟨b2, 0, none⟩)), (6, .pointer (some ⟨b3, 0, none⟩)), (190, .pointer (some ⟨b4, 2, none⟩))] hF (by kernel_rfl) fun fr hF => ?_
      refine s_loadBox (.int .i64 x1.B) ty3 rfl rfl hF rfl (hs.bx 0 rfl) rfl rfl fun fr hF => ?_
      have hs : Sep [BX b3 28 [.int .i64 0, .slice none (List.length ([] : List Int)) 0, .slice none (List.length ([] : List Int)) 0, .slice none (List.length ([] : List Int)) 0, .int .i64 0, .slice none (List.length ([] : List Int)) 0, .int .i64 0, .int .i64 0], BX b2 28 [.int .i64 (w64 (p1.Pc + 1)), .slice pa0 (List.length p1.Regs) pc0, .slice pa1 (List.length p1.Mem) pc1, .slice pa2 (List.length p1.Stack) pc2, .int .i64 p1.In, .slice pa3 (List.length p1.Out) pc3, .int .i64 x2, .int .i64 (w64 (p1.Steps + 1))], SL (α := Int) 3 (.slice pa0 (List.length p1.Regs) pc0) p1.Regs, SL (α := Int) 3 (.slice pa1 (List.length p1.Mem) pc1) p1.Mem, SL (α := Int) 3 (.slice pa2 (List.length p1.Stack) pc2) p1.Stack, SL (α := Int) 3 (.slice pa3 (List.length p1.Out) pc3) p1.Out] w14 S12 := Sep.pick [1, 2, 3, 4, 5, 6] hs (by decide) rfl
      refine from_pure 1 [(4, .pointer (some ⟨b2, 0, none⟩)), (6, .pointer (some ⟨b3, 0, none⟩)), (191, .int .i64 x1.B), (192, .pointer (some ⟨b2, 0, none⟩))] hF (by kernel_rfl) fun fr hF => ?_
      refine q_storeBox 1 hs hM0 rfl [.int .i64 x1.B, .slice pa0 (List.length p1.Regs) pc0, .slice pa1 (List.length p1.Mem) pc1, .slice pa2 (List.length p1.Stack) pc2, .int .i64 p1.In, .slice pa3 (List.length p1.Out) pc3, .int .i64 x2, .int .i64 (w64 (p1.Steps + 1))] rfl hF rfl rfl (by kernel_rfl) rfl rfl rfl fun w42 S34 hs hp hF => ?_
      have hM0 := hM0.stp hp
      have hs : Sep [BX b3 28 [.int .i64 0, .slice none (List.length ([] : List Int)) 0, .slice none (List.length ([] : List Int)) 0, .slice none (List.length ([] : List Int)) 0, .int .i64 0, .slice none (List.length ([] : List Int)) 0, .int .i64 0, .int .i64 0], BX b2 28 [.int .i64 x1.B, .slice pa0 (List.length p1.Regs) pc0, .slice pa1 (List.length p1.Mem) pc1, .slice pa2 (List.length p1.Stack) pc2, .int .i64 p1.In, .slice pa3 (List.length p1.Out) pc3, .int .i64 x2, .int .i64 (w64 (p1.Steps + 1))], SL (α := Int) 3 (.slice pa0 (List.length p1.Regs) pc0) p1.Regs, SL (α := Int) 3 (.slice pa1 (List.length p1.Mem) pc1) p1.Mem, SL (α := Int) 3 (.slice pa2 (List.length p1.Stack) pc2) p1.Stack, SL (α := Int) 3 (.slice pa3 (List.length p1.Out) pc3) p1.Out] w42 S34 := hs
      refine from_end rfl ?_
      refine blk_normal (then_normal ?_)
      refine wp_seq (wp_text' ?_)
      refine s_loadBoxS ty28 rfl rfl hF rfl (hs.bx 1 rfl) rfl rfl fun fr hF => ?_
      have hs : Sep [BX b3 28 [.int .i64 0, .slice none (List.length ([] : List Int)) 0, .slice none (List.length ([] : List Int)) 0, .slice none (List.length ([] : List Int)) 0, .int .i64 0, .slice none (List.length ([] : List Int)) 0, .int .i64 0, .int .i64 0], SL (α := Int) 3 (.slice pa0 (List.length p1.Regs) pc0) p1.Regs, SL (α := Int) 3 (.slice pa1 (List.length p1.Mem) pc1) p1.Mem, SL (α := Int) 3 (.slice pa2 (List.length p1.Stack) pc2) p1.Stack, SL (α := Int) 3 (.slice pa3 (List.length p1.Out) pc3) p1.Out] w42 S34 := Sep.pick [0, 2, 3, 4, 5] hs (by decide) rfl
      refine q_storeBoxS 0 hs hM0 rfl [.int .i64 x1.B, .slice pa0 (List.length p1.Regs) pc0, .slice pa1 (List.length p1.Mem) pc1, .slice pa2 (List.length p1.Stack) pc2, .int .i64 p1.In, .slice pa3 (List.length p1.Out) pc3, .int .i64 x2, .int .i64 (w64 (p1.Steps + 1))] rfl hF rfl rfl (by kernel_rfl) rfl rfl rfl fun w43 S35 hs hp hF => ?_
      have hM0 := hM0.stp hp
      have hs : Sep [BX b3 28 [.int .i64 x1.B, .slice pa0 (List.length p1.Regs) pc0, .slice pa1 (List.length p1.Mem) pc1, .slice pa2 (List.length p1.Stack) pc2, .int .i64 p1.In, .slice pa3 (List.length p1.Out) pc3, .int .i64 x2, .int .i64 (w64 (p1.Steps + 1))], SL (α := Int) 3 (.slice pa0 (List.length p1.Regs) pc0) p1.Regs, SL (α := Int) 3 (.slice pa1 (List.length p1.Mem) pc1) p1.Mem, SL (α := Int) 3 (.slice pa2 (List.length p1.Stack) pc2) p1.Stack, SL (α := Int) 3 (.slice pa3 (List.length p1.Out) pc3) p1.Out] w43 S35 := hs
      refine from_end rfl (then_normal ?_)
      have hbr := (hs.bx 0 rfl)
      obtain rfl := Option.some.inj h
      have hs : Sep [SL (α := Int) 3 (.slice pa0 (List.length p1.Regs) pc0) p1.Regs, SL (α := Int) 3 (.slice pa1 (List.length p1.Mem) pc1) p1.Mem, SL (α := Int) 3 (.slice pa2 (List.length p1.Stack) pc2) p1.Stack, SL (α := Int) 3 (.slice pa3 (List.length p1.Out) pc3) p1.Out] w43 S35 := Sep.pick [1, 2, 3, 4] hs (by decide) rfl
      exact wp_ret (retS rfl hF ty28 rfl rfl hbr rfl ⟨_, rfl, pa0, pc0, pa1, pc1, pa2, pc2, pa3, pc3, rfl, S35, hM0.out, hs⟩)
    replace h := iteF hb h
    have hs : Sep [BX b3 28 [.int .i64 0, .slice none (List.length ([] : List Int)) 0, .slice none (List.length ([] : List Int)) 0, .slice none (List.length ([] : List Int)) 0, .int .i64 0, .slice none (List.length ([] : List Int)) 0, .int .i64 0, .int .i64 0], BX b2 28 [.int .i64 (w64 (p1.Pc + 1)), .slice pa0 (List.length p1.Regs) pc0, .slice pa1 (List.length p1.Mem) pc1, .slice pa2 (List.length p1.Stack) pc2, .int .i64 p1.In, .slice pa3 (List.length p1.Out) pc3, .int .i64 x2, .int .i64 (w64 (p1.Steps + 1))], SL (α := Int) 3 (.slice pa0 (List.length p1.Regs) pc0) p1.Regs, SL (α := Int) 3 (.slice pa1 (List.length p1.Mem) pc1) p1.Mem, SL (α := Int) 3 (.slice pa2 (List.length p1.Stack) pc2) p1.Stack, SL (α := Int) 3 (.slice pa3 (List.length p1.Out) pc3) p1.Out] w14 S12 := Sep.pick [1, 2, 3, 4, 5, 6] hs (by decide) rfl
    refine (wp_skip ?_)
    refine blk_normal (then_normal ?_)
    refine wp_seq (wp_text' ?_)
    refine s_loadBoxS ty28 rfl rfl hF rfl (hs.bx 1 rfl) rfl rfl fun fr hF => ?_
    have hs : Sep [BX b3 28 [.int .i64 0, .slice none (List.length ([] : List Int)) 0, .slice none (List.length ([] : List Int)) 0, .slice none (List.length ([] : List Int)) 0, .int .i64 0, .slice none (List.length ([] : List Int)) 0, .int .i64 0, .int .i64 0], SL (α := Int) 3 (.slice pa0 (List.length p1.Regs) pc0) p1.Regs, SL (α := Int) 3 (.slice pa1 (List.length p1.Mem) pc1) p1.Mem, SL (α := Int) 3 (.slice pa2 (List.length p1.Stack) pc2) p1.Stack, SL (α := Int) 3 (.slice pa3 (List.length p1.Out) pc3) p1.Out] w14 S12 := Sep.pick [0, 2, 3, 4, 5] hs (by decide) rfl
    refine q_storeBoxS 0 hs hM0 rfl [.int .i64 (w64 (p1.Pc + 1)), .slice pa0 (List.length p1.Regs) pc0, .slice pa1 (List.length p1.Mem) pc1, .slice pa2 (List.length p1.Stack) pc2, .int .i64 p1.In, .slice pa3 (List.length p1.Out) pc3, .int .i64 x2, .int .i64 (w64 (p1.Steps + 1))] rfl hF rfl rfl (by kernel_rfl) rfl rfl rfl fun w44 S36 hs hp hF => ?_
    have hM0 := hM0.stp hp
    have hs : Sep [BX b3 28 [.int .i64 (w64 (p1.Pc + 1)), .slice pa0 (List.length p1.Regs) pc0, .slice pa1 (List.length p1.Mem) pc1, .slice pa2 (List.length p1.Stack) pc2, .int .i64 p1.In, .slice pa3 (List.length p1.Out) pc3, .int .i64 x2, .int .i64 (w64 (p1.Steps + 1))], SL (α := Int) 3 (.slice pa0 (List.length p1.Regs) pc0) p1.Regs, SL (α := Int) 3 (.slice pa1 (List.length p1.Mem) pc1) p1.Mem, SL (α := Int) 3 (.slice pa2 (List.length p1.Stack) pc2) p1.Stack, SL (α := Int) 3 (.slice pa3 (List.length p1.Out) pc3) p1.Out] w44 S36 := hs
    refine from_end rfl (then_normal ?_)
    have hbr := (hs.bx 0 rfl)
    obtain rfl := Option.some.inj h
    have hs : Sep [SL (α := Int) 3 (.slice pa0 (List.length p1.Regs) pc0) p1.Regs, SL (α := Int) 3 (.slice pa1 (List.length p1.Mem) pc1) p1.Mem, SL (α := Int) 3 (.slice pa2 (List.length p1.Stack) pc2) p1.Stack, SL (α := Int) 3 (.slice pa3 (List.length p1.Out) pc3) p1.Out] w44 S36 := Sep.pick [1, 2, 3, 4] hs (by decide) rfl
    exact wp_ret (retS rfl hF ty28 rfl rfl hbr rfl ⟨_, rfl, pa0, pc0, pa1, pc1, pa2, pc2, pa3, pc3, rfl, S36, hM0.out, hs⟩)
  replace h := iteF hb h
  refine wp_seq (wp_pure [(4, .pointer (some ⟨b2, 0, none⟩)), (6, .pointer (some ⟨b3, 0, none⟩)), (7, .pointer (some ⟨b4, 0, none⟩)), (50, .int .i64 x1.Op), (193, .bool (x1.Op == 11))] hF (by kernel_rfl) fun fr hF => then_normal ?_)
  refine (wp_if hF (b := (x1.Op == 11)) rfl (fun hb => ?_) (fun hb => ?_))
  · replace h := iteT hb h
    refine wp_seq (wp_text' ?_)
    refine from_pure 1 [(4, .pointer (some ⟨b2, 0, none⟩)), (6, .pointer (some ⟨b3, 0, none⟩)), (7, .pointer (some ⟨b4, 0, none⟩)), (195, .pointer (some ⟨b2, 3, none⟩))] hF (by kernel_rfl) fun fr hF => ?_
    refine s_loadBox (.slice pa2 (List.length p1.Stack) pc2) ty26 rfl rfl hF rfl (hs.bx 2 rfl) rfl rfl fun fr hF => ?_
    refine from_pure 1 [(4, .pointer (some ⟨b2, 0, none⟩)), (6, .pointer (some ⟨b3, 0, none⟩)), (7, .pointer (some ⟨b4, 0, none⟩)), (196, .slice pa2 (List.length p1.Stack) pc2), (197, .pointer (some ⟨b2, 0, none⟩))] hF (by kernel_rfl) fun fr hF => ?_
    refine s_loadBox (.int .i64 (w64 (p1.Pc + 1))) ty3 rfl rfl hF rfl (hs.bx 2 rfl) rfl rfl fun fr hF => ?_
    refine q_lit (E := 3) hs hM0 [.int .i64 (w64 (p1.Pc + 1))] (([(w64 (p1.Pc + 1))] : List Int).map Flat.enc) ([(w64 (p1.Pc + 1))] : List Int) rfl rfl hF [.int .i64 (w64 (p1.Pc + 1))] rfl (fun w => by kernel_rfl) (css_flat _) rfl rfl rfl fun a5 c5 w45 S37 fr hs hp hF => ?_
    have hM0 := hM0.stp hp
    have hs : Sep [SL (α := Int) 3 (.slice a5 (List.length ([(w64 (p1.Pc + 1))] : List Int)) c5) ([(w64 (p1.Pc + 1))] : List Int), BX b4 66 [.int .i64 x1.Op, .int .i64 x1.A, .int .i64 x1.B, .int .i64 x1.C], BX b3 28 [.int .i64 0, .slice none (List.length ([] : List Int)) 0, .slice none (List.length ([] : List Int)) 0, .slice none (List.length ([] : List Int)) 0, .int .i64 0, .slice none (List.length ([] : List Int)) 0, .int .i64 0, .int .i64 0], BX b2 28 [.int .i64 (w64 (p1.Pc + 1)), .slice pa0 (List.length p1.Regs) pc0, .slice pa1 (List.length p1.Mem) pc1, .slice pa2 (List.length p1.Stack) pc2, .int .i64 p1.In, .slice pa3 (List.length p1.Out) pc3, .int .i64 x2, .int .i64 (w64 (p1.Steps + 1))], SL (α := Int) 3 (.slice pa0 (List.length p1.Regs) pc0) p1.Regs, SL (α := Int) 3 (.slice pa1 (List.length p1.Mem) pc1) p1.Mem, SL (α := Int) 3 (.slice pa2 (List.length p1.Stack) pc2) p1.Stack, SL (α := Int) 3 (.slice pa3 (List.length p1.Out) pc3) p1.Out] w45 S37 := hs
    obtain ⟨x24, hx24, h⟩ := bindE h
    refine q_append 6 hs hM0 rfl Try.underlying26 el3 rfl rfl rfl hF rfl rfl (hs.rv 0 rfl) hx24 fun a6 c6 w46 S38 fr hs hp hF => ?_
    have hM0 := hM0.stp hp
    have hs : Sep [SL (α := Int) 3 (.slice a5 (List.length ([(w64 (p1.Pc + 1))] : List Int)) c5) ([(w64 (p1.Pc + 1))] : List Int), BX b4 66 [.int .i64 x1.Op, .int .i64 x1.A, .int .i64 x1.B, .int .i64 x1.C], BX b3 28 [.int .i64 0, .slice none (List.length ([] : List Int)) 0, .slice none (List.length ([] : List Int)) 0, .slice none (List.length ([] : List Int)) 0, .int .i64 0, .slice none (List.length ([] : List Int)) 0, .int .i64 0, .int .i64 0], BX b2 28 [.int .i64 (w64 (p1.Pc + 1)), .slice pa0 (List.length p1.Regs) pc0, .slice pa1 (List.length p1.Mem) pc1, .slice pa2 (List.length p1.Stack) pc2, .int .i64 p1.In, .slice pa3 (List.length p1.Out) pc3, .int .i64 x2, .int .i64 (w64 (p1.Steps + 1))], SL (α := Int) 3 (.slice pa0 (List.length p1.Regs) pc0) p1.Regs, SL (α := Int) 3 (.slice pa1 (List.length p1.Mem) pc1) p1.Mem, SL (α := Int) 3 (.slice a6 (List.length x24) c6) x24, SL (α := Int) 3 (.slice pa3 (List.length p1.Out) pc3) p1.Out] w46 S38 := hs
    have hs : Sep [BX b4 66 [.int .i64 x1.Op, .int .i64 x1.A, .int .i64 x1.B, .int .i64 x1.C], BX b3 28 [.int .i64 0, .slice none (List.length ([] : List Int)) 0, .slice none (List.length ([] : List Int)) 0, .slice none (List.length ([] : List Int)) 0, .int .i64 0, .slice none (List.length ([] : List Int)) 0, .int .i64 0, .int .i64 0], BX b2 28 [.int .i64 (w64 (p1.Pc + 1)), .slice pa0 (List.length p1.Regs) pc0, .slice pa1 (List.length p1.Mem) pc1, .slice pa2 (List.length p1.Stack) pc2, .int .i64 p1.In, .slice pa3 (List.length p1.Out) pc3, .int .i64 x2, .int .i64 (w64 (p1.Steps + 1))], SL (α := Int) 3 (.slice pa0 (List.length p1.Regs) pc0) p1.Regs, SL (α := Int) 3 (.slice pa1 (List.length p1.Mem) pc1) p1.Mem, SL (α := Int) 3 (.slice a6 (List.length x24) c6) x24, SL (α := Int) 3 (.slice pa3 (List.length p1.Out) pc3) p1.Out] w46 S38 := Sep.pick [1, 2, 3, 4, 5, 6, 7] hs (by decide) rfl
    refine from_pure 1 [(4, .pointer (some ⟨b2, 0, none⟩)), (6, .pointer (some ⟨b3, 0, none⟩)), (7, .pointer (some ⟨b4, 0, none⟩)), (200, .slice a6 (List.length x24) c6), (201, .pointer (some ⟨b2, 3, none⟩))] hF (by kernel_rfl) fun fr hF => ?_
    refine q_storeBox 2 hs hM0 rfl [.int .i64 (w64 (p1.Pc + 1)), .slice pa0 (List.length p1.Regs) pc0, .slice pa1 (List.length p1.Mem) pc1, .slice a6 (List.length x24) c6, .int .i64 p1.In, .slice pa3 (List.length p1.Out) pc3, .int .i64 x2, .int .i64 (w64 (p1.Steps + 1))] rfl hF rfl rfl (by kernel_rfl) rfl rfl rfl fun w47 S39 hs hp hF => ?_
    have hM0 := hM0.stp hp
    have hs : Sep [BX b4 66 [.int .i64 x1.Op, .int .i64 x1.A, .int .i64 x1.B, .int .i64 x1.C], BX b3 28 [.int .i64 0, .slice none (List.length ([] : List Int)) 0, .slice none (List.length ([] : List Int)) 0, .slice none (List.length ([] : List Int)) 0, .int .i64 0, .slice none (List.length ([] : List Int)) 0, .int .i64 0, .int .i64 0], BX b2 28 [.int .i64 (w64 (p1.Pc + 1)), .slice pa0 (List.length p1.Regs) pc0, .slice pa1 (List.length p1.Mem) pc1, .slice a6 (List.length x24) c6, .int .i64 p1.In, .slice pa3 (List.length p1.Out) pc3, .int .i64 x2, .int .i64 (w64 (p1.Steps + 1))], SL (α := Int) 3 (.slice pa0 (List.length p1.Regs) pc0) p1.Regs, SL (α := Int) 3 (.slice pa1 (List.length p1.Mem) pc1) p1.Mem, SL (α := Int) 3 (.slice a6 (List.length x24) c6) x24, SL (α := Int) 3 (.slice pa3 (List.length p1.Out) pc3) p1.Out] w47 S39 := hs
    refine from_end rfl (then_normal ?_)
    refine (wp_text' ?_)
    refine from_pure 1 [(4, .pointer (some ⟨b2, 0, none⟩)), (6, .pointer (some ⟨b3, 0, none⟩)), (202, .pointer (some ⟨b4, 2, none⟩))] hF (by kernel_rfl) fun fr hF => ?_
    refine s_loadBox (.int .i64 x1.B) ty3 rfl rfl hF rfl (hs.bx 0 rfl) rfl rfl fun fr hF => ?_
    have hs : Sep [BX b3 28 [.int .i64 0, .slice none (List.length ([] : List Int)) 0, .slice none (List.length ([] : List Int)) 0, .slice none (List.length ([] : List Int)) 0, .int .i64 0, .slice none (List.length ([] : List Int)) 0, .int .i64 0, .int .i64 0], BX b2 28 [.int .i64 (w64 (p1.Pc + 1)), .slice pa0 (List.length p1.Regs) pc0, .slice pa1 (List.length p1.Mem) pc1, .slice a6 (List.length x24) c6, .int .i64 p1.In, .slice pa3 (List.length p1.Out) pc3, .int .i64 x2, .int .i64 (w64 (p1.Steps + 1))], SL (α := Int) 3 (.slice pa0 (List.length p1.Regs) pc0) p1.Regs, SL (α := Int) 3 (.slice pa1 (List.length p1.Mem) pc1) p1.Mem, SL (α := Int) 3 (.slice a6 (List.length x24) c6) x24, SL (α := Int) 3 (.slice pa3 (List.length p1.Out) pc3) p1.Out] w47 S39 := Sep.pick [1, 2, 3, 4, 5, 6] hs (by decide) rfl
    refine from_pure 1 [(4, .pointer (some ⟨b2, 0, none⟩)), (6, .pointer (some ⟨b3, 0, none⟩)), (203, .int .i64 x1.B), (204, .pointer (some ⟨b2, 0, none⟩))] hF (by kernel_rfl) fun fr hF => ?_
    refine q_storeBox 1 hs hM0 rfl [.int .i64 x1.B, .slice pa0 (List.length p1.Regs) pc0, .slice pa1 (List.length p1.Mem) pc1, .slice a6 (List.length x24) c6, .int .i64 p1.In, .slice pa3 (List.length p1.Out) pc3, .int .i64 x2, .int .i64 (w64 (p1.Steps + 1))] rfl hF rfl rfl (by kernel_rfl) rfl rfl rfl fun w48 S40 hs hp hF => ?_
    have hM0 := hM0.stp hp
    have hs : Sep [BX b3 28 [.int .i64 0, .slice none (List.length ([] : List Int)) 0, .slice none (List.length ([] : List Int)) 0, .slice none (List.length ([] : List Int)) 0, .int .i64 0, .slice none (List.length ([] : List Int)) 0, .int .i64 0, .int .i64 0], BX b2 28 [.int .i64 x1.B, .slice pa0 (List.length p1.Regs) pc0, .slice pa1 (List.length p1.Mem) pc1, .slice a6 (List.length x24) c6, .int .i64 p1.In, .slice pa3 (List.length p1.Out) pc3, .int .i64 x2, .int .i64 (w64 (p1.Steps + 1))], SL (α := Int) 3 (.slice pa0 (List.length p1.Regs) pc0) p1.Regs, SL (α := Int) 3 (.slice pa1 (List.length p1.Mem) pc1) p1.Mem, SL (α := Int) 3 (.slice a6 (List.length x24) c6) x24, SL (α := Int) 3 (.slice pa3 (List.length p1.Out) pc3) p1.Out] w48 S40 := hs
    refine from_end rfl ?_
    refine blk_normal (then_normal ?_)
    refine wp_seq (wp_text' ?_)
    refine s_loadBoxS ty28 rfl rfl hF rfl (hs.bx 1 rfl) rfl rfl fun fr hF => ?_
    have hs : Sep [BX b3 28 [.int .i64 0, .slice none (List.length ([] : List Int)) 0, .slice none (List.length ([] : List Int)) 0, .slice none (List.length ([] : List Int)) 0, .int .i64 0, .slice none (List.length ([] : List Int)) 0, .int .i64 0, .int .i64 0], SL (α := Int) 3 (.slice pa0 (List.length p1.Regs) pc0) p1.Regs, SL (α := Int) 3 (.slice pa1 (List.length p1.Mem) pc1) p1.Mem, SL (α := Int) 3 (.slice a6 (List.length x24) c6) x24, SL (α := Int) 3 (.slice pa3 (List.length p1.Out) pc3) p1.Out] w48 S40 := Sep.pick [0, 2, 3, 4, 5] hs (by decide) rfl
    refine q_storeBoxS 0 hs hM0 rfl [.int .i64 x1.B, .slice pa0 (List.length p1.Regs) pc0, .slice pa1 (List.length p1.Mem) pc1, .slice a6 (List.length x24) c6, .int .i64 p1.In, .slice pa3 (List.length p1.Out) pc3, .int .i64 x2, .int .i64 (w64 (p1.Steps + 1))] rfl hF rfl rfl (by kernel_rfl) rfl rfl rfl fun w49 S41 hs hp hF => ?_
    have hM0 := hM0.stp hp
    have hs : Sep [BX b3 28 [.int .i64 x1.B, .slice pa0 (List.length p1.Regs) pc0, .slice pa1 (List.length p1.Mem) pc1, .slice a6 (List.length x24) c6, .int .i64 p1.In, .slice pa3 (List.length p1.Out) pc3, .int .i64 x2, .int .i64 (w64 (p1.Steps + 1))], SL (α := Int) 3 (.slice pa0 (List.length p1.Regs) pc0) p1.Regs, SL (α := Int) 3 (.slice pa1 (List.length p1.Mem) pc1) p1.Mem, SL (α := Int) 3 (.slice a6 (List.length x24) c6) x24, SL (α := Int) 3 (.slice pa3 (List.length p1.Out) pc3) p1.Out] w49 S41 := hs
    refine from_end rfl (then_normal ?_)
    have hbr := (hs.bx 0 rfl)
    obtain rfl := Option.some.inj h
    have hs : Sep [SL (α := Int) 3 (.slice pa0 (List.length p1.Regs) pc0) p1.Regs, SL (α := Int) 3 (.slice pa1 (List.length p1.Mem) pc1) p1.Mem, SL (α := Int) 3 (.slice a6 (List.length x24) c6) x24, SL (α := Int) 3 (.slice pa3 (List.length p1.Out) pc3) p1.Out] w49 S41 := Sep.pick [1, 2, 3, 4] hs (by decide) rfl
    exact wp_ret (retS rfl hF ty28 rfl rfl hbr rfl ⟨_, rfl, pa0, pc0, pa1, pc1, a6, c6, pa3, pc3, rfl, S41, hM0.out, hs⟩)
  replace h := iteF hb h
  have hs : Sep [BX b3 28 [.int .i64 0, .slice none (List.length ([] : List Int)) 0, .slice none (List.length ([] : List Int)) 0, .slice none (List.length ([] : List Int)) 0, .int .i64 0, .slice none (List.length ([] : List Int)) 0, .int .i64 0, .int .i64 0], BX b2 28 [.int .i64 (w64 (p1.Pc + 1)), .slice pa0 (List.length p1.Regs) pc0, .slice pa1 (List.length p1.Mem) pc1, .slice pa2 (List.length p1.Stack) pc2, .int .i64 p1.In, .slice pa3 (List.length p1.Out) pc3, .int .i64 x2, .int .i64 (w64 (p1.Steps + 1))], SL (α := Int) 3 (.slice pa0 (List.length p1.Regs) pc0) p1.Regs, SL (α := Int) 3 (.slice pa1 (List.length p1.Mem) pc1) p1.Mem, SL (α := Int) 3 (.slice pa2 (List.length p1.Stack) pc2) p1.Stack, SL (α := Int) 3 (.slice pa3 (List.length p1.Out) pc3) p1.Out] w14 S12 := Sep.pick [1, 2, 3, 4, 5, 6] hs (by decide) rfl
  refine wp_seq (wp_pure [(4, .pointer (some ⟨b2, 0, none⟩)), (6, .pointer (some ⟨b3, 0, none⟩)), (205, .bool (x1.Op == 12))] hF (by kernel_rfl) fun fr hF => then_normal ?_)
  refine (wp_if hF (b := (x1.Op == 12)) rfl (fun hb => ?_) (fun hb => ?_))
  · replace h := iteT hb h
    refine wp_seq (wp_text' ?_)
    refine from_pure 1 [(4, .pointer (some ⟨b2, 0, none⟩)), (6, .pointer (some ⟨b3, 0, none⟩)), (207, .pointer (some ⟨b2, 3, none⟩))] hF (by kernel_rfl) fun fr hF => ?_
    refine s_loadBox (.slice pa2 (List.length p1.Stack) pc2) ty26 rfl rfl hF rfl (hs.bx 1 rfl) rfl rfl fun fr hF => ?_
    refine from_pure 3 [(4, .pointer (some ⟨b2, 0, none⟩)), (6, .pointer (some ⟨b3, 0, none⟩)), (8, .int .i64 (w64 ((len p1.Stack) - 1)))] hF (by kernel_rfl) fun fr hF => ?_
    refine from_end rfl (then_normal ?_)
    refine wp_seq (wp_text' ?_)
    refine from_pure 1 [(4, .pointer (some ⟨b2, 0, none⟩)), (6, .pointer (some ⟨b3, 0, none⟩)), (8, .int .i64 (w64 ((len p1.Stack) - 1))), (211, .pointer (some ⟨b2, 3, none⟩))] hF (by kernel_rfl) fun fr hF => ?_
    refine s_loadBox (.slice pa2 (List.length p1.Stack) pc2) ty26 rfl rfl hF rfl (hs.bx 1 rfl) rfl rfl fun fr hF => ?_
    refine from_pure 1 [(4, .pointer (some ⟨b2, 0, none⟩)), (6, .pointer (some ⟨b3, 0, none⟩)), (8, .int .i64 (w64 ((len p1.Stack) - 1))), (212, .slice pa2 (List.length p1.Stack) pc2), (213, .int .i64 (w64 ((len p1.Stack) - 1)))] hF (by kernel_rfl) fun fr hF => ?_
    obtain ⟨x25, hx25, h⟩ := bindE h
    refine s_elemF (z := x25) (.int .i64 x25) ty3 Try.underlying26 rfl rfl rfl rfl rfl hF rfl (hs.rv 4 rfl) rfl (get?_nn hx25) (get?_at hx25) rfl fun p fr hF => ?_
    refine from_pure 1 [(4, .pointer (some ⟨b2, 0, none⟩)), (6, .pointer (some ⟨b3, 0, none⟩)), (8, .int .i64 (w64 ((len p1.Stack) - 1))), (215, .int .i64 x25), (216, .pointer (some ⟨b2, 0, none⟩))] hF (by kernel_rfl) fun fr hF => ?_
    refine q_storeBox 1 hs hM0 rfl [.int .i64 x25, .slice pa0 (List.length p1.Regs) pc0, .slice pa1 (List.length p1.Mem) pc1, .slice pa2 (List.length p1.Stack) pc2, .int .i64 p1.In, .slice pa3 (List.length p1.Out) pc3, .int .i64 x2, .int .i64 (w64 (p1.Steps + 1))] rfl hF rfl rfl (by kernel_rfl) rfl rfl rfl fun w50 S42 hs hp hF => ?_
    have hM0 := hM0.stp hp
    have hs : Sep [BX b3 28 [.int .i64 0, .slice none (List.length ([] : List Int)) 0, .slice none (List.length ([] : List Int)) 0, .slice none (List.length ([] : List Int)) 0, .int .i64 0, .slice none (List.length ([] : List Int)) 0, .int .i64 0, .int .i64 0], BX b2 28 [.int .i64 x25, .slice pa0 (List.length p1.Regs) pc0, .slice pa1 (List.length p1.Mem) pc1, .slice pa2 (List.length p1.Stack) pc2, .int .i64 p1.In, .slice pa3 (List.length p1.Out) pc3, .int .i64 x2, .int .i64 (w64 (p1.Steps + 1))], SL (α := Int) 3 (.slice pa0 (List.length p1.Regs) pc0) p1.Regs, SL (α := Int) 3 (.slice pa1 (List.length p1.Mem) pc1) p1.Mem, SL (α := Int) 3 (.slice pa2 (List.length p1.Stack) pc2) p1.Stack, SL (α := Int) 3 (.slice pa3 (List.length p1.Out) pc3) p1.Out] w50 S42 := hs
    refine from_end rfl (then_normal ?_)
    refine (wp_text' ?_)
    refine from_pure 1 [(4, .pointer (some ⟨b2, 0, none⟩)), (6, .pointer (some ⟨b3, 0, none⟩)), (8, .int .i64 (w64 ((len p1.Stack) - 1))), (217, .pointer (some ⟨b2, 3, none⟩))] hF (by kernel_rfl) fun fr hF => ?_
    refine s_loadBox (.slice pa2 (List.length p1.Stack) pc2) ty26 rfl rfl hF rfl (hs.bx 1 rfl) rfl rfl fun fr hF => ?_
    refine from_pure 1 [(4, .pointer (some ⟨b2, 0, none⟩)), (6, .pointer (some ⟨b3, 0, none⟩)), (218, .slice pa2 (List.length p1.Stack) pc2), (219, .int .i64 (w64 ((len p1.Stack) - 1)))] hF (by kernel_rfl) fun fr hF => ?_
    obtain ⟨x26, hx26, h⟩ := bindE h
    refine q_front 4 hs hM0 rfl Try.underlying26 ty3 rfl rfl hF rfl (.inl rfl) rfl hx26 fun c7 w51 S43 fr hs hp hF => ?_
    have hM0 := hM0.stp hp
    have hs : Sep [BX b3 28 [.int .i64 0, .slice none (List.length ([] : List Int)) 0, .slice none (List.length ([] : List Int)) 0, .slice none (List.length ([] : List Int)) 0, .int .i64 0, .slice none (List.length ([] : List Int)) 0, .int .i64 0, .int .i64 0], BX b2 28 [.int .i64 x25, .slice pa0 (List.length p1.Regs) pc0, .slice pa1 (List.length p1.Mem) pc1, .slice pa2 (List.length p1.Stack) pc2, .int .i64 p1.In, .slice pa3 (List.length p1.Out) pc3, .int .i64 x2, .int .i64 (w64 (p1.Steps + 1))], SL (α := Int) 3 (.slice pa0 (List.length p1.Regs) pc0) p1.Regs, SL (α := Int) 3 (.slice pa1 (List.length p1.Mem) pc1) p1.Mem, SL (α := Int) 3 (.slice pa2 (List.length x26) c7) x26, SL (α := Int) 3 (.slice pa3 (List.length p1.Out) pc3) p1.Out] w51 S43 := hs
    refine from_pure 1 [(4, .pointer (some ⟨b2, 0, none⟩)), (6, .pointer (some ⟨b3, 0, none⟩)), (220, .slice pa2 (List.length x26) c7), (221, .pointer (some ⟨b2, 3, none⟩))] hF (by kernel_rfl) fun fr hF => ?_
    refine q_storeBox 1 hs hM0 rfl [.int .i64 x25, .slice pa0 (List.length p1.Regs) pc0, .slice pa1 (List.length p1.Mem) pc1, .slice pa2 (List.length x26) c7, .int .i64 p1.In, .slice pa3 (List.length p1.Out) pc3, .int .i64 x2, .int .i64 (w64 (p1.Steps + 1))] rfl hF rfl rfl (by kernel_rfl) rfl rfl rfl fun w52 S44 hs hp hF => ?_
    have hM0 := hM0.stp hp
    have hs : Sep [BX b3 28 [.int .i64 0, .slice none (List.length ([] : List Int)) 0, .slice none (List.length ([] : List Int)) 0, .slice none (List.length ([] : List Int)) 0, .int .i64 0, .slice none (List.length ([] : List Int)) 0, .int .i64 0, .int .i64 0], BX b2 28 [.int .i64 x25, .slice pa0 (List.length p1.Regs) pc0, .slice pa1 (List.length p1.Mem) pc1, .slice pa2 (List.length x26) c7, .int .i64 p1.In, .slice pa3 (List.length p1.Out) pc3, .int .i64 x2, .int .i64 (w64 (p1.Steps + 1))], SL (α := Int) 3 (.slice pa0 (List.length p1.Regs) pc0) p1.Regs, SL (α := Int) 3 (.slice pa1 (List.length p1.Mem) pc1) p1.Mem, SL (α := Int) 3 (.slice pa2 (List.length x26) c7) x26, SL (α := Int) 3 (.slice pa3 (List.length p1.Out) pc3) p1.Out] w52 S44 := hs
    refine from_end rfl ?_
    refine blk_normal (then_normal ?_)
    refine wp_seq (wp_text' ?_)
    refine s_loadBoxS ty28 rfl rfl hF rfl (hs.bx 1 rfl) rfl rfl fun fr hF => ?_
    have hs : Sep [BX b3 28 [.int .i64 0, .slice none (List.length ([] : List Int)) 0, .slice none (List.length ([] : List Int)) 0, .slice none (List.length ([] : List Int)) 0, .int .i64 0, .slice none (List.length ([] : List Int)) 0, .int .i64 0, .int .i64 0], SL (α := Int) 3 (.slice pa0 (List.length p1.Regs) pc0) p1.Regs, SL (α := Int) 3 (.slice pa1 (List.length p1.Mem) pc1) p1.Mem, SL (α := Int) 3 (.slice pa2 (List.length x26) c7) x26, SL (α := Int) 3 (.slice pa3 (List.length p1.Out) pc3) p1.Out] w52 S44 := Sep.pick [0, 2, 3, 4, 5] hs (by decide) rfl
    refine q_storeBoxS 0 hs hM0 rfl [.int .i64 x25, .slice pa0 (List.length p1.Regs) pc0, .slice pa1 (List.length p1.Mem) pc1, .slice pa2 (List.length x26) c7, .int .i64 p1.In, .slice pa3 (List.length p1.Out) pc3, .int .i64 x2, .int .i64 (w64 (p1.Steps + 1))] rfl hF rfl rfl (by kernel_rfl) rfl rfl rfl fun w53 S45 hs hp hF => ?_
    have hM0 := hM0.stp hp
    have hs : Sep [BX b3 28 [.int .i64 x25, .slice pa0 (List.length p1.Regs) pc0, .slice pa1 (List.length p1.Mem) pc1, .slice pa2 (List.length x26) c7, .int .i64 p1.In, .slice pa3 (List.length p1.Out) pc3, .int .i64 x2, .int .i64 (w64 (p1.Steps + 1))], SL (α := Int) 3 (.slice pa0 (List.length p1.Regs) pc0) p1.Regs, SL (α := Int) 3 (.slice pa1 (List.length p1.Mem) pc1) p1.Mem, SL (α := Int) 3 (.slice pa2 (List.length x26) c7) x26, SL (α := Int) 3 (.slice pa3 (List.length p1.Out) pc3) p1.Out] w53 S45 := hs
    refine from_end rfl (then_normal ?_)
    have hbr := (hs.bx 0 rfl)
    obtain rfl := Option.some.inj h
    have hs : Sep [SL (α := Int) 3 (.slice pa0 (List.length p1.Regs) pc0) p1.Regs, SL (α := Int) 3 (.slice pa1 (List.length p1.Mem) pc1) p1.Mem, SL (α := Int) 3 (.slice pa2 (List.length x26) c7) x26, SL (α := Int) 3 (.slice pa3 (List.length p1.Out) pc3) p1.Out] w53 S45 := Sep.pick [1, 2, 3, 4] hs (by decide) rfl
    exact wp_ret (retS rfl hF ty28 rfl rfl hbr rfl ⟨_, rfl, pa0, pc0, pa1, pc1, pa2, c7, pa3, pc3, rfl, S45, hM0.out, hs⟩)
  replace h := iteF hb h
  refine (wp_skip ?_)
  refine blk_normal (then_normal ?_)
  refine wp_seq (wp_text' ?_)
  refine s_loadBoxS ty28 rfl rfl hF rfl (hs.bx 1 rfl) rfl rfl fun fr hF => ?_
  have hs : Sep [BX b3 28 [.int .i64 0, .slice none (List.length ([] : List Int)) 0, .slice none (List.length ([] : List Int)) 0, .slice none (List.length ([] : List Int)) 0, .int .i64 0, .slice none (List.length ([] : List Int)) 0, .int .i64 0, .int .i64 0], SL (α := Int) 3 (.slice pa0 (List.length p1.Regs) pc0) p1.Regs, SL (α := Int) 3 (.slice pa1 (List.length p1.Mem) pc1) p1.Mem, SL (α := Int) 3 (.slice pa2 (List.length p1.Stack) pc2) p1.Stack, SL (α := Int) 3 (.slice pa3 (List.length p1.Out) pc3) p1.Out] w14 S12 := Sep.pick [0, 2, 3, 4, 5] hs (by decide) rfl
  refine q_storeBoxS 0 hs hM0 rfl [.int .i64 (w64 (p1.Pc + 1)), .slice pa0 (List.length p1.Regs) pc0, .slice pa1 (List.length p1.Mem) pc1, .slice pa2 (List.length p1.Stack) pc2, .int .i64 p1.In, .slice pa3 (List.length p1.Out) pc3, .int .i64 x2, .int .i64 (w64 (p1.Steps + 1))] rfl hF rfl rfl (by kernel_rfl) rfl rfl rfl fun w54 S46 hs hp hF => ?_
  have hM0 := hM0.stp hp
  have hs : Sep [BX b3 28 [.int .i64 (w64 (p1.Pc + 1)), .slice pa0 (List.length p1.Regs) pc0, .slice pa1 (List.length p1.Mem) pc1, .slice pa2 (List.length p1.Stack) pc2, .int .i64 p1.In, .slice pa3 (List.length p1.Out) pc3, .int .i64 x2, .int .i64 (w64 (p1.Steps + 1))], SL (α := Int) 3 (.slice pa0 (List.length p1.Regs) pc0) p1.Regs, SL (α := Int) 3 (.slice pa1 (List.length p1.Mem) pc1) p1.Mem, SL (α := Int) 3 (.slice pa2 (List.length p1.Stack) pc2) p1.Stack, SL (α := Int) 3 (.slice pa3 (List.length p1.Out) pc3) p1.Out] w54 S46 := hs
  refine from_end rfl (then_normal ?_)
  have hbr := (hs.bx 0 rfl)
  obtain rfl := Option.some.inj h
  have hs : Sep [SL (α := Int) 3 (.slice pa0 (List.length p1.Regs) pc0) p1.Regs, SL (α := Int) 3 (.slice pa1 (List.length p1.Mem) pc1) p1.Mem, SL (α := Int) 3 (.slice pa2 (List.length p1.Stack) pc2) p1.Stack, SL (α := Int) 3 (.slice pa3 (List.length p1.Out) pc3) p1.Out] w54 S46 := Sep.pick [1, 2, 3, 4] hs (by decide) rfl
  exact wp_ret (retS rfl hF ty28 rfl rfl hbr rfl ⟨_, rfl, pa0, pc0, pa1, pc1, pa2, pc2, pa3, pc3, rfl, S46, hM0.out, hs⟩)

theorem spec_TraceOf_ok (n : Nat) (p0 : D.Program) (p1 : List Int) (p2 : Int) {r : (List Int)} (h : spec_TraceOf n p0 p1 p2 = some r) {w : World} {G0 : Nat → Prop} {va0 : Value} (ra0 : RV w G0 va0 p0) {G1 : Nat → Prop} {va1 : Value} (ra1 : RV w G1 va1 p1) :
    Calls Try.prog 28 [va0, va1, .int .i64 p2].toArray w fun e w' => ∃ v, e = .returned v ∧ ∃ a1 c1, v = .slice a1 (List.length r) c1 ∧ ∃ S', Stp w Non w' S' ∧ Sep [SL (α := Int) 3 (.slice a1 (List.length r) c1) r] w' S' := by
  unfold spec_TraceOf at h
  have hs := Sep.nil w Non
  have hM0 : Mem w Non (fun k => (G0 k ∨ G1 k) ∧ k < w.heap.size) w Non (fun k => (G0 k ∨ G1 k) ∧ k < w.heap.size) := Mem.start (fun _ h => h.elim) (fun _ h => h.2) (fun _ h => h.elim)
  have ra0 := ra0.sub (F' := (fun k => (G0 k ∨ G1 k) ∧ k < w.heap.size)) (fun k hk h => ⟨.inl h, hk⟩)
  obtain ⟨v1, rfl, r1⟩ := RV.Program ra0
  obtain ⟨a1, c1, rfl, -⟩ := r1.slice
  have ra1 := ra1.sub (F' := (fun k => (G0 k ∨ G1 k) ∧ k < w.heap.size)) (fun k hk h => ⟨.inr (h), hk⟩)
  obtain ⟨a2, c2, rfl, -⟩ := ra1.slice
  refine enter (N := 51) Try.func28 rfl Try.ntmps28 rfl fun fr hF => ?_
  refine wp_seq (wp_text' ?_)
  refine q_box hs hM0 [.int .i64 p0.W, .int .i64 p0.Mem, .int .i64 p0.In, .slice a1 (List.length p0.Code) c1] rfl rfl hF rfl rfl fun b1 w1 S1 fr hs hp hF => ?_
  have r1 := r1.stp hM0 hp
  have ra1 := ra1.stp hM0 hp
  have hM0 := hM0.stp hp
  have hs : Sep [BX b1 32 [.int .i64 p0.W, .int .i64 p0.Mem, .int .i64 p0.In, .slice a1 (List.length p0.Code) c1]] w1 S1 := hs
  refine from_pure 1 [(1, .slice a2 (List.length p1) c2), (2, .int .i64 p2), (3, .pointer (some ⟨b1, 0, none⟩))] hF (by kernel_rfl) fun fr hF => ?_
  refine from_end rfl (then_normal ?_)
  refine wp_seq ?_
  obtain ⟨x1, hx1, h⟩ := bindE h
  obtain ⟨x2, hx2, h⟩ := bindE h
  refine wp_seq (region_b [] [false, true, false, true, true, true, false, true, true]
      [.eq (.agg #[.int .i64 p0.W, .int .i64 p0.Mem, .int .i64 p0.In, .slice a1 (List.length p0.Code) c1]), .eq (.slice a2 (List.length p1) c2), .eq (.bool x1), .eq (.bool (!x1)), .eq (.bool (!x1)), .eq (.int .i64 p2), .eq (.bool x2), .eq (.bool (!x2)), .eq (.bool ((!x1) || (!x2)))]
      [(1, .slice a2 (List.length p1) c2), (2, .int .i64 p2), (3, .pointer (some ⟨b1, 0, none⟩)), (20, .bool ((!x1) || (!x2)))] mix hF (by kernel_rfl) (by kernel_rfl) (by kernel_rfl) ⟨Pd.mono_eq, Pd.mono_eq, Pd.mono_eq, trivial⟩ (fun hG => ⟨np_loadBoxS hG hF ty32 rfl rfl (hs.bx 0 rfl) rfl rfl rfl rfl, np_call [.agg #[.int .i64 p0.W, .int .i64 p0.Mem, .int .i64 p0.In, .slice a1 (List.length p0.Code) c1], .slice a2 (List.length p1) c2] hG hF Try.call45 rfl rfl (fun w hC hg => (spec_InputsOk_ok n p0 p1 hx1 ((RV.mk_Program p0 (r1)).ext hC) ((ra1).ext hC)).mono fun e w' ⟨v, he, hv, hc⟩ => ⟨v, he, hc, hv⟩), np_call [.int .i64 p2, .int .i64 0, .int .i64 400] hG hF Try.call52 rfl rfl (fun w hC hg => (spec_l01In_ok p2 0 400 (iteF hg.2 hx2)).mono fun e w' ⟨v, he, hv, hc⟩ => ⟨v, he, hc, hv⟩), trivial⟩) (by kernel_rfl) fun fr w2 hF hE hc => then_normal ?_)
  have ra1 := ra1.ext hc
  have r1 := r1.ext hc
  have hs := hs.ext hc
  have hM0 := hM0.ext hc
  refine (wp_if hF (b := ((!x1) || (!x2))) rfl (fun hb => ?_) (fun hb => ?_))
  · replace h := iteT hb h
    have hs : Sep [] w2 S1 := Sep.pick [] hs (by decide) rfl
    refine wp_seq (wp_pure [(6, .slice none (List.length ([] : List Int)) 0)] hF (by kernel_rfl) fun fr hF => then_normal ?_)
    have hs : Sep [SL (α := Int) 3 (.slice none (List.length ([] : List Int)) 0) ([] : List Int)] w2 S1 := hs.cons_nil (α := Int) 3
    obtain rfl := Option.some.inj h
    exact wp_ret (then_ret (ret1 rfl hF rfl ⟨_, rfl, none, 0, rfl, S1, hM0.out, hs⟩))
  replace h := iteF hb h
  refine (wp_skip (then_normal ?_))
  refine wp_seq (wp_text' ?_)
  refine q_lit (E := 3) hs hM0 [] (([] : List Int).map Flat.enc) ([] : List Int) rfl rfl hF [] rfl (fun w => by kernel_rfl) (css_flat _) rfl rfl rfl fun a3 c3 w3 S2 fr hs hp hF => ?_
  have ra1 := ra1.stp hM0 hp
  have r1 := r1.stp hM0 hp
  have hM0 := hM0.stp hp
  have hs : Sep [SL (α := Int) 3 (.slice a3 (List.length ([] : List Int)) c3) ([] : List Int), BX b1 32 [.int .i64 p0.W, .int .i64 p0.Mem, .int .i64 p0.In, .slice a1 (List.length p0.Code) c1]] w3 S2 := hs
  refine from_pure 1 [(1, .slice a2 (List.length p1) c2), (2, .int .i64 p2), (3, .pointer (some ⟨b1, 0, none⟩)), (7, .slice a3 (List.length ([] : List Int)) c3)] hF (by kernel_rfl) fun fr hF => ?_
  refine from_end rfl (then_normal ?_)
  refine wp_seq (wp_text' ?_)
  refine s_loadBoxS ty32 rfl rfl hF rfl (hs.bx 1 rfl) rfl rfl fun fr hF => ?_
  obtain ⟨x3, hx3, h⟩ := bindE h
  refine s_call [.agg #[.int .i64 p0.W, .int .i64 p0.Mem, .int .i64 p0.In, .slice a1 (List.length p0.Code) c1]] Try.call11 rfl rfl hF rfl (spec_NewState_ok n p0 hx3 (RV.mk_Program p0 (r1))) fun v w4 fr hRes hF => ?_
  obtain ⟨a4, c4, a5, c5, a6, c6, a7, c7, rfl, _, hp, hs2⟩ := hRes
  obtain ⟨S3, hp, hs⟩ := hs.got hM0 hp hs2
  have ra1 := ra1.stp hM0 hp
  have r1 := r1.stp hM0 hp
  have hM0 := hM0.stp hp
  have hs : Sep [SL (α := Int) 3 (.slice a4 (List.length x3.Regs) c4) x3.Regs, SL (α := Int) 3 (.slice a5 (List.length x3.Mem) c5) x3.Mem, SL (α := Int) 3 (.slice a6 (List.length x3.Stack) c6) x3.Stack, SL (α := Int) 3 (.slice a7 (List.length x3.Out) c7) x3.Out, SL (α := Int) 3 (.slice a3 (List.length ([] : List Int)) c3) ([] : List Int), BX b1 32 [.int .i64 p0.W, .int .i64 p0.Mem, .int .i64 p0.In, .slice a1 (List.length p0.Code) c1]] w4 S3 := hs
  refine q_alloc (z := .agg #[.int .i64 0, .slice none (List.length ([] : List Int)) 0, .slice none (List.length ([] : List Int)) 0, .slice none (List.length ([] : List Int)) 0, .int .i64 0, .slice none (List.length ([] : List Int)) 0, .int .i64 0, .int .i64 0]) hs hM0 [.int .i64 0, .slice none (List.length ([] : List Int)) 0, .slice none (List.length ([] : List Int)) 0, .slice none (List.length ([] : List Int)) 0, .int .i64 0, .slice none (List.length ([] : List Int)) 0, .int .i64 0, .int .i64 0] rfl rfl hF (by kernel_rfl) rfl fun b2 w5 S4 fr hs hp hF => ?_
  have ra1 := ra1.stp hM0 hp
  have r1 := r1.stp hM0 hp
  have hM0 := hM0.stp hp
  have hs : Sep [BX b2 28 [.int .i64 0, .slice none (List.length ([] : List Int)) 0, .slice none (List.length ([] : List Int)) 0, .slice none (List.length ([] : List Int)) 0, .int .i64 0, .slice none (List.length ([] : List Int)) 0, .int .i64 0, .int .i64 0], SL (α := Int) 3 (.slice a4 (List.length x3.Regs) c4) x3.Regs, SL (α := Int) 3 (.slice a5 (List.length x3.Mem) c5) x3.Mem, SL (α := Int) 3 (.slice a6 (List.length x3.Stack) c6) x3.Stack, SL (α := Int) 3 (.slice a7 (List.length x3.Out) c7) x3.Out, SL (α := Int) 3 (.slice a3 (List.length ([] : List Int)) c3) ([] : List Int), BX b1 32 [.int .i64 p0.W, .int .i64 p0.Mem, .int .i64 p0.In, .slice a1 (List.length p0.Code) c1]] w5 S4 := hs
  refine q_storeBoxS 0 hs hM0 rfl [.int .i64 x3.Pc, .slice a4 (List.length x3.Regs) c4, .slice a5 (List.length x3.Mem) c5, .slice a6 (List.length x3.Stack) c6, .int .i64 x3.In, .slice a7 (List.length x3.Out) c7, .int .i64 x3.Code, .int .i64 x3.Steps] rfl hF rfl rfl (by kernel_rfl) rfl rfl rfl fun w6 S5 hs hp hF => ?_
  have ra1 := ra1.stp hM0 hp
  have r1 := r1.stp hM0 hp
  have hM0 := hM0.stp hp
  have hs : Sep [BX b2 28 [.int .i64 x3.Pc, .slice a4 (List.length x3.Regs) c4, .slice a5 (List.length x3.Mem) c5, .slice a6 (List.length x3.Stack) c6, .int .i64 x3.In, .slice a7 (List.length x3.Out) c7, .int .i64 x3.Code, .int .i64 x3.Steps], SL (α := Int) 3 (.slice a4 (List.length x3.Regs) c4) x3.Regs, SL (α := Int) 3 (.slice a5 (List.length x3.Mem) c5) x3.Mem, SL (α := Int) 3 (.slice a6 (List.length x3.Stack) c6) x3.Stack, SL (α := Int) 3 (.slice a7 (List.length x3.Out) c7) x3.Out, SL (α := Int) 3 (.slice a3 (List.length ([] : List Int)) c3) ([] : List Int), BX b1 32 [.int .i64 p0.W, .int .i64 p0.Mem, .int .i64 p0.In, .slice a1 (List.length p0.Code) c1]] w6 S5 := hs
  refine from_end rfl (then_normal ?_)
  refine wp_seq ?_
  refine wp_seq (wp_pure [(1, .slice a2 (List.length p1) c2), (2, .int .i64 p2), (3, .pointer (some ⟨b1, 0, none⟩)), (7, .slice a3 (List.length ([] : List Int)) c3), (8, .pointer (some ⟨b2, 0, none⟩)), (9, .int .i64 0)] hF (by kernel_rfl) fun fr hF => then_normal ?_)
  obtain ⟨rl1, hit1, h⟩ := bindE h
  have hk1 := h
  refine (wp_cut (M := fun fr w' => ∃ a13 c13 S7 F2, FrS 51 [(7, .slice a13 (List.length rl1) c13)] fr ∧ Mem w6 S5 (fun k => (G0 k ∨ G1 k) ∧ k < w.heap.size) w' S7 F2 ∧ Sep [SL (α := Int) 3 (.slice a13 (List.length rl1) c13) rl1] w' S7) (wp_block (wp_iter (Inv := fun s1 fr w' => ∃ a8 c8 a9 c9 a10 c10 a11 c11 a12 c12 S6 F1, FrS 51 [(1, .slice a2 (List.length p1) c2), (2, .int .i64 p2), (3, .pointer (some ⟨b1, 0, none⟩)), (7, .slice a12 (List.length s1.2.2.2.2.2.2.2.2.2) c12), (8, .pointer (some ⟨b2, 0, none⟩)), (9, .int .i64 s1.1)] fr ∧ Mem w6 S5 (fun k => (G0 k ∨ G1 k) ∧ k < w.heap.size) w' S6 F1 ∧ Sep [BX b2 28 [.int .i64 s1.2.1, .slice a8 (List.length s1.2.2.2.2.2.1) c8, .slice a9 (List.length s1.2.2.2.2.2.2.1) c9, .slice a10 (List.length s1.2.2.2.2.2.2.2.1) c10, .int .i64 s1.2.2.1, .slice a11 (List.length s1.2.2.2.2.2.2.2.2.1) c11, .int .i64 s1.2.2.2.1, .int .i64 s1.2.2.2.2.1], SL (α := Int) 3 (.slice a8 (List.length s1.2.2.2.2.2.1) c8) s1.2.2.2.2.2.1, SL (α := Int) 3 (.slice a9 (List.length s1.2.2.2.2.2.2.1) c9) s1.2.2.2.2.2.2.1, SL (α := Int) 3 (.slice a10 (List.length s1.2.2.2.2.2.2.2.1) c10) s1.2.2.2.2.2.2.2.1, SL (α := Int) 3 (.slice a11 (List.length s1.2.2.2.2.2.2.2.2.1) c11) s1.2.2.2.2.2.2.2.2.1, SL (α := Int) 3 (.slice a12 (List.length s1.2.2.2.2.2.2.2.2.2) c12) s1.2.2.2.2.2.2.2.2.2, BX b1 32 [.int .i64 p0.W, .int .i64 p0.Mem, .int .i64 p0.In, .slice a1 (List.length p0.Code) c1]] w' S6) hit1 ⟨a4, c4, a5, c5, a6, c6, a7, c7, a3, c3, S5, _, hF.sub _ (by kernel_rfl), (Mem.start hM0.bd hM0.bdF hM0.dj), hs⟩ fun s1 q1 fr w1i hI h hr1 => ?_)) fun fr w1o hM => ?_)
  · obtain ⟨a8, c8, a9, c9, a10, c10, a11, c11, a12, c12, S6, F1, hF, hM1, hs⟩ := hI
    have ra1 := ra1.mem hM1
    have r1 := r1.mem hM1
    refine wp_seq ?_
    refine wp_seq (region_b [] [true, true, true, true, true, false, true, true]
        [.eq (.int .i64 s1.1), .eq (.int .i64 p2), .eq (.bool (decide (s1.1 < p2))), .eq (.bool (decide (s1.1 < p2))), .eq (.pointer (some ⟨b2, 6, none⟩)), .eq (.int .i64 s1.2.2.2.1), .eq (.bool (s1.2.2.2.1 == 0)), .eq (.bool ((decide (s1.1 < p2)) && (s1.2.2.2.1 == 0)))]
        [(1, .slice a2 (List.length p1) c2), (2, .int .i64 p2), (3, .pointer (some ⟨b1, 0, none⟩)), (7, .slice a12 (List.length s1.2.2.2.2.2.2.2.2.2) c12), (8, .pointer (some ⟨b2, 0, none⟩)), (9, .int .i64 s1.1), (31, .bool ((decide (s1.1 < p2)) && (s1.2.2.2.1 == 0)))] mix hF (by kernel_rfl) (by kernel_rfl) (by kernel_rfl) ⟨Pd.mono_eq, trivial⟩ (fun hG => ⟨np_loadBox hG hF ty3 rfl rfl (hs.bx 0 rfl) rfl rfl rfl, trivial⟩) (by kernel_rfl) fun fr w7 hF hE hc => then_normal ?_)
    have ra1 := ra1.ext hc
    have r1 := r1.ext hc
    have hs := hs.ext hc
    have hM1 := hM1.ext hc
    refine (wp_if hF (b := ((decide (s1.1 < p2)) && (s1.2.2.2.1 == 0))) rfl (fun hb => ?_) (fun hb => ?_))
    · replace h := iteT hb h
      refine (wp_skip (then_normal ?_))
      refine wp_seq (wp_block ?_)
      refine wp_seq (wp_text' ?_)
      refine from_pure 1 [(1, .slice a2 (List.length p1) c2), (2, .int .i64 p2), (3, .pointer (some ⟨b1, 0, none⟩)), (7, .slice a12 (List.length s1.2.2.2.2.2.2.2.2.2) c12), (8, .pointer (some ⟨b2, 0, none⟩)), (9, .int .i64 s1.1), (34, .pointer (some ⟨b2, 0, none⟩))] hF (by kernel_rfl) fun fr hF => ?_
      refine s_loadBox (.int .i64 s1.2.1) ty3 rfl rfl hF rfl (hs.bx 0 rfl) rfl rfl fun fr hF => ?_
      refine from_pure 1 [(1, .slice a2 (List.length p1) c2), (2, .int .i64 p2), (3, .pointer (some ⟨b1, 0, none⟩)), (7, .slice a12 (List.length s1.2.2.2.2.2.2.2.2.2) c12), (8, .pointer (some ⟨b2, 0, none⟩)), (9, .int .i64 s1.1), (10, .int .i64 s1.2.1)] hF (by kernel_rfl) fun fr hF => ?_
      refine from_end rfl (then_normal ?_)
      refine wp_seq (wp_text' ?_)
      refine from_pure 1 [(1, .slice a2 (List.length p1) c2), (2, .int .i64 p2), (3, .pointer (some ⟨b1, 0, none⟩)), (7, .slice a12 (List.length s1.2.2.2.2.2.2.2.2.2) c12), (8, .pointer (some ⟨b2, 0, none⟩)), (9, .int .i64 s1.1), (10, .int .i64 s1.2.1), (36, .pointer (some ⟨b2, 7, none⟩))] hF (by kernel_rfl) fun fr hF => ?_
      refine s_loadBox (.int .i64 s1.2.2.2.2.1) ty3 rfl rfl hF rfl (hs.bx 0 rfl) rfl rfl fun fr hF => ?_
      refine from_pure 1 [(1, .slice a2 (List.length p1) c2), (2, .int .i64 p2), (3, .pointer (some ⟨b1, 0, none⟩)), (7, .slice a12 (List.length s1.2.2.2.2.2.2.2.2.2) c12), (8, .pointer (some ⟨b2, 0, none⟩)), (9, .int .i64 s1.1), (10, .int .i64 s1.2.1), (11, .int .i64 s1.2.2.2.2.1)] hF (by kernel_rfl) fun fr hF => ?_
      refine from_end rfl (then_normal ?_)
      refine wp_seq (wp_text' ?_)
      refine s_loadBoxS ty32 rfl rfl hF rfl (hs.bx 6 rfl) rfl rfl fun fr hF => ?_
      refine s_loadBoxS ty28 rfl rfl hF rfl (hs.bx 0 rfl) rfl rfl fun fr hF => ?_
      refine from_pure 1 [(1, .slice a2 (List.length p1) c2), (2, .int .i64 p2), (3, .pointer (some ⟨b1, 0, none⟩)), (7, .slice a12 (List.length s1.2.2.2.2.2.2.2.2.2) c12), (8, .pointer (some ⟨b2, 0, none⟩)), (9, .int .i64 s1.1), (10, .int .i64 s1.2.1), (11, .int .i64 s1.2.2.2.2.1), (38, .agg #[.int .i64 p0.W, .int .i64 p0.Mem, .int .i64 p0.In, .slice a1 (List.length p0.Code) c1]), (39, .agg #[.int .i64 s1.2.1, .slice a8 (List.length s1.2.2.2.2.2.1) c8, .slice a9 (List.length s1.2.2.2.2.2.2.1) c9, .slice a10 (List.length s1.2.2.2.2.2.2.2.1) c10, .int .i64 s1.2.2.1, .slice a11 (List.length s1.2.2.2.2.2.2.2.2.1) c11, .int .i64 s1.2.2.2.1, .int .i64 s1.2.2.2.2.1]), (40, .slice a2 (List.length p1) c2)] hF (by kernel_rfl) fun fr hF => ?_
      obtain ⟨x4, hx4, h⟩ := bindE h
      have hs : Sep [SL (α := Int) 3 (.slice a8 (List.length s1.2.2.2.2.2.1) c8) s1.2.2.2.2.2.1, SL (α := Int) 3 (.slice a9 (List.length s1.2.2.2.2.2.2.1) c9) s1.2.2.2.2.2.2.1, SL (α := Int) 3 (.slice a10 (List.length s1.2.2.2.2.2.2.2.1) c10) s1.2.2.2.2.2.2.2.1, SL (α := Int) 3 (.slice a11 (List.length s1.2.2.2.2.2.2.2.2.1) c11) s1.2.2.2.2.2.2.2.2.1, BX b2 28 [.int .i64 s1.2.1, .slice a8 (List.length s1.2.2.2.2.2.1) c8, .slice a9 (List.length s1.2.2.2.2.2.2.1) c9, .slice a10 (List.length s1.2.2.2.2.2.2.2.1) c10, .int .i64 s1.2.2.1, .slice a11 (List.length s1.2.2.2.2.2.2.2.2.1) c11, .int .i64 s1.2.2.2.1, .int .i64 s1.2.2.2.2.1], SL (α := Int) 3 (.slice a12 (List.length s1.2.2.2.2.2.2.2.2.2) c12) s1.2.2.2.2.2.2.2.2.2, BX b1 32 [.int .i64 p0.W, .int .i64 p0.Mem, .int .i64 p0.In, .slice a1 (List.length p0.Code) c1]] w7 S6 := Sep.pick [1, 2, 3, 4, 0, 5, 6] hs (by decide) rfl
      obtain ⟨A1, R1, hsA, hsR, hdA, hbA, hup⟩ := Sep.call (L1 := [SL (α := Int) 3 (.slice a8 (List.length s1.2.2.2.2.2.1) c8) s1.2.2.2.2.2.1, SL (α := Int) 3 (.slice a9 (List.length s1.2.2.2.2.2.2.1) c9) s1.2.2.2.2.2.2.1, SL (α := Int) 3 (.slice a10 (List.length s1.2.2.2.2.2.2.2.1) c10) s1.2.2.2.2.2.2.2.1, SL (α := Int) 3 (.slice a11 (List.length s1.2.2.2.2.2.2.2.2.1) c11) s1.2.2.2.2.2.2.2.2.1]) (L2 := [BX b2 28 [.int .i64 s1.2.1, .slice a8 (List.length s1.2.2.2.2.2.1) c8, .slice a9 (List.length s1.2.2.2.2.2.2.1) c9, .slice a10 (List.length s1.2.2.2.2.2.2.2.1) c10, .int .i64 s1.2.2.1, .slice a11 (List.length s1.2.2.2.2.2.2.2.2.1) c11, .int .i64 s1.2.2.2.1, .int .i64 s1.2.2.2.2.1], SL (α := Int) 3 (.slice a12 (List.length s1.2.2.2.2.2.2.2.2.2) c12) s1.2.2.2.2.2.2.2.2.2, BX b1 32 [.int .i64 p0.W, .int .i64 p0.Mem, .int .i64 p0.In, .slice a1 (List.length p0.Code) c1]]) hs hM1
      refine s_call [.agg #[.int .i64 p0.W, .int .i64 p0.Mem, .int .i64 p0.In, .slice a1 (List.length p0.Code) c1], .agg #[.int .i64 s1.2.1, .slice a8 (List.length s1.2.2.2.2.2.1) c8, .slice a9 (List.length s1.2.2.2.2.2.2.1) c9, .slice a10 (List.length s1.2.2.2.2.2.2.2.1) c10, .int .i64 s1.2.2.1, .slice a11 (List.length s1.2.2.2.2.2.2.2.2.1) c11, .int .i64 s1.2.2.2.1, .int .i64 s1.2.2.2.2.1], .slice a2 (List.length p1) c2] Try.call46 rfl rfl hF rfl (spec_l05Step_ok p0 (D.State.mk s1.2.1 s1.2.2.2.2.2.1 s1.2.2.2.2.2.2.1 s1.2.2.2.2.2.2.2.1 s1.2.2.1 s1.2.2.2.2.2.2.2.2.1 s1.2.2.2.1 s1.2.2.2.2.1) p1 hx4 hsA hbA hdA (RV.mk_Program p0 (r1.big (fun _ h => .inl h))) (ra1.big (fun _ h => .inl h))) fun v w8 fr hRes hF => ?_
      obtain ⟨a14, c14, a15, c15, a16, c16, a17, c17, rfl, _, hp, hs⟩ := hRes
      obtain ⟨S8, hp, hs⟩ := hup hp hs
      have ra1 := ra1.stp hM1 hp
      have r1 := r1.stp hM1 hp
      have hM1 := hM1.stp hp
      have hs : Sep [SL (α := Int) 3 (.slice a14 (List.length x4.Regs) c14) x4.Regs, SL (α := Int) 3 (.slice a15 (List.length x4.Mem) c15) x4.Mem, SL (α := Int) 3 (.slice a16 (List.length x4.Stack) c16) x4.Stack, SL (α := Int) 3 (.slice a17 (List.length x4.Out) c17) x4.Out, BX b2 28 [.int .i64 s1.2.1, .slice a8 (List.length s1.2.2.2.2.2.1) c8, .slice a9 (List.length s1.2.2.2.2.2.2.1) c9, .slice a10 (List.length s1.2.2.2.2.2.2.2.1) c10, .int .i64 s1.2.2.1, .slice a11 (List.length s1.2.2.2.2.2.2.2.2.1) c11, .int .i64 s1.2.2.2.1, .int .i64 s1.2.2.2.2.1], SL (α := Int) 3 (.slice a12 (List.length s1.2.2.2.2.2.2.2.2.2) c12) s1.2.2.2.2.2.2.2.2.2, BX b1 32 [.int .i64 p0.W, .int .i64 p0.Mem, .int .i64 p0.In, .slice a1 (List.length p0.Code) c1]] w8 S8 := hs
      refine q_storeBoxS 4 hs hM1 rfl [.int .i64 x4.Pc, .slice a14 (List.length x4.Regs) c14, .slice a15 (List.length x4.Mem) c15, .slice a16 (List.length x4.Stack) c16, .int .i64 x4.In, .slice a17 (List.length x4.Out) c17, .int .i64 x4.Code, .int .i64 x4.Steps] rfl hF rfl rfl (by kernel_rfl) rfl rfl rfl fun w9 S9 hs hp hF => ?_
      have ra1 := ra1.stp hM1 hp
      have r1 := r1.stp hM1 hp
      have hM1 := hM1.stp hp
      have hs : Sep [SL (α := Int) 3 (.slice a14 (List.length x4.Regs) c14) x4.Regs, SL (α := Int) 3 (.slice a15 (List.length x4.Mem) c15) x4.Mem, SL (α := Int) 3 (.slice a16 (List.length x4.Stack) c16) x4.Stack, SL (α := Int) 3 (.slice a17 (List.length x4.Out) c17) x4.Out, BX b2 28 [.int .i64 x4.Pc, .slice a14 (List.length x4.Regs) c14, .slice a15 (List.length x4.Mem) c15, .slice a16 (List.length x4.Stack) c16, .int .i64 x4.In, .slice a17 (List.length x4.Out) c17, .int .i64 x4.Code, .int .i64 x4.Steps], SL (α := Int) 3 (.slice a12 (List.length s1.2.2.2.2.2.2.2.2.2) c12) s1.2.2.2.2.2.2.2.2.2, BX b1 32 [.int .i64 p0.W, .int .i64 p0.Mem, .int .i64 p0.In, .slice a1 (List.length p0.Code) c1]] w9 S9 := hs
      refine from_end rfl (then_normal ?_)
      refine wp_seq (wp_text' ?_)
      refine from_pure 1 [(1, .slice a2 (List.length p1) c2), (2, .int .i64 p2), (3, .pointer (some ⟨b1, 0, none⟩)), (7, .slice a12 (List.length s1.2.2.2.2.2.2.2.2.2) c12), (8, .pointer (some ⟨b2, 0, none⟩)), (9, .int .i64 s1.1), (10, .int .i64 s1.2.1), (11, .int .i64 s1.2.2.2.2.1), (42, .pointer (some ⟨b2, 7, none⟩))] hF (by kernel_rfl) fun fr hF => ?_
      refine s_loadBox (.int .i64 x4.Steps) ty3 rfl rfl hF rfl (hs.bx 4 rfl) rfl rfl fun fr hF => ?_
      refine from_pure 2 [(1, .slice a2 (List.length p1) c2), (2, .int .i64 p2), (3, .pointer (some ⟨b1, 0, none⟩)), (7, .slice a12 (List.length s1.2.2.2.2.2.2.2.2.2) c12), (8, .pointer (some ⟨b2, 0, none⟩)), (9, .int .i64 s1.1), (10, .int .i64 s1.2.1), (45, .bool (decide (x4.Steps > s1.2.2.2.2.1)))] hF (by kernel_rfl) fun fr hF => ?_
      refine from_end rfl (then_normal ?_)
      refine (wp_if hF (b := (decide (x4.Steps > s1.2.2.2.2.1))) rfl (fun hb => ?_) (fun hb => ?_))
      · replace h := iteT hb h
        refine (wp_text' ?_)
        refine from_pure 2 [(1, .slice a2 (List.length p1) c2), (2, .int .i64 p2), (3, .pointer (some ⟨b1, 0, none⟩)), (8, .pointer (some ⟨b2, 0, none⟩)), (9, .int .i64 s1.1), (46, .slice a12 (List.length s1.2.2.2.2.2.2.2.2.2) c12), (47, .int .i64 s1.2.1)] hF (by kernel_rfl) fun fr hF => ?_
        refine q_lit (E := 3) hs hM1 [.int .i64 s1.2.1] (([s1.2.1] : List Int).map Flat.enc) ([s1.2.1] : List Int) rfl rfl hF [.int .i64 s1.2.1] rfl (fun w => by kernel_rfl) (css_flat _) rfl rfl rfl fun a18 c18 w10 S10 fr hs hp hF => ?_
        have ra1 := ra1.stp hM1 hp
        have r1 := r1.stp hM1 hp
        have hM1 := hM1.stp hp
        have hs : Sep [SL (α := Int) 3 (.slice a18 (List.length ([s1.2.1] : List Int)) c18) ([s1.2.1] : List Int), SL (α := Int) 3 (.slice a14 (List.length x4.Regs) c14) x4.Regs, SL (α := Int) 3 (.slice a15 (List.length x4.Mem) c15) x4.Mem, SL (α := Int) 3 (.slice a16 (List.length x4.Stack) c16) x4.Stack, SL (α := Int) 3 (.slice a17 (List.length x4.Out) c17) x4.Out, BX b2 28 [.int .i64 x4.Pc, .slice a14 (List.length x4.Regs) c14, .slice a15 (List.length x4.Mem) c15, .slice a16 (List.length x4.Stack) c16, .int .i64 x4.In, .slice a17 (List.length x4.Out) c17, .int .i64 x4.Code, .int .i64 x4.Steps], SL (α := Int) 3 (.slice a12 (List.length s1.2.2.2.2.2.2.2.2.2) c12) s1.2.2.2.2.2.2.2.2.2, BX b1 32 [.int .i64 p0.W, .int .i64 p0.Mem, .int .i64 p0.In, .slice a1 (List.length p0.Code) c1]] w10 S10 := hs
        obtain ⟨x5, hx5, h⟩ := bindE h
        refine q_append 6 hs hM1 rfl Try.underlying26 el3 rfl rfl rfl hF rfl rfl (hs.rv 0 rfl) hx5 fun a19 c19 w11 S11 fr hs hp hF => ?_
        have ra1 := ra1.stp hM1 hp
        have r1 := r1.stp hM1 hp
        have hM1 := hM1.stp hp
        have hs : Sep [SL (α := Int) 3 (.slice a18 (List.length ([s1.2.1] : List Int)) c18) ([s1.2.1] : List Int), SL (α := Int) 3 (.slice a14 (List.length x4.Regs) c14) x4.Regs, SL (α := Int) 3 (.slice a15 (List.length x4.Mem) c15) x4.Mem, SL (α := Int) 3 (.slice a16 (List.length x4.Stack) c16) x4.Stack, SL (α := Int) 3 (.slice a17 (List.length x4.Out) c17) x4.Out, BX b2 28 [.int .i64 x4.Pc, .slice a14 (List.length x4.Regs) c14, .slice a15 (List.length x4.Mem) c15, .slice a16 (List.length x4.Stack) c16, .int .i64 x4.In, .slice a17 (List.length x4.Out) c17, .int .i64 x4.Code, .int .i64 x4.Steps], SL (α := Int) 3 (.slice a19 (List.length x5) c19) x5, BX b1 32 [.int .i64 p0.W, .int .i64 p0.Mem, .int .i64 p0.In, .slice a1 (List.length p0.Code) c1]] w11 S11 := hs
        have hs : Sep [SL (α := Int) 3 (.slice a14 (List.length x4.Regs) c14) x4.Regs, SL (α := Int) 3 (.slice a15 (List.length x4.Mem) c15) x4.Mem, SL (α := Int) 3 (.slice a16 (List.length x4.Stack) c16) x4.Stack, SL (α := Int) 3 (.slice a17 (List.length x4.Out) c17) x4.Out, BX b2 28 [.int .i64 x4.Pc, .slice a14 (List.length x4.Regs) c14, .slice a15 (List.length x4.Mem) c15, .slice a16 (List.length x4.Stack) c16, .int .i64 x4.In, .slice a17 (List.length x4.Out) c17, .int .i64 x4.Code, .int .i64 x4.Steps], SL (α := Int) 3 (.slice a19 (List.length x5) c19) x5, BX b1 32 [.int .i64 p0.W, .int .i64 p0.Mem, .int .i64 p0.In, .slice a1 (List.length p0.Code) c1]] w11 S11 := Sep.pick [1, 2, 3, 4, 5, 6, 7] hs (by decide) rfl
        refine from_pure 1 [(1, .slice a2 (List.length p1) c2), (2, .int .i64 p2), (3, .pointer (some ⟨b1, 0, none⟩)), (7, .slice a19 (List.length x5) c19), (8, .pointer (some ⟨b2, 0, none⟩)), (9, .int .i64 s1.1)] hF (by kernel_rfl) fun fr hF => ?_
        refine from_end rfl ?_
        refine blk_normal (then_normal ?_)
        refine (wp_pure [(1, .slice a2 (List.length p1) c2), (2, .int .i64 p2), (3, .pointer (some ⟨b1, 0, none⟩)), (7, .slice a19 (List.length x5) c19), (8, .pointer (some ⟨b2, 0, none⟩)), (9, .int .i64 (w64 (s1.1 + 1)))] hF (by kernel_rfl) fun fr hF => then_normal ?_)
        have hs : Sep [BX b2 28 [.int .i64 x4.Pc, .slice a14 (List.length x4.Regs) c14, .slice a15 (List.length x4.Mem) c15, .slice a16 (List.length x4.Stack) c16, .int .i64 x4.In, .slice a17 (List.length x4.Out) c17, .int .i64 x4.Code, .int .i64 x4.Steps], SL (α := Int) 3 (.slice a14 (List.length x4.Regs) c14) x4.Regs, SL (α := Int) 3 (.slice a15 (List.length x4.Mem) c15) x4.Mem, SL (α := Int) 3 (.slice a16 (List.length x4.Stack) c16) x4.Stack, SL (α := Int) 3 (.slice a17 (List.length x4.Out) c17) x4.Out, SL (α := Int) 3 (.slice a19 (List.length x5) c19) x5, BX b1 32 [.int .i64 p0.W, .int .i64 p0.Mem, .int .i64 p0.In, .slice a1 (List.length p0.Code) c1]] w11 S11 := Sep.pick [4, 0, 1, 2, 3, 5, 6] hs (by decide) rfl
        exact ⟨_, (Option.some.inj h).symm, a14, c14, a15, c15, a16, c16, a17, c17, a19, c19, S11, _, hF.sub _ (by kernel_rfl), hM1, hs⟩
      replace h := iteF hb h
      refine (wp_skip ?_)
      refine blk_normal (then_normal ?_)
      refine (wp_pure [(1, .slice a2 (List.length p1) c2), (2, .int .i64 p2), (3, .pointer (some ⟨b1, 0, none⟩)), (7, .slice a12 (List.length s1.2.2.2.2.2.2.2.2.2) c12), (8, .pointer (some ⟨b2, 0, none⟩)), (9, .int .i64 (w64 (s1.1 + 1)))] hF (by kernel_rfl) fun fr hF => then_normal ?_)
      have hs : Sep [BX b2 28 [.int .i64 x4.Pc, .slice a14 (List.length x4.Regs) c14, .slice a15 (List.length x4.Mem) c15, .slice a16 (List.length x4.Stack) c16, .int .i64 x4.In, .slice a17 (List.length x4.Out) c17, .int .i64 x4.Code, .int .i64 x4.Steps], SL (α := Int) 3 (.slice a14 (List.length x4.Regs) c14) x4.Regs, SL (α := Int) 3 (.slice a15 (List.length x4.Mem) c15) x4.Mem, SL (α := Int) 3 (.slice a16 (List.length x4.Stack) c16) x4.Stack, SL (α := Int) 3 (.slice a17 (List.length x4.Out) c17) x4.Out, SL (α := Int) 3 (.slice a12 (List.length s1.2.2.2.2.2.2.2.2.2) c12) s1.2.2.2.2.2.2.2.2.2, BX b1 32 [.int .i64 p0.W, .int .i64 p0.Mem, .int .i64 p0.In, .slice a1 (List.length p0.Code) c1]] w9 S9 := Sep.pick [4, 0, 1, 2, 3, 5, 6] hs (by decide) rfl
      exact ⟨_, (Option.some.inj h).symm, a14, c14, a15, c15, a16, c16, a17, c17, a12, c12, S9, _, hF.sub _ (by kernel_rfl), hM1, hs⟩
    replace h := iteF hb h
    have hs : Sep [SL (α := Int) 3 (.slice a12 (List.length s1.2.2.2.2.2.2.2.2.2) c12) s1.2.2.2.2.2.2.2.2.2] w7 S6 := Sep.pick [5] hs (by decide) rfl
    refine (wp_exit (then_exit (then_exit (blk_exit_eq ?_))))
    obtain rfl := hr1 _ (Option.some.inj h).symm
    exact then_normal ⟨a12, c12, S6, _, hF.sub _ (by kernel_rfl), hM1, hs⟩
  · obtain ⟨a13, c13, S7, F2, hF, hMx, hs⟩ := hM
    have hM0 := hM0.trans hMx
    refine wp_seq (wp_pure [(6, .slice a13 (List.length rl1) c13)] hF (by kernel_rfl) fun fr hF => then_normal ?_)
    obtain rfl := Option.some.inj h
    exact wp_ret (ret1 rfl hF rfl ⟨_, rfl, a13, c13, rfl, S7, hM0.out, hs⟩)

theorem impl_shapeOk_ok (p0 : Int) (p1 : Int) {r : Bool} (h : impl_shapeOk p0 p1 = some r) {w : World} :
    Calls Try.prog 60 [.int .i64 p0, .int .i64 p1].toArray w fun e w' => ∃ v, e = .returned v ∧ v = .bool r ∧ Chg Non w w' := by
  unfold impl_shapeOk at h
  have hs := Sep.nil w Non
  have hM0 : Mem w Non (fun k => (False) ∧ k < w.heap.size) w Non (fun k => (False) ∧ k < w.heap.size) := Mem.start (fun _ h => h.elim) (fun _ h => h.2) (fun _ h => h.elim)
  refine enter (N := 19) Try.func60 rfl Try.ntmps60 rfl fun fr hF => ?_
  refine wp_seq (wp_pure [(0, .int .i64 p0), (1, .int .i64 p1)] hF (by kernel_rfl) fun fr hF => then_normal ?_)
  refine wp_seq (region_b [] [true, true, true, true, true, true, true, true, true, true, true, true, true, true, true]
      [.eq (.int .i64 p0), .eq (.bool (decide (p0 ≥ 2))), .eq (.bool (decide (p0 ≥ 2))), .eq (.int .i64 p0), .eq (.bool (decide (p0 ≤ 8))), .eq (.bool ((decide (p0 ≥ 2)) && (decide (p0 ≤ 8)))), .eq (.bool ((decide (p0 ≥ 2)) && (decide (p0 ≤ 8)))), .eq (.int .i64 p1), .eq (.bool (decide (p1 ≥ 1))), .eq (.bool (((decide (p0 ≥ 2)) && (decide (p0 ≤ 8))) && (decide (p1 ≥ 1)))), .eq (.bool (((decide (p0 ≥ 2)) && (decide (p0 ≤ 8))) && (decide (p1 ≥ 1)))), .eq (.int .i64 p1), .eq (.bool (decide (p1 ≤ 40))), .eq (.bool ((((decide (p0 ≥ 2)) && (decide (p0 ≤ 8))) && (decide (p1 ≥ 1))) && (decide (p1 ≤ 40)))), .eq (.bool ((((decide (p0 ≥ 2)) && (decide (p0 ≤ 8))) && (decide (p1 ≥ 1))) && (decide (p1 ≤ 40))))]
      [(4, .bool ((((decide (p0 ≥ 2)) && (decide (p0 ≤ 8))) && (decide (p1 ≥ 1))) && (decide (p1 ≤ 40))))] mix hF (by kernel_rfl) (by kernel_rfl) (by kernel_rfl) trivial (fun hG => trivial) (by kernel_rfl) fun fr w1 hF hE hc => then_normal ?_)
  have hs := hs.ext hc
  have hM0 := hM0.ext hc
  obtain rfl := Option.some.inj h
  exact wp_ret (ret1 rfl hF rfl ⟨_, rfl, rfl, hM0.chg⟩)

theorem impl_isWidth_ok (p0 : Int) {r : Bool} (h : impl_isWidth p0 = some r) {w : World} :
    Calls Try.prog 76 [.int .i64 p0].toArray w fun e w' => ∃ v, e = .returned v ∧ v = .bool r ∧ Chg Non w w' := by
  unfold impl_isWidth at h
  have hs := Sep.nil w Non
  have hM0 : Mem w Non (fun k => (False) ∧ k < w.heap.size) w Non (fun k => (False) ∧ k < w.heap.size) := Mem.start (fun _ h => h.elim) (fun _ h => h.2) (fun _ h => h.elim)
  refine enter (N := 9) Try.func76 rfl Try.ntmps76 rfl fun fr hF => ?_
  refine wp_seq (wp_pure [(0, .int .i64 p0)] hF (by kernel_rfl) fun fr hF => then_normal ?_)
  refine wp_seq (region_b [] [true, true, true, true, true, true, true]
      [.eq (.int .i64 p0), .eq (.bool (decide (p0 ≥ 1))), .eq (.bool (decide (p0 ≥ 1))), .eq (.int .i64 p0), .eq (.bool (decide (p0 ≤ 16))), .eq (.bool ((decide (p0 ≥ 1)) && (decide (p0 ≤ 16)))), .eq (.bool ((decide (p0 ≥ 1)) && (decide (p0 ≤ 16))))]
      [(2, .bool ((decide (p0 ≥ 1)) && (decide (p0 ≤ 16))))] mix hF (by kernel_rfl) (by kernel_rfl) (by kernel_rfl) trivial (fun hG => trivial) (by kernel_rfl) fun fr w1 hF hE hc => then_normal ?_)
  have hs := hs.ext hc
  have hM0 := hM0.ext hc
  obtain rfl := Option.some.inj h
  exact wp_ret (ret1 rfl hF rfl ⟨_, rfl, rfl, hM0.chg⟩)

theorem impl_WordOk_ok (p0 : Int) (p1 : Int) {r : Bool} (h : impl_WordOk p0 p1 = some r) {w : World} :
    Calls Try.prog 61 [.int .i64 p0, .int .i64 p1].toArray w fun e w' => ∃ v, e = .returned v ∧ v = .bool r ∧ Chg Non w w' := by
  unfold impl_WordOk at h
  have hs := Sep.nil w Non
  have hM0 : Mem w Non (fun k => (False) ∧ k < w.heap.size) w Non (fun k => (False) ∧ k < w.heap.size) := Mem.start (fun _ h => h.elim) (fun _ h => h.2) (fun _ h => h.elim)
  refine enter (N := 18) Try.func61 rfl Try.ntmps61 rfl fun fr hF => ?_
  refine wp_seq (wp_pure [(0, .int .i64 p0), (1, .int .i64 p1)] hF (by kernel_rfl) fun fr hF => then_normal ?_)
  obtain ⟨x1, hx1, h⟩ := bindE h
  obtain ⟨x2, hx2, h⟩ := bindE h
  refine wp_seq (region_b [] [true, false, true, true, true, true, true, true, true, true, false, true, true, true]
      [.eq (.int .i64 p0), .eq (.bool x1), .eq (.bool x1), .eq (.int .i64 p1), .eq (.bool (decide (p1 ≥ 0))), .eq (.bool (x1 && (decide (p1 ≥ 0)))), .eq (.bool (x1 && (decide (p1 ≥ 0)))), .eq (.int .i64 p1), .eq (.int .i64 p0), .eq (.int .u64 (IntKind.u64.wrap p0)), .eq (.int .i64 x2), .eq (.bool (decide (p1 < x2))), .eq (.bool ((x1 && (decide (p1 ≥ 0))) && (decide (p1 < x2)))), .eq (.bool ((x1 && (decide (p1 ≥ 0))) && (decide (p1 < x2))))]
      [(4, .bool ((x1 && (decide (p1 ≥ 0))) && (decide (p1 < x2))))] mix hF (by kernel_rfl) (by kernel_rfl) (by kernel_rfl) ⟨Pd.mono_eq, Pd.mono_eq, trivial⟩ (fun hG => ⟨np_call [.int .i64 p0] hG hF Try.call76 rfl rfl (fun w hC hg => (impl_isWidth_ok p0 hx1).mono fun e w' ⟨v, he, hv, hc⟩ => ⟨v, he, hc, hv⟩), np_shl hG hF rfl rfl rfl (fun hg => (iteT hg.2 hx2)) rfl, trivial⟩) (by kernel_rfl) fun fr w1 hF hE hc => then_normal ?_)
  have hs := hs.ext hc
  have hM0 := hM0.ext hc
  obtain rfl := Option.some.inj h
  exact wp_ret (ret1 rfl hF rfl ⟨_, rfl, rfl, hM0.chg⟩)

theorem impl_isReg_ok (p0 : Int) {r : Bool} (h : impl_isReg p0 = some r) {w : World} :
    Calls Try.prog 77 [.int .i64 p0].toArray w fun e w' => ∃ v, e = .returned v ∧ v = .bool r ∧ Chg Non w w' := by
  unfold impl_isReg at h
  have hs := Sep.nil w Non
  have hM0 : Mem w Non (fun k => (False) ∧ k < w.heap.size) w Non (fun k => (False) ∧ k < w.heap.size) := Mem.start (fun _ h => h.elim) (fun _ h => h.2) (fun _ h => h.elim)
  refine enter (N := 9) Try.func77 rfl Try.ntmps77 rfl fun fr hF => ?_
  refine wp_seq (wp_pure [(0, .int .i64 p0)] hF (by kernel_rfl) fun fr hF => then_normal ?_)
  refine wp_seq (region_b [] [true, true, true, true, true, true, true]
      [.eq (.int .i64 p0), .eq (.bool (decide (p0 ≥ 0))), .eq (.bool (decide (p0 ≥ 0))), .eq (.int .i64 p0), .eq (.bool (decide (p0 < 4))), .eq (.bool ((decide (p0 ≥ 0)) && (decide (p0 < 4)))), .eq (.bool ((decide (p0 ≥ 0)) && (decide (p0 < 4))))]
      [(2, .bool ((decide (p0 ≥ 0)) && (decide (p0 < 4))))] mix hF (by kernel_rfl) (by kernel_rfl) (by kernel_rfl) trivial (fun hG => trivial) (by kernel_rfl) fun fr w1 hF hE hc => then_normal ?_)
  have hs := hs.ext hc
  have hM0 := hM0.ext hc
  obtain rfl := Option.some.inj h
  exact wp_ret (ret1 rfl hF rfl ⟨_, rfl, rfl, hM0.chg⟩)

theorem impl_isTwoWords_ok (p0 : Int) {r : Bool} (h : impl_isTwoWords p0 = some r) {w : World} :
    Calls Try.prog 78 [.int .i64 p0].toArray w fun e w' => ∃ v, e = .returned v ∧ v = .bool r ∧ Chg Non w w' := by
  unfold impl_isTwoWords at h
  have hs := Sep.nil w Non
  have hM0 : Mem w Non (fun k => (False) ∧ k < w.heap.size) w Non (fun k => (False) ∧ k < w.heap.size) := Mem.start (fun _ h => h.elim) (fun _ h => h.2) (fun _ h => h.elim)
  refine enter (N := 9) Try.func78 rfl Try.ntmps78 rfl fun fr hF => ?_
  refine wp_seq (wp_pure [(0, .int .i64 p0)] hF (by kernel_rfl) fun fr hF => then_normal ?_)
  refine wp_seq (region_b [] [true, true, true, true, true, true, true]
      [.eq (.int .i64 p0), .eq (.bool (decide (p0 ≥ 3))), .eq (.bool (decide (p0 ≥ 3))), .eq (.int .i64 p0), .eq (.bool (decide (p0 ≤ 16))), .eq (.bool ((decide (p0 ≥ 3)) && (decide (p0 ≤ 16)))), .eq (.bool ((decide (p0 ≥ 3)) && (decide (p0 ≤ 16))))]
      [(2, .bool ((decide (p0 ≥ 3)) && (decide (p0 ≤ 16))))] mix hF (by kernel_rfl) (by kernel_rfl) (by kernel_rfl) trivial (fun hG => trivial) (by kernel_rfl) fun fr w1 hF hE hc => then_normal ?_)
  have hs := hs.ext hc
  have hM0 := hM0.ext hc
  obtain rfl := Option.some.inj h
  exact wp_ret (ret1 rfl hF rfl ⟨_, rfl, rfl, hM0.chg⟩)

theorem impl_insOk_ok (p0 : D.Ins) (p1 : Int) (p2 : Int) {r : Bool} (h : impl_insOk p0 p1 p2 = some r) {w : World} :
    Calls Try.prog 62 [.agg #[.int .i64 p0.Op, .int .i64 p0.A, .int .i64 p0.B, .int .i64 p0.C], .int .i64 p1, .int .i64 p2].toArray w fun e w' => ∃ v, e = .returned v ∧ v = .bool r ∧ Chg Non w w' := by
  unfold impl_insOk at h
  have hs := Sep.nil w Non
  have hM0 : Mem w Non (fun k => (False) ∧ k < w.heap.size) w Non (fun k => (False) ∧ k < w.heap.size) := Mem.start (fun _ h => h.elim) (fun _ h => h.2) (fun _ h => h.elim)
  refine enter (N := 102) Try.func62 rfl Try.ntmps62 rfl fun fr hF => ?_
  refine wp_seq (wp_text' ?_)
  refine q_box hs hM0 [.int .i64 p0.Op, .int .i64 p0.A, .int .i64 p0.B, .int .i64 p0.C] rfl rfl hF rfl rfl fun b1 w1 S1 fr hs hp hF => ?_
  have hM0 := hM0.stp hp
  have hs : Sep [BX b1 66 [.int .i64 p0.Op, .int .i64 p0.A, .int .i64 p0.B, .int .i64 p0.C]] w1 S1 := hs
  refine from_pure 1 [(1, .int .i64 p1), (2, .int .i64 p2), (3, .pointer (some ⟨b1, 0, none⟩))] hF (by kernel_rfl) fun fr hF => ?_
  refine from_end rfl (then_normal ?_)
  refine wp_seq (region_b [] [true, false, true, true, true, false, true, true, true, true]
      [.eq (.pointer (some ⟨b1, 2, none⟩)), .eq (.int .i64 p0.B), .eq (.bool (decide (p0.B ≥ 0))), .eq (.bool (decide (p0.B ≥ 0))), .eq (.pointer (some ⟨b1, 2, none⟩)), .eq (.int .i64 p0.B), .eq (.int .i64 p2), .eq (.bool (decide (p0.B ≤ p2))), .eq (.bool ((decide (p0.B ≥ 0)) && (decide (p0.B ≤ p2)))), .eq (.bool ((decide (p0.B ≥ 0)) && (decide (p0.B ≤ p2))))]
      [(1, .int .i64 p1), (3, .pointer (some ⟨b1, 0, none⟩)), (7, .bool ((decide (p0.B ≥ 0)) && (decide (p0.B ≤ p2))))] mix hF (by kernel_rfl) (by kernel_rfl) (by kernel_rfl) ⟨Pd.mono_eq, Pd.mono_eq, trivial⟩ (fun hG => ⟨np_loadBox hG hF ty3 rfl rfl (hs.bx 0 rfl) rfl rfl rfl, np_loadBox hG hF ty3 rfl rfl (hs.bx 0 rfl) rfl rfl rfl, trivial⟩) (by kernel_rfl) fun fr w2 hF hE hc => then_normal ?_)
  have hs := hs.ext hc
  have hM0 := hM0.ext hc
  refine wp_seq ?_
  refine wp_seq (wp_text' ?_)
  refine from_pure 1 [(1, .int .i64 p1), (3, .pointer (some ⟨b1, 0, none⟩)), (7, .bool ((decide (p0.B ≥ 0)) && (decide (p0.B ≤ p2)))), (17, .pointer (some ⟨b1, 0, none⟩))] hF (by kernel_rfl) fun fr hF => ?_
  refine s_loadBox (.int .i64 p0.Op) ty3 rfl rfl hF rfl (hs.bx 0 rfl) rfl rfl fun fr hF => ?_
  refine from_pure 1 [(1, .int .i64 p1), (3, .pointer (some ⟨b1, 0, none⟩)), (7, .bool ((decide (p0.B ≥ 0)) && (decide (p0.B ≤ p2)))), (19, .bool (p0.Op == 3))] hF (by kernel_rfl) fun fr hF => ?_
  refine from_end rfl (then_normal ?_)
  refine (wp_if hF (b := (p0.Op == 3)) rfl (fun hb => ?_) (fun hb => ?_))
  · replace h := iteT hb h
    obtain ⟨x1, hx1, h⟩ := bindE h
    obtain ⟨x2, hx2, h⟩ := bindE h
    obtain ⟨x3, hx3, h⟩ := bindE h
    refine wp_seq (region_b [] [true, false, false, true, true, false, false, true, true, true, false, false, true, true]
        [.eq (.pointer (some ⟨b1, 1, none⟩)), .eq (.int .i64 p0.A), .eq (.bool x1), .eq (.bool x1), .eq (.pointer (some ⟨b1, 2, none⟩)), .eq (.int .i64 p0.B), .eq (.bool x2), .eq (.bool (x1 && x2)), .eq (.bool (x1 && x2)), .eq (.pointer (some ⟨b1, 3, none⟩)), .eq (.int .i64 p0.C), .eq (.bool x3), .eq (.bool ((x1 && x2) && x3)), .eq (.bool ((x1 && x2) && x3))]
        [(6, .bool ((x1 && x2) && x3))] mix hF (by kernel_rfl) (by kernel_rfl) (by kernel_rfl) ⟨Pd.mono_eq, Pd.mono_eq, Pd.mono_eq, Pd.mono_eq, Pd.mono_eq, Pd.mono_eq, trivial⟩ (fun hG => ⟨np_loadBox hG hF ty3 rfl rfl (hs.bx 0 rfl) rfl rfl rfl, np_call [.int .i64 p0.A] hG hF Try.call77 rfl rfl (fun w hC hg => (impl_isReg_ok p0.A hx1).mono fun e w' ⟨v, he, hv, hc⟩ => ⟨v, he, hc, hv⟩), np_loadBox hG hF ty3 rfl rfl (hs.bx 0 rfl) rfl rfl rfl, np_call [.int .i64 p0.B] hG hF Try.call77 rfl rfl (fun w hC hg => (impl_isReg_ok p0.B (iteT hg.2 hx2)).mono fun e w' ⟨v, he, hv, hc⟩ => ⟨v, he, hc, hv⟩), np_loadBox hG hF ty3 rfl rfl (hs.bx 0 rfl) rfl rfl rfl, np_call [.int .i64 p0.C] hG hF Try.call78 rfl rfl (fun w hC hg => (impl_isTwoWords_ok p0.C (iteT hg.2 hx3)).mono fun e w' ⟨v, he, hv, hc⟩ => ⟨v, he, hc, hv⟩), trivial⟩) (by kernel_rfl) fun fr w3 hF hE hc => then_normal ?_)
    have hs := hs.ext hc
    have hM0 := hM0.ext hc
    have hs : Sep [] w3 S1 := Sep.pick [] hs (by decide) rfl
    obtain rfl := Option.some.inj h
    exact wp_ret (then_ret (ret1 rfl hF rfl ⟨_, rfl, rfl, hM0.chg⟩))
  replace h := iteF hb h
  refine (wp_skip (then_normal ?_))
  refine wp_seq ?_
  refine wp_seq (wp_text' ?_)
  refine from_pure 1 [(1, .int .i64 p1), (3, .pointer (some ⟨b1, 0, none⟩)), (7, .bool ((decide (p0.B ≥ 0)) && (decide (p0.B ≤ p2)))), (33, .pointer (some ⟨b1, 3, none⟩))] hF (by kernel_rfl) fun fr hF => ?_
  refine s_loadBox (.int .i64 p0.C) ty3 rfl rfl hF rfl (hs.bx 0 rfl) rfl rfl fun fr hF => ?_
  refine from_pure 1 [(1, .int .i64 p1), (3, .pointer (some ⟨b1, 0, none⟩)), (7, .bool ((decide (p0.B ≥ 0)) && (decide (p0.B ≤ p2)))), (35, .bool (p0.C != 0))] hF (by kernel_rfl) fun fr hF => ?_
  refine from_end rfl (then_normal ?_)
  refine (wp_if hF (b := (p0.C != 0)) rfl (fun hb => ?_) (fun hb => ?_))
  · replace h := iteT hb h
    have hs : Sep [] w2 S1 := Sep.pick [] hs (by decide) rfl
    refine wp_seq (wp_pure [(6, .bool false)] hF (by kernel_rfl) fun fr hF => then_normal ?_)
    obtain rfl := Option.some.inj h
    exact wp_ret (then_ret (ret1 rfl hF rfl ⟨_, rfl, rfl, hM0.chg⟩))
  replace h := iteF hb h
  refine (wp_skip (then_normal ?_))
  refine wp_seq ?_
  refine wp_seq (wp_text' ?_)
  refine from_pure 1 [(1, .int .i64 p1), (3, .pointer (some ⟨b1, 0, none⟩)), (7, .bool ((decide (p0.B ≥ 0)) && (decide (p0.B ≤ p2)))), (36, .pointer (some ⟨b1, 0, none⟩))] hF (by kernel_rfl) fun fr hF => ?_
  refine s_loadBox (.int .i64 p0.Op) ty3 rfl rfl hF rfl (hs.bx 0 rfl) rfl rfl fun fr hF => ?_
  refine from_end rfl (then_normal ?_)
  refine (wp_block ?_)
  refine wp_seq (wp_pure [(1, .int .i64 p1), (3, .pointer (some ⟨b1, 0, none⟩)), (7, .bool ((decide (p0.B ≥ 0)) && (decide (p0.B ≤ p2)))), (37, .int .i64 p0.Op), (38, .bool (p0.Op == 1))] hF (by kernel_rfl) fun fr hF => then_normal ?_)
  refine (wp_if hF (b := (p0.Op == 1)) rfl (fun hb => ?_) (fun hb => ?_))
  · replace h := iteT hb h
    obtain ⟨x4, hx4, h⟩ := bindE h
    obtain ⟨x5, hx5, h⟩ := bindE h
    refine wp_seq (region_b [] [true, false, false, true, true, true, false, false, true, true]
        [.eq (.pointer (some ⟨b1, 1, none⟩)), .eq (.int .i64 p0.A), .eq (.bool x4), .eq (.bool x4), .eq (.int .i64 p1), .eq (.pointer (some ⟨b1, 2, none⟩)), .eq (.int .i64 p0.B), .eq (.bool x5), .eq (.bool (x4 && x5)), .eq (.bool (x4 && x5))]
        [(6, .bool (x4 && x5))] mix hF (by kernel_rfl) (by kernel_rfl) (by kernel_rfl) ⟨Pd.mono_eq, Pd.mono_eq, Pd.mono_eq, Pd.mono_eq, trivial⟩ (fun hG => ⟨np_loadBox hG hF ty3 rfl rfl (hs.bx 0 rfl) rfl rfl rfl, np_call [.int .i64 p0.A] hG hF Try.call77 rfl rfl (fun w hC hg => (impl_isReg_ok p0.A hx4).mono fun e w' ⟨v, he, hv, hc⟩ => ⟨v, he, hc, hv⟩), np_loadBox hG hF ty3 rfl rfl (hs.bx 0 rfl) rfl rfl rfl, np_call [.int .i64 p1, .int .i64 p0.B] hG hF Try.call61 rfl rfl (fun w hC hg => (impl_WordOk_ok p1 p0.B (iteT hg.2 hx5)).mono fun e w' ⟨v, he, hv, hc⟩ => ⟨v, he, hc, hv⟩), trivial⟩) (by kernel_rfl) fun fr w4 hF hE hc => then_normal ?_)
    have hs := hs.ext hc
    have hM0 := hM0.ext hc
    have hs : Sep [] w4 S1 := Sep.pick [] hs (by decide) rfl
    obtain rfl := Option.some.inj h
    exact wp_ret (blk_ret (then_ret (ret1 rfl hF rfl ⟨_, rfl, rfl, hM0.chg⟩)))
  replace h := iteF hb h
  refine wp_seq ?_
  refine wp_seq (wp_pure [(3, .pointer (some ⟨b1, 0, none⟩)), (7, .bool ((decide (p0.B ≥ 0)) && (decide (p0.B ≤ p2)))), (37, .int .i64 p0.Op), (49, .bool (p0.Op == 2))] hF (by kernel_rfl) fun fr hF => then_normal ?_)
  refine (wp_if hF (b := (p0.Op == 2)) rfl (fun hb => ?_) (fun hb => ?_))
  · replace h := iteT hb h
    refine (wp_skip (then_normal ?_))
    refine (wp_if hF (b := (p0.Op == 2)) rfl (fun hb => ?_) (fun hb => ?_))
    · replace h := iteT hb h
      obtain ⟨x6, hx6, h⟩ := bindE h
      obtain ⟨x7, hx7, h⟩ := bindE h
      refine wp_seq (region_b [] [true, false, false, true, true, false, false, true, true]
          [.eq (.pointer (some ⟨b1, 1, none⟩)), .eq (.int .i64 p0.A), .eq (.bool x6), .eq (.bool x6), .eq (.pointer (some ⟨b1, 2, none⟩)), .eq (.int .i64 p0.B), .eq (.bool x7), .eq (.bool (x6 && x7)), .eq (.bool (x6 && x7))]
          [(6, .bool (x6 && x7))] mix hF (by kernel_rfl) (by kernel_rfl) (by kernel_rfl) ⟨Pd.mono_eq, Pd.mono_eq, Pd.mono_eq, Pd.mono_eq, trivial⟩ (fun hG => ⟨np_loadBox hG hF ty3 rfl rfl (hs.bx 0 rfl) rfl rfl rfl, np_call [.int .i64 p0.A] hG hF Try.call77 rfl rfl (fun w hC hg => (impl_isReg_ok p0.A hx6).mono fun e w' ⟨v, he, hv, hc⟩ => ⟨v, he, hc, hv⟩), np_loadBox hG hF ty3 rfl rfl (hs.bx 0 rfl) rfl rfl rfl, np_call [.int .i64 p0.B] hG hF Try.call77 rfl rfl (fun w hC hg => (impl_isReg_ok p0.B (iteT hg.2 hx7)).mono fun e w' ⟨v, he, hv, hc⟩ => ⟨v, he, hc, hv⟩), trivial⟩) (by kernel_rfl) fun fr w5 hF hE hc => then_normal ?_)
      have hs := hs.ext hc
      have hM0 := hM0.ext hc
      have hs : Sep [] w5 S1 := Sep.pick [] hs (by decide) rfl
      obtain rfl := Option.some.inj h
      exact wp_ret (blk_ret (then_ret (ret1 rfl hF rfl ⟨_, rfl, rfl, hM0.chg⟩)))
    replace h := iteF hb h
    refine wp_seq ?_
    refine wp_seq (wp_pure [(3, .pointer (some ⟨b1, 0, none⟩)), (7, .bool ((decide (p0.B ≥ 0)) && (decide (p0.B ≤ p2)))), (37, .int .i64 p0.Op), (61, .bool (p0.Op == 4))] hF (by kernel_rfl) fun fr hF => then_normal ?_)
    refine (wp_if hF (b := (p0.Op == 4)) rfl (fun hb => ?_) (fun hb => ?_))
    · replace h := iteT hb h
      refine (wp_skip (then_normal ?_))
      refine (wp_if hF (b := (p0.Op == 4)) rfl (fun hb => ?_) (fun hb => ?_))
      · replace h := iteT hb h
        obtain ⟨x8, hx8, h⟩ := bindE h
        refine wp_seq (region_b [] [true, false, false, true, true, false, true, true, true]
            [.eq (.pointer (some ⟨b1, 1, none⟩)), .eq (.int .i64 p0.A), .eq (.bool x8), .eq (.bool x8), .eq (.pointer (some ⟨b1, 2, none⟩)), .eq (.int .i64 p0.B), .eq (.bool (p0.B == 0)), .eq (.bool (x8 && (p0.B == 0))), .eq (.bool (x8 && (p0.B == 0)))]
            [(6, .bool (x8 && (p0.B == 0)))] mix hF (by kernel_rfl) (by kernel_rfl) (by kernel_rfl) ⟨Pd.mono_eq, Pd.mono_eq, Pd.mono_eq, trivial⟩ (fun hG => ⟨np_loadBox hG hF ty3 rfl rfl (hs.bx 0 rfl) rfl rfl rfl, np_call [.int .i64 p0.A] hG hF Try.call77 rfl rfl (fun w hC hg => (impl_isReg_ok p0.A hx8).mono fun e w' ⟨v, he, hv, hc⟩ => ⟨v, he, hc, hv⟩), np_loadBox hG hF ty3 rfl rfl (hs.bx 0 rfl) rfl rfl rfl, trivial⟩) (by kernel_rfl) fun fr w6 hF hE hc => then_normal ?_)
        have hs := hs.ext hc
        have hM0 := hM0.ext hc
        have hs : Sep [] w6 S1 := Sep.pick [] hs (by decide) rfl
        obtain rfl := Option.some.inj h
        exact wp_ret (blk_ret (then_ret (ret1 rfl hF rfl ⟨_, rfl, rfl, hM0.chg⟩)))
      replace h := iteF hb h
      refine wp_seq ?_
      refine wp_seq (wp_pure [(3, .pointer (some ⟨b1, 0, none⟩)), (7, .bool ((decide (p0.B ≥ 0)) && (decide (p0.B ≤ p2)))), (37, .int .i64 p0.Op), (74, .bool (p0.Op == 9))] hF (by kernel_rfl) fun fr hF => then_normal ?_)
      refine (wp_merge [(3, .pointer (some ⟨b1, 0, none⟩)), (7, .bool ((decide (p0.B ≥ 0)) && (decide (p0.B ≤ p2)))), (37, .int .i64 p0.Op), (74, .bool ((p0.Op == 9) || (p0.Op == 11)))] hF (b := (p0.Op == 9)) rfl (fun hb => ?_) (fun hb => ?_) fun fr hF => then_normal ?_)
      · exact wp_skip ⟨rfl, rfl, (hF.sub [(3, .pointer (some ⟨b1, 0, none⟩)), (7, .bool ((decide (p0.B ≥ 0)) && (decide (p0.B ≤ p2)))), (37, .int .i64 p0.Op), (74, .bool (p0.Op == 9))] (by kernel_rfl)).eqs (by first | (simp only [hb]; done) | (simp only [hb]; rfl))⟩
      · exact wp_pure [(3, .pointer (some ⟨b1, 0, none⟩)), (7, .bool ((decide (p0.B ≥ 0)) && (decide (p0.B ≤ p2)))), (37, .int .i64 p0.Op), (74, .bool (p0.Op == 11))] hF (by kernel_rfl) fun fr hF => ⟨rfl, rfl, hF.eqs (by first | (simp only [hb]; done) | (simp only [hb]; rfl))⟩
      refine (wp_if hF (b := ((p0.Op == 9) || (p0.Op == 11))) rfl (fun hb => ?_) (fun hb => ?_))
      · replace h := iteT hb h
        refine wp_seq (region_b [] [true, false, true, true, true, true, true]
            [.eq (.pointer (some ⟨b1, 1, none⟩)), .eq (.int .i64 p0.A), .eq (.bool (p0.A == 0)), .eq (.bool (p0.A == 0)), .eq (.bool ((decide (p0.B ≥ 0)) && (decide (p0.B ≤ p2)))), .eq (.bool ((p0.A == 0) && ((decide (p0.B ≥ 0)) && (decide (p0.B ≤ p2))))), .eq (.bool ((p0.A == 0) && ((decide (p0.B ≥ 0)) && (decide (p0.B ≤ p2)))))]
            [(6, .bool ((p0.A == 0) && ((decide (p0.B ≥ 0)) && (decide (p0.B ≤ p2)))))] mix hF (by kernel_rfl) (by kernel_rfl) (by kernel_rfl) ⟨Pd.mono_eq, trivial⟩ (fun hG => ⟨np_loadBox hG hF ty3 rfl rfl (hs.bx 0 rfl) rfl rfl rfl, trivial⟩) (by kernel_rfl) fun fr w7 hF hE hc => then_normal ?_)
        have hs := hs.ext hc
        have hM0 := hM0.ext hc
        have hs : Sep [] w7 S1 := Sep.pick [] hs (by decide) rfl
        obtain rfl := Option.some.inj h
        exact wp_ret (blk_ret (then_ret (ret1 rfl hF rfl ⟨_, rfl, rfl, hM0.chg⟩)))
      replace h := iteF hb h
      refine wp_seq (wp_pure [(3, .pointer (some ⟨b1, 0, none⟩)), (7, .bool ((decide (p0.B ≥ 0)) && (decide (p0.B ≤ p2)))), (37, .int .i64 p0.Op), (83, .bool (p0.Op == 10))] hF (by kernel_rfl) fun fr hF => then_normal ?_)
      refine (wp_if hF (b := (p0.Op == 10)) rfl (fun hb => ?_) (fun hb => ?_))
      · replace h := iteT hb h
        obtain ⟨x9, hx9, h⟩ := bindE h
        refine wp_seq (region_b [] [true, false, false, true, true, true, true]
            [.eq (.pointer (some ⟨b1, 1, none⟩)), .eq (.int .i64 p0.A), .eq (.bool x9), .eq (.bool x9), .eq (.bool ((decide (p0.B ≥ 0)) && (decide (p0.B ≤ p2)))), .eq (.bool (x9 && ((decide (p0.B ≥ 0)) && (decide (p0.B ≤ p2))))), .eq (.bool (x9 && ((decide (p0.B ≥ 0)) && (decide (p0.B ≤ p2)))))]
            [(6, .bool (x9 && ((decide (p0.B ≥ 0)) && (decide (p0.B ≤ p2)))))] mix hF (by kernel_rfl) (by kernel_rfl) (by kernel_rfl) ⟨Pd.mono_eq, Pd.mono_eq, trivial⟩ (fun hG => ⟨np_loadBox hG hF ty3 rfl rfl (hs.bx 0 rfl) rfl rfl rfl, np_call [.int .i64 p0.A] hG hF Try.call77 rfl rfl (fun w hC hg => (impl_isReg_ok p0.A hx9).mono fun e w' ⟨v, he, hv, hc⟩ => ⟨v, he, hc, hv⟩), trivial⟩) (by kernel_rfl) fun fr w8 hF hE hc => then_normal ?_)
        have hs := hs.ext hc
        have hM0 := hM0.ext hc
        have hs : Sep [] w8 S1 := Sep.pick [] hs (by decide) rfl
        obtain rfl := Option.some.inj h
        exact wp_ret (blk_ret (then_ret (ret1 rfl hF rfl ⟨_, rfl, rfl, hM0.chg⟩)))
      replace h := iteF hb h
      refine wp_seq ?_
      refine wp_seq (wp_pure [(3, .pointer (some ⟨b1, 0, none⟩)), (37, .int .i64 p0.Op), (91, .bool (p0.Op == 12))] hF (by kernel_rfl) fun fr hF => then_normal ?_)
      refine (wp_merge [(3, .pointer (some ⟨b1, 0, none⟩)), (91, .bool ((p0.Op == 12) || (p0.Op == 14)))] hF (b := (p0.Op == 12)) rfl (fun hb => ?_) (fun hb => ?_) fun fr hF => then_normal ?_)
      · exact wp_skip ⟨rfl, rfl, (hF.sub [(3, .pointer (some ⟨b1, 0, none⟩)), (91, .bool (p0.Op == 12))] (by kernel_rfl)).eqs (by first | (simp only [hb]; done) | (simp only [hb]; rfl))⟩
      · exact wp_pure [(3, .pointer (some ⟨b1, 0, none⟩)), (91, .bool (p0.Op == 14))] hF (by kernel_rfl) fun fr hF => ⟨rfl, rfl, hF.eqs (by first | (simp only [hb]; done) | (simp only [hb]; rfl))⟩
      refine (wp_if hF (b := ((p0.Op == 12) || (p0.Op == 14))) rfl (fun hb => ?_) (fun hb => ?_))
      · replace h := iteT hb h
        refine wp_seq (region_b [] [true, false, true, true, true, false, true, true, true]
            [.eq (.pointer (some ⟨b1, 1, none⟩)), .eq (.int .i64 p0.A), .eq (.bool (p0.A == 0)), .eq (.bool (p0.A == 0)), .eq (.pointer (some ⟨b1, 2, none⟩)), .eq (.int .i64 p0.B), .eq (.bool (p0.B == 0)), .eq (.bool ((p0.A == 0) && (p0.B == 0))), .eq (.bool ((p0.A == 0) && (p0.B == 0)))]
            [(6, .bool ((p0.A == 0) && (p0.B == 0)))] mix hF (by kernel_rfl) (by kernel_rfl) (by kernel_rfl) ⟨Pd.mono_eq, Pd.mono_eq, trivial⟩ (fun hG => ⟨np_loadBox hG hF ty3 rfl rfl (hs.bx 0 rfl) rfl rfl rfl, np_loadBox hG hF ty3 rfl rfl (hs.bx 0 rfl) rfl rfl rfl, trivial⟩) (by kernel_rfl) fun fr w9 hF hE hc => then_normal ?_)
        have hs := hs.ext hc
        have hM0 := hM0.ext hc
        have hs : Sep [] w9 S1 := Sep.pick [] hs (by decide) rfl
        obtain rfl := Option.some.inj h
        exact wp_ret (blk_ret (then_ret (ret1 rfl hF rfl ⟨_, rfl, rfl, hM0.chg⟩)))
      replace h := iteF hb h
      have hs : Sep [] w2 S1 := Sep.pick [] hs (by decide) rfl
      refine (wp_skip ?_)
      refine blk_normal (then_normal ?_)
      refine wp_seq (wp_pure [(6, .bool false)] hF (by kernel_rfl) fun fr hF => then_normal ?_)
      obtain rfl := Option.some.inj h
      exact wp_ret (ret1 rfl hF rfl ⟨_, rfl, rfl, hM0.chg⟩)
    replace h := iteF hb h
    refine wp_seq (wp_pure [(3, .pointer (some ⟨b1, 0, none⟩)), (7, .bool ((decide (p0.B ≥ 0)) && (decide (p0.B ≤ p2)))), (37, .int .i64 p0.Op), (61, .bool (p0.Op == 5))] hF (by kernel_rfl) fun fr hF => then_normal ?_)
    refine (wp_if hF (b := (p0.Op == 5)) rfl (fun hb => ?_) (fun hb => ?_))
    · replace h := iteT hb h
      refine (wp_skip (then_normal ?_))
      refine (wp_if hF (b := (p0.Op == 5)) rfl (fun hb => ?_) (fun hb => ?_))
      · replace h := iteT hb h
        obtain ⟨x10, hx10, h⟩ := bindE h
        refine wp_seq (region_b [] [true, false, false, true, true, false, true, true, true]
            [.eq (.pointer (some ⟨b1, 1, none⟩)), .eq (.int .i64 p0.A), .eq (.bool x10), .eq (.bool x10), .eq (.pointer (some ⟨b1, 2, none⟩)), .eq (.int .i64 p0.B), .eq (.bool (p0.B == 0)), .eq (.bool (x10 && (p0.B == 0))), .eq (.bool (x10 && (p0.B == 0)))]
            [(6, .bool (x10 && (p0.B == 0)))] mix hF (by kernel_rfl) (by kernel_rfl) (by kernel_rfl) ⟨Pd.mono_eq, Pd.mono_eq, Pd.mono_eq, trivial⟩ (fun hG => ⟨np_loadBox hG hF ty3 rfl rfl (hs.bx 0 rfl) rfl rfl rfl, np_call [.int .i64 p0.A] hG hF Try.call77 rfl rfl (fun w hC hg => (impl_isReg_ok p0.A hx10).mono fun e w' ⟨v, he, hv, hc⟩ => ⟨v, he, hc, hv⟩), np_loadBox hG hF ty3 rfl rfl (hs.bx 0 rfl) rfl rfl rfl, trivial⟩) (by kernel_rfl) fun fr w10 hF hE hc => then_normal ?_)
        have hs := hs.ext hc
        have hM0 := hM0.ext hc
        have hs : Sep [] w10 S1 := Sep.pick [] hs (by decide) rfl
        obtain rfl := Option.some.inj h
        exact wp_ret (blk_ret (then_ret (ret1 rfl hF rfl ⟨_, rfl, rfl, hM0.chg⟩)))
      replace h := iteF hb h
      refine wp_seq ?_
      refine wp_seq (wp_pure [(3, .pointer (some ⟨b1, 0, none⟩)), (7, .bool ((decide (p0.B ≥ 0)) && (decide (p0.B ≤ p2)))), (37, .int .i64 p0.Op), (74, .bool (p0.Op == 9))] hF (by kernel_rfl) fun fr hF => then_normal ?_)
      refine (wp_merge [(3, .pointer (some ⟨b1, 0, none⟩)), (7, .bool ((decide (p0.B ≥ 0)) && (decide (p0.B ≤ p2)))), (37, .int .i64 p0.Op), (74, .bool ((p0.Op == 9) || (p0.Op == 11)))] hF (b := (p0.Op == 9)) rfl (fun hb => ?_) (fun hb => ?_) fun fr hF => then_normal ?_)
      · exact wp_skip ⟨rfl, rfl, (hF.sub [(3, .pointer (some ⟨b1, 0, none⟩)), (7, .bool ((decide (p0.B ≥ 0)) && (decide (p0.B ≤ p2)))), (37, .int .i64 p0.Op), (74, .bool (p0.Op == 9))] (by kernel_rfl)).eqs (by first | (simp only [hb]; done) | (simp only [hb]; rfl))⟩
      · exact wp_pure [(3, .pointer (some ⟨b1, 0, none⟩)), (7, .bool ((decide (p0.B ≥ 0)) && (decide (p0.B ≤ p2)))), (37, .int .i64 p0.Op), (74, .bool (p0.Op == 11))] hF (by kernel_rfl) fun fr hF => ⟨rfl, rfl, hF.eqs (by first | (simp only [hb]; done) | (simp only [hb]; rfl))⟩
      refine (wp_if hF (b := ((p0.Op == 9) || (p0.Op == 11))) rfl (fun hb => ?_) (fun hb => ?_))
      · replace h := iteT hb h
        refine wp_seq (region_b [] [true, false, true, true, true, true, true]
            [.eq (.pointer (some ⟨b1, 1, none⟩)), .eq (.int .i64 p0.A), .eq (.bool (p0.A == 0)), .eq (.bool (p0.A == 0)), .eq (.bool ((decide (p0.B ≥ 0)) && (decide (p0.B ≤ p2)))), .eq (.bool ((p0.A == 0) && ((decide (p0.B ≥ 0)) && (decide (p0.B ≤ p2))))), .eq (.bool ((p0.A == 0) && ((decide (p0.B ≥ 0)) && (decide (p0.B ≤ p2)))))]
            [(6, .bool ((p0.A == 0) && ((decide (p0.B ≥ 0)) && (decide (p0.B ≤ p2)))))] mix hF (by kernel_rfl) (by kernel_rfl) (by kernel_rfl) ⟨Pd.mono_eq, trivial⟩ (fun hG => ⟨np_loadBox hG hF ty3 rfl rfl (hs.bx 0 rfl) rfl rfl rfl, trivial⟩) (by kernel_rfl) fun fr w11 hF hE hc => then_normal ?_)
        have hs := hs.ext hc
        have hM0 := hM0.ext hc
        have hs : Sep [] w11 S1 := Sep.pick [] hs (by decide) rfl
        obtain rfl := Option.some.inj h
        exact wp_ret (blk_ret (then_ret (ret1 rfl hF rfl ⟨_, rfl, rfl, hM0.chg⟩)))
      replace h := iteF hb h
      refine wp_seq (wp_pure [(3, .pointer (some ⟨b1, 0, none⟩)), (7, .bool ((decide (p0.B ≥ 0)) && (decide (p0.B ≤ p2)))), (37, .int .i64 p0.Op), (83, .bool (p0.Op == 10))] hF (by kernel_rfl) fun fr hF => then_normal ?_)
      refine (wp_if hF (b := (p0.Op == 10)) rfl (fun hb => ?_) (fun hb => ?_))
      · replace h := iteT hb h
        obtain ⟨x11, hx11, h⟩ := bindE h
        refine wp_seq (region_b [] [true, false, false, true, true, true, true]
            [.eq (.pointer (some ⟨b1, 1, none⟩)), .eq (.int .i64 p0.A), .eq (.bool x11), .eq (.bool x11), .eq (.bool ((decide (p0.B ≥ 0)) && (decide (p0.B ≤ p2)))), .eq (.bool (x11 && ((decide (p0.B ≥ 0)) && (decide (p0.B ≤ p2))))), .eq (.bool (x11 && ((decide (p0.B ≥ 0)) && (decide (p0.B ≤ p2)))))]
            [(6, .bool (x11 && ((decide (p0.B ≥ 0)) && (decide (p0.B ≤ p2)))))] mix hF (by kernel_rfl) (by kernel_rfl) (by kernel_rfl) ⟨Pd.mono_eq, Pd.mono_eq, trivial⟩ (fun hG => ⟨np_loadBox hG hF ty3 rfl rfl (hs.bx 0 rfl) rfl rfl rfl, np_call [.int .i64 p0.A] hG hF Try.call77 rfl rfl (fun w hC hg => (impl_isReg_ok p0.A hx11).mono fun e w' ⟨v, he, hv, hc⟩ => ⟨v, he, hc, hv⟩), trivial⟩) (by kernel_rfl) fun fr w12 hF hE hc => then_normal ?_)
        have hs := hs.ext hc
        have hM0 := hM0.ext hc
        have hs : Sep [] w12 S1 := Sep.pick [] hs (by decide) rfl
        obtain rfl := Option.some.inj h
        exact wp_ret (blk_ret (then_ret (ret1 rfl hF rfl ⟨_, rfl, rfl, hM0.chg⟩)))
      replace h := iteF hb h
      refine wp_seq ?_
      refine wp_seq (wp_pure [(3, .pointer (some ⟨b1, 0, none⟩)), (37, .int .i64 p0.Op), (91, .bool (p0.Op == 12))] hF (by kernel_rfl) fun fr hF => then_normal ?_)
      refine (wp_merge [(3, .pointer (some ⟨b1, 0, none⟩)), (91, .bool ((p0.Op == 12) || (p0.Op == 14)))] hF (b := (p0.Op == 12)) rfl (fun hb => ?_) (fun hb => ?_) fun fr hF => then_normal ?_)
      · exact wp_skip ⟨rfl, rfl, (hF.sub [(3, .pointer (some ⟨b1, 0, none⟩)), (91, .bool (p0.Op == 12))] (by kernel_rfl)).eqs (by first | (simp only [hb]; done) | (simp only [hb]; rfl))⟩
      · exact wp_pure [(3, .pointer (some ⟨b1, 0, none⟩)), (91, .bool (p0.Op == 14))] hF (by kernel_rfl) fun fr hF => ⟨rfl, rfl, hF.eqs (by first | (simp only [hb]; done) | (simp only [hb]; rfl))⟩
      refine (wp_if hF (b := ((p0.Op == 12) || (p0.Op == 14))) rfl (fun hb => ?_) (fun hb => ?_))
      · replace h := iteT hb h
        refine wp_seq (region_b [] [true, false, true, true, true, false, true, true, true]
            [.eq (.pointer (some ⟨b1, 1, none⟩)), .eq (.int .i64 p0.A), .eq (.bool (p0.A == 0)), .eq (.bool (p0.A == 0)), .eq (.pointer (some ⟨b1, 2, none⟩)), .eq (.int .i64 p0.B), .eq (.bool (p0.B == 0)), .eq (.bool ((p0.A == 0) && (p0.B == 0))), .eq (.bool ((p0.A == 0) && (p0.B == 0)))]
            [(6, .bool ((p0.A == 0) && (p0.B == 0)))] mix hF (by kernel_rfl) (by kernel_rfl) (by kernel_rfl) ⟨Pd.mono_eq, Pd.mono_eq, trivial⟩ (fun hG => ⟨np_loadBox hG hF ty3 rfl rfl (hs.bx 0 rfl) rfl rfl rfl, np_loadBox hG hF ty3 rfl rfl (hs.bx 0 rfl) rfl rfl rfl, trivial⟩) (by kernel_rfl) fun fr w13 hF hE hc => then_normal ?_)
        have hs := hs.ext hc
        have hM0 := hM0.ext hc
        have hs : Sep [] w13 S1 := Sep.pick [] hs (by decide) rfl
        obtain rfl := Option.some.inj h
        exact wp_ret (blk_ret (then_ret (ret1 rfl hF rfl ⟨_, rfl, rfl, hM0.chg⟩)))
      replace h := iteF hb h
      have hs : Sep [] w2 S1 := Sep.pick [] hs (by decide) rfl
      refine (wp_skip ?_)
      refine blk_normal (then_normal ?_)
      refine wp_seq (wp_pure [(6, .bool false)] hF (by kernel_rfl) fun fr hF => then_normal ?_)
      obtain rfl := Option.some.inj h
      exact wp_ret (ret1 rfl hF rfl ⟨_, rfl, rfl, hM0.chg⟩)
    replace h := iteF hb h
    refine wp_seq (wp_pure [(3, .pointer (some ⟨b1, 0, none⟩)), (7, .bool ((decide (p0.B ≥ 0)) && (decide (p0.B ≤ p2)))), (37, .int .i64 p0.Op), (61, .bool (p0.Op == 6))] hF (by kernel_rfl) fun fr hF => then_normal ?_)
    refine (wp_merge [(3, .pointer (some ⟨b1, 0, none⟩)), (7, .bool ((decide (p0.B ≥ 0)) && (decide (p0.B ≤ p2)))), (37, .int .i64 p0.Op), (61, .bool ((p0.Op == 6) || (p0.Op == 13)))] hF (b := (p0.Op == 6)) rfl (fun hb => ?_) (fun hb => ?_) fun fr hF => then_normal ?_)
    · exact wp_skip ⟨rfl, rfl, (hF.sub [(3, .pointer (some ⟨b1, 0, none⟩)), (7, .bool ((decide (p0.B ≥ 0)) && (decide (p0.B ≤ p2)))), (37, .int .i64 p0.Op), (61, .bool (p0.Op == 6))] (by kernel_rfl)).eqs (by first | (simp only [hb]; done) | (simp only [hb]; rfl))⟩
    · exact wp_pure [(3, .pointer (some ⟨b1, 0, none⟩)), (7, .bool ((decide (p0.B ≥ 0)) && (decide (p0.B ≤ p2)))), (37, .int .i64 p0.Op), (61, .bool (p0.Op == 13))] hF (by kernel_rfl) fun fr hF => ⟨rfl, rfl, hF.eqs (by first | (simp only [hb]; done) | (simp only [hb]; rfl))⟩
    refine (wp_if hF (b := ((p0.Op == 6) || (p0.Op == 13))) rfl (fun hb => ?_) (fun hb => ?_))
    · replace h := iteT hb h
      obtain ⟨x12, hx12, h⟩ := bindE h
      refine wp_seq (region_b [] [true, false, false, true, true, false, true, true, true]
          [.eq (.pointer (some ⟨b1, 1, none⟩)), .eq (.int .i64 p0.A), .eq (.bool x12), .eq (.bool x12), .eq (.pointer (some ⟨b1, 2, none⟩)), .eq (.int .i64 p0.B), .eq (.bool (p0.B == 0)), .eq (.bool (x12 && (p0.B == 0))), .eq (.bool (x12 && (p0.B == 0)))]
          [(6, .bool (x12 && (p0.B == 0)))] mix hF (by kernel_rfl) (by kernel_rfl) (by kernel_rfl) ⟨Pd.mono_eq, Pd.mono_eq, Pd.mono_eq, trivial⟩ (fun hG => ⟨np_loadBox hG hF ty3 rfl rfl (hs.bx 0 rfl) rfl rfl rfl, np_call [.int .i64 p0.A] hG hF Try.call77 rfl rfl (fun w hC hg => (impl_isReg_ok p0.A hx12).mono fun e w' ⟨v, he, hv, hc⟩ => ⟨v, he, hc, hv⟩), np_loadBox hG hF ty3 rfl rfl (hs.bx 0 rfl) rfl rfl rfl, trivial⟩) (by kernel_rfl) fun fr w14 hF hE hc => then_normal ?_)
      have hs := hs.ext hc
      have hM0 := hM0.ext hc
      have hs : Sep [] w14 S1 := Sep.pick [] hs (by decide) rfl
      obtain rfl := Option.some.inj h
      exact wp_ret (blk_ret (then_ret (ret1 rfl hF rfl ⟨_, rfl, rfl, hM0.chg⟩)))
    replace h := iteF hb h
    refine wp_seq ?_
    refine wp_seq (wp_pure [(3, .pointer (some ⟨b1, 0, none⟩)), (7, .bool ((decide (p0.B ≥ 0)) && (decide (p0.B ≤ p2)))), (37, .int .i64 p0.Op), (74, .bool (p0.Op == 9))] hF (by kernel_rfl) fun fr hF => then_normal ?_)
    refine (wp_merge [(3, .pointer (some ⟨b1, 0, none⟩)), (7, .bool ((decide (p0.B ≥ 0)) && (decide (p0.B ≤ p2)))), (37, .int .i64 p0.Op), (74, .bool ((p0.Op == 9) || (p0.Op == 11)))] hF (b := (p0.Op == 9)) rfl (fun hb => ?_) (fun hb => ?_) fun fr hF => then_normal ?_)
    · exact wp_skip ⟨rfl, rfl, (hF.sub [(3, .pointer (some ⟨b1, 0, none⟩)), (7, .bool ((decide (p0.B ≥ 0)) && (decide (p0.B ≤ p2)))), (37, .int .i64 p0.Op), (74, .bool (p0.Op == 9))] (by kernel_rfl)).eqs (by first | (simp only [hb]; done) | (simp only [hb]; rfl))⟩
    · exact wp_pure [(3, .pointer (some ⟨b1, 0, none⟩)), (7, .bool ((decide (p0.B ≥ 0)) && (decide (p0.B ≤ p2)))), (37, .int .i64 p0.Op), (74, .bool (p0.Op == 11))] hF (by kernel_rfl) fun fr hF => ⟨rfl, rfl, hF.eqs (by first | (simp only [hb]; done) | (simp only [hb]; rfl))⟩
    refine (wp_if hF (b := ((p0.Op == 9) || (p0.Op == 11))) rfl (fun hb => ?_) (fun hb => ?_))
    · replace h := iteT hb h
      refine wp_seq (region_b [] [true, false, true, true, true, true, true]
          [.eq (.pointer (some ⟨b1, 1, none⟩)), .eq (.int .i64 p0.A), .eq (.bool (p0.A == 0)), .eq (.bool (p0.A == 0)), .eq (.bool ((decide (p0.B ≥ 0)) && (decide (p0.B ≤ p2)))), .eq (.bool ((p0.A == 0) && ((decide (p0.B ≥ 0)) && (decide (p0.B ≤ p2))))), .eq (.bool ((p0.A == 0) && ((decide (p0.B ≥ 0)) && (decide (p0.B ≤ p2)))))]
          [(6, .bool ((p0.A == 0) && ((decide (p0.B ≥ 0)) && (decide (p0.B ≤ p2)))))] mix hF (by kernel_rfl) (by kernel_rfl) (by kernel_rfl) ⟨Pd.mono_eq, trivial⟩ (fun hG => ⟨np_loadBox hG hF ty3 rfl rfl (hs.bx 0 rfl) rfl rfl rfl, trivial⟩) (by kernel_rfl) fun fr w15 hF hE hc => then_normal ?_)
      have hs := hs.ext hc
      have hM0 := hM0.ext hc
      have hs : Sep [] w15 S1 := Sep.pick [] hs (by decide) rfl
      obtain rfl := Option.some.inj h
      exact wp_ret (blk_ret (then_ret (ret1 rfl hF rfl ⟨_, rfl, rfl, hM0.chg⟩)))
    replace h := iteF hb h
    refine wp_seq (wp_pure [(3, .pointer (some ⟨b1, 0, none⟩)), (7, .bool ((decide (p0.B ≥ 0)) && (decide (p0.B ≤ p2)))), (37, .int .i64 p0.Op), (83, .bool (p0.Op == 10))] hF (by kernel_rfl) fun fr hF => then_normal ?_)
    refine (wp_if hF (b := (p0.Op == 10)) rfl (fun hb => ?_) (fun hb => ?_))
    · replace h := iteT hb h
      obtain ⟨x13, hx13, h⟩ := bindE h
      refine wp_seq (region_b [] [true, false, false, true, true, true, true]
          [.eq (.pointer (some ⟨b1, 1, none⟩)), .eq (.int .i64 p0.A), .eq (.bool x13), .eq (.bool x13), .eq (.bool ((decide (p0.B ≥ 0)) && (decide (p0.B ≤ p2)))), .eq (.bool (x13 && ((decide (p0.B ≥ 0)) && (decide (p0.B ≤ p2))))), .eq (.bool (x13 && ((decide (p0.B ≥ 0)) && (decide (p0.B ≤ p2)))))]
          [(6, .bool (x13 && ((decide (p0.B ≥ 0)) && (decide (p0.B ≤ p2)))))] mix hF (by kernel_rfl) (by kernel_rfl) (by kernel_rfl) ⟨Pd.mono_eq, Pd.mono_eq, trivial⟩ (fun hG => ⟨np_loadBox hG hF ty3 rfl rfl (hs.bx 0 rfl) rfl rfl rfl, np_call [.int .i64 p0.A] hG hF Try.call77 rfl rfl (fun w hC hg => (impl_isReg_ok p0.A hx13).mono fun e w' ⟨v, he, hv, hc⟩ => ⟨v, he, hc, hv⟩), trivial⟩) (by kernel_rfl) fun fr w16 hF hE hc => then_normal ?_)
      have hs := hs.ext hc
      have hM0 := hM0.ext hc
      have hs : Sep [] w16 S1 := Sep.pick [] hs (by decide) rfl
      obtain rfl := Option.some.inj h
      exact wp_ret (blk_ret (then_ret (ret1 rfl hF rfl ⟨_, rfl, rfl, hM0.chg⟩)))
    replace h := iteF hb h
    refine wp_seq ?_
    refine wp_seq (wp_pure [(3, .pointer (some ⟨b1, 0, none⟩)), (37, .int .i64 p0.Op), (91, .bool (p0.Op == 12))] hF (by kernel_rfl) fun fr hF => then_normal ?_)
    refine (wp_merge [(3, .pointer (some ⟨b1, 0, none⟩)), (91, .bool ((p0.Op == 12) || (p0.Op == 14)))] hF (b := (p0.Op == 12)) rfl (fun hb => ?_) (fun hb => ?_) fun fr hF => then_normal ?_)
    · exact wp_skip ⟨rfl, rfl, (hF.sub [(3, .pointer (some ⟨b1, 0, none⟩)), (91, .bool (p0.Op == 12))] (by kernel_rfl)).eqs (by first | (simp only [hb]; done) | (simp only [hb]; rfl))⟩
    · exact wp_pure [(3, .pointer (some ⟨b1, 0, none⟩)), (91, .bool (p0.Op == 14))] hF (by kernel_rfl) fun fr hF => ⟨rfl, rfl, hF.eqs (by first | (simp only [hb]; done) | (simp only [hb]; rfl))⟩
    refine (wp_if hF (b := ((p0.Op == 12) || (p0.Op == 14))) rfl (fun hb => ?_) (fun hb => ?_))
    · replace h := iteT hb h
      refine wp_seq (region_b [] [true, false, true, true, true, false, true, true, true]
          [.eq (.pointer (some ⟨b1, 1, none⟩)), .eq (.int .i64 p0.A), .eq (.bool (p0.A == 0)), .eq (.bool (p0.A == 0)), .eq (.pointer (some ⟨b1, 2, none⟩)), .eq (.int .i64 p0.B), .eq (.bool (p0.B == 0)), .eq (.bool ((p0.A == 0) && (p0.B == 0))), .eq (.bool ((p0.A == 0) && (p0.B == 0)))]
          [(6, .bool ((p0.A == 0) && (p0.B == 0)))] mix hF (by kernel_rfl) (by kernel_rfl) (by kernel_rfl) ⟨Pd.mono_eq, Pd.mono_eq, trivial⟩ (fun hG => ⟨np_loadBox hG hF ty3 rfl rfl (hs.bx 0 rfl) rfl rfl rfl, np_loadBox hG hF ty3 rfl rfl (hs.bx 0 rfl) rfl rfl rfl, trivial⟩) (by kernel_rfl) fun fr w17 hF hE hc => then_normal ?_)
      have hs := hs.ext hc
      have hM0 := hM0.ext hc
      have hs : Sep [] w17 S1 := Sep.pick [] hs (by decide) rfl
      obtain rfl := Option.some.inj h
      exact wp_ret (blk_ret (then_ret (ret1 rfl hF rfl ⟨_, rfl, rfl, hM0.chg⟩)))
    replace h := iteF hb h
    have hs : Sep [] w2 S1 := Sep.pick [] hs (by decide) rfl
    refine (wp_skip ?_)
    refine blk_normal (then_normal ?_)
    refine wp_seq (wp_pure [(6, .bool false)] hF (by kernel_rfl) fun fr hF => then_normal ?_)
    obtain rfl := Option.some.inj h
    exact wp_ret (ret1 rfl hF rfl ⟨_, rfl, rfl, hM0.chg⟩)
  replace h := iteF hb h
  refine wp_seq (wp_pure [(3, .pointer (some ⟨b1, 0, none⟩)), (7, .bool ((decide (p0.B ≥ 0)) && (decide (p0.B ≤ p2)))), (37, .int .i64 p0.Op), (49, .bool (p0.Op == 7))] hF (by kernel_rfl) fun fr hF => then_normal ?_)
  refine (wp_merge [(3, .pointer (some ⟨b1, 0, none⟩)), (7, .bool ((decide (p0.B ≥ 0)) && (decide (p0.B ≤ p2)))), (37, .int .i64 p0.Op), (49, .bool ((p0.Op == 7) || (p0.Op == 8)))] hF (b := (p0.Op == 7)) rfl (fun hb => ?_) (fun hb => ?_) fun fr hF => then_normal ?_)
  · exact wp_skip ⟨rfl, rfl, (hF.sub [(3, .pointer (some ⟨b1, 0, none⟩)), (7, .bool ((decide (p0.B ≥ 0)) && (decide (p0.B ≤ p2)))), (37, .int .i64 p0.Op), (49, .bool (p0.Op == 7))] (by kernel_rfl)).eqs (by first | (simp only [hb]; done) | (simp only [hb]; rfl))⟩
  · exact wp_pure [(3, .pointer (some ⟨b1, 0, none⟩)), (7, .bool ((decide (p0.B ≥ 0)) && (decide (p0.B ≤ p2)))), (37, .int .i64 p0.Op), (49, .bool (p0.Op == 8))] hF (by kernel_rfl) fun fr hF => ⟨rfl, rfl, hF.eqs (by first | (simp only [hb]; done) | (simp only [hb]; rfl))⟩
  refine (wp_if hF (b := ((p0.Op == 7) || (p0.Op == 8))) rfl (fun hb => ?_) (fun hb => ?_))
  · replace h := iteT hb h
    obtain ⟨x14, hx14, h⟩ := bindE h
    obtain ⟨x15, hx15, h⟩ := bindE h
    refine wp_seq (region_b [] [true, false, false, true, true, false, false, true, true]
        [.eq (.pointer (some ⟨b1, 1, none⟩)), .eq (.int .i64 p0.A), .eq (.bool x14), .eq (.bool x14), .eq (.pointer (some ⟨b1, 2, none⟩)), .eq (.int .i64 p0.B), .eq (.bool x15), .eq (.bool (x14 && x15)), .eq (.bool (x14 && x15))]
        [(6, .bool (x14 && x15))] mix hF (by kernel_rfl) (by kernel_rfl) (by kernel_rfl) ⟨Pd.mono_eq, Pd.mono_eq, Pd.mono_eq, Pd.mono_eq, trivial⟩ (fun hG => ⟨np_loadBox hG hF ty3 rfl rfl (hs.bx 0 rfl) rfl rfl rfl, np_call [.int .i64 p0.A] hG hF Try.call77 rfl rfl (fun w hC hg => (impl_isReg_ok p0.A hx14).mono fun e w' ⟨v, he, hv, hc⟩ => ⟨v, he, hc, hv⟩), np_loadBox hG hF ty3 rfl rfl (hs.bx 0 rfl) rfl rfl rfl, np_call [.int .i64 p0.B] hG hF Try.call77 rfl rfl (fun w hC hg => (impl_isReg_ok p0.B (iteT hg.2 hx15)).mono fun e w' ⟨v, he, hv, hc⟩ => ⟨v, he, hc, hv⟩), trivial⟩) (by kernel_rfl) fun fr w18 hF hE hc => then_normal ?_)
    have hs := hs.ext hc
    have hM0 := hM0.ext hc
    have hs : Sep [] w18 S1 := Sep.pick [] hs (by decide) rfl
    obtain rfl := Option.some.inj h
    exact wp_ret (blk_ret (then_ret (ret1 rfl hF rfl ⟨_, rfl, rfl, hM0.chg⟩)))
  replace h := iteF hb h
  refine wp_seq ?_
  refine wp_seq (wp_pure [(3, .pointer (some ⟨b1, 0, none⟩)), (7, .bool ((decide (p0.B ≥ 0)) && (decide (p0.B ≤ p2)))), (37, .int .i64 p0.Op), (61, .bool (p0.Op == 4))] hF (by kernel_rfl) fun fr hF => then_normal ?_)
  refine (wp_if hF (b := (p0.Op == 4)) rfl (fun hb => ?_) (fun hb => ?_))
  · replace h := iteT hb h
    refine (wp_skip (then_normal ?_))
    refine (wp_if hF (b := (p0.Op == 4)) rfl (fun hb => ?_) (fun hb => ?_))
    · replace h := iteT hb h
      obtain ⟨x16, hx16, h⟩ := bindE h
      refine wp_seq (region_b [] [true, false, false, true, true, false, true, true, true]
          [.eq (.pointer (some ⟨b1, 1, none⟩)), .eq (.int .i64 p0.A), .eq (.bool x16), .eq (.bool x16), .eq (.pointer (some ⟨b1, 2, none⟩)), .eq (.int .i64 p0.B), .eq (.bool (p0.B == 0)), .eq (.bool (x16 && (p0.B == 0))), .eq (.bool (x16 && (p0.B == 0)))]
          [(6, .bool (x16 && (p0.B == 0)))] mix hF (by kernel_rfl) (by kernel_rfl) (by kernel_rfl) ⟨Pd.mono_eq, Pd.mono_eq, Pd.mono_eq, trivial⟩ (fun hG => ⟨np_loadBox hG hF ty3 rfl rfl (hs.bx 0 rfl) rfl rfl rfl, np_call [.int .i64 p0.A] hG hF Try.call77 rfl rfl (fun w hC hg => (impl_isReg_ok p0.A hx16).mono fun e w' ⟨v, he, hv, hc⟩ => ⟨v, he, hc, hv⟩), np_loadBox hG hF ty3 rfl rfl (hs.bx 0 rfl) rfl rfl rfl, trivial⟩) (by kernel_rfl) fun fr w19 hF hE hc => then_normal ?_)
      have hs := hs.ext hc
      have hM0 := hM0.ext hc
      have hs : Sep [] w19 S1 := Sep.pick [] hs (by decide) rfl
      obtain rfl := Option.some.inj h
      exact wp_ret (blk_ret (then_ret (ret1 rfl hF rfl ⟨_, rfl, rfl, hM0.chg⟩)))
    replace h := iteF hb h
    refine wp_seq ?_
    refine wp_seq (wp_pure [(3, .pointer (some ⟨b1, 0, none⟩)), (7, .bool ((decide (p0.B ≥ 0)) && (decide (p0.B ≤ p2)))), (37, .int .i64 p0.Op), (74, .bool (p0.Op == 9))] hF (by kernel_rfl) fun fr hF => then_normal ?_)
    refine (wp_merge [(3, .pointer (some ⟨b1, 0, none⟩)), (7, .bool ((decide (p0.B ≥ 0)) && (decide (p0.B ≤ p2)))), (37, .int .i64 p0.Op), (74, .bool ((p0.Op == 9) || (p0.Op == 11)))] hF (b := (p0.Op == 9)) rfl (fun hb => ?_) (fun hb => ?_) fun fr hF => then_normal ?_)
    · exact wp_skip ⟨rfl, rfl, (hF.sub [(3, .pointer (some ⟨b1, 0, none⟩)), (7, .bool ((decide (p0.B ≥ 0)) && (decide (p0.B ≤ p2)))), (37, .int .i64 p0.Op), (74, .bool (p0.Op == 9))] (by kernel_rfl)).eqs (by first | (simp only [hb]; done) | (simp only [hb]; rfl))⟩
    · exact wp_pure [(3, .pointer (some ⟨b1, 0, none⟩)), (7, .bool ((decide (p0.B ≥ 0)) && (decide (p0.B ≤ p2)))), (37, .int .i64 p0.Op), (74, .bool (p0.Op == 11))] hF (by kernel_rfl) fun fr hF => ⟨rfl, rfl, hF.eqs (by first | (simp only [hb]; done) | (simp only [hb]; rfl))⟩
    refine (wp_if hF (b := ((p0.Op == 9) || (p0.Op == 11))) rfl (fun hb => ?_) (fun hb => ?_))
    · replace h := iteT hb h
      refine wp_seq (region_b [] [true, false, true, true, true, true, true]
          [.eq (.pointer (some ⟨b1, 1, none⟩)), .eq (.int .i64 p0.A), .eq (.bool (p0.A == 0)), .eq (.bool (p0.A == 0)), .eq (.bool ((decide (p0.B ≥ 0)) && (decide (p0.B ≤ p2)))), .eq (.bool ((p0.A == 0) && ((decide (p0.B ≥ 0)) && (decide (p0.B ≤ p2))))), .eq (.bool ((p0.A == 0) && ((decide (p0.B ≥ 0)) && (decide (p0.B ≤ p2)))))]
          [(6, .bool ((p0.A == 0) && ((decide (p0.B ≥ 0)) && (decide (p0.B ≤ p2)))))] mix hF (by kernel_rfl) (by kernel_rfl) (by kernel_rfl) ⟨Pd.mono_eq, trivial⟩ (fun hG => ⟨np_loadBox hG hF ty3 rfl rfl (hs.bx 0 rfl) rfl rfl rfl, trivial⟩) (by kernel_rfl) fun fr w20 hF hE hc => then_normal ?_)
      have hs := hs.ext hc
      have hM0 := hM0.ext hc
      have hs : Sep [] w20 S1 := Sep.pick [] hs (by decide) rfl
      obtain rfl := Option.some.inj h
      exact wp_ret (blk_ret (then_ret (ret1 rfl hF rfl ⟨_, rfl, rfl, hM0.chg⟩)))
    replace h := iteF hb h
    refine wp_seq (wp_pure [(3, .pointer (some ⟨b1, 0, none⟩)), (7, .bool ((decide (p0.B ≥ 0)) && (decide (p0.B ≤ p2)))), (37, .int .i64 p0.Op), (83, .bool (p0.Op == 10))] hF (by kernel_rfl) fun fr hF => then_normal ?_)
    refine (wp_if hF (b := (p0.Op == 10)) rfl (fun hb => ?_) (fun hb => ?_))
    · replace h := iteT hb h
      obtain ⟨x17, hx17, h⟩ := bindE h
      refine wp_seq (region_b [] [true, false, false, true, true, true, true]
          [.eq (.pointer (some ⟨b1, 1, none⟩)), .eq (.int .i64 p0.A), .eq (.bool x17), .eq (.bool x17), .eq (.bool ((decide (p0.B ≥ 0)) && (decide (p0.B ≤ p2)))), .eq (.bool (x17 && ((decide (p0.B ≥ 0)) && (decide (p0.B ≤ p2))))), .eq (.bool (x17 && ((decide (p0.B ≥ 0)) && (decide (p0.B ≤ p2)))))]
          [(6, .bool (x17 && ((decide (p0.B ≥ 0)) && (decide (p0.B ≤ p2)))))] mix hF (by kernel_rfl) (by kernel_rfl) (by kernel_rfl) ⟨Pd.mono_eq, Pd.mono_eq, trivial⟩ (fun hG => ⟨np_loadBox hG hF ty3 rfl rfl (hs.bx 0 rfl) rfl rfl rfl, np_call [.int .i64 p0.A] hG hF Try.call77 rfl rfl (fun w hC hg => (impl_isReg_ok p0.A hx17).mono fun e w' ⟨v, he, hv, hc⟩ => ⟨v, he, hc, hv⟩), trivial⟩) (by kernel_rfl) fun fr w21 hF hE hc => then_normal ?_)
      have hs := hs.ext hc
      have hM0 := hM0.ext hc
      have hs : Sep [] w21 S1 := Sep.pick [] hs (by decide) rfl
      obtain rfl := Option.some.inj h
      exact wp_ret (blk_ret (then_ret (ret1 rfl hF rfl ⟨_, rfl, rfl, hM0.chg⟩)))
    replace h := iteF hb h
    refine wp_seq ?_
    refine wp_seq (wp_pure [(3, .pointer (some ⟨b1, 0, none⟩)), (37, .int .i64 p0.Op), (91, .bool (p0.Op == 12))] hF (by kernel_rfl) fun fr hF => then_normal ?_)
    refine (wp_merge [(3, .pointer (some ⟨b1, 0, none⟩)), (91, .bool ((p0.Op == 12) || (p0.Op == 14)))] hF (b := (p0.Op == 12)) rfl (fun hb => ?_) (fun hb => ?_) fun fr hF => then_normal ?_)
    · exact wp_skip ⟨rfl, rfl, (hF.sub [(3, .pointer (some ⟨b1, 0, none⟩)), (91, .bool (p0.Op == 12))] (by kernel_rfl)).eqs (by first | (simp only [hb]; done) | (simp only [hb]; rfl))⟩
    · exact wp_pure [(3, .pointer (some ⟨b1, 0, none⟩)), (91, .bool (p0.Op == 14))] hF (by kernel_rfl) fun fr hF => ⟨rfl, rfl, hF.eqs (by first | (simp only [hb]; done) | (simp only [hb]; rfl))⟩
    refine (wp_if hF (b := ((p0.Op == 12) || (p0.Op == 14))) rfl (fun hb => ?_) (fun hb => ?_))
    · replace h := iteT hb h
      refine wp_seq (region_b [] [true, false, true, true, true, false, true, true, true]
          [.eq (.pointer (some ⟨b1, 1, none⟩)), .eq (.int .i64 p0.A), .eq (.bool (p0.A == 0)), .eq (.bool (p0.A == 0)), .eq (.pointer (some ⟨b1, 2, none⟩)), .eq (.int .i64 p0.B), .eq (.bool (p0.B == 0)), .eq (.bool ((p0.A == 0) && (p0.B == 0))), .eq (.bool ((p0.A == 0) && (p0.B == 0)))]
          [(6, .bool ((p0.A == 0) && (p0.B == 0)))] mix hF (by kernel_rfl) (by kernel_rfl) (by kernel_rfl) ⟨Pd.mono_eq, Pd.mono_eq, trivial⟩ (fun hG => ⟨np_loadBox hG hF ty3 rfl rfl (hs.bx 0 rfl) rfl rfl rfl, np_loadBox hG hF ty3 rfl rfl (hs.bx 0 rfl) rfl rfl rfl, trivial⟩) (by kernel_rfl) fun fr w22 hF hE hc => then_normal ?_)
      have hs := hs.ext hc
      have hM0 := hM0.ext hc
      have hs : Sep [] w22 S1 := Sep.pick [] hs (by decide) rfl
      obtain rfl := Option.some.inj h
      exact wp_ret (blk_ret (then_ret (ret1 rfl hF rfl ⟨_, rfl, rfl, hM0.chg⟩)))
    replace h := iteF hb h
    have hs : Sep [] w2 S1 := Sep.pick [] hs (by decide) rfl
    refine (wp_skip ?_)
    refine blk_normal (then_normal ?_)
    refine wp_seq (wp_pure [(6, .bool false)] hF (by kernel_rfl) fun fr hF => then_normal ?_)
    obtain rfl := Option.some.inj h
    exact wp_ret (ret1 rfl hF rfl ⟨_, rfl, rfl, hM0.chg⟩)
  replace h := iteF hb h
  refine wp_seq (wp_pure [(3, .pointer (some ⟨b1, 0, none⟩)), (7, .bool ((decide (p0.B ≥ 0)) && (decide (p0.B ≤ p2)))), (37, .int .i64 p0.Op), (61, .bool (p0.Op == 5))] hF (by kernel_rfl) fun fr hF => then_normal ?_)
  refine (wp_if hF (b := (p0.Op == 5)) rfl (fun hb => ?_) (fun hb => ?_))
  · replace h := iteT hb h
    refine (wp_skip (then_normal ?_))
    refine (wp_if hF (b := (p0.Op == 5)) rfl (fun hb => ?_) (fun hb => ?_))
    · replace h := iteT hb h
      obtain ⟨x18, hx18, h⟩ := bindE h
      refine wp_seq (region_b [] [true, false, false, true, true, false, true, true, true]
          [.eq (.pointer (some ⟨b1, 1, none⟩)), .eq (.int .i64 p0.A), .eq (.bool x18), .eq (.bool x18), .eq (.pointer (some ⟨b1, 2, none⟩)), .eq (.int .i64 p0.B), .eq (.bool (p0.B == 0)), .eq (.bool (x18 && (p0.B == 0))), .eq (.bool (x18 && (p0.B == 0)))]
          [(6, .bool (x18 && (p0.B == 0)))] mix hF (by kernel_rfl) (by kernel_rfl) (by kernel_rfl) ⟨Pd.mono_eq, Pd.mono_eq, Pd.mono_eq, trivial⟩ (fun hG => ⟨np_loadBox hG hF ty3 rfl rfl (hs.bx 0 rfl) rfl rfl rfl, np_call [.int .i64 p0.A] hG hF Try.call77 rfl rfl (fun w hC hg => (impl_isReg_ok p0.A hx18).mono fun e w' ⟨v, he, hv, hc⟩ => ⟨v, he, hc, hv⟩), np_loadBox hG hF ty3 rfl rfl (hs.bx 0 rfl) rfl rfl rfl, trivial⟩) (by kernel_rfl) fun fr w23 hF hE hc => then_normal ?_)
      have hs := hs.ext hc
      have hM0 := hM0.ext hc
      have hs : Sep [] w23 S1 := Sep.pick [] hs (by decide) rfl
      obtain rfl := Option.some.inj h
      exact wp_ret (blk_ret (then_ret (ret1 rfl hF rfl ⟨_, rfl, rfl, hM0.chg⟩)))
    replace h := iteF hb h
    refine wp_seq ?_
    refine wp_seq (wp_pure [(3, .pointer (some ⟨b1, 0, none⟩)), (7, .bool ((decide (p0.B ≥ 0)) && (decide (p0.B ≤ p2)))), (37, .int .i64 p0.Op), (74, .bool (p0.Op == 9))] hF (by kernel_rfl) fun fr hF => then_normal ?_)
    refine (wp_merge [(3, .pointer (some ⟨b1, 0, none⟩)), (7, .bool ((decide (p0.B ≥ 0)) && (decide (p0.B ≤ p2)))), (37, .int .i64 p0.Op), (74, .bool ((p0.Op == 9) || (p0.Op == 11)))] hF (b := (p0.Op == 9)) rfl (fun hb => ?_) (fun hb => ?_) fun fr hF => then_normal ?_)
    · exact wp_skip ⟨rfl, rfl, (hF.sub [(3, .pointer (some ⟨b1, 0, none⟩)), (7, .bool ((decide (p0.B ≥ 0)) && (decide (p0.B ≤ p2)))), (37, .int .i64 p0.Op), (74, .bool (p0.Op == 9))] (by kernel_rfl)).eqs (by first | (simp only [hb]; done) | (simp only [hb]; rfl))⟩
    · exact wp_pure [(3, .pointer (some ⟨b1, 0, none⟩)), (7, .bool ((decide (p0.B ≥ 0)) && (decide (p0.B ≤ p2)))), (37, .int .i64 p0.Op), (74, .bool (p0.Op == 11))] hF (by kernel_rfl) fun fr hF => ⟨rfl, rfl, hF.eqs (by first | (simp only [hb]; done) | (simp only [hb]; rfl))⟩
    refine (wp_if hF (b := ((p0.Op == 9) || (p0.Op == 11))) rfl (fun hb => ?_) (fun hb => ?_))
    · replace h := iteT hb h
      refine wp_seq (region_b [] [true, false, true, true, true, true, true]
          [.eq (.pointer (some ⟨b1, 1, none⟩)), .eq (.int .i64 p0.A), .eq (.bool (p0.A == 0)), .eq (.bool (p0.A == 0)), .eq (.bool ((decide (p0.B ≥ 0)) && (decide (p0.B ≤ p2)))), .eq (.bool ((p0.A == 0) && ((decide (p0.B ≥ 0)) && (decide (p0.B ≤ p2))))), .eq (.bool ((p0.A == 0) && ((decide (p0.B ≥ 0)) && (decide (p0.B ≤ p2)))))]
          [(6, .bool ((p0.A == 0) && ((decide (p0.B ≥ 0)) && (decide (p0.B ≤ p2)))))] mix hF (by kernel_rfl) (by kernel_rfl) (by kernel_rfl) ⟨Pd.mono_eq, trivial⟩ (fun hG => ⟨np_loadBox hG hF ty3 rfl rfl (hs.bx 0 rfl) rfl rfl rfl, trivial⟩) (by kernel_rfl) fun fr w24 hF hE hc => then_normal ?_)
      have hs := hs.ext hc
      have hM0 := hM0.ext hc
      have hs : Sep [] w24 S1 := Sep.pick [] hs (by decide) rfl
      obtain rfl := Option.some.inj h
      exact wp_ret (blk_ret (then_ret (ret1 rfl hF rfl ⟨_, rfl, rfl, hM0.chg⟩)))
    replace h := iteF hb h
    refine wp_seq (wp_pure [(3, .pointer (some ⟨b1, 0, none⟩)), (7, .bool ((decide (p0.B ≥ 0)) && (decide (p0.B ≤ p2)))), (37, .int .i64 p0.Op), (83, .bool (p0.Op == 10))] hF (by kernel_rfl) fun fr hF => then_normal ?_)
    refine (wp_if hF (b := (p0.Op == 10)) rfl (fun hb => ?_) (fun hb => ?_))
    · replace h := iteT hb h
      obtain ⟨x19, hx19, h⟩ := bindE h
      refine wp_seq (region_b [] [true, false, false, true, true, true, true]
          [.eq (.pointer (some ⟨b1, 1, none⟩)), .eq (.int .i64 p0.A), .eq (.bool x19), .eq (.bool x19), .eq (.bool ((decide (p0.B ≥ 0)) && (decide (p0.B ≤ p2)))), .eq (.bool (x19 && ((decide (p0.B ≥ 0)) && (decide (p0.B ≤ p2))))), .eq (.bool (x19 && ((decide (p0.B ≥ 0)) && (decide (p0.B ≤ p2)))))]
          [(6, .bool (x19 && ((decide (p0.B ≥ 0)) && (decide (p0.B ≤ p2)))))] mix hF (by kernel_rfl) (by kernel_rfl) (by kernel_rfl) ⟨Pd.mono_eq, Pd.mono_eq, trivial⟩ (fun hG => ⟨np_loadBox hG hF ty3 rfl rfl (hs.bx 0 rfl) rfl rfl rfl, np_call [.int .i64 p0.A] hG hF Try.call77 rfl rfl (fun w hC hg => (impl_isReg_ok p0.A hx19).mono fun e w' ⟨v, he, hv, hc⟩ => ⟨v, he, hc, hv⟩), trivial⟩) (by kernel_rfl) fun fr w25 hF hE hc => then_normal ?_)
      have hs := hs.ext hc
      have hM0 := hM0.ext hc
      have hs : Sep [] w25 S1 := Sep.pick [] hs (by decide) rfl
      obtain rfl := Option.some.inj h
      exact wp_ret (blk_ret (then_ret (ret1 rfl hF rfl ⟨_, rfl, rfl, hM0.chg⟩)))
    replace h := iteF hb h
    refine wp_seq ?_
    refine wp_seq (wp_pure [(3, .pointer (some ⟨b1, 0, none⟩)), (37, .int .i64 p0.Op), (91, .bool (p0.Op == 12))] hF (by kernel_rfl) fun fr hF => then_normal ?_)
    refine (wp_merge [(3, .pointer (some ⟨b1, 0, none⟩)), (91, .bool ((p0.Op == 12) || (p0.Op == 14)))] hF (b := (p0.Op == 12)) rfl (fun hb => ?_) (fun hb => ?_) fun fr hF => then_normal ?_)
    · exact wp_skip ⟨rfl, rfl, (hF.sub [(3, .pointer (some ⟨b1, 0, none⟩)), (91, .bool (p0.Op == 12))] (by kernel_rfl)).eqs (by first | (simp only [hb]; done) | (simp only [hb]; rfl))⟩
    · exact wp_pure [(3, .pointer (some ⟨b1, 0, none⟩)), (91, .bool (p0.Op == 14))] hF (by kernel_rfl) fun fr hF => ⟨rfl, rfl, hF.eqs (by first | (simp only [hb]; done) | (simp only [hb]; rfl))⟩
    refine (wp_if hF (b := ((p0.Op == 12) || (p0.Op == 14))) rfl (fun hb => ?_) (fun hb => ?_))
    · replace h := iteT hb h
      refine wp_seq (region_b [] [true, false, true, true, true, false, true, true, true]
          [.eq (.pointer (some ⟨b1, 1, none⟩)), .eq (.int .i64 p0.A), .eq (.bool (p0.A == 0)), .eq (.bool (p0.A == 0)), .eq (.pointer (some ⟨b1, 2, none⟩)), .eq (.int .i64 p0.B), .eq (.bool (p0.B == 0)), .eq (.bool ((p0.A == 0) && (p0.B == 0))), .eq (.bool ((p0.A == 0) && (p0.B == 0)))]
          [(6, .bool ((p0.A == 0) && (p0.B == 0)))] mix hF (by kernel_rfl) (by kernel_rfl) (by kernel_rfl) ⟨Pd.mono_eq, Pd.mono_eq, trivial⟩ (fun hG => ⟨np_loadBox hG hF ty3 rfl rfl (hs.bx 0 rfl) rfl rfl rfl, np_loadBox hG hF ty3 rfl rfl (hs.bx 0 rfl) rfl rfl rfl, trivial⟩) (by kernel_rfl) fun fr w26 hF hE hc => then_normal ?_)
      have hs := hs.ext hc
      have hM0 := hM0.ext hc
      have hs : Sep [] w26 S1 := Sep.pick [] hs (by decide) rfl
      obtain rfl := Option.some.inj h
      exact wp_ret (blk_ret (then_ret (ret1 rfl hF rfl ⟨_, rfl, rfl, hM0.chg⟩)))
    replace h := iteF hb h
    have hs : Sep [] w2 S1 := Sep.pick [] hs (by decide) rfl
    refine (wp_skip ?_)
    refine blk_normal (then_normal ?_)
    refine wp_seq (wp_pure [(6, .bool false)] hF (by kernel_rfl) fun fr hF => then_normal ?_)
    obtain rfl := Option.some.inj h
    exact wp_ret (ret1 rfl hF rfl ⟨_, rfl, rfl, hM0.chg⟩)
  replace h := iteF hb h
  refine wp_seq (wp_pure [(3, .pointer (some ⟨b1, 0, none⟩)), (7, .bool ((decide (p0.B ≥ 0)) && (decide (p0.B ≤ p2)))), (37, .int .i64 p0.Op), (61, .bool (p0.Op == 6))] hF (by kernel_rfl) fun fr hF => then_normal ?_)
  refine (wp_merge [(3, .pointer (some ⟨b1, 0, none⟩)), (7, .bool ((decide (p0.B ≥ 0)) && (decide (p0.B ≤ p2)))), (37, .int .i64 p0.Op), (61, .bool ((p0.Op == 6) || (p0.Op == 13)))] hF (b := (p0.Op == 6)) rfl (fun hb => ?_) (fun hb => ?_) fun fr hF => then_normal ?_)
  · exact wp_skip ⟨rfl, rfl, (hF.sub [(3, .pointer (some ⟨b1, 0, none⟩)), (7, .bool ((decide (p0.B ≥ 0)) && (decide (p0.B ≤ p2)))), (37, .int .i64 p0.Op), (61, .bool (p0.Op == 6))] (by kernel_rfl)).eqs (by first | (simp only [hb]; done) | (simp only [hb]; rfl))⟩
  · exact wp_pure [(3, .pointer (some ⟨b1, 0, none⟩)), (7, .bool ((decide (p0.B ≥ 0)) && (decide (p0.B ≤ p2)))), (37, .int .i64 p0.Op), (61, .bool (p0.Op == 13))] hF (by kernel_rfl) fun fr hF => ⟨rfl, rfl, hF.eqs (by first | (simp only [hb]; done) | (simp only [hb]; rfl))⟩
  refine (wp_if hF (b := ((p0.Op == 6) || (p0.Op == 13))) rfl (fun hb => ?_) (fun hb => ?_))
  · replace h := iteT hb h
    obtain ⟨x20, hx20, h⟩ := bindE h
    refine wp_seq (region_b [] [true, false, false, true, true, false, true, true, true]
        [.eq (.pointer (some ⟨b1, 1, none⟩)), .eq (.int .i64 p0.A), .eq (.bool x20), .eq (.bool x20), .eq (.pointer (some ⟨b1, 2, none⟩)), .eq (.int .i64 p0.B), .eq (.bool (p0.B == 0)), .eq (.bool (x20 && (p0.B == 0))), .eq (.bool (x20 && (p0.B == 0)))]
        [(6, .bool (x20 && (p0.B == 0)))] mix hF (by kernel_rfl) (by kernel_rfl) (by kernel_rfl) ⟨Pd.mono_eq, Pd.mono_eq, Pd.mono_eq, trivial⟩ (fun hG => ⟨np_loadBox hG hF ty3 rfl rfl (hs.bx 0 rfl) rfl rfl rfl, np_call [.int .i64 p0.A] hG hF Try.call77 rfl rfl (fun w hC hg => (impl_isReg_ok p0.A hx20).mono fun e w' ⟨v, he, hv, hc⟩ => ⟨v, he, hc, hv⟩), np_loadBox hG hF ty3 rfl rfl (hs.bx 0 rfl) rfl rfl rfl, trivial⟩) (by kernel_rfl) fun fr w27 hF hE hc => then_normal ?_)
    have hs := hs.ext hc
    have hM0 := hM0.ext hc
    have hs : Sep [] w27 S1 := Sep.pick [] hs (by decide) rfl
    obtain rfl := Option.some.inj h
    exact wp_ret (blk_ret (then_ret (ret1 rfl hF rfl ⟨_, rfl, rfl, hM0.chg⟩)))
  replace h := iteF hb h
  refine wp_seq ?_
  refine wp_seq (wp_pure [(3, .pointer (some ⟨b1, 0, none⟩)), (7, .bool ((decide (p0.B ≥ 0)) && (decide (p0.B ≤ p2)))), (37, .int .i64 p0.Op), (74, .bool (p0.Op == 9))] hF (by kernel_rfl) fun fr hF => then_normal ?_)
  refine (wp_merge [(3, .pointer (some ⟨b1, 0, none⟩)), (7, .bool ((decide (p0.B ≥ 0)) && (decide (p0.B ≤ p2)))), (37, .int .i64 p0.Op), (74, .bool ((p0.Op == 9) || (p0.Op == 11)))] hF (b := (p0.Op == 9)) rfl (fun hb => ?_) (fun hb => ?_) fun fr hF => then_normal ?_)
  · exact wp_skip ⟨rfl, rfl, (hF.sub [(3, .pointer (some ⟨b1, 0, none⟩)), (7, .bool ((decide (p0.B ≥ 0)) && (decide (p0.B ≤ p2)))), (37, .int .i64 p0.Op), (74, .bool (p0.Op == 9))] (by kernel_rfl)).eqs (by first | (simp only [hb]; done) | (simp only [hb]; rfl))⟩
  · exact wp_pure [(3, .pointer (some ⟨b1, 0, none⟩)), (7, .bool ((decide (p0.B ≥ 0)) && (decide (p0.B ≤ p2)))), (37, .int .i64 p0.Op), (74, .bool (p0.Op == 11))] hF (by kernel_rfl) fun fr hF => ⟨rfl, rfl, hF.eqs (by first | (simp only [hb]; done) | (simp only [hb]; rfl))⟩
  refine (wp_if hF (b := ((p0.Op == 9) || (p0.Op == 11))) rfl (fun hb => ?_) (fun hb => ?_))
  · replace h := iteT hb h
    refine wp_seq (region_b [] [true, false, true, true, true, true, true]
        [.eq (.pointer (some ⟨b1, 1, none⟩)), .eq (.int .i64 p0.A), .eq (.bool (p0.A == 0)), .eq (.bool (p0.A == 0)), .eq (.bool ((decide (p0.B ≥ 0)) && (decide (p0.B ≤ p2)))), .eq (.bool ((p0.A == 0) && ((decide (p0.B ≥ 0)) && (decide (p0.B ≤ p2))))), .eq (.bool ((p0.A == 0) && ((decide (p0.B ≥ 0)) && (decide (p0.B ≤ p2)))))]
        [(6, .bool ((p0.A == 0) && ((decide (p0.B ≥ 0)) && (decide (p0.B ≤ p2)))))] mix hF (by kernel_rfl) (by kernel_rfl) (by kernel_rfl) ⟨Pd.mono_eq, trivial⟩ (fun hG => ⟨np_loadBox hG hF ty3 rfl rfl (hs.bx 0 rfl) rfl rfl rfl, trivial⟩) (by kernel_rfl) fun fr w28 hF hE hc => then_normal ?_)
    have hs := hs.ext hc
    have hM0 := hM0.ext hc
    have hs : Sep [] w28 S1 := Sep.pick [] hs (by decide) rfl
    obtain rfl := Option.some.inj h
    exact wp_ret (blk_ret (then_ret (ret1 rfl hF rfl ⟨_, rfl, rfl, hM0.chg⟩)))
  replace h := iteF hb h
  refine wp_seq (wp_pure [(3, .pointer (some ⟨b1, 0, none⟩)), (7, .bool ((decide (p0.B ≥ 0)) && (decide (p0.B ≤ p2)))), (37, .int .i64 p0.Op), (83, .bool (p0.Op == 10))] hF (by kernel_rfl) fun fr hF => then_normal ?_)
  refine (wp_if hF (b := (p0.Op == 10)) rfl (fun hb => ?_) (fun hb => ?_))
  · replace h := iteT hb h
    obtain ⟨x21, hx21, h⟩ := bindE h
    refine wp_seq (region_b [] [true, false, false, true, true, true, true]
        [.eq (.pointer (some ⟨b1, 1, none⟩)), .eq (.int .i64 p0.A), .eq (.bool x21), .eq (.bool x21), .eq (.bool ((decide (p0.B ≥ 0)) && (decide (p0.B ≤ p2)))), .eq (.bool (x21 && ((decide (p0.B ≥ 0)) && (decide (p0.B ≤ p2))))), .eq (.bool (x21 && ((decide (p0.B ≥ 0)) && (decide (p0.B ≤ p2)))))]
        [(6, .bool (x21 && ((decide (p0.B ≥ 0)) && (decide (p0.B ≤ p2)))))] mix hF (by kernel_rfl) (by kernel_rfl) (by kernel_rfl) ⟨Pd.mono_eq, Pd.mono_eq, trivial⟩ (fun hG => ⟨np_loadBox hG hF ty3 rfl rfl (hs.bx 0 rfl) rfl rfl rfl, np_call [.int .i64 p0.A] hG hF Try.call77 rfl rfl (fun w hC hg => (impl_isReg_ok p0.A hx21).mono fun e w' ⟨v, he, hv, hc⟩ => ⟨v, he, hc, hv⟩), trivial⟩) (by kernel_rfl) fun fr w29 hF hE hc => then_normal ?_)
    have hs := hs.ext hc
    have hM0 := hM0.ext hc
    have hs : Sep [] w29 S1 := Sep.pick [] hs (by decide) rfl
    obtain rfl := Option.some.inj h
    exact wp_ret (blk_ret (then_ret (ret1 rfl hF rfl ⟨_, rfl, rfl, hM0.chg⟩)))
  replace h := iteF hb h
  refine wp_seq ?_
  refine wp_seq (wp_pure [(3, .pointer (some ⟨b1, 0, none⟩)), (37, .int .i64 p0.Op), (91, .bool (p0.Op == 12))] hF (by kernel_rfl) fun fr hF => then_normal ?_)
  refine (wp_merge [(3, .pointer (some ⟨b1, 0, none⟩)), (91, .bool ((p0.Op == 12) || (p0.Op == 14)))] hF (b := (p0.Op == 12)) rfl (fun hb => ?_) (fun hb => ?_) fun fr hF => then_normal ?_)
  · exact wp_skip ⟨rfl, rfl, (hF.sub [(3, .pointer (some ⟨b1, 0, none⟩)), (91, .bool (p0.Op == 12))] (by kernel_rfl)).eqs (by first | (simp only [hb]; done) | (simp only [hb]; rfl))⟩
  · exact wp_pure [(3, .pointer (some ⟨b1, 0, none⟩)), (91, .bool (p0.Op == 14))] hF (by kernel_rfl) fun fr hF => ⟨rfl, rfl, hF.eqs (by first | (simp only [hb]; done) | (simp only [hb]; rfl))⟩
  refine (wp_if hF (b := ((p0.Op == 12) || (p0.Op == 14))) rfl (fun hb => ?_) (fun hb => ?_))
  · replace h := iteT hb h
    refine wp_seq (region_b [] [true, false, true, true, true, false, true, true, true]
        [.eq (.pointer (some ⟨b1, 1, none⟩)), .eq (.int .i64 p0.A), .eq (.bool (p0.A == 0)), .eq (.bool (p0.A == 0)), .eq (.pointer (some ⟨b1, 2, none⟩)), .eq (.int .i64 p0.B), .eq (.bool (p0.B == 0)), .eq (.bool ((p0.A == 0) && (p0.B == 0))), .eq (.bool ((p0.A == 0) && (p0.B == 0)))]
        [(6, .bool ((p0.A == 0) && (p0.B == 0)))] mix hF (by kernel_rfl) (by kernel_rfl) (by kernel_rfl) ⟨Pd.mono_eq, Pd.mono_eq, trivial⟩ (fun hG => ⟨np_loadBox hG hF ty3 rfl rfl (hs.bx 0 rfl) rfl rfl rfl, np_loadBox hG hF ty3 rfl rfl (hs.bx 0 rfl) rfl rfl rfl, trivial⟩) (by kernel_rfl) fun fr w30 hF hE hc => then_normal ?_)
    have hs := hs.ext hc
    have hM0 := hM0.ext hc
    have hs : Sep [] w30 S1 := Sep.pick [] hs (by decide) rfl
    obtain rfl := Option.some.inj h
    exact wp_ret (blk_ret (then_ret (ret1 rfl hF rfl ⟨_, rfl, rfl, hM0.chg⟩)))
  replace h := iteF hb h
  have hs : Sep [] w2 S1 := Sep.pick [] hs (by decide) rfl
  refine (wp_skip ?_)
  refine blk_normal (then_normal ?_)
  refine wp_seq (wp_pure [(6, .bool false)] hF (by kernel_rfl) fun fr hF => then_normal ?_)
  obtain rfl := Option.some.inj h
  exact wp_ret (ret1 rfl hF rfl ⟨_, rfl, rfl, hM0.chg⟩)

theorem impl_ProgramOk_ok (n : Nat) (p0 : D.Program) {r : Bool} (h : impl_ProgramOk n p0 = some r) {w : World} {G0 : Nat → Prop} {va0 : Value} (ra0 : RV w G0 va0 p0) :
    Calls Try.prog 40 [va0].toArray w fun e w' => ∃ v, e = .returned v ∧ v = .bool r ∧ Chg Non w w' := by
  unfold impl_ProgramOk at h
  have hs := Sep.nil w Non
  have hM0 : Mem w Non (fun k => (G0 k) ∧ k < w.heap.size) w Non (fun k => (G0 k) ∧ k < w.heap.size) := Mem.start (fun _ h => h.elim) (fun _ h => h.2) (fun _ h => h.elim)
  have ra0 := ra0.sub (F' := (fun k => (G0 k) ∧ k < w.heap.size)) (fun k hk h => ⟨h, hk⟩)
  obtain ⟨v1, rfl, r1⟩ := RV.Program ra0
  obtain ⟨a1, c1, rfl, -⟩ := r1.slice
  refine enter (N := 54) Try.func40 rfl Try.ntmps40 rfl fun fr hF => ?_
  refine wp_seq (wp_text' ?_)
  refine q_box hs hM0 [.int .i64 p0.W, .int .i64 p0.Mem, .int .i64 p0.In, .slice a1 (List.length p0.Code) c1] rfl rfl hF rfl rfl fun b1 w1 S1 fr hs hp hF => ?_
  have r1 := r1.stp hM0 hp
  have hM0 := hM0.stp hp
  have hs : Sep [BX b1 32 [.int .i64 p0.W, .int .i64 p0.Mem, .int .i64 p0.In, .slice a1 (List.length p0.Code) c1]] w1 S1 := hs
  refine from_pure 1 [(1, .pointer (some ⟨b1, 0, none⟩))] hF (by kernel_rfl) fun fr hF => ?_
  refine from_end rfl (then_normal ?_)
  refine wp_seq ?_
  obtain ⟨x1, hx1, h⟩ := bindE h
  obtain ⟨x2, hx2, h⟩ := bindE h
  refine wp_seq (region_b [] [true, false, true, false, true, false, true, true, true, false, true, true, true, true, false, true, true, true, true, false, true, false, false, true, true]
      [.eq (.pointer (some ⟨b1, 0, none⟩)), .eq (.int .i64 p0.W), .eq (.pointer (some ⟨b1, 3, none⟩)), .eq (.slice a1 (List.length p0.Code) c1), .eq (.int .i64 (len p0.Code)), .eq (.bool x1), .eq (.bool (!x1)), .eq (.bool (!x1)), .eq (.pointer (some ⟨b1, 1, none⟩)), .eq (.int .i64 p0.Mem), .eq (.bool (decide (p0.Mem < 1))), .eq (.bool ((!x1) || (decide (p0.Mem < 1)))), .eq (.bool ((!x1) || (decide (p0.Mem < 1)))), .eq (.pointer (some ⟨b1, 1, none⟩)), .eq (.int .i64 p0.Mem), .eq (.bool (decide (p0.Mem > 6))), .eq (.bool (((!x1) || (decide (p0.Mem < 1))) || (decide (p0.Mem > 6)))), .eq (.bool (((!x1) || (decide (p0.Mem < 1))) || (decide (p0.Mem > 6)))), .eq (.pointer (some ⟨b1, 0, none⟩)), .eq (.int .i64 p0.W), .eq (.pointer (some ⟨b1, 1, none⟩)), .eq (.int .i64 p0.Mem), .eq (.bool x2), .eq (.bool (!x2)), .eq (.bool ((((!x1) || (decide (p0.Mem < 1))) || (decide (p0.Mem > 6))) || (!x2)))]
      [(1, .pointer (some ⟨b1, 0, none⟩)), (29, .bool ((((!x1) || (decide (p0.Mem < 1))) || (decide (p0.Mem > 6))) || (!x2)))] mix hF (by kernel_rfl) (by kernel_rfl) (by kernel_rfl) ⟨Pd.mono_eq, Pd.mono_eq, Pd.mono_eq, Pd.mono_eq, Pd.mono_eq, Pd.mono_eq, Pd.mono_eq, Pd.mono_eq, trivial⟩ (fun hG => ⟨np_loadBox hG hF ty3 rfl rfl (hs.bx 0 rfl) rfl rfl rfl, np_loadBox hG hF ty30 rfl rfl (hs.bx 0 rfl) rfl rfl rfl, np_call [.int .i64 p0.W, .int .i64 (len p0.Code)] hG hF Try.call60 rfl rfl (fun w hC hg => (impl_shapeOk_ok p0.W (len p0.Code) hx1).mono fun e w' ⟨v, he, hv, hc⟩ => ⟨v, he, hc, hv⟩), np_loadBox hG hF ty3 rfl rfl (hs.bx 0 rfl) rfl rfl rfl, np_loadBox hG hF ty3 rfl rfl (hs.bx 0 rfl) rfl rfl rfl, np_loadBox hG hF ty3 rfl rfl (hs.bx 0 rfl) rfl rfl rfl, np_loadBox hG hF ty3 rfl rfl (hs.bx 0 rfl) rfl rfl rfl, np_call [.int .i64 p0.W, .int .i64 p0.Mem] hG hF Try.call61 rfl rfl (fun w hC hg => (impl_WordOk_ok p0.W p0.Mem (iteF hg.2 hx2)).mono fun e w' ⟨v, he, hv, hc⟩ => ⟨v, he, hc, hv⟩), trivial⟩) (by kernel_rfl) fun fr w2 hF hE hc => then_normal ?_)
  have r1 := r1.ext hc
  have hs := hs.ext hc
  have hM0 := hM0.ext hc
  refine (wp_if hF (b := ((((!x1) || (decide (p0.Mem < 1))) || (decide (p0.Mem > 6))) || (!x2))) rfl (fun hb => ?_) (fun hb => ?_))
  · replace h := iteT hb h
    have hs : Sep [] w2 S1 := Sep.pick [] hs (by decide) rfl
    refine wp_seq (wp_pure [(2, .bool false)] hF (by kernel_rfl) fun fr hF => then_normal ?_)
    obtain rfl := Option.some.inj h
    exact wp_ret (then_ret (ret1 rfl hF rfl ⟨_, rfl, rfl, hM0.chg⟩))
  replace h := iteF hb h
  refine (wp_skip (then_normal ?_))
  refine wp_seq ?_
  refine wp_seq (region_b [] [true, false, true, true, true, false, true, true]
      [.eq (.pointer (some ⟨b1, 2, none⟩)), .eq (.int .i64 p0.In), .eq (.bool (decide (p0.In < 0))), .eq (.bool (decide (p0.In < 0))), .eq (.pointer (some ⟨b1, 2, none⟩)), .eq (.int .i64 p0.In), .eq (.bool (decide (p0.In > 3))), .eq (.bool ((decide (p0.In < 0)) || (decide (p0.In > 3))))]
      [(1, .pointer (some ⟨b1, 0, none⟩)), (37, .bool ((decide (p0.In < 0)) || (decide (p0.In > 3))))] mix hF (by kernel_rfl) (by kernel_rfl) (by kernel_rfl) ⟨Pd.mono_eq, Pd.mono_eq, trivial⟩ (fun hG => ⟨np_loadBox hG hF ty3 rfl rfl (hs.bx 0 rfl) rfl rfl rfl, np_loadBox hG hF ty3 rfl rfl (hs.bx 0 rfl) rfl rfl rfl, trivial⟩) (by kernel_rfl) fun fr w3 hF hE hc => then_normal ?_)
  have r1 := r1.ext hc
  have hs := hs.ext hc
  have hM0 := hM0.ext hc
  refine (wp_if hF (b := ((decide (p0.In < 0)) || (decide (p0.In > 3)))) rfl (fun hb => ?_) (fun hb => ?_))
  · replace h := iteT hb h
    have hs : Sep [] w3 S1 := Sep.pick [] hs (by decide) rfl
    refine wp_seq (wp_pure [(2, .bool false)] hF (by kernel_rfl) fun fr hF => then_normal ?_)
    obtain rfl := Option.some.inj h
    exact wp_ret (then_ret (ret1 rfl hF rfl ⟨_, rfl, rfl, hM0.chg⟩))
  replace h := iteF hb h
  refine (wp_skip (then_normal ?_))
  refine wp_seq ?_
  refine wp_seq (wp_text' ?_)
  refine from_pure 1 [(1, .pointer (some ⟨b1, 0, none⟩)), (38, .pointer (some ⟨b1, 3, none⟩))] hF (by kernel_rfl) fun fr hF => ?_
  refine s_loadBox (.slice a1 (List.length p0.Code) c1) ty30 rfl rfl hF rfl (hs.bx 0 rfl) rfl rfl fun fr hF => ?_
  refine from_pure 2 [(1, .pointer (some ⟨b1, 0, none⟩)), (39, .slice a1 (List.length p0.Code) c1), (40, .int .i64 (len p0.Code)), (41, .int .i64 0)] hF (by kernel_rfl) fun fr hF => ?_
  refine from_end rfl (then_normal ?_)
  obtain ⟨rl1, hit1, h⟩ := bindE h
  have hk1 := h
  refine (wp_cut (M := fun fr w' => ∃ s, rl1 = .inl s ∧ ∃ S3 F2, FrS 54 [] fr ∧ Mem w3 S1 (fun k => (G0 k) ∧ k < w.heap.size) w' S3 F2 ∧ Sep [] w' S3) (wp_block (wp_iter (Inv := fun s1 fr w' => ∃ S2 F1, FrS 54 [(1, .pointer (some ⟨b1, 0, none⟩)), (39, .slice a1 (List.length p0.Code) c1), (40, .int .i64 (len p0.Code)), (41, .int .i64 s1)] fr ∧ Mem w3 S1 (fun k => (G0 k) ∧ k < w.heap.size) w' S2 F1 ∧ Sep [BX b1 32 [.int .i64 p0.W, .int .i64 p0.Mem, .int .i64 p0.In, .slice a1 (List.length p0.Code) c1]] w' S2) hit1 ⟨S1, _, hF.sub _ (by kernel_rfl), (Mem.start hM0.bd hM0.bdF hM0.dj), hs⟩ fun s1 q1 fr w1i hI h hr1 => ?_)) fun fr w1o hM => ?_)
  · obtain ⟨S2, F1, hF, hM1, hs⟩ := hI
    have r1 := r1.mem hM1
    refine wp_seq (wp_pure [(1, .pointer (some ⟨b1, 0, none⟩)), (39, .slice a1 (List.length p0.Code) c1), (40, .int .i64 (len p0.Code)), (41, .int .i64 s1), (42, .bool (decide (s1 < (len p0.Code))))] hF (by kernel_rfl) fun fr hF => then_normal ?_)
    refine wp_seq (wp_if hF (b := (decide (s1 < (len p0.Code)))) rfl (fun hb => ?_) (fun hb => ?_))
    · replace h := iteT hb h
      refine (wp_skip (then_normal ?_))
      refine wp_seq (wp_block ?_)
      refine wp_seq (wp_text' ?_)
      obtain ⟨x3, hx3, h⟩ := bindE h
      refine s_elemF (z := x3) (.agg #[.int .i64 x3.Op, .int .i64 x3.A, .int .i64 x3.B, .int .i64 x3.C]) ty66 Try.underlying30 rfl rfl rfl rfl rfl hF rfl (r1) rfl (get?_nn hx3) (get?_at hx3) rfl fun p fr hF => ?_
      refine q_alloc (z := .agg #[.int .i64 0, .int .i64 0, .int .i64 0, .int .i64 0]) hs hM1 [.int .i64 0, .int .i64 0, .int .i64 0, .int .i64 0] rfl rfl hF (by kernel_rfl) rfl fun b2 w4 S4 fr hs hp hF => ?_
      have r1 := r1.stp hM1 hp
      have hM1 := hM1.stp hp
      have hs : Sep [BX b2 66 [.int .i64 0, .int .i64 0, .int .i64 0, .int .i64 0], BX b1 32 [.int .i64 p0.W, .int .i64 p0.Mem, .int .i64 p0.In, .slice a1 (List.length p0.Code) c1]] w4 S4 := hs
      refine q_storeBoxS 0 hs hM1 rfl [.int .i64 x3.Op, .int .i64 x3.A, .int .i64 x3.B, .int .i64 x3.C] rfl hF rfl rfl (by kernel_rfl) rfl rfl rfl fun w5 S5 hs hp hF => ?_
      have r1 := r1.stp hM1 hp
      have hM1 := hM1.stp hp
      have hs : Sep [BX b2 66 [.int .i64 x3.Op, .int .i64 x3.A, .int .i64 x3.B, .int .i64 x3.C], BX b1 32 [.int .i64 p0.W, .int .i64 p0.Mem, .int .i64 p0.In, .slice a1 (List.length p0.Code) c1]] w5 S5 := hs
      refine from_end rfl (then_normal ?_)
      refine wp_seq (wp_text' ?_)
      refine s_loadBoxS ty66 rfl rfl hF rfl (hs.bx 0 rfl) rfl rfl fun fr hF => ?_
      have hs : Sep [BX b1 32 [.int .i64 p0.W, .int .i64 p0.Mem, .int .i64 p0.In, .slice a1 (List.length p0.Code) c1]] w5 S5 := Sep.pick [1] hs (by decide) rfl
      refine from_pure 1 [(1, .pointer (some ⟨b1, 0, none⟩)), (39, .slice a1 (List.length p0.Code) c1), (40, .int .i64 (len p0.Code)), (41, .int .i64 s1), (45, .agg #[.int .i64 x3.Op, .int .i64 x3.A, .int .i64 x3.B, .int .i64 x3.C]), (46, .pointer (some ⟨b1, 0, none⟩))] hF (by kernel_rfl) fun fr hF => ?_
      refine s_loadBox (.int .i64 p0.W) ty3 rfl rfl hF rfl (hs.bx 0 rfl) rfl rfl fun fr hF => ?_
      refine from_pure 1 [(1, .pointer (some ⟨b1, 0, none⟩)), (39, .slice a1 (List.length p0.Code) c1), (40, .int .i64 (len p0.Code)), (41, .int .i64 s1), (45, .agg #[.int .i64 x3.Op, .int .i64 x3.A, .int .i64 x3.B, .int .i64 x3.C]), (47, .int .i64 p0.W), (48, .pointer (some ⟨b1, 3, none⟩))] hF (by kernel_rfl) fun fr hF => ?_
      refine s_loadBox (.slice a1 (List.length p0.Code) c1) ty30 rfl rfl hF rfl (hs.bx 0 rfl) rfl rfl fun fr hF => ?_
      refine from_pure 1 [(1, .pointer (some ⟨b1, 0, none⟩)), (39, .slice a1 (List.length p0.Code) c1), (40, .int .i64 (len p0.Code)), (41, .int .i64 s1), (45, .agg #[.int .i64 x3.Op, .int .i64 x3.A, .int .i64 x3.B, .int .i64 x3.C]), (47, .int .i64 p0.W), (50, .int .i64 (len p0.Code))] hF (by kernel_rfl) fun fr hF => ?_
      obtain ⟨x4, hx4, h⟩ := bindE h
      refine s_call [.agg #[.int .i64 x3.Op, .int .i64 x3.A, .int .i64 x3.B, .int .i64 x3.C], .int .i64 p0.W, .int .i64 (len p0.Code)] Try.call62 rfl rfl hF rfl (impl_insOk_ok x3 p0.W (len p0.Code) hx4) fun v w6 fr hRes hF => ?_
      obtain ⟨rfl, hc⟩ := hRes
      have r1 := r1.ext hc
      have hs := hs.ext hc
      have hM1 := hM1.ext hc
      refine from_pure 1 [(1, .pointer (some ⟨b1, 0, none⟩)), (39, .slice a1 (List.length p0.Code) c1), (40, .int .i64 (len p0.Code)), (41, .int .i64 s1), (52, .bool (!x4))] hF (by kernel_rfl) fun fr hF => ?_
      refine from_end rfl (then_normal ?_)
      refine (wp_if hF (b := (!x4)) rfl (fun hb => ?_) (fun hb => ?_))
      · replace h := iteT hb h
        have hs : Sep [] w6 S5 := Sep.pick [] hs (by decide) rfl
        refine wp_seq (wp_pure [(2, .bool false)] hF (by kernel_rfl) fun fr hF => then_normal ?_)
        obtain rfl := hr1 _ (Option.some.inj h).symm
        obtain rfl := Option.some.inj hk1
        exact wp_ret (blk_ret (then_ret (then_ret (blk_ret (then_ret (ret1 rfl hF rfl ⟨_, rfl, rfl, (hM0.trans hM1).chg⟩))))))
      replace h := iteF hb h
      refine (wp_skip ?_)
      refine blk_normal (then_normal ?_)
      refine (wp_pure [(1, .pointer (some ⟨b1, 0, none⟩)), (39, .slice a1 (List.length p0.Code) c1), (40, .int .i64 (len p0.Code)), (41, .int .i64 (w64 (s1 + 1)))] hF (by kernel_rfl) fun fr hF => then_normal ?_)
      exact ⟨_, (Option.some.inj h).symm, S5, _, hF.sub _ (by kernel_rfl), hM1, hs⟩
    replace h := iteF hb h
    have hs : Sep [] w1i S2 := Sep.pick [] hs (by decide) rfl
    refine (wp_exit (then_exit (then_exit (blk_exit_eq ?_))))
    obtain rfl := hr1 _ (Option.some.inj h).symm
    exact then_normal ⟨_, rfl, S2, _, hF.sub _ (by kernel_rfl), hM1, hs⟩
  · obtain ⟨s1r, rfl, hM⟩ := hM
    obtain ⟨S3, F2, hF, hMx, hs⟩ := hM
    have hM0 := hM0.trans hMx
    refine wp_seq (wp_pure [(2, .bool true)] hF (by kernel_rfl) fun fr hF => then_normal ?_)
    obtain rfl := Option.some.inj h
    exact wp_ret (ret1 rfl hF rfl ⟨_, rfl, rfl, hM0.chg⟩)

theorem impl_wordsOk_ok (n : Nat) (p0 : Int) (p1 : List Int) {r : Bool} (h : impl_wordsOk n p0 p1 = some r) {w : World} {G1 : Nat → Prop} {va1 : Value} (ra1 : RV w G1 va1 p1) :
    Calls Try.prog 69 [.int .i64 p0, va1].toArray w fun e w' => ∃ v, e = .returned v ∧ v = .bool r ∧ Chg Non w w' := by
  unfold impl_wordsOk at h
  have hs := Sep.nil w Non
  have hM0 : Mem w Non (fun k => (G1 k) ∧ k < w.heap.size) w Non (fun k => (G1 k) ∧ k < w.heap.size) := Mem.start (fun _ h => h.elim) (fun _ h => h.2) (fun _ h => h.elim)
  have ra1 := ra1.sub (F' := (fun k => (G1 k) ∧ k < w.heap.size)) (fun k hk h => ⟨h, hk⟩)
  obtain ⟨a1, c1, rfl, -⟩ := ra1.slice
  refine enter (N := 18) Try.func69 rfl Try.ntmps69 rfl fun fr hF => ?_
  refine wp_seq (wp_pure [(0, .int .i64 p0), (1, .slice a1 (List.length p1) c1)] hF (by kernel_rfl) fun fr hF => then_normal ?_)
  refine wp_seq ?_
  refine wp_seq (wp_pure [(0, .int .i64 p0), (7, .slice a1 (List.length p1) c1), (8, .int .i64 (len p1)), (9, .int .i64 0)] hF (by kernel_rfl) fun fr hF => then_normal ?_)
  obtain ⟨rl1, hit1, h⟩ := bindE h
  have hk1 := h
  refine (wp_cut (M := fun fr w' => ∃ s, rl1 = .inl s ∧ ∃ S2 F2, FrS 18 [] fr ∧ Mem w Non (fun k => (G1 k) ∧ k < w.heap.size) w' S2 F2 ∧ Sep [] w' S2) (wp_block (wp_iter (Inv := fun s1 fr w' => ∃ S1 F1, FrS 18 [(0, .int .i64 p0), (7, .slice a1 (List.length p1) c1), (8, .int .i64 (len p1)), (9, .int .i64 s1)] fr ∧ Mem w Non (fun k => (G1 k) ∧ k < w.heap.size) w' S1 F1 ∧ Sep [] w' S1) hit1 ⟨Non, _, hF.sub _ (by kernel_rfl), (Mem.start hM0.bd hM0.bdF hM0.dj), hs⟩ fun s1 q1 fr w1i hI h hr1 => ?_)) fun fr w1o hM => ?_)
  · obtain ⟨S1, F1, hF, hM1, hs⟩ := hI
    have ra1 := ra1.mem hM1
    refine wp_seq (wp_pure [(0, .int .i64 p0), (7, .slice a1 (List.length p1) c1), (8, .int .i64 (len p1)), (9, .int .i64 s1), (10, .bool (decide (s1 < (len p1))))] hF (by kernel_rfl) fun fr hF => then_normal ?_)
    refine wp_seq (wp_if hF (b := (decide (s1 < (len p1)))) rfl (fun hb => ?_) (fun hb => ?_))
    · replace h := iteT hb h
      refine (wp_skip (then_normal ?_))
      refine wp_seq (wp_block ?_)
      refine wp_seq (wp_text' ?_)
      obtain ⟨x1, hx1, h⟩ := bindE h
      refine s_elemF (z := x1) (.int .i64 x1) ty3 Try.underlying26 rfl rfl rfl rfl rfl hF rfl (ra1) rfl (get?_nn hx1) (get?_at hx1) rfl fun p fr hF => ?_
      refine from_pure 1 [(0, .int .i64 p0), (6, .int .i64 x1), (7, .slice a1 (List.length p1) c1), (8, .int .i64 (len p1)), (9, .int .i64 s1)] hF (by kernel_rfl) fun fr hF => ?_
      refine from_end rfl (then_normal ?_)
      refine wp_seq (wp_text' ?_)
      refine from_pure 2 [(0, .int .i64 p0), (7, .slice a1 (List.length p1) c1), (8, .int .i64 (len p1)), (9, .int .i64 s1), (13, .int .i64 p0), (14, .int .i64 x1)] hF (by kernel_rfl) fun fr hF => ?_
      obtain ⟨x2, hx2, h⟩ := bindE h
      refine s_call [.int .i64 p0, .int .i64 x1] Try.call61 rfl rfl hF rfl (impl_WordOk_ok p0 x1 hx2) fun v w1 fr hRes hF => ?_
      obtain ⟨rfl, hc⟩ := hRes
      have ra1 := ra1.ext hc
      have hs := hs.ext hc
      have hM1 := hM1.ext hc
      refine from_pure 1 [(0, .int .i64 p0), (7, .slice a1 (List.length p1) c1), (8, .int .i64 (len p1)), (9, .int .i64 s1), (16, .bool (!x2))] hF (by kernel_rfl) fun fr hF => ?_
      refine from_end rfl (then_normal ?_)
      refine (wp_if hF (b := (!x2)) rfl (fun hb => ?_) (fun hb => ?_))
      · replace h := iteT hb h
        refine wp_seq (wp_pure [(4, .bool false)] hF (by kernel_rfl) fun fr hF => then_normal ?_)
        obtain rfl := hr1 _ (Option.some.inj h).symm
        obtain rfl := Option.some.inj hk1
        exact wp_ret (blk_ret (then_ret (then_ret (blk_ret (then_ret (ret1 rfl hF rfl ⟨_, rfl, rfl, (hM0.trans hM1).chg⟩))))))
      replace h := iteF hb h
      refine (wp_skip ?_)
      refine blk_normal (then_normal ?_)
      refine (wp_pure [(0, .int .i64 p0), (7, .slice a1 (List.length p1) c1), (8, .int .i64 (len p1)), (9, .int .i64 (w64 (s1 + 1)))] hF (by kernel_rfl) fun fr hF => then_normal ?_)
      exact ⟨_, (Option.some.inj h).symm, S1, _, hF.sub _ (by kernel_rfl), hM1, hs⟩
    replace h := iteF hb h
    refine (wp_exit (then_exit (then_exit (blk_exit_eq ?_))))
    obtain rfl := hr1 _ (Option.some.inj h).symm
    exact then_normal ⟨_, rfl, S1, _, hF.sub _ (by kernel_rfl), hM1, hs⟩
  · obtain ⟨s1r, rfl, hM⟩ := hM
    obtain ⟨S2, F2, hF, hMx, hs⟩ := hM
    have hM0 := hM0.trans hMx
    refine wp_seq (wp_pure [(4, .bool true)] hF (by kernel_rfl) fun fr hF => then_normal ?_)
    obtain rfl := Option.some.inj h
    exact wp_ret (ret1 rfl hF rfl ⟨_, rfl, rfl, hM0.chg⟩)

theorem impl_InputsOk_ok (n : Nat) (p0 : D.Program) (p1 : List Int) {r : Bool} (h : impl_InputsOk n p0 p1 = some r) {w : World} {G0 : Nat → Prop} {va0 : Value} (ra0 : RV w G0 va0 p0) {G1 : Nat → Prop} {va1 : Value} (ra1 : RV w G1 va1 p1) :
    Calls Try.prog 49 [va0, va1].toArray w fun e w' => ∃ v, e = .returned v ∧ v = .bool r ∧ Chg Non w w' := by
  unfold impl_InputsOk at h
  have hs := Sep.nil w Non
  have hM0 : Mem w Non (fun k => (G0 k ∨ G1 k) ∧ k < w.heap.size) w Non (fun k => (G0 k ∨ G1 k) ∧ k < w.heap.size) := Mem.start (fun _ h => h.elim) (fun _ h => h.2) (fun _ h => h.elim)
  have ra0 := ra0.sub (F' := (fun k => (G0 k ∨ G1 k) ∧ k < w.heap.size)) (fun k hk h => ⟨.inl h, hk⟩)
  obtain ⟨v1, rfl, r1⟩ := RV.Program ra0
  obtain ⟨a1, c1, rfl, -⟩ := r1.slice
  have ra1 := ra1.sub (F' := (fun k => (G0 k ∨ G1 k) ∧ k < w.heap.size)) (fun k hk h => ⟨.inr (h), hk⟩)
  obtain ⟨a2, c2, rfl, -⟩ := ra1.slice
  refine enter (N := 20) Try.func49 rfl Try.ntmps49 rfl fun fr hF => ?_
  refine wp_seq (wp_text' ?_)
  refine q_box hs hM0 [.int .i64 p0.W, .int .i64 p0.Mem, .int .i64 p0.In, .slice a1 (List.length p0.Code) c1] rfl rfl hF rfl rfl fun b1 w1 S1 fr hs hp hF => ?_
  have r1 := r1.stp hM0 hp
  have ra1 := ra1.stp hM0 hp
  have hM0 := hM0.stp hp
  have hs : Sep [BX b1 32 [.int .i64 p0.W, .int .i64 p0.Mem, .int .i64 p0.In, .slice a1 (List.length p0.Code) c1]] w1 S1 := hs
  refine from_pure 1 [(1, .slice a2 (List.length p1) c2), (2, .pointer (some ⟨b1, 0, none⟩))] hF (by kernel_rfl) fun fr hF => ?_
  refine from_end rfl (then_normal ?_)
  obtain ⟨x1, hx1, h⟩ := bindE h
  obtain ⟨x2, hx2, h⟩ := bindE h
  refine wp_seq (region_b [] [false, false, true, true, true, true, false, true, true, true, true, false, true, false, true, true]
      [.eq (.agg #[.int .i64 p0.W, .int .i64 p0.Mem, .int .i64 p0.In, .slice a1 (List.length p0.Code) c1]), .eq (.bool x1), .eq (.bool x1), .eq (.slice a2 (List.length p1) c2), .eq (.int .i64 (len p1)), .eq (.pointer (some ⟨b1, 2, none⟩)), .eq (.int .i64 p0.In), .eq (.bool ((len p1) == p0.In)), .eq (.bool (x1 && ((len p1) == p0.In))), .eq (.bool (x1 && ((len p1) == p0.In))), .eq (.pointer (some ⟨b1, 0, none⟩)), .eq (.int .i64 p0.W), .eq (.slice a2 (List.length p1) c2), .eq (.bool x2), .eq (.bool ((x1 && ((len p1) == p0.In)) && x2)), .eq (.bool ((x1 && ((len p1) == p0.In)) && x2))]
      [(4, .bool ((x1 && ((len p1) == p0.In)) && x2))] mix hF (by kernel_rfl) (by kernel_rfl) (by kernel_rfl) ⟨Pd.mono_eq, Pd.mono_eq, Pd.mono_eq, Pd.mono_eq, Pd.mono_eq, trivial⟩ (fun hG => ⟨np_loadBoxS hG hF ty32 rfl rfl (hs.bx 0 rfl) rfl rfl rfl rfl, np_call [.agg #[.int .i64 p0.W, .int .i64 p0.Mem, .int .i64 p0.In, .slice a1 (List.length p0.Code) c1]] hG hF Try.call40 rfl rfl (fun w hC hg => (impl_ProgramOk_ok n p0 hx1 ((RV.mk_Program p0 (r1)).ext hC)).mono fun e w' ⟨v, he, hv, hc⟩ => ⟨v, he, hc, hv⟩), np_loadBox hG hF ty3 rfl rfl (hs.bx 0 rfl) rfl rfl rfl, np_loadBox hG hF ty3 rfl rfl (hs.bx 0 rfl) rfl rfl rfl, np_call [.int .i64 p0.W, .slice a2 (List.length p1) c2] hG hF Try.call69 rfl rfl (fun w hC hg => (impl_wordsOk_ok n p0.W p1 (iteT hg.2 hx2) ((ra1).ext hC)).mono fun e w' ⟨v, he, hv, hc⟩ => ⟨v, he, hc, hv⟩), trivial⟩) (by kernel_rfl) fun fr w2 hF hE hc => then_normal ?_)
  have ra1 := ra1.ext hc
  have r1 := r1.ext hc
  have hs := hs.ext hc
  have hM0 := hM0.ext hc
  have hs : Sep [] w2 S1 := Sep.pick [] hs (by decide) rfl
  obtain rfl := Option.some.inj h
  exact wp_ret (ret1 rfl hF rfl ⟨_, rfl, rfl, hM0.chg⟩)

theorem impl_fuelOk_ok (p0 : Int) {r : Bool} (h : impl_fuelOk p0 = some r) {w : World} :
    Calls Try.prog 53 [.int .i64 p0].toArray w fun e w' => ∃ v, e = .returned v ∧ v = .bool r ∧ Chg Non w w' := by
  unfold impl_fuelOk at h
  have hs := Sep.nil w Non
  have hM0 : Mem w Non (fun k => (False) ∧ k < w.heap.size) w Non (fun k => (False) ∧ k < w.heap.size) := Mem.start (fun _ h => h.elim) (fun _ h => h.2) (fun _ h => h.elim)
  refine enter (N := 9) Try.func53 rfl Try.ntmps53 rfl fun fr hF => ?_
  refine wp_seq (wp_pure [(0, .int .i64 p0)] hF (by kernel_rfl) fun fr hF => then_normal ?_)
  refine wp_seq (region_b [] [true, true, true, true, true, true, true]
      [.eq (.int .i64 p0), .eq (.bool (decide (p0 ≥ 0))), .eq (.bool (decide (p0 ≥ 0))), .eq (.int .i64 p0), .eq (.bool (decide (p0 ≤ 400))), .eq (.bool ((decide (p0 ≥ 0)) && (decide (p0 ≤ 400)))), .eq (.bool ((decide (p0 ≥ 0)) && (decide (p0 ≤ 400))))]
      [(2, .bool ((decide (p0 ≥ 0)) && (decide (p0 ≤ 400))))] mix hF (by kernel_rfl) (by kernel_rfl) (by kernel_rfl) trivial (fun hG => trivial) (by kernel_rfl) fun fr w1 hF hE hc => then_normal ?_)
  have hs := hs.ext hc
  have hM0 := hM0.ext hc
  obtain rfl := Option.some.inj h
  exact wp_ret (ret1 rfl hF rfl ⟨_, rfl, rfl, hM0.chg⟩)
end Go.Proofs.Ytbfphbpeajmihaa
