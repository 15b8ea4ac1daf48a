/- Printed by gen2.py: the walks. -/
import Derived.Test.YtknlknnihinmjaaWlkB
set_option linter.unusedVariables false
set_option maxRecDepth 100000
namespace Go.Proofs.Ytknlknnihinmjaa
open Go.GL Go.Maps Go.WideMaps
theorem impl_StartPath_ok (n : Nat) (p0 : D.Program) {r : D.Path} (h : impl_StartPath n p0 = some r) {w : World} {G0 : Nat → Prop} {va0 : Value} (ra0 : RV w G0 va0 p0) :
   Calls Try.prog 48 [va0].toArray w fun e w' => ∃ v, e = .returned v ∧ ∃ a1 c1 a2 c2 a3 c3 a4 c4 a5 c5 a6 c6, v = .agg #[I r.Pc, L a1 r.Regs c1, L a2 r.Mem c2, L a3 r.Stack c3, I r.In, L a4 r.Out c4, I r.Code, I r.Steps, L a5 r.Cond c5, L a6 r.Turns c6] ∧ ∃ S', Stp w Non w' S' ∧ Sep [sl121 (L a1 r.Regs c1) r.Regs, sl121 (L a2 r.Mem c2) r.Mem, sl3 (L a3 r.Stack c3) r.Stack, sl121 (L a4 r.Out c4) r.Out, sl121 (L a5 r.Cond c5) r.Cond, sl3 (L a6 r.Turns c6) r.Turns] w' S' := by
 unfold impl_StartPath at h
 have hs := Sep.nil w Non
 have hM0 : Mem w Non (fun k => (G0 k) ∧ k < w.heap.size) w Non (fun k => (G0 k) ∧ k < w.heap.size) := Mem.start (fun _ h => h.elim) (fun _ h => h.2) (fun _ h => h.elim)
 have ra0 := ra0.sub (F' := (fun k => (G0 k) ∧ k < w.heap.size)) (fun k hk h => ⟨h, hk⟩)
 obtain ⟨v1, rfl, r1⟩ := RV.Program ra0
 obtain ⟨a1, c1, rfl, -⟩ := r1.slice
 refine enter (N := 9) Try.func48 rfl Try.ntmps48 rfl fun fr hF => ?_
 refine wp_seq (wp_text' ?_)
 refine q_box hs hM0 [I p0.W, I p0.Mem, I p0.In, L a1 p0.Code c1] rfl rfl hF rfl rfl fun b1 w1 S1 fr hs hp hF => ?_
 have r1 := r1.stp hM0 hp
 have hM0 := hM0.stp hp
 have hs : Sep [BX b1 30 [I p0.W, I p0.Mem, I p0.In, L a1 p0.Code c1]] w1 S1 := hs
 refine q_alloc (z := .agg #[I 0, L none ([] : List D.Term) 0, L none ([] : List D.Term) 0, L none ([] : List Int) 0, I 0, L none ([] : List D.Term) 0, I 0, I 0, L none ([] : List D.Term) 0, L none ([] : List Int) 0]) hs hM0 [I 0, L none ([] : List D.Term) 0, L none ([] : List D.Term) 0, L none ([] : List Int) 0, I 0, L none ([] : List D.Term) 0, I 0, I 0, L none ([] : List D.Term) 0, L none ([] : List Int) 0] rfl rfl hF (by kernel_rfl) rfl fun b2 w2 S2 fr hs hp hF => ?_
 have r1 := r1.stp hM0 hp
 have hM0 := hM0.stp hp
 have hs : Sep [BX b2 75 [I 0, L none ([] : List D.Term) 0, L none ([] : List D.Term) 0, L none ([] : List Int) 0, I 0, L none ([] : List D.Term) 0, I 0, I 0, L none ([] : List D.Term) 0, L none ([] : List Int) 0], BX b1 30 [I p0.W, I p0.Mem, I p0.In, L a1 p0.Code c1]] w2 S2 := hs
 refine from_end rfl (then_normal ?_)
 refine wp_seq ?_
 refine wp_seq (wp_text' ?_)
 refine s_loadBoxS ty30 rfl rfl hF rfl (hs.bx 1 rfl) rfl rfl fun fr hF => ?_
 obtain ⟨x1, hx1, h⟩ := bindE h
 refine s_call [.agg #[I p0.W, I p0.Mem, I p0.In, L a1 p0.Code c1]] Try.call60 rfl rfl hF rfl (impl_ProgramOk_ok n p0 hx1 (RV.mk_Program p0 (r1))) fun v w3 fr hRes hF => ?_
 obtain ⟨rfl, hc⟩ := hRes
 have r1 := r1.ext hc
 have hs := hs.ext hc
 have hM0 := hM0.ext hc
 refine from_pure 1 [(1, B b1 0), (2, B b2 0), (5, .bool (!x1))] hF (by kernel_rfl) fun fr hF => ?_
 refine from_end rfl (then_normal ?_)
 refine (wp_if hF (b := (!x1)) rfl (fun hb => ?_) (fun hb => ?_))
 · replace h := iteT hb h
   have hs : Sep [BX b2 75 [I 0, L none ([] : List D.Term) 0, L none ([] : List D.Term) 0, L none ([] : List Int) 0, I 0, L none ([] : List D.Term) 0, I 0, I 0, L none ([] : List D.Term) 0, L none ([] : List Int) 0]] w3 S2 := Sep.pick [0] hs (by decide) rfl
   refine wp_seq (wp_text' ?_)
   refine from_pure 1 [(2, B b2 0), (6, .agg #[I 0, L none ([] : List D.Term) 0, L none ([] : List D.Term) 0, L none ([] : List Int) 0, I 0, L none ([] : List D.Term) 0, I 0, I 0, L none ([] : List D.Term) 0, L none ([] : List Int) 0])] hF (by kernel_rfl) fun fr hF => ?_
   refine q_storeBoxS 0 hs hM0 rfl [I 0, L none ([] : List D.Term) 0, L none ([] : List D.Term) 0, L none ([] : List Int) 0, I 0, L none ([] : List D.Term) 0, I 0, I 0, L none ([] : List D.Term) 0, L none ([] : List Int) 0] rfl hF rfl rfl (by kernel_rfl) rfl rfl rfl fun w4 S3 hs hp hF => ?_
   have hM0 := hM0.stp hp
   have hs : Sep [BX b2 75 [I 0, L none ([] : List D.Term) 0, L none ([] : List D.Term) 0, L none ([] : List Int) 0, I 0, L none ([] : List D.Term) 0, I 0, I 0, L none ([] : List D.Term) 0, L none ([] : List Int) 0]] w4 S3 := hs
   refine from_end rfl (then_normal ?_)
   have hbr := (hs.bx 0 rfl)
   have hs : Sep [sl121 (L none ([] : List D.Term) 0) ([] : List D.Term), BX b2 75 [I 0, L none ([] : List D.Term) 0, L none ([] : List D.Term) 0, L none ([] : List Int) 0, I 0, L none ([] : List D.Term) 0, I 0, I 0, L none ([] : List D.Term) 0, L none ([] : List Int) 0]] w4 S3 := hs.cons_nil (α := D.Term) 121
   have hs : Sep [sl121 (L none ([] : List D.Term) 0) ([] : List D.Term), sl121 (L none ([] : List D.Term) 0) ([] : List D.Term), BX b2 75 [I 0, L none ([] : List D.Term) 0, L none ([] : List D.Term) 0, L none ([] : List Int) 0, I 0, L none ([] : List D.Term) 0, I 0, I 0, L none ([] : List D.Term) 0, L none ([] : List Int) 0]] w4 S3 := hs.cons_nil (α := D.Term) 121
   have hs : Sep [sl3 (L none ([] : List Int) 0) ([] : List Int), sl121 (L none ([] : List D.Term) 0) ([] : List D.Term), sl121 (L none ([] : List D.Term) 0) ([] : List D.Term), BX b2 75 [I 0, L none ([] : List D.Term) 0, L none ([] : List D.Term) 0, L none ([] : List Int) 0, I 0, L none ([] : List D.Term) 0, I 0, I 0, L none ([] : List D.Term) 0, L none ([] : List Int) 0]] w4 S3 := hs.cons_nil (α := Int) 3
   have hs : Sep [sl121 (L none ([] : List D.Term) 0) ([] : List D.Term), sl3 (L none ([] : List Int) 0) ([] : List Int), sl121 (L none ([] : List D.Term) 0) ([] : List D.Term), sl121 (L none ([] : List D.Term) 0) ([] : List D.Term), BX b2 75 [I 0, L none ([] : List D.Term) 0, L none ([] : List D.Term) 0, L none ([] : List Int) 0, I 0, L none ([] : List D.Term) 0, I 0, I 0, L none ([] : List D.Term) 0, L none ([] : List Int) 0]] w4 S3 := hs.cons_nil (α := D.Term) 121
   have hs : Sep [sl121 (L none ([] : List D.Term) 0) ([] : List D.Term), sl121 (L none ([] : List D.Term) 0) ([] : List D.Term), sl3 (L none ([] : List Int) 0) ([] : List Int), sl121 (L none ([] : List D.Term) 0) ([] : List D.Term), sl121 (L none ([] : List D.Term) 0) ([] : List D.Term), BX b2 75 [I 0, L none ([] : List D.Term) 0, L none ([] : List D.Term) 0, L none ([] : List Int) 0, I 0, L none ([] : List D.Term) 0, I 0, I 0, L none ([] : List D.Term) 0, L none ([] : List Int) 0]] w4 S3 := hs.cons_nil (α := D.Term) 121
   have hs : Sep [sl3 (L none ([] : List Int) 0) ([] : List Int), sl121 (L none ([] : List D.Term) 0) ([] : List D.Term), sl121 (L none ([] : List D.Term) 0) ([] : List D.Term), sl3 (L none ([] : List Int) 0) ([] : List Int), sl121 (L none ([] : List D.Term) 0) ([] : List D.Term), sl121 (L none ([] : List D.Term) 0) ([] : List D.Term), BX b2 75 [I 0, L none ([] : List D.Term) 0, L none ([] : List D.Term) 0, L none ([] : List Int) 0, I 0, L none ([] : List D.Term) 0, I 0, I 0, L none ([] : List D.Term) 0, L none ([] : List Int) 0]] w4 S3 := hs.cons_nil (α := Int) 3
   obtain rfl := Option.some.inj h
   have hs : Sep [sl121 (L none ([] : List D.Term) 0) ([] : List D.Term), sl121 (L none ([] : List D.Term) 0) ([] : List D.Term), sl3 (L none ([] : List Int) 0) ([] : List Int), sl121 (L none ([] : List D.Term) 0) ([] : List D.Term), sl121 (L none ([] : List D.Term) 0) ([] : List D.Term), sl3 (L none ([] : List Int) 0) ([] : List Int)] w4 S3 := Sep.pick [5, 4, 3, 2, 1, 0] hs (by decide) rfl
   exact wp_ret (then_ret (retS rfl hF ty75 rfl rfl hbr rfl ⟨_, rfl, none, 0, none, 0, none, 0, none, 0, none, 0, none, 0, rfl, S3, hM0.out, hs⟩))
 replace h := iteF hb h
 refine (wp_skip (then_normal ?_))
 refine wp_seq (wp_text' ?_)
 refine s_loadBoxS ty30 rfl rfl hF rfl (hs.bx 1 rfl) rfl rfl fun fr hF => ?_
 have hs : Sep [BX b2 75 [I 0, L none ([] : List D.Term) 0, L none ([] : List D.Term) 0, L none ([] : List Int) 0, I 0, L none ([] : List D.Term) 0, I 0, I 0, L none ([] : List D.Term) 0, L none ([] : List Int) 0]] w3 S2 := Sep.pick [0] hs (by decide) rfl
 obtain ⟨x2, hx2, h⟩ := bindE h
 refine s_call [.agg #[I p0.W, I p0.Mem, I p0.In, L a1 p0.Code c1]] Try.call90 rfl rfl hF rfl (impl_startPath_ok n p0 hx2 (RV.mk_Program p0 (r1))) fun v w5 fr hRes hF => ?_
 obtain ⟨a2, c2, a3, c3, a4, c4, a5, c5, a6, c6, a7, c7, rfl, _, hp, hs2⟩ := hRes
 obtain ⟨S4, hp, hs⟩ := hs.got hM0 hp hs2
 have r1 := r1.stp hM0 hp
 have hM0 := hM0.stp hp
 have hs : Sep [sl121 (L a2 x2.Regs c2) x2.Regs, sl121 (L a3 x2.Mem c3) x2.Mem, sl3 (L a4 x2.Stack c4) x2.Stack, sl121 (L a5 x2.Out c5) x2.Out, sl121 (L a6 x2.Cond c6) x2.Cond, sl3 (L a7 x2.Turns c7) x2.Turns, BX b2 75 [I 0, L none ([] : List D.Term) 0, L none ([] : List D.Term) 0, L none ([] : List Int) 0, I 0, L none ([] : List D.Term) 0, I 0, I 0, L none ([] : List D.Term) 0, L none ([] : List Int) 0]] w5 S4 := hs
 refine q_storeBoxS 6 hs hM0 rfl [I x2.Pc, L a2 x2.Regs c2, L a3 x2.Mem c3, L a4 x2.Stack c4, I x2.In, L a5 x2.Out c5, I x2.Code, I x2.Steps, L a6 x2.Cond c6, L a7 x2.Turns c7] rfl hF rfl rfl (by kernel_rfl) rfl rfl rfl fun w6 S5 hs hp hF => ?_
 have hM0 := hM0.stp hp
 have hs : Sep [sl121 (L a2 x2.Regs c2) x2.Regs, sl121 (L a3 x2.Mem c3) x2.Mem, sl3 (L a4 x2.Stack c4) x2.Stack, sl121 (L a5 x2.Out c5) x2.Out, sl121 (L a6 x2.Cond c6) x2.Cond, sl3 (L a7 x2.Turns c7) x2.Turns, BX b2 75 [I x2.Pc, L a2 x2.Regs c2, L a3 x2.Mem c3, L a4 x2.Stack c4, I x2.In, L a5 x2.Out c5, I x2.Code, I x2.Steps, L a6 x2.Cond c6, L a7 x2.Turns c7]] w6 S5 := hs
 refine from_end rfl (then_normal ?_)
 have hbr := (hs.bx 6 rfl)
 obtain rfl := Option.some.inj h
 have hs : Sep [sl121 (L a2 x2.Regs c2) x2.Regs, sl121 (L a3 x2.Mem c3) x2.Mem, sl3 (L a4 x2.Stack c4) x2.Stack, sl121 (L a5 x2.Out c5) x2.Out, sl121 (L a6 x2.Cond c6) x2.Cond, sl3 (L a7 x2.Turns c7) x2.Turns] w6 S5 := Sep.pick [0, 1, 2, 3, 4, 5] hs (by decide) rfl
 exact wp_ret (retS rfl hF ty75 rfl rfl hbr rfl ⟨_, rfl, a2, c2, a3, c3, a4, c4, a5, c5, a6, c6, a7, c7, rfl, S5, hM0.out, hs⟩)

theorem laws_eqTerm__0_ok (p0 : D.Term) (p1 : D.Term) {r : Bool} (h : laws_eqTerm__0 p0 p1 = some r) {w : World} :
   Calls Try.prog 130 [.agg #[I p0.Op, I p0.W, I p0.N, Str.val p0.Name, L none ([] : List D.Term) 0], .agg #[I p1.Op, I p1.W, I p1.N, Str.val p1.Name, L none ([] : List D.Term) 0]].toArray w fun e w' => ∃ v, e = .returned v ∧ v = .bool r ∧ Chg Non w w' := by
 unfold laws_eqTerm__0 at h
 have hs := Sep.nil w Non
 have hM0 : Mem w Non (fun k => (False) ∧ k < w.heap.size) w Non (fun k => (False) ∧ k < w.heap.size) := Mem.start (fun _ h => h.elim) (fun _ h => h.2) (fun _ h => h.elim)
 refine enter (N := 31) Try.func130 rfl Try.ntmps130 rfl fun fr hF => ?_
 refine wp_seq (wp_text' ?_)
 refine q_box hs hM0 [I p0.Op, I p0.W, I p0.N, Str.val p0.Name, L none ([] : List D.Term) 0] rfl rfl hF rfl rfl fun b1 w1 S1 fr hs hp hF => ?_
 have hM0 := hM0.stp hp
 have hs : Sep [BX b1 121 [I p0.Op, I p0.W, I p0.N, Str.val p0.Name, L none ([] : List D.Term) 0]] w1 S1 := hs
 refine q_box hs hM0 [I p1.Op, I p1.W, I p1.N, Str.val p1.Name, L none ([] : List D.Term) 0] rfl rfl hF rfl rfl fun b2 w2 S2 fr hs hp hF => ?_
 have hM0 := hM0.stp hp
 have hs : Sep [BX b2 121 [I p1.Op, I p1.W, I p1.N, Str.val p1.Name, L none ([] : List D.Term) 0], BX b1 121 [I p0.Op, I p0.W, I p0.N, Str.val p0.Name, L none ([] : List D.Term) 0]] w2 S2 := hs
 refine from_pure 1 [(2, B b1 0), (3, B b2 0)] hF (by kernel_rfl) fun fr hF => ?_
 refine from_end rfl (then_normal ?_)
 refine wp_seq ?_
 refine wp_seq (wp_text' ?_)
 refine from_pure 1 [(2, B b1 0), (3, B b2 0), (5, B b1 0)] hF (by kernel_rfl) fun fr hF => ?_
 refine s_loadBox (I p0.Op) ty3 rfl rfl hF rfl (hs.bx 1 rfl) rfl rfl fun fr hF => ?_
 refine from_pure 1 [(2, B b1 0), (3, B b2 0), (6, I p0.Op), (7, B b2 0)] hF (by kernel_rfl) fun fr hF => ?_
 refine s_loadBox (I p1.Op) ty3 rfl rfl hF rfl (hs.bx 0 rfl) rfl rfl fun fr hF => ?_
 refine from_pure 1 [(2, B b1 0), (3, B b2 0), (9, .bool (p0.Op != p1.Op))] hF (by kernel_rfl) fun fr hF => ?_
 refine from_end rfl (then_normal ?_)
 refine (wp_if hF (b := (p0.Op != p1.Op)) rfl (fun hb => ?_) (fun hb => ?_))
 · replace h := iteT hb h
   have hs : Sep [] w2 S2 := Sep.pick [] hs (by decide) rfl
   refine wp_seq (wp_pure [(4, .bool false)] hF (by kernel_rfl) fun fr hF => then_normal ?_)
   obtain rfl := Option.some.inj h
   exact wp_ret (then_ret (ret1 rfl hF rfl ⟨_, rfl, rfl, hM0.chg⟩))
 replace h := iteF hb h
 refine (wp_skip (then_normal ?_))
 refine wp_seq ?_
 refine wp_seq (wp_text' ?_)
 refine from_pure 1 [(2, B b1 0), (3, B b2 0), (10, B b1 1)] hF (by kernel_rfl) fun fr hF => ?_
 refine s_loadBox (I p0.W) ty3 rfl rfl hF rfl (hs.bx 1 rfl) rfl rfl fun fr hF => ?_
 refine from_pure 1 [(2, B b1 0), (3, B b2 0), (11, I p0.W), (12, B b2 1)] hF (by kernel_rfl) fun fr hF => ?_
 refine s_loadBox (I p1.W) ty3 rfl rfl hF rfl (hs.bx 0 rfl) rfl rfl fun fr hF => ?_
 refine from_pure 1 [(2, B b1 0), (3, B b2 0), (14, .bool (p0.W != p1.W))] hF (by kernel_rfl) fun fr hF => ?_
 refine from_end rfl (then_normal ?_)
 refine (wp_if hF (b := (p0.W != p1.W)) rfl (fun hb => ?_) (fun hb => ?_))
 · replace h := iteT hb h
   have hs : Sep [] w2 S2 := Sep.pick [] hs (by decide) rfl
   refine wp_seq (wp_pure [(4, .bool false)] hF (by kernel_rfl) fun fr hF => then_normal ?_)
   obtain rfl := Option.some.inj h
   exact wp_ret (then_ret (ret1 rfl hF rfl ⟨_, rfl, rfl, hM0.chg⟩))
 replace h := iteF hb h
 refine (wp_skip (then_normal ?_))
 refine wp_seq ?_
 refine wp_seq (wp_text' ?_)
 refine from_pure 1 [(2, B b1 0), (3, B b2 0), (15, B b1 2)] hF (by kernel_rfl) fun fr hF => ?_
 refine s_loadBox (I p0.N) ty3 rfl rfl hF rfl (hs.bx 1 rfl) rfl rfl fun fr hF => ?_
 refine from_pure 1 [(2, B b1 0), (3, B b2 0), (16, I p0.N), (17, B b2 2)] hF (by kernel_rfl) fun fr hF => ?_
 refine s_loadBox (I p1.N) ty3 rfl rfl hF rfl (hs.bx 0 rfl) rfl rfl fun fr hF => ?_
 refine from_pure 1 [(2, B b1 0), (3, B b2 0), (19, .bool (p0.N != p1.N))] hF (by kernel_rfl) fun fr hF => ?_
 refine from_end rfl (then_normal ?_)
 refine (wp_if hF (b := (p0.N != p1.N)) rfl (fun hb => ?_) (fun hb => ?_))
 · replace h := iteT hb h
   have hs : Sep [] w2 S2 := Sep.pick [] hs (by decide) rfl
   refine wp_seq (wp_pure [(4, .bool false)] hF (by kernel_rfl) fun fr hF => then_normal ?_)
   obtain rfl := Option.some.inj h
   exact wp_ret (then_ret (ret1 rfl hF rfl ⟨_, rfl, rfl, hM0.chg⟩))
 replace h := iteF hb h
 refine (wp_skip (then_normal ?_))
 refine wp_seq ?_
 refine wp_seq (wp_text' ?_)
 refine from_pure 1 [(2, B b1 0), (3, B b2 0), (20, B b1 3)] hF (by kernel_rfl) fun fr hF => ?_
 refine s_loadBox (Str.val p0.Name) ty9 rfl rfl hF rfl (hs.bx 1 rfl) rfl rfl fun fr hF => ?_
 refine from_pure 1 [(2, B b1 0), (3, B b2 0), (21, Str.val p0.Name), (22, B b2 3)] hF (by kernel_rfl) fun fr hF => ?_
 refine s_loadBox (Str.val p1.Name) ty9 rfl rfl hF rfl (hs.bx 0 rfl) rfl rfl fun fr hF => ?_
 refine from_pure 1 [(2, B b1 0), (3, B b2 0), (24, .bool (!(Str.eqb p0.Name p1.Name)))] hF (by kernel_rfl) fun fr hF => ?_
 refine from_end rfl (then_normal ?_)
 refine (wp_if hF (b := (!(Str.eqb p0.Name p1.Name))) rfl (fun hb => ?_) (fun hb => ?_))
 · replace h := iteT hb h
   have hs : Sep [] w2 S2 := Sep.pick [] hs (by decide) rfl
   refine wp_seq (wp_pure [(4, .bool false)] hF (by kernel_rfl) fun fr hF => then_normal ?_)
   obtain rfl := Option.some.inj h
   exact wp_ret (then_ret (ret1 rfl hF rfl ⟨_, rfl, rfl, hM0.chg⟩))
 replace h := iteF hb h
 cases h

theorem laws_eqTermS__0_ok (n : Nat) (p0 : List D.Term) (p1 : List D.Term) {r : Bool} (h : laws_eqTermS__0 n p0 p1 = some r) {w : World} {G0 : Nat → Prop} {va0 : Value} (ra0 : RV w G0 va0 p0) {G1 : Nat → Prop} {va1 : Value} (ra1 : RV w G1 va1 p1) :
   Calls Try.prog 91 [va0, va1].toArray w fun e w' => ∃ v, e = .returned v ∧ v = .bool r ∧ Chg Non w w' := by
 unfold laws_eqTermS__0 at h
 have hs := Sep.nil w Non
 have hM0 : Mem w Non (fun k => (G0 k ∨ G1 k) ∧ k < w.heap.size) w Non (fun k => (G0 k ∨ G1 k) ∧ k < w.heap.size) := Mem.start (fun _ h => h.elim) (fun _ h => h.2) (fun _ h => h.elim)
 have ra0 := ra0.sub (F' := (fun k => (G0 k ∨ G1 k) ∧ k < w.heap.size)) (fun k hk h => ⟨.inl h, hk⟩)
 obtain ⟨a1, c1, rfl, -⟩ := ra0.slice
 have ra1 := ra1.sub (F' := (fun k => (G0 k ∨ G1 k) ∧ k < w.heap.size)) (fun k hk h => ⟨.inr (h), hk⟩)
 obtain ⟨a2, c2, rfl, -⟩ := ra1.slice
 refine enter (N := 27) Try.func91 rfl Try.ntmps91 rfl fun fr hF => ?_
 refine wp_seq (wp_pure [(0, L a1 p0 c1), (1, L a2 p1 c2)] hF (by kernel_rfl) fun fr hF => then_normal ?_)
 refine wp_seq ?_
 refine wp_seq (wp_pure [(0, L a1 p0 c1), (1, L a2 p1 c2), (10, .bool ((len p0) != (len p1)))] hF (by kernel_rfl) fun fr hF => then_normal ?_)
 refine (wp_if hF (b := ((len p0) != (len p1))) rfl (fun hb => ?_) (fun hb => ?_))
 · replace h := iteT hb h
   refine wp_seq (wp_pure [(4, .bool false)] hF (by kernel_rfl) fun fr hF => then_normal ?_)
   obtain rfl := Option.some.inj h
   exact wp_ret (then_ret (ret1 rfl hF rfl ⟨_, rfl, rfl, hM0.chg⟩))
 replace h := iteF hb h
 refine (wp_skip (then_normal ?_))
 refine wp_seq ?_
 refine wp_seq (wp_pure [(0, L a1 p0 c1), (1, L a2 p1 c2), (5, I 0)] hF (by kernel_rfl) fun fr hF => then_normal ?_)
 obtain ⟨rl1, hit1, h⟩ := bindE h
 have hk1 := h
 refine (GL.wp_cut (M := fun fr w' => ∃ s, rl1 = .inl s ∧ ∃ S2 F2, FrS 27 [] fr ∧ Mem w Non (fun k => (G0 k ∨ G1 k) ∧ k < w.heap.size) w' S2 F2 ∧ Sep [] w' S2) (wp_block (wp_iter (Inv := fun s1 fr w' => ∃ S1 F1, FrS 27 [(0, L a1 p0 c1), (1, L a2 p1 c2), (5, I s1)] fr ∧ Mem w Non (fun k => (G0 k ∨ G1 k) ∧ k < w.heap.size) w' S1 F1 ∧ Sep [] w' S1) hit1 ⟨Non, _, hF.sub _ (by kernel_rfl), (Mem.start hM0.bd hM0.bdF hM0.dj), hs⟩ fun s1 q1 fr w1i hI h hr1 => ?_)) fun fr w1o hM => ?_)
 · obtain ⟨S1, F1, hF, hM1, hs⟩ := hI
   have ra0 := ra0.mem hM1
   have ra1 := ra1.mem hM1
   refine wp_seq ?_
   refine wp_seq (wp_pure [(0, L a1 p0 c1), (1, L a2 p1 c2), (5, I s1), (14, .bool (decide (s1 < (len p0))))] hF (by kernel_rfl) fun fr hF => then_normal ?_)
   refine (wp_if hF (b := (decide (s1 < (len p0)))) rfl (fun hb => ?_) (fun hb => ?_))
   · replace h := iteT hb h
     refine (wp_skip (then_normal ?_))
     refine wp_seq (wp_block ?_)
     obtain ⟨x1, hx1, h⟩ := bindE h
     obtain ⟨x2, hx2, h⟩ := bindE h
     obtain ⟨x3, hx3, h⟩ := bindE h
     refine wp_seq (region_bm 10 [0, 0, 3, 7, 0, 0, 48, 112, 255, 511] [true, true, false, false, true, true, false, false, false, true]
         [.eq (L a1 p0 c1), .eq (I s1), .is fun v w => ElemP w (fun k => k < w1i.heap.size) v (x1 : D.Term), .eq (.agg #[I x1.Op, I x1.W, I x1.N, Str.val x1.Name, L none ([] : List D.Term) 0]), .eq (L a2 p1 c2), .eq (I s1), .is fun v w => ElemP w (fun k => k < w1i.heap.size) v (x2 : D.Term), .eq (.agg #[I x2.Op, I x2.W, I x2.N, Str.val x2.Name, L none ([] : List D.Term) 0]), .eq (.bool x3), .eq (.bool (!x3))]
         [(0, L a1 p0 c1), (1, L a2 p1 c2), (5, I s1), (26, .bool (!x3))] mix hF (by kernel_rfl) (by kernel_rfl) (by kernel_rfl) (by kernel_rfl) ⟨(Pd.monoO_is mono_elem), Pd.monoO_eq, (Pd.monoO_is mono_elem), Pd.monoO_eq, Pd.monoO_eq, trivial⟩ (fun ow hG => ⟨np_to ow (np_index hG hF ty121 Try.underlying73 rfl rfl (RV.sub (ra0) fun k hk _ => hk) rfl rfl (fun hg => ⟨get?_nn hx1, get?_at hx1⟩)), np_to ow (np_loadF (z := x1) (i := 2) hG hF ty121 rfl rfl rfl rfl rfl rfl rfl), np_to ow (np_index hG hF ty121 Try.underlying73 rfl rfl (RV.sub (ra1) fun k hk _ => hk) rfl rfl (fun hg => ⟨get?_nn hx2, get?_at hx2⟩)), np_to ow (np_loadF (z := x2) (i := 6) hG hF ty121 rfl rfl rfl rfl rfl rfl rfl), np_to ow (np_call [.agg #[I x1.Op, I x1.W, I x1.N, Str.val x1.Name, L none ([] : List D.Term) 0], .agg #[I x2.Op, I x2.W, I x2.N, Str.val x2.Name, L none ([] : List D.Term) 0]] hG hF Try.call130 rfl rfl (fun w hC hg => (laws_eqTerm__0_ok x1 x2 hx3).mono fun e w' ⟨v, he, hv, hc⟩ => ⟨v, he, hc, hv⟩)), trivial⟩) (by kernel_rfl) fun ow fr w1 hF hE hc => ?_)
     have ra0 := ra0.ext hc
     have ra1 := ra1.ext hc
     have hs := hs.ext hc
     have hM1 := hM1.ext hc
     refine from_end rfl (then_normal ?_)
     refine (wp_if hF (b := (!x3)) rfl (fun hb => ?_) (fun hb => ?_))
     · replace h := iteT hb h
       refine wp_seq (wp_pure [(4, .bool false)] hF (by kernel_rfl) fun fr hF => then_normal ?_)
       obtain rfl := hr1 _ (Option.some.inj h).symm
       obtain rfl := Option.some.inj hk1
       exact wp_ret (blk_ret (then_ret (then_ret (blk_ret (then_ret (ret1 rfl hF rfl ⟨_, rfl, rfl, (hM0.trans hM1).chg⟩))))))
     replace h := iteF hb h
     refine (wp_skip ?_)
     refine blk_normal (then_normal ?_)
     refine (wp_pure [(0, L a1 p0 c1), (1, L a2 p1 c2), (5, I (w64 (s1 + 1)))] hF (by kernel_rfl) fun fr hF => then_normal ?_)
     exact ⟨_, (Option.some.inj h).symm, S1, _, hF.sub _ (by kernel_rfl), hM1, hs⟩
   replace h := iteF hb h
   refine (wp_exit (then_exit (then_exit (blk_exit_eq ?_))))
   obtain rfl := hr1 _ (Option.some.inj h).symm
   exact then_normal ⟨_, rfl, S1, _, hF.sub _ (by kernel_rfl), hM1, hs⟩
 · obtain ⟨s1r, rfl, hM⟩ := hM
   obtain ⟨S2, F2, hF, hMx, hs⟩ := hM
   have hM0 := hM0.trans hMx
   refine wp_seq (wp_pure [(4, .bool true)] hF (by kernel_rfl) fun fr hF => then_normal ?_)
   obtain rfl := Option.some.inj h
   exact wp_ret (ret1 rfl hF rfl ⟨_, rfl, rfl, hM0.chg⟩)

theorem laws_eqTerm__1_ok (n : Nat) (p0 : D.Term) (p1 : D.Term) {r : Bool} (h : laws_eqTerm__1 n p0 p1 = some r) {w : World} :
   Calls Try.prog 130 [.agg #[I p0.Op, I p0.W, I p0.N, Str.val p0.Name, L none ([] : List D.Term) 0], .agg #[I p1.Op, I p1.W, I p1.N, Str.val p1.Name, L none ([] : List D.Term) 0]].toArray w fun e w' => ∃ v, e = .returned v ∧ v = .bool r ∧ Chg Non w w' := by
 unfold laws_eqTerm__1 at h
 have hs := Sep.nil w Non
 have hM0 : Mem w Non (fun k => (False) ∧ k < w.heap.size) w Non (fun k => (False) ∧ k < w.heap.size) := Mem.start (fun _ h => h.elim) (fun _ h => h.2) (fun _ h => h.elim)
 refine enter (N := 31) Try.func130 rfl Try.ntmps130 rfl fun fr hF => ?_
 refine wp_seq (wp_text' ?_)
 refine q_box hs hM0 [I p0.Op, I p0.W, I p0.N, Str.val p0.Name, L none ([] : List D.Term) 0] rfl rfl hF rfl rfl fun b1 w1 S1 fr hs hp hF => ?_
 have hM0 := hM0.stp hp
 have hs : Sep [BX b1 121 [I p0.Op, I p0.W, I p0.N, Str.val p0.Name, L none ([] : List D.Term) 0]] w1 S1 := hs
 refine q_box hs hM0 [I p1.Op, I p1.W, I p1.N, Str.val p1.Name, L none ([] : List D.Term) 0] rfl rfl hF rfl rfl fun b2 w2 S2 fr hs hp hF => ?_
 have hM0 := hM0.stp hp
 have hs : Sep [BX b2 121 [I p1.Op, I p1.W, I p1.N, Str.val p1.Name, L none ([] : List D.Term) 0], BX b1 121 [I p0.Op, I p0.W, I p0.N, Str.val p0.Name, L none ([] : List D.Term) 0]] w2 S2 := hs
 refine from_pure 1 [(2, B b1 0), (3, B b2 0)] hF (by kernel_rfl) fun fr hF => ?_
 refine from_end rfl (then_normal ?_)
 refine wp_seq ?_
 refine wp_seq (wp_text' ?_)
 refine from_pure 1 [(2, B b1 0), (3, B b2 0), (5, B b1 0)] hF (by kernel_rfl) fun fr hF => ?_
 refine s_loadBox (I p0.Op) ty3 rfl rfl hF rfl (hs.bx 1 rfl) rfl rfl fun fr hF => ?_
 refine from_pure 1 [(2, B b1 0), (3, B b2 0), (6, I p0.Op), (7, B b2 0)] hF (by kernel_rfl) fun fr hF => ?_
 refine s_loadBox (I p1.Op) ty3 rfl rfl hF rfl (hs.bx 0 rfl) rfl rfl fun fr hF => ?_
 refine from_pure 1 [(2, B b1 0), (3, B b2 0), (9, .bool (p0.Op != p1.Op))] hF (by kernel_rfl) fun fr hF => ?_
 refine from_end rfl (then_normal ?_)
 refine (wp_if hF (b := (p0.Op != p1.Op)) rfl (fun hb => ?_) (fun hb => ?_))
 · replace h := iteT hb h
   have hs : Sep [] w2 S2 := Sep.pick [] hs (by decide) rfl
   refine wp_seq (wp_pure [(4, .bool false)] hF (by kernel_rfl) fun fr hF => then_normal ?_)
   obtain rfl := Option.some.inj h
   exact wp_ret (then_ret (ret1 rfl hF rfl ⟨_, rfl, rfl, hM0.chg⟩))
 replace h := iteF hb h
 refine (wp_skip (then_normal ?_))
 refine wp_seq ?_
 refine wp_seq (wp_text' ?_)
 refine from_pure 1 [(2, B b1 0), (3, B b2 0), (10, B b1 1)] hF (by kernel_rfl) fun fr hF => ?_
 refine s_loadBox (I p0.W) ty3 rfl rfl hF rfl (hs.bx 1 rfl) rfl rfl fun fr hF => ?_
 refine from_pure 1 [(2, B b1 0), (3, B b2 0), (11, I p0.W), (12, B b2 1)] hF (by kernel_rfl) fun fr hF => ?_
 refine s_loadBox (I p1.W) ty3 rfl rfl hF rfl (hs.bx 0 rfl) rfl rfl fun fr hF => ?_
 refine from_pure 1 [(2, B b1 0), (3, B b2 0), (14, .bool (p0.W != p1.W))] hF (by kernel_rfl) fun fr hF => ?_
 refine from_end rfl (then_normal ?_)
 refine (wp_if hF (b := (p0.W != p1.W)) rfl (fun hb => ?_) (fun hb => ?_))
 · replace h := iteT hb h
   have hs : Sep [] w2 S2 := Sep.pick [] hs (by decide) rfl
   refine wp_seq (wp_pure [(4, .bool false)] hF (by kernel_rfl) fun fr hF => then_normal ?_)
   obtain rfl := Option.some.inj h
   exact wp_ret (then_ret (ret1 rfl hF rfl ⟨_, rfl, rfl, hM0.chg⟩))
 replace h := iteF hb h
 refine (wp_skip (then_normal ?_))
 refine wp_seq ?_
 refine wp_seq (wp_text' ?_)
 refine from_pure 1 [(2, B b1 0), (3, B b2 0), (15, B b1 2)] hF (by kernel_rfl) fun fr hF => ?_
 refine s_loadBox (I p0.N) ty3 rfl rfl hF rfl (hs.bx 1 rfl) rfl rfl fun fr hF => ?_
 refine from_pure 1 [(2, B b1 0), (3, B b2 0), (16, I p0.N), (17, B b2 2)] hF (by kernel_rfl) fun fr hF => ?_
 refine s_loadBox (I p1.N) ty3 rfl rfl hF rfl (hs.bx 0 rfl) rfl rfl fun fr hF => ?_
 refine from_pure 1 [(2, B b1 0), (3, B b2 0), (19, .bool (p0.N != p1.N))] hF (by kernel_rfl) fun fr hF => ?_
 refine from_end rfl (then_normal ?_)
 refine (wp_if hF (b := (p0.N != p1.N)) rfl (fun hb => ?_) (fun hb => ?_))
 · replace h := iteT hb h
   have hs : Sep [] w2 S2 := Sep.pick [] hs (by decide) rfl
   refine wp_seq (wp_pure [(4, .bool false)] hF (by kernel_rfl) fun fr hF => then_normal ?_)
   obtain rfl := Option.some.inj h
   exact wp_ret (then_ret (ret1 rfl hF rfl ⟨_, rfl, rfl, hM0.chg⟩))
 replace h := iteF hb h
 refine (wp_skip (then_normal ?_))
 refine wp_seq ?_
 refine wp_seq (wp_text' ?_)
 refine from_pure 1 [(2, B b1 0), (3, B b2 0), (20, B b1 3)] hF (by kernel_rfl) fun fr hF => ?_
 refine s_loadBox (Str.val p0.Name) ty9 rfl rfl hF rfl (hs.bx 1 rfl) rfl rfl fun fr hF => ?_
 refine from_pure 1 [(2, B b1 0), (3, B b2 0), (21, Str.val p0.Name), (22, B b2 3)] hF (by kernel_rfl) fun fr hF => ?_
 refine s_loadBox (Str.val p1.Name) ty9 rfl rfl hF rfl (hs.bx 0 rfl) rfl rfl fun fr hF => ?_
 refine from_pure 1 [(2, B b1 0), (3, B b2 0), (24, .bool (!(Str.eqb p0.Name p1.Name)))] hF (by kernel_rfl) fun fr hF => ?_
 refine from_end rfl (then_normal ?_)
 refine (wp_if hF (b := (!(Str.eqb p0.Name p1.Name))) rfl (fun hb => ?_) (fun hb => ?_))
 · replace h := iteT hb h
   have hs : Sep [] w2 S2 := Sep.pick [] hs (by decide) rfl
   refine wp_seq (wp_pure [(4, .bool false)] hF (by kernel_rfl) fun fr hF => then_normal ?_)
   obtain rfl := Option.some.inj h
   exact wp_ret (then_ret (ret1 rfl hF rfl ⟨_, rfl, rfl, hM0.chg⟩))
 replace h := iteF hb h
 refine (wp_skip (then_normal ?_))
 refine wp_seq ?_
 refine wp_seq (wp_text' ?_)
 refine from_pure 1 [(3, B b2 0), (25, B b1 4)] hF (by kernel_rfl) fun fr hF => ?_
 refine s_loadBox (L none ([] : List D.Term) 0) ty73 rfl rfl hF rfl (hs.bx 1 rfl) rfl rfl fun fr hF => ?_
 have hs : Sep [BX b2 121 [I p1.Op, I p1.W, I p1.N, Str.val p1.Name, L none ([] : List D.Term) 0]] w2 S2 := Sep.pick [0] hs (by decide) rfl
 refine from_pure 1 [(26, L none ([] : List D.Term) 0), (27, B b2 4)] hF (by kernel_rfl) fun fr hF => ?_
 refine s_loadBox (L none ([] : List D.Term) 0) ty73 rfl rfl hF rfl (hs.bx 0 rfl) rfl rfl fun fr hF => ?_
 have hs : Sep [] w2 S2 := Sep.pick [] hs (by decide) rfl
 obtain ⟨x1, hx1, h⟩ := bindE h
 refine s_call [L none ([] : List D.Term) 0, L none ([] : List D.Term) 0] Try.call91 rfl rfl hF rfl (laws_eqTermS__0_ok n ([] : List D.Term) ([] : List D.Term) hx1 (RV.nil (F := Non)) (RV.nil (F := Non))) fun v w3 fr hRes hF => ?_
 obtain ⟨rfl, hc⟩ := hRes
 have hs := hs.ext hc
 have hM0 := hM0.ext hc
 refine from_pure 1 [(30, .bool (!x1))] hF (by kernel_rfl) fun fr hF => ?_
 refine from_end rfl (then_normal ?_)
 refine (wp_if hF (b := (!x1)) rfl (fun hb => ?_) (fun hb => ?_))
 · replace h := iteT hb h
   refine wp_seq (wp_pure [(4, .bool false)] hF (by kernel_rfl) fun fr hF => then_normal ?_)
   obtain rfl := Option.some.inj h
   exact wp_ret (then_ret (ret1 rfl hF rfl ⟨_, rfl, rfl, hM0.chg⟩))
 replace h := iteF hb h
 refine (wp_skip (then_normal ?_))
 refine wp_seq (wp_pure [(4, .bool true)] hF (by kernel_rfl) fun fr hF => then_normal ?_)
 obtain rfl := Option.some.inj h
 exact wp_ret (ret1 rfl hF rfl ⟨_, rfl, rfl, hM0.chg⟩)

theorem laws_eqTermS__1_ok (n : Nat) (p0 : List D.Term) (p1 : List D.Term) {r : Bool} (h : laws_eqTermS__1 n p0 p1 = some r) {w : World} {G0 : Nat → Prop} {va0 : Value} (ra0 : RV w G0 va0 p0) {G1 : Nat → Prop} {va1 : Value} (ra1 : RV w G1 va1 p1) :
   Calls Try.prog 91 [va0, va1].toArray w fun e w' => ∃ v, e = .returned v ∧ v = .bool r ∧ Chg Non w w' := by
 unfold laws_eqTermS__1 at h
 have hs := Sep.nil w Non
 have hM0 : Mem w Non (fun k => (G0 k ∨ G1 k) ∧ k < w.heap.size) w Non (fun k => (G0 k ∨ G1 k) ∧ k < w.heap.size) := Mem.start (fun _ h => h.elim) (fun _ h => h.2) (fun _ h => h.elim)
 have ra0 := ra0.sub (F' := (fun k => (G0 k ∨ G1 k) ∧ k < w.heap.size)) (fun k hk h => ⟨.inl h, hk⟩)
 obtain ⟨a1, c1, rfl, -⟩ := ra0.slice
 have ra1 := ra1.sub (F' := (fun k => (G0 k ∨ G1 k) ∧ k < w.heap.size)) (fun k hk h => ⟨.inr (h), hk⟩)
 obtain ⟨a2, c2, rfl, -⟩ := ra1.slice
 refine enter (N := 27) Try.func91 rfl Try.ntmps91 rfl fun fr hF => ?_
 refine wp_seq (wp_pure [(0, L a1 p0 c1), (1, L a2 p1 c2)] hF (by kernel_rfl) fun fr hF => then_normal ?_)
 refine wp_seq ?_
 refine wp_seq (wp_pure [(0, L a1 p0 c1), (1, L a2 p1 c2), (10, .bool ((len p0) != (len p1)))] hF (by kernel_rfl) fun fr hF => then_normal ?_)
 refine (wp_if hF (b := ((len p0) != (len p1))) rfl (fun hb => ?_) (fun hb => ?_))
 · replace h := iteT hb h
   refine wp_seq (wp_pure [(4, .bool false)] hF (by kernel_rfl) fun fr hF => then_normal ?_)
   obtain rfl := Option.some.inj h
   exact wp_ret (then_ret (ret1 rfl hF rfl ⟨_, rfl, rfl, hM0.chg⟩))
 replace h := iteF hb h
 refine (wp_skip (then_normal ?_))
 refine wp_seq ?_
 refine wp_seq (wp_pure [(0, L a1 p0 c1), (1, L a2 p1 c2), (5, I 0)] hF (by kernel_rfl) fun fr hF => then_normal ?_)
 obtain ⟨rl1, hit1, h⟩ := bindE h
 have hk1 := h
 refine (GL.wp_cut (M := fun fr w' => ∃ s, rl1 = .inl s ∧ ∃ S2 F2, FrS 27 [] fr ∧ Mem w Non (fun k => (G0 k ∨ G1 k) ∧ k < w.heap.size) w' S2 F2 ∧ Sep [] w' S2) (wp_block (wp_iter (Inv := fun s1 fr w' => ∃ S1 F1, FrS 27 [(0, L a1 p0 c1), (1, L a2 p1 c2), (5, I s1)] fr ∧ Mem w Non (fun k => (G0 k ∨ G1 k) ∧ k < w.heap.size) w' S1 F1 ∧ Sep [] w' S1) hit1 ⟨Non, _, hF.sub _ (by kernel_rfl), (Mem.start hM0.bd hM0.bdF hM0.dj), hs⟩ fun s1 q1 fr w1i hI h hr1 => ?_)) fun fr w1o hM => ?_)
 · obtain ⟨S1, F1, hF, hM1, hs⟩ := hI
   have ra0 := ra0.mem hM1
   have ra1 := ra1.mem hM1
   refine wp_seq ?_
   refine wp_seq (wp_pure [(0, L a1 p0 c1), (1, L a2 p1 c2), (5, I s1), (14, .bool (decide (s1 < (len p0))))] hF (by kernel_rfl) fun fr hF => then_normal ?_)
   refine (wp_if hF (b := (decide (s1 < (len p0)))) rfl (fun hb => ?_) (fun hb => ?_))
   · replace h := iteT hb h
     refine (wp_skip (then_normal ?_))
     refine wp_seq (wp_block ?_)
     obtain ⟨x1, hx1, h⟩ := bindE h
     obtain ⟨x2, hx2, h⟩ := bindE h
     obtain ⟨x3, hx3, h⟩ := bindE h
     refine wp_seq (region_bm 10 [0, 0, 3, 7, 0, 0, 48, 112, 255, 511] [true, true, false, false, true, true, false, false, false, true]
         [.eq (L a1 p0 c1), .eq (I s1), .is fun v w => ElemP w (fun k => k < w1i.heap.size) v (x1 : D.Term), .eq (.agg #[I x1.Op, I x1.W, I x1.N, Str.val x1.Name, L none ([] : List D.Term) 0]), .eq (L a2 p1 c2), .eq (I s1), .is fun v w => ElemP w (fun k => k < w1i.heap.size) v (x2 : D.Term), .eq (.agg #[I x2.Op, I x2.W, I x2.N, Str.val x2.Name, L none ([] : List D.Term) 0]), .eq (.bool x3), .eq (.bool (!x3))]
         [(0, L a1 p0 c1), (1, L a2 p1 c2), (5, I s1), (26, .bool (!x3))] mix hF (by kernel_rfl) (by kernel_rfl) (by kernel_rfl) (by kernel_rfl) ⟨(Pd.monoO_is mono_elem), Pd.monoO_eq, (Pd.monoO_is mono_elem), Pd.monoO_eq, Pd.monoO_eq, trivial⟩ (fun ow hG => ⟨np_to ow (np_index hG hF ty121 Try.underlying73 rfl rfl (RV.sub (ra0) fun k hk _ => hk) rfl rfl (fun hg => ⟨get?_nn hx1, get?_at hx1⟩)), np_to ow (np_loadF (z := x1) (i := 2) hG hF ty121 rfl rfl rfl rfl rfl rfl rfl), np_to ow (np_index hG hF ty121 Try.underlying73 rfl rfl (RV.sub (ra1) fun k hk _ => hk) rfl rfl (fun hg => ⟨get?_nn hx2, get?_at hx2⟩)), np_to ow (np_loadF (z := x2) (i := 6) hG hF ty121 rfl rfl rfl rfl rfl rfl rfl), np_to ow (np_call [.agg #[I x1.Op, I x1.W, I x1.N, Str.val x1.Name, L none ([] : List D.Term) 0], .agg #[I x2.Op, I x2.W, I x2.N, Str.val x2.Name, L none ([] : List D.Term) 0]] hG hF Try.call130 rfl rfl (fun w hC hg => (laws_eqTerm__1_ok n x1 x2 hx3).mono fun e w' ⟨v, he, hv, hc⟩ => ⟨v, he, hc, hv⟩)), trivial⟩) (by kernel_rfl) fun ow fr w1 hF hE hc => ?_)
     have ra0 := ra0.ext hc
     have ra1 := ra1.ext hc
     have hs := hs.ext hc
     have hM1 := hM1.ext hc
     refine from_end rfl (then_normal ?_)
     refine (wp_if hF (b := (!x3)) rfl (fun hb => ?_) (fun hb => ?_))
     · replace h := iteT hb h
       refine wp_seq (wp_pure [(4, .bool false)] hF (by kernel_rfl) fun fr hF => then_normal ?_)
       obtain rfl := hr1 _ (Option.some.inj h).symm
       obtain rfl := Option.some.inj hk1
       exact wp_ret (blk_ret (then_ret (then_ret (blk_ret (then_ret (ret1 rfl hF rfl ⟨_, rfl, rfl, (hM0.trans hM1).chg⟩))))))
     replace h := iteF hb h
     refine (wp_skip ?_)
     refine blk_normal (then_normal ?_)
     refine (wp_pure [(0, L a1 p0 c1), (1, L a2 p1 c2), (5, I (w64 (s1 + 1)))] hF (by kernel_rfl) fun fr hF => then_normal ?_)
     exact ⟨_, (Option.some.inj h).symm, S1, _, hF.sub _ (by kernel_rfl), hM1, hs⟩
   replace h := iteF hb h
   refine (wp_exit (then_exit (then_exit (blk_exit_eq ?_))))
   obtain rfl := hr1 _ (Option.some.inj h).symm
   exact then_normal ⟨_, rfl, S1, _, hF.sub _ (by kernel_rfl), hM1, hs⟩
 · obtain ⟨s1r, rfl, hM⟩ := hM
   obtain ⟨S2, F2, hF, hMx, hs⟩ := hM
   have hM0 := hM0.trans hMx
   refine wp_seq (wp_pure [(4, .bool true)] hF (by kernel_rfl) fun fr hF => then_normal ?_)
   obtain rfl := Option.some.inj h
   exact wp_ret (ret1 rfl hF rfl ⟨_, rfl, rfl, hM0.chg⟩)

theorem laws_eqIntS_ok (n : Nat) (p0 : List Int) (p1 : List Int) {r : Bool} (h : laws_eqIntS n p0 p1 = some r) {w : World} {G0 : Nat → Prop} {va0 : Value} (ra0 : RV w G0 va0 p0) {G1 : Nat → Prop} {va1 : Value} (ra1 : RV w G1 va1 p1) :
   Calls Try.prog 15 [va0, va1].toArray w fun e w' => ∃ v, e = .returned v ∧ v = .bool r ∧ Chg Non w w' := by
 unfold laws_eqIntS at h
 have hs := Sep.nil w Non
 have hM0 : Mem w Non (fun k => (G0 k ∨ G1 k) ∧ k < w.heap.size) w Non (fun k => (G0 k ∨ G1 k) ∧ k < w.heap.size) := Mem.start (fun _ h => h.elim) (fun _ h => h.2) (fun _ h => h.elim)
 have ra0 := ra0.sub (F' := (fun k => (G0 k ∨ G1 k) ∧ k < w.heap.size)) (fun k hk h => ⟨.inl h, hk⟩)
 obtain ⟨a1, c1, rfl, -⟩ := ra0.slice
 have ra1 := ra1.sub (F' := (fun k => (G0 k ∨ G1 k) ∧ k < w.heap.size)) (fun k hk h => ⟨.inr (h), hk⟩)
 obtain ⟨a2, c2, rfl, -⟩ := ra1.slice
 refine enter (N := 26) Try.func15 rfl Try.ntmps15 rfl fun fr hF => ?_
 refine wp_seq (wp_pure [(0, L a1 p0 c1), (1, L a2 p1 c2)] hF (by kernel_rfl) fun fr hF => then_normal ?_)
 refine wp_seq ?_
 refine wp_seq (wp_pure [(0, L a1 p0 c1), (1, L a2 p1 c2), (10, .bool ((len p0) != (len p1)))] hF (by kernel_rfl) fun fr hF => then_normal ?_)
 refine (wp_if hF (b := ((len p0) != (len p1))) rfl (fun hb => ?_) (fun hb => ?_))
 · replace h := iteT hb h
   refine wp_seq (wp_pure [(4, .bool false)] hF (by kernel_rfl) fun fr hF => then_normal ?_)
   obtain rfl := Option.some.inj h
   exact wp_ret (then_ret (ret1 rfl hF rfl ⟨_, rfl, rfl, hM0.chg⟩))
 replace h := iteF hb h
 refine (wp_skip (then_normal ?_))
 refine wp_seq ?_
 refine wp_seq (wp_pure [(0, L a1 p0 c1), (1, L a2 p1 c2), (5, I 0)] hF (by kernel_rfl) fun fr hF => then_normal ?_)
 obtain ⟨rl1, hit1, h⟩ := bindE h
 have hk1 := h
 refine (GL.wp_cut (M := fun fr w' => ∃ s, rl1 = .inl s ∧ ∃ S2 F2, FrS 26 [] fr ∧ Mem w Non (fun k => (G0 k ∨ G1 k) ∧ k < w.heap.size) w' S2 F2 ∧ Sep [] w' S2) (wp_block (wp_iter (Inv := fun s1 fr w' => ∃ S1 F1, FrS 26 [(0, L a1 p0 c1), (1, L a2 p1 c2), (5, I s1)] fr ∧ Mem w Non (fun k => (G0 k ∨ G1 k) ∧ k < w.heap.size) w' S1 F1 ∧ Sep [] w' S1) hit1 ⟨Non, _, hF.sub _ (by kernel_rfl), (Mem.start hM0.bd hM0.bdF hM0.dj), hs⟩ fun s1 q1 fr w1i hI h hr1 => ?_)) fun fr w1o hM => ?_)
 · obtain ⟨S1, F1, hF, hM1, hs⟩ := hI
   have ra0 := ra0.mem hM1
   have ra1 := ra1.mem hM1
   refine wp_seq ?_
   refine wp_seq (wp_pure [(0, L a1 p0 c1), (1, L a2 p1 c2), (5, I s1), (14, .bool (decide (s1 < (len p0))))] hF (by kernel_rfl) fun fr hF => then_normal ?_)
   refine (wp_if hF (b := (decide (s1 < (len p0)))) rfl (fun hb => ?_) (fun hb => ?_))
   · replace h := iteT hb h
     refine (wp_skip (then_normal ?_))
     refine wp_seq (wp_block ?_)
     obtain ⟨x1, hx1, h⟩ := bindE h
     obtain ⟨x2, hx2, h⟩ := bindE h
     refine wp_seq (region_bm 9 [0, 0, 3, 7, 0, 0, 48, 112, 255] [true, true, false, false, true, true, false, false, true]
         [.eq (L a1 p0 c1), .eq (I s1), .is fun v w => ElemP w (fun k => k < w1i.heap.size) v (x1 : Int), .eq (I x1), .eq (L a2 p1 c2), .eq (I s1), .is fun v w => ElemP w (fun k => k < w1i.heap.size) v (x2 : Int), .eq (I x2), .eq (.bool (x1 != x2))]
         [(0, L a1 p0 c1), (1, L a2 p1 c2), (5, I s1), (25, .bool (x1 != x2))] mix hF (by kernel_rfl) (by kernel_rfl) (by kernel_rfl) (by kernel_rfl) ⟨(Pd.monoO_is mono_elem), Pd.monoO_eq, (Pd.monoO_is mono_elem), Pd.monoO_eq, trivial⟩ (fun ow hG => ⟨np_to ow (np_index hG hF ty3 Try.underlying26 rfl rfl (RV.sub (ra0) fun k hk _ => hk) rfl rfl (fun hg => ⟨get?_nn hx1, get?_at hx1⟩)), np_to ow (np_loadF (z := x1) (i := 2) hG hF ty3 rfl rfl rfl rfl rfl rfl rfl), np_to ow (np_index hG hF ty3 Try.underlying26 rfl rfl (RV.sub (ra1) fun k hk _ => hk) rfl rfl (fun hg => ⟨get?_nn hx2, get?_at hx2⟩)), np_to ow (np_loadF (z := x2) (i := 6) hG hF ty3 rfl rfl rfl rfl rfl rfl rfl), trivial⟩) (by kernel_rfl) fun ow fr w1 hF hE hc => ?_)
     have ra0 := ra0.ext hc
     have ra1 := ra1.ext hc
     have hs := hs.ext hc
     have hM1 := hM1.ext hc
     refine from_end rfl (then_normal ?_)
     refine (wp_if hF (b := (x1 != x2)) rfl (fun hb => ?_) (fun hb => ?_))
     · replace h := iteT hb h
       refine wp_seq (wp_pure [(4, .bool false)] hF (by kernel_rfl) fun fr hF => then_normal ?_)
       obtain rfl := hr1 _ (Option.some.inj h).symm
       obtain rfl := Option.some.inj hk1
       exact wp_ret (blk_ret (then_ret (then_ret (blk_ret (then_ret (ret1 rfl hF rfl ⟨_, rfl, rfl, (hM0.trans hM1).chg⟩))))))
     replace h := iteF hb h
     refine (wp_skip ?_)
     refine blk_normal (then_normal ?_)
     refine (wp_pure [(0, L a1 p0 c1), (1, L a2 p1 c2), (5, I (w64 (s1 + 1)))] hF (by kernel_rfl) fun fr hF => then_normal ?_)
     exact ⟨_, (Option.some.inj h).symm, S1, _, hF.sub _ (by kernel_rfl), hM1, hs⟩
   replace h := iteF hb h
   refine (wp_exit (then_exit (then_exit (blk_exit_eq ?_))))
   obtain rfl := hr1 _ (Option.some.inj h).symm
   exact then_normal ⟨_, rfl, S1, _, hF.sub _ (by kernel_rfl), hM1, hs⟩
 · obtain ⟨s1r, rfl, hM⟩ := hM
   obtain ⟨S2, F2, hF, hMx, hs⟩ := hM
   have hM0 := hM0.trans hMx
   refine wp_seq (wp_pure [(4, .bool true)] hF (by kernel_rfl) fun fr hF => then_normal ?_)
   obtain rfl := Option.some.inj h
   exact wp_ret (ret1 rfl hF rfl ⟨_, rfl, rfl, hM0.chg⟩)

theorem laws_eqPath_ok (n : Nat) (p0 : D.Path) (p1 : D.Path) {r : Bool} (h : laws_eqPath n p0 p1 = some r) {w : World} {G0 : Nat → Prop} {va0 : Value} (ra0 : RV w G0 va0 p0) {G1 : Nat → Prop} {va1 : Value} (ra1 : RV w G1 va1 p1) :
   Calls Try.prog 49 [va0, va1].toArray w fun e w' => ∃ v, e = .returned v ∧ v = .bool r ∧ Chg Non w w' := by
 unfold laws_eqPath at h
 have hs := Sep.nil w Non
 have hM0 : Mem w Non (fun k => (G0 k ∨ G1 k) ∧ k < w.heap.size) w Non (fun k => (G0 k ∨ G1 k) ∧ k < w.heap.size) := Mem.start (fun _ h => h.elim) (fun _ h => h.2) (fun _ h => h.elim)
 have ra0 := ra0.sub (F' := (fun k => (G0 k ∨ G1 k) ∧ k < w.heap.size)) (fun k hk h => ⟨.inl h, hk⟩)
 obtain ⟨v1, v2, v3, v4, v5, v6, rfl, r1, r2, r3, r4, r5, r6⟩ := RV.Path ra0
 obtain ⟨a1, c1, rfl, -⟩ := r1.slice
 obtain ⟨a2, c2, rfl, -⟩ := r2.slice
 obtain ⟨a3, c3, rfl, -⟩ := r3.slice
 obtain ⟨a4, c4, rfl, -⟩ := r4.slice
 obtain ⟨a5, c5, rfl, -⟩ := r5.slice
 obtain ⟨a6, c6, rfl, -⟩ := r6.slice
 have ra1 := ra1.sub (F' := (fun k => (G0 k ∨ G1 k) ∧ k < w.heap.size)) (fun k hk h => ⟨.inr (h), hk⟩)
 obtain ⟨v7, v8, v9, v10, v11, v12, rfl, r7, r8, r9, r10, r11, r12⟩ := RV.Path ra1
 obtain ⟨a7, c7, rfl, -⟩ := r7.slice
 obtain ⟨a8, c8, rfl, -⟩ := r8.slice
 obtain ⟨a9, c9, rfl, -⟩ := r9.slice
 obtain ⟨a10, c10, rfl, -⟩ := r10.slice
 obtain ⟨a11, c11, rfl, -⟩ := r11.slice
 obtain ⟨a12, c12, rfl, -⟩ := r12.slice
 refine enter (N := 61) Try.func49 rfl Try.ntmps49 rfl fun fr hF => ?_
 refine wp_seq (wp_text' ?_)
 refine q_box hs hM0 [I p0.Pc, L a1 p0.Regs c1, L a2 p0.Mem c2, L a3 p0.Stack c3, I p0.In, L a4 p0.Out c4, I p0.Code, I p0.Steps, L a5 p0.Cond c5, L a6 p0.Turns c6] rfl rfl hF rfl rfl fun b1 w1 S1 fr hs hp hF => ?_
 have r1 := r1.stp hM0 hp
 have r2 := r2.stp hM0 hp
 have r3 := r3.stp hM0 hp
 have r4 := r4.stp hM0 hp
 have r5 := r5.stp hM0 hp
 have r6 := r6.stp hM0 hp
 have r7 := r7.stp hM0 hp
 have r8 := r8.stp hM0 hp
 have r9 := r9.stp hM0 hp
 have r10 := r10.stp hM0 hp
 have r11 := r11.stp hM0 hp
 have r12 := r12.stp hM0 hp
 have hM0 := hM0.stp hp
 have hs : Sep [BX b1 75 [I p0.Pc, L a1 p0.Regs c1, L a2 p0.Mem c2, L a3 p0.Stack c3, I p0.In, L a4 p0.Out c4, I p0.Code, I p0.Steps, L a5 p0.Cond c5, L a6 p0.Turns c6]] w1 S1 := hs
 refine q_box hs hM0 [I p1.Pc, L a7 p1.Regs c7, L a8 p1.Mem c8, L a9 p1.Stack c9, I p1.In, L a10 p1.Out c10, I p1.Code, I p1.Steps, L a11 p1.Cond c11, L a12 p1.Turns c12] rfl rfl hF rfl rfl fun b2 w2 S2 fr hs hp hF => ?_
 have r7 := r7.stp hM0 hp
 have r8 := r8.stp hM0 hp
 have r9 := r9.stp hM0 hp
 have r10 := r10.stp hM0 hp
 have r11 := r11.stp hM0 hp
 have r12 := r12.stp hM0 hp
 have r1 := r1.stp hM0 hp
 have r2 := r2.stp hM0 hp
 have r3 := r3.stp hM0 hp
 have r4 := r4.stp hM0 hp
 have r5 := r5.stp hM0 hp
 have r6 := r6.stp hM0 hp
 have hM0 := hM0.stp hp
 have hs : Sep [BX b2 75 [I p1.Pc, L a7 p1.Regs c7, L a8 p1.Mem c8, L a9 p1.Stack c9, I p1.In, L a10 p1.Out c10, I p1.Code, I p1.Steps, L a11 p1.Cond c11, L a12 p1.Turns c12], BX b1 75 [I p0.Pc, L a1 p0.Regs c1, L a2 p0.Mem c2, L a3 p0.Stack c3, I p0.In, L a4 p0.Out c4, I p0.Code, I p0.Steps, L a5 p0.Cond c5, L a6 p0.Turns c6]] w2 S2 := hs
 refine from_pure 1 [(2, B b1 0), (3, B b2 0)] hF (by kernel_rfl) fun fr hF => ?_
 refine from_end rfl (then_normal ?_)
 refine wp_seq ?_
 refine wp_seq (wp_text' ?_)
 refine from_pure 1 [(2, B b1 0), (3, B b2 0), (5, B b1 0)] hF (by kernel_rfl) fun fr hF => ?_
 refine s_loadBox (I p0.Pc) ty3 rfl rfl hF rfl (hs.bx 1 rfl) rfl rfl fun fr hF => ?_
 refine from_pure 1 [(2, B b1 0), (3, B b2 0), (6, I p0.Pc), (7, B b2 0)] hF (by kernel_rfl) fun fr hF => ?_
 refine s_loadBox (I p1.Pc) ty3 rfl rfl hF rfl (hs.bx 0 rfl) rfl rfl fun fr hF => ?_
 refine from_pure 1 [(2, B b1 0), (3, B b2 0), (9, .bool (p0.Pc != p1.Pc))] hF (by kernel_rfl) fun fr hF => ?_
 refine from_end rfl (then_normal ?_)
 refine (wp_if hF (b := (p0.Pc != p1.Pc)) rfl (fun hb => ?_) (fun hb => ?_))
 · replace h := iteT hb h
   have hs : Sep [] w2 S2 := Sep.pick [] hs (by decide) rfl
   refine wp_seq (wp_pure [(4, .bool false)] hF (by kernel_rfl) fun fr hF => then_normal ?_)
   obtain rfl := Option.some.inj h
   exact wp_ret (then_ret (ret1 rfl hF rfl ⟨_, rfl, rfl, hM0.chg⟩))
 replace h := iteF hb h
 refine (wp_skip (then_normal ?_))
 refine wp_seq ?_
 refine wp_seq (wp_text' ?_)
 refine from_pure 1 [(2, B b1 0), (3, B b2 0), (10, B b1 1)] hF (by kernel_rfl) fun fr hF => ?_
 refine s_loadBox (L a1 p0.Regs c1) ty73 rfl rfl hF rfl (hs.bx 1 rfl) rfl rfl fun fr hF => ?_
 refine from_pure 1 [(2, B b1 0), (3, B b2 0), (11, L a1 p0.Regs c1), (12, B b2 1)] hF (by kernel_rfl) fun fr hF => ?_
 refine s_loadBox (L a7 p1.Regs c7) ty73 rfl rfl hF rfl (hs.bx 0 rfl) rfl rfl fun fr hF => ?_
 obtain ⟨x1, hx1, h⟩ := bindE h
 refine s_call [L a1 p0.Regs c1, L a7 p1.Regs c7] Try.call91 rfl rfl hF rfl (laws_eqTermS__1_ok n p0.Regs p1.Regs hx1 (r1) (r7)) fun v w3 fr hRes hF => ?_
 obtain ⟨rfl, hc⟩ := hRes
 have r1 := r1.ext hc
 have r7 := r7.ext hc
 have r8 := r8.ext hc
 have r9 := r9.ext hc
 have r10 := r10.ext hc
 have r11 := r11.ext hc
 have r12 := r12.ext hc
 have r2 := r2.ext hc
 have r3 := r3.ext hc
 have r4 := r4.ext hc
 have r5 := r5.ext hc
 have r6 := r6.ext hc
 have hs := hs.ext hc
 have hM0 := hM0.ext hc
 refine from_pure 1 [(2, B b1 0), (3, B b2 0), (15, .bool (!x1))] hF (by kernel_rfl) fun fr hF => ?_
 refine from_end rfl (then_normal ?_)
 refine (wp_if hF (b := (!x1)) rfl (fun hb => ?_) (fun hb => ?_))
 · replace h := iteT hb h
   have hs : Sep [] w3 S2 := Sep.pick [] hs (by decide) rfl
   refine wp_seq (wp_pure [(4, .bool false)] hF (by kernel_rfl) fun fr hF => then_normal ?_)
   obtain rfl := Option.some.inj h
   exact wp_ret (then_ret (ret1 rfl hF rfl ⟨_, rfl, rfl, hM0.chg⟩))
 replace h := iteF hb h
 refine (wp_skip (then_normal ?_))
 refine wp_seq ?_
 refine wp_seq (wp_text' ?_)
 refine from_pure 1 [(2, B b1 0), (3, B b2 0), (16, B b1 2)] hF (by kernel_rfl) fun fr hF => ?_
 refine s_loadBox (L a2 p0.Mem c2) ty73 rfl rfl hF rfl (hs.bx 1 rfl) rfl rfl fun fr hF => ?_
 refine from_pure 1 [(2, B b1 0), (3, B b2 0), (17, L a2 p0.Mem c2), (18, B b2 2)] hF (by kernel_rfl) fun fr hF => ?_
 refine s_loadBox (L a8 p1.Mem c8) ty73 rfl rfl hF rfl (hs.bx 0 rfl) rfl rfl fun fr hF => ?_
 obtain ⟨x2, hx2, h⟩ := bindE h
 refine s_call [L a2 p0.Mem c2, L a8 p1.Mem c8] Try.call91 rfl rfl hF rfl (laws_eqTermS__1_ok n p0.Mem p1.Mem hx2 (r2) (r8)) fun v w4 fr hRes hF => ?_
 obtain ⟨rfl, hc⟩ := hRes
 have r2 := r2.ext hc
 have r8 := r8.ext hc
 have r7 := r7.ext hc
 have r9 := r9.ext hc
 have r10 := r10.ext hc
 have r11 := r11.ext hc
 have r12 := r12.ext hc
 have r1 := r1.ext hc
 have r3 := r3.ext hc
 have r4 := r4.ext hc
 have r5 := r5.ext hc
 have r6 := r6.ext hc
 have hs := hs.ext hc
 have hM0 := hM0.ext hc
 refine from_pure 1 [(2, B b1 0), (3, B b2 0), (21, .bool (!x2))] hF (by kernel_rfl) fun fr hF => ?_
 refine from_end rfl (then_normal ?_)
 refine (wp_if hF (b := (!x2)) rfl (fun hb => ?_) (fun hb => ?_))
 · replace h := iteT hb h
   have hs : Sep [] w4 S2 := Sep.pick [] hs (by decide) rfl
   refine wp_seq (wp_pure [(4, .bool false)] hF (by kernel_rfl) fun fr hF => then_normal ?_)
   obtain rfl := Option.some.inj h
   exact wp_ret (then_ret (ret1 rfl hF rfl ⟨_, rfl, rfl, hM0.chg⟩))
 replace h := iteF hb h
 refine (wp_skip (then_normal ?_))
 refine wp_seq ?_
 refine wp_seq (wp_text' ?_)
 refine from_pure 1 [(2, B b1 0), (3, B b2 0), (22, B b1 3)] hF (by kernel_rfl) fun fr hF => ?_
 refine s_loadBox (L a3 p0.Stack c3) ty26 rfl rfl hF rfl (hs.bx 1 rfl) rfl rfl fun fr hF => ?_
 refine from_pure 1 [(2, B b1 0), (3, B b2 0), (23, L a3 p0.Stack c3), (24, B b2 3)] hF (by kernel_rfl) fun fr hF => ?_
 refine s_loadBox (L a9 p1.Stack c9) ty26 rfl rfl hF rfl (hs.bx 0 rfl) rfl rfl fun fr hF => ?_
 obtain ⟨x3, hx3, h⟩ := bindE h
 refine s_call [L a3 p0.Stack c3, L a9 p1.Stack c9] Try.call15 rfl rfl hF rfl (laws_eqIntS_ok n p0.Stack p1.Stack hx3 (r3) (r9)) fun v w5 fr hRes hF => ?_
 obtain ⟨rfl, hc⟩ := hRes
 have r3 := r3.ext hc
 have r9 := r9.ext hc
 have r7 := r7.ext hc
 have r8 := r8.ext hc
 have r10 := r10.ext hc
 have r11 := r11.ext hc
 have r12 := r12.ext hc
 have r1 := r1.ext hc
 have r2 := r2.ext hc
 have r4 := r4.ext hc
 have r5 := r5.ext hc
 have r6 := r6.ext hc
 have hs := hs.ext hc
 have hM0 := hM0.ext hc
 refine from_pure 1 [(2, B b1 0), (3, B b2 0), (27, .bool (!x3))] hF (by kernel_rfl) fun fr hF => ?_
 refine from_end rfl (then_normal ?_)
 refine (wp_if hF (b := (!x3)) rfl (fun hb => ?_) (fun hb => ?_))
 · replace h := iteT hb h
   have hs : Sep [] w5 S2 := Sep.pick [] hs (by decide) rfl
   refine wp_seq (wp_pure [(4, .bool false)] hF (by kernel_rfl) fun fr hF => then_normal ?_)
   obtain rfl := Option.some.inj h
   exact wp_ret (then_ret (ret1 rfl hF rfl ⟨_, rfl, rfl, hM0.chg⟩))
 replace h := iteF hb h
 refine (wp_skip (then_normal ?_))
 refine wp_seq ?_
 refine wp_seq (wp_text' ?_)
 refine from_pure 1 [(2, B b1 0), (3, B b2 0), (28, B b1 4)] hF (by kernel_rfl) fun fr hF => ?_
 refine s_loadBox (I p0.In) ty3 rfl rfl hF rfl (hs.bx 1 rfl) rfl rfl fun fr hF => ?_
 refine from_pure 1 [(2, B b1 0), (3, B b2 0), (29, I p0.In), (30, B b2 4)] hF (by kernel_rfl) fun fr hF => ?_
 refine s_loadBox (I p1.In) ty3 rfl rfl hF rfl (hs.bx 0 rfl) rfl rfl fun fr hF => ?_
 refine from_pure 1 [(2, B b1 0), (3, B b2 0), (32, .bool (p0.In != p1.In))] hF (by kernel_rfl) fun fr hF => ?_
 refine from_end rfl (then_normal ?_)
 refine (wp_if hF (b := (p0.In != p1.In)) rfl (fun hb => ?_) (fun hb => ?_))
 · replace h := iteT hb h
   have hs : Sep [] w5 S2 := Sep.pick [] hs (by decide) rfl
   refine wp_seq (wp_pure [(4, .bool false)] hF (by kernel_rfl) fun fr hF => then_normal ?_)
   obtain rfl := Option.some.inj h
   exact wp_ret (then_ret (ret1 rfl hF rfl ⟨_, rfl, rfl, hM0.chg⟩))
 replace h := iteF hb h
 refine (wp_skip (then_normal ?_))
 refine wp_seq ?_
 refine wp_seq (wp_text' ?_)
 refine from_pure 1 [(2, B b1 0), (3, B b2 0), (33, B b1 5)] hF (by kernel_rfl) fun fr hF => ?_
 refine s_loadBox (L a4 p0.Out c4) ty73 rfl rfl hF rfl (hs.bx 1 rfl) rfl rfl fun fr hF => ?_
 refine from_pure 1 [(2, B b1 0), (3, B b2 0), (34, L a4 p0.Out c4), (35, B b2 5)] hF (by kernel_rfl) fun fr hF => ?_
 refine s_loadBox (L a10 p1.Out c10) ty73 rfl rfl hF rfl (hs.bx 0 rfl) rfl rfl fun fr hF => ?_
 obtain ⟨x4, hx4, h⟩ := bindE h
 refine s_call [L a4 p0.Out c4, L a10 p1.Out c10] Try.call91 rfl rfl hF rfl (laws_eqTermS__1_ok n p0.Out p1.Out hx4 (r4) (r10)) fun v w6 fr hRes hF => ?_
 obtain ⟨rfl, hc⟩ := hRes
 have r4 := r4.ext hc
 have r10 := r10.ext hc
 have r7 := r7.ext hc
 have r8 := r8.ext hc
 have r9 := r9.ext hc
 have r11 := r11.ext hc
 have r12 := r12.ext hc
 have r1 := r1.ext hc
 have r2 := r2.ext hc
 have r3 := r3.ext hc
 have r5 := r5.ext hc
 have r6 := r6.ext hc
 have hs := hs.ext hc
 have hM0 := hM0.ext hc
 refine from_pure 1 [(2, B b1 0), (3, B b2 0), (38, .bool (!x4))] hF (by kernel_rfl) fun fr hF => ?_
 refine from_end rfl (then_normal ?_)
 refine (wp_if hF (b := (!x4)) rfl (fun hb => ?_) (fun hb => ?_))
 · replace h := iteT hb h
   have hs : Sep [] w6 S2 := Sep.pick [] hs (by decide) rfl
   refine wp_seq (wp_pure [(4, .bool false)] hF (by kernel_rfl) fun fr hF => then_normal ?_)
   obtain rfl := Option.some.inj h
   exact wp_ret (then_ret (ret1 rfl hF rfl ⟨_, rfl, rfl, hM0.chg⟩))
 replace h := iteF hb h
 refine (wp_skip (then_normal ?_))
 refine wp_seq ?_
 refine wp_seq (wp_text' ?_)
 refine from_pure 1 [(2, B b1 0), (3, B b2 0), (39, B b1 6)] hF (by kernel_rfl) fun fr hF => ?_
 refine s_loadBox (I p0.Code) ty3 rfl rfl hF rfl (hs.bx 1 rfl) rfl rfl fun fr hF => ?_
 refine from_pure 1 [(2, B b1 0), (3, B b2 0), (40, I p0.Code), (41, B b2 6)] hF (by kernel_rfl) fun fr hF => ?_
 refine s_loadBox (I p1.Code) ty3 rfl rfl hF rfl (hs.bx 0 rfl) rfl rfl fun fr hF => ?_
 refine from_pure 1 [(2, B b1 0), (3, B b2 0), (43, .bool (p0.Code != p1.Code))] hF (by kernel_rfl) fun fr hF => ?_
 refine from_end rfl (then_normal ?_)
 refine (wp_if hF (b := (p0.Code != p1.Code)) rfl (fun hb => ?_) (fun hb => ?_))
 · replace h := iteT hb h
   have hs : Sep [] w6 S2 := Sep.pick [] hs (by decide) rfl
   refine wp_seq (wp_pure [(4, .bool false)] hF (by kernel_rfl) fun fr hF => then_normal ?_)
   obtain rfl := Option.some.inj h
   exact wp_ret (then_ret (ret1 rfl hF rfl ⟨_, rfl, rfl, hM0.chg⟩))
 replace h := iteF hb h
 refine (wp_skip (then_normal ?_))
 refine wp_seq ?_
 refine wp_seq (wp_text' ?_)
 refine from_pure 1 [(2, B b1 0), (3, B b2 0), (44, B b1 7)] hF (by kernel_rfl) fun fr hF => ?_
 refine s_loadBox (I p0.Steps) ty3 rfl rfl hF rfl (hs.bx 1 rfl) rfl rfl fun fr hF => ?_
 refine from_pure 1 [(2, B b1 0), (3, B b2 0), (45, I p0.Steps), (46, B b2 7)] hF (by kernel_rfl) fun fr hF => ?_
 refine s_loadBox (I p1.Steps) ty3 rfl rfl hF rfl (hs.bx 0 rfl) rfl rfl fun fr hF => ?_
 refine from_pure 1 [(2, B b1 0), (3, B b2 0), (48, .bool (p0.Steps != p1.Steps))] hF (by kernel_rfl) fun fr hF => ?_
 refine from_end rfl (then_normal ?_)
 refine (wp_if hF (b := (p0.Steps != p1.Steps)) rfl (fun hb => ?_) (fun hb => ?_))
 · replace h := iteT hb h
   have hs : Sep [] w6 S2 := Sep.pick [] hs (by decide) rfl
   refine wp_seq (wp_pure [(4, .bool false)] hF (by kernel_rfl) fun fr hF => then_normal ?_)
   obtain rfl := Option.some.inj h
   exact wp_ret (then_ret (ret1 rfl hF rfl ⟨_, rfl, rfl, hM0.chg⟩))
 replace h := iteF hb h
 refine (wp_skip (then_normal ?_))
 refine wp_seq ?_
 refine wp_seq (wp_text' ?_)
 refine from_pure 1 [(2, B b1 0), (3, B b2 0), (49, B b1 8)] hF (by kernel_rfl) fun fr hF => ?_
 refine s_loadBox (L a5 p0.Cond c5) ty73 rfl rfl hF rfl (hs.bx 1 rfl) rfl rfl fun fr hF => ?_
 refine from_pure 1 [(2, B b1 0), (3, B b2 0), (50, L a5 p0.Cond c5), (51, B b2 8)] hF (by kernel_rfl) fun fr hF => ?_
 refine s_loadBox (L a11 p1.Cond c11) ty73 rfl rfl hF rfl (hs.bx 0 rfl) rfl rfl fun fr hF => ?_
 obtain ⟨x5, hx5, h⟩ := bindE h
 refine s_call [L a5 p0.Cond c5, L a11 p1.Cond c11] Try.call91 rfl rfl hF rfl (laws_eqTermS__1_ok n p0.Cond p1.Cond hx5 (r5) (r11)) fun v w7 fr hRes hF => ?_
 obtain ⟨rfl, hc⟩ := hRes
 have r5 := r5.ext hc
 have r11 := r11.ext hc
 have r7 := r7.ext hc
 have r8 := r8.ext hc
 have r9 := r9.ext hc
 have r10 := r10.ext hc
 have r12 := r12.ext hc
 have r1 := r1.ext hc
 have r2 := r2.ext hc
 have r3 := r3.ext hc
 have r4 := r4.ext hc
 have r6 := r6.ext hc
 have hs := hs.ext hc
 have hM0 := hM0.ext hc
 refine from_pure 1 [(2, B b1 0), (3, B b2 0), (54, .bool (!x5))] hF (by kernel_rfl) fun fr hF => ?_
 refine from_end rfl (then_normal ?_)
 refine (wp_if hF (b := (!x5)) rfl (fun hb => ?_) (fun hb => ?_))
 · replace h := iteT hb h
   have hs : Sep [] w7 S2 := Sep.pick [] hs (by decide) rfl
   refine wp_seq (wp_pure [(4, .bool false)] hF (by kernel_rfl) fun fr hF => then_normal ?_)
   obtain rfl := Option.some.inj h
   exact wp_ret (then_ret (ret1 rfl hF rfl ⟨_, rfl, rfl, hM0.chg⟩))
 replace h := iteF hb h
 refine (wp_skip (then_normal ?_))
 refine wp_seq ?_
 refine wp_seq (wp_text' ?_)
 refine from_pure 1 [(3, B b2 0), (55, B b1 9)] hF (by kernel_rfl) fun fr hF => ?_
 refine s_loadBox (L a6 p0.Turns c6) ty26 rfl rfl hF rfl (hs.bx 1 rfl) rfl rfl fun fr hF => ?_
 have hs : Sep [BX b2 75 [I p1.Pc, L a7 p1.Regs c7, L a8 p1.Mem c8, L a9 p1.Stack c9, I p1.In, L a10 p1.Out c10, I p1.Code, I p1.Steps, L a11 p1.Cond c11, L a12 p1.Turns c12]] w7 S2 := Sep.pick [0] hs (by decide) rfl
 refine from_pure 1 [(56, L a6 p0.Turns c6), (57, B b2 9)] hF (by kernel_rfl) fun fr hF => ?_
 refine s_loadBox (L a12 p1.Turns c12) ty26 rfl rfl hF rfl (hs.bx 0 rfl) rfl rfl fun fr hF => ?_
 have hs : Sep [] w7 S2 := Sep.pick [] hs (by decide) rfl
 obtain ⟨x6, hx6, h⟩ := bindE h
 refine s_call [L a6 p0.Turns c6, L a12 p1.Turns c12] Try.call15 rfl rfl hF rfl (laws_eqIntS_ok n p0.Turns p1.Turns hx6 (r6) (r12)) fun v w8 fr hRes hF => ?_
 obtain ⟨rfl, hc⟩ := hRes
 have r6 := r6.ext hc
 have r12 := r12.ext hc
 have hs := hs.ext hc
 have hM0 := hM0.ext hc
 refine from_pure 1 [(60, .bool (!x6))] hF (by kernel_rfl) fun fr hF => ?_
 refine from_end rfl (then_normal ?_)
 refine (wp_if hF (b := (!x6)) rfl (fun hb => ?_) (fun hb => ?_))
 · replace h := iteT hb h
   refine wp_seq (wp_pure [(4, .bool false)] hF (by kernel_rfl) fun fr hF => then_normal ?_)
   obtain rfl := Option.some.inj h
   exact wp_ret (then_ret (ret1 rfl hF rfl ⟨_, rfl, rfl, hM0.chg⟩))
 replace h := iteF hb h
 refine (wp_skip (then_normal ?_))
 refine wp_seq (wp_pure [(4, .bool true)] hF (by kernel_rfl) fun fr hF => then_normal ?_)
 obtain rfl := Option.some.inj h
 exact wp_ret (ret1 rfl hF rfl ⟨_, rfl, rfl, hM0.chg⟩)

theorem laws_eqIns_ok (p0 : D.Ins) (p1 : D.Ins) {r : Bool} (h : laws_eqIns p0 p1 = some r) {w : World} :
   Calls Try.prog 111 [.agg #[I p0.Op, I p0.A, I p0.B, I p0.C], .agg #[I p1.Op, I p1.A, I p1.B, I p1.C]].toArray w fun e w' => ∃ v, e = .returned v ∧ v = .bool r ∧ Chg Non w w' := by
 unfold laws_eqIns at h
 have hs := Sep.nil w Non
 have hM0 : Mem w Non (fun k => (False) ∧ k < w.heap.size) w Non (fun k => (False) ∧ k < w.heap.size) := Mem.start (fun _ h => h.elim) (fun _ h => h.2) (fun _ h => h.elim)
 refine enter (N := 25) Try.func111 rfl Try.ntmps111 rfl fun fr hF => ?_
 refine wp_seq (wp_text' ?_)
 refine q_box hs hM0 [I p0.Op, I p0.A, I p0.B, I p0.C] rfl rfl hF rfl rfl fun b1 w1 S1 fr hs hp hF => ?_
 have hM0 := hM0.stp hp
 have hs : Sep [BX b1 90 [I p0.Op, I p0.A, I p0.B, I p0.C]] w1 S1 := hs
 refine q_box hs hM0 [I p1.Op, I p1.A, I p1.B, I p1.C] rfl rfl hF rfl rfl fun b2 w2 S2 fr hs hp hF => ?_
 have hM0 := hM0.stp hp
 have hs : Sep [BX b2 90 [I p1.Op, I p1.A, I p1.B, I p1.C], BX b1 90 [I p0.Op, I p0.A, I p0.B, I p0.C]] w2 S2 := hs
 refine from_pure 1 [(2, B b1 0), (3, B b2 0)] hF (by kernel_rfl) fun fr hF => ?_
 refine from_end rfl (then_normal ?_)
 refine wp_seq ?_
 refine wp_seq (wp_text' ?_)
 refine from_pure 1 [(2, B b1 0), (3, B b2 0), (5, B b1 0)] hF (by kernel_rfl) fun fr hF => ?_
 refine s_loadBox (I p0.Op) ty3 rfl rfl hF rfl (hs.bx 1 rfl) rfl rfl fun fr hF => ?_
 refine from_pure 1 [(2, B b1 0), (3, B b2 0), (6, I p0.Op), (7, B b2 0)] hF (by kernel_rfl) fun fr hF => ?_
 refine s_loadBox (I p1.Op) ty3 rfl rfl hF rfl (hs.bx 0 rfl) rfl rfl fun fr hF => ?_
 refine from_pure 1 [(2, B b1 0), (3, B b2 0), (9, .bool (p0.Op != p1.Op))] hF (by kernel_rfl) fun fr hF => ?_
 refine from_end rfl (then_normal ?_)
 refine (wp_if hF (b := (p0.Op != p1.Op)) rfl (fun hb => ?_) (fun hb => ?_))
 · replace h := iteT hb h
   have hs : Sep [] w2 S2 := Sep.pick [] hs (by decide) rfl
   refine wp_seq (wp_pure [(4, .bool false)] hF (by kernel_rfl) fun fr hF => then_normal ?_)
   obtain rfl := Option.some.inj h
   exact wp_ret (then_ret (ret1 rfl hF rfl ⟨_, rfl, rfl, hM0.chg⟩))
 replace h := iteF hb h
 refine (wp_skip (then_normal ?_))
 refine wp_seq ?_
 refine wp_seq (wp_text' ?_)
 refine from_pure 1 [(2, B b1 0), (3, B b2 0), (10, B b1 1)] hF (by kernel_rfl) fun fr hF => ?_
 refine s_loadBox (I p0.A) ty3 rfl rfl hF rfl (hs.bx 1 rfl) rfl rfl fun fr hF => ?_
 refine from_pure 1 [(2, B b1 0), (3, B b2 0), (11, I p0.A), (12, B b2 1)] hF (by kernel_rfl) fun fr hF => ?_
 refine s_loadBox (I p1.A) ty3 rfl rfl hF rfl (hs.bx 0 rfl) rfl rfl fun fr hF => ?_
 refine from_pure 1 [(2, B b1 0), (3, B b2 0), (14, .bool (p0.A != p1.A))] hF (by kernel_rfl) fun fr hF => ?_
 refine from_end rfl (then_normal ?_)
 refine (wp_if hF (b := (p0.A != p1.A)) rfl (fun hb => ?_) (fun hb => ?_))
 · replace h := iteT hb h
   have hs : Sep [] w2 S2 := Sep.pick [] hs (by decide) rfl
   refine wp_seq (wp_pure [(4, .bool false)] hF (by kernel_rfl) fun fr hF => then_normal ?_)
   obtain rfl := Option.some.inj h
   exact wp_ret (then_ret (ret1 rfl hF rfl ⟨_, rfl, rfl, hM0.chg⟩))
 replace h := iteF hb h
 refine (wp_skip (then_normal ?_))
 refine wp_seq ?_
 refine wp_seq (wp_text' ?_)
 refine from_pure 1 [(2, B b1 0), (3, B b2 0), (15, B b1 2)] hF (by kernel_rfl) fun fr hF => ?_
 refine s_loadBox (I p0.B) ty3 rfl rfl hF rfl (hs.bx 1 rfl) rfl rfl fun fr hF => ?_
 refine from_pure 1 [(2, B b1 0), (3, B b2 0), (16, I p0.B), (17, B b2 2)] hF (by kernel_rfl) fun fr hF => ?_
 refine s_loadBox (I p1.B) ty3 rfl rfl hF rfl (hs.bx 0 rfl) rfl rfl fun fr hF => ?_
 refine from_pure 1 [(2, B b1 0), (3, B b2 0), (19, .bool (p0.B != p1.B))] hF (by kernel_rfl) fun fr hF => ?_
 refine from_end rfl (then_normal ?_)
 refine (wp_if hF (b := (p0.B != p1.B)) rfl (fun hb => ?_) (fun hb => ?_))
 · replace h := iteT hb h
   have hs : Sep [] w2 S2 := Sep.pick [] hs (by decide) rfl
   refine wp_seq (wp_pure [(4, .bool false)] hF (by kernel_rfl) fun fr hF => then_normal ?_)
   obtain rfl := Option.some.inj h
   exact wp_ret (then_ret (ret1 rfl hF rfl ⟨_, rfl, rfl, hM0.chg⟩))
 replace h := iteF hb h
 refine (wp_skip (then_normal ?_))
 refine wp_seq ?_
 refine wp_seq (wp_text' ?_)
 refine from_pure 1 [(3, B b2 0), (20, B b1 3)] hF (by kernel_rfl) fun fr hF => ?_
 refine s_loadBox (I p0.C) ty3 rfl rfl hF rfl (hs.bx 1 rfl) rfl rfl fun fr hF => ?_
 have hs : Sep [BX b2 90 [I p1.Op, I p1.A, I p1.B, I p1.C]] w2 S2 := Sep.pick [0] hs (by decide) rfl
 refine from_pure 1 [(21, I p0.C), (22, B b2 3)] hF (by kernel_rfl) fun fr hF => ?_
 refine s_loadBox (I p1.C) ty3 rfl rfl hF rfl (hs.bx 0 rfl) rfl rfl fun fr hF => ?_
 have hs : Sep [] w2 S2 := Sep.pick [] hs (by decide) rfl
 refine from_pure 1 [(24, .bool (p0.C != p1.C))] hF (by kernel_rfl) fun fr hF => ?_
 refine from_end rfl (then_normal ?_)
 refine (wp_if hF (b := (p0.C != p1.C)) rfl (fun hb => ?_) (fun hb => ?_))
 · replace h := iteT hb h
   refine wp_seq (wp_pure [(4, .bool false)] hF (by kernel_rfl) fun fr hF => then_normal ?_)
   obtain rfl := Option.some.inj h
   exact wp_ret (then_ret (ret1 rfl hF rfl ⟨_, rfl, rfl, hM0.chg⟩))
 replace h := iteF hb h
 refine (wp_skip (then_normal ?_))
 refine wp_seq (wp_pure [(4, .bool true)] hF (by kernel_rfl) fun fr hF => then_normal ?_)
 obtain rfl := Option.some.inj h
 exact wp_ret (ret1 rfl hF rfl ⟨_, rfl, rfl, hM0.chg⟩)

theorem laws_eqInsS_ok (n : Nat) (p0 : List D.Ins) (p1 : List D.Ins) {r : Bool} (h : laws_eqInsS n p0 p1 = some r) {w : World} {G0 : Nat → Prop} {va0 : Value} (ra0 : RV w G0 va0 p0) {G1 : Nat → Prop} {va1 : Value} (ra1 : RV w G1 va1 p1) :
   Calls Try.prog 62 [va0, va1].toArray w fun e w' => ∃ v, e = .returned v ∧ v = .bool r ∧ Chg Non w w' := by
 unfold laws_eqInsS at h
 have hs := Sep.nil w Non
 have hM0 : Mem w Non (fun k => (G0 k ∨ G1 k) ∧ k < w.heap.size) w Non (fun k => (G0 k ∨ G1 k) ∧ k < w.heap.size) := Mem.start (fun _ h => h.elim) (fun _ h => h.2) (fun _ h => h.elim)
 have ra0 := ra0.sub (F' := (fun k => (G0 k ∨ G1 k) ∧ k < w.heap.size)) (fun k hk h => ⟨.inl h, hk⟩)
 obtain ⟨a1, c1, rfl, -⟩ := ra0.slice
 have ra1 := ra1.sub (F' := (fun k => (G0 k ∨ G1 k) ∧ k < w.heap.size)) (fun k hk h => ⟨.inr (h), hk⟩)
 obtain ⟨a2, c2, rfl, -⟩ := ra1.slice
 refine enter (N := 27) Try.func62 rfl Try.ntmps62 rfl fun fr hF => ?_
 refine wp_seq (wp_pure [(0, L a1 p0 c1), (1, L a2 p1 c2)] hF (by kernel_rfl) fun fr hF => then_normal ?_)
 refine wp_seq ?_
 refine wp_seq (wp_pure [(0, L a1 p0 c1), (1, L a2 p1 c2), (10, .bool ((len p0) != (len p1)))] hF (by kernel_rfl) fun fr hF => then_normal ?_)
 refine (wp_if hF (b := ((len p0) != (len p1))) rfl (fun hb => ?_) (fun hb => ?_))
 · replace h := iteT hb h
   refine wp_seq (wp_pure [(4, .bool false)] hF (by kernel_rfl) fun fr hF => then_normal ?_)
   obtain rfl := Option.some.inj h
   exact wp_ret (then_ret (ret1 rfl hF rfl ⟨_, rfl, rfl, hM0.chg⟩))
 replace h := iteF hb h
 refine (wp_skip (then_normal ?_))
 refine wp_seq ?_
 refine wp_seq (wp_pure [(0, L a1 p0 c1), (1, L a2 p1 c2), (5, I 0)] hF (by kernel_rfl) fun fr hF => then_normal ?_)
 obtain ⟨rl1, hit1, h⟩ := bindE h
 have hk1 := h
 refine (GL.wp_cut (M := fun fr w' => ∃ s, rl1 = .inl s ∧ ∃ S2 F2, FrS 27 [] fr ∧ Mem w Non (fun k => (G0 k ∨ G1 k) ∧ k < w.heap.size) w' S2 F2 ∧ Sep [] w' S2) (wp_block (wp_iter (Inv := fun s1 fr w' => ∃ S1 F1, FrS 27 [(0, L a1 p0 c1), (1, L a2 p1 c2), (5, I s1)] fr ∧ Mem w Non (fun k => (G0 k ∨ G1 k) ∧ k < w.heap.size) w' S1 F1 ∧ Sep [] w' S1) hit1 ⟨Non, _, hF.sub _ (by kernel_rfl), (Mem.start hM0.bd hM0.bdF hM0.dj), hs⟩ fun s1 q1 fr w1i hI h hr1 => ?_)) fun fr w1o hM => ?_)
 · obtain ⟨S1, F1, hF, hM1, hs⟩ := hI
   have ra0 := ra0.mem hM1
   have ra1 := ra1.mem hM1
   refine wp_seq ?_
   refine wp_seq (wp_pure [(0, L a1 p0 c1), (1, L a2 p1 c2), (5, I s1), (14, .bool (decide (s1 < (len p0))))] hF (by kernel_rfl) fun fr hF => then_normal ?_)
   refine (wp_if hF (b := (decide (s1 < (len p0)))) rfl (fun hb => ?_) (fun hb => ?_))
   · replace h := iteT hb h
     refine (wp_skip (then_normal ?_))
     refine wp_seq (wp_block ?_)
     obtain ⟨x1, hx1, h⟩ := bindE h
     obtain ⟨x2, hx2, h⟩ := bindE h
     obtain ⟨x3, hx3, h⟩ := bindE h
     refine wp_seq (region_bm 10 [0, 0, 3, 7, 0, 0, 48, 112, 255, 511] [true, true, false, false, true, true, false, false, false, true]
         [.eq (L a1 p0 c1), .eq (I s1), .is fun v w => ElemP w (fun k => k < w1i.heap.size) v (x1 : D.Ins), .eq (.agg #[I x1.Op, I x1.A, I x1.B, I x1.C]), .eq (L a2 p1 c2), .eq (I s1), .is fun v w => ElemP w (fun k => k < w1i.heap.size) v (x2 : D.Ins), .eq (.agg #[I x2.Op, I x2.A, I x2.B, I x2.C]), .eq (.bool x3), .eq (.bool (!x3))]
         [(0, L a1 p0 c1), (1, L a2 p1 c2), (5, I s1), (26, .bool (!x3))] mix hF (by kernel_rfl) (by kernel_rfl) (by kernel_rfl) (by kernel_rfl) ⟨(Pd.monoO_is mono_elem), Pd.monoO_eq, (Pd.monoO_is mono_elem), Pd.monoO_eq, Pd.monoO_eq, trivial⟩ (fun ow hG => ⟨np_to ow (np_index hG hF ty90 Try.underlying28 rfl rfl (RV.sub (ra0) fun k hk _ => hk) rfl rfl (fun hg => ⟨get?_nn hx1, get?_at hx1⟩)), np_to ow (np_loadF (z := x1) (i := 2) hG hF ty90 rfl rfl rfl rfl rfl rfl rfl), np_to ow (np_index hG hF ty90 Try.underlying28 rfl rfl (RV.sub (ra1) fun k hk _ => hk) rfl rfl (fun hg => ⟨get?_nn hx2, get?_at hx2⟩)), np_to ow (np_loadF (z := x2) (i := 6) hG hF ty90 rfl rfl rfl rfl rfl rfl rfl), np_to ow (np_call [.agg #[I x1.Op, I x1.A, I x1.B, I x1.C], .agg #[I x2.Op, I x2.A, I x2.B, I x2.C]] hG hF Try.call111 rfl rfl (fun w hC hg => (laws_eqIns_ok x1 x2 hx3).mono fun e w' ⟨v, he, hv, hc⟩ => ⟨v, he, hc, hv⟩)), trivial⟩) (by kernel_rfl) fun ow fr w1 hF hE hc => ?_)
     have ra0 := ra0.ext hc
     have ra1 := ra1.ext hc
     have hs := hs.ext hc
     have hM1 := hM1.ext hc
     refine from_end rfl (then_normal ?_)
     refine (wp_if hF (b := (!x3)) rfl (fun hb => ?_) (fun hb => ?_))
     · replace h := iteT hb h
       refine wp_seq (wp_pure [(4, .bool false)] hF (by kernel_rfl) fun fr hF => then_normal ?_)
       obtain rfl := hr1 _ (Option.some.inj h).symm
       obtain rfl := Option.some.inj hk1
       exact wp_ret (blk_ret (then_ret (then_ret (blk_ret (then_ret (ret1 rfl hF rfl ⟨_, rfl, rfl, (hM0.trans hM1).chg⟩))))))
     replace h := iteF hb h
     refine (wp_skip ?_)
     refine blk_normal (then_normal ?_)
     refine (wp_pure [(0, L a1 p0 c1), (1, L a2 p1 c2), (5, I (w64 (s1 + 1)))] hF (by kernel_rfl) fun fr hF => then_normal ?_)
     exact ⟨_, (Option.some.inj h).symm, S1, _, hF.sub _ (by kernel_rfl), hM1, hs⟩
   replace h := iteF hb h
   refine (wp_exit (then_exit (then_exit (blk_exit_eq ?_))))
   obtain rfl := hr1 _ (Option.some.inj h).symm
   exact then_normal ⟨_, rfl, S1, _, hF.sub _ (by kernel_rfl), hM1, hs⟩
 · obtain ⟨s1r, rfl, hM⟩ := hM
   obtain ⟨S2, F2, hF, hMx, hs⟩ := hM
   have hM0 := hM0.trans hMx
   refine wp_seq (wp_pure [(4, .bool true)] hF (by kernel_rfl) fun fr hF => then_normal ?_)
   obtain rfl := Option.some.inj h
   exact wp_ret (ret1 rfl hF rfl ⟨_, rfl, rfl, hM0.chg⟩)

theorem laws_eqProgram_ok (n : Nat) (p0 : D.Program) (p1 : D.Program) {r : Bool} (h : laws_eqProgram n p0 p1 = some r) {w : World} {G0 : Nat → Prop} {va0 : Value} (ra0 : RV w G0 va0 p0) {G1 : Nat → Prop} {va1 : Value} (ra1 : RV w G1 va1 p1) :
   Calls Try.prog 16 [va0, va1].toArray w fun e w' => ∃ v, e = .returned v ∧ v = .bool r ∧ Chg Non w w' := by
 unfold laws_eqProgram at h
 have hs := Sep.nil w Non
 have hM0 : Mem w Non (fun k => (G0 k ∨ G1 k) ∧ k < w.heap.size) w Non (fun k => (G0 k ∨ G1 k) ∧ k < w.heap.size) := Mem.start (fun _ h => h.elim) (fun _ h => h.2) (fun _ h => h.elim)
 have ra0 := ra0.sub (F' := (fun k => (G0 k ∨ G1 k) ∧ k < w.heap.size)) (fun k hk h => ⟨.inl h, hk⟩)
 obtain ⟨v1, rfl, r1⟩ := RV.Program ra0
 obtain ⟨a1, c1, rfl, -⟩ := r1.slice
 have ra1 := ra1.sub (F' := (fun k => (G0 k ∨ G1 k) ∧ k < w.heap.size)) (fun k hk h => ⟨.inr (h), hk⟩)
 obtain ⟨v2, rfl, r2⟩ := RV.Program ra1
 obtain ⟨a2, c2, rfl, -⟩ := r2.slice
 refine enter (N := 26) Try.func16 rfl Try.ntmps16 rfl fun fr hF => ?_
 refine wp_seq (wp_text' ?_)
 refine q_box hs hM0 [I p0.W, I p0.Mem, I p0.In, L a1 p0.Code c1] rfl rfl hF rfl rfl fun b1 w1 S1 fr hs hp hF => ?_
 have r1 := r1.stp hM0 hp
 have r2 := r2.stp hM0 hp
 have hM0 := hM0.stp hp
 have hs : Sep [BX b1 30 [I p0.W, I p0.Mem, I p0.In, L a1 p0.Code c1]] w1 S1 := hs
 refine q_box hs hM0 [I p1.W, I p1.Mem, I p1.In, L a2 p1.Code c2] rfl rfl hF rfl rfl fun b2 w2 S2 fr hs hp hF => ?_
 have r2 := r2.stp hM0 hp
 have r1 := r1.stp hM0 hp
 have hM0 := hM0.stp hp
 have hs : Sep [BX b2 30 [I p1.W, I p1.Mem, I p1.In, L a2 p1.Code c2], BX b1 30 [I p0.W, I p0.Mem, I p0.In, L a1 p0.Code c1]] w2 S2 := hs
 refine from_pure 1 [(2, B b1 0), (3, B b2 0)] hF (by kernel_rfl) fun fr hF => ?_
 refine from_end rfl (then_normal ?_)
 refine wp_seq ?_
 refine wp_seq (wp_text' ?_)
 refine from_pure 1 [(2, B b1 0), (3, B b2 0), (5, B b1 0)] hF (by kernel_rfl) fun fr hF => ?_
 refine s_loadBox (I p0.W) ty3 rfl rfl hF rfl (hs.bx 1 rfl) rfl rfl fun fr hF => ?_
 refine from_pure 1 [(2, B b1 0), (3, B b2 0), (6, I p0.W), (7, B b2 0)] hF (by kernel_rfl) fun fr hF => ?_
 refine s_loadBox (I p1.W) ty3 rfl rfl hF rfl (hs.bx 0 rfl) rfl rfl fun fr hF => ?_
 refine from_pure 1 [(2, B b1 0), (3, B b2 0), (9, .bool (p0.W != p1.W))] hF (by kernel_rfl) fun fr hF => ?_
 refine from_end rfl (then_normal ?_)
 refine (wp_if hF (b := (p0.W != p1.W)) rfl (fun hb => ?_) (fun hb => ?_))
 · replace h := iteT hb h
   have hs : Sep [] w2 S2 := Sep.pick [] hs (by decide) rfl
   refine wp_seq (wp_pure [(4, .bool false)] hF (by kernel_rfl) fun fr hF => then_normal ?_)
   obtain rfl := Option.some.inj h
   exact wp_ret (then_ret (ret1 rfl hF rfl ⟨_, rfl, rfl, hM0.chg⟩))
 replace h := iteF hb h
 refine (wp_skip (then_normal ?_))
 refine wp_seq ?_
 refine wp_seq (wp_text' ?_)
 refine from_pure 1 [(2, B b1 0), (3, B b2 0), (10, B b1 1)] hF (by kernel_rfl) fun fr hF => ?_
 refine s_loadBox (I p0.Mem) ty3 rfl rfl hF rfl (hs.bx 1 rfl) rfl rfl fun fr hF => ?_
 refine from_pure 1 [(2, B b1 0), (3, B b2 0), (11, I p0.Mem), (12, B b2 1)] hF (by kernel_rfl) fun fr hF => ?_
 refine s_loadBox (I p1.Mem) ty3 rfl rfl hF rfl (hs.bx 0 rfl) rfl rfl fun fr hF => ?_
 refine from_pure 1 [(2, B b1 0), (3, B b2 0), (14, .bool (p0.Mem != p1.Mem))] hF (by kernel_rfl) fun fr hF => ?_
 refine from_end rfl (then_normal ?_)
 refine (wp_if hF (b := (p0.Mem != p1.Mem)) rfl (fun hb => ?_) (fun hb => ?_))
 · replace h := iteT hb h
   have hs : Sep [] w2 S2 := Sep.pick [] hs (by decide) rfl
   refine wp_seq (wp_pure [(4, .bool false)] hF (by kernel_rfl) fun fr hF => then_normal ?_)
   obtain rfl := Option.some.inj h
   exact wp_ret (then_ret (ret1 rfl hF rfl ⟨_, rfl, rfl, hM0.chg⟩))
 replace h := iteF hb h
 refine (wp_skip (then_normal ?_))
 refine wp_seq ?_
 refine wp_seq (wp_text' ?_)
 refine from_pure 1 [(2, B b1 0), (3, B b2 0), (15, B b1 2)] hF (by kernel_rfl) fun fr hF => ?_
 refine s_loadBox (I p0.In) ty3 rfl rfl hF rfl (hs.bx 1 rfl) rfl rfl fun fr hF => ?_
 refine from_pure 1 [(2, B b1 0), (3, B b2 0), (16, I p0.In), (17, B b2 2)] hF (by kernel_rfl) fun fr hF => ?_
 refine s_loadBox (I p1.In) ty3 rfl rfl hF rfl (hs.bx 0 rfl) rfl rfl fun fr hF => ?_
 refine from_pure 1 [(2, B b1 0), (3, B b2 0), (19, .bool (p0.In != p1.In))] hF (by kernel_rfl) fun fr hF => ?_
 refine from_end rfl (then_normal ?_)
 refine (wp_if hF (b := (p0.In != p1.In)) rfl (fun hb => ?_) (fun hb => ?_))
 · replace h := iteT hb h
   have hs : Sep [] w2 S2 := Sep.pick [] hs (by decide) rfl
   refine wp_seq (wp_pure [(4, .bool false)] hF (by kernel_rfl) fun fr hF => then_normal ?_)
   obtain rfl := Option.some.inj h
   exact wp_ret (then_ret (ret1 rfl hF rfl ⟨_, rfl, rfl, hM0.chg⟩))
 replace h := iteF hb h
 refine (wp_skip (then_normal ?_))
 refine wp_seq ?_
 refine wp_seq (wp_text' ?_)
 refine from_pure 1 [(3, B b2 0), (20, B b1 3)] hF (by kernel_rfl) fun fr hF => ?_
 refine s_loadBox (L a1 p0.Code c1) ty28 rfl rfl hF rfl (hs.bx 1 rfl) rfl rfl fun fr hF => ?_
 have hs : Sep [BX b2 30 [I p1.W, I p1.Mem, I p1.In, L a2 p1.Code c2]] w2 S2 := Sep.pick [0] hs (by decide) rfl
 refine from_pure 1 [(21, L a1 p0.Code c1), (22, B b2 3)] hF (by kernel_rfl) fun fr hF => ?_
 refine s_loadBox (L a2 p1.Code c2) ty28 rfl rfl hF rfl (hs.bx 0 rfl) rfl rfl fun fr hF => ?_
 have hs : Sep [] w2 S2 := Sep.pick [] hs (by decide) rfl
 obtain ⟨x1, hx1, h⟩ := bindE h
 refine s_call [L a1 p0.Code c1, L a2 p1.Code c2] Try.call62 rfl rfl hF rfl (laws_eqInsS_ok n p0.Code p1.Code hx1 (r1) (r2)) fun v w3 fr hRes hF => ?_
 obtain ⟨rfl, hc⟩ := hRes
 have r1 := r1.ext hc
 have r2 := r2.ext hc
 have hs := hs.ext hc
 have hM0 := hM0.ext hc
 refine from_pure 1 [(25, .bool (!x1))] hF (by kernel_rfl) fun fr hF => ?_
 refine from_end rfl (then_normal ?_)
 refine (wp_if hF (b := (!x1)) rfl (fun hb => ?_) (fun hb => ?_))
 · replace h := iteT hb h
   refine wp_seq (wp_pure [(4, .bool false)] hF (by kernel_rfl) fun fr hF => then_normal ?_)
   obtain rfl := Option.some.inj h
   exact wp_ret (then_ret (ret1 rfl hF rfl ⟨_, rfl, rfl, hM0.chg⟩))
 replace h := iteF hb h
 refine (wp_skip (then_normal ?_))
 refine wp_seq (wp_pure [(4, .bool true)] hF (by kernel_rfl) fun fr hF => then_normal ?_)
 obtain rfl := Option.some.inj h
 exact wp_ret (ret1 rfl hF rfl ⟨_, rfl, rfl, hM0.chg⟩)

theorem laws_markInsS_ok (n : Nat) (p0 : List D.Ins) (p1 : Int) {r : Int × (List D.Ins)} (h : laws_markInsS n p0 p1 = some r) {w : World} {S0 F0 : Nat → Prop} {pa0 : Option Addr} {pn0 pc0 : Nat} (hs : Sep [sl90 (.slice pa0 pn0 pc0) p0] w S0) (hb : ∀ k, S0 k → k < w.heap.size) (hd : ∀ k, S0 k → F0 k → False) :
   Calls Try.prog 63 [.slice pa0 pn0 pc0, I p1].toArray w fun e w' => ∃ v, e = .returned v ∧ v = I r.1 ∧ ∃ S', Stp w S0 w' S' ∧ Sep [sl90 (.slice pa0 pn0 pc0) r.2] w' S' := by
 unfold laws_markInsS at h
 obtain ⟨hpn, hs⟩ := hs.relen 0 rfl
 subst hpn
 have hs : Sep [sl90 (L pa0 p0 pc0) p0] w S0 := hs
 have hM0 : Mem w S0 (fun k => F0 k ∧ k < w.heap.size) w S0 (fun k => F0 k ∧ k < w.heap.size) := Mem.start hb (fun _ h => h.2) (fun k h1 h2 => hd k h1 h2.1)
 refine enter (N := 41) Try.func63 rfl Try.ntmps63 rfl fun fr hF => ?_
 refine wp_seq (wp_pure [(0, L pa0 p0 pc0), (1, I p1)] hF (by kernel_rfl) fun fr hF => then_normal ?_)
 refine wp_seq ?_
 refine wp_seq (wp_pure [(0, L pa0 p0 pc0), (1, I p1), (5, I 0)] hF (by kernel_rfl) fun fr hF => then_normal ?_)
 obtain ⟨rl1, hit1, h⟩ := bindE h
 have hk1 := h
 refine (GL.wp_cut (M := fun fr w' => ∃ S2 F2, FrS 41 [(1, I rl1.1)] fr ∧ Mem w S0 (fun k => F0 k ∧ k < w.heap.size) w' S2 F2 ∧ Sep [sl90 (L pa0 p0 pc0) rl1.2] w' S2) (wp_block (wp_iter (Inv := fun s1 fr w' => ∃ S1 F1, FrS 41 [(0, L pa0 p0 pc0), (1, I s1.1), (5, I s1.2.1)] fr ∧ Mem w S0 (fun k => F0 k ∧ k < w.heap.size) w' S1 F1 ∧ Sep [sl90 (L pa0 p0 pc0) s1.2.2] w' S1) hit1 ⟨S0, _, hF.sub _ (by kernel_rfl), (Mem.start hM0.bd hM0.bdF hM0.dj), hs⟩ fun s1 q1 fr w1i hI h hr1 => ?_)) fun fr w1o hM => ?_)
 · obtain ⟨S1, F1, hF, hM1, hs⟩ := hI
   refine wp_seq ?_
   refine wp_seq (wp_pure [(0, L pa0 p0 pc0), (1, I s1.1), (5, I s1.2.1), (9, .bool (decide (s1.2.1 < (len p0))))] hF (by kernel_rfl) fun fr hF => then_normal ?_)
   refine (wp_if hF (b := (decide (s1.2.1 < (len p0)))) rfl (fun hb => ?_) (fun hb => ?_))
   · replace h := iteT hb h
     refine (wp_skip (then_normal ?_))
     refine wp_seq (wp_block ?_)
     refine wp_seq (wp_text' ?_)
     refine from_pure 3 [(0, L pa0 p0 pc0), (1, I s1.1), (5, I s1.2.1), (12, L pa0 p0 pc0), (13, I s1.2.1), (14, I s1.1)] hF (by kernel_rfl) fun fr hF => ?_
     obtain ⟨x1, hx1, h⟩ := bindE h
     obtain ⟨x2, hx2, h⟩ := bindE h
     refine q_setField (q := x1) (q' := ({ x1 with Op := s1.1 } : D.Ins)) (off := 0) 0 hs hM1 rfl Try.underlying28 ty90 rfl rfl rfl rfl rfl hF rfl rfl rfl rfl (by kernel_rfl) rfl (by kernel_rfl) rfl hx1 rfl hx2 fun w1 S3 fr _ _ hs hp hF => ?_
     have hM1 := hM1.stp hp
     have hs : Sep [sl90 (L pa0 p0 pc0) x2] w1 S3 := hs
     refine from_end rfl (then_normal ?_)
     refine wp_seq (wp_pure [(0, L pa0 p0 pc0), (1, I (w64 (s1.1 + 1))), (5, I s1.2.1)] hF (by kernel_rfl) fun fr hF => then_normal ?_)
     refine wp_seq (wp_text' ?_)
     refine from_pure 3 [(0, L pa0 p0 pc0), (1, I (w64 (s1.1 + 1))), (5, I s1.2.1), (19, L pa0 p0 pc0), (20, I s1.2.1), (21, I (w64 (s1.1 + 1)))] hF (by kernel_rfl) fun fr hF => ?_
     obtain ⟨x3, hx3, h⟩ := bindE h
     obtain ⟨x4, hx4, h⟩ := bindE h
     refine q_setField (q := x3) (q' := ({ x3 with A := (w64 (s1.1 + 1)) } : D.Ins)) (off := 1) 0 hs hM1 rfl Try.underlying28 ty90 rfl rfl rfl rfl rfl hF rfl rfl rfl rfl (by kernel_rfl) rfl (by kernel_rfl) rfl hx3 rfl hx4 fun w2 S4 fr _ _ hs hp hF => ?_
     have hM1 := hM1.stp hp
     have hs : Sep [sl90 (L pa0 p0 pc0) x4] w2 S4 := hs
     refine from_end rfl (then_normal ?_)
     refine wp_seq (wp_pure [(0, L pa0 p0 pc0), (1, I (w64 ((w64 (s1.1 + 1)) + 1))), (5, I s1.2.1)] hF (by kernel_rfl) fun fr hF => then_normal ?_)
     refine wp_seq (wp_text' ?_)
     refine from_pure 3 [(0, L pa0 p0 pc0), (1, I (w64 ((w64 (s1.1 + 1)) + 1))), (5, I s1.2.1), (26, L pa0 p0 pc0), (27, I s1.2.1), (28, I (w64 ((w64 (s1.1 + 1)) + 1)))] hF (by kernel_rfl) fun fr hF => ?_
     obtain ⟨x5, hx5, h⟩ := bindE h
     obtain ⟨x6, hx6, h⟩ := bindE h
     refine q_setField (q := x5) (q' := ({ x5 with B := (w64 ((w64 (s1.1 + 1)) + 1)) } : D.Ins)) (off := 2) 0 hs hM1 rfl Try.underlying28 ty90 rfl rfl rfl rfl rfl hF rfl rfl rfl rfl (by kernel_rfl) rfl (by kernel_rfl) rfl hx5 rfl hx6 fun w3 S5 fr _ _ hs hp hF => ?_
     have hM1 := hM1.stp hp
     have hs : Sep [sl90 (L pa0 p0 pc0) x6] w3 S5 := hs
     refine from_end rfl (then_normal ?_)
     refine wp_seq (wp_pure [(0, L pa0 p0 pc0), (1, I (w64 ((w64 ((w64 (s1.1 + 1)) + 1)) + 1))), (5, I s1.2.1)] hF (by kernel_rfl) fun fr hF => then_normal ?_)
     refine wp_seq (wp_text' ?_)
     refine from_pure 3 [(0, L pa0 p0 pc0), (1, I (w64 ((w64 ((w64 (s1.1 + 1)) + 1)) + 1))), (5, I s1.2.1), (33, L pa0 p0 pc0), (34, I s1.2.1), (35, I (w64 ((w64 ((w64 (s1.1 + 1)) + 1)) + 1)))] hF (by kernel_rfl) fun fr hF => ?_
     obtain ⟨x7, hx7, h⟩ := bindE h
     obtain ⟨x8, hx8, h⟩ := bindE h
     refine q_setField (q := x7) (q' := ({ x7 with C := (w64 ((w64 ((w64 (s1.1 + 1)) + 1)) + 1)) } : D.Ins)) (off := 3) 0 hs hM1 rfl Try.underlying28 ty90 rfl rfl rfl rfl rfl hF rfl rfl rfl rfl (by kernel_rfl) rfl (by kernel_rfl) rfl hx7 rfl hx8 fun w4 S6 fr _ _ hs hp hF => ?_
     have hM1 := hM1.stp hp
     have hs : Sep [sl90 (L pa0 p0 pc0) x8] w4 S6 := hs
     refine from_end rfl (then_normal ?_)
     refine (wp_pure [(0, L pa0 p0 pc0), (1, I (w64 ((w64 ((w64 ((w64 (s1.1 + 1)) + 1)) + 1)) + 1))), (5, I s1.2.1)] hF (by kernel_rfl) fun fr hF => ?_)
     refine blk_normal (then_normal ?_)
     refine (wp_pure [(0, L pa0 p0 pc0), (1, I (w64 ((w64 ((w64 ((w64 (s1.1 + 1)) + 1)) + 1)) + 1))), (5, I (w64 (s1.2.1 + 1)))] hF (by kernel_rfl) fun fr hF => then_normal ?_)
     exact ⟨_, (Option.some.inj h).symm, S6, _, hF.sub _ (by kernel_rfl), hM1, hs⟩
   replace h := iteF hb h
   refine (wp_exit (then_exit (then_exit (blk_exit_eq ?_))))
   obtain rfl := hr1 _ (Option.some.inj h).symm
   exact then_normal ⟨S1, _, hF.sub _ (by kernel_rfl), hM1, hs⟩
 · obtain ⟨S2, F2, hF, hMx, hs⟩ := hM
   have hM0 := hM0.trans hMx
   refine wp_seq (wp_pure [(4, I rl1.1)] hF (by kernel_rfl) fun fr hF => then_normal ?_)
   obtain rfl := Option.some.inj h
   exact wp_ret (ret1 rfl hF rfl ⟨_, rfl, rfl, S2, hM0.out, hs⟩)

theorem laws_markProgram_ok (n : Nat) (p0 : D.Program) (p1 : Int) {r : Int × D.Program} (h : laws_markProgram n p0 p1 = some r) {w : World} {S0 F0 : Nat → Prop} {pa0 : Option Addr} {pn0 pc0 : Nat} (hs : Sep [sl90 (.slice pa0 pn0 pc0) p0.Code] w S0) (hb : ∀ k, S0 k → k < w.heap.size) (hd : ∀ k, S0 k → F0 k → False) :
   Calls Try.prog 17 [.agg #[I p0.W, I p0.Mem, I p0.In, .slice pa0 pn0 pc0], I p1].toArray w fun e w' => ∃ v, e = .returned v ∧ v = I r.1 ∧ ∃ S', Stp w S0 w' S' ∧ Sep [sl90 (.slice pa0 pn0 pc0) r.2.Code] w' S' := by
 unfold laws_markProgram at h
 obtain ⟨hpn, hs⟩ := hs.relen 0 rfl
 subst hpn
 have hs : Sep [sl90 (L pa0 p0.Code pc0) p0.Code] w S0 := hs
 have hM0 : Mem w S0 (fun k => F0 k ∧ k < w.heap.size) w S0 (fun k => F0 k ∧ k < w.heap.size) := Mem.start hb (fun _ h => h.2) (fun k h1 h2 => hd k h1 h2.1)
 refine enter (N := 10) Try.func17 rfl Try.ntmps17 rfl fun fr hF => ?_
 refine wp_seq (wp_text' ?_)
 refine q_box hs hM0 [I p0.W, I p0.Mem, I p0.In, L pa0 p0.Code pc0] rfl rfl hF rfl rfl fun b1 w1 S1 fr hs hp hF => ?_
 have hM0 := hM0.stp hp
 have hs : Sep [BX b1 30 [I p0.W, I p0.Mem, I p0.In, L pa0 p0.Code pc0], sl90 (L pa0 p0.Code pc0) p0.Code] w1 S1 := hs
 refine from_pure 1 [(1, I p1), (2, B b1 0)] hF (by kernel_rfl) fun fr hF => ?_
 refine from_end rfl (then_normal ?_)
 refine wp_seq (wp_text' ?_)
 refine from_pure 1 [(1, I p1), (5, B b1 3)] hF (by kernel_rfl) fun fr hF => ?_
 refine s_loadBox (L pa0 p0.Code pc0) ty28 rfl rfl hF rfl (hs.bx 0 rfl) rfl rfl fun fr hF => ?_
 have hs : Sep [sl90 (L pa0 p0.Code pc0) p0.Code] w1 S1 := Sep.pick [1] hs (by decide) rfl
 refine from_pure 1 [(6, L pa0 p0.Code pc0), (7, I p1)] hF (by kernel_rfl) fun fr hF => ?_
 obtain ⟨x1, hx1, h⟩ := bindE h
 obtain ⟨A1, R1, hsA, hsR, hdA, hbA, hup⟩ := Sep.call (L1 := [sl90 (L pa0 p0.Code pc0) p0.Code]) (L2 := []) hs hM0
 refine s_call [L pa0 p0.Code pc0, I p1] Try.call63 rfl rfl hF rfl (laws_markInsS_ok n p0.Code p1 hx1 hsA hbA hdA) fun v w2 fr hRes hF => ?_
 obtain ⟨rfl, _, hp, hs⟩ := hRes
 obtain ⟨S2, hp, hs⟩ := hup hp hs
 have hM0 := hM0.stp hp
 have hs : Sep [sl90 (L pa0 p0.Code pc0) x1.2] w2 S2 := hs
 refine from_pure 1 [(1, I x1.1)] hF (by kernel_rfl) fun fr hF => ?_
 refine from_end rfl (then_normal ?_)
 refine wp_seq (wp_pure [(4, I x1.1)] hF (by kernel_rfl) fun fr hF => then_normal ?_)
 obtain rfl := Option.some.inj h
 exact wp_ret (ret1 rfl hF rfl ⟨_, rfl, rfl, S2, hM0.out, hs⟩)

theorem laws_markText_ok (n : Nat) (p0 : Int) {r : Str} (h : laws_markText n p0 = some r) {w : World} :
   Calls Try.prog 131 [I p0].toArray w fun e w' => ∃ v, e = .returned v ∧ v = Str.val r ∧ Chg Non w w' := by
 unfold laws_markText at h
 have hs := Sep.nil w Non
 have hM0 : Mem w Non (fun k => (False) ∧ k < w.heap.size) w Non (fun k => (False) ∧ k < w.heap.size) := Mem.start (fun _ h => h.elim) (fun _ h => h.2) (fun _ h => h.elim)
 refine enter (N := 20) Try.func131 rfl Try.ntmps131 rfl fun fr hF => ?_
 refine wp_seq (wp_pure [(0, I p0)] hF (by kernel_rfl) fun fr hF => then_normal ?_)
 refine wp_seq ?_
 refine wp_seq (wp_pure [(0, I p0), (5, .bool (decide (p0 ≤ 0)))] hF (by kernel_rfl) fun fr hF => then_normal ?_)
 refine (wp_if hF (b := (decide (p0 ≤ 0))) rfl (fun hb => ?_) (fun hb => ?_))
 · replace h := iteT hb h
   refine wp_seq (wp_pure [(2, Str.val (⟨[109, 48]⟩))] hF (by kernel_rfl) fun fr hF => then_normal ?_)
   obtain rfl := Option.some.inj h
   exact wp_ret (then_ret (ret1 rfl hF rfl ⟨_, rfl, rfl, hM0.chg⟩))
 replace h := iteF hb h
 refine (wp_skip (then_normal ?_))
 refine wp_seq (wp_pure [(0, I p0), (3, Str.val (⟨[]⟩))] hF (by kernel_rfl) fun fr hF => then_normal ?_)
 obtain ⟨rl1, hit1, h⟩ := bindE h
 have hk1 := h
 refine wp_seq (GL.wp_cut (M := fun fr w' => ∃ S2 F2, FrS 20 [(3, Str.val rl1)] fr ∧ Mem w Non (fun k => (False) ∧ k < w.heap.size) w' S2 F2 ∧ Sep [] w' S2) (wp_block (wp_iter (Inv := fun s1 fr w' => ∃ S1 F1, FrS 20 [(0, I s1.1), (3, Str.val s1.2)] fr ∧ Mem w Non (fun k => (False) ∧ k < w.heap.size) w' S1 F1 ∧ Sep [] w' S1) hit1 ⟨Non, _, hF.sub _ (by kernel_rfl), (Mem.start hM0.bd hM0.bdF hM0.dj), hs⟩ fun s1 q1 fr w1i hI h hr1 => ?_)) fun fr w1o hM => ?_)
 · obtain ⟨S1, F1, hF, hM1, hs⟩ := hI
   refine wp_seq ?_
   refine wp_seq (wp_pure [(0, I s1.1), (3, Str.val s1.2), (7, .bool (decide (s1.1 > 0)))] hF (by kernel_rfl) fun fr hF => then_normal ?_)
   refine (wp_if hF (b := (decide (s1.1 > 0))) rfl (fun hb => ?_) (fun hb => ?_))
   · replace h := iteT hb h
     refine (wp_skip (then_normal ?_))
     refine (wp_block ?_)
     refine wp_seq (wp_text' ?_)
     refine from_pure 1 [(0, I s1.1), (3, Str.val s1.2), (8, I s1.1)] hF (by kernel_rfl) fun fr hF => ?_
     obtain ⟨x1, hx1, h⟩ := bindE h
     refine s_rem rfl rfl hF rfl rfl hx1 fun fr hF => ?_
     refine from_pure 2 [(0, I s1.1), (3, Str.val s1.2), (11, .int .u8 (IntKind.u8.wrap (w64 (48 + x1))))] hF (by kernel_rfl) fun fr hF => ?_
     refine q_lit (E := 5) hs hM1 [.int .u8 (IntKind.u8.wrap (w64 (48 + x1)))] (([(Byt.mk (IntKind.u8.wrap (w64 (48 + x1))))] : List Byt).map Flat.enc) ([(Byt.mk (IntKind.u8.wrap (w64 (48 + x1))))] : List Byt) rfl rfl hF [.int .u8 (IntKind.u8.wrap (w64 (48 + x1)))] rfl (fun w => by kernel_rfl) (css_flat _) rfl rfl rfl fun a1 c1 w1 S3 fr hs hp hF => ?_
     have hM1 := hM1.stp hp
     have hs : Sep [sl5 (.slice a1 (List.length ([(Byt.mk (IntKind.u8.wrap (w64 (48 + x1))))] : List Byt)) c1) ([(Byt.mk (IntKind.u8.wrap (w64 (48 + x1))))] : List Byt)] w1 S3 := hs
     refine s_bytesStr Try.underlying60 Try.underlying5 Try.underlying9 rfl rfl hF rfl (hs.rv 0 rfl) fun fr hF => ?_
     have hs : Sep [] w1 S3 := Sep.pick [] hs (by decide) rfl
     refine from_pure 1 [(0, I s1.1), (13, Str.val (strOf ([(Byt.mk (IntKind.u8.wrap (w64 (48 + x1))))] : List Byt))), (14, Str.val s1.2)] hF (by kernel_rfl) fun fr hF => ?_
     obtain ⟨x2, hx2, h⟩ := bindE h
     refine s_cat (s1 := (strOf ([(Byt.mk (IntKind.u8.wrap (w64 (48 + x1))))] : List Byt))) (s2 := s1.2) rfl rfl hF rfl rfl hx2 fun fr hF => ?_
     refine from_pure 1 [(0, I s1.1), (3, Str.val x2)] hF (by kernel_rfl) fun fr hF => ?_
     refine from_end rfl (then_normal ?_)
     refine (wp_text' ?_)
     refine from_pure 1 [(3, Str.val x2), (16, I s1.1)] hF (by kernel_rfl) fun fr hF => ?_
     obtain ⟨x3, hx3, h⟩ := bindE h
     refine s_quo rfl rfl hF rfl rfl hx3 fun fr hF => ?_
     refine from_pure 1 [(0, I x3), (3, Str.val x2)] hF (by kernel_rfl) fun fr hF => ?_
     refine from_end rfl ?_
     refine blk_normal (then_normal ?_)
     exact ⟨_, (Option.some.inj h).symm, S3, _, hF.sub _ (by kernel_rfl), hM1, hs⟩
   replace h := iteF hb h
   refine (wp_exit (then_exit (then_exit (blk_exit_eq ?_))))
   obtain rfl := hr1 _ (Option.some.inj h).symm
   exact then_normal ⟨S1, _, hF.sub _ (by kernel_rfl), hM1, hs⟩
 · obtain ⟨S2, F2, hF, hMx, hs⟩ := hM
   have hM0 := hM0.trans hMx
   refine wp_seq (wp_text' ?_)
   refine from_pure 1 [(18, Str.val rl1)] hF (by kernel_rfl) fun fr hF => ?_
   obtain ⟨x4, hx4, h⟩ := bindE h
   refine s_cat (s1 := (⟨[109]⟩)) (s2 := rl1) rfl rfl hF rfl rfl hx4 fun fr hF => ?_
   refine from_pure 1 [(2, Str.val x4)] hF (by kernel_rfl) fun fr hF => ?_
   refine from_end rfl (then_normal ?_)
   obtain rfl := Option.some.inj h
   exact wp_ret (ret1 rfl hF rfl ⟨_, rfl, rfl, hM0.chg⟩)

theorem laws_markTermS__0_ok (n : Nat) (p0 : List D.Term) (p1 : Int) {r : Int} (h : laws_markTermS__0 n p0 p1 = some r) {w : World} {S0 F0 : Nat → Prop} {pa0 : Option Addr} {pn0 pc0 : Nat} (hs : Sep [sl121 (.slice pa0 pn0 pc0) p0] w S0) (hb : ∀ k, S0 k → k < w.heap.size) (hd : ∀ k, S0 k → F0 k → False) :
   Calls Try.prog 92 [.slice pa0 pn0 pc0, I p1].toArray w fun e w' => ∃ v, e = .returned v ∧ v = I r ∧ ∃ S', Stp w S0 w' S' ∧ Sep [sl121 (.slice pa0 pn0 pc0) p0] w' S' := by
 unfold laws_markTermS__0 at h
 obtain ⟨hpn, hs⟩ := hs.relen 0 rfl
 subst hpn
 have hs : Sep [sl121 (L pa0 p0 pc0) p0] w S0 := hs
 have hM0 : Mem w S0 (fun k => F0 k ∧ k < w.heap.size) w S0 (fun k => F0 k ∧ k < w.heap.size) := Mem.start hb (fun _ h => h.2) (fun k h1 h2 => hd k h1 h2.1)
 refine enter (N := 49) Try.func92 rfl Try.ntmps92 rfl fun fr hF => ?_
 refine wp_seq (wp_pure [(0, L pa0 p0 pc0), (1, I p1)] hF (by kernel_rfl) fun fr hF => then_normal ?_)
 refine wp_seq ?_
 refine wp_seq (wp_pure [(0, L pa0 p0 pc0), (1, I p1), (5, I 0)] hF (by kernel_rfl) fun fr hF => then_normal ?_)
 obtain ⟨rl1, hit1, h⟩ := bindE h
 have hk1 := h
 refine (GL.wp_cut (M := fun fr w' => ∃ S2 F2, FrS 49 [(1, I rl1)] fr ∧ Mem w S0 (fun k => F0 k ∧ k < w.heap.size) w' S2 F2 ∧ Sep [sl121 (L pa0 p0 pc0) p0] w' S2) (wp_block (wp_iter (Inv := fun s1 fr w' => ∃ S1 F1, FrS 49 [(0, L pa0 p0 pc0), (1, I s1.1), (5, I s1.2)] fr ∧ Mem w S0 (fun k => F0 k ∧ k < w.heap.size) w' S1 F1 ∧ Sep [sl121 (L pa0 p0 pc0) p0] w' S1) hit1 ⟨S0, _, hF.sub _ (by kernel_rfl), (Mem.start hM0.bd hM0.bdF hM0.dj), hs⟩ fun s1 q1 fr w1i hI h hr1 => ?_)) fun fr w1o hM => ?_)
 · obtain ⟨S1, F1, hF, hM1, hs⟩ := hI
   refine wp_seq ?_
   refine wp_seq (wp_pure [(0, L pa0 p0 pc0), (1, I s1.1), (5, I s1.2), (9, .bool (decide (s1.2 < (len p0))))] hF (by kernel_rfl) fun fr hF => then_normal ?_)
   refine (wp_if hF (b := (decide (s1.2 < (len p0)))) rfl (fun hb => ?_) (fun hb => ?_))
   · replace h := iteT hb h
     cases h
   replace h := iteF hb h
   refine (wp_exit (then_exit (then_exit (blk_exit_eq ?_))))
   obtain rfl := hr1 _ (Option.some.inj h).symm
   exact then_normal ⟨S1, _, hF.sub _ (by kernel_rfl), hM1, hs⟩
 · obtain ⟨S2, F2, hF, hMx, hs⟩ := hM
   have hM0 := hM0.trans hMx
   refine wp_seq (wp_pure [(4, I rl1)] hF (by kernel_rfl) fun fr hF => then_normal ?_)
   obtain rfl := Option.some.inj h
   exact wp_ret (ret1 rfl hF rfl ⟨_, rfl, rfl, S2, hM0.out, hs⟩)

theorem laws_markTermS__1_ok (n : Nat) (p0 : List D.Term) (p1 : Int) {r : Int × (List D.Term)} (h : laws_markTermS__1 n p0 p1 = some r) {w : World} {S0 F0 : Nat → Prop} {pa0 : Option Addr} {pn0 pc0 : Nat} (hs : Sep [sl121 (.slice pa0 pn0 pc0) p0] w S0) (hb : ∀ k, S0 k → k < w.heap.size) (hd : ∀ k, S0 k → F0 k → False) :
   Calls Try.prog 92 [.slice pa0 pn0 pc0, I p1].toArray w fun e w' => ∃ v, e = .returned v ∧ v = I r.1 ∧ ∃ S', Stp w S0 w' S' ∧ Sep [sl121 (.slice pa0 pn0 pc0) r.2] w' S' := by
 unfold laws_markTermS__1 at h
 obtain ⟨hpn, hs⟩ := hs.relen 0 rfl
 subst hpn
 have hs : Sep [sl121 (L pa0 p0 pc0) p0] w S0 := hs
 have hM0 : Mem w S0 (fun k => F0 k ∧ k < w.heap.size) w S0 (fun k => F0 k ∧ k < w.heap.size) := Mem.start hb (fun _ h => h.2) (fun k h1 h2 => hd k h1 h2.1)
 refine enter (N := 49) Try.func92 rfl Try.ntmps92 rfl fun fr hF => ?_
 refine wp_seq (wp_pure [(0, L pa0 p0 pc0), (1, I p1)] hF (by kernel_rfl) fun fr hF => then_normal ?_)
 refine wp_seq ?_
 refine wp_seq (wp_pure [(0, L pa0 p0 pc0), (1, I p1), (5, I 0)] hF (by kernel_rfl) fun fr hF => then_normal ?_)
 obtain ⟨rl1, hit1, h⟩ := bindE h
 have hk1 := h
 refine (GL.wp_cut (M := fun fr w' => ∃ S2 F2, FrS 49 [(1, I rl1.1)] fr ∧ Mem w S0 (fun k => F0 k ∧ k < w.heap.size) w' S2 F2 ∧ Sep [sl121 (L pa0 p0 pc0) rl1.2] w' S2) (wp_block (wp_iter (Inv := fun s1 fr w' => ∃ S1 F1, FrS 49 [(0, L pa0 p0 pc0), (1, I s1.1), (5, I s1.2.1)] fr ∧ Mem w S0 (fun k => F0 k ∧ k < w.heap.size) w' S1 F1 ∧ Sep [sl121 (L pa0 p0 pc0) s1.2.2] w' S1) hit1 ⟨S0, _, hF.sub _ (by kernel_rfl), (Mem.start hM0.bd hM0.bdF hM0.dj), hs⟩ fun s1 q1 fr w1i hI h hr1 => ?_)) fun fr w1o hM => ?_)
 · obtain ⟨S1, F1, hF, hM1, hs⟩ := hI
   refine wp_seq ?_
   refine wp_seq (wp_pure [(0, L pa0 p0 pc0), (1, I s1.1), (5, I s1.2.1), (9, .bool (decide (s1.2.1 < (len p0))))] hF (by kernel_rfl) fun fr hF => then_normal ?_)
   refine (wp_if hF (b := (decide (s1.2.1 < (len p0)))) rfl (fun hb => ?_) (fun hb => ?_))
   · replace h := iteT hb h
     refine (wp_skip (then_normal ?_))
     refine wp_seq (wp_block ?_)
     refine wp_seq (wp_text' ?_)
     refine from_pure 3 [(0, L pa0 p0 pc0), (1, I s1.1), (5, I s1.2.1), (12, L pa0 p0 pc0), (13, I s1.2.1), (14, I s1.1)] hF (by kernel_rfl) fun fr hF => ?_
     obtain ⟨x1, hx1, h⟩ := bindE h
     obtain ⟨x2, hx2, h⟩ := bindE h
     refine q_setField (q := x1) (q' := ({ x1 with Op := s1.1 } : D.Term)) (off := 0) 0 hs hM1 rfl Try.underlying73 ty121 rfl rfl rfl rfl rfl hF rfl rfl rfl rfl (by kernel_rfl) rfl (by kernel_rfl) rfl hx1 rfl hx2 fun w1 S3 fr _ _ hs hp hF => ?_
     have hM1 := hM1.stp hp
     have hs : Sep [sl121 (L pa0 p0 pc0) x2] w1 S3 := hs
     refine from_end rfl (then_normal ?_)
     refine wp_seq (wp_pure [(0, L pa0 p0 pc0), (1, I (w64 (s1.1 + 1))), (5, I s1.2.1)] hF (by kernel_rfl) fun fr hF => then_normal ?_)
     refine wp_seq (wp_text' ?_)
     refine from_pure 3 [(0, L pa0 p0 pc0), (1, I (w64 (s1.1 + 1))), (5, I s1.2.1), (19, L pa0 p0 pc0), (20, I s1.2.1), (21, I (w64 (s1.1 + 1)))] hF (by kernel_rfl) fun fr hF => ?_
     obtain ⟨x3, hx3, h⟩ := bindE h
     obtain ⟨x4, hx4, h⟩ := bindE h
     refine q_setField (q := x3) (q' := ({ x3 with W := (w64 (s1.1 + 1)) } : D.Term)) (off := 1) 0 hs hM1 rfl Try.underlying73 ty121 rfl rfl rfl rfl rfl hF rfl rfl rfl rfl (by kernel_rfl) rfl (by kernel_rfl) rfl hx3 rfl hx4 fun w2 S4 fr _ _ hs hp hF => ?_
     have hM1 := hM1.stp hp
     have hs : Sep [sl121 (L pa0 p0 pc0) x4] w2 S4 := hs
     refine from_end rfl (then_normal ?_)
     refine wp_seq (wp_pure [(0, L pa0 p0 pc0), (1, I (w64 ((w64 (s1.1 + 1)) + 1))), (5, I s1.2.1)] hF (by kernel_rfl) fun fr hF => then_normal ?_)
     refine wp_seq (wp_text' ?_)
     refine from_pure 3 [(0, L pa0 p0 pc0), (1, I (w64 ((w64 (s1.1 + 1)) + 1))), (5, I s1.2.1), (26, L pa0 p0 pc0), (27, I s1.2.1), (28, I (w64 ((w64 (s1.1 + 1)) + 1)))] hF (by kernel_rfl) fun fr hF => ?_
     obtain ⟨x5, hx5, h⟩ := bindE h
     obtain ⟨x6, hx6, h⟩ := bindE h
     refine q_setField (q := x5) (q' := ({ x5 with N := (w64 ((w64 (s1.1 + 1)) + 1)) } : D.Term)) (off := 2) 0 hs hM1 rfl Try.underlying73 ty121 rfl rfl rfl rfl rfl hF rfl rfl rfl rfl (by kernel_rfl) rfl (by kernel_rfl) rfl hx5 rfl hx6 fun w3 S5 fr _ _ hs hp hF => ?_
     have hM1 := hM1.stp hp
     have hs : Sep [sl121 (L pa0 p0 pc0) x6] w3 S5 := hs
     refine from_end rfl (then_normal ?_)
     refine wp_seq (wp_pure [(0, L pa0 p0 pc0), (1, I (w64 ((w64 ((w64 (s1.1 + 1)) + 1)) + 1))), (5, I s1.2.1)] hF (by kernel_rfl) fun fr hF => then_normal ?_)
     refine wp_seq (wp_text' ?_)
     refine from_pure 3 [(0, L pa0 p0 pc0), (1, I (w64 ((w64 ((w64 (s1.1 + 1)) + 1)) + 1))), (5, I s1.2.1), (33, L pa0 p0 pc0), (34, I s1.2.1), (35, I (w64 ((w64 ((w64 (s1.1 + 1)) + 1)) + 1)))] hF (by kernel_rfl) fun fr hF => ?_
     obtain ⟨x7, hx7, h⟩ := bindE h
     refine s_call [I (w64 ((w64 ((w64 (s1.1 + 1)) + 1)) + 1))] Try.call131 rfl rfl hF rfl (laws_markText_ok n (w64 ((w64 ((w64 (s1.1 + 1)) + 1)) + 1)) hx7) fun v w4 fr hRes hF => ?_
     obtain ⟨rfl, hc⟩ := hRes
     have hs := hs.ext hc
     have hM1 := hM1.ext hc
     obtain ⟨x8, hx8, h⟩ := bindE h
     obtain ⟨x9, hx9, h⟩ := bindE h
     refine q_setField (q := x8) (q' := ({ x8 with Name := x7 } : D.Term)) (off := 3) 0 hs hM1 rfl Try.underlying73 ty121 rfl rfl rfl rfl rfl hF rfl rfl rfl rfl (by kernel_rfl) rfl (by kernel_rfl) rfl hx8 rfl hx9 fun w5 S6 fr _ _ hs hp hF => ?_
     have hM1 := hM1.stp hp
     have hs : Sep [sl121 (L pa0 p0 pc0) x9] w5 S6 := hs
     refine from_end rfl (then_normal ?_)
     refine wp_seq (wp_pure [(0, L pa0 p0 pc0), (1, I (w64 ((w64 ((w64 ((w64 (s1.1 + 1)) + 1)) + 1)) + 1))), (5, I s1.2.1)] hF (by kernel_rfl) fun fr hF => then_normal ?_)
     refine (wp_text' ?_)
     refine from_pure 2 [(0, L pa0 p0 pc0), (1, I (w64 ((w64 ((w64 ((w64 (s1.1 + 1)) + 1)) + 1)) + 1))), (5, I s1.2.1), (41, L pa0 p0 pc0), (42, I s1.2.1)] hF (by kernel_rfl) fun fr hF => ?_
     obtain ⟨x10, hx10, h⟩ := bindE h
     refine s_elemField (z := x10) (u := L none ([] : List D.Term) 0) ty121 Try.underlying73 ty73 rfl rfl rfl rfl rfl rfl hF rfl (hs.rv 0 rfl) rfl (get?_nn hx10) (get?_at hx10) rfl rfl rfl fun p p2 fr hF => ?_
     refine from_pure 1 [(0, L pa0 p0 pc0), (5, I s1.2.1), (45, L none ([] : List D.Term) 0), (46, I (w64 ((w64 ((w64 ((w64 (s1.1 + 1)) + 1)) + 1)) + 1)))] hF (by kernel_rfl) fun fr hF => ?_
     have hs : Sep [sl121 (L none ([] : List D.Term) 0) ([] : List D.Term), sl121 (L pa0 p0 pc0) x9] w5 S6 := hs.cons_nil (α := D.Term) 121
     obtain ⟨x11, hx11, h⟩ := bindE h
     obtain ⟨A1, R1, hsA, hsR, hdA, hbA, hup⟩ := Sep.call (L1 := [sl121 (L none ([] : List D.Term) 0) ([] : List D.Term)]) (L2 := [sl121 (L pa0 p0 pc0) x9]) hs hM1
     refine s_call [L none ([] : List D.Term) 0, I (w64 ((w64 ((w64 ((w64 (s1.1 + 1)) + 1)) + 1)) + 1))] Try.call92 rfl rfl hF rfl (laws_markTermS__0_ok n ([] : List D.Term) (w64 ((w64 ((w64 ((w64 (s1.1 + 1)) + 1)) + 1)) + 1)) hx11 hsA hbA hdA) fun v w6 fr hRes hF => ?_
     obtain ⟨rfl, _, hp, hs⟩ := hRes
     obtain ⟨S7, hp, hs⟩ := hup hp hs
     have hM1 := hM1.stp hp
     have hs : Sep [sl121 (L none ([] : List D.Term) 0) ([] : List D.Term), sl121 (L pa0 p0 pc0) x9] w6 S7 := hs
     have hs : Sep [sl121 (L pa0 p0 pc0) x9] w6 S7 := Sep.pick [1] hs (by decide) rfl
     refine from_pure 1 [(0, L pa0 p0 pc0), (1, I x11), (5, I s1.2.1)] hF (by kernel_rfl) fun fr hF => ?_
     refine from_end rfl ?_
     refine blk_normal (then_normal ?_)
     refine (wp_pure [(0, L pa0 p0 pc0), (1, I x11), (5, I (w64 (s1.2.1 + 1)))] hF (by kernel_rfl) fun fr hF => then_normal ?_)
     exact ⟨_, (Option.some.inj h).symm, S7, _, hF.sub _ (by kernel_rfl), hM1, hs⟩
   replace h := iteF hb h
   refine (wp_exit (then_exit (then_exit (blk_exit_eq ?_))))
   obtain rfl := hr1 _ (Option.some.inj h).symm
   exact then_normal ⟨S1, _, hF.sub _ (by kernel_rfl), hM1, hs⟩
 · obtain ⟨S2, F2, hF, hMx, hs⟩ := hM
   have hM0 := hM0.trans hMx
   refine wp_seq (wp_pure [(4, I rl1.1)] hF (by kernel_rfl) fun fr hF => then_normal ?_)
   obtain rfl := Option.some.inj h
   exact wp_ret (ret1 rfl hF rfl ⟨_, rfl, rfl, S2, hM0.out, hs⟩)

theorem laws_markIntS_ok (n : Nat) (p0 : List Int) (p1 : Int) {r : Int × (List Int)} (h : laws_markIntS n p0 p1 = some r) {w : World} {S0 F0 : Nat → Prop} {pa0 : Option Addr} {pn0 pc0 : Nat} (hs : Sep [sl3 (.slice pa0 pn0 pc0) p0] w S0) (hb : ∀ k, S0 k → k < w.heap.size) (hd : ∀ k, S0 k → F0 k → False) :
   Calls Try.prog 18 [.slice pa0 pn0 pc0, I p1].toArray w fun e w' => ∃ v, e = .returned v ∧ v = I r.1 ∧ ∃ S', Stp w S0 w' S' ∧ Sep [sl3 (.slice pa0 pn0 pc0) r.2] w' S' := by
 unfold laws_markIntS at h
 obtain ⟨hpn, hs⟩ := hs.relen 0 rfl
 subst hpn
 have hs : Sep [sl3 (L pa0 p0 pc0) p0] w S0 := hs
 have hM0 : Mem w S0 (fun k => F0 k ∧ k < w.heap.size) w S0 (fun k => F0 k ∧ k < w.heap.size) := Mem.start hb (fun _ h => h.2) (fun k h1 h2 => hd k h1 h2.1)
 refine enter (N := 19) Try.func18 rfl Try.ntmps18 rfl fun fr hF => ?_
 refine wp_seq (wp_pure [(0, L pa0 p0 pc0), (1, I p1)] hF (by kernel_rfl) fun fr hF => then_normal ?_)
 refine wp_seq ?_
 refine wp_seq (wp_pure [(0, L pa0 p0 pc0), (1, I p1), (5, I 0)] hF (by kernel_rfl) fun fr hF => then_normal ?_)
 obtain ⟨rl1, hit1, h⟩ := bindE h
 have hk1 := h
 refine (GL.wp_cut (M := fun fr w' => ∃ S2 F2, FrS 19 [(1, I rl1.1)] fr ∧ Mem w S0 (fun k => F0 k ∧ k < w.heap.size) w' S2 F2 ∧ Sep [sl3 (L pa0 p0 pc0) rl1.2] w' S2) (wp_block (wp_iter (Inv := fun s1 fr w' => ∃ S1 F1, FrS 19 [(0, L pa0 p0 pc0), (1, I s1.1), (5, I s1.2.1)] fr ∧ Mem w S0 (fun k => F0 k ∧ k < w.heap.size) w' S1 F1 ∧ Sep [sl3 (L pa0 p0 pc0) s1.2.2] w' S1) hit1 ⟨S0, _, hF.sub _ (by kernel_rfl), (Mem.start hM0.bd hM0.bdF hM0.dj), hs⟩ fun s1 q1 fr w1i hI h hr1 => ?_)) fun fr w1o hM => ?_)
 · obtain ⟨S1, F1, hF, hM1, hs⟩ := hI
   refine wp_seq ?_
   refine wp_seq (wp_pure [(0, L pa0 p0 pc0), (1, I s1.1), (5, I s1.2.1), (9, .bool (decide (s1.2.1 < (len p0))))] hF (by kernel_rfl) fun fr hF => then_normal ?_)
   refine (wp_if hF (b := (decide (s1.2.1 < (len p0)))) rfl (fun hb => ?_) (fun hb => ?_))
   · replace h := iteT hb h
     refine (wp_skip (then_normal ?_))
     refine wp_seq (wp_block ?_)
     refine wp_seq (wp_text' ?_)
     refine from_pure 3 [(0, L pa0 p0 pc0), (1, I s1.1), (5, I s1.2.1), (12, L pa0 p0 pc0), (13, I s1.2.1), (14, I s1.1)] hF (by kernel_rfl) fun fr hF => ?_
     obtain ⟨x1, hx1, h⟩ := bindE h
     refine q_set (q := s1.1) 0 hs hM1 rfl Try.underlying26 ty3 rfl rfl rfl rfl hF rfl rfl (by simp) rfl rfl hx1 fun w1 S3 fr _ hs hp hF => ?_
     have hM1 := hM1.stp hp
     have hs : Sep [sl3 (L pa0 p0 pc0) x1] w1 S3 := hs
     refine from_end rfl (then_normal ?_)
     refine (wp_pure [(0, L pa0 p0 pc0), (1, I (w64 (s1.1 + 1))), (5, I s1.2.1)] hF (by kernel_rfl) fun fr hF => ?_)
     refine blk_normal (then_normal ?_)
     refine (wp_pure [(0, L pa0 p0 pc0), (1, I (w64 (s1.1 + 1))), (5, I (w64 (s1.2.1 + 1)))] hF (by kernel_rfl) fun fr hF => then_normal ?_)
     exact ⟨_, (Option.some.inj h).symm, S3, _, hF.sub _ (by kernel_rfl), hM1, hs⟩
   replace h := iteF hb h
   refine (wp_exit (then_exit (then_exit (blk_exit_eq ?_))))
   obtain rfl := hr1 _ (Option.some.inj h).symm
   exact then_normal ⟨S1, _, hF.sub _ (by kernel_rfl), hM1, hs⟩
 · obtain ⟨S2, F2, hF, hMx, hs⟩ := hM
   have hM0 := hM0.trans hMx
   refine wp_seq (wp_pure [(4, I rl1.1)] hF (by kernel_rfl) fun fr hF => then_normal ?_)
   obtain rfl := Option.some.inj h
   exact wp_ret (ret1 rfl hF rfl ⟨_, rfl, rfl, S2, hM0.out, hs⟩)

theorem laws_markPath_ok (n : Nat) (p0 : D.Path) (p1 : Int) {r : Int × D.Path} (h : laws_markPath n p0 p1 = some r) {w : World} {S0 F0 : Nat → Prop} {pa0 : Option Addr} {pn0 pc0 : Nat} {pa1 : Option Addr} {pn1 pc1 : Nat} {pa2 : Option Addr} {pn2 pc2 : Nat} {pa3 : Option Addr} {pn3 pc3 : Nat} {pa4 : Option Addr} {pn4 pc4 : Nat} {pa5 : Option Addr} {pn5 pc5 : Nat} (hs : Sep [sl121 (.slice pa0 pn0 pc0) p0.Regs, sl121 (.slice pa1 pn1 pc1) p0.Mem, sl3 (.slice pa2 pn2 pc2) p0.Stack, sl121 (.slice pa3 pn3 pc3) p0.Out, sl121 (.slice pa4 pn4 pc4) p0.Cond, sl3 (.slice pa5 pn5 pc5) p0.Turns] w S0) (hb : ∀ k, S0 k → k < w.heap.size) (hd : ∀ k, S0 k → F0 k → False) :
   Calls Try.prog 50 [.agg #[I p0.Pc, .slice pa0 pn0 pc0, .slice pa1 pn1 pc1, .slice pa2 pn2 pc2, I p0.In, .slice pa3 pn3 pc3, I p0.Code, I p0.Steps, .slice pa4 pn4 pc4, .slice pa5 pn5 pc5], I p1].toArray w fun e w' => ∃ v, e = .returned v ∧ v = I r.1 ∧ ∃ S', Stp w S0 w' S' ∧ Sep [sl121 (.slice pa0 pn0 pc0) r.2.Regs, sl121 (.slice pa1 pn1 pc1) r.2.Mem, sl3 (.slice pa2 pn2 pc2) r.2.Stack, sl121 (.slice pa3 pn3 pc3) r.2.Out, sl121 (.slice pa4 pn4 pc4) r.2.Cond, sl3 (.slice pa5 pn5 pc5) r.2.Turns] w' S' := by
 unfold laws_markPath at h
 obtain ⟨hpn, hs⟩ := hs.relen 0 rfl
 subst hpn
 obtain ⟨hpn, hs⟩ := hs.relen 1 rfl
 subst hpn
 obtain ⟨hpn, hs⟩ := hs.relen 2 rfl
 subst hpn
 obtain ⟨hpn, hs⟩ := hs.relen 3 rfl
 subst hpn
 obtain ⟨hpn, hs⟩ := hs.relen 4 rfl
 subst hpn
 obtain ⟨hpn, hs⟩ := hs.relen 5 rfl
 subst hpn
 have hs : Sep [sl121 (L pa0 p0.Regs pc0) p0.Regs, sl121 (L pa1 p0.Mem pc1) p0.Mem, sl3 (L pa2 p0.Stack pc2) p0.Stack, sl121 (L pa3 p0.Out pc3) p0.Out, sl121 (L pa4 p0.Cond pc4) p0.Cond, sl3 (L pa5 p0.Turns pc5) p0.Turns] w S0 := hs
 have hM0 : Mem w S0 (fun k => F0 k ∧ k < w.heap.size) w S0 (fun k => F0 k ∧ k < w.heap.size) := Mem.start hb (fun _ h => h.2) (fun k h1 h2 => hd k h1 h2.1)
 refine enter (N := 30) Try.func50 rfl Try.ntmps50 rfl fun fr hF => ?_
 refine wp_seq (wp_text' ?_)
 refine q_box hs hM0 [I p0.Pc, L pa0 p0.Regs pc0, L pa1 p0.Mem pc1, L pa2 p0.Stack pc2, I p0.In, L pa3 p0.Out pc3, I p0.Code, I p0.Steps, L pa4 p0.Cond pc4, L pa5 p0.Turns pc5] rfl rfl hF rfl rfl fun b1 w1 S1 fr hs hp hF => ?_
 have hM0 := hM0.stp hp
 have hs : Sep [BX b1 75 [I p0.Pc, L pa0 p0.Regs pc0, L pa1 p0.Mem pc1, L pa2 p0.Stack pc2, I p0.In, L pa3 p0.Out pc3, I p0.Code, I p0.Steps, L pa4 p0.Cond pc4, L pa5 p0.Turns pc5], sl121 (L pa0 p0.Regs pc0) p0.Regs, sl121 (L pa1 p0.Mem pc1) p0.Mem, sl3 (L pa2 p0.Stack pc2) p0.Stack, sl121 (L pa3 p0.Out pc3) p0.Out, sl121 (L pa4 p0.Cond pc4) p0.Cond, sl3 (L pa5 p0.Turns pc5) p0.Turns] w1 S1 := hs
 refine from_pure 1 [(1, I p1), (2, B b1 0)] hF (by kernel_rfl) fun fr hF => ?_
 refine from_end rfl (then_normal ?_)
 refine wp_seq (wp_text' ?_)
 refine from_pure 1 [(1, I p1), (2, B b1 0), (5, B b1 1)] hF (by kernel_rfl) fun fr hF => ?_
 refine s_loadBox (L pa0 p0.Regs pc0) ty73 rfl rfl hF rfl (hs.bx 0 rfl) rfl rfl fun fr hF => ?_
 refine from_pure 1 [(2, B b1 0), (6, L pa0 p0.Regs pc0), (7, I p1)] hF (by kernel_rfl) fun fr hF => ?_
 obtain ⟨x1, hx1, h⟩ := bindE h
 have hs : Sep [sl121 (L pa0 p0.Regs pc0) p0.Regs, BX b1 75 [I p0.Pc, L pa0 p0.Regs pc0, L pa1 p0.Mem pc1, L pa2 p0.Stack pc2, I p0.In, L pa3 p0.Out pc3, I p0.Code, I p0.Steps, L pa4 p0.Cond pc4, L pa5 p0.Turns pc5], sl121 (L pa1 p0.Mem pc1) p0.Mem, sl3 (L pa2 p0.Stack pc2) p0.Stack, sl121 (L pa3 p0.Out pc3) p0.Out, sl121 (L pa4 p0.Cond pc4) p0.Cond, sl3 (L pa5 p0.Turns pc5) p0.Turns] w1 S1 := Sep.pick [1, 0, 2, 3, 4, 5, 6] hs (by decide) rfl
 obtain ⟨A1, R1, hsA, hsR, hdA, hbA, hup⟩ := Sep.call (L1 := [sl121 (L pa0 p0.Regs pc0) p0.Regs]) (L2 := [BX b1 75 [I p0.Pc, L pa0 p0.Regs pc0, L pa1 p0.Mem pc1, L pa2 p0.Stack pc2, I p0.In, L pa3 p0.Out pc3, I p0.Code, I p0.Steps, L pa4 p0.Cond pc4, L pa5 p0.Turns pc5], sl121 (L pa1 p0.Mem pc1) p0.Mem, sl3 (L pa2 p0.Stack pc2) p0.Stack, sl121 (L pa3 p0.Out pc3) p0.Out, sl121 (L pa4 p0.Cond pc4) p0.Cond, sl3 (L pa5 p0.Turns pc5) p0.Turns]) hs hM0
 refine s_call [L pa0 p0.Regs pc0, I p1] Try.call92 rfl rfl hF rfl (laws_markTermS__1_ok n p0.Regs p1 hx1 hsA hbA hdA) fun v w2 fr hRes hF => ?_
 obtain ⟨rfl, _, hp, hs⟩ := hRes
 obtain ⟨S2, hp, hs⟩ := hup hp hs
 have hM0 := hM0.stp hp
 have hs : Sep [sl121 (L pa0 p0.Regs pc0) x1.2, BX b1 75 [I p0.Pc, L pa0 p0.Regs pc0, L pa1 p0.Mem pc1, L pa2 p0.Stack pc2, I p0.In, L pa3 p0.Out pc3, I p0.Code, I p0.Steps, L pa4 p0.Cond pc4, L pa5 p0.Turns pc5], sl121 (L pa1 p0.Mem pc1) p0.Mem, sl3 (L pa2 p0.Stack pc2) p0.Stack, sl121 (L pa3 p0.Out pc3) p0.Out, sl121 (L pa4 p0.Cond pc4) p0.Cond, sl3 (L pa5 p0.Turns pc5) p0.Turns] w2 S2 := hs
 refine from_pure 1 [(1, I x1.1), (2, B b1 0)] hF (by kernel_rfl) fun fr hF => ?_
 refine from_end rfl (then_normal ?_)
 refine wp_seq (wp_text' ?_)
 refine from_pure 1 [(1, I x1.1), (2, B b1 0), (9, B b1 2)] hF (by kernel_rfl) fun fr hF => ?_
 refine s_loadBox (L pa1 p0.Mem pc1) ty73 rfl rfl hF rfl (hs.bx 1 rfl) rfl rfl fun fr hF => ?_
 refine from_pure 1 [(2, B b1 0), (10, L pa1 p0.Mem pc1), (11, I x1.1)] hF (by kernel_rfl) fun fr hF => ?_
 obtain ⟨x2, hx2, h⟩ := bindE h
 have hs : Sep [sl121 (L pa1 p0.Mem pc1) p0.Mem, sl121 (L pa0 p0.Regs pc0) x1.2, BX b1 75 [I p0.Pc, L pa0 p0.Regs pc0, L pa1 p0.Mem pc1, L pa2 p0.Stack pc2, I p0.In, L pa3 p0.Out pc3, I p0.Code, I p0.Steps, L pa4 p0.Cond pc4, L pa5 p0.Turns pc5], sl3 (L pa2 p0.Stack pc2) p0.Stack, sl121 (L pa3 p0.Out pc3) p0.Out, sl121 (L pa4 p0.Cond pc4) p0.Cond, sl3 (L pa5 p0.Turns pc5) p0.Turns] w2 S2 := Sep.pick [2, 0, 1, 3, 4, 5, 6] hs (by decide) rfl
 obtain ⟨A2, R2, hsA, hsR, hdA, hbA, hup⟩ := Sep.call (L1 := [sl121 (L pa1 p0.Mem pc1) p0.Mem]) (L2 := [sl121 (L pa0 p0.Regs pc0) x1.2, BX b1 75 [I p0.Pc, L pa0 p0.Regs pc0, L pa1 p0.Mem pc1, L pa2 p0.Stack pc2, I p0.In, L pa3 p0.Out pc3, I p0.Code, I p0.Steps, L pa4 p0.Cond pc4, L pa5 p0.Turns pc5], sl3 (L pa2 p0.Stack pc2) p0.Stack, sl121 (L pa3 p0.Out pc3) p0.Out, sl121 (L pa4 p0.Cond pc4) p0.Cond, sl3 (L pa5 p0.Turns pc5) p0.Turns]) hs hM0
 refine s_call [L pa1 p0.Mem pc1, I x1.1] Try.call92 rfl rfl hF rfl (laws_markTermS__1_ok n p0.Mem x1.1 hx2 hsA hbA hdA) fun v w3 fr hRes hF => ?_
 obtain ⟨rfl, _, hp, hs⟩ := hRes
 obtain ⟨S3, hp, hs⟩ := hup hp hs
 have hM0 := hM0.stp hp
 have hs : Sep [sl121 (L pa1 p0.Mem pc1) x2.2, sl121 (L pa0 p0.Regs pc0) x1.2, BX b1 75 [I p0.Pc, L pa0 p0.Regs pc0, L pa1 p0.Mem pc1, L pa2 p0.Stack pc2, I p0.In, L pa3 p0.Out pc3, I p0.Code, I p0.Steps, L pa4 p0.Cond pc4, L pa5 p0.Turns pc5], sl3 (L pa2 p0.Stack pc2) p0.Stack, sl121 (L pa3 p0.Out pc3) p0.Out, sl121 (L pa4 p0.Cond pc4) p0.Cond, sl3 (L pa5 p0.Turns pc5) p0.Turns] w3 S3 := hs
 refine from_pure 1 [(1, I x2.1), (2, B b1 0)] hF (by kernel_rfl) fun fr hF => ?_
 refine from_end rfl (then_normal ?_)
 refine wp_seq (wp_text' ?_)
 refine from_pure 1 [(1, I x2.1), (2, B b1 0), (13, B b1 3)] hF (by kernel_rfl) fun fr hF => ?_
 refine s_loadBox (L pa2 p0.Stack pc2) ty26 rfl rfl hF rfl (hs.bx 2 rfl) rfl rfl fun fr hF => ?_
 refine from_pure 1 [(2, B b1 0), (14, L pa2 p0.Stack pc2), (15, I x2.1)] hF (by kernel_rfl) fun fr hF => ?_
 obtain ⟨x3, hx3, h⟩ := bindE h
 have hs : Sep [sl3 (L pa2 p0.Stack pc2) p0.Stack, sl121 (L pa1 p0.Mem pc1) x2.2, sl121 (L pa0 p0.Regs pc0) x1.2, BX b1 75 [I p0.Pc, L pa0 p0.Regs pc0, L pa1 p0.Mem pc1, L pa2 p0.Stack pc2, I p0.In, L pa3 p0.Out pc3, I p0.Code, I p0.Steps, L pa4 p0.Cond pc4, L pa5 p0.Turns pc5], sl121 (L pa3 p0.Out pc3) p0.Out, sl121 (L pa4 p0.Cond pc4) p0.Cond, sl3 (L pa5 p0.Turns pc5) p0.Turns] w3 S3 := Sep.pick [3, 0, 1, 2, 4, 5, 6] hs (by decide) rfl
 obtain ⟨A3, R3, hsA, hsR, hdA, hbA, hup⟩ := Sep.call (L1 := [sl3 (L pa2 p0.Stack pc2) p0.Stack]) (L2 := [sl121 (L pa1 p0.Mem pc1) x2.2, sl121 (L pa0 p0.Regs pc0) x1.2, BX b1 75 [I p0.Pc, L pa0 p0.Regs pc0, L pa1 p0.Mem pc1, L pa2 p0.Stack pc2, I p0.In, L pa3 p0.Out pc3, I p0.Code, I p0.Steps, L pa4 p0.Cond pc4, L pa5 p0.Turns pc5], sl121 (L pa3 p0.Out pc3) p0.Out, sl121 (L pa4 p0.Cond pc4) p0.Cond, sl3 (L pa5 p0.Turns pc5) p0.Turns]) hs hM0
 refine s_call [L pa2 p0.Stack pc2, I x2.1] Try.call18 rfl rfl hF rfl (laws_markIntS_ok n p0.Stack x2.1 hx3 hsA hbA hdA) fun v w4 fr hRes hF => ?_
 obtain ⟨rfl, _, hp, hs⟩ := hRes
 obtain ⟨S4, hp, hs⟩ := hup hp hs
 have hM0 := hM0.stp hp
 have hs : Sep [sl3 (L pa2 p0.Stack pc2) x3.2, sl121 (L pa1 p0.Mem pc1) x2.2, sl121 (L pa0 p0.Regs pc0) x1.2, BX b1 75 [I p0.Pc, L pa0 p0.Regs pc0, L pa1 p0.Mem pc1, L pa2 p0.Stack pc2, I p0.In, L pa3 p0.Out pc3, I p0.Code, I p0.Steps, L pa4 p0.Cond pc4, L pa5 p0.Turns pc5], sl121 (L pa3 p0.Out pc3) p0.Out, sl121 (L pa4 p0.Cond pc4) p0.Cond, sl3 (L pa5 p0.Turns pc5) p0.Turns] w4 S4 := hs
 refine from_pure 1 [(1, I x3.1), (2, B b1 0)] hF (by kernel_rfl) fun fr hF => ?_
 refine from_end rfl (then_normal ?_)
 refine wp_seq (wp_text' ?_)
 refine from_pure 1 [(1, I x3.1), (2, B b1 0), (17, B b1 5)] hF (by kernel_rfl) fun fr hF => ?_
 refine s_loadBox (L pa3 p0.Out pc3) ty73 rfl rfl hF rfl (hs.bx 3 rfl) rfl rfl fun fr hF => ?_
 refine from_pure 1 [(2, B b1 0), (18, L pa3 p0.Out pc3), (19, I x3.1)] hF (by kernel_rfl) fun fr hF => ?_
 obtain ⟨x4, hx4, h⟩ := bindE h
 have hs : Sep [sl121 (L pa3 p0.Out pc3) p0.Out, sl3 (L pa2 p0.Stack pc2) x3.2, sl121 (L pa1 p0.Mem pc1) x2.2, sl121 (L pa0 p0.Regs pc0) x1.2, BX b1 75 [I p0.Pc, L pa0 p0.Regs pc0, L pa1 p0.Mem pc1, L pa2 p0.Stack pc2, I p0.In, L pa3 p0.Out pc3, I p0.Code, I p0.Steps, L pa4 p0.Cond pc4, L pa5 p0.Turns pc5], sl121 (L pa4 p0.Cond pc4) p0.Cond, sl3 (L pa5 p0.Turns pc5) p0.Turns] w4 S4 := Sep.pick [4, 0, 1, 2, 3, 5, 6] hs (by decide) rfl
 obtain ⟨A4, R4, hsA, hsR, hdA, hbA, hup⟩ := Sep.call (L1 := [sl121 (L pa3 p0.Out pc3) p0.Out]) (L2 := [sl3 (L pa2 p0.Stack pc2) x3.2, sl121 (L pa1 p0.Mem pc1) x2.2, sl121 (L pa0 p0.Regs pc0) x1.2, BX b1 75 [I p0.Pc, L pa0 p0.Regs pc0, L pa1 p0.Mem pc1, L pa2 p0.Stack pc2, I p0.In, L pa3 p0.Out pc3, I p0.Code, I p0.Steps, L pa4 p0.Cond pc4, L pa5 p0.Turns pc5], sl121 (L pa4 p0.Cond pc4) p0.Cond, sl3 (L pa5 p0.Turns pc5) p0.Turns]) hs hM0
 refine s_call [L pa3 p0.Out pc3, I x3.1] Try.call92 rfl rfl hF rfl (laws_markTermS__1_ok n p0.Out x3.1 hx4 hsA hbA hdA) fun v w5 fr hRes hF => ?_
 obtain ⟨rfl, _, hp, hs⟩ := hRes
 obtain ⟨S5, hp, hs⟩ := hup hp hs
 have hM0 := hM0.stp hp
 have hs : Sep [sl121 (L pa3 p0.Out pc3) x4.2, sl3 (L pa2 p0.Stack pc2) x3.2, sl121 (L pa1 p0.Mem pc1) x2.2, sl121 (L pa0 p0.Regs pc0) x1.2, BX b1 75 [I p0.Pc, L pa0 p0.Regs pc0, L pa1 p0.Mem pc1, L pa2 p0.Stack pc2, I p0.In, L pa3 p0.Out pc3, I p0.Code, I p0.Steps, L pa4 p0.Cond pc4, L pa5 p0.Turns pc5], sl121 (L pa4 p0.Cond pc4) p0.Cond, sl3 (L pa5 p0.Turns pc5) p0.Turns] w5 S5 := hs
 refine from_pure 1 [(1, I x4.1), (2, B b1 0)] hF (by kernel_rfl) fun fr hF => ?_
 refine from_end rfl (then_normal ?_)
 refine wp_seq (wp_text' ?_)
 refine from_pure 1 [(1, I x4.1), (2, B b1 0), (21, B b1 8)] hF (by kernel_rfl) fun fr hF => ?_
 refine s_loadBox (L pa4 p0.Cond pc4) ty73 rfl rfl hF rfl (hs.bx 4 rfl) rfl rfl fun fr hF => ?_
 refine from_pure 1 [(2, B b1 0), (22, L pa4 p0.Cond pc4), (23, I x4.1)] hF (by kernel_rfl) fun fr hF => ?_
 obtain ⟨x5, hx5, h⟩ := bindE h
 have hs : Sep [sl121 (L pa4 p0.Cond pc4) p0.Cond, sl121 (L pa3 p0.Out pc3) x4.2, sl3 (L pa2 p0.Stack pc2) x3.2, sl121 (L pa1 p0.Mem pc1) x2.2, sl121 (L pa0 p0.Regs pc0) x1.2, BX b1 75 [I p0.Pc, L pa0 p0.Regs pc0, L pa1 p0.Mem pc1, L pa2 p0.Stack pc2, I p0.In, L pa3 p0.Out pc3, I p0.Code, I p0.Steps, L pa4 p0.Cond pc4, L pa5 p0.Turns pc5], sl3 (L pa5 p0.Turns pc5) p0.Turns] w5 S5 := Sep.pick [5, 0, 1, 2, 3, 4, 6] hs (by decide) rfl
 obtain ⟨A5, R5, hsA, hsR, hdA, hbA, hup⟩ := Sep.call (L1 := [sl121 (L pa4 p0.Cond pc4) p0.Cond]) (L2 := [sl121 (L pa3 p0.Out pc3) x4.2, sl3 (L pa2 p0.Stack pc2) x3.2, sl121 (L pa1 p0.Mem pc1) x2.2, sl121 (L pa0 p0.Regs pc0) x1.2, BX b1 75 [I p0.Pc, L pa0 p0.Regs pc0, L pa1 p0.Mem pc1, L pa2 p0.Stack pc2, I p0.In, L pa3 p0.Out pc3, I p0.Code, I p0.Steps, L pa4 p0.Cond pc4, L pa5 p0.Turns pc5], sl3 (L pa5 p0.Turns pc5) p0.Turns]) hs hM0
 refine s_call [L pa4 p0.Cond pc4, I x4.1] Try.call92 rfl rfl hF rfl (laws_markTermS__1_ok n p0.Cond x4.1 hx5 hsA hbA hdA) fun v w6 fr hRes hF => ?_
 obtain ⟨rfl, _, hp, hs⟩ := hRes
 obtain ⟨S6, hp, hs⟩ := hup hp hs
 have hM0 := hM0.stp hp
 have hs : Sep [sl121 (L pa4 p0.Cond pc4) x5.2, sl121 (L pa3 p0.Out pc3) x4.2, sl3 (L pa2 p0.Stack pc2) x3.2, sl121 (L pa1 p0.Mem pc1) x2.2, sl121 (L pa0 p0.Regs pc0) x1.2, BX b1 75 [I p0.Pc, L pa0 p0.Regs pc0, L pa1 p0.Mem pc1, L pa2 p0.Stack pc2, I p0.In, L pa3 p0.Out pc3, I p0.Code, I p0.Steps, L pa4 p0.Cond pc4, L pa5 p0.Turns pc5], sl3 (L pa5 p0.Turns pc5) p0.Turns] w6 S6 := hs
 refine from_pure 1 [(1, I x5.1), (2, B b1 0)] hF (by kernel_rfl) fun fr hF => ?_
 refine from_end rfl (then_normal ?_)
 refine wp_seq (wp_text' ?_)
 refine from_pure 1 [(1, I x5.1), (25, B b1 9)] hF (by kernel_rfl) fun fr hF => ?_
 refine s_loadBox (L pa5 p0.Turns pc5) ty26 rfl rfl hF rfl (hs.bx 5 rfl) rfl rfl fun fr hF => ?_
 have hs : Sep [sl121 (L pa4 p0.Cond pc4) x5.2, sl121 (L pa3 p0.Out pc3) x4.2, sl3 (L pa2 p0.Stack pc2) x3.2, sl121 (L pa1 p0.Mem pc1) x2.2, sl121 (L pa0 p0.Regs pc0) x1.2, sl3 (L pa5 p0.Turns pc5) p0.Turns] w6 S6 := Sep.pick [0, 1, 2, 3, 4, 6] hs (by decide) rfl
 refine from_pure 1 [(26, L pa5 p0.Turns pc5), (27, I x5.1)] hF (by kernel_rfl) fun fr hF => ?_
 obtain ⟨x6, hx6, h⟩ := bindE h
 have hs : Sep [sl3 (L pa5 p0.Turns pc5) p0.Turns, sl121 (L pa4 p0.Cond pc4) x5.2, sl121 (L pa3 p0.Out pc3) x4.2, sl3 (L pa2 p0.Stack pc2) x3.2, sl121 (L pa1 p0.Mem pc1) x2.2, sl121 (L pa0 p0.Regs pc0) x1.2] w6 S6 := Sep.pick [5, 0, 1, 2, 3, 4] hs (by decide) rfl
 obtain ⟨A6, R6, hsA, hsR, hdA, hbA, hup⟩ := Sep.call (L1 := [sl3 (L pa5 p0.Turns pc5) p0.Turns]) (L2 := [sl121 (L pa4 p0.Cond pc4) x5.2, sl121 (L pa3 p0.Out pc3) x4.2, sl3 (L pa2 p0.Stack pc2) x3.2, sl121 (L pa1 p0.Mem pc1) x2.2, sl121 (L pa0 p0.Regs pc0) x1.2]) hs hM0
 refine s_call [L pa5 p0.Turns pc5, I x5.1] Try.call18 rfl rfl hF rfl (laws_markIntS_ok n p0.Turns x5.1 hx6 hsA hbA hdA) fun v w7 fr hRes hF => ?_
 obtain ⟨rfl, _, hp, hs⟩ := hRes
 obtain ⟨S7, hp, hs⟩ := hup hp hs
 have hM0 := hM0.stp hp
 have hs : Sep [sl3 (L pa5 p0.Turns pc5) x6.2, sl121 (L pa4 p0.Cond pc4) x5.2, sl121 (L pa3 p0.Out pc3) x4.2, sl3 (L pa2 p0.Stack pc2) x3.2, sl121 (L pa1 p0.Mem pc1) x2.2, sl121 (L pa0 p0.Regs pc0) x1.2] w7 S7 := hs
 refine from_pure 1 [(1, I x6.1)] hF (by kernel_rfl) fun fr hF => ?_
 refine from_end rfl (then_normal ?_)
 refine wp_seq (wp_pure [(4, I x6.1)] hF (by kernel_rfl) fun fr hF => then_normal ?_)
 obtain rfl := Option.some.inj h
 have hs : Sep [sl121 (L pa0 p0.Regs pc0) x1.2, sl121 (L pa1 p0.Mem pc1) x2.2, sl3 (L pa2 p0.Stack pc2) x3.2, sl121 (L pa3 p0.Out pc3) x4.2, sl121 (L pa4 p0.Cond pc4) x5.2, sl3 (L pa5 p0.Turns pc5) x6.2] w7 S7 := Sep.pick [5, 4, 3, 2, 1, 0] hs (by decide) rfl
 exact wp_ret (ret1 rfl hF rfl ⟨_, rfl, rfl, S7, hM0.out, hs⟩)

theorem laws_heldTermS__0_ok (n : Nat) (p0 : List D.Term) (p1 : Int) {r : Int} (h : laws_heldTermS__0 n p0 p1 = some r) {w : World} {G0 : Nat → Prop} {va0 : Value} (ra0 : RV w G0 va0 p0) :
   Calls Try.prog 93 [va0, I p1].toArray w fun e w' => ∃ v, e = .returned v ∧ v = I r ∧ Chg Non w w' := by
 unfold laws_heldTermS__0 at h
 have hs := Sep.nil w Non
 have hM0 : Mem w Non (fun k => (G0 k) ∧ k < w.heap.size) w Non (fun k => (G0 k) ∧ k < w.heap.size) := Mem.start (fun _ h => h.elim) (fun _ h => h.2) (fun _ h => h.elim)
 have ra0 := ra0.sub (F' := (fun k => (G0 k) ∧ k < w.heap.size)) (fun k hk h => ⟨h, hk⟩)
 obtain ⟨a1, c1, rfl, -⟩ := ra0.slice
 refine enter (N := 59) Try.func93 rfl Try.ntmps93 rfl fun fr hF => ?_
 refine wp_seq (wp_pure [(0, L a1 p0 c1), (1, I p1)] hF (by kernel_rfl) fun fr hF => then_normal ?_)
 refine wp_seq ?_
 refine wp_seq (wp_pure [(0, L a1 p0 c1), (1, I p1), (5, I 0)] hF (by kernel_rfl) fun fr hF => then_normal ?_)
 obtain ⟨rl1, hit1, h⟩ := bindE h
 have hk1 := h
 refine (GL.wp_cut (M := fun fr w' => ∃ s, rl1 = .inl s ∧ ∃ S2 F2, FrS 59 [(1, I s)] fr ∧ Mem w Non (fun k => (G0 k) ∧ k < w.heap.size) w' S2 F2 ∧ Sep [] w' S2) (wp_block (wp_iter (Inv := fun s1 fr w' => ∃ S1 F1, FrS 59 [(0, L a1 p0 c1), (1, I s1.1), (5, I s1.2)] fr ∧ Mem w Non (fun k => (G0 k) ∧ k < w.heap.size) w' S1 F1 ∧ Sep [] w' S1) hit1 ⟨Non, _, hF.sub _ (by kernel_rfl), (Mem.start hM0.bd hM0.bdF hM0.dj), hs⟩ fun s1 q1 fr w1i hI h hr1 => ?_)) fun fr w1o hM => ?_)
 · obtain ⟨S1, F1, hF, hM1, hs⟩ := hI
   have ra0 := ra0.mem hM1
   refine wp_seq ?_
   refine wp_seq (wp_pure [(0, L a1 p0 c1), (1, I s1.1), (5, I s1.2), (9, .bool (decide (s1.2 < (len p0))))] hF (by kernel_rfl) fun fr hF => then_normal ?_)
   refine (wp_if hF (b := (decide (s1.2 < (len p0)))) rfl (fun hb => ?_) (fun hb => ?_))
   · replace h := iteT hb h
     refine (wp_skip (then_normal ?_))
     refine wp_seq (wp_block ?_)
     refine wp_seq ?_
     refine wp_seq (wp_text' ?_)
     refine from_pure 2 [(0, L a1 p0 c1), (1, I s1.1), (5, I s1.2), (12, L a1 p0 c1), (13, I s1.2)] hF (by kernel_rfl) fun fr hF => ?_
     obtain ⟨x1, hx1, h⟩ := bindE h
     refine s_elemField (z := x1) (u := I x1.Op) ty121 Try.underlying73 ty3 rfl rfl rfl rfl rfl rfl hF rfl (ra0) rfl (get?_nn hx1) (get?_at hx1) rfl rfl rfl fun p p2 fr hF => ?_
     refine from_pure 2 [(0, L a1 p0 c1), (1, I s1.1), (5, I s1.2), (18, .bool (x1.Op != s1.1))] hF (by kernel_rfl) fun fr hF => ?_
     refine from_end rfl (then_normal ?_)
     refine (wp_if hF (b := (x1.Op != s1.1)) rfl (fun hb => ?_) (fun hb => ?_))
     · replace h := iteT hb h
       refine wp_seq (wp_pure [(4, I (-1))] hF (by kernel_rfl) fun fr hF => then_normal ?_)
       obtain rfl := hr1 _ (Option.some.inj h).symm
       obtain rfl := Option.some.inj hk1
       exact wp_ret (then_ret (blk_ret (then_ret (then_ret (blk_ret (then_ret (ret1 rfl hF rfl ⟨_, rfl, rfl, (hM0.trans hM1).chg⟩)))))))
     replace h := iteF hb h
     refine (wp_skip (then_normal ?_))
     refine wp_seq (wp_pure [(0, L a1 p0 c1), (1, I (w64 (s1.1 + 1))), (5, I s1.2)] hF (by kernel_rfl) fun fr hF => then_normal ?_)
     refine wp_seq ?_
     refine wp_seq (wp_text' ?_)
     refine from_pure 2 [(0, L a1 p0 c1), (1, I (w64 (s1.1 + 1))), (5, I s1.2), (21, L a1 p0 c1), (22, I s1.2)] hF (by kernel_rfl) fun fr hF => ?_
     obtain ⟨x2, hx2, h⟩ := bindE h
     refine s_elemField (z := x2) (u := I x2.W) ty121 Try.underlying73 ty3 rfl rfl rfl rfl rfl rfl hF rfl (ra0) rfl (get?_nn hx2) (get?_at hx2) rfl rfl rfl fun p p2 fr hF => ?_
     refine from_pure 2 [(0, L a1 p0 c1), (1, I (w64 (s1.1 + 1))), (5, I s1.2), (27, .bool (x2.W != (w64 (s1.1 + 1))))] hF (by kernel_rfl) fun fr hF => ?_
     refine from_end rfl (then_normal ?_)
     refine (wp_if hF (b := (x2.W != (w64 (s1.1 + 1)))) rfl (fun hb => ?_) (fun hb => ?_))
     · replace h := iteT hb h
       refine wp_seq (wp_pure [(4, I (-1))] hF (by kernel_rfl) fun fr hF => then_normal ?_)
       obtain rfl := hr1 _ (Option.some.inj h).symm
       obtain rfl := Option.some.inj hk1
       exact wp_ret (then_ret (blk_ret (then_ret (then_ret (blk_ret (then_ret (ret1 rfl hF rfl ⟨_, rfl, rfl, (hM0.trans hM1).chg⟩)))))))
     replace h := iteF hb h
     refine (wp_skip (then_normal ?_))
     refine wp_seq (wp_pure [(0, L a1 p0 c1), (1, I (w64 ((w64 (s1.1 + 1)) + 1))), (5, I s1.2)] hF (by kernel_rfl) fun fr hF => then_normal ?_)
     refine wp_seq ?_
     refine wp_seq (wp_text' ?_)
     refine from_pure 2 [(0, L a1 p0 c1), (1, I (w64 ((w64 (s1.1 + 1)) + 1))), (5, I s1.2), (30, L a1 p0 c1), (31, I s1.2)] hF (by kernel_rfl) fun fr hF => ?_
     obtain ⟨x3, hx3, h⟩ := bindE h
     refine s_elemField (z := x3) (u := I x3.N) ty121 Try.underlying73 ty3 rfl rfl rfl rfl rfl rfl hF rfl (ra0) rfl (get?_nn hx3) (get?_at hx3) rfl rfl rfl fun p p2 fr hF => ?_
     refine from_pure 2 [(0, L a1 p0 c1), (1, I (w64 ((w64 (s1.1 + 1)) + 1))), (5, I s1.2), (36, .bool (x3.N != (w64 ((w64 (s1.1 + 1)) + 1))))] hF (by kernel_rfl) fun fr hF => ?_
     refine from_end rfl (then_normal ?_)
     refine (wp_if hF (b := (x3.N != (w64 ((w64 (s1.1 + 1)) + 1)))) rfl (fun hb => ?_) (fun hb => ?_))
     · replace h := iteT hb h
       refine wp_seq (wp_pure [(4, I (-1))] hF (by kernel_rfl) fun fr hF => then_normal ?_)
       obtain rfl := hr1 _ (Option.some.inj h).symm
       obtain rfl := Option.some.inj hk1
       exact wp_ret (then_ret (blk_ret (then_ret (then_ret (blk_ret (then_ret (ret1 rfl hF rfl ⟨_, rfl, rfl, (hM0.trans hM1).chg⟩)))))))
     replace h := iteF hb h
     refine (wp_skip (then_normal ?_))
     refine wp_seq (wp_pure [(0, L a1 p0 c1), (1, I (w64 ((w64 ((w64 (s1.1 + 1)) + 1)) + 1))), (5, I s1.2)] hF (by kernel_rfl) fun fr hF => then_normal ?_)
     refine wp_seq ?_
     obtain ⟨x4, hx4, h⟩ := bindE h
     obtain ⟨x5, hx5, h⟩ := bindE h
     refine wp_seq (any_start mix fun w1 hc => ?_)
     have ra0 := ra0.ext hc
     have hs := hs.ext hc
     have hM1 := hM1.ext hc
     refine any_takes (fuel := 5) [0, 1, 5] [(0, L a1 p0 c1), (1, I (w64 ((w64 ((w64 (s1.1 + 1)) + 1)) + 1))), (5, I s1.2), (39, L a1 p0 c1), (40, I s1.2), (44, I (w64 ((w64 ((w64 (s1.1 + 1)) + 1)) + 1)))] hF (by kernel_rfl) (by kernel_rfl) (by kernel_rfl) (fun _ _ _ _ _ h => h) fun fr hF => ?_
     refine any_node (fuel := 4) [2, 6] (by kernel_rfl) (by simp) ⟨?_, ?_, trivial⟩
     · refine op_of _ rfl rfl ?_
       refine s_idx (z := x4) ty121 Try.underlying73 rfl rfl hF rfl (ra0) rfl (get?_nn hx4) (get?_at hx4) fun ad1 fr hc1 hF => ?_
       refine from_end rfl (then_normal ?_)
       refine any_node (fuel := 3) [3, 6] (by kernel_rfl) (by simp) ⟨?_, ?_, trivial⟩
       · refine op_of _ rfl rfl ?_
         refine s_fldE (z := x4) (u := Str.val x4.Name) rfl rfl hF rfl hc1 rfl rfl fun ad2 fr hc2 hF => ?_
         refine from_end rfl (then_normal ?_)
         refine any_node (fuel := 2) [4, 6] (by kernel_rfl) (by simp) ⟨?_, ?_, trivial⟩
         · refine op_of _ rfl rfl ?_
           refine s_ldC ty9 rfl rfl rfl hF rfl hc2 fun fr hF => ?_
           refine from_end rfl (then_normal ?_)
           refine any_node (fuel := 1) [6] (by kernel_rfl) (by simp) ⟨?_, trivial⟩
           · refine op_of _ rfl rfl ?_
             refine s_call [I (w64 ((w64 ((w64 (s1.1 + 1)) + 1)) + 1))] Try.call131 rfl rfl hF rfl (laws_markText_ok n (w64 ((w64 ((w64 (s1.1 + 1)) + 1)) + 1)) hx5) fun v w2 fr hRes hF => ?_
             obtain ⟨rfl, hc⟩ := hRes
             have ra0 := ra0.ext hc
             have hs := hs.ext hc
             have hM1 := hM1.ext hc
             refine from_end rfl (then_normal ?_)
             refine any_node (fuel := 0) [7] (by kernel_rfl) (by simp) ⟨?_, trivial⟩
             · refine op_of _ rfl rfl ?_
               refine from_pure 1 [(0, L a1 p0 c1), (1, I (w64 ((w64 ((w64 (s1.1 + 1)) + 1)) + 1))), (5, I s1.2), (46, .bool (!(Str.eqb x4.Name x5)))] hF (by kernel_rfl) fun fr hF => ?_
               refine from_end rfl (then_normal ?_)
               refine any_leaf (by kernel_rfl) (then_normal ?_)
               refine (wp_if hF (b := (!(Str.eqb x4.Name x5))) rfl (fun hb => ?_) (fun hb => ?_))
               · replace h := iteT hb h
                 refine wp_seq (wp_pure [(4, I (-1))] hF (by kernel_rfl) fun fr hF => then_normal ?_)
                 obtain rfl := hr1 _ (Option.some.inj h).symm
                 obtain rfl := Option.some.inj hk1
                 exact wp_ret (then_ret (blk_ret (then_ret (then_ret (blk_ret (then_ret (ret1 rfl hF rfl ⟨_, rfl, rfl, (hM0.trans hM1).chg⟩)))))))
               replace h := iteF hb h
               cases h
         · refine op_of _ rfl rfl ?_
           refine s_call [I (w64 ((w64 ((w64 (s1.1 + 1)) + 1)) + 1))] Try.call131 rfl rfl hF rfl (laws_markText_ok n (w64 ((w64 ((w64 (s1.1 + 1)) + 1)) + 1)) hx5) fun v w3 fr hRes hF => ?_
           obtain ⟨rfl, hc⟩ := hRes
           have ra0 := ra0.ext hc
           have hc2 := Cells.ext hc2 hc
           have hs := hs.ext hc
           have hM1 := hM1.ext hc
           refine from_end rfl (then_normal ?_)
           refine any_node (fuel := 1) [4] (by kernel_rfl) (by simp) ⟨?_, trivial⟩
           · refine op_of _ rfl rfl ?_
             refine s_ldC ty9 rfl rfl rfl hF rfl hc2 fun fr hF => ?_
             refine from_end rfl (then_normal ?_)
             refine any_node (fuel := 0) [7] (by kernel_rfl) (by simp) ⟨?_, trivial⟩
             · refine op_of _ rfl rfl ?_
               refine from_pure 1 [(0, L a1 p0 c1), (1, I (w64 ((w64 ((w64 (s1.1 + 1)) + 1)) + 1))), (5, I s1.2), (46, .bool (!(Str.eqb x4.Name x5)))] hF (by kernel_rfl) fun fr hF => ?_
               refine from_end rfl (then_normal ?_)
               refine any_leaf (by kernel_rfl) (then_normal ?_)
               refine (wp_if hF (b := (!(Str.eqb x4.Name x5))) rfl (fun hb => ?_) (fun hb => ?_))
               · replace h := iteT hb h
                 refine wp_seq (wp_pure [(4, I (-1))] hF (by kernel_rfl) fun fr hF => then_normal ?_)
                 obtain rfl := hr1 _ (Option.some.inj h).symm
                 obtain rfl := Option.some.inj hk1
                 exact wp_ret (then_ret (blk_ret (then_ret (then_ret (blk_ret (then_ret (ret1 rfl hF rfl ⟨_, rfl, rfl, (hM0.trans hM1).chg⟩)))))))
               replace h := iteF hb h
               cases h
       · refine op_of _ rfl rfl ?_
         refine s_call [I (w64 ((w64 ((w64 (s1.1 + 1)) + 1)) + 1))] Try.call131 rfl rfl hF rfl (laws_markText_ok n (w64 ((w64 ((w64 (s1.1 + 1)) + 1)) + 1)) hx5) fun v w4 fr hRes hF => ?_
         obtain ⟨rfl, hc⟩ := hRes
         have ra0 := ra0.ext hc
         have hc1 := Cells.ext hc1 hc
         have hs := hs.ext hc
         have hM1 := hM1.ext hc
         refine from_end rfl (then_normal ?_)
         refine any_node (fuel := 2) [3] (by kernel_rfl) (by simp) ⟨?_, trivial⟩
         · refine op_of _ rfl rfl ?_
           refine s_fldE (z := x4) (u := Str.val x4.Name) rfl rfl hF rfl hc1 rfl rfl fun ad3 fr hc3 hF => ?_
           refine from_end rfl (then_normal ?_)
           refine any_node (fuel := 1) [4] (by kernel_rfl) (by simp) ⟨?_, trivial⟩
           · refine op_of _ rfl rfl ?_
             refine s_ldC ty9 rfl rfl rfl hF rfl hc3 fun fr hF => ?_
             refine from_end rfl (then_normal ?_)
             refine any_node (fuel := 0) [7] (by kernel_rfl) (by simp) ⟨?_, trivial⟩
             · refine op_of _ rfl rfl ?_
               refine from_pure 1 [(0, L a1 p0 c1), (1, I (w64 ((w64 ((w64 (s1.1 + 1)) + 1)) + 1))), (5, I s1.2), (46, .bool (!(Str.eqb x4.Name x5)))] hF (by kernel_rfl) fun fr hF => ?_
               refine from_end rfl (then_normal ?_)
               refine any_leaf (by kernel_rfl) (then_normal ?_)
               refine (wp_if hF (b := (!(Str.eqb x4.Name x5))) rfl (fun hb => ?_) (fun hb => ?_))
               · replace h := iteT hb h
                 refine wp_seq (wp_pure [(4, I (-1))] hF (by kernel_rfl) fun fr hF => then_normal ?_)
                 obtain rfl := hr1 _ (Option.some.inj h).symm
                 obtain rfl := Option.some.inj hk1
                 exact wp_ret (then_ret (blk_ret (then_ret (then_ret (blk_ret (then_ret (ret1 rfl hF rfl ⟨_, rfl, rfl, (hM0.trans hM1).chg⟩)))))))
               replace h := iteF hb h
               cases h
     · refine op_of _ rfl rfl ?_
       refine s_call [I (w64 ((w64 ((w64 (s1.1 + 1)) + 1)) + 1))] Try.call131 rfl rfl hF rfl (laws_markText_ok n (w64 ((w64 ((w64 (s1.1 + 1)) + 1)) + 1)) hx5) fun v w5 fr hRes hF => ?_
       obtain ⟨rfl, hc⟩ := hRes
       have ra0 := ra0.ext hc
       have hs := hs.ext hc
       have hM1 := hM1.ext hc
       refine from_end rfl (then_normal ?_)
       refine any_node (fuel := 3) [2] (by kernel_rfl) (by simp) ⟨?_, trivial⟩
       · refine op_of _ rfl rfl ?_
         refine s_idx (z := x4) ty121 Try.underlying73 rfl rfl hF rfl (ra0) rfl (get?_nn hx4) (get?_at hx4) fun ad4 fr hc4 hF => ?_
         refine from_end rfl (then_normal ?_)
         refine any_node (fuel := 2) [3] (by kernel_rfl) (by simp) ⟨?_, trivial⟩
         · refine op_of _ rfl rfl ?_
           refine s_fldE (z := x4) (u := Str.val x4.Name) rfl rfl hF rfl hc4 rfl rfl fun ad5 fr hc5 hF => ?_
           refine from_end rfl (then_normal ?_)
           refine any_node (fuel := 1) [4] (by kernel_rfl) (by simp) ⟨?_, trivial⟩
           · refine op_of _ rfl rfl ?_
             refine s_ldC ty9 rfl rfl rfl hF rfl hc5 fun fr hF => ?_
             refine from_end rfl (then_normal ?_)
             refine any_node (fuel := 0) [7] (by kernel_rfl) (by simp) ⟨?_, trivial⟩
             · refine op_of _ rfl rfl ?_
               refine from_pure 1 [(0, L a1 p0 c1), (1, I (w64 ((w64 ((w64 (s1.1 + 1)) + 1)) + 1))), (5, I s1.2), (46, .bool (!(Str.eqb x4.Name x5)))] hF (by kernel_rfl) fun fr hF => ?_
               refine from_end rfl (then_normal ?_)
               refine any_leaf (by kernel_rfl) (then_normal ?_)
               refine (wp_if hF (b := (!(Str.eqb x4.Name x5))) rfl (fun hb => ?_) (fun hb => ?_))
               · replace h := iteT hb h
                 refine wp_seq (wp_pure [(4, I (-1))] hF (by kernel_rfl) fun fr hF => then_normal ?_)
                 obtain rfl := hr1 _ (Option.some.inj h).symm
                 obtain rfl := Option.some.inj hk1
                 exact wp_ret (then_ret (blk_ret (then_ret (then_ret (blk_ret (then_ret (ret1 rfl hF rfl ⟨_, rfl, rfl, (hM0.trans hM1).chg⟩)))))))
               replace h := iteF hb h
               cases h
   replace h := iteF hb h
   refine (wp_exit (then_exit (then_exit (blk_exit_eq ?_))))
   obtain rfl := hr1 _ (Option.some.inj h).symm
   exact then_normal ⟨_, rfl, S1, _, hF.sub _ (by kernel_rfl), hM1, hs⟩
 · obtain ⟨s1r, rfl, hM⟩ := hM
   obtain ⟨S2, F2, hF, hMx, hs⟩ := hM
   have hM0 := hM0.trans hMx
   refine wp_seq (wp_pure [(4, I s1r)] hF (by kernel_rfl) fun fr hF => then_normal ?_)
   obtain rfl := Option.some.inj h
   exact wp_ret (ret1 rfl hF rfl ⟨_, rfl, rfl, hM0.chg⟩)

theorem laws_heldTermS__1_ok (n : Nat) (p0 : List D.Term) (p1 : Int) {r : Int} (h : laws_heldTermS__1 n p0 p1 = some r) {w : World} {G0 : Nat → Prop} {va0 : Value} (ra0 : RV w G0 va0 p0) :
   Calls Try.prog 93 [va0, I p1].toArray w fun e w' => ∃ v, e = .returned v ∧ v = I r ∧ Chg Non w w' := by
 unfold laws_heldTermS__1 at h
 have hs := Sep.nil w Non
 have hM0 : Mem w Non (fun k => (G0 k) ∧ k < w.heap.size) w Non (fun k => (G0 k) ∧ k < w.heap.size) := Mem.start (fun _ h => h.elim) (fun _ h => h.2) (fun _ h => h.elim)
 have ra0 := ra0.sub (F' := (fun k => (G0 k) ∧ k < w.heap.size)) (fun k hk h => ⟨h, hk⟩)
 obtain ⟨a1, c1, rfl, -⟩ := ra0.slice
 refine enter (N := 59) Try.func93 rfl Try.ntmps93 rfl fun fr hF => ?_
 refine wp_seq (wp_pure [(0, L a1 p0 c1), (1, I p1)] hF (by kernel_rfl) fun fr hF => then_normal ?_)
 refine wp_seq ?_
 refine wp_seq (wp_pure [(0, L a1 p0 c1), (1, I p1), (5, I 0)] hF (by kernel_rfl) fun fr hF => then_normal ?_)
 obtain ⟨rl1, hit1, h⟩ := bindE h
 have hk1 := h
 refine (GL.wp_cut (M := fun fr w' => ∃ s, rl1 = .inl s ∧ ∃ S2 F2, FrS 59 [(1, I s)] fr ∧ Mem w Non (fun k => (G0 k) ∧ k < w.heap.size) w' S2 F2 ∧ Sep [] w' S2) (wp_block (wp_iter (Inv := fun s1 fr w' => ∃ S1 F1, FrS 59 [(0, L a1 p0 c1), (1, I s1.1), (5, I s1.2)] fr ∧ Mem w Non (fun k => (G0 k) ∧ k < w.heap.size) w' S1 F1 ∧ Sep [] w' S1) hit1 ⟨Non, _, hF.sub _ (by kernel_rfl), (Mem.start hM0.bd hM0.bdF hM0.dj), hs⟩ fun s1 q1 fr w1i hI h hr1 => ?_)) fun fr w1o hM => ?_)
 · obtain ⟨S1, F1, hF, hM1, hs⟩ := hI
   have ra0 := ra0.mem hM1
   refine wp_seq ?_
   refine wp_seq (wp_pure [(0, L a1 p0 c1), (1, I s1.1), (5, I s1.2), (9, .bool (decide (s1.2 < (len p0))))] hF (by kernel_rfl) fun fr hF => then_normal ?_)
   refine (wp_if hF (b := (decide (s1.2 < (len p0)))) rfl (fun hb => ?_) (fun hb => ?_))
   · replace h := iteT hb h
     refine (wp_skip (then_normal ?_))
     refine wp_seq (wp_block ?_)
     refine wp_seq ?_
     refine wp_seq (wp_text' ?_)
     refine from_pure 2 [(0, L a1 p0 c1), (1, I s1.1), (5, I s1.2), (12, L a1 p0 c1), (13, I s1.2)] hF (by kernel_rfl) fun fr hF => ?_
     obtain ⟨x1, hx1, h⟩ := bindE h
     refine s_elemField (z := x1) (u := I x1.Op) ty121 Try.underlying73 ty3 rfl rfl rfl rfl rfl rfl hF rfl (ra0) rfl (get?_nn hx1) (get?_at hx1) rfl rfl rfl fun p p2 fr hF => ?_
     refine from_pure 2 [(0, L a1 p0 c1), (1, I s1.1), (5, I s1.2), (18, .bool (x1.Op != s1.1))] hF (by kernel_rfl) fun fr hF => ?_
     refine from_end rfl (then_normal ?_)
     refine (wp_if hF (b := (x1.Op != s1.1)) rfl (fun hb => ?_) (fun hb => ?_))
     · replace h := iteT hb h
       refine wp_seq (wp_pure [(4, I (-1))] hF (by kernel_rfl) fun fr hF => then_normal ?_)
       obtain rfl := hr1 _ (Option.some.inj h).symm
       obtain rfl := Option.some.inj hk1
       exact wp_ret (then_ret (blk_ret (then_ret (then_ret (blk_ret (then_ret (ret1 rfl hF rfl ⟨_, rfl, rfl, (hM0.trans hM1).chg⟩)))))))
     replace h := iteF hb h
     refine (wp_skip (then_normal ?_))
     refine wp_seq (wp_pure [(0, L a1 p0 c1), (1, I (w64 (s1.1 + 1))), (5, I s1.2)] hF (by kernel_rfl) fun fr hF => then_normal ?_)
     refine wp_seq ?_
     refine wp_seq (wp_text' ?_)
     refine from_pure 2 [(0, L a1 p0 c1), (1, I (w64 (s1.1 + 1))), (5, I s1.2), (21, L a1 p0 c1), (22, I s1.2)] hF (by kernel_rfl) fun fr hF => ?_
     obtain ⟨x2, hx2, h⟩ := bindE h
     refine s_elemField (z := x2) (u := I x2.W) ty121 Try.underlying73 ty3 rfl rfl rfl rfl rfl rfl hF rfl (ra0) rfl (get?_nn hx2) (get?_at hx2) rfl rfl rfl fun p p2 fr hF => ?_
     refine from_pure 2 [(0, L a1 p0 c1), (1, I (w64 (s1.1 + 1))), (5, I s1.2), (27, .bool (x2.W != (w64 (s1.1 + 1))))] hF (by kernel_rfl) fun fr hF => ?_
     refine from_end rfl (then_normal ?_)
     refine (wp_if hF (b := (x2.W != (w64 (s1.1 + 1)))) rfl (fun hb => ?_) (fun hb => ?_))
     · replace h := iteT hb h
       refine wp_seq (wp_pure [(4, I (-1))] hF (by kernel_rfl) fun fr hF => then_normal ?_)
       obtain rfl := hr1 _ (Option.some.inj h).symm
       obtain rfl := Option.some.inj hk1
       exact wp_ret (then_ret (blk_ret (then_ret (then_ret (blk_ret (then_ret (ret1 rfl hF rfl ⟨_, rfl, rfl, (hM0.trans hM1).chg⟩)))))))
     replace h := iteF hb h
     refine (wp_skip (then_normal ?_))
     refine wp_seq (wp_pure [(0, L a1 p0 c1), (1, I (w64 ((w64 (s1.1 + 1)) + 1))), (5, I s1.2)] hF (by kernel_rfl) fun fr hF => then_normal ?_)
     refine wp_seq ?_
     refine wp_seq (wp_text' ?_)
     refine from_pure 2 [(0, L a1 p0 c1), (1, I (w64 ((w64 (s1.1 + 1)) + 1))), (5, I s1.2), (30, L a1 p0 c1), (31, I s1.2)] hF (by kernel_rfl) fun fr hF => ?_
     obtain ⟨x3, hx3, h⟩ := bindE h
     refine s_elemField (z := x3) (u := I x3.N) ty121 Try.underlying73 ty3 rfl rfl rfl rfl rfl rfl hF rfl (ra0) rfl (get?_nn hx3) (get?_at hx3) rfl rfl rfl fun p p2 fr hF => ?_
     refine from_pure 2 [(0, L a1 p0 c1), (1, I (w64 ((w64 (s1.1 + 1)) + 1))), (5, I s1.2), (36, .bool (x3.N != (w64 ((w64 (s1.1 + 1)) + 1))))] hF (by kernel_rfl) fun fr hF => ?_
     refine from_end rfl (then_normal ?_)
     refine (wp_if hF (b := (x3.N != (w64 ((w64 (s1.1 + 1)) + 1)))) rfl (fun hb => ?_) (fun hb => ?_))
     · replace h := iteT hb h
       refine wp_seq (wp_pure [(4, I (-1))] hF (by kernel_rfl) fun fr hF => then_normal ?_)
       obtain rfl := hr1 _ (Option.some.inj h).symm
       obtain rfl := Option.some.inj hk1
       exact wp_ret (then_ret (blk_ret (then_ret (then_ret (blk_ret (then_ret (ret1 rfl hF rfl ⟨_, rfl, rfl, (hM0.trans hM1).chg⟩)))))))
     replace h := iteF hb h
     refine (wp_skip (then_normal ?_))
     refine wp_seq (wp_pure [(0, L a1 p0 c1), (1, I (w64 ((w64 ((w64 (s1.1 + 1)) + 1)) + 1))), (5, I s1.2)] hF (by kernel_rfl) fun fr hF => then_normal ?_)
     refine wp_seq ?_
     obtain ⟨x4, hx4, h⟩ := bindE h
     obtain ⟨x5, hx5, h⟩ := bindE h
     refine wp_seq (any_start mix fun w1 hc => ?_)
     have ra0 := ra0.ext hc
     have hs := hs.ext hc
     have hM1 := hM1.ext hc
     refine any_takes (fuel := 5) [0, 1, 5] [(0, L a1 p0 c1), (1, I (w64 ((w64 ((w64 (s1.1 + 1)) + 1)) + 1))), (5, I s1.2), (39, L a1 p0 c1), (40, I s1.2), (44, I (w64 ((w64 ((w64 (s1.1 + 1)) + 1)) + 1)))] hF (by kernel_rfl) (by kernel_rfl) (by kernel_rfl) (fun _ _ _ _ _ h => h) fun fr hF => ?_
     refine any_node (fuel := 4) [2, 6] (by kernel_rfl) (by simp) ⟨?_, ?_, trivial⟩
     · refine op_of _ rfl rfl ?_
       refine s_idx (z := x4) ty121 Try.underlying73 rfl rfl hF rfl (ra0) rfl (get?_nn hx4) (get?_at hx4) fun ad1 fr hc1 hF => ?_
       refine from_end rfl (then_normal ?_)
       refine any_node (fuel := 3) [3, 6] (by kernel_rfl) (by simp) ⟨?_, ?_, trivial⟩
       · refine op_of _ rfl rfl ?_
         refine s_fldE (z := x4) (u := Str.val x4.Name) rfl rfl hF rfl hc1 rfl rfl fun ad2 fr hc2 hF => ?_
         refine from_end rfl (then_normal ?_)
         refine any_node (fuel := 2) [4, 6] (by kernel_rfl) (by simp) ⟨?_, ?_, trivial⟩
         · refine op_of _ rfl rfl ?_
           refine s_ldC ty9 rfl rfl rfl hF rfl hc2 fun fr hF => ?_
           refine from_end rfl (then_normal ?_)
           refine any_node (fuel := 1) [6] (by kernel_rfl) (by simp) ⟨?_, trivial⟩
           · refine op_of _ rfl rfl ?_
             refine s_call [I (w64 ((w64 ((w64 (s1.1 + 1)) + 1)) + 1))] Try.call131 rfl rfl hF rfl (laws_markText_ok n (w64 ((w64 ((w64 (s1.1 + 1)) + 1)) + 1)) hx5) fun v w2 fr hRes hF => ?_
             obtain ⟨rfl, hc⟩ := hRes
             have ra0 := ra0.ext hc
             have hs := hs.ext hc
             have hM1 := hM1.ext hc
             refine from_end rfl (then_normal ?_)
             refine any_node (fuel := 0) [7] (by kernel_rfl) (by simp) ⟨?_, trivial⟩
             · refine op_of _ rfl rfl ?_
               refine from_pure 1 [(0, L a1 p0 c1), (1, I (w64 ((w64 ((w64 (s1.1 + 1)) + 1)) + 1))), (5, I s1.2), (46, .bool (!(Str.eqb x4.Name x5)))] hF (by kernel_rfl) fun fr hF => ?_
               refine from_end rfl (then_normal ?_)
               refine any_leaf (by kernel_rfl) (then_normal ?_)
               refine (wp_if hF (b := (!(Str.eqb x4.Name x5))) rfl (fun hb => ?_) (fun hb => ?_))
               · replace h := iteT hb h
                 refine wp_seq (wp_pure [(4, I (-1))] hF (by kernel_rfl) fun fr hF => then_normal ?_)
                 obtain rfl := hr1 _ (Option.some.inj h).symm
                 obtain rfl := Option.some.inj hk1
                 exact wp_ret (then_ret (blk_ret (then_ret (then_ret (blk_ret (then_ret (ret1 rfl hF rfl ⟨_, rfl, rfl, (hM0.trans hM1).chg⟩)))))))
               replace h := iteF hb h
               refine (wp_skip (then_normal ?_))
               refine wp_seq (wp_pure [(0, L a1 p0 c1), (1, I (w64 ((w64 ((w64 ((w64 (s1.1 + 1)) + 1)) + 1)) + 1))), (5, I s1.2)] hF (by kernel_rfl) fun fr hF => then_normal ?_)
               refine wp_seq (wp_text' ?_)
               refine from_pure 2 [(0, L a1 p0 c1), (1, I (w64 ((w64 ((w64 ((w64 (s1.1 + 1)) + 1)) + 1)) + 1))), (5, I s1.2), (49, L a1 p0 c1), (50, I s1.2)] hF (by kernel_rfl) fun fr hF => ?_
               obtain ⟨x6, hx6, h⟩ := bindE h
               refine s_elemField (z := x6) (u := L none ([] : List D.Term) 0) ty121 Try.underlying73 ty73 rfl rfl rfl rfl rfl rfl hF rfl (ra0) rfl (get?_nn hx6) (get?_at hx6) rfl rfl rfl fun p p2 fr hF => ?_
               refine from_pure 1 [(0, L a1 p0 c1), (5, I s1.2), (53, L none ([] : List D.Term) 0), (54, I (w64 ((w64 ((w64 ((w64 (s1.1 + 1)) + 1)) + 1)) + 1)))] hF (by kernel_rfl) fun fr hF => ?_
               obtain ⟨x7, hx7, h⟩ := bindE h
               refine s_call [L none ([] : List D.Term) 0, I (w64 ((w64 ((w64 ((w64 (s1.1 + 1)) + 1)) + 1)) + 1))] Try.call93 rfl rfl hF rfl (laws_heldTermS__0_ok n ([] : List D.Term) (w64 ((w64 ((w64 ((w64 (s1.1 + 1)) + 1)) + 1)) + 1)) hx7 (RV.nil (F := Non))) fun v w3 fr hRes hF => ?_
               obtain ⟨rfl, hc⟩ := hRes
               have ra0 := ra0.ext hc
               have hs := hs.ext hc
               have hM1 := hM1.ext hc
               refine from_pure 1 [(0, L a1 p0 c1), (1, I x7), (5, I s1.2)] hF (by kernel_rfl) fun fr hF => ?_
               refine from_end rfl (then_normal ?_)
               refine wp_seq (wp_pure [(0, L a1 p0 c1), (1, I x7), (5, I s1.2), (57, .bool (decide (x7 < 0)))] hF (by kernel_rfl) fun fr hF => then_normal ?_)
               refine (wp_if hF (b := (decide (x7 < 0))) rfl (fun hb => ?_) (fun hb => ?_))
               · replace h := iteT hb h
                 refine wp_seq (wp_pure [(4, I (-1))] hF (by kernel_rfl) fun fr hF => then_normal ?_)
                 obtain rfl := hr1 _ (Option.some.inj h).symm
                 obtain rfl := Option.some.inj hk1
                 exact wp_ret (blk_ret (then_ret (then_ret (blk_ret (then_ret (ret1 rfl hF rfl ⟨_, rfl, rfl, (hM0.trans hM1).chg⟩))))))
               replace h := iteF hb h
               refine (wp_skip ?_)
               refine blk_normal (then_normal ?_)
               refine (wp_pure [(0, L a1 p0 c1), (1, I x7), (5, I (w64 (s1.2 + 1)))] hF (by kernel_rfl) fun fr hF => then_normal ?_)
               exact ⟨_, (Option.some.inj h).symm, S1, _, hF.sub _ (by kernel_rfl), hM1, hs⟩
         · refine op_of _ rfl rfl ?_
           refine s_call [I (w64 ((w64 ((w64 (s1.1 + 1)) + 1)) + 1))] Try.call131 rfl rfl hF rfl (laws_markText_ok n (w64 ((w64 ((w64 (s1.1 + 1)) + 1)) + 1)) hx5) fun v w4 fr hRes hF => ?_
           obtain ⟨rfl, hc⟩ := hRes
           have ra0 := ra0.ext hc
           have hc2 := Cells.ext hc2 hc
           have hs := hs.ext hc
           have hM1 := hM1.ext hc
           refine from_end rfl (then_normal ?_)
           refine any_node (fuel := 1) [4] (by kernel_rfl) (by simp) ⟨?_, trivial⟩
           · refine op_of _ rfl rfl ?_
             refine s_ldC ty9 rfl rfl rfl hF rfl hc2 fun fr hF => ?_
             refine from_end rfl (then_normal ?_)
             refine any_node (fuel := 0) [7] (by kernel_rfl) (by simp) ⟨?_, trivial⟩
             · refine op_of _ rfl rfl ?_
               refine from_pure 1 [(0, L a1 p0 c1), (1, I (w64 ((w64 ((w64 (s1.1 + 1)) + 1)) + 1))), (5, I s1.2), (46, .bool (!(Str.eqb x4.Name x5)))] hF (by kernel_rfl) fun fr hF => ?_
               refine from_end rfl (then_normal ?_)
               refine any_leaf (by kernel_rfl) (then_normal ?_)
               refine (wp_if hF (b := (!(Str.eqb x4.Name x5))) rfl (fun hb => ?_) (fun hb => ?_))
               · replace h := iteT hb h
                 refine wp_seq (wp_pure [(4, I (-1))] hF (by kernel_rfl) fun fr hF => then_normal ?_)
                 obtain rfl := hr1 _ (Option.some.inj h).symm
                 obtain rfl := Option.some.inj hk1
                 exact wp_ret (then_ret (blk_ret (then_ret (then_ret (blk_ret (then_ret (ret1 rfl hF rfl ⟨_, rfl, rfl, (hM0.trans hM1).chg⟩)))))))
               replace h := iteF hb h
               refine (wp_skip (then_normal ?_))
               refine wp_seq (wp_pure [(0, L a1 p0 c1), (1, I (w64 ((w64 ((w64 ((w64 (s1.1 + 1)) + 1)) + 1)) + 1))), (5, I s1.2)] hF (by kernel_rfl) fun fr hF => then_normal ?_)
               refine wp_seq (wp_text' ?_)
               refine from_pure 2 [(0, L a1 p0 c1), (1, I (w64 ((w64 ((w64 ((w64 (s1.1 + 1)) + 1)) + 1)) + 1))), (5, I s1.2), (49, L a1 p0 c1), (50, I s1.2)] hF (by kernel_rfl) fun fr hF => ?_
               obtain ⟨x8, hx8, h⟩ := bindE h
               refine s_elemField (z := x8) (u := L none ([] : List D.Term) 0) ty121 Try.underlying73 ty73 rfl rfl rfl rfl rfl rfl hF rfl (ra0) rfl (get?_nn hx8) (get?_at hx8) rfl rfl rfl fun p p2 fr hF => ?_
               refine from_pure 1 [(0, L a1 p0 c1), (5, I s1.2), (53, L none ([] : List D.Term) 0), (54, I (w64 ((w64 ((w64 ((w64 (s1.1 + 1)) + 1)) + 1)) + 1)))] hF (by kernel_rfl) fun fr hF => ?_
               obtain ⟨x9, hx9, h⟩ := bindE h
               refine s_call [L none ([] : List D.Term) 0, I (w64 ((w64 ((w64 ((w64 (s1.1 + 1)) + 1)) + 1)) + 1))] Try.call93 rfl rfl hF rfl (laws_heldTermS__0_ok n ([] : List D.Term) (w64 ((w64 ((w64 ((w64 (s1.1 + 1)) + 1)) + 1)) + 1)) hx9 (RV.nil (F := Non))) fun v w5 fr hRes hF => ?_
               obtain ⟨rfl, hc⟩ := hRes
               have ra0 := ra0.ext hc
               have hs := hs.ext hc
               have hM1 := hM1.ext hc
               refine from_pure 1 [(0, L a1 p0 c1), (1, I x9), (5, I s1.2)] hF (by kernel_rfl) fun fr hF => ?_
               refine from_end rfl (then_normal ?_)
               refine wp_seq (wp_pure [(0, L a1 p0 c1), (1, I x9), (5, I s1.2), (57, .bool (decide (x9 < 0)))] hF (by kernel_rfl) fun fr hF => then_normal ?_)
               refine (wp_if hF (b := (decide (x9 < 0))) rfl (fun hb => ?_) (fun hb => ?_))
               · replace h := iteT hb h
                 refine wp_seq (wp_pure [(4, I (-1))] hF (by kernel_rfl) fun fr hF => then_normal ?_)
                 obtain rfl := hr1 _ (Option.some.inj h).symm
                 obtain rfl := Option.some.inj hk1
                 exact wp_ret (blk_ret (then_ret (then_ret (blk_ret (then_ret (ret1 rfl hF rfl ⟨_, rfl, rfl, (hM0.trans hM1).chg⟩))))))
               replace h := iteF hb h
               refine (wp_skip ?_)
               refine blk_normal (then_normal ?_)
               refine (wp_pure [(0, L a1 p0 c1), (1, I x9), (5, I (w64 (s1.2 + 1)))] hF (by kernel_rfl) fun fr hF => then_normal ?_)
               exact ⟨_, (Option.some.inj h).symm, S1, _, hF.sub _ (by kernel_rfl), hM1, hs⟩
       · refine op_of _ rfl rfl ?_
         refine s_call [I (w64 ((w64 ((w64 (s1.1 + 1)) + 1)) + 1))] Try.call131 rfl rfl hF rfl (laws_markText_ok n (w64 ((w64 ((w64 (s1.1 + 1)) + 1)) + 1)) hx5) fun v w6 fr hRes hF => ?_
         obtain ⟨rfl, hc⟩ := hRes
         have ra0 := ra0.ext hc
         have hc1 := Cells.ext hc1 hc
         have hs := hs.ext hc
         have hM1 := hM1.ext hc
         refine from_end rfl (then_normal ?_)
         refine any_node (fuel := 2) [3] (by kernel_rfl) (by simp) ⟨?_, trivial⟩
         · refine op_of _ rfl rfl ?_
           refine s_fldE (z := x4) (u := Str.val x4.Name) rfl rfl hF rfl hc1 rfl rfl fun ad3 fr hc3 hF => ?_
           refine from_end rfl (then_normal ?_)
           refine any_node (fuel := 1) [4] (by kernel_rfl) (by simp) ⟨?_, trivial⟩
           · refine op_of _ rfl rfl ?_
             refine s_ldC ty9 rfl rfl rfl hF rfl hc3 fun fr hF => ?_
             refine from_end rfl (then_normal ?_)
             refine any_node (fuel := 0) [7] (by kernel_rfl) (by simp) ⟨?_, trivial⟩
             · refine op_of _ rfl rfl ?_
               refine from_pure 1 [(0, L a1 p0 c1), (1, I (w64 ((w64 ((w64 (s1.1 + 1)) + 1)) + 1))), (5, I s1.2), (46, .bool (!(Str.eqb x4.Name x5)))] hF (by kernel_rfl) fun fr hF => ?_
               refine from_end rfl (then_normal ?_)
               refine any_leaf (by kernel_rfl) (then_normal ?_)
               refine (wp_if hF (b := (!(Str.eqb x4.Name x5))) rfl (fun hb => ?_) (fun hb => ?_))
               · replace h := iteT hb h
                 refine wp_seq (wp_pure [(4, I (-1))] hF (by kernel_rfl) fun fr hF => then_normal ?_)
                 obtain rfl := hr1 _ (Option.some.inj h).symm
                 obtain rfl := Option.some.inj hk1
                 exact wp_ret (then_ret (blk_ret (then_ret (then_ret (blk_ret (then_ret (ret1 rfl hF rfl ⟨_, rfl, rfl, (hM0.trans hM1).chg⟩)))))))
               replace h := iteF hb h
               refine (wp_skip (then_normal ?_))
               refine wp_seq (wp_pure [(0, L a1 p0 c1), (1, I (w64 ((w64 ((w64 ((w64 (s1.1 + 1)) + 1)) + 1)) + 1))), (5, I s1.2)] hF (by kernel_rfl) fun fr hF => then_normal ?_)
               refine wp_seq (wp_text' ?_)
               refine from_pure 2 [(0, L a1 p0 c1), (1, I (w64 ((w64 ((w64 ((w64 (s1.1 + 1)) + 1)) + 1)) + 1))), (5, I s1.2), (49, L a1 p0 c1), (50, I s1.2)] hF (by kernel_rfl) fun fr hF => ?_
               obtain ⟨x10, hx10, h⟩ := bindE h
               refine s_elemField (z := x10) (u := L none ([] : List D.Term) 0) ty121 Try.underlying73 ty73 rfl rfl rfl rfl rfl rfl hF rfl (ra0) rfl (get?_nn hx10) (get?_at hx10) rfl rfl rfl fun p p2 fr hF => ?_
               refine from_pure 1 [(0, L a1 p0 c1), (5, I s1.2), (53, L none ([] : List D.Term) 0), (54, I (w64 ((w64 ((w64 ((w64 (s1.1 + 1)) + 1)) + 1)) + 1)))] hF (by kernel_rfl) fun fr hF => ?_
               obtain ⟨x11, hx11, h⟩ := bindE h
               refine s_call [L none ([] : List D.Term) 0, I (w64 ((w64 ((w64 ((w64 (s1.1 + 1)) + 1)) + 1)) + 1))] Try.call93 rfl rfl hF rfl (laws_heldTermS__0_ok n ([] : List D.Term) (w64 ((w64 ((w64 ((w64 (s1.1 + 1)) + 1)) + 1)) + 1)) hx11 (RV.nil (F := Non))) fun v w7 fr hRes hF => ?_
               obtain ⟨rfl, hc⟩ := hRes
               have ra0 := ra0.ext hc
               have hs := hs.ext hc
               have hM1 := hM1.ext hc
               refine from_pure 1 [(0, L a1 p0 c1), (1, I x11), (5, I s1.2)] hF (by kernel_rfl) fun fr hF => ?_
               refine from_end rfl (then_normal ?_)
               refine wp_seq (wp_pure [(0, L a1 p0 c1), (1, I x11), (5, I s1.2), (57, .bool (decide (x11 < 0)))] hF (by kernel_rfl) fun fr hF => then_normal ?_)
               refine (wp_if hF (b := (decide (x11 < 0))) rfl (fun hb => ?_) (fun hb => ?_))
               · replace h := iteT hb h
                 refine wp_seq (wp_pure [(4, I (-1))] hF (by kernel_rfl) fun fr hF => then_normal ?_)
                 obtain rfl := hr1 _ (Option.some.inj h).symm
                 obtain rfl := Option.some.inj hk1
                 exact wp_ret (blk_ret (then_ret (then_ret (blk_ret (then_ret (ret1 rfl hF rfl ⟨_, rfl, rfl, (hM0.trans hM1).chg⟩))))))
               replace h := iteF hb h
               refine (wp_skip ?_)
               refine blk_normal (then_normal ?_)
               refine (wp_pure [(0, L a1 p0 c1), (1, I x11), (5, I (w64 (s1.2 + 1)))] hF (by kernel_rfl) fun fr hF => then_normal ?_)
               exact ⟨_, (Option.some.inj h).symm, S1, _, hF.sub _ (by kernel_rfl), hM1, hs⟩
     · refine op_of _ rfl rfl ?_
       refine s_call [I (w64 ((w64 ((w64 (s1.1 + 1)) + 1)) + 1))] Try.call131 rfl rfl hF rfl (laws_markText_ok n (w64 ((w64 ((w64 (s1.1 + 1)) + 1)) + 1)) hx5) fun v w8 fr hRes hF => ?_
       obtain ⟨rfl, hc⟩ := hRes
       have ra0 := ra0.ext hc
       have hs := hs.ext hc
       have hM1 := hM1.ext hc
       refine from_end rfl (then_normal ?_)
       refine any_node (fuel := 3) [2] (by kernel_rfl) (by simp) ⟨?_, trivial⟩
       · refine op_of _ rfl rfl ?_
         refine s_idx (z := x4) ty121 Try.underlying73 rfl rfl hF rfl (ra0) rfl (get?_nn hx4) (get?_at hx4) fun ad4 fr hc4 hF => ?_
         refine from_end rfl (then_normal ?_)
         refine any_node (fuel := 2) [3] (by kernel_rfl) (by simp) ⟨?_, trivial⟩
         · refine op_of _ rfl rfl ?_
           refine s_fldE (z := x4) (u := Str.val x4.Name) rfl rfl hF rfl hc4 rfl rfl fun ad5 fr hc5 hF => ?_
           refine from_end rfl (then_normal ?_)
           refine any_node (fuel := 1) [4] (by kernel_rfl) (by simp) ⟨?_, trivial⟩
           · refine op_of _ rfl rfl ?_
             refine s_ldC ty9 rfl rfl rfl hF rfl hc5 fun fr hF => ?_
             refine from_end rfl (then_normal ?_)
             refine any_node (fuel := 0) [7] (by kernel_rfl) (by simp) ⟨?_, trivial⟩
             · refine op_of _ rfl rfl ?_
               refine from_pure 1 [(0, L a1 p0 c1), (1, I (w64 ((w64 ((w64 (s1.1 + 1)) + 1)) + 1))), (5, I s1.2), (46, .bool (!(Str.eqb x4.Name x5)))] hF (by kernel_rfl) fun fr hF => ?_
               refine from_end rfl (then_normal ?_)
               refine any_leaf (by kernel_rfl) (then_normal ?_)
               refine (wp_if hF (b := (!(Str.eqb x4.Name x5))) rfl (fun hb => ?_) (fun hb => ?_))
               · replace h := iteT hb h
                 refine wp_seq (wp_pure [(4, I (-1))] hF (by kernel_rfl) fun fr hF => then_normal ?_)
                 obtain rfl := hr1 _ (Option.some.inj h).symm
                 obtain rfl := Option.some.inj hk1
                 exact wp_ret (then_ret (blk_ret (then_ret (then_ret (blk_ret (then_ret (ret1 rfl hF rfl ⟨_, rfl, rfl, (hM0.trans hM1).chg⟩)))))))
               replace h := iteF hb h
               refine (wp_skip (then_normal ?_))
               refine wp_seq (wp_pure [(0, L a1 p0 c1), (1, I (w64 ((w64 ((w64 ((w64 (s1.1 + 1)) + 1)) + 1)) + 1))), (5, I s1.2)] hF (by kernel_rfl) fun fr hF => then_normal ?_)
               refine wp_seq (wp_text' ?_)
               refine from_pure 2 [(0, L a1 p0 c1), (1, I (w64 ((w64 ((w64 ((w64 (s1.1 + 1)) + 1)) + 1)) + 1))), (5, I s1.2), (49, L a1 p0 c1), (50, I s1.2)] hF (by kernel_rfl) fun fr hF => ?_
               obtain ⟨x12, hx12, h⟩ := bindE h
               refine s_elemField (z := x12) (u := L none ([] : List D.Term) 0) ty121 Try.underlying73 ty73 rfl rfl rfl rfl rfl rfl hF rfl (ra0) rfl (get?_nn hx12) (get?_at hx12) rfl rfl rfl fun p p2 fr hF => ?_
               refine from_pure 1 [(0, L a1 p0 c1), (5, I s1.2), (53, L none ([] : List D.Term) 0), (54, I (w64 ((w64 ((w64 ((w64 (s1.1 + 1)) + 1)) + 1)) + 1)))] hF (by kernel_rfl) fun fr hF => ?_
               obtain ⟨x13, hx13, h⟩ := bindE h
               refine s_call [L none ([] : List D.Term) 0, I (w64 ((w64 ((w64 ((w64 (s1.1 + 1)) + 1)) + 1)) + 1))] Try.call93 rfl rfl hF rfl (laws_heldTermS__0_ok n ([] : List D.Term) (w64 ((w64 ((w64 ((w64 (s1.1 + 1)) + 1)) + 1)) + 1)) hx13 (RV.nil (F := Non))) fun v w9 fr hRes hF => ?_
               obtain ⟨rfl, hc⟩ := hRes
               have ra0 := ra0.ext hc
               have hs := hs.ext hc
               have hM1 := hM1.ext hc
               refine from_pure 1 [(0, L a1 p0 c1), (1, I x13), (5, I s1.2)] hF (by kernel_rfl) fun fr hF => ?_
               refine from_end rfl (then_normal ?_)
               refine wp_seq (wp_pure [(0, L a1 p0 c1), (1, I x13), (5, I s1.2), (57, .bool (decide (x13 < 0)))] hF (by kernel_rfl) fun fr hF => then_normal ?_)
               refine (wp_if hF (b := (decide (x13 < 0))) rfl (fun hb => ?_) (fun hb => ?_))
               · replace h := iteT hb h
                 refine wp_seq (wp_pure [(4, I (-1))] hF (by kernel_rfl) fun fr hF => then_normal ?_)
                 obtain rfl := hr1 _ (Option.some.inj h).symm
                 obtain rfl := Option.some.inj hk1
                 exact wp_ret (blk_ret (then_ret (then_ret (blk_ret (then_ret (ret1 rfl hF rfl ⟨_, rfl, rfl, (hM0.trans hM1).chg⟩))))))
               replace h := iteF hb h
               refine (wp_skip ?_)
               refine blk_normal (then_normal ?_)
               refine (wp_pure [(0, L a1 p0 c1), (1, I x13), (5, I (w64 (s1.2 + 1)))] hF (by kernel_rfl) fun fr hF => then_normal ?_)
               exact ⟨_, (Option.some.inj h).symm, S1, _, hF.sub _ (by kernel_rfl), hM1, hs⟩
   replace h := iteF hb h
   refine (wp_exit (then_exit (then_exit (blk_exit_eq ?_))))
   obtain rfl := hr1 _ (Option.some.inj h).symm
   exact then_normal ⟨_, rfl, S1, _, hF.sub _ (by kernel_rfl), hM1, hs⟩
 · obtain ⟨s1r, rfl, hM⟩ := hM
   obtain ⟨S2, F2, hF, hMx, hs⟩ := hM
   have hM0 := hM0.trans hMx
   refine wp_seq (wp_pure [(4, I s1r)] hF (by kernel_rfl) fun fr hF => then_normal ?_)
   obtain rfl := Option.some.inj h
   exact wp_ret (ret1 rfl hF rfl ⟨_, rfl, rfl, hM0.chg⟩)

theorem laws_heldIntS_ok (n : Nat) (p0 : List Int) (p1 : Int) {r : Int} (h : laws_heldIntS n p0 p1 = some r) {w : World} {G0 : Nat → Prop} {va0 : Value} (ra0 : RV w G0 va0 p0) :
   Calls Try.prog 19 [va0, I p1].toArray w fun e w' => ∃ v, e = .returned v ∧ v = I r ∧ Chg Non w w' := by
 unfold laws_heldIntS at h
 have hs := Sep.nil w Non
 have hM0 : Mem w Non (fun k => (G0 k) ∧ k < w.heap.size) w Non (fun k => (G0 k) ∧ k < w.heap.size) := Mem.start (fun _ h => h.elim) (fun _ h => h.2) (fun _ h => h.elim)
 have ra0 := ra0.sub (F' := (fun k => (G0 k) ∧ k < w.heap.size)) (fun k hk h => ⟨h, hk⟩)
 obtain ⟨a1, c1, rfl, -⟩ := ra0.slice
 refine enter (N := 21) Try.func19 rfl Try.ntmps19 rfl fun fr hF => ?_
 refine wp_seq (wp_pure [(0, L a1 p0 c1), (1, I p1)] hF (by kernel_rfl) fun fr hF => then_normal ?_)
 refine wp_seq ?_
 refine wp_seq (wp_pure [(0, L a1 p0 c1), (1, I p1), (5, I 0)] hF (by kernel_rfl) fun fr hF => then_normal ?_)
 obtain ⟨rl1, hit1, h⟩ := bindE h
 have hk1 := h
 refine (GL.wp_cut (M := fun fr w' => ∃ s, rl1 = .inl s ∧ ∃ S2 F2, FrS 21 [(1, I s)] fr ∧ Mem w Non (fun k => (G0 k) ∧ k < w.heap.size) w' S2 F2 ∧ Sep [] w' S2) (wp_block (wp_iter (Inv := fun s1 fr w' => ∃ S1 F1, FrS 21 [(0, L a1 p0 c1), (1, I s1.1), (5, I s1.2)] fr ∧ Mem w Non (fun k => (G0 k) ∧ k < w.heap.size) w' S1 F1 ∧ Sep [] w' S1) hit1 ⟨Non, _, hF.sub _ (by kernel_rfl), (Mem.start hM0.bd hM0.bdF hM0.dj), hs⟩ fun s1 q1 fr w1i hI h hr1 => ?_)) fun fr w1o hM => ?_)
 · obtain ⟨S1, F1, hF, hM1, hs⟩ := hI
   have ra0 := ra0.mem hM1
   refine wp_seq ?_
   refine wp_seq (wp_pure [(0, L a1 p0 c1), (1, I s1.1), (5, I s1.2), (9, .bool (decide (s1.2 < (len p0))))] hF (by kernel_rfl) fun fr hF => then_normal ?_)
   refine (wp_if hF (b := (decide (s1.2 < (len p0)))) rfl (fun hb => ?_) (fun hb => ?_))
   · replace h := iteT hb h
     refine (wp_skip (then_normal ?_))
     refine wp_seq (wp_block ?_)
     refine wp_seq ?_
     refine wp_seq (wp_text' ?_)
     refine from_pure 2 [(0, L a1 p0 c1), (1, I s1.1), (5, I s1.2), (12, L a1 p0 c1), (13, I s1.2)] hF (by kernel_rfl) fun fr hF => ?_
     obtain ⟨x1, hx1, h⟩ := bindE h
     refine s_elemF (z := x1) (I x1) ty3 Try.underlying26 rfl rfl rfl rfl rfl hF rfl (ra0) rfl (get?_nn hx1) (get?_at hx1) rfl fun p fr hF => ?_
     refine from_pure 2 [(0, L a1 p0 c1), (1, I s1.1), (5, I s1.2), (17, .bool (x1 != s1.1))] hF (by kernel_rfl) fun fr hF => ?_
     refine from_end rfl (then_normal ?_)
     refine (wp_if hF (b := (x1 != s1.1)) rfl (fun hb => ?_) (fun hb => ?_))
     · replace h := iteT hb h
       refine wp_seq (wp_pure [(4, I (-1))] hF (by kernel_rfl) fun fr hF => then_normal ?_)
       obtain rfl := hr1 _ (Option.some.inj h).symm
       obtain rfl := Option.some.inj hk1
       exact wp_ret (then_ret (blk_ret (then_ret (then_ret (blk_ret (then_ret (ret1 rfl hF rfl ⟨_, rfl, rfl, (hM0.trans hM1).chg⟩)))))))
     replace h := iteF hb h
     refine (wp_skip (then_normal ?_))
     refine (wp_pure [(0, L a1 p0 c1), (1, I (w64 (s1.1 + 1))), (5, I s1.2)] hF (by kernel_rfl) fun fr hF => ?_)
     refine blk_normal (then_normal ?_)
     refine (wp_pure [(0, L a1 p0 c1), (1, I (w64 (s1.1 + 1))), (5, I (w64 (s1.2 + 1)))] hF (by kernel_rfl) fun fr hF => then_normal ?_)
     exact ⟨_, (Option.some.inj h).symm, S1, _, hF.sub _ (by kernel_rfl), hM1, hs⟩
   replace h := iteF hb h
   refine (wp_exit (then_exit (then_exit (blk_exit_eq ?_))))
   obtain rfl := hr1 _ (Option.some.inj h).symm
   exact then_normal ⟨_, rfl, S1, _, hF.sub _ (by kernel_rfl), hM1, hs⟩
 · obtain ⟨s1r, rfl, hM⟩ := hM
   obtain ⟨S2, F2, hF, hMx, hs⟩ := hM
   have hM0 := hM0.trans hMx
   refine wp_seq (wp_pure [(4, I s1r)] hF (by kernel_rfl) fun fr hF => then_normal ?_)
   obtain rfl := Option.some.inj h
   exact wp_ret (ret1 rfl hF rfl ⟨_, rfl, rfl, hM0.chg⟩)

theorem laws_heldPath_ok (n : Nat) (p0 : D.Path) (p1 : Int) {r : Int} (h : laws_heldPath n p0 p1 = some r) {w : World} {G0 : Nat → Prop} {va0 : Value} (ra0 : RV w G0 va0 p0) :
   Calls Try.prog 51 [va0, I p1].toArray w fun e w' => ∃ v, e = .returned v ∧ v = I r ∧ Chg Non w w' := by
 unfold laws_heldPath at h
 have hs := Sep.nil w Non
 have hM0 : Mem w Non (fun k => (G0 k) ∧ k < w.heap.size) w Non (fun k => (G0 k) ∧ k < w.heap.size) := Mem.start (fun _ h => h.elim) (fun _ h => h.2) (fun _ h => h.elim)
 have ra0 := ra0.sub (F' := (fun k => (G0 k) ∧ k < w.heap.size)) (fun k hk h => ⟨h, hk⟩)
 obtain ⟨v1, v2, v3, v4, v5, v6, rfl, r1, r2, r3, r4, r5, r6⟩ := RV.Path ra0
 obtain ⟨a1, c1, rfl, -⟩ := r1.slice
 obtain ⟨a2, c2, rfl, -⟩ := r2.slice
 obtain ⟨a3, c3, rfl, -⟩ := r3.slice
 obtain ⟨a4, c4, rfl, -⟩ := r4.slice
 obtain ⟨a5, c5, rfl, -⟩ := r5.slice
 obtain ⟨a6, c6, rfl, -⟩ := r6.slice
 refine enter (N := 42) Try.func51 rfl Try.ntmps51 rfl fun fr hF => ?_
 refine wp_seq (wp_text' ?_)
 refine q_box hs hM0 [I p0.Pc, L a1 p0.Regs c1, L a2 p0.Mem c2, L a3 p0.Stack c3, I p0.In, L a4 p0.Out c4, I p0.Code, I p0.Steps, L a5 p0.Cond c5, L a6 p0.Turns c6] rfl rfl hF rfl rfl fun b1 w1 S1 fr hs hp hF => ?_
 have r1 := r1.stp hM0 hp
 have r2 := r2.stp hM0 hp
 have r3 := r3.stp hM0 hp
 have r4 := r4.stp hM0 hp
 have r5 := r5.stp hM0 hp
 have r6 := r6.stp hM0 hp
 have hM0 := hM0.stp hp
 have hs : Sep [BX b1 75 [I p0.Pc, L a1 p0.Regs c1, L a2 p0.Mem c2, L a3 p0.Stack c3, I p0.In, L a4 p0.Out c4, I p0.Code, I p0.Steps, L a5 p0.Cond c5, L a6 p0.Turns c6]] w1 S1 := hs
 refine from_pure 1 [(1, I p1), (2, B b1 0)] hF (by kernel_rfl) fun fr hF => ?_
 refine from_end rfl (then_normal ?_)
 refine wp_seq (wp_text' ?_)
 refine from_pure 1 [(1, I p1), (2, B b1 0), (5, B b1 1)] hF (by kernel_rfl) fun fr hF => ?_
 refine s_loadBox (L a1 p0.Regs c1) ty73 rfl rfl hF rfl (hs.bx 0 rfl) rfl rfl fun fr hF => ?_
 refine from_pure 1 [(2, B b1 0), (6, L a1 p0.Regs c1), (7, I p1)] hF (by kernel_rfl) fun fr hF => ?_
 obtain ⟨x1, hx1, h⟩ := bindE h
 refine s_call [L a1 p0.Regs c1, I p1] Try.call93 rfl rfl hF rfl (laws_heldTermS__1_ok n p0.Regs p1 hx1 (r1)) fun v w2 fr hRes hF => ?_
 obtain ⟨rfl, hc⟩ := hRes
 have r1 := r1.ext hc
 have r2 := r2.ext hc
 have r3 := r3.ext hc
 have r4 := r4.ext hc
 have r5 := r5.ext hc
 have r6 := r6.ext hc
 have hs := hs.ext hc
 have hM0 := hM0.ext hc
 refine from_pure 1 [(1, I x1), (2, B b1 0)] hF (by kernel_rfl) fun fr hF => ?_
 refine from_end rfl (then_normal ?_)
 refine wp_seq ?_
 refine wp_seq (wp_pure [(1, I x1), (2, B b1 0), (10, .bool (decide (x1 < 0)))] hF (by kernel_rfl) fun fr hF => then_normal ?_)
 refine (wp_if hF (b := (decide (x1 < 0))) rfl (fun hb => ?_) (fun hb => ?_))
 · replace h := iteT hb h
   have hs : Sep [] w2 S1 := Sep.pick [] hs (by decide) rfl
   refine wp_seq (wp_pure [(4, I (-1))] hF (by kernel_rfl) fun fr hF => then_normal ?_)
   obtain rfl := Option.some.inj h
   exact wp_ret (then_ret (ret1 rfl hF rfl ⟨_, rfl, rfl, hM0.chg⟩))
 replace h := iteF hb h
 refine (wp_skip (then_normal ?_))
 refine wp_seq (wp_text' ?_)
 refine from_pure 1 [(1, I x1), (2, B b1 0), (11, B b1 2)] hF (by kernel_rfl) fun fr hF => ?_
 refine s_loadBox (L a2 p0.Mem c2) ty73 rfl rfl hF rfl (hs.bx 0 rfl) rfl rfl fun fr hF => ?_
 refine from_pure 1 [(2, B b1 0), (12, L a2 p0.Mem c2), (13, I x1)] hF (by kernel_rfl) fun fr hF => ?_
 obtain ⟨x2, hx2, h⟩ := bindE h
 refine s_call [L a2 p0.Mem c2, I x1] Try.call93 rfl rfl hF rfl (laws_heldTermS__1_ok n p0.Mem x1 hx2 (r2)) fun v w3 fr hRes hF => ?_
 obtain ⟨rfl, hc⟩ := hRes
 have r2 := r2.ext hc
 have r1 := r1.ext hc
 have r3 := r3.ext hc
 have r4 := r4.ext hc
 have r5 := r5.ext hc
 have r6 := r6.ext hc
 have hs := hs.ext hc
 have hM0 := hM0.ext hc
 refine from_pure 1 [(1, I x2), (2, B b1 0)] hF (by kernel_rfl) fun fr hF => ?_
 refine from_end rfl (then_normal ?_)
 refine wp_seq ?_
 refine wp_seq (wp_pure [(1, I x2), (2, B b1 0), (16, .bool (decide (x2 < 0)))] hF (by kernel_rfl) fun fr hF => then_normal ?_)
 refine (wp_if hF (b := (decide (x2 < 0))) rfl (fun hb => ?_) (fun hb => ?_))
 · replace h := iteT hb h
   have hs : Sep [] w3 S1 := Sep.pick [] hs (by decide) rfl
   refine wp_seq (wp_pure [(4, I (-1))] hF (by kernel_rfl) fun fr hF => then_normal ?_)
   obtain rfl := Option.some.inj h
   exact wp_ret (then_ret (ret1 rfl hF rfl ⟨_, rfl, rfl, hM0.chg⟩))
 replace h := iteF hb h
 refine (wp_skip (then_normal ?_))
 refine wp_seq (wp_text' ?_)
 refine from_pure 1 [(1, I x2), (2, B b1 0), (17, B b1 3)] hF (by kernel_rfl) fun fr hF => ?_
 refine s_loadBox (L a3 p0.Stack c3) ty26 rfl rfl hF rfl (hs.bx 0 rfl) rfl rfl fun fr hF => ?_
 refine from_pure 1 [(2, B b1 0), (18, L a3 p0.Stack c3), (19, I x2)] hF (by kernel_rfl) fun fr hF => ?_
 obtain ⟨x3, hx3, h⟩ := bindE h
 refine s_call [L a3 p0.Stack c3, I x2] Try.call19 rfl rfl hF rfl (laws_heldIntS_ok n p0.Stack x2 hx3 (r3)) fun v w4 fr hRes hF => ?_
 obtain ⟨rfl, hc⟩ := hRes
 have r3 := r3.ext hc
 have r1 := r1.ext hc
 have r2 := r2.ext hc
 have r4 := r4.ext hc
 have r5 := r5.ext hc
 have r6 := r6.ext hc
 have hs := hs.ext hc
 have hM0 := hM0.ext hc
 refine from_pure 1 [(1, I x3), (2, B b1 0)] hF (by kernel_rfl) fun fr hF => ?_
 refine from_end rfl (then_normal ?_)
 refine wp_seq ?_
 refine wp_seq (wp_pure [(1, I x3), (2, B b1 0), (22, .bool (decide (x3 < 0)))] hF (by kernel_rfl) fun fr hF => then_normal ?_)
 refine (wp_if hF (b := (decide (x3 < 0))) rfl (fun hb => ?_) (fun hb => ?_))
 · replace h := iteT hb h
   have hs : Sep [] w4 S1 := Sep.pick [] hs (by decide) rfl
   refine wp_seq (wp_pure [(4, I (-1))] hF (by kernel_rfl) fun fr hF => then_normal ?_)
   obtain rfl := Option.some.inj h
   exact wp_ret (then_ret (ret1 rfl hF rfl ⟨_, rfl, rfl, hM0.chg⟩))
 replace h := iteF hb h
 refine (wp_skip (then_normal ?_))
 refine wp_seq (wp_text' ?_)
 refine from_pure 1 [(1, I x3), (2, B b1 0), (23, B b1 5)] hF (by kernel_rfl) fun fr hF => ?_
 refine s_loadBox (L a4 p0.Out c4) ty73 rfl rfl hF rfl (hs.bx 0 rfl) rfl rfl fun fr hF => ?_
 refine from_pure 1 [(2, B b1 0), (24, L a4 p0.Out c4), (25, I x3)] hF (by kernel_rfl) fun fr hF => ?_
 obtain ⟨x4, hx4, h⟩ := bindE h
 refine s_call [L a4 p0.Out c4, I x3] Try.call93 rfl rfl hF rfl (laws_heldTermS__1_ok n p0.Out x3 hx4 (r4)) fun v w5 fr hRes hF => ?_
 obtain ⟨rfl, hc⟩ := hRes
 have r4 := r4.ext hc
 have r1 := r1.ext hc
 have r2 := r2.ext hc
 have r3 := r3.ext hc
 have r5 := r5.ext hc
 have r6 := r6.ext hc
 have hs := hs.ext hc
 have hM0 := hM0.ext hc
 refine from_pure 1 [(1, I x4), (2, B b1 0)] hF (by kernel_rfl) fun fr hF => ?_
 refine from_end rfl (then_normal ?_)
 refine wp_seq ?_
 refine wp_seq (wp_pure [(1, I x4), (2, B b1 0), (28, .bool (decide (x4 < 0)))] hF (by kernel_rfl) fun fr hF => then_normal ?_)
 refine (wp_if hF (b := (decide (x4 < 0))) rfl (fun hb => ?_) (fun hb => ?_))
 · replace h := iteT hb h
   have hs : Sep [] w5 S1 := Sep.pick [] hs (by decide) rfl
   refine wp_seq (wp_pure [(4, I (-1))] hF (by kernel_rfl) fun fr hF => then_normal ?_)
   obtain rfl := Option.some.inj h
   exact wp_ret (then_ret (ret1 rfl hF rfl ⟨_, rfl, rfl, hM0.chg⟩))
 replace h := iteF hb h
 refine (wp_skip (then_normal ?_))
 refine wp_seq (wp_text' ?_)
 refine from_pure 1 [(1, I x4), (2, B b1 0), (29, B b1 8)] hF (by kernel_rfl) fun fr hF => ?_
 refine s_loadBox (L a5 p0.Cond c5) ty73 rfl rfl hF rfl (hs.bx 0 rfl) rfl rfl fun fr hF => ?_
 refine from_pure 1 [(2, B b1 0), (30, L a5 p0.Cond c5), (31, I x4)] hF (by kernel_rfl) fun fr hF => ?_
 obtain ⟨x5, hx5, h⟩ := bindE h
 refine s_call [L a5 p0.Cond c5, I x4] Try.call93 rfl rfl hF rfl (laws_heldTermS__1_ok n p0.Cond x4 hx5 (r5)) fun v w6 fr hRes hF => ?_
 obtain ⟨rfl, hc⟩ := hRes
 have r5 := r5.ext hc
 have r1 := r1.ext hc
 have r2 := r2.ext hc
 have r3 := r3.ext hc
 have r4 := r4.ext hc
 have r6 := r6.ext hc
 have hs := hs.ext hc
 have hM0 := hM0.ext hc
 refine from_pure 1 [(1, I x5), (2, B b1 0)] hF (by kernel_rfl) fun fr hF => ?_
 refine from_end rfl (then_normal ?_)
 refine wp_seq ?_
 refine wp_seq (wp_pure [(1, I x5), (2, B b1 0), (34, .bool (decide (x5 < 0)))] hF (by kernel_rfl) fun fr hF => then_normal ?_)
 refine (wp_if hF (b := (decide (x5 < 0))) rfl (fun hb => ?_) (fun hb => ?_))
 · replace h := iteT hb h
   have hs : Sep [] w6 S1 := Sep.pick [] hs (by decide) rfl
   refine wp_seq (wp_pure [(4, I (-1))] hF (by kernel_rfl) fun fr hF => then_normal ?_)
   obtain rfl := Option.some.inj h
   exact wp_ret (then_ret (ret1 rfl hF rfl ⟨_, rfl, rfl, hM0.chg⟩))
 replace h := iteF hb h
 refine (wp_skip (then_normal ?_))
 refine wp_seq (wp_text' ?_)
 refine from_pure 1 [(1, I x5), (35, B b1 9)] hF (by kernel_rfl) fun fr hF => ?_
 refine s_loadBox (L a6 p0.Turns c6) ty26 rfl rfl hF rfl (hs.bx 0 rfl) rfl rfl fun fr hF => ?_
 have hs : Sep [] w6 S1 := Sep.pick [] hs (by decide) rfl
 refine from_pure 1 [(36, L a6 p0.Turns c6), (37, I x5)] hF (by kernel_rfl) fun fr hF => ?_
 obtain ⟨x6, hx6, h⟩ := bindE h
 refine s_call [L a6 p0.Turns c6, I x5] Try.call19 rfl rfl hF rfl (laws_heldIntS_ok n p0.Turns x5 hx6 (r6)) fun v w7 fr hRes hF => ?_
 obtain ⟨rfl, hc⟩ := hRes
 have r6 := r6.ext hc
 have hs := hs.ext hc
 have hM0 := hM0.ext hc
 refine from_pure 1 [(1, I x6)] hF (by kernel_rfl) fun fr hF => ?_
 refine from_end rfl (then_normal ?_)
 refine wp_seq ?_
 refine wp_seq (wp_pure [(1, I x6), (40, .bool (decide (x6 < 0)))] hF (by kernel_rfl) fun fr hF => then_normal ?_)
 refine (wp_if hF (b := (decide (x6 < 0))) rfl (fun hb => ?_) (fun hb => ?_))
 · replace h := iteT hb h
   refine wp_seq (wp_pure [(4, I (-1))] hF (by kernel_rfl) fun fr hF => then_normal ?_)
   obtain rfl := Option.some.inj h
   exact wp_ret (then_ret (ret1 rfl hF rfl ⟨_, rfl, rfl, hM0.chg⟩))
 replace h := iteF hb h
 refine (wp_skip (then_normal ?_))
 refine wp_seq (wp_pure [(4, I x6)] hF (by kernel_rfl) fun fr hF => then_normal ?_)
 obtain rfl := Option.some.inj h
 exact wp_ret (ret1 rfl hF rfl ⟨_, rfl, rfl, hM0.chg⟩)

theorem laws_FnExactStartPath_ok (n : Nat) (p0 : D.Program) {r : Bool} (h : laws_FnExactStartPath n p0 = some r) {w : World} {G0 : Nat → Prop} {va0 : Value} (ra0 : RV w G0 va0 p0) :
   Calls Try.prog 9 [va0].toArray w fun e w' => ∃ v, e = .returned v ∧ v = .bool r ∧ Chg Non w w' := by
 unfold laws_FnExactStartPath at h
 have hs := Sep.nil w Non
 have hM0 : Mem w Non (fun k => (G0 k) ∧ k < w.heap.size) w Non (fun k => (G0 k) ∧ k < w.heap.size) := Mem.start (fun _ h => h.elim) (fun _ h => h.2) (fun _ h => h.elim)
 have ra0 := ra0.sub (F' := (fun k => (G0 k) ∧ k < w.heap.size)) (fun k hk h => ⟨h, hk⟩)
 obtain ⟨v1, rfl, r1⟩ := RV.Program ra0
 obtain ⟨a1, c1, rfl, -⟩ := r1.slice
 refine enter (N := 69) Try.func9 rfl Try.ntmps9 rfl fun fr hF => ?_
 refine wp_seq (wp_text' ?_)
 refine q_box hs hM0 [I p0.W, I p0.Mem, I p0.In, L a1 p0.Code c1] rfl rfl hF rfl rfl fun b1 w1 S1 fr hs hp hF => ?_
 have r1 := r1.stp hM0 hp
 have hM0 := hM0.stp hp
 have hs : Sep [BX b1 24 [I p0.W, I p0.Mem, I p0.In, L a1 p0.Code c1]] w1 S1 := hs
 refine from_pure 1 [(1, B b1 0)] hF (by kernel_rfl) fun fr hF => ?_
 refine from_end rfl (then_normal ?_)
 refine wp_seq (wp_pure [(1, B b1 0), (3, I 1048576)] hF (by kernel_rfl) fun fr hF => then_normal ?_)
 refine wp_seq (wp_text' ?_)
 refine s_loadBoxS ty24 rfl rfl hF rfl (hs.bx 0 rfl) rfl rfl fun fr hF => ?_
 refine from_pure 1 [(1, B b1 0), (11, .agg #[I p0.W, I p0.Mem, I p0.In, L a1 p0.Code c1]), (12, I 1048576)] hF (by kernel_rfl) fun fr hF => ?_
 obtain ⟨x1, hx1, h⟩ := bindE h
 refine s_call [.agg #[I p0.W, I p0.Mem, I p0.In, L a1 p0.Code c1], I 1048576] Try.call11 rfl rfl hF rfl (laws_szProgram_ok p0 1048576 hx1 (RV.mk_Program p0 (r1))) fun v w2 fr hRes hF => ?_
 obtain ⟨rfl, hc⟩ := hRes
 have r1 := r1.ext hc
 have hs := hs.ext hc
 have hM0 := hM0.ext hc
 refine from_pure 1 [(1, B b1 0), (3, I x1)] hF (by kernel_rfl) fun fr hF => ?_
 refine from_end rfl (then_normal ?_)
 refine wp_seq ?_
 refine wp_seq (wp_pure [(1, B b1 0), (15, .bool (decide (x1 < 0)))] hF (by kernel_rfl) fun fr hF => then_normal ?_)
 refine (wp_if hF (b := (decide (x1 < 0))) rfl (fun hb => ?_) (fun hb => ?_))
 · replace h := iteT hb h
   have hs : Sep [] w2 S1 := Sep.pick [] hs (by decide) rfl
   refine wp_seq (wp_pure [(2, .bool true)] hF (by kernel_rfl) fun fr hF => then_normal ?_)
   obtain rfl := Option.some.inj h
   exact wp_ret (then_ret (ret1 rfl hF rfl ⟨_, rfl, rfl, hM0.chg⟩))
 replace h := iteF hb h
 refine (wp_skip (then_normal ?_))
 refine wp_seq (wp_text' ?_)
 refine s_loadBoxS ty24 rfl rfl hF rfl (hs.bx 0 rfl) rfl rfl fun fr hF => ?_
 obtain ⟨x2, hx2, h⟩ := bindE h
 refine s_call [.agg #[I p0.W, I p0.Mem, I p0.In, L a1 p0.Code c1]] Try.call13 rfl rfl hF rfl (laws_toProgram_ok n p0 hx2 (RV.mk_Program p0 (r1))) fun v w3 fr hRes hF => ?_
 obtain ⟨a2, c2, rfl, _, hp, hs2⟩ := hRes
 obtain ⟨S2, hp, hs⟩ := hs.got hM0 hp hs2
 have r1 := r1.stp hM0 hp
 have hM0 := hM0.stp hp
 have hs : Sep [sl90 (L a2 x2.Code c2) x2.Code, BX b1 24 [I p0.W, I p0.Mem, I p0.In, L a1 p0.Code c1]] w3 S2 := hs
 obtain ⟨x3, hx3, h⟩ := bindE h
 refine s_call [.agg #[I x2.W, I x2.Mem, I x2.In, L a2 x2.Code c2]] Try.call47 rfl rfl hF rfl (spec_StartPath_ok n x2 hx3 (RV.mk_Program x2 (RV.any (hs.rv 0 rfl)))) fun v w4 fr hRes hF => ?_
 obtain ⟨a3, c3, a4, c4, a5, c5, a6, c6, a7, c7, a8, c8, rfl, _, hp, hs2⟩ := hRes
 obtain ⟨S3, hp, hs⟩ := hs.got hM0 hp hs2
 have r1 := r1.stp hM0 hp
 have hM0 := hM0.stp hp
 have hs : Sep [sl121 (L a3 x3.Regs c3) x3.Regs, sl121 (L a4 x3.Mem c4) x3.Mem, sl3 (L a5 x3.Stack c5) x3.Stack, sl121 (L a6 x3.Out c6) x3.Out, sl121 (L a7 x3.Cond c7) x3.Cond, sl3 (L a8 x3.Turns c8) x3.Turns, sl90 (L a2 x2.Code c2) x2.Code, BX b1 24 [I p0.W, I p0.Mem, I p0.In, L a1 p0.Code c1]] w4 S3 := hs
 have hs : Sep [sl121 (L a3 x3.Regs c3) x3.Regs, sl121 (L a4 x3.Mem c4) x3.Mem, sl3 (L a5 x3.Stack c5) x3.Stack, sl121 (L a6 x3.Out c6) x3.Out, sl121 (L a7 x3.Cond c7) x3.Cond, sl3 (L a8 x3.Turns c8) x3.Turns, BX b1 24 [I p0.W, I p0.Mem, I p0.In, L a1 p0.Code c1]] w4 S3 := Sep.pick [0, 1, 2, 3, 4, 5, 7] hs (by decide) rfl
 refine q_alloc (z := .agg #[I 0, L none ([] : List D.Term) 0, L none ([] : List D.Term) 0, L none ([] : List Int) 0, I 0, L none ([] : List D.Term) 0, I 0, I 0, L none ([] : List D.Term) 0, L none ([] : List Int) 0]) hs hM0 [I 0, L none ([] : List D.Term) 0, L none ([] : List D.Term) 0, L none ([] : List Int) 0, I 0, L none ([] : List D.Term) 0, I 0, I 0, L none ([] : List D.Term) 0, L none ([] : List Int) 0] rfl rfl hF (by kernel_rfl) rfl fun b2 w5 S4 fr hs hp hF => ?_
 have r1 := r1.stp hM0 hp
 have hM0 := hM0.stp hp
 have hs : Sep [BX b2 75 [I 0, L none ([] : List D.Term) 0, L none ([] : List D.Term) 0, L none ([] : List Int) 0, I 0, L none ([] : List D.Term) 0, I 0, I 0, L none ([] : List D.Term) 0, L none ([] : List Int) 0], sl121 (L a3 x3.Regs c3) x3.Regs, sl121 (L a4 x3.Mem c4) x3.Mem, sl3 (L a5 x3.Stack c5) x3.Stack, sl121 (L a6 x3.Out c6) x3.Out, sl121 (L a7 x3.Cond c7) x3.Cond, sl3 (L a8 x3.Turns c8) x3.Turns, BX b1 24 [I p0.W, I p0.Mem, I p0.In, L a1 p0.Code c1]] w5 S4 := hs
 refine q_storeBoxS 0 hs hM0 rfl [I x3.Pc, L a3 x3.Regs c3, L a4 x3.Mem c4, L a5 x3.Stack c5, I x3.In, L a6 x3.Out c6, I x3.Code, I x3.Steps, L a7 x3.Cond c7, L a8 x3.Turns c8] rfl hF rfl rfl (by kernel_rfl) rfl rfl rfl fun w6 S5 hs hp hF => ?_
 have r1 := r1.stp hM0 hp
 have hM0 := hM0.stp hp
 have hs : Sep [BX b2 75 [I x3.Pc, L a3 x3.Regs c3, L a4 x3.Mem c4, L a5 x3.Stack c5, I x3.In, L a6 x3.Out c6, I x3.Code, I x3.Steps, L a7 x3.Cond c7, L a8 x3.Turns c8], sl121 (L a3 x3.Regs c3) x3.Regs, sl121 (L a4 x3.Mem c4) x3.Mem, sl3 (L a5 x3.Stack c5) x3.Stack, sl121 (L a6 x3.Out c6) x3.Out, sl121 (L a7 x3.Cond c7) x3.Cond, sl3 (L a8 x3.Turns c8) x3.Turns, BX b1 24 [I p0.W, I p0.Mem, I p0.In, L a1 p0.Code c1]] w6 S5 := hs
 refine from_end rfl (then_normal ?_)
 refine wp_seq (wp_text' ?_)
 refine s_loadBoxS ty24 rfl rfl hF rfl (hs.bx 7 rfl) rfl rfl fun fr hF => ?_
 obtain ⟨x4, hx4, h⟩ := bindE h
 refine s_call [.agg #[I p0.W, I p0.Mem, I p0.In, L a1 p0.Code c1]] Try.call13 rfl rfl hF rfl (laws_toProgram_ok n p0 hx4 (RV.mk_Program p0 (r1))) fun v w7 fr hRes hF => ?_
 obtain ⟨a9, c9, rfl, _, hp, hs2⟩ := hRes
 obtain ⟨S6, hp, hs⟩ := hs.got hM0 hp hs2
 have r1 := r1.stp hM0 hp
 have hM0 := hM0.stp hp
 have hs : Sep [sl90 (L a9 x4.Code c9) x4.Code, BX b2 75 [I x3.Pc, L a3 x3.Regs c3, L a4 x3.Mem c4, L a5 x3.Stack c5, I x3.In, L a6 x3.Out c6, I x3.Code, I x3.Steps, L a7 x3.Cond c7, L a8 x3.Turns c8], sl121 (L a3 x3.Regs c3) x3.Regs, sl121 (L a4 x3.Mem c4) x3.Mem, sl3 (L a5 x3.Stack c5) x3.Stack, sl121 (L a6 x3.Out c6) x3.Out, sl121 (L a7 x3.Cond c7) x3.Cond, sl3 (L a8 x3.Turns c8) x3.Turns, BX b1 24 [I p0.W, I p0.Mem, I p0.In, L a1 p0.Code c1]] w7 S6 := hs
 refine q_alloc (z := .agg #[I 0, I 0, I 0, L none ([] : List D.Ins) 0]) hs hM0 [I 0, I 0, I 0, L none ([] : List D.Ins) 0] rfl rfl hF (by kernel_rfl) rfl fun b3 w8 S7 fr hs hp hF => ?_
 have r1 := r1.stp hM0 hp
 have hM0 := hM0.stp hp
 have hs : Sep [BX b3 30 [I 0, I 0, I 0, L none ([] : List D.Ins) 0], sl90 (L a9 x4.Code c9) x4.Code, BX b2 75 [I x3.Pc, L a3 x3.Regs c3, L a4 x3.Mem c4, L a5 x3.Stack c5, I x3.In, L a6 x3.Out c6, I x3.Code, I x3.Steps, L a7 x3.Cond c7, L a8 x3.Turns c8], sl121 (L a3 x3.Regs c3) x3.Regs, sl121 (L a4 x3.Mem c4) x3.Mem, sl3 (L a5 x3.Stack c5) x3.Stack, sl121 (L a6 x3.Out c6) x3.Out, sl121 (L a7 x3.Cond c7) x3.Cond, sl3 (L a8 x3.Turns c8) x3.Turns, BX b1 24 [I p0.W, I p0.Mem, I p0.In, L a1 p0.Code c1]] w8 S7 := hs
 refine q_storeBoxS 0 hs hM0 rfl [I x4.W, I x4.Mem, I x4.In, L a9 x4.Code c9] rfl hF rfl rfl (by kernel_rfl) rfl rfl rfl fun w9 S8 hs hp hF => ?_
 have r1 := r1.stp hM0 hp
 have hM0 := hM0.stp hp
 have hs : Sep [BX b3 30 [I x4.W, I x4.Mem, I x4.In, L a9 x4.Code c9], sl90 (L a9 x4.Code c9) x4.Code, BX b2 75 [I x3.Pc, L a3 x3.Regs c3, L a4 x3.Mem c4, L a5 x3.Stack c5, I x3.In, L a6 x3.Out c6, I x3.Code, I x3.Steps, L a7 x3.Cond c7, L a8 x3.Turns c8], sl121 (L a3 x3.Regs c3) x3.Regs, sl121 (L a4 x3.Mem c4) x3.Mem, sl3 (L a5 x3.Stack c5) x3.Stack, sl121 (L a6 x3.Out c6) x3.Out, sl121 (L a7 x3.Cond c7) x3.Cond, sl3 (L a8 x3.Turns c8) x3.Turns, BX b1 24 [I p0.W, I p0.Mem, I p0.In, L a1 p0.Code c1]] w9 S8 := hs
 refine from_end rfl (then_normal ?_)
 refine wp_seq (wp_text' ?_)
 refine s_loadBoxS ty30 rfl rfl hF rfl (hs.bx 0 rfl) rfl rfl fun fr hF => ?_
 obtain ⟨x5, hx5, h⟩ := bindE h
 refine s_call [.agg #[I x4.W, I x4.Mem, I x4.In, L a9 x4.Code c9]] Try.call48 rfl rfl hF rfl (impl_StartPath_ok n x4 hx5 (RV.mk_Program x4 (RV.any (hs.rv 1 rfl)))) fun v w10 fr hRes hF => ?_
 obtain ⟨a10, c10, a11, c11, a12, c12, a13, c13, a14, c14, a15, c15, rfl, _, hp, hs2⟩ := hRes
 obtain ⟨S9, hp, hs⟩ := hs.got hM0 hp hs2
 have r1 := r1.stp hM0 hp
 have hM0 := hM0.stp hp
 have hs : Sep [sl121 (L a10 x5.Regs c10) x5.Regs, sl121 (L a11 x5.Mem c11) x5.Mem, sl3 (L a12 x5.Stack c12) x5.Stack, sl121 (L a13 x5.Out c13) x5.Out, sl121 (L a14 x5.Cond c14) x5.Cond, sl3 (L a15 x5.Turns c15) x5.Turns, BX b3 30 [I x4.W, I x4.Mem, I x4.In, L a9 x4.Code c9], sl90 (L a9 x4.Code c9) x4.Code, BX b2 75 [I x3.Pc, L a3 x3.Regs c3, L a4 x3.Mem c4, L a5 x3.Stack c5, I x3.In, L a6 x3.Out c6, I x3.Code, I x3.Steps, L a7 x3.Cond c7, L a8 x3.Turns c8], sl121 (L a3 x3.Regs c3) x3.Regs, sl121 (L a4 x3.Mem c4) x3.Mem, sl3 (L a5 x3.Stack c5) x3.Stack, sl121 (L a6 x3.Out c6) x3.Out, sl121 (L a7 x3.Cond c7) x3.Cond, sl3 (L a8 x3.Turns c8) x3.Turns, BX b1 24 [I p0.W, I p0.Mem, I p0.In, L a1 p0.Code c1]] w10 S9 := hs
 refine q_alloc (z := .agg #[I 0, L none ([] : List D.Term) 0, L none ([] : List D.Term) 0, L none ([] : List Int) 0, I 0, L none ([] : List D.Term) 0, I 0, I 0, L none ([] : List D.Term) 0, L none ([] : List Int) 0]) hs hM0 [I 0, L none ([] : List D.Term) 0, L none ([] : List D.Term) 0, L none ([] : List Int) 0, I 0, L none ([] : List D.Term) 0, I 0, I 0, L none ([] : List D.Term) 0, L none ([] : List Int) 0] rfl rfl hF (by kernel_rfl) rfl fun b4 w11 S10 fr hs hp hF => ?_
 have r1 := r1.stp hM0 hp
 have hM0 := hM0.stp hp
 have hs : Sep [BX b4 75 [I 0, L none ([] : List D.Term) 0, L none ([] : List D.Term) 0, L none ([] : List Int) 0, I 0, L none ([] : List D.Term) 0, I 0, I 0, L none ([] : List D.Term) 0, L none ([] : List Int) 0], sl121 (L a10 x5.Regs c10) x5.Regs, sl121 (L a11 x5.Mem c11) x5.Mem, sl3 (L a12 x5.Stack c12) x5.Stack, sl121 (L a13 x5.Out c13) x5.Out, sl121 (L a14 x5.Cond c14) x5.Cond, sl3 (L a15 x5.Turns c15) x5.Turns, BX b3 30 [I x4.W, I x4.Mem, I x4.In, L a9 x4.Code c9], sl90 (L a9 x4.Code c9) x4.Code, BX b2 75 [I x3.Pc, L a3 x3.Regs c3, L a4 x3.Mem c4, L a5 x3.Stack c5, I x3.In, L a6 x3.Out c6, I x3.Code, I x3.Steps, L a7 x3.Cond c7, L a8 x3.Turns c8], sl121 (L a3 x3.Regs c3) x3.Regs, sl121 (L a4 x3.Mem c4) x3.Mem, sl3 (L a5 x3.Stack c5) x3.Stack, sl121 (L a6 x3.Out c6) x3.Out, sl121 (L a7 x3.Cond c7) x3.Cond, sl3 (L a8 x3.Turns c8) x3.Turns, BX b1 24 [I p0.W, I p0.Mem, I p0.In, L a1 p0.Code c1]] w11 S10 := hs
 refine q_storeBoxS 0 hs hM0 rfl [I x5.Pc, L a10 x5.Regs c10, L a11 x5.Mem c11, L a12 x5.Stack c12, I x5.In, L a13 x5.Out c13, I x5.Code, I x5.Steps, L a14 x5.Cond c14, L a15 x5.Turns c15] rfl hF rfl rfl (by kernel_rfl) rfl rfl rfl fun w12 S11 hs hp hF => ?_
 have r1 := r1.stp hM0 hp
 have hM0 := hM0.stp hp
 have hs : Sep [BX b4 75 [I x5.Pc, L a10 x5.Regs c10, L a11 x5.Mem c11, L a12 x5.Stack c12, I x5.In, L a13 x5.Out c13, I x5.Code, I x5.Steps, L a14 x5.Cond c14, L a15 x5.Turns c15], sl121 (L a10 x5.Regs c10) x5.Regs, sl121 (L a11 x5.Mem c11) x5.Mem, sl3 (L a12 x5.Stack c12) x5.Stack, sl121 (L a13 x5.Out c13) x5.Out, sl121 (L a14 x5.Cond c14) x5.Cond, sl3 (L a15 x5.Turns c15) x5.Turns, BX b3 30 [I x4.W, I x4.Mem, I x4.In, L a9 x4.Code c9], sl90 (L a9 x4.Code c9) x4.Code, BX b2 75 [I x3.Pc, L a3 x3.Regs c3, L a4 x3.Mem c4, L a5 x3.Stack c5, I x3.In, L a6 x3.Out c6, I x3.Code, I x3.Steps, L a7 x3.Cond c7, L a8 x3.Turns c8], sl121 (L a3 x3.Regs c3) x3.Regs, sl121 (L a4 x3.Mem c4) x3.Mem, sl3 (L a5 x3.Stack c5) x3.Stack, sl121 (L a6 x3.Out c6) x3.Out, sl121 (L a7 x3.Cond c7) x3.Cond, sl3 (L a8 x3.Turns c8) x3.Turns, BX b1 24 [I p0.W, I p0.Mem, I p0.In, L a1 p0.Code c1]] w12 S11 := hs
 refine from_end rfl (then_normal ?_)
 refine wp_seq ?_
 refine wp_seq (wp_text' ?_)
 refine s_loadBoxS ty75 rfl rfl hF rfl (hs.bx 0 rfl) rfl rfl fun fr hF => ?_
 refine s_loadBoxS ty75 rfl rfl hF rfl (hs.bx 9 rfl) rfl rfl fun fr hF => ?_
 obtain ⟨x6, hx6, h⟩ := bindE h
 refine s_call [.agg #[I x5.Pc, L a10 x5.Regs c10, L a11 x5.Mem c11, L a12 x5.Stack c12, I x5.In, L a13 x5.Out c13, I x5.Code, I x5.Steps, L a14 x5.Cond c14, L a15 x5.Turns c15], .agg #[I x3.Pc, L a3 x3.Regs c3, L a4 x3.Mem c4, L a5 x3.Stack c5, I x3.In, L a6 x3.Out c6, I x3.Code, I x3.Steps, L a7 x3.Cond c7, L a8 x3.Turns c8]] Try.call49 rfl rfl hF rfl (laws_eqPath_ok n x5 x3 hx6 (RV.mk_Path x5 (RV.any (hs.rv 1 rfl)) (RV.any (hs.rv 2 rfl)) (RV.any (hs.rv 3 rfl)) (RV.any (hs.rv 4 rfl)) (RV.any (hs.rv 5 rfl)) (RV.any (hs.rv 6 rfl))) (RV.mk_Path x3 (RV.any (hs.rv 10 rfl)) (RV.any (hs.rv 11 rfl)) (RV.any (hs.rv 12 rfl)) (RV.any (hs.rv 13 rfl)) (RV.any (hs.rv 14 rfl)) (RV.any (hs.rv 15 rfl)))) fun v w13 fr hRes hF => ?_
 obtain ⟨rfl, hc⟩ := hRes
 have r1 := r1.ext hc
 have hs := hs.ext hc
 have hM0 := hM0.ext hc
 refine from_pure 1 [(1, B b1 0), (4, B b2 0), (5, B b3 0), (6, B b4 0), (26, .bool (!x6))] hF (by kernel_rfl) fun fr hF => ?_
 refine from_end rfl (then_normal ?_)
 refine (wp_if hF (b := (!x6)) rfl (fun hb => ?_) (fun hb => ?_))
 · replace h := iteT hb h
   have hs : Sep [] w13 S11 := Sep.pick [] hs (by decide) rfl
   refine wp_seq (wp_pure [(2, .bool false)] hF (by kernel_rfl) fun fr hF => then_normal ?_)
   obtain rfl := Option.some.inj h
   exact wp_ret (then_ret (ret1 rfl hF rfl ⟨_, rfl, rfl, hM0.chg⟩))
 replace h := iteF hb h
 refine (wp_skip (then_normal ?_))
 refine wp_seq ?_
 obtain ⟨x7, hx7, h⟩ := bindE h
 obtain ⟨x8, hx8, h⟩ := bindE h
 refine wp_seq (region_bm 5 [0, 0, 2, 7, 15] [false, false, false, false, true]
     [.eq (.agg #[I x4.W, I x4.Mem, I x4.In, L a9 x4.Code c9]), .eq (.agg #[I p0.W, I p0.Mem, I p0.In, L a1 p0.Code c1]), .is fun v w => RV w (fun k => k < w.heap.size) v (x7 : D.Program), .eq (.bool x8), .eq (.bool (!x8))]
     [(1, B b1 0), (4, B b2 0), (5, B b3 0), (6, B b4 0), (31, .bool (!x8))] mix hF (by kernel_rfl) (by kernel_rfl) (by kernel_rfl) (by kernel_rfl) ⟨Pd.monoO_eq, Pd.monoO_eq, (Pd.monoO_is mono_rvb), Pd.monoO_eq, trivial⟩ (fun ow hG => ⟨np_to ow (np_loadBoxS hG hF ty30 rfl rfl (hs.bx 7 rfl) rfl rfl rfl rfl), np_to ow (np_loadBoxS hG hF ty24 rfl rfl (hs.bx 16 rfl) rfl rfl rfl rfl), np_to ow (np_callI [.inl (.agg #[I p0.W, I p0.Mem, I p0.In, L a1 p0.Code c1])] hG hF Try.call13 rfl rfl (by kernel_rfl) (fun w vs hC hg ha => by obtain ⟨_, rfl, rfl⟩ := ha; exact (laws_toProgram_ok n p0 hx7 ((RV.mk_Program p0 (r1)).ext hC)).mono fun e w' ⟨v, he, a0, c0, hv, _, hp, ho⟩ => ⟨_, he, hp.chg, by rw [hv]; exact (show RV w' (fun k => k < w'.heap.size) _ (x7 : D.Program) from RV.mk_Program x7 ((ho.rv 0 rfl).sub fun k hk _ => hk))⟩)), np_to ow (np_callI [.inl (.agg #[I x4.W, I x4.Mem, I x4.In, L a9 x4.Code c9]), .inr 2] hG hF Try.call16 rfl rfl (by kernel_rfl) (fun w vs hC hg ha => by obtain ⟨_, rfl, vq1, _, rfl, hq1, rfl⟩ := ha; exact (laws_eqProgram_ok n x4 x7 hx8 ((RV.mk_Program x4 (RV.any (hs.rv 8 rfl))).ext hC) (show RV w (fun k => k < w.heap.size) vq1 x7 from hq1)).mono fun e w' ⟨v, he, hv, hc⟩ => ⟨v, he, hc, hv⟩)), trivial⟩) (by kernel_rfl) fun ow fr w14 hF hE hc => ?_)
 have r1 := r1.ext hc
 have hs := hs.ext hc
 have hM0 := hM0.ext hc
 refine from_end rfl (then_normal ?_)
 refine (wp_if hF (b := (!x8)) rfl (fun hb => ?_) (fun hb => ?_))
 · replace h := iteT hb h
   have hs : Sep [] w14 S11 := Sep.pick [] hs (by decide) rfl
   refine wp_seq (wp_pure [(2, .bool false)] hF (by kernel_rfl) fun fr hF => then_normal ?_)
   obtain rfl := Option.some.inj h
   exact wp_ret (then_ret (ret1 rfl hF rfl ⟨_, rfl, rfl, hM0.chg⟩))
 replace h := iteF hb h
 refine (wp_skip (then_normal ?_))
 refine wp_seq (wp_pure [(1, B b1 0), (4, B b2 0), (5, B b3 0), (6, B b4 0), (7, I 1)] hF (by kernel_rfl) fun fr hF => then_normal ?_)
 refine wp_seq (wp_text' ?_)
 refine s_loadBoxS ty30 rfl rfl hF rfl (hs.bx 7 rfl) rfl rfl fun fr hF => ?_
 have hs : Sep [BX b4 75 [I x5.Pc, L a10 x5.Regs c10, L a11 x5.Mem c11, L a12 x5.Stack c12, I x5.In, L a13 x5.Out c13, I x5.Code, I x5.Steps, L a14 x5.Cond c14, L a15 x5.Turns c15], sl121 (L a10 x5.Regs c10) x5.Regs, sl121 (L a11 x5.Mem c11) x5.Mem, sl3 (L a12 x5.Stack c12) x5.Stack, sl121 (L a13 x5.Out c13) x5.Out, sl121 (L a14 x5.Cond c14) x5.Cond, sl3 (L a15 x5.Turns c15) x5.Turns, sl90 (L a9 x4.Code c9) x4.Code, BX b2 75 [I x3.Pc, L a3 x3.Regs c3, L a4 x3.Mem c4, L a5 x3.Stack c5, I x3.In, L a6 x3.Out c6, I x3.Code, I x3.Steps, L a7 x3.Cond c7, L a8 x3.Turns c8], sl121 (L a3 x3.Regs c3) x3.Regs, sl121 (L a4 x3.Mem c4) x3.Mem, sl3 (L a5 x3.Stack c5) x3.Stack, sl121 (L a6 x3.Out c6) x3.Out, sl121 (L a7 x3.Cond c7) x3.Cond, sl3 (L a8 x3.Turns c8) x3.Turns, BX b1 24 [I p0.W, I p0.Mem, I p0.In, L a1 p0.Code c1]] w14 S11 := Sep.pick [0, 1, 2, 3, 4, 5, 6, 8, 9, 10, 11, 12, 13, 14, 15, 16] hs (by decide) rfl
 refine from_pure 1 [(1, B b1 0), (4, B b2 0), (6, B b4 0), (32, .agg #[I x4.W, I x4.Mem, I x4.In, L a9 x4.Code c9]), (33, I 1)] hF (by kernel_rfl) fun fr hF => ?_
 obtain ⟨x9, hx9, h⟩ := bindE h
 have hs : Sep [sl90 (L a9 x4.Code c9) x4.Code, BX b4 75 [I x5.Pc, L a10 x5.Regs c10, L a11 x5.Mem c11, L a12 x5.Stack c12, I x5.In, L a13 x5.Out c13, I x5.Code, I x5.Steps, L a14 x5.Cond c14, L a15 x5.Turns c15], sl121 (L a10 x5.Regs c10) x5.Regs, sl121 (L a11 x5.Mem c11) x5.Mem, sl3 (L a12 x5.Stack c12) x5.Stack, sl121 (L a13 x5.Out c13) x5.Out, sl121 (L a14 x5.Cond c14) x5.Cond, sl3 (L a15 x5.Turns c15) x5.Turns, BX b2 75 [I x3.Pc, L a3 x3.Regs c3, L a4 x3.Mem c4, L a5 x3.Stack c5, I x3.In, L a6 x3.Out c6, I x3.Code, I x3.Steps, L a7 x3.Cond c7, L a8 x3.Turns c8], sl121 (L a3 x3.Regs c3) x3.Regs, sl121 (L a4 x3.Mem c4) x3.Mem, sl3 (L a5 x3.Stack c5) x3.Stack, sl121 (L a6 x3.Out c6) x3.Out, sl121 (L a7 x3.Cond c7) x3.Cond, sl3 (L a8 x3.Turns c8) x3.Turns, BX b1 24 [I p0.W, I p0.Mem, I p0.In, L a1 p0.Code c1]] w14 S11 := Sep.pick [7, 0, 1, 2, 3, 4, 5, 6, 8, 9, 10, 11, 12, 13, 14, 15] hs (by decide) rfl
 obtain ⟨A1, R1, hsA, hsR, hdA, hbA, hup⟩ := Sep.call (L1 := [sl90 (L a9 x4.Code c9) x4.Code]) (L2 := [BX b4 75 [I x5.Pc, L a10 x5.Regs c10, L a11 x5.Mem c11, L a12 x5.Stack c12, I x5.In, L a13 x5.Out c13, I x5.Code, I x5.Steps, L a14 x5.Cond c14, L a15 x5.Turns c15], sl121 (L a10 x5.Regs c10) x5.Regs, sl121 (L a11 x5.Mem c11) x5.Mem, sl3 (L a12 x5.Stack c12) x5.Stack, sl121 (L a13 x5.Out c13) x5.Out, sl121 (L a14 x5.Cond c14) x5.Cond, sl3 (L a15 x5.Turns c15) x5.Turns, BX b2 75 [I x3.Pc, L a3 x3.Regs c3, L a4 x3.Mem c4, L a5 x3.Stack c5, I x3.In, L a6 x3.Out c6, I x3.Code, I x3.Steps, L a7 x3.Cond c7, L a8 x3.Turns c8], sl121 (L a3 x3.Regs c3) x3.Regs, sl121 (L a4 x3.Mem c4) x3.Mem, sl3 (L a5 x3.Stack c5) x3.Stack, sl121 (L a6 x3.Out c6) x3.Out, sl121 (L a7 x3.Cond c7) x3.Cond, sl3 (L a8 x3.Turns c8) x3.Turns, BX b1 24 [I p0.W, I p0.Mem, I p0.In, L a1 p0.Code c1]]) hs hM0
 refine s_call [.agg #[I x4.W, I x4.Mem, I x4.In, L a9 x4.Code c9], I 1] Try.call17 rfl rfl hF rfl (laws_markProgram_ok n x4 1 hx9 hsA hbA hdA) fun v w15 fr hRes hF => ?_
 obtain ⟨rfl, _, hp, hs⟩ := hRes
 obtain ⟨S12, hp, hs⟩ := hup hp hs
 have r1 := r1.stp hM0 hp
 have hM0 := hM0.stp hp
 have hs : Sep [sl90 (L a9 x4.Code c9) x9.2.Code, BX b4 75 [I x5.Pc, L a10 x5.Regs c10, L a11 x5.Mem c11, L a12 x5.Stack c12, I x5.In, L a13 x5.Out c13, I x5.Code, I x5.Steps, L a14 x5.Cond c14, L a15 x5.Turns c15], sl121 (L a10 x5.Regs c10) x5.Regs, sl121 (L a11 x5.Mem c11) x5.Mem, sl3 (L a12 x5.Stack c12) x5.Stack, sl121 (L a13 x5.Out c13) x5.Out, sl121 (L a14 x5.Cond c14) x5.Cond, sl3 (L a15 x5.Turns c15) x5.Turns, BX b2 75 [I x3.Pc, L a3 x3.Regs c3, L a4 x3.Mem c4, L a5 x3.Stack c5, I x3.In, L a6 x3.Out c6, I x3.Code, I x3.Steps, L a7 x3.Cond c7, L a8 x3.Turns c8], sl121 (L a3 x3.Regs c3) x3.Regs, sl121 (L a4 x3.Mem c4) x3.Mem, sl3 (L a5 x3.Stack c5) x3.Stack, sl121 (L a6 x3.Out c6) x3.Out, sl121 (L a7 x3.Cond c7) x3.Cond, sl3 (L a8 x3.Turns c8) x3.Turns, BX b1 24 [I p0.W, I p0.Mem, I p0.In, L a1 p0.Code c1]] w15 S12 := hs
 have hs : Sep [BX b4 75 [I x5.Pc, L a10 x5.Regs c10, L a11 x5.Mem c11, L a12 x5.Stack c12, I x5.In, L a13 x5.Out c13, I x5.Code, I x5.Steps, L a14 x5.Cond c14, L a15 x5.Turns c15], sl121 (L a10 x5.Regs c10) x5.Regs, sl121 (L a11 x5.Mem c11) x5.Mem, sl3 (L a12 x5.Stack c12) x5.Stack, sl121 (L a13 x5.Out c13) x5.Out, sl121 (L a14 x5.Cond c14) x5.Cond, sl3 (L a15 x5.Turns c15) x5.Turns, BX b2 75 [I x3.Pc, L a3 x3.Regs c3, L a4 x3.Mem c4, L a5 x3.Stack c5, I x3.In, L a6 x3.Out c6, I x3.Code, I x3.Steps, L a7 x3.Cond c7, L a8 x3.Turns c8], sl121 (L a3 x3.Regs c3) x3.Regs, sl121 (L a4 x3.Mem c4) x3.Mem, sl3 (L a5 x3.Stack c5) x3.Stack, sl121 (L a6 x3.Out c6) x3.Out, sl121 (L a7 x3.Cond c7) x3.Cond, sl3 (L a8 x3.Turns c8) x3.Turns, BX b1 24 [I p0.W, I p0.Mem, I p0.In, L a1 p0.Code c1]] w15 S12 := Sep.pick [1, 2, 3, 4, 5, 6, 7, 8, 9, 10, 11, 12, 13, 14, 15] hs (by decide) rfl
 refine from_pure 1 [(1, B b1 0), (4, B b2 0), (6, B b4 0), (7, I x9.1)] hF (by kernel_rfl) fun fr hF => ?_
 refine from_end rfl (then_normal ?_)
 refine wp_seq ?_
 obtain ⟨x10, hx10, h⟩ := bindE h
 refine wp_seq (region_b [] [true, true, true, false, false, false, true, true]
     [.eq (I x9.1), .eq (.bool (decide (x9.1 < 0))), .eq (.bool (decide (x9.1 < 0))), .eq (.agg #[I x5.Pc, L a10 x5.Regs c10, L a11 x5.Mem c11, L a12 x5.Stack c12, I x5.In, L a13 x5.Out c13, I x5.Code, I x5.Steps, L a14 x5.Cond c14, L a15 x5.Turns c15]), .eq (.agg #[I x3.Pc, L a3 x3.Regs c3, L a4 x3.Mem c4, L a5 x3.Stack c5, I x3.In, L a6 x3.Out c6, I x3.Code, I x3.Steps, L a7 x3.Cond c7, L a8 x3.Turns c8]), .eq (.bool x10), .eq (.bool (!x10)), .eq (.bool ((decide (x9.1 < 0)) || (!x10)))]
     [(1, B b1 0), (4, B b2 0), (6, B b4 0), (42, .bool ((decide (x9.1 < 0)) || (!x10)))] mix hF (by kernel_rfl) (by kernel_rfl) (by kernel_rfl) ⟨Pd.mono_eq, Pd.mono_eq, Pd.mono_eq, trivial⟩ (fun hG => ⟨np_loadBoxS hG hF ty75 rfl rfl (hs.bx 0 rfl) rfl rfl rfl rfl, np_loadBoxS hG hF ty75 rfl rfl (hs.bx 7 rfl) rfl rfl rfl rfl, np_call [.agg #[I x5.Pc, L a10 x5.Regs c10, L a11 x5.Mem c11, L a12 x5.Stack c12, I x5.In, L a13 x5.Out c13, I x5.Code, I x5.Steps, L a14 x5.Cond c14, L a15 x5.Turns c15], .agg #[I x3.Pc, L a3 x3.Regs c3, L a4 x3.Mem c4, L a5 x3.Stack c5, I x3.In, L a6 x3.Out c6, I x3.Code, I x3.Steps, L a7 x3.Cond c7, L a8 x3.Turns c8]] hG hF Try.call49 rfl rfl (fun w hC hg => (laws_eqPath_ok n x5 x3 (iteF hg.2 hx10) ((RV.mk_Path x5 (RV.any (hs.rv 1 rfl)) (RV.any (hs.rv 2 rfl)) (RV.any (hs.rv 3 rfl)) (RV.any (hs.rv 4 rfl)) (RV.any (hs.rv 5 rfl)) (RV.any (hs.rv 6 rfl))).ext hC) ((RV.mk_Path x3 (RV.any (hs.rv 8 rfl)) (RV.any (hs.rv 9 rfl)) (RV.any (hs.rv 10 rfl)) (RV.any (hs.rv 11 rfl)) (RV.any (hs.rv 12 rfl)) (RV.any (hs.rv 13 rfl))).ext hC)).mono fun e w' ⟨v, he, hv, hc⟩ => ⟨v, he, hc, hv⟩), trivial⟩) (by kernel_rfl) fun fr w16 hF hE hc => then_normal ?_)
 have r1 := r1.ext hc
 have hs := hs.ext hc
 have hM0 := hM0.ext hc
 refine (wp_if hF (b := ((decide (x9.1 < 0)) || (!x10))) rfl (fun hb => ?_) (fun hb => ?_))
 · replace h := iteT hb h
   have hs : Sep [] w16 S12 := Sep.pick [] hs (by decide) rfl
   refine wp_seq (wp_pure [(2, .bool false)] hF (by kernel_rfl) fun fr hF => then_normal ?_)
   obtain rfl := Option.some.inj h
   exact wp_ret (then_ret (ret1 rfl hF rfl ⟨_, rfl, rfl, hM0.chg⟩))
 replace h := iteF hb h
 refine (wp_skip (then_normal ?_))
 refine wp_seq (wp_pure [(1, B b1 0), (4, B b2 0), (6, B b4 0), (8, I 1)] hF (by kernel_rfl) fun fr hF => then_normal ?_)
 refine wp_seq (wp_text' ?_)
 refine s_loadBoxS ty75 rfl rfl hF rfl (hs.bx 0 rfl) rfl rfl fun fr hF => ?_
 refine from_pure 1 [(1, B b1 0), (4, B b2 0), (6, B b4 0), (43, .agg #[I x5.Pc, L a10 x5.Regs c10, L a11 x5.Mem c11, L a12 x5.Stack c12, I x5.In, L a13 x5.Out c13, I x5.Code, I x5.Steps, L a14 x5.Cond c14, L a15 x5.Turns c15]), (44, I 1)] hF (by kernel_rfl) fun fr hF => ?_
 obtain ⟨x11, hx11, h⟩ := bindE h
 have hs : Sep [sl121 (L a10 x5.Regs c10) x5.Regs, sl121 (L a11 x5.Mem c11) x5.Mem, sl3 (L a12 x5.Stack c12) x5.Stack, sl121 (L a13 x5.Out c13) x5.Out, sl121 (L a14 x5.Cond c14) x5.Cond, sl3 (L a15 x5.Turns c15) x5.Turns, BX b4 75 [I x5.Pc, L a10 x5.Regs c10, L a11 x5.Mem c11, L a12 x5.Stack c12, I x5.In, L a13 x5.Out c13, I x5.Code, I x5.Steps, L a14 x5.Cond c14, L a15 x5.Turns c15], BX b2 75 [I x3.Pc, L a3 x3.Regs c3, L a4 x3.Mem c4, L a5 x3.Stack c5, I x3.In, L a6 x3.Out c6, I x3.Code, I x3.Steps, L a7 x3.Cond c7, L a8 x3.Turns c8], sl121 (L a3 x3.Regs c3) x3.Regs, sl121 (L a4 x3.Mem c4) x3.Mem, sl3 (L a5 x3.Stack c5) x3.Stack, sl121 (L a6 x3.Out c6) x3.Out, sl121 (L a7 x3.Cond c7) x3.Cond, sl3 (L a8 x3.Turns c8) x3.Turns, BX b1 24 [I p0.W, I p0.Mem, I p0.In, L a1 p0.Code c1]] w16 S12 := Sep.pick [1, 2, 3, 4, 5, 6, 0, 7, 8, 9, 10, 11, 12, 13, 14] hs (by decide) rfl
 obtain ⟨A2, R2, hsA, hsR, hdA, hbA, hup⟩ := Sep.call (L1 := [sl121 (L a10 x5.Regs c10) x5.Regs, sl121 (L a11 x5.Mem c11) x5.Mem, sl3 (L a12 x5.Stack c12) x5.Stack, sl121 (L a13 x5.Out c13) x5.Out, sl121 (L a14 x5.Cond c14) x5.Cond, sl3 (L a15 x5.Turns c15) x5.Turns]) (L2 := [BX b4 75 [I x5.Pc, L a10 x5.Regs c10, L a11 x5.Mem c11, L a12 x5.Stack c12, I x5.In, L a13 x5.Out c13, I x5.Code, I x5.Steps, L a14 x5.Cond c14, L a15 x5.Turns c15], BX b2 75 [I x3.Pc, L a3 x3.Regs c3, L a4 x3.Mem c4, L a5 x3.Stack c5, I x3.In, L a6 x3.Out c6, I x3.Code, I x3.Steps, L a7 x3.Cond c7, L a8 x3.Turns c8], sl121 (L a3 x3.Regs c3) x3.Regs, sl121 (L a4 x3.Mem c4) x3.Mem, sl3 (L a5 x3.Stack c5) x3.Stack, sl121 (L a6 x3.Out c6) x3.Out, sl121 (L a7 x3.Cond c7) x3.Cond, sl3 (L a8 x3.Turns c8) x3.Turns, BX b1 24 [I p0.W, I p0.Mem, I p0.In, L a1 p0.Code c1]]) hs hM0
 refine s_call [.agg #[I x5.Pc, L a10 x5.Regs c10, L a11 x5.Mem c11, L a12 x5.Stack c12, I x5.In, L a13 x5.Out c13, I x5.Code, I x5.Steps, L a14 x5.Cond c14, L a15 x5.Turns c15], I 1] Try.call50 rfl rfl hF rfl (laws_markPath_ok n x5 1 hx11 hsA hbA hdA) fun v w17 fr hRes hF => ?_
 obtain ⟨rfl, _, hp, hs⟩ := hRes
 obtain ⟨S13, hp, hs⟩ := hup hp hs
 have r1 := r1.stp hM0 hp
 have hM0 := hM0.stp hp
 have hs : Sep [sl121 (L a10 x5.Regs c10) x11.2.Regs, sl121 (L a11 x5.Mem c11) x11.2.Mem, sl3 (L a12 x5.Stack c12) x11.2.Stack, sl121 (L a13 x5.Out c13) x11.2.Out, sl121 (L a14 x5.Cond c14) x11.2.Cond, sl3 (L a15 x5.Turns c15) x11.2.Turns, BX b4 75 [I x5.Pc, L a10 x5.Regs c10, L a11 x5.Mem c11, L a12 x5.Stack c12, I x5.In, L a13 x5.Out c13, I x5.Code, I x5.Steps, L a14 x5.Cond c14, L a15 x5.Turns c15], BX b2 75 [I x3.Pc, L a3 x3.Regs c3, L a4 x3.Mem c4, L a5 x3.Stack c5, I x3.In, L a6 x3.Out c6, I x3.Code, I x3.Steps, L a7 x3.Cond c7, L a8 x3.Turns c8], sl121 (L a3 x3.Regs c3) x3.Regs, sl121 (L a4 x3.Mem c4) x3.Mem, sl3 (L a5 x3.Stack c5) x3.Stack, sl121 (L a6 x3.Out c6) x3.Out, sl121 (L a7 x3.Cond c7) x3.Cond, sl3 (L a8 x3.Turns c8) x3.Turns, BX b1 24 [I p0.W, I p0.Mem, I p0.In, L a1 p0.Code c1]] w17 S13 := hs
 refine from_pure 1 [(1, B b1 0), (4, B b2 0), (6, B b4 0), (8, I x11.1)] hF (by kernel_rfl) fun fr hF => ?_
 refine from_end rfl (then_normal ?_)
 refine wp_seq (wp_pure [(1, B b1 0), (4, B b2 0), (6, B b4 0), (8, I x11.1), (9, I 1)] hF (by kernel_rfl) fun fr hF => then_normal ?_)
 refine wp_seq (wp_text' ?_)
 refine s_loadBoxS ty75 rfl rfl hF rfl (hs.bx 6 rfl) rfl rfl fun fr hF => ?_
 refine from_pure 1 [(1, B b1 0), (4, B b2 0), (6, B b4 0), (8, I x11.1), (46, .agg #[I x5.Pc, L a10 x5.Regs c10, L a11 x5.Mem c11, L a12 x5.Stack c12, I x5.In, L a13 x5.Out c13, I x5.Code, I x5.Steps, L a14 x5.Cond c14, L a15 x5.Turns c15]), (47, I 1)] hF (by kernel_rfl) fun fr hF => ?_
 obtain ⟨x12, hx12, h⟩ := bindE h
 refine s_call [.agg #[I x5.Pc, L a10 x5.Regs c10, L a11 x5.Mem c11, L a12 x5.Stack c12, I x5.In, L a13 x5.Out c13, I x5.Code, I x5.Steps, L a14 x5.Cond c14, L a15 x5.Turns c15], I 1] Try.call51 rfl rfl hF rfl (laws_heldPath_ok n (D.Path.mk x5.Pc x11.2.Regs x11.2.Mem x11.2.Stack x5.In x11.2.Out x5.Code x5.Steps x11.2.Cond x11.2.Turns) 1 hx12 (RV.mk_Path (D.Path.mk x5.Pc x11.2.Regs x11.2.Mem x11.2.Stack x5.In x11.2.Out x5.Code x5.Steps x11.2.Cond x11.2.Turns) (RV.any (hs.rv 0 rfl)) (RV.any (hs.rv 1 rfl)) (RV.any (hs.rv 2 rfl)) (RV.any (hs.rv 3 rfl)) (RV.any (hs.rv 4 rfl)) (RV.any (hs.rv 5 rfl)))) fun v w18 fr hRes hF => ?_
 obtain ⟨rfl, hc⟩ := hRes
 have r1 := r1.ext hc
 have hs := hs.ext hc
 have hM0 := hM0.ext hc
 refine from_pure 1 [(1, B b1 0), (4, B b2 0), (6, B b4 0), (8, I x11.1), (9, I x12)] hF (by kernel_rfl) fun fr hF => ?_
 refine from_end rfl (then_normal ?_)
 refine wp_seq ?_
 refine wp_seq (wp_pure [(1, B b1 0), (4, B b2 0), (6, B b4 0), (8, I x11.1), (9, I x12), (50, .bool (decide (x12 < 0)))] hF (by kernel_rfl) fun fr hF => then_normal ?_)
 refine (wp_if hF (b := (decide (x12 < 0))) rfl (fun hb => ?_) (fun hb => ?_))
 · replace h := iteT hb h
   have hs : Sep [] w18 S13 := Sep.pick [] hs (by decide) rfl
   refine wp_seq (wp_pure [(2, .bool false)] hF (by kernel_rfl) fun fr hF => then_normal ?_)
   obtain rfl := Option.some.inj h
   exact wp_ret (then_ret (ret1 rfl hF rfl ⟨_, rfl, rfl, hM0.chg⟩))
 replace h := iteF hb h
 refine (wp_skip (then_normal ?_))
 refine wp_seq ?_
 refine wp_seq (wp_pure [(1, B b1 0), (4, B b2 0), (6, B b4 0), (8, I x11.1), (53, .bool (x12 != x11.1))] hF (by kernel_rfl) fun fr hF => then_normal ?_)
 refine (wp_if hF (b := (x12 != x11.1)) rfl (fun hb => ?_) (fun hb => ?_))
 · replace h := iteT hb h
   have hs : Sep [] w18 S13 := Sep.pick [] hs (by decide) rfl
   refine wp_seq (wp_pure [(2, .bool false)] hF (by kernel_rfl) fun fr hF => then_normal ?_)
   obtain rfl := Option.some.inj h
   exact wp_ret (then_ret (ret1 rfl hF rfl ⟨_, rfl, rfl, hM0.chg⟩))
 replace h := iteF hb h
 refine (wp_skip (then_normal ?_))
 refine wp_seq (wp_text' ?_)
 refine s_loadBoxS ty24 rfl rfl hF rfl (hs.bx 14 rfl) rfl rfl fun fr hF => ?_
 have hs : Sep [sl121 (L a10 x5.Regs c10) x11.2.Regs, sl121 (L a11 x5.Mem c11) x11.2.Mem, sl3 (L a12 x5.Stack c12) x11.2.Stack, sl121 (L a13 x5.Out c13) x11.2.Out, sl121 (L a14 x5.Cond c14) x11.2.Cond, sl3 (L a15 x5.Turns c15) x11.2.Turns, BX b4 75 [I x5.Pc, L a10 x5.Regs c10, L a11 x5.Mem c11, L a12 x5.Stack c12, I x5.In, L a13 x5.Out c13, I x5.Code, I x5.Steps, L a14 x5.Cond c14, L a15 x5.Turns c15], BX b2 75 [I x3.Pc, L a3 x3.Regs c3, L a4 x3.Mem c4, L a5 x3.Stack c5, I x3.In, L a6 x3.Out c6, I x3.Code, I x3.Steps, L a7 x3.Cond c7, L a8 x3.Turns c8], sl121 (L a3 x3.Regs c3) x3.Regs, sl121 (L a4 x3.Mem c4) x3.Mem, sl3 (L a5 x3.Stack c5) x3.Stack, sl121 (L a6 x3.Out c6) x3.Out, sl121 (L a7 x3.Cond c7) x3.Cond, sl3 (L a8 x3.Turns c8) x3.Turns] w18 S13 := Sep.pick [0, 1, 2, 3, 4, 5, 6, 7, 8, 9, 10, 11, 12, 13] hs (by decide) rfl
 obtain ⟨x13, hx13, h⟩ := bindE h
 refine s_call [.agg #[I p0.W, I p0.Mem, I p0.In, L a1 p0.Code c1]] Try.call13 rfl rfl hF rfl (laws_toProgram_ok n p0 hx13 (RV.mk_Program p0 (r1))) fun v w19 fr hRes hF => ?_
 obtain ⟨a16, c16, rfl, _, hp, hs2⟩ := hRes
 obtain ⟨S14, hp, hs⟩ := hs.got hM0 hp hs2
 have r1 := r1.stp hM0 hp
 have hM0 := hM0.stp hp
 have hs : Sep [sl90 (L a16 x13.Code c16) x13.Code, sl121 (L a10 x5.Regs c10) x11.2.Regs, sl121 (L a11 x5.Mem c11) x11.2.Mem, sl3 (L a12 x5.Stack c12) x11.2.Stack, sl121 (L a13 x5.Out c13) x11.2.Out, sl121 (L a14 x5.Cond c14) x11.2.Cond, sl3 (L a15 x5.Turns c15) x11.2.Turns, BX b4 75 [I x5.Pc, L a10 x5.Regs c10, L a11 x5.Mem c11, L a12 x5.Stack c12, I x5.In, L a13 x5.Out c13, I x5.Code, I x5.Steps, L a14 x5.Cond c14, L a15 x5.Turns c15], BX b2 75 [I x3.Pc, L a3 x3.Regs c3, L a4 x3.Mem c4, L a5 x3.Stack c5, I x3.In, L a6 x3.Out c6, I x3.Code, I x3.Steps, L a7 x3.Cond c7, L a8 x3.Turns c8], sl121 (L a3 x3.Regs c3) x3.Regs, sl121 (L a4 x3.Mem c4) x3.Mem, sl3 (L a5 x3.Stack c5) x3.Stack, sl121 (L a6 x3.Out c6) x3.Out, sl121 (L a7 x3.Cond c7) x3.Cond, sl3 (L a8 x3.Turns c8) x3.Turns] w19 S14 := hs
 obtain ⟨x14, hx14, h⟩ := bindE h
 refine s_call [.agg #[I x13.W, I x13.Mem, I x13.In, L a16 x13.Code c16]] Try.call48 rfl rfl hF rfl (impl_StartPath_ok n x13 hx14 (RV.mk_Program x13 (RV.any (hs.rv 0 rfl)))) fun v w20 fr hRes hF => ?_
 obtain ⟨a17, c17, a18, c18, a19, c19, a20, c20, a21, c21, a22, c22, rfl, _, hp, hs2⟩ := hRes
 obtain ⟨S15, hp, hs⟩ := hs.got hM0 hp hs2
 have hM0 := hM0.stp hp
 have hs : Sep [sl121 (L a17 x14.Regs c17) x14.Regs, sl121 (L a18 x14.Mem c18) x14.Mem, sl3 (L a19 x14.Stack c19) x14.Stack, sl121 (L a20 x14.Out c20) x14.Out, sl121 (L a21 x14.Cond c21) x14.Cond, sl3 (L a22 x14.Turns c22) x14.Turns, sl90 (L a16 x13.Code c16) x13.Code, sl121 (L a10 x5.Regs c10) x11.2.Regs, sl121 (L a11 x5.Mem c11) x11.2.Mem, sl3 (L a12 x5.Stack c12) x11.2.Stack, sl121 (L a13 x5.Out c13) x11.2.Out, sl121 (L a14 x5.Cond c14) x11.2.Cond, sl3 (L a15 x5.Turns c15) x11.2.Turns, BX b4 75 [I x5.Pc, L a10 x5.Regs c10, L a11 x5.Mem c11, L a12 x5.Stack c12, I x5.In, L a13 x5.Out c13, I x5.Code, I x5.Steps, L a14 x5.Cond c14, L a15 x5.Turns c15], BX b2 75 [I x3.Pc, L a3 x3.Regs c3, L a4 x3.Mem c4, L a5 x3.Stack c5, I x3.In, L a6 x3.Out c6, I x3.Code, I x3.Steps, L a7 x3.Cond c7, L a8 x3.Turns c8], sl121 (L a3 x3.Regs c3) x3.Regs, sl121 (L a4 x3.Mem c4) x3.Mem, sl3 (L a5 x3.Stack c5) x3.Stack, sl121 (L a6 x3.Out c6) x3.Out, sl121 (L a7 x3.Cond c7) x3.Cond, sl3 (L a8 x3.Turns c8) x3.Turns] w20 S15 := hs
 have hs : Sep [sl121 (L a17 x14.Regs c17) x14.Regs, sl121 (L a18 x14.Mem c18) x14.Mem, sl3 (L a19 x14.Stack c19) x14.Stack, sl121 (L a20 x14.Out c20) x14.Out, sl121 (L a21 x14.Cond c21) x14.Cond, sl3 (L a22 x14.Turns c22) x14.Turns, sl121 (L a10 x5.Regs c10) x11.2.Regs, sl121 (L a11 x5.Mem c11) x11.2.Mem, sl3 (L a12 x5.Stack c12) x11.2.Stack, sl121 (L a13 x5.Out c13) x11.2.Out, sl121 (L a14 x5.Cond c14) x11.2.Cond, sl3 (L a15 x5.Turns c15) x11.2.Turns, BX b4 75 [I x5.Pc, L a10 x5.Regs c10, L a11 x5.Mem c11, L a12 x5.Stack c12, I x5.In, L a13 x5.Out c13, I x5.Code, I x5.Steps, L a14 x5.Cond c14, L a15 x5.Turns c15], BX b2 75 [I x3.Pc, L a3 x3.Regs c3, L a4 x3.Mem c4, L a5 x3.Stack c5, I x3.In, L a6 x3.Out c6, I x3.Code, I x3.Steps, L a7 x3.Cond c7, L a8 x3.Turns c8], sl121 (L a3 x3.Regs c3) x3.Regs, sl121 (L a4 x3.Mem c4) x3.Mem, sl3 (L a5 x3.Stack c5) x3.Stack, sl121 (L a6 x3.Out c6) x3.Out, sl121 (L a7 x3.Cond c7) x3.Cond, sl3 (L a8 x3.Turns c8) x3.Turns] w20 S15 := Sep.pick [0, 1, 2, 3, 4, 5, 7, 8, 9, 10, 11, 12, 13, 14, 15, 16, 17, 18, 19, 20] hs (by decide) rfl
 refine q_alloc (z := .agg #[I 0, L none ([] : List D.Term) 0, L none ([] : List D.Term) 0, L none ([] : List Int) 0, I 0, L none ([] : List D.Term) 0, I 0, I 0, L none ([] : List D.Term) 0, L none ([] : List Int) 0]) hs hM0 [I 0, L none ([] : List D.Term) 0, L none ([] : List D.Term) 0, L none ([] : List Int) 0, I 0, L none ([] : List D.Term) 0, I 0, I 0, L none ([] : List D.Term) 0, L none ([] : List Int) 0] rfl rfl hF (by kernel_rfl) rfl fun b5 w21 S16 fr hs hp hF => ?_
 have hM0 := hM0.stp hp
 have hs : Sep [BX b5 75 [I 0, L none ([] : List D.Term) 0, L none ([] : List D.Term) 0, L none ([] : List Int) 0, I 0, L none ([] : List D.Term) 0, I 0, I 0, L none ([] : List D.Term) 0, L none ([] : List Int) 0], sl121 (L a17 x14.Regs c17) x14.Regs, sl121 (L a18 x14.Mem c18) x14.Mem, sl3 (L a19 x14.Stack c19) x14.Stack, sl121 (L a20 x14.Out c20) x14.Out, sl121 (L a21 x14.Cond c21) x14.Cond, sl3 (L a22 x14.Turns c22) x14.Turns, sl121 (L a10 x5.Regs c10) x11.2.Regs, sl121 (L a11 x5.Mem c11) x11.2.Mem, sl3 (L a12 x5.Stack c12) x11.2.Stack, sl121 (L a13 x5.Out c13) x11.2.Out, sl121 (L a14 x5.Cond c14) x11.2.Cond, sl3 (L a15 x5.Turns c15) x11.2.Turns, BX b4 75 [I x5.Pc, L a10 x5.Regs c10, L a11 x5.Mem c11, L a12 x5.Stack c12, I x5.In, L a13 x5.Out c13, I x5.Code, I x5.Steps, L a14 x5.Cond c14, L a15 x5.Turns c15], BX b2 75 [I x3.Pc, L a3 x3.Regs c3, L a4 x3.Mem c4, L a5 x3.Stack c5, I x3.In, L a6 x3.Out c6, I x3.Code, I x3.Steps, L a7 x3.Cond c7, L a8 x3.Turns c8], sl121 (L a3 x3.Regs c3) x3.Regs, sl121 (L a4 x3.Mem c4) x3.Mem, sl3 (L a5 x3.Stack c5) x3.Stack, sl121 (L a6 x3.Out c6) x3.Out, sl121 (L a7 x3.Cond c7) x3.Cond, sl3 (L a8 x3.Turns c8) x3.Turns] w21 S16 := hs
 refine q_storeBoxS 0 hs hM0 rfl [I x14.Pc, L a17 x14.Regs c17, L a18 x14.Mem c18, L a19 x14.Stack c19, I x14.In, L a20 x14.Out c20, I x14.Code, I x14.Steps, L a21 x14.Cond c21, L a22 x14.Turns c22] rfl hF rfl rfl (by kernel_rfl) rfl rfl rfl fun w22 S17 hs hp hF => ?_
 have hM0 := hM0.stp hp
 have hs : Sep [BX b5 75 [I x14.Pc, L a17 x14.Regs c17, L a18 x14.Mem c18, L a19 x14.Stack c19, I x14.In, L a20 x14.Out c20, I x14.Code, I x14.Steps, L a21 x14.Cond c21, L a22 x14.Turns c22], sl121 (L a17 x14.Regs c17) x14.Regs, sl121 (L a18 x14.Mem c18) x14.Mem, sl3 (L a19 x14.Stack c19) x14.Stack, sl121 (L a20 x14.Out c20) x14.Out, sl121 (L a21 x14.Cond c21) x14.Cond, sl3 (L a22 x14.Turns c22) x14.Turns, sl121 (L a10 x5.Regs c10) x11.2.Regs, sl121 (L a11 x5.Mem c11) x11.2.Mem, sl3 (L a12 x5.Stack c12) x11.2.Stack, sl121 (L a13 x5.Out c13) x11.2.Out, sl121 (L a14 x5.Cond c14) x11.2.Cond, sl3 (L a15 x5.Turns c15) x11.2.Turns, BX b4 75 [I x5.Pc, L a10 x5.Regs c10, L a11 x5.Mem c11, L a12 x5.Stack c12, I x5.In, L a13 x5.Out c13, I x5.Code, I x5.Steps, L a14 x5.Cond c14, L a15 x5.Turns c15], BX b2 75 [I x3.Pc, L a3 x3.Regs c3, L a4 x3.Mem c4, L a5 x3.Stack c5, I x3.In, L a6 x3.Out c6, I x3.Code, I x3.Steps, L a7 x3.Cond c7, L a8 x3.Turns c8], sl121 (L a3 x3.Regs c3) x3.Regs, sl121 (L a4 x3.Mem c4) x3.Mem, sl3 (L a5 x3.Stack c5) x3.Stack, sl121 (L a6 x3.Out c6) x3.Out, sl121 (L a7 x3.Cond c7) x3.Cond, sl3 (L a8 x3.Turns c8) x3.Turns] w22 S17 := hs
 refine from_end rfl (then_normal ?_)
 refine wp_seq ?_
 refine wp_seq (wp_text' ?_)
 refine s_loadBoxS ty75 rfl rfl hF rfl (hs.bx 0 rfl) rfl rfl fun fr hF => ?_
 have hs : Sep [sl121 (L a17 x14.Regs c17) x14.Regs, sl121 (L a18 x14.Mem c18) x14.Mem, sl3 (L a19 x14.Stack c19) x14.Stack, sl121 (L a20 x14.Out c20) x14.Out, sl121 (L a21 x14.Cond c21) x14.Cond, sl3 (L a22 x14.Turns c22) x14.Turns, sl121 (L a10 x5.Regs c10) x11.2.Regs, sl121 (L a11 x5.Mem c11) x11.2.Mem, sl3 (L a12 x5.Stack c12) x11.2.Stack, sl121 (L a13 x5.Out c13) x11.2.Out, sl121 (L a14 x5.Cond c14) x11.2.Cond, sl3 (L a15 x5.Turns c15) x11.2.Turns, BX b4 75 [I x5.Pc, L a10 x5.Regs c10, L a11 x5.Mem c11, L a12 x5.Stack c12, I x5.In, L a13 x5.Out c13, I x5.Code, I x5.Steps, L a14 x5.Cond c14, L a15 x5.Turns c15], BX b2 75 [I x3.Pc, L a3 x3.Regs c3, L a4 x3.Mem c4, L a5 x3.Stack c5, I x3.In, L a6 x3.Out c6, I x3.Code, I x3.Steps, L a7 x3.Cond c7, L a8 x3.Turns c8], sl121 (L a3 x3.Regs c3) x3.Regs, sl121 (L a4 x3.Mem c4) x3.Mem, sl3 (L a5 x3.Stack c5) x3.Stack, sl121 (L a6 x3.Out c6) x3.Out, sl121 (L a7 x3.Cond c7) x3.Cond, sl3 (L a8 x3.Turns c8) x3.Turns] w22 S17 := Sep.pick [1, 2, 3, 4, 5, 6, 7, 8, 9, 10, 11, 12, 13, 14, 15, 16, 17, 18, 19, 20] hs (by decide) rfl
 refine s_loadBoxS ty75 rfl rfl hF rfl (hs.bx 13 rfl) rfl rfl fun fr hF => ?_
 have hs : Sep [sl121 (L a17 x14.Regs c17) x14.Regs, sl121 (L a18 x14.Mem c18) x14.Mem, sl3 (L a19 x14.Stack c19) x14.Stack, sl121 (L a20 x14.Out c20) x14.Out, sl121 (L a21 x14.Cond c21) x14.Cond, sl3 (L a22 x14.Turns c22) x14.Turns, sl121 (L a10 x5.Regs c10) x11.2.Regs, sl121 (L a11 x5.Mem c11) x11.2.Mem, sl3 (L a12 x5.Stack c12) x11.2.Stack, sl121 (L a13 x5.Out c13) x11.2.Out, sl121 (L a14 x5.Cond c14) x11.2.Cond, sl3 (L a15 x5.Turns c15) x11.2.Turns, BX b4 75 [I x5.Pc, L a10 x5.Regs c10, L a11 x5.Mem c11, L a12 x5.Stack c12, I x5.In, L a13 x5.Out c13, I x5.Code, I x5.Steps, L a14 x5.Cond c14, L a15 x5.Turns c15], sl121 (L a3 x3.Regs c3) x3.Regs, sl121 (L a4 x3.Mem c4) x3.Mem, sl3 (L a5 x3.Stack c5) x3.Stack, sl121 (L a6 x3.Out c6) x3.Out, sl121 (L a7 x3.Cond c7) x3.Cond, sl3 (L a8 x3.Turns c8) x3.Turns] w22 S17 := Sep.pick [0, 1, 2, 3, 4, 5, 6, 7, 8, 9, 10, 11, 12, 14, 15, 16, 17, 18, 19] hs (by decide) rfl
 obtain ⟨x15, hx15, h⟩ := bindE h
 refine s_call [.agg #[I x14.Pc, L a17 x14.Regs c17, L a18 x14.Mem c18, L a19 x14.Stack c19, I x14.In, L a20 x14.Out c20, I x14.Code, I x14.Steps, L a21 x14.Cond c21, L a22 x14.Turns c22], .agg #[I x3.Pc, L a3 x3.Regs c3, L a4 x3.Mem c4, L a5 x3.Stack c5, I x3.In, L a6 x3.Out c6, I x3.Code, I x3.Steps, L a7 x3.Cond c7, L a8 x3.Turns c8]] Try.call49 rfl rfl hF rfl (laws_eqPath_ok n x14 x3 hx15 (RV.mk_Path x14 (RV.any (hs.rv 0 rfl)) (RV.any (hs.rv 1 rfl)) (RV.any (hs.rv 2 rfl)) (RV.any (hs.rv 3 rfl)) (RV.any (hs.rv 4 rfl)) (RV.any (hs.rv 5 rfl))) (RV.mk_Path x3 (RV.any (hs.rv 13 rfl)) (RV.any (hs.rv 14 rfl)) (RV.any (hs.rv 15 rfl)) (RV.any (hs.rv 16 rfl)) (RV.any (hs.rv 17 rfl)) (RV.any (hs.rv 18 rfl)))) fun v w23 fr hRes hF => ?_
 obtain ⟨rfl, hc⟩ := hRes
 have hs := hs.ext hc
 have hM0 := hM0.ext hc
 have hs : Sep [sl121 (L a10 x5.Regs c10) x11.2.Regs, sl121 (L a11 x5.Mem c11) x11.2.Mem, sl3 (L a12 x5.Stack c12) x11.2.Stack, sl121 (L a13 x5.Out c13) x11.2.Out, sl121 (L a14 x5.Cond c14) x11.2.Cond, sl3 (L a15 x5.Turns c15) x11.2.Turns, BX b4 75 [I x5.Pc, L a10 x5.Regs c10, L a11 x5.Mem c11, L a12 x5.Stack c12, I x5.In, L a13 x5.Out c13, I x5.Code, I x5.Steps, L a14 x5.Cond c14, L a15 x5.Turns c15]] w23 S17 := Sep.pick [6, 7, 8, 9, 10, 11, 12] hs (by decide) rfl
 refine from_pure 1 [(6, B b4 0), (8, I x11.1), (60, .bool (!x15))] hF (by kernel_rfl) fun fr hF => ?_
 refine from_end rfl (then_normal ?_)
 refine (wp_if hF (b := (!x15)) rfl (fun hb => ?_) (fun hb => ?_))
 · replace h := iteT hb h
   have hs : Sep [] w23 S17 := Sep.pick [] hs (by decide) rfl
   refine wp_seq (wp_pure [(2, .bool false)] hF (by kernel_rfl) fun fr hF => then_normal ?_)
   obtain rfl := Option.some.inj h
   exact wp_ret (then_ret (ret1 rfl hF rfl ⟨_, rfl, rfl, hM0.chg⟩))
 replace h := iteF hb h
 refine (wp_skip (then_normal ?_))
 refine wp_seq (wp_pure [(6, B b4 0), (8, I x11.1), (9, I 1)] hF (by kernel_rfl) fun fr hF => then_normal ?_)
 refine wp_seq (wp_text' ?_)
 refine s_loadBoxS ty75 rfl rfl hF rfl (hs.bx 6 rfl) rfl rfl fun fr hF => ?_
 have hs : Sep [sl121 (L a10 x5.Regs c10) x11.2.Regs, sl121 (L a11 x5.Mem c11) x11.2.Mem, sl3 (L a12 x5.Stack c12) x11.2.Stack, sl121 (L a13 x5.Out c13) x11.2.Out, sl121 (L a14 x5.Cond c14) x11.2.Cond, sl3 (L a15 x5.Turns c15) x11.2.Turns] w23 S17 := Sep.pick [0, 1, 2, 3, 4, 5] hs (by decide) rfl
 refine from_pure 1 [(8, I x11.1), (61, .agg #[I x5.Pc, L a10 x5.Regs c10, L a11 x5.Mem c11, L a12 x5.Stack c12, I x5.In, L a13 x5.Out c13, I x5.Code, I x5.Steps, L a14 x5.Cond c14, L a15 x5.Turns c15]), (62, I 1)] hF (by kernel_rfl) fun fr hF => ?_
 obtain ⟨x16, hx16, h⟩ := bindE h
 refine s_call [.agg #[I x5.Pc, L a10 x5.Regs c10, L a11 x5.Mem c11, L a12 x5.Stack c12, I x5.In, L a13 x5.Out c13, I x5.Code, I x5.Steps, L a14 x5.Cond c14, L a15 x5.Turns c15], I 1] Try.call51 rfl rfl hF rfl (laws_heldPath_ok n (D.Path.mk x5.Pc x11.2.Regs x11.2.Mem x11.2.Stack x5.In x11.2.Out x5.Code x5.Steps x11.2.Cond x11.2.Turns) 1 hx16 (RV.mk_Path (D.Path.mk x5.Pc x11.2.Regs x11.2.Mem x11.2.Stack x5.In x11.2.Out x5.Code x5.Steps x11.2.Cond x11.2.Turns) (RV.any (hs.rv 0 rfl)) (RV.any (hs.rv 1 rfl)) (RV.any (hs.rv 2 rfl)) (RV.any (hs.rv 3 rfl)) (RV.any (hs.rv 4 rfl)) (RV.any (hs.rv 5 rfl)))) fun v w24 fr hRes hF => ?_
 obtain ⟨rfl, hc⟩ := hRes
 have hs := hs.ext hc
 have hM0 := hM0.ext hc
 have hs : Sep [] w24 S17 := Sep.pick [] hs (by decide) rfl
 refine from_pure 1 [(8, I x11.1), (9, I x16)] hF (by kernel_rfl) fun fr hF => ?_
 refine from_end rfl (then_normal ?_)
 refine wp_seq ?_
 refine wp_seq (wp_pure [(8, I x11.1), (9, I x16), (65, .bool (decide (x16 < 0)))] hF (by kernel_rfl) fun fr hF => then_normal ?_)
 refine (wp_if hF (b := (decide (x16 < 0))) rfl (fun hb => ?_) (fun hb => ?_))
 · replace h := iteT hb h
   refine wp_seq (wp_pure [(2, .bool false)] hF (by kernel_rfl) fun fr hF => then_normal ?_)
   obtain rfl := Option.some.inj h
   exact wp_ret (then_ret (ret1 rfl hF rfl ⟨_, rfl, rfl, hM0.chg⟩))
 replace h := iteF hb h
 refine (wp_skip (then_normal ?_))
 refine wp_seq ?_
 refine wp_seq (wp_pure [(68, .bool (x16 != x11.1))] hF (by kernel_rfl) fun fr hF => then_normal ?_)
 refine (wp_if hF (b := (x16 != x11.1)) rfl (fun hb => ?_) (fun hb => ?_))
 · replace h := iteT hb h
   refine wp_seq (wp_pure [(2, .bool false)] hF (by kernel_rfl) fun fr hF => then_normal ?_)
   obtain rfl := Option.some.inj h
   exact wp_ret (then_ret (ret1 rfl hF rfl ⟨_, rfl, rfl, hM0.chg⟩))
 replace h := iteF hb h
 refine (wp_skip (then_normal ?_))
 refine wp_seq (wp_pure [(2, .bool true)] hF (by kernel_rfl) fun fr hF => then_normal ?_)
 obtain rfl := Option.some.inj h
 exact wp_ret (ret1 rfl hF rfl ⟨_, rfl, rfl, hM0.chg⟩)
end Go.Proofs.Ytknlknnihinmjaa
