/- Printed by gen2.py: the walks. -/
import Derived.Test.YtknlknnihinmjaaWlkA
set_option linter.unusedVariables false
set_option maxRecDepth 100000
namespace Go.Proofs.Ytknlknnihinmjaa
open Go.GL Go.Maps Go.WideMaps
theorem impl_startPath_ok (n : Nat) (p0 : D.Program) {r : D.Path} (h : impl_startPath n p0 = some r) {w : World} {G0 : Nat → Prop} {va0 : Value} (ra0 : RV w G0 va0 p0) :
   Calls Try.prog 90 [va0].toArray w fun e w' => ∃ v, e = .returned v ∧ ∃ a1 c1 a2 c2 a3 c3 a4 c4 a5 c5 a6 c6, v = .agg #[I r.Pc, L a1 r.Regs c1, L a2 r.Mem c2, L a3 r.Stack c3, I r.In, L a4 r.Out c4, I r.Code, I r.Steps, L a5 r.Cond c5, L a6 r.Turns c6] ∧ ∃ S', Stp w Non w' S' ∧ Sep [sl121 (L a1 r.Regs c1) r.Regs, sl121 (L a2 r.Mem c2) r.Mem, sl3 (L a3 r.Stack c3) r.Stack, sl121 (L a4 r.Out c4) r.Out, sl121 (L a5 r.Cond c5) r.Cond, sl3 (L a6 r.Turns c6) r.Turns] w' S' := by
 unfold impl_startPath at h
 have hs := Sep.nil w Non
 have hM0 : Mem w Non (fun k => (G0 k) ∧ k < w.heap.size) w Non (fun k => (G0 k) ∧ k < w.heap.size) := Mem.start (fun _ h => h.elim) (fun _ h => h.2) (fun _ h => h.elim)
 have ra0 := ra0.sub (F' := (fun k => (G0 k) ∧ k < w.heap.size)) (fun k hk h => ⟨h, hk⟩)
 obtain ⟨v1, rfl, r1⟩ := RV.Program ra0
 obtain ⟨a1, c1, rfl, -⟩ := r1.slice
 refine enter (N := 40) Try.func90 rfl Try.ntmps90 rfl fun fr hF => ?_
 refine wp_seq (wp_text' ?_)
 refine q_box hs hM0 [I p0.W, I p0.Mem, I p0.In, L a1 p0.Code c1] rfl rfl hF rfl rfl fun b1 w1 S1 fr hs hp hF => ?_
 have r1 := r1.stp hM0 hp
 have hM0 := hM0.stp hp
 have hs : Sep [BX b1 30 [I p0.W, I p0.Mem, I p0.In, L a1 p0.Code c1]] w1 S1 := hs
 refine q_alloc (z := .agg #[I 0, L none ([] : List D.Term) 0, L none ([] : List D.Term) 0, L none ([] : List Int) 0, I 0, L none ([] : List D.Term) 0, I 0, I 0, L none ([] : List D.Term) 0, L none ([] : List Int) 0]) hs hM0 [I 0, L none ([] : List D.Term) 0, L none ([] : List D.Term) 0, L none ([] : List Int) 0, I 0, L none ([] : List D.Term) 0, I 0, I 0, L none ([] : List D.Term) 0, L none ([] : List Int) 0] rfl rfl hF (by kernel_rfl) rfl fun b2 w2 S2 fr hs hp hF => ?_
 have r1 := r1.stp hM0 hp
 have hM0 := hM0.stp hp
 have hs : Sep [BX b2 75 [I 0, L none ([] : List D.Term) 0, L none ([] : List D.Term) 0, L none ([] : List Int) 0, I 0, L none ([] : List D.Term) 0, I 0, I 0, L none ([] : List D.Term) 0, L none ([] : List Int) 0], BX b1 30 [I p0.W, I p0.Mem, I p0.In, L a1 p0.Code c1]] w2 S2 := hs
 refine from_end rfl (then_normal ?_)
 obtain ⟨x1, hx1, h⟩ := bindE h
 obtain ⟨x2, hx2, h⟩ := bindE h
 refine wp_seq (any_start mix fun w3 hc => ?_)
 have r1 := r1.ext hc
 have hs := hs.ext hc
 have hM0 := hM0.ext hc
 refine any_takes (fuel := 6) [1] [(1, B b1 0), (2, B b2 0), (7, B b1 1)] hF (by kernel_rfl) (by kernel_rfl) (by kernel_rfl) (fun _ _ _ _ _ h => h) fun fr hF => ?_
 refine any_node (fuel := 5) [0, 2, 5] (by kernel_rfl) (by simp) ⟨?_, ?_, ?_, trivial⟩
 · refine op_of _ rfl rfl ?_
   refine q_make hs hM0 Try.underlying73 el121 (zero_flat _ (by kernel_rfl)) rfl rfl hF rfl rfl hx1 fun a2 c2 w4 S3 fr hs hp hF => ?_
   have r1 := r1.stp hM0 hp
   have hM0 := hM0.stp hp
   have hs : Sep [sl121 (L a2 x1 c2) x1, BX b2 75 [I 0, L none ([] : List D.Term) 0, L none ([] : List D.Term) 0, L none ([] : List Int) 0, I 0, L none ([] : List D.Term) 0, I 0, I 0, L none ([] : List D.Term) 0, L none ([] : List Int) 0], BX b1 30 [I p0.W, I p0.Mem, I p0.In, L a1 p0.Code c1]] w4 S3 := hs
   refine from_end rfl (then_normal ?_)
   refine any_node (fuel := 4) [2, 5] (by kernel_rfl) (by simp) ⟨?_, ?_, trivial⟩
   · refine op_of _ rfl rfl ?_
     refine s_loadBox (I p0.Mem) ty3 rfl rfl hF rfl (hs.bx 2 rfl) rfl rfl fun fr hF => ?_
     refine from_end rfl (then_normal ?_)
     refine any_node (fuel := 3) [3, 5] (by kernel_rfl) (by simp) ⟨?_, ?_, trivial⟩
     · refine op_of _ rfl rfl ?_
       refine q_make hs hM0 Try.underlying73 el121 (zero_flat _ (by kernel_rfl)) rfl rfl hF rfl rfl hx2 fun a3 c3 w5 S4 fr hs hp hF => ?_
       have r1 := r1.stp hM0 hp
       have hM0 := hM0.stp hp
       have hs : Sep [sl121 (L a3 x2 c3) x2, sl121 (L a2 x1 c2) x1, BX b2 75 [I 0, L none ([] : List D.Term) 0, L none ([] : List D.Term) 0, L none ([] : List Int) 0, I 0, L none ([] : List D.Term) 0, I 0, I 0, L none ([] : List D.Term) 0, L none ([] : List Int) 0], BX b1 30 [I p0.W, I p0.Mem, I p0.In, L a1 p0.Code c1]] w5 S4 := hs
       refine from_end rfl (then_normal ?_)
       refine any_node (fuel := 2) [4, 5] (by kernel_rfl) (by simp) ⟨?_, ?_, trivial⟩
       · refine op_of _ rfl rfl ?_
         refine from_pure 1 [(1, B b1 0), (2, B b2 0), (10, .agg #[I 0, L a2 x1 c2, L a3 x2 c3, L none ([] : List Int) 0, I 0, L none ([] : List D.Term) 0, I 0, I 0, L none ([] : List D.Term) 0, L none ([] : List Int) 0])] hF (by kernel_rfl) fun fr hF => ?_
         refine from_end rfl (then_normal ?_)
         refine any_node (fuel := 1) [5] (by kernel_rfl) (by simp) ⟨?_, trivial⟩
         · refine op_of _ rfl rfl ?_
           refine q_alloc (z := .agg #[I 0, L none ([] : List D.Term) 0, L none ([] : List D.Term) 0, L none ([] : List Int) 0, I 0, L none ([] : List D.Term) 0, I 0, I 0, L none ([] : List D.Term) 0, L none ([] : List Int) 0]) hs hM0 [I 0, L none ([] : List D.Term) 0, L none ([] : List D.Term) 0, L none ([] : List Int) 0, I 0, L none ([] : List D.Term) 0, I 0, I 0, L none ([] : List D.Term) 0, L none ([] : List Int) 0] rfl rfl hF (by kernel_rfl) rfl fun b3 w6 S5 fr hs hp hF => ?_
           have r1 := r1.stp hM0 hp
           have hM0 := hM0.stp hp
           have hs : Sep [BX b3 75 [I 0, L none ([] : List D.Term) 0, L none ([] : List D.Term) 0, L none ([] : List Int) 0, I 0, L none ([] : List D.Term) 0, I 0, I 0, L none ([] : List D.Term) 0, L none ([] : List Int) 0], sl121 (L a3 x2 c3) x2, sl121 (L a2 x1 c2) x1, BX b2 75 [I 0, L none ([] : List D.Term) 0, L none ([] : List D.Term) 0, L none ([] : List Int) 0, I 0, L none ([] : List D.Term) 0, I 0, I 0, L none ([] : List D.Term) 0, L none ([] : List Int) 0], BX b1 30 [I p0.W, I p0.Mem, I p0.In, L a1 p0.Code c1]] w6 S5 := hs
           refine from_end rfl (then_normal ?_)
           refine any_node (fuel := 0) [6] (by kernel_rfl) (by simp) ⟨?_, trivial⟩
           · refine op_of _ rfl rfl ?_
             refine q_storeBoxS 0 hs hM0 rfl [I 0, L a2 x1 c2, L a3 x2 c3, L none ([] : List Int) 0, I 0, L none ([] : List D.Term) 0, I 0, I 0, L none ([] : List D.Term) 0, L none ([] : List Int) 0] rfl hF rfl rfl (by kernel_rfl) rfl rfl rfl fun w7 S6 hs hp hF => ?_
             have r1 := r1.stp hM0 hp
             have hM0 := hM0.stp hp
             have hs : Sep [BX b3 75 [I 0, L a2 x1 c2, L a3 x2 c3, L none ([] : List Int) 0, I 0, L none ([] : List D.Term) 0, I 0, I 0, L none ([] : List D.Term) 0, L none ([] : List Int) 0], sl121 (L a3 x2 c3) x2, sl121 (L a2 x1 c2) x1, BX b2 75 [I 0, L none ([] : List D.Term) 0, L none ([] : List D.Term) 0, L none ([] : List Int) 0, I 0, L none ([] : List D.Term) 0, I 0, I 0, L none ([] : List D.Term) 0, L none ([] : List Int) 0], BX b1 30 [I p0.W, I p0.Mem, I p0.In, L a1 p0.Code c1]] w7 S6 := hs
             refine from_end rfl (then_normal ?_)
             refine any_leaf (by kernel_rfl) (then_normal ?_)
             refine wp_seq ?_
             refine wp_seq (wp_text' ?_)
             refine from_pure 1 [(1, B b1 0), (2, B b2 0), (3, B b3 0), (11, B b3 1)] hF (by kernel_rfl) fun fr hF => ?_
             refine s_loadBox (L a2 x1 c2) ty73 rfl rfl hF rfl (hs.bx 0 rfl) rfl rfl fun fr hF => ?_
             refine from_pure 2 [(1, B b1 0), (2, B b2 0), (3, B b3 0), (13, I (len x1)), (14, I 0)] hF (by kernel_rfl) fun fr hF => ?_
             refine from_end rfl (then_normal ?_)
             obtain ⟨rl1, hit1, h⟩ := bindE h
             have hk1 := h
             refine (GL.wp_cut (M := fun fr w' => ∃ S8 F2, FrS 40 [(1, B b1 0), (2, B b2 0), (3, B b3 0)] fr ∧ Mem w7 S6 (fun k => (G0 k) ∧ k < w.heap.size) w' S8 F2 ∧ Sep [BX b3 75 [I 0, L a2 x1 c2, L a3 x2 c3, L none ([] : List Int) 0, I 0, L none ([] : List D.Term) 0, I 0, I 0, L none ([] : List D.Term) 0, L none ([] : List Int) 0], sl121 (L a3 x2 c3) x2, sl121 (L a2 x1 c2) rl1, BX b2 75 [I 0, L none ([] : List D.Term) 0, L none ([] : List D.Term) 0, L none ([] : List Int) 0, I 0, L none ([] : List D.Term) 0, I 0, I 0, L none ([] : List D.Term) 0, L none ([] : List Int) 0], BX b1 30 [I p0.W, I p0.Mem, I p0.In, L a1 p0.Code c1]] w' S8) (wp_block (wp_iter (Inv := fun s1 fr w' => ∃ S7 F1, FrS 40 [(1, B b1 0), (2, B b2 0), (3, B b3 0), (13, I (len x1)), (14, I s1.1)] fr ∧ Mem w7 S6 (fun k => (G0 k) ∧ k < w.heap.size) w' S7 F1 ∧ Sep [BX b3 75 [I 0, L a2 x1 c2, L a3 x2 c3, L none ([] : List Int) 0, I 0, L none ([] : List D.Term) 0, I 0, I 0, L none ([] : List D.Term) 0, L none ([] : List Int) 0], sl121 (L a3 x2 c3) x2, sl121 (L a2 x1 c2) s1.2, BX b2 75 [I 0, L none ([] : List D.Term) 0, L none ([] : List D.Term) 0, L none ([] : List Int) 0, I 0, L none ([] : List D.Term) 0, I 0, I 0, L none ([] : List D.Term) 0, L none ([] : List Int) 0], BX b1 30 [I p0.W, I p0.Mem, I p0.In, L a1 p0.Code c1]] w' S7) hit1 ⟨S6, _, hF.sub _ (by kernel_rfl), (Mem.start hM0.bd hM0.bdF hM0.dj), hs⟩ fun s1 q1 fr w1i hI h hr1 => ?_)) fun fr w1o hM => ?_)
             · obtain ⟨S7, F1, hF, hM1, hs⟩ := hI
               have r1 := r1.mem hM1
               refine wp_seq (wp_pure [(1, B b1 0), (2, B b2 0), (3, B b3 0), (13, I (len x1)), (14, I s1.1), (15, .bool (decide (s1.1 < (len x1))))] hF (by kernel_rfl) fun fr hF => then_normal ?_)
               refine wp_seq (wp_if hF (b := (decide (s1.1 < (len x1)))) rfl (fun hb => ?_) (fun hb => ?_))
               · replace h := iteT hb h
                 refine (wp_skip (then_normal ?_))
                 refine wp_seq (wp_block ?_)
                 refine wp_seq (wp_pure [(1, B b1 0), (2, B b2 0), (3, B b3 0), (4, I s1.1), (13, I (len x1)), (14, I s1.1)] hF (by kernel_rfl) fun fr hF => then_normal ?_)
                 obtain ⟨x3, hx3, h⟩ := bindE h
                 refine (region_bm 6 [0, 1, 0, 0, 8, 24, 63, 127] [true, false, true, true, false, false]
                     [.eq (B b3 1), .eq (L a2 x1 c2), .eq (I s1.1), .eq (B b1 0), .eq (I p0.W), .eq (.agg #[I x3.Op, I x3.W, I x3.N, Str.val x3.Name, L none ([] : List D.Term) 0]), .any, .any]
                     [(1, B b1 0), (2, B b2 0), (3, B b3 0), (13, I (len x1)), (14, I s1.1), (18, L a2 x1 c2), (19, I s1.1), (22, .agg #[I x3.Op, I x3.W, I x3.N, Str.val x3.Name, L none ([] : List D.Term) 0])] mix hF (by kernel_rfl) (by kernel_rfl) (by kernel_rfl) (by kernel_rfl) ⟨Pd.monoO_eq, Pd.monoO_eq, Pd.monoO_eq, trivial⟩ (fun ow hG => ⟨np_to ow (np_loadBox hG hF ty73 rfl rfl (hs.bx 0 rfl) rfl rfl rfl), np_to ow (np_loadBox hG hF ty3 rfl rfl (hs.bx 4 rfl) rfl rfl rfl), np_to ow (np_call [I p0.W, I 0] hG hF Try.call129 rfl rfl (fun w hC hg => (impl_ConstTerm_ok p0.W 0 hx3).mono fun e w' ⟨v, he, hv, hc⟩ => ⟨v, he, hc, hv⟩)), trivial⟩) (by kernel_rfl) fun ow fr w8 hF hE hc => ?_)
                 have r1 := r1.ext hc
                 have hs := hs.ext hc
                 have hM1 := hM1.ext hc
                 obtain ⟨x4, hx4, h⟩ := bindE h
                 refine q_set (q := x3) 2 hs hM1 rfl Try.underlying73 ty121 rfl rfl rfl rfl hF rfl rfl (by simp) rfl rfl hx4 fun w9 S9 fr _ hs hp hF => ?_
                 have r1 := r1.stp hM1 hp
                 have hM1 := hM1.stp hp
                 have hs : Sep [BX b3 75 [I 0, L a2 x1 c2, L a3 x2 c3, L none ([] : List Int) 0, I 0, L none ([] : List D.Term) 0, I 0, I 0, L none ([] : List D.Term) 0, L none ([] : List Int) 0], sl121 (L a3 x2 c3) x2, sl121 (L a2 x1 c2) x4, BX b2 75 [I 0, L none ([] : List D.Term) 0, L none ([] : List D.Term) 0, L none ([] : List Int) 0, I 0, L none ([] : List D.Term) 0, I 0, I 0, L none ([] : List D.Term) 0, L none ([] : List Int) 0], BX b1 30 [I p0.W, I p0.Mem, I p0.In, L a1 p0.Code c1]] w9 S9 := hs
                 refine from_end rfl ?_
                 refine blk_normal (then_normal ?_)
                 refine (wp_pure [(1, B b1 0), (2, B b2 0), (3, B b3 0), (13, I (len x1)), (14, I (w64 (s1.1 + 1)))] hF (by kernel_rfl) fun fr hF => then_normal ?_)
                 exact ⟨_, (Option.some.inj h).symm, S9, _, hF.sub _ (by kernel_rfl), hM1, hs⟩
               replace h := iteF hb h
               refine (wp_exit (then_exit (then_exit (blk_exit_eq ?_))))
               obtain rfl := hr1 _ (Option.some.inj h).symm
               exact then_normal ⟨S7, _, hF.sub _ (by kernel_rfl), hM1, hs⟩
             · obtain ⟨S8, F2, hF, hMx, hs⟩ := hM
               have r1 := r1.mem hMx
               have hM0 := hM0.trans hMx
               refine wp_seq ?_
               refine wp_seq (wp_text' ?_)
               refine from_pure 1 [(1, B b1 0), (2, B b2 0), (3, B b3 0), (25, B b3 2)] hF (by kernel_rfl) fun fr hF => ?_
               refine s_loadBox (L a3 x2 c3) ty73 rfl rfl hF rfl (hs.bx 0 rfl) rfl rfl fun fr hF => ?_
               refine from_pure 2 [(1, B b1 0), (2, B b2 0), (3, B b3 0), (27, I (len x2)), (28, I 0)] hF (by kernel_rfl) fun fr hF => ?_
               refine from_end rfl (then_normal ?_)
               obtain ⟨rl2, hit2, h⟩ := bindE h
               have hk2 := h
               refine (GL.wp_cut (M := fun fr w' => ∃ S11 F4, FrS 40 [(2, B b2 0), (3, B b3 0)] fr ∧ Mem w1o S8 F2 w' S11 F4 ∧ Sep [BX b3 75 [I 0, L a2 x1 c2, L a3 x2 c3, L none ([] : List Int) 0, I 0, L none ([] : List D.Term) 0, I 0, I 0, L none ([] : List D.Term) 0, L none ([] : List Int) 0], sl121 (L a3 x2 c3) rl2, sl121 (L a2 x1 c2) rl1, BX b2 75 [I 0, L none ([] : List D.Term) 0, L none ([] : List D.Term) 0, L none ([] : List Int) 0, I 0, L none ([] : List D.Term) 0, I 0, I 0, L none ([] : List D.Term) 0, L none ([] : List Int) 0]] w' S11) (wp_block (wp_iter (Inv := fun s2 fr w' => ∃ S10 F3, FrS 40 [(1, B b1 0), (2, B b2 0), (3, B b3 0), (27, I (len x2)), (28, I s2.1)] fr ∧ Mem w1o S8 F2 w' S10 F3 ∧ Sep [BX b3 75 [I 0, L a2 x1 c2, L a3 x2 c3, L none ([] : List Int) 0, I 0, L none ([] : List D.Term) 0, I 0, I 0, L none ([] : List D.Term) 0, L none ([] : List Int) 0], sl121 (L a3 x2 c3) s2.2, sl121 (L a2 x1 c2) rl1, BX b2 75 [I 0, L none ([] : List D.Term) 0, L none ([] : List D.Term) 0, L none ([] : List Int) 0, I 0, L none ([] : List D.Term) 0, I 0, I 0, L none ([] : List D.Term) 0, L none ([] : List Int) 0], BX b1 30 [I p0.W, I p0.Mem, I p0.In, L a1 p0.Code c1]] w' S10) hit2 ⟨S8, _, hF.sub _ (by kernel_rfl), (Mem.start hM0.bd hM0.bdF hM0.dj), hs⟩ fun s2 q2 fr w2i hI h hr2 => ?_)) fun fr w2o hM => ?_)
               · obtain ⟨S10, F3, hF, hM1, hs⟩ := hI
                 have r1 := r1.mem hM1
                 refine wp_seq (wp_pure [(1, B b1 0), (2, B b2 0), (3, B b3 0), (27, I (len x2)), (28, I s2.1), (29, .bool (decide (s2.1 < (len x2))))] hF (by kernel_rfl) fun fr hF => then_normal ?_)
                 refine wp_seq (wp_if hF (b := (decide (s2.1 < (len x2)))) rfl (fun hb => ?_) (fun hb => ?_))
                 · replace h := iteT hb h
                   refine (wp_skip (then_normal ?_))
                   refine wp_seq (wp_block ?_)
                   refine wp_seq (wp_pure [(1, B b1 0), (2, B b2 0), (3, B b3 0), (5, I s2.1), (27, I (len x2)), (28, I s2.1)] hF (by kernel_rfl) fun fr hF => then_normal ?_)
                   obtain ⟨x5, hx5, h⟩ := bindE h
                   refine (region_bm 6 [0, 1, 0, 0, 8, 24, 63, 127] [true, false, true, true, false, false]
                       [.eq (B b3 2), .eq (L a3 x2 c3), .eq (I s2.1), .eq (B b1 0), .eq (I p0.W), .eq (.agg #[I x5.Op, I x5.W, I x5.N, Str.val x5.Name, L none ([] : List D.Term) 0]), .any, .any]
                       [(1, B b1 0), (2, B b2 0), (3, B b3 0), (27, I (len x2)), (28, I s2.1), (32, L a3 x2 c3), (33, I s2.1), (36, .agg #[I x5.Op, I x5.W, I x5.N, Str.val x5.Name, L none ([] : List D.Term) 0])] mix hF (by kernel_rfl) (by kernel_rfl) (by kernel_rfl) (by kernel_rfl) ⟨Pd.monoO_eq, Pd.monoO_eq, Pd.monoO_eq, trivial⟩ (fun ow hG => ⟨np_to ow (np_loadBox hG hF ty73 rfl rfl (hs.bx 0 rfl) rfl rfl rfl), np_to ow (np_loadBox hG hF ty3 rfl rfl (hs.bx 4 rfl) rfl rfl rfl), np_to ow (np_call [I p0.W, I 0] hG hF Try.call129 rfl rfl (fun w hC hg => (impl_ConstTerm_ok p0.W 0 hx5).mono fun e w' ⟨v, he, hv, hc⟩ => ⟨v, he, hc, hv⟩)), trivial⟩) (by kernel_rfl) fun ow fr w10 hF hE hc => ?_)
                   have r1 := r1.ext hc
                   have hs := hs.ext hc
                   have hM1 := hM1.ext hc
                   obtain ⟨x6, hx6, h⟩ := bindE h
                   refine q_set (q := x5) 1 hs hM1 rfl Try.underlying73 ty121 rfl rfl rfl rfl hF rfl rfl (by simp) rfl rfl hx6 fun w11 S12 fr _ hs hp hF => ?_
                   have r1 := r1.stp hM1 hp
                   have hM1 := hM1.stp hp
                   have hs : Sep [BX b3 75 [I 0, L a2 x1 c2, L a3 x2 c3, L none ([] : List Int) 0, I 0, L none ([] : List D.Term) 0, I 0, I 0, L none ([] : List D.Term) 0, L none ([] : List Int) 0], sl121 (L a3 x2 c3) x6, sl121 (L a2 x1 c2) rl1, BX b2 75 [I 0, L none ([] : List D.Term) 0, L none ([] : List D.Term) 0, L none ([] : List Int) 0, I 0, L none ([] : List D.Term) 0, I 0, I 0, L none ([] : List D.Term) 0, L none ([] : List Int) 0], BX b1 30 [I p0.W, I p0.Mem, I p0.In, L a1 p0.Code c1]] w11 S12 := hs
                   refine from_end rfl ?_
                   refine blk_normal (then_normal ?_)
                   refine (wp_pure [(1, B b1 0), (2, B b2 0), (3, B b3 0), (27, I (len x2)), (28, I (w64 (s2.1 + 1)))] hF (by kernel_rfl) fun fr hF => then_normal ?_)
                   exact ⟨_, (Option.some.inj h).symm, S12, _, hF.sub _ (by kernel_rfl), hM1, hs⟩
                 replace h := iteF hb h
                 have hs : Sep [BX b3 75 [I 0, L a2 x1 c2, L a3 x2 c3, L none ([] : List Int) 0, I 0, L none ([] : List D.Term) 0, I 0, I 0, L none ([] : List D.Term) 0, L none ([] : List Int) 0], sl121 (L a3 x2 c3) s2.2, sl121 (L a2 x1 c2) rl1, BX b2 75 [I 0, L none ([] : List D.Term) 0, L none ([] : List D.Term) 0, L none ([] : List Int) 0, I 0, L none ([] : List D.Term) 0, I 0, I 0, L none ([] : List D.Term) 0, L none ([] : List Int) 0]] w2i S10 := Sep.pick [0, 1, 2, 3] hs (by decide) rfl
                 refine (wp_exit (then_exit (then_exit (blk_exit_eq ?_))))
                 obtain rfl := hr2 _ (Option.some.inj h).symm
                 exact then_normal ⟨S10, _, hF.sub _ (by kernel_rfl), hM1, hs⟩
               · obtain ⟨S11, F4, hF, hMx, hs⟩ := hM
                 have hM0 := hM0.trans hMx
                 refine wp_seq (wp_text' ?_)
                 refine s_loadBoxS ty75 rfl rfl hF rfl (hs.bx 0 rfl) rfl rfl fun fr hF => ?_
                 have hs : Sep [sl121 (L a3 x2 c3) rl2, sl121 (L a2 x1 c2) rl1, BX b2 75 [I 0, L none ([] : List D.Term) 0, L none ([] : List D.Term) 0, L none ([] : List Int) 0, I 0, L none ([] : List D.Term) 0, I 0, I 0, L none ([] : List D.Term) 0, L none ([] : List Int) 0]] w2o S11 := Sep.pick [1, 2, 3] hs (by decide) rfl
                 refine q_storeBoxS 2 hs hM0 rfl [I 0, L a2 x1 c2, L a3 x2 c3, L none ([] : List Int) 0, I 0, L none ([] : List D.Term) 0, I 0, I 0, L none ([] : List D.Term) 0, L none ([] : List Int) 0] rfl hF rfl rfl (by kernel_rfl) rfl rfl rfl fun w12 S13 hs hp hF => ?_
                 have hM0 := hM0.stp hp
                 have hs : Sep [sl121 (L a3 x2 c3) rl2, sl121 (L a2 x1 c2) rl1, BX b2 75 [I 0, L a2 x1 c2, L a3 x2 c3, L none ([] : List Int) 0, I 0, L none ([] : List D.Term) 0, I 0, I 0, L none ([] : List D.Term) 0, L none ([] : List Int) 0]] w12 S13 := hs
                 refine from_end rfl (then_normal ?_)
                 have hbr := (hs.bx 2 rfl)
                 have hs : Sep [sl3 (L none ([] : List Int) 0) ([] : List Int), sl121 (L a3 x2 c3) rl2, sl121 (L a2 x1 c2) rl1, BX b2 75 [I 0, L a2 x1 c2, L a3 x2 c3, L none ([] : List Int) 0, I 0, L none ([] : List D.Term) 0, I 0, I 0, L none ([] : List D.Term) 0, L none ([] : List Int) 0]] w12 S13 := hs.cons_nil (α := Int) 3
                 have hs : Sep [sl121 (L none ([] : List D.Term) 0) ([] : List D.Term), sl3 (L none ([] : List Int) 0) ([] : List Int), sl121 (L a3 x2 c3) rl2, sl121 (L a2 x1 c2) rl1, BX b2 75 [I 0, L a2 x1 c2, L a3 x2 c3, L none ([] : List Int) 0, I 0, L none ([] : List D.Term) 0, I 0, I 0, L none ([] : List D.Term) 0, L none ([] : List Int) 0]] w12 S13 := hs.cons_nil (α := D.Term) 121
                 have hs : Sep [sl121 (L none ([] : List D.Term) 0) ([] : List D.Term), sl121 (L none ([] : List D.Term) 0) ([] : List D.Term), sl3 (L none ([] : List Int) 0) ([] : List Int), sl121 (L a3 x2 c3) rl2, sl121 (L a2 x1 c2) rl1, BX b2 75 [I 0, L a2 x1 c2, L a3 x2 c3, L none ([] : List Int) 0, I 0, L none ([] : List D.Term) 0, I 0, I 0, L none ([] : List D.Term) 0, L none ([] : List Int) 0]] w12 S13 := hs.cons_nil (α := D.Term) 121
                 have hs : Sep [sl3 (L none ([] : List Int) 0) ([] : List Int), sl121 (L none ([] : List D.Term) 0) ([] : List D.Term), sl121 (L none ([] : List D.Term) 0) ([] : List D.Term), sl3 (L none ([] : List Int) 0) ([] : List Int), sl121 (L a3 x2 c3) rl2, sl121 (L a2 x1 c2) rl1, BX b2 75 [I 0, L a2 x1 c2, L a3 x2 c3, L none ([] : List Int) 0, I 0, L none ([] : List D.Term) 0, I 0, I 0, L none ([] : List D.Term) 0, L none ([] : List Int) 0]] w12 S13 := hs.cons_nil (α := Int) 3
                 obtain rfl := Option.some.inj h
                 have hs : Sep [sl121 (L a2 x1 c2) rl1, sl121 (L a3 x2 c3) rl2, sl3 (L none ([] : List Int) 0) ([] : List Int), sl121 (L none ([] : List D.Term) 0) ([] : List D.Term), sl121 (L none ([] : List D.Term) 0) ([] : List D.Term), sl3 (L none ([] : List Int) 0) ([] : List Int)] w12 S13 := Sep.pick [5, 4, 3, 2, 1, 0] hs (by decide) rfl
                 obtain ⟨he1, hs⟩ := hs.relen 0 rfl
                 have hs : Sep [sl121 (L a2 rl1 c2) rl1, sl121 (L a3 x2 c3) rl2, sl3 (L none ([] : List Int) 0) ([] : List Int), sl121 (L none ([] : List D.Term) 0) ([] : List D.Term), sl121 (L none ([] : List D.Term) 0) ([] : List D.Term), sl3 (L none ([] : List Int) 0) ([] : List Int)] w12 S13 := hs
                 obtain ⟨he2, hs⟩ := hs.relen 1 rfl
                 have hs : Sep [sl121 (L a2 rl1 c2) rl1, sl121 (L a3 rl2 c3) rl2, sl3 (L none ([] : List Int) 0) ([] : List Int), sl121 (L none ([] : List D.Term) 0) ([] : List D.Term), sl121 (L none ([] : List D.Term) 0) ([] : List D.Term), sl3 (L none ([] : List Int) 0) ([] : List Int)] w12 S13 := hs
                 exact wp_ret (retS rfl hF ty75 rfl rfl hbr rfl ⟨_, rfl, a2, c2, a3, c3, none, 0, none, 0, none, 0, none, 0, (by simp only [L, he1, he2]), S13, hM0.out, hs⟩)
       · refine op_of _ rfl rfl ?_
         refine q_alloc (z := .agg #[I 0, L none ([] : List D.Term) 0, L none ([] : List D.Term) 0, L none ([] : List Int) 0, I 0, L none ([] : List D.Term) 0, I 0, I 0, L none ([] : List D.Term) 0, L none ([] : List Int) 0]) hs hM0 [I 0, L none ([] : List D.Term) 0, L none ([] : List D.Term) 0, L none ([] : List Int) 0, I 0, L none ([] : List D.Term) 0, I 0, I 0, L none ([] : List D.Term) 0, L none ([] : List Int) 0] rfl rfl hF (by kernel_rfl) rfl fun b4 w13 S14 fr hs hp hF => ?_
         have r1 := r1.stp hM0 hp
         have hM0 := hM0.stp hp
         have hs : Sep [BX b4 75 [I 0, L none ([] : List D.Term) 0, L none ([] : List D.Term) 0, L none ([] : List Int) 0, I 0, L none ([] : List D.Term) 0, I 0, I 0, L none ([] : List D.Term) 0, L none ([] : List Int) 0], sl121 (L a3 x2 c3) x2, sl121 (L a2 x1 c2) x1, BX b2 75 [I 0, L none ([] : List D.Term) 0, L none ([] : List D.Term) 0, L none ([] : List Int) 0, I 0, L none ([] : List D.Term) 0, I 0, I 0, L none ([] : List D.Term) 0, L none ([] : List Int) 0], BX b1 30 [I p0.W, I p0.Mem, I p0.In, L a1 p0.Code c1]] w13 S14 := hs
         refine from_end rfl (then_normal ?_)
         refine any_node (fuel := 1) [4] (by kernel_rfl) (by simp) ⟨?_, trivial⟩
         · refine op_of _ rfl rfl ?_
           refine from_pure 1 [(1, B b1 0), (2, B b2 0), (3, B b4 0), (10, .agg #[I 0, L a2 x1 c2, L a3 x2 c3, L none ([] : List Int) 0, I 0, L none ([] : List D.Term) 0, I 0, I 0, L none ([] : List D.Term) 0, L none ([] : List Int) 0])] hF (by kernel_rfl) fun fr hF => ?_
           refine from_end rfl (then_normal ?_)
           refine any_node (fuel := 0) [6] (by kernel_rfl) (by simp) ⟨?_, trivial⟩
           · refine op_of _ rfl rfl ?_
             refine q_storeBoxS 0 hs hM0 rfl [I 0, L a2 x1 c2, L a3 x2 c3, L none ([] : List Int) 0, I 0, L none ([] : List D.Term) 0, I 0, I 0, L none ([] : List D.Term) 0, L none ([] : List Int) 0] rfl hF rfl rfl (by kernel_rfl) rfl rfl rfl fun w14 S15 hs hp hF => ?_
             have r1 := r1.stp hM0 hp
             have hM0 := hM0.stp hp
             have hs : Sep [BX b4 75 [I 0, L a2 x1 c2, L a3 x2 c3, L none ([] : List Int) 0, I 0, L none ([] : List D.Term) 0, I 0, I 0, L none ([] : List D.Term) 0, L none ([] : List Int) 0], sl121 (L a3 x2 c3) x2, sl121 (L a2 x1 c2) x1, BX b2 75 [I 0, L none ([] : List D.Term) 0, L none ([] : List D.Term) 0, L none ([] : List Int) 0, I 0, L none ([] : List D.Term) 0, I 0, I 0, L none ([] : List D.Term) 0, L none ([] : List Int) 0], BX b1 30 [I p0.W, I p0.Mem, I p0.In, L a1 p0.Code c1]] w14 S15 := hs
             refine from_end rfl (then_normal ?_)
             refine any_leaf (by kernel_rfl) (then_normal ?_)
             refine wp_seq ?_
             refine wp_seq (wp_text' ?_)
             refine from_pure 1 [(1, B b1 0), (2, B b2 0), (3, B b4 0), (11, B b4 1)] hF (by kernel_rfl) fun fr hF => ?_
             refine s_loadBox (L a2 x1 c2) ty73 rfl rfl hF rfl (hs.bx 0 rfl) rfl rfl fun fr hF => ?_
             refine from_pure 2 [(1, B b1 0), (2, B b2 0), (3, B b4 0), (13, I (len x1)), (14, I 0)] hF (by kernel_rfl) fun fr hF => ?_
             refine from_end rfl (then_normal ?_)
             obtain ⟨rl3, hit3, h⟩ := bindE h
             have hk3 := h
             refine (GL.wp_cut (M := fun fr w' => ∃ S17 F6, FrS 40 [(1, B b1 0), (2, B b2 0), (3, B b4 0)] fr ∧ Mem w14 S15 (fun k => (G0 k) ∧ k < w.heap.size) w' S17 F6 ∧ Sep [BX b4 75 [I 0, L a2 x1 c2, L a3 x2 c3, L none ([] : List Int) 0, I 0, L none ([] : List D.Term) 0, I 0, I 0, L none ([] : List D.Term) 0, L none ([] : List Int) 0], sl121 (L a3 x2 c3) x2, sl121 (L a2 x1 c2) rl3, BX b2 75 [I 0, L none ([] : List D.Term) 0, L none ([] : List D.Term) 0, L none ([] : List Int) 0, I 0, L none ([] : List D.Term) 0, I 0, I 0, L none ([] : List D.Term) 0, L none ([] : List Int) 0], BX b1 30 [I p0.W, I p0.Mem, I p0.In, L a1 p0.Code c1]] w' S17) (wp_block (wp_iter (Inv := fun s3 fr w' => ∃ S16 F5, FrS 40 [(1, B b1 0), (2, B b2 0), (3, B b4 0), (13, I (len x1)), (14, I s3.1)] fr ∧ Mem w14 S15 (fun k => (G0 k) ∧ k < w.heap.size) w' S16 F5 ∧ Sep [BX b4 75 [I 0, L a2 x1 c2, L a3 x2 c3, L none ([] : List Int) 0, I 0, L none ([] : List D.Term) 0, I 0, I 0, L none ([] : List D.Term) 0, L none ([] : List Int) 0], sl121 (L a3 x2 c3) x2, sl121 (L a2 x1 c2) s3.2, BX b2 75 [I 0, L none ([] : List D.Term) 0, L none ([] : List D.Term) 0, L none ([] : List Int) 0, I 0, L none ([] : List D.Term) 0, I 0, I 0, L none ([] : List D.Term) 0, L none ([] : List Int) 0], BX b1 30 [I p0.W, I p0.Mem, I p0.In, L a1 p0.Code c1]] w' S16) hit3 ⟨S15, _, hF.sub _ (by kernel_rfl), (Mem.start hM0.bd hM0.bdF hM0.dj), hs⟩ fun s3 q3 fr w3i hI h hr3 => ?_)) fun fr w3o hM => ?_)
             · obtain ⟨S16, F5, hF, hM1, hs⟩ := hI
               have r1 := r1.mem hM1
               refine wp_seq (wp_pure [(1, B b1 0), (2, B b2 0), (3, B b4 0), (13, I (len x1)), (14, I s3.1), (15, .bool (decide (s3.1 < (len x1))))] hF (by kernel_rfl) fun fr hF => then_normal ?_)
               refine wp_seq (wp_if hF (b := (decide (s3.1 < (len x1)))) rfl (fun hb => ?_) (fun hb => ?_))
               · replace h := iteT hb h
                 refine (wp_skip (then_normal ?_))
                 refine wp_seq (wp_block ?_)
                 refine wp_seq (wp_pure [(1, B b1 0), (2, B b2 0), (3, B b4 0), (4, I s3.1), (13, I (len x1)), (14, I s3.1)] hF (by kernel_rfl) fun fr hF => then_normal ?_)
                 obtain ⟨x7, hx7, h⟩ := bindE h
                 refine (region_bm 6 [0, 1, 0, 0, 8, 24, 63, 127] [true, false, true, true, false, false]
                     [.eq (B b4 1), .eq (L a2 x1 c2), .eq (I s3.1), .eq (B b1 0), .eq (I p0.W), .eq (.agg #[I x7.Op, I x7.W, I x7.N, Str.val x7.Name, L none ([] : List D.Term) 0]), .any, .any]
                     [(1, B b1 0), (2, B b2 0), (3, B b4 0), (13, I (len x1)), (14, I s3.1), (18, L a2 x1 c2), (19, I s3.1), (22, .agg #[I x7.Op, I x7.W, I x7.N, Str.val x7.Name, L none ([] : List D.Term) 0])] mix hF (by kernel_rfl) (by kernel_rfl) (by kernel_rfl) (by kernel_rfl) ⟨Pd.monoO_eq, Pd.monoO_eq, Pd.monoO_eq, trivial⟩ (fun ow hG => ⟨np_to ow (np_loadBox hG hF ty73 rfl rfl (hs.bx 0 rfl) rfl rfl rfl), np_to ow (np_loadBox hG hF ty3 rfl rfl (hs.bx 4 rfl) rfl rfl rfl), np_to ow (np_call [I p0.W, I 0] hG hF Try.call129 rfl rfl (fun w hC hg => (impl_ConstTerm_ok p0.W 0 hx7).mono fun e w' ⟨v, he, hv, hc⟩ => ⟨v, he, hc, hv⟩)), trivial⟩) (by kernel_rfl) fun ow fr w15 hF hE hc => ?_)
                 have r1 := r1.ext hc
                 have hs := hs.ext hc
                 have hM1 := hM1.ext hc
                 obtain ⟨x8, hx8, h⟩ := bindE h
                 refine q_set (q := x7) 2 hs hM1 rfl Try.underlying73 ty121 rfl rfl rfl rfl hF rfl rfl (by simp) rfl rfl hx8 fun w16 S18 fr _ hs hp hF => ?_
                 have r1 := r1.stp hM1 hp
                 have hM1 := hM1.stp hp
                 have hs : Sep [BX b4 75 [I 0, L a2 x1 c2, L a3 x2 c3, L none ([] : List Int) 0, I 0, L none ([] : List D.Term) 0, I 0, I 0, L none ([] : List D.Term) 0, L none ([] : List Int) 0], sl121 (L a3 x2 c3) x2, sl121 (L a2 x1 c2) x8, BX b2 75 [I 0, L none ([] : List D.Term) 0, L none ([] : List D.Term) 0, L none ([] : List Int) 0, I 0, L none ([] : List D.Term) 0, I 0, I 0, L none ([] : List D.Term) 0, L none ([] : List Int) 0], BX b1 30 [I p0.W, I p0.Mem, I p0.In, L a1 p0.Code c1]] w16 S18 := hs
                 refine from_end rfl ?_
                 refine blk_normal (then_normal ?_)
                 refine (wp_pure [(1, B b1 0), (2, B b2 0), (3, B b4 0), (13, I (len x1)), (14, I (w64 (s3.1 + 1)))] hF (by kernel_rfl) fun fr hF => then_normal ?_)
                 exact ⟨_, (Option.some.inj h).symm, S18, _, hF.sub _ (by kernel_rfl), hM1, hs⟩
               replace h := iteF hb h
               refine (wp_exit (then_exit (then_exit (blk_exit_eq ?_))))
               obtain rfl := hr3 _ (Option.some.inj h).symm
               exact then_normal ⟨S16, _, hF.sub _ (by kernel_rfl), hM1, hs⟩
             · obtain ⟨S17, F6, hF, hMx, hs⟩ := hM
               have r1 := r1.mem hMx
               have hM0 := hM0.trans hMx
               refine wp_seq ?_
               refine wp_seq (wp_text' ?_)
               refine from_pure 1 [(1, B b1 0), (2, B b2 0), (3, B b4 0), (25, B b4 2)] hF (by kernel_rfl) fun fr hF => ?_
               refine s_loadBox (L a3 x2 c3) ty73 rfl rfl hF rfl (hs.bx 0 rfl) rfl rfl fun fr hF => ?_
               refine from_pure 2 [(1, B b1 0), (2, B b2 0), (3, B b4 0), (27, I (len x2)), (28, I 0)] hF (by kernel_rfl) fun fr hF => ?_
               refine from_end rfl (then_normal ?_)
               obtain ⟨rl4, hit4, h⟩ := bindE h
               have hk4 := h
               refine (GL.wp_cut (M := fun fr w' => ∃ S20 F8, FrS 40 [(2, B b2 0), (3, B b4 0)] fr ∧ Mem w3o S17 F6 w' S20 F8 ∧ Sep [BX b4 75 [I 0, L a2 x1 c2, L a3 x2 c3, L none ([] : List Int) 0, I 0, L none ([] : List D.Term) 0, I 0, I 0, L none ([] : List D.Term) 0, L none ([] : List Int) 0], sl121 (L a3 x2 c3) rl4, sl121 (L a2 x1 c2) rl3, BX b2 75 [I 0, L none ([] : List D.Term) 0, L none ([] : List D.Term) 0, L none ([] : List Int) 0, I 0, L none ([] : List D.Term) 0, I 0, I 0, L none ([] : List D.Term) 0, L none ([] : List Int) 0]] w' S20) (wp_block (wp_iter (Inv := fun s4 fr w' => ∃ S19 F7, FrS 40 [(1, B b1 0), (2, B b2 0), (3, B b4 0), (27, I (len x2)), (28, I s4.1)] fr ∧ Mem w3o S17 F6 w' S19 F7 ∧ Sep [BX b4 75 [I 0, L a2 x1 c2, L a3 x2 c3, L none ([] : List Int) 0, I 0, L none ([] : List D.Term) 0, I 0, I 0, L none ([] : List D.Term) 0, L none ([] : List Int) 0], sl121 (L a3 x2 c3) s4.2, sl121 (L a2 x1 c2) rl3, BX b2 75 [I 0, L none ([] : List D.Term) 0, L none ([] : List D.Term) 0, L none ([] : List Int) 0, I 0, L none ([] : List D.Term) 0, I 0, I 0, L none ([] : List D.Term) 0, L none ([] : List Int) 0], BX b1 30 [I p0.W, I p0.Mem, I p0.In, L a1 p0.Code c1]] w' S19) hit4 ⟨S17, _, hF.sub _ (by kernel_rfl), (Mem.start hM0.bd hM0.bdF hM0.dj), hs⟩ fun s4 q4 fr w4i hI h hr4 => ?_)) fun fr w4o hM => ?_)
               · obtain ⟨S19, F7, hF, hM1, hs⟩ := hI
                 have r1 := r1.mem hM1
                 refine wp_seq (wp_pure [(1, B b1 0), (2, B b2 0), (3, B b4 0), (27, I (len x2)), (28, I s4.1), (29, .bool (decide (s4.1 < (len x2))))] hF (by kernel_rfl) fun fr hF => then_normal ?_)
                 refine wp_seq (wp_if hF (b := (decide (s4.1 < (len x2)))) rfl (fun hb => ?_) (fun hb => ?_))
                 · replace h := iteT hb h
                   refine (wp_skip (then_normal ?_))
                   refine wp_seq (wp_block ?_)
                   refine wp_seq (wp_pure [(1, B b1 0), (2, B b2 0), (3, B b4 0), (5, I s4.1), (27, I (len x2)), (28, I s4.1)] hF (by kernel_rfl) fun fr hF => then_normal ?_)
                   obtain ⟨x9, hx9, h⟩ := bindE h
                   refine (region_bm 6 [0, 1, 0, 0, 8, 24, 63, 127] [true, false, true, true, false, false]
                       [.eq (B b4 2), .eq (L a3 x2 c3), .eq (I s4.1), .eq (B b1 0), .eq (I p0.W), .eq (.agg #[I x9.Op, I x9.W, I x9.N, Str.val x9.Name, L none ([] : List D.Term) 0]), .any, .any]
                       [(1, B b1 0), (2, B b2 0), (3, B b4 0), (27, I (len x2)), (28, I s4.1), (32, L a3 x2 c3), (33, I s4.1), (36, .agg #[I x9.Op, I x9.W, I x9.N, Str.val x9.Name, L none ([] : List D.Term) 0])] mix hF (by kernel_rfl) (by kernel_rfl) (by kernel_rfl) (by kernel_rfl) ⟨Pd.monoO_eq, Pd.monoO_eq, Pd.monoO_eq, trivial⟩ (fun ow hG => ⟨np_to ow (np_loadBox hG hF ty73 rfl rfl (hs.bx 0 rfl) rfl rfl rfl), np_to ow (np_loadBox hG hF ty3 rfl rfl (hs.bx 4 rfl) rfl rfl rfl), np_to ow (np_call [I p0.W, I 0] hG hF Try.call129 rfl rfl (fun w hC hg => (impl_ConstTerm_ok p0.W 0 hx9).mono fun e w' ⟨v, he, hv, hc⟩ => ⟨v, he, hc, hv⟩)), trivial⟩) (by kernel_rfl) fun ow fr w17 hF hE hc => ?_)
                   have r1 := r1.ext hc
                   have hs := hs.ext hc
                   have hM1 := hM1.ext hc
                   obtain ⟨x10, hx10, h⟩ := bindE h
                   refine q_set (q := x9) 1 hs hM1 rfl Try.underlying73 ty121 rfl rfl rfl rfl hF rfl rfl (by simp) rfl rfl hx10 fun w18 S21 fr _ hs hp hF => ?_
                   have r1 := r1.stp hM1 hp
                   have hM1 := hM1.stp hp
                   have hs : Sep [BX b4 75 [I 0, L a2 x1 c2, L a3 x2 c3, L none ([] : List Int) 0, I 0, L none ([] : List D.Term) 0, I 0, I 0, L none ([] : List D.Term) 0, L none ([] : List Int) 0], sl121 (L a3 x2 c3) x10, sl121 (L a2 x1 c2) rl3, BX b2 75 [I 0, L none ([] : List D.Term) 0, L none ([] : List D.Term) 0, L none ([] : List Int) 0, I 0, L none ([] : List D.Term) 0, I 0, I 0, L none ([] : List D.Term) 0, L none ([] : List Int) 0], BX b1 30 [I p0.W, I p0.Mem, I p0.In, L a1 p0.Code c1]] w18 S21 := hs
                   refine from_end rfl ?_
                   refine blk_normal (then_normal ?_)
                   refine (wp_pure [(1, B b1 0), (2, B b2 0), (3, B b4 0), (27, I (len x2)), (28, I (w64 (s4.1 + 1)))] hF (by kernel_rfl) fun fr hF => then_normal ?_)
                   exact ⟨_, (Option.some.inj h).symm, S21, _, hF.sub _ (by kernel_rfl), hM1, hs⟩
                 replace h := iteF hb h
                 have hs : Sep [BX b4 75 [I 0, L a2 x1 c2, L a3 x2 c3, L none ([] : List Int) 0, I 0, L none ([] : List D.Term) 0, I 0, I 0, L none ([] : List D.Term) 0, L none ([] : List Int) 0], sl121 (L a3 x2 c3) s4.2, sl121 (L a2 x1 c2) rl3, BX b2 75 [I 0, L none ([] : List D.Term) 0, L none ([] : List D.Term) 0, L none ([] : List Int) 0, I 0, L none ([] : List D.Term) 0, I 0, I 0, L none ([] : List D.Term) 0, L none ([] : List Int) 0]] w4i S19 := Sep.pick [0, 1, 2, 3] hs (by decide) rfl
                 refine (wp_exit (then_exit (then_exit (blk_exit_eq ?_))))
                 obtain rfl := hr4 _ (Option.some.inj h).symm
                 exact then_normal ⟨S19, _, hF.sub _ (by kernel_rfl), hM1, hs⟩
               · obtain ⟨S20, F8, hF, hMx, hs⟩ := hM
                 have hM0 := hM0.trans hMx
                 refine wp_seq (wp_text' ?_)
                 refine s_loadBoxS ty75 rfl rfl hF rfl (hs.bx 0 rfl) rfl rfl fun fr hF => ?_
                 have hs : Sep [sl121 (L a3 x2 c3) rl4, sl121 (L a2 x1 c2) rl3, BX b2 75 [I 0, L none ([] : List D.Term) 0, L none ([] : List D.Term) 0, L none ([] : List Int) 0, I 0, L none ([] : List D.Term) 0, I 0, I 0, L none ([] : List D.Term) 0, L none ([] : List Int) 0]] w4o S20 := Sep.pick [1, 2, 3] hs (by decide) rfl
                 refine q_storeBoxS 2 hs hM0 rfl [I 0, L a2 x1 c2, L a3 x2 c3, L none ([] : List Int) 0, I 0, L none ([] : List D.Term) 0, I 0, I 0, L none ([] : List D.Term) 0, L none ([] : List Int) 0] rfl hF rfl rfl (by kernel_rfl) rfl rfl rfl fun w19 S22 hs hp hF => ?_
                 have hM0 := hM0.stp hp
                 have hs : Sep [sl121 (L a3 x2 c3) rl4, sl121 (L a2 x1 c2) rl3, BX b2 75 [I 0, L a2 x1 c2, L a3 x2 c3, L none ([] : List Int) 0, I 0, L none ([] : List D.Term) 0, I 0, I 0, L none ([] : List D.Term) 0, L none ([] : List Int) 0]] w19 S22 := hs
                 refine from_end rfl (then_normal ?_)
                 have hbr := (hs.bx 2 rfl)
                 have hs : Sep [sl3 (L none ([] : List Int) 0) ([] : List Int), sl121 (L a3 x2 c3) rl4, sl121 (L a2 x1 c2) rl3, BX b2 75 [I 0, L a2 x1 c2, L a3 x2 c3, L none ([] : List Int) 0, I 0, L none ([] : List D.Term) 0, I 0, I 0, L none ([] : List D.Term) 0, L none ([] : List Int) 0]] w19 S22 := hs.cons_nil (α := Int) 3
                 have hs : Sep [sl121 (L none ([] : List D.Term) 0) ([] : List D.Term), sl3 (L none ([] : List Int) 0) ([] : List Int), sl121 (L a3 x2 c3) rl4, sl121 (L a2 x1 c2) rl3, BX b2 75 [I 0, L a2 x1 c2, L a3 x2 c3, L none ([] : List Int) 0, I 0, L none ([] : List D.Term) 0, I 0, I 0, L none ([] : List D.Term) 0, L none ([] : List Int) 0]] w19 S22 := hs.cons_nil (α := D.Term) 121
                 have hs : Sep [sl121 (L none ([] : List D.Term) 0) ([] : List D.Term), sl121 (L none ([] : List D.Term) 0) ([] : List D.Term), sl3 (L none ([] : List Int) 0) ([] : List Int), sl121 (L a3 x2 c3) rl4, sl121 (L a2 x1 c2) rl3, BX b2 75 [I 0, L a2 x1 c2, L a3 x2 c3, L none ([] : List Int) 0, I 0, L none ([] : List D.Term) 0, I 0, I 0, L none ([] : List D.Term) 0, L none ([] : List Int) 0]] w19 S22 := hs.cons_nil (α := D.Term) 121
                 have hs : Sep [sl3 (L none ([] : List Int) 0) ([] : List Int), sl121 (L none ([] : List D.Term) 0) ([] : List D.Term), sl121 (L none ([] : List D.Term) 0) ([] : List D.Term), sl3 (L none ([] : List Int) 0) ([] : List Int), sl121 (L a3 x2 c3) rl4, sl121 (L a2 x1 c2) rl3, BX b2 75 [I 0, L a2 x1 c2, L a3 x2 c3, L none ([] : List Int) 0, I 0, L none ([] : List D.Term) 0, I 0, I 0, L none ([] : List D.Term) 0, L none ([] : List Int) 0]] w19 S22 := hs.cons_nil (α := Int) 3
                 obtain rfl := Option.some.inj h
                 have hs : Sep [sl121 (L a2 x1 c2) rl3, sl121 (L a3 x2 c3) rl4, sl3 (L none ([] : List Int) 0) ([] : List Int), sl121 (L none ([] : List D.Term) 0) ([] : List D.Term), sl121 (L none ([] : List D.Term) 0) ([] : List D.Term), sl3 (L none ([] : List Int) 0) ([] : List Int)] w19 S22 := Sep.pick [5, 4, 3, 2, 1, 0] hs (by decide) rfl
                 obtain ⟨he3, hs⟩ := hs.relen 0 rfl
                 have hs : Sep [sl121 (L a2 rl3 c2) rl3, sl121 (L a3 x2 c3) rl4, sl3 (L none ([] : List Int) 0) ([] : List Int), sl121 (L none ([] : List D.Term) 0) ([] : List D.Term), sl121 (L none ([] : List D.Term) 0) ([] : List D.Term), sl3 (L none ([] : List Int) 0) ([] : List Int)] w19 S22 := hs
                 obtain ⟨he4, hs⟩ := hs.relen 1 rfl
                 have hs : Sep [sl121 (L a2 rl3 c2) rl3, sl121 (L a3 rl4 c3) rl4, sl3 (L none ([] : List Int) 0) ([] : List Int), sl121 (L none ([] : List D.Term) 0) ([] : List D.Term), sl121 (L none ([] : List D.Term) 0) ([] : List D.Term), sl3 (L none ([] : List Int) 0) ([] : List Int)] w19 S22 := hs
                 exact wp_ret (retS rfl hF ty75 rfl rfl hbr rfl ⟨_, rfl, a2, c2, a3, c3, none, 0, none, 0, none, 0, none, 0, (by simp only [L, he3, he4]), S22, hM0.out, hs⟩)
     · refine op_of _ rfl rfl ?_
       refine q_alloc (z := .agg #[I 0, L none ([] : List D.Term) 0, L none ([] : List D.Term) 0, L none ([] : List Int) 0, I 0, L none ([] : List D.Term) 0, I 0, I 0, L none ([] : List D.Term) 0, L none ([] : List Int) 0]) hs hM0 [I 0, L none ([] : List D.Term) 0, L none ([] : List D.Term) 0, L none ([] : List Int) 0, I 0, L none ([] : List D.Term) 0, I 0, I 0, L none ([] : List D.Term) 0, L none ([] : List Int) 0] rfl rfl hF (by kernel_rfl) rfl fun b5 w20 S23 fr hs hp hF => ?_
       have r1 := r1.stp hM0 hp
       have hM0 := hM0.stp hp
       have hs : Sep [BX b5 75 [I 0, L none ([] : List D.Term) 0, L none ([] : List D.Term) 0, L none ([] : List Int) 0, I 0, L none ([] : List D.Term) 0, I 0, I 0, L none ([] : List D.Term) 0, L none ([] : List Int) 0], sl121 (L a2 x1 c2) x1, BX b2 75 [I 0, L none ([] : List D.Term) 0, L none ([] : List D.Term) 0, L none ([] : List Int) 0, I 0, L none ([] : List D.Term) 0, I 0, I 0, L none ([] : List D.Term) 0, L none ([] : List Int) 0], BX b1 30 [I p0.W, I p0.Mem, I p0.In, L a1 p0.Code c1]] w20 S23 := hs
       refine from_end rfl (then_normal ?_)
       refine any_node (fuel := 2) [3] (by kernel_rfl) (by simp) ⟨?_, trivial⟩
       · refine op_of _ rfl rfl ?_
         refine q_make hs hM0 Try.underlying73 el121 (zero_flat _ (by kernel_rfl)) rfl rfl hF rfl rfl hx2 fun a4 c4 w21 S24 fr hs hp hF => ?_
         have r1 := r1.stp hM0 hp
         have hM0 := hM0.stp hp
         have hs : Sep [sl121 (L a4 x2 c4) x2, BX b5 75 [I 0, L none ([] : List D.Term) 0, L none ([] : List D.Term) 0, L none ([] : List Int) 0, I 0, L none ([] : List D.Term) 0, I 0, I 0, L none ([] : List D.Term) 0, L none ([] : List Int) 0], sl121 (L a2 x1 c2) x1, BX b2 75 [I 0, L none ([] : List D.Term) 0, L none ([] : List D.Term) 0, L none ([] : List Int) 0, I 0, L none ([] : List D.Term) 0, I 0, I 0, L none ([] : List D.Term) 0, L none ([] : List Int) 0], BX b1 30 [I p0.W, I p0.Mem, I p0.In, L a1 p0.Code c1]] w21 S24 := hs
         refine from_end rfl (then_normal ?_)
         refine any_node (fuel := 1) [4] (by kernel_rfl) (by simp) ⟨?_, trivial⟩
         · refine op_of _ rfl rfl ?_
           refine from_pure 1 [(1, B b1 0), (2, B b2 0), (3, B b5 0), (10, .agg #[I 0, L a2 x1 c2, L a4 x2 c4, L none ([] : List Int) 0, I 0, L none ([] : List D.Term) 0, I 0, I 0, L none ([] : List D.Term) 0, L none ([] : List Int) 0])] hF (by kernel_rfl) fun fr hF => ?_
           refine from_end rfl (then_normal ?_)
           refine any_node (fuel := 0) [6] (by kernel_rfl) (by simp) ⟨?_, trivial⟩
           · refine op_of _ rfl rfl ?_
             refine q_storeBoxS 1 hs hM0 rfl [I 0, L a2 x1 c2, L a4 x2 c4, L none ([] : List Int) 0, I 0, L none ([] : List D.Term) 0, I 0, I 0, L none ([] : List D.Term) 0, L none ([] : List Int) 0] rfl hF rfl rfl (by kernel_rfl) rfl rfl rfl fun w22 S25 hs hp hF => ?_
             have r1 := r1.stp hM0 hp
             have hM0 := hM0.stp hp
             have hs : Sep [sl121 (L a4 x2 c4) x2, BX b5 75 [I 0, L a2 x1 c2, L a4 x2 c4, L none ([] : List Int) 0, I 0, L none ([] : List D.Term) 0, I 0, I 0, L none ([] : List D.Term) 0, L none ([] : List Int) 0], sl121 (L a2 x1 c2) x1, BX b2 75 [I 0, L none ([] : List D.Term) 0, L none ([] : List D.Term) 0, L none ([] : List Int) 0, I 0, L none ([] : List D.Term) 0, I 0, I 0, L none ([] : List D.Term) 0, L none ([] : List Int) 0], BX b1 30 [I p0.W, I p0.Mem, I p0.In, L a1 p0.Code c1]] w22 S25 := hs
             refine from_end rfl (then_normal ?_)
             refine any_leaf (by kernel_rfl) (then_normal ?_)
             refine wp_seq ?_
             refine wp_seq (wp_text' ?_)
             refine from_pure 1 [(1, B b1 0), (2, B b2 0), (3, B b5 0), (11, B b5 1)] hF (by kernel_rfl) fun fr hF => ?_
             refine s_loadBox (L a2 x1 c2) ty73 rfl rfl hF rfl (hs.bx 1 rfl) rfl rfl fun fr hF => ?_
             refine from_pure 2 [(1, B b1 0), (2, B b2 0), (3, B b5 0), (13, I (len x1)), (14, I 0)] hF (by kernel_rfl) fun fr hF => ?_
             refine from_end rfl (then_normal ?_)
             obtain ⟨rl5, hit5, h⟩ := bindE h
             have hk5 := h
             refine (GL.wp_cut (M := fun fr w' => ∃ S27 F10, FrS 40 [(1, B b1 0), (2, B b2 0), (3, B b5 0)] fr ∧ Mem w22 S25 (fun k => (G0 k) ∧ k < w.heap.size) w' S27 F10 ∧ Sep [sl121 (L a4 x2 c4) x2, BX b5 75 [I 0, L a2 x1 c2, L a4 x2 c4, L none ([] : List Int) 0, I 0, L none ([] : List D.Term) 0, I 0, I 0, L none ([] : List D.Term) 0, L none ([] : List Int) 0], sl121 (L a2 x1 c2) rl5, BX b2 75 [I 0, L none ([] : List D.Term) 0, L none ([] : List D.Term) 0, L none ([] : List Int) 0, I 0, L none ([] : List D.Term) 0, I 0, I 0, L none ([] : List D.Term) 0, L none ([] : List Int) 0], BX b1 30 [I p0.W, I p0.Mem, I p0.In, L a1 p0.Code c1]] w' S27) (wp_block (wp_iter (Inv := fun s5 fr w' => ∃ S26 F9, FrS 40 [(1, B b1 0), (2, B b2 0), (3, B b5 0), (13, I (len x1)), (14, I s5.1)] fr ∧ Mem w22 S25 (fun k => (G0 k) ∧ k < w.heap.size) w' S26 F9 ∧ Sep [sl121 (L a4 x2 c4) x2, BX b5 75 [I 0, L a2 x1 c2, L a4 x2 c4, L none ([] : List Int) 0, I 0, L none ([] : List D.Term) 0, I 0, I 0, L none ([] : List D.Term) 0, L none ([] : List Int) 0], sl121 (L a2 x1 c2) s5.2, BX b2 75 [I 0, L none ([] : List D.Term) 0, L none ([] : List D.Term) 0, L none ([] : List Int) 0, I 0, L none ([] : List D.Term) 0, I 0, I 0, L none ([] : List D.Term) 0, L none ([] : List Int) 0], BX b1 30 [I p0.W, I p0.Mem, I p0.In, L a1 p0.Code c1]] w' S26) hit5 ⟨S25, _, hF.sub _ (by kernel_rfl), (Mem.start hM0.bd hM0.bdF hM0.dj), hs⟩ fun s5 q5 fr w5i hI h hr5 => ?_)) fun fr w5o hM => ?_)
             · obtain ⟨S26, F9, hF, hM1, hs⟩ := hI
               have r1 := r1.mem hM1
               refine wp_seq (wp_pure [(1, B b1 0), (2, B b2 0), (3, B b5 0), (13, I (len x1)), (14, I s5.1), (15, .bool (decide (s5.1 < (len x1))))] hF (by kernel_rfl) fun fr hF => then_normal ?_)
               refine wp_seq (wp_if hF (b := (decide (s5.1 < (len x1)))) rfl (fun hb => ?_) (fun hb => ?_))
               · replace h := iteT hb h
                 refine (wp_skip (then_normal ?_))
                 refine wp_seq (wp_block ?_)
                 refine wp_seq (wp_pure [(1, B b1 0), (2, B b2 0), (3, B b5 0), (4, I s5.1), (13, I (len x1)), (14, I s5.1)] hF (by kernel_rfl) fun fr hF => then_normal ?_)
                 obtain ⟨x11, hx11, h⟩ := bindE h
                 refine (region_bm 6 [0, 1, 0, 0, 8, 24, 63, 127] [true, false, true, true, false, false]
                     [.eq (B b5 1), .eq (L a2 x1 c2), .eq (I s5.1), .eq (B b1 0), .eq (I p0.W), .eq (.agg #[I x11.Op, I x11.W, I x11.N, Str.val x11.Name, L none ([] : List D.Term) 0]), .any, .any]
                     [(1, B b1 0), (2, B b2 0), (3, B b5 0), (13, I (len x1)), (14, I s5.1), (18, L a2 x1 c2), (19, I s5.1), (22, .agg #[I x11.Op, I x11.W, I x11.N, Str.val x11.Name, L none ([] : List D.Term) 0])] mix hF (by kernel_rfl) (by kernel_rfl) (by kernel_rfl) (by kernel_rfl) ⟨Pd.monoO_eq, Pd.monoO_eq, Pd.monoO_eq, trivial⟩ (fun ow hG => ⟨np_to ow (np_loadBox hG hF ty73 rfl rfl (hs.bx 1 rfl) rfl rfl rfl), np_to ow (np_loadBox hG hF ty3 rfl rfl (hs.bx 4 rfl) rfl rfl rfl), np_to ow (np_call [I p0.W, I 0] hG hF Try.call129 rfl rfl (fun w hC hg => (impl_ConstTerm_ok p0.W 0 hx11).mono fun e w' ⟨v, he, hv, hc⟩ => ⟨v, he, hc, hv⟩)), trivial⟩) (by kernel_rfl) fun ow fr w23 hF hE hc => ?_)
                 have r1 := r1.ext hc
                 have hs := hs.ext hc
                 have hM1 := hM1.ext hc
                 obtain ⟨x12, hx12, h⟩ := bindE h
                 refine q_set (q := x11) 2 hs hM1 rfl Try.underlying73 ty121 rfl rfl rfl rfl hF rfl rfl (by simp) rfl rfl hx12 fun w24 S28 fr _ hs hp hF => ?_
                 have r1 := r1.stp hM1 hp
                 have hM1 := hM1.stp hp
                 have hs : Sep [sl121 (L a4 x2 c4) x2, BX b5 75 [I 0, L a2 x1 c2, L a4 x2 c4, L none ([] : List Int) 0, I 0, L none ([] : List D.Term) 0, I 0, I 0, L none ([] : List D.Term) 0, L none ([] : List Int) 0], sl121 (L a2 x1 c2) x12, BX b2 75 [I 0, L none ([] : List D.Term) 0, L none ([] : List D.Term) 0, L none ([] : List Int) 0, I 0, L none ([] : List D.Term) 0, I 0, I 0, L none ([] : List D.Term) 0, L none ([] : List Int) 0], BX b1 30 [I p0.W, I p0.Mem, I p0.In, L a1 p0.Code c1]] w24 S28 := hs
                 refine from_end rfl ?_
                 refine blk_normal (then_normal ?_)
                 refine (wp_pure [(1, B b1 0), (2, B b2 0), (3, B b5 0), (13, I (len x1)), (14, I (w64 (s5.1 + 1)))] hF (by kernel_rfl) fun fr hF => then_normal ?_)
                 exact ⟨_, (Option.some.inj h).symm, S28, _, hF.sub _ (by kernel_rfl), hM1, hs⟩
               replace h := iteF hb h
               refine (wp_exit (then_exit (then_exit (blk_exit_eq ?_))))
               obtain rfl := hr5 _ (Option.some.inj h).symm
               exact then_normal ⟨S26, _, hF.sub _ (by kernel_rfl), hM1, hs⟩
             · obtain ⟨S27, F10, hF, hMx, hs⟩ := hM
               have r1 := r1.mem hMx
               have hM0 := hM0.trans hMx
               refine wp_seq ?_
               refine wp_seq (wp_text' ?_)
               refine from_pure 1 [(1, B b1 0), (2, B b2 0), (3, B b5 0), (25, B b5 2)] hF (by kernel_rfl) fun fr hF => ?_
               refine s_loadBox (L a4 x2 c4) ty73 rfl rfl hF rfl (hs.bx 1 rfl) rfl rfl fun fr hF => ?_
               refine from_pure 2 [(1, B b1 0), (2, B b2 0), (3, B b5 0), (27, I (len x2)), (28, I 0)] hF (by kernel_rfl) fun fr hF => ?_
               refine from_end rfl (then_normal ?_)
               obtain ⟨rl6, hit6, h⟩ := bindE h
               have hk6 := h
               refine (GL.wp_cut (M := fun fr w' => ∃ S30 F12, FrS 40 [(2, B b2 0), (3, B b5 0)] fr ∧ Mem w5o S27 F10 w' S30 F12 ∧ Sep [sl121 (L a4 x2 c4) rl6, BX b5 75 [I 0, L a2 x1 c2, L a4 x2 c4, L none ([] : List Int) 0, I 0, L none ([] : List D.Term) 0, I 0, I 0, L none ([] : List D.Term) 0, L none ([] : List Int) 0], sl121 (L a2 x1 c2) rl5, BX b2 75 [I 0, L none ([] : List D.Term) 0, L none ([] : List D.Term) 0, L none ([] : List Int) 0, I 0, L none ([] : List D.Term) 0, I 0, I 0, L none ([] : List D.Term) 0, L none ([] : List Int) 0]] w' S30) (wp_block (wp_iter (Inv := fun s6 fr w' => ∃ S29 F11, FrS 40 [(1, B b1 0), (2, B b2 0), (3, B b5 0), (27, I (len x2)), (28, I s6.1)] fr ∧ Mem w5o S27 F10 w' S29 F11 ∧ Sep [sl121 (L a4 x2 c4) s6.2, BX b5 75 [I 0, L a2 x1 c2, L a4 x2 c4, L none ([] : List Int) 0, I 0, L none ([] : List D.Term) 0, I 0, I 0, L none ([] : List D.Term) 0, L none ([] : List Int) 0], sl121 (L a2 x1 c2) rl5, BX b2 75 [I 0, L none ([] : List D.Term) 0, L none ([] : List D.Term) 0, L none ([] : List Int) 0, I 0, L none ([] : List D.Term) 0, I 0, I 0, L none ([] : List D.Term) 0, L none ([] : List Int) 0], BX b1 30 [I p0.W, I p0.Mem, I p0.In, L a1 p0.Code c1]] w' S29) hit6 ⟨S27, _, hF.sub _ (by kernel_rfl), (Mem.start hM0.bd hM0.bdF hM0.dj), hs⟩ fun s6 q6 fr w6i hI h hr6 => ?_)) fun fr w6o hM => ?_)
               · obtain ⟨S29, F11, hF, hM1, hs⟩ := hI
                 have r1 := r1.mem hM1
                 refine wp_seq (wp_pure [(1, B b1 0), (2, B b2 0), (3, B b5 0), (27, I (len x2)), (28, I s6.1), (29, .bool (decide (s6.1 < (len x2))))] hF (by kernel_rfl) fun fr hF => then_normal ?_)
                 refine wp_seq (wp_if hF (b := (decide (s6.1 < (len x2)))) rfl (fun hb => ?_) (fun hb => ?_))
                 · replace h := iteT hb h
                   refine (wp_skip (then_normal ?_))
                   refine wp_seq (wp_block ?_)
                   refine wp_seq (wp_pure [(1, B b1 0), (2, B b2 0), (3, B b5 0), (5, I s6.1), (27, I (len x2)), (28, I s6.1)] hF (by kernel_rfl) fun fr hF => then_normal ?_)
                   obtain ⟨x13, hx13, h⟩ := bindE h
                   refine (region_bm 6 [0, 1, 0, 0, 8, 24, 63, 127] [true, false, true, true, false, false]
                       [.eq (B b5 2), .eq (L a4 x2 c4), .eq (I s6.1), .eq (B b1 0), .eq (I p0.W), .eq (.agg #[I x13.Op, I x13.W, I x13.N, Str.val x13.Name, L none ([] : List D.Term) 0]), .any, .any]
                       [(1, B b1 0), (2, B b2 0), (3, B b5 0), (27, I (len x2)), (28, I s6.1), (32, L a4 x2 c4), (33, I s6.1), (36, .agg #[I x13.Op, I x13.W, I x13.N, Str.val x13.Name, L none ([] : List D.Term) 0])] mix hF (by kernel_rfl) (by kernel_rfl) (by kernel_rfl) (by kernel_rfl) ⟨Pd.monoO_eq, Pd.monoO_eq, Pd.monoO_eq, trivial⟩ (fun ow hG => ⟨np_to ow (np_loadBox hG hF ty73 rfl rfl (hs.bx 1 rfl) rfl rfl rfl), np_to ow (np_loadBox hG hF ty3 rfl rfl (hs.bx 4 rfl) rfl rfl rfl), np_to ow (np_call [I p0.W, I 0] hG hF Try.call129 rfl rfl (fun w hC hg => (impl_ConstTerm_ok p0.W 0 hx13).mono fun e w' ⟨v, he, hv, hc⟩ => ⟨v, he, hc, hv⟩)), trivial⟩) (by kernel_rfl) fun ow fr w25 hF hE hc => ?_)
                   have r1 := r1.ext hc
                   have hs := hs.ext hc
                   have hM1 := hM1.ext hc
                   obtain ⟨x14, hx14, h⟩ := bindE h
                   refine q_set (q := x13) 0 hs hM1 rfl Try.underlying73 ty121 rfl rfl rfl rfl hF rfl rfl (by simp) rfl rfl hx14 fun w26 S31 fr _ hs hp hF => ?_
                   have r1 := r1.stp hM1 hp
                   have hM1 := hM1.stp hp
                   have hs : Sep [sl121 (L a4 x2 c4) x14, BX b5 75 [I 0, L a2 x1 c2, L a4 x2 c4, L none ([] : List Int) 0, I 0, L none ([] : List D.Term) 0, I 0, I 0, L none ([] : List D.Term) 0, L none ([] : List Int) 0], sl121 (L a2 x1 c2) rl5, BX b2 75 [I 0, L none ([] : List D.Term) 0, L none ([] : List D.Term) 0, L none ([] : List Int) 0, I 0, L none ([] : List D.Term) 0, I 0, I 0, L none ([] : List D.Term) 0, L none ([] : List Int) 0], BX b1 30 [I p0.W, I p0.Mem, I p0.In, L a1 p0.Code c1]] w26 S31 := hs
                   refine from_end rfl ?_
                   refine blk_normal (then_normal ?_)
                   refine (wp_pure [(1, B b1 0), (2, B b2 0), (3, B b5 0), (27, I (len x2)), (28, I (w64 (s6.1 + 1)))] hF (by kernel_rfl) fun fr hF => then_normal ?_)
                   exact ⟨_, (Option.some.inj h).symm, S31, _, hF.sub _ (by kernel_rfl), hM1, hs⟩
                 replace h := iteF hb h
                 have hs : Sep [sl121 (L a4 x2 c4) s6.2, BX b5 75 [I 0, L a2 x1 c2, L a4 x2 c4, L none ([] : List Int) 0, I 0, L none ([] : List D.Term) 0, I 0, I 0, L none ([] : List D.Term) 0, L none ([] : List Int) 0], sl121 (L a2 x1 c2) rl5, BX b2 75 [I 0, L none ([] : List D.Term) 0, L none ([] : List D.Term) 0, L none ([] : List Int) 0, I 0, L none ([] : List D.Term) 0, I 0, I 0, L none ([] : List D.Term) 0, L none ([] : List Int) 0]] w6i S29 := Sep.pick [0, 1, 2, 3] hs (by decide) rfl
                 refine (wp_exit (then_exit (then_exit (blk_exit_eq ?_))))
                 obtain rfl := hr6 _ (Option.some.inj h).symm
                 exact then_normal ⟨S29, _, hF.sub _ (by kernel_rfl), hM1, hs⟩
               · obtain ⟨S30, F12, hF, hMx, hs⟩ := hM
                 have hM0 := hM0.trans hMx
                 refine wp_seq (wp_text' ?_)
                 refine s_loadBoxS ty75 rfl rfl hF rfl (hs.bx 1 rfl) rfl rfl fun fr hF => ?_
                 have hs : Sep [sl121 (L a4 x2 c4) rl6, sl121 (L a2 x1 c2) rl5, BX b2 75 [I 0, L none ([] : List D.Term) 0, L none ([] : List D.Term) 0, L none ([] : List Int) 0, I 0, L none ([] : List D.Term) 0, I 0, I 0, L none ([] : List D.Term) 0, L none ([] : List Int) 0]] w6o S30 := Sep.pick [0, 2, 3] hs (by decide) rfl
                 refine q_storeBoxS 2 hs hM0 rfl [I 0, L a2 x1 c2, L a4 x2 c4, L none ([] : List Int) 0, I 0, L none ([] : List D.Term) 0, I 0, I 0, L none ([] : List D.Term) 0, L none ([] : List Int) 0] rfl hF rfl rfl (by kernel_rfl) rfl rfl rfl fun w27 S32 hs hp hF => ?_
                 have hM0 := hM0.stp hp
                 have hs : Sep [sl121 (L a4 x2 c4) rl6, sl121 (L a2 x1 c2) rl5, BX b2 75 [I 0, L a2 x1 c2, L a4 x2 c4, L none ([] : List Int) 0, I 0, L none ([] : List D.Term) 0, I 0, I 0, L none ([] : List D.Term) 0, L none ([] : List Int) 0]] w27 S32 := hs
                 refine from_end rfl (then_normal ?_)
                 have hbr := (hs.bx 2 rfl)
                 have hs : Sep [sl3 (L none ([] : List Int) 0) ([] : List Int), sl121 (L a4 x2 c4) rl6, sl121 (L a2 x1 c2) rl5, BX b2 75 [I 0, L a2 x1 c2, L a4 x2 c4, L none ([] : List Int) 0, I 0, L none ([] : List D.Term) 0, I 0, I 0, L none ([] : List D.Term) 0, L none ([] : List Int) 0]] w27 S32 := hs.cons_nil (α := Int) 3
                 have hs : Sep [sl121 (L none ([] : List D.Term) 0) ([] : List D.Term), sl3 (L none ([] : List Int) 0) ([] : List Int), sl121 (L a4 x2 c4) rl6, sl121 (L a2 x1 c2) rl5, BX b2 75 [I 0, L a2 x1 c2, L a4 x2 c4, L none ([] : List Int) 0, I 0, L none ([] : List D.Term) 0, I 0, I 0, L none ([] : List D.Term) 0, L none ([] : List Int) 0]] w27 S32 := hs.cons_nil (α := D.Term) 121
                 have hs : Sep [sl121 (L none ([] : List D.Term) 0) ([] : List D.Term), sl121 (L none ([] : List D.Term) 0) ([] : List D.Term), sl3 (L none ([] : List Int) 0) ([] : List Int), sl121 (L a4 x2 c4) rl6, sl121 (L a2 x1 c2) rl5, BX b2 75 [I 0, L a2 x1 c2, L a4 x2 c4, L none ([] : List Int) 0, I 0, L none ([] : List D.Term) 0, I 0, I 0, L none ([] : List D.Term) 0, L none ([] : List Int) 0]] w27 S32 := hs.cons_nil (α := D.Term) 121
                 have hs : Sep [sl3 (L none ([] : List Int) 0) ([] : List Int), sl121 (L none ([] : List D.Term) 0) ([] : List D.Term), sl121 (L none ([] : List D.Term) 0) ([] : List D.Term), sl3 (L none ([] : List Int) 0) ([] : List Int), sl121 (L a4 x2 c4) rl6, sl121 (L a2 x1 c2) rl5, BX b2 75 [I 0, L a2 x1 c2, L a4 x2 c4, L none ([] : List Int) 0, I 0, L none ([] : List D.Term) 0, I 0, I 0, L none ([] : List D.Term) 0, L none ([] : List Int) 0]] w27 S32 := hs.cons_nil (α := Int) 3
                 obtain rfl := Option.some.inj h
                 have hs : Sep [sl121 (L a2 x1 c2) rl5, sl121 (L a4 x2 c4) rl6, sl3 (L none ([] : List Int) 0) ([] : List Int), sl121 (L none ([] : List D.Term) 0) ([] : List D.Term), sl121 (L none ([] : List D.Term) 0) ([] : List D.Term), sl3 (L none ([] : List Int) 0) ([] : List Int)] w27 S32 := Sep.pick [5, 4, 3, 2, 1, 0] hs (by decide) rfl
                 obtain ⟨he5, hs⟩ := hs.relen 0 rfl
                 have hs : Sep [sl121 (L a2 rl5 c2) rl5, sl121 (L a4 x2 c4) rl6, sl3 (L none ([] : List Int) 0) ([] : List Int), sl121 (L none ([] : List D.Term) 0) ([] : List D.Term), sl121 (L none ([] : List D.Term) 0) ([] : List D.Term), sl3 (L none ([] : List Int) 0) ([] : List Int)] w27 S32 := hs
                 obtain ⟨he6, hs⟩ := hs.relen 1 rfl
                 have hs : Sep [sl121 (L a2 rl5 c2) rl5, sl121 (L a4 rl6 c4) rl6, sl3 (L none ([] : List Int) 0) ([] : List Int), sl121 (L none ([] : List D.Term) 0) ([] : List D.Term), sl121 (L none ([] : List D.Term) 0) ([] : List D.Term), sl3 (L none ([] : List Int) 0) ([] : List Int)] w27 S32 := hs
                 exact wp_ret (retS rfl hF ty75 rfl rfl hbr rfl ⟨_, rfl, a2, c2, a4, c4, none, 0, none, 0, none, 0, none, 0, (by simp only [L, he5, he6]), S32, hM0.out, hs⟩)
   · refine op_of _ rfl rfl ?_
     refine q_alloc (z := .agg #[I 0, L none ([] : List D.Term) 0, L none ([] : List D.Term) 0, L none ([] : List Int) 0, I 0, L none ([] : List D.Term) 0, I 0, I 0, L none ([] : List D.Term) 0, L none ([] : List Int) 0]) hs hM0 [I 0, L none ([] : List D.Term) 0, L none ([] : List D.Term) 0, L none ([] : List Int) 0, I 0, L none ([] : List D.Term) 0, I 0, I 0, L none ([] : List D.Term) 0, L none ([] : List Int) 0] rfl rfl hF (by kernel_rfl) rfl fun b6 w28 S33 fr hs hp hF => ?_
     have r1 := r1.stp hM0 hp
     have hM0 := hM0.stp hp
     have hs : Sep [BX b6 75 [I 0, L none ([] : List D.Term) 0, L none ([] : List D.Term) 0, L none ([] : List Int) 0, I 0, L none ([] : List D.Term) 0, I 0, I 0, L none ([] : List D.Term) 0, L none ([] : List Int) 0], sl121 (L a2 x1 c2) x1, BX b2 75 [I 0, L none ([] : List D.Term) 0, L none ([] : List D.Term) 0, L none ([] : List Int) 0, I 0, L none ([] : List D.Term) 0, I 0, I 0, L none ([] : List D.Term) 0, L none ([] : List Int) 0], BX b1 30 [I p0.W, I p0.Mem, I p0.In, L a1 p0.Code c1]] w28 S33 := hs
     refine from_end rfl (then_normal ?_)
     refine any_node (fuel := 3) [2] (by kernel_rfl) (by simp) ⟨?_, trivial⟩
     · refine op_of _ rfl rfl ?_
       refine s_loadBox (I p0.Mem) ty3 rfl rfl hF rfl (hs.bx 3 rfl) rfl rfl fun fr hF => ?_
       refine from_end rfl (then_normal ?_)
       refine any_node (fuel := 2) [3] (by kernel_rfl) (by simp) ⟨?_, trivial⟩
       · refine op_of _ rfl rfl ?_
         refine q_make hs hM0 Try.underlying73 el121 (zero_flat _ (by kernel_rfl)) rfl rfl hF rfl rfl hx2 fun a5 c5 w29 S34 fr hs hp hF => ?_
         have r1 := r1.stp hM0 hp
         have hM0 := hM0.stp hp
         have hs : Sep [sl121 (L a5 x2 c5) x2, BX b6 75 [I 0, L none ([] : List D.Term) 0, L none ([] : List D.Term) 0, L none ([] : List Int) 0, I 0, L none ([] : List D.Term) 0, I 0, I 0, L none ([] : List D.Term) 0, L none ([] : List Int) 0], sl121 (L a2 x1 c2) x1, BX b2 75 [I 0, L none ([] : List D.Term) 0, L none ([] : List D.Term) 0, L none ([] : List Int) 0, I 0, L none ([] : List D.Term) 0, I 0, I 0, L none ([] : List D.Term) 0, L none ([] : List Int) 0], BX b1 30 [I p0.W, I p0.Mem, I p0.In, L a1 p0.Code c1]] w29 S34 := hs
         refine from_end rfl (then_normal ?_)
         refine any_node (fuel := 1) [4] (by kernel_rfl) (by simp) ⟨?_, trivial⟩
         · refine op_of _ rfl rfl ?_
           refine from_pure 1 [(1, B b1 0), (2, B b2 0), (3, B b6 0), (10, .agg #[I 0, L a2 x1 c2, L a5 x2 c5, L none ([] : List Int) 0, I 0, L none ([] : List D.Term) 0, I 0, I 0, L none ([] : List D.Term) 0, L none ([] : List Int) 0])] hF (by kernel_rfl) fun fr hF => ?_
           refine from_end rfl (then_normal ?_)
           refine any_node (fuel := 0) [6] (by kernel_rfl) (by simp) ⟨?_, trivial⟩
           · refine op_of _ rfl rfl ?_
             refine q_storeBoxS 1 hs hM0 rfl [I 0, L a2 x1 c2, L a5 x2 c5, L none ([] : List Int) 0, I 0, L none ([] : List D.Term) 0, I 0, I 0, L none ([] : List D.Term) 0, L none ([] : List Int) 0] rfl hF rfl rfl (by kernel_rfl) rfl rfl rfl fun w30 S35 hs hp hF => ?_
             have r1 := r1.stp hM0 hp
             have hM0 := hM0.stp hp
             have hs : Sep [sl121 (L a5 x2 c5) x2, BX b6 75 [I 0, L a2 x1 c2, L a5 x2 c5, L none ([] : List Int) 0, I 0, L none ([] : List D.Term) 0, I 0, I 0, L none ([] : List D.Term) 0, L none ([] : List Int) 0], sl121 (L a2 x1 c2) x1, BX b2 75 [I 0, L none ([] : List D.Term) 0, L none ([] : List D.Term) 0, L none ([] : List Int) 0, I 0, L none ([] : List D.Term) 0, I 0, I 0, L none ([] : List D.Term) 0, L none ([] : List Int) 0], BX b1 30 [I p0.W, I p0.Mem, I p0.In, L a1 p0.Code c1]] w30 S35 := hs
             refine from_end rfl (then_normal ?_)
             refine any_leaf (by kernel_rfl) (then_normal ?_)
             refine wp_seq ?_
             refine wp_seq (wp_text' ?_)
             refine from_pure 1 [(1, B b1 0), (2, B b2 0), (3, B b6 0), (11, B b6 1)] hF (by kernel_rfl) fun fr hF => ?_
             refine s_loadBox (L a2 x1 c2) ty73 rfl rfl hF rfl (hs.bx 1 rfl) rfl rfl fun fr hF => ?_
             refine from_pure 2 [(1, B b1 0), (2, B b2 0), (3, B b6 0), (13, I (len x1)), (14, I 0)] hF (by kernel_rfl) fun fr hF => ?_
             refine from_end rfl (then_normal ?_)
             obtain ⟨rl7, hit7, h⟩ := bindE h
             have hk7 := h
             refine (GL.wp_cut (M := fun fr w' => ∃ S37 F14, FrS 40 [(1, B b1 0), (2, B b2 0), (3, B b6 0)] fr ∧ Mem w30 S35 (fun k => (G0 k) ∧ k < w.heap.size) w' S37 F14 ∧ Sep [sl121 (L a5 x2 c5) x2, BX b6 75 [I 0, L a2 x1 c2, L a5 x2 c5, L none ([] : List Int) 0, I 0, L none ([] : List D.Term) 0, I 0, I 0, L none ([] : List D.Term) 0, L none ([] : List Int) 0], sl121 (L a2 x1 c2) rl7, BX b2 75 [I 0, L none ([] : List D.Term) 0, L none ([] : List D.Term) 0, L none ([] : List Int) 0, I 0, L none ([] : List D.Term) 0, I 0, I 0, L none ([] : List D.Term) 0, L none ([] : List Int) 0], BX b1 30 [I p0.W, I p0.Mem, I p0.In, L a1 p0.Code c1]] w' S37) (wp_block (wp_iter (Inv := fun s7 fr w' => ∃ S36 F13, FrS 40 [(1, B b1 0), (2, B b2 0), (3, B b6 0), (13, I (len x1)), (14, I s7.1)] fr ∧ Mem w30 S35 (fun k => (G0 k) ∧ k < w.heap.size) w' S36 F13 ∧ Sep [sl121 (L a5 x2 c5) x2, BX b6 75 [I 0, L a2 x1 c2, L a5 x2 c5, L none ([] : List Int) 0, I 0, L none ([] : List D.Term) 0, I 0, I 0, L none ([] : List D.Term) 0, L none ([] : List Int) 0], sl121 (L a2 x1 c2) s7.2, BX b2 75 [I 0, L none ([] : List D.Term) 0, L none ([] : List D.Term) 0, L none ([] : List Int) 0, I 0, L none ([] : List D.Term) 0, I 0, I 0, L none ([] : List D.Term) 0, L none ([] : List Int) 0], BX b1 30 [I p0.W, I p0.Mem, I p0.In, L a1 p0.Code c1]] w' S36) hit7 ⟨S35, _, hF.sub _ (by kernel_rfl), (Mem.start hM0.bd hM0.bdF hM0.dj), hs⟩ fun s7 q7 fr w7i hI h hr7 => ?_)) fun fr w7o hM => ?_)
             · obtain ⟨S36, F13, hF, hM1, hs⟩ := hI
               have r1 := r1.mem hM1
               refine wp_seq (wp_pure [(1, B b1 0), (2, B b2 0), (3, B b6 0), (13, I (len x1)), (14, I s7.1), (15, .bool (decide (s7.1 < (len x1))))] hF (by kernel_rfl) fun fr hF => then_normal ?_)
               refine wp_seq (wp_if hF (b := (decide (s7.1 < (len x1)))) rfl (fun hb => ?_) (fun hb => ?_))
               · replace h := iteT hb h
                 refine (wp_skip (then_normal ?_))
                 refine wp_seq (wp_block ?_)
                 refine wp_seq (wp_pure [(1, B b1 0), (2, B b2 0), (3, B b6 0), (4, I s7.1), (13, I (len x1)), (14, I s7.1)] hF (by kernel_rfl) fun fr hF => then_normal ?_)
                 obtain ⟨x15, hx15, h⟩ := bindE h
                 refine (region_bm 6 [0, 1, 0, 0, 8, 24, 63, 127] [true, false, true, true, false, false]
                     [.eq (B b6 1), .eq (L a2 x1 c2), .eq (I s7.1), .eq (B b1 0), .eq (I p0.W), .eq (.agg #[I x15.Op, I x15.W, I x15.N, Str.val x15.Name, L none ([] : List D.Term) 0]), .any, .any]
                     [(1, B b1 0), (2, B b2 0), (3, B b6 0), (13, I (len x1)), (14, I s7.1), (18, L a2 x1 c2), (19, I s7.1), (22, .agg #[I x15.Op, I x15.W, I x15.N, Str.val x15.Name, L none ([] : List D.Term) 0])] mix hF (by kernel_rfl) (by kernel_rfl) (by kernel_rfl) (by kernel_rfl) ⟨Pd.monoO_eq, Pd.monoO_eq, Pd.monoO_eq, trivial⟩ (fun ow hG => ⟨np_to ow (np_loadBox hG hF ty73 rfl rfl (hs.bx 1 rfl) rfl rfl rfl), np_to ow (np_loadBox hG hF ty3 rfl rfl (hs.bx 4 rfl) rfl rfl rfl), np_to ow (np_call [I p0.W, I 0] hG hF Try.call129 rfl rfl (fun w hC hg => (impl_ConstTerm_ok p0.W 0 hx15).mono fun e w' ⟨v, he, hv, hc⟩ => ⟨v, he, hc, hv⟩)), trivial⟩) (by kernel_rfl) fun ow fr w31 hF hE hc => ?_)
                 have r1 := r1.ext hc
                 have hs := hs.ext hc
                 have hM1 := hM1.ext hc
                 obtain ⟨x16, hx16, h⟩ := bindE h
                 refine q_set (q := x15) 2 hs hM1 rfl Try.underlying73 ty121 rfl rfl rfl rfl hF rfl rfl (by simp) rfl rfl hx16 fun w32 S38 fr _ hs hp hF => ?_
                 have r1 := r1.stp hM1 hp
                 have hM1 := hM1.stp hp
                 have hs : Sep [sl121 (L a5 x2 c5) x2, BX b6 75 [I 0, L a2 x1 c2, L a5 x2 c5, L none ([] : List Int) 0, I 0, L none ([] : List D.Term) 0, I 0, I 0, L none ([] : List D.Term) 0, L none ([] : List Int) 0], sl121 (L a2 x1 c2) x16, BX b2 75 [I 0, L none ([] : List D.Term) 0, L none ([] : List D.Term) 0, L none ([] : List Int) 0, I 0, L none ([] : List D.Term) 0, I 0, I 0, L none ([] : List D.Term) 0, L none ([] : List Int) 0], BX b1 30 [I p0.W, I p0.Mem, I p0.In, L a1 p0.Code c1]] w32 S38 := hs
                 refine from_end rfl ?_
                 refine blk_normal (then_normal ?_)
                 refine (wp_pure [(1, B b1 0), (2, B b2 0), (3, B b6 0), (13, I (len x1)), (14, I (w64 (s7.1 + 1)))] hF (by kernel_rfl) fun fr hF => then_normal ?_)
                 exact ⟨_, (Option.some.inj h).symm, S38, _, hF.sub _ (by kernel_rfl), hM1, hs⟩
               replace h := iteF hb h
               refine (wp_exit (then_exit (then_exit (blk_exit_eq ?_))))
               obtain rfl := hr7 _ (Option.some.inj h).symm
               exact then_normal ⟨S36, _, hF.sub _ (by kernel_rfl), hM1, hs⟩
             · obtain ⟨S37, F14, hF, hMx, hs⟩ := hM
               have r1 := r1.mem hMx
               have hM0 := hM0.trans hMx
               refine wp_seq ?_
               refine wp_seq (wp_text' ?_)
               refine from_pure 1 [(1, B b1 0), (2, B b2 0), (3, B b6 0), (25, B b6 2)] hF (by kernel_rfl) fun fr hF => ?_
               refine s_loadBox (L a5 x2 c5) ty73 rfl rfl hF rfl (hs.bx 1 rfl) rfl rfl fun fr hF => ?_
               refine from_pure 2 [(1, B b1 0), (2, B b2 0), (3, B b6 0), (27, I (len x2)), (28, I 0)] hF (by kernel_rfl) fun fr hF => ?_
               refine from_end rfl (then_normal ?_)
               obtain ⟨rl8, hit8, h⟩ := bindE h
               have hk8 := h
               refine (GL.wp_cut (M := fun fr w' => ∃ S40 F16, FrS 40 [(2, B b2 0), (3, B b6 0)] fr ∧ Mem w7o S37 F14 w' S40 F16 ∧ Sep [sl121 (L a5 x2 c5) rl8, BX b6 75 [I 0, L a2 x1 c2, L a5 x2 c5, L none ([] : List Int) 0, I 0, L none ([] : List D.Term) 0, I 0, I 0, L none ([] : List D.Term) 0, L none ([] : List Int) 0], sl121 (L a2 x1 c2) rl7, BX b2 75 [I 0, L none ([] : List D.Term) 0, L none ([] : List D.Term) 0, L none ([] : List Int) 0, I 0, L none ([] : List D.Term) 0, I 0, I 0, L none ([] : List D.Term) 0, L none ([] : List Int) 0]] w' S40) (wp_block (wp_iter (Inv := fun s8 fr w' => ∃ S39 F15, FrS 40 [(1, B b1 0), (2, B b2 0), (3, B b6 0), (27, I (len x2)), (28, I s8.1)] fr ∧ Mem w7o S37 F14 w' S39 F15 ∧ Sep [sl121 (L a5 x2 c5) s8.2, BX b6 75 [I 0, L a2 x1 c2, L a5 x2 c5, L none ([] : List Int) 0, I 0, L none ([] : List D.Term) 0, I 0, I 0, L none ([] : List D.Term) 0, L none ([] : List Int) 0], sl121 (L a2 x1 c2) rl7, BX b2 75 [I 0, L none ([] : List D.Term) 0, L none ([] : List D.Term) 0, L none ([] : List Int) 0, I 0, L none ([] : List D.Term) 0, I 0, I 0, L none ([] : List D.Term) 0, L none ([] : List Int) 0], BX b1 30 [I p0.W, I p0.Mem, I p0.In, L a1 p0.Code c1]] w' S39) hit8 ⟨S37, _, hF.sub _ (by kernel_rfl), (Mem.start hM0.bd hM0.bdF hM0.dj), hs⟩ fun s8 q8 fr w8i hI h hr8 => ?_)) fun fr w8o hM => ?_)
               · obtain ⟨S39, F15, hF, hM1, hs⟩ := hI
                 have r1 := r1.mem hM1
                 refine wp_seq (wp_pure [(1, B b1 0), (2, B b2 0), (3, B b6 0), (27, I (len x2)), (28, I s8.1), (29, .bool (decide (s8.1 < (len x2))))] hF (by kernel_rfl) fun fr hF => then_normal ?_)
                 refine wp_seq (wp_if hF (b := (decide (s8.1 < (len x2)))) rfl (fun hb => ?_) (fun hb => ?_))
                 · replace h := iteT hb h
                   refine (wp_skip (then_normal ?_))
                   refine wp_seq (wp_block ?_)
                   refine wp_seq (wp_pure [(1, B b1 0), (2, B b2 0), (3, B b6 0), (5, I s8.1), (27, I (len x2)), (28, I s8.1)] hF (by kernel_rfl) fun fr hF => then_normal ?_)
                   obtain ⟨x17, hx17, h⟩ := bindE h
                   refine (region_bm 6 [0, 1, 0, 0, 8, 24, 63, 127] [true, false, true, true, false, false]
                       [.eq (B b6 2), .eq (L a5 x2 c5), .eq (I s8.1), .eq (B b1 0), .eq (I p0.W), .eq (.agg #[I x17.Op, I x17.W, I x17.N, Str.val x17.Name, L none ([] : List D.Term) 0]), .any, .any]
                       [(1, B b1 0), (2, B b2 0), (3, B b6 0), (27, I (len x2)), (28, I s8.1), (32, L a5 x2 c5), (33, I s8.1), (36, .agg #[I x17.Op, I x17.W, I x17.N, Str.val x17.Name, L none ([] : List D.Term) 0])] mix hF (by kernel_rfl) (by kernel_rfl) (by kernel_rfl) (by kernel_rfl) ⟨Pd.monoO_eq, Pd.monoO_eq, Pd.monoO_eq, trivial⟩ (fun ow hG => ⟨np_to ow (np_loadBox hG hF ty73 rfl rfl (hs.bx 1 rfl) rfl rfl rfl), np_to ow (np_loadBox hG hF ty3 rfl rfl (hs.bx 4 rfl) rfl rfl rfl), np_to ow (np_call [I p0.W, I 0] hG hF Try.call129 rfl rfl (fun w hC hg => (impl_ConstTerm_ok p0.W 0 hx17).mono fun e w' ⟨v, he, hv, hc⟩ => ⟨v, he, hc, hv⟩)), trivial⟩) (by kernel_rfl) fun ow fr w33 hF hE hc => ?_)
                   have r1 := r1.ext hc
                   have hs := hs.ext hc
                   have hM1 := hM1.ext hc
                   obtain ⟨x18, hx18, h⟩ := bindE h
                   refine q_set (q := x17) 0 hs hM1 rfl Try.underlying73 ty121 rfl rfl rfl rfl hF rfl rfl (by simp) rfl rfl hx18 fun w34 S41 fr _ hs hp hF => ?_
                   have r1 := r1.stp hM1 hp
                   have hM1 := hM1.stp hp
                   have hs : Sep [sl121 (L a5 x2 c5) x18, BX b6 75 [I 0, L a2 x1 c2, L a5 x2 c5, L none ([] : List Int) 0, I 0, L none ([] : List D.Term) 0, I 0, I 0, L none ([] : List D.Term) 0, L none ([] : List Int) 0], sl121 (L a2 x1 c2) rl7, BX b2 75 [I 0, L none ([] : List D.Term) 0, L none ([] : List D.Term) 0, L none ([] : List Int) 0, I 0, L none ([] : List D.Term) 0, I 0, I 0, L none ([] : List D.Term) 0, L none ([] : List Int) 0], BX b1 30 [I p0.W, I p0.Mem, I p0.In, L a1 p0.Code c1]] w34 S41 := hs
                   refine from_end rfl ?_
                   refine blk_normal (then_normal ?_)
                   refine (wp_pure [(1, B b1 0), (2, B b2 0), (3, B b6 0), (27, I (len x2)), (28, I (w64 (s8.1 + 1)))] hF (by kernel_rfl) fun fr hF => then_normal ?_)
                   exact ⟨_, (Option.some.inj h).symm, S41, _, hF.sub _ (by kernel_rfl), hM1, hs⟩
                 replace h := iteF hb h
                 have hs : Sep [sl121 (L a5 x2 c5) s8.2, BX b6 75 [I 0, L a2 x1 c2, L a5 x2 c5, L none ([] : List Int) 0, I 0, L none ([] : List D.Term) 0, I 0, I 0, L none ([] : List D.Term) 0, L none ([] : List Int) 0], sl121 (L a2 x1 c2) rl7, BX b2 75 [I 0, L none ([] : List D.Term) 0, L none ([] : List D.Term) 0, L none ([] : List Int) 0, I 0, L none ([] : List D.Term) 0, I 0, I 0, L none ([] : List D.Term) 0, L none ([] : List Int) 0]] w8i S39 := Sep.pick [0, 1, 2, 3] hs (by decide) rfl
                 refine (wp_exit (then_exit (then_exit (blk_exit_eq ?_))))
                 obtain rfl := hr8 _ (Option.some.inj h).symm
                 exact then_normal ⟨S39, _, hF.sub _ (by kernel_rfl), hM1, hs⟩
               · obtain ⟨S40, F16, hF, hMx, hs⟩ := hM
                 have hM0 := hM0.trans hMx
                 refine wp_seq (wp_text' ?_)
                 refine s_loadBoxS ty75 rfl rfl hF rfl (hs.bx 1 rfl) rfl rfl fun fr hF => ?_
                 have hs : Sep [sl121 (L a5 x2 c5) rl8, sl121 (L a2 x1 c2) rl7, BX b2 75 [I 0, L none ([] : List D.Term) 0, L none ([] : List D.Term) 0, L none ([] : List Int) 0, I 0, L none ([] : List D.Term) 0, I 0, I 0, L none ([] : List D.Term) 0, L none ([] : List Int) 0]] w8o S40 := Sep.pick [0, 2, 3] hs (by decide) rfl
                 refine q_storeBoxS 2 hs hM0 rfl [I 0, L a2 x1 c2, L a5 x2 c5, L none ([] : List Int) 0, I 0, L none ([] : List D.Term) 0, I 0, I 0, L none ([] : List D.Term) 0, L none ([] : List Int) 0] rfl hF rfl rfl (by kernel_rfl) rfl rfl rfl fun w35 S42 hs hp hF => ?_
                 have hM0 := hM0.stp hp
                 have hs : Sep [sl121 (L a5 x2 c5) rl8, sl121 (L a2 x1 c2) rl7, BX b2 75 [I 0, L a2 x1 c2, L a5 x2 c5, L none ([] : List Int) 0, I 0, L none ([] : List D.Term) 0, I 0, I 0, L none ([] : List D.Term) 0, L none ([] : List Int) 0]] w35 S42 := hs
                 refine from_end rfl (then_normal ?_)
                 have hbr := (hs.bx 2 rfl)
                 have hs : Sep [sl3 (L none ([] : List Int) 0) ([] : List Int), sl121 (L a5 x2 c5) rl8, sl121 (L a2 x1 c2) rl7, BX b2 75 [I 0, L a2 x1 c2, L a5 x2 c5, L none ([] : List Int) 0, I 0, L none ([] : List D.Term) 0, I 0, I 0, L none ([] : List D.Term) 0, L none ([] : List Int) 0]] w35 S42 := hs.cons_nil (α := Int) 3
                 have hs : Sep [sl121 (L none ([] : List D.Term) 0) ([] : List D.Term), sl3 (L none ([] : List Int) 0) ([] : List Int), sl121 (L a5 x2 c5) rl8, sl121 (L a2 x1 c2) rl7, BX b2 75 [I 0, L a2 x1 c2, L a5 x2 c5, L none ([] : List Int) 0, I 0, L none ([] : List D.Term) 0, I 0, I 0, L none ([] : List D.Term) 0, L none ([] : List Int) 0]] w35 S42 := hs.cons_nil (α := D.Term) 121
                 have hs : Sep [sl121 (L none ([] : List D.Term) 0) ([] : List D.Term), sl121 (L none ([] : List D.Term) 0) ([] : List D.Term), sl3 (L none ([] : List Int) 0) ([] : List Int), sl121 (L a5 x2 c5) rl8, sl121 (L a2 x1 c2) rl7, BX b2 75 [I 0, L a2 x1 c2, L a5 x2 c5, L none ([] : List Int) 0, I 0, L none ([] : List D.Term) 0, I 0, I 0, L none ([] : List D.Term) 0, L none ([] : List Int) 0]] w35 S42 := hs.cons_nil (α := D.Term) 121
                 have hs : Sep [sl3 (L none ([] : List Int) 0) ([] : List Int), sl121 (L none ([] : List D.Term) 0) ([] : List D.Term), sl121 (L none ([] : List D.Term) 0) ([] : List D.Term), sl3 (L none ([] : List Int) 0) ([] : List Int), sl121 (L a5 x2 c5) rl8, sl121 (L a2 x1 c2) rl7, BX b2 75 [I 0, L a2 x1 c2, L a5 x2 c5, L none ([] : List Int) 0, I 0, L none ([] : List D.Term) 0, I 0, I 0, L none ([] : List D.Term) 0, L none ([] : List Int) 0]] w35 S42 := hs.cons_nil (α := Int) 3
                 obtain rfl := Option.some.inj h
                 have hs : Sep [sl121 (L a2 x1 c2) rl7, sl121 (L a5 x2 c5) rl8, sl3 (L none ([] : List Int) 0) ([] : List Int), sl121 (L none ([] : List D.Term) 0) ([] : List D.Term), sl121 (L none ([] : List D.Term) 0) ([] : List D.Term), sl3 (L none ([] : List Int) 0) ([] : List Int)] w35 S42 := Sep.pick [5, 4, 3, 2, 1, 0] hs (by decide) rfl
                 obtain ⟨he7, hs⟩ := hs.relen 0 rfl
                 have hs : Sep [sl121 (L a2 rl7 c2) rl7, sl121 (L a5 x2 c5) rl8, sl3 (L none ([] : List Int) 0) ([] : List Int), sl121 (L none ([] : List D.Term) 0) ([] : List D.Term), sl121 (L none ([] : List D.Term) 0) ([] : List D.Term), sl3 (L none ([] : List Int) 0) ([] : List Int)] w35 S42 := hs
                 obtain ⟨he8, hs⟩ := hs.relen 1 rfl
                 have hs : Sep [sl121 (L a2 rl7 c2) rl7, sl121 (L a5 rl8 c5) rl8, sl3 (L none ([] : List Int) 0) ([] : List Int), sl121 (L none ([] : List D.Term) 0) ([] : List D.Term), sl121 (L none ([] : List D.Term) 0) ([] : List D.Term), sl3 (L none ([] : List Int) 0) ([] : List Int)] w35 S42 := hs
                 exact wp_ret (retS rfl hF ty75 rfl rfl hbr rfl ⟨_, rfl, a2, c2, a5, c5, none, 0, none, 0, none, 0, none, 0, (by simp only [L, he7, he8]), S42, hM0.out, hs⟩)
 · refine op_of _ rfl rfl ?_
   refine s_loadBox (I p0.Mem) ty3 rfl rfl hF rfl (hs.bx 1 rfl) rfl rfl fun fr hF => ?_
   refine from_end rfl (then_normal ?_)
   refine any_node (fuel := 4) [0, 3, 5] (by kernel_rfl) (by simp) ⟨?_, ?_, ?_, trivial⟩
   · refine op_of _ rfl rfl ?_
     refine q_make hs hM0 Try.underlying73 el121 (zero_flat _ (by kernel_rfl)) rfl rfl hF rfl rfl hx1 fun a6 c6 w36 S43 fr hs hp hF => ?_
     have r1 := r1.stp hM0 hp
     have hM0 := hM0.stp hp
     have hs : Sep [sl121 (L a6 x1 c6) x1, BX b2 75 [I 0, L none ([] : List D.Term) 0, L none ([] : List D.Term) 0, L none ([] : List Int) 0, I 0, L none ([] : List D.Term) 0, I 0, I 0, L none ([] : List D.Term) 0, L none ([] : List Int) 0], BX b1 30 [I p0.W, I p0.Mem, I p0.In, L a1 p0.Code c1]] w36 S43 := hs
     refine from_end rfl (then_normal ?_)
     refine any_node (fuel := 3) [3, 5] (by kernel_rfl) (by simp) ⟨?_, ?_, trivial⟩
     · refine op_of _ rfl rfl ?_
       refine q_make hs hM0 Try.underlying73 el121 (zero_flat _ (by kernel_rfl)) rfl rfl hF rfl rfl hx2 fun a7 c7 w37 S44 fr hs hp hF => ?_
       have r1 := r1.stp hM0 hp
       have hM0 := hM0.stp hp
       have hs : Sep [sl121 (L a7 x2 c7) x2, sl121 (L a6 x1 c6) x1, BX b2 75 [I 0, L none ([] : List D.Term) 0, L none ([] : List D.Term) 0, L none ([] : List Int) 0, I 0, L none ([] : List D.Term) 0, I 0, I 0, L none ([] : List D.Term) 0, L none ([] : List Int) 0], BX b1 30 [I p0.W, I p0.Mem, I p0.In, L a1 p0.Code c1]] w37 S44 := hs
       refine from_end rfl (then_normal ?_)
       refine any_node (fuel := 2) [4, 5] (by kernel_rfl) (by simp) ⟨?_, ?_, trivial⟩
       · refine op_of _ rfl rfl ?_
         refine from_pure 1 [(1, B b1 0), (2, B b2 0), (10, .agg #[I 0, L a6 x1 c6, L a7 x2 c7, L none ([] : List Int) 0, I 0, L none ([] : List D.Term) 0, I 0, I 0, L none ([] : List D.Term) 0, L none ([] : List Int) 0])] hF (by kernel_rfl) fun fr hF => ?_
         refine from_end rfl (then_normal ?_)
         refine any_node (fuel := 1) [5] (by kernel_rfl) (by simp) ⟨?_, trivial⟩
         · refine op_of _ rfl rfl ?_
           refine q_alloc (z := .agg #[I 0, L none ([] : List D.Term) 0, L none ([] : List D.Term) 0, L none ([] : List Int) 0, I 0, L none ([] : List D.Term) 0, I 0, I 0, L none ([] : List D.Term) 0, L none ([] : List Int) 0]) hs hM0 [I 0, L none ([] : List D.Term) 0, L none ([] : List D.Term) 0, L none ([] : List Int) 0, I 0, L none ([] : List D.Term) 0, I 0, I 0, L none ([] : List D.Term) 0, L none ([] : List Int) 0] rfl rfl hF (by kernel_rfl) rfl fun b7 w38 S45 fr hs hp hF => ?_
           have r1 := r1.stp hM0 hp
           have hM0 := hM0.stp hp
           have hs : Sep [BX b7 75 [I 0, L none ([] : List D.Term) 0, L none ([] : List D.Term) 0, L none ([] : List Int) 0, I 0, L none ([] : List D.Term) 0, I 0, I 0, L none ([] : List D.Term) 0, L none ([] : List Int) 0], sl121 (L a7 x2 c7) x2, sl121 (L a6 x1 c6) x1, BX b2 75 [I 0, L none ([] : List D.Term) 0, L none ([] : List D.Term) 0, L none ([] : List Int) 0, I 0, L none ([] : List D.Term) 0, I 0, I 0, L none ([] : List D.Term) 0, L none ([] : List Int) 0], BX b1 30 [I p0.W, I p0.Mem, I p0.In, L a1 p0.Code c1]] w38 S45 := hs
           refine from_end rfl (then_normal ?_)
           refine any_node (fuel := 0) [6] (by kernel_rfl) (by simp) ⟨?_, trivial⟩
           · refine op_of _ rfl rfl ?_
             refine q_storeBoxS 0 hs hM0 rfl [I 0, L a6 x1 c6, L a7 x2 c7, L none ([] : List Int) 0, I 0, L none ([] : List D.Term) 0, I 0, I 0, L none ([] : List D.Term) 0, L none ([] : List Int) 0] rfl hF rfl rfl (by kernel_rfl) rfl rfl rfl fun w39 S46 hs hp hF => ?_
             have r1 := r1.stp hM0 hp
             have hM0 := hM0.stp hp
             have hs : Sep [BX b7 75 [I 0, L a6 x1 c6, L a7 x2 c7, L none ([] : List Int) 0, I 0, L none ([] : List D.Term) 0, I 0, I 0, L none ([] : List D.Term) 0, L none ([] : List Int) 0], sl121 (L a7 x2 c7) x2, sl121 (L a6 x1 c6) x1, BX b2 75 [I 0, L none ([] : List D.Term) 0, L none ([] : List D.Term) 0, L none ([] : List Int) 0, I 0, L none ([] : List D.Term) 0, I 0, I 0, L none ([] : List D.Term) 0, L none ([] : List Int) 0], BX b1 30 [I p0.W, I p0.Mem, I p0.In, L a1 p0.Code c1]] w39 S46 := hs
             refine from_end rfl (then_normal ?_)
             refine any_leaf (by kernel_rfl) (then_normal ?_)
             refine wp_seq ?_
             refine wp_seq (wp_text' ?_)
             refine from_pure 1 [(1, B b1 0), (2, B b2 0), (3, B b7 0), (11, B b7 1)] hF (by kernel_rfl) fun fr hF => ?_
             refine s_loadBox (L a6 x1 c6) ty73 rfl rfl hF rfl (hs.bx 0 rfl) rfl rfl fun fr hF => ?_
             refine from_pure 2 [(1, B b1 0), (2, B b2 0), (3, B b7 0), (13, I (len x1)), (14, I 0)] hF (by kernel_rfl) fun fr hF => ?_
             refine from_end rfl (then_normal ?_)
             obtain ⟨rl9, hit9, h⟩ := bindE h
             have hk9 := h
             refine (GL.wp_cut (M := fun fr w' => ∃ S48 F18, FrS 40 [(1, B b1 0), (2, B b2 0), (3, B b7 0)] fr ∧ Mem w39 S46 (fun k => (G0 k) ∧ k < w.heap.size) w' S48 F18 ∧ Sep [BX b7 75 [I 0, L a6 x1 c6, L a7 x2 c7, L none ([] : List Int) 0, I 0, L none ([] : List D.Term) 0, I 0, I 0, L none ([] : List D.Term) 0, L none ([] : List Int) 0], sl121 (L a7 x2 c7) x2, sl121 (L a6 x1 c6) rl9, BX b2 75 [I 0, L none ([] : List D.Term) 0, L none ([] : List D.Term) 0, L none ([] : List Int) 0, I 0, L none ([] : List D.Term) 0, I 0, I 0, L none ([] : List D.Term) 0, L none ([] : List Int) 0], BX b1 30 [I p0.W, I p0.Mem, I p0.In, L a1 p0.Code c1]] w' S48) (wp_block (wp_iter (Inv := fun s9 fr w' => ∃ S47 F17, FrS 40 [(1, B b1 0), (2, B b2 0), (3, B b7 0), (13, I (len x1)), (14, I s9.1)] fr ∧ Mem w39 S46 (fun k => (G0 k) ∧ k < w.heap.size) w' S47 F17 ∧ Sep [BX b7 75 [I 0, L a6 x1 c6, L a7 x2 c7, L none ([] : List Int) 0, I 0, L none ([] : List D.Term) 0, I 0, I 0, L none ([] : List D.Term) 0, L none ([] : List Int) 0], sl121 (L a7 x2 c7) x2, sl121 (L a6 x1 c6) s9.2, BX b2 75 [I 0, L none ([] : List D.Term) 0, L none ([] : List D.Term) 0, L none ([] : List Int) 0, I 0, L none ([] : List D.Term) 0, I 0, I 0, L none ([] : List D.Term) 0, L none ([] : List Int) 0], BX b1 30 [I p0.W, I p0.Mem, I p0.In, L a1 p0.Code c1]] w' S47) hit9 ⟨S46, _, hF.sub _ (by kernel_rfl), (Mem.start hM0.bd hM0.bdF hM0.dj), hs⟩ fun s9 q9 fr w9i hI h hr9 => ?_)) fun fr w9o hM => ?_)
             · obtain ⟨S47, F17, hF, hM1, hs⟩ := hI
               have r1 := r1.mem hM1
               refine wp_seq (wp_pure [(1, B b1 0), (2, B b2 0), (3, B b7 0), (13, I (len x1)), (14, I s9.1), (15, .bool (decide (s9.1 < (len x1))))] hF (by kernel_rfl) fun fr hF => then_normal ?_)
               refine wp_seq (wp_if hF (b := (decide (s9.1 < (len x1)))) rfl (fun hb => ?_) (fun hb => ?_))
               · replace h := iteT hb h
                 refine (wp_skip (then_normal ?_))
                 refine wp_seq (wp_block ?_)
                 refine wp_seq (wp_pure [(1, B b1 0), (2, B b2 0), (3, B b7 0), (4, I s9.1), (13, I (len x1)), (14, I s9.1)] hF (by kernel_rfl) fun fr hF => then_normal ?_)
                 obtain ⟨x19, hx19, h⟩ := bindE h
                 refine (region_bm 6 [0, 1, 0, 0, 8, 24, 63, 127] [true, false, true, true, false, false]
                     [.eq (B b7 1), .eq (L a6 x1 c6), .eq (I s9.1), .eq (B b1 0), .eq (I p0.W), .eq (.agg #[I x19.Op, I x19.W, I x19.N, Str.val x19.Name, L none ([] : List D.Term) 0]), .any, .any]
                     [(1, B b1 0), (2, B b2 0), (3, B b7 0), (13, I (len x1)), (14, I s9.1), (18, L a6 x1 c6), (19, I s9.1), (22, .agg #[I x19.Op, I x19.W, I x19.N, Str.val x19.Name, L none ([] : List D.Term) 0])] mix hF (by kernel_rfl) (by kernel_rfl) (by kernel_rfl) (by kernel_rfl) ⟨Pd.monoO_eq, Pd.monoO_eq, Pd.monoO_eq, trivial⟩ (fun ow hG => ⟨np_to ow (np_loadBox hG hF ty73 rfl rfl (hs.bx 0 rfl) rfl rfl rfl), np_to ow (np_loadBox hG hF ty3 rfl rfl (hs.bx 4 rfl) rfl rfl rfl), np_to ow (np_call [I p0.W, I 0] hG hF Try.call129 rfl rfl (fun w hC hg => (impl_ConstTerm_ok p0.W 0 hx19).mono fun e w' ⟨v, he, hv, hc⟩ => ⟨v, he, hc, hv⟩)), trivial⟩) (by kernel_rfl) fun ow fr w40 hF hE hc => ?_)
                 have r1 := r1.ext hc
                 have hs := hs.ext hc
                 have hM1 := hM1.ext hc
                 obtain ⟨x20, hx20, h⟩ := bindE h
                 refine q_set (q := x19) 2 hs hM1 rfl Try.underlying73 ty121 rfl rfl rfl rfl hF rfl rfl (by simp) rfl rfl hx20 fun w41 S49 fr _ hs hp hF => ?_
                 have r1 := r1.stp hM1 hp
                 have hM1 := hM1.stp hp
                 have hs : Sep [BX b7 75 [I 0, L a6 x1 c6, L a7 x2 c7, L none ([] : List Int) 0, I 0, L none ([] : List D.Term) 0, I 0, I 0, L none ([] : List D.Term) 0, L none ([] : List Int) 0], sl121 (L a7 x2 c7) x2, sl121 (L a6 x1 c6) x20, BX b2 75 [I 0, L none ([] : List D.Term) 0, L none ([] : List D.Term) 0, L none ([] : List Int) 0, I 0, L none ([] : List D.Term) 0, I 0, I 0, L none ([] : List D.Term) 0, L none ([] : List Int) 0], BX b1 30 [I p0.W, I p0.Mem, I p0.In, L a1 p0.Code c1]] w41 S49 := hs
                 refine from_end rfl ?_
                 refine blk_normal (then_normal ?_)
                 refine (wp_pure [(1, B b1 0), (2, B b2 0), (3, B b7 0), (13, I (len x1)), (14, I (w64 (s9.1 + 1)))] hF (by kernel_rfl) fun fr hF => then_normal ?_)
                 exact ⟨_, (Option.some.inj h).symm, S49, _, hF.sub _ (by kernel_rfl), hM1, hs⟩
               replace h := iteF hb h
               refine (wp_exit (then_exit (then_exit (blk_exit_eq ?_))))
               obtain rfl := hr9 _ (Option.some.inj h).symm
               exact then_normal ⟨S47, _, hF.sub _ (by kernel_rfl), hM1, hs⟩
             · obtain ⟨S48, F18, hF, hMx, hs⟩ := hM
               have r1 := r1.mem hMx
               have hM0 := hM0.trans hMx
               refine wp_seq ?_
               refine wp_seq (wp_text' ?_)
               refine from_pure 1 [(1, B b1 0), (2, B b2 0), (3, B b7 0), (25, B b7 2)] hF (by kernel_rfl) fun fr hF => ?_
               refine s_loadBox (L a7 x2 c7) ty73 rfl rfl hF rfl (hs.bx 0 rfl) rfl rfl fun fr hF => ?_
               refine from_pure 2 [(1, B b1 0), (2, B b2 0), (3, B b7 0), (27, I (len x2)), (28, I 0)] hF (by kernel_rfl) fun fr hF => ?_
               refine from_end rfl (then_normal ?_)
               obtain ⟨rl10, hit10, h⟩ := bindE h
               have hk10 := h
               refine (GL.wp_cut (M := fun fr w' => ∃ S51 F20, FrS 40 [(2, B b2 0), (3, B b7 0)] fr ∧ Mem w9o S48 F18 w' S51 F20 ∧ Sep [BX b7 75 [I 0, L a6 x1 c6, L a7 x2 c7, L none ([] : List Int) 0, I 0, L none ([] : List D.Term) 0, I 0, I 0, L none ([] : List D.Term) 0, L none ([] : List Int) 0], sl121 (L a7 x2 c7) rl10, sl121 (L a6 x1 c6) rl9, BX b2 75 [I 0, L none ([] : List D.Term) 0, L none ([] : List D.Term) 0, L none ([] : List Int) 0, I 0, L none ([] : List D.Term) 0, I 0, I 0, L none ([] : List D.Term) 0, L none ([] : List Int) 0]] w' S51) (wp_block (wp_iter (Inv := fun s10 fr w' => ∃ S50 F19, FrS 40 [(1, B b1 0), (2, B b2 0), (3, B b7 0), (27, I (len x2)), (28, I s10.1)] fr ∧ Mem w9o S48 F18 w' S50 F19 ∧ Sep [BX b7 75 [I 0, L a6 x1 c6, L a7 x2 c7, L none ([] : List Int) 0, I 0, L none ([] : List D.Term) 0, I 0, I 0, L none ([] : List D.Term) 0, L none ([] : List Int) 0], sl121 (L a7 x2 c7) s10.2, sl121 (L a6 x1 c6) rl9, BX b2 75 [I 0, L none ([] : List D.Term) 0, L none ([] : List D.Term) 0, L none ([] : List Int) 0, I 0, L none ([] : List D.Term) 0, I 0, I 0, L none ([] : List D.Term) 0, L none ([] : List Int) 0], BX b1 30 [I p0.W, I p0.Mem, I p0.In, L a1 p0.Code c1]] w' S50) hit10 ⟨S48, _, hF.sub _ (by kernel_rfl), (Mem.start hM0.bd hM0.bdF hM0.dj), hs⟩ fun s10 q10 fr w10i hI h hr10 => ?_)) fun fr w10o hM => ?_)
               · obtain ⟨S50, F19, hF, hM1, hs⟩ := hI
                 have r1 := r1.mem hM1
                 refine wp_seq (wp_pure [(1, B b1 0), (2, B b2 0), (3, B b7 0), (27, I (len x2)), (28, I s10.1), (29, .bool (decide (s10.1 < (len x2))))] hF (by kernel_rfl) fun fr hF => then_normal ?_)
                 refine wp_seq (wp_if hF (b := (decide (s10.1 < (len x2)))) rfl (fun hb => ?_) (fun hb => ?_))
                 · replace h := iteT hb h
                   refine (wp_skip (then_normal ?_))
                   refine wp_seq (wp_block ?_)
                   refine wp_seq (wp_pure [(1, B b1 0), (2, B b2 0), (3, B b7 0), (5, I s10.1), (27, I (len x2)), (28, I s10.1)] hF (by kernel_rfl) fun fr hF => then_normal ?_)
                   obtain ⟨x21, hx21, h⟩ := bindE h
                   refine (region_bm 6 [0, 1, 0, 0, 8, 24, 63, 127] [true, false, true, true, false, false]
                       [.eq (B b7 2), .eq (L a7 x2 c7), .eq (I s10.1), .eq (B b1 0), .eq (I p0.W), .eq (.agg #[I x21.Op, I x21.W, I x21.N, Str.val x21.Name, L none ([] : List D.Term) 0]), .any, .any]
                       [(1, B b1 0), (2, B b2 0), (3, B b7 0), (27, I (len x2)), (28, I s10.1), (32, L a7 x2 c7), (33, I s10.1), (36, .agg #[I x21.Op, I x21.W, I x21.N, Str.val x21.Name, L none ([] : List D.Term) 0])] mix hF (by kernel_rfl) (by kernel_rfl) (by kernel_rfl) (by kernel_rfl) ⟨Pd.monoO_eq, Pd.monoO_eq, Pd.monoO_eq, trivial⟩ (fun ow hG => ⟨np_to ow (np_loadBox hG hF ty73 rfl rfl (hs.bx 0 rfl) rfl rfl rfl), np_to ow (np_loadBox hG hF ty3 rfl rfl (hs.bx 4 rfl) rfl rfl rfl), np_to ow (np_call [I p0.W, I 0] hG hF Try.call129 rfl rfl (fun w hC hg => (impl_ConstTerm_ok p0.W 0 hx21).mono fun e w' ⟨v, he, hv, hc⟩ => ⟨v, he, hc, hv⟩)), trivial⟩) (by kernel_rfl) fun ow fr w42 hF hE hc => ?_)
                   have r1 := r1.ext hc
                   have hs := hs.ext hc
                   have hM1 := hM1.ext hc
                   obtain ⟨x22, hx22, h⟩ := bindE h
                   refine q_set (q := x21) 1 hs hM1 rfl Try.underlying73 ty121 rfl rfl rfl rfl hF rfl rfl (by simp) rfl rfl hx22 fun w43 S52 fr _ hs hp hF => ?_
                   have r1 := r1.stp hM1 hp
                   have hM1 := hM1.stp hp
                   have hs : Sep [BX b7 75 [I 0, L a6 x1 c6, L a7 x2 c7, L none ([] : List Int) 0, I 0, L none ([] : List D.Term) 0, I 0, I 0, L none ([] : List D.Term) 0, L none ([] : List Int) 0], sl121 (L a7 x2 c7) x22, sl121 (L a6 x1 c6) rl9, BX b2 75 [I 0, L none ([] : List D.Term) 0, L none ([] : List D.Term) 0, L none ([] : List Int) 0, I 0, L none ([] : List D.Term) 0, I 0, I 0, L none ([] : List D.Term) 0, L none ([] : List Int) 0], BX b1 30 [I p0.W, I p0.Mem, I p0.In, L a1 p0.Code c1]] w43 S52 := hs
                   refine from_end rfl ?_
                   refine blk_normal (then_normal ?_)
                   refine (wp_pure [(1, B b1 0), (2, B b2 0), (3, B b7 0), (27, I (len x2)), (28, I (w64 (s10.1 + 1)))] hF (by kernel_rfl) fun fr hF => then_normal ?_)
                   exact ⟨_, (Option.some.inj h).symm, S52, _, hF.sub _ (by kernel_rfl), hM1, hs⟩
                 replace h := iteF hb h
                 have hs : Sep [BX b7 75 [I 0, L a6 x1 c6, L a7 x2 c7, L none ([] : List Int) 0, I 0, L none ([] : List D.Term) 0, I 0, I 0, L none ([] : List D.Term) 0, L none ([] : List Int) 0], sl121 (L a7 x2 c7) s10.2, sl121 (L a6 x1 c6) rl9, BX b2 75 [I 0, L none ([] : List D.Term) 0, L none ([] : List D.Term) 0, L none ([] : List Int) 0, I 0, L none ([] : List D.Term) 0, I 0, I 0, L none ([] : List D.Term) 0, L none ([] : List Int) 0]] w10i S50 := Sep.pick [0, 1, 2, 3] hs (by decide) rfl
                 refine (wp_exit (then_exit (then_exit (blk_exit_eq ?_))))
                 obtain rfl := hr10 _ (Option.some.inj h).symm
                 exact then_normal ⟨S50, _, hF.sub _ (by kernel_rfl), hM1, hs⟩
               · obtain ⟨S51, F20, hF, hMx, hs⟩ := hM
                 have hM0 := hM0.trans hMx
                 refine wp_seq (wp_text' ?_)
                 refine s_loadBoxS ty75 rfl rfl hF rfl (hs.bx 0 rfl) rfl rfl fun fr hF => ?_
                 have hs : Sep [sl121 (L a7 x2 c7) rl10, sl121 (L a6 x1 c6) rl9, BX b2 75 [I 0, L none ([] : List D.Term) 0, L none ([] : List D.Term) 0, L none ([] : List Int) 0, I 0, L none ([] : List D.Term) 0, I 0, I 0, L none ([] : List D.Term) 0, L none ([] : List Int) 0]] w10o S51 := Sep.pick [1, 2, 3] hs (by decide) rfl
                 refine q_storeBoxS 2 hs hM0 rfl [I 0, L a6 x1 c6, L a7 x2 c7, L none ([] : List Int) 0, I 0, L none ([] : List D.Term) 0, I 0, I 0, L none ([] : List D.Term) 0, L none ([] : List Int) 0] rfl hF rfl rfl (by kernel_rfl) rfl rfl rfl fun w44 S53 hs hp hF => ?_
                 have hM0 := hM0.stp hp
                 have hs : Sep [sl121 (L a7 x2 c7) rl10, sl121 (L a6 x1 c6) rl9, BX b2 75 [I 0, L a6 x1 c6, L a7 x2 c7, L none ([] : List Int) 0, I 0, L none ([] : List D.Term) 0, I 0, I 0, L none ([] : List D.Term) 0, L none ([] : List Int) 0]] w44 S53 := hs
                 refine from_end rfl (then_normal ?_)
                 have hbr := (hs.bx 2 rfl)
                 have hs : Sep [sl3 (L none ([] : List Int) 0) ([] : List Int), sl121 (L a7 x2 c7) rl10, sl121 (L a6 x1 c6) rl9, BX b2 75 [I 0, L a6 x1 c6, L a7 x2 c7, L none ([] : List Int) 0, I 0, L none ([] : List D.Term) 0, I 0, I 0, L none ([] : List D.Term) 0, L none ([] : List Int) 0]] w44 S53 := hs.cons_nil (α := Int) 3
                 have hs : Sep [sl121 (L none ([] : List D.Term) 0) ([] : List D.Term), sl3 (L none ([] : List Int) 0) ([] : List Int), sl121 (L a7 x2 c7) rl10, sl121 (L a6 x1 c6) rl9, BX b2 75 [I 0, L a6 x1 c6, L a7 x2 c7, L none ([] : List Int) 0, I 0, L none ([] : List D.Term) 0, I 0, I 0, L none ([] : List D.Term) 0, L none ([] : List Int) 0]] w44 S53 := hs.cons_nil (α := D.Term) 121
                 have hs : Sep [sl121 (L none ([] : List D.Term) 0) ([] : List D.Term), sl121 (L none ([] : List D.Term) 0) ([] : List D.Term), sl3 (L none ([] : List Int) 0) ([] : List Int), sl121 (L a7 x2 c7) rl10, sl121 (L a6 x1 c6) rl9, BX b2 75 [I 0, L a6 x1 c6, L a7 x2 c7, L none ([] : List Int) 0, I 0, L none ([] : List D.Term) 0, I 0, I 0, L none ([] : List D.Term) 0, L none ([] : List Int) 0]] w44 S53 := hs.cons_nil (α := D.Term) 121
                 have hs : Sep [sl3 (L none ([] : List Int) 0) ([] : List Int), sl121 (L none ([] : List D.Term) 0) ([] : List D.Term), sl121 (L none ([] : List D.Term) 0) ([] : List D.Term), sl3 (L none ([] : List Int) 0) ([] : List Int), sl121 (L a7 x2 c7) rl10, sl121 (L a6 x1 c6) rl9, BX b2 75 [I 0, L a6 x1 c6, L a7 x2 c7, L none ([] : List Int) 0, I 0, L none ([] : List D.Term) 0, I 0, I 0, L none ([] : List D.Term) 0, L none ([] : List Int) 0]] w44 S53 := hs.cons_nil (α := Int) 3
                 obtain rfl := Option.some.inj h
                 have hs : Sep [sl121 (L a6 x1 c6) rl9, sl121 (L a7 x2 c7) rl10, sl3 (L none ([] : List Int) 0) ([] : List Int), sl121 (L none ([] : List D.Term) 0) ([] : List D.Term), sl121 (L none ([] : List D.Term) 0) ([] : List D.Term), sl3 (L none ([] : List Int) 0) ([] : List Int)] w44 S53 := Sep.pick [5, 4, 3, 2, 1, 0] hs (by decide) rfl
                 obtain ⟨he9, hs⟩ := hs.relen 0 rfl
                 have hs : Sep [sl121 (L a6 rl9 c6) rl9, sl121 (L a7 x2 c7) rl10, sl3 (L none ([] : List Int) 0) ([] : List Int), sl121 (L none ([] : List D.Term) 0) ([] : List D.Term), sl121 (L none ([] : List D.Term) 0) ([] : List D.Term), sl3 (L none ([] : List Int) 0) ([] : List Int)] w44 S53 := hs
                 obtain ⟨he10, hs⟩ := hs.relen 1 rfl
                 have hs : Sep [sl121 (L a6 rl9 c6) rl9, sl121 (L a7 rl10 c7) rl10, sl3 (L none ([] : List Int) 0) ([] : List Int), sl121 (L none ([] : List D.Term) 0) ([] : List D.Term), sl121 (L none ([] : List D.Term) 0) ([] : List D.Term), sl3 (L none ([] : List Int) 0) ([] : List Int)] w44 S53 := hs
                 exact wp_ret (retS rfl hF ty75 rfl rfl hbr rfl ⟨_, rfl, a6, c6, a7, c7, none, 0, none, 0, none, 0, none, 0, (by simp only [L, he9, he10]), S53, hM0.out, hs⟩)
       · refine op_of _ rfl rfl ?_
         refine q_alloc (z := .agg #[I 0, L none ([] : List D.Term) 0, L none ([] : List D.Term) 0, L none ([] : List Int) 0, I 0, L none ([] : List D.Term) 0, I 0, I 0, L none ([] : List D.Term) 0, L none ([] : List Int) 0]) hs hM0 [I 0, L none ([] : List D.Term) 0, L none ([] : List D.Term) 0, L none ([] : List Int) 0, I 0, L none ([] : List D.Term) 0, I 0, I 0, L none ([] : List D.Term) 0, L none ([] : List Int) 0] rfl rfl hF (by kernel_rfl) rfl fun b8 w45 S54 fr hs hp hF => ?_
         have r1 := r1.stp hM0 hp
         have hM0 := hM0.stp hp
         have hs : Sep [BX b8 75 [I 0, L none ([] : List D.Term) 0, L none ([] : List D.Term) 0, L none ([] : List Int) 0, I 0, L none ([] : List D.Term) 0, I 0, I 0, L none ([] : List D.Term) 0, L none ([] : List Int) 0], sl121 (L a7 x2 c7) x2, sl121 (L a6 x1 c6) x1, BX b2 75 [I 0, L none ([] : List D.Term) 0, L none ([] : List D.Term) 0, L none ([] : List Int) 0, I 0, L none ([] : List D.Term) 0, I 0, I 0, L none ([] : List D.Term) 0, L none ([] : List Int) 0], BX b1 30 [I p0.W, I p0.Mem, I p0.In, L a1 p0.Code c1]] w45 S54 := hs
         refine from_end rfl (then_normal ?_)
         refine any_node (fuel := 1) [4] (by kernel_rfl) (by simp) ⟨?_, trivial⟩
         · refine op_of _ rfl rfl ?_
           refine from_pure 1 [(1, B b1 0), (2, B b2 0), (3, B b8 0), (10, .agg #[I 0, L a6 x1 c6, L a7 x2 c7, L none ([] : List Int) 0, I 0, L none ([] : List D.Term) 0, I 0, I 0, L none ([] : List D.Term) 0, L none ([] : List Int) 0])] hF (by kernel_rfl) fun fr hF => ?_
           refine from_end rfl (then_normal ?_)
           refine any_node (fuel := 0) [6] (by kernel_rfl) (by simp) ⟨?_, trivial⟩
           · refine op_of _ rfl rfl ?_
             refine q_storeBoxS 0 hs hM0 rfl [I 0, L a6 x1 c6, L a7 x2 c7, L none ([] : List Int) 0, I 0, L none ([] : List D.Term) 0, I 0, I 0, L none ([] : List D.Term) 0, L none ([] : List Int) 0] rfl hF rfl rfl (by kernel_rfl) rfl rfl rfl fun w46 S55 hs hp hF => ?_
             have r1 := r1.stp hM0 hp
             have hM0 := hM0.stp hp
             have hs : Sep [BX b8 75 [I 0, L a6 x1 c6, L a7 x2 c7, L none ([] : List Int) 0, I 0, L none ([] : List D.Term) 0, I 0, I 0, L none ([] : List D.Term) 0, L none ([] : List Int) 0], sl121 (L a7 x2 c7) x2, sl121 (L a6 x1 c6) x1, BX b2 75 [I 0, L none ([] : List D.Term) 0, L none ([] : List D.Term) 0, L none ([] : List Int) 0, I 0, L none ([] : List D.Term) 0, I 0, I 0, L none ([] : List D.Term) 0, L none ([] : List Int) 0], BX b1 30 [I p0.W, I p0.Mem, I p0.In, L a1 p0.Code c1]] w46 S55 := hs
             refine from_end rfl (then_normal ?_)
             refine any_leaf (by kernel_rfl) (then_normal ?_)
             refine wp_seq ?_
             refine wp_seq (wp_text' ?_)
             refine from_pure 1 [(1, B b1 0), (2, B b2 0), (3, B b8 0), (11, B b8 1)] hF (by kernel_rfl) fun fr hF => ?_
             refine s_loadBox (L a6 x1 c6) ty73 rfl rfl hF rfl (hs.bx 0 rfl) rfl rfl fun fr hF => ?_
             refine from_pure 2 [(1, B b1 0), (2, B b2 0), (3, B b8 0), (13, I (len x1)), (14, I 0)] hF (by kernel_rfl) fun fr hF => ?_
             refine from_end rfl (then_normal ?_)
             obtain ⟨rl11, hit11, h⟩ := bindE h
             have hk11 := h
             refine (GL.wp_cut (M := fun fr w' => ∃ S57 F22, FrS 40 [(1, B b1 0), (2, B b2 0), (3, B b8 0)] fr ∧ Mem w46 S55 (fun k => (G0 k) ∧ k < w.heap.size) w' S57 F22 ∧ Sep [BX b8 75 [I 0, L a6 x1 c6, L a7 x2 c7, L none ([] : List Int) 0, I 0, L none ([] : List D.Term) 0, I 0, I 0, L none ([] : List D.Term) 0, L none ([] : List Int) 0], sl121 (L a7 x2 c7) x2, sl121 (L a6 x1 c6) rl11, BX b2 75 [I 0, L none ([] : List D.Term) 0, L none ([] : List D.Term) 0, L none ([] : List Int) 0, I 0, L none ([] : List D.Term) 0, I 0, I 0, L none ([] : List D.Term) 0, L none ([] : List Int) 0], BX b1 30 [I p0.W, I p0.Mem, I p0.In, L a1 p0.Code c1]] w' S57) (wp_block (wp_iter (Inv := fun s11 fr w' => ∃ S56 F21, FrS 40 [(1, B b1 0), (2, B b2 0), (3, B b8 0), (13, I (len x1)), (14, I s11.1)] fr ∧ Mem w46 S55 (fun k => (G0 k) ∧ k < w.heap.size) w' S56 F21 ∧ Sep [BX b8 75 [I 0, L a6 x1 c6, L a7 x2 c7, L none ([] : List Int) 0, I 0, L none ([] : List D.Term) 0, I 0, I 0, L none ([] : List D.Term) 0, L none ([] : List Int) 0], sl121 (L a7 x2 c7) x2, sl121 (L a6 x1 c6) s11.2, BX b2 75 [I 0, L none ([] : List D.Term) 0, L none ([] : List D.Term) 0, L none ([] : List Int) 0, I 0, L none ([] : List D.Term) 0, I 0, I 0, L none ([] : List D.Term) 0, L none ([] : List Int) 0], BX b1 30 [I p0.W, I p0.Mem, I p0.In, L a1 p0.Code c1]] w' S56) hit11 ⟨S55, _, hF.sub _ (by kernel_rfl), (Mem.start hM0.bd hM0.bdF hM0.dj), hs⟩ fun s11 q11 fr w11i hI h hr11 => ?_)) fun fr w11o hM => ?_)
             · obtain ⟨S56, F21, hF, hM1, hs⟩ := hI
               have r1 := r1.mem hM1
               refine wp_seq (wp_pure [(1, B b1 0), (2, B b2 0), (3, B b8 0), (13, I (len x1)), (14, I s11.1), (15, .bool (decide (s11.1 < (len x1))))] hF (by kernel_rfl) fun fr hF => then_normal ?_)
               refine wp_seq (wp_if hF (b := (decide (s11.1 < (len x1)))) rfl (fun hb => ?_) (fun hb => ?_))
               · replace h := iteT hb h
                 refine (wp_skip (then_normal ?_))
                 refine wp_seq (wp_block ?_)
                 refine wp_seq (wp_pure [(1, B b1 0), (2, B b2 0), (3, B b8 0), (4, I s11.1), (13, I (len x1)), (14, I s11.1)] hF (by kernel_rfl) fun fr hF => then_normal ?_)
                 obtain ⟨x23, hx23, h⟩ := bindE h
                 refine (region_bm 6 [0, 1, 0, 0, 8, 24, 63, 127] [true, false, true, true, false, false]
                     [.eq (B b8 1), .eq (L a6 x1 c6), .eq (I s11.1), .eq (B b1 0), .eq (I p0.W), .eq (.agg #[I x23.Op, I x23.W, I x23.N, Str.val x23.Name, L none ([] : List D.Term) 0]), .any, .any]
                     [(1, B b1 0), (2, B b2 0), (3, B b8 0), (13, I (len x1)), (14, I s11.1), (18, L a6 x1 c6), (19, I s11.1), (22, .agg #[I x23.Op, I x23.W, I x23.N, Str.val x23.Name, L none ([] : List D.Term) 0])] mix hF (by kernel_rfl) (by kernel_rfl) (by kernel_rfl) (by kernel_rfl) ⟨Pd.monoO_eq, Pd.monoO_eq, Pd.monoO_eq, trivial⟩ (fun ow hG => ⟨np_to ow (np_loadBox hG hF ty73 rfl rfl (hs.bx 0 rfl) rfl rfl rfl), np_to ow (np_loadBox hG hF ty3 rfl rfl (hs.bx 4 rfl) rfl rfl rfl), np_to ow (np_call [I p0.W, I 0] hG hF Try.call129 rfl rfl (fun w hC hg => (impl_ConstTerm_ok p0.W 0 hx23).mono fun e w' ⟨v, he, hv, hc⟩ => ⟨v, he, hc, hv⟩)), trivial⟩) (by kernel_rfl) fun ow fr w47 hF hE hc => ?_)
                 have r1 := r1.ext hc
                 have hs := hs.ext hc
                 have hM1 := hM1.ext hc
                 obtain ⟨x24, hx24, h⟩ := bindE h
                 refine q_set (q := x23) 2 hs hM1 rfl Try.underlying73 ty121 rfl rfl rfl rfl hF rfl rfl (by simp) rfl rfl hx24 fun w48 S58 fr _ hs hp hF => ?_
                 have r1 := r1.stp hM1 hp
                 have hM1 := hM1.stp hp
                 have hs : Sep [BX b8 75 [I 0, L a6 x1 c6, L a7 x2 c7, L none ([] : List Int) 0, I 0, L none ([] : List D.Term) 0, I 0, I 0, L none ([] : List D.Term) 0, L none ([] : List Int) 0], sl121 (L a7 x2 c7) x2, sl121 (L a6 x1 c6) x24, BX b2 75 [I 0, L none ([] : List D.Term) 0, L none ([] : List D.Term) 0, L none ([] : List Int) 0, I 0, L none ([] : List D.Term) 0, I 0, I 0, L none ([] : List D.Term) 0, L none ([] : List Int) 0], BX b1 30 [I p0.W, I p0.Mem, I p0.In, L a1 p0.Code c1]] w48 S58 := hs
                 refine from_end rfl ?_
                 refine blk_normal (then_normal ?_)
                 refine (wp_pure [(1, B b1 0), (2, B b2 0), (3, B b8 0), (13, I (len x1)), (14, I (w64 (s11.1 + 1)))] hF (by kernel_rfl) fun fr hF => then_normal ?_)
                 exact ⟨_, (Option.some.inj h).symm, S58, _, hF.sub _ (by kernel_rfl), hM1, hs⟩
               replace h := iteF hb h
               refine (wp_exit (then_exit (then_exit (blk_exit_eq ?_))))
               obtain rfl := hr11 _ (Option.some.inj h).symm
               exact then_normal ⟨S56, _, hF.sub _ (by kernel_rfl), hM1, hs⟩
             · obtain ⟨S57, F22, hF, hMx, hs⟩ := hM
               have r1 := r1.mem hMx
               have hM0 := hM0.trans hMx
               refine wp_seq ?_
               refine wp_seq (wp_text' ?_)
               refine from_pure 1 [(1, B b1 0), (2, B b2 0), (3, B b8 0), (25, B b8 2)] hF (by kernel_rfl) fun fr hF => ?_
               refine s_loadBox (L a7 x2 c7) ty73 rfl rfl hF rfl (hs.bx 0 rfl) rfl rfl fun fr hF => ?_
               refine from_pure 2 [(1, B b1 0), (2, B b2 0), (3, B b8 0), (27, I (len x2)), (28, I 0)] hF (by kernel_rfl) fun fr hF => ?_
               refine from_end rfl (then_normal ?_)
               obtain ⟨rl12, hit12, h⟩ := bindE h
               have hk12 := h
               refine (GL.wp_cut (M := fun fr w' => ∃ S60 F24, FrS 40 [(2, B b2 0), (3, B b8 0)] fr ∧ Mem w11o S57 F22 w' S60 F24 ∧ Sep [BX b8 75 [I 0, L a6 x1 c6, L a7 x2 c7, L none ([] : List Int) 0, I 0, L none ([] : List D.Term) 0, I 0, I 0, L none ([] : List D.Term) 0, L none ([] : List Int) 0], sl121 (L a7 x2 c7) rl12, sl121 (L a6 x1 c6) rl11, BX b2 75 [I 0, L none ([] : List D.Term) 0, L none ([] : List D.Term) 0, L none ([] : List Int) 0, I 0, L none ([] : List D.Term) 0, I 0, I 0, L none ([] : List D.Term) 0, L none ([] : List Int) 0]] w' S60) (wp_block (wp_iter (Inv := fun s12 fr w' => ∃ S59 F23, FrS 40 [(1, B b1 0), (2, B b2 0), (3, B b8 0), (27, I (len x2)), (28, I s12.1)] fr ∧ Mem w11o S57 F22 w' S59 F23 ∧ Sep [BX b8 75 [I 0, L a6 x1 c6, L a7 x2 c7, L none ([] : List Int) 0, I 0, L none ([] : List D.Term) 0, I 0, I 0, L none ([] : List D.Term) 0, L none ([] : List Int) 0], sl121 (L a7 x2 c7) s12.2, sl121 (L a6 x1 c6) rl11, BX b2 75 [I 0, L none ([] : List D.Term) 0, L none ([] : List D.Term) 0, L none ([] : List Int) 0, I 0, L none ([] : List D.Term) 0, I 0, I 0, L none ([] : List D.Term) 0, L none ([] : List Int) 0], BX b1 30 [I p0.W, I p0.Mem, I p0.In, L a1 p0.Code c1]] w' S59) hit12 ⟨S57, _, hF.sub _ (by kernel_rfl), (Mem.start hM0.bd hM0.bdF hM0.dj), hs⟩ fun s12 q12 fr w12i hI h hr12 => ?_)) fun fr w12o hM => ?_)
               · obtain ⟨S59, F23, hF, hM1, hs⟩ := hI
                 have r1 := r1.mem hM1
                 refine wp_seq (wp_pure [(1, B b1 0), (2, B b2 0), (3, B b8 0), (27, I (len x2)), (28, I s12.1), (29, .bool (decide (s12.1 < (len x2))))] hF (by kernel_rfl) fun fr hF => then_normal ?_)
                 refine wp_seq (wp_if hF (b := (decide (s12.1 < (len x2)))) rfl (fun hb => ?_) (fun hb => ?_))
                 · replace h := iteT hb h
                   refine (wp_skip (then_normal ?_))
                   refine wp_seq (wp_block ?_)
                   refine wp_seq (wp_pure [(1, B b1 0), (2, B b2 0), (3, B b8 0), (5, I s12.1), (27, I (len x2)), (28, I s12.1)] hF (by kernel_rfl) fun fr hF => then_normal ?_)
                   obtain ⟨x25, hx25, h⟩ := bindE h
                   refine (region_bm 6 [0, 1, 0, 0, 8, 24, 63, 127] [true, false, true, true, false, false]
                       [.eq (B b8 2), .eq (L a7 x2 c7), .eq (I s12.1), .eq (B b1 0), .eq (I p0.W), .eq (.agg #[I x25.Op, I x25.W, I x25.N, Str.val x25.Name, L none ([] : List D.Term) 0]), .any, .any]
                       [(1, B b1 0), (2, B b2 0), (3, B b8 0), (27, I (len x2)), (28, I s12.1), (32, L a7 x2 c7), (33, I s12.1), (36, .agg #[I x25.Op, I x25.W, I x25.N, Str.val x25.Name, L none ([] : List D.Term) 0])] mix hF (by kernel_rfl) (by kernel_rfl) (by kernel_rfl) (by kernel_rfl) ⟨Pd.monoO_eq, Pd.monoO_eq, Pd.monoO_eq, trivial⟩ (fun ow hG => ⟨np_to ow (np_loadBox hG hF ty73 rfl rfl (hs.bx 0 rfl) rfl rfl rfl), np_to ow (np_loadBox hG hF ty3 rfl rfl (hs.bx 4 rfl) rfl rfl rfl), np_to ow (np_call [I p0.W, I 0] hG hF Try.call129 rfl rfl (fun w hC hg => (impl_ConstTerm_ok p0.W 0 hx25).mono fun e w' ⟨v, he, hv, hc⟩ => ⟨v, he, hc, hv⟩)), trivial⟩) (by kernel_rfl) fun ow fr w49 hF hE hc => ?_)
                   have r1 := r1.ext hc
                   have hs := hs.ext hc
                   have hM1 := hM1.ext hc
                   obtain ⟨x26, hx26, h⟩ := bindE h
                   refine q_set (q := x25) 1 hs hM1 rfl Try.underlying73 ty121 rfl rfl rfl rfl hF rfl rfl (by simp) rfl rfl hx26 fun w50 S61 fr _ hs hp hF => ?_
                   have r1 := r1.stp hM1 hp
                   have hM1 := hM1.stp hp
                   have hs : Sep [BX b8 75 [I 0, L a6 x1 c6, L a7 x2 c7, L none ([] : List Int) 0, I 0, L none ([] : List D.Term) 0, I 0, I 0, L none ([] : List D.Term) 0, L none ([] : List Int) 0], sl121 (L a7 x2 c7) x26, sl121 (L a6 x1 c6) rl11, BX b2 75 [I 0, L none ([] : List D.Term) 0, L none ([] : List D.Term) 0, L none ([] : List Int) 0, I 0, L none ([] : List D.Term) 0, I 0, I 0, L none ([] : List D.Term) 0, L none ([] : List Int) 0], BX b1 30 [I p0.W, I p0.Mem, I p0.In, L a1 p0.Code c1]] w50 S61 := hs
                   refine from_end rfl ?_
                   refine blk_normal (then_normal ?_)
                   refine (wp_pure [(1, B b1 0), (2, B b2 0), (3, B b8 0), (27, I (len x2)), (28, I (w64 (s12.1 + 1)))] hF (by kernel_rfl) fun fr hF => then_normal ?_)
                   exact ⟨_, (Option.some.inj h).symm, S61, _, hF.sub _ (by kernel_rfl), hM1, hs⟩
                 replace h := iteF hb h
                 have hs : Sep [BX b8 75 [I 0, L a6 x1 c6, L a7 x2 c7, L none ([] : List Int) 0, I 0, L none ([] : List D.Term) 0, I 0, I 0, L none ([] : List D.Term) 0, L none ([] : List Int) 0], sl121 (L a7 x2 c7) s12.2, sl121 (L a6 x1 c6) rl11, BX b2 75 [I 0, L none ([] : List D.Term) 0, L none ([] : List D.Term) 0, L none ([] : List Int) 0, I 0, L none ([] : List D.Term) 0, I 0, I 0, L none ([] : List D.Term) 0, L none ([] : List Int) 0]] w12i S59 := Sep.pick [0, 1, 2, 3] hs (by decide) rfl
                 refine (wp_exit (then_exit (then_exit (blk_exit_eq ?_))))
                 obtain rfl := hr12 _ (Option.some.inj h).symm
                 exact then_normal ⟨S59, _, hF.sub _ (by kernel_rfl), hM1, hs⟩
               · obtain ⟨S60, F24, hF, hMx, hs⟩ := hM
                 have hM0 := hM0.trans hMx
                 refine wp_seq (wp_text' ?_)
                 refine s_loadBoxS ty75 rfl rfl hF rfl (hs.bx 0 rfl) rfl rfl fun fr hF => ?_
                 have hs : Sep [sl121 (L a7 x2 c7) rl12, sl121 (L a6 x1 c6) rl11, BX b2 75 [I 0, L none ([] : List D.Term) 0, L none ([] : List D.Term) 0, L none ([] : List Int) 0, I 0, L none ([] : List D.Term) 0, I 0, I 0, L none ([] : List D.Term) 0, L none ([] : List Int) 0]] w12o S60 := Sep.pick [1, 2, 3] hs (by decide) rfl
                 refine q_storeBoxS 2 hs hM0 rfl [I 0, L a6 x1 c6, L a7 x2 c7, L none ([] : List Int) 0, I 0, L none ([] : List D.Term) 0, I 0, I 0, L none ([] : List D.Term) 0, L none ([] : List Int) 0] rfl hF rfl rfl (by kernel_rfl) rfl rfl rfl fun w51 S62 hs hp hF => ?_
                 have hM0 := hM0.stp hp
                 have hs : Sep [sl121 (L a7 x2 c7) rl12, sl121 (L a6 x1 c6) rl11, BX b2 75 [I 0, L a6 x1 c6, L a7 x2 c7, L none ([] : List Int) 0, I 0, L none ([] : List D.Term) 0, I 0, I 0, L none ([] : List D.Term) 0, L none ([] : List Int) 0]] w51 S62 := hs
                 refine from_end rfl (then_normal ?_)
                 have hbr := (hs.bx 2 rfl)
                 have hs : Sep [sl3 (L none ([] : List Int) 0) ([] : List Int), sl121 (L a7 x2 c7) rl12, sl121 (L a6 x1 c6) rl11, BX b2 75 [I 0, L a6 x1 c6, L a7 x2 c7, L none ([] : List Int) 0, I 0, L none ([] : List D.Term) 0, I 0, I 0, L none ([] : List D.Term) 0, L none ([] : List Int) 0]] w51 S62 := hs.cons_nil (α := Int) 3
                 have hs : Sep [sl121 (L none ([] : List D.Term) 0) ([] : List D.Term), sl3 (L none ([] : List Int) 0) ([] : List Int), sl121 (L a7 x2 c7) rl12, sl121 (L a6 x1 c6) rl11, BX b2 75 [I 0, L a6 x1 c6, L a7 x2 c7, L none ([] : List Int) 0, I 0, L none ([] : List D.Term) 0, I 0, I 0, L none ([] : List D.Term) 0, L none ([] : List Int) 0]] w51 S62 := hs.cons_nil (α := D.Term) 121
                 have hs : Sep [sl121 (L none ([] : List D.Term) 0) ([] : List D.Term), sl121 (L none ([] : List D.Term) 0) ([] : List D.Term), sl3 (L none ([] : List Int) 0) ([] : List Int), sl121 (L a7 x2 c7) rl12, sl121 (L a6 x1 c6) rl11, BX b2 75 [I 0, L a6 x1 c6, L a7 x2 c7, L none ([] : List Int) 0, I 0, L none ([] : List D.Term) 0, I 0, I 0, L none ([] : List D.Term) 0, L none ([] : List Int) 0]] w51 S62 := hs.cons_nil (α := D.Term) 121
                 have hs : Sep [sl3 (L none ([] : List Int) 0) ([] : List Int), sl121 (L none ([] : List D.Term) 0) ([] : List D.Term), sl121 (L none ([] : List D.Term) 0) ([] : List D.Term), sl3 (L none ([] : List Int) 0) ([] : List Int), sl121 (L a7 x2 c7) rl12, sl121 (L a6 x1 c6) rl11, BX b2 75 [I 0, L a6 x1 c6, L a7 x2 c7, L none ([] : List Int) 0, I 0, L none ([] : List D.Term) 0, I 0, I 0, L none ([] : List D.Term) 0, L none ([] : List Int) 0]] w51 S62 := hs.cons_nil (α := Int) 3
                 obtain rfl := Option.some.inj h
                 have hs : Sep [sl121 (L a6 x1 c6) rl11, sl121 (L a7 x2 c7) rl12, sl3 (L none ([] : List Int) 0) ([] : List Int), sl121 (L none ([] : List D.Term) 0) ([] : List D.Term), sl121 (L none ([] : List D.Term) 0) ([] : List D.Term), sl3 (L none ([] : List Int) 0) ([] : List Int)] w51 S62 := Sep.pick [5, 4, 3, 2, 1, 0] hs (by decide) rfl
                 obtain ⟨he11, hs⟩ := hs.relen 0 rfl
                 have hs : Sep [sl121 (L a6 rl11 c6) rl11, sl121 (L a7 x2 c7) rl12, sl3 (L none ([] : List Int) 0) ([] : List Int), sl121 (L none ([] : List D.Term) 0) ([] : List D.Term), sl121 (L none ([] : List D.Term) 0) ([] : List D.Term), sl3 (L none ([] : List Int) 0) ([] : List Int)] w51 S62 := hs
                 obtain ⟨he12, hs⟩ := hs.relen 1 rfl
                 have hs : Sep [sl121 (L a6 rl11 c6) rl11, sl121 (L a7 rl12 c7) rl12, sl3 (L none ([] : List Int) 0) ([] : List Int), sl121 (L none ([] : List D.Term) 0) ([] : List D.Term), sl121 (L none ([] : List D.Term) 0) ([] : List D.Term), sl3 (L none ([] : List Int) 0) ([] : List Int)] w51 S62 := hs
                 exact wp_ret (retS rfl hF ty75 rfl rfl hbr rfl ⟨_, rfl, a6, c6, a7, c7, none, 0, none, 0, none, 0, none, 0, (by simp only [L, he11, he12]), S62, hM0.out, hs⟩)
     · refine op_of _ rfl rfl ?_
       refine q_alloc (z := .agg #[I 0, L none ([] : List D.Term) 0, L none ([] : List D.Term) 0, L none ([] : List Int) 0, I 0, L none ([] : List D.Term) 0, I 0, I 0, L none ([] : List D.Term) 0, L none ([] : List Int) 0]) hs hM0 [I 0, L none ([] : List D.Term) 0, L none ([] : List D.Term) 0, L none ([] : List Int) 0, I 0, L none ([] : List D.Term) 0, I 0, I 0, L none ([] : List D.Term) 0, L none ([] : List Int) 0] rfl rfl hF (by kernel_rfl) rfl fun b9 w52 S63 fr hs hp hF => ?_
       have r1 := r1.stp hM0 hp
       have hM0 := hM0.stp hp
       have hs : Sep [BX b9 75 [I 0, L none ([] : List D.Term) 0, L none ([] : List D.Term) 0, L none ([] : List Int) 0, I 0, L none ([] : List D.Term) 0, I 0, I 0, L none ([] : List D.Term) 0, L none ([] : List Int) 0], sl121 (L a6 x1 c6) x1, BX b2 75 [I 0, L none ([] : List D.Term) 0, L none ([] : List D.Term) 0, L none ([] : List Int) 0, I 0, L none ([] : List D.Term) 0, I 0, I 0, L none ([] : List D.Term) 0, L none ([] : List Int) 0], BX b1 30 [I p0.W, I p0.Mem, I p0.In, L a1 p0.Code c1]] w52 S63 := hs
       refine from_end rfl (then_normal ?_)
       refine any_node (fuel := 2) [3] (by kernel_rfl) (by simp) ⟨?_, trivial⟩
       · refine op_of _ rfl rfl ?_
         refine q_make hs hM0 Try.underlying73 el121 (zero_flat _ (by kernel_rfl)) rfl rfl hF rfl rfl hx2 fun a8 c8 w53 S64 fr hs hp hF => ?_
         have r1 := r1.stp hM0 hp
         have hM0 := hM0.stp hp
         have hs : Sep [sl121 (L a8 x2 c8) x2, BX b9 75 [I 0, L none ([] : List D.Term) 0, L none ([] : List D.Term) 0, L none ([] : List Int) 0, I 0, L none ([] : List D.Term) 0, I 0, I 0, L none ([] : List D.Term) 0, L none ([] : List Int) 0], sl121 (L a6 x1 c6) x1, BX b2 75 [I 0, L none ([] : List D.Term) 0, L none ([] : List D.Term) 0, L none ([] : List Int) 0, I 0, L none ([] : List D.Term) 0, I 0, I 0, L none ([] : List D.Term) 0, L none ([] : List Int) 0], BX b1 30 [I p0.W, I p0.Mem, I p0.In, L a1 p0.Code c1]] w53 S64 := hs
         refine from_end rfl (then_normal ?_)
         refine any_node (fuel := 1) [4] (by kernel_rfl) (by simp) ⟨?_, trivial⟩
         · refine op_of _ rfl rfl ?_
           refine from_pure 1 [(1, B b1 0), (2, B b2 0), (3, B b9 0), (10, .agg #[I 0, L a6 x1 c6, L a8 x2 c8, L none ([] : List Int) 0, I 0, L none ([] : List D.Term) 0, I 0, I 0, L none ([] : List D.Term) 0, L none ([] : List Int) 0])] hF (by kernel_rfl) fun fr hF => ?_
           refine from_end rfl (then_normal ?_)
           refine any_node (fuel := 0) [6] (by kernel_rfl) (by simp) ⟨?_, trivial⟩
           · refine op_of _ rfl rfl ?_
             refine q_storeBoxS 1 hs hM0 rfl [I 0, L a6 x1 c6, L a8 x2 c8, L none ([] : List Int) 0, I 0, L none ([] : List D.Term) 0, I 0, I 0, L none ([] : List D.Term) 0, L none ([] : List Int) 0] rfl hF rfl rfl (by kernel_rfl) rfl rfl rfl fun w54 S65 hs hp hF => ?_
             have r1 := r1.stp hM0 hp
             have hM0 := hM0.stp hp
             have hs : Sep [sl121 (L a8 x2 c8) x2, BX b9 75 [I 0, L a6 x1 c6, L a8 x2 c8, L none ([] : List Int) 0, I 0, L none ([] : List D.Term) 0, I 0, I 0, L none ([] : List D.Term) 0, L none ([] : List Int) 0], sl121 (L a6 x1 c6) x1, BX b2 75 [I 0, L none ([] : List D.Term) 0, L none ([] : List D.Term) 0, L none ([] : List Int) 0, I 0, L none ([] : List D.Term) 0, I 0, I 0, L none ([] : List D.Term) 0, L none ([] : List Int) 0], BX b1 30 [I p0.W, I p0.Mem, I p0.In, L a1 p0.Code c1]] w54 S65 := hs
             refine from_end rfl (then_normal ?_)
             refine any_leaf (by kernel_rfl) (then_normal ?_)
             refine wp_seq ?_
             refine wp_seq (wp_text' ?_)
             refine from_pure 1 [(1, B b1 0), (2, B b2 0), (3, B b9 0), (11, B b9 1)] hF (by kernel_rfl) fun fr hF => ?_
             refine s_loadBox (L a6 x1 c6) ty73 rfl rfl hF rfl (hs.bx 1 rfl) rfl rfl fun fr hF => ?_
             refine from_pure 2 [(1, B b1 0), (2, B b2 0), (3, B b9 0), (13, I (len x1)), (14, I 0)] hF (by kernel_rfl) fun fr hF => ?_
             refine from_end rfl (then_normal ?_)
             obtain ⟨rl13, hit13, h⟩ := bindE h
             have hk13 := h
             refine (GL.wp_cut (M := fun fr w' => ∃ S67 F26, FrS 40 [(1, B b1 0), (2, B b2 0), (3, B b9 0)] fr ∧ Mem w54 S65 (fun k => (G0 k) ∧ k < w.heap.size) w' S67 F26 ∧ Sep [sl121 (L a8 x2 c8) x2, BX b9 75 [I 0, L a6 x1 c6, L a8 x2 c8, L none ([] : List Int) 0, I 0, L none ([] : List D.Term) 0, I 0, I 0, L none ([] : List D.Term) 0, L none ([] : List Int) 0], sl121 (L a6 x1 c6) rl13, BX b2 75 [I 0, L none ([] : List D.Term) 0, L none ([] : List D.Term) 0, L none ([] : List Int) 0, I 0, L none ([] : List D.Term) 0, I 0, I 0, L none ([] : List D.Term) 0, L none ([] : List Int) 0], BX b1 30 [I p0.W, I p0.Mem, I p0.In, L a1 p0.Code c1]] w' S67) (wp_block (wp_iter (Inv := fun s13 fr w' => ∃ S66 F25, FrS 40 [(1, B b1 0), (2, B b2 0), (3, B b9 0), (13, I (len x1)), (14, I s13.1)] fr ∧ Mem w54 S65 (fun k => (G0 k) ∧ k < w.heap.size) w' S66 F25 ∧ Sep [sl121 (L a8 x2 c8) x2, BX b9 75 [I 0, L a6 x1 c6, L a8 x2 c8, L none ([] : List Int) 0, I 0, L none ([] : List D.Term) 0, I 0, I 0, L none ([] : List D.Term) 0, L none ([] : List Int) 0], sl121 (L a6 x1 c6) s13.2, BX b2 75 [I 0, L none ([] : List D.Term) 0, L none ([] : List D.Term) 0, L none ([] : List Int) 0, I 0, L none ([] : List D.Term) 0, I 0, I 0, L none ([] : List D.Term) 0, L none ([] : List Int) 0], BX b1 30 [I p0.W, I p0.Mem, I p0.In, L a1 p0.Code c1]] w' S66) hit13 ⟨S65, _, hF.sub _ (by kernel_rfl), (Mem.start hM0.bd hM0.bdF hM0.dj), hs⟩ fun s13 q13 fr w13i hI h hr13 => ?_)) fun fr w13o hM => ?_)
             · obtain ⟨S66, F25, hF, hM1, hs⟩ := hI
               have r1 := r1.mem hM1
               refine wp_seq (wp_pure [(1, B b1 0), (2, B b2 0), (3, B b9 0), (13, I (len x1)), (14, I s13.1), (15, .bool (decide (s13.1 < (len x1))))] hF (by kernel_rfl) fun fr hF => then_normal ?_)
               refine wp_seq (wp_if hF (b := (decide (s13.1 < (len x1)))) rfl (fun hb => ?_) (fun hb => ?_))
               · replace h := iteT hb h
                 refine (wp_skip (then_normal ?_))
                 refine wp_seq (wp_block ?_)
                 refine wp_seq (wp_pure [(1, B b1 0), (2, B b2 0), (3, B b9 0), (4, I s13.1), (13, I (len x1)), (14, I s13.1)] hF (by kernel_rfl) fun fr hF => then_normal ?_)
                 obtain ⟨x27, hx27, h⟩ := bindE h
                 refine (region_bm 6 [0, 1, 0, 0, 8, 24, 63, 127] [true, false, true, true, false, false]
                     [.eq (B b9 1), .eq (L a6 x1 c6), .eq (I s13.1), .eq (B b1 0), .eq (I p0.W), .eq (.agg #[I x27.Op, I x27.W, I x27.N, Str.val x27.Name, L none ([] : List D.Term) 0]), .any, .any]
                     [(1, B b1 0), (2, B b2 0), (3, B b9 0), (13, I (len x1)), (14, I s13.1), (18, L a6 x1 c6), (19, I s13.1), (22, .agg #[I x27.Op, I x27.W, I x27.N, Str.val x27.Name, L none ([] : List D.Term) 0])] mix hF (by kernel_rfl) (by kernel_rfl) (by kernel_rfl) (by kernel_rfl) ⟨Pd.monoO_eq, Pd.monoO_eq, Pd.monoO_eq, trivial⟩ (fun ow hG => ⟨np_to ow (np_loadBox hG hF ty73 rfl rfl (hs.bx 1 rfl) rfl rfl rfl), np_to ow (np_loadBox hG hF ty3 rfl rfl (hs.bx 4 rfl) rfl rfl rfl), np_to ow (np_call [I p0.W, I 0] hG hF Try.call129 rfl rfl (fun w hC hg => (impl_ConstTerm_ok p0.W 0 hx27).mono fun e w' ⟨v, he, hv, hc⟩ => ⟨v, he, hc, hv⟩)), trivial⟩) (by kernel_rfl) fun ow fr w55 hF hE hc => ?_)
                 have r1 := r1.ext hc
                 have hs := hs.ext hc
                 have hM1 := hM1.ext hc
                 obtain ⟨x28, hx28, h⟩ := bindE h
                 refine q_set (q := x27) 2 hs hM1 rfl Try.underlying73 ty121 rfl rfl rfl rfl hF rfl rfl (by simp) rfl rfl hx28 fun w56 S68 fr _ hs hp hF => ?_
                 have r1 := r1.stp hM1 hp
                 have hM1 := hM1.stp hp
                 have hs : Sep [sl121 (L a8 x2 c8) x2, BX b9 75 [I 0, L a6 x1 c6, L a8 x2 c8, L none ([] : List Int) 0, I 0, L none ([] : List D.Term) 0, I 0, I 0, L none ([] : List D.Term) 0, L none ([] : List Int) 0], sl121 (L a6 x1 c6) x28, BX b2 75 [I 0, L none ([] : List D.Term) 0, L none ([] : List D.Term) 0, L none ([] : List Int) 0, I 0, L none ([] : List D.Term) 0, I 0, I 0, L none ([] : List D.Term) 0, L none ([] : List Int) 0], BX b1 30 [I p0.W, I p0.Mem, I p0.In, L a1 p0.Code c1]] w56 S68 := hs
                 refine from_end rfl ?_
                 refine blk_normal (then_normal ?_)
                 refine (wp_pure [(1, B b1 0), (2, B b2 0), (3, B b9 0), (13, I (len x1)), (14, I (w64 (s13.1 + 1)))] hF (by kernel_rfl) fun fr hF => then_normal ?_)
                 exact ⟨_, (Option.some.inj h).symm, S68, _, hF.sub _ (by kernel_rfl), hM1, hs⟩
               replace h := iteF hb h
               refine (wp_exit (then_exit (then_exit (blk_exit_eq ?_))))
               obtain rfl := hr13 _ (Option.some.inj h).symm
               exact then_normal ⟨S66, _, hF.sub _ (by kernel_rfl), hM1, hs⟩
             · obtain ⟨S67, F26, hF, hMx, hs⟩ := hM
               have r1 := r1.mem hMx
               have hM0 := hM0.trans hMx
               refine wp_seq ?_
               refine wp_seq (wp_text' ?_)
               refine from_pure 1 [(1, B b1 0), (2, B b2 0), (3, B b9 0), (25, B b9 2)] hF (by kernel_rfl) fun fr hF => ?_
               refine s_loadBox (L a8 x2 c8) ty73 rfl rfl hF rfl (hs.bx 1 rfl) rfl rfl fun fr hF => ?_
               refine from_pure 2 [(1, B b1 0), (2, B b2 0), (3, B b9 0), (27, I (len x2)), (28, I 0)] hF (by kernel_rfl) fun fr hF => ?_
               refine from_end rfl (then_normal ?_)
               obtain ⟨rl14, hit14, h⟩ := bindE h
               have hk14 := h
               refine (GL.wp_cut (M := fun fr w' => ∃ S70 F28, FrS 40 [(2, B b2 0), (3, B b9 0)] fr ∧ Mem w13o S67 F26 w' S70 F28 ∧ Sep [sl121 (L a8 x2 c8) rl14, BX b9 75 [I 0, L a6 x1 c6, L a8 x2 c8, L none ([] : List Int) 0, I 0, L none ([] : List D.Term) 0, I 0, I 0, L none ([] : List D.Term) 0, L none ([] : List Int) 0], sl121 (L a6 x1 c6) rl13, BX b2 75 [I 0, L none ([] : List D.Term) 0, L none ([] : List D.Term) 0, L none ([] : List Int) 0, I 0, L none ([] : List D.Term) 0, I 0, I 0, L none ([] : List D.Term) 0, L none ([] : List Int) 0]] w' S70) (wp_block (wp_iter (Inv := fun s14 fr w' => ∃ S69 F27, FrS 40 [(1, B b1 0), (2, B b2 0), (3, B b9 0), (27, I (len x2)), (28, I s14.1)] fr ∧ Mem w13o S67 F26 w' S69 F27 ∧ Sep [sl121 (L a8 x2 c8) s14.2, BX b9 75 [I 0, L a6 x1 c6, L a8 x2 c8, L none ([] : List Int) 0, I 0, L none ([] : List D.Term) 0, I 0, I 0, L none ([] : List D.Term) 0, L none ([] : List Int) 0], sl121 (L a6 x1 c6) rl13, BX b2 75 [I 0, L none ([] : List D.Term) 0, L none ([] : List D.Term) 0, L none ([] : List Int) 0, I 0, L none ([] : List D.Term) 0, I 0, I 0, L none ([] : List D.Term) 0, L none ([] : List Int) 0], BX b1 30 [I p0.W, I p0.Mem, I p0.In, L a1 p0.Code c1]] w' S69) hit14 ⟨S67, _, hF.sub _ (by kernel_rfl), (Mem.start hM0.bd hM0.bdF hM0.dj), hs⟩ fun s14 q14 fr w14i hI h hr14 => ?_)) fun fr w14o hM => ?_)
               · obtain ⟨S69, F27, hF, hM1, hs⟩ := hI
                 have r1 := r1.mem hM1
                 refine wp_seq (wp_pure [(1, B b1 0), (2, B b2 0), (3, B b9 0), (27, I (len x2)), (28, I s14.1), (29, .bool (decide (s14.1 < (len x2))))] hF (by kernel_rfl) fun fr hF => then_normal ?_)
                 refine wp_seq (wp_if hF (b := (decide (s14.1 < (len x2)))) rfl (fun hb => ?_) (fun hb => ?_))
                 · replace h := iteT hb h
                   refine (wp_skip (then_normal ?_))
                   refine wp_seq (wp_block ?_)
                   refine wp_seq (wp_pure [(1, B b1 0), (2, B b2 0), (3, B b9 0), (5, I s14.1), (27, I (len x2)), (28, I s14.1)] hF (by kernel_rfl) fun fr hF => then_normal ?_)
                   obtain ⟨x29, hx29, h⟩ := bindE h
                   refine (region_bm 6 [0, 1, 0, 0, 8, 24, 63, 127] [true, false, true, true, false, false]
                       [.eq (B b9 2), .eq (L a8 x2 c8), .eq (I s14.1), .eq (B b1 0), .eq (I p0.W), .eq (.agg #[I x29.Op, I x29.W, I x29.N, Str.val x29.Name, L none ([] : List D.Term) 0]), .any, .any]
                       [(1, B b1 0), (2, B b2 0), (3, B b9 0), (27, I (len x2)), (28, I s14.1), (32, L a8 x2 c8), (33, I s14.1), (36, .agg #[I x29.Op, I x29.W, I x29.N, Str.val x29.Name, L none ([] : List D.Term) 0])] mix hF (by kernel_rfl) (by kernel_rfl) (by kernel_rfl) (by kernel_rfl) ⟨Pd.monoO_eq, Pd.monoO_eq, Pd.monoO_eq, trivial⟩ (fun ow hG => ⟨np_to ow (np_loadBox hG hF ty73 rfl rfl (hs.bx 1 rfl) rfl rfl rfl), np_to ow (np_loadBox hG hF ty3 rfl rfl (hs.bx 4 rfl) rfl rfl rfl), np_to ow (np_call [I p0.W, I 0] hG hF Try.call129 rfl rfl (fun w hC hg => (impl_ConstTerm_ok p0.W 0 hx29).mono fun e w' ⟨v, he, hv, hc⟩ => ⟨v, he, hc, hv⟩)), trivial⟩) (by kernel_rfl) fun ow fr w57 hF hE hc => ?_)
                   have r1 := r1.ext hc
                   have hs := hs.ext hc
                   have hM1 := hM1.ext hc
                   obtain ⟨x30, hx30, h⟩ := bindE h
                   refine q_set (q := x29) 0 hs hM1 rfl Try.underlying73 ty121 rfl rfl rfl rfl hF rfl rfl (by simp) rfl rfl hx30 fun w58 S71 fr _ hs hp hF => ?_
                   have r1 := r1.stp hM1 hp
                   have hM1 := hM1.stp hp
                   have hs : Sep [sl121 (L a8 x2 c8) x30, BX b9 75 [I 0, L a6 x1 c6, L a8 x2 c8, L none ([] : List Int) 0, I 0, L none ([] : List D.Term) 0, I 0, I 0, L none ([] : List D.Term) 0, L none ([] : List Int) 0], sl121 (L a6 x1 c6) rl13, BX b2 75 [I 0, L none ([] : List D.Term) 0, L none ([] : List D.Term) 0, L none ([] : List Int) 0, I 0, L none ([] : List D.Term) 0, I 0, I 0, L none ([] : List D.Term) 0, L none ([] : List Int) 0], BX b1 30 [I p0.W, I p0.Mem, I p0.In, L a1 p0.Code c1]] w58 S71 := hs
                   refine from_end rfl ?_
                   refine blk_normal (then_normal ?_)
                   refine (wp_pure [(1, B b1 0), (2, B b2 0), (3, B b9 0), (27, I (len x2)), (28, I (w64 (s14.1 + 1)))] hF (by kernel_rfl) fun fr hF => then_normal ?_)
                   exact ⟨_, (Option.some.inj h).symm, S71, _, hF.sub _ (by kernel_rfl), hM1, hs⟩
                 replace h := iteF hb h
                 have hs : Sep [sl121 (L a8 x2 c8) s14.2, BX b9 75 [I 0, L a6 x1 c6, L a8 x2 c8, L none ([] : List Int) 0, I 0, L none ([] : List D.Term) 0, I 0, I 0, L none ([] : List D.Term) 0, L none ([] : List Int) 0], sl121 (L a6 x1 c6) rl13, BX b2 75 [I 0, L none ([] : List D.Term) 0, L none ([] : List D.Term) 0, L none ([] : List Int) 0, I 0, L none ([] : List D.Term) 0, I 0, I 0, L none ([] : List D.Term) 0, L none ([] : List Int) 0]] w14i S69 := Sep.pick [0, 1, 2, 3] hs (by decide) rfl
                 refine (wp_exit (then_exit (then_exit (blk_exit_eq ?_))))
                 obtain rfl := hr14 _ (Option.some.inj h).symm
                 exact then_normal ⟨S69, _, hF.sub _ (by kernel_rfl), hM1, hs⟩
               · obtain ⟨S70, F28, hF, hMx, hs⟩ := hM
                 have hM0 := hM0.trans hMx
                 refine wp_seq (wp_text' ?_)
                 refine s_loadBoxS ty75 rfl rfl hF rfl (hs.bx 1 rfl) rfl rfl fun fr hF => ?_
                 have hs : Sep [sl121 (L a8 x2 c8) rl14, sl121 (L a6 x1 c6) rl13, BX b2 75 [I 0, L none ([] : List D.Term) 0, L none ([] : List D.Term) 0, L none ([] : List Int) 0, I 0, L none ([] : List D.Term) 0, I 0, I 0, L none ([] : List D.Term) 0, L none ([] : List Int) 0]] w14o S70 := Sep.pick [0, 2, 3] hs (by decide) rfl
                 refine q_storeBoxS 2 hs hM0 rfl [I 0, L a6 x1 c6, L a8 x2 c8, L none ([] : List Int) 0, I 0, L none ([] : List D.Term) 0, I 0, I 0, L none ([] : List D.Term) 0, L none ([] : List Int) 0] rfl hF rfl rfl (by kernel_rfl) rfl rfl rfl fun w59 S72 hs hp hF => ?_
                 have hM0 := hM0.stp hp
                 have hs : Sep [sl121 (L a8 x2 c8) rl14, sl121 (L a6 x1 c6) rl13, BX b2 75 [I 0, L a6 x1 c6, L a8 x2 c8, L none ([] : List Int) 0, I 0, L none ([] : List D.Term) 0, I 0, I 0, L none ([] : List D.Term) 0, L none ([] : List Int) 0]] w59 S72 := hs
                 refine from_end rfl (then_normal ?_)
                 have hbr := (hs.bx 2 rfl)
                 have hs : Sep [sl3 (L none ([] : List Int) 0) ([] : List Int), sl121 (L a8 x2 c8) rl14, sl121 (L a6 x1 c6) rl13, BX b2 75 [I 0, L a6 x1 c6, L a8 x2 c8, L none ([] : List Int) 0, I 0, L none ([] : List D.Term) 0, I 0, I 0, L none ([] : List D.Term) 0, L none ([] : List Int) 0]] w59 S72 := hs.cons_nil (α := Int) 3
                 have hs : Sep [sl121 (L none ([] : List D.Term) 0) ([] : List D.Term), sl3 (L none ([] : List Int) 0) ([] : List Int), sl121 (L a8 x2 c8) rl14, sl121 (L a6 x1 c6) rl13, BX b2 75 [I 0, L a6 x1 c6, L a8 x2 c8, L none ([] : List Int) 0, I 0, L none ([] : List D.Term) 0, I 0, I 0, L none ([] : List D.Term) 0, L none ([] : List Int) 0]] w59 S72 := hs.cons_nil (α := D.Term) 121
                 have hs : Sep [sl121 (L none ([] : List D.Term) 0) ([] : List D.Term), sl121 (L none ([] : List D.Term) 0) ([] : List D.Term), sl3 (L none ([] : List Int) 0) ([] : List Int), sl121 (L a8 x2 c8) rl14, sl121 (L a6 x1 c6) rl13, BX b2 75 [I 0, L a6 x1 c6, L a8 x2 c8, L none ([] : List Int) 0, I 0, L none ([] : List D.Term) 0, I 0, I 0, L none ([] : List D.Term) 0, L none ([] : List Int) 0]] w59 S72 := hs.cons_nil (α := D.Term) 121
                 have hs : Sep [sl3 (L none ([] : List Int) 0) ([] : List Int), sl121 (L none ([] : List D.Term) 0) ([] : List D.Term), sl121 (L none ([] : List D.Term) 0) ([] : List D.Term), sl3 (L none ([] : List Int) 0) ([] : List Int), sl121 (L a8 x2 c8) rl14, sl121 (L a6 x1 c6) rl13, BX b2 75 [I 0, L a6 x1 c6, L a8 x2 c8, L none ([] : List Int) 0, I 0, L none ([] : List D.Term) 0, I 0, I 0, L none ([] : List D.Term) 0, L none ([] : List Int) 0]] w59 S72 := hs.cons_nil (α := Int) 3
                 obtain rfl := Option.some.inj h
                 have hs : Sep [sl121 (L a6 x1 c6) rl13, sl121 (L a8 x2 c8) rl14, sl3 (L none ([] : List Int) 0) ([] : List Int), sl121 (L none ([] : List D.Term) 0) ([] : List D.Term), sl121 (L none ([] : List D.Term) 0) ([] : List D.Term), sl3 (L none ([] : List Int) 0) ([] : List Int)] w59 S72 := Sep.pick [5, 4, 3, 2, 1, 0] hs (by decide) rfl
                 obtain ⟨he13, hs⟩ := hs.relen 0 rfl
                 have hs : Sep [sl121 (L a6 rl13 c6) rl13, sl121 (L a8 x2 c8) rl14, sl3 (L none ([] : List Int) 0) ([] : List Int), sl121 (L none ([] : List D.Term) 0) ([] : List D.Term), sl121 (L none ([] : List D.Term) 0) ([] : List D.Term), sl3 (L none ([] : List Int) 0) ([] : List Int)] w59 S72 := hs
                 obtain ⟨he14, hs⟩ := hs.relen 1 rfl
                 have hs : Sep [sl121 (L a6 rl13 c6) rl13, sl121 (L a8 rl14 c8) rl14, sl3 (L none ([] : List Int) 0) ([] : List Int), sl121 (L none ([] : List D.Term) 0) ([] : List D.Term), sl121 (L none ([] : List D.Term) 0) ([] : List D.Term), sl3 (L none ([] : List Int) 0) ([] : List Int)] w59 S72 := hs
                 exact wp_ret (retS rfl hF ty75 rfl rfl hbr rfl ⟨_, rfl, a6, c6, a8, c8, none, 0, none, 0, none, 0, none, 0, (by simp only [L, he13, he14]), S72, hM0.out, hs⟩)
   · refine op_of _ rfl rfl ?_
     refine q_make hs hM0 Try.underlying73 el121 (zero_flat _ (by kernel_rfl)) rfl rfl hF rfl rfl hx2 fun a9 c9 w60 S73 fr hs hp hF => ?_
     have r1 := r1.stp hM0 hp
     have hM0 := hM0.stp hp
     have hs : Sep [sl121 (L a9 x2 c9) x2, BX b2 75 [I 0, L none ([] : List D.Term) 0, L none ([] : List D.Term) 0, L none ([] : List Int) 0, I 0, L none ([] : List D.Term) 0, I 0, I 0, L none ([] : List D.Term) 0, L none ([] : List Int) 0], BX b1 30 [I p0.W, I p0.Mem, I p0.In, L a1 p0.Code c1]] w60 S73 := hs
     refine from_end rfl (then_normal ?_)
     refine any_node (fuel := 3) [0, 5] (by kernel_rfl) (by simp) ⟨?_, ?_, trivial⟩
     · refine op_of _ rfl rfl ?_
       refine q_make hs hM0 Try.underlying73 el121 (zero_flat _ (by kernel_rfl)) rfl rfl hF rfl rfl hx1 fun a10 c10 w61 S74 fr hs hp hF => ?_
       have r1 := r1.stp hM0 hp
       have hM0 := hM0.stp hp
       have hs : Sep [sl121 (L a10 x1 c10) x1, sl121 (L a9 x2 c9) x2, BX b2 75 [I 0, L none ([] : List D.Term) 0, L none ([] : List D.Term) 0, L none ([] : List Int) 0, I 0, L none ([] : List D.Term) 0, I 0, I 0, L none ([] : List D.Term) 0, L none ([] : List Int) 0], BX b1 30 [I p0.W, I p0.Mem, I p0.In, L a1 p0.Code c1]] w61 S74 := hs
       refine from_end rfl (then_normal ?_)
       refine any_node (fuel := 2) [4, 5] (by kernel_rfl) (by simp) ⟨?_, ?_, trivial⟩
       · refine op_of _ rfl rfl ?_
         refine from_pure 1 [(1, B b1 0), (2, B b2 0), (10, .agg #[I 0, L a10 x1 c10, L a9 x2 c9, L none ([] : List Int) 0, I 0, L none ([] : List D.Term) 0, I 0, I 0, L none ([] : List D.Term) 0, L none ([] : List Int) 0])] hF (by kernel_rfl) fun fr hF => ?_
         refine from_end rfl (then_normal ?_)
         refine any_node (fuel := 1) [5] (by kernel_rfl) (by simp) ⟨?_, trivial⟩
         · refine op_of _ rfl rfl ?_
           refine q_alloc (z := .agg #[I 0, L none ([] : List D.Term) 0, L none ([] : List D.Term) 0, L none ([] : List Int) 0, I 0, L none ([] : List D.Term) 0, I 0, I 0, L none ([] : List D.Term) 0, L none ([] : List Int) 0]) hs hM0 [I 0, L none ([] : List D.Term) 0, L none ([] : List D.Term) 0, L none ([] : List Int) 0, I 0, L none ([] : List D.Term) 0, I 0, I 0, L none ([] : List D.Term) 0, L none ([] : List Int) 0] rfl rfl hF (by kernel_rfl) rfl fun b10 w62 S75 fr hs hp hF => ?_
           have r1 := r1.stp hM0 hp
           have hM0 := hM0.stp hp
           have hs : Sep [BX b10 75 [I 0, L none ([] : List D.Term) 0, L none ([] : List D.Term) 0, L none ([] : List Int) 0, I 0, L none ([] : List D.Term) 0, I 0, I 0, L none ([] : List D.Term) 0, L none ([] : List Int) 0], sl121 (L a10 x1 c10) x1, sl121 (L a9 x2 c9) x2, BX b2 75 [I 0, L none ([] : List D.Term) 0, L none ([] : List D.Term) 0, L none ([] : List Int) 0, I 0, L none ([] : List D.Term) 0, I 0, I 0, L none ([] : List D.Term) 0, L none ([] : List Int) 0], BX b1 30 [I p0.W, I p0.Mem, I p0.In, L a1 p0.Code c1]] w62 S75 := hs
           refine from_end rfl (then_normal ?_)
           refine any_node (fuel := 0) [6] (by kernel_rfl) (by simp) ⟨?_, trivial⟩
           · refine op_of _ rfl rfl ?_
             refine q_storeBoxS 0 hs hM0 rfl [I 0, L a10 x1 c10, L a9 x2 c9, L none ([] : List Int) 0, I 0, L none ([] : List D.Term) 0, I 0, I 0, L none ([] : List D.Term) 0, L none ([] : List Int) 0] rfl hF rfl rfl (by kernel_rfl) rfl rfl rfl fun w63 S76 hs hp hF => ?_
             have r1 := r1.stp hM0 hp
             have hM0 := hM0.stp hp
             have hs : Sep [BX b10 75 [I 0, L a10 x1 c10, L a9 x2 c9, L none ([] : List Int) 0, I 0, L none ([] : List D.Term) 0, I 0, I 0, L none ([] : List D.Term) 0, L none ([] : List Int) 0], sl121 (L a10 x1 c10) x1, sl121 (L a9 x2 c9) x2, BX b2 75 [I 0, L none ([] : List D.Term) 0, L none ([] : List D.Term) 0, L none ([] : List Int) 0, I 0, L none ([] : List D.Term) 0, I 0, I 0, L none ([] : List D.Term) 0, L none ([] : List Int) 0], BX b1 30 [I p0.W, I p0.Mem, I p0.In, L a1 p0.Code c1]] w63 S76 := hs
             refine from_end rfl (then_normal ?_)
             refine any_leaf (by kernel_rfl) (then_normal ?_)
             refine wp_seq ?_
             refine wp_seq (wp_text' ?_)
             refine from_pure 1 [(1, B b1 0), (2, B b2 0), (3, B b10 0), (11, B b10 1)] hF (by kernel_rfl) fun fr hF => ?_
             refine s_loadBox (L a10 x1 c10) ty73 rfl rfl hF rfl (hs.bx 0 rfl) rfl rfl fun fr hF => ?_
             refine from_pure 2 [(1, B b1 0), (2, B b2 0), (3, B b10 0), (13, I (len x1)), (14, I 0)] hF (by kernel_rfl) fun fr hF => ?_
             refine from_end rfl (then_normal ?_)
             obtain ⟨rl15, hit15, h⟩ := bindE h
             have hk15 := h
             refine (GL.wp_cut (M := fun fr w' => ∃ S78 F30, FrS 40 [(1, B b1 0), (2, B b2 0), (3, B b10 0)] fr ∧ Mem w63 S76 (fun k => (G0 k) ∧ k < w.heap.size) w' S78 F30 ∧ Sep [BX b10 75 [I 0, L a10 x1 c10, L a9 x2 c9, L none ([] : List Int) 0, I 0, L none ([] : List D.Term) 0, I 0, I 0, L none ([] : List D.Term) 0, L none ([] : List Int) 0], sl121 (L a10 x1 c10) rl15, sl121 (L a9 x2 c9) x2, BX b2 75 [I 0, L none ([] : List D.Term) 0, L none ([] : List D.Term) 0, L none ([] : List Int) 0, I 0, L none ([] : List D.Term) 0, I 0, I 0, L none ([] : List D.Term) 0, L none ([] : List Int) 0], BX b1 30 [I p0.W, I p0.Mem, I p0.In, L a1 p0.Code c1]] w' S78) (wp_block (wp_iter (Inv := fun s15 fr w' => ∃ S77 F29, FrS 40 [(1, B b1 0), (2, B b2 0), (3, B b10 0), (13, I (len x1)), (14, I s15.1)] fr ∧ Mem w63 S76 (fun k => (G0 k) ∧ k < w.heap.size) w' S77 F29 ∧ Sep [BX b10 75 [I 0, L a10 x1 c10, L a9 x2 c9, L none ([] : List Int) 0, I 0, L none ([] : List D.Term) 0, I 0, I 0, L none ([] : List D.Term) 0, L none ([] : List Int) 0], sl121 (L a10 x1 c10) s15.2, sl121 (L a9 x2 c9) x2, BX b2 75 [I 0, L none ([] : List D.Term) 0, L none ([] : List D.Term) 0, L none ([] : List Int) 0, I 0, L none ([] : List D.Term) 0, I 0, I 0, L none ([] : List D.Term) 0, L none ([] : List Int) 0], BX b1 30 [I p0.W, I p0.Mem, I p0.In, L a1 p0.Code c1]] w' S77) hit15 ⟨S76, _, hF.sub _ (by kernel_rfl), (Mem.start hM0.bd hM0.bdF hM0.dj), hs⟩ fun s15 q15 fr w15i hI h hr15 => ?_)) fun fr w15o hM => ?_)
             · obtain ⟨S77, F29, hF, hM1, hs⟩ := hI
               have r1 := r1.mem hM1
               refine wp_seq (wp_pure [(1, B b1 0), (2, B b2 0), (3, B b10 0), (13, I (len x1)), (14, I s15.1), (15, .bool (decide (s15.1 < (len x1))))] hF (by kernel_rfl) fun fr hF => then_normal ?_)
               refine wp_seq (wp_if hF (b := (decide (s15.1 < (len x1)))) rfl (fun hb => ?_) (fun hb => ?_))
               · replace h := iteT hb h
                 refine (wp_skip (then_normal ?_))
                 refine wp_seq (wp_block ?_)
                 refine wp_seq (wp_pure [(1, B b1 0), (2, B b2 0), (3, B b10 0), (4, I s15.1), (13, I (len x1)), (14, I s15.1)] hF (by kernel_rfl) fun fr hF => then_normal ?_)
                 obtain ⟨x31, hx31, h⟩ := bindE h
                 refine (region_bm 6 [0, 1, 0, 0, 8, 24, 63, 127] [true, false, true, true, false, false]
                     [.eq (B b10 1), .eq (L a10 x1 c10), .eq (I s15.1), .eq (B b1 0), .eq (I p0.W), .eq (.agg #[I x31.Op, I x31.W, I x31.N, Str.val x31.Name, L none ([] : List D.Term) 0]), .any, .any]
                     [(1, B b1 0), (2, B b2 0), (3, B b10 0), (13, I (len x1)), (14, I s15.1), (18, L a10 x1 c10), (19, I s15.1), (22, .agg #[I x31.Op, I x31.W, I x31.N, Str.val x31.Name, L none ([] : List D.Term) 0])] mix hF (by kernel_rfl) (by kernel_rfl) (by kernel_rfl) (by kernel_rfl) ⟨Pd.monoO_eq, Pd.monoO_eq, Pd.monoO_eq, trivial⟩ (fun ow hG => ⟨np_to ow (np_loadBox hG hF ty73 rfl rfl (hs.bx 0 rfl) rfl rfl rfl), np_to ow (np_loadBox hG hF ty3 rfl rfl (hs.bx 4 rfl) rfl rfl rfl), np_to ow (np_call [I p0.W, I 0] hG hF Try.call129 rfl rfl (fun w hC hg => (impl_ConstTerm_ok p0.W 0 hx31).mono fun e w' ⟨v, he, hv, hc⟩ => ⟨v, he, hc, hv⟩)), trivial⟩) (by kernel_rfl) fun ow fr w65 hF hE hc => ?_)
                 have r1 := r1.ext hc
                 have hs := hs.ext hc
                 have hM1 := hM1.ext hc
                 obtain ⟨x32, hx32, h⟩ := bindE h
                 refine q_set (q := x31) 1 hs hM1 rfl Try.underlying73 ty121 rfl rfl rfl rfl hF rfl rfl (by simp) rfl rfl hx32 fun w66 S79 fr _ hs hp hF => ?_
                 have r1 := r1.stp hM1 hp
                 have hM1 := hM1.stp hp
                 have hs : Sep [BX b10 75 [I 0, L a10 x1 c10, L a9 x2 c9, L none ([] : List Int) 0, I 0, L none ([] : List D.Term) 0, I 0, I 0, L none ([] : List D.Term) 0, L none ([] : List Int) 0], sl121 (L a10 x1 c10) x32, sl121 (L a9 x2 c9) x2, BX b2 75 [I 0, L none ([] : List D.Term) 0, L none ([] : List D.Term) 0, L none ([] : List Int) 0, I 0, L none ([] : List D.Term) 0, I 0, I 0, L none ([] : List D.Term) 0, L none ([] : List Int) 0], BX b1 30 [I p0.W, I p0.Mem, I p0.In, L a1 p0.Code c1]] w66 S79 := hs
                 refine from_end rfl ?_
                 refine blk_normal (then_normal ?_)
                 refine (wp_pure [(1, B b1 0), (2, B b2 0), (3, B b10 0), (13, I (len x1)), (14, I (w64 (s15.1 + 1)))] hF (by kernel_rfl) fun fr hF => then_normal ?_)
                 exact ⟨_, (Option.some.inj h).symm, S79, _, hF.sub _ (by kernel_rfl), hM1, hs⟩
               replace h := iteF hb h
               refine (wp_exit (then_exit (then_exit (blk_exit_eq ?_))))
               obtain rfl := hr15 _ (Option.some.inj h).symm
               exact then_normal ⟨S77, _, hF.sub _ (by kernel_rfl), hM1, hs⟩
             · obtain ⟨S78, F30, hF, hMx, hs⟩ := hM
               have r1 := r1.mem hMx
               have hM0 := hM0.trans hMx
               refine wp_seq ?_
               refine wp_seq (wp_text' ?_)
               refine from_pure 1 [(1, B b1 0), (2, B b2 0), (3, B b10 0), (25, B b10 2)] hF (by kernel_rfl) fun fr hF => ?_
               refine s_loadBox (L a9 x2 c9) ty73 rfl rfl hF rfl (hs.bx 0 rfl) rfl rfl fun fr hF => ?_
               refine from_pure 2 [(1, B b1 0), (2, B b2 0), (3, B b10 0), (27, I (len x2)), (28, I 0)] hF (by kernel_rfl) fun fr hF => ?_
               refine from_end rfl (then_normal ?_)
               obtain ⟨rl16, hit16, h⟩ := bindE h
               have hk16 := h
               refine (GL.wp_cut (M := fun fr w' => ∃ S81 F32, FrS 40 [(2, B b2 0), (3, B b10 0)] fr ∧ Mem w15o S78 F30 w' S81 F32 ∧ Sep [BX b10 75 [I 0, L a10 x1 c10, L a9 x2 c9, L none ([] : List Int) 0, I 0, L none ([] : List D.Term) 0, I 0, I 0, L none ([] : List D.Term) 0, L none ([] : List Int) 0], sl121 (L a10 x1 c10) rl15, sl121 (L a9 x2 c9) rl16, BX b2 75 [I 0, L none ([] : List D.Term) 0, L none ([] : List D.Term) 0, L none ([] : List Int) 0, I 0, L none ([] : List D.Term) 0, I 0, I 0, L none ([] : List D.Term) 0, L none ([] : List Int) 0]] w' S81) (wp_block (wp_iter (Inv := fun s16 fr w' => ∃ S80 F31, FrS 40 [(1, B b1 0), (2, B b2 0), (3, B b10 0), (27, I (len x2)), (28, I s16.1)] fr ∧ Mem w15o S78 F30 w' S80 F31 ∧ Sep [BX b10 75 [I 0, L a10 x1 c10, L a9 x2 c9, L none ([] : List Int) 0, I 0, L none ([] : List D.Term) 0, I 0, I 0, L none ([] : List D.Term) 0, L none ([] : List Int) 0], sl121 (L a10 x1 c10) rl15, sl121 (L a9 x2 c9) s16.2, BX b2 75 [I 0, L none ([] : List D.Term) 0, L none ([] : List D.Term) 0, L none ([] : List Int) 0, I 0, L none ([] : List D.Term) 0, I 0, I 0, L none ([] : List D.Term) 0, L none ([] : List Int) 0], BX b1 30 [I p0.W, I p0.Mem, I p0.In, L a1 p0.Code c1]] w' S80) hit16 ⟨S78, _, hF.sub _ (by kernel_rfl), (Mem.start hM0.bd hM0.bdF hM0.dj), hs⟩ fun s16 q16 fr w16i hI h hr16 => ?_)) fun fr w16o hM => ?_)
               · obtain ⟨S80, F31, hF, hM1, hs⟩ := hI
                 have r1 := r1.mem hM1
                 refine wp_seq (wp_pure [(1, B b1 0), (2, B b2 0), (3, B b10 0), (27, I (len x2)), (28, I s16.1), (29, .bool (decide (s16.1 < (len x2))))] hF (by kernel_rfl) fun fr hF => then_normal ?_)
                 refine wp_seq (wp_if hF (b := (decide (s16.1 < (len x2)))) rfl (fun hb => ?_) (fun hb => ?_))
                 · replace h := iteT hb h
                   refine (wp_skip (then_normal ?_))
                   refine wp_seq (wp_block ?_)
                   refine wp_seq (wp_pure [(1, B b1 0), (2, B b2 0), (3, B b10 0), (5, I s16.1), (27, I (len x2)), (28, I s16.1)] hF (by kernel_rfl) fun fr hF => then_normal ?_)
                   obtain ⟨x33, hx33, h⟩ := bindE h
                   refine (region_bm 6 [0, 1, 0, 0, 8, 24, 63, 127] [true, false, true, true, false, false]
                       [.eq (B b10 2), .eq (L a9 x2 c9), .eq (I s16.1), .eq (B b1 0), .eq (I p0.W), .eq (.agg #[I x33.Op, I x33.W, I x33.N, Str.val x33.Name, L none ([] : List D.Term) 0]), .any, .any]
                       [(1, B b1 0), (2, B b2 0), (3, B b10 0), (27, I (len x2)), (28, I s16.1), (32, L a9 x2 c9), (33, I s16.1), (36, .agg #[I x33.Op, I x33.W, I x33.N, Str.val x33.Name, L none ([] : List D.Term) 0])] mix hF (by kernel_rfl) (by kernel_rfl) (by kernel_rfl) (by kernel_rfl) ⟨Pd.monoO_eq, Pd.monoO_eq, Pd.monoO_eq, trivial⟩ (fun ow hG => ⟨np_to ow (np_loadBox hG hF ty73 rfl rfl (hs.bx 0 rfl) rfl rfl rfl), np_to ow (np_loadBox hG hF ty3 rfl rfl (hs.bx 4 rfl) rfl rfl rfl), np_to ow (np_call [I p0.W, I 0] hG hF Try.call129 rfl rfl (fun w hC hg => (impl_ConstTerm_ok p0.W 0 hx33).mono fun e w' ⟨v, he, hv, hc⟩ => ⟨v, he, hc, hv⟩)), trivial⟩) (by kernel_rfl) fun ow fr w67 hF hE hc => ?_)
                   have r1 := r1.ext hc
                   have hs := hs.ext hc
                   have hM1 := hM1.ext hc
                   obtain ⟨x34, hx34, h⟩ := bindE h
                   refine q_set (q := x33) 2 hs hM1 rfl Try.underlying73 ty121 rfl rfl rfl rfl hF rfl rfl (by simp) rfl rfl hx34 fun w68 S82 fr _ hs hp hF => ?_
                   have r1 := r1.stp hM1 hp
                   have hM1 := hM1.stp hp
                   have hs : Sep [BX b10 75 [I 0, L a10 x1 c10, L a9 x2 c9, L none ([] : List Int) 0, I 0, L none ([] : List D.Term) 0, I 0, I 0, L none ([] : List D.Term) 0, L none ([] : List Int) 0], sl121 (L a10 x1 c10) rl15, sl121 (L a9 x2 c9) x34, BX b2 75 [I 0, L none ([] : List D.Term) 0, L none ([] : List D.Term) 0, L none ([] : List Int) 0, I 0, L none ([] : List D.Term) 0, I 0, I 0, L none ([] : List D.Term) 0, L none ([] : List Int) 0], BX b1 30 [I p0.W, I p0.Mem, I p0.In, L a1 p0.Code c1]] w68 S82 := hs
                   refine from_end rfl ?_
                   refine blk_normal (then_normal ?_)
                   refine (wp_pure [(1, B b1 0), (2, B b2 0), (3, B b10 0), (27, I (len x2)), (28, I (w64 (s16.1 + 1)))] hF (by kernel_rfl) fun fr hF => then_normal ?_)
                   exact ⟨_, (Option.some.inj h).symm, S82, _, hF.sub _ (by kernel_rfl), hM1, hs⟩
                 replace h := iteF hb h
                 have hs : Sep [BX b10 75 [I 0, L a10 x1 c10, L a9 x2 c9, L none ([] : List Int) 0, I 0, L none ([] : List D.Term) 0, I 0, I 0, L none ([] : List D.Term) 0, L none ([] : List Int) 0], sl121 (L a10 x1 c10) rl15, sl121 (L a9 x2 c9) s16.2, BX b2 75 [I 0, L none ([] : List D.Term) 0, L none ([] : List D.Term) 0, L none ([] : List Int) 0, I 0, L none ([] : List D.Term) 0, I 0, I 0, L none ([] : List D.Term) 0, L none ([] : List Int) 0]] w16i S80 := Sep.pick [0, 1, 2, 3] hs (by decide) rfl
                 refine (wp_exit (then_exit (then_exit (blk_exit_eq ?_))))
                 obtain rfl := hr16 _ (Option.some.inj h).symm
                 exact then_normal ⟨S80, _, hF.sub _ (by kernel_rfl), hM1, hs⟩
               · obtain ⟨S81, F32, hF, hMx, hs⟩ := hM
                 have hM0 := hM0.trans hMx
                 refine wp_seq (wp_text' ?_)
                 refine s_loadBoxS ty75 rfl rfl hF rfl (hs.bx 0 rfl) rfl rfl fun fr hF => ?_
                 have hs : Sep [sl121 (L a10 x1 c10) rl15, sl121 (L a9 x2 c9) rl16, BX b2 75 [I 0, L none ([] : List D.Term) 0, L none ([] : List D.Term) 0, L none ([] : List Int) 0, I 0, L none ([] : List D.Term) 0, I 0, I 0, L none ([] : List D.Term) 0, L none ([] : List Int) 0]] w16o S81 := Sep.pick [1, 2, 3] hs (by decide) rfl
                 refine q_storeBoxS 2 hs hM0 rfl [I 0, L a10 x1 c10, L a9 x2 c9, L none ([] : List Int) 0, I 0, L none ([] : List D.Term) 0, I 0, I 0, L none ([] : List D.Term) 0, L none ([] : List Int) 0] rfl hF rfl rfl (by kernel_rfl) rfl rfl rfl fun w69 S83 hs hp hF => ?_
                 have hM0 := hM0.stp hp
                 have hs : Sep [sl121 (L a10 x1 c10) rl15, sl121 (L a9 x2 c9) rl16, BX b2 75 [I 0, L a10 x1 c10, L a9 x2 c9, L none ([] : List Int) 0, I 0, L none ([] : List D.Term) 0, I 0, I 0, L none ([] : List D.Term) 0, L none ([] : List Int) 0]] w69 S83 := hs
                 refine from_end rfl (then_normal ?_)
                 have hbr := (hs.bx 2 rfl)
                 have hs : Sep [sl3 (L none ([] : List Int) 0) ([] : List Int), sl121 (L a10 x1 c10) rl15, sl121 (L a9 x2 c9) rl16, BX b2 75 [I 0, L a10 x1 c10, L a9 x2 c9, L none ([] : List Int) 0, I 0, L none ([] : List D.Term) 0, I 0, I 0, L none ([] : List D.Term) 0, L none ([] : List Int) 0]] w69 S83 := hs.cons_nil (α := Int) 3
                 have hs : Sep [sl121 (L none ([] : List D.Term) 0) ([] : List D.Term), sl3 (L none ([] : List Int) 0) ([] : List Int), sl121 (L a10 x1 c10) rl15, sl121 (L a9 x2 c9) rl16, BX b2 75 [I 0, L a10 x1 c10, L a9 x2 c9, L none ([] : List Int) 0, I 0, L none ([] : List D.Term) 0, I 0, I 0, L none ([] : List D.Term) 0, L none ([] : List Int) 0]] w69 S83 := hs.cons_nil (α := D.Term) 121
                 have hs : Sep [sl121 (L none ([] : List D.Term) 0) ([] : List D.Term), sl121 (L none ([] : List D.Term) 0) ([] : List D.Term), sl3 (L none ([] : List Int) 0) ([] : List Int), sl121 (L a10 x1 c10) rl15, sl121 (L a9 x2 c9) rl16, BX b2 75 [I 0, L a10 x1 c10, L a9 x2 c9, L none ([] : List Int) 0, I 0, L none ([] : List D.Term) 0, I 0, I 0, L none ([] : List D.Term) 0, L none ([] : List Int) 0]] w69 S83 := hs.cons_nil (α := D.Term) 121
                 have hs : Sep [sl3 (L none ([] : List Int) 0) ([] : List Int), sl121 (L none ([] : List D.Term) 0) ([] : List D.Term), sl121 (L none ([] : List D.Term) 0) ([] : List D.Term), sl3 (L none ([] : List Int) 0) ([] : List Int), sl121 (L a10 x1 c10) rl15, sl121 (L a9 x2 c9) rl16, BX b2 75 [I 0, L a10 x1 c10, L a9 x2 c9, L none ([] : List Int) 0, I 0, L none ([] : List D.Term) 0, I 0, I 0, L none ([] : List D.Term) 0, L none ([] : List Int) 0]] w69 S83 := hs.cons_nil (α := Int) 3
                 obtain rfl := Option.some.inj h
                 have hs : Sep [sl121 (L a10 x1 c10) rl15, sl121 (L a9 x2 c9) rl16, sl3 (L none ([] : List Int) 0) ([] : List Int), sl121 (L none ([] : List D.Term) 0) ([] : List D.Term), sl121 (L none ([] : List D.Term) 0) ([] : List D.Term), sl3 (L none ([] : List Int) 0) ([] : List Int)] w69 S83 := Sep.pick [4, 5, 3, 2, 1, 0] hs (by decide) rfl
                 obtain ⟨he15, hs⟩ := hs.relen 0 rfl
                 have hs : Sep [sl121 (L a10 rl15 c10) rl15, sl121 (L a9 x2 c9) rl16, sl3 (L none ([] : List Int) 0) ([] : List Int), sl121 (L none ([] : List D.Term) 0) ([] : List D.Term), sl121 (L none ([] : List D.Term) 0) ([] : List D.Term), sl3 (L none ([] : List Int) 0) ([] : List Int)] w69 S83 := hs
                 obtain ⟨he16, hs⟩ := hs.relen 1 rfl
                 have hs : Sep [sl121 (L a10 rl15 c10) rl15, sl121 (L a9 rl16 c9) rl16, sl3 (L none ([] : List Int) 0) ([] : List Int), sl121 (L none ([] : List D.Term) 0) ([] : List D.Term), sl121 (L none ([] : List D.Term) 0) ([] : List D.Term), sl3 (L none ([] : List Int) 0) ([] : List Int)] w69 S83 := hs
                 exact wp_ret (retS rfl hF ty75 rfl rfl hbr rfl ⟨_, rfl, a10, c10, a9, c9, none, 0, none, 0, none, 0, none, 0, (by simp only [L, he15, he16]), S83, hM0.out, hs⟩)
       · refine op_of _ rfl rfl ?_
         refine q_alloc (z := .agg #[I 0, L none ([] : List D.Term) 0, L none ([] : List D.Term) 0, L none ([] : List Int) 0, I 0, L none ([] : List D.Term) 0, I 0, I 0, L none ([] : List D.Term) 0, L none ([] : List Int) 0]) hs hM0 [I 0, L none ([] : List D.Term) 0, L none ([] : List D.Term) 0, L none ([] : List Int) 0, I 0, L none ([] : List D.Term) 0, I 0, I 0, L none ([] : List D.Term) 0, L none ([] : List Int) 0] rfl rfl hF (by kernel_rfl) rfl fun b11 w70 S84 fr hs hp hF => ?_
         have r1 := r1.stp hM0 hp
         have hM0 := hM0.stp hp
         have hs : Sep [BX b11 75 [I 0, L none ([] : List D.Term) 0, L none ([] : List D.Term) 0, L none ([] : List Int) 0, I 0, L none ([] : List D.Term) 0, I 0, I 0, L none ([] : List D.Term) 0, L none ([] : List Int) 0], sl121 (L a10 x1 c10) x1, sl121 (L a9 x2 c9) x2, BX b2 75 [I 0, L none ([] : List D.Term) 0, L none ([] : List D.Term) 0, L none ([] : List Int) 0, I 0, L none ([] : List D.Term) 0, I 0, I 0, L none ([] : List D.Term) 0, L none ([] : List Int) 0], BX b1 30 [I p0.W, I p0.Mem, I p0.In, L a1 p0.Code c1]] w70 S84 := hs
         refine from_end rfl (then_normal ?_)
         refine any_node (fuel := 1) [4] (by kernel_rfl) (by simp) ⟨?_, trivial⟩
         · refine op_of _ rfl rfl ?_
           refine from_pure 1 [(1, B b1 0), (2, B b2 0), (3, B b11 0), (10, .agg #[I 0, L a10 x1 c10, L a9 x2 c9, L none ([] : List Int) 0, I 0, L none ([] : List D.Term) 0, I 0, I 0, L none ([] : List D.Term) 0, L none ([] : List Int) 0])] hF (by kernel_rfl) fun fr hF => ?_
           refine from_end rfl (then_normal ?_)
           refine any_node (fuel := 0) [6] (by kernel_rfl) (by simp) ⟨?_, trivial⟩
           · refine op_of _ rfl rfl ?_
             refine q_storeBoxS 0 hs hM0 rfl [I 0, L a10 x1 c10, L a9 x2 c9, L none ([] : List Int) 0, I 0, L none ([] : List D.Term) 0, I 0, I 0, L none ([] : List D.Term) 0, L none ([] : List Int) 0] rfl hF rfl rfl (by kernel_rfl) rfl rfl rfl fun w71 S85 hs hp hF => ?_
             have r1 := r1.stp hM0 hp
             have hM0 := hM0.stp hp
             have hs : Sep [BX b11 75 [I 0, L a10 x1 c10, L a9 x2 c9, L none ([] : List Int) 0, I 0, L none ([] : List D.Term) 0, I 0, I 0, L none ([] : List D.Term) 0, L none ([] : List Int) 0], sl121 (L a10 x1 c10) x1, sl121 (L a9 x2 c9) x2, BX b2 75 [I 0, L none ([] : List D.Term) 0, L none ([] : List D.Term) 0, L none ([] : List Int) 0, I 0, L none ([] : List D.Term) 0, I 0, I 0, L none ([] : List D.Term) 0, L none ([] : List Int) 0], BX b1 30 [I p0.W, I p0.Mem, I p0.In, L a1 p0.Code c1]] w71 S85 := hs
             refine from_end rfl (then_normal ?_)
             refine any_leaf (by kernel_rfl) (then_normal ?_)
             refine wp_seq ?_
             refine wp_seq (wp_text' ?_)
             refine from_pure 1 [(1, B b1 0), (2, B b2 0), (3, B b11 0), (11, B b11 1)] hF (by kernel_rfl) fun fr hF => ?_
             refine s_loadBox (L a10 x1 c10) ty73 rfl rfl hF rfl (hs.bx 0 rfl) rfl rfl fun fr hF => ?_
             refine from_pure 2 [(1, B b1 0), (2, B b2 0), (3, B b11 0), (13, I (len x1)), (14, I 0)] hF (by kernel_rfl) fun fr hF => ?_
             refine from_end rfl (then_normal ?_)
             obtain ⟨rl17, hit17, h⟩ := bindE h
             have hk17 := h
             refine (GL.wp_cut (M := fun fr w' => ∃ S87 F34, FrS 40 [(1, B b1 0), (2, B b2 0), (3, B b11 0)] fr ∧ Mem w71 S85 (fun k => (G0 k) ∧ k < w.heap.size) w' S87 F34 ∧ Sep [BX b11 75 [I 0, L a10 x1 c10, L a9 x2 c9, L none ([] : List Int) 0, I 0, L none ([] : List D.Term) 0, I 0, I 0, L none ([] : List D.Term) 0, L none ([] : List Int) 0], sl121 (L a10 x1 c10) rl17, sl121 (L a9 x2 c9) x2, BX b2 75 [I 0, L none ([] : List D.Term) 0, L none ([] : List D.Term) 0, L none ([] : List Int) 0, I 0, L none ([] : List D.Term) 0, I 0, I 0, L none ([] : List D.Term) 0, L none ([] : List Int) 0], BX b1 30 [I p0.W, I p0.Mem, I p0.In, L a1 p0.Code c1]] w' S87) (wp_block (wp_iter (Inv := fun s17 fr w' => ∃ S86 F33, FrS 40 [(1, B b1 0), (2, B b2 0), (3, B b11 0), (13, I (len x1)), (14, I s17.1)] fr ∧ Mem w71 S85 (fun k => (G0 k) ∧ k < w.heap.size) w' S86 F33 ∧ Sep [BX b11 75 [I 0, L a10 x1 c10, L a9 x2 c9, L none ([] : List Int) 0, I 0, L none ([] : List D.Term) 0, I 0, I 0, L none ([] : List D.Term) 0, L none ([] : List Int) 0], sl121 (L a10 x1 c10) s17.2, sl121 (L a9 x2 c9) x2, BX b2 75 [I 0, L none ([] : List D.Term) 0, L none ([] : List D.Term) 0, L none ([] : List Int) 0, I 0, L none ([] : List D.Term) 0, I 0, I 0, L none ([] : List D.Term) 0, L none ([] : List Int) 0], BX b1 30 [I p0.W, I p0.Mem, I p0.In, L a1 p0.Code c1]] w' S86) hit17 ⟨S85, _, hF.sub _ (by kernel_rfl), (Mem.start hM0.bd hM0.bdF hM0.dj), hs⟩ fun s17 q17 fr w17i hI h hr17 => ?_)) fun fr w17o hM => ?_)
             · obtain ⟨S86, F33, hF, hM1, hs⟩ := hI
               have r1 := r1.mem hM1
               refine wp_seq (wp_pure [(1, B b1 0), (2, B b2 0), (3, B b11 0), (13, I (len x1)), (14, I s17.1), (15, .bool (decide (s17.1 < (len x1))))] hF (by kernel_rfl) fun fr hF => then_normal ?_)
               refine wp_seq (wp_if hF (b := (decide (s17.1 < (len x1)))) rfl (fun hb => ?_) (fun hb => ?_))
               · replace h := iteT hb h
                 refine (wp_skip (then_normal ?_))
                 refine wp_seq (wp_block ?_)
                 refine wp_seq (wp_pure [(1, B b1 0), (2, B b2 0), (3, B b11 0), (4, I s17.1), (13, I (len x1)), (14, I s17.1)] hF (by kernel_rfl) fun fr hF => then_normal ?_)
                 obtain ⟨x35, hx35, h⟩ := bindE h
                 refine (region_bm 6 [0, 1, 0, 0, 8, 24, 63, 127] [true, false, true, true, false, false]
                     [.eq (B b11 1), .eq (L a10 x1 c10), .eq (I s17.1), .eq (B b1 0), .eq (I p0.W), .eq (.agg #[I x35.Op, I x35.W, I x35.N, Str.val x35.Name, L none ([] : List D.Term) 0]), .any, .any]
                     [(1, B b1 0), (2, B b2 0), (3, B b11 0), (13, I (len x1)), (14, I s17.1), (18, L a10 x1 c10), (19, I s17.1), (22, .agg #[I x35.Op, I x35.W, I x35.N, Str.val x35.Name, L none ([] : List D.Term) 0])] mix hF (by kernel_rfl) (by kernel_rfl) (by kernel_rfl) (by kernel_rfl) ⟨Pd.monoO_eq, Pd.monoO_eq, Pd.monoO_eq, trivial⟩ (fun ow hG => ⟨np_to ow (np_loadBox hG hF ty73 rfl rfl (hs.bx 0 rfl) rfl rfl rfl), np_to ow (np_loadBox hG hF ty3 rfl rfl (hs.bx 4 rfl) rfl rfl rfl), np_to ow (np_call [I p0.W, I 0] hG hF Try.call129 rfl rfl (fun w hC hg => (impl_ConstTerm_ok p0.W 0 hx35).mono fun e w' ⟨v, he, hv, hc⟩ => ⟨v, he, hc, hv⟩)), trivial⟩) (by kernel_rfl) fun ow fr w72 hF hE hc => ?_)
                 have r1 := r1.ext hc
                 have hs := hs.ext hc
                 have hM1 := hM1.ext hc
                 obtain ⟨x36, hx36, h⟩ := bindE h
                 refine q_set (q := x35) 1 hs hM1 rfl Try.underlying73 ty121 rfl rfl rfl rfl hF rfl rfl (by simp) rfl rfl hx36 fun w73 S88 fr _ hs hp hF => ?_
                 have r1 := r1.stp hM1 hp
                 have hM1 := hM1.stp hp
                 have hs : Sep [BX b11 75 [I 0, L a10 x1 c10, L a9 x2 c9, L none ([] : List Int) 0, I 0, L none ([] : List D.Term) 0, I 0, I 0, L none ([] : List D.Term) 0, L none ([] : List Int) 0], sl121 (L a10 x1 c10) x36, sl121 (L a9 x2 c9) x2, BX b2 75 [I 0, L none ([] : List D.Term) 0, L none ([] : List D.Term) 0, L none ([] : List Int) 0, I 0, L none ([] : List D.Term) 0, I 0, I 0, L none ([] : List D.Term) 0, L none ([] : List Int) 0], BX b1 30 [I p0.W, I p0.Mem, I p0.In, L a1 p0.Code c1]] w73 S88 := hs
                 refine from_end rfl ?_
                 refine blk_normal (then_normal ?_)
                 refine (wp_pure [(1, B b1 0), (2, B b2 0), (3, B b11 0), (13, I (len x1)), (14, I (w64 (s17.1 + 1)))] hF (by kernel_rfl) fun fr hF => then_normal ?_)
                 exact ⟨_, (Option.some.inj h).symm, S88, _, hF.sub _ (by kernel_rfl), hM1, hs⟩
               replace h := iteF hb h
               refine (wp_exit (then_exit (then_exit (blk_exit_eq ?_))))
               obtain rfl := hr17 _ (Option.some.inj h).symm
               exact then_normal ⟨S86, _, hF.sub _ (by kernel_rfl), hM1, hs⟩
             · obtain ⟨S87, F34, hF, hMx, hs⟩ := hM
               have r1 := r1.mem hMx
               have hM0 := hM0.trans hMx
               refine wp_seq ?_
               refine wp_seq (wp_text' ?_)
               refine from_pure 1 [(1, B b1 0), (2, B b2 0), (3, B b11 0), (25, B b11 2)] hF (by kernel_rfl) fun fr hF => ?_
               refine s_loadBox (L a9 x2 c9) ty73 rfl rfl hF rfl (hs.bx 0 rfl) rfl rfl fun fr hF => ?_
               refine from_pure 2 [(1, B b1 0), (2, B b2 0), (3, B b11 0), (27, I (len x2)), (28, I 0)] hF (by kernel_rfl) fun fr hF => ?_
               refine from_end rfl (then_normal ?_)
               obtain ⟨rl18, hit18, h⟩ := bindE h
               have hk18 := h
               refine (GL.wp_cut (M := fun fr w' => ∃ S90 F36, FrS 40 [(2, B b2 0), (3, B b11 0)] fr ∧ Mem w17o S87 F34 w' S90 F36 ∧ Sep [BX b11 75 [I 0, L a10 x1 c10, L a9 x2 c9, L none ([] : List Int) 0, I 0, L none ([] : List D.Term) 0, I 0, I 0, L none ([] : List D.Term) 0, L none ([] : List Int) 0], sl121 (L a10 x1 c10) rl17, sl121 (L a9 x2 c9) rl18, BX b2 75 [I 0, L none ([] : List D.Term) 0, L none ([] : List D.Term) 0, L none ([] : List Int) 0, I 0, L none ([] : List D.Term) 0, I 0, I 0, L none ([] : List D.Term) 0, L none ([] : List Int) 0]] w' S90) (wp_block (wp_iter (Inv := fun s18 fr w' => ∃ S89 F35, FrS 40 [(1, B b1 0), (2, B b2 0), (3, B b11 0), (27, I (len x2)), (28, I s18.1)] fr ∧ Mem w17o S87 F34 w' S89 F35 ∧ Sep [BX b11 75 [I 0, L a10 x1 c10, L a9 x2 c9, L none ([] : List Int) 0, I 0, L none ([] : List D.Term) 0, I 0, I 0, L none ([] : List D.Term) 0, L none ([] : List Int) 0], sl121 (L a10 x1 c10) rl17, sl121 (L a9 x2 c9) s18.2, BX b2 75 [I 0, L none ([] : List D.Term) 0, L none ([] : List D.Term) 0, L none ([] : List Int) 0, I 0, L none ([] : List D.Term) 0, I 0, I 0, L none ([] : List D.Term) 0, L none ([] : List Int) 0], BX b1 30 [I p0.W, I p0.Mem, I p0.In, L a1 p0.Code c1]] w' S89) hit18 ⟨S87, _, hF.sub _ (by kernel_rfl), (Mem.start hM0.bd hM0.bdF hM0.dj), hs⟩ fun s18 q18 fr w18i hI h hr18 => ?_)) fun fr w18o hM => ?_)
               · obtain ⟨S89, F35, hF, hM1, hs⟩ := hI
                 have r1 := r1.mem hM1
                 refine wp_seq (wp_pure [(1, B b1 0), (2, B b2 0), (3, B b11 0), (27, I (len x2)), (28, I s18.1), (29, .bool (decide (s18.1 < (len x2))))] hF (by kernel_rfl) fun fr hF => then_normal ?_)
                 refine wp_seq (wp_if hF (b := (decide (s18.1 < (len x2)))) rfl (fun hb => ?_) (fun hb => ?_))
                 · replace h := iteT hb h
                   refine (wp_skip (then_normal ?_))
                   refine wp_seq (wp_block ?_)
                   refine wp_seq (wp_pure [(1, B b1 0), (2, B b2 0), (3, B b11 0), (5, I s18.1), (27, I (len x2)), (28, I s18.1)] hF (by kernel_rfl) fun fr hF => then_normal ?_)
                   obtain ⟨x37, hx37, h⟩ := bindE h
                   refine (region_bm 6 [0, 1, 0, 0, 8, 24, 63, 127] [true, false, true, true, false, false]
                       [.eq (B b11 2), .eq (L a9 x2 c9), .eq (I s18.1), .eq (B b1 0), .eq (I p0.W), .eq (.agg #[I x37.Op, I x37.W, I x37.N, Str.val x37.Name, L none ([] : List D.Term) 0]), .any, .any]
                       [(1, B b1 0), (2, B b2 0), (3, B b11 0), (27, I (len x2)), (28, I s18.1), (32, L a9 x2 c9), (33, I s18.1), (36, .agg #[I x37.Op, I x37.W, I x37.N, Str.val x37.Name, L none ([] : List D.Term) 0])] mix hF (by kernel_rfl) (by kernel_rfl) (by kernel_rfl) (by kernel_rfl) ⟨Pd.monoO_eq, Pd.monoO_eq, Pd.monoO_eq, trivial⟩ (fun ow hG => ⟨np_to ow (np_loadBox hG hF ty73 rfl rfl (hs.bx 0 rfl) rfl rfl rfl), np_to ow (np_loadBox hG hF ty3 rfl rfl (hs.bx 4 rfl) rfl rfl rfl), np_to ow (np_call [I p0.W, I 0] hG hF Try.call129 rfl rfl (fun w hC hg => (impl_ConstTerm_ok p0.W 0 hx37).mono fun e w' ⟨v, he, hv, hc⟩ => ⟨v, he, hc, hv⟩)), trivial⟩) (by kernel_rfl) fun ow fr w74 hF hE hc => ?_)
                   have r1 := r1.ext hc
                   have hs := hs.ext hc
                   have hM1 := hM1.ext hc
                   obtain ⟨x38, hx38, h⟩ := bindE h
                   refine q_set (q := x37) 2 hs hM1 rfl Try.underlying73 ty121 rfl rfl rfl rfl hF rfl rfl (by simp) rfl rfl hx38 fun w75 S91 fr _ hs hp hF => ?_
                   have r1 := r1.stp hM1 hp
                   have hM1 := hM1.stp hp
                   have hs : Sep [BX b11 75 [I 0, L a10 x1 c10, L a9 x2 c9, L none ([] : List Int) 0, I 0, L none ([] : List D.Term) 0, I 0, I 0, L none ([] : List D.Term) 0, L none ([] : List Int) 0], sl121 (L a10 x1 c10) rl17, sl121 (L a9 x2 c9) x38, BX b2 75 [I 0, L none ([] : List D.Term) 0, L none ([] : List D.Term) 0, L none ([] : List Int) 0, I 0, L none ([] : List D.Term) 0, I 0, I 0, L none ([] : List D.Term) 0, L none ([] : List Int) 0], BX b1 30 [I p0.W, I p0.Mem, I p0.In, L a1 p0.Code c1]] w75 S91 := hs
                   refine from_end rfl ?_
                   refine blk_normal (then_normal ?_)
                   refine (wp_pure [(1, B b1 0), (2, B b2 0), (3, B b11 0), (27, I (len x2)), (28, I (w64 (s18.1 + 1)))] hF (by kernel_rfl) fun fr hF => then_normal ?_)
                   exact ⟨_, (Option.some.inj h).symm, S91, _, hF.sub _ (by kernel_rfl), hM1, hs⟩
                 replace h := iteF hb h
                 have hs : Sep [BX b11 75 [I 0, L a10 x1 c10, L a9 x2 c9, L none ([] : List Int) 0, I 0, L none ([] : List D.Term) 0, I 0, I 0, L none ([] : List D.Term) 0, L none ([] : List Int) 0], sl121 (L a10 x1 c10) rl17, sl121 (L a9 x2 c9) s18.2, BX b2 75 [I 0, L none ([] : List D.Term) 0, L none ([] : List D.Term) 0, L none ([] : List Int) 0, I 0, L none ([] : List D.Term) 0, I 0, I 0, L none ([] : List D.Term) 0, L none ([] : List Int) 0]] w18i S89 := Sep.pick [0, 1, 2, 3] hs (by decide) rfl
                 refine (wp_exit (then_exit (then_exit (blk_exit_eq ?_))))
                 obtain rfl := hr18 _ (Option.some.inj h).symm
                 exact then_normal ⟨S89, _, hF.sub _ (by kernel_rfl), hM1, hs⟩
               · obtain ⟨S90, F36, hF, hMx, hs⟩ := hM
                 have hM0 := hM0.trans hMx
                 refine wp_seq (wp_text' ?_)
                 refine s_loadBoxS ty75 rfl rfl hF rfl (hs.bx 0 rfl) rfl rfl fun fr hF => ?_
                 have hs : Sep [sl121 (L a10 x1 c10) rl17, sl121 (L a9 x2 c9) rl18, BX b2 75 [I 0, L none ([] : List D.Term) 0, L none ([] : List D.Term) 0, L none ([] : List Int) 0, I 0, L none ([] : List D.Term) 0, I 0, I 0, L none ([] : List D.Term) 0, L none ([] : List Int) 0]] w18o S90 := Sep.pick [1, 2, 3] hs (by decide) rfl
                 refine q_storeBoxS 2 hs hM0 rfl [I 0, L a10 x1 c10, L a9 x2 c9, L none ([] : List Int) 0, I 0, L none ([] : List D.Term) 0, I 0, I 0, L none ([] : List D.Term) 0, L none ([] : List Int) 0] rfl hF rfl rfl (by kernel_rfl) rfl rfl rfl fun w76 S92 hs hp hF => ?_
                 have hM0 := hM0.stp hp
                 have hs : Sep [sl121 (L a10 x1 c10) rl17, sl121 (L a9 x2 c9) rl18, BX b2 75 [I 0, L a10 x1 c10, L a9 x2 c9, L none ([] : List Int) 0, I 0, L none ([] : List D.Term) 0, I 0, I 0, L none ([] : List D.Term) 0, L none ([] : List Int) 0]] w76 S92 := hs
                 refine from_end rfl (then_normal ?_)
                 have hbr := (hs.bx 2 rfl)
                 have hs : Sep [sl3 (L none ([] : List Int) 0) ([] : List Int), sl121 (L a10 x1 c10) rl17, sl121 (L a9 x2 c9) rl18, BX b2 75 [I 0, L a10 x1 c10, L a9 x2 c9, L none ([] : List Int) 0, I 0, L none ([] : List D.Term) 0, I 0, I 0, L none ([] : List D.Term) 0, L none ([] : List Int) 0]] w76 S92 := hs.cons_nil (α := Int) 3
                 have hs : Sep [sl121 (L none ([] : List D.Term) 0) ([] : List D.Term), sl3 (L none ([] : List Int) 0) ([] : List Int), sl121 (L a10 x1 c10) rl17, sl121 (L a9 x2 c9) rl18, BX b2 75 [I 0, L a10 x1 c10, L a9 x2 c9, L none ([] : List Int) 0, I 0, L none ([] : List D.Term) 0, I 0, I 0, L none ([] : List D.Term) 0, L none ([] : List Int) 0]] w76 S92 := hs.cons_nil (α := D.Term) 121
                 have hs : Sep [sl121 (L none ([] : List D.Term) 0) ([] : List D.Term), sl121 (L none ([] : List D.Term) 0) ([] : List D.Term), sl3 (L none ([] : List Int) 0) ([] : List Int), sl121 (L a10 x1 c10) rl17, sl121 (L a9 x2 c9) rl18, BX b2 75 [I 0, L a10 x1 c10, L a9 x2 c9, L none ([] : List Int) 0, I 0, L none ([] : List D.Term) 0, I 0, I 0, L none ([] : List D.Term) 0, L none ([] : List Int) 0]] w76 S92 := hs.cons_nil (α := D.Term) 121
                 have hs : Sep [sl3 (L none ([] : List Int) 0) ([] : List Int), sl121 (L none ([] : List D.Term) 0) ([] : List D.Term), sl121 (L none ([] : List D.Term) 0) ([] : List D.Term), sl3 (L none ([] : List Int) 0) ([] : List Int), sl121 (L a10 x1 c10) rl17, sl121 (L a9 x2 c9) rl18, BX b2 75 [I 0, L a10 x1 c10, L a9 x2 c9, L none ([] : List Int) 0, I 0, L none ([] : List D.Term) 0, I 0, I 0, L none ([] : List D.Term) 0, L none ([] : List Int) 0]] w76 S92 := hs.cons_nil (α := Int) 3
                 obtain rfl := Option.some.inj h
                 have hs : Sep [sl121 (L a10 x1 c10) rl17, sl121 (L a9 x2 c9) rl18, sl3 (L none ([] : List Int) 0) ([] : List Int), sl121 (L none ([] : List D.Term) 0) ([] : List D.Term), sl121 (L none ([] : List D.Term) 0) ([] : List D.Term), sl3 (L none ([] : List Int) 0) ([] : List Int)] w76 S92 := Sep.pick [4, 5, 3, 2, 1, 0] hs (by decide) rfl
                 obtain ⟨he17, hs⟩ := hs.relen 0 rfl
                 have hs : Sep [sl121 (L a10 rl17 c10) rl17, sl121 (L a9 x2 c9) rl18, sl3 (L none ([] : List Int) 0) ([] : List Int), sl121 (L none ([] : List D.Term) 0) ([] : List D.Term), sl121 (L none ([] : List D.Term) 0) ([] : List D.Term), sl3 (L none ([] : List Int) 0) ([] : List Int)] w76 S92 := hs
                 obtain ⟨he18, hs⟩ := hs.relen 1 rfl
                 have hs : Sep [sl121 (L a10 rl17 c10) rl17, sl121 (L a9 rl18 c9) rl18, sl3 (L none ([] : List Int) 0) ([] : List Int), sl121 (L none ([] : List D.Term) 0) ([] : List D.Term), sl121 (L none ([] : List D.Term) 0) ([] : List D.Term), sl3 (L none ([] : List Int) 0) ([] : List Int)] w76 S92 := hs
                 exact wp_ret (retS rfl hF ty75 rfl rfl hbr rfl ⟨_, rfl, a10, c10, a9, c9, none, 0, none, 0, none, 0, none, 0, (by simp only [L, he17, he18]), S92, hM0.out, hs⟩)
     · refine op_of _ rfl rfl ?_
       refine q_alloc (z := .agg #[I 0, L none ([] : List D.Term) 0, L none ([] : List D.Term) 0, L none ([] : List Int) 0, I 0, L none ([] : List D.Term) 0, I 0, I 0, L none ([] : List D.Term) 0, L none ([] : List Int) 0]) hs hM0 [I 0, L none ([] : List D.Term) 0, L none ([] : List D.Term) 0, L none ([] : List Int) 0, I 0, L none ([] : List D.Term) 0, I 0, I 0, L none ([] : List D.Term) 0, L none ([] : List Int) 0] rfl rfl hF (by kernel_rfl) rfl fun b12 w77 S93 fr hs hp hF => ?_
       have r1 := r1.stp hM0 hp
       have hM0 := hM0.stp hp
       have hs : Sep [BX b12 75 [I 0, L none ([] : List D.Term) 0, L none ([] : List D.Term) 0, L none ([] : List Int) 0, I 0, L none ([] : List D.Term) 0, I 0, I 0, L none ([] : List D.Term) 0, L none ([] : List Int) 0], sl121 (L a9 x2 c9) x2, BX b2 75 [I 0, L none ([] : List D.Term) 0, L none ([] : List D.Term) 0, L none ([] : List Int) 0, I 0, L none ([] : List D.Term) 0, I 0, I 0, L none ([] : List D.Term) 0, L none ([] : List Int) 0], BX b1 30 [I p0.W, I p0.Mem, I p0.In, L a1 p0.Code c1]] w77 S93 := hs
       refine from_end rfl (then_normal ?_)
       refine any_node (fuel := 2) [0] (by kernel_rfl) (by simp) ⟨?_, trivial⟩
       · refine op_of _ rfl rfl ?_
         refine q_make hs hM0 Try.underlying73 el121 (zero_flat _ (by kernel_rfl)) rfl rfl hF rfl rfl hx1 fun a11 c11 w78 S94 fr hs hp hF => ?_
         have r1 := r1.stp hM0 hp
         have hM0 := hM0.stp hp
         have hs : Sep [sl121 (L a11 x1 c11) x1, BX b12 75 [I 0, L none ([] : List D.Term) 0, L none ([] : List D.Term) 0, L none ([] : List Int) 0, I 0, L none ([] : List D.Term) 0, I 0, I 0, L none ([] : List D.Term) 0, L none ([] : List Int) 0], sl121 (L a9 x2 c9) x2, BX b2 75 [I 0, L none ([] : List D.Term) 0, L none ([] : List D.Term) 0, L none ([] : List Int) 0, I 0, L none ([] : List D.Term) 0, I 0, I 0, L none ([] : List D.Term) 0, L none ([] : List Int) 0], BX b1 30 [I p0.W, I p0.Mem, I p0.In, L a1 p0.Code c1]] w78 S94 := hs
         refine from_end rfl (then_normal ?_)
         refine any_node (fuel := 1) [4] (by kernel_rfl) (by simp) ⟨?_, trivial⟩
         · refine op_of _ rfl rfl ?_
           refine from_pure 1 [(1, B b1 0), (2, B b2 0), (3, B b12 0), (10, .agg #[I 0, L a11 x1 c11, L a9 x2 c9, L none ([] : List Int) 0, I 0, L none ([] : List D.Term) 0, I 0, I 0, L none ([] : List D.Term) 0, L none ([] : List Int) 0])] hF (by kernel_rfl) fun fr hF => ?_
           refine from_end rfl (then_normal ?_)
           refine any_node (fuel := 0) [6] (by kernel_rfl) (by simp) ⟨?_, trivial⟩
           · refine op_of _ rfl rfl ?_
             refine q_storeBoxS 1 hs hM0 rfl [I 0, L a11 x1 c11, L a9 x2 c9, L none ([] : List Int) 0, I 0, L none ([] : List D.Term) 0, I 0, I 0, L none ([] : List D.Term) 0, L none ([] : List Int) 0] rfl hF rfl rfl (by kernel_rfl) rfl rfl rfl fun w79 S95 hs hp hF => ?_
             have r1 := r1.stp hM0 hp
             have hM0 := hM0.stp hp
             have hs : Sep [sl121 (L a11 x1 c11) x1, BX b12 75 [I 0, L a11 x1 c11, L a9 x2 c9, L none ([] : List Int) 0, I 0, L none ([] : List D.Term) 0, I 0, I 0, L none ([] : List D.Term) 0, L none ([] : List Int) 0], sl121 (L a9 x2 c9) x2, BX b2 75 [I 0, L none ([] : List D.Term) 0, L none ([] : List D.Term) 0, L none ([] : List Int) 0, I 0, L none ([] : List D.Term) 0, I 0, I 0, L none ([] : List D.Term) 0, L none ([] : List Int) 0], BX b1 30 [I p0.W, I p0.Mem, I p0.In, L a1 p0.Code c1]] w79 S95 := hs
             refine from_end rfl (then_normal ?_)
             refine any_leaf (by kernel_rfl) (then_normal ?_)
             refine wp_seq ?_
             refine wp_seq (wp_text' ?_)
             refine from_pure 1 [(1, B b1 0), (2, B b2 0), (3, B b12 0), (11, B b12 1)] hF (by kernel_rfl) fun fr hF => ?_
             refine s_loadBox (L a11 x1 c11) ty73 rfl rfl hF rfl (hs.bx 1 rfl) rfl rfl fun fr hF => ?_
             refine from_pure 2 [(1, B b1 0), (2, B b2 0), (3, B b12 0), (13, I (len x1)), (14, I 0)] hF (by kernel_rfl) fun fr hF => ?_
             refine from_end rfl (then_normal ?_)
             obtain ⟨rl19, hit19, h⟩ := bindE h
             have hk19 := h
             refine (GL.wp_cut (M := fun fr w' => ∃ S97 F38, FrS 40 [(1, B b1 0), (2, B b2 0), (3, B b12 0)] fr ∧ Mem w79 S95 (fun k => (G0 k) ∧ k < w.heap.size) w' S97 F38 ∧ Sep [sl121 (L a11 x1 c11) rl19, BX b12 75 [I 0, L a11 x1 c11, L a9 x2 c9, L none ([] : List Int) 0, I 0, L none ([] : List D.Term) 0, I 0, I 0, L none ([] : List D.Term) 0, L none ([] : List Int) 0], sl121 (L a9 x2 c9) x2, BX b2 75 [I 0, L none ([] : List D.Term) 0, L none ([] : List D.Term) 0, L none ([] : List Int) 0, I 0, L none ([] : List D.Term) 0, I 0, I 0, L none ([] : List D.Term) 0, L none ([] : List Int) 0], BX b1 30 [I p0.W, I p0.Mem, I p0.In, L a1 p0.Code c1]] w' S97) (wp_block (wp_iter (Inv := fun s19 fr w' => ∃ S96 F37, FrS 40 [(1, B b1 0), (2, B b2 0), (3, B b12 0), (13, I (len x1)), (14, I s19.1)] fr ∧ Mem w79 S95 (fun k => (G0 k) ∧ k < w.heap.size) w' S96 F37 ∧ Sep [sl121 (L a11 x1 c11) s19.2, BX b12 75 [I 0, L a11 x1 c11, L a9 x2 c9, L none ([] : List Int) 0, I 0, L none ([] : List D.Term) 0, I 0, I 0, L none ([] : List D.Term) 0, L none ([] : List Int) 0], sl121 (L a9 x2 c9) x2, BX b2 75 [I 0, L none ([] : List D.Term) 0, L none ([] : List D.Term) 0, L none ([] : List Int) 0, I 0, L none ([] : List D.Term) 0, I 0, I 0, L none ([] : List D.Term) 0, L none ([] : List Int) 0], BX b1 30 [I p0.W, I p0.Mem, I p0.In, L a1 p0.Code c1]] w' S96) hit19 ⟨S95, _, hF.sub _ (by kernel_rfl), (Mem.start hM0.bd hM0.bdF hM0.dj), hs⟩ fun s19 q19 fr w19i hI h hr19 => ?_)) fun fr w19o hM => ?_)
             · obtain ⟨S96, F37, hF, hM1, hs⟩ := hI
               have r1 := r1.mem hM1
               refine wp_seq (wp_pure [(1, B b1 0), (2, B b2 0), (3, B b12 0), (13, I (len x1)), (14, I s19.1), (15, .bool (decide (s19.1 < (len x1))))] hF (by kernel_rfl) fun fr hF => then_normal ?_)
               refine wp_seq (wp_if hF (b := (decide (s19.1 < (len x1)))) rfl (fun hb => ?_) (fun hb => ?_))
               · replace h := iteT hb h
                 refine (wp_skip (then_normal ?_))
                 refine wp_seq (wp_block ?_)
                 refine wp_seq (wp_pure [(1, B b1 0), (2, B b2 0), (3, B b12 0), (4, I s19.1), (13, I (len x1)), (14, I s19.1)] hF (by kernel_rfl) fun fr hF => then_normal ?_)
                 obtain ⟨x39, hx39, h⟩ := bindE h
                 refine (region_bm 6 [0, 1, 0, 0, 8, 24, 63, 127] [true, false, true, true, false, false]
                     [.eq (B b12 1), .eq (L a11 x1 c11), .eq (I s19.1), .eq (B b1 0), .eq (I p0.W), .eq (.agg #[I x39.Op, I x39.W, I x39.N, Str.val x39.Name, L none ([] : List D.Term) 0]), .any, .any]
                     [(1, B b1 0), (2, B b2 0), (3, B b12 0), (13, I (len x1)), (14, I s19.1), (18, L a11 x1 c11), (19, I s19.1), (22, .agg #[I x39.Op, I x39.W, I x39.N, Str.val x39.Name, L none ([] : List D.Term) 0])] mix hF (by kernel_rfl) (by kernel_rfl) (by kernel_rfl) (by kernel_rfl) ⟨Pd.monoO_eq, Pd.monoO_eq, Pd.monoO_eq, trivial⟩ (fun ow hG => ⟨np_to ow (np_loadBox hG hF ty73 rfl rfl (hs.bx 1 rfl) rfl rfl rfl), np_to ow (np_loadBox hG hF ty3 rfl rfl (hs.bx 4 rfl) rfl rfl rfl), np_to ow (np_call [I p0.W, I 0] hG hF Try.call129 rfl rfl (fun w hC hg => (impl_ConstTerm_ok p0.W 0 hx39).mono fun e w' ⟨v, he, hv, hc⟩ => ⟨v, he, hc, hv⟩)), trivial⟩) (by kernel_rfl) fun ow fr w80 hF hE hc => ?_)
                 have r1 := r1.ext hc
                 have hs := hs.ext hc
                 have hM1 := hM1.ext hc
                 obtain ⟨x40, hx40, h⟩ := bindE h
                 refine q_set (q := x39) 0 hs hM1 rfl Try.underlying73 ty121 rfl rfl rfl rfl hF rfl rfl (by simp) rfl rfl hx40 fun w81 S98 fr _ hs hp hF => ?_
                 have r1 := r1.stp hM1 hp
                 have hM1 := hM1.stp hp
                 have hs : Sep [sl121 (L a11 x1 c11) x40, BX b12 75 [I 0, L a11 x1 c11, L a9 x2 c9, L none ([] : List Int) 0, I 0, L none ([] : List D.Term) 0, I 0, I 0, L none ([] : List D.Term) 0, L none ([] : List Int) 0], sl121 (L a9 x2 c9) x2, BX b2 75 [I 0, L none ([] : List D.Term) 0, L none ([] : List D.Term) 0, L none ([] : List Int) 0, I 0, L none ([] : List D.Term) 0, I 0, I 0, L none ([] : List D.Term) 0, L none ([] : List Int) 0], BX b1 30 [I p0.W, I p0.Mem, I p0.In, L a1 p0.Code c1]] w81 S98 := hs
                 refine from_end rfl ?_
                 refine blk_normal (then_normal ?_)
                 refine (wp_pure [(1, B b1 0), (2, B b2 0), (3, B b12 0), (13, I (len x1)), (14, I (w64 (s19.1 + 1)))] hF (by kernel_rfl) fun fr hF => then_normal ?_)
                 exact ⟨_, (Option.some.inj h).symm, S98, _, hF.sub _ (by kernel_rfl), hM1, hs⟩
               replace h := iteF hb h
               refine (wp_exit (then_exit (then_exit (blk_exit_eq ?_))))
               obtain rfl := hr19 _ (Option.some.inj h).symm
               exact then_normal ⟨S96, _, hF.sub _ (by kernel_rfl), hM1, hs⟩
             · obtain ⟨S97, F38, hF, hMx, hs⟩ := hM
               have r1 := r1.mem hMx
               have hM0 := hM0.trans hMx
               refine wp_seq ?_
               refine wp_seq (wp_text' ?_)
               refine from_pure 1 [(1, B b1 0), (2, B b2 0), (3, B b12 0), (25, B b12 2)] hF (by kernel_rfl) fun fr hF => ?_
               refine s_loadBox (L a9 x2 c9) ty73 rfl rfl hF rfl (hs.bx 1 rfl) rfl rfl fun fr hF => ?_
               refine from_pure 2 [(1, B b1 0), (2, B b2 0), (3, B b12 0), (27, I (len x2)), (28, I 0)] hF (by kernel_rfl) fun fr hF => ?_
               refine from_end rfl (then_normal ?_)
               obtain ⟨rl20, hit20, h⟩ := bindE h
               have hk20 := h
               refine (GL.wp_cut (M := fun fr w' => ∃ S100 F40, FrS 40 [(2, B b2 0), (3, B b12 0)] fr ∧ Mem w19o S97 F38 w' S100 F40 ∧ Sep [sl121 (L a11 x1 c11) rl19, BX b12 75 [I 0, L a11 x1 c11, L a9 x2 c9, L none ([] : List Int) 0, I 0, L none ([] : List D.Term) 0, I 0, I 0, L none ([] : List D.Term) 0, L none ([] : List Int) 0], sl121 (L a9 x2 c9) rl20, BX b2 75 [I 0, L none ([] : List D.Term) 0, L none ([] : List D.Term) 0, L none ([] : List Int) 0, I 0, L none ([] : List D.Term) 0, I 0, I 0, L none ([] : List D.Term) 0, L none ([] : List Int) 0]] w' S100) (wp_block (wp_iter (Inv := fun s20 fr w' => ∃ S99 F39, FrS 40 [(1, B b1 0), (2, B b2 0), (3, B b12 0), (27, I (len x2)), (28, I s20.1)] fr ∧ Mem w19o S97 F38 w' S99 F39 ∧ Sep [sl121 (L a11 x1 c11) rl19, BX b12 75 [I 0, L a11 x1 c11, L a9 x2 c9, L none ([] : List Int) 0, I 0, L none ([] : List D.Term) 0, I 0, I 0, L none ([] : List D.Term) 0, L none ([] : List Int) 0], sl121 (L a9 x2 c9) s20.2, BX b2 75 [I 0, L none ([] : List D.Term) 0, L none ([] : List D.Term) 0, L none ([] : List Int) 0, I 0, L none ([] : List D.Term) 0, I 0, I 0, L none ([] : List D.Term) 0, L none ([] : List Int) 0], BX b1 30 [I p0.W, I p0.Mem, I p0.In, L a1 p0.Code c1]] w' S99) hit20 ⟨S97, _, hF.sub _ (by kernel_rfl), (Mem.start hM0.bd hM0.bdF hM0.dj), hs⟩ fun s20 q20 fr w20i hI h hr20 => ?_)) fun fr w20o hM => ?_)
               · obtain ⟨S99, F39, hF, hM1, hs⟩ := hI
                 have r1 := r1.mem hM1
                 refine wp_seq (wp_pure [(1, B b1 0), (2, B b2 0), (3, B b12 0), (27, I (len x2)), (28, I s20.1), (29, .bool (decide (s20.1 < (len x2))))] hF (by kernel_rfl) fun fr hF => then_normal ?_)
                 refine wp_seq (wp_if hF (b := (decide (s20.1 < (len x2)))) rfl (fun hb => ?_) (fun hb => ?_))
                 · replace h := iteT hb h
                   refine (wp_skip (then_normal ?_))
                   refine wp_seq (wp_block ?_)
                   refine wp_seq (wp_pure [(1, B b1 0), (2, B b2 0), (3, B b12 0), (5, I s20.1), (27, I (len x2)), (28, I s20.1)] hF (by kernel_rfl) fun fr hF => then_normal ?_)
                   obtain ⟨x41, hx41, h⟩ := bindE h
                   refine (region_bm 6 [0, 1, 0, 0, 8, 24, 63, 127] [true, false, true, true, false, false]
                       [.eq (B b12 2), .eq (L a9 x2 c9), .eq (I s20.1), .eq (B b1 0), .eq (I p0.W), .eq (.agg #[I x41.Op, I x41.W, I x41.N, Str.val x41.Name, L none ([] : List D.Term) 0]), .any, .any]
                       [(1, B b1 0), (2, B b2 0), (3, B b12 0), (27, I (len x2)), (28, I s20.1), (32, L a9 x2 c9), (33, I s20.1), (36, .agg #[I x41.Op, I x41.W, I x41.N, Str.val x41.Name, L none ([] : List D.Term) 0])] mix hF (by kernel_rfl) (by kernel_rfl) (by kernel_rfl) (by kernel_rfl) ⟨Pd.monoO_eq, Pd.monoO_eq, Pd.monoO_eq, trivial⟩ (fun ow hG => ⟨np_to ow (np_loadBox hG hF ty73 rfl rfl (hs.bx 1 rfl) rfl rfl rfl), np_to ow (np_loadBox hG hF ty3 rfl rfl (hs.bx 4 rfl) rfl rfl rfl), np_to ow (np_call [I p0.W, I 0] hG hF Try.call129 rfl rfl (fun w hC hg => (impl_ConstTerm_ok p0.W 0 hx41).mono fun e w' ⟨v, he, hv, hc⟩ => ⟨v, he, hc, hv⟩)), trivial⟩) (by kernel_rfl) fun ow fr w82 hF hE hc => ?_)
                   have r1 := r1.ext hc
                   have hs := hs.ext hc
                   have hM1 := hM1.ext hc
                   obtain ⟨x42, hx42, h⟩ := bindE h
                   refine q_set (q := x41) 2 hs hM1 rfl Try.underlying73 ty121 rfl rfl rfl rfl hF rfl rfl (by simp) rfl rfl hx42 fun w83 S101 fr _ hs hp hF => ?_
                   have r1 := r1.stp hM1 hp
                   have hM1 := hM1.stp hp
                   have hs : Sep [sl121 (L a11 x1 c11) rl19, BX b12 75 [I 0, L a11 x1 c11, L a9 x2 c9, L none ([] : List Int) 0, I 0, L none ([] : List D.Term) 0, I 0, I 0, L none ([] : List D.Term) 0, L none ([] : List Int) 0], sl121 (L a9 x2 c9) x42, BX b2 75 [I 0, L none ([] : List D.Term) 0, L none ([] : List D.Term) 0, L none ([] : List Int) 0, I 0, L none ([] : List D.Term) 0, I 0, I 0, L none ([] : List D.Term) 0, L none ([] : List Int) 0], BX b1 30 [I p0.W, I p0.Mem, I p0.In, L a1 p0.Code c1]] w83 S101 := hs
                   refine from_end rfl ?_
                   refine blk_normal (then_normal ?_)
                   refine (wp_pure [(1, B b1 0), (2, B b2 0), (3, B b12 0), (27, I (len x2)), (28, I (w64 (s20.1 + 1)))] hF (by kernel_rfl) fun fr hF => then_normal ?_)
                   exact ⟨_, (Option.some.inj h).symm, S101, _, hF.sub _ (by kernel_rfl), hM1, hs⟩
                 replace h := iteF hb h
                 have hs : Sep [sl121 (L a11 x1 c11) rl19, BX b12 75 [I 0, L a11 x1 c11, L a9 x2 c9, L none ([] : List Int) 0, I 0, L none ([] : List D.Term) 0, I 0, I 0, L none ([] : List D.Term) 0, L none ([] : List Int) 0], sl121 (L a9 x2 c9) s20.2, BX b2 75 [I 0, L none ([] : List D.Term) 0, L none ([] : List D.Term) 0, L none ([] : List Int) 0, I 0, L none ([] : List D.Term) 0, I 0, I 0, L none ([] : List D.Term) 0, L none ([] : List Int) 0]] w20i S99 := Sep.pick [0, 1, 2, 3] hs (by decide) rfl
                 refine (wp_exit (then_exit (then_exit (blk_exit_eq ?_))))
                 obtain rfl := hr20 _ (Option.some.inj h).symm
                 exact then_normal ⟨S99, _, hF.sub _ (by kernel_rfl), hM1, hs⟩
               · obtain ⟨S100, F40, hF, hMx, hs⟩ := hM
                 have hM0 := hM0.trans hMx
                 refine wp_seq (wp_text' ?_)
                 refine s_loadBoxS ty75 rfl rfl hF rfl (hs.bx 1 rfl) rfl rfl fun fr hF => ?_
                 have hs : Sep [sl121 (L a11 x1 c11) rl19, sl121 (L a9 x2 c9) rl20, BX b2 75 [I 0, L none ([] : List D.Term) 0, L none ([] : List D.Term) 0, L none ([] : List Int) 0, I 0, L none ([] : List D.Term) 0, I 0, I 0, L none ([] : List D.Term) 0, L none ([] : List Int) 0]] w20o S100 := Sep.pick [0, 2, 3] hs (by decide) rfl
                 refine q_storeBoxS 2 hs hM0 rfl [I 0, L a11 x1 c11, L a9 x2 c9, L none ([] : List Int) 0, I 0, L none ([] : List D.Term) 0, I 0, I 0, L none ([] : List D.Term) 0, L none ([] : List Int) 0] rfl hF rfl rfl (by kernel_rfl) rfl rfl rfl fun w84 S102 hs hp hF => ?_
                 have hM0 := hM0.stp hp
                 have hs : Sep [sl121 (L a11 x1 c11) rl19, sl121 (L a9 x2 c9) rl20, BX b2 75 [I 0, L a11 x1 c11, L a9 x2 c9, L none ([] : List Int) 0, I 0, L none ([] : List D.Term) 0, I 0, I 0, L none ([] : List D.Term) 0, L none ([] : List Int) 0]] w84 S102 := hs
                 refine from_end rfl (then_normal ?_)
                 have hbr := (hs.bx 2 rfl)
                 have hs : Sep [sl3 (L none ([] : List Int) 0) ([] : List Int), sl121 (L a11 x1 c11) rl19, sl121 (L a9 x2 c9) rl20, BX b2 75 [I 0, L a11 x1 c11, L a9 x2 c9, L none ([] : List Int) 0, I 0, L none ([] : List D.Term) 0, I 0, I 0, L none ([] : List D.Term) 0, L none ([] : List Int) 0]] w84 S102 := hs.cons_nil (α := Int) 3
                 have hs : Sep [sl121 (L none ([] : List D.Term) 0) ([] : List D.Term), sl3 (L none ([] : List Int) 0) ([] : List Int), sl121 (L a11 x1 c11) rl19, sl121 (L a9 x2 c9) rl20, BX b2 75 [I 0, L a11 x1 c11, L a9 x2 c9, L none ([] : List Int) 0, I 0, L none ([] : List D.Term) 0, I 0, I 0, L none ([] : List D.Term) 0, L none ([] : List Int) 0]] w84 S102 := hs.cons_nil (α := D.Term) 121
                 have hs : Sep [sl121 (L none ([] : List D.Term) 0) ([] : List D.Term), sl121 (L none ([] : List D.Term) 0) ([] : List D.Term), sl3 (L none ([] : List Int) 0) ([] : List Int), sl121 (L a11 x1 c11) rl19, sl121 (L a9 x2 c9) rl20, BX b2 75 [I 0, L a11 x1 c11, L a9 x2 c9, L none ([] : List Int) 0, I 0, L none ([] : List D.Term) 0, I 0, I 0, L none ([] : List D.Term) 0, L none ([] : List Int) 0]] w84 S102 := hs.cons_nil (α := D.Term) 121
                 have hs : Sep [sl3 (L none ([] : List Int) 0) ([] : List Int), sl121 (L none ([] : List D.Term) 0) ([] : List D.Term), sl121 (L none ([] : List D.Term) 0) ([] : List D.Term), sl3 (L none ([] : List Int) 0) ([] : List Int), sl121 (L a11 x1 c11) rl19, sl121 (L a9 x2 c9) rl20, BX b2 75 [I 0, L a11 x1 c11, L a9 x2 c9, L none ([] : List Int) 0, I 0, L none ([] : List D.Term) 0, I 0, I 0, L none ([] : List D.Term) 0, L none ([] : List Int) 0]] w84 S102 := hs.cons_nil (α := Int) 3
                 obtain rfl := Option.some.inj h
                 have hs : Sep [sl121 (L a11 x1 c11) rl19, sl121 (L a9 x2 c9) rl20, sl3 (L none ([] : List Int) 0) ([] : List Int), sl121 (L none ([] : List D.Term) 0) ([] : List D.Term), sl121 (L none ([] : List D.Term) 0) ([] : List D.Term), sl3 (L none ([] : List Int) 0) ([] : List Int)] w84 S102 := Sep.pick [4, 5, 3, 2, 1, 0] hs (by decide) rfl
                 obtain ⟨he19, hs⟩ := hs.relen 0 rfl
                 have hs : Sep [sl121 (L a11 rl19 c11) rl19, sl121 (L a9 x2 c9) rl20, sl3 (L none ([] : List Int) 0) ([] : List Int), sl121 (L none ([] : List D.Term) 0) ([] : List D.Term), sl121 (L none ([] : List D.Term) 0) ([] : List D.Term), sl3 (L none ([] : List Int) 0) ([] : List Int)] w84 S102 := hs
                 obtain ⟨he20, hs⟩ := hs.relen 1 rfl
                 have hs : Sep [sl121 (L a11 rl19 c11) rl19, sl121 (L a9 rl20 c9) rl20, sl3 (L none ([] : List Int) 0) ([] : List Int), sl121 (L none ([] : List D.Term) 0) ([] : List D.Term), sl121 (L none ([] : List D.Term) 0) ([] : List D.Term), sl3 (L none ([] : List Int) 0) ([] : List Int)] w84 S102 := hs
                 exact wp_ret (retS rfl hF ty75 rfl rfl hbr rfl ⟨_, rfl, a11, c11, a9, c9, none, 0, none, 0, none, 0, none, 0, (by simp only [L, he19, he20]), S102, hM0.out, hs⟩)
   · refine op_of _ rfl rfl ?_
     refine q_alloc (z := .agg #[I 0, L none ([] : List D.Term) 0, L none ([] : List D.Term) 0, L none ([] : List Int) 0, I 0, L none ([] : List D.Term) 0, I 0, I 0, L none ([] : List D.Term) 0, L none ([] : List Int) 0]) hs hM0 [I 0, L none ([] : List D.Term) 0, L none ([] : List D.Term) 0, L none ([] : List Int) 0, I 0, L none ([] : List D.Term) 0, I 0, I 0, L none ([] : List D.Term) 0, L none ([] : List Int) 0] rfl rfl hF (by kernel_rfl) rfl fun b13 w85 S103 fr hs hp hF => ?_
     have r1 := r1.stp hM0 hp
     have hM0 := hM0.stp hp
     have hs : Sep [BX b13 75 [I 0, L none ([] : List D.Term) 0, L none ([] : List D.Term) 0, L none ([] : List Int) 0, I 0, L none ([] : List D.Term) 0, I 0, I 0, L none ([] : List D.Term) 0, L none ([] : List Int) 0], BX b2 75 [I 0, L none ([] : List D.Term) 0, L none ([] : List D.Term) 0, L none ([] : List Int) 0, I 0, L none ([] : List D.Term) 0, I 0, I 0, L none ([] : List D.Term) 0, L none ([] : List Int) 0], BX b1 30 [I p0.W, I p0.Mem, I p0.In, L a1 p0.Code c1]] w85 S103 := hs
     refine from_end rfl (then_normal ?_)
     refine any_node (fuel := 3) [0, 3] (by kernel_rfl) (by simp) ⟨?_, ?_, trivial⟩
     · refine op_of _ rfl rfl ?_
       refine q_make hs hM0 Try.underlying73 el121 (zero_flat _ (by kernel_rfl)) rfl rfl hF rfl rfl hx1 fun a12 c12 w86 S104 fr hs hp hF => ?_
       have r1 := r1.stp hM0 hp
       have hM0 := hM0.stp hp
       have hs : Sep [sl121 (L a12 x1 c12) x1, BX b13 75 [I 0, L none ([] : List D.Term) 0, L none ([] : List D.Term) 0, L none ([] : List Int) 0, I 0, L none ([] : List D.Term) 0, I 0, I 0, L none ([] : List D.Term) 0, L none ([] : List Int) 0], BX b2 75 [I 0, L none ([] : List D.Term) 0, L none ([] : List D.Term) 0, L none ([] : List Int) 0, I 0, L none ([] : List D.Term) 0, I 0, I 0, L none ([] : List D.Term) 0, L none ([] : List Int) 0], BX b1 30 [I p0.W, I p0.Mem, I p0.In, L a1 p0.Code c1]] w86 S104 := hs
       refine from_end rfl (then_normal ?_)
       refine any_node (fuel := 2) [3] (by kernel_rfl) (by simp) ⟨?_, trivial⟩
       · refine op_of _ rfl rfl ?_
         refine q_make hs hM0 Try.underlying73 el121 (zero_flat _ (by kernel_rfl)) rfl rfl hF rfl rfl hx2 fun a13 c13 w87 S105 fr hs hp hF => ?_
         have r1 := r1.stp hM0 hp
         have hM0 := hM0.stp hp
         have hs : Sep [sl121 (L a13 x2 c13) x2, sl121 (L a12 x1 c12) x1, BX b13 75 [I 0, L none ([] : List D.Term) 0, L none ([] : List D.Term) 0, L none ([] : List Int) 0, I 0, L none ([] : List D.Term) 0, I 0, I 0, L none ([] : List D.Term) 0, L none ([] : List Int) 0], BX b2 75 [I 0, L none ([] : List D.Term) 0, L none ([] : List D.Term) 0, L none ([] : List Int) 0, I 0, L none ([] : List D.Term) 0, I 0, I 0, L none ([] : List D.Term) 0, L none ([] : List Int) 0], BX b1 30 [I p0.W, I p0.Mem, I p0.In, L a1 p0.Code c1]] w87 S105 := hs
         refine from_end rfl (then_normal ?_)
         refine any_node (fuel := 1) [4] (by kernel_rfl) (by simp) ⟨?_, trivial⟩
         · refine op_of _ rfl rfl ?_
           refine from_pure 1 [(1, B b1 0), (2, B b2 0), (3, B b13 0), (10, .agg #[I 0, L a12 x1 c12, L a13 x2 c13, L none ([] : List Int) 0, I 0, L none ([] : List D.Term) 0, I 0, I 0, L none ([] : List D.Term) 0, L none ([] : List Int) 0])] hF (by kernel_rfl) fun fr hF => ?_
           refine from_end rfl (then_normal ?_)
           refine any_node (fuel := 0) [6] (by kernel_rfl) (by simp) ⟨?_, trivial⟩
           · refine op_of _ rfl rfl ?_
             refine q_storeBoxS 2 hs hM0 rfl [I 0, L a12 x1 c12, L a13 x2 c13, L none ([] : List Int) 0, I 0, L none ([] : List D.Term) 0, I 0, I 0, L none ([] : List D.Term) 0, L none ([] : List Int) 0] rfl hF rfl rfl (by kernel_rfl) rfl rfl rfl fun w88 S106 hs hp hF => ?_
             have r1 := r1.stp hM0 hp
             have hM0 := hM0.stp hp
             have hs : Sep [sl121 (L a13 x2 c13) x2, sl121 (L a12 x1 c12) x1, BX b13 75 [I 0, L a12 x1 c12, L a13 x2 c13, L none ([] : List Int) 0, I 0, L none ([] : List D.Term) 0, I 0, I 0, L none ([] : List D.Term) 0, L none ([] : List Int) 0], BX b2 75 [I 0, L none ([] : List D.Term) 0, L none ([] : List D.Term) 0, L none ([] : List Int) 0, I 0, L none ([] : List D.Term) 0, I 0, I 0, L none ([] : List D.Term) 0, L none ([] : List Int) 0], BX b1 30 [I p0.W, I p0.Mem, I p0.In, L a1 p0.Code c1]] w88 S106 := hs
             refine from_end rfl (then_normal ?_)
             refine any_leaf (by kernel_rfl) (then_normal ?_)
             refine wp_seq ?_
             refine wp_seq (wp_text' ?_)
             refine from_pure 1 [(1, B b1 0), (2, B b2 0), (3, B b13 0), (11, B b13 1)] hF (by kernel_rfl) fun fr hF => ?_
             refine s_loadBox (L a12 x1 c12) ty73 rfl rfl hF rfl (hs.bx 2 rfl) rfl rfl fun fr hF => ?_
             refine from_pure 2 [(1, B b1 0), (2, B b2 0), (3, B b13 0), (13, I (len x1)), (14, I 0)] hF (by kernel_rfl) fun fr hF => ?_
             refine from_end rfl (then_normal ?_)
             obtain ⟨rl21, hit21, h⟩ := bindE h
             have hk21 := h
             refine (GL.wp_cut (M := fun fr w' => ∃ S108 F42, FrS 40 [(1, B b1 0), (2, B b2 0), (3, B b13 0)] fr ∧ Mem w88 S106 (fun k => (G0 k) ∧ k < w.heap.size) w' S108 F42 ∧ Sep [sl121 (L a13 x2 c13) x2, sl121 (L a12 x1 c12) rl21, BX b13 75 [I 0, L a12 x1 c12, L a13 x2 c13, L none ([] : List Int) 0, I 0, L none ([] : List D.Term) 0, I 0, I 0, L none ([] : List D.Term) 0, L none ([] : List Int) 0], BX b2 75 [I 0, L none ([] : List D.Term) 0, L none ([] : List D.Term) 0, L none ([] : List Int) 0, I 0, L none ([] : List D.Term) 0, I 0, I 0, L none ([] : List D.Term) 0, L none ([] : List Int) 0], BX b1 30 [I p0.W, I p0.Mem, I p0.In, L a1 p0.Code c1]] w' S108) (wp_block (wp_iter (Inv := fun s21 fr w' => ∃ S107 F41, FrS 40 [(1, B b1 0), (2, B b2 0), (3, B b13 0), (13, I (len x1)), (14, I s21.1)] fr ∧ Mem w88 S106 (fun k => (G0 k) ∧ k < w.heap.size) w' S107 F41 ∧ Sep [sl121 (L a13 x2 c13) x2, sl121 (L a12 x1 c12) s21.2, BX b13 75 [I 0, L a12 x1 c12, L a13 x2 c13, L none ([] : List Int) 0, I 0, L none ([] : List D.Term) 0, I 0, I 0, L none ([] : List D.Term) 0, L none ([] : List Int) 0], BX b2 75 [I 0, L none ([] : List D.Term) 0, L none ([] : List D.Term) 0, L none ([] : List Int) 0, I 0, L none ([] : List D.Term) 0, I 0, I 0, L none ([] : List D.Term) 0, L none ([] : List Int) 0], BX b1 30 [I p0.W, I p0.Mem, I p0.In, L a1 p0.Code c1]] w' S107) hit21 ⟨S106, _, hF.sub _ (by kernel_rfl), (Mem.start hM0.bd hM0.bdF hM0.dj), hs⟩ fun s21 q21 fr w21i hI h hr21 => ?_)) fun fr w21o hM => ?_)
             · obtain ⟨S107, F41, hF, hM1, hs⟩ := hI
               have r1 := r1.mem hM1
               refine wp_seq (wp_pure [(1, B b1 0), (2, B b2 0), (3, B b13 0), (13, I (len x1)), (14, I s21.1), (15, .bool (decide (s21.1 < (len x1))))] hF (by kernel_rfl) fun fr hF => then_normal ?_)
               refine wp_seq (wp_if hF (b := (decide (s21.1 < (len x1)))) rfl (fun hb => ?_) (fun hb => ?_))
               · replace h := iteT hb h
                 refine (wp_skip (then_normal ?_))
                 refine wp_seq (wp_block ?_)
                 refine wp_seq (wp_pure [(1, B b1 0), (2, B b2 0), (3, B b13 0), (4, I s21.1), (13, I (len x1)), (14, I s21.1)] hF (by kernel_rfl) fun fr hF => then_normal ?_)
                 obtain ⟨x43, hx43, h⟩ := bindE h
                 refine (region_bm 6 [0, 1, 0, 0, 8, 24, 63, 127] [true, false, true, true, false, false]
                     [.eq (B b13 1), .eq (L a12 x1 c12), .eq (I s21.1), .eq (B b1 0), .eq (I p0.W), .eq (.agg #[I x43.Op, I x43.W, I x43.N, Str.val x43.Name, L none ([] : List D.Term) 0]), .any, .any]
                     [(1, B b1 0), (2, B b2 0), (3, B b13 0), (13, I (len x1)), (14, I s21.1), (18, L a12 x1 c12), (19, I s21.1), (22, .agg #[I x43.Op, I x43.W, I x43.N, Str.val x43.Name, L none ([] : List D.Term) 0])] mix hF (by kernel_rfl) (by kernel_rfl) (by kernel_rfl) (by kernel_rfl) ⟨Pd.monoO_eq, Pd.monoO_eq, Pd.monoO_eq, trivial⟩ (fun ow hG => ⟨np_to ow (np_loadBox hG hF ty73 rfl rfl (hs.bx 2 rfl) rfl rfl rfl), np_to ow (np_loadBox hG hF ty3 rfl rfl (hs.bx 4 rfl) rfl rfl rfl), np_to ow (np_call [I p0.W, I 0] hG hF Try.call129 rfl rfl (fun w hC hg => (impl_ConstTerm_ok p0.W 0 hx43).mono fun e w' ⟨v, he, hv, hc⟩ => ⟨v, he, hc, hv⟩)), trivial⟩) (by kernel_rfl) fun ow fr w89 hF hE hc => ?_)
                 have r1 := r1.ext hc
                 have hs := hs.ext hc
                 have hM1 := hM1.ext hc
                 obtain ⟨x44, hx44, h⟩ := bindE h
                 refine q_set (q := x43) 1 hs hM1 rfl Try.underlying73 ty121 rfl rfl rfl rfl hF rfl rfl (by simp) rfl rfl hx44 fun w90 S109 fr _ hs hp hF => ?_
                 have r1 := r1.stp hM1 hp
                 have hM1 := hM1.stp hp
                 have hs : Sep [sl121 (L a13 x2 c13) x2, sl121 (L a12 x1 c12) x44, BX b13 75 [I 0, L a12 x1 c12, L a13 x2 c13, L none ([] : List Int) 0, I 0, L none ([] : List D.Term) 0, I 0, I 0, L none ([] : List D.Term) 0, L none ([] : List Int) 0], BX b2 75 [I 0, L none ([] : List D.Term) 0, L none ([] : List D.Term) 0, L none ([] : List Int) 0, I 0, L none ([] : List D.Term) 0, I 0, I 0, L none ([] : List D.Term) 0, L none ([] : List Int) 0], BX b1 30 [I p0.W, I p0.Mem, I p0.In, L a1 p0.Code c1]] w90 S109 := hs
                 refine from_end rfl ?_
                 refine blk_normal (then_normal ?_)
                 refine (wp_pure [(1, B b1 0), (2, B b2 0), (3, B b13 0), (13, I (len x1)), (14, I (w64 (s21.1 + 1)))] hF (by kernel_rfl) fun fr hF => then_normal ?_)
                 exact ⟨_, (Option.some.inj h).symm, S109, _, hF.sub _ (by kernel_rfl), hM1, hs⟩
               replace h := iteF hb h
               refine (wp_exit (then_exit (then_exit (blk_exit_eq ?_))))
               obtain rfl := hr21 _ (Option.some.inj h).symm
               exact then_normal ⟨S107, _, hF.sub _ (by kernel_rfl), hM1, hs⟩
             · obtain ⟨S108, F42, hF, hMx, hs⟩ := hM
               have r1 := r1.mem hMx
               have hM0 := hM0.trans hMx
               refine wp_seq ?_
               refine wp_seq (wp_text' ?_)
               refine from_pure 1 [(1, B b1 0), (2, B b2 0), (3, B b13 0), (25, B b13 2)] hF (by kernel_rfl) fun fr hF => ?_
               refine s_loadBox (L a13 x2 c13) ty73 rfl rfl hF rfl (hs.bx 2 rfl) rfl rfl fun fr hF => ?_
               refine from_pure 2 [(1, B b1 0), (2, B b2 0), (3, B b13 0), (27, I (len x2)), (28, I 0)] hF (by kernel_rfl) fun fr hF => ?_
               refine from_end rfl (then_normal ?_)
               obtain ⟨rl22, hit22, h⟩ := bindE h
               have hk22 := h
               refine (GL.wp_cut (M := fun fr w' => ∃ S111 F44, FrS 40 [(2, B b2 0), (3, B b13 0)] fr ∧ Mem w21o S108 F42 w' S111 F44 ∧ Sep [sl121 (L a13 x2 c13) rl22, sl121 (L a12 x1 c12) rl21, BX b13 75 [I 0, L a12 x1 c12, L a13 x2 c13, L none ([] : List Int) 0, I 0, L none ([] : List D.Term) 0, I 0, I 0, L none ([] : List D.Term) 0, L none ([] : List Int) 0], BX b2 75 [I 0, L none ([] : List D.Term) 0, L none ([] : List D.Term) 0, L none ([] : List Int) 0, I 0, L none ([] : List D.Term) 0, I 0, I 0, L none ([] : List D.Term) 0, L none ([] : List Int) 0]] w' S111) (wp_block (wp_iter (Inv := fun s22 fr w' => ∃ S110 F43, FrS 40 [(1, B b1 0), (2, B b2 0), (3, B b13 0), (27, I (len x2)), (28, I s22.1)] fr ∧ Mem w21o S108 F42 w' S110 F43 ∧ Sep [sl121 (L a13 x2 c13) s22.2, sl121 (L a12 x1 c12) rl21, BX b13 75 [I 0, L a12 x1 c12, L a13 x2 c13, L none ([] : List Int) 0, I 0, L none ([] : List D.Term) 0, I 0, I 0, L none ([] : List D.Term) 0, L none ([] : List Int) 0], BX b2 75 [I 0, L none ([] : List D.Term) 0, L none ([] : List D.Term) 0, L none ([] : List Int) 0, I 0, L none ([] : List D.Term) 0, I 0, I 0, L none ([] : List D.Term) 0, L none ([] : List Int) 0], BX b1 30 [I p0.W, I p0.Mem, I p0.In, L a1 p0.Code c1]] w' S110) hit22 ⟨S108, _, hF.sub _ (by kernel_rfl), (Mem.start hM0.bd hM0.bdF hM0.dj), hs⟩ fun s22 q22 fr w22i hI h hr22 => ?_)) fun fr w22o hM => ?_)
               · obtain ⟨S110, F43, hF, hM1, hs⟩ := hI
                 have r1 := r1.mem hM1
                 refine wp_seq (wp_pure [(1, B b1 0), (2, B b2 0), (3, B b13 0), (27, I (len x2)), (28, I s22.1), (29, .bool (decide (s22.1 < (len x2))))] hF (by kernel_rfl) fun fr hF => then_normal ?_)
                 refine wp_seq (wp_if hF (b := (decide (s22.1 < (len x2)))) rfl (fun hb => ?_) (fun hb => ?_))
                 · replace h := iteT hb h
                   refine (wp_skip (then_normal ?_))
                   refine wp_seq (wp_block ?_)
                   refine wp_seq (wp_pure [(1, B b1 0), (2, B b2 0), (3, B b13 0), (5, I s22.1), (27, I (len x2)), (28, I s22.1)] hF (by kernel_rfl) fun fr hF => then_normal ?_)
                   obtain ⟨x45, hx45, h⟩ := bindE h
                   refine (region_bm 6 [0, 1, 0, 0, 8, 24, 63, 127] [true, false, true, true, false, false]
                       [.eq (B b13 2), .eq (L a13 x2 c13), .eq (I s22.1), .eq (B b1 0), .eq (I p0.W), .eq (.agg #[I x45.Op, I x45.W, I x45.N, Str.val x45.Name, L none ([] : List D.Term) 0]), .any, .any]
                       [(1, B b1 0), (2, B b2 0), (3, B b13 0), (27, I (len x2)), (28, I s22.1), (32, L a13 x2 c13), (33, I s22.1), (36, .agg #[I x45.Op, I x45.W, I x45.N, Str.val x45.Name, L none ([] : List D.Term) 0])] mix hF (by kernel_rfl) (by kernel_rfl) (by kernel_rfl) (by kernel_rfl) ⟨Pd.monoO_eq, Pd.monoO_eq, Pd.monoO_eq, trivial⟩ (fun ow hG => ⟨np_to ow (np_loadBox hG hF ty73 rfl rfl (hs.bx 2 rfl) rfl rfl rfl), np_to ow (np_loadBox hG hF ty3 rfl rfl (hs.bx 4 rfl) rfl rfl rfl), np_to ow (np_call [I p0.W, I 0] hG hF Try.call129 rfl rfl (fun w hC hg => (impl_ConstTerm_ok p0.W 0 hx45).mono fun e w' ⟨v, he, hv, hc⟩ => ⟨v, he, hc, hv⟩)), trivial⟩) (by kernel_rfl) fun ow fr w91 hF hE hc => ?_)
                   have r1 := r1.ext hc
                   have hs := hs.ext hc
                   have hM1 := hM1.ext hc
                   obtain ⟨x46, hx46, h⟩ := bindE h
                   refine q_set (q := x45) 0 hs hM1 rfl Try.underlying73 ty121 rfl rfl rfl rfl hF rfl rfl (by simp) rfl rfl hx46 fun w92 S112 fr _ hs hp hF => ?_
                   have r1 := r1.stp hM1 hp
                   have hM1 := hM1.stp hp
                   have hs : Sep [sl121 (L a13 x2 c13) x46, sl121 (L a12 x1 c12) rl21, BX b13 75 [I 0, L a12 x1 c12, L a13 x2 c13, L none ([] : List Int) 0, I 0, L none ([] : List D.Term) 0, I 0, I 0, L none ([] : List D.Term) 0, L none ([] : List Int) 0], BX b2 75 [I 0, L none ([] : List D.Term) 0, L none ([] : List D.Term) 0, L none ([] : List Int) 0, I 0, L none ([] : List D.Term) 0, I 0, I 0, L none ([] : List D.Term) 0, L none ([] : List Int) 0], BX b1 30 [I p0.W, I p0.Mem, I p0.In, L a1 p0.Code c1]] w92 S112 := hs
                   refine from_end rfl ?_
                   refine blk_normal (then_normal ?_)
                   refine (wp_pure [(1, B b1 0), (2, B b2 0), (3, B b13 0), (27, I (len x2)), (28, I (w64 (s22.1 + 1)))] hF (by kernel_rfl) fun fr hF => then_normal ?_)
                   exact ⟨_, (Option.some.inj h).symm, S112, _, hF.sub _ (by kernel_rfl), hM1, hs⟩
                 replace h := iteF hb h
                 have hs : Sep [sl121 (L a13 x2 c13) s22.2, sl121 (L a12 x1 c12) rl21, BX b13 75 [I 0, L a12 x1 c12, L a13 x2 c13, L none ([] : List Int) 0, I 0, L none ([] : List D.Term) 0, I 0, I 0, L none ([] : List D.Term) 0, L none ([] : List Int) 0], BX b2 75 [I 0, L none ([] : List D.Term) 0, L none ([] : List D.Term) 0, L none ([] : List Int) 0, I 0, L none ([] : List D.Term) 0, I 0, I 0, L none ([] : List D.Term) 0, L none ([] : List Int) 0]] w22i S110 := Sep.pick [0, 1, 2, 3] hs (by decide) rfl
                 refine (wp_exit (then_exit (then_exit (blk_exit_eq ?_))))
                 obtain rfl := hr22 _ (Option.some.inj h).symm
                 exact then_normal ⟨S110, _, hF.sub _ (by kernel_rfl), hM1, hs⟩
               · obtain ⟨S111, F44, hF, hMx, hs⟩ := hM
                 have hM0 := hM0.trans hMx
                 refine wp_seq (wp_text' ?_)
                 refine s_loadBoxS ty75 rfl rfl hF rfl (hs.bx 2 rfl) rfl rfl fun fr hF => ?_
                 have hs : Sep [sl121 (L a13 x2 c13) rl22, sl121 (L a12 x1 c12) rl21, BX b2 75 [I 0, L none ([] : List D.Term) 0, L none ([] : List D.Term) 0, L none ([] : List Int) 0, I 0, L none ([] : List D.Term) 0, I 0, I 0, L none ([] : List D.Term) 0, L none ([] : List Int) 0]] w22o S111 := Sep.pick [0, 1, 3] hs (by decide) rfl
                 refine q_storeBoxS 2 hs hM0 rfl [I 0, L a12 x1 c12, L a13 x2 c13, L none ([] : List Int) 0, I 0, L none ([] : List D.Term) 0, I 0, I 0, L none ([] : List D.Term) 0, L none ([] : List Int) 0] rfl hF rfl rfl (by kernel_rfl) rfl rfl rfl fun w93 S113 hs hp hF => ?_
                 have hM0 := hM0.stp hp
                 have hs : Sep [sl121 (L a13 x2 c13) rl22, sl121 (L a12 x1 c12) rl21, BX b2 75 [I 0, L a12 x1 c12, L a13 x2 c13, L none ([] : List Int) 0, I 0, L none ([] : List D.Term) 0, I 0, I 0, L none ([] : List D.Term) 0, L none ([] : List Int) 0]] w93 S113 := hs
                 refine from_end rfl (then_normal ?_)
                 have hbr := (hs.bx 2 rfl)
                 have hs : Sep [sl3 (L none ([] : List Int) 0) ([] : List Int), sl121 (L a13 x2 c13) rl22, sl121 (L a12 x1 c12) rl21, BX b2 75 [I 0, L a12 x1 c12, L a13 x2 c13, L none ([] : List Int) 0, I 0, L none ([] : List D.Term) 0, I 0, I 0, L none ([] : List D.Term) 0, L none ([] : List Int) 0]] w93 S113 := hs.cons_nil (α := Int) 3
                 have hs : Sep [sl121 (L none ([] : List D.Term) 0) ([] : List D.Term), sl3 (L none ([] : List Int) 0) ([] : List Int), sl121 (L a13 x2 c13) rl22, sl121 (L a12 x1 c12) rl21, BX b2 75 [I 0, L a12 x1 c12, L a13 x2 c13, L none ([] : List Int) 0, I 0, L none ([] : List D.Term) 0, I 0, I 0, L none ([] : List D.Term) 0, L none ([] : List Int) 0]] w93 S113 := hs.cons_nil (α := D.Term) 121
                 have hs : Sep [sl121 (L none ([] : List D.Term) 0) ([] : List D.Term), sl121 (L none ([] : List D.Term) 0) ([] : List D.Term), sl3 (L none ([] : List Int) 0) ([] : List Int), sl121 (L a13 x2 c13) rl22, sl121 (L a12 x1 c12) rl21, BX b2 75 [I 0, L a12 x1 c12, L a13 x2 c13, L none ([] : List Int) 0, I 0, L none ([] : List D.Term) 0, I 0, I 0, L none ([] : List D.Term) 0, L none ([] : List Int) 0]] w93 S113 := hs.cons_nil (α := D.Term) 121
                 have hs : Sep [sl3 (L none ([] : List Int) 0) ([] : List Int), sl121 (L none ([] : List D.Term) 0) ([] : List D.Term), sl121 (L none ([] : List D.Term) 0) ([] : List D.Term), sl3 (L none ([] : List Int) 0) ([] : List Int), sl121 (L a13 x2 c13) rl22, sl121 (L a12 x1 c12) rl21, BX b2 75 [I 0, L a12 x1 c12, L a13 x2 c13, L none ([] : List Int) 0, I 0, L none ([] : List D.Term) 0, I 0, I 0, L none ([] : List D.Term) 0, L none ([] : List Int) 0]] w93 S113 := hs.cons_nil (α := Int) 3
                 obtain rfl := Option.some.inj h
                 have hs : Sep [sl121 (L a12 x1 c12) rl21, sl121 (L a13 x2 c13) rl22, sl3 (L none ([] : List Int) 0) ([] : List Int), sl121 (L none ([] : List D.Term) 0) ([] : List D.Term), sl121 (L none ([] : List D.Term) 0) ([] : List D.Term), sl3 (L none ([] : List Int) 0) ([] : List Int)] w93 S113 := Sep.pick [5, 4, 3, 2, 1, 0] hs (by decide) rfl
                 obtain ⟨he21, hs⟩ := hs.relen 0 rfl
                 have hs : Sep [sl121 (L a12 rl21 c12) rl21, sl121 (L a13 x2 c13) rl22, sl3 (L none ([] : List Int) 0) ([] : List Int), sl121 (L none ([] : List D.Term) 0) ([] : List D.Term), sl121 (L none ([] : List D.Term) 0) ([] : List D.Term), sl3 (L none ([] : List Int) 0) ([] : List Int)] w93 S113 := hs
                 obtain ⟨he22, hs⟩ := hs.relen 1 rfl
                 have hs : Sep [sl121 (L a12 rl21 c12) rl21, sl121 (L a13 rl22 c13) rl22, sl3 (L none ([] : List Int) 0) ([] : List Int), sl121 (L none ([] : List D.Term) 0) ([] : List D.Term), sl121 (L none ([] : List D.Term) 0) ([] : List D.Term), sl3 (L none ([] : List Int) 0) ([] : List Int)] w93 S113 := hs
                 exact wp_ret (retS rfl hF ty75 rfl rfl hbr rfl ⟨_, rfl, a12, c12, a13, c13, none, 0, none, 0, none, 0, none, 0, (by simp only [L, he21, he22]), S113, hM0.out, hs⟩)
     · refine op_of _ rfl rfl ?_
       refine q_make hs hM0 Try.underlying73 el121 (zero_flat _ (by kernel_rfl)) rfl rfl hF rfl rfl hx2 fun a14 c14 w94 S114 fr hs hp hF => ?_
       have r1 := r1.stp hM0 hp
       have hM0 := hM0.stp hp
       have hs : Sep [sl121 (L a14 x2 c14) x2, BX b13 75 [I 0, L none ([] : List D.Term) 0, L none ([] : List D.Term) 0, L none ([] : List Int) 0, I 0, L none ([] : List D.Term) 0, I 0, I 0, L none ([] : List D.Term) 0, L none ([] : List Int) 0], BX b2 75 [I 0, L none ([] : List D.Term) 0, L none ([] : List D.Term) 0, L none ([] : List Int) 0, I 0, L none ([] : List D.Term) 0, I 0, I 0, L none ([] : List D.Term) 0, L none ([] : List Int) 0], BX b1 30 [I p0.W, I p0.Mem, I p0.In, L a1 p0.Code c1]] w94 S114 := hs
       refine from_end rfl (then_normal ?_)
       refine any_node (fuel := 2) [0] (by kernel_rfl) (by simp) ⟨?_, trivial⟩
       · refine op_of _ rfl rfl ?_
         refine q_make hs hM0 Try.underlying73 el121 (zero_flat _ (by kernel_rfl)) rfl rfl hF rfl rfl hx1 fun a15 c15 w95 S115 fr hs hp hF => ?_
         have r1 := r1.stp hM0 hp
         have hM0 := hM0.stp hp
         have hs : Sep [sl121 (L a15 x1 c15) x1, sl121 (L a14 x2 c14) x2, BX b13 75 [I 0, L none ([] : List D.Term) 0, L none ([] : List D.Term) 0, L none ([] : List Int) 0, I 0, L none ([] : List D.Term) 0, I 0, I 0, L none ([] : List D.Term) 0, L none ([] : List Int) 0], BX b2 75 [I 0, L none ([] : List D.Term) 0, L none ([] : List D.Term) 0, L none ([] : List Int) 0, I 0, L none ([] : List D.Term) 0, I 0, I 0, L none ([] : List D.Term) 0, L none ([] : List Int) 0], BX b1 30 [I p0.W, I p0.Mem, I p0.In, L a1 p0.Code c1]] w95 S115 := hs
         refine from_end rfl (then_normal ?_)
         refine any_node (fuel := 1) [4] (by kernel_rfl) (by simp) ⟨?_, trivial⟩
         · refine op_of _ rfl rfl ?_
           refine from_pure 1 [(1, B b1 0), (2, B b2 0), (3, B b13 0), (10, .agg #[I 0, L a15 x1 c15, L a14 x2 c14, L none ([] : List Int) 0, I 0, L none ([] : List D.Term) 0, I 0, I 0, L none ([] : List D.Term) 0, L none ([] : List Int) 0])] hF (by kernel_rfl) fun fr hF => ?_
           refine from_end rfl (then_normal ?_)
           refine any_node (fuel := 0) [6] (by kernel_rfl) (by simp) ⟨?_, trivial⟩
           · refine op_of _ rfl rfl ?_
             refine q_storeBoxS 2 hs hM0 rfl [I 0, L a15 x1 c15, L a14 x2 c14, L none ([] : List Int) 0, I 0, L none ([] : List D.Term) 0, I 0, I 0, L none ([] : List D.Term) 0, L none ([] : List Int) 0] rfl hF rfl rfl (by kernel_rfl) rfl rfl rfl fun w96 S116 hs hp hF => ?_
             have r1 := r1.stp hM0 hp
             have hM0 := hM0.stp hp
             have hs : Sep [sl121 (L a15 x1 c15) x1, sl121 (L a14 x2 c14) x2, BX b13 75 [I 0, L a15 x1 c15, L a14 x2 c14, L none ([] : List Int) 0, I 0, L none ([] : List D.Term) 0, I 0, I 0, L none ([] : List D.Term) 0, L none ([] : List Int) 0], BX b2 75 [I 0, L none ([] : List D.Term) 0, L none ([] : List D.Term) 0, L none ([] : List Int) 0, I 0, L none ([] : List D.Term) 0, I 0, I 0, L none ([] : List D.Term) 0, L none ([] : List Int) 0], BX b1 30 [I p0.W, I p0.Mem, I p0.In, L a1 p0.Code c1]] w96 S116 := hs
             refine from_end rfl (then_normal ?_)
             refine any_leaf (by kernel_rfl) (then_normal ?_)
             refine wp_seq ?_
             refine wp_seq (wp_text' ?_)
             refine from_pure 1 [(1, B b1 0), (2, B b2 0), (3, B b13 0), (11, B b13 1)] hF (by kernel_rfl) fun fr hF => ?_
             refine s_loadBox (L a15 x1 c15) ty73 rfl rfl hF rfl (hs.bx 2 rfl) rfl rfl fun fr hF => ?_
             refine from_pure 2 [(1, B b1 0), (2, B b2 0), (3, B b13 0), (13, I (len x1)), (14, I 0)] hF (by kernel_rfl) fun fr hF => ?_
             refine from_end rfl (then_normal ?_)
             obtain ⟨rl23, hit23, h⟩ := bindE h
             have hk23 := h
             refine (GL.wp_cut (M := fun fr w' => ∃ S118 F46, FrS 40 [(1, B b1 0), (2, B b2 0), (3, B b13 0)] fr ∧ Mem w96 S116 (fun k => (G0 k) ∧ k < w.heap.size) w' S118 F46 ∧ Sep [sl121 (L a15 x1 c15) rl23, sl121 (L a14 x2 c14) x2, BX b13 75 [I 0, L a15 x1 c15, L a14 x2 c14, L none ([] : List Int) 0, I 0, L none ([] : List D.Term) 0, I 0, I 0, L none ([] : List D.Term) 0, L none ([] : List Int) 0], BX b2 75 [I 0, L none ([] : List D.Term) 0, L none ([] : List D.Term) 0, L none ([] : List Int) 0, I 0, L none ([] : List D.Term) 0, I 0, I 0, L none ([] : List D.Term) 0, L none ([] : List Int) 0], BX b1 30 [I p0.W, I p0.Mem, I p0.In, L a1 p0.Code c1]] w' S118) (wp_block (wp_iter (Inv := fun s23 fr w' => ∃ S117 F45, FrS 40 [(1, B b1 0), (2, B b2 0), (3, B b13 0), (13, I (len x1)), (14, I s23.1)] fr ∧ Mem w96 S116 (fun k => (G0 k) ∧ k < w.heap.size) w' S117 F45 ∧ Sep [sl121 (L a15 x1 c15) s23.2, sl121 (L a14 x2 c14) x2, BX b13 75 [I 0, L a15 x1 c15, L a14 x2 c14, L none ([] : List Int) 0, I 0, L none ([] : List D.Term) 0, I 0, I 0, L none ([] : List D.Term) 0, L none ([] : List Int) 0], BX b2 75 [I 0, L none ([] : List D.Term) 0, L none ([] : List D.Term) 0, L none ([] : List Int) 0, I 0, L none ([] : List D.Term) 0, I 0, I 0, L none ([] : List D.Term) 0, L none ([] : List Int) 0], BX b1 30 [I p0.W, I p0.Mem, I p0.In, L a1 p0.Code c1]] w' S117) hit23 ⟨S116, _, hF.sub _ (by kernel_rfl), (Mem.start hM0.bd hM0.bdF hM0.dj), hs⟩ fun s23 q23 fr w23i hI h hr23 => ?_)) fun fr w23o hM => ?_)
             · obtain ⟨S117, F45, hF, hM1, hs⟩ := hI
               have r1 := r1.mem hM1
               refine wp_seq (wp_pure [(1, B b1 0), (2, B b2 0), (3, B b13 0), (13, I (len x1)), (14, I s23.1), (15, .bool (decide (s23.1 < (len x1))))] hF (by kernel_rfl) fun fr hF => then_normal ?_)
               refine wp_seq (wp_if hF (b := (decide (s23.1 < (len x1)))) rfl (fun hb => ?_) (fun hb => ?_))
               · replace h := iteT hb h
                 refine (wp_skip (then_normal ?_))
                 refine wp_seq (wp_block ?_)
                 refine wp_seq (wp_pure [(1, B b1 0), (2, B b2 0), (3, B b13 0), (4, I s23.1), (13, I (len x1)), (14, I s23.1)] hF (by kernel_rfl) fun fr hF => then_normal ?_)
                 obtain ⟨x47, hx47, h⟩ := bindE h
                 refine (region_bm 6 [0, 1, 0, 0, 8, 24, 63, 127] [true, false, true, true, false, false]
                     [.eq (B b13 1), .eq (L a15 x1 c15), .eq (I s23.1), .eq (B b1 0), .eq (I p0.W), .eq (.agg #[I x47.Op, I x47.W, I x47.N, Str.val x47.Name, L none ([] : List D.Term) 0]), .any, .any]
                     [(1, B b1 0), (2, B b2 0), (3, B b13 0), (13, I (len x1)), (14, I s23.1), (18, L a15 x1 c15), (19, I s23.1), (22, .agg #[I x47.Op, I x47.W, I x47.N, Str.val x47.Name, L none ([] : List D.Term) 0])] mix hF (by kernel_rfl) (by kernel_rfl) (by kernel_rfl) (by kernel_rfl) ⟨Pd.monoO_eq, Pd.monoO_eq, Pd.monoO_eq, trivial⟩ (fun ow hG => ⟨np_to ow (np_loadBox hG hF ty73 rfl rfl (hs.bx 2 rfl) rfl rfl rfl), np_to ow (np_loadBox hG hF ty3 rfl rfl (hs.bx 4 rfl) rfl rfl rfl), np_to ow (np_call [I p0.W, I 0] hG hF Try.call129 rfl rfl (fun w hC hg => (impl_ConstTerm_ok p0.W 0 hx47).mono fun e w' ⟨v, he, hv, hc⟩ => ⟨v, he, hc, hv⟩)), trivial⟩) (by kernel_rfl) fun ow fr w97 hF hE hc => ?_)
                 have r1 := r1.ext hc
                 have hs := hs.ext hc
                 have hM1 := hM1.ext hc
                 obtain ⟨x48, hx48, h⟩ := bindE h
                 refine q_set (q := x47) 0 hs hM1 rfl Try.underlying73 ty121 rfl rfl rfl rfl hF rfl rfl (by simp) rfl rfl hx48 fun w98 S119 fr _ hs hp hF => ?_
                 have r1 := r1.stp hM1 hp
                 have hM1 := hM1.stp hp
                 have hs : Sep [sl121 (L a15 x1 c15) x48, sl121 (L a14 x2 c14) x2, BX b13 75 [I 0, L a15 x1 c15, L a14 x2 c14, L none ([] : List Int) 0, I 0, L none ([] : List D.Term) 0, I 0, I 0, L none ([] : List D.Term) 0, L none ([] : List Int) 0], BX b2 75 [I 0, L none ([] : List D.Term) 0, L none ([] : List D.Term) 0, L none ([] : List Int) 0, I 0, L none ([] : List D.Term) 0, I 0, I 0, L none ([] : List D.Term) 0, L none ([] : List Int) 0], BX b1 30 [I p0.W, I p0.Mem, I p0.In, L a1 p0.Code c1]] w98 S119 := hs
                 refine from_end rfl ?_
                 refine blk_normal (then_normal ?_)
                 refine (wp_pure [(1, B b1 0), (2, B b2 0), (3, B b13 0), (13, I (len x1)), (14, I (w64 (s23.1 + 1)))] hF (by kernel_rfl) fun fr hF => then_normal ?_)
                 exact ⟨_, (Option.some.inj h).symm, S119, _, hF.sub _ (by kernel_rfl), hM1, hs⟩
               replace h := iteF hb h
               refine (wp_exit (then_exit (then_exit (blk_exit_eq ?_))))
               obtain rfl := hr23 _ (Option.some.inj h).symm
               exact then_normal ⟨S117, _, hF.sub _ (by kernel_rfl), hM1, hs⟩
             · obtain ⟨S118, F46, hF, hMx, hs⟩ := hM
               have r1 := r1.mem hMx
               have hM0 := hM0.trans hMx
               refine wp_seq ?_
               refine wp_seq (wp_text' ?_)
               refine from_pure 1 [(1, B b1 0), (2, B b2 0), (3, B b13 0), (25, B b13 2)] hF (by kernel_rfl) fun fr hF => ?_
               refine s_loadBox (L a14 x2 c14) ty73 rfl rfl hF rfl (hs.bx 2 rfl) rfl rfl fun fr hF => ?_
               refine from_pure 2 [(1, B b1 0), (2, B b2 0), (3, B b13 0), (27, I (len x2)), (28, I 0)] hF (by kernel_rfl) fun fr hF => ?_
               refine from_end rfl (then_normal ?_)
               obtain ⟨rl24, hit24, h⟩ := bindE h
               have hk24 := h
               refine (GL.wp_cut (M := fun fr w' => ∃ S121 F48, FrS 40 [(2, B b2 0), (3, B b13 0)] fr ∧ Mem w23o S118 F46 w' S121 F48 ∧ Sep [sl121 (L a15 x1 c15) rl23, sl121 (L a14 x2 c14) rl24, BX b13 75 [I 0, L a15 x1 c15, L a14 x2 c14, L none ([] : List Int) 0, I 0, L none ([] : List D.Term) 0, I 0, I 0, L none ([] : List D.Term) 0, L none ([] : List Int) 0], BX b2 75 [I 0, L none ([] : List D.Term) 0, L none ([] : List D.Term) 0, L none ([] : List Int) 0, I 0, L none ([] : List D.Term) 0, I 0, I 0, L none ([] : List D.Term) 0, L none ([] : List Int) 0]] w' S121) (wp_block (wp_iter (Inv := fun s24 fr w' => ∃ S120 F47, FrS 40 [(1, B b1 0), (2, B b2 0), (3, B b13 0), (27, I (len x2)), (28, I s24.1)] fr ∧ Mem w23o S118 F46 w' S120 F47 ∧ Sep [sl121 (L a15 x1 c15) rl23, sl121 (L a14 x2 c14) s24.2, BX b13 75 [I 0, L a15 x1 c15, L a14 x2 c14, L none ([] : List Int) 0, I 0, L none ([] : List D.Term) 0, I 0, I 0, L none ([] : List D.Term) 0, L none ([] : List Int) 0], BX b2 75 [I 0, L none ([] : List D.Term) 0, L none ([] : List D.Term) 0, L none ([] : List Int) 0, I 0, L none ([] : List D.Term) 0, I 0, I 0, L none ([] : List D.Term) 0, L none ([] : List Int) 0], BX b1 30 [I p0.W, I p0.Mem, I p0.In, L a1 p0.Code c1]] w' S120) hit24 ⟨S118, _, hF.sub _ (by kernel_rfl), (Mem.start hM0.bd hM0.bdF hM0.dj), hs⟩ fun s24 q24 fr w24i hI h hr24 => ?_)) fun fr w24o hM => ?_)
               · obtain ⟨S120, F47, hF, hM1, hs⟩ := hI
                 have r1 := r1.mem hM1
                 refine wp_seq (wp_pure [(1, B b1 0), (2, B b2 0), (3, B b13 0), (27, I (len x2)), (28, I s24.1), (29, .bool (decide (s24.1 < (len x2))))] hF (by kernel_rfl) fun fr hF => then_normal ?_)
                 refine wp_seq (wp_if hF (b := (decide (s24.1 < (len x2)))) rfl (fun hb => ?_) (fun hb => ?_))
                 · replace h := iteT hb h
                   refine (wp_skip (then_normal ?_))
                   refine wp_seq (wp_block ?_)
                   refine wp_seq (wp_pure [(1, B b1 0), (2, B b2 0), (3, B b13 0), (5, I s24.1), (27, I (len x2)), (28, I s24.1)] hF (by kernel_rfl) fun fr hF => then_normal ?_)
                   obtain ⟨x49, hx49, h⟩ := bindE h
                   refine (region_bm 6 [0, 1, 0, 0, 8, 24, 63, 127] [true, false, true, true, false, false]
                       [.eq (B b13 2), .eq (L a14 x2 c14), .eq (I s24.1), .eq (B b1 0), .eq (I p0.W), .eq (.agg #[I x49.Op, I x49.W, I x49.N, Str.val x49.Name, L none ([] : List D.Term) 0]), .any, .any]
                       [(1, B b1 0), (2, B b2 0), (3, B b13 0), (27, I (len x2)), (28, I s24.1), (32, L a14 x2 c14), (33, I s24.1), (36, .agg #[I x49.Op, I x49.W, I x49.N, Str.val x49.Name, L none ([] : List D.Term) 0])] mix hF (by kernel_rfl) (by kernel_rfl) (by kernel_rfl) (by kernel_rfl) ⟨Pd.monoO_eq, Pd.monoO_eq, Pd.monoO_eq, trivial⟩ (fun ow hG => ⟨np_to ow (np_loadBox hG hF ty73 rfl rfl (hs.bx 2 rfl) rfl rfl rfl), np_to ow (np_loadBox hG hF ty3 rfl rfl (hs.bx 4 rfl) rfl rfl rfl), np_to ow (np_call [I p0.W, I 0] hG hF Try.call129 rfl rfl (fun w hC hg => (impl_ConstTerm_ok p0.W 0 hx49).mono fun e w' ⟨v, he, hv, hc⟩ => ⟨v, he, hc, hv⟩)), trivial⟩) (by kernel_rfl) fun ow fr w99 hF hE hc => ?_)
                   have r1 := r1.ext hc
                   have hs := hs.ext hc
                   have hM1 := hM1.ext hc
                   obtain ⟨x50, hx50, h⟩ := bindE h
                   refine q_set (q := x49) 1 hs hM1 rfl Try.underlying73 ty121 rfl rfl rfl rfl hF rfl rfl (by simp) rfl rfl hx50 fun w100 S122 fr _ hs hp hF => ?_
                   have r1 := r1.stp hM1 hp
                   have hM1 := hM1.stp hp
                   have hs : Sep [sl121 (L a15 x1 c15) rl23, sl121 (L a14 x2 c14) x50, BX b13 75 [I 0, L a15 x1 c15, L a14 x2 c14, L none ([] : List Int) 0, I 0, L none ([] : List D.Term) 0, I 0, I 0, L none ([] : List D.Term) 0, L none ([] : List Int) 0], BX b2 75 [I 0, L none ([] : List D.Term) 0, L none ([] : List D.Term) 0, L none ([] : List Int) 0, I 0, L none ([] : List D.Term) 0, I 0, I 0, L none ([] : List D.Term) 0, L none ([] : List Int) 0], BX b1 30 [I p0.W, I p0.Mem, I p0.In, L a1 p0.Code c1]] w100 S122 := hs
                   refine from_end rfl ?_
                   refine blk_normal (then_normal ?_)
                   refine (wp_pure [(1, B b1 0), (2, B b2 0), (3, B b13 0), (27, I (len x2)), (28, I (w64 (s24.1 + 1)))] hF (by kernel_rfl) fun fr hF => then_normal ?_)
                   exact ⟨_, (Option.some.inj h).symm, S122, _, hF.sub _ (by kernel_rfl), hM1, hs⟩
                 replace h := iteF hb h
                 have hs : Sep [sl121 (L a15 x1 c15) rl23, sl121 (L a14 x2 c14) s24.2, BX b13 75 [I 0, L a15 x1 c15, L a14 x2 c14, L none ([] : List Int) 0, I 0, L none ([] : List D.Term) 0, I 0, I 0, L none ([] : List D.Term) 0, L none ([] : List Int) 0], BX b2 75 [I 0, L none ([] : List D.Term) 0, L none ([] : List D.Term) 0, L none ([] : List Int) 0, I 0, L none ([] : List D.Term) 0, I 0, I 0, L none ([] : List D.Term) 0, L none ([] : List Int) 0]] w24i S120 := Sep.pick [0, 1, 2, 3] hs (by decide) rfl
                 refine (wp_exit (then_exit (then_exit (blk_exit_eq ?_))))
                 obtain rfl := hr24 _ (Option.some.inj h).symm
                 exact then_normal ⟨S120, _, hF.sub _ (by kernel_rfl), hM1, hs⟩
               · obtain ⟨S121, F48, hF, hMx, hs⟩ := hM
                 have hM0 := hM0.trans hMx
                 refine wp_seq (wp_text' ?_)
                 refine s_loadBoxS ty75 rfl rfl hF rfl (hs.bx 2 rfl) rfl rfl fun fr hF => ?_
                 have hs : Sep [sl121 (L a15 x1 c15) rl23, sl121 (L a14 x2 c14) rl24, BX b2 75 [I 0, L none ([] : List D.Term) 0, L none ([] : List D.Term) 0, L none ([] : List Int) 0, I 0, L none ([] : List D.Term) 0, I 0, I 0, L none ([] : List D.Term) 0, L none ([] : List Int) 0]] w24o S121 := Sep.pick [0, 1, 3] hs (by decide) rfl
                 refine q_storeBoxS 2 hs hM0 rfl [I 0, L a15 x1 c15, L a14 x2 c14, L none ([] : List Int) 0, I 0, L none ([] : List D.Term) 0, I 0, I 0, L none ([] : List D.Term) 0, L none ([] : List Int) 0] rfl hF rfl rfl (by kernel_rfl) rfl rfl rfl fun w101 S123 hs hp hF => ?_
                 have hM0 := hM0.stp hp
                 have hs : Sep [sl121 (L a15 x1 c15) rl23, sl121 (L a14 x2 c14) rl24, BX b2 75 [I 0, L a15 x1 c15, L a14 x2 c14, L none ([] : List Int) 0, I 0, L none ([] : List D.Term) 0, I 0, I 0, L none ([] : List D.Term) 0, L none ([] : List Int) 0]] w101 S123 := hs
                 refine from_end rfl (then_normal ?_)
                 have hbr := (hs.bx 2 rfl)
                 have hs : Sep [sl3 (L none ([] : List Int) 0) ([] : List Int), sl121 (L a15 x1 c15) rl23, sl121 (L a14 x2 c14) rl24, BX b2 75 [I 0, L a15 x1 c15, L a14 x2 c14, L none ([] : List Int) 0, I 0, L none ([] : List D.Term) 0, I 0, I 0, L none ([] : List D.Term) 0, L none ([] : List Int) 0]] w101 S123 := hs.cons_nil (α := Int) 3
                 have hs : Sep [sl121 (L none ([] : List D.Term) 0) ([] : List D.Term), sl3 (L none ([] : List Int) 0) ([] : List Int), sl121 (L a15 x1 c15) rl23, sl121 (L a14 x2 c14) rl24, BX b2 75 [I 0, L a15 x1 c15, L a14 x2 c14, L none ([] : List Int) 0, I 0, L none ([] : List D.Term) 0, I 0, I 0, L none ([] : List D.Term) 0, L none ([] : List Int) 0]] w101 S123 := hs.cons_nil (α := D.Term) 121
                 have hs : Sep [sl121 (L none ([] : List D.Term) 0) ([] : List D.Term), sl121 (L none ([] : List D.Term) 0) ([] : List D.Term), sl3 (L none ([] : List Int) 0) ([] : List Int), sl121 (L a15 x1 c15) rl23, sl121 (L a14 x2 c14) rl24, BX b2 75 [I 0, L a15 x1 c15, L a14 x2 c14, L none ([] : List Int) 0, I 0, L none ([] : List D.Term) 0, I 0, I 0, L none ([] : List D.Term) 0, L none ([] : List Int) 0]] w101 S123 := hs.cons_nil (α := D.Term) 121
                 have hs : Sep [sl3 (L none ([] : List Int) 0) ([] : List Int), sl121 (L none ([] : List D.Term) 0) ([] : List D.Term), sl121 (L none ([] : List D.Term) 0) ([] : List D.Term), sl3 (L none ([] : List Int) 0) ([] : List Int), sl121 (L a15 x1 c15) rl23, sl121 (L a14 x2 c14) rl24, BX b2 75 [I 0, L a15 x1 c15, L a14 x2 c14, L none ([] : List Int) 0, I 0, L none ([] : List D.Term) 0, I 0, I 0, L none ([] : List D.Term) 0, L none ([] : List Int) 0]] w101 S123 := hs.cons_nil (α := Int) 3
                 obtain rfl := Option.some.inj h
                 have hs : Sep [sl121 (L a15 x1 c15) rl23, sl121 (L a14 x2 c14) rl24, sl3 (L none ([] : List Int) 0) ([] : List Int), sl121 (L none ([] : List D.Term) 0) ([] : List D.Term), sl121 (L none ([] : List D.Term) 0) ([] : List D.Term), sl3 (L none ([] : List Int) 0) ([] : List Int)] w101 S123 := Sep.pick [4, 5, 3, 2, 1, 0] hs (by decide) rfl
                 obtain ⟨he23, hs⟩ := hs.relen 0 rfl
                 have hs : Sep [sl121 (L a15 rl23 c15) rl23, sl121 (L a14 x2 c14) rl24, sl3 (L none ([] : List Int) 0) ([] : List Int), sl121 (L none ([] : List D.Term) 0) ([] : List D.Term), sl121 (L none ([] : List D.Term) 0) ([] : List D.Term), sl3 (L none ([] : List Int) 0) ([] : List Int)] w101 S123 := hs
                 obtain ⟨he24, hs⟩ := hs.relen 1 rfl
                 have hs : Sep [sl121 (L a15 rl23 c15) rl23, sl121 (L a14 rl24 c14) rl24, sl3 (L none ([] : List Int) 0) ([] : List Int), sl121 (L none ([] : List D.Term) 0) ([] : List D.Term), sl121 (L none ([] : List D.Term) 0) ([] : List D.Term), sl3 (L none ([] : List Int) 0) ([] : List Int)] w101 S123 := hs
                 exact wp_ret (retS rfl hF ty75 rfl rfl hbr rfl ⟨_, rfl, a15, c15, a14, c14, none, 0, none, 0, none, 0, none, 0, (by simp only [L, he23, he24]), S123, hM0.out, hs⟩)
 · refine op_of _ rfl rfl ?_
   refine q_alloc (z := .agg #[I 0, L none ([] : List D.Term) 0, L none ([] : List D.Term) 0, L none ([] : List Int) 0, I 0, L none ([] : List D.Term) 0, I 0, I 0, L none ([] : List D.Term) 0, L none ([] : List Int) 0]) hs hM0 [I 0, L none ([] : List D.Term) 0, L none ([] : List D.Term) 0, L none ([] : List Int) 0, I 0, L none ([] : List D.Term) 0, I 0, I 0, L none ([] : List D.Term) 0, L none ([] : List Int) 0] rfl rfl hF (by kernel_rfl) rfl fun b14 w102 S124 fr hs hp hF => ?_
   have r1 := r1.stp hM0 hp
   have hM0 := hM0.stp hp
   have hs : Sep [BX b14 75 [I 0, L none ([] : List D.Term) 0, L none ([] : List D.Term) 0, L none ([] : List Int) 0, I 0, L none ([] : List D.Term) 0, I 0, I 0, L none ([] : List D.Term) 0, L none ([] : List Int) 0], BX b2 75 [I 0, L none ([] : List D.Term) 0, L none ([] : List D.Term) 0, L none ([] : List Int) 0, I 0, L none ([] : List D.Term) 0, I 0, I 0, L none ([] : List D.Term) 0, L none ([] : List Int) 0], BX b1 30 [I p0.W, I p0.Mem, I p0.In, L a1 p0.Code c1]] w102 S124 := hs
   refine from_end rfl (then_normal ?_)
   refine any_node (fuel := 4) [0, 2] (by kernel_rfl) (by simp) ⟨?_, ?_, trivial⟩
   · refine op_of _ rfl rfl ?_
     refine q_make hs hM0 Try.underlying73 el121 (zero_flat _ (by kernel_rfl)) rfl rfl hF rfl rfl hx1 fun a16 c16 w103 S125 fr hs hp hF => ?_
     have r1 := r1.stp hM0 hp
     have hM0 := hM0.stp hp
     have hs : Sep [sl121 (L a16 x1 c16) x1, BX b14 75 [I 0, L none ([] : List D.Term) 0, L none ([] : List D.Term) 0, L none ([] : List Int) 0, I 0, L none ([] : List D.Term) 0, I 0, I 0, L none ([] : List D.Term) 0, L none ([] : List Int) 0], BX b2 75 [I 0, L none ([] : List D.Term) 0, L none ([] : List D.Term) 0, L none ([] : List Int) 0, I 0, L none ([] : List D.Term) 0, I 0, I 0, L none ([] : List D.Term) 0, L none ([] : List Int) 0], BX b1 30 [I p0.W, I p0.Mem, I p0.In, L a1 p0.Code c1]] w103 S125 := hs
     refine from_end rfl (then_normal ?_)
     refine any_node (fuel := 3) [2] (by kernel_rfl) (by simp) ⟨?_, trivial⟩
     · refine op_of _ rfl rfl ?_
       refine s_loadBox (I p0.Mem) ty3 rfl rfl hF rfl (hs.bx 3 rfl) rfl rfl fun fr hF => ?_
       refine from_end rfl (then_normal ?_)
       refine any_node (fuel := 2) [3] (by kernel_rfl) (by simp) ⟨?_, trivial⟩
       · refine op_of _ rfl rfl ?_
         refine q_make hs hM0 Try.underlying73 el121 (zero_flat _ (by kernel_rfl)) rfl rfl hF rfl rfl hx2 fun a17 c17 w104 S126 fr hs hp hF => ?_
         have r1 := r1.stp hM0 hp
         have hM0 := hM0.stp hp
         have hs : Sep [sl121 (L a17 x2 c17) x2, sl121 (L a16 x1 c16) x1, BX b14 75 [I 0, L none ([] : List D.Term) 0, L none ([] : List D.Term) 0, L none ([] : List Int) 0, I 0, L none ([] : List D.Term) 0, I 0, I 0, L none ([] : List D.Term) 0, L none ([] : List Int) 0], BX b2 75 [I 0, L none ([] : List D.Term) 0, L none ([] : List D.Term) 0, L none ([] : List Int) 0, I 0, L none ([] : List D.Term) 0, I 0, I 0, L none ([] : List D.Term) 0, L none ([] : List Int) 0], BX b1 30 [I p0.W, I p0.Mem, I p0.In, L a1 p0.Code c1]] w104 S126 := hs
         refine from_end rfl (then_normal ?_)
         refine any_node (fuel := 1) [4] (by kernel_rfl) (by simp) ⟨?_, trivial⟩
         · refine op_of _ rfl rfl ?_
           refine from_pure 1 [(1, B b1 0), (2, B b2 0), (3, B b14 0), (10, .agg #[I 0, L a16 x1 c16, L a17 x2 c17, L none ([] : List Int) 0, I 0, L none ([] : List D.Term) 0, I 0, I 0, L none ([] : List D.Term) 0, L none ([] : List Int) 0])] hF (by kernel_rfl) fun fr hF => ?_
           refine from_end rfl (then_normal ?_)
           refine any_node (fuel := 0) [6] (by kernel_rfl) (by simp) ⟨?_, trivial⟩
           · refine op_of _ rfl rfl ?_
             refine q_storeBoxS 2 hs hM0 rfl [I 0, L a16 x1 c16, L a17 x2 c17, L none ([] : List Int) 0, I 0, L none ([] : List D.Term) 0, I 0, I 0, L none ([] : List D.Term) 0, L none ([] : List Int) 0] rfl hF rfl rfl (by kernel_rfl) rfl rfl rfl fun w105 S127 hs hp hF => ?_
             have r1 := r1.stp hM0 hp
             have hM0 := hM0.stp hp
             have hs : Sep [sl121 (L a17 x2 c17) x2, sl121 (L a16 x1 c16) x1, BX b14 75 [I 0, L a16 x1 c16, L a17 x2 c17, L none ([] : List Int) 0, I 0, L none ([] : List D.Term) 0, I 0, I 0, L none ([] : List D.Term) 0, L none ([] : List Int) 0], BX b2 75 [I 0, L none ([] : List D.Term) 0, L none ([] : List D.Term) 0, L none ([] : List Int) 0, I 0, L none ([] : List D.Term) 0, I 0, I 0, L none ([] : List D.Term) 0, L none ([] : List Int) 0], BX b1 30 [I p0.W, I p0.Mem, I p0.In, L a1 p0.Code c1]] w105 S127 := hs
             refine from_end rfl (then_normal ?_)
             refine any_leaf (by kernel_rfl) (then_normal ?_)
             refine wp_seq ?_
             refine wp_seq (wp_text' ?_)
             refine from_pure 1 [(1, B b1 0), (2, B b2 0), (3, B b14 0), (11, B b14 1)] hF (by kernel_rfl) fun fr hF => ?_
             refine s_loadBox (L a16 x1 c16) ty73 rfl rfl hF rfl (hs.bx 2 rfl) rfl rfl fun fr hF => ?_
             refine from_pure 2 [(1, B b1 0), (2, B b2 0), (3, B b14 0), (13, I (len x1)), (14, I 0)] hF (by kernel_rfl) fun fr hF => ?_
             refine from_end rfl (then_normal ?_)
             obtain ⟨rl25, hit25, h⟩ := bindE h
             have hk25 := h
             refine (GL.wp_cut (M := fun fr w' => ∃ S129 F50, FrS 40 [(1, B b1 0), (2, B b2 0), (3, B b14 0)] fr ∧ Mem w105 S127 (fun k => (G0 k) ∧ k < w.heap.size) w' S129 F50 ∧ Sep [sl121 (L a17 x2 c17) x2, sl121 (L a16 x1 c16) rl25, BX b14 75 [I 0, L a16 x1 c16, L a17 x2 c17, L none ([] : List Int) 0, I 0, L none ([] : List D.Term) 0, I 0, I 0, L none ([] : List D.Term) 0, L none ([] : List Int) 0], BX b2 75 [I 0, L none ([] : List D.Term) 0, L none ([] : List D.Term) 0, L none ([] : List Int) 0, I 0, L none ([] : List D.Term) 0, I 0, I 0, L none ([] : List D.Term) 0, L none ([] : List Int) 0], BX b1 30 [I p0.W, I p0.Mem, I p0.In, L a1 p0.Code c1]] w' S129) (wp_block (wp_iter (Inv := fun s25 fr w' => ∃ S128 F49, FrS 40 [(1, B b1 0), (2, B b2 0), (3, B b14 0), (13, I (len x1)), (14, I s25.1)] fr ∧ Mem w105 S127 (fun k => (G0 k) ∧ k < w.heap.size) w' S128 F49 ∧ Sep [sl121 (L a17 x2 c17) x2, sl121 (L a16 x1 c16) s25.2, BX b14 75 [I 0, L a16 x1 c16, L a17 x2 c17, L none ([] : List Int) 0, I 0, L none ([] : List D.Term) 0, I 0, I 0, L none ([] : List D.Term) 0, L none ([] : List Int) 0], BX b2 75 [I 0, L none ([] : List D.Term) 0, L none ([] : List D.Term) 0, L none ([] : List Int) 0, I 0, L none ([] : List D.Term) 0, I 0, I 0, L none ([] : List D.Term) 0, L none ([] : List Int) 0], BX b1 30 [I p0.W, I p0.Mem, I p0.In, L a1 p0.Code c1]] w' S128) hit25 ⟨S127, _, hF.sub _ (by kernel_rfl), (Mem.start hM0.bd hM0.bdF hM0.dj), hs⟩ fun s25 q25 fr w25i hI h hr25 => ?_)) fun fr w25o hM => ?_)
             · obtain ⟨S128, F49, hF, hM1, hs⟩ := hI
               have r1 := r1.mem hM1
               refine wp_seq (wp_pure [(1, B b1 0), (2, B b2 0), (3, B b14 0), (13, I (len x1)), (14, I s25.1), (15, .bool (decide (s25.1 < (len x1))))] hF (by kernel_rfl) fun fr hF => then_normal ?_)
               refine wp_seq (wp_if hF (b := (decide (s25.1 < (len x1)))) rfl (fun hb => ?_) (fun hb => ?_))
               · replace h := iteT hb h
                 refine (wp_skip (then_normal ?_))
                 refine wp_seq (wp_block ?_)
                 refine wp_seq (wp_pure [(1, B b1 0), (2, B b2 0), (3, B b14 0), (4, I s25.1), (13, I (len x1)), (14, I s25.1)] hF (by kernel_rfl) fun fr hF => then_normal ?_)
                 obtain ⟨x51, hx51, h⟩ := bindE h
                 refine (region_bm 6 [0, 1, 0, 0, 8, 24, 63, 127] [true, false, true, true, false, false]
                     [.eq (B b14 1), .eq (L a16 x1 c16), .eq (I s25.1), .eq (B b1 0), .eq (I p0.W), .eq (.agg #[I x51.Op, I x51.W, I x51.N, Str.val x51.Name, L none ([] : List D.Term) 0]), .any, .any]
                     [(1, B b1 0), (2, B b2 0), (3, B b14 0), (13, I (len x1)), (14, I s25.1), (18, L a16 x1 c16), (19, I s25.1), (22, .agg #[I x51.Op, I x51.W, I x51.N, Str.val x51.Name, L none ([] : List D.Term) 0])] mix hF (by kernel_rfl) (by kernel_rfl) (by kernel_rfl) (by kernel_rfl) ⟨Pd.monoO_eq, Pd.monoO_eq, Pd.monoO_eq, trivial⟩ (fun ow hG => ⟨np_to ow (np_loadBox hG hF ty73 rfl rfl (hs.bx 2 rfl) rfl rfl rfl), np_to ow (np_loadBox hG hF ty3 rfl rfl (hs.bx 4 rfl) rfl rfl rfl), np_to ow (np_call [I p0.W, I 0] hG hF Try.call129 rfl rfl (fun w hC hg => (impl_ConstTerm_ok p0.W 0 hx51).mono fun e w' ⟨v, he, hv, hc⟩ => ⟨v, he, hc, hv⟩)), trivial⟩) (by kernel_rfl) fun ow fr w106 hF hE hc => ?_)
                 have r1 := r1.ext hc
                 have hs := hs.ext hc
                 have hM1 := hM1.ext hc
                 obtain ⟨x52, hx52, h⟩ := bindE h
                 refine q_set (q := x51) 1 hs hM1 rfl Try.underlying73 ty121 rfl rfl rfl rfl hF rfl rfl (by simp) rfl rfl hx52 fun w107 S130 fr _ hs hp hF => ?_
                 have r1 := r1.stp hM1 hp
                 have hM1 := hM1.stp hp
                 have hs : Sep [sl121 (L a17 x2 c17) x2, sl121 (L a16 x1 c16) x52, BX b14 75 [I 0, L a16 x1 c16, L a17 x2 c17, L none ([] : List Int) 0, I 0, L none ([] : List D.Term) 0, I 0, I 0, L none ([] : List D.Term) 0, L none ([] : List Int) 0], BX b2 75 [I 0, L none ([] : List D.Term) 0, L none ([] : List D.Term) 0, L none ([] : List Int) 0, I 0, L none ([] : List D.Term) 0, I 0, I 0, L none ([] : List D.Term) 0, L none ([] : List Int) 0], BX b1 30 [I p0.W, I p0.Mem, I p0.In, L a1 p0.Code c1]] w107 S130 := hs
                 refine from_end rfl ?_
                 refine blk_normal (then_normal ?_)
                 refine (wp_pure [(1, B b1 0), (2, B b2 0), (3, B b14 0), (13, I (len x1)), (14, I (w64 (s25.1 + 1)))] hF (by kernel_rfl) fun fr hF => then_normal ?_)
                 exact ⟨_, (Option.some.inj h).symm, S130, _, hF.sub _ (by kernel_rfl), hM1, hs⟩
               replace h := iteF hb h
               refine (wp_exit (then_exit (then_exit (blk_exit_eq ?_))))
               obtain rfl := hr25 _ (Option.some.inj h).symm
               exact then_normal ⟨S128, _, hF.sub _ (by kernel_rfl), hM1, hs⟩
             · obtain ⟨S129, F50, hF, hMx, hs⟩ := hM
               have r1 := r1.mem hMx
               have hM0 := hM0.trans hMx
               refine wp_seq ?_
               refine wp_seq (wp_text' ?_)
               refine from_pure 1 [(1, B b1 0), (2, B b2 0), (3, B b14 0), (25, B b14 2)] hF (by kernel_rfl) fun fr hF => ?_
               refine s_loadBox (L a17 x2 c17) ty73 rfl rfl hF rfl (hs.bx 2 rfl) rfl rfl fun fr hF => ?_
               refine from_pure 2 [(1, B b1 0), (2, B b2 0), (3, B b14 0), (27, I (len x2)), (28, I 0)] hF (by kernel_rfl) fun fr hF => ?_
               refine from_end rfl (then_normal ?_)
               obtain ⟨rl26, hit26, h⟩ := bindE h
               have hk26 := h
               refine (GL.wp_cut (M := fun fr w' => ∃ S132 F52, FrS 40 [(2, B b2 0), (3, B b14 0)] fr ∧ Mem w25o S129 F50 w' S132 F52 ∧ Sep [sl121 (L a17 x2 c17) rl26, sl121 (L a16 x1 c16) rl25, BX b14 75 [I 0, L a16 x1 c16, L a17 x2 c17, L none ([] : List Int) 0, I 0, L none ([] : List D.Term) 0, I 0, I 0, L none ([] : List D.Term) 0, L none ([] : List Int) 0], BX b2 75 [I 0, L none ([] : List D.Term) 0, L none ([] : List D.Term) 0, L none ([] : List Int) 0, I 0, L none ([] : List D.Term) 0, I 0, I 0, L none ([] : List D.Term) 0, L none ([] : List Int) 0]] w' S132) (wp_block (wp_iter (Inv := fun s26 fr w' => ∃ S131 F51, FrS 40 [(1, B b1 0), (2, B b2 0), (3, B b14 0), (27, I (len x2)), (28, I s26.1)] fr ∧ Mem w25o S129 F50 w' S131 F51 ∧ Sep [sl121 (L a17 x2 c17) s26.2, sl121 (L a16 x1 c16) rl25, BX b14 75 [I 0, L a16 x1 c16, L a17 x2 c17, L none ([] : List Int) 0, I 0, L none ([] : List D.Term) 0, I 0, I 0, L none ([] : List D.Term) 0, L none ([] : List Int) 0], BX b2 75 [I 0, L none ([] : List D.Term) 0, L none ([] : List D.Term) 0, L none ([] : List Int) 0, I 0, L none ([] : List D.Term) 0, I 0, I 0, L none ([] : List D.Term) 0, L none ([] : List Int) 0], BX b1 30 [I p0.W, I p0.Mem, I p0.In, L a1 p0.Code c1]] w' S131) hit26 ⟨S129, _, hF.sub _ (by kernel_rfl), (Mem.start hM0.bd hM0.bdF hM0.dj), hs⟩ fun s26 q26 fr w26i hI h hr26 => ?_)) fun fr w26o hM => ?_)
               · obtain ⟨S131, F51, hF, hM1, hs⟩ := hI
                 have r1 := r1.mem hM1
                 refine wp_seq (wp_pure [(1, B b1 0), (2, B b2 0), (3, B b14 0), (27, I (len x2)), (28, I s26.1), (29, .bool (decide (s26.1 < (len x2))))] hF (by kernel_rfl) fun fr hF => then_normal ?_)
                 refine wp_seq (wp_if hF (b := (decide (s26.1 < (len x2)))) rfl (fun hb => ?_) (fun hb => ?_))
                 · replace h := iteT hb h
                   refine (wp_skip (then_normal ?_))
                   refine wp_seq (wp_block ?_)
                   refine wp_seq (wp_pure [(1, B b1 0), (2, B b2 0), (3, B b14 0), (5, I s26.1), (27, I (len x2)), (28, I s26.1)] hF (by kernel_rfl) fun fr hF => then_normal ?_)
                   obtain ⟨x53, hx53, h⟩ := bindE h
                   refine (region_bm 6 [0, 1, 0, 0, 8, 24, 63, 127] [true, false, true, true, false, false]
                       [.eq (B b14 2), .eq (L a17 x2 c17), .eq (I s26.1), .eq (B b1 0), .eq (I p0.W), .eq (.agg #[I x53.Op, I x53.W, I x53.N, Str.val x53.Name, L none ([] : List D.Term) 0]), .any, .any]
                       [(1, B b1 0), (2, B b2 0), (3, B b14 0), (27, I (len x2)), (28, I s26.1), (32, L a17 x2 c17), (33, I s26.1), (36, .agg #[I x53.Op, I x53.W, I x53.N, Str.val x53.Name, L none ([] : List D.Term) 0])] mix hF (by kernel_rfl) (by kernel_rfl) (by kernel_rfl) (by kernel_rfl) ⟨Pd.monoO_eq, Pd.monoO_eq, Pd.monoO_eq, trivial⟩ (fun ow hG => ⟨np_to ow (np_loadBox hG hF ty73 rfl rfl (hs.bx 2 rfl) rfl rfl rfl), np_to ow (np_loadBox hG hF ty3 rfl rfl (hs.bx 4 rfl) rfl rfl rfl), np_to ow (np_call [I p0.W, I 0] hG hF Try.call129 rfl rfl (fun w hC hg => (impl_ConstTerm_ok p0.W 0 hx53).mono fun e w' ⟨v, he, hv, hc⟩ => ⟨v, he, hc, hv⟩)), trivial⟩) (by kernel_rfl) fun ow fr w108 hF hE hc => ?_)
                   have r1 := r1.ext hc
                   have hs := hs.ext hc
                   have hM1 := hM1.ext hc
                   obtain ⟨x54, hx54, h⟩ := bindE h
                   refine q_set (q := x53) 0 hs hM1 rfl Try.underlying73 ty121 rfl rfl rfl rfl hF rfl rfl (by simp) rfl rfl hx54 fun w109 S133 fr _ hs hp hF => ?_
                   have r1 := r1.stp hM1 hp
                   have hM1 := hM1.stp hp
                   have hs : Sep [sl121 (L a17 x2 c17) x54, sl121 (L a16 x1 c16) rl25, BX b14 75 [I 0, L a16 x1 c16, L a17 x2 c17, L none ([] : List Int) 0, I 0, L none ([] : List D.Term) 0, I 0, I 0, L none ([] : List D.Term) 0, L none ([] : List Int) 0], BX b2 75 [I 0, L none ([] : List D.Term) 0, L none ([] : List D.Term) 0, L none ([] : List Int) 0, I 0, L none ([] : List D.Term) 0, I 0, I 0, L none ([] : List D.Term) 0, L none ([] : List Int) 0], BX b1 30 [I p0.W, I p0.Mem, I p0.In, L a1 p0.Code c1]] w109 S133 := hs
                   refine from_end rfl ?_
                   refine blk_normal (then_normal ?_)
                   refine (wp_pure [(1, B b1 0), (2, B b2 0), (3, B b14 0), (27, I (len x2)), (28, I (w64 (s26.1 + 1)))] hF (by kernel_rfl) fun fr hF => then_normal ?_)
                   exact ⟨_, (Option.some.inj h).symm, S133, _, hF.sub _ (by kernel_rfl), hM1, hs⟩
                 replace h := iteF hb h
                 have hs : Sep [sl121 (L a17 x2 c17) s26.2, sl121 (L a16 x1 c16) rl25, BX b14 75 [I 0, L a16 x1 c16, L a17 x2 c17, L none ([] : List Int) 0, I 0, L none ([] : List D.Term) 0, I 0, I 0, L none ([] : List D.Term) 0, L none ([] : List Int) 0], BX b2 75 [I 0, L none ([] : List D.Term) 0, L none ([] : List D.Term) 0, L none ([] : List Int) 0, I 0, L none ([] : List D.Term) 0, I 0, I 0, L none ([] : List D.Term) 0, L none ([] : List Int) 0]] w26i S131 := Sep.pick [0, 1, 2, 3] hs (by decide) rfl
                 refine (wp_exit (then_exit (then_exit (blk_exit_eq ?_))))
                 obtain rfl := hr26 _ (Option.some.inj h).symm
                 exact then_normal ⟨S131, _, hF.sub _ (by kernel_rfl), hM1, hs⟩
               · obtain ⟨S132, F52, hF, hMx, hs⟩ := hM
                 have hM0 := hM0.trans hMx
                 refine wp_seq (wp_text' ?_)
                 refine s_loadBoxS ty75 rfl rfl hF rfl (hs.bx 2 rfl) rfl rfl fun fr hF => ?_
                 have hs : Sep [sl121 (L a17 x2 c17) rl26, sl121 (L a16 x1 c16) rl25, BX b2 75 [I 0, L none ([] : List D.Term) 0, L none ([] : List D.Term) 0, L none ([] : List Int) 0, I 0, L none ([] : List D.Term) 0, I 0, I 0, L none ([] : List D.Term) 0, L none ([] : List Int) 0]] w26o S132 := Sep.pick [0, 1, 3] hs (by decide) rfl
                 refine q_storeBoxS 2 hs hM0 rfl [I 0, L a16 x1 c16, L a17 x2 c17, L none ([] : List Int) 0, I 0, L none ([] : List D.Term) 0, I 0, I 0, L none ([] : List D.Term) 0, L none ([] : List Int) 0] rfl hF rfl rfl (by kernel_rfl) rfl rfl rfl fun w110 S134 hs hp hF => ?_
                 have hM0 := hM0.stp hp
                 have hs : Sep [sl121 (L a17 x2 c17) rl26, sl121 (L a16 x1 c16) rl25, BX b2 75 [I 0, L a16 x1 c16, L a17 x2 c17, L none ([] : List Int) 0, I 0, L none ([] : List D.Term) 0, I 0, I 0, L none ([] : List D.Term) 0, L none ([] : List Int) 0]] w110 S134 := hs
                 refine from_end rfl (then_normal ?_)
                 have hbr := (hs.bx 2 rfl)
                 have hs : Sep [sl3 (L none ([] : List Int) 0) ([] : List Int), sl121 (L a17 x2 c17) rl26, sl121 (L a16 x1 c16) rl25, BX b2 75 [I 0, L a16 x1 c16, L a17 x2 c17, L none ([] : List Int) 0, I 0, L none ([] : List D.Term) 0, I 0, I 0, L none ([] : List D.Term) 0, L none ([] : List Int) 0]] w110 S134 := hs.cons_nil (α := Int) 3
                 have hs : Sep [sl121 (L none ([] : List D.Term) 0) ([] : List D.Term), sl3 (L none ([] : List Int) 0) ([] : List Int), sl121 (L a17 x2 c17) rl26, sl121 (L a16 x1 c16) rl25, BX b2 75 [I 0, L a16 x1 c16, L a17 x2 c17, L none ([] : List Int) 0, I 0, L none ([] : List D.Term) 0, I 0, I 0, L none ([] : List D.Term) 0, L none ([] : List Int) 0]] w110 S134 := hs.cons_nil (α := D.Term) 121
                 have hs : Sep [sl121 (L none ([] : List D.Term) 0) ([] : List D.Term), sl121 (L none ([] : List D.Term) 0) ([] : List D.Term), sl3 (L none ([] : List Int) 0) ([] : List Int), sl121 (L a17 x2 c17) rl26, sl121 (L a16 x1 c16) rl25, BX b2 75 [I 0, L a16 x1 c16, L a17 x2 c17, L none ([] : List Int) 0, I 0, L none ([] : List D.Term) 0, I 0, I 0, L none ([] : List D.Term) 0, L none ([] : List Int) 0]] w110 S134 := hs.cons_nil (α := D.Term) 121
                 have hs : Sep [sl3 (L none ([] : List Int) 0) ([] : List Int), sl121 (L none ([] : List D.Term) 0) ([] : List D.Term), sl121 (L none ([] : List D.Term) 0) ([] : List D.Term), sl3 (L none ([] : List Int) 0) ([] : List Int), sl121 (L a17 x2 c17) rl26, sl121 (L a16 x1 c16) rl25, BX b2 75 [I 0, L a16 x1 c16, L a17 x2 c17, L none ([] : List Int) 0, I 0, L none ([] : List D.Term) 0, I 0, I 0, L none ([] : List D.Term) 0, L none ([] : List Int) 0]] w110 S134 := hs.cons_nil (α := Int) 3
                 obtain rfl := Option.some.inj h
                 have hs : Sep [sl121 (L a16 x1 c16) rl25, sl121 (L a17 x2 c17) rl26, sl3 (L none ([] : List Int) 0) ([] : List Int), sl121 (L none ([] : List D.Term) 0) ([] : List D.Term), sl121 (L none ([] : List D.Term) 0) ([] : List D.Term), sl3 (L none ([] : List Int) 0) ([] : List Int)] w110 S134 := Sep.pick [5, 4, 3, 2, 1, 0] hs (by decide) rfl
                 obtain ⟨he25, hs⟩ := hs.relen 0 rfl
                 have hs : Sep [sl121 (L a16 rl25 c16) rl25, sl121 (L a17 x2 c17) rl26, sl3 (L none ([] : List Int) 0) ([] : List Int), sl121 (L none ([] : List D.Term) 0) ([] : List D.Term), sl121 (L none ([] : List D.Term) 0) ([] : List D.Term), sl3 (L none ([] : List Int) 0) ([] : List Int)] w110 S134 := hs
                 obtain ⟨he26, hs⟩ := hs.relen 1 rfl
                 have hs : Sep [sl121 (L a16 rl25 c16) rl25, sl121 (L a17 rl26 c17) rl26, sl3 (L none ([] : List Int) 0) ([] : List Int), sl121 (L none ([] : List D.Term) 0) ([] : List D.Term), sl121 (L none ([] : List D.Term) 0) ([] : List D.Term), sl3 (L none ([] : List Int) 0) ([] : List Int)] w110 S134 := hs
                 exact wp_ret (retS rfl hF ty75 rfl rfl hbr rfl ⟨_, rfl, a16, c16, a17, c17, none, 0, none, 0, none, 0, none, 0, (by simp only [L, he25, he26]), S134, hM0.out, hs⟩)
   · refine op_of _ rfl rfl ?_
     refine s_loadBox (I p0.Mem) ty3 rfl rfl hF rfl (hs.bx 2 rfl) rfl rfl fun fr hF => ?_
     refine from_end rfl (then_normal ?_)
     refine any_node (fuel := 3) [0, 3] (by kernel_rfl) (by simp) ⟨?_, ?_, trivial⟩
     · refine op_of _ rfl rfl ?_
       refine q_make hs hM0 Try.underlying73 el121 (zero_flat _ (by kernel_rfl)) rfl rfl hF rfl rfl hx1 fun a18 c18 w111 S135 fr hs hp hF => ?_
       have r1 := r1.stp hM0 hp
       have hM0 := hM0.stp hp
       have hs : Sep [sl121 (L a18 x1 c18) x1, BX b14 75 [I 0, L none ([] : List D.Term) 0, L none ([] : List D.Term) 0, L none ([] : List Int) 0, I 0, L none ([] : List D.Term) 0, I 0, I 0, L none ([] : List D.Term) 0, L none ([] : List Int) 0], BX b2 75 [I 0, L none ([] : List D.Term) 0, L none ([] : List D.Term) 0, L none ([] : List Int) 0, I 0, L none ([] : List D.Term) 0, I 0, I 0, L none ([] : List D.Term) 0, L none ([] : List Int) 0], BX b1 30 [I p0.W, I p0.Mem, I p0.In, L a1 p0.Code c1]] w111 S135 := hs
       refine from_end rfl (then_normal ?_)
       refine any_node (fuel := 2) [3] (by kernel_rfl) (by simp) ⟨?_, trivial⟩
       · refine op_of _ rfl rfl ?_
         refine q_make hs hM0 Try.underlying73 el121 (zero_flat _ (by kernel_rfl)) rfl rfl hF rfl rfl hx2 fun a19 c19 w112 S136 fr hs hp hF => ?_
         have r1 := r1.stp hM0 hp
         have hM0 := hM0.stp hp
         have hs : Sep [sl121 (L a19 x2 c19) x2, sl121 (L a18 x1 c18) x1, BX b14 75 [I 0, L none ([] : List D.Term) 0, L none ([] : List D.Term) 0, L none ([] : List Int) 0, I 0, L none ([] : List D.Term) 0, I 0, I 0, L none ([] : List D.Term) 0, L none ([] : List Int) 0], BX b2 75 [I 0, L none ([] : List D.Term) 0, L none ([] : List D.Term) 0, L none ([] : List Int) 0, I 0, L none ([] : List D.Term) 0, I 0, I 0, L none ([] : List D.Term) 0, L none ([] : List Int) 0], BX b1 30 [I p0.W, I p0.Mem, I p0.In, L a1 p0.Code c1]] w112 S136 := hs
         refine from_end rfl (then_normal ?_)
         refine any_node (fuel := 1) [4] (by kernel_rfl) (by simp) ⟨?_, trivial⟩
         · refine op_of _ rfl rfl ?_
           refine from_pure 1 [(1, B b1 0), (2, B b2 0), (3, B b14 0), (10, .agg #[I 0, L a18 x1 c18, L a19 x2 c19, L none ([] : List Int) 0, I 0, L none ([] : List D.Term) 0, I 0, I 0, L none ([] : List D.Term) 0, L none ([] : List Int) 0])] hF (by kernel_rfl) fun fr hF => ?_
           refine from_end rfl (then_normal ?_)
           refine any_node (fuel := 0) [6] (by kernel_rfl) (by simp) ⟨?_, trivial⟩
           · refine op_of _ rfl rfl ?_
             refine q_storeBoxS 2 hs hM0 rfl [I 0, L a18 x1 c18, L a19 x2 c19, L none ([] : List Int) 0, I 0, L none ([] : List D.Term) 0, I 0, I 0, L none ([] : List D.Term) 0, L none ([] : List Int) 0] rfl hF rfl rfl (by kernel_rfl) rfl rfl rfl fun w113 S137 hs hp hF => ?_
             have r1 := r1.stp hM0 hp
             have hM0 := hM0.stp hp
             have hs : Sep [sl121 (L a19 x2 c19) x2, sl121 (L a18 x1 c18) x1, BX b14 75 [I 0, L a18 x1 c18, L a19 x2 c19, L none ([] : List Int) 0, I 0, L none ([] : List D.Term) 0, I 0, I 0, L none ([] : List D.Term) 0, L none ([] : List Int) 0], BX b2 75 [I 0, L none ([] : List D.Term) 0, L none ([] : List D.Term) 0, L none ([] : List Int) 0, I 0, L none ([] : List D.Term) 0, I 0, I 0, L none ([] : List D.Term) 0, L none ([] : List Int) 0], BX b1 30 [I p0.W, I p0.Mem, I p0.In, L a1 p0.Code c1]] w113 S137 := hs
             refine from_end rfl (then_normal ?_)
             refine any_leaf (by kernel_rfl) (then_normal ?_)
             refine wp_seq ?_
             refine wp_seq (wp_text' ?_)
             refine from_pure 1 [(1, B b1 0), (2, B b2 0), (3, B b14 0), (11, B b14 1)] hF (by kernel_rfl) fun fr hF => ?_
             refine s_loadBox (L a18 x1 c18) ty73 rfl rfl hF rfl (hs.bx 2 rfl) rfl rfl fun fr hF => ?_
             refine from_pure 2 [(1, B b1 0), (2, B b2 0), (3, B b14 0), (13, I (len x1)), (14, I 0)] hF (by kernel_rfl) fun fr hF => ?_
             refine from_end rfl (then_normal ?_)
             obtain ⟨rl27, hit27, h⟩ := bindE h
             have hk27 := h
             refine (GL.wp_cut (M := fun fr w' => ∃ S139 F54, FrS 40 [(1, B b1 0), (2, B b2 0), (3, B b14 0)] fr ∧ Mem w113 S137 (fun k => (G0 k) ∧ k < w.heap.size) w' S139 F54 ∧ Sep [sl121 (L a19 x2 c19) x2, sl121 (L a18 x1 c18) rl27, BX b14 75 [I 0, L a18 x1 c18, L a19 x2 c19, L none ([] : List Int) 0, I 0, L none ([] : List D.Term) 0, I 0, I 0, L none ([] : List D.Term) 0, L none ([] : List Int) 0], BX b2 75 [I 0, L none ([] : List D.Term) 0, L none ([] : List D.Term) 0, L none ([] : List Int) 0, I 0, L none ([] : List D.Term) 0, I 0, I 0, L none ([] : List D.Term) 0, L none ([] : List Int) 0], BX b1 30 [I p0.W, I p0.Mem, I p0.In, L a1 p0.Code c1]] w' S139) (wp_block (wp_iter (Inv := fun s27 fr w' => ∃ S138 F53, FrS 40 [(1, B b1 0), (2, B b2 0), (3, B b14 0), (13, I (len x1)), (14, I s27.1)] fr ∧ Mem w113 S137 (fun k => (G0 k) ∧ k < w.heap.size) w' S138 F53 ∧ Sep [sl121 (L a19 x2 c19) x2, sl121 (L a18 x1 c18) s27.2, BX b14 75 [I 0, L a18 x1 c18, L a19 x2 c19, L none ([] : List Int) 0, I 0, L none ([] : List D.Term) 0, I 0, I 0, L none ([] : List D.Term) 0, L none ([] : List Int) 0], BX b2 75 [I 0, L none ([] : List D.Term) 0, L none ([] : List D.Term) 0, L none ([] : List Int) 0, I 0, L none ([] : List D.Term) 0, I 0, I 0, L none ([] : List D.Term) 0, L none ([] : List Int) 0], BX b1 30 [I p0.W, I p0.Mem, I p0.In, L a1 p0.Code c1]] w' S138) hit27 ⟨S137, _, hF.sub _ (by kernel_rfl), (Mem.start hM0.bd hM0.bdF hM0.dj), hs⟩ fun s27 q27 fr w27i hI h hr27 => ?_)) fun fr w27o hM => ?_)
             · obtain ⟨S138, F53, hF, hM1, hs⟩ := hI
               have r1 := r1.mem hM1
               refine wp_seq (wp_pure [(1, B b1 0), (2, B b2 0), (3, B b14 0), (13, I (len x1)), (14, I s27.1), (15, .bool (decide (s27.1 < (len x1))))] hF (by kernel_rfl) fun fr hF => then_normal ?_)
               refine wp_seq (wp_if hF (b := (decide (s27.1 < (len x1)))) rfl (fun hb => ?_) (fun hb => ?_))
               · replace h := iteT hb h
                 refine (wp_skip (then_normal ?_))
                 refine wp_seq (wp_block ?_)
                 refine wp_seq (wp_pure [(1, B b1 0), (2, B b2 0), (3, B b14 0), (4, I s27.1), (13, I (len x1)), (14, I s27.1)] hF (by kernel_rfl) fun fr hF => then_normal ?_)
                 obtain ⟨x55, hx55, h⟩ := bindE h
                 refine (region_bm 6 [0, 1, 0, 0, 8, 24, 63, 127] [true, false, true, true, false, false]
                     [.eq (B b14 1), .eq (L a18 x1 c18), .eq (I s27.1), .eq (B b1 0), .eq (I p0.W), .eq (.agg #[I x55.Op, I x55.W, I x55.N, Str.val x55.Name, L none ([] : List D.Term) 0]), .any, .any]
                     [(1, B b1 0), (2, B b2 0), (3, B b14 0), (13, I (len x1)), (14, I s27.1), (18, L a18 x1 c18), (19, I s27.1), (22, .agg #[I x55.Op, I x55.W, I x55.N, Str.val x55.Name, L none ([] : List D.Term) 0])] mix hF (by kernel_rfl) (by kernel_rfl) (by kernel_rfl) (by kernel_rfl) ⟨Pd.monoO_eq, Pd.monoO_eq, Pd.monoO_eq, trivial⟩ (fun ow hG => ⟨np_to ow (np_loadBox hG hF ty73 rfl rfl (hs.bx 2 rfl) rfl rfl rfl), np_to ow (np_loadBox hG hF ty3 rfl rfl (hs.bx 4 rfl) rfl rfl rfl), np_to ow (np_call [I p0.W, I 0] hG hF Try.call129 rfl rfl (fun w hC hg => (impl_ConstTerm_ok p0.W 0 hx55).mono fun e w' ⟨v, he, hv, hc⟩ => ⟨v, he, hc, hv⟩)), trivial⟩) (by kernel_rfl) fun ow fr w114 hF hE hc => ?_)
                 have r1 := r1.ext hc
                 have hs := hs.ext hc
                 have hM1 := hM1.ext hc
                 obtain ⟨x56, hx56, h⟩ := bindE h
                 refine q_set (q := x55) 1 hs hM1 rfl Try.underlying73 ty121 rfl rfl rfl rfl hF rfl rfl (by simp) rfl rfl hx56 fun w115 S140 fr _ hs hp hF => ?_
                 have r1 := r1.stp hM1 hp
                 have hM1 := hM1.stp hp
                 have hs : Sep [sl121 (L a19 x2 c19) x2, sl121 (L a18 x1 c18) x56, BX b14 75 [I 0, L a18 x1 c18, L a19 x2 c19, L none ([] : List Int) 0, I 0, L none ([] : List D.Term) 0, I 0, I 0, L none ([] : List D.Term) 0, L none ([] : List Int) 0], BX b2 75 [I 0, L none ([] : List D.Term) 0, L none ([] : List D.Term) 0, L none ([] : List Int) 0, I 0, L none ([] : List D.Term) 0, I 0, I 0, L none ([] : List D.Term) 0, L none ([] : List Int) 0], BX b1 30 [I p0.W, I p0.Mem, I p0.In, L a1 p0.Code c1]] w115 S140 := hs
                 refine from_end rfl ?_
                 refine blk_normal (then_normal ?_)
                 refine (wp_pure [(1, B b1 0), (2, B b2 0), (3, B b14 0), (13, I (len x1)), (14, I (w64 (s27.1 + 1)))] hF (by kernel_rfl) fun fr hF => then_normal ?_)
                 exact ⟨_, (Option.some.inj h).symm, S140, _, hF.sub _ (by kernel_rfl), hM1, hs⟩
               replace h := iteF hb h
               refine (wp_exit (then_exit (then_exit (blk_exit_eq ?_))))
               obtain rfl := hr27 _ (Option.some.inj h).symm
               exact then_normal ⟨S138, _, hF.sub _ (by kernel_rfl), hM1, hs⟩
             · obtain ⟨S139, F54, hF, hMx, hs⟩ := hM
               have r1 := r1.mem hMx
               have hM0 := hM0.trans hMx
               refine wp_seq ?_
               refine wp_seq (wp_text' ?_)
               refine from_pure 1 [(1, B b1 0), (2, B b2 0), (3, B b14 0), (25, B b14 2)] hF (by kernel_rfl) fun fr hF => ?_
               refine s_loadBox (L a19 x2 c19) ty73 rfl rfl hF rfl (hs.bx 2 rfl) rfl rfl fun fr hF => ?_
               refine from_pure 2 [(1, B b1 0), (2, B b2 0), (3, B b14 0), (27, I (len x2)), (28, I 0)] hF (by kernel_rfl) fun fr hF => ?_
               refine from_end rfl (then_normal ?_)
               obtain ⟨rl28, hit28, h⟩ := bindE h
               have hk28 := h
               refine (GL.wp_cut (M := fun fr w' => ∃ S142 F56, FrS 40 [(2, B b2 0), (3, B b14 0)] fr ∧ Mem w27o S139 F54 w' S142 F56 ∧ Sep [sl121 (L a19 x2 c19) rl28, sl121 (L a18 x1 c18) rl27, BX b14 75 [I 0, L a18 x1 c18, L a19 x2 c19, L none ([] : List Int) 0, I 0, L none ([] : List D.Term) 0, I 0, I 0, L none ([] : List D.Term) 0, L none ([] : List Int) 0], BX b2 75 [I 0, L none ([] : List D.Term) 0, L none ([] : List D.Term) 0, L none ([] : List Int) 0, I 0, L none ([] : List D.Term) 0, I 0, I 0, L none ([] : List D.Term) 0, L none ([] : List Int) 0]] w' S142) (wp_block (wp_iter (Inv := fun s28 fr w' => ∃ S141 F55, FrS 40 [(1, B b1 0), (2, B b2 0), (3, B b14 0), (27, I (len x2)), (28, I s28.1)] fr ∧ Mem w27o S139 F54 w' S141 F55 ∧ Sep [sl121 (L a19 x2 c19) s28.2, sl121 (L a18 x1 c18) rl27, BX b14 75 [I 0, L a18 x1 c18, L a19 x2 c19, L none ([] : List Int) 0, I 0, L none ([] : List D.Term) 0, I 0, I 0, L none ([] : List D.Term) 0, L none ([] : List Int) 0], BX b2 75 [I 0, L none ([] : List D.Term) 0, L none ([] : List D.Term) 0, L none ([] : List Int) 0, I 0, L none ([] : List D.Term) 0, I 0, I 0, L none ([] : List D.Term) 0, L none ([] : List Int) 0], BX b1 30 [I p0.W, I p0.Mem, I p0.In, L a1 p0.Code c1]] w' S141) hit28 ⟨S139, _, hF.sub _ (by kernel_rfl), (Mem.start hM0.bd hM0.bdF hM0.dj), hs⟩ fun s28 q28 fr w28i hI h hr28 => ?_)) fun fr w28o hM => ?_)
               · obtain ⟨S141, F55, hF, hM1, hs⟩ := hI
                 have r1 := r1.mem hM1
                 refine wp_seq (wp_pure [(1, B b1 0), (2, B b2 0), (3, B b14 0), (27, I (len x2)), (28, I s28.1), (29, .bool (decide (s28.1 < (len x2))))] hF (by kernel_rfl) fun fr hF => then_normal ?_)
                 refine wp_seq (wp_if hF (b := (decide (s28.1 < (len x2)))) rfl (fun hb => ?_) (fun hb => ?_))
                 · replace h := iteT hb h
                   refine (wp_skip (then_normal ?_))
                   refine wp_seq (wp_block ?_)
                   refine wp_seq (wp_pure [(1, B b1 0), (2, B b2 0), (3, B b14 0), (5, I s28.1), (27, I (len x2)), (28, I s28.1)] hF (by kernel_rfl) fun fr hF => then_normal ?_)
                   obtain ⟨x57, hx57, h⟩ := bindE h
                   refine (region_bm 6 [0, 1, 0, 0, 8, 24, 63, 127] [true, false, true, true, false, false]
                       [.eq (B b14 2), .eq (L a19 x2 c19), .eq (I s28.1), .eq (B b1 0), .eq (I p0.W), .eq (.agg #[I x57.Op, I x57.W, I x57.N, Str.val x57.Name, L none ([] : List D.Term) 0]), .any, .any]
                       [(1, B b1 0), (2, B b2 0), (3, B b14 0), (27, I (len x2)), (28, I s28.1), (32, L a19 x2 c19), (33, I s28.1), (36, .agg #[I x57.Op, I x57.W, I x57.N, Str.val x57.Name, L none ([] : List D.Term) 0])] mix hF (by kernel_rfl) (by kernel_rfl) (by kernel_rfl) (by kernel_rfl) ⟨Pd.monoO_eq, Pd.monoO_eq, Pd.monoO_eq, trivial⟩ (fun ow hG => ⟨np_to ow (np_loadBox hG hF ty73 rfl rfl (hs.bx 2 rfl) rfl rfl rfl), np_to ow (np_loadBox hG hF ty3 rfl rfl (hs.bx 4 rfl) rfl rfl rfl), np_to ow (np_call [I p0.W, I 0] hG hF Try.call129 rfl rfl (fun w hC hg => (impl_ConstTerm_ok p0.W 0 hx57).mono fun e w' ⟨v, he, hv, hc⟩ => ⟨v, he, hc, hv⟩)), trivial⟩) (by kernel_rfl) fun ow fr w116 hF hE hc => ?_)
                   have r1 := r1.ext hc
                   have hs := hs.ext hc
                   have hM1 := hM1.ext hc
                   obtain ⟨x58, hx58, h⟩ := bindE h
                   refine q_set (q := x57) 0 hs hM1 rfl Try.underlying73 ty121 rfl rfl rfl rfl hF rfl rfl (by simp) rfl rfl hx58 fun w117 S143 fr _ hs hp hF => ?_
                   have r1 := r1.stp hM1 hp
                   have hM1 := hM1.stp hp
                   have hs : Sep [sl121 (L a19 x2 c19) x58, sl121 (L a18 x1 c18) rl27, BX b14 75 [I 0, L a18 x1 c18, L a19 x2 c19, L none ([] : List Int) 0, I 0, L none ([] : List D.Term) 0, I 0, I 0, L none ([] : List D.Term) 0, L none ([] : List Int) 0], BX b2 75 [I 0, L none ([] : List D.Term) 0, L none ([] : List D.Term) 0, L none ([] : List Int) 0, I 0, L none ([] : List D.Term) 0, I 0, I 0, L none ([] : List D.Term) 0, L none ([] : List Int) 0], BX b1 30 [I p0.W, I p0.Mem, I p0.In, L a1 p0.Code c1]] w117 S143 := hs
                   refine from_end rfl ?_
                   refine blk_normal (then_normal ?_)
                   refine (wp_pure [(1, B b1 0), (2, B b2 0), (3, B b14 0), (27, I (len x2)), (28, I (w64 (s28.1 + 1)))] hF (by kernel_rfl) fun fr hF => then_normal ?_)
                   exact ⟨_, (Option.some.inj h).symm, S143, _, hF.sub _ (by kernel_rfl), hM1, hs⟩
                 replace h := iteF hb h
                 have hs : Sep [sl121 (L a19 x2 c19) s28.2, sl121 (L a18 x1 c18) rl27, BX b14 75 [I 0, L a18 x1 c18, L a19 x2 c19, L none ([] : List Int) 0, I 0, L none ([] : List D.Term) 0, I 0, I 0, L none ([] : List D.Term) 0, L none ([] : List Int) 0], BX b2 75 [I 0, L none ([] : List D.Term) 0, L none ([] : List D.Term) 0, L none ([] : List Int) 0, I 0, L none ([] : List D.Term) 0, I 0, I 0, L none ([] : List D.Term) 0, L none ([] : List Int) 0]] w28i S141 := Sep.pick [0, 1, 2, 3] hs (by decide) rfl
                 refine (wp_exit (then_exit (then_exit (blk_exit_eq ?_))))
                 obtain rfl := hr28 _ (Option.some.inj h).symm
                 exact then_normal ⟨S141, _, hF.sub _ (by kernel_rfl), hM1, hs⟩
               · obtain ⟨S142, F56, hF, hMx, hs⟩ := hM
                 have hM0 := hM0.trans hMx
                 refine wp_seq (wp_text' ?_)
                 refine s_loadBoxS ty75 rfl rfl hF rfl (hs.bx 2 rfl) rfl rfl fun fr hF => ?_
                 have hs : Sep [sl121 (L a19 x2 c19) rl28, sl121 (L a18 x1 c18) rl27, BX b2 75 [I 0, L none ([] : List D.Term) 0, L none ([] : List D.Term) 0, L none ([] : List Int) 0, I 0, L none ([] : List D.Term) 0, I 0, I 0, L none ([] : List D.Term) 0, L none ([] : List Int) 0]] w28o S142 := Sep.pick [0, 1, 3] hs (by decide) rfl
                 refine q_storeBoxS 2 hs hM0 rfl [I 0, L a18 x1 c18, L a19 x2 c19, L none ([] : List Int) 0, I 0, L none ([] : List D.Term) 0, I 0, I 0, L none ([] : List D.Term) 0, L none ([] : List Int) 0] rfl hF rfl rfl (by kernel_rfl) rfl rfl rfl fun w118 S144 hs hp hF => ?_
                 have hM0 := hM0.stp hp
                 have hs : Sep [sl121 (L a19 x2 c19) rl28, sl121 (L a18 x1 c18) rl27, BX b2 75 [I 0, L a18 x1 c18, L a19 x2 c19, L none ([] : List Int) 0, I 0, L none ([] : List D.Term) 0, I 0, I 0, L none ([] : List D.Term) 0, L none ([] : List Int) 0]] w118 S144 := hs
                 refine from_end rfl (then_normal ?_)
                 have hbr := (hs.bx 2 rfl)
                 have hs : Sep [sl3 (L none ([] : List Int) 0) ([] : List Int), sl121 (L a19 x2 c19) rl28, sl121 (L a18 x1 c18) rl27, BX b2 75 [I 0, L a18 x1 c18, L a19 x2 c19, L none ([] : List Int) 0, I 0, L none ([] : List D.Term) 0, I 0, I 0, L none ([] : List D.Term) 0, L none ([] : List Int) 0]] w118 S144 := hs.cons_nil (α := Int) 3
                 have hs : Sep [sl121 (L none ([] : List D.Term) 0) ([] : List D.Term), sl3 (L none ([] : List Int) 0) ([] : List Int), sl121 (L a19 x2 c19) rl28, sl121 (L a18 x1 c18) rl27, BX b2 75 [I 0, L a18 x1 c18, L a19 x2 c19, L none ([] : List Int) 0, I 0, L none ([] : List D.Term) 0, I 0, I 0, L none ([] : List D.Term) 0, L none ([] : List Int) 0]] w118 S144 := hs.cons_nil (α := D.Term) 121
                 have hs : Sep [sl121 (L none ([] : List D.Term) 0) ([] : List D.Term), sl121 (L none ([] : List D.Term) 0) ([] : List D.Term), sl3 (L none ([] : List Int) 0) ([] : List Int), sl121 (L a19 x2 c19) rl28, sl121 (L a18 x1 c18) rl27, BX b2 75 [I 0, L a18 x1 c18, L a19 x2 c19, L none ([] : List Int) 0, I 0, L none ([] : List D.Term) 0, I 0, I 0, L none ([] : List D.Term) 0, L none ([] : List Int) 0]] w118 S144 := hs.cons_nil (α := D.Term) 121
                 have hs : Sep [sl3 (L none ([] : List Int) 0) ([] : List Int), sl121 (L none ([] : List D.Term) 0) ([] : List D.Term), sl121 (L none ([] : List D.Term) 0) ([] : List D.Term), sl3 (L none ([] : List Int) 0) ([] : List Int), sl121 (L a19 x2 c19) rl28, sl121 (L a18 x1 c18) rl27, BX b2 75 [I 0, L a18 x1 c18, L a19 x2 c19, L none ([] : List Int) 0, I 0, L none ([] : List D.Term) 0, I 0, I 0, L none ([] : List D.Term) 0, L none ([] : List Int) 0]] w118 S144 := hs.cons_nil (α := Int) 3
                 obtain rfl := Option.some.inj h
                 have hs : Sep [sl121 (L a18 x1 c18) rl27, sl121 (L a19 x2 c19) rl28, sl3 (L none ([] : List Int) 0) ([] : List Int), sl121 (L none ([] : List D.Term) 0) ([] : List D.Term), sl121 (L none ([] : List D.Term) 0) ([] : List D.Term), sl3 (L none ([] : List Int) 0) ([] : List Int)] w118 S144 := Sep.pick [5, 4, 3, 2, 1, 0] hs (by decide) rfl
                 obtain ⟨he27, hs⟩ := hs.relen 0 rfl
                 have hs : Sep [sl121 (L a18 rl27 c18) rl27, sl121 (L a19 x2 c19) rl28, sl3 (L none ([] : List Int) 0) ([] : List Int), sl121 (L none ([] : List D.Term) 0) ([] : List D.Term), sl121 (L none ([] : List D.Term) 0) ([] : List D.Term), sl3 (L none ([] : List Int) 0) ([] : List Int)] w118 S144 := hs
                 obtain ⟨he28, hs⟩ := hs.relen 1 rfl
                 have hs : Sep [sl121 (L a18 rl27 c18) rl27, sl121 (L a19 rl28 c19) rl28, sl3 (L none ([] : List Int) 0) ([] : List Int), sl121 (L none ([] : List D.Term) 0) ([] : List D.Term), sl121 (L none ([] : List D.Term) 0) ([] : List D.Term), sl3 (L none ([] : List Int) 0) ([] : List Int)] w118 S144 := hs
                 exact wp_ret (retS rfl hF ty75 rfl rfl hbr rfl ⟨_, rfl, a18, c18, a19, c19, none, 0, none, 0, none, 0, none, 0, (by simp only [L, he27, he28]), S144, hM0.out, hs⟩)
     · refine op_of _ rfl rfl ?_
       refine q_make hs hM0 Try.underlying73 el121 (zero_flat _ (by kernel_rfl)) rfl rfl hF rfl rfl hx2 fun a20 c20 w119 S145 fr hs hp hF => ?_
       have r1 := r1.stp hM0 hp
       have hM0 := hM0.stp hp
       have hs : Sep [sl121 (L a20 x2 c20) x2, BX b14 75 [I 0, L none ([] : List D.Term) 0, L none ([] : List D.Term) 0, L none ([] : List Int) 0, I 0, L none ([] : List D.Term) 0, I 0, I 0, L none ([] : List D.Term) 0, L none ([] : List Int) 0], BX b2 75 [I 0, L none ([] : List D.Term) 0, L none ([] : List D.Term) 0, L none ([] : List Int) 0, I 0, L none ([] : List D.Term) 0, I 0, I 0, L none ([] : List D.Term) 0, L none ([] : List Int) 0], BX b1 30 [I p0.W, I p0.Mem, I p0.In, L a1 p0.Code c1]] w119 S145 := hs
       refine from_end rfl (then_normal ?_)
       refine any_node (fuel := 2) [0] (by kernel_rfl) (by simp) ⟨?_, trivial⟩
       · refine op_of _ rfl rfl ?_
         refine q_make hs hM0 Try.underlying73 el121 (zero_flat _ (by kernel_rfl)) rfl rfl hF rfl rfl hx1 fun a21 c21 w120 S146 fr hs hp hF => ?_
         have r1 := r1.stp hM0 hp
         have hM0 := hM0.stp hp
         have hs : Sep [sl121 (L a21 x1 c21) x1, sl121 (L a20 x2 c20) x2, BX b14 75 [I 0, L none ([] : List D.Term) 0, L none ([] : List D.Term) 0, L none ([] : List Int) 0, I 0, L none ([] : List D.Term) 0, I 0, I 0, L none ([] : List D.Term) 0, L none ([] : List Int) 0], BX b2 75 [I 0, L none ([] : List D.Term) 0, L none ([] : List D.Term) 0, L none ([] : List Int) 0, I 0, L none ([] : List D.Term) 0, I 0, I 0, L none ([] : List D.Term) 0, L none ([] : List Int) 0], BX b1 30 [I p0.W, I p0.Mem, I p0.In, L a1 p0.Code c1]] w120 S146 := hs
         refine from_end rfl (then_normal ?_)
         refine any_node (fuel := 1) [4] (by kernel_rfl) (by simp) ⟨?_, trivial⟩
         · refine op_of _ rfl rfl ?_
           refine from_pure 1 [(1, B b1 0), (2, B b2 0), (3, B b14 0), (10, .agg #[I 0, L a21 x1 c21, L a20 x2 c20, L none ([] : List Int) 0, I 0, L none ([] : List D.Term) 0, I 0, I 0, L none ([] : List D.Term) 0, L none ([] : List Int) 0])] hF (by kernel_rfl) fun fr hF => ?_
           refine from_end rfl (then_normal ?_)
           refine any_node (fuel := 0) [6] (by kernel_rfl) (by simp) ⟨?_, trivial⟩
           · refine op_of _ rfl rfl ?_
             refine q_storeBoxS 2 hs hM0 rfl [I 0, L a21 x1 c21, L a20 x2 c20, L none ([] : List Int) 0, I 0, L none ([] : List D.Term) 0, I 0, I 0, L none ([] : List D.Term) 0, L none ([] : List Int) 0] rfl hF rfl rfl (by kernel_rfl) rfl rfl rfl fun w121 S147 hs hp hF => ?_
             have r1 := r1.stp hM0 hp
             have hM0 := hM0.stp hp
             have hs : Sep [sl121 (L a21 x1 c21) x1, sl121 (L a20 x2 c20) x2, BX b14 75 [I 0, L a21 x1 c21, L a20 x2 c20, L none ([] : List Int) 0, I 0, L none ([] : List D.Term) 0, I 0, I 0, L none ([] : List D.Term) 0, L none ([] : List Int) 0], BX b2 75 [I 0, L none ([] : List D.Term) 0, L none ([] : List D.Term) 0, L none ([] : List Int) 0, I 0, L none ([] : List D.Term) 0, I 0, I 0, L none ([] : List D.Term) 0, L none ([] : List Int) 0], BX b1 30 [I p0.W, I p0.Mem, I p0.In, L a1 p0.Code c1]] w121 S147 := hs
             refine from_end rfl (then_normal ?_)
             refine any_leaf (by kernel_rfl) (then_normal ?_)
             refine wp_seq ?_
             refine wp_seq (wp_text' ?_)
             refine from_pure 1 [(1, B b1 0), (2, B b2 0), (3, B b14 0), (11, B b14 1)] hF (by kernel_rfl) fun fr hF => ?_
             refine s_loadBox (L a21 x1 c21) ty73 rfl rfl hF rfl (hs.bx 2 rfl) rfl rfl fun fr hF => ?_
             refine from_pure 2 [(1, B b1 0), (2, B b2 0), (3, B b14 0), (13, I (len x1)), (14, I 0)] hF (by kernel_rfl) fun fr hF => ?_
             refine from_end rfl (then_normal ?_)
             obtain ⟨rl29, hit29, h⟩ := bindE h
             have hk29 := h
             refine (GL.wp_cut (M := fun fr w' => ∃ S149 F58, FrS 40 [(1, B b1 0), (2, B b2 0), (3, B b14 0)] fr ∧ Mem w121 S147 (fun k => (G0 k) ∧ k < w.heap.size) w' S149 F58 ∧ Sep [sl121 (L a21 x1 c21) rl29, sl121 (L a20 x2 c20) x2, BX b14 75 [I 0, L a21 x1 c21, L a20 x2 c20, L none ([] : List Int) 0, I 0, L none ([] : List D.Term) 0, I 0, I 0, L none ([] : List D.Term) 0, L none ([] : List Int) 0], BX b2 75 [I 0, L none ([] : List D.Term) 0, L none ([] : List D.Term) 0, L none ([] : List Int) 0, I 0, L none ([] : List D.Term) 0, I 0, I 0, L none ([] : List D.Term) 0, L none ([] : List Int) 0], BX b1 30 [I p0.W, I p0.Mem, I p0.In, L a1 p0.Code c1]] w' S149) (wp_block (wp_iter (Inv := fun s29 fr w' => ∃ S148 F57, FrS 40 [(1, B b1 0), (2, B b2 0), (3, B b14 0), (13, I (len x1)), (14, I s29.1)] fr ∧ Mem w121 S147 (fun k => (G0 k) ∧ k < w.heap.size) w' S148 F57 ∧ Sep [sl121 (L a21 x1 c21) s29.2, sl121 (L a20 x2 c20) x2, BX b14 75 [I 0, L a21 x1 c21, L a20 x2 c20, L none ([] : List Int) 0, I 0, L none ([] : List D.Term) 0, I 0, I 0, L none ([] : List D.Term) 0, L none ([] : List Int) 0], BX b2 75 [I 0, L none ([] : List D.Term) 0, L none ([] : List D.Term) 0, L none ([] : List Int) 0, I 0, L none ([] : List D.Term) 0, I 0, I 0, L none ([] : List D.Term) 0, L none ([] : List Int) 0], BX b1 30 [I p0.W, I p0.Mem, I p0.In, L a1 p0.Code c1]] w' S148) hit29 ⟨S147, _, hF.sub _ (by kernel_rfl), (Mem.start hM0.bd hM0.bdF hM0.dj), hs⟩ fun s29 q29 fr w29i hI h hr29 => ?_)) fun fr w29o hM => ?_)
             · obtain ⟨S148, F57, hF, hM1, hs⟩ := hI
               have r1 := r1.mem hM1
               refine wp_seq (wp_pure [(1, B b1 0), (2, B b2 0), (3, B b14 0), (13, I (len x1)), (14, I s29.1), (15, .bool (decide (s29.1 < (len x1))))] hF (by kernel_rfl) fun fr hF => then_normal ?_)
               refine wp_seq (wp_if hF (b := (decide (s29.1 < (len x1)))) rfl (fun hb => ?_) (fun hb => ?_))
               · replace h := iteT hb h
                 refine (wp_skip (then_normal ?_))
                 refine wp_seq (wp_block ?_)
                 refine wp_seq (wp_pure [(1, B b1 0), (2, B b2 0), (3, B b14 0), (4, I s29.1), (13, I (len x1)), (14, I s29.1)] hF (by kernel_rfl) fun fr hF => then_normal ?_)
                 obtain ⟨x59, hx59, h⟩ := bindE h
                 refine (region_bm 6 [0, 1, 0, 0, 8, 24, 63, 127] [true, false, true, true, false, false]
                     [.eq (B b14 1), .eq (L a21 x1 c21), .eq (I s29.1), .eq (B b1 0), .eq (I p0.W), .eq (.agg #[I x59.Op, I x59.W, I x59.N, Str.val x59.Name, L none ([] : List D.Term) 0]), .any, .any]
                     [(1, B b1 0), (2, B b2 0), (3, B b14 0), (13, I (len x1)), (14, I s29.1), (18, L a21 x1 c21), (19, I s29.1), (22, .agg #[I x59.Op, I x59.W, I x59.N, Str.val x59.Name, L none ([] : List D.Term) 0])] mix hF (by kernel_rfl) (by kernel_rfl) (by kernel_rfl) (by kernel_rfl) ⟨Pd.monoO_eq, Pd.monoO_eq, Pd.monoO_eq, trivial⟩ (fun ow hG => ⟨np_to ow (np_loadBox hG hF ty73 rfl rfl (hs.bx 2 rfl) rfl rfl rfl), np_to ow (np_loadBox hG hF ty3 rfl rfl (hs.bx 4 rfl) rfl rfl rfl), np_to ow (np_call [I p0.W, I 0] hG hF Try.call129 rfl rfl (fun w hC hg => (impl_ConstTerm_ok p0.W 0 hx59).mono fun e w' ⟨v, he, hv, hc⟩ => ⟨v, he, hc, hv⟩)), trivial⟩) (by kernel_rfl) fun ow fr w122 hF hE hc => ?_)
                 have r1 := r1.ext hc
                 have hs := hs.ext hc
                 have hM1 := hM1.ext hc
                 obtain ⟨x60, hx60, h⟩ := bindE h
                 refine q_set (q := x59) 0 hs hM1 rfl Try.underlying73 ty121 rfl rfl rfl rfl hF rfl rfl (by simp) rfl rfl hx60 fun w123 S150 fr _ hs hp hF => ?_
                 have r1 := r1.stp hM1 hp
                 have hM1 := hM1.stp hp
                 have hs : Sep [sl121 (L a21 x1 c21) x60, sl121 (L a20 x2 c20) x2, BX b14 75 [I 0, L a21 x1 c21, L a20 x2 c20, L none ([] : List Int) 0, I 0, L none ([] : List D.Term) 0, I 0, I 0, L none ([] : List D.Term) 0, L none ([] : List Int) 0], BX b2 75 [I 0, L none ([] : List D.Term) 0, L none ([] : List D.Term) 0, L none ([] : List Int) 0, I 0, L none ([] : List D.Term) 0, I 0, I 0, L none ([] : List D.Term) 0, L none ([] : List Int) 0], BX b1 30 [I p0.W, I p0.Mem, I p0.In, L a1 p0.Code c1]] w123 S150 := hs
                 refine from_end rfl ?_
                 refine blk_normal (then_normal ?_)
                 refine (wp_pure [(1, B b1 0), (2, B b2 0), (3, B b14 0), (13, I (len x1)), (14, I (w64 (s29.1 + 1)))] hF (by kernel_rfl) fun fr hF => then_normal ?_)
                 exact ⟨_, (Option.some.inj h).symm, S150, _, hF.sub _ (by kernel_rfl), hM1, hs⟩
               replace h := iteF hb h
               refine (wp_exit (then_exit (then_exit (blk_exit_eq ?_))))
               obtain rfl := hr29 _ (Option.some.inj h).symm
               exact then_normal ⟨S148, _, hF.sub _ (by kernel_rfl), hM1, hs⟩
             · obtain ⟨S149, F58, hF, hMx, hs⟩ := hM
               have r1 := r1.mem hMx
               have hM0 := hM0.trans hMx
               refine wp_seq ?_
               refine wp_seq (wp_text' ?_)
               refine from_pure 1 [(1, B b1 0), (2, B b2 0), (3, B b14 0), (25, B b14 2)] hF (by kernel_rfl) fun fr hF => ?_
               refine s_loadBox (L a20 x2 c20) ty73 rfl rfl hF rfl (hs.bx 2 rfl) rfl rfl fun fr hF => ?_
               refine from_pure 2 [(1, B b1 0), (2, B b2 0), (3, B b14 0), (27, I (len x2)), (28, I 0)] hF (by kernel_rfl) fun fr hF => ?_
               refine from_end rfl (then_normal ?_)
               obtain ⟨rl30, hit30, h⟩ := bindE h
               have hk30 := h
               refine (GL.wp_cut (M := fun fr w' => ∃ S152 F60, FrS 40 [(2, B b2 0), (3, B b14 0)] fr ∧ Mem w29o S149 F58 w' S152 F60 ∧ Sep [sl121 (L a21 x1 c21) rl29, sl121 (L a20 x2 c20) rl30, BX b14 75 [I 0, L a21 x1 c21, L a20 x2 c20, L none ([] : List Int) 0, I 0, L none ([] : List D.Term) 0, I 0, I 0, L none ([] : List D.Term) 0, L none ([] : List Int) 0], BX b2 75 [I 0, L none ([] : List D.Term) 0, L none ([] : List D.Term) 0, L none ([] : List Int) 0, I 0, L none ([] : List D.Term) 0, I 0, I 0, L none ([] : List D.Term) 0, L none ([] : List Int) 0]] w' S152) (wp_block (wp_iter (Inv := fun s30 fr w' => ∃ S151 F59, FrS 40 [(1, B b1 0), (2, B b2 0), (3, B b14 0), (27, I (len x2)), (28, I s30.1)] fr ∧ Mem w29o S149 F58 w' S151 F59 ∧ Sep [sl121 (L a21 x1 c21) rl29, sl121 (L a20 x2 c20) s30.2, BX b14 75 [I 0, L a21 x1 c21, L a20 x2 c20, L none ([] : List Int) 0, I 0, L none ([] : List D.Term) 0, I 0, I 0, L none ([] : List D.Term) 0, L none ([] : List Int) 0], BX b2 75 [I 0, L none ([] : List D.Term) 0, L none ([] : List D.Term) 0, L none ([] : List Int) 0, I 0, L none ([] : List D.Term) 0, I 0, I 0, L none ([] : List D.Term) 0, L none ([] : List Int) 0], BX b1 30 [I p0.W, I p0.Mem, I p0.In, L a1 p0.Code c1]] w' S151) hit30 ⟨S149, _, hF.sub _ (by kernel_rfl), (Mem.start hM0.bd hM0.bdF hM0.dj), hs⟩ fun s30 q30 fr w30i hI h hr30 => ?_)) fun fr w30o hM => ?_)
               · obtain ⟨S151, F59, hF, hM1, hs⟩ := hI
                 have r1 := r1.mem hM1
                 refine wp_seq (wp_pure [(1, B b1 0), (2, B b2 0), (3, B b14 0), (27, I (len x2)), (28, I s30.1), (29, .bool (decide (s30.1 < (len x2))))] hF (by kernel_rfl) fun fr hF => then_normal ?_)
                 refine wp_seq (wp_if hF (b := (decide (s30.1 < (len x2)))) rfl (fun hb => ?_) (fun hb => ?_))
                 · replace h := iteT hb h
                   refine (wp_skip (then_normal ?_))
                   refine wp_seq (wp_block ?_)
                   refine wp_seq (wp_pure [(1, B b1 0), (2, B b2 0), (3, B b14 0), (5, I s30.1), (27, I (len x2)), (28, I s30.1)] hF (by kernel_rfl) fun fr hF => then_normal ?_)
                   obtain ⟨x61, hx61, h⟩ := bindE h
                   refine (region_bm 6 [0, 1, 0, 0, 8, 24, 63, 127] [true, false, true, true, false, false]
                       [.eq (B b14 2), .eq (L a20 x2 c20), .eq (I s30.1), .eq (B b1 0), .eq (I p0.W), .eq (.agg #[I x61.Op, I x61.W, I x61.N, Str.val x61.Name, L none ([] : List D.Term) 0]), .any, .any]
                       [(1, B b1 0), (2, B b2 0), (3, B b14 0), (27, I (len x2)), (28, I s30.1), (32, L a20 x2 c20), (33, I s30.1), (36, .agg #[I x61.Op, I x61.W, I x61.N, Str.val x61.Name, L none ([] : List D.Term) 0])] mix hF (by kernel_rfl) (by kernel_rfl) (by kernel_rfl) (by kernel_rfl) ⟨Pd.monoO_eq, Pd.monoO_eq, Pd.monoO_eq, trivial⟩ (fun ow hG => ⟨np_to ow (np_loadBox hG hF ty73 rfl rfl (hs.bx 2 rfl) rfl rfl rfl), np_to ow (np_loadBox hG hF ty3 rfl rfl (hs.bx 4 rfl) rfl rfl rfl), np_to ow (np_call [I p0.W, I 0] hG hF Try.call129 rfl rfl (fun w hC hg => (impl_ConstTerm_ok p0.W 0 hx61).mono fun e w' ⟨v, he, hv, hc⟩ => ⟨v, he, hc, hv⟩)), trivial⟩) (by kernel_rfl) fun ow fr w124 hF hE hc => ?_)
                   have r1 := r1.ext hc
                   have hs := hs.ext hc
                   have hM1 := hM1.ext hc
                   obtain ⟨x62, hx62, h⟩ := bindE h
                   refine q_set (q := x61) 1 hs hM1 rfl Try.underlying73 ty121 rfl rfl rfl rfl hF rfl rfl (by simp) rfl rfl hx62 fun w125 S153 fr _ hs hp hF => ?_
                   have r1 := r1.stp hM1 hp
                   have hM1 := hM1.stp hp
                   have hs : Sep [sl121 (L a21 x1 c21) rl29, sl121 (L a20 x2 c20) x62, BX b14 75 [I 0, L a21 x1 c21, L a20 x2 c20, L none ([] : List Int) 0, I 0, L none ([] : List D.Term) 0, I 0, I 0, L none ([] : List D.Term) 0, L none ([] : List Int) 0], BX b2 75 [I 0, L none ([] : List D.Term) 0, L none ([] : List D.Term) 0, L none ([] : List Int) 0, I 0, L none ([] : List D.Term) 0, I 0, I 0, L none ([] : List D.Term) 0, L none ([] : List Int) 0], BX b1 30 [I p0.W, I p0.Mem, I p0.In, L a1 p0.Code c1]] w125 S153 := hs
                   refine from_end rfl ?_
                   refine blk_normal (then_normal ?_)
                   refine (wp_pure [(1, B b1 0), (2, B b2 0), (3, B b14 0), (27, I (len x2)), (28, I (w64 (s30.1 + 1)))] hF (by kernel_rfl) fun fr hF => then_normal ?_)
                   exact ⟨_, (Option.some.inj h).symm, S153, _, hF.sub _ (by kernel_rfl), hM1, hs⟩
                 replace h := iteF hb h
                 have hs : Sep [sl121 (L a21 x1 c21) rl29, sl121 (L a20 x2 c20) s30.2, BX b14 75 [I 0, L a21 x1 c21, L a20 x2 c20, L none ([] : List Int) 0, I 0, L none ([] : List D.Term) 0, I 0, I 0, L none ([] : List D.Term) 0, L none ([] : List Int) 0], BX b2 75 [I 0, L none ([] : List D.Term) 0, L none ([] : List D.Term) 0, L none ([] : List Int) 0, I 0, L none ([] : List D.Term) 0, I 0, I 0, L none ([] : List D.Term) 0, L none ([] : List Int) 0]] w30i S151 := Sep.pick [0, 1, 2, 3] hs (by decide) rfl
                 refine (wp_exit (then_exit (then_exit (blk_exit_eq ?_))))
                 obtain rfl := hr30 _ (Option.some.inj h).symm
                 exact then_normal ⟨S151, _, hF.sub _ (by kernel_rfl), hM1, hs⟩
               · obtain ⟨S152, F60, hF, hMx, hs⟩ := hM
                 have hM0 := hM0.trans hMx
                 refine wp_seq (wp_text' ?_)
                 refine s_loadBoxS ty75 rfl rfl hF rfl (hs.bx 2 rfl) rfl rfl fun fr hF => ?_
                 have hs : Sep [sl121 (L a21 x1 c21) rl29, sl121 (L a20 x2 c20) rl30, BX b2 75 [I 0, L none ([] : List D.Term) 0, L none ([] : List D.Term) 0, L none ([] : List Int) 0, I 0, L none ([] : List D.Term) 0, I 0, I 0, L none ([] : List D.Term) 0, L none ([] : List Int) 0]] w30o S152 := Sep.pick [0, 1, 3] hs (by decide) rfl
                 refine q_storeBoxS 2 hs hM0 rfl [I 0, L a21 x1 c21, L a20 x2 c20, L none ([] : List Int) 0, I 0, L none ([] : List D.Term) 0, I 0, I 0, L none ([] : List D.Term) 0, L none ([] : List Int) 0] rfl hF rfl rfl (by kernel_rfl) rfl rfl rfl fun w126 S154 hs hp hF => ?_
                 have hM0 := hM0.stp hp
                 have hs : Sep [sl121 (L a21 x1 c21) rl29, sl121 (L a20 x2 c20) rl30, BX b2 75 [I 0, L a21 x1 c21, L a20 x2 c20, L none ([] : List Int) 0, I 0, L none ([] : List D.Term) 0, I 0, I 0, L none ([] : List D.Term) 0, L none ([] : List Int) 0]] w126 S154 := hs
                 refine from_end rfl (then_normal ?_)
                 have hbr := (hs.bx 2 rfl)
                 have hs : Sep [sl3 (L none ([] : List Int) 0) ([] : List Int), sl121 (L a21 x1 c21) rl29, sl121 (L a20 x2 c20) rl30, BX b2 75 [I 0, L a21 x1 c21, L a20 x2 c20, L none ([] : List Int) 0, I 0, L none ([] : List D.Term) 0, I 0, I 0, L none ([] : List D.Term) 0, L none ([] : List Int) 0]] w126 S154 := hs.cons_nil (α := Int) 3
                 have hs : Sep [sl121 (L none ([] : List D.Term) 0) ([] : List D.Term), sl3 (L none ([] : List Int) 0) ([] : List Int), sl121 (L a21 x1 c21) rl29, sl121 (L a20 x2 c20) rl30, BX b2 75 [I 0, L a21 x1 c21, L a20 x2 c20, L none ([] : List Int) 0, I 0, L none ([] : List D.Term) 0, I 0, I 0, L none ([] : List D.Term) 0, L none ([] : List Int) 0]] w126 S154 := hs.cons_nil (α := D.Term) 121
                 have hs : Sep [sl121 (L none ([] : List D.Term) 0) ([] : List D.Term), sl121 (L none ([] : List D.Term) 0) ([] : List D.Term), sl3 (L none ([] : List Int) 0) ([] : List Int), sl121 (L a21 x1 c21) rl29, sl121 (L a20 x2 c20) rl30, BX b2 75 [I 0, L a21 x1 c21, L a20 x2 c20, L none ([] : List Int) 0, I 0, L none ([] : List D.Term) 0, I 0, I 0, L none ([] : List D.Term) 0, L none ([] : List Int) 0]] w126 S154 := hs.cons_nil (α := D.Term) 121
                 have hs : Sep [sl3 (L none ([] : List Int) 0) ([] : List Int), sl121 (L none ([] : List D.Term) 0) ([] : List D.Term), sl121 (L none ([] : List D.Term) 0) ([] : List D.Term), sl3 (L none ([] : List Int) 0) ([] : List Int), sl121 (L a21 x1 c21) rl29, sl121 (L a20 x2 c20) rl30, BX b2 75 [I 0, L a21 x1 c21, L a20 x2 c20, L none ([] : List Int) 0, I 0, L none ([] : List D.Term) 0, I 0, I 0, L none ([] : List D.Term) 0, L none ([] : List Int) 0]] w126 S154 := hs.cons_nil (α := Int) 3
                 obtain rfl := Option.some.inj h
                 have hs : Sep [sl121 (L a21 x1 c21) rl29, sl121 (L a20 x2 c20) rl30, sl3 (L none ([] : List Int) 0) ([] : List Int), sl121 (L none ([] : List D.Term) 0) ([] : List D.Term), sl121 (L none ([] : List D.Term) 0) ([] : List D.Term), sl3 (L none ([] : List Int) 0) ([] : List Int)] w126 S154 := Sep.pick [4, 5, 3, 2, 1, 0] hs (by decide) rfl
                 obtain ⟨he29, hs⟩ := hs.relen 0 rfl
                 have hs : Sep [sl121 (L a21 rl29 c21) rl29, sl121 (L a20 x2 c20) rl30, sl3 (L none ([] : List Int) 0) ([] : List Int), sl121 (L none ([] : List D.Term) 0) ([] : List D.Term), sl121 (L none ([] : List D.Term) 0) ([] : List D.Term), sl3 (L none ([] : List Int) 0) ([] : List Int)] w126 S154 := hs
                 obtain ⟨he30, hs⟩ := hs.relen 1 rfl
                 have hs : Sep [sl121 (L a21 rl29 c21) rl29, sl121 (L a20 rl30 c20) rl30, sl3 (L none ([] : List Int) 0) ([] : List Int), sl121 (L none ([] : List D.Term) 0) ([] : List D.Term), sl121 (L none ([] : List D.Term) 0) ([] : List D.Term), sl3 (L none ([] : List Int) 0) ([] : List Int)] w126 S154 := hs
                 exact wp_ret (retS rfl hF ty75 rfl rfl hbr rfl ⟨_, rfl, a21, c21, a20, c20, none, 0, none, 0, none, 0, none, 0, (by simp only [L, he29, he30]), S154, hM0.out, hs⟩)
end Go.Proofs.Ytknlknnihinmjaa
