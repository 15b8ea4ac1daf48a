/- Printed by gen2.py: the walks. -/
import Derived.Test.YtknlknnihinmjaaWlkA
set_option linter.unusedVariables false
set_option maxRecDepth 100000
namespace Go.Proofs.Ytknlknnihinmjaa
open Go.GL Go.Maps Go.WideMaps
theorem impl_ReachedOf_ok (n : Nat) (p0 : D.Program) {r : (List Int)} (h : impl_ReachedOf n p0 = some r) {w : World} {G0 : Nat → Prop} {va0 : Value} (ra0 : RV w G0 va0 p0) :
   Calls Try.prog 21 [va0].toArray w fun e w' => ∃ v, e = .returned v ∧ ∃ a1 c1, v = L a1 r c1 ∧ ∃ S', Stp w Non w' S' ∧ Sep [sl3 (L a1 r c1) r] w' S' := by
 unfold impl_ReachedOf at h
 have hs := Sep.nil w Non
 have hM0 : Mem w Non (fun k => (G0 k) ∧ k < w.heap.size) w Non (fun k => (G0 k) ∧ k < w.heap.size) := Mem.start (fun _ h => h.elim) (fun _ h => h.2) (fun _ h => h.elim)
 have ra0 := ra0.sub (F' := (fun k => (G0 k) ∧ k < w.heap.size)) (fun k hk h => ⟨h, hk⟩)
 obtain ⟨v1, rfl, r1⟩ := RV.Program ra0
 obtain ⟨a1, c1, rfl, -⟩ := r1.slice
 refine enter (N := 51) Try.func21 rfl Try.ntmps21 rfl fun fr hF => ?_
 refine wp_seq (wp_text' ?_)
 refine q_box hs hM0 [I p0.W, I p0.Mem, I p0.In, L a1 p0.Code c1] rfl rfl hF rfl rfl fun b1 w1 S1 fr hs hp hF => ?_
 have r1 := r1.stp hM0 hp
 have hM0 := hM0.stp hp
 have hs : Sep [BX b1 30 [I p0.W, I p0.Mem, I p0.In, L a1 p0.Code c1]] w1 S1 := hs
 refine from_pure 1 [(1, B b1 0)] hF (by kernel_rfl) fun fr hF => ?_
 refine from_end rfl (then_normal ?_)
 refine wp_seq ?_
 refine wp_seq (wp_text' ?_)
 refine s_loadBoxS ty30 rfl rfl hF rfl (hs.bx 0 rfl) rfl rfl fun fr hF => ?_
 obtain ⟨x1, hx1, h⟩ := bindE h
 refine s_call [.agg #[I p0.W, I p0.Mem, I p0.In, L a1 p0.Code c1]] Try.call60 rfl rfl hF rfl (impl_ProgramOk_ok n p0 hx1 (RV.mk_Program p0 (r1))) fun v w2 fr hRes hF => ?_
 obtain ⟨rfl, hc⟩ := hRes
 have r1 := r1.ext hc
 have hs := hs.ext hc
 have hM0 := hM0.ext hc
 refine from_pure 1 [(1, B b1 0), (10, .bool (!x1))] hF (by kernel_rfl) fun fr hF => ?_
 refine from_end rfl (then_normal ?_)
 refine (wp_if hF (b := (!x1)) rfl (fun hb => ?_) (fun hb => ?_))
 · replace h := iteT hb h
   have hs : Sep [] w2 S1 := Sep.pick [] hs (by decide) rfl
   refine wp_seq (wp_pure [(2, L none ([] : List Int) 0)] hF (by kernel_rfl) fun fr hF => then_normal ?_)
   have hs : Sep [sl3 (L none ([] : List Int) 0) ([] : List Int)] w2 S1 := hs.cons_nil (α := Int) 3
   obtain rfl := Option.some.inj h
   exact wp_ret (then_ret (ret1 rfl hF rfl ⟨_, rfl, none, 0, rfl, S1, hM0.out, hs⟩))
 replace h := iteF hb h
 refine (wp_skip (then_normal ?_))
 refine wp_seq (wp_text' ?_)
 refine from_pure 1 [(1, B b1 0), (11, B b1 3)] hF (by kernel_rfl) fun fr hF => ?_
 refine s_loadBox (L a1 p0.Code c1) ty28 rfl rfl hF rfl (hs.bx 0 rfl) rfl rfl fun fr hF => ?_
 refine from_pure 2 [(1, B b1 0), (14, I (w64 ((len p0.Code) + 1)))] hF (by kernel_rfl) fun fr hF => ?_
 obtain ⟨x2, hx2, h⟩ := bindE h
 refine q_make hs hM0 Try.underlying64 el4 (zero_flat _ (by kernel_rfl)) rfl rfl hF rfl rfl hx2 fun a2 c2 w3 S2 fr hs hp hF => ?_
 have r1 := r1.stp hM0 hp
 have hM0 := hM0.stp hp
 have hs : Sep [sl4 (L a2 x2 c2) x2, BX b1 30 [I p0.W, I p0.Mem, I p0.In, L a1 p0.Code c1]] w3 S2 := hs
 refine from_pure 1 [(1, B b1 0), (3, L a2 x2 c2)] hF (by kernel_rfl) fun fr hF => ?_
 refine from_end rfl (then_normal ?_)
 refine wp_seq (wp_text' ?_)
 refine from_pure 1 [(1, B b1 0), (3, L a2 x2 c2), (16, L a2 x2 c2)] hF (by kernel_rfl) fun fr hF => ?_
 obtain ⟨x3, hx3, h⟩ := bindE h
 refine q_set (q := true) 0 hs hM0 rfl Try.underlying64 ty4 rfl rfl rfl rfl hF rfl rfl (by simp) rfl rfl hx3 fun w4 S3 fr _ hs hp hF => ?_
 have r1 := r1.stp hM0 hp
 have hM0 := hM0.stp hp
 have hs : Sep [sl4 (L a2 x2 c2) x3, BX b1 30 [I p0.W, I p0.Mem, I p0.In, L a1 p0.Code c1]] w4 S3 := hs
 refine from_end rfl (then_normal ?_)
 refine wp_seq (wp_text' ?_)
 refine q_lit (E := 3) hs hM0 [I 0] (([0] : List Int).map Flat.enc) ([0] : List Int) rfl rfl hF [I 0] rfl (fun w => by kernel_rfl) (css_flat _) rfl rfl rfl fun a3 c3 w5 S4 fr hs hp hF => ?_
 have r1 := r1.stp hM0 hp
 have hM0 := hM0.stp hp
 have hs : Sep [sl3 (L a3 ([0] : List Int) c3) ([0] : List Int), sl4 (L a2 x2 c2) x3, BX b1 30 [I p0.W, I p0.Mem, I p0.In, L a1 p0.Code c1]] w5 S4 := hs
 refine from_pure 1 [(1, B b1 0), (3, L a2 x2 c2), (4, L a3 ([0] : List Int) c3)] hF (by kernel_rfl) fun fr hF => ?_
 refine from_end rfl (then_normal ?_)
 refine wp_seq ?_
 refine wp_seq (wp_pure [(1, B b1 0), (3, L a2 x2 c2), (4, L a3 ([0] : List Int) c3), (5, I 0)] hF (by kernel_rfl) fun fr hF => then_normal ?_)
 obtain ⟨rl1, hit1, h⟩ := bindE h
 have hk1 := h
 refine (GL.wp_cut (M := fun fr w' => ∃ a5 c5 S6 F2, FrS 51 [(4, L a5 rl1 c5)] fr ∧ Mem w5 S4 (fun k => (G0 k) ∧ k < w.heap.size) w' S6 F2 ∧ Sep [sl3 (L a5 rl1 c5) rl1] w' S6) (wp_block (wp_iter (Inv := fun s1 fr w' => ∃ a4 c4 S5 F1, FrS 51 [(1, B b1 0), (3, L a2 x2 c2), (4, L a4 s1.2.1 c4), (5, I s1.1)] fr ∧ Mem w5 S4 (fun k => (G0 k) ∧ k < w.heap.size) w' S5 F1 ∧ Sep [sl3 (L a4 s1.2.1 c4) s1.2.1, sl4 (L a2 x2 c2) s1.2.2, BX b1 30 [I p0.W, I p0.Mem, I p0.In, L a1 p0.Code c1]] w' S5) hit1 ⟨a3, c3, S4, _, hF.sub _ (by kernel_rfl), (Mem.start hM0.bd hM0.bdF hM0.dj), hs⟩ fun s1 q1 fr w1i hI h hr1 => ?_)) fun fr w1o hM => ?_)
 · obtain ⟨a4, c4, S5, F1, hF, hM1, hs⟩ := hI
   have r1 := r1.mem hM1
   refine wp_seq ?_
   refine wp_seq (wp_pure [(1, B b1 0), (3, L a2 x2 c2), (4, L a4 s1.2.1 c4), (5, I s1.1), (22, .bool (decide (s1.1 < (len s1.2.1))))] hF (by kernel_rfl) fun fr hF => then_normal ?_)
   refine (wp_if hF (b := (decide (s1.1 < (len s1.2.1)))) rfl (fun hb => ?_) (fun hb => ?_))
   · replace h := iteT hb h
     refine (wp_skip (then_normal ?_))
     refine wp_seq (wp_block ?_)
     obtain ⟨x4, hx4, h⟩ := bindE h
     obtain ⟨x5, hx5, h⟩ := bindE h
     refine wp_seq (any_start mix fun w6 hc => ?_)
     have r1 := r1.ext hc
     have hs := hs.ext hc
     have hM1 := hM1.ext hc
     refine any_takes (fuel := 5) [1, 2, 7] [(1, B b1 0), (3, L a2 x2 c2), (4, L a4 s1.2.1 c4), (5, I s1.1), (26, L a4 s1.2.1 c4), (27, I s1.1), (32, I 0)] hF (by kernel_rfl) (by kernel_rfl) (by kernel_rfl) (fun _ _ _ _ _ h => h) fun fr hF => ?_
     refine any_node (fuel := 4) [0, 3] (by kernel_rfl) (by simp) ⟨?_, ?_, trivial⟩
     · refine op_of _ rfl rfl ?_
       refine s_loadBoxS ty30 rfl rfl hF rfl (hs.bx 2 rfl) rfl rfl fun fr hF => ?_
       refine from_end rfl (then_normal ?_)
       refine any_node (fuel := 3) [3] (by kernel_rfl) (by simp) ⟨?_, trivial⟩
       · refine op_of _ rfl rfl ?_
         refine s_idx (z := x4) ty3 Try.underlying26 rfl rfl hF rfl (hs.rv 0 rfl) rfl (get?_nn hx4) (get?_at hx4) fun ad1 fr hc1 hF => ?_
         refine from_end rfl (then_normal ?_)
         refine any_node (fuel := 2) [4] (by kernel_rfl) (by simp) ⟨?_, trivial⟩
         · refine op_of _ rfl rfl ?_
           refine s_ldE (z := x4) ty3 rfl rfl rfl hF rfl hc1 rfl fun fr hF => ?_
           refine from_end rfl (then_normal ?_)
           refine any_node (fuel := 1) [5] (by kernel_rfl) (by simp) ⟨?_, trivial⟩
           · refine op_of _ rfl rfl ?_
             refine s_call [.agg #[I p0.W, I p0.Mem, I p0.In, L a1 p0.Code c1], I x4] Try.call14 rfl rfl hF rfl (impl_NextOf_ok n p0 x4 hx5 (RV.mk_Program p0 (r1))) fun v w7 fr hRes hF => ?_
             obtain ⟨a6, c6, rfl, _, hp, hs2⟩ := hRes
             obtain ⟨S7, hp, hs⟩ := hs.got hM1 hp hs2
             have r1 := r1.stp hM1 hp
             have hM1 := hM1.stp hp
             have hs : Sep [sl3 (L a6 x5 c6) x5, sl3 (L a4 s1.2.1 c4) s1.2.1, sl4 (L a2 x2 c2) s1.2.2, BX b1 30 [I p0.W, I p0.Mem, I p0.In, L a1 p0.Code c1]] w7 S7 := hs
             refine from_end rfl (then_normal ?_)
             refine any_node (fuel := 0) [6] (by kernel_rfl) (by simp) ⟨?_, trivial⟩
             · refine op_of _ rfl rfl ?_
               refine from_pure 1 [(1, B b1 0), (3, L a2 x2 c2), (4, L a4 s1.2.1 c4), (5, I s1.1), (30, L a6 x5 c6), (31, I (len x5)), (32, I 0)] hF (by kernel_rfl) fun fr hF => ?_
               refine from_end rfl (then_normal ?_)
               refine any_leaf (by kernel_rfl) (then_normal ?_)
               obtain ⟨rl2, hit2, h⟩ := bindE h
               have hk2 := h
               refine (wp_cut' (M := fun fr w' => ∃ a8 c8 S9 F4, FrS 51 [(1, B b1 0), (3, L a2 x2 c2), (4, L a8 rl2.1 c8), (5, I s1.1)] fr ∧ Mem w7 S7 F1 w' S9 F4 ∧ Sep [sl3 (L a8 rl2.1 c8) rl2.1, sl4 (L a2 x2 c2) rl2.2, BX b1 30 [I p0.W, I p0.Mem, I p0.In, L a1 p0.Code c1]] w' S9) (wp_block (wp_iter (Inv := fun s2 fr w' => ∃ a7 c7 S8 F3, FrS 51 [(1, B b1 0), (3, L a2 x2 c2), (4, L a7 s2.2.1 c7), (5, I s1.1), (30, L a6 x5 c6), (31, I (len x5)), (32, I s2.1)] fr ∧ Mem w7 S7 F1 w' S8 F3 ∧ Sep [sl3 (L a6 x5 c6) x5, sl3 (L a7 s2.2.1 c7) s2.2.1, sl4 (L a2 x2 c2) s2.2.2, BX b1 30 [I p0.W, I p0.Mem, I p0.In, L a1 p0.Code c1]] w' S8) hit2 ⟨a4, c4, S7, _, hF.sub _ (by kernel_rfl), (Mem.start hM1.bd hM1.bdF hM1.dj), hs⟩ fun s2 q2 fr w2i hI h hr2 => ?_)) fun fr w2o hM => ?_)
               · obtain ⟨a7, c7, S8, F3, hF, hM2, hs⟩ := hI
                 have r1 := r1.mem hM2
                 refine wp_seq (wp_pure [(1, B b1 0), (3, L a2 x2 c2), (4, L a7 s2.2.1 c7), (5, I s1.1), (30, L a6 x5 c6), (31, I (len x5)), (32, I s2.1), (33, .bool (decide (s2.1 < (len x5))))] hF (by kernel_rfl) fun fr hF => then_normal ?_)
                 refine wp_seq (wp_if hF (b := (decide (s2.1 < (len x5)))) rfl (fun hb => ?_) (fun hb => ?_))
                 · replace h := iteT hb h
                   refine (wp_skip (then_normal ?_))
                   refine wp_seq (wp_block ?_)
                   refine wp_seq (wp_text' ?_)
                   obtain ⟨x6, hx6, h⟩ := bindE h
                   refine s_elemF (z := x6) (I x6) ty3 Try.underlying26 rfl rfl rfl rfl rfl hF rfl (hs.rv 0 rfl) rfl (get?_nn hx6) (get?_at hx6) rfl fun p fr hF => ?_
                   refine from_pure 1 [(1, B b1 0), (3, L a2 x2 c2), (4, L a7 s2.2.1 c7), (5, I s1.1), (7, I x6), (30, L a6 x5 c6), (31, I (len x5)), (32, I s2.1)] hF (by kernel_rfl) fun fr hF => ?_
                   refine from_end rfl (then_normal ?_)
                   refine wp_seq (wp_text' ?_)
                   refine from_pure 2 [(1, B b1 0), (3, L a2 x2 c2), (4, L a7 s2.2.1 c7), (5, I s1.1), (7, I x6), (30, L a6 x5 c6), (31, I (len x5)), (32, I s2.1), (36, L a2 x2 c2), (37, I x6)] hF (by kernel_rfl) fun fr hF => ?_
                   obtain ⟨x7, hx7, h⟩ := bindE h
                   refine s_elemF (z := x7) (.bool x7) ty4 Try.underlying64 rfl rfl rfl rfl rfl hF rfl (hs.rv 2 rfl) rfl (get?_nn hx7) (get?_at hx7) rfl fun p fr hF => ?_
                   refine from_pure 1 [(1, B b1 0), (3, L a2 x2 c2), (4, L a7 s2.2.1 c7), (5, I s1.1), (7, I x6), (30, L a6 x5 c6), (31, I (len x5)), (32, I s2.1), (40, .bool (!x7))] hF (by kernel_rfl) fun fr hF => ?_
                   refine from_end rfl (then_normal ?_)
                   refine (wp_if hF (b := (!x7)) rfl (fun hb => ?_) (fun hb => ?_))
                   · replace h := iteT hb h
                     refine wp_seq (wp_text' ?_)
                     refine from_pure 2 [(1, B b1 0), (3, L a2 x2 c2), (4, L a7 s2.2.1 c7), (5, I s1.1), (7, I x6), (30, L a6 x5 c6), (31, I (len x5)), (32, I s2.1), (41, L a2 x2 c2), (42, I x6)] hF (by kernel_rfl) fun fr hF => ?_
                     obtain ⟨x8, hx8, h⟩ := bindE h
                     refine q_set (q := true) 2 hs hM2 rfl Try.underlying64 ty4 rfl rfl rfl rfl hF rfl rfl (by simp) rfl rfl hx8 fun w8 S10 fr _ hs hp hF => ?_
                     have r1 := r1.stp hM2 hp
                     have hM2 := hM2.stp hp
                     have hs : Sep [sl3 (L a6 x5 c6) x5, sl3 (L a7 s2.2.1 c7) s2.2.1, sl4 (L a2 x2 c2) x8, BX b1 30 [I p0.W, I p0.Mem, I p0.In, L a1 p0.Code c1]] w8 S10 := hs
                     refine from_end rfl (then_normal ?_)
                     refine (wp_text' ?_)
                     refine from_pure 2 [(1, B b1 0), (3, L a2 x2 c2), (5, I s1.1), (30, L a6 x5 c6), (31, I (len x5)), (32, I s2.1), (44, L a7 s2.2.1 c7), (45, I x6)] hF (by kernel_rfl) fun fr hF => ?_
                     refine q_lit (E := 3) hs hM2 [I x6] (([x6] : List Int).map Flat.enc) ([x6] : List Int) rfl rfl hF [I x6] rfl (fun w => by kernel_rfl) (css_flat _) rfl rfl rfl fun a9 c9 w9 S11 fr hs hp hF => ?_
                     have r1 := r1.stp hM2 hp
                     have hM2 := hM2.stp hp
                     have hs : Sep [sl3 (L a9 ([x6] : List Int) c9) ([x6] : List Int), sl3 (L a6 x5 c6) x5, sl3 (L a7 s2.2.1 c7) s2.2.1, sl4 (L a2 x2 c2) x8, BX b1 30 [I p0.W, I p0.Mem, I p0.In, L a1 p0.Code c1]] w9 S11 := hs
                     obtain ⟨x9, hx9, h⟩ := bindE h
                     refine q_append 2 hs hM2 rfl Try.underlying26 el3 rfl rfl rfl hF rfl rfl (hs.rv 0 rfl) hx9 fun a10 c10 w10 S12 fr hs hp hF => ?_
                     have r1 := r1.stp hM2 hp
                     have hM2 := hM2.stp hp
                     have hs : Sep [sl3 (L a9 ([x6] : List Int) c9) ([x6] : List Int), sl3 (L a6 x5 c6) x5, sl3 (L a10 x9 c10) x9, sl4 (L a2 x2 c2) x8, BX b1 30 [I p0.W, I p0.Mem, I p0.In, L a1 p0.Code c1]] w10 S12 := hs
                     have hs : Sep [sl3 (L a6 x5 c6) x5, sl3 (L a10 x9 c10) x9, sl4 (L a2 x2 c2) x8, BX b1 30 [I p0.W, I p0.Mem, I p0.In, L a1 p0.Code c1]] w10 S12 := Sep.pick [1, 2, 3, 4] hs (by decide) rfl
                     refine from_pure 1 [(1, B b1 0), (3, L a2 x2 c2), (4, L a10 x9 c10), (5, I s1.1), (30, L a6 x5 c6), (31, I (len x5)), (32, I s2.1)] hF (by kernel_rfl) fun fr hF => ?_
                     refine from_end rfl ?_
                     refine blk_normal (then_normal ?_)
                     refine (wp_pure [(1, B b1 0), (3, L a2 x2 c2), (4, L a10 x9 c10), (5, I s1.1), (30, L a6 x5 c6), (31, I (len x5)), (32, I (w64 (s2.1 + 1)))] hF (by kernel_rfl) fun fr hF => then_normal ?_)
                     exact ⟨_, (Option.some.inj h).symm, a10, c10, S12, _, hF.sub _ (by kernel_rfl), hM2, hs⟩
                   replace h := iteF hb h
                   refine (wp_skip ?_)
                   refine blk_normal (then_normal ?_)
                   refine (wp_pure [(1, B b1 0), (3, L a2 x2 c2), (4, L a7 s2.2.1 c7), (5, I s1.1), (30, L a6 x5 c6), (31, I (len x5)), (32, I (w64 (s2.1 + 1)))] hF (by kernel_rfl) fun fr hF => then_normal ?_)
                   exact ⟨_, (Option.some.inj h).symm, a7, c7, S8, _, hF.sub _ (by kernel_rfl), hM2, hs⟩
                 replace h := iteF hb h
                 have hs : Sep [sl3 (L a7 s2.2.1 c7) s2.2.1, sl4 (L a2 x2 c2) s2.2.2, BX b1 30 [I p0.W, I p0.Mem, I p0.In, L a1 p0.Code c1]] w2i S8 := Sep.pick [1, 2, 3] hs (by decide) rfl
                 refine (wp_exit (then_exit (then_exit (blk_exit_eq ?_))))
                 obtain rfl := hr2 _ (Option.some.inj h).symm
                 exact then_normal ⟨a7, c7, S8, _, hF.sub _ (by kernel_rfl), hM2, hs⟩
               · obtain ⟨a8, c8, S9, F4, hF, hMx, hs⟩ := hM
                 have r1 := r1.mem hMx
                 have hM1 := hM1.trans hMx
                 refine blk_normal (then_normal ?_)
                 refine (wp_pure [(1, B b1 0), (3, L a2 x2 c2), (4, L a8 rl2.1 c8), (5, I (w64 (s1.1 + 1)))] hF (by kernel_rfl) fun fr hF => then_normal ?_)
                 exact ⟨_, (Option.some.inj h).symm, a8, c8, S9, _, hF.sub _ (by kernel_rfl), hM1, hs⟩
     · refine op_of _ rfl rfl ?_
       refine s_idx (z := x4) ty3 Try.underlying26 rfl rfl hF rfl (hs.rv 0 rfl) rfl (get?_nn hx4) (get?_at hx4) fun ad2 fr hc2 hF => ?_
       refine from_end rfl (then_normal ?_)
       refine any_node (fuel := 3) [0, 4] (by kernel_rfl) (by simp) ⟨?_, ?_, trivial⟩
       · refine op_of _ rfl rfl ?_
         refine s_loadBoxS ty30 rfl rfl hF rfl (hs.bx 2 rfl) rfl rfl fun fr hF => ?_
         refine from_end rfl (then_normal ?_)
         refine any_node (fuel := 2) [4] (by kernel_rfl) (by simp) ⟨?_, trivial⟩
         · refine op_of _ rfl rfl ?_
           refine s_ldE (z := x4) ty3 rfl rfl rfl hF rfl hc2 rfl fun fr hF => ?_
           refine from_end rfl (then_normal ?_)
           refine any_node (fuel := 1) [5] (by kernel_rfl) (by simp) ⟨?_, trivial⟩
           · refine op_of _ rfl rfl ?_
             refine s_call [.agg #[I p0.W, I p0.Mem, I p0.In, L a1 p0.Code c1], I x4] Try.call14 rfl rfl hF rfl (impl_NextOf_ok n p0 x4 hx5 (RV.mk_Program p0 (r1))) fun v w11 fr hRes hF => ?_
             obtain ⟨a11, c11, rfl, _, hp, hs2⟩ := hRes
             obtain ⟨S13, hp, hs⟩ := hs.got hM1 hp hs2
             have r1 := r1.stp hM1 hp
             have hM1 := hM1.stp hp
             have hs : Sep [sl3 (L a11 x5 c11) x5, sl3 (L a4 s1.2.1 c4) s1.2.1, sl4 (L a2 x2 c2) s1.2.2, BX b1 30 [I p0.W, I p0.Mem, I p0.In, L a1 p0.Code c1]] w11 S13 := hs
             refine from_end rfl (then_normal ?_)
             refine any_node (fuel := 0) [6] (by kernel_rfl) (by simp) ⟨?_, trivial⟩
             · refine op_of _ rfl rfl ?_
               refine from_pure 1 [(1, B b1 0), (3, L a2 x2 c2), (4, L a4 s1.2.1 c4), (5, I s1.1), (30, L a11 x5 c11), (31, I (len x5)), (32, I 0)] hF (by kernel_rfl) fun fr hF => ?_
               refine from_end rfl (then_normal ?_)
               refine any_leaf (by kernel_rfl) (then_normal ?_)
               obtain ⟨rl3, hit3, h⟩ := bindE h
               have hk3 := h
               refine (wp_cut' (M := fun fr w' => ∃ a13 c13 S15 F6, FrS 51 [(1, B b1 0), (3, L a2 x2 c2), (4, L a13 rl3.1 c13), (5, I s1.1)] fr ∧ Mem w11 S13 F1 w' S15 F6 ∧ Sep [sl3 (L a13 rl3.1 c13) rl3.1, sl4 (L a2 x2 c2) rl3.2, BX b1 30 [I p0.W, I p0.Mem, I p0.In, L a1 p0.Code c1]] w' S15) (wp_block (wp_iter (Inv := fun s3 fr w' => ∃ a12 c12 S14 F5, FrS 51 [(1, B b1 0), (3, L a2 x2 c2), (4, L a12 s3.2.1 c12), (5, I s1.1), (30, L a11 x5 c11), (31, I (len x5)), (32, I s3.1)] fr ∧ Mem w11 S13 F1 w' S14 F5 ∧ Sep [sl3 (L a11 x5 c11) x5, sl3 (L a12 s3.2.1 c12) s3.2.1, sl4 (L a2 x2 c2) s3.2.2, BX b1 30 [I p0.W, I p0.Mem, I p0.In, L a1 p0.Code c1]] w' S14) hit3 ⟨a4, c4, S13, _, hF.sub _ (by kernel_rfl), (Mem.start hM1.bd hM1.bdF hM1.dj), hs⟩ fun s3 q3 fr w3i hI h hr3 => ?_)) fun fr w3o hM => ?_)
               · obtain ⟨a12, c12, S14, F5, hF, hM2, hs⟩ := hI
                 have r1 := r1.mem hM2
                 refine wp_seq (wp_pure [(1, B b1 0), (3, L a2 x2 c2), (4, L a12 s3.2.1 c12), (5, I s1.1), (30, L a11 x5 c11), (31, I (len x5)), (32, I s3.1), (33, .bool (decide (s3.1 < (len x5))))] hF (by kernel_rfl) fun fr hF => then_normal ?_)
                 refine wp_seq (wp_if hF (b := (decide (s3.1 < (len x5)))) rfl (fun hb => ?_) (fun hb => ?_))
                 · replace h := iteT hb h
                   refine (wp_skip (then_normal ?_))
                   refine wp_seq (wp_block ?_)
                   refine wp_seq (wp_text' ?_)
                   obtain ⟨x10, hx10, h⟩ := bindE h
                   refine s_elemF (z := x10) (I x10) ty3 Try.underlying26 rfl rfl rfl rfl rfl hF rfl (hs.rv 0 rfl) rfl (get?_nn hx10) (get?_at hx10) rfl fun p fr hF => ?_
                   refine from_pure 1 [(1, B b1 0), (3, L a2 x2 c2), (4, L a12 s3.2.1 c12), (5, I s1.1), (7, I x10), (30, L a11 x5 c11), (31, I (len x5)), (32, I s3.1)] hF (by kernel_rfl) fun fr hF => ?_
                   refine from_end rfl (then_normal ?_)
                   refine wp_seq (wp_text' ?_)
                   refine from_pure 2 [(1, B b1 0), (3, L a2 x2 c2), (4, L a12 s3.2.1 c12), (5, I s1.1), (7, I x10), (30, L a11 x5 c11), (31, I (len x5)), (32, I s3.1), (36, L a2 x2 c2), (37, I x10)] hF (by kernel_rfl) fun fr hF => ?_
                   obtain ⟨x11, hx11, h⟩ := bindE h
                   refine s_elemF (z := x11) (.bool x11) ty4 Try.underlying64 rfl rfl rfl rfl rfl hF rfl (hs.rv 2 rfl) rfl (get?_nn hx11) (get?_at hx11) rfl fun p fr hF => ?_
                   refine from_pure 1 [(1, B b1 0), (3, L a2 x2 c2), (4, L a12 s3.2.1 c12), (5, I s1.1), (7, I x10), (30, L a11 x5 c11), (31, I (len x5)), (32, I s3.1), (40, .bool (!x11))] hF (by kernel_rfl) fun fr hF => ?_
                   refine from_end rfl (then_normal ?_)
                   refine (wp_if hF (b := (!x11)) rfl (fun hb => ?_) (fun hb => ?_))
                   · replace h := iteT hb h
                     refine wp_seq (wp_text' ?_)
                     refine from_pure 2 [(1, B b1 0), (3, L a2 x2 c2), (4, L a12 s3.2.1 c12), (5, I s1.1), (7, I x10), (30, L a11 x5 c11), (31, I (len x5)), (32, I s3.1), (41, L a2 x2 c2), (42, I x10)] hF (by kernel_rfl) fun fr hF => ?_
                     obtain ⟨x12, hx12, h⟩ := bindE h
                     refine q_set (q := true) 2 hs hM2 rfl Try.underlying64 ty4 rfl rfl rfl rfl hF rfl rfl (by simp) rfl rfl hx12 fun w12 S16 fr _ hs hp hF => ?_
                     have r1 := r1.stp hM2 hp
                     have hM2 := hM2.stp hp
                     have hs : Sep [sl3 (L a11 x5 c11) x5, sl3 (L a12 s3.2.1 c12) s3.2.1, sl4 (L a2 x2 c2) x12, BX b1 30 [I p0.W, I p0.Mem, I p0.In, L a1 p0.Code c1]] w12 S16 := hs
                     refine from_end rfl (then_normal ?_)
                     refine (wp_text' ?_)
                     refine from_pure 2 [(1, B b1 0), (3, L a2 x2 c2), (5, I s1.1), (30, L a11 x5 c11), (31, I (len x5)), (32, I s3.1), (44, L a12 s3.2.1 c12), (45, I x10)] hF (by kernel_rfl) fun fr hF => ?_
                     refine q_lit (E := 3) hs hM2 [I x10] (([x10] : List Int).map Flat.enc) ([x10] : List Int) rfl rfl hF [I x10] rfl (fun w => by kernel_rfl) (css_flat _) rfl rfl rfl fun a14 c14 w13 S17 fr hs hp hF => ?_
                     have r1 := r1.stp hM2 hp
                     have hM2 := hM2.stp hp
                     have hs : Sep [sl3 (L a14 ([x10] : List Int) c14) ([x10] : List Int), sl3 (L a11 x5 c11) x5, sl3 (L a12 s3.2.1 c12) s3.2.1, sl4 (L a2 x2 c2) x12, BX b1 30 [I p0.W, I p0.Mem, I p0.In, L a1 p0.Code c1]] w13 S17 := hs
                     obtain ⟨x13, hx13, h⟩ := bindE h
                     refine q_append 2 hs hM2 rfl Try.underlying26 el3 rfl rfl rfl hF rfl rfl (hs.rv 0 rfl) hx13 fun a15 c15 w14 S18 fr hs hp hF => ?_
                     have r1 := r1.stp hM2 hp
                     have hM2 := hM2.stp hp
                     have hs : Sep [sl3 (L a14 ([x10] : List Int) c14) ([x10] : List Int), sl3 (L a11 x5 c11) x5, sl3 (L a15 x13 c15) x13, sl4 (L a2 x2 c2) x12, BX b1 30 [I p0.W, I p0.Mem, I p0.In, L a1 p0.Code c1]] w14 S18 := hs
                     have hs : Sep [sl3 (L a11 x5 c11) x5, sl3 (L a15 x13 c15) x13, sl4 (L a2 x2 c2) x12, BX b1 30 [I p0.W, I p0.Mem, I p0.In, L a1 p0.Code c1]] w14 S18 := Sep.pick [1, 2, 3, 4] hs (by decide) rfl
                     refine from_pure 1 [(1, B b1 0), (3, L a2 x2 c2), (4, L a15 x13 c15), (5, I s1.1), (30, L a11 x5 c11), (31, I (len x5)), (32, I s3.1)] hF (by kernel_rfl) fun fr hF => ?_
                     refine from_end rfl ?_
                     refine blk_normal (then_normal ?_)
                     refine (wp_pure [(1, B b1 0), (3, L a2 x2 c2), (4, L a15 x13 c15), (5, I s1.1), (30, L a11 x5 c11), (31, I (len x5)), (32, I (w64 (s3.1 + 1)))] hF (by kernel_rfl) fun fr hF => then_normal ?_)
                     exact ⟨_, (Option.some.inj h).symm, a15, c15, S18, _, hF.sub _ (by kernel_rfl), hM2, hs⟩
                   replace h := iteF hb h
                   refine (wp_skip ?_)
                   refine blk_normal (then_normal ?_)
                   refine (wp_pure [(1, B b1 0), (3, L a2 x2 c2), (4, L a12 s3.2.1 c12), (5, I s1.1), (30, L a11 x5 c11), (31, I (len x5)), (32, I (w64 (s3.1 + 1)))] hF (by kernel_rfl) fun fr hF => then_normal ?_)
                   exact ⟨_, (Option.some.inj h).symm, a12, c12, S14, _, hF.sub _ (by kernel_rfl), hM2, hs⟩
                 replace h := iteF hb h
                 have hs : Sep [sl3 (L a12 s3.2.1 c12) s3.2.1, sl4 (L a2 x2 c2) s3.2.2, BX b1 30 [I p0.W, I p0.Mem, I p0.In, L a1 p0.Code c1]] w3i S14 := Sep.pick [1, 2, 3] hs (by decide) rfl
                 refine (wp_exit (then_exit (then_exit (blk_exit_eq ?_))))
                 obtain rfl := hr3 _ (Option.some.inj h).symm
                 exact then_normal ⟨a12, c12, S14, _, hF.sub _ (by kernel_rfl), hM2, hs⟩
               · obtain ⟨a13, c13, S15, F6, hF, hMx, hs⟩ := hM
                 have r1 := r1.mem hMx
                 have hM1 := hM1.trans hMx
                 refine blk_normal (then_normal ?_)
                 refine (wp_pure [(1, B b1 0), (3, L a2 x2 c2), (4, L a13 rl3.1 c13), (5, I (w64 (s1.1 + 1)))] hF (by kernel_rfl) fun fr hF => then_normal ?_)
                 exact ⟨_, (Option.some.inj h).symm, a13, c13, S15, _, hF.sub _ (by kernel_rfl), hM1, hs⟩
       · refine op_of _ rfl rfl ?_
         refine s_ldE (z := x4) ty3 rfl rfl rfl hF rfl hc2 rfl fun fr hF => ?_
         refine from_end rfl (then_normal ?_)
         refine any_node (fuel := 2) [0] (by kernel_rfl) (by simp) ⟨?_, trivial⟩
         · refine op_of _ rfl rfl ?_
           refine s_loadBoxS ty30 rfl rfl hF rfl (hs.bx 2 rfl) rfl rfl fun fr hF => ?_
           refine from_end rfl (then_normal ?_)
           refine any_node (fuel := 1) [5] (by kernel_rfl) (by simp) ⟨?_, trivial⟩
           · refine op_of _ rfl rfl ?_
             refine s_call [.agg #[I p0.W, I p0.Mem, I p0.In, L a1 p0.Code c1], I x4] Try.call14 rfl rfl hF rfl (impl_NextOf_ok n p0 x4 hx5 (RV.mk_Program p0 (r1))) fun v w15 fr hRes hF => ?_
             obtain ⟨a16, c16, rfl, _, hp, hs2⟩ := hRes
             obtain ⟨S19, hp, hs⟩ := hs.got hM1 hp hs2
             have r1 := r1.stp hM1 hp
             have hM1 := hM1.stp hp
             have hs : Sep [sl3 (L a16 x5 c16) x5, sl3 (L a4 s1.2.1 c4) s1.2.1, sl4 (L a2 x2 c2) s1.2.2, BX b1 30 [I p0.W, I p0.Mem, I p0.In, L a1 p0.Code c1]] w15 S19 := hs
             refine from_end rfl (then_normal ?_)
             refine any_node (fuel := 0) [6] (by kernel_rfl) (by simp) ⟨?_, trivial⟩
             · refine op_of _ rfl rfl ?_
               refine from_pure 1 [(1, B b1 0), (3, L a2 x2 c2), (4, L a4 s1.2.1 c4), (5, I s1.1), (30, L a16 x5 c16), (31, I (len x5)), (32, I 0)] hF (by kernel_rfl) fun fr hF => ?_
               refine from_end rfl (then_normal ?_)
               refine any_leaf (by kernel_rfl) (then_normal ?_)
               obtain ⟨rl4, hit4, h⟩ := bindE h
               have hk4 := h
               refine (wp_cut' (M := fun fr w' => ∃ a18 c18 S21 F8, FrS 51 [(1, B b1 0), (3, L a2 x2 c2), (4, L a18 rl4.1 c18), (5, I s1.1)] fr ∧ Mem w15 S19 F1 w' S21 F8 ∧ Sep [sl3 (L a18 rl4.1 c18) rl4.1, sl4 (L a2 x2 c2) rl4.2, BX b1 30 [I p0.W, I p0.Mem, I p0.In, L a1 p0.Code c1]] w' S21) (wp_block (wp_iter (Inv := fun s4 fr w' => ∃ a17 c17 S20 F7, FrS 51 [(1, B b1 0), (3, L a2 x2 c2), (4, L a17 s4.2.1 c17), (5, I s1.1), (30, L a16 x5 c16), (31, I (len x5)), (32, I s4.1)] fr ∧ Mem w15 S19 F1 w' S20 F7 ∧ Sep [sl3 (L a16 x5 c16) x5, sl3 (L a17 s4.2.1 c17) s4.2.1, sl4 (L a2 x2 c2) s4.2.2, BX b1 30 [I p0.W, I p0.Mem, I p0.In, L a1 p0.Code c1]] w' S20) hit4 ⟨a4, c4, S19, _, hF.sub _ (by kernel_rfl), (Mem.start hM1.bd hM1.bdF hM1.dj), hs⟩ fun s4 q4 fr w4i hI h hr4 => ?_)) fun fr w4o hM => ?_)
               · obtain ⟨a17, c17, S20, F7, hF, hM2, hs⟩ := hI
                 have r1 := r1.mem hM2
                 refine wp_seq (wp_pure [(1, B b1 0), (3, L a2 x2 c2), (4, L a17 s4.2.1 c17), (5, I s1.1), (30, L a16 x5 c16), (31, I (len x5)), (32, I s4.1), (33, .bool (decide (s4.1 < (len x5))))] hF (by kernel_rfl) fun fr hF => then_normal ?_)
                 refine wp_seq (wp_if hF (b := (decide (s4.1 < (len x5)))) rfl (fun hb => ?_) (fun hb => ?_))
                 · replace h := iteT hb h
                   refine (wp_skip (then_normal ?_))
                   refine wp_seq (wp_block ?_)
                   refine wp_seq (wp_text' ?_)
                   obtain ⟨x14, hx14, h⟩ := bindE h
                   refine s_elemF (z := x14) (I x14) ty3 Try.underlying26 rfl rfl rfl rfl rfl hF rfl (hs.rv 0 rfl) rfl (get?_nn hx14) (get?_at hx14) rfl fun p fr hF => ?_
                   refine from_pure 1 [(1, B b1 0), (3, L a2 x2 c2), (4, L a17 s4.2.1 c17), (5, I s1.1), (7, I x14), (30, L a16 x5 c16), (31, I (len x5)), (32, I s4.1)] hF (by kernel_rfl) fun fr hF => ?_
                   refine from_end rfl (then_normal ?_)
                   refine wp_seq (wp_text' ?_)
                   refine from_pure 2 [(1, B b1 0), (3, L a2 x2 c2), (4, L a17 s4.2.1 c17), (5, I s1.1), (7, I x14), (30, L a16 x5 c16), (31, I (len x5)), (32, I s4.1), (36, L a2 x2 c2), (37, I x14)] hF (by kernel_rfl) fun fr hF => ?_
                   obtain ⟨x15, hx15, h⟩ := bindE h
                   refine s_elemF (z := x15) (.bool x15) ty4 Try.underlying64 rfl rfl rfl rfl rfl hF rfl (hs.rv 2 rfl) rfl (get?_nn hx15) (get?_at hx15) rfl fun p fr hF => ?_
                   refine from_pure 1 [(1, B b1 0), (3, L a2 x2 c2), (4, L a17 s4.2.1 c17), (5, I s1.1), (7, I x14), (30, L a16 x5 c16), (31, I (len x5)), (32, I s4.1), (40, .bool (!x15))] hF (by kernel_rfl) fun fr hF => ?_
                   refine from_end rfl (then_normal ?_)
                   refine (wp_if hF (b := (!x15)) rfl (fun hb => ?_) (fun hb => ?_))
                   · replace h := iteT hb h
                     refine wp_seq (wp_text' ?_)
                     refine from_pure 2 [(1, B b1 0), (3, L a2 x2 c2), (4, L a17 s4.2.1 c17), (5, I s1.1), (7, I x14), (30, L a16 x5 c16), (31, I (len x5)), (32, I s4.1), (41, L a2 x2 c2), (42, I x14)] hF (by kernel_rfl) fun fr hF => ?_
                     obtain ⟨x16, hx16, h⟩ := bindE h
                     refine q_set (q := true) 2 hs hM2 rfl Try.underlying64 ty4 rfl rfl rfl rfl hF rfl rfl (by simp) rfl rfl hx16 fun w16 S22 fr _ hs hp hF => ?_
                     have r1 := r1.stp hM2 hp
                     have hM2 := hM2.stp hp
                     have hs : Sep [sl3 (L a16 x5 c16) x5, sl3 (L a17 s4.2.1 c17) s4.2.1, sl4 (L a2 x2 c2) x16, BX b1 30 [I p0.W, I p0.Mem, I p0.In, L a1 p0.Code c1]] w16 S22 := hs
                     refine from_end rfl (then_normal ?_)
                     refine (wp_text' ?_)
                     refine from_pure 2 [(1, B b1 0), (3, L a2 x2 c2), (5, I s1.1), (30, L a16 x5 c16), (31, I (len x5)), (32, I s4.1), (44, L a17 s4.2.1 c17), (45, I x14)] hF (by kernel_rfl) fun fr hF => ?_
                     refine q_lit (E := 3) hs hM2 [I x14] (([x14] : List Int).map Flat.enc) ([x14] : List Int) rfl rfl hF [I x14] rfl (fun w => by kernel_rfl) (css_flat _) rfl rfl rfl fun a19 c19 w17 S23 fr hs hp hF => ?_
                     have r1 := r1.stp hM2 hp
                     have hM2 := hM2.stp hp
                     have hs : Sep [sl3 (L a19 ([x14] : List Int) c19) ([x14] : List Int), sl3 (L a16 x5 c16) x5, sl3 (L a17 s4.2.1 c17) s4.2.1, sl4 (L a2 x2 c2) x16, BX b1 30 [I p0.W, I p0.Mem, I p0.In, L a1 p0.Code c1]] w17 S23 := hs
                     obtain ⟨x17, hx17, h⟩ := bindE h
                     refine q_append 2 hs hM2 rfl Try.underlying26 el3 rfl rfl rfl hF rfl rfl (hs.rv 0 rfl) hx17 fun a20 c20 w18 S24 fr hs hp hF => ?_
                     have r1 := r1.stp hM2 hp
                     have hM2 := hM2.stp hp
                     have hs : Sep [sl3 (L a19 ([x14] : List Int) c19) ([x14] : List Int), sl3 (L a16 x5 c16) x5, sl3 (L a20 x17 c20) x17, sl4 (L a2 x2 c2) x16, BX b1 30 [I p0.W, I p0.Mem, I p0.In, L a1 p0.Code c1]] w18 S24 := hs
                     have hs : Sep [sl3 (L a16 x5 c16) x5, sl3 (L a20 x17 c20) x17, sl4 (L a2 x2 c2) x16, BX b1 30 [I p0.W, I p0.Mem, I p0.In, L a1 p0.Code c1]] w18 S24 := Sep.pick [1, 2, 3, 4] hs (by decide) rfl
                     refine from_pure 1 [(1, B b1 0), (3, L a2 x2 c2), (4, L a20 x17 c20), (5, I s1.1), (30, L a16 x5 c16), (31, I (len x5)), (32, I s4.1)] hF (by kernel_rfl) fun fr hF => ?_
                     refine from_end rfl ?_
                     refine blk_normal (then_normal ?_)
                     refine (wp_pure [(1, B b1 0), (3, L a2 x2 c2), (4, L a20 x17 c20), (5, I s1.1), (30, L a16 x5 c16), (31, I (len x5)), (32, I (w64 (s4.1 + 1)))] hF (by kernel_rfl) fun fr hF => then_normal ?_)
                     exact ⟨_, (Option.some.inj h).symm, a20, c20, S24, _, hF.sub _ (by kernel_rfl), hM2, hs⟩
                   replace h := iteF hb h
                   refine (wp_skip ?_)
                   refine blk_normal (then_normal ?_)
                   refine (wp_pure [(1, B b1 0), (3, L a2 x2 c2), (4, L a17 s4.2.1 c17), (5, I s1.1), (30, L a16 x5 c16), (31, I (len x5)), (32, I (w64 (s4.1 + 1)))] hF (by kernel_rfl) fun fr hF => then_normal ?_)
                   exact ⟨_, (Option.some.inj h).symm, a17, c17, S20, _, hF.sub _ (by kernel_rfl), hM2, hs⟩
                 replace h := iteF hb h
                 have hs : Sep [sl3 (L a17 s4.2.1 c17) s4.2.1, sl4 (L a2 x2 c2) s4.2.2, BX b1 30 [I p0.W, I p0.Mem, I p0.In, L a1 p0.Code c1]] w4i S20 := Sep.pick [1, 2, 3] hs (by decide) rfl
                 refine (wp_exit (then_exit (then_exit (blk_exit_eq ?_))))
                 obtain rfl := hr4 _ (Option.some.inj h).symm
                 exact then_normal ⟨a17, c17, S20, _, hF.sub _ (by kernel_rfl), hM2, hs⟩
               · obtain ⟨a18, c18, S21, F8, hF, hMx, hs⟩ := hM
                 have r1 := r1.mem hMx
                 have hM1 := hM1.trans hMx
                 refine blk_normal (then_normal ?_)
                 refine (wp_pure [(1, B b1 0), (3, L a2 x2 c2), (4, L a18 rl4.1 c18), (5, I (w64 (s1.1 + 1)))] hF (by kernel_rfl) fun fr hF => then_normal ?_)
                 exact ⟨_, (Option.some.inj h).symm, a18, c18, S21, _, hF.sub _ (by kernel_rfl), hM1, hs⟩
   replace h := iteF hb h
   have hs : Sep [sl3 (L a4 s1.2.1 c4) s1.2.1] w1i S5 := Sep.pick [0] hs (by decide) rfl
   refine (wp_exit (then_exit (then_exit (blk_exit_eq ?_))))
   obtain rfl := hr1 _ (Option.some.inj h).symm
   exact then_normal ⟨a4, c4, S5, _, hF.sub _ (by kernel_rfl), hM1, hs⟩
 · obtain ⟨a5, c5, S6, F2, hF, hMx, hs⟩ := hM
   have hM0 := hM0.trans hMx
   refine wp_seq (wp_text' ?_)
   refine from_pure 1 [(49, L a5 rl1 c5)] hF (by kernel_rfl) fun fr hF => ?_
   obtain ⟨x18, hx18, h⟩ := bindE h
   obtain ⟨A1, R1, hsA, hsR, hdA, hbA, hup⟩ := Sep.call (L1 := [sl3 (L a5 rl1 c5) rl1]) (L2 := []) hs hM0
   refine s_call [L a5 rl1 c5] Try.call61 rfl rfl hF rfl (impl_ascending_ok n rl1 hx18 hsA hbA hdA) fun v w19 fr hRes hF => ?_
   obtain ⟨a21, c21, rfl, _, hp, hs⟩ := hRes
   obtain ⟨S25, hp, hs⟩ := hup hp hs
   have hM0 := hM0.stp hp
   have hs : Sep [sl3 (L a21 x18 c21) x18] w19 S25 := hs
   refine from_pure 1 [(2, L a21 x18 c21)] hF (by kernel_rfl) fun fr hF => ?_
   refine from_end rfl (then_normal ?_)
   obtain rfl := Option.some.inj h
   exact wp_ret (ret1 rfl hF rfl ⟨_, rfl, a21, c21, rfl, S25, hM0.out, hs⟩)

theorem impl_LoopHeads_ok (n : Nat) (p0 : D.Program) {r : (List Int)} (h : impl_LoopHeads n p0 = some r) {w : World} {G0 : Nat → Prop} {va0 : Value} (ra0 : RV w G0 va0 p0) :
   Calls Try.prog 23 [va0].toArray w fun e w' => ∃ v, e = .returned v ∧ ∃ a1 c1, v = L a1 r c1 ∧ ∃ S', Stp w Non w' S' ∧ Sep [sl3 (L a1 r c1) r] w' S' := by
 unfold impl_LoopHeads at h
 have hs := Sep.nil w Non
 have hM0 : Mem w Non (fun k => (G0 k) ∧ k < w.heap.size) w Non (fun k => (G0 k) ∧ k < w.heap.size) := Mem.start (fun _ h => h.elim) (fun _ h => h.2) (fun _ h => h.elim)
 have ra0 := ra0.sub (F' := (fun k => (G0 k) ∧ k < w.heap.size)) (fun k hk h => ⟨h, hk⟩)
 obtain ⟨v1, rfl, r1⟩ := RV.Program ra0
 obtain ⟨a1, c1, rfl, -⟩ := r1.slice
 refine enter (N := 34) Try.func23 rfl Try.ntmps23 rfl fun fr hF => ?_
 refine wp_seq (wp_text' ?_)
 refine q_box hs hM0 [I p0.W, I p0.Mem, I p0.In, L a1 p0.Code c1] rfl rfl hF rfl rfl fun b1 w1 S1 fr hs hp hF => ?_
 have r1 := r1.stp hM0 hp
 have hM0 := hM0.stp hp
 have hs : Sep [BX b1 30 [I p0.W, I p0.Mem, I p0.In, L a1 p0.Code c1]] w1 S1 := hs
 refine from_pure 1 [(1, B b1 0)] hF (by kernel_rfl) fun fr hF => ?_
 refine from_end rfl (then_normal ?_)
 refine wp_seq (wp_pure [(1, B b1 0), (3, L none ([] : List Int) 0)] hF (by kernel_rfl) fun fr hF => then_normal ?_)
 refine wp_seq ?_
 refine wp_seq (wp_text' ?_)
 refine s_loadBoxS ty30 rfl rfl hF rfl (hs.bx 0 rfl) rfl rfl fun fr hF => ?_
 obtain ⟨x1, hx1, h⟩ := bindE h
 refine s_call [.agg #[I p0.W, I p0.Mem, I p0.In, L a1 p0.Code c1]] Try.call21 rfl rfl hF rfl (impl_ReachedOf_ok n p0 hx1 (RV.mk_Program p0 (r1))) fun v w2 fr hRes hF => ?_
 obtain ⟨a2, c2, rfl, _, hp, hs2⟩ := hRes
 obtain ⟨S2, hp, hs⟩ := hs.got hM0 hp hs2
 have r1 := r1.stp hM0 hp
 have hM0 := hM0.stp hp
 have hs : Sep [sl3 (L a2 x1 c2) x1, BX b1 30 [I p0.W, I p0.Mem, I p0.In, L a1 p0.Code c1]] w2 S2 := hs
 refine from_pure 2 [(1, B b1 0), (3, L none ([] : List Int) 0), (9, L a2 x1 c2), (10, I (len x1)), (11, I 0)] hF (by kernel_rfl) fun fr hF => ?_
 refine from_end rfl (then_normal ?_)
 have hs : Sep [sl3 (L none ([] : List Int) 0) ([] : List Int), sl3 (L a2 x1 c2) x1, BX b1 30 [I p0.W, I p0.Mem, I p0.In, L a1 p0.Code c1]] w2 S2 := hs.cons_nil (α := Int) 3
 obtain ⟨rl1, hit1, h⟩ := bindE h
 have hk1 := h
 refine (GL.wp_cut (M := fun fr w' => ∃ a4 c4 S4 F2, FrS 34 [(3, L a4 rl1 c4)] fr ∧ Mem w2 S2 (fun k => (G0 k) ∧ k < w.heap.size) w' S4 F2 ∧ Sep [sl3 (L a4 rl1 c4) rl1] w' S4) (wp_block (wp_iter (Inv := fun s1 fr w' => ∃ a3 c3 S3 F1, FrS 34 [(1, B b1 0), (3, L a3 s1.2 c3), (9, L a2 x1 c2), (10, I (len x1)), (11, I s1.1)] fr ∧ Mem w2 S2 (fun k => (G0 k) ∧ k < w.heap.size) w' S3 F1 ∧ Sep [sl3 (L a3 s1.2 c3) s1.2, sl3 (L a2 x1 c2) x1, BX b1 30 [I p0.W, I p0.Mem, I p0.In, L a1 p0.Code c1]] w' S3) hit1 ⟨none, 0, S2, _, hF.sub _ (by kernel_rfl), (Mem.start hM0.bd hM0.bdF hM0.dj), hs⟩ fun s1 q1 fr w1i hI h hr1 => ?_)) fun fr w1o hM => ?_)
 · obtain ⟨a3, c3, S3, F1, hF, hM1, hs⟩ := hI
   have r1 := r1.mem hM1
   refine wp_seq (wp_pure [(1, B b1 0), (3, L a3 s1.2 c3), (9, L a2 x1 c2), (10, I (len x1)), (11, I s1.1), (12, .bool (decide (s1.1 < (len x1))))] hF (by kernel_rfl) fun fr hF => then_normal ?_)
   refine wp_seq (wp_if hF (b := (decide (s1.1 < (len x1)))) rfl (fun hb => ?_) (fun hb => ?_))
   · replace h := iteT hb h
     refine (wp_skip (then_normal ?_))
     refine wp_seq (wp_block ?_)
     refine wp_seq (wp_text' ?_)
     obtain ⟨x2, hx2, h⟩ := bindE h
     refine s_elemF (z := x2) (I x2) ty3 Try.underlying26 rfl rfl rfl rfl rfl hF rfl (hs.rv 1 rfl) rfl (get?_nn hx2) (get?_at hx2) rfl fun p fr hF => ?_
     refine from_pure 1 [(1, B b1 0), (3, L a3 s1.2 c3), (5, I x2), (9, L a2 x1 c2), (10, I (len x1)), (11, I s1.1)] hF (by kernel_rfl) fun fr hF => ?_
     refine from_end rfl (then_normal ?_)
     refine wp_seq (wp_text' ?_)
     refine s_loadBoxS ty30 rfl rfl hF rfl (hs.bx 2 rfl) rfl rfl fun fr hF => ?_
     refine from_pure 1 [(1, B b1 0), (3, L a3 s1.2 c3), (5, I x2), (9, L a2 x1 c2), (10, I (len x1)), (11, I s1.1), (15, .agg #[I p0.W, I p0.Mem, I p0.In, L a1 p0.Code c1]), (16, I x2)] hF (by kernel_rfl) fun fr hF => ?_
     obtain ⟨x3, hx3, h⟩ := bindE h
     refine s_call [.agg #[I p0.W, I p0.Mem, I p0.In, L a1 p0.Code c1], I x2] Try.call14 rfl rfl hF rfl (impl_NextOf_ok n p0 x2 hx3 (RV.mk_Program p0 (r1))) fun v w3 fr hRes hF => ?_
     obtain ⟨a5, c5, rfl, _, hp, hs2⟩ := hRes
     obtain ⟨S5, hp, hs⟩ := hs.got hM1 hp hs2
     have r1 := r1.stp hM1 hp
     have hM1 := hM1.stp hp
     have hs : Sep [sl3 (L a5 x3 c5) x3, sl3 (L a3 s1.2 c3) s1.2, sl3 (L a2 x1 c2) x1, BX b1 30 [I p0.W, I p0.Mem, I p0.In, L a1 p0.Code c1]] w3 S5 := hs
     refine from_pure 2 [(1, B b1 0), (3, L a3 s1.2 c3), (5, I x2), (9, L a2 x1 c2), (10, I (len x1)), (11, I s1.1), (17, L a5 x3 c5), (18, I (len x3)), (19, I 0)] hF (by kernel_rfl) fun fr hF => ?_
     refine from_end rfl (then_normal ?_)
     obtain ⟨rl2, hit2, h⟩ := bindE h
     have hk2 := h
     refine (wp_cut' (M := fun fr w' => ∃ a7 c7 S7 F4, FrS 34 [(1, B b1 0), (3, L a7 rl2 c7), (9, L a2 x1 c2), (10, I (len x1)), (11, I s1.1)] fr ∧ Mem w3 S5 F1 w' S7 F4 ∧ Sep [sl3 (L a7 rl2 c7) rl2, sl3 (L a2 x1 c2) x1, BX b1 30 [I p0.W, I p0.Mem, I p0.In, L a1 p0.Code c1]] w' S7) (wp_block (wp_iter (Inv := fun s2 fr w' => ∃ a6 c6 S6 F3, FrS 34 [(1, B b1 0), (3, L a6 s2.2 c6), (5, I x2), (9, L a2 x1 c2), (10, I (len x1)), (11, I s1.1), (17, L a5 x3 c5), (18, I (len x3)), (19, I s2.1)] fr ∧ Mem w3 S5 F1 w' S6 F3 ∧ Sep [sl3 (L a5 x3 c5) x3, sl3 (L a6 s2.2 c6) s2.2, sl3 (L a2 x1 c2) x1, BX b1 30 [I p0.W, I p0.Mem, I p0.In, L a1 p0.Code c1]] w' S6) hit2 ⟨a3, c3, S5, _, hF.sub _ (by kernel_rfl), (Mem.start hM1.bd hM1.bdF hM1.dj), hs⟩ fun s2 q2 fr w2i hI h hr2 => ?_)) fun fr w2o hM => ?_)
     · obtain ⟨a6, c6, S6, F3, hF, hM2, hs⟩ := hI
       have r1 := r1.mem hM2
       refine wp_seq (wp_pure [(1, B b1 0), (3, L a6 s2.2 c6), (5, I x2), (9, L a2 x1 c2), (10, I (len x1)), (11, I s1.1), (17, L a5 x3 c5), (18, I (len x3)), (19, I s2.1), (20, .bool (decide (s2.1 < (len x3))))] hF (by kernel_rfl) fun fr hF => then_normal ?_)
       refine wp_seq (wp_if hF (b := (decide (s2.1 < (len x3)))) rfl (fun hb => ?_) (fun hb => ?_))
       · replace h := iteT hb h
         refine (wp_skip (then_normal ?_))
         refine wp_seq (wp_block ?_)
         refine wp_seq (wp_text' ?_)
         obtain ⟨x4, hx4, h⟩ := bindE h
         refine s_elemF (z := x4) (I x4) ty3 Try.underlying26 rfl rfl rfl rfl rfl hF rfl (hs.rv 0 rfl) rfl (get?_nn hx4) (get?_at hx4) rfl fun p fr hF => ?_
         refine from_pure 1 [(1, B b1 0), (3, L a6 s2.2 c6), (5, I x2), (7, I x4), (9, L a2 x1 c2), (10, I (len x1)), (11, I s1.1), (17, L a5 x3 c5), (18, I (len x3)), (19, I s2.1)] hF (by kernel_rfl) fun fr hF => ?_
         refine from_end rfl (then_normal ?_)
         refine wp_seq (wp_pure [(1, B b1 0), (3, L a6 s2.2 c6), (5, I x2), (7, I x4), (9, L a2 x1 c2), (10, I (len x1)), (11, I s1.1), (17, L a5 x3 c5), (18, I (len x3)), (19, I s2.1), (25, .bool (decide (x4 ≤ x2)))] hF (by kernel_rfl) fun fr hF => then_normal ?_)
         refine (wp_if hF (b := (decide (x4 ≤ x2))) rfl (fun hb => ?_) (fun hb => ?_))
         · replace h := iteT hb h
           refine (wp_text' ?_)
           refine from_pure 2 [(1, B b1 0), (5, I x2), (9, L a2 x1 c2), (10, I (len x1)), (11, I s1.1), (17, L a5 x3 c5), (18, I (len x3)), (19, I s2.1), (26, L a6 s2.2 c6), (27, I x4)] hF (by kernel_rfl) fun fr hF => ?_
           refine q_lit (E := 3) hs hM2 [I x4] (([x4] : List Int).map Flat.enc) ([x4] : List Int) rfl rfl hF [I x4] rfl (fun w => by kernel_rfl) (css_flat _) rfl rfl rfl fun a8 c8 w4 S8 fr hs hp hF => ?_
           have r1 := r1.stp hM2 hp
           have hM2 := hM2.stp hp
           have hs : Sep [sl3 (L a8 ([x4] : List Int) c8) ([x4] : List Int), sl3 (L a5 x3 c5) x3, sl3 (L a6 s2.2 c6) s2.2, sl3 (L a2 x1 c2) x1, BX b1 30 [I p0.W, I p0.Mem, I p0.In, L a1 p0.Code c1]] w4 S8 := hs
           obtain ⟨x5, hx5, h⟩ := bindE h
           refine q_append 2 hs hM2 rfl Try.underlying26 el3 rfl rfl rfl hF rfl rfl (hs.rv 0 rfl) hx5 fun a9 c9 w5 S9 fr hs hp hF => ?_
           have r1 := r1.stp hM2 hp
           have hM2 := hM2.stp hp
           have hs : Sep [sl3 (L a8 ([x4] : List Int) c8) ([x4] : List Int), sl3 (L a5 x3 c5) x3, sl3 (L a9 x5 c9) x5, sl3 (L a2 x1 c2) x1, BX b1 30 [I p0.W, I p0.Mem, I p0.In, L a1 p0.Code c1]] w5 S9 := hs
           have hs : Sep [sl3 (L a5 x3 c5) x3, sl3 (L a9 x5 c9) x5, sl3 (L a2 x1 c2) x1, BX b1 30 [I p0.W, I p0.Mem, I p0.In, L a1 p0.Code c1]] w5 S9 := Sep.pick [1, 2, 3, 4] hs (by decide) rfl
           refine from_pure 1 [(1, B b1 0), (3, L a9 x5 c9), (5, I x2), (9, L a2 x1 c2), (10, I (len x1)), (11, I s1.1), (17, L a5 x3 c5), (18, I (len x3)), (19, I s2.1)] hF (by kernel_rfl) fun fr hF => ?_
           refine from_end rfl ?_
           refine blk_normal (then_normal ?_)
           refine (wp_pure [(1, B b1 0), (3, L a9 x5 c9), (5, I x2), (9, L a2 x1 c2), (10, I (len x1)), (11, I s1.1), (17, L a5 x3 c5), (18, I (len x3)), (19, I (w64 (s2.1 + 1)))] hF (by kernel_rfl) fun fr hF => then_normal ?_)
           exact ⟨_, (Option.some.inj h).symm, a9, c9, S9, _, hF.sub _ (by kernel_rfl), hM2, hs⟩
         replace h := iteF hb h
         refine (wp_skip ?_)
         refine blk_normal (then_normal ?_)
         refine (wp_pure [(1, B b1 0), (3, L a6 s2.2 c6), (5, I x2), (9, L a2 x1 c2), (10, I (len x1)), (11, I s1.1), (17, L a5 x3 c5), (18, I (len x3)), (19, I (w64 (s2.1 + 1)))] hF (by kernel_rfl) fun fr hF => then_normal ?_)
         exact ⟨_, (Option.some.inj h).symm, a6, c6, S6, _, hF.sub _ (by kernel_rfl), hM2, hs⟩
       replace h := iteF hb h
       have hs : Sep [sl3 (L a6 s2.2 c6) s2.2, sl3 (L a2 x1 c2) x1, BX b1 30 [I p0.W, I p0.Mem, I p0.In, L a1 p0.Code c1]] w2i S6 := Sep.pick [1, 2, 3] hs (by decide) rfl
       refine (wp_exit (then_exit (then_exit (blk_exit_eq ?_))))
       obtain rfl := hr2 _ (Option.some.inj h).symm
       exact then_normal ⟨a6, c6, S6, _, hF.sub _ (by kernel_rfl), hM2, hs⟩
     · obtain ⟨a7, c7, S7, F4, hF, hMx, hs⟩ := hM
       have r1 := r1.mem hMx
       have hM1 := hM1.trans hMx
       refine blk_normal (then_normal ?_)
       refine (wp_pure [(1, B b1 0), (3, L a7 rl2 c7), (9, L a2 x1 c2), (10, I (len x1)), (11, I (w64 (s1.1 + 1)))] hF (by kernel_rfl) fun fr hF => then_normal ?_)
       exact ⟨_, (Option.some.inj h).symm, a7, c7, S7, _, hF.sub _ (by kernel_rfl), hM1, hs⟩
   replace h := iteF hb h
   have hs : Sep [sl3 (L a3 s1.2 c3) s1.2] w1i S3 := Sep.pick [0] hs (by decide) rfl
   refine (wp_exit (then_exit (then_exit (blk_exit_eq ?_))))
   obtain rfl := hr1 _ (Option.some.inj h).symm
   exact then_normal ⟨a3, c3, S3, _, hF.sub _ (by kernel_rfl), hM1, hs⟩
 · obtain ⟨a4, c4, S4, F2, hF, hMx, hs⟩ := hM
   have hM0 := hM0.trans hMx
   refine wp_seq (wp_text' ?_)
   refine from_pure 1 [(32, L a4 rl1 c4)] hF (by kernel_rfl) fun fr hF => ?_
   obtain ⟨x6, hx6, h⟩ := bindE h
   obtain ⟨A1, R1, hsA, hsR, hdA, hbA, hup⟩ := Sep.call (L1 := [sl3 (L a4 rl1 c4) rl1]) (L2 := []) hs hM0
   refine s_call [L a4 rl1 c4] Try.call61 rfl rfl hF rfl (impl_ascending_ok n rl1 hx6 hsA hbA hdA) fun v w6 fr hRes hF => ?_
   obtain ⟨a10, c10, rfl, _, hp, hs⟩ := hRes
   obtain ⟨S10, hp, hs⟩ := hup hp hs
   have hM0 := hM0.stp hp
   have hs : Sep [sl3 (L a10 x6 c10) x6] w6 S10 := hs
   refine from_pure 1 [(2, L a10 x6 c10)] hF (by kernel_rfl) fun fr hF => ?_
   refine from_end rfl (then_normal ?_)
   obtain rfl := Option.some.inj h
   exact wp_ret (ret1 rfl hF rfl ⟨_, rfl, a10, c10, rfl, S10, hM0.out, hs⟩)

theorem laws_eqIntS_ok (n : Nat) (p0 : List Int) (p1 : List Int) {r : Bool} (h : laws_eqIntS n p0 p1 = some r) {w : World} {G0 : Nat → Prop} {va0 : Value} (ra0 : RV w G0 va0 p0) {G1 : Nat → Prop} {va1 : Value} (ra1 : RV w G1 va1 p1) :
   Calls Try.prog 15 [va0, va1].toArray w fun e w' => ∃ v, e = .returned v ∧ v = .bool r ∧ Chg Non w w' := by
 unfold laws_eqIntS at h
 have hs := Sep.nil w Non
 have hM0 : Mem w Non (fun k => (G0 k ∨ G1 k) ∧ k < w.heap.size) w Non (fun k => (G0 k ∨ G1 k) ∧ k < w.heap.size) := Mem.start (fun _ h => h.elim) (fun _ h => h.2) (fun _ h => h.elim)
 have ra0 := ra0.sub (F' := (fun k => (G0 k ∨ G1 k) ∧ k < w.heap.size)) (fun k hk h => ⟨.inl h, hk⟩)
 obtain ⟨a1, c1, rfl, -⟩ := ra0.slice
 have ra1 := ra1.sub (F' := (fun k => (G0 k ∨ G1 k) ∧ k < w.heap.size)) (fun k hk h => ⟨.inr (h), hk⟩)
 obtain ⟨a2, c2, rfl, -⟩ := ra1.slice
 refine enter (N := 26) Try.func15 rfl Try.ntmps15 rfl fun fr hF => ?_
 refine wp_seq (wp_pure [(0, L a1 p0 c1), (1, L a2 p1 c2)] hF (by kernel_rfl) fun fr hF => then_normal ?_)
 refine wp_seq ?_
 refine wp_seq (wp_pure [(0, L a1 p0 c1), (1, L a2 p1 c2), (10, .bool ((len p0) != (len p1)))] hF (by kernel_rfl) fun fr hF => then_normal ?_)
 refine (wp_if hF (b := ((len p0) != (len p1))) rfl (fun hb => ?_) (fun hb => ?_))
 · replace h := iteT hb h
   refine wp_seq (wp_pure [(4, .bool false)] hF (by kernel_rfl) fun fr hF => then_normal ?_)
   obtain rfl := Option.some.inj h
   exact wp_ret (then_ret (ret1 rfl hF rfl ⟨_, rfl, rfl, hM0.chg⟩))
 replace h := iteF hb h
 refine (wp_skip (then_normal ?_))
 refine wp_seq ?_
 refine wp_seq (wp_pure [(0, L a1 p0 c1), (1, L a2 p1 c2), (5, I 0)] hF (by kernel_rfl) fun fr hF => then_normal ?_)
 obtain ⟨rl1, hit1, h⟩ := bindE h
 have hk1 := h
 refine (GL.wp_cut (M := fun fr w' => ∃ s, rl1 = .inl s ∧ ∃ S2 F2, FrS 26 [] fr ∧ Mem w Non (fun k => (G0 k ∨ G1 k) ∧ k < w.heap.size) w' S2 F2 ∧ Sep [] w' S2) (wp_block (wp_iter (Inv := fun s1 fr w' => ∃ S1 F1, FrS 26 [(0, L a1 p0 c1), (1, L a2 p1 c2), (5, I s1)] fr ∧ Mem w Non (fun k => (G0 k ∨ G1 k) ∧ k < w.heap.size) w' S1 F1 ∧ Sep [] w' S1) hit1 ⟨Non, _, hF.sub _ (by kernel_rfl), (Mem.start hM0.bd hM0.bdF hM0.dj), hs⟩ fun s1 q1 fr w1i hI h hr1 => ?_)) fun fr w1o hM => ?_)
 · obtain ⟨S1, F1, hF, hM1, hs⟩ := hI
   have ra0 := ra0.mem hM1
   have ra1 := ra1.mem hM1
   refine wp_seq ?_
   refine wp_seq (wp_pure [(0, L a1 p0 c1), (1, L a2 p1 c2), (5, I s1), (14, .bool (decide (s1 < (len p0))))] hF (by kernel_rfl) fun fr hF => then_normal ?_)
   refine (wp_if hF (b := (decide (s1 < (len p0)))) rfl (fun hb => ?_) (fun hb => ?_))
   · replace h := iteT hb h
     refine (wp_skip (then_normal ?_))
     refine wp_seq (wp_block ?_)
     obtain ⟨x1, hx1, h⟩ := bindE h
     obtain ⟨x2, hx2, h⟩ := bindE h
     refine wp_seq (region_bm 9 [0, 0, 3, 7, 0, 0, 48, 112, 255] [true, true, false, false, true, true, false, false, true]
         [.eq (L a1 p0 c1), .eq (I s1), .is fun v w => ElemP w (fun k => k < w1i.heap.size) v (x1 : Int), .eq (I x1), .eq (L a2 p1 c2), .eq (I s1), .is fun v w => ElemP w (fun k => k < w1i.heap.size) v (x2 : Int), .eq (I x2), .eq (.bool (x1 != x2))]
         [(0, L a1 p0 c1), (1, L a2 p1 c2), (5, I s1), (25, .bool (x1 != x2))] mix hF (by kernel_rfl) (by kernel_rfl) (by kernel_rfl) (by kernel_rfl) ⟨(Pd.monoO_is mono_elem), Pd.monoO_eq, (Pd.monoO_is mono_elem), Pd.monoO_eq, trivial⟩ (fun ow hG => ⟨np_to ow (np_index hG hF ty3 Try.underlying26 rfl rfl (RV.sub (ra0) fun k hk _ => hk) rfl rfl (fun hg => ⟨get?_nn hx1, get?_at hx1⟩)), np_to ow (np_loadF (z := x1) (i := 2) hG hF ty3 rfl rfl rfl rfl rfl rfl rfl), np_to ow (np_index hG hF ty3 Try.underlying26 rfl rfl (RV.sub (ra1) fun k hk _ => hk) rfl rfl (fun hg => ⟨get?_nn hx2, get?_at hx2⟩)), np_to ow (np_loadF (z := x2) (i := 6) hG hF ty3 rfl rfl rfl rfl rfl rfl rfl), trivial⟩) (by kernel_rfl) fun ow fr w1 hF hE hc => ?_)
     have ra0 := ra0.ext hc
     have ra1 := ra1.ext hc
     have hs := hs.ext hc
     have hM1 := hM1.ext hc
     refine from_end rfl (then_normal ?_)
     refine (wp_if hF (b := (x1 != x2)) rfl (fun hb => ?_) (fun hb => ?_))
     · replace h := iteT hb h
       refine wp_seq (wp_pure [(4, .bool false)] hF (by kernel_rfl) fun fr hF => then_normal ?_)
       obtain rfl := hr1 _ (Option.some.inj h).symm
       obtain rfl := Option.some.inj hk1
       exact wp_ret (blk_ret (then_ret (then_ret (blk_ret (then_ret (ret1 rfl hF rfl ⟨_, rfl, rfl, (hM0.trans hM1).chg⟩))))))
     replace h := iteF hb h
     refine (wp_skip ?_)
     refine blk_normal (then_normal ?_)
     refine (wp_pure [(0, L a1 p0 c1), (1, L a2 p1 c2), (5, I (w64 (s1 + 1)))] hF (by kernel_rfl) fun fr hF => then_normal ?_)
     exact ⟨_, (Option.some.inj h).symm, S1, _, hF.sub _ (by kernel_rfl), hM1, hs⟩
   replace h := iteF hb h
   refine (wp_exit (then_exit (then_exit (blk_exit_eq ?_))))
   obtain rfl := hr1 _ (Option.some.inj h).symm
   exact then_normal ⟨_, rfl, S1, _, hF.sub _ (by kernel_rfl), hM1, hs⟩
 · obtain ⟨s1r, rfl, hM⟩ := hM
   obtain ⟨S2, F2, hF, hMx, hs⟩ := hM
   have hM0 := hM0.trans hMx
   refine wp_seq (wp_pure [(4, .bool true)] hF (by kernel_rfl) fun fr hF => then_normal ?_)
   obtain rfl := Option.some.inj h
   exact wp_ret (ret1 rfl hF rfl ⟨_, rfl, rfl, hM0.chg⟩)

theorem laws_eqIns_ok (p0 : D.Ins) (p1 : D.Ins) {r : Bool} (h : laws_eqIns p0 p1 = some r) {w : World} :
   Calls Try.prog 111 [.agg #[I p0.Op, I p0.A, I p0.B, I p0.C], .agg #[I p1.Op, I p1.A, I p1.B, I p1.C]].toArray w fun e w' => ∃ v, e = .returned v ∧ v = .bool r ∧ Chg Non w w' := by
 unfold laws_eqIns at h
 have hs := Sep.nil w Non
 have hM0 : Mem w Non (fun k => (False) ∧ k < w.heap.size) w Non (fun k => (False) ∧ k < w.heap.size) := Mem.start (fun _ h => h.elim) (fun _ h => h.2) (fun _ h => h.elim)
 refine enter (N := 25) Try.func111 rfl Try.ntmps111 rfl fun fr hF => ?_
 refine wp_seq (wp_text' ?_)
 refine q_box hs hM0 [I p0.Op, I p0.A, I p0.B, I p0.C] rfl rfl hF rfl rfl fun b1 w1 S1 fr hs hp hF => ?_
 have hM0 := hM0.stp hp
 have hs : Sep [BX b1 90 [I p0.Op, I p0.A, I p0.B, I p0.C]] w1 S1 := hs
 refine q_box hs hM0 [I p1.Op, I p1.A, I p1.B, I p1.C] rfl rfl hF rfl rfl fun b2 w2 S2 fr hs hp hF => ?_
 have hM0 := hM0.stp hp
 have hs : Sep [BX b2 90 [I p1.Op, I p1.A, I p1.B, I p1.C], BX b1 90 [I p0.Op, I p0.A, I p0.B, I p0.C]] w2 S2 := hs
 refine from_pure 1 [(2, B b1 0), (3, B b2 0)] hF (by kernel_rfl) fun fr hF => ?_
 refine from_end rfl (then_normal ?_)
 refine wp_seq ?_
 refine wp_seq (wp_text' ?_)
 refine from_pure 1 [(2, B b1 0), (3, B b2 0), (5, B b1 0)] hF (by kernel_rfl) fun fr hF => ?_
 refine s_loadBox (I p0.Op) ty3 rfl rfl hF rfl (hs.bx 1 rfl) rfl rfl fun fr hF => ?_
 refine from_pure 1 [(2, B b1 0), (3, B b2 0), (6, I p0.Op), (7, B b2 0)] hF (by kernel_rfl) fun fr hF => ?_
 refine s_loadBox (I p1.Op) ty3 rfl rfl hF rfl (hs.bx 0 rfl) rfl rfl fun fr hF => ?_
 refine from_pure 1 [(2, B b1 0), (3, B b2 0), (9, .bool (p0.Op != p1.Op))] hF (by kernel_rfl) fun fr hF => ?_
 refine from_end rfl (then_normal ?_)
 refine (wp_if hF (b := (p0.Op != p1.Op)) rfl (fun hb => ?_) (fun hb => ?_))
 · replace h := iteT hb h
   have hs : Sep [] w2 S2 := Sep.pick [] hs (by decide) rfl
   refine wp_seq (wp_pure [(4, .bool false)] hF (by kernel_rfl) fun fr hF => then_normal ?_)
   obtain rfl := Option.some.inj h
   exact wp_ret (then_ret (ret1 rfl hF rfl ⟨_, rfl, rfl, hM0.chg⟩))
 replace h := iteF hb h
 refine (wp_skip (then_normal ?_))
 refine wp_seq ?_
 refine wp_seq (wp_text' ?_)
 refine from_pure 1 [(2, B b1 0), (3, B b2 0), (10, B b1 1)] hF (by kernel_rfl) fun fr hF => ?_
 refine s_loadBox (I p0.A) ty3 rfl rfl hF rfl (hs.bx 1 rfl) rfl rfl fun fr hF => ?_
 refine from_pure 1 [(2, B b1 0), (3, B b2 0), (11, I p0.A), (12, B b2 1)] hF (by kernel_rfl) fun fr hF => ?_
 refine s_loadBox (I p1.A) ty3 rfl rfl hF rfl (hs.bx 0 rfl) rfl rfl fun fr hF => ?_
 refine from_pure 1 [(2, B b1 0), (3, B b2 0), (14, .bool (p0.A != p1.A))] hF (by kernel_rfl) fun fr hF => ?_
 refine from_end rfl (then_normal ?_)
 refine (wp_if hF (b := (p0.A != p1.A)) rfl (fun hb => ?_) (fun hb => ?_))
 · replace h := iteT hb h
   have hs : Sep [] w2 S2 := Sep.pick [] hs (by decide) rfl
   refine wp_seq (wp_pure [(4, .bool false)] hF (by kernel_rfl) fun fr hF => then_normal ?_)
   obtain rfl := Option.some.inj h
   exact wp_ret (then_ret (ret1 rfl hF rfl ⟨_, rfl, rfl, hM0.chg⟩))
 replace h := iteF hb h
 refine (wp_skip (then_normal ?_))
 refine wp_seq ?_
 refine wp_seq (wp_text' ?_)
 refine from_pure 1 [(2, B b1 0), (3, B b2 0), (15, B b1 2)] hF (by kernel_rfl) fun fr hF => ?_
 refine s_loadBox (I p0.B) ty3 rfl rfl hF rfl (hs.bx 1 rfl) rfl rfl fun fr hF => ?_
 refine from_pure 1 [(2, B b1 0), (3, B b2 0), (16, I p0.B), (17, B b2 2)] hF (by kernel_rfl) fun fr hF => ?_
 refine s_loadBox (I p1.B) ty3 rfl rfl hF rfl (hs.bx 0 rfl) rfl rfl fun fr hF => ?_
 refine from_pure 1 [(2, B b1 0), (3, B b2 0), (19, .bool (p0.B != p1.B))] hF (by kernel_rfl) fun fr hF => ?_
 refine from_end rfl (then_normal ?_)
 refine (wp_if hF (b := (p0.B != p1.B)) rfl (fun hb => ?_) (fun hb => ?_))
 · replace h := iteT hb h
   have hs : Sep [] w2 S2 := Sep.pick [] hs (by decide) rfl
   refine wp_seq (wp_pure [(4, .bool false)] hF (by kernel_rfl) fun fr hF => then_normal ?_)
   obtain rfl := Option.some.inj h
   exact wp_ret (then_ret (ret1 rfl hF rfl ⟨_, rfl, rfl, hM0.chg⟩))
 replace h := iteF hb h
 refine (wp_skip (then_normal ?_))
 refine wp_seq ?_
 refine wp_seq (wp_text' ?_)
 refine from_pure 1 [(3, B b2 0), (20, B b1 3)] hF (by kernel_rfl) fun fr hF => ?_
 refine s_loadBox (I p0.C) ty3 rfl rfl hF rfl (hs.bx 1 rfl) rfl rfl fun fr hF => ?_
 have hs : Sep [BX b2 90 [I p1.Op, I p1.A, I p1.B, I p1.C]] w2 S2 := Sep.pick [0] hs (by decide) rfl
 refine from_pure 1 [(21, I p0.C), (22, B b2 3)] hF (by kernel_rfl) fun fr hF => ?_
 refine s_loadBox (I p1.C) ty3 rfl rfl hF rfl (hs.bx 0 rfl) rfl rfl fun fr hF => ?_
 have hs : Sep [] w2 S2 := Sep.pick [] hs (by decide) rfl
 refine from_pure 1 [(24, .bool (p0.C != p1.C))] hF (by kernel_rfl) fun fr hF => ?_
 refine from_end rfl (then_normal ?_)
 refine (wp_if hF (b := (p0.C != p1.C)) rfl (fun hb => ?_) (fun hb => ?_))
 · replace h := iteT hb h
   refine wp_seq (wp_pure [(4, .bool false)] hF (by kernel_rfl) fun fr hF => then_normal ?_)
   obtain rfl := Option.some.inj h
   exact wp_ret (then_ret (ret1 rfl hF rfl ⟨_, rfl, rfl, hM0.chg⟩))
 replace h := iteF hb h
 refine (wp_skip (then_normal ?_))
 refine wp_seq (wp_pure [(4, .bool true)] hF (by kernel_rfl) fun fr hF => then_normal ?_)
 obtain rfl := Option.some.inj h
 exact wp_ret (ret1 rfl hF rfl ⟨_, rfl, rfl, hM0.chg⟩)

theorem laws_eqInsS_ok (n : Nat) (p0 : List D.Ins) (p1 : List D.Ins) {r : Bool} (h : laws_eqInsS n p0 p1 = some r) {w : World} {G0 : Nat → Prop} {va0 : Value} (ra0 : RV w G0 va0 p0) {G1 : Nat → Prop} {va1 : Value} (ra1 : RV w G1 va1 p1) :
   Calls Try.prog 62 [va0, va1].toArray w fun e w' => ∃ v, e = .returned v ∧ v = .bool r ∧ Chg Non w w' := by
 unfold laws_eqInsS at h
 have hs := Sep.nil w Non
 have hM0 : Mem w Non (fun k => (G0 k ∨ G1 k) ∧ k < w.heap.size) w Non (fun k => (G0 k ∨ G1 k) ∧ k < w.heap.size) := Mem.start (fun _ h => h.elim) (fun _ h => h.2) (fun _ h => h.elim)
 have ra0 := ra0.sub (F' := (fun k => (G0 k ∨ G1 k) ∧ k < w.heap.size)) (fun k hk h => ⟨.inl h, hk⟩)
 obtain ⟨a1, c1, rfl, -⟩ := ra0.slice
 have ra1 := ra1.sub (F' := (fun k => (G0 k ∨ G1 k) ∧ k < w.heap.size)) (fun k hk h => ⟨.inr (h), hk⟩)
 obtain ⟨a2, c2, rfl, -⟩ := ra1.slice
 refine enter (N := 27) Try.func62 rfl Try.ntmps62 rfl fun fr hF => ?_
 refine wp_seq (wp_pure [(0, L a1 p0 c1), (1, L a2 p1 c2)] hF (by kernel_rfl) fun fr hF => then_normal ?_)
 refine wp_seq ?_
 refine wp_seq (wp_pure [(0, L a1 p0 c1), (1, L a2 p1 c2), (10, .bool ((len p0) != (len p1)))] hF (by kernel_rfl) fun fr hF => then_normal ?_)
 refine (wp_if hF (b := ((len p0) != (len p1))) rfl (fun hb => ?_) (fun hb => ?_))
 · replace h := iteT hb h
   refine wp_seq (wp_pure [(4, .bool false)] hF (by kernel_rfl) fun fr hF => then_normal ?_)
   obtain rfl := Option.some.inj h
   exact wp_ret (then_ret (ret1 rfl hF rfl ⟨_, rfl, rfl, hM0.chg⟩))
 replace h := iteF hb h
 refine (wp_skip (then_normal ?_))
 refine wp_seq ?_
 refine wp_seq (wp_pure [(0, L a1 p0 c1), (1, L a2 p1 c2), (5, I 0)] hF (by kernel_rfl) fun fr hF => then_normal ?_)
 obtain ⟨rl1, hit1, h⟩ := bindE h
 have hk1 := h
 refine (GL.wp_cut (M := fun fr w' => ∃ s, rl1 = .inl s ∧ ∃ S2 F2, FrS 27 [] fr ∧ Mem w Non (fun k => (G0 k ∨ G1 k) ∧ k < w.heap.size) w' S2 F2 ∧ Sep [] w' S2) (wp_block (wp_iter (Inv := fun s1 fr w' => ∃ S1 F1, FrS 27 [(0, L a1 p0 c1), (1, L a2 p1 c2), (5, I s1)] fr ∧ Mem w Non (fun k => (G0 k ∨ G1 k) ∧ k < w.heap.size) w' S1 F1 ∧ Sep [] w' S1) hit1 ⟨Non, _, hF.sub _ (by kernel_rfl), (Mem.start hM0.bd hM0.bdF hM0.dj), hs⟩ fun s1 q1 fr w1i hI h hr1 => ?_)) fun fr w1o hM => ?_)
 · obtain ⟨S1, F1, hF, hM1, hs⟩ := hI
   have ra0 := ra0.mem hM1
   have ra1 := ra1.mem hM1
   refine wp_seq ?_
   refine wp_seq (wp_pure [(0, L a1 p0 c1), (1, L a2 p1 c2), (5, I s1), (14, .bool (decide (s1 < (len p0))))] hF (by kernel_rfl) fun fr hF => then_normal ?_)
   refine (wp_if hF (b := (decide (s1 < (len p0)))) rfl (fun hb => ?_) (fun hb => ?_))
   · replace h := iteT hb h
     refine (wp_skip (then_normal ?_))
     refine wp_seq (wp_block ?_)
     obtain ⟨x1, hx1, h⟩ := bindE h
     obtain ⟨x2, hx2, h⟩ := bindE h
     obtain ⟨x3, hx3, h⟩ := bindE h
     refine wp_seq (region_bm 10 [0, 0, 3, 7, 0, 0, 48, 112, 255, 511] [true, true, false, false, true, true, false, false, false, true]
         [.eq (L a1 p0 c1), .eq (I s1), .is fun v w => ElemP w (fun k => k < w1i.heap.size) v (x1 : D.Ins), .eq (.agg #[I x1.Op, I x1.A, I x1.B, I x1.C]), .eq (L a2 p1 c2), .eq (I s1), .is fun v w => ElemP w (fun k => k < w1i.heap.size) v (x2 : D.Ins), .eq (.agg #[I x2.Op, I x2.A, I x2.B, I x2.C]), .eq (.bool x3), .eq (.bool (!x3))]
         [(0, L a1 p0 c1), (1, L a2 p1 c2), (5, I s1), (26, .bool (!x3))] mix hF (by kernel_rfl) (by kernel_rfl) (by kernel_rfl) (by kernel_rfl) ⟨(Pd.monoO_is mono_elem), Pd.monoO_eq, (Pd.monoO_is mono_elem), Pd.monoO_eq, Pd.monoO_eq, trivial⟩ (fun ow hG => ⟨np_to ow (np_index hG hF ty90 Try.underlying28 rfl rfl (RV.sub (ra0) fun k hk _ => hk) rfl rfl (fun hg => ⟨get?_nn hx1, get?_at hx1⟩)), np_to ow (np_loadF (z := x1) (i := 2) hG hF ty90 rfl rfl rfl rfl rfl rfl rfl), np_to ow (np_index hG hF ty90 Try.underlying28 rfl rfl (RV.sub (ra1) fun k hk _ => hk) rfl rfl (fun hg => ⟨get?_nn hx2, get?_at hx2⟩)), np_to ow (np_loadF (z := x2) (i := 6) hG hF ty90 rfl rfl rfl rfl rfl rfl rfl), np_to ow (np_call [.agg #[I x1.Op, I x1.A, I x1.B, I x1.C], .agg #[I x2.Op, I x2.A, I x2.B, I x2.C]] hG hF Try.call111 rfl rfl (fun w hC hg => (laws_eqIns_ok x1 x2 hx3).mono fun e w' ⟨v, he, hv, hc⟩ => ⟨v, he, hc, hv⟩)), trivial⟩) (by kernel_rfl) fun ow fr w1 hF hE hc => ?_)
     have ra0 := ra0.ext hc
     have ra1 := ra1.ext hc
     have hs := hs.ext hc
     have hM1 := hM1.ext hc
     refine from_end rfl (then_normal ?_)
     refine (wp_if hF (b := (!x3)) rfl (fun hb => ?_) (fun hb => ?_))
     · replace h := iteT hb h
       refine wp_seq (wp_pure [(4, .bool false)] hF (by kernel_rfl) fun fr hF => then_normal ?_)
       obtain rfl := hr1 _ (Option.some.inj h).symm
       obtain rfl := Option.some.inj hk1
       exact wp_ret (blk_ret (then_ret (then_ret (blk_ret (then_ret (ret1 rfl hF rfl ⟨_, rfl, rfl, (hM0.trans hM1).chg⟩))))))
     replace h := iteF hb h
     refine (wp_skip ?_)
     refine blk_normal (then_normal ?_)
     refine (wp_pure [(0, L a1 p0 c1), (1, L a2 p1 c2), (5, I (w64 (s1 + 1)))] hF (by kernel_rfl) fun fr hF => then_normal ?_)
     exact ⟨_, (Option.some.inj h).symm, S1, _, hF.sub _ (by kernel_rfl), hM1, hs⟩
   replace h := iteF hb h
   refine (wp_exit (then_exit (then_exit (blk_exit_eq ?_))))
   obtain rfl := hr1 _ (Option.some.inj h).symm
   exact then_normal ⟨_, rfl, S1, _, hF.sub _ (by kernel_rfl), hM1, hs⟩
 · obtain ⟨s1r, rfl, hM⟩ := hM
   obtain ⟨S2, F2, hF, hMx, hs⟩ := hM
   have hM0 := hM0.trans hMx
   refine wp_seq (wp_pure [(4, .bool true)] hF (by kernel_rfl) fun fr hF => then_normal ?_)
   obtain rfl := Option.some.inj h
   exact wp_ret (ret1 rfl hF rfl ⟨_, rfl, rfl, hM0.chg⟩)

theorem laws_eqProgram_ok (n : Nat) (p0 : D.Program) (p1 : D.Program) {r : Bool} (h : laws_eqProgram n p0 p1 = some r) {w : World} {G0 : Nat → Prop} {va0 : Value} (ra0 : RV w G0 va0 p0) {G1 : Nat → Prop} {va1 : Value} (ra1 : RV w G1 va1 p1) :
   Calls Try.prog 16 [va0, va1].toArray w fun e w' => ∃ v, e = .returned v ∧ v = .bool r ∧ Chg Non w w' := by
 unfold laws_eqProgram at h
 have hs := Sep.nil w Non
 have hM0 : Mem w Non (fun k => (G0 k ∨ G1 k) ∧ k < w.heap.size) w Non (fun k => (G0 k ∨ G1 k) ∧ k < w.heap.size) := Mem.start (fun _ h => h.elim) (fun _ h => h.2) (fun _ h => h.elim)
 have ra0 := ra0.sub (F' := (fun k => (G0 k ∨ G1 k) ∧ k < w.heap.size)) (fun k hk h => ⟨.inl h, hk⟩)
 obtain ⟨v1, rfl, r1⟩ := RV.Program ra0
 obtain ⟨a1, c1, rfl, -⟩ := r1.slice
 have ra1 := ra1.sub (F' := (fun k => (G0 k ∨ G1 k) ∧ k < w.heap.size)) (fun k hk h => ⟨.inr (h), hk⟩)
 obtain ⟨v2, rfl, r2⟩ := RV.Program ra1
 obtain ⟨a2, c2, rfl, -⟩ := r2.slice
 refine enter (N := 26) Try.func16 rfl Try.ntmps16 rfl fun fr hF => ?_
 refine wp_seq (wp_text' ?_)
 refine q_box hs hM0 [I p0.W, I p0.Mem, I p0.In, L a1 p0.Code c1] rfl rfl hF rfl rfl fun b1 w1 S1 fr hs hp hF => ?_
 have r1 := r1.stp hM0 hp
 have r2 := r2.stp hM0 hp
 have hM0 := hM0.stp hp
 have hs : Sep [BX b1 30 [I p0.W, I p0.Mem, I p0.In, L a1 p0.Code c1]] w1 S1 := hs
 refine q_box hs hM0 [I p1.W, I p1.Mem, I p1.In, L a2 p1.Code c2] rfl rfl hF rfl rfl fun b2 w2 S2 fr hs hp hF => ?_
 have r2 := r2.stp hM0 hp
 have r1 := r1.stp hM0 hp
 have hM0 := hM0.stp hp
 have hs : Sep [BX b2 30 [I p1.W, I p1.Mem, I p1.In, L a2 p1.Code c2], BX b1 30 [I p0.W, I p0.Mem, I p0.In, L a1 p0.Code c1]] w2 S2 := hs
 refine from_pure 1 [(2, B b1 0), (3, B b2 0)] hF (by kernel_rfl) fun fr hF => ?_
 refine from_end rfl (then_normal ?_)
 refine wp_seq ?_
 refine wp_seq (wp_text' ?_)
 refine from_pure 1 [(2, B b1 0), (3, B b2 0), (5, B b1 0)] hF (by kernel_rfl) fun fr hF => ?_
 refine s_loadBox (I p0.W) ty3 rfl rfl hF rfl (hs.bx 1 rfl) rfl rfl fun fr hF => ?_
 refine from_pure 1 [(2, B b1 0), (3, B b2 0), (6, I p0.W), (7, B b2 0)] hF (by kernel_rfl) fun fr hF => ?_
 refine s_loadBox (I p1.W) ty3 rfl rfl hF rfl (hs.bx 0 rfl) rfl rfl fun fr hF => ?_
 refine from_pure 1 [(2, B b1 0), (3, B b2 0), (9, .bool (p0.W != p1.W))] hF (by kernel_rfl) fun fr hF => ?_
 refine from_end rfl (then_normal ?_)
 refine (wp_if hF (b := (p0.W != p1.W)) rfl (fun hb => ?_) (fun hb => ?_))
 · replace h := iteT hb h
   have hs : Sep [] w2 S2 := Sep.pick [] hs (by decide) rfl
   refine wp_seq (wp_pure [(4, .bool false)] hF (by kernel_rfl) fun fr hF => then_normal ?_)
   obtain rfl := Option.some.inj h
   exact wp_ret (then_ret (ret1 rfl hF rfl ⟨_, rfl, rfl, hM0.chg⟩))
 replace h := iteF hb h
 refine (wp_skip (then_normal ?_))
 refine wp_seq ?_
 refine wp_seq (wp_text' ?_)
 refine from_pure 1 [(2, B b1 0), (3, B b2 0), (10, B b1 1)] hF (by kernel_rfl) fun fr hF => ?_
 refine s_loadBox (I p0.Mem) ty3 rfl rfl hF rfl (hs.bx 1 rfl) rfl rfl fun fr hF => ?_
 refine from_pure 1 [(2, B b1 0), (3, B b2 0), (11, I p0.Mem), (12, B b2 1)] hF (by kernel_rfl) fun fr hF => ?_
 refine s_loadBox (I p1.Mem) ty3 rfl rfl hF rfl (hs.bx 0 rfl) rfl rfl fun fr hF => ?_
 refine from_pure 1 [(2, B b1 0), (3, B b2 0), (14, .bool (p0.Mem != p1.Mem))] hF (by kernel_rfl) fun fr hF => ?_
 refine from_end rfl (then_normal ?_)
 refine (wp_if hF (b := (p0.Mem != p1.Mem)) rfl (fun hb => ?_) (fun hb => ?_))
 · replace h := iteT hb h
   have hs : Sep [] w2 S2 := Sep.pick [] hs (by decide) rfl
   refine wp_seq (wp_pure [(4, .bool false)] hF (by kernel_rfl) fun fr hF => then_normal ?_)
   obtain rfl := Option.some.inj h
   exact wp_ret (then_ret (ret1 rfl hF rfl ⟨_, rfl, rfl, hM0.chg⟩))
 replace h := iteF hb h
 refine (wp_skip (then_normal ?_))
 refine wp_seq ?_
 refine wp_seq (wp_text' ?_)
 refine from_pure 1 [(2, B b1 0), (3, B b2 0), (15, B b1 2)] hF (by kernel_rfl) fun fr hF => ?_
 refine s_loadBox (I p0.In) ty3 rfl rfl hF rfl (hs.bx 1 rfl) rfl rfl fun fr hF => ?_
 refine from_pure 1 [(2, B b1 0), (3, B b2 0), (16, I p0.In), (17, B b2 2)] hF (by kernel_rfl) fun fr hF => ?_
 refine s_loadBox (I p1.In) ty3 rfl rfl hF rfl (hs.bx 0 rfl) rfl rfl fun fr hF => ?_
 refine from_pure 1 [(2, B b1 0), (3, B b2 0), (19, .bool (p0.In != p1.In))] hF (by kernel_rfl) fun fr hF => ?_
 refine from_end rfl (then_normal ?_)
 refine (wp_if hF (b := (p0.In != p1.In)) rfl (fun hb => ?_) (fun hb => ?_))
 · replace h := iteT hb h
   have hs : Sep [] w2 S2 := Sep.pick [] hs (by decide) rfl
   refine wp_seq (wp_pure [(4, .bool false)] hF (by kernel_rfl) fun fr hF => then_normal ?_)
   obtain rfl := Option.some.inj h
   exact wp_ret (then_ret (ret1 rfl hF rfl ⟨_, rfl, rfl, hM0.chg⟩))
 replace h := iteF hb h
 refine (wp_skip (then_normal ?_))
 refine wp_seq ?_
 refine wp_seq (wp_text' ?_)
 refine from_pure 1 [(3, B b2 0), (20, B b1 3)] hF (by kernel_rfl) fun fr hF => ?_
 refine s_loadBox (L a1 p0.Code c1) ty28 rfl rfl hF rfl (hs.bx 1 rfl) rfl rfl fun fr hF => ?_
 have hs : Sep [BX b2 30 [I p1.W, I p1.Mem, I p1.In, L a2 p1.Code c2]] w2 S2 := Sep.pick [0] hs (by decide) rfl
 refine from_pure 1 [(21, L a1 p0.Code c1), (22, B b2 3)] hF (by kernel_rfl) fun fr hF => ?_
 refine s_loadBox (L a2 p1.Code c2) ty28 rfl rfl hF rfl (hs.bx 0 rfl) rfl rfl fun fr hF => ?_
 have hs : Sep [] w2 S2 := Sep.pick [] hs (by decide) rfl
 obtain ⟨x1, hx1, h⟩ := bindE h
 refine s_call [L a1 p0.Code c1, L a2 p1.Code c2] Try.call62 rfl rfl hF rfl (laws_eqInsS_ok n p0.Code p1.Code hx1 (r1) (r2)) fun v w3 fr hRes hF => ?_
 obtain ⟨rfl, hc⟩ := hRes
 have r1 := r1.ext hc
 have r2 := r2.ext hc
 have hs := hs.ext hc
 have hM0 := hM0.ext hc
 refine from_pure 1 [(25, .bool (!x1))] hF (by kernel_rfl) fun fr hF => ?_
 refine from_end rfl (then_normal ?_)
 refine (wp_if hF (b := (!x1)) rfl (fun hb => ?_) (fun hb => ?_))
 · replace h := iteT hb h
   refine wp_seq (wp_pure [(4, .bool false)] hF (by kernel_rfl) fun fr hF => then_normal ?_)
   obtain rfl := Option.some.inj h
   exact wp_ret (then_ret (ret1 rfl hF rfl ⟨_, rfl, rfl, hM0.chg⟩))
 replace h := iteF hb h
 refine (wp_skip (then_normal ?_))
 refine wp_seq (wp_pure [(4, .bool true)] hF (by kernel_rfl) fun fr hF => then_normal ?_)
 obtain rfl := Option.some.inj h
 exact wp_ret (ret1 rfl hF rfl ⟨_, rfl, rfl, hM0.chg⟩)

theorem laws_markInsS_ok (n : Nat) (p0 : List D.Ins) (p1 : Int) {r : Int × (List D.Ins)} (h : laws_markInsS n p0 p1 = some r) {w : World} {S0 F0 : Nat → Prop} {pa0 : Option Addr} {pn0 pc0 : Nat} (hs : Sep [sl90 (.slice pa0 pn0 pc0) p0] w S0) (hb : ∀ k, S0 k → k < w.heap.size) (hd : ∀ k, S0 k → F0 k → False) :
   Calls Try.prog 63 [.slice pa0 pn0 pc0, I p1].toArray w fun e w' => ∃ v, e = .returned v ∧ v = I r.1 ∧ ∃ S', Stp w S0 w' S' ∧ Sep [sl90 (.slice pa0 pn0 pc0) r.2] w' S' := by
 unfold laws_markInsS at h
 obtain ⟨hpn, hs⟩ := hs.relen 0 rfl
 subst hpn
 have hs : Sep [sl90 (L pa0 p0 pc0) p0] w S0 := hs
 have hM0 : Mem w S0 (fun k => F0 k ∧ k < w.heap.size) w S0 (fun k => F0 k ∧ k < w.heap.size) := Mem.start hb (fun _ h => h.2) (fun k h1 h2 => hd k h1 h2.1)
 refine enter (N := 41) Try.func63 rfl Try.ntmps63 rfl fun fr hF => ?_
 refine wp_seq (wp_pure [(0, L pa0 p0 pc0), (1, I p1)] hF (by kernel_rfl) fun fr hF => then_normal ?_)
 refine wp_seq ?_
 refine wp_seq (wp_pure [(0, L pa0 p0 pc0), (1, I p1), (5, I 0)] hF (by kernel_rfl) fun fr hF => then_normal ?_)
 obtain ⟨rl1, hit1, h⟩ := bindE h
 have hk1 := h
 refine (GL.wp_cut (M := fun fr w' => ∃ S2 F2, FrS 41 [(1, I rl1.1)] fr ∧ Mem w S0 (fun k => F0 k ∧ k < w.heap.size) w' S2 F2 ∧ Sep [sl90 (L pa0 p0 pc0) rl1.2] w' S2) (wp_block (wp_iter (Inv := fun s1 fr w' => ∃ S1 F1, FrS 41 [(0, L pa0 p0 pc0), (1, I s1.1), (5, I s1.2.1)] fr ∧ Mem w S0 (fun k => F0 k ∧ k < w.heap.size) w' S1 F1 ∧ Sep [sl90 (L pa0 p0 pc0) s1.2.2] w' S1) hit1 ⟨S0, _, hF.sub _ (by kernel_rfl), (Mem.start hM0.bd hM0.bdF hM0.dj), hs⟩ fun s1 q1 fr w1i hI h hr1 => ?_)) fun fr w1o hM => ?_)
 · obtain ⟨S1, F1, hF, hM1, hs⟩ := hI
   refine wp_seq ?_
   refine wp_seq (wp_pure [(0, L pa0 p0 pc0), (1, I s1.1), (5, I s1.2.1), (9, .bool (decide (s1.2.1 < (len p0))))] hF (by kernel_rfl) fun fr hF => then_normal ?_)
   refine (wp_if hF (b := (decide (s1.2.1 < (len p0)))) rfl (fun hb => ?_) (fun hb => ?_))
   · replace h := iteT hb h
     refine (wp_skip (then_normal ?_))
     refine wp_seq (wp_block ?_)
     refine wp_seq (wp_text' ?_)
     refine from_pure 3 [(0, L pa0 p0 pc0), (1, I s1.1), (5, I s1.2.1), (12, L pa0 p0 pc0), (13, I s1.2.1), (14, I s1.1)] hF (by kernel_rfl) fun fr hF => ?_
     obtain ⟨x1, hx1, h⟩ := bindE h
     obtain ⟨x2, hx2, h⟩ := bindE h
     refine q_setField (q := x1) (q' := ({ x1 with Op := s1.1 } : D.Ins)) (off := 0) 0 hs hM1 rfl Try.underlying28 ty90 rfl rfl rfl rfl rfl hF rfl rfl rfl rfl (by kernel_rfl) rfl (by kernel_rfl) rfl hx1 rfl hx2 fun w1 S3 fr _ _ hs hp hF => ?_
     have hM1 := hM1.stp hp
     have hs : Sep [sl90 (L pa0 p0 pc0) x2] w1 S3 := hs
     refine from_end rfl (then_normal ?_)
     refine wp_seq (wp_pure [(0, L pa0 p0 pc0), (1, I (w64 (s1.1 + 1))), (5, I s1.2.1)] hF (by kernel_rfl) fun fr hF => then_normal ?_)
     refine wp_seq (wp_text' ?_)
     refine from_pure 3 [(0, L pa0 p0 pc0), (1, I (w64 (s1.1 + 1))), (5, I s1.2.1), (19, L pa0 p0 pc0), (20, I s1.2.1), (21, I (w64 (s1.1 + 1)))] hF (by kernel_rfl) fun fr hF => ?_
     obtain ⟨x3, hx3, h⟩ := bindE h
     obtain ⟨x4, hx4, h⟩ := bindE h
     refine q_setField (q := x3) (q' := ({ x3 with A := (w64 (s1.1 + 1)) } : D.Ins)) (off := 1) 0 hs hM1 rfl Try.underlying28 ty90 rfl rfl rfl rfl rfl hF rfl rfl rfl rfl (by kernel_rfl) rfl (by kernel_rfl) rfl hx3 rfl hx4 fun w2 S4 fr _ _ hs hp hF => ?_
     have hM1 := hM1.stp hp
     have hs : Sep [sl90 (L pa0 p0 pc0) x4] w2 S4 := hs
     refine from_end rfl (then_normal ?_)
     refine wp_seq (wp_pure [(0, L pa0 p0 pc0), (1, I (w64 ((w64 (s1.1 + 1)) + 1))), (5, I s1.2.1)] hF (by kernel_rfl) fun fr hF => then_normal ?_)
     refine wp_seq (wp_text' ?_)
     refine from_pure 3 [(0, L pa0 p0 pc0), (1, I (w64 ((w64 (s1.1 + 1)) + 1))), (5, I s1.2.1), (26, L pa0 p0 pc0), (27, I s1.2.1), (28, I (w64 ((w64 (s1.1 + 1)) + 1)))] hF (by kernel_rfl) fun fr hF => ?_
     obtain ⟨x5, hx5, h⟩ := bindE h
     obtain ⟨x6, hx6, h⟩ := bindE h
     refine q_setField (q := x5) (q' := ({ x5 with B := (w64 ((w64 (s1.1 + 1)) + 1)) } : D.Ins)) (off := 2) 0 hs hM1 rfl Try.underlying28 ty90 rfl rfl rfl rfl rfl hF rfl rfl rfl rfl (by kernel_rfl) rfl (by kernel_rfl) rfl hx5 rfl hx6 fun w3 S5 fr _ _ hs hp hF => ?_
     have hM1 := hM1.stp hp
     have hs : Sep [sl90 (L pa0 p0 pc0) x6] w3 S5 := hs
     refine from_end rfl (then_normal ?_)
     refine wp_seq (wp_pure [(0, L pa0 p0 pc0), (1, I (w64 ((w64 ((w64 (s1.1 + 1)) + 1)) + 1))), (5, I s1.2.1)] hF (by kernel_rfl) fun fr hF => then_normal ?_)
     refine wp_seq (wp_text' ?_)
     refine from_pure 3 [(0, L pa0 p0 pc0), (1, I (w64 ((w64 ((w64 (s1.1 + 1)) + 1)) + 1))), (5, I s1.2.1), (33, L pa0 p0 pc0), (34, I s1.2.1), (35, I (w64 ((w64 ((w64 (s1.1 + 1)) + 1)) + 1)))] hF (by kernel_rfl) fun fr hF => ?_
     obtain ⟨x7, hx7, h⟩ := bindE h
     obtain ⟨x8, hx8, h⟩ := bindE h
     refine q_setField (q := x7) (q' := ({ x7 with C := (w64 ((w64 ((w64 (s1.1 + 1)) + 1)) + 1)) } : D.Ins)) (off := 3) 0 hs hM1 rfl Try.underlying28 ty90 rfl rfl rfl rfl rfl hF rfl rfl rfl rfl (by kernel_rfl) rfl (by kernel_rfl) rfl hx7 rfl hx8 fun w4 S6 fr _ _ hs hp hF => ?_
     have hM1 := hM1.stp hp
     have hs : Sep [sl90 (L pa0 p0 pc0) x8] w4 S6 := hs
     refine from_end rfl (then_normal ?_)
     refine (wp_pure [(0, L pa0 p0 pc0), (1, I (w64 ((w64 ((w64 ((w64 (s1.1 + 1)) + 1)) + 1)) + 1))), (5, I s1.2.1)] hF (by kernel_rfl) fun fr hF => ?_)
     refine blk_normal (then_normal ?_)
     refine (wp_pure [(0, L pa0 p0 pc0), (1, I (w64 ((w64 ((w64 ((w64 (s1.1 + 1)) + 1)) + 1)) + 1))), (5, I (w64 (s1.2.1 + 1)))] hF (by kernel_rfl) fun fr hF => then_normal ?_)
     exact ⟨_, (Option.some.inj h).symm, S6, _, hF.sub _ (by kernel_rfl), hM1, hs⟩
   replace h := iteF hb h
   refine (wp_exit (then_exit (then_exit (blk_exit_eq ?_))))
   obtain rfl := hr1 _ (Option.some.inj h).symm
   exact then_normal ⟨S1, _, hF.sub _ (by kernel_rfl), hM1, hs⟩
 · obtain ⟨S2, F2, hF, hMx, hs⟩ := hM
   have hM0 := hM0.trans hMx
   refine wp_seq (wp_pure [(4, I rl1.1)] hF (by kernel_rfl) fun fr hF => then_normal ?_)
   obtain rfl := Option.some.inj h
   exact wp_ret (ret1 rfl hF rfl ⟨_, rfl, rfl, S2, hM0.out, hs⟩)

theorem laws_markProgram_ok (n : Nat) (p0 : D.Program) (p1 : Int) {r : Int × D.Program} (h : laws_markProgram n p0 p1 = some r) {w : World} {S0 F0 : Nat → Prop} {pa0 : Option Addr} {pn0 pc0 : Nat} (hs : Sep [sl90 (.slice pa0 pn0 pc0) p0.Code] w S0) (hb : ∀ k, S0 k → k < w.heap.size) (hd : ∀ k, S0 k → F0 k → False) :
   Calls Try.prog 17 [.agg #[I p0.W, I p0.Mem, I p0.In, .slice pa0 pn0 pc0], I p1].toArray w fun e w' => ∃ v, e = .returned v ∧ v = I r.1 ∧ ∃ S', Stp w S0 w' S' ∧ Sep [sl90 (.slice pa0 pn0 pc0) r.2.Code] w' S' := by
 unfold laws_markProgram at h
 obtain ⟨hpn, hs⟩ := hs.relen 0 rfl
 subst hpn
 have hs : Sep [sl90 (L pa0 p0.Code pc0) p0.Code] w S0 := hs
 have hM0 : Mem w S0 (fun k => F0 k ∧ k < w.heap.size) w S0 (fun k => F0 k ∧ k < w.heap.size) := Mem.start hb (fun _ h => h.2) (fun k h1 h2 => hd k h1 h2.1)
 refine enter (N := 10) Try.func17 rfl Try.ntmps17 rfl fun fr hF => ?_
 refine wp_seq (wp_text' ?_)
 refine q_box hs hM0 [I p0.W, I p0.Mem, I p0.In, L pa0 p0.Code pc0] rfl rfl hF rfl rfl fun b1 w1 S1 fr hs hp hF => ?_
 have hM0 := hM0.stp hp
 have hs : Sep [BX b1 30 [I p0.W, I p0.Mem, I p0.In, L pa0 p0.Code pc0], sl90 (L pa0 p0.Code pc0) p0.Code] w1 S1 := hs
 refine from_pure 1 [(1, I p1), (2, B b1 0)] hF (by kernel_rfl) fun fr hF => ?_
 refine from_end rfl (then_normal ?_)
 refine wp_seq (wp_text' ?_)
 refine from_pure 1 [(1, I p1), (5, B b1 3)] hF (by kernel_rfl) fun fr hF => ?_
 refine s_loadBox (L pa0 p0.Code pc0) ty28 rfl rfl hF rfl (hs.bx 0 rfl) rfl rfl fun fr hF => ?_
 have hs : Sep [sl90 (L pa0 p0.Code pc0) p0.Code] w1 S1 := Sep.pick [1] hs (by decide) rfl
 refine from_pure 1 [(6, L pa0 p0.Code pc0), (7, I p1)] hF (by kernel_rfl) fun fr hF => ?_
 obtain ⟨x1, hx1, h⟩ := bindE h
 obtain ⟨A1, R1, hsA, hsR, hdA, hbA, hup⟩ := Sep.call (L1 := [sl90 (L pa0 p0.Code pc0) p0.Code]) (L2 := []) hs hM0
 refine s_call [L pa0 p0.Code pc0, I p1] Try.call63 rfl rfl hF rfl (laws_markInsS_ok n p0.Code p1 hx1 hsA hbA hdA) fun v w2 fr hRes hF => ?_
 obtain ⟨rfl, _, hp, hs⟩ := hRes
 obtain ⟨S2, hp, hs⟩ := hup hp hs
 have hM0 := hM0.stp hp
 have hs : Sep [sl90 (L pa0 p0.Code pc0) x1.2] w2 S2 := hs
 refine from_pure 1 [(1, I x1.1)] hF (by kernel_rfl) fun fr hF => ?_
 refine from_end rfl (then_normal ?_)
 refine wp_seq (wp_pure [(4, I x1.1)] hF (by kernel_rfl) fun fr hF => then_normal ?_)
 obtain rfl := Option.some.inj h
 exact wp_ret (ret1 rfl hF rfl ⟨_, rfl, rfl, S2, hM0.out, hs⟩)

theorem laws_markIntS_ok (n : Nat) (p0 : List Int) (p1 : Int) {r : Int × (List Int)} (h : laws_markIntS n p0 p1 = some r) {w : World} {S0 F0 : Nat → Prop} {pa0 : Option Addr} {pn0 pc0 : Nat} (hs : Sep [sl3 (.slice pa0 pn0 pc0) p0] w S0) (hb : ∀ k, S0 k → k < w.heap.size) (hd : ∀ k, S0 k → F0 k → False) :
   Calls Try.prog 18 [.slice pa0 pn0 pc0, I p1].toArray w fun e w' => ∃ v, e = .returned v ∧ v = I r.1 ∧ ∃ S', Stp w S0 w' S' ∧ Sep [sl3 (.slice pa0 pn0 pc0) r.2] w' S' := by
 unfold laws_markIntS at h
 obtain ⟨hpn, hs⟩ := hs.relen 0 rfl
 subst hpn
 have hs : Sep [sl3 (L pa0 p0 pc0) p0] w S0 := hs
 have hM0 : Mem w S0 (fun k => F0 k ∧ k < w.heap.size) w S0 (fun k => F0 k ∧ k < w.heap.size) := Mem.start hb (fun _ h => h.2) (fun k h1 h2 => hd k h1 h2.1)
 refine enter (N := 19) Try.func18 rfl Try.ntmps18 rfl fun fr hF => ?_
 refine wp_seq (wp_pure [(0, L pa0 p0 pc0), (1, I p1)] hF (by kernel_rfl) fun fr hF => then_normal ?_)
 refine wp_seq ?_
 refine wp_seq (wp_pure [(0, L pa0 p0 pc0), (1, I p1), (5, I 0)] hF (by kernel_rfl) fun fr hF => then_normal ?_)
 obtain ⟨rl1, hit1, h⟩ := bindE h
 have hk1 := h
 refine (GL.wp_cut (M := fun fr w' => ∃ S2 F2, FrS 19 [(1, I rl1.1)] fr ∧ Mem w S0 (fun k => F0 k ∧ k < w.heap.size) w' S2 F2 ∧ Sep [sl3 (L pa0 p0 pc0) rl1.2] w' S2) (wp_block (wp_iter (Inv := fun s1 fr w' => ∃ S1 F1, FrS 19 [(0, L pa0 p0 pc0), (1, I s1.1), (5, I s1.2.1)] fr ∧ Mem w S0 (fun k => F0 k ∧ k < w.heap.size) w' S1 F1 ∧ Sep [sl3 (L pa0 p0 pc0) s1.2.2] w' S1) hit1 ⟨S0, _, hF.sub _ (by kernel_rfl), (Mem.start hM0.bd hM0.bdF hM0.dj), hs⟩ fun s1 q1 fr w1i hI h hr1 => ?_)) fun fr w1o hM => ?_)
 · obtain ⟨S1, F1, hF, hM1, hs⟩ := hI
   refine wp_seq ?_
   refine wp_seq (wp_pure [(0, L pa0 p0 pc0), (1, I s1.1), (5, I s1.2.1), (9, .bool (decide (s1.2.1 < (len p0))))] hF (by kernel_rfl) fun fr hF => then_normal ?_)
   refine (wp_if hF (b := (decide (s1.2.1 < (len p0)))) rfl (fun hb => ?_) (fun hb => ?_))
   · replace h := iteT hb h
     refine (wp_skip (then_normal ?_))
     refine wp_seq (wp_block ?_)
     refine wp_seq (wp_text' ?_)
     refine from_pure 3 [(0, L pa0 p0 pc0), (1, I s1.1), (5, I s1.2.1), (12, L pa0 p0 pc0), (13, I s1.2.1), (14, I s1.1)] hF (by kernel_rfl) fun fr hF => ?_
     obtain ⟨x1, hx1, h⟩ := bindE h
     refine q_set (q := s1.1) 0 hs hM1 rfl Try.underlying26 ty3 rfl rfl rfl rfl hF rfl rfl (by simp) rfl rfl hx1 fun w1 S3 fr _ hs hp hF => ?_
     have hM1 := hM1.stp hp
     have hs : Sep [sl3 (L pa0 p0 pc0) x1] w1 S3 := hs
     refine from_end rfl (then_normal ?_)
     refine (wp_pure [(0, L pa0 p0 pc0), (1, I (w64 (s1.1 + 1))), (5, I s1.2.1)] hF (by kernel_rfl) fun fr hF => ?_)
     refine blk_normal (then_normal ?_)
     refine (wp_pure [(0, L pa0 p0 pc0), (1, I (w64 (s1.1 + 1))), (5, I (w64 (s1.2.1 + 1)))] hF (by kernel_rfl) fun fr hF => then_normal ?_)
     exact ⟨_, (Option.some.inj h).symm, S3, _, hF.sub _ (by kernel_rfl), hM1, hs⟩
   replace h := iteF hb h
   refine (wp_exit (then_exit (then_exit (blk_exit_eq ?_))))
   obtain rfl := hr1 _ (Option.some.inj h).symm
   exact then_normal ⟨S1, _, hF.sub _ (by kernel_rfl), hM1, hs⟩
 · obtain ⟨S2, F2, hF, hMx, hs⟩ := hM
   have hM0 := hM0.trans hMx
   refine wp_seq (wp_pure [(4, I rl1.1)] hF (by kernel_rfl) fun fr hF => then_normal ?_)
   obtain rfl := Option.some.inj h
   exact wp_ret (ret1 rfl hF rfl ⟨_, rfl, rfl, S2, hM0.out, hs⟩)

theorem laws_heldIntS_ok (n : Nat) (p0 : List Int) (p1 : Int) {r : Int} (h : laws_heldIntS n p0 p1 = some r) {w : World} {G0 : Nat → Prop} {va0 : Value} (ra0 : RV w G0 va0 p0) :
   Calls Try.prog 19 [va0, I p1].toArray w fun e w' => ∃ v, e = .returned v ∧ v = I r ∧ Chg Non w w' := by
 unfold laws_heldIntS at h
 have hs := Sep.nil w Non
 have hM0 : Mem w Non (fun k => (G0 k) ∧ k < w.heap.size) w Non (fun k => (G0 k) ∧ k < w.heap.size) := Mem.start (fun _ h => h.elim) (fun _ h => h.2) (fun _ h => h.elim)
 have ra0 := ra0.sub (F' := (fun k => (G0 k) ∧ k < w.heap.size)) (fun k hk h => ⟨h, hk⟩)
 obtain ⟨a1, c1, rfl, -⟩ := ra0.slice
 refine enter (N := 21) Try.func19 rfl Try.ntmps19 rfl fun fr hF => ?_
 refine wp_seq (wp_pure [(0, L a1 p0 c1), (1, I p1)] hF (by kernel_rfl) fun fr hF => then_normal ?_)
 refine wp_seq ?_
 refine wp_seq (wp_pure [(0, L a1 p0 c1), (1, I p1), (5, I 0)] hF (by kernel_rfl) fun fr hF => then_normal ?_)
 obtain ⟨rl1, hit1, h⟩ := bindE h
 have hk1 := h
 refine (GL.wp_cut (M := fun fr w' => ∃ s, rl1 = .inl s ∧ ∃ S2 F2, FrS 21 [(1, I s)] fr ∧ Mem w Non (fun k => (G0 k) ∧ k < w.heap.size) w' S2 F2 ∧ Sep [] w' S2) (wp_block (wp_iter (Inv := fun s1 fr w' => ∃ S1 F1, FrS 21 [(0, L a1 p0 c1), (1, I s1.1), (5, I s1.2)] fr ∧ Mem w Non (fun k => (G0 k) ∧ k < w.heap.size) w' S1 F1 ∧ Sep [] w' S1) hit1 ⟨Non, _, hF.sub _ (by kernel_rfl), (Mem.start hM0.bd hM0.bdF hM0.dj), hs⟩ fun s1 q1 fr w1i hI h hr1 => ?_)) fun fr w1o hM => ?_)
 · obtain ⟨S1, F1, hF, hM1, hs⟩ := hI
   have ra0 := ra0.mem hM1
   refine wp_seq ?_
   refine wp_seq (wp_pure [(0, L a1 p0 c1), (1, I s1.1), (5, I s1.2), (9, .bool (decide (s1.2 < (len p0))))] hF (by kernel_rfl) fun fr hF => then_normal ?_)
   refine (wp_if hF (b := (decide (s1.2 < (len p0)))) rfl (fun hb => ?_) (fun hb => ?_))
   · replace h := iteT hb h
     refine (wp_skip (then_normal ?_))
     refine wp_seq (wp_block ?_)
     refine wp_seq ?_
     refine wp_seq (wp_text' ?_)
     refine from_pure 2 [(0, L a1 p0 c1), (1, I s1.1), (5, I s1.2), (12, L a1 p0 c1), (13, I s1.2)] hF (by kernel_rfl) fun fr hF => ?_
     obtain ⟨x1, hx1, h⟩ := bindE h
     refine s_elemF (z := x1) (I x1) ty3 Try.underlying26 rfl rfl rfl rfl rfl hF rfl (ra0) rfl (get?_nn hx1) (get?_at hx1) rfl fun p fr hF => ?_
     refine from_pure 2 [(0, L a1 p0 c1), (1, I s1.1), (5, I s1.2), (17, .bool (x1 != s1.1))] hF (by kernel_rfl) fun fr hF => ?_
     refine from_end rfl (then_normal ?_)
     refine (wp_if hF (b := (x1 != s1.1)) rfl (fun hb => ?_) (fun hb => ?_))
     · replace h := iteT hb h
       refine wp_seq (wp_pure [(4, I (-1))] hF (by kernel_rfl) fun fr hF => then_normal ?_)
       obtain rfl := hr1 _ (Option.some.inj h).symm
       obtain rfl := Option.some.inj hk1
       exact wp_ret (then_ret (blk_ret (then_ret (then_ret (blk_ret (then_ret (ret1 rfl hF rfl ⟨_, rfl, rfl, (hM0.trans hM1).chg⟩)))))))
     replace h := iteF hb h
     refine (wp_skip (then_normal ?_))
     refine (wp_pure [(0, L a1 p0 c1), (1, I (w64 (s1.1 + 1))), (5, I s1.2)] hF (by kernel_rfl) fun fr hF => ?_)
     refine blk_normal (then_normal ?_)
     refine (wp_pure [(0, L a1 p0 c1), (1, I (w64 (s1.1 + 1))), (5, I (w64 (s1.2 + 1)))] hF (by kernel_rfl) fun fr hF => then_normal ?_)
     exact ⟨_, (Option.some.inj h).symm, S1, _, hF.sub _ (by kernel_rfl), hM1, hs⟩
   replace h := iteF hb h
   refine (wp_exit (then_exit (then_exit (blk_exit_eq ?_))))
   obtain rfl := hr1 _ (Option.some.inj h).symm
   exact then_normal ⟨_, rfl, S1, _, hF.sub _ (by kernel_rfl), hM1, hs⟩
 · obtain ⟨s1r, rfl, hM⟩ := hM
   obtain ⟨S2, F2, hF, hMx, hs⟩ := hM
   have hM0 := hM0.trans hMx
   refine wp_seq (wp_pure [(4, I s1r)] hF (by kernel_rfl) fun fr hF => then_normal ?_)
   obtain rfl := Option.some.inj h
   exact wp_ret (ret1 rfl hF rfl ⟨_, rfl, rfl, hM0.chg⟩)

theorem laws_FnExactLoopHeads_ok (n : Nat) (p0 : D.Program) {r : Bool} (h : laws_FnExactLoopHeads n p0 = some r) {w : World} {G0 : Nat → Prop} {va0 : Value} (ra0 : RV w G0 va0 p0) :
   Calls Try.prog 5 [va0].toArray w fun e w' => ∃ v, e = .returned v ∧ v = .bool r ∧ Chg Non w w' := by
 unfold laws_FnExactLoopHeads at h
 have hs := Sep.nil w Non
 have hM0 : Mem w Non (fun k => (G0 k) ∧ k < w.heap.size) w Non (fun k => (G0 k) ∧ k < w.heap.size) := Mem.start (fun _ h => h.elim) (fun _ h => h.2) (fun _ h => h.elim)
 have ra0 := ra0.sub (F' := (fun k => (G0 k) ∧ k < w.heap.size)) (fun k hk h => ⟨h, hk⟩)
 obtain ⟨v1, rfl, r1⟩ := RV.Program ra0
 obtain ⟨a1, c1, rfl, -⟩ := r1.slice
 refine enter (N := 69) Try.func5 rfl Try.ntmps5 rfl fun fr hF => ?_
 refine wp_seq (wp_text' ?_)
 refine q_box hs hM0 [I p0.W, I p0.Mem, I p0.In, L a1 p0.Code c1] rfl rfl hF rfl rfl fun b1 w1 S1 fr hs hp hF => ?_
 have r1 := r1.stp hM0 hp
 have hM0 := hM0.stp hp
 have hs : Sep [BX b1 24 [I p0.W, I p0.Mem, I p0.In, L a1 p0.Code c1]] w1 S1 := hs
 refine from_pure 1 [(1, B b1 0)] hF (by kernel_rfl) fun fr hF => ?_
 refine from_end rfl (then_normal ?_)
 refine wp_seq (wp_pure [(1, B b1 0), (3, I 1048576)] hF (by kernel_rfl) fun fr hF => then_normal ?_)
 refine wp_seq (wp_text' ?_)
 refine s_loadBoxS ty24 rfl rfl hF rfl (hs.bx 0 rfl) rfl rfl fun fr hF => ?_
 refine from_pure 1 [(1, B b1 0), (11, .agg #[I p0.W, I p0.Mem, I p0.In, L a1 p0.Code c1]), (12, I 1048576)] hF (by kernel_rfl) fun fr hF => ?_
 obtain ⟨x1, hx1, h⟩ := bindE h
 refine s_call [.agg #[I p0.W, I p0.Mem, I p0.In, L a1 p0.Code c1], I 1048576] Try.call11 rfl rfl hF rfl (laws_szProgram_ok p0 1048576 hx1 (RV.mk_Program p0 (r1))) fun v w2 fr hRes hF => ?_
 obtain ⟨rfl, hc⟩ := hRes
 have r1 := r1.ext hc
 have hs := hs.ext hc
 have hM0 := hM0.ext hc
 refine from_pure 1 [(1, B b1 0), (3, I x1)] hF (by kernel_rfl) fun fr hF => ?_
 refine from_end rfl (then_normal ?_)
 refine wp_seq ?_
 refine wp_seq (wp_pure [(1, B b1 0), (15, .bool (decide (x1 < 0)))] hF (by kernel_rfl) fun fr hF => then_normal ?_)
 refine (wp_if hF (b := (decide (x1 < 0))) rfl (fun hb => ?_) (fun hb => ?_))
 · replace h := iteT hb h
   have hs : Sep [] w2 S1 := Sep.pick [] hs (by decide) rfl
   refine wp_seq (wp_pure [(2, .bool true)] hF (by kernel_rfl) fun fr hF => then_normal ?_)
   obtain rfl := Option.some.inj h
   exact wp_ret (then_ret (ret1 rfl hF rfl ⟨_, rfl, rfl, hM0.chg⟩))
 replace h := iteF hb h
 refine (wp_skip (then_normal ?_))
 refine wp_seq (wp_text' ?_)
 refine s_loadBoxS ty24 rfl rfl hF rfl (hs.bx 0 rfl) rfl rfl fun fr hF => ?_
 obtain ⟨x2, hx2, h⟩ := bindE h
 refine s_call [.agg #[I p0.W, I p0.Mem, I p0.In, L a1 p0.Code c1]] Try.call13 rfl rfl hF rfl (laws_toProgram_ok n p0 hx2 (RV.mk_Program p0 (r1))) fun v w3 fr hRes hF => ?_
 obtain ⟨a2, c2, rfl, _, hp, hs2⟩ := hRes
 obtain ⟨S2, hp, hs⟩ := hs.got hM0 hp hs2
 have r1 := r1.stp hM0 hp
 have hM0 := hM0.stp hp
 have hs : Sep [sl90 (L a2 x2.Code c2) x2.Code, BX b1 24 [I p0.W, I p0.Mem, I p0.In, L a1 p0.Code c1]] w3 S2 := hs
 obtain ⟨x3, hx3, h⟩ := bindE h
 refine s_call [.agg #[I x2.W, I x2.Mem, I x2.In, L a2 x2.Code c2]] Try.call22 rfl rfl hF rfl (spec_LoopHeads_ok n x2 hx3 (RV.mk_Program x2 (RV.any (hs.rv 0 rfl)))) fun v w4 fr hRes hF => ?_
 obtain ⟨a3, c3, rfl, _, hp, hs2⟩ := hRes
 obtain ⟨S3, hp, hs⟩ := hs.got hM0 hp hs2
 have r1 := r1.stp hM0 hp
 have hM0 := hM0.stp hp
 have hs : Sep [sl3 (L a3 x3 c3) x3, sl90 (L a2 x2.Code c2) x2.Code, BX b1 24 [I p0.W, I p0.Mem, I p0.In, L a1 p0.Code c1]] w4 S3 := hs
 have hs : Sep [sl3 (L a3 x3 c3) x3, BX b1 24 [I p0.W, I p0.Mem, I p0.In, L a1 p0.Code c1]] w4 S3 := Sep.pick [0, 2] hs (by decide) rfl
 refine from_pure 1 [(1, B b1 0), (4, L a3 x3 c3)] hF (by kernel_rfl) fun fr hF => ?_
 refine from_end rfl (then_normal ?_)
 refine wp_seq (wp_text' ?_)
 refine s_loadBoxS ty24 rfl rfl hF rfl (hs.bx 1 rfl) rfl rfl fun fr hF => ?_
 obtain ⟨x4, hx4, h⟩ := bindE h
 refine s_call [.agg #[I p0.W, I p0.Mem, I p0.In, L a1 p0.Code c1]] Try.call13 rfl rfl hF rfl (laws_toProgram_ok n p0 hx4 (RV.mk_Program p0 (r1))) fun v w5 fr hRes hF => ?_
 obtain ⟨a4, c4, rfl, _, hp, hs2⟩ := hRes
 obtain ⟨S4, hp, hs⟩ := hs.got hM0 hp hs2
 have r1 := r1.stp hM0 hp
 have hM0 := hM0.stp hp
 have hs : Sep [sl90 (L a4 x4.Code c4) x4.Code, sl3 (L a3 x3 c3) x3, BX b1 24 [I p0.W, I p0.Mem, I p0.In, L a1 p0.Code c1]] w5 S4 := hs
 refine q_alloc (z := .agg #[I 0, I 0, I 0, L none ([] : List D.Ins) 0]) hs hM0 [I 0, I 0, I 0, L none ([] : List D.Ins) 0] rfl rfl hF (by kernel_rfl) rfl fun b2 w6 S5 fr hs hp hF => ?_
 have r1 := r1.stp hM0 hp
 have hM0 := hM0.stp hp
 have hs : Sep [BX b2 30 [I 0, I 0, I 0, L none ([] : List D.Ins) 0], sl90 (L a4 x4.Code c4) x4.Code, sl3 (L a3 x3 c3) x3, BX b1 24 [I p0.W, I p0.Mem, I p0.In, L a1 p0.Code c1]] w6 S5 := hs
 refine q_storeBoxS 0 hs hM0 rfl [I x4.W, I x4.Mem, I x4.In, L a4 x4.Code c4] rfl hF rfl rfl (by kernel_rfl) rfl rfl rfl fun w7 S6 hs hp hF => ?_
 have r1 := r1.stp hM0 hp
 have hM0 := hM0.stp hp
 have hs : Sep [BX b2 30 [I x4.W, I x4.Mem, I x4.In, L a4 x4.Code c4], sl90 (L a4 x4.Code c4) x4.Code, sl3 (L a3 x3 c3) x3, BX b1 24 [I p0.W, I p0.Mem, I p0.In, L a1 p0.Code c1]] w7 S6 := hs
 refine from_end rfl (then_normal ?_)
 refine wp_seq (wp_text' ?_)
 refine s_loadBoxS ty30 rfl rfl hF rfl (hs.bx 0 rfl) rfl rfl fun fr hF => ?_
 obtain ⟨x5, hx5, h⟩ := bindE h
 refine s_call [.agg #[I x4.W, I x4.Mem, I x4.In, L a4 x4.Code c4]] Try.call23 rfl rfl hF rfl (impl_LoopHeads_ok n x4 hx5 (RV.mk_Program x4 (RV.any (hs.rv 1 rfl)))) fun v w8 fr hRes hF => ?_
 obtain ⟨a5, c5, rfl, _, hp, hs2⟩ := hRes
 obtain ⟨S7, hp, hs⟩ := hs.got hM0 hp hs2
 have r1 := r1.stp hM0 hp
 have hM0 := hM0.stp hp
 have hs : Sep [sl3 (L a5 x5 c5) x5, BX b2 30 [I x4.W, I x4.Mem, I x4.In, L a4 x4.Code c4], sl90 (L a4 x4.Code c4) x4.Code, sl3 (L a3 x3 c3) x3, BX b1 24 [I p0.W, I p0.Mem, I p0.In, L a1 p0.Code c1]] w8 S7 := hs
 refine from_pure 1 [(1, B b1 0), (4, L a3 x3 c3), (5, B b2 0), (6, L a5 x5 c5)] hF (by kernel_rfl) fun fr hF => ?_
 refine from_end rfl (then_normal ?_)
 refine wp_seq ?_
 refine wp_seq (wp_text' ?_)
 refine from_pure 2 [(1, B b1 0), (4, L a3 x3 c3), (5, B b2 0), (6, L a5 x5 c5), (23, L a5 x5 c5), (24, L a3 x3 c3)] hF (by kernel_rfl) fun fr hF => ?_
 obtain ⟨x6, hx6, h⟩ := bindE h
 refine s_call [L a5 x5 c5, L a3 x3 c3] Try.call15 rfl rfl hF rfl (laws_eqIntS_ok n x5 x3 hx6 (hs.rv 0 rfl) (hs.rv 3 rfl)) fun v w9 fr hRes hF => ?_
 obtain ⟨rfl, hc⟩ := hRes
 have r1 := r1.ext hc
 have hs := hs.ext hc
 have hM0 := hM0.ext hc
 refine from_pure 1 [(1, B b1 0), (4, L a3 x3 c3), (5, B b2 0), (6, L a5 x5 c5), (26, .bool (!x6))] hF (by kernel_rfl) fun fr hF => ?_
 refine from_end rfl (then_normal ?_)
 refine (wp_if hF (b := (!x6)) rfl (fun hb => ?_) (fun hb => ?_))
 · replace h := iteT hb h
   have hs : Sep [] w9 S7 := Sep.pick [] hs (by decide) rfl
   refine wp_seq (wp_pure [(2, .bool false)] hF (by kernel_rfl) fun fr hF => then_normal ?_)
   obtain rfl := Option.some.inj h
   exact wp_ret (then_ret (ret1 rfl hF rfl ⟨_, rfl, rfl, hM0.chg⟩))
 replace h := iteF hb h
 refine (wp_skip (then_normal ?_))
 refine wp_seq ?_
 obtain ⟨x7, hx7, h⟩ := bindE h
 obtain ⟨x8, hx8, h⟩ := bindE h
 refine wp_seq (region_bm 5 [0, 0, 2, 7, 15] [false, false, false, false, true]
     [.eq (.agg #[I x4.W, I x4.Mem, I x4.In, L a4 x4.Code c4]), .eq (.agg #[I p0.W, I p0.Mem, I p0.In, L a1 p0.Code c1]), .is fun v w => RV w (fun k => k < w.heap.size) v (x7 : D.Program), .eq (.bool x8), .eq (.bool (!x8))]
     [(1, B b1 0), (4, L a3 x3 c3), (5, B b2 0), (6, L a5 x5 c5), (31, .bool (!x8))] mix hF (by kernel_rfl) (by kernel_rfl) (by kernel_rfl) (by kernel_rfl) ⟨Pd.monoO_eq, Pd.monoO_eq, (Pd.monoO_is mono_rvb), Pd.monoO_eq, trivial⟩ (fun ow hG => ⟨np_to ow (np_loadBoxS hG hF ty30 rfl rfl (hs.bx 1 rfl) rfl rfl rfl rfl), np_to ow (np_loadBoxS hG hF ty24 rfl rfl (hs.bx 4 rfl) rfl rfl rfl rfl), np_to ow (np_callI [.inl (.agg #[I p0.W, I p0.Mem, I p0.In, L a1 p0.Code c1])] hG hF Try.call13 rfl rfl (by kernel_rfl) (fun w vs hC hg ha => by obtain ⟨_, rfl, rfl⟩ := ha; exact (laws_toProgram_ok n p0 hx7 ((RV.mk_Program p0 (r1)).ext hC)).mono fun e w' ⟨v, he, a0, c0, hv, _, hp, ho⟩ => ⟨_, he, hp.chg, by rw [hv]; exact (show RV w' (fun k => k < w'.heap.size) _ (x7 : D.Program) from RV.mk_Program x7 ((ho.rv 0 rfl).sub fun k hk _ => hk))⟩)), np_to ow (np_callI [.inl (.agg #[I x4.W, I x4.Mem, I x4.In, L a4 x4.Code c4]), .inr 2] hG hF Try.call16 rfl rfl (by kernel_rfl) (fun w vs hC hg ha => by obtain ⟨_, rfl, vq1, _, rfl, hq1, rfl⟩ := ha; exact (laws_eqProgram_ok n x4 x7 hx8 ((RV.mk_Program x4 (RV.any (hs.rv 2 rfl))).ext hC) (show RV w (fun k => k < w.heap.size) vq1 x7 from hq1)).mono fun e w' ⟨v, he, hv, hc⟩ => ⟨v, he, hc, hv⟩)), trivial⟩) (by kernel_rfl) fun ow fr w10 hF hE hc => ?_)
 have r1 := r1.ext hc
 have hs := hs.ext hc
 have hM0 := hM0.ext hc
 refine from_end rfl (then_normal ?_)
 refine (wp_if hF (b := (!x8)) rfl (fun hb => ?_) (fun hb => ?_))
 · replace h := iteT hb h
   have hs : Sep [] w10 S7 := Sep.pick [] hs (by decide) rfl
   refine wp_seq (wp_pure [(2, .bool false)] hF (by kernel_rfl) fun fr hF => then_normal ?_)
   obtain rfl := Option.some.inj h
   exact wp_ret (then_ret (ret1 rfl hF rfl ⟨_, rfl, rfl, hM0.chg⟩))
 replace h := iteF hb h
 refine (wp_skip (then_normal ?_))
 refine wp_seq (wp_pure [(1, B b1 0), (4, L a3 x3 c3), (5, B b2 0), (6, L a5 x5 c5), (7, I 1)] hF (by kernel_rfl) fun fr hF => then_normal ?_)
 refine wp_seq (wp_text' ?_)
 refine s_loadBoxS ty30 rfl rfl hF rfl (hs.bx 1 rfl) rfl rfl fun fr hF => ?_
 have hs : Sep [sl3 (L a5 x5 c5) x5, sl90 (L a4 x4.Code c4) x4.Code, sl3 (L a3 x3 c3) x3, BX b1 24 [I p0.W, I p0.Mem, I p0.In, L a1 p0.Code c1]] w10 S7 := Sep.pick [0, 2, 3, 4] hs (by decide) rfl
 refine from_pure 1 [(1, B b1 0), (4, L a3 x3 c3), (6, L a5 x5 c5), (32, .agg #[I x4.W, I x4.Mem, I x4.In, L a4 x4.Code c4]), (33, I 1)] hF (by kernel_rfl) fun fr hF => ?_
 obtain ⟨x9, hx9, h⟩ := bindE h
 have hs : Sep [sl90 (L a4 x4.Code c4) x4.Code, sl3 (L a5 x5 c5) x5, sl3 (L a3 x3 c3) x3, BX b1 24 [I p0.W, I p0.Mem, I p0.In, L a1 p0.Code c1]] w10 S7 := Sep.pick [1, 0, 2, 3] hs (by decide) rfl
 obtain ⟨A1, R1, hsA, hsR, hdA, hbA, hup⟩ := Sep.call (L1 := [sl90 (L a4 x4.Code c4) x4.Code]) (L2 := [sl3 (L a5 x5 c5) x5, sl3 (L a3 x3 c3) x3, BX b1 24 [I p0.W, I p0.Mem, I p0.In, L a1 p0.Code c1]]) hs hM0
 refine s_call [.agg #[I x4.W, I x4.Mem, I x4.In, L a4 x4.Code c4], I 1] Try.call17 rfl rfl hF rfl (laws_markProgram_ok n x4 1 hx9 hsA hbA hdA) fun v w11 fr hRes hF => ?_
 obtain ⟨rfl, _, hp, hs⟩ := hRes
 obtain ⟨S8, hp, hs⟩ := hup hp hs
 have r1 := r1.stp hM0 hp
 have hM0 := hM0.stp hp
 have hs : Sep [sl90 (L a4 x4.Code c4) x9.2.Code, sl3 (L a5 x5 c5) x5, sl3 (L a3 x3 c3) x3, BX b1 24 [I p0.W, I p0.Mem, I p0.In, L a1 p0.Code c1]] w11 S8 := hs
 have hs : Sep [sl3 (L a5 x5 c5) x5, sl3 (L a3 x3 c3) x3, BX b1 24 [I p0.W, I p0.Mem, I p0.In, L a1 p0.Code c1]] w11 S8 := Sep.pick [1, 2, 3] hs (by decide) rfl
 refine from_pure 1 [(1, B b1 0), (4, L a3 x3 c3), (6, L a5 x5 c5), (7, I x9.1)] hF (by kernel_rfl) fun fr hF => ?_
 refine from_end rfl (then_normal ?_)
 refine wp_seq ?_
 obtain ⟨x10, hx10, h⟩ := bindE h
 refine wp_seq (region_b [] [true, true, true, true, true, false, true, true]
     [.eq (I x9.1), .eq (.bool (decide (x9.1 < 0))), .eq (.bool (decide (x9.1 < 0))), .eq (L a5 x5 c5), .eq (L a3 x3 c3), .eq (.bool x10), .eq (.bool (!x10)), .eq (.bool ((decide (x9.1 < 0)) || (!x10)))]
     [(1, B b1 0), (4, L a3 x3 c3), (6, L a5 x5 c5), (42, .bool ((decide (x9.1 < 0)) || (!x10)))] mix hF (by kernel_rfl) (by kernel_rfl) (by kernel_rfl) ⟨Pd.mono_eq, trivial⟩ (fun hG => ⟨np_call [L a5 x5 c5, L a3 x3 c3] hG hF Try.call15 rfl rfl (fun w hC hg => (laws_eqIntS_ok n x5 x3 (iteF hg.2 hx10) ((hs.rv 0 rfl).ext hC) ((hs.rv 1 rfl).ext hC)).mono fun e w' ⟨v, he, hv, hc⟩ => ⟨v, he, hc, hv⟩), trivial⟩) (by kernel_rfl) fun fr w12 hF hE hc => then_normal ?_)
 have r1 := r1.ext hc
 have hs := hs.ext hc
 have hM0 := hM0.ext hc
 refine (wp_if hF (b := ((decide (x9.1 < 0)) || (!x10))) rfl (fun hb => ?_) (fun hb => ?_))
 · replace h := iteT hb h
   have hs : Sep [] w12 S8 := Sep.pick [] hs (by decide) rfl
   refine wp_seq (wp_pure [(2, .bool false)] hF (by kernel_rfl) fun fr hF => then_normal ?_)
   obtain rfl := Option.some.inj h
   exact wp_ret (then_ret (ret1 rfl hF rfl ⟨_, rfl, rfl, hM0.chg⟩))
 replace h := iteF hb h
 refine (wp_skip (then_normal ?_))
 refine wp_seq (wp_pure [(1, B b1 0), (4, L a3 x3 c3), (6, L a5 x5 c5), (8, I 1)] hF (by kernel_rfl) fun fr hF => then_normal ?_)
 refine wp_seq (wp_text' ?_)
 refine from_pure 2 [(1, B b1 0), (4, L a3 x3 c3), (6, L a5 x5 c5), (43, L a5 x5 c5), (44, I 1)] hF (by kernel_rfl) fun fr hF => ?_
 obtain ⟨x11, hx11, h⟩ := bindE h
 obtain ⟨A2, R2, hsA, hsR, hdA, hbA, hup⟩ := Sep.call (L1 := [sl3 (L a5 x5 c5) x5]) (L2 := [sl3 (L a3 x3 c3) x3, BX b1 24 [I p0.W, I p0.Mem, I p0.In, L a1 p0.Code c1]]) hs hM0
 refine s_call [L a5 x5 c5, I 1] Try.call18 rfl rfl hF rfl (laws_markIntS_ok n x5 1 hx11 hsA hbA hdA) fun v w13 fr hRes hF => ?_
 obtain ⟨rfl, _, hp, hs⟩ := hRes
 obtain ⟨S9, hp, hs⟩ := hup hp hs
 have r1 := r1.stp hM0 hp
 have hM0 := hM0.stp hp
 have hs : Sep [sl3 (L a5 x5 c5) x11.2, sl3 (L a3 x3 c3) x3, BX b1 24 [I p0.W, I p0.Mem, I p0.In, L a1 p0.Code c1]] w13 S9 := hs
 refine from_pure 1 [(1, B b1 0), (4, L a3 x3 c3), (6, L a5 x5 c5), (8, I x11.1)] hF (by kernel_rfl) fun fr hF => ?_
 refine from_end rfl (then_normal ?_)
 refine wp_seq (wp_pure [(1, B b1 0), (4, L a3 x3 c3), (6, L a5 x5 c5), (8, I x11.1), (9, I 1)] hF (by kernel_rfl) fun fr hF => then_normal ?_)
 refine wp_seq (wp_text' ?_)
 refine from_pure 2 [(1, B b1 0), (4, L a3 x3 c3), (6, L a5 x5 c5), (8, I x11.1), (46, L a5 x5 c5), (47, I 1)] hF (by kernel_rfl) fun fr hF => ?_
 obtain ⟨x12, hx12, h⟩ := bindE h
 refine s_call [L a5 x5 c5, I 1] Try.call19 rfl rfl hF rfl (laws_heldIntS_ok n x11.2 1 hx12 (hs.rv 0 rfl)) fun v w14 fr hRes hF => ?_
 obtain ⟨rfl, hc⟩ := hRes
 have r1 := r1.ext hc
 have hs := hs.ext hc
 have hM0 := hM0.ext hc
 refine from_pure 1 [(1, B b1 0), (4, L a3 x3 c3), (6, L a5 x5 c5), (8, I x11.1), (9, I x12)] hF (by kernel_rfl) fun fr hF => ?_
 refine from_end rfl (then_normal ?_)
 refine wp_seq ?_
 refine wp_seq (wp_pure [(1, B b1 0), (4, L a3 x3 c3), (6, L a5 x5 c5), (8, I x11.1), (9, I x12), (50, .bool (decide (x12 < 0)))] hF (by kernel_rfl) fun fr hF => then_normal ?_)
 refine (wp_if hF (b := (decide (x12 < 0))) rfl (fun hb => ?_) (fun hb => ?_))
 · replace h := iteT hb h
   have hs : Sep [] w14 S9 := Sep.pick [] hs (by decide) rfl
   refine wp_seq (wp_pure [(2, .bool false)] hF (by kernel_rfl) fun fr hF => then_normal ?_)
   obtain rfl := Option.some.inj h
   exact wp_ret (then_ret (ret1 rfl hF rfl ⟨_, rfl, rfl, hM0.chg⟩))
 replace h := iteF hb h
 refine (wp_skip (then_normal ?_))
 refine wp_seq ?_
 refine wp_seq (wp_pure [(1, B b1 0), (4, L a3 x3 c3), (6, L a5 x5 c5), (8, I x11.1), (53, .bool (x12 != x11.1))] hF (by kernel_rfl) fun fr hF => then_normal ?_)
 refine (wp_if hF (b := (x12 != x11.1)) rfl (fun hb => ?_) (fun hb => ?_))
 · replace h := iteT hb h
   have hs : Sep [] w14 S9 := Sep.pick [] hs (by decide) rfl
   refine wp_seq (wp_pure [(2, .bool false)] hF (by kernel_rfl) fun fr hF => then_normal ?_)
   obtain rfl := Option.some.inj h
   exact wp_ret (then_ret (ret1 rfl hF rfl ⟨_, rfl, rfl, hM0.chg⟩))
 replace h := iteF hb h
 refine (wp_skip (then_normal ?_))
 refine wp_seq (wp_text' ?_)
 refine s_loadBoxS ty24 rfl rfl hF rfl (hs.bx 2 rfl) rfl rfl fun fr hF => ?_
 have hs : Sep [sl3 (L a5 x5 c5) x11.2, sl3 (L a3 x3 c3) x3] w14 S9 := Sep.pick [0, 1] hs (by decide) rfl
 obtain ⟨x13, hx13, h⟩ := bindE h
 refine s_call [.agg #[I p0.W, I p0.Mem, I p0.In, L a1 p0.Code c1]] Try.call13 rfl rfl hF rfl (laws_toProgram_ok n p0 hx13 (RV.mk_Program p0 (r1))) fun v w15 fr hRes hF => ?_
 obtain ⟨a6, c6, rfl, _, hp, hs2⟩ := hRes
 obtain ⟨S10, hp, hs⟩ := hs.got hM0 hp hs2
 have r1 := r1.stp hM0 hp
 have hM0 := hM0.stp hp
 have hs : Sep [sl90 (L a6 x13.Code c6) x13.Code, sl3 (L a5 x5 c5) x11.2, sl3 (L a3 x3 c3) x3] w15 S10 := hs
 obtain ⟨x14, hx14, h⟩ := bindE h
 refine s_call [.agg #[I x13.W, I x13.Mem, I x13.In, L a6 x13.Code c6]] Try.call23 rfl rfl hF rfl (impl_LoopHeads_ok n x13 hx14 (RV.mk_Program x13 (RV.any (hs.rv 0 rfl)))) fun v w16 fr hRes hF => ?_
 obtain ⟨a7, c7, rfl, _, hp, hs2⟩ := hRes
 obtain ⟨S11, hp, hs⟩ := hs.got hM0 hp hs2
 have hM0 := hM0.stp hp
 have hs : Sep [sl3 (L a7 x14 c7) x14, sl90 (L a6 x13.Code c6) x13.Code, sl3 (L a5 x5 c5) x11.2, sl3 (L a3 x3 c3) x3] w16 S11 := hs
 have hs : Sep [sl3 (L a7 x14 c7) x14, sl3 (L a5 x5 c5) x11.2, sl3 (L a3 x3 c3) x3] w16 S11 := Sep.pick [0, 2, 3] hs (by decide) rfl
 refine from_pure 1 [(4, L a3 x3 c3), (6, L a5 x5 c5), (8, I x11.1), (10, L a7 x14 c7)] hF (by kernel_rfl) fun fr hF => ?_
 refine from_end rfl (then_normal ?_)
 refine wp_seq ?_
 refine wp_seq (wp_text' ?_)
 refine from_pure 2 [(6, L a5 x5 c5), (8, I x11.1), (57, L a7 x14 c7), (58, L a3 x3 c3)] hF (by kernel_rfl) fun fr hF => ?_
 obtain ⟨x15, hx15, h⟩ := bindE h
 refine s_call [L a7 x14 c7, L a3 x3 c3] Try.call15 rfl rfl hF rfl (laws_eqIntS_ok n x14 x3 hx15 (hs.rv 0 rfl) (hs.rv 2 rfl)) fun v w17 fr hRes hF => ?_
 obtain ⟨rfl, hc⟩ := hRes
 have hs := hs.ext hc
 have hM0 := hM0.ext hc
 have hs : Sep [sl3 (L a5 x5 c5) x11.2] w17 S11 := Sep.pick [1] hs (by decide) rfl
 refine from_pure 1 [(6, L a5 x5 c5), (8, I x11.1), (60, .bool (!x15))] hF (by kernel_rfl) fun fr hF => ?_
 refine from_end rfl (then_normal ?_)
 refine (wp_if hF (b := (!x15)) rfl (fun hb => ?_) (fun hb => ?_))
 · replace h := iteT hb h
   have hs : Sep [] w17 S11 := Sep.pick [] hs (by decide) rfl
   refine wp_seq (wp_pure [(2, .bool false)] hF (by kernel_rfl) fun fr hF => then_normal ?_)
   obtain rfl := Option.some.inj h
   exact wp_ret (then_ret (ret1 rfl hF rfl ⟨_, rfl, rfl, hM0.chg⟩))
 replace h := iteF hb h
 refine (wp_skip (then_normal ?_))
 refine wp_seq (wp_pure [(6, L a5 x5 c5), (8, I x11.1), (9, I 1)] hF (by kernel_rfl) fun fr hF => then_normal ?_)
 refine wp_seq (wp_text' ?_)
 refine from_pure 2 [(8, I x11.1), (61, L a5 x5 c5), (62, I 1)] hF (by kernel_rfl) fun fr hF => ?_
 obtain ⟨x16, hx16, h⟩ := bindE h
 refine s_call [L a5 x5 c5, I 1] Try.call19 rfl rfl hF rfl (laws_heldIntS_ok n x11.2 1 hx16 (hs.rv 0 rfl)) fun v w18 fr hRes hF => ?_
 obtain ⟨rfl, hc⟩ := hRes
 have hs := hs.ext hc
 have hM0 := hM0.ext hc
 have hs : Sep [] w18 S11 := Sep.pick [] hs (by decide) rfl
 refine from_pure 1 [(8, I x11.1), (9, I x16)] hF (by kernel_rfl) fun fr hF => ?_
 refine from_end rfl (then_normal ?_)
 refine wp_seq ?_
 refine wp_seq (wp_pure [(8, I x11.1), (9, I x16), (65, .bool (decide (x16 < 0)))] hF (by kernel_rfl) fun fr hF => then_normal ?_)
 refine (wp_if hF (b := (decide (x16 < 0))) rfl (fun hb => ?_) (fun hb => ?_))
 · replace h := iteT hb h
   refine wp_seq (wp_pure [(2, .bool false)] hF (by kernel_rfl) fun fr hF => then_normal ?_)
   obtain rfl := Option.some.inj h
   exact wp_ret (then_ret (ret1 rfl hF rfl ⟨_, rfl, rfl, hM0.chg⟩))
 replace h := iteF hb h
 refine (wp_skip (then_normal ?_))
 refine wp_seq ?_
 refine wp_seq (wp_pure [(68, .bool (x16 != x11.1))] hF (by kernel_rfl) fun fr hF => then_normal ?_)
 refine (wp_if hF (b := (x16 != x11.1)) rfl (fun hb => ?_) (fun hb => ?_))
 · replace h := iteT hb h
   refine wp_seq (wp_pure [(2, .bool false)] hF (by kernel_rfl) fun fr hF => then_normal ?_)
   obtain rfl := Option.some.inj h
   exact wp_ret (then_ret (ret1 rfl hF rfl ⟨_, rfl, rfl, hM0.chg⟩))
 replace h := iteF hb h
 refine (wp_skip (then_normal ?_))
 refine wp_seq (wp_pure [(2, .bool true)] hF (by kernel_rfl) fun fr hF => then_normal ?_)
 obtain rfl := Option.some.inj h
 exact wp_ret (ret1 rfl hF rfl ⟨_, rfl, rfl, hM0.chg⟩)
end Go.Proofs.Ytknlknnihinmjaa
