/- Printed by gen2.py: the walks. -/
import Derived.Test.YtckeihpjfeonmaaWlkA
set_option linter.unusedVariables false
set_option maxRecDepth 100000
namespace Go.Proofs.Ytckeihpjfeonmaa
open Go.GL Go.Maps Go.WideMaps
theorem impl_builder_shift_ok (n : Nat) (p0 : D.builder) (p1 : Int) (p2 : List Int) (p3 : List Int) {r : (List Int) × D.builder} (h : impl_builder_shift n p0 p1 p2 p3 = some r) {w : World} {S0 F0 : Nat → Prop} {pa0 : Option Addr} {pn0 pc0 : Nat} {b1 : Nat} {b2 : Nat} (hs : Sep [BX b1 83 [I p0.c.Inputs, .slice pa0 pn0 pc0, .map (some b2), .bool p0.full], sl59 (.slice pa0 pn0 pc0) p0.c.Gates, MP map81 b2 p0.line] w S0) (hb : ∀ k, S0 k → k < w.heap.size) (hd : ∀ k, S0 k → F0 k → False) {va2 : Value} (ra2 : RV w F0 va2 p2) {va3 : Value} (ra3 : RV w F0 va3 p3) :
   Calls Try.prog 98 [B b1 0, I p1, va2, va3].toArray w fun e w' => ∃ v, e = .returned v ∧ ∃ a1 c1 a2 c2, v = L a1 r.1 c1 ∧ ∃ S', Stp w S0 w' S' ∧ Sep [sl3 (L a1 r.1 c1) r.1, BX b1 83 [I r.2.c.Inputs, L a2 r.2.c.Gates c2, .map (some b2), .bool r.2.full], sl59 (L a2 r.2.c.Gates c2) r.2.c.Gates, MP map81 b2 r.2.line] w' S' := by
 unfold impl_builder_shift at h
 obtain ⟨hpn, hs⟩ := hs.relen 1 rfl
 subst hpn
 have hs : Sep [BX b1 83 [I p0.c.Inputs, L pa0 p0.c.Gates pc0, .map (some b2), .bool p0.full], sl59 (L pa0 p0.c.Gates pc0) p0.c.Gates, MP map81 b2 p0.line] w S0 := hs
 have hM0 : Mem w S0 (fun k => F0 k ∧ k < w.heap.size) w S0 (fun k => F0 k ∧ k < w.heap.size) := Mem.start hb (fun _ h => h.2) (fun k h1 h2 => hd k h1 h2.1)
 have ra2 := ra2.sub (F' := (fun k => F0 k ∧ k < w.heap.size)) (fun k hk h => ⟨h, hk⟩)
 obtain ⟨a1, c1, rfl, -⟩ := ra2.slice
 have ra3 := ra3.sub (F' := (fun k => F0 k ∧ k < w.heap.size)) (fun k hk h => ⟨h, hk⟩)
 obtain ⟨a2, c2, rfl, -⟩ := ra3.slice
 refine enter (N := 121) Try.func98 rfl Try.ntmps98 rfl fun fr hF => ?_
 refine wp_seq (wp_pure [(0, B b1 0), (1, I p1), (2, L a1 p2 c1), (3, L a2 p3 c2)] hF (by kernel_rfl) fun fr hF => then_normal ?_)
 refine wp_seq (wp_pure [(0, B b1 0), (1, I p1), (2, L a1 p2 c1), (3, L a2 p3 c2), (9, I (len p2))] hF (by kernel_rfl) fun fr hF => then_normal ?_)
 refine wp_seq (wp_pure [(0, B b1 0), (1, I p1), (2, L a1 p2 c1), (3, L a2 p3 c2), (9, I (len p2)), (10, I (-1))] hF (by kernel_rfl) fun fr hF => then_normal ?_)
 refine wp_seq ?_
 refine wp_seq (wp_pure [(0, B b1 0), (1, I p1), (2, L a1 p2 c1), (3, L a2 p3 c2), (9, I (len p2)), (10, I (-1)), (22, .bool (p1 == 13))] hF (by kernel_rfl) fun fr hF => then_normal ?_)
 refine (wp_if hF (b := (p1 == 13)) rfl (fun hb => ?_) (fun hb => ?_))
 · replace h := iteT hb h
   refine (wp_text' ?_)
   refine from_pure 3 [(0, B b1 0), (1, I p1), (2, L a1 p2 c1), (3, L a2 p3 c2), (9, I (len p2)), (23, L a1 p2 c1), (25, I (w64 ((len p2) - 1)))] hF (by kernel_rfl) fun fr hF => ?_
   obtain ⟨x1, hx1, h⟩ := bindE h
   refine s_elemF (z := x1) (I x1) ty3 Try.underlying37 rfl rfl rfl rfl rfl hF rfl (ra2) rfl (get?_nn hx1) (get?_at hx1) rfl fun p fr hF => ?_
   refine from_pure 1 [(0, B b1 0), (1, I p1), (2, L a1 p2 c1), (3, L a2 p3 c2), (9, I (len p2)), (10, I x1)] hF (by kernel_rfl) fun fr hF => ?_
   refine from_end rfl (then_normal ?_)
   refine wp_seq (wp_text' ?_)
   refine from_pure 1 [(0, B b1 0), (1, I p1), (3, L a2 p3 c2), (9, I (len p2)), (10, I x1), (28, L a1 p2 c1)] hF (by kernel_rfl) fun fr hF => ?_
   obtain ⟨x2, hx2, h⟩ := bindE h
   refine s_call [L a1 p2 c1] Try.call108 rfl rfl hF rfl (slices_Clone___int_int__ok p2 hx2 (ra2)) fun v w1 fr hRes hF => ?_
   obtain ⟨a3, c3, rfl, _, hp, hs2⟩ := hRes
   obtain ⟨S1, hp, hs⟩ := hs.got hM0 hp hs2
   have ra3 := ra3.stp hM0 hp
   have ra2 := ra2.stp hM0 hp
   have hM0 := hM0.stp hp
   have hs : Sep [sl3 (L a3 x2 c3) x2, BX b1 83 [I p0.c.Inputs, L pa0 p0.c.Gates pc0, .map (some b2), .bool p0.full], sl59 (L pa0 p0.c.Gates pc0) p0.c.Gates, MP map81 b2 p0.line] w1 S1 := hs
   refine from_pure 1 [(0, B b1 0), (1, I p1), (3, L a2 p3 c2), (9, I (len p2)), (10, I x1), (11, L a3 x2 c3)] hF (by kernel_rfl) fun fr hF => ?_
   refine from_end rfl (then_normal ?_)
   refine wp_seq (wp_pure [(0, B b1 0), (1, I p1), (3, L a2 p3 c2), (9, I (len p2)), (10, I x1), (11, L a3 x2 c3), (12, I 0)] hF (by kernel_rfl) fun fr hF => then_normal ?_)
   obtain ⟨rl1, hit1, h⟩ := bindE h
   have hk1 := h
   refine wp_seq (wp_cut (M := fun fr w' => ∃ a5 c5 S3 F2, FrS 121 [(0, B b1 0), (3, L a2 p3 c2), (9, I (len p2)), (10, I x1), (11, L a3 x2 c3), (12, I rl1.1)] fr ∧ Mem w1 S1 (fun k => F0 k ∧ k < w.heap.size) w' S3 F2 ∧ Sep [sl3 (L a3 x2 c3) rl1.2.1, BX b1 83 [I rl1.2.2.1, L a5 rl1.2.2.2.2.1 c5, .map (some b2), .bool rl1.2.2.2.1], sl59 (L a5 rl1.2.2.2.2.1 c5) rl1.2.2.2.2.1, MP map81 b2 rl1.2.2.2.2.2] w' S3) (wp_block (wp_iter (Inv := fun s1 fr w' => ∃ a4 c4 S2 F1, FrS 121 [(0, B b1 0), (1, I p1), (3, L a2 p3 c2), (9, I (len p2)), (10, I x1), (11, L a3 x2 c3), (12, I s1.1)] fr ∧ Mem w1 S1 (fun k => F0 k ∧ k < w.heap.size) w' S2 F1 ∧ Sep [sl3 (L a3 x2 c3) s1.2.1, BX b1 83 [I s1.2.2.1, L a4 s1.2.2.2.2.1 c4, .map (some b2), .bool s1.2.2.2.1], sl59 (L a4 s1.2.2.2.2.1 c4) s1.2.2.2.2.1, MP map81 b2 s1.2.2.2.2.2] w' S2) hit1 ⟨pa0, pc0, S1, _, hF.sub _ (by kernel_rfl), (Mem.start hM0.bd hM0.bdF hM0.dj), hs⟩ fun s1 q1 fr w1i hI h hr1 => ?_)) fun fr w1o hM => ?_)
   · obtain ⟨a4, c4, S2, F1, hF, hM1, hs⟩ := hI
     have ra3 := ra3.mem hM1
     refine wp_seq ?_
     obtain ⟨x3, hx3, h⟩ := bindE h
     refine wp_seq (region_b [] [true, true, true, true, true, true, false, true, true, true]
         [.eq (I s1.1), .eq (I (len p2)), .eq (.bool (decide (s1.1 < (len p2)))), .eq (.bool (decide (s1.1 < (len p2)))), .eq (I s1.1), .eq (.int .u64 (IntKind.u64.wrap s1.1)), .eq (I x3), .eq (I (len p2)), .eq (.bool (decide (x3 < (len p2)))), .eq (.bool ((decide (s1.1 < (len p2))) && (decide (x3 < (len p2)))))]
         [(0, B b1 0), (1, I p1), (3, L a2 p3 c2), (9, I (len p2)), (10, I x1), (11, L a3 x2 c3), (12, I s1.1), (39, .bool ((decide (s1.1 < (len p2))) && (decide (x3 < (len p2)))))] mix hF (by kernel_rfl) (by kernel_rfl) (by kernel_rfl) ⟨Pd.mono_eq, trivial⟩ (fun hG => ⟨np_shl hG hF rfl rfl rfl (fun hg => (iteT hg.2 hx3)) rfl, trivial⟩) (by kernel_rfl) fun fr w2 hF hE hc => then_normal ?_)
     have ra3 := ra3.ext hc
     have hs := hs.ext hc
     have hM1 := hM1.ext hc
     refine (wp_if hF (b := ((decide (s1.1 < (len p2))) && (decide (x3 < (len p2))))) rfl (fun hb => ?_) (fun hb => ?_))
     · replace h := iteT hb h
       refine (wp_skip (then_normal ?_))
       refine wp_seq (wp_block ?_)
       refine wp_seq (wp_text' ?_)
       refine from_pure 1 [(0, B b1 0), (1, I p1), (3, L a2 p3 c2), (9, I (len p2)), (10, I x1), (11, L a3 x2 c3), (12, I s1.1), (42, L a3 x2 c3)] hF (by kernel_rfl) fun fr hF => ?_
       obtain ⟨x4, hx4, h⟩ := bindE h
       refine s_call [L a3 x2 c3] Try.call108 rfl rfl hF rfl (slices_Clone___int_int__ok s1.2.1 hx4 (hs.rv 0 rfl)) fun v w3 fr hRes hF => ?_
       obtain ⟨a6, c6, rfl, _, hp, hs2⟩ := hRes
       obtain ⟨S4, hp, hs⟩ := hs.got hM1 hp hs2
       have ra3 := ra3.stp hM1 hp
       have hM1 := hM1.stp hp
       have hs : Sep [sl3 (L a6 x4 c6) x4, sl3 (L a3 x2 c3) s1.2.1, BX b1 83 [I s1.2.2.1, L a4 s1.2.2.2.2.1 c4, .map (some b2), .bool s1.2.2.2.1], sl59 (L a4 s1.2.2.2.2.1 c4) s1.2.2.2.2.1, MP map81 b2 s1.2.2.2.2.2] w3 S4 := hs
       refine from_pure 1 [(0, B b1 0), (1, I p1), (3, L a2 p3 c2), (9, I (len p2)), (10, I x1), (11, L a3 x2 c3), (12, I s1.1), (13, L a6 x4 c6)] hF (by kernel_rfl) fun fr hF => ?_
       refine from_end rfl (then_normal ?_)
       refine wp_seq (wp_pure [(0, B b1 0), (1, I p1), (3, L a2 p3 c2), (9, I (len p2)), (10, I x1), (11, L a3 x2 c3), (12, I s1.1), (13, L a6 x4 c6), (45, I (len x2)), (46, I 0)] hF (by kernel_rfl) fun fr hF => then_normal ?_)
       obtain ⟨rl2, hit2, h⟩ := bindE h
       have hk2 := h
       refine (wp_cut' (M := fun fr w' => ∃ a8 c8 S6 F4, FrS 121 [(0, B b1 0), (1, I p1), (3, L a2 p3 c2), (9, I (len p2)), (10, I x1), (11, L a3 x2 c3), (12, I s1.1)] fr ∧ Mem w3 S4 F1 w' S6 F4 ∧ Sep [sl3 (L a3 x2 c3) rl2.1, BX b1 83 [I rl2.2.1, L a8 rl2.2.2.2.1 c8, .map (some b2), .bool rl2.2.2.1], sl59 (L a8 rl2.2.2.2.1 c8) rl2.2.2.2.1, MP map81 b2 rl2.2.2.2.2] w' S6) (wp_block (wp_iter (Inv := fun s2 fr w' => ∃ a7 c7 S5 F3, FrS 121 [(0, B b1 0), (1, I p1), (3, L a2 p3 c2), (9, I (len p2)), (10, I x1), (11, L a3 x2 c3), (12, I s1.1), (13, L a6 x4 c6), (45, I (len x2)), (46, I s2.1)] fr ∧ Mem w3 S4 F1 w' S5 F3 ∧ Sep [sl3 (L a6 x4 c6) x4, sl3 (L a3 x2 c3) s2.2.1, BX b1 83 [I s2.2.2.1, L a7 s2.2.2.2.2.1 c7, .map (some b2), .bool s2.2.2.2.1], sl59 (L a7 s2.2.2.2.2.1 c7) s2.2.2.2.2.1, MP map81 b2 s2.2.2.2.2.2] w' S5) hit2 ⟨a4, c4, S4, _, hF.sub _ (by kernel_rfl), (Mem.start hM1.bd hM1.bdF hM1.dj), hs⟩ fun s2 q2 fr w2i hI h hr2 => ?_)) fun fr w2o hM => ?_)
       · obtain ⟨a7, c7, S5, F3, hF, hM2, hs⟩ := hI
         have ra3 := ra3.mem hM2
         refine wp_seq (wp_pure [(0, B b1 0), (1, I p1), (3, L a2 p3 c2), (9, I (len p2)), (10, I x1), (11, L a3 x2 c3), (12, I s1.1), (13, L a6 x4 c6), (45, I (len x2)), (46, I s2.1), (47, .bool (decide (s2.1 < (len x2))))] hF (by kernel_rfl) fun fr hF => then_normal ?_)
         refine wp_seq (wp_if hF (b := (decide (s2.1 < (len x2)))) rfl (fun hb => ?_) (fun hb => ?_))
         · replace h := iteT hb h
           refine (wp_skip (then_normal ?_))
           refine wp_seq (wp_block ?_)
           refine wp_seq (wp_pure [(0, B b1 0), (1, I p1), (3, L a2 p3 c2), (9, I (len p2)), (10, I x1), (11, L a3 x2 c3), (12, I s1.1), (13, L a6 x4 c6), (14, I s2.1), (45, I (len x2)), (46, I s2.1)] hF (by kernel_rfl) fun fr hF => then_normal ?_)
           refine wp_seq (wp_text' ?_)
           refine from_pure 3 [(0, B b1 0), (1, I p1), (3, L a2 p3 c2), (9, I (len p2)), (10, I x1), (11, L a3 x2 c3), (12, I s1.1), (13, L a6 x4 c6), (14, I s2.1), (45, I (len x2)), (46, I s2.1), (49, I s2.1), (51, .int .u64 (IntKind.u64.wrap s1.1))] hF (by kernel_rfl) fun fr hF => ?_
           obtain ⟨x5, hx5, h⟩ := bindE h
           refine s_shl rfl rfl hF rfl rfl hx5 fun fr hF => ?_
           refine from_pure 2 [(0, B b1 0), (1, I p1), (3, L a2 p3 c2), (9, I (len p2)), (10, I x1), (11, L a3 x2 c3), (12, I s1.1), (13, L a6 x4 c6), (14, I s2.1), (15, I (w64 (s2.1 + x5))), (45, I (len x2)), (46, I s2.1)] hF (by kernel_rfl) fun fr hF => ?_
           refine from_end rfl (then_normal ?_)
           refine wp_seq ?_
           refine wp_seq (wp_pure [(0, B b1 0), (1, I p1), (3, L a2 p3 c2), (9, I (len p2)), (10, I x1), (11, L a3 x2 c3), (12, I s1.1), (13, L a6 x4 c6), (14, I s2.1), (15, I (w64 (s2.1 + x5))), (45, I (len x2)), (46, I s2.1), (55, .bool (p1 == 11))] hF (by kernel_rfl) fun fr hF => then_normal ?_)
           refine (wp_if hF (b := (p1 == 11)) rfl (fun hb => ?_) (fun hb => ?_))
           · replace h := iteT hb h
             refine (wp_text' ?_)
             refine from_pure 3 [(0, B b1 0), (1, I p1), (3, L a2 p3 c2), (9, I (len p2)), (10, I x1), (11, L a3 x2 c3), (12, I s1.1), (13, L a6 x4 c6), (14, I s2.1), (45, I (len x2)), (46, I s2.1), (56, I s2.1), (58, .int .u64 (IntKind.u64.wrap s1.1))] hF (by kernel_rfl) fun fr hF => ?_
             obtain ⟨x6, hx6, h⟩ := bindE h
             refine s_shl rfl rfl hF rfl rfl hx6 fun fr hF => ?_
             refine from_pure 2 [(0, B b1 0), (1, I p1), (3, L a2 p3 c2), (9, I (len p2)), (10, I x1), (11, L a3 x2 c3), (12, I s1.1), (13, L a6 x4 c6), (14, I s2.1), (15, I (w64 (s2.1 - x6))), (45, I (len x2)), (46, I s2.1)] hF (by kernel_rfl) fun fr hF => ?_
             refine from_end rfl (then_normal ?_)
             refine wp_seq (wp_pure [(0, B b1 0), (1, I p1), (3, L a2 p3 c2), (9, I (len p2)), (10, I x1), (11, L a3 x2 c3), (12, I s1.1), (13, L a6 x4 c6), (14, I s2.1), (15, I (w64 (s2.1 - x6))), (16, I x1), (45, I (len x2)), (46, I s2.1)] hF (by kernel_rfl) fun fr hF => then_normal ?_)
             refine wp_seq ?_
             refine wp_seq (region_b [] [true, true, true, true, true, true, true]
                 [.eq (I (w64 (s2.1 - x6))), .eq (.bool (decide ((w64 (s2.1 - x6)) ≥ 0))), .eq (.bool (decide ((w64 (s2.1 - x6)) ≥ 0))), .eq (I (w64 (s2.1 - x6))), .eq (I (len p2)), .eq (.bool (decide ((w64 (s2.1 - x6)) < (len p2)))), .eq (.bool ((decide ((w64 (s2.1 - x6)) ≥ 0)) && (decide ((w64 (s2.1 - x6)) < (len p2)))))]
                 [(0, B b1 0), (1, I p1), (3, L a2 p3 c2), (9, I (len p2)), (10, I x1), (11, L a3 x2 c3), (12, I s1.1), (13, L a6 x4 c6), (14, I s2.1), (15, I (w64 (s2.1 - x6))), (16, I x1), (45, I (len x2)), (46, I s2.1), (68, .bool ((decide ((w64 (s2.1 - x6)) ≥ 0)) && (decide ((w64 (s2.1 - x6)) < (len p2)))))] mix hF (by kernel_rfl) (by kernel_rfl) (by kernel_rfl) trivial (fun hG => trivial) (by kernel_rfl) fun fr w4 hF hE hc => then_normal ?_)
             have ra3 := ra3.ext hc
             have hs := hs.ext hc
             have hM2 := hM2.ext hc
             refine (wp_if hF (b := ((decide ((w64 (s2.1 - x6)) ≥ 0)) && (decide ((w64 (s2.1 - x6)) < (len p2))))) rfl (fun hb => ?_) (fun hb => ?_))
             · replace h := iteT hb h
               refine (wp_text' ?_)
               refine from_pure 2 [(0, B b1 0), (1, I p1), (3, L a2 p3 c2), (9, I (len p2)), (10, I x1), (11, L a3 x2 c3), (12, I s1.1), (13, L a6 x4 c6), (14, I s2.1), (45, I (len x2)), (46, I s2.1), (69, L a6 x4 c6), (70, I (w64 (s2.1 - x6)))] hF (by kernel_rfl) fun fr hF => ?_
               obtain ⟨x7, hx7, h⟩ := bindE h
               refine s_elemF (z := x7) (I x7) ty3 Try.underlying37 rfl rfl rfl rfl rfl hF rfl (hs.rv 0 rfl) rfl (get?_nn hx7) (get?_at hx7) rfl fun p fr hF => ?_
               refine from_pure 1 [(0, B b1 0), (1, I p1), (3, L a2 p3 c2), (9, I (len p2)), (10, I x1), (11, L a3 x2 c3), (12, I s1.1), (13, L a6 x4 c6), (14, I s2.1), (16, I x7), (45, I (len x2)), (46, I s2.1)] hF (by kernel_rfl) fun fr hF => ?_
               refine from_end rfl (then_normal ?_)
               refine (wp_ra mix ?_)
               refine ra_hoist 1 (by kernel_rfl) (fun _ _ _ _ _ h => h) ?_
               refine ra_hoist 0 (by kernel_rfl) (fun _ _ _ _ _ h => h) ?_
               obtain ⟨x8, hx8, h⟩ := bindE h
               obtain ⟨x9, hx9, h⟩ := bindE h
               refine (ra_bm 12 [0, 1, 3, 3, 3, 27, 59, 3, 3, 3, 771, 1795, 4095, 8191, 16383] [true, true, true, true, true, false, false, true, true, true, false, false]
                   [.eq (L a3 x2 c3), .eq (I s2.1), .eq (B b1 0), .eq (L a2 p3 c2), .eq (I s1.1), .is fun v w => ElemP w (fun k => k < w4.heap.size) v (x8 : Int), .eq (I x8), .eq (I x7), .eq (L a6 x4 c6), .eq (I s2.1), .is fun v w => ElemP w (fun k => k < w4.heap.size) v (x9 : Int), .eq (I x9), .any, .any, .any]
                   [(0, B b1 0), (1, I p1), (3, L a2 p3 c2), (9, I (len p2)), (10, I x1), (11, L a3 x2 c3), (12, I s1.1), (13, L a6 x4 c6), (45, I (len x2)), (46, I s2.1), (73, L a3 x2 c3), (74, I s2.1), (75, B b1 0), (79, I x8), (80, I x7), (84, I x9)] hF (by kernel_rfl) (by kernel_rfl) (by kernel_rfl) (by kernel_rfl) ⟨(Pd.monoO_is mono_elem), Pd.monoO_eq, (Pd.monoO_is mono_elem), Pd.monoO_eq, trivial⟩ (fun ow hG => ⟨np_to ow (np_index hG hF ty3 Try.underlying37 rfl rfl (RV.sub (ra3) fun k hk _ => hk) rfl rfl (fun hg => ⟨get?_nn hx8, get?_at hx8⟩)), np_to ow (np_loadF (z := x8) (i := 5) hG hF ty3 rfl rfl rfl rfl rfl rfl rfl), np_to ow (np_index hG hF ty3 Try.underlying37 rfl rfl (RV.sub (hs.rv 0 rfl) fun k hk _ => hk) rfl rfl (fun hg => ⟨get?_nn hx9, get?_at hx9⟩)), np_to ow (np_loadF (z := x9) (i := 10) hG hF ty3 rfl rfl rfl rfl rfl rfl rfl), trivial⟩) (by kernel_rfl) fun ow fr w5 hF hE hc => ?_)
               have ra3 := ra3.ext hc
               have hs := hs.ext hc
               have hM2 := hM2.ext hc
               obtain ⟨x10, hx10, h⟩ := bindE h
               have hs : Sep [BX b1 83 [I s2.2.2.1, L a7 s2.2.2.2.2.1 c7, .map (some b2), .bool s2.2.2.2.1], sl59 (L a7 s2.2.2.2.2.1 c7) s2.2.2.2.2.1, MP map81 b2 s2.2.2.2.2.2, sl3 (L a6 x4 c6) x4, sl3 (L a3 x2 c3) s2.2.1] w5 S5 := Sep.pick [2, 3, 4, 0, 1] hs (by decide) rfl
               obtain ⟨A1, R1, hsA, hsR, hdA, hbA, hup⟩ := Sep.call (L1 := [BX b1 83 [I s2.2.2.1, L a7 s2.2.2.2.2.1 c7, .map (some b2), .bool s2.2.2.2.1], sl59 (L a7 s2.2.2.2.2.1 c7) s2.2.2.2.2.1, MP map81 b2 s2.2.2.2.2.2]) (L2 := [sl3 (L a6 x4 c6) x4, sl3 (L a3 x2 c3) s2.2.1]) hs hM2
               refine s_call [B b1 0, I x8, I x7, I x9] Try.call63 rfl rfl hF rfl (impl_builder_choose_ok (D.builder.mk (D.Circuit.mk s2.2.2.1 s2.2.2.2.2.1) s2.2.2.2.2.2 s2.2.2.2.1) x8 x7 x9 hx10 hsA hbA hdA) fun v w6 fr hRes hF => ?_
               obtain ⟨a9, c9, rfl, _, hp, hs⟩ := hRes
               obtain ⟨S7, hp, hs⟩ := hup hp hs
               have ra3 := ra3.stp hM2 hp
               have hM2 := hM2.stp hp
               have hs : Sep [BX b1 83 [I x10.2.c.Inputs, L a9 x10.2.c.Gates c9, .map (some b2), .bool x10.2.full], sl59 (L a9 x10.2.c.Gates c9) x10.2.c.Gates, MP map81 b2 x10.2.line, sl3 (L a6 x4 c6) x4, sl3 (L a3 x2 c3) s2.2.1] w6 S7 := hs
               obtain ⟨x11, hx11, h⟩ := bindE h
               refine q_set (q := x10.1) 4 hs hM2 rfl Try.underlying37 ty3 rfl rfl rfl rfl hF rfl rfl (by simp) rfl rfl hx11 fun w7 S8 fr _ hs hp hF => ?_
               have ra3 := ra3.stp hM2 hp
               have hM2 := hM2.stp hp
               have hs : Sep [BX b1 83 [I x10.2.c.Inputs, L a9 x10.2.c.Gates c9, .map (some b2), .bool x10.2.full], sl59 (L a9 x10.2.c.Gates c9) x10.2.c.Gates, MP map81 b2 x10.2.line, sl3 (L a6 x4 c6) x4, sl3 (L a3 x2 c3) x11] w7 S8 := hs
               refine from_end rfl ?_
               refine blk_normal (then_normal ?_)
               refine (wp_pure [(0, B b1 0), (1, I p1), (3, L a2 p3 c2), (9, I (len p2)), (10, I x1), (11, L a3 x2 c3), (12, I s1.1), (13, L a6 x4 c6), (45, I (len x2)), (46, I (w64 (s2.1 + 1)))] hF (by kernel_rfl) fun fr hF => then_normal ?_)
               have hs : Sep [sl3 (L a6 x4 c6) x4, sl3 (L a3 x2 c3) x11, BX b1 83 [I x10.2.c.Inputs, L a9 x10.2.c.Gates c9, .map (some b2), .bool x10.2.full], sl59 (L a9 x10.2.c.Gates c9) x10.2.c.Gates, MP map81 b2 x10.2.line] w7 S8 := Sep.pick [3, 4, 0, 1, 2] hs (by decide) rfl
               exact ⟨_, (Option.some.inj h).symm, a9, c9, S8, _, hF.sub _ (by kernel_rfl), hM2, hs⟩
             replace h := iteF hb h
             refine (wp_skip (then_normal ?_))
             refine (wp_ra mix ?_)
             refine ra_hoist 1 (by kernel_rfl) (fun _ _ _ _ _ h => h) ?_
             refine ra_hoist 0 (by kernel_rfl) (fun _ _ _ _ _ h => h) ?_
             obtain ⟨x12, hx12, h⟩ := bindE h
             obtain ⟨x13, hx13, h⟩ := bindE h
             refine (ra_bm 12 [0, 1, 3, 3, 3, 27, 59, 3, 3, 3, 771, 1795, 4095, 8191, 16383] [true, true, true, true, true, false, false, true, true, true, false, false]
                 [.eq (L a3 x2 c3), .eq (I s2.1), .eq (B b1 0), .eq (L a2 p3 c2), .eq (I s1.1), .is fun v w => ElemP w (fun k => k < w4.heap.size) v (x12 : Int), .eq (I x12), .eq (I x1), .eq (L a6 x4 c6), .eq (I s2.1), .is fun v w => ElemP w (fun k => k < w4.heap.size) v (x13 : Int), .eq (I x13), .any, .any, .any]
                 [(0, B b1 0), (1, I p1), (3, L a2 p3 c2), (9, I (len p2)), (10, I x1), (11, L a3 x2 c3), (12, I s1.1), (13, L a6 x4 c6), (45, I (len x2)), (46, I s2.1), (73, L a3 x2 c3), (74, I s2.1), (75, B b1 0), (79, I x12), (80, I x1), (84, I x13)] hF (by kernel_rfl) (by kernel_rfl) (by kernel_rfl) (by kernel_rfl) ⟨(Pd.monoO_is mono_elem), Pd.monoO_eq, (Pd.monoO_is mono_elem), Pd.monoO_eq, trivial⟩ (fun ow hG => ⟨np_to ow (np_index hG hF ty3 Try.underlying37 rfl rfl (RV.sub (ra3) fun k hk _ => hk) rfl rfl (fun hg => ⟨get?_nn hx12, get?_at hx12⟩)), np_to ow (np_loadF (z := x12) (i := 5) hG hF ty3 rfl rfl rfl rfl rfl rfl rfl), np_to ow (np_index hG hF ty3 Try.underlying37 rfl rfl (RV.sub (hs.rv 0 rfl) fun k hk _ => hk) rfl rfl (fun hg => ⟨get?_nn hx13, get?_at hx13⟩)), np_to ow (np_loadF (z := x13) (i := 10) hG hF ty3 rfl rfl rfl rfl rfl rfl rfl), trivial⟩) (by kernel_rfl) fun ow fr w8 hF hE hc => ?_)
             have ra3 := ra3.ext hc
             have hs := hs.ext hc
             have hM2 := hM2.ext hc
             obtain ⟨x14, hx14, h⟩ := bindE h
             have hs : Sep [BX b1 83 [I s2.2.2.1, L a7 s2.2.2.2.2.1 c7, .map (some b2), .bool s2.2.2.2.1], sl59 (L a7 s2.2.2.2.2.1 c7) s2.2.2.2.2.1, MP map81 b2 s2.2.2.2.2.2, sl3 (L a6 x4 c6) x4, sl3 (L a3 x2 c3) s2.2.1] w8 S5 := Sep.pick [2, 3, 4, 0, 1] hs (by decide) rfl
             obtain ⟨A2, R2, hsA, hsR, hdA, hbA, hup⟩ := Sep.call (L1 := [BX b1 83 [I s2.2.2.1, L a7 s2.2.2.2.2.1 c7, .map (some b2), .bool s2.2.2.2.1], sl59 (L a7 s2.2.2.2.2.1 c7) s2.2.2.2.2.1, MP map81 b2 s2.2.2.2.2.2]) (L2 := [sl3 (L a6 x4 c6) x4, sl3 (L a3 x2 c3) s2.2.1]) hs hM2
             refine s_call [B b1 0, I x12, I x1, I x13] Try.call63 rfl rfl hF rfl (impl_builder_choose_ok (D.builder.mk (D.Circuit.mk s2.2.2.1 s2.2.2.2.2.1) s2.2.2.2.2.2 s2.2.2.2.1) x12 x1 x13 hx14 hsA hbA hdA) fun v w9 fr hRes hF => ?_
             obtain ⟨a10, c10, rfl, _, hp, hs⟩ := hRes
             obtain ⟨S9, hp, hs⟩ := hup hp hs
             have ra3 := ra3.stp hM2 hp
             have hM2 := hM2.stp hp
             have hs : Sep [BX b1 83 [I x14.2.c.Inputs, L a10 x14.2.c.Gates c10, .map (some b2), .bool x14.2.full], sl59 (L a10 x14.2.c.Gates c10) x14.2.c.Gates, MP map81 b2 x14.2.line, sl3 (L a6 x4 c6) x4, sl3 (L a3 x2 c3) s2.2.1] w9 S9 := hs
             obtain ⟨x15, hx15, h⟩ := bindE h
             refine q_set (q := x14.1) 4 hs hM2 rfl Try.underlying37 ty3 rfl rfl rfl rfl hF rfl rfl (by simp) rfl rfl hx15 fun w10 S10 fr _ hs hp hF => ?_
             have ra3 := ra3.stp hM2 hp
             have hM2 := hM2.stp hp
             have hs : Sep [BX b1 83 [I x14.2.c.Inputs, L a10 x14.2.c.Gates c10, .map (some b2), .bool x14.2.full], sl59 (L a10 x14.2.c.Gates c10) x14.2.c.Gates, MP map81 b2 x14.2.line, sl3 (L a6 x4 c6) x4, sl3 (L a3 x2 c3) x15] w10 S10 := hs
             refine from_end rfl ?_
             refine blk_normal (then_normal ?_)
             refine (wp_pure [(0, B b1 0), (1, I p1), (3, L a2 p3 c2), (9, I (len p2)), (10, I x1), (11, L a3 x2 c3), (12, I s1.1), (13, L a6 x4 c6), (45, I (len x2)), (46, I (w64 (s2.1 + 1)))] hF (by kernel_rfl) fun fr hF => then_normal ?_)
             have hs : Sep [sl3 (L a6 x4 c6) x4, sl3 (L a3 x2 c3) x15, BX b1 83 [I x14.2.c.Inputs, L a10 x14.2.c.Gates c10, .map (some b2), .bool x14.2.full], sl59 (L a10 x14.2.c.Gates c10) x14.2.c.Gates, MP map81 b2 x14.2.line] w10 S10 := Sep.pick [3, 4, 0, 1, 2] hs (by decide) rfl
             exact ⟨_, (Option.some.inj h).symm, a10, c10, S10, _, hF.sub _ (by kernel_rfl), hM2, hs⟩
           replace h := iteF hb h
           refine (wp_skip (then_normal ?_))
           refine wp_seq (wp_pure [(0, B b1 0), (1, I p1), (3, L a2 p3 c2), (9, I (len p2)), (10, I x1), (11, L a3 x2 c3), (12, I s1.1), (13, L a6 x4 c6), (14, I s2.1), (15, I (w64 (s2.1 + x5))), (16, I x1), (45, I (len x2)), (46, I s2.1)] hF (by kernel_rfl) fun fr hF => then_normal ?_)
           refine wp_seq ?_
           refine wp_seq (region_b [] [true, true, true, true, true, true, true]
               [.eq (I (w64 (s2.1 + x5))), .eq (.bool (decide ((w64 (s2.1 + x5)) ≥ 0))), .eq (.bool (decide ((w64 (s2.1 + x5)) ≥ 0))), .eq (I (w64 (s2.1 + x5))), .eq (I (len p2)), .eq (.bool (decide ((w64 (s2.1 + x5)) < (len p2)))), .eq (.bool ((decide ((w64 (s2.1 + x5)) ≥ 0)) && (decide ((w64 (s2.1 + x5)) < (len p2)))))]
               [(0, B b1 0), (1, I p1), (3, L a2 p3 c2), (9, I (len p2)), (10, I x1), (11, L a3 x2 c3), (12, I s1.1), (13, L a6 x4 c6), (14, I s2.1), (15, I (w64 (s2.1 + x5))), (16, I x1), (45, I (len x2)), (46, I s2.1), (68, .bool ((decide ((w64 (s2.1 + x5)) ≥ 0)) && (decide ((w64 (s2.1 + x5)) < (len p2)))))] mix hF (by kernel_rfl) (by kernel_rfl) (by kernel_rfl) trivial (fun hG => trivial) (by kernel_rfl) fun fr w11 hF hE hc => then_normal ?_)
           have ra3 := ra3.ext hc
           have hs := hs.ext hc
           have hM2 := hM2.ext hc
           refine (wp_if hF (b := ((decide ((w64 (s2.1 + x5)) ≥ 0)) && (decide ((w64 (s2.1 + x5)) < (len p2))))) rfl (fun hb => ?_) (fun hb => ?_))
           · replace h := iteT hb h
             refine (wp_text' ?_)
             refine from_pure 2 [(0, B b1 0), (1, I p1), (3, L a2 p3 c2), (9, I (len p2)), (10, I x1), (11, L a3 x2 c3), (12, I s1.1), (13, L a6 x4 c6), (14, I s2.1), (45, I (len x2)), (46, I s2.1), (69, L a6 x4 c6), (70, I (w64 (s2.1 + x5)))] hF (by kernel_rfl) fun fr hF => ?_
             obtain ⟨x16, hx16, h⟩ := bindE h
             refine s_elemF (z := x16) (I x16) ty3 Try.underlying37 rfl rfl rfl rfl rfl hF rfl (hs.rv 0 rfl) rfl (get?_nn hx16) (get?_at hx16) rfl fun p fr hF => ?_
             refine from_pure 1 [(0, B b1 0), (1, I p1), (3, L a2 p3 c2), (9, I (len p2)), (10, I x1), (11, L a3 x2 c3), (12, I s1.1), (13, L a6 x4 c6), (14, I s2.1), (16, I x16), (45, I (len x2)), (46, I s2.1)] hF (by kernel_rfl) fun fr hF => ?_
             refine from_end rfl (then_normal ?_)
             refine (wp_ra mix ?_)
             refine ra_hoist 1 (by kernel_rfl) (fun _ _ _ _ _ h => h) ?_
             refine ra_hoist 0 (by kernel_rfl) (fun _ _ _ _ _ h => h) ?_
             obtain ⟨x17, hx17, h⟩ := bindE h
             obtain ⟨x18, hx18, h⟩ := bindE h
             refine (ra_bm 12 [0, 1, 3, 3, 3, 27, 59, 3, 3, 3, 771, 1795, 4095, 8191, 16383] [true, true, true, true, true, false, false, true, true, true, false, false]
                 [.eq (L a3 x2 c3), .eq (I s2.1), .eq (B b1 0), .eq (L a2 p3 c2), .eq (I s1.1), .is fun v w => ElemP w (fun k => k < w11.heap.size) v (x17 : Int), .eq (I x17), .eq (I x16), .eq (L a6 x4 c6), .eq (I s2.1), .is fun v w => ElemP w (fun k => k < w11.heap.size) v (x18 : Int), .eq (I x18), .any, .any, .any]
                 [(0, B b1 0), (1, I p1), (3, L a2 p3 c2), (9, I (len p2)), (10, I x1), (11, L a3 x2 c3), (12, I s1.1), (13, L a6 x4 c6), (45, I (len x2)), (46, I s2.1), (73, L a3 x2 c3), (74, I s2.1), (75, B b1 0), (79, I x17), (80, I x16), (84, I x18)] hF (by kernel_rfl) (by kernel_rfl) (by kernel_rfl) (by kernel_rfl) ⟨(Pd.monoO_is mono_elem), Pd.monoO_eq, (Pd.monoO_is mono_elem), Pd.monoO_eq, trivial⟩ (fun ow hG => ⟨np_to ow (np_index hG hF ty3 Try.underlying37 rfl rfl (RV.sub (ra3) fun k hk _ => hk) rfl rfl (fun hg => ⟨get?_nn hx17, get?_at hx17⟩)), np_to ow (np_loadF (z := x17) (i := 5) hG hF ty3 rfl rfl rfl rfl rfl rfl rfl), np_to ow (np_index hG hF ty3 Try.underlying37 rfl rfl (RV.sub (hs.rv 0 rfl) fun k hk _ => hk) rfl rfl (fun hg => ⟨get?_nn hx18, get?_at hx18⟩)), np_to ow (np_loadF (z := x18) (i := 10) hG hF ty3 rfl rfl rfl rfl rfl rfl rfl), trivial⟩) (by kernel_rfl) fun ow fr w12 hF hE hc => ?_)
             have ra3 := ra3.ext hc
             have hs := hs.ext hc
             have hM2 := hM2.ext hc
             obtain ⟨x19, hx19, h⟩ := bindE h
             have hs : Sep [BX b1 83 [I s2.2.2.1, L a7 s2.2.2.2.2.1 c7, .map (some b2), .bool s2.2.2.2.1], sl59 (L a7 s2.2.2.2.2.1 c7) s2.2.2.2.2.1, MP map81 b2 s2.2.2.2.2.2, sl3 (L a6 x4 c6) x4, sl3 (L a3 x2 c3) s2.2.1] w12 S5 := Sep.pick [2, 3, 4, 0, 1] hs (by decide) rfl
             obtain ⟨A3, R3, hsA, hsR, hdA, hbA, hup⟩ := Sep.call (L1 := [BX b1 83 [I s2.2.2.1, L a7 s2.2.2.2.2.1 c7, .map (some b2), .bool s2.2.2.2.1], sl59 (L a7 s2.2.2.2.2.1 c7) s2.2.2.2.2.1, MP map81 b2 s2.2.2.2.2.2]) (L2 := [sl3 (L a6 x4 c6) x4, sl3 (L a3 x2 c3) s2.2.1]) hs hM2
             refine s_call [B b1 0, I x17, I x16, I x18] Try.call63 rfl rfl hF rfl (impl_builder_choose_ok (D.builder.mk (D.Circuit.mk s2.2.2.1 s2.2.2.2.2.1) s2.2.2.2.2.2 s2.2.2.2.1) x17 x16 x18 hx19 hsA hbA hdA) fun v w13 fr hRes hF => ?_
             obtain ⟨a11, c11, rfl, _, hp, hs⟩ := hRes
             obtain ⟨S11, hp, hs⟩ := hup hp hs
             have ra3 := ra3.stp hM2 hp
             have hM2 := hM2.stp hp
             have hs : Sep [BX b1 83 [I x19.2.c.Inputs, L a11 x19.2.c.Gates c11, .map (some b2), .bool x19.2.full], sl59 (L a11 x19.2.c.Gates c11) x19.2.c.Gates, MP map81 b2 x19.2.line, sl3 (L a6 x4 c6) x4, sl3 (L a3 x2 c3) s2.2.1] w13 S11 := hs
             obtain ⟨x20, hx20, h⟩ := bindE h
             refine q_set (q := x19.1) 4 hs hM2 rfl Try.underlying37 ty3 rfl rfl rfl rfl hF rfl rfl (by simp) rfl rfl hx20 fun w14 S12 fr _ hs hp hF => ?_
             have ra3 := ra3.stp hM2 hp
             have hM2 := hM2.stp hp
             have hs : Sep [BX b1 83 [I x19.2.c.Inputs, L a11 x19.2.c.Gates c11, .map (some b2), .bool x19.2.full], sl59 (L a11 x19.2.c.Gates c11) x19.2.c.Gates, MP map81 b2 x19.2.line, sl3 (L a6 x4 c6) x4, sl3 (L a3 x2 c3) x20] w14 S12 := hs
             refine from_end rfl ?_
             refine blk_normal (then_normal ?_)
             refine (wp_pure [(0, B b1 0), (1, I p1), (3, L a2 p3 c2), (9, I (len p2)), (10, I x1), (11, L a3 x2 c3), (12, I s1.1), (13, L a6 x4 c6), (45, I (len x2)), (46, I (w64 (s2.1 + 1)))] hF (by kernel_rfl) fun fr hF => then_normal ?_)
             have hs : Sep [sl3 (L a6 x4 c6) x4, sl3 (L a3 x2 c3) x20, BX b1 83 [I x19.2.c.Inputs, L a11 x19.2.c.Gates c11, .map (some b2), .bool x19.2.full], sl59 (L a11 x19.2.c.Gates c11) x19.2.c.Gates, MP map81 b2 x19.2.line] w14 S12 := Sep.pick [3, 4, 0, 1, 2] hs (by decide) rfl
             exact ⟨_, (Option.some.inj h).symm, a11, c11, S12, _, hF.sub _ (by kernel_rfl), hM2, hs⟩
           replace h := iteF hb h
           refine (wp_skip (then_normal ?_))
           refine (wp_ra mix ?_)
           refine ra_hoist 1 (by kernel_rfl) (fun _ _ _ _ _ h => h) ?_
           refine ra_hoist 0 (by kernel_rfl) (fun _ _ _ _ _ h => h) ?_
           obtain ⟨x21, hx21, h⟩ := bindE h
           obtain ⟨x22, hx22, h⟩ := bindE h
           refine (ra_bm 12 [0, 1, 3, 3, 3, 27, 59, 3, 3, 3, 771, 1795, 4095, 8191, 16383] [true, true, true, true, true, false, false, true, true, true, false, false]
               [.eq (L a3 x2 c3), .eq (I s2.1), .eq (B b1 0), .eq (L a2 p3 c2), .eq (I s1.1), .is fun v w => ElemP w (fun k => k < w11.heap.size) v (x21 : Int), .eq (I x21), .eq (I x1), .eq (L a6 x4 c6), .eq (I s2.1), .is fun v w => ElemP w (fun k => k < w11.heap.size) v (x22 : Int), .eq (I x22), .any, .any, .any]
               [(0, B b1 0), (1, I p1), (3, L a2 p3 c2), (9, I (len p2)), (10, I x1), (11, L a3 x2 c3), (12, I s1.1), (13, L a6 x4 c6), (45, I (len x2)), (46, I s2.1), (73, L a3 x2 c3), (74, I s2.1), (75, B b1 0), (79, I x21), (80, I x1), (84, I x22)] hF (by kernel_rfl) (by kernel_rfl) (by kernel_rfl) (by kernel_rfl) ⟨(Pd.monoO_is mono_elem), Pd.monoO_eq, (Pd.monoO_is mono_elem), Pd.monoO_eq, trivial⟩ (fun ow hG => ⟨np_to ow (np_index hG hF ty3 Try.underlying37 rfl rfl (RV.sub (ra3) fun k hk _ => hk) rfl rfl (fun hg => ⟨get?_nn hx21, get?_at hx21⟩)), np_to ow (np_loadF (z := x21) (i := 5) hG hF ty3 rfl rfl rfl rfl rfl rfl rfl), np_to ow (np_index hG hF ty3 Try.underlying37 rfl rfl (RV.sub (hs.rv 0 rfl) fun k hk _ => hk) rfl rfl (fun hg => ⟨get?_nn hx22, get?_at hx22⟩)), np_to ow (np_loadF (z := x22) (i := 10) hG hF ty3 rfl rfl rfl rfl rfl rfl rfl), trivial⟩) (by kernel_rfl) fun ow fr w15 hF hE hc => ?_)
           have ra3 := ra3.ext hc
           have hs := hs.ext hc
           have hM2 := hM2.ext hc
           obtain ⟨x23, hx23, h⟩ := bindE h
           have hs : Sep [BX b1 83 [I s2.2.2.1, L a7 s2.2.2.2.2.1 c7, .map (some b2), .bool s2.2.2.2.1], sl59 (L a7 s2.2.2.2.2.1 c7) s2.2.2.2.2.1, MP map81 b2 s2.2.2.2.2.2, sl3 (L a6 x4 c6) x4, sl3 (L a3 x2 c3) s2.2.1] w15 S5 := Sep.pick [2, 3, 4, 0, 1] hs (by decide) rfl
           obtain ⟨A4, R4, hsA, hsR, hdA, hbA, hup⟩ := Sep.call (L1 := [BX b1 83 [I s2.2.2.1, L a7 s2.2.2.2.2.1 c7, .map (some b2), .bool s2.2.2.2.1], sl59 (L a7 s2.2.2.2.2.1 c7) s2.2.2.2.2.1, MP map81 b2 s2.2.2.2.2.2]) (L2 := [sl3 (L a6 x4 c6) x4, sl3 (L a3 x2 c3) s2.2.1]) hs hM2
           refine s_call [B b1 0, I x21, I x1, I x22] Try.call63 rfl rfl hF rfl (impl_builder_choose_ok (D.builder.mk (D.Circuit.mk s2.2.2.1 s2.2.2.2.2.1) s2.2.2.2.2.2 s2.2.2.2.1) x21 x1 x22 hx23 hsA hbA hdA) fun v w16 fr hRes hF => ?_
           obtain ⟨a12, c12, rfl, _, hp, hs⟩ := hRes
           obtain ⟨S13, hp, hs⟩ := hup hp hs
           have ra3 := ra3.stp hM2 hp
           have hM2 := hM2.stp hp
           have hs : Sep [BX b1 83 [I x23.2.c.Inputs, L a12 x23.2.c.Gates c12, .map (some b2), .bool x23.2.full], sl59 (L a12 x23.2.c.Gates c12) x23.2.c.Gates, MP map81 b2 x23.2.line, sl3 (L a6 x4 c6) x4, sl3 (L a3 x2 c3) s2.2.1] w16 S13 := hs
           obtain ⟨x24, hx24, h⟩ := bindE h
           refine q_set (q := x23.1) 4 hs hM2 rfl Try.underlying37 ty3 rfl rfl rfl rfl hF rfl rfl (by simp) rfl rfl hx24 fun w17 S14 fr _ hs hp hF => ?_
           have ra3 := ra3.stp hM2 hp
           have hM2 := hM2.stp hp
           have hs : Sep [BX b1 83 [I x23.2.c.Inputs, L a12 x23.2.c.Gates c12, .map (some b2), .bool x23.2.full], sl59 (L a12 x23.2.c.Gates c12) x23.2.c.Gates, MP map81 b2 x23.2.line, sl3 (L a6 x4 c6) x4, sl3 (L a3 x2 c3) x24] w17 S14 := hs
           refine from_end rfl ?_
           refine blk_normal (then_normal ?_)
           refine (wp_pure [(0, B b1 0), (1, I p1), (3, L a2 p3 c2), (9, I (len p2)), (10, I x1), (11, L a3 x2 c3), (12, I s1.1), (13, L a6 x4 c6), (45, I (len x2)), (46, I (w64 (s2.1 + 1)))] hF (by kernel_rfl) fun fr hF => then_normal ?_)
           have hs : Sep [sl3 (L a6 x4 c6) x4, sl3 (L a3 x2 c3) x24, BX b1 83 [I x23.2.c.Inputs, L a12 x23.2.c.Gates c12, .map (some b2), .bool x23.2.full], sl59 (L a12 x23.2.c.Gates c12) x23.2.c.Gates, MP map81 b2 x23.2.line] w17 S14 := Sep.pick [3, 4, 0, 1, 2] hs (by decide) rfl
           exact ⟨_, (Option.some.inj h).symm, a12, c12, S14, _, hF.sub _ (by kernel_rfl), hM2, hs⟩
         replace h := iteF hb h
         have hs : Sep [sl3 (L a3 x2 c3) s2.2.1, BX b1 83 [I s2.2.2.1, L a7 s2.2.2.2.2.1 c7, .map (some b2), .bool s2.2.2.2.1], sl59 (L a7 s2.2.2.2.2.1 c7) s2.2.2.2.2.1, MP map81 b2 s2.2.2.2.2.2] w2i S5 := Sep.pick [1, 2, 3, 4] hs (by decide) rfl
         refine (wp_exit (then_exit (then_exit (blk_exit_eq ?_))))
         obtain rfl := hr2 _ (Option.some.inj h).symm
         exact then_normal ⟨a7, c7, S5, _, hF.sub _ (by kernel_rfl), hM2, hs⟩
       · obtain ⟨a8, c8, S6, F4, hF, hMx, hs⟩ := hM
         have ra3 := ra3.mem hMx
         have hM1 := hM1.trans hMx
         refine blk_normal (then_normal ?_)
         refine (wp_pure [(0, B b1 0), (1, I p1), (3, L a2 p3 c2), (9, I (len p2)), (10, I x1), (11, L a3 x2 c3), (12, I (w64 (s1.1 + 1)))] hF (by kernel_rfl) fun fr hF => then_normal ?_)
         exact ⟨_, (Option.some.inj h).symm, a8, c8, S6, _, hF.sub _ (by kernel_rfl), hM1, hs⟩
     replace h := iteF hb h
     refine (wp_exit (then_exit (then_exit (blk_exit_eq ?_))))
     obtain rfl := hr1 _ (Option.some.inj h).symm
     exact then_normal ⟨a4, c4, S2, _, hF.sub _ (by kernel_rfl), hM1, hs⟩
   · obtain ⟨a5, c5, S3, F2, hF, hMx, hs⟩ := hM
     have ra3 := ra3.mem hMx
     have hM0 := hM0.trans hMx
     refine wp_seq ?_
     refine wp_seq (wp_pure [(0, B b1 0), (3, L a2 p3 c2), (9, I (len p2)), (10, I x1), (11, L a3 x2 c3), (12, I rl1.1), (90, .bool (decide (rl1.1 < (len p2))))] hF (by kernel_rfl) fun fr hF => then_normal ?_)
     refine (wp_if hF (b := (decide (rl1.1 < (len p2)))) rfl (fun hb => ?_) (fun hb => ?_))
     · replace h := iteT hb h
       refine wp_seq (wp_pure [(0, B b1 0), (3, L a2 p3 c2), (9, I (len p2)), (10, I x1), (11, L a3 x2 c3), (12, I rl1.1), (17, I (-1))] hF (by kernel_rfl) fun fr hF => then_normal ?_)
       obtain ⟨rl3, hit3, h⟩ := bindE h
       have hk3 := h
       refine wp_seq (wp_cut (M := fun fr w' => ∃ a14 c14 S16 F6, FrS 121 [(0, B b1 0), (10, I x1), (11, L a3 x2 c3), (17, I rl3.1)] fr ∧ Mem w1o S3 F2 w' S16 F6 ∧ Sep [sl3 (L a3 x2 c3) rl1.2.1, BX b1 83 [I rl3.2.1, L a14 rl3.2.2.2.1 c14, .map (some b2), .bool rl3.2.2.1], sl59 (L a14 rl3.2.2.2.1 c14) rl3.2.2.2.1, MP map81 b2 rl3.2.2.2.2] w' S16) (wp_block (wp_iter (Inv := fun s3 fr w' => ∃ a13 c13 S15 F5, FrS 121 [(0, B b1 0), (3, L a2 p3 c2), (9, I (len p2)), (10, I x1), (11, L a3 x2 c3), (12, I s3.1), (17, I s3.2.1)] fr ∧ Mem w1o S3 F2 w' S15 F5 ∧ Sep [sl3 (L a3 x2 c3) rl1.2.1, BX b1 83 [I s3.2.2.1, L a13 s3.2.2.2.2.1 c13, .map (some b2), .bool s3.2.2.2.1], sl59 (L a13 s3.2.2.2.2.1 c13) s3.2.2.2.2.1, MP map81 b2 s3.2.2.2.2.2] w' S15) hit3 ⟨a5, c5, S3, _, hF.sub _ (by kernel_rfl), (Mem.start hM0.bd hM0.bdF hM0.dj), hs⟩ fun s3 q3 fr w3i hI h hr3 => ?_)) fun fr w3o hM => ?_)
       · obtain ⟨a13, c13, S15, F5, hF, hM1, hs⟩ := hI
         have ra3 := ra3.mem hM1
         refine wp_seq ?_
         refine wp_seq (wp_pure [(0, B b1 0), (3, L a2 p3 c2), (9, I (len p2)), (10, I x1), (11, L a3 x2 c3), (12, I s3.1), (17, I s3.2.1), (93, .bool (decide (s3.1 < (len p2))))] hF (by kernel_rfl) fun fr hF => then_normal ?_)
         refine (wp_if hF (b := (decide (s3.1 < (len p2)))) rfl (fun hb => ?_) (fun hb => ?_))
         · replace h := iteT hb h
           refine (wp_skip (then_normal ?_))
           refine wp_seq (wp_block ?_)
           refine (wp_text' ?_)
           refine from_pure 4 [(0, B b1 0), (3, L a2 p3 c2), (9, I (len p2)), (10, I x1), (11, L a3 x2 c3), (12, I s3.1), (96, B b1 0), (97, I s3.2.1), (98, L a2 p3 c2), (99, I s3.1)] hF (by kernel_rfl) fun fr hF => ?_
           obtain ⟨x25, hx25, h⟩ := bindE h
           refine s_elemF (z := x25) (I x25) ty3 Try.underlying37 rfl rfl rfl rfl rfl hF rfl (ra3) rfl (get?_nn hx25) (get?_at hx25) rfl fun p fr hF => ?_
           obtain ⟨x26, hx26, h⟩ := bindE h
           have hs : Sep [BX b1 83 [I s3.2.2.1, L a13 s3.2.2.2.2.1 c13, .map (some b2), .bool s3.2.2.2.1], sl59 (L a13 s3.2.2.2.2.1 c13) s3.2.2.2.2.1, MP map81 b2 s3.2.2.2.2.2, sl3 (L a3 x2 c3) rl1.2.1] w3i S15 := Sep.pick [1, 2, 3, 0] hs (by decide) rfl
           obtain ⟨A5, R5, hsA, hsR, hdA, hbA, hup⟩ := Sep.call (L1 := [BX b1 83 [I s3.2.2.1, L a13 s3.2.2.2.2.1 c13, .map (some b2), .bool s3.2.2.2.1], sl59 (L a13 s3.2.2.2.2.1 c13) s3.2.2.2.2.1, MP map81 b2 s3.2.2.2.2.2]) (L2 := [sl3 (L a3 x2 c3) rl1.2.1]) hs hM1
           refine s_call [B b1 0, I s3.2.1, I x25] Try.call57 rfl rfl hF rfl (impl_builder_or_ok (D.builder.mk (D.Circuit.mk s3.2.2.1 s3.2.2.2.2.1) s3.2.2.2.2.2 s3.2.2.2.1) s3.2.1 x25 hx26 hsA hbA hdA) fun v w18 fr hRes hF => ?_
           obtain ⟨a15, c15, rfl, _, hp, hs⟩ := hRes
           obtain ⟨S17, hp, hs⟩ := hup hp hs
           have ra3 := ra3.stp hM1 hp
           have hM1 := hM1.stp hp
           have hs : Sep [BX b1 83 [I x26.2.c.Inputs, L a15 x26.2.c.Gates c15, .map (some b2), .bool x26.2.full], sl59 (L a15 x26.2.c.Gates c15) x26.2.c.Gates, MP map81 b2 x26.2.line, sl3 (L a3 x2 c3) rl1.2.1] w18 S17 := hs
           refine from_pure 1 [(0, B b1 0), (3, L a2 p3 c2), (9, I (len p2)), (10, I x1), (11, L a3 x2 c3), (12, I s3.1), (17, I x26.1)] hF (by kernel_rfl) fun fr hF => ?_
           refine from_end rfl ?_
           refine blk_normal (then_normal ?_)
           refine (wp_pure [(0, B b1 0), (3, L a2 p3 c2), (9, I (len p2)), (10, I x1), (11, L a3 x2 c3), (12, I (w64 (s3.1 + 1))), (17, I x26.1)] hF (by kernel_rfl) fun fr hF => then_normal ?_)
           have hs : Sep [sl3 (L a3 x2 c3) rl1.2.1, BX b1 83 [I x26.2.c.Inputs, L a15 x26.2.c.Gates c15, .map (some b2), .bool x26.2.full], sl59 (L a15 x26.2.c.Gates c15) x26.2.c.Gates, MP map81 b2 x26.2.line] w18 S17 := Sep.pick [3, 0, 1, 2] hs (by decide) rfl
           exact ⟨_, (Option.some.inj h).symm, a15, c15, S17, _, hF.sub _ (by kernel_rfl), hM1, hs⟩
         replace h := iteF hb h
         refine (wp_exit (then_exit (then_exit (blk_exit_eq ?_))))
         obtain rfl := hr3 _ (Option.some.inj h).symm
         exact then_normal ⟨a13, c13, S15, _, hF.sub _ (by kernel_rfl), hM1, hs⟩
       · obtain ⟨a14, c14, S16, F6, hF, hMx, hs⟩ := hM
         have hM0 := hM0.trans hMx
         refine wp_seq (wp_pure [(0, B b1 0), (10, I x1), (11, L a3 x2 c3), (17, I rl3.1), (104, I (len x2)), (105, I 0)] hF (by kernel_rfl) fun fr hF => then_normal ?_)
         obtain ⟨rl4, hit4, h⟩ := bindE h
         have hk4 := h
         refine (wp_cut (M := fun fr w' => ∃ a17 c17 S19 F8, FrS 121 [(11, L a3 x2 c3)] fr ∧ Mem w3o S16 F6 w' S19 F8 ∧ Sep [sl3 (L a3 x2 c3) rl4.1, BX b1 83 [I rl4.2.1, L a17 rl4.2.2.2.1 c17, .map (some b2), .bool rl4.2.2.1], sl59 (L a17 rl4.2.2.2.1 c17) rl4.2.2.2.1, MP map81 b2 rl4.2.2.2.2] w' S19) (wp_block (wp_iter (Inv := fun s4 fr w' => ∃ a16 c16 S18 F7, FrS 121 [(0, B b1 0), (10, I x1), (11, L a3 x2 c3), (17, I rl3.1), (104, I (len x2)), (105, I s4.1)] fr ∧ Mem w3o S16 F6 w' S18 F7 ∧ Sep [sl3 (L a3 x2 c3) s4.2.1, BX b1 83 [I s4.2.2.1, L a16 s4.2.2.2.2.1 c16, .map (some b2), .bool s4.2.2.2.1], sl59 (L a16 s4.2.2.2.2.1 c16) s4.2.2.2.2.1, MP map81 b2 s4.2.2.2.2.2] w' S18) hit4 ⟨a14, c14, S16, _, hF.sub _ (by kernel_rfl), (Mem.start hM0.bd hM0.bdF hM0.dj), hs⟩ fun s4 q4 fr w4i hI h hr4 => ?_)) fun fr w4o hM => ?_)
         · obtain ⟨a16, c16, S18, F7, hF, hM1, hs⟩ := hI
           refine wp_seq (wp_pure [(0, B b1 0), (10, I x1), (11, L a3 x2 c3), (17, I rl3.1), (104, I (len x2)), (105, I s4.1), (106, .bool (decide (s4.1 < (len x2))))] hF (by kernel_rfl) fun fr hF => then_normal ?_)
           refine wp_seq (wp_if hF (b := (decide (s4.1 < (len x2)))) rfl (fun hb => ?_) (fun hb => ?_))
           · replace h := iteT hb h
             refine (wp_skip (then_normal ?_))
             refine wp_seq (wp_block ?_)
             refine wp_seq (wp_pure [(0, B b1 0), (10, I x1), (11, L a3 x2 c3), (17, I rl3.1), (18, I s4.1), (104, I (len x2)), (105, I s4.1)] hF (by kernel_rfl) fun fr hF => then_normal ?_)
             refine (wp_text' ?_)
             refine from_pure 7 [(0, B b1 0), (10, I x1), (11, L a3 x2 c3), (17, I rl3.1), (104, I (len x2)), (105, I s4.1), (108, L a3 x2 c3), (109, I s4.1), (110, B b1 0), (111, I rl3.1), (112, I x1), (113, L a3 x2 c3), (114, I s4.1)] hF (by kernel_rfl) fun fr hF => ?_
             obtain ⟨x27, hx27, h⟩ := bindE h
             refine s_elemF (z := x27) (I x27) ty3 Try.underlying37 rfl rfl rfl rfl rfl hF rfl (hs.rv 0 rfl) rfl (get?_nn hx27) (get?_at hx27) rfl fun p fr hF => ?_
             obtain ⟨x28, hx28, h⟩ := bindE h
             have hs : Sep [BX b1 83 [I s4.2.2.1, L a16 s4.2.2.2.2.1 c16, .map (some b2), .bool s4.2.2.2.1], sl59 (L a16 s4.2.2.2.2.1 c16) s4.2.2.2.2.1, MP map81 b2 s4.2.2.2.2.2, sl3 (L a3 x2 c3) s4.2.1] w4i S18 := Sep.pick [1, 2, 3, 0] hs (by decide) rfl
             obtain ⟨A6, R6, hsA, hsR, hdA, hbA, hup⟩ := Sep.call (L1 := [BX b1 83 [I s4.2.2.1, L a16 s4.2.2.2.2.1 c16, .map (some b2), .bool s4.2.2.2.1], sl59 (L a16 s4.2.2.2.2.1 c16) s4.2.2.2.2.1, MP map81 b2 s4.2.2.2.2.2]) (L2 := [sl3 (L a3 x2 c3) s4.2.1]) hs hM1
             refine s_call [B b1 0, I rl3.1, I x1, I x27] Try.call63 rfl rfl hF rfl (impl_builder_choose_ok (D.builder.mk (D.Circuit.mk s4.2.2.1 s4.2.2.2.2.1) s4.2.2.2.2.2 s4.2.2.2.1) rl3.1 x1 x27 hx28 hsA hbA hdA) fun v w19 fr hRes hF => ?_
             obtain ⟨a18, c18, rfl, _, hp, hs⟩ := hRes
             obtain ⟨S20, hp, hs⟩ := hup hp hs
             have hM1 := hM1.stp hp
             have hs : Sep [BX b1 83 [I x28.2.c.Inputs, L a18 x28.2.c.Gates c18, .map (some b2), .bool x28.2.full], sl59 (L a18 x28.2.c.Gates c18) x28.2.c.Gates, MP map81 b2 x28.2.line, sl3 (L a3 x2 c3) s4.2.1] w19 S20 := hs
             obtain ⟨x29, hx29, h⟩ := bindE h
             refine q_set (q := x28.1) 3 hs hM1 rfl Try.underlying37 ty3 rfl rfl rfl rfl hF rfl rfl (by simp) rfl rfl hx29 fun w20 S21 fr _ hs hp hF => ?_
             have hM1 := hM1.stp hp
             have hs : Sep [BX b1 83 [I x28.2.c.Inputs, L a18 x28.2.c.Gates c18, .map (some b2), .bool x28.2.full], sl59 (L a18 x28.2.c.Gates c18) x28.2.c.Gates, MP map81 b2 x28.2.line, sl3 (L a3 x2 c3) x29] w20 S21 := hs
             refine from_end rfl ?_
             refine blk_normal (then_normal ?_)
             refine (wp_pure [(0, B b1 0), (10, I x1), (11, L a3 x2 c3), (17, I rl3.1), (104, I (len x2)), (105, I (w64 (s4.1 + 1)))] hF (by kernel_rfl) fun fr hF => then_normal ?_)
             have hs : Sep [sl3 (L a3 x2 c3) x29, BX b1 83 [I x28.2.c.Inputs, L a18 x28.2.c.Gates c18, .map (some b2), .bool x28.2.full], sl59 (L a18 x28.2.c.Gates c18) x28.2.c.Gates, MP map81 b2 x28.2.line] w20 S21 := Sep.pick [3, 0, 1, 2] hs (by decide) rfl
             exact ⟨_, (Option.some.inj h).symm, a18, c18, S21, _, hF.sub _ (by kernel_rfl), hM1, hs⟩
           replace h := iteF hb h
           refine (wp_exit (then_exit (then_exit (blk_exit_eq ?_))))
           obtain rfl := hr4 _ (Option.some.inj h).symm
           exact then_normal ⟨a16, c16, S18, _, hF.sub _ (by kernel_rfl), hM1, hs⟩
         · obtain ⟨a17, c17, S19, F8, hF, hMx, hs⟩ := hM
           have hM0 := hM0.trans hMx
           refine wp_seq (wp_pure [(8, L a3 x2 c3)] hF (by kernel_rfl) fun fr hF => then_normal ?_)
           obtain rfl := Option.some.inj h
           obtain ⟨he1, hs⟩ := hs.relen 0 rfl
           have hs : Sep [sl3 (L a3 rl4.1 c3) rl4.1, BX b1 83 [I rl4.2.1, L a17 rl4.2.2.2.1 c17, .map (some b2), .bool rl4.2.2.1], sl59 (L a17 rl4.2.2.2.1 c17) rl4.2.2.2.1, MP map81 b2 rl4.2.2.2.2] w4o S19 := hs
           exact wp_ret (ret1 rfl hF rfl ⟨_, rfl, a3, c3, a17, c17, (by simp only [L, he1]), S19, hM0.out, hs⟩)
     replace h := iteF hb h
     refine (wp_skip (then_normal ?_))
     refine wp_seq (wp_pure [(8, L a3 x2 c3)] hF (by kernel_rfl) fun fr hF => then_normal ?_)
     obtain rfl := Option.some.inj h
     obtain ⟨he2, hs⟩ := hs.relen 0 rfl
     have hs : Sep [sl3 (L a3 rl1.2.1 c3) rl1.2.1, BX b1 83 [I rl1.2.2.1, L a5 rl1.2.2.2.2.1 c5, .map (some b2), .bool rl1.2.2.2.1], sl59 (L a5 rl1.2.2.2.2.1 c5) rl1.2.2.2.2.1, MP map81 b2 rl1.2.2.2.2.2] w1o S3 := hs
     exact wp_ret (ret1 rfl hF rfl ⟨_, rfl, a3, c3, a5, c5, (by simp only [L, he2]), S3, hM0.out, hs⟩)
 replace h := iteF hb h
 refine (wp_skip (then_normal ?_))
 refine wp_seq (wp_text' ?_)
 refine from_pure 1 [(0, B b1 0), (1, I p1), (3, L a2 p3 c2), (9, I (len p2)), (10, I (-1)), (28, L a1 p2 c1)] hF (by kernel_rfl) fun fr hF => ?_
 obtain ⟨x30, hx30, h⟩ := bindE h
 refine s_call [L a1 p2 c1] Try.call108 rfl rfl hF rfl (slices_Clone___int_int__ok p2 hx30 (ra2)) fun v w21 fr hRes hF => ?_
 obtain ⟨a19, c19, rfl, _, hp, hs2⟩ := hRes
 obtain ⟨S22, hp, hs⟩ := hs.got hM0 hp hs2
 have ra3 := ra3.stp hM0 hp
 have ra2 := ra2.stp hM0 hp
 have hM0 := hM0.stp hp
 have hs : Sep [sl3 (L a19 x30 c19) x30, BX b1 83 [I p0.c.Inputs, L pa0 p0.c.Gates pc0, .map (some b2), .bool p0.full], sl59 (L pa0 p0.c.Gates pc0) p0.c.Gates, MP map81 b2 p0.line] w21 S22 := hs
 refine from_pure 1 [(0, B b1 0), (1, I p1), (3, L a2 p3 c2), (9, I (len p2)), (10, I (-1)), (11, L a19 x30 c19)] hF (by kernel_rfl) fun fr hF => ?_
 refine from_end rfl (then_normal ?_)
 refine wp_seq (wp_pure [(0, B b1 0), (1, I p1), (3, L a2 p3 c2), (9, I (len p2)), (10, I (-1)), (11, L a19 x30 c19), (12, I 0)] hF (by kernel_rfl) fun fr hF => then_normal ?_)
 obtain ⟨rl5, hit5, h⟩ := bindE h
 have hk5 := h
 refine wp_seq (wp_cut (M := fun fr w' => ∃ a21 c21 S24 F10, FrS 121 [(0, B b1 0), (3, L a2 p3 c2), (9, I (len p2)), (10, I (-1)), (11, L a19 x30 c19), (12, I rl5.1)] fr ∧ Mem w21 S22 (fun k => F0 k ∧ k < w.heap.size) w' S24 F10 ∧ Sep [sl3 (L a19 x30 c19) rl5.2.1, BX b1 83 [I rl5.2.2.1, L a21 rl5.2.2.2.2.1 c21, .map (some b2), .bool rl5.2.2.2.1], sl59 (L a21 rl5.2.2.2.2.1 c21) rl5.2.2.2.2.1, MP map81 b2 rl5.2.2.2.2.2] w' S24) (wp_block (wp_iter (Inv := fun s5 fr w' => ∃ a20 c20 S23 F9, FrS 121 [(0, B b1 0), (1, I p1), (3, L a2 p3 c2), (9, I (len p2)), (10, I (-1)), (11, L a19 x30 c19), (12, I s5.1)] fr ∧ Mem w21 S22 (fun k => F0 k ∧ k < w.heap.size) w' S23 F9 ∧ Sep [sl3 (L a19 x30 c19) s5.2.1, BX b1 83 [I s5.2.2.1, L a20 s5.2.2.2.2.1 c20, .map (some b2), .bool s5.2.2.2.1], sl59 (L a20 s5.2.2.2.2.1 c20) s5.2.2.2.2.1, MP map81 b2 s5.2.2.2.2.2] w' S23) hit5 ⟨pa0, pc0, S22, _, hF.sub _ (by kernel_rfl), (Mem.start hM0.bd hM0.bdF hM0.dj), hs⟩ fun s5 q5 fr w5i hI h hr5 => ?_)) fun fr w5o hM => ?_)
 · obtain ⟨a20, c20, S23, F9, hF, hM1, hs⟩ := hI
   have ra3 := ra3.mem hM1
   refine wp_seq ?_
   obtain ⟨x31, hx31, h⟩ := bindE h
   refine wp_seq (region_b [] [true, true, true, true, true, true, false, true, true, true]
       [.eq (I s5.1), .eq (I (len p2)), .eq (.bool (decide (s5.1 < (len p2)))), .eq (.bool (decide (s5.1 < (len p2)))), .eq (I s5.1), .eq (.int .u64 (IntKind.u64.wrap s5.1)), .eq (I x31), .eq (I (len p2)), .eq (.bool (decide (x31 < (len p2)))), .eq (.bool ((decide (s5.1 < (len p2))) && (decide (x31 < (len p2)))))]
       [(0, B b1 0), (1, I p1), (3, L a2 p3 c2), (9, I (len p2)), (10, I (-1)), (11, L a19 x30 c19), (12, I s5.1), (39, .bool ((decide (s5.1 < (len p2))) && (decide (x31 < (len p2)))))] mix hF (by kernel_rfl) (by kernel_rfl) (by kernel_rfl) ⟨Pd.mono_eq, trivial⟩ (fun hG => ⟨np_shl hG hF rfl rfl rfl (fun hg => (iteT hg.2 hx31)) rfl, trivial⟩) (by kernel_rfl) fun fr w22 hF hE hc => then_normal ?_)
   have ra3 := ra3.ext hc
   have hs := hs.ext hc
   have hM1 := hM1.ext hc
   refine (wp_if hF (b := ((decide (s5.1 < (len p2))) && (decide (x31 < (len p2))))) rfl (fun hb => ?_) (fun hb => ?_))
   · replace h := iteT hb h
     refine (wp_skip (then_normal ?_))
     refine wp_seq (wp_block ?_)
     refine wp_seq (wp_text' ?_)
     refine from_pure 1 [(0, B b1 0), (1, I p1), (3, L a2 p3 c2), (9, I (len p2)), (10, I (-1)), (11, L a19 x30 c19), (12, I s5.1), (42, L a19 x30 c19)] hF (by kernel_rfl) fun fr hF => ?_
     obtain ⟨x32, hx32, h⟩ := bindE h
     refine s_call [L a19 x30 c19] Try.call108 rfl rfl hF rfl (slices_Clone___int_int__ok s5.2.1 hx32 (hs.rv 0 rfl)) fun v w23 fr hRes hF => ?_
     obtain ⟨a22, c22, rfl, _, hp, hs2⟩ := hRes
     obtain ⟨S25, hp, hs⟩ := hs.got hM1 hp hs2
     have ra3 := ra3.stp hM1 hp
     have hM1 := hM1.stp hp
     have hs : Sep [sl3 (L a22 x32 c22) x32, sl3 (L a19 x30 c19) s5.2.1, BX b1 83 [I s5.2.2.1, L a20 s5.2.2.2.2.1 c20, .map (some b2), .bool s5.2.2.2.1], sl59 (L a20 s5.2.2.2.2.1 c20) s5.2.2.2.2.1, MP map81 b2 s5.2.2.2.2.2] w23 S25 := hs
     refine from_pure 1 [(0, B b1 0), (1, I p1), (3, L a2 p3 c2), (9, I (len p2)), (10, I (-1)), (11, L a19 x30 c19), (12, I s5.1), (13, L a22 x32 c22)] hF (by kernel_rfl) fun fr hF => ?_
     refine from_end rfl (then_normal ?_)
     refine wp_seq (wp_pure [(0, B b1 0), (1, I p1), (3, L a2 p3 c2), (9, I (len p2)), (10, I (-1)), (11, L a19 x30 c19), (12, I s5.1), (13, L a22 x32 c22), (45, I (len x30)), (46, I 0)] hF (by kernel_rfl) fun fr hF => then_normal ?_)
     obtain ⟨rl6, hit6, h⟩ := bindE h
     have hk6 := h
     refine (wp_cut' (M := fun fr w' => ∃ a24 c24 S27 F12, FrS 121 [(0, B b1 0), (1, I p1), (3, L a2 p3 c2), (9, I (len p2)), (10, I (-1)), (11, L a19 x30 c19), (12, I s5.1)] fr ∧ Mem w23 S25 F9 w' S27 F12 ∧ Sep [sl3 (L a19 x30 c19) rl6.1, BX b1 83 [I rl6.2.1, L a24 rl6.2.2.2.1 c24, .map (some b2), .bool rl6.2.2.1], sl59 (L a24 rl6.2.2.2.1 c24) rl6.2.2.2.1, MP map81 b2 rl6.2.2.2.2] w' S27) (wp_block (wp_iter (Inv := fun s6 fr w' => ∃ a23 c23 S26 F11, FrS 121 [(0, B b1 0), (1, I p1), (3, L a2 p3 c2), (9, I (len p2)), (10, I (-1)), (11, L a19 x30 c19), (12, I s5.1), (13, L a22 x32 c22), (45, I (len x30)), (46, I s6.1)] fr ∧ Mem w23 S25 F9 w' S26 F11 ∧ Sep [sl3 (L a22 x32 c22) x32, sl3 (L a19 x30 c19) s6.2.1, BX b1 83 [I s6.2.2.1, L a23 s6.2.2.2.2.1 c23, .map (some b2), .bool s6.2.2.2.1], sl59 (L a23 s6.2.2.2.2.1 c23) s6.2.2.2.2.1, MP map81 b2 s6.2.2.2.2.2] w' S26) hit6 ⟨a20, c20, S25, _, hF.sub _ (by kernel_rfl), (Mem.start hM1.bd hM1.bdF hM1.dj), hs⟩ fun s6 q6 fr w6i hI h hr6 => ?_)) fun fr w6o hM => ?_)
     · obtain ⟨a23, c23, S26, F11, hF, hM2, hs⟩ := hI
       have ra3 := ra3.mem hM2
       refine wp_seq (wp_pure [(0, B b1 0), (1, I p1), (3, L a2 p3 c2), (9, I (len p2)), (10, I (-1)), (11, L a19 x30 c19), (12, I s5.1), (13, L a22 x32 c22), (45, I (len x30)), (46, I s6.1), (47, .bool (decide (s6.1 < (len x30))))] hF (by kernel_rfl) fun fr hF => then_normal ?_)
       refine wp_seq (wp_if hF (b := (decide (s6.1 < (len x30)))) rfl (fun hb => ?_) (fun hb => ?_))
       · replace h := iteT hb h
         refine (wp_skip (then_normal ?_))
         refine wp_seq (wp_block ?_)
         refine wp_seq (wp_pure [(0, B b1 0), (1, I p1), (3, L a2 p3 c2), (9, I (len p2)), (10, I (-1)), (11, L a19 x30 c19), (12, I s5.1), (13, L a22 x32 c22), (14, I s6.1), (45, I (len x30)), (46, I s6.1)] hF (by kernel_rfl) fun fr hF => then_normal ?_)
         refine wp_seq (wp_text' ?_)
         refine from_pure 3 [(0, B b1 0), (1, I p1), (3, L a2 p3 c2), (9, I (len p2)), (10, I (-1)), (11, L a19 x30 c19), (12, I s5.1), (13, L a22 x32 c22), (14, I s6.1), (45, I (len x30)), (46, I s6.1), (49, I s6.1), (51, .int .u64 (IntKind.u64.wrap s5.1))] hF (by kernel_rfl) fun fr hF => ?_
         obtain ⟨x33, hx33, h⟩ := bindE h
         refine s_shl rfl rfl hF rfl rfl hx33 fun fr hF => ?_
         refine from_pure 2 [(0, B b1 0), (1, I p1), (3, L a2 p3 c2), (9, I (len p2)), (10, I (-1)), (11, L a19 x30 c19), (12, I s5.1), (13, L a22 x32 c22), (14, I s6.1), (15, I (w64 (s6.1 + x33))), (45, I (len x30)), (46, I s6.1)] hF (by kernel_rfl) fun fr hF => ?_
         refine from_end rfl (then_normal ?_)
         refine wp_seq ?_
         refine wp_seq (wp_pure [(0, B b1 0), (1, I p1), (3, L a2 p3 c2), (9, I (len p2)), (10, I (-1)), (11, L a19 x30 c19), (12, I s5.1), (13, L a22 x32 c22), (14, I s6.1), (15, I (w64 (s6.1 + x33))), (45, I (len x30)), (46, I s6.1), (55, .bool (p1 == 11))] hF (by kernel_rfl) fun fr hF => then_normal ?_)
         refine (wp_if hF (b := (p1 == 11)) rfl (fun hb => ?_) (fun hb => ?_))
         · replace h := iteT hb h
           refine (wp_text' ?_)
           refine from_pure 3 [(0, B b1 0), (1, I p1), (3, L a2 p3 c2), (9, I (len p2)), (10, I (-1)), (11, L a19 x30 c19), (12, I s5.1), (13, L a22 x32 c22), (14, I s6.1), (45, I (len x30)), (46, I s6.1), (56, I s6.1), (58, .int .u64 (IntKind.u64.wrap s5.1))] hF (by kernel_rfl) fun fr hF => ?_
           obtain ⟨x34, hx34, h⟩ := bindE h
           refine s_shl rfl rfl hF rfl rfl hx34 fun fr hF => ?_
           refine from_pure 2 [(0, B b1 0), (1, I p1), (3, L a2 p3 c2), (9, I (len p2)), (10, I (-1)), (11, L a19 x30 c19), (12, I s5.1), (13, L a22 x32 c22), (14, I s6.1), (15, I (w64 (s6.1 - x34))), (45, I (len x30)), (46, I s6.1)] hF (by kernel_rfl) fun fr hF => ?_
           refine from_end rfl (then_normal ?_)
           refine wp_seq (wp_pure [(0, B b1 0), (1, I p1), (3, L a2 p3 c2), (9, I (len p2)), (10, I (-1)), (11, L a19 x30 c19), (12, I s5.1), (13, L a22 x32 c22), (14, I s6.1), (15, I (w64 (s6.1 - x34))), (16, I (-1)), (45, I (len x30)), (46, I s6.1)] hF (by kernel_rfl) fun fr hF => then_normal ?_)
           refine wp_seq ?_
           refine wp_seq (region_b [] [true, true, true, true, true, true, true]
               [.eq (I (w64 (s6.1 - x34))), .eq (.bool (decide ((w64 (s6.1 - x34)) ≥ 0))), .eq (.bool (decide ((w64 (s6.1 - x34)) ≥ 0))), .eq (I (w64 (s6.1 - x34))), .eq (I (len p2)), .eq (.bool (decide ((w64 (s6.1 - x34)) < (len p2)))), .eq (.bool ((decide ((w64 (s6.1 - x34)) ≥ 0)) && (decide ((w64 (s6.1 - x34)) < (len p2)))))]
               [(0, B b1 0), (1, I p1), (3, L a2 p3 c2), (9, I (len p2)), (10, I (-1)), (11, L a19 x30 c19), (12, I s5.1), (13, L a22 x32 c22), (14, I s6.1), (15, I (w64 (s6.1 - x34))), (16, I (-1)), (45, I (len x30)), (46, I s6.1), (68, .bool ((decide ((w64 (s6.1 - x34)) ≥ 0)) && (decide ((w64 (s6.1 - x34)) < (len p2)))))] mix hF (by kernel_rfl) (by kernel_rfl) (by kernel_rfl) trivial (fun hG => trivial) (by kernel_rfl) fun fr w24 hF hE hc => then_normal ?_)
           have ra3 := ra3.ext hc
           have hs := hs.ext hc
           have hM2 := hM2.ext hc
           refine (wp_if hF (b := ((decide ((w64 (s6.1 - x34)) ≥ 0)) && (decide ((w64 (s6.1 - x34)) < (len p2))))) rfl (fun hb => ?_) (fun hb => ?_))
           · replace h := iteT hb h
             refine (wp_text' ?_)
             refine from_pure 2 [(0, B b1 0), (1, I p1), (3, L a2 p3 c2), (9, I (len p2)), (10, I (-1)), (11, L a19 x30 c19), (12, I s5.1), (13, L a22 x32 c22), (14, I s6.1), (45, I (len x30)), (46, I s6.1), (69, L a22 x32 c22), (70, I (w64 (s6.1 - x34)))] hF (by kernel_rfl) fun fr hF => ?_
             obtain ⟨x35, hx35, h⟩ := bindE h
             refine s_elemF (z := x35) (I x35) ty3 Try.underlying37 rfl rfl rfl rfl rfl hF rfl (hs.rv 0 rfl) rfl (get?_nn hx35) (get?_at hx35) rfl fun p fr hF => ?_
             refine from_pure 1 [(0, B b1 0), (1, I p1), (3, L a2 p3 c2), (9, I (len p2)), (10, I (-1)), (11, L a19 x30 c19), (12, I s5.1), (13, L a22 x32 c22), (14, I s6.1), (16, I x35), (45, I (len x30)), (46, I s6.1)] hF (by kernel_rfl) fun fr hF => ?_
             refine from_end rfl (then_normal ?_)
             refine (wp_ra mix ?_)
             refine ra_hoist 1 (by kernel_rfl) (fun _ _ _ _ _ h => h) ?_
             refine ra_hoist 0 (by kernel_rfl) (fun _ _ _ _ _ h => h) ?_
             obtain ⟨x36, hx36, h⟩ := bindE h
             obtain ⟨x37, hx37, h⟩ := bindE h
             refine (ra_bm 12 [0, 1, 3, 3, 3, 27, 59, 3, 3, 3, 771, 1795, 4095, 8191, 16383] [true, true, true, true, true, false, false, true, true, true, false, false]
                 [.eq (L a19 x30 c19), .eq (I s6.1), .eq (B b1 0), .eq (L a2 p3 c2), .eq (I s5.1), .is fun v w => ElemP w (fun k => k < w24.heap.size) v (x36 : Int), .eq (I x36), .eq (I x35), .eq (L a22 x32 c22), .eq (I s6.1), .is fun v w => ElemP w (fun k => k < w24.heap.size) v (x37 : Int), .eq (I x37), .any, .any, .any]
                 [(0, B b1 0), (1, I p1), (3, L a2 p3 c2), (9, I (len p2)), (10, I (-1)), (11, L a19 x30 c19), (12, I s5.1), (13, L a22 x32 c22), (45, I (len x30)), (46, I s6.1), (73, L a19 x30 c19), (74, I s6.1), (75, B b1 0), (79, I x36), (80, I x35), (84, I x37)] hF (by kernel_rfl) (by kernel_rfl) (by kernel_rfl) (by kernel_rfl) ⟨(Pd.monoO_is mono_elem), Pd.monoO_eq, (Pd.monoO_is mono_elem), Pd.monoO_eq, trivial⟩ (fun ow hG => ⟨np_to ow (np_index hG hF ty3 Try.underlying37 rfl rfl (RV.sub (ra3) fun k hk _ => hk) rfl rfl (fun hg => ⟨get?_nn hx36, get?_at hx36⟩)), np_to ow (np_loadF (z := x36) (i := 5) hG hF ty3 rfl rfl rfl rfl rfl rfl rfl), np_to ow (np_index hG hF ty3 Try.underlying37 rfl rfl (RV.sub (hs.rv 0 rfl) fun k hk _ => hk) rfl rfl (fun hg => ⟨get?_nn hx37, get?_at hx37⟩)), np_to ow (np_loadF (z := x37) (i := 10) hG hF ty3 rfl rfl rfl rfl rfl rfl rfl), trivial⟩) (by kernel_rfl) fun ow fr w25 hF hE hc => ?_)
             have ra3 := ra3.ext hc
             have hs := hs.ext hc
             have hM2 := hM2.ext hc
             obtain ⟨x38, hx38, h⟩ := bindE h
             have hs : Sep [BX b1 83 [I s6.2.2.1, L a23 s6.2.2.2.2.1 c23, .map (some b2), .bool s6.2.2.2.1], sl59 (L a23 s6.2.2.2.2.1 c23) s6.2.2.2.2.1, MP map81 b2 s6.2.2.2.2.2, sl3 (L a22 x32 c22) x32, sl3 (L a19 x30 c19) s6.2.1] w25 S26 := Sep.pick [2, 3, 4, 0, 1] hs (by decide) rfl
             obtain ⟨A7, R7, hsA, hsR, hdA, hbA, hup⟩ := Sep.call (L1 := [BX b1 83 [I s6.2.2.1, L a23 s6.2.2.2.2.1 c23, .map (some b2), .bool s6.2.2.2.1], sl59 (L a23 s6.2.2.2.2.1 c23) s6.2.2.2.2.1, MP map81 b2 s6.2.2.2.2.2]) (L2 := [sl3 (L a22 x32 c22) x32, sl3 (L a19 x30 c19) s6.2.1]) hs hM2
             refine s_call [B b1 0, I x36, I x35, I x37] Try.call63 rfl rfl hF rfl (impl_builder_choose_ok (D.builder.mk (D.Circuit.mk s6.2.2.1 s6.2.2.2.2.1) s6.2.2.2.2.2 s6.2.2.2.1) x36 x35 x37 hx38 hsA hbA hdA) fun v w26 fr hRes hF => ?_
             obtain ⟨a25, c25, rfl, _, hp, hs⟩ := hRes
             obtain ⟨S28, hp, hs⟩ := hup hp hs
             have ra3 := ra3.stp hM2 hp
             have hM2 := hM2.stp hp
             have hs : Sep [BX b1 83 [I x38.2.c.Inputs, L a25 x38.2.c.Gates c25, .map (some b2), .bool x38.2.full], sl59 (L a25 x38.2.c.Gates c25) x38.2.c.Gates, MP map81 b2 x38.2.line, sl3 (L a22 x32 c22) x32, sl3 (L a19 x30 c19) s6.2.1] w26 S28 := hs
             obtain ⟨x39, hx39, h⟩ := bindE h
             refine q_set (q := x38.1) 4 hs hM2 rfl Try.underlying37 ty3 rfl rfl rfl rfl hF rfl rfl (by simp) rfl rfl hx39 fun w27 S29 fr _ hs hp hF => ?_
             have ra3 := ra3.stp hM2 hp
             have hM2 := hM2.stp hp
             have hs : Sep [BX b1 83 [I x38.2.c.Inputs, L a25 x38.2.c.Gates c25, .map (some b2), .bool x38.2.full], sl59 (L a25 x38.2.c.Gates c25) x38.2.c.Gates, MP map81 b2 x38.2.line, sl3 (L a22 x32 c22) x32, sl3 (L a19 x30 c19) x39] w27 S29 := hs
             refine from_end rfl ?_
             refine blk_normal (then_normal ?_)
             refine (wp_pure [(0, B b1 0), (1, I p1), (3, L a2 p3 c2), (9, I (len p2)), (10, I (-1)), (11, L a19 x30 c19), (12, I s5.1), (13, L a22 x32 c22), (45, I (len x30)), (46, I (w64 (s6.1 + 1)))] hF (by kernel_rfl) fun fr hF => then_normal ?_)
             have hs : Sep [sl3 (L a22 x32 c22) x32, sl3 (L a19 x30 c19) x39, BX b1 83 [I x38.2.c.Inputs, L a25 x38.2.c.Gates c25, .map (some b2), .bool x38.2.full], sl59 (L a25 x38.2.c.Gates c25) x38.2.c.Gates, MP map81 b2 x38.2.line] w27 S29 := Sep.pick [3, 4, 0, 1, 2] hs (by decide) rfl
             exact ⟨_, (Option.some.inj h).symm, a25, c25, S29, _, hF.sub _ (by kernel_rfl), hM2, hs⟩
           replace h := iteF hb h
           refine (wp_skip (then_normal ?_))
           refine (wp_ra mix ?_)
           refine ra_hoist 1 (by kernel_rfl) (fun _ _ _ _ _ h => h) ?_
           refine ra_hoist 0 (by kernel_rfl) (fun _ _ _ _ _ h => h) ?_
           obtain ⟨x40, hx40, h⟩ := bindE h
           obtain ⟨x41, hx41, h⟩ := bindE h
           refine (ra_bm 12 [0, 1, 3, 3, 3, 27, 59, 3, 3, 3, 771, 1795, 4095, 8191, 16383] [true, true, true, true, true, false, false, true, true, true, false, false]
               [.eq (L a19 x30 c19), .eq (I s6.1), .eq (B b1 0), .eq (L a2 p3 c2), .eq (I s5.1), .is fun v w => ElemP w (fun k => k < w24.heap.size) v (x40 : Int), .eq (I x40), .eq (I (-1)), .eq (L a22 x32 c22), .eq (I s6.1), .is fun v w => ElemP w (fun k => k < w24.heap.size) v (x41 : Int), .eq (I x41), .any, .any, .any]
               [(0, B b1 0), (1, I p1), (3, L a2 p3 c2), (9, I (len p2)), (10, I (-1)), (11, L a19 x30 c19), (12, I s5.1), (13, L a22 x32 c22), (45, I (len x30)), (46, I s6.1), (73, L a19 x30 c19), (74, I s6.1), (75, B b1 0), (79, I x40), (80, I (-1)), (84, I x41)] hF (by kernel_rfl) (by kernel_rfl) (by kernel_rfl) (by kernel_rfl) ⟨(Pd.monoO_is mono_elem), Pd.monoO_eq, (Pd.monoO_is mono_elem), Pd.monoO_eq, trivial⟩ (fun ow hG => ⟨np_to ow (np_index hG hF ty3 Try.underlying37 rfl rfl (RV.sub (ra3) fun k hk _ => hk) rfl rfl (fun hg => ⟨get?_nn hx40, get?_at hx40⟩)), np_to ow (np_loadF (z := x40) (i := 5) hG hF ty3 rfl rfl rfl rfl rfl rfl rfl), np_to ow (np_index hG hF ty3 Try.underlying37 rfl rfl (RV.sub (hs.rv 0 rfl) fun k hk _ => hk) rfl rfl (fun hg => ⟨get?_nn hx41, get?_at hx41⟩)), np_to ow (np_loadF (z := x41) (i := 10) hG hF ty3 rfl rfl rfl rfl rfl rfl rfl), trivial⟩) (by kernel_rfl) fun ow fr w28 hF hE hc => ?_)
           have ra3 := ra3.ext hc
           have hs := hs.ext hc
           have hM2 := hM2.ext hc
           obtain ⟨x42, hx42, h⟩ := bindE h
           have hs : Sep [BX b1 83 [I s6.2.2.1, L a23 s6.2.2.2.2.1 c23, .map (some b2), .bool s6.2.2.2.1], sl59 (L a23 s6.2.2.2.2.1 c23) s6.2.2.2.2.1, MP map81 b2 s6.2.2.2.2.2, sl3 (L a22 x32 c22) x32, sl3 (L a19 x30 c19) s6.2.1] w28 S26 := Sep.pick [2, 3, 4, 0, 1] hs (by decide) rfl
           obtain ⟨A8, R8, hsA, hsR, hdA, hbA, hup⟩ := Sep.call (L1 := [BX b1 83 [I s6.2.2.1, L a23 s6.2.2.2.2.1 c23, .map (some b2), .bool s6.2.2.2.1], sl59 (L a23 s6.2.2.2.2.1 c23) s6.2.2.2.2.1, MP map81 b2 s6.2.2.2.2.2]) (L2 := [sl3 (L a22 x32 c22) x32, sl3 (L a19 x30 c19) s6.2.1]) hs hM2
           refine s_call [B b1 0, I x40, I (-1), I x41] Try.call63 rfl rfl hF rfl (impl_builder_choose_ok (D.builder.mk (D.Circuit.mk s6.2.2.1 s6.2.2.2.2.1) s6.2.2.2.2.2 s6.2.2.2.1) x40 (-1) x41 hx42 hsA hbA hdA) fun v w29 fr hRes hF => ?_
           obtain ⟨a26, c26, rfl, _, hp, hs⟩ := hRes
           obtain ⟨S30, hp, hs⟩ := hup hp hs
           have ra3 := ra3.stp hM2 hp
           have hM2 := hM2.stp hp
           have hs : Sep [BX b1 83 [I x42.2.c.Inputs, L a26 x42.2.c.Gates c26, .map (some b2), .bool x42.2.full], sl59 (L a26 x42.2.c.Gates c26) x42.2.c.Gates, MP map81 b2 x42.2.line, sl3 (L a22 x32 c22) x32, sl3 (L a19 x30 c19) s6.2.1] w29 S30 := hs
           obtain ⟨x43, hx43, h⟩ := bindE h
           refine q_set (q := x42.1) 4 hs hM2 rfl Try.underlying37 ty3 rfl rfl rfl rfl hF rfl rfl (by simp) rfl rfl hx43 fun w30 S31 fr _ hs hp hF => ?_
           have ra3 := ra3.stp hM2 hp
           have hM2 := hM2.stp hp
           have hs : Sep [BX b1 83 [I x42.2.c.Inputs, L a26 x42.2.c.Gates c26, .map (some b2), .bool x42.2.full], sl59 (L a26 x42.2.c.Gates c26) x42.2.c.Gates, MP map81 b2 x42.2.line, sl3 (L a22 x32 c22) x32, sl3 (L a19 x30 c19) x43] w30 S31 := hs
           refine from_end rfl ?_
           refine blk_normal (then_normal ?_)
           refine (wp_pure [(0, B b1 0), (1, I p1), (3, L a2 p3 c2), (9, I (len p2)), (10, I (-1)), (11, L a19 x30 c19), (12, I s5.1), (13, L a22 x32 c22), (45, I (len x30)), (46, I (w64 (s6.1 + 1)))] hF (by kernel_rfl) fun fr hF => then_normal ?_)
           have hs : Sep [sl3 (L a22 x32 c22) x32, sl3 (L a19 x30 c19) x43, BX b1 83 [I x42.2.c.Inputs, L a26 x42.2.c.Gates c26, .map (some b2), .bool x42.2.full], sl59 (L a26 x42.2.c.Gates c26) x42.2.c.Gates, MP map81 b2 x42.2.line] w30 S31 := Sep.pick [3, 4, 0, 1, 2] hs (by decide) rfl
           exact ⟨_, (Option.some.inj h).symm, a26, c26, S31, _, hF.sub _ (by kernel_rfl), hM2, hs⟩
         replace h := iteF hb h
         refine (wp_skip (then_normal ?_))
         refine wp_seq (wp_pure [(0, B b1 0), (1, I p1), (3, L a2 p3 c2), (9, I (len p2)), (10, I (-1)), (11, L a19 x30 c19), (12, I s5.1), (13, L a22 x32 c22), (14, I s6.1), (15, I (w64 (s6.1 + x33))), (16, I (-1)), (45, I (len x30)), (46, I s6.1)] hF (by kernel_rfl) fun fr hF => then_normal ?_)
         refine wp_seq ?_
         refine wp_seq (region_b [] [true, true, true, true, true, true, true]
             [.eq (I (w64 (s6.1 + x33))), .eq (.bool (decide ((w64 (s6.1 + x33)) ≥ 0))), .eq (.bool (decide ((w64 (s6.1 + x33)) ≥ 0))), .eq (I (w64 (s6.1 + x33))), .eq (I (len p2)), .eq (.bool (decide ((w64 (s6.1 + x33)) < (len p2)))), .eq (.bool ((decide ((w64 (s6.1 + x33)) ≥ 0)) && (decide ((w64 (s6.1 + x33)) < (len p2)))))]
             [(0, B b1 0), (1, I p1), (3, L a2 p3 c2), (9, I (len p2)), (10, I (-1)), (11, L a19 x30 c19), (12, I s5.1), (13, L a22 x32 c22), (14, I s6.1), (15, I (w64 (s6.1 + x33))), (16, I (-1)), (45, I (len x30)), (46, I s6.1), (68, .bool ((decide ((w64 (s6.1 + x33)) ≥ 0)) && (decide ((w64 (s6.1 + x33)) < (len p2)))))] mix hF (by kernel_rfl) (by kernel_rfl) (by kernel_rfl) trivial (fun hG => trivial) (by kernel_rfl) fun fr w31 hF hE hc => then_normal ?_)
         have ra3 := ra3.ext hc
         have hs := hs.ext hc
         have hM2 := hM2.ext hc
         refine (wp_if hF (b := ((decide ((w64 (s6.1 + x33)) ≥ 0)) && (decide ((w64 (s6.1 + x33)) < (len p2))))) rfl (fun hb => ?_) (fun hb => ?_))
         · replace h := iteT hb h
           refine (wp_text' ?_)
           refine from_pure 2 [(0, B b1 0), (1, I p1), (3, L a2 p3 c2), (9, I (len p2)), (10, I (-1)), (11, L a19 x30 c19), (12, I s5.1), (13, L a22 x32 c22), (14, I s6.1), (45, I (len x30)), (46, I s6.1), (69, L a22 x32 c22), (70, I (w64 (s6.1 + x33)))] hF (by kernel_rfl) fun fr hF => ?_
           obtain ⟨x44, hx44, h⟩ := bindE h
           refine s_elemF (z := x44) (I x44) ty3 Try.underlying37 rfl rfl rfl rfl rfl hF rfl (hs.rv 0 rfl) rfl (get?_nn hx44) (get?_at hx44) rfl fun p fr hF => ?_
           refine from_pure 1 [(0, B b1 0), (1, I p1), (3, L a2 p3 c2), (9, I (len p2)), (10, I (-1)), (11, L a19 x30 c19), (12, I s5.1), (13, L a22 x32 c22), (14, I s6.1), (16, I x44), (45, I (len x30)), (46, I s6.1)] hF (by kernel_rfl) fun fr hF => ?_
           refine from_end rfl (then_normal ?_)
           refine (wp_ra mix ?_)
           refine ra_hoist 1 (by kernel_rfl) (fun _ _ _ _ _ h => h) ?_
           refine ra_hoist 0 (by kernel_rfl) (fun _ _ _ _ _ h => h) ?_
           obtain ⟨x45, hx45, h⟩ := bindE h
           obtain ⟨x46, hx46, h⟩ := bindE h
           refine (ra_bm 12 [0, 1, 3, 3, 3, 27, 59, 3, 3, 3, 771, 1795, 4095, 8191, 16383] [true, true, true, true, true, false, false, true, true, true, false, false]
               [.eq (L a19 x30 c19), .eq (I s6.1), .eq (B b1 0), .eq (L a2 p3 c2), .eq (I s5.1), .is fun v w => ElemP w (fun k => k < w31.heap.size) v (x45 : Int), .eq (I x45), .eq (I x44), .eq (L a22 x32 c22), .eq (I s6.1), .is fun v w => ElemP w (fun k => k < w31.heap.size) v (x46 : Int), .eq (I x46), .any, .any, .any]
               [(0, B b1 0), (1, I p1), (3, L a2 p3 c2), (9, I (len p2)), (10, I (-1)), (11, L a19 x30 c19), (12, I s5.1), (13, L a22 x32 c22), (45, I (len x30)), (46, I s6.1), (73, L a19 x30 c19), (74, I s6.1), (75, B b1 0), (79, I x45), (80, I x44), (84, I x46)] hF (by kernel_rfl) (by kernel_rfl) (by kernel_rfl) (by kernel_rfl) ⟨(Pd.monoO_is mono_elem), Pd.monoO_eq, (Pd.monoO_is mono_elem), Pd.monoO_eq, trivial⟩ (fun ow hG => ⟨np_to ow (np_index hG hF ty3 Try.underlying37 rfl rfl (RV.sub (ra3) fun k hk _ => hk) rfl rfl (fun hg => ⟨get?_nn hx45, get?_at hx45⟩)), np_to ow (np_loadF (z := x45) (i := 5) hG hF ty3 rfl rfl rfl rfl rfl rfl rfl), np_to ow (np_index hG hF ty3 Try.underlying37 rfl rfl (RV.sub (hs.rv 0 rfl) fun k hk _ => hk) rfl rfl (fun hg => ⟨get?_nn hx46, get?_at hx46⟩)), np_to ow (np_loadF (z := x46) (i := 10) hG hF ty3 rfl rfl rfl rfl rfl rfl rfl), trivial⟩) (by kernel_rfl) fun ow fr w32 hF hE hc => ?_)
           have ra3 := ra3.ext hc
           have hs := hs.ext hc
           have hM2 := hM2.ext hc
           obtain ⟨x47, hx47, h⟩ := bindE h
           have hs : Sep [BX b1 83 [I s6.2.2.1, L a23 s6.2.2.2.2.1 c23, .map (some b2), .bool s6.2.2.2.1], sl59 (L a23 s6.2.2.2.2.1 c23) s6.2.2.2.2.1, MP map81 b2 s6.2.2.2.2.2, sl3 (L a22 x32 c22) x32, sl3 (L a19 x30 c19) s6.2.1] w32 S26 := Sep.pick [2, 3, 4, 0, 1] hs (by decide) rfl
           obtain ⟨A9, R9, hsA, hsR, hdA, hbA, hup⟩ := Sep.call (L1 := [BX b1 83 [I s6.2.2.1, L a23 s6.2.2.2.2.1 c23, .map (some b2), .bool s6.2.2.2.1], sl59 (L a23 s6.2.2.2.2.1 c23) s6.2.2.2.2.1, MP map81 b2 s6.2.2.2.2.2]) (L2 := [sl3 (L a22 x32 c22) x32, sl3 (L a19 x30 c19) s6.2.1]) hs hM2
           refine s_call [B b1 0, I x45, I x44, I x46] Try.call63 rfl rfl hF rfl (impl_builder_choose_ok (D.builder.mk (D.Circuit.mk s6.2.2.1 s6.2.2.2.2.1) s6.2.2.2.2.2 s6.2.2.2.1) x45 x44 x46 hx47 hsA hbA hdA) fun v w33 fr hRes hF => ?_
           obtain ⟨a27, c27, rfl, _, hp, hs⟩ := hRes
           obtain ⟨S32, hp, hs⟩ := hup hp hs
           have ra3 := ra3.stp hM2 hp
           have hM2 := hM2.stp hp
           have hs : Sep [BX b1 83 [I x47.2.c.Inputs, L a27 x47.2.c.Gates c27, .map (some b2), .bool x47.2.full], sl59 (L a27 x47.2.c.Gates c27) x47.2.c.Gates, MP map81 b2 x47.2.line, sl3 (L a22 x32 c22) x32, sl3 (L a19 x30 c19) s6.2.1] w33 S32 := hs
           obtain ⟨x48, hx48, h⟩ := bindE h
           refine q_set (q := x47.1) 4 hs hM2 rfl Try.underlying37 ty3 rfl rfl rfl rfl hF rfl rfl (by simp) rfl rfl hx48 fun w34 S33 fr _ hs hp hF => ?_
           have ra3 := ra3.stp hM2 hp
           have hM2 := hM2.stp hp
           have hs : Sep [BX b1 83 [I x47.2.c.Inputs, L a27 x47.2.c.Gates c27, .map (some b2), .bool x47.2.full], sl59 (L a27 x47.2.c.Gates c27) x47.2.c.Gates, MP map81 b2 x47.2.line, sl3 (L a22 x32 c22) x32, sl3 (L a19 x30 c19) x48] w34 S33 := hs
           refine from_end rfl ?_
           refine blk_normal (then_normal ?_)
           refine (wp_pure [(0, B b1 0), (1, I p1), (3, L a2 p3 c2), (9, I (len p2)), (10, I (-1)), (11, L a19 x30 c19), (12, I s5.1), (13, L a22 x32 c22), (45, I (len x30)), (46, I (w64 (s6.1 + 1)))] hF (by kernel_rfl) fun fr hF => then_normal ?_)
           have hs : Sep [sl3 (L a22 x32 c22) x32, sl3 (L a19 x30 c19) x48, BX b1 83 [I x47.2.c.Inputs, L a27 x47.2.c.Gates c27, .map (some b2), .bool x47.2.full], sl59 (L a27 x47.2.c.Gates c27) x47.2.c.Gates, MP map81 b2 x47.2.line] w34 S33 := Sep.pick [3, 4, 0, 1, 2] hs (by decide) rfl
           exact ⟨_, (Option.some.inj h).symm, a27, c27, S33, _, hF.sub _ (by kernel_rfl), hM2, hs⟩
         replace h := iteF hb h
         refine (wp_skip (then_normal ?_))
         refine (wp_ra mix ?_)
         refine ra_hoist 1 (by kernel_rfl) (fun _ _ _ _ _ h => h) ?_
         refine ra_hoist 0 (by kernel_rfl) (fun _ _ _ _ _ h => h) ?_
         obtain ⟨x49, hx49, h⟩ := bindE h
         obtain ⟨x50, hx50, h⟩ := bindE h
         refine (ra_bm 12 [0, 1, 3, 3, 3, 27, 59, 3, 3, 3, 771, 1795, 4095, 8191, 16383] [true, true, true, true, true, false, false, true, true, true, false, false]
             [.eq (L a19 x30 c19), .eq (I s6.1), .eq (B b1 0), .eq (L a2 p3 c2), .eq (I s5.1), .is fun v w => ElemP w (fun k => k < w31.heap.size) v (x49 : Int), .eq (I x49), .eq (I (-1)), .eq (L a22 x32 c22), .eq (I s6.1), .is fun v w => ElemP w (fun k => k < w31.heap.size) v (x50 : Int), .eq (I x50), .any, .any, .any]
             [(0, B b1 0), (1, I p1), (3, L a2 p3 c2), (9, I (len p2)), (10, I (-1)), (11, L a19 x30 c19), (12, I s5.1), (13, L a22 x32 c22), (45, I (len x30)), (46, I s6.1), (73, L a19 x30 c19), (74, I s6.1), (75, B b1 0), (79, I x49), (80, I (-1)), (84, I x50)] hF (by kernel_rfl) (by kernel_rfl) (by kernel_rfl) (by kernel_rfl) ⟨(Pd.monoO_is mono_elem), Pd.monoO_eq, (Pd.monoO_is mono_elem), Pd.monoO_eq, trivial⟩ (fun ow hG => ⟨np_to ow (np_index hG hF ty3 Try.underlying37 rfl rfl (RV.sub (ra3) fun k hk _ => hk) rfl rfl (fun hg => ⟨get?_nn hx49, get?_at hx49⟩)), np_to ow (np_loadF (z := x49) (i := 5) hG hF ty3 rfl rfl rfl rfl rfl rfl rfl), np_to ow (np_index hG hF ty3 Try.underlying37 rfl rfl (RV.sub (hs.rv 0 rfl) fun k hk _ => hk) rfl rfl (fun hg => ⟨get?_nn hx50, get?_at hx50⟩)), np_to ow (np_loadF (z := x50) (i := 10) hG hF ty3 rfl rfl rfl rfl rfl rfl rfl), trivial⟩) (by kernel_rfl) fun ow fr w35 hF hE hc => ?_)
         have ra3 := ra3.ext hc
         have hs := hs.ext hc
         have hM2 := hM2.ext hc
         obtain ⟨x51, hx51, h⟩ := bindE h
         have hs : Sep [BX b1 83 [I s6.2.2.1, L a23 s6.2.2.2.2.1 c23, .map (some b2), .bool s6.2.2.2.1], sl59 (L a23 s6.2.2.2.2.1 c23) s6.2.2.2.2.1, MP map81 b2 s6.2.2.2.2.2, sl3 (L a22 x32 c22) x32, sl3 (L a19 x30 c19) s6.2.1] w35 S26 := Sep.pick [2, 3, 4, 0, 1] hs (by decide) rfl
         obtain ⟨A10, R10, hsA, hsR, hdA, hbA, hup⟩ := Sep.call (L1 := [BX b1 83 [I s6.2.2.1, L a23 s6.2.2.2.2.1 c23, .map (some b2), .bool s6.2.2.2.1], sl59 (L a23 s6.2.2.2.2.1 c23) s6.2.2.2.2.1, MP map81 b2 s6.2.2.2.2.2]) (L2 := [sl3 (L a22 x32 c22) x32, sl3 (L a19 x30 c19) s6.2.1]) hs hM2
         refine s_call [B b1 0, I x49, I (-1), I x50] Try.call63 rfl rfl hF rfl (impl_builder_choose_ok (D.builder.mk (D.Circuit.mk s6.2.2.1 s6.2.2.2.2.1) s6.2.2.2.2.2 s6.2.2.2.1) x49 (-1) x50 hx51 hsA hbA hdA) fun v w36 fr hRes hF => ?_
         obtain ⟨a28, c28, rfl, _, hp, hs⟩ := hRes
         obtain ⟨S34, hp, hs⟩ := hup hp hs
         have ra3 := ra3.stp hM2 hp
         have hM2 := hM2.stp hp
         have hs : Sep [BX b1 83 [I x51.2.c.Inputs, L a28 x51.2.c.Gates c28, .map (some b2), .bool x51.2.full], sl59 (L a28 x51.2.c.Gates c28) x51.2.c.Gates, MP map81 b2 x51.2.line, sl3 (L a22 x32 c22) x32, sl3 (L a19 x30 c19) s6.2.1] w36 S34 := hs
         obtain ⟨x52, hx52, h⟩ := bindE h
         refine q_set (q := x51.1) 4 hs hM2 rfl Try.underlying37 ty3 rfl rfl rfl rfl hF rfl rfl (by simp) rfl rfl hx52 fun w37 S35 fr _ hs hp hF => ?_
         have ra3 := ra3.stp hM2 hp
         have hM2 := hM2.stp hp
         have hs : Sep [BX b1 83 [I x51.2.c.Inputs, L a28 x51.2.c.Gates c28, .map (some b2), .bool x51.2.full], sl59 (L a28 x51.2.c.Gates c28) x51.2.c.Gates, MP map81 b2 x51.2.line, sl3 (L a22 x32 c22) x32, sl3 (L a19 x30 c19) x52] w37 S35 := hs
         refine from_end rfl ?_
         refine blk_normal (then_normal ?_)
         refine (wp_pure [(0, B b1 0), (1, I p1), (3, L a2 p3 c2), (9, I (len p2)), (10, I (-1)), (11, L a19 x30 c19), (12, I s5.1), (13, L a22 x32 c22), (45, I (len x30)), (46, I (w64 (s6.1 + 1)))] hF (by kernel_rfl) fun fr hF => then_normal ?_)
         have hs : Sep [sl3 (L a22 x32 c22) x32, sl3 (L a19 x30 c19) x52, BX b1 83 [I x51.2.c.Inputs, L a28 x51.2.c.Gates c28, .map (some b2), .bool x51.2.full], sl59 (L a28 x51.2.c.Gates c28) x51.2.c.Gates, MP map81 b2 x51.2.line] w37 S35 := Sep.pick [3, 4, 0, 1, 2] hs (by decide) rfl
         exact ⟨_, (Option.some.inj h).symm, a28, c28, S35, _, hF.sub _ (by kernel_rfl), hM2, hs⟩
       replace h := iteF hb h
       have hs : Sep [sl3 (L a19 x30 c19) s6.2.1, BX b1 83 [I s6.2.2.1, L a23 s6.2.2.2.2.1 c23, .map (some b2), .bool s6.2.2.2.1], sl59 (L a23 s6.2.2.2.2.1 c23) s6.2.2.2.2.1, MP map81 b2 s6.2.2.2.2.2] w6i S26 := Sep.pick [1, 2, 3, 4] hs (by decide) rfl
       refine (wp_exit (then_exit (then_exit (blk_exit_eq ?_))))
       obtain rfl := hr6 _ (Option.some.inj h).symm
       exact then_normal ⟨a23, c23, S26, _, hF.sub _ (by kernel_rfl), hM2, hs⟩
     · obtain ⟨a24, c24, S27, F12, hF, hMx, hs⟩ := hM
       have ra3 := ra3.mem hMx
       have hM1 := hM1.trans hMx
       refine blk_normal (then_normal ?_)
       refine (wp_pure [(0, B b1 0), (1, I p1), (3, L a2 p3 c2), (9, I (len p2)), (10, I (-1)), (11, L a19 x30 c19), (12, I (w64 (s5.1 + 1)))] hF (by kernel_rfl) fun fr hF => then_normal ?_)
       exact ⟨_, (Option.some.inj h).symm, a24, c24, S27, _, hF.sub _ (by kernel_rfl), hM1, hs⟩
   replace h := iteF hb h
   refine (wp_exit (then_exit (then_exit (blk_exit_eq ?_))))
   obtain rfl := hr5 _ (Option.some.inj h).symm
   exact then_normal ⟨a20, c20, S23, _, hF.sub _ (by kernel_rfl), hM1, hs⟩
 · obtain ⟨a21, c21, S24, F10, hF, hMx, hs⟩ := hM
   have ra3 := ra3.mem hMx
   have hM0 := hM0.trans hMx
   refine wp_seq ?_
   refine wp_seq (wp_pure [(0, B b1 0), (3, L a2 p3 c2), (9, I (len p2)), (10, I (-1)), (11, L a19 x30 c19), (12, I rl5.1), (90, .bool (decide (rl5.1 < (len p2))))] hF (by kernel_rfl) fun fr hF => then_normal ?_)
   refine (wp_if hF (b := (decide (rl5.1 < (len p2)))) rfl (fun hb => ?_) (fun hb => ?_))
   · replace h := iteT hb h
     refine wp_seq (wp_pure [(0, B b1 0), (3, L a2 p3 c2), (9, I (len p2)), (10, I (-1)), (11, L a19 x30 c19), (12, I rl5.1), (17, I (-1))] hF (by kernel_rfl) fun fr hF => then_normal ?_)
     obtain ⟨rl7, hit7, h⟩ := bindE h
     have hk7 := h
     refine wp_seq (wp_cut (M := fun fr w' => ∃ a30 c30 S37 F14, FrS 121 [(0, B b1 0), (10, I (-1)), (11, L a19 x30 c19), (17, I rl7.1)] fr ∧ Mem w5o S24 F10 w' S37 F14 ∧ Sep [sl3 (L a19 x30 c19) rl5.2.1, BX b1 83 [I rl7.2.1, L a30 rl7.2.2.2.1 c30, .map (some b2), .bool rl7.2.2.1], sl59 (L a30 rl7.2.2.2.1 c30) rl7.2.2.2.1, MP map81 b2 rl7.2.2.2.2] w' S37) (wp_block (wp_iter (Inv := fun s7 fr w' => ∃ a29 c29 S36 F13, FrS 121 [(0, B b1 0), (3, L a2 p3 c2), (9, I (len p2)), (10, I (-1)), (11, L a19 x30 c19), (12, I s7.1), (17, I s7.2.1)] fr ∧ Mem w5o S24 F10 w' S36 F13 ∧ Sep [sl3 (L a19 x30 c19) rl5.2.1, BX b1 83 [I s7.2.2.1, L a29 s7.2.2.2.2.1 c29, .map (some b2), .bool s7.2.2.2.1], sl59 (L a29 s7.2.2.2.2.1 c29) s7.2.2.2.2.1, MP map81 b2 s7.2.2.2.2.2] w' S36) hit7 ⟨a21, c21, S24, _, hF.sub _ (by kernel_rfl), (Mem.start hM0.bd hM0.bdF hM0.dj), hs⟩ fun s7 q7 fr w7i hI h hr7 => ?_)) fun fr w7o hM => ?_)
     · obtain ⟨a29, c29, S36, F13, hF, hM1, hs⟩ := hI
       have ra3 := ra3.mem hM1
       refine wp_seq ?_
       refine wp_seq (wp_pure [(0, B b1 0), (3, L a2 p3 c2), (9, I (len p2)), (10, I (-1)), (11, L a19 x30 c19), (12, I s7.1), (17, I s7.2.1), (93, .bool (decide (s7.1 < (len p2))))] hF (by kernel_rfl) fun fr hF => then_normal ?_)
       refine (wp_if hF (b := (decide (s7.1 < (len p2)))) rfl (fun hb => ?_) (fun hb => ?_))
       · replace h := iteT hb h
         refine (wp_skip (then_normal ?_))
         refine wp_seq (wp_block ?_)
         refine (wp_text' ?_)
         refine from_pure 4 [(0, B b1 0), (3, L a2 p3 c2), (9, I (len p2)), (10, I (-1)), (11, L a19 x30 c19), (12, I s7.1), (96, B b1 0), (97, I s7.2.1), (98, L a2 p3 c2), (99, I s7.1)] hF (by kernel_rfl) fun fr hF => ?_
         obtain ⟨x53, hx53, h⟩ := bindE h
         refine s_elemF (z := x53) (I x53) ty3 Try.underlying37 rfl rfl rfl rfl rfl hF rfl (ra3) rfl (get?_nn hx53) (get?_at hx53) rfl fun p fr hF => ?_
         obtain ⟨x54, hx54, h⟩ := bindE h
         have hs : Sep [BX b1 83 [I s7.2.2.1, L a29 s7.2.2.2.2.1 c29, .map (some b2), .bool s7.2.2.2.1], sl59 (L a29 s7.2.2.2.2.1 c29) s7.2.2.2.2.1, MP map81 b2 s7.2.2.2.2.2, sl3 (L a19 x30 c19) rl5.2.1] w7i S36 := Sep.pick [1, 2, 3, 0] hs (by decide) rfl
         obtain ⟨A11, R11, hsA, hsR, hdA, hbA, hup⟩ := Sep.call (L1 := [BX b1 83 [I s7.2.2.1, L a29 s7.2.2.2.2.1 c29, .map (some b2), .bool s7.2.2.2.1], sl59 (L a29 s7.2.2.2.2.1 c29) s7.2.2.2.2.1, MP map81 b2 s7.2.2.2.2.2]) (L2 := [sl3 (L a19 x30 c19) rl5.2.1]) hs hM1
         refine s_call [B b1 0, I s7.2.1, I x53] Try.call57 rfl rfl hF rfl (impl_builder_or_ok (D.builder.mk (D.Circuit.mk s7.2.2.1 s7.2.2.2.2.1) s7.2.2.2.2.2 s7.2.2.2.1) s7.2.1 x53 hx54 hsA hbA hdA) fun v w38 fr hRes hF => ?_
         obtain ⟨a31, c31, rfl, _, hp, hs⟩ := hRes
         obtain ⟨S38, hp, hs⟩ := hup hp hs
         have ra3 := ra3.stp hM1 hp
         have hM1 := hM1.stp hp
         have hs : Sep [BX b1 83 [I x54.2.c.Inputs, L a31 x54.2.c.Gates c31, .map (some b2), .bool x54.2.full], sl59 (L a31 x54.2.c.Gates c31) x54.2.c.Gates, MP map81 b2 x54.2.line, sl3 (L a19 x30 c19) rl5.2.1] w38 S38 := hs
         refine from_pure 1 [(0, B b1 0), (3, L a2 p3 c2), (9, I (len p2)), (10, I (-1)), (11, L a19 x30 c19), (12, I s7.1), (17, I x54.1)] hF (by kernel_rfl) fun fr hF => ?_
         refine from_end rfl ?_
         refine blk_normal (then_normal ?_)
         refine (wp_pure [(0, B b1 0), (3, L a2 p3 c2), (9, I (len p2)), (10, I (-1)), (11, L a19 x30 c19), (12, I (w64 (s7.1 + 1))), (17, I x54.1)] hF (by kernel_rfl) fun fr hF => then_normal ?_)
         have hs : Sep [sl3 (L a19 x30 c19) rl5.2.1, BX b1 83 [I x54.2.c.Inputs, L a31 x54.2.c.Gates c31, .map (some b2), .bool x54.2.full], sl59 (L a31 x54.2.c.Gates c31) x54.2.c.Gates, MP map81 b2 x54.2.line] w38 S38 := Sep.pick [3, 0, 1, 2] hs (by decide) rfl
         exact ⟨_, (Option.some.inj h).symm, a31, c31, S38, _, hF.sub _ (by kernel_rfl), hM1, hs⟩
       replace h := iteF hb h
       refine (wp_exit (then_exit (then_exit (blk_exit_eq ?_))))
       obtain rfl := hr7 _ (Option.some.inj h).symm
       exact then_normal ⟨a29, c29, S36, _, hF.sub _ (by kernel_rfl), hM1, hs⟩
     · obtain ⟨a30, c30, S37, F14, hF, hMx, hs⟩ := hM
       have hM0 := hM0.trans hMx
       refine wp_seq (wp_pure [(0, B b1 0), (10, I (-1)), (11, L a19 x30 c19), (17, I rl7.1), (104, I (len x30)), (105, I 0)] hF (by kernel_rfl) fun fr hF => then_normal ?_)
       obtain ⟨rl8, hit8, h⟩ := bindE h
       have hk8 := h
       refine (wp_cut (M := fun fr w' => ∃ a33 c33 S40 F16, FrS 121 [(11, L a19 x30 c19)] fr ∧ Mem w7o S37 F14 w' S40 F16 ∧ Sep [sl3 (L a19 x30 c19) rl8.1, BX b1 83 [I rl8.2.1, L a33 rl8.2.2.2.1 c33, .map (some b2), .bool rl8.2.2.1], sl59 (L a33 rl8.2.2.2.1 c33) rl8.2.2.2.1, MP map81 b2 rl8.2.2.2.2] w' S40) (wp_block (wp_iter (Inv := fun s8 fr w' => ∃ a32 c32 S39 F15, FrS 121 [(0, B b1 0), (10, I (-1)), (11, L a19 x30 c19), (17, I rl7.1), (104, I (len x30)), (105, I s8.1)] fr ∧ Mem w7o S37 F14 w' S39 F15 ∧ Sep [sl3 (L a19 x30 c19) s8.2.1, BX b1 83 [I s8.2.2.1, L a32 s8.2.2.2.2.1 c32, .map (some b2), .bool s8.2.2.2.1], sl59 (L a32 s8.2.2.2.2.1 c32) s8.2.2.2.2.1, MP map81 b2 s8.2.2.2.2.2] w' S39) hit8 ⟨a30, c30, S37, _, hF.sub _ (by kernel_rfl), (Mem.start hM0.bd hM0.bdF hM0.dj), hs⟩ fun s8 q8 fr w8i hI h hr8 => ?_)) fun fr w8o hM => ?_)
       · obtain ⟨a32, c32, S39, F15, hF, hM1, hs⟩ := hI
         refine wp_seq (wp_pure [(0, B b1 0), (10, I (-1)), (11, L a19 x30 c19), (17, I rl7.1), (104, I (len x30)), (105, I s8.1), (106, .bool (decide (s8.1 < (len x30))))] hF (by kernel_rfl) fun fr hF => then_normal ?_)
         refine wp_seq (wp_if hF (b := (decide (s8.1 < (len x30)))) rfl (fun hb => ?_) (fun hb => ?_))
         · replace h := iteT hb h
           refine (wp_skip (then_normal ?_))
           refine wp_seq (wp_block ?_)
           refine wp_seq (wp_pure [(0, B b1 0), (10, I (-1)), (11, L a19 x30 c19), (17, I rl7.1), (18, I s8.1), (104, I (len x30)), (105, I s8.1)] hF (by kernel_rfl) fun fr hF => then_normal ?_)
           refine (wp_text' ?_)
           refine from_pure 7 [(0, B b1 0), (10, I (-1)), (11, L a19 x30 c19), (17, I rl7.1), (104, I (len x30)), (105, I s8.1), (108, L a19 x30 c19), (109, I s8.1), (110, B b1 0), (111, I rl7.1), (112, I (-1)), (113, L a19 x30 c19), (114, I s8.1)] hF (by kernel_rfl) fun fr hF => ?_
           obtain ⟨x55, hx55, h⟩ := bindE h
           refine s_elemF (z := x55) (I x55) ty3 Try.underlying37 rfl rfl rfl rfl rfl hF rfl (hs.rv 0 rfl) rfl (get?_nn hx55) (get?_at hx55) rfl fun p fr hF => ?_
           obtain ⟨x56, hx56, h⟩ := bindE h
           have hs : Sep [BX b1 83 [I s8.2.2.1, L a32 s8.2.2.2.2.1 c32, .map (some b2), .bool s8.2.2.2.1], sl59 (L a32 s8.2.2.2.2.1 c32) s8.2.2.2.2.1, MP map81 b2 s8.2.2.2.2.2, sl3 (L a19 x30 c19) s8.2.1] w8i S39 := Sep.pick [1, 2, 3, 0] hs (by decide) rfl
           obtain ⟨A12, R12, hsA, hsR, hdA, hbA, hup⟩ := Sep.call (L1 := [BX b1 83 [I s8.2.2.1, L a32 s8.2.2.2.2.1 c32, .map (some b2), .bool s8.2.2.2.1], sl59 (L a32 s8.2.2.2.2.1 c32) s8.2.2.2.2.1, MP map81 b2 s8.2.2.2.2.2]) (L2 := [sl3 (L a19 x30 c19) s8.2.1]) hs hM1
           refine s_call [B b1 0, I rl7.1, I (-1), I x55] Try.call63 rfl rfl hF rfl (impl_builder_choose_ok (D.builder.mk (D.Circuit.mk s8.2.2.1 s8.2.2.2.2.1) s8.2.2.2.2.2 s8.2.2.2.1) rl7.1 (-1) x55 hx56 hsA hbA hdA) fun v w39 fr hRes hF => ?_
           obtain ⟨a34, c34, rfl, _, hp, hs⟩ := hRes
           obtain ⟨S41, hp, hs⟩ := hup hp hs
           have hM1 := hM1.stp hp
           have hs : Sep [BX b1 83 [I x56.2.c.Inputs, L a34 x56.2.c.Gates c34, .map (some b2), .bool x56.2.full], sl59 (L a34 x56.2.c.Gates c34) x56.2.c.Gates, MP map81 b2 x56.2.line, sl3 (L a19 x30 c19) s8.2.1] w39 S41 := hs
           obtain ⟨x57, hx57, h⟩ := bindE h
           refine q_set (q := x56.1) 3 hs hM1 rfl Try.underlying37 ty3 rfl rfl rfl rfl hF rfl rfl (by simp) rfl rfl hx57 fun w40 S42 fr _ hs hp hF => ?_
           have hM1 := hM1.stp hp
           have hs : Sep [BX b1 83 [I x56.2.c.Inputs, L a34 x56.2.c.Gates c34, .map (some b2), .bool x56.2.full], sl59 (L a34 x56.2.c.Gates c34) x56.2.c.Gates, MP map81 b2 x56.2.line, sl3 (L a19 x30 c19) x57] w40 S42 := hs
           refine from_end rfl ?_
           refine blk_normal (then_normal ?_)
           refine (wp_pure [(0, B b1 0), (10, I (-1)), (11, L a19 x30 c19), (17, I rl7.1), (104, I (len x30)), (105, I (w64 (s8.1 + 1)))] hF (by kernel_rfl) fun fr hF => then_normal ?_)
           have hs : Sep [sl3 (L a19 x30 c19) x57, BX b1 83 [I x56.2.c.Inputs, L a34 x56.2.c.Gates c34, .map (some b2), .bool x56.2.full], sl59 (L a34 x56.2.c.Gates c34) x56.2.c.Gates, MP map81 b2 x56.2.line] w40 S42 := Sep.pick [3, 0, 1, 2] hs (by decide) rfl
           exact ⟨_, (Option.some.inj h).symm, a34, c34, S42, _, hF.sub _ (by kernel_rfl), hM1, hs⟩
         replace h := iteF hb h
         refine (wp_exit (then_exit (then_exit (blk_exit_eq ?_))))
         obtain rfl := hr8 _ (Option.some.inj h).symm
         exact then_normal ⟨a32, c32, S39, _, hF.sub _ (by kernel_rfl), hM1, hs⟩
       · obtain ⟨a33, c33, S40, F16, hF, hMx, hs⟩ := hM
         have hM0 := hM0.trans hMx
         refine wp_seq (wp_pure [(8, L a19 x30 c19)] hF (by kernel_rfl) fun fr hF => then_normal ?_)
         obtain rfl := Option.some.inj h
         obtain ⟨he3, hs⟩ := hs.relen 0 rfl
         have hs : Sep [sl3 (L a19 rl8.1 c19) rl8.1, BX b1 83 [I rl8.2.1, L a33 rl8.2.2.2.1 c33, .map (some b2), .bool rl8.2.2.1], sl59 (L a33 rl8.2.2.2.1 c33) rl8.2.2.2.1, MP map81 b2 rl8.2.2.2.2] w8o S40 := hs
         exact wp_ret (ret1 rfl hF rfl ⟨_, rfl, a19, c19, a33, c33, (by simp only [L, he3]), S40, hM0.out, hs⟩)
   replace h := iteF hb h
   refine (wp_skip (then_normal ?_))
   refine wp_seq (wp_pure [(8, L a19 x30 c19)] hF (by kernel_rfl) fun fr hF => then_normal ?_)
   obtain rfl := Option.some.inj h
   obtain ⟨he4, hs⟩ := hs.relen 0 rfl
   have hs : Sep [sl3 (L a19 rl5.2.1 c19) rl5.2.1, BX b1 83 [I rl5.2.2.1, L a21 rl5.2.2.2.2.1 c21, .map (some b2), .bool rl5.2.2.2.1], sl59 (L a21 rl5.2.2.2.2.1 c21) rl5.2.2.2.2.1, MP map81 b2 rl5.2.2.2.2.2] w5o S24 := hs
   exact wp_ret (ret1 rfl hF rfl ⟨_, rfl, a19, c19, a21, c21, (by simp only [L, he4]), S24, hM0.out, hs⟩)

theorem impl_builder_equal_ok (n : Nat) (p0 : D.builder) (p1 : List Int) (p2 : List Int) {r : Int × D.builder} (h : impl_builder_equal n p0 p1 p2 = some r) {w : World} {S0 F0 : Nat → Prop} {pa0 : Option Addr} {pn0 pc0 : Nat} {b1 : Nat} {b2 : Nat} (hs : Sep [BX b1 83 [I p0.c.Inputs, .slice pa0 pn0 pc0, .map (some b2), .bool p0.full], sl59 (.slice pa0 pn0 pc0) p0.c.Gates, MP map81 b2 p0.line] w S0) (hb : ∀ k, S0 k → k < w.heap.size) (hd : ∀ k, S0 k → F0 k → False) {va1 : Value} (ra1 : RV w F0 va1 p1) {va2 : Value} (ra2 : RV w F0 va2 p2) :
   Calls Try.prog 99 [B b1 0, va1, va2].toArray w fun e w' => ∃ v, e = .returned v ∧ ∃ a1 c1, v = I r.1 ∧ ∃ S', Stp w S0 w' S' ∧ Sep [BX b1 83 [I r.2.c.Inputs, L a1 r.2.c.Gates c1, .map (some b2), .bool r.2.full], sl59 (L a1 r.2.c.Gates c1) r.2.c.Gates, MP map81 b2 r.2.line] w' S' := by
 unfold impl_builder_equal at h
 obtain ⟨hpn, hs⟩ := hs.relen 1 rfl
 subst hpn
 have hs : Sep [BX b1 83 [I p0.c.Inputs, L pa0 p0.c.Gates pc0, .map (some b2), .bool p0.full], sl59 (L pa0 p0.c.Gates pc0) p0.c.Gates, MP map81 b2 p0.line] w S0 := hs
 have hM0 : Mem w S0 (fun k => F0 k ∧ k < w.heap.size) w S0 (fun k => F0 k ∧ k < w.heap.size) := Mem.start hb (fun _ h => h.2) (fun k h1 h2 => hd k h1 h2.1)
 have ra1 := ra1.sub (F' := (fun k => F0 k ∧ k < w.heap.size)) (fun k hk h => ⟨h, hk⟩)
 obtain ⟨a1, c1, rfl, -⟩ := ra1.slice
 have ra2 := ra2.sub (F' := (fun k => F0 k ∧ k < w.heap.size)) (fun k hk h => ⟨h, hk⟩)
 obtain ⟨a2, c2, rfl, -⟩ := ra2.slice
 refine enter (N := 32) Try.func99 rfl Try.ntmps99 rfl fun fr hF => ?_
 refine wp_seq (wp_pure [(0, B b1 0), (1, L a1 p1 c1), (2, L a2 p2 c2)] hF (by kernel_rfl) fun fr hF => then_normal ?_)
 refine wp_seq (wp_pure [(0, B b1 0), (1, L a1 p1 c1), (2, L a2 p2 c2), (7, I 1)] hF (by kernel_rfl) fun fr hF => then_normal ?_)
 refine wp_seq ?_
 refine wp_seq (wp_pure [(0, B b1 0), (1, L a1 p1 c1), (2, L a2 p2 c2), (7, I 1), (11, I (len p1)), (12, I 0)] hF (by kernel_rfl) fun fr hF => then_normal ?_)
 obtain ⟨rl1, hit1, h⟩ := bindE h
 have hk1 := h
 refine (wp_cut (M := fun fr w' => ∃ a4 c4 S2 F2, FrS 32 [(7, I rl1.1)] fr ∧ Mem w S0 (fun k => F0 k ∧ k < w.heap.size) w' S2 F2 ∧ Sep [BX b1 83 [I rl1.2.1, L a4 rl1.2.2.2.1 c4, .map (some b2), .bool rl1.2.2.1], sl59 (L a4 rl1.2.2.2.1 c4) rl1.2.2.2.1, MP map81 b2 rl1.2.2.2.2] w' S2) (wp_block (wp_iter (Inv := fun s1 fr w' => ∃ a3 c3 S1 F1, FrS 32 [(0, B b1 0), (1, L a1 p1 c1), (2, L a2 p2 c2), (7, I s1.1), (11, I (len p1)), (12, I s1.2.1)] fr ∧ Mem w S0 (fun k => F0 k ∧ k < w.heap.size) w' S1 F1 ∧ Sep [BX b1 83 [I s1.2.2.1, L a3 s1.2.2.2.2.1 c3, .map (some b2), .bool s1.2.2.2.1], sl59 (L a3 s1.2.2.2.2.1 c3) s1.2.2.2.2.1, MP map81 b2 s1.2.2.2.2.2] w' S1) hit1 ⟨pa0, pc0, S0, _, hF.sub _ (by kernel_rfl), (Mem.start hM0.bd hM0.bdF hM0.dj), hs⟩ fun s1 q1 fr w1i hI h hr1 => ?_)) fun fr w1o hM => ?_)
 · obtain ⟨a3, c3, S1, F1, hF, hM1, hs⟩ := hI
   have ra1 := ra1.mem hM1
   have ra2 := ra2.mem hM1
   refine wp_seq (wp_pure [(0, B b1 0), (1, L a1 p1 c1), (2, L a2 p2 c2), (7, I s1.1), (11, I (len p1)), (12, I s1.2.1), (13, .bool (decide (s1.2.1 < (len p1))))] hF (by kernel_rfl) fun fr hF => then_normal ?_)
   refine wp_seq (wp_if hF (b := (decide (s1.2.1 < (len p1)))) rfl (fun hb => ?_) (fun hb => ?_))
   · replace h := iteT hb h
     refine (wp_skip (then_normal ?_))
     refine wp_seq (wp_block ?_)
     refine wp_seq (wp_pure [(0, B b1 0), (1, L a1 p1 c1), (2, L a2 p2 c2), (7, I s1.1), (8, I s1.2.1), (11, I (len p1)), (12, I s1.2.1)] hF (by kernel_rfl) fun fr hF => then_normal ?_)
     obtain ⟨x1, hx1, h⟩ := bindE h
     obtain ⟨x2, hx2, h⟩ := bindE h
     refine wp_seq (region_bm 9 [0, 0, 0, 6, 14, 0, 0, 96, 224, 511, 1023] [true, true, true, false, false, true, true, false, false]
         [.eq (B b1 0), .eq (L a1 p1 c1), .eq (I s1.2.1), .is fun v w => ElemP w (fun k => k < w1i.heap.size) v (x1 : Int), .eq (I x1), .eq (L a2 p2 c2), .eq (I s1.2.1), .is fun v w => ElemP w (fun k => k < w1i.heap.size) v (x2 : Int), .eq (I x2), .any, .any]
         [(0, B b1 0), (1, L a1 p1 c1), (2, L a2 p2 c2), (7, I s1.1), (11, I (len p1)), (12, I s1.2.1), (15, B b1 0), (19, I x1), (23, I x2)] mix hF (by kernel_rfl) (by kernel_rfl) (by kernel_rfl) (by kernel_rfl) ⟨(Pd.monoO_is mono_elem), Pd.monoO_eq, (Pd.monoO_is mono_elem), Pd.monoO_eq, trivial⟩ (fun ow hG => ⟨np_to ow (np_index hG hF ty3 Try.underlying37 rfl rfl (RV.sub (ra1) fun k hk _ => hk) rfl rfl (fun hg => ⟨get?_nn hx1, get?_at hx1⟩)), np_to ow (np_loadF (z := x1) (i := 3) hG hF ty3 rfl rfl rfl rfl rfl rfl rfl), np_to ow (np_index hG hF ty3 Try.underlying37 rfl rfl (RV.sub (ra2) fun k hk _ => hk) rfl rfl (fun hg => ⟨get?_nn hx2, get?_at hx2⟩)), np_to ow (np_loadF (z := x2) (i := 7) hG hF ty3 rfl rfl rfl rfl rfl rfl rfl), trivial⟩) (by kernel_rfl) fun ow fr w1 hF hE hc => ?_)
     have ra1 := ra1.ext hc
     have ra2 := ra2.ext hc
     have hs := hs.ext hc
     have hM1 := hM1.ext hc
     obtain ⟨x3, hx3, h⟩ := bindE h
     obtain ⟨A1, R1, hsA, hsR, hdA, hbA, hup⟩ := Sep.call (L1 := [BX b1 83 [I s1.2.2.1, L a3 s1.2.2.2.2.1 c3, .map (some b2), .bool s1.2.2.2.1], sl59 (L a3 s1.2.2.2.2.1 c3) s1.2.2.2.2.1, MP map81 b2 s1.2.2.2.2.2]) (L2 := []) hs hM1
     refine s_call [B b1 0, I x1, I x2] Try.call60 rfl rfl hF rfl (impl_builder_xor_ok (D.builder.mk (D.Circuit.mk s1.2.2.1 s1.2.2.2.2.1) s1.2.2.2.2.2 s1.2.2.2.1) x1 x2 hx3 hsA hbA hdA) fun v w2 fr hRes hF => ?_
     obtain ⟨a5, c5, rfl, _, hp, hs⟩ := hRes
     obtain ⟨S3, hp, hs⟩ := hup hp hs
     have ra1 := ra1.stp hM1 hp
     have ra2 := ra2.stp hM1 hp
     have hM1 := hM1.stp hp
     have hs : Sep [BX b1 83 [I x3.2.c.Inputs, L a5 x3.2.c.Gates c5, .map (some b2), .bool x3.2.full], sl59 (L a5 x3.2.c.Gates c5) x3.2.c.Gates, MP map81 b2 x3.2.line] w2 S3 := hs
     refine from_pure 1 [(0, B b1 0), (1, L a1 p1 c1), (2, L a2 p2 c2), (7, I s1.1), (9, I x3.1), (11, I (len p1)), (12, I s1.2.1)] hF (by kernel_rfl) fun fr hF => ?_
     refine from_end rfl (then_normal ?_)
     refine (wp_text' ?_)
     refine from_pure 4 [(0, B b1 0), (1, L a1 p1 c1), (2, L a2 p2 c2), (11, I (len p1)), (12, I s1.2.1), (25, B b1 0), (26, I s1.1), (28, I (w64 (0 - x3.1)))] hF (by kernel_rfl) fun fr hF => ?_
     obtain ⟨x4, hx4, h⟩ := bindE h
     obtain ⟨A2, R2, hsA, hsR, hdA, hbA, hup⟩ := Sep.call (L1 := [BX b1 83 [I x3.2.c.Inputs, L a5 x3.2.c.Gates c5, .map (some b2), .bool x3.2.full], sl59 (L a5 x3.2.c.Gates c5) x3.2.c.Gates, MP map81 b2 x3.2.line]) (L2 := []) hs hM1
     refine s_call [B b1 0, I s1.1, I (w64 (0 - x3.1))] Try.call51 rfl rfl hF rfl (impl_builder_and_ok x3.2 s1.1 (w64 (0 - x3.1)) hx4 hsA hbA hdA) fun v w3 fr hRes hF => ?_
     obtain ⟨a6, c6, rfl, _, hp, hs⟩ := hRes
     obtain ⟨S4, hp, hs⟩ := hup hp hs
     have ra1 := ra1.stp hM1 hp
     have ra2 := ra2.stp hM1 hp
     have hM1 := hM1.stp hp
     have hs : Sep [BX b1 83 [I x4.2.c.Inputs, L a6 x4.2.c.Gates c6, .map (some b2), .bool x4.2.full], sl59 (L a6 x4.2.c.Gates c6) x4.2.c.Gates, MP map81 b2 x4.2.line] w3 S4 := hs
     refine from_pure 1 [(0, B b1 0), (1, L a1 p1 c1), (2, L a2 p2 c2), (7, I x4.1), (11, I (len p1)), (12, I s1.2.1)] hF (by kernel_rfl) fun fr hF => ?_
     refine from_end rfl ?_
     refine blk_normal (then_normal ?_)
     refine (wp_pure [(0, B b1 0), (1, L a1 p1 c1), (2, L a2 p2 c2), (7, I x4.1), (11, I (len p1)), (12, I (w64 (s1.2.1 + 1)))] hF (by kernel_rfl) fun fr hF => then_normal ?_)
     exact ⟨_, (Option.some.inj h).symm, a6, c6, S4, _, hF.sub _ (by kernel_rfl), hM1, hs⟩
   replace h := iteF hb h
   refine (wp_exit (then_exit (then_exit (blk_exit_eq ?_))))
   obtain rfl := hr1 _ (Option.some.inj h).symm
   exact then_normal ⟨a3, c3, S1, _, hF.sub _ (by kernel_rfl), hM1, hs⟩
 · obtain ⟨a4, c4, S2, F2, hF, hMx, hs⟩ := hM
   have hM0 := hM0.trans hMx
   refine wp_seq (wp_pure [(6, I rl1.1)] hF (by kernel_rfl) fun fr hF => then_normal ?_)
   obtain rfl := Option.some.inj h
   exact wp_ret (ret1 rfl hF rfl ⟨_, rfl, a4, c4, rfl, S2, hM0.out, hs⟩)

theorem impl_builder_less_ok (n : Nat) (p0 : D.builder) (p1 : List Int) (p2 : List Int) {r : Int × D.builder} (h : impl_builder_less n p0 p1 p2 = some r) {w : World} {S0 F0 : Nat → Prop} {pa0 : Option Addr} {pn0 pc0 : Nat} {b1 : Nat} {b2 : Nat} (hs : Sep [BX b1 83 [I p0.c.Inputs, .slice pa0 pn0 pc0, .map (some b2), .bool p0.full], sl59 (.slice pa0 pn0 pc0) p0.c.Gates, MP map81 b2 p0.line] w S0) (hb : ∀ k, S0 k → k < w.heap.size) (hd : ∀ k, S0 k → F0 k → False) {va1 : Value} (ra1 : RV w F0 va1 p1) {va2 : Value} (ra2 : RV w F0 va2 p2) :
   Calls Try.prog 100 [B b1 0, va1, va2].toArray w fun e w' => ∃ v, e = .returned v ∧ ∃ a1 c1, v = I r.1 ∧ ∃ S', Stp w S0 w' S' ∧ Sep [BX b1 83 [I r.2.c.Inputs, L a1 r.2.c.Gates c1, .map (some b2), .bool r.2.full], sl59 (L a1 r.2.c.Gates c1) r.2.c.Gates, MP map81 b2 r.2.line] w' S' := by
 unfold impl_builder_less at h
 obtain ⟨hpn, hs⟩ := hs.relen 1 rfl
 subst hpn
 have hs : Sep [BX b1 83 [I p0.c.Inputs, L pa0 p0.c.Gates pc0, .map (some b2), .bool p0.full], sl59 (L pa0 p0.c.Gates pc0) p0.c.Gates, MP map81 b2 p0.line] w S0 := hs
 have hM0 : Mem w S0 (fun k => F0 k ∧ k < w.heap.size) w S0 (fun k => F0 k ∧ k < w.heap.size) := Mem.start hb (fun _ h => h.2) (fun k h1 h2 => hd k h1 h2.1)
 have ra1 := ra1.sub (F' := (fun k => F0 k ∧ k < w.heap.size)) (fun k hk h => ⟨h, hk⟩)
 obtain ⟨a1, c1, rfl, -⟩ := ra1.slice
 have ra2 := ra2.sub (F' := (fun k => F0 k ∧ k < w.heap.size)) (fun k hk h => ⟨h, hk⟩)
 obtain ⟨a2, c2, rfl, -⟩ := ra2.slice
 refine enter (N := 19) Try.func100 rfl Try.ntmps100 rfl fun fr hF => ?_
 refine wp_seq (wp_pure [(0, B b1 0), (1, L a1 p1 c1), (2, L a2 p2 c2)] hF (by kernel_rfl) fun fr hF => then_normal ?_)
 refine wp_seq (wp_text' ?_)
 refine from_pure 3 [(10, B b1 0), (11, L a1 p1 c1), (12, L a2 p2 c2)] hF (by kernel_rfl) fun fr hF => ?_
 obtain ⟨x1, hx1, h⟩ := bindE h
 refine s_call [L a2 p2 c2] Try.call95 rfl rfl hF rfl (impl_opposites_ok n p2 hx1 (ra2)) fun v w1 fr hRes hF => ?_
 obtain ⟨a3, c3, rfl, _, hp, hs2⟩ := hRes
 obtain ⟨S1, hp, hs⟩ := hs.got hM0 hp hs2
 have ra1 := ra1.stp hM0 hp
 have ra2 := ra2.stp hM0 hp
 have hM0 := hM0.stp hp
 have hs : Sep [sl3 (L a3 x1 c3) x1, BX b1 83 [I p0.c.Inputs, L pa0 p0.c.Gates pc0, .map (some b2), .bool p0.full], sl59 (L pa0 p0.c.Gates pc0) p0.c.Gates, MP map81 b2 p0.line] w1 S1 := hs
 obtain ⟨x2, hx2, h⟩ := bindE h
 have hs : Sep [BX b1 83 [I p0.c.Inputs, L pa0 p0.c.Gates pc0, .map (some b2), .bool p0.full], sl59 (L pa0 p0.c.Gates pc0) p0.c.Gates, MP map81 b2 p0.line, sl3 (L a3 x1 c3) x1] w1 S1 := Sep.pick [1, 2, 3, 0] hs (by decide) rfl
 obtain ⟨A1, R1, hsA, hsR, hdA, hbA, hup⟩ := Sep.call (L1 := [BX b1 83 [I p0.c.Inputs, L pa0 p0.c.Gates pc0, .map (some b2), .bool p0.full], sl59 (L pa0 p0.c.Gates pc0) p0.c.Gates, MP map81 b2 p0.line]) (L2 := [sl3 (L a3 x1 c3) x1]) hs hM0
 refine s_call [B b1 0, L a1 p1 c1, L a3 x1 c3, I 1] Try.call69 rfl rfl hF rfl (impl_builder_add_ok n p0 p1 x1 1 hx2 hsA hbA hdA (ra1.big (fun _ h => .inl h)) ((hsR.rv 0 rfl).big (fun _ h => .inr h))) fun v w2 fr hRes hF => ?_
 obtain ⟨a4, c4, a5, c5, rfl, _, hp, hs⟩ := hRes
 obtain ⟨S2, hp, hs⟩ := hup hp hs
 have ra1 := ra1.stp hM0 hp
 have hM0 := hM0.stp hp
 have hs : Sep [sl3 (L a4 x2.1 c4) x2.1, BX b1 83 [I x2.2.2.c.Inputs, L a5 x2.2.2.c.Gates c5, .map (some b2), .bool x2.2.2.full], sl59 (L a5 x2.2.2.c.Gates c5) x2.2.2.c.Gates, MP map81 b2 x2.2.2.line, sl3 (L a3 x1 c3) x1] w2 S2 := hs
 have hs : Sep [sl3 (L a4 x2.1 c4) x2.1, BX b1 83 [I x2.2.2.c.Inputs, L a5 x2.2.2.c.Gates c5, .map (some b2), .bool x2.2.2.full], sl59 (L a5 x2.2.2.c.Gates c5) x2.2.2.c.Gates, MP map81 b2 x2.2.2.line] w2 S2 := Sep.pick [0, 1, 2, 3] hs (by decide) rfl
 refine from_pure 5 [(8, I x2.2.1)] hF (by kernel_rfl) fun fr hF => ?_
 have hs : Sep [BX b1 83 [I x2.2.2.c.Inputs, L a5 x2.2.2.c.Gates c5, .map (some b2), .bool x2.2.2.full], sl59 (L a5 x2.2.2.c.Gates c5) x2.2.2.c.Gates, MP map81 b2 x2.2.2.line] w2 S2 := Sep.pick [1, 2, 3] hs (by decide) rfl
 refine from_end rfl (then_normal ?_)
 refine wp_seq (wp_pure [(6, I (w64 (0 - x2.2.1)))] hF (by kernel_rfl) fun fr hF => then_normal ?_)
 obtain rfl := Option.some.inj h
 exact wp_ret (ret1 rfl hF rfl ⟨_, rfl, a5, c5, rfl, S2, hM0.out, hs⟩)

theorem impl_signTurned_ok (p0 : List Int) {r : (List Int)} (h : impl_signTurned p0 = some r) {w : World} {G0 : Nat → Prop} {va0 : Value} (ra0 : RV w G0 va0 p0) :
   Calls Try.prog 101 [va0].toArray w fun e w' => ∃ v, e = .returned v ∧ ∃ a1 c1, v = L a1 r c1 ∧ ∃ S', Stp w Non w' S' ∧ Sep [sl3 (L a1 r c1) r] w' S' := by
 unfold impl_signTurned at h
 have hs := Sep.nil w Non
 have hM0 : Mem w Non (fun k => (G0 k) ∧ k < w.heap.size) w Non (fun k => (G0 k) ∧ k < w.heap.size) := Mem.start (fun _ h => h.elim) (fun _ h => h.2) (fun _ h => h.elim)
 have ra0 := ra0.sub (F' := (fun k => (G0 k) ∧ k < w.heap.size)) (fun k hk h => ⟨h, hk⟩)
 obtain ⟨a1, c1, rfl, -⟩ := ra0.slice
 refine enter (N := 19) Try.func101 rfl Try.ntmps101 rfl fun fr hF => ?_
 refine wp_seq (wp_pure [(0, L a1 p0 c1)] hF (by kernel_rfl) fun fr hF => then_normal ?_)
 refine wp_seq (wp_text' ?_)
 refine from_pure 1 [(4, L a1 p0 c1)] hF (by kernel_rfl) fun fr hF => ?_
 obtain ⟨x1, hx1, h⟩ := bindE h
 refine s_call [L a1 p0 c1] Try.call108 rfl rfl hF rfl (slices_Clone___int_int__ok p0 hx1 (ra0)) fun v w1 fr hRes hF => ?_
 obtain ⟨a2, c2, rfl, _, hp, hs2⟩ := hRes
 obtain ⟨S1, hp, hs⟩ := hs.got hM0 hp hs2
 have ra0 := ra0.stp hM0 hp
 have hM0 := hM0.stp hp
 have hs : Sep [sl3 (L a2 x1 c2) x1] w1 S1 := hs
 refine from_pure 1 [(3, L a2 x1 c2)] hF (by kernel_rfl) fun fr hF => ?_
 refine from_end rfl (then_normal ?_)
 refine wp_seq (wp_text' ?_)
 refine from_pure 8 [(3, L a2 x1 c2), (6, L a2 x1 c2), (9, I (w64 ((len x1) - 1))), (10, L a2 x1 c2), (13, I (w64 ((len x1) - 1)))] hF (by kernel_rfl) fun fr hF => ?_
 obtain ⟨x2, hx2, h⟩ := bindE h
 refine s_elemF (z := x2) (I x2) ty3 Try.underlying37 rfl rfl rfl rfl rfl hF rfl (hs.rv 0 rfl) rfl (get?_nn hx2) (get?_at hx2) rfl fun p fr hF => ?_
 refine from_pure 1 [(3, L a2 x1 c2), (6, L a2 x1 c2), (9, I (w64 ((len x1) - 1))), (16, I (w64 (0 - x2)))] hF (by kernel_rfl) fun fr hF => ?_
 obtain ⟨x3, hx3, h⟩ := bindE h
 refine q_set (q := (w64 (0 - x2))) 0 hs hM0 rfl Try.underlying37 ty3 rfl rfl rfl rfl hF rfl rfl (by simp) rfl rfl hx3 fun w2 S2 fr _ hs hp hF => ?_
 have hM0 := hM0.stp hp
 have hs : Sep [sl3 (L a2 x1 c2) x3] w2 S2 := hs
 refine from_end rfl (then_normal ?_)
 refine wp_seq (wp_pure [(2, L a2 x1 c2)] hF (by kernel_rfl) fun fr hF => then_normal ?_)
 obtain rfl := Option.some.inj h
 obtain ⟨he1, hs⟩ := hs.relen 0 rfl
 have hs : Sep [sl3 (L a2 x3 c2) x3] w2 S2 := hs
 exact wp_ret (ret1 rfl hF rfl ⟨_, rfl, a2, c2, (by simp only [L, he1]), S2, hM0.out, hs⟩)

theorem impl_builder_operate_ok (n : Nat) (p0 : D.builder) (p1 : Int) (p2 : List Int) (p3 : List Int) {r : (List Int) × D.builder} (h : impl_builder_operate n p0 p1 p2 p3 = some r) {w : World} {S0 F0 : Nat → Prop} {pa0 : Option Addr} {pn0 pc0 : Nat} {b1 : Nat} {b2 : Nat} (hs : Sep [BX b1 83 [I p0.c.Inputs, .slice pa0 pn0 pc0, .map (some b2), .bool p0.full], sl59 (.slice pa0 pn0 pc0) p0.c.Gates, MP map81 b2 p0.line] w S0) (hb : ∀ k, S0 k → k < w.heap.size) (hd : ∀ k, S0 k → F0 k → False) {va2 : Value} (ra2 : RV w F0 va2 p2) {va3 : Value} (ra3 : RV w F0 va3 p3) :
   Calls Try.prog 73 [B b1 0, I p1, va2, va3].toArray w fun e w' => ∃ v, e = .returned v ∧ ∃ a1 c1 a2 c2, v = L a1 r.1 c1 ∧ ∃ S', Stp w S0 w' S' ∧ Sep [sl3 (L a1 r.1 c1) r.1, BX b1 83 [I r.2.c.Inputs, L a2 r.2.c.Gates c2, .map (some b2), .bool r.2.full], sl59 (L a2 r.2.c.Gates c2) r.2.c.Gates, MP map81 b2 r.2.line] w' S' := by
 unfold impl_builder_operate at h
 obtain ⟨hpn, hs⟩ := hs.relen 1 rfl
 subst hpn
 have hs : Sep [BX b1 83 [I p0.c.Inputs, L pa0 p0.c.Gates pc0, .map (some b2), .bool p0.full], sl59 (L pa0 p0.c.Gates pc0) p0.c.Gates, MP map81 b2 p0.line] w S0 := hs
 have hM0 : Mem w S0 (fun k => F0 k ∧ k < w.heap.size) w S0 (fun k => F0 k ∧ k < w.heap.size) := Mem.start hb (fun _ h => h.2) (fun k h1 h2 => hd k h1 h2.1)
 have ra2 := ra2.sub (F' := (fun k => F0 k ∧ k < w.heap.size)) (fun k hk h => ⟨h, hk⟩)
 obtain ⟨a1, c1, rfl, -⟩ := ra2.slice
 have ra3 := ra3.sub (F' := (fun k => F0 k ∧ k < w.heap.size)) (fun k hk h => ⟨h, hk⟩)
 obtain ⟨a2, c2, rfl, -⟩ := ra3.slice
 refine enter (N := 153) Try.func73 rfl Try.ntmps73 rfl fun fr hF => ?_
 refine wp_seq (wp_pure [(0, B b1 0), (1, I p1), (2, L a1 p2 c1), (3, L a2 p3 c2)] hF (by kernel_rfl) fun fr hF => then_normal ?_)
 refine wp_seq ?_
 refine wp_seq (wp_pure [(0, B b1 0), (1, I p1), (2, L a1 p2 c1), (3, L a2 p3 c2), (19, I p1)] hF (by kernel_rfl) fun fr hF => then_normal ?_)
 refine (wp_block ?_)
 refine wp_seq (wp_pure [(0, B b1 0), (1, I p1), (2, L a1 p2 c1), (3, L a2 p3 c2), (19, I p1), (20, .bool (p1 == 3))] hF (by kernel_rfl) fun fr hF => then_normal ?_)
 refine (wp_if hF (b := (p1 == 3)) rfl (fun hb => ?_) (fun hb => ?_))
 · replace h := iteT hb h
   refine wp_seq (wp_text' ?_)
   refine from_pure 3 [(23, B b1 0), (24, L a1 p2 c1), (25, L a2 p3 c2)] hF (by kernel_rfl) fun fr hF => ?_
   obtain ⟨x1, hx1, h⟩ := bindE h
   obtain ⟨A1, R1, hsA, hsR, hdA, hbA, hup⟩ := Sep.call (L1 := [BX b1 83 [I p0.c.Inputs, L pa0 p0.c.Gates pc0, .map (some b2), .bool p0.full], sl59 (L pa0 p0.c.Gates pc0) p0.c.Gates, MP map81 b2 p0.line]) (L2 := []) hs hM0
   refine s_call [B b1 0, L a1 p2 c1, L a2 p3 c2, I (-1)] Try.call69 rfl rfl hF rfl (impl_builder_add_ok n p0 p2 p3 (-1) hx1 hsA hbA hdA (ra2.big (fun _ h => .inl h)) (ra3.big (fun _ h => .inl h))) fun v w1 fr hRes hF => ?_
   obtain ⟨a3, c3, a4, c4, rfl, _, hp, hs⟩ := hRes
   obtain ⟨S1, hp, hs⟩ := hup hp hs
   have ra2 := ra2.stp hM0 hp
   have ra3 := ra3.stp hM0 hp
   have hM0 := hM0.stp hp
   have hs : Sep [sl3 (L a3 x1.1 c3) x1.1, BX b1 83 [I x1.2.2.c.Inputs, L a4 x1.2.2.c.Gates c4, .map (some b2), .bool x1.2.2.full], sl59 (L a4 x1.2.2.c.Gates c4) x1.2.2.c.Gates, MP map81 b2 x1.2.2.line] w1 S1 := hs
   refine from_pure 5 [(9, L a3 x1.1 c3)] hF (by kernel_rfl) fun fr hF => ?_
   refine from_end rfl (then_normal ?_)
   refine wp_seq (wp_pure [(8, L a3 x1.1 c3)] hF (by kernel_rfl) fun fr hF => then_normal ?_)
   obtain rfl := Option.some.inj h
   exact wp_ret (blk_ret (then_ret (ret1 rfl hF rfl ⟨_, rfl, a3, c3, a4, c4, rfl, S1, hM0.out, hs⟩)))
 replace h := iteF hb h
 refine wp_seq (wp_pure [(0, B b1 0), (1, I p1), (2, L a1 p2 c1), (3, L a2 p3 c2), (19, I p1), (30, .bool (p1 == 4))] hF (by kernel_rfl) fun fr hF => then_normal ?_)
 refine (wp_if hF (b := (p1 == 4)) rfl (fun hb => ?_) (fun hb => ?_))
 · replace h := iteT hb h
   refine wp_seq (wp_text' ?_)
   refine from_pure 3 [(33, B b1 0), (34, L a1 p2 c1), (35, L a2 p3 c2)] hF (by kernel_rfl) fun fr hF => ?_
   obtain ⟨x2, hx2, h⟩ := bindE h
   refine s_call [L a2 p3 c2] Try.call95 rfl rfl hF rfl (impl_opposites_ok n p3 hx2 (ra3)) fun v w2 fr hRes hF => ?_
   obtain ⟨a5, c5, rfl, _, hp, hs2⟩ := hRes
   obtain ⟨S2, hp, hs⟩ := hs.got hM0 hp hs2
   have ra2 := ra2.stp hM0 hp
   have ra3 := ra3.stp hM0 hp
   have hM0 := hM0.stp hp
   have hs : Sep [sl3 (L a5 x2 c5) x2, BX b1 83 [I p0.c.Inputs, L pa0 p0.c.Gates pc0, .map (some b2), .bool p0.full], sl59 (L pa0 p0.c.Gates pc0) p0.c.Gates, MP map81 b2 p0.line] w2 S2 := hs
   obtain ⟨x3, hx3, h⟩ := bindE h
   have hs : Sep [BX b1 83 [I p0.c.Inputs, L pa0 p0.c.Gates pc0, .map (some b2), .bool p0.full], sl59 (L pa0 p0.c.Gates pc0) p0.c.Gates, MP map81 b2 p0.line, sl3 (L a5 x2 c5) x2] w2 S2 := Sep.pick [1, 2, 3, 0] hs (by decide) rfl
   obtain ⟨A2, R2, hsA, hsR, hdA, hbA, hup⟩ := Sep.call (L1 := [BX b1 83 [I p0.c.Inputs, L pa0 p0.c.Gates pc0, .map (some b2), .bool p0.full], sl59 (L pa0 p0.c.Gates pc0) p0.c.Gates, MP map81 b2 p0.line]) (L2 := [sl3 (L a5 x2 c5) x2]) hs hM0
   refine s_call [B b1 0, L a1 p2 c1, L a5 x2 c5, I 1] Try.call69 rfl rfl hF rfl (impl_builder_add_ok n p0 p2 x2 1 hx3 hsA hbA hdA (ra2.big (fun _ h => .inl h)) ((hsR.rv 0 rfl).big (fun _ h => .inr h))) fun v w3 fr hRes hF => ?_
   obtain ⟨a6, c6, a7, c7, rfl, _, hp, hs⟩ := hRes
   obtain ⟨S3, hp, hs⟩ := hup hp hs
   have ra2 := ra2.stp hM0 hp
   have hM0 := hM0.stp hp
   have hs : Sep [sl3 (L a6 x3.1 c6) x3.1, BX b1 83 [I x3.2.2.c.Inputs, L a7 x3.2.2.c.Gates c7, .map (some b2), .bool x3.2.2.full], sl59 (L a7 x3.2.2.c.Gates c7) x3.2.2.c.Gates, MP map81 b2 x3.2.2.line, sl3 (L a5 x2 c5) x2] w3 S3 := hs
   have hs : Sep [sl3 (L a6 x3.1 c6) x3.1, BX b1 83 [I x3.2.2.c.Inputs, L a7 x3.2.2.c.Gates c7, .map (some b2), .bool x3.2.2.full], sl59 (L a7 x3.2.2.c.Gates c7) x3.2.2.c.Gates, MP map81 b2 x3.2.2.line] w3 S3 := Sep.pick [0, 1, 2, 3] hs (by decide) rfl
   refine from_pure 5 [(11, L a6 x3.1 c6)] hF (by kernel_rfl) fun fr hF => ?_
   refine from_end rfl (then_normal ?_)
   refine wp_seq (wp_pure [(8, L a6 x3.1 c6)] hF (by kernel_rfl) fun fr hF => then_normal ?_)
   obtain rfl := Option.some.inj h
   exact wp_ret (blk_ret (then_ret (ret1 rfl hF rfl ⟨_, rfl, a6, c6, a7, c7, rfl, S3, hM0.out, hs⟩)))
 replace h := iteF hb h
 refine wp_seq (wp_pure [(0, B b1 0), (1, I p1), (2, L a1 p2 c1), (3, L a2 p3 c2), (19, I p1), (41, .bool (p1 == 5))] hF (by kernel_rfl) fun fr hF => then_normal ?_)
 refine (wp_if hF (b := (p1 == 5)) rfl (fun hb => ?_) (fun hb => ?_))
 · replace h := iteT hb h
   refine wp_seq (wp_text' ?_)
   refine from_pure 3 [(43, B b1 0), (44, L a1 p2 c1), (45, L a2 p3 c2)] hF (by kernel_rfl) fun fr hF => ?_
   obtain ⟨x4, hx4, h⟩ := bindE h
   obtain ⟨A3, R3, hsA, hsR, hdA, hbA, hup⟩ := Sep.call (L1 := [BX b1 83 [I p0.c.Inputs, L pa0 p0.c.Gates pc0, .map (some b2), .bool p0.full], sl59 (L pa0 p0.c.Gates pc0) p0.c.Gates, MP map81 b2 p0.line]) (L2 := []) hs hM0
   refine s_call [B b1 0, L a1 p2 c1, L a2 p3 c2] Try.call96 rfl rfl hF rfl (impl_builder_multiply_ok n p0 p2 p3 hx4 hsA hbA hdA (ra2.big (fun _ h => .inl h)) (ra3.big (fun _ h => .inl h))) fun v w4 fr hRes hF => ?_
   obtain ⟨a8, c8, a9, c9, rfl, _, hp, hs⟩ := hRes
   obtain ⟨S4, hp, hs⟩ := hup hp hs
   have ra2 := ra2.stp hM0 hp
   have ra3 := ra3.stp hM0 hp
   have hM0 := hM0.stp hp
   have hs : Sep [sl3 (L a8 x4.1 c8) x4.1, BX b1 83 [I x4.2.c.Inputs, L a9 x4.2.c.Gates c9, .map (some b2), .bool x4.2.full], sl59 (L a9 x4.2.c.Gates c9) x4.2.c.Gates, MP map81 b2 x4.2.line] w4 S4 := hs
   refine from_pure 1 [(8, L a8 x4.1 c8)] hF (by kernel_rfl) fun fr hF => ?_
   refine from_end rfl (then_normal ?_)
   obtain rfl := Option.some.inj h
   exact wp_ret (blk_ret (then_ret (ret1 rfl hF rfl ⟨_, rfl, a8, c8, a9, c9, rfl, S4, hM0.out, hs⟩)))
 replace h := iteF hb h
 refine wp_seq (wp_pure [(0, B b1 0), (1, I p1), (2, L a1 p2 c1), (3, L a2 p3 c2), (19, I p1), (47, .bool (p1 == 6))] hF (by kernel_rfl) fun fr hF => then_normal ?_)
 refine (wp_if hF (b := (p1 == 6)) rfl (fun hb => ?_) (fun hb => ?_))
 · replace h := iteT hb h
   refine wp_seq (wp_text' ?_)
   refine from_pure 3 [(50, B b1 0), (51, L a1 p2 c1), (52, L a2 p3 c2)] hF (by kernel_rfl) fun fr hF => ?_
   obtain ⟨x5, hx5, h⟩ := bindE h
   obtain ⟨A4, R4, hsA, hsR, hdA, hbA, hup⟩ := Sep.call (L1 := [BX b1 83 [I p0.c.Inputs, L pa0 p0.c.Gates pc0, .map (some b2), .bool p0.full], sl59 (L pa0 p0.c.Gates pc0) p0.c.Gates, MP map81 b2 p0.line]) (L2 := []) hs hM0
   refine s_call [B b1 0, L a1 p2 c1, L a2 p3 c2] Try.call97 rfl rfl hF rfl (impl_builder_divide_ok n p0 p2 p3 hx5 hsA hbA hdA (ra2.big (fun _ h => .inl h)) (ra3.big (fun _ h => .inl h))) fun v w5 fr hRes hF => ?_
   obtain ⟨a10, c10, a11, c11, a12, c12, rfl, _, hp, hs⟩ := hRes
   obtain ⟨S5, hp, hs⟩ := hup hp hs
   have ra2 := ra2.stp hM0 hp
   have ra3 := ra3.stp hM0 hp
   have hM0 := hM0.stp hp
   have hs : Sep [sl3 (L a10 x5.1 c10) x5.1, sl3 (L a11 x5.2.1 c11) x5.2.1, BX b1 83 [I x5.2.2.c.Inputs, L a12 x5.2.2.c.Gates c12, .map (some b2), .bool x5.2.2.full], sl59 (L a12 x5.2.2.c.Gates c12) x5.2.2.c.Gates, MP map81 b2 x5.2.2.line] w5 S5 := hs
   refine from_pure 5 [(13, L a10 x5.1 c10)] hF (by kernel_rfl) fun fr hF => ?_
   have hs : Sep [sl3 (L a10 x5.1 c10) x5.1, BX b1 83 [I x5.2.2.c.Inputs, L a12 x5.2.2.c.Gates c12, .map (some b2), .bool x5.2.2.full], sl59 (L a12 x5.2.2.c.Gates c12) x5.2.2.c.Gates, MP map81 b2 x5.2.2.line] w5 S5 := Sep.pick [0, 2, 3, 4] hs (by decide) rfl
   refine from_end rfl (then_normal ?_)
   refine wp_seq (wp_pure [(8, L a10 x5.1 c10)] hF (by kernel_rfl) fun fr hF => then_normal ?_)
   obtain rfl := Option.some.inj h
   exact wp_ret (blk_ret (then_ret (ret1 rfl hF rfl ⟨_, rfl, a10, c10, a12, c12, rfl, S5, hM0.out, hs⟩)))
 replace h := iteF hb h
 refine wp_seq (wp_pure [(0, B b1 0), (1, I p1), (2, L a1 p2 c1), (3, L a2 p3 c2), (19, I p1), (57, .bool (p1 == 7))] hF (by kernel_rfl) fun fr hF => then_normal ?_)
 refine (wp_if hF (b := (p1 == 7)) rfl (fun hb => ?_) (fun hb => ?_))
 · replace h := iteT hb h
   refine wp_seq (wp_text' ?_)
   refine from_pure 3 [(60, B b1 0), (61, L a1 p2 c1), (62, L a2 p3 c2)] hF (by kernel_rfl) fun fr hF => ?_
   obtain ⟨x6, hx6, h⟩ := bindE h
   obtain ⟨A5, R5, hsA, hsR, hdA, hbA, hup⟩ := Sep.call (L1 := [BX b1 83 [I p0.c.Inputs, L pa0 p0.c.Gates pc0, .map (some b2), .bool p0.full], sl59 (L pa0 p0.c.Gates pc0) p0.c.Gates, MP map81 b2 p0.line]) (L2 := []) hs hM0
   refine s_call [B b1 0, L a1 p2 c1, L a2 p3 c2] Try.call97 rfl rfl hF rfl (impl_builder_divide_ok n p0 p2 p3 hx6 hsA hbA hdA (ra2.big (fun _ h => .inl h)) (ra3.big (fun _ h => .inl h))) fun v w6 fr hRes hF => ?_
   obtain ⟨a13, c13, a14, c14, a15, c15, rfl, _, hp, hs⟩ := hRes
   obtain ⟨S6, hp, hs⟩ := hup hp hs
   have ra2 := ra2.stp hM0 hp
   have ra3 := ra3.stp hM0 hp
   have hM0 := hM0.stp hp
   have hs : Sep [sl3 (L a13 x6.1 c13) x6.1, sl3 (L a14 x6.2.1 c14) x6.2.1, BX b1 83 [I x6.2.2.c.Inputs, L a15 x6.2.2.c.Gates c15, .map (some b2), .bool x6.2.2.full], sl59 (L a15 x6.2.2.c.Gates c15) x6.2.2.c.Gates, MP map81 b2 x6.2.2.line] w6 S6 := hs
   refine from_pure 5 [(16, L a14 x6.2.1 c14)] hF (by kernel_rfl) fun fr hF => ?_
   have hs : Sep [sl3 (L a14 x6.2.1 c14) x6.2.1, BX b1 83 [I x6.2.2.c.Inputs, L a15 x6.2.2.c.Gates c15, .map (some b2), .bool x6.2.2.full], sl59 (L a15 x6.2.2.c.Gates c15) x6.2.2.c.Gates, MP map81 b2 x6.2.2.line] w6 S6 := Sep.pick [1, 2, 3, 4] hs (by decide) rfl
   refine from_end rfl (then_normal ?_)
   refine wp_seq (wp_pure [(8, L a14 x6.2.1 c14)] hF (by kernel_rfl) fun fr hF => then_normal ?_)
   obtain rfl := Option.some.inj h
   exact wp_ret (blk_ret (then_ret (ret1 rfl hF rfl ⟨_, rfl, a14, c14, a15, c15, rfl, S6, hM0.out, hs⟩)))
 replace h := iteF hb h
 refine wp_seq ?_
 refine wp_seq (wp_pure [(0, B b1 0), (1, I p1), (2, L a1 p2 c1), (3, L a2 p3 c2), (19, I p1), (67, .bool (p1 == 11))] hF (by kernel_rfl) fun fr hF => then_normal ?_)
 refine (wp_if hF (b := (p1 == 11)) rfl (fun hb => ?_) (fun hb => ?_))
 · replace h := iteT hb h
   refine (wp_skip (then_normal ?_))
   refine (wp_if hF (b := (p1 == 11)) rfl (fun hb => ?_) (fun hb => ?_))
   · replace h := iteT hb h
     refine wp_seq (wp_text' ?_)
     refine from_pure 4 [(71, B b1 0), (72, I p1), (73, L a1 p2 c1), (74, L a2 p3 c2)] hF (by kernel_rfl) fun fr hF => ?_
     obtain ⟨x7, hx7, h⟩ := bindE h
     obtain ⟨A6, R6, hsA, hsR, hdA, hbA, hup⟩ := Sep.call (L1 := [BX b1 83 [I p0.c.Inputs, L pa0 p0.c.Gates pc0, .map (some b2), .bool p0.full], sl59 (L pa0 p0.c.Gates pc0) p0.c.Gates, MP map81 b2 p0.line]) (L2 := []) hs hM0
     refine s_call [B b1 0, I p1, L a1 p2 c1, L a2 p3 c2] Try.call98 rfl rfl hF rfl (impl_builder_shift_ok n p0 p1 p2 p3 hx7 hsA hbA hdA (ra2.big (fun _ h => .inl h)) (ra3.big (fun _ h => .inl h))) fun v w7 fr hRes hF => ?_
     obtain ⟨a16, c16, a17, c17, rfl, _, hp, hs⟩ := hRes
     obtain ⟨S7, hp, hs⟩ := hup hp hs
     have ra2 := ra2.stp hM0 hp
     have ra3 := ra3.stp hM0 hp
     have hM0 := hM0.stp hp
     have hs : Sep [sl3 (L a16 x7.1 c16) x7.1, BX b1 83 [I x7.2.c.Inputs, L a17 x7.2.c.Gates c17, .map (some b2), .bool x7.2.full], sl59 (L a17 x7.2.c.Gates c17) x7.2.c.Gates, MP map81 b2 x7.2.line] w7 S7 := hs
     refine from_pure 1 [(8, L a16 x7.1 c16)] hF (by kernel_rfl) fun fr hF => ?_
     refine from_end rfl (then_normal ?_)
     obtain rfl := Option.some.inj h
     exact wp_ret (blk_ret (then_ret (ret1 rfl hF rfl ⟨_, rfl, a16, c16, a17, c17, rfl, S7, hM0.out, hs⟩)))
   replace h := iteF hb h
   refine wp_seq (wp_pure [(0, B b1 0), (1, I p1), (2, L a1 p2 c1), (3, L a2 p3 c2), (19, I p1), (76, .bool (p1 == 14))] hF (by kernel_rfl) fun fr hF => then_normal ?_)
   refine (wp_if hF (b := (p1 == 14)) rfl (fun hb => ?_) (fun hb => ?_))
   · replace h := iteT hb h
     refine wp_seq (wp_text' ?_)
     refine from_pure 3 [(78, B b1 0), (79, L a1 p2 c1), (80, L a2 p3 c2)] hF (by kernel_rfl) fun fr hF => ?_
     obtain ⟨x8, hx8, h⟩ := bindE h
     obtain ⟨A7, R7, hsA, hsR, hdA, hbA, hup⟩ := Sep.call (L1 := [BX b1 83 [I p0.c.Inputs, L pa0 p0.c.Gates pc0, .map (some b2), .bool p0.full], sl59 (L pa0 p0.c.Gates pc0) p0.c.Gates, MP map81 b2 p0.line]) (L2 := []) hs hM0
     refine s_call [B b1 0, L a1 p2 c1, L a2 p3 c2] Try.call99 rfl rfl hF rfl (impl_builder_equal_ok n p0 p2 p3 hx8 hsA hbA hdA (ra2.big (fun _ h => .inl h)) (ra3.big (fun _ h => .inl h))) fun v w8 fr hRes hF => ?_
     obtain ⟨a18, c18, rfl, _, hp, hs⟩ := hRes
     obtain ⟨S8, hp, hs⟩ := hup hp hs
     have ra2 := ra2.stp hM0 hp
     have ra3 := ra3.stp hM0 hp
     have hM0 := hM0.stp hp
     have hs : Sep [BX b1 83 [I x8.2.c.Inputs, L a18 x8.2.c.Gates c18, .map (some b2), .bool x8.2.full], sl59 (L a18 x8.2.c.Gates c18) x8.2.c.Gates, MP map81 b2 x8.2.line] w8 S8 := hs
     refine q_lit (E := 3) hs hM0 [I x8.1] (([x8.1] : List Int).map Flat.enc) ([x8.1] : List Int) rfl rfl hF [I x8.1] rfl (fun w => by kernel_rfl) (css_flat _) rfl rfl rfl fun a19 c19 w9 S9 fr hs hp hF => ?_
     have hM0 := hM0.stp hp
     have hs : Sep [sl3 (L a19 ([x8.1] : List Int) c19) ([x8.1] : List Int), BX b1 83 [I x8.2.c.Inputs, L a18 x8.2.c.Gates c18, .map (some b2), .bool x8.2.full], sl59 (L a18 x8.2.c.Gates c18) x8.2.c.Gates, MP map81 b2 x8.2.line] w9 S9 := hs
     refine from_pure 1 [(8, L a19 ([x8.1] : List Int) c19)] hF (by kernel_rfl) fun fr hF => ?_
     refine from_end rfl (then_normal ?_)
     obtain rfl := Option.some.inj h
     exact wp_ret (blk_ret (then_ret (ret1 rfl hF rfl ⟨_, rfl, a19, c19, a18, c18, rfl, S9, hM0.out, hs⟩)))
   replace h := iteF hb h
   refine wp_seq (wp_pure [(0, B b1 0), (1, I p1), (2, L a1 p2 c1), (3, L a2 p3 c2), (19, I p1), (83, .bool (p1 == 15))] hF (by kernel_rfl) fun fr hF => then_normal ?_)
   refine (wp_if hF (b := (p1 == 15)) rfl (fun hb => ?_) (fun hb => ?_))
   · replace h := iteT hb h
     refine wp_seq (wp_text' ?_)
     refine from_pure 3 [(85, B b1 0), (86, L a1 p2 c1), (87, L a2 p3 c2)] hF (by kernel_rfl) fun fr hF => ?_
     obtain ⟨x9, hx9, h⟩ := bindE h
     obtain ⟨A8, R8, hsA, hsR, hdA, hbA, hup⟩ := Sep.call (L1 := [BX b1 83 [I p0.c.Inputs, L pa0 p0.c.Gates pc0, .map (some b2), .bool p0.full], sl59 (L pa0 p0.c.Gates pc0) p0.c.Gates, MP map81 b2 p0.line]) (L2 := []) hs hM0
     refine s_call [B b1 0, L a1 p2 c1, L a2 p3 c2] Try.call100 rfl rfl hF rfl (impl_builder_less_ok n p0 p2 p3 hx9 hsA hbA hdA (ra2.big (fun _ h => .inl h)) (ra3.big (fun _ h => .inl h))) fun v w10 fr hRes hF => ?_
     obtain ⟨a20, c20, rfl, _, hp, hs⟩ := hRes
     obtain ⟨S10, hp, hs⟩ := hup hp hs
     have ra2 := ra2.stp hM0 hp
     have ra3 := ra3.stp hM0 hp
     have hM0 := hM0.stp hp
     have hs : Sep [BX b1 83 [I x9.2.c.Inputs, L a20 x9.2.c.Gates c20, .map (some b2), .bool x9.2.full], sl59 (L a20 x9.2.c.Gates c20) x9.2.c.Gates, MP map81 b2 x9.2.line] w10 S10 := hs
     refine q_lit (E := 3) hs hM0 [I x9.1] (([x9.1] : List Int).map Flat.enc) ([x9.1] : List Int) rfl rfl hF [I x9.1] rfl (fun w => by kernel_rfl) (css_flat _) rfl rfl rfl fun a21 c21 w11 S11 fr hs hp hF => ?_
     have hM0 := hM0.stp hp
     have hs : Sep [sl3 (L a21 ([x9.1] : List Int) c21) ([x9.1] : List Int), BX b1 83 [I x9.2.c.Inputs, L a20 x9.2.c.Gates c20, .map (some b2), .bool x9.2.full], sl59 (L a20 x9.2.c.Gates c20) x9.2.c.Gates, MP map81 b2 x9.2.line] w11 S11 := hs
     refine from_pure 1 [(8, L a21 ([x9.1] : List Int) c21)] hF (by kernel_rfl) fun fr hF => ?_
     refine from_end rfl (then_normal ?_)
     obtain rfl := Option.some.inj h
     exact wp_ret (blk_ret (then_ret (ret1 rfl hF rfl ⟨_, rfl, a21, c21, a20, c20, rfl, S11, hM0.out, hs⟩)))
   replace h := iteF hb h
   refine wp_seq (wp_pure [(0, B b1 0), (1, I p1), (2, L a1 p2 c1), (3, L a2 p3 c2), (90, .bool (p1 == 16))] hF (by kernel_rfl) fun fr hF => then_normal ?_)
   refine (wp_if hF (b := (p1 == 16)) rfl (fun hb => ?_) (fun hb => ?_))
   · replace h := iteT hb h
     refine wp_seq (wp_text' ?_)
     refine from_pure 2 [(3, L a2 p3 c2), (92, B b1 0), (93, L a1 p2 c1)] hF (by kernel_rfl) fun fr hF => ?_
     obtain ⟨x10, hx10, h⟩ := bindE h
     refine s_call [L a1 p2 c1] Try.call101 rfl rfl hF rfl (impl_signTurned_ok p2 hx10 (ra2)) fun v w12 fr hRes hF => ?_
     obtain ⟨a22, c22, rfl, _, hp, hs2⟩ := hRes
     obtain ⟨S12, hp, hs⟩ := hs.got hM0 hp hs2
     have ra3 := ra3.stp hM0 hp
     have ra2 := ra2.stp hM0 hp
     have hM0 := hM0.stp hp
     have hs : Sep [sl3 (L a22 x10 c22) x10, BX b1 83 [I p0.c.Inputs, L pa0 p0.c.Gates pc0, .map (some b2), .bool p0.full], sl59 (L pa0 p0.c.Gates pc0) p0.c.Gates, MP map81 b2 p0.line] w12 S12 := hs
     refine from_pure 1 [(92, B b1 0), (94, L a22 x10 c22), (95, L a2 p3 c2)] hF (by kernel_rfl) fun fr hF => ?_
     obtain ⟨x11, hx11, h⟩ := bindE h
     refine s_call [L a2 p3 c2] Try.call101 rfl rfl hF rfl (impl_signTurned_ok p3 hx11 (ra3)) fun v w13 fr hRes hF => ?_
     obtain ⟨a23, c23, rfl, _, hp, hs2⟩ := hRes
     obtain ⟨S13, hp, hs⟩ := hs.got hM0 hp hs2
     have ra3 := ra3.stp hM0 hp
     have hM0 := hM0.stp hp
     have hs : Sep [sl3 (L a23 x11 c23) x11, sl3 (L a22 x10 c22) x10, BX b1 83 [I p0.c.Inputs, L pa0 p0.c.Gates pc0, .map (some b2), .bool p0.full], sl59 (L pa0 p0.c.Gates pc0) p0.c.Gates, MP map81 b2 p0.line] w13 S13 := hs
     obtain ⟨x12, hx12, h⟩ := bindE h
     have hs : Sep [BX b1 83 [I p0.c.Inputs, L pa0 p0.c.Gates pc0, .map (some b2), .bool p0.full], sl59 (L pa0 p0.c.Gates pc0) p0.c.Gates, MP map81 b2 p0.line, sl3 (L a23 x11 c23) x11, sl3 (L a22 x10 c22) x10] w13 S13 := Sep.pick [2, 3, 4, 0, 1] hs (by decide) rfl
     obtain ⟨A9, R9, hsA, hsR, hdA, hbA, hup⟩ := Sep.call (L1 := [BX b1 83 [I p0.c.Inputs, L pa0 p0.c.Gates pc0, .map (some b2), .bool p0.full], sl59 (L pa0 p0.c.Gates pc0) p0.c.Gates, MP map81 b2 p0.line]) (L2 := [sl3 (L a23 x11 c23) x11, sl3 (L a22 x10 c22) x10]) hs hM0
     refine s_call [B b1 0, L a22 x10 c22, L a23 x11 c23] Try.call100 rfl rfl hF rfl (impl_builder_less_ok n p0 x10 x11 hx12 hsA hbA hdA ((hsR.rv 1 rfl).big (fun _ h => .inr h)) ((hsR.rv 0 rfl).big (fun _ h => .inr h))) fun v w14 fr hRes hF => ?_
     obtain ⟨a24, c24, rfl, _, hp, hs⟩ := hRes
     obtain ⟨S14, hp, hs⟩ := hup hp hs
     have hM0 := hM0.stp hp
     have hs : Sep [BX b1 83 [I x12.2.c.Inputs, L a24 x12.2.c.Gates c24, .map (some b2), .bool x12.2.full], sl59 (L a24 x12.2.c.Gates c24) x12.2.c.Gates, MP map81 b2 x12.2.line, sl3 (L a23 x11 c23) x11, sl3 (L a22 x10 c22) x10] w14 S14 := hs
     have hs : Sep [BX b1 83 [I x12.2.c.Inputs, L a24 x12.2.c.Gates c24, .map (some b2), .bool x12.2.full], sl59 (L a24 x12.2.c.Gates c24) x12.2.c.Gates, MP map81 b2 x12.2.line] w14 S14 := Sep.pick [0, 1, 2] hs (by decide) rfl
     refine q_lit (E := 3) hs hM0 [I x12.1] (([x12.1] : List Int).map Flat.enc) ([x12.1] : List Int) rfl rfl hF [I x12.1] rfl (fun w => by kernel_rfl) (css_flat _) rfl rfl rfl fun a25 c25 w15 S15 fr hs hp hF => ?_
     have hM0 := hM0.stp hp
     have hs : Sep [sl3 (L a25 ([x12.1] : List Int) c25) ([x12.1] : List Int), BX b1 83 [I x12.2.c.Inputs, L a24 x12.2.c.Gates c24, .map (some b2), .bool x12.2.full], sl59 (L a24 x12.2.c.Gates c24) x12.2.c.Gates, MP map81 b2 x12.2.line] w15 S15 := hs
     refine from_pure 1 [(8, L a25 ([x12.1] : List Int) c25)] hF (by kernel_rfl) fun fr hF => ?_
     refine from_end rfl (then_normal ?_)
     obtain rfl := Option.some.inj h
     exact wp_ret (blk_ret (then_ret (ret1 rfl hF rfl ⟨_, rfl, a25, c25, a24, c24, rfl, S15, hM0.out, hs⟩)))
   replace h := iteF hb h
   refine (wp_skip ?_)
   refine blk_normal (then_normal ?_)
   refine wp_seq (wp_text' ?_)
   refine from_pure 2 [(0, B b1 0), (1, I p1), (2, L a1 p2 c1), (3, L a2 p3 c2), (100, I (len p2))] hF (by kernel_rfl) fun fr hF => ?_
   obtain ⟨x13, hx13, h⟩ := bindE h
   refine q_make hs hM0 Try.underlying37 el3 (zero_flat _ (by kernel_rfl)) rfl rfl hF rfl rfl hx13 fun a26 c26 w16 S16 fr hs hp hF => ?_
   have ra2 := ra2.stp hM0 hp
   have ra3 := ra3.stp hM0 hp
   have hM0 := hM0.stp hp
   have hs : Sep [sl3 (L a26 x13 c26) x13, BX b1 83 [I p0.c.Inputs, L pa0 p0.c.Gates pc0, .map (some b2), .bool p0.full], sl59 (L pa0 p0.c.Gates pc0) p0.c.Gates, MP map81 b2 p0.line] w16 S16 := hs
   refine from_pure 1 [(0, B b1 0), (1, I p1), (2, L a1 p2 c1), (3, L a2 p3 c2), (17, L a26 x13 c26)] hF (by kernel_rfl) fun fr hF => ?_
   refine from_end rfl (then_normal ?_)
   refine wp_seq ?_
   refine wp_seq (wp_pure [(0, B b1 0), (1, I p1), (2, L a1 p2 c1), (3, L a2 p3 c2), (17, L a26 x13 c26), (103, I (len p2)), (104, I 0)] hF (by kernel_rfl) fun fr hF => then_normal ?_)
   obtain ⟨rl1, hit1, h⟩ := bindE h
   have hk1 := h
   refine (wp_cut (M := fun fr w' => ∃ a28 c28 S18 F2, FrS 153 [(17, L a26 x13 c26)] fr ∧ Mem w16 S16 (fun k => F0 k ∧ k < w.heap.size) w' S18 F2 ∧ Sep [sl3 (L a26 x13 c26) rl1.1, BX b1 83 [I rl1.2.1, L a28 rl1.2.2.2.1 c28, .map (some b2), .bool rl1.2.2.1], sl59 (L a28 rl1.2.2.2.1 c28) rl1.2.2.2.1, MP map81 b2 rl1.2.2.2.2] w' S18) (wp_block (wp_iter (Inv := fun s1 fr w' => ∃ a27 c27 S17 F1, FrS 153 [(0, B b1 0), (1, I p1), (2, L a1 p2 c1), (3, L a2 p3 c2), (17, L a26 x13 c26), (103, I (len p2)), (104, I s1.1)] fr ∧ Mem w16 S16 (fun k => F0 k ∧ k < w.heap.size) w' S17 F1 ∧ Sep [sl3 (L a26 x13 c26) s1.2.1, BX b1 83 [I s1.2.2.1, L a27 s1.2.2.2.2.1 c27, .map (some b2), .bool s1.2.2.2.1], sl59 (L a27 s1.2.2.2.2.1 c27) s1.2.2.2.2.1, MP map81 b2 s1.2.2.2.2.2] w' S17) hit1 ⟨pa0, pc0, S16, _, hF.sub _ (by kernel_rfl), (Mem.start hM0.bd hM0.bdF hM0.dj), hs⟩ fun s1 q1 fr w1i hI h hr1 => ?_)) fun fr w1o hM => ?_)
   · obtain ⟨a27, c27, S17, F1, hF, hM1, hs⟩ := hI
     have ra2 := ra2.mem hM1
     have ra3 := ra3.mem hM1
     refine wp_seq (wp_pure [(0, B b1 0), (1, I p1), (2, L a1 p2 c1), (3, L a2 p3 c2), (17, L a26 x13 c26), (103, I (len p2)), (104, I s1.1), (105, .bool (decide (s1.1 < (len p2))))] hF (by kernel_rfl) fun fr hF => then_normal ?_)
     refine wp_seq (wp_if hF (b := (decide (s1.1 < (len p2)))) rfl (fun hb => ?_) (fun hb => ?_))
     · replace h := iteT hb h
       refine (wp_skip (then_normal ?_))
       refine wp_seq (wp_block ?_)
       refine wp_seq (wp_pure [(0, B b1 0), (1, I p1), (2, L a1 p2 c1), (3, L a2 p3 c2), (17, L a26 x13 c26), (18, I s1.1), (103, I (len p2)), (104, I s1.1)] hF (by kernel_rfl) fun fr hF => then_normal ?_)
       refine wp_seq (wp_pure [(0, B b1 0), (1, I p1), (2, L a1 p2 c1), (3, L a2 p3 c2), (17, L a26 x13 c26), (18, I s1.1), (103, I (len p2)), (104, I s1.1), (107, I p1)] hF (by kernel_rfl) fun fr hF => then_normal ?_)
       refine (wp_block ?_)
       refine wp_seq (wp_pure [(0, B b1 0), (1, I p1), (2, L a1 p2 c1), (3, L a2 p3 c2), (17, L a26 x13 c26), (18, I s1.1), (103, I (len p2)), (104, I s1.1), (107, I p1), (121, .bool (p1 == 8))] hF (by kernel_rfl) fun fr hF => then_normal ?_)
       refine (wp_if hF (b := (p1 == 8)) rfl (fun hb => ?_) (fun hb => ?_))
       · replace h := iteT hb h
         refine (wp_ra mix ?_)
         refine ra_hoist 1 (by kernel_rfl) (fun _ _ _ _ _ h => h) ?_
         refine ra_hoist 0 (by kernel_rfl) (fun _ _ _ _ _ h => h) ?_
         obtain ⟨x14, hx14, h⟩ := bindE h
         obtain ⟨x15, hx15, h⟩ := bindE h
         refine (ra_bm 11 [0, 1, 3, 3, 3, 27, 59, 3, 3, 387, 899, 2047, 4095, 8191] [true, true, true, true, true, false, false, true, true, false, false]
             [.eq (L a26 x13 c26), .eq (I s1.1), .eq (B b1 0), .eq (L a1 p2 c1), .eq (I s1.1), .is fun v w => ElemP w (fun k => k < w1i.heap.size) v (x14 : Int), .eq (I x14), .eq (L a2 p3 c2), .eq (I s1.1), .is fun v w => ElemP w (fun k => k < w1i.heap.size) v (x15 : Int), .eq (I x15), .any, .any, .any]
             [(0, B b1 0), (1, I p1), (2, L a1 p2 c1), (3, L a2 p3 c2), (17, L a26 x13 c26), (103, I (len p2)), (104, I s1.1), (123, L a26 x13 c26), (124, I s1.1), (125, B b1 0), (129, I x14), (133, I x15)] hF (by kernel_rfl) (by kernel_rfl) (by kernel_rfl) (by kernel_rfl) ⟨(Pd.monoO_is mono_elem), Pd.monoO_eq, (Pd.monoO_is mono_elem), Pd.monoO_eq, trivial⟩ (fun ow hG => ⟨np_to ow (np_index hG hF ty3 Try.underlying37 rfl rfl (RV.sub (ra2) fun k hk _ => hk) rfl rfl (fun hg => ⟨get?_nn hx14, get?_at hx14⟩)), np_to ow (np_loadF (z := x14) (i := 5) hG hF ty3 rfl rfl rfl rfl rfl rfl rfl), np_to ow (np_index hG hF ty3 Try.underlying37 rfl rfl (RV.sub (ra3) fun k hk _ => hk) rfl rfl (fun hg => ⟨get?_nn hx15, get?_at hx15⟩)), np_to ow (np_loadF (z := x15) (i := 9) hG hF ty3 rfl rfl rfl rfl rfl rfl rfl), trivial⟩) (by kernel_rfl) fun ow fr w17 hF hE hc => ?_)
         have ra2 := ra2.ext hc
         have ra3 := ra3.ext hc
         have hs := hs.ext hc
         have hM1 := hM1.ext hc
         obtain ⟨x16, hx16, h⟩ := bindE h
         have hs : Sep [BX b1 83 [I s1.2.2.1, L a27 s1.2.2.2.2.1 c27, .map (some b2), .bool s1.2.2.2.1], sl59 (L a27 s1.2.2.2.2.1 c27) s1.2.2.2.2.1, MP map81 b2 s1.2.2.2.2.2, sl3 (L a26 x13 c26) s1.2.1] w17 S17 := Sep.pick [1, 2, 3, 0] hs (by decide) rfl
         obtain ⟨A10, R10, hsA, hsR, hdA, hbA, hup⟩ := Sep.call (L1 := [BX b1 83 [I s1.2.2.1, L a27 s1.2.2.2.2.1 c27, .map (some b2), .bool s1.2.2.2.1], sl59 (L a27 s1.2.2.2.2.1 c27) s1.2.2.2.2.1, MP map81 b2 s1.2.2.2.2.2]) (L2 := [sl3 (L a26 x13 c26) s1.2.1]) hs hM1
         refine s_call [B b1 0, I x14, I x15] Try.call51 rfl rfl hF rfl (impl_builder_and_ok (D.builder.mk (D.Circuit.mk s1.2.2.1 s1.2.2.2.2.1) s1.2.2.2.2.2 s1.2.2.2.1) x14 x15 hx16 hsA hbA hdA) fun v w18 fr hRes hF => ?_
         obtain ⟨a29, c29, rfl, _, hp, hs⟩ := hRes
         obtain ⟨S19, hp, hs⟩ := hup hp hs
         have ra2 := ra2.stp hM1 hp
         have ra3 := ra3.stp hM1 hp
         have hM1 := hM1.stp hp
         have hs : Sep [BX b1 83 [I x16.2.c.Inputs, L a29 x16.2.c.Gates c29, .map (some b2), .bool x16.2.full], sl59 (L a29 x16.2.c.Gates c29) x16.2.c.Gates, MP map81 b2 x16.2.line, sl3 (L a26 x13 c26) s1.2.1] w18 S19 := hs
         obtain ⟨x17, hx17, h⟩ := bindE h
         refine q_set (q := x16.1) 3 hs hM1 rfl Try.underlying37 ty3 rfl rfl rfl rfl hF rfl rfl (by simp) rfl rfl hx17 fun w19 S20 fr _ hs hp hF => ?_
         have ra2 := ra2.stp hM1 hp
         have ra3 := ra3.stp hM1 hp
         have hM1 := hM1.stp hp
         have hs : Sep [BX b1 83 [I x16.2.c.Inputs, L a29 x16.2.c.Gates c29, .map (some b2), .bool x16.2.full], sl59 (L a29 x16.2.c.Gates c29) x16.2.c.Gates, MP map81 b2 x16.2.line, sl3 (L a26 x13 c26) x17] w19 S20 := hs
         refine from_end rfl ?_
         refine blk_normal ?_
         refine blk_normal (then_normal ?_)
         refine (wp_pure [(0, B b1 0), (1, I p1), (2, L a1 p2 c1), (3, L a2 p3 c2), (17, L a26 x13 c26), (103, I (len p2)), (104, I (w64 (s1.1 + 1)))] hF (by kernel_rfl) fun fr hF => then_normal ?_)
         have hs : Sep [sl3 (L a26 x13 c26) x17, BX b1 83 [I x16.2.c.Inputs, L a29 x16.2.c.Gates c29, .map (some b2), .bool x16.2.full], sl59 (L a29 x16.2.c.Gates c29) x16.2.c.Gates, MP map81 b2 x16.2.line] w19 S20 := Sep.pick [3, 0, 1, 2] hs (by decide) rfl
         exact ⟨_, (Option.some.inj h).symm, a29, c29, S20, _, hF.sub _ (by kernel_rfl), hM1, hs⟩
       replace h := iteF hb h
       refine wp_seq (wp_pure [(0, B b1 0), (1, I p1), (2, L a1 p2 c1), (3, L a2 p3 c2), (17, L a26 x13 c26), (18, I s1.1), (103, I (len p2)), (104, I s1.1), (136, .bool (p1 == 9))] hF (by kernel_rfl) fun fr hF => then_normal ?_)
       refine (wp_if hF (b := (p1 == 9)) rfl (fun hb => ?_) (fun hb => ?_))
       · replace h := iteT hb h
         refine (wp_ra mix ?_)
         refine ra_hoist 1 (by kernel_rfl) (fun _ _ _ _ _ h => h) ?_
         refine ra_hoist 0 (by kernel_rfl) (fun _ _ _ _ _ h => h) ?_
         obtain ⟨x18, hx18, h⟩ := bindE h
         obtain ⟨x19, hx19, h⟩ := bindE h
         refine (ra_bm 11 [0, 1, 3, 3, 3, 27, 59, 3, 3, 387, 899, 2047, 4095, 8191] [true, true, true, true, true, false, false, true, true, false, false]
             [.eq (L a26 x13 c26), .eq (I s1.1), .eq (B b1 0), .eq (L a1 p2 c1), .eq (I s1.1), .is fun v w => ElemP w (fun k => k < w1i.heap.size) v (x18 : Int), .eq (I x18), .eq (L a2 p3 c2), .eq (I s1.1), .is fun v w => ElemP w (fun k => k < w1i.heap.size) v (x19 : Int), .eq (I x19), .any, .any, .any]
             [(0, B b1 0), (1, I p1), (2, L a1 p2 c1), (3, L a2 p3 c2), (17, L a26 x13 c26), (103, I (len p2)), (104, I s1.1), (138, L a26 x13 c26), (139, I s1.1), (140, B b1 0), (144, I x18), (148, I x19)] hF (by kernel_rfl) (by kernel_rfl) (by kernel_rfl) (by kernel_rfl) ⟨(Pd.monoO_is mono_elem), Pd.monoO_eq, (Pd.monoO_is mono_elem), Pd.monoO_eq, trivial⟩ (fun ow hG => ⟨np_to ow (np_index hG hF ty3 Try.underlying37 rfl rfl (RV.sub (ra2) fun k hk _ => hk) rfl rfl (fun hg => ⟨get?_nn hx18, get?_at hx18⟩)), np_to ow (np_loadF (z := x18) (i := 5) hG hF ty3 rfl rfl rfl rfl rfl rfl rfl), np_to ow (np_index hG hF ty3 Try.underlying37 rfl rfl (RV.sub (ra3) fun k hk _ => hk) rfl rfl (fun hg => ⟨get?_nn hx19, get?_at hx19⟩)), np_to ow (np_loadF (z := x19) (i := 9) hG hF ty3 rfl rfl rfl rfl rfl rfl rfl), trivial⟩) (by kernel_rfl) fun ow fr w20 hF hE hc => ?_)
         have ra2 := ra2.ext hc
         have ra3 := ra3.ext hc
         have hs := hs.ext hc
         have hM1 := hM1.ext hc
         obtain ⟨x20, hx20, h⟩ := bindE h
         have hs : Sep [BX b1 83 [I s1.2.2.1, L a27 s1.2.2.2.2.1 c27, .map (some b2), .bool s1.2.2.2.1], sl59 (L a27 s1.2.2.2.2.1 c27) s1.2.2.2.2.1, MP map81 b2 s1.2.2.2.2.2, sl3 (L a26 x13 c26) s1.2.1] w20 S17 := Sep.pick [1, 2, 3, 0] hs (by decide) rfl
         obtain ⟨A11, R11, hsA, hsR, hdA, hbA, hup⟩ := Sep.call (L1 := [BX b1 83 [I s1.2.2.1, L a27 s1.2.2.2.2.1 c27, .map (some b2), .bool s1.2.2.2.1], sl59 (L a27 s1.2.2.2.2.1 c27) s1.2.2.2.2.1, MP map81 b2 s1.2.2.2.2.2]) (L2 := [sl3 (L a26 x13 c26) s1.2.1]) hs hM1
         refine s_call [B b1 0, I x18, I x19] Try.call57 rfl rfl hF rfl (impl_builder_or_ok (D.builder.mk (D.Circuit.mk s1.2.2.1 s1.2.2.2.2.1) s1.2.2.2.2.2 s1.2.2.2.1) x18 x19 hx20 hsA hbA hdA) fun v w21 fr hRes hF => ?_
         obtain ⟨a30, c30, rfl, _, hp, hs⟩ := hRes
         obtain ⟨S21, hp, hs⟩ := hup hp hs
         have ra2 := ra2.stp hM1 hp
         have ra3 := ra3.stp hM1 hp
         have hM1 := hM1.stp hp
         have hs : Sep [BX b1 83 [I x20.2.c.Inputs, L a30 x20.2.c.Gates c30, .map (some b2), .bool x20.2.full], sl59 (L a30 x20.2.c.Gates c30) x20.2.c.Gates, MP map81 b2 x20.2.line, sl3 (L a26 x13 c26) s1.2.1] w21 S21 := hs
         obtain ⟨x21, hx21, h⟩ := bindE h
         refine q_set (q := x20.1) 3 hs hM1 rfl Try.underlying37 ty3 rfl rfl rfl rfl hF rfl rfl (by simp) rfl rfl hx21 fun w22 S22 fr _ hs hp hF => ?_
         have ra2 := ra2.stp hM1 hp
         have ra3 := ra3.stp hM1 hp
         have hM1 := hM1.stp hp
         have hs : Sep [BX b1 83 [I x20.2.c.Inputs, L a30 x20.2.c.Gates c30, .map (some b2), .bool x20.2.full], sl59 (L a30 x20.2.c.Gates c30) x20.2.c.Gates, MP map81 b2 x20.2.line, sl3 (L a26 x13 c26) x21] w22 S22 := hs
         refine from_end rfl ?_
         refine blk_normal ?_
         refine blk_normal (then_normal ?_)
         refine (wp_pure [(0, B b1 0), (1, I p1), (2, L a1 p2 c1), (3, L a2 p3 c2), (17, L a26 x13 c26), (103, I (len p2)), (104, I (w64 (s1.1 + 1)))] hF (by kernel_rfl) fun fr hF => then_normal ?_)
         have hs : Sep [sl3 (L a26 x13 c26) x21, BX b1 83 [I x20.2.c.Inputs, L a30 x20.2.c.Gates c30, .map (some b2), .bool x20.2.full], sl59 (L a30 x20.2.c.Gates c30) x20.2.c.Gates, MP map81 b2 x20.2.line] w22 S22 := Sep.pick [3, 0, 1, 2] hs (by decide) rfl
         exact ⟨_, (Option.some.inj h).symm, a30, c30, S22, _, hF.sub _ (by kernel_rfl), hM1, hs⟩
       replace h := iteF hb h
       refine (wp_ra mix ?_)
       refine ra_hoist 1 (by kernel_rfl) (fun _ _ _ _ _ h => h) ?_
       refine ra_hoist 0 (by kernel_rfl) (fun _ _ _ _ _ h => h) ?_
       obtain ⟨x22, hx22, h⟩ := bindE h
       obtain ⟨x23, hx23, h⟩ := bindE h
       refine (ra_bm 11 [0, 1, 3, 3, 3, 27, 59, 3, 3, 387, 899, 2047, 4095, 8191] [true, true, true, true, true, false, false, true, true, false, false]
           [.eq (L a26 x13 c26), .eq (I s1.1), .eq (B b1 0), .eq (L a1 p2 c1), .eq (I s1.1), .is fun v w => ElemP w (fun k => k < w1i.heap.size) v (x22 : Int), .eq (I x22), .eq (L a2 p3 c2), .eq (I s1.1), .is fun v w => ElemP w (fun k => k < w1i.heap.size) v (x23 : Int), .eq (I x23), .any, .any, .any]
           [(0, B b1 0), (1, I p1), (2, L a1 p2 c1), (3, L a2 p3 c2), (17, L a26 x13 c26), (103, I (len p2)), (104, I s1.1), (108, L a26 x13 c26), (109, I s1.1), (110, B b1 0), (114, I x22), (118, I x23)] hF (by kernel_rfl) (by kernel_rfl) (by kernel_rfl) (by kernel_rfl) ⟨(Pd.monoO_is mono_elem), Pd.monoO_eq, (Pd.monoO_is mono_elem), Pd.monoO_eq, trivial⟩ (fun ow hG => ⟨np_to ow (np_index hG hF ty3 Try.underlying37 rfl rfl (RV.sub (ra2) fun k hk _ => hk) rfl rfl (fun hg => ⟨get?_nn hx22, get?_at hx22⟩)), np_to ow (np_loadF (z := x22) (i := 5) hG hF ty3 rfl rfl rfl rfl rfl rfl rfl), np_to ow (np_index hG hF ty3 Try.underlying37 rfl rfl (RV.sub (ra3) fun k hk _ => hk) rfl rfl (fun hg => ⟨get?_nn hx23, get?_at hx23⟩)), np_to ow (np_loadF (z := x23) (i := 9) hG hF ty3 rfl rfl rfl rfl rfl rfl rfl), trivial⟩) (by kernel_rfl) fun ow fr w23 hF hE hc => ?_)
       have ra2 := ra2.ext hc
       have ra3 := ra3.ext hc
       have hs := hs.ext hc
       have hM1 := hM1.ext hc
       obtain ⟨x24, hx24, h⟩ := bindE h
       have hs : Sep [BX b1 83 [I s1.2.2.1, L a27 s1.2.2.2.2.1 c27, .map (some b2), .bool s1.2.2.2.1], sl59 (L a27 s1.2.2.2.2.1 c27) s1.2.2.2.2.1, MP map81 b2 s1.2.2.2.2.2, sl3 (L a26 x13 c26) s1.2.1] w23 S17 := Sep.pick [1, 2, 3, 0] hs (by decide) rfl
       obtain ⟨A12, R12, hsA, hsR, hdA, hbA, hup⟩ := Sep.call (L1 := [BX b1 83 [I s1.2.2.1, L a27 s1.2.2.2.2.1 c27, .map (some b2), .bool s1.2.2.2.1], sl59 (L a27 s1.2.2.2.2.1 c27) s1.2.2.2.2.1, MP map81 b2 s1.2.2.2.2.2]) (L2 := [sl3 (L a26 x13 c26) s1.2.1]) hs hM1
       refine s_call [B b1 0, I x22, I x23] Try.call60 rfl rfl hF rfl (impl_builder_xor_ok (D.builder.mk (D.Circuit.mk s1.2.2.1 s1.2.2.2.2.1) s1.2.2.2.2.2 s1.2.2.2.1) x22 x23 hx24 hsA hbA hdA) fun v w24 fr hRes hF => ?_
       obtain ⟨a31, c31, rfl, _, hp, hs⟩ := hRes
       obtain ⟨S23, hp, hs⟩ := hup hp hs
       have ra2 := ra2.stp hM1 hp
       have ra3 := ra3.stp hM1 hp
       have hM1 := hM1.stp hp
       have hs : Sep [BX b1 83 [I x24.2.c.Inputs, L a31 x24.2.c.Gates c31, .map (some b2), .bool x24.2.full], sl59 (L a31 x24.2.c.Gates c31) x24.2.c.Gates, MP map81 b2 x24.2.line, sl3 (L a26 x13 c26) s1.2.1] w24 S23 := hs
       obtain ⟨x25, hx25, h⟩ := bindE h
       refine q_set (q := x24.1) 3 hs hM1 rfl Try.underlying37 ty3 rfl rfl rfl rfl hF rfl rfl (by simp) rfl rfl hx25 fun w25 S24 fr _ hs hp hF => ?_
       have ra2 := ra2.stp hM1 hp
       have ra3 := ra3.stp hM1 hp
       have hM1 := hM1.stp hp
       have hs : Sep [BX b1 83 [I x24.2.c.Inputs, L a31 x24.2.c.Gates c31, .map (some b2), .bool x24.2.full], sl59 (L a31 x24.2.c.Gates c31) x24.2.c.Gates, MP map81 b2 x24.2.line, sl3 (L a26 x13 c26) x25] w25 S24 := hs
       refine from_end rfl ?_
       refine blk_normal ?_
       refine blk_normal (then_normal ?_)
       refine (wp_pure [(0, B b1 0), (1, I p1), (2, L a1 p2 c1), (3, L a2 p3 c2), (17, L a26 x13 c26), (103, I (len p2)), (104, I (w64 (s1.1 + 1)))] hF (by kernel_rfl) fun fr hF => then_normal ?_)
       have hs : Sep [sl3 (L a26 x13 c26) x25, BX b1 83 [I x24.2.c.Inputs, L a31 x24.2.c.Gates c31, .map (some b2), .bool x24.2.full], sl59 (L a31 x24.2.c.Gates c31) x24.2.c.Gates, MP map81 b2 x24.2.line] w25 S24 := Sep.pick [3, 0, 1, 2] hs (by decide) rfl
       exact ⟨_, (Option.some.inj h).symm, a31, c31, S24, _, hF.sub _ (by kernel_rfl), hM1, hs⟩
     replace h := iteF hb h
     refine (wp_exit (then_exit (then_exit (blk_exit_eq ?_))))
     obtain rfl := hr1 _ (Option.some.inj h).symm
     exact then_normal ⟨a27, c27, S17, _, hF.sub _ (by kernel_rfl), hM1, hs⟩
   · obtain ⟨a28, c28, S18, F2, hF, hMx, hs⟩ := hM
     have hM0 := hM0.trans hMx
     refine wp_seq (wp_pure [(8, L a26 x13 c26)] hF (by kernel_rfl) fun fr hF => then_normal ?_)
     obtain rfl := Option.some.inj h
     obtain ⟨he1, hs⟩ := hs.relen 0 rfl
     have hs : Sep [sl3 (L a26 rl1.1 c26) rl1.1, BX b1 83 [I rl1.2.1, L a28 rl1.2.2.2.1 c28, .map (some b2), .bool rl1.2.2.1], sl59 (L a28 rl1.2.2.2.1 c28) rl1.2.2.2.1, MP map81 b2 rl1.2.2.2.2] w1o S18 := hs
     exact wp_ret (ret1 rfl hF rfl ⟨_, rfl, a26, c26, a28, c28, (by simp only [L, he1]), S18, hM0.out, hs⟩)
 replace h := iteF hb h
 refine wp_seq (wp_pure [(0, B b1 0), (1, I p1), (2, L a1 p2 c1), (3, L a2 p3 c2), (19, I p1), (67, .bool (p1 == 12))] hF (by kernel_rfl) fun fr hF => then_normal ?_)
 refine (wp_merge [(0, B b1 0), (1, I p1), (2, L a1 p2 c1), (3, L a2 p3 c2), (19, I p1), (67, .bool ((p1 == 12) || (p1 == 13)))] hF (b := (p1 == 12)) rfl (fun hb => ?_) (fun hb => ?_) fun fr hF => then_normal ?_)
 · exact wp_skip ⟨rfl, rfl, (hF.sub [(0, B b1 0), (1, I p1), (2, L a1 p2 c1), (3, L a2 p3 c2), (19, I p1), (67, .bool (p1 == 12))] (by kernel_rfl)).eqs (by first | (simp only [hb]; done) | (simp only [hb]; rfl))⟩
 · exact wp_pure [(0, B b1 0), (1, I p1), (2, L a1 p2 c1), (3, L a2 p3 c2), (19, I p1), (67, .bool (p1 == 13))] hF (by kernel_rfl) fun fr hF => ⟨rfl, rfl, hF.eqs (by first | (simp only [hb]; done) | (simp only [hb]; rfl))⟩
 refine (wp_if hF (b := ((p1 == 12) || (p1 == 13))) rfl (fun hb => ?_) (fun hb => ?_))
 · replace h := iteT hb h
   refine wp_seq (wp_text' ?_)
   refine from_pure 4 [(71, B b1 0), (72, I p1), (73, L a1 p2 c1), (74, L a2 p3 c2)] hF (by kernel_rfl) fun fr hF => ?_
   obtain ⟨x26, hx26, h⟩ := bindE h
   obtain ⟨A13, R13, hsA, hsR, hdA, hbA, hup⟩ := Sep.call (L1 := [BX b1 83 [I p0.c.Inputs, L pa0 p0.c.Gates pc0, .map (some b2), .bool p0.full], sl59 (L pa0 p0.c.Gates pc0) p0.c.Gates, MP map81 b2 p0.line]) (L2 := []) hs hM0
   refine s_call [B b1 0, I p1, L a1 p2 c1, L a2 p3 c2] Try.call98 rfl rfl hF rfl (impl_builder_shift_ok n p0 p1 p2 p3 hx26 hsA hbA hdA (ra2.big (fun _ h => .inl h)) (ra3.big (fun _ h => .inl h))) fun v w26 fr hRes hF => ?_
   obtain ⟨a32, c32, a33, c33, rfl, _, hp, hs⟩ := hRes
   obtain ⟨S25, hp, hs⟩ := hup hp hs
   have ra2 := ra2.stp hM0 hp
   have ra3 := ra3.stp hM0 hp
   have hM0 := hM0.stp hp
   have hs : Sep [sl3 (L a32 x26.1 c32) x26.1, BX b1 83 [I x26.2.c.Inputs, L a33 x26.2.c.Gates c33, .map (some b2), .bool x26.2.full], sl59 (L a33 x26.2.c.Gates c33) x26.2.c.Gates, MP map81 b2 x26.2.line] w26 S25 := hs
   refine from_pure 1 [(8, L a32 x26.1 c32)] hF (by kernel_rfl) fun fr hF => ?_
   refine from_end rfl (then_normal ?_)
   obtain rfl := Option.some.inj h
   exact wp_ret (blk_ret (then_ret (ret1 rfl hF rfl ⟨_, rfl, a32, c32, a33, c33, rfl, S25, hM0.out, hs⟩)))
 replace h := iteF hb h
 refine wp_seq (wp_pure [(0, B b1 0), (1, I p1), (2, L a1 p2 c1), (3, L a2 p3 c2), (19, I p1), (76, .bool (p1 == 14))] hF (by kernel_rfl) fun fr hF => then_normal ?_)
 refine (wp_if hF (b := (p1 == 14)) rfl (fun hb => ?_) (fun hb => ?_))
 · replace h := iteT hb h
   refine wp_seq (wp_text' ?_)
   refine from_pure 3 [(78, B b1 0), (79, L a1 p2 c1), (80, L a2 p3 c2)] hF (by kernel_rfl) fun fr hF => ?_
   obtain ⟨x27, hx27, h⟩ := bindE h
   obtain ⟨A14, R14, hsA, hsR, hdA, hbA, hup⟩ := Sep.call (L1 := [BX b1 83 [I p0.c.Inputs, L pa0 p0.c.Gates pc0, .map (some b2), .bool p0.full], sl59 (L pa0 p0.c.Gates pc0) p0.c.Gates, MP map81 b2 p0.line]) (L2 := []) hs hM0
   refine s_call [B b1 0, L a1 p2 c1, L a2 p3 c2] Try.call99 rfl rfl hF rfl (impl_builder_equal_ok n p0 p2 p3 hx27 hsA hbA hdA (ra2.big (fun _ h => .inl h)) (ra3.big (fun _ h => .inl h))) fun v w27 fr hRes hF => ?_
   obtain ⟨a34, c34, rfl, _, hp, hs⟩ := hRes
   obtain ⟨S26, hp, hs⟩ := hup hp hs
   have ra2 := ra2.stp hM0 hp
   have ra3 := ra3.stp hM0 hp
   have hM0 := hM0.stp hp
   have hs : Sep [BX b1 83 [I x27.2.c.Inputs, L a34 x27.2.c.Gates c34, .map (some b2), .bool x27.2.full], sl59 (L a34 x27.2.c.Gates c34) x27.2.c.Gates, MP map81 b2 x27.2.line] w27 S26 := hs
   refine q_lit (E := 3) hs hM0 [I x27.1] (([x27.1] : List Int).map Flat.enc) ([x27.1] : List Int) rfl rfl hF [I x27.1] rfl (fun w => by kernel_rfl) (css_flat _) rfl rfl rfl fun a35 c35 w28 S27 fr hs hp hF => ?_
   have hM0 := hM0.stp hp
   have hs : Sep [sl3 (L a35 ([x27.1] : List Int) c35) ([x27.1] : List Int), BX b1 83 [I x27.2.c.Inputs, L a34 x27.2.c.Gates c34, .map (some b2), .bool x27.2.full], sl59 (L a34 x27.2.c.Gates c34) x27.2.c.Gates, MP map81 b2 x27.2.line] w28 S27 := hs
   refine from_pure 1 [(8, L a35 ([x27.1] : List Int) c35)] hF (by kernel_rfl) fun fr hF => ?_
   refine from_end rfl (then_normal ?_)
   obtain rfl := Option.some.inj h
   exact wp_ret (blk_ret (then_ret (ret1 rfl hF rfl ⟨_, rfl, a35, c35, a34, c34, rfl, S27, hM0.out, hs⟩)))
 replace h := iteF hb h
 refine wp_seq (wp_pure [(0, B b1 0), (1, I p1), (2, L a1 p2 c1), (3, L a2 p3 c2), (19, I p1), (83, .bool (p1 == 15))] hF (by kernel_rfl) fun fr hF => then_normal ?_)
 refine (wp_if hF (b := (p1 == 15)) rfl (fun hb => ?_) (fun hb => ?_))
 · replace h := iteT hb h
   refine wp_seq (wp_text' ?_)
   refine from_pure 3 [(85, B b1 0), (86, L a1 p2 c1), (87, L a2 p3 c2)] hF (by kernel_rfl) fun fr hF => ?_
   obtain ⟨x28, hx28, h⟩ := bindE h
   obtain ⟨A15, R15, hsA, hsR, hdA, hbA, hup⟩ := Sep.call (L1 := [BX b1 83 [I p0.c.Inputs, L pa0 p0.c.Gates pc0, .map (some b2), .bool p0.full], sl59 (L pa0 p0.c.Gates pc0) p0.c.Gates, MP map81 b2 p0.line]) (L2 := []) hs hM0
   refine s_call [B b1 0, L a1 p2 c1, L a2 p3 c2] Try.call100 rfl rfl hF rfl (impl_builder_less_ok n p0 p2 p3 hx28 hsA hbA hdA (ra2.big (fun _ h => .inl h)) (ra3.big (fun _ h => .inl h))) fun v w29 fr hRes hF => ?_
   obtain ⟨a36, c36, rfl, _, hp, hs⟩ := hRes
   obtain ⟨S28, hp, hs⟩ := hup hp hs
   have ra2 := ra2.stp hM0 hp
   have ra3 := ra3.stp hM0 hp
   have hM0 := hM0.stp hp
   have hs : Sep [BX b1 83 [I x28.2.c.Inputs, L a36 x28.2.c.Gates c36, .map (some b2), .bool x28.2.full], sl59 (L a36 x28.2.c.Gates c36) x28.2.c.Gates, MP map81 b2 x28.2.line] w29 S28 := hs
   refine q_lit (E := 3) hs hM0 [I x28.1] (([x28.1] : List Int).map Flat.enc) ([x28.1] : List Int) rfl rfl hF [I x28.1] rfl (fun w => by kernel_rfl) (css_flat _) rfl rfl rfl fun a37 c37 w30 S29 fr hs hp hF => ?_
   have hM0 := hM0.stp hp
   have hs : Sep [sl3 (L a37 ([x28.1] : List Int) c37) ([x28.1] : List Int), BX b1 83 [I x28.2.c.Inputs, L a36 x28.2.c.Gates c36, .map (some b2), .bool x28.2.full], sl59 (L a36 x28.2.c.Gates c36) x28.2.c.Gates, MP map81 b2 x28.2.line] w30 S29 := hs
   refine from_pure 1 [(8, L a37 ([x28.1] : List Int) c37)] hF (by kernel_rfl) fun fr hF => ?_
   refine from_end rfl (then_normal ?_)
   obtain rfl := Option.some.inj h
   exact wp_ret (blk_ret (then_ret (ret1 rfl hF rfl ⟨_, rfl, a37, c37, a36, c36, rfl, S29, hM0.out, hs⟩)))
 replace h := iteF hb h
 refine wp_seq (wp_pure [(0, B b1 0), (1, I p1), (2, L a1 p2 c1), (3, L a2 p3 c2), (90, .bool (p1 == 16))] hF (by kernel_rfl) fun fr hF => then_normal ?_)
 refine (wp_if hF (b := (p1 == 16)) rfl (fun hb => ?_) (fun hb => ?_))
 · replace h := iteT hb h
   refine wp_seq (wp_text' ?_)
   refine from_pure 2 [(3, L a2 p3 c2), (92, B b1 0), (93, L a1 p2 c1)] hF (by kernel_rfl) fun fr hF => ?_
   obtain ⟨x29, hx29, h⟩ := bindE h
   refine s_call [L a1 p2 c1] Try.call101 rfl rfl hF rfl (impl_signTurned_ok p2 hx29 (ra2)) fun v w31 fr hRes hF => ?_
   obtain ⟨a38, c38, rfl, _, hp, hs2⟩ := hRes
   obtain ⟨S30, hp, hs⟩ := hs.got hM0 hp hs2
   have ra3 := ra3.stp hM0 hp
   have ra2 := ra2.stp hM0 hp
   have hM0 := hM0.stp hp
   have hs : Sep [sl3 (L a38 x29 c38) x29, BX b1 83 [I p0.c.Inputs, L pa0 p0.c.Gates pc0, .map (some b2), .bool p0.full], sl59 (L pa0 p0.c.Gates pc0) p0.c.Gates, MP map81 b2 p0.line] w31 S30 := hs
   refine from_pure 1 [(92, B b1 0), (94, L a38 x29 c38), (95, L a2 p3 c2)] hF (by kernel_rfl) fun fr hF => ?_
   obtain ⟨x30, hx30, h⟩ := bindE h
   refine s_call [L a2 p3 c2] Try.call101 rfl rfl hF rfl (impl_signTurned_ok p3 hx30 (ra3)) fun v w32 fr hRes hF => ?_
   obtain ⟨a39, c39, rfl, _, hp, hs2⟩ := hRes
   obtain ⟨S31, hp, hs⟩ := hs.got hM0 hp hs2
   have ra3 := ra3.stp hM0 hp
   have hM0 := hM0.stp hp
   have hs : Sep [sl3 (L a39 x30 c39) x30, sl3 (L a38 x29 c38) x29, BX b1 83 [I p0.c.Inputs, L pa0 p0.c.Gates pc0, .map (some b2), .bool p0.full], sl59 (L pa0 p0.c.Gates pc0) p0.c.Gates, MP map81 b2 p0.line] w32 S31 := hs
   obtain ⟨x31, hx31, h⟩ := bindE h
   have hs : Sep [BX b1 83 [I p0.c.Inputs, L pa0 p0.c.Gates pc0, .map (some b2), .bool p0.full], sl59 (L pa0 p0.c.Gates pc0) p0.c.Gates, MP map81 b2 p0.line, sl3 (L a39 x30 c39) x30, sl3 (L a38 x29 c38) x29] w32 S31 := Sep.pick [2, 3, 4, 0, 1] hs (by decide) rfl
   obtain ⟨A16, R16, hsA, hsR, hdA, hbA, hup⟩ := Sep.call (L1 := [BX b1 83 [I p0.c.Inputs, L pa0 p0.c.Gates pc0, .map (some b2), .bool p0.full], sl59 (L pa0 p0.c.Gates pc0) p0.c.Gates, MP map81 b2 p0.line]) (L2 := [sl3 (L a39 x30 c39) x30, sl3 (L a38 x29 c38) x29]) hs hM0
   refine s_call [B b1 0, L a38 x29 c38, L a39 x30 c39] Try.call100 rfl rfl hF rfl (impl_builder_less_ok n p0 x29 x30 hx31 hsA hbA hdA ((hsR.rv 1 rfl).big (fun _ h => .inr h)) ((hsR.rv 0 rfl).big (fun _ h => .inr h))) fun v w33 fr hRes hF => ?_
   obtain ⟨a40, c40, rfl, _, hp, hs⟩ := hRes
   obtain ⟨S32, hp, hs⟩ := hup hp hs
   have hM0 := hM0.stp hp
   have hs : Sep [BX b1 83 [I x31.2.c.Inputs, L a40 x31.2.c.Gates c40, .map (some b2), .bool x31.2.full], sl59 (L a40 x31.2.c.Gates c40) x31.2.c.Gates, MP map81 b2 x31.2.line, sl3 (L a39 x30 c39) x30, sl3 (L a38 x29 c38) x29] w33 S32 := hs
   have hs : Sep [BX b1 83 [I x31.2.c.Inputs, L a40 x31.2.c.Gates c40, .map (some b2), .bool x31.2.full], sl59 (L a40 x31.2.c.Gates c40) x31.2.c.Gates, MP map81 b2 x31.2.line] w33 S32 := Sep.pick [0, 1, 2] hs (by decide) rfl
   refine q_lit (E := 3) hs hM0 [I x31.1] (([x31.1] : List Int).map Flat.enc) ([x31.1] : List Int) rfl rfl hF [I x31.1] rfl (fun w => by kernel_rfl) (css_flat _) rfl rfl rfl fun a41 c41 w34 S33 fr hs hp hF => ?_
   have hM0 := hM0.stp hp
   have hs : Sep [sl3 (L a41 ([x31.1] : List Int) c41) ([x31.1] : List Int), BX b1 83 [I x31.2.c.Inputs, L a40 x31.2.c.Gates c40, .map (some b2), .bool x31.2.full], sl59 (L a40 x31.2.c.Gates c40) x31.2.c.Gates, MP map81 b2 x31.2.line] w34 S33 := hs
   refine from_pure 1 [(8, L a41 ([x31.1] : List Int) c41)] hF (by kernel_rfl) fun fr hF => ?_
   refine from_end rfl (then_normal ?_)
   obtain rfl := Option.some.inj h
   exact wp_ret (blk_ret (then_ret (ret1 rfl hF rfl ⟨_, rfl, a41, c41, a40, c40, rfl, S33, hM0.out, hs⟩)))
 replace h := iteF hb h
 refine (wp_skip ?_)
 refine blk_normal (then_normal ?_)
 refine wp_seq (wp_text' ?_)
 refine from_pure 2 [(0, B b1 0), (1, I p1), (2, L a1 p2 c1), (3, L a2 p3 c2), (100, I (len p2))] hF (by kernel_rfl) fun fr hF => ?_
 obtain ⟨x32, hx32, h⟩ := bindE h
 refine q_make hs hM0 Try.underlying37 el3 (zero_flat _ (by kernel_rfl)) rfl rfl hF rfl rfl hx32 fun a42 c42 w35 S34 fr hs hp hF => ?_
 have ra2 := ra2.stp hM0 hp
 have ra3 := ra3.stp hM0 hp
 have hM0 := hM0.stp hp
 have hs : Sep [sl3 (L a42 x32 c42) x32, BX b1 83 [I p0.c.Inputs, L pa0 p0.c.Gates pc0, .map (some b2), .bool p0.full], sl59 (L pa0 p0.c.Gates pc0) p0.c.Gates, MP map81 b2 p0.line] w35 S34 := hs
 refine from_pure 1 [(0, B b1 0), (1, I p1), (2, L a1 p2 c1), (3, L a2 p3 c2), (17, L a42 x32 c42)] hF (by kernel_rfl) fun fr hF => ?_
 refine from_end rfl (then_normal ?_)
 refine wp_seq ?_
 refine wp_seq (wp_pure [(0, B b1 0), (1, I p1), (2, L a1 p2 c1), (3, L a2 p3 c2), (17, L a42 x32 c42), (103, I (len p2)), (104, I 0)] hF (by kernel_rfl) fun fr hF => then_normal ?_)
 obtain ⟨rl2, hit2, h⟩ := bindE h
 have hk2 := h
 refine (wp_cut (M := fun fr w' => ∃ a44 c44 S36 F4, FrS 153 [(17, L a42 x32 c42)] fr ∧ Mem w35 S34 (fun k => F0 k ∧ k < w.heap.size) w' S36 F4 ∧ Sep [sl3 (L a42 x32 c42) rl2.1, BX b1 83 [I rl2.2.1, L a44 rl2.2.2.2.1 c44, .map (some b2), .bool rl2.2.2.1], sl59 (L a44 rl2.2.2.2.1 c44) rl2.2.2.2.1, MP map81 b2 rl2.2.2.2.2] w' S36) (wp_block (wp_iter (Inv := fun s2 fr w' => ∃ a43 c43 S35 F3, FrS 153 [(0, B b1 0), (1, I p1), (2, L a1 p2 c1), (3, L a2 p3 c2), (17, L a42 x32 c42), (103, I (len p2)), (104, I s2.1)] fr ∧ Mem w35 S34 (fun k => F0 k ∧ k < w.heap.size) w' S35 F3 ∧ Sep [sl3 (L a42 x32 c42) s2.2.1, BX b1 83 [I s2.2.2.1, L a43 s2.2.2.2.2.1 c43, .map (some b2), .bool s2.2.2.2.1], sl59 (L a43 s2.2.2.2.2.1 c43) s2.2.2.2.2.1, MP map81 b2 s2.2.2.2.2.2] w' S35) hit2 ⟨pa0, pc0, S34, _, hF.sub _ (by kernel_rfl), (Mem.start hM0.bd hM0.bdF hM0.dj), hs⟩ fun s2 q2 fr w2i hI h hr2 => ?_)) fun fr w2o hM => ?_)
 · obtain ⟨a43, c43, S35, F3, hF, hM1, hs⟩ := hI
   have ra2 := ra2.mem hM1
   have ra3 := ra3.mem hM1
   refine wp_seq (wp_pure [(0, B b1 0), (1, I p1), (2, L a1 p2 c1), (3, L a2 p3 c2), (17, L a42 x32 c42), (103, I (len p2)), (104, I s2.1), (105, .bool (decide (s2.1 < (len p2))))] hF (by kernel_rfl) fun fr hF => then_normal ?_)
   refine wp_seq (wp_if hF (b := (decide (s2.1 < (len p2)))) rfl (fun hb => ?_) (fun hb => ?_))
   · replace h := iteT hb h
     refine (wp_skip (then_normal ?_))
     refine wp_seq (wp_block ?_)
     refine wp_seq (wp_pure [(0, B b1 0), (1, I p1), (2, L a1 p2 c1), (3, L a2 p3 c2), (17, L a42 x32 c42), (18, I s2.1), (103, I (len p2)), (104, I s2.1)] hF (by kernel_rfl) fun fr hF => then_normal ?_)
     refine wp_seq (wp_pure [(0, B b1 0), (1, I p1), (2, L a1 p2 c1), (3, L a2 p3 c2), (17, L a42 x32 c42), (18, I s2.1), (103, I (len p2)), (104, I s2.1), (107, I p1)] hF (by kernel_rfl) fun fr hF => then_normal ?_)
     refine (wp_block ?_)
     refine wp_seq (wp_pure [(0, B b1 0), (1, I p1), (2, L a1 p2 c1), (3, L a2 p3 c2), (17, L a42 x32 c42), (18, I s2.1), (103, I (len p2)), (104, I s2.1), (107, I p1), (121, .bool (p1 == 8))] hF (by kernel_rfl) fun fr hF => then_normal ?_)
     refine (wp_if hF (b := (p1 == 8)) rfl (fun hb => ?_) (fun hb => ?_))
     · replace h := iteT hb h
       refine (wp_ra mix ?_)
       refine ra_hoist 1 (by kernel_rfl) (fun _ _ _ _ _ h => h) ?_
       refine ra_hoist 0 (by kernel_rfl) (fun _ _ _ _ _ h => h) ?_
       obtain ⟨x33, hx33, h⟩ := bindE h
       obtain ⟨x34, hx34, h⟩ := bindE h
       refine (ra_bm 11 [0, 1, 3, 3, 3, 27, 59, 3, 3, 387, 899, 2047, 4095, 8191] [true, true, true, true, true, false, false, true, true, false, false]
           [.eq (L a42 x32 c42), .eq (I s2.1), .eq (B b1 0), .eq (L a1 p2 c1), .eq (I s2.1), .is fun v w => ElemP w (fun k => k < w2i.heap.size) v (x33 : Int), .eq (I x33), .eq (L a2 p3 c2), .eq (I s2.1), .is fun v w => ElemP w (fun k => k < w2i.heap.size) v (x34 : Int), .eq (I x34), .any, .any, .any]
           [(0, B b1 0), (1, I p1), (2, L a1 p2 c1), (3, L a2 p3 c2), (17, L a42 x32 c42), (103, I (len p2)), (104, I s2.1), (123, L a42 x32 c42), (124, I s2.1), (125, B b1 0), (129, I x33), (133, I x34)] hF (by kernel_rfl) (by kernel_rfl) (by kernel_rfl) (by kernel_rfl) ⟨(Pd.monoO_is mono_elem), Pd.monoO_eq, (Pd.monoO_is mono_elem), Pd.monoO_eq, trivial⟩ (fun ow hG => ⟨np_to ow (np_index hG hF ty3 Try.underlying37 rfl rfl (RV.sub (ra2) fun k hk _ => hk) rfl rfl (fun hg => ⟨get?_nn hx33, get?_at hx33⟩)), np_to ow (np_loadF (z := x33) (i := 5) hG hF ty3 rfl rfl rfl rfl rfl rfl rfl), np_to ow (np_index hG hF ty3 Try.underlying37 rfl rfl (RV.sub (ra3) fun k hk _ => hk) rfl rfl (fun hg => ⟨get?_nn hx34, get?_at hx34⟩)), np_to ow (np_loadF (z := x34) (i := 9) hG hF ty3 rfl rfl rfl rfl rfl rfl rfl), trivial⟩) (by kernel_rfl) fun ow fr w36 hF hE hc => ?_)
       have ra2 := ra2.ext hc
       have ra3 := ra3.ext hc
       have hs := hs.ext hc
       have hM1 := hM1.ext hc
       obtain ⟨x35, hx35, h⟩ := bindE h
       have hs : Sep [BX b1 83 [I s2.2.2.1, L a43 s2.2.2.2.2.1 c43, .map (some b2), .bool s2.2.2.2.1], sl59 (L a43 s2.2.2.2.2.1 c43) s2.2.2.2.2.1, MP map81 b2 s2.2.2.2.2.2, sl3 (L a42 x32 c42) s2.2.1] w36 S35 := Sep.pick [1, 2, 3, 0] hs (by decide) rfl
       obtain ⟨A17, R17, hsA, hsR, hdA, hbA, hup⟩ := Sep.call (L1 := [BX b1 83 [I s2.2.2.1, L a43 s2.2.2.2.2.1 c43, .map (some b2), .bool s2.2.2.2.1], sl59 (L a43 s2.2.2.2.2.1 c43) s2.2.2.2.2.1, MP map81 b2 s2.2.2.2.2.2]) (L2 := [sl3 (L a42 x32 c42) s2.2.1]) hs hM1
       refine s_call [B b1 0, I x33, I x34] Try.call51 rfl rfl hF rfl (impl_builder_and_ok (D.builder.mk (D.Circuit.mk s2.2.2.1 s2.2.2.2.2.1) s2.2.2.2.2.2 s2.2.2.2.1) x33 x34 hx35 hsA hbA hdA) fun v w37 fr hRes hF => ?_
       obtain ⟨a45, c45, rfl, _, hp, hs⟩ := hRes
       obtain ⟨S37, hp, hs⟩ := hup hp hs
       have ra2 := ra2.stp hM1 hp
       have ra3 := ra3.stp hM1 hp
       have hM1 := hM1.stp hp
       have hs : Sep [BX b1 83 [I x35.2.c.Inputs, L a45 x35.2.c.Gates c45, .map (some b2), .bool x35.2.full], sl59 (L a45 x35.2.c.Gates c45) x35.2.c.Gates, MP map81 b2 x35.2.line, sl3 (L a42 x32 c42) s2.2.1] w37 S37 := hs
       obtain ⟨x36, hx36, h⟩ := bindE h
       refine q_set (q := x35.1) 3 hs hM1 rfl Try.underlying37 ty3 rfl rfl rfl rfl hF rfl rfl (by simp) rfl rfl hx36 fun w38 S38 fr _ hs hp hF => ?_
       have ra2 := ra2.stp hM1 hp
       have ra3 := ra3.stp hM1 hp
       have hM1 := hM1.stp hp
       have hs : Sep [BX b1 83 [I x35.2.c.Inputs, L a45 x35.2.c.Gates c45, .map (some b2), .bool x35.2.full], sl59 (L a45 x35.2.c.Gates c45) x35.2.c.Gates, MP map81 b2 x35.2.line, sl3 (L a42 x32 c42) x36] w38 S38 := hs
       refine from_end rfl ?_
       refine blk_normal ?_
       refine blk_normal (then_normal ?_)
       refine (wp_pure [(0, B b1 0), (1, I p1), (2, L a1 p2 c1), (3, L a2 p3 c2), (17, L a42 x32 c42), (103, I (len p2)), (104, I (w64 (s2.1 + 1)))] hF (by kernel_rfl) fun fr hF => then_normal ?_)
       have hs : Sep [sl3 (L a42 x32 c42) x36, BX b1 83 [I x35.2.c.Inputs, L a45 x35.2.c.Gates c45, .map (some b2), .bool x35.2.full], sl59 (L a45 x35.2.c.Gates c45) x35.2.c.Gates, MP map81 b2 x35.2.line] w38 S38 := Sep.pick [3, 0, 1, 2] hs (by decide) rfl
       exact ⟨_, (Option.some.inj h).symm, a45, c45, S38, _, hF.sub _ (by kernel_rfl), hM1, hs⟩
     replace h := iteF hb h
     refine wp_seq (wp_pure [(0, B b1 0), (1, I p1), (2, L a1 p2 c1), (3, L a2 p3 c2), (17, L a42 x32 c42), (18, I s2.1), (103, I (len p2)), (104, I s2.1), (136, .bool (p1 == 9))] hF (by kernel_rfl) fun fr hF => then_normal ?_)
     refine (wp_if hF (b := (p1 == 9)) rfl (fun hb => ?_) (fun hb => ?_))
     · replace h := iteT hb h
       refine (wp_ra mix ?_)
       refine ra_hoist 1 (by kernel_rfl) (fun _ _ _ _ _ h => h) ?_
       refine ra_hoist 0 (by kernel_rfl) (fun _ _ _ _ _ h => h) ?_
       obtain ⟨x37, hx37, h⟩ := bindE h
       obtain ⟨x38, hx38, h⟩ := bindE h
       refine (ra_bm 11 [0, 1, 3, 3, 3, 27, 59, 3, 3, 387, 899, 2047, 4095, 8191] [true, true, true, true, true, false, false, true, true, false, false]
           [.eq (L a42 x32 c42), .eq (I s2.1), .eq (B b1 0), .eq (L a1 p2 c1), .eq (I s2.1), .is fun v w => ElemP w (fun k => k < w2i.heap.size) v (x37 : Int), .eq (I x37), .eq (L a2 p3 c2), .eq (I s2.1), .is fun v w => ElemP w (fun k => k < w2i.heap.size) v (x38 : Int), .eq (I x38), .any, .any, .any]
           [(0, B b1 0), (1, I p1), (2, L a1 p2 c1), (3, L a2 p3 c2), (17, L a42 x32 c42), (103, I (len p2)), (104, I s2.1), (138, L a42 x32 c42), (139, I s2.1), (140, B b1 0), (144, I x37), (148, I x38)] hF (by kernel_rfl) (by kernel_rfl) (by kernel_rfl) (by kernel_rfl) ⟨(Pd.monoO_is mono_elem), Pd.monoO_eq, (Pd.monoO_is mono_elem), Pd.monoO_eq, trivial⟩ (fun ow hG => ⟨np_to ow (np_index hG hF ty3 Try.underlying37 rfl rfl (RV.sub (ra2) fun k hk _ => hk) rfl rfl (fun hg => ⟨get?_nn hx37, get?_at hx37⟩)), np_to ow (np_loadF (z := x37) (i := 5) hG hF ty3 rfl rfl rfl rfl rfl rfl rfl), np_to ow (np_index hG hF ty3 Try.underlying37 rfl rfl (RV.sub (ra3) fun k hk _ => hk) rfl rfl (fun hg => ⟨get?_nn hx38, get?_at hx38⟩)), np_to ow (np_loadF (z := x38) (i := 9) hG hF ty3 rfl rfl rfl rfl rfl rfl rfl), trivial⟩) (by kernel_rfl) fun ow fr w39 hF hE hc => ?_)
       have ra2 := ra2.ext hc
       have ra3 := ra3.ext hc
       have hs := hs.ext hc
       have hM1 := hM1.ext hc
       obtain ⟨x39, hx39, h⟩ := bindE h
       have hs : Sep [BX b1 83 [I s2.2.2.1, L a43 s2.2.2.2.2.1 c43, .map (some b2), .bool s2.2.2.2.1], sl59 (L a43 s2.2.2.2.2.1 c43) s2.2.2.2.2.1, MP map81 b2 s2.2.2.2.2.2, sl3 (L a42 x32 c42) s2.2.1] w39 S35 := Sep.pick [1, 2, 3, 0] hs (by decide) rfl
       obtain ⟨A18, R18, hsA, hsR, hdA, hbA, hup⟩ := Sep.call (L1 := [BX b1 83 [I s2.2.2.1, L a43 s2.2.2.2.2.1 c43, .map (some b2), .bool s2.2.2.2.1], sl59 (L a43 s2.2.2.2.2.1 c43) s2.2.2.2.2.1, MP map81 b2 s2.2.2.2.2.2]) (L2 := [sl3 (L a42 x32 c42) s2.2.1]) hs hM1
       refine s_call [B b1 0, I x37, I x38] Try.call57 rfl rfl hF rfl (impl_builder_or_ok (D.builder.mk (D.Circuit.mk s2.2.2.1 s2.2.2.2.2.1) s2.2.2.2.2.2 s2.2.2.2.1) x37 x38 hx39 hsA hbA hdA) fun v w40 fr hRes hF => ?_
       obtain ⟨a46, c46, rfl, _, hp, hs⟩ := hRes
       obtain ⟨S39, hp, hs⟩ := hup hp hs
       have ra2 := ra2.stp hM1 hp
       have ra3 := ra3.stp hM1 hp
       have hM1 := hM1.stp hp
       have hs : Sep [BX b1 83 [I x39.2.c.Inputs, L a46 x39.2.c.Gates c46, .map (some b2), .bool x39.2.full], sl59 (L a46 x39.2.c.Gates c46) x39.2.c.Gates, MP map81 b2 x39.2.line, sl3 (L a42 x32 c42) s2.2.1] w40 S39 := hs
       obtain ⟨x40, hx40, h⟩ := bindE h
       refine q_set (q := x39.1) 3 hs hM1 rfl Try.underlying37 ty3 rfl rfl rfl rfl hF rfl rfl (by simp) rfl rfl hx40 fun w41 S40 fr _ hs hp hF => ?_
       have ra2 := ra2.stp hM1 hp
       have ra3 := ra3.stp hM1 hp
       have hM1 := hM1.stp hp
       have hs : Sep [BX b1 83 [I x39.2.c.Inputs, L a46 x39.2.c.Gates c46, .map (some b2), .bool x39.2.full], sl59 (L a46 x39.2.c.Gates c46) x39.2.c.Gates, MP map81 b2 x39.2.line, sl3 (L a42 x32 c42) x40] w41 S40 := hs
       refine from_end rfl ?_
       refine blk_normal ?_
       refine blk_normal (then_normal ?_)
       refine (wp_pure [(0, B b1 0), (1, I p1), (2, L a1 p2 c1), (3, L a2 p3 c2), (17, L a42 x32 c42), (103, I (len p2)), (104, I (w64 (s2.1 + 1)))] hF (by kernel_rfl) fun fr hF => then_normal ?_)
       have hs : Sep [sl3 (L a42 x32 c42) x40, BX b1 83 [I x39.2.c.Inputs, L a46 x39.2.c.Gates c46, .map (some b2), .bool x39.2.full], sl59 (L a46 x39.2.c.Gates c46) x39.2.c.Gates, MP map81 b2 x39.2.line] w41 S40 := Sep.pick [3, 0, 1, 2] hs (by decide) rfl
       exact ⟨_, (Option.some.inj h).symm, a46, c46, S40, _, hF.sub _ (by kernel_rfl), hM1, hs⟩
     replace h := iteF hb h
     refine (wp_ra mix ?_)
     refine ra_hoist 1 (by kernel_rfl) (fun _ _ _ _ _ h => h) ?_
     refine ra_hoist 0 (by kernel_rfl) (fun _ _ _ _ _ h => h) ?_
     obtain ⟨x41, hx41, h⟩ := bindE h
     obtain ⟨x42, hx42, h⟩ := bindE h
     refine (ra_bm 11 [0, 1, 3, 3, 3, 27, 59, 3, 3, 387, 899, 2047, 4095, 8191] [true, true, true, true, true, false, false, true, true, false, false]
         [.eq (L a42 x32 c42), .eq (I s2.1), .eq (B b1 0), .eq (L a1 p2 c1), .eq (I s2.1), .is fun v w => ElemP w (fun k => k < w2i.heap.size) v (x41 : Int), .eq (I x41), .eq (L a2 p3 c2), .eq (I s2.1), .is fun v w => ElemP w (fun k => k < w2i.heap.size) v (x42 : Int), .eq (I x42), .any, .any, .any]
         [(0, B b1 0), (1, I p1), (2, L a1 p2 c1), (3, L a2 p3 c2), (17, L a42 x32 c42), (103, I (len p2)), (104, I s2.1), (108, L a42 x32 c42), (109, I s2.1), (110, B b1 0), (114, I x41), (118, I x42)] hF (by kernel_rfl) (by kernel_rfl) (by kernel_rfl) (by kernel_rfl) ⟨(Pd.monoO_is mono_elem), Pd.monoO_eq, (Pd.monoO_is mono_elem), Pd.monoO_eq, trivial⟩ (fun ow hG => ⟨np_to ow (np_index hG hF ty3 Try.underlying37 rfl rfl (RV.sub (ra2) fun k hk _ => hk) rfl rfl (fun hg => ⟨get?_nn hx41, get?_at hx41⟩)), np_to ow (np_loadF (z := x41) (i := 5) hG hF ty3 rfl rfl rfl rfl rfl rfl rfl), np_to ow (np_index hG hF ty3 Try.underlying37 rfl rfl (RV.sub (ra3) fun k hk _ => hk) rfl rfl (fun hg => ⟨get?_nn hx42, get?_at hx42⟩)), np_to ow (np_loadF (z := x42) (i := 9) hG hF ty3 rfl rfl rfl rfl rfl rfl rfl), trivial⟩) (by kernel_rfl) fun ow fr w42 hF hE hc => ?_)
     have ra2 := ra2.ext hc
     have ra3 := ra3.ext hc
     have hs := hs.ext hc
     have hM1 := hM1.ext hc
     obtain ⟨x43, hx43, h⟩ := bindE h
     have hs : Sep [BX b1 83 [I s2.2.2.1, L a43 s2.2.2.2.2.1 c43, .map (some b2), .bool s2.2.2.2.1], sl59 (L a43 s2.2.2.2.2.1 c43) s2.2.2.2.2.1, MP map81 b2 s2.2.2.2.2.2, sl3 (L a42 x32 c42) s2.2.1] w42 S35 := Sep.pick [1, 2, 3, 0] hs (by decide) rfl
     obtain ⟨A19, R19, hsA, hsR, hdA, hbA, hup⟩ := Sep.call (L1 := [BX b1 83 [I s2.2.2.1, L a43 s2.2.2.2.2.1 c43, .map (some b2), .bool s2.2.2.2.1], sl59 (L a43 s2.2.2.2.2.1 c43) s2.2.2.2.2.1, MP map81 b2 s2.2.2.2.2.2]) (L2 := [sl3 (L a42 x32 c42) s2.2.1]) hs hM1
     refine s_call [B b1 0, I x41, I x42] Try.call60 rfl rfl hF rfl (impl_builder_xor_ok (D.builder.mk (D.Circuit.mk s2.2.2.1 s2.2.2.2.2.1) s2.2.2.2.2.2 s2.2.2.2.1) x41 x42 hx43 hsA hbA hdA) fun v w43 fr hRes hF => ?_
     obtain ⟨a47, c47, rfl, _, hp, hs⟩ := hRes
     obtain ⟨S41, hp, hs⟩ := hup hp hs
     have ra2 := ra2.stp hM1 hp
     have ra3 := ra3.stp hM1 hp
     have hM1 := hM1.stp hp
     have hs : Sep [BX b1 83 [I x43.2.c.Inputs, L a47 x43.2.c.Gates c47, .map (some b2), .bool x43.2.full], sl59 (L a47 x43.2.c.Gates c47) x43.2.c.Gates, MP map81 b2 x43.2.line, sl3 (L a42 x32 c42) s2.2.1] w43 S41 := hs
     obtain ⟨x44, hx44, h⟩ := bindE h
     refine q_set (q := x43.1) 3 hs hM1 rfl Try.underlying37 ty3 rfl rfl rfl rfl hF rfl rfl (by simp) rfl rfl hx44 fun w44 S42 fr _ hs hp hF => ?_
     have ra2 := ra2.stp hM1 hp
     have ra3 := ra3.stp hM1 hp
     have hM1 := hM1.stp hp
     have hs : Sep [BX b1 83 [I x43.2.c.Inputs, L a47 x43.2.c.Gates c47, .map (some b2), .bool x43.2.full], sl59 (L a47 x43.2.c.Gates c47) x43.2.c.Gates, MP map81 b2 x43.2.line, sl3 (L a42 x32 c42) x44] w44 S42 := hs
     refine from_end rfl ?_
     refine blk_normal ?_
     refine blk_normal (then_normal ?_)
     refine (wp_pure [(0, B b1 0), (1, I p1), (2, L a1 p2 c1), (3, L a2 p3 c2), (17, L a42 x32 c42), (103, I (len p2)), (104, I (w64 (s2.1 + 1)))] hF (by kernel_rfl) fun fr hF => then_normal ?_)
     have hs : Sep [sl3 (L a42 x32 c42) x44, BX b1 83 [I x43.2.c.Inputs, L a47 x43.2.c.Gates c47, .map (some b2), .bool x43.2.full], sl59 (L a47 x43.2.c.Gates c47) x43.2.c.Gates, MP map81 b2 x43.2.line] w44 S42 := Sep.pick [3, 0, 1, 2] hs (by decide) rfl
     exact ⟨_, (Option.some.inj h).symm, a47, c47, S42, _, hF.sub _ (by kernel_rfl), hM1, hs⟩
   replace h := iteF hb h
   refine (wp_exit (then_exit (then_exit (blk_exit_eq ?_))))
   obtain rfl := hr2 _ (Option.some.inj h).symm
   exact then_normal ⟨a43, c43, S35, _, hF.sub _ (by kernel_rfl), hM1, hs⟩
 · obtain ⟨a44, c44, S36, F4, hF, hMx, hs⟩ := hM
   have hM0 := hM0.trans hMx
   refine wp_seq (wp_pure [(8, L a42 x32 c42)] hF (by kernel_rfl) fun fr hF => then_normal ?_)
   obtain rfl := Option.some.inj h
   obtain ⟨he2, hs⟩ := hs.relen 0 rfl
   have hs : Sep [sl3 (L a42 rl2.1 c42) rl2.1, BX b1 83 [I rl2.2.1, L a44 rl2.2.2.2.1 c44, .map (some b2), .bool rl2.2.2.1], sl59 (L a44 rl2.2.2.2.1 c44) rl2.2.2.2.1, MP map81 b2 rl2.2.2.2.2] w2o S36 := hs
   exact wp_ret (ret1 rfl hF rfl ⟨_, rfl, a42, c42, a44, c44, (by simp only [L, he2]), S36, hM0.out, hs⟩)

theorem impl_OpLits_ok (n : Nat) (p0 : D.Circuit) (p1 : Int) (p2 : List Int) (p3 : List Int) {r : D.Circuit × (List Int) × Bool} (h : impl_OpLits n p0 p1 p2 p3 = some r) {w : World} {G0 : Nat → Prop} {va0 : Value} (ra0 : RV w G0 va0 p0) {G2 : Nat → Prop} {va2 : Value} (ra2 : RV w G2 va2 p2) {G3 : Nat → Prop} {va3 : Value} (ra3 : RV w G3 va3 p3) :
   Calls Try.prog 32 [va0, I p1, va2, va3].toArray w fun e w' => ∃ v, e = .returned v ∧ ∃ a1 c1 a2 c2, v = .tuple #[.agg #[I r.1.Inputs, L a1 r.1.Gates c1], L a2 r.2.1 c2, .bool r.2.2] ∧ ∃ S', Stp w Non w' S' ∧ Sep [sl59 (L a1 r.1.Gates c1) r.1.Gates, sl3 (L a2 r.2.1 c2) r.2.1] w' S' := by
 unfold impl_OpLits at h
 have hs := Sep.nil w Non
 have hM0 : Mem w Non (fun k => (G0 k ∨ G2 k ∨ G3 k) ∧ k < w.heap.size) w Non (fun k => (G0 k ∨ G2 k ∨ G3 k) ∧ k < w.heap.size) := Mem.start (fun _ h => h.elim) (fun _ h => h.2) (fun _ h => h.elim)
 have ra0 := ra0.sub (F' := (fun k => (G0 k ∨ G2 k ∨ G3 k) ∧ k < w.heap.size)) (fun k hk h => ⟨.inl h, hk⟩)
 obtain ⟨v1, rfl, r1⟩ := RV.Circuit ra0
 obtain ⟨a1, c1, rfl, -⟩ := r1.slice
 have ra2 := ra2.sub (F' := (fun k => (G0 k ∨ G2 k ∨ G3 k) ∧ k < w.heap.size)) (fun k hk h => ⟨.inr (.inl h), hk⟩)
 obtain ⟨a2, c2, rfl, -⟩ := ra2.slice
 have ra3 := ra3.sub (F' := (fun k => (G0 k ∨ G2 k ∨ G3 k) ∧ k < w.heap.size)) (fun k hk h => ⟨.inr (.inr (h)), hk⟩)
 obtain ⟨a3, c3, rfl, -⟩ := ra3.slice
 refine enter (N := 69) Try.func32 rfl Try.ntmps32 rfl fun fr hF => ?_
 refine wp_seq (wp_text' ?_)
 refine q_box hs hM0 [I p0.Inputs, L a1 p0.Gates c1] rfl rfl hF rfl rfl fun b1 w1 S1 fr hs hp hF => ?_
 have r1 := r1.stp hM0 hp
 have ra2 := ra2.stp hM0 hp
 have ra3 := ra3.stp hM0 hp
 have hM0 := hM0.stp hp
 have hs : Sep [BX b1 28 [I p0.Inputs, L a1 p0.Gates c1]] w1 S1 := hs
 refine q_alloc (z := .agg #[I 0, L none ([] : List D.Gate) 0]) hs hM0 [I 0, L none ([] : List D.Gate) 0] rfl rfl hF (by kernel_rfl) rfl fun b2 w2 S2 fr hs hp hF => ?_
 have ra2 := ra2.stp hM0 hp
 have ra3 := ra3.stp hM0 hp
 have r1 := r1.stp hM0 hp
 have hM0 := hM0.stp hp
 have hs : Sep [BX b2 28 [I 0, L none ([] : List D.Gate) 0], BX b1 28 [I p0.Inputs, L a1 p0.Gates c1]] w2 S2 := hs
 refine from_pure 2 [(1, I p1), (2, L a2 p2 c2), (3, L a3 p3 c3), (4, B b1 0), (8, B b2 0)] hF (by kernel_rfl) fun fr hF => ?_
 refine from_end rfl (then_normal ?_)
 refine wp_seq ?_
 obtain ⟨x1, hx1, h⟩ := bindE h
 obtain ⟨x2, hx2, h⟩ := bindE h
 refine wp_seq (region_b [] [false, false, true, true, true, false, true, true, true, true, true, true, true, true, true, true, true, true, true, true, true, true, true, true, true]
     [.eq (.agg #[I p0.Inputs, L a1 p0.Gates c1]), .eq (.bool x1), .eq (.bool (!x1)), .eq (.bool (!x1)), .eq (I p1), .eq (.bool x2), .eq (.bool (!x2)), .eq (.bool ((!x1) || (!x2))), .eq (.bool ((!x1) || (!x2))), .eq (L a2 p2 c2), .eq (I (len p2)), .eq (L a3 p3 c3), .eq (I (len p3)), .eq (.bool ((len p2) != (len p3))), .eq (.bool (((!x1) || (!x2)) || ((len p2) != (len p3)))), .eq (.bool (((!x1) || (!x2)) || ((len p2) != (len p3)))), .eq (L a2 p2 c2), .eq (I (len p2)), .eq (.bool (decide ((len p2) < 1))), .eq (.bool ((((!x1) || (!x2)) || ((len p2) != (len p3))) || (decide ((len p2) < 1)))), .eq (.bool ((((!x1) || (!x2)) || ((len p2) != (len p3))) || (decide ((len p2) < 1)))), .eq (L a2 p2 c2), .eq (I (len p2)), .eq (.bool (decide ((len p2) > 15))), .eq (.bool (((((!x1) || (!x2)) || ((len p2) != (len p3))) || (decide ((len p2) < 1))) || (decide ((len p2) > 15))))]
     [(1, I p1), (2, L a2 p2 c2), (3, L a3 p3 c3), (4, B b1 0), (8, B b2 0), (37, .bool (((((!x1) || (!x2)) || ((len p2) != (len p3))) || (decide ((len p2) < 1))) || (decide ((len p2) > 15))))] mix hF (by kernel_rfl) (by kernel_rfl) (by kernel_rfl) ⟨Pd.mono_eq, Pd.mono_eq, Pd.mono_eq, trivial⟩ (fun hG => ⟨np_loadBoxS hG hF ty28 rfl rfl (hs.bx 1 rfl) rfl rfl rfl rfl, np_call [.agg #[I p0.Inputs, L a1 p0.Gates c1]] hG hF Try.call35 rfl rfl (fun w hC hg => (impl_CircuitOk_ok n p0 hx1 ((RV.mk_Circuit p0 (r1)).ext hC)).mono fun e w' ⟨v, he, hv, hc⟩ => ⟨v, he, hc, hv⟩), np_call [I p1] hG hF Try.call72 rfl rfl (fun w hC hg => (impl_isTwoWords_ok p1 (iteF hg.2 hx2)).mono fun e w' ⟨v, he, hv, hc⟩ => ⟨v, he, hc, hv⟩), trivial⟩) (by kernel_rfl) fun fr w3 hF hE hc => then_normal ?_)
 have ra2 := ra2.ext hc
 have ra3 := ra3.ext hc
 have r1 := r1.ext hc
 have hs := hs.ext hc
 have hM0 := hM0.ext hc
 refine (wp_if hF (b := (((((!x1) || (!x2)) || ((len p2) != (len p3))) || (decide ((len p2) < 1))) || (decide ((len p2) > 15)))) rfl (fun hb => ?_) (fun hb => ?_))
 · replace h := iteT hb h
   have hs : Sep [BX b2 28 [I 0, L none ([] : List D.Gate) 0]] w3 S2 := Sep.pick [0] hs (by decide) rfl
   refine wp_seq (wp_text' ?_)
   refine from_pure 1 [(8, B b2 0), (38, .agg #[I 0, L none ([] : List D.Gate) 0])] hF (by kernel_rfl) fun fr hF => ?_
   refine q_storeBoxS 0 hs hM0 rfl [I 0, L none ([] : List D.Gate) 0] rfl hF rfl rfl (by kernel_rfl) rfl rfl rfl fun w4 S3 hs hp hF => ?_
   have hM0 := hM0.stp hp
   have hs : Sep [BX b2 28 [I 0, L none ([] : List D.Gate) 0]] w4 S3 := hs
   refine from_pure 2 [(8, B b2 0), (9, L none ([] : List Int) 0), (10, .bool false)] hF (by kernel_rfl) fun fr hF => ?_
   refine from_end rfl (then_normal ?_)
   have hrets := fun {σ : List (Nat × Value)} (h : σ = [(8, B b2 0), (9, L none ([] : List Int) 0), (10, .bool false)]) => (by subst h; exact (Rets.cell rfl ty28 (hs.bx 0 rfl) rfl rfl (Rets.tmp rfl (Rets.tmp rfl Rets.nil))) : Rets Try.prog σ w4 [.cell 8 28, .tmp 9, .tmp 10] [.agg #[I 0, L none ([] : List D.Gate) 0], L none ([] : List Int) 0, .bool false])
   have hs : Sep [sl59 (L none ([] : List D.Gate) 0) ([] : List D.Gate), BX b2 28 [I 0, L none ([] : List D.Gate) 0]] w4 S3 := hs.cons_nil (α := D.Gate) 59
   have hs : Sep [sl3 (L none ([] : List Int) 0) ([] : List Int), sl59 (L none ([] : List D.Gate) 0) ([] : List D.Gate), BX b2 28 [I 0, L none ([] : List D.Gate) 0]] w4 S3 := hs.cons_nil (α := Int) 3
   obtain rfl := Option.some.inj h
   have hs : Sep [sl59 (L none ([] : List D.Gate) 0) ([] : List D.Gate), sl3 (L none ([] : List Int) 0) ([] : List Int)] w4 S3 := Sep.pick [1, 0] hs (by decide) rfl
   exact wp_ret (then_ret (retG (rs := [.cell 8 28, .tmp 9, .tmp 10]) rfl (hF.sub [(8, B b2 0), (9, L none ([] : List Int) 0), (10, .bool false)] (by kernel_rfl)) (hrets rfl) rfl ⟨_, rfl, none, 0, none, 0, rfl, S3, hM0.out, hs⟩))
 replace h := iteF hb h
 refine (wp_skip (then_normal ?_))
 refine wp_seq ?_
 obtain ⟨x3, hx3, h⟩ := bindE h
 obtain ⟨x4, hx4, h⟩ := bindE h
 obtain ⟨x5, hx5, h⟩ := bindE h
 obtain ⟨x6, hx6, h⟩ := bindE h
 refine wp_seq (region_b [] [true, false, false, false, true, true, true, false, false, false, true, true]
     [.eq (L a2 p2 c2), .eq (.agg #[I p0.Inputs, L a1 p0.Gates c1]), .eq (I x3), .eq (.bool x4), .eq (.bool (!x4)), .eq (.bool (!x4)), .eq (L a3 p3 c3), .eq (.agg #[I p0.Inputs, L a1 p0.Gates c1]), .eq (I x5), .eq (.bool x6), .eq (.bool (!x6)), .eq (.bool ((!x4) || (!x6)))]
     [(1, I p1), (2, L a2 p2 c2), (3, L a3 p3 c3), (4, B b1 0), (8, B b2 0), (50, .bool ((!x4) || (!x6)))] mix hF (by kernel_rfl) (by kernel_rfl) (by kernel_rfl) ⟨Pd.mono_eq, Pd.mono_eq, Pd.mono_eq, Pd.mono_eq, Pd.mono_eq, Pd.mono_eq, trivial⟩ (fun hG => ⟨np_loadBoxS hG hF ty28 rfl rfl (hs.bx 1 rfl) rfl rfl rfl rfl, np_call [.agg #[I p0.Inputs, L a1 p0.Gates c1]] hG hF Try.call65 rfl rfl (fun w hC hg => (impl_linesOf_ok p0 hx3 ((RV.mk_Circuit p0 (r1)).ext hC)).mono fun e w' ⟨v, he, hv, hc⟩ => ⟨v, he, hc, hv⟩), np_call [L a2 p2 c2, I x3] hG hF Try.call66 rfl rfl (fun w hC hg => (impl_literalsOk_ok n p2 x3 hx4 ((ra2).ext hC)).mono fun e w' ⟨v, he, hv, hc⟩ => ⟨v, he, hc, hv⟩), np_loadBoxS hG hF ty28 rfl rfl (hs.bx 1 rfl) rfl rfl rfl rfl, np_call [.agg #[I p0.Inputs, L a1 p0.Gates c1]] hG hF Try.call65 rfl rfl (fun w hC hg => (impl_linesOf_ok p0 (iteF hg.2 hx5) ((RV.mk_Circuit p0 (r1)).ext hC)).mono fun e w' ⟨v, he, hv, hc⟩ => ⟨v, he, hc, hv⟩), np_call [L a3 p3 c3, I x5] hG hF Try.call66 rfl rfl (fun w hC hg => (impl_literalsOk_ok n p3 x5 (iteF hg.2 hx6) ((ra3).ext hC)).mono fun e w' ⟨v, he, hv, hc⟩ => ⟨v, he, hc, hv⟩), trivial⟩) (by kernel_rfl) fun fr w5 hF hE hc => then_normal ?_)
 have ra2 := ra2.ext hc
 have ra3 := ra3.ext hc
 have r1 := r1.ext hc
 have hs := hs.ext hc
 have hM0 := hM0.ext hc
 refine (wp_if hF (b := ((!x4) || (!x6))) rfl (fun hb => ?_) (fun hb => ?_))
 · replace h := iteT hb h
   have hs : Sep [BX b2 28 [I 0, L none ([] : List D.Gate) 0]] w5 S2 := Sep.pick [0] hs (by decide) rfl
   refine wp_seq (wp_text' ?_)
   refine from_pure 1 [(8, B b2 0), (51, .agg #[I 0, L none ([] : List D.Gate) 0])] hF (by kernel_rfl) fun fr hF => ?_
   refine q_storeBoxS 0 hs hM0 rfl [I 0, L none ([] : List D.Gate) 0] rfl hF rfl rfl (by kernel_rfl) rfl rfl rfl fun w6 S4 hs hp hF => ?_
   have hM0 := hM0.stp hp
   have hs : Sep [BX b2 28 [I 0, L none ([] : List D.Gate) 0]] w6 S4 := hs
   refine from_pure 2 [(8, B b2 0), (9, L none ([] : List Int) 0), (10, .bool false)] hF (by kernel_rfl) fun fr hF => ?_
   refine from_end rfl (then_normal ?_)
   have hrets := fun {σ : List (Nat × Value)} (h : σ = [(8, B b2 0), (9, L none ([] : List Int) 0), (10, .bool false)]) => (by subst h; exact (Rets.cell rfl ty28 (hs.bx 0 rfl) rfl rfl (Rets.tmp rfl (Rets.tmp rfl Rets.nil))) : Rets Try.prog σ w6 [.cell 8 28, .tmp 9, .tmp 10] [.agg #[I 0, L none ([] : List D.Gate) 0], L none ([] : List Int) 0, .bool false])
   have hs : Sep [sl59 (L none ([] : List D.Gate) 0) ([] : List D.Gate), BX b2 28 [I 0, L none ([] : List D.Gate) 0]] w6 S4 := hs.cons_nil (α := D.Gate) 59
   have hs : Sep [sl3 (L none ([] : List Int) 0) ([] : List Int), sl59 (L none ([] : List D.Gate) 0) ([] : List D.Gate), BX b2 28 [I 0, L none ([] : List D.Gate) 0]] w6 S4 := hs.cons_nil (α := Int) 3
   obtain rfl := Option.some.inj h
   have hs : Sep [sl59 (L none ([] : List D.Gate) 0) ([] : List D.Gate), sl3 (L none ([] : List Int) 0) ([] : List Int)] w6 S4 := Sep.pick [1, 0] hs (by decide) rfl
   exact wp_ret (then_ret (retG (rs := [.cell 8 28, .tmp 9, .tmp 10]) rfl (hF.sub [(8, B b2 0), (9, L none ([] : List Int) 0), (10, .bool false)] (by kernel_rfl)) (hrets rfl) rfl ⟨_, rfl, none, 0, none, 0, rfl, S4, hM0.out, hs⟩))
 replace h := iteF hb h
 refine (wp_skip (then_normal ?_))
 refine wp_seq (wp_text' ?_)
 refine s_loadBoxS ty28 rfl rfl hF rfl (hs.bx 1 rfl) rfl rfl fun fr hF => ?_
 have hs : Sep [BX b2 28 [I 0, L none ([] : List D.Gate) 0]] w5 S2 := Sep.pick [0] hs (by decide) rfl
 obtain ⟨x7, hx7, h⟩ := bindE h
 refine s_call [.agg #[I p0.Inputs, L a1 p0.Gates c1]] Try.call68 rfl rfl hF rfl (impl_newBuilder_ok n p0 hx7 (RV.mk_Circuit p0 (r1))) fun v w7 fr hRes hF => ?_
 obtain ⟨b3, b4, a4, c4, rfl, _, hp, hs2⟩ := hRes
 obtain ⟨S5, hp, hs⟩ := hs.got hM0 hp hs2
 have ra2 := ra2.stp hM0 hp
 have ra3 := ra3.stp hM0 hp
 have r1 := r1.stp hM0 hp
 have hM0 := hM0.stp hp
 have hs : Sep [BX b3 83 [I x7.c.Inputs, L a4 x7.c.Gates c4, .map (some b4), .bool x7.full], sl59 (L a4 x7.c.Gates c4) x7.c.Gates, MP map81 b4 x7.line, BX b2 28 [I 0, L none ([] : List D.Gate) 0]] w7 S5 := hs
 refine from_pure 1 [(1, I p1), (2, L a2 p2 c2), (3, L a3 p3 c3), (8, B b2 0), (11, B b3 0)] hF (by kernel_rfl) fun fr hF => ?_
 refine from_end rfl (then_normal ?_)
 refine wp_seq (wp_text' ?_)
 refine from_pure 4 [(8, B b2 0), (11, B b3 0), (54, B b3 0), (55, I p1), (56, L a2 p2 c2), (57, L a3 p3 c3)] hF (by kernel_rfl) fun fr hF => ?_
 obtain ⟨x8, hx8, h⟩ := bindE h
 obtain ⟨A1, R1, hsA, hsR, hdA, hbA, hup⟩ := Sep.call (L1 := [BX b3 83 [I x7.c.Inputs, L a4 x7.c.Gates c4, .map (some b4), .bool x7.full], sl59 (L a4 x7.c.Gates c4) x7.c.Gates, MP map81 b4 x7.line]) (L2 := [BX b2 28 [I 0, L none ([] : List D.Gate) 0]]) hs hM0
 refine s_call [B b3 0, I p1, L a2 p2 c2, L a3 p3 c3] Try.call73 rfl rfl hF rfl (impl_builder_operate_ok n x7 p1 p2 p3 hx8 hsA hbA hdA (ra2.big (fun _ h => .inl h)) (ra3.big (fun _ h => .inl h))) fun v w8 fr hRes hF => ?_
 obtain ⟨a5, c5, a6, c6, rfl, _, hp, hs⟩ := hRes
 obtain ⟨S6, hp, hs⟩ := hup hp hs
 have ra2 := ra2.stp hM0 hp
 have ra3 := ra3.stp hM0 hp
 have hM0 := hM0.stp hp
 have hs : Sep [sl3 (L a5 x8.1 c5) x8.1, BX b3 83 [I x8.2.c.Inputs, L a6 x8.2.c.Gates c6, .map (some b4), .bool x8.2.full], sl59 (L a6 x8.2.c.Gates c6) x8.2.c.Gates, MP map81 b4 x8.2.line, BX b2 28 [I 0, L none ([] : List D.Gate) 0]] w8 S6 := hs
 refine from_pure 1 [(8, B b2 0), (11, B b3 0), (12, L a5 x8.1 c5)] hF (by kernel_rfl) fun fr hF => ?_
 refine from_end rfl (then_normal ?_)
 refine wp_seq ?_
 refine wp_seq (wp_text' ?_)
 refine from_pure 3 [(8, B b2 0), (11, B b3 0), (12, L a5 x8.1 c5), (61, B b3 3)] hF (by kernel_rfl) fun fr hF => ?_
 refine s_loadBox (.bool x8.2.full) ty4 rfl rfl hF rfl (hs.bx 1 rfl) rfl rfl fun fr hF => ?_
 refine from_end rfl (then_normal ?_)
 refine (wp_if hF (b := x8.2.full) rfl (fun hb => ?_) (fun hb => ?_))
 · replace h := iteT hb h
   have hs : Sep [BX b2 28 [I 0, L none ([] : List D.Gate) 0]] w8 S6 := Sep.pick [4] hs (by decide) rfl
   refine wp_seq (wp_text' ?_)
   refine from_pure 1 [(8, B b2 0), (63, .agg #[I 0, L none ([] : List D.Gate) 0])] hF (by kernel_rfl) fun fr hF => ?_
   refine q_storeBoxS 0 hs hM0 rfl [I 0, L none ([] : List D.Gate) 0] rfl hF rfl rfl (by kernel_rfl) rfl rfl rfl fun w9 S7 hs hp hF => ?_
   have hM0 := hM0.stp hp
   have hs : Sep [BX b2 28 [I 0, L none ([] : List D.Gate) 0]] w9 S7 := hs
   refine from_pure 2 [(8, B b2 0), (9, L none ([] : List Int) 0), (10, .bool false)] hF (by kernel_rfl) fun fr hF => ?_
   refine from_end rfl (then_normal ?_)
   have hrets := fun {σ : List (Nat × Value)} (h : σ = [(8, B b2 0), (9, L none ([] : List Int) 0), (10, .bool false)]) => (by subst h; exact (Rets.cell rfl ty28 (hs.bx 0 rfl) rfl rfl (Rets.tmp rfl (Rets.tmp rfl Rets.nil))) : Rets Try.prog σ w9 [.cell 8 28, .tmp 9, .tmp 10] [.agg #[I 0, L none ([] : List D.Gate) 0], L none ([] : List Int) 0, .bool false])
   have hs : Sep [sl59 (L none ([] : List D.Gate) 0) ([] : List D.Gate), BX b2 28 [I 0, L none ([] : List D.Gate) 0]] w9 S7 := hs.cons_nil (α := D.Gate) 59
   have hs : Sep [sl3 (L none ([] : List Int) 0) ([] : List Int), sl59 (L none ([] : List D.Gate) 0) ([] : List D.Gate), BX b2 28 [I 0, L none ([] : List D.Gate) 0]] w9 S7 := hs.cons_nil (α := Int) 3
   obtain rfl := Option.some.inj h
   have hs : Sep [sl59 (L none ([] : List D.Gate) 0) ([] : List D.Gate), sl3 (L none ([] : List Int) 0) ([] : List Int)] w9 S7 := Sep.pick [1, 0] hs (by decide) rfl
   exact wp_ret (then_ret (retG (rs := [.cell 8 28, .tmp 9, .tmp 10]) rfl (hF.sub [(8, B b2 0), (9, L none ([] : List Int) 0), (10, .bool false)] (by kernel_rfl)) (hrets rfl) rfl ⟨_, rfl, none, 0, none, 0, rfl, S7, hM0.out, hs⟩))
 replace h := iteF hb h
 refine (wp_skip (then_normal ?_))
 refine wp_seq (wp_text' ?_)
 refine from_pure 3 [(8, B b2 0), (12, L a5 x8.1 c5), (66, B b3 0)] hF (by kernel_rfl) fun fr hF => ?_
 refine s_loadPart [I x8.2.c.Inputs, L a6 x8.2.c.Gates c6] ty28 rfl rfl hF rfl (hs.bx 1 rfl) rfl rfl rfl fun fr hF => ?_
 have hs : Sep [sl3 (L a5 x8.1 c5) x8.1, sl59 (L a6 x8.2.c.Gates c6) x8.2.c.Gates, BX b2 28 [I 0, L none ([] : List D.Gate) 0]] w8 S6 := Sep.pick [0, 2, 4] hs (by decide) rfl
 refine from_pure 1 [(8, B b2 0), (67, .agg #[I x8.2.c.Inputs, L a6 x8.2.c.Gates c6]), (68, L a5 x8.1 c5)] hF (by kernel_rfl) fun fr hF => ?_
 refine q_storeBoxS 2 hs hM0 rfl [I x8.2.c.Inputs, L a6 x8.2.c.Gates c6] rfl hF rfl rfl (by kernel_rfl) rfl rfl rfl fun w10 S8 hs hp hF => ?_
 have hM0 := hM0.stp hp
 have hs : Sep [sl3 (L a5 x8.1 c5) x8.1, sl59 (L a6 x8.2.c.Gates c6) x8.2.c.Gates, BX b2 28 [I x8.2.c.Inputs, L a6 x8.2.c.Gates c6]] w10 S8 := hs
 refine from_pure 2 [(8, B b2 0), (9, L a5 x8.1 c5), (10, .bool true)] hF (by kernel_rfl) fun fr hF => ?_
 refine from_end rfl (then_normal ?_)
 have hrets := fun {σ : List (Nat × Value)} (h : σ = [(8, B b2 0), (9, L a5 x8.1 c5), (10, .bool true)]) => (by subst h; exact (Rets.cell rfl ty28 (hs.bx 2 rfl) rfl rfl (Rets.tmp rfl (Rets.tmp rfl Rets.nil))) : Rets Try.prog σ w10 [.cell 8 28, .tmp 9, .tmp 10] [.agg #[I x8.2.c.Inputs, L a6 x8.2.c.Gates c6], L a5 x8.1 c5, .bool true])
 obtain rfl := Option.some.inj h
 have hs : Sep [sl59 (L a6 x8.2.c.Gates c6) x8.2.c.Gates, sl3 (L a5 x8.1 c5) x8.1] w10 S8 := Sep.pick [1, 0] hs (by decide) rfl
 exact wp_ret (retG (rs := [.cell 8 28, .tmp 9, .tmp 10]) rfl (hF.sub [(8, B b2 0), (9, L a5 x8.1 c5), (10, .bool true)] (by kernel_rfl)) (hrets rfl) rfl ⟨_, rfl, a6, c6, a5, c5, rfl, S8, hM0.out, hs⟩)

theorem spec_l01In_ok (p0 : Int) (p1 : Int) (p2 : Int) {r : Bool} (h : spec_l01In p0 p1 p2 = some r) {w : World} :
   Calls Try.prog 70 [I p0, I p1, I p2].toArray w fun e w' => ∃ v, e = .returned v ∧ v = .bool r ∧ Chg Non w w' := by
 unfold spec_l01In at h
 have hs := Sep.nil w Non
 have hM0 : Mem w Non (fun k => (False) ∧ k < w.heap.size) w Non (fun k => (False) ∧ k < w.heap.size) := Mem.start (fun _ h => h.elim) (fun _ h => h.2) (fun _ h => h.elim)
 refine enter (N := 15) Try.func70 rfl Try.ntmps70 rfl fun fr hF => ?_
 refine wp_seq (wp_pure [(0, I p0), (1, I p1), (2, I p2)] hF (by kernel_rfl) fun fr hF => then_normal ?_)
 refine wp_seq (region_b [] [true, true, true, true, true, true, true, true, true]
     [.eq (I p0), .eq (I p1), .eq (.bool (decide (p0 ≥ p1))), .eq (.bool (decide (p0 ≥ p1))), .eq (I p0), .eq (I p2), .eq (.bool (decide (p0 ≤ p2))), .eq (.bool ((decide (p0 ≥ p1)) && (decide (p0 ≤ p2)))), .eq (.bool ((decide (p0 ≥ p1)) && (decide (p0 ≤ p2))))]
     [(6, .bool ((decide (p0 ≥ p1)) && (decide (p0 ≤ p2))))] mix hF (by kernel_rfl) (by kernel_rfl) (by kernel_rfl) trivial (fun hG => trivial) (by kernel_rfl) fun fr w1 hF hE hc => then_normal ?_)
 have hs := hs.ext hc
 have hM0 := hM0.ext hc
 obtain rfl := Option.some.inj h
 exact wp_ret (ret1 rfl hF rfl ⟨_, rfl, rfl, hM0.chg⟩)

theorem spec_ResultWidth_ok (p0 : Int) (p1 : Int) {r : Int} (h : spec_ResultWidth p0 p1 = some r) {w : World} :
   Calls Try.prog 40 [I p0, I p1].toArray w fun e w' => ∃ v, e = .returned v ∧ v = I r ∧ Chg Non w w' := by
 unfold spec_ResultWidth at h
 have hs := Sep.nil w Non
 have hM0 : Mem w Non (fun k => (False) ∧ k < w.heap.size) w Non (fun k => (False) ∧ k < w.heap.size) := Mem.start (fun _ h => h.elim) (fun _ h => h.2) (fun _ h => h.elim)
 refine enter (N := 18) Try.func40 rfl Try.ntmps40 rfl fun fr hF => ?_
 refine wp_seq (wp_pure [(0, I p0), (1, I p1)] hF (by kernel_rfl) fun fr hF => then_normal ?_)
 refine wp_seq (wp_block ?_)
 obtain ⟨x1, hx1, h⟩ := bindE h
 obtain ⟨x2, hx2, h⟩ := bindE h
 refine wp_seq (region_b [] [true, false, true, true, true, false, true, true, true]
     [.eq (I p1), .eq (.bool x1), .eq (.bool (!x1)), .eq (.bool (!x1)), .eq (I p0), .eq (.bool x2), .eq (.bool (!x2)), .eq (.bool ((!x1) || (!x2))), .eq (.bool ((!x1) || (!x2)))]
     [(0, I p0), (1, I p1), (5, .bool ((!x1) || (!x2)))] mix hF (by kernel_rfl) (by kernel_rfl) (by kernel_rfl) ⟨Pd.mono_eq, Pd.mono_eq, trivial⟩ (fun hG => ⟨np_call [I p1, I 1, I 16] hG hF Try.call70 rfl rfl (fun w hC hg => (spec_l01In_ok p1 1 16 hx1).mono fun e w' ⟨v, he, hv, hc⟩ => ⟨v, he, hc, hv⟩), np_call [I p0, I 1, I 16] hG hF Try.call70 rfl rfl (fun w hC hg => (spec_l01In_ok p0 1 16 (iteF hg.2 hx2)).mono fun e w' ⟨v, he, hv, hc⟩ => ⟨v, he, hc, hv⟩), trivial⟩) (by kernel_rfl) fun fr w1 hF hE hc => then_normal ?_)
 have hs := hs.ext hc
 have hM0 := hM0.ext hc
 refine (wp_if hF (b := ((!x1) || (!x2))) rfl (fun hb => ?_) (fun hb => ?_))
 · replace h := iteT hb h
   refine wp_seq (wp_pure [(4, I 0)] hF (by kernel_rfl) fun fr hF => then_normal ?_)
   obtain rfl := Option.some.inj h
   exact wp_ret (blk_ret (then_ret (ret1 rfl hF rfl ⟨_, rfl, rfl, hM0.chg⟩)))
 replace h := iteF hb h
 refine wp_seq (wp_pure [(1, I p1), (14, .bool (decide (p0 ≥ 14)))] hF (by kernel_rfl) fun fr hF => then_normal ?_)
 refine (wp_if hF (b := (decide (p0 ≥ 14))) rfl (fun hb => ?_) (fun hb => ?_))
 · replace h := iteT hb h
   refine wp_seq (wp_pure [(4, I 1)] hF (by kernel_rfl) fun fr hF => then_normal ?_)
   obtain rfl := Option.some.inj h
   exact wp_ret (blk_ret (then_ret (ret1 rfl hF rfl ⟨_, rfl, rfl, hM0.chg⟩)))
 replace h := iteF hb h
 refine (wp_skip ?_)
 refine blk_normal (then_normal ?_)
 refine wp_seq (wp_pure [(4, I p1)] hF (by kernel_rfl) fun fr hF => then_normal ?_)
 obtain rfl := Option.some.inj h
 exact wp_ret (ret1 rfl hF rfl ⟨_, rfl, rfl, hM0.chg⟩)

theorem laws_bools_ok (n : Nat) (p0 : Int) (p1 : Int) {r : (List Bool)} (h : laws_bools n p0 p1 = some r) {w : World} :
   Calls Try.prog 37 [I p0, I p1].toArray w fun e w' => ∃ v, e = .returned v ∧ ∃ a1 c1, v = L a1 r c1 ∧ ∃ S', Stp w Non w' S' ∧ Sep [sl4 (L a1 r c1) r] w' S' := by
 unfold laws_bools at h
 have hs := Sep.nil w Non
 have hM0 : Mem w Non (fun k => (False) ∧ k < w.heap.size) w Non (fun k => (False) ∧ k < w.heap.size) := Mem.start (fun _ h => h.elim) (fun _ h => h.2) (fun _ h => h.elim)
 refine enter (N := 22) Try.func37 rfl Try.ntmps37 rfl fun fr hF => ?_
 refine wp_seq (wp_pure [(0, I p0), (1, I p1)] hF (by kernel_rfl) fun fr hF => then_normal ?_)
 refine wp_seq (wp_text' ?_)
 refine q_lit (E := 4) hs hM0 [] (([] : List Bool).map Flat.enc) ([] : List Bool) rfl rfl hF [] rfl (fun w => by kernel_rfl) (css_flat _) rfl rfl rfl fun a1 c1 w1 S1 fr hs hp hF => ?_
 have hM0 := hM0.stp hp
 have hs : Sep [sl4 (L a1 ([] : List Bool) c1) ([] : List Bool)] w1 S1 := hs
 refine from_pure 1 [(0, I p0), (1, I p1), (5, L a1 ([] : List Bool) c1)] hF (by kernel_rfl) fun fr hF => ?_
 refine from_end rfl (then_normal ?_)
 refine wp_seq ?_
 refine wp_seq (wp_pure [(0, I p0), (1, I p1), (5, L a1 ([] : List Bool) c1), (6, I 0)] hF (by kernel_rfl) fun fr hF => then_normal ?_)
 obtain ⟨rl1, hit1, h⟩ := bindE h
 have hk1 := h
 refine (wp_cut (M := fun fr w' => ∃ a3 c3 S3 F2, FrS 22 [(5, L a3 rl1 c3)] fr ∧ Mem w1 S1 (fun k => (False) ∧ k < w.heap.size) w' S3 F2 ∧ Sep [sl4 (L a3 rl1 c3) rl1] w' S3) (wp_block (wp_iter (Inv := fun s1 fr w' => ∃ a2 c2 S2 F1, FrS 22 [(0, I p0), (1, I p1), (5, L a2 s1.2 c2), (6, I s1.1)] fr ∧ Mem w1 S1 (fun k => (False) ∧ k < w.heap.size) w' S2 F1 ∧ Sep [sl4 (L a2 s1.2 c2) s1.2] w' S2) hit1 ⟨a1, c1, S1, _, hF.sub _ (by kernel_rfl), (Mem.start hM0.bd hM0.bdF hM0.dj), hs⟩ fun s1 q1 fr w1i hI h hr1 => ?_)) fun fr w1o hM => ?_)
 · obtain ⟨a2, c2, S2, F1, hF, hM1, hs⟩ := hI
   refine wp_seq ?_
   refine wp_seq (wp_pure [(0, I p0), (1, I p1), (5, L a2 s1.2 c2), (6, I s1.1), (10, .bool (decide (s1.1 < p0)))] hF (by kernel_rfl) fun fr hF => then_normal ?_)
   refine (wp_if hF (b := (decide (s1.1 < p0))) rfl (fun hb => ?_) (fun hb => ?_))
   · replace h := iteT hb h
     refine (wp_skip (then_normal ?_))
     refine wp_seq (wp_block ?_)
     refine (wp_text' ?_)
     refine from_pure 3 [(0, I p0), (1, I p1), (6, I s1.1), (13, L a2 s1.2 c2), (14, I p1), (15, I s1.1)] hF (by kernel_rfl) fun fr hF => ?_
     obtain ⟨x1, hx1, h⟩ := bindE h
     refine s_shr rfl rfl hF rfl rfl hx1 fun fr hF => ?_
     refine from_pure 2 [(0, I p0), (1, I p1), (6, I s1.1), (13, L a2 s1.2 c2), (18, .bool ((band x1 1) == 1))] hF (by kernel_rfl) fun fr hF => ?_
     refine q_lit (E := 4) hs hM1 [.bool ((band x1 1) == 1)] (([((band x1 1) == 1)] : List Bool).map Flat.enc) ([((band x1 1) == 1)] : List Bool) rfl rfl hF [.bool ((band x1 1) == 1)] rfl (fun w => by kernel_rfl) (css_flat _) rfl rfl rfl fun a4 c4 w2 S4 fr hs hp hF => ?_
     have hM1 := hM1.stp hp
     have hs : Sep [sl4 (L a4 ([((band x1 1) == 1)] : List Bool) c4) ([((band x1 1) == 1)] : List Bool), sl4 (L a2 s1.2 c2) s1.2] w2 S4 := hs
     obtain ⟨x2, hx2, h⟩ := bindE h
     refine q_append 1 hs hM1 rfl Try.underlying51 el4 rfl rfl rfl hF rfl rfl (hs.rv 0 rfl) hx2 fun a5 c5 w3 S5 fr hs hp hF => ?_
     have hM1 := hM1.stp hp
     have hs : Sep [sl4 (L a4 ([((band x1 1) == 1)] : List Bool) c4) ([((band x1 1) == 1)] : List Bool), sl4 (L a5 x2 c5) x2] w3 S5 := hs
     have hs : Sep [sl4 (L a5 x2 c5) x2] w3 S5 := Sep.pick [1] hs (by decide) rfl
     refine from_pure 1 [(0, I p0), (1, I p1), (5, L a5 x2 c5), (6, I s1.1)] hF (by kernel_rfl) fun fr hF => ?_
     refine from_end rfl ?_
     refine blk_normal (then_normal ?_)
     refine (wp_pure [(0, I p0), (1, I p1), (5, L a5 x2 c5), (6, I (w64 (s1.1 + 1)))] hF (by kernel_rfl) fun fr hF => then_normal ?_)
     exact ⟨_, (Option.some.inj h).symm, a5, c5, S5, _, hF.sub _ (by kernel_rfl), hM1, hs⟩
   replace h := iteF hb h
   refine (wp_exit (then_exit (then_exit (blk_exit_eq ?_))))
   obtain rfl := hr1 _ (Option.some.inj h).symm
   exact then_normal ⟨a2, c2, S2, _, hF.sub _ (by kernel_rfl), hM1, hs⟩
 · obtain ⟨a3, c3, S3, F2, hF, hMx, hs⟩ := hM
   have hM0 := hM0.trans hMx
   refine wp_seq (wp_pure [(4, L a3 rl1 c3)] hF (by kernel_rfl) fun fr hF => then_normal ?_)
   obtain rfl := Option.some.inj h
   exact wp_ret (ret1 rfl hF rfl ⟨_, rfl, a3, c3, rfl, S3, hM0.out, hs⟩)

theorem impl_litTrue_ok (p0 : List Bool) (p1 : Int) {r : Bool} (h : impl_litTrue p0 p1 = some r) {w : World} {G0 : Nat → Prop} {va0 : Value} (ra0 : RV w G0 va0 p0) :
   Calls Try.prog 78 [va0, I p1].toArray w fun e w' => ∃ v, e = .returned v ∧ v = .bool r ∧ Chg Non w w' := by
 unfold impl_litTrue at h
 have hs := Sep.nil w Non
 have hM0 : Mem w Non (fun k => (G0 k) ∧ k < w.heap.size) w Non (fun k => (G0 k) ∧ k < w.heap.size) := Mem.start (fun _ h => h.elim) (fun _ h => h.2) (fun _ h => h.elim)
 have ra0 := ra0.sub (F' := (fun k => (G0 k) ∧ k < w.heap.size)) (fun k hk h => ⟨h, hk⟩)
 obtain ⟨a1, c1, rfl, -⟩ := ra0.slice
 refine enter (N := 19) Try.func78 rfl Try.ntmps78 rfl fun fr hF => ?_
 refine wp_seq (wp_pure [(0, L a1 p0 c1), (1, I p1)] hF (by kernel_rfl) fun fr hF => then_normal ?_)
 refine wp_seq ?_
 refine wp_seq (wp_pure [(0, L a1 p0 c1), (1, I p1), (6, .bool (decide (p1 < 0)))] hF (by kernel_rfl) fun fr hF => then_normal ?_)
 refine (wp_if hF (b := (decide (p1 < 0))) rfl (fun hb => ?_) (fun hb => ?_))
 · replace h := iteT hb h
   refine wp_seq (wp_text' ?_)
   refine from_pure 4 [(7, L a1 p0 c1), (10, I (w64 ((w64 (0 - p1)) - 1)))] hF (by kernel_rfl) fun fr hF => ?_
   obtain ⟨x1, hx1, h⟩ := bindE h
   refine s_elemF (z := x1) (.bool x1) ty4 Try.underlying51 rfl rfl rfl rfl rfl hF rfl (ra0) rfl (get?_nn hx1) (get?_at hx1) rfl fun p fr hF => ?_
   refine from_pure 2 [(4, .bool (!x1))] hF (by kernel_rfl) fun fr hF => ?_
   refine from_end rfl (then_normal ?_)
   obtain rfl := Option.some.inj h
   exact wp_ret (then_ret (ret1 rfl hF rfl ⟨_, rfl, rfl, hM0.chg⟩))
 replace h := iteF hb h
 refine (wp_skip (then_normal ?_))
 refine wp_seq (wp_text' ?_)
 refine from_pure 3 [(14, L a1 p0 c1), (16, I (w64 (p1 - 1)))] hF (by kernel_rfl) fun fr hF => ?_
 obtain ⟨x2, hx2, h⟩ := bindE h
 refine s_elemF (z := x2) (.bool x2) ty4 Try.underlying51 rfl rfl rfl rfl rfl hF rfl (ra0) rfl (get?_nn hx2) (get?_at hx2) rfl fun p fr hF => ?_
 refine from_pure 1 [(4, .bool x2)] hF (by kernel_rfl) fun fr hF => ?_
 refine from_end rfl (then_normal ?_)
 obtain rfl := Option.some.inj h
 exact wp_ret (ret1 rfl hF rfl ⟨_, rfl, rfl, hM0.chg⟩)

theorem impl_EvalCircuit_ok (n : Nat) (p0 : D.Circuit) (p1 : List Bool) {r : (List Bool)} (h : impl_EvalCircuit n p0 p1 = some r) {w : World} {G0 : Nat → Prop} {va0 : Value} (ra0 : RV w G0 va0 p0) {G1 : Nat → Prop} {va1 : Value} (ra1 : RV w G1 va1 p1) :
   Calls Try.prog 36 [va0, va1].toArray w fun e w' => ∃ v, e = .returned v ∧ ∃ a1 c1, v = L a1 r c1 ∧ ∃ S', Stp w Non w' S' ∧ Sep [sl4 (L a1 r c1) r] w' S' := by
 unfold impl_EvalCircuit at h
 have hs := Sep.nil w Non
 have hM0 : Mem w Non (fun k => (G0 k ∨ G1 k) ∧ k < w.heap.size) w Non (fun k => (G0 k ∨ G1 k) ∧ k < w.heap.size) := Mem.start (fun _ h => h.elim) (fun _ h => h.2) (fun _ h => h.elim)
 have ra0 := ra0.sub (F' := (fun k => (G0 k ∨ G1 k) ∧ k < w.heap.size)) (fun k hk h => ⟨.inl h, hk⟩)
 obtain ⟨v1, rfl, r1⟩ := RV.Circuit ra0
 obtain ⟨a1, c1, rfl, -⟩ := r1.slice
 have ra1 := ra1.sub (F' := (fun k => (G0 k ∨ G1 k) ∧ k < w.heap.size)) (fun k hk h => ⟨.inr (h), hk⟩)
 obtain ⟨a2, c2, rfl, -⟩ := ra1.slice
 refine enter (N := 44) Try.func36 rfl Try.ntmps36 rfl fun fr hF => ?_
 refine wp_seq (wp_text' ?_)
 refine q_box hs hM0 [I p0.Inputs, L a1 p0.Gates c1] rfl rfl hF rfl rfl fun b1 w1 S1 fr hs hp hF => ?_
 have r1 := r1.stp hM0 hp
 have ra1 := ra1.stp hM0 hp
 have hM0 := hM0.stp hp
 have hs : Sep [BX b1 28 [I p0.Inputs, L a1 p0.Gates c1]] w1 S1 := hs
 refine from_pure 1 [(1, L a2 p1 c2), (2, B b1 0)] hF (by kernel_rfl) fun fr hF => ?_
 refine from_end rfl (then_normal ?_)
 refine wp_seq ?_
 obtain ⟨x1, hx1, h⟩ := bindE h
 refine wp_seq (region_b [] [false, false, true, true, true, true, true, false, true, true]
     [.eq (.agg #[I p0.Inputs, L a1 p0.Gates c1]), .eq (.bool x1), .eq (.bool (!x1)), .eq (.bool (!x1)), .eq (L a2 p1 c2), .eq (I (len p1)), .eq (B b1 0), .eq (I p0.Inputs), .eq (.bool ((len p1) != p0.Inputs)), .eq (.bool ((!x1) || ((len p1) != p0.Inputs)))]
     [(1, L a2 p1 c2), (2, B b1 0), (17, .bool ((!x1) || ((len p1) != p0.Inputs)))] mix hF (by kernel_rfl) (by kernel_rfl) (by kernel_rfl) ⟨Pd.mono_eq, Pd.mono_eq, Pd.mono_eq, trivial⟩ (fun hG => ⟨np_loadBoxS hG hF ty28 rfl rfl (hs.bx 0 rfl) rfl rfl rfl rfl, np_call [.agg #[I p0.Inputs, L a1 p0.Gates c1]] hG hF Try.call35 rfl rfl (fun w hC hg => (impl_CircuitOk_ok n p0 hx1 ((RV.mk_Circuit p0 (r1)).ext hC)).mono fun e w' ⟨v, he, hv, hc⟩ => ⟨v, he, hc, hv⟩), np_loadBox hG hF ty3 rfl rfl (hs.bx 0 rfl) rfl rfl rfl, trivial⟩) (by kernel_rfl) fun fr w2 hF hE hc => then_normal ?_)
 have ra1 := ra1.ext hc
 have r1 := r1.ext hc
 have hs := hs.ext hc
 have hM0 := hM0.ext hc
 refine (wp_if hF (b := ((!x1) || ((len p1) != p0.Inputs))) rfl (fun hb => ?_) (fun hb => ?_))
 · replace h := iteT hb h
   have hs : Sep [] w2 S1 := Sep.pick [] hs (by decide) rfl
   refine wp_seq (wp_pure [(4, L none ([] : List Bool) 0)] hF (by kernel_rfl) fun fr hF => then_normal ?_)
   have hs : Sep [sl4 (L none ([] : List Bool) 0) ([] : List Bool)] w2 S1 := hs.cons_nil (α := Bool) 4
   obtain rfl := Option.some.inj h
   exact wp_ret (then_ret (ret1 rfl hF rfl ⟨_, rfl, none, 0, rfl, S1, hM0.out, hs⟩))
 replace h := iteF hb h
 refine (wp_skip (then_normal ?_))
 refine wp_seq (wp_text' ?_)
 refine q_lit (E := 4) hs hM0 [.bool true] (([true] : List Bool).map Flat.enc) ([true] : List Bool) rfl rfl hF [.bool true] rfl (fun w => by kernel_rfl) (css_flat _) rfl rfl rfl fun a3 c3 w3 S2 fr hs hp hF => ?_
 have ra1 := ra1.stp hM0 hp
 have r1 := r1.stp hM0 hp
 have hM0 := hM0.stp hp
 have hs : Sep [sl4 (L a3 ([true] : List Bool) c3) ([true] : List Bool), BX b1 28 [I p0.Inputs, L a1 p0.Gates c1]] w3 S2 := hs
 refine from_pure 1 [(1, L a2 p1 c2), (2, B b1 0), (5, L a3 ([true] : List Bool) c3)] hF (by kernel_rfl) fun fr hF => ?_
 refine from_end rfl (then_normal ?_)
 refine wp_seq (wp_text' ?_)
 refine from_pure 2 [(2, B b1 0), (19, L a3 ([true] : List Bool) c3), (20, L a2 p1 c2)] hF (by kernel_rfl) fun fr hF => ?_
 obtain ⟨x2, hx2, h⟩ := bindE h
 refine q_append 0 hs hM0 rfl Try.underlying51 el4 rfl rfl rfl hF rfl rfl (ra1) hx2 fun a4 c4 w4 S3 fr hs hp hF => ?_
 have ra1 := ra1.stp hM0 hp
 have r1 := r1.stp hM0 hp
 have hM0 := hM0.stp hp
 have hs : Sep [sl4 (L a4 x2 c4) x2, BX b1 28 [I p0.Inputs, L a1 p0.Gates c1]] w4 S3 := hs
 refine from_pure 1 [(2, B b1 0), (5, L a4 x2 c4)] hF (by kernel_rfl) fun fr hF => ?_
 refine from_end rfl (then_normal ?_)
 refine wp_seq ?_
 refine wp_seq (wp_text' ?_)
 refine from_pure 1 [(5, L a4 x2 c4), (22, B b1 1)] hF (by kernel_rfl) fun fr hF => ?_
 refine s_loadBox (L a1 p0.Gates c1) ty26 rfl rfl hF rfl (hs.bx 1 rfl) rfl rfl fun fr hF => ?_
 have hs : Sep [sl4 (L a4 x2 c4) x2] w4 S3 := Sep.pick [0] hs (by decide) rfl
 refine from_pure 2 [(5, L a4 x2 c4), (23, L a1 p0.Gates c1), (24, I (len p0.Gates)), (25, I 0)] hF (by kernel_rfl) fun fr hF => ?_
 refine from_end rfl (then_normal ?_)
 obtain ⟨rl1, hit1, h⟩ := bindE h
 have hk1 := h
 refine (wp_cut (M := fun fr w' => ∃ a6 c6 S5 F2, FrS 44 [(5, L a6 rl1 c6)] fr ∧ Mem w4 S3 (fun k => (G0 k ∨ G1 k) ∧ k < w.heap.size) w' S5 F2 ∧ Sep [sl4 (L a6 rl1 c6) rl1] w' S5) (wp_block (wp_iter (Inv := fun s1 fr w' => ∃ a5 c5 S4 F1, FrS 44 [(5, L a5 s1.2 c5), (23, L a1 p0.Gates c1), (24, I (len p0.Gates)), (25, I s1.1)] fr ∧ Mem w4 S3 (fun k => (G0 k ∨ G1 k) ∧ k < w.heap.size) w' S4 F1 ∧ Sep [sl4 (L a5 s1.2 c5) s1.2] w' S4) hit1 ⟨a4, c4, S3, _, hF.sub _ (by kernel_rfl), (Mem.start hM0.bd hM0.bdF hM0.dj), hs⟩ fun s1 q1 fr w1i hI h hr1 => ?_)) fun fr w1o hM => ?_)
 · obtain ⟨a5, c5, S4, F1, hF, hM1, hs⟩ := hI
   have r1 := r1.mem hM1
   refine wp_seq (wp_pure [(5, L a5 s1.2 c5), (23, L a1 p0.Gates c1), (24, I (len p0.Gates)), (25, I s1.1), (26, .bool (decide (s1.1 < (len p0.Gates))))] hF (by kernel_rfl) fun fr hF => then_normal ?_)
   refine wp_seq (wp_if hF (b := (decide (s1.1 < (len p0.Gates)))) rfl (fun hb => ?_) (fun hb => ?_))
   · replace h := iteT hb h
     refine (wp_skip (then_normal ?_))
     refine wp_seq (wp_block ?_)
     refine wp_seq (wp_text' ?_)
     obtain ⟨x3, hx3, h⟩ := bindE h
     refine s_elemF (z := x3) (.agg #[I x3.A, I x3.B]) ty59 Try.underlying26 rfl rfl rfl rfl rfl hF rfl (r1) rfl (get?_nn hx3) (get?_at hx3) rfl fun p fr hF => ?_
     refine q_alloc (z := .agg #[I 0, I 0]) hs hM1 [I 0, I 0] rfl rfl hF (by kernel_rfl) rfl fun b2 w5 S6 fr hs hp hF => ?_
     have r1 := r1.stp hM1 hp
     have hM1 := hM1.stp hp
     have hs : Sep [BX b2 59 [I 0, I 0], sl4 (L a5 s1.2 c5) s1.2] w5 S6 := hs
     refine q_storeBoxS 0 hs hM1 rfl [I x3.A, I x3.B] rfl hF rfl rfl (by kernel_rfl) rfl rfl rfl fun w6 S7 hs hp hF => ?_
     have r1 := r1.stp hM1 hp
     have hM1 := hM1.stp hp
     have hs : Sep [BX b2 59 [I x3.A, I x3.B], sl4 (L a5 s1.2 c5) s1.2] w6 S7 := hs
     refine from_end rfl (then_normal ?_)
     obtain ⟨x4, hx4, h⟩ := bindE h
     obtain ⟨x5, hx5, h⟩ := bindE h
     refine (region_tm 11 [true, true, true, false, false, true, true, true, false, false, true]
         [.eq (L a5 s1.2 c5), .eq (L a5 s1.2 c5), .eq (B b2 0), .eq (I x3.A), .eq (.bool x4), .eq (.bool x4), .eq (L a5 s1.2 c5), .eq (B b2 1), .eq (I x3.B), .eq (.bool x5), .eq (.bool (x4 && x5)), .any, .any, .any]
         [(23, L a1 p0.Gates c1), (24, I (len p0.Gates)), (25, I s1.1), (29, L a5 s1.2 c5), (39, .bool (x4 && x5))] hF (by kernel_rfl) (by kernel_rfl) (by kernel_rfl) (by kernel_rfl) ⟨Pd.mono_eq, Pd.mono_eq, Pd.mono_eq, Pd.mono_eq, trivial⟩ (fun hG => ⟨np_loadBox hG hF ty3 rfl rfl (hs.bx 0 rfl) rfl rfl rfl, np_call [L a5 s1.2 c5, I x3.A] hG hF Try.call78 rfl rfl (fun w hC hg => (impl_litTrue_ok s1.2 x3.A hx4 ((hs.rv 1 rfl).ext hC)).mono fun e w' ⟨v, he, hv, hc⟩ => ⟨v, he, hc, hv⟩), np_loadBox hG hF ty3 rfl rfl (hs.bx 0 rfl) rfl rfl rfl, np_call [L a5 s1.2 c5, I x3.B] hG hF Try.call78 rfl rfl (fun w hC hg => (impl_litTrue_ok s1.2 x3.B (iteT hg.2 hx5) ((hs.rv 1 rfl).ext hC)).mono fun e w' ⟨v, he, hv, hc⟩ => ⟨v, he, hc, hv⟩), trivial⟩) (by kernel_rfl) fun fr w7 hF hc => ?_)
     have r1 := r1.ext hc
     have hs := hs.ext hc
     have hM1 := hM1.ext hc
     have hs : Sep [sl4 (L a5 s1.2 c5) s1.2] w7 S7 := Sep.pick [1] hs (by decide) rfl
     refine q_lit (E := 4) hs hM1 [.bool (x4 && x5)] (([(x4 && x5)] : List Bool).map Flat.enc) ([(x4 && x5)] : List Bool) rfl rfl hF [.bool (x4 && x5)] rfl (fun w => by kernel_rfl) (css_flat _) rfl rfl rfl fun a7 c7 w8 S8 fr hs hp hF => ?_
     have r1 := r1.stp hM1 hp
     have hM1 := hM1.stp hp
     have hs : Sep [sl4 (L a7 ([(x4 && x5)] : List Bool) c7) ([(x4 && x5)] : List Bool), sl4 (L a5 s1.2 c5) s1.2] w8 S8 := hs
     obtain ⟨x6, hx6, h⟩ := bindE h
     refine q_append 1 hs hM1 rfl Try.underlying51 el4 rfl rfl rfl hF rfl rfl (hs.rv 0 rfl) hx6 fun a8 c8 w9 S9 fr hs hp hF => ?_
     have r1 := r1.stp hM1 hp
     have hM1 := hM1.stp hp
     have hs : Sep [sl4 (L a7 ([(x4 && x5)] : List Bool) c7) ([(x4 && x5)] : List Bool), sl4 (L a8 x6 c8) x6] w9 S9 := hs
     have hs : Sep [sl4 (L a8 x6 c8) x6] w9 S9 := Sep.pick [1] hs (by decide) rfl
     refine from_pure 1 [(5, L a8 x6 c8), (23, L a1 p0.Gates c1), (24, I (len p0.Gates)), (25, I s1.1)] hF (by kernel_rfl) fun fr hF => ?_
     refine from_end rfl ?_
     refine blk_normal (then_normal ?_)
     refine (wp_pure [(5, L a8 x6 c8), (23, L a1 p0.Gates c1), (24, I (len p0.Gates)), (25, I (w64 (s1.1 + 1)))] hF (by kernel_rfl) fun fr hF => then_normal ?_)
     exact ⟨_, (Option.some.inj h).symm, a8, c8, S9, _, hF.sub _ (by kernel_rfl), hM1, hs⟩
   replace h := iteF hb h
   refine (wp_exit (then_exit (then_exit (blk_exit_eq ?_))))
   obtain rfl := hr1 _ (Option.some.inj h).symm
   exact then_normal ⟨a5, c5, S4, _, hF.sub _ (by kernel_rfl), hM1, hs⟩
 · obtain ⟨a6, c6, S5, F2, hF, hMx, hs⟩ := hM
   have hM0 := hM0.trans hMx
   refine wp_seq (wp_pure [(4, L a6 rl1 c6)] hF (by kernel_rfl) fun fr hF => then_normal ?_)
   obtain rfl := Option.some.inj h
   exact wp_ret (ret1 rfl hF rfl ⟨_, rfl, a6, c6, rfl, S5, hM0.out, hs⟩)

theorem laws_word_ok (n : Nat) (p0 : List Bool) (p1 : List Int) {r : Int} (h : laws_word n p0 p1 = some r) {w : World} {G0 : Nat → Prop} {va0 : Value} (ra0 : RV w G0 va0 p0) {G1 : Nat → Prop} {va1 : Value} (ra1 : RV w G1 va1 p1) :
   Calls Try.prog 38 [va0, va1].toArray w fun e w' => ∃ v, e = .returned v ∧ v = I r ∧ Chg Non w w' := by
 unfold laws_word at h
 have hs := Sep.nil w Non
 have hM0 : Mem w Non (fun k => (G0 k ∨ G1 k) ∧ k < w.heap.size) w Non (fun k => (G0 k ∨ G1 k) ∧ k < w.heap.size) := Mem.start (fun _ h => h.elim) (fun _ h => h.2) (fun _ h => h.elim)
 have ra0 := ra0.sub (F' := (fun k => (G0 k ∨ G1 k) ∧ k < w.heap.size)) (fun k hk h => ⟨.inl h, hk⟩)
 obtain ⟨a1, c1, rfl, -⟩ := ra0.slice
 have ra1 := ra1.sub (F' := (fun k => (G0 k ∨ G1 k) ∧ k < w.heap.size)) (fun k hk h => ⟨.inr (h), hk⟩)
 obtain ⟨a2, c2, rfl, -⟩ := ra1.slice
 refine enter (N := 43) Try.func38 rfl Try.ntmps38 rfl fun fr hF => ?_
 refine wp_seq (wp_pure [(0, L a1 p0 c1), (1, L a2 p1 c2)] hF (by kernel_rfl) fun fr hF => then_normal ?_)
 refine wp_seq (wp_pure [(0, L a1 p0 c1), (1, L a2 p1 c2), (5, I 0)] hF (by kernel_rfl) fun fr hF => then_normal ?_)
 refine wp_seq ?_
 refine wp_seq (wp_pure [(0, L a1 p0 c1), (5, I 0), (9, L a2 p1 c2), (10, I (len p1)), (11, I 0)] hF (by kernel_rfl) fun fr hF => then_normal ?_)
 obtain ⟨rl1, hit1, h⟩ := bindE h
 have hk1 := h
 refine (wp_cut (M := fun fr w' => ∃ s, rl1 = .inl s ∧ ∃ S2 F2, FrS 43 [(5, I s)] fr ∧ Mem w Non (fun k => (G0 k ∨ G1 k) ∧ k < w.heap.size) w' S2 F2 ∧ Sep [] w' S2) (wp_block (wp_iter (Inv := fun s1 fr w' => ∃ S1 F1, FrS 43 [(0, L a1 p0 c1), (5, I s1.1), (9, L a2 p1 c2), (10, I (len p1)), (11, I s1.2)] fr ∧ Mem w Non (fun k => (G0 k ∨ G1 k) ∧ k < w.heap.size) w' S1 F1 ∧ Sep [] w' S1) hit1 ⟨Non, _, hF.sub _ (by kernel_rfl), (Mem.start hM0.bd hM0.bdF hM0.dj), hs⟩ fun s1 q1 fr w1i hI h hr1 => ?_)) fun fr w1o hM => ?_)
 · obtain ⟨S1, F1, hF, hM1, hs⟩ := hI
   have ra0 := ra0.mem hM1
   have ra1 := ra1.mem hM1
   refine wp_seq (wp_pure [(0, L a1 p0 c1), (5, I s1.1), (9, L a2 p1 c2), (10, I (len p1)), (11, I s1.2), (12, .bool (decide (s1.2 < (len p1))))] hF (by kernel_rfl) fun fr hF => then_normal ?_)
   refine wp_seq (wp_if hF (b := (decide (s1.2 < (len p1)))) rfl (fun hb => ?_) (fun hb => ?_))
   · replace h := iteT hb h
     refine (wp_skip (then_normal ?_))
     refine wp_seq (wp_block ?_)
     refine wp_seq (wp_text' ?_)
     refine from_pure 1 [(0, L a1 p0 c1), (5, I s1.1), (9, L a2 p1 c2), (10, I (len p1)), (11, I s1.2), (13, I s1.2)] hF (by kernel_rfl) fun fr hF => ?_
     obtain ⟨x1, hx1, h⟩ := bindE h
     refine s_elemF (z := x1) (I x1) ty3 Try.underlying37 rfl rfl rfl rfl rfl hF rfl (ra1) rfl (get?_nn hx1) (get?_at hx1) rfl fun p fr hF => ?_
     refine from_pure 2 [(0, L a1 p0 c1), (5, I s1.1), (6, I s1.2), (7, I x1), (9, L a2 p1 c2), (10, I (len p1)), (11, I s1.2)] hF (by kernel_rfl) fun fr hF => ?_
     refine from_end rfl (then_normal ?_)
     refine wp_seq (wp_pure [(0, L a1 p0 c1), (5, I s1.1), (6, I s1.2), (7, I x1), (8, I x1), (9, L a2 p1 c2), (10, I (len p1)), (11, I s1.2)] hF (by kernel_rfl) fun fr hF => then_normal ?_)
     refine wp_seq ?_
     refine wp_seq (wp_pure [(0, L a1 p0 c1), (5, I s1.1), (6, I s1.2), (7, I x1), (8, I x1), (9, L a2 p1 c2), (10, I (len p1)), (11, I s1.2), (18, .bool (decide (x1 < 0)))] hF (by kernel_rfl) fun fr hF => then_normal ?_)
     refine (wp_merge [(0, L a1 p0 c1), (5, I s1.1), (6, I s1.2), (7, I x1), (8, I (cond (decide (x1 < 0)) (w64 (0 - x1)) x1)), (9, L a2 p1 c2), (10, I (len p1)), (11, I s1.2)] hF (b := (decide (x1 < 0))) rfl (fun hb => ?_) (fun hb => ?_) fun fr hF => then_normal ?_)
     · exact wp_pure [(0, L a1 p0 c1), (5, I s1.1), (6, I s1.2), (7, I x1), (8, I (w64 (0 - x1))), (9, L a2 p1 c2), (10, I (len p1)), (11, I s1.2)] hF (by kernel_rfl) fun fr hF => ⟨rfl, rfl, hF.eqs (by first | (simp only [hb]; done) | (simp only [hb]; rfl))⟩
     · exact wp_skip ⟨rfl, rfl, (hF.sub [(0, L a1 p0 c1), (5, I s1.1), (6, I s1.2), (7, I x1), (8, I x1), (9, L a2 p1 c2), (10, I (len p1)), (11, I s1.2)] (by kernel_rfl)).eqs (by first | (simp only [hb]; done) | (simp only [hb]; rfl))⟩
     refine wp_seq ?_
     refine wp_seq (region_b [] [true, true, true, true, true, true, true, true]
         [.eq (I (cond (decide (x1 < 0)) (w64 (0 - x1)) x1)), .eq (.bool (decide ((cond (decide (x1 < 0)) (w64 (0 - x1)) x1) < 1))), .eq (.bool (decide ((cond (decide (x1 < 0)) (w64 (0 - x1)) x1) < 1))), .eq (I (cond (decide (x1 < 0)) (w64 (0 - x1)) x1)), .eq (L a1 p0 c1), .eq (I (len p0)), .eq (.bool (decide ((cond (decide (x1 < 0)) (w64 (0 - x1)) x1) > (len p0)))), .eq (.bool ((decide ((cond (decide (x1 < 0)) (w64 (0 - x1)) x1) < 1)) || (decide ((cond (decide (x1 < 0)) (w64 (0 - x1)) x1) > (len p0)))))]
         [(0, L a1 p0 c1), (5, I s1.1), (6, I s1.2), (7, I x1), (8, I (cond (decide (x1 < 0)) (w64 (0 - x1)) x1)), (9, L a2 p1 c2), (10, I (len p1)), (11, I s1.2), (28, .bool ((decide ((cond (decide (x1 < 0)) (w64 (0 - x1)) x1) < 1)) || (decide ((cond (decide (x1 < 0)) (w64 (0 - x1)) x1) > (len p0)))))] mix hF (by kernel_rfl) (by kernel_rfl) (by kernel_rfl) trivial (fun hG => trivial) (by kernel_rfl) fun fr w1 hF hE hc => then_normal ?_)
     have ra0 := ra0.ext hc
     have ra1 := ra1.ext hc
     have hs := hs.ext hc
     have hM1 := hM1.ext hc
     refine (wp_if hF (b := ((decide ((cond (decide (x1 < 0)) (w64 (0 - x1)) x1) < 1)) || (decide ((cond (decide (x1 < 0)) (w64 (0 - x1)) x1) > (len p0))))) rfl (fun hb => ?_) (fun hb => ?_))
     · replace h := iteT hb h
       refine wp_seq (wp_pure [(4, I (-1))] hF (by kernel_rfl) fun fr hF => then_normal ?_)
       obtain rfl := hr1 _ (Option.some.inj h).symm
       obtain rfl := Option.some.inj hk1
       exact wp_ret (then_ret (blk_ret (then_ret (then_ret (blk_ret (then_ret (ret1 rfl hF rfl ⟨_, rfl, rfl, (hM0.trans hM1).chg⟩)))))))
     replace h := iteF hb h
     refine (wp_skip (then_normal ?_))
     refine wp_seq (wp_text' ?_)
     refine from_pure 3 [(0, L a1 p0 c1), (5, I s1.1), (6, I s1.2), (7, I x1), (9, L a2 p1 c2), (10, I (len p1)), (11, I s1.2), (29, L a1 p0 c1), (31, I (w64 ((cond (decide (x1 < 0)) (w64 (0 - x1)) x1) - 1)))] hF (by kernel_rfl) fun fr hF => ?_
     obtain ⟨x2, hx2, h⟩ := bindE h
     refine s_elemF (z := x2) (.bool x2) ty4 Try.underlying51 rfl rfl rfl rfl rfl hF rfl (ra0) rfl (get?_nn hx2) (get?_at hx2) rfl fun p fr hF => ?_
     refine from_pure 3 [(0, L a1 p0 c1), (5, I s1.1), (6, I s1.2), (9, L a2 p1 c2), (10, I (len p1)), (11, I s1.2), (36, .bool (x2 == (decide (x1 > 0))))] hF (by kernel_rfl) fun fr hF => ?_
     refine from_end rfl (then_normal ?_)
     refine (wp_if hF (b := (x2 == (decide (x1 > 0)))) rfl (fun hb => ?_) (fun hb => ?_))
     · replace h := iteT hb h
       refine (wp_text' ?_)
       refine from_pure 2 [(0, L a1 p0 c1), (9, L a2 p1 c2), (10, I (len p1)), (11, I s1.2), (37, I s1.1), (38, I s1.2)] hF (by kernel_rfl) fun fr hF => ?_
       obtain ⟨x3, hx3, h⟩ := bindE h
       refine s_shl rfl rfl hF rfl rfl hx3 fun fr hF => ?_
       refine from_pure 2 [(0, L a1 p0 c1), (5, I (w64 (s1.1 + x3))), (9, L a2 p1 c2), (10, I (len p1)), (11, I s1.2)] hF (by kernel_rfl) fun fr hF => ?_
       refine from_end rfl ?_
       refine blk_normal (then_normal ?_)
       refine (wp_pure [(0, L a1 p0 c1), (5, I (w64 (s1.1 + x3))), (9, L a2 p1 c2), (10, I (len p1)), (11, I (w64 (s1.2 + 1)))] hF (by kernel_rfl) fun fr hF => then_normal ?_)
       exact ⟨_, (Option.some.inj h).symm, S1, _, hF.sub _ (by kernel_rfl), hM1, hs⟩
     replace h := iteF hb h
     refine (wp_skip ?_)
     refine blk_normal (then_normal ?_)
     refine (wp_pure [(0, L a1 p0 c1), (5, I s1.1), (9, L a2 p1 c2), (10, I (len p1)), (11, I (w64 (s1.2 + 1)))] hF (by kernel_rfl) fun fr hF => then_normal ?_)
     exact ⟨_, (Option.some.inj h).symm, S1, _, hF.sub _ (by kernel_rfl), hM1, hs⟩
   replace h := iteF hb h
   refine (wp_exit (then_exit (then_exit (blk_exit_eq ?_))))
   obtain rfl := hr1 _ (Option.some.inj h).symm
   exact then_normal ⟨_, rfl, S1, _, hF.sub _ (by kernel_rfl), hM1, hs⟩
 · obtain ⟨s1r, rfl, hM⟩ := hM
   obtain ⟨S2, F2, hF, hMx, hs⟩ := hM
   have hM0 := hM0.trans hMx
   refine wp_seq (wp_pure [(4, I s1r)] hF (by kernel_rfl) fun fr hF => then_normal ?_)
   obtain rfl := Option.some.inj h
   exact wp_ret (ret1 rfl hF rfl ⟨_, rfl, rfl, hM0.chg⟩)

theorem spec_WordOk_ok (p0 : Int) (p1 : Int) {r : Bool} (h : spec_WordOk p0 p1 = some r) {w : World} :
   Calls Try.prog 80 [I p0, I p1].toArray w fun e w' => ∃ v, e = .returned v ∧ v = .bool r ∧ Chg Non w w' := by
 unfold spec_WordOk at h
 have hs := Sep.nil w Non
 have hM0 : Mem w Non (fun k => (False) ∧ k < w.heap.size) w Non (fun k => (False) ∧ k < w.heap.size) := Mem.start (fun _ h => h.elim) (fun _ h => h.2) (fun _ h => h.elim)
 refine enter (N := 14) Try.func80 rfl Try.ntmps80 rfl fun fr hF => ?_
 refine wp_seq (wp_pure [(0, I p0), (1, I p1)] hF (by kernel_rfl) fun fr hF => then_normal ?_)
 obtain ⟨x1, hx1, h⟩ := bindE h
 obtain ⟨x2, hx2, h⟩ := bindE h
 obtain ⟨x3, hx3, h⟩ := bindE h
 refine wp_seq (region_b [] [true, false, true, true, true, false, true, false, true, true]
     [.eq (I p0), .eq (.bool x1), .eq (.bool x1), .eq (I p1), .eq (I p0), .eq (I x2), .eq (I (w64 (x2 - 1))), .eq (.bool x3), .eq (.bool (x1 && x3)), .eq (.bool (x1 && x3))]
     [(4, .bool (x1 && x3))] mix hF (by kernel_rfl) (by kernel_rfl) (by kernel_rfl) ⟨Pd.mono_eq, Pd.mono_eq, Pd.mono_eq, trivial⟩ (fun hG => ⟨np_call [I p0, I 1, I 16] hG hF Try.call70 rfl rfl (fun w hC hg => (spec_l01In_ok p0 1 16 hx1).mono fun e w' ⟨v, he, hv, hc⟩ => ⟨v, he, hc, hv⟩), np_shl hG hF rfl rfl rfl (fun hg => (iteT hg.2 hx2)) rfl, np_call [I p1, I 0, I (w64 (x2 - 1))] hG hF Try.call70 rfl rfl (fun w hC hg => (spec_l01In_ok p1 0 (w64 (x2 - 1)) (iteT hg.2 hx3)).mono fun e w' ⟨v, he, hv, hc⟩ => ⟨v, he, hc, hv⟩), trivial⟩) (by kernel_rfl) fun fr w1 hF hE hc => then_normal ?_)
 have hs := hs.ext hc
 have hM0 := hM0.ext hc
 obtain rfl := Option.some.inj h
 exact wp_ret (ret1 rfl hF rfl ⟨_, rfl, rfl, hM0.chg⟩)

theorem spec_WordOf_ok (p0 : Int) (p1 : Int) {r : Int} (h : spec_WordOf p0 p1 = some r) {w : World} :
   Calls Try.prog 81 [I p0, I p1].toArray w fun e w' => ∃ v, e = .returned v ∧ v = I r ∧ Chg Non w w' := by
 unfold spec_WordOf at h
 have hs := Sep.nil w Non
 have hM0 : Mem w Non (fun k => (False) ∧ k < w.heap.size) w Non (fun k => (False) ∧ k < w.heap.size) := Mem.start (fun _ h => h.elim) (fun _ h => h.2) (fun _ h => h.elim)
 refine enter (N := 13) Try.func81 rfl Try.ntmps81 rfl fun fr hF => ?_
 refine wp_seq (wp_pure [(0, I p0), (1, I p1)] hF (by kernel_rfl) fun fr hF => then_normal ?_)
 refine wp_seq ?_
 refine wp_seq (wp_text' ?_)
 refine from_pure 1 [(0, I p0), (1, I p1), (5, I p0)] hF (by kernel_rfl) fun fr hF => ?_
 obtain ⟨x1, hx1, h⟩ := bindE h
 refine s_call [I p0, I 1, I 16] Try.call70 rfl rfl hF rfl (spec_l01In_ok p0 1 16 hx1) fun v w1 fr hRes hF => ?_
 obtain ⟨rfl, hc⟩ := hRes
 have hs := hs.ext hc
 have hM0 := hM0.ext hc
 refine from_pure 1 [(0, I p0), (1, I p1), (7, .bool (!x1))] hF (by kernel_rfl) fun fr hF => ?_
 refine from_end rfl (then_normal ?_)
 refine (wp_if hF (b := (!x1)) rfl (fun hb => ?_) (fun hb => ?_))
 · replace h := iteT hb h
   refine wp_seq (wp_pure [(4, I (-1))] hF (by kernel_rfl) fun fr hF => then_normal ?_)
   obtain rfl := Option.some.inj h
   exact wp_ret (then_ret (ret1 rfl hF rfl ⟨_, rfl, rfl, hM0.chg⟩))
 replace h := iteF hb h
 refine (wp_skip (then_normal ?_))
 refine wp_seq (wp_text' ?_)
 refine from_pure 2 [(8, I p1), (9, I p0)] hF (by kernel_rfl) fun fr hF => ?_
 obtain ⟨x2, hx2, h⟩ := bindE h
 refine s_shl rfl rfl hF rfl rfl hx2 fun fr hF => ?_
 refine from_pure 3 [(4, I (band p1 (w64 (x2 - 1))))] hF (by kernel_rfl) fun fr hF => ?_
 refine from_end rfl (then_normal ?_)
 obtain rfl := Option.some.inj h
 exact wp_ret (ret1 rfl hF rfl ⟨_, rfl, rfl, hM0.chg⟩)

theorem spec_SignedOf_ok (p0 : Int) (p1 : Int) {r : Int} (h : spec_SignedOf p0 p1 = some r) {w : World} :
   Calls Try.prog 82 [I p0, I p1].toArray w fun e w' => ∃ v, e = .returned v ∧ v = I r ∧ Chg Non w w' := by
 unfold spec_SignedOf at h
 have hs := Sep.nil w Non
 have hM0 : Mem w Non (fun k => (False) ∧ k < w.heap.size) w Non (fun k => (False) ∧ k < w.heap.size) := Mem.start (fun _ h => h.elim) (fun _ h => h.2) (fun _ h => h.elim)
 refine enter (N := 19) Try.func82 rfl Try.ntmps82 rfl fun fr hF => ?_
 refine wp_seq (wp_pure [(0, I p0), (1, I p1)] hF (by kernel_rfl) fun fr hF => then_normal ?_)
 refine wp_seq ?_
 refine wp_seq (wp_text' ?_)
 refine from_pure 2 [(0, I p0), (1, I p1), (5, I p0), (6, I p1)] hF (by kernel_rfl) fun fr hF => ?_
 obtain ⟨x1, hx1, h⟩ := bindE h
 refine s_call [I p0, I p1] Try.call80 rfl rfl hF rfl (spec_WordOk_ok p0 p1 hx1) fun v w1 fr hRes hF => ?_
 obtain ⟨rfl, hc⟩ := hRes
 have hs := hs.ext hc
 have hM0 := hM0.ext hc
 refine from_pure 1 [(0, I p0), (1, I p1), (8, .bool (!x1))] hF (by kernel_rfl) fun fr hF => ?_
 refine from_end rfl (then_normal ?_)
 refine (wp_if hF (b := (!x1)) rfl (fun hb => ?_) (fun hb => ?_))
 · replace h := iteT hb h
   refine wp_seq (wp_pure [(4, I 0)] hF (by kernel_rfl) fun fr hF => then_normal ?_)
   obtain rfl := Option.some.inj h
   exact wp_ret (then_ret (ret1 rfl hF rfl ⟨_, rfl, rfl, hM0.chg⟩))
 replace h := iteF hb h
 refine (wp_skip (then_normal ?_))
 refine wp_seq ?_
 refine wp_seq (wp_text' ?_)
 refine from_pure 3 [(0, I p0), (1, I p1), (9, I p1), (11, I (w64 (p0 - 1)))] hF (by kernel_rfl) fun fr hF => ?_
 obtain ⟨x2, hx2, h⟩ := bindE h
 refine s_shr rfl rfl hF rfl rfl hx2 fun fr hF => ?_
 refine from_pure 1 [(0, I p0), (1, I p1), (13, .bool (x2 == 1))] hF (by kernel_rfl) fun fr hF => ?_
 refine from_end rfl (then_normal ?_)
 refine (wp_if hF (b := (x2 == 1)) rfl (fun hb => ?_) (fun hb => ?_))
 · replace h := iteT hb h
   refine wp_seq (wp_text' ?_)
   refine from_pure 2 [(14, I p1), (15, I p0)] hF (by kernel_rfl) fun fr hF => ?_
   obtain ⟨x3, hx3, h⟩ := bindE h
   refine s_shl rfl rfl hF rfl rfl hx3 fun fr hF => ?_
   refine from_pure 2 [(4, I (w64 (p1 - x3)))] hF (by kernel_rfl) fun fr hF => ?_
   refine from_end rfl (then_normal ?_)
   obtain rfl := Option.some.inj h
   exact wp_ret (then_ret (ret1 rfl hF rfl ⟨_, rfl, rfl, hM0.chg⟩))
 replace h := iteF hb h
 refine (wp_skip (then_normal ?_))
 refine wp_seq (wp_pure [(4, I p1)] hF (by kernel_rfl) fun fr hF => then_normal ?_)
 obtain rfl := Option.some.inj h
 exact wp_ret (ret1 rfl hF rfl ⟨_, rfl, rfl, hM0.chg⟩)

theorem spec_l01Truth_ok (p0 : Bool) {r : Int} (h : spec_l01Truth p0 = some r) {w : World} :
   Calls Try.prog 83 [.bool p0].toArray w fun e w' => ∃ v, e = .returned v ∧ v = I r ∧ Chg Non w w' := by
 unfold spec_l01Truth at h
 have hs := Sep.nil w Non
 have hM0 : Mem w Non (fun k => (False) ∧ k < w.heap.size) w Non (fun k => (False) ∧ k < w.heap.size) := Mem.start (fun _ h => h.elim) (fun _ h => h.2) (fun _ h => h.elim)
 refine enter (N := 4) Try.func83 rfl Try.ntmps83 rfl fun fr hF => ?_
 refine wp_seq (wp_pure [(0, .bool p0)] hF (by kernel_rfl) fun fr hF => then_normal ?_)
 refine wp_seq ?_
 refine wp_seq (wp_pure [(3, .bool p0)] hF (by kernel_rfl) fun fr hF => then_normal ?_)
 refine (wp_if hF (b := p0) rfl (fun hb => ?_) (fun hb => ?_))
 · replace h := iteT hb h
   refine wp_seq (wp_pure [(2, I 1)] hF (by kernel_rfl) fun fr hF => then_normal ?_)
   obtain rfl := Option.some.inj h
   exact wp_ret (then_ret (ret1 rfl hF rfl ⟨_, rfl, rfl, hM0.chg⟩))
 replace h := iteF hb h
 refine (wp_skip (then_normal ?_))
 refine wp_seq (wp_pure [(2, I 0)] hF (by kernel_rfl) fun fr hF => then_normal ?_)
 obtain rfl := Option.some.inj h
 exact wp_ret (ret1 rfl hF rfl ⟨_, rfl, rfl, hM0.chg⟩)

theorem spec_ApplyBinary_ok (p0 : Int) (p1 : Int) (p2 : Int) (p3 : Int) {r : Int} (h : spec_ApplyBinary p0 p1 p2 p3 = some r) {w : World} :
   Calls Try.prog 41 [I p0, I p1, I p2, I p3].toArray w fun e w' => ∃ v, e = .returned v ∧ v = I r ∧ Chg Non w w' := by
 unfold spec_ApplyBinary at h
 have hs := Sep.nil w Non
 have hM0 : Mem w Non (fun k => (False) ∧ k < w.heap.size) w Non (fun k => (False) ∧ k < w.heap.size) := Mem.start (fun _ h => h.elim) (fun _ h => h.2) (fun _ h => h.elim)
 refine enter (N := 128) Try.func41 rfl Try.ntmps41 rfl fun fr hF => ?_
 refine wp_seq (wp_pure [(0, I p0), (1, I p1), (2, I p2), (3, I p3)] hF (by kernel_rfl) fun fr hF => then_normal ?_)
 refine wp_seq ?_
 obtain ⟨x1, hx1, h⟩ := bindE h
 obtain ⟨x2, hx2, h⟩ := bindE h
 refine wp_seq (region_b [] [true, true, false, true, true, true, true, false, true, true]
     [.eq (I p1), .eq (I p2), .eq (.bool x1), .eq (.bool (!x1)), .eq (.bool (!x1)), .eq (I p1), .eq (I p3), .eq (.bool x2), .eq (.bool (!x2)), .eq (.bool ((!x1) || (!x2)))]
     [(0, I p0), (1, I p1), (2, I p2), (3, I p3), (18, .bool ((!x1) || (!x2)))] mix hF (by kernel_rfl) (by kernel_rfl) (by kernel_rfl) ⟨Pd.mono_eq, Pd.mono_eq, trivial⟩ (fun hG => ⟨np_call [I p1, I p2] hG hF Try.call80 rfl rfl (fun w hC hg => (spec_WordOk_ok p1 p2 hx1).mono fun e w' ⟨v, he, hv, hc⟩ => ⟨v, he, hc, hv⟩), np_call [I p1, I p3] hG hF Try.call80 rfl rfl (fun w hC hg => (spec_WordOk_ok p1 p3 (iteF hg.2 hx2)).mono fun e w' ⟨v, he, hv, hc⟩ => ⟨v, he, hc, hv⟩), trivial⟩) (by kernel_rfl) fun fr w1 hF hE hc => then_normal ?_)
 have hs := hs.ext hc
 have hM0 := hM0.ext hc
 refine (wp_if hF (b := ((!x1) || (!x2))) rfl (fun hb => ?_) (fun hb => ?_))
 · replace h := iteT hb h
   refine wp_seq (wp_pure [(8, I (-1))] hF (by kernel_rfl) fun fr hF => then_normal ?_)
   obtain rfl := Option.some.inj h
   exact wp_ret (then_ret (ret1 rfl hF rfl ⟨_, rfl, rfl, hM0.chg⟩))
 replace h := iteF hb h
 refine (wp_skip (then_normal ?_))
 refine wp_seq ?_
 refine wp_seq (wp_pure [(1, I p1), (2, I p2), (3, I p3), (19, I p0)] hF (by kernel_rfl) fun fr hF => then_normal ?_)
 refine (wp_block ?_)
 refine wp_seq (wp_pure [(1, I p1), (2, I p2), (3, I p3), (19, I p0), (20, .bool (p0 == 3))] hF (by kernel_rfl) fun fr hF => then_normal ?_)
 refine (wp_if hF (b := (p0 == 3)) rfl (fun hb => ?_) (fun hb => ?_))
 · replace h := iteT hb h
   refine wp_seq (wp_text' ?_)
   refine from_pure 4 [(22, I p1), (25, I (w64 (p2 + p3)))] hF (by kernel_rfl) fun fr hF => ?_
   obtain ⟨x3, hx3, h⟩ := bindE h
   refine s_call [I p1, I (w64 (p2 + p3))] Try.call81 rfl rfl hF rfl (spec_WordOf_ok p1 (w64 (p2 + p3)) hx3) fun v w2 fr hRes hF => ?_
   obtain ⟨rfl, hc⟩ := hRes
   have hs := hs.ext hc
   have hM0 := hM0.ext hc
   refine from_pure 1 [(8, I x3)] hF (by kernel_rfl) fun fr hF => ?_
   refine from_end rfl (then_normal ?_)
   obtain rfl := Option.some.inj h
   exact wp_ret (blk_ret (then_ret (ret1 rfl hF rfl ⟨_, rfl, rfl, hM0.chg⟩)))
 replace h := iteF hb h
 refine wp_seq (wp_pure [(1, I p1), (2, I p2), (3, I p3), (19, I p0), (27, .bool (p0 == 4))] hF (by kernel_rfl) fun fr hF => then_normal ?_)
 refine (wp_if hF (b := (p0 == 4)) rfl (fun hb => ?_) (fun hb => ?_))
 · replace h := iteT hb h
   refine wp_seq (wp_text' ?_)
   refine from_pure 4 [(29, I p1), (32, I (w64 (p2 - p3)))] hF (by kernel_rfl) fun fr hF => ?_
   obtain ⟨x4, hx4, h⟩ := bindE h
   refine s_call [I p1, I (w64 (p2 - p3))] Try.call81 rfl rfl hF rfl (spec_WordOf_ok p1 (w64 (p2 - p3)) hx4) fun v w3 fr hRes hF => ?_
   obtain ⟨rfl, hc⟩ := hRes
   have hs := hs.ext hc
   have hM0 := hM0.ext hc
   refine from_pure 1 [(8, I x4)] hF (by kernel_rfl) fun fr hF => ?_
   refine from_end rfl (then_normal ?_)
   obtain rfl := Option.some.inj h
   exact wp_ret (blk_ret (then_ret (ret1 rfl hF rfl ⟨_, rfl, rfl, hM0.chg⟩)))
 replace h := iteF hb h
 refine wp_seq (wp_pure [(1, I p1), (2, I p2), (3, I p3), (19, I p0), (34, .bool (p0 == 5))] hF (by kernel_rfl) fun fr hF => then_normal ?_)
 refine (wp_if hF (b := (p0 == 5)) rfl (fun hb => ?_) (fun hb => ?_))
 · replace h := iteT hb h
   refine wp_seq (wp_text' ?_)
   refine from_pure 4 [(36, I p1), (39, I (w64 (p2 * p3)))] hF (by kernel_rfl) fun fr hF => ?_
   obtain ⟨x5, hx5, h⟩ := bindE h
   refine s_call [I p1, I (w64 (p2 * p3))] Try.call81 rfl rfl hF rfl (spec_WordOf_ok p1 (w64 (p2 * p3)) hx5) fun v w4 fr hRes hF => ?_
   obtain ⟨rfl, hc⟩ := hRes
   have hs := hs.ext hc
   have hM0 := hM0.ext hc
   refine from_pure 1 [(8, I x5)] hF (by kernel_rfl) fun fr hF => ?_
   refine from_end rfl (then_normal ?_)
   obtain rfl := Option.some.inj h
   exact wp_ret (blk_ret (then_ret (ret1 rfl hF rfl ⟨_, rfl, rfl, hM0.chg⟩)))
 replace h := iteF hb h
 refine wp_seq (wp_pure [(1, I p1), (2, I p2), (3, I p3), (19, I p0), (41, .bool (p0 == 6))] hF (by kernel_rfl) fun fr hF => then_normal ?_)
 refine (wp_if hF (b := (p0 == 6)) rfl (fun hb => ?_) (fun hb => ?_))
 · replace h := iteT hb h
   refine wp_seq ?_
   refine wp_seq (wp_pure [(1, I p1), (2, I p2), (3, I p3), (44, .bool (p3 == 0))] hF (by kernel_rfl) fun fr hF => then_normal ?_)
   refine (wp_if hF (b := (p3 == 0)) rfl (fun hb => ?_) (fun hb => ?_))
   · replace h := iteT hb h
     refine wp_seq (wp_text' ?_)
     refine from_pure 1 [(45, I p1)] hF (by kernel_rfl) fun fr hF => ?_
     obtain ⟨x6, hx6, h⟩ := bindE h
     refine s_shl rfl rfl hF rfl rfl hx6 fun fr hF => ?_
     refine from_pure 2 [(8, I (w64 (x6 - 1)))] hF (by kernel_rfl) fun fr hF => ?_
     refine from_end rfl (then_normal ?_)
     obtain rfl := Option.some.inj h
     exact wp_ret (then_ret (blk_ret (then_ret (ret1 rfl hF rfl ⟨_, rfl, rfl, hM0.chg⟩))))
   replace h := iteF hb h
   refine (wp_skip (then_normal ?_))
   refine wp_seq (wp_text' ?_)
   refine from_pure 2 [(48, I p2), (49, I p3)] hF (by kernel_rfl) fun fr hF => ?_
   obtain ⟨x7, hx7, h⟩ := bindE h
   refine s_quo rfl rfl hF rfl rfl hx7 fun fr hF => ?_
   refine from_pure 1 [(8, I x7)] hF (by kernel_rfl) fun fr hF => ?_
   refine from_end rfl (then_normal ?_)
   obtain rfl := Option.some.inj h
   exact wp_ret (blk_ret (then_ret (ret1 rfl hF rfl ⟨_, rfl, rfl, hM0.chg⟩)))
 replace h := iteF hb h
 refine wp_seq (wp_pure [(1, I p1), (2, I p2), (3, I p3), (19, I p0), (51, .bool (p0 == 7))] hF (by kernel_rfl) fun fr hF => then_normal ?_)
 refine (wp_if hF (b := (p0 == 7)) rfl (fun hb => ?_) (fun hb => ?_))
 · replace h := iteT hb h
   refine wp_seq ?_
   refine wp_seq (wp_pure [(2, I p2), (3, I p3), (54, .bool (p3 == 0))] hF (by kernel_rfl) fun fr hF => then_normal ?_)
   refine (wp_if hF (b := (p3 == 0)) rfl (fun hb => ?_) (fun hb => ?_))
   · replace h := iteT hb h
     refine wp_seq (wp_pure [(8, I p2)] hF (by kernel_rfl) fun fr hF => then_normal ?_)
     obtain rfl := Option.some.inj h
     exact wp_ret (then_ret (blk_ret (then_ret (ret1 rfl hF rfl ⟨_, rfl, rfl, hM0.chg⟩))))
   replace h := iteF hb h
   refine (wp_skip (then_normal ?_))
   refine wp_seq (wp_text' ?_)
   refine from_pure 2 [(56, I p2), (57, I p3)] hF (by kernel_rfl) fun fr hF => ?_
   obtain ⟨x8, hx8, h⟩ := bindE h
   refine s_rem rfl rfl hF rfl rfl hx8 fun fr hF => ?_
   refine from_pure 1 [(8, I x8)] hF (by kernel_rfl) fun fr hF => ?_
   refine from_end rfl (then_normal ?_)
   obtain rfl := Option.some.inj h
   exact wp_ret (blk_ret (then_ret (ret1 rfl hF rfl ⟨_, rfl, rfl, hM0.chg⟩)))
 replace h := iteF hb h
 refine wp_seq (wp_pure [(1, I p1), (2, I p2), (3, I p3), (19, I p0), (59, .bool (p0 == 8))] hF (by kernel_rfl) fun fr hF => then_normal ?_)
 refine (wp_if hF (b := (p0 == 8)) rfl (fun hb => ?_) (fun hb => ?_))
 · replace h := iteT hb h
   refine wp_seq (wp_pure [(8, I (band p2 p3))] hF (by kernel_rfl) fun fr hF => then_normal ?_)
   obtain rfl := Option.some.inj h
   exact wp_ret (blk_ret (then_ret (ret1 rfl hF rfl ⟨_, rfl, rfl, hM0.chg⟩)))
 replace h := iteF hb h
 refine wp_seq (wp_pure [(1, I p1), (2, I p2), (3, I p3), (19, I p0), (64, .bool (p0 == 9))] hF (by kernel_rfl) fun fr hF => then_normal ?_)
 refine (wp_if hF (b := (p0 == 9)) rfl (fun hb => ?_) (fun hb => ?_))
 · replace h := iteT hb h
   refine wp_seq (wp_pure [(8, I (bor p2 p3))] hF (by kernel_rfl) fun fr hF => then_normal ?_)
   obtain rfl := Option.some.inj h
   exact wp_ret (blk_ret (then_ret (ret1 rfl hF rfl ⟨_, rfl, rfl, hM0.chg⟩)))
 replace h := iteF hb h
 refine wp_seq (wp_pure [(1, I p1), (2, I p2), (3, I p3), (19, I p0), (69, .bool (p0 == 10))] hF (by kernel_rfl) fun fr hF => then_normal ?_)
 refine (wp_if hF (b := (p0 == 10)) rfl (fun hb => ?_) (fun hb => ?_))
 · replace h := iteT hb h
   refine wp_seq (wp_pure [(8, I (bxor p2 p3))] hF (by kernel_rfl) fun fr hF => then_normal ?_)
   obtain rfl := Option.some.inj h
   exact wp_ret (blk_ret (then_ret (ret1 rfl hF rfl ⟨_, rfl, rfl, hM0.chg⟩)))
 replace h := iteF hb h
 refine wp_seq (wp_pure [(1, I p1), (2, I p2), (3, I p3), (19, I p0), (74, .bool (p0 == 11))] hF (by kernel_rfl) fun fr hF => then_normal ?_)
 refine (wp_if hF (b := (p0 == 11)) rfl (fun hb => ?_) (fun hb => ?_))
 · replace h := iteT hb h
   refine wp_seq ?_
   refine wp_seq (wp_pure [(1, I p1), (2, I p2), (3, I p3), (78, .bool (decide (p3 ≥ p1)))] hF (by kernel_rfl) fun fr hF => then_normal ?_)
   refine (wp_if hF (b := (decide (p3 ≥ p1))) rfl (fun hb => ?_) (fun hb => ?_))
   · replace h := iteT hb h
     refine wp_seq (wp_pure [(8, I 0)] hF (by kernel_rfl) fun fr hF => then_normal ?_)
     obtain rfl := Option.some.inj h
     exact wp_ret (then_ret (blk_ret (then_ret (ret1 rfl hF rfl ⟨_, rfl, rfl, hM0.chg⟩))))
   replace h := iteF hb h
   refine (wp_skip (then_normal ?_))
   refine wp_seq (wp_text' ?_)
   refine from_pure 3 [(79, I p1), (80, I p2), (81, I p3)] hF (by kernel_rfl) fun fr hF => ?_
   obtain ⟨x9, hx9, h⟩ := bindE h
   refine s_shl rfl rfl hF rfl rfl hx9 fun fr hF => ?_
   obtain ⟨x10, hx10, h⟩ := bindE h
   refine s_call [I p1, I x9] Try.call81 rfl rfl hF rfl (spec_WordOf_ok p1 x9 hx10) fun v w5 fr hRes hF => ?_
   obtain ⟨rfl, hc⟩ := hRes
   have hs := hs.ext hc
   have hM0 := hM0.ext hc
   refine from_pure 1 [(8, I x10)] hF (by kernel_rfl) fun fr hF => ?_
   refine from_end rfl (then_normal ?_)
   obtain rfl := Option.some.inj h
   exact wp_ret (blk_ret (then_ret (ret1 rfl hF rfl ⟨_, rfl, rfl, hM0.chg⟩)))
 replace h := iteF hb h
 refine wp_seq (wp_pure [(1, I p1), (2, I p2), (3, I p3), (19, I p0), (84, .bool (p0 == 12))] hF (by kernel_rfl) fun fr hF => then_normal ?_)
 refine (wp_if hF (b := (p0 == 12)) rfl (fun hb => ?_) (fun hb => ?_))
 · replace h := iteT hb h
   refine wp_seq ?_
   refine wp_seq (wp_pure [(2, I p2), (3, I p3), (88, .bool (decide (p3 ≥ p1)))] hF (by kernel_rfl) fun fr hF => then_normal ?_)
   refine (wp_if hF (b := (decide (p3 ≥ p1))) rfl (fun hb => ?_) (fun hb => ?_))
   · replace h := iteT hb h
     refine wp_seq (wp_pure [(8, I 0)] hF (by kernel_rfl) fun fr hF => then_normal ?_)
     obtain rfl := Option.some.inj h
     exact wp_ret (then_ret (blk_ret (then_ret (ret1 rfl hF rfl ⟨_, rfl, rfl, hM0.chg⟩))))
   replace h := iteF hb h
   refine (wp_skip (then_normal ?_))
   refine wp_seq (wp_text' ?_)
   refine from_pure 2 [(89, I p2), (90, I p3)] hF (by kernel_rfl) fun fr hF => ?_
   obtain ⟨x11, hx11, h⟩ := bindE h
   refine s_shr rfl rfl hF rfl rfl hx11 fun fr hF => ?_
   refine from_pure 1 [(8, I x11)] hF (by kernel_rfl) fun fr hF => ?_
   refine from_end rfl (then_normal ?_)
   obtain rfl := Option.some.inj h
   exact wp_ret (blk_ret (then_ret (ret1 rfl hF rfl ⟨_, rfl, rfl, hM0.chg⟩)))
 replace h := iteF hb h
 refine wp_seq (wp_pure [(1, I p1), (2, I p2), (3, I p3), (19, I p0), (92, .bool (p0 == 13))] hF (by kernel_rfl) fun fr hF => then_normal ?_)
 refine (wp_if hF (b := (p0 == 13)) rfl (fun hb => ?_) (fun hb => ?_))
 · replace h := iteT hb h
   refine wp_seq ?_
   refine wp_seq (wp_pure [(1, I p1), (2, I p2), (3, I p3), (96, .bool (decide (p3 ≥ p1)))] hF (by kernel_rfl) fun fr hF => then_normal ?_)
   refine (wp_merge [(1, I p1), (2, I p2), (3, I (cond (decide (p3 ≥ p1)) (w64 (p1 - 1)) p3))] hF (b := (decide (p3 ≥ p1))) rfl (fun hb => ?_) (fun hb => ?_) fun fr hF => then_normal ?_)
   · exact wp_pure [(1, I p1), (2, I p2), (3, I (w64 (p1 - 1)))] hF (by kernel_rfl) fun fr hF => ⟨rfl, rfl, hF.eqs (by first | (simp only [hb]; done) | (simp only [hb]; rfl))⟩
   · exact wp_skip ⟨rfl, rfl, (hF.sub [(1, I p1), (2, I p2), (3, I p3)] (by kernel_rfl)).eqs (by first | (simp only [hb]; done) | (simp only [hb]; rfl))⟩
   refine wp_seq (wp_text' ?_)
   refine from_pure 3 [(3, I (cond (decide (p3 ≥ p1)) (w64 (p1 - 1)) p3)), (99, I p1), (100, I p1), (101, I p2)] hF (by kernel_rfl) fun fr hF => ?_
   obtain ⟨x12, hx12, h⟩ := bindE h
   refine s_call [I p1, I p2] Try.call82 rfl rfl hF rfl (spec_SignedOf_ok p1 p2 hx12) fun v w6 fr hRes hF => ?_
   obtain ⟨rfl, hc⟩ := hRes
   have hs := hs.ext hc
   have hM0 := hM0.ext hc
   refine from_pure 1 [(99, I p1), (102, I x12), (103, I (cond (decide (p3 ≥ p1)) (w64 (p1 - 1)) p3))] hF (by kernel_rfl) fun fr hF => ?_
   obtain ⟨x13, hx13, h⟩ := bindE h
   refine s_shr rfl rfl hF rfl rfl hx13 fun fr hF => ?_
   obtain ⟨x14, hx14, h⟩ := bindE h
   refine s_call [I p1, I x13] Try.call81 rfl rfl hF rfl (spec_WordOf_ok p1 x13 hx14) fun v w7 fr hRes hF => ?_
   obtain ⟨rfl, hc⟩ := hRes
   have hs := hs.ext hc
   have hM0 := hM0.ext hc
   refine from_pure 1 [(8, I x14)] hF (by kernel_rfl) fun fr hF => ?_
   refine from_end rfl (then_normal ?_)
   obtain rfl := Option.some.inj h
   exact wp_ret (blk_ret (then_ret (ret1 rfl hF rfl ⟨_, rfl, rfl, hM0.chg⟩)))
 replace h := iteF hb h
 refine wp_seq (wp_pure [(1, I p1), (2, I p2), (3, I p3), (19, I p0), (106, .bool (p0 == 14))] hF (by kernel_rfl) fun fr hF => then_normal ?_)
 refine (wp_if hF (b := (p0 == 14)) rfl (fun hb => ?_) (fun hb => ?_))
 · replace h := iteT hb h
   refine wp_seq (wp_text' ?_)
   refine from_pure 3 [(110, .bool (p2 == p3))] hF (by kernel_rfl) fun fr hF => ?_
   obtain ⟨x15, hx15, h⟩ := bindE h
   refine s_call [.bool (p2 == p3)] Try.call83 rfl rfl hF rfl (spec_l01Truth_ok (p2 == p3) hx15) fun v w8 fr hRes hF => ?_
   obtain ⟨rfl, hc⟩ := hRes
   have hs := hs.ext hc
   have hM0 := hM0.ext hc
   refine from_pure 1 [(8, I x15)] hF (by kernel_rfl) fun fr hF => ?_
   refine from_end rfl (then_normal ?_)
   obtain rfl := Option.some.inj h
   exact wp_ret (blk_ret (then_ret (ret1 rfl hF rfl ⟨_, rfl, rfl, hM0.chg⟩)))
 replace h := iteF hb h
 refine wp_seq (wp_pure [(1, I p1), (2, I p2), (3, I p3), (19, I p0), (112, .bool (p0 == 15))] hF (by kernel_rfl) fun fr hF => then_normal ?_)
 refine (wp_if hF (b := (p0 == 15)) rfl (fun hb => ?_) (fun hb => ?_))
 · replace h := iteT hb h
   refine wp_seq (wp_text' ?_)
   refine from_pure 3 [(116, .bool (decide (p2 < p3)))] hF (by kernel_rfl) fun fr hF => ?_
   obtain ⟨x16, hx16, h⟩ := bindE h
   refine s_call [.bool (decide (p2 < p3))] Try.call83 rfl rfl hF rfl (spec_l01Truth_ok (decide (p2 < p3)) hx16) fun v w9 fr hRes hF => ?_
   obtain ⟨rfl, hc⟩ := hRes
   have hs := hs.ext hc
   have hM0 := hM0.ext hc
   refine from_pure 1 [(8, I x16)] hF (by kernel_rfl) fun fr hF => ?_
   refine from_end rfl (then_normal ?_)
   obtain rfl := Option.some.inj h
   exact wp_ret (blk_ret (then_ret (ret1 rfl hF rfl ⟨_, rfl, rfl, hM0.chg⟩)))
 replace h := iteF hb h
 refine wp_seq (wp_pure [(1, I p1), (2, I p2), (3, I p3), (118, .bool (p0 == 16))] hF (by kernel_rfl) fun fr hF => then_normal ?_)
 refine (wp_if hF (b := (p0 == 16)) rfl (fun hb => ?_) (fun hb => ?_))
 · replace h := iteT hb h
   refine wp_seq (wp_text' ?_)
   refine from_pure 2 [(1, I p1), (3, I p3), (120, I p1), (121, I p2)] hF (by kernel_rfl) fun fr hF => ?_
   obtain ⟨x17, hx17, h⟩ := bindE h
   refine s_call [I p1, I p2] Try.call82 rfl rfl hF rfl (spec_SignedOf_ok p1 p2 hx17) fun v w10 fr hRes hF => ?_
   obtain ⟨rfl, hc⟩ := hRes
   have hs := hs.ext hc
   have hM0 := hM0.ext hc
   refine from_pure 2 [(122, I x17), (123, I p1), (124, I p3)] hF (by kernel_rfl) fun fr hF => ?_
   obtain ⟨x18, hx18, h⟩ := bindE h
   refine s_call [I p1, I p3] Try.call82 rfl rfl hF rfl (spec_SignedOf_ok p1 p3 hx18) fun v w11 fr hRes hF => ?_
   obtain ⟨rfl, hc⟩ := hRes
   have hs := hs.ext hc
   have hM0 := hM0.ext hc
   refine from_pure 1 [(126, .bool (decide (x17 < x18)))] hF (by kernel_rfl) fun fr hF => ?_
   obtain ⟨x19, hx19, h⟩ := bindE h
   refine s_call [.bool (decide (x17 < x18))] Try.call83 rfl rfl hF rfl (spec_l01Truth_ok (decide (x17 < x18)) hx19) fun v w12 fr hRes hF => ?_
   obtain ⟨rfl, hc⟩ := hRes
   have hs := hs.ext hc
   have hM0 := hM0.ext hc
   refine from_pure 1 [(8, I x19)] hF (by kernel_rfl) fun fr hF => ?_
   refine from_end rfl (then_normal ?_)
   obtain rfl := Option.some.inj h
   exact wp_ret (blk_ret (then_ret (ret1 rfl hF rfl ⟨_, rfl, rfl, hM0.chg⟩)))
 replace h := iteF hb h
 refine (wp_skip ?_)
 refine blk_normal (then_normal ?_)
 refine wp_seq (wp_pure [(8, I (-1))] hF (by kernel_rfl) fun fr hF => then_normal ?_)
 obtain rfl := Option.some.inj h
 exact wp_ret (ret1 rfl hF rfl ⟨_, rfl, rfl, hM0.chg⟩)
end Go.Proofs.Ytckeihpjfeonmaa
