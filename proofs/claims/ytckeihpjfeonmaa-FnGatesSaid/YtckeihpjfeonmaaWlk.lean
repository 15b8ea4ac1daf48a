/- Printed by gen2.py: the walks. -/
import Derived.Test.YtckeihpjfeonmaaWlkA
set_option linter.unusedVariables false
set_option maxRecDepth 100000
namespace Go.Proofs.Ytckeihpjfeonmaa
open Go.GL Go.Maps Go.WideMaps
theorem laws_word_ok (n : Nat) (p0 : List Bool) (p1 : List Int) {r : Int} (h : laws_word n p0 p1 = some r) {w : World} {G0 : Nat → Prop} {va0 : Value} (ra0 : RV w G0 va0 p0) {G1 : Nat → Prop} {va1 : Value} (ra1 : RV w G1 va1 p1) :
   Calls Try.prog 38 [va0, va1].toArray w fun e w' => ∃ v, e = .returned v ∧ v = I r ∧ Chg Non w w' := by
 unfold laws_word at h
 have hs := Sep.nil w Non
 have hM0 : Mem w Non (fun k => (G0 k ∨ G1 k) ∧ k < w.heap.size) w Non (fun k => (G0 k ∨ G1 k) ∧ k < w.heap.size) := Mem.start (fun _ h => h.elim) (fun _ h => h.2) (fun _ h => h.elim)
 have ra0 := ra0.sub (F' := (fun k => (G0 k ∨ G1 k) ∧ k < w.heap.size)) (fun k hk h => ⟨.inl h, hk⟩)
 obtain ⟨a1, c1, rfl, -⟩ := ra0.slice
 have ra1 := ra1.sub (F' := (fun k => (G0 k ∨ G1 k) ∧ k < w.heap.size)) (fun k hk h => ⟨.inr (h), hk⟩)
 obtain ⟨a2, c2, rfl, -⟩ := ra1.slice
 refine enter (N := 43) Try.func38 rfl Try.ntmps38 rfl fun fr hF => ?_
 refine wp_seq (wp_pure [(0, L a1 p0 c1), (1, L a2 p1 c2)] hF (by kernel_rfl) fun fr hF => then_normal ?_)
 refine wp_seq (wp_pure [(0, L a1 p0 c1), (1, L a2 p1 c2), (5, I 0)] hF (by kernel_rfl) fun fr hF => then_normal ?_)
 refine wp_seq ?_
 refine wp_seq (wp_pure [(0, L a1 p0 c1), (5, I 0), (9, L a2 p1 c2), (10, I (len p1)), (11, I 0)] hF (by kernel_rfl) fun fr hF => then_normal ?_)
 obtain ⟨rl1, hit1, h⟩ := bindE h
 have hk1 := h
 refine (wp_cut (M := fun fr w' => ∃ s, rl1 = .inl s ∧ ∃ S2 F2, FrS 43 [(5, I s)] fr ∧ Mem w Non (fun k => (G0 k ∨ G1 k) ∧ k < w.heap.size) w' S2 F2 ∧ Sep [] w' S2) (wp_block (wp_iter (Inv := fun s1 fr w' => ∃ S1 F1, FrS 43 [(0, L a1 p0 c1), (5, I s1.1), (9, L a2 p1 c2), (10, I (len p1)), (11, I s1.2)] fr ∧ Mem w Non (fun k => (G0 k ∨ G1 k) ∧ k < w.heap.size) w' S1 F1 ∧ Sep [] w' S1) hit1 ⟨Non, _, hF.sub _ (by kernel_rfl), (Mem.start hM0.bd hM0.bdF hM0.dj), hs⟩ fun s1 q1 fr w1i hI h hr1 => ?_)) fun fr w1o hM => ?_)
 · obtain ⟨S1, F1, hF, hM1, hs⟩ := hI
   have ra0 := ra0.mem hM1
   have ra1 := ra1.mem hM1
   refine wp_seq (wp_pure [(0, L a1 p0 c1), (5, I s1.1), (9, L a2 p1 c2), (10, I (len p1)), (11, I s1.2), (12, .bool (decide (s1.2 < (len p1))))] hF (by kernel_rfl) fun fr hF => then_normal ?_)
   refine wp_seq (wp_if hF (b := (decide (s1.2 < (len p1)))) rfl (fun hb => ?_) (fun hb => ?_))
   · replace h := iteT hb h
     refine (wp_skip (then_normal ?_))
     refine wp_seq (wp_block ?_)
     refine wp_seq (wp_text' ?_)
     refine from_pure 1 [(0, L a1 p0 c1), (5, I s1.1), (9, L a2 p1 c2), (10, I (len p1)), (11, I s1.2), (13, I s1.2)] hF (by kernel_rfl) fun fr hF => ?_
     obtain ⟨x1, hx1, h⟩ := bindE h
     refine s_elemF (z := x1) (I x1) ty3 Try.underlying37 rfl rfl rfl rfl rfl hF rfl (ra1) rfl (get?_nn hx1) (get?_at hx1) rfl fun p fr hF => ?_
     refine from_pure 2 [(0, L a1 p0 c1), (5, I s1.1), (6, I s1.2), (7, I x1), (9, L a2 p1 c2), (10, I (len p1)), (11, I s1.2)] hF (by kernel_rfl) fun fr hF => ?_
     refine from_end rfl (then_normal ?_)
     refine wp_seq (wp_pure [(0, L a1 p0 c1), (5, I s1.1), (6, I s1.2), (7, I x1), (8, I x1), (9, L a2 p1 c2), (10, I (len p1)), (11, I s1.2)] hF (by kernel_rfl) fun fr hF => then_normal ?_)
     refine wp_seq ?_
     refine wp_seq (wp_pure [(0, L a1 p0 c1), (5, I s1.1), (6, I s1.2), (7, I x1), (8, I x1), (9, L a2 p1 c2), (10, I (len p1)), (11, I s1.2), (18, .bool (decide (x1 < 0)))] hF (by kernel_rfl) fun fr hF => then_normal ?_)
     refine (wp_merge [(0, L a1 p0 c1), (5, I s1.1), (6, I s1.2), (7, I x1), (8, I (cond (decide (x1 < 0)) (w64 (0 - x1)) x1)), (9, L a2 p1 c2), (10, I (len p1)), (11, I s1.2)] hF (b := (decide (x1 < 0))) rfl (fun hb => ?_) (fun hb => ?_) fun fr hF => then_normal ?_)
     · exact wp_pure [(0, L a1 p0 c1), (5, I s1.1), (6, I s1.2), (7, I x1), (8, I (w64 (0 - x1))), (9, L a2 p1 c2), (10, I (len p1)), (11, I s1.2)] hF (by kernel_rfl) fun fr hF => ⟨rfl, rfl, hF.eqs (by first | (simp only [hb]; done) | (simp only [hb]; rfl))⟩
     · exact wp_skip ⟨rfl, rfl, (hF.sub [(0, L a1 p0 c1), (5, I s1.1), (6, I s1.2), (7, I x1), (8, I x1), (9, L a2 p1 c2), (10, I (len p1)), (11, I s1.2)] (by kernel_rfl)).eqs (by first | (simp only [hb]; done) | (simp only [hb]; rfl))⟩
     refine wp_seq ?_
     refine wp_seq (region_b [] [true, true, true, true, true, true, true, true]
         [.eq (I (cond (decide (x1 < 0)) (w64 (0 - x1)) x1)), .eq (.bool (decide ((cond (decide (x1 < 0)) (w64 (0 - x1)) x1) < 1))), .eq (.bool (decide ((cond (decide (x1 < 0)) (w64 (0 - x1)) x1) < 1))), .eq (I (cond (decide (x1 < 0)) (w64 (0 - x1)) x1)), .eq (L a1 p0 c1), .eq (I (len p0)), .eq (.bool (decide ((cond (decide (x1 < 0)) (w64 (0 - x1)) x1) > (len p0)))), .eq (.bool ((decide ((cond (decide (x1 < 0)) (w64 (0 - x1)) x1) < 1)) || (decide ((cond (decide (x1 < 0)) (w64 (0 - x1)) x1) > (len p0)))))]
         [(0, L a1 p0 c1), (5, I s1.1), (6, I s1.2), (7, I x1), (8, I (cond (decide (x1 < 0)) (w64 (0 - x1)) x1)), (9, L a2 p1 c2), (10, I (len p1)), (11, I s1.2), (28, .bool ((decide ((cond (decide (x1 < 0)) (w64 (0 - x1)) x1) < 1)) || (decide ((cond (decide (x1 < 0)) (w64 (0 - x1)) x1) > (len p0)))))] mix hF (by kernel_rfl) (by kernel_rfl) (by kernel_rfl) trivial (fun hG => trivial) (by kernel_rfl) fun fr w1 hF hE hc => then_normal ?_)
     have ra0 := ra0.ext hc
     have ra1 := ra1.ext hc
     have hs := hs.ext hc
     have hM1 := hM1.ext hc
     refine (wp_if hF (b := ((decide ((cond (decide (x1 < 0)) (w64 (0 - x1)) x1) < 1)) || (decide ((cond (decide (x1 < 0)) (w64 (0 - x1)) x1) > (len p0))))) rfl (fun hb => ?_) (fun hb => ?_))
     · replace h := iteT hb h
       refine wp_seq (wp_pure [(4, I (-1))] hF (by kernel_rfl) fun fr hF => then_normal ?_)
       obtain rfl := hr1 _ (Option.some.inj h).symm
       obtain rfl := Option.some.inj hk1
       exact wp_ret (then_ret (blk_ret (then_ret (then_ret (blk_ret (then_ret (ret1 rfl hF rfl ⟨_, rfl, rfl, (hM0.trans hM1).chg⟩)))))))
     replace h := iteF hb h
     refine (wp_skip (then_normal ?_))
     refine wp_seq (wp_text' ?_)
     refine from_pure 3 [(0, L a1 p0 c1), (5, I s1.1), (6, I s1.2), (7, I x1), (9, L a2 p1 c2), (10, I (len p1)), (11, I s1.2), (29, L a1 p0 c1), (31, I (w64 ((cond (decide (x1 < 0)) (w64 (0 - x1)) x1) - 1)))] hF (by kernel_rfl) fun fr hF => ?_
     obtain ⟨x2, hx2, h⟩ := bindE h
     refine s_elemF (z := x2) (.bool x2) ty4 Try.underlying51 rfl rfl rfl rfl rfl hF rfl (ra0) rfl (get?_nn hx2) (get?_at hx2) rfl fun p fr hF => ?_
     refine from_pure 3 [(0, L a1 p0 c1), (5, I s1.1), (6, I s1.2), (9, L a2 p1 c2), (10, I (len p1)), (11, I s1.2), (36, .bool (x2 == (decide (x1 > 0))))] hF (by kernel_rfl) fun fr hF => ?_
     refine from_end rfl (then_normal ?_)
     refine (wp_if hF (b := (x2 == (decide (x1 > 0)))) rfl (fun hb => ?_) (fun hb => ?_))
     · replace h := iteT hb h
       refine (wp_text' ?_)
       refine from_pure 2 [(0, L a1 p0 c1), (9, L a2 p1 c2), (10, I (len p1)), (11, I s1.2), (37, I s1.1), (38, I s1.2)] hF (by kernel_rfl) fun fr hF => ?_
       obtain ⟨x3, hx3, h⟩ := bindE h
       refine s_shl rfl rfl hF rfl rfl hx3 fun fr hF => ?_
       refine from_pure 2 [(0, L a1 p0 c1), (5, I (w64 (s1.1 + x3))), (9, L a2 p1 c2), (10, I (len p1)), (11, I s1.2)] hF (by kernel_rfl) fun fr hF => ?_
       refine from_end rfl ?_
       refine blk_normal (then_normal ?_)
       refine (wp_pure [(0, L a1 p0 c1), (5, I (w64 (s1.1 + x3))), (9, L a2 p1 c2), (10, I (len p1)), (11, I (w64 (s1.2 + 1)))] hF (by kernel_rfl) fun fr hF => then_normal ?_)
       exact ⟨_, (Option.some.inj h).symm, S1, _, hF.sub _ (by kernel_rfl), hM1, hs⟩
     replace h := iteF hb h
     refine (wp_skip ?_)
     refine blk_normal (then_normal ?_)
     refine (wp_pure [(0, L a1 p0 c1), (5, I s1.1), (9, L a2 p1 c2), (10, I (len p1)), (11, I (w64 (s1.2 + 1)))] hF (by kernel_rfl) fun fr hF => then_normal ?_)
     exact ⟨_, (Option.some.inj h).symm, S1, _, hF.sub _ (by kernel_rfl), hM1, hs⟩
   replace h := iteF hb h
   refine (wp_exit (then_exit (then_exit (blk_exit_eq ?_))))
   obtain rfl := hr1 _ (Option.some.inj h).symm
   exact then_normal ⟨_, rfl, S1, _, hF.sub _ (by kernel_rfl), hM1, hs⟩
 · obtain ⟨s1r, rfl, hM⟩ := hM
   obtain ⟨S2, F2, hF, hMx, hs⟩ := hM
   have hM0 := hM0.trans hMx
   refine wp_seq (wp_pure [(4, I s1r)] hF (by kernel_rfl) fun fr hF => then_normal ?_)
   obtain rfl := Option.some.inj h
   exact wp_ret (ret1 rfl hF rfl ⟨_, rfl, rfl, hM0.chg⟩)

theorem laws_FnGates_ok (n : Nat) (p0 : List Byt) {r : Bool} (h : laws_FnGates n p0 = some r) {w : World} {G0 : Nat → Prop} {va0 : Value} (ra0 : RV w G0 va0 p0) :
   Calls Try.prog 9 [va0].toArray w fun e w' => ∃ v, e = .returned v ∧ v = .bool r ∧ Chg Non w w' := by
 unfold laws_FnGates at h
 have hs := Sep.nil w Non
 have hM0 : Mem w Non (fun k => (G0 k) ∧ k < w.heap.size) w Non (fun k => (G0 k) ∧ k < w.heap.size) := Mem.start (fun _ h => h.elim) (fun _ h => h.2) (fun _ h => h.elim)
 have ra0 := ra0.sub (F' := (fun k => (G0 k) ∧ k < w.heap.size)) (fun k hk h => ⟨h, hk⟩)
 obtain ⟨a1, c1, rfl, -⟩ := ra0.slice
 refine enter (N := 183) Try.func9 rfl Try.ntmps9 rfl fun fr hF => ?_
 refine wp_seq (wp_pure [(0, L a1 p0 c1)] hF (by kernel_rfl) fun fr hF => then_normal ?_)
 refine wp_seq ?_
 refine wp_seq (wp_pure [(0, L a1 p0 c1), (29, .bool (decide ((len p0) > 1048576)))] hF (by kernel_rfl) fun fr hF => then_normal ?_)
 refine (wp_if hF (b := (decide ((len p0) > 1048576))) rfl (fun hb => ?_) (fun hb => ?_))
 · replace h := iteT hb h
   refine wp_seq (wp_pure [(2, .bool true)] hF (by kernel_rfl) fun fr hF => then_normal ?_)
   obtain rfl := Option.some.inj h
   exact wp_ret (then_ret (ret1 rfl hF rfl ⟨_, rfl, rfl, hM0.chg⟩))
 replace h := iteF hb h
 refine (wp_skip (then_normal ?_))
 refine wp_seq (wp_text' ?_)
 refine from_pure 1 [(0, L a1 p0 c1), (30, L a1 p0 c1)] hF (by kernel_rfl) fun fr hF => ?_
 obtain ⟨x1, hx1, h⟩ := bindE h
 refine s_call [L a1 p0 c1, I 0] Try.call33 rfl rfl hF rfl (spec_GiveCircuit_ok n p0 0 hx1 (ra0)) fun v w1 fr hRes hF => ?_
 obtain ⟨a2, c2, rfl, _, hp, hs2⟩ := hRes
 obtain ⟨S1, hp, hs⟩ := hs.got hM0 hp hs2
 have ra0 := ra0.stp hM0 hp
 have hM0 := hM0.stp hp
 have hs : Sep [sl59 (L a2 x1.Gates c2) x1.Gates] w1 S1 := hs
 refine q_alloc (z := .agg #[I 0, L none ([] : List D.Gate) 0]) hs hM0 [I 0, L none ([] : List D.Gate) 0] rfl rfl hF (by kernel_rfl) rfl fun b1 w2 S2 fr hs hp hF => ?_
 have ra0 := ra0.stp hM0 hp
 have hM0 := hM0.stp hp
 have hs : Sep [BX b1 28 [I 0, L none ([] : List D.Gate) 0], sl59 (L a2 x1.Gates c2) x1.Gates] w2 S2 := hs
 refine q_storeBoxS 0 hs hM0 rfl [I x1.Inputs, L a2 x1.Gates c2] rfl hF rfl rfl (by kernel_rfl) rfl rfl rfl fun w3 S3 hs hp hF => ?_
 have ra0 := ra0.stp hM0 hp
 have hM0 := hM0.stp hp
 have hs : Sep [BX b1 28 [I x1.Inputs, L a2 x1.Gates c2], sl59 (L a2 x1.Gates c2) x1.Gates] w3 S3 := hs
 refine from_end rfl (then_normal ?_)
 refine wp_seq (wp_text' ?_)
 refine from_pure 1 [(0, L a1 p0 c1), (3, B b1 0), (32, L a1 p0 c1)] hF (by kernel_rfl) fun fr hF => ?_
 refine s_loadBoxS ty28 rfl rfl hF rfl (hs.bx 0 rfl) rfl rfl fun fr hF => ?_
 obtain ⟨x2, hx2, h⟩ := bindE h
 refine s_call [L a1 p0 c1, I 40, .agg #[I x1.Inputs, L a2 x1.Gates c2]] Try.call34 rfl rfl hF rfl (spec_GiveLit_ok n p0 40 x1 hx2 (ra0) (RV.mk_Circuit x1 (RV.any (hs.rv 1 rfl)))) fun v w4 fr hRes hF => ?_
 obtain ⟨rfl, hc⟩ := hRes
 have ra0 := ra0.ext hc
 have hs := hs.ext hc
 have hM0 := hM0.ext hc
 refine from_pure 1 [(0, L a1 p0 c1), (3, B b1 0), (4, I x2)] hF (by kernel_rfl) fun fr hF => ?_
 refine from_end rfl (then_normal ?_)
 refine wp_seq (wp_text' ?_)
 refine from_pure 1 [(0, L a1 p0 c1), (3, B b1 0), (4, I x2), (35, L a1 p0 c1)] hF (by kernel_rfl) fun fr hF => ?_
 refine s_loadBoxS ty28 rfl rfl hF rfl (hs.bx 0 rfl) rfl rfl fun fr hF => ?_
 obtain ⟨x3, hx3, h⟩ := bindE h
 refine s_call [L a1 p0 c1, I 42, .agg #[I x1.Inputs, L a2 x1.Gates c2]] Try.call34 rfl rfl hF rfl (spec_GiveLit_ok n p0 42 x1 hx3 (ra0) (RV.mk_Circuit x1 (RV.any (hs.rv 1 rfl)))) fun v w5 fr hRes hF => ?_
 obtain ⟨rfl, hc⟩ := hRes
 have ra0 := ra0.ext hc
 have hs := hs.ext hc
 have hM0 := hM0.ext hc
 refine from_pure 1 [(0, L a1 p0 c1), (3, B b1 0), (4, I x2), (5, I x3)] hF (by kernel_rfl) fun fr hF => ?_
 refine from_end rfl (then_normal ?_)
 refine wp_seq (wp_text' ?_)
 refine from_pure 1 [(3, B b1 0), (4, I x2), (5, I x3), (38, L a1 p0 c1)] hF (by kernel_rfl) fun fr hF => ?_
 refine s_loadBoxS ty28 rfl rfl hF rfl (hs.bx 0 rfl) rfl rfl fun fr hF => ?_
 obtain ⟨x4, hx4, h⟩ := bindE h
 refine s_call [L a1 p0 c1, I 44, .agg #[I x1.Inputs, L a2 x1.Gates c2]] Try.call34 rfl rfl hF rfl (spec_GiveLit_ok n p0 44 x1 hx4 (ra0) (RV.mk_Circuit x1 (RV.any (hs.rv 1 rfl)))) fun v w6 fr hRes hF => ?_
 obtain ⟨rfl, hc⟩ := hRes
 have ra0 := ra0.ext hc
 have hs := hs.ext hc
 have hM0 := hM0.ext hc
 refine from_pure 1 [(3, B b1 0), (4, I x2), (5, I x3), (6, I x4)] hF (by kernel_rfl) fun fr hF => ?_
 refine from_end rfl (then_normal ?_)
 refine wp_seq (wp_text' ?_)
 refine s_loadBoxS ty28 rfl rfl hF rfl (hs.bx 0 rfl) rfl rfl fun fr hF => ?_
 refine from_pure 2 [(3, B b1 0), (4, I x2), (5, I x3), (6, I x4), (42, .agg #[I x1.Inputs, L a2 x1.Gates c2]), (43, I x2), (44, I x3)] hF (by kernel_rfl) fun fr hF => ?_
 obtain ⟨x5, hx5, h⟩ := bindE h
 refine s_call [.agg #[I x1.Inputs, L a2 x1.Gates c2], I x2, I x3] Try.call15 rfl rfl hF rfl (impl_AndOf_ok n x1 x2 x3 hx5 (RV.mk_Circuit x1 (RV.any (hs.rv 1 rfl)))) fun v w7 fr hRes hF => ?_
 obtain ⟨a3, c3, rfl, _, hp, hs2⟩ := hRes
 obtain ⟨S4, hp, hs⟩ := hs.got hM0 hp hs2
 have hM0 := hM0.stp hp
 have hs : Sep [sl59 (L a3 x5.1.Gates c3) x5.1.Gates, BX b1 28 [I x1.Inputs, L a2 x1.Gates c2], sl59 (L a2 x1.Gates c2) x1.Gates] w7 S4 := hs
 refine from_pure 4 [(3, B b1 0), (4, I x2), (5, I x3), (6, I x4), (46, .agg #[I x5.1.Inputs, L a3 x5.1.Gates c3]), (47, I x5.2.1), (48, .bool x5.2.2)] hF (by kernel_rfl) fun fr hF => ?_
 refine q_alloc (z := .agg #[I 0, L none ([] : List D.Gate) 0]) hs hM0 [I 0, L none ([] : List D.Gate) 0] rfl rfl hF (by kernel_rfl) rfl fun b2 w8 S5 fr hs hp hF => ?_
 have hM0 := hM0.stp hp
 have hs : Sep [BX b2 28 [I 0, L none ([] : List D.Gate) 0], sl59 (L a3 x5.1.Gates c3) x5.1.Gates, BX b1 28 [I x1.Inputs, L a2 x1.Gates c2], sl59 (L a2 x1.Gates c2) x1.Gates] w8 S5 := hs
 refine q_storeBoxS 0 hs hM0 rfl [I x5.1.Inputs, L a3 x5.1.Gates c3] rfl hF rfl rfl (by kernel_rfl) rfl rfl rfl fun w9 S6 hs hp hF => ?_
 have hM0 := hM0.stp hp
 have hs : Sep [BX b2 28 [I x5.1.Inputs, L a3 x5.1.Gates c3], sl59 (L a3 x5.1.Gates c3) x5.1.Gates, BX b1 28 [I x1.Inputs, L a2 x1.Gates c2], sl59 (L a2 x1.Gates c2) x1.Gates] w9 S6 := hs
 refine from_pure 2 [(3, B b1 0), (4, I x2), (5, I x3), (6, I x4), (7, B b2 0), (8, I x5.2.1), (9, .bool x5.2.2)] hF (by kernel_rfl) fun fr hF => ?_
 refine from_end rfl (then_normal ?_)
 refine wp_seq (wp_text' ?_)
 refine s_loadBoxS ty28 rfl rfl hF rfl (hs.bx 0 rfl) rfl rfl fun fr hF => ?_
 have hs : Sep [sl59 (L a3 x5.1.Gates c3) x5.1.Gates, BX b1 28 [I x1.Inputs, L a2 x1.Gates c2], sl59 (L a2 x1.Gates c2) x1.Gates] w9 S6 := Sep.pick [1, 2, 3] hs (by decide) rfl
 refine from_pure 2 [(3, B b1 0), (4, I x2), (5, I x3), (6, I x4), (8, I x5.2.1), (9, .bool x5.2.2), (50, .agg #[I x5.1.Inputs, L a3 x5.1.Gates c3]), (51, I x2), (52, I x3)] hF (by kernel_rfl) fun fr hF => ?_
 obtain ⟨x6, hx6, h⟩ := bindE h
 refine s_call [.agg #[I x5.1.Inputs, L a3 x5.1.Gates c3], I x2, I x3] Try.call20 rfl rfl hF rfl (impl_OrOf_ok n x5.1 x2 x3 hx6 (RV.mk_Circuit x5.1 (RV.any (hs.rv 0 rfl)))) fun v w10 fr hRes hF => ?_
 obtain ⟨a4, c4, rfl, _, hp, hs2⟩ := hRes
 obtain ⟨S7, hp, hs⟩ := hs.got hM0 hp hs2
 have hM0 := hM0.stp hp
 have hs : Sep [sl59 (L a4 x6.1.Gates c4) x6.1.Gates, sl59 (L a3 x5.1.Gates c3) x5.1.Gates, BX b1 28 [I x1.Inputs, L a2 x1.Gates c2], sl59 (L a2 x1.Gates c2) x1.Gates] w10 S7 := hs
 have hs : Sep [sl59 (L a4 x6.1.Gates c4) x6.1.Gates, BX b1 28 [I x1.Inputs, L a2 x1.Gates c2], sl59 (L a2 x1.Gates c2) x1.Gates] w10 S7 := Sep.pick [0, 2, 3] hs (by decide) rfl
 refine from_pure 4 [(3, B b1 0), (4, I x2), (5, I x3), (6, I x4), (8, I x5.2.1), (9, .bool x5.2.2), (54, .agg #[I x6.1.Inputs, L a4 x6.1.Gates c4]), (55, I x6.2.1), (56, .bool x6.2.2)] hF (by kernel_rfl) fun fr hF => ?_
 refine q_alloc (z := .agg #[I 0, L none ([] : List D.Gate) 0]) hs hM0 [I 0, L none ([] : List D.Gate) 0] rfl rfl hF (by kernel_rfl) rfl fun b3 w11 S8 fr hs hp hF => ?_
 have hM0 := hM0.stp hp
 have hs : Sep [BX b3 28 [I 0, L none ([] : List D.Gate) 0], sl59 (L a4 x6.1.Gates c4) x6.1.Gates, BX b1 28 [I x1.Inputs, L a2 x1.Gates c2], sl59 (L a2 x1.Gates c2) x1.Gates] w11 S8 := hs
 refine q_storeBoxS 0 hs hM0 rfl [I x6.1.Inputs, L a4 x6.1.Gates c4] rfl hF rfl rfl (by kernel_rfl) rfl rfl rfl fun w12 S9 hs hp hF => ?_
 have hM0 := hM0.stp hp
 have hs : Sep [BX b3 28 [I x6.1.Inputs, L a4 x6.1.Gates c4], sl59 (L a4 x6.1.Gates c4) x6.1.Gates, BX b1 28 [I x1.Inputs, L a2 x1.Gates c2], sl59 (L a2 x1.Gates c2) x1.Gates] w12 S9 := hs
 refine from_pure 2 [(3, B b1 0), (4, I x2), (5, I x3), (6, I x4), (8, I x5.2.1), (9, .bool x5.2.2), (10, B b3 0), (11, I x6.2.1), (12, .bool x6.2.2)] hF (by kernel_rfl) fun fr hF => ?_
 refine from_end rfl (then_normal ?_)
 refine wp_seq (wp_text' ?_)
 refine s_loadBoxS ty28 rfl rfl hF rfl (hs.bx 0 rfl) rfl rfl fun fr hF => ?_
 have hs : Sep [sl59 (L a4 x6.1.Gates c4) x6.1.Gates, BX b1 28 [I x1.Inputs, L a2 x1.Gates c2], sl59 (L a2 x1.Gates c2) x1.Gates] w12 S9 := Sep.pick [1, 2, 3] hs (by decide) rfl
 refine from_pure 2 [(3, B b1 0), (4, I x2), (5, I x3), (6, I x4), (8, I x5.2.1), (9, .bool x5.2.2), (11, I x6.2.1), (12, .bool x6.2.2), (58, .agg #[I x6.1.Inputs, L a4 x6.1.Gates c4]), (59, I x2), (60, I x3)] hF (by kernel_rfl) fun fr hF => ?_
 obtain ⟨x7, hx7, h⟩ := bindE h
 refine s_call [.agg #[I x6.1.Inputs, L a4 x6.1.Gates c4], I x2, I x3] Try.call22 rfl rfl hF rfl (impl_XorOf_ok n x6.1 x2 x3 hx7 (RV.mk_Circuit x6.1 (RV.any (hs.rv 0 rfl)))) fun v w13 fr hRes hF => ?_
 obtain ⟨a5, c5, rfl, _, hp, hs2⟩ := hRes
 obtain ⟨S10, hp, hs⟩ := hs.got hM0 hp hs2
 have hM0 := hM0.stp hp
 have hs : Sep [sl59 (L a5 x7.1.Gates c5) x7.1.Gates, sl59 (L a4 x6.1.Gates c4) x6.1.Gates, BX b1 28 [I x1.Inputs, L a2 x1.Gates c2], sl59 (L a2 x1.Gates c2) x1.Gates] w13 S10 := hs
 have hs : Sep [sl59 (L a5 x7.1.Gates c5) x7.1.Gates, BX b1 28 [I x1.Inputs, L a2 x1.Gates c2], sl59 (L a2 x1.Gates c2) x1.Gates] w13 S10 := Sep.pick [0, 2, 3] hs (by decide) rfl
 refine from_pure 4 [(3, B b1 0), (4, I x2), (5, I x3), (6, I x4), (8, I x5.2.1), (9, .bool x5.2.2), (11, I x6.2.1), (12, .bool x6.2.2), (62, .agg #[I x7.1.Inputs, L a5 x7.1.Gates c5]), (63, I x7.2.1), (64, .bool x7.2.2)] hF (by kernel_rfl) fun fr hF => ?_
 refine q_alloc (z := .agg #[I 0, L none ([] : List D.Gate) 0]) hs hM0 [I 0, L none ([] : List D.Gate) 0] rfl rfl hF (by kernel_rfl) rfl fun b4 w14 S11 fr hs hp hF => ?_
 have hM0 := hM0.stp hp
 have hs : Sep [BX b4 28 [I 0, L none ([] : List D.Gate) 0], sl59 (L a5 x7.1.Gates c5) x7.1.Gates, BX b1 28 [I x1.Inputs, L a2 x1.Gates c2], sl59 (L a2 x1.Gates c2) x1.Gates] w14 S11 := hs
 refine q_storeBoxS 0 hs hM0 rfl [I x7.1.Inputs, L a5 x7.1.Gates c5] rfl hF rfl rfl (by kernel_rfl) rfl rfl rfl fun w15 S12 hs hp hF => ?_
 have hM0 := hM0.stp hp
 have hs : Sep [BX b4 28 [I x7.1.Inputs, L a5 x7.1.Gates c5], sl59 (L a5 x7.1.Gates c5) x7.1.Gates, BX b1 28 [I x1.Inputs, L a2 x1.Gates c2], sl59 (L a2 x1.Gates c2) x1.Gates] w15 S12 := hs
 refine from_pure 2 [(3, B b1 0), (4, I x2), (5, I x3), (6, I x4), (8, I x5.2.1), (9, .bool x5.2.2), (11, I x6.2.1), (12, .bool x6.2.2), (13, B b4 0), (14, I x7.2.1), (15, .bool x7.2.2)] hF (by kernel_rfl) fun fr hF => ?_
 refine from_end rfl (then_normal ?_)
 refine wp_seq (wp_text' ?_)
 refine s_loadBoxS ty28 rfl rfl hF rfl (hs.bx 0 rfl) rfl rfl fun fr hF => ?_
 have hs : Sep [sl59 (L a5 x7.1.Gates c5) x7.1.Gates, BX b1 28 [I x1.Inputs, L a2 x1.Gates c2], sl59 (L a2 x1.Gates c2) x1.Gates] w15 S12 := Sep.pick [1, 2, 3] hs (by decide) rfl
 refine from_pure 3 [(3, B b1 0), (4, I x2), (5, I x3), (6, I x4), (8, I x5.2.1), (9, .bool x5.2.2), (11, I x6.2.1), (12, .bool x6.2.2), (14, I x7.2.1), (15, .bool x7.2.2), (66, .agg #[I x7.1.Inputs, L a5 x7.1.Gates c5]), (67, I x4), (68, I x2), (69, I x3)] hF (by kernel_rfl) fun fr hF => ?_
 obtain ⟨x8, hx8, h⟩ := bindE h
 refine s_call [.agg #[I x7.1.Inputs, L a5 x7.1.Gates c5], I x4, I x2, I x3] Try.call24 rfl rfl hF rfl (impl_IfOf_ok n x7.1 x4 x2 x3 hx8 (RV.mk_Circuit x7.1 (RV.any (hs.rv 0 rfl)))) fun v w16 fr hRes hF => ?_
 obtain ⟨a6, c6, rfl, _, hp, hs2⟩ := hRes
 obtain ⟨S13, hp, hs⟩ := hs.got hM0 hp hs2
 have hM0 := hM0.stp hp
 have hs : Sep [sl59 (L a6 x8.1.Gates c6) x8.1.Gates, sl59 (L a5 x7.1.Gates c5) x7.1.Gates, BX b1 28 [I x1.Inputs, L a2 x1.Gates c2], sl59 (L a2 x1.Gates c2) x1.Gates] w16 S13 := hs
 have hs : Sep [sl59 (L a6 x8.1.Gates c6) x8.1.Gates, BX b1 28 [I x1.Inputs, L a2 x1.Gates c2], sl59 (L a2 x1.Gates c2) x1.Gates] w16 S13 := Sep.pick [0, 2, 3] hs (by decide) rfl
 refine from_pure 4 [(3, B b1 0), (4, I x2), (5, I x3), (6, I x4), (8, I x5.2.1), (9, .bool x5.2.2), (11, I x6.2.1), (12, .bool x6.2.2), (14, I x7.2.1), (15, .bool x7.2.2), (71, .agg #[I x8.1.Inputs, L a6 x8.1.Gates c6]), (72, I x8.2.1), (73, .bool x8.2.2)] hF (by kernel_rfl) fun fr hF => ?_
 refine q_alloc (z := .agg #[I 0, L none ([] : List D.Gate) 0]) hs hM0 [I 0, L none ([] : List D.Gate) 0] rfl rfl hF (by kernel_rfl) rfl fun b5 w17 S14 fr hs hp hF => ?_
 have hM0 := hM0.stp hp
 have hs : Sep [BX b5 28 [I 0, L none ([] : List D.Gate) 0], sl59 (L a6 x8.1.Gates c6) x8.1.Gates, BX b1 28 [I x1.Inputs, L a2 x1.Gates c2], sl59 (L a2 x1.Gates c2) x1.Gates] w17 S14 := hs
 refine q_storeBoxS 0 hs hM0 rfl [I x8.1.Inputs, L a6 x8.1.Gates c6] rfl hF rfl rfl (by kernel_rfl) rfl rfl rfl fun w18 S15 hs hp hF => ?_
 have hM0 := hM0.stp hp
 have hs : Sep [BX b5 28 [I x8.1.Inputs, L a6 x8.1.Gates c6], sl59 (L a6 x8.1.Gates c6) x8.1.Gates, BX b1 28 [I x1.Inputs, L a2 x1.Gates c2], sl59 (L a2 x1.Gates c2) x1.Gates] w18 S15 := hs
 refine from_pure 2 [(3, B b1 0), (4, I x2), (5, I x3), (6, I x4), (8, I x5.2.1), (9, .bool x5.2.2), (11, I x6.2.1), (12, .bool x6.2.2), (14, I x7.2.1), (15, .bool x7.2.2), (16, B b5 0), (17, I x8.2.1), (18, .bool x8.2.2)] hF (by kernel_rfl) fun fr hF => ?_
 refine from_end rfl (then_normal ?_)
 refine wp_seq (wp_text' ?_)
 refine s_loadBoxS ty28 rfl rfl hF rfl (hs.bx 0 rfl) rfl rfl fun fr hF => ?_
 refine from_pure 2 [(3, B b1 0), (4, I x2), (5, I x3), (6, I x4), (8, I x5.2.1), (9, .bool x5.2.2), (11, I x6.2.1), (12, .bool x6.2.2), (14, I x7.2.1), (15, .bool x7.2.2), (16, B b5 0), (17, I x8.2.1), (18, .bool x8.2.2), (75, .agg #[I x8.1.Inputs, L a6 x8.1.Gates c6]), (76, I x3), (77, I x2)] hF (by kernel_rfl) fun fr hF => ?_
 obtain ⟨x9, hx9, h⟩ := bindE h
 refine s_call [.agg #[I x8.1.Inputs, L a6 x8.1.Gates c6], I x3, I x2] Try.call15 rfl rfl hF rfl (impl_AndOf_ok n x8.1 x3 x2 hx9 (RV.mk_Circuit x8.1 (RV.any (hs.rv 1 rfl)))) fun v w19 fr hRes hF => ?_
 obtain ⟨a7, c7, rfl, _, hp, hs2⟩ := hRes
 obtain ⟨S16, hp, hs⟩ := hs.got hM0 hp hs2
 have hM0 := hM0.stp hp
 have hs : Sep [sl59 (L a7 x9.1.Gates c7) x9.1.Gates, BX b5 28 [I x8.1.Inputs, L a6 x8.1.Gates c6], sl59 (L a6 x8.1.Gates c6) x8.1.Gates, BX b1 28 [I x1.Inputs, L a2 x1.Gates c2], sl59 (L a2 x1.Gates c2) x1.Gates] w19 S16 := hs
 refine from_pure 4 [(3, B b1 0), (4, I x2), (5, I x3), (6, I x4), (8, I x5.2.1), (9, .bool x5.2.2), (11, I x6.2.1), (12, .bool x6.2.2), (14, I x7.2.1), (15, .bool x7.2.2), (16, B b5 0), (17, I x8.2.1), (18, .bool x8.2.2), (79, .agg #[I x9.1.Inputs, L a7 x9.1.Gates c7]), (80, I x9.2.1), (81, .bool x9.2.2)] hF (by kernel_rfl) fun fr hF => ?_
 refine q_alloc (z := .agg #[I 0, L none ([] : List D.Gate) 0]) hs hM0 [I 0, L none ([] : List D.Gate) 0] rfl rfl hF (by kernel_rfl) rfl fun b6 w20 S17 fr hs hp hF => ?_
 have hM0 := hM0.stp hp
 have hs : Sep [BX b6 28 [I 0, L none ([] : List D.Gate) 0], sl59 (L a7 x9.1.Gates c7) x9.1.Gates, BX b5 28 [I x8.1.Inputs, L a6 x8.1.Gates c6], sl59 (L a6 x8.1.Gates c6) x8.1.Gates, BX b1 28 [I x1.Inputs, L a2 x1.Gates c2], sl59 (L a2 x1.Gates c2) x1.Gates] w20 S17 := hs
 refine q_storeBoxS 0 hs hM0 rfl [I x9.1.Inputs, L a7 x9.1.Gates c7] rfl hF rfl rfl (by kernel_rfl) rfl rfl rfl fun w21 S18 hs hp hF => ?_
 have hM0 := hM0.stp hp
 have hs : Sep [BX b6 28 [I x9.1.Inputs, L a7 x9.1.Gates c7], sl59 (L a7 x9.1.Gates c7) x9.1.Gates, BX b5 28 [I x8.1.Inputs, L a6 x8.1.Gates c6], sl59 (L a6 x8.1.Gates c6) x8.1.Gates, BX b1 28 [I x1.Inputs, L a2 x1.Gates c2], sl59 (L a2 x1.Gates c2) x1.Gates] w21 S18 := hs
 refine from_pure 2 [(3, B b1 0), (4, I x2), (5, I x3), (6, I x4), (8, I x5.2.1), (9, .bool x5.2.2), (11, I x6.2.1), (12, .bool x6.2.2), (14, I x7.2.1), (15, .bool x7.2.2), (16, B b5 0), (17, I x8.2.1), (18, .bool x8.2.2), (19, B b6 0), (20, I x9.2.1), (21, .bool x9.2.2)] hF (by kernel_rfl) fun fr hF => ?_
 refine from_end rfl (then_normal ?_)
 refine wp_seq ?_
 obtain ⟨x10, hx10, h⟩ := bindE h
 refine wp_seq (region_b [] [true, true, true, true, true, true, true, true, true, true, true, true, true, true, true, true, true, true, true, true, false, true, true, false, true, true, true, true, true, true, true, true, true, false, false, true, true]
     (.eq (.bool x5.2.2) :: .eq (.bool (!x5.2.2)) :: .eq (.bool (!x5.2.2)) :: .eq (.bool x6.2.2) :: .eq (.bool (!x6.2.2)) :: .eq (.bool ((!x5.2.2) || (!x6.2.2))) :: .eq (.bool ((!x5.2.2) || (!x6.2.2))) :: .eq (.bool x7.2.2) :: .eq (.bool (!x7.2.2)) :: .eq (.bool (((!x5.2.2) || (!x6.2.2)) || (!x7.2.2))) :: .eq (.bool (((!x5.2.2) || (!x6.2.2)) || (!x7.2.2))) :: .eq (.bool x8.2.2) :: .eq (.bool (!x8.2.2)) :: .eq (.bool ((((!x5.2.2) || (!x6.2.2)) || (!x7.2.2)) || (!x8.2.2))) :: .eq (.bool ((((!x5.2.2) || (!x6.2.2)) || (!x7.2.2)) || (!x8.2.2))) :: .eq (.bool x9.2.2) :: .eq (.bool (!x9.2.2)) :: .eq (.bool (((((!x5.2.2) || (!x6.2.2)) || (!x7.2.2)) || (!x8.2.2)) || (!x9.2.2))) :: .eq (.bool (((((!x5.2.2) || (!x6.2.2)) || (!x7.2.2)) || (!x8.2.2)) || (!x9.2.2))) :: .eq (B b6 1) :: .eq (L a7 x9.1.Gates c7) :: .eq (I (len x9.1.Gates)) :: .eq (B b5 1) :: .eq (L a6 x8.1.Gates c6) :: .eq (I (len x8.1.Gates)) :: .eq (.bool ((len x9.1.Gates) != (len x8.1.Gates))) :: .eq (.bool ((((((!x5.2.2) || (!x6.2.2)) || (!x7.2.2)) || (!x8.2.2)) || (!x9.2.2)) || ((len x9.1.Gates) != (len x8.1.Gates)))) :: .eq (.bool ((((((!x5.2.2) || (!x6.2.2)) || (!x7.2.2)) || (!x8.2.2)) || (!x9.2.2)) || ((len x9.1.Gates) != (len x8.1.Gates)))) :: .eq (I x9.2.1) :: .eq (I x5.2.1) :: .eq (.bool (x9.2.1 != x5.2.1)) :: .eq (.bool (((((((!x5.2.2) || (!x6.2.2)) || (!x7.2.2)) || (!x8.2.2)) || (!x9.2.2)) || ((len x9.1.Gates) != (len x8.1.Gates))) || (x9.2.1 != x5.2.1))) :: .eq (.bool (((((((!x5.2.2) || (!x6.2.2)) || (!x7.2.2)) || (!x8.2.2)) || (!x9.2.2)) || ((len x9.1.Gates) != (len x8.1.Gates))) || (x9.2.1 != x5.2.1))) :: .eq (.agg #[I x8.1.Inputs, L a6 x8.1.Gates c6]) :: .eq (.bool x10) :: .eq (.bool (!x10)) :: .eq (.bool ((((((((!x5.2.2) || (!x6.2.2)) || (!x7.2.2)) || (!x8.2.2)) || (!x9.2.2)) || ((len x9.1.Gates) != (len x8.1.Gates))) || (x9.2.1 != x5.2.1)) || (!x10))) :: [])
     [(3, B b1 0), (4, I x2), (5, I x3), (6, I x4), (8, I x5.2.1), (11, I x6.2.1), (14, I x7.2.1), (16, B b5 0), (17, I x8.2.1), (118, .bool ((((((((!x5.2.2) || (!x6.2.2)) || (!x7.2.2)) || (!x8.2.2)) || (!x9.2.2)) || ((len x9.1.Gates) != (len x8.1.Gates))) || (x9.2.1 != x5.2.1)) || (!x10)))] mix hF (by kernel_rfl) (by kernel_rfl) (by kernel_rfl) ⟨Pd.mono_eq, Pd.mono_eq, Pd.mono_eq, Pd.mono_eq, trivial⟩ (fun hG => ⟨np_loadBox hG hF ty26 rfl rfl (hs.bx 0 rfl) rfl rfl rfl, np_loadBox hG hF ty26 rfl rfl (hs.bx 2 rfl) rfl rfl rfl, np_loadBoxS hG hF ty28 rfl rfl (hs.bx 2 rfl) rfl rfl rfl rfl, np_call [.agg #[I x8.1.Inputs, L a6 x8.1.Gates c6]] hG hF Try.call35 rfl rfl (fun w hC hg => (impl_CircuitOk_ok n x8.1 (iteF hg.2 hx10) ((RV.mk_Circuit x8.1 (RV.any (hs.rv 3 rfl))).ext hC)).mono fun e w' ⟨v, he, hv, hc⟩ => ⟨v, he, hc, hv⟩), trivial⟩) (by kernel_rfl) fun fr w22 hF hE hc => then_normal ?_)
 have hs := hs.ext hc
 have hM0 := hM0.ext hc
 have hs : Sep [BX b5 28 [I x8.1.Inputs, L a6 x8.1.Gates c6], sl59 (L a6 x8.1.Gates c6) x8.1.Gates, BX b1 28 [I x1.Inputs, L a2 x1.Gates c2], sl59 (L a2 x1.Gates c2) x1.Gates] w22 S18 := Sep.pick [2, 3, 4, 5] hs (by decide) rfl
 refine (wp_if hF (b := ((((((((!x5.2.2) || (!x6.2.2)) || (!x7.2.2)) || (!x8.2.2)) || (!x9.2.2)) || ((len x9.1.Gates) != (len x8.1.Gates))) || (x9.2.1 != x5.2.1)) || (!x10))) rfl (fun hb => ?_) (fun hb => ?_))
 · replace h := iteT hb h
   have hs : Sep [] w22 S18 := Sep.pick [] hs (by decide) rfl
   refine wp_seq (wp_pure [(2, .bool false)] hF (by kernel_rfl) fun fr hF => then_normal ?_)
   obtain rfl := Option.some.inj h
   exact wp_ret (then_ret (ret1 rfl hF rfl ⟨_, rfl, rfl, hM0.chg⟩))
 replace h := iteF hb h
 refine (wp_skip (then_normal ?_))
 refine wp_seq ?_
 refine wp_seq (wp_pure [(3, B b1 0), (4, I x2), (5, I x3), (6, I x4), (8, I x5.2.1), (11, I x6.2.1), (14, I x7.2.1), (16, B b5 0), (17, I x8.2.1), (22, I 0)] hF (by kernel_rfl) fun fr hF => then_normal ?_)
 obtain ⟨rl1, hit1, h⟩ := bindE h
 have hk1 := h
 refine (wp_cut (M := fun fr w' => ∃ s, rl1 = .inl s ∧ ∃ S20 F2, FrS 183 [] fr ∧ Mem w22 S18 (fun k => (G0 k) ∧ k < w.heap.size) w' S20 F2 ∧ Sep [] w' S20) (wp_block (wp_iter (Inv := fun s1 fr w' => ∃ S19 F1, FrS 183 [(3, B b1 0), (4, I x2), (5, I x3), (6, I x4), (8, I x5.2.1), (11, I x6.2.1), (14, I x7.2.1), (16, B b5 0), (17, I x8.2.1), (22, I s1)] fr ∧ Mem w22 S18 (fun k => (G0 k) ∧ k < w.heap.size) w' S19 F1 ∧ Sep [BX b5 28 [I x8.1.Inputs, L a6 x8.1.Gates c6], sl59 (L a6 x8.1.Gates c6) x8.1.Gates, BX b1 28 [I x1.Inputs, L a2 x1.Gates c2], sl59 (L a2 x1.Gates c2) x1.Gates] w' S19) hit1 ⟨S18, _, hF.sub _ (by kernel_rfl), (Mem.start hM0.bd hM0.bdF hM0.dj), hs⟩ fun s1 q1 fr w1i hI h hr1 => ?_)) fun fr w1o hM => ?_)
 · obtain ⟨S19, F1, hF, hM1, hs⟩ := hI
   refine wp_seq ?_
   refine wp_seq (wp_text' ?_)
   refine from_pure 2 [(3, B b1 0), (4, I x2), (5, I x3), (6, I x4), (8, I x5.2.1), (11, I x6.2.1), (14, I x7.2.1), (16, B b5 0), (17, I x8.2.1), (22, I s1), (119, I s1), (120, B b1 0)] hF (by kernel_rfl) fun fr hF => ?_
   refine s_loadBox (I x1.Inputs) ty3 rfl rfl hF rfl (hs.bx 2 rfl) rfl rfl fun fr hF => ?_
   obtain ⟨x11, hx11, h⟩ := bindE h
   refine s_shl rfl rfl hF rfl rfl hx11 fun fr hF => ?_
   refine from_pure 1 [(3, B b1 0), (4, I x2), (5, I x3), (6, I x4), (8, I x5.2.1), (11, I x6.2.1), (14, I x7.2.1), (16, B b5 0), (17, I x8.2.1), (22, I s1), (123, .bool (decide (s1 < x11)))] hF (by kernel_rfl) fun fr hF => ?_
   refine from_end rfl (then_normal ?_)
   refine (wp_if hF (b := (decide (s1 < x11))) rfl (fun hb => ?_) (fun hb => ?_))
   · replace h := iteT hb h
     refine (wp_skip (then_normal ?_))
     refine wp_seq (wp_block ?_)
     obtain ⟨x12, hx12, h⟩ := bindE h
     refine wp_seq (region_bm 5 [0, 0, 2, 0, 14, 31, 63] [false, true, false, true, false]
         [.eq (.agg #[I x8.1.Inputs, L a6 x8.1.Gates c6]), .eq (B b1 0), .eq (I x1.Inputs), .eq (I s1), .own fun ow v w => ∃ i : Option Addr × Nat, v = L i.1 x12 i.2 ∧ (sl4 (L i.1 x12 i.2) x12).ok w (fun k => w1i.heap.size ≤ k ∧ k < w.heap.size ∧ ow k = 4), .any, .any]
         [(3, B b1 0), (4, I x2), (5, I x3), (6, I x4), (8, I x5.2.1), (11, I x6.2.1), (14, I x7.2.1), (16, B b5 0), (17, I x8.2.1), (22, I s1), (126, .agg #[I x8.1.Inputs, L a6 x8.1.Gates c6])] mix hF (by kernel_rfl) (by kernel_rfl) (by kernel_rfl) (by kernel_rfl) ⟨Pd.monoO_eq, Pd.monoO_eq, mono_new, trivial⟩ (fun ow hG => ⟨np_to ow (np_loadBoxS hG hF ty28 rfl rfl (hs.bx 0 rfl) rfl rfl rfl rfl), np_to ow (np_loadBox hG hF ty3 rfl rfl (hs.bx 2 rfl) rfl rfl rfl), np_callN (V := fun i : Option Addr × Nat => L i.1 x12 i.2) (H := fun i => SL 4 (L i.1 x12 i.2) x12) [.inl (I x1.Inputs), .inl (I s1)] hG hF Try.call37 rfl rfl (by kernel_rfl) rfl (fun w vs hC hg ha => by obtain ⟨_, rfl, _, rfl, rfl⟩ := ha; exact (laws_bools_ok n x1.Inputs s1 hx12).mono fun e w' ⟨v, he, a0, c0, hv, _, hp, ho⟩ => ⟨v, he, hp.chg, (a0, c0), hv, sep_one hp ho⟩), trivial⟩) (by kernel_rfl) fun ow fr w23 hF hE hc => ?_)
     obtain ⟨⟨a8, c8⟩, hv, hnw4⟩ := hE.is 130 4 rfl rfl
     have hF := hF.cons hv
     have hsN := sepO (w0 := w1i) (ow := ow) [(4, sl4 (L a8 x12 c8) x12)] (show ([4] : List Nat).Nodup by decide) ⟨hnw4, trivial⟩ rfl
     obtain ⟨S21, hp, hs⟩ := hs.got hM1 (stp_new hc) hsN
     have hM1 := hM1.stp hp
     have hs : Sep [sl4 (L a8 x12 c8) x12, BX b5 28 [I x8.1.Inputs, L a6 x8.1.Gates c6], sl59 (L a6 x8.1.Gates c6) x8.1.Gates, BX b1 28 [I x1.Inputs, L a2 x1.Gates c2], sl59 (L a2 x1.Gates c2) x1.Gates] w23 S21 := hs
     obtain ⟨x13, hx13, h⟩ := bindE h
     refine s_call [.agg #[I x8.1.Inputs, L a6 x8.1.Gates c6], L a8 x12 c8] Try.call36 rfl rfl hF rfl (impl_EvalCircuit_ok n x8.1 x12 hx13 (RV.mk_Circuit x8.1 (RV.any (hs.rv 2 rfl))) (hs.rv 0 rfl)) fun v w24 fr hRes hF => ?_
     obtain ⟨a9, c9, rfl, _, hp, hs2⟩ := hRes
     obtain ⟨S22, hp, hs⟩ := hs.got hM1 hp hs2
     have hM1 := hM1.stp hp
     have hs : Sep [sl4 (L a9 x13 c9) x13, sl4 (L a8 x12 c8) x12, BX b5 28 [I x8.1.Inputs, L a6 x8.1.Gates c6], sl59 (L a6 x8.1.Gates c6) x8.1.Gates, BX b1 28 [I x1.Inputs, L a2 x1.Gates c2], sl59 (L a2 x1.Gates c2) x1.Gates] w24 S22 := hs
     have hs : Sep [sl4 (L a9 x13 c9) x13, BX b5 28 [I x8.1.Inputs, L a6 x8.1.Gates c6], sl59 (L a6 x8.1.Gates c6) x8.1.Gates, BX b1 28 [I x1.Inputs, L a2 x1.Gates c2], sl59 (L a2 x1.Gates c2) x1.Gates] w24 S22 := Sep.pick [0, 2, 3, 4, 5] hs (by decide) rfl
     refine from_pure 1 [(3, B b1 0), (4, I x2), (5, I x3), (6, I x4), (8, I x5.2.1), (11, I x6.2.1), (14, I x7.2.1), (16, B b5 0), (17, I x8.2.1), (22, I s1), (23, L a9 x13 c9)] hF (by kernel_rfl) fun fr hF => ?_
     refine from_end rfl (then_normal ?_)
     refine wp_seq (wp_text' ?_)
     refine from_pure 2 [(3, B b1 0), (4, I x2), (5, I x3), (6, I x4), (8, I x5.2.1), (11, I x6.2.1), (14, I x7.2.1), (16, B b5 0), (17, I x8.2.1), (22, I s1), (23, L a9 x13 c9), (132, L a9 x13 c9), (133, I x2)] hF (by kernel_rfl) fun fr hF => ?_
     refine q_lit (E := 3) hs hM1 [I x2] (([x2] : List Int).map Flat.enc) ([x2] : List Int) rfl rfl hF [I x2] rfl (fun w => by kernel_rfl) (css_flat _) rfl rfl rfl fun a10 c10 w25 S23 fr hs hp hF => ?_
     have hM1 := hM1.stp hp
     have hs : Sep [sl3 (L a10 ([x2] : List Int) c10) ([x2] : List Int), sl4 (L a9 x13 c9) x13, BX b5 28 [I x8.1.Inputs, L a6 x8.1.Gates c6], sl59 (L a6 x8.1.Gates c6) x8.1.Gates, BX b1 28 [I x1.Inputs, L a2 x1.Gates c2], sl59 (L a2 x1.Gates c2) x1.Gates] w25 S23 := hs
     obtain ⟨x14, hx14, h⟩ := bindE h
     refine s_call [L a9 x13 c9, L a10 ([x2] : List Int) c10] Try.call38 rfl rfl hF rfl (laws_word_ok n x13 ([x2] : List Int) hx14 (hs.rv 1 rfl) (hs.rv 0 rfl)) fun v w26 fr hRes hF => ?_
     obtain ⟨rfl, hc⟩ := hRes
     have hs := hs.ext hc
     have hM1 := hM1.ext hc
     have hs : Sep [sl4 (L a9 x13 c9) x13, BX b5 28 [I x8.1.Inputs, L a6 x8.1.Gates c6], sl59 (L a6 x8.1.Gates c6) x8.1.Gates, BX b1 28 [I x1.Inputs, L a2 x1.Gates c2], sl59 (L a2 x1.Gates c2) x1.Gates] w26 S23 := Sep.pick [1, 2, 3, 4, 5] hs (by decide) rfl
     refine from_pure 1 [(3, B b1 0), (4, I x2), (5, I x3), (6, I x4), (8, I x5.2.1), (11, I x6.2.1), (14, I x7.2.1), (16, B b5 0), (17, I x8.2.1), (22, I s1), (23, L a9 x13 c9), (24, I x14)] hF (by kernel_rfl) fun fr hF => ?_
     refine from_end rfl (then_normal ?_)
     refine wp_seq (wp_text' ?_)
     refine from_pure 2 [(3, B b1 0), (4, I x2), (5, I x3), (6, I x4), (8, I x5.2.1), (11, I x6.2.1), (14, I x7.2.1), (16, B b5 0), (17, I x8.2.1), (22, I s1), (23, L a9 x13 c9), (24, I x14), (136, L a9 x13 c9), (137, I x3)] hF (by kernel_rfl) fun fr hF => ?_
     refine q_lit (E := 3) hs hM1 [I x3] (([x3] : List Int).map Flat.enc) ([x3] : List Int) rfl rfl hF [I x3] rfl (fun w => by kernel_rfl) (css_flat _) rfl rfl rfl fun a11 c11 w27 S24 fr hs hp hF => ?_
     have hM1 := hM1.stp hp
     have hs : Sep [sl3 (L a11 ([x3] : List Int) c11) ([x3] : List Int), sl4 (L a9 x13 c9) x13, BX b5 28 [I x8.1.Inputs, L a6 x8.1.Gates c6], sl59 (L a6 x8.1.Gates c6) x8.1.Gates, BX b1 28 [I x1.Inputs, L a2 x1.Gates c2], sl59 (L a2 x1.Gates c2) x1.Gates] w27 S24 := hs
     obtain ⟨x15, hx15, h⟩ := bindE h
     refine s_call [L a9 x13 c9, L a11 ([x3] : List Int) c11] Try.call38 rfl rfl hF rfl (laws_word_ok n x13 ([x3] : List Int) hx15 (hs.rv 1 rfl) (hs.rv 0 rfl)) fun v w28 fr hRes hF => ?_
     obtain ⟨rfl, hc⟩ := hRes
     have hs := hs.ext hc
     have hM1 := hM1.ext hc
     have hs : Sep [sl4 (L a9 x13 c9) x13, BX b5 28 [I x8.1.Inputs, L a6 x8.1.Gates c6], sl59 (L a6 x8.1.Gates c6) x8.1.Gates, BX b1 28 [I x1.Inputs, L a2 x1.Gates c2], sl59 (L a2 x1.Gates c2) x1.Gates] w28 S24 := Sep.pick [1, 2, 3, 4, 5] hs (by decide) rfl
     refine from_pure 1 [(3, B b1 0), (4, I x2), (5, I x3), (6, I x4), (8, I x5.2.1), (11, I x6.2.1), (14, I x7.2.1), (16, B b5 0), (17, I x8.2.1), (22, I s1), (23, L a9 x13 c9), (24, I x14), (25, I x15)] hF (by kernel_rfl) fun fr hF => ?_
     refine from_end rfl (then_normal ?_)
     refine wp_seq (wp_pure [(3, B b1 0), (4, I x2), (5, I x3), (6, I x4), (8, I x5.2.1), (11, I x6.2.1), (14, I x7.2.1), (16, B b5 0), (17, I x8.2.1), (22, I s1), (23, L a9 x13 c9), (24, I x14), (25, I x15), (26, I x15)] hF (by kernel_rfl) fun fr hF => then_normal ?_)
     refine wp_seq ?_
     refine wp_seq (wp_text' ?_)
     refine from_pure 2 [(3, B b1 0), (4, I x2), (5, I x3), (6, I x4), (8, I x5.2.1), (11, I x6.2.1), (14, I x7.2.1), (16, B b5 0), (17, I x8.2.1), (22, I s1), (23, L a9 x13 c9), (24, I x14), (25, I x15), (26, I x15), (141, L a9 x13 c9), (142, I x4)] hF (by kernel_rfl) fun fr hF => ?_
     refine q_lit (E := 3) hs hM1 [I x4] (([x4] : List Int).map Flat.enc) ([x4] : List Int) rfl rfl hF [I x4] rfl (fun w => by kernel_rfl) (css_flat _) rfl rfl rfl fun a12 c12 w29 S25 fr hs hp hF => ?_
     have hM1 := hM1.stp hp
     have hs : Sep [sl3 (L a12 ([x4] : List Int) c12) ([x4] : List Int), sl4 (L a9 x13 c9) x13, BX b5 28 [I x8.1.Inputs, L a6 x8.1.Gates c6], sl59 (L a6 x8.1.Gates c6) x8.1.Gates, BX b1 28 [I x1.Inputs, L a2 x1.Gates c2], sl59 (L a2 x1.Gates c2) x1.Gates] w29 S25 := hs
     obtain ⟨x16, hx16, h⟩ := bindE h
     refine s_call [L a9 x13 c9, L a12 ([x4] : List Int) c12] Try.call38 rfl rfl hF rfl (laws_word_ok n x13 ([x4] : List Int) hx16 (hs.rv 1 rfl) (hs.rv 0 rfl)) fun v w30 fr hRes hF => ?_
     obtain ⟨rfl, hc⟩ := hRes
     have hs := hs.ext hc
     have hM1 := hM1.ext hc
     have hs : Sep [sl4 (L a9 x13 c9) x13, BX b5 28 [I x8.1.Inputs, L a6 x8.1.Gates c6], sl59 (L a6 x8.1.Gates c6) x8.1.Gates, BX b1 28 [I x1.Inputs, L a2 x1.Gates c2], sl59 (L a2 x1.Gates c2) x1.Gates] w30 S25 := Sep.pick [1, 2, 3, 4, 5] hs (by decide) rfl
     refine from_pure 1 [(3, B b1 0), (4, I x2), (5, I x3), (6, I x4), (8, I x5.2.1), (11, I x6.2.1), (14, I x7.2.1), (16, B b5 0), (17, I x8.2.1), (22, I s1), (23, L a9 x13 c9), (24, I x14), (25, I x15), (26, I x15), (145, .bool (x16 == 1))] hF (by kernel_rfl) fun fr hF => ?_
     refine from_end rfl (then_normal ?_)
     refine (wp_merge [(3, B b1 0), (4, I x2), (5, I x3), (6, I x4), (8, I x5.2.1), (11, I x6.2.1), (14, I x7.2.1), (16, B b5 0), (17, I x8.2.1), (22, I s1), (23, L a9 x13 c9), (24, I x14), (25, I x15), (26, I (cond (x16 == 1) x14 x15))] hF (b := (x16 == 1)) rfl (fun hb => ?_) (fun hb => ?_) fun fr hF => then_normal ?_)
     · exact wp_pure [(3, B b1 0), (4, I x2), (5, I x3), (6, I x4), (8, I x5.2.1), (11, I x6.2.1), (14, I x7.2.1), (16, B b5 0), (17, I x8.2.1), (22, I s1), (23, L a9 x13 c9), (24, I x14), (25, I x15), (26, I x14)] hF (by kernel_rfl) fun fr hF => ⟨rfl, rfl, hF.eqs (by first | (simp only [hb]; done) | (simp only [hb]; rfl))⟩
     · exact wp_skip ⟨rfl, rfl, (hF.sub [(3, B b1 0), (4, I x2), (5, I x3), (6, I x4), (8, I x5.2.1), (11, I x6.2.1), (14, I x7.2.1), (16, B b5 0), (17, I x8.2.1), (22, I s1), (23, L a9 x13 c9), (24, I x14), (25, I x15), (26, I x15)] (by kernel_rfl)).eqs (by first | (simp only [hb]; done) | (simp only [hb]; rfl))⟩
     obtain ⟨x17, hx17, h⟩ := bindE h
     obtain ⟨x18, hx18, h⟩ := bindE h
     obtain ⟨x19, hx19, h⟩ := bindE h
     obtain ⟨x20, hx20, h⟩ := bindE h
     refine wp_seq (region_b [] [true, true, false, false, true, true, true, true, true, true, true, false, false, true, true, true, true, true, true, true, true, false, false, true, true, true, true, true, true, true, true, false, false, true, true, true]
         (.eq (L a9 x13 c9) :: .eq (I x5.2.1) :: (.is fun v w => RV w (fun k => k < w.heap.size) v ([x5.2.1] : List Int)) :: .eq (I x17) :: .eq (I x14) :: .eq (I x15) :: .eq (I (band x14 x15)) :: .eq (.bool (x17 != (band x14 x15))) :: .eq (.bool (x17 != (band x14 x15))) :: .eq (L a9 x13 c9) :: .eq (I x6.2.1) :: (.is fun v w => RV w (fun k => k < w.heap.size) v ([x6.2.1] : List Int)) :: .eq (I x18) :: .eq (I x14) :: .eq (I x15) :: .eq (I (bor x14 x15)) :: .eq (.bool (x18 != (bor x14 x15))) :: .eq (.bool ((x17 != (band x14 x15)) || (x18 != (bor x14 x15)))) :: .eq (.bool ((x17 != (band x14 x15)) || (x18 != (bor x14 x15)))) :: .eq (L a9 x13 c9) :: .eq (I x7.2.1) :: (.is fun v w => RV w (fun k => k < w.heap.size) v ([x7.2.1] : List Int)) :: .eq (I x19) :: .eq (I x14) :: .eq (I x15) :: .eq (I (bxor x14 x15)) :: .eq (.bool (x19 != (bxor x14 x15))) :: .eq (.bool (((x17 != (band x14 x15)) || (x18 != (bor x14 x15))) || (x19 != (bxor x14 x15)))) :: .eq (.bool (((x17 != (band x14 x15)) || (x18 != (bor x14 x15))) || (x19 != (bxor x14 x15)))) :: .eq (L a9 x13 c9) :: .eq (I x8.2.1) :: (.is fun v w => RV w (fun k => k < w.heap.size) v ([x8.2.1] : List Int)) :: .eq (I x20) :: .eq (I (cond (x16 == 1) x14 x15)) :: .eq (.bool (x20 != (cond (x16 == 1) x14 x15))) :: .eq (.bool ((((x17 != (band x14 x15)) || (x18 != (bor x14 x15))) || (x19 != (bxor x14 x15))) || (x20 != (cond (x16 == 1) x14 x15)))) :: [])
         [(3, B b1 0), (4, I x2), (5, I x3), (6, I x4), (8, I x5.2.1), (11, I x6.2.1), (14, I x7.2.1), (16, B b5 0), (17, I x8.2.1), (22, I s1), (182, .bool ((((x17 != (band x14 x15)) || (x18 != (bor x14 x15))) || (x19 != (bxor x14 x15))) || (x20 != (cond (x16 == 1) x14 x15))))] mix hF (by kernel_rfl) (by kernel_rfl) (by kernel_rfl) ⟨mono_rvb, Pd.mono_eq, mono_rvb, Pd.mono_eq, mono_rvb, Pd.mono_eq, mono_rvb, Pd.mono_eq, trivial⟩ (fun hG => ⟨np_litI (E := 3) [I x5.2.1] (([x5.2.1] : List Int).map Flat.enc) ([x5.2.1] : List Int) hG hF rfl [I x5.2.1] rfl (fun w => by kernel_rfl) (fun w => css_flat _) rfl rfl rfl rfl, np_callI [.inl (L a9 x13 c9), .inr 2] hG hF Try.call38 rfl rfl (by kernel_rfl) (fun w vs hC hg ha => by obtain ⟨_, rfl, vq1, _, rfl, hq1, rfl⟩ := ha; exact (laws_word_ok n x13 ([x5.2.1] : List Int) hx17 ((hs.rv 0 rfl).ext hC) (show RV w (fun k => k < w.heap.size) vq1 ([x5.2.1] : List Int) from hq1)).mono fun e w' ⟨v, he, hv, hc⟩ => ⟨v, he, hc, hv⟩), np_litI (E := 3) [I x6.2.1] (([x6.2.1] : List Int).map Flat.enc) ([x6.2.1] : List Int) hG hF rfl [I x6.2.1] rfl (fun w => by kernel_rfl) (fun w => css_flat _) rfl rfl rfl rfl, np_callI [.inl (L a9 x13 c9), .inr 11] hG hF Try.call38 rfl rfl (by kernel_rfl) (fun w vs hC hg ha => by obtain ⟨_, rfl, vq1, _, rfl, hq1, rfl⟩ := ha; exact (laws_word_ok n x13 ([x6.2.1] : List Int) (iteF hg.2 hx18) ((hs.rv 0 rfl).ext hC) (show RV w (fun k => k < w.heap.size) vq1 ([x6.2.1] : List Int) from hq1)).mono fun e w' ⟨v, he, hv, hc⟩ => ⟨v, he, hc, hv⟩), np_litI (E := 3) [I x7.2.1] (([x7.2.1] : List Int).map Flat.enc) ([x7.2.1] : List Int) hG hF rfl [I x7.2.1] rfl (fun w => by kernel_rfl) (fun w => css_flat _) rfl rfl rfl rfl, np_callI [.inl (L a9 x13 c9), .inr 21] hG hF Try.call38 rfl rfl (by kernel_rfl) (fun w vs hC hg ha => by obtain ⟨_, rfl, vq1, _, rfl, hq1, rfl⟩ := ha; exact (laws_word_ok n x13 ([x7.2.1] : List Int) (iteF hg.2 hx19) ((hs.rv 0 rfl).ext hC) (show RV w (fun k => k < w.heap.size) vq1 ([x7.2.1] : List Int) from hq1)).mono fun e w' ⟨v, he, hv, hc⟩ => ⟨v, he, hc, hv⟩), np_litI (E := 3) [I x8.2.1] (([x8.2.1] : List Int).map Flat.enc) ([x8.2.1] : List Int) hG hF rfl [I x8.2.1] rfl (fun w => by kernel_rfl) (fun w => css_flat _) rfl rfl rfl rfl, np_callI [.inl (L a9 x13 c9), .inr 31] hG hF Try.call38 rfl rfl (by kernel_rfl) (fun w vs hC hg ha => by obtain ⟨_, rfl, vq1, _, rfl, hq1, rfl⟩ := ha; exact (laws_word_ok n x13 ([x8.2.1] : List Int) (iteF hg.2 hx20) ((hs.rv 0 rfl).ext hC) (show RV w (fun k => k < w.heap.size) vq1 ([x8.2.1] : List Int) from hq1)).mono fun e w' ⟨v, he, hv, hc⟩ => ⟨v, he, hc, hv⟩), trivial⟩) (by kernel_rfl) fun fr w31 hF hE hc => then_normal ?_)
     have hs := hs.ext hc
     have hM1 := hM1.ext hc
     have hs : Sep [BX b5 28 [I x8.1.Inputs, L a6 x8.1.Gates c6], sl59 (L a6 x8.1.Gates c6) x8.1.Gates, BX b1 28 [I x1.Inputs, L a2 x1.Gates c2], sl59 (L a2 x1.Gates c2) x1.Gates] w31 S25 := Sep.pick [1, 2, 3, 4] hs (by decide) rfl
     refine (wp_if hF (b := ((((x17 != (band x14 x15)) || (x18 != (bor x14 x15))) || (x19 != (bxor x14 x15))) || (x20 != (cond (x16 == 1) x14 x15)))) rfl (fun hb => ?_) (fun hb => ?_))
     · replace h := iteT hb h
       have hs : Sep [] w31 S25 := Sep.pick [] hs (by decide) rfl
       refine wp_seq (wp_pure [(2, .bool false)] hF (by kernel_rfl) fun fr hF => then_normal ?_)
       obtain rfl := hr1 _ (Option.some.inj h).symm
       obtain rfl := Option.some.inj hk1
       exact wp_ret (blk_ret (then_ret (then_ret (blk_ret (then_ret (ret1 rfl hF rfl ⟨_, rfl, rfl, (hM0.trans hM1).chg⟩))))))
     replace h := iteF hb h
     refine (wp_skip ?_)
     refine blk_normal (then_normal ?_)
     refine (wp_pure [(3, B b1 0), (4, I x2), (5, I x3), (6, I x4), (8, I x5.2.1), (11, I x6.2.1), (14, I x7.2.1), (16, B b5 0), (17, I x8.2.1), (22, I (w64 (s1 + 1)))] hF (by kernel_rfl) fun fr hF => then_normal ?_)
     exact ⟨_, (Option.some.inj h).symm, S25, _, hF.sub _ (by kernel_rfl), hM1, hs⟩
   replace h := iteF hb h
   have hs : Sep [] w1i S19 := Sep.pick [] hs (by decide) rfl
   refine (wp_exit (then_exit (then_exit (blk_exit_eq ?_))))
   obtain rfl := hr1 _ (Option.some.inj h).symm
   exact then_normal ⟨_, rfl, S19, _, hF.sub _ (by kernel_rfl), hM1, hs⟩
 · obtain ⟨s1r, rfl, hM⟩ := hM
   obtain ⟨S20, F2, hF, hMx, hs⟩ := hM
   have hM0 := hM0.trans hMx
   refine wp_seq (wp_pure [(2, .bool true)] hF (by kernel_rfl) fun fr hF => then_normal ?_)
   obtain rfl := Option.some.inj h
   exact wp_ret (ret1 rfl hF rfl ⟨_, rfl, rfl, hM0.chg⟩)
end Go.Proofs.Ytckeihpjfeonmaa
