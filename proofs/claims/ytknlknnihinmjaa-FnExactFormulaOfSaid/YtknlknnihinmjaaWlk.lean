/- Printed by gen2.py: the walks. -/
import Derived.Test.YtknlknnihinmjaaWlkA
set_option linter.unusedVariables false
set_option maxRecDepth 100000
namespace Go.Proofs.Ytknlknnihinmjaa
open Go.GL Go.Maps Go.WideMaps
theorem impl_FormulaOf_ok (n : Nat) (p0 : D.Circuit) (p1 : Int) {r : D.Formula × Bool} (h : impl_FormulaOf n p0 p1 = some r) {w : World} {G0 : Nat → Prop} {va0 : Value} (ra0 : RV w G0 va0 p0) :
   Calls Try.prog 32 [va0, I p1].toArray w fun e w' => ∃ v, e = .returned v ∧ ∃ a1 c1 rs2, v = .tuple #[.agg #[I r.1.Vars, L a1 r.1.Clauses c1], .bool r.2] ∧ ∃ S', Stp w Non w' S' ∧ Sep [sl26 (L a1 r.1.Clauses c1) rs2, HP.all own26 rs2 r.1.Clauses] w' S' := by
 unfold impl_FormulaOf at h
 have hs := Sep.nil w Non
 have hM0 : Mem w Non (fun k => (G0 k) ∧ k < w.heap.size) w Non (fun k => (G0 k) ∧ k < w.heap.size) := Mem.start (fun _ h => h.elim) (fun _ h => h.2) (fun _ h => h.elim)
 have ra0 := ra0.sub (F' := (fun k => (G0 k) ∧ k < w.heap.size)) (fun k hk h => ⟨h, hk⟩)
 obtain ⟨v1, rfl, r1⟩ := RV.Circuit ra0
 obtain ⟨a1, c1, rfl, -⟩ := r1.slice
 refine enter (N := 88) Try.func32 rfl Try.ntmps32 rfl fun fr hF => ?_
 refine wp_seq (wp_text' ?_)
 refine q_box hs hM0 [I p0.Inputs, L a1 p0.Gates c1] rfl rfl hF rfl rfl fun b1 w1 S1 fr hs hp hF => ?_
 have r1 := r1.stp hM0 hp
 have hM0 := hM0.stp hp
 have hs : Sep [BX b1 53 [I p0.Inputs, L a1 p0.Gates c1]] w1 S1 := hs
 refine q_alloc (z := .agg #[I 0, L none ([] : List (List Int)) 0]) hs hM0 [I 0, L none ([] : List (List Int)) 0] rfl rfl hF (by kernel_rfl) rfl fun b2 w2 S2 fr hs hp hF => ?_
 have r1 := r1.stp hM0 hp
 have hM0 := hM0.stp hp
 have hs : Sep [BX b2 48 [I 0, L none ([] : List (List Int)) 0], BX b1 53 [I p0.Inputs, L a1 p0.Gates c1]] w2 S2 := hs
 refine from_pure 1 [(1, I p1), (2, B b1 0), (4, B b2 0)] hF (by kernel_rfl) fun fr hF => ?_
 refine from_end rfl (then_normal ?_)
 refine wp_seq ?_
 obtain ⟨x1, hx1, h⟩ := bindE h
 obtain ⟨x2, hx2, h⟩ := bindE h
 obtain ⟨x3, hx3, h⟩ := bindE h
 refine wp_seq (region_b [] [false, false, true, true, true, false, false, false, true, true]
     [.eq (.agg #[I p0.Inputs, L a1 p0.Gates c1]), .eq (.bool x1), .eq (.bool (!x1)), .eq (.bool (!x1)), .eq (I p1), .eq (.agg #[I p0.Inputs, L a1 p0.Gates c1]), .eq (I x2), .eq (.bool x3), .eq (.bool (!x3)), .eq (.bool ((!x1) || (!x3)))]
     [(1, I p1), (2, B b1 0), (4, B b2 0), (23, .bool ((!x1) || (!x3)))] mix hF (by kernel_rfl) (by kernel_rfl) (by kernel_rfl) ⟨Pd.mono_eq, Pd.mono_eq, Pd.mono_eq, Pd.mono_eq, Pd.mono_eq, trivial⟩ (fun hG => ⟨np_loadBoxS hG hF ty53 rfl rfl (hs.bx 1 rfl) rfl rfl rfl rfl, np_call [.agg #[I p0.Inputs, L a1 p0.Gates c1]] hG hF Try.call72 rfl rfl (fun w hC hg => (impl_CircuitOk_ok n p0 hx1 ((RV.mk_Circuit p0 (r1)).ext hC)).mono fun e w' ⟨v, he, hv, hc⟩ => ⟨v, he, hc, hv⟩), np_loadBoxS hG hF ty53 rfl rfl (hs.bx 1 rfl) rfl rfl rfl rfl, np_call [.agg #[I p0.Inputs, L a1 p0.Gates c1]] hG hF Try.call74 rfl rfl (fun w hC hg => (impl_linesOf_ok p0 (iteF hg.2 hx2) ((RV.mk_Circuit p0 (r1)).ext hC)).mono fun e w' ⟨v, he, hv, hc⟩ => ⟨v, he, hc, hv⟩), np_call [I p1, I x2] hG hF Try.call73 rfl rfl (fun w hC hg => (impl_isLiteral_ok p1 x2 (iteF hg.2 hx3)).mono fun e w' ⟨v, he, hv, hc⟩ => ⟨v, he, hc, hv⟩), trivial⟩) (by kernel_rfl) fun fr w3 hF hE hc => then_normal ?_)
 have r1 := r1.ext hc
 have hs := hs.ext hc
 have hM0 := hM0.ext hc
 refine (wp_if hF (b := ((!x1) || (!x3))) rfl (fun hb => ?_) (fun hb => ?_))
 · replace h := iteT hb h
   have hs : Sep [BX b2 48 [I 0, L none ([] : List (List Int)) 0]] w3 S2 := Sep.pick [0] hs (by decide) rfl
   refine wp_seq (wp_text' ?_)
   refine from_pure 1 [(4, B b2 0), (24, .agg #[I 0, L none ([] : List (List Int)) 0])] hF (by kernel_rfl) fun fr hF => ?_
   refine q_storeBoxS 0 hs hM0 rfl [I 0, L none ([] : List (List Int)) 0] rfl hF rfl rfl (by kernel_rfl) rfl rfl rfl fun w4 S3 hs hp hF => ?_
   have hM0 := hM0.stp hp
   have hs : Sep [BX b2 48 [I 0, L none ([] : List (List Int)) 0]] w4 S3 := hs
   refine from_pure 1 [(4, B b2 0), (5, .bool false)] hF (by kernel_rfl) fun fr hF => ?_
   refine from_end rfl (then_normal ?_)
   have hrets := fun {σ : List (Nat × Value)} (h : σ = [(4, B b2 0), (5, .bool false)]) => (by subst h; exact (Rets.cell rfl ty48 (hs.bx 0 rfl) rfl rfl (Rets.tmp rfl Rets.nil)) : Rets Try.prog σ w4 [.cell 4 48, .tmp 5] [.agg #[I 0, L none ([] : List (List Int)) 0], .bool false])
   have hs : Sep [sl26 (L none ([] : List (List Int)) 0) ([] : List Hd), HP.all own26 ([] : List Hd) ([] : List (List Int)), BX b2 48 [I 0, L none ([] : List (List Int)) 0]] w4 S3 := (hs.emp (HP.all own26 [] []) trivial).cons_nil (α := Hd) 26
   obtain rfl := Option.some.inj h
   have hs : Sep [sl26 (L none ([] : List (List Int)) 0) ([] : List Hd), HP.all own26 ([] : List Hd) ([] : List (List Int))] w4 S3 := Sep.pick [0, 1] hs (by decide) rfl
   exact wp_ret (then_ret (retG (rs := [.cell 4 48, .tmp 5]) rfl (hF.sub [(4, B b2 0), (5, .bool false)] (by kernel_rfl)) (hrets rfl) rfl ⟨_, rfl, none, 0, ([] : List Hd), rfl, S3, hM0.out, hs⟩))
 replace h := iteF hb h
 refine (wp_skip (then_normal ?_))
 refine wp_seq (wp_text' ?_)
 refine s_loadBoxS ty53 rfl rfl hF rfl (hs.bx 1 rfl) rfl rfl fun fr hF => ?_
 obtain ⟨x4, hx4, h⟩ := bindE h
 refine s_call [.agg #[I p0.Inputs, L a1 p0.Gates c1]] Try.call74 rfl rfl hF rfl (impl_linesOf_ok p0 hx4 (RV.mk_Circuit p0 (r1))) fun v w5 fr hRes hF => ?_
 obtain ⟨rfl, hc⟩ := hRes
 have r1 := r1.ext hc
 have hs := hs.ext hc
 have hM0 := hM0.ext hc
 refine q_lit (E := 3) hs hM0 [I 1] (([1] : List Int).map Flat.enc) ([1] : List Int) rfl rfl hF [I 1] rfl (fun w => by kernel_rfl) (css_flat _) rfl rfl rfl fun a2 c2 w6 S4 fr hs hp hF => ?_
 have r1 := r1.stp hM0 hp
 have hM0 := hM0.stp hp
 have hs : Sep [sl3 (L a2 ([1] : List Int) c2) ([1] : List Int), BX b2 48 [I 0, L none ([] : List (List Int)) 0], BX b1 53 [I p0.Inputs, L a1 p0.Gates c1]] w6 S4 := hs
 refine q_lit (E := 26) hs hM0 [L a2 ([1] : List Int) c2] (([⟨a2, List.length ([1] : List Int), c2⟩] : List Hd).map Flat.enc) ([⟨a2, List.length ([1] : List Int), c2⟩] : List Hd) rfl rfl hF [L a2 ([1] : List Int) c2] rfl (fun w => by kernel_rfl) (css_flat _) rfl rfl rfl fun a3 c3 w7 S5 fr hs hp hF => ?_
 have r1 := r1.stp hM0 hp
 have hM0 := hM0.stp hp
 have hs : Sep [sl26 (L a3 ([([1] : List Int)] : List (List Int)) c3) ([⟨a2, List.length ([1] : List Int), c2⟩] : List Hd), sl3 (L a2 ([1] : List Int) c2) ([1] : List Int), BX b2 48 [I 0, L none ([] : List (List Int)) 0], BX b1 53 [I p0.Inputs, L a1 p0.Gates c1]] w7 S5 := hs
 have hs : Sep [HP.all own26 ([] : List Hd) ([] : List (List Int)), sl26 (L a3 ([([1] : List Int)] : List (List Int)) c3) ([⟨a2, List.length ([1] : List Int), c2⟩] : List Hd), sl3 (L a2 ([1] : List Int) c2) ([1] : List Int), BX b2 48 [I 0, L none ([] : List (List Int)) 0], BX b1 53 [I p0.Inputs, L a1 p0.Gates c1]] w7 S5 := hs.emp (HP.all own26 [] []) trivial
 have hs : Sep [sl3 (L a2 ([1] : List Int) c2) ([1] : List Int), HP.all own26 ([] : List Hd) ([] : List (List Int)), sl26 (L a3 ([([1] : List Int)] : List (List Int)) c3) ([⟨a2, List.length ([1] : List Int), c2⟩] : List Hd), BX b2 48 [I 0, L none ([] : List (List Int)) 0], BX b1 53 [I p0.Inputs, L a1 p0.Gates c1]] w7 S5 := Sep.pick [2, 0, 1, 3, 4] hs (by decide) rfl
 have hs : Sep [HP.all own26 ([⟨a2, List.length ([1] : List Int), c2⟩] : List Hd) ([([1] : List Int)] : List (List Int)), sl26 (L a3 ([([1] : List Int)] : List (List Int)) c3) ([⟨a2, List.length ([1] : List Int), c2⟩] : List Hd), BX b2 48 [I 0, L none ([] : List (List Int)) 0], BX b1 53 [I p0.Inputs, L a1 p0.Gates c1]] w7 S5 := Sep.merge hs (fun _ h => h)
 refine from_pure 1 [(1, I p1), (2, B b1 0), (4, B b2 0), (29, .agg #[I x4, L a3 ([([1] : List Int)] : List (List Int)) c3])] hF (by kernel_rfl) fun fr hF => ?_
 refine q_alloc (z := .agg #[I 0, L none ([] : List (List Int)) 0]) hs hM0 [I 0, L none ([] : List (List Int)) 0] rfl rfl hF (by kernel_rfl) rfl fun b3 w8 S6 fr hs hp hF => ?_
 have r1 := r1.stp hM0 hp
 have hM0 := hM0.stp hp
 have hs : Sep [BX b3 48 [I 0, L none ([] : List (List Int)) 0], HP.all own26 ([⟨a2, List.length ([1] : List Int), c2⟩] : List Hd) ([([1] : List Int)] : List (List Int)), sl26 (L a3 ([([1] : List Int)] : List (List Int)) c3) ([⟨a2, List.length ([1] : List Int), c2⟩] : List Hd), BX b2 48 [I 0, L none ([] : List (List Int)) 0], BX b1 53 [I p0.Inputs, L a1 p0.Gates c1]] w8 S6 := hs
 refine q_storeBoxS 0 hs hM0 rfl [I x4, L a3 ([([1] : List Int)] : List (List Int)) c3] rfl hF rfl rfl (by kernel_rfl) rfl rfl rfl fun w9 S7 hs hp hF => ?_
 have r1 := r1.stp hM0 hp
 have hM0 := hM0.stp hp
 have hs : Sep [BX b3 48 [I x4, L a3 ([([1] : List Int)] : List (List Int)) c3], HP.all own26 ([⟨a2, List.length ([1] : List Int), c2⟩] : List Hd) ([([1] : List Int)] : List (List Int)), sl26 (L a3 ([([1] : List Int)] : List (List Int)) c3) ([⟨a2, List.length ([1] : List Int), c2⟩] : List Hd), BX b2 48 [I 0, L none ([] : List (List Int)) 0], BX b1 53 [I p0.Inputs, L a1 p0.Gates c1]] w9 S7 := hs
 refine from_end rfl (then_normal ?_)
 refine wp_seq ?_
 refine wp_seq (wp_text' ?_)
 refine from_pure 1 [(1, I p1), (2, B b1 0), (4, B b2 0), (6, B b3 0), (30, B b1 1)] hF (by kernel_rfl) fun fr hF => ?_
 refine s_loadBox (L a1 p0.Gates c1) ty51 rfl rfl hF rfl (hs.bx 4 rfl) rfl rfl fun fr hF => ?_
 refine from_pure 2 [(1, I p1), (2, B b1 0), (4, B b2 0), (6, B b3 0), (31, L a1 p0.Gates c1), (32, I (len p0.Gates)), (33, I 0)] hF (by kernel_rfl) fun fr hF => ?_
 refine from_end rfl (then_normal ?_)
 obtain ⟨rl1, hit1, h⟩ := bindE h
 have hk1 := h
 refine (wp_cut (M := fun fr w' => ∃ rs2 a5 c5 S9 F2, FrS 88 [(1, I p1), (4, B b2 0), (6, B b3 0)] fr ∧ Mem w9 S7 (fun k => (G0 k) ∧ k < w.heap.size) w' S9 F2 ∧ Sep [BX b3 48 [I x4, L a5 rl1 c5], HP.all own26 rs2 rl1, sl26 (L a5 rl1 c5) rs2, BX b2 48 [I 0, L none ([] : List (List Int)) 0]] w' S9) (wp_block (wp_iter (Inv := fun s1 fr w' => ∃ rs1 a4 c4 S8 F1, FrS 88 [(1, I p1), (2, B b1 0), (4, B b2 0), (6, B b3 0), (31, L a1 p0.Gates c1), (32, I (len p0.Gates)), (33, I s1.1)] fr ∧ Mem w9 S7 (fun k => (G0 k) ∧ k < w.heap.size) w' S8 F1 ∧ Sep [BX b3 48 [I x4, L a4 s1.2 c4], HP.all own26 rs1 s1.2, sl26 (L a4 s1.2 c4) rs1, BX b2 48 [I 0, L none ([] : List (List Int)) 0], BX b1 53 [I p0.Inputs, L a1 p0.Gates c1]] w' S8) hit1 ⟨([⟨a2, List.length ([1] : List Int), c2⟩] : List Hd), a3, c3, S7, _, hF.sub _ (by kernel_rfl), (Mem.start hM0.bd hM0.bdF hM0.dj), hs⟩ fun s1 q1 fr w1i hI h hr1 => ?_)) fun fr w1o hM => ?_)
 · obtain ⟨rs1, a4, c4, S8, F1, hF, hM1, hs⟩ := hI
   have r1 := r1.mem hM1
   refine wp_seq (wp_pure [(1, I p1), (2, B b1 0), (4, B b2 0), (6, B b3 0), (31, L a1 p0.Gates c1), (32, I (len p0.Gates)), (33, I s1.1), (34, .bool (decide (s1.1 < (len p0.Gates))))] hF (by kernel_rfl) fun fr hF => then_normal ?_)
   refine wp_seq (wp_if hF (b := (decide (s1.1 < (len p0.Gates)))) rfl (fun hb => ?_) (fun hb => ?_))
   · replace h := iteT hb h
     refine (wp_skip (then_normal ?_))
     refine wp_seq (wp_block ?_)
     refine wp_seq (wp_text' ?_)
     refine from_pure 1 [(1, I p1), (2, B b1 0), (4, B b2 0), (6, B b3 0), (31, L a1 p0.Gates c1), (32, I (len p0.Gates)), (33, I s1.1), (35, I s1.1)] hF (by kernel_rfl) fun fr hF => ?_
     obtain ⟨x5, hx5, h⟩ := bindE h
     refine s_elemF (z := x5) (.agg #[I x5.A, I x5.B]) ty103 Try.underlying51 rfl rfl rfl rfl rfl hF rfl (r1) rfl (get?_nn hx5) (get?_at hx5) rfl fun p fr hF => ?_
     refine q_alloc (z := .agg #[I 0, I 0]) hs hM1 [I 0, I 0] rfl rfl hF (by kernel_rfl) rfl fun b4 w10 S10 fr hs hp hF => ?_
     have r1 := r1.stp hM1 hp
     have hM1 := hM1.stp hp
     have hs : Sep [BX b4 103 [I 0, I 0], BX b3 48 [I x4, L a4 s1.2 c4], HP.all own26 rs1 s1.2, sl26 (L a4 s1.2 c4) rs1, BX b2 48 [I 0, L none ([] : List (List Int)) 0], BX b1 53 [I p0.Inputs, L a1 p0.Gates c1]] w10 S10 := hs
     refine from_pure 1 [(1, I p1), (2, B b1 0), (4, B b2 0), (6, B b3 0), (7, I s1.1), (8, B b4 0), (31, L a1 p0.Gates c1), (32, I (len p0.Gates)), (33, I s1.1), (37, .agg #[I x5.A, I x5.B])] hF (by kernel_rfl) fun fr hF => ?_
     refine q_storeBoxS 0 hs hM1 rfl [I x5.A, I x5.B] rfl hF rfl rfl (by kernel_rfl) rfl rfl rfl fun w11 S11 hs hp hF => ?_
     have r1 := r1.stp hM1 hp
     have hM1 := hM1.stp hp
     have hs : Sep [BX b4 103 [I x5.A, I x5.B], BX b3 48 [I x4, L a4 s1.2 c4], HP.all own26 rs1 s1.2, sl26 (L a4 s1.2 c4) rs1, BX b2 48 [I 0, L none ([] : List (List Int)) 0], BX b1 53 [I p0.Inputs, L a1 p0.Gates c1]] w11 S11 := hs
     refine from_end rfl (then_normal ?_)
     refine wp_seq (wp_text' ?_)
     refine from_pure 1 [(1, I p1), (2, B b1 0), (4, B b2 0), (6, B b3 0), (7, I s1.1), (8, B b4 0), (31, L a1 p0.Gates c1), (32, I (len p0.Gates)), (33, I s1.1), (38, B b1 0)] hF (by kernel_rfl) fun fr hF => ?_
     refine s_loadBox (I p0.Inputs) ty3 rfl rfl hF rfl (hs.bx 5 rfl) rfl rfl fun fr hF => ?_
     refine from_pure 4 [(1, I p1), (2, B b1 0), (4, B b2 0), (6, B b3 0), (8, B b4 0), (9, I (w64 ((w64 (2 + p0.Inputs)) + s1.1))), (31, L a1 p0.Gates c1), (32, I (len p0.Gates)), (33, I s1.1)] hF (by kernel_rfl) fun fr hF => ?_
     refine from_end rfl (then_normal ?_)
     refine wp_seq (wp_text' ?_)
     refine from_pure 3 [(1, I p1), (2, B b1 0), (4, B b2 0), (6, B b3 0), (8, B b4 0), (9, I (w64 ((w64 (2 + p0.Inputs)) + s1.1))), (31, L a1 p0.Gates c1), (32, I (len p0.Gates)), (33, I s1.1), (44, I (w64 (0 - (w64 ((w64 (2 + p0.Inputs)) + s1.1))))), (45, B b4 0)] hF (by kernel_rfl) fun fr hF => ?_
     refine s_loadBox (I x5.A) ty3 rfl rfl hF rfl (hs.bx 0 rfl) rfl rfl fun fr hF => ?_
     refine q_lit (E := 3) hs hM1 [I (w64 (0 - (w64 ((w64 (2 + p0.Inputs)) + s1.1)))), I x5.A] (([(w64 (0 - (w64 ((w64 (2 + p0.Inputs)) + s1.1)))), x5.A] : List Int).map Flat.enc) ([(w64 (0 - (w64 ((w64 (2 + p0.Inputs)) + s1.1)))), x5.A] : List Int) rfl rfl hF [I (w64 (0 - (w64 ((w64 (2 + p0.Inputs)) + s1.1)))), I x5.A] rfl (fun w => by kernel_rfl) (css_flat _) rfl rfl rfl fun a6 c6 w12 S12 fr hs hp hF => ?_
     have r1 := r1.stp hM1 hp
     have hM1 := hM1.stp hp
     have hs : Sep [sl3 (.slice a6 (List.length ([(w64 (0 - (w64 ((w64 (2 + p0.Inputs)) + s1.1)))), x5.A] : List Int)) c6) ([(w64 (0 - (w64 ((w64 (2 + p0.Inputs)) + s1.1)))), x5.A] : List Int), BX b4 103 [I x5.A, I x5.B], BX b3 48 [I x4, L a4 s1.2 c4], HP.all own26 rs1 s1.2, sl26 (L a4 s1.2 c4) rs1, BX b2 48 [I 0, L none ([] : List (List Int)) 0], BX b1 53 [I p0.Inputs, L a1 p0.Gates c1]] w12 S12 := hs
     refine from_pure 3 [(1, I p1), (2, B b1 0), (4, B b2 0), (6, B b3 0), (8, B b4 0), (9, I (w64 ((w64 (2 + p0.Inputs)) + s1.1))), (31, L a1 p0.Gates c1), (32, I (len p0.Gates)), (33, I s1.1), (47, .slice a6 (List.length ([(w64 (0 - (w64 ((w64 (2 + p0.Inputs)) + s1.1)))), x5.A] : List Int)) c6), (49, I (w64 (0 - (w64 ((w64 (2 + p0.Inputs)) + s1.1))))), (50, B b4 1)] hF (by kernel_rfl) fun fr hF => ?_
     refine s_loadBox (I x5.B) ty3 rfl rfl hF rfl (hs.bx 1 rfl) rfl rfl fun fr hF => ?_
     refine q_lit (E := 3) hs hM1 [I (w64 (0 - (w64 ((w64 (2 + p0.Inputs)) + s1.1)))), I x5.B] (([(w64 (0 - (w64 ((w64 (2 + p0.Inputs)) + s1.1)))), x5.B] : List Int).map Flat.enc) ([(w64 (0 - (w64 ((w64 (2 + p0.Inputs)) + s1.1)))), x5.B] : List Int) rfl rfl hF [I (w64 (0 - (w64 ((w64 (2 + p0.Inputs)) + s1.1)))), I x5.B] rfl (fun w => by kernel_rfl) (css_flat _) rfl rfl rfl fun a7 c7 w13 S13 fr hs hp hF => ?_
     have r1 := r1.stp hM1 hp
     have hM1 := hM1.stp hp
     have hs : Sep [sl3 (.slice a7 (List.length ([(w64 (0 - (w64 ((w64 (2 + p0.Inputs)) + s1.1)))), x5.B] : List Int)) c7) ([(w64 (0 - (w64 ((w64 (2 + p0.Inputs)) + s1.1)))), x5.B] : List Int), sl3 (.slice a6 (List.length ([(w64 (0 - (w64 ((w64 (2 + p0.Inputs)) + s1.1)))), x5.A] : List Int)) c6) ([(w64 (0 - (w64 ((w64 (2 + p0.Inputs)) + s1.1)))), x5.A] : List Int), BX b4 103 [I x5.A, I x5.B], BX b3 48 [I x4, L a4 s1.2 c4], HP.all own26 rs1 s1.2, sl26 (L a4 s1.2 c4) rs1, BX b2 48 [I 0, L none ([] : List (List Int)) 0], BX b1 53 [I p0.Inputs, L a1 p0.Gates c1]] w13 S13 := hs
     refine from_pure 2 [(1, I p1), (2, B b1 0), (4, B b2 0), (6, B b3 0), (8, B b4 0), (31, L a1 p0.Gates c1), (32, I (len p0.Gates)), (33, I s1.1), (47, .slice a6 (List.length ([(w64 (0 - (w64 ((w64 (2 + p0.Inputs)) + s1.1)))), x5.A] : List Int)) c6), (52, .slice a7 (List.length ([(w64 (0 - (w64 ((w64 (2 + p0.Inputs)) + s1.1)))), x5.B] : List Int)) c7), (53, I (w64 ((w64 (2 + p0.Inputs)) + s1.1))), (54, B b4 0)] hF (by kernel_rfl) fun fr hF => ?_
     refine s_loadBox (I x5.A) ty3 rfl rfl hF rfl (hs.bx 2 rfl) rfl rfl fun fr hF => ?_
     refine from_pure 2 [(1, I p1), (2, B b1 0), (4, B b2 0), (6, B b3 0), (31, L a1 p0.Gates c1), (32, I (len p0.Gates)), (33, I s1.1), (47, .slice a6 (List.length ([(w64 (0 - (w64 ((w64 (2 + p0.Inputs)) + s1.1)))), x5.A] : List Int)) c6), (52, .slice a7 (List.length ([(w64 (0 - (w64 ((w64 (2 + p0.Inputs)) + s1.1)))), x5.B] : List Int)) c7), (53, I (w64 ((w64 (2 + p0.Inputs)) + s1.1))), (56, I (w64 (0 - x5.A))), (57, B b4 1)] hF (by kernel_rfl) fun fr hF => ?_
     refine s_loadBox (I x5.B) ty3 rfl rfl hF rfl (hs.bx 2 rfl) rfl rfl fun fr hF => ?_
     have hs : Sep [sl3 (.slice a7 (List.length ([(w64 (0 - (w64 ((w64 (2 + p0.Inputs)) + s1.1)))), x5.B] : List Int)) c7) ([(w64 (0 - (w64 ((w64 (2 + p0.Inputs)) + s1.1)))), x5.B] : List Int), sl3 (.slice a6 (List.length ([(w64 (0 - (w64 ((w64 (2 + p0.Inputs)) + s1.1)))), x5.A] : List Int)) c6) ([(w64 (0 - (w64 ((w64 (2 + p0.Inputs)) + s1.1)))), x5.A] : List Int), BX b3 48 [I x4, L a4 s1.2 c4], HP.all own26 rs1 s1.2, sl26 (L a4 s1.2 c4) rs1, BX b2 48 [I 0, L none ([] : List (List Int)) 0], BX b1 53 [I p0.Inputs, L a1 p0.Gates c1]] w13 S13 := Sep.pick [0, 1, 3, 4, 5, 6, 7] hs (by decide) rfl
     refine from_pure 1 [(1, I p1), (2, B b1 0), (4, B b2 0), (6, B b3 0), (31, L a1 p0.Gates c1), (32, I (len p0.Gates)), (33, I s1.1), (47, .slice a6 (List.length ([(w64 (0 - (w64 ((w64 (2 + p0.Inputs)) + s1.1)))), x5.A] : List Int)) c6), (52, .slice a7 (List.length ([(w64 (0 - (w64 ((w64 (2 + p0.Inputs)) + s1.1)))), x5.B] : List Int)) c7), (53, I (w64 ((w64 (2 + p0.Inputs)) + s1.1))), (56, I (w64 (0 - x5.A))), (59, I (w64 (0 - x5.B)))] hF (by kernel_rfl) fun fr hF => ?_
     refine q_lit (E := 3) hs hM1 [I (w64 ((w64 (2 + p0.Inputs)) + s1.1)), I (w64 (0 - x5.A)), I (w64 (0 - x5.B))] (([(w64 ((w64 (2 + p0.Inputs)) + s1.1)), (w64 (0 - x5.A)), (w64 (0 - x5.B))] : List Int).map Flat.enc) ([(w64 ((w64 (2 + p0.Inputs)) + s1.1)), (w64 (0 - x5.A)), (w64 (0 - x5.B))] : List Int) rfl rfl hF [I (w64 ((w64 (2 + p0.Inputs)) + s1.1)), I (w64 (0 - x5.A)), I (w64 (0 - x5.B))] rfl (fun w => by kernel_rfl) (css_flat _) rfl rfl rfl fun a8 c8 w14 S14 fr hs hp hF => ?_
     have r1 := r1.stp hM1 hp
     have hM1 := hM1.stp hp
     have hs : Sep [sl3 (.slice a8 (List.length ([(w64 ((w64 (2 + p0.Inputs)) + s1.1)), (w64 (0 - x5.A)), (w64 (0 - x5.B))] : List Int)) c8) ([(w64 ((w64 (2 + p0.Inputs)) + s1.1)), (w64 (0 - x5.A)), (w64 (0 - x5.B))] : List Int), sl3 (.slice a7 (List.length ([(w64 (0 - (w64 ((w64 (2 + p0.Inputs)) + s1.1)))), x5.B] : List Int)) c7) ([(w64 (0 - (w64 ((w64 (2 + p0.Inputs)) + s1.1)))), x5.B] : List Int), sl3 (.slice a6 (List.length ([(w64 (0 - (w64 ((w64 (2 + p0.Inputs)) + s1.1)))), x5.A] : List Int)) c6) ([(w64 (0 - (w64 ((w64 (2 + p0.Inputs)) + s1.1)))), x5.A] : List Int), BX b3 48 [I x4, L a4 s1.2 c4], HP.all own26 rs1 s1.2, sl26 (L a4 s1.2 c4) rs1, BX b2 48 [I 0, L none ([] : List (List Int)) 0], BX b1 53 [I p0.Inputs, L a1 p0.Gates c1]] w14 S14 := hs
     refine q_lit (E := 26) hs hM1 [.slice a6 (List.length ([(w64 (0 - (w64 ((w64 (2 + p0.Inputs)) + s1.1)))), x5.A] : List Int)) c6, .slice a7 (List.length ([(w64 (0 - (w64 ((w64 (2 + p0.Inputs)) + s1.1)))), x5.B] : List Int)) c7, .slice a8 (List.length ([(w64 ((w64 (2 + p0.Inputs)) + s1.1)), (w64 (0 - x5.A)), (w64 (0 - x5.B))] : List Int)) c8] (([⟨a6, List.length ([(w64 (0 - (w64 ((w64 (2 + p0.Inputs)) + s1.1)))), x5.A] : List Int), c6⟩, ⟨a7, List.length ([(w64 (0 - (w64 ((w64 (2 + p0.Inputs)) + s1.1)))), x5.B] : List Int), c7⟩, ⟨a8, List.length ([(w64 ((w64 (2 + p0.Inputs)) + s1.1)), (w64 (0 - x5.A)), (w64 (0 - x5.B))] : List Int), c8⟩] : List Hd).map Flat.enc) ([⟨a6, List.length ([(w64 (0 - (w64 ((w64 (2 + p0.Inputs)) + s1.1)))), x5.A] : List Int), c6⟩, ⟨a7, List.length ([(w64 (0 - (w64 ((w64 (2 + p0.Inputs)) + s1.1)))), x5.B] : List Int), c7⟩, ⟨a8, List.length ([(w64 ((w64 (2 + p0.Inputs)) + s1.1)), (w64 (0 - x5.A)), (w64 (0 - x5.B))] : List Int), c8⟩] : List Hd) rfl rfl hF [.slice a6 (List.length ([(w64 (0 - (w64 ((w64 (2 + p0.Inputs)) + s1.1)))), x5.A] : List Int)) c6, .slice a7 (List.length ([(w64 (0 - (w64 ((w64 (2 + p0.Inputs)) + s1.1)))), x5.B] : List Int)) c7, .slice a8 (List.length ([(w64 ((w64 (2 + p0.Inputs)) + s1.1)), (w64 (0 - x5.A)), (w64 (0 - x5.B))] : List Int)) c8] rfl (fun w => by kernel_rfl) (css_flat _) rfl rfl rfl fun a9 c9 w15 S15 fr hs hp hF => ?_
     have r1 := r1.stp hM1 hp
     have hM1 := hM1.stp hp
     have hs : Sep [sl26 (.slice a9 (List.length ([([(w64 (0 - (w64 ((w64 (2 + p0.Inputs)) + s1.1)))), x5.A] : List Int), ([(w64 (0 - (w64 ((w64 (2 + p0.Inputs)) + s1.1)))), x5.B] : List Int), ([(w64 ((w64 (2 + p0.Inputs)) + s1.1)), (w64 (0 - x5.A)), (w64 (0 - x5.B))] : List Int)] : List (List Int))) c9) ([⟨a6, List.length ([(w64 (0 - (w64 ((w64 (2 + p0.Inputs)) + s1.1)))), x5.A] : List Int), c6⟩, ⟨a7, List.length ([(w64 (0 - (w64 ((w64 (2 + p0.Inputs)) + s1.1)))), x5.B] : List Int), c7⟩, ⟨a8, List.length ([(w64 ((w64 (2 + p0.Inputs)) + s1.1)), (w64 (0 - x5.A)), (w64 (0 - x5.B))] : List Int), c8⟩] : List Hd), sl3 (.slice a8 (List.length ([(w64 ((w64 (2 + p0.Inputs)) + s1.1)), (w64 (0 - x5.A)), (w64 (0 - x5.B))] : List Int)) c8) ([(w64 ((w64 (2 + p0.Inputs)) + s1.1)), (w64 (0 - x5.A)), (w64 (0 - x5.B))] : List Int), sl3 (.slice a7 (List.length ([(w64 (0 - (w64 ((w64 (2 + p0.Inputs)) + s1.1)))), x5.B] : List Int)) c7) ([(w64 (0 - (w64 ((w64 (2 + p0.Inputs)) + s1.1)))), x5.B] : List Int), sl3 (.slice a6 (List.length ([(w64 (0 - (w64 ((w64 (2 + p0.Inputs)) + s1.1)))), x5.A] : List Int)) c6) ([(w64 (0 - (w64 ((w64 (2 + p0.Inputs)) + s1.1)))), x5.A] : List Int), BX b3 48 [I x4, L a4 s1.2 c4], HP.all own26 rs1 s1.2, sl26 (L a4 s1.2 c4) rs1, BX b2 48 [I 0, L none ([] : List (List Int)) 0], BX b1 53 [I p0.Inputs, L a1 p0.Gates c1]] w15 S15 := hs
     have hs : Sep [HP.all own26 ([] : List Hd) ([] : List (List Int)), sl26 (.slice a9 (List.length ([([(w64 (0 - (w64 ((w64 (2 + p0.Inputs)) + s1.1)))), x5.A] : List Int), ([(w64 (0 - (w64 ((w64 (2 + p0.Inputs)) + s1.1)))), x5.B] : List Int), ([(w64 ((w64 (2 + p0.Inputs)) + s1.1)), (w64 (0 - x5.A)), (w64 (0 - x5.B))] : List Int)] : List (List Int))) c9) ([⟨a6, List.length ([(w64 (0 - (w64 ((w64 (2 + p0.Inputs)) + s1.1)))), x5.A] : List Int), c6⟩, ⟨a7, List.length ([(w64 (0 - (w64 ((w64 (2 + p0.Inputs)) + s1.1)))), x5.B] : List Int), c7⟩, ⟨a8, List.length ([(w64 ((w64 (2 + p0.Inputs)) + s1.1)), (w64 (0 - x5.A)), (w64 (0 - x5.B))] : List Int), c8⟩] : List Hd), sl3 (.slice a8 (List.length ([(w64 ((w64 (2 + p0.Inputs)) + s1.1)), (w64 (0 - x5.A)), (w64 (0 - x5.B))] : List Int)) c8) ([(w64 ((w64 (2 + p0.Inputs)) + s1.1)), (w64 (0 - x5.A)), (w64 (0 - x5.B))] : List Int), sl3 (.slice a7 (List.length ([(w64 (0 - (w64 ((w64 (2 + p0.Inputs)) + s1.1)))), x5.B] : List Int)) c7) ([(w64 (0 - (w64 ((w64 (2 + p0.Inputs)) + s1.1)))), x5.B] : List Int), sl3 (.slice a6 (List.length ([(w64 (0 - (w64 ((w64 (2 + p0.Inputs)) + s1.1)))), x5.A] : List Int)) c6) ([(w64 (0 - (w64 ((w64 (2 + p0.Inputs)) + s1.1)))), x5.A] : List Int), BX b3 48 [I x4, L a4 s1.2 c4], HP.all own26 rs1 s1.2, sl26 (L a4 s1.2 c4) rs1, BX b2 48 [I 0, L none ([] : List (List Int)) 0], BX b1 53 [I p0.Inputs, L a1 p0.Gates c1]] w15 S15 := hs.emp (HP.all own26 [] []) trivial
     have hs : Sep [sl3 (.slice a8 (List.length ([(w64 ((w64 (2 + p0.Inputs)) + s1.1)), (w64 (0 - x5.A)), (w64 (0 - x5.B))] : List Int)) c8) ([(w64 ((w64 (2 + p0.Inputs)) + s1.1)), (w64 (0 - x5.A)), (w64 (0 - x5.B))] : List Int), HP.all own26 ([] : List Hd) ([] : List (List Int)), sl26 (.slice a9 (List.length ([([(w64 (0 - (w64 ((w64 (2 + p0.Inputs)) + s1.1)))), x5.A] : List Int), ([(w64 (0 - (w64 ((w64 (2 + p0.Inputs)) + s1.1)))), x5.B] : List Int), ([(w64 ((w64 (2 + p0.Inputs)) + s1.1)), (w64 (0 - x5.A)), (w64 (0 - x5.B))] : List Int)] : List (List Int))) c9) ([⟨a6, List.length ([(w64 (0 - (w64 ((w64 (2 + p0.Inputs)) + s1.1)))), x5.A] : List Int), c6⟩, ⟨a7, List.length ([(w64 (0 - (w64 ((w64 (2 + p0.Inputs)) + s1.1)))), x5.B] : List Int), c7⟩, ⟨a8, List.length ([(w64 ((w64 (2 + p0.Inputs)) + s1.1)), (w64 (0 - x5.A)), (w64 (0 - x5.B))] : List Int), c8⟩] : List Hd), sl3 (.slice a7 (List.length ([(w64 (0 - (w64 ((w64 (2 + p0.Inputs)) + s1.1)))), x5.B] : List Int)) c7) ([(w64 (0 - (w64 ((w64 (2 + p0.Inputs)) + s1.1)))), x5.B] : List Int), sl3 (.slice a6 (List.length ([(w64 (0 - (w64 ((w64 (2 + p0.Inputs)) + s1.1)))), x5.A] : List Int)) c6) ([(w64 (0 - (w64 ((w64 (2 + p0.Inputs)) + s1.1)))), x5.A] : List Int), BX b3 48 [I x4, L a4 s1.2 c4], HP.all own26 rs1 s1.2, sl26 (L a4 s1.2 c4) rs1, BX b2 48 [I 0, L none ([] : List (List Int)) 0], BX b1 53 [I p0.Inputs, L a1 p0.Gates c1]] w15 S15 := Sep.pick [2, 0, 1, 3, 4, 5, 6, 7, 8, 9] hs (by decide) rfl
     have hs : Sep [HP.all own26 ([⟨a8, List.length ([(w64 ((w64 (2 + p0.Inputs)) + s1.1)), (w64 (0 - x5.A)), (w64 (0 - x5.B))] : List Int), c8⟩] : List Hd) ([([(w64 ((w64 (2 + p0.Inputs)) + s1.1)), (w64 (0 - x5.A)), (w64 (0 - x5.B))] : List Int)] : List (List Int)), sl26 (.slice a9 (List.length ([([(w64 (0 - (w64 ((w64 (2 + p0.Inputs)) + s1.1)))), x5.A] : List Int), ([(w64 (0 - (w64 ((w64 (2 + p0.Inputs)) + s1.1)))), x5.B] : List Int), ([(w64 ((w64 (2 + p0.Inputs)) + s1.1)), (w64 (0 - x5.A)), (w64 (0 - x5.B))] : List Int)] : List (List Int))) c9) ([⟨a6, List.length ([(w64 (0 - (w64 ((w64 (2 + p0.Inputs)) + s1.1)))), x5.A] : List Int), c6⟩, ⟨a7, List.length ([(w64 (0 - (w64 ((w64 (2 + p0.Inputs)) + s1.1)))), x5.B] : List Int), c7⟩, ⟨a8, List.length ([(w64 ((w64 (2 + p0.Inputs)) + s1.1)), (w64 (0 - x5.A)), (w64 (0 - x5.B))] : List Int), c8⟩] : List Hd), sl3 (.slice a7 (List.length ([(w64 (0 - (w64 ((w64 (2 + p0.Inputs)) + s1.1)))), x5.B] : List Int)) c7) ([(w64 (0 - (w64 ((w64 (2 + p0.Inputs)) + s1.1)))), x5.B] : List Int), sl3 (.slice a6 (List.length ([(w64 (0 - (w64 ((w64 (2 + p0.Inputs)) + s1.1)))), x5.A] : List Int)) c6) ([(w64 (0 - (w64 ((w64 (2 + p0.Inputs)) + s1.1)))), x5.A] : List Int), BX b3 48 [I x4, L a4 s1.2 c4], HP.all own26 rs1 s1.2, sl26 (L a4 s1.2 c4) rs1, BX b2 48 [I 0, L none ([] : List (List Int)) 0], BX b1 53 [I p0.Inputs, L a1 p0.Gates c1]] w15 S15 := Sep.merge hs (fun _ h => h)
     have hs : Sep [sl3 (.slice a7 (List.length ([(w64 (0 - (w64 ((w64 (2 + p0.Inputs)) + s1.1)))), x5.B] : List Int)) c7) ([(w64 (0 - (w64 ((w64 (2 + p0.Inputs)) + s1.1)))), x5.B] : List Int), HP.all own26 ([⟨a8, List.length ([(w64 ((w64 (2 + p0.Inputs)) + s1.1)), (w64 (0 - x5.A)), (w64 (0 - x5.B))] : List Int), c8⟩] : List Hd) ([([(w64 ((w64 (2 + p0.Inputs)) + s1.1)), (w64 (0 - x5.A)), (w64 (0 - x5.B))] : List Int)] : List (List Int)), sl26 (.slice a9 (List.length ([([(w64 (0 - (w64 ((w64 (2 + p0.Inputs)) + s1.1)))), x5.A] : List Int), ([(w64 (0 - (w64 ((w64 (2 + p0.Inputs)) + s1.1)))), x5.B] : List Int), ([(w64 ((w64 (2 + p0.Inputs)) + s1.1)), (w64 (0 - x5.A)), (w64 (0 - x5.B))] : List Int)] : List (List Int))) c9) ([⟨a6, List.length ([(w64 (0 - (w64 ((w64 (2 + p0.Inputs)) + s1.1)))), x5.A] : List Int), c6⟩, ⟨a7, List.length ([(w64 (0 - (w64 ((w64 (2 + p0.Inputs)) + s1.1)))), x5.B] : List Int), c7⟩, ⟨a8, List.length ([(w64 ((w64 (2 + p0.Inputs)) + s1.1)), (w64 (0 - x5.A)), (w64 (0 - x5.B))] : List Int), c8⟩] : List Hd), sl3 (.slice a6 (List.length ([(w64 (0 - (w64 ((w64 (2 + p0.Inputs)) + s1.1)))), x5.A] : List Int)) c6) ([(w64 (0 - (w64 ((w64 (2 + p0.Inputs)) + s1.1)))), x5.A] : List Int), BX b3 48 [I x4, L a4 s1.2 c4], HP.all own26 rs1 s1.2, sl26 (L a4 s1.2 c4) rs1, BX b2 48 [I 0, L none ([] : List (List Int)) 0], BX b1 53 [I p0.Inputs, L a1 p0.Gates c1]] w15 S15 := Sep.pick [2, 0, 1, 3, 4, 5, 6, 7, 8] hs (by decide) rfl
     have hs : Sep [HP.all own26 ([⟨a7, List.length ([(w64 (0 - (w64 ((w64 (2 + p0.Inputs)) + s1.1)))), x5.B] : List Int), c7⟩, ⟨a8, List.length ([(w64 ((w64 (2 + p0.Inputs)) + s1.1)), (w64 (0 - x5.A)), (w64 (0 - x5.B))] : List Int), c8⟩] : List Hd) ([([(w64 (0 - (w64 ((w64 (2 + p0.Inputs)) + s1.1)))), x5.B] : List Int), ([(w64 ((w64 (2 + p0.Inputs)) + s1.1)), (w64 (0 - x5.A)), (w64 (0 - x5.B))] : List Int)] : List (List Int)), sl26 (.slice a9 (List.length ([([(w64 (0 - (w64 ((w64 (2 + p0.Inputs)) + s1.1)))), x5.A] : List Int), ([(w64 (0 - (w64 ((w64 (2 + p0.Inputs)) + s1.1)))), x5.B] : List Int), ([(w64 ((w64 (2 + p0.Inputs)) + s1.1)), (w64 (0 - x5.A)), (w64 (0 - x5.B))] : List Int)] : List (List Int))) c9) ([⟨a6, List.length ([(w64 (0 - (w64 ((w64 (2 + p0.Inputs)) + s1.1)))), x5.A] : List Int), c6⟩, ⟨a7, List.length ([(w64 (0 - (w64 ((w64 (2 + p0.Inputs)) + s1.1)))), x5.B] : List Int), c7⟩, ⟨a8, List.length ([(w64 ((w64 (2 + p0.Inputs)) + s1.1)), (w64 (0 - x5.A)), (w64 (0 - x5.B))] : List Int), c8⟩] : List Hd), sl3 (.slice a6 (List.length ([(w64 (0 - (w64 ((w64 (2 + p0.Inputs)) + s1.1)))), x5.A] : List Int)) c6) ([(w64 (0 - (w64 ((w64 (2 + p0.Inputs)) + s1.1)))), x5.A] : List Int), BX b3 48 [I x4, L a4 s1.2 c4], HP.all own26 rs1 s1.2, sl26 (L a4 s1.2 c4) rs1, BX b2 48 [I 0, L none ([] : List (List Int)) 0], BX b1 53 [I p0.Inputs, L a1 p0.Gates c1]] w15 S15 := Sep.merge hs (fun _ h => h)
     have hs : Sep [sl3 (.slice a6 (List.length ([(w64 (0 - (w64 ((w64 (2 + p0.Inputs)) + s1.1)))), x5.A] : List Int)) c6) ([(w64 (0 - (w64 ((w64 (2 + p0.Inputs)) + s1.1)))), x5.A] : List Int), HP.all own26 ([⟨a7, List.length ([(w64 (0 - (w64 ((w64 (2 + p0.Inputs)) + s1.1)))), x5.B] : List Int), c7⟩, ⟨a8, List.length ([(w64 ((w64 (2 + p0.Inputs)) + s1.1)), (w64 (0 - x5.A)), (w64 (0 - x5.B))] : List Int), c8⟩] : List Hd) ([([(w64 (0 - (w64 ((w64 (2 + p0.Inputs)) + s1.1)))), x5.B] : List Int), ([(w64 ((w64 (2 + p0.Inputs)) + s1.1)), (w64 (0 - x5.A)), (w64 (0 - x5.B))] : List Int)] : List (List Int)), sl26 (.slice a9 (List.length ([([(w64 (0 - (w64 ((w64 (2 + p0.Inputs)) + s1.1)))), x5.A] : List Int), ([(w64 (0 - (w64 ((w64 (2 + p0.Inputs)) + s1.1)))), x5.B] : List Int), ([(w64 ((w64 (2 + p0.Inputs)) + s1.1)), (w64 (0 - x5.A)), (w64 (0 - x5.B))] : List Int)] : List (List Int))) c9) ([⟨a6, List.length ([(w64 (0 - (w64 ((w64 (2 + p0.Inputs)) + s1.1)))), x5.A] : List Int), c6⟩, ⟨a7, List.length ([(w64 (0 - (w64 ((w64 (2 + p0.Inputs)) + s1.1)))), x5.B] : List Int), c7⟩, ⟨a8, List.length ([(w64 ((w64 (2 + p0.Inputs)) + s1.1)), (w64 (0 - x5.A)), (w64 (0 - x5.B))] : List Int), c8⟩] : List Hd), BX b3 48 [I x4, L a4 s1.2 c4], HP.all own26 rs1 s1.2, sl26 (L a4 s1.2 c4) rs1, BX b2 48 [I 0, L none ([] : List (List Int)) 0], BX b1 53 [I p0.Inputs, L a1 p0.Gates c1]] w15 S15 := Sep.pick [2, 0, 1, 3, 4, 5, 6, 7] hs (by decide) rfl
     have hs : Sep [HP.all own26 ([⟨a6, List.length ([(w64 (0 - (w64 ((w64 (2 + p0.Inputs)) + s1.1)))), x5.A] : List Int), c6⟩, ⟨a7, List.length ([(w64 (0 - (w64 ((w64 (2 + p0.Inputs)) + s1.1)))), x5.B] : List Int), c7⟩, ⟨a8, List.length ([(w64 ((w64 (2 + p0.Inputs)) + s1.1)), (w64 (0 - x5.A)), (w64 (0 - x5.B))] : List Int), c8⟩] : List Hd) ([([(w64 (0 - (w64 ((w64 (2 + p0.Inputs)) + s1.1)))), x5.A] : List Int), ([(w64 (0 - (w64 ((w64 (2 + p0.Inputs)) + s1.1)))), x5.B] : List Int), ([(w64 ((w64 (2 + p0.Inputs)) + s1.1)), (w64 (0 - x5.A)), (w64 (0 - x5.B))] : List Int)] : List (List Int)), sl26 (.slice a9 (List.length ([([(w64 (0 - (w64 ((w64 (2 + p0.Inputs)) + s1.1)))), x5.A] : List Int), ([(w64 (0 - (w64 ((w64 (2 + p0.Inputs)) + s1.1)))), x5.B] : List Int), ([(w64 ((w64 (2 + p0.Inputs)) + s1.1)), (w64 (0 - x5.A)), (w64 (0 - x5.B))] : List Int)] : List (List Int))) c9) ([⟨a6, List.length ([(w64 (0 - (w64 ((w64 (2 + p0.Inputs)) + s1.1)))), x5.A] : List Int), c6⟩, ⟨a7, List.length ([(w64 (0 - (w64 ((w64 (2 + p0.Inputs)) + s1.1)))), x5.B] : List Int), c7⟩, ⟨a8, List.length ([(w64 ((w64 (2 + p0.Inputs)) + s1.1)), (w64 (0 - x5.A)), (w64 (0 - x5.B))] : List Int), c8⟩] : List Hd), BX b3 48 [I x4, L a4 s1.2 c4], HP.all own26 rs1 s1.2, sl26 (L a4 s1.2 c4) rs1, BX b2 48 [I 0, L none ([] : List (List Int)) 0], BX b1 53 [I p0.Inputs, L a1 p0.Gates c1]] w15 S15 := Sep.merge hs (fun _ h => h)
     refine from_pure 2 [(1, I p1), (2, B b1 0), (4, B b2 0), (6, B b3 0), (31, L a1 p0.Gates c1), (32, I (len p0.Gates)), (33, I s1.1), (61, .slice a9 (List.length ([([(w64 (0 - (w64 ((w64 (2 + p0.Inputs)) + s1.1)))), x5.A] : List Int), ([(w64 (0 - (w64 ((w64 (2 + p0.Inputs)) + s1.1)))), x5.B] : List Int), ([(w64 ((w64 (2 + p0.Inputs)) + s1.1)), (w64 (0 - x5.A)), (w64 (0 - x5.B))] : List Int)] : List (List Int))) c9), (62, I (len ([([(w64 (0 - (w64 ((w64 (2 + p0.Inputs)) + s1.1)))), x5.A] : List Int), ([(w64 (0 - (w64 ((w64 (2 + p0.Inputs)) + s1.1)))), x5.B] : List Int), ([(w64 ((w64 (2 + p0.Inputs)) + s1.1)), (w64 (0 - x5.A)), (w64 (0 - x5.B))] : List Int)] : List (List Int)))), (63, I 0)] hF (by kernel_rfl) fun fr hF => ?_
     refine from_end rfl (then_normal ?_)
     obtain ⟨rl2, hit2, h⟩ := bindE h
     have hk2 := h
     refine (wp_cut' (M := fun fr w' => ∃ rs4 a11 c11 S17 F4, FrS 88 [(1, I p1), (2, B b1 0), (4, B b2 0), (6, B b3 0), (31, L a1 p0.Gates c1), (32, I (len p0.Gates)), (33, I s1.1)] fr ∧ Mem w15 S15 F1 w' S17 F4 ∧ Sep [BX b3 48 [I x4, L a11 rl2 c11], HP.all own26 rs4 rl2, sl26 (L a11 rl2 c11) rs4, BX b2 48 [I 0, L none ([] : List (List Int)) 0], BX b1 53 [I p0.Inputs, L a1 p0.Gates c1]] w' S17) (wp_block (wp_iter (Inv := fun s2 fr w' => ∃ rs3 a10 c10 S16 F3, FrS 88 [(1, I p1), (2, B b1 0), (4, B b2 0), (6, B b3 0), (31, L a1 p0.Gates c1), (32, I (len p0.Gates)), (33, I s1.1), (61, .slice a9 (List.length ([([(w64 (0 - (w64 ((w64 (2 + p0.Inputs)) + s1.1)))), x5.A] : List Int), ([(w64 (0 - (w64 ((w64 (2 + p0.Inputs)) + s1.1)))), x5.B] : List Int), ([(w64 ((w64 (2 + p0.Inputs)) + s1.1)), (w64 (0 - x5.A)), (w64 (0 - x5.B))] : List Int)] : List (List Int))) c9), (62, I (len ([([(w64 (0 - (w64 ((w64 (2 + p0.Inputs)) + s1.1)))), x5.A] : List Int), ([(w64 (0 - (w64 ((w64 (2 + p0.Inputs)) + s1.1)))), x5.B] : List Int), ([(w64 ((w64 (2 + p0.Inputs)) + s1.1)), (w64 (0 - x5.A)), (w64 (0 - x5.B))] : List Int)] : List (List Int)))), (63, I s2.1)] fr ∧ Mem w15 S15 F1 w' S16 F3 ∧ Sep [HP.all own26 ([⟨a6, List.length ([(w64 (0 - (w64 ((w64 (2 + p0.Inputs)) + s1.1)))), x5.A] : List Int), c6⟩, ⟨a7, List.length ([(w64 (0 - (w64 ((w64 (2 + p0.Inputs)) + s1.1)))), x5.B] : List Int), c7⟩, ⟨a8, List.length ([(w64 ((w64 (2 + p0.Inputs)) + s1.1)), (w64 (0 - x5.A)), (w64 (0 - x5.B))] : List Int), c8⟩] : List Hd) ([([(w64 (0 - (w64 ((w64 (2 + p0.Inputs)) + s1.1)))), x5.A] : List Int), ([(w64 (0 - (w64 ((w64 (2 + p0.Inputs)) + s1.1)))), x5.B] : List Int), ([(w64 ((w64 (2 + p0.Inputs)) + s1.1)), (w64 (0 - x5.A)), (w64 (0 - x5.B))] : List Int)] : List (List Int)), sl26 (.slice a9 (List.length ([([(w64 (0 - (w64 ((w64 (2 + p0.Inputs)) + s1.1)))), x5.A] : List Int), ([(w64 (0 - (w64 ((w64 (2 + p0.Inputs)) + s1.1)))), x5.B] : List Int), ([(w64 ((w64 (2 + p0.Inputs)) + s1.1)), (w64 (0 - x5.A)), (w64 (0 - x5.B))] : List Int)] : List (List Int))) c9) ([⟨a6, List.length ([(w64 (0 - (w64 ((w64 (2 + p0.Inputs)) + s1.1)))), x5.A] : List Int), c6⟩, ⟨a7, List.length ([(w64 (0 - (w64 ((w64 (2 + p0.Inputs)) + s1.1)))), x5.B] : List Int), c7⟩, ⟨a8, List.length ([(w64 ((w64 (2 + p0.Inputs)) + s1.1)), (w64 (0 - x5.A)), (w64 (0 - x5.B))] : List Int), c8⟩] : List Hd), BX b3 48 [I x4, L a10 s2.2 c10], HP.all own26 rs3 s2.2, sl26 (L a10 s2.2 c10) rs3, BX b2 48 [I 0, L none ([] : List (List Int)) 0], BX b1 53 [I p0.Inputs, L a1 p0.Gates c1]] w' S16) hit2 ⟨rs1, a4, c4, S15, _, hF.sub _ (by kernel_rfl), (Mem.start hM1.bd hM1.bdF hM1.dj), hs⟩ fun s2 q2 fr w2i hI h hr2 => ?_)) fun fr w2o hM => ?_)
     · obtain ⟨rs3, a10, c10, S16, F3, hF, hM2, hs⟩ := hI
       have r1 := r1.mem hM2
       refine wp_seq (wp_pure [(1, I p1), (2, B b1 0), (4, B b2 0), (6, B b3 0), (31, L a1 p0.Gates c1), (32, I (len p0.Gates)), (33, I s1.1), (61, .slice a9 (List.length ([([(w64 (0 - (w64 ((w64 (2 + p0.Inputs)) + s1.1)))), x5.A] : List Int), ([(w64 (0 - (w64 ((w64 (2 + p0.Inputs)) + s1.1)))), x5.B] : List Int), ([(w64 ((w64 (2 + p0.Inputs)) + s1.1)), (w64 (0 - x5.A)), (w64 (0 - x5.B))] : List Int)] : List (List Int))) c9), (62, I (len ([([(w64 (0 - (w64 ((w64 (2 + p0.Inputs)) + s1.1)))), x5.A] : List Int), ([(w64 (0 - (w64 ((w64 (2 + p0.Inputs)) + s1.1)))), x5.B] : List Int), ([(w64 ((w64 (2 + p0.Inputs)) + s1.1)), (w64 (0 - x5.A)), (w64 (0 - x5.B))] : List Int)] : List (List Int)))), (63, I s2.1), (64, .bool (decide (s2.1 < (len ([([(w64 (0 - (w64 ((w64 (2 + p0.Inputs)) + s1.1)))), x5.A] : List Int), ([(w64 (0 - (w64 ((w64 (2 + p0.Inputs)) + s1.1)))), x5.B] : List Int), ([(w64 ((w64 (2 + p0.Inputs)) + s1.1)), (w64 (0 - x5.A)), (w64 (0 - x5.B))] : List Int)] : List (List Int))))))] hF (by kernel_rfl) fun fr hF => then_normal ?_)
       refine wp_seq (wp_if hF (b := (decide (s2.1 < (len ([([(w64 (0 - (w64 ((w64 (2 + p0.Inputs)) + s1.1)))), x5.A] : List Int), ([(w64 (0 - (w64 ((w64 (2 + p0.Inputs)) + s1.1)))), x5.B] : List Int), ([(w64 ((w64 (2 + p0.Inputs)) + s1.1)), (w64 (0 - x5.A)), (w64 (0 - x5.B))] : List Int)] : List (List Int)))))) rfl (fun hb => ?_) (fun hb => ?_))
       · replace h := iteT hb h
         refine (wp_skip (then_normal ?_))
         refine wp_seq (wp_block ?_)
         refine wp_seq (wp_text' ?_)
         obtain ⟨x6, hx6, h⟩ := bindE h
         refine q_getDs (z := x6) owns26 1 0 hs rfl rfl rty26 Try.underlying39 rfl rfl rfl rfl rfl hF rfl rfl hx6 fun a12 c12 _ fr hr1 hF => ?_
         refine from_pure 1 [(1, I p1), (2, B b1 0), (4, B b2 0), (6, B b3 0), (11, L a12 x6 c12), (31, L a1 p0.Gates c1), (32, I (len p0.Gates)), (33, I s1.1), (61, .slice a9 (List.length ([([(w64 (0 - (w64 ((w64 (2 + p0.Inputs)) + s1.1)))), x5.A] : List Int), ([(w64 (0 - (w64 ((w64 (2 + p0.Inputs)) + s1.1)))), x5.B] : List Int), ([(w64 ((w64 (2 + p0.Inputs)) + s1.1)), (w64 (0 - x5.A)), (w64 (0 - x5.B))] : List Int)] : List (List Int))) c9), (62, I (len ([([(w64 (0 - (w64 ((w64 (2 + p0.Inputs)) + s1.1)))), x5.A] : List Int), ([(w64 (0 - (w64 ((w64 (2 + p0.Inputs)) + s1.1)))), x5.B] : List Int), ([(w64 ((w64 (2 + p0.Inputs)) + s1.1)), (w64 (0 - x5.A)), (w64 (0 - x5.B))] : List Int)] : List (List Int)))), (63, I s2.1)] hF (by kernel_rfl) fun fr hF => ?_
         refine from_end rfl (then_normal ?_)
         refine wp_seq (wp_text' ?_)
         refine from_pure 1 [(1, I p1), (2, B b1 0), (4, B b2 0), (6, B b3 0), (31, L a1 p0.Gates c1), (32, I (len p0.Gates)), (33, I s1.1), (61, .slice a9 (List.length ([([(w64 (0 - (w64 ((w64 (2 + p0.Inputs)) + s1.1)))), x5.A] : List Int), ([(w64 (0 - (w64 ((w64 (2 + p0.Inputs)) + s1.1)))), x5.B] : List Int), ([(w64 ((w64 (2 + p0.Inputs)) + s1.1)), (w64 (0 - x5.A)), (w64 (0 - x5.B))] : List Int)] : List (List Int))) c9), (62, I (len ([([(w64 (0 - (w64 ((w64 (2 + p0.Inputs)) + s1.1)))), x5.A] : List Int), ([(w64 (0 - (w64 ((w64 (2 + p0.Inputs)) + s1.1)))), x5.B] : List Int), ([(w64 ((w64 (2 + p0.Inputs)) + s1.1)), (w64 (0 - x5.A)), (w64 (0 - x5.B))] : List Int)] : List (List Int)))), (63, I s2.1), (68, L a12 x6 c12)] hF (by kernel_rfl) fun fr hF => ?_
         obtain ⟨x7, hx7, h⟩ := bindE h
         refine s_call [L a12 x6 c12] Try.call75 rfl rfl hF rfl (impl_MakeClause_ok n x6 hx7 (hs.delem owns26 0 rfl hr1 (get?_at hx6))) fun v w16 fr hRes hF => ?_
         obtain ⟨a13, c13, rfl, _, hp, hs2⟩ := hRes
         obtain ⟨S18, hp, hs⟩ := hs.got hM2 hp hs2
         have r1 := r1.stp hM2 hp
         have hM2 := hM2.stp hp
         have hs : Sep [sl3 (L a13 x7.1 c13) x7.1, HP.all own26 ([⟨a6, List.length ([(w64 (0 - (w64 ((w64 (2 + p0.Inputs)) + s1.1)))), x5.A] : List Int), c6⟩, ⟨a7, List.length ([(w64 (0 - (w64 ((w64 (2 + p0.Inputs)) + s1.1)))), x5.B] : List Int), c7⟩, ⟨a8, List.length ([(w64 ((w64 (2 + p0.Inputs)) + s1.1)), (w64 (0 - x5.A)), (w64 (0 - x5.B))] : List Int), c8⟩] : List Hd) ([([(w64 (0 - (w64 ((w64 (2 + p0.Inputs)) + s1.1)))), x5.A] : List Int), ([(w64 (0 - (w64 ((w64 (2 + p0.Inputs)) + s1.1)))), x5.B] : List Int), ([(w64 ((w64 (2 + p0.Inputs)) + s1.1)), (w64 (0 - x5.A)), (w64 (0 - x5.B))] : List Int)] : List (List Int)), sl26 (.slice a9 (List.length ([([(w64 (0 - (w64 ((w64 (2 + p0.Inputs)) + s1.1)))), x5.A] : List Int), ([(w64 (0 - (w64 ((w64 (2 + p0.Inputs)) + s1.1)))), x5.B] : List Int), ([(w64 ((w64 (2 + p0.Inputs)) + s1.1)), (w64 (0 - x5.A)), (w64 (0 - x5.B))] : List Int)] : List (List Int))) c9) ([⟨a6, List.length ([(w64 (0 - (w64 ((w64 (2 + p0.Inputs)) + s1.1)))), x5.A] : List Int), c6⟩, ⟨a7, List.length ([(w64 (0 - (w64 ((w64 (2 + p0.Inputs)) + s1.1)))), x5.B] : List Int), c7⟩, ⟨a8, List.length ([(w64 ((w64 (2 + p0.Inputs)) + s1.1)), (w64 (0 - x5.A)), (w64 (0 - x5.B))] : List Int), c8⟩] : List Hd), BX b3 48 [I x4, L a10 s2.2 c10], HP.all own26 rs3 s2.2, sl26 (L a10 s2.2 c10) rs3, BX b2 48 [I 0, L none ([] : List (List Int)) 0], BX b1 53 [I p0.Inputs, L a1 p0.Gates c1]] w16 S18 := hs
         refine from_pure 5 [(1, I p1), (2, B b1 0), (4, B b2 0), (6, B b3 0), (12, L a13 x7.1 c13), (31, L a1 p0.Gates c1), (32, I (len p0.Gates)), (33, I s1.1), (61, .slice a9 (List.length ([([(w64 (0 - (w64 ((w64 (2 + p0.Inputs)) + s1.1)))), x5.A] : List Int), ([(w64 (0 - (w64 ((w64 (2 + p0.Inputs)) + s1.1)))), x5.B] : List Int), ([(w64 ((w64 (2 + p0.Inputs)) + s1.1)), (w64 (0 - x5.A)), (w64 (0 - x5.B))] : List Int)] : List (List Int))) c9), (62, I (len ([([(w64 (0 - (w64 ((w64 (2 + p0.Inputs)) + s1.1)))), x5.A] : List Int), ([(w64 (0 - (w64 ((w64 (2 + p0.Inputs)) + s1.1)))), x5.B] : List Int), ([(w64 ((w64 (2 + p0.Inputs)) + s1.1)), (w64 (0 - x5.A)), (w64 (0 - x5.B))] : List Int)] : List (List Int)))), (63, I s2.1)] hF (by kernel_rfl) fun fr hF => ?_
         refine from_end rfl (then_normal ?_)
         refine (wp_text' ?_)
         refine from_pure 1 [(1, I p1), (2, B b1 0), (4, B b2 0), (6, B b3 0), (12, L a13 x7.1 c13), (31, L a1 p0.Gates c1), (32, I (len p0.Gates)), (33, I s1.1), (61, .slice a9 (List.length ([([(w64 (0 - (w64 ((w64 (2 + p0.Inputs)) + s1.1)))), x5.A] : List Int), ([(w64 (0 - (w64 ((w64 (2 + p0.Inputs)) + s1.1)))), x5.B] : List Int), ([(w64 ((w64 (2 + p0.Inputs)) + s1.1)), (w64 (0 - x5.A)), (w64 (0 - x5.B))] : List Int)] : List (List Int))) c9), (62, I (len ([([(w64 (0 - (w64 ((w64 (2 + p0.Inputs)) + s1.1)))), x5.A] : List Int), ([(w64 (0 - (w64 ((w64 (2 + p0.Inputs)) + s1.1)))), x5.B] : List Int), ([(w64 ((w64 (2 + p0.Inputs)) + s1.1)), (w64 (0 - x5.A)), (w64 (0 - x5.B))] : List Int)] : List (List Int)))), (63, I s2.1), (72, B b3 1)] hF (by kernel_rfl) fun fr hF => ?_
         refine s_loadBox (L a10 s2.2 c10) ty39 rfl rfl hF rfl (hs.bx 3 rfl) rfl rfl fun fr hF => ?_
         refine from_pure 1 [(1, I p1), (2, B b1 0), (4, B b2 0), (6, B b3 0), (31, L a1 p0.Gates c1), (32, I (len p0.Gates)), (33, I s1.1), (61, .slice a9 (List.length ([([(w64 (0 - (w64 ((w64 (2 + p0.Inputs)) + s1.1)))), x5.A] : List Int), ([(w64 (0 - (w64 ((w64 (2 + p0.Inputs)) + s1.1)))), x5.B] : List Int), ([(w64 ((w64 (2 + p0.Inputs)) + s1.1)), (w64 (0 - x5.A)), (w64 (0 - x5.B))] : List Int)] : List (List Int))) c9), (62, I (len ([([(w64 (0 - (w64 ((w64 (2 + p0.Inputs)) + s1.1)))), x5.A] : List Int), ([(w64 (0 - (w64 ((w64 (2 + p0.Inputs)) + s1.1)))), x5.B] : List Int), ([(w64 ((w64 (2 + p0.Inputs)) + s1.1)), (w64 (0 - x5.A)), (w64 (0 - x5.B))] : List Int)] : List (List Int)))), (63, I s2.1), (73, L a10 s2.2 c10), (74, L a13 x7.1 c13)] hF (by kernel_rfl) fun fr hF => ?_
         refine q_lit (E := 26) hs hM2 [L a13 x7.1 c13] (([⟨a13, List.length x7.1, c13⟩] : List Hd).map Flat.enc) ([⟨a13, List.length x7.1, c13⟩] : List Hd) rfl rfl hF [L a13 x7.1 c13] rfl (fun w => by kernel_rfl) (css_flat _) rfl rfl rfl fun a14 c14 w17 S19 fr hs hp hF => ?_
         have r1 := r1.stp hM2 hp
         have hM2 := hM2.stp hp
         have hs : Sep [sl26 (L a14 ([x7.1] : List (List Int)) c14) ([⟨a13, List.length x7.1, c13⟩] : List Hd), sl3 (L a13 x7.1 c13) x7.1, HP.all own26 ([⟨a6, List.length ([(w64 (0 - (w64 ((w64 (2 + p0.Inputs)) + s1.1)))), x5.A] : List Int), c6⟩, ⟨a7, List.length ([(w64 (0 - (w64 ((w64 (2 + p0.Inputs)) + s1.1)))), x5.B] : List Int), c7⟩, ⟨a8, List.length ([(w64 ((w64 (2 + p0.Inputs)) + s1.1)), (w64 (0 - x5.A)), (w64 (0 - x5.B))] : List Int), c8⟩] : List Hd) ([([(w64 (0 - (w64 ((w64 (2 + p0.Inputs)) + s1.1)))), x5.A] : List Int), ([(w64 (0 - (w64 ((w64 (2 + p0.Inputs)) + s1.1)))), x5.B] : List Int), ([(w64 ((w64 (2 + p0.Inputs)) + s1.1)), (w64 (0 - x5.A)), (w64 (0 - x5.B))] : List Int)] : List (List Int)), sl26 (.slice a9 (List.length ([([(w64 (0 - (w64 ((w64 (2 + p0.Inputs)) + s1.1)))), x5.A] : List Int), ([(w64 (0 - (w64 ((w64 (2 + p0.Inputs)) + s1.1)))), x5.B] : List Int), ([(w64 ((w64 (2 + p0.Inputs)) + s1.1)), (w64 (0 - x5.A)), (w64 (0 - x5.B))] : List Int)] : List (List Int))) c9) ([⟨a6, List.length ([(w64 (0 - (w64 ((w64 (2 + p0.Inputs)) + s1.1)))), x5.A] : List Int), c6⟩, ⟨a7, List.length ([(w64 (0 - (w64 ((w64 (2 + p0.Inputs)) + s1.1)))), x5.B] : List Int), c7⟩, ⟨a8, List.length ([(w64 ((w64 (2 + p0.Inputs)) + s1.1)), (w64 (0 - x5.A)), (w64 (0 - x5.B))] : List Int), c8⟩] : List Hd), BX b3 48 [I x4, L a10 s2.2 c10], HP.all own26 rs3 s2.2, sl26 (L a10 s2.2 c10) rs3, BX b2 48 [I 0, L none ([] : List (List Int)) 0], BX b1 53 [I p0.Inputs, L a1 p0.Gates c1]] w17 S19 := hs
         have hs : Sep [HP.all own26 ([] : List Hd) ([] : List (List Int)), sl26 (L a14 ([x7.1] : List (List Int)) c14) ([⟨a13, List.length x7.1, c13⟩] : List Hd), sl3 (L a13 x7.1 c13) x7.1, HP.all own26 ([⟨a6, List.length ([(w64 (0 - (w64 ((w64 (2 + p0.Inputs)) + s1.1)))), x5.A] : List Int), c6⟩, ⟨a7, List.length ([(w64 (0 - (w64 ((w64 (2 + p0.Inputs)) + s1.1)))), x5.B] : List Int), c7⟩, ⟨a8, List.length ([(w64 ((w64 (2 + p0.Inputs)) + s1.1)), (w64 (0 - x5.A)), (w64 (0 - x5.B))] : List Int), c8⟩] : List Hd) ([([(w64 (0 - (w64 ((w64 (2 + p0.Inputs)) + s1.1)))), x5.A] : List Int), ([(w64 (0 - (w64 ((w64 (2 + p0.Inputs)) + s1.1)))), x5.B] : List Int), ([(w64 ((w64 (2 + p0.Inputs)) + s1.1)), (w64 (0 - x5.A)), (w64 (0 - x5.B))] : List Int)] : List (List Int)), sl26 (.slice a9 (List.length ([([(w64 (0 - (w64 ((w64 (2 + p0.Inputs)) + s1.1)))), x5.A] : List Int), ([(w64 (0 - (w64 ((w64 (2 + p0.Inputs)) + s1.1)))), x5.B] : List Int), ([(w64 ((w64 (2 + p0.Inputs)) + s1.1)), (w64 (0 - x5.A)), (w64 (0 - x5.B))] : List Int)] : List (List Int))) c9) ([⟨a6, List.length ([(w64 (0 - (w64 ((w64 (2 + p0.Inputs)) + s1.1)))), x5.A] : List Int), c6⟩, ⟨a7, List.length ([(w64 (0 - (w64 ((w64 (2 + p0.Inputs)) + s1.1)))), x5.B] : List Int), c7⟩, ⟨a8, List.length ([(w64 ((w64 (2 + p0.Inputs)) + s1.1)), (w64 (0 - x5.A)), (w64 (0 - x5.B))] : List Int), c8⟩] : List Hd), BX b3 48 [I x4, L a10 s2.2 c10], HP.all own26 rs3 s2.2, sl26 (L a10 s2.2 c10) rs3, BX b2 48 [I 0, L none ([] : List (List Int)) 0], BX b1 53 [I p0.Inputs, L a1 p0.Gates c1]] w17 S19 := hs.emp (HP.all own26 [] []) trivial
         have hs : Sep [sl3 (L a13 x7.1 c13) x7.1, HP.all own26 ([] : List Hd) ([] : List (List Int)), sl26 (L a14 ([x7.1] : List (List Int)) c14) ([⟨a13, List.length x7.1, c13⟩] : List Hd), HP.all own26 ([⟨a6, List.length ([(w64 (0 - (w64 ((w64 (2 + p0.Inputs)) + s1.1)))), x5.A] : List Int), c6⟩, ⟨a7, List.length ([(w64 (0 - (w64 ((w64 (2 + p0.Inputs)) + s1.1)))), x5.B] : List Int), c7⟩, ⟨a8, List.length ([(w64 ((w64 (2 + p0.Inputs)) + s1.1)), (w64 (0 - x5.A)), (w64 (0 - x5.B))] : List Int), c8⟩] : List Hd) ([([(w64 (0 - (w64 ((w64 (2 + p0.Inputs)) + s1.1)))), x5.A] : List Int), ([(w64 (0 - (w64 ((w64 (2 + p0.Inputs)) + s1.1)))), x5.B] : List Int), ([(w64 ((w64 (2 + p0.Inputs)) + s1.1)), (w64 (0 - x5.A)), (w64 (0 - x5.B))] : List Int)] : List (List Int)), sl26 (.slice a9 (List.length ([([(w64 (0 - (w64 ((w64 (2 + p0.Inputs)) + s1.1)))), x5.A] : List Int), ([(w64 (0 - (w64 ((w64 (2 + p0.Inputs)) + s1.1)))), x5.B] : List Int), ([(w64 ((w64 (2 + p0.Inputs)) + s1.1)), (w64 (0 - x5.A)), (w64 (0 - x5.B))] : List Int)] : List (List Int))) c9) ([⟨a6, List.length ([(w64 (0 - (w64 ((w64 (2 + p0.Inputs)) + s1.1)))), x5.A] : List Int), c6⟩, ⟨a7, List.length ([(w64 (0 - (w64 ((w64 (2 + p0.Inputs)) + s1.1)))), x5.B] : List Int), c7⟩, ⟨a8, List.length ([(w64 ((w64 (2 + p0.Inputs)) + s1.1)), (w64 (0 - x5.A)), (w64 (0 - x5.B))] : List Int), c8⟩] : List Hd), BX b3 48 [I x4, L a10 s2.2 c10], HP.all own26 rs3 s2.2, sl26 (L a10 s2.2 c10) rs3, BX b2 48 [I 0, L none ([] : List (List Int)) 0], BX b1 53 [I p0.Inputs, L a1 p0.Gates c1]] w17 S19 := Sep.pick [2, 0, 1, 3, 4, 5, 6, 7, 8, 9] hs (by decide) rfl
         have hs : Sep [HP.all own26 ([⟨a13, List.length x7.1, c13⟩] : List Hd) ([x7.1] : List (List Int)), sl26 (L a14 ([x7.1] : List (List Int)) c14) ([⟨a13, List.length x7.1, c13⟩] : List Hd), HP.all own26 ([⟨a6, List.length ([(w64 (0 - (w64 ((w64 (2 + p0.Inputs)) + s1.1)))), x5.A] : List Int), c6⟩, ⟨a7, List.length ([(w64 (0 - (w64 ((w64 (2 + p0.Inputs)) + s1.1)))), x5.B] : List Int), c7⟩, ⟨a8, List.length ([(w64 ((w64 (2 + p0.Inputs)) + s1.1)), (w64 (0 - x5.A)), (w64 (0 - x5.B))] : List Int), c8⟩] : List Hd) ([([(w64 (0 - (w64 ((w64 (2 + p0.Inputs)) + s1.1)))), x5.A] : List Int), ([(w64 (0 - (w64 ((w64 (2 + p0.Inputs)) + s1.1)))), x5.B] : List Int), ([(w64 ((w64 (2 + p0.Inputs)) + s1.1)), (w64 (0 - x5.A)), (w64 (0 - x5.B))] : List Int)] : List (List Int)), sl26 (.slice a9 (List.length ([([(w64 (0 - (w64 ((w64 (2 + p0.Inputs)) + s1.1)))), x5.A] : List Int), ([(w64 (0 - (w64 ((w64 (2 + p0.Inputs)) + s1.1)))), x5.B] : List Int), ([(w64 ((w64 (2 + p0.Inputs)) + s1.1)), (w64 (0 - x5.A)), (w64 (0 - x5.B))] : List Int)] : List (List Int))) c9) ([⟨a6, List.length ([(w64 (0 - (w64 ((w64 (2 + p0.Inputs)) + s1.1)))), x5.A] : List Int), c6⟩, ⟨a7, List.length ([(w64 (0 - (w64 ((w64 (2 + p0.Inputs)) + s1.1)))), x5.B] : List Int), c7⟩, ⟨a8, List.length ([(w64 ((w64 (2 + p0.Inputs)) + s1.1)), (w64 (0 - x5.A)), (w64 (0 - x5.B))] : List Int), c8⟩] : List Hd), BX b3 48 [I x4, L a10 s2.2 c10], HP.all own26 rs3 s2.2, sl26 (L a10 s2.2 c10) rs3, BX b2 48 [I 0, L none ([] : List (List Int)) 0], BX b1 53 [I p0.Inputs, L a1 p0.Gates c1]] w17 S19 := Sep.merge hs (fun _ h => h)
         have hs : Sep [sl26 (L a10 s2.2 c10) rs3, HP.all own26 rs3 s2.2, HP.all own26 ([⟨a13, List.length x7.1, c13⟩] : List Hd) ([x7.1] : List (List Int)), sl26 (L a14 ([x7.1] : List (List Int)) c14) ([⟨a13, List.length x7.1, c13⟩] : List Hd), HP.all own26 ([⟨a6, List.length ([(w64 (0 - (w64 ((w64 (2 + p0.Inputs)) + s1.1)))), x5.A] : List Int), c6⟩, ⟨a7, List.length ([(w64 (0 - (w64 ((w64 (2 + p0.Inputs)) + s1.1)))), x5.B] : List Int), c7⟩, ⟨a8, List.length ([(w64 ((w64 (2 + p0.Inputs)) + s1.1)), (w64 (0 - x5.A)), (w64 (0 - x5.B))] : List Int), c8⟩] : List Hd) ([([(w64 (0 - (w64 ((w64 (2 + p0.Inputs)) + s1.1)))), x5.A] : List Int), ([(w64 (0 - (w64 ((w64 (2 + p0.Inputs)) + s1.1)))), x5.B] : List Int), ([(w64 ((w64 (2 + p0.Inputs)) + s1.1)), (w64 (0 - x5.A)), (w64 (0 - x5.B))] : List Int)] : List (List Int)), sl26 (.slice a9 (List.length ([([(w64 (0 - (w64 ((w64 (2 + p0.Inputs)) + s1.1)))), x5.A] : List Int), ([(w64 (0 - (w64 ((w64 (2 + p0.Inputs)) + s1.1)))), x5.B] : List Int), ([(w64 ((w64 (2 + p0.Inputs)) + s1.1)), (w64 (0 - x5.A)), (w64 (0 - x5.B))] : List Int)] : List (List Int))) c9) ([⟨a6, List.length ([(w64 (0 - (w64 ((w64 (2 + p0.Inputs)) + s1.1)))), x5.A] : List Int), c6⟩, ⟨a7, List.length ([(w64 (0 - (w64 ((w64 (2 + p0.Inputs)) + s1.1)))), x5.B] : List Int), c7⟩, ⟨a8, List.length ([(w64 ((w64 (2 + p0.Inputs)) + s1.1)), (w64 (0 - x5.A)), (w64 (0 - x5.B))] : List Int), c8⟩] : List Hd), BX b3 48 [I x4, L a10 s2.2 c10], BX b2 48 [I 0, L none ([] : List (List Int)) 0], BX b1 53 [I p0.Inputs, L a1 p0.Gates c1]] w17 S19 := Sep.pick [6, 5, 0, 1, 2, 3, 4, 7, 8] hs (by decide) rfl
         obtain ⟨x8, hx8, h⟩ := bindE h
         refine q_appendD hs hM2 Try.underlying39 rel26 rfl rfl rfl hF rfl rfl (hs.rv 3 rfl) hx8 fun a15 c15 rs5 w18 S20 fr hs hp hF => ?_
         have r1 := r1.stp hM2 hp
         have hM2 := hM2.stp hp
         have hs : Sep [sl26 (L a15 x8 c15) rs5, HP.all own26 rs5 x8, sl26 (L a14 ([x7.1] : List (List Int)) c14) ([⟨a13, List.length x7.1, c13⟩] : List Hd), HP.all own26 ([⟨a6, List.length ([(w64 (0 - (w64 ((w64 (2 + p0.Inputs)) + s1.1)))), x5.A] : List Int), c6⟩, ⟨a7, List.length ([(w64 (0 - (w64 ((w64 (2 + p0.Inputs)) + s1.1)))), x5.B] : List Int), c7⟩, ⟨a8, List.length ([(w64 ((w64 (2 + p0.Inputs)) + s1.1)), (w64 (0 - x5.A)), (w64 (0 - x5.B))] : List Int), c8⟩] : List Hd) ([([(w64 (0 - (w64 ((w64 (2 + p0.Inputs)) + s1.1)))), x5.A] : List Int), ([(w64 (0 - (w64 ((w64 (2 + p0.Inputs)) + s1.1)))), x5.B] : List Int), ([(w64 ((w64 (2 + p0.Inputs)) + s1.1)), (w64 (0 - x5.A)), (w64 (0 - x5.B))] : List Int)] : List (List Int)), sl26 (.slice a9 (List.length ([([(w64 (0 - (w64 ((w64 (2 + p0.Inputs)) + s1.1)))), x5.A] : List Int), ([(w64 (0 - (w64 ((w64 (2 + p0.Inputs)) + s1.1)))), x5.B] : List Int), ([(w64 ((w64 (2 + p0.Inputs)) + s1.1)), (w64 (0 - x5.A)), (w64 (0 - x5.B))] : List Int)] : List (List Int))) c9) ([⟨a6, List.length ([(w64 (0 - (w64 ((w64 (2 + p0.Inputs)) + s1.1)))), x5.A] : List Int), c6⟩, ⟨a7, List.length ([(w64 (0 - (w64 ((w64 (2 + p0.Inputs)) + s1.1)))), x5.B] : List Int), c7⟩, ⟨a8, List.length ([(w64 ((w64 (2 + p0.Inputs)) + s1.1)), (w64 (0 - x5.A)), (w64 (0 - x5.B))] : List Int), c8⟩] : List Hd), BX b3 48 [I x4, L a10 s2.2 c10], BX b2 48 [I 0, L none ([] : List (List Int)) 0], BX b1 53 [I p0.Inputs, L a1 p0.Gates c1]] w18 S20 := hs
         have hs : Sep [sl26 (L a15 x8 c15) rs5, HP.all own26 rs5 x8, HP.all own26 ([⟨a6, List.length ([(w64 (0 - (w64 ((w64 (2 + p0.Inputs)) + s1.1)))), x5.A] : List Int), c6⟩, ⟨a7, List.length ([(w64 (0 - (w64 ((w64 (2 + p0.Inputs)) + s1.1)))), x5.B] : List Int), c7⟩, ⟨a8, List.length ([(w64 ((w64 (2 + p0.Inputs)) + s1.1)), (w64 (0 - x5.A)), (w64 (0 - x5.B))] : List Int), c8⟩] : List Hd) ([([(w64 (0 - (w64 ((w64 (2 + p0.Inputs)) + s1.1)))), x5.A] : List Int), ([(w64 (0 - (w64 ((w64 (2 + p0.Inputs)) + s1.1)))), x5.B] : List Int), ([(w64 ((w64 (2 + p0.Inputs)) + s1.1)), (w64 (0 - x5.A)), (w64 (0 - x5.B))] : List Int)] : List (List Int)), sl26 (.slice a9 (List.length ([([(w64 (0 - (w64 ((w64 (2 + p0.Inputs)) + s1.1)))), x5.A] : List Int), ([(w64 (0 - (w64 ((w64 (2 + p0.Inputs)) + s1.1)))), x5.B] : List Int), ([(w64 ((w64 (2 + p0.Inputs)) + s1.1)), (w64 (0 - x5.A)), (w64 (0 - x5.B))] : List Int)] : List (List Int))) c9) ([⟨a6, List.length ([(w64 (0 - (w64 ((w64 (2 + p0.Inputs)) + s1.1)))), x5.A] : List Int), c6⟩, ⟨a7, List.length ([(w64 (0 - (w64 ((w64 (2 + p0.Inputs)) + s1.1)))), x5.B] : List Int), c7⟩, ⟨a8, List.length ([(w64 ((w64 (2 + p0.Inputs)) + s1.1)), (w64 (0 - x5.A)), (w64 (0 - x5.B))] : List Int), c8⟩] : List Hd), BX b3 48 [I x4, L a10 s2.2 c10], BX b2 48 [I 0, L none ([] : List (List Int)) 0], BX b1 53 [I p0.Inputs, L a1 p0.Gates c1]] w18 S20 := Sep.pick [0, 1, 3, 4, 5, 6, 7] hs (by decide) rfl
         refine from_pure 1 [(1, I p1), (2, B b1 0), (4, B b2 0), (6, B b3 0), (31, L a1 p0.Gates c1), (32, I (len p0.Gates)), (33, I s1.1), (61, .slice a9 (List.length ([([(w64 (0 - (w64 ((w64 (2 + p0.Inputs)) + s1.1)))), x5.A] : List Int), ([(w64 (0 - (w64 ((w64 (2 + p0.Inputs)) + s1.1)))), x5.B] : List Int), ([(w64 ((w64 (2 + p0.Inputs)) + s1.1)), (w64 (0 - x5.A)), (w64 (0 - x5.B))] : List Int)] : List (List Int))) c9), (62, I (len ([([(w64 (0 - (w64 ((w64 (2 + p0.Inputs)) + s1.1)))), x5.A] : List Int), ([(w64 (0 - (w64 ((w64 (2 + p0.Inputs)) + s1.1)))), x5.B] : List Int), ([(w64 ((w64 (2 + p0.Inputs)) + s1.1)), (w64 (0 - x5.A)), (w64 (0 - x5.B))] : List Int)] : List (List Int)))), (63, I s2.1), (76, L a15 x8 c15), (77, B b3 1)] hF (by kernel_rfl) fun fr hF => ?_
         refine q_storeBox 4 hs hM2 rfl [I x4, L a15 x8 c15] rfl hF rfl rfl (by kernel_rfl) rfl rfl rfl fun w19 S21 hs hp hF => ?_
         have r1 := r1.stp hM2 hp
         have hM2 := hM2.stp hp
         have hs : Sep [sl26 (L a15 x8 c15) rs5, HP.all own26 rs5 x8, HP.all own26 ([⟨a6, List.length ([(w64 (0 - (w64 ((w64 (2 + p0.Inputs)) + s1.1)))), x5.A] : List Int), c6⟩, ⟨a7, List.length ([(w64 (0 - (w64 ((w64 (2 + p0.Inputs)) + s1.1)))), x5.B] : List Int), c7⟩, ⟨a8, List.length ([(w64 ((w64 (2 + p0.Inputs)) + s1.1)), (w64 (0 - x5.A)), (w64 (0 - x5.B))] : List Int), c8⟩] : List Hd) ([([(w64 (0 - (w64 ((w64 (2 + p0.Inputs)) + s1.1)))), x5.A] : List Int), ([(w64 (0 - (w64 ((w64 (2 + p0.Inputs)) + s1.1)))), x5.B] : List Int), ([(w64 ((w64 (2 + p0.Inputs)) + s1.1)), (w64 (0 - x5.A)), (w64 (0 - x5.B))] : List Int)] : List (List Int)), sl26 (.slice a9 (List.length ([([(w64 (0 - (w64 ((w64 (2 + p0.Inputs)) + s1.1)))), x5.A] : List Int), ([(w64 (0 - (w64 ((w64 (2 + p0.Inputs)) + s1.1)))), x5.B] : List Int), ([(w64 ((w64 (2 + p0.Inputs)) + s1.1)), (w64 (0 - x5.A)), (w64 (0 - x5.B))] : List Int)] : List (List Int))) c9) ([⟨a6, List.length ([(w64 (0 - (w64 ((w64 (2 + p0.Inputs)) + s1.1)))), x5.A] : List Int), c6⟩, ⟨a7, List.length ([(w64 (0 - (w64 ((w64 (2 + p0.Inputs)) + s1.1)))), x5.B] : List Int), c7⟩, ⟨a8, List.length ([(w64 ((w64 (2 + p0.Inputs)) + s1.1)), (w64 (0 - x5.A)), (w64 (0 - x5.B))] : List Int), c8⟩] : List Hd), BX b3 48 [I x4, L a15 x8 c15], BX b2 48 [I 0, L none ([] : List (List Int)) 0], BX b1 53 [I p0.Inputs, L a1 p0.Gates c1]] w19 S21 := hs
         refine from_end rfl ?_
         refine blk_normal (then_normal ?_)
         refine (wp_pure [(1, I p1), (2, B b1 0), (4, B b2 0), (6, B b3 0), (31, L a1 p0.Gates c1), (32, I (len p0.Gates)), (33, I s1.1), (61, .slice a9 (List.length ([([(w64 (0 - (w64 ((w64 (2 + p0.Inputs)) + s1.1)))), x5.A] : List Int), ([(w64 (0 - (w64 ((w64 (2 + p0.Inputs)) + s1.1)))), x5.B] : List Int), ([(w64 ((w64 (2 + p0.Inputs)) + s1.1)), (w64 (0 - x5.A)), (w64 (0 - x5.B))] : List Int)] : List (List Int))) c9), (62, I (len ([([(w64 (0 - (w64 ((w64 (2 + p0.Inputs)) + s1.1)))), x5.A] : List Int), ([(w64 (0 - (w64 ((w64 (2 + p0.Inputs)) + s1.1)))), x5.B] : List Int), ([(w64 ((w64 (2 + p0.Inputs)) + s1.1)), (w64 (0 - x5.A)), (w64 (0 - x5.B))] : List Int)] : List (List Int)))), (63, I (w64 (s2.1 + 1)))] hF (by kernel_rfl) fun fr hF => then_normal ?_)
         have hs : Sep [HP.all own26 ([⟨a6, List.length ([(w64 (0 - (w64 ((w64 (2 + p0.Inputs)) + s1.1)))), x5.A] : List Int), c6⟩, ⟨a7, List.length ([(w64 (0 - (w64 ((w64 (2 + p0.Inputs)) + s1.1)))), x5.B] : List Int), c7⟩, ⟨a8, List.length ([(w64 ((w64 (2 + p0.Inputs)) + s1.1)), (w64 (0 - x5.A)), (w64 (0 - x5.B))] : List Int), c8⟩] : List Hd) ([([(w64 (0 - (w64 ((w64 (2 + p0.Inputs)) + s1.1)))), x5.A] : List Int), ([(w64 (0 - (w64 ((w64 (2 + p0.Inputs)) + s1.1)))), x5.B] : List Int), ([(w64 ((w64 (2 + p0.Inputs)) + s1.1)), (w64 (0 - x5.A)), (w64 (0 - x5.B))] : List Int)] : List (List Int)), sl26 (.slice a9 (List.length ([([(w64 (0 - (w64 ((w64 (2 + p0.Inputs)) + s1.1)))), x5.A] : List Int), ([(w64 (0 - (w64 ((w64 (2 + p0.Inputs)) + s1.1)))), x5.B] : List Int), ([(w64 ((w64 (2 + p0.Inputs)) + s1.1)), (w64 (0 - x5.A)), (w64 (0 - x5.B))] : List Int)] : List (List Int))) c9) ([⟨a6, List.length ([(w64 (0 - (w64 ((w64 (2 + p0.Inputs)) + s1.1)))), x5.A] : List Int), c6⟩, ⟨a7, List.length ([(w64 (0 - (w64 ((w64 (2 + p0.Inputs)) + s1.1)))), x5.B] : List Int), c7⟩, ⟨a8, List.length ([(w64 ((w64 (2 + p0.Inputs)) + s1.1)), (w64 (0 - x5.A)), (w64 (0 - x5.B))] : List Int), c8⟩] : List Hd), BX b3 48 [I x4, L a15 x8 c15], HP.all own26 rs5 x8, sl26 (L a15 x8 c15) rs5, BX b2 48 [I 0, L none ([] : List (List Int)) 0], BX b1 53 [I p0.Inputs, L a1 p0.Gates c1]] w19 S21 := Sep.pick [2, 3, 4, 1, 0, 5, 6] hs (by decide) rfl
         exact ⟨_, (Option.some.inj h).symm, rs5, a15, c15, S21, _, hF.sub _ (by kernel_rfl), hM2, hs⟩
       replace h := iteF hb h
       have hs : Sep [BX b3 48 [I x4, L a10 s2.2 c10], HP.all own26 rs3 s2.2, sl26 (L a10 s2.2 c10) rs3, BX b2 48 [I 0, L none ([] : List (List Int)) 0], BX b1 53 [I p0.Inputs, L a1 p0.Gates c1]] w2i S16 := Sep.pick [2, 3, 4, 5, 6] hs (by decide) rfl
       refine (wp_exit (then_exit (then_exit (blk_exit_eq ?_))))
       obtain rfl := hr2 _ (Option.some.inj h).symm
       exact then_normal ⟨rs3, a10, c10, S16, _, hF.sub _ (by kernel_rfl), hM2, hs⟩
     · obtain ⟨rs4, a11, c11, S17, F4, hF, hMx, hs⟩ := hM
       have r1 := r1.mem hMx
       have hM1 := hM1.trans hMx
       refine blk_normal (then_normal ?_)
       refine (wp_pure [(1, I p1), (2, B b1 0), (4, B b2 0), (6, B b3 0), (31, L a1 p0.Gates c1), (32, I (len p0.Gates)), (33, I (w64 (s1.1 + 1)))] hF (by kernel_rfl) fun fr hF => then_normal ?_)
       exact ⟨_, (Option.some.inj h).symm, rs4, a11, c11, S17, _, hF.sub _ (by kernel_rfl), hM1, hs⟩
   replace h := iteF hb h
   have hs : Sep [BX b3 48 [I x4, L a4 s1.2 c4], HP.all own26 rs1 s1.2, sl26 (L a4 s1.2 c4) rs1, BX b2 48 [I 0, L none ([] : List (List Int)) 0]] w1i S8 := Sep.pick [0, 1, 2, 3] hs (by decide) rfl
   refine (wp_exit (then_exit (then_exit (blk_exit_eq ?_))))
   obtain rfl := hr1 _ (Option.some.inj h).symm
   exact then_normal ⟨rs1, a4, c4, S8, _, hF.sub _ (by kernel_rfl), hM1, hs⟩
 · obtain ⟨rs2, a5, c5, S9, F2, hF, hMx, hs⟩ := hM
   have hM0 := hM0.trans hMx
   refine wp_seq (wp_text' ?_)
   refine from_pure 1 [(1, I p1), (4, B b2 0), (6, B b3 0), (80, B b3 1)] hF (by kernel_rfl) fun fr hF => ?_
   refine s_loadBox (L a5 rl1 c5) ty39 rfl rfl hF rfl (hs.bx 0 rfl) rfl rfl fun fr hF => ?_
   refine from_pure 1 [(4, B b2 0), (6, B b3 0), (81, L a5 rl1 c5), (82, I p1)] hF (by kernel_rfl) fun fr hF => ?_
   refine q_lit (E := 3) hs hM0 [I p1] (([p1] : List Int).map Flat.enc) ([p1] : List Int) rfl rfl hF [I p1] rfl (fun w => by kernel_rfl) (css_flat _) rfl rfl rfl fun a16 c16 w20 S22 fr hs hp hF => ?_
   have hM0 := hM0.stp hp
   have hs : Sep [sl3 (L a16 ([p1] : List Int) c16) ([p1] : List Int), BX b3 48 [I x4, L a5 rl1 c5], HP.all own26 rs2 rl1, sl26 (L a5 rl1 c5) rs2, BX b2 48 [I 0, L none ([] : List (List Int)) 0]] w20 S22 := hs
   refine q_lit (E := 26) hs hM0 [L a16 ([p1] : List Int) c16] (([⟨a16, List.length ([p1] : List Int), c16⟩] : List Hd).map Flat.enc) ([⟨a16, List.length ([p1] : List Int), c16⟩] : List Hd) rfl rfl hF [L a16 ([p1] : List Int) c16] rfl (fun w => by kernel_rfl) (css_flat _) rfl rfl rfl fun a17 c17 w21 S23 fr hs hp hF => ?_
   have hM0 := hM0.stp hp
   have hs : Sep [sl26 (L a17 ([([p1] : List Int)] : List (List Int)) c17) ([⟨a16, List.length ([p1] : List Int), c16⟩] : List Hd), sl3 (L a16 ([p1] : List Int) c16) ([p1] : List Int), BX b3 48 [I x4, L a5 rl1 c5], HP.all own26 rs2 rl1, sl26 (L a5 rl1 c5) rs2, BX b2 48 [I 0, L none ([] : List (List Int)) 0]] w21 S23 := hs
   have hs : Sep [HP.all own26 ([] : List Hd) ([] : List (List Int)), sl26 (L a17 ([([p1] : List Int)] : List (List Int)) c17) ([⟨a16, List.length ([p1] : List Int), c16⟩] : List Hd), sl3 (L a16 ([p1] : List Int) c16) ([p1] : List Int), BX b3 48 [I x4, L a5 rl1 c5], HP.all own26 rs2 rl1, sl26 (L a5 rl1 c5) rs2, BX b2 48 [I 0, L none ([] : List (List Int)) 0]] w21 S23 := hs.emp (HP.all own26 [] []) trivial
   have hs : Sep [sl3 (L a16 ([p1] : List Int) c16) ([p1] : List Int), HP.all own26 ([] : List Hd) ([] : List (List Int)), sl26 (L a17 ([([p1] : List Int)] : List (List Int)) c17) ([⟨a16, List.length ([p1] : List Int), c16⟩] : List Hd), BX b3 48 [I x4, L a5 rl1 c5], HP.all own26 rs2 rl1, sl26 (L a5 rl1 c5) rs2, BX b2 48 [I 0, L none ([] : List (List Int)) 0]] w21 S23 := Sep.pick [2, 0, 1, 3, 4, 5, 6] hs (by decide) rfl
   have hs : Sep [HP.all own26 ([⟨a16, List.length ([p1] : List Int), c16⟩] : List Hd) ([([p1] : List Int)] : List (List Int)), sl26 (L a17 ([([p1] : List Int)] : List (List Int)) c17) ([⟨a16, List.length ([p1] : List Int), c16⟩] : List Hd), BX b3 48 [I x4, L a5 rl1 c5], HP.all own26 rs2 rl1, sl26 (L a5 rl1 c5) rs2, BX b2 48 [I 0, L none ([] : List (List Int)) 0]] w21 S23 := Sep.merge hs (fun _ h => h)
   have hs : Sep [sl26 (L a5 rl1 c5) rs2, HP.all own26 rs2 rl1, HP.all own26 ([⟨a16, List.length ([p1] : List Int), c16⟩] : List Hd) ([([p1] : List Int)] : List (List Int)), sl26 (L a17 ([([p1] : List Int)] : List (List Int)) c17) ([⟨a16, List.length ([p1] : List Int), c16⟩] : List Hd), BX b3 48 [I x4, L a5 rl1 c5], BX b2 48 [I 0, L none ([] : List (List Int)) 0]] w21 S23 := Sep.pick [4, 3, 0, 1, 2, 5] hs (by decide) rfl
   obtain ⟨x9, hx9, h⟩ := bindE h
   refine q_appendD hs hM0 Try.underlying39 rel26 rfl rfl rfl hF rfl rfl (hs.rv 3 rfl) hx9 fun a18 c18 rs6 w22 S24 fr hs hp hF => ?_
   have hM0 := hM0.stp hp
   have hs : Sep [sl26 (L a18 x9 c18) rs6, HP.all own26 rs6 x9, sl26 (L a17 ([([p1] : List Int)] : List (List Int)) c17) ([⟨a16, List.length ([p1] : List Int), c16⟩] : List Hd), BX b3 48 [I x4, L a5 rl1 c5], BX b2 48 [I 0, L none ([] : List (List Int)) 0]] w22 S24 := hs
   have hs : Sep [sl26 (L a18 x9 c18) rs6, HP.all own26 rs6 x9, BX b3 48 [I x4, L a5 rl1 c5], BX b2 48 [I 0, L none ([] : List (List Int)) 0]] w22 S24 := Sep.pick [0, 1, 3, 4] hs (by decide) rfl
   refine from_pure 1 [(4, B b2 0), (6, B b3 0), (85, L a18 x9 c18), (86, B b3 1)] hF (by kernel_rfl) fun fr hF => ?_
   refine q_storeBox 2 hs hM0 rfl [I x4, L a18 x9 c18] rfl hF rfl rfl (by kernel_rfl) rfl rfl rfl fun w23 S25 hs hp hF => ?_
   have hM0 := hM0.stp hp
   have hs : Sep [sl26 (L a18 x9 c18) rs6, HP.all own26 rs6 x9, BX b3 48 [I x4, L a18 x9 c18], BX b2 48 [I 0, L none ([] : List (List Int)) 0]] w23 S25 := hs
   refine from_end rfl (then_normal ?_)
   refine wp_seq (wp_text' ?_)
   refine s_loadBoxS ty48 rfl rfl hF rfl (hs.bx 2 rfl) rfl rfl fun fr hF => ?_
   have hs : Sep [sl26 (L a18 x9 c18) rs6, HP.all own26 rs6 x9, BX b2 48 [I 0, L none ([] : List (List Int)) 0]] w23 S25 := Sep.pick [0, 1, 3] hs (by decide) rfl
   refine q_storeBoxS 2 hs hM0 rfl [I x4, L a18 x9 c18] rfl hF rfl rfl (by kernel_rfl) rfl rfl rfl fun w24 S26 hs hp hF => ?_
   have hM0 := hM0.stp hp
   have hs : Sep [sl26 (L a18 x9 c18) rs6, HP.all own26 rs6 x9, BX b2 48 [I x4, L a18 x9 c18]] w24 S26 := hs
   refine from_pure 1 [(4, B b2 0), (5, .bool true)] hF (by kernel_rfl) fun fr hF => ?_
   refine from_end rfl (then_normal ?_)
   have hrets := fun {σ : List (Nat × Value)} (h : σ = [(4, B b2 0), (5, .bool true)]) => (by subst h; exact (Rets.cell rfl ty48 (hs.bx 2 rfl) rfl rfl (Rets.tmp rfl Rets.nil)) : Rets Try.prog σ w24 [.cell 4 48, .tmp 5] [.agg #[I x4, L a18 x9 c18], .bool true])
   obtain rfl := Option.some.inj h
   have hs : Sep [sl26 (L a18 x9 c18) rs6, HP.all own26 rs6 x9] w24 S26 := Sep.pick [0, 1] hs (by decide) rfl
   exact wp_ret (retG (rs := [.cell 4 48, .tmp 5]) rfl (hF.sub [(4, B b2 0), (5, .bool true)] (by kernel_rfl)) (hrets rfl) rfl ⟨_, rfl, a18, c18, rs6, rfl, S26, hM0.out, hs⟩)

theorem laws_eqIntS_ok (n : Nat) (p0 : List Int) (p1 : List Int) {r : Bool} (h : laws_eqIntS n p0 p1 = some r) {w : World} {G0 : Nat → Prop} {va0 : Value} (ra0 : RV w G0 va0 p0) {G1 : Nat → Prop} {va1 : Value} (ra1 : RV w G1 va1 p1) :
   Calls Try.prog 15 [va0, va1].toArray w fun e w' => ∃ v, e = .returned v ∧ v = .bool r ∧ Chg Non w w' := by
 unfold laws_eqIntS at h
 have hs := Sep.nil w Non
 have hM0 : Mem w Non (fun k => (G0 k ∨ G1 k) ∧ k < w.heap.size) w Non (fun k => (G0 k ∨ G1 k) ∧ k < w.heap.size) := Mem.start (fun _ h => h.elim) (fun _ h => h.2) (fun _ h => h.elim)
 have ra0 := ra0.sub (F' := (fun k => (G0 k ∨ G1 k) ∧ k < w.heap.size)) (fun k hk h => ⟨.inl h, hk⟩)
 obtain ⟨a1, c1, rfl, -⟩ := ra0.slice
 have ra1 := ra1.sub (F' := (fun k => (G0 k ∨ G1 k) ∧ k < w.heap.size)) (fun k hk h => ⟨.inr (h), hk⟩)
 obtain ⟨a2, c2, rfl, -⟩ := ra1.slice
 refine enter (N := 26) Try.func15 rfl Try.ntmps15 rfl fun fr hF => ?_
 refine wp_seq (wp_pure [(0, L a1 p0 c1), (1, L a2 p1 c2)] hF (by kernel_rfl) fun fr hF => then_normal ?_)
 refine wp_seq ?_
 refine wp_seq (wp_pure [(0, L a1 p0 c1), (1, L a2 p1 c2), (10, .bool ((len p0) != (len p1)))] hF (by kernel_rfl) fun fr hF => then_normal ?_)
 refine (wp_if hF (b := ((len p0) != (len p1))) rfl (fun hb => ?_) (fun hb => ?_))
 · replace h := iteT hb h
   refine wp_seq (wp_pure [(4, .bool false)] hF (by kernel_rfl) fun fr hF => then_normal ?_)
   obtain rfl := Option.some.inj h
   exact wp_ret (then_ret (ret1 rfl hF rfl ⟨_, rfl, rfl, hM0.chg⟩))
 replace h := iteF hb h
 refine (wp_skip (then_normal ?_))
 refine wp_seq ?_
 refine wp_seq (wp_pure [(0, L a1 p0 c1), (1, L a2 p1 c2), (5, I 0)] hF (by kernel_rfl) fun fr hF => then_normal ?_)
 obtain ⟨rl1, hit1, h⟩ := bindE h
 have hk1 := h
 refine (wp_cut (M := fun fr w' => ∃ s, rl1 = .inl s ∧ ∃ S2 F2, FrS 26 [] fr ∧ Mem w Non (fun k => (G0 k ∨ G1 k) ∧ k < w.heap.size) w' S2 F2 ∧ Sep [] w' S2) (wp_block (wp_iter (Inv := fun s1 fr w' => ∃ S1 F1, FrS 26 [(0, L a1 p0 c1), (1, L a2 p1 c2), (5, I s1)] fr ∧ Mem w Non (fun k => (G0 k ∨ G1 k) ∧ k < w.heap.size) w' S1 F1 ∧ Sep [] w' S1) hit1 ⟨Non, _, hF.sub _ (by kernel_rfl), (Mem.start hM0.bd hM0.bdF hM0.dj), hs⟩ fun s1 q1 fr w1i hI h hr1 => ?_)) fun fr w1o hM => ?_)
 · obtain ⟨S1, F1, hF, hM1, hs⟩ := hI
   have ra0 := ra0.mem hM1
   have ra1 := ra1.mem hM1
   refine wp_seq ?_
   refine wp_seq (wp_pure [(0, L a1 p0 c1), (1, L a2 p1 c2), (5, I s1), (14, .bool (decide (s1 < (len p0))))] hF (by kernel_rfl) fun fr hF => then_normal ?_)
   refine (wp_if hF (b := (decide (s1 < (len p0)))) rfl (fun hb => ?_) (fun hb => ?_))
   · replace h := iteT hb h
     refine (wp_skip (then_normal ?_))
     refine wp_seq (wp_block ?_)
     obtain ⟨x1, hx1, h⟩ := bindE h
     obtain ⟨x2, hx2, h⟩ := bindE h
     refine wp_seq (region_bm 9 [0, 0, 3, 7, 0, 0, 48, 112, 255] [true, true, false, false, true, true, false, false, true]
         [.eq (L a1 p0 c1), .eq (I s1), .is fun v w => ElemP w (fun k => k < w1i.heap.size) v (x1 : Int), .eq (I x1), .eq (L a2 p1 c2), .eq (I s1), .is fun v w => ElemP w (fun k => k < w1i.heap.size) v (x2 : Int), .eq (I x2), .eq (.bool (x1 != x2))]
         [(0, L a1 p0 c1), (1, L a2 p1 c2), (5, I s1), (25, .bool (x1 != x2))] mix hF (by kernel_rfl) (by kernel_rfl) (by kernel_rfl) (by kernel_rfl) ⟨(Pd.monoO_is mono_elem), Pd.monoO_eq, (Pd.monoO_is mono_elem), Pd.monoO_eq, trivial⟩ (fun ow hG => ⟨np_to ow (np_index hG hF ty3 Try.underlying26 rfl rfl (RV.sub (ra0) fun k hk _ => hk) rfl rfl (fun hg => ⟨get?_nn hx1, get?_at hx1⟩)), np_to ow (np_loadF (z := x1) (i := 2) hG hF ty3 rfl rfl rfl rfl rfl rfl rfl), np_to ow (np_index hG hF ty3 Try.underlying26 rfl rfl (RV.sub (ra1) fun k hk _ => hk) rfl rfl (fun hg => ⟨get?_nn hx2, get?_at hx2⟩)), np_to ow (np_loadF (z := x2) (i := 6) hG hF ty3 rfl rfl rfl rfl rfl rfl rfl), trivial⟩) (by kernel_rfl) fun ow fr w1 hF hE hc => ?_)
     have ra0 := ra0.ext hc
     have ra1 := ra1.ext hc
     have hs := hs.ext hc
     have hM1 := hM1.ext hc
     refine from_end rfl (then_normal ?_)
     refine (wp_if hF (b := (x1 != x2)) rfl (fun hb => ?_) (fun hb => ?_))
     · replace h := iteT hb h
       refine wp_seq (wp_pure [(4, .bool false)] hF (by kernel_rfl) fun fr hF => then_normal ?_)
       obtain rfl := hr1 _ (Option.some.inj h).symm
       obtain rfl := Option.some.inj hk1
       exact wp_ret (blk_ret (then_ret (then_ret (blk_ret (then_ret (ret1 rfl hF rfl ⟨_, rfl, rfl, (hM0.trans hM1).chg⟩))))))
     replace h := iteF hb h
     refine (wp_skip ?_)
     refine blk_normal (then_normal ?_)
     refine (wp_pure [(0, L a1 p0 c1), (1, L a2 p1 c2), (5, I (w64 (s1 + 1)))] hF (by kernel_rfl) fun fr hF => then_normal ?_)
     exact ⟨_, (Option.some.inj h).symm, S1, _, hF.sub _ (by kernel_rfl), hM1, hs⟩
   replace h := iteF hb h
   refine (wp_exit (then_exit (then_exit (blk_exit_eq ?_))))
   obtain rfl := hr1 _ (Option.some.inj h).symm
   exact then_normal ⟨_, rfl, S1, _, hF.sub _ (by kernel_rfl), hM1, hs⟩
 · obtain ⟨s1r, rfl, hM⟩ := hM
   obtain ⟨S2, F2, hF, hMx, hs⟩ := hM
   have hM0 := hM0.trans hMx
   refine wp_seq (wp_pure [(4, .bool true)] hF (by kernel_rfl) fun fr hF => then_normal ?_)
   obtain rfl := Option.some.inj h
   exact wp_ret (ret1 rfl hF rfl ⟨_, rfl, rfl, hM0.chg⟩)

theorem laws_eqIntSS_ok (n : Nat) (p0 : List (List Int)) (p1 : List (List Int)) {r : Bool} (h : laws_eqIntSS n p0 p1 = some r) {w : World} {G0 : Nat → Prop} {va0 : Value} (ra0 : RV w G0 va0 p0) {G1 : Nat → Prop} {va1 : Value} (ra1 : RV w G1 va1 p1) :
   Calls Try.prog 26 [va0, va1].toArray w fun e w' => ∃ v, e = .returned v ∧ v = .bool r ∧ Chg Non w w' := by
 unfold laws_eqIntSS at h
 have hs := Sep.nil w Non
 have hM0 : Mem w Non (fun k => (G0 k ∨ G1 k) ∧ k < w.heap.size) w Non (fun k => (G0 k ∨ G1 k) ∧ k < w.heap.size) := Mem.start (fun _ h => h.elim) (fun _ h => h.2) (fun _ h => h.elim)
 have ra0 := ra0.sub (F' := (fun k => (G0 k ∨ G1 k) ∧ k < w.heap.size)) (fun k hk h => ⟨.inl h, hk⟩)
 obtain ⟨a1, c1, rfl, -⟩ := ra0.slice
 have ra1 := ra1.sub (F' := (fun k => (G0 k ∨ G1 k) ∧ k < w.heap.size)) (fun k hk h => ⟨.inr (h), hk⟩)
 obtain ⟨a2, c2, rfl, -⟩ := ra1.slice
 refine enter (N := 27) Try.func26 rfl Try.ntmps26 rfl fun fr hF => ?_
 refine wp_seq (wp_pure [(0, L a1 p0 c1), (1, L a2 p1 c2)] hF (by kernel_rfl) fun fr hF => then_normal ?_)
 refine wp_seq ?_
 refine wp_seq (wp_pure [(0, L a1 p0 c1), (1, L a2 p1 c2), (10, .bool ((len p0) != (len p1)))] hF (by kernel_rfl) fun fr hF => then_normal ?_)
 refine (wp_if hF (b := ((len p0) != (len p1))) rfl (fun hb => ?_) (fun hb => ?_))
 · replace h := iteT hb h
   refine wp_seq (wp_pure [(4, .bool false)] hF (by kernel_rfl) fun fr hF => then_normal ?_)
   obtain rfl := Option.some.inj h
   exact wp_ret (then_ret (ret1 rfl hF rfl ⟨_, rfl, rfl, hM0.chg⟩))
 replace h := iteF hb h
 refine (wp_skip (then_normal ?_))
 refine wp_seq ?_
 refine wp_seq (wp_pure [(0, L a1 p0 c1), (1, L a2 p1 c2), (5, I 0)] hF (by kernel_rfl) fun fr hF => then_normal ?_)
 obtain ⟨rl1, hit1, h⟩ := bindE h
 have hk1 := h
 refine (wp_cut (M := fun fr w' => ∃ s, rl1 = .inl s ∧ ∃ S2 F2, FrS 27 [] fr ∧ Mem w Non (fun k => (G0 k ∨ G1 k) ∧ k < w.heap.size) w' S2 F2 ∧ Sep [] w' S2) (wp_block (wp_iter (Inv := fun s1 fr w' => ∃ S1 F1, FrS 27 [(0, L a1 p0 c1), (1, L a2 p1 c2), (5, I s1)] fr ∧ Mem w Non (fun k => (G0 k ∨ G1 k) ∧ k < w.heap.size) w' S1 F1 ∧ Sep [] w' S1) hit1 ⟨Non, _, hF.sub _ (by kernel_rfl), (Mem.start hM0.bd hM0.bdF hM0.dj), hs⟩ fun s1 q1 fr w1i hI h hr1 => ?_)) fun fr w1o hM => ?_)
 · obtain ⟨S1, F1, hF, hM1, hs⟩ := hI
   have ra0 := ra0.mem hM1
   have ra1 := ra1.mem hM1
   refine wp_seq ?_
   refine wp_seq (wp_pure [(0, L a1 p0 c1), (1, L a2 p1 c2), (5, I s1), (14, .bool (decide (s1 < (len p0))))] hF (by kernel_rfl) fun fr hF => then_normal ?_)
   refine (wp_if hF (b := (decide (s1 < (len p0)))) rfl (fun hb => ?_) (fun hb => ?_))
   · replace h := iteT hb h
     refine (wp_skip (then_normal ?_))
     refine wp_seq (wp_block ?_)
     obtain ⟨x1, hx1, h⟩ := bindE h
     obtain ⟨x2, hx2, h⟩ := bindE h
     obtain ⟨x3, hx3, h⟩ := bindE h
     refine wp_seq (region_bm 10 [0, 0, 3, 7, 0, 0, 48, 112, 255, 511] [true, true, false, false, true, true, false, false, false, true]
         [.eq (L a1 p0 c1), .eq (I s1), .is fun v w => ElemP w (fun k => k < w1i.heap.size) v (x1 : List Int), .is fun v w => RV w (fun k => k < w.heap.size) v (x1 : List Int), .eq (L a2 p1 c2), .eq (I s1), .is fun v w => ElemP w (fun k => k < w1i.heap.size) v (x2 : List Int), .is fun v w => RV w (fun k => k < w.heap.size) v (x2 : List Int), .eq (.bool x3), .eq (.bool (!x3))]
         [(0, L a1 p0 c1), (1, L a2 p1 c2), (5, I s1), (26, .bool (!x3))] mix hF (by kernel_rfl) (by kernel_rfl) (by kernel_rfl) (by kernel_rfl) ⟨(Pd.monoO_is mono_elem), (Pd.monoO_is mono_rvb), (Pd.monoO_is mono_elem), (Pd.monoO_is mono_rvb), Pd.monoO_eq, trivial⟩ (fun ow hG => ⟨np_to ow (np_index hG hF ty26 Try.underlying39 rfl rfl (RV.sub (ra0) fun k hk _ => hk) rfl rfl (fun hg => ⟨get?_nn hx1, get?_at hx1⟩)), np_to ow (np_loadD (z := x1) (i := 2) hG hF ty26 rfl rfl rfl rfl rfl rfl), np_to ow (np_index hG hF ty26 Try.underlying39 rfl rfl (RV.sub (ra1) fun k hk _ => hk) rfl rfl (fun hg => ⟨get?_nn hx2, get?_at hx2⟩)), np_to ow (np_loadD (z := x2) (i := 6) hG hF ty26 rfl rfl rfl rfl rfl rfl), np_to ow (np_callI [.inr 3, .inr 7] hG hF Try.call15 rfl rfl (by kernel_rfl) (fun w vs hC hg ha => by obtain ⟨vq0, _, rfl, hq0, vq1, _, rfl, hq1, rfl⟩ := ha; exact (laws_eqIntS_ok n x1 x2 hx3 (show RV w (fun k => k < w.heap.size) vq0 x1 from hq0) (show RV w (fun k => k < w.heap.size) vq1 x2 from hq1)).mono fun e w' ⟨v, he, hv, hc⟩ => ⟨v, he, hc, hv⟩)), trivial⟩) (by kernel_rfl) fun ow fr w1 hF hE hc => ?_)
     have ra0 := ra0.ext hc
     have ra1 := ra1.ext hc
     have hs := hs.ext hc
     have hM1 := hM1.ext hc
     refine from_end rfl (then_normal ?_)
     refine (wp_if hF (b := (!x3)) rfl (fun hb => ?_) (fun hb => ?_))
     · replace h := iteT hb h
       refine wp_seq (wp_pure [(4, .bool false)] hF (by kernel_rfl) fun fr hF => then_normal ?_)
       obtain rfl := hr1 _ (Option.some.inj h).symm
       obtain rfl := Option.some.inj hk1
       exact wp_ret (blk_ret (then_ret (then_ret (blk_ret (then_ret (ret1 rfl hF rfl ⟨_, rfl, rfl, (hM0.trans hM1).chg⟩))))))
     replace h := iteF hb h
     refine (wp_skip ?_)
     refine blk_normal (then_normal ?_)
     refine (wp_pure [(0, L a1 p0 c1), (1, L a2 p1 c2), (5, I (w64 (s1 + 1)))] hF (by kernel_rfl) fun fr hF => then_normal ?_)
     exact ⟨_, (Option.some.inj h).symm, S1, _, hF.sub _ (by kernel_rfl), hM1, hs⟩
   replace h := iteF hb h
   refine (wp_exit (then_exit (then_exit (blk_exit_eq ?_))))
   obtain rfl := hr1 _ (Option.some.inj h).symm
   exact then_normal ⟨_, rfl, S1, _, hF.sub _ (by kernel_rfl), hM1, hs⟩
 · obtain ⟨s1r, rfl, hM⟩ := hM
   obtain ⟨S2, F2, hF, hMx, hs⟩ := hM
   have hM0 := hM0.trans hMx
   refine wp_seq (wp_pure [(4, .bool true)] hF (by kernel_rfl) fun fr hF => then_normal ?_)
   obtain rfl := Option.some.inj h
   exact wp_ret (ret1 rfl hF rfl ⟨_, rfl, rfl, hM0.chg⟩)

theorem laws_eqFormula_ok (n : Nat) (p0 : D.Formula) (p1 : D.Formula) {r : Bool} (h : laws_eqFormula n p0 p1 = some r) {w : World} {G0 : Nat → Prop} {va0 : Value} (ra0 : RV w G0 va0 p0) {G1 : Nat → Prop} {va1 : Value} (ra1 : RV w G1 va1 p1) :
   Calls Try.prog 33 [va0, va1].toArray w fun e w' => ∃ v, e = .returned v ∧ v = .bool r ∧ Chg Non w w' := by
 unfold laws_eqFormula at h
 have hs := Sep.nil w Non
 have hM0 : Mem w Non (fun k => (G0 k ∨ G1 k) ∧ k < w.heap.size) w Non (fun k => (G0 k ∨ G1 k) ∧ k < w.heap.size) := Mem.start (fun _ h => h.elim) (fun _ h => h.2) (fun _ h => h.elim)
 have ra0 := ra0.sub (F' := (fun k => (G0 k ∨ G1 k) ∧ k < w.heap.size)) (fun k hk h => ⟨.inl h, hk⟩)
 obtain ⟨v1, rfl, r1⟩ := RV.Formula ra0
 obtain ⟨a1, c1, rfl, -⟩ := r1.slice
 have ra1 := ra1.sub (F' := (fun k => (G0 k ∨ G1 k) ∧ k < w.heap.size)) (fun k hk h => ⟨.inr (h), hk⟩)
 obtain ⟨v2, rfl, r2⟩ := RV.Formula ra1
 obtain ⟨a2, c2, rfl, -⟩ := r2.slice
 refine enter (N := 16) Try.func33 rfl Try.ntmps33 rfl fun fr hF => ?_
 refine wp_seq (wp_text' ?_)
 refine q_box hs hM0 [I p0.Vars, L a1 p0.Clauses c1] rfl rfl hF rfl rfl fun b1 w1 S1 fr hs hp hF => ?_
 have r1 := r1.stp hM0 hp
 have r2 := r2.stp hM0 hp
 have hM0 := hM0.stp hp
 have hs : Sep [BX b1 48 [I p0.Vars, L a1 p0.Clauses c1]] w1 S1 := hs
 refine q_box hs hM0 [I p1.Vars, L a2 p1.Clauses c2] rfl rfl hF rfl rfl fun b2 w2 S2 fr hs hp hF => ?_
 have r2 := r2.stp hM0 hp
 have r1 := r1.stp hM0 hp
 have hM0 := hM0.stp hp
 have hs : Sep [BX b2 48 [I p1.Vars, L a2 p1.Clauses c2], BX b1 48 [I p0.Vars, L a1 p0.Clauses c1]] w2 S2 := hs
 refine from_pure 1 [(2, B b1 0), (3, B b2 0)] hF (by kernel_rfl) fun fr hF => ?_
 refine from_end rfl (then_normal ?_)
 refine wp_seq ?_
 refine wp_seq (wp_text' ?_)
 refine from_pure 1 [(2, B b1 0), (3, B b2 0), (5, B b1 0)] hF (by kernel_rfl) fun fr hF => ?_
 refine s_loadBox (I p0.Vars) ty3 rfl rfl hF rfl (hs.bx 1 rfl) rfl rfl fun fr hF => ?_
 refine from_pure 1 [(2, B b1 0), (3, B b2 0), (6, I p0.Vars), (7, B b2 0)] hF (by kernel_rfl) fun fr hF => ?_
 refine s_loadBox (I p1.Vars) ty3 rfl rfl hF rfl (hs.bx 0 rfl) rfl rfl fun fr hF => ?_
 refine from_pure 1 [(2, B b1 0), (3, B b2 0), (9, .bool (p0.Vars != p1.Vars))] hF (by kernel_rfl) fun fr hF => ?_
 refine from_end rfl (then_normal ?_)
 refine (wp_if hF (b := (p0.Vars != p1.Vars)) rfl (fun hb => ?_) (fun hb => ?_))
 · replace h := iteT hb h
   have hs : Sep [] w2 S2 := Sep.pick [] hs (by decide) rfl
   refine wp_seq (wp_pure [(4, .bool false)] hF (by kernel_rfl) fun fr hF => then_normal ?_)
   obtain rfl := Option.some.inj h
   exact wp_ret (then_ret (ret1 rfl hF rfl ⟨_, rfl, rfl, hM0.chg⟩))
 replace h := iteF hb h
 refine (wp_skip (then_normal ?_))
 refine wp_seq ?_
 refine wp_seq (wp_text' ?_)
 refine from_pure 1 [(3, B b2 0), (10, B b1 1)] hF (by kernel_rfl) fun fr hF => ?_
 refine s_loadBox (L a1 p0.Clauses c1) ty39 rfl rfl hF rfl (hs.bx 1 rfl) rfl rfl fun fr hF => ?_
 have hs : Sep [BX b2 48 [I p1.Vars, L a2 p1.Clauses c2]] w2 S2 := Sep.pick [0] hs (by decide) rfl
 refine from_pure 1 [(11, L a1 p0.Clauses c1), (12, B b2 1)] hF (by kernel_rfl) fun fr hF => ?_
 refine s_loadBox (L a2 p1.Clauses c2) ty39 rfl rfl hF rfl (hs.bx 0 rfl) rfl rfl fun fr hF => ?_
 have hs : Sep [] w2 S2 := Sep.pick [] hs (by decide) rfl
 obtain ⟨x1, hx1, h⟩ := bindE h
 refine s_call [L a1 p0.Clauses c1, L a2 p1.Clauses c2] Try.call26 rfl rfl hF rfl (laws_eqIntSS_ok n p0.Clauses p1.Clauses hx1 (r1) (r2)) fun v w3 fr hRes hF => ?_
 obtain ⟨rfl, hc⟩ := hRes
 have r1 := r1.ext hc
 have r2 := r2.ext hc
 have hs := hs.ext hc
 have hM0 := hM0.ext hc
 refine from_pure 1 [(15, .bool (!x1))] hF (by kernel_rfl) fun fr hF => ?_
 refine from_end rfl (then_normal ?_)
 refine (wp_if hF (b := (!x1)) rfl (fun hb => ?_) (fun hb => ?_))
 · replace h := iteT hb h
   refine wp_seq (wp_pure [(4, .bool false)] hF (by kernel_rfl) fun fr hF => then_normal ?_)
   obtain rfl := Option.some.inj h
   exact wp_ret (then_ret (ret1 rfl hF rfl ⟨_, rfl, rfl, hM0.chg⟩))
 replace h := iteF hb h
 refine (wp_skip (then_normal ?_))
 refine wp_seq (wp_pure [(4, .bool true)] hF (by kernel_rfl) fun fr hF => then_normal ?_)
 obtain rfl := Option.some.inj h
 exact wp_ret (ret1 rfl hF rfl ⟨_, rfl, rfl, hM0.chg⟩)

theorem laws_eqGate_ok (p0 : D.Gate) (p1 : D.Gate) {r : Bool} (h : laws_eqGate p0 p1 = some r) {w : World} :
   Calls Try.prog 121 [.agg #[I p0.A, I p0.B], .agg #[I p1.A, I p1.B]].toArray w fun e w' => ∃ v, e = .returned v ∧ v = .bool r ∧ Chg Non w w' := by
 unfold laws_eqGate at h
 have hs := Sep.nil w Non
 have hM0 : Mem w Non (fun k => (False) ∧ k < w.heap.size) w Non (fun k => (False) ∧ k < w.heap.size) := Mem.start (fun _ h => h.elim) (fun _ h => h.2) (fun _ h => h.elim)
 refine enter (N := 15) Try.func121 rfl Try.ntmps121 rfl fun fr hF => ?_
 refine wp_seq (wp_text' ?_)
 refine q_box hs hM0 [I p0.A, I p0.B] rfl rfl hF rfl rfl fun b1 w1 S1 fr hs hp hF => ?_
 have hM0 := hM0.stp hp
 have hs : Sep [BX b1 103 [I p0.A, I p0.B]] w1 S1 := hs
 refine q_box hs hM0 [I p1.A, I p1.B] rfl rfl hF rfl rfl fun b2 w2 S2 fr hs hp hF => ?_
 have hM0 := hM0.stp hp
 have hs : Sep [BX b2 103 [I p1.A, I p1.B], BX b1 103 [I p0.A, I p0.B]] w2 S2 := hs
 refine from_pure 1 [(2, B b1 0), (3, B b2 0)] hF (by kernel_rfl) fun fr hF => ?_
 refine from_end rfl (then_normal ?_)
 refine wp_seq ?_
 refine wp_seq (wp_text' ?_)
 refine from_pure 1 [(2, B b1 0), (3, B b2 0), (5, B b1 0)] hF (by kernel_rfl) fun fr hF => ?_
 refine s_loadBox (I p0.A) ty3 rfl rfl hF rfl (hs.bx 1 rfl) rfl rfl fun fr hF => ?_
 refine from_pure 1 [(2, B b1 0), (3, B b2 0), (6, I p0.A), (7, B b2 0)] hF (by kernel_rfl) fun fr hF => ?_
 refine s_loadBox (I p1.A) ty3 rfl rfl hF rfl (hs.bx 0 rfl) rfl rfl fun fr hF => ?_
 refine from_pure 1 [(2, B b1 0), (3, B b2 0), (9, .bool (p0.A != p1.A))] hF (by kernel_rfl) fun fr hF => ?_
 refine from_end rfl (then_normal ?_)
 refine (wp_if hF (b := (p0.A != p1.A)) rfl (fun hb => ?_) (fun hb => ?_))
 · replace h := iteT hb h
   have hs : Sep [] w2 S2 := Sep.pick [] hs (by decide) rfl
   refine wp_seq (wp_pure [(4, .bool false)] hF (by kernel_rfl) fun fr hF => then_normal ?_)
   obtain rfl := Option.some.inj h
   exact wp_ret (then_ret (ret1 rfl hF rfl ⟨_, rfl, rfl, hM0.chg⟩))
 replace h := iteF hb h
 refine (wp_skip (then_normal ?_))
 refine wp_seq ?_
 refine wp_seq (wp_text' ?_)
 refine from_pure 1 [(3, B b2 0), (10, B b1 1)] hF (by kernel_rfl) fun fr hF => ?_
 refine s_loadBox (I p0.B) ty3 rfl rfl hF rfl (hs.bx 1 rfl) rfl rfl fun fr hF => ?_
 have hs : Sep [BX b2 103 [I p1.A, I p1.B]] w2 S2 := Sep.pick [0] hs (by decide) rfl
 refine from_pure 1 [(11, I p0.B), (12, B b2 1)] hF (by kernel_rfl) fun fr hF => ?_
 refine s_loadBox (I p1.B) ty3 rfl rfl hF rfl (hs.bx 0 rfl) rfl rfl fun fr hF => ?_
 have hs : Sep [] w2 S2 := Sep.pick [] hs (by decide) rfl
 refine from_pure 1 [(14, .bool (p0.B != p1.B))] hF (by kernel_rfl) fun fr hF => ?_
 refine from_end rfl (then_normal ?_)
 refine (wp_if hF (b := (p0.B != p1.B)) rfl (fun hb => ?_) (fun hb => ?_))
 · replace h := iteT hb h
   refine wp_seq (wp_pure [(4, .bool false)] hF (by kernel_rfl) fun fr hF => then_normal ?_)
   obtain rfl := Option.some.inj h
   exact wp_ret (then_ret (ret1 rfl hF rfl ⟨_, rfl, rfl, hM0.chg⟩))
 replace h := iteF hb h
 refine (wp_skip (then_normal ?_))
 refine wp_seq (wp_pure [(4, .bool true)] hF (by kernel_rfl) fun fr hF => then_normal ?_)
 obtain rfl := Option.some.inj h
 exact wp_ret (ret1 rfl hF rfl ⟨_, rfl, rfl, hM0.chg⟩)

theorem laws_eqGateS_ok (n : Nat) (p0 : List D.Gate) (p1 : List D.Gate) {r : Bool} (h : laws_eqGateS n p0 p1 = some r) {w : World} {G0 : Nat → Prop} {va0 : Value} (ra0 : RV w G0 va0 p0) {G1 : Nat → Prop} {va1 : Value} (ra1 : RV w G1 va1 p1) :
   Calls Try.prog 76 [va0, va1].toArray w fun e w' => ∃ v, e = .returned v ∧ v = .bool r ∧ Chg Non w w' := by
 unfold laws_eqGateS at h
 have hs := Sep.nil w Non
 have hM0 : Mem w Non (fun k => (G0 k ∨ G1 k) ∧ k < w.heap.size) w Non (fun k => (G0 k ∨ G1 k) ∧ k < w.heap.size) := Mem.start (fun _ h => h.elim) (fun _ h => h.2) (fun _ h => h.elim)
 have ra0 := ra0.sub (F' := (fun k => (G0 k ∨ G1 k) ∧ k < w.heap.size)) (fun k hk h => ⟨.inl h, hk⟩)
 obtain ⟨a1, c1, rfl, -⟩ := ra0.slice
 have ra1 := ra1.sub (F' := (fun k => (G0 k ∨ G1 k) ∧ k < w.heap.size)) (fun k hk h => ⟨.inr (h), hk⟩)
 obtain ⟨a2, c2, rfl, -⟩ := ra1.slice
 refine enter (N := 27) Try.func76 rfl Try.ntmps76 rfl fun fr hF => ?_
 refine wp_seq (wp_pure [(0, L a1 p0 c1), (1, L a2 p1 c2)] hF (by kernel_rfl) fun fr hF => then_normal ?_)
 refine wp_seq ?_
 refine wp_seq (wp_pure [(0, L a1 p0 c1), (1, L a2 p1 c2), (10, .bool ((len p0) != (len p1)))] hF (by kernel_rfl) fun fr hF => then_normal ?_)
 refine (wp_if hF (b := ((len p0) != (len p1))) rfl (fun hb => ?_) (fun hb => ?_))
 · replace h := iteT hb h
   refine wp_seq (wp_pure [(4, .bool false)] hF (by kernel_rfl) fun fr hF => then_normal ?_)
   obtain rfl := Option.some.inj h
   exact wp_ret (then_ret (ret1 rfl hF rfl ⟨_, rfl, rfl, hM0.chg⟩))
 replace h := iteF hb h
 refine (wp_skip (then_normal ?_))
 refine wp_seq ?_
 refine wp_seq (wp_pure [(0, L a1 p0 c1), (1, L a2 p1 c2), (5, I 0)] hF (by kernel_rfl) fun fr hF => then_normal ?_)
 obtain ⟨rl1, hit1, h⟩ := bindE h
 have hk1 := h
 refine (wp_cut (M := fun fr w' => ∃ s, rl1 = .inl s ∧ ∃ S2 F2, FrS 27 [] fr ∧ Mem w Non (fun k => (G0 k ∨ G1 k) ∧ k < w.heap.size) w' S2 F2 ∧ Sep [] w' S2) (wp_block (wp_iter (Inv := fun s1 fr w' => ∃ S1 F1, FrS 27 [(0, L a1 p0 c1), (1, L a2 p1 c2), (5, I s1)] fr ∧ Mem w Non (fun k => (G0 k ∨ G1 k) ∧ k < w.heap.size) w' S1 F1 ∧ Sep [] w' S1) hit1 ⟨Non, _, hF.sub _ (by kernel_rfl), (Mem.start hM0.bd hM0.bdF hM0.dj), hs⟩ fun s1 q1 fr w1i hI h hr1 => ?_)) fun fr w1o hM => ?_)
 · obtain ⟨S1, F1, hF, hM1, hs⟩ := hI
   have ra0 := ra0.mem hM1
   have ra1 := ra1.mem hM1
   refine wp_seq ?_
   refine wp_seq (wp_pure [(0, L a1 p0 c1), (1, L a2 p1 c2), (5, I s1), (14, .bool (decide (s1 < (len p0))))] hF (by kernel_rfl) fun fr hF => then_normal ?_)
   refine (wp_if hF (b := (decide (s1 < (len p0)))) rfl (fun hb => ?_) (fun hb => ?_))
   · replace h := iteT hb h
     refine (wp_skip (then_normal ?_))
     refine wp_seq (wp_block ?_)
     obtain ⟨x1, hx1, h⟩ := bindE h
     obtain ⟨x2, hx2, h⟩ := bindE h
     obtain ⟨x3, hx3, h⟩ := bindE h
     refine wp_seq (region_bm 10 [0, 0, 3, 7, 0, 0, 48, 112, 255, 511] [true, true, false, false, true, true, false, false, false, true]
         [.eq (L a1 p0 c1), .eq (I s1), .is fun v w => ElemP w (fun k => k < w1i.heap.size) v (x1 : D.Gate), .eq (.agg #[I x1.A, I x1.B]), .eq (L a2 p1 c2), .eq (I s1), .is fun v w => ElemP w (fun k => k < w1i.heap.size) v (x2 : D.Gate), .eq (.agg #[I x2.A, I x2.B]), .eq (.bool x3), .eq (.bool (!x3))]
         [(0, L a1 p0 c1), (1, L a2 p1 c2), (5, I s1), (26, .bool (!x3))] mix hF (by kernel_rfl) (by kernel_rfl) (by kernel_rfl) (by kernel_rfl) ⟨(Pd.monoO_is mono_elem), Pd.monoO_eq, (Pd.monoO_is mono_elem), Pd.monoO_eq, Pd.monoO_eq, trivial⟩ (fun ow hG => ⟨np_to ow (np_index hG hF ty103 Try.underlying51 rfl rfl (RV.sub (ra0) fun k hk _ => hk) rfl rfl (fun hg => ⟨get?_nn hx1, get?_at hx1⟩)), np_to ow (np_loadF (z := x1) (i := 2) hG hF ty103 rfl rfl rfl rfl rfl rfl rfl), np_to ow (np_index hG hF ty103 Try.underlying51 rfl rfl (RV.sub (ra1) fun k hk _ => hk) rfl rfl (fun hg => ⟨get?_nn hx2, get?_at hx2⟩)), np_to ow (np_loadF (z := x2) (i := 6) hG hF ty103 rfl rfl rfl rfl rfl rfl rfl), np_to ow (np_call [.agg #[I x1.A, I x1.B], .agg #[I x2.A, I x2.B]] hG hF Try.call121 rfl rfl (fun w hC hg => (laws_eqGate_ok x1 x2 hx3).mono fun e w' ⟨v, he, hv, hc⟩ => ⟨v, he, hc, hv⟩)), trivial⟩) (by kernel_rfl) fun ow fr w1 hF hE hc => ?_)
     have ra0 := ra0.ext hc
     have ra1 := ra1.ext hc
     have hs := hs.ext hc
     have hM1 := hM1.ext hc
     refine from_end rfl (then_normal ?_)
     refine (wp_if hF (b := (!x3)) rfl (fun hb => ?_) (fun hb => ?_))
     · replace h := iteT hb h
       refine wp_seq (wp_pure [(4, .bool false)] hF (by kernel_rfl) fun fr hF => then_normal ?_)
       obtain rfl := hr1 _ (Option.some.inj h).symm
       obtain rfl := Option.some.inj hk1
       exact wp_ret (blk_ret (then_ret (then_ret (blk_ret (then_ret (ret1 rfl hF rfl ⟨_, rfl, rfl, (hM0.trans hM1).chg⟩))))))
     replace h := iteF hb h
     refine (wp_skip ?_)
     refine blk_normal (then_normal ?_)
     refine (wp_pure [(0, L a1 p0 c1), (1, L a2 p1 c2), (5, I (w64 (s1 + 1)))] hF (by kernel_rfl) fun fr hF => then_normal ?_)
     exact ⟨_, (Option.some.inj h).symm, S1, _, hF.sub _ (by kernel_rfl), hM1, hs⟩
   replace h := iteF hb h
   refine (wp_exit (then_exit (then_exit (blk_exit_eq ?_))))
   obtain rfl := hr1 _ (Option.some.inj h).symm
   exact then_normal ⟨_, rfl, S1, _, hF.sub _ (by kernel_rfl), hM1, hs⟩
 · obtain ⟨s1r, rfl, hM⟩ := hM
   obtain ⟨S2, F2, hF, hMx, hs⟩ := hM
   have hM0 := hM0.trans hMx
   refine wp_seq (wp_pure [(4, .bool true)] hF (by kernel_rfl) fun fr hF => then_normal ?_)
   obtain rfl := Option.some.inj h
   exact wp_ret (ret1 rfl hF rfl ⟨_, rfl, rfl, hM0.chg⟩)

theorem laws_eqCircuit_ok (n : Nat) (p0 : D.Circuit) (p1 : D.Circuit) {r : Bool} (h : laws_eqCircuit n p0 p1 = some r) {w : World} {G0 : Nat → Prop} {va0 : Value} (ra0 : RV w G0 va0 p0) {G1 : Nat → Prop} {va1 : Value} (ra1 : RV w G1 va1 p1) :
   Calls Try.prog 34 [va0, va1].toArray w fun e w' => ∃ v, e = .returned v ∧ v = .bool r ∧ Chg Non w w' := by
 unfold laws_eqCircuit at h
 have hs := Sep.nil w Non
 have hM0 : Mem w Non (fun k => (G0 k ∨ G1 k) ∧ k < w.heap.size) w Non (fun k => (G0 k ∨ G1 k) ∧ k < w.heap.size) := Mem.start (fun _ h => h.elim) (fun _ h => h.2) (fun _ h => h.elim)
 have ra0 := ra0.sub (F' := (fun k => (G0 k ∨ G1 k) ∧ k < w.heap.size)) (fun k hk h => ⟨.inl h, hk⟩)
 obtain ⟨v1, rfl, r1⟩ := RV.Circuit ra0
 obtain ⟨a1, c1, rfl, -⟩ := r1.slice
 have ra1 := ra1.sub (F' := (fun k => (G0 k ∨ G1 k) ∧ k < w.heap.size)) (fun k hk h => ⟨.inr (h), hk⟩)
 obtain ⟨v2, rfl, r2⟩ := RV.Circuit ra1
 obtain ⟨a2, c2, rfl, -⟩ := r2.slice
 refine enter (N := 16) Try.func34 rfl Try.ntmps34 rfl fun fr hF => ?_
 refine wp_seq (wp_text' ?_)
 refine q_box hs hM0 [I p0.Inputs, L a1 p0.Gates c1] rfl rfl hF rfl rfl fun b1 w1 S1 fr hs hp hF => ?_
 have r1 := r1.stp hM0 hp
 have r2 := r2.stp hM0 hp
 have hM0 := hM0.stp hp
 have hs : Sep [BX b1 53 [I p0.Inputs, L a1 p0.Gates c1]] w1 S1 := hs
 refine q_box hs hM0 [I p1.Inputs, L a2 p1.Gates c2] rfl rfl hF rfl rfl fun b2 w2 S2 fr hs hp hF => ?_
 have r2 := r2.stp hM0 hp
 have r1 := r1.stp hM0 hp
 have hM0 := hM0.stp hp
 have hs : Sep [BX b2 53 [I p1.Inputs, L a2 p1.Gates c2], BX b1 53 [I p0.Inputs, L a1 p0.Gates c1]] w2 S2 := hs
 refine from_pure 1 [(2, B b1 0), (3, B b2 0)] hF (by kernel_rfl) fun fr hF => ?_
 refine from_end rfl (then_normal ?_)
 refine wp_seq ?_
 refine wp_seq (wp_text' ?_)
 refine from_pure 1 [(2, B b1 0), (3, B b2 0), (5, B b1 0)] hF (by kernel_rfl) fun fr hF => ?_
 refine s_loadBox (I p0.Inputs) ty3 rfl rfl hF rfl (hs.bx 1 rfl) rfl rfl fun fr hF => ?_
 refine from_pure 1 [(2, B b1 0), (3, B b2 0), (6, I p0.Inputs), (7, B b2 0)] hF (by kernel_rfl) fun fr hF => ?_
 refine s_loadBox (I p1.Inputs) ty3 rfl rfl hF rfl (hs.bx 0 rfl) rfl rfl fun fr hF => ?_
 refine from_pure 1 [(2, B b1 0), (3, B b2 0), (9, .bool (p0.Inputs != p1.Inputs))] hF (by kernel_rfl) fun fr hF => ?_
 refine from_end rfl (then_normal ?_)
 refine (wp_if hF (b := (p0.Inputs != p1.Inputs)) rfl (fun hb => ?_) (fun hb => ?_))
 · replace h := iteT hb h
   have hs : Sep [] w2 S2 := Sep.pick [] hs (by decide) rfl
   refine wp_seq (wp_pure [(4, .bool false)] hF (by kernel_rfl) fun fr hF => then_normal ?_)
   obtain rfl := Option.some.inj h
   exact wp_ret (then_ret (ret1 rfl hF rfl ⟨_, rfl, rfl, hM0.chg⟩))
 replace h := iteF hb h
 refine (wp_skip (then_normal ?_))
 refine wp_seq ?_
 refine wp_seq (wp_text' ?_)
 refine from_pure 1 [(3, B b2 0), (10, B b1 1)] hF (by kernel_rfl) fun fr hF => ?_
 refine s_loadBox (L a1 p0.Gates c1) ty51 rfl rfl hF rfl (hs.bx 1 rfl) rfl rfl fun fr hF => ?_
 have hs : Sep [BX b2 53 [I p1.Inputs, L a2 p1.Gates c2]] w2 S2 := Sep.pick [0] hs (by decide) rfl
 refine from_pure 1 [(11, L a1 p0.Gates c1), (12, B b2 1)] hF (by kernel_rfl) fun fr hF => ?_
 refine s_loadBox (L a2 p1.Gates c2) ty51 rfl rfl hF rfl (hs.bx 0 rfl) rfl rfl fun fr hF => ?_
 have hs : Sep [] w2 S2 := Sep.pick [] hs (by decide) rfl
 obtain ⟨x1, hx1, h⟩ := bindE h
 refine s_call [L a1 p0.Gates c1, L a2 p1.Gates c2] Try.call76 rfl rfl hF rfl (laws_eqGateS_ok n p0.Gates p1.Gates hx1 (r1) (r2)) fun v w3 fr hRes hF => ?_
 obtain ⟨rfl, hc⟩ := hRes
 have r1 := r1.ext hc
 have r2 := r2.ext hc
 have hs := hs.ext hc
 have hM0 := hM0.ext hc
 refine from_pure 1 [(15, .bool (!x1))] hF (by kernel_rfl) fun fr hF => ?_
 refine from_end rfl (then_normal ?_)
 refine (wp_if hF (b := (!x1)) rfl (fun hb => ?_) (fun hb => ?_))
 · replace h := iteT hb h
   refine wp_seq (wp_pure [(4, .bool false)] hF (by kernel_rfl) fun fr hF => then_normal ?_)
   obtain rfl := Option.some.inj h
   exact wp_ret (then_ret (ret1 rfl hF rfl ⟨_, rfl, rfl, hM0.chg⟩))
 replace h := iteF hb h
 refine (wp_skip (then_normal ?_))
 refine wp_seq (wp_pure [(4, .bool true)] hF (by kernel_rfl) fun fr hF => then_normal ?_)
 obtain rfl := Option.some.inj h
 exact wp_ret (ret1 rfl hF rfl ⟨_, rfl, rfl, hM0.chg⟩)

theorem laws_markGateS_ok (n : Nat) (p0 : List D.Gate) (p1 : Int) {r : Int × (List D.Gate)} (h : laws_markGateS n p0 p1 = some r) {w : World} {S0 F0 : Nat → Prop} {pa0 : Option Addr} {pn0 pc0 : Nat} (hs : Sep [sl103 (.slice pa0 pn0 pc0) p0] w S0) (hb : ∀ k, S0 k → k < w.heap.size) (hd : ∀ k, S0 k → F0 k → False) :
   Calls Try.prog 77 [.slice pa0 pn0 pc0, I p1].toArray w fun e w' => ∃ v, e = .returned v ∧ v = I r.1 ∧ ∃ S', Stp w S0 w' S' ∧ Sep [sl103 (.slice pa0 pn0 pc0) r.2] w' S' := by
 unfold laws_markGateS at h
 obtain ⟨hpn, hs⟩ := hs.relen 0 rfl
 subst hpn
 have hs : Sep [sl103 (L pa0 p0 pc0) p0] w S0 := hs
 have hM0 : Mem w S0 (fun k => F0 k ∧ k < w.heap.size) w S0 (fun k => F0 k ∧ k < w.heap.size) := Mem.start hb (fun _ h => h.2) (fun k h1 h2 => hd k h1 h2.1)
 refine enter (N := 27) Try.func77 rfl Try.ntmps77 rfl fun fr hF => ?_
 refine wp_seq (wp_pure [(0, L pa0 p0 pc0), (1, I p1)] hF (by kernel_rfl) fun fr hF => then_normal ?_)
 refine wp_seq ?_
 refine wp_seq (wp_pure [(0, L pa0 p0 pc0), (1, I p1), (5, I 0)] hF (by kernel_rfl) fun fr hF => then_normal ?_)
 obtain ⟨rl1, hit1, h⟩ := bindE h
 have hk1 := h
 refine (wp_cut (M := fun fr w' => ∃ S2 F2, FrS 27 [(1, I rl1.1)] fr ∧ Mem w S0 (fun k => F0 k ∧ k < w.heap.size) w' S2 F2 ∧ Sep [sl103 (L pa0 p0 pc0) rl1.2] w' S2) (wp_block (wp_iter (Inv := fun s1 fr w' => ∃ S1 F1, FrS 27 [(0, L pa0 p0 pc0), (1, I s1.1), (5, I s1.2.1)] fr ∧ Mem w S0 (fun k => F0 k ∧ k < w.heap.size) w' S1 F1 ∧ Sep [sl103 (L pa0 p0 pc0) s1.2.2] w' S1) hit1 ⟨S0, _, hF.sub _ (by kernel_rfl), (Mem.start hM0.bd hM0.bdF hM0.dj), hs⟩ fun s1 q1 fr w1i hI h hr1 => ?_)) fun fr w1o hM => ?_)
 · obtain ⟨S1, F1, hF, hM1, hs⟩ := hI
   refine wp_seq ?_
   refine wp_seq (wp_pure [(0, L pa0 p0 pc0), (1, I s1.1), (5, I s1.2.1), (9, .bool (decide (s1.2.1 < (len p0))))] hF (by kernel_rfl) fun fr hF => then_normal ?_)
   refine (wp_if hF (b := (decide (s1.2.1 < (len p0)))) rfl (fun hb => ?_) (fun hb => ?_))
   · replace h := iteT hb h
     refine (wp_skip (then_normal ?_))
     refine wp_seq (wp_block ?_)
     refine wp_seq (wp_text' ?_)
     refine from_pure 3 [(0, L pa0 p0 pc0), (1, I s1.1), (5, I s1.2.1), (12, L pa0 p0 pc0), (13, I s1.2.1), (14, I s1.1)] hF (by kernel_rfl) fun fr hF => ?_
     obtain ⟨x1, hx1, h⟩ := bindE h
     obtain ⟨x2, hx2, h⟩ := bindE h
     refine q_setField (q := x1) (q' := ({ x1 with A := s1.1 } : D.Gate)) (off := 0) 0 hs hM1 rfl Try.underlying51 ty103 rfl rfl rfl rfl rfl hF rfl rfl rfl rfl (by kernel_rfl) rfl (by kernel_rfl) rfl hx1 rfl hx2 fun w1 S3 fr _ _ hs hp hF => ?_
     have hM1 := hM1.stp hp
     have hs : Sep [sl103 (L pa0 p0 pc0) x2] w1 S3 := hs
     refine from_end rfl (then_normal ?_)
     refine wp_seq (wp_pure [(0, L pa0 p0 pc0), (1, I (w64 (s1.1 + 1))), (5, I s1.2.1)] hF (by kernel_rfl) fun fr hF => then_normal ?_)
     refine wp_seq (wp_text' ?_)
     refine from_pure 3 [(0, L pa0 p0 pc0), (1, I (w64 (s1.1 + 1))), (5, I s1.2.1), (19, L pa0 p0 pc0), (20, I s1.2.1), (21, I (w64 (s1.1 + 1)))] hF (by kernel_rfl) fun fr hF => ?_
     obtain ⟨x3, hx3, h⟩ := bindE h
     obtain ⟨x4, hx4, h⟩ := bindE h
     refine q_setField (q := x3) (q' := ({ x3 with B := (w64 (s1.1 + 1)) } : D.Gate)) (off := 1) 0 hs hM1 rfl Try.underlying51 ty103 rfl rfl rfl rfl rfl hF rfl rfl rfl rfl (by kernel_rfl) rfl (by kernel_rfl) rfl hx3 rfl hx4 fun w2 S4 fr _ _ hs hp hF => ?_
     have hM1 := hM1.stp hp
     have hs : Sep [sl103 (L pa0 p0 pc0) x4] w2 S4 := hs
     refine from_end rfl (then_normal ?_)
     refine (wp_pure [(0, L pa0 p0 pc0), (1, I (w64 ((w64 (s1.1 + 1)) + 1))), (5, I s1.2.1)] hF (by kernel_rfl) fun fr hF => ?_)
     refine blk_normal (then_normal ?_)
     refine (wp_pure [(0, L pa0 p0 pc0), (1, I (w64 ((w64 (s1.1 + 1)) + 1))), (5, I (w64 (s1.2.1 + 1)))] hF (by kernel_rfl) fun fr hF => then_normal ?_)
     exact ⟨_, (Option.some.inj h).symm, S4, _, hF.sub _ (by kernel_rfl), hM1, hs⟩
   replace h := iteF hb h
   refine (wp_exit (then_exit (then_exit (blk_exit_eq ?_))))
   obtain rfl := hr1 _ (Option.some.inj h).symm
   exact then_normal ⟨S1, _, hF.sub _ (by kernel_rfl), hM1, hs⟩
 · obtain ⟨S2, F2, hF, hMx, hs⟩ := hM
   have hM0 := hM0.trans hMx
   refine wp_seq (wp_pure [(4, I rl1.1)] hF (by kernel_rfl) fun fr hF => then_normal ?_)
   obtain rfl := Option.some.inj h
   exact wp_ret (ret1 rfl hF rfl ⟨_, rfl, rfl, S2, hM0.out, hs⟩)

theorem laws_markCircuit_ok (n : Nat) (p0 : D.Circuit) (p1 : Int) {r : Int × D.Circuit} (h : laws_markCircuit n p0 p1 = some r) {w : World} {S0 F0 : Nat → Prop} {pa0 : Option Addr} {pn0 pc0 : Nat} (hs : Sep [sl103 (.slice pa0 pn0 pc0) p0.Gates] w S0) (hb : ∀ k, S0 k → k < w.heap.size) (hd : ∀ k, S0 k → F0 k → False) :
   Calls Try.prog 35 [.agg #[I p0.Inputs, .slice pa0 pn0 pc0], I p1].toArray w fun e w' => ∃ v, e = .returned v ∧ v = I r.1 ∧ ∃ S', Stp w S0 w' S' ∧ Sep [sl103 (.slice pa0 pn0 pc0) r.2.Gates] w' S' := by
 unfold laws_markCircuit at h
 obtain ⟨hpn, hs⟩ := hs.relen 0 rfl
 subst hpn
 have hs : Sep [sl103 (L pa0 p0.Gates pc0) p0.Gates] w S0 := hs
 have hM0 : Mem w S0 (fun k => F0 k ∧ k < w.heap.size) w S0 (fun k => F0 k ∧ k < w.heap.size) := Mem.start hb (fun _ h => h.2) (fun k h1 h2 => hd k h1 h2.1)
 refine enter (N := 10) Try.func35 rfl Try.ntmps35 rfl fun fr hF => ?_
 refine wp_seq (wp_text' ?_)
 refine q_box hs hM0 [I p0.Inputs, L pa0 p0.Gates pc0] rfl rfl hF rfl rfl fun b1 w1 S1 fr hs hp hF => ?_
 have hM0 := hM0.stp hp
 have hs : Sep [BX b1 53 [I p0.Inputs, L pa0 p0.Gates pc0], sl103 (L pa0 p0.Gates pc0) p0.Gates] w1 S1 := hs
 refine from_pure 1 [(1, I p1), (2, B b1 0)] hF (by kernel_rfl) fun fr hF => ?_
 refine from_end rfl (then_normal ?_)
 refine wp_seq (wp_text' ?_)
 refine from_pure 1 [(1, I p1), (5, B b1 1)] hF (by kernel_rfl) fun fr hF => ?_
 refine s_loadBox (L pa0 p0.Gates pc0) ty51 rfl rfl hF rfl (hs.bx 0 rfl) rfl rfl fun fr hF => ?_
 have hs : Sep [sl103 (L pa0 p0.Gates pc0) p0.Gates] w1 S1 := Sep.pick [1] hs (by decide) rfl
 refine from_pure 1 [(6, L pa0 p0.Gates pc0), (7, I p1)] hF (by kernel_rfl) fun fr hF => ?_
 obtain ⟨x1, hx1, h⟩ := bindE h
 obtain ⟨A1, R1, hsA, hsR, hdA, hbA, hup⟩ := Sep.call (L1 := [sl103 (L pa0 p0.Gates pc0) p0.Gates]) (L2 := []) hs hM0
 refine s_call [L pa0 p0.Gates pc0, I p1] Try.call77 rfl rfl hF rfl (laws_markGateS_ok n p0.Gates p1 hx1 hsA hbA hdA) fun v w2 fr hRes hF => ?_
 obtain ⟨rfl, _, hp, hs⟩ := hRes
 obtain ⟨S2, hp, hs⟩ := hup hp hs
 have hM0 := hM0.stp hp
 have hs : Sep [sl103 (L pa0 p0.Gates pc0) x1.2] w2 S2 := hs
 refine from_pure 1 [(1, I x1.1)] hF (by kernel_rfl) fun fr hF => ?_
 refine from_end rfl (then_normal ?_)
 refine wp_seq (wp_pure [(4, I x1.1)] hF (by kernel_rfl) fun fr hF => then_normal ?_)
 obtain rfl := Option.some.inj h
 exact wp_ret (ret1 rfl hF rfl ⟨_, rfl, rfl, S2, hM0.out, hs⟩)

theorem laws_markIntS_ok (n : Nat) (p0 : List Int) (p1 : Int) {r : Int × (List Int)} (h : laws_markIntS n p0 p1 = some r) {w : World} {S0 F0 : Nat → Prop} {pa0 : Option Addr} {pn0 pc0 : Nat} (hs : Sep [sl3 (.slice pa0 pn0 pc0) p0] w S0) (hb : ∀ k, S0 k → k < w.heap.size) (hd : ∀ k, S0 k → F0 k → False) :
   Calls Try.prog 18 [.slice pa0 pn0 pc0, I p1].toArray w fun e w' => ∃ v, e = .returned v ∧ v = I r.1 ∧ ∃ S', Stp w S0 w' S' ∧ Sep [sl3 (.slice pa0 pn0 pc0) r.2] w' S' := by
 unfold laws_markIntS at h
 obtain ⟨hpn, hs⟩ := hs.relen 0 rfl
 subst hpn
 have hs : Sep [sl3 (L pa0 p0 pc0) p0] w S0 := hs
 have hM0 : Mem w S0 (fun k => F0 k ∧ k < w.heap.size) w S0 (fun k => F0 k ∧ k < w.heap.size) := Mem.start hb (fun _ h => h.2) (fun k h1 h2 => hd k h1 h2.1)
 refine enter (N := 19) Try.func18 rfl Try.ntmps18 rfl fun fr hF => ?_
 refine wp_seq (wp_pure [(0, L pa0 p0 pc0), (1, I p1)] hF (by kernel_rfl) fun fr hF => then_normal ?_)
 refine wp_seq ?_
 refine wp_seq (wp_pure [(0, L pa0 p0 pc0), (1, I p1), (5, I 0)] hF (by kernel_rfl) fun fr hF => then_normal ?_)
 obtain ⟨rl1, hit1, h⟩ := bindE h
 have hk1 := h
 refine (wp_cut (M := fun fr w' => ∃ S2 F2, FrS 19 [(1, I rl1.1)] fr ∧ Mem w S0 (fun k => F0 k ∧ k < w.heap.size) w' S2 F2 ∧ Sep [sl3 (L pa0 p0 pc0) rl1.2] w' S2) (wp_block (wp_iter (Inv := fun s1 fr w' => ∃ S1 F1, FrS 19 [(0, L pa0 p0 pc0), (1, I s1.1), (5, I s1.2.1)] fr ∧ Mem w S0 (fun k => F0 k ∧ k < w.heap.size) w' S1 F1 ∧ Sep [sl3 (L pa0 p0 pc0) s1.2.2] w' S1) hit1 ⟨S0, _, hF.sub _ (by kernel_rfl), (Mem.start hM0.bd hM0.bdF hM0.dj), hs⟩ fun s1 q1 fr w1i hI h hr1 => ?_)) fun fr w1o hM => ?_)
 · obtain ⟨S1, F1, hF, hM1, hs⟩ := hI
   refine wp_seq ?_
   refine wp_seq (wp_pure [(0, L pa0 p0 pc0), (1, I s1.1), (5, I s1.2.1), (9, .bool (decide (s1.2.1 < (len p0))))] hF (by kernel_rfl) fun fr hF => then_normal ?_)
   refine (wp_if hF (b := (decide (s1.2.1 < (len p0)))) rfl (fun hb => ?_) (fun hb => ?_))
   · replace h := iteT hb h
     refine (wp_skip (then_normal ?_))
     refine wp_seq (wp_block ?_)
     refine wp_seq (wp_text' ?_)
     refine from_pure 3 [(0, L pa0 p0 pc0), (1, I s1.1), (5, I s1.2.1), (12, L pa0 p0 pc0), (13, I s1.2.1), (14, I s1.1)] hF (by kernel_rfl) fun fr hF => ?_
     obtain ⟨x1, hx1, h⟩ := bindE h
     refine q_set (q := s1.1) 0 hs hM1 rfl Try.underlying26 ty3 rfl rfl rfl rfl hF rfl rfl (by simp) rfl rfl hx1 fun w1 S3 fr _ hs hp hF => ?_
     have hM1 := hM1.stp hp
     have hs : Sep [sl3 (L pa0 p0 pc0) x1] w1 S3 := hs
     refine from_end rfl (then_normal ?_)
     refine (wp_pure [(0, L pa0 p0 pc0), (1, I (w64 (s1.1 + 1))), (5, I s1.2.1)] hF (by kernel_rfl) fun fr hF => ?_)
     refine blk_normal (then_normal ?_)
     refine (wp_pure [(0, L pa0 p0 pc0), (1, I (w64 (s1.1 + 1))), (5, I (w64 (s1.2.1 + 1)))] hF (by kernel_rfl) fun fr hF => then_normal ?_)
     exact ⟨_, (Option.some.inj h).symm, S3, _, hF.sub _ (by kernel_rfl), hM1, hs⟩
   replace h := iteF hb h
   refine (wp_exit (then_exit (then_exit (blk_exit_eq ?_))))
   obtain rfl := hr1 _ (Option.some.inj h).symm
   exact then_normal ⟨S1, _, hF.sub _ (by kernel_rfl), hM1, hs⟩
 · obtain ⟨S2, F2, hF, hMx, hs⟩ := hM
   have hM0 := hM0.trans hMx
   refine wp_seq (wp_pure [(4, I rl1.1)] hF (by kernel_rfl) fun fr hF => then_normal ?_)
   obtain rfl := Option.some.inj h
   exact wp_ret (ret1 rfl hF rfl ⟨_, rfl, rfl, S2, hM0.out, hs⟩)

theorem laws_markIntSS_ok (n : Nat) (p0 : List (List Int)) (p1 : Int) {r : Int × (List (List Int))} (h : laws_markIntSS n p0 p1 = some r) {w : World} {S0 F0 : Nat → Prop} {pa0 : Option Addr} {pn0 pc0 : Nat} {pr0 : List Hd} (hs : Sep [sl26 (.slice pa0 pn0 pc0) pr0, HP.all own26 pr0 p0] w S0) (hb : ∀ k, S0 k → k < w.heap.size) (hd : ∀ k, S0 k → F0 k → False) :
   Calls Try.prog 27 [.slice pa0 pn0 pc0, I p1].toArray w fun e w' => ∃ v, e = .returned v ∧ ∃ rs1, v = I r.1 ∧ ∃ S', Stp w S0 w' S' ∧ Sep [sl26 (.slice pa0 pn0 pc0) rs1, HP.all own26 rs1 r.2] w' S' := by
 unfold laws_markIntSS at h
 obtain ⟨hpn, hs⟩ := hs.relenD 0 1 rfl rfl
 subst hpn
 have hs : Sep [sl26 (L pa0 p0 pc0) pr0, HP.all own26 pr0 p0] w S0 := hs
 have hM0 : Mem w S0 (fun k => F0 k ∧ k < w.heap.size) w S0 (fun k => F0 k ∧ k < w.heap.size) := Mem.start hb (fun _ h => h.2) (fun k h1 h2 => hd k h1 h2.1)
 refine enter (N := 19) Try.func27 rfl Try.ntmps27 rfl fun fr hF => ?_
 refine wp_seq (wp_pure [(0, L pa0 p0 pc0), (1, I p1)] hF (by kernel_rfl) fun fr hF => then_normal ?_)
 refine wp_seq ?_
 refine wp_seq (wp_pure [(0, L pa0 p0 pc0), (1, I p1), (5, I 0)] hF (by kernel_rfl) fun fr hF => then_normal ?_)
 obtain ⟨rl1, hit1, h⟩ := bindE h
 have hk1 := h
 refine (wp_cut (M := fun fr w' => ∃ rs2 S2 F2, FrS 19 [(1, I rl1.1)] fr ∧ Mem w S0 (fun k => F0 k ∧ k < w.heap.size) w' S2 F2 ∧ Sep [sl26 (L pa0 p0 pc0) rs2, HP.all own26 rs2 rl1.2] w' S2) (wp_block (wp_iter (Inv := fun s1 fr w' => ∃ rs1 S1 F1, FrS 19 [(0, L pa0 p0 pc0), (1, I s1.1), (5, I s1.2.1)] fr ∧ Mem w S0 (fun k => F0 k ∧ k < w.heap.size) w' S1 F1 ∧ Sep [sl26 (L pa0 p0 pc0) rs1, HP.all own26 rs1 s1.2.2] w' S1) hit1 ⟨pr0, S0, _, hF.sub _ (by kernel_rfl), (Mem.start hM0.bd hM0.bdF hM0.dj), hs⟩ fun s1 q1 fr w1i hI h hr1 => ?_)) fun fr w1o hM => ?_)
 · obtain ⟨rs1, S1, F1, hF, hM1, hs⟩ := hI
   refine wp_seq ?_
   refine wp_seq (wp_pure [(0, L pa0 p0 pc0), (1, I s1.1), (5, I s1.2.1), (9, .bool (decide (s1.2.1 < (len p0))))] hF (by kernel_rfl) fun fr hF => then_normal ?_)
   refine (wp_if hF (b := (decide (s1.2.1 < (len p0)))) rfl (fun hb => ?_) (fun hb => ?_))
   · replace h := iteT hb h
     refine (wp_skip (then_normal ?_))
     refine wp_seq (wp_block ?_)
     refine (wp_text' ?_)
     refine from_pure 2 [(0, L pa0 p0 pc0), (1, I s1.1), (5, I s1.2.1), (12, L pa0 p0 pc0), (13, I s1.2.1)] hF (by kernel_rfl) fun fr hF => ?_
     obtain ⟨x1, hx1, h⟩ := bindE h
     refine q_getDs (z := x1) owns26 0 1 hs rfl rfl rty26 Try.underlying39 rfl rfl rfl rfl rfl hF rfl rfl hx1 fun a1 c1 _ fr hr1 hF => ?_
     refine from_pure 1 [(0, L pa0 p0 pc0), (5, I s1.2.1), (15, L a1 x1 c1), (16, I s1.1)] hF (by kernel_rfl) fun fr hF => ?_
     have hs : Sep [HP.all own26 rs1 s1.2.2, sl26 (L pa0 p0 pc0) rs1] w1i S1 := Sep.pick [1, 0] hs (by decide) rfl
     have hl1 := hs.dlen 0 rfl
     have hs : Sep [sl3 (L a1 x1 c1) x1, HP.but own26 (s1.2.1).toNat rs1 s1.2.2, sl26 (L pa0 p0 pc0) rs1] w1i S1 := Sep.focus hs hr1 hx1
     obtain ⟨x2, hx2, h⟩ := bindE h
     obtain ⟨A1, R1, hsA, hsR, hdA, hbA, hup⟩ := Sep.call (L1 := [sl3 (L a1 x1 c1) x1]) (L2 := [HP.but own26 (s1.2.1).toNat rs1 s1.2.2, sl26 (L pa0 p0 pc0) rs1]) hs hM1
     refine s_call [L a1 x1 c1, I s1.1] Try.call18 rfl rfl hF rfl (laws_markIntS_ok n x1 s1.1 hx2 hsA hbA hdA) fun v w1 fr hRes hF => ?_
     obtain ⟨rfl, _, hp, hs⟩ := hRes
     obtain ⟨S3, hp, hs⟩ := hup hp hs
     have hM1 := hM1.stp hp
     have hs : Sep [sl3 (L a1 x1 c1) x2.2, HP.but own26 (s1.2.1).toNat rs1 s1.2.2, sl26 (L pa0 p0 pc0) rs1] w1 S3 := hs
     obtain ⟨x3, hx3, h⟩ := bindE h
     have hs : Sep [HP.all own26 rs1 x3, sl26 (L pa0 p0 pc0) rs1] w1 S3 := Sep.fill (own := own26) (r := (⟨a1, List.length x1, c1⟩ : Hd)) (n := s1.2.1) (z := x2.2) (xs := s1.2.2) hs hl1 hr1 hx3
     refine from_pure 1 [(0, L pa0 p0 pc0), (1, I x2.1), (5, I s1.2.1)] hF (by kernel_rfl) fun fr hF => ?_
     refine from_end rfl ?_
     refine blk_normal (then_normal ?_)
     refine (wp_pure [(0, L pa0 p0 pc0), (1, I x2.1), (5, I (w64 (s1.2.1 + 1)))] hF (by kernel_rfl) fun fr hF => then_normal ?_)
     have hs : Sep [sl26 (L pa0 p0 pc0) rs1, HP.all own26 rs1 x3] w1 S3 := Sep.pick [1, 0] hs (by decide) rfl
     exact ⟨_, (Option.some.inj h).symm, rs1, S3, _, hF.sub _ (by kernel_rfl), hM1, hs⟩
   replace h := iteF hb h
   refine (wp_exit (then_exit (then_exit (blk_exit_eq ?_))))
   obtain rfl := hr1 _ (Option.some.inj h).symm
   exact then_normal ⟨rs1, S1, _, hF.sub _ (by kernel_rfl), hM1, hs⟩
 · obtain ⟨rs2, S2, F2, hF, hMx, hs⟩ := hM
   have hM0 := hM0.trans hMx
   refine wp_seq (wp_pure [(4, I rl1.1)] hF (by kernel_rfl) fun fr hF => then_normal ?_)
   obtain rfl := Option.some.inj h
   exact wp_ret (ret1 rfl hF rfl ⟨_, rfl, rs2, rfl, S2, hM0.out, hs⟩)

theorem laws_markFormula_ok (n : Nat) (p0 : D.Formula) (p1 : Int) {r : Int × D.Formula} (h : laws_markFormula n p0 p1 = some r) {w : World} {S0 F0 : Nat → Prop} {pa0 : Option Addr} {pn0 pc0 : Nat} {pr0 : List Hd} (hs : Sep [sl26 (.slice pa0 pn0 pc0) pr0, HP.all own26 pr0 p0.Clauses] w S0) (hb : ∀ k, S0 k → k < w.heap.size) (hd : ∀ k, S0 k → F0 k → False) :
   Calls Try.prog 36 [.agg #[I p0.Vars, .slice pa0 pn0 pc0], I p1].toArray w fun e w' => ∃ v, e = .returned v ∧ ∃ rs1, v = I r.1 ∧ ∃ S', Stp w S0 w' S' ∧ Sep [sl26 (.slice pa0 pn0 pc0) rs1, HP.all own26 rs1 r.2.Clauses] w' S' := by
 unfold laws_markFormula at h
 obtain ⟨hpn, hs⟩ := hs.relenD 0 1 rfl rfl
 subst hpn
 have hs : Sep [sl26 (L pa0 p0.Clauses pc0) pr0, HP.all own26 pr0 p0.Clauses] w S0 := hs
 have hM0 : Mem w S0 (fun k => F0 k ∧ k < w.heap.size) w S0 (fun k => F0 k ∧ k < w.heap.size) := Mem.start hb (fun _ h => h.2) (fun k h1 h2 => hd k h1 h2.1)
 refine enter (N := 10) Try.func36 rfl Try.ntmps36 rfl fun fr hF => ?_
 refine wp_seq (wp_text' ?_)
 refine q_box hs hM0 [I p0.Vars, L pa0 p0.Clauses pc0] rfl rfl hF rfl rfl fun b1 w1 S1 fr hs hp hF => ?_
 have hM0 := hM0.stp hp
 have hs : Sep [BX b1 48 [I p0.Vars, L pa0 p0.Clauses pc0], sl26 (L pa0 p0.Clauses pc0) pr0, HP.all own26 pr0 p0.Clauses] w1 S1 := hs
 refine from_pure 1 [(1, I p1), (2, B b1 0)] hF (by kernel_rfl) fun fr hF => ?_
 refine from_end rfl (then_normal ?_)
 refine wp_seq (wp_text' ?_)
 refine from_pure 1 [(1, I p1), (5, B b1 1)] hF (by kernel_rfl) fun fr hF => ?_
 refine s_loadBox (L pa0 p0.Clauses pc0) ty39 rfl rfl hF rfl (hs.bx 0 rfl) rfl rfl fun fr hF => ?_
 have hs : Sep [sl26 (L pa0 p0.Clauses pc0) pr0, HP.all own26 pr0 p0.Clauses] w1 S1 := Sep.pick [1, 2] hs (by decide) rfl
 refine from_pure 1 [(6, L pa0 p0.Clauses pc0), (7, I p1)] hF (by kernel_rfl) fun fr hF => ?_
 obtain ⟨x1, hx1, h⟩ := bindE h
 obtain ⟨A1, R1, hsA, hsR, hdA, hbA, hup⟩ := Sep.call (L1 := [sl26 (L pa0 p0.Clauses pc0) pr0, HP.all own26 pr0 p0.Clauses]) (L2 := []) hs hM0
 refine s_call [L pa0 p0.Clauses pc0, I p1] Try.call27 rfl rfl hF rfl (laws_markIntSS_ok n p0.Clauses p1 hx1 hsA hbA hdA) fun v w2 fr hRes hF => ?_
 obtain ⟨rs1, rfl, _, hp, hs⟩ := hRes
 obtain ⟨S2, hp, hs⟩ := hup hp hs
 have hM0 := hM0.stp hp
 have hs : Sep [sl26 (L pa0 p0.Clauses pc0) rs1, HP.all own26 rs1 x1.2] w2 S2 := hs
 refine from_pure 1 [(1, I x1.1)] hF (by kernel_rfl) fun fr hF => ?_
 refine from_end rfl (then_normal ?_)
 refine wp_seq (wp_pure [(4, I x1.1)] hF (by kernel_rfl) fun fr hF => then_normal ?_)
 obtain rfl := Option.some.inj h
 exact wp_ret (ret1 rfl hF rfl ⟨_, rfl, rs1, rfl, S2, hM0.out, hs⟩)

theorem laws_heldIntS_ok (n : Nat) (p0 : List Int) (p1 : Int) {r : Int} (h : laws_heldIntS n p0 p1 = some r) {w : World} {G0 : Nat → Prop} {va0 : Value} (ra0 : RV w G0 va0 p0) :
   Calls Try.prog 19 [va0, I p1].toArray w fun e w' => ∃ v, e = .returned v ∧ v = I r ∧ Chg Non w w' := by
 unfold laws_heldIntS at h
 have hs := Sep.nil w Non
 have hM0 : Mem w Non (fun k => (G0 k) ∧ k < w.heap.size) w Non (fun k => (G0 k) ∧ k < w.heap.size) := Mem.start (fun _ h => h.elim) (fun _ h => h.2) (fun _ h => h.elim)
 have ra0 := ra0.sub (F' := (fun k => (G0 k) ∧ k < w.heap.size)) (fun k hk h => ⟨h, hk⟩)
 obtain ⟨a1, c1, rfl, -⟩ := ra0.slice
 refine enter (N := 21) Try.func19 rfl Try.ntmps19 rfl fun fr hF => ?_
 refine wp_seq (wp_pure [(0, L a1 p0 c1), (1, I p1)] hF (by kernel_rfl) fun fr hF => then_normal ?_)
 refine wp_seq ?_
 refine wp_seq (wp_pure [(0, L a1 p0 c1), (1, I p1), (5, I 0)] hF (by kernel_rfl) fun fr hF => then_normal ?_)
 obtain ⟨rl1, hit1, h⟩ := bindE h
 have hk1 := h
 refine (wp_cut (M := fun fr w' => ∃ s, rl1 = .inl s ∧ ∃ S2 F2, FrS 21 [(1, I s)] fr ∧ Mem w Non (fun k => (G0 k) ∧ k < w.heap.size) w' S2 F2 ∧ Sep [] w' S2) (wp_block (wp_iter (Inv := fun s1 fr w' => ∃ S1 F1, FrS 21 [(0, L a1 p0 c1), (1, I s1.1), (5, I s1.2)] fr ∧ Mem w Non (fun k => (G0 k) ∧ k < w.heap.size) w' S1 F1 ∧ Sep [] w' S1) hit1 ⟨Non, _, hF.sub _ (by kernel_rfl), (Mem.start hM0.bd hM0.bdF hM0.dj), hs⟩ fun s1 q1 fr w1i hI h hr1 => ?_)) fun fr w1o hM => ?_)
 · obtain ⟨S1, F1, hF, hM1, hs⟩ := hI
   have ra0 := ra0.mem hM1
   refine wp_seq ?_
   refine wp_seq (wp_pure [(0, L a1 p0 c1), (1, I s1.1), (5, I s1.2), (9, .bool (decide (s1.2 < (len p0))))] hF (by kernel_rfl) fun fr hF => then_normal ?_)
   refine (wp_if hF (b := (decide (s1.2 < (len p0)))) rfl (fun hb => ?_) (fun hb => ?_))
   · replace h := iteT hb h
     refine (wp_skip (then_normal ?_))
     refine wp_seq (wp_block ?_)
     refine wp_seq ?_
     refine wp_seq (wp_text' ?_)
     refine from_pure 2 [(0, L a1 p0 c1), (1, I s1.1), (5, I s1.2), (12, L a1 p0 c1), (13, I s1.2)] hF (by kernel_rfl) fun fr hF => ?_
     obtain ⟨x1, hx1, h⟩ := bindE h
     refine s_elemF (z := x1) (I x1) ty3 Try.underlying26 rfl rfl rfl rfl rfl hF rfl (ra0) rfl (get?_nn hx1) (get?_at hx1) rfl fun p fr hF => ?_
     refine from_pure 2 [(0, L a1 p0 c1), (1, I s1.1), (5, I s1.2), (17, .bool (x1 != s1.1))] hF (by kernel_rfl) fun fr hF => ?_
     refine from_end rfl (then_normal ?_)
     refine (wp_if hF (b := (x1 != s1.1)) rfl (fun hb => ?_) (fun hb => ?_))
     · replace h := iteT hb h
       refine wp_seq (wp_pure [(4, I (-1))] hF (by kernel_rfl) fun fr hF => then_normal ?_)
       obtain rfl := hr1 _ (Option.some.inj h).symm
       obtain rfl := Option.some.inj hk1
       exact wp_ret (then_ret (blk_ret (then_ret (then_ret (blk_ret (then_ret (ret1 rfl hF rfl ⟨_, rfl, rfl, (hM0.trans hM1).chg⟩)))))))
     replace h := iteF hb h
     refine (wp_skip (then_normal ?_))
     refine (wp_pure [(0, L a1 p0 c1), (1, I (w64 (s1.1 + 1))), (5, I s1.2)] hF (by kernel_rfl) fun fr hF => ?_)
     refine blk_normal (then_normal ?_)
     refine (wp_pure [(0, L a1 p0 c1), (1, I (w64 (s1.1 + 1))), (5, I (w64 (s1.2 + 1)))] hF (by kernel_rfl) fun fr hF => then_normal ?_)
     exact ⟨_, (Option.some.inj h).symm, S1, _, hF.sub _ (by kernel_rfl), hM1, hs⟩
   replace h := iteF hb h
   refine (wp_exit (then_exit (then_exit (blk_exit_eq ?_))))
   obtain rfl := hr1 _ (Option.some.inj h).symm
   exact then_normal ⟨_, rfl, S1, _, hF.sub _ (by kernel_rfl), hM1, hs⟩
 · obtain ⟨s1r, rfl, hM⟩ := hM
   obtain ⟨S2, F2, hF, hMx, hs⟩ := hM
   have hM0 := hM0.trans hMx
   refine wp_seq (wp_pure [(4, I s1r)] hF (by kernel_rfl) fun fr hF => then_normal ?_)
   obtain rfl := Option.some.inj h
   exact wp_ret (ret1 rfl hF rfl ⟨_, rfl, rfl, hM0.chg⟩)

theorem laws_heldIntSS_ok (n : Nat) (p0 : List (List Int)) (p1 : Int) {r : Int} (h : laws_heldIntSS n p0 p1 = some r) {w : World} {G0 : Nat → Prop} {va0 : Value} (ra0 : RV w G0 va0 p0) :
   Calls Try.prog 28 [va0, I p1].toArray w fun e w' => ∃ v, e = .returned v ∧ v = I r ∧ Chg Non w w' := by
 unfold laws_heldIntSS at h
 have hs := Sep.nil w Non
 have hM0 : Mem w Non (fun k => (G0 k) ∧ k < w.heap.size) w Non (fun k => (G0 k) ∧ k < w.heap.size) := Mem.start (fun _ h => h.elim) (fun _ h => h.2) (fun _ h => h.elim)
 have ra0 := ra0.sub (F' := (fun k => (G0 k) ∧ k < w.heap.size)) (fun k hk h => ⟨h, hk⟩)
 obtain ⟨a1, c1, rfl, -⟩ := ra0.slice
 refine enter (N := 21) Try.func28 rfl Try.ntmps28 rfl fun fr hF => ?_
 refine wp_seq (wp_pure [(0, L a1 p0 c1), (1, I p1)] hF (by kernel_rfl) fun fr hF => then_normal ?_)
 refine wp_seq ?_
 refine wp_seq (wp_pure [(0, L a1 p0 c1), (1, I p1), (5, I 0)] hF (by kernel_rfl) fun fr hF => then_normal ?_)
 obtain ⟨rl1, hit1, h⟩ := bindE h
 have hk1 := h
 refine (wp_cut (M := fun fr w' => ∃ s, rl1 = .inl s ∧ ∃ S2 F2, FrS 21 [(1, I s)] fr ∧ Mem w Non (fun k => (G0 k) ∧ k < w.heap.size) w' S2 F2 ∧ Sep [] w' S2) (wp_block (wp_iter (Inv := fun s1 fr w' => ∃ S1 F1, FrS 21 [(0, L a1 p0 c1), (1, I s1.1), (5, I s1.2)] fr ∧ Mem w Non (fun k => (G0 k) ∧ k < w.heap.size) w' S1 F1 ∧ Sep [] w' S1) hit1 ⟨Non, _, hF.sub _ (by kernel_rfl), (Mem.start hM0.bd hM0.bdF hM0.dj), hs⟩ fun s1 q1 fr w1i hI h hr1 => ?_)) fun fr w1o hM => ?_)
 · obtain ⟨S1, F1, hF, hM1, hs⟩ := hI
   have ra0 := ra0.mem hM1
   refine wp_seq ?_
   refine wp_seq (wp_pure [(0, L a1 p0 c1), (1, I s1.1), (5, I s1.2), (9, .bool (decide (s1.2 < (len p0))))] hF (by kernel_rfl) fun fr hF => then_normal ?_)
   refine (wp_if hF (b := (decide (s1.2 < (len p0)))) rfl (fun hb => ?_) (fun hb => ?_))
   · replace h := iteT hb h
     refine (wp_skip (then_normal ?_))
     refine wp_seq (wp_block ?_)
     refine wp_seq (wp_text' ?_)
     refine from_pure 2 [(0, L a1 p0 c1), (1, I s1.1), (5, I s1.2), (12, L a1 p0 c1), (13, I s1.2)] hF (by kernel_rfl) fun fr hF => ?_
     obtain ⟨x1, hx1, h⟩ := bindE h
     refine s_elem (z := x1) ty26 Try.underlying39 rfl rfl rfl rfl rfl hF rfl (ra0) rfl (get?_nn hx1) (get?_at hx1) fun p v1 fr r1 hF => ?_
     obtain ⟨a2, c2, rfl, -⟩ := r1.slice
     refine from_pure 1 [(0, L a1 p0 c1), (5, I s1.2), (15, L a2 x1 c2), (16, I s1.1)] hF (by kernel_rfl) fun fr hF => ?_
     obtain ⟨x2, hx2, h⟩ := bindE h
     refine s_call [L a2 x1 c2, I s1.1] Try.call19 rfl rfl hF rfl (laws_heldIntS_ok n x1 s1.1 hx2 (r1)) fun v w1 fr hRes hF => ?_
     obtain ⟨rfl, hc⟩ := hRes
     have ra0 := ra0.ext hc
     have r1 := r1.ext hc
     have hs := hs.ext hc
     have hM1 := hM1.ext hc
     refine from_pure 1 [(0, L a1 p0 c1), (1, I x2), (5, I s1.2)] hF (by kernel_rfl) fun fr hF => ?_
     refine from_end rfl (then_normal ?_)
     refine wp_seq (wp_pure [(0, L a1 p0 c1), (1, I x2), (5, I s1.2), (19, .bool (decide (x2 < 0)))] hF (by kernel_rfl) fun fr hF => then_normal ?_)
     refine (wp_if hF (b := (decide (x2 < 0))) rfl (fun hb => ?_) (fun hb => ?_))
     · replace h := iteT hb h
       refine wp_seq (wp_pure [(4, I (-1))] hF (by kernel_rfl) fun fr hF => then_normal ?_)
       obtain rfl := hr1 _ (Option.some.inj h).symm
       obtain rfl := Option.some.inj hk1
       exact wp_ret (blk_ret (then_ret (then_ret (blk_ret (then_ret (ret1 rfl hF rfl ⟨_, rfl, rfl, (hM0.trans hM1).chg⟩))))))
     replace h := iteF hb h
     refine (wp_skip ?_)
     refine blk_normal (then_normal ?_)
     refine (wp_pure [(0, L a1 p0 c1), (1, I x2), (5, I (w64 (s1.2 + 1)))] hF (by kernel_rfl) fun fr hF => then_normal ?_)
     exact ⟨_, (Option.some.inj h).symm, S1, _, hF.sub _ (by kernel_rfl), hM1, hs⟩
   replace h := iteF hb h
   refine (wp_exit (then_exit (then_exit (blk_exit_eq ?_))))
   obtain rfl := hr1 _ (Option.some.inj h).symm
   exact then_normal ⟨_, rfl, S1, _, hF.sub _ (by kernel_rfl), hM1, hs⟩
 · obtain ⟨s1r, rfl, hM⟩ := hM
   obtain ⟨S2, F2, hF, hMx, hs⟩ := hM
   have hM0 := hM0.trans hMx
   refine wp_seq (wp_pure [(4, I s1r)] hF (by kernel_rfl) fun fr hF => then_normal ?_)
   obtain rfl := Option.some.inj h
   exact wp_ret (ret1 rfl hF rfl ⟨_, rfl, rfl, hM0.chg⟩)

theorem laws_heldFormula_ok (n : Nat) (p0 : D.Formula) (p1 : Int) {r : Int} (h : laws_heldFormula n p0 p1 = some r) {w : World} {G0 : Nat → Prop} {va0 : Value} (ra0 : RV w G0 va0 p0) :
   Calls Try.prog 37 [va0, I p1].toArray w fun e w' => ∃ v, e = .returned v ∧ v = I r ∧ Chg Non w w' := by
 unfold laws_heldFormula at h
 have hs := Sep.nil w Non
 have hM0 : Mem w Non (fun k => (G0 k) ∧ k < w.heap.size) w Non (fun k => (G0 k) ∧ k < w.heap.size) := Mem.start (fun _ h => h.elim) (fun _ h => h.2) (fun _ h => h.elim)
 have ra0 := ra0.sub (F' := (fun k => (G0 k) ∧ k < w.heap.size)) (fun k hk h => ⟨h, hk⟩)
 obtain ⟨v1, rfl, r1⟩ := RV.Formula ra0
 obtain ⟨a1, c1, rfl, -⟩ := r1.slice
 refine enter (N := 12) Try.func37 rfl Try.ntmps37 rfl fun fr hF => ?_
 refine wp_seq (wp_text' ?_)
 refine q_box hs hM0 [I p0.Vars, L a1 p0.Clauses c1] rfl rfl hF rfl rfl fun b1 w1 S1 fr hs hp hF => ?_
 have r1 := r1.stp hM0 hp
 have hM0 := hM0.stp hp
 have hs : Sep [BX b1 48 [I p0.Vars, L a1 p0.Clauses c1]] w1 S1 := hs
 refine from_pure 1 [(1, I p1), (2, B b1 0)] hF (by kernel_rfl) fun fr hF => ?_
 refine from_end rfl (then_normal ?_)
 refine wp_seq (wp_text' ?_)
 refine from_pure 1 [(1, I p1), (5, B b1 1)] hF (by kernel_rfl) fun fr hF => ?_
 refine s_loadBox (L a1 p0.Clauses c1) ty39 rfl rfl hF rfl (hs.bx 0 rfl) rfl rfl fun fr hF => ?_
 have hs : Sep [] w1 S1 := Sep.pick [] hs (by decide) rfl
 refine from_pure 1 [(6, L a1 p0.Clauses c1), (7, I p1)] hF (by kernel_rfl) fun fr hF => ?_
 obtain ⟨x1, hx1, h⟩ := bindE h
 refine s_call [L a1 p0.Clauses c1, I p1] Try.call28 rfl rfl hF rfl (laws_heldIntSS_ok n p0.Clauses p1 hx1 (r1)) fun v w2 fr hRes hF => ?_
 obtain ⟨rfl, hc⟩ := hRes
 have r1 := r1.ext hc
 have hs := hs.ext hc
 have hM0 := hM0.ext hc
 refine from_pure 1 [(1, I x1)] hF (by kernel_rfl) fun fr hF => ?_
 refine from_end rfl (then_normal ?_)
 refine wp_seq ?_
 refine wp_seq (wp_pure [(1, I x1), (10, .bool (decide (x1 < 0)))] hF (by kernel_rfl) fun fr hF => then_normal ?_)
 refine (wp_if hF (b := (decide (x1 < 0))) rfl (fun hb => ?_) (fun hb => ?_))
 · replace h := iteT hb h
   refine wp_seq (wp_pure [(4, I (-1))] hF (by kernel_rfl) fun fr hF => then_normal ?_)
   obtain rfl := Option.some.inj h
   exact wp_ret (then_ret (ret1 rfl hF rfl ⟨_, rfl, rfl, hM0.chg⟩))
 replace h := iteF hb h
 refine (wp_skip (then_normal ?_))
 refine wp_seq (wp_pure [(4, I x1)] hF (by kernel_rfl) fun fr hF => then_normal ?_)
 obtain rfl := Option.some.inj h
 exact wp_ret (ret1 rfl hF rfl ⟨_, rfl, rfl, hM0.chg⟩)

theorem laws_FnExactFormulaOf_ok (n : Nat) (p0 : D.Circuit) (p1 : Int) {r : Bool} (h : laws_FnExactFormulaOf n p0 p1 = some r) {w : World} {G0 : Nat → Prop} {va0 : Value} (ra0 : RV w G0 va0 p0) :
   Calls Try.prog 7 [va0, I p1].toArray w fun e w' => ∃ v, e = .returned v ∧ v = .bool r ∧ Chg Non w w' := by
 unfold laws_FnExactFormulaOf at h
 have hs := Sep.nil w Non
 have hM0 : Mem w Non (fun k => (G0 k) ∧ k < w.heap.size) w Non (fun k => (G0 k) ∧ k < w.heap.size) := Mem.start (fun _ h => h.elim) (fun _ h => h.2) (fun _ h => h.elim)
 have ra0 := ra0.sub (F' := (fun k => (G0 k) ∧ k < w.heap.size)) (fun k hk h => ⟨h, hk⟩)
 obtain ⟨v1, rfl, r1⟩ := RV.Circuit ra0
 obtain ⟨a1, c1, rfl, -⟩ := r1.slice
 refine enter (N := 101) Try.func7 rfl Try.ntmps7 rfl fun fr hF => ?_
 refine wp_seq (wp_text' ?_)
 refine q_box hs hM0 [I p0.Inputs, L a1 p0.Gates c1] rfl rfl hF rfl rfl fun b1 w1 S1 fr hs hp hF => ?_
 have r1 := r1.stp hM0 hp
 have hM0 := hM0.stp hp
 have hs : Sep [BX b1 45 [I p0.Inputs, L a1 p0.Gates c1]] w1 S1 := hs
 refine from_pure 1 [(1, I p1), (2, B b1 0)] hF (by kernel_rfl) fun fr hF => ?_
 refine from_end rfl (then_normal ?_)
 refine wp_seq (wp_pure [(1, I p1), (2, B b1 0), (5, I 1048576)] hF (by kernel_rfl) fun fr hF => then_normal ?_)
 refine wp_seq (wp_text' ?_)
 refine s_loadBoxS ty45 rfl rfl hF rfl (hs.bx 0 rfl) rfl rfl fun fr hF => ?_
 refine from_pure 1 [(1, I p1), (2, B b1 0), (16, .agg #[I p0.Inputs, L a1 p0.Gates c1]), (17, I 1048576)] hF (by kernel_rfl) fun fr hF => ?_
 obtain ⟨x1, hx1, h⟩ := bindE h
 refine s_call [.agg #[I p0.Inputs, L a1 p0.Gates c1], I 1048576] Try.call29 rfl rfl hF rfl (laws_szCircuit_ok p0 1048576 hx1 (RV.mk_Circuit p0 (r1))) fun v w2 fr hRes hF => ?_
 obtain ⟨rfl, hc⟩ := hRes
 have r1 := r1.ext hc
 have hs := hs.ext hc
 have hM0 := hM0.ext hc
 refine from_pure 1 [(1, I p1), (2, B b1 0), (5, I x1)] hF (by kernel_rfl) fun fr hF => ?_
 refine from_end rfl (then_normal ?_)
 refine wp_seq ?_
 refine wp_seq (wp_pure [(1, I p1), (2, B b1 0), (20, .bool (decide (x1 < 0)))] hF (by kernel_rfl) fun fr hF => then_normal ?_)
 refine (wp_if hF (b := (decide (x1 < 0))) rfl (fun hb => ?_) (fun hb => ?_))
 · replace h := iteT hb h
   have hs : Sep [] w2 S1 := Sep.pick [] hs (by decide) rfl
   refine wp_seq (wp_pure [(4, .bool true)] hF (by kernel_rfl) fun fr hF => then_normal ?_)
   obtain rfl := Option.some.inj h
   exact wp_ret (then_ret (ret1 rfl hF rfl ⟨_, rfl, rfl, hM0.chg⟩))
 replace h := iteF hb h
 refine (wp_skip (then_normal ?_))
 refine wp_seq (wp_text' ?_)
 refine s_loadBoxS ty45 rfl rfl hF rfl (hs.bx 0 rfl) rfl rfl fun fr hF => ?_
 obtain ⟨x2, hx2, h⟩ := bindE h
 refine s_call [.agg #[I p0.Inputs, L a1 p0.Gates c1]] Try.call31 rfl rfl hF rfl (laws_toCircuit_ok n p0 hx2 (RV.mk_Circuit p0 (r1))) fun v w3 fr hRes hF => ?_
 obtain ⟨a2, c2, rfl, _, hp, hs2⟩ := hRes
 obtain ⟨S2, hp, hs⟩ := hs.got hM0 hp hs2
 have r1 := r1.stp hM0 hp
 have hM0 := hM0.stp hp
 have hs : Sep [sl103 (L a2 x2.Gates c2) x2.Gates, BX b1 45 [I p0.Inputs, L a1 p0.Gates c1]] w3 S2 := hs
 refine from_pure 1 [(1, I p1), (2, B b1 0), (23, .agg #[I x2.Inputs, L a2 x2.Gates c2]), (24, I p1)] hF (by kernel_rfl) fun fr hF => ?_
 obtain ⟨x3, hx3, h⟩ := bindE h
 refine s_call [.agg #[I x2.Inputs, L a2 x2.Gates c2], I p1] Try.call30 rfl rfl hF rfl (spec_FormulaOf_ok n x2 p1 hx3 (RV.mk_Circuit x2 (RV.any (hs.rv 0 rfl)))) fun v w4 fr hRes hF => ?_
 obtain ⟨a3, c3, rs1, rfl, _, hp, hs2⟩ := hRes
 obtain ⟨S3, hp, hs⟩ := hs.got hM0 hp hs2
 have r1 := r1.stp hM0 hp
 have hM0 := hM0.stp hp
 have hs : Sep [sl26 (L a3 x3.1.Clauses c3) rs1, HP.all own26 rs1 x3.1.Clauses, sl103 (L a2 x2.Gates c2) x2.Gates, BX b1 45 [I p0.Inputs, L a1 p0.Gates c1]] w4 S3 := hs
 have hs : Sep [sl26 (L a3 x3.1.Clauses c3) rs1, HP.all own26 rs1 x3.1.Clauses, BX b1 45 [I p0.Inputs, L a1 p0.Gates c1]] w4 S3 := Sep.pick [0, 1, 3] hs (by decide) rfl
 refine from_pure 3 [(1, I p1), (2, B b1 0), (26, .agg #[I x3.1.Vars, L a3 x3.1.Clauses c3]), (27, .bool x3.2)] hF (by kernel_rfl) fun fr hF => ?_
 refine q_alloc (z := .agg #[I 0, L none ([] : List (List Int)) 0]) hs hM0 [I 0, L none ([] : List (List Int)) 0] rfl rfl hF (by kernel_rfl) rfl fun b2 w5 S4 fr hs hp hF => ?_
 have r1 := r1.stp hM0 hp
 have hM0 := hM0.stp hp
 have hs : Sep [BX b2 48 [I 0, L none ([] : List (List Int)) 0], sl26 (L a3 x3.1.Clauses c3) rs1, HP.all own26 rs1 x3.1.Clauses, BX b1 45 [I p0.Inputs, L a1 p0.Gates c1]] w5 S4 := hs
 refine q_storeBoxS 0 hs hM0 rfl [I x3.1.Vars, L a3 x3.1.Clauses c3] rfl hF rfl rfl (by kernel_rfl) rfl rfl rfl fun w6 S5 hs hp hF => ?_
 have r1 := r1.stp hM0 hp
 have hM0 := hM0.stp hp
 have hs : Sep [BX b2 48 [I x3.1.Vars, L a3 x3.1.Clauses c3], sl26 (L a3 x3.1.Clauses c3) rs1, HP.all own26 rs1 x3.1.Clauses, BX b1 45 [I p0.Inputs, L a1 p0.Gates c1]] w6 S5 := hs
 refine from_pure 1 [(1, I p1), (2, B b1 0), (6, B b2 0), (7, .bool x3.2)] hF (by kernel_rfl) fun fr hF => ?_
 refine from_end rfl (then_normal ?_)
 refine wp_seq (wp_text' ?_)
 refine s_loadBoxS ty45 rfl rfl hF rfl (hs.bx 3 rfl) rfl rfl fun fr hF => ?_
 obtain ⟨x4, hx4, h⟩ := bindE h
 refine s_call [.agg #[I p0.Inputs, L a1 p0.Gates c1]] Try.call31 rfl rfl hF rfl (laws_toCircuit_ok n p0 hx4 (RV.mk_Circuit p0 (r1))) fun v w7 fr hRes hF => ?_
 obtain ⟨a4, c4, rfl, _, hp, hs2⟩ := hRes
 obtain ⟨S6, hp, hs⟩ := hs.got hM0 hp hs2
 have r1 := r1.stp hM0 hp
 have hM0 := hM0.stp hp
 have hs : Sep [sl103 (L a4 x4.Gates c4) x4.Gates, BX b2 48 [I x3.1.Vars, L a3 x3.1.Clauses c3], sl26 (L a3 x3.1.Clauses c3) rs1, HP.all own26 rs1 x3.1.Clauses, BX b1 45 [I p0.Inputs, L a1 p0.Gates c1]] w7 S6 := hs
 refine q_alloc (z := .agg #[I 0, L none ([] : List D.Gate) 0]) hs hM0 [I 0, L none ([] : List D.Gate) 0] rfl rfl hF (by kernel_rfl) rfl fun b3 w8 S7 fr hs hp hF => ?_
 have r1 := r1.stp hM0 hp
 have hM0 := hM0.stp hp
 have hs : Sep [BX b3 53 [I 0, L none ([] : List D.Gate) 0], sl103 (L a4 x4.Gates c4) x4.Gates, BX b2 48 [I x3.1.Vars, L a3 x3.1.Clauses c3], sl26 (L a3 x3.1.Clauses c3) rs1, HP.all own26 rs1 x3.1.Clauses, BX b1 45 [I p0.Inputs, L a1 p0.Gates c1]] w8 S7 := hs
 refine q_storeBoxS 0 hs hM0 rfl [I x4.Inputs, L a4 x4.Gates c4] rfl hF rfl rfl (by kernel_rfl) rfl rfl rfl fun w9 S8 hs hp hF => ?_
 have r1 := r1.stp hM0 hp
 have hM0 := hM0.stp hp
 have hs : Sep [BX b3 53 [I x4.Inputs, L a4 x4.Gates c4], sl103 (L a4 x4.Gates c4) x4.Gates, BX b2 48 [I x3.1.Vars, L a3 x3.1.Clauses c3], sl26 (L a3 x3.1.Clauses c3) rs1, HP.all own26 rs1 x3.1.Clauses, BX b1 45 [I p0.Inputs, L a1 p0.Gates c1]] w9 S8 := hs
 refine from_end rfl (then_normal ?_)
 refine wp_seq (wp_text' ?_)
 refine s_loadBoxS ty53 rfl rfl hF rfl (hs.bx 0 rfl) rfl rfl fun fr hF => ?_
 refine from_pure 1 [(1, I p1), (2, B b1 0), (6, B b2 0), (7, .bool x3.2), (8, B b3 0), (31, .agg #[I x4.Inputs, L a4 x4.Gates c4]), (32, I p1)] hF (by kernel_rfl) fun fr hF => ?_
 obtain ⟨x5, hx5, h⟩ := bindE h
 refine s_call [.agg #[I x4.Inputs, L a4 x4.Gates c4], I p1] Try.call32 rfl rfl hF rfl (impl_FormulaOf_ok n x4 p1 hx5 (RV.mk_Circuit x4 (RV.any (hs.rv 1 rfl)))) fun v w10 fr hRes hF => ?_
 obtain ⟨a5, c5, rs2, rfl, _, hp, hs2⟩ := hRes
 obtain ⟨S9, hp, hs⟩ := hs.got hM0 hp hs2
 have r1 := r1.stp hM0 hp
 have hM0 := hM0.stp hp
 have hs : Sep [sl26 (L a5 x5.1.Clauses c5) rs2, HP.all own26 rs2 x5.1.Clauses, BX b3 53 [I x4.Inputs, L a4 x4.Gates c4], sl103 (L a4 x4.Gates c4) x4.Gates, BX b2 48 [I x3.1.Vars, L a3 x3.1.Clauses c3], sl26 (L a3 x3.1.Clauses c3) rs1, HP.all own26 rs1 x3.1.Clauses, BX b1 45 [I p0.Inputs, L a1 p0.Gates c1]] w10 S9 := hs
 refine from_pure 3 [(1, I p1), (2, B b1 0), (6, B b2 0), (7, .bool x3.2), (8, B b3 0), (34, .agg #[I x5.1.Vars, L a5 x5.1.Clauses c5]), (35, .bool x5.2)] hF (by kernel_rfl) fun fr hF => ?_
 refine q_alloc (z := .agg #[I 0, L none ([] : List (List Int)) 0]) hs hM0 [I 0, L none ([] : List (List Int)) 0] rfl rfl hF (by kernel_rfl) rfl fun b4 w11 S10 fr hs hp hF => ?_
 have r1 := r1.stp hM0 hp
 have hM0 := hM0.stp hp
 have hs : Sep [BX b4 48 [I 0, L none ([] : List (List Int)) 0], sl26 (L a5 x5.1.Clauses c5) rs2, HP.all own26 rs2 x5.1.Clauses, BX b3 53 [I x4.Inputs, L a4 x4.Gates c4], sl103 (L a4 x4.Gates c4) x4.Gates, BX b2 48 [I x3.1.Vars, L a3 x3.1.Clauses c3], sl26 (L a3 x3.1.Clauses c3) rs1, HP.all own26 rs1 x3.1.Clauses, BX b1 45 [I p0.Inputs, L a1 p0.Gates c1]] w11 S10 := hs
 refine q_storeBoxS 0 hs hM0 rfl [I x5.1.Vars, L a5 x5.1.Clauses c5] rfl hF rfl rfl (by kernel_rfl) rfl rfl rfl fun w12 S11 hs hp hF => ?_
 have r1 := r1.stp hM0 hp
 have hM0 := hM0.stp hp
 have hs : Sep [BX b4 48 [I x5.1.Vars, L a5 x5.1.Clauses c5], sl26 (L a5 x5.1.Clauses c5) rs2, HP.all own26 rs2 x5.1.Clauses, BX b3 53 [I x4.Inputs, L a4 x4.Gates c4], sl103 (L a4 x4.Gates c4) x4.Gates, BX b2 48 [I x3.1.Vars, L a3 x3.1.Clauses c3], sl26 (L a3 x3.1.Clauses c3) rs1, HP.all own26 rs1 x3.1.Clauses, BX b1 45 [I p0.Inputs, L a1 p0.Gates c1]] w12 S11 := hs
 refine from_pure 1 [(1, I p1), (2, B b1 0), (6, B b2 0), (7, .bool x3.2), (8, B b3 0), (9, B b4 0), (10, .bool x5.2)] hF (by kernel_rfl) fun fr hF => ?_
 refine from_end rfl (then_normal ?_)
 refine wp_seq ?_
 obtain ⟨x6, hx6, h⟩ := bindE h
 refine wp_seq (region_b [] [false, false, false, true, true, true, true, true, true]
     [.eq (.agg #[I x5.1.Vars, L a5 x5.1.Clauses c5]), .eq (.agg #[I x3.1.Vars, L a3 x3.1.Clauses c3]), .eq (.bool x6), .eq (.bool (!x6)), .eq (.bool (!x6)), .eq (.bool x5.2), .eq (.bool x3.2), .eq (.bool (!(x5.2 == x3.2))), .eq (.bool ((!x6) || (!(x5.2 == x3.2))))]
     [(1, I p1), (2, B b1 0), (6, B b2 0), (7, .bool x3.2), (8, B b3 0), (9, B b4 0), (10, .bool x5.2), (44, .bool ((!x6) || (!(x5.2 == x3.2))))] mix hF (by kernel_rfl) (by kernel_rfl) (by kernel_rfl) ⟨Pd.mono_eq, Pd.mono_eq, Pd.mono_eq, trivial⟩ (fun hG => ⟨np_loadBoxS hG hF ty48 rfl rfl (hs.bx 0 rfl) rfl rfl rfl rfl, np_loadBoxS hG hF ty48 rfl rfl (hs.bx 5 rfl) rfl rfl rfl rfl, np_call [.agg #[I x5.1.Vars, L a5 x5.1.Clauses c5], .agg #[I x3.1.Vars, L a3 x3.1.Clauses c3]] hG hF Try.call33 rfl rfl (fun w hC hg => (laws_eqFormula_ok n x5.1 x3.1 hx6 ((RV.mk_Formula x5.1 (RV.any (hs.drv owns26 1 2 rfl rfl (by decide)))).ext hC) ((RV.mk_Formula x3.1 (RV.any (hs.drv owns26 6 7 rfl rfl (by decide)))).ext hC)).mono fun e w' ⟨v, he, hv, hc⟩ => ⟨v, he, hc, hv⟩), trivial⟩) (by kernel_rfl) fun fr w13 hF hE hc => then_normal ?_)
 have r1 := r1.ext hc
 have hs := hs.ext hc
 have hM0 := hM0.ext hc
 refine (wp_if hF (b := ((!x6) || (!(x5.2 == x3.2)))) rfl (fun hb => ?_) (fun hb => ?_))
 · replace h := iteT hb h
   have hs : Sep [] w13 S11 := Sep.pick [] hs (by decide) rfl
   refine wp_seq (wp_pure [(4, .bool false)] hF (by kernel_rfl) fun fr hF => then_normal ?_)
   obtain rfl := Option.some.inj h
   exact wp_ret (then_ret (ret1 rfl hF rfl ⟨_, rfl, rfl, hM0.chg⟩))
 replace h := iteF hb h
 refine (wp_skip (then_normal ?_))
 refine wp_seq ?_
 obtain ⟨x7, hx7, h⟩ := bindE h
 obtain ⟨x8, hx8, h⟩ := bindE h
 refine wp_seq (region_bm 5 [0, 0, 2, 7, 15] [false, false, false, false, true]
     [.eq (.agg #[I x4.Inputs, L a4 x4.Gates c4]), .eq (.agg #[I p0.Inputs, L a1 p0.Gates c1]), .is fun v w => RV w (fun k => k < w.heap.size) v (x7 : D.Circuit), .eq (.bool x8), .eq (.bool (!x8))]
     [(1, I p1), (2, B b1 0), (6, B b2 0), (7, .bool x3.2), (8, B b3 0), (9, B b4 0), (10, .bool x5.2), (49, .bool (!x8))] mix hF (by kernel_rfl) (by kernel_rfl) (by kernel_rfl) (by kernel_rfl) ⟨Pd.monoO_eq, Pd.monoO_eq, (Pd.monoO_is mono_rvb), Pd.monoO_eq, trivial⟩ (fun ow hG => ⟨np_to ow (np_loadBoxS hG hF ty53 rfl rfl (hs.bx 3 rfl) rfl rfl rfl rfl), np_to ow (np_loadBoxS hG hF ty45 rfl rfl (hs.bx 8 rfl) rfl rfl rfl rfl), np_to ow (np_callI [.inl (.agg #[I p0.Inputs, L a1 p0.Gates c1])] hG hF Try.call31 rfl rfl (by kernel_rfl) (fun w vs hC hg ha => by obtain ⟨_, rfl, rfl⟩ := ha; exact (laws_toCircuit_ok n p0 hx7 ((RV.mk_Circuit p0 (r1)).ext hC)).mono fun e w' ⟨v, he, a0, c0, hv, _, hp, ho⟩ => ⟨_, he, hp.chg, by rw [hv]; exact (show RV w' (fun k => k < w'.heap.size) _ (x7 : D.Circuit) from RV.mk_Circuit x7 ((ho.rv 0 rfl).sub fun k hk _ => hk))⟩)), np_to ow (np_callI [.inl (.agg #[I x4.Inputs, L a4 x4.Gates c4]), .inr 2] hG hF Try.call34 rfl rfl (by kernel_rfl) (fun w vs hC hg ha => by obtain ⟨_, rfl, vq1, _, rfl, hq1, rfl⟩ := ha; exact (laws_eqCircuit_ok n x4 x7 hx8 ((RV.mk_Circuit x4 (RV.any (hs.rv 4 rfl))).ext hC) (show RV w (fun k => k < w.heap.size) vq1 x7 from hq1)).mono fun e w' ⟨v, he, hv, hc⟩ => ⟨v, he, hc, hv⟩)), trivial⟩) (by kernel_rfl) fun ow fr w14 hF hE hc => ?_)
 have r1 := r1.ext hc
 have hs := hs.ext hc
 have hM0 := hM0.ext hc
 refine from_end rfl (then_normal ?_)
 refine (wp_if hF (b := (!x8)) rfl (fun hb => ?_) (fun hb => ?_))
 · replace h := iteT hb h
   have hs : Sep [] w14 S11 := Sep.pick [] hs (by decide) rfl
   refine wp_seq (wp_pure [(4, .bool false)] hF (by kernel_rfl) fun fr hF => then_normal ?_)
   obtain rfl := Option.some.inj h
   exact wp_ret (then_ret (ret1 rfl hF rfl ⟨_, rfl, rfl, hM0.chg⟩))
 replace h := iteF hb h
 refine (wp_skip (then_normal ?_))
 refine wp_seq (wp_pure [(1, I p1), (2, B b1 0), (6, B b2 0), (7, .bool x3.2), (8, B b3 0), (9, B b4 0), (10, .bool x5.2), (11, I 1)] hF (by kernel_rfl) fun fr hF => then_normal ?_)
 refine wp_seq (wp_text' ?_)
 refine s_loadBoxS ty53 rfl rfl hF rfl (hs.bx 3 rfl) rfl rfl fun fr hF => ?_
 have hs : Sep [BX b4 48 [I x5.1.Vars, L a5 x5.1.Clauses c5], sl26 (L a5 x5.1.Clauses c5) rs2, HP.all own26 rs2 x5.1.Clauses, sl103 (L a4 x4.Gates c4) x4.Gates, BX b2 48 [I x3.1.Vars, L a3 x3.1.Clauses c3], sl26 (L a3 x3.1.Clauses c3) rs1, HP.all own26 rs1 x3.1.Clauses, BX b1 45 [I p0.Inputs, L a1 p0.Gates c1]] w14 S11 := Sep.pick [0, 1, 2, 4, 5, 6, 7, 8] hs (by decide) rfl
 refine from_pure 1 [(1, I p1), (2, B b1 0), (6, B b2 0), (7, .bool x3.2), (9, B b4 0), (10, .bool x5.2), (50, .agg #[I x4.Inputs, L a4 x4.Gates c4]), (51, I 1)] hF (by kernel_rfl) fun fr hF => ?_
 obtain ⟨x9, hx9, h⟩ := bindE h
 have hs : Sep [sl103 (L a4 x4.Gates c4) x4.Gates, BX b4 48 [I x5.1.Vars, L a5 x5.1.Clauses c5], sl26 (L a5 x5.1.Clauses c5) rs2, HP.all own26 rs2 x5.1.Clauses, BX b2 48 [I x3.1.Vars, L a3 x3.1.Clauses c3], sl26 (L a3 x3.1.Clauses c3) rs1, HP.all own26 rs1 x3.1.Clauses, BX b1 45 [I p0.Inputs, L a1 p0.Gates c1]] w14 S11 := Sep.pick [3, 0, 1, 2, 4, 5, 6, 7] hs (by decide) rfl
 obtain ⟨A1, R1, hsA, hsR, hdA, hbA, hup⟩ := Sep.call (L1 := [sl103 (L a4 x4.Gates c4) x4.Gates]) (L2 := [BX b4 48 [I x5.1.Vars, L a5 x5.1.Clauses c5], sl26 (L a5 x5.1.Clauses c5) rs2, HP.all own26 rs2 x5.1.Clauses, BX b2 48 [I x3.1.Vars, L a3 x3.1.Clauses c3], sl26 (L a3 x3.1.Clauses c3) rs1, HP.all own26 rs1 x3.1.Clauses, BX b1 45 [I p0.Inputs, L a1 p0.Gates c1]]) hs hM0
 refine s_call [.agg #[I x4.Inputs, L a4 x4.Gates c4], I 1] Try.call35 rfl rfl hF rfl (laws_markCircuit_ok n x4 1 hx9 hsA hbA hdA) fun v w15 fr hRes hF => ?_
 obtain ⟨rfl, _, hp, hs⟩ := hRes
 obtain ⟨S12, hp, hs⟩ := hup hp hs
 have r1 := r1.stp hM0 hp
 have hM0 := hM0.stp hp
 have hs : Sep [sl103 (L a4 x4.Gates c4) x9.2.Gates, BX b4 48 [I x5.1.Vars, L a5 x5.1.Clauses c5], sl26 (L a5 x5.1.Clauses c5) rs2, HP.all own26 rs2 x5.1.Clauses, BX b2 48 [I x3.1.Vars, L a3 x3.1.Clauses c3], sl26 (L a3 x3.1.Clauses c3) rs1, HP.all own26 rs1 x3.1.Clauses, BX b1 45 [I p0.Inputs, L a1 p0.Gates c1]] w15 S12 := hs
 have hs : Sep [BX b4 48 [I x5.1.Vars, L a5 x5.1.Clauses c5], sl26 (L a5 x5.1.Clauses c5) rs2, HP.all own26 rs2 x5.1.Clauses, BX b2 48 [I x3.1.Vars, L a3 x3.1.Clauses c3], sl26 (L a3 x3.1.Clauses c3) rs1, HP.all own26 rs1 x3.1.Clauses, BX b1 45 [I p0.Inputs, L a1 p0.Gates c1]] w15 S12 := Sep.pick [1, 2, 3, 4, 5, 6, 7] hs (by decide) rfl
 refine from_pure 1 [(1, I p1), (2, B b1 0), (6, B b2 0), (7, .bool x3.2), (9, B b4 0), (10, .bool x5.2), (11, I x9.1)] hF (by kernel_rfl) fun fr hF => ?_
 refine from_end rfl (then_normal ?_)
 refine wp_seq ?_
 obtain ⟨x10, hx10, h⟩ := bindE h
 refine wp_seq (region_b [] [true, true, true, false, false, false, true, true, true, true, true, true, true]
     [.eq (I x9.1), .eq (.bool (decide (x9.1 < 0))), .eq (.bool (decide (x9.1 < 0))), .eq (.agg #[I x5.1.Vars, L a5 x5.1.Clauses c5]), .eq (.agg #[I x3.1.Vars, L a3 x3.1.Clauses c3]), .eq (.bool x10), .eq (.bool (!x10)), .eq (.bool ((decide (x9.1 < 0)) || (!x10))), .eq (.bool ((decide (x9.1 < 0)) || (!x10))), .eq (.bool x5.2), .eq (.bool x3.2), .eq (.bool (!(x5.2 == x3.2))), .eq (.bool (((decide (x9.1 < 0)) || (!x10)) || (!(x5.2 == x3.2))))]
     [(1, I p1), (2, B b1 0), (6, B b2 0), (7, .bool x3.2), (9, B b4 0), (65, .bool (((decide (x9.1 < 0)) || (!x10)) || (!(x5.2 == x3.2))))] mix hF (by kernel_rfl) (by kernel_rfl) (by kernel_rfl) ⟨Pd.mono_eq, Pd.mono_eq, Pd.mono_eq, trivial⟩ (fun hG => ⟨np_loadBoxS hG hF ty48 rfl rfl (hs.bx 0 rfl) rfl rfl rfl rfl, np_loadBoxS hG hF ty48 rfl rfl (hs.bx 3 rfl) rfl rfl rfl rfl, np_call [.agg #[I x5.1.Vars, L a5 x5.1.Clauses c5], .agg #[I x3.1.Vars, L a3 x3.1.Clauses c3]] hG hF Try.call33 rfl rfl (fun w hC hg => (laws_eqFormula_ok n x5.1 x3.1 (iteF hg.2 hx10) ((RV.mk_Formula x5.1 (RV.any (hs.drv owns26 1 2 rfl rfl (by decide)))).ext hC) ((RV.mk_Formula x3.1 (RV.any (hs.drv owns26 4 5 rfl rfl (by decide)))).ext hC)).mono fun e w' ⟨v, he, hv, hc⟩ => ⟨v, he, hc, hv⟩), trivial⟩) (by kernel_rfl) fun fr w16 hF hE hc => then_normal ?_)
 have r1 := r1.ext hc
 have hs := hs.ext hc
 have hM0 := hM0.ext hc
 refine (wp_if hF (b := (((decide (x9.1 < 0)) || (!x10)) || (!(x5.2 == x3.2)))) rfl (fun hb => ?_) (fun hb => ?_))
 · replace h := iteT hb h
   have hs : Sep [] w16 S12 := Sep.pick [] hs (by decide) rfl
   refine wp_seq (wp_pure [(4, .bool false)] hF (by kernel_rfl) fun fr hF => then_normal ?_)
   obtain rfl := Option.some.inj h
   exact wp_ret (then_ret (ret1 rfl hF rfl ⟨_, rfl, rfl, hM0.chg⟩))
 replace h := iteF hb h
 refine (wp_skip (then_normal ?_))
 refine wp_seq (wp_pure [(1, I p1), (2, B b1 0), (6, B b2 0), (7, .bool x3.2), (9, B b4 0), (12, I 1)] hF (by kernel_rfl) fun fr hF => then_normal ?_)
 refine wp_seq (wp_text' ?_)
 refine s_loadBoxS ty48 rfl rfl hF rfl (hs.bx 0 rfl) rfl rfl fun fr hF => ?_
 refine from_pure 1 [(1, I p1), (2, B b1 0), (6, B b2 0), (7, .bool x3.2), (9, B b4 0), (66, .agg #[I x5.1.Vars, L a5 x5.1.Clauses c5]), (67, I 1)] hF (by kernel_rfl) fun fr hF => ?_
 obtain ⟨x11, hx11, h⟩ := bindE h
 have hs : Sep [sl26 (L a5 x5.1.Clauses c5) rs2, HP.all own26 rs2 x5.1.Clauses, BX b4 48 [I x5.1.Vars, L a5 x5.1.Clauses c5], BX b2 48 [I x3.1.Vars, L a3 x3.1.Clauses c3], sl26 (L a3 x3.1.Clauses c3) rs1, HP.all own26 rs1 x3.1.Clauses, BX b1 45 [I p0.Inputs, L a1 p0.Gates c1]] w16 S12 := Sep.pick [1, 2, 0, 3, 4, 5, 6] hs (by decide) rfl
 obtain ⟨A2, R2, hsA, hsR, hdA, hbA, hup⟩ := Sep.call (L1 := [sl26 (L a5 x5.1.Clauses c5) rs2, HP.all own26 rs2 x5.1.Clauses]) (L2 := [BX b4 48 [I x5.1.Vars, L a5 x5.1.Clauses c5], BX b2 48 [I x3.1.Vars, L a3 x3.1.Clauses c3], sl26 (L a3 x3.1.Clauses c3) rs1, HP.all own26 rs1 x3.1.Clauses, BX b1 45 [I p0.Inputs, L a1 p0.Gates c1]]) hs hM0
 refine s_call [.agg #[I x5.1.Vars, L a5 x5.1.Clauses c5], I 1] Try.call36 rfl rfl hF rfl (laws_markFormula_ok n x5.1 1 hx11 hsA hbA hdA) fun v w17 fr hRes hF => ?_
 obtain ⟨rs3, rfl, _, hp, hs⟩ := hRes
 obtain ⟨S13, hp, hs⟩ := hup hp hs
 have r1 := r1.stp hM0 hp
 have hM0 := hM0.stp hp
 have hs : Sep [sl26 (L a5 x5.1.Clauses c5) rs3, HP.all own26 rs3 x11.2.Clauses, BX b4 48 [I x5.1.Vars, L a5 x5.1.Clauses c5], BX b2 48 [I x3.1.Vars, L a3 x3.1.Clauses c3], sl26 (L a3 x3.1.Clauses c3) rs1, HP.all own26 rs1 x3.1.Clauses, BX b1 45 [I p0.Inputs, L a1 p0.Gates c1]] w17 S13 := hs
 refine from_pure 1 [(1, I p1), (2, B b1 0), (6, B b2 0), (7, .bool x3.2), (9, B b4 0), (12, I x11.1)] hF (by kernel_rfl) fun fr hF => ?_
 refine from_end rfl (then_normal ?_)
 refine wp_seq (wp_pure [(1, I p1), (2, B b1 0), (6, B b2 0), (7, .bool x3.2), (9, B b4 0), (12, I x11.1), (13, I 1)] hF (by kernel_rfl) fun fr hF => then_normal ?_)
 refine wp_seq (wp_text' ?_)
 refine s_loadBoxS ty48 rfl rfl hF rfl (hs.bx 2 rfl) rfl rfl fun fr hF => ?_
 refine from_pure 1 [(1, I p1), (2, B b1 0), (6, B b2 0), (7, .bool x3.2), (9, B b4 0), (12, I x11.1), (69, .agg #[I x5.1.Vars, L a5 x5.1.Clauses c5]), (70, I 1)] hF (by kernel_rfl) fun fr hF => ?_
 obtain ⟨x12, hx12, h⟩ := bindE h
 refine s_call [.agg #[I x5.1.Vars, L a5 x5.1.Clauses c5], I 1] Try.call37 rfl rfl hF rfl (laws_heldFormula_ok n (D.Formula.mk x5.1.Vars x11.2.Clauses) 1 hx12 (RV.mk_Formula (D.Formula.mk x5.1.Vars x11.2.Clauses) (RV.any (hs.drv owns26 0 1 rfl rfl (by decide))))) fun v w18 fr hRes hF => ?_
 obtain ⟨rfl, hc⟩ := hRes
 have r1 := r1.ext hc
 have hs := hs.ext hc
 have hM0 := hM0.ext hc
 refine from_pure 1 [(1, I p1), (2, B b1 0), (6, B b2 0), (7, .bool x3.2), (9, B b4 0), (12, I x11.1), (13, I x12)] hF (by kernel_rfl) fun fr hF => ?_
 refine from_end rfl (then_normal ?_)
 refine wp_seq ?_
 refine wp_seq (wp_pure [(1, I p1), (2, B b1 0), (6, B b2 0), (7, .bool x3.2), (9, B b4 0), (12, I x11.1), (13, I x12), (73, .bool (decide (x12 < 0)))] hF (by kernel_rfl) fun fr hF => then_normal ?_)
 refine (wp_if hF (b := (decide (x12 < 0))) rfl (fun hb => ?_) (fun hb => ?_))
 · replace h := iteT hb h
   have hs : Sep [] w18 S13 := Sep.pick [] hs (by decide) rfl
   refine wp_seq (wp_pure [(4, .bool false)] hF (by kernel_rfl) fun fr hF => then_normal ?_)
   obtain rfl := Option.some.inj h
   exact wp_ret (then_ret (ret1 rfl hF rfl ⟨_, rfl, rfl, hM0.chg⟩))
 replace h := iteF hb h
 refine (wp_skip (then_normal ?_))
 refine wp_seq ?_
 refine wp_seq (wp_pure [(1, I p1), (2, B b1 0), (6, B b2 0), (7, .bool x3.2), (9, B b4 0), (12, I x11.1), (76, .bool (x12 != x11.1))] hF (by kernel_rfl) fun fr hF => then_normal ?_)
 refine (wp_if hF (b := (x12 != x11.1)) rfl (fun hb => ?_) (fun hb => ?_))
 · replace h := iteT hb h
   have hs : Sep [] w18 S13 := Sep.pick [] hs (by decide) rfl
   refine wp_seq (wp_pure [(4, .bool false)] hF (by kernel_rfl) fun fr hF => then_normal ?_)
   obtain rfl := Option.some.inj h
   exact wp_ret (then_ret (ret1 rfl hF rfl ⟨_, rfl, rfl, hM0.chg⟩))
 replace h := iteF hb h
 refine (wp_skip (then_normal ?_))
 refine wp_seq (wp_text' ?_)
 refine s_loadBoxS ty45 rfl rfl hF rfl (hs.bx 6 rfl) rfl rfl fun fr hF => ?_
 have hs : Sep [sl26 (L a5 x5.1.Clauses c5) rs3, HP.all own26 rs3 x11.2.Clauses, BX b4 48 [I x5.1.Vars, L a5 x5.1.Clauses c5], BX b2 48 [I x3.1.Vars, L a3 x3.1.Clauses c3], sl26 (L a3 x3.1.Clauses c3) rs1, HP.all own26 rs1 x3.1.Clauses] w18 S13 := Sep.pick [0, 1, 2, 3, 4, 5] hs (by decide) rfl
 obtain ⟨x13, hx13, h⟩ := bindE h
 refine s_call [.agg #[I p0.Inputs, L a1 p0.Gates c1]] Try.call31 rfl rfl hF rfl (laws_toCircuit_ok n p0 hx13 (RV.mk_Circuit p0 (r1))) fun v w19 fr hRes hF => ?_
 obtain ⟨a6, c6, rfl, _, hp, hs2⟩ := hRes
 obtain ⟨S14, hp, hs⟩ := hs.got hM0 hp hs2
 have r1 := r1.stp hM0 hp
 have hM0 := hM0.stp hp
 have hs : Sep [sl103 (L a6 x13.Gates c6) x13.Gates, sl26 (L a5 x5.1.Clauses c5) rs3, HP.all own26 rs3 x11.2.Clauses, BX b4 48 [I x5.1.Vars, L a5 x5.1.Clauses c5], BX b2 48 [I x3.1.Vars, L a3 x3.1.Clauses c3], sl26 (L a3 x3.1.Clauses c3) rs1, HP.all own26 rs1 x3.1.Clauses] w19 S14 := hs
 refine from_pure 1 [(6, B b2 0), (7, .bool x3.2), (9, B b4 0), (12, I x11.1), (79, .agg #[I x13.Inputs, L a6 x13.Gates c6]), (80, I p1)] hF (by kernel_rfl) fun fr hF => ?_
 obtain ⟨x14, hx14, h⟩ := bindE h
 refine s_call [.agg #[I x13.Inputs, L a6 x13.Gates c6], I p1] Try.call32 rfl rfl hF rfl (impl_FormulaOf_ok n x13 p1 hx14 (RV.mk_Circuit x13 (RV.any (hs.rv 0 rfl)))) fun v w20 fr hRes hF => ?_
 obtain ⟨a7, c7, rs4, rfl, _, hp, hs2⟩ := hRes
 obtain ⟨S15, hp, hs⟩ := hs.got hM0 hp hs2
 have hM0 := hM0.stp hp
 have hs : Sep [sl26 (L a7 x14.1.Clauses c7) rs4, HP.all own26 rs4 x14.1.Clauses, sl103 (L a6 x13.Gates c6) x13.Gates, sl26 (L a5 x5.1.Clauses c5) rs3, HP.all own26 rs3 x11.2.Clauses, BX b4 48 [I x5.1.Vars, L a5 x5.1.Clauses c5], BX b2 48 [I x3.1.Vars, L a3 x3.1.Clauses c3], sl26 (L a3 x3.1.Clauses c3) rs1, HP.all own26 rs1 x3.1.Clauses] w20 S15 := hs
 have hs : Sep [sl26 (L a7 x14.1.Clauses c7) rs4, HP.all own26 rs4 x14.1.Clauses, sl26 (L a5 x5.1.Clauses c5) rs3, HP.all own26 rs3 x11.2.Clauses, BX b4 48 [I x5.1.Vars, L a5 x5.1.Clauses c5], BX b2 48 [I x3.1.Vars, L a3 x3.1.Clauses c3], sl26 (L a3 x3.1.Clauses c3) rs1, HP.all own26 rs1 x3.1.Clauses] w20 S15 := Sep.pick [0, 1, 3, 4, 5, 6, 7, 8] hs (by decide) rfl
 refine from_pure 3 [(6, B b2 0), (7, .bool x3.2), (9, B b4 0), (12, I x11.1), (82, .agg #[I x14.1.Vars, L a7 x14.1.Clauses c7]), (83, .bool x14.2)] hF (by kernel_rfl) fun fr hF => ?_
 refine q_alloc (z := .agg #[I 0, L none ([] : List (List Int)) 0]) hs hM0 [I 0, L none ([] : List (List Int)) 0] rfl rfl hF (by kernel_rfl) rfl fun b5 w21 S16 fr hs hp hF => ?_
 have hM0 := hM0.stp hp
 have hs : Sep [BX b5 48 [I 0, L none ([] : List (List Int)) 0], sl26 (L a7 x14.1.Clauses c7) rs4, HP.all own26 rs4 x14.1.Clauses, sl26 (L a5 x5.1.Clauses c5) rs3, HP.all own26 rs3 x11.2.Clauses, BX b4 48 [I x5.1.Vars, L a5 x5.1.Clauses c5], BX b2 48 [I x3.1.Vars, L a3 x3.1.Clauses c3], sl26 (L a3 x3.1.Clauses c3) rs1, HP.all own26 rs1 x3.1.Clauses] w21 S16 := hs
 refine q_storeBoxS 0 hs hM0 rfl [I x14.1.Vars, L a7 x14.1.Clauses c7] rfl hF rfl rfl (by kernel_rfl) rfl rfl rfl fun w22 S17 hs hp hF => ?_
 have hM0 := hM0.stp hp
 have hs : Sep [BX b5 48 [I x14.1.Vars, L a7 x14.1.Clauses c7], sl26 (L a7 x14.1.Clauses c7) rs4, HP.all own26 rs4 x14.1.Clauses, sl26 (L a5 x5.1.Clauses c5) rs3, HP.all own26 rs3 x11.2.Clauses, BX b4 48 [I x5.1.Vars, L a5 x5.1.Clauses c5], BX b2 48 [I x3.1.Vars, L a3 x3.1.Clauses c3], sl26 (L a3 x3.1.Clauses c3) rs1, HP.all own26 rs1 x3.1.Clauses] w22 S17 := hs
 refine from_pure 1 [(6, B b2 0), (7, .bool x3.2), (9, B b4 0), (12, I x11.1), (14, B b5 0), (15, .bool x14.2)] hF (by kernel_rfl) fun fr hF => ?_
 refine from_end rfl (then_normal ?_)
 refine wp_seq ?_
 obtain ⟨x15, hx15, h⟩ := bindE h
 refine wp_seq (region_b [] [false, false, false, true, true, true, true, true, true]
     [.eq (.agg #[I x14.1.Vars, L a7 x14.1.Clauses c7]), .eq (.agg #[I x3.1.Vars, L a3 x3.1.Clauses c3]), .eq (.bool x15), .eq (.bool (!x15)), .eq (.bool (!x15)), .eq (.bool x14.2), .eq (.bool x3.2), .eq (.bool (!(x14.2 == x3.2))), .eq (.bool ((!x15) || (!(x14.2 == x3.2))))]
     [(9, B b4 0), (12, I x11.1), (92, .bool ((!x15) || (!(x14.2 == x3.2))))] mix hF (by kernel_rfl) (by kernel_rfl) (by kernel_rfl) ⟨Pd.mono_eq, Pd.mono_eq, Pd.mono_eq, trivial⟩ (fun hG => ⟨np_loadBoxS hG hF ty48 rfl rfl (hs.bx 0 rfl) rfl rfl rfl rfl, np_loadBoxS hG hF ty48 rfl rfl (hs.bx 6 rfl) rfl rfl rfl rfl, np_call [.agg #[I x14.1.Vars, L a7 x14.1.Clauses c7], .agg #[I x3.1.Vars, L a3 x3.1.Clauses c3]] hG hF Try.call33 rfl rfl (fun w hC hg => (laws_eqFormula_ok n x14.1 x3.1 hx15 ((RV.mk_Formula x14.1 (RV.any (hs.drv owns26 1 2 rfl rfl (by decide)))).ext hC) ((RV.mk_Formula x3.1 (RV.any (hs.drv owns26 7 8 rfl rfl (by decide)))).ext hC)).mono fun e w' ⟨v, he, hv, hc⟩ => ⟨v, he, hc, hv⟩), trivial⟩) (by kernel_rfl) fun fr w23 hF hE hc => then_normal ?_)
 have hs := hs.ext hc
 have hM0 := hM0.ext hc
 have hs : Sep [sl26 (L a5 x5.1.Clauses c5) rs3, HP.all own26 rs3 x11.2.Clauses, BX b4 48 [I x5.1.Vars, L a5 x5.1.Clauses c5]] w23 S17 := Sep.pick [3, 4, 5] hs (by decide) rfl
 refine (wp_if hF (b := ((!x15) || (!(x14.2 == x3.2)))) rfl (fun hb => ?_) (fun hb => ?_))
 · replace h := iteT hb h
   have hs : Sep [] w23 S17 := Sep.pick [] hs (by decide) rfl
   refine wp_seq (wp_pure [(4, .bool false)] hF (by kernel_rfl) fun fr hF => then_normal ?_)
   obtain rfl := Option.some.inj h
   exact wp_ret (then_ret (ret1 rfl hF rfl ⟨_, rfl, rfl, hM0.chg⟩))
 replace h := iteF hb h
 refine (wp_skip (then_normal ?_))
 refine wp_seq (wp_pure [(9, B b4 0), (12, I x11.1), (13, I 1)] hF (by kernel_rfl) fun fr hF => then_normal ?_)
 refine wp_seq (wp_text' ?_)
 refine s_loadBoxS ty48 rfl rfl hF rfl (hs.bx 2 rfl) rfl rfl fun fr hF => ?_
 have hs : Sep [sl26 (L a5 x5.1.Clauses c5) rs3, HP.all own26 rs3 x11.2.Clauses] w23 S17 := Sep.pick [0, 1] hs (by decide) rfl
 refine from_pure 1 [(12, I x11.1), (93, .agg #[I x5.1.Vars, L a5 x5.1.Clauses c5]), (94, I 1)] hF (by kernel_rfl) fun fr hF => ?_
 obtain ⟨x16, hx16, h⟩ := bindE h
 refine s_call [.agg #[I x5.1.Vars, L a5 x5.1.Clauses c5], I 1] Try.call37 rfl rfl hF rfl (laws_heldFormula_ok n (D.Formula.mk x5.1.Vars x11.2.Clauses) 1 hx16 (RV.mk_Formula (D.Formula.mk x5.1.Vars x11.2.Clauses) (RV.any (hs.drv owns26 0 1 rfl rfl (by decide))))) fun v w24 fr hRes hF => ?_
 obtain ⟨rfl, hc⟩ := hRes
 have hs := hs.ext hc
 have hM0 := hM0.ext hc
 have hs : Sep [] w24 S17 := Sep.pick [] hs (by decide) rfl
 refine from_pure 1 [(12, I x11.1), (13, I x16)] hF (by kernel_rfl) fun fr hF => ?_
 refine from_end rfl (then_normal ?_)
 refine wp_seq ?_
 refine wp_seq (wp_pure [(12, I x11.1), (13, I x16), (97, .bool (decide (x16 < 0)))] hF (by kernel_rfl) fun fr hF => then_normal ?_)
 refine (wp_if hF (b := (decide (x16 < 0))) rfl (fun hb => ?_) (fun hb => ?_))
 · replace h := iteT hb h
   refine wp_seq (wp_pure [(4, .bool false)] hF (by kernel_rfl) fun fr hF => then_normal ?_)
   obtain rfl := Option.some.inj h
   exact wp_ret (then_ret (ret1 rfl hF rfl ⟨_, rfl, rfl, hM0.chg⟩))
 replace h := iteF hb h
 refine (wp_skip (then_normal ?_))
 refine wp_seq ?_
 refine wp_seq (wp_pure [(100, .bool (x16 != x11.1))] hF (by kernel_rfl) fun fr hF => then_normal ?_)
 refine (wp_if hF (b := (x16 != x11.1)) rfl (fun hb => ?_) (fun hb => ?_))
 · replace h := iteT hb h
   refine wp_seq (wp_pure [(4, .bool false)] hF (by kernel_rfl) fun fr hF => then_normal ?_)
   obtain rfl := Option.some.inj h
   exact wp_ret (then_ret (ret1 rfl hF rfl ⟨_, rfl, rfl, hM0.chg⟩))
 replace h := iteF hb h
 refine (wp_skip (then_normal ?_))
 refine wp_seq (wp_pure [(4, .bool true)] hF (by kernel_rfl) fun fr hF => then_normal ?_)
 obtain rfl := Option.some.inj h
 exact wp_ret (ret1 rfl hF rfl ⟨_, rfl, rfl, hM0.chg⟩)
end Go.Proofs.Ytknlknnihinmjaa
