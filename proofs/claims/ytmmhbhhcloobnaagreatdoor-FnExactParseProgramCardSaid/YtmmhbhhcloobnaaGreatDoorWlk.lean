/- Printed by gen2.py: the walks. -/
import Derived.Test.YtmmhbhhcloobnaaGreatDoorWlkC
set_option linter.unusedVariables false
set_option maxRecDepth 100000
namespace Go.Proofs.YtmmhbhhcloobnaaGreatDoor
open Go.GL Go.Maps Go.WideMaps
theorem impl_ParseProgram_ok (n : Nat) (p0 : Str) {r : D.Program × Bool} (h : impl_ParseProgram n p0 = some r) {w : World} {G99 : Nat → Prop} (tb : TX Tryz.prog w G99) :
   Calls Tryz.prog 5 [Str.val p0].toArray w fun e w' => ∃ v, e = .returned v ∧ ∃ a1 c1, v = .tuple #[.agg #[I r.1.W, I r.1.Mem, I r.1.In, L a1 r.1.Code c1], .bool r.2] ∧ ∃ S', Stp w Non w' S' ∧ Sep [sl38 (L a1 r.1.Code c1) r.1.Code] w' S' := by
 unfold impl_ParseProgram at h
 have hs := Sep.nil w Non
 have hM0 : Mem w Non (fun k => (G99 k) ∧ k < w.heap.size) w Non (fun k => (G99 k) ∧ k < w.heap.size) := Mem.start (fun _ h => h.elim) (fun _ h => h.2) (fun _ h => h.elim)
 have tb := tb.sub (F' := (fun k => (G99 k) ∧ k < w.heap.size)) (fun k hk h => ⟨h, hk⟩)
 refine enter (N := 92) Tryz.func5 rfl Tryz.ntmps5 rfl fun fr hF => ?_
 refine wp_seq (wp_text' ?_)
 refine q_alloc (z := .agg #[I 0, I 0, I 0, L none ([] : List D.Ins) 0]) hs hM0 [I 0, I 0, I 0, L none ([] : List D.Ins) 0] rfl rfl hF (by kernel_rfl) rfl fun b1 w1 S1 fr hs hp hF => ?_
 have tb := tb.stp hM0 hp
 have hM0 := hM0.stp hp
 have hs : Sep [BX b1 24 [I 0, I 0, I 0, L none ([] : List D.Ins) 0]] w1 S1 := hs
 refine from_pure 1 [(0, Str.val p0), (2, B b1 0)] hF (by kernel_rfl) fun fr hF => ?_
 refine from_end rfl (then_normal ?_)
 refine wp_seq (wp_text' ?_)
 refine from_pure 1 [(0, Str.val p0), (2, B b1 0), (14, Str.val p0)] hF (by kernel_rfl) fun fr hF => ?_
 obtain ⟨x1, hx1, h⟩ := bindE h
 refine s_call [Str.val p0] Tryz.call17 rfl rfl hF rfl (impl_SplitLines_ok p0 hx1 tb) fun v w2 fr hRes hF => ?_
 obtain ⟨a1, c1, rfl, _, hp, hs2⟩ := hRes
 obtain ⟨S2, hp, hs⟩ := hs.got hM0 hp hs2
 have tb := tb.stp hM0 hp
 have hM0 := hM0.stp hp
 have hs : Sep [sl9 (L a1 x1 c1) x1, BX b1 24 [I 0, I 0, I 0, L none ([] : List D.Ins) 0]] w2 S2 := hs
 refine from_pure 1 [(0, Str.val p0), (2, B b1 0), (4, L a1 x1 c1)] hF (by kernel_rfl) fun fr hF => ?_
 refine from_end rfl (then_normal ?_)
 refine wp_seq ?_
 refine wp_seq (wp_pure [(0, Str.val p0), (2, B b1 0), (4, L a1 x1 c1), (18, .bool (decide ((len x1) < 2)))] hF (by kernel_rfl) fun fr hF => then_normal ?_)
 refine (wp_if hF (b := (decide ((len x1) < 2))) rfl (fun hb => ?_) (fun hb => ?_))
 · replace h := iteT hb h
   have hs : Sep [BX b1 24 [I 0, I 0, I 0, L none ([] : List D.Ins) 0]] w2 S2 := Sep.pick [1] hs (by decide) rfl
   refine wp_seq (wp_text' ?_)
   refine from_pure 1 [(2, B b1 0), (19, .agg #[I 0, I 0, I 0, L none ([] : List D.Ins) 0])] hF (by kernel_rfl) fun fr hF => ?_
   refine q_storeBoxS 0 hs hM0 rfl [I 0, I 0, I 0, L none ([] : List D.Ins) 0] rfl hF rfl rfl (by kernel_rfl) rfl rfl rfl fun w3 S3 hs hp hF => ?_
   have tb := tb.stp hM0 hp
   have hM0 := hM0.stp hp
   have hs : Sep [BX b1 24 [I 0, I 0, I 0, L none ([] : List D.Ins) 0]] w3 S3 := hs
   refine from_pure 1 [(2, B b1 0), (3, .bool false)] hF (by kernel_rfl) fun fr hF => ?_
   refine from_end rfl (then_normal ?_)
   have hrets := fun {σ : List (Nat × Value)} (h : σ = [(2, B b1 0), (3, .bool false)]) => (by subst h; exact (Rets.cell rfl ty24 (hs.bx 0 rfl) rfl rfl (Rets.tmp rfl Rets.nil)) : Rets Tryz.prog σ w3 [.cell 2 24, .tmp 3] [.agg #[I 0, I 0, I 0, L none ([] : List D.Ins) 0], .bool false])
   have hs : Sep [sl38 (L none ([] : List D.Ins) 0) ([] : List D.Ins), BX b1 24 [I 0, I 0, I 0, L none ([] : List D.Ins) 0]] w3 S3 := hs.cons_nil (α := D.Ins) 38
   obtain rfl := Option.some.inj h
   have hs : Sep [sl38 (L none ([] : List D.Ins) 0) ([] : List D.Ins)] w3 S3 := Sep.pick [0] hs (by decide) rfl
   exact wp_ret (then_ret (retG (rs := [.cell 2 24, .tmp 3]) rfl (hF.sub [(2, B b1 0), (3, .bool false)] (by kernel_rfl)) (hrets rfl) rfl ⟨_, rfl, none, 0, rfl, S3, hM0.out, hs⟩))
 replace h := iteF hb h
 refine (wp_skip (then_normal ?_))
 refine wp_seq (wp_text' ?_)
 refine from_pure 1 [(0, Str.val p0), (2, B b1 0), (4, L a1 x1 c1), (21, L a1 x1 c1)] hF (by kernel_rfl) fun fr hF => ?_
 obtain ⟨x2, hx2, h⟩ := bindE h
 refine s_elemF (z := x2) (Str.val x2) ty9 Tryz.underlying30 rfl rfl rfl rfl rfl hF rfl (hs.rv 0 rfl) rfl (get?_nn hx2) (get?_at hx2) rfl fun p fr hF => ?_
 obtain ⟨x3, hx3, h⟩ := bindE h
 refine s_call [Str.val x2, Str.val (⟨[109, 97, 99, 104, 105, 110, 101, 32]⟩)] Tryz.call18 rfl rfl hF rfl (strings_CutPrefix_ok x2 (⟨[109, 97, 99, 104, 105, 110, 101, 32]⟩) hx3) fun v w4 fr hRes hF => ?_
 obtain ⟨rfl, hc⟩ := hRes
 have tb := tb.ext hc
 have hs := hs.ext hc
 have hM0 := hM0.ext hc
 refine from_pure 5 [(0, Str.val p0), (2, B b1 0), (4, L a1 x1 c1), (5, Str.val x3.1), (6, .bool x3.2)] hF (by kernel_rfl) fun fr hF => ?_
 refine from_end rfl (then_normal ?_)
 refine wp_seq (wp_text' ?_)
 refine from_pure 1 [(0, Str.val p0), (2, B b1 0), (4, L a1 x1 c1), (6, .bool x3.2), (28, Str.val x3.1)] hF (by kernel_rfl) fun fr hF => ?_
 obtain ⟨x4, hx4, h⟩ := bindE h
 refine s_call [Str.val x3.1] Tryz.call19 rfl rfl hF rfl (impl_ParseInts_ok n x3.1 hx4 tb) fun v w5 fr hRes hF => ?_
 obtain ⟨a2, c2, rfl, _, hp, hs2⟩ := hRes
 obtain ⟨S4, hp, hs⟩ := hs.got hM0 hp hs2
 have tb := tb.stp hM0 hp
 have hM0 := hM0.stp hp
 have hs : Sep [sl3 (L a2 x4.1 c2) x4.1, sl9 (L a1 x1 c1) x1, BX b1 24 [I 0, I 0, I 0, L none ([] : List D.Ins) 0]] w5 S4 := hs
 refine from_pure 5 [(0, Str.val p0), (2, B b1 0), (4, L a1 x1 c1), (6, .bool x3.2), (7, L a2 x4.1 c2), (8, .bool x4.2)] hF (by kernel_rfl) fun fr hF => ?_
 refine from_end rfl (then_normal ?_)
 refine wp_seq ?_
 refine wp_seq (region_b [] [true, true, true, true, true, true, true, true, true, true, true]
     [.eq (.bool x3.2), .eq (.bool (!x3.2)), .eq (.bool (!x3.2)), .eq (.bool x4.2), .eq (.bool (!x4.2)), .eq (.bool ((!x3.2) || (!x4.2))), .eq (.bool ((!x3.2) || (!x4.2))), .eq (L a2 x4.1 c2), .eq (I (len x4.1)), .eq (.bool ((len x4.1) != 3)), .eq (.bool (((!x3.2) || (!x4.2)) || ((len x4.1) != 3)))]
     [(0, Str.val p0), (2, B b1 0), (4, L a1 x1 c1), (7, L a2 x4.1 c2), (42, .bool (((!x3.2) || (!x4.2)) || ((len x4.1) != 3)))] mix hF (by kernel_rfl) (by kernel_rfl) (by kernel_rfl) trivial (fun hG => trivial) (by kernel_rfl) fun fr w6 hF hE hc => then_normal ?_)
 have tb := tb.ext hc
 have hs := hs.ext hc
 have hM0 := hM0.ext hc
 refine (wp_if hF (b := (((!x3.2) || (!x4.2)) || ((len x4.1) != 3))) rfl (fun hb => ?_) (fun hb => ?_))
 · replace h := iteT hb h
   have hs : Sep [BX b1 24 [I 0, I 0, I 0, L none ([] : List D.Ins) 0]] w6 S4 := Sep.pick [2] hs (by decide) rfl
   refine wp_seq (wp_text' ?_)
   refine from_pure 1 [(2, B b1 0), (43, .agg #[I 0, I 0, I 0, L none ([] : List D.Ins) 0])] hF (by kernel_rfl) fun fr hF => ?_
   refine q_storeBoxS 0 hs hM0 rfl [I 0, I 0, I 0, L none ([] : List D.Ins) 0] rfl hF rfl rfl (by kernel_rfl) rfl rfl rfl fun w7 S5 hs hp hF => ?_
   have tb := tb.stp hM0 hp
   have hM0 := hM0.stp hp
   have hs : Sep [BX b1 24 [I 0, I 0, I 0, L none ([] : List D.Ins) 0]] w7 S5 := hs
   refine from_pure 1 [(2, B b1 0), (3, .bool false)] hF (by kernel_rfl) fun fr hF => ?_
   refine from_end rfl (then_normal ?_)
   have hrets := fun {σ : List (Nat × Value)} (h : σ = [(2, B b1 0), (3, .bool false)]) => (by subst h; exact (Rets.cell rfl ty24 (hs.bx 0 rfl) rfl rfl (Rets.tmp rfl Rets.nil)) : Rets Tryz.prog σ w7 [.cell 2 24, .tmp 3] [.agg #[I 0, I 0, I 0, L none ([] : List D.Ins) 0], .bool false])
   have hs : Sep [sl38 (L none ([] : List D.Ins) 0) ([] : List D.Ins), BX b1 24 [I 0, I 0, I 0, L none ([] : List D.Ins) 0]] w7 S5 := hs.cons_nil (α := D.Ins) 38
   obtain rfl := Option.some.inj h
   have hs : Sep [sl38 (L none ([] : List D.Ins) 0) ([] : List D.Ins)] w7 S5 := Sep.pick [0] hs (by decide) rfl
   exact wp_ret (then_ret (retG (rs := [.cell 2 24, .tmp 3]) rfl (hF.sub [(2, B b1 0), (3, .bool false)] (by kernel_rfl)) (hrets rfl) rfl ⟨_, rfl, none, 0, rfl, S5, hM0.out, hs⟩))
 replace h := iteF hb h
 refine (wp_skip (then_normal ?_))
 obtain ⟨x5, hx5, h⟩ := bindE h
 obtain ⟨x6, hx6, h⟩ := bindE h
 obtain ⟨x7, hx7, h⟩ := bindE h
 refine wp_seq (region_bm 11 [0, 1, 3, 0, 8, 24, 0, 64, 192, 511, 0, 2047] [true, false, false, true, false, false, true, false, false, true, false]
     [.eq (L a2 x4.1 c2), .is fun v w => ElemP w (fun k => k < w6.heap.size) v (x5 : Int), .eq (I x5), .eq (L a2 x4.1 c2), .is fun v w => ElemP w (fun k => k < w6.heap.size) v (x6 : Int), .eq (I x6), .eq (L a2 x4.1 c2), .is fun v w => ElemP w (fun k => k < w6.heap.size) v (x7 : Int), .eq (I x7), .eq (.agg #[I x5, I x6, I x7, L none ([] : List D.Ins) 0]), .own fun ow v w => ∃ b, v = B b 0 ∧ (BX b 24 [I 0, I 0, I 0, L none ([] : List D.Ins) 0]).ok w (fun k => w6.heap.size ≤ k ∧ k < w.heap.size ∧ ow k = 10), .any]
     [(0, Str.val p0), (2, B b1 0), (4, L a1 x1 c1), (53, .agg #[I x5, I x6, I x7, L none ([] : List D.Ins) 0])] mix hF (by kernel_rfl) (by kernel_rfl) (by kernel_rfl) (by kernel_rfl) ⟨(Pd.monoO_is mono_elem), Pd.monoO_eq, (Pd.monoO_is mono_elem), Pd.monoO_eq, (Pd.monoO_is mono_elem), Pd.monoO_eq, mono_new, trivial⟩ (fun ow hG => ⟨np_to ow (np_index hG hF ty3 Tryz.underlying33 rfl rfl (RV.sub (hs.rv 0 rfl) fun k hk _ => hk) rfl rfl (fun hg => ⟨get?_nn hx5, get?_at hx5⟩)), np_to ow (np_loadF (z := x5) (i := 1) hG hF ty3 rfl rfl rfl rfl rfl rfl rfl), np_to ow (np_index hG hF ty3 Tryz.underlying33 rfl rfl (RV.sub (hs.rv 0 rfl) fun k hk _ => hk) rfl rfl (fun hg => ⟨get?_nn hx6, get?_at hx6⟩)), np_to ow (np_loadF (z := x6) (i := 4) hG hF ty3 rfl rfl rfl rfl rfl rfl rfl), np_to ow (np_index hG hF ty3 Tryz.underlying33 rfl rfl (RV.sub (hs.rv 0 rfl) fun k hk _ => hk) rfl rfl (fun hg => ⟨get?_nn hx7, get?_at hx7⟩)), np_to ow (np_loadF (z := x7) (i := 7) hG hF ty3 rfl rfl rfl rfl rfl rfl rfl), np_alloc (z := .agg #[I 0, I 0, I 0, L none ([] : List D.Ins) 0]) hG hF rfl (by kernel_rfl) rfl rfl, trivial⟩) (by kernel_rfl) fun ow fr w8 hF hE hc => ?_)
 obtain ⟨b2, hv, hnw10⟩ := hE.is 9 10 rfl rfl
 have hF := hF.cons hv
 have hsN := sepO (w0 := w6) (ow := ow) [(10, BX b2 24 [I 0, I 0, I 0, L none ([] : List D.Ins) 0])] (show ([10] : List Nat).Nodup by decide) ⟨hnw10, trivial⟩ rfl
 obtain ⟨S6, hp, hs⟩ := hs.got hM0 (stp_new hc) hsN
 have tb := tb.stp hM0 hp
 have hM0 := hM0.stp hp
 have hs : Sep [BX b2 24 [I 0, I 0, I 0, L none ([] : List D.Ins) 0], sl3 (L a2 x4.1 c2) x4.1, sl9 (L a1 x1 c1) x1, BX b1 24 [I 0, I 0, I 0, L none ([] : List D.Ins) 0]] w8 S6 := hs
 have hs : Sep [BX b2 24 [I 0, I 0, I 0, L none ([] : List D.Ins) 0], sl9 (L a1 x1 c1) x1, BX b1 24 [I 0, I 0, I 0, L none ([] : List D.Ins) 0]] w8 S6 := Sep.pick [0, 2, 3] hs (by decide) rfl
 refine q_storeBoxS 0 hs hM0 rfl [I x5, I x6, I x7, L none ([] : List D.Ins) 0] rfl hF rfl rfl (by kernel_rfl) rfl rfl rfl fun w9 S7 hs hp hF => ?_
 have tb := tb.stp hM0 hp
 have hM0 := hM0.stp hp
 have hs : Sep [BX b2 24 [I x5, I x6, I x7, L none ([] : List D.Ins) 0], sl9 (L a1 x1 c1) x1, BX b1 24 [I 0, I 0, I 0, L none ([] : List D.Ins) 0]] w9 S7 := hs
 refine from_end rfl (then_normal ?_)
 refine wp_seq ?_
 refine wp_seq (wp_text' ?_)
 refine from_pure 1 [(0, Str.val p0), (2, B b1 0), (4, L a1 x1 c1), (9, B b2 0), (54, L a1 x1 c1)] hF (by kernel_rfl) fun fr hF => ?_
 obtain ⟨x8, hx8, h⟩ := bindE h
 refine s_view ty9 Tryz.underlying30 rfl rfl hF rfl (hs.rv 1 rfl) ⟨_, rfl⟩ rfl hx8 fun a3 c3 fr hv1 hle1 hF => ?_
 refine from_pure 2 [(0, Str.val p0), (2, B b1 0), (4, L a1 x1 c1), (9, B b2 0), (55, L a3 x8 c3), (56, I (len x8)), (57, I 0)] hF (by kernel_rfl) fun fr hF => ?_
 refine from_end rfl (then_normal ?_)
 have hs : Sep [sl38 (L none ([] : List D.Ins) 0) ([] : List D.Ins), BX b2 24 [I x5, I x6, I x7, L none ([] : List D.Ins) 0], sl9 (L a1 x1 c1) x1, BX b1 24 [I 0, I 0, I 0, L none ([] : List D.Ins) 0]] w9 S7 := hs.cons_nil (α := D.Ins) 38
 have hs : Sep [sl38 (L none ([] : List D.Ins) 0) ([] : List D.Ins), BX b2 24 [I x5, I x6, I x7, L none ([] : List D.Ins) 0], sl9 (L a1 x1 c1) x1, BX b1 24 [I 0, I 0, I 0, L none ([] : List D.Ins) 0]] w9 S7 := hs
 obtain ⟨rl1, hit1, h⟩ := bindE h
 have hk1 := h
 refine (GL.wp_cut (M := fun fr w' => ∃ s, rl1 = .inl s ∧ ∃ a5 c5 S9 F2, FrS 92 [(0, Str.val p0), (2, B b1 0), (9, B b2 0)] fr ∧ Mem w9 S7 (fun k => (G99 k) ∧ k < w.heap.size) w' S9 F2 ∧ Sep [sl38 (L a5 s c5) s, BX b2 24 [I x5, I x6, I x7, L a5 s c5], BX b1 24 [I 0, I 0, I 0, L none ([] : List D.Ins) 0]] w' S9) (wp_block (wp_iter (Inv := fun s1 fr w' => ∃ a4 c4 S8 F1, FrS 92 [(0, Str.val p0), (2, B b1 0), (4, L a1 x1 c1), (9, B b2 0), (55, L a3 x8 c3), (56, I (len x8)), (57, I s1.1)] fr ∧ Mem w9 S7 (fun k => (G99 k) ∧ k < w.heap.size) w' S8 F1 ∧ Sep [sl38 (L a4 s1.2 c4) s1.2, BX b2 24 [I x5, I x6, I x7, L a4 s1.2 c4], sl9 (L a1 x1 c1) x1, BX b1 24 [I 0, I 0, I 0, L none ([] : List D.Ins) 0]] w' S8) hit1 ⟨none, 0, S7, _, hF.sub _ (by kernel_rfl), (Mem.start hM0.bd hM0.bdF hM0.dj), hs⟩ fun s1 q1 fr w1i hI h hr1 => ?_)) fun fr w1o hM => ?_)
 · obtain ⟨a4, c4, S8, F1, hF, hM1, hs⟩ := hI
   have tb := tb.mem hM1
   refine wp_seq (wp_pure [(0, Str.val p0), (2, B b1 0), (4, L a1 x1 c1), (9, B b2 0), (55, L a3 x8 c3), (56, I (len x8)), (57, I s1.1), (58, .bool (decide (s1.1 < (len x8))))] hF (by kernel_rfl) fun fr hF => then_normal ?_)
   refine wp_seq (wp_if hF (b := (decide (s1.1 < (len x8)))) rfl (fun hb => ?_) (fun hb => ?_))
   · replace h := iteT hb h
     refine (wp_skip (then_normal ?_))
     refine wp_seq (wp_block ?_)
     refine wp_seq (wp_text' ?_)
     obtain ⟨x9, hx9, h⟩ := bindE h
     refine s_elemF (z := x9) (Str.val x9) ty9 Tryz.underlying30 rfl rfl rfl rfl rfl hF rfl (view_rv (hs.rv 2 rfl) hv1 (by have h1 := (hs.relen 2 rfl).1; omega)) rfl (get?_nn hx9) (get?_at hx9) rfl fun p fr hF => ?_
     refine from_pure 1 [(0, Str.val p0), (2, B b1 0), (4, L a1 x1 c1), (9, B b2 0), (11, Str.val x9), (55, L a3 x8 c3), (56, I (len x8)), (57, I s1.1)] hF (by kernel_rfl) fun fr hF => ?_
     refine from_end rfl (then_normal ?_)
     refine wp_seq (wp_text' ?_)
     refine from_pure 2 [(0, Str.val p0), (2, B b1 0), (4, L a1 x1 c1), (9, B b2 0), (55, L a3 x8 c3), (56, I (len x8)), (57, I s1.1), (62, Str.val x9), (63, B b2 0)] hF (by kernel_rfl) fun fr hF => ?_
     refine s_loadBox (I x5) ty3 rfl rfl hF rfl (hs.bx 1 rfl) rfl rfl fun fr hF => ?_
     refine from_pure 3 [(0, Str.val p0), (2, B b1 0), (4, L a1 x1 c1), (9, B b2 0), (55, L a3 x8 c3), (56, I (len x8)), (57, I s1.1), (62, Str.val x9), (64, I x5), (67, I (w64 ((len x1) - 1)))] hF (by kernel_rfl) fun fr hF => ?_
     obtain ⟨x10, hx10, h⟩ := bindE h
     refine s_call [Str.val x9, I x5, I (w64 ((len x1) - 1))] Tryz.call20 rfl rfl hF rfl (impl_ParseIns_ok n x9 x5 (w64 ((len x1) - 1)) hx10 tb) fun v w10 fr hRes hF => ?_
     obtain ⟨rfl, hc⟩ := hRes
     have tb := tb.ext hc
     have hs := hs.ext hc
     have hM1 := hM1.ext hc
     refine from_pure 3 [(0, Str.val p0), (2, B b1 0), (4, L a1 x1 c1), (9, B b2 0), (55, L a3 x8 c3), (56, I (len x8)), (57, I s1.1), (69, .agg #[I x10.1.Op, I x10.1.A, I x10.1.B, I x10.1.C]), (70, .bool x10.2)] hF (by kernel_rfl) fun fr hF => ?_
     refine q_alloc (z := .agg #[I 0, I 0, I 0, I 0]) hs hM1 [I 0, I 0, I 0, I 0] rfl rfl hF (by kernel_rfl) rfl fun b3 w11 S10 fr hs hp hF => ?_
     have tb := tb.stp hM1 hp
     have hM1 := hM1.stp hp
     have hs : Sep [BX b3 38 [I 0, I 0, I 0, I 0], sl38 (L a4 s1.2 c4) s1.2, BX b2 24 [I x5, I x6, I x7, L a4 s1.2 c4], sl9 (L a1 x1 c1) x1, BX b1 24 [I 0, I 0, I 0, L none ([] : List D.Ins) 0]] w11 S10 := hs
     refine q_storeBoxS 0 hs hM1 rfl [I x10.1.Op, I x10.1.A, I x10.1.B, I x10.1.C] rfl hF rfl rfl (by kernel_rfl) rfl rfl rfl fun w12 S11 hs hp hF => ?_
     have tb := tb.stp hM1 hp
     have hM1 := hM1.stp hp
     have hs : Sep [BX b3 38 [I x10.1.Op, I x10.1.A, I x10.1.B, I x10.1.C], sl38 (L a4 s1.2 c4) s1.2, BX b2 24 [I x5, I x6, I x7, L a4 s1.2 c4], sl9 (L a1 x1 c1) x1, BX b1 24 [I 0, I 0, I 0, L none ([] : List D.Ins) 0]] w12 S11 := hs
     refine from_pure 1 [(0, Str.val p0), (2, B b1 0), (4, L a1 x1 c1), (9, B b2 0), (12, B b3 0), (13, .bool x10.2), (55, L a3 x8 c3), (56, I (len x8)), (57, I s1.1)] hF (by kernel_rfl) fun fr hF => ?_
     refine from_end rfl (then_normal ?_)
     refine wp_seq ?_
     refine wp_seq (wp_pure [(0, Str.val p0), (2, B b1 0), (4, L a1 x1 c1), (9, B b2 0), (12, B b3 0), (55, L a3 x8 c3), (56, I (len x8)), (57, I s1.1), (72, .bool (!x10.2))] hF (by kernel_rfl) fun fr hF => then_normal ?_)
     refine (wp_if hF (b := (!x10.2)) rfl (fun hb => ?_) (fun hb => ?_))
     · replace h := iteT hb h
       have hs : Sep [BX b1 24 [I 0, I 0, I 0, L none ([] : List D.Ins) 0]] w12 S11 := Sep.pick [4] hs (by decide) rfl
       refine wp_seq (wp_text' ?_)
       refine from_pure 1 [(2, B b1 0), (73, .agg #[I 0, I 0, I 0, L none ([] : List D.Ins) 0])] hF (by kernel_rfl) fun fr hF => ?_
       refine q_storeBoxS 0 hs hM1 rfl [I 0, I 0, I 0, L none ([] : List D.Ins) 0] rfl hF rfl rfl (by kernel_rfl) rfl rfl rfl fun w13 S12 hs hp hF => ?_
       have tb := tb.stp hM1 hp
       have hM1 := hM1.stp hp
       have hs : Sep [BX b1 24 [I 0, I 0, I 0, L none ([] : List D.Ins) 0]] w13 S12 := hs
       refine from_pure 1 [(2, B b1 0), (3, .bool false)] hF (by kernel_rfl) fun fr hF => ?_
       refine from_end rfl (then_normal ?_)
       have hrets := fun {σ : List (Nat × Value)} (h : σ = [(2, B b1 0), (3, .bool false)]) => (by subst h; exact (Rets.cell rfl ty24 (hs.bx 0 rfl) rfl rfl (Rets.tmp rfl Rets.nil)) : Rets Tryz.prog σ w13 [.cell 2 24, .tmp 3] [.agg #[I 0, I 0, I 0, L none ([] : List D.Ins) 0], .bool false])
       have hs : Sep [sl38 (L none ([] : List D.Ins) 0) ([] : List D.Ins), BX b1 24 [I 0, I 0, I 0, L none ([] : List D.Ins) 0]] w13 S12 := hs.cons_nil (α := D.Ins) 38
       obtain rfl := hr1 _ (Option.some.inj h).symm
       obtain rfl := Option.some.inj hk1
       have hs : Sep [sl38 (L none ([] : List D.Ins) 0) ([] : List D.Ins)] w13 S12 := Sep.pick [0] hs (by decide) rfl
       exact wp_ret (then_ret (blk_ret (then_ret (then_ret (blk_ret (then_ret (retG (rs := [.cell 2 24, .tmp 3]) rfl (hF.sub [(2, B b1 0), (3, .bool false)] (by kernel_rfl)) (hrets rfl) rfl ⟨_, rfl, none, 0, rfl, S12, (hM0.trans hM1).out, hs⟩)))))))
     replace h := iteF hb h
     refine (wp_skip (then_normal ?_))
     refine (wp_text' ?_)
     refine from_pure 1 [(0, Str.val p0), (2, B b1 0), (4, L a1 x1 c1), (9, B b2 0), (12, B b3 0), (55, L a3 x8 c3), (56, I (len x8)), (57, I s1.1), (74, B b2 3)] hF (by kernel_rfl) fun fr hF => ?_
     refine s_loadBox (L a4 s1.2 c4) ty22 rfl rfl hF rfl (hs.bx 2 rfl) rfl rfl fun fr hF => ?_
     refine s_loadBoxS ty38 rfl rfl hF rfl (hs.bx 0 rfl) rfl rfl fun fr hF => ?_
     have hs : Sep [sl38 (L a4 s1.2 c4) s1.2, BX b2 24 [I x5, I x6, I x7, L a4 s1.2 c4], sl9 (L a1 x1 c1) x1, BX b1 24 [I 0, I 0, I 0, L none ([] : List D.Ins) 0]] w12 S11 := Sep.pick [1, 2, 3, 4] hs (by decide) rfl
     refine q_lit (E := 38) hs hM1 [I x10.1.Op, I x10.1.A, I x10.1.B, I x10.1.C] (([x10.1] : List D.Ins).map Flat.enc) ([x10.1] : List D.Ins) rfl rfl hF [.agg #[I x10.1.Op, I x10.1.A, I x10.1.B, I x10.1.C]] rfl (fun w => by kernel_rfl) (css_flat _) rfl rfl rfl fun a6 c6 w14 S13 fr hs hp hF => ?_
     have tb := tb.stp hM1 hp
     have hM1 := hM1.stp hp
     have hs : Sep [sl38 (L a6 ([x10.1] : List D.Ins) c6) ([x10.1] : List D.Ins), sl38 (L a4 s1.2 c4) s1.2, BX b2 24 [I x5, I x6, I x7, L a4 s1.2 c4], sl9 (L a1 x1 c1) x1, BX b1 24 [I 0, I 0, I 0, L none ([] : List D.Ins) 0]] w14 S13 := hs
     obtain ⟨x11, hx11, h⟩ := bindE h
     refine q_append 1 hs hM1 rfl Tryz.underlying22 el38 rfl rfl rfl hF rfl rfl (hs.rv 0 rfl) hx11 fun a7 c7 w15 S14 fr hs hp hF => ?_
     have tb := tb.stp hM1 hp
     have hM1 := hM1.stp hp
     have hs : Sep [sl38 (L a6 ([x10.1] : List D.Ins) c6) ([x10.1] : List D.Ins), sl38 (L a7 x11 c7) x11, BX b2 24 [I x5, I x6, I x7, L a4 s1.2 c4], sl9 (L a1 x1 c1) x1, BX b1 24 [I 0, I 0, I 0, L none ([] : List D.Ins) 0]] w15 S14 := hs
     have hs : Sep [sl38 (L a7 x11 c7) x11, BX b2 24 [I x5, I x6, I x7, L a4 s1.2 c4], sl9 (L a1 x1 c1) x1, BX b1 24 [I 0, I 0, I 0, L none ([] : List D.Ins) 0]] w15 S14 := Sep.pick [1, 2, 3, 4] hs (by decide) rfl
     refine from_pure 1 [(0, Str.val p0), (2, B b1 0), (4, L a1 x1 c1), (9, B b2 0), (55, L a3 x8 c3), (56, I (len x8)), (57, I s1.1), (78, L a7 x11 c7), (79, B b2 3)] hF (by kernel_rfl) fun fr hF => ?_
     refine q_storeBox 1 hs hM1 rfl [I x5, I x6, I x7, L a7 x11 c7] rfl hF rfl rfl (by kernel_rfl) rfl rfl rfl fun w16 S15 hs hp hF => ?_
     have tb := tb.stp hM1 hp
     have hM1 := hM1.stp hp
     have hs : Sep [sl38 (L a7 x11 c7) x11, BX b2 24 [I x5, I x6, I x7, L a7 x11 c7], sl9 (L a1 x1 c1) x1, BX b1 24 [I 0, I 0, I 0, L none ([] : List D.Ins) 0]] w16 S15 := hs
     refine from_end rfl ?_
     refine blk_normal (then_normal ?_)
     refine (wp_pure [(0, Str.val p0), (2, B b1 0), (4, L a1 x1 c1), (9, B b2 0), (55, L a3 x8 c3), (56, I (len x8)), (57, I (w64 (s1.1 + 1)))] hF (by kernel_rfl) fun fr hF => then_normal ?_)
     exact ⟨_, (Option.some.inj h).symm, a7, c7, S15, _, hF.sub _ (by kernel_rfl), hM1, hs⟩
   replace h := iteF hb h
   have hs : Sep [sl38 (L a4 s1.2 c4) s1.2, BX b2 24 [I x5, I x6, I x7, L a4 s1.2 c4], BX b1 24 [I 0, I 0, I 0, L none ([] : List D.Ins) 0]] w1i S8 := Sep.pick [0, 1, 3] hs (by decide) rfl
   refine (wp_exit (then_exit (then_exit (blk_exit_eq ?_))))
   obtain rfl := hr1 _ (Option.some.inj h).symm
   exact then_normal ⟨_, rfl, a4, c4, S8, _, hF.sub _ (by kernel_rfl), hM1, hs⟩
 · obtain ⟨s1r, rfl, hM⟩ := hM
   obtain ⟨a5, c5, S9, F2, hF, hMx, hs⟩ := hM
   have tb := tb.mem hMx
   have hM0 := hM0.trans hMx
   refine wp_seq ?_
   obtain ⟨x12, hx12, h⟩ := bindE h
   obtain ⟨x13, hx13, h⟩ := bindE h
   refine wp_seq (region_b [] [false, false, true, true, false, false, true, true, true]
       [.eq (.agg #[I x5, I x6, I x7, L a5 s1r c5]), .eq (.bool x12), .eq (.bool (!x12)), .eq (.bool (!x12)), .eq (.agg #[I x5, I x6, I x7, L a5 s1r c5]), .eq (Str.val x13), .eq (Str.val p0), .eq (.bool (!(Str.eqb x13 p0))), .eq (.bool ((!x12) || (!(Str.eqb x13 p0))))]
       [(2, B b1 0), (9, B b2 0), (89, .bool ((!x12) || (!(Str.eqb x13 p0))))] mix hF (by kernel_rfl) (by kernel_rfl) (by kernel_rfl) ⟨Pd.mono_eq, Pd.mono_eq, Pd.mono_eq, Pd.mono_eq, trivial⟩ (fun hG => ⟨np_loadBoxS hG hF ty24 rfl rfl (hs.bx 1 rfl) rfl rfl rfl rfl, np_call [.agg #[I x5, I x6, I x7, L a5 s1r c5]] hG hF Tryz.call21 rfl rfl (fun w hC hg => (impl_ProgramOk_ok n (D.Program.mk x5 x6 x7 s1r) hx12 ((RV.mk_Program (D.Program.mk x5 x6 x7 s1r) (RV.any (hs.rv 0 rfl))).ext hC)).mono fun e w' ⟨v, he, hv, hc⟩ => ⟨v, he, hc, hv⟩), np_loadBoxS hG hF ty24 rfl rfl (hs.bx 1 rfl) rfl rfl rfl rfl, np_call [.agg #[I x5, I x6, I x7, L a5 s1r c5]] hG hF Tryz.call22 rfl rfl (fun w hC hg => (impl_FormatProgram_ok n (D.Program.mk x5 x6 x7 s1r) (iteF hg.2 hx13) ((RV.mk_Program (D.Program.mk x5 x6 x7 s1r) (RV.any (hs.rv 0 rfl))).ext hC) (tb.ext hC)).mono fun e w' ⟨v, he, hv, hc⟩ => ⟨v, he, hc, hv⟩), trivial⟩) (by kernel_rfl) fun fr w17 hF hE hc => then_normal ?_)
   have tb := tb.ext hc
   have hs := hs.ext hc
   have hM0 := hM0.ext hc
   refine (wp_if hF (b := ((!x12) || (!(Str.eqb x13 p0)))) rfl (fun hb => ?_) (fun hb => ?_))
   · replace h := iteT hb h
     have hs : Sep [BX b1 24 [I 0, I 0, I 0, L none ([] : List D.Ins) 0]] w17 S9 := Sep.pick [2] hs (by decide) rfl
     refine wp_seq (wp_text' ?_)
     refine from_pure 1 [(2, B b1 0), (90, .agg #[I 0, I 0, I 0, L none ([] : List D.Ins) 0])] hF (by kernel_rfl) fun fr hF => ?_
     refine q_storeBoxS 0 hs hM0 rfl [I 0, I 0, I 0, L none ([] : List D.Ins) 0] rfl hF rfl rfl (by kernel_rfl) rfl rfl rfl fun w18 S16 hs hp hF => ?_
     have tb := tb.stp hM0 hp
     have hM0 := hM0.stp hp
     have hs : Sep [BX b1 24 [I 0, I 0, I 0, L none ([] : List D.Ins) 0]] w18 S16 := hs
     refine from_pure 1 [(2, B b1 0), (3, .bool false)] hF (by kernel_rfl) fun fr hF => ?_
     refine from_end rfl (then_normal ?_)
     have hrets := fun {σ : List (Nat × Value)} (h : σ = [(2, B b1 0), (3, .bool false)]) => (by subst h; exact (Rets.cell rfl ty24 (hs.bx 0 rfl) rfl rfl (Rets.tmp rfl Rets.nil)) : Rets Tryz.prog σ w18 [.cell 2 24, .tmp 3] [.agg #[I 0, I 0, I 0, L none ([] : List D.Ins) 0], .bool false])
     have hs : Sep [sl38 (L none ([] : List D.Ins) 0) ([] : List D.Ins), BX b1 24 [I 0, I 0, I 0, L none ([] : List D.Ins) 0]] w18 S16 := hs.cons_nil (α := D.Ins) 38
     obtain rfl := Option.some.inj h
     have hs : Sep [sl38 (L none ([] : List D.Ins) 0) ([] : List D.Ins)] w18 S16 := Sep.pick [0] hs (by decide) rfl
     exact wp_ret (then_ret (retG (rs := [.cell 2 24, .tmp 3]) rfl (hF.sub [(2, B b1 0), (3, .bool false)] (by kernel_rfl)) (hrets rfl) rfl ⟨_, rfl, none, 0, rfl, S16, hM0.out, hs⟩))
   replace h := iteF hb h
   refine (wp_skip (then_normal ?_))
   refine wp_seq (wp_text' ?_)
   refine s_loadBoxS ty24 rfl rfl hF rfl (hs.bx 1 rfl) rfl rfl fun fr hF => ?_
   have hs : Sep [sl38 (L a5 s1r c5) s1r, BX b1 24 [I 0, I 0, I 0, L none ([] : List D.Ins) 0]] w17 S9 := Sep.pick [0, 2] hs (by decide) rfl
   refine q_storeBoxS 1 hs hM0 rfl [I x5, I x6, I x7, L a5 s1r c5] rfl hF rfl rfl (by kernel_rfl) rfl rfl rfl fun w19 S17 hs hp hF => ?_
   have tb := tb.stp hM0 hp
   have hM0 := hM0.stp hp
   have hs : Sep [sl38 (L a5 s1r c5) s1r, BX b1 24 [I x5, I x6, I x7, L a5 s1r c5]] w19 S17 := hs
   refine from_pure 1 [(2, B b1 0), (3, .bool true)] hF (by kernel_rfl) fun fr hF => ?_
   refine from_end rfl (then_normal ?_)
   have hrets := fun {σ : List (Nat × Value)} (h : σ = [(2, B b1 0), (3, .bool true)]) => (by subst h; exact (Rets.cell rfl ty24 (hs.bx 1 rfl) rfl rfl (Rets.tmp rfl Rets.nil)) : Rets Tryz.prog σ w19 [.cell 2 24, .tmp 3] [.agg #[I x5, I x6, I x7, L a5 s1r c5], .bool true])
   obtain rfl := Option.some.inj h
   have hs : Sep [sl38 (L a5 s1r c5) s1r] w19 S17 := Sep.pick [0] hs (by decide) rfl
   exact wp_ret (retG (rs := [.cell 2 24, .tmp 3]) rfl (hF.sub [(2, B b1 0), (3, .bool true)] (by kernel_rfl)) (hrets rfl) rfl ⟨_, rfl, a5, c5, rfl, S17, hM0.out, hs⟩)

theorem laws_eqIns_ok (p0 : D.Ins) (p1 : D.Ins) {r : Bool} (h : laws_eqIns p0 p1 = some r) {w : World} :
   Calls Tryz.prog 48 [.agg #[I p0.Op, I p0.A, I p0.B, I p0.C], .agg #[I p1.Op, I p1.A, I p1.B, I p1.C]].toArray w fun e w' => ∃ v, e = .returned v ∧ v = .bool r ∧ Chg Non w w' := by
 unfold laws_eqIns at h
 have hs := Sep.nil w Non
 have hM0 : Mem w Non (fun k => (False) ∧ k < w.heap.size) w Non (fun k => (False) ∧ k < w.heap.size) := Mem.start (fun _ h => h.elim) (fun _ h => h.2) (fun _ h => h.elim)
 refine enter (N := 25) Tryz.func48 rfl Tryz.ntmps48 rfl fun fr hF => ?_
 refine wp_seq (wp_text' ?_)
 refine q_box hs hM0 [I p0.Op, I p0.A, I p0.B, I p0.C] rfl rfl hF rfl rfl fun b1 w1 S1 fr hs hp hF => ?_
 have hM0 := hM0.stp hp
 have hs : Sep [BX b1 38 [I p0.Op, I p0.A, I p0.B, I p0.C]] w1 S1 := hs
 refine q_box hs hM0 [I p1.Op, I p1.A, I p1.B, I p1.C] rfl rfl hF rfl rfl fun b2 w2 S2 fr hs hp hF => ?_
 have hM0 := hM0.stp hp
 have hs : Sep [BX b2 38 [I p1.Op, I p1.A, I p1.B, I p1.C], BX b1 38 [I p0.Op, I p0.A, I p0.B, I p0.C]] w2 S2 := hs
 refine from_pure 1 [(2, B b1 0), (3, B b2 0)] hF (by kernel_rfl) fun fr hF => ?_
 refine from_end rfl (then_normal ?_)
 refine wp_seq ?_
 refine wp_seq (wp_text' ?_)
 refine from_pure 1 [(2, B b1 0), (3, B b2 0), (5, B b1 0)] hF (by kernel_rfl) fun fr hF => ?_
 refine s_loadBox (I p0.Op) ty3 rfl rfl hF rfl (hs.bx 1 rfl) rfl rfl fun fr hF => ?_
 refine from_pure 1 [(2, B b1 0), (3, B b2 0), (6, I p0.Op), (7, B b2 0)] hF (by kernel_rfl) fun fr hF => ?_
 refine s_loadBox (I p1.Op) ty3 rfl rfl hF rfl (hs.bx 0 rfl) rfl rfl fun fr hF => ?_
 refine from_pure 1 [(2, B b1 0), (3, B b2 0), (9, .bool (p0.Op != p1.Op))] hF (by kernel_rfl) fun fr hF => ?_
 refine from_end rfl (then_normal ?_)
 refine (wp_if hF (b := (p0.Op != p1.Op)) rfl (fun hb => ?_) (fun hb => ?_))
 · replace h := iteT hb h
   have hs : Sep [] w2 S2 := Sep.pick [] hs (by decide) rfl
   refine wp_seq (wp_pure [(4, .bool false)] hF (by kernel_rfl) fun fr hF => then_normal ?_)
   obtain rfl := Option.some.inj h
   exact wp_ret (then_ret (ret1 rfl hF rfl ⟨_, rfl, rfl, hM0.chg⟩))
 replace h := iteF hb h
 refine (wp_skip (then_normal ?_))
 refine wp_seq ?_
 refine wp_seq (wp_text' ?_)
 refine from_pure 1 [(2, B b1 0), (3, B b2 0), (10, B b1 1)] hF (by kernel_rfl) fun fr hF => ?_
 refine s_loadBox (I p0.A) ty3 rfl rfl hF rfl (hs.bx 1 rfl) rfl rfl fun fr hF => ?_
 refine from_pure 1 [(2, B b1 0), (3, B b2 0), (11, I p0.A), (12, B b2 1)] hF (by kernel_rfl) fun fr hF => ?_
 refine s_loadBox (I p1.A) ty3 rfl rfl hF rfl (hs.bx 0 rfl) rfl rfl fun fr hF => ?_
 refine from_pure 1 [(2, B b1 0), (3, B b2 0), (14, .bool (p0.A != p1.A))] hF (by kernel_rfl) fun fr hF => ?_
 refine from_end rfl (then_normal ?_)
 refine (wp_if hF (b := (p0.A != p1.A)) rfl (fun hb => ?_) (fun hb => ?_))
 · replace h := iteT hb h
   have hs : Sep [] w2 S2 := Sep.pick [] hs (by decide) rfl
   refine wp_seq (wp_pure [(4, .bool false)] hF (by kernel_rfl) fun fr hF => then_normal ?_)
   obtain rfl := Option.some.inj h
   exact wp_ret (then_ret (ret1 rfl hF rfl ⟨_, rfl, rfl, hM0.chg⟩))
 replace h := iteF hb h
 refine (wp_skip (then_normal ?_))
 refine wp_seq ?_
 refine wp_seq (wp_text' ?_)
 refine from_pure 1 [(2, B b1 0), (3, B b2 0), (15, B b1 2)] hF (by kernel_rfl) fun fr hF => ?_
 refine s_loadBox (I p0.B) ty3 rfl rfl hF rfl (hs.bx 1 rfl) rfl rfl fun fr hF => ?_
 refine from_pure 1 [(2, B b1 0), (3, B b2 0), (16, I p0.B), (17, B b2 2)] hF (by kernel_rfl) fun fr hF => ?_
 refine s_loadBox (I p1.B) ty3 rfl rfl hF rfl (hs.bx 0 rfl) rfl rfl fun fr hF => ?_
 refine from_pure 1 [(2, B b1 0), (3, B b2 0), (19, .bool (p0.B != p1.B))] hF (by kernel_rfl) fun fr hF => ?_
 refine from_end rfl (then_normal ?_)
 refine (wp_if hF (b := (p0.B != p1.B)) rfl (fun hb => ?_) (fun hb => ?_))
 · replace h := iteT hb h
   have hs : Sep [] w2 S2 := Sep.pick [] hs (by decide) rfl
   refine wp_seq (wp_pure [(4, .bool false)] hF (by kernel_rfl) fun fr hF => then_normal ?_)
   obtain rfl := Option.some.inj h
   exact wp_ret (then_ret (ret1 rfl hF rfl ⟨_, rfl, rfl, hM0.chg⟩))
 replace h := iteF hb h
 refine (wp_skip (then_normal ?_))
 refine wp_seq ?_
 refine wp_seq (wp_text' ?_)
 refine from_pure 1 [(3, B b2 0), (20, B b1 3)] hF (by kernel_rfl) fun fr hF => ?_
 refine s_loadBox (I p0.C) ty3 rfl rfl hF rfl (hs.bx 1 rfl) rfl rfl fun fr hF => ?_
 have hs : Sep [BX b2 38 [I p1.Op, I p1.A, I p1.B, I p1.C]] w2 S2 := Sep.pick [0] hs (by decide) rfl
 refine from_pure 1 [(21, I p0.C), (22, B b2 3)] hF (by kernel_rfl) fun fr hF => ?_
 refine s_loadBox (I p1.C) ty3 rfl rfl hF rfl (hs.bx 0 rfl) rfl rfl fun fr hF => ?_
 have hs : Sep [] w2 S2 := Sep.pick [] hs (by decide) rfl
 refine from_pure 1 [(24, .bool (p0.C != p1.C))] hF (by kernel_rfl) fun fr hF => ?_
 refine from_end rfl (then_normal ?_)
 refine (wp_if hF (b := (p0.C != p1.C)) rfl (fun hb => ?_) (fun hb => ?_))
 · replace h := iteT hb h
   refine wp_seq (wp_pure [(4, .bool false)] hF (by kernel_rfl) fun fr hF => then_normal ?_)
   obtain rfl := Option.some.inj h
   exact wp_ret (then_ret (ret1 rfl hF rfl ⟨_, rfl, rfl, hM0.chg⟩))
 replace h := iteF hb h
 refine (wp_skip (then_normal ?_))
 refine wp_seq (wp_pure [(4, .bool true)] hF (by kernel_rfl) fun fr hF => then_normal ?_)
 obtain rfl := Option.some.inj h
 exact wp_ret (ret1 rfl hF rfl ⟨_, rfl, rfl, hM0.chg⟩)

theorem laws_eqInsS_ok (n : Nat) (p0 : List D.Ins) (p1 : List D.Ins) {r : Bool} (h : laws_eqInsS n p0 p1 = some r) {w : World} {G0 : Nat → Prop} {va0 : Value} (ra0 : RV w G0 va0 p0) {G1 : Nat → Prop} {va1 : Value} (ra1 : RV w G1 va1 p1) :
   Calls Tryz.prog 23 [va0, va1].toArray w fun e w' => ∃ v, e = .returned v ∧ v = .bool r ∧ Chg Non w w' := by
 unfold laws_eqInsS at h
 have hs := Sep.nil w Non
 have hM0 : Mem w Non (fun k => (G0 k ∨ G1 k) ∧ k < w.heap.size) w Non (fun k => (G0 k ∨ G1 k) ∧ k < w.heap.size) := Mem.start (fun _ h => h.elim) (fun _ h => h.2) (fun _ h => h.elim)
 have ra0 := ra0.sub (F' := (fun k => (G0 k ∨ G1 k) ∧ k < w.heap.size)) (fun k hk h => ⟨.inl h, hk⟩)
 obtain ⟨a1, c1, rfl, -⟩ := ra0.slice
 have ra1 := ra1.sub (F' := (fun k => (G0 k ∨ G1 k) ∧ k < w.heap.size)) (fun k hk h => ⟨.inr (h), hk⟩)
 obtain ⟨a2, c2, rfl, -⟩ := ra1.slice
 refine enter (N := 27) Tryz.func23 rfl Tryz.ntmps23 rfl fun fr hF => ?_
 refine wp_seq (wp_pure [(0, L a1 p0 c1), (1, L a2 p1 c2)] hF (by kernel_rfl) fun fr hF => then_normal ?_)
 refine wp_seq ?_
 refine wp_seq (wp_pure [(0, L a1 p0 c1), (1, L a2 p1 c2), (10, .bool ((len p0) != (len p1)))] hF (by kernel_rfl) fun fr hF => then_normal ?_)
 refine (wp_if hF (b := ((len p0) != (len p1))) rfl (fun hb => ?_) (fun hb => ?_))
 · replace h := iteT hb h
   refine wp_seq (wp_pure [(4, .bool false)] hF (by kernel_rfl) fun fr hF => then_normal ?_)
   obtain rfl := Option.some.inj h
   exact wp_ret (then_ret (ret1 rfl hF rfl ⟨_, rfl, rfl, hM0.chg⟩))
 replace h := iteF hb h
 refine (wp_skip (then_normal ?_))
 refine wp_seq ?_
 refine wp_seq (wp_pure [(0, L a1 p0 c1), (1, L a2 p1 c2), (5, I 0)] hF (by kernel_rfl) fun fr hF => then_normal ?_)
 obtain ⟨rl1, hit1, h⟩ := bindE h
 have hk1 := h
 refine (GL.wp_cut (M := fun fr w' => ∃ s, rl1 = .inl s ∧ ∃ S2 F2, FrS 27 [] fr ∧ Mem w Non (fun k => (G0 k ∨ G1 k) ∧ k < w.heap.size) w' S2 F2 ∧ Sep [] w' S2) (wp_block (wp_iter (Inv := fun s1 fr w' => ∃ S1 F1, FrS 27 [(0, L a1 p0 c1), (1, L a2 p1 c2), (5, I s1)] fr ∧ Mem w Non (fun k => (G0 k ∨ G1 k) ∧ k < w.heap.size) w' S1 F1 ∧ Sep [] w' S1) hit1 ⟨Non, _, hF.sub _ (by kernel_rfl), (Mem.start hM0.bd hM0.bdF hM0.dj), hs⟩ fun s1 q1 fr w1i hI h hr1 => ?_)) fun fr w1o hM => ?_)
 · obtain ⟨S1, F1, hF, hM1, hs⟩ := hI
   have ra0 := ra0.mem hM1
   have ra1 := ra1.mem hM1
   refine wp_seq ?_
   refine wp_seq (wp_pure [(0, L a1 p0 c1), (1, L a2 p1 c2), (5, I s1), (14, .bool (decide (s1 < (len p0))))] hF (by kernel_rfl) fun fr hF => then_normal ?_)
   refine (wp_if hF (b := (decide (s1 < (len p0)))) rfl (fun hb => ?_) (fun hb => ?_))
   · replace h := iteT hb h
     refine (wp_skip (then_normal ?_))
     refine wp_seq (wp_block ?_)
     obtain ⟨x1, hx1, h⟩ := bindE h
     obtain ⟨x2, hx2, h⟩ := bindE h
     obtain ⟨x3, hx3, h⟩ := bindE h
     refine wp_seq (region_bm 10 [0, 0, 3, 7, 0, 0, 48, 112, 255, 511] [true, true, false, false, true, true, false, false, false, true]
         [.eq (L a1 p0 c1), .eq (I s1), .is fun v w => ElemP w (fun k => k < w1i.heap.size) v (x1 : D.Ins), .eq (.agg #[I x1.Op, I x1.A, I x1.B, I x1.C]), .eq (L a2 p1 c2), .eq (I s1), .is fun v w => ElemP w (fun k => k < w1i.heap.size) v (x2 : D.Ins), .eq (.agg #[I x2.Op, I x2.A, I x2.B, I x2.C]), .eq (.bool x3), .eq (.bool (!x3))]
         [(0, L a1 p0 c1), (1, L a2 p1 c2), (5, I s1), (26, .bool (!x3))] mix hF (by kernel_rfl) (by kernel_rfl) (by kernel_rfl) (by kernel_rfl) ⟨(Pd.monoO_is mono_elem), Pd.monoO_eq, (Pd.monoO_is mono_elem), Pd.monoO_eq, Pd.monoO_eq, trivial⟩ (fun ow hG => ⟨np_to ow (np_index hG hF ty38 Tryz.underlying22 rfl rfl (RV.sub (ra0) fun k hk _ => hk) rfl rfl (fun hg => ⟨get?_nn hx1, get?_at hx1⟩)), np_to ow (np_loadF (z := x1) (i := 2) hG hF ty38 rfl rfl rfl rfl rfl rfl rfl), np_to ow (np_index hG hF ty38 Tryz.underlying22 rfl rfl (RV.sub (ra1) fun k hk _ => hk) rfl rfl (fun hg => ⟨get?_nn hx2, get?_at hx2⟩)), np_to ow (np_loadF (z := x2) (i := 6) hG hF ty38 rfl rfl rfl rfl rfl rfl rfl), np_to ow (np_call [.agg #[I x1.Op, I x1.A, I x1.B, I x1.C], .agg #[I x2.Op, I x2.A, I x2.B, I x2.C]] hG hF Tryz.call48 rfl rfl (fun w hC hg => (laws_eqIns_ok x1 x2 hx3).mono fun e w' ⟨v, he, hv, hc⟩ => ⟨v, he, hc, hv⟩)), trivial⟩) (by kernel_rfl) fun ow fr w1 hF hE hc => ?_)
     have ra0 := ra0.ext hc
     have ra1 := ra1.ext hc
     have hs := hs.ext hc
     have hM1 := hM1.ext hc
     refine from_end rfl (then_normal ?_)
     refine (wp_if hF (b := (!x3)) rfl (fun hb => ?_) (fun hb => ?_))
     · replace h := iteT hb h
       refine wp_seq (wp_pure [(4, .bool false)] hF (by kernel_rfl) fun fr hF => then_normal ?_)
       obtain rfl := hr1 _ (Option.some.inj h).symm
       obtain rfl := Option.some.inj hk1
       exact wp_ret (blk_ret (then_ret (then_ret (blk_ret (then_ret (ret1 rfl hF rfl ⟨_, rfl, rfl, (hM0.trans hM1).chg⟩))))))
     replace h := iteF hb h
     refine (wp_skip ?_)
     refine blk_normal (then_normal ?_)
     refine (wp_pure [(0, L a1 p0 c1), (1, L a2 p1 c2), (5, I (w64 (s1 + 1)))] hF (by kernel_rfl) fun fr hF => then_normal ?_)
     exact ⟨_, (Option.some.inj h).symm, S1, _, hF.sub _ (by kernel_rfl), hM1, hs⟩
   replace h := iteF hb h
   refine (wp_exit (then_exit (then_exit (blk_exit_eq ?_))))
   obtain rfl := hr1 _ (Option.some.inj h).symm
   exact then_normal ⟨_, rfl, S1, _, hF.sub _ (by kernel_rfl), hM1, hs⟩
 · obtain ⟨s1r, rfl, hM⟩ := hM
   obtain ⟨S2, F2, hF, hMx, hs⟩ := hM
   have hM0 := hM0.trans hMx
   refine wp_seq (wp_pure [(4, .bool true)] hF (by kernel_rfl) fun fr hF => then_normal ?_)
   obtain rfl := Option.some.inj h
   exact wp_ret (ret1 rfl hF rfl ⟨_, rfl, rfl, hM0.chg⟩)

theorem laws_eqProgram_ok (n : Nat) (p0 : D.Program) (p1 : D.Program) {r : Bool} (h : laws_eqProgram n p0 p1 = some r) {w : World} {G0 : Nat → Prop} {va0 : Value} (ra0 : RV w G0 va0 p0) {G1 : Nat → Prop} {va1 : Value} (ra1 : RV w G1 va1 p1) :
   Calls Tryz.prog 6 [va0, va1].toArray w fun e w' => ∃ v, e = .returned v ∧ v = .bool r ∧ Chg Non w w' := by
 unfold laws_eqProgram at h
 have hs := Sep.nil w Non
 have hM0 : Mem w Non (fun k => (G0 k ∨ G1 k) ∧ k < w.heap.size) w Non (fun k => (G0 k ∨ G1 k) ∧ k < w.heap.size) := Mem.start (fun _ h => h.elim) (fun _ h => h.2) (fun _ h => h.elim)
 have ra0 := ra0.sub (F' := (fun k => (G0 k ∨ G1 k) ∧ k < w.heap.size)) (fun k hk h => ⟨.inl h, hk⟩)
 obtain ⟨v1, rfl, r1⟩ := RV.Program ra0
 obtain ⟨a1, c1, rfl, -⟩ := r1.slice
 have ra1 := ra1.sub (F' := (fun k => (G0 k ∨ G1 k) ∧ k < w.heap.size)) (fun k hk h => ⟨.inr (h), hk⟩)
 obtain ⟨v2, rfl, r2⟩ := RV.Program ra1
 obtain ⟨a2, c2, rfl, -⟩ := r2.slice
 refine enter (N := 26) Tryz.func6 rfl Tryz.ntmps6 rfl fun fr hF => ?_
 refine wp_seq (wp_text' ?_)
 refine q_box hs hM0 [I p0.W, I p0.Mem, I p0.In, L a1 p0.Code c1] rfl rfl hF rfl rfl fun b1 w1 S1 fr hs hp hF => ?_
 have r1 := r1.stp hM0 hp
 have r2 := r2.stp hM0 hp
 have hM0 := hM0.stp hp
 have hs : Sep [BX b1 24 [I p0.W, I p0.Mem, I p0.In, L a1 p0.Code c1]] w1 S1 := hs
 refine q_box hs hM0 [I p1.W, I p1.Mem, I p1.In, L a2 p1.Code c2] rfl rfl hF rfl rfl fun b2 w2 S2 fr hs hp hF => ?_
 have r2 := r2.stp hM0 hp
 have r1 := r1.stp hM0 hp
 have hM0 := hM0.stp hp
 have hs : Sep [BX b2 24 [I p1.W, I p1.Mem, I p1.In, L a2 p1.Code c2], BX b1 24 [I p0.W, I p0.Mem, I p0.In, L a1 p0.Code c1]] w2 S2 := hs
 refine from_pure 1 [(2, B b1 0), (3, B b2 0)] hF (by kernel_rfl) fun fr hF => ?_
 refine from_end rfl (then_normal ?_)
 refine wp_seq ?_
 refine wp_seq (wp_text' ?_)
 refine from_pure 1 [(2, B b1 0), (3, B b2 0), (5, B b1 0)] hF (by kernel_rfl) fun fr hF => ?_
 refine s_loadBox (I p0.W) ty3 rfl rfl hF rfl (hs.bx 1 rfl) rfl rfl fun fr hF => ?_
 refine from_pure 1 [(2, B b1 0), (3, B b2 0), (6, I p0.W), (7, B b2 0)] hF (by kernel_rfl) fun fr hF => ?_
 refine s_loadBox (I p1.W) ty3 rfl rfl hF rfl (hs.bx 0 rfl) rfl rfl fun fr hF => ?_
 refine from_pure 1 [(2, B b1 0), (3, B b2 0), (9, .bool (p0.W != p1.W))] hF (by kernel_rfl) fun fr hF => ?_
 refine from_end rfl (then_normal ?_)
 refine (wp_if hF (b := (p0.W != p1.W)) rfl (fun hb => ?_) (fun hb => ?_))
 · replace h := iteT hb h
   have hs : Sep [] w2 S2 := Sep.pick [] hs (by decide) rfl
   refine wp_seq (wp_pure [(4, .bool false)] hF (by kernel_rfl) fun fr hF => then_normal ?_)
   obtain rfl := Option.some.inj h
   exact wp_ret (then_ret (ret1 rfl hF rfl ⟨_, rfl, rfl, hM0.chg⟩))
 replace h := iteF hb h
 refine (wp_skip (then_normal ?_))
 refine wp_seq ?_
 refine wp_seq (wp_text' ?_)
 refine from_pure 1 [(2, B b1 0), (3, B b2 0), (10, B b1 1)] hF (by kernel_rfl) fun fr hF => ?_
 refine s_loadBox (I p0.Mem) ty3 rfl rfl hF rfl (hs.bx 1 rfl) rfl rfl fun fr hF => ?_
 refine from_pure 1 [(2, B b1 0), (3, B b2 0), (11, I p0.Mem), (12, B b2 1)] hF (by kernel_rfl) fun fr hF => ?_
 refine s_loadBox (I p1.Mem) ty3 rfl rfl hF rfl (hs.bx 0 rfl) rfl rfl fun fr hF => ?_
 refine from_pure 1 [(2, B b1 0), (3, B b2 0), (14, .bool (p0.Mem != p1.Mem))] hF (by kernel_rfl) fun fr hF => ?_
 refine from_end rfl (then_normal ?_)
 refine (wp_if hF (b := (p0.Mem != p1.Mem)) rfl (fun hb => ?_) (fun hb => ?_))
 · replace h := iteT hb h
   have hs : Sep [] w2 S2 := Sep.pick [] hs (by decide) rfl
   refine wp_seq (wp_pure [(4, .bool false)] hF (by kernel_rfl) fun fr hF => then_normal ?_)
   obtain rfl := Option.some.inj h
   exact wp_ret (then_ret (ret1 rfl hF rfl ⟨_, rfl, rfl, hM0.chg⟩))
 replace h := iteF hb h
 refine (wp_skip (then_normal ?_))
 refine wp_seq ?_
 refine wp_seq (wp_text' ?_)
 refine from_pure 1 [(2, B b1 0), (3, B b2 0), (15, B b1 2)] hF (by kernel_rfl) fun fr hF => ?_
 refine s_loadBox (I p0.In) ty3 rfl rfl hF rfl (hs.bx 1 rfl) rfl rfl fun fr hF => ?_
 refine from_pure 1 [(2, B b1 0), (3, B b2 0), (16, I p0.In), (17, B b2 2)] hF (by kernel_rfl) fun fr hF => ?_
 refine s_loadBox (I p1.In) ty3 rfl rfl hF rfl (hs.bx 0 rfl) rfl rfl fun fr hF => ?_
 refine from_pure 1 [(2, B b1 0), (3, B b2 0), (19, .bool (p0.In != p1.In))] hF (by kernel_rfl) fun fr hF => ?_
 refine from_end rfl (then_normal ?_)
 refine (wp_if hF (b := (p0.In != p1.In)) rfl (fun hb => ?_) (fun hb => ?_))
 · replace h := iteT hb h
   have hs : Sep [] w2 S2 := Sep.pick [] hs (by decide) rfl
   refine wp_seq (wp_pure [(4, .bool false)] hF (by kernel_rfl) fun fr hF => then_normal ?_)
   obtain rfl := Option.some.inj h
   exact wp_ret (then_ret (ret1 rfl hF rfl ⟨_, rfl, rfl, hM0.chg⟩))
 replace h := iteF hb h
 refine (wp_skip (then_normal ?_))
 refine wp_seq ?_
 refine wp_seq (wp_text' ?_)
 refine from_pure 1 [(3, B b2 0), (20, B b1 3)] hF (by kernel_rfl) fun fr hF => ?_
 refine s_loadBox (L a1 p0.Code c1) ty22 rfl rfl hF rfl (hs.bx 1 rfl) rfl rfl fun fr hF => ?_
 have hs : Sep [BX b2 24 [I p1.W, I p1.Mem, I p1.In, L a2 p1.Code c2]] w2 S2 := Sep.pick [0] hs (by decide) rfl
 refine from_pure 1 [(21, L a1 p0.Code c1), (22, B b2 3)] hF (by kernel_rfl) fun fr hF => ?_
 refine s_loadBox (L a2 p1.Code c2) ty22 rfl rfl hF rfl (hs.bx 0 rfl) rfl rfl fun fr hF => ?_
 have hs : Sep [] w2 S2 := Sep.pick [] hs (by decide) rfl
 obtain ⟨x1, hx1, h⟩ := bindE h
 refine s_call [L a1 p0.Code c1, L a2 p1.Code c2] Tryz.call23 rfl rfl hF rfl (laws_eqInsS_ok n p0.Code p1.Code hx1 (r1) (r2)) fun v w3 fr hRes hF => ?_
 obtain ⟨rfl, hc⟩ := hRes
 have r1 := r1.ext hc
 have r2 := r2.ext hc
 have hs := hs.ext hc
 have hM0 := hM0.ext hc
 refine from_pure 1 [(25, .bool (!x1))] hF (by kernel_rfl) fun fr hF => ?_
 refine from_end rfl (then_normal ?_)
 refine (wp_if hF (b := (!x1)) rfl (fun hb => ?_) (fun hb => ?_))
 · replace h := iteT hb h
   refine wp_seq (wp_pure [(4, .bool false)] hF (by kernel_rfl) fun fr hF => then_normal ?_)
   obtain rfl := Option.some.inj h
   exact wp_ret (then_ret (ret1 rfl hF rfl ⟨_, rfl, rfl, hM0.chg⟩))
 replace h := iteF hb h
 refine (wp_skip (then_normal ?_))
 refine wp_seq (wp_pure [(4, .bool true)] hF (by kernel_rfl) fun fr hF => then_normal ?_)
 obtain rfl := Option.some.inj h
 exact wp_ret (ret1 rfl hF rfl ⟨_, rfl, rfl, hM0.chg⟩)

theorem laws_markInsS_ok (n : Nat) (p0 : List D.Ins) (p1 : Int) {r : Int × (List D.Ins)} (h : laws_markInsS n p0 p1 = some r) {w : World} {S0 F0 : Nat → Prop} {pa0 : Option Addr} {pn0 pc0 : Nat} (hs : Sep [sl38 (.slice pa0 pn0 pc0) p0] w S0) (hb : ∀ k, S0 k → k < w.heap.size) (hd : ∀ k, S0 k → F0 k → False) :
   Calls Tryz.prog 24 [.slice pa0 pn0 pc0, I p1].toArray w fun e w' => ∃ v, e = .returned v ∧ v = I r.1 ∧ ∃ S', Stp w S0 w' S' ∧ Sep [sl38 (.slice pa0 pn0 pc0) r.2] w' S' := by
 unfold laws_markInsS at h
 obtain ⟨hpn, hs⟩ := hs.relen 0 rfl
 subst hpn
 have hs : Sep [sl38 (L pa0 p0 pc0) p0] w S0 := hs
 have hM0 : Mem w S0 (fun k => F0 k ∧ k < w.heap.size) w S0 (fun k => F0 k ∧ k < w.heap.size) := Mem.start hb (fun _ h => h.2) (fun k h1 h2 => hd k h1 h2.1)
 refine enter (N := 41) Tryz.func24 rfl Tryz.ntmps24 rfl fun fr hF => ?_
 refine wp_seq (wp_pure [(0, L pa0 p0 pc0), (1, I p1)] hF (by kernel_rfl) fun fr hF => then_normal ?_)
 refine wp_seq ?_
 refine wp_seq (wp_pure [(0, L pa0 p0 pc0), (1, I p1), (5, I 0)] hF (by kernel_rfl) fun fr hF => then_normal ?_)
 obtain ⟨rl1, hit1, h⟩ := bindE h
 have hk1 := h
 refine (GL.wp_cut (M := fun fr w' => ∃ S2 F2, FrS 41 [(1, I rl1.1)] fr ∧ Mem w S0 (fun k => F0 k ∧ k < w.heap.size) w' S2 F2 ∧ Sep [sl38 (L pa0 p0 pc0) rl1.2] w' S2) (wp_block (wp_iter (Inv := fun s1 fr w' => ∃ S1 F1, FrS 41 [(0, L pa0 p0 pc0), (1, I s1.1), (5, I s1.2.1)] fr ∧ Mem w S0 (fun k => F0 k ∧ k < w.heap.size) w' S1 F1 ∧ Sep [sl38 (L pa0 p0 pc0) s1.2.2] w' S1) hit1 ⟨S0, _, hF.sub _ (by kernel_rfl), (Mem.start hM0.bd hM0.bdF hM0.dj), hs⟩ fun s1 q1 fr w1i hI h hr1 => ?_)) fun fr w1o hM => ?_)
 · obtain ⟨S1, F1, hF, hM1, hs⟩ := hI
   refine wp_seq ?_
   refine wp_seq (wp_pure [(0, L pa0 p0 pc0), (1, I s1.1), (5, I s1.2.1), (9, .bool (decide (s1.2.1 < (len p0))))] hF (by kernel_rfl) fun fr hF => then_normal ?_)
   refine (wp_if hF (b := (decide (s1.2.1 < (len p0)))) rfl (fun hb => ?_) (fun hb => ?_))
   · replace h := iteT hb h
     refine (wp_skip (then_normal ?_))
     refine wp_seq (wp_block ?_)
     refine wp_seq (wp_text' ?_)
     refine from_pure 3 [(0, L pa0 p0 pc0), (1, I s1.1), (5, I s1.2.1), (12, L pa0 p0 pc0), (13, I s1.2.1), (14, I s1.1)] hF (by kernel_rfl) fun fr hF => ?_
     obtain ⟨x1, hx1, h⟩ := bindE h
     obtain ⟨x2, hx2, h⟩ := bindE h
     refine q_setField (q := x1) (q' := ({ x1 with Op := s1.1 } : D.Ins)) (off := 0) 0 hs hM1 rfl Tryz.underlying22 ty38 rfl rfl rfl rfl rfl hF rfl rfl rfl rfl (by kernel_rfl) rfl (by kernel_rfl) rfl hx1 rfl hx2 fun w1 S3 fr _ _ hs hp hF => ?_
     have hM1 := hM1.stp hp
     have hs : Sep [sl38 (L pa0 p0 pc0) x2] w1 S3 := hs
     refine from_end rfl (then_normal ?_)
     refine wp_seq (wp_pure [(0, L pa0 p0 pc0), (1, I (w64 (s1.1 + 1))), (5, I s1.2.1)] hF (by kernel_rfl) fun fr hF => then_normal ?_)
     refine wp_seq (wp_text' ?_)
     refine from_pure 3 [(0, L pa0 p0 pc0), (1, I (w64 (s1.1 + 1))), (5, I s1.2.1), (19, L pa0 p0 pc0), (20, I s1.2.1), (21, I (w64 (s1.1 + 1)))] hF (by kernel_rfl) fun fr hF => ?_
     obtain ⟨x3, hx3, h⟩ := bindE h
     obtain ⟨x4, hx4, h⟩ := bindE h
     refine q_setField (q := x3) (q' := ({ x3 with A := (w64 (s1.1 + 1)) } : D.Ins)) (off := 1) 0 hs hM1 rfl Tryz.underlying22 ty38 rfl rfl rfl rfl rfl hF rfl rfl rfl rfl (by kernel_rfl) rfl (by kernel_rfl) rfl hx3 rfl hx4 fun w2 S4 fr _ _ hs hp hF => ?_
     have hM1 := hM1.stp hp
     have hs : Sep [sl38 (L pa0 p0 pc0) x4] w2 S4 := hs
     refine from_end rfl (then_normal ?_)
     refine wp_seq (wp_pure [(0, L pa0 p0 pc0), (1, I (w64 ((w64 (s1.1 + 1)) + 1))), (5, I s1.2.1)] hF (by kernel_rfl) fun fr hF => then_normal ?_)
     refine wp_seq (wp_text' ?_)
     refine from_pure 3 [(0, L pa0 p0 pc0), (1, I (w64 ((w64 (s1.1 + 1)) + 1))), (5, I s1.2.1), (26, L pa0 p0 pc0), (27, I s1.2.1), (28, I (w64 ((w64 (s1.1 + 1)) + 1)))] hF (by kernel_rfl) fun fr hF => ?_
     obtain ⟨x5, hx5, h⟩ := bindE h
     obtain ⟨x6, hx6, h⟩ := bindE h
     refine q_setField (q := x5) (q' := ({ x5 with B := (w64 ((w64 (s1.1 + 1)) + 1)) } : D.Ins)) (off := 2) 0 hs hM1 rfl Tryz.underlying22 ty38 rfl rfl rfl rfl rfl hF rfl rfl rfl rfl (by kernel_rfl) rfl (by kernel_rfl) rfl hx5 rfl hx6 fun w3 S5 fr _ _ hs hp hF => ?_
     have hM1 := hM1.stp hp
     have hs : Sep [sl38 (L pa0 p0 pc0) x6] w3 S5 := hs
     refine from_end rfl (then_normal ?_)
     refine wp_seq (wp_pure [(0, L pa0 p0 pc0), (1, I (w64 ((w64 ((w64 (s1.1 + 1)) + 1)) + 1))), (5, I s1.2.1)] hF (by kernel_rfl) fun fr hF => then_normal ?_)
     refine wp_seq (wp_text' ?_)
     refine from_pure 3 [(0, L pa0 p0 pc0), (1, I (w64 ((w64 ((w64 (s1.1 + 1)) + 1)) + 1))), (5, I s1.2.1), (33, L pa0 p0 pc0), (34, I s1.2.1), (35, I (w64 ((w64 ((w64 (s1.1 + 1)) + 1)) + 1)))] hF (by kernel_rfl) fun fr hF => ?_
     obtain ⟨x7, hx7, h⟩ := bindE h
     obtain ⟨x8, hx8, h⟩ := bindE h
     refine q_setField (q := x7) (q' := ({ x7 with C := (w64 ((w64 ((w64 (s1.1 + 1)) + 1)) + 1)) } : D.Ins)) (off := 3) 0 hs hM1 rfl Tryz.underlying22 ty38 rfl rfl rfl rfl rfl hF rfl rfl rfl rfl (by kernel_rfl) rfl (by kernel_rfl) rfl hx7 rfl hx8 fun w4 S6 fr _ _ hs hp hF => ?_
     have hM1 := hM1.stp hp
     have hs : Sep [sl38 (L pa0 p0 pc0) x8] w4 S6 := hs
     refine from_end rfl (then_normal ?_)
     refine (wp_pure [(0, L pa0 p0 pc0), (1, I (w64 ((w64 ((w64 ((w64 (s1.1 + 1)) + 1)) + 1)) + 1))), (5, I s1.2.1)] hF (by kernel_rfl) fun fr hF => ?_)
     refine blk_normal (then_normal ?_)
     refine (wp_pure [(0, L pa0 p0 pc0), (1, I (w64 ((w64 ((w64 ((w64 (s1.1 + 1)) + 1)) + 1)) + 1))), (5, I (w64 (s1.2.1 + 1)))] hF (by kernel_rfl) fun fr hF => then_normal ?_)
     exact ⟨_, (Option.some.inj h).symm, S6, _, hF.sub _ (by kernel_rfl), hM1, hs⟩
   replace h := iteF hb h
   refine (wp_exit (then_exit (then_exit (blk_exit_eq ?_))))
   obtain rfl := hr1 _ (Option.some.inj h).symm
   exact then_normal ⟨S1, _, hF.sub _ (by kernel_rfl), hM1, hs⟩
 · obtain ⟨S2, F2, hF, hMx, hs⟩ := hM
   have hM0 := hM0.trans hMx
   refine wp_seq (wp_pure [(4, I rl1.1)] hF (by kernel_rfl) fun fr hF => then_normal ?_)
   obtain rfl := Option.some.inj h
   exact wp_ret (ret1 rfl hF rfl ⟨_, rfl, rfl, S2, hM0.out, hs⟩)

theorem laws_markProgram_ok (n : Nat) (p0 : D.Program) (p1 : Int) {r : Int × D.Program} (h : laws_markProgram n p0 p1 = some r) {w : World} {S0 F0 : Nat → Prop} {pa0 : Option Addr} {pn0 pc0 : Nat} (hs : Sep [sl38 (.slice pa0 pn0 pc0) p0.Code] w S0) (hb : ∀ k, S0 k → k < w.heap.size) (hd : ∀ k, S0 k → F0 k → False) :
   Calls Tryz.prog 7 [.agg #[I p0.W, I p0.Mem, I p0.In, .slice pa0 pn0 pc0], I p1].toArray w fun e w' => ∃ v, e = .returned v ∧ v = I r.1 ∧ ∃ S', Stp w S0 w' S' ∧ Sep [sl38 (.slice pa0 pn0 pc0) r.2.Code] w' S' := by
 unfold laws_markProgram at h
 obtain ⟨hpn, hs⟩ := hs.relen 0 rfl
 subst hpn
 have hs : Sep [sl38 (L pa0 p0.Code pc0) p0.Code] w S0 := hs
 have hM0 : Mem w S0 (fun k => F0 k ∧ k < w.heap.size) w S0 (fun k => F0 k ∧ k < w.heap.size) := Mem.start hb (fun _ h => h.2) (fun k h1 h2 => hd k h1 h2.1)
 refine enter (N := 10) Tryz.func7 rfl Tryz.ntmps7 rfl fun fr hF => ?_
 refine wp_seq (wp_text' ?_)
 refine q_box hs hM0 [I p0.W, I p0.Mem, I p0.In, L pa0 p0.Code pc0] rfl rfl hF rfl rfl fun b1 w1 S1 fr hs hp hF => ?_
 have hM0 := hM0.stp hp
 have hs : Sep [BX b1 24 [I p0.W, I p0.Mem, I p0.In, L pa0 p0.Code pc0], sl38 (L pa0 p0.Code pc0) p0.Code] w1 S1 := hs
 refine from_pure 1 [(1, I p1), (2, B b1 0)] hF (by kernel_rfl) fun fr hF => ?_
 refine from_end rfl (then_normal ?_)
 refine wp_seq (wp_text' ?_)
 refine from_pure 1 [(1, I p1), (5, B b1 3)] hF (by kernel_rfl) fun fr hF => ?_
 refine s_loadBox (L pa0 p0.Code pc0) ty22 rfl rfl hF rfl (hs.bx 0 rfl) rfl rfl fun fr hF => ?_
 have hs : Sep [sl38 (L pa0 p0.Code pc0) p0.Code] w1 S1 := Sep.pick [1] hs (by decide) rfl
 refine from_pure 1 [(6, L pa0 p0.Code pc0), (7, I p1)] hF (by kernel_rfl) fun fr hF => ?_
 obtain ⟨x1, hx1, h⟩ := bindE h
 obtain ⟨A1, R1, hsA, hsR, hdA, hbA, hup⟩ := Sep.call (L1 := [sl38 (L pa0 p0.Code pc0) p0.Code]) (L2 := []) hs hM0
 refine s_call [L pa0 p0.Code pc0, I p1] Tryz.call24 rfl rfl hF rfl (laws_markInsS_ok n p0.Code p1 hx1 hsA hbA hdA) fun v w2 fr hRes hF => ?_
 obtain ⟨rfl, _, hp, hs⟩ := hRes
 obtain ⟨S2, hp, hs⟩ := hup hp hs
 have hM0 := hM0.stp hp
 have hs : Sep [sl38 (L pa0 p0.Code pc0) x1.2] w2 S2 := hs
 refine from_pure 1 [(1, I x1.1)] hF (by kernel_rfl) fun fr hF => ?_
 refine from_end rfl (then_normal ?_)
 refine wp_seq (wp_pure [(4, I x1.1)] hF (by kernel_rfl) fun fr hF => then_normal ?_)
 obtain rfl := Option.some.inj h
 exact wp_ret (ret1 rfl hF rfl ⟨_, rfl, rfl, S2, hM0.out, hs⟩)

theorem laws_heldInsS_ok (n : Nat) (p0 : List D.Ins) (p1 : Int) {r : Int} (h : laws_heldInsS n p0 p1 = some r) {w : World} {G0 : Nat → Prop} {va0 : Value} (ra0 : RV w G0 va0 p0) :
   Calls Tryz.prog 25 [va0, I p1].toArray w fun e w' => ∃ v, e = .returned v ∧ v = I r ∧ Chg Non w w' := by
 unfold laws_heldInsS at h
 have hs := Sep.nil w Non
 have hM0 : Mem w Non (fun k => (G0 k) ∧ k < w.heap.size) w Non (fun k => (G0 k) ∧ k < w.heap.size) := Mem.start (fun _ h => h.elim) (fun _ h => h.2) (fun _ h => h.elim)
 have ra0 := ra0.sub (F' := (fun k => (G0 k) ∧ k < w.heap.size)) (fun k hk h => ⟨h, hk⟩)
 obtain ⟨a1, c1, rfl, -⟩ := ra0.slice
 refine enter (N := 49) Tryz.func25 rfl Tryz.ntmps25 rfl fun fr hF => ?_
 refine wp_seq (wp_pure [(0, L a1 p0 c1), (1, I p1)] hF (by kernel_rfl) fun fr hF => then_normal ?_)
 refine wp_seq ?_
 refine wp_seq (wp_pure [(0, L a1 p0 c1), (1, I p1), (5, I 0)] hF (by kernel_rfl) fun fr hF => then_normal ?_)
 obtain ⟨rl1, hit1, h⟩ := bindE h
 have hk1 := h
 refine (GL.wp_cut (M := fun fr w' => ∃ s, rl1 = .inl s ∧ ∃ S2 F2, FrS 49 [(1, I s)] fr ∧ Mem w Non (fun k => (G0 k) ∧ k < w.heap.size) w' S2 F2 ∧ Sep [] w' S2) (wp_block (wp_iter (Inv := fun s1 fr w' => ∃ S1 F1, FrS 49 [(0, L a1 p0 c1), (1, I s1.1), (5, I s1.2)] fr ∧ Mem w Non (fun k => (G0 k) ∧ k < w.heap.size) w' S1 F1 ∧ Sep [] w' S1) hit1 ⟨Non, _, hF.sub _ (by kernel_rfl), (Mem.start hM0.bd hM0.bdF hM0.dj), hs⟩ fun s1 q1 fr w1i hI h hr1 => ?_)) fun fr w1o hM => ?_)
 · obtain ⟨S1, F1, hF, hM1, hs⟩ := hI
   have ra0 := ra0.mem hM1
   refine wp_seq ?_
   refine wp_seq (wp_pure [(0, L a1 p0 c1), (1, I s1.1), (5, I s1.2), (9, .bool (decide (s1.2 < (len p0))))] hF (by kernel_rfl) fun fr hF => then_normal ?_)
   refine (wp_if hF (b := (decide (s1.2 < (len p0)))) rfl (fun hb => ?_) (fun hb => ?_))
   · replace h := iteT hb h
     refine (wp_skip (then_normal ?_))
     refine wp_seq (wp_block ?_)
     refine wp_seq ?_
     refine wp_seq (wp_text' ?_)
     refine from_pure 2 [(0, L a1 p0 c1), (1, I s1.1), (5, I s1.2), (12, L a1 p0 c1), (13, I s1.2)] hF (by kernel_rfl) fun fr hF => ?_
     obtain ⟨x1, hx1, h⟩ := bindE h
     refine s_elemField (z := x1) (u := I x1.Op) ty38 Tryz.underlying22 ty3 rfl rfl rfl rfl rfl rfl hF rfl (ra0) rfl (get?_nn hx1) (get?_at hx1) rfl rfl rfl fun p p2 fr hF => ?_
     refine from_pure 2 [(0, L a1 p0 c1), (1, I s1.1), (5, I s1.2), (18, .bool (x1.Op != s1.1))] hF (by kernel_rfl) fun fr hF => ?_
     refine from_end rfl (then_normal ?_)
     refine (wp_if hF (b := (x1.Op != s1.1)) rfl (fun hb => ?_) (fun hb => ?_))
     · replace h := iteT hb h
       refine wp_seq (wp_pure [(4, I (-1))] hF (by kernel_rfl) fun fr hF => then_normal ?_)
       obtain rfl := hr1 _ (Option.some.inj h).symm
       obtain rfl := Option.some.inj hk1
       exact wp_ret (then_ret (blk_ret (then_ret (then_ret (blk_ret (then_ret (ret1 rfl hF rfl ⟨_, rfl, rfl, (hM0.trans hM1).chg⟩)))))))
     replace h := iteF hb h
     refine (wp_skip (then_normal ?_))
     refine wp_seq (wp_pure [(0, L a1 p0 c1), (1, I (w64 (s1.1 + 1))), (5, I s1.2)] hF (by kernel_rfl) fun fr hF => then_normal ?_)
     refine wp_seq ?_
     refine wp_seq (wp_text' ?_)
     refine from_pure 2 [(0, L a1 p0 c1), (1, I (w64 (s1.1 + 1))), (5, I s1.2), (21, L a1 p0 c1), (22, I s1.2)] hF (by kernel_rfl) fun fr hF => ?_
     obtain ⟨x2, hx2, h⟩ := bindE h
     refine s_elemField (z := x2) (u := I x2.A) ty38 Tryz.underlying22 ty3 rfl rfl rfl rfl rfl rfl hF rfl (ra0) rfl (get?_nn hx2) (get?_at hx2) rfl rfl rfl fun p p2 fr hF => ?_
     refine from_pure 2 [(0, L a1 p0 c1), (1, I (w64 (s1.1 + 1))), (5, I s1.2), (27, .bool (x2.A != (w64 (s1.1 + 1))))] hF (by kernel_rfl) fun fr hF => ?_
     refine from_end rfl (then_normal ?_)
     refine (wp_if hF (b := (x2.A != (w64 (s1.1 + 1)))) rfl (fun hb => ?_) (fun hb => ?_))
     · replace h := iteT hb h
       refine wp_seq (wp_pure [(4, I (-1))] hF (by kernel_rfl) fun fr hF => then_normal ?_)
       obtain rfl := hr1 _ (Option.some.inj h).symm
       obtain rfl := Option.some.inj hk1
       exact wp_ret (then_ret (blk_ret (then_ret (then_ret (blk_ret (then_ret (ret1 rfl hF rfl ⟨_, rfl, rfl, (hM0.trans hM1).chg⟩)))))))
     replace h := iteF hb h
     refine (wp_skip (then_normal ?_))
     refine wp_seq (wp_pure [(0, L a1 p0 c1), (1, I (w64 ((w64 (s1.1 + 1)) + 1))), (5, I s1.2)] hF (by kernel_rfl) fun fr hF => then_normal ?_)
     refine wp_seq ?_
     refine wp_seq (wp_text' ?_)
     refine from_pure 2 [(0, L a1 p0 c1), (1, I (w64 ((w64 (s1.1 + 1)) + 1))), (5, I s1.2), (30, L a1 p0 c1), (31, I s1.2)] hF (by kernel_rfl) fun fr hF => ?_
     obtain ⟨x3, hx3, h⟩ := bindE h
     refine s_elemField (z := x3) (u := I x3.B) ty38 Tryz.underlying22 ty3 rfl rfl rfl rfl rfl rfl hF rfl (ra0) rfl (get?_nn hx3) (get?_at hx3) rfl rfl rfl fun p p2 fr hF => ?_
     refine from_pure 2 [(0, L a1 p0 c1), (1, I (w64 ((w64 (s1.1 + 1)) + 1))), (5, I s1.2), (36, .bool (x3.B != (w64 ((w64 (s1.1 + 1)) + 1))))] hF (by kernel_rfl) fun fr hF => ?_
     refine from_end rfl (then_normal ?_)
     refine (wp_if hF (b := (x3.B != (w64 ((w64 (s1.1 + 1)) + 1)))) rfl (fun hb => ?_) (fun hb => ?_))
     · replace h := iteT hb h
       refine wp_seq (wp_pure [(4, I (-1))] hF (by kernel_rfl) fun fr hF => then_normal ?_)
       obtain rfl := hr1 _ (Option.some.inj h).symm
       obtain rfl := Option.some.inj hk1
       exact wp_ret (then_ret (blk_ret (then_ret (then_ret (blk_ret (then_ret (ret1 rfl hF rfl ⟨_, rfl, rfl, (hM0.trans hM1).chg⟩)))))))
     replace h := iteF hb h
     refine (wp_skip (then_normal ?_))
     refine wp_seq (wp_pure [(0, L a1 p0 c1), (1, I (w64 ((w64 ((w64 (s1.1 + 1)) + 1)) + 1))), (5, I s1.2)] hF (by kernel_rfl) fun fr hF => then_normal ?_)
     refine wp_seq ?_
     refine wp_seq (wp_text' ?_)
     refine from_pure 2 [(0, L a1 p0 c1), (1, I (w64 ((w64 ((w64 (s1.1 + 1)) + 1)) + 1))), (5, I s1.2), (39, L a1 p0 c1), (40, I s1.2)] hF (by kernel_rfl) fun fr hF => ?_
     obtain ⟨x4, hx4, h⟩ := bindE h
     refine s_elemField (z := x4) (u := I x4.C) ty38 Tryz.underlying22 ty3 rfl rfl rfl rfl rfl rfl hF rfl (ra0) rfl (get?_nn hx4) (get?_at hx4) rfl rfl rfl fun p p2 fr hF => ?_
     refine from_pure 2 [(0, L a1 p0 c1), (1, I (w64 ((w64 ((w64 (s1.1 + 1)) + 1)) + 1))), (5, I s1.2), (45, .bool (x4.C != (w64 ((w64 ((w64 (s1.1 + 1)) + 1)) + 1))))] hF (by kernel_rfl) fun fr hF => ?_
     refine from_end rfl (then_normal ?_)
     refine (wp_if hF (b := (x4.C != (w64 ((w64 ((w64 (s1.1 + 1)) + 1)) + 1)))) rfl (fun hb => ?_) (fun hb => ?_))
     · replace h := iteT hb h
       refine wp_seq (wp_pure [(4, I (-1))] hF (by kernel_rfl) fun fr hF => then_normal ?_)
       obtain rfl := hr1 _ (Option.some.inj h).symm
       obtain rfl := Option.some.inj hk1
       exact wp_ret (then_ret (blk_ret (then_ret (then_ret (blk_ret (then_ret (ret1 rfl hF rfl ⟨_, rfl, rfl, (hM0.trans hM1).chg⟩)))))))
     replace h := iteF hb h
     refine (wp_skip (then_normal ?_))
     refine (wp_pure [(0, L a1 p0 c1), (1, I (w64 ((w64 ((w64 ((w64 (s1.1 + 1)) + 1)) + 1)) + 1))), (5, I s1.2)] hF (by kernel_rfl) fun fr hF => ?_)
     refine blk_normal (then_normal ?_)
     refine (wp_pure [(0, L a1 p0 c1), (1, I (w64 ((w64 ((w64 ((w64 (s1.1 + 1)) + 1)) + 1)) + 1))), (5, I (w64 (s1.2 + 1)))] hF (by kernel_rfl) fun fr hF => then_normal ?_)
     exact ⟨_, (Option.some.inj h).symm, S1, _, hF.sub _ (by kernel_rfl), hM1, hs⟩
   replace h := iteF hb h
   refine (wp_exit (then_exit (then_exit (blk_exit_eq ?_))))
   obtain rfl := hr1 _ (Option.some.inj h).symm
   exact then_normal ⟨_, rfl, S1, _, hF.sub _ (by kernel_rfl), hM1, hs⟩
 · obtain ⟨s1r, rfl, hM⟩ := hM
   obtain ⟨S2, F2, hF, hMx, hs⟩ := hM
   have hM0 := hM0.trans hMx
   refine wp_seq (wp_pure [(4, I s1r)] hF (by kernel_rfl) fun fr hF => then_normal ?_)
   obtain rfl := Option.some.inj h
   exact wp_ret (ret1 rfl hF rfl ⟨_, rfl, rfl, hM0.chg⟩)

theorem laws_heldProgram_ok (n : Nat) (p0 : D.Program) (p1 : Int) {r : Int} (h : laws_heldProgram n p0 p1 = some r) {w : World} {G0 : Nat → Prop} {va0 : Value} (ra0 : RV w G0 va0 p0) :
   Calls Tryz.prog 8 [va0, I p1].toArray w fun e w' => ∃ v, e = .returned v ∧ v = I r ∧ Chg Non w w' := by
 unfold laws_heldProgram at h
 have hs := Sep.nil w Non
 have hM0 : Mem w Non (fun k => (G0 k) ∧ k < w.heap.size) w Non (fun k => (G0 k) ∧ k < w.heap.size) := Mem.start (fun _ h => h.elim) (fun _ h => h.2) (fun _ h => h.elim)
 have ra0 := ra0.sub (F' := (fun k => (G0 k) ∧ k < w.heap.size)) (fun k hk h => ⟨h, hk⟩)
 obtain ⟨v1, rfl, r1⟩ := RV.Program ra0
 obtain ⟨a1, c1, rfl, -⟩ := r1.slice
 refine enter (N := 12) Tryz.func8 rfl Tryz.ntmps8 rfl fun fr hF => ?_
 refine wp_seq (wp_text' ?_)
 refine q_box hs hM0 [I p0.W, I p0.Mem, I p0.In, L a1 p0.Code c1] rfl rfl hF rfl rfl fun b1 w1 S1 fr hs hp hF => ?_
 have r1 := r1.stp hM0 hp
 have hM0 := hM0.stp hp
 have hs : Sep [BX b1 24 [I p0.W, I p0.Mem, I p0.In, L a1 p0.Code c1]] w1 S1 := hs
 refine from_pure 1 [(1, I p1), (2, B b1 0)] hF (by kernel_rfl) fun fr hF => ?_
 refine from_end rfl (then_normal ?_)
 refine wp_seq (wp_text' ?_)
 refine from_pure 1 [(1, I p1), (5, B b1 3)] hF (by kernel_rfl) fun fr hF => ?_
 refine s_loadBox (L a1 p0.Code c1) ty22 rfl rfl hF rfl (hs.bx 0 rfl) rfl rfl fun fr hF => ?_
 have hs : Sep [] w1 S1 := Sep.pick [] hs (by decide) rfl
 refine from_pure 1 [(6, L a1 p0.Code c1), (7, I p1)] hF (by kernel_rfl) fun fr hF => ?_
 obtain ⟨x1, hx1, h⟩ := bindE h
 refine s_call [L a1 p0.Code c1, I p1] Tryz.call25 rfl rfl hF rfl (laws_heldInsS_ok n p0.Code p1 hx1 (r1)) fun v w2 fr hRes hF => ?_
 obtain ⟨rfl, hc⟩ := hRes
 have r1 := r1.ext hc
 have hs := hs.ext hc
 have hM0 := hM0.ext hc
 refine from_pure 1 [(1, I x1)] hF (by kernel_rfl) fun fr hF => ?_
 refine from_end rfl (then_normal ?_)
 refine wp_seq ?_
 refine wp_seq (wp_pure [(1, I x1), (10, .bool (decide (x1 < 0)))] hF (by kernel_rfl) fun fr hF => then_normal ?_)
 refine (wp_if hF (b := (decide (x1 < 0))) rfl (fun hb => ?_) (fun hb => ?_))
 · replace h := iteT hb h
   refine wp_seq (wp_pure [(4, I (-1))] hF (by kernel_rfl) fun fr hF => then_normal ?_)
   obtain rfl := Option.some.inj h
   exact wp_ret (then_ret (ret1 rfl hF rfl ⟨_, rfl, rfl, hM0.chg⟩))
 replace h := iteF hb h
 refine (wp_skip (then_normal ?_))
 refine wp_seq (wp_pure [(4, I x1)] hF (by kernel_rfl) fun fr hF => then_normal ?_)
 obtain rfl := Option.some.inj h
 exact wp_ret (ret1 rfl hF rfl ⟨_, rfl, rfl, hM0.chg⟩)

theorem laws_FnExactParseProgram_ok (n : Nat) (p0 : Str) {r : Bool} (h : laws_FnExactParseProgram n p0 = some r) {w : World} {G99 : Nat → Prop} (tb : TX Tryz.prog w G99) :
   Calls Tryz.prog 3 [Str.val p0].toArray w fun e w' => ∃ v, e = .returned v ∧ v = .bool r ∧ Chg Non w w' := by
 unfold laws_FnExactParseProgram at h
 have hs := Sep.nil w Non
 have hM0 : Mem w Non (fun k => (G99 k) ∧ k < w.heap.size) w Non (fun k => (G99 k) ∧ k < w.heap.size) := Mem.start (fun _ h => h.elim) (fun _ h => h.2) (fun _ h => h.elim)
 have tb := tb.sub (F' := (fun k => (G99 k) ∧ k < w.heap.size)) (fun k hk h => ⟨h, hk⟩)
 refine enter (N := 66) Tryz.func3 rfl Tryz.ntmps3 rfl fun fr hF => ?_
 refine wp_seq (wp_pure [(0, Str.val p0)] hF (by kernel_rfl) fun fr hF => then_normal ?_)
 refine wp_seq ?_
 refine wp_seq (wp_pure [(0, Str.val p0), (13, .bool (decide ((len p0.bytes) > 1048576)))] hF (by kernel_rfl) fun fr hF => then_normal ?_)
 refine (wp_if hF (b := (decide ((len p0.bytes) > 1048576))) rfl (fun hb => ?_) (fun hb => ?_))
 · replace h := iteT hb h
   refine wp_seq (wp_pure [(2, .bool true)] hF (by kernel_rfl) fun fr hF => then_normal ?_)
   obtain rfl := Option.some.inj h
   exact wp_ret (then_ret (ret1 rfl hF rfl ⟨_, rfl, rfl, hM0.chg⟩))
 replace h := iteF hb h
 refine (wp_skip (then_normal ?_))
 refine wp_seq (wp_text' ?_)
 refine from_pure 1 [(0, Str.val p0), (15, Str.val p0)] hF (by kernel_rfl) fun fr hF => ?_
 obtain ⟨x1, hx1, h⟩ := bindE h
 refine s_call [Str.val p0] Tryz.call4 rfl rfl hF rfl (spec_ParseProgram_ok n p0 hx1) fun v w1 fr hRes hF => ?_
 obtain ⟨a1, c1, rfl, _, hp, hs2⟩ := hRes
 obtain ⟨S1, hp, hs⟩ := hs.got hM0 hp hs2
 have tb := tb.stp hM0 hp
 have hM0 := hM0.stp hp
 have hs : Sep [sl38 (L a1 x1.1.Code c1) x1.1.Code] w1 S1 := hs
 refine from_pure 3 [(0, Str.val p0), (17, .agg #[I x1.1.W, I x1.1.Mem, I x1.1.In, L a1 x1.1.Code c1]), (18, .bool x1.2)] hF (by kernel_rfl) fun fr hF => ?_
 refine q_alloc (z := .agg #[I 0, I 0, I 0, L none ([] : List D.Ins) 0]) hs hM0 [I 0, I 0, I 0, L none ([] : List D.Ins) 0] rfl rfl hF (by kernel_rfl) rfl fun b1 w2 S2 fr hs hp hF => ?_
 have tb := tb.stp hM0 hp
 have hM0 := hM0.stp hp
 have hs : Sep [BX b1 24 [I 0, I 0, I 0, L none ([] : List D.Ins) 0], sl38 (L a1 x1.1.Code c1) x1.1.Code] w2 S2 := hs
 refine q_storeBoxS 0 hs hM0 rfl [I x1.1.W, I x1.1.Mem, I x1.1.In, L a1 x1.1.Code c1] rfl hF rfl rfl (by kernel_rfl) rfl rfl rfl fun w3 S3 hs hp hF => ?_
 have tb := tb.stp hM0 hp
 have hM0 := hM0.stp hp
 have hs : Sep [BX b1 24 [I x1.1.W, I x1.1.Mem, I x1.1.In, L a1 x1.1.Code c1], sl38 (L a1 x1.1.Code c1) x1.1.Code] w3 S3 := hs
 refine from_pure 1 [(0, Str.val p0), (3, B b1 0), (4, .bool x1.2)] hF (by kernel_rfl) fun fr hF => ?_
 refine from_end rfl (then_normal ?_)
 refine wp_seq (wp_text' ?_)
 refine from_pure 1 [(0, Str.val p0), (3, B b1 0), (4, .bool x1.2), (20, Str.val p0)] hF (by kernel_rfl) fun fr hF => ?_
 obtain ⟨x2, hx2, h⟩ := bindE h
 refine s_call [Str.val p0] Tryz.call5 rfl rfl hF rfl (impl_ParseProgram_ok n p0 hx2 tb) fun v w4 fr hRes hF => ?_
 obtain ⟨a2, c2, rfl, _, hp, hs2⟩ := hRes
 obtain ⟨S4, hp, hs⟩ := hs.got hM0 hp hs2
 have tb := tb.stp hM0 hp
 have hM0 := hM0.stp hp
 have hs : Sep [sl38 (L a2 x2.1.Code c2) x2.1.Code, BX b1 24 [I x1.1.W, I x1.1.Mem, I x1.1.In, L a1 x1.1.Code c1], sl38 (L a1 x1.1.Code c1) x1.1.Code] w4 S4 := hs
 refine from_pure 3 [(0, Str.val p0), (3, B b1 0), (4, .bool x1.2), (22, .agg #[I x2.1.W, I x2.1.Mem, I x2.1.In, L a2 x2.1.Code c2]), (23, .bool x2.2)] hF (by kernel_rfl) fun fr hF => ?_
 refine q_alloc (z := .agg #[I 0, I 0, I 0, L none ([] : List D.Ins) 0]) hs hM0 [I 0, I 0, I 0, L none ([] : List D.Ins) 0] rfl rfl hF (by kernel_rfl) rfl fun b2 w5 S5 fr hs hp hF => ?_
 have tb := tb.stp hM0 hp
 have hM0 := hM0.stp hp
 have hs : Sep [BX b2 24 [I 0, I 0, I 0, L none ([] : List D.Ins) 0], sl38 (L a2 x2.1.Code c2) x2.1.Code, BX b1 24 [I x1.1.W, I x1.1.Mem, I x1.1.In, L a1 x1.1.Code c1], sl38 (L a1 x1.1.Code c1) x1.1.Code] w5 S5 := hs
 refine q_storeBoxS 0 hs hM0 rfl [I x2.1.W, I x2.1.Mem, I x2.1.In, L a2 x2.1.Code c2] rfl hF rfl rfl (by kernel_rfl) rfl rfl rfl fun w6 S6 hs hp hF => ?_
 have tb := tb.stp hM0 hp
 have hM0 := hM0.stp hp
 have hs : Sep [BX b2 24 [I x2.1.W, I x2.1.Mem, I x2.1.In, L a2 x2.1.Code c2], sl38 (L a2 x2.1.Code c2) x2.1.Code, BX b1 24 [I x1.1.W, I x1.1.Mem, I x1.1.In, L a1 x1.1.Code c1], sl38 (L a1 x1.1.Code c1) x1.1.Code] w6 S6 := hs
 refine from_pure 1 [(0, Str.val p0), (3, B b1 0), (4, .bool x1.2), (5, B b2 0), (6, .bool x2.2)] hF (by kernel_rfl) fun fr hF => ?_
 refine from_end rfl (then_normal ?_)
 refine wp_seq ?_
 obtain ⟨x3, hx3, h⟩ := bindE h
 refine wp_seq (region_b [] [false, false, false, true, true, true, true, true, true]
     [.eq (.agg #[I x2.1.W, I x2.1.Mem, I x2.1.In, L a2 x2.1.Code c2]), .eq (.agg #[I x1.1.W, I x1.1.Mem, I x1.1.In, L a1 x1.1.Code c1]), .eq (.bool x3), .eq (.bool (!x3)), .eq (.bool (!x3)), .eq (.bool x2.2), .eq (.bool x1.2), .eq (.bool (!(x2.2 == x1.2))), .eq (.bool ((!x3) || (!(x2.2 == x1.2))))]
     [(0, Str.val p0), (3, B b1 0), (4, .bool x1.2), (5, B b2 0), (32, .bool ((!x3) || (!(x2.2 == x1.2))))] mix hF (by kernel_rfl) (by kernel_rfl) (by kernel_rfl) ⟨Pd.mono_eq, Pd.mono_eq, Pd.mono_eq, trivial⟩ (fun hG => ⟨np_loadBoxS hG hF ty24 rfl rfl (hs.bx 0 rfl) rfl rfl rfl rfl, np_loadBoxS hG hF ty24 rfl rfl (hs.bx 2 rfl) rfl rfl rfl rfl, np_call [.agg #[I x2.1.W, I x2.1.Mem, I x2.1.In, L a2 x2.1.Code c2], .agg #[I x1.1.W, I x1.1.Mem, I x1.1.In, L a1 x1.1.Code c1]] hG hF Tryz.call6 rfl rfl (fun w hC hg => (laws_eqProgram_ok n x2.1 x1.1 hx3 ((RV.mk_Program x2.1 (RV.any (hs.rv 1 rfl))).ext hC) ((RV.mk_Program x1.1 (RV.any (hs.rv 3 rfl))).ext hC)).mono fun e w' ⟨v, he, hv, hc⟩ => ⟨v, he, hc, hv⟩), trivial⟩) (by kernel_rfl) fun fr w7 hF hE hc => then_normal ?_)
 have tb := tb.ext hc
 have hs := hs.ext hc
 have hM0 := hM0.ext hc
 refine (wp_if hF (b := ((!x3) || (!(x2.2 == x1.2)))) rfl (fun hb => ?_) (fun hb => ?_))
 · replace h := iteT hb h
   have hs : Sep [] w7 S6 := Sep.pick [] hs (by decide) rfl
   refine wp_seq (wp_pure [(2, .bool false)] hF (by kernel_rfl) fun fr hF => then_normal ?_)
   obtain rfl := Option.some.inj h
   exact wp_ret (then_ret (ret1 rfl hF rfl ⟨_, rfl, rfl, hM0.chg⟩))
 replace h := iteF hb h
 refine (wp_skip (then_normal ?_))
 refine wp_seq (wp_pure [(0, Str.val p0), (3, B b1 0), (4, .bool x1.2), (5, B b2 0), (7, I 1)] hF (by kernel_rfl) fun fr hF => then_normal ?_)
 refine wp_seq (wp_text' ?_)
 refine s_loadBoxS ty24 rfl rfl hF rfl (hs.bx 0 rfl) rfl rfl fun fr hF => ?_
 refine from_pure 1 [(0, Str.val p0), (3, B b1 0), (4, .bool x1.2), (5, B b2 0), (33, .agg #[I x2.1.W, I x2.1.Mem, I x2.1.In, L a2 x2.1.Code c2]), (34, I 1)] hF (by kernel_rfl) fun fr hF => ?_
 obtain ⟨x4, hx4, h⟩ := bindE h
 have hs : Sep [sl38 (L a2 x2.1.Code c2) x2.1.Code, BX b2 24 [I x2.1.W, I x2.1.Mem, I x2.1.In, L a2 x2.1.Code c2], BX b1 24 [I x1.1.W, I x1.1.Mem, I x1.1.In, L a1 x1.1.Code c1], sl38 (L a1 x1.1.Code c1) x1.1.Code] w7 S6 := Sep.pick [1, 0, 2, 3] hs (by decide) rfl
 obtain ⟨A1, R1, hsA, hsR, hdA, hbA, hup⟩ := Sep.call (L1 := [sl38 (L a2 x2.1.Code c2) x2.1.Code]) (L2 := [BX b2 24 [I x2.1.W, I x2.1.Mem, I x2.1.In, L a2 x2.1.Code c2], BX b1 24 [I x1.1.W, I x1.1.Mem, I x1.1.In, L a1 x1.1.Code c1], sl38 (L a1 x1.1.Code c1) x1.1.Code]) hs hM0
 refine s_call [.agg #[I x2.1.W, I x2.1.Mem, I x2.1.In, L a2 x2.1.Code c2], I 1] Tryz.call7 rfl rfl hF rfl (laws_markProgram_ok n x2.1 1 hx4 hsA hbA hdA) fun v w8 fr hRes hF => ?_
 obtain ⟨rfl, _, hp, hs⟩ := hRes
 obtain ⟨S7, hp, hs⟩ := hup hp hs
 have tb := tb.stp hM0 hp
 have hM0 := hM0.stp hp
 have hs : Sep [sl38 (L a2 x2.1.Code c2) x4.2.Code, BX b2 24 [I x2.1.W, I x2.1.Mem, I x2.1.In, L a2 x2.1.Code c2], BX b1 24 [I x1.1.W, I x1.1.Mem, I x1.1.In, L a1 x1.1.Code c1], sl38 (L a1 x1.1.Code c1) x1.1.Code] w8 S7 := hs
 refine from_pure 1 [(0, Str.val p0), (3, B b1 0), (4, .bool x1.2), (5, B b2 0), (7, I x4.1)] hF (by kernel_rfl) fun fr hF => ?_
 refine from_end rfl (then_normal ?_)
 refine wp_seq (wp_pure [(0, Str.val p0), (3, B b1 0), (4, .bool x1.2), (5, B b2 0), (7, I x4.1), (8, I 1)] hF (by kernel_rfl) fun fr hF => then_normal ?_)
 refine wp_seq (wp_text' ?_)
 refine s_loadBoxS ty24 rfl rfl hF rfl (hs.bx 1 rfl) rfl rfl fun fr hF => ?_
 refine from_pure 1 [(0, Str.val p0), (3, B b1 0), (4, .bool x1.2), (5, B b2 0), (7, I x4.1), (36, .agg #[I x2.1.W, I x2.1.Mem, I x2.1.In, L a2 x2.1.Code c2]), (37, I 1)] hF (by kernel_rfl) fun fr hF => ?_
 obtain ⟨x5, hx5, h⟩ := bindE h
 refine s_call [.agg #[I x2.1.W, I x2.1.Mem, I x2.1.In, L a2 x2.1.Code c2], I 1] Tryz.call8 rfl rfl hF rfl (laws_heldProgram_ok n (D.Program.mk x2.1.W x2.1.Mem x2.1.In x4.2.Code) 1 hx5 (RV.mk_Program (D.Program.mk x2.1.W x2.1.Mem x2.1.In x4.2.Code) (RV.any (hs.rv 0 rfl)))) fun v w9 fr hRes hF => ?_
 obtain ⟨rfl, hc⟩ := hRes
 have tb := tb.ext hc
 have hs := hs.ext hc
 have hM0 := hM0.ext hc
 refine from_pure 1 [(0, Str.val p0), (3, B b1 0), (4, .bool x1.2), (5, B b2 0), (7, I x4.1), (8, I x5)] hF (by kernel_rfl) fun fr hF => ?_
 refine from_end rfl (then_normal ?_)
 refine wp_seq ?_
 refine wp_seq (wp_pure [(0, Str.val p0), (3, B b1 0), (4, .bool x1.2), (5, B b2 0), (7, I x4.1), (8, I x5), (40, .bool (decide (x5 < 0)))] hF (by kernel_rfl) fun fr hF => then_normal ?_)
 refine (wp_if hF (b := (decide (x5 < 0))) rfl (fun hb => ?_) (fun hb => ?_))
 · replace h := iteT hb h
   have hs : Sep [] w9 S7 := Sep.pick [] hs (by decide) rfl
   refine wp_seq (wp_pure [(2, .bool false)] hF (by kernel_rfl) fun fr hF => then_normal ?_)
   obtain rfl := Option.some.inj h
   exact wp_ret (then_ret (ret1 rfl hF rfl ⟨_, rfl, rfl, hM0.chg⟩))
 replace h := iteF hb h
 refine (wp_skip (then_normal ?_))
 refine wp_seq ?_
 refine wp_seq (wp_pure [(0, Str.val p0), (3, B b1 0), (4, .bool x1.2), (5, B b2 0), (7, I x4.1), (43, .bool (x5 != x4.1))] hF (by kernel_rfl) fun fr hF => then_normal ?_)
 refine (wp_if hF (b := (x5 != x4.1)) rfl (fun hb => ?_) (fun hb => ?_))
 · replace h := iteT hb h
   have hs : Sep [] w9 S7 := Sep.pick [] hs (by decide) rfl
   refine wp_seq (wp_pure [(2, .bool false)] hF (by kernel_rfl) fun fr hF => then_normal ?_)
   obtain rfl := Option.some.inj h
   exact wp_ret (then_ret (ret1 rfl hF rfl ⟨_, rfl, rfl, hM0.chg⟩))
 replace h := iteF hb h
 refine (wp_skip (then_normal ?_))
 refine wp_seq (wp_text' ?_)
 refine from_pure 1 [(3, B b1 0), (4, .bool x1.2), (5, B b2 0), (7, I x4.1), (45, Str.val p0)] hF (by kernel_rfl) fun fr hF => ?_
 obtain ⟨x6, hx6, h⟩ := bindE h
 refine s_call [Str.val p0] Tryz.call5 rfl rfl hF rfl (impl_ParseProgram_ok n p0 hx6 tb) fun v w10 fr hRes hF => ?_
 obtain ⟨a3, c3, rfl, _, hp, hs2⟩ := hRes
 obtain ⟨S8, hp, hs⟩ := hs.got hM0 hp hs2
 have tb := tb.stp hM0 hp
 have hM0 := hM0.stp hp
 have hs : Sep [sl38 (L a3 x6.1.Code c3) x6.1.Code, sl38 (L a2 x2.1.Code c2) x4.2.Code, BX b2 24 [I x2.1.W, I x2.1.Mem, I x2.1.In, L a2 x2.1.Code c2], BX b1 24 [I x1.1.W, I x1.1.Mem, I x1.1.In, L a1 x1.1.Code c1], sl38 (L a1 x1.1.Code c1) x1.1.Code] w10 S8 := hs
 refine from_pure 3 [(3, B b1 0), (4, .bool x1.2), (5, B b2 0), (7, I x4.1), (47, .agg #[I x6.1.W, I x6.1.Mem, I x6.1.In, L a3 x6.1.Code c3]), (48, .bool x6.2)] hF (by kernel_rfl) fun fr hF => ?_
 refine q_alloc (z := .agg #[I 0, I 0, I 0, L none ([] : List D.Ins) 0]) hs hM0 [I 0, I 0, I 0, L none ([] : List D.Ins) 0] rfl rfl hF (by kernel_rfl) rfl fun b3 w11 S9 fr hs hp hF => ?_
 have tb := tb.stp hM0 hp
 have hM0 := hM0.stp hp
 have hs : Sep [BX b3 24 [I 0, I 0, I 0, L none ([] : List D.Ins) 0], sl38 (L a3 x6.1.Code c3) x6.1.Code, sl38 (L a2 x2.1.Code c2) x4.2.Code, BX b2 24 [I x2.1.W, I x2.1.Mem, I x2.1.In, L a2 x2.1.Code c2], BX b1 24 [I x1.1.W, I x1.1.Mem, I x1.1.In, L a1 x1.1.Code c1], sl38 (L a1 x1.1.Code c1) x1.1.Code] w11 S9 := hs
 refine q_storeBoxS 0 hs hM0 rfl [I x6.1.W, I x6.1.Mem, I x6.1.In, L a3 x6.1.Code c3] rfl hF rfl rfl (by kernel_rfl) rfl rfl rfl fun w12 S10 hs hp hF => ?_
 have tb := tb.stp hM0 hp
 have hM0 := hM0.stp hp
 have hs : Sep [BX b3 24 [I x6.1.W, I x6.1.Mem, I x6.1.In, L a3 x6.1.Code c3], sl38 (L a3 x6.1.Code c3) x6.1.Code, sl38 (L a2 x2.1.Code c2) x4.2.Code, BX b2 24 [I x2.1.W, I x2.1.Mem, I x2.1.In, L a2 x2.1.Code c2], BX b1 24 [I x1.1.W, I x1.1.Mem, I x1.1.In, L a1 x1.1.Code c1], sl38 (L a1 x1.1.Code c1) x1.1.Code] w12 S10 := hs
 refine from_pure 1 [(3, B b1 0), (4, .bool x1.2), (5, B b2 0), (7, I x4.1), (9, B b3 0), (10, .bool x6.2)] hF (by kernel_rfl) fun fr hF => ?_
 refine from_end rfl (then_normal ?_)
 refine wp_seq ?_
 obtain ⟨x7, hx7, h⟩ := bindE h
 refine wp_seq (region_b [] [false, false, false, true, true, true, true, true, true]
     [.eq (.agg #[I x6.1.W, I x6.1.Mem, I x6.1.In, L a3 x6.1.Code c3]), .eq (.agg #[I x1.1.W, I x1.1.Mem, I x1.1.In, L a1 x1.1.Code c1]), .eq (.bool x7), .eq (.bool (!x7)), .eq (.bool (!x7)), .eq (.bool x6.2), .eq (.bool x1.2), .eq (.bool (!(x6.2 == x1.2))), .eq (.bool ((!x7) || (!(x6.2 == x1.2))))]
     [(5, B b2 0), (7, I x4.1), (57, .bool ((!x7) || (!(x6.2 == x1.2))))] mix hF (by kernel_rfl) (by kernel_rfl) (by kernel_rfl) ⟨Pd.mono_eq, Pd.mono_eq, Pd.mono_eq, trivial⟩ (fun hG => ⟨np_loadBoxS hG hF ty24 rfl rfl (hs.bx 0 rfl) rfl rfl rfl rfl, np_loadBoxS hG hF ty24 rfl rfl (hs.bx 4 rfl) rfl rfl rfl rfl, np_call [.agg #[I x6.1.W, I x6.1.Mem, I x6.1.In, L a3 x6.1.Code c3], .agg #[I x1.1.W, I x1.1.Mem, I x1.1.In, L a1 x1.1.Code c1]] hG hF Tryz.call6 rfl rfl (fun w hC hg => (laws_eqProgram_ok n x6.1 x1.1 hx7 ((RV.mk_Program x6.1 (RV.any (hs.rv 1 rfl))).ext hC) ((RV.mk_Program x1.1 (RV.any (hs.rv 5 rfl))).ext hC)).mono fun e w' ⟨v, he, hv, hc⟩ => ⟨v, he, hc, hv⟩), trivial⟩) (by kernel_rfl) fun fr w13 hF hE hc => then_normal ?_)
 have tb := tb.ext hc
 have hs := hs.ext hc
 have hM0 := hM0.ext hc
 have hs : Sep [sl38 (L a2 x2.1.Code c2) x4.2.Code, BX b2 24 [I x2.1.W, I x2.1.Mem, I x2.1.In, L a2 x2.1.Code c2]] w13 S10 := Sep.pick [2, 3] hs (by decide) rfl
 refine (wp_if hF (b := ((!x7) || (!(x6.2 == x1.2)))) rfl (fun hb => ?_) (fun hb => ?_))
 · replace h := iteT hb h
   have hs : Sep [] w13 S10 := Sep.pick [] hs (by decide) rfl
   refine wp_seq (wp_pure [(2, .bool false)] hF (by kernel_rfl) fun fr hF => then_normal ?_)
   obtain rfl := Option.some.inj h
   exact wp_ret (then_ret (ret1 rfl hF rfl ⟨_, rfl, rfl, hM0.chg⟩))
 replace h := iteF hb h
 refine (wp_skip (then_normal ?_))
 refine wp_seq (wp_pure [(5, B b2 0), (7, I x4.1), (8, I 1)] hF (by kernel_rfl) fun fr hF => then_normal ?_)
 refine wp_seq (wp_text' ?_)
 refine s_loadBoxS ty24 rfl rfl hF rfl (hs.bx 1 rfl) rfl rfl fun fr hF => ?_
 have hs : Sep [sl38 (L a2 x2.1.Code c2) x4.2.Code] w13 S10 := Sep.pick [0] hs (by decide) rfl
 refine from_pure 1 [(7, I x4.1), (58, .agg #[I x2.1.W, I x2.1.Mem, I x2.1.In, L a2 x2.1.Code c2]), (59, I 1)] hF (by kernel_rfl) fun fr hF => ?_
 obtain ⟨x8, hx8, h⟩ := bindE h
 refine s_call [.agg #[I x2.1.W, I x2.1.Mem, I x2.1.In, L a2 x2.1.Code c2], I 1] Tryz.call8 rfl rfl hF rfl (laws_heldProgram_ok n (D.Program.mk x2.1.W x2.1.Mem x2.1.In x4.2.Code) 1 hx8 (RV.mk_Program (D.Program.mk x2.1.W x2.1.Mem x2.1.In x4.2.Code) (RV.any (hs.rv 0 rfl)))) fun v w14 fr hRes hF => ?_
 obtain ⟨rfl, hc⟩ := hRes
 have tb := tb.ext hc
 have hs := hs.ext hc
 have hM0 := hM0.ext hc
 have hs : Sep [] w14 S10 := Sep.pick [] hs (by decide) rfl
 refine from_pure 1 [(7, I x4.1), (8, I x8)] hF (by kernel_rfl) fun fr hF => ?_
 refine from_end rfl (then_normal ?_)
 refine wp_seq ?_
 refine wp_seq (wp_pure [(7, I x4.1), (8, I x8), (62, .bool (decide (x8 < 0)))] hF (by kernel_rfl) fun fr hF => then_normal ?_)
 refine (wp_if hF (b := (decide (x8 < 0))) rfl (fun hb => ?_) (fun hb => ?_))
 · replace h := iteT hb h
   refine wp_seq (wp_pure [(2, .bool false)] hF (by kernel_rfl) fun fr hF => then_normal ?_)
   obtain rfl := Option.some.inj h
   exact wp_ret (then_ret (ret1 rfl hF rfl ⟨_, rfl, rfl, hM0.chg⟩))
 replace h := iteF hb h
 refine (wp_skip (then_normal ?_))
 refine wp_seq ?_
 refine wp_seq (wp_pure [(65, .bool (x8 != x4.1))] hF (by kernel_rfl) fun fr hF => then_normal ?_)
 refine (wp_if hF (b := (x8 != x4.1)) rfl (fun hb => ?_) (fun hb => ?_))
 · replace h := iteT hb h
   refine wp_seq (wp_pure [(2, .bool false)] hF (by kernel_rfl) fun fr hF => then_normal ?_)
   obtain rfl := Option.some.inj h
   exact wp_ret (then_ret (ret1 rfl hF rfl ⟨_, rfl, rfl, hM0.chg⟩))
 replace h := iteF hb h
 refine (wp_skip (then_normal ?_))
 refine wp_seq (wp_pure [(2, .bool true)] hF (by kernel_rfl) fun fr hF => then_normal ?_)
 obtain rfl := Option.some.inj h
 exact wp_ret (ret1 rfl hF rfl ⟨_, rfl, rfl, hM0.chg⟩)
end Go.Proofs.YtmmhbhhcloobnaaGreatDoor
