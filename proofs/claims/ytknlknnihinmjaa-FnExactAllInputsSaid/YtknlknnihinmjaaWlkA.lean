/- Printed by gen2.py: the walks. -/
import Derived.Test.YtknlknnihinmjaaGLt
import Derived.Test.YtknlknnihinmjaaGLk
import Derived.Test.YtknlknnihinmjaaDefs
import Derived.Test.YtknlknnihinmjaaProg
import Derived.KernelRfl
import Derived.DeepKeys4
set_option linter.unusedVariables false
set_option maxRecDepth 100000
namespace Go.Proofs.Ytknlknnihinmjaa
open Go.GL Go.Maps Go.WideMaps
theorem mix : Try.prog.follows .mixedOrders = true := by kernel_rfl
theorem ty3 : Ty Try.prog 3 Int := ⟨by kernel_rfl, by kernel_rfl⟩
theorem ty22 : Ty Try.prog 22 (List D.Ins) := ⟨by kernel_rfl, by kernel_rfl⟩
theorem ty24 : Ty Try.prog 24 D.Program := ⟨by kernel_rfl, by kernel_rfl⟩
theorem ty26 : Ty Try.prog 26 (List Int) := ⟨by kernel_rfl, by kernel_rfl⟩
theorem ty28 : Ty Try.prog 28 (List D.Ins) := ⟨by kernel_rfl, by kernel_rfl⟩
theorem ty30 : Ty Try.prog 30 D.Program := ⟨by kernel_rfl, by kernel_rfl⟩
theorem ty90 : Ty Try.prog 90 D.Ins := ⟨by kernel_rfl, by kernel_rfl⟩
theorem ty133 : Ty Try.prog 133 D.Ins := ⟨by kernel_rfl, by kernel_rfl⟩
theorem el3 : ElT Try.prog 3 Int := elT (by kernel_rfl)
theorem el90 : ElT Try.prog 90 D.Ins := elT (by kernel_rfl)
abbrev own26 : Hd → List Int → HP := fun h xs => SL 3 h.v xs
theorem owns26 : Owns own26 := owns_sl _ _
theorem rty26 : Ty Try.prog 26 Hd := ⟨by kernel_rfl, by kernel_rfl⟩
theorem rel26 : ElT Try.prog 26 Hd := elT (by kernel_rfl)

theorem laws_szInsS_ok (p0 : List D.Ins) (p1 : Int) {r : Int} (h : laws_szInsS p0 p1 = some r) {w : World} {G0 : Nat → Prop} {va0 : Value} (ra0 : RV w G0 va0 p0) :
    Calls Try.prog 56 [va0, .int .i64 p1].toArray w fun e w' => ∃ v, e = .returned v ∧ v = .int .i64 r ∧ Chg Non w w' := by
  unfold laws_szInsS at h
  have hs := Sep.nil w Non
  have hM0 : Mem w Non (fun k => (G0 k) ∧ k < w.heap.size) w Non (fun k => (G0 k) ∧ k < w.heap.size) := Mem.start (fun _ h => h.elim) (fun _ h => h.2) (fun _ h => h.elim)
  have ra0 := ra0.sub (F' := (fun k => (G0 k) ∧ k < w.heap.size)) (fun k hk h => ⟨h, hk⟩)
  obtain ⟨a1, c1, rfl, -⟩ := ra0.slice
  refine enter (N := 12) Try.func56 rfl Try.ntmps56 rfl fun fr hF => ?_
  refine wp_seq (wp_pure [(0, .slice a1 (List.length p0) c1), (1, .int .i64 p1)] hF (by kernel_rfl) fun fr hF => then_normal ?_)
  refine wp_seq (wp_pure [(1, .int .i64 (w64 (p1 - (len p0))))] hF (by kernel_rfl) fun fr hF => then_normal ?_)
  refine wp_seq ?_
  refine wp_seq (wp_pure [(1, .int .i64 (w64 (p1 - (len p0)))), (10, .bool (decide ((w64 (p1 - (len p0))) < 0)))] hF (by kernel_rfl) fun fr hF => then_normal ?_)
  refine (wp_if hF (b := (decide ((w64 (p1 - (len p0))) < 0))) rfl (fun hb => ?_) (fun hb => ?_))
  · replace h := iteT hb h
    refine wp_seq (wp_pure [(4, .int .i64 (-1))] hF (by kernel_rfl) fun fr hF => then_normal ?_)
    obtain rfl := Option.some.inj h
    exact wp_ret (then_ret (ret1 rfl hF rfl ⟨_, rfl, rfl, hM0.chg⟩))
  replace h := iteF hb h
  refine (wp_skip (then_normal ?_))
  refine wp_seq (wp_pure [(4, .int .i64 (w64 (p1 - (len p0))))] hF (by kernel_rfl) fun fr hF => then_normal ?_)
  obtain rfl := Option.some.inj h
  exact wp_ret (ret1 rfl hF rfl ⟨_, rfl, rfl, hM0.chg⟩)

theorem laws_szProgram_ok (p0 : D.Program) (p1 : Int) {r : Int} (h : laws_szProgram p0 p1 = some r) {w : World} {G0 : Nat → Prop} {va0 : Value} (ra0 : RV w G0 va0 p0) :
    Calls Try.prog 11 [va0, .int .i64 p1].toArray w fun e w' => ∃ v, e = .returned v ∧ v = .int .i64 r ∧ Chg Non w w' := by
  unfold laws_szProgram at h
  have hs := Sep.nil w Non
  have hM0 : Mem w Non (fun k => (G0 k) ∧ k < w.heap.size) w Non (fun k => (G0 k) ∧ k < w.heap.size) := Mem.start (fun _ h => h.elim) (fun _ h => h.2) (fun _ h => h.elim)
  have ra0 := ra0.sub (F' := (fun k => (G0 k) ∧ k < w.heap.size)) (fun k hk h => ⟨h, hk⟩)
  obtain ⟨v1, rfl, r1⟩ := RV.Program ra0
  obtain ⟨a1, c1, rfl, -⟩ := r1.slice
  refine enter (N := 12) Try.func11 rfl Try.ntmps11 rfl fun fr hF => ?_
  refine wp_seq (wp_text' ?_)
  refine q_box hs hM0 [.int .i64 p0.W, .int .i64 p0.Mem, .int .i64 p0.In, .slice a1 (List.length p0.Code) c1] rfl rfl hF rfl rfl fun b1 w1 S1 fr hs hp hF => ?_
  have r1 := r1.stp hM0 hp
  have hM0 := hM0.stp hp
  have hs : Sep [BX b1 24 [.int .i64 p0.W, .int .i64 p0.Mem, .int .i64 p0.In, .slice a1 (List.length p0.Code) c1]] w1 S1 := hs
  refine from_pure 1 [(1, .int .i64 p1), (2, .pointer (some ⟨b1, 0, none⟩))] hF (by kernel_rfl) fun fr hF => ?_
  refine from_end rfl (then_normal ?_)
  refine wp_seq (wp_text' ?_)
  refine from_pure 1 [(1, .int .i64 p1), (5, .pointer (some ⟨b1, 3, none⟩))] hF (by kernel_rfl) fun fr hF => ?_
  refine s_loadBox (.slice a1 (List.length p0.Code) c1) ty22 rfl rfl hF rfl (hs.bx 0 rfl) rfl rfl fun fr hF => ?_
  have hs : Sep [] w1 S1 := Sep.pick [] hs (by decide) rfl
  refine from_pure 1 [(6, .slice a1 (List.length p0.Code) c1), (7, .int .i64 p1)] hF (by kernel_rfl) fun fr hF => ?_
  obtain ⟨x1, hx1, h⟩ := bindE h
  refine s_call [.slice a1 (List.length p0.Code) c1, .int .i64 p1] Try.call56 rfl rfl hF rfl (laws_szInsS_ok p0.Code p1 hx1 (r1)) fun v w2 fr hRes hF => ?_
  obtain ⟨rfl, hc⟩ := hRes
  have r1 := r1.ext hc
  have hs := hs.ext hc
  have hM0 := hM0.ext hc
  refine from_pure 1 [(1, .int .i64 x1)] hF (by kernel_rfl) fun fr hF => ?_
  refine from_end rfl (then_normal ?_)
  refine wp_seq ?_
  refine wp_seq (wp_pure [(1, .int .i64 x1), (10, .bool (decide (x1 < 0)))] hF (by kernel_rfl) fun fr hF => then_normal ?_)
  refine (wp_if hF (b := (decide (x1 < 0))) rfl (fun hb => ?_) (fun hb => ?_))
  · replace h := iteT hb h
    refine wp_seq (wp_pure [(4, .int .i64 (-1))] hF (by kernel_rfl) fun fr hF => then_normal ?_)
    obtain rfl := Option.some.inj h
    exact wp_ret (then_ret (ret1 rfl hF rfl ⟨_, rfl, rfl, hM0.chg⟩))
  replace h := iteF hb h
  refine (wp_skip (then_normal ?_))
  refine wp_seq (wp_pure [(4, .int .i64 x1)] hF (by kernel_rfl) fun fr hF => then_normal ?_)
  obtain rfl := Option.some.inj h
  exact wp_ret (ret1 rfl hF rfl ⟨_, rfl, rfl, hM0.chg⟩)

theorem laws_toIns_ok (p0 : D.Ins) {r : D.Ins} (h : laws_toIns p0 = some r) {w : World} :
    Calls Try.prog 105 [.agg #[.int .i64 p0.Op, .int .i64 p0.A, .int .i64 p0.B, .int .i64 p0.C]].toArray w fun e w' => ∃ v, e = .returned v ∧ v = .agg #[.int .i64 r.Op, .int .i64 r.A, .int .i64 r.B, .int .i64 r.C] ∧ Chg Non w w' := by
  unfold laws_toIns at h
  have hs := Sep.nil w Non
  have hM0 : Mem w Non (fun k => (False) ∧ k < w.heap.size) w Non (fun k => (False) ∧ k < w.heap.size) := Mem.start (fun _ h => h.elim) (fun _ h => h.2) (fun _ h => h.elim)
  refine enter (N := 17) Try.func105 rfl Try.ntmps105 rfl fun fr hF => ?_
  refine wp_seq (wp_text' ?_)
  refine q_box hs hM0 [.int .i64 p0.Op, .int .i64 p0.A, .int .i64 p0.B, .int .i64 p0.C] rfl rfl hF rfl rfl fun b1 w1 S1 fr hs hp hF => ?_
  have hM0 := hM0.stp hp
  have hs : Sep [BX b1 133 [.int .i64 p0.Op, .int .i64 p0.A, .int .i64 p0.B, .int .i64 p0.C]] w1 S1 := hs
  refine q_alloc (z := .agg #[.int .i64 0, .int .i64 0, .int .i64 0, .int .i64 0]) hs hM0 [.int .i64 0, .int .i64 0, .int .i64 0, .int .i64 0] rfl rfl hF (by kernel_rfl) rfl fun b2 w2 S2 fr hs hp hF => ?_
  have hM0 := hM0.stp hp
  have hs : Sep [BX b2 90 [.int .i64 0, .int .i64 0, .int .i64 0, .int .i64 0], BX b1 133 [.int .i64 p0.Op, .int .i64 p0.A, .int .i64 p0.B, .int .i64 p0.C]] w2 S2 := hs
  refine from_end rfl (then_normal ?_)
  refine wp_seq (wp_text' ?_)
  refine q_alloc (z := .agg #[.int .i64 0, .int .i64 0, .int .i64 0, .int .i64 0]) hs hM0 [.int .i64 0, .int .i64 0, .int .i64 0, .int .i64 0] rfl rfl hF (by kernel_rfl) rfl fun b3 w3 S3 fr hs hp hF => ?_
  have hM0 := hM0.stp hp
  have hs : Sep [BX b3 90 [.int .i64 0, .int .i64 0, .int .i64 0, .int .i64 0], BX b2 90 [.int .i64 0, .int .i64 0, .int .i64 0, .int .i64 0], BX b1 133 [.int .i64 p0.Op, .int .i64 p0.A, .int .i64 p0.B, .int .i64 p0.C]] w3 S3 := hs
  refine from_end rfl (then_normal ?_)
  refine wp_seq (wp_text' ?_)
  refine from_pure 1 [(1, .pointer (some ⟨b1, 0, none⟩)), (2, .pointer (some ⟨b2, 0, none⟩)), (3, .pointer (some ⟨b3, 0, none⟩)), (4, .pointer (some ⟨b1, 0, none⟩))] hF (by kernel_rfl) fun fr hF => ?_
  refine s_loadBox (.int .i64 p0.Op) ty3 rfl rfl hF rfl (hs.bx 2 rfl) rfl rfl fun fr hF => ?_
  refine from_pure 1 [(1, .pointer (some ⟨b1, 0, none⟩)), (2, .pointer (some ⟨b2, 0, none⟩)), (3, .pointer (some ⟨b3, 0, none⟩)), (5, .int .i64 p0.Op), (6, .pointer (some ⟨b3, 0, none⟩))] hF (by kernel_rfl) fun fr hF => ?_
  refine q_storeBox 0 hs hM0 rfl [.int .i64 p0.Op, .int .i64 0, .int .i64 0, .int .i64 0] rfl hF rfl rfl (by kernel_rfl) rfl rfl rfl fun w4 S4 hs hp hF => ?_
  have hM0 := hM0.stp hp
  have hs : Sep [BX b3 90 [.int .i64 p0.Op, .int .i64 0, .int .i64 0, .int .i64 0], BX b2 90 [.int .i64 0, .int .i64 0, .int .i64 0, .int .i64 0], BX b1 133 [.int .i64 p0.Op, .int .i64 p0.A, .int .i64 p0.B, .int .i64 p0.C]] w4 S4 := hs
  refine from_end rfl (then_normal ?_)
  refine wp_seq (wp_text' ?_)
  refine from_pure 1 [(1, .pointer (some ⟨b1, 0, none⟩)), (2, .pointer (some ⟨b2, 0, none⟩)), (3, .pointer (some ⟨b3, 0, none⟩)), (7, .pointer (some ⟨b1, 1, none⟩))] hF (by kernel_rfl) fun fr hF => ?_
  refine s_loadBox (.int .i64 p0.A) ty3 rfl rfl hF rfl (hs.bx 2 rfl) rfl rfl fun fr hF => ?_
  refine from_pure 1 [(1, .pointer (some ⟨b1, 0, none⟩)), (2, .pointer (some ⟨b2, 0, none⟩)), (3, .pointer (some ⟨b3, 0, none⟩)), (8, .int .i64 p0.A), (9, .pointer (some ⟨b3, 1, none⟩))] hF (by kernel_rfl) fun fr hF => ?_
  refine q_storeBox 0 hs hM0 rfl [.int .i64 p0.Op, .int .i64 p0.A, .int .i64 0, .int .i64 0] rfl hF rfl rfl (by kernel_rfl) rfl rfl rfl fun w5 S5 hs hp hF => ?_
  have hM0 := hM0.stp hp
  have hs : Sep [BX b3 90 [.int .i64 p0.Op, .int .i64 p0.A, .int .i64 0, .int .i64 0], BX b2 90 [.int .i64 0, .int .i64 0, .int .i64 0, .int .i64 0], BX b1 133 [.int .i64 p0.Op, .int .i64 p0.A, .int .i64 p0.B, .int .i64 p0.C]] w5 S5 := hs
  refine from_end rfl (then_normal ?_)
  refine wp_seq (wp_text' ?_)
  refine from_pure 1 [(1, .pointer (some ⟨b1, 0, none⟩)), (2, .pointer (some ⟨b2, 0, none⟩)), (3, .pointer (some ⟨b3, 0, none⟩)), (10, .pointer (some ⟨b1, 2, none⟩))] hF (by kernel_rfl) fun fr hF => ?_
  refine s_loadBox (.int .i64 p0.B) ty3 rfl rfl hF rfl (hs.bx 2 rfl) rfl rfl fun fr hF => ?_
  refine from_pure 1 [(1, .pointer (some ⟨b1, 0, none⟩)), (2, .pointer (some ⟨b2, 0, none⟩)), (3, .pointer (some ⟨b3, 0, none⟩)), (11, .int .i64 p0.B), (12, .pointer (some ⟨b3, 2, none⟩))] hF (by kernel_rfl) fun fr hF => ?_
  refine q_storeBox 0 hs hM0 rfl [.int .i64 p0.Op, .int .i64 p0.A, .int .i64 p0.B, .int .i64 0] rfl hF rfl rfl (by kernel_rfl) rfl rfl rfl fun w6 S6 hs hp hF => ?_
  have hM0 := hM0.stp hp
  have hs : Sep [BX b3 90 [.int .i64 p0.Op, .int .i64 p0.A, .int .i64 p0.B, .int .i64 0], BX b2 90 [.int .i64 0, .int .i64 0, .int .i64 0, .int .i64 0], BX b1 133 [.int .i64 p0.Op, .int .i64 p0.A, .int .i64 p0.B, .int .i64 p0.C]] w6 S6 := hs
  refine from_end rfl (then_normal ?_)
  refine wp_seq (wp_text' ?_)
  refine from_pure 1 [(2, .pointer (some ⟨b2, 0, none⟩)), (3, .pointer (some ⟨b3, 0, none⟩)), (13, .pointer (some ⟨b1, 3, none⟩))] hF (by kernel_rfl) fun fr hF => ?_
  refine s_loadBox (.int .i64 p0.C) ty3 rfl rfl hF rfl (hs.bx 2 rfl) rfl rfl fun fr hF => ?_
  have hs : Sep [BX b3 90 [.int .i64 p0.Op, .int .i64 p0.A, .int .i64 p0.B, .int .i64 0], BX b2 90 [.int .i64 0, .int .i64 0, .int .i64 0, .int .i64 0]] w6 S6 := Sep.pick [0, 1] hs (by decide) rfl
  refine from_pure 1 [(2, .pointer (some ⟨b2, 0, none⟩)), (3, .pointer (some ⟨b3, 0, none⟩)), (14, .int .i64 p0.C), (15, .pointer (some ⟨b3, 3, none⟩))] hF (by kernel_rfl) fun fr hF => ?_
  refine q_storeBox 0 hs hM0 rfl [.int .i64 p0.Op, .int .i64 p0.A, .int .i64 p0.B, .int .i64 p0.C] rfl hF rfl rfl (by kernel_rfl) rfl rfl rfl fun w7 S7 hs hp hF => ?_
  have hM0 := hM0.stp hp
  have hs : Sep [BX b3 90 [.int .i64 p0.Op, .int .i64 p0.A, .int .i64 p0.B, .int .i64 p0.C], BX b2 90 [.int .i64 0, .int .i64 0, .int .i64 0, .int .i64 0]] w7 S7 := hs
  refine from_end rfl (then_normal ?_)
  refine wp_seq (wp_text' ?_)
  refine s_loadBoxS ty90 rfl rfl hF rfl (hs.bx 0 rfl) rfl rfl fun fr hF => ?_
  have hs : Sep [BX b2 90 [.int .i64 0, .int .i64 0, .int .i64 0, .int .i64 0]] w7 S7 := Sep.pick [1] hs (by decide) rfl
  refine q_storeBoxS 0 hs hM0 rfl [.int .i64 p0.Op, .int .i64 p0.A, .int .i64 p0.B, .int .i64 p0.C] rfl hF rfl rfl (by kernel_rfl) rfl rfl rfl fun w8 S8 hs hp hF => ?_
  have hM0 := hM0.stp hp
  have hs : Sep [BX b2 90 [.int .i64 p0.Op, .int .i64 p0.A, .int .i64 p0.B, .int .i64 p0.C]] w8 S8 := hs
  refine from_end rfl (then_normal ?_)
  have hbr := (hs.bx 0 rfl)
  obtain rfl := Option.some.inj h
  exact wp_ret (retS rfl hF ty90 rfl rfl hbr rfl ⟨_, rfl, rfl, hM0.chg⟩)

theorem laws_toInsS_ok (n : Nat) (p0 : List D.Ins) {r : (List D.Ins)} (h : laws_toInsS n p0 = some r) {w : World} {G0 : Nat → Prop} {va0 : Value} (ra0 : RV w G0 va0 p0) :
    Calls Try.prog 59 [va0].toArray w fun e w' => ∃ v, e = .returned v ∧ ∃ a1 c1, v = .slice a1 (List.length r) c1 ∧ ∃ S', Stp w Non w' S' ∧ Sep [SL (α := D.Ins) 90 (.slice a1 (List.length r) c1) r] w' S' := by
  unfold laws_toInsS at h
  have hs := Sep.nil w Non
  have hM0 : Mem w Non (fun k => (G0 k) ∧ k < w.heap.size) w Non (fun k => (G0 k) ∧ k < w.heap.size) := Mem.start (fun _ h => h.elim) (fun _ h => h.2) (fun _ h => h.elim)
  have ra0 := ra0.sub (F' := (fun k => (G0 k) ∧ k < w.heap.size)) (fun k hk h => ⟨h, hk⟩)
  obtain ⟨a1, c1, rfl, -⟩ := ra0.slice
  refine enter (N := 23) Try.func59 rfl Try.ntmps59 rfl fun fr hF => ?_
  refine wp_seq (wp_pure [(0, .slice a1 (List.length p0) c1)] hF (by kernel_rfl) fun fr hF => then_normal ?_)
  refine wp_seq (wp_text' ?_)
  refine from_pure 2 [(0, .slice a1 (List.length p0) c1), (6, .int .i64 (len p0))] hF (by kernel_rfl) fun fr hF => ?_
  obtain ⟨x1, hx1, h⟩ := bindE h
  refine q_make hs hM0 Try.underlying28 el90 (zero_flat _ (by kernel_rfl)) rfl rfl hF rfl rfl hx1 fun a2 c2 w1 S1 fr hs hp hF => ?_
  have ra0 := ra0.stp hM0 hp
  have hM0 := hM0.stp hp
  have hs : Sep [SL (α := D.Ins) 90 (.slice a2 (List.length x1) c2) x1] w1 S1 := hs
  refine from_pure 1 [(0, .slice a1 (List.length p0) c1), (3, .slice a2 (List.length x1) c2)] hF (by kernel_rfl) fun fr hF => ?_
  refine from_end rfl (then_normal ?_)
  refine wp_seq ?_
  refine wp_seq (wp_pure [(0, .slice a1 (List.length p0) c1), (3, .slice a2 (List.length x1) c2), (4, .int .i64 0)] hF (by kernel_rfl) fun fr hF => then_normal ?_)
  obtain ⟨rl1, hit1, h⟩ := bindE h
  have hk1 := h
  refine (wp_cut (M := fun fr w' => ∃ S3 F2, FrS 23 [(3, .slice a2 (List.length x1) c2)] fr ∧ Mem w1 S1 (fun k => (G0 k) ∧ k < w.heap.size) w' S3 F2 ∧ Sep [SL (α := D.Ins) 90 (.slice a2 (List.length x1) c2) rl1] w' S3) (wp_block (wp_iter (Inv := fun s1 fr w' => ∃ S2 F1, FrS 23 [(0, .slice a1 (List.length p0) c1), (3, .slice a2 (List.length x1) c2), (4, .int .i64 s1.1)] fr ∧ Mem w1 S1 (fun k => (G0 k) ∧ k < w.heap.size) w' S2 F1 ∧ Sep [SL (α := D.Ins) 90 (.slice a2 (List.length x1) c2) s1.2] w' S2) hit1 ⟨S1, _, hF.sub _ (by kernel_rfl), (Mem.start hM0.bd hM0.bdF hM0.dj), hs⟩ fun s1 q1 fr w1i hI h hr1 => ?_)) fun fr w1o hM => ?_)
  · obtain ⟨S2, F1, hF, hM1, hs⟩ := hI
    have ra0 := ra0.mem hM1
    refine wp_seq ?_
    refine wp_seq (wp_pure [(0, .slice a1 (List.length p0) c1), (3, .slice a2 (List.length x1) c2), (4, .int .i64 s1.1), (11, .bool (decide (s1.1 < (len p0))))] hF (by kernel_rfl) fun fr hF => then_normal ?_)
    refine (wp_if hF (b := (decide (s1.1 < (len p0)))) rfl (fun hb => ?_) (fun hb => ?_))
    · replace h := iteT hb h
      refine (wp_skip (then_normal ?_))
      refine wp_seq (wp_block ?_)
      refine (wp_text' ?_)
      refine from_pure 4 [(0, .slice a1 (List.length p0) c1), (3, .slice a2 (List.length x1) c2), (4, .int .i64 s1.1), (14, .slice a2 (List.length x1) c2), (15, .int .i64 s1.1), (16, .slice a1 (List.length p0) c1), (17, .int .i64 s1.1)] hF (by kernel_rfl) fun fr hF => ?_
      obtain ⟨x2, hx2, h⟩ := bindE h
      refine s_elemF (z := x2) (.agg #[.int .i64 x2.Op, .int .i64 x2.A, .int .i64 x2.B, .int .i64 x2.C]) ty133 Try.underlying22 rfl rfl rfl rfl rfl hF rfl (ra0) rfl (get?_nn hx2) (get?_at hx2) rfl fun p fr hF => ?_
      obtain ⟨x3, hx3, h⟩ := bindE h
      refine s_call [.agg #[.int .i64 x2.Op, .int .i64 x2.A, .int .i64 x2.B, .int .i64 x2.C]] Try.call105 rfl rfl hF rfl (laws_toIns_ok x2 hx3) fun v w2 fr hRes hF => ?_
      obtain ⟨rfl, hc⟩ := hRes
      have ra0 := ra0.ext hc
      have hs := hs.ext hc
      have hM1 := hM1.ext hc
      obtain ⟨x4, hx4, h⟩ := bindE h
      refine q_set (q := x3) 0 hs hM1 rfl Try.underlying28 ty90 rfl rfl rfl rfl hF rfl rfl (by simp) rfl rfl hx4 fun w3 S4 fr _ hs hp hF => ?_
      have ra0 := ra0.stp hM1 hp
      have hM1 := hM1.stp hp
      have hs : Sep [SL (α := D.Ins) 90 (.slice a2 (List.length x1) c2) x4] w3 S4 := hs
      refine from_end rfl ?_
      refine blk_normal (then_normal ?_)
      refine (wp_pure [(0, .slice a1 (List.length p0) c1), (3, .slice a2 (List.length x1) c2), (4, .int .i64 (w64 (s1.1 + 1)))] hF (by kernel_rfl) fun fr hF => then_normal ?_)
      exact ⟨_, (Option.some.inj h).symm, S4, _, hF.sub _ (by kernel_rfl), hM1, hs⟩
    replace h := iteF hb h
    refine (wp_exit (then_exit (then_exit (blk_exit_eq ?_))))
    obtain rfl := hr1 _ (Option.some.inj h).symm
    exact then_normal ⟨S2, _, hF.sub _ (by kernel_rfl), hM1, hs⟩
  · obtain ⟨S3, F2, hF, hMx, hs⟩ := hM
    have hM0 := hM0.trans hMx
    refine wp_seq (wp_pure [(2, .slice a2 (List.length x1) c2)] hF (by kernel_rfl) fun fr hF => then_normal ?_)
    obtain rfl := Option.some.inj h
    obtain ⟨he1, hs⟩ := hs.relen 0 rfl
    have hs : Sep [SL (α := D.Ins) 90 (.slice a2 (List.length rl1) c2) rl1] w1o S3 := hs
    exact wp_ret (ret1 rfl hF rfl ⟨_, rfl, a2, c2, (by simp only [he1]), S3, hM0.out, hs⟩)

theorem laws_toProgram_ok (n : Nat) (p0 : D.Program) {r : D.Program} (h : laws_toProgram n p0 = some r) {w : World} {G0 : Nat → Prop} {va0 : Value} (ra0 : RV w G0 va0 p0) :
    Calls Try.prog 13 [va0].toArray w fun e w' => ∃ v, e = .returned v ∧ ∃ a1 c1, v = .agg #[.int .i64 r.W, .int .i64 r.Mem, .int .i64 r.In, .slice a1 (List.length r.Code) c1] ∧ ∃ S', Stp w Non w' S' ∧ Sep [SL (α := D.Ins) 90 (.slice a1 (List.length r.Code) c1) r.Code] w' S' := by
  unfold laws_toProgram at h
  have hs := Sep.nil w Non
  have hM0 : Mem w Non (fun k => (G0 k) ∧ k < w.heap.size) w Non (fun k => (G0 k) ∧ k < w.heap.size) := Mem.start (fun _ h => h.elim) (fun _ h => h.2) (fun _ h => h.elim)
  have ra0 := ra0.sub (F' := (fun k => (G0 k) ∧ k < w.heap.size)) (fun k hk h => ⟨h, hk⟩)
  obtain ⟨v1, rfl, r1⟩ := RV.Program ra0
  obtain ⟨a1, c1, rfl, -⟩ := r1.slice
  refine enter (N := 18) Try.func13 rfl Try.ntmps13 rfl fun fr hF => ?_
  refine wp_seq (wp_text' ?_)
  refine q_box hs hM0 [.int .i64 p0.W, .int .i64 p0.Mem, .int .i64 p0.In, .slice a1 (List.length p0.Code) c1] rfl rfl hF rfl rfl fun b1 w1 S1 fr hs hp hF => ?_
  have r1 := r1.stp hM0 hp
  have hM0 := hM0.stp hp
  have hs : Sep [BX b1 24 [.int .i64 p0.W, .int .i64 p0.Mem, .int .i64 p0.In, .slice a1 (List.length p0.Code) c1]] w1 S1 := hs
  refine q_alloc (z := .agg #[.int .i64 0, .int .i64 0, .int .i64 0, .slice none (List.length ([] : List D.Ins)) 0]) hs hM0 [.int .i64 0, .int .i64 0, .int .i64 0, .slice none (List.length ([] : List D.Ins)) 0] rfl rfl hF (by kernel_rfl) rfl fun b2 w2 S2 fr hs hp hF => ?_
  have r1 := r1.stp hM0 hp
  have hM0 := hM0.stp hp
  have hs : Sep [BX b2 30 [.int .i64 0, .int .i64 0, .int .i64 0, .slice none (List.length ([] : List D.Ins)) 0], BX b1 24 [.int .i64 p0.W, .int .i64 p0.Mem, .int .i64 p0.In, .slice a1 (List.length p0.Code) c1]] w2 S2 := hs
  refine from_end rfl (then_normal ?_)
  refine wp_seq (wp_text' ?_)
  refine q_alloc (z := .agg #[.int .i64 0, .int .i64 0, .int .i64 0, .slice none (List.length ([] : List D.Ins)) 0]) hs hM0 [.int .i64 0, .int .i64 0, .int .i64 0, .slice none (List.length ([] : List D.Ins)) 0] rfl rfl hF (by kernel_rfl) rfl fun b3 w3 S3 fr hs hp hF => ?_
  have r1 := r1.stp hM0 hp
  have hM0 := hM0.stp hp
  have hs : Sep [BX b3 30 [.int .i64 0, .int .i64 0, .int .i64 0, .slice none (List.length ([] : List D.Ins)) 0], BX b2 30 [.int .i64 0, .int .i64 0, .int .i64 0, .slice none (List.length ([] : List D.Ins)) 0], BX b1 24 [.int .i64 p0.W, .int .i64 p0.Mem, .int .i64 p0.In, .slice a1 (List.length p0.Code) c1]] w3 S3 := hs
  refine from_end rfl (then_normal ?_)
  refine wp_seq (wp_text' ?_)
  refine from_pure 1 [(1, .pointer (some ⟨b1, 0, none⟩)), (2, .pointer (some ⟨b2, 0, none⟩)), (3, .pointer (some ⟨b3, 0, none⟩)), (4, .pointer (some ⟨b1, 0, none⟩))] hF (by kernel_rfl) fun fr hF => ?_
  refine s_loadBox (.int .i64 p0.W) ty3 rfl rfl hF rfl (hs.bx 2 rfl) rfl rfl fun fr hF => ?_
  refine from_pure 1 [(1, .pointer (some ⟨b1, 0, none⟩)), (2, .pointer (some ⟨b2, 0, none⟩)), (3, .pointer (some ⟨b3, 0, none⟩)), (5, .int .i64 p0.W), (6, .pointer (some ⟨b3, 0, none⟩))] hF (by kernel_rfl) fun fr hF => ?_
  refine q_storeBox 0 hs hM0 rfl [.int .i64 p0.W, .int .i64 0, .int .i64 0, .slice none (List.length ([] : List D.Ins)) 0] rfl hF rfl rfl (by kernel_rfl) rfl rfl rfl fun w4 S4 hs hp hF => ?_
  have r1 := r1.stp hM0 hp
  have hM0 := hM0.stp hp
  have hs : Sep [BX b3 30 [.int .i64 p0.W, .int .i64 0, .int .i64 0, .slice none (List.length ([] : List D.Ins)) 0], BX b2 30 [.int .i64 0, .int .i64 0, .int .i64 0, .slice none (List.length ([] : List D.Ins)) 0], BX b1 24 [.int .i64 p0.W, .int .i64 p0.Mem, .int .i64 p0.In, .slice a1 (List.length p0.Code) c1]] w4 S4 := hs
  refine from_end rfl (then_normal ?_)
  refine wp_seq (wp_text' ?_)
  refine from_pure 1 [(1, .pointer (some ⟨b1, 0, none⟩)), (2, .pointer (some ⟨b2, 0, none⟩)), (3, .pointer (some ⟨b3, 0, none⟩)), (7, .pointer (some ⟨b1, 1, none⟩))] hF (by kernel_rfl) fun fr hF => ?_
  refine s_loadBox (.int .i64 p0.Mem) ty3 rfl rfl hF rfl (hs.bx 2 rfl) rfl rfl fun fr hF => ?_
  refine from_pure 1 [(1, .pointer (some ⟨b1, 0, none⟩)), (2, .pointer (some ⟨b2, 0, none⟩)), (3, .pointer (some ⟨b3, 0, none⟩)), (8, .int .i64 p0.Mem), (9, .pointer (some ⟨b3, 1, none⟩))] hF (by kernel_rfl) fun fr hF => ?_
  refine q_storeBox 0 hs hM0 rfl [.int .i64 p0.W, .int .i64 p0.Mem, .int .i64 0, .slice none (List.length ([] : List D.Ins)) 0] rfl hF rfl rfl (by kernel_rfl) rfl rfl rfl fun w5 S5 hs hp hF => ?_
  have r1 := r1.stp hM0 hp
  have hM0 := hM0.stp hp
  have hs : Sep [BX b3 30 [.int .i64 p0.W, .int .i64 p0.Mem, .int .i64 0, .slice none (List.length ([] : List D.Ins)) 0], BX b2 30 [.int .i64 0, .int .i64 0, .int .i64 0, .slice none (List.length ([] : List D.Ins)) 0], BX b1 24 [.int .i64 p0.W, .int .i64 p0.Mem, .int .i64 p0.In, .slice a1 (List.length p0.Code) c1]] w5 S5 := hs
  refine from_end rfl (then_normal ?_)
  refine wp_seq (wp_text' ?_)
  refine from_pure 1 [(1, .pointer (some ⟨b1, 0, none⟩)), (2, .pointer (some ⟨b2, 0, none⟩)), (3, .pointer (some ⟨b3, 0, none⟩)), (10, .pointer (some ⟨b1, 2, none⟩))] hF (by kernel_rfl) fun fr hF => ?_
  refine s_loadBox (.int .i64 p0.In) ty3 rfl rfl hF rfl (hs.bx 2 rfl) rfl rfl fun fr hF => ?_
  refine from_pure 1 [(1, .pointer (some ⟨b1, 0, none⟩)), (2, .pointer (some ⟨b2, 0, none⟩)), (3, .pointer (some ⟨b3, 0, none⟩)), (11, .int .i64 p0.In), (12, .pointer (some ⟨b3, 2, none⟩))] hF (by kernel_rfl) fun fr hF => ?_
  refine q_storeBox 0 hs hM0 rfl [.int .i64 p0.W, .int .i64 p0.Mem, .int .i64 p0.In, .slice none (List.length ([] : List D.Ins)) 0] rfl hF rfl rfl (by kernel_rfl) rfl rfl rfl fun w6 S6 hs hp hF => ?_
  have r1 := r1.stp hM0 hp
  have hM0 := hM0.stp hp
  have hs : Sep [BX b3 30 [.int .i64 p0.W, .int .i64 p0.Mem, .int .i64 p0.In, .slice none (List.length ([] : List D.Ins)) 0], BX b2 30 [.int .i64 0, .int .i64 0, .int .i64 0, .slice none (List.length ([] : List D.Ins)) 0], BX b1 24 [.int .i64 p0.W, .int .i64 p0.Mem, .int .i64 p0.In, .slice a1 (List.length p0.Code) c1]] w6 S6 := hs
  refine from_end rfl (then_normal ?_)
  refine wp_seq (wp_text' ?_)
  refine from_pure 1 [(2, .pointer (some ⟨b2, 0, none⟩)), (3, .pointer (some ⟨b3, 0, none⟩)), (13, .pointer (some ⟨b1, 3, none⟩))] hF (by kernel_rfl) fun fr hF => ?_
  refine s_loadBox (.slice a1 (List.length p0.Code) c1) ty22 rfl rfl hF rfl (hs.bx 2 rfl) rfl rfl fun fr hF => ?_
  have hs : Sep [BX b3 30 [.int .i64 p0.W, .int .i64 p0.Mem, .int .i64 p0.In, .slice none (List.length ([] : List D.Ins)) 0], BX b2 30 [.int .i64 0, .int .i64 0, .int .i64 0, .slice none (List.length ([] : List D.Ins)) 0]] w6 S6 := Sep.pick [0, 1] hs (by decide) rfl
  obtain ⟨x1, hx1, h⟩ := bindE h
  refine s_call [.slice a1 (List.length p0.Code) c1] Try.call59 rfl rfl hF rfl (laws_toInsS_ok n p0.Code hx1 (r1)) fun v w7 fr hRes hF => ?_
  obtain ⟨a2, c2, rfl, _, hp, hs2⟩ := hRes
  obtain ⟨S7, hp, hs⟩ := hs.got hM0 hp hs2
  have r1 := r1.stp hM0 hp
  have hM0 := hM0.stp hp
  have hs : Sep [SL (α := D.Ins) 90 (.slice a2 (List.length x1) c2) x1, BX b3 30 [.int .i64 p0.W, .int .i64 p0.Mem, .int .i64 p0.In, .slice none (List.length ([] : List D.Ins)) 0], BX b2 30 [.int .i64 0, .int .i64 0, .int .i64 0, .slice none (List.length ([] : List D.Ins)) 0]] w7 S7 := hs
  refine from_pure 1 [(2, .pointer (some ⟨b2, 0, none⟩)), (3, .pointer (some ⟨b3, 0, none⟩)), (15, .slice a2 (List.length x1) c2), (16, .pointer (some ⟨b3, 3, none⟩))] hF (by kernel_rfl) fun fr hF => ?_
  refine q_storeBox 1 hs hM0 rfl [.int .i64 p0.W, .int .i64 p0.Mem, .int .i64 p0.In, .slice a2 (List.length x1) c2] rfl hF rfl rfl (by kernel_rfl) rfl rfl rfl fun w8 S8 hs hp hF => ?_
  have hM0 := hM0.stp hp
  have hs : Sep [SL (α := D.Ins) 90 (.slice a2 (List.length x1) c2) x1, BX b3 30 [.int .i64 p0.W, .int .i64 p0.Mem, .int .i64 p0.In, .slice a2 (List.length x1) c2], BX b2 30 [.int .i64 0, .int .i64 0, .int .i64 0, .slice none (List.length ([] : List D.Ins)) 0]] w8 S8 := hs
  refine from_end rfl (then_normal ?_)
  refine wp_seq (wp_text' ?_)
  refine s_loadBoxS ty30 rfl rfl hF rfl (hs.bx 1 rfl) rfl rfl fun fr hF => ?_
  have hs : Sep [SL (α := D.Ins) 90 (.slice a2 (List.length x1) c2) x1, BX b2 30 [.int .i64 0, .int .i64 0, .int .i64 0, .slice none (List.length ([] : List D.Ins)) 0]] w8 S8 := Sep.pick [0, 2] hs (by decide) rfl
  refine q_storeBoxS 1 hs hM0 rfl [.int .i64 p0.W, .int .i64 p0.Mem, .int .i64 p0.In, .slice a2 (List.length x1) c2] rfl hF rfl rfl (by kernel_rfl) rfl rfl rfl fun w9 S9 hs hp hF => ?_
  have hM0 := hM0.stp hp
  have hs : Sep [SL (α := D.Ins) 90 (.slice a2 (List.length x1) c2) x1, BX b2 30 [.int .i64 p0.W, .int .i64 p0.Mem, .int .i64 p0.In, .slice a2 (List.length x1) c2]] w9 S9 := hs
  refine from_end rfl (then_normal ?_)
  have hbr := (hs.bx 1 rfl)
  obtain rfl := Option.some.inj h
  have hs : Sep [SL (α := D.Ins) 90 (.slice a2 (List.length x1) c2) x1] w9 S9 := Sep.pick [0] hs (by decide) rfl
  exact wp_ret (retS rfl hF ty30 rfl rfl hbr rfl ⟨_, rfl, a2, c2, rfl, S9, hM0.out, hs⟩)

theorem spec_l01In_ok (p0 : Int) (p1 : Int) (p2 : Int) {r : Bool} (h : spec_l01In p0 p1 p2 = some r) {w : World} :
    Calls Try.prog 58 [.int .i64 p0, .int .i64 p1, .int .i64 p2].toArray w fun e w' => ∃ v, e = .returned v ∧ v = .bool r ∧ Chg Non w w' := by
  unfold spec_l01In at h
  have hs := Sep.nil w Non
  have hM0 : Mem w Non (fun k => (False) ∧ k < w.heap.size) w Non (fun k => (False) ∧ k < w.heap.size) := Mem.start (fun _ h => h.elim) (fun _ h => h.2) (fun _ h => h.elim)
  refine enter (N := 15) Try.func58 rfl Try.ntmps58 rfl fun fr hF => ?_
  refine wp_seq (wp_pure [(0, .int .i64 p0), (1, .int .i64 p1), (2, .int .i64 p2)] hF (by kernel_rfl) fun fr hF => then_normal ?_)
  refine wp_seq (region_b [] [true, true, true, true, true, true, true, true, true]
      [.eq (.int .i64 p0), .eq (.int .i64 p1), .eq (.bool (decide (p0 ≥ p1))), .eq (.bool (decide (p0 ≥ p1))), .eq (.int .i64 p0), .eq (.int .i64 p2), .eq (.bool (decide (p0 ≤ p2))), .eq (.bool ((decide (p0 ≥ p1)) && (decide (p0 ≤ p2)))), .eq (.bool ((decide (p0 ≥ p1)) && (decide (p0 ≤ p2))))]
      [(6, .bool ((decide (p0 ≥ p1)) && (decide (p0 ≤ p2))))] mix hF (by kernel_rfl) (by kernel_rfl) (by kernel_rfl) trivial (fun hG => trivial) (by kernel_rfl) fun fr w1 hF hE hc => then_normal ?_)
  have hs := hs.ext hc
  have hM0 := hM0.ext hc
  obtain rfl := Option.some.inj h
  exact wp_ret (ret1 rfl hF rfl ⟨_, rfl, rfl, hM0.chg⟩)

theorem spec_WordOk_ok (p0 : Int) (p1 : Int) {r : Bool} (h : spec_WordOk p0 p1 = some r) {w : World} :
    Calls Try.prog 103 [.int .i64 p0, .int .i64 p1].toArray w fun e w' => ∃ v, e = .returned v ∧ v = .bool r ∧ Chg Non w w' := by
  unfold spec_WordOk at h
  have hs := Sep.nil w Non
  have hM0 : Mem w Non (fun k => (False) ∧ k < w.heap.size) w Non (fun k => (False) ∧ k < w.heap.size) := Mem.start (fun _ h => h.elim) (fun _ h => h.2) (fun _ h => h.elim)
  refine enter (N := 14) Try.func103 rfl Try.ntmps103 rfl fun fr hF => ?_
  refine wp_seq (wp_pure [(0, .int .i64 p0), (1, .int .i64 p1)] hF (by kernel_rfl) fun fr hF => then_normal ?_)
  obtain ⟨x1, hx1, h⟩ := bindE h
  obtain ⟨x2, hx2, h⟩ := bindE h
  obtain ⟨x3, hx3, h⟩ := bindE h
  refine wp_seq (region_b [] [true, false, true, true, true, false, true, false, true, true]
      [.eq (.int .i64 p0), .eq (.bool x1), .eq (.bool x1), .eq (.int .i64 p1), .eq (.int .i64 p0), .eq (.int .i64 x2), .eq (.int .i64 (w64 (x2 - 1))), .eq (.bool x3), .eq (.bool (x1 && x3)), .eq (.bool (x1 && x3))]
      [(4, .bool (x1 && x3))] mix hF (by kernel_rfl) (by kernel_rfl) (by kernel_rfl) ⟨Pd.mono_eq, Pd.mono_eq, Pd.mono_eq, trivial⟩ (fun hG => ⟨np_call [.int .i64 p0, .int .i64 1, .int .i64 16] hG hF Try.call58 rfl rfl (fun w hC hg => (spec_l01In_ok p0 1 16 hx1).mono fun e w' ⟨v, he, hv, hc⟩ => ⟨v, he, hc, hv⟩), np_shl hG hF rfl rfl rfl (fun hg => (iteT hg.2 hx2)) rfl, np_call [.int .i64 p1, .int .i64 0, .int .i64 (w64 (x2 - 1))] hG hF Try.call58 rfl rfl (fun w hC hg => (spec_l01In_ok p1 0 (w64 (x2 - 1)) (iteT hg.2 hx3)).mono fun e w' ⟨v, he, hv, hc⟩ => ⟨v, he, hc, hv⟩), trivial⟩) (by kernel_rfl) fun fr w1 hF hE hc => then_normal ?_)
  have hs := hs.ext hc
  have hM0 := hM0.ext hc
  obtain rfl := Option.some.inj h
  exact wp_ret (ret1 rfl hF rfl ⟨_, rfl, rfl, hM0.chg⟩)

theorem spec_l05Reg_ok (p0 : Int) {r : Bool} (h : spec_l05Reg p0 = some r) {w : World} :
    Calls Try.prog 136 [.int .i64 p0].toArray w fun e w' => ∃ v, e = .returned v ∧ v = .bool r ∧ Chg Non w w' := by
  unfold spec_l05Reg at h
  have hs := Sep.nil w Non
  have hM0 : Mem w Non (fun k => (False) ∧ k < w.heap.size) w Non (fun k => (False) ∧ k < w.heap.size) := Mem.start (fun _ h => h.elim) (fun _ h => h.2) (fun _ h => h.elim)
  refine enter (N := 5) Try.func136 rfl Try.ntmps136 rfl fun fr hF => ?_
  refine wp_seq (wp_pure [(0, .int .i64 p0)] hF (by kernel_rfl) fun fr hF => then_normal ?_)
  refine wp_seq (wp_text' ?_)
  refine from_pure 1 [(3, .int .i64 p0)] hF (by kernel_rfl) fun fr hF => ?_
  obtain ⟨x1, hx1, h⟩ := bindE h
  refine s_call [.int .i64 p0, .int .i64 0, .int .i64 3] Try.call58 rfl rfl hF rfl (spec_l01In_ok p0 0 3 hx1) fun v w1 fr hRes hF => ?_
  obtain ⟨rfl, hc⟩ := hRes
  have hs := hs.ext hc
  have hM0 := hM0.ext hc
  refine from_pure 1 [(2, .bool x1)] hF (by kernel_rfl) fun fr hF => ?_
  refine from_end rfl (then_normal ?_)
  obtain rfl := Option.some.inj h
  exact wp_ret (ret1 rfl hF rfl ⟨_, rfl, rfl, hM0.chg⟩)

theorem spec_l05Ins_ok (p0 : D.Ins) (p1 : Int) (p2 : Int) {r : Bool} (h : spec_l05Ins p0 p1 p2 = some r) {w : World} :
    Calls Try.prog 104 [.agg #[.int .i64 p0.Op, .int .i64 p0.A, .int .i64 p0.B, .int .i64 p0.C], .int .i64 p1, .int .i64 p2].toArray w fun e w' => ∃ v, e = .returned v ∧ v = .bool r ∧ Chg Non w w' := by
  unfold spec_l05Ins at h
  have hs := Sep.nil w Non
  have hM0 : Mem w Non (fun k => (False) ∧ k < w.heap.size) w Non (fun k => (False) ∧ k < w.heap.size) := Mem.start (fun _ h => h.elim) (fun _ h => h.2) (fun _ h => h.elim)
  refine enter (N := 123) Try.func104 rfl Try.ntmps104 rfl fun fr hF => ?_
  refine wp_seq (wp_text' ?_)
  refine q_box hs hM0 [.int .i64 p0.Op, .int .i64 p0.A, .int .i64 p0.B, .int .i64 p0.C] rfl rfl hF rfl rfl fun b1 w1 S1 fr hs hp hF => ?_
  have hM0 := hM0.stp hp
  have hs : Sep [BX b1 90 [.int .i64 p0.Op, .int .i64 p0.A, .int .i64 p0.B, .int .i64 p0.C]] w1 S1 := hs
  refine from_pure 1 [(1, .int .i64 p1), (2, .int .i64 p2), (3, .pointer (some ⟨b1, 0, none⟩))] hF (by kernel_rfl) fun fr hF => ?_
  refine from_end rfl (then_normal ?_)
  refine wp_seq (wp_text' ?_)
  refine from_pure 1 [(1, .int .i64 p1), (2, .int .i64 p2), (3, .pointer (some ⟨b1, 0, none⟩)), (8, .pointer (some ⟨b1, 2, none⟩))] hF (by kernel_rfl) fun fr hF => ?_
  refine s_loadBox (.int .i64 p0.B) ty3 rfl rfl hF rfl (hs.bx 0 rfl) rfl rfl fun fr hF => ?_
  refine from_pure 1 [(1, .int .i64 p1), (3, .pointer (some ⟨b1, 0, none⟩)), (9, .int .i64 p0.B), (10, .int .i64 p2)] hF (by kernel_rfl) fun fr hF => ?_
  obtain ⟨x1, hx1, h⟩ := bindE h
  refine s_call [.int .i64 p0.B, .int .i64 0, .int .i64 p2] Try.call58 rfl rfl hF rfl (spec_l01In_ok p0.B 0 p2 hx1) fun v w2 fr hRes hF => ?_
  obtain ⟨rfl, hc⟩ := hRes
  have hs := hs.ext hc
  have hM0 := hM0.ext hc
  refine from_pure 1 [(1, .int .i64 p1), (3, .pointer (some ⟨b1, 0, none⟩)), (7, .bool x1)] hF (by kernel_rfl) fun fr hF => ?_
  refine from_end rfl (then_normal ?_)
  refine wp_seq ?_
  refine wp_seq (wp_text' ?_)
  refine from_pure 1 [(1, .int .i64 p1), (3, .pointer (some ⟨b1, 0, none⟩)), (7, .bool x1), (12, .pointer (some ⟨b1, 0, none⟩))] hF (by kernel_rfl) fun fr hF => ?_
  refine s_loadBox (.int .i64 p0.Op) ty3 rfl rfl hF rfl (hs.bx 0 rfl) rfl rfl fun fr hF => ?_
  refine from_end rfl (then_normal ?_)
  refine (wp_block ?_)
  refine wp_seq (wp_pure [(1, .int .i64 p1), (3, .pointer (some ⟨b1, 0, none⟩)), (7, .bool x1), (13, .int .i64 p0.Op), (14, .bool (p0.Op == 1))] hF (by kernel_rfl) fun fr hF => then_normal ?_)
  refine (wp_if hF (b := (p0.Op == 1)) rfl (fun hb => ?_) (fun hb => ?_))
  · replace h := iteT hb h
    obtain ⟨x2, hx2, h⟩ := bindE h
    obtain ⟨x3, hx3, h⟩ := bindE h
    refine wp_seq (region_b [] [true, false, false, true, true, true, false, false, true, true, true, false, true, true, true]
        [.eq (.pointer (some ⟨b1, 1, none⟩)), .eq (.int .i64 p0.A), .eq (.bool x2), .eq (.bool x2), .eq (.int .i64 p1), .eq (.pointer (some ⟨b1, 2, none⟩)), .eq (.int .i64 p0.B), .eq (.bool x3), .eq (.bool (x2 && x3)), .eq (.bool (x2 && x3)), .eq (.pointer (some ⟨b1, 3, none⟩)), .eq (.int .i64 p0.C), .eq (.bool (p0.C == 0)), .eq (.bool ((x2 && x3) && (p0.C == 0))), .eq (.bool ((x2 && x3) && (p0.C == 0)))]
        [(6, .bool ((x2 && x3) && (p0.C == 0)))] mix hF (by kernel_rfl) (by kernel_rfl) (by kernel_rfl) ⟨Pd.mono_eq, Pd.mono_eq, Pd.mono_eq, Pd.mono_eq, Pd.mono_eq, trivial⟩ (fun hG => ⟨np_loadBox hG hF ty3 rfl rfl (hs.bx 0 rfl) rfl rfl rfl, np_call [.int .i64 p0.A] hG hF Try.call136 rfl rfl (fun w hC hg => (spec_l05Reg_ok p0.A hx2).mono fun e w' ⟨v, he, hv, hc⟩ => ⟨v, he, hc, hv⟩), np_loadBox hG hF ty3 rfl rfl (hs.bx 0 rfl) rfl rfl rfl, np_call [.int .i64 p1, .int .i64 p0.B] hG hF Try.call103 rfl rfl (fun w hC hg => (spec_WordOk_ok p1 p0.B (iteT hg.2 hx3)).mono fun e w' ⟨v, he, hv, hc⟩ => ⟨v, he, hc, hv⟩), np_loadBox hG hF ty3 rfl rfl (hs.bx 0 rfl) rfl rfl rfl, trivial⟩) (by kernel_rfl) fun fr w3 hF hE hc => then_normal ?_)
    have hs := hs.ext hc
    have hM0 := hM0.ext hc
    have hs : Sep [] w3 S1 := Sep.pick [] hs (by decide) rfl
    obtain rfl := Option.some.inj h
    exact wp_ret (blk_ret (then_ret (ret1 rfl hF rfl ⟨_, rfl, rfl, hM0.chg⟩)))
  replace h := iteF hb h
  refine wp_seq ?_
  refine wp_seq (wp_pure [(3, .pointer (some ⟨b1, 0, none⟩)), (7, .bool x1), (13, .int .i64 p0.Op), (30, .bool (p0.Op == 2))] hF (by kernel_rfl) fun fr hF => then_normal ?_)
  refine (wp_if hF (b := (p0.Op == 2)) rfl (fun hb => ?_) (fun hb => ?_))
  · replace h := iteT hb h
    refine (wp_skip (then_normal ?_))
    refine (wp_if hF (b := (p0.Op == 2)) rfl (fun hb => ?_) (fun hb => ?_))
    · replace h := iteT hb h
      obtain ⟨x4, hx4, h⟩ := bindE h
      obtain ⟨x5, hx5, h⟩ := bindE h
      refine wp_seq (region_b [] [true, false, false, true, true, false, false, true, true, true, false, true, true, true]
          [.eq (.pointer (some ⟨b1, 1, none⟩)), .eq (.int .i64 p0.A), .eq (.bool x4), .eq (.bool x4), .eq (.pointer (some ⟨b1, 2, none⟩)), .eq (.int .i64 p0.B), .eq (.bool x5), .eq (.bool (x4 && x5)), .eq (.bool (x4 && x5)), .eq (.pointer (some ⟨b1, 3, none⟩)), .eq (.int .i64 p0.C), .eq (.bool (p0.C == 0)), .eq (.bool ((x4 && x5) && (p0.C == 0))), .eq (.bool ((x4 && x5) && (p0.C == 0)))]
          [(6, .bool ((x4 && x5) && (p0.C == 0)))] mix hF (by kernel_rfl) (by kernel_rfl) (by kernel_rfl) ⟨Pd.mono_eq, Pd.mono_eq, Pd.mono_eq, Pd.mono_eq, Pd.mono_eq, trivial⟩ (fun hG => ⟨np_loadBox hG hF ty3 rfl rfl (hs.bx 0 rfl) rfl rfl rfl, np_call [.int .i64 p0.A] hG hF Try.call136 rfl rfl (fun w hC hg => (spec_l05Reg_ok p0.A hx4).mono fun e w' ⟨v, he, hv, hc⟩ => ⟨v, he, hc, hv⟩), np_loadBox hG hF ty3 rfl rfl (hs.bx 0 rfl) rfl rfl rfl, np_call [.int .i64 p0.B] hG hF Try.call136 rfl rfl (fun w hC hg => (spec_l05Reg_ok p0.B (iteT hg.2 hx5)).mono fun e w' ⟨v, he, hv, hc⟩ => ⟨v, he, hc, hv⟩), np_loadBox hG hF ty3 rfl rfl (hs.bx 0 rfl) rfl rfl rfl, trivial⟩) (by kernel_rfl) fun fr w4 hF hE hc => then_normal ?_)
      have hs := hs.ext hc
      have hM0 := hM0.ext hc
      have hs : Sep [] w4 S1 := Sep.pick [] hs (by decide) rfl
      obtain rfl := Option.some.inj h
      exact wp_ret (blk_ret (then_ret (ret1 rfl hF rfl ⟨_, rfl, rfl, hM0.chg⟩)))
    replace h := iteF hb h
    refine wp_seq (wp_pure [(3, .pointer (some ⟨b1, 0, none⟩)), (7, .bool x1), (13, .int .i64 p0.Op), (47, .bool (p0.Op == 3))] hF (by kernel_rfl) fun fr hF => then_normal ?_)
    refine (wp_if hF (b := (p0.Op == 3)) rfl (fun hb => ?_) (fun hb => ?_))
    · replace h := iteT hb h
      obtain ⟨x6, hx6, h⟩ := bindE h
      obtain ⟨x7, hx7, h⟩ := bindE h
      obtain ⟨x8, hx8, h⟩ := bindE h
      refine wp_seq (region_b [] [true, false, false, true, true, false, false, true, true, true, false, false, true, true]
          [.eq (.pointer (some ⟨b1, 1, none⟩)), .eq (.int .i64 p0.A), .eq (.bool x6), .eq (.bool x6), .eq (.pointer (some ⟨b1, 2, none⟩)), .eq (.int .i64 p0.B), .eq (.bool x7), .eq (.bool (x6 && x7)), .eq (.bool (x6 && x7)), .eq (.pointer (some ⟨b1, 3, none⟩)), .eq (.int .i64 p0.C), .eq (.bool x8), .eq (.bool ((x6 && x7) && x8)), .eq (.bool ((x6 && x7) && x8))]
          [(6, .bool ((x6 && x7) && x8))] mix hF (by kernel_rfl) (by kernel_rfl) (by kernel_rfl) ⟨Pd.mono_eq, Pd.mono_eq, Pd.mono_eq, Pd.mono_eq, Pd.mono_eq, Pd.mono_eq, trivial⟩ (fun hG => ⟨np_loadBox hG hF ty3 rfl rfl (hs.bx 0 rfl) rfl rfl rfl, np_call [.int .i64 p0.A] hG hF Try.call136 rfl rfl (fun w hC hg => (spec_l05Reg_ok p0.A hx6).mono fun e w' ⟨v, he, hv, hc⟩ => ⟨v, he, hc, hv⟩), np_loadBox hG hF ty3 rfl rfl (hs.bx 0 rfl) rfl rfl rfl, np_call [.int .i64 p0.B] hG hF Try.call136 rfl rfl (fun w hC hg => (spec_l05Reg_ok p0.B (iteT hg.2 hx7)).mono fun e w' ⟨v, he, hv, hc⟩ => ⟨v, he, hc, hv⟩), np_loadBox hG hF ty3 rfl rfl (hs.bx 0 rfl) rfl rfl rfl, np_call [.int .i64 p0.C, .int .i64 3, .int .i64 16] hG hF Try.call58 rfl rfl (fun w hC hg => (spec_l01In_ok p0.C 3 16 (iteT hg.2 hx8)).mono fun e w' ⟨v, he, hv, hc⟩ => ⟨v, he, hc, hv⟩), trivial⟩) (by kernel_rfl) fun fr w5 hF hE hc => then_normal ?_)
      have hs := hs.ext hc
      have hM0 := hM0.ext hc
      have hs : Sep [] w5 S1 := Sep.pick [] hs (by decide) rfl
      obtain rfl := Option.some.inj h
      exact wp_ret (blk_ret (then_ret (ret1 rfl hF rfl ⟨_, rfl, rfl, hM0.chg⟩)))
    replace h := iteF hb h
    refine wp_seq ?_
    refine wp_seq (wp_pure [(3, .pointer (some ⟨b1, 0, none⟩)), (7, .bool x1), (13, .int .i64 p0.Op), (62, .bool (p0.Op == 4))] hF (by kernel_rfl) fun fr hF => then_normal ?_)
    refine (wp_if hF (b := (p0.Op == 4)) rfl (fun hb => ?_) (fun hb => ?_))
    · replace h := iteT hb h
      refine (wp_skip (then_normal ?_))
      refine (wp_if hF (b := (p0.Op == 4)) rfl (fun hb => ?_) (fun hb => ?_))
      · replace h := iteT hb h
        obtain ⟨x9, hx9, h⟩ := bindE h
        refine wp_seq (region_b [] [true, false, false, true, true, false, true, true, true, true, false, true, true, true]
            [.eq (.pointer (some ⟨b1, 1, none⟩)), .eq (.int .i64 p0.A), .eq (.bool x9), .eq (.bool x9), .eq (.pointer (some ⟨b1, 2, none⟩)), .eq (.int .i64 p0.B), .eq (.bool (p0.B == 0)), .eq (.bool (x9 && (p0.B == 0))), .eq (.bool (x9 && (p0.B == 0))), .eq (.pointer (some ⟨b1, 3, none⟩)), .eq (.int .i64 p0.C), .eq (.bool (p0.C == 0)), .eq (.bool ((x9 && (p0.B == 0)) && (p0.C == 0))), .eq (.bool ((x9 && (p0.B == 0)) && (p0.C == 0)))]
            [(6, .bool ((x9 && (p0.B == 0)) && (p0.C == 0)))] mix hF (by kernel_rfl) (by kernel_rfl) (by kernel_rfl) ⟨Pd.mono_eq, Pd.mono_eq, Pd.mono_eq, Pd.mono_eq, trivial⟩ (fun hG => ⟨np_loadBox hG hF ty3 rfl rfl (hs.bx 0 rfl) rfl rfl rfl, np_call [.int .i64 p0.A] hG hF Try.call136 rfl rfl (fun w hC hg => (spec_l05Reg_ok p0.A hx9).mono fun e w' ⟨v, he, hv, hc⟩ => ⟨v, he, hc, hv⟩), np_loadBox hG hF ty3 rfl rfl (hs.bx 0 rfl) rfl rfl rfl, np_loadBox hG hF ty3 rfl rfl (hs.bx 0 rfl) rfl rfl rfl, trivial⟩) (by kernel_rfl) fun fr w6 hF hE hc => then_normal ?_)
        have hs := hs.ext hc
        have hM0 := hM0.ext hc
        have hs : Sep [] w6 S1 := Sep.pick [] hs (by decide) rfl
        obtain rfl := Option.some.inj h
        exact wp_ret (blk_ret (then_ret (ret1 rfl hF rfl ⟨_, rfl, rfl, hM0.chg⟩)))
      replace h := iteF hb h
      refine wp_seq ?_
      refine wp_seq (wp_pure [(3, .pointer (some ⟨b1, 0, none⟩)), (7, .bool x1), (13, .int .i64 p0.Op), (80, .bool (p0.Op == 9))] hF (by kernel_rfl) fun fr hF => then_normal ?_)
      refine (wp_merge [(3, .pointer (some ⟨b1, 0, none⟩)), (7, .bool x1), (13, .int .i64 p0.Op), (80, .bool ((p0.Op == 9) || (p0.Op == 11)))] hF (b := (p0.Op == 9)) rfl (fun hb => ?_) (fun hb => ?_) fun fr hF => then_normal ?_)
      · exact wp_skip ⟨rfl, rfl, (hF.sub [(3, .pointer (some ⟨b1, 0, none⟩)), (7, .bool x1), (13, .int .i64 p0.Op), (80, .bool (p0.Op == 9))] (by kernel_rfl)).eqs (by first | (simp only [hb]; done) | (simp only [hb]; rfl))⟩
      · exact wp_pure [(3, .pointer (some ⟨b1, 0, none⟩)), (7, .bool x1), (13, .int .i64 p0.Op), (80, .bool (p0.Op == 11))] hF (by kernel_rfl) fun fr hF => ⟨rfl, rfl, hF.eqs (by first | (simp only [hb]; done) | (simp only [hb]; rfl))⟩
      refine (wp_if hF (b := ((p0.Op == 9) || (p0.Op == 11))) rfl (fun hb => ?_) (fun hb => ?_))
      · replace h := iteT hb h
        refine wp_seq (region_b [] [true, false, true, true, true, true, true, true, false, true, true, true]
            [.eq (.pointer (some ⟨b1, 1, none⟩)), .eq (.int .i64 p0.A), .eq (.bool (p0.A == 0)), .eq (.bool (p0.A == 0)), .eq (.bool x1), .eq (.bool ((p0.A == 0) && x1)), .eq (.bool ((p0.A == 0) && x1)), .eq (.pointer (some ⟨b1, 3, none⟩)), .eq (.int .i64 p0.C), .eq (.bool (p0.C == 0)), .eq (.bool (((p0.A == 0) && x1) && (p0.C == 0))), .eq (.bool (((p0.A == 0) && x1) && (p0.C == 0)))]
            [(6, .bool (((p0.A == 0) && x1) && (p0.C == 0)))] mix hF (by kernel_rfl) (by kernel_rfl) (by kernel_rfl) ⟨Pd.mono_eq, Pd.mono_eq, trivial⟩ (fun hG => ⟨np_loadBox hG hF ty3 rfl rfl (hs.bx 0 rfl) rfl rfl rfl, np_loadBox hG hF ty3 rfl rfl (hs.bx 0 rfl) rfl rfl rfl, trivial⟩) (by kernel_rfl) fun fr w7 hF hE hc => then_normal ?_)
        have hs := hs.ext hc
        have hM0 := hM0.ext hc
        have hs : Sep [] w7 S1 := Sep.pick [] hs (by decide) rfl
        obtain rfl := Option.some.inj h
        exact wp_ret (blk_ret (then_ret (ret1 rfl hF rfl ⟨_, rfl, rfl, hM0.chg⟩)))
      replace h := iteF hb h
      refine wp_seq (wp_pure [(3, .pointer (some ⟨b1, 0, none⟩)), (7, .bool x1), (13, .int .i64 p0.Op), (94, .bool (p0.Op == 10))] hF (by kernel_rfl) fun fr hF => then_normal ?_)
      refine (wp_if hF (b := (p0.Op == 10)) rfl (fun hb => ?_) (fun hb => ?_))
      · replace h := iteT hb h
        obtain ⟨x10, hx10, h⟩ := bindE h
        refine wp_seq (region_b [] [true, false, false, true, true, true, true, true, false, true, true, true]
            [.eq (.pointer (some ⟨b1, 1, none⟩)), .eq (.int .i64 p0.A), .eq (.bool x10), .eq (.bool x10), .eq (.bool x1), .eq (.bool (x10 && x1)), .eq (.bool (x10 && x1)), .eq (.pointer (some ⟨b1, 3, none⟩)), .eq (.int .i64 p0.C), .eq (.bool (p0.C == 0)), .eq (.bool ((x10 && x1) && (p0.C == 0))), .eq (.bool ((x10 && x1) && (p0.C == 0)))]
            [(6, .bool ((x10 && x1) && (p0.C == 0)))] mix hF (by kernel_rfl) (by kernel_rfl) (by kernel_rfl) ⟨Pd.mono_eq, Pd.mono_eq, Pd.mono_eq, trivial⟩ (fun hG => ⟨np_loadBox hG hF ty3 rfl rfl (hs.bx 0 rfl) rfl rfl rfl, np_call [.int .i64 p0.A] hG hF Try.call136 rfl rfl (fun w hC hg => (spec_l05Reg_ok p0.A hx10).mono fun e w' ⟨v, he, hv, hc⟩ => ⟨v, he, hc, hv⟩), np_loadBox hG hF ty3 rfl rfl (hs.bx 0 rfl) rfl rfl rfl, trivial⟩) (by kernel_rfl) fun fr w8 hF hE hc => then_normal ?_)
        have hs := hs.ext hc
        have hM0 := hM0.ext hc
        have hs : Sep [] w8 S1 := Sep.pick [] hs (by decide) rfl
        obtain rfl := Option.some.inj h
        exact wp_ret (blk_ret (then_ret (ret1 rfl hF rfl ⟨_, rfl, rfl, hM0.chg⟩)))
      replace h := iteF hb h
      refine wp_seq ?_
      refine wp_seq (wp_pure [(3, .pointer (some ⟨b1, 0, none⟩)), (13, .int .i64 p0.Op), (107, .bool (p0.Op == 12))] hF (by kernel_rfl) fun fr hF => then_normal ?_)
      refine (wp_merge [(3, .pointer (some ⟨b1, 0, none⟩)), (107, .bool ((p0.Op == 12) || (p0.Op == 14)))] hF (b := (p0.Op == 12)) rfl (fun hb => ?_) (fun hb => ?_) fun fr hF => then_normal ?_)
      · exact wp_skip ⟨rfl, rfl, (hF.sub [(3, .pointer (some ⟨b1, 0, none⟩)), (107, .bool (p0.Op == 12))] (by kernel_rfl)).eqs (by first | (simp only [hb]; done) | (simp only [hb]; rfl))⟩
      · exact wp_pure [(3, .pointer (some ⟨b1, 0, none⟩)), (107, .bool (p0.Op == 14))] hF (by kernel_rfl) fun fr hF => ⟨rfl, rfl, hF.eqs (by first | (simp only [hb]; done) | (simp only [hb]; rfl))⟩
      refine (wp_if hF (b := ((p0.Op == 12) || (p0.Op == 14))) rfl (fun hb => ?_) (fun hb => ?_))
      · replace h := iteT hb h
        refine wp_seq (region_b [] [true, false, true, true, true, false, true, true, true, true, false, true, true, true]
            [.eq (.pointer (some ⟨b1, 1, none⟩)), .eq (.int .i64 p0.A), .eq (.bool (p0.A == 0)), .eq (.bool (p0.A == 0)), .eq (.pointer (some ⟨b1, 2, none⟩)), .eq (.int .i64 p0.B), .eq (.bool (p0.B == 0)), .eq (.bool ((p0.A == 0) && (p0.B == 0))), .eq (.bool ((p0.A == 0) && (p0.B == 0))), .eq (.pointer (some ⟨b1, 3, none⟩)), .eq (.int .i64 p0.C), .eq (.bool (p0.C == 0)), .eq (.bool (((p0.A == 0) && (p0.B == 0)) && (p0.C == 0))), .eq (.bool (((p0.A == 0) && (p0.B == 0)) && (p0.C == 0)))]
            [(6, .bool (((p0.A == 0) && (p0.B == 0)) && (p0.C == 0)))] mix hF (by kernel_rfl) (by kernel_rfl) (by kernel_rfl) ⟨Pd.mono_eq, Pd.mono_eq, Pd.mono_eq, trivial⟩ (fun hG => ⟨np_loadBox hG hF ty3 rfl rfl (hs.bx 0 rfl) rfl rfl rfl, np_loadBox hG hF ty3 rfl rfl (hs.bx 0 rfl) rfl rfl rfl, np_loadBox hG hF ty3 rfl rfl (hs.bx 0 rfl) rfl rfl rfl, trivial⟩) (by kernel_rfl) fun fr w9 hF hE hc => then_normal ?_)
        have hs := hs.ext hc
        have hM0 := hM0.ext hc
        have hs : Sep [] w9 S1 := Sep.pick [] hs (by decide) rfl
        obtain rfl := Option.some.inj h
        exact wp_ret (blk_ret (then_ret (ret1 rfl hF rfl ⟨_, rfl, rfl, hM0.chg⟩)))
      replace h := iteF hb h
      have hs : Sep [] w2 S1 := Sep.pick [] hs (by decide) rfl
      refine (wp_skip ?_)
      refine blk_normal (then_normal ?_)
      refine wp_seq (wp_pure [(6, .bool false)] hF (by kernel_rfl) fun fr hF => then_normal ?_)
      obtain rfl := Option.some.inj h
      exact wp_ret (ret1 rfl hF rfl ⟨_, rfl, rfl, hM0.chg⟩)
    replace h := iteF hb h
    refine wp_seq (wp_pure [(3, .pointer (some ⟨b1, 0, none⟩)), (7, .bool x1), (13, .int .i64 p0.Op), (62, .bool (p0.Op == 5))] hF (by kernel_rfl) fun fr hF => then_normal ?_)
    refine (wp_if hF (b := (p0.Op == 5)) rfl (fun hb => ?_) (fun hb => ?_))
    · replace h := iteT hb h
      refine (wp_skip (then_normal ?_))
      refine (wp_if hF (b := (p0.Op == 5)) rfl (fun hb => ?_) (fun hb => ?_))
      · replace h := iteT hb h
        obtain ⟨x11, hx11, h⟩ := bindE h
        refine wp_seq (region_b [] [true, false, false, true, true, false, true, true, true, true, false, true, true, true]
            [.eq (.pointer (some ⟨b1, 1, none⟩)), .eq (.int .i64 p0.A), .eq (.bool x11), .eq (.bool x11), .eq (.pointer (some ⟨b1, 2, none⟩)), .eq (.int .i64 p0.B), .eq (.bool (p0.B == 0)), .eq (.bool (x11 && (p0.B == 0))), .eq (.bool (x11 && (p0.B == 0))), .eq (.pointer (some ⟨b1, 3, none⟩)), .eq (.int .i64 p0.C), .eq (.bool (p0.C == 0)), .eq (.bool ((x11 && (p0.B == 0)) && (p0.C == 0))), .eq (.bool ((x11 && (p0.B == 0)) && (p0.C == 0)))]
            [(6, .bool ((x11 && (p0.B == 0)) && (p0.C == 0)))] mix hF (by kernel_rfl) (by kernel_rfl) (by kernel_rfl) ⟨Pd.mono_eq, Pd.mono_eq, Pd.mono_eq, Pd.mono_eq, trivial⟩ (fun hG => ⟨np_loadBox hG hF ty3 rfl rfl (hs.bx 0 rfl) rfl rfl rfl, np_call [.int .i64 p0.A] hG hF Try.call136 rfl rfl (fun w hC hg => (spec_l05Reg_ok p0.A hx11).mono fun e w' ⟨v, he, hv, hc⟩ => ⟨v, he, hc, hv⟩), np_loadBox hG hF ty3 rfl rfl (hs.bx 0 rfl) rfl rfl rfl, np_loadBox hG hF ty3 rfl rfl (hs.bx 0 rfl) rfl rfl rfl, trivial⟩) (by kernel_rfl) fun fr w10 hF hE hc => then_normal ?_)
        have hs := hs.ext hc
        have hM0 := hM0.ext hc
        have hs : Sep [] w10 S1 := Sep.pick [] hs (by decide) rfl
        obtain rfl := Option.some.inj h
        exact wp_ret (blk_ret (then_ret (ret1 rfl hF rfl ⟨_, rfl, rfl, hM0.chg⟩)))
      replace h := iteF hb h
      refine wp_seq ?_
      refine wp_seq (wp_pure [(3, .pointer (some ⟨b1, 0, none⟩)), (7, .bool x1), (13, .int .i64 p0.Op), (80, .bool (p0.Op == 9))] hF (by kernel_rfl) fun fr hF => then_normal ?_)
      refine (wp_merge [(3, .pointer (some ⟨b1, 0, none⟩)), (7, .bool x1), (13, .int .i64 p0.Op), (80, .bool ((p0.Op == 9) || (p0.Op == 11)))] hF (b := (p0.Op == 9)) rfl (fun hb => ?_) (fun hb => ?_) fun fr hF => then_normal ?_)
      · exact wp_skip ⟨rfl, rfl, (hF.sub [(3, .pointer (some ⟨b1, 0, none⟩)), (7, .bool x1), (13, .int .i64 p0.Op), (80, .bool (p0.Op == 9))] (by kernel_rfl)).eqs (by first | (simp only [hb]; done) | (simp only [hb]; rfl))⟩
      · exact wp_pure [(3, .pointer (some ⟨b1, 0, none⟩)), (7, .bool x1), (13, .int .i64 p0.Op), (80, .bool (p0.Op == 11))] hF (by kernel_rfl) fun fr hF => ⟨rfl, rfl, hF.eqs (by first | (simp only [hb]; done) | (simp only [hb]; rfl))⟩
      refine (wp_if hF (b := ((p0.Op == 9) || (p0.Op == 11))) rfl (fun hb => ?_) (fun hb => ?_))
      · replace h := iteT hb h
        refine wp_seq (region_b [] [true, false, true, true, true, true, true, true, false, true, true, true]
            [.eq (.pointer (some ⟨b1, 1, none⟩)), .eq (.int .i64 p0.A), .eq (.bool (p0.A == 0)), .eq (.bool (p0.A == 0)), .eq (.bool x1), .eq (.bool ((p0.A == 0) && x1)), .eq (.bool ((p0.A == 0) && x1)), .eq (.pointer (some ⟨b1, 3, none⟩)), .eq (.int .i64 p0.C), .eq (.bool (p0.C == 0)), .eq (.bool (((p0.A == 0) && x1) && (p0.C == 0))), .eq (.bool (((p0.A == 0) && x1) && (p0.C == 0)))]
            [(6, .bool (((p0.A == 0) && x1) && (p0.C == 0)))] mix hF (by kernel_rfl) (by kernel_rfl) (by kernel_rfl) ⟨Pd.mono_eq, Pd.mono_eq, trivial⟩ (fun hG => ⟨np_loadBox hG hF ty3 rfl rfl (hs.bx 0 rfl) rfl rfl rfl, np_loadBox hG hF ty3 rfl rfl (hs.bx 0 rfl) rfl rfl rfl, trivial⟩) (by kernel_rfl) fun fr w11 hF hE hc => then_normal ?_)
        have hs := hs.ext hc
        have hM0 := hM0.ext hc
        have hs : Sep [] w11 S1 := Sep.pick [] hs (by decide) rfl
        obtain rfl := Option.some.inj h
        exact wp_ret (blk_ret (then_ret (ret1 rfl hF rfl ⟨_, rfl, rfl, hM0.chg⟩)))
      replace h := iteF hb h
      refine wp_seq (wp_pure [(3, .pointer (some ⟨b1, 0, none⟩)), (7, .bool x1), (13, .int .i64 p0.Op), (94, .bool (p0.Op == 10))] hF (by kernel_rfl) fun fr hF => then_normal ?_)
      refine (wp_if hF (b := (p0.Op == 10)) rfl (fun hb => ?_) (fun hb => ?_))
      · replace h := iteT hb h
        obtain ⟨x12, hx12, h⟩ := bindE h
        refine wp_seq (region_b [] [true, false, false, true, true, true, true, true, false, true, true, true]
            [.eq (.pointer (some ⟨b1, 1, none⟩)), .eq (.int .i64 p0.A), .eq (.bool x12), .eq (.bool x12), .eq (.bool x1), .eq (.bool (x12 && x1)), .eq (.bool (x12 && x1)), .eq (.pointer (some ⟨b1, 3, none⟩)), .eq (.int .i64 p0.C), .eq (.bool (p0.C == 0)), .eq (.bool ((x12 && x1) && (p0.C == 0))), .eq (.bool ((x12 && x1) && (p0.C == 0)))]
            [(6, .bool ((x12 && x1) && (p0.C == 0)))] mix hF (by kernel_rfl) (by kernel_rfl) (by kernel_rfl) ⟨Pd.mono_eq, Pd.mono_eq, Pd.mono_eq, trivial⟩ (fun hG => ⟨np_loadBox hG hF ty3 rfl rfl (hs.bx 0 rfl) rfl rfl rfl, np_call [.int .i64 p0.A] hG hF Try.call136 rfl rfl (fun w hC hg => (spec_l05Reg_ok p0.A hx12).mono fun e w' ⟨v, he, hv, hc⟩ => ⟨v, he, hc, hv⟩), np_loadBox hG hF ty3 rfl rfl (hs.bx 0 rfl) rfl rfl rfl, trivial⟩) (by kernel_rfl) fun fr w12 hF hE hc => then_normal ?_)
        have hs := hs.ext hc
        have hM0 := hM0.ext hc
        have hs : Sep [] w12 S1 := Sep.pick [] hs (by decide) rfl
        obtain rfl := Option.some.inj h
        exact wp_ret (blk_ret (then_ret (ret1 rfl hF rfl ⟨_, rfl, rfl, hM0.chg⟩)))
      replace h := iteF hb h
      refine wp_seq ?_
      refine wp_seq (wp_pure [(3, .pointer (some ⟨b1, 0, none⟩)), (13, .int .i64 p0.Op), (107, .bool (p0.Op == 12))] hF (by kernel_rfl) fun fr hF => then_normal ?_)
      refine (wp_merge [(3, .pointer (some ⟨b1, 0, none⟩)), (107, .bool ((p0.Op == 12) || (p0.Op == 14)))] hF (b := (p0.Op == 12)) rfl (fun hb => ?_) (fun hb => ?_) fun fr hF => then_normal ?_)
      · exact wp_skip ⟨rfl, rfl, (hF.sub [(3, .pointer (some ⟨b1, 0, none⟩)), (107, .bool (p0.Op == 12))] (by kernel_rfl)).eqs (by first | (simp only [hb]; done) | (simp only [hb]; rfl))⟩
      · exact wp_pure [(3, .pointer (some ⟨b1, 0, none⟩)), (107, .bool (p0.Op == 14))] hF (by kernel_rfl) fun fr hF => ⟨rfl, rfl, hF.eqs (by first | (simp only [hb]; done) | (simp only [hb]; rfl))⟩
      refine (wp_if hF (b := ((p0.Op == 12) || (p0.Op == 14))) rfl (fun hb => ?_) (fun hb => ?_))
      · replace h := iteT hb h
        refine wp_seq (region_b [] [true, false, true, true, true, false, true, true, true, true, false, true, true, true]
            [.eq (.pointer (some ⟨b1, 1, none⟩)), .eq (.int .i64 p0.A), .eq (.bool (p0.A == 0)), .eq (.bool (p0.A == 0)), .eq (.pointer (some ⟨b1, 2, none⟩)), .eq (.int .i64 p0.B), .eq (.bool (p0.B == 0)), .eq (.bool ((p0.A == 0) && (p0.B == 0))), .eq (.bool ((p0.A == 0) && (p0.B == 0))), .eq (.pointer (some ⟨b1, 3, none⟩)), .eq (.int .i64 p0.C), .eq (.bool (p0.C == 0)), .eq (.bool (((p0.A == 0) && (p0.B == 0)) && (p0.C == 0))), .eq (.bool (((p0.A == 0) && (p0.B == 0)) && (p0.C == 0)))]
            [(6, .bool (((p0.A == 0) && (p0.B == 0)) && (p0.C == 0)))] mix hF (by kernel_rfl) (by kernel_rfl) (by kernel_rfl) ⟨Pd.mono_eq, Pd.mono_eq, Pd.mono_eq, trivial⟩ (fun hG => ⟨np_loadBox hG hF ty3 rfl rfl (hs.bx 0 rfl) rfl rfl rfl, np_loadBox hG hF ty3 rfl rfl (hs.bx 0 rfl) rfl rfl rfl, np_loadBox hG hF ty3 rfl rfl (hs.bx 0 rfl) rfl rfl rfl, trivial⟩) (by kernel_rfl) fun fr w13 hF hE hc => then_normal ?_)
        have hs := hs.ext hc
        have hM0 := hM0.ext hc
        have hs : Sep [] w13 S1 := Sep.pick [] hs (by decide) rfl
        obtain rfl := Option.some.inj h
        exact wp_ret (blk_ret (then_ret (ret1 rfl hF rfl ⟨_, rfl, rfl, hM0.chg⟩)))
      replace h := iteF hb h
      have hs : Sep [] w2 S1 := Sep.pick [] hs (by decide) rfl
      refine (wp_skip ?_)
      refine blk_normal (then_normal ?_)
      refine wp_seq (wp_pure [(6, .bool false)] hF (by kernel_rfl) fun fr hF => then_normal ?_)
      obtain rfl := Option.some.inj h
      exact wp_ret (ret1 rfl hF rfl ⟨_, rfl, rfl, hM0.chg⟩)
    replace h := iteF hb h
    refine wp_seq (wp_pure [(3, .pointer (some ⟨b1, 0, none⟩)), (7, .bool x1), (13, .int .i64 p0.Op), (62, .bool (p0.Op == 6))] hF (by kernel_rfl) fun fr hF => then_normal ?_)
    refine (wp_merge [(3, .pointer (some ⟨b1, 0, none⟩)), (7, .bool x1), (13, .int .i64 p0.Op), (62, .bool ((p0.Op == 6) || (p0.Op == 13)))] hF (b := (p0.Op == 6)) rfl (fun hb => ?_) (fun hb => ?_) fun fr hF => then_normal ?_)
    · exact wp_skip ⟨rfl, rfl, (hF.sub [(3, .pointer (some ⟨b1, 0, none⟩)), (7, .bool x1), (13, .int .i64 p0.Op), (62, .bool (p0.Op == 6))] (by kernel_rfl)).eqs (by first | (simp only [hb]; done) | (simp only [hb]; rfl))⟩
    · exact wp_pure [(3, .pointer (some ⟨b1, 0, none⟩)), (7, .bool x1), (13, .int .i64 p0.Op), (62, .bool (p0.Op == 13))] hF (by kernel_rfl) fun fr hF => ⟨rfl, rfl, hF.eqs (by first | (simp only [hb]; done) | (simp only [hb]; rfl))⟩
    refine (wp_if hF (b := ((p0.Op == 6) || (p0.Op == 13))) rfl (fun hb => ?_) (fun hb => ?_))
    · replace h := iteT hb h
      obtain ⟨x13, hx13, h⟩ := bindE h
      refine wp_seq (region_b [] [true, false, false, true, true, false, true, true, true, true, false, true, true, true]
          [.eq (.pointer (some ⟨b1, 1, none⟩)), .eq (.int .i64 p0.A), .eq (.bool x13), .eq (.bool x13), .eq (.pointer (some ⟨b1, 2, none⟩)), .eq (.int .i64 p0.B), .eq (.bool (p0.B == 0)), .eq (.bool (x13 && (p0.B == 0))), .eq (.bool (x13 && (p0.B == 0))), .eq (.pointer (some ⟨b1, 3, none⟩)), .eq (.int .i64 p0.C), .eq (.bool (p0.C == 0)), .eq (.bool ((x13 && (p0.B == 0)) && (p0.C == 0))), .eq (.bool ((x13 && (p0.B == 0)) && (p0.C == 0)))]
          [(6, .bool ((x13 && (p0.B == 0)) && (p0.C == 0)))] mix hF (by kernel_rfl) (by kernel_rfl) (by kernel_rfl) ⟨Pd.mono_eq, Pd.mono_eq, Pd.mono_eq, Pd.mono_eq, trivial⟩ (fun hG => ⟨np_loadBox hG hF ty3 rfl rfl (hs.bx 0 rfl) rfl rfl rfl, np_call [.int .i64 p0.A] hG hF Try.call136 rfl rfl (fun w hC hg => (spec_l05Reg_ok p0.A hx13).mono fun e w' ⟨v, he, hv, hc⟩ => ⟨v, he, hc, hv⟩), np_loadBox hG hF ty3 rfl rfl (hs.bx 0 rfl) rfl rfl rfl, np_loadBox hG hF ty3 rfl rfl (hs.bx 0 rfl) rfl rfl rfl, trivial⟩) (by kernel_rfl) fun fr w14 hF hE hc => then_normal ?_)
      have hs := hs.ext hc
      have hM0 := hM0.ext hc
      have hs : Sep [] w14 S1 := Sep.pick [] hs (by decide) rfl
      obtain rfl := Option.some.inj h
      exact wp_ret (blk_ret (then_ret (ret1 rfl hF rfl ⟨_, rfl, rfl, hM0.chg⟩)))
    replace h := iteF hb h
    refine wp_seq ?_
    refine wp_seq (wp_pure [(3, .pointer (some ⟨b1, 0, none⟩)), (7, .bool x1), (13, .int .i64 p0.Op), (80, .bool (p0.Op == 9))] hF (by kernel_rfl) fun fr hF => then_normal ?_)
    refine (wp_merge [(3, .pointer (some ⟨b1, 0, none⟩)), (7, .bool x1), (13, .int .i64 p0.Op), (80, .bool ((p0.Op == 9) || (p0.Op == 11)))] hF (b := (p0.Op == 9)) rfl (fun hb => ?_) (fun hb => ?_) fun fr hF => then_normal ?_)
    · exact wp_skip ⟨rfl, rfl, (hF.sub [(3, .pointer (some ⟨b1, 0, none⟩)), (7, .bool x1), (13, .int .i64 p0.Op), (80, .bool (p0.Op == 9))] (by kernel_rfl)).eqs (by first | (simp only [hb]; done) | (simp only [hb]; rfl))⟩
    · exact wp_pure [(3, .pointer (some ⟨b1, 0, none⟩)), (7, .bool x1), (13, .int .i64 p0.Op), (80, .bool (p0.Op == 11))] hF (by kernel_rfl) fun fr hF => ⟨rfl, rfl, hF.eqs (by first | (simp only [hb]; done) | (simp only [hb]; rfl))⟩
    refine (wp_if hF (b := ((p0.Op == 9) || (p0.Op == 11))) rfl (fun hb => ?_) (fun hb => ?_))
    · replace h := iteT hb h
      refine wp_seq (region_b [] [true, false, true, true, true, true, true, true, false, true, true, true]
          [.eq (.pointer (some ⟨b1, 1, none⟩)), .eq (.int .i64 p0.A), .eq (.bool (p0.A == 0)), .eq (.bool (p0.A == 0)), .eq (.bool x1), .eq (.bool ((p0.A == 0) && x1)), .eq (.bool ((p0.A == 0) && x1)), .eq (.pointer (some ⟨b1, 3, none⟩)), .eq (.int .i64 p0.C), .eq (.bool (p0.C == 0)), .eq (.bool (((p0.A == 0) && x1) && (p0.C == 0))), .eq (.bool (((p0.A == 0) && x1) && (p0.C == 0)))]
          [(6, .bool (((p0.A == 0) && x1) && (p0.C == 0)))] mix hF (by kernel_rfl) (by kernel_rfl) (by kernel_rfl) ⟨Pd.mono_eq, Pd.mono_eq, trivial⟩ (fun hG => ⟨np_loadBox hG hF ty3 rfl rfl (hs.bx 0 rfl) rfl rfl rfl, np_loadBox hG hF ty3 rfl rfl (hs.bx 0 rfl) rfl rfl rfl, trivial⟩) (by kernel_rfl) fun fr w15 hF hE hc => then_normal ?_)
      have hs := hs.ext hc
      have hM0 := hM0.ext hc
      have hs : Sep [] w15 S1 := Sep.pick [] hs (by decide) rfl
      obtain rfl := Option.some.inj h
      exact wp_ret (blk_ret (then_ret (ret1 rfl hF rfl ⟨_, rfl, rfl, hM0.chg⟩)))
    replace h := iteF hb h
    refine wp_seq (wp_pure [(3, .pointer (some ⟨b1, 0, none⟩)), (7, .bool x1), (13, .int .i64 p0.Op), (94, .bool (p0.Op == 10))] hF (by kernel_rfl) fun fr hF => then_normal ?_)
    refine (wp_if hF (b := (p0.Op == 10)) rfl (fun hb => ?_) (fun hb => ?_))
    · replace h := iteT hb h
      obtain ⟨x14, hx14, h⟩ := bindE h
      refine wp_seq (region_b [] [true, false, false, true, true, true, true, true, false, true, true, true]
          [.eq (.pointer (some ⟨b1, 1, none⟩)), .eq (.int .i64 p0.A), .eq (.bool x14), .eq (.bool x14), .eq (.bool x1), .eq (.bool (x14 && x1)), .eq (.bool (x14 && x1)), .eq (.pointer (some ⟨b1, 3, none⟩)), .eq (.int .i64 p0.C), .eq (.bool (p0.C == 0)), .eq (.bool ((x14 && x1) && (p0.C == 0))), .eq (.bool ((x14 && x1) && (p0.C == 0)))]
          [(6, .bool ((x14 && x1) && (p0.C == 0)))] mix hF (by kernel_rfl) (by kernel_rfl) (by kernel_rfl) ⟨Pd.mono_eq, Pd.mono_eq, Pd.mono_eq, trivial⟩ (fun hG => ⟨np_loadBox hG hF ty3 rfl rfl (hs.bx 0 rfl) rfl rfl rfl, np_call [.int .i64 p0.A] hG hF Try.call136 rfl rfl (fun w hC hg => (spec_l05Reg_ok p0.A hx14).mono fun e w' ⟨v, he, hv, hc⟩ => ⟨v, he, hc, hv⟩), np_loadBox hG hF ty3 rfl rfl (hs.bx 0 rfl) rfl rfl rfl, trivial⟩) (by kernel_rfl) fun fr w16 hF hE hc => then_normal ?_)
      have hs := hs.ext hc
      have hM0 := hM0.ext hc
      have hs : Sep [] w16 S1 := Sep.pick [] hs (by decide) rfl
      obtain rfl := Option.some.inj h
      exact wp_ret (blk_ret (then_ret (ret1 rfl hF rfl ⟨_, rfl, rfl, hM0.chg⟩)))
    replace h := iteF hb h
    refine wp_seq ?_
    refine wp_seq (wp_pure [(3, .pointer (some ⟨b1, 0, none⟩)), (13, .int .i64 p0.Op), (107, .bool (p0.Op == 12))] hF (by kernel_rfl) fun fr hF => then_normal ?_)
    refine (wp_merge [(3, .pointer (some ⟨b1, 0, none⟩)), (107, .bool ((p0.Op == 12) || (p0.Op == 14)))] hF (b := (p0.Op == 12)) rfl (fun hb => ?_) (fun hb => ?_) fun fr hF => then_normal ?_)
    · exact wp_skip ⟨rfl, rfl, (hF.sub [(3, .pointer (some ⟨b1, 0, none⟩)), (107, .bool (p0.Op == 12))] (by kernel_rfl)).eqs (by first | (simp only [hb]; done) | (simp only [hb]; rfl))⟩
    · exact wp_pure [(3, .pointer (some ⟨b1, 0, none⟩)), (107, .bool (p0.Op == 14))] hF (by kernel_rfl) fun fr hF => ⟨rfl, rfl, hF.eqs (by first | (simp only [hb]; done) | (simp only [hb]; rfl))⟩
    refine (wp_if hF (b := ((p0.Op == 12) || (p0.Op == 14))) rfl (fun hb => ?_) (fun hb => ?_))
    · replace h := iteT hb h
      refine wp_seq (region_b [] [true, false, true, true, true, false, true, true, true, true, false, true, true, true]
          [.eq (.pointer (some ⟨b1, 1, none⟩)), .eq (.int .i64 p0.A), .eq (.bool (p0.A == 0)), .eq (.bool (p0.A == 0)), .eq (.pointer (some ⟨b1, 2, none⟩)), .eq (.int .i64 p0.B), .eq (.bool (p0.B == 0)), .eq (.bool ((p0.A == 0) && (p0.B == 0))), .eq (.bool ((p0.A == 0) && (p0.B == 0))), .eq (.pointer (some ⟨b1, 3, none⟩)), .eq (.int .i64 p0.C), .eq (.bool (p0.C == 0)), .eq (.bool (((p0.A == 0) && (p0.B == 0)) && (p0.C == 0))), .eq (.bool (((p0.A == 0) && (p0.B == 0)) && (p0.C == 0)))]
          [(6, .bool (((p0.A == 0) && (p0.B == 0)) && (p0.C == 0)))] mix hF (by kernel_rfl) (by kernel_rfl) (by kernel_rfl) ⟨Pd.mono_eq, Pd.mono_eq, Pd.mono_eq, trivial⟩ (fun hG => ⟨np_loadBox hG hF ty3 rfl rfl (hs.bx 0 rfl) rfl rfl rfl, np_loadBox hG hF ty3 rfl rfl (hs.bx 0 rfl) rfl rfl rfl, np_loadBox hG hF ty3 rfl rfl (hs.bx 0 rfl) rfl rfl rfl, trivial⟩) (by kernel_rfl) fun fr w17 hF hE hc => then_normal ?_)
      have hs := hs.ext hc
      have hM0 := hM0.ext hc
      have hs : Sep [] w17 S1 := Sep.pick [] hs (by decide) rfl
      obtain rfl := Option.some.inj h
      exact wp_ret (blk_ret (then_ret (ret1 rfl hF rfl ⟨_, rfl, rfl, hM0.chg⟩)))
    replace h := iteF hb h
    have hs : Sep [] w2 S1 := Sep.pick [] hs (by decide) rfl
    refine (wp_skip ?_)
    refine blk_normal (then_normal ?_)
    refine wp_seq (wp_pure [(6, .bool false)] hF (by kernel_rfl) fun fr hF => then_normal ?_)
    obtain rfl := Option.some.inj h
    exact wp_ret (ret1 rfl hF rfl ⟨_, rfl, rfl, hM0.chg⟩)
  replace h := iteF hb h
  refine wp_seq (wp_pure [(3, .pointer (some ⟨b1, 0, none⟩)), (7, .bool x1), (13, .int .i64 p0.Op), (30, .bool (p0.Op == 7))] hF (by kernel_rfl) fun fr hF => then_normal ?_)
  refine (wp_merge [(3, .pointer (some ⟨b1, 0, none⟩)), (7, .bool x1), (13, .int .i64 p0.Op), (30, .bool ((p0.Op == 7) || (p0.Op == 8)))] hF (b := (p0.Op == 7)) rfl (fun hb => ?_) (fun hb => ?_) fun fr hF => then_normal ?_)
  · exact wp_skip ⟨rfl, rfl, (hF.sub [(3, .pointer (some ⟨b1, 0, none⟩)), (7, .bool x1), (13, .int .i64 p0.Op), (30, .bool (p0.Op == 7))] (by kernel_rfl)).eqs (by first | (simp only [hb]; done) | (simp only [hb]; rfl))⟩
  · exact wp_pure [(3, .pointer (some ⟨b1, 0, none⟩)), (7, .bool x1), (13, .int .i64 p0.Op), (30, .bool (p0.Op == 8))] hF (by kernel_rfl) fun fr hF => ⟨rfl, rfl, hF.eqs (by first | (simp only [hb]; done) | (simp only [hb]; rfl))⟩
  refine (wp_if hF (b := ((p0.Op == 7) || (p0.Op == 8))) rfl (fun hb => ?_) (fun hb => ?_))
  · replace h := iteT hb h
    obtain ⟨x15, hx15, h⟩ := bindE h
    obtain ⟨x16, hx16, h⟩ := bindE h
    refine wp_seq (region_b [] [true, false, false, true, true, false, false, true, true, true, false, true, true, true]
        [.eq (.pointer (some ⟨b1, 1, none⟩)), .eq (.int .i64 p0.A), .eq (.bool x15), .eq (.bool x15), .eq (.pointer (some ⟨b1, 2, none⟩)), .eq (.int .i64 p0.B), .eq (.bool x16), .eq (.bool (x15 && x16)), .eq (.bool (x15 && x16)), .eq (.pointer (some ⟨b1, 3, none⟩)), .eq (.int .i64 p0.C), .eq (.bool (p0.C == 0)), .eq (.bool ((x15 && x16) && (p0.C == 0))), .eq (.bool ((x15 && x16) && (p0.C == 0)))]
        [(6, .bool ((x15 && x16) && (p0.C == 0)))] mix hF (by kernel_rfl) (by kernel_rfl) (by kernel_rfl) ⟨Pd.mono_eq, Pd.mono_eq, Pd.mono_eq, Pd.mono_eq, Pd.mono_eq, trivial⟩ (fun hG => ⟨np_loadBox hG hF ty3 rfl rfl (hs.bx 0 rfl) rfl rfl rfl, np_call [.int .i64 p0.A] hG hF Try.call136 rfl rfl (fun w hC hg => (spec_l05Reg_ok p0.A hx15).mono fun e w' ⟨v, he, hv, hc⟩ => ⟨v, he, hc, hv⟩), np_loadBox hG hF ty3 rfl rfl (hs.bx 0 rfl) rfl rfl rfl, np_call [.int .i64 p0.B] hG hF Try.call136 rfl rfl (fun w hC hg => (spec_l05Reg_ok p0.B (iteT hg.2 hx16)).mono fun e w' ⟨v, he, hv, hc⟩ => ⟨v, he, hc, hv⟩), np_loadBox hG hF ty3 rfl rfl (hs.bx 0 rfl) rfl rfl rfl, trivial⟩) (by kernel_rfl) fun fr w18 hF hE hc => then_normal ?_)
    have hs := hs.ext hc
    have hM0 := hM0.ext hc
    have hs : Sep [] w18 S1 := Sep.pick [] hs (by decide) rfl
    obtain rfl := Option.some.inj h
    exact wp_ret (blk_ret (then_ret (ret1 rfl hF rfl ⟨_, rfl, rfl, hM0.chg⟩)))
  replace h := iteF hb h
  refine wp_seq (wp_pure [(3, .pointer (some ⟨b1, 0, none⟩)), (7, .bool x1), (13, .int .i64 p0.Op), (47, .bool (p0.Op == 3))] hF (by kernel_rfl) fun fr hF => then_normal ?_)
  refine (wp_if hF (b := (p0.Op == 3)) rfl (fun hb => ?_) (fun hb => ?_))
  · replace h := iteT hb h
    obtain ⟨x17, hx17, h⟩ := bindE h
    obtain ⟨x18, hx18, h⟩ := bindE h
    obtain ⟨x19, hx19, h⟩ := bindE h
    refine wp_seq (region_b [] [true, false, false, true, true, false, false, true, true, true, false, false, true, true]
        [.eq (.pointer (some ⟨b1, 1, none⟩)), .eq (.int .i64 p0.A), .eq (.bool x17), .eq (.bool x17), .eq (.pointer (some ⟨b1, 2, none⟩)), .eq (.int .i64 p0.B), .eq (.bool x18), .eq (.bool (x17 && x18)), .eq (.bool (x17 && x18)), .eq (.pointer (some ⟨b1, 3, none⟩)), .eq (.int .i64 p0.C), .eq (.bool x19), .eq (.bool ((x17 && x18) && x19)), .eq (.bool ((x17 && x18) && x19))]
        [(6, .bool ((x17 && x18) && x19))] mix hF (by kernel_rfl) (by kernel_rfl) (by kernel_rfl) ⟨Pd.mono_eq, Pd.mono_eq, Pd.mono_eq, Pd.mono_eq, Pd.mono_eq, Pd.mono_eq, trivial⟩ (fun hG => ⟨np_loadBox hG hF ty3 rfl rfl (hs.bx 0 rfl) rfl rfl rfl, np_call [.int .i64 p0.A] hG hF Try.call136 rfl rfl (fun w hC hg => (spec_l05Reg_ok p0.A hx17).mono fun e w' ⟨v, he, hv, hc⟩ => ⟨v, he, hc, hv⟩), np_loadBox hG hF ty3 rfl rfl (hs.bx 0 rfl) rfl rfl rfl, np_call [.int .i64 p0.B] hG hF Try.call136 rfl rfl (fun w hC hg => (spec_l05Reg_ok p0.B (iteT hg.2 hx18)).mono fun e w' ⟨v, he, hv, hc⟩ => ⟨v, he, hc, hv⟩), np_loadBox hG hF ty3 rfl rfl (hs.bx 0 rfl) rfl rfl rfl, np_call [.int .i64 p0.C, .int .i64 3, .int .i64 16] hG hF Try.call58 rfl rfl (fun w hC hg => (spec_l01In_ok p0.C 3 16 (iteT hg.2 hx19)).mono fun e w' ⟨v, he, hv, hc⟩ => ⟨v, he, hc, hv⟩), trivial⟩) (by kernel_rfl) fun fr w19 hF hE hc => then_normal ?_)
    have hs := hs.ext hc
    have hM0 := hM0.ext hc
    have hs : Sep [] w19 S1 := Sep.pick [] hs (by decide) rfl
    obtain rfl := Option.some.inj h
    exact wp_ret (blk_ret (then_ret (ret1 rfl hF rfl ⟨_, rfl, rfl, hM0.chg⟩)))
  replace h := iteF hb h
  refine wp_seq ?_
  refine wp_seq (wp_pure [(3, .pointer (some ⟨b1, 0, none⟩)), (7, .bool x1), (13, .int .i64 p0.Op), (62, .bool (p0.Op == 4))] hF (by kernel_rfl) fun fr hF => then_normal ?_)
  refine (wp_if hF (b := (p0.Op == 4)) rfl (fun hb => ?_) (fun hb => ?_))
  · replace h := iteT hb h
    refine (wp_skip (then_normal ?_))
    refine (wp_if hF (b := (p0.Op == 4)) rfl (fun hb => ?_) (fun hb => ?_))
    · replace h := iteT hb h
      obtain ⟨x20, hx20, h⟩ := bindE h
      refine wp_seq (region_b [] [true, false, false, true, true, false, true, true, true, true, false, true, true, true]
          [.eq (.pointer (some ⟨b1, 1, none⟩)), .eq (.int .i64 p0.A), .eq (.bool x20), .eq (.bool x20), .eq (.pointer (some ⟨b1, 2, none⟩)), .eq (.int .i64 p0.B), .eq (.bool (p0.B == 0)), .eq (.bool (x20 && (p0.B == 0))), .eq (.bool (x20 && (p0.B == 0))), .eq (.pointer (some ⟨b1, 3, none⟩)), .eq (.int .i64 p0.C), .eq (.bool (p0.C == 0)), .eq (.bool ((x20 && (p0.B == 0)) && (p0.C == 0))), .eq (.bool ((x20 && (p0.B == 0)) && (p0.C == 0)))]
          [(6, .bool ((x20 && (p0.B == 0)) && (p0.C == 0)))] mix hF (by kernel_rfl) (by kernel_rfl) (by kernel_rfl) ⟨Pd.mono_eq, Pd.mono_eq, Pd.mono_eq, Pd.mono_eq, trivial⟩ (fun hG => ⟨np_loadBox hG hF ty3 rfl rfl (hs.bx 0 rfl) rfl rfl rfl, np_call [.int .i64 p0.A] hG hF Try.call136 rfl rfl (fun w hC hg => (spec_l05Reg_ok p0.A hx20).mono fun e w' ⟨v, he, hv, hc⟩ => ⟨v, he, hc, hv⟩), np_loadBox hG hF ty3 rfl rfl (hs.bx 0 rfl) rfl rfl rfl, np_loadBox hG hF ty3 rfl rfl (hs.bx 0 rfl) rfl rfl rfl, trivial⟩) (by kernel_rfl) fun fr w20 hF hE hc => then_normal ?_)
      have hs := hs.ext hc
      have hM0 := hM0.ext hc
      have hs : Sep [] w20 S1 := Sep.pick [] hs (by decide) rfl
      obtain rfl := Option.some.inj h
      exact wp_ret (blk_ret (then_ret (ret1 rfl hF rfl ⟨_, rfl, rfl, hM0.chg⟩)))
    replace h := iteF hb h
    refine wp_seq ?_
    refine wp_seq (wp_pure [(3, .pointer (some ⟨b1, 0, none⟩)), (7, .bool x1), (13, .int .i64 p0.Op), (80, .bool (p0.Op == 9))] hF (by kernel_rfl) fun fr hF => then_normal ?_)
    refine (wp_merge [(3, .pointer (some ⟨b1, 0, none⟩)), (7, .bool x1), (13, .int .i64 p0.Op), (80, .bool ((p0.Op == 9) || (p0.Op == 11)))] hF (b := (p0.Op == 9)) rfl (fun hb => ?_) (fun hb => ?_) fun fr hF => then_normal ?_)
    · exact wp_skip ⟨rfl, rfl, (hF.sub [(3, .pointer (some ⟨b1, 0, none⟩)), (7, .bool x1), (13, .int .i64 p0.Op), (80, .bool (p0.Op == 9))] (by kernel_rfl)).eqs (by first | (simp only [hb]; done) | (simp only [hb]; rfl))⟩
    · exact wp_pure [(3, .pointer (some ⟨b1, 0, none⟩)), (7, .bool x1), (13, .int .i64 p0.Op), (80, .bool (p0.Op == 11))] hF (by kernel_rfl) fun fr hF => ⟨rfl, rfl, hF.eqs (by first | (simp only [hb]; done) | (simp only [hb]; rfl))⟩
    refine (wp_if hF (b := ((p0.Op == 9) || (p0.Op == 11))) rfl (fun hb => ?_) (fun hb => ?_))
    · replace h := iteT hb h
      refine wp_seq (region_b [] [true, false, true, true, true, true, true, true, false, true, true, true]
          [.eq (.pointer (some ⟨b1, 1, none⟩)), .eq (.int .i64 p0.A), .eq (.bool (p0.A == 0)), .eq (.bool (p0.A == 0)), .eq (.bool x1), .eq (.bool ((p0.A == 0) && x1)), .eq (.bool ((p0.A == 0) && x1)), .eq (.pointer (some ⟨b1, 3, none⟩)), .eq (.int .i64 p0.C), .eq (.bool (p0.C == 0)), .eq (.bool (((p0.A == 0) && x1) && (p0.C == 0))), .eq (.bool (((p0.A == 0) && x1) && (p0.C == 0)))]
          [(6, .bool (((p0.A == 0) && x1) && (p0.C == 0)))] mix hF (by kernel_rfl) (by kernel_rfl) (by kernel_rfl) ⟨Pd.mono_eq, Pd.mono_eq, trivial⟩ (fun hG => ⟨np_loadBox hG hF ty3 rfl rfl (hs.bx 0 rfl) rfl rfl rfl, np_loadBox hG hF ty3 rfl rfl (hs.bx 0 rfl) rfl rfl rfl, trivial⟩) (by kernel_rfl) fun fr w21 hF hE hc => then_normal ?_)
      have hs := hs.ext hc
      have hM0 := hM0.ext hc
      have hs : Sep [] w21 S1 := Sep.pick [] hs (by decide) rfl
      obtain rfl := Option.some.inj h
      exact wp_ret (blk_ret (then_ret (ret1 rfl hF rfl ⟨_, rfl, rfl, hM0.chg⟩)))
    replace h := iteF hb h
    refine wp_seq (wp_pure [(3, .pointer (some ⟨b1, 0, none⟩)), (7, .bool x1), (13, .int .i64 p0.Op), (94, .bool (p0.Op == 10))] hF (by kernel_rfl) fun fr hF => then_normal ?_)
    refine (wp_if hF (b := (p0.Op == 10)) rfl (fun hb => ?_) (fun hb => ?_))
    · replace h := iteT hb h
      obtain ⟨x21, hx21, h⟩ := bindE h
      refine wp_seq (region_b [] [true, false, false, true, true, true, true, true, false, true, true, true]
          [.eq (.pointer (some ⟨b1, 1, none⟩)), .eq (.int .i64 p0.A), .eq (.bool x21), .eq (.bool x21), .eq (.bool x1), .eq (.bool (x21 && x1)), .eq (.bool (x21 && x1)), .eq (.pointer (some ⟨b1, 3, none⟩)), .eq (.int .i64 p0.C), .eq (.bool (p0.C == 0)), .eq (.bool ((x21 && x1) && (p0.C == 0))), .eq (.bool ((x21 && x1) && (p0.C == 0)))]
          [(6, .bool ((x21 && x1) && (p0.C == 0)))] mix hF (by kernel_rfl) (by kernel_rfl) (by kernel_rfl) ⟨Pd.mono_eq, Pd.mono_eq, Pd.mono_eq, trivial⟩ (fun hG => ⟨np_loadBox hG hF ty3 rfl rfl (hs.bx 0 rfl) rfl rfl rfl, np_call [.int .i64 p0.A] hG hF Try.call136 rfl rfl (fun w hC hg => (spec_l05Reg_ok p0.A hx21).mono fun e w' ⟨v, he, hv, hc⟩ => ⟨v, he, hc, hv⟩), np_loadBox hG hF ty3 rfl rfl (hs.bx 0 rfl) rfl rfl rfl, trivial⟩) (by kernel_rfl) fun fr w22 hF hE hc => then_normal ?_)
      have hs := hs.ext hc
      have hM0 := hM0.ext hc
      have hs : Sep [] w22 S1 := Sep.pick [] hs (by decide) rfl
      obtain rfl := Option.some.inj h
      exact wp_ret (blk_ret (then_ret (ret1 rfl hF rfl ⟨_, rfl, rfl, hM0.chg⟩)))
    replace h := iteF hb h
    refine wp_seq ?_
    refine wp_seq (wp_pure [(3, .pointer (some ⟨b1, 0, none⟩)), (13, .int .i64 p0.Op), (107, .bool (p0.Op == 12))] hF (by kernel_rfl) fun fr hF => then_normal ?_)
    refine (wp_merge [(3, .pointer (some ⟨b1, 0, none⟩)), (107, .bool ((p0.Op == 12) || (p0.Op == 14)))] hF (b := (p0.Op == 12)) rfl (fun hb => ?_) (fun hb => ?_) fun fr hF => then_normal ?_)
    · exact wp_skip ⟨rfl, rfl, (hF.sub [(3, .pointer (some ⟨b1, 0, none⟩)), (107, .bool (p0.Op == 12))] (by kernel_rfl)).eqs (by first | (simp only [hb]; done) | (simp only [hb]; rfl))⟩
    · exact wp_pure [(3, .pointer (some ⟨b1, 0, none⟩)), (107, .bool (p0.Op == 14))] hF (by kernel_rfl) fun fr hF => ⟨rfl, rfl, hF.eqs (by first | (simp only [hb]; done) | (simp only [hb]; rfl))⟩
    refine (wp_if hF (b := ((p0.Op == 12) || (p0.Op == 14))) rfl (fun hb => ?_) (fun hb => ?_))
    · replace h := iteT hb h
      refine wp_seq (region_b [] [true, false, true, true, true, false, true, true, true, true, false, true, true, true]
          [.eq (.pointer (some ⟨b1, 1, none⟩)), .eq (.int .i64 p0.A), .eq (.bool (p0.A == 0)), .eq (.bool (p0.A == 0)), .eq (.pointer (some ⟨b1, 2, none⟩)), .eq (.int .i64 p0.B), .eq (.bool (p0.B == 0)), .eq (.bool ((p0.A == 0) && (p0.B == 0))), .eq (.bool ((p0.A == 0) && (p0.B == 0))), .eq (.pointer (some ⟨b1, 3, none⟩)), .eq (.int .i64 p0.C), .eq (.bool (p0.C == 0)), .eq (.bool (((p0.A == 0) && (p0.B == 0)) && (p0.C == 0))), .eq (.bool (((p0.A == 0) && (p0.B == 0)) && (p0.C == 0)))]
          [(6, .bool (((p0.A == 0) && (p0.B == 0)) && (p0.C == 0)))] mix hF (by kernel_rfl) (by kernel_rfl) (by kernel_rfl) ⟨Pd.mono_eq, Pd.mono_eq, Pd.mono_eq, trivial⟩ (fun hG => ⟨np_loadBox hG hF ty3 rfl rfl (hs.bx 0 rfl) rfl rfl rfl, np_loadBox hG hF ty3 rfl rfl (hs.bx 0 rfl) rfl rfl rfl, np_loadBox hG hF ty3 rfl rfl (hs.bx 0 rfl) rfl rfl rfl, trivial⟩) (by kernel_rfl) fun fr w23 hF hE hc => then_normal ?_)
      have hs := hs.ext hc
      have hM0 := hM0.ext hc
      have hs : Sep [] w23 S1 := Sep.pick [] hs (by decide) rfl
      obtain rfl := Option.some.inj h
      exact wp_ret (blk_ret (then_ret (ret1 rfl hF rfl ⟨_, rfl, rfl, hM0.chg⟩)))
    replace h := iteF hb h
    have hs : Sep [] w2 S1 := Sep.pick [] hs (by decide) rfl
    refine (wp_skip ?_)
    refine blk_normal (then_normal ?_)
    refine wp_seq (wp_pure [(6, .bool false)] hF (by kernel_rfl) fun fr hF => then_normal ?_)
    obtain rfl := Option.some.inj h
    exact wp_ret (ret1 rfl hF rfl ⟨_, rfl, rfl, hM0.chg⟩)
  replace h := iteF hb h
  refine wp_seq (wp_pure [(3, .pointer (some ⟨b1, 0, none⟩)), (7, .bool x1), (13, .int .i64 p0.Op), (62, .bool (p0.Op == 5))] hF (by kernel_rfl) fun fr hF => then_normal ?_)
  refine (wp_if hF (b := (p0.Op == 5)) rfl (fun hb => ?_) (fun hb => ?_))
  · replace h := iteT hb h
    refine (wp_skip (then_normal ?_))
    refine (wp_if hF (b := (p0.Op == 5)) rfl (fun hb => ?_) (fun hb => ?_))
    · replace h := iteT hb h
      obtain ⟨x22, hx22, h⟩ := bindE h
      refine wp_seq (region_b [] [true, false, false, true, true, false, true, true, true, true, false, true, true, true]
          [.eq (.pointer (some ⟨b1, 1, none⟩)), .eq (.int .i64 p0.A), .eq (.bool x22), .eq (.bool x22), .eq (.pointer (some ⟨b1, 2, none⟩)), .eq (.int .i64 p0.B), .eq (.bool (p0.B == 0)), .eq (.bool (x22 && (p0.B == 0))), .eq (.bool (x22 && (p0.B == 0))), .eq (.pointer (some ⟨b1, 3, none⟩)), .eq (.int .i64 p0.C), .eq (.bool (p0.C == 0)), .eq (.bool ((x22 && (p0.B == 0)) && (p0.C == 0))), .eq (.bool ((x22 && (p0.B == 0)) && (p0.C == 0)))]
          [(6, .bool ((x22 && (p0.B == 0)) && (p0.C == 0)))] mix hF (by kernel_rfl) (by kernel_rfl) (by kernel_rfl) ⟨Pd.mono_eq, Pd.mono_eq, Pd.mono_eq, Pd.mono_eq, trivial⟩ (fun hG => ⟨np_loadBox hG hF ty3 rfl rfl (hs.bx 0 rfl) rfl rfl rfl, np_call [.int .i64 p0.A] hG hF Try.call136 rfl rfl (fun w hC hg => (spec_l05Reg_ok p0.A hx22).mono fun e w' ⟨v, he, hv, hc⟩ => ⟨v, he, hc, hv⟩), np_loadBox hG hF ty3 rfl rfl (hs.bx 0 rfl) rfl rfl rfl, np_loadBox hG hF ty3 rfl rfl (hs.bx 0 rfl) rfl rfl rfl, trivial⟩) (by kernel_rfl) fun fr w24 hF hE hc => then_normal ?_)
      have hs := hs.ext hc
      have hM0 := hM0.ext hc
      have hs : Sep [] w24 S1 := Sep.pick [] hs (by decide) rfl
      obtain rfl := Option.some.inj h
      exact wp_ret (blk_ret (then_ret (ret1 rfl hF rfl ⟨_, rfl, rfl, hM0.chg⟩)))
    replace h := iteF hb h
    refine wp_seq ?_
    refine wp_seq (wp_pure [(3, .pointer (some ⟨b1, 0, none⟩)), (7, .bool x1), (13, .int .i64 p0.Op), (80, .bool (p0.Op == 9))] hF (by kernel_rfl) fun fr hF => then_normal ?_)
    refine (wp_merge [(3, .pointer (some ⟨b1, 0, none⟩)), (7, .bool x1), (13, .int .i64 p0.Op), (80, .bool ((p0.Op == 9) || (p0.Op == 11)))] hF (b := (p0.Op == 9)) rfl (fun hb => ?_) (fun hb => ?_) fun fr hF => then_normal ?_)
    · exact wp_skip ⟨rfl, rfl, (hF.sub [(3, .pointer (some ⟨b1, 0, none⟩)), (7, .bool x1), (13, .int .i64 p0.Op), (80, .bool (p0.Op == 9))] (by kernel_rfl)).eqs (by first | (simp only [hb]; done) | (simp only [hb]; rfl))⟩
    · exact wp_pure [(3, .pointer (some ⟨b1, 0, none⟩)), (7, .bool x1), (13, .int .i64 p0.Op), (80, .bool (p0.Op == 11))] hF (by kernel_rfl) fun fr hF => ⟨rfl, rfl, hF.eqs (by first | (simp only [hb]; done) | (simp only [hb]; rfl))⟩
    refine (wp_if hF (b := ((p0.Op == 9) || (p0.Op == 11))) rfl (fun hb => ?_) (fun hb => ?_))
    · replace h := iteT hb h
      refine wp_seq (region_b [] [true, false, true, true, true, true, true, true, false, true, true, true]
          [.eq (.pointer (some ⟨b1, 1, none⟩)), .eq (.int .i64 p0.A), .eq (.bool (p0.A == 0)), .eq (.bool (p0.A == 0)), .eq (.bool x1), .eq (.bool ((p0.A == 0) && x1)), .eq (.bool ((p0.A == 0) && x1)), .eq (.pointer (some ⟨b1, 3, none⟩)), .eq (.int .i64 p0.C), .eq (.bool (p0.C == 0)), .eq (.bool (((p0.A == 0) && x1) && (p0.C == 0))), .eq (.bool (((p0.A == 0) && x1) && (p0.C == 0)))]
          [(6, .bool (((p0.A == 0) && x1) && (p0.C == 0)))] mix hF (by kernel_rfl) (by kernel_rfl) (by kernel_rfl) ⟨Pd.mono_eq, Pd.mono_eq, trivial⟩ (fun hG => ⟨np_loadBox hG hF ty3 rfl rfl (hs.bx 0 rfl) rfl rfl rfl, np_loadBox hG hF ty3 rfl rfl (hs.bx 0 rfl) rfl rfl rfl, trivial⟩) (by kernel_rfl) fun fr w25 hF hE hc => then_normal ?_)
      have hs := hs.ext hc
      have hM0 := hM0.ext hc
      have hs : Sep [] w25 S1 := Sep.pick [] hs (by decide) rfl
      obtain rfl := Option.some.inj h
      exact wp_ret (blk_ret (then_ret (ret1 rfl hF rfl ⟨_, rfl, rfl, hM0.chg⟩)))
    replace h := iteF hb h
    refine wp_seq (wp_pure [(3, .pointer (some ⟨b1, 0, none⟩)), (7, .bool x1), (13, .int .i64 p0.Op), (94, .bool (p0.Op == 10))] hF (by kernel_rfl) fun fr hF => then_normal ?_)
    refine (wp_if hF (b := (p0.Op == 10)) rfl (fun hb => ?_) (fun hb => ?_))
    · replace h := iteT hb h
      obtain ⟨x23, hx23, h⟩ := bindE h
      refine wp_seq (region_b [] [true, false, false, true, true, true, true, true, false, true, true, true]
          [.eq (.pointer (some ⟨b1, 1, none⟩)), .eq (.int .i64 p0.A), .eq (.bool x23), .eq (.bool x23), .eq (.bool x1), .eq (.bool (x23 && x1)), .eq (.bool (x23 && x1)), .eq (.pointer (some ⟨b1, 3, none⟩)), .eq (.int .i64 p0.C), .eq (.bool (p0.C == 0)), .eq (.bool ((x23 && x1) && (p0.C == 0))), .eq (.bool ((x23 && x1) && (p0.C == 0)))]
          [(6, .bool ((x23 && x1) && (p0.C == 0)))] mix hF (by kernel_rfl) (by kernel_rfl) (by kernel_rfl) ⟨Pd.mono_eq, Pd.mono_eq, Pd.mono_eq, trivial⟩ (fun hG => ⟨np_loadBox hG hF ty3 rfl rfl (hs.bx 0 rfl) rfl rfl rfl, np_call [.int .i64 p0.A] hG hF Try.call136 rfl rfl (fun w hC hg => (spec_l05Reg_ok p0.A hx23).mono fun e w' ⟨v, he, hv, hc⟩ => ⟨v, he, hc, hv⟩), np_loadBox hG hF ty3 rfl rfl (hs.bx 0 rfl) rfl rfl rfl, trivial⟩) (by kernel_rfl) fun fr w26 hF hE hc => then_normal ?_)
      have hs := hs.ext hc
      have hM0 := hM0.ext hc
      have hs : Sep [] w26 S1 := Sep.pick [] hs (by decide) rfl
      obtain rfl := Option.some.inj h
      exact wp_ret (blk_ret (then_ret (ret1 rfl hF rfl ⟨_, rfl, rfl, hM0.chg⟩)))
    replace h := iteF hb h
    refine wp_seq ?_
    refine wp_seq (wp_pure [(3, .pointer (some ⟨b1, 0, none⟩)), (13, .int .i64 p0.Op), (107, .bool (p0.Op == 12))] hF (by kernel_rfl) fun fr hF => then_normal ?_)
    refine (wp_merge [(3, .pointer (some ⟨b1, 0, none⟩)), (107, .bool ((p0.Op == 12) || (p0.Op == 14)))] hF (b := (p0.Op == 12)) rfl (fun hb => ?_) (fun hb => ?_) fun fr hF => then_normal ?_)
    · exact wp_skip ⟨rfl, rfl, (hF.sub [(3, .pointer (some ⟨b1, 0, none⟩)), (107, .bool (p0.Op == 12))] (by kernel_rfl)).eqs (by first | (simp only [hb]; done) | (simp only [hb]; rfl))⟩
    · exact wp_pure [(3, .pointer (some ⟨b1, 0, none⟩)), (107, .bool (p0.Op == 14))] hF (by kernel_rfl) fun fr hF => ⟨rfl, rfl, hF.eqs (by first | (simp only [hb]; done) | (simp only [hb]; rfl))⟩
    refine (wp_if hF (b := ((p0.Op == 12) || (p0.Op == 14))) rfl (fun hb => ?_) (fun hb => ?_))
    · replace h := iteT hb h
      refine wp_seq (region_b [] [true, false, true, true, true, false, true, true, true, true, false, true, true, true]
          [.eq (.pointer (some ⟨b1, 1, none⟩)), .eq (.int .i64 p0.A), .eq (.bool (p0.A == 0)), .eq (.bool (p0.A == 0)), .eq (.pointer (some ⟨b1, 2, none⟩)), .eq (.int .i64 p0.B), .eq (.bool (p0.B == 0)), .eq (.bool ((p0.A == 0) && (p0.B == 0))), .eq (.bool ((p0.A == 0) && (p0.B == 0))), .eq (.pointer (some ⟨b1, 3, none⟩)), .eq (.int .i64 p0.C), .eq (.bool (p0.C == 0)), .eq (.bool (((p0.A == 0) && (p0.B == 0)) && (p0.C == 0))), .eq (.bool (((p0.A == 0) && (p0.B == 0)) && (p0.C == 0)))]
          [(6, .bool (((p0.A == 0) && (p0.B == 0)) && (p0.C == 0)))] mix hF (by kernel_rfl) (by kernel_rfl) (by kernel_rfl) ⟨Pd.mono_eq, Pd.mono_eq, Pd.mono_eq, trivial⟩ (fun hG => ⟨np_loadBox hG hF ty3 rfl rfl (hs.bx 0 rfl) rfl rfl rfl, np_loadBox hG hF ty3 rfl rfl (hs.bx 0 rfl) rfl rfl rfl, np_loadBox hG hF ty3 rfl rfl (hs.bx 0 rfl) rfl rfl rfl, trivial⟩) (by kernel_rfl) fun fr w27 hF hE hc => then_normal ?_)
      have hs := hs.ext hc
      have hM0 := hM0.ext hc
      have hs : Sep [] w27 S1 := Sep.pick [] hs (by decide) rfl
      obtain rfl := Option.some.inj h
      exact wp_ret (blk_ret (then_ret (ret1 rfl hF rfl ⟨_, rfl, rfl, hM0.chg⟩)))
    replace h := iteF hb h
    have hs : Sep [] w2 S1 := Sep.pick [] hs (by decide) rfl
    refine (wp_skip ?_)
    refine blk_normal (then_normal ?_)
    refine wp_seq (wp_pure [(6, .bool false)] hF (by kernel_rfl) fun fr hF => then_normal ?_)
    obtain rfl := Option.some.inj h
    exact wp_ret (ret1 rfl hF rfl ⟨_, rfl, rfl, hM0.chg⟩)
  replace h := iteF hb h
  refine wp_seq (wp_pure [(3, .pointer (some ⟨b1, 0, none⟩)), (7, .bool x1), (13, .int .i64 p0.Op), (62, .bool (p0.Op == 6))] hF (by kernel_rfl) fun fr hF => then_normal ?_)
  refine (wp_merge [(3, .pointer (some ⟨b1, 0, none⟩)), (7, .bool x1), (13, .int .i64 p0.Op), (62, .bool ((p0.Op == 6) || (p0.Op == 13)))] hF (b := (p0.Op == 6)) rfl (fun hb => ?_) (fun hb => ?_) fun fr hF => then_normal ?_)
  · exact wp_skip ⟨rfl, rfl, (hF.sub [(3, .pointer (some ⟨b1, 0, none⟩)), (7, .bool x1), (13, .int .i64 p0.Op), (62, .bool (p0.Op == 6))] (by kernel_rfl)).eqs (by first | (simp only [hb]; done) | (simp only [hb]; rfl))⟩
  · exact wp_pure [(3, .pointer (some ⟨b1, 0, none⟩)), (7, .bool x1), (13, .int .i64 p0.Op), (62, .bool (p0.Op == 13))] hF (by kernel_rfl) fun fr hF => ⟨rfl, rfl, hF.eqs (by first | (simp only [hb]; done) | (simp only [hb]; rfl))⟩
  refine (wp_if hF (b := ((p0.Op == 6) || (p0.Op == 13))) rfl (fun hb => ?_) (fun hb => ?_))
  · replace h := iteT hb h
    obtain ⟨x24, hx24, h⟩ := bindE h
    refine wp_seq (region_b [] [true, false, false, true, true, false, true, true, true, true, false, true, true, true]
        [.eq (.pointer (some ⟨b1, 1, none⟩)), .eq (.int .i64 p0.A), .eq (.bool x24), .eq (.bool x24), .eq (.pointer (some ⟨b1, 2, none⟩)), .eq (.int .i64 p0.B), .eq (.bool (p0.B == 0)), .eq (.bool (x24 && (p0.B == 0))), .eq (.bool (x24 && (p0.B == 0))), .eq (.pointer (some ⟨b1, 3, none⟩)), .eq (.int .i64 p0.C), .eq (.bool (p0.C == 0)), .eq (.bool ((x24 && (p0.B == 0)) && (p0.C == 0))), .eq (.bool ((x24 && (p0.B == 0)) && (p0.C == 0)))]
        [(6, .bool ((x24 && (p0.B == 0)) && (p0.C == 0)))] mix hF (by kernel_rfl) (by kernel_rfl) (by kernel_rfl) ⟨Pd.mono_eq, Pd.mono_eq, Pd.mono_eq, Pd.mono_eq, trivial⟩ (fun hG => ⟨np_loadBox hG hF ty3 rfl rfl (hs.bx 0 rfl) rfl rfl rfl, np_call [.int .i64 p0.A] hG hF Try.call136 rfl rfl (fun w hC hg => (spec_l05Reg_ok p0.A hx24).mono fun e w' ⟨v, he, hv, hc⟩ => ⟨v, he, hc, hv⟩), np_loadBox hG hF ty3 rfl rfl (hs.bx 0 rfl) rfl rfl rfl, np_loadBox hG hF ty3 rfl rfl (hs.bx 0 rfl) rfl rfl rfl, trivial⟩) (by kernel_rfl) fun fr w28 hF hE hc => then_normal ?_)
    have hs := hs.ext hc
    have hM0 := hM0.ext hc
    have hs : Sep [] w28 S1 := Sep.pick [] hs (by decide) rfl
    obtain rfl := Option.some.inj h
    exact wp_ret (blk_ret (then_ret (ret1 rfl hF rfl ⟨_, rfl, rfl, hM0.chg⟩)))
  replace h := iteF hb h
  refine wp_seq ?_
  refine wp_seq (wp_pure [(3, .pointer (some ⟨b1, 0, none⟩)), (7, .bool x1), (13, .int .i64 p0.Op), (80, .bool (p0.Op == 9))] hF (by kernel_rfl) fun fr hF => then_normal ?_)
  refine (wp_merge [(3, .pointer (some ⟨b1, 0, none⟩)), (7, .bool x1), (13, .int .i64 p0.Op), (80, .bool ((p0.Op == 9) || (p0.Op == 11)))] hF (b := (p0.Op == 9)) rfl (fun hb => ?_) (fun hb => ?_) fun fr hF => then_normal ?_)
  · exact wp_skip ⟨rfl, rfl, (hF.sub [(3, .pointer (some ⟨b1, 0, none⟩)), (7, .bool x1), (13, .int .i64 p0.Op), (80, .bool (p0.Op == 9))] (by kernel_rfl)).eqs (by first | (simp only [hb]; done) | (simp only [hb]; rfl))⟩
  · exact wp_pure [(3, .pointer (some ⟨b1, 0, none⟩)), (7, .bool x1), (13, .int .i64 p0.Op), (80, .bool (p0.Op == 11))] hF (by kernel_rfl) fun fr hF => ⟨rfl, rfl, hF.eqs (by first | (simp only [hb]; done) | (simp only [hb]; rfl))⟩
  refine (wp_if hF (b := ((p0.Op == 9) || (p0.Op == 11))) rfl (fun hb => ?_) (fun hb => ?_))
  · replace h := iteT hb h
    refine wp_seq (region_b [] [true, false, true, true, true, true, true, true, false, true, true, true]
        [.eq (.pointer (some ⟨b1, 1, none⟩)), .eq (.int .i64 p0.A), .eq (.bool (p0.A == 0)), .eq (.bool (p0.A == 0)), .eq (.bool x1), .eq (.bool ((p0.A == 0) && x1)), .eq (.bool ((p0.A == 0) && x1)), .eq (.pointer (some ⟨b1, 3, none⟩)), .eq (.int .i64 p0.C), .eq (.bool (p0.C == 0)), .eq (.bool (((p0.A == 0) && x1) && (p0.C == 0))), .eq (.bool (((p0.A == 0) && x1) && (p0.C == 0)))]
        [(6, .bool (((p0.A == 0) && x1) && (p0.C == 0)))] mix hF (by kernel_rfl) (by kernel_rfl) (by kernel_rfl) ⟨Pd.mono_eq, Pd.mono_eq, trivial⟩ (fun hG => ⟨np_loadBox hG hF ty3 rfl rfl (hs.bx 0 rfl) rfl rfl rfl, np_loadBox hG hF ty3 rfl rfl (hs.bx 0 rfl) rfl rfl rfl, trivial⟩) (by kernel_rfl) fun fr w29 hF hE hc => then_normal ?_)
    have hs := hs.ext hc
    have hM0 := hM0.ext hc
    have hs : Sep [] w29 S1 := Sep.pick [] hs (by decide) rfl
    obtain rfl := Option.some.inj h
    exact wp_ret (blk_ret (then_ret (ret1 rfl hF rfl ⟨_, rfl, rfl, hM0.chg⟩)))
  replace h := iteF hb h
  refine wp_seq (wp_pure [(3, .pointer (some ⟨b1, 0, none⟩)), (7, .bool x1), (13, .int .i64 p0.Op), (94, .bool (p0.Op == 10))] hF (by kernel_rfl) fun fr hF => then_normal ?_)
  refine (wp_if hF (b := (p0.Op == 10)) rfl (fun hb => ?_) (fun hb => ?_))
  · replace h := iteT hb h
    obtain ⟨x25, hx25, h⟩ := bindE h
    refine wp_seq (region_b [] [true, false, false, true, true, true, true, true, false, true, true, true]
        [.eq (.pointer (some ⟨b1, 1, none⟩)), .eq (.int .i64 p0.A), .eq (.bool x25), .eq (.bool x25), .eq (.bool x1), .eq (.bool (x25 && x1)), .eq (.bool (x25 && x1)), .eq (.pointer (some ⟨b1, 3, none⟩)), .eq (.int .i64 p0.C), .eq (.bool (p0.C == 0)), .eq (.bool ((x25 && x1) && (p0.C == 0))), .eq (.bool ((x25 && x1) && (p0.C == 0)))]
        [(6, .bool ((x25 && x1) && (p0.C == 0)))] mix hF (by kernel_rfl) (by kernel_rfl) (by kernel_rfl) ⟨Pd.mono_eq, Pd.mono_eq, Pd.mono_eq, trivial⟩ (fun hG => ⟨np_loadBox hG hF ty3 rfl rfl (hs.bx 0 rfl) rfl rfl rfl, np_call [.int .i64 p0.A] hG hF Try.call136 rfl rfl (fun w hC hg => (spec_l05Reg_ok p0.A hx25).mono fun e w' ⟨v, he, hv, hc⟩ => ⟨v, he, hc, hv⟩), np_loadBox hG hF ty3 rfl rfl (hs.bx 0 rfl) rfl rfl rfl, trivial⟩) (by kernel_rfl) fun fr w30 hF hE hc => then_normal ?_)
    have hs := hs.ext hc
    have hM0 := hM0.ext hc
    have hs : Sep [] w30 S1 := Sep.pick [] hs (by decide) rfl
    obtain rfl := Option.some.inj h
    exact wp_ret (blk_ret (then_ret (ret1 rfl hF rfl ⟨_, rfl, rfl, hM0.chg⟩)))
  replace h := iteF hb h
  refine wp_seq ?_
  refine wp_seq (wp_pure [(3, .pointer (some ⟨b1, 0, none⟩)), (13, .int .i64 p0.Op), (107, .bool (p0.Op == 12))] hF (by kernel_rfl) fun fr hF => then_normal ?_)
  refine (wp_merge [(3, .pointer (some ⟨b1, 0, none⟩)), (107, .bool ((p0.Op == 12) || (p0.Op == 14)))] hF (b := (p0.Op == 12)) rfl (fun hb => ?_) (fun hb => ?_) fun fr hF => then_normal ?_)
  · exact wp_skip ⟨rfl, rfl, (hF.sub [(3, .pointer (some ⟨b1, 0, none⟩)), (107, .bool (p0.Op == 12))] (by kernel_rfl)).eqs (by first | (simp only [hb]; done) | (simp only [hb]; rfl))⟩
  · exact wp_pure [(3, .pointer (some ⟨b1, 0, none⟩)), (107, .bool (p0.Op == 14))] hF (by kernel_rfl) fun fr hF => ⟨rfl, rfl, hF.eqs (by first | (simp only [hb]; done) | (simp only [hb]; rfl))⟩
  refine (wp_if hF (b := ((p0.Op == 12) || (p0.Op == 14))) rfl (fun hb => ?_) (fun hb => ?_))
  · replace h := iteT hb h
    refine wp_seq (region_b [] [true, false, true, true, true, false, true, true, true, true, false, true, true, true]
        [.eq (.pointer (some ⟨b1, 1, none⟩)), .eq (.int .i64 p0.A), .eq (.bool (p0.A == 0)), .eq (.bool (p0.A == 0)), .eq (.pointer (some ⟨b1, 2, none⟩)), .eq (.int .i64 p0.B), .eq (.bool (p0.B == 0)), .eq (.bool ((p0.A == 0) && (p0.B == 0))), .eq (.bool ((p0.A == 0) && (p0.B == 0))), .eq (.pointer (some ⟨b1, 3, none⟩)), .eq (.int .i64 p0.C), .eq (.bool (p0.C == 0)), .eq (.bool (((p0.A == 0) && (p0.B == 0)) && (p0.C == 0))), .eq (.bool (((p0.A == 0) && (p0.B == 0)) && (p0.C == 0)))]
        [(6, .bool (((p0.A == 0) && (p0.B == 0)) && (p0.C == 0)))] mix hF (by kernel_rfl) (by kernel_rfl) (by kernel_rfl) ⟨Pd.mono_eq, Pd.mono_eq, Pd.mono_eq, trivial⟩ (fun hG => ⟨np_loadBox hG hF ty3 rfl rfl (hs.bx 0 rfl) rfl rfl rfl, np_loadBox hG hF ty3 rfl rfl (hs.bx 0 rfl) rfl rfl rfl, np_loadBox hG hF ty3 rfl rfl (hs.bx 0 rfl) rfl rfl rfl, trivial⟩) (by kernel_rfl) fun fr w31 hF hE hc => then_normal ?_)
    have hs := hs.ext hc
    have hM0 := hM0.ext hc
    have hs : Sep [] w31 S1 := Sep.pick [] hs (by decide) rfl
    obtain rfl := Option.some.inj h
    exact wp_ret (blk_ret (then_ret (ret1 rfl hF rfl ⟨_, rfl, rfl, hM0.chg⟩)))
  replace h := iteF hb h
  have hs : Sep [] w2 S1 := Sep.pick [] hs (by decide) rfl
  refine (wp_skip ?_)
  refine blk_normal (then_normal ?_)
  refine wp_seq (wp_pure [(6, .bool false)] hF (by kernel_rfl) fun fr hF => then_normal ?_)
  obtain rfl := Option.some.inj h
  exact wp_ret (ret1 rfl hF rfl ⟨_, rfl, rfl, hM0.chg⟩)

theorem spec_ProgramOk_ok (n : Nat) (p0 : D.Program) {r : Bool} (h : spec_ProgramOk n p0 = some r) {w : World} {G0 : Nat → Prop} {va0 : Value} (ra0 : RV w G0 va0 p0) :
    Calls Try.prog 57 [va0].toArray w fun e w' => ∃ v, e = .returned v ∧ v = .bool r ∧ Chg Non w w' := by
  unfold spec_ProgramOk at h
  have hs := Sep.nil w Non
  have hM0 : Mem w Non (fun k => (G0 k) ∧ k < w.heap.size) w Non (fun k => (G0 k) ∧ k < w.heap.size) := Mem.start (fun _ h => h.elim) (fun _ h => h.2) (fun _ h => h.elim)
  have ra0 := ra0.sub (F' := (fun k => (G0 k) ∧ k < w.heap.size)) (fun k hk h => ⟨h, hk⟩)
  obtain ⟨v1, rfl, r1⟩ := RV.Program ra0
  obtain ⟨a1, c1, rfl, -⟩ := r1.slice
  refine enter (N := 52) Try.func57 rfl Try.ntmps57 rfl fun fr hF => ?_
  refine wp_seq (wp_text' ?_)
  refine q_box hs hM0 [.int .i64 p0.W, .int .i64 p0.Mem, .int .i64 p0.In, .slice a1 (List.length p0.Code) c1] rfl rfl hF rfl rfl fun b1 w1 S1 fr hs hp hF => ?_
  have r1 := r1.stp hM0 hp
  have hM0 := hM0.stp hp
  have hs : Sep [BX b1 30 [.int .i64 p0.W, .int .i64 p0.Mem, .int .i64 p0.In, .slice a1 (List.length p0.Code) c1]] w1 S1 := hs
  refine from_pure 1 [(1, .pointer (some ⟨b1, 0, none⟩))] hF (by kernel_rfl) fun fr hF => ?_
  refine from_end rfl (then_normal ?_)
  refine wp_seq ?_
  obtain ⟨x1, hx1, h⟩ := bindE h
  obtain ⟨x2, hx2, h⟩ := bindE h
  obtain ⟨x3, hx3, h⟩ := bindE h
  obtain ⟨x4, hx4, h⟩ := bindE h
  obtain ⟨x5, hx5, h⟩ := bindE h
  refine wp_seq (region_b [] [true, false, false, true, true, true, false, false, true, true, true, true, false, true, false, false, true, true, true, true, false, false, true, true, true, true, false, true, false, true, true]
      (.eq (.pointer (some ⟨b1, 0, none⟩)) :: .eq (.int .i64 p0.W) :: .eq (.bool x1) :: .eq (.bool (!x1)) :: .eq (.bool (!x1)) :: .eq (.pointer (some ⟨b1, 1, none⟩)) :: .eq (.int .i64 p0.Mem) :: .eq (.bool x2) :: .eq (.bool (!x2)) :: .eq (.bool ((!x1) || (!x2))) :: .eq (.bool ((!x1) || (!x2))) :: .eq (.pointer (some ⟨b1, 0, none⟩)) :: .eq (.int .i64 p0.W) :: .eq (.pointer (some ⟨b1, 1, none⟩)) :: .eq (.int .i64 p0.Mem) :: .eq (.bool x3) :: .eq (.bool (!x3)) :: .eq (.bool (((!x1) || (!x2)) || (!x3))) :: .eq (.bool (((!x1) || (!x2)) || (!x3))) :: .eq (.pointer (some ⟨b1, 2, none⟩)) :: .eq (.int .i64 p0.In) :: .eq (.bool x4) :: .eq (.bool (!x4)) :: .eq (.bool ((((!x1) || (!x2)) || (!x3)) || (!x4))) :: .eq (.bool ((((!x1) || (!x2)) || (!x3)) || (!x4))) :: .eq (.pointer (some ⟨b1, 3, none⟩)) :: .eq (.slice a1 (List.length p0.Code) c1) :: .eq (.int .i64 (len p0.Code)) :: .eq (.bool x5) :: .eq (.bool (!x5)) :: .eq (.bool (((((!x1) || (!x2)) || (!x3)) || (!x4)) || (!x5))) :: [])
      [(1, .pointer (some ⟨b1, 0, none⟩)), (35, .bool (((((!x1) || (!x2)) || (!x3)) || (!x4)) || (!x5)))] mix hF (by kernel_rfl) (by kernel_rfl) (by kernel_rfl) ⟨Pd.mono_eq, Pd.mono_eq, Pd.mono_eq, Pd.mono_eq, Pd.mono_eq, Pd.mono_eq, Pd.mono_eq, Pd.mono_eq, Pd.mono_eq, Pd.mono_eq, Pd.mono_eq, trivial⟩ (fun hG => ⟨np_loadBox hG hF ty3 rfl rfl (hs.bx 0 rfl) rfl rfl rfl, np_call [.int .i64 p0.W, .int .i64 2, .int .i64 8] hG hF Try.call58 rfl rfl (fun w hC hg => (spec_l01In_ok p0.W 2 8 hx1).mono fun e w' ⟨v, he, hv, hc⟩ => ⟨v, he, hc, hv⟩), np_loadBox hG hF ty3 rfl rfl (hs.bx 0 rfl) rfl rfl rfl, np_call [.int .i64 p0.Mem, .int .i64 1, .int .i64 6] hG hF Try.call58 rfl rfl (fun w hC hg => (spec_l01In_ok p0.Mem 1 6 (iteF hg.2 hx2)).mono fun e w' ⟨v, he, hv, hc⟩ => ⟨v, he, hc, hv⟩), np_loadBox hG hF ty3 rfl rfl (hs.bx 0 rfl) rfl rfl rfl, np_loadBox hG hF ty3 rfl rfl (hs.bx 0 rfl) rfl rfl rfl, np_call [.int .i64 p0.W, .int .i64 p0.Mem] hG hF Try.call103 rfl rfl (fun w hC hg => (spec_WordOk_ok p0.W p0.Mem (iteF hg.2 hx3)).mono fun e w' ⟨v, he, hv, hc⟩ => ⟨v, he, hc, hv⟩), np_loadBox hG hF ty3 rfl rfl (hs.bx 0 rfl) rfl rfl rfl, np_call [.int .i64 p0.In, .int .i64 0, .int .i64 3] hG hF Try.call58 rfl rfl (fun w hC hg => (spec_l01In_ok p0.In 0 3 (iteF hg.2 hx4)).mono fun e w' ⟨v, he, hv, hc⟩ => ⟨v, he, hc, hv⟩), np_loadBox hG hF ty28 rfl rfl (hs.bx 0 rfl) rfl rfl rfl, np_call [.int .i64 (len p0.Code), .int .i64 1, .int .i64 40] hG hF Try.call58 rfl rfl (fun w hC hg => (spec_l01In_ok (len p0.Code) 1 40 (iteF hg.2 hx5)).mono fun e w' ⟨v, he, hv, hc⟩ => ⟨v, he, hc, hv⟩), trivial⟩) (by kernel_rfl) fun fr w2 hF hE hc => then_normal ?_)
  have r1 := r1.ext hc
  have hs := hs.ext hc
  have hM0 := hM0.ext hc
  refine (wp_if hF (b := (((((!x1) || (!x2)) || (!x3)) || (!x4)) || (!x5))) rfl (fun hb => ?_) (fun hb => ?_))
  · replace h := iteT hb h
    have hs : Sep [] w2 S1 := Sep.pick [] hs (by decide) rfl
    refine wp_seq (wp_pure [(2, .bool false)] hF (by kernel_rfl) fun fr hF => then_normal ?_)
    obtain rfl := Option.some.inj h
    exact wp_ret (then_ret (ret1 rfl hF rfl ⟨_, rfl, rfl, hM0.chg⟩))
  replace h := iteF hb h
  refine (wp_skip (then_normal ?_))
  refine wp_seq ?_
  refine wp_seq (wp_text' ?_)
  refine from_pure 1 [(1, .pointer (some ⟨b1, 0, none⟩)), (36, .pointer (some ⟨b1, 3, none⟩))] hF (by kernel_rfl) fun fr hF => ?_
  refine s_loadBox (.slice a1 (List.length p0.Code) c1) ty28 rfl rfl hF rfl (hs.bx 0 rfl) rfl rfl fun fr hF => ?_
  refine from_pure 2 [(1, .pointer (some ⟨b1, 0, none⟩)), (37, .slice a1 (List.length p0.Code) c1), (38, .int .i64 (len p0.Code)), (39, .int .i64 0)] hF (by kernel_rfl) fun fr hF => ?_
  refine from_end rfl (then_normal ?_)
  obtain ⟨rl1, hit1, h⟩ := bindE h
  have hk1 := h
  refine (wp_cut (M := fun fr w' => ∃ s, rl1 = .inl s ∧ ∃ S3 F2, FrS 52 [] fr ∧ Mem w2 S1 (fun k => (G0 k) ∧ k < w.heap.size) w' S3 F2 ∧ Sep [] w' S3) (wp_block (wp_iter (Inv := fun s1 fr w' => ∃ S2 F1, FrS 52 [(1, .pointer (some ⟨b1, 0, none⟩)), (37, .slice a1 (List.length p0.Code) c1), (38, .int .i64 (len p0.Code)), (39, .int .i64 s1)] fr ∧ Mem w2 S1 (fun k => (G0 k) ∧ k < w.heap.size) w' S2 F1 ∧ Sep [BX b1 30 [.int .i64 p0.W, .int .i64 p0.Mem, .int .i64 p0.In, .slice a1 (List.length p0.Code) c1]] w' S2) hit1 ⟨S1, _, hF.sub _ (by kernel_rfl), (Mem.start hM0.bd hM0.bdF hM0.dj), hs⟩ fun s1 q1 fr w1i hI h hr1 => ?_)) fun fr w1o hM => ?_)
  · obtain ⟨S2, F1, hF, hM1, hs⟩ := hI
    have r1 := r1.mem hM1
    refine wp_seq (wp_pure [(1, .pointer (some ⟨b1, 0, none⟩)), (37, .slice a1 (List.length p0.Code) c1), (38, .int .i64 (len p0.Code)), (39, .int .i64 s1), (40, .bool (decide (s1 < (len p0.Code))))] hF (by kernel_rfl) fun fr hF => then_normal ?_)
    refine wp_seq (wp_if hF (b := (decide (s1 < (len p0.Code)))) rfl (fun hb => ?_) (fun hb => ?_))
    · replace h := iteT hb h
      refine (wp_skip (then_normal ?_))
      refine wp_seq (wp_block ?_)
      refine wp_seq (wp_text' ?_)
      obtain ⟨x6, hx6, h⟩ := bindE h
      refine s_elemF (z := x6) (.agg #[.int .i64 x6.Op, .int .i64 x6.A, .int .i64 x6.B, .int .i64 x6.C]) ty90 Try.underlying28 rfl rfl rfl rfl rfl hF rfl (r1) rfl (get?_nn hx6) (get?_at hx6) rfl fun p fr hF => ?_
      refine q_alloc (z := .agg #[.int .i64 0, .int .i64 0, .int .i64 0, .int .i64 0]) hs hM1 [.int .i64 0, .int .i64 0, .int .i64 0, .int .i64 0] rfl rfl hF (by kernel_rfl) rfl fun b2 w3 S4 fr hs hp hF => ?_
      have r1 := r1.stp hM1 hp
      have hM1 := hM1.stp hp
      have hs : Sep [BX b2 90 [.int .i64 0, .int .i64 0, .int .i64 0, .int .i64 0], BX b1 30 [.int .i64 p0.W, .int .i64 p0.Mem, .int .i64 p0.In, .slice a1 (List.length p0.Code) c1]] w3 S4 := hs
      refine q_storeBoxS 0 hs hM1 rfl [.int .i64 x6.Op, .int .i64 x6.A, .int .i64 x6.B, .int .i64 x6.C] rfl hF rfl rfl (by kernel_rfl) rfl rfl rfl fun w4 S5 hs hp hF => ?_
      have r1 := r1.stp hM1 hp
      have hM1 := hM1.stp hp
      have hs : Sep [BX b2 90 [.int .i64 x6.Op, .int .i64 x6.A, .int .i64 x6.B, .int .i64 x6.C], BX b1 30 [.int .i64 p0.W, .int .i64 p0.Mem, .int .i64 p0.In, .slice a1 (List.length p0.Code) c1]] w4 S5 := hs
      refine from_end rfl (then_normal ?_)
      refine wp_seq (wp_text' ?_)
      refine s_loadBoxS ty90 rfl rfl hF rfl (hs.bx 0 rfl) rfl rfl fun fr hF => ?_
      have hs : Sep [BX b1 30 [.int .i64 p0.W, .int .i64 p0.Mem, .int .i64 p0.In, .slice a1 (List.length p0.Code) c1]] w4 S5 := Sep.pick [1] hs (by decide) rfl
      refine from_pure 1 [(1, .pointer (some ⟨b1, 0, none⟩)), (37, .slice a1 (List.length p0.Code) c1), (38, .int .i64 (len p0.Code)), (39, .int .i64 s1), (43, .agg #[.int .i64 x6.Op, .int .i64 x6.A, .int .i64 x6.B, .int .i64 x6.C]), (44, .pointer (some ⟨b1, 0, none⟩))] hF (by kernel_rfl) fun fr hF => ?_
      refine s_loadBox (.int .i64 p0.W) ty3 rfl rfl hF rfl (hs.bx 0 rfl) rfl rfl fun fr hF => ?_
      refine from_pure 1 [(1, .pointer (some ⟨b1, 0, none⟩)), (37, .slice a1 (List.length p0.Code) c1), (38, .int .i64 (len p0.Code)), (39, .int .i64 s1), (43, .agg #[.int .i64 x6.Op, .int .i64 x6.A, .int .i64 x6.B, .int .i64 x6.C]), (45, .int .i64 p0.W), (46, .pointer (some ⟨b1, 3, none⟩))] hF (by kernel_rfl) fun fr hF => ?_
      refine s_loadBox (.slice a1 (List.length p0.Code) c1) ty28 rfl rfl hF rfl (hs.bx 0 rfl) rfl rfl fun fr hF => ?_
      refine from_pure 1 [(1, .pointer (some ⟨b1, 0, none⟩)), (37, .slice a1 (List.length p0.Code) c1), (38, .int .i64 (len p0.Code)), (39, .int .i64 s1), (43, .agg #[.int .i64 x6.Op, .int .i64 x6.A, .int .i64 x6.B, .int .i64 x6.C]), (45, .int .i64 p0.W), (48, .int .i64 (len p0.Code))] hF (by kernel_rfl) fun fr hF => ?_
      obtain ⟨x7, hx7, h⟩ := bindE h
      refine s_call [.agg #[.int .i64 x6.Op, .int .i64 x6.A, .int .i64 x6.B, .int .i64 x6.C], .int .i64 p0.W, .int .i64 (len p0.Code)] Try.call104 rfl rfl hF rfl (spec_l05Ins_ok x6 p0.W (len p0.Code) hx7) fun v w5 fr hRes hF => ?_
      obtain ⟨rfl, hc⟩ := hRes
      have r1 := r1.ext hc
      have hs := hs.ext hc
      have hM1 := hM1.ext hc
      refine from_pure 1 [(1, .pointer (some ⟨b1, 0, none⟩)), (37, .slice a1 (List.length p0.Code) c1), (38, .int .i64 (len p0.Code)), (39, .int .i64 s1), (50, .bool (!x7))] hF (by kernel_rfl) fun fr hF => ?_
      refine from_end rfl (then_normal ?_)
      refine (wp_if hF (b := (!x7)) rfl (fun hb => ?_) (fun hb => ?_))
      · replace h := iteT hb h
        have hs : Sep [] w5 S5 := Sep.pick [] hs (by decide) rfl
        refine wp_seq (wp_pure [(2, .bool false)] hF (by kernel_rfl) fun fr hF => then_normal ?_)
        obtain rfl := hr1 _ (Option.some.inj h).symm
        obtain rfl := Option.some.inj hk1
        exact wp_ret (blk_ret (then_ret (then_ret (blk_ret (then_ret (ret1 rfl hF rfl ⟨_, rfl, rfl, (hM0.trans hM1).chg⟩))))))
      replace h := iteF hb h
      refine (wp_skip ?_)
      refine blk_normal (then_normal ?_)
      refine (wp_pure [(1, .pointer (some ⟨b1, 0, none⟩)), (37, .slice a1 (List.length p0.Code) c1), (38, .int .i64 (len p0.Code)), (39, .int .i64 (w64 (s1 + 1)))] hF (by kernel_rfl) fun fr hF => then_normal ?_)
      exact ⟨_, (Option.some.inj h).symm, S5, _, hF.sub _ (by kernel_rfl), hM1, hs⟩
    replace h := iteF hb h
    have hs : Sep [] w1i S2 := Sep.pick [] hs (by decide) rfl
    refine (wp_exit (then_exit (then_exit (blk_exit_eq ?_))))
    obtain rfl := hr1 _ (Option.some.inj h).symm
    exact then_normal ⟨_, rfl, S2, _, hF.sub _ (by kernel_rfl), hM1, hs⟩
  · obtain ⟨s1r, rfl, hM⟩ := hM
    obtain ⟨S3, F2, hF, hMx, hs⟩ := hM
    have hM0 := hM0.trans hMx
    refine wp_seq (wp_pure [(2, .bool true)] hF (by kernel_rfl) fun fr hF => then_normal ?_)
    obtain rfl := Option.some.inj h
    exact wp_ret (ret1 rfl hF rfl ⟨_, rfl, rfl, hM0.chg⟩)

theorem spec_WordOf_ok (p0 : Int) (p1 : Int) {r : Int} (h : spec_WordOf p0 p1 = some r) {w : World} :
    Calls Try.prog 65 [.int .i64 p0, .int .i64 p1].toArray w fun e w' => ∃ v, e = .returned v ∧ v = .int .i64 r ∧ Chg Non w w' := by
  unfold spec_WordOf at h
  have hs := Sep.nil w Non
  have hM0 : Mem w Non (fun k => (False) ∧ k < w.heap.size) w Non (fun k => (False) ∧ k < w.heap.size) := Mem.start (fun _ h => h.elim) (fun _ h => h.2) (fun _ h => h.elim)
  refine enter (N := 13) Try.func65 rfl Try.ntmps65 rfl fun fr hF => ?_
  refine wp_seq (wp_pure [(0, .int .i64 p0), (1, .int .i64 p1)] hF (by kernel_rfl) fun fr hF => then_normal ?_)
  refine wp_seq ?_
  refine wp_seq (wp_text' ?_)
  refine from_pure 1 [(0, .int .i64 p0), (1, .int .i64 p1), (5, .int .i64 p0)] hF (by kernel_rfl) fun fr hF => ?_
  obtain ⟨x1, hx1, h⟩ := bindE h
  refine s_call [.int .i64 p0, .int .i64 1, .int .i64 16] Try.call58 rfl rfl hF rfl (spec_l01In_ok p0 1 16 hx1) fun v w1 fr hRes hF => ?_
  obtain ⟨rfl, hc⟩ := hRes
  have hs := hs.ext hc
  have hM0 := hM0.ext hc
  refine from_pure 1 [(0, .int .i64 p0), (1, .int .i64 p1), (7, .bool (!x1))] hF (by kernel_rfl) fun fr hF => ?_
  refine from_end rfl (then_normal ?_)
  refine (wp_if hF (b := (!x1)) rfl (fun hb => ?_) (fun hb => ?_))
  · replace h := iteT hb h
    refine wp_seq (wp_pure [(4, .int .i64 (-1))] hF (by kernel_rfl) fun fr hF => then_normal ?_)
    obtain rfl := Option.some.inj h
    exact wp_ret (then_ret (ret1 rfl hF rfl ⟨_, rfl, rfl, hM0.chg⟩))
  replace h := iteF hb h
  refine (wp_skip (then_normal ?_))
  refine wp_seq (wp_text' ?_)
  refine from_pure 2 [(8, .int .i64 p1), (9, .int .i64 p0)] hF (by kernel_rfl) fun fr hF => ?_
  obtain ⟨x2, hx2, h⟩ := bindE h
  refine s_shl rfl rfl hF rfl rfl hx2 fun fr hF => ?_
  refine from_pure 3 [(4, .int .i64 (band p1 (w64 (x2 - 1))))] hF (by kernel_rfl) fun fr hF => ?_
  refine from_end rfl (then_normal ?_)
  obtain rfl := Option.some.inj h
  exact wp_ret (ret1 rfl hF rfl ⟨_, rfl, rfl, hM0.chg⟩)

theorem spec_AllInputs_ok (n : Nat) (p0 : D.Program) {r : (List (List Int))} (h : spec_AllInputs n p0 = some r) {w : World} {G0 : Nat → Prop} {va0 : Value} (ra0 : RV w G0 va0 p0) :
    Calls Try.prog 24 [va0].toArray w fun e w' => ∃ v, e = .returned v ∧ ∃ a1 c1 rs2, v = .slice a1 (List.length r) c1 ∧ ∃ S', Stp w Non w' S' ∧ Sep [SL (α := Hd) 26 (.slice a1 (List.length r) c1) rs2, HP.all own26 rs2 r] w' S' := by
  unfold spec_AllInputs at h
  have hs := Sep.nil w Non
  have hM0 : Mem w Non (fun k => (G0 k) ∧ k < w.heap.size) w Non (fun k => (G0 k) ∧ k < w.heap.size) := Mem.start (fun _ h => h.elim) (fun _ h => h.2) (fun _ h => h.elim)
  have ra0 := ra0.sub (F' := (fun k => (G0 k) ∧ k < w.heap.size)) (fun k hk h => ⟨h, hk⟩)
  obtain ⟨v1, rfl, r1⟩ := RV.Program ra0
  obtain ⟨a1, c1, rfl, -⟩ := r1.slice
  refine enter (N := 54) Try.func24 rfl Try.ntmps24 rfl fun fr hF => ?_
  refine wp_seq (wp_text' ?_)
  refine q_box hs hM0 [.int .i64 p0.W, .int .i64 p0.Mem, .int .i64 p0.In, .slice a1 (List.length p0.Code) c1] rfl rfl hF rfl rfl fun b1 w1 S1 fr hs hp hF => ?_
  have r1 := r1.stp hM0 hp
  have hM0 := hM0.stp hp
  have hs : Sep [BX b1 30 [.int .i64 p0.W, .int .i64 p0.Mem, .int .i64 p0.In, .slice a1 (List.length p0.Code) c1]] w1 S1 := hs
  refine from_pure 1 [(1, .pointer (some ⟨b1, 0, none⟩))] hF (by kernel_rfl) fun fr hF => ?_
  refine from_end rfl (then_normal ?_)
  refine wp_seq ?_
  obtain ⟨x1, hx1, h⟩ := bindE h
  refine wp_seq (region_b [] [false, false, true, true, true, false, true, false, true, true, true]
      [.eq (.agg #[.int .i64 p0.W, .int .i64 p0.Mem, .int .i64 p0.In, .slice a1 (List.length p0.Code) c1]), .eq (.bool x1), .eq (.bool (!x1)), .eq (.bool (!x1)), .eq (.pointer (some ⟨b1, 0, none⟩)), .eq (.int .i64 p0.W), .eq (.pointer (some ⟨b1, 2, none⟩)), .eq (.int .i64 p0.In), .eq (.int .i64 (w64 (p0.W * p0.In))), .eq (.bool (decide ((w64 (p0.W * p0.In)) > 12))), .eq (.bool ((!x1) || (decide ((w64 (p0.W * p0.In)) > 12))))]
      [(1, .pointer (some ⟨b1, 0, none⟩)), (17, .bool ((!x1) || (decide ((w64 (p0.W * p0.In)) > 12))))] mix hF (by kernel_rfl) (by kernel_rfl) (by kernel_rfl) ⟨Pd.mono_eq, Pd.mono_eq, Pd.mono_eq, Pd.mono_eq, trivial⟩ (fun hG => ⟨np_loadBoxS hG hF ty30 rfl rfl (hs.bx 0 rfl) rfl rfl rfl rfl, np_call [.agg #[.int .i64 p0.W, .int .i64 p0.Mem, .int .i64 p0.In, .slice a1 (List.length p0.Code) c1]] hG hF Try.call57 rfl rfl (fun w hC hg => (spec_ProgramOk_ok n p0 hx1 ((RV.mk_Program p0 (r1)).ext hC)).mono fun e w' ⟨v, he, hv, hc⟩ => ⟨v, he, hc, hv⟩), np_loadBox hG hF ty3 rfl rfl (hs.bx 0 rfl) rfl rfl rfl, np_loadBox hG hF ty3 rfl rfl (hs.bx 0 rfl) rfl rfl rfl, trivial⟩) (by kernel_rfl) fun fr w2 hF hE hc => then_normal ?_)
  have r1 := r1.ext hc
  have hs := hs.ext hc
  have hM0 := hM0.ext hc
  refine (wp_if hF (b := ((!x1) || (decide ((w64 (p0.W * p0.In)) > 12)))) rfl (fun hb => ?_) (fun hb => ?_))
  · replace h := iteT hb h
    have hs : Sep [] w2 S1 := Sep.pick [] hs (by decide) rfl
    refine wp_seq (wp_pure [(2, .slice none (List.length ([] : List (List Int))) 0)] hF (by kernel_rfl) fun fr hF => then_normal ?_)
    have hs : Sep [SL (α := Hd) 26 (.slice none (List.length ([] : List (List Int))) 0) ([] : List Hd), HP.all own26 ([] : List Hd) ([] : List (List Int))] w2 S1 := (hs.emp (HP.all own26 [] []) trivial).cons_nil (α := Hd) 26
    obtain rfl := Option.some.inj h
    exact wp_ret (then_ret (ret1 rfl hF rfl ⟨_, rfl, none, 0, ([] : List Hd), rfl, S1, hM0.out, hs⟩))
  replace h := iteF hb h
  refine (wp_skip (then_normal ?_))
  refine wp_seq (wp_text' ?_)
  refine q_lit (E := 26) hs hM0 [] (([] : List Hd).map Flat.enc) ([] : List Hd) rfl rfl hF [] rfl (fun w => by kernel_rfl) (css_flat _) rfl rfl rfl fun a2 c2 w3 S2 fr hs hp hF => ?_
  have r1 := r1.stp hM0 hp
  have hM0 := hM0.stp hp
  have hs : Sep [SL (α := Hd) 26 (.slice a2 (List.length ([] : List (List Int))) c2) ([] : List Hd), BX b1 30 [.int .i64 p0.W, .int .i64 p0.Mem, .int .i64 p0.In, .slice a1 (List.length p0.Code) c1]] w3 S2 := hs
  have hs : Sep [HP.all own26 ([] : List Hd) ([] : List (List Int)), SL (α := Hd) 26 (.slice a2 (List.length ([] : List (List Int))) c2) ([] : List Hd), BX b1 30 [.int .i64 p0.W, .int .i64 p0.Mem, .int .i64 p0.In, .slice a1 (List.length p0.Code) c1]] w3 S2 := hs.emp (HP.all own26 [] []) trivial
  refine from_pure 1 [(1, .pointer (some ⟨b1, 0, none⟩)), (3, .slice a2 (List.length ([] : List (List Int))) c2)] hF (by kernel_rfl) fun fr hF => ?_
  refine from_end rfl (then_normal ?_)
  refine wp_seq ?_
  refine wp_seq (wp_pure [(1, .pointer (some ⟨b1, 0, none⟩)), (3, .slice a2 (List.length ([] : List (List Int))) c2), (4, .int .i64 0)] hF (by kernel_rfl) fun fr hF => then_normal ?_)
  obtain ⟨rl1, hit1, h⟩ := bindE h
  have hk1 := h
  refine (wp_cut (M := fun fr w' => ∃ rs2 a4 c4 S4 F2, FrS 54 [(3, .slice a4 (List.length rl1) c4)] fr ∧ Mem w3 S2 (fun k => (G0 k) ∧ k < w.heap.size) w' S4 F2 ∧ Sep [HP.all own26 rs2 rl1, SL (α := Hd) 26 (.slice a4 (List.length rl1) c4) rs2] w' S4) (wp_block (wp_iter (Inv := fun s1 fr w' => ∃ rs1 a3 c3 S3 F1, FrS 54 [(1, .pointer (some ⟨b1, 0, none⟩)), (3, .slice a3 (List.length s1.2) c3), (4, .int .i64 s1.1)] fr ∧ Mem w3 S2 (fun k => (G0 k) ∧ k < w.heap.size) w' S3 F1 ∧ Sep [HP.all own26 rs1 s1.2, SL (α := Hd) 26 (.slice a3 (List.length s1.2) c3) rs1, BX b1 30 [.int .i64 p0.W, .int .i64 p0.Mem, .int .i64 p0.In, .slice a1 (List.length p0.Code) c1]] w' S3) hit1 ⟨([] : List Hd), a2, c2, S2, _, hF.sub _ (by kernel_rfl), (Mem.start hM0.bd hM0.bdF hM0.dj), hs⟩ fun s1 q1 fr w1i hI h hr1 => ?_)) fun fr w1o hM => ?_)
  · obtain ⟨rs1, a3, c3, S3, F1, hF, hM1, hs⟩ := hI
    have r1 := r1.mem hM1
    refine wp_seq ?_
    refine wp_seq (wp_text' ?_)
    refine from_pure 2 [(1, .pointer (some ⟨b1, 0, none⟩)), (3, .slice a3 (List.length s1.2) c3), (4, .int .i64 s1.1), (19, .int .i64 s1.1), (20, .pointer (some ⟨b1, 0, none⟩))] hF (by kernel_rfl) fun fr hF => ?_
    refine s_loadBox (.int .i64 p0.W) ty3 rfl rfl hF rfl (hs.bx 2 rfl) rfl rfl fun fr hF => ?_
    refine from_pure 1 [(1, .pointer (some ⟨b1, 0, none⟩)), (3, .slice a3 (List.length s1.2) c3), (4, .int .i64 s1.1), (19, .int .i64 s1.1), (21, .int .i64 p0.W), (22, .pointer (some ⟨b1, 2, none⟩))] hF (by kernel_rfl) fun fr hF => ?_
    refine s_loadBox (.int .i64 p0.In) ty3 rfl rfl hF rfl (hs.bx 2 rfl) rfl rfl fun fr hF => ?_
    refine from_pure 1 [(1, .pointer (some ⟨b1, 0, none⟩)), (3, .slice a3 (List.length s1.2) c3), (4, .int .i64 s1.1), (19, .int .i64 s1.1), (24, .int .i64 (w64 (p0.W * p0.In)))] hF (by kernel_rfl) fun fr hF => ?_
    obtain ⟨x2, hx2, h⟩ := bindE h
    refine s_shl rfl rfl hF rfl rfl hx2 fun fr hF => ?_
    refine from_pure 1 [(1, .pointer (some ⟨b1, 0, none⟩)), (3, .slice a3 (List.length s1.2) c3), (4, .int .i64 s1.1), (26, .bool (decide (s1.1 < x2)))] hF (by kernel_rfl) fun fr hF => ?_
    refine from_end rfl (then_normal ?_)
    refine (wp_if hF (b := (decide (s1.1 < x2))) rfl (fun hb => ?_) (fun hb => ?_))
    · replace h := iteT hb h
      refine (wp_skip (then_normal ?_))
      refine wp_seq (wp_block ?_)
      refine wp_seq (wp_text' ?_)
      refine q_lit (E := 3) hs hM1 [] (([] : List Int).map Flat.enc) ([] : List Int) rfl rfl hF [] rfl (fun w => by kernel_rfl) (css_flat _) rfl rfl rfl fun a5 c5 w4 S5 fr hs hp hF => ?_
      have r1 := r1.stp hM1 hp
      have hM1 := hM1.stp hp
      have hs : Sep [SL (α := Int) 3 (.slice a5 (List.length ([] : List Int)) c5) ([] : List Int), HP.all own26 rs1 s1.2, SL (α := Hd) 26 (.slice a3 (List.length s1.2) c3) rs1, BX b1 30 [.int .i64 p0.W, .int .i64 p0.Mem, .int .i64 p0.In, .slice a1 (List.length p0.Code) c1]] w4 S5 := hs
      refine from_pure 1 [(1, .pointer (some ⟨b1, 0, none⟩)), (3, .slice a3 (List.length s1.2) c3), (4, .int .i64 s1.1), (5, .slice a5 (List.length ([] : List Int)) c5)] hF (by kernel_rfl) fun fr hF => ?_
      refine from_end rfl (then_normal ?_)
      refine wp_seq ?_
      refine wp_seq (wp_text' ?_)
      refine from_pure 1 [(1, .pointer (some ⟨b1, 0, none⟩)), (3, .slice a3 (List.length s1.2) c3), (4, .int .i64 s1.1), (5, .slice a5 (List.length ([] : List Int)) c5), (30, .pointer (some ⟨b1, 2, none⟩))] hF (by kernel_rfl) fun fr hF => ?_
      refine s_loadBox (.int .i64 p0.In) ty3 rfl rfl hF rfl (hs.bx 3 rfl) rfl rfl fun fr hF => ?_
      refine from_pure 2 [(1, .pointer (some ⟨b1, 0, none⟩)), (3, .slice a3 (List.length s1.2) c3), (4, .int .i64 s1.1), (5, .slice a5 (List.length ([] : List Int)) c5), (6, .int .i64 (w64 (p0.In - 1)))] hF (by kernel_rfl) fun fr hF => ?_
      refine from_end rfl (then_normal ?_)
      obtain ⟨rl2, hit2, h⟩ := bindE h
      have hk2 := h
      refine (wp_cut (M := fun fr w' => ∃ a7 c7 S7 F4, FrS 54 [(1, .pointer (some ⟨b1, 0, none⟩)), (3, .slice a3 (List.length s1.2) c3), (4, .int .i64 s1.1), (5, .slice a7 (List.length rl2) c7)] fr ∧ Mem w4 S5 F1 w' S7 F4 ∧ Sep [SL (α := Int) 3 (.slice a7 (List.length rl2) c7) rl2, HP.all own26 rs1 s1.2, SL (α := Hd) 26 (.slice a3 (List.length s1.2) c3) rs1, BX b1 30 [.int .i64 p0.W, .int .i64 p0.Mem, .int .i64 p0.In, .slice a1 (List.length p0.Code) c1]] w' S7) (wp_block (wp_iter (Inv := fun s2 fr w' => ∃ a6 c6 S6 F3, FrS 54 [(1, .pointer (some ⟨b1, 0, none⟩)), (3, .slice a3 (List.length s1.2) c3), (4, .int .i64 s1.1), (5, .slice a6 (List.length s2.2) c6), (6, .int .i64 s2.1)] fr ∧ Mem w4 S5 F1 w' S6 F3 ∧ Sep [SL (α := Int) 3 (.slice a6 (List.length s2.2) c6) s2.2, HP.all own26 rs1 s1.2, SL (α := Hd) 26 (.slice a3 (List.length s1.2) c3) rs1, BX b1 30 [.int .i64 p0.W, .int .i64 p0.Mem, .int .i64 p0.In, .slice a1 (List.length p0.Code) c1]] w' S6) hit2 ⟨a5, c5, S5, _, hF.sub _ (by kernel_rfl), (Mem.start hM1.bd hM1.bdF hM1.dj), hs⟩ fun s2 q2 fr w2i hI h hr2 => ?_)) fun fr w2o hM => ?_)
      · obtain ⟨a6, c6, S6, F3, hF, hM2, hs⟩ := hI
        have r1 := r1.mem hM2
        refine wp_seq ?_
        refine wp_seq (wp_pure [(1, .pointer (some ⟨b1, 0, none⟩)), (3, .slice a3 (List.length s1.2) c3), (4, .int .i64 s1.1), (5, .slice a6 (List.length s2.2) c6), (6, .int .i64 s2.1), (34, .bool (decide (s2.1 ≥ 0)))] hF (by kernel_rfl) fun fr hF => then_normal ?_)
        refine (wp_if hF (b := (decide (s2.1 ≥ 0))) rfl (fun hb => ?_) (fun hb => ?_))
        · replace h := iteT hb h
          refine (wp_skip (then_normal ?_))
          refine wp_seq (wp_block ?_)
          obtain ⟨x3, hx3, h⟩ := bindE h
          obtain ⟨x4, hx4, h⟩ := bindE h
          refine (region_bm 11 [0, 0, 2, 0, 0, 0, 32, 112, 248, 510, 1022, 2047, 4095] [true, true, false, true, true, true, false, true, false, false, false]
              [.eq (.slice a6 (List.length s2.2) c6), .eq (.pointer (some ⟨b1, 0, none⟩)), .eq (.int .i64 p0.W), .eq (.int .i64 s1.1), .eq (.int .i64 s2.1), .eq (.pointer (some ⟨b1, 0, none⟩)), .eq (.int .i64 p0.W), .eq (.int .i64 (w64 (s2.1 * p0.W))), .eq (.int .i64 x3), .eq (.int .i64 x4), .own fun ow v w => ∃ i : Option Addr × Nat, v = .slice i.1 (List.length ([x4] : List Int)) i.2 ∧ (SL (α := Int) 3 (.slice i.1 (List.length ([x4] : List Int)) i.2) ([x4] : List Int)).ok w (fun k => w2i.heap.size ≤ k ∧ k < w.heap.size ∧ ow k = 10), .any, .any]
              [(1, .pointer (some ⟨b1, 0, none⟩)), (3, .slice a3 (List.length s1.2) c3), (4, .int .i64 s1.1), (6, .int .i64 s2.1), (37, .slice a6 (List.length s2.2) c6)] mix hF (by kernel_rfl) (by kernel_rfl) (by kernel_rfl) (by kernel_rfl) ⟨Pd.monoO_eq, Pd.monoO_eq, Pd.monoO_eq, Pd.monoO_eq, mono_new, trivial⟩ (fun ow hG => ⟨np_to ow (np_loadBox hG hF ty3 rfl rfl (hs.bx 3 rfl) rfl rfl rfl), np_to ow (np_loadBox hG hF ty3 rfl rfl (hs.bx 3 rfl) rfl rfl rfl), np_to ow (np_shr hG hF rfl rfl rfl (fun hg => hx3) rfl), np_to ow (np_call [.int .i64 p0.W, .int .i64 x3] hG hF Try.call65 rfl rfl (fun w hC hg => (spec_WordOf_ok p0.W x3 hx4).mono fun e w' ⟨v, he, hv, hc⟩ => ⟨v, he, hc, hv⟩)), np_lit (E := 3) [.int .i64 x4] (([x4] : List Int).map Flat.enc) ([x4] : List Int) hG hF rfl [.int .i64 x4] rfl (fun w => by kernel_rfl) (fun w => css_flat _) rfl rfl rfl rfl, trivial⟩) (by kernel_rfl) fun ow fr w5 hF hE hc => ?_)
          obtain ⟨⟨a8, c8⟩, hv, hnw10⟩ := hE.is 47 10 rfl rfl
          have hF := hF.cons hv
          have hsN := sepO (w0 := w2i) (ow := ow) [(10, SL (α := Int) 3 (.slice a8 (List.length ([x4] : List Int)) c8) ([x4] : List Int))] (show ([10] : List Nat).Nodup by decide) ⟨hnw10, trivial⟩ rfl
          obtain ⟨S8, hp, hs⟩ := hs.got hM2 (stp_new hc) hsN
          have r1 := r1.stp hM2 hp
          have hM2 := hM2.stp hp
          have hs : Sep [SL (α := Int) 3 (.slice a8 (List.length ([x4] : List Int)) c8) ([x4] : List Int), SL (α := Int) 3 (.slice a6 (List.length s2.2) c6) s2.2, HP.all own26 rs1 s1.2, SL (α := Hd) 26 (.slice a3 (List.length s1.2) c3) rs1, BX b1 30 [.int .i64 p0.W, .int .i64 p0.Mem, .int .i64 p0.In, .slice a1 (List.length p0.Code) c1]] w5 S8 := hs
          obtain ⟨x5, hx5, h⟩ := bindE h
          refine q_append 1 hs hM2 rfl Try.underlying26 el3 rfl rfl rfl hF rfl rfl (hs.rv 0 rfl) hx5 fun a9 c9 w6 S9 fr hs hp hF => ?_
          have r1 := r1.stp hM2 hp
          have hM2 := hM2.stp hp
          have hs : Sep [SL (α := Int) 3 (.slice a8 (List.length ([x4] : List Int)) c8) ([x4] : List Int), SL (α := Int) 3 (.slice a9 (List.length x5) c9) x5, HP.all own26 rs1 s1.2, SL (α := Hd) 26 (.slice a3 (List.length s1.2) c3) rs1, BX b1 30 [.int .i64 p0.W, .int .i64 p0.Mem, .int .i64 p0.In, .slice a1 (List.length p0.Code) c1]] w6 S9 := hs
          have hs : Sep [SL (α := Int) 3 (.slice a9 (List.length x5) c9) x5, HP.all own26 rs1 s1.2, SL (α := Hd) 26 (.slice a3 (List.length s1.2) c3) rs1, BX b1 30 [.int .i64 p0.W, .int .i64 p0.Mem, .int .i64 p0.In, .slice a1 (List.length p0.Code) c1]] w6 S9 := Sep.pick [1, 2, 3, 4] hs (by decide) rfl
          refine from_pure 1 [(1, .pointer (some ⟨b1, 0, none⟩)), (3, .slice a3 (List.length s1.2) c3), (4, .int .i64 s1.1), (5, .slice a9 (List.length x5) c9), (6, .int .i64 s2.1)] hF (by kernel_rfl) fun fr hF => ?_
          refine from_end rfl ?_
          refine blk_normal (then_normal ?_)
          refine (wp_pure [(1, .pointer (some ⟨b1, 0, none⟩)), (3, .slice a3 (List.length s1.2) c3), (4, .int .i64 s1.1), (5, .slice a9 (List.length x5) c9), (6, .int .i64 (w64 (s2.1 - 1)))] hF (by kernel_rfl) fun fr hF => then_normal ?_)
          exact ⟨_, (Option.some.inj h).symm, a9, c9, S9, _, hF.sub _ (by kernel_rfl), hM2, hs⟩
        replace h := iteF hb h
        refine (wp_exit (then_exit (then_exit (blk_exit_eq ?_))))
        obtain rfl := hr2 _ (Option.some.inj h).symm
        exact then_normal ⟨a6, c6, S6, _, hF.sub _ (by kernel_rfl), hM2, hs⟩
      · obtain ⟨a7, c7, S7, F4, hF, hMx, hs⟩ := hM
        have r1 := r1.mem hMx
        have hM1 := hM1.trans hMx
        refine (wp_text' ?_)
        refine from_pure 2 [(1, .pointer (some ⟨b1, 0, none⟩)), (4, .int .i64 s1.1), (49, .slice a3 (List.length s1.2) c3), (50, .slice a7 (List.length rl2) c7)] hF (by kernel_rfl) fun fr hF => ?_
        refine q_lit (E := 26) hs hM1 [.slice a7 (List.length rl2) c7] (([⟨a7, List.length rl2, c7⟩] : List Hd).map Flat.enc) ([⟨a7, List.length rl2, c7⟩] : List Hd) rfl rfl hF [.slice a7 (List.length rl2) c7] rfl (fun w => by kernel_rfl) (css_flat _) rfl rfl rfl fun a10 c10 w7 S10 fr hs hp hF => ?_
        have r1 := r1.stp hM1 hp
        have hM1 := hM1.stp hp
        have hs : Sep [SL (α := Hd) 26 (.slice a10 (List.length ([rl2] : List (List Int))) c10) ([⟨a7, List.length rl2, c7⟩] : List Hd), SL (α := Int) 3 (.slice a7 (List.length rl2) c7) rl2, HP.all own26 rs1 s1.2, SL (α := Hd) 26 (.slice a3 (List.length s1.2) c3) rs1, BX b1 30 [.int .i64 p0.W, .int .i64 p0.Mem, .int .i64 p0.In, .slice a1 (List.length p0.Code) c1]] w7 S10 := hs
        have hs : Sep [HP.all own26 ([] : List Hd) ([] : List (List Int)), SL (α := Hd) 26 (.slice a10 (List.length ([rl2] : List (List Int))) c10) ([⟨a7, List.length rl2, c7⟩] : List Hd), SL (α := Int) 3 (.slice a7 (List.length rl2) c7) rl2, HP.all own26 rs1 s1.2, SL (α := Hd) 26 (.slice a3 (List.length s1.2) c3) rs1, BX b1 30 [.int .i64 p0.W, .int .i64 p0.Mem, .int .i64 p0.In, .slice a1 (List.length p0.Code) c1]] w7 S10 := hs.emp (HP.all own26 [] []) trivial
        have hs : Sep [SL (α := Int) 3 (.slice a7 (List.length rl2) c7) rl2, HP.all own26 ([] : List Hd) ([] : List (List Int)), SL (α := Hd) 26 (.slice a10 (List.length ([rl2] : List (List Int))) c10) ([⟨a7, List.length rl2, c7⟩] : List Hd), HP.all own26 rs1 s1.2, SL (α := Hd) 26 (.slice a3 (List.length s1.2) c3) rs1, BX b1 30 [.int .i64 p0.W, .int .i64 p0.Mem, .int .i64 p0.In, .slice a1 (List.length p0.Code) c1]] w7 S10 := Sep.pick [2, 0, 1, 3, 4, 5] hs (by decide) rfl
        have hs : Sep [HP.all own26 ([⟨a7, List.length rl2, c7⟩] : List Hd) ([rl2] : List (List Int)), SL (α := Hd) 26 (.slice a10 (List.length ([rl2] : List (List Int))) c10) ([⟨a7, List.length rl2, c7⟩] : List Hd), HP.all own26 rs1 s1.2, SL (α := Hd) 26 (.slice a3 (List.length s1.2) c3) rs1, BX b1 30 [.int .i64 p0.W, .int .i64 p0.Mem, .int .i64 p0.In, .slice a1 (List.length p0.Code) c1]] w7 S10 := Sep.merge hs (fun _ h => h)
        have hs : Sep [SL (α := Hd) 26 (.slice a3 (List.length s1.2) c3) rs1, HP.all own26 rs1 s1.2, HP.all own26 ([⟨a7, List.length rl2, c7⟩] : List Hd) ([rl2] : List (List Int)), SL (α := Hd) 26 (.slice a10 (List.length ([rl2] : List (List Int))) c10) ([⟨a7, List.length rl2, c7⟩] : List Hd), BX b1 30 [.int .i64 p0.W, .int .i64 p0.Mem, .int .i64 p0.In, .slice a1 (List.length p0.Code) c1]] w7 S10 := Sep.pick [3, 2, 0, 1, 4] hs (by decide) rfl
        obtain ⟨x6, hx6, h⟩ := bindE h
        refine q_appendD hs hM1 Try.underlying39 rel26 rfl rfl rfl hF rfl rfl (hs.rv 3 rfl) hx6 fun a11 c11 rs3 w8 S11 fr hs hp hF => ?_
        have r1 := r1.stp hM1 hp
        have hM1 := hM1.stp hp
        have hs : Sep [SL (α := Hd) 26 (.slice a11 (List.length x6) c11) rs3, HP.all own26 rs3 x6, SL (α := Hd) 26 (.slice a10 (List.length ([rl2] : List (List Int))) c10) ([⟨a7, List.length rl2, c7⟩] : List Hd), BX b1 30 [.int .i64 p0.W, .int .i64 p0.Mem, .int .i64 p0.In, .slice a1 (List.length p0.Code) c1]] w8 S11 := hs
        have hs : Sep [SL (α := Hd) 26 (.slice a11 (List.length x6) c11) rs3, HP.all own26 rs3 x6, BX b1 30 [.int .i64 p0.W, .int .i64 p0.Mem, .int .i64 p0.In, .slice a1 (List.length p0.Code) c1]] w8 S11 := Sep.pick [0, 1, 3] hs (by decide) rfl
        refine from_pure 1 [(1, .pointer (some ⟨b1, 0, none⟩)), (3, .slice a11 (List.length x6) c11), (4, .int .i64 s1.1)] hF (by kernel_rfl) fun fr hF => ?_
        refine from_end rfl ?_
        refine blk_normal (then_normal ?_)
        refine (wp_pure [(1, .pointer (some ⟨b1, 0, none⟩)), (3, .slice a11 (List.length x6) c11), (4, .int .i64 (w64 (s1.1 + 1)))] hF (by kernel_rfl) fun fr hF => then_normal ?_)
        have hs : Sep [HP.all own26 rs3 x6, SL (α := Hd) 26 (.slice a11 (List.length x6) c11) rs3, BX b1 30 [.int .i64 p0.W, .int .i64 p0.Mem, .int .i64 p0.In, .slice a1 (List.length p0.Code) c1]] w8 S11 := Sep.pick [1, 0, 2] hs (by decide) rfl
        exact ⟨_, (Option.some.inj h).symm, rs3, a11, c11, S11, _, hF.sub _ (by kernel_rfl), hM1, hs⟩
    replace h := iteF hb h
    have hs : Sep [HP.all own26 rs1 s1.2, SL (α := Hd) 26 (.slice a3 (List.length s1.2) c3) rs1] w1i S3 := Sep.pick [0, 1] hs (by decide) rfl
    refine (wp_exit (then_exit (then_exit (blk_exit_eq ?_))))
    obtain rfl := hr1 _ (Option.some.inj h).symm
    exact then_normal ⟨rs1, a3, c3, S3, _, hF.sub _ (by kernel_rfl), hM1, hs⟩
  · obtain ⟨rs2, a4, c4, S4, F2, hF, hMx, hs⟩ := hM
    have hM0 := hM0.trans hMx
    refine wp_seq (wp_pure [(2, .slice a4 (List.length rl1) c4)] hF (by kernel_rfl) fun fr hF => then_normal ?_)
    obtain rfl := Option.some.inj h
    have hs : Sep [SL (α := Hd) 26 (.slice a4 (List.length rl1) c4) rs2, HP.all own26 rs2 rl1] w1o S4 := Sep.pick [1, 0] hs (by decide) rfl
    exact wp_ret (ret1 rfl hF rfl ⟨_, rfl, a4, c4, rs2, rfl, S4, hM0.out, hs⟩)

theorem impl_shapeOk_ok (p0 : Int) (p1 : Int) {r : Bool} (h : impl_shapeOk p0 p1 = some r) {w : World} :
    Calls Try.prog 106 [.int .i64 p0, .int .i64 p1].toArray w fun e w' => ∃ v, e = .returned v ∧ v = .bool r ∧ Chg Non w w' := by
  unfold impl_shapeOk at h
  have hs := Sep.nil w Non
  have hM0 : Mem w Non (fun k => (False) ∧ k < w.heap.size) w Non (fun k => (False) ∧ k < w.heap.size) := Mem.start (fun _ h => h.elim) (fun _ h => h.2) (fun _ h => h.elim)
  refine enter (N := 19) Try.func106 rfl Try.ntmps106 rfl fun fr hF => ?_
  refine wp_seq (wp_pure [(0, .int .i64 p0), (1, .int .i64 p1)] hF (by kernel_rfl) fun fr hF => then_normal ?_)
  refine wp_seq (region_b [] [true, true, true, true, true, true, true, true, true, true, true, true, true, true, true]
      [.eq (.int .i64 p0), .eq (.bool (decide (p0 ≥ 2))), .eq (.bool (decide (p0 ≥ 2))), .eq (.int .i64 p0), .eq (.bool (decide (p0 ≤ 8))), .eq (.bool ((decide (p0 ≥ 2)) && (decide (p0 ≤ 8)))), .eq (.bool ((decide (p0 ≥ 2)) && (decide (p0 ≤ 8)))), .eq (.int .i64 p1), .eq (.bool (decide (p1 ≥ 1))), .eq (.bool (((decide (p0 ≥ 2)) && (decide (p0 ≤ 8))) && (decide (p1 ≥ 1)))), .eq (.bool (((decide (p0 ≥ 2)) && (decide (p0 ≤ 8))) && (decide (p1 ≥ 1)))), .eq (.int .i64 p1), .eq (.bool (decide (p1 ≤ 40))), .eq (.bool ((((decide (p0 ≥ 2)) && (decide (p0 ≤ 8))) && (decide (p1 ≥ 1))) && (decide (p1 ≤ 40)))), .eq (.bool ((((decide (p0 ≥ 2)) && (decide (p0 ≤ 8))) && (decide (p1 ≥ 1))) && (decide (p1 ≤ 40))))]
      [(4, .bool ((((decide (p0 ≥ 2)) && (decide (p0 ≤ 8))) && (decide (p1 ≥ 1))) && (decide (p1 ≤ 40))))] mix hF (by kernel_rfl) (by kernel_rfl) (by kernel_rfl) trivial (fun hG => trivial) (by kernel_rfl) fun fr w1 hF hE hc => then_normal ?_)
  have hs := hs.ext hc
  have hM0 := hM0.ext hc
  obtain rfl := Option.some.inj h
  exact wp_ret (ret1 rfl hF rfl ⟨_, rfl, rfl, hM0.chg⟩)

theorem impl_isWidth_ok (p0 : Int) {r : Bool} (h : impl_isWidth p0 = some r) {w : World} :
    Calls Try.prog 137 [.int .i64 p0].toArray w fun e w' => ∃ v, e = .returned v ∧ v = .bool r ∧ Chg Non w w' := by
  unfold impl_isWidth at h
  have hs := Sep.nil w Non
  have hM0 : Mem w Non (fun k => (False) ∧ k < w.heap.size) w Non (fun k => (False) ∧ k < w.heap.size) := Mem.start (fun _ h => h.elim) (fun _ h => h.2) (fun _ h => h.elim)
  refine enter (N := 9) Try.func137 rfl Try.ntmps137 rfl fun fr hF => ?_
  refine wp_seq (wp_pure [(0, .int .i64 p0)] hF (by kernel_rfl) fun fr hF => then_normal ?_)
  refine wp_seq (region_b [] [true, true, true, true, true, true, true]
      [.eq (.int .i64 p0), .eq (.bool (decide (p0 ≥ 1))), .eq (.bool (decide (p0 ≥ 1))), .eq (.int .i64 p0), .eq (.bool (decide (p0 ≤ 16))), .eq (.bool ((decide (p0 ≥ 1)) && (decide (p0 ≤ 16)))), .eq (.bool ((decide (p0 ≥ 1)) && (decide (p0 ≤ 16))))]
      [(2, .bool ((decide (p0 ≥ 1)) && (decide (p0 ≤ 16))))] mix hF (by kernel_rfl) (by kernel_rfl) (by kernel_rfl) trivial (fun hG => trivial) (by kernel_rfl) fun fr w1 hF hE hc => then_normal ?_)
  have hs := hs.ext hc
  have hM0 := hM0.ext hc
  obtain rfl := Option.some.inj h
  exact wp_ret (ret1 rfl hF rfl ⟨_, rfl, rfl, hM0.chg⟩)

theorem impl_WordOk_ok (p0 : Int) (p1 : Int) {r : Bool} (h : impl_WordOk p0 p1 = some r) {w : World} :
    Calls Try.prog 107 [.int .i64 p0, .int .i64 p1].toArray w fun e w' => ∃ v, e = .returned v ∧ v = .bool r ∧ Chg Non w w' := by
  unfold impl_WordOk at h
  have hs := Sep.nil w Non
  have hM0 : Mem w Non (fun k => (False) ∧ k < w.heap.size) w Non (fun k => (False) ∧ k < w.heap.size) := Mem.start (fun _ h => h.elim) (fun _ h => h.2) (fun _ h => h.elim)
  refine enter (N := 18) Try.func107 rfl Try.ntmps107 rfl fun fr hF => ?_
  refine wp_seq (wp_pure [(0, .int .i64 p0), (1, .int .i64 p1)] hF (by kernel_rfl) fun fr hF => then_normal ?_)
  obtain ⟨x1, hx1, h⟩ := bindE h
  obtain ⟨x2, hx2, h⟩ := bindE h
  refine wp_seq (region_b [] [true, false, true, true, true, true, true, true, true, true, false, true, true, true]
      [.eq (.int .i64 p0), .eq (.bool x1), .eq (.bool x1), .eq (.int .i64 p1), .eq (.bool (decide (p1 ≥ 0))), .eq (.bool (x1 && (decide (p1 ≥ 0)))), .eq (.bool (x1 && (decide (p1 ≥ 0)))), .eq (.int .i64 p1), .eq (.int .i64 p0), .eq (.int .u64 (IntKind.u64.wrap p0)), .eq (.int .i64 x2), .eq (.bool (decide (p1 < x2))), .eq (.bool ((x1 && (decide (p1 ≥ 0))) && (decide (p1 < x2)))), .eq (.bool ((x1 && (decide (p1 ≥ 0))) && (decide (p1 < x2))))]
      [(4, .bool ((x1 && (decide (p1 ≥ 0))) && (decide (p1 < x2))))] mix hF (by kernel_rfl) (by kernel_rfl) (by kernel_rfl) ⟨Pd.mono_eq, Pd.mono_eq, trivial⟩ (fun hG => ⟨np_call [.int .i64 p0] hG hF Try.call137 rfl rfl (fun w hC hg => (impl_isWidth_ok p0 hx1).mono fun e w' ⟨v, he, hv, hc⟩ => ⟨v, he, hc, hv⟩), np_shl hG hF rfl rfl rfl (fun hg => (iteT hg.2 hx2)) rfl, trivial⟩) (by kernel_rfl) fun fr w1 hF hE hc => then_normal ?_)
  have hs := hs.ext hc
  have hM0 := hM0.ext hc
  obtain rfl := Option.some.inj h
  exact wp_ret (ret1 rfl hF rfl ⟨_, rfl, rfl, hM0.chg⟩)

theorem impl_isReg_ok (p0 : Int) {r : Bool} (h : impl_isReg p0 = some r) {w : World} :
    Calls Try.prog 138 [.int .i64 p0].toArray w fun e w' => ∃ v, e = .returned v ∧ v = .bool r ∧ Chg Non w w' := by
  unfold impl_isReg at h
  have hs := Sep.nil w Non
  have hM0 : Mem w Non (fun k => (False) ∧ k < w.heap.size) w Non (fun k => (False) ∧ k < w.heap.size) := Mem.start (fun _ h => h.elim) (fun _ h => h.2) (fun _ h => h.elim)
  refine enter (N := 9) Try.func138 rfl Try.ntmps138 rfl fun fr hF => ?_
  refine wp_seq (wp_pure [(0, .int .i64 p0)] hF (by kernel_rfl) fun fr hF => then_normal ?_)
  refine wp_seq (region_b [] [true, true, true, true, true, true, true]
      [.eq (.int .i64 p0), .eq (.bool (decide (p0 ≥ 0))), .eq (.bool (decide (p0 ≥ 0))), .eq (.int .i64 p0), .eq (.bool (decide (p0 < 4))), .eq (.bool ((decide (p0 ≥ 0)) && (decide (p0 < 4)))), .eq (.bool ((decide (p0 ≥ 0)) && (decide (p0 < 4))))]
      [(2, .bool ((decide (p0 ≥ 0)) && (decide (p0 < 4))))] mix hF (by kernel_rfl) (by kernel_rfl) (by kernel_rfl) trivial (fun hG => trivial) (by kernel_rfl) fun fr w1 hF hE hc => then_normal ?_)
  have hs := hs.ext hc
  have hM0 := hM0.ext hc
  obtain rfl := Option.some.inj h
  exact wp_ret (ret1 rfl hF rfl ⟨_, rfl, rfl, hM0.chg⟩)

theorem impl_isTwoWords_ok (p0 : Int) {r : Bool} (h : impl_isTwoWords p0 = some r) {w : World} :
    Calls Try.prog 139 [.int .i64 p0].toArray w fun e w' => ∃ v, e = .returned v ∧ v = .bool r ∧ Chg Non w w' := by
  unfold impl_isTwoWords at h
  have hs := Sep.nil w Non
  have hM0 : Mem w Non (fun k => (False) ∧ k < w.heap.size) w Non (fun k => (False) ∧ k < w.heap.size) := Mem.start (fun _ h => h.elim) (fun _ h => h.2) (fun _ h => h.elim)
  refine enter (N := 9) Try.func139 rfl Try.ntmps139 rfl fun fr hF => ?_
  refine wp_seq (wp_pure [(0, .int .i64 p0)] hF (by kernel_rfl) fun fr hF => then_normal ?_)
  refine wp_seq (region_b [] [true, true, true, true, true, true, true]
      [.eq (.int .i64 p0), .eq (.bool (decide (p0 ≥ 3))), .eq (.bool (decide (p0 ≥ 3))), .eq (.int .i64 p0), .eq (.bool (decide (p0 ≤ 16))), .eq (.bool ((decide (p0 ≥ 3)) && (decide (p0 ≤ 16)))), .eq (.bool ((decide (p0 ≥ 3)) && (decide (p0 ≤ 16))))]
      [(2, .bool ((decide (p0 ≥ 3)) && (decide (p0 ≤ 16))))] mix hF (by kernel_rfl) (by kernel_rfl) (by kernel_rfl) trivial (fun hG => trivial) (by kernel_rfl) fun fr w1 hF hE hc => then_normal ?_)
  have hs := hs.ext hc
  have hM0 := hM0.ext hc
  obtain rfl := Option.some.inj h
  exact wp_ret (ret1 rfl hF rfl ⟨_, rfl, rfl, hM0.chg⟩)

theorem impl_insOk_ok (p0 : D.Ins) (p1 : Int) (p2 : Int) {r : Bool} (h : impl_insOk p0 p1 p2 = some r) {w : World} :
    Calls Try.prog 108 [.agg #[.int .i64 p0.Op, .int .i64 p0.A, .int .i64 p0.B, .int .i64 p0.C], .int .i64 p1, .int .i64 p2].toArray w fun e w' => ∃ v, e = .returned v ∧ v = .bool r ∧ Chg Non w w' := by
  unfold impl_insOk at h
  have hs := Sep.nil w Non
  have hM0 : Mem w Non (fun k => (False) ∧ k < w.heap.size) w Non (fun k => (False) ∧ k < w.heap.size) := Mem.start (fun _ h => h.elim) (fun _ h => h.2) (fun _ h => h.elim)
  refine enter (N := 102) Try.func108 rfl Try.ntmps108 rfl fun fr hF => ?_
  refine wp_seq (wp_text' ?_)
  refine q_box hs hM0 [.int .i64 p0.Op, .int .i64 p0.A, .int .i64 p0.B, .int .i64 p0.C] rfl rfl hF rfl rfl fun b1 w1 S1 fr hs hp hF => ?_
  have hM0 := hM0.stp hp
  have hs : Sep [BX b1 90 [.int .i64 p0.Op, .int .i64 p0.A, .int .i64 p0.B, .int .i64 p0.C]] w1 S1 := hs
  refine from_pure 1 [(1, .int .i64 p1), (2, .int .i64 p2), (3, .pointer (some ⟨b1, 0, none⟩))] hF (by kernel_rfl) fun fr hF => ?_
  refine from_end rfl (then_normal ?_)
  refine wp_seq (region_b [] [true, false, true, true, true, false, true, true, true, true]
      [.eq (.pointer (some ⟨b1, 2, none⟩)), .eq (.int .i64 p0.B), .eq (.bool (decide (p0.B ≥ 0))), .eq (.bool (decide (p0.B ≥ 0))), .eq (.pointer (some ⟨b1, 2, none⟩)), .eq (.int .i64 p0.B), .eq (.int .i64 p2), .eq (.bool (decide (p0.B ≤ p2))), .eq (.bool ((decide (p0.B ≥ 0)) && (decide (p0.B ≤ p2)))), .eq (.bool ((decide (p0.B ≥ 0)) && (decide (p0.B ≤ p2))))]
      [(1, .int .i64 p1), (3, .pointer (some ⟨b1, 0, none⟩)), (7, .bool ((decide (p0.B ≥ 0)) && (decide (p0.B ≤ p2))))] mix hF (by kernel_rfl) (by kernel_rfl) (by kernel_rfl) ⟨Pd.mono_eq, Pd.mono_eq, trivial⟩ (fun hG => ⟨np_loadBox hG hF ty3 rfl rfl (hs.bx 0 rfl) rfl rfl rfl, np_loadBox hG hF ty3 rfl rfl (hs.bx 0 rfl) rfl rfl rfl, trivial⟩) (by kernel_rfl) fun fr w2 hF hE hc => then_normal ?_)
  have hs := hs.ext hc
  have hM0 := hM0.ext hc
  refine wp_seq ?_
  refine wp_seq (wp_text' ?_)
  refine from_pure 1 [(1, .int .i64 p1), (3, .pointer (some ⟨b1, 0, none⟩)), (7, .bool ((decide (p0.B ≥ 0)) && (decide (p0.B ≤ p2)))), (17, .pointer (some ⟨b1, 0, none⟩))] hF (by kernel_rfl) fun fr hF => ?_
  refine s_loadBox (.int .i64 p0.Op) ty3 rfl rfl hF rfl (hs.bx 0 rfl) rfl rfl fun fr hF => ?_
  refine from_pure 1 [(1, .int .i64 p1), (3, .pointer (some ⟨b1, 0, none⟩)), (7, .bool ((decide (p0.B ≥ 0)) && (decide (p0.B ≤ p2)))), (19, .bool (p0.Op == 3))] hF (by kernel_rfl) fun fr hF => ?_
  refine from_end rfl (then_normal ?_)
  refine (wp_if hF (b := (p0.Op == 3)) rfl (fun hb => ?_) (fun hb => ?_))
  · replace h := iteT hb h
    obtain ⟨x1, hx1, h⟩ := bindE h
    obtain ⟨x2, hx2, h⟩ := bindE h
    obtain ⟨x3, hx3, h⟩ := bindE h
    refine wp_seq (region_b [] [true, false, false, true, true, false, false, true, true, true, false, false, true, true]
        [.eq (.pointer (some ⟨b1, 1, none⟩)), .eq (.int .i64 p0.A), .eq (.bool x1), .eq (.bool x1), .eq (.pointer (some ⟨b1, 2, none⟩)), .eq (.int .i64 p0.B), .eq (.bool x2), .eq (.bool (x1 && x2)), .eq (.bool (x1 && x2)), .eq (.pointer (some ⟨b1, 3, none⟩)), .eq (.int .i64 p0.C), .eq (.bool x3), .eq (.bool ((x1 && x2) && x3)), .eq (.bool ((x1 && x2) && x3))]
        [(6, .bool ((x1 && x2) && x3))] mix hF (by kernel_rfl) (by kernel_rfl) (by kernel_rfl) ⟨Pd.mono_eq, Pd.mono_eq, Pd.mono_eq, Pd.mono_eq, Pd.mono_eq, Pd.mono_eq, trivial⟩ (fun hG => ⟨np_loadBox hG hF ty3 rfl rfl (hs.bx 0 rfl) rfl rfl rfl, np_call [.int .i64 p0.A] hG hF Try.call138 rfl rfl (fun w hC hg => (impl_isReg_ok p0.A hx1).mono fun e w' ⟨v, he, hv, hc⟩ => ⟨v, he, hc, hv⟩), np_loadBox hG hF ty3 rfl rfl (hs.bx 0 rfl) rfl rfl rfl, np_call [.int .i64 p0.B] hG hF Try.call138 rfl rfl (fun w hC hg => (impl_isReg_ok p0.B (iteT hg.2 hx2)).mono fun e w' ⟨v, he, hv, hc⟩ => ⟨v, he, hc, hv⟩), np_loadBox hG hF ty3 rfl rfl (hs.bx 0 rfl) rfl rfl rfl, np_call [.int .i64 p0.C] hG hF Try.call139 rfl rfl (fun w hC hg => (impl_isTwoWords_ok p0.C (iteT hg.2 hx3)).mono fun e w' ⟨v, he, hv, hc⟩ => ⟨v, he, hc, hv⟩), trivial⟩) (by kernel_rfl) fun fr w3 hF hE hc => then_normal ?_)
    have hs := hs.ext hc
    have hM0 := hM0.ext hc
    have hs : Sep [] w3 S1 := Sep.pick [] hs (by decide) rfl
    obtain rfl := Option.some.inj h
    exact wp_ret (then_ret (ret1 rfl hF rfl ⟨_, rfl, rfl, hM0.chg⟩))
  replace h := iteF hb h
  refine (wp_skip (then_normal ?_))
  refine wp_seq ?_
  refine wp_seq (wp_text' ?_)
  refine from_pure 1 [(1, .int .i64 p1), (3, .pointer (some ⟨b1, 0, none⟩)), (7, .bool ((decide (p0.B ≥ 0)) && (decide (p0.B ≤ p2)))), (33, .pointer (some ⟨b1, 3, none⟩))] hF (by kernel_rfl) fun fr hF => ?_
  refine s_loadBox (.int .i64 p0.C) ty3 rfl rfl hF rfl (hs.bx 0 rfl) rfl rfl fun fr hF => ?_
  refine from_pure 1 [(1, .int .i64 p1), (3, .pointer (some ⟨b1, 0, none⟩)), (7, .bool ((decide (p0.B ≥ 0)) && (decide (p0.B ≤ p2)))), (35, .bool (p0.C != 0))] hF (by kernel_rfl) fun fr hF => ?_
  refine from_end rfl (then_normal ?_)
  refine (wp_if hF (b := (p0.C != 0)) rfl (fun hb => ?_) (fun hb => ?_))
  · replace h := iteT hb h
    have hs : Sep [] w2 S1 := Sep.pick [] hs (by decide) rfl
    refine wp_seq (wp_pure [(6, .bool false)] hF (by kernel_rfl) fun fr hF => then_normal ?_)
    obtain rfl := Option.some.inj h
    exact wp_ret (then_ret (ret1 rfl hF rfl ⟨_, rfl, rfl, hM0.chg⟩))
  replace h := iteF hb h
  refine (wp_skip (then_normal ?_))
  refine wp_seq ?_
  refine wp_seq (wp_text' ?_)
  refine from_pure 1 [(1, .int .i64 p1), (3, .pointer (some ⟨b1, 0, none⟩)), (7, .bool ((decide (p0.B ≥ 0)) && (decide (p0.B ≤ p2)))), (36, .pointer (some ⟨b1, 0, none⟩))] hF (by kernel_rfl) fun fr hF => ?_
  refine s_loadBox (.int .i64 p0.Op) ty3 rfl rfl hF rfl (hs.bx 0 rfl) rfl rfl fun fr hF => ?_
  refine from_end rfl (then_normal ?_)
  refine (wp_block ?_)
  refine wp_seq (wp_pure [(1, .int .i64 p1), (3, .pointer (some ⟨b1, 0, none⟩)), (7, .bool ((decide (p0.B ≥ 0)) && (decide (p0.B ≤ p2)))), (37, .int .i64 p0.Op), (38, .bool (p0.Op == 1))] hF (by kernel_rfl) fun fr hF => then_normal ?_)
  refine (wp_if hF (b := (p0.Op == 1)) rfl (fun hb => ?_) (fun hb => ?_))
  · replace h := iteT hb h
    obtain ⟨x4, hx4, h⟩ := bindE h
    obtain ⟨x5, hx5, h⟩ := bindE h
    refine wp_seq (region_b [] [true, false, false, true, true, true, false, false, true, true]
        [.eq (.pointer (some ⟨b1, 1, none⟩)), .eq (.int .i64 p0.A), .eq (.bool x4), .eq (.bool x4), .eq (.int .i64 p1), .eq (.pointer (some ⟨b1, 2, none⟩)), .eq (.int .i64 p0.B), .eq (.bool x5), .eq (.bool (x4 && x5)), .eq (.bool (x4 && x5))]
        [(6, .bool (x4 && x5))] mix hF (by kernel_rfl) (by kernel_rfl) (by kernel_rfl) ⟨Pd.mono_eq, Pd.mono_eq, Pd.mono_eq, Pd.mono_eq, trivial⟩ (fun hG => ⟨np_loadBox hG hF ty3 rfl rfl (hs.bx 0 rfl) rfl rfl rfl, np_call [.int .i64 p0.A] hG hF Try.call138 rfl rfl (fun w hC hg => (impl_isReg_ok p0.A hx4).mono fun e w' ⟨v, he, hv, hc⟩ => ⟨v, he, hc, hv⟩), np_loadBox hG hF ty3 rfl rfl (hs.bx 0 rfl) rfl rfl rfl, np_call [.int .i64 p1, .int .i64 p0.B] hG hF Try.call107 rfl rfl (fun w hC hg => (impl_WordOk_ok p1 p0.B (iteT hg.2 hx5)).mono fun e w' ⟨v, he, hv, hc⟩ => ⟨v, he, hc, hv⟩), trivial⟩) (by kernel_rfl) fun fr w4 hF hE hc => then_normal ?_)
    have hs := hs.ext hc
    have hM0 := hM0.ext hc
    have hs : Sep [] w4 S1 := Sep.pick [] hs (by decide) rfl
    obtain rfl := Option.some.inj h
    exact wp_ret (blk_ret (then_ret (ret1 rfl hF rfl ⟨_, rfl, rfl, hM0.chg⟩)))
  replace h := iteF hb h
  refine wp_seq ?_
  refine wp_seq (wp_pure [(3, .pointer (some ⟨b1, 0, none⟩)), (7, .bool ((decide (p0.B ≥ 0)) && (decide (p0.B ≤ p2)))), (37, .int .i64 p0.Op), (49, .bool (p0.Op == 2))] hF (by kernel_rfl) fun fr hF => then_normal ?_)
  refine (wp_if hF (b := (p0.Op == 2)) rfl (fun hb => ?_) (fun hb => ?_))
  · replace h := iteT hb h
    refine (wp_skip (then_normal ?_))
    refine (wp_if hF (b := (p0.Op == 2)) rfl (fun hb => ?_) (fun hb => ?_))
    · replace h := iteT hb h
      obtain ⟨x6, hx6, h⟩ := bindE h
      obtain ⟨x7, hx7, h⟩ := bindE h
      refine wp_seq (region_b [] [true, false, false, true, true, false, false, true, true]
          [.eq (.pointer (some ⟨b1, 1, none⟩)), .eq (.int .i64 p0.A), .eq (.bool x6), .eq (.bool x6), .eq (.pointer (some ⟨b1, 2, none⟩)), .eq (.int .i64 p0.B), .eq (.bool x7), .eq (.bool (x6 && x7)), .eq (.bool (x6 && x7))]
          [(6, .bool (x6 && x7))] mix hF (by kernel_rfl) (by kernel_rfl) (by kernel_rfl) ⟨Pd.mono_eq, Pd.mono_eq, Pd.mono_eq, Pd.mono_eq, trivial⟩ (fun hG => ⟨np_loadBox hG hF ty3 rfl rfl (hs.bx 0 rfl) rfl rfl rfl, np_call [.int .i64 p0.A] hG hF Try.call138 rfl rfl (fun w hC hg => (impl_isReg_ok p0.A hx6).mono fun e w' ⟨v, he, hv, hc⟩ => ⟨v, he, hc, hv⟩), np_loadBox hG hF ty3 rfl rfl (hs.bx 0 rfl) rfl rfl rfl, np_call [.int .i64 p0.B] hG hF Try.call138 rfl rfl (fun w hC hg => (impl_isReg_ok p0.B (iteT hg.2 hx7)).mono fun e w' ⟨v, he, hv, hc⟩ => ⟨v, he, hc, hv⟩), trivial⟩) (by kernel_rfl) fun fr w5 hF hE hc => then_normal ?_)
      have hs := hs.ext hc
      have hM0 := hM0.ext hc
      have hs : Sep [] w5 S1 := Sep.pick [] hs (by decide) rfl
      obtain rfl := Option.some.inj h
      exact wp_ret (blk_ret (then_ret (ret1 rfl hF rfl ⟨_, rfl, rfl, hM0.chg⟩)))
    replace h := iteF hb h
    refine wp_seq ?_
    refine wp_seq (wp_pure [(3, .pointer (some ⟨b1, 0, none⟩)), (7, .bool ((decide (p0.B ≥ 0)) && (decide (p0.B ≤ p2)))), (37, .int .i64 p0.Op), (61, .bool (p0.Op == 4))] hF (by kernel_rfl) fun fr hF => then_normal ?_)
    refine (wp_if hF (b := (p0.Op == 4)) rfl (fun hb => ?_) (fun hb => ?_))
    · replace h := iteT hb h
      refine (wp_skip (then_normal ?_))
      refine (wp_if hF (b := (p0.Op == 4)) rfl (fun hb => ?_) (fun hb => ?_))
      · replace h := iteT hb h
        obtain ⟨x8, hx8, h⟩ := bindE h
        refine wp_seq (region_b [] [true, false, false, true, true, false, true, true, true]
            [.eq (.pointer (some ⟨b1, 1, none⟩)), .eq (.int .i64 p0.A), .eq (.bool x8), .eq (.bool x8), .eq (.pointer (some ⟨b1, 2, none⟩)), .eq (.int .i64 p0.B), .eq (.bool (p0.B == 0)), .eq (.bool (x8 && (p0.B == 0))), .eq (.bool (x8 && (p0.B == 0)))]
            [(6, .bool (x8 && (p0.B == 0)))] mix hF (by kernel_rfl) (by kernel_rfl) (by kernel_rfl) ⟨Pd.mono_eq, Pd.mono_eq, Pd.mono_eq, trivial⟩ (fun hG => ⟨np_loadBox hG hF ty3 rfl rfl (hs.bx 0 rfl) rfl rfl rfl, np_call [.int .i64 p0.A] hG hF Try.call138 rfl rfl (fun w hC hg => (impl_isReg_ok p0.A hx8).mono fun e w' ⟨v, he, hv, hc⟩ => ⟨v, he, hc, hv⟩), np_loadBox hG hF ty3 rfl rfl (hs.bx 0 rfl) rfl rfl rfl, trivial⟩) (by kernel_rfl) fun fr w6 hF hE hc => then_normal ?_)
        have hs := hs.ext hc
        have hM0 := hM0.ext hc
        have hs : Sep [] w6 S1 := Sep.pick [] hs (by decide) rfl
        obtain rfl := Option.some.inj h
        exact wp_ret (blk_ret (then_ret (ret1 rfl hF rfl ⟨_, rfl, rfl, hM0.chg⟩)))
      replace h := iteF hb h
      refine wp_seq ?_
      refine wp_seq (wp_pure [(3, .pointer (some ⟨b1, 0, none⟩)), (7, .bool ((decide (p0.B ≥ 0)) && (decide (p0.B ≤ p2)))), (37, .int .i64 p0.Op), (74, .bool (p0.Op == 9))] hF (by kernel_rfl) fun fr hF => then_normal ?_)
      refine (wp_merge [(3, .pointer (some ⟨b1, 0, none⟩)), (7, .bool ((decide (p0.B ≥ 0)) && (decide (p0.B ≤ p2)))), (37, .int .i64 p0.Op), (74, .bool ((p0.Op == 9) || (p0.Op == 11)))] hF (b := (p0.Op == 9)) rfl (fun hb => ?_) (fun hb => ?_) fun fr hF => then_normal ?_)
      · exact wp_skip ⟨rfl, rfl, (hF.sub [(3, .pointer (some ⟨b1, 0, none⟩)), (7, .bool ((decide (p0.B ≥ 0)) && (decide (p0.B ≤ p2)))), (37, .int .i64 p0.Op), (74, .bool (p0.Op == 9))] (by kernel_rfl)).eqs (by first | (simp only [hb]; done) | (simp only [hb]; rfl))⟩
      · exact wp_pure [(3, .pointer (some ⟨b1, 0, none⟩)), (7, .bool ((decide (p0.B ≥ 0)) && (decide (p0.B ≤ p2)))), (37, .int .i64 p0.Op), (74, .bool (p0.Op == 11))] hF (by kernel_rfl) fun fr hF => ⟨rfl, rfl, hF.eqs (by first | (simp only [hb]; done) | (simp only [hb]; rfl))⟩
      refine (wp_if hF (b := ((p0.Op == 9) || (p0.Op == 11))) rfl (fun hb => ?_) (fun hb => ?_))
      · replace h := iteT hb h
        refine wp_seq (region_b [] [true, false, true, true, true, true, true]
            [.eq (.pointer (some ⟨b1, 1, none⟩)), .eq (.int .i64 p0.A), .eq (.bool (p0.A == 0)), .eq (.bool (p0.A == 0)), .eq (.bool ((decide (p0.B ≥ 0)) && (decide (p0.B ≤ p2)))), .eq (.bool ((p0.A == 0) && ((decide (p0.B ≥ 0)) && (decide (p0.B ≤ p2))))), .eq (.bool ((p0.A == 0) && ((decide (p0.B ≥ 0)) && (decide (p0.B ≤ p2)))))]
            [(6, .bool ((p0.A == 0) && ((decide (p0.B ≥ 0)) && (decide (p0.B ≤ p2)))))] mix hF (by kernel_rfl) (by kernel_rfl) (by kernel_rfl) ⟨Pd.mono_eq, trivial⟩ (fun hG => ⟨np_loadBox hG hF ty3 rfl rfl (hs.bx 0 rfl) rfl rfl rfl, trivial⟩) (by kernel_rfl) fun fr w7 hF hE hc => then_normal ?_)
        have hs := hs.ext hc
        have hM0 := hM0.ext hc
        have hs : Sep [] w7 S1 := Sep.pick [] hs (by decide) rfl
        obtain rfl := Option.some.inj h
        exact wp_ret (blk_ret (then_ret (ret1 rfl hF rfl ⟨_, rfl, rfl, hM0.chg⟩)))
      replace h := iteF hb h
      refine wp_seq (wp_pure [(3, .pointer (some ⟨b1, 0, none⟩)), (7, .bool ((decide (p0.B ≥ 0)) && (decide (p0.B ≤ p2)))), (37, .int .i64 p0.Op), (83, .bool (p0.Op == 10))] hF (by kernel_rfl) fun fr hF => then_normal ?_)
      refine (wp_if hF (b := (p0.Op == 10)) rfl (fun hb => ?_) (fun hb => ?_))
      · replace h := iteT hb h
        obtain ⟨x9, hx9, h⟩ := bindE h
        refine wp_seq (region_b [] [true, false, false, true, true, true, true]
            [.eq (.pointer (some ⟨b1, 1, none⟩)), .eq (.int .i64 p0.A), .eq (.bool x9), .eq (.bool x9), .eq (.bool ((decide (p0.B ≥ 0)) && (decide (p0.B ≤ p2)))), .eq (.bool (x9 && ((decide (p0.B ≥ 0)) && (decide (p0.B ≤ p2))))), .eq (.bool (x9 && ((decide (p0.B ≥ 0)) && (decide (p0.B ≤ p2)))))]
            [(6, .bool (x9 && ((decide (p0.B ≥ 0)) && (decide (p0.B ≤ p2)))))] mix hF (by kernel_rfl) (by kernel_rfl) (by kernel_rfl) ⟨Pd.mono_eq, Pd.mono_eq, trivial⟩ (fun hG => ⟨np_loadBox hG hF ty3 rfl rfl (hs.bx 0 rfl) rfl rfl rfl, np_call [.int .i64 p0.A] hG hF Try.call138 rfl rfl (fun w hC hg => (impl_isReg_ok p0.A hx9).mono fun e w' ⟨v, he, hv, hc⟩ => ⟨v, he, hc, hv⟩), trivial⟩) (by kernel_rfl) fun fr w8 hF hE hc => then_normal ?_)
        have hs := hs.ext hc
        have hM0 := hM0.ext hc
        have hs : Sep [] w8 S1 := Sep.pick [] hs (by decide) rfl
        obtain rfl := Option.some.inj h
        exact wp_ret (blk_ret (then_ret (ret1 rfl hF rfl ⟨_, rfl, rfl, hM0.chg⟩)))
      replace h := iteF hb h
      refine wp_seq ?_
      refine wp_seq (wp_pure [(3, .pointer (some ⟨b1, 0, none⟩)), (37, .int .i64 p0.Op), (91, .bool (p0.Op == 12))] hF (by kernel_rfl) fun fr hF => then_normal ?_)
      refine (wp_merge [(3, .pointer (some ⟨b1, 0, none⟩)), (91, .bool ((p0.Op == 12) || (p0.Op == 14)))] hF (b := (p0.Op == 12)) rfl (fun hb => ?_) (fun hb => ?_) fun fr hF => then_normal ?_)
      · exact wp_skip ⟨rfl, rfl, (hF.sub [(3, .pointer (some ⟨b1, 0, none⟩)), (91, .bool (p0.Op == 12))] (by kernel_rfl)).eqs (by first | (simp only [hb]; done) | (simp only [hb]; rfl))⟩
      · exact wp_pure [(3, .pointer (some ⟨b1, 0, none⟩)), (91, .bool (p0.Op == 14))] hF (by kernel_rfl) fun fr hF => ⟨rfl, rfl, hF.eqs (by first | (simp only [hb]; done) | (simp only [hb]; rfl))⟩
      refine (wp_if hF (b := ((p0.Op == 12) || (p0.Op == 14))) rfl (fun hb => ?_) (fun hb => ?_))
      · replace h := iteT hb h
        refine wp_seq (region_b [] [true, false, true, true, true, false, true, true, true]
            [.eq (.pointer (some ⟨b1, 1, none⟩)), .eq (.int .i64 p0.A), .eq (.bool (p0.A == 0)), .eq (.bool (p0.A == 0)), .eq (.pointer (some ⟨b1, 2, none⟩)), .eq (.int .i64 p0.B), .eq (.bool (p0.B == 0)), .eq (.bool ((p0.A == 0) && (p0.B == 0))), .eq (.bool ((p0.A == 0) && (p0.B == 0)))]
            [(6, .bool ((p0.A == 0) && (p0.B == 0)))] mix hF (by kernel_rfl) (by kernel_rfl) (by kernel_rfl) ⟨Pd.mono_eq, Pd.mono_eq, trivial⟩ (fun hG => ⟨np_loadBox hG hF ty3 rfl rfl (hs.bx 0 rfl) rfl rfl rfl, np_loadBox hG hF ty3 rfl rfl (hs.bx 0 rfl) rfl rfl rfl, trivial⟩) (by kernel_rfl) fun fr w9 hF hE hc => then_normal ?_)
        have hs := hs.ext hc
        have hM0 := hM0.ext hc
        have hs : Sep [] w9 S1 := Sep.pick [] hs (by decide) rfl
        obtain rfl := Option.some.inj h
        exact wp_ret (blk_ret (then_ret (ret1 rfl hF rfl ⟨_, rfl, rfl, hM0.chg⟩)))
      replace h := iteF hb h
      have hs : Sep [] w2 S1 := Sep.pick [] hs (by decide) rfl
      refine (wp_skip ?_)
      refine blk_normal (then_normal ?_)
      refine wp_seq (wp_pure [(6, .bool false)] hF (by kernel_rfl) fun fr hF => then_normal ?_)
      obtain rfl := Option.some.inj h
      exact wp_ret (ret1 rfl hF rfl ⟨_, rfl, rfl, hM0.chg⟩)
    replace h := iteF hb h
    refine wp_seq (wp_pure [(3, .pointer (some ⟨b1, 0, none⟩)), (7, .bool ((decide (p0.B ≥ 0)) && (decide (p0.B ≤ p2)))), (37, .int .i64 p0.Op), (61, .bool (p0.Op == 5))] hF (by kernel_rfl) fun fr hF => then_normal ?_)
    refine (wp_if hF (b := (p0.Op == 5)) rfl (fun hb => ?_) (fun hb => ?_))
    · replace h := iteT hb h
      refine (wp_skip (then_normal ?_))
      refine (wp_if hF (b := (p0.Op == 5)) rfl (fun hb => ?_) (fun hb => ?_))
      · replace h := iteT hb h
        obtain ⟨x10, hx10, h⟩ := bindE h
        refine wp_seq (region_b [] [true, false, false, true, true, false, true, true, true]
            [.eq (.pointer (some ⟨b1, 1, none⟩)), .eq (.int .i64 p0.A), .eq (.bool x10), .eq (.bool x10), .eq (.pointer (some ⟨b1, 2, none⟩)), .eq (.int .i64 p0.B), .eq (.bool (p0.B == 0)), .eq (.bool (x10 && (p0.B == 0))), .eq (.bool (x10 && (p0.B == 0)))]
            [(6, .bool (x10 && (p0.B == 0)))] mix hF (by kernel_rfl) (by kernel_rfl) (by kernel_rfl) ⟨Pd.mono_eq, Pd.mono_eq, Pd.mono_eq, trivial⟩ (fun hG => ⟨np_loadBox hG hF ty3 rfl rfl (hs.bx 0 rfl) rfl rfl rfl, np_call [.int .i64 p0.A] hG hF Try.call138 rfl rfl (fun w hC hg => (impl_isReg_ok p0.A hx10).mono fun e w' ⟨v, he, hv, hc⟩ => ⟨v, he, hc, hv⟩), np_loadBox hG hF ty3 rfl rfl (hs.bx 0 rfl) rfl rfl rfl, trivial⟩) (by kernel_rfl) fun fr w10 hF hE hc => then_normal ?_)
        have hs := hs.ext hc
        have hM0 := hM0.ext hc
        have hs : Sep [] w10 S1 := Sep.pick [] hs (by decide) rfl
        obtain rfl := Option.some.inj h
        exact wp_ret (blk_ret (then_ret (ret1 rfl hF rfl ⟨_, rfl, rfl, hM0.chg⟩)))
      replace h := iteF hb h
      refine wp_seq ?_
      refine wp_seq (wp_pure [(3, .pointer (some ⟨b1, 0, none⟩)), (7, .bool ((decide (p0.B ≥ 0)) && (decide (p0.B ≤ p2)))), (37, .int .i64 p0.Op), (74, .bool (p0.Op == 9))] hF (by kernel_rfl) fun fr hF => then_normal ?_)
      refine (wp_merge [(3, .pointer (some ⟨b1, 0, none⟩)), (7, .bool ((decide (p0.B ≥ 0)) && (decide (p0.B ≤ p2)))), (37, .int .i64 p0.Op), (74, .bool ((p0.Op == 9) || (p0.Op == 11)))] hF (b := (p0.Op == 9)) rfl (fun hb => ?_) (fun hb => ?_) fun fr hF => then_normal ?_)
      · exact wp_skip ⟨rfl, rfl, (hF.sub [(3, .pointer (some ⟨b1, 0, none⟩)), (7, .bool ((decide (p0.B ≥ 0)) && (decide (p0.B ≤ p2)))), (37, .int .i64 p0.Op), (74, .bool (p0.Op == 9))] (by kernel_rfl)).eqs (by first | (simp only [hb]; done) | (simp only [hb]; rfl))⟩
      · exact wp_pure [(3, .pointer (some ⟨b1, 0, none⟩)), (7, .bool ((decide (p0.B ≥ 0)) && (decide (p0.B ≤ p2)))), (37, .int .i64 p0.Op), (74, .bool (p0.Op == 11))] hF (by kernel_rfl) fun fr hF => ⟨rfl, rfl, hF.eqs (by first | (simp only [hb]; done) | (simp only [hb]; rfl))⟩
      refine (wp_if hF (b := ((p0.Op == 9) || (p0.Op == 11))) rfl (fun hb => ?_) (fun hb => ?_))
      · replace h := iteT hb h
        refine wp_seq (region_b [] [true, false, true, true, true, true, true]
            [.eq (.pointer (some ⟨b1, 1, none⟩)), .eq (.int .i64 p0.A), .eq (.bool (p0.A == 0)), .eq (.bool (p0.A == 0)), .eq (.bool ((decide (p0.B ≥ 0)) && (decide (p0.B ≤ p2)))), .eq (.bool ((p0.A == 0) && ((decide (p0.B ≥ 0)) && (decide (p0.B ≤ p2))))), .eq (.bool ((p0.A == 0) && ((decide (p0.B ≥ 0)) && (decide (p0.B ≤ p2)))))]
            [(6, .bool ((p0.A == 0) && ((decide (p0.B ≥ 0)) && (decide (p0.B ≤ p2)))))] mix hF (by kernel_rfl) (by kernel_rfl) (by kernel_rfl) ⟨Pd.mono_eq, trivial⟩ (fun hG => ⟨np_loadBox hG hF ty3 rfl rfl (hs.bx 0 rfl) rfl rfl rfl, trivial⟩) (by kernel_rfl) fun fr w11 hF hE hc => then_normal ?_)
        have hs := hs.ext hc
        have hM0 := hM0.ext hc
        have hs : Sep [] w11 S1 := Sep.pick [] hs (by decide) rfl
        obtain rfl := Option.some.inj h
        exact wp_ret (blk_ret (then_ret (ret1 rfl hF rfl ⟨_, rfl, rfl, hM0.chg⟩)))
      replace h := iteF hb h
      refine wp_seq (wp_pure [(3, .pointer (some ⟨b1, 0, none⟩)), (7, .bool ((decide (p0.B ≥ 0)) && (decide (p0.B ≤ p2)))), (37, .int .i64 p0.Op), (83, .bool (p0.Op == 10))] hF (by kernel_rfl) fun fr hF => then_normal ?_)
      refine (wp_if hF (b := (p0.Op == 10)) rfl (fun hb => ?_) (fun hb => ?_))
      · replace h := iteT hb h
        obtain ⟨x11, hx11, h⟩ := bindE h
        refine wp_seq (region_b [] [true, false, false, true, true, true, true]
            [.eq (.pointer (some ⟨b1, 1, none⟩)), .eq (.int .i64 p0.A), .eq (.bool x11), .eq (.bool x11), .eq (.bool ((decide (p0.B ≥ 0)) && (decide (p0.B ≤ p2)))), .eq (.bool (x11 && ((decide (p0.B ≥ 0)) && (decide (p0.B ≤ p2))))), .eq (.bool (x11 && ((decide (p0.B ≥ 0)) && (decide (p0.B ≤ p2)))))]
            [(6, .bool (x11 && ((decide (p0.B ≥ 0)) && (decide (p0.B ≤ p2)))))] mix hF (by kernel_rfl) (by kernel_rfl) (by kernel_rfl) ⟨Pd.mono_eq, Pd.mono_eq, trivial⟩ (fun hG => ⟨np_loadBox hG hF ty3 rfl rfl (hs.bx 0 rfl) rfl rfl rfl, np_call [.int .i64 p0.A] hG hF Try.call138 rfl rfl (fun w hC hg => (impl_isReg_ok p0.A hx11).mono fun e w' ⟨v, he, hv, hc⟩ => ⟨v, he, hc, hv⟩), trivial⟩) (by kernel_rfl) fun fr w12 hF hE hc => then_normal ?_)
        have hs := hs.ext hc
        have hM0 := hM0.ext hc
        have hs : Sep [] w12 S1 := Sep.pick [] hs (by decide) rfl
        obtain rfl := Option.some.inj h
        exact wp_ret (blk_ret (then_ret (ret1 rfl hF rfl ⟨_, rfl, rfl, hM0.chg⟩)))
      replace h := iteF hb h
      refine wp_seq ?_
      refine wp_seq (wp_pure [(3, .pointer (some ⟨b1, 0, none⟩)), (37, .int .i64 p0.Op), (91, .bool (p0.Op == 12))] hF (by kernel_rfl) fun fr hF => then_normal ?_)
      refine (wp_merge [(3, .pointer (some ⟨b1, 0, none⟩)), (91, .bool ((p0.Op == 12) || (p0.Op == 14)))] hF (b := (p0.Op == 12)) rfl (fun hb => ?_) (fun hb => ?_) fun fr hF => then_normal ?_)
      · exact wp_skip ⟨rfl, rfl, (hF.sub [(3, .pointer (some ⟨b1, 0, none⟩)), (91, .bool (p0.Op == 12))] (by kernel_rfl)).eqs (by first | (simp only [hb]; done) | (simp only [hb]; rfl))⟩
      · exact wp_pure [(3, .pointer (some ⟨b1, 0, none⟩)), (91, .bool (p0.Op == 14))] hF (by kernel_rfl) fun fr hF => ⟨rfl, rfl, hF.eqs (by first | (simp only [hb]; done) | (simp only [hb]; rfl))⟩
      refine (wp_if hF (b := ((p0.Op == 12) || (p0.Op == 14))) rfl (fun hb => ?_) (fun hb => ?_))
      · replace h := iteT hb h
        refine wp_seq (region_b [] [true, false, true, true, true, false, true, true, true]
            [.eq (.pointer (some ⟨b1, 1, none⟩)), .eq (.int .i64 p0.A), .eq (.bool (p0.A == 0)), .eq (.bool (p0.A == 0)), .eq (.pointer (some ⟨b1, 2, none⟩)), .eq (.int .i64 p0.B), .eq (.bool (p0.B == 0)), .eq (.bool ((p0.A == 0) && (p0.B == 0))), .eq (.bool ((p0.A == 0) && (p0.B == 0)))]
            [(6, .bool ((p0.A == 0) && (p0.B == 0)))] mix hF (by kernel_rfl) (by kernel_rfl) (by kernel_rfl) ⟨Pd.mono_eq, Pd.mono_eq, trivial⟩ (fun hG => ⟨np_loadBox hG hF ty3 rfl rfl (hs.bx 0 rfl) rfl rfl rfl, np_loadBox hG hF ty3 rfl rfl (hs.bx 0 rfl) rfl rfl rfl, trivial⟩) (by kernel_rfl) fun fr w13 hF hE hc => then_normal ?_)
        have hs := hs.ext hc
        have hM0 := hM0.ext hc
        have hs : Sep [] w13 S1 := Sep.pick [] hs (by decide) rfl
        obtain rfl := Option.some.inj h
        exact wp_ret (blk_ret (then_ret (ret1 rfl hF rfl ⟨_, rfl, rfl, hM0.chg⟩)))
      replace h := iteF hb h
      have hs : Sep [] w2 S1 := Sep.pick [] hs (by decide) rfl
      refine (wp_skip ?_)
      refine blk_normal (then_normal ?_)
      refine wp_seq (wp_pure [(6, .bool false)] hF (by kernel_rfl) fun fr hF => then_normal ?_)
      obtain rfl := Option.some.inj h
      exact wp_ret (ret1 rfl hF rfl ⟨_, rfl, rfl, hM0.chg⟩)
    replace h := iteF hb h
    refine wp_seq (wp_pure [(3, .pointer (some ⟨b1, 0, none⟩)), (7, .bool ((decide (p0.B ≥ 0)) && (decide (p0.B ≤ p2)))), (37, .int .i64 p0.Op), (61, .bool (p0.Op == 6))] hF (by kernel_rfl) fun fr hF => then_normal ?_)
    refine (wp_merge [(3, .pointer (some ⟨b1, 0, none⟩)), (7, .bool ((decide (p0.B ≥ 0)) && (decide (p0.B ≤ p2)))), (37, .int .i64 p0.Op), (61, .bool ((p0.Op == 6) || (p0.Op == 13)))] hF (b := (p0.Op == 6)) rfl (fun hb => ?_) (fun hb => ?_) fun fr hF => then_normal ?_)
    · exact wp_skip ⟨rfl, rfl, (hF.sub [(3, .pointer (some ⟨b1, 0, none⟩)), (7, .bool ((decide (p0.B ≥ 0)) && (decide (p0.B ≤ p2)))), (37, .int .i64 p0.Op), (61, .bool (p0.Op == 6))] (by kernel_rfl)).eqs (by first | (simp only [hb]; done) | (simp only [hb]; rfl))⟩
    · exact wp_pure [(3, .pointer (some ⟨b1, 0, none⟩)), (7, .bool ((decide (p0.B ≥ 0)) && (decide (p0.B ≤ p2)))), (37, .int .i64 p0.Op), (61, .bool (p0.Op == 13))] hF (by kernel_rfl) fun fr hF => ⟨rfl, rfl, hF.eqs (by first | (simp only [hb]; done) | (simp only [hb]; rfl))⟩
    refine (wp_if hF (b := ((p0.Op == 6) || (p0.Op == 13))) rfl (fun hb => ?_) (fun hb => ?_))
    · replace h := iteT hb h
      obtain ⟨x12, hx12, h⟩ := bindE h
      refine wp_seq (region_b [] [true, false, false, true, true, false, true, true, true]
          [.eq (.pointer (some ⟨b1, 1, none⟩)), .eq (.int .i64 p0.A), .eq (.bool x12), .eq (.bool x12), .eq (.pointer (some ⟨b1, 2, none⟩)), .eq (.int .i64 p0.B), .eq (.bool (p0.B == 0)), .eq (.bool (x12 && (p0.B == 0))), .eq (.bool (x12 && (p0.B == 0)))]
          [(6, .bool (x12 && (p0.B == 0)))] mix hF (by kernel_rfl) (by kernel_rfl) (by kernel_rfl) ⟨Pd.mono_eq, Pd.mono_eq, Pd.mono_eq, trivial⟩ (fun hG => ⟨np_loadBox hG hF ty3 rfl rfl (hs.bx 0 rfl) rfl rfl rfl, np_call [.int .i64 p0.A] hG hF Try.call138 rfl rfl (fun w hC hg => (impl_isReg_ok p0.A hx12).mono fun e w' ⟨v, he, hv, hc⟩ => ⟨v, he, hc, hv⟩), np_loadBox hG hF ty3 rfl rfl (hs.bx 0 rfl) rfl rfl rfl, trivial⟩) (by kernel_rfl) fun fr w14 hF hE hc => then_normal ?_)
      have hs := hs.ext hc
      have hM0 := hM0.ext hc
      have hs : Sep [] w14 S1 := Sep.pick [] hs (by decide) rfl
      obtain rfl := Option.some.inj h
      exact wp_ret (blk_ret (then_ret (ret1 rfl hF rfl ⟨_, rfl, rfl, hM0.chg⟩)))
    replace h := iteF hb h
    refine wp_seq ?_
    refine wp_seq (wp_pure [(3, .pointer (some ⟨b1, 0, none⟩)), (7, .bool ((decide (p0.B ≥ 0)) && (decide (p0.B ≤ p2)))), (37, .int .i64 p0.Op), (74, .bool (p0.Op == 9))] hF (by kernel_rfl) fun fr hF => then_normal ?_)
    refine (wp_merge [(3, .pointer (some ⟨b1, 0, none⟩)), (7, .bool ((decide (p0.B ≥ 0)) && (decide (p0.B ≤ p2)))), (37, .int .i64 p0.Op), (74, .bool ((p0.Op == 9) || (p0.Op == 11)))] hF (b := (p0.Op == 9)) rfl (fun hb => ?_) (fun hb => ?_) fun fr hF => then_normal ?_)
    · exact wp_skip ⟨rfl, rfl, (hF.sub [(3, .pointer (some ⟨b1, 0, none⟩)), (7, .bool ((decide (p0.B ≥ 0)) && (decide (p0.B ≤ p2)))), (37, .int .i64 p0.Op), (74, .bool (p0.Op == 9))] (by kernel_rfl)).eqs (by first | (simp only [hb]; done) | (simp only [hb]; rfl))⟩
    · exact wp_pure [(3, .pointer (some ⟨b1, 0, none⟩)), (7, .bool ((decide (p0.B ≥ 0)) && (decide (p0.B ≤ p2)))), (37, .int .i64 p0.Op), (74, .bool (p0.Op == 11))] hF (by kernel_rfl) fun fr hF => ⟨rfl, rfl, hF.eqs (by first | (simp only [hb]; done) | (simp only [hb]; rfl))⟩
    refine (wp_if hF (b := ((p0.Op == 9) || (p0.Op == 11))) rfl (fun hb => ?_) (fun hb => ?_))
    · replace h := iteT hb h
      refine wp_seq (region_b [] [true, false, true, true, true, true, true]
          [.eq (.pointer (some ⟨b1, 1, none⟩)), .eq (.int .i64 p0.A), .eq (.bool (p0.A == 0)), .eq (.bool (p0.A == 0)), .eq (.bool ((decide (p0.B ≥ 0)) && (decide (p0.B ≤ p2)))), .eq (.bool ((p0.A == 0) && ((decide (p0.B ≥ 0)) && (decide (p0.B ≤ p2))))), .eq (.bool ((p0.A == 0) && ((decide (p0.B ≥ 0)) && (decide (p0.B ≤ p2)))))]
          [(6, .bool ((p0.A == 0) && ((decide (p0.B ≥ 0)) && (decide (p0.B ≤ p2)))))] mix hF (by kernel_rfl) (by kernel_rfl) (by kernel_rfl) ⟨Pd.mono_eq, trivial⟩ (fun hG => ⟨np_loadBox hG hF ty3 rfl rfl (hs.bx 0 rfl) rfl rfl rfl, trivial⟩) (by kernel_rfl) fun fr w15 hF hE hc => then_normal ?_)
      have hs := hs.ext hc
      have hM0 := hM0.ext hc
      have hs : Sep [] w15 S1 := Sep.pick [] hs (by decide) rfl
      obtain rfl := Option.some.inj h
      exact wp_ret (blk_ret (then_ret (ret1 rfl hF rfl ⟨_, rfl, rfl, hM0.chg⟩)))
    replace h := iteF hb h
    refine wp_seq (wp_pure [(3, .pointer (some ⟨b1, 0, none⟩)), (7, .bool ((decide (p0.B ≥ 0)) && (decide (p0.B ≤ p2)))), (37, .int .i64 p0.Op), (83, .bool (p0.Op == 10))] hF (by kernel_rfl) fun fr hF => then_normal ?_)
    refine (wp_if hF (b := (p0.Op == 10)) rfl (fun hb => ?_) (fun hb => ?_))
    · replace h := iteT hb h
      obtain ⟨x13, hx13, h⟩ := bindE h
      refine wp_seq (region_b [] [true, false, false, true, true, true, true]
          [.eq (.pointer (some ⟨b1, 1, none⟩)), .eq (.int .i64 p0.A), .eq (.bool x13), .eq (.bool x13), .eq (.bool ((decide (p0.B ≥ 0)) && (decide (p0.B ≤ p2)))), .eq (.bool (x13 && ((decide (p0.B ≥ 0)) && (decide (p0.B ≤ p2))))), .eq (.bool (x13 && ((decide (p0.B ≥ 0)) && (decide (p0.B ≤ p2)))))]
          [(6, .bool (x13 && ((decide (p0.B ≥ 0)) && (decide (p0.B ≤ p2)))))] mix hF (by kernel_rfl) (by kernel_rfl) (by kernel_rfl) ⟨Pd.mono_eq, Pd.mono_eq, trivial⟩ (fun hG => ⟨np_loadBox hG hF ty3 rfl rfl (hs.bx 0 rfl) rfl rfl rfl, np_call [.int .i64 p0.A] hG hF Try.call138 rfl rfl (fun w hC hg => (impl_isReg_ok p0.A hx13).mono fun e w' ⟨v, he, hv, hc⟩ => ⟨v, he, hc, hv⟩), trivial⟩) (by kernel_rfl) fun fr w16 hF hE hc => then_normal ?_)
      have hs := hs.ext hc
      have hM0 := hM0.ext hc
      have hs : Sep [] w16 S1 := Sep.pick [] hs (by decide) rfl
      obtain rfl := Option.some.inj h
      exact wp_ret (blk_ret (then_ret (ret1 rfl hF rfl ⟨_, rfl, rfl, hM0.chg⟩)))
    replace h := iteF hb h
    refine wp_seq ?_
    refine wp_seq (wp_pure [(3, .pointer (some ⟨b1, 0, none⟩)), (37, .int .i64 p0.Op), (91, .bool (p0.Op == 12))] hF (by kernel_rfl) fun fr hF => then_normal ?_)
    refine (wp_merge [(3, .pointer (some ⟨b1, 0, none⟩)), (91, .bool ((p0.Op == 12) || (p0.Op == 14)))] hF (b := (p0.Op == 12)) rfl (fun hb => ?_) (fun hb => ?_) fun fr hF => then_normal ?_)
    · exact wp_skip ⟨rfl, rfl, (hF.sub [(3, .pointer (some ⟨b1, 0, none⟩)), (91, .bool (p0.Op == 12))] (by kernel_rfl)).eqs (by first | (simp only [hb]; done) | (simp only [hb]; rfl))⟩
    · exact wp_pure [(3, .pointer (some ⟨b1, 0, none⟩)), (91, .bool (p0.Op == 14))] hF (by kernel_rfl) fun fr hF => ⟨rfl, rfl, hF.eqs (by first | (simp only [hb]; done) | (simp only [hb]; rfl))⟩
    refine (wp_if hF (b := ((p0.Op == 12) || (p0.Op == 14))) rfl (fun hb => ?_) (fun hb => ?_))
    · replace h := iteT hb h
      refine wp_seq (region_b [] [true, false, true, true, true, false, true, true, true]
          [.eq (.pointer (some ⟨b1, 1, none⟩)), .eq (.int .i64 p0.A), .eq (.bool (p0.A == 0)), .eq (.bool (p0.A == 0)), .eq (.pointer (some ⟨b1, 2, none⟩)), .eq (.int .i64 p0.B), .eq (.bool (p0.B == 0)), .eq (.bool ((p0.A == 0) && (p0.B == 0))), .eq (.bool ((p0.A == 0) && (p0.B == 0)))]
          [(6, .bool ((p0.A == 0) && (p0.B == 0)))] mix hF (by kernel_rfl) (by kernel_rfl) (by kernel_rfl) ⟨Pd.mono_eq, Pd.mono_eq, trivial⟩ (fun hG => ⟨np_loadBox hG hF ty3 rfl rfl (hs.bx 0 rfl) rfl rfl rfl, np_loadBox hG hF ty3 rfl rfl (hs.bx 0 rfl) rfl rfl rfl, trivial⟩) (by kernel_rfl) fun fr w17 hF hE hc => then_normal ?_)
      have hs := hs.ext hc
      have hM0 := hM0.ext hc
      have hs : Sep [] w17 S1 := Sep.pick [] hs (by decide) rfl
      obtain rfl := Option.some.inj h
      exact wp_ret (blk_ret (then_ret (ret1 rfl hF rfl ⟨_, rfl, rfl, hM0.chg⟩)))
    replace h := iteF hb h
    have hs : Sep [] w2 S1 := Sep.pick [] hs (by decide) rfl
    refine (wp_skip ?_)
    refine blk_normal (then_normal ?_)
    refine wp_seq (wp_pure [(6, .bool false)] hF (by kernel_rfl) fun fr hF => then_normal ?_)
    obtain rfl := Option.some.inj h
    exact wp_ret (ret1 rfl hF rfl ⟨_, rfl, rfl, hM0.chg⟩)
  replace h := iteF hb h
  refine wp_seq (wp_pure [(3, .pointer (some ⟨b1, 0, none⟩)), (7, .bool ((decide (p0.B ≥ 0)) && (decide (p0.B ≤ p2)))), (37, .int .i64 p0.Op), (49, .bool (p0.Op == 7))] hF (by kernel_rfl) fun fr hF => then_normal ?_)
  refine (wp_merge [(3, .pointer (some ⟨b1, 0, none⟩)), (7, .bool ((decide (p0.B ≥ 0)) && (decide (p0.B ≤ p2)))), (37, .int .i64 p0.Op), (49, .bool ((p0.Op == 7) || (p0.Op == 8)))] hF (b := (p0.Op == 7)) rfl (fun hb => ?_) (fun hb => ?_) fun fr hF => then_normal ?_)
  · exact wp_skip ⟨rfl, rfl, (hF.sub [(3, .pointer (some ⟨b1, 0, none⟩)), (7, .bool ((decide (p0.B ≥ 0)) && (decide (p0.B ≤ p2)))), (37, .int .i64 p0.Op), (49, .bool (p0.Op == 7))] (by kernel_rfl)).eqs (by first | (simp only [hb]; done) | (simp only [hb]; rfl))⟩
  · exact wp_pure [(3, .pointer (some ⟨b1, 0, none⟩)), (7, .bool ((decide (p0.B ≥ 0)) && (decide (p0.B ≤ p2)))), (37, .int .i64 p0.Op), (49, .bool (p0.Op == 8))] hF (by kernel_rfl) fun fr hF => ⟨rfl, rfl, hF.eqs (by first | (simp only [hb]; done) | (simp only [hb]; rfl))⟩
  refine (wp_if hF (b := ((p0.Op == 7) || (p0.Op == 8))) rfl (fun hb => ?_) (fun hb => ?_))
  · replace h := iteT hb h
    obtain ⟨x14, hx14, h⟩ := bindE h
    obtain ⟨x15, hx15, h⟩ := bindE h
    refine wp_seq (region_b [] [true, false, false, true, true, false, false, true, true]
        [.eq (.pointer (some ⟨b1, 1, none⟩)), .eq (.int .i64 p0.A), .eq (.bool x14), .eq (.bool x14), .eq (.pointer (some ⟨b1, 2, none⟩)), .eq (.int .i64 p0.B), .eq (.bool x15), .eq (.bool (x14 && x15)), .eq (.bool (x14 && x15))]
        [(6, .bool (x14 && x15))] mix hF (by kernel_rfl) (by kernel_rfl) (by kernel_rfl) ⟨Pd.mono_eq, Pd.mono_eq, Pd.mono_eq, Pd.mono_eq, trivial⟩ (fun hG => ⟨np_loadBox hG hF ty3 rfl rfl (hs.bx 0 rfl) rfl rfl rfl, np_call [.int .i64 p0.A] hG hF Try.call138 rfl rfl (fun w hC hg => (impl_isReg_ok p0.A hx14).mono fun e w' ⟨v, he, hv, hc⟩ => ⟨v, he, hc, hv⟩), np_loadBox hG hF ty3 rfl rfl (hs.bx 0 rfl) rfl rfl rfl, np_call [.int .i64 p0.B] hG hF Try.call138 rfl rfl (fun w hC hg => (impl_isReg_ok p0.B (iteT hg.2 hx15)).mono fun e w' ⟨v, he, hv, hc⟩ => ⟨v, he, hc, hv⟩), trivial⟩) (by kernel_rfl) fun fr w18 hF hE hc => then_normal ?_)
    have hs := hs.ext hc
    have hM0 := hM0.ext hc
    have hs : Sep [] w18 S1 := Sep.pick [] hs (by decide) rfl
    obtain rfl := Option.some.inj h
    exact wp_ret (blk_ret (then_ret (ret1 rfl hF rfl ⟨_, rfl, rfl, hM0.chg⟩)))
  replace h := iteF hb h
  refine wp_seq ?_
  refine wp_seq (wp_pure [(3, .pointer (some ⟨b1, 0, none⟩)), (7, .bool ((decide (p0.B ≥ 0)) && (decide (p0.B ≤ p2)))), (37, .int .i64 p0.Op), (61, .bool (p0.Op == 4))] hF (by kernel_rfl) fun fr hF => then_normal ?_)
  refine (wp_if hF (b := (p0.Op == 4)) rfl (fun hb => ?_) (fun hb => ?_))
  · replace h := iteT hb h
    refine (wp_skip (then_normal ?_))
    refine (wp_if hF (b := (p0.Op == 4)) rfl (fun hb => ?_) (fun hb => ?_))
    · replace h := iteT hb h
      obtain ⟨x16, hx16, h⟩ := bindE h
      refine wp_seq (region_b [] [true, false, false, true, true, false, true, true, true]
          [.eq (.pointer (some ⟨b1, 1, none⟩)), .eq (.int .i64 p0.A), .eq (.bool x16), .eq (.bool x16), .eq (.pointer (some ⟨b1, 2, none⟩)), .eq (.int .i64 p0.B), .eq (.bool (p0.B == 0)), .eq (.bool (x16 && (p0.B == 0))), .eq (.bool (x16 && (p0.B == 0)))]
          [(6, .bool (x16 && (p0.B == 0)))] mix hF (by kernel_rfl) (by kernel_rfl) (by kernel_rfl) ⟨Pd.mono_eq, Pd.mono_eq, Pd.mono_eq, trivial⟩ (fun hG => ⟨np_loadBox hG hF ty3 rfl rfl (hs.bx 0 rfl) rfl rfl rfl, np_call [.int .i64 p0.A] hG hF Try.call138 rfl rfl (fun w hC hg => (impl_isReg_ok p0.A hx16).mono fun e w' ⟨v, he, hv, hc⟩ => ⟨v, he, hc, hv⟩), np_loadBox hG hF ty3 rfl rfl (hs.bx 0 rfl) rfl rfl rfl, trivial⟩) (by kernel_rfl) fun fr w19 hF hE hc => then_normal ?_)
      have hs := hs.ext hc
      have hM0 := hM0.ext hc
      have hs : Sep [] w19 S1 := Sep.pick [] hs (by decide) rfl
      obtain rfl := Option.some.inj h
      exact wp_ret (blk_ret (then_ret (ret1 rfl hF rfl ⟨_, rfl, rfl, hM0.chg⟩)))
    replace h := iteF hb h
    refine wp_seq ?_
    refine wp_seq (wp_pure [(3, .pointer (some ⟨b1, 0, none⟩)), (7, .bool ((decide (p0.B ≥ 0)) && (decide (p0.B ≤ p2)))), (37, .int .i64 p0.Op), (74, .bool (p0.Op == 9))] hF (by kernel_rfl) fun fr hF => then_normal ?_)
    refine (wp_merge [(3, .pointer (some ⟨b1, 0, none⟩)), (7, .bool ((decide (p0.B ≥ 0)) && (decide (p0.B ≤ p2)))), (37, .int .i64 p0.Op), (74, .bool ((p0.Op == 9) || (p0.Op == 11)))] hF (b := (p0.Op == 9)) rfl (fun hb => ?_) (fun hb => ?_) fun fr hF => then_normal ?_)
    · exact wp_skip ⟨rfl, rfl, (hF.sub [(3, .pointer (some ⟨b1, 0, none⟩)), (7, .bool ((decide (p0.B ≥ 0)) && (decide (p0.B ≤ p2)))), (37, .int .i64 p0.Op), (74, .bool (p0.Op == 9))] (by kernel_rfl)).eqs (by first | (simp only [hb]; done) | (simp only [hb]; rfl))⟩
    · exact wp_pure [(3, .pointer (some ⟨b1, 0, none⟩)), (7, .bool ((decide (p0.B ≥ 0)) && (decide (p0.B ≤ p2)))), (37, .int .i64 p0.Op), (74, .bool (p0.Op == 11))] hF (by kernel_rfl) fun fr hF => ⟨rfl, rfl, hF.eqs (by first | (simp only [hb]; done) | (simp only [hb]; rfl))⟩
    refine (wp_if hF (b := ((p0.Op == 9) || (p0.Op == 11))) rfl (fun hb => ?_) (fun hb => ?_))
    · replace h := iteT hb h
      refine wp_seq (region_b [] [true, false, true, true, true, true, true]
          [.eq (.pointer (some ⟨b1, 1, none⟩)), .eq (.int .i64 p0.A), .eq (.bool (p0.A == 0)), .eq (.bool (p0.A == 0)), .eq (.bool ((decide (p0.B ≥ 0)) && (decide (p0.B ≤ p2)))), .eq (.bool ((p0.A == 0) && ((decide (p0.B ≥ 0)) && (decide (p0.B ≤ p2))))), .eq (.bool ((p0.A == 0) && ((decide (p0.B ≥ 0)) && (decide (p0.B ≤ p2)))))]
          [(6, .bool ((p0.A == 0) && ((decide (p0.B ≥ 0)) && (decide (p0.B ≤ p2)))))] mix hF (by kernel_rfl) (by kernel_rfl) (by kernel_rfl) ⟨Pd.mono_eq, trivial⟩ (fun hG => ⟨np_loadBox hG hF ty3 rfl rfl (hs.bx 0 rfl) rfl rfl rfl, trivial⟩) (by kernel_rfl) fun fr w20 hF hE hc => then_normal ?_)
      have hs := hs.ext hc
      have hM0 := hM0.ext hc
      have hs : Sep [] w20 S1 := Sep.pick [] hs (by decide) rfl
      obtain rfl := Option.some.inj h
      exact wp_ret (blk_ret (then_ret (ret1 rfl hF rfl ⟨_, rfl, rfl, hM0.chg⟩)))
    replace h := iteF hb h
    refine wp_seq (wp_pure [(3, .pointer (some ⟨b1, 0, none⟩)), (7, .bool ((decide (p0.B ≥ 0)) && (decide (p0.B ≤ p2)))), (37, .int .i64 p0.Op), (83, .bool (p0.Op == 10))] hF (by kernel_rfl) fun fr hF => then_normal ?_)
    refine (wp_if hF (b := (p0.Op == 10)) rfl (fun hb => ?_) (fun hb => ?_))
    · replace h := iteT hb h
      obtain ⟨x17, hx17, h⟩ := bindE h
      refine wp_seq (region_b [] [true, false, false, true, true, true, true]
          [.eq (.pointer (some ⟨b1, 1, none⟩)), .eq (.int .i64 p0.A), .eq (.bool x17), .eq (.bool x17), .eq (.bool ((decide (p0.B ≥ 0)) && (decide (p0.B ≤ p2)))), .eq (.bool (x17 && ((decide (p0.B ≥ 0)) && (decide (p0.B ≤ p2))))), .eq (.bool (x17 && ((decide (p0.B ≥ 0)) && (decide (p0.B ≤ p2)))))]
          [(6, .bool (x17 && ((decide (p0.B ≥ 0)) && (decide (p0.B ≤ p2)))))] mix hF (by kernel_rfl) (by kernel_rfl) (by kernel_rfl) ⟨Pd.mono_eq, Pd.mono_eq, trivial⟩ (fun hG => ⟨np_loadBox hG hF ty3 rfl rfl (hs.bx 0 rfl) rfl rfl rfl, np_call [.int .i64 p0.A] hG hF Try.call138 rfl rfl (fun w hC hg => (impl_isReg_ok p0.A hx17).mono fun e w' ⟨v, he, hv, hc⟩ => ⟨v, he, hc, hv⟩), trivial⟩) (by kernel_rfl) fun fr w21 hF hE hc => then_normal ?_)
      have hs := hs.ext hc
      have hM0 := hM0.ext hc
      have hs : Sep [] w21 S1 := Sep.pick [] hs (by decide) rfl
      obtain rfl := Option.some.inj h
      exact wp_ret (blk_ret (then_ret (ret1 rfl hF rfl ⟨_, rfl, rfl, hM0.chg⟩)))
    replace h := iteF hb h
    refine wp_seq ?_
    refine wp_seq (wp_pure [(3, .pointer (some ⟨b1, 0, none⟩)), (37, .int .i64 p0.Op), (91, .bool (p0.Op == 12))] hF (by kernel_rfl) fun fr hF => then_normal ?_)
    refine (wp_merge [(3, .pointer (some ⟨b1, 0, none⟩)), (91, .bool ((p0.Op == 12) || (p0.Op == 14)))] hF (b := (p0.Op == 12)) rfl (fun hb => ?_) (fun hb => ?_) fun fr hF => then_normal ?_)
    · exact wp_skip ⟨rfl, rfl, (hF.sub [(3, .pointer (some ⟨b1, 0, none⟩)), (91, .bool (p0.Op == 12))] (by kernel_rfl)).eqs (by first | (simp only [hb]; done) | (simp only [hb]; rfl))⟩
    · exact wp_pure [(3, .pointer (some ⟨b1, 0, none⟩)), (91, .bool (p0.Op == 14))] hF (by kernel_rfl) fun fr hF => ⟨rfl, rfl, hF.eqs (by first | (simp only [hb]; done) | (simp only [hb]; rfl))⟩
    refine (wp_if hF (b := ((p0.Op == 12) || (p0.Op == 14))) rfl (fun hb => ?_) (fun hb => ?_))
    · replace h := iteT hb h
      refine wp_seq (region_b [] [true, false, true, true, true, false, true, true, true]
          [.eq (.pointer (some ⟨b1, 1, none⟩)), .eq (.int .i64 p0.A), .eq (.bool (p0.A == 0)), .eq (.bool (p0.A == 0)), .eq (.pointer (some ⟨b1, 2, none⟩)), .eq (.int .i64 p0.B), .eq (.bool (p0.B == 0)), .eq (.bool ((p0.A == 0) && (p0.B == 0))), .eq (.bool ((p0.A == 0) && (p0.B == 0)))]
          [(6, .bool ((p0.A == 0) && (p0.B == 0)))] mix hF (by kernel_rfl) (by kernel_rfl) (by kernel_rfl) ⟨Pd.mono_eq, Pd.mono_eq, trivial⟩ (fun hG => ⟨np_loadBox hG hF ty3 rfl rfl (hs.bx 0 rfl) rfl rfl rfl, np_loadBox hG hF ty3 rfl rfl (hs.bx 0 rfl) rfl rfl rfl, trivial⟩) (by kernel_rfl) fun fr w22 hF hE hc => then_normal ?_)
      have hs := hs.ext hc
      have hM0 := hM0.ext hc
      have hs : Sep [] w22 S1 := Sep.pick [] hs (by decide) rfl
      obtain rfl := Option.some.inj h
      exact wp_ret (blk_ret (then_ret (ret1 rfl hF rfl ⟨_, rfl, rfl, hM0.chg⟩)))
    replace h := iteF hb h
    have hs : Sep [] w2 S1 := Sep.pick [] hs (by decide) rfl
    refine (wp_skip ?_)
    refine blk_normal (then_normal ?_)
    refine wp_seq (wp_pure [(6, .bool false)] hF (by kernel_rfl) fun fr hF => then_normal ?_)
    obtain rfl := Option.some.inj h
    exact wp_ret (ret1 rfl hF rfl ⟨_, rfl, rfl, hM0.chg⟩)
  replace h := iteF hb h
  refine wp_seq (wp_pure [(3, .pointer (some ⟨b1, 0, none⟩)), (7, .bool ((decide (p0.B ≥ 0)) && (decide (p0.B ≤ p2)))), (37, .int .i64 p0.Op), (61, .bool (p0.Op == 5))] hF (by kernel_rfl) fun fr hF => then_normal ?_)
  refine (wp_if hF (b := (p0.Op == 5)) rfl (fun hb => ?_) (fun hb => ?_))
  · replace h := iteT hb h
    refine (wp_skip (then_normal ?_))
    refine (wp_if hF (b := (p0.Op == 5)) rfl (fun hb => ?_) (fun hb => ?_))
    · replace h := iteT hb h
      obtain ⟨x18, hx18, h⟩ := bindE h
      refine wp_seq (region_b [] [true, false, false, true, true, false, true, true, true]
          [.eq (.pointer (some ⟨b1, 1, none⟩)), .eq (.int .i64 p0.A), .eq (.bool x18), .eq (.bool x18), .eq (.pointer (some ⟨b1, 2, none⟩)), .eq (.int .i64 p0.B), .eq (.bool (p0.B == 0)), .eq (.bool (x18 && (p0.B == 0))), .eq (.bool (x18 && (p0.B == 0)))]
          [(6, .bool (x18 && (p0.B == 0)))] mix hF (by kernel_rfl) (by kernel_rfl) (by kernel_rfl) ⟨Pd.mono_eq, Pd.mono_eq, Pd.mono_eq, trivial⟩ (fun hG => ⟨np_loadBox hG hF ty3 rfl rfl (hs.bx 0 rfl) rfl rfl rfl, np_call [.int .i64 p0.A] hG hF Try.call138 rfl rfl (fun w hC hg => (impl_isReg_ok p0.A hx18).mono fun e w' ⟨v, he, hv, hc⟩ => ⟨v, he, hc, hv⟩), np_loadBox hG hF ty3 rfl rfl (hs.bx 0 rfl) rfl rfl rfl, trivial⟩) (by kernel_rfl) fun fr w23 hF hE hc => then_normal ?_)
      have hs := hs.ext hc
      have hM0 := hM0.ext hc
      have hs : Sep [] w23 S1 := Sep.pick [] hs (by decide) rfl
      obtain rfl := Option.some.inj h
      exact wp_ret (blk_ret (then_ret (ret1 rfl hF rfl ⟨_, rfl, rfl, hM0.chg⟩)))
    replace h := iteF hb h
    refine wp_seq ?_
    refine wp_seq (wp_pure [(3, .pointer (some ⟨b1, 0, none⟩)), (7, .bool ((decide (p0.B ≥ 0)) && (decide (p0.B ≤ p2)))), (37, .int .i64 p0.Op), (74, .bool (p0.Op == 9))] hF (by kernel_rfl) fun fr hF => then_normal ?_)
    refine (wp_merge [(3, .pointer (some ⟨b1, 0, none⟩)), (7, .bool ((decide (p0.B ≥ 0)) && (decide (p0.B ≤ p2)))), (37, .int .i64 p0.Op), (74, .bool ((p0.Op == 9) || (p0.Op == 11)))] hF (b := (p0.Op == 9)) rfl (fun hb => ?_) (fun hb => ?_) fun fr hF => then_normal ?_)
    · exact wp_skip ⟨rfl, rfl, (hF.sub [(3, .pointer (some ⟨b1, 0, none⟩)), (7, .bool ((decide (p0.B ≥ 0)) && (decide (p0.B ≤ p2)))), (37, .int .i64 p0.Op), (74, .bool (p0.Op == 9))] (by kernel_rfl)).eqs (by first | (simp only [hb]; done) | (simp only [hb]; rfl))⟩
    · exact wp_pure [(3, .pointer (some ⟨b1, 0, none⟩)), (7, .bool ((decide (p0.B ≥ 0)) && (decide (p0.B ≤ p2)))), (37, .int .i64 p0.Op), (74, .bool (p0.Op == 11))] hF (by kernel_rfl) fun fr hF => ⟨rfl, rfl, hF.eqs (by first | (simp only [hb]; done) | (simp only [hb]; rfl))⟩
    refine (wp_if hF (b := ((p0.Op == 9) || (p0.Op == 11))) rfl (fun hb => ?_) (fun hb => ?_))
    · replace h := iteT hb h
      refine wp_seq (region_b [] [true, false, true, true, true, true, true]
          [.eq (.pointer (some ⟨b1, 1, none⟩)), .eq (.int .i64 p0.A), .eq (.bool (p0.A == 0)), .eq (.bool (p0.A == 0)), .eq (.bool ((decide (p0.B ≥ 0)) && (decide (p0.B ≤ p2)))), .eq (.bool ((p0.A == 0) && ((decide (p0.B ≥ 0)) && (decide (p0.B ≤ p2))))), .eq (.bool ((p0.A == 0) && ((decide (p0.B ≥ 0)) && (decide (p0.B ≤ p2)))))]
          [(6, .bool ((p0.A == 0) && ((decide (p0.B ≥ 0)) && (decide (p0.B ≤ p2)))))] mix hF (by kernel_rfl) (by kernel_rfl) (by kernel_rfl) ⟨Pd.mono_eq, trivial⟩ (fun hG => ⟨np_loadBox hG hF ty3 rfl rfl (hs.bx 0 rfl) rfl rfl rfl, trivial⟩) (by kernel_rfl) fun fr w24 hF hE hc => then_normal ?_)
      have hs := hs.ext hc
      have hM0 := hM0.ext hc
      have hs : Sep [] w24 S1 := Sep.pick [] hs (by decide) rfl
      obtain rfl := Option.some.inj h
      exact wp_ret (blk_ret (then_ret (ret1 rfl hF rfl ⟨_, rfl, rfl, hM0.chg⟩)))
    replace h := iteF hb h
    refine wp_seq (wp_pure [(3, .pointer (some ⟨b1, 0, none⟩)), (7, .bool ((decide (p0.B ≥ 0)) && (decide (p0.B ≤ p2)))), (37, .int .i64 p0.Op), (83, .bool (p0.Op == 10))] hF (by kernel_rfl) fun fr hF => then_normal ?_)
    refine (wp_if hF (b := (p0.Op == 10)) rfl (fun hb => ?_) (fun hb => ?_))
    · replace h := iteT hb h
      obtain ⟨x19, hx19, h⟩ := bindE h
      refine wp_seq (region_b [] [true, false, false, true, true, true, true]
          [.eq (.pointer (some ⟨b1, 1, none⟩)), .eq (.int .i64 p0.A), .eq (.bool x19), .eq (.bool x19), .eq (.bool ((decide (p0.B ≥ 0)) && (decide (p0.B ≤ p2)))), .eq (.bool (x19 && ((decide (p0.B ≥ 0)) && (decide (p0.B ≤ p2))))), .eq (.bool (x19 && ((decide (p0.B ≥ 0)) && (decide (p0.B ≤ p2)))))]
          [(6, .bool (x19 && ((decide (p0.B ≥ 0)) && (decide (p0.B ≤ p2)))))] mix hF (by kernel_rfl) (by kernel_rfl) (by kernel_rfl) ⟨Pd.mono_eq, Pd.mono_eq, trivial⟩ (fun hG => ⟨np_loadBox hG hF ty3 rfl rfl (hs.bx 0 rfl) rfl rfl rfl, np_call [.int .i64 p0.A] hG hF Try.call138 rfl rfl (fun w hC hg => (impl_isReg_ok p0.A hx19).mono fun e w' ⟨v, he, hv, hc⟩ => ⟨v, he, hc, hv⟩), trivial⟩) (by kernel_rfl) fun fr w25 hF hE hc => then_normal ?_)
      have hs := hs.ext hc
      have hM0 := hM0.ext hc
      have hs : Sep [] w25 S1 := Sep.pick [] hs (by decide) rfl
      obtain rfl := Option.some.inj h
      exact wp_ret (blk_ret (then_ret (ret1 rfl hF rfl ⟨_, rfl, rfl, hM0.chg⟩)))
    replace h := iteF hb h
    refine wp_seq ?_
    refine wp_seq (wp_pure [(3, .pointer (some ⟨b1, 0, none⟩)), (37, .int .i64 p0.Op), (91, .bool (p0.Op == 12))] hF (by kernel_rfl) fun fr hF => then_normal ?_)
    refine (wp_merge [(3, .pointer (some ⟨b1, 0, none⟩)), (91, .bool ((p0.Op == 12) || (p0.Op == 14)))] hF (b := (p0.Op == 12)) rfl (fun hb => ?_) (fun hb => ?_) fun fr hF => then_normal ?_)
    · exact wp_skip ⟨rfl, rfl, (hF.sub [(3, .pointer (some ⟨b1, 0, none⟩)), (91, .bool (p0.Op == 12))] (by kernel_rfl)).eqs (by first | (simp only [hb]; done) | (simp only [hb]; rfl))⟩
    · exact wp_pure [(3, .pointer (some ⟨b1, 0, none⟩)), (91, .bool (p0.Op == 14))] hF (by kernel_rfl) fun fr hF => ⟨rfl, rfl, hF.eqs (by first | (simp only [hb]; done) | (simp only [hb]; rfl))⟩
    refine (wp_if hF (b := ((p0.Op == 12) || (p0.Op == 14))) rfl (fun hb => ?_) (fun hb => ?_))
    · replace h := iteT hb h
      refine wp_seq (region_b [] [true, false, true, true, true, false, true, true, true]
          [.eq (.pointer (some ⟨b1, 1, none⟩)), .eq (.int .i64 p0.A), .eq (.bool (p0.A == 0)), .eq (.bool (p0.A == 0)), .eq (.pointer (some ⟨b1, 2, none⟩)), .eq (.int .i64 p0.B), .eq (.bool (p0.B == 0)), .eq (.bool ((p0.A == 0) && (p0.B == 0))), .eq (.bool ((p0.A == 0) && (p0.B == 0)))]
          [(6, .bool ((p0.A == 0) && (p0.B == 0)))] mix hF (by kernel_rfl) (by kernel_rfl) (by kernel_rfl) ⟨Pd.mono_eq, Pd.mono_eq, trivial⟩ (fun hG => ⟨np_loadBox hG hF ty3 rfl rfl (hs.bx 0 rfl) rfl rfl rfl, np_loadBox hG hF ty3 rfl rfl (hs.bx 0 rfl) rfl rfl rfl, trivial⟩) (by kernel_rfl) fun fr w26 hF hE hc => then_normal ?_)
      have hs := hs.ext hc
      have hM0 := hM0.ext hc
      have hs : Sep [] w26 S1 := Sep.pick [] hs (by decide) rfl
      obtain rfl := Option.some.inj h
      exact wp_ret (blk_ret (then_ret (ret1 rfl hF rfl ⟨_, rfl, rfl, hM0.chg⟩)))
    replace h := iteF hb h
    have hs : Sep [] w2 S1 := Sep.pick [] hs (by decide) rfl
    refine (wp_skip ?_)
    refine blk_normal (then_normal ?_)
    refine wp_seq (wp_pure [(6, .bool false)] hF (by kernel_rfl) fun fr hF => then_normal ?_)
    obtain rfl := Option.some.inj h
    exact wp_ret (ret1 rfl hF rfl ⟨_, rfl, rfl, hM0.chg⟩)
  replace h := iteF hb h
  refine wp_seq (wp_pure [(3, .pointer (some ⟨b1, 0, none⟩)), (7, .bool ((decide (p0.B ≥ 0)) && (decide (p0.B ≤ p2)))), (37, .int .i64 p0.Op), (61, .bool (p0.Op == 6))] hF (by kernel_rfl) fun fr hF => then_normal ?_)
  refine (wp_merge [(3, .pointer (some ⟨b1, 0, none⟩)), (7, .bool ((decide (p0.B ≥ 0)) && (decide (p0.B ≤ p2)))), (37, .int .i64 p0.Op), (61, .bool ((p0.Op == 6) || (p0.Op == 13)))] hF (b := (p0.Op == 6)) rfl (fun hb => ?_) (fun hb => ?_) fun fr hF => then_normal ?_)
  · exact wp_skip ⟨rfl, rfl, (hF.sub [(3, .pointer (some ⟨b1, 0, none⟩)), (7, .bool ((decide (p0.B ≥ 0)) && (decide (p0.B ≤ p2)))), (37, .int .i64 p0.Op), (61, .bool (p0.Op == 6))] (by kernel_rfl)).eqs (by first | (simp only [hb]; done) | (simp only [hb]; rfl))⟩
  · exact wp_pure [(3, .pointer (some ⟨b1, 0, none⟩)), (7, .bool ((decide (p0.B ≥ 0)) && (decide (p0.B ≤ p2)))), (37, .int .i64 p0.Op), (61, .bool (p0.Op == 13))] hF (by kernel_rfl) fun fr hF => ⟨rfl, rfl, hF.eqs (by first | (simp only [hb]; done) | (simp only [hb]; rfl))⟩
  refine (wp_if hF (b := ((p0.Op == 6) || (p0.Op == 13))) rfl (fun hb => ?_) (fun hb => ?_))
  · replace h := iteT hb h
    obtain ⟨x20, hx20, h⟩ := bindE h
    refine wp_seq (region_b [] [true, false, false, true, true, false, true, true, true]
        [.eq (.pointer (some ⟨b1, 1, none⟩)), .eq (.int .i64 p0.A), .eq (.bool x20), .eq (.bool x20), .eq (.pointer (some ⟨b1, 2, none⟩)), .eq (.int .i64 p0.B), .eq (.bool (p0.B == 0)), .eq (.bool (x20 && (p0.B == 0))), .eq (.bool (x20 && (p0.B == 0)))]
        [(6, .bool (x20 && (p0.B == 0)))] mix hF (by kernel_rfl) (by kernel_rfl) (by kernel_rfl) ⟨Pd.mono_eq, Pd.mono_eq, Pd.mono_eq, trivial⟩ (fun hG => ⟨np_loadBox hG hF ty3 rfl rfl (hs.bx 0 rfl) rfl rfl rfl, np_call [.int .i64 p0.A] hG hF Try.call138 rfl rfl (fun w hC hg => (impl_isReg_ok p0.A hx20).mono fun e w' ⟨v, he, hv, hc⟩ => ⟨v, he, hc, hv⟩), np_loadBox hG hF ty3 rfl rfl (hs.bx 0 rfl) rfl rfl rfl, trivial⟩) (by kernel_rfl) fun fr w27 hF hE hc => then_normal ?_)
    have hs := hs.ext hc
    have hM0 := hM0.ext hc
    have hs : Sep [] w27 S1 := Sep.pick [] hs (by decide) rfl
    obtain rfl := Option.some.inj h
    exact wp_ret (blk_ret (then_ret (ret1 rfl hF rfl ⟨_, rfl, rfl, hM0.chg⟩)))
  replace h := iteF hb h
  refine wp_seq ?_
  refine wp_seq (wp_pure [(3, .pointer (some ⟨b1, 0, none⟩)), (7, .bool ((decide (p0.B ≥ 0)) && (decide (p0.B ≤ p2)))), (37, .int .i64 p0.Op), (74, .bool (p0.Op == 9))] hF (by kernel_rfl) fun fr hF => then_normal ?_)
  refine (wp_merge [(3, .pointer (some ⟨b1, 0, none⟩)), (7, .bool ((decide (p0.B ≥ 0)) && (decide (p0.B ≤ p2)))), (37, .int .i64 p0.Op), (74, .bool ((p0.Op == 9) || (p0.Op == 11)))] hF (b := (p0.Op == 9)) rfl (fun hb => ?_) (fun hb => ?_) fun fr hF => then_normal ?_)
  · exact wp_skip ⟨rfl, rfl, (hF.sub [(3, .pointer (some ⟨b1, 0, none⟩)), (7, .bool ((decide (p0.B ≥ 0)) && (decide (p0.B ≤ p2)))), (37, .int .i64 p0.Op), (74, .bool (p0.Op == 9))] (by kernel_rfl)).eqs (by first | (simp only [hb]; done) | (simp only [hb]; rfl))⟩
  · exact wp_pure [(3, .pointer (some ⟨b1, 0, none⟩)), (7, .bool ((decide (p0.B ≥ 0)) && (decide (p0.B ≤ p2)))), (37, .int .i64 p0.Op), (74, .bool (p0.Op == 11))] hF (by kernel_rfl) fun fr hF => ⟨rfl, rfl, hF.eqs (by first | (simp only [hb]; done) | (simp only [hb]; rfl))⟩
  refine (wp_if hF (b := ((p0.Op == 9) || (p0.Op == 11))) rfl (fun hb => ?_) (fun hb => ?_))
  · replace h := iteT hb h
    refine wp_seq (region_b [] [true, false, true, true, true, true, true]
        [.eq (.pointer (some ⟨b1, 1, none⟩)), .eq (.int .i64 p0.A), .eq (.bool (p0.A == 0)), .eq (.bool (p0.A == 0)), .eq (.bool ((decide (p0.B ≥ 0)) && (decide (p0.B ≤ p2)))), .eq (.bool ((p0.A == 0) && ((decide (p0.B ≥ 0)) && (decide (p0.B ≤ p2))))), .eq (.bool ((p0.A == 0) && ((decide (p0.B ≥ 0)) && (decide (p0.B ≤ p2)))))]
        [(6, .bool ((p0.A == 0) && ((decide (p0.B ≥ 0)) && (decide (p0.B ≤ p2)))))] mix hF (by kernel_rfl) (by kernel_rfl) (by kernel_rfl) ⟨Pd.mono_eq, trivial⟩ (fun hG => ⟨np_loadBox hG hF ty3 rfl rfl (hs.bx 0 rfl) rfl rfl rfl, trivial⟩) (by kernel_rfl) fun fr w28 hF hE hc => then_normal ?_)
    have hs := hs.ext hc
    have hM0 := hM0.ext hc
    have hs : Sep [] w28 S1 := Sep.pick [] hs (by decide) rfl
    obtain rfl := Option.some.inj h
    exact wp_ret (blk_ret (then_ret (ret1 rfl hF rfl ⟨_, rfl, rfl, hM0.chg⟩)))
  replace h := iteF hb h
  refine wp_seq (wp_pure [(3, .pointer (some ⟨b1, 0, none⟩)), (7, .bool ((decide (p0.B ≥ 0)) && (decide (p0.B ≤ p2)))), (37, .int .i64 p0.Op), (83, .bool (p0.Op == 10))] hF (by kernel_rfl) fun fr hF => then_normal ?_)
  refine (wp_if hF (b := (p0.Op == 10)) rfl (fun hb => ?_) (fun hb => ?_))
  · replace h := iteT hb h
    obtain ⟨x21, hx21, h⟩ := bindE h
    refine wp_seq (region_b [] [true, false, false, true, true, true, true]
        [.eq (.pointer (some ⟨b1, 1, none⟩)), .eq (.int .i64 p0.A), .eq (.bool x21), .eq (.bool x21), .eq (.bool ((decide (p0.B ≥ 0)) && (decide (p0.B ≤ p2)))), .eq (.bool (x21 && ((decide (p0.B ≥ 0)) && (decide (p0.B ≤ p2))))), .eq (.bool (x21 && ((decide (p0.B ≥ 0)) && (decide (p0.B ≤ p2)))))]
        [(6, .bool (x21 && ((decide (p0.B ≥ 0)) && (decide (p0.B ≤ p2)))))] mix hF (by kernel_rfl) (by kernel_rfl) (by kernel_rfl) ⟨Pd.mono_eq, Pd.mono_eq, trivial⟩ (fun hG => ⟨np_loadBox hG hF ty3 rfl rfl (hs.bx 0 rfl) rfl rfl rfl, np_call [.int .i64 p0.A] hG hF Try.call138 rfl rfl (fun w hC hg => (impl_isReg_ok p0.A hx21).mono fun e w' ⟨v, he, hv, hc⟩ => ⟨v, he, hc, hv⟩), trivial⟩) (by kernel_rfl) fun fr w29 hF hE hc => then_normal ?_)
    have hs := hs.ext hc
    have hM0 := hM0.ext hc
    have hs : Sep [] w29 S1 := Sep.pick [] hs (by decide) rfl
    obtain rfl := Option.some.inj h
    exact wp_ret (blk_ret (then_ret (ret1 rfl hF rfl ⟨_, rfl, rfl, hM0.chg⟩)))
  replace h := iteF hb h
  refine wp_seq ?_
  refine wp_seq (wp_pure [(3, .pointer (some ⟨b1, 0, none⟩)), (37, .int .i64 p0.Op), (91, .bool (p0.Op == 12))] hF (by kernel_rfl) fun fr hF => then_normal ?_)
  refine (wp_merge [(3, .pointer (some ⟨b1, 0, none⟩)), (91, .bool ((p0.Op == 12) || (p0.Op == 14)))] hF (b := (p0.Op == 12)) rfl (fun hb => ?_) (fun hb => ?_) fun fr hF => then_normal ?_)
  · exact wp_skip ⟨rfl, rfl, (hF.sub [(3, .pointer (some ⟨b1, 0, none⟩)), (91, .bool (p0.Op == 12))] (by kernel_rfl)).eqs (by first | (simp only [hb]; done) | (simp only [hb]; rfl))⟩
  · exact wp_pure [(3, .pointer (some ⟨b1, 0, none⟩)), (91, .bool (p0.Op == 14))] hF (by kernel_rfl) fun fr hF => ⟨rfl, rfl, hF.eqs (by first | (simp only [hb]; done) | (simp only [hb]; rfl))⟩
  refine (wp_if hF (b := ((p0.Op == 12) || (p0.Op == 14))) rfl (fun hb => ?_) (fun hb => ?_))
  · replace h := iteT hb h
    refine wp_seq (region_b [] [true, false, true, true, true, false, true, true, true]
        [.eq (.pointer (some ⟨b1, 1, none⟩)), .eq (.int .i64 p0.A), .eq (.bool (p0.A == 0)), .eq (.bool (p0.A == 0)), .eq (.pointer (some ⟨b1, 2, none⟩)), .eq (.int .i64 p0.B), .eq (.bool (p0.B == 0)), .eq (.bool ((p0.A == 0) && (p0.B == 0))), .eq (.bool ((p0.A == 0) && (p0.B == 0)))]
        [(6, .bool ((p0.A == 0) && (p0.B == 0)))] mix hF (by kernel_rfl) (by kernel_rfl) (by kernel_rfl) ⟨Pd.mono_eq, Pd.mono_eq, trivial⟩ (fun hG => ⟨np_loadBox hG hF ty3 rfl rfl (hs.bx 0 rfl) rfl rfl rfl, np_loadBox hG hF ty3 rfl rfl (hs.bx 0 rfl) rfl rfl rfl, trivial⟩) (by kernel_rfl) fun fr w30 hF hE hc => then_normal ?_)
    have hs := hs.ext hc
    have hM0 := hM0.ext hc
    have hs : Sep [] w30 S1 := Sep.pick [] hs (by decide) rfl
    obtain rfl := Option.some.inj h
    exact wp_ret (blk_ret (then_ret (ret1 rfl hF rfl ⟨_, rfl, rfl, hM0.chg⟩)))
  replace h := iteF hb h
  have hs : Sep [] w2 S1 := Sep.pick [] hs (by decide) rfl
  refine (wp_skip ?_)
  refine blk_normal (then_normal ?_)
  refine wp_seq (wp_pure [(6, .bool false)] hF (by kernel_rfl) fun fr hF => then_normal ?_)
  obtain rfl := Option.some.inj h
  exact wp_ret (ret1 rfl hF rfl ⟨_, rfl, rfl, hM0.chg⟩)

theorem impl_ProgramOk_ok (n : Nat) (p0 : D.Program) {r : Bool} (h : impl_ProgramOk n p0 = some r) {w : World} {G0 : Nat → Prop} {va0 : Value} (ra0 : RV w G0 va0 p0) :
    Calls Try.prog 60 [va0].toArray w fun e w' => ∃ v, e = .returned v ∧ v = .bool r ∧ Chg Non w w' := by
  unfold impl_ProgramOk at h
  have hs := Sep.nil w Non
  have hM0 : Mem w Non (fun k => (G0 k) ∧ k < w.heap.size) w Non (fun k => (G0 k) ∧ k < w.heap.size) := Mem.start (fun _ h => h.elim) (fun _ h => h.2) (fun _ h => h.elim)
  have ra0 := ra0.sub (F' := (fun k => (G0 k) ∧ k < w.heap.size)) (fun k hk h => ⟨h, hk⟩)
  obtain ⟨v1, rfl, r1⟩ := RV.Program ra0
  obtain ⟨a1, c1, rfl, -⟩ := r1.slice
  refine enter (N := 54) Try.func60 rfl Try.ntmps60 rfl fun fr hF => ?_
  refine wp_seq (wp_text' ?_)
  refine q_box hs hM0 [.int .i64 p0.W, .int .i64 p0.Mem, .int .i64 p0.In, .slice a1 (List.length p0.Code) c1] rfl rfl hF rfl rfl fun b1 w1 S1 fr hs hp hF => ?_
  have r1 := r1.stp hM0 hp
  have hM0 := hM0.stp hp
  have hs : Sep [BX b1 30 [.int .i64 p0.W, .int .i64 p0.Mem, .int .i64 p0.In, .slice a1 (List.length p0.Code) c1]] w1 S1 := hs
  refine from_pure 1 [(1, .pointer (some ⟨b1, 0, none⟩))] hF (by kernel_rfl) fun fr hF => ?_
  refine from_end rfl (then_normal ?_)
  refine wp_seq ?_
  obtain ⟨x1, hx1, h⟩ := bindE h
  obtain ⟨x2, hx2, h⟩ := bindE h
  refine wp_seq (region_b [] [true, false, true, false, true, false, true, true, true, false, true, true, true, true, false, true, true, true, true, false, true, false, false, true, true]
      [.eq (.pointer (some ⟨b1, 0, none⟩)), .eq (.int .i64 p0.W), .eq (.pointer (some ⟨b1, 3, none⟩)), .eq (.slice a1 (List.length p0.Code) c1), .eq (.int .i64 (len p0.Code)), .eq (.bool x1), .eq (.bool (!x1)), .eq (.bool (!x1)), .eq (.pointer (some ⟨b1, 1, none⟩)), .eq (.int .i64 p0.Mem), .eq (.bool (decide (p0.Mem < 1))), .eq (.bool ((!x1) || (decide (p0.Mem < 1)))), .eq (.bool ((!x1) || (decide (p0.Mem < 1)))), .eq (.pointer (some ⟨b1, 1, none⟩)), .eq (.int .i64 p0.Mem), .eq (.bool (decide (p0.Mem > 6))), .eq (.bool (((!x1) || (decide (p0.Mem < 1))) || (decide (p0.Mem > 6)))), .eq (.bool (((!x1) || (decide (p0.Mem < 1))) || (decide (p0.Mem > 6)))), .eq (.pointer (some ⟨b1, 0, none⟩)), .eq (.int .i64 p0.W), .eq (.pointer (some ⟨b1, 1, none⟩)), .eq (.int .i64 p0.Mem), .eq (.bool x2), .eq (.bool (!x2)), .eq (.bool ((((!x1) || (decide (p0.Mem < 1))) || (decide (p0.Mem > 6))) || (!x2)))]
      [(1, .pointer (some ⟨b1, 0, none⟩)), (29, .bool ((((!x1) || (decide (p0.Mem < 1))) || (decide (p0.Mem > 6))) || (!x2)))] mix hF (by kernel_rfl) (by kernel_rfl) (by kernel_rfl) ⟨Pd.mono_eq, Pd.mono_eq, Pd.mono_eq, Pd.mono_eq, Pd.mono_eq, Pd.mono_eq, Pd.mono_eq, Pd.mono_eq, trivial⟩ (fun hG => ⟨np_loadBox hG hF ty3 rfl rfl (hs.bx 0 rfl) rfl rfl rfl, np_loadBox hG hF ty28 rfl rfl (hs.bx 0 rfl) rfl rfl rfl, np_call [.int .i64 p0.W, .int .i64 (len p0.Code)] hG hF Try.call106 rfl rfl (fun w hC hg => (impl_shapeOk_ok p0.W (len p0.Code) hx1).mono fun e w' ⟨v, he, hv, hc⟩ => ⟨v, he, hc, hv⟩), np_loadBox hG hF ty3 rfl rfl (hs.bx 0 rfl) rfl rfl rfl, np_loadBox hG hF ty3 rfl rfl (hs.bx 0 rfl) rfl rfl rfl, np_loadBox hG hF ty3 rfl rfl (hs.bx 0 rfl) rfl rfl rfl, np_loadBox hG hF ty3 rfl rfl (hs.bx 0 rfl) rfl rfl rfl, np_call [.int .i64 p0.W, .int .i64 p0.Mem] hG hF Try.call107 rfl rfl (fun w hC hg => (impl_WordOk_ok p0.W p0.Mem (iteF hg.2 hx2)).mono fun e w' ⟨v, he, hv, hc⟩ => ⟨v, he, hc, hv⟩), trivial⟩) (by kernel_rfl) fun fr w2 hF hE hc => then_normal ?_)
  have r1 := r1.ext hc
  have hs := hs.ext hc
  have hM0 := hM0.ext hc
  refine (wp_if hF (b := ((((!x1) || (decide (p0.Mem < 1))) || (decide (p0.Mem > 6))) || (!x2))) rfl (fun hb => ?_) (fun hb => ?_))
  · replace h := iteT hb h
    have hs : Sep [] w2 S1 := Sep.pick [] hs (by decide) rfl
    refine wp_seq (wp_pure [(2, .bool false)] hF (by kernel_rfl) fun fr hF => then_normal ?_)
    obtain rfl := Option.some.inj h
    exact wp_ret (then_ret (ret1 rfl hF rfl ⟨_, rfl, rfl, hM0.chg⟩))
  replace h := iteF hb h
  refine (wp_skip (then_normal ?_))
  refine wp_seq ?_
  refine wp_seq (region_b [] [true, false, true, true, true, false, true, true]
      [.eq (.pointer (some ⟨b1, 2, none⟩)), .eq (.int .i64 p0.In), .eq (.bool (decide (p0.In < 0))), .eq (.bool (decide (p0.In < 0))), .eq (.pointer (some ⟨b1, 2, none⟩)), .eq (.int .i64 p0.In), .eq (.bool (decide (p0.In > 3))), .eq (.bool ((decide (p0.In < 0)) || (decide (p0.In > 3))))]
      [(1, .pointer (some ⟨b1, 0, none⟩)), (37, .bool ((decide (p0.In < 0)) || (decide (p0.In > 3))))] mix hF (by kernel_rfl) (by kernel_rfl) (by kernel_rfl) ⟨Pd.mono_eq, Pd.mono_eq, trivial⟩ (fun hG => ⟨np_loadBox hG hF ty3 rfl rfl (hs.bx 0 rfl) rfl rfl rfl, np_loadBox hG hF ty3 rfl rfl (hs.bx 0 rfl) rfl rfl rfl, trivial⟩) (by kernel_rfl) fun fr w3 hF hE hc => then_normal ?_)
  have r1 := r1.ext hc
  have hs := hs.ext hc
  have hM0 := hM0.ext hc
  refine (wp_if hF (b := ((decide (p0.In < 0)) || (decide (p0.In > 3)))) rfl (fun hb => ?_) (fun hb => ?_))
  · replace h := iteT hb h
    have hs : Sep [] w3 S1 := Sep.pick [] hs (by decide) rfl
    refine wp_seq (wp_pure [(2, .bool false)] hF (by kernel_rfl) fun fr hF => then_normal ?_)
    obtain rfl := Option.some.inj h
    exact wp_ret (then_ret (ret1 rfl hF rfl ⟨_, rfl, rfl, hM0.chg⟩))
  replace h := iteF hb h
  refine (wp_skip (then_normal ?_))
  refine wp_seq ?_
  refine wp_seq (wp_text' ?_)
  refine from_pure 1 [(1, .pointer (some ⟨b1, 0, none⟩)), (38, .pointer (some ⟨b1, 3, none⟩))] hF (by kernel_rfl) fun fr hF => ?_
  refine s_loadBox (.slice a1 (List.length p0.Code) c1) ty28 rfl rfl hF rfl (hs.bx 0 rfl) rfl rfl fun fr hF => ?_
  refine from_pure 2 [(1, .pointer (some ⟨b1, 0, none⟩)), (39, .slice a1 (List.length p0.Code) c1), (40, .int .i64 (len p0.Code)), (41, .int .i64 0)] hF (by kernel_rfl) fun fr hF => ?_
  refine from_end rfl (then_normal ?_)
  obtain ⟨rl1, hit1, h⟩ := bindE h
  have hk1 := h
  refine (wp_cut (M := fun fr w' => ∃ s, rl1 = .inl s ∧ ∃ S3 F2, FrS 54 [] fr ∧ Mem w3 S1 (fun k => (G0 k) ∧ k < w.heap.size) w' S3 F2 ∧ Sep [] w' S3) (wp_block (wp_iter (Inv := fun s1 fr w' => ∃ S2 F1, FrS 54 [(1, .pointer (some ⟨b1, 0, none⟩)), (39, .slice a1 (List.length p0.Code) c1), (40, .int .i64 (len p0.Code)), (41, .int .i64 s1)] fr ∧ Mem w3 S1 (fun k => (G0 k) ∧ k < w.heap.size) w' S2 F1 ∧ Sep [BX b1 30 [.int .i64 p0.W, .int .i64 p0.Mem, .int .i64 p0.In, .slice a1 (List.length p0.Code) c1]] w' S2) hit1 ⟨S1, _, hF.sub _ (by kernel_rfl), (Mem.start hM0.bd hM0.bdF hM0.dj), hs⟩ fun s1 q1 fr w1i hI h hr1 => ?_)) fun fr w1o hM => ?_)
  · obtain ⟨S2, F1, hF, hM1, hs⟩ := hI
    have r1 := r1.mem hM1
    refine wp_seq (wp_pure [(1, .pointer (some ⟨b1, 0, none⟩)), (39, .slice a1 (List.length p0.Code) c1), (40, .int .i64 (len p0.Code)), (41, .int .i64 s1), (42, .bool (decide (s1 < (len p0.Code))))] hF (by kernel_rfl) fun fr hF => then_normal ?_)
    refine wp_seq (wp_if hF (b := (decide (s1 < (len p0.Code)))) rfl (fun hb => ?_) (fun hb => ?_))
    · replace h := iteT hb h
      refine (wp_skip (then_normal ?_))
      refine wp_seq (wp_block ?_)
      refine wp_seq (wp_text' ?_)
      obtain ⟨x3, hx3, h⟩ := bindE h
      refine s_elemF (z := x3) (.agg #[.int .i64 x3.Op, .int .i64 x3.A, .int .i64 x3.B, .int .i64 x3.C]) ty90 Try.underlying28 rfl rfl rfl rfl rfl hF rfl (r1) rfl (get?_nn hx3) (get?_at hx3) rfl fun p fr hF => ?_
      refine q_alloc (z := .agg #[.int .i64 0, .int .i64 0, .int .i64 0, .int .i64 0]) hs hM1 [.int .i64 0, .int .i64 0, .int .i64 0, .int .i64 0] rfl rfl hF (by kernel_rfl) rfl fun b2 w4 S4 fr hs hp hF => ?_
      have r1 := r1.stp hM1 hp
      have hM1 := hM1.stp hp
      have hs : Sep [BX b2 90 [.int .i64 0, .int .i64 0, .int .i64 0, .int .i64 0], BX b1 30 [.int .i64 p0.W, .int .i64 p0.Mem, .int .i64 p0.In, .slice a1 (List.length p0.Code) c1]] w4 S4 := hs
      refine q_storeBoxS 0 hs hM1 rfl [.int .i64 x3.Op, .int .i64 x3.A, .int .i64 x3.B, .int .i64 x3.C] rfl hF rfl rfl (by kernel_rfl) rfl rfl rfl fun w5 S5 hs hp hF => ?_
      have r1 := r1.stp hM1 hp
      have hM1 := hM1.stp hp
      have hs : Sep [BX b2 90 [.int .i64 x3.Op, .int .i64 x3.A, .int .i64 x3.B, .int .i64 x3.C], BX b1 30 [.int .i64 p0.W, .int .i64 p0.Mem, .int .i64 p0.In, .slice a1 (List.length p0.Code) c1]] w5 S5 := hs
      refine from_end rfl (then_normal ?_)
      refine wp_seq (wp_text' ?_)
      refine s_loadBoxS ty90 rfl rfl hF rfl (hs.bx 0 rfl) rfl rfl fun fr hF => ?_
      have hs : Sep [BX b1 30 [.int .i64 p0.W, .int .i64 p0.Mem, .int .i64 p0.In, .slice a1 (List.length p0.Code) c1]] w5 S5 := Sep.pick [1] hs (by decide) rfl
      refine from_pure 1 [(1, .pointer (some ⟨b1, 0, none⟩)), (39, .slice a1 (List.length p0.Code) c1), (40, .int .i64 (len p0.Code)), (41, .int .i64 s1), (45, .agg #[.int .i64 x3.Op, .int .i64 x3.A, .int .i64 x3.B, .int .i64 x3.C]), (46, .pointer (some ⟨b1, 0, none⟩))] hF (by kernel_rfl) fun fr hF => ?_
      refine s_loadBox (.int .i64 p0.W) ty3 rfl rfl hF rfl (hs.bx 0 rfl) rfl rfl fun fr hF => ?_
      refine from_pure 1 [(1, .pointer (some ⟨b1, 0, none⟩)), (39, .slice a1 (List.length p0.Code) c1), (40, .int .i64 (len p0.Code)), (41, .int .i64 s1), (45, .agg #[.int .i64 x3.Op, .int .i64 x3.A, .int .i64 x3.B, .int .i64 x3.C]), (47, .int .i64 p0.W), (48, .pointer (some ⟨b1, 3, none⟩))] hF (by kernel_rfl) fun fr hF => ?_
      refine s_loadBox (.slice a1 (List.length p0.Code) c1) ty28 rfl rfl hF rfl (hs.bx 0 rfl) rfl rfl fun fr hF => ?_
      refine from_pure 1 [(1, .pointer (some ⟨b1, 0, none⟩)), (39, .slice a1 (List.length p0.Code) c1), (40, .int .i64 (len p0.Code)), (41, .int .i64 s1), (45, .agg #[.int .i64 x3.Op, .int .i64 x3.A, .int .i64 x3.B, .int .i64 x3.C]), (47, .int .i64 p0.W), (50, .int .i64 (len p0.Code))] hF (by kernel_rfl) fun fr hF => ?_
      obtain ⟨x4, hx4, h⟩ := bindE h
      refine s_call [.agg #[.int .i64 x3.Op, .int .i64 x3.A, .int .i64 x3.B, .int .i64 x3.C], .int .i64 p0.W, .int .i64 (len p0.Code)] Try.call108 rfl rfl hF rfl (impl_insOk_ok x3 p0.W (len p0.Code) hx4) fun v w6 fr hRes hF => ?_
      obtain ⟨rfl, hc⟩ := hRes
      have r1 := r1.ext hc
      have hs := hs.ext hc
      have hM1 := hM1.ext hc
      refine from_pure 1 [(1, .pointer (some ⟨b1, 0, none⟩)), (39, .slice a1 (List.length p0.Code) c1), (40, .int .i64 (len p0.Code)), (41, .int .i64 s1), (52, .bool (!x4))] hF (by kernel_rfl) fun fr hF => ?_
      refine from_end rfl (then_normal ?_)
      refine (wp_if hF (b := (!x4)) rfl (fun hb => ?_) (fun hb => ?_))
      · replace h := iteT hb h
        have hs : Sep [] w6 S5 := Sep.pick [] hs (by decide) rfl
        refine wp_seq (wp_pure [(2, .bool false)] hF (by kernel_rfl) fun fr hF => then_normal ?_)
        obtain rfl := hr1 _ (Option.some.inj h).symm
        obtain rfl := Option.some.inj hk1
        exact wp_ret (blk_ret (then_ret (then_ret (blk_ret (then_ret (ret1 rfl hF rfl ⟨_, rfl, rfl, (hM0.trans hM1).chg⟩))))))
      replace h := iteF hb h
      refine (wp_skip ?_)
      refine blk_normal (then_normal ?_)
      refine (wp_pure [(1, .pointer (some ⟨b1, 0, none⟩)), (39, .slice a1 (List.length p0.Code) c1), (40, .int .i64 (len p0.Code)), (41, .int .i64 (w64 (s1 + 1)))] hF (by kernel_rfl) fun fr hF => then_normal ?_)
      exact ⟨_, (Option.some.inj h).symm, S5, _, hF.sub _ (by kernel_rfl), hM1, hs⟩
    replace h := iteF hb h
    have hs : Sep [] w1i S2 := Sep.pick [] hs (by decide) rfl
    refine (wp_exit (then_exit (then_exit (blk_exit_eq ?_))))
    obtain rfl := hr1 _ (Option.some.inj h).symm
    exact then_normal ⟨_, rfl, S2, _, hF.sub _ (by kernel_rfl), hM1, hs⟩
  · obtain ⟨s1r, rfl, hM⟩ := hM
    obtain ⟨S3, F2, hF, hMx, hs⟩ := hM
    have hM0 := hM0.trans hMx
    refine wp_seq (wp_pure [(2, .bool true)] hF (by kernel_rfl) fun fr hF => then_normal ?_)
    obtain rfl := Option.some.inj h
    exact wp_ret (ret1 rfl hF rfl ⟨_, rfl, rfl, hM0.chg⟩)

theorem impl_onesOf_ok (p0 : Int) {r : Int} (h : impl_onesOf p0 = some r) {w : World} :
    Calls Try.prog 66 [.int .i64 p0].toArray w fun e w' => ∃ v, e = .returned v ∧ v = .int .i64 r ∧ Chg Non w w' := by
  unfold impl_onesOf at h
  have hs := Sep.nil w Non
  have hM0 : Mem w Non (fun k => (False) ∧ k < w.heap.size) w Non (fun k => (False) ∧ k < w.heap.size) := Mem.start (fun _ h => h.elim) (fun _ h => h.2) (fun _ h => h.elim)
  refine enter (N := 7) Try.func66 rfl Try.ntmps66 rfl fun fr hF => ?_
  refine wp_seq (wp_pure [(0, .int .i64 p0)] hF (by kernel_rfl) fun fr hF => then_normal ?_)
  refine wp_seq (wp_text' ?_)
  refine from_pure 2 [(4, .int .u64 (IntKind.u64.wrap p0))] hF (by kernel_rfl) fun fr hF => ?_
  obtain ⟨x1, hx1, h⟩ := bindE h
  refine s_shl rfl rfl hF rfl rfl hx1 fun fr hF => ?_
  refine from_pure 2 [(2, .int .i64 (w64 (x1 - 1)))] hF (by kernel_rfl) fun fr hF => ?_
  refine from_end rfl (then_normal ?_)
  obtain rfl := Option.some.inj h
  exact wp_ret (ret1 rfl hF rfl ⟨_, rfl, rfl, hM0.chg⟩)

theorem impl_AllInputs_ok (n : Nat) (p0 : D.Program) {r : (List (List Int))} (h : impl_AllInputs n p0 = some r) {w : World} {G0 : Nat → Prop} {va0 : Value} (ra0 : RV w G0 va0 p0) :
    Calls Try.prog 25 [va0].toArray w fun e w' => ∃ v, e = .returned v ∧ ∃ a1 c1 rs2, v = .slice a1 (List.length r) c1 ∧ ∃ S', Stp w Non w' S' ∧ Sep [SL (α := Hd) 26 (.slice a1 (List.length r) c1) rs2, HP.all own26 rs2 r] w' S' := by
  unfold impl_AllInputs at h
  have hs := Sep.nil w Non
  have hM0 : Mem w Non (fun k => (G0 k) ∧ k < w.heap.size) w Non (fun k => (G0 k) ∧ k < w.heap.size) := Mem.start (fun _ h => h.elim) (fun _ h => h.2) (fun _ h => h.elim)
  have ra0 := ra0.sub (F' := (fun k => (G0 k) ∧ k < w.heap.size)) (fun k hk h => ⟨h, hk⟩)
  obtain ⟨v1, rfl, r1⟩ := RV.Program ra0
  obtain ⟨a1, c1, rfl, -⟩ := r1.slice
  refine enter (N := 64) Try.func25 rfl Try.ntmps25 rfl fun fr hF => ?_
  refine wp_seq (wp_text' ?_)
  refine q_box hs hM0 [.int .i64 p0.W, .int .i64 p0.Mem, .int .i64 p0.In, .slice a1 (List.length p0.Code) c1] rfl rfl hF rfl rfl fun b1 w1 S1 fr hs hp hF => ?_
  have r1 := r1.stp hM0 hp
  have hM0 := hM0.stp hp
  have hs : Sep [BX b1 30 [.int .i64 p0.W, .int .i64 p0.Mem, .int .i64 p0.In, .slice a1 (List.length p0.Code) c1]] w1 S1 := hs
  refine from_pure 1 [(1, .pointer (some ⟨b1, 0, none⟩))] hF (by kernel_rfl) fun fr hF => ?_
  refine from_end rfl (then_normal ?_)
  refine wp_seq ?_
  obtain ⟨x1, hx1, h⟩ := bindE h
  refine wp_seq (region_b [] [false, false, true, true, true, false, true, false, true, true, true]
      [.eq (.agg #[.int .i64 p0.W, .int .i64 p0.Mem, .int .i64 p0.In, .slice a1 (List.length p0.Code) c1]), .eq (.bool x1), .eq (.bool (!x1)), .eq (.bool (!x1)), .eq (.pointer (some ⟨b1, 0, none⟩)), .eq (.int .i64 p0.W), .eq (.pointer (some ⟨b1, 2, none⟩)), .eq (.int .i64 p0.In), .eq (.int .i64 (w64 (p0.W * p0.In))), .eq (.bool (decide ((w64 (p0.W * p0.In)) > 12))), .eq (.bool ((!x1) || (decide ((w64 (p0.W * p0.In)) > 12))))]
      [(1, .pointer (some ⟨b1, 0, none⟩)), (17, .bool ((!x1) || (decide ((w64 (p0.W * p0.In)) > 12))))] mix hF (by kernel_rfl) (by kernel_rfl) (by kernel_rfl) ⟨Pd.mono_eq, Pd.mono_eq, Pd.mono_eq, Pd.mono_eq, trivial⟩ (fun hG => ⟨np_loadBoxS hG hF ty30 rfl rfl (hs.bx 0 rfl) rfl rfl rfl rfl, np_call [.agg #[.int .i64 p0.W, .int .i64 p0.Mem, .int .i64 p0.In, .slice a1 (List.length p0.Code) c1]] hG hF Try.call60 rfl rfl (fun w hC hg => (impl_ProgramOk_ok n p0 hx1 ((RV.mk_Program p0 (r1)).ext hC)).mono fun e w' ⟨v, he, hv, hc⟩ => ⟨v, he, hc, hv⟩), np_loadBox hG hF ty3 rfl rfl (hs.bx 0 rfl) rfl rfl rfl, np_loadBox hG hF ty3 rfl rfl (hs.bx 0 rfl) rfl rfl rfl, trivial⟩) (by kernel_rfl) fun fr w2 hF hE hc => then_normal ?_)
  have r1 := r1.ext hc
  have hs := hs.ext hc
  have hM0 := hM0.ext hc
  refine (wp_if hF (b := ((!x1) || (decide ((w64 (p0.W * p0.In)) > 12)))) rfl (fun hb => ?_) (fun hb => ?_))
  · replace h := iteT hb h
    have hs : Sep [] w2 S1 := Sep.pick [] hs (by decide) rfl
    refine wp_seq (wp_pure [(2, .slice none (List.length ([] : List (List Int))) 0)] hF (by kernel_rfl) fun fr hF => then_normal ?_)
    have hs : Sep [SL (α := Hd) 26 (.slice none (List.length ([] : List (List Int))) 0) ([] : List Hd), HP.all own26 ([] : List Hd) ([] : List (List Int))] w2 S1 := (hs.emp (HP.all own26 [] []) trivial).cons_nil (α := Hd) 26
    obtain rfl := Option.some.inj h
    exact wp_ret (then_ret (ret1 rfl hF rfl ⟨_, rfl, none, 0, ([] : List Hd), rfl, S1, hM0.out, hs⟩))
  replace h := iteF hb h
  refine (wp_skip (then_normal ?_))
  refine wp_seq (wp_text' ?_)
  refine from_pure 1 [(1, .pointer (some ⟨b1, 0, none⟩)), (18, .pointer (some ⟨b1, 0, none⟩))] hF (by kernel_rfl) fun fr hF => ?_
  refine s_loadBox (.int .i64 p0.W) ty3 rfl rfl hF rfl (hs.bx 0 rfl) rfl rfl fun fr hF => ?_
  refine from_pure 1 [(1, .pointer (some ⟨b1, 0, none⟩)), (19, .int .i64 p0.W), (20, .pointer (some ⟨b1, 2, none⟩))] hF (by kernel_rfl) fun fr hF => ?_
  refine s_loadBox (.int .i64 p0.In) ty3 rfl rfl hF rfl (hs.bx 0 rfl) rfl rfl fun fr hF => ?_
  refine from_pure 2 [(1, .pointer (some ⟨b1, 0, none⟩)), (23, .int .u64 (IntKind.u64.wrap (w64 (p0.W * p0.In))))] hF (by kernel_rfl) fun fr hF => ?_
  obtain ⟨x2, hx2, h⟩ := bindE h
  refine s_shl rfl rfl hF rfl rfl hx2 fun fr hF => ?_
  obtain ⟨x3, hx3, h⟩ := bindE h
  refine q_makeD (own := own26) (⟨none, 0, 0⟩ : Hd) (fun _ => .inr ⟨rfl, _, rfl⟩) hs hM0 Try.underlying39 rel26 (zero_flat _ (by kernel_rfl)) rfl rfl hF rfl rfl hx3 fun a2 c2 rs1 w3 S2 fr hs hp hF => ?_
  have r1 := r1.stp hM0 hp
  have hM0 := hM0.stp hp
  have hs : Sep [SL (α := Hd) 26 (.slice a2 (List.length x3) c2) rs1, HP.all own26 rs1 x3, BX b1 30 [.int .i64 p0.W, .int .i64 p0.Mem, .int .i64 p0.In, .slice a1 (List.length p0.Code) c1]] w3 S2 := hs
  refine from_pure 1 [(1, .pointer (some ⟨b1, 0, none⟩)), (3, .slice a2 (List.length x3) c2)] hF (by kernel_rfl) fun fr hF => ?_
  refine from_end rfl (then_normal ?_)
  refine wp_seq ?_
  refine wp_seq (wp_pure [(1, .pointer (some ⟨b1, 0, none⟩)), (3, .slice a2 (List.length x3) c2), (27, .int .i64 (len x3)), (28, .int .i64 0)] hF (by kernel_rfl) fun fr hF => then_normal ?_)
  obtain ⟨rl1, hit1, h⟩ := bindE h
  have hk1 := h
  refine (wp_cut (M := fun fr w' => ∃ rs3 S4 F2, FrS 64 [(3, .slice a2 (List.length x3) c2)] fr ∧ Mem w3 S2 (fun k => (G0 k) ∧ k < w.heap.size) w' S4 F2 ∧ Sep [SL (α := Hd) 26 (.slice a2 (List.length x3) c2) rs3, HP.all own26 rs3 rl1] w' S4) (wp_block (wp_iter (Inv := fun s1 fr w' => ∃ rs2 S3 F1, FrS 64 [(1, .pointer (some ⟨b1, 0, none⟩)), (3, .slice a2 (List.length x3) c2), (27, .int .i64 (len x3)), (28, .int .i64 s1.1)] fr ∧ Mem w3 S2 (fun k => (G0 k) ∧ k < w.heap.size) w' S3 F1 ∧ Sep [SL (α := Hd) 26 (.slice a2 (List.length x3) c2) rs2, HP.all own26 rs2 s1.2, BX b1 30 [.int .i64 p0.W, .int .i64 p0.Mem, .int .i64 p0.In, .slice a1 (List.length p0.Code) c1]] w' S3) hit1 ⟨rs1, S2, _, hF.sub _ (by kernel_rfl), (Mem.start hM0.bd hM0.bdF hM0.dj), hs⟩ fun s1 q1 fr w1i hI h hr1 => ?_)) fun fr w1o hM => ?_)
  · obtain ⟨rs2, S3, F1, hF, hM1, hs⟩ := hI
    have r1 := r1.mem hM1
    refine wp_seq (wp_pure [(1, .pointer (some ⟨b1, 0, none⟩)), (3, .slice a2 (List.length x3) c2), (27, .int .i64 (len x3)), (28, .int .i64 s1.1), (29, .bool (decide (s1.1 < (len x3))))] hF (by kernel_rfl) fun fr hF => then_normal ?_)
    refine wp_seq (wp_if hF (b := (decide (s1.1 < (len x3)))) rfl (fun hb => ?_) (fun hb => ?_))
    · replace h := iteT hb h
      refine (wp_skip (then_normal ?_))
      refine wp_seq (wp_block ?_)
      refine wp_seq (wp_pure [(1, .pointer (some ⟨b1, 0, none⟩)), (3, .slice a2 (List.length x3) c2), (4, .int .i64 s1.1), (27, .int .i64 (len x3)), (28, .int .i64 s1.1)] hF (by kernel_rfl) fun fr hF => then_normal ?_)
      refine wp_seq (wp_text' ?_)
      refine from_pure 1 [(1, .pointer (some ⟨b1, 0, none⟩)), (3, .slice a2 (List.length x3) c2), (4, .int .i64 s1.1), (27, .int .i64 (len x3)), (28, .int .i64 s1.1), (31, .pointer (some ⟨b1, 2, none⟩))] hF (by kernel_rfl) fun fr hF => ?_
      refine s_loadBox (.int .i64 p0.In) ty3 rfl rfl hF rfl (hs.bx 2 rfl) rfl rfl fun fr hF => ?_
      obtain ⟨x4, hx4, h⟩ := bindE h
      refine q_make hs hM1 Try.underlying26 el3 (zero_flat _ (by kernel_rfl)) rfl rfl hF rfl rfl hx4 fun a3 c3 w4 S5 fr hs hp hF => ?_
      have r1 := r1.stp hM1 hp
      have hM1 := hM1.stp hp
      have hs : Sep [SL (α := Int) 3 (.slice a3 (List.length x4) c3) x4, SL (α := Hd) 26 (.slice a2 (List.length x3) c2) rs2, HP.all own26 rs2 s1.2, BX b1 30 [.int .i64 p0.W, .int .i64 p0.Mem, .int .i64 p0.In, .slice a1 (List.length p0.Code) c1]] w4 S5 := hs
      refine from_pure 1 [(1, .pointer (some ⟨b1, 0, none⟩)), (3, .slice a2 (List.length x3) c2), (4, .int .i64 s1.1), (5, .slice a3 (List.length x4) c3), (27, .int .i64 (len x3)), (28, .int .i64 s1.1)] hF (by kernel_rfl) fun fr hF => ?_
      refine from_end rfl (then_normal ?_)
      refine wp_seq ?_
      refine wp_seq (wp_pure [(1, .pointer (some ⟨b1, 0, none⟩)), (3, .slice a2 (List.length x3) c2), (4, .int .i64 s1.1), (5, .slice a3 (List.length x4) c3), (27, .int .i64 (len x3)), (28, .int .i64 s1.1), (35, .int .i64 (len x4)), (36, .int .i64 0)] hF (by kernel_rfl) fun fr hF => then_normal ?_)
      obtain ⟨rl2, hit2, h⟩ := bindE h
      have hk2 := h
      refine (wp_cut (M := fun fr w' => ∃ S7 F4, FrS 64 [(1, .pointer (some ⟨b1, 0, none⟩)), (3, .slice a2 (List.length x3) c2), (4, .int .i64 s1.1), (5, .slice a3 (List.length x4) c3), (27, .int .i64 (len x3)), (28, .int .i64 s1.1)] fr ∧ Mem w4 S5 F1 w' S7 F4 ∧ Sep [SL (α := Int) 3 (.slice a3 (List.length x4) c3) rl2, SL (α := Hd) 26 (.slice a2 (List.length x3) c2) rs2, HP.all own26 rs2 s1.2, BX b1 30 [.int .i64 p0.W, .int .i64 p0.Mem, .int .i64 p0.In, .slice a1 (List.length p0.Code) c1]] w' S7) (wp_block (wp_iter (Inv := fun s2 fr w' => ∃ S6 F3, FrS 64 [(1, .pointer (some ⟨b1, 0, none⟩)), (3, .slice a2 (List.length x3) c2), (4, .int .i64 s1.1), (5, .slice a3 (List.length x4) c3), (27, .int .i64 (len x3)), (28, .int .i64 s1.1), (35, .int .i64 (len x4)), (36, .int .i64 s2.1)] fr ∧ Mem w4 S5 F1 w' S6 F3 ∧ Sep [SL (α := Int) 3 (.slice a3 (List.length x4) c3) s2.2, SL (α := Hd) 26 (.slice a2 (List.length x3) c2) rs2, HP.all own26 rs2 s1.2, BX b1 30 [.int .i64 p0.W, .int .i64 p0.Mem, .int .i64 p0.In, .slice a1 (List.length p0.Code) c1]] w' S6) hit2 ⟨S5, _, hF.sub _ (by kernel_rfl), (Mem.start hM1.bd hM1.bdF hM1.dj), hs⟩ fun s2 q2 fr w2i hI h hr2 => ?_)) fun fr w2o hM => ?_)
      · obtain ⟨S6, F3, hF, hM2, hs⟩ := hI
        have r1 := r1.mem hM2
        refine wp_seq (wp_pure [(1, .pointer (some ⟨b1, 0, none⟩)), (3, .slice a2 (List.length x3) c2), (4, .int .i64 s1.1), (5, .slice a3 (List.length x4) c3), (27, .int .i64 (len x3)), (28, .int .i64 s1.1), (35, .int .i64 (len x4)), (36, .int .i64 s2.1), (37, .bool (decide (s2.1 < (len x4))))] hF (by kernel_rfl) fun fr hF => then_normal ?_)
        refine wp_seq (wp_if hF (b := (decide (s2.1 < (len x4)))) rfl (fun hb => ?_) (fun hb => ?_))
        · replace h := iteT hb h
          refine (wp_skip (then_normal ?_))
          refine wp_seq (wp_block ?_)
          refine wp_seq (wp_pure [(1, .pointer (some ⟨b1, 0, none⟩)), (3, .slice a2 (List.length x3) c2), (4, .int .i64 s1.1), (5, .slice a3 (List.length x4) c3), (6, .int .i64 s2.1), (27, .int .i64 (len x3)), (28, .int .i64 s1.1), (35, .int .i64 (len x4)), (36, .int .i64 s2.1)] hF (by kernel_rfl) fun fr hF => then_normal ?_)
          obtain ⟨x5, hx5, h⟩ := bindE h
          obtain ⟨x6, hx6, h⟩ := bindE h
          refine (region_bm 17 [0, 0, 0, 0, 8, 0, 32, 96, 0, 480, 1016, 2040, 4092, 0, 8192, 24576, 65532, 131071, 262143] [true, true, true, true, false, true, false, true, true, true, true, true, false, true, false, false, true]
              [.eq (.slice a3 (List.length x4) c3), .eq (.int .i64 s2.1), .eq (.int .i64 s1.1), .eq (.pointer (some ⟨b1, 0, none⟩)), .eq (.int .i64 p0.W), .eq (.pointer (some ⟨b1, 2, none⟩)), .eq (.int .i64 p0.In), .eq (.int .i64 (w64 (p0.In - 1))), .eq (.int .i64 s2.1), .eq (.int .i64 (w64 ((w64 (p0.In - 1)) - s2.1))), .eq (.int .i64 (w64 (p0.W * (w64 ((w64 (p0.In - 1)) - s2.1))))), .eq (.int .u64 (IntKind.u64.wrap (w64 (p0.W * (w64 ((w64 (p0.In - 1)) - s2.1)))))), .eq (.int .i64 x5), .eq (.pointer (some ⟨b1, 0, none⟩)), .eq (.int .i64 p0.W), .eq (.int .i64 x6), .eq (.int .i64 (band x5 x6)), .any, .any]
              [(1, .pointer (some ⟨b1, 0, none⟩)), (3, .slice a2 (List.length x3) c2), (4, .int .i64 s1.1), (5, .slice a3 (List.length x4) c3), (27, .int .i64 (len x3)), (28, .int .i64 s1.1), (35, .int .i64 (len x4)), (36, .int .i64 s2.1), (39, .slice a3 (List.length x4) c3), (40, .int .i64 s2.1), (55, .int .i64 (band x5 x6))] mix hF (by kernel_rfl) (by kernel_rfl) (by kernel_rfl) (by kernel_rfl) ⟨Pd.monoO_eq, Pd.monoO_eq, Pd.monoO_eq, Pd.monoO_eq, Pd.monoO_eq, trivial⟩ (fun ow hG => ⟨np_to ow (np_loadBox hG hF ty3 rfl rfl (hs.bx 3 rfl) rfl rfl rfl), np_to ow (np_loadBox hG hF ty3 rfl rfl (hs.bx 3 rfl) rfl rfl rfl), np_to ow (np_shr hG hF rfl rfl rfl (fun hg => hx5) rfl), np_to ow (np_loadBox hG hF ty3 rfl rfl (hs.bx 3 rfl) rfl rfl rfl), np_to ow (np_call [.int .i64 p0.W] hG hF Try.call66 rfl rfl (fun w hC hg => (impl_onesOf_ok p0.W hx6).mono fun e w' ⟨v, he, hv, hc⟩ => ⟨v, he, hc, hv⟩)), trivial⟩) (by kernel_rfl) fun ow fr w5 hF hE hc => ?_)
          have r1 := r1.ext hc
          have hs := hs.ext hc
          have hM2 := hM2.ext hc
          obtain ⟨x7, hx7, h⟩ := bindE h
          refine q_set (q := (band x5 x6)) 0 hs hM2 rfl Try.underlying26 ty3 rfl rfl rfl rfl hF rfl rfl (by simp) rfl rfl hx7 fun w6 S8 fr _ hs hp hF => ?_
          have r1 := r1.stp hM2 hp
          have hM2 := hM2.stp hp
          have hs : Sep [SL (α := Int) 3 (.slice a3 (List.length x4) c3) x7, SL (α := Hd) 26 (.slice a2 (List.length x3) c2) rs2, HP.all own26 rs2 s1.2, BX b1 30 [.int .i64 p0.W, .int .i64 p0.Mem, .int .i64 p0.In, .slice a1 (List.length p0.Code) c1]] w6 S8 := hs
          refine from_end rfl ?_
          refine blk_normal (then_normal ?_)
          refine (wp_pure [(1, .pointer (some ⟨b1, 0, none⟩)), (3, .slice a2 (List.length x3) c2), (4, .int .i64 s1.1), (5, .slice a3 (List.length x4) c3), (27, .int .i64 (len x3)), (28, .int .i64 s1.1), (35, .int .i64 (len x4)), (36, .int .i64 (w64 (s2.1 + 1)))] hF (by kernel_rfl) fun fr hF => then_normal ?_)
          exact ⟨_, (Option.some.inj h).symm, S8, _, hF.sub _ (by kernel_rfl), hM2, hs⟩
        replace h := iteF hb h
        refine (wp_exit (then_exit (then_exit (blk_exit_eq ?_))))
        obtain rfl := hr2 _ (Option.some.inj h).symm
        exact then_normal ⟨S6, _, hF.sub _ (by kernel_rfl), hM2, hs⟩
      · obtain ⟨S7, F4, hF, hMx, hs⟩ := hM
        have r1 := r1.mem hMx
        have hM1 := hM1.trans hMx
        refine (wp_text' ?_)
        refine from_pure 3 [(1, .pointer (some ⟨b1, 0, none⟩)), (3, .slice a2 (List.length x3) c2), (27, .int .i64 (len x3)), (28, .int .i64 s1.1), (58, .slice a2 (List.length x3) c2), (59, .int .i64 s1.1), (60, .slice a3 (List.length x4) c3)] hF (by kernel_rfl) fun fr hF => ?_
        have hs : Sep [SL (α := Hd) 26 (.slice a2 (List.length x3) c2) rs2, HP.all own26 rs2 s1.2, SL (α := Int) 3 (.slice a3 (List.length x4) c3) rl2, BX b1 30 [.int .i64 p0.W, .int .i64 p0.Mem, .int .i64 p0.In, .slice a1 (List.length p0.Code) c1]] w2o S7 := Sep.pick [1, 2, 0, 3] hs (by decide) rfl
        obtain ⟨x8, hx8, h⟩ := bindE h
        obtain ⟨he1, hs⟩ := hs.relen 2 rfl
        simp only [he1] at hF
        refine q_setD (zx := rl2) (⟨a3, List.length rl2, c3⟩ : Hd) hs hM1 (fun _ _ h => h) Try.underlying39 rty26 rfl rfl rfl rfl hF rfl rfl (by simp) rfl rfl hx8 fun rs4 w7 S9 fr _ hs hp hF => ?_
        have r1 := r1.stp hM1 hp
        have hM1 := hM1.stp hp
        have hs : Sep [SL (α := Hd) 26 (.slice a2 (List.length x3) c2) rs4, HP.all own26 rs4 x8, BX b1 30 [.int .i64 p0.W, .int .i64 p0.Mem, .int .i64 p0.In, .slice a1 (List.length p0.Code) c1]] w7 S9 := hs
        refine from_end rfl ?_
        refine blk_normal (then_normal ?_)
        refine (wp_pure [(1, .pointer (some ⟨b1, 0, none⟩)), (3, .slice a2 (List.length x3) c2), (27, .int .i64 (len x3)), (28, .int .i64 (w64 (s1.1 + 1)))] hF (by kernel_rfl) fun fr hF => then_normal ?_)
        exact ⟨_, (Option.some.inj h).symm, rs4, S9, _, hF.sub _ (by kernel_rfl), hM1, hs⟩
    replace h := iteF hb h
    have hs : Sep [SL (α := Hd) 26 (.slice a2 (List.length x3) c2) rs2, HP.all own26 rs2 s1.2] w1i S3 := Sep.pick [0, 1] hs (by decide) rfl
    refine (wp_exit (then_exit (then_exit (blk_exit_eq ?_))))
    obtain rfl := hr1 _ (Option.some.inj h).symm
    exact then_normal ⟨rs2, S3, _, hF.sub _ (by kernel_rfl), hM1, hs⟩
  · obtain ⟨rs3, S4, F2, hF, hMx, hs⟩ := hM
    have hM0 := hM0.trans hMx
    refine wp_seq (wp_pure [(2, .slice a2 (List.length x3) c2)] hF (by kernel_rfl) fun fr hF => then_normal ?_)
    obtain rfl := Option.some.inj h
    obtain ⟨he2, hs⟩ := hs.relenD 0 1 rfl rfl
    have hs : Sep [SL (α := Hd) 26 (.slice a2 (List.length rl1) c2) rs3, HP.all own26 rs3 rl1] w1o S4 := hs
    exact wp_ret (ret1 rfl hF rfl ⟨_, rfl, a2, c2, rs3, (by simp only [he2]), S4, hM0.out, hs⟩)

theorem laws_eqIntS_ok (n : Nat) (p0 : List Int) (p1 : List Int) {r : Bool} (h : laws_eqIntS n p0 p1 = some r) {w : World} {G0 : Nat → Prop} {va0 : Value} (ra0 : RV w G0 va0 p0) {G1 : Nat → Prop} {va1 : Value} (ra1 : RV w G1 va1 p1) :
    Calls Try.prog 15 [va0, va1].toArray w fun e w' => ∃ v, e = .returned v ∧ v = .bool r ∧ Chg Non w w' := by
  unfold laws_eqIntS at h
  have hs := Sep.nil w Non
  have hM0 : Mem w Non (fun k => (G0 k ∨ G1 k) ∧ k < w.heap.size) w Non (fun k => (G0 k ∨ G1 k) ∧ k < w.heap.size) := Mem.start (fun _ h => h.elim) (fun _ h => h.2) (fun _ h => h.elim)
  have ra0 := ra0.sub (F' := (fun k => (G0 k ∨ G1 k) ∧ k < w.heap.size)) (fun k hk h => ⟨.inl h, hk⟩)
  obtain ⟨a1, c1, rfl, -⟩ := ra0.slice
  have ra1 := ra1.sub (F' := (fun k => (G0 k ∨ G1 k) ∧ k < w.heap.size)) (fun k hk h => ⟨.inr (h), hk⟩)
  obtain ⟨a2, c2, rfl, -⟩ := ra1.slice
  refine enter (N := 26) Try.func15 rfl Try.ntmps15 rfl fun fr hF => ?_
  refine wp_seq (wp_pure [(0, .slice a1 (List.length p0) c1), (1, .slice a2 (List.length p1) c2)] hF (by kernel_rfl) fun fr hF => then_normal ?_)
  refine wp_seq ?_
  refine wp_seq (wp_pure [(0, .slice a1 (List.length p0) c1), (1, .slice a2 (List.length p1) c2), (10, .bool ((len p0) != (len p1)))] hF (by kernel_rfl) fun fr hF => then_normal ?_)
  refine (wp_if hF (b := ((len p0) != (len p1))) rfl (fun hb => ?_) (fun hb => ?_))
  · replace h := iteT hb h
    refine wp_seq (wp_pure [(4, .bool false)] hF (by kernel_rfl) fun fr hF => then_normal ?_)
    obtain rfl := Option.some.inj h
    exact wp_ret (then_ret (ret1 rfl hF rfl ⟨_, rfl, rfl, hM0.chg⟩))
  replace h := iteF hb h
  refine (wp_skip (then_normal ?_))
  refine wp_seq ?_
  refine wp_seq (wp_pure [(0, .slice a1 (List.length p0) c1), (1, .slice a2 (List.length p1) c2), (5, .int .i64 0)] hF (by kernel_rfl) fun fr hF => then_normal ?_)
  obtain ⟨rl1, hit1, h⟩ := bindE h
  have hk1 := h
  refine (wp_cut (M := fun fr w' => ∃ s, rl1 = .inl s ∧ ∃ S2 F2, FrS 26 [] fr ∧ Mem w Non (fun k => (G0 k ∨ G1 k) ∧ k < w.heap.size) w' S2 F2 ∧ Sep [] w' S2) (wp_block (wp_iter (Inv := fun s1 fr w' => ∃ S1 F1, FrS 26 [(0, .slice a1 (List.length p0) c1), (1, .slice a2 (List.length p1) c2), (5, .int .i64 s1)] fr ∧ Mem w Non (fun k => (G0 k ∨ G1 k) ∧ k < w.heap.size) w' S1 F1 ∧ Sep [] w' S1) hit1 ⟨Non, _, hF.sub _ (by kernel_rfl), (Mem.start hM0.bd hM0.bdF hM0.dj), hs⟩ fun s1 q1 fr w1i hI h hr1 => ?_)) fun fr w1o hM => ?_)
  · obtain ⟨S1, F1, hF, hM1, hs⟩ := hI
    have ra0 := ra0.mem hM1
    have ra1 := ra1.mem hM1
    refine wp_seq ?_
    refine wp_seq (wp_pure [(0, .slice a1 (List.length p0) c1), (1, .slice a2 (List.length p1) c2), (5, .int .i64 s1), (14, .bool (decide (s1 < (len p0))))] hF (by kernel_rfl) fun fr hF => then_normal ?_)
    refine (wp_if hF (b := (decide (s1 < (len p0)))) rfl (fun hb => ?_) (fun hb => ?_))
    · replace h := iteT hb h
      refine (wp_skip (then_normal ?_))
      refine wp_seq (wp_block ?_)
      obtain ⟨x1, hx1, h⟩ := bindE h
      obtain ⟨x2, hx2, h⟩ := bindE h
      refine wp_seq (region_bm 9 [0, 0, 3, 7, 0, 0, 48, 112, 255] [true, true, false, false, true, true, false, false, true]
          [.eq (.slice a1 (List.length p0) c1), .eq (.int .i64 s1), .is fun v w => ElemP w (fun k => k < w1i.heap.size) v (x1 : Int), .eq (.int .i64 x1), .eq (.slice a2 (List.length p1) c2), .eq (.int .i64 s1), .is fun v w => ElemP w (fun k => k < w1i.heap.size) v (x2 : Int), .eq (.int .i64 x2), .eq (.bool (x1 != x2))]
          [(0, .slice a1 (List.length p0) c1), (1, .slice a2 (List.length p1) c2), (5, .int .i64 s1), (25, .bool (x1 != x2))] mix hF (by kernel_rfl) (by kernel_rfl) (by kernel_rfl) (by kernel_rfl) ⟨(Pd.monoO_is mono_elem), Pd.monoO_eq, (Pd.monoO_is mono_elem), Pd.monoO_eq, trivial⟩ (fun ow hG => ⟨np_to ow (np_index hG hF ty3 Try.underlying26 rfl rfl (RV.sub (ra0) fun k hk _ => hk) rfl rfl (fun hg => ⟨get?_nn hx1, get?_at hx1⟩)), np_to ow (np_loadF (z := x1) (i := 2) hG hF ty3 rfl rfl rfl rfl rfl rfl rfl), np_to ow (np_index hG hF ty3 Try.underlying26 rfl rfl (RV.sub (ra1) fun k hk _ => hk) rfl rfl (fun hg => ⟨get?_nn hx2, get?_at hx2⟩)), np_to ow (np_loadF (z := x2) (i := 6) hG hF ty3 rfl rfl rfl rfl rfl rfl rfl), trivial⟩) (by kernel_rfl) fun ow fr w1 hF hE hc => ?_)
      have ra0 := ra0.ext hc
      have ra1 := ra1.ext hc
      have hs := hs.ext hc
      have hM1 := hM1.ext hc
      refine from_end rfl (then_normal ?_)
      refine (wp_if hF (b := (x1 != x2)) rfl (fun hb => ?_) (fun hb => ?_))
      · replace h := iteT hb h
        refine wp_seq (wp_pure [(4, .bool false)] hF (by kernel_rfl) fun fr hF => then_normal ?_)
        obtain rfl := hr1 _ (Option.some.inj h).symm
        obtain rfl := Option.some.inj hk1
        exact wp_ret (blk_ret (then_ret (then_ret (blk_ret (then_ret (ret1 rfl hF rfl ⟨_, rfl, rfl, (hM0.trans hM1).chg⟩))))))
      replace h := iteF hb h
      refine (wp_skip ?_)
      refine blk_normal (then_normal ?_)
      refine (wp_pure [(0, .slice a1 (List.length p0) c1), (1, .slice a2 (List.length p1) c2), (5, .int .i64 (w64 (s1 + 1)))] hF (by kernel_rfl) fun fr hF => then_normal ?_)
      exact ⟨_, (Option.some.inj h).symm, S1, _, hF.sub _ (by kernel_rfl), hM1, hs⟩
    replace h := iteF hb h
    refine (wp_exit (then_exit (then_exit (blk_exit_eq ?_))))
    obtain rfl := hr1 _ (Option.some.inj h).symm
    exact then_normal ⟨_, rfl, S1, _, hF.sub _ (by kernel_rfl), hM1, hs⟩
  · obtain ⟨s1r, rfl, hM⟩ := hM
    obtain ⟨S2, F2, hF, hMx, hs⟩ := hM
    have hM0 := hM0.trans hMx
    refine wp_seq (wp_pure [(4, .bool true)] hF (by kernel_rfl) fun fr hF => then_normal ?_)
    obtain rfl := Option.some.inj h
    exact wp_ret (ret1 rfl hF rfl ⟨_, rfl, rfl, hM0.chg⟩)

theorem laws_eqIntSS_ok (n : Nat) (p0 : List (List Int)) (p1 : List (List Int)) {r : Bool} (h : laws_eqIntSS n p0 p1 = some r) {w : World} {G0 : Nat → Prop} {va0 : Value} (ra0 : RV w G0 va0 p0) {G1 : Nat → Prop} {va1 : Value} (ra1 : RV w G1 va1 p1) :
    Calls Try.prog 26 [va0, va1].toArray w fun e w' => ∃ v, e = .returned v ∧ v = .bool r ∧ Chg Non w w' := by
  unfold laws_eqIntSS at h
  have hs := Sep.nil w Non
  have hM0 : Mem w Non (fun k => (G0 k ∨ G1 k) ∧ k < w.heap.size) w Non (fun k => (G0 k ∨ G1 k) ∧ k < w.heap.size) := Mem.start (fun _ h => h.elim) (fun _ h => h.2) (fun _ h => h.elim)
  have ra0 := ra0.sub (F' := (fun k => (G0 k ∨ G1 k) ∧ k < w.heap.size)) (fun k hk h => ⟨.inl h, hk⟩)
  obtain ⟨a1, c1, rfl, -⟩ := ra0.slice
  have ra1 := ra1.sub (F' := (fun k => (G0 k ∨ G1 k) ∧ k < w.heap.size)) (fun k hk h => ⟨.inr (h), hk⟩)
  obtain ⟨a2, c2, rfl, -⟩ := ra1.slice
  refine enter (N := 27) Try.func26 rfl Try.ntmps26 rfl fun fr hF => ?_
  refine wp_seq (wp_pure [(0, .slice a1 (List.length p0) c1), (1, .slice a2 (List.length p1) c2)] hF (by kernel_rfl) fun fr hF => then_normal ?_)
  refine wp_seq ?_
  refine wp_seq (wp_pure [(0, .slice a1 (List.length p0) c1), (1, .slice a2 (List.length p1) c2), (10, .bool ((len p0) != (len p1)))] hF (by kernel_rfl) fun fr hF => then_normal ?_)
  refine (wp_if hF (b := ((len p0) != (len p1))) rfl (fun hb => ?_) (fun hb => ?_))
  · replace h := iteT hb h
    refine wp_seq (wp_pure [(4, .bool false)] hF (by kernel_rfl) fun fr hF => then_normal ?_)
    obtain rfl := Option.some.inj h
    exact wp_ret (then_ret (ret1 rfl hF rfl ⟨_, rfl, rfl, hM0.chg⟩))
  replace h := iteF hb h
  refine (wp_skip (then_normal ?_))
  refine wp_seq ?_
  refine wp_seq (wp_pure [(0, .slice a1 (List.length p0) c1), (1, .slice a2 (List.length p1) c2), (5, .int .i64 0)] hF (by kernel_rfl) fun fr hF => then_normal ?_)
  obtain ⟨rl1, hit1, h⟩ := bindE h
  have hk1 := h
  refine (wp_cut (M := fun fr w' => ∃ s, rl1 = .inl s ∧ ∃ S2 F2, FrS 27 [] fr ∧ Mem w Non (fun k => (G0 k ∨ G1 k) ∧ k < w.heap.size) w' S2 F2 ∧ Sep [] w' S2) (wp_block (wp_iter (Inv := fun s1 fr w' => ∃ S1 F1, FrS 27 [(0, .slice a1 (List.length p0) c1), (1, .slice a2 (List.length p1) c2), (5, .int .i64 s1)] fr ∧ Mem w Non (fun k => (G0 k ∨ G1 k) ∧ k < w.heap.size) w' S1 F1 ∧ Sep [] w' S1) hit1 ⟨Non, _, hF.sub _ (by kernel_rfl), (Mem.start hM0.bd hM0.bdF hM0.dj), hs⟩ fun s1 q1 fr w1i hI h hr1 => ?_)) fun fr w1o hM => ?_)
  · obtain ⟨S1, F1, hF, hM1, hs⟩ := hI
    have ra0 := ra0.mem hM1
    have ra1 := ra1.mem hM1
    refine wp_seq ?_
    refine wp_seq (wp_pure [(0, .slice a1 (List.length p0) c1), (1, .slice a2 (List.length p1) c2), (5, .int .i64 s1), (14, .bool (decide (s1 < (len p0))))] hF (by kernel_rfl) fun fr hF => then_normal ?_)
    refine (wp_if hF (b := (decide (s1 < (len p0)))) rfl (fun hb => ?_) (fun hb => ?_))
    · replace h := iteT hb h
      refine (wp_skip (then_normal ?_))
      refine wp_seq (wp_block ?_)
      obtain ⟨x1, hx1, h⟩ := bindE h
      obtain ⟨x2, hx2, h⟩ := bindE h
      obtain ⟨x3, hx3, h⟩ := bindE h
      refine wp_seq (region_bm 10 [0, 0, 3, 7, 0, 0, 48, 112, 255, 511] [true, true, false, false, true, true, false, false, false, true]
          [.eq (.slice a1 (List.length p0) c1), .eq (.int .i64 s1), .is fun v w => ElemP w (fun k => k < w1i.heap.size) v (x1 : List Int), .is fun v w => RV w (fun k => k < w.heap.size) v (x1 : List Int), .eq (.slice a2 (List.length p1) c2), .eq (.int .i64 s1), .is fun v w => ElemP w (fun k => k < w1i.heap.size) v (x2 : List Int), .is fun v w => RV w (fun k => k < w.heap.size) v (x2 : List Int), .eq (.bool x3), .eq (.bool (!x3))]
          [(0, .slice a1 (List.length p0) c1), (1, .slice a2 (List.length p1) c2), (5, .int .i64 s1), (26, .bool (!x3))] mix hF (by kernel_rfl) (by kernel_rfl) (by kernel_rfl) (by kernel_rfl) ⟨(Pd.monoO_is mono_elem), (Pd.monoO_is mono_rvb), (Pd.monoO_is mono_elem), (Pd.monoO_is mono_rvb), Pd.monoO_eq, trivial⟩ (fun ow hG => ⟨np_to ow (np_index hG hF ty26 Try.underlying39 rfl rfl (RV.sub (ra0) fun k hk _ => hk) rfl rfl (fun hg => ⟨get?_nn hx1, get?_at hx1⟩)), np_to ow (np_loadD (z := x1) (i := 2) hG hF ty26 rfl rfl rfl rfl rfl rfl), np_to ow (np_index hG hF ty26 Try.underlying39 rfl rfl (RV.sub (ra1) fun k hk _ => hk) rfl rfl (fun hg => ⟨get?_nn hx2, get?_at hx2⟩)), np_to ow (np_loadD (z := x2) (i := 6) hG hF ty26 rfl rfl rfl rfl rfl rfl), np_to ow (np_callI [.inr 3, .inr 7] hG hF Try.call15 rfl rfl (by kernel_rfl) (fun w vs hC hg ha => by obtain ⟨vq0, _, rfl, hq0, vq1, _, rfl, hq1, rfl⟩ := ha; exact (laws_eqIntS_ok n x1 x2 hx3 (show RV w (fun k => k < w.heap.size) vq0 x1 from hq0) (show RV w (fun k => k < w.heap.size) vq1 x2 from hq1)).mono fun e w' ⟨v, he, hv, hc⟩ => ⟨v, he, hc, hv⟩)), trivial⟩) (by kernel_rfl) fun ow fr w1 hF hE hc => ?_)
      have ra0 := ra0.ext hc
      have ra1 := ra1.ext hc
      have hs := hs.ext hc
      have hM1 := hM1.ext hc
      refine from_end rfl (then_normal ?_)
      refine (wp_if hF (b := (!x3)) rfl (fun hb => ?_) (fun hb => ?_))
      · replace h := iteT hb h
        refine wp_seq (wp_pure [(4, .bool false)] hF (by kernel_rfl) fun fr hF => then_normal ?_)
        obtain rfl := hr1 _ (Option.some.inj h).symm
        obtain rfl := Option.some.inj hk1
        exact wp_ret (blk_ret (then_ret (then_ret (blk_ret (then_ret (ret1 rfl hF rfl ⟨_, rfl, rfl, (hM0.trans hM1).chg⟩))))))
      replace h := iteF hb h
      refine (wp_skip ?_)
      refine blk_normal (then_normal ?_)
      refine (wp_pure [(0, .slice a1 (List.length p0) c1), (1, .slice a2 (List.length p1) c2), (5, .int .i64 (w64 (s1 + 1)))] hF (by kernel_rfl) fun fr hF => then_normal ?_)
      exact ⟨_, (Option.some.inj h).symm, S1, _, hF.sub _ (by kernel_rfl), hM1, hs⟩
    replace h := iteF hb h
    refine (wp_exit (then_exit (then_exit (blk_exit_eq ?_))))
    obtain rfl := hr1 _ (Option.some.inj h).symm
    exact then_normal ⟨_, rfl, S1, _, hF.sub _ (by kernel_rfl), hM1, hs⟩
  · obtain ⟨s1r, rfl, hM⟩ := hM
    obtain ⟨S2, F2, hF, hMx, hs⟩ := hM
    have hM0 := hM0.trans hMx
    refine wp_seq (wp_pure [(4, .bool true)] hF (by kernel_rfl) fun fr hF => then_normal ?_)
    obtain rfl := Option.some.inj h
    exact wp_ret (ret1 rfl hF rfl ⟨_, rfl, rfl, hM0.chg⟩)

theorem laws_eqIns_ok (p0 : D.Ins) (p1 : D.Ins) {r : Bool} (h : laws_eqIns p0 p1 = some r) {w : World} :
    Calls Try.prog 111 [.agg #[.int .i64 p0.Op, .int .i64 p0.A, .int .i64 p0.B, .int .i64 p0.C], .agg #[.int .i64 p1.Op, .int .i64 p1.A, .int .i64 p1.B, .int .i64 p1.C]].toArray w fun e w' => ∃ v, e = .returned v ∧ v = .bool r ∧ Chg Non w w' := by
  unfold laws_eqIns at h
  have hs := Sep.nil w Non
  have hM0 : Mem w Non (fun k => (False) ∧ k < w.heap.size) w Non (fun k => (False) ∧ k < w.heap.size) := Mem.start (fun _ h => h.elim) (fun _ h => h.2) (fun _ h => h.elim)
  refine enter (N := 25) Try.func111 rfl Try.ntmps111 rfl fun fr hF => ?_
  refine wp_seq (wp_text' ?_)
  refine q_box hs hM0 [.int .i64 p0.Op, .int .i64 p0.A, .int .i64 p0.B, .int .i64 p0.C] rfl rfl hF rfl rfl fun b1 w1 S1 fr hs hp hF => ?_
  have hM0 := hM0.stp hp
  have hs : Sep [BX b1 90 [.int .i64 p0.Op, .int .i64 p0.A, .int .i64 p0.B, .int .i64 p0.C]] w1 S1 := hs
  refine q_box hs hM0 [.int .i64 p1.Op, .int .i64 p1.A, .int .i64 p1.B, .int .i64 p1.C] rfl rfl hF rfl rfl fun b2 w2 S2 fr hs hp hF => ?_
  have hM0 := hM0.stp hp
  have hs : Sep [BX b2 90 [.int .i64 p1.Op, .int .i64 p1.A, .int .i64 p1.B, .int .i64 p1.C], BX b1 90 [.int .i64 p0.Op, .int .i64 p0.A, .int .i64 p0.B, .int .i64 p0.C]] w2 S2 := hs
  refine from_pure 1 [(2, .pointer (some ⟨b1, 0, none⟩)), (3, .pointer (some ⟨b2, 0, none⟩))] hF (by kernel_rfl) fun fr hF => ?_
  refine from_end rfl (then_normal ?_)
  refine wp_seq ?_
  refine wp_seq (wp_text' ?_)
  refine from_pure 1 [(2, .pointer (some ⟨b1, 0, none⟩)), (3, .pointer (some ⟨b2, 0, none⟩)), (5, .pointer (some ⟨b1, 0, none⟩))] hF (by kernel_rfl) fun fr hF => ?_
  refine s_loadBox (.int .i64 p0.Op) ty3 rfl rfl hF rfl (hs.bx 1 rfl) rfl rfl fun fr hF => ?_
  refine from_pure 1 [(2, .pointer (some ⟨b1, 0, none⟩)), (3, .pointer (some ⟨b2, 0, none⟩)), (6, .int .i64 p0.Op), (7, .pointer (some ⟨b2, 0, none⟩))] hF (by kernel_rfl) fun fr hF => ?_
  refine s_loadBox (.int .i64 p1.Op) ty3 rfl rfl hF rfl (hs.bx 0 rfl) rfl rfl fun fr hF => ?_
  refine from_pure 1 [(2, .pointer (some ⟨b1, 0, none⟩)), (3, .pointer (some ⟨b2, 0, none⟩)), (9, .bool (p0.Op != p1.Op))] hF (by kernel_rfl) fun fr hF => ?_
  refine from_end rfl (then_normal ?_)
  refine (wp_if hF (b := (p0.Op != p1.Op)) rfl (fun hb => ?_) (fun hb => ?_))
  · replace h := iteT hb h
    have hs : Sep [] w2 S2 := Sep.pick [] hs (by decide) rfl
    refine wp_seq (wp_pure [(4, .bool false)] hF (by kernel_rfl) fun fr hF => then_normal ?_)
    obtain rfl := Option.some.inj h
    exact wp_ret (then_ret (ret1 rfl hF rfl ⟨_, rfl, rfl, hM0.chg⟩))
  replace h := iteF hb h
  refine (wp_skip (then_normal ?_))
  refine wp_seq ?_
  refine wp_seq (wp_text' ?_)
  refine from_pure 1 [(2, .pointer (some ⟨b1, 0, none⟩)), (3, .pointer (some ⟨b2, 0, none⟩)), (10, .pointer (some ⟨b1, 1, none⟩))] hF (by kernel_rfl) fun fr hF => ?_
  refine s_loadBox (.int .i64 p0.A) ty3 rfl rfl hF rfl (hs.bx 1 rfl) rfl rfl fun fr hF => ?_
  refine from_pure 1 [(2, .pointer (some ⟨b1, 0, none⟩)), (3, .pointer (some ⟨b2, 0, none⟩)), (11, .int .i64 p0.A), (12, .pointer (some ⟨b2, 1, none⟩))] hF (by kernel_rfl) fun fr hF => ?_
  refine s_loadBox (.int .i64 p1.A) ty3 rfl rfl hF rfl (hs.bx 0 rfl) rfl rfl fun fr hF => ?_
  refine from_pure 1 [(2, .pointer (some ⟨b1, 0, none⟩)), (3, .pointer (some ⟨b2, 0, none⟩)), (14, .bool (p0.A != p1.A))] hF (by kernel_rfl) fun fr hF => ?_
  refine from_end rfl (then_normal ?_)
  refine (wp_if hF (b := (p0.A != p1.A)) rfl (fun hb => ?_) (fun hb => ?_))
  · replace h := iteT hb h
    have hs : Sep [] w2 S2 := Sep.pick [] hs (by decide) rfl
    refine wp_seq (wp_pure [(4, .bool false)] hF (by kernel_rfl) fun fr hF => then_normal ?_)
    obtain rfl := Option.some.inj h
    exact wp_ret (then_ret (ret1 rfl hF rfl ⟨_, rfl, rfl, hM0.chg⟩))
  replace h := iteF hb h
  refine (wp_skip (then_normal ?_))
  refine wp_seq ?_
  refine wp_seq (wp_text' ?_)
  refine from_pure 1 [(2, .pointer (some ⟨b1, 0, none⟩)), (3, .pointer (some ⟨b2, 0, none⟩)), (15, .pointer (some ⟨b1, 2, none⟩))] hF (by kernel_rfl) fun fr hF => ?_
  refine s_loadBox (.int .i64 p0.B) ty3 rfl rfl hF rfl (hs.bx 1 rfl) rfl rfl fun fr hF => ?_
  refine from_pure 1 [(2, .pointer (some ⟨b1, 0, none⟩)), (3, .pointer (some ⟨b2, 0, none⟩)), (16, .int .i64 p0.B), (17, .pointer (some ⟨b2, 2, none⟩))] hF (by kernel_rfl) fun fr hF => ?_
  refine s_loadBox (.int .i64 p1.B) ty3 rfl rfl hF rfl (hs.bx 0 rfl) rfl rfl fun fr hF => ?_
  refine from_pure 1 [(2, .pointer (some ⟨b1, 0, none⟩)), (3, .pointer (some ⟨b2, 0, none⟩)), (19, .bool (p0.B != p1.B))] hF (by kernel_rfl) fun fr hF => ?_
  refine from_end rfl (then_normal ?_)
  refine (wp_if hF (b := (p0.B != p1.B)) rfl (fun hb => ?_) (fun hb => ?_))
  · replace h := iteT hb h
    have hs : Sep [] w2 S2 := Sep.pick [] hs (by decide) rfl
    refine wp_seq (wp_pure [(4, .bool false)] hF (by kernel_rfl) fun fr hF => then_normal ?_)
    obtain rfl := Option.some.inj h
    exact wp_ret (then_ret (ret1 rfl hF rfl ⟨_, rfl, rfl, hM0.chg⟩))
  replace h := iteF hb h
  refine (wp_skip (then_normal ?_))
  refine wp_seq ?_
  refine wp_seq (wp_text' ?_)
  refine from_pure 1 [(3, .pointer (some ⟨b2, 0, none⟩)), (20, .pointer (some ⟨b1, 3, none⟩))] hF (by kernel_rfl) fun fr hF => ?_
  refine s_loadBox (.int .i64 p0.C) ty3 rfl rfl hF rfl (hs.bx 1 rfl) rfl rfl fun fr hF => ?_
  have hs : Sep [BX b2 90 [.int .i64 p1.Op, .int .i64 p1.A, .int .i64 p1.B, .int .i64 p1.C]] w2 S2 := Sep.pick [0] hs (by decide) rfl
  refine from_pure 1 [(21, .int .i64 p0.C), (22, .pointer (some ⟨b2, 3, none⟩))] hF (by kernel_rfl) fun fr hF => ?_
  refine s_loadBox (.int .i64 p1.C) ty3 rfl rfl hF rfl (hs.bx 0 rfl) rfl rfl fun fr hF => ?_
  have hs : Sep [] w2 S2 := Sep.pick [] hs (by decide) rfl
  refine from_pure 1 [(24, .bool (p0.C != p1.C))] hF (by kernel_rfl) fun fr hF => ?_
  refine from_end rfl (then_normal ?_)
  refine (wp_if hF (b := (p0.C != p1.C)) rfl (fun hb => ?_) (fun hb => ?_))
  · replace h := iteT hb h
    refine wp_seq (wp_pure [(4, .bool false)] hF (by kernel_rfl) fun fr hF => then_normal ?_)
    obtain rfl := Option.some.inj h
    exact wp_ret (then_ret (ret1 rfl hF rfl ⟨_, rfl, rfl, hM0.chg⟩))
  replace h := iteF hb h
  refine (wp_skip (then_normal ?_))
  refine wp_seq (wp_pure [(4, .bool true)] hF (by kernel_rfl) fun fr hF => then_normal ?_)
  obtain rfl := Option.some.inj h
  exact wp_ret (ret1 rfl hF rfl ⟨_, rfl, rfl, hM0.chg⟩)

theorem laws_eqInsS_ok (n : Nat) (p0 : List D.Ins) (p1 : List D.Ins) {r : Bool} (h : laws_eqInsS n p0 p1 = some r) {w : World} {G0 : Nat → Prop} {va0 : Value} (ra0 : RV w G0 va0 p0) {G1 : Nat → Prop} {va1 : Value} (ra1 : RV w G1 va1 p1) :
    Calls Try.prog 62 [va0, va1].toArray w fun e w' => ∃ v, e = .returned v ∧ v = .bool r ∧ Chg Non w w' := by
  unfold laws_eqInsS at h
  have hs := Sep.nil w Non
  have hM0 : Mem w Non (fun k => (G0 k ∨ G1 k) ∧ k < w.heap.size) w Non (fun k => (G0 k ∨ G1 k) ∧ k < w.heap.size) := Mem.start (fun _ h => h.elim) (fun _ h => h.2) (fun _ h => h.elim)
  have ra0 := ra0.sub (F' := (fun k => (G0 k ∨ G1 k) ∧ k < w.heap.size)) (fun k hk h => ⟨.inl h, hk⟩)
  obtain ⟨a1, c1, rfl, -⟩ := ra0.slice
  have ra1 := ra1.sub (F' := (fun k => (G0 k ∨ G1 k) ∧ k < w.heap.size)) (fun k hk h => ⟨.inr (h), hk⟩)
  obtain ⟨a2, c2, rfl, -⟩ := ra1.slice
  refine enter (N := 27) Try.func62 rfl Try.ntmps62 rfl fun fr hF => ?_
  refine wp_seq (wp_pure [(0, .slice a1 (List.length p0) c1), (1, .slice a2 (List.length p1) c2)] hF (by kernel_rfl) fun fr hF => then_normal ?_)
  refine wp_seq ?_
  refine wp_seq (wp_pure [(0, .slice a1 (List.length p0) c1), (1, .slice a2 (List.length p1) c2), (10, .bool ((len p0) != (len p1)))] hF (by kernel_rfl) fun fr hF => then_normal ?_)
  refine (wp_if hF (b := ((len p0) != (len p1))) rfl (fun hb => ?_) (fun hb => ?_))
  · replace h := iteT hb h
    refine wp_seq (wp_pure [(4, .bool false)] hF (by kernel_rfl) fun fr hF => then_normal ?_)
    obtain rfl := Option.some.inj h
    exact wp_ret (then_ret (ret1 rfl hF rfl ⟨_, rfl, rfl, hM0.chg⟩))
  replace h := iteF hb h
  refine (wp_skip (then_normal ?_))
  refine wp_seq ?_
  refine wp_seq (wp_pure [(0, .slice a1 (List.length p0) c1), (1, .slice a2 (List.length p1) c2), (5, .int .i64 0)] hF (by kernel_rfl) fun fr hF => then_normal ?_)
  obtain ⟨rl1, hit1, h⟩ := bindE h
  have hk1 := h
  refine (wp_cut (M := fun fr w' => ∃ s, rl1 = .inl s ∧ ∃ S2 F2, FrS 27 [] fr ∧ Mem w Non (fun k => (G0 k ∨ G1 k) ∧ k < w.heap.size) w' S2 F2 ∧ Sep [] w' S2) (wp_block (wp_iter (Inv := fun s1 fr w' => ∃ S1 F1, FrS 27 [(0, .slice a1 (List.length p0) c1), (1, .slice a2 (List.length p1) c2), (5, .int .i64 s1)] fr ∧ Mem w Non (fun k => (G0 k ∨ G1 k) ∧ k < w.heap.size) w' S1 F1 ∧ Sep [] w' S1) hit1 ⟨Non, _, hF.sub _ (by kernel_rfl), (Mem.start hM0.bd hM0.bdF hM0.dj), hs⟩ fun s1 q1 fr w1i hI h hr1 => ?_)) fun fr w1o hM => ?_)
  · obtain ⟨S1, F1, hF, hM1, hs⟩ := hI
    have ra0 := ra0.mem hM1
    have ra1 := ra1.mem hM1
    refine wp_seq ?_
    refine wp_seq (wp_pure [(0, .slice a1 (List.length p0) c1), (1, .slice a2 (List.length p1) c2), (5, .int .i64 s1), (14, .bool (decide (s1 < (len p0))))] hF (by kernel_rfl) fun fr hF => then_normal ?_)
    refine (wp_if hF (b := (decide (s1 < (len p0)))) rfl (fun hb => ?_) (fun hb => ?_))
    · replace h := iteT hb h
      refine (wp_skip (then_normal ?_))
      refine wp_seq (wp_block ?_)
      obtain ⟨x1, hx1, h⟩ := bindE h
      obtain ⟨x2, hx2, h⟩ := bindE h
      obtain ⟨x3, hx3, h⟩ := bindE h
      refine wp_seq (region_bm 10 [0, 0, 3, 7, 0, 0, 48, 112, 255, 511] [true, true, false, false, true, true, false, false, false, true]
          [.eq (.slice a1 (List.length p0) c1), .eq (.int .i64 s1), .is fun v w => ElemP w (fun k => k < w1i.heap.size) v (x1 : D.Ins), .eq (.agg #[.int .i64 x1.Op, .int .i64 x1.A, .int .i64 x1.B, .int .i64 x1.C]), .eq (.slice a2 (List.length p1) c2), .eq (.int .i64 s1), .is fun v w => ElemP w (fun k => k < w1i.heap.size) v (x2 : D.Ins), .eq (.agg #[.int .i64 x2.Op, .int .i64 x2.A, .int .i64 x2.B, .int .i64 x2.C]), .eq (.bool x3), .eq (.bool (!x3))]
          [(0, .slice a1 (List.length p0) c1), (1, .slice a2 (List.length p1) c2), (5, .int .i64 s1), (26, .bool (!x3))] mix hF (by kernel_rfl) (by kernel_rfl) (by kernel_rfl) (by kernel_rfl) ⟨(Pd.monoO_is mono_elem), Pd.monoO_eq, (Pd.monoO_is mono_elem), Pd.monoO_eq, Pd.monoO_eq, trivial⟩ (fun ow hG => ⟨np_to ow (np_index hG hF ty90 Try.underlying28 rfl rfl (RV.sub (ra0) fun k hk _ => hk) rfl rfl (fun hg => ⟨get?_nn hx1, get?_at hx1⟩)), np_to ow (np_loadF (z := x1) (i := 2) hG hF ty90 rfl rfl rfl rfl rfl rfl rfl), np_to ow (np_index hG hF ty90 Try.underlying28 rfl rfl (RV.sub (ra1) fun k hk _ => hk) rfl rfl (fun hg => ⟨get?_nn hx2, get?_at hx2⟩)), np_to ow (np_loadF (z := x2) (i := 6) hG hF ty90 rfl rfl rfl rfl rfl rfl rfl), np_to ow (np_call [.agg #[.int .i64 x1.Op, .int .i64 x1.A, .int .i64 x1.B, .int .i64 x1.C], .agg #[.int .i64 x2.Op, .int .i64 x2.A, .int .i64 x2.B, .int .i64 x2.C]] hG hF Try.call111 rfl rfl (fun w hC hg => (laws_eqIns_ok x1 x2 hx3).mono fun e w' ⟨v, he, hv, hc⟩ => ⟨v, he, hc, hv⟩)), trivial⟩) (by kernel_rfl) fun ow fr w1 hF hE hc => ?_)
      have ra0 := ra0.ext hc
      have ra1 := ra1.ext hc
      have hs := hs.ext hc
      have hM1 := hM1.ext hc
      refine from_end rfl (then_normal ?_)
      refine (wp_if hF (b := (!x3)) rfl (fun hb => ?_) (fun hb => ?_))
      · replace h := iteT hb h
        refine wp_seq (wp_pure [(4, .bool false)] hF (by kernel_rfl) fun fr hF => then_normal ?_)
        obtain rfl := hr1 _ (Option.some.inj h).symm
        obtain rfl := Option.some.inj hk1
        exact wp_ret (blk_ret (then_ret (then_ret (blk_ret (then_ret (ret1 rfl hF rfl ⟨_, rfl, rfl, (hM0.trans hM1).chg⟩))))))
      replace h := iteF hb h
      refine (wp_skip ?_)
      refine blk_normal (then_normal ?_)
      refine (wp_pure [(0, .slice a1 (List.length p0) c1), (1, .slice a2 (List.length p1) c2), (5, .int .i64 (w64 (s1 + 1)))] hF (by kernel_rfl) fun fr hF => then_normal ?_)
      exact ⟨_, (Option.some.inj h).symm, S1, _, hF.sub _ (by kernel_rfl), hM1, hs⟩
    replace h := iteF hb h
    refine (wp_exit (then_exit (then_exit (blk_exit_eq ?_))))
    obtain rfl := hr1 _ (Option.some.inj h).symm
    exact then_normal ⟨_, rfl, S1, _, hF.sub _ (by kernel_rfl), hM1, hs⟩
  · obtain ⟨s1r, rfl, hM⟩ := hM
    obtain ⟨S2, F2, hF, hMx, hs⟩ := hM
    have hM0 := hM0.trans hMx
    refine wp_seq (wp_pure [(4, .bool true)] hF (by kernel_rfl) fun fr hF => then_normal ?_)
    obtain rfl := Option.some.inj h
    exact wp_ret (ret1 rfl hF rfl ⟨_, rfl, rfl, hM0.chg⟩)
end Go.Proofs.Ytknlknnihinmjaa
