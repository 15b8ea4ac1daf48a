/- Printed by gen2.py: the walks. -/
import Derived.Test.YtbfphbpeajmihaaGLt
import Derived.Test.YtbfphbpeajmihaaGLx
import Derived.Test.YtbfphbpeajmihaaDefs
import Derived.Test.YtbfphbpeajmihaaProg
import Derived.KernelRfl
import Derived.DeepKeys4
set_option linter.unusedVariables false
set_option maxRecDepth 100000
namespace Go.Proofs.Ytbfphbpeajmihaa
open Go.GL Go.Maps Go.WideMaps
theorem mix : Try.prog.follows .mixedOrders = true := by kernel_rfl
theorem ty3 : Ty Try.prog 3 Int := ⟨by kernel_rfl, by kernel_rfl⟩
theorem ty22 : Ty Try.prog 22 (List D.Ins) := ⟨by kernel_rfl, by kernel_rfl⟩
theorem ty24 : Ty Try.prog 24 D.Program := ⟨by kernel_rfl, by kernel_rfl⟩
theorem ty26 : Ty Try.prog 26 (List Int) := ⟨by kernel_rfl, by kernel_rfl⟩
theorem ty28 : Ty Try.prog 28 D.State := ⟨by kernel_rfl, by kernel_rfl⟩
theorem ty30 : Ty Try.prog 30 (List D.Ins) := ⟨by kernel_rfl, by kernel_rfl⟩
theorem ty32 : Ty Try.prog 32 D.Program := ⟨by kernel_rfl, by kernel_rfl⟩
theorem ty66 : Ty Try.prog 66 D.Ins := ⟨by kernel_rfl, by kernel_rfl⟩
theorem ty72 : Ty Try.prog 72 D.Ins := ⟨by kernel_rfl, by kernel_rfl⟩
theorem el3 : ElT Try.prog 3 Int := elT (by kernel_rfl)
theorem el66 : ElT Try.prog 66 D.Ins := elT (by kernel_rfl)

theorem laws_szInsS_ok (p0 : List D.Ins) (p1 : Int) {r : Int} (h : laws_szInsS p0 p1 = some r) {w : World} {G0 : Nat → Prop} {va0 : Value} (ra0 : RV w G0 va0 p0) :
    Calls Try.prog 37 [va0, .int .i64 p1].toArray w fun e w' => ∃ v, e = .returned v ∧ v = .int .i64 r ∧ Chg Non w w' := by
  unfold laws_szInsS at h
  have hs := Sep.nil w Non
  have hM0 : Mem w Non (fun k => (G0 k) ∧ k < w.heap.size) w Non (fun k => (G0 k) ∧ k < w.heap.size) := Mem.start (fun _ h => h.elim) (fun _ h => h.2) (fun _ h => h.elim)
  have ra0 := ra0.sub (F' := (fun k => (G0 k) ∧ k < w.heap.size)) (fun k hk h => ⟨h, hk⟩)
  obtain ⟨a1, c1, rfl, -⟩ := ra0.slice
  refine enter (N := 12) Try.func37 rfl Try.ntmps37 rfl fun fr hF => ?_
  refine wp_seq (wp_pure [(0, .slice a1 (List.length p0) c1), (1, .int .i64 p1)] hF (by kernel_rfl) fun fr hF => then_normal ?_)
  refine wp_seq (wp_pure [(1, .int .i64 (w64 (p1 - (len p0))))] hF (by kernel_rfl) fun fr hF => then_normal ?_)
  refine wp_seq ?_
  refine wp_seq (wp_pure [(1, .int .i64 (w64 (p1 - (len p0)))), (10, .bool (decide ((w64 (p1 - (len p0))) < 0)))] hF (by kernel_rfl) fun fr hF => then_normal ?_)
  refine (wp_if hF (b := (decide ((w64 (p1 - (len p0))) < 0))) rfl (fun hb => ?_) (fun hb => ?_))
  · replace h := iteT hb h
    refine wp_seq (wp_pure [(4, .int .i64 (-1))] hF (by kernel_rfl) fun fr hF => then_normal ?_)
    obtain rfl := Option.some.inj h
    exact wp_ret (then_ret (ret1 rfl hF rfl ⟨_, rfl, rfl, hM0.chg⟩))
  replace h := iteF hb h
  refine (wp_skip (then_normal ?_))
  refine wp_seq (wp_pure [(4, .int .i64 (w64 (p1 - (len p0))))] hF (by kernel_rfl) fun fr hF => then_normal ?_)
  obtain rfl := Option.some.inj h
  exact wp_ret (ret1 rfl hF rfl ⟨_, rfl, rfl, hM0.chg⟩)

theorem laws_szProgram_ok (p0 : D.Program) (p1 : Int) {r : Int} (h : laws_szProgram p0 p1 = some r) {w : World} {G0 : Nat → Prop} {va0 : Value} (ra0 : RV w G0 va0 p0) :
    Calls Try.prog 10 [va0, .int .i64 p1].toArray w fun e w' => ∃ v, e = .returned v ∧ v = .int .i64 r ∧ Chg Non w w' := by
  unfold laws_szProgram at h
  have hs := Sep.nil w Non
  have hM0 : Mem w Non (fun k => (G0 k) ∧ k < w.heap.size) w Non (fun k => (G0 k) ∧ k < w.heap.size) := Mem.start (fun _ h => h.elim) (fun _ h => h.2) (fun _ h => h.elim)
  have ra0 := ra0.sub (F' := (fun k => (G0 k) ∧ k < w.heap.size)) (fun k hk h => ⟨h, hk⟩)
  obtain ⟨v1, rfl, r1⟩ := RV.Program ra0
  obtain ⟨a1, c1, rfl, -⟩ := r1.slice
  refine enter (N := 12) Try.func10 rfl Try.ntmps10 rfl fun fr hF => ?_
  refine wp_seq (wp_text' ?_)
  refine q_box hs hM0 [.int .i64 p0.W, .int .i64 p0.Mem, .int .i64 p0.In, .slice a1 (List.length p0.Code) c1] rfl rfl hF rfl rfl fun b1 w1 S1 fr hs hp hF => ?_
  have r1 := r1.stp hM0 hp
  have hM0 := hM0.stp hp
  have hs : Sep [BX b1 24 [.int .i64 p0.W, .int .i64 p0.Mem, .int .i64 p0.In, .slice a1 (List.length p0.Code) c1]] w1 S1 := hs
  refine from_pure 1 [(1, .int .i64 p1), (2, .pointer (some ⟨b1, 0, none⟩))] hF (by kernel_rfl) fun fr hF => ?_
  refine from_end rfl (then_normal ?_)
  refine wp_seq (wp_text' ?_)
  refine from_pure 1 [(1, .int .i64 p1), (5, .pointer (some ⟨b1, 3, none⟩))] hF (by kernel_rfl) fun fr hF => ?_
  refine s_loadBox (.slice a1 (List.length p0.Code) c1) ty22 rfl rfl hF rfl (hs.bx 0 rfl) rfl rfl fun fr hF => ?_
  have hs : Sep [] w1 S1 := Sep.pick [] hs (by decide) rfl
  refine from_pure 1 [(6, .slice a1 (List.length p0.Code) c1), (7, .int .i64 p1)] hF (by kernel_rfl) fun fr hF => ?_
  obtain ⟨x1, hx1, h⟩ := bindE h
  refine s_call [.slice a1 (List.length p0.Code) c1, .int .i64 p1] Try.call37 rfl rfl hF rfl (laws_szInsS_ok p0.Code p1 hx1 (r1)) fun v w2 fr hRes hF => ?_
  obtain ⟨rfl, hc⟩ := hRes
  have r1 := r1.ext hc
  have hs := hs.ext hc
  have hM0 := hM0.ext hc
  refine from_pure 1 [(1, .int .i64 x1)] hF (by kernel_rfl) fun fr hF => ?_
  refine from_end rfl (then_normal ?_)
  refine wp_seq ?_
  refine wp_seq (wp_pure [(1, .int .i64 x1), (10, .bool (decide (x1 < 0)))] hF (by kernel_rfl) fun fr hF => then_normal ?_)
  refine (wp_if hF (b := (decide (x1 < 0))) rfl (fun hb => ?_) (fun hb => ?_))
  · replace h := iteT hb h
    refine wp_seq (wp_pure [(4, .int .i64 (-1))] hF (by kernel_rfl) fun fr hF => then_normal ?_)
    obtain rfl := Option.some.inj h
    exact wp_ret (then_ret (ret1 rfl hF rfl ⟨_, rfl, rfl, hM0.chg⟩))
  replace h := iteF hb h
  refine (wp_skip (then_normal ?_))
  refine wp_seq (wp_pure [(4, .int .i64 x1)] hF (by kernel_rfl) fun fr hF => then_normal ?_)
  obtain rfl := Option.some.inj h
  exact wp_ret (ret1 rfl hF rfl ⟨_, rfl, rfl, hM0.chg⟩)

theorem laws_toIns_ok (p0 : D.Ins) {r : D.Ins} (h : laws_toIns p0 = some r) {w : World} :
    Calls Try.prog 59 [.agg #[.int .i64 p0.Op, .int .i64 p0.A, .int .i64 p0.B, .int .i64 p0.C]].toArray w fun e w' => ∃ v, e = .returned v ∧ v = .agg #[.int .i64 r.Op, .int .i64 r.A, .int .i64 r.B, .int .i64 r.C] ∧ Chg Non w w' := by
  unfold laws_toIns at h
  have hs := Sep.nil w Non
  have hM0 : Mem w Non (fun k => (False) ∧ k < w.heap.size) w Non (fun k => (False) ∧ k < w.heap.size) := Mem.start (fun _ h => h.elim) (fun _ h => h.2) (fun _ h => h.elim)
  refine enter (N := 17) Try.func59 rfl Try.ntmps59 rfl fun fr hF => ?_
  refine wp_seq (wp_text' ?_)
  refine q_box hs hM0 [.int .i64 p0.Op, .int .i64 p0.A, .int .i64 p0.B, .int .i64 p0.C] rfl rfl hF rfl rfl fun b1 w1 S1 fr hs hp hF => ?_
  have hM0 := hM0.stp hp
  have hs : Sep [BX b1 72 [.int .i64 p0.Op, .int .i64 p0.A, .int .i64 p0.B, .int .i64 p0.C]] w1 S1 := hs
  refine q_alloc (z := .agg #[.int .i64 0, .int .i64 0, .int .i64 0, .int .i64 0]) hs hM0 [.int .i64 0, .int .i64 0, .int .i64 0, .int .i64 0] rfl rfl hF (by kernel_rfl) rfl fun b2 w2 S2 fr hs hp hF => ?_
  have hM0 := hM0.stp hp
  have hs : Sep [BX b2 66 [.int .i64 0, .int .i64 0, .int .i64 0, .int .i64 0], BX b1 72 [.int .i64 p0.Op, .int .i64 p0.A, .int .i64 p0.B, .int .i64 p0.C]] w2 S2 := hs
  refine from_end rfl (then_normal ?_)
  refine wp_seq (wp_text' ?_)
  refine q_alloc (z := .agg #[.int .i64 0, .int .i64 0, .int .i64 0, .int .i64 0]) hs hM0 [.int .i64 0, .int .i64 0, .int .i64 0, .int .i64 0] rfl rfl hF (by kernel_rfl) rfl fun b3 w3 S3 fr hs hp hF => ?_
  have hM0 := hM0.stp hp
  have hs : Sep [BX b3 66 [.int .i64 0, .int .i64 0, .int .i64 0, .int .i64 0], BX b2 66 [.int .i64 0, .int .i64 0, .int .i64 0, .int .i64 0], BX b1 72 [.int .i64 p0.Op, .int .i64 p0.A, .int .i64 p0.B, .int .i64 p0.C]] w3 S3 := hs
  refine from_end rfl (then_normal ?_)
  refine wp_seq (wp_text' ?_)
  refine from_pure 1 [(1, .pointer (some ⟨b1, 0, none⟩)), (2, .pointer (some ⟨b2, 0, none⟩)), (3, .pointer (some ⟨b3, 0, none⟩)), (4, .pointer (some ⟨b1, 0, none⟩))] hF (by kernel_rfl) fun fr hF => ?_
  refine s_loadBox (.int .i64 p0.Op) ty3 rfl rfl hF rfl (hs.bx 2 rfl) rfl rfl fun fr hF => ?_
  refine from_pure 1 [(1, .pointer (some ⟨b1, 0, none⟩)), (2, .pointer (some ⟨b2, 0, none⟩)), (3, .pointer (some ⟨b3, 0, none⟩)), (5, .int .i64 p0.Op), (6, .pointer (some ⟨b3, 0, none⟩))] hF (by kernel_rfl) fun fr hF => ?_
  refine q_storeBox 0 hs hM0 rfl [.int .i64 p0.Op, .int .i64 0, .int .i64 0, .int .i64 0] rfl hF rfl rfl (by kernel_rfl) rfl rfl rfl fun w4 S4 hs hp hF => ?_
  have hM0 := hM0.stp hp
  have hs : Sep [BX b3 66 [.int .i64 p0.Op, .int .i64 0, .int .i64 0, .int .i64 0], BX b2 66 [.int .i64 0, .int .i64 0, .int .i64 0, .int .i64 0], BX b1 72 [.int .i64 p0.Op, .int .i64 p0.A, .int .i64 p0.B, .int .i64 p0.C]] w4 S4 := hs
  refine from_end rfl (then_normal ?_)
  refine wp_seq (wp_text' ?_)
  refine from_pure 1 [(1, .pointer (some ⟨b1, 0, none⟩)), (2, .pointer (some ⟨b2, 0, none⟩)), (3, .pointer (some ⟨b3, 0, none⟩)), (7, .pointer (some ⟨b1, 1, none⟩))] hF (by kernel_rfl) fun fr hF => ?_
  refine s_loadBox (.int .i64 p0.A) ty3 rfl rfl hF rfl (hs.bx 2 rfl) rfl rfl fun fr hF => ?_
  refine from_pure 1 [(1, .pointer (some ⟨b1, 0, none⟩)), (2, .pointer (some ⟨b2, 0, none⟩)), (3, .pointer (some ⟨b3, 0, none⟩)), (8, .int .i64 p0.A), (9, .pointer (some ⟨b3, 1, none⟩))] hF (by kernel_rfl) fun fr hF => ?_
  refine q_storeBox 0 hs hM0 rfl [.int .i64 p0.Op, .int .i64 p0.A, .int .i64 0, .int .i64 0] rfl hF rfl rfl (by kernel_rfl) rfl rfl rfl fun w5 S5 hs hp hF => ?_
  have hM0 := hM0.stp hp
  have hs : Sep [BX b3 66 [.int .i64 p0.Op, .int .i64 p0.A, .int .i64 0, .int .i64 0], BX b2 66 [.int .i64 0, .int .i64 0, .int .i64 0, .int .i64 0], BX b1 72 [.int .i64 p0.Op, .int .i64 p0.A, .int .i64 p0.B, .int .i64 p0.C]] w5 S5 := hs
  refine from_end rfl (then_normal ?_)
  refine wp_seq (wp_text' ?_)
  refine from_pure 1 [(1, .pointer (some ⟨b1, 0, none⟩)), (2, .pointer (some ⟨b2, 0, none⟩)), (3, .pointer (some ⟨b3, 0, none⟩)), (10, .pointer (some ⟨b1, 2, none⟩))] hF (by kernel_rfl) fun fr hF => ?_
  refine s_loadBox (.int .i64 p0.B) ty3 rfl rfl hF rfl (hs.bx 2 rfl) rfl rfl fun fr hF => ?_
  refine from_pure 1 [(1, .pointer (some ⟨b1, 0, none⟩)), (2, .pointer (some ⟨b2, 0, none⟩)), (3, .pointer (some ⟨b3, 0, none⟩)), (11, .int .i64 p0.B), (12, .pointer (some ⟨b3, 2, none⟩))] hF (by kernel_rfl) fun fr hF => ?_
  refine q_storeBox 0 hs hM0 rfl [.int .i64 p0.Op, .int .i64 p0.A, .int .i64 p0.B, .int .i64 0] rfl hF rfl rfl (by kernel_rfl) rfl rfl rfl fun w6 S6 hs hp hF => ?_
  have hM0 := hM0.stp hp
  have hs : Sep [BX b3 66 [.int .i64 p0.Op, .int .i64 p0.A, .int .i64 p0.B, .int .i64 0], BX b2 66 [.int .i64 0, .int .i64 0, .int .i64 0, .int .i64 0], BX b1 72 [.int .i64 p0.Op, .int .i64 p0.A, .int .i64 p0.B, .int .i64 p0.C]] w6 S6 := hs
  refine from_end rfl (then_normal ?_)
  refine wp_seq (wp_text' ?_)
  refine from_pure 1 [(2, .pointer (some ⟨b2, 0, none⟩)), (3, .pointer (some ⟨b3, 0, none⟩)), (13, .pointer (some ⟨b1, 3, none⟩))] hF (by kernel_rfl) fun fr hF => ?_
  refine s_loadBox (.int .i64 p0.C) ty3 rfl rfl hF rfl (hs.bx 2 rfl) rfl rfl fun fr hF => ?_
  have hs : Sep [BX b3 66 [.int .i64 p0.Op, .int .i64 p0.A, .int .i64 p0.B, .int .i64 0], BX b2 66 [.int .i64 0, .int .i64 0, .int .i64 0, .int .i64 0]] w6 S6 := Sep.pick [0, 1] hs (by decide) rfl
  refine from_pure 1 [(2, .pointer (some ⟨b2, 0, none⟩)), (3, .pointer (some ⟨b3, 0, none⟩)), (14, .int .i64 p0.C), (15, .pointer (some ⟨b3, 3, none⟩))] hF (by kernel_rfl) fun fr hF => ?_
  refine q_storeBox 0 hs hM0 rfl [.int .i64 p0.Op, .int .i64 p0.A, .int .i64 p0.B, .int .i64 p0.C] rfl hF rfl rfl (by kernel_rfl) rfl rfl rfl fun w7 S7 hs hp hF => ?_
  have hM0 := hM0.stp hp
  have hs : Sep [BX b3 66 [.int .i64 p0.Op, .int .i64 p0.A, .int .i64 p0.B, .int .i64 p0.C], BX b2 66 [.int .i64 0, .int .i64 0, .int .i64 0, .int .i64 0]] w7 S7 := hs
  refine from_end rfl (then_normal ?_)
  refine wp_seq (wp_text' ?_)
  refine s_loadBoxS ty66 rfl rfl hF rfl (hs.bx 0 rfl) rfl rfl fun fr hF => ?_
  have hs : Sep [BX b2 66 [.int .i64 0, .int .i64 0, .int .i64 0, .int .i64 0]] w7 S7 := Sep.pick [1] hs (by decide) rfl
  refine q_storeBoxS 0 hs hM0 rfl [.int .i64 p0.Op, .int .i64 p0.A, .int .i64 p0.B, .int .i64 p0.C] rfl hF rfl rfl (by kernel_rfl) rfl rfl rfl fun w8 S8 hs hp hF => ?_
  have hM0 := hM0.stp hp
  have hs : Sep [BX b2 66 [.int .i64 p0.Op, .int .i64 p0.A, .int .i64 p0.B, .int .i64 p0.C]] w8 S8 := hs
  refine from_end rfl (then_normal ?_)
  have hbr := (hs.bx 0 rfl)
  obtain rfl := Option.some.inj h
  exact wp_ret (retS rfl hF ty66 rfl rfl hbr rfl ⟨_, rfl, rfl, hM0.chg⟩)

theorem laws_toInsS_ok (n : Nat) (p0 : List D.Ins) {r : (List D.Ins)} (h : laws_toInsS n p0 = some r) {w : World} {G0 : Nat → Prop} {va0 : Value} (ra0 : RV w G0 va0 p0) :
    Calls Try.prog 39 [va0].toArray w fun e w' => ∃ v, e = .returned v ∧ ∃ a1 c1, v = .slice a1 (List.length r) c1 ∧ ∃ S', Stp w Non w' S' ∧ Sep [SL (α := D.Ins) 66 (.slice a1 (List.length r) c1) r] w' S' := by
  unfold laws_toInsS at h
  have hs := Sep.nil w Non
  have hM0 : Mem w Non (fun k => (G0 k) ∧ k < w.heap.size) w Non (fun k => (G0 k) ∧ k < w.heap.size) := Mem.start (fun _ h => h.elim) (fun _ h => h.2) (fun _ h => h.elim)
  have ra0 := ra0.sub (F' := (fun k => (G0 k) ∧ k < w.heap.size)) (fun k hk h => ⟨h, hk⟩)
  obtain ⟨a1, c1, rfl, -⟩ := ra0.slice
  refine enter (N := 23) Try.func39 rfl Try.ntmps39 rfl fun fr hF => ?_
  refine wp_seq (wp_pure [(0, .slice a1 (List.length p0) c1)] hF (by kernel_rfl) fun fr hF => then_normal ?_)
  refine wp_seq (wp_text' ?_)
  refine from_pure 2 [(0, .slice a1 (List.length p0) c1), (6, .int .i64 (len p0))] hF (by kernel_rfl) fun fr hF => ?_
  obtain ⟨x1, hx1, h⟩ := bindE h
  refine q_make hs hM0 Try.underlying30 el66 (zero_flat _ (by kernel_rfl)) rfl rfl hF rfl rfl hx1 fun a2 c2 w1 S1 fr hs hp hF => ?_
  have ra0 := ra0.stp hM0 hp
  have hM0 := hM0.stp hp
  have hs : Sep [SL (α := D.Ins) 66 (.slice a2 (List.length x1) c2) x1] w1 S1 := hs
  refine from_pure 1 [(0, .slice a1 (List.length p0) c1), (3, .slice a2 (List.length x1) c2)] hF (by kernel_rfl) fun fr hF => ?_
  refine from_end rfl (then_normal ?_)
  refine wp_seq ?_
  refine wp_seq (wp_pure [(0, .slice a1 (List.length p0) c1), (3, .slice a2 (List.length x1) c2), (4, .int .i64 0)] hF (by kernel_rfl) fun fr hF => then_normal ?_)
  obtain ⟨rl1, hit1, h⟩ := bindE h
  have hk1 := h
  refine (wp_cut (M := fun fr w' => ∃ S3 F2, FrS 23 [(3, .slice a2 (List.length x1) c2)] fr ∧ Mem w1 S1 (fun k => (G0 k) ∧ k < w.heap.size) w' S3 F2 ∧ Sep [SL (α := D.Ins) 66 (.slice a2 (List.length x1) c2) rl1] w' S3) (wp_block (wp_iter (Inv := fun s1 fr w' => ∃ S2 F1, FrS 23 [(0, .slice a1 (List.length p0) c1), (3, .slice a2 (List.length x1) c2), (4, .int .i64 s1.1)] fr ∧ Mem w1 S1 (fun k => (G0 k) ∧ k < w.heap.size) w' S2 F1 ∧ Sep [SL (α := D.Ins) 66 (.slice a2 (List.length x1) c2) s1.2] w' S2) hit1 ⟨S1, _, hF.sub _ (by kernel_rfl), (Mem.start hM0.bd hM0.bdF hM0.dj), hs⟩ fun s1 q1 fr w1i hI h hr1 => ?_)) fun fr w1o hM => ?_)
  · obtain ⟨S2, F1, hF, hM1, hs⟩ := hI
    have ra0 := ra0.mem hM1
    refine wp_seq ?_
    refine wp_seq (wp_pure [(0, .slice a1 (List.length p0) c1), (3, .slice a2 (List.length x1) c2), (4, .int .i64 s1.1), (11, .bool (decide (s1.1 < (len p0))))] hF (by kernel_rfl) fun fr hF => then_normal ?_)
    refine (wp_if hF (b := (decide (s1.1 < (len p0)))) rfl (fun hb => ?_) (fun hb => ?_))
    · replace h := iteT hb h
      refine (wp_skip (then_normal ?_))
      refine wp_seq (wp_block ?_)
      refine (wp_text' ?_)
      refine from_pure 4 [(0, .slice a1 (List.length p0) c1), (3, .slice a2 (List.length x1) c2), (4, .int .i64 s1.1), (14, .slice a2 (List.length x1) c2), (15, .int .i64 s1.1), (16, .slice a1 (List.length p0) c1), (17, .int .i64 s1.1)] hF (by kernel_rfl) fun fr hF => ?_
      obtain ⟨x2, hx2, h⟩ := bindE h
      refine s_elemF (z := x2) (.agg #[.int .i64 x2.Op, .int .i64 x2.A, .int .i64 x2.B, .int .i64 x2.C]) ty72 Try.underlying22 rfl rfl rfl rfl rfl hF rfl (ra0) rfl (get?_nn hx2) (get?_at hx2) rfl fun p fr hF => ?_
      obtain ⟨x3, hx3, h⟩ := bindE h
      refine s_call [.agg #[.int .i64 x2.Op, .int .i64 x2.A, .int .i64 x2.B, .int .i64 x2.C]] Try.call59 rfl rfl hF rfl (laws_toIns_ok x2 hx3) fun v w2 fr hRes hF => ?_
      obtain ⟨rfl, hc⟩ := hRes
      have ra0 := ra0.ext hc
      have hs := hs.ext hc
      have hM1 := hM1.ext hc
      obtain ⟨x4, hx4, h⟩ := bindE h
      refine q_set (q := x3) 0 hs hM1 rfl Try.underlying30 ty66 rfl rfl rfl rfl hF rfl rfl (by simp) rfl rfl hx4 fun w3 S4 fr _ hs hp hF => ?_
      have ra0 := ra0.stp hM1 hp
      have hM1 := hM1.stp hp
      have hs : Sep [SL (α := D.Ins) 66 (.slice a2 (List.length x1) c2) x4] w3 S4 := hs
      refine from_end rfl ?_
      refine blk_normal (then_normal ?_)
      refine (wp_pure [(0, .slice a1 (List.length p0) c1), (3, .slice a2 (List.length x1) c2), (4, .int .i64 (w64 (s1.1 + 1)))] hF (by kernel_rfl) fun fr hF => then_normal ?_)
      exact ⟨_, (Option.some.inj h).symm, S4, _, hF.sub _ (by kernel_rfl), hM1, hs⟩
    replace h := iteF hb h
    refine (wp_exit (then_exit (then_exit (blk_exit_eq ?_))))
    obtain rfl := hr1 _ (Option.some.inj h).symm
    exact then_normal ⟨S2, _, hF.sub _ (by kernel_rfl), hM1, hs⟩
  · obtain ⟨S3, F2, hF, hMx, hs⟩ := hM
    have hM0 := hM0.trans hMx
    refine wp_seq (wp_pure [(2, .slice a2 (List.length x1) c2)] hF (by kernel_rfl) fun fr hF => then_normal ?_)
    obtain rfl := Option.some.inj h
    obtain ⟨he1, hs⟩ := hs.relen 0 rfl
    have hs : Sep [SL (α := D.Ins) 66 (.slice a2 (List.length rl1) c2) rl1] w1o S3 := hs
    exact wp_ret (ret1 rfl hF rfl ⟨_, rfl, a2, c2, (by simp only [he1]), S3, hM0.out, hs⟩)

theorem laws_toProgram_ok (n : Nat) (p0 : D.Program) {r : D.Program} (h : laws_toProgram n p0 = some r) {w : World} {G0 : Nat → Prop} {va0 : Value} (ra0 : RV w G0 va0 p0) :
    Calls Try.prog 12 [va0].toArray w fun e w' => ∃ v, e = .returned v ∧ ∃ a1 c1, v = .agg #[.int .i64 r.W, .int .i64 r.Mem, .int .i64 r.In, .slice a1 (List.length r.Code) c1] ∧ ∃ S', Stp w Non w' S' ∧ Sep [SL (α := D.Ins) 66 (.slice a1 (List.length r.Code) c1) r.Code] w' S' := by
  unfold laws_toProgram at h
  have hs := Sep.nil w Non
  have hM0 : Mem w Non (fun k => (G0 k) ∧ k < w.heap.size) w Non (fun k => (G0 k) ∧ k < w.heap.size) := Mem.start (fun _ h => h.elim) (fun _ h => h.2) (fun _ h => h.elim)
  have ra0 := ra0.sub (F' := (fun k => (G0 k) ∧ k < w.heap.size)) (fun k hk h => ⟨h, hk⟩)
  obtain ⟨v1, rfl, r1⟩ := RV.Program ra0
  obtain ⟨a1, c1, rfl, -⟩ := r1.slice
  refine enter (N := 18) Try.func12 rfl Try.ntmps12 rfl fun fr hF => ?_
  refine wp_seq (wp_text' ?_)
  refine q_box hs hM0 [.int .i64 p0.W, .int .i64 p0.Mem, .int .i64 p0.In, .slice a1 (List.length p0.Code) c1] rfl rfl hF rfl rfl fun b1 w1 S1 fr hs hp hF => ?_
  have r1 := r1.stp hM0 hp
  have hM0 := hM0.stp hp
  have hs : Sep [BX b1 24 [.int .i64 p0.W, .int .i64 p0.Mem, .int .i64 p0.In, .slice a1 (List.length p0.Code) c1]] w1 S1 := hs
  refine q_alloc (z := .agg #[.int .i64 0, .int .i64 0, .int .i64 0, .slice none (List.length ([] : List D.Ins)) 0]) hs hM0 [.int .i64 0, .int .i64 0, .int .i64 0, .slice none (List.length ([] : List D.Ins)) 0] rfl rfl hF (by kernel_rfl) rfl fun b2 w2 S2 fr hs hp hF => ?_
  have r1 := r1.stp hM0 hp
  have hM0 := hM0.stp hp
  have hs : Sep [BX b2 32 [.int .i64 0, .int .i64 0, .int .i64 0, .slice none (List.length ([] : List D.Ins)) 0], BX b1 24 [.int .i64 p0.W, .int .i64 p0.Mem, .int .i64 p0.In, .slice a1 (List.length p0.Code) c1]] w2 S2 := hs
  refine from_end rfl (then_normal ?_)
  refine wp_seq (wp_text' ?_)
  refine q_alloc (z := .agg #[.int .i64 0, .int .i64 0, .int .i64 0, .slice none (List.length ([] : List D.Ins)) 0]) hs hM0 [.int .i64 0, .int .i64 0, .int .i64 0, .slice none (List.length ([] : List D.Ins)) 0] rfl rfl hF (by kernel_rfl) rfl fun b3 w3 S3 fr hs hp hF => ?_
  have r1 := r1.stp hM0 hp
  have hM0 := hM0.stp hp
  have hs : Sep [BX b3 32 [.int .i64 0, .int .i64 0, .int .i64 0, .slice none (List.length ([] : List D.Ins)) 0], BX b2 32 [.int .i64 0, .int .i64 0, .int .i64 0, .slice none (List.length ([] : List D.Ins)) 0], BX b1 24 [.int .i64 p0.W, .int .i64 p0.Mem, .int .i64 p0.In, .slice a1 (List.length p0.Code) c1]] w3 S3 := hs
  refine from_end rfl (then_normal ?_)
  refine wp_seq (wp_text' ?_)
  refine from_pure 1 [(1, .pointer (some ⟨b1, 0, none⟩)), (2, .pointer (some ⟨b2, 0, none⟩)), (3, .pointer (some ⟨b3, 0, none⟩)), (4, .pointer (some ⟨b1, 0, none⟩))] hF (by kernel_rfl) fun fr hF => ?_
  refine s_loadBox (.int .i64 p0.W) ty3 rfl rfl hF rfl (hs.bx 2 rfl) rfl rfl fun fr hF => ?_
  refine from_pure 1 [(1, .pointer (some ⟨b1, 0, none⟩)), (2, .pointer (some ⟨b2, 0, none⟩)), (3, .pointer (some ⟨b3, 0, none⟩)), (5, .int .i64 p0.W), (6, .pointer (some ⟨b3, 0, none⟩))] hF (by kernel_rfl) fun fr hF => ?_
  refine q_storeBox 0 hs hM0 rfl [.int .i64 p0.W, .int .i64 0, .int .i64 0, .slice none (List.length ([] : List D.Ins)) 0] rfl hF rfl rfl (by kernel_rfl) rfl rfl rfl fun w4 S4 hs hp hF => ?_
  have r1 := r1.stp hM0 hp
  have hM0 := hM0.stp hp
  have hs : Sep [BX b3 32 [.int .i64 p0.W, .int .i64 0, .int .i64 0, .slice none (List.length ([] : List D.Ins)) 0], BX b2 32 [.int .i64 0, .int .i64 0, .int .i64 0, .slice none (List.length ([] : List D.Ins)) 0], BX b1 24 [.int .i64 p0.W, .int .i64 p0.Mem, .int .i64 p0.In, .slice a1 (List.length p0.Code) c1]] w4 S4 := hs
  refine from_end rfl (then_normal ?_)
  refine wp_seq (wp_text' ?_)
  refine from_pure 1 [(1, .pointer (some ⟨b1, 0, none⟩)), (2, .pointer (some ⟨b2, 0, none⟩)), (3, .pointer (some ⟨b3, 0, none⟩)), (7, .pointer (some ⟨b1, 1, none⟩))] hF (by kernel_rfl) fun fr hF => ?_
  refine s_loadBox (.int .i64 p0.Mem) ty3 rfl rfl hF rfl (hs.bx 2 rfl) rfl rfl fun fr hF => ?_
  refine from_pure 1 [(1, .pointer (some ⟨b1, 0, none⟩)), (2, .pointer (some ⟨b2, 0, none⟩)), (3, .pointer (some ⟨b3, 0, none⟩)), (8, .int .i64 p0.Mem), (9, .pointer (some ⟨b3, 1, none⟩))] hF (by kernel_rfl) fun fr hF => ?_
  refine q_storeBox 0 hs hM0 rfl [.int .i64 p0.W, .int .i64 p0.Mem, .int .i64 0, .slice none (List.length ([] : List D.Ins)) 0] rfl hF rfl rfl (by kernel_rfl) rfl rfl rfl fun w5 S5 hs hp hF => ?_
  have r1 := r1.stp hM0 hp
  have hM0 := hM0.stp hp
  have hs : Sep [BX b3 32 [.int .i64 p0.W, .int .i64 p0.Mem, .int .i64 0, .slice none (List.length ([] : List D.Ins)) 0], BX b2 32 [.int .i64 0, .int .i64 0, .int .i64 0, .slice none (List.length ([] : List D.Ins)) 0], BX b1 24 [.int .i64 p0.W, .int .i64 p0.Mem, .int .i64 p0.In, .slice a1 (List.length p0.Code) c1]] w5 S5 := hs
  refine from_end rfl (then_normal ?_)
  refine wp_seq (wp_text' ?_)
  refine from_pure 1 [(1, .pointer (some ⟨b1, 0, none⟩)), (2, .pointer (some ⟨b2, 0, none⟩)), (3, .pointer (some ⟨b3, 0, none⟩)), (10, .pointer (some ⟨b1, 2, none⟩))] hF (by kernel_rfl) fun fr hF => ?_
  refine s_loadBox (.int .i64 p0.In) ty3 rfl rfl hF rfl (hs.bx 2 rfl) rfl rfl fun fr hF => ?_
  refine from_pure 1 [(1, .pointer (some ⟨b1, 0, none⟩)), (2, .pointer (some ⟨b2, 0, none⟩)), (3, .pointer (some ⟨b3, 0, none⟩)), (11, .int .i64 p0.In), (12, .pointer (some ⟨b3, 2, none⟩))] hF (by kernel_rfl) fun fr hF => ?_
  refine q_storeBox 0 hs hM0 rfl [.int .i64 p0.W, .int .i64 p0.Mem, .int .i64 p0.In, .slice none (List.length ([] : List D.Ins)) 0] rfl hF rfl rfl (by kernel_rfl) rfl rfl rfl fun w6 S6 hs hp hF => ?_
  have r1 := r1.stp hM0 hp
  have hM0 := hM0.stp hp
  have hs : Sep [BX b3 32 [.int .i64 p0.W, .int .i64 p0.Mem, .int .i64 p0.In, .slice none (List.length ([] : List D.Ins)) 0], BX b2 32 [.int .i64 0, .int .i64 0, .int .i64 0, .slice none (List.length ([] : List D.Ins)) 0], BX b1 24 [.int .i64 p0.W, .int .i64 p0.Mem, .int .i64 p0.In, .slice a1 (List.length p0.Code) c1]] w6 S6 := hs
  refine from_end rfl (then_normal ?_)
  refine wp_seq (wp_text' ?_)
  refine from_pure 1 [(2, .pointer (some ⟨b2, 0, none⟩)), (3, .pointer (some ⟨b3, 0, none⟩)), (13, .pointer (some ⟨b1, 3, none⟩))] hF (by kernel_rfl) fun fr hF => ?_
  refine s_loadBox (.slice a1 (List.length p0.Code) c1) ty22 rfl rfl hF rfl (hs.bx 2 rfl) rfl rfl fun fr hF => ?_
  have hs : Sep [BX b3 32 [.int .i64 p0.W, .int .i64 p0.Mem, .int .i64 p0.In, .slice none (List.length ([] : List D.Ins)) 0], BX b2 32 [.int .i64 0, .int .i64 0, .int .i64 0, .slice none (List.length ([] : List D.Ins)) 0]] w6 S6 := Sep.pick [0, 1] hs (by decide) rfl
  obtain ⟨x1, hx1, h⟩ := bindE h
  refine s_call [.slice a1 (List.length p0.Code) c1] Try.call39 rfl rfl hF rfl (laws_toInsS_ok n p0.Code hx1 (r1)) fun v w7 fr hRes hF => ?_
  obtain ⟨a2, c2, rfl, _, hp, hs2⟩ := hRes
  obtain ⟨S7, hp, hs⟩ := hs.got hM0 hp hs2
  have r1 := r1.stp hM0 hp
  have hM0 := hM0.stp hp
  have hs : Sep [SL (α := D.Ins) 66 (.slice a2 (List.length x1) c2) x1, BX b3 32 [.int .i64 p0.W, .int .i64 p0.Mem, .int .i64 p0.In, .slice none (List.length ([] : List D.Ins)) 0], BX b2 32 [.int .i64 0, .int .i64 0, .int .i64 0, .slice none (List.length ([] : List D.Ins)) 0]] w7 S7 := hs
  refine from_pure 1 [(2, .pointer (some ⟨b2, 0, none⟩)), (3, .pointer (some ⟨b3, 0, none⟩)), (15, .slice a2 (List.length x1) c2), (16, .pointer (some ⟨b3, 3, none⟩))] hF (by kernel_rfl) fun fr hF => ?_
  refine q_storeBox 1 hs hM0 rfl [.int .i64 p0.W, .int .i64 p0.Mem, .int .i64 p0.In, .slice a2 (List.length x1) c2] rfl hF rfl rfl (by kernel_rfl) rfl rfl rfl fun w8 S8 hs hp hF => ?_
  have hM0 := hM0.stp hp
  have hs : Sep [SL (α := D.Ins) 66 (.slice a2 (List.length x1) c2) x1, BX b3 32 [.int .i64 p0.W, .int .i64 p0.Mem, .int .i64 p0.In, .slice a2 (List.length x1) c2], BX b2 32 [.int .i64 0, .int .i64 0, .int .i64 0, .slice none (List.length ([] : List D.Ins)) 0]] w8 S8 := hs
  refine from_end rfl (then_normal ?_)
  refine wp_seq (wp_text' ?_)
  refine s_loadBoxS ty32 rfl rfl hF rfl (hs.bx 1 rfl) rfl rfl fun fr hF => ?_
  have hs : Sep [SL (α := D.Ins) 66 (.slice a2 (List.length x1) c2) x1, BX b2 32 [.int .i64 0, .int .i64 0, .int .i64 0, .slice none (List.length ([] : List D.Ins)) 0]] w8 S8 := Sep.pick [0, 2] hs (by decide) rfl
  refine q_storeBoxS 1 hs hM0 rfl [.int .i64 p0.W, .int .i64 p0.Mem, .int .i64 p0.In, .slice a2 (List.length x1) c2] rfl hF rfl rfl (by kernel_rfl) rfl rfl rfl fun w9 S9 hs hp hF => ?_
  have hM0 := hM0.stp hp
  have hs : Sep [SL (α := D.Ins) 66 (.slice a2 (List.length x1) c2) x1, BX b2 32 [.int .i64 p0.W, .int .i64 p0.Mem, .int .i64 p0.In, .slice a2 (List.length x1) c2]] w9 S9 := hs
  refine from_end rfl (then_normal ?_)
  have hbr := (hs.bx 1 rfl)
  obtain rfl := Option.some.inj h
  have hs : Sep [SL (α := D.Ins) 66 (.slice a2 (List.length x1) c2) x1] w9 S9 := Sep.pick [0] hs (by decide) rfl
  exact wp_ret (retS rfl hF ty32 rfl rfl hbr rfl ⟨_, rfl, a2, c2, rfl, S9, hM0.out, hs⟩)

theorem laws_toIntS_ok (n : Nat) (p0 : List Int) {r : (List Int)} (h : laws_toIntS n p0 = some r) {w : World} {G0 : Nat → Prop} {va0 : Value} (ra0 : RV w G0 va0 p0) :
    Calls Try.prog 22 [va0].toArray w fun e w' => ∃ v, e = .returned v ∧ ∃ a1 c1, v = .slice a1 (List.length r) c1 ∧ ∃ S', Stp w Non w' S' ∧ Sep [SL (α := Int) 3 (.slice a1 (List.length r) c1) r] w' S' := by
  unfold laws_toIntS at h
  have hs := Sep.nil w Non
  have hM0 : Mem w Non (fun k => (G0 k) ∧ k < w.heap.size) w Non (fun k => (G0 k) ∧ k < w.heap.size) := Mem.start (fun _ h => h.elim) (fun _ h => h.2) (fun _ h => h.elim)
  have ra0 := ra0.sub (F' := (fun k => (G0 k) ∧ k < w.heap.size)) (fun k hk h => ⟨h, hk⟩)
  obtain ⟨a1, c1, rfl, -⟩ := ra0.slice
  refine enter (N := 22) Try.func22 rfl Try.ntmps22 rfl fun fr hF => ?_
  refine wp_seq (wp_pure [(0, .slice a1 (List.length p0) c1)] hF (by kernel_rfl) fun fr hF => then_normal ?_)
  refine wp_seq (wp_text' ?_)
  refine from_pure 2 [(0, .slice a1 (List.length p0) c1), (6, .int .i64 (len p0))] hF (by kernel_rfl) fun fr hF => ?_
  obtain ⟨x1, hx1, h⟩ := bindE h
  refine q_make hs hM0 Try.underlying26 el3 (zero_flat _ (by kernel_rfl)) rfl rfl hF rfl rfl hx1 fun a2 c2 w1 S1 fr hs hp hF => ?_
  have ra0 := ra0.stp hM0 hp
  have hM0 := hM0.stp hp
  have hs : Sep [SL (α := Int) 3 (.slice a2 (List.length x1) c2) x1] w1 S1 := hs
  refine from_pure 1 [(0, .slice a1 (List.length p0) c1), (3, .slice a2 (List.length x1) c2)] hF (by kernel_rfl) fun fr hF => ?_
  refine from_end rfl (then_normal ?_)
  refine wp_seq ?_
  refine wp_seq (wp_pure [(0, .slice a1 (List.length p0) c1), (3, .slice a2 (List.length x1) c2), (4, .int .i64 0)] hF (by kernel_rfl) fun fr hF => then_normal ?_)
  obtain ⟨rl1, hit1, h⟩ := bindE h
  have hk1 := h
  refine (wp_cut (M := fun fr w' => ∃ S3 F2, FrS 22 [(3, .slice a2 (List.length x1) c2)] fr ∧ Mem w1 S1 (fun k => (G0 k) ∧ k < w.heap.size) w' S3 F2 ∧ Sep [SL (α := Int) 3 (.slice a2 (List.length x1) c2) rl1] w' S3) (wp_block (wp_iter (Inv := fun s1 fr w' => ∃ S2 F1, FrS 22 [(0, .slice a1 (List.length p0) c1), (3, .slice a2 (List.length x1) c2), (4, .int .i64 s1.1)] fr ∧ Mem w1 S1 (fun k => (G0 k) ∧ k < w.heap.size) w' S2 F1 ∧ Sep [SL (α := Int) 3 (.slice a2 (List.length x1) c2) s1.2] w' S2) hit1 ⟨S1, _, hF.sub _ (by kernel_rfl), (Mem.start hM0.bd hM0.bdF hM0.dj), hs⟩ fun s1 q1 fr w1i hI h hr1 => ?_)) fun fr w1o hM => ?_)
  · obtain ⟨S2, F1, hF, hM1, hs⟩ := hI
    have ra0 := ra0.mem hM1
    refine wp_seq ?_
    refine wp_seq (wp_pure [(0, .slice a1 (List.length p0) c1), (3, .slice a2 (List.length x1) c2), (4, .int .i64 s1.1), (11, .bool (decide (s1.1 < (len p0))))] hF (by kernel_rfl) fun fr hF => then_normal ?_)
    refine (wp_if hF (b := (decide (s1.1 < (len p0)))) rfl (fun hb => ?_) (fun hb => ?_))
    · replace h := iteT hb h
      refine (wp_skip (then_normal ?_))
      refine wp_seq (wp_block ?_)
      refine (wp_text' ?_)
      refine from_pure 4 [(0, .slice a1 (List.length p0) c1), (3, .slice a2 (List.length x1) c2), (4, .int .i64 s1.1), (14, .slice a2 (List.length x1) c2), (15, .int .i64 s1.1), (16, .slice a1 (List.length p0) c1), (17, .int .i64 s1.1)] hF (by kernel_rfl) fun fr hF => ?_
      obtain ⟨x2, hx2, h⟩ := bindE h
      refine s_elemF (z := x2) (.int .i64 x2) ty3 Try.underlying26 rfl rfl rfl rfl rfl hF rfl (ra0) rfl (get?_nn hx2) (get?_at hx2) rfl fun p fr hF => ?_
      obtain ⟨x3, hx3, h⟩ := bindE h
      refine q_set (q := x2) 0 hs hM1 rfl Try.underlying26 ty3 rfl rfl rfl rfl hF rfl rfl (by simp) rfl rfl hx3 fun w2 S4 fr _ hs hp hF => ?_
      have ra0 := ra0.stp hM1 hp
      have hM1 := hM1.stp hp
      have hs : Sep [SL (α := Int) 3 (.slice a2 (List.length x1) c2) x3] w2 S4 := hs
      refine from_end rfl ?_
      refine blk_normal (then_normal ?_)
      refine (wp_pure [(0, .slice a1 (List.length p0) c1), (3, .slice a2 (List.length x1) c2), (4, .int .i64 (w64 (s1.1 + 1)))] hF (by kernel_rfl) fun fr hF => then_normal ?_)
      exact ⟨_, (Option.some.inj h).symm, S4, _, hF.sub _ (by kernel_rfl), hM1, hs⟩
    replace h := iteF hb h
    refine (wp_exit (then_exit (then_exit (blk_exit_eq ?_))))
    obtain rfl := hr1 _ (Option.some.inj h).symm
    exact then_normal ⟨S2, _, hF.sub _ (by kernel_rfl), hM1, hs⟩
  · obtain ⟨S3, F2, hF, hMx, hs⟩ := hM
    have hM0 := hM0.trans hMx
    refine wp_seq (wp_pure [(2, .slice a2 (List.length x1) c2)] hF (by kernel_rfl) fun fr hF => then_normal ?_)
    obtain rfl := Option.some.inj h
    obtain ⟨he1, hs⟩ := hs.relen 0 rfl
    have hs : Sep [SL (α := Int) 3 (.slice a2 (List.length rl1) c2) rl1] w1o S3 := hs
    exact wp_ret (ret1 rfl hF rfl ⟨_, rfl, a2, c2, (by simp only [he1]), S3, hM0.out, hs⟩)

theorem spec_l01In_ok (p0 : Int) (p1 : Int) (p2 : Int) {r : Bool} (h : spec_l01In p0 p1 p2 = some r) {w : World} :
    Calls Try.prog 52 [.int .i64 p0, .int .i64 p1, .int .i64 p2].toArray w fun e w' => ∃ v, e = .returned v ∧ v = .bool r ∧ Chg Non w w' := by
  unfold spec_l01In at h
  have hs := Sep.nil w Non
  have hM0 : Mem w Non (fun k => (False) ∧ k < w.heap.size) w Non (fun k => (False) ∧ k < w.heap.size) := Mem.start (fun _ h => h.elim) (fun _ h => h.2) (fun _ h => h.elim)
  refine enter (N := 15) Try.func52 rfl Try.ntmps52 rfl fun fr hF => ?_
  refine wp_seq (wp_pure [(0, .int .i64 p0), (1, .int .i64 p1), (2, .int .i64 p2)] hF (by kernel_rfl) fun fr hF => then_normal ?_)
  refine wp_seq (region_b [] [true, true, true, true, true, true, true, true, true]
      [.eq (.int .i64 p0), .eq (.int .i64 p1), .eq (.bool (decide (p0 ≥ p1))), .eq (.bool (decide (p0 ≥ p1))), .eq (.int .i64 p0), .eq (.int .i64 p2), .eq (.bool (decide (p0 ≤ p2))), .eq (.bool ((decide (p0 ≥ p1)) && (decide (p0 ≤ p2)))), .eq (.bool ((decide (p0 ≥ p1)) && (decide (p0 ≤ p2))))]
      [(6, .bool ((decide (p0 ≥ p1)) && (decide (p0 ≤ p2))))] mix hF (by kernel_rfl) (by kernel_rfl) (by kernel_rfl) trivial (fun hG => trivial) (by kernel_rfl) fun fr w1 hF hE hc => then_normal ?_)
  have hs := hs.ext hc
  have hM0 := hM0.ext hc
  obtain rfl := Option.some.inj h
  exact wp_ret (ret1 rfl hF rfl ⟨_, rfl, rfl, hM0.chg⟩)

theorem spec_WordOk_ok (p0 : Int) (p1 : Int) {r : Bool} (h : spec_WordOk p0 p1 = some r) {w : World} :
    Calls Try.prog 57 [.int .i64 p0, .int .i64 p1].toArray w fun e w' => ∃ v, e = .returned v ∧ v = .bool r ∧ Chg Non w w' := by
  unfold spec_WordOk at h
  have hs := Sep.nil w Non
  have hM0 : Mem w Non (fun k => (False) ∧ k < w.heap.size) w Non (fun k => (False) ∧ k < w.heap.size) := Mem.start (fun _ h => h.elim) (fun _ h => h.2) (fun _ h => h.elim)
  refine enter (N := 14) Try.func57 rfl Try.ntmps57 rfl fun fr hF => ?_
  refine wp_seq (wp_pure [(0, .int .i64 p0), (1, .int .i64 p1)] hF (by kernel_rfl) fun fr hF => then_normal ?_)
  obtain ⟨x1, hx1, h⟩ := bindE h
  obtain ⟨x2, hx2, h⟩ := bindE h
  obtain ⟨x3, hx3, h⟩ := bindE h
  refine wp_seq (region_b [] [true, false, true, true, true, false, true, false, true, true]
      [.eq (.int .i64 p0), .eq (.bool x1), .eq (.bool x1), .eq (.int .i64 p1), .eq (.int .i64 p0), .eq (.int .i64 x2), .eq (.int .i64 (w64 (x2 - 1))), .eq (.bool x3), .eq (.bool (x1 && x3)), .eq (.bool (x1 && x3))]
      [(4, .bool (x1 && x3))] mix hF (by kernel_rfl) (by kernel_rfl) (by kernel_rfl) ⟨Pd.mono_eq, Pd.mono_eq, Pd.mono_eq, trivial⟩ (fun hG => ⟨np_call [.int .i64 p0, .int .i64 1, .int .i64 16] hG hF Try.call52 rfl rfl (fun w hC hg => (spec_l01In_ok p0 1 16 hx1).mono fun e w' ⟨v, he, hv, hc⟩ => ⟨v, he, hc, hv⟩), np_shl hG hF rfl rfl rfl (fun hg => (iteT hg.2 hx2)) rfl, np_call [.int .i64 p1, .int .i64 0, .int .i64 (w64 (x2 - 1))] hG hF Try.call52 rfl rfl (fun w hC hg => (spec_l01In_ok p1 0 (w64 (x2 - 1)) (iteT hg.2 hx3)).mono fun e w' ⟨v, he, hv, hc⟩ => ⟨v, he, hc, hv⟩), trivial⟩) (by kernel_rfl) fun fr w1 hF hE hc => then_normal ?_)
  have hs := hs.ext hc
  have hM0 := hM0.ext hc
  obtain rfl := Option.some.inj h
  exact wp_ret (ret1 rfl hF rfl ⟨_, rfl, rfl, hM0.chg⟩)

theorem spec_l05Reg_ok (p0 : Int) {r : Bool} (h : spec_l05Reg p0 = some r) {w : World} :
    Calls Try.prog 75 [.int .i64 p0].toArray w fun e w' => ∃ v, e = .returned v ∧ v = .bool r ∧ Chg Non w w' := by
  unfold spec_l05Reg at h
  have hs := Sep.nil w Non
  have hM0 : Mem w Non (fun k => (False) ∧ k < w.heap.size) w Non (fun k => (False) ∧ k < w.heap.size) := Mem.start (fun _ h => h.elim) (fun _ h => h.2) (fun _ h => h.elim)
  refine enter (N := 5) Try.func75 rfl Try.ntmps75 rfl fun fr hF => ?_
  refine wp_seq (wp_pure [(0, .int .i64 p0)] hF (by kernel_rfl) fun fr hF => then_normal ?_)
  refine wp_seq (wp_text' ?_)
  refine from_pure 1 [(3, .int .i64 p0)] hF (by kernel_rfl) fun fr hF => ?_
  obtain ⟨x1, hx1, h⟩ := bindE h
  refine s_call [.int .i64 p0, .int .i64 0, .int .i64 3] Try.call52 rfl rfl hF rfl (spec_l01In_ok p0 0 3 hx1) fun v w1 fr hRes hF => ?_
  obtain ⟨rfl, hc⟩ := hRes
  have hs := hs.ext hc
  have hM0 := hM0.ext hc
  refine from_pure 1 [(2, .bool x1)] hF (by kernel_rfl) fun fr hF => ?_
  refine from_end rfl (then_normal ?_)
  obtain rfl := Option.some.inj h
  exact wp_ret (ret1 rfl hF rfl ⟨_, rfl, rfl, hM0.chg⟩)

theorem spec_l05Ins_ok (p0 : D.Ins) (p1 : Int) (p2 : Int) {r : Bool} (h : spec_l05Ins p0 p1 p2 = some r) {w : World} :
    Calls Try.prog 58 [.agg #[.int .i64 p0.Op, .int .i64 p0.A, .int .i64 p0.B, .int .i64 p0.C], .int .i64 p1, .int .i64 p2].toArray w fun e w' => ∃ v, e = .returned v ∧ v = .bool r ∧ Chg Non w w' := by
  unfold spec_l05Ins at h
  have hs := Sep.nil w Non
  have hM0 : Mem w Non (fun k => (False) ∧ k < w.heap.size) w Non (fun k => (False) ∧ k < w.heap.size) := Mem.start (fun _ h => h.elim) (fun _ h => h.2) (fun _ h => h.elim)
  refine enter (N := 123) Try.func58 rfl Try.ntmps58 rfl fun fr hF => ?_
  refine wp_seq (wp_text' ?_)
  refine q_box hs hM0 [.int .i64 p0.Op, .int .i64 p0.A, .int .i64 p0.B, .int .i64 p0.C] rfl rfl hF rfl rfl fun b1 w1 S1 fr hs hp hF => ?_
  have hM0 := hM0.stp hp
  have hs : Sep [BX b1 66 [.int .i64 p0.Op, .int .i64 p0.A, .int .i64 p0.B, .int .i64 p0.C]] w1 S1 := hs
  refine from_pure 1 [(1, .int .i64 p1), (2, .int .i64 p2), (3, .pointer (some ⟨b1, 0, none⟩))] hF (by kernel_rfl) fun fr hF => ?_
  refine from_end rfl (then_normal ?_)
  refine wp_seq (wp_text' ?_)
  refine from_pure 1 [(1, .int .i64 p1), (2, .int .i64 p2), (3, .pointer (some ⟨b1, 0, none⟩)), (8, .pointer (some ⟨b1, 2, none⟩))] hF (by kernel_rfl) fun fr hF => ?_
  refine s_loadBox (.int .i64 p0.B) ty3 rfl rfl hF rfl (hs.bx 0 rfl) rfl rfl fun fr hF => ?_
  refine from_pure 1 [(1, .int .i64 p1), (3, .pointer (some ⟨b1, 0, none⟩)), (9, .int .i64 p0.B), (10, .int .i64 p2)] hF (by kernel_rfl) fun fr hF => ?_
  obtain ⟨x1, hx1, h⟩ := bindE h
  refine s_call [.int .i64 p0.B, .int .i64 0, .int .i64 p2] Try.call52 rfl rfl hF rfl (spec_l01In_ok p0.B 0 p2 hx1) fun v w2 fr hRes hF => ?_
  obtain ⟨rfl, hc⟩ := hRes
  have hs := hs.ext hc
  have hM0 := hM0.ext hc
  refine from_pure 1 [(1, .int .i64 p1), (3, .pointer (some ⟨b1, 0, none⟩)), (7, .bool x1)] hF (by kernel_rfl) fun fr hF => ?_
  refine from_end rfl (then_normal ?_)
  refine wp_seq ?_
  refine wp_seq (wp_text' ?_)
  refine from_pure 1 [(1, .int .i64 p1), (3, .pointer (some ⟨b1, 0, none⟩)), (7, .bool x1), (12, .pointer (some ⟨b1, 0, none⟩))] hF (by kernel_rfl) fun fr hF => ?_
  refine s_loadBox (.int .i64 p0.Op) ty3 rfl rfl hF rfl (hs.bx 0 rfl) rfl rfl fun fr hF => ?_
  refine from_end rfl (then_normal ?_)
  refine (wp_block ?_)
  refine wp_seq (wp_pure [(1, .int .i64 p1), (3, .pointer (some ⟨b1, 0, none⟩)), (7, .bool x1), (13, .int .i64 p0.Op), (14, .bool (p0.Op == 1))] hF (by kernel_rfl) fun fr hF => then_normal ?_)
  refine (wp_if hF (b := (p0.Op == 1)) rfl (fun hb => ?_) (fun hb => ?_))
  · replace h := iteT hb h
    obtain ⟨x2, hx2, h⟩ := bindE h
    obtain ⟨x3, hx3, h⟩ := bindE h
    refine wp_seq (region_b [] [true, false, false, true, true, true, false, false, true, true, true, false, true, true, true]
        [.eq (.pointer (some ⟨b1, 1, none⟩)), .eq (.int .i64 p0.A), .eq (.bool x2), .eq (.bool x2), .eq (.int .i64 p1), .eq (.pointer (some ⟨b1, 2, none⟩)), .eq (.int .i64 p0.B), .eq (.bool x3), .eq (.bool (x2 && x3)), .eq (.bool (x2 && x3)), .eq (.pointer (some ⟨b1, 3, none⟩)), .eq (.int .i64 p0.C), .eq (.bool (p0.C == 0)), .eq (.bool ((x2 && x3) && (p0.C == 0))), .eq (.bool ((x2 && x3) && (p0.C == 0)))]
        [(6, .bool ((x2 && x3) && (p0.C == 0)))] mix hF (by kernel_rfl) (by kernel_rfl) (by kernel_rfl) ⟨Pd.mono_eq, Pd.mono_eq, Pd.mono_eq, Pd.mono_eq, Pd.mono_eq, trivial⟩ (fun hG => ⟨np_loadBox hG hF ty3 rfl rfl (hs.bx 0 rfl) rfl rfl rfl, np_call [.int .i64 p0.A] hG hF Try.call75 rfl rfl (fun w hC hg => (spec_l05Reg_ok p0.A hx2).mono fun e w' ⟨v, he, hv, hc⟩ => ⟨v, he, hc, hv⟩), np_loadBox hG hF ty3 rfl rfl (hs.bx 0 rfl) rfl rfl rfl, np_call [.int .i64 p1, .int .i64 p0.B] hG hF Try.call57 rfl rfl (fun w hC hg => (spec_WordOk_ok p1 p0.B (iteT hg.2 hx3)).mono fun e w' ⟨v, he, hv, hc⟩ => ⟨v, he, hc, hv⟩), np_loadBox hG hF ty3 rfl rfl (hs.bx 0 rfl) rfl rfl rfl, trivial⟩) (by kernel_rfl) fun fr w3 hF hE hc => then_normal ?_)
    have hs := hs.ext hc
    have hM0 := hM0.ext hc
    have hs : Sep [] w3 S1 := Sep.pick [] hs (by decide) rfl
    obtain rfl := Option.some.inj h
    exact wp_ret (blk_ret (then_ret (ret1 rfl hF rfl ⟨_, rfl, rfl, hM0.chg⟩)))
  replace h := iteF hb h
  refine wp_seq ?_
  refine wp_seq (wp_pure [(3, .pointer (some ⟨b1, 0, none⟩)), (7, .bool x1), (13, .int .i64 p0.Op), (30, .bool (p0.Op == 2))] hF (by kernel_rfl) fun fr hF => then_normal ?_)
  refine (wp_if hF (b := (p0.Op == 2)) rfl (fun hb => ?_) (fun hb => ?_))
  · replace h := iteT hb h
    refine (wp_skip (then_normal ?_))
    refine (wp_if hF (b := (p0.Op == 2)) rfl (fun hb => ?_) (fun hb => ?_))
    · replace h := iteT hb h
      obtain ⟨x4, hx4, h⟩ := bindE h
      obtain ⟨x5, hx5, h⟩ := bindE h
      refine wp_seq (region_b [] [true, false, false, true, true, false, false, true, true, true, false, true, true, true]
          [.eq (.pointer (some ⟨b1, 1, none⟩)), .eq (.int .i64 p0.A), .eq (.bool x4), .eq (.bool x4), .eq (.pointer (some ⟨b1, 2, none⟩)), .eq (.int .i64 p0.B), .eq (.bool x5), .eq (.bool (x4 && x5)), .eq (.bool (x4 && x5)), .eq (.pointer (some ⟨b1, 3, none⟩)), .eq (.int .i64 p0.C), .eq (.bool (p0.C == 0)), .eq (.bool ((x4 && x5) && (p0.C == 0))), .eq (.bool ((x4 && x5) && (p0.C == 0)))]
          [(6, .bool ((x4 && x5) && (p0.C == 0)))] mix hF (by kernel_rfl) (by kernel_rfl) (by kernel_rfl) ⟨Pd.mono_eq, Pd.mono_eq, Pd.mono_eq, Pd.mono_eq, Pd.mono_eq, trivial⟩ (fun hG => ⟨np_loadBox hG hF ty3 rfl rfl (hs.bx 0 rfl) rfl rfl rfl, np_call [.int .i64 p0.A] hG hF Try.call75 rfl rfl (fun w hC hg => (spec_l05Reg_ok p0.A hx4).mono fun e w' ⟨v, he, hv, hc⟩ => ⟨v, he, hc, hv⟩), np_loadBox hG hF ty3 rfl rfl (hs.bx 0 rfl) rfl rfl rfl, np_call [.int .i64 p0.B] hG hF Try.call75 rfl rfl (fun w hC hg => (spec_l05Reg_ok p0.B (iteT hg.2 hx5)).mono fun e w' ⟨v, he, hv, hc⟩ => ⟨v, he, hc, hv⟩), np_loadBox hG hF ty3 rfl rfl (hs.bx 0 rfl) rfl rfl rfl, trivial⟩) (by kernel_rfl) fun fr w4 hF hE hc => then_normal ?_)
      have hs := hs.ext hc
      have hM0 := hM0.ext hc
      have hs : Sep [] w4 S1 := Sep.pick [] hs (by decide) rfl
      obtain rfl := Option.some.inj h
      exact wp_ret (blk_ret (then_ret (ret1 rfl hF rfl ⟨_, rfl, rfl, hM0.chg⟩)))
    replace h := iteF hb h
    refine wp_seq (wp_pure [(3, .pointer (some ⟨b1, 0, none⟩)), (7, .bool x1), (13, .int .i64 p0.Op), (47, .bool (p0.Op == 3))] hF (by kernel_rfl) fun fr hF => then_normal ?_)
    refine (wp_if hF (b := (p0.Op == 3)) rfl (fun hb => ?_) (fun hb => ?_))
    · replace h := iteT hb h
      obtain ⟨x6, hx6, h⟩ := bindE h
      obtain ⟨x7, hx7, h⟩ := bindE h
      obtain ⟨x8, hx8, h⟩ := bindE h
      refine wp_seq (region_b [] [true, false, false, true, true, false, false, true, true, true, false, false, true, true]
          [.eq (.pointer (some ⟨b1, 1, none⟩)), .eq (.int .i64 p0.A), .eq (.bool x6), .eq (.bool x6), .eq (.pointer (some ⟨b1, 2, none⟩)), .eq (.int .i64 p0.B), .eq (.bool x7), .eq (.bool (x6 && x7)), .eq (.bool (x6 && x7)), .eq (.pointer (some ⟨b1, 3, none⟩)), .eq (.int .i64 p0.C), .eq (.bool x8), .eq (.bool ((x6 && x7) && x8)), .eq (.bool ((x6 && x7) && x8))]
          [(6, .bool ((x6 && x7) && x8))] mix hF (by kernel_rfl) (by kernel_rfl) (by kernel_rfl) ⟨Pd.mono_eq, Pd.mono_eq, Pd.mono_eq, Pd.mono_eq, Pd.mono_eq, Pd.mono_eq, trivial⟩ (fun hG => ⟨np_loadBox hG hF ty3 rfl rfl (hs.bx 0 rfl) rfl rfl rfl, np_call [.int .i64 p0.A] hG hF Try.call75 rfl rfl (fun w hC hg => (spec_l05Reg_ok p0.A hx6).mono fun e w' ⟨v, he, hv, hc⟩ => ⟨v, he, hc, hv⟩), np_loadBox hG hF ty3 rfl rfl (hs.bx 0 rfl) rfl rfl rfl, np_call [.int .i64 p0.B] hG hF Try.call75 rfl rfl (fun w hC hg => (spec_l05Reg_ok p0.B (iteT hg.2 hx7)).mono fun e w' ⟨v, he, hv, hc⟩ => ⟨v, he, hc, hv⟩), np_loadBox hG hF ty3 rfl rfl (hs.bx 0 rfl) rfl rfl rfl, np_call [.int .i64 p0.C, .int .i64 3, .int .i64 16] hG hF Try.call52 rfl rfl (fun w hC hg => (spec_l01In_ok p0.C 3 16 (iteT hg.2 hx8)).mono fun e w' ⟨v, he, hv, hc⟩ => ⟨v, he, hc, hv⟩), trivial⟩) (by kernel_rfl) fun fr w5 hF hE hc => then_normal ?_)
      have hs := hs.ext hc
      have hM0 := hM0.ext hc
      have hs : Sep [] w5 S1 := Sep.pick [] hs (by decide) rfl
      obtain rfl := Option.some.inj h
      exact wp_ret (blk_ret (then_ret (ret1 rfl hF rfl ⟨_, rfl, rfl, hM0.chg⟩)))
    replace h := iteF hb h
    refine wp_seq ?_
    refine wp_seq (wp_pure [(3, .pointer (some ⟨b1, 0, none⟩)), (7, .bool x1), (13, .int .i64 p0.Op), (62, .bool (p0.Op == 4))] hF (by kernel_rfl) fun fr hF => then_normal ?_)
    refine (wp_if hF (b := (p0.Op == 4)) rfl (fun hb => ?_) (fun hb => ?_))
    · replace h := iteT hb h
      refine (wp_skip (then_normal ?_))
      refine (wp_if hF (b := (p0.Op == 4)) rfl (fun hb => ?_) (fun hb => ?_))
      · replace h := iteT hb h
        obtain ⟨x9, hx9, h⟩ := bindE h
        refine wp_seq (region_b [] [true, false, false, true, true, false, true, true, true, true, false, true, true, true]
            [.eq (.pointer (some ⟨b1, 1, none⟩)), .eq (.int .i64 p0.A), .eq (.bool x9), .eq (.bool x9), .eq (.pointer (some ⟨b1, 2, none⟩)), .eq (.int .i64 p0.B), .eq (.bool (p0.B == 0)), .eq (.bool (x9 && (p0.B == 0))), .eq (.bool (x9 && (p0.B == 0))), .eq (.pointer (some ⟨b1, 3, none⟩)), .eq (.int .i64 p0.C), .eq (.bool (p0.C == 0)), .eq (.bool ((x9 && (p0.B == 0)) && (p0.C == 0))), .eq (.bool ((x9 && (p0.B == 0)) && (p0.C == 0)))]
            [(6, .bool ((x9 && (p0.B == 0)) && (p0.C == 0)))] mix hF (by kernel_rfl) (by kernel_rfl) (by kernel_rfl) ⟨Pd.mono_eq, Pd.mono_eq, Pd.mono_eq, Pd.mono_eq, trivial⟩ (fun hG => ⟨np_loadBox hG hF ty3 rfl rfl (hs.bx 0 rfl) rfl rfl rfl, np_call [.int .i64 p0.A] hG hF Try.call75 rfl rfl (fun w hC hg => (spec_l05Reg_ok p0.A hx9).mono fun e w' ⟨v, he, hv, hc⟩ => ⟨v, he, hc, hv⟩), np_loadBox hG hF ty3 rfl rfl (hs.bx 0 rfl) rfl rfl rfl, np_loadBox hG hF ty3 rfl rfl (hs.bx 0 rfl) rfl rfl rfl, trivial⟩) (by kernel_rfl) fun fr w6 hF hE hc => then_normal ?_)
        have hs := hs.ext hc
        have hM0 := hM0.ext hc
        have hs : Sep [] w6 S1 := Sep.pick [] hs (by decide) rfl
        obtain rfl := Option.some.inj h
        exact wp_ret (blk_ret (then_ret (ret1 rfl hF rfl ⟨_, rfl, rfl, hM0.chg⟩)))
      replace h := iteF hb h
      refine wp_seq ?_
      refine wp_seq (wp_pure [(3, .pointer (some ⟨b1, 0, none⟩)), (7, .bool x1), (13, .int .i64 p0.Op), (80, .bool (p0.Op == 9))] hF (by kernel_rfl) fun fr hF => then_normal ?_)
      refine (wp_merge [(3, .pointer (some ⟨b1, 0, none⟩)), (7, .bool x1), (13, .int .i64 p0.Op), (80, .bool ((p0.Op == 9) || (p0.Op == 11)))] hF (b := (p0.Op == 9)) rfl (fun hb => ?_) (fun hb => ?_) fun fr hF => then_normal ?_)
      · exact wp_skip ⟨rfl, rfl, (hF.sub [(3, .pointer (some ⟨b1, 0, none⟩)), (7, .bool x1), (13, .int .i64 p0.Op), (80, .bool (p0.Op == 9))] (by kernel_rfl)).eqs (by first | (simp only [hb]; done) | (simp only [hb]; rfl))⟩
      · exact wp_pure [(3, .pointer (some ⟨b1, 0, none⟩)), (7, .bool x1), (13, .int .i64 p0.Op), (80, .bool (p0.Op == 11))] hF (by kernel_rfl) fun fr hF => ⟨rfl, rfl, hF.eqs (by first | (simp only [hb]; done) | (simp only [hb]; rfl))⟩
      refine (wp_if hF (b := ((p0.Op == 9) || (p0.Op == 11))) rfl (fun hb => ?_) (fun hb => ?_))
      · replace h := iteT hb h
        refine wp_seq (region_b [] [true, false, true, true, true, true, true, true, false, true, true, true]
            [.eq (.pointer (some ⟨b1, 1, none⟩)), .eq (.int .i64 p0.A), .eq (.bool (p0.A == 0)), .eq (.bool (p0.A == 0)), .eq (.bool x1), .eq (.bool ((p0.A == 0) && x1)), .eq (.bool ((p0.A == 0) && x1)), .eq (.pointer (some ⟨b1, 3, none⟩)), .eq (.int .i64 p0.C), .eq (.bool (p0.C == 0)), .eq (.bool (((p0.A == 0) && x1) && (p0.C == 0))), .eq (.bool (((p0.A == 0) && x1) && (p0.C == 0)))]
            [(6, .bool (((p0.A == 0) && x1) && (p0.C == 0)))] mix hF (by kernel_rfl) (by kernel_rfl) (by kernel_rfl) ⟨Pd.mono_eq, Pd.mono_eq, trivial⟩ (fun hG => ⟨np_loadBox hG hF ty3 rfl rfl (hs.bx 0 rfl) rfl rfl rfl, np_loadBox hG hF ty3 rfl rfl (hs.bx 0 rfl) rfl rfl rfl, trivial⟩) (by kernel_rfl) fun fr w7 hF hE hc => then_normal ?_)
        have hs := hs.ext hc
        have hM0 := hM0.ext hc
        have hs : Sep [] w7 S1 := Sep.pick [] hs (by decide) rfl
        obtain rfl := Option.some.inj h
        exact wp_ret (blk_ret (then_ret (ret1 rfl hF rfl ⟨_, rfl, rfl, hM0.chg⟩)))
      replace h := iteF hb h
      refine wp_seq (wp_pure [(3, .pointer (some ⟨b1, 0, none⟩)), (7, .bool x1), (13, .int .i64 p0.Op), (94, .bool (p0.Op == 10))] hF (by kernel_rfl) fun fr hF => then_normal ?_)
      refine (wp_if hF (b := (p0.Op == 10)) rfl (fun hb => ?_) (fun hb => ?_))
      · replace h := iteT hb h
        obtain ⟨x10, hx10, h⟩ := bindE h
        refine wp_seq (region_b [] [true, false, false, true, true, true, true, true, false, true, true, true]
            [.eq (.pointer (some ⟨b1, 1, none⟩)), .eq (.int .i64 p0.A), .eq (.bool x10), .eq (.bool x10), .eq (.bool x1), .eq (.bool (x10 && x1)), .eq (.bool (x10 && x1)), .eq (.pointer (some ⟨b1, 3, none⟩)), .eq (.int .i64 p0.C), .eq (.bool (p0.C == 0)), .eq (.bool ((x10 && x1) && (p0.C == 0))), .eq (.bool ((x10 && x1) && (p0.C == 0)))]
            [(6, .bool ((x10 && x1) && (p0.C == 0)))] mix hF (by kernel_rfl) (by kernel_rfl) (by kernel_rfl) ⟨Pd.mono_eq, Pd.mono_eq, Pd.mono_eq, trivial⟩ (fun hG => ⟨np_loadBox hG hF ty3 rfl rfl (hs.bx 0 rfl) rfl rfl rfl, np_call [.int .i64 p0.A] hG hF Try.call75 rfl rfl (fun w hC hg => (spec_l05Reg_ok p0.A hx10).mono fun e w' ⟨v, he, hv, hc⟩ => ⟨v, he, hc, hv⟩), np_loadBox hG hF ty3 rfl rfl (hs.bx 0 rfl) rfl rfl rfl, trivial⟩) (by kernel_rfl) fun fr w8 hF hE hc => then_normal ?_)
        have hs := hs.ext hc
        have hM0 := hM0.ext hc
        have hs : Sep [] w8 S1 := Sep.pick [] hs (by decide) rfl
        obtain rfl := Option.some.inj h
        exact wp_ret (blk_ret (then_ret (ret1 rfl hF rfl ⟨_, rfl, rfl, hM0.chg⟩)))
      replace h := iteF hb h
      refine wp_seq ?_
      refine wp_seq (wp_pure [(3, .pointer (some ⟨b1, 0, none⟩)), (13, .int .i64 p0.Op), (107, .bool (p0.Op == 12))] hF (by kernel_rfl) fun fr hF => then_normal ?_)
      refine (wp_merge [(3, .pointer (some ⟨b1, 0, none⟩)), (107, .bool ((p0.Op == 12) || (p0.Op == 14)))] hF (b := (p0.Op == 12)) rfl (fun hb => ?_) (fun hb => ?_) fun fr hF => then_normal ?_)
      · exact wp_skip ⟨rfl, rfl, (hF.sub [(3, .pointer (some ⟨b1, 0, none⟩)), (107, .bool (p0.Op == 12))] (by kernel_rfl)).eqs (by first | (simp only [hb]; done) | (simp only [hb]; rfl))⟩
      · exact wp_pure [(3, .pointer (some ⟨b1, 0, none⟩)), (107, .bool (p0.Op == 14))] hF (by kernel_rfl) fun fr hF => ⟨rfl, rfl, hF.eqs (by first | (simp only [hb]; done) | (simp only [hb]; rfl))⟩
      refine (wp_if hF (b := ((p0.Op == 12) || (p0.Op == 14))) rfl (fun hb => ?_) (fun hb => ?_))
      · replace h := iteT hb h
        refine wp_seq (region_b [] [true, false, true, true, true, false, true, true, true, true, false, true, true, true]
            [.eq (.pointer (some ⟨b1, 1, none⟩)), .eq (.int .i64 p0.A), .eq (.bool (p0.A == 0)), .eq (.bool (p0.A == 0)), .eq (.pointer (some ⟨b1, 2, none⟩)), .eq (.int .i64 p0.B), .eq (.bool (p0.B == 0)), .eq (.bool ((p0.A == 0) && (p0.B == 0))), .eq (.bool ((p0.A == 0) && (p0.B == 0))), .eq (.pointer (some ⟨b1, 3, none⟩)), .eq (.int .i64 p0.C), .eq (.bool (p0.C == 0)), .eq (.bool (((p0.A == 0) && (p0.B == 0)) && (p0.C == 0))), .eq (.bool (((p0.A == 0) && (p0.B == 0)) && (p0.C == 0)))]
            [(6, .bool (((p0.A == 0) && (p0.B == 0)) && (p0.C == 0)))] mix hF (by kernel_rfl) (by kernel_rfl) (by kernel_rfl) ⟨Pd.mono_eq, Pd.mono_eq, Pd.mono_eq, trivial⟩ (fun hG => ⟨np_loadBox hG hF ty3 rfl rfl (hs.bx 0 rfl) rfl rfl rfl, np_loadBox hG hF ty3 rfl rfl (hs.bx 0 rfl) rfl rfl rfl, np_loadBox hG hF ty3 rfl rfl (hs.bx 0 rfl) rfl rfl rfl, trivial⟩) (by kernel_rfl) fun fr w9 hF hE hc => then_normal ?_)
        have hs := hs.ext hc
        have hM0 := hM0.ext hc
        have hs : Sep [] w9 S1 := Sep.pick [] hs (by decide) rfl
        obtain rfl := Option.some.inj h
        exact wp_ret (blk_ret (then_ret (ret1 rfl hF rfl ⟨_, rfl, rfl, hM0.chg⟩)))
      replace h := iteF hb h
      have hs : Sep [] w2 S1 := Sep.pick [] hs (by decide) rfl
      refine (wp_skip ?_)
      refine blk_normal (then_normal ?_)
      refine wp_seq (wp_pure [(6, .bool false)] hF (by kernel_rfl) fun fr hF => then_normal ?_)
      obtain rfl := Option.some.inj h
      exact wp_ret (ret1 rfl hF rfl ⟨_, rfl, rfl, hM0.chg⟩)
    replace h := iteF hb h
    refine wp_seq (wp_pure [(3, .pointer (some ⟨b1, 0, none⟩)), (7, .bool x1), (13, .int .i64 p0.Op), (62, .bool (p0.Op == 5))] hF (by kernel_rfl) fun fr hF => then_normal ?_)
    refine (wp_if hF (b := (p0.Op == 5)) rfl (fun hb => ?_) (fun hb => ?_))
    · replace h := iteT hb h
      refine (wp_skip (then_normal ?_))
      refine (wp_if hF (b := (p0.Op == 5)) rfl (fun hb => ?_) (fun hb => ?_))
      · replace h := iteT hb h
        obtain ⟨x11, hx11, h⟩ := bindE h
        refine wp_seq (region_b [] [true, false, false, true, true, false, true, true, true, true, false, true, true, true]
            [.eq (.pointer (some ⟨b1, 1, none⟩)), .eq (.int .i64 p0.A), .eq (.bool x11), .eq (.bool x11), .eq (.pointer (some ⟨b1, 2, none⟩)), .eq (.int .i64 p0.B), .eq (.bool (p0.B == 0)), .eq (.bool (x11 && (p0.B == 0))), .eq (.bool (x11 && (p0.B == 0))), .eq (.pointer (some ⟨b1, 3, none⟩)), .eq (.int .i64 p0.C), .eq (.bool (p0.C == 0)), .eq (.bool ((x11 && (p0.B == 0)) && (p0.C == 0))), .eq (.bool ((x11 && (p0.B == 0)) && (p0.C == 0)))]
            [(6, .bool ((x11 && (p0.B == 0)) && (p0.C == 0)))] mix hF (by kernel_rfl) (by kernel_rfl) (by kernel_rfl) ⟨Pd.mono_eq, Pd.mono_eq, Pd.mono_eq, Pd.mono_eq, trivial⟩ (fun hG => ⟨np_loadBox hG hF ty3 rfl rfl (hs.bx 0 rfl) rfl rfl rfl, np_call [.int .i64 p0.A] hG hF Try.call75 rfl rfl (fun w hC hg => (spec_l05Reg_ok p0.A hx11).mono fun e w' ⟨v, he, hv, hc⟩ => ⟨v, he, hc, hv⟩), np_loadBox hG hF ty3 rfl rfl (hs.bx 0 rfl) rfl rfl rfl, np_loadBox hG hF ty3 rfl rfl (hs.bx 0 rfl) rfl rfl rfl, trivial⟩) (by kernel_rfl) fun fr w10 hF hE hc => then_normal ?_)
        have hs := hs.ext hc
        have hM0 := hM0.ext hc
        have hs : Sep [] w10 S1 := Sep.pick [] hs (by decide) rfl
        obtain rfl := Option.some.inj h
        exact wp_ret (blk_ret (then_ret (ret1 rfl hF rfl ⟨_, rfl, rfl, hM0.chg⟩)))
      replace h := iteF hb h
      refine wp_seq ?_
      refine wp_seq (wp_pure [(3, .pointer (some ⟨b1, 0, none⟩)), (7, .bool x1), (13, .int .i64 p0.Op), (80, .bool (p0.Op == 9))] hF (by kernel_rfl) fun fr hF => then_normal ?_)
      refine (wp_merge [(3, .pointer (some ⟨b1, 0, none⟩)), (7, .bool x1), (13, .int .i64 p0.Op), (80, .bool ((p0.Op == 9) || (p0.Op == 11)))] hF (b := (p0.Op == 9)) rfl (fun hb => ?_) (fun hb => ?_) fun fr hF => then_normal ?_)
      · exact wp_skip ⟨rfl, rfl, (hF.sub [(3, .pointer (some ⟨b1, 0, none⟩)), (7, .bool x1), (13, .int .i64 p0.Op), (80, .bool (p0.Op == 9))] (by kernel_rfl)).eqs (by first | (simp only [hb]; done) | (simp only [hb]; rfl))⟩
      · exact wp_pure [(3, .pointer (some ⟨b1, 0, none⟩)), (7, .bool x1), (13, .int .i64 p0.Op), (80, .bool (p0.Op == 11))] hF (by kernel_rfl) fun fr hF => ⟨rfl, rfl, hF.eqs (by first | (simp only [hb]; done) | (simp only [hb]; rfl))⟩
      refine (wp_if hF (b := ((p0.Op == 9) || (p0.Op == 11))) rfl (fun hb => ?_) (fun hb => ?_))
      · replace h := iteT hb h
        refine wp_seq (region_b [] [true, false, true, true, true, true, true, true, false, true, true, true]
            [.eq (.pointer (some ⟨b1, 1, none⟩)), .eq (.int .i64 p0.A), .eq (.bool (p0.A == 0)), .eq (.bool (p0.A == 0)), .eq (.bool x1), .eq (.bool ((p0.A == 0) && x1)), .eq (.bool ((p0.A == 0) && x1)), .eq (.pointer (some ⟨b1, 3, none⟩)), .eq (.int .i64 p0.C), .eq (.bool (p0.C == 0)), .eq (.bool (((p0.A == 0) && x1) && (p0.C == 0))), .eq (.bool (((p0.A == 0) && x1) && (p0.C == 0)))]
            [(6, .bool (((p0.A == 0) && x1) && (p0.C == 0)))] mix hF (by kernel_rfl) (by kernel_rfl) (by kernel_rfl) ⟨Pd.mono_eq, Pd.mono_eq, trivial⟩ (fun hG => ⟨np_loadBox hG hF ty3 rfl rfl (hs.bx 0 rfl) rfl rfl rfl, np_loadBox hG hF ty3 rfl rfl (hs.bx 0 rfl) rfl rfl rfl, trivial⟩) (by kernel_rfl) fun fr w11 hF hE hc => then_normal ?_)
        have hs := hs.ext hc
        have hM0 := hM0.ext hc
        have hs : Sep [] w11 S1 := Sep.pick [] hs (by decide) rfl
        obtain rfl := Option.some.inj h
        exact wp_ret (blk_ret (then_ret (ret1 rfl hF rfl ⟨_, rfl, rfl, hM0.chg⟩)))
      replace h := iteF hb h
      refine wp_seq (wp_pure [(3, .pointer (some ⟨b1, 0, none⟩)), (7, .bool x1), (13, .int .i64 p0.Op), (94, .bool (p0.Op == 10))] hF (by kernel_rfl) fun fr hF => then_normal ?_)
      refine (wp_if hF (b := (p0.Op == 10)) rfl (fun hb => ?_) (fun hb => ?_))
      · replace h := iteT hb h
        obtain ⟨x12, hx12, h⟩ := bindE h
        refine wp_seq (region_b [] [true, false, false, true, true, true, true, true, false, true, true, true]
            [.eq (.pointer (some ⟨b1, 1, none⟩)), .eq (.int .i64 p0.A), .eq (.bool x12), .eq (.bool x12), .eq (.bool x1), .eq (.bool (x12 && x1)), .eq (.bool (x12 && x1)), .eq (.pointer (some ⟨b1, 3, none⟩)), .eq (.int .i64 p0.C), .eq (.bool (p0.C == 0)), .eq (.bool ((x12 && x1) && (p0.C == 0))), .eq (.bool ((x12 && x1) && (p0.C == 0)))]
            [(6, .bool ((x12 && x1) && (p0.C == 0)))] mix hF (by kernel_rfl) (by kernel_rfl) (by kernel_rfl) ⟨Pd.mono_eq, Pd.mono_eq, Pd.mono_eq, trivial⟩ (fun hG => ⟨np_loadBox hG hF ty3 rfl rfl (hs.bx 0 rfl) rfl rfl rfl, np_call [.int .i64 p0.A] hG hF Try.call75 rfl rfl (fun w hC hg => (spec_l05Reg_ok p0.A hx12).mono fun e w' ⟨v, he, hv, hc⟩ => ⟨v, he, hc, hv⟩), np_loadBox hG hF ty3 rfl rfl (hs.bx 0 rfl) rfl rfl rfl, trivial⟩) (by kernel_rfl) fun fr w12 hF hE hc => then_normal ?_)
        have hs := hs.ext hc
        have hM0 := hM0.ext hc
        have hs : Sep [] w12 S1 := Sep.pick [] hs (by decide) rfl
        obtain rfl := Option.some.inj h
        exact wp_ret (blk_ret (then_ret (ret1 rfl hF rfl ⟨_, rfl, rfl, hM0.chg⟩)))
      replace h := iteF hb h
      refine wp_seq ?_
      refine wp_seq (wp_pure [(3, .pointer (some ⟨b1, 0, none⟩)), (13, .int .i64 p0.Op), (107, .bool (p0.Op == 12))] hF (by kernel_rfl) fun fr hF => then_normal ?_)
      refine (wp_merge [(3, .pointer (some ⟨b1, 0, none⟩)), (107, .bool ((p0.Op == 12) || (p0.Op == 14)))] hF (b := (p0.Op == 12)) rfl (fun hb => ?_) (fun hb => ?_) fun fr hF => then_normal ?_)
      · exact wp_skip ⟨rfl, rfl, (hF.sub [(3, .pointer (some ⟨b1, 0, none⟩)), (107, .bool (p0.Op == 12))] (by kernel_rfl)).eqs (by first | (simp only [hb]; done) | (simp only [hb]; rfl))⟩
      · exact wp_pure [(3, .pointer (some ⟨b1, 0, none⟩)), (107, .bool (p0.Op == 14))] hF (by kernel_rfl) fun fr hF => ⟨rfl, rfl, hF.eqs (by first | (simp only [hb]; done) | (simp only [hb]; rfl))⟩
      refine (wp_if hF (b := ((p0.Op == 12) || (p0.Op == 14))) rfl (fun hb => ?_) (fun hb => ?_))
      · replace h := iteT hb h
        refine wp_seq (region_b [] [true, false, true, true, true, false, true, true, true, true, false, true, true, true]
            [.eq (.pointer (some ⟨b1, 1, none⟩)), .eq (.int .i64 p0.A), .eq (.bool (p0.A == 0)), .eq (.bool (p0.A == 0)), .eq (.pointer (some ⟨b1, 2, none⟩)), .eq (.int .i64 p0.B), .eq (.bool (p0.B == 0)), .eq (.bool ((p0.A == 0) && (p0.B == 0))), .eq (.bool ((p0.A == 0) && (p0.B == 0))), .eq (.pointer (some ⟨b1, 3, none⟩)), .eq (.int .i64 p0.C), .eq (.bool (p0.C == 0)), .eq (.bool (((p0.A == 0) && (p0.B == 0)) && (p0.C == 0))), .eq (.bool (((p0.A == 0) && (p0.B == 0)) && (p0.C == 0)))]
            [(6, .bool (((p0.A == 0) && (p0.B == 0)) && (p0.C == 0)))] mix hF (by kernel_rfl) (by kernel_rfl) (by kernel_rfl) ⟨Pd.mono_eq, Pd.mono_eq, Pd.mono_eq, trivial⟩ (fun hG => ⟨np_loadBox hG hF ty3 rfl rfl (hs.bx 0 rfl) rfl rfl rfl, np_loadBox hG hF ty3 rfl rfl (hs.bx 0 rfl) rfl rfl rfl, np_loadBox hG hF ty3 rfl rfl (hs.bx 0 rfl) rfl rfl rfl, trivial⟩) (by kernel_rfl) fun fr w13 hF hE hc => then_normal ?_)
        have hs := hs.ext hc
        have hM0 := hM0.ext hc
        have hs : Sep [] w13 S1 := Sep.pick [] hs (by decide) rfl
        obtain rfl := Option.some.inj h
        exact wp_ret (blk_ret (then_ret (ret1 rfl hF rfl ⟨_, rfl, rfl, hM0.chg⟩)))
      replace h := iteF hb h
      have hs : Sep [] w2 S1 := Sep.pick [] hs (by decide) rfl
      refine (wp_skip ?_)
      refine blk_normal (then_normal ?_)
      refine wp_seq (wp_pure [(6, .bool false)] hF (by kernel_rfl) fun fr hF => then_normal ?_)
      obtain rfl := Option.some.inj h
      exact wp_ret (ret1 rfl hF rfl ⟨_, rfl, rfl, hM0.chg⟩)
    replace h := iteF hb h
    refine wp_seq (wp_pure [(3, .pointer (some ⟨b1, 0, none⟩)), (7, .bool x1), (13, .int .i64 p0.Op), (62, .bool (p0.Op == 6))] hF (by kernel_rfl) fun fr hF => then_normal ?_)
    refine (wp_merge [(3, .pointer (some ⟨b1, 0, none⟩)), (7, .bool x1), (13, .int .i64 p0.Op), (62, .bool ((p0.Op == 6) || (p0.Op == 13)))] hF (b := (p0.Op == 6)) rfl (fun hb => ?_) (fun hb => ?_) fun fr hF => then_normal ?_)
    · exact wp_skip ⟨rfl, rfl, (hF.sub [(3, .pointer (some ⟨b1, 0, none⟩)), (7, .bool x1), (13, .int .i64 p0.Op), (62, .bool (p0.Op == 6))] (by kernel_rfl)).eqs (by first | (simp only [hb]; done) | (simp only [hb]; rfl))⟩
    · exact wp_pure [(3, .pointer (some ⟨b1, 0, none⟩)), (7, .bool x1), (13, .int .i64 p0.Op), (62, .bool (p0.Op == 13))] hF (by kernel_rfl) fun fr hF => ⟨rfl, rfl, hF.eqs (by first | (simp only [hb]; done) | (simp only [hb]; rfl))⟩
    refine (wp_if hF (b := ((p0.Op == 6) || (p0.Op == 13))) rfl (fun hb => ?_) (fun hb => ?_))
    · replace h := iteT hb h
      obtain ⟨x13, hx13, h⟩ := bindE h
      refine wp_seq (region_b [] [true, false, false, true, true, false, true, true, true, true, false, true, true, true]
          [.eq (.pointer (some ⟨b1, 1, none⟩)), .eq (.int .i64 p0.A), .eq (.bool x13), .eq (.bool x13), .eq (.pointer (some ⟨b1, 2, none⟩)), .eq (.int .i64 p0.B), .eq (.bool (p0.B == 0)), .eq (.bool (x13 && (p0.B == 0))), .eq (.bool (x13 && (p0.B == 0))), .eq (.pointer (some ⟨b1, 3, none⟩)), .eq (.int .i64 p0.C), .eq (.bool (p0.C == 0)), .eq (.bool ((x13 && (p0.B == 0)) && (p0.C == 0))), .eq (.bool ((x13 && (p0.B == 0)) && (p0.C == 0)))]
          [(6, .bool ((x13 && (p0.B == 0)) && (p0.C == 0)))] mix hF (by kernel_rfl) (by kernel_rfl) (by kernel_rfl) ⟨Pd.mono_eq, Pd.mono_eq, Pd.mono_eq, Pd.mono_eq, trivial⟩ (fun hG => ⟨np_loadBox hG hF ty3 rfl rfl (hs.bx 0 rfl) rfl rfl rfl, np_call [.int .i64 p0.A] hG hF Try.call75 rfl rfl (fun w hC hg => (spec_l05Reg_ok p0.A hx13).mono fun e w' ⟨v, he, hv, hc⟩ => ⟨v, he, hc, hv⟩), np_loadBox hG hF ty3 rfl rfl (hs.bx 0 rfl) rfl rfl rfl, np_loadBox hG hF ty3 rfl rfl (hs.bx 0 rfl) rfl rfl rfl, trivial⟩) (by kernel_rfl) fun fr w14 hF hE hc => then_normal ?_)
      have hs := hs.ext hc
      have hM0 := hM0.ext hc
      have hs : Sep [] w14 S1 := Sep.pick [] hs (by decide) rfl
      obtain rfl := Option.some.inj h
      exact wp_ret (blk_ret (then_ret (ret1 rfl hF rfl ⟨_, rfl, rfl, hM0.chg⟩)))
    replace h := iteF hb h
    refine wp_seq ?_
    refine wp_seq (wp_pure [(3, .pointer (some ⟨b1, 0, none⟩)), (7, .bool x1), (13, .int .i64 p0.Op), (80, .bool (p0.Op == 9))] hF (by kernel_rfl) fun fr hF => then_normal ?_)
    refine (wp_merge [(3, .pointer (some ⟨b1, 0, none⟩)), (7, .bool x1), (13, .int .i64 p0.Op), (80, .bool ((p0.Op == 9) || (p0.Op == 11)))] hF (b := (p0.Op == 9)) rfl (fun hb => ?_) (fun hb => ?_) fun fr hF => then_normal ?_)
    · exact wp_skip ⟨rfl, rfl, (hF.sub [(3, .pointer (some ⟨b1, 0, none⟩)), (7, .bool x1), (13, .int .i64 p0.Op), (80, .bool (p0.Op == 9))] (by kernel_rfl)).eqs (by first | (simp only [hb]; done) | (simp only [hb]; rfl))⟩
    · exact wp_pure [(3, .pointer (some ⟨b1, 0, none⟩)), (7, .bool x1), (13, .int .i64 p0.Op), (80, .bool (p0.Op == 11))] hF (by kernel_rfl) fun fr hF => ⟨rfl, rfl, hF.eqs (by first | (simp only [hb]; done) | (simp only [hb]; rfl))⟩
    refine (wp_if hF (b := ((p0.Op == 9) || (p0.Op == 11))) rfl (fun hb => ?_) (fun hb => ?_))
    · replace h := iteT hb h
      refine wp_seq (region_b [] [true, false, true, true, true, true, true, true, false, true, true, true]
          [.eq (.pointer (some ⟨b1, 1, none⟩)), .eq (.int .i64 p0.A), .eq (.bool (p0.A == 0)), .eq (.bool (p0.A == 0)), .eq (.bool x1), .eq (.bool ((p0.A == 0) && x1)), .eq (.bool ((p0.A == 0) && x1)), .eq (.pointer (some ⟨b1, 3, none⟩)), .eq (.int .i64 p0.C), .eq (.bool (p0.C == 0)), .eq (.bool (((p0.A == 0) && x1) && (p0.C == 0))), .eq (.bool (((p0.A == 0) && x1) && (p0.C == 0)))]
          [(6, .bool (((p0.A == 0) && x1) && (p0.C == 0)))] mix hF (by kernel_rfl) (by kernel_rfl) (by kernel_rfl) ⟨Pd.mono_eq, Pd.mono_eq, trivial⟩ (fun hG => ⟨np_loadBox hG hF ty3 rfl rfl (hs.bx 0 rfl) rfl rfl rfl, np_loadBox hG hF ty3 rfl rfl (hs.bx 0 rfl) rfl rfl rfl, trivial⟩) (by kernel_rfl) fun fr w15 hF hE hc => then_normal ?_)
      have hs := hs.ext hc
      have hM0 := hM0.ext hc
      have hs : Sep [] w15 S1 := Sep.pick [] hs (by decide) rfl
      obtain rfl := Option.some.inj h
      exact wp_ret (blk_ret (then_ret (ret1 rfl hF rfl ⟨_, rfl, rfl, hM0.chg⟩)))
    replace h := iteF hb h
    refine wp_seq (wp_pure [(3, .pointer (some ⟨b1, 0, none⟩)), (7, .bool x1), (13, .int .i64 p0.Op), (94, .bool (p0.Op == 10))] hF (by kernel_rfl) fun fr hF => then_normal ?_)
    refine (wp_if hF (b := (p0.Op == 10)) rfl (fun hb => ?_) (fun hb => ?_))
    · replace h := iteT hb h
      obtain ⟨x14, hx14, h⟩ := bindE h
      refine wp_seq (region_b [] [true, false, false, true, true, true, true, true, false, true, true, true]
          [.eq (.pointer (some ⟨b1, 1, none⟩)), .eq (.int .i64 p0.A), .eq (.bool x14), .eq (.bool x14), .eq (.bool x1), .eq (.bool (x14 && x1)), .eq (.bool (x14 && x1)), .eq (.pointer (some ⟨b1, 3, none⟩)), .eq (.int .i64 p0.C), .eq (.bool (p0.C == 0)), .eq (.bool ((x14 && x1) && (p0.C == 0))), .eq (.bool ((x14 && x1) && (p0.C == 0)))]
          [(6, .bool ((x14 && x1) && (p0.C == 0)))] mix hF (by kernel_rfl) (by kernel_rfl) (by kernel_rfl) ⟨Pd.mono_eq, Pd.mono_eq, Pd.mono_eq, trivial⟩ (fun hG => ⟨np_loadBox hG hF ty3 rfl rfl (hs.bx 0 rfl) rfl rfl rfl, np_call [.int .i64 p0.A] hG hF Try.call75 rfl rfl (fun w hC hg => (spec_l05Reg_ok p0.A hx14).mono fun e w' ⟨v, he, hv, hc⟩ => ⟨v, he, hc, hv⟩), np_loadBox hG hF ty3 rfl rfl (hs.bx 0 rfl) rfl rfl rfl, trivial⟩) (by kernel_rfl) fun fr w16 hF hE hc => then_normal ?_)
      have hs := hs.ext hc
      have hM0 := hM0.ext hc
      have hs : Sep [] w16 S1 := Sep.pick [] hs (by decide) rfl
      obtain rfl := Option.some.inj h
      exact wp_ret (blk_ret (then_ret (ret1 rfl hF rfl ⟨_, rfl, rfl, hM0.chg⟩)))
    replace h := iteF hb h
    refine wp_seq ?_
    refine wp_seq (wp_pure [(3, .pointer (some ⟨b1, 0, none⟩)), (13, .int .i64 p0.Op), (107, .bool (p0.Op == 12))] hF (by kernel_rfl) fun fr hF => then_normal ?_)
    refine (wp_merge [(3, .pointer (some ⟨b1, 0, none⟩)), (107, .bool ((p0.Op == 12) || (p0.Op == 14)))] hF (b := (p0.Op == 12)) rfl (fun hb => ?_) (fun hb => ?_) fun fr hF => then_normal ?_)
    · exact wp_skip ⟨rfl, rfl, (hF.sub [(3, .pointer (some ⟨b1, 0, none⟩)), (107, .bool (p0.Op == 12))] (by kernel_rfl)).eqs (by first | (simp only [hb]; done) | (simp only [hb]; rfl))⟩
    · exact wp_pure [(3, .pointer (some ⟨b1, 0, none⟩)), (107, .bool (p0.Op == 14))] hF (by kernel_rfl) fun fr hF => ⟨rfl, rfl, hF.eqs (by first | (simp only [hb]; done) | (simp only [hb]; rfl))⟩
    refine (wp_if hF (b := ((p0.Op == 12) || (p0.Op == 14))) rfl (fun hb => ?_) (fun hb => ?_))
    · replace h := iteT hb h
      refine wp_seq (region_b [] [true, false, true, true, true, false, true, true, true, true, false, true, true, true]
          [.eq (.pointer (some ⟨b1, 1, none⟩)), .eq (.int .i64 p0.A), .eq (.bool (p0.A == 0)), .eq (.bool (p0.A == 0)), .eq (.pointer (some ⟨b1, 2, none⟩)), .eq (.int .i64 p0.B), .eq (.bool (p0.B == 0)), .eq (.bool ((p0.A == 0) && (p0.B == 0))), .eq (.bool ((p0.A == 0) && (p0.B == 0))), .eq (.pointer (some ⟨b1, 3, none⟩)), .eq (.int .i64 p0.C), .eq (.bool (p0.C == 0)), .eq (.bool (((p0.A == 0) && (p0.B == 0)) && (p0.C == 0))), .eq (.bool (((p0.A == 0) && (p0.B == 0)) && (p0.C == 0)))]
          [(6, .bool (((p0.A == 0) && (p0.B == 0)) && (p0.C == 0)))] mix hF (by kernel_rfl) (by kernel_rfl) (by kernel_rfl) ⟨Pd.mono_eq, Pd.mono_eq, Pd.mono_eq, trivial⟩ (fun hG => ⟨np_loadBox hG hF ty3 rfl rfl (hs.bx 0 rfl) rfl rfl rfl, np_loadBox hG hF ty3 rfl rfl (hs.bx 0 rfl) rfl rfl rfl, np_loadBox hG hF ty3 rfl rfl (hs.bx 0 rfl) rfl rfl rfl, trivial⟩) (by kernel_rfl) fun fr w17 hF hE hc => then_normal ?_)
      have hs := hs.ext hc
      have hM0 := hM0.ext hc
      have hs : Sep [] w17 S1 := Sep.pick [] hs (by decide) rfl
      obtain rfl := Option.some.inj h
      exact wp_ret (blk_ret (then_ret (ret1 rfl hF rfl ⟨_, rfl, rfl, hM0.chg⟩)))
    replace h := iteF hb h
    have hs : Sep [] w2 S1 := Sep.pick [] hs (by decide) rfl
    refine (wp_skip ?_)
    refine blk_normal (then_normal ?_)
    refine wp_seq (wp_pure [(6, .bool false)] hF (by kernel_rfl) fun fr hF => then_normal ?_)
    obtain rfl := Option.some.inj h
    exact wp_ret (ret1 rfl hF rfl ⟨_, rfl, rfl, hM0.chg⟩)
  replace h := iteF hb h
  refine wp_seq (wp_pure [(3, .pointer (some ⟨b1, 0, none⟩)), (7, .bool x1), (13, .int .i64 p0.Op), (30, .bool (p0.Op == 7))] hF (by kernel_rfl) fun fr hF => then_normal ?_)
  refine (wp_merge [(3, .pointer (some ⟨b1, 0, none⟩)), (7, .bool x1), (13, .int .i64 p0.Op), (30, .bool ((p0.Op == 7) || (p0.Op == 8)))] hF (b := (p0.Op == 7)) rfl (fun hb => ?_) (fun hb => ?_) fun fr hF => then_normal ?_)
  · exact wp_skip ⟨rfl, rfl, (hF.sub [(3, .pointer (some ⟨b1, 0, none⟩)), (7, .bool x1), (13, .int .i64 p0.Op), (30, .bool (p0.Op == 7))] (by kernel_rfl)).eqs (by first | (simp only [hb]; done) | (simp only [hb]; rfl))⟩
  · exact wp_pure [(3, .pointer (some ⟨b1, 0, none⟩)), (7, .bool x1), (13, .int .i64 p0.Op), (30, .bool (p0.Op == 8))] hF (by kernel_rfl) fun fr hF => ⟨rfl, rfl, hF.eqs (by first | (simp only [hb]; done) | (simp only [hb]; rfl))⟩
  refine (wp_if hF (b := ((p0.Op == 7) || (p0.Op == 8))) rfl (fun hb => ?_) (fun hb => ?_))
  · replace h := iteT hb h
    obtain ⟨x15, hx15, h⟩ := bindE h
    obtain ⟨x16, hx16, h⟩ := bindE h
    refine wp_seq (region_b [] [true, false, false, true, true, false, false, true, true, true, false, true, true, true]
        [.eq (.pointer (some ⟨b1, 1, none⟩)), .eq (.int .i64 p0.A), .eq (.bool x15), .eq (.bool x15), .eq (.pointer (some ⟨b1, 2, none⟩)), .eq (.int .i64 p0.B), .eq (.bool x16), .eq (.bool (x15 && x16)), .eq (.bool (x15 && x16)), .eq (.pointer (some ⟨b1, 3, none⟩)), .eq (.int .i64 p0.C), .eq (.bool (p0.C == 0)), .eq (.bool ((x15 && x16) && (p0.C == 0))), .eq (.bool ((x15 && x16) && (p0.C == 0)))]
        [(6, .bool ((x15 && x16) && (p0.C == 0)))] mix hF (by kernel_rfl) (by kernel_rfl) (by kernel_rfl) ⟨Pd.mono_eq, Pd.mono_eq, Pd.mono_eq, Pd.mono_eq, Pd.mono_eq, trivial⟩ (fun hG => ⟨np_loadBox hG hF ty3 rfl rfl (hs.bx 0 rfl) rfl rfl rfl, np_call [.int .i64 p0.A] hG hF Try.call75 rfl rfl (fun w hC hg => (spec_l05Reg_ok p0.A hx15).mono fun e w' ⟨v, he, hv, hc⟩ => ⟨v, he, hc, hv⟩), np_loadBox hG hF ty3 rfl rfl (hs.bx 0 rfl) rfl rfl rfl, np_call [.int .i64 p0.B] hG hF Try.call75 rfl rfl (fun w hC hg => (spec_l05Reg_ok p0.B (iteT hg.2 hx16)).mono fun e w' ⟨v, he, hv, hc⟩ => ⟨v, he, hc, hv⟩), np_loadBox hG hF ty3 rfl rfl (hs.bx 0 rfl) rfl rfl rfl, trivial⟩) (by kernel_rfl) fun fr w18 hF hE hc => then_normal ?_)
    have hs := hs.ext hc
    have hM0 := hM0.ext hc
    have hs : Sep [] w18 S1 := Sep.pick [] hs (by decide) rfl
    obtain rfl := Option.some.inj h
    exact wp_ret (blk_ret (then_ret (ret1 rfl hF rfl ⟨_, rfl, rfl, hM0.chg⟩)))
  replace h := iteF hb h
  refine wp_seq (wp_pure [(3, .pointer (some ⟨b1, 0, none⟩)), (7, .bool x1), (13, .int .i64 p0.Op), (47, .bool (p0.Op == 3))] hF (by kernel_rfl) fun fr hF => then_normal ?_)
  refine (wp_if hF (b := (p0.Op == 3)) rfl (fun hb => ?_) (fun hb => ?_))
  · replace h := iteT hb h
    obtain ⟨x17, hx17, h⟩ := bindE h
    obtain ⟨x18, hx18, h⟩ := bindE h
    obtain ⟨x19, hx19, h⟩ := bindE h
    refine wp_seq (region_b [] [true, false, false, true, true, false, false, true, true, true, false, false, true, true]
        [.eq (.pointer (some ⟨b1, 1, none⟩)), .eq (.int .i64 p0.A), .eq (.bool x17), .eq (.bool x17), .eq (.pointer (some ⟨b1, 2, none⟩)), .eq (.int .i64 p0.B), .eq (.bool x18), .eq (.bool (x17 && x18)), .eq (.bool (x17 && x18)), .eq (.pointer (some ⟨b1, 3, none⟩)), .eq (.int .i64 p0.C), .eq (.bool x19), .eq (.bool ((x17 && x18) && x19)), .eq (.bool ((x17 && x18) && x19))]
        [(6, .bool ((x17 && x18) && x19))] mix hF (by kernel_rfl) (by kernel_rfl) (by kernel_rfl) ⟨Pd.mono_eq, Pd.mono_eq, Pd.mono_eq, Pd.mono_eq, Pd.mono_eq, Pd.mono_eq, trivial⟩ (fun hG => ⟨np_loadBox hG hF ty3 rfl rfl (hs.bx 0 rfl) rfl rfl rfl, np_call [.int .i64 p0.A] hG hF Try.call75 rfl rfl (fun w hC hg => (spec_l05Reg_ok p0.A hx17).mono fun e w' ⟨v, he, hv, hc⟩ => ⟨v, he, hc, hv⟩), np_loadBox hG hF ty3 rfl rfl (hs.bx 0 rfl) rfl rfl rfl, np_call [.int .i64 p0.B] hG hF Try.call75 rfl rfl (fun w hC hg => (spec_l05Reg_ok p0.B (iteT hg.2 hx18)).mono fun e w' ⟨v, he, hv, hc⟩ => ⟨v, he, hc, hv⟩), np_loadBox hG hF ty3 rfl rfl (hs.bx 0 rfl) rfl rfl rfl, np_call [.int .i64 p0.C, .int .i64 3, .int .i64 16] hG hF Try.call52 rfl rfl (fun w hC hg => (spec_l01In_ok p0.C 3 16 (iteT hg.2 hx19)).mono fun e w' ⟨v, he, hv, hc⟩ => ⟨v, he, hc, hv⟩), trivial⟩) (by kernel_rfl) fun fr w19 hF hE hc => then_normal ?_)
    have hs := hs.ext hc
    have hM0 := hM0.ext hc
    have hs : Sep [] w19 S1 := Sep.pick [] hs (by decide) rfl
    obtain rfl := Option.some.inj h
    exact wp_ret (blk_ret (then_ret (ret1 rfl hF rfl ⟨_, rfl, rfl, hM0.chg⟩)))
  replace h := iteF hb h
  refine wp_seq ?_
  refine wp_seq (wp_pure [(3, .pointer (some ⟨b1, 0, none⟩)), (7, .bool x1), (13, .int .i64 p0.Op), (62, .bool (p0.Op == 4))] hF (by kernel_rfl) fun fr hF => then_normal ?_)
  refine (wp_if hF (b := (p0.Op == 4)) rfl (fun hb => ?_) (fun hb => ?_))
  · replace h := iteT hb h
    refine (wp_skip (then_normal ?_))
    refine (wp_if hF (b := (p0.Op == 4)) rfl (fun hb => ?_) (fun hb => ?_))
    · replace h := iteT hb h
      obtain ⟨x20, hx20, h⟩ := bindE h
      refine wp_seq (region_b [] [true, false, false, true, true, false, true, true, true, true, false, true, true, true]
          [.eq (.pointer (some ⟨b1, 1, none⟩)), .eq (.int .i64 p0.A), .eq (.bool x20), .eq (.bool x20), .eq (.pointer (some ⟨b1, 2, none⟩)), .eq (.int .i64 p0.B), .eq (.bool (p0.B == 0)), .eq (.bool (x20 && (p0.B == 0))), .eq (.bool (x20 && (p0.B == 0))), .eq (.pointer (some ⟨b1, 3, none⟩)), .eq (.int .i64 p0.C), .eq (.bool (p0.C == 0)), .eq (.bool ((x20 && (p0.B == 0)) && (p0.C == 0))), .eq (.bool ((x20 && (p0.B == 0)) && (p0.C == 0)))]
          [(6, .bool ((x20 && (p0.B == 0)) && (p0.C == 0)))] mix hF (by kernel_rfl) (by kernel_rfl) (by kernel_rfl) ⟨Pd.mono_eq, Pd.mono_eq, Pd.mono_eq, Pd.mono_eq, trivial⟩ (fun hG => ⟨np_loadBox hG hF ty3 rfl rfl (hs.bx 0 rfl) rfl rfl rfl, np_call [.int .i64 p0.A] hG hF Try.call75 rfl rfl (fun w hC hg => (spec_l05Reg_ok p0.A hx20).mono fun e w' ⟨v, he, hv, hc⟩ => ⟨v, he, hc, hv⟩), np_loadBox hG hF ty3 rfl rfl (hs.bx 0 rfl) rfl rfl rfl, np_loadBox hG hF ty3 rfl rfl (hs.bx 0 rfl) rfl rfl rfl, trivial⟩) (by kernel_rfl) fun fr w20 hF hE hc => then_normal ?_)
      have hs := hs.ext hc
      have hM0 := hM0.ext hc
      have hs : Sep [] w20 S1 := Sep.pick [] hs (by decide) rfl
      obtain rfl := Option.some.inj h
      exact wp_ret (blk_ret (then_ret (ret1 rfl hF rfl ⟨_, rfl, rfl, hM0.chg⟩)))
    replace h := iteF hb h
    refine wp_seq ?_
    refine wp_seq (wp_pure [(3, .pointer (some ⟨b1, 0, none⟩)), (7, .bool x1), (13, .int .i64 p0.Op), (80, .bool (p0.Op == 9))] hF (by kernel_rfl) fun fr hF => then_normal ?_)
    refine (wp_merge [(3, .pointer (some ⟨b1, 0, none⟩)), (7, .bool x1), (13, .int .i64 p0.Op), (80, .bool ((p0.Op == 9) || (p0.Op == 11)))] hF (b := (p0.Op == 9)) rfl (fun hb => ?_) (fun hb => ?_) fun fr hF => then_normal ?_)
    · exact wp_skip ⟨rfl, rfl, (hF.sub [(3, .pointer (some ⟨b1, 0, none⟩)), (7, .bool x1), (13, .int .i64 p0.Op), (80, .bool (p0.Op == 9))] (by kernel_rfl)).eqs (by first | (simp only [hb]; done) | (simp only [hb]; rfl))⟩
    · exact wp_pure [(3, .pointer (some ⟨b1, 0, none⟩)), (7, .bool x1), (13, .int .i64 p0.Op), (80, .bool (p0.Op == 11))] hF (by kernel_rfl) fun fr hF => ⟨rfl, rfl, hF.eqs (by first | (simp only [hb]; done) | (simp only [hb]; rfl))⟩
    refine (wp_if hF (b := ((p0.Op == 9) || (p0.Op == 11))) rfl (fun hb => ?_) (fun hb => ?_))
    · replace h := iteT hb h
      refine wp_seq (region_b [] [true, false, true, true, true, true, true, true, false, true, true, true]
          [.eq (.pointer (some ⟨b1, 1, none⟩)), .eq (.int .i64 p0.A), .eq (.bool (p0.A == 0)), .eq (.bool (p0.A == 0)), .eq (.bool x1), .eq (.bool ((p0.A == 0) && x1)), .eq (.bool ((p0.A == 0) && x1)), .eq (.pointer (some ⟨b1, 3, none⟩)), .eq (.int .i64 p0.C), .eq (.bool (p0.C == 0)), .eq (.bool (((p0.A == 0) && x1) && (p0.C == 0))), .eq (.bool (((p0.A == 0) && x1) && (p0.C == 0)))]
          [(6, .bool (((p0.A == 0) && x1) && (p0.C == 0)))] mix hF (by kernel_rfl) (by kernel_rfl) (by kernel_rfl) ⟨Pd.mono_eq, Pd.mono_eq, trivial⟩ (fun hG => ⟨np_loadBox hG hF ty3 rfl rfl (hs.bx 0 rfl) rfl rfl rfl, np_loadBox hG hF ty3 rfl rfl (hs.bx 0 rfl) rfl rfl rfl, trivial⟩) (by kernel_rfl) fun fr w21 hF hE hc => then_normal ?_)
      have hs := hs.ext hc
      have hM0 := hM0.ext hc
      have hs : Sep [] w21 S1 := Sep.pick [] hs (by decide) rfl
      obtain rfl := Option.some.inj h
      exact wp_ret (blk_ret (then_ret (ret1 rfl hF rfl ⟨_, rfl, rfl, hM0.chg⟩)))
    replace h := iteF hb h
    refine wp_seq (wp_pure [(3, .pointer (some ⟨b1, 0, none⟩)), (7, .bool x1), (13, .int .i64 p0.Op), (94, .bool (p0.Op == 10))] hF (by kernel_rfl) fun fr hF => then_normal ?_)
    refine (wp_if hF (b := (p0.Op == 10)) rfl (fun hb => ?_) (fun hb => ?_))
    · replace h := iteT hb h
      obtain ⟨x21, hx21, h⟩ := bindE h
      refine wp_seq (region_b [] [true, false, false, true, true, true, true, true, false, true, true, true]
          [.eq (.pointer (some ⟨b1, 1, none⟩)), .eq (.int .i64 p0.A), .eq (.bool x21), .eq (.bool x21), .eq (.bool x1), .eq (.bool (x21 && x1)), .eq (.bool (x21 && x1)), .eq (.pointer (some ⟨b1, 3, none⟩)), .eq (.int .i64 p0.C), .eq (.bool (p0.C == 0)), .eq (.bool ((x21 && x1) && (p0.C == 0))), .eq (.bool ((x21 && x1) && (p0.C == 0)))]
          [(6, .bool ((x21 && x1) && (p0.C == 0)))] mix hF (by kernel_rfl) (by kernel_rfl) (by kernel_rfl) ⟨Pd.mono_eq, Pd.mono_eq, Pd.mono_eq, trivial⟩ (fun hG => ⟨np_loadBox hG hF ty3 rfl rfl (hs.bx 0 rfl) rfl rfl rfl, np_call [.int .i64 p0.A] hG hF Try.call75 rfl rfl (fun w hC hg => (spec_l05Reg_ok p0.A hx21).mono fun e w' ⟨v, he, hv, hc⟩ => ⟨v, he, hc, hv⟩), np_loadBox hG hF ty3 rfl rfl (hs.bx 0 rfl) rfl rfl rfl, trivial⟩) (by kernel_rfl) fun fr w22 hF hE hc => then_normal ?_)
      have hs := hs.ext hc
      have hM0 := hM0.ext hc
      have hs : Sep [] w22 S1 := Sep.pick [] hs (by decide) rfl
      obtain rfl := Option.some.inj h
      exact wp_ret (blk_ret (then_ret (ret1 rfl hF rfl ⟨_, rfl, rfl, hM0.chg⟩)))
    replace h := iteF hb h
    refine wp_seq ?_
    refine wp_seq (wp_pure [(3, .pointer (some ⟨b1, 0, none⟩)), (13, .int .i64 p0.Op), (107, .bool (p0.Op == 12))] hF (by kernel_rfl) fun fr hF => then_normal ?_)
    refine (wp_merge [(3, .pointer (some ⟨b1, 0, none⟩)), (107, .bool ((p0.Op == 12) || (p0.Op == 14)))] hF (b := (p0.Op == 12)) rfl (fun hb => ?_) (fun hb => ?_) fun fr hF => then_normal ?_)
    · exact wp_skip ⟨rfl, rfl, (hF.sub [(3, .pointer (some ⟨b1, 0, none⟩)), (107, .bool (p0.Op == 12))] (by kernel_rfl)).eqs (by first | (simp only [hb]; done) | (simp only [hb]; rfl))⟩
    · exact wp_pure [(3, .pointer (some ⟨b1, 0, none⟩)), (107, .bool (p0.Op == 14))] hF (by kernel_rfl) fun fr hF => ⟨rfl, rfl, hF.eqs (by first | (simp only [hb]; done) | (simp only [hb]; rfl))⟩
    refine (wp_if hF (b := ((p0.Op == 12) || (p0.Op == 14))) rfl (fun hb => ?_) (fun hb => ?_))
    · replace h := iteT hb h
      refine wp_seq (region_b [] [true, false, true, true, true, false, true, true, true, true, false, true, true, true]
          [.eq (.pointer (some ⟨b1, 1, none⟩)), .eq (.int .i64 p0.A), .eq (.bool (p0.A == 0)), .eq (.bool (p0.A == 0)), .eq (.pointer (some ⟨b1, 2, none⟩)), .eq (.int .i64 p0.B), .eq (.bool (p0.B == 0)), .eq (.bool ((p0.A == 0) && (p0.B == 0))), .eq (.bool ((p0.A == 0) && (p0.B == 0))), .eq (.pointer (some ⟨b1, 3, none⟩)), .eq (.int .i64 p0.C), .eq (.bool (p0.C == 0)), .eq (.bool (((p0.A == 0) && (p0.B == 0)) && (p0.C == 0))), .eq (.bool (((p0.A == 0) && (p0.B == 0)) && (p0.C == 0)))]
          [(6, .bool (((p0.A == 0) && (p0.B == 0)) && (p0.C == 0)))] mix hF (by kernel_rfl) (by kernel_rfl) (by kernel_rfl) ⟨Pd.mono_eq, Pd.mono_eq, Pd.mono_eq, trivial⟩ (fun hG => ⟨np_loadBox hG hF ty3 rfl rfl (hs.bx 0 rfl) rfl rfl rfl, np_loadBox hG hF ty3 rfl rfl (hs.bx 0 rfl) rfl rfl rfl, np_loadBox hG hF ty3 rfl rfl (hs.bx 0 rfl) rfl rfl rfl, trivial⟩) (by kernel_rfl) fun fr w23 hF hE hc => then_normal ?_)
      have hs := hs.ext hc
      have hM0 := hM0.ext hc
      have hs : Sep [] w23 S1 := Sep.pick [] hs (by decide) rfl
      obtain rfl := Option.some.inj h
      exact wp_ret (blk_ret (then_ret (ret1 rfl hF rfl ⟨_, rfl, rfl, hM0.chg⟩)))
    replace h := iteF hb h
    have hs : Sep [] w2 S1 := Sep.pick [] hs (by decide) rfl
    refine (wp_skip ?_)
    refine blk_normal (then_normal ?_)
    refine wp_seq (wp_pure [(6, .bool false)] hF (by kernel_rfl) fun fr hF => then_normal ?_)
    obtain rfl := Option.some.inj h
    exact wp_ret (ret1 rfl hF rfl ⟨_, rfl, rfl, hM0.chg⟩)
  replace h := iteF hb h
  refine wp_seq (wp_pure [(3, .pointer (some ⟨b1, 0, none⟩)), (7, .bool x1), (13, .int .i64 p0.Op), (62, .bool (p0.Op == 5))] hF (by kernel_rfl) fun fr hF => then_normal ?_)
  refine (wp_if hF (b := (p0.Op == 5)) rfl (fun hb => ?_) (fun hb => ?_))
  · replace h := iteT hb h
    refine (wp_skip (then_normal ?_))
    refine (wp_if hF (b := (p0.Op == 5)) rfl (fun hb => ?_) (fun hb => ?_))
    · replace h := iteT hb h
      obtain ⟨x22, hx22, h⟩ := bindE h
      refine wp_seq (region_b [] [true, false, false, true, true, false, true, true, true, true, false, true, true, true]
          [.eq (.pointer (some ⟨b1, 1, none⟩)), .eq (.int .i64 p0.A), .eq (.bool x22), .eq (.bool x22), .eq (.pointer (some ⟨b1, 2, none⟩)), .eq (.int .i64 p0.B), .eq (.bool (p0.B == 0)), .eq (.bool (x22 && (p0.B == 0))), .eq (.bool (x22 && (p0.B == 0))), .eq (.pointer (some ⟨b1, 3, none⟩)), .eq (.int .i64 p0.C), .eq (.bool (p0.C == 0)), .eq (.bool ((x22 && (p0.B == 0)) && (p0.C == 0))), .eq (.bool ((x22 && (p0.B == 0)) && (p0.C == 0)))]
          [(6, .bool ((x22 && (p0.B == 0)) && (p0.C == 0)))] mix hF (by kernel_rfl) (by kernel_rfl) (by kernel_rfl) ⟨Pd.mono_eq, Pd.mono_eq, Pd.mono_eq, Pd.mono_eq, trivial⟩ (fun hG => ⟨np_loadBox hG hF ty3 rfl rfl (hs.bx 0 rfl) rfl rfl rfl, np_call [.int .i64 p0.A] hG hF Try.call75 rfl rfl (fun w hC hg => (spec_l05Reg_ok p0.A hx22).mono fun e w' ⟨v, he, hv, hc⟩ => ⟨v, he, hc, hv⟩), np_loadBox hG hF ty3 rfl rfl (hs.bx 0 rfl) rfl rfl rfl, np_loadBox hG hF ty3 rfl rfl (hs.bx 0 rfl) rfl rfl rfl, trivial⟩) (by kernel_rfl) fun fr w24 hF hE hc => then_normal ?_)
      have hs := hs.ext hc
      have hM0 := hM0.ext hc
      have hs : Sep [] w24 S1 := Sep.pick [] hs (by decide) rfl
      obtain rfl := Option.some.inj h
      exact wp_ret (blk_ret (then_ret (ret1 rfl hF rfl ⟨_, rfl, rfl, hM0.chg⟩)))
    replace h := iteF hb h
    refine wp_seq ?_
    refine wp_seq (wp_pure [(3, .pointer (some ⟨b1, 0, none⟩)), (7, .bool x1), (13, .int .i64 p0.Op), (80, .bool (p0.Op == 9))] hF (by kernel_rfl) fun fr hF => then_normal ?_)
    refine (wp_merge [(3, .pointer (some ⟨b1, 0, none⟩)), (7, .bool x1), (13, .int .i64 p0.Op), (80, .bool ((p0.Op == 9) || (p0.Op == 11)))] hF (b := (p0.Op == 9)) rfl (fun hb => ?_) (fun hb => ?_) fun fr hF => then_normal ?_)
    · exact wp_skip ⟨rfl, rfl, (hF.sub [(3, .pointer (some ⟨b1, 0, none⟩)), (7, .bool x1), (13, .int .i64 p0.Op), (80, .bool (p0.Op == 9))] (by kernel_rfl)).eqs (by first | (simp only [hb]; done) | (simp only [hb]; rfl))⟩
    · exact wp_pure [(3, .pointer (some ⟨b1, 0, none⟩)), (7, .bool x1), (13, .int .i64 p0.Op), (80, .bool (p0.Op == 11))] hF (by kernel_rfl) fun fr hF => ⟨rfl, rfl, hF.eqs (by first | (simp only [hb]; done) | (simp only [hb]; rfl))⟩
    refine (wp_if hF (b := ((p0.Op == 9) || (p0.Op == 11))) rfl (fun hb => ?_) (fun hb => ?_))
    · replace h := iteT hb h
      refine wp_seq (region_b [] [true, false, true, true, true, true, true, true, false, true, true, true]
          [.eq (.pointer (some ⟨b1, 1, none⟩)), .eq (.int .i64 p0.A), .eq (.bool (p0.A == 0)), .eq (.bool (p0.A == 0)), .eq (.bool x1), .eq (.bool ((p0.A == 0) && x1)), .eq (.bool ((p0.A == 0) && x1)), .eq (.pointer (some ⟨b1, 3, none⟩)), .eq (.int .i64 p0.C), .eq (.bool (p0.C == 0)), .eq (.bool (((p0.A == 0) && x1) && (p0.C == 0))), .eq (.bool (((p0.A == 0) && x1) && (p0.C == 0)))]
          [(6, .bool (((p0.A == 0) && x1) && (p0.C == 0)))] mix hF (by kernel_rfl) (by kernel_rfl) (by kernel_rfl) ⟨Pd.mono_eq, Pd.mono_eq, trivial⟩ (fun hG => ⟨np_loadBox hG hF ty3 rfl rfl (hs.bx 0 rfl) rfl rfl rfl, np_loadBox hG hF ty3 rfl rfl (hs.bx 0 rfl) rfl rfl rfl, trivial⟩) (by kernel_rfl) fun fr w25 hF hE hc => then_normal ?_)
      have hs := hs.ext hc
      have hM0 := hM0.ext hc
      have hs : Sep [] w25 S1 := Sep.pick [] hs (by decide) rfl
      obtain rfl := Option.some.inj h
      exact wp_ret (blk_ret (then_ret (ret1 rfl hF rfl ⟨_, rfl, rfl, hM0.chg⟩)))
    replace h := iteF hb h
    refine wp_seq (wp_pure [(3, .pointer (some ⟨b1, 0, none⟩)), (7, .bool x1), (13, .int .i64 p0.Op), (94, .bool (p0.Op == 10))] hF (by kernel_rfl) fun fr hF => then_normal ?_)
    refine (wp_if hF (b := (p0.Op == 10)) rfl (fun hb => ?_) (fun hb => ?_))
    · replace h := iteT hb h
      obtain ⟨x23, hx23, h⟩ := bindE h
      refine wp_seq (region_b [] [true, false, false, true, true, true, true, true, false, true, true, true]
          [.eq (.pointer (some ⟨b1, 1, none⟩)), .eq (.int .i64 p0.A), .eq (.bool x23), .eq (.bool x23), .eq (.bool x1), .eq (.bool (x23 && x1)), .eq (.bool (x23 && x1)), .eq (.pointer (some ⟨b1, 3, none⟩)), .eq (.int .i64 p0.C), .eq (.bool (p0.C == 0)), .eq (.bool ((x23 && x1) && (p0.C == 0))), .eq (.bool ((x23 && x1) && (p0.C == 0)))]
          [(6, .bool ((x23 && x1) && (p0.C == 0)))] mix hF (by kernel_rfl) (by kernel_rfl) (by kernel_rfl) ⟨Pd.mono_eq, Pd.mono_eq, Pd.mono_eq, trivial⟩ (fun hG => ⟨np_loadBox hG hF ty3 rfl rfl (hs.bx 0 rfl) rfl rfl rfl, np_call [.int .i64 p0.A] hG hF Try.call75 rfl rfl (fun w hC hg => (spec_l05Reg_ok p0.A hx23).mono fun e w' ⟨v, he, hv, hc⟩ => ⟨v, he, hc, hv⟩), np_loadBox hG hF ty3 rfl rfl (hs.bx 0 rfl) rfl rfl rfl, trivial⟩) (by kernel_rfl) fun fr w26 hF hE hc => then_normal ?_)
      have hs := hs.ext hc
      have hM0 := hM0.ext hc
      have hs : Sep [] w26 S1 := Sep.pick [] hs (by decide) rfl
      obtain rfl := Option.some.inj h
      exact wp_ret (blk_ret (then_ret (ret1 rfl hF rfl ⟨_, rfl, rfl, hM0.chg⟩)))
    replace h := iteF hb h
    refine wp_seq ?_
    refine wp_seq (wp_pure [(3, .pointer (some ⟨b1, 0, none⟩)), (13, .int .i64 p0.Op), (107, .bool (p0.Op == 12))] hF (by kernel_rfl) fun fr hF => then_normal ?_)
    refine (wp_merge [(3, .pointer (some ⟨b1, 0, none⟩)), (107, .bool ((p0.Op == 12) || (p0.Op == 14)))] hF (b := (p0.Op == 12)) rfl (fun hb => ?_) (fun hb => ?_) fun fr hF => then_normal ?_)
    · exact wp_skip ⟨rfl, rfl, (hF.sub [(3, .pointer (some ⟨b1, 0, none⟩)), (107, .bool (p0.Op == 12))] (by kernel_rfl)).eqs (by first | (simp only [hb]; done) | (simp only [hb]; rfl))⟩
    · exact wp_pure [(3, .pointer (some ⟨b1, 0, none⟩)), (107, .bool (p0.Op == 14))] hF (by kernel_rfl) fun fr hF => ⟨rfl, rfl, hF.eqs (by first | (simp only [hb]; done) | (simp only [hb]; rfl))⟩
    refine (wp_if hF (b := ((p0.Op == 12) || (p0.Op == 14))) rfl (fun hb => ?_) (fun hb => ?_))
    · replace h := iteT hb h
      refine wp_seq (region_b [] [true, false, true, true, true, false, true, true, true, true, false, true, true, true]
          [.eq (.pointer (some ⟨b1, 1, none⟩)), .eq (.int .i64 p0.A), .eq (.bool (p0.A == 0)), .eq (.bool (p0.A == 0)), .eq (.pointer (some ⟨b1, 2, none⟩)), .eq (.int .i64 p0.B), .eq (.bool (p0.B == 0)), .eq (.bool ((p0.A == 0) && (p0.B == 0))), .eq (.bool ((p0.A == 0) && (p0.B == 0))), .eq (.pointer (some ⟨b1, 3, none⟩)), .eq (.int .i64 p0.C), .eq (.bool (p0.C == 0)), .eq (.bool (((p0.A == 0) && (p0.B == 0)) && (p0.C == 0))), .eq (.bool (((p0.A == 0) && (p0.B == 0)) && (p0.C == 0)))]
          [(6, .bool (((p0.A == 0) && (p0.B == 0)) && (p0.C == 0)))] mix hF (by kernel_rfl) (by kernel_rfl) (by kernel_rfl) ⟨Pd.mono_eq, Pd.mono_eq, Pd.mono_eq, trivial⟩ (fun hG => ⟨np_loadBox hG hF ty3 rfl rfl (hs.bx 0 rfl) rfl rfl rfl, np_loadBox hG hF ty3 rfl rfl (hs.bx 0 rfl) rfl rfl rfl, np_loadBox hG hF ty3 rfl rfl (hs.bx 0 rfl) rfl rfl rfl, trivial⟩) (by kernel_rfl) fun fr w27 hF hE hc => then_normal ?_)
      have hs := hs.ext hc
      have hM0 := hM0.ext hc
      have hs : Sep [] w27 S1 := Sep.pick [] hs (by decide) rfl
      obtain rfl := Option.some.inj h
      exact wp_ret (blk_ret (then_ret (ret1 rfl hF rfl ⟨_, rfl, rfl, hM0.chg⟩)))
    replace h := iteF hb h
    have hs : Sep [] w2 S1 := Sep.pick [] hs (by decide) rfl
    refine (wp_skip ?_)
    refine blk_normal (then_normal ?_)
    refine wp_seq (wp_pure [(6, .bool false)] hF (by kernel_rfl) fun fr hF => then_normal ?_)
    obtain rfl := Option.some.inj h
    exact wp_ret (ret1 rfl hF rfl ⟨_, rfl, rfl, hM0.chg⟩)
  replace h := iteF hb h
  refine wp_seq (wp_pure [(3, .pointer (some ⟨b1, 0, none⟩)), (7, .bool x1), (13, .int .i64 p0.Op), (62, .bool (p0.Op == 6))] hF (by kernel_rfl) fun fr hF => then_normal ?_)
  refine (wp_merge [(3, .pointer (some ⟨b1, 0, none⟩)), (7, .bool x1), (13, .int .i64 p0.Op), (62, .bool ((p0.Op == 6) || (p0.Op == 13)))] hF (b := (p0.Op == 6)) rfl (fun hb => ?_) (fun hb => ?_) fun fr hF => then_normal ?_)
  · exact wp_skip ⟨rfl, rfl, (hF.sub [(3, .pointer (some ⟨b1, 0, none⟩)), (7, .bool x1), (13, .int .i64 p0.Op), (62, .bool (p0.Op == 6))] (by kernel_rfl)).eqs (by first | (simp only [hb]; done) | (simp only [hb]; rfl))⟩
  · exact wp_pure [(3, .pointer (some ⟨b1, 0, none⟩)), (7, .bool x1), (13, .int .i64 p0.Op), (62, .bool (p0.Op == 13))] hF (by kernel_rfl) fun fr hF => ⟨rfl, rfl, hF.eqs (by first | (simp only [hb]; done) | (simp only [hb]; rfl))⟩
  refine (wp_if hF (b := ((p0.Op == 6) || (p0.Op == 13))) rfl (fun hb => ?_) (fun hb => ?_))
  · replace h := iteT hb h
    obtain ⟨x24, hx24, h⟩ := bindE h
    refine wp_seq (region_b [] [true, false, false, true, true, false, true, true, true, true, false, true, true, true]
        [.eq (.pointer (some ⟨b1, 1, none⟩)), .eq (.int .i64 p0.A), .eq (.bool x24), .eq (.bool x24), .eq (.pointer (some ⟨b1, 2, none⟩)), .eq (.int .i64 p0.B), .eq (.bool (p0.B == 0)), .eq (.bool (x24 && (p0.B == 0))), .eq (.bool (x24 && (p0.B == 0))), .eq (.pointer (some ⟨b1, 3, none⟩)), .eq (.int .i64 p0.C), .eq (.bool (p0.C == 0)), .eq (.bool ((x24 && (p0.B == 0)) && (p0.C == 0))), .eq (.bool ((x24 && (p0.B == 0)) && (p0.C == 0)))]
        [(6, .bool ((x24 && (p0.B == 0)) && (p0.C == 0)))] mix hF (by kernel_rfl) (by kernel_rfl) (by kernel_rfl) ⟨Pd.mono_eq, Pd.mono_eq, Pd.mono_eq, Pd.mono_eq, trivial⟩ (fun hG => ⟨np_loadBox hG hF ty3 rfl rfl (hs.bx 0 rfl) rfl rfl rfl, np_call [.int .i64 p0.A] hG hF Try.call75 rfl rfl (fun w hC hg => (spec_l05Reg_ok p0.A hx24).mono fun e w' ⟨v, he, hv, hc⟩ => ⟨v, he, hc, hv⟩), np_loadBox hG hF ty3 rfl rfl (hs.bx 0 rfl) rfl rfl rfl, np_loadBox hG hF ty3 rfl rfl (hs.bx 0 rfl) rfl rfl rfl, trivial⟩) (by kernel_rfl) fun fr w28 hF hE hc => then_normal ?_)
    have hs := hs.ext hc
    have hM0 := hM0.ext hc
    have hs : Sep [] w28 S1 := Sep.pick [] hs (by decide) rfl
    obtain rfl := Option.some.inj h
    exact wp_ret (blk_ret (then_ret (ret1 rfl hF rfl ⟨_, rfl, rfl, hM0.chg⟩)))
  replace h := iteF hb h
  refine wp_seq ?_
  refine wp_seq (wp_pure [(3, .pointer (some ⟨b1, 0, none⟩)), (7, .bool x1), (13, .int .i64 p0.Op), (80, .bool (p0.Op == 9))] hF (by kernel_rfl) fun fr hF => then_normal ?_)
  refine (wp_merge [(3, .pointer (some ⟨b1, 0, none⟩)), (7, .bool x1), (13, .int .i64 p0.Op), (80, .bool ((p0.Op == 9) || (p0.Op == 11)))] hF (b := (p0.Op == 9)) rfl (fun hb => ?_) (fun hb => ?_) fun fr hF => then_normal ?_)
  · exact wp_skip ⟨rfl, rfl, (hF.sub [(3, .pointer (some ⟨b1, 0, none⟩)), (7, .bool x1), (13, .int .i64 p0.Op), (80, .bool (p0.Op == 9))] (by kernel_rfl)).eqs (by first | (simp only [hb]; done) | (simp only [hb]; rfl))⟩
  · exact wp_pure [(3, .pointer (some ⟨b1, 0, none⟩)), (7, .bool x1), (13, .int .i64 p0.Op), (80, .bool (p0.Op == 11))] hF (by kernel_rfl) fun fr hF => ⟨rfl, rfl, hF.eqs (by first | (simp only [hb]; done) | (simp only [hb]; rfl))⟩
  refine (wp_if hF (b := ((p0.Op == 9) || (p0.Op == 11))) rfl (fun hb => ?_) (fun hb => ?_))
  · replace h := iteT hb h
    refine wp_seq (region_b [] [true, false, true, true, true, true, true, true, false, true, true, true]
        [.eq (.pointer (some ⟨b1, 1, none⟩)), .eq (.int .i64 p0.A), .eq (.bool (p0.A == 0)), .eq (.bool (p0.A == 0)), .eq (.bool x1), .eq (.bool ((p0.A == 0) && x1)), .eq (.bool ((p0.A == 0) && x1)), .eq (.pointer (some ⟨b1, 3, none⟩)), .eq (.int .i64 p0.C), .eq (.bool (p0.C == 0)), .eq (.bool (((p0.A == 0) && x1) && (p0.C == 0))), .eq (.bool (((p0.A == 0) && x1) && (p0.C == 0)))]
        [(6, .bool (((p0.A == 0) && x1) && (p0.C == 0)))] mix hF (by kernel_rfl) (by kernel_rfl) (by kernel_rfl) ⟨Pd.mono_eq, Pd.mono_eq, trivial⟩ (fun hG => ⟨np_loadBox hG hF ty3 rfl rfl (hs.bx 0 rfl) rfl rfl rfl, np_loadBox hG hF ty3 rfl rfl (hs.bx 0 rfl) rfl rfl rfl, trivial⟩) (by kernel_rfl) fun fr w29 hF hE hc => then_normal ?_)
    have hs := hs.ext hc
    have hM0 := hM0.ext hc
    have hs : Sep [] w29 S1 := Sep.pick [] hs (by decide) rfl
    obtain rfl := Option.some.inj h
    exact wp_ret (blk_ret (then_ret (ret1 rfl hF rfl ⟨_, rfl, rfl, hM0.chg⟩)))
  replace h := iteF hb h
  refine wp_seq (wp_pure [(3, .pointer (some ⟨b1, 0, none⟩)), (7, .bool x1), (13, .int .i64 p0.Op), (94, .bool (p0.Op == 10))] hF (by kernel_rfl) fun fr hF => then_normal ?_)
  refine (wp_if hF (b := (p0.Op == 10)) rfl (fun hb => ?_) (fun hb => ?_))
  · replace h := iteT hb h
    obtain ⟨x25, hx25, h⟩ := bindE h
    refine wp_seq (region_b [] [true, false, false, true, true, true, true, true, false, true, true, true]
        [.eq (.pointer (some ⟨b1, 1, none⟩)), .eq (.int .i64 p0.A), .eq (.bool x25), .eq (.bool x25), .eq (.bool x1), .eq (.bool (x25 && x1)), .eq (.bool (x25 && x1)), .eq (.pointer (some ⟨b1, 3, none⟩)), .eq (.int .i64 p0.C), .eq (.bool (p0.C == 0)), .eq (.bool ((x25 && x1) && (p0.C == 0))), .eq (.bool ((x25 && x1) && (p0.C == 0)))]
        [(6, .bool ((x25 && x1) && (p0.C == 0)))] mix hF (by kernel_rfl) (by kernel_rfl) (by kernel_rfl) ⟨Pd.mono_eq, Pd.mono_eq, Pd.mono_eq, trivial⟩ (fun hG => ⟨np_loadBox hG hF ty3 rfl rfl (hs.bx 0 rfl) rfl rfl rfl, np_call [.int .i64 p0.A] hG hF Try.call75 rfl rfl (fun w hC hg => (spec_l05Reg_ok p0.A hx25).mono fun e w' ⟨v, he, hv, hc⟩ => ⟨v, he, hc, hv⟩), np_loadBox hG hF ty3 rfl rfl (hs.bx 0 rfl) rfl rfl rfl, trivial⟩) (by kernel_rfl) fun fr w30 hF hE hc => then_normal ?_)
    have hs := hs.ext hc
    have hM0 := hM0.ext hc
    have hs : Sep [] w30 S1 := Sep.pick [] hs (by decide) rfl
    obtain rfl := Option.some.inj h
    exact wp_ret (blk_ret (then_ret (ret1 rfl hF rfl ⟨_, rfl, rfl, hM0.chg⟩)))
  replace h := iteF hb h
  refine wp_seq ?_
  refine wp_seq (wp_pure [(3, .pointer (some ⟨b1, 0, none⟩)), (13, .int .i64 p0.Op), (107, .bool (p0.Op == 12))] hF (by kernel_rfl) fun fr hF => then_normal ?_)
  refine (wp_merge [(3, .pointer (some ⟨b1, 0, none⟩)), (107, .bool ((p0.Op == 12) || (p0.Op == 14)))] hF (b := (p0.Op == 12)) rfl (fun hb => ?_) (fun hb => ?_) fun fr hF => then_normal ?_)
  · exact wp_skip ⟨rfl, rfl, (hF.sub [(3, .pointer (some ⟨b1, 0, none⟩)), (107, .bool (p0.Op == 12))] (by kernel_rfl)).eqs (by first | (simp only [hb]; done) | (simp only [hb]; rfl))⟩
  · exact wp_pure [(3, .pointer (some ⟨b1, 0, none⟩)), (107, .bool (p0.Op == 14))] hF (by kernel_rfl) fun fr hF => ⟨rfl, rfl, hF.eqs (by first | (simp only [hb]; done) | (simp only [hb]; rfl))⟩
  refine (wp_if hF (b := ((p0.Op == 12) || (p0.Op == 14))) rfl (fun hb => ?_) (fun hb => ?_))
  · replace h := iteT hb h
    refine wp_seq (region_b [] [true, false, true, true, true, false, true, true, true, true, false, true, true, true]
        [.eq (.pointer (some ⟨b1, 1, none⟩)), .eq (.int .i64 p0.A), .eq (.bool (p0.A == 0)), .eq (.bool (p0.A == 0)), .eq (.pointer (some ⟨b1, 2, none⟩)), .eq (.int .i64 p0.B), .eq (.bool (p0.B == 0)), .eq (.bool ((p0.A == 0) && (p0.B == 0))), .eq (.bool ((p0.A == 0) && (p0.B == 0))), .eq (.pointer (some ⟨b1, 3, none⟩)), .eq (.int .i64 p0.C), .eq (.bool (p0.C == 0)), .eq (.bool (((p0.A == 0) && (p0.B == 0)) && (p0.C == 0))), .eq (.bool (((p0.A == 0) && (p0.B == 0)) && (p0.C == 0)))]
        [(6, .bool (((p0.A == 0) && (p0.B == 0)) && (p0.C == 0)))] mix hF (by kernel_rfl) (by kernel_rfl) (by kernel_rfl) ⟨Pd.mono_eq, Pd.mono_eq, Pd.mono_eq, trivial⟩ (fun hG => ⟨np_loadBox hG hF ty3 rfl rfl (hs.bx 0 rfl) rfl rfl rfl, np_loadBox hG hF ty3 rfl rfl (hs.bx 0 rfl) rfl rfl rfl, np_loadBox hG hF ty3 rfl rfl (hs.bx 0 rfl) rfl rfl rfl, trivial⟩) (by kernel_rfl) fun fr w31 hF hE hc => then_normal ?_)
    have hs := hs.ext hc
    have hM0 := hM0.ext hc
    have hs : Sep [] w31 S1 := Sep.pick [] hs (by decide) rfl
    obtain rfl := Option.some.inj h
    exact wp_ret (blk_ret (then_ret (ret1 rfl hF rfl ⟨_, rfl, rfl, hM0.chg⟩)))
  replace h := iteF hb h
  have hs : Sep [] w2 S1 := Sep.pick [] hs (by decide) rfl
  refine (wp_skip ?_)
  refine blk_normal (then_normal ?_)
  refine wp_seq (wp_pure [(6, .bool false)] hF (by kernel_rfl) fun fr hF => then_normal ?_)
  obtain rfl := Option.some.inj h
  exact wp_ret (ret1 rfl hF rfl ⟨_, rfl, rfl, hM0.chg⟩)

theorem spec_ProgramOk_ok (n : Nat) (p0 : D.Program) {r : Bool} (h : spec_ProgramOk n p0 = some r) {w : World} {G0 : Nat → Prop} {va0 : Value} (ra0 : RV w G0 va0 p0) :
    Calls Try.prog 38 [va0].toArray w fun e w' => ∃ v, e = .returned v ∧ v = .bool r ∧ Chg Non w w' := by
  unfold spec_ProgramOk at h
  have hs := Sep.nil w Non
  have hM0 : Mem w Non (fun k => (G0 k) ∧ k < w.heap.size) w Non (fun k => (G0 k) ∧ k < w.heap.size) := Mem.start (fun _ h => h.elim) (fun _ h => h.2) (fun _ h => h.elim)
  have ra0 := ra0.sub (F' := (fun k => (G0 k) ∧ k < w.heap.size)) (fun k hk h => ⟨h, hk⟩)
  obtain ⟨v1, rfl, r1⟩ := RV.Program ra0
  obtain ⟨a1, c1, rfl, -⟩ := r1.slice
  refine enter (N := 52) Try.func38 rfl Try.ntmps38 rfl fun fr hF => ?_
  refine wp_seq (wp_text' ?_)
  refine q_box hs hM0 [.int .i64 p0.W, .int .i64 p0.Mem, .int .i64 p0.In, .slice a1 (List.length p0.Code) c1] rfl rfl hF rfl rfl fun b1 w1 S1 fr hs hp hF => ?_
  have r1 := r1.stp hM0 hp
  have hM0 := hM0.stp hp
  have hs : Sep [BX b1 32 [.int .i64 p0.W, .int .i64 p0.Mem, .int .i64 p0.In, .slice a1 (List.length p0.Code) c1]] w1 S1 := hs
  refine from_pure 1 [(1, .pointer (some ⟨b1, 0, none⟩))] hF (by kernel_rfl) fun fr hF => ?_
  refine from_end rfl (then_normal ?_)
  refine wp_seq ?_
  obtain ⟨x1, hx1, h⟩ := bindE h
  obtain ⟨x2, hx2, h⟩ := bindE h
  obtain ⟨x3, hx3, h⟩ := bindE h
  obtain ⟨x4, hx4, h⟩ := bindE h
  obtain ⟨x5, hx5, h⟩ := bindE h
  refine wp_seq (region_b [] [true, false, false, true, true, true, false, false, true, true, true, true, false, true, false, false, true, true, true, true, false, false, true, true, true, true, false, true, false, true, true]
      [.eq (.pointer (some ⟨b1, 0, none⟩)), .eq (.int .i64 p0.W), .eq (.bool x1), .eq (.bool (!x1)), .eq (.bool (!x1)), .eq (.pointer (some ⟨b1, 1, none⟩)), .eq (.int .i64 p0.Mem), .eq (.bool x2), .eq (.bool (!x2)), .eq (.bool ((!x1) || (!x2))), .eq (.bool ((!x1) || (!x2))), .eq (.pointer (some ⟨b1, 0, none⟩)), .eq (.int .i64 p0.W), .eq (.pointer (some ⟨b1, 1, none⟩)), .eq (.int .i64 p0.Mem), .eq (.bool x3), .eq (.bool (!x3)), .eq (.bool (((!x1) || (!x2)) || (!x3))), .eq (.bool (((!x1) || (!x2)) || (!x3))), .eq (.pointer (some ⟨b1, 2, none⟩)), .eq (.int .i64 p0.In), .eq (.bool x4), .eq (.bool (!x4)), .eq (.bool ((((!x1) || (!x2)) || (!x3)) || (!x4))), .eq (.bool ((((!x1) || (!x2)) || (!x3)) || (!x4))), .eq (.pointer (some ⟨b1, 3, none⟩)), .eq (.slice a1 (List.length p0.Code) c1), .eq (.int .i64 (len p0.Code)), .eq (.bool x5), .eq (.bool (!x5)), .eq (.bool (((((!x1) || (!x2)) || (!x3)) || (!x4)) || (!x5)))]
      [(1, .pointer (some ⟨b1, 0, none⟩)), (35, .bool (((((!x1) || (!x2)) || (!x3)) || (!x4)) || (!x5)))] mix hF (by kernel_rfl) (by kernel_rfl) (by kernel_rfl) ⟨Pd.mono_eq, Pd.mono_eq, Pd.mono_eq, Pd.mono_eq, Pd.mono_eq, Pd.mono_eq, Pd.mono_eq, Pd.mono_eq, Pd.mono_eq, Pd.mono_eq, Pd.mono_eq, trivial⟩ (fun hG => ⟨np_loadBox hG hF ty3 rfl rfl (hs.bx 0 rfl) rfl rfl rfl, np_call [.int .i64 p0.W, .int .i64 2, .int .i64 8] hG hF Try.call52 rfl rfl (fun w hC hg => (spec_l01In_ok p0.W 2 8 hx1).mono fun e w' ⟨v, he, hv, hc⟩ => ⟨v, he, hc, hv⟩), np_loadBox hG hF ty3 rfl rfl (hs.bx 0 rfl) rfl rfl rfl, np_call [.int .i64 p0.Mem, .int .i64 1, .int .i64 6] hG hF Try.call52 rfl rfl (fun w hC hg => (spec_l01In_ok p0.Mem 1 6 (iteF hg.2 hx2)).mono fun e w' ⟨v, he, hv, hc⟩ => ⟨v, he, hc, hv⟩), np_loadBox hG hF ty3 rfl rfl (hs.bx 0 rfl) rfl rfl rfl, np_loadBox hG hF ty3 rfl rfl (hs.bx 0 rfl) rfl rfl rfl, np_call [.int .i64 p0.W, .int .i64 p0.Mem] hG hF Try.call57 rfl rfl (fun w hC hg => (spec_WordOk_ok p0.W p0.Mem (iteF hg.2 hx3)).mono fun e w' ⟨v, he, hv, hc⟩ => ⟨v, he, hc, hv⟩), np_loadBox hG hF ty3 rfl rfl (hs.bx 0 rfl) rfl rfl rfl, np_call [.int .i64 p0.In, .int .i64 0, .int .i64 3] hG hF Try.call52 rfl rfl (fun w hC hg => (spec_l01In_ok p0.In 0 3 (iteF hg.2 hx4)).mono fun e w' ⟨v, he, hv, hc⟩ => ⟨v, he, hc, hv⟩), np_loadBox hG hF ty30 rfl rfl (hs.bx 0 rfl) rfl rfl rfl, np_call [.int .i64 (len p0.Code), .int .i64 1, .int .i64 40] hG hF Try.call52 rfl rfl (fun w hC hg => (spec_l01In_ok (len p0.Code) 1 40 (iteF hg.2 hx5)).mono fun e w' ⟨v, he, hv, hc⟩ => ⟨v, he, hc, hv⟩), trivial⟩) (by kernel_rfl) fun fr w2 hF hE hc => then_normal ?_)
  have r1 := r1.ext hc
  have hs := hs.ext hc
  have hM0 := hM0.ext hc
  refine (wp_if hF (b := (((((!x1) || (!x2)) || (!x3)) || (!x4)) || (!x5))) rfl (fun hb => ?_) (fun hb => ?_))
  · replace h := iteT hb h
    have hs : Sep [] w2 S1 := Sep.pick [] hs (by decide) rfl
    refine wp_seq (wp_pure [(2, .bool false)] hF (by kernel_rfl) fun fr hF => then_normal ?_)
    obtain rfl := Option.some.inj h
    exact wp_ret (then_ret (ret1 rfl hF rfl ⟨_, rfl, rfl, hM0.chg⟩))
  replace h := iteF hb h
  refine (wp_skip (then_normal ?_))
  refine wp_seq ?_
  refine wp_seq (wp_text' ?_)
  refine from_pure 1 [(1, .pointer (some ⟨b1, 0, none⟩)), (36, .pointer (some ⟨b1, 3, none⟩))] hF (by kernel_rfl) fun fr hF => ?_
  refine s_loadBox (.slice a1 (List.length p0.Code) c1) ty30 rfl rfl hF rfl (hs.bx 0 rfl) rfl rfl fun fr hF => ?_
  refine from_pure 2 [(1, .pointer (some ⟨b1, 0, none⟩)), (37, .slice a1 (List.length p0.Code) c1), (38, .int .i64 (len p0.Code)), (39, .int .i64 0)] hF (by kernel_rfl) fun fr hF => ?_
  refine from_end rfl (then_normal ?_)
  obtain ⟨rl1, hit1, h⟩ := bindE h
  have hk1 := h
  refine (wp_cut (M := fun fr w' => ∃ s, rl1 = .inl s ∧ ∃ S3 F2, FrS 52 [] fr ∧ Mem w2 S1 (fun k => (G0 k) ∧ k < w.heap.size) w' S3 F2 ∧ Sep [] w' S3) (wp_block (wp_iter (Inv := fun s1 fr w' => ∃ S2 F1, FrS 52 [(1, .pointer (some ⟨b1, 0, none⟩)), (37, .slice a1 (List.length p0.Code) c1), (38, .int .i64 (len p0.Code)), (39, .int .i64 s1)] fr ∧ Mem w2 S1 (fun k => (G0 k) ∧ k < w.heap.size) w' S2 F1 ∧ Sep [BX b1 32 [.int .i64 p0.W, .int .i64 p0.Mem, .int .i64 p0.In, .slice a1 (List.length p0.Code) c1]] w' S2) hit1 ⟨S1, _, hF.sub _ (by kernel_rfl), (Mem.start hM0.bd hM0.bdF hM0.dj), hs⟩ fun s1 q1 fr w1i hI h hr1 => ?_)) fun fr w1o hM => ?_)
  · obtain ⟨S2, F1, hF, hM1, hs⟩ := hI
    have r1 := r1.mem hM1
    refine wp_seq (wp_pure [(1, .pointer (some ⟨b1, 0, none⟩)), (37, .slice a1 (List.length p0.Code) c1), (38, .int .i64 (len p0.Code)), (39, .int .i64 s1), (40, .bool (decide (s1 < (len p0.Code))))] hF (by kernel_rfl) fun fr hF => then_normal ?_)
    refine wp_seq (wp_if hF (b := (decide (s1 < (len p0.Code)))) rfl (fun hb => ?_) (fun hb => ?_))
    · replace h := iteT hb h
      refine (wp_skip (then_normal ?_))
      refine wp_seq (wp_block ?_)
      refine wp_seq (wp_text' ?_)
      obtain ⟨x6, hx6, h⟩ := bindE h
      refine s_elemF (z := x6) (.agg #[.int .i64 x6.Op, .int .i64 x6.A, .int .i64 x6.B, .int .i64 x6.C]) ty66 Try.underlying30 rfl rfl rfl rfl rfl hF rfl (r1) rfl (get?_nn hx6) (get?_at hx6) rfl fun p fr hF => ?_
      refine q_alloc (z := .agg #[.int .i64 0, .int .i64 0, .int .i64 0, .int .i64 0]) hs hM1 [.int .i64 0, .int .i64 0, .int .i64 0, .int .i64 0] rfl rfl hF (by kernel_rfl) rfl fun b2 w3 S4 fr hs hp hF => ?_
      have r1 := r1.stp hM1 hp
      have hM1 := hM1.stp hp
      have hs : Sep [BX b2 66 [.int .i64 0, .int .i64 0, .int .i64 0, .int .i64 0], BX b1 32 [.int .i64 p0.W, .int .i64 p0.Mem, .int .i64 p0.In, .slice a1 (List.length p0.Code) c1]] w3 S4 := hs
      refine q_storeBoxS 0 hs hM1 rfl [.int .i64 x6.Op, .int .i64 x6.A, .int .i64 x6.B, .int .i64 x6.C] rfl hF rfl rfl (by kernel_rfl) rfl rfl rfl fun w4 S5 hs hp hF => ?_
      have r1 := r1.stp hM1 hp
      have hM1 := hM1.stp hp
      have hs : Sep [BX b2 66 [.int .i64 x6.Op, .int .i64 x6.A, .int .i64 x6.B, .int .i64 x6.C], BX b1 32 [.int .i64 p0.W, .int .i64 p0.Mem, .int .i64 p0.In, .slice a1 (List.length p0.Code) c1]] w4 S5 := hs
      refine from_end rfl (then_normal ?_)
      refine wp_seq (wp_text' ?_)
      refine s_loadBoxS ty66 rfl rfl hF rfl (hs.bx 0 rfl) rfl rfl fun fr hF => ?_
      have hs : Sep [BX b1 32 [.int .i64 p0.W, .int .i64 p0.Mem, .int .i64 p0.In, .slice a1 (List.length p0.Code) c1]] w4 S5 := Sep.pick [1] hs (by decide) rfl
      refine from_pure 1 [(1, .pointer (some ⟨b1, 0, none⟩)), (37, .slice a1 (List.length p0.Code) c1), (38, .int .i64 (len p0.Code)), (39, .int .i64 s1), (43, .agg #[.int .i64 x6.Op, .int .i64 x6.A, .int .i64 x6.B, .int .i64 x6.C]), (44, .pointer (some ⟨b1, 0, none⟩))] hF (by kernel_rfl) fun fr hF => ?_
      refine s_loadBox (.int .i64 p0.W) ty3 rfl rfl hF rfl (hs.bx 0 rfl) rfl rfl fun fr hF => ?_
      refine from_pure 1 [(1, .pointer (some ⟨b1, 0, none⟩)), (37, .slice a1 (List.length p0.Code) c1), (38, .int .i64 (len p0.Code)), (39, .int .i64 s1), (43, .agg #[.int .i64 x6.Op, .int .i64 x6.A, .int .i64 x6.B, .int .i64 x6.C]), (45, .int .i64 p0.W), (46, .pointer (some ⟨b1, 3, none⟩))] hF (by kernel_rfl) fun fr hF => ?_
      refine s_loadBox (.slice a1 (List.length p0.Code) c1) ty30 rfl rfl hF rfl (hs.bx 0 rfl) rfl rfl fun fr hF => ?_
      refine from_pure 1 [(1, .pointer (some ⟨b1, 0, none⟩)), (37, .slice a1 (List.length p0.Code) c1), (38, .int .i64 (len p0.Code)), (39, .int .i64 s1), (43, .agg #[.int .i64 x6.Op, .int .i64 x6.A, .int .i64 x6.B, .int .i64 x6.C]), (45, .int .i64 p0.W), (48, .int .i64 (len p0.Code))] hF (by kernel_rfl) fun fr hF => ?_
      obtain ⟨x7, hx7, h⟩ := bindE h
      refine s_call [.agg #[.int .i64 x6.Op, .int .i64 x6.A, .int .i64 x6.B, .int .i64 x6.C], .int .i64 p0.W, .int .i64 (len p0.Code)] Try.call58 rfl rfl hF rfl (spec_l05Ins_ok x6 p0.W (len p0.Code) hx7) fun v w5 fr hRes hF => ?_
      obtain ⟨rfl, hc⟩ := hRes
      have r1 := r1.ext hc
      have hs := hs.ext hc
      have hM1 := hM1.ext hc
      refine from_pure 1 [(1, .pointer (some ⟨b1, 0, none⟩)), (37, .slice a1 (List.length p0.Code) c1), (38, .int .i64 (len p0.Code)), (39, .int .i64 s1), (50, .bool (!x7))] hF (by kernel_rfl) fun fr hF => ?_
      refine from_end rfl (then_normal ?_)
      refine (wp_if hF (b := (!x7)) rfl (fun hb => ?_) (fun hb => ?_))
      · replace h := iteT hb h
        have hs : Sep [] w5 S5 := Sep.pick [] hs (by decide) rfl
        refine wp_seq (wp_pure [(2, .bool false)] hF (by kernel_rfl) fun fr hF => then_normal ?_)
        obtain rfl := hr1 _ (Option.some.inj h).symm
        obtain rfl := Option.some.inj hk1
        exact wp_ret (blk_ret (then_ret (then_ret (blk_ret (then_ret (ret1 rfl hF rfl ⟨_, rfl, rfl, (hM0.trans hM1).chg⟩))))))
      replace h := iteF hb h
      refine (wp_skip ?_)
      refine blk_normal (then_normal ?_)
      refine (wp_pure [(1, .pointer (some ⟨b1, 0, none⟩)), (37, .slice a1 (List.length p0.Code) c1), (38, .int .i64 (len p0.Code)), (39, .int .i64 (w64 (s1 + 1)))] hF (by kernel_rfl) fun fr hF => then_normal ?_)
      exact ⟨_, (Option.some.inj h).symm, S5, _, hF.sub _ (by kernel_rfl), hM1, hs⟩
    replace h := iteF hb h
    have hs : Sep [] w1i S2 := Sep.pick [] hs (by decide) rfl
    refine (wp_exit (then_exit (then_exit (blk_exit_eq ?_))))
    obtain rfl := hr1 _ (Option.some.inj h).symm
    exact then_normal ⟨_, rfl, S2, _, hF.sub _ (by kernel_rfl), hM1, hs⟩
  · obtain ⟨s1r, rfl, hM⟩ := hM
    obtain ⟨S3, F2, hF, hMx, hs⟩ := hM
    have hM0 := hM0.trans hMx
    refine wp_seq (wp_pure [(2, .bool true)] hF (by kernel_rfl) fun fr hF => then_normal ?_)
    obtain rfl := Option.some.inj h
    exact wp_ret (ret1 rfl hF rfl ⟨_, rfl, rfl, hM0.chg⟩)

theorem spec_l05Words_ok (n : Nat) (p0 : List Int) (p1 : Int) (p2 : Int) {r : Bool} (h : spec_l05Words n p0 p1 p2 = some r) {w : World} {G0 : Nat → Prop} {va0 : Value} (ra0 : RV w G0 va0 p0) :
    Calls Try.prog 64 [va0, .int .i64 p1, .int .i64 p2].toArray w fun e w' => ∃ v, e = .returned v ∧ v = .bool r ∧ Chg Non w w' := by
  unfold spec_l05Words at h
  have hs := Sep.nil w Non
  have hM0 : Mem w Non (fun k => (G0 k) ∧ k < w.heap.size) w Non (fun k => (G0 k) ∧ k < w.heap.size) := Mem.start (fun _ h => h.elim) (fun _ h => h.2) (fun _ h => h.elim)
  have ra0 := ra0.sub (F' := (fun k => (G0 k) ∧ k < w.heap.size)) (fun k hk h => ⟨h, hk⟩)
  obtain ⟨a1, c1, rfl, -⟩ := ra0.slice
  refine enter (N := 24) Try.func64 rfl Try.ntmps64 rfl fun fr hF => ?_
  refine wp_seq (wp_pure [(0, .slice a1 (List.length p0) c1), (1, .int .i64 p1), (2, .int .i64 p2)] hF (by kernel_rfl) fun fr hF => then_normal ?_)
  refine wp_seq ?_
  refine wp_seq (wp_pure [(0, .slice a1 (List.length p0) c1), (1, .int .i64 p1), (2, .int .i64 p2), (9, .slice a1 (List.length p0) c1), (10, .int .i64 (len p0)), (11, .int .i64 0)] hF (by kernel_rfl) fun fr hF => then_normal ?_)
  obtain ⟨rl1, hit1, h⟩ := bindE h
  have hk1 := h
  refine (wp_cut (M := fun fr w' => ∃ s, rl1 = .inl s ∧ ∃ S2 F2, FrS 24 [(0, .slice a1 (List.length p0) c1), (1, .int .i64 p1)] fr ∧ Mem w Non (fun k => (G0 k) ∧ k < w.heap.size) w' S2 F2 ∧ Sep [] w' S2) (wp_block (wp_iter (Inv := fun s1 fr w' => ∃ S1 F1, FrS 24 [(0, .slice a1 (List.length p0) c1), (1, .int .i64 p1), (2, .int .i64 p2), (9, .slice a1 (List.length p0) c1), (10, .int .i64 (len p0)), (11, .int .i64 s1)] fr ∧ Mem w Non (fun k => (G0 k) ∧ k < w.heap.size) w' S1 F1 ∧ Sep [] w' S1) hit1 ⟨Non, _, hF.sub _ (by kernel_rfl), (Mem.start hM0.bd hM0.bdF hM0.dj), hs⟩ fun s1 q1 fr w1i hI h hr1 => ?_)) fun fr w1o hM => ?_)
  · obtain ⟨S1, F1, hF, hM1, hs⟩ := hI
    have ra0 := ra0.mem hM1
    refine wp_seq (wp_pure [(0, .slice a1 (List.length p0) c1), (1, .int .i64 p1), (2, .int .i64 p2), (9, .slice a1 (List.length p0) c1), (10, .int .i64 (len p0)), (11, .int .i64 s1), (12, .bool (decide (s1 < (len p0))))] hF (by kernel_rfl) fun fr hF => then_normal ?_)
    refine wp_seq (wp_if hF (b := (decide (s1 < (len p0)))) rfl (fun hb => ?_) (fun hb => ?_))
    · replace h := iteT hb h
      refine (wp_skip (then_normal ?_))
      refine wp_seq (wp_block ?_)
      refine wp_seq (wp_text' ?_)
      obtain ⟨x1, hx1, h⟩ := bindE h
      refine s_elemF (z := x1) (.int .i64 x1) ty3 Try.underlying26 rfl rfl rfl rfl rfl hF rfl (ra0) rfl (get?_nn hx1) (get?_at hx1) rfl fun p fr hF => ?_
      refine from_pure 1 [(0, .slice a1 (List.length p0) c1), (1, .int .i64 p1), (2, .int .i64 p2), (8, .int .i64 x1), (9, .slice a1 (List.length p0) c1), (10, .int .i64 (len p0)), (11, .int .i64 s1)] hF (by kernel_rfl) fun fr hF => ?_
      refine from_end rfl (then_normal ?_)
      refine wp_seq (wp_text' ?_)
      refine from_pure 2 [(0, .slice a1 (List.length p0) c1), (1, .int .i64 p1), (2, .int .i64 p2), (9, .slice a1 (List.length p0) c1), (10, .int .i64 (len p0)), (11, .int .i64 s1), (15, .int .i64 p2), (16, .int .i64 x1)] hF (by kernel_rfl) fun fr hF => ?_
      obtain ⟨x2, hx2, h⟩ := bindE h
      refine s_call [.int .i64 p2, .int .i64 x1] Try.call57 rfl rfl hF rfl (spec_WordOk_ok p2 x1 hx2) fun v w1 fr hRes hF => ?_
      obtain ⟨rfl, hc⟩ := hRes
      have ra0 := ra0.ext hc
      have hs := hs.ext hc
      have hM1 := hM1.ext hc
      refine from_pure 1 [(0, .slice a1 (List.length p0) c1), (1, .int .i64 p1), (2, .int .i64 p2), (9, .slice a1 (List.length p0) c1), (10, .int .i64 (len p0)), (11, .int .i64 s1), (18, .bool (!x2))] hF (by kernel_rfl) fun fr hF => ?_
      refine from_end rfl (then_normal ?_)
      refine (wp_if hF (b := (!x2)) rfl (fun hb => ?_) (fun hb => ?_))
      · replace h := iteT hb h
        refine wp_seq (wp_pure [(6, .bool false)] hF (by kernel_rfl) fun fr hF => then_normal ?_)
        obtain rfl := hr1 _ (Option.some.inj h).symm
        obtain rfl := Option.some.inj hk1
        exact wp_ret (blk_ret (then_ret (then_ret (blk_ret (then_ret (ret1 rfl hF rfl ⟨_, rfl, rfl, (hM0.trans hM1).chg⟩))))))
      replace h := iteF hb h
      refine (wp_skip ?_)
      refine blk_normal (then_normal ?_)
      refine (wp_pure [(0, .slice a1 (List.length p0) c1), (1, .int .i64 p1), (2, .int .i64 p2), (9, .slice a1 (List.length p0) c1), (10, .int .i64 (len p0)), (11, .int .i64 (w64 (s1 + 1)))] hF (by kernel_rfl) fun fr hF => then_normal ?_)
      exact ⟨_, (Option.some.inj h).symm, S1, _, hF.sub _ (by kernel_rfl), hM1, hs⟩
    replace h := iteF hb h
    refine (wp_exit (then_exit (then_exit (blk_exit_eq ?_))))
    obtain rfl := hr1 _ (Option.some.inj h).symm
    exact then_normal ⟨_, rfl, S1, _, hF.sub _ (by kernel_rfl), hM1, hs⟩
  · obtain ⟨s1r, rfl, hM⟩ := hM
    obtain ⟨S2, F2, hF, hMx, hs⟩ := hM
    have ra0 := ra0.mem hMx
    have hM0 := hM0.trans hMx
    refine wp_seq (wp_pure [(6, .bool ((len p0) == p1))] hF (by kernel_rfl) fun fr hF => then_normal ?_)
    obtain rfl := Option.some.inj h
    exact wp_ret (ret1 rfl hF rfl ⟨_, rfl, rfl, hM0.chg⟩)

theorem spec_InputsOk_ok (n : Nat) (p0 : D.Program) (p1 : List Int) {r : Bool} (h : spec_InputsOk n p0 p1 = some r) {w : World} {G0 : Nat → Prop} {va0 : Value} (ra0 : RV w G0 va0 p0) {G1 : Nat → Prop} {va1 : Value} (ra1 : RV w G1 va1 p1) :
    Calls Try.prog 45 [va0, va1].toArray w fun e w' => ∃ v, e = .returned v ∧ v = .bool r ∧ Chg Non w w' := by
  unfold spec_InputsOk at h
  have hs := Sep.nil w Non
  have hM0 : Mem w Non (fun k => (G0 k ∨ G1 k) ∧ k < w.heap.size) w Non (fun k => (G0 k ∨ G1 k) ∧ k < w.heap.size) := Mem.start (fun _ h => h.elim) (fun _ h => h.2) (fun _ h => h.elim)
  have ra0 := ra0.sub (F' := (fun k => (G0 k ∨ G1 k) ∧ k < w.heap.size)) (fun k hk h => ⟨.inl h, hk⟩)
  obtain ⟨v1, rfl, r1⟩ := RV.Program ra0
  obtain ⟨a1, c1, rfl, -⟩ := r1.slice
  have ra1 := ra1.sub (F' := (fun k => (G0 k ∨ G1 k) ∧ k < w.heap.size)) (fun k hk h => ⟨.inr (h), hk⟩)
  obtain ⟨a2, c2, rfl, -⟩ := ra1.slice
  refine enter (N := 15) Try.func45 rfl Try.ntmps45 rfl fun fr hF => ?_
  refine wp_seq (wp_text' ?_)
  refine q_box hs hM0 [.int .i64 p0.W, .int .i64 p0.Mem, .int .i64 p0.In, .slice a1 (List.length p0.Code) c1] rfl rfl hF rfl rfl fun b1 w1 S1 fr hs hp hF => ?_
  have r1 := r1.stp hM0 hp
  have ra1 := ra1.stp hM0 hp
  have hM0 := hM0.stp hp
  have hs : Sep [BX b1 32 [.int .i64 p0.W, .int .i64 p0.Mem, .int .i64 p0.In, .slice a1 (List.length p0.Code) c1]] w1 S1 := hs
  refine from_pure 1 [(1, .slice a2 (List.length p1) c2), (2, .pointer (some ⟨b1, 0, none⟩))] hF (by kernel_rfl) fun fr hF => ?_
  refine from_end rfl (then_normal ?_)
  obtain ⟨x1, hx1, h⟩ := bindE h
  obtain ⟨x2, hx2, h⟩ := bindE h
  refine wp_seq (region_b [] [false, false, true, true, true, false, true, false, false, true, true]
      [.eq (.agg #[.int .i64 p0.W, .int .i64 p0.Mem, .int .i64 p0.In, .slice a1 (List.length p0.Code) c1]), .eq (.bool x1), .eq (.bool x1), .eq (.slice a2 (List.length p1) c2), .eq (.pointer (some ⟨b1, 2, none⟩)), .eq (.int .i64 p0.In), .eq (.pointer (some ⟨b1, 0, none⟩)), .eq (.int .i64 p0.W), .eq (.bool x2), .eq (.bool (x1 && x2)), .eq (.bool (x1 && x2))]
      [(4, .bool (x1 && x2))] mix hF (by kernel_rfl) (by kernel_rfl) (by kernel_rfl) ⟨Pd.mono_eq, Pd.mono_eq, Pd.mono_eq, Pd.mono_eq, Pd.mono_eq, trivial⟩ (fun hG => ⟨np_loadBoxS hG hF ty32 rfl rfl (hs.bx 0 rfl) rfl rfl rfl rfl, np_call [.agg #[.int .i64 p0.W, .int .i64 p0.Mem, .int .i64 p0.In, .slice a1 (List.length p0.Code) c1]] hG hF Try.call38 rfl rfl (fun w hC hg => (spec_ProgramOk_ok n p0 hx1 ((RV.mk_Program p0 (r1)).ext hC)).mono fun e w' ⟨v, he, hv, hc⟩ => ⟨v, he, hc, hv⟩), np_loadBox hG hF ty3 rfl rfl (hs.bx 0 rfl) rfl rfl rfl, np_loadBox hG hF ty3 rfl rfl (hs.bx 0 rfl) rfl rfl rfl, np_call [.slice a2 (List.length p1) c2, .int .i64 p0.In, .int .i64 p0.W] hG hF Try.call64 rfl rfl (fun w hC hg => (spec_l05Words_ok n p1 p0.In p0.W (iteT hg.2 hx2) ((ra1).ext hC)).mono fun e w' ⟨v, he, hv, hc⟩ => ⟨v, he, hc, hv⟩), trivial⟩) (by kernel_rfl) fun fr w2 hF hE hc => then_normal ?_)
  have ra1 := ra1.ext hc
  have r1 := r1.ext hc
  have hs := hs.ext hc
  have hM0 := hM0.ext hc
  have hs : Sep [] w2 S1 := Sep.pick [] hs (by decide) rfl
  obtain rfl := Option.some.inj h
  exact wp_ret (ret1 rfl hF rfl ⟨_, rfl, rfl, hM0.chg⟩)

theorem spec_NewState_ok (n : Nat) (p0 : D.Program) {r : D.State} (h : spec_NewState n p0 = some r) {w : World} {G0 : Nat → Prop} {va0 : Value} (ra0 : RV w G0 va0 p0) :
    Calls Try.prog 11 [va0].toArray w fun e w' => ∃ v, e = .returned v ∧ ∃ a1 c1 a2 c2 a3 c3 a4 c4, v = .agg #[.int .i64 r.Pc, .slice a1 (List.length r.Regs) c1, .slice a2 (List.length r.Mem) c2, .slice a3 (List.length r.Stack) c3, .int .i64 r.In, .slice a4 (List.length r.Out) c4, .int .i64 r.Code, .int .i64 r.Steps] ∧ ∃ S', Stp w Non w' S' ∧ Sep [SL (α := Int) 3 (.slice a1 (List.length r.Regs) c1) r.Regs, SL (α := Int) 3 (.slice a2 (List.length r.Mem) c2) r.Mem, SL (α := Int) 3 (.slice a3 (List.length r.Stack) c3) r.Stack, SL (α := Int) 3 (.slice a4 (List.length r.Out) c4) r.Out] w' S' := by
  unfold spec_NewState at h
  have hs := Sep.nil w Non
  have hM0 : Mem w Non (fun k => (G0 k) ∧ k < w.heap.size) w Non (fun k => (G0 k) ∧ k < w.heap.size) := Mem.start (fun _ h => h.elim) (fun _ h => h.2) (fun _ h => h.elim)
  have ra0 := ra0.sub (F' := (fun k => (G0 k) ∧ k < w.heap.size)) (fun k hk h => ⟨h, hk⟩)
  obtain ⟨v1, rfl, r1⟩ := RV.Program ra0
  obtain ⟨a1, c1, rfl, -⟩ := r1.slice
  refine enter (N := 12) Try.func11 rfl Try.ntmps11 rfl fun fr hF => ?_
  refine wp_seq (wp_text' ?_)
  refine q_box hs hM0 [.int .i64 p0.W, .int .i64 p0.Mem, .int .i64 p0.In, .slice a1 (List.length p0.Code) c1] rfl rfl hF rfl rfl fun b1 w1 S1 fr hs hp hF => ?_
  have r1 := r1.stp hM0 hp
  have hM0 := hM0.stp hp
  have hs : Sep [BX b1 32 [.int .i64 p0.W, .int .i64 p0.Mem, .int .i64 p0.In, .slice a1 (List.length p0.Code) c1]] w1 S1 := hs
  refine q_alloc (z := .agg #[.int .i64 0, .slice none (List.length ([] : List Int)) 0, .slice none (List.length ([] : List Int)) 0, .slice none (List.length ([] : List Int)) 0, .int .i64 0, .slice none (List.length ([] : List Int)) 0, .int .i64 0, .int .i64 0]) hs hM0 [.int .i64 0, .slice none (List.length ([] : List Int)) 0, .slice none (List.length ([] : List Int)) 0, .slice none (List.length ([] : List Int)) 0, .int .i64 0, .slice none (List.length ([] : List Int)) 0, .int .i64 0, .int .i64 0] rfl rfl hF (by kernel_rfl) rfl fun b2 w2 S2 fr hs hp hF => ?_
  have r1 := r1.stp hM0 hp
  have hM0 := hM0.stp hp
  have hs : Sep [BX b2 28 [.int .i64 0, .slice none (List.length ([] : List Int)) 0, .slice none (List.length ([] : List Int)) 0, .slice none (List.length ([] : List Int)) 0, .int .i64 0, .slice none (List.length ([] : List Int)) 0, .int .i64 0, .int .i64 0], BX b1 32 [.int .i64 p0.W, .int .i64 p0.Mem, .int .i64 p0.In, .slice a1 (List.length p0.Code) c1]] w2 S2 := hs
  refine from_end rfl (then_normal ?_)
  refine wp_seq ?_
  refine wp_seq (wp_text' ?_)
  refine s_loadBoxS ty32 rfl rfl hF rfl (hs.bx 1 rfl) rfl rfl fun fr hF => ?_
  obtain ⟨x1, hx1, h⟩ := bindE h
  refine s_call [.agg #[.int .i64 p0.W, .int .i64 p0.Mem, .int .i64 p0.In, .slice a1 (List.length p0.Code) c1]] Try.call38 rfl rfl hF rfl (spec_ProgramOk_ok n p0 hx1 (RV.mk_Program p0 (r1))) fun v w3 fr hRes hF => ?_
  obtain ⟨rfl, hc⟩ := hRes
  have r1 := r1.ext hc
  have hs := hs.ext hc
  have hM0 := hM0.ext hc
  refine from_pure 1 [(1, .pointer (some ⟨b1, 0, none⟩)), (2, .pointer (some ⟨b2, 0, none⟩)), (5, .bool (!x1))] hF (by kernel_rfl) fun fr hF => ?_
  refine from_end rfl (then_normal ?_)
  refine (wp_if hF (b := (!x1)) rfl (fun hb => ?_) (fun hb => ?_))
  · replace h := iteT hb h
    have hs : Sep [BX b2 28 [.int .i64 0, .slice none (List.length ([] : List Int)) 0, .slice none (List.length ([] : List Int)) 0, .slice none (List.length ([] : List Int)) 0, .int .i64 0, .slice none (List.length ([] : List Int)) 0, .int .i64 0, .int .i64 0]] w3 S2 := Sep.pick [0] hs (by decide) rfl
    refine wp_seq (wp_text' ?_)
    refine from_pure 1 [(2, .pointer (some ⟨b2, 0, none⟩)), (6, .agg #[.int .i64 0, .slice none (List.length ([] : List Int)) 0, .slice none (List.length ([] : List Int)) 0, .slice none (List.length ([] : List Int)) 0, .int .i64 0, .slice none (List.length ([] : List Int)) 0, .int .i64 0, .int .i64 0])] hF (by kernel_rfl) fun fr hF => ?_
    refine q_storeBoxS 0 hs hM0 rfl [.int .i64 0, .slice none (List.length ([] : List Int)) 0, .slice none (List.length ([] : List Int)) 0, .slice none (List.length ([] : List Int)) 0, .int .i64 0, .slice none (List.length ([] : List Int)) 0, .int .i64 0, .int .i64 0] rfl hF rfl rfl (by kernel_rfl) rfl rfl rfl fun w4 S3 hs hp hF => ?_
    have hM0 := hM0.stp hp
    have hs : Sep [BX b2 28 [.int .i64 0, .slice none (List.length ([] : List Int)) 0, .slice none (List.length ([] : List Int)) 0, .slice none (List.length ([] : List Int)) 0, .int .i64 0, .slice none (List.length ([] : List Int)) 0, .int .i64 0, .int .i64 0]] w4 S3 := hs
    refine from_end rfl (then_normal ?_)
    have hbr := (hs.bx 0 rfl)
    have hs : Sep [SL (α := Int) 3 (.slice none (List.length ([] : List Int)) 0) ([] : List Int), BX b2 28 [.int .i64 0, .slice none (List.length ([] : List Int)) 0, .slice none (List.length ([] : List Int)) 0, .slice none (List.length ([] : List Int)) 0, .int .i64 0, .slice none (List.length ([] : List Int)) 0, .int .i64 0, .int .i64 0]] w4 S3 := hs.cons_nil (α := Int) 3
    have hs : Sep [SL (α := Int) 3 (.slice none (List.length ([] : List Int)) 0) ([] : List Int), SL (α := Int) 3 (.slice none (List.length ([] : List Int)) 0) ([] : List Int), BX b2 28 [.int .i64 0, .slice none (List.length ([] : List Int)) 0, .slice none (List.length ([] : List Int)) 0, .slice none (List.length ([] : List Int)) 0, .int .i64 0, .slice none (List.length ([] : List Int)) 0, .int .i64 0, .int .i64 0]] w4 S3 := hs.cons_nil (α := Int) 3
    have hs : Sep [SL (α := Int) 3 (.slice none (List.length ([] : List Int)) 0) ([] : List Int), SL (α := Int) 3 (.slice none (List.length ([] : List Int)) 0) ([] : List Int), SL (α := Int) 3 (.slice none (List.length ([] : List Int)) 0) ([] : List Int), BX b2 28 [.int .i64 0, .slice none (List.length ([] : List Int)) 0, .slice none (List.length ([] : List Int)) 0, .slice none (List.length ([] : List Int)) 0, .int .i64 0, .slice none (List.length ([] : List Int)) 0, .int .i64 0, .int .i64 0]] w4 S3 := hs.cons_nil (α := Int) 3
    have hs : Sep [SL (α := Int) 3 (.slice none (List.length ([] : List Int)) 0) ([] : List Int), SL (α := Int) 3 (.slice none (List.length ([] : List Int)) 0) ([] : List Int), SL (α := Int) 3 (.slice none (List.length ([] : List Int)) 0) ([] : List Int), SL (α := Int) 3 (.slice none (List.length ([] : List Int)) 0) ([] : List Int), BX b2 28 [.int .i64 0, .slice none (List.length ([] : List Int)) 0, .slice none (List.length ([] : List Int)) 0, .slice none (List.length ([] : List Int)) 0, .int .i64 0, .slice none (List.length ([] : List Int)) 0, .int .i64 0, .int .i64 0]] w4 S3 := hs.cons_nil (α := Int) 3
    obtain rfl := Option.some.inj h
    have hs : Sep [SL (α := Int) 3 (.slice none (List.length ([] : List Int)) 0) ([] : List Int), SL (α := Int) 3 (.slice none (List.length ([] : List Int)) 0) ([] : List Int), SL (α := Int) 3 (.slice none (List.length ([] : List Int)) 0) ([] : List Int), SL (α := Int) 3 (.slice none (List.length ([] : List Int)) 0) ([] : List Int)] w4 S3 := Sep.pick [3, 2, 1, 0] hs (by decide) rfl
    exact wp_ret (then_ret (retS rfl hF ty28 rfl rfl hbr rfl ⟨_, rfl, none, 0, none, 0, none, 0, none, 0, rfl, S3, hM0.out, hs⟩))
  replace h := iteF hb h
  refine (wp_skip (then_normal ?_))
  obtain ⟨x2, hx2, h⟩ := bindE h
  obtain ⟨x3, hx3, h⟩ := bindE h
  refine wp_seq (region_bm 4 [0, 0, 2, 6, 15, 31] [false, true, false, false]
      [.own fun ow v w => ∃ i : Option Addr × Nat, v = .slice i.1 (List.length x2) i.2 ∧ (SL (α := Int) 3 (.slice i.1 (List.length x2) i.2) x2).ok w (fun k => w3.heap.size ≤ k ∧ k < w.heap.size ∧ ow k = 0), .eq (.pointer (some ⟨b1, 1, none⟩)), .eq (.int .i64 p0.Mem), .own fun ow v w => ∃ i : Option Addr × Nat, v = .slice i.1 (List.length x3) i.2 ∧ (SL (α := Int) 3 (.slice i.1 (List.length x3) i.2) x3).ok w (fun k => w3.heap.size ≤ k ∧ k < w.heap.size ∧ ow k = 3), .any, .any]
      [(2, .pointer (some ⟨b2, 0, none⟩))] mix hF (by kernel_rfl) (by kernel_rfl) (by kernel_rfl) (by kernel_rfl) ⟨mono_new, Pd.monoO_eq, mono_new, trivial⟩ (fun ow hG => ⟨np_make hG hF Try.underlying26 el3 (fun w => zero_flat _ (by kernel_rfl)) rfl rfl rfl (fun hg => hx2) rfl, np_to ow (np_loadBox hG hF ty3 rfl rfl (hs.bx 1 rfl) rfl rfl rfl), np_make hG hF Try.underlying26 el3 (fun w => zero_flat _ (by kernel_rfl)) rfl rfl rfl (fun hg => hx3) rfl, trivial⟩) (by kernel_rfl) fun ow fr w5 hF hE hc => ?_)
  obtain ⟨⟨a2, c2⟩, hv, hnw0⟩ := hE.is 7 0 rfl rfl
  have hF := hF.cons hv
  obtain ⟨⟨a3, c3⟩, hv, hnw3⟩ := hE.is 10 3 rfl rfl
  have hF := hF.cons hv
  have hsN := sepO (w0 := w3) (ow := ow) [(0, SL (α := Int) 3 (.slice a2 (List.length x2) c2) x2), (3, SL (α := Int) 3 (.slice a3 (List.length x3) c3) x3)] (show ([0, 3] : List Nat).Nodup by decide) ⟨hnw0, hnw3, trivial⟩ rfl
  obtain ⟨S4, hp, hs⟩ := hs.got hM0 (stp_new hc) hsN
  have r1 := r1.stp hM0 hp
  have hM0 := hM0.stp hp
  have hs : Sep [SL (α := Int) 3 (.slice a2 (List.length x2) c2) x2, SL (α := Int) 3 (.slice a3 (List.length x3) c3) x3, BX b2 28 [.int .i64 0, .slice none (List.length ([] : List Int)) 0, .slice none (List.length ([] : List Int)) 0, .slice none (List.length ([] : List Int)) 0, .int .i64 0, .slice none (List.length ([] : List Int)) 0, .int .i64 0, .int .i64 0], BX b1 32 [.int .i64 p0.W, .int .i64 p0.Mem, .int .i64 p0.In, .slice a1 (List.length p0.Code) c1]] w5 S4 := hs
  have hs : Sep [SL (α := Int) 3 (.slice a2 (List.length x2) c2) x2, SL (α := Int) 3 (.slice a3 (List.length x3) c3) x3, BX b2 28 [.int .i64 0, .slice none (List.length ([] : List Int)) 0, .slice none (List.length ([] : List Int)) 0, .slice none (List.length ([] : List Int)) 0, .int .i64 0, .slice none (List.length ([] : List Int)) 0, .int .i64 0, .int .i64 0]] w5 S4 := Sep.pick [0, 1, 2] hs (by decide) rfl
  refine from_pure 1 [(2, .pointer (some ⟨b2, 0, none⟩)), (11, .agg #[.int .i64 0, .slice a2 (List.length x2) c2, .slice a3 (List.length x3) c3, .slice none (List.length ([] : List Int)) 0, .int .i64 0, .slice none (List.length ([] : List Int)) 0, .int .i64 0, .int .i64 0])] hF (by kernel_rfl) fun fr hF => ?_
  refine q_storeBoxS 2 hs hM0 rfl [.int .i64 0, .slice a2 (List.length x2) c2, .slice a3 (List.length x3) c3, .slice none (List.length ([] : List Int)) 0, .int .i64 0, .slice none (List.length ([] : List Int)) 0, .int .i64 0, .int .i64 0] rfl hF rfl rfl (by kernel_rfl) rfl rfl rfl fun w6 S5 hs hp hF => ?_
  have hM0 := hM0.stp hp
  have hs : Sep [SL (α := Int) 3 (.slice a2 (List.length x2) c2) x2, SL (α := Int) 3 (.slice a3 (List.length x3) c3) x3, BX b2 28 [.int .i64 0, .slice a2 (List.length x2) c2, .slice a3 (List.length x3) c3, .slice none (List.length ([] : List Int)) 0, .int .i64 0, .slice none (List.length ([] : List Int)) 0, .int .i64 0, .int .i64 0]] w6 S5 := hs
  refine from_end rfl (then_normal ?_)
  have hbr := (hs.bx 2 rfl)
  have hs : Sep [SL (α := Int) 3 (.slice none (List.length ([] : List Int)) 0) ([] : List Int), SL (α := Int) 3 (.slice a2 (List.length x2) c2) x2, SL (α := Int) 3 (.slice a3 (List.length x3) c3) x3, BX b2 28 [.int .i64 0, .slice a2 (List.length x2) c2, .slice a3 (List.length x3) c3, .slice none (List.length ([] : List Int)) 0, .int .i64 0, .slice none (List.length ([] : List Int)) 0, .int .i64 0, .int .i64 0]] w6 S5 := hs.cons_nil (α := Int) 3
  have hs : Sep [SL (α := Int) 3 (.slice none (List.length ([] : List Int)) 0) ([] : List Int), SL (α := Int) 3 (.slice none (List.length ([] : List Int)) 0) ([] : List Int), SL (α := Int) 3 (.slice a2 (List.length x2) c2) x2, SL (α := Int) 3 (.slice a3 (List.length x3) c3) x3, BX b2 28 [.int .i64 0, .slice a2 (List.length x2) c2, .slice a3 (List.length x3) c3, .slice none (List.length ([] : List Int)) 0, .int .i64 0, .slice none (List.length ([] : List Int)) 0, .int .i64 0, .int .i64 0]] w6 S5 := hs.cons_nil (α := Int) 3
  obtain rfl := Option.some.inj h
  have hs : Sep [SL (α := Int) 3 (.slice a2 (List.length x2) c2) x2, SL (α := Int) 3 (.slice a3 (List.length x3) c3) x3, SL (α := Int) 3 (.slice none (List.length ([] : List Int)) 0) ([] : List Int), SL (α := Int) 3 (.slice none (List.length ([] : List Int)) 0) ([] : List Int)] w6 S5 := Sep.pick [2, 3, 1, 0] hs (by decide) rfl
  exact wp_ret (retS rfl hF ty28 rfl rfl hbr rfl ⟨_, rfl, a2, c2, a3, c3, none, 0, none, 0, rfl, S5, hM0.out, hs⟩)

theorem spec_l05Why_ok (p0 : D.Program) (p1 : D.State) (p2 : D.Ins) {r : Int} (h : spec_l05Why p0 p1 p2 = some r) {w : World} {G0 : Nat → Prop} {va0 : Value} (ra0 : RV w G0 va0 p0) {G1 : Nat → Prop} {va1 : Value} (ra1 : RV w G1 va1 p1) :
    Calls Try.prog 65 [va0, va1, .agg #[.int .i64 p2.Op, .int .i64 p2.A, .int .i64 p2.B, .int .i64 p2.C]].toArray w fun e w' => ∃ v, e = .returned v ∧ v = .int .i64 r ∧ Chg Non w w' := by
  unfold spec_l05Why at h
  have hs := Sep.nil w Non
  have hM0 : Mem w Non (fun k => (G0 k ∨ G1 k) ∧ k < w.heap.size) w Non (fun k => (G0 k ∨ G1 k) ∧ k < w.heap.size) := Mem.start (fun _ h => h.elim) (fun _ h => h.2) (fun _ h => h.elim)
  have ra0 := ra0.sub (F' := (fun k => (G0 k ∨ G1 k) ∧ k < w.heap.size)) (fun k hk h => ⟨.inl h, hk⟩)
  obtain ⟨v1, rfl, r1⟩ := RV.Program ra0
  obtain ⟨a1, c1, rfl, -⟩ := r1.slice
  have ra1 := ra1.sub (F' := (fun k => (G0 k ∨ G1 k) ∧ k < w.heap.size)) (fun k hk h => ⟨.inr (h), hk⟩)
  obtain ⟨v2, v3, v4, v5, rfl, r2, r3, r4, r5⟩ := RV.State ra1
  obtain ⟨a2, c2, rfl, -⟩ := r2.slice
  obtain ⟨a3, c3, rfl, -⟩ := r3.slice
  obtain ⟨a4, c4, rfl, -⟩ := r4.slice
  obtain ⟨a5, c5, rfl, -⟩ := r5.slice
  refine enter (N := 86) Try.func65 rfl Try.ntmps65 rfl fun fr hF => ?_
  refine wp_seq (wp_text' ?_)
  refine q_box hs hM0 [.int .i64 p0.W, .int .i64 p0.Mem, .int .i64 p0.In, .slice a1 (List.length p0.Code) c1] rfl rfl hF rfl rfl fun b1 w1 S1 fr hs hp hF => ?_
  have r1 := r1.stp hM0 hp
  have r2 := r2.stp hM0 hp
  have r3 := r3.stp hM0 hp
  have r4 := r4.stp hM0 hp
  have r5 := r5.stp hM0 hp
  have hM0 := hM0.stp hp
  have hs : Sep [BX b1 32 [.int .i64 p0.W, .int .i64 p0.Mem, .int .i64 p0.In, .slice a1 (List.length p0.Code) c1]] w1 S1 := hs
  refine q_box hs hM0 [.int .i64 p1.Pc, .slice a2 (List.length p1.Regs) c2, .slice a3 (List.length p1.Mem) c3, .slice a4 (List.length p1.Stack) c4, .int .i64 p1.In, .slice a5 (List.length p1.Out) c5, .int .i64 p1.Code, .int .i64 p1.Steps] rfl rfl hF rfl rfl fun b2 w2 S2 fr hs hp hF => ?_
  have r2 := r2.stp hM0 hp
  have r3 := r3.stp hM0 hp
  have r4 := r4.stp hM0 hp
  have r5 := r5.stp hM0 hp
  have r1 := r1.stp hM0 hp
  have hM0 := hM0.stp hp
  have hs : Sep [BX b2 28 [.int .i64 p1.Pc, .slice a2 (List.length p1.Regs) c2, .slice a3 (List.length p1.Mem) c3, .slice a4 (List.length p1.Stack) c4, .int .i64 p1.In, .slice a5 (List.length p1.Out) c5, .int .i64 p1.Code, .int .i64 p1.Steps], BX b1 32 [.int .i64 p0.W, .int .i64 p0.Mem, .int .i64 p0.In, .slice a1 (List.length p0.Code) c1]] w2 S2 := hs
  refine q_box hs hM0 [.int .i64 p2.Op, .int .i64 p2.A, .int .i64 p2.B, .int .i64 p2.C] rfl rfl hF rfl rfl fun b3 w3 S3 fr hs hp hF => ?_
  have r2 := r2.stp hM0 hp
  have r3 := r3.stp hM0 hp
  have r4 := r4.stp hM0 hp
  have r5 := r5.stp hM0 hp
  have r1 := r1.stp hM0 hp
  have hM0 := hM0.stp hp
  have hs : Sep [BX b3 66 [.int .i64 p2.Op, .int .i64 p2.A, .int .i64 p2.B, .int .i64 p2.C], BX b2 28 [.int .i64 p1.Pc, .slice a2 (List.length p1.Regs) c2, .slice a3 (List.length p1.Mem) c3, .slice a4 (List.length p1.Stack) c4, .int .i64 p1.In, .slice a5 (List.length p1.Out) c5, .int .i64 p1.Code, .int .i64 p1.Steps], BX b1 32 [.int .i64 p0.W, .int .i64 p0.Mem, .int .i64 p0.In, .slice a1 (List.length p0.Code) c1]] w3 S3 := hs
  refine from_pure 1 [(3, .pointer (some ⟨b1, 0, none⟩)), (4, .pointer (some ⟨b2, 0, none⟩)), (5, .pointer (some ⟨b3, 0, none⟩))] hF (by kernel_rfl) fun fr hF => ?_
  refine from_end rfl (then_normal ?_)
  refine wp_seq ?_
  refine wp_seq (wp_text' ?_)
  refine from_pure 1 [(3, .pointer (some ⟨b1, 0, none⟩)), (4, .pointer (some ⟨b2, 0, none⟩)), (5, .pointer (some ⟨b3, 0, none⟩)), (7, .pointer (some ⟨b3, 0, none⟩))] hF (by kernel_rfl) fun fr hF => ?_
  refine s_loadBox (.int .i64 p2.Op) ty3 rfl rfl hF rfl (hs.bx 0 rfl) rfl rfl fun fr hF => ?_
  refine from_end rfl (then_normal ?_)
  refine (wp_block ?_)
  refine wp_seq (wp_pure [(3, .pointer (some ⟨b1, 0, none⟩)), (4, .pointer (some ⟨b2, 0, none⟩)), (5, .pointer (some ⟨b3, 0, none⟩)), (8, .int .i64 p2.Op), (9, .bool (p2.Op == 5))] hF (by kernel_rfl) fun fr hF => then_normal ?_)
  refine (wp_if hF (b := (p2.Op == 5)) rfl (fun hb => ?_) (fun hb => ?_))
  · replace h := iteT hb h
    have hs : Sep [BX b2 28 [.int .i64 p1.Pc, .slice a2 (List.length p1.Regs) c2, .slice a3 (List.length p1.Mem) c3, .slice a4 (List.length p1.Stack) c4, .int .i64 p1.In, .slice a5 (List.length p1.Out) c5, .int .i64 p1.Code, .int .i64 p1.Steps], BX b1 32 [.int .i64 p0.W, .int .i64 p0.Mem, .int .i64 p0.In, .slice a1 (List.length p0.Code) c1]] w3 S3 := Sep.pick [1, 2] hs (by decide) rfl
    refine wp_seq (wp_text' ?_)
    refine from_pure 1 [(3, .pointer (some ⟨b1, 0, none⟩)), (11, .pointer (some ⟨b2, 4, none⟩))] hF (by kernel_rfl) fun fr hF => ?_
    refine s_loadBox (.int .i64 p1.In) ty3 rfl rfl hF rfl (hs.bx 0 rfl) rfl rfl fun fr hF => ?_
    have hs : Sep [BX b1 32 [.int .i64 p0.W, .int .i64 p0.Mem, .int .i64 p0.In, .slice a1 (List.length p0.Code) c1]] w3 S3 := Sep.pick [1] hs (by decide) rfl
    refine from_pure 1 [(12, .int .i64 p1.In), (13, .pointer (some ⟨b1, 2, none⟩))] hF (by kernel_rfl) fun fr hF => ?_
    refine s_loadBox (.int .i64 p0.In) ty3 rfl rfl hF rfl (hs.bx 0 rfl) rfl rfl fun fr hF => ?_
    have hs : Sep [] w3 S3 := Sep.pick [] hs (by decide) rfl
    refine from_pure 1 [(15, .bool (p1.In == p0.In))] hF (by kernel_rfl) fun fr hF => ?_
    refine from_end rfl (then_normal ?_)
    refine (wp_if hF (b := (p1.In == p0.In)) rfl (fun hb => ?_) (fun hb => ?_))
    · replace h := iteT hb h
      refine wp_seq (wp_pure [(6, .int .i64 3)] hF (by kernel_rfl) fun fr hF => then_normal ?_)
      obtain rfl := Option.some.inj h
      exact wp_ret (blk_ret (then_ret (ret1 rfl hF rfl ⟨_, rfl, rfl, hM0.chg⟩)))
    replace h := iteF hb h
    refine (wp_skip ?_)
    refine blk_normal (then_normal ?_)
    refine wp_seq (wp_pure [(6, .int .i64 0)] hF (by kernel_rfl) fun fr hF => then_normal ?_)
    obtain rfl := Option.some.inj h
    exact wp_ret (ret1 rfl hF rfl ⟨_, rfl, rfl, hM0.chg⟩)
  replace h := iteF hb h
  refine wp_seq (wp_pure [(3, .pointer (some ⟨b1, 0, none⟩)), (4, .pointer (some ⟨b2, 0, none⟩)), (5, .pointer (some ⟨b3, 0, none⟩)), (8, .int .i64 p2.Op), (16, .bool (p2.Op == 6))] hF (by kernel_rfl) fun fr hF => then_normal ?_)
  refine (wp_if hF (b := (p2.Op == 6)) rfl (fun hb => ?_) (fun hb => ?_))
  · replace h := iteT hb h
    have hs : Sep [BX b2 28 [.int .i64 p1.Pc, .slice a2 (List.length p1.Regs) c2, .slice a3 (List.length p1.Mem) c3, .slice a4 (List.length p1.Stack) c4, .int .i64 p1.In, .slice a5 (List.length p1.Out) c5, .int .i64 p1.Code, .int .i64 p1.Steps]] w3 S3 := Sep.pick [1] hs (by decide) rfl
    refine wp_seq (wp_text' ?_)
    refine from_pure 1 [(18, .pointer (some ⟨b2, 5, none⟩))] hF (by kernel_rfl) fun fr hF => ?_
    refine s_loadBox (.slice a5 (List.length p1.Out) c5) ty26 rfl rfl hF rfl (hs.bx 0 rfl) rfl rfl fun fr hF => ?_
    have hs : Sep [] w3 S3 := Sep.pick [] hs (by decide) rfl
    refine from_pure 2 [(21, .bool ((len p1.Out) == 6))] hF (by kernel_rfl) fun fr hF => ?_
    refine from_end rfl (then_normal ?_)
    refine (wp_if hF (b := ((len p1.Out) == 6)) rfl (fun hb => ?_) (fun hb => ?_))
    · replace h := iteT hb h
      refine wp_seq (wp_pure [(6, .int .i64 4)] hF (by kernel_rfl) fun fr hF => then_normal ?_)
      obtain rfl := Option.some.inj h
      exact wp_ret (blk_ret (then_ret (ret1 rfl hF rfl ⟨_, rfl, rfl, hM0.chg⟩)))
    replace h := iteF hb h
    refine (wp_skip ?_)
    refine blk_normal (then_normal ?_)
    refine wp_seq (wp_pure [(6, .int .i64 0)] hF (by kernel_rfl) fun fr hF => then_normal ?_)
    obtain rfl := Option.some.inj h
    exact wp_ret (ret1 rfl hF rfl ⟨_, rfl, rfl, hM0.chg⟩)
  replace h := iteF hb h
  refine wp_seq (wp_pure [(3, .pointer (some ⟨b1, 0, none⟩)), (4, .pointer (some ⟨b2, 0, none⟩)), (5, .pointer (some ⟨b3, 0, none⟩)), (8, .int .i64 p2.Op), (22, .bool (p2.Op == 7))] hF (by kernel_rfl) fun fr hF => then_normal ?_)
  refine (wp_if hF (b := (p2.Op == 7)) rfl (fun hb => ?_) (fun hb => ?_))
  · replace h := iteT hb h
    obtain ⟨x1, hx1, h⟩ := bindE h
    refine wp_seq (region_bm 9 [0, 1, 0, 4, 15, 31, 0, 64, 255] [true, false, true, false, false, false, true, false, true]
        [.eq (.pointer (some ⟨b2, 1, none⟩)), .eq (.slice a2 (List.length p1.Regs) c2), .eq (.pointer (some ⟨b3, 2, none⟩)), .eq (.int .i64 p2.B), .is fun v w => ElemP w (fun k => k < w3.heap.size) v (x1 : Int), .eq (.int .i64 x1), .eq (.pointer (some ⟨b1, 1, none⟩)), .eq (.int .i64 p0.Mem), .eq (.bool (decide (x1 ≥ p0.Mem)))]
        [(32, .bool (decide (x1 ≥ p0.Mem)))] mix hF (by kernel_rfl) (by kernel_rfl) (by kernel_rfl) (by kernel_rfl) ⟨Pd.monoO_eq, Pd.monoO_eq, (Pd.monoO_is mono_elem), Pd.monoO_eq, Pd.monoO_eq, trivial⟩ (fun ow hG => ⟨np_to ow (np_loadBox hG hF ty26 rfl rfl (hs.bx 1 rfl) rfl rfl rfl), np_to ow (np_loadBox hG hF ty3 rfl rfl (hs.bx 0 rfl) rfl rfl rfl), np_to ow (np_index hG hF ty3 Try.underlying26 rfl rfl (RV.sub (r2) fun k hk _ => hk) rfl rfl (fun hg => ⟨get?_nn hx1, get?_at hx1⟩)), np_to ow (np_loadF (z := x1) (i := 4) hG hF ty3 rfl rfl rfl rfl rfl rfl rfl), np_to ow (np_loadBox hG hF ty3 rfl rfl (hs.bx 2 rfl) rfl rfl rfl), trivial⟩) (by kernel_rfl) fun ow fr w4 hF hE hc => ?_)
    have r2 := r2.ext hc
    have r3 := r3.ext hc
    have r4 := r4.ext hc
    have r5 := r5.ext hc
    have r1 := r1.ext hc
    have hs := hs.ext hc
    have hM0 := hM0.ext hc
    have hs : Sep [] w4 S3 := Sep.pick [] hs (by decide) rfl
    refine from_end rfl (then_normal ?_)
    refine (wp_if hF (b := (decide (x1 ≥ p0.Mem))) rfl (fun hb => ?_) (fun hb => ?_))
    · replace h := iteT hb h
      refine wp_seq (wp_pure [(6, .int .i64 5)] hF (by kernel_rfl) fun fr hF => then_normal ?_)
      obtain rfl := Option.some.inj h
      exact wp_ret (blk_ret (then_ret (ret1 rfl hF rfl ⟨_, rfl, rfl, hM0.chg⟩)))
    replace h := iteF hb h
    refine (wp_skip ?_)
    refine blk_normal (then_normal ?_)
    refine wp_seq (wp_pure [(6, .int .i64 0)] hF (by kernel_rfl) fun fr hF => then_normal ?_)
    obtain rfl := Option.some.inj h
    exact wp_ret (ret1 rfl hF rfl ⟨_, rfl, rfl, hM0.chg⟩)
  replace h := iteF hb h
  refine wp_seq (wp_pure [(3, .pointer (some ⟨b1, 0, none⟩)), (4, .pointer (some ⟨b2, 0, none⟩)), (5, .pointer (some ⟨b3, 0, none⟩)), (8, .int .i64 p2.Op), (33, .bool (p2.Op == 8))] hF (by kernel_rfl) fun fr hF => then_normal ?_)
  refine (wp_if hF (b := (p2.Op == 8)) rfl (fun hb => ?_) (fun hb => ?_))
  · replace h := iteT hb h
    obtain ⟨x2, hx2, h⟩ := bindE h
    refine wp_seq (region_bm 9 [0, 1, 0, 4, 15, 31, 0, 64, 255] [true, false, true, false, false, false, true, false, true]
        [.eq (.pointer (some ⟨b2, 1, none⟩)), .eq (.slice a2 (List.length p1.Regs) c2), .eq (.pointer (some ⟨b3, 1, none⟩)), .eq (.int .i64 p2.A), .is fun v w => ElemP w (fun k => k < w3.heap.size) v (x2 : Int), .eq (.int .i64 x2), .eq (.pointer (some ⟨b1, 1, none⟩)), .eq (.int .i64 p0.Mem), .eq (.bool (decide (x2 ≥ p0.Mem)))]
        [(43, .bool (decide (x2 ≥ p0.Mem)))] mix hF (by kernel_rfl) (by kernel_rfl) (by kernel_rfl) (by kernel_rfl) ⟨Pd.monoO_eq, Pd.monoO_eq, (Pd.monoO_is mono_elem), Pd.monoO_eq, Pd.monoO_eq, trivial⟩ (fun ow hG => ⟨np_to ow (np_loadBox hG hF ty26 rfl rfl (hs.bx 1 rfl) rfl rfl rfl), np_to ow (np_loadBox hG hF ty3 rfl rfl (hs.bx 0 rfl) rfl rfl rfl), np_to ow (np_index hG hF ty3 Try.underlying26 rfl rfl (RV.sub (r2) fun k hk _ => hk) rfl rfl (fun hg => ⟨get?_nn hx2, get?_at hx2⟩)), np_to ow (np_loadF (z := x2) (i := 4) hG hF ty3 rfl rfl rfl rfl rfl rfl rfl), np_to ow (np_loadBox hG hF ty3 rfl rfl (hs.bx 2 rfl) rfl rfl rfl), trivial⟩) (by kernel_rfl) fun ow fr w5 hF hE hc => ?_)
    have r2 := r2.ext hc
    have r3 := r3.ext hc
    have r4 := r4.ext hc
    have r5 := r5.ext hc
    have r1 := r1.ext hc
    have hs := hs.ext hc
    have hM0 := hM0.ext hc
    have hs : Sep [] w5 S3 := Sep.pick [] hs (by decide) rfl
    refine from_end rfl (then_normal ?_)
    refine (wp_if hF (b := (decide (x2 ≥ p0.Mem))) rfl (fun hb => ?_) (fun hb => ?_))
    · replace h := iteT hb h
      refine wp_seq (wp_pure [(6, .int .i64 5)] hF (by kernel_rfl) fun fr hF => then_normal ?_)
      obtain rfl := Option.some.inj h
      exact wp_ret (blk_ret (then_ret (ret1 rfl hF rfl ⟨_, rfl, rfl, hM0.chg⟩)))
    replace h := iteF hb h
    refine (wp_skip ?_)
    refine blk_normal (then_normal ?_)
    refine wp_seq (wp_pure [(6, .int .i64 0)] hF (by kernel_rfl) fun fr hF => then_normal ?_)
    obtain rfl := Option.some.inj h
    exact wp_ret (ret1 rfl hF rfl ⟨_, rfl, rfl, hM0.chg⟩)
  replace h := iteF hb h
  have hs : Sep [BX b3 66 [.int .i64 p2.Op, .int .i64 p2.A, .int .i64 p2.B, .int .i64 p2.C], BX b2 28 [.int .i64 p1.Pc, .slice a2 (List.length p1.Regs) c2, .slice a3 (List.length p1.Mem) c3, .slice a4 (List.length p1.Stack) c4, .int .i64 p1.In, .slice a5 (List.length p1.Out) c5, .int .i64 p1.Code, .int .i64 p1.Steps]] w3 S3 := Sep.pick [0, 1] hs (by decide) rfl
  refine wp_seq (wp_pure [(4, .pointer (some ⟨b2, 0, none⟩)), (5, .pointer (some ⟨b3, 0, none⟩)), (8, .int .i64 p2.Op), (44, .bool (p2.Op == 3))] hF (by kernel_rfl) fun fr hF => then_normal ?_)
  refine (wp_if hF (b := (p2.Op == 3)) rfl (fun hb => ?_) (fun hb => ?_))
  · replace h := iteT hb h
    obtain ⟨x3, hx3, h⟩ := bindE h
    refine wp_seq (region_b [] [true, false, true, true, true, false, true, true, true, true, false, true, false, false, false, true, true]
        [.eq (.pointer (some ⟨b3, 3, none⟩)), .eq (.int .i64 p2.C), .eq (.bool (p2.C == 6)), .eq (.bool (p2.C == 6)), .eq (.pointer (some ⟨b3, 3, none⟩)), .eq (.int .i64 p2.C), .eq (.bool (p2.C == 7)), .eq (.bool ((p2.C == 6) || (p2.C == 7))), .eq (.bool ((p2.C == 6) || (p2.C == 7))), .eq (.pointer (some ⟨b2, 1, none⟩)), .eq (.slice a2 (List.length p1.Regs) c2), .eq (.pointer (some ⟨b3, 2, none⟩)), .eq (.int .i64 p2.B), .is fun v w => ElemP w (fun k => k < w3.heap.size) v (x3 : Int), .eq (.int .i64 x3), .eq (.bool (x3 == 0)), .eq (.bool (((p2.C == 6) || (p2.C == 7)) && (x3 == 0)))]
        [(62, .bool (((p2.C == 6) || (p2.C == 7)) && (x3 == 0)))] mix hF (by kernel_rfl) (by kernel_rfl) (by kernel_rfl) ⟨Pd.mono_eq, Pd.mono_eq, Pd.mono_eq, Pd.mono_eq, mono_elem, Pd.mono_eq, trivial⟩ (fun hG => ⟨np_loadBox hG hF ty3 rfl rfl (hs.bx 0 rfl) rfl rfl rfl, np_loadBox hG hF ty3 rfl rfl (hs.bx 0 rfl) rfl rfl rfl, np_loadBox hG hF ty26 rfl rfl (hs.bx 1 rfl) rfl rfl rfl, np_loadBox hG hF ty3 rfl rfl (hs.bx 0 rfl) rfl rfl rfl, np_index hG hF ty3 Try.underlying26 rfl rfl (RV.sub (r2) fun k hk _ => hk) rfl rfl (fun hg => ⟨get?_nn (iteT hg.2 hx3), get?_at (iteT hg.2 hx3)⟩), np_loadF (z := x3) (i := 13) hG hF ty3 rfl rfl rfl rfl rfl rfl rfl, trivial⟩) (by kernel_rfl) fun fr w6 hF hE hc => then_normal ?_)
    have r2 := r2.ext hc
    have r3 := r3.ext hc
    have r4 := r4.ext hc
    have r5 := r5.ext hc
    have hs := hs.ext hc
    have hM0 := hM0.ext hc
    have hs : Sep [] w6 S3 := Sep.pick [] hs (by decide) rfl
    refine (wp_if hF (b := (((p2.C == 6) || (p2.C == 7)) && (x3 == 0))) rfl (fun hb => ?_) (fun hb => ?_))
    · replace h := iteT hb h
      refine wp_seq (wp_pure [(6, .int .i64 6)] hF (by kernel_rfl) fun fr hF => then_normal ?_)
      obtain rfl := Option.some.inj h
      exact wp_ret (blk_ret (then_ret (ret1 rfl hF rfl ⟨_, rfl, rfl, hM0.chg⟩)))
    replace h := iteF hb h
    refine (wp_skip ?_)
    refine blk_normal (then_normal ?_)
    refine wp_seq (wp_pure [(6, .int .i64 0)] hF (by kernel_rfl) fun fr hF => then_normal ?_)
    obtain rfl := Option.some.inj h
    exact wp_ret (ret1 rfl hF rfl ⟨_, rfl, rfl, hM0.chg⟩)
  replace h := iteF hb h
  refine wp_seq (wp_pure [(4, .pointer (some ⟨b2, 0, none⟩)), (5, .pointer (some ⟨b3, 0, none⟩)), (8, .int .i64 p2.Op), (63, .bool (p2.Op == 11))] hF (by kernel_rfl) fun fr hF => then_normal ?_)
  refine (wp_if hF (b := (p2.Op == 11)) rfl (fun hb => ?_) (fun hb => ?_))
  · replace h := iteT hb h
    have hs : Sep [BX b2 28 [.int .i64 p1.Pc, .slice a2 (List.length p1.Regs) c2, .slice a3 (List.length p1.Mem) c3, .slice a4 (List.length p1.Stack) c4, .int .i64 p1.In, .slice a5 (List.length p1.Out) c5, .int .i64 p1.Code, .int .i64 p1.Steps]] w3 S3 := Sep.pick [1] hs (by decide) rfl
    refine wp_seq (wp_text' ?_)
    refine from_pure 1 [(65, .pointer (some ⟨b2, 3, none⟩))] hF (by kernel_rfl) fun fr hF => ?_
    refine s_loadBox (.slice a4 (List.length p1.Stack) c4) ty26 rfl rfl hF rfl (hs.bx 0 rfl) rfl rfl fun fr hF => ?_
    have hs : Sep [] w3 S3 := Sep.pick [] hs (by decide) rfl
    refine from_pure 2 [(68, .bool ((len p1.Stack) == 3))] hF (by kernel_rfl) fun fr hF => ?_
    refine from_end rfl (then_normal ?_)
    refine (wp_if hF (b := ((len p1.Stack) == 3)) rfl (fun hb => ?_) (fun hb => ?_))
    · replace h := iteT hb h
      refine wp_seq (wp_pure [(6, .int .i64 7)] hF (by kernel_rfl) fun fr hF => then_normal ?_)
      obtain rfl := Option.some.inj h
      exact wp_ret (blk_ret (then_ret (ret1 rfl hF rfl ⟨_, rfl, rfl, hM0.chg⟩)))
    replace h := iteF hb h
    refine (wp_skip ?_)
    refine blk_normal (then_normal ?_)
    refine wp_seq (wp_pure [(6, .int .i64 0)] hF (by kernel_rfl) fun fr hF => then_normal ?_)
    obtain rfl := Option.some.inj h
    exact wp_ret (ret1 rfl hF rfl ⟨_, rfl, rfl, hM0.chg⟩)
  replace h := iteF hb h
  refine wp_seq (wp_pure [(4, .pointer (some ⟨b2, 0, none⟩)), (5, .pointer (some ⟨b3, 0, none⟩)), (8, .int .i64 p2.Op), (69, .bool (p2.Op == 12))] hF (by kernel_rfl) fun fr hF => then_normal ?_)
  refine (wp_if hF (b := (p2.Op == 12)) rfl (fun hb => ?_) (fun hb => ?_))
  · replace h := iteT hb h
    have hs : Sep [BX b2 28 [.int .i64 p1.Pc, .slice a2 (List.length p1.Regs) c2, .slice a3 (List.length p1.Mem) c3, .slice a4 (List.length p1.Stack) c4, .int .i64 p1.In, .slice a5 (List.length p1.Out) c5, .int .i64 p1.Code, .int .i64 p1.Steps]] w3 S3 := Sep.pick [1] hs (by decide) rfl
    refine wp_seq (wp_text' ?_)
    refine from_pure 1 [(71, .pointer (some ⟨b2, 3, none⟩))] hF (by kernel_rfl) fun fr hF => ?_
    refine s_loadBox (.slice a4 (List.length p1.Stack) c4) ty26 rfl rfl hF rfl (hs.bx 0 rfl) rfl rfl fun fr hF => ?_
    have hs : Sep [] w3 S3 := Sep.pick [] hs (by decide) rfl
    refine from_pure 2 [(74, .bool ((len p1.Stack) == 0))] hF (by kernel_rfl) fun fr hF => ?_
    refine from_end rfl (then_normal ?_)
    refine (wp_if hF (b := ((len p1.Stack) == 0)) rfl (fun hb => ?_) (fun hb => ?_))
    · replace h := iteT hb h
      refine wp_seq (wp_pure [(6, .int .i64 7)] hF (by kernel_rfl) fun fr hF => then_normal ?_)
      obtain rfl := Option.some.inj h
      exact wp_ret (blk_ret (then_ret (ret1 rfl hF rfl ⟨_, rfl, rfl, hM0.chg⟩)))
    replace h := iteF hb h
    refine (wp_skip ?_)
    refine blk_normal (then_normal ?_)
    refine wp_seq (wp_pure [(6, .int .i64 0)] hF (by kernel_rfl) fun fr hF => then_normal ?_)
    obtain rfl := Option.some.inj h
    exact wp_ret (ret1 rfl hF rfl ⟨_, rfl, rfl, hM0.chg⟩)
  replace h := iteF hb h
  refine wp_seq (wp_pure [(4, .pointer (some ⟨b2, 0, none⟩)), (5, .pointer (some ⟨b3, 0, none⟩)), (8, .int .i64 p2.Op), (75, .bool (p2.Op == 13))] hF (by kernel_rfl) fun fr hF => then_normal ?_)
  refine (wp_if hF (b := (p2.Op == 13)) rfl (fun hb => ?_) (fun hb => ?_))
  · replace h := iteT hb h
    refine wp_seq (wp_text' ?_)
    refine from_pure 1 [(5, .pointer (some ⟨b3, 0, none⟩)), (77, .pointer (some ⟨b2, 1, none⟩))] hF (by kernel_rfl) fun fr hF => ?_
    refine s_loadBox (.slice a2 (List.length p1.Regs) c2) ty26 rfl rfl hF rfl (hs.bx 1 rfl) rfl rfl fun fr hF => ?_
    have hs : Sep [BX b3 66 [.int .i64 p2.Op, .int .i64 p2.A, .int .i64 p2.B, .int .i64 p2.C]] w3 S3 := Sep.pick [0] hs (by decide) rfl
    refine from_pure 1 [(78, .slice a2 (List.length p1.Regs) c2), (79, .pointer (some ⟨b3, 1, none⟩))] hF (by kernel_rfl) fun fr hF => ?_
    refine s_loadBox (.int .i64 p2.A) ty3 rfl rfl hF rfl (hs.bx 0 rfl) rfl rfl fun fr hF => ?_
    have hs : Sep [] w3 S3 := Sep.pick [] hs (by decide) rfl
    obtain ⟨x4, hx4, h⟩ := bindE h
    refine s_elemF (z := x4) (.int .i64 x4) ty3 Try.underlying26 rfl rfl rfl rfl rfl hF rfl (r2) rfl (get?_nn hx4) (get?_at hx4) rfl fun p fr hF => ?_
    refine from_pure 1 [(83, .bool (x4 == 0))] hF (by kernel_rfl) fun fr hF => ?_
    refine from_end rfl (then_normal ?_)
    refine (wp_if hF (b := (x4 == 0)) rfl (fun hb => ?_) (fun hb => ?_))
    · replace h := iteT hb h
      refine wp_seq (wp_pure [(6, .int .i64 8)] hF (by kernel_rfl) fun fr hF => then_normal ?_)
      obtain rfl := Option.some.inj h
      exact wp_ret (blk_ret (then_ret (ret1 rfl hF rfl ⟨_, rfl, rfl, hM0.chg⟩)))
    replace h := iteF hb h
    refine (wp_skip ?_)
    refine blk_normal (then_normal ?_)
    refine wp_seq (wp_pure [(6, .int .i64 0)] hF (by kernel_rfl) fun fr hF => then_normal ?_)
    obtain rfl := Option.some.inj h
    exact wp_ret (ret1 rfl hF rfl ⟨_, rfl, rfl, hM0.chg⟩)
  replace h := iteF hb h
  have hs : Sep [] w3 S3 := Sep.pick [] hs (by decide) rfl
  refine wp_seq (wp_pure [(84, .bool (p2.Op == 14))] hF (by kernel_rfl) fun fr hF => then_normal ?_)
  refine (wp_if hF (b := (p2.Op == 14)) rfl (fun hb => ?_) (fun hb => ?_))
  · replace h := iteT hb h
    refine wp_seq (wp_pure [(6, .int .i64 1)] hF (by kernel_rfl) fun fr hF => then_normal ?_)
    obtain rfl := Option.some.inj h
    exact wp_ret (blk_ret (then_ret (ret1 rfl hF rfl ⟨_, rfl, rfl, hM0.chg⟩)))
  replace h := iteF hb h
  refine (wp_skip ?_)
  refine blk_normal (then_normal ?_)
  refine wp_seq (wp_pure [(6, .int .i64 0)] hF (by kernel_rfl) fun fr hF => then_normal ?_)
  obtain rfl := Option.some.inj h
  exact wp_ret (ret1 rfl hF rfl ⟨_, rfl, rfl, hM0.chg⟩)

theorem spec_WordOf_ok (p0 : Int) (p1 : Int) {r : Int} (h : spec_WordOf p0 p1 = some r) {w : World} :
    Calls Try.prog 79 [.int .i64 p0, .int .i64 p1].toArray w fun e w' => ∃ v, e = .returned v ∧ v = .int .i64 r ∧ Chg Non w w' := by
  unfold spec_WordOf at h
  have hs := Sep.nil w Non
  have hM0 : Mem w Non (fun k => (False) ∧ k < w.heap.size) w Non (fun k => (False) ∧ k < w.heap.size) := Mem.start (fun _ h => h.elim) (fun _ h => h.2) (fun _ h => h.elim)
  refine enter (N := 13) Try.func79 rfl Try.ntmps79 rfl fun fr hF => ?_
  refine wp_seq (wp_pure [(0, .int .i64 p0), (1, .int .i64 p1)] hF (by kernel_rfl) fun fr hF => then_normal ?_)
  refine wp_seq ?_
  refine wp_seq (wp_text' ?_)
  refine from_pure 1 [(0, .int .i64 p0), (1, .int .i64 p1), (5, .int .i64 p0)] hF (by kernel_rfl) fun fr hF => ?_
  obtain ⟨x1, hx1, h⟩ := bindE h
  refine s_call [.int .i64 p0, .int .i64 1, .int .i64 16] Try.call52 rfl rfl hF rfl (spec_l01In_ok p0 1 16 hx1) fun v w1 fr hRes hF => ?_
  obtain ⟨rfl, hc⟩ := hRes
  have hs := hs.ext hc
  have hM0 := hM0.ext hc
  refine from_pure 1 [(0, .int .i64 p0), (1, .int .i64 p1), (7, .bool (!x1))] hF (by kernel_rfl) fun fr hF => ?_
  refine from_end rfl (then_normal ?_)
  refine (wp_if hF (b := (!x1)) rfl (fun hb => ?_) (fun hb => ?_))
  · replace h := iteT hb h
    refine wp_seq (wp_pure [(4, .int .i64 (-1))] hF (by kernel_rfl) fun fr hF => then_normal ?_)
    obtain rfl := Option.some.inj h
    exact wp_ret (then_ret (ret1 rfl hF rfl ⟨_, rfl, rfl, hM0.chg⟩))
  replace h := iteF hb h
  refine (wp_skip (then_normal ?_))
  refine wp_seq (wp_text' ?_)
  refine from_pure 2 [(8, .int .i64 p1), (9, .int .i64 p0)] hF (by kernel_rfl) fun fr hF => ?_
  obtain ⟨x2, hx2, h⟩ := bindE h
  refine s_shl rfl rfl hF rfl rfl hx2 fun fr hF => ?_
  refine from_pure 3 [(4, .int .i64 (band p1 (w64 (x2 - 1))))] hF (by kernel_rfl) fun fr hF => ?_
  refine from_end rfl (then_normal ?_)
  obtain rfl := Option.some.inj h
  exact wp_ret (ret1 rfl hF rfl ⟨_, rfl, rfl, hM0.chg⟩)

theorem spec_SignedOf_ok (p0 : Int) (p1 : Int) {r : Int} (h : spec_SignedOf p0 p1 = some r) {w : World} :
    Calls Try.prog 80 [.int .i64 p0, .int .i64 p1].toArray w fun e w' => ∃ v, e = .returned v ∧ v = .int .i64 r ∧ Chg Non w w' := by
  unfold spec_SignedOf at h
  have hs := Sep.nil w Non
  have hM0 : Mem w Non (fun k => (False) ∧ k < w.heap.size) w Non (fun k => (False) ∧ k < w.heap.size) := Mem.start (fun _ h => h.elim) (fun _ h => h.2) (fun _ h => h.elim)
  refine enter (N := 19) Try.func80 rfl Try.ntmps80 rfl fun fr hF => ?_
  refine wp_seq (wp_pure [(0, .int .i64 p0), (1, .int .i64 p1)] hF (by kernel_rfl) fun fr hF => then_normal ?_)
  refine wp_seq ?_
  refine wp_seq (wp_text' ?_)
  refine from_pure 2 [(0, .int .i64 p0), (1, .int .i64 p1), (5, .int .i64 p0), (6, .int .i64 p1)] hF (by kernel_rfl) fun fr hF => ?_
  obtain ⟨x1, hx1, h⟩ := bindE h
  refine s_call [.int .i64 p0, .int .i64 p1] Try.call57 rfl rfl hF rfl (spec_WordOk_ok p0 p1 hx1) fun v w1 fr hRes hF => ?_
  obtain ⟨rfl, hc⟩ := hRes
  have hs := hs.ext hc
  have hM0 := hM0.ext hc
  refine from_pure 1 [(0, .int .i64 p0), (1, .int .i64 p1), (8, .bool (!x1))] hF (by kernel_rfl) fun fr hF => ?_
  refine from_end rfl (then_normal ?_)
  refine (wp_if hF (b := (!x1)) rfl (fun hb => ?_) (fun hb => ?_))
  · replace h := iteT hb h
    refine wp_seq (wp_pure [(4, .int .i64 0)] hF (by kernel_rfl) fun fr hF => then_normal ?_)
    obtain rfl := Option.some.inj h
    exact wp_ret (then_ret (ret1 rfl hF rfl ⟨_, rfl, rfl, hM0.chg⟩))
  replace h := iteF hb h
  refine (wp_skip (then_normal ?_))
  refine wp_seq ?_
  refine wp_seq (wp_text' ?_)
  refine from_pure 3 [(0, .int .i64 p0), (1, .int .i64 p1), (9, .int .i64 p1), (11, .int .i64 (w64 (p0 - 1)))] hF (by kernel_rfl) fun fr hF => ?_
  obtain ⟨x2, hx2, h⟩ := bindE h
  refine s_shr rfl rfl hF rfl rfl hx2 fun fr hF => ?_
  refine from_pure 1 [(0, .int .i64 p0), (1, .int .i64 p1), (13, .bool (x2 == 1))] hF (by kernel_rfl) fun fr hF => ?_
  refine from_end rfl (then_normal ?_)
  refine (wp_if hF (b := (x2 == 1)) rfl (fun hb => ?_) (fun hb => ?_))
  · replace h := iteT hb h
    refine wp_seq (wp_text' ?_)
    refine from_pure 2 [(14, .int .i64 p1), (15, .int .i64 p0)] hF (by kernel_rfl) fun fr hF => ?_
    obtain ⟨x3, hx3, h⟩ := bindE h
    refine s_shl rfl rfl hF rfl rfl hx3 fun fr hF => ?_
    refine from_pure 2 [(4, .int .i64 (w64 (p1 - x3)))] hF (by kernel_rfl) fun fr hF => ?_
    refine from_end rfl (then_normal ?_)
    obtain rfl := Option.some.inj h
    exact wp_ret (then_ret (ret1 rfl hF rfl ⟨_, rfl, rfl, hM0.chg⟩))
  replace h := iteF hb h
  refine (wp_skip (then_normal ?_))
  refine wp_seq (wp_pure [(4, .int .i64 p1)] hF (by kernel_rfl) fun fr hF => then_normal ?_)
  obtain rfl := Option.some.inj h
  exact wp_ret (ret1 rfl hF rfl ⟨_, rfl, rfl, hM0.chg⟩)

theorem spec_l01Truth_ok (p0 : Bool) {r : Int} (h : spec_l01Truth p0 = some r) {w : World} :
    Calls Try.prog 81 [.bool p0].toArray w fun e w' => ∃ v, e = .returned v ∧ v = .int .i64 r ∧ Chg Non w w' := by
  unfold spec_l01Truth at h
  have hs := Sep.nil w Non
  have hM0 : Mem w Non (fun k => (False) ∧ k < w.heap.size) w Non (fun k => (False) ∧ k < w.heap.size) := Mem.start (fun _ h => h.elim) (fun _ h => h.2) (fun _ h => h.elim)
  refine enter (N := 4) Try.func81 rfl Try.ntmps81 rfl fun fr hF => ?_
  refine wp_seq (wp_pure [(0, .bool p0)] hF (by kernel_rfl) fun fr hF => then_normal ?_)
  refine wp_seq ?_
  refine wp_seq (wp_pure [(3, .bool p0)] hF (by kernel_rfl) fun fr hF => then_normal ?_)
  refine (wp_if hF (b := p0) rfl (fun hb => ?_) (fun hb => ?_))
  · replace h := iteT hb h
    refine wp_seq (wp_pure [(2, .int .i64 1)] hF (by kernel_rfl) fun fr hF => then_normal ?_)
    obtain rfl := Option.some.inj h
    exact wp_ret (then_ret (ret1 rfl hF rfl ⟨_, rfl, rfl, hM0.chg⟩))
  replace h := iteF hb h
  refine (wp_skip (then_normal ?_))
  refine wp_seq (wp_pure [(2, .int .i64 0)] hF (by kernel_rfl) fun fr hF => then_normal ?_)
  obtain rfl := Option.some.inj h
  exact wp_ret (ret1 rfl hF rfl ⟨_, rfl, rfl, hM0.chg⟩)

theorem spec_ApplyBinary_ok (p0 : Int) (p1 : Int) (p2 : Int) (p3 : Int) {r : Int} (h : spec_ApplyBinary p0 p1 p2 p3 = some r) {w : World} :
    Calls Try.prog 66 [.int .i64 p0, .int .i64 p1, .int .i64 p2, .int .i64 p3].toArray w fun e w' => ∃ v, e = .returned v ∧ v = .int .i64 r ∧ Chg Non w w' := by
  unfold spec_ApplyBinary at h
  have hs := Sep.nil w Non
  have hM0 : Mem w Non (fun k => (False) ∧ k < w.heap.size) w Non (fun k => (False) ∧ k < w.heap.size) := Mem.start (fun _ h => h.elim) (fun _ h => h.2) (fun _ h => h.elim)
  refine enter (N := 128) Try.func66 rfl Try.ntmps66 rfl fun fr hF => ?_
  refine wp_seq (wp_pure [(0, .int .i64 p0), (1, .int .i64 p1), (2, .int .i64 p2), (3, .int .i64 p3)] hF (by kernel_rfl) fun fr hF => then_normal ?_)
  refine wp_seq ?_
  obtain ⟨x1, hx1, h⟩ := bindE h
  obtain ⟨x2, hx2, h⟩ := bindE h
  refine wp_seq (region_b [] [true, true, false, true, true, true, true, false, true, true]
      [.eq (.int .i64 p1), .eq (.int .i64 p2), .eq (.bool x1), .eq (.bool (!x1)), .eq (.bool (!x1)), .eq (.int .i64 p1), .eq (.int .i64 p3), .eq (.bool x2), .eq (.bool (!x2)), .eq (.bool ((!x1) || (!x2)))]
      [(0, .int .i64 p0), (1, .int .i64 p1), (2, .int .i64 p2), (3, .int .i64 p3), (18, .bool ((!x1) || (!x2)))] mix hF (by kernel_rfl) (by kernel_rfl) (by kernel_rfl) ⟨Pd.mono_eq, Pd.mono_eq, trivial⟩ (fun hG => ⟨np_call [.int .i64 p1, .int .i64 p2] hG hF Try.call57 rfl rfl (fun w hC hg => (spec_WordOk_ok p1 p2 hx1).mono fun e w' ⟨v, he, hv, hc⟩ => ⟨v, he, hc, hv⟩), np_call [.int .i64 p1, .int .i64 p3] hG hF Try.call57 rfl rfl (fun w hC hg => (spec_WordOk_ok p1 p3 (iteF hg.2 hx2)).mono fun e w' ⟨v, he, hv, hc⟩ => ⟨v, he, hc, hv⟩), trivial⟩) (by kernel_rfl) fun fr w1 hF hE hc => then_normal ?_)
  have hs := hs.ext hc
  have hM0 := hM0.ext hc
  refine (wp_if hF (b := ((!x1) || (!x2))) rfl (fun hb => ?_) (fun hb => ?_))
  · replace h := iteT hb h
    refine wp_seq (wp_pure [(8, .int .i64 (-1))] hF (by kernel_rfl) fun fr hF => then_normal ?_)
    obtain rfl := Option.some.inj h
    exact wp_ret (then_ret (ret1 rfl hF rfl ⟨_, rfl, rfl, hM0.chg⟩))
  replace h := iteF hb h
  refine (wp_skip (then_normal ?_))
  refine wp_seq ?_
  refine wp_seq (wp_pure [(1, .int .i64 p1), (2, .int .i64 p2), (3, .int .i64 p3), (19, .int .i64 p0)] hF (by kernel_rfl) fun fr hF => then_normal ?_)
  refine (wp_block ?_)
  refine wp_seq (wp_pure [(1, .int .i64 p1), (2, .int .i64 p2), (3, .int .i64 p3), (19, .int .i64 p0), (20, .bool (p0 == 3))] hF (by kernel_rfl) fun fr hF => then_normal ?_)
  refine (wp_if hF (b := (p0 == 3)) rfl (fun hb => ?_) (fun hb => ?_))
  · replace h := iteT hb h
    refine wp_seq (wp_text' ?_)
    refine from_pure 4 [(22, .int .i64 p1), (25, .int .i64 (w64 (p2 + p3)))] hF (by kernel_rfl) fun fr hF => ?_
    obtain ⟨x3, hx3, h⟩ := bindE h
    refine s_call [.int .i64 p1, .int .i64 (w64 (p2 + p3))] Try.call79 rfl rfl hF rfl (spec_WordOf_ok p1 (w64 (p2 + p3)) hx3) fun v w2 fr hRes hF => ?_
    obtain ⟨rfl, hc⟩ := hRes
    have hs := hs.ext hc
    have hM0 := hM0.ext hc
    refine from_pure 1 [(8, .int .i64 x3)] hF (by kernel_rfl) fun fr hF => ?_
    refine from_end rfl (then_normal ?_)
    obtain rfl := Option.some.inj h
    exact wp_ret (blk_ret (then_ret (ret1 rfl hF rfl ⟨_, rfl, rfl, hM0.chg⟩)))
  replace h := iteF hb h
  refine wp_seq (wp_pure [(1, .int .i64 p1), (2, .int .i64 p2), (3, .int .i64 p3), (19, .int .i64 p0), (27, .bool (p0 == 4))] hF (by kernel_rfl) fun fr hF => then_normal ?_)
  refine (wp_if hF (b := (p0 == 4)) rfl (fun hb => ?_) (fun hb => ?_))
  · replace h := iteT hb h
    refine wp_seq (wp_text' ?_)
    refine from_pure 4 [(29, .int .i64 p1), (32, .int .i64 (w64 (p2 - p3)))] hF (by kernel_rfl) fun fr hF => ?_
    obtain ⟨x4, hx4, h⟩ := bindE h
    refine s_call [.int .i64 p1, .int .i64 (w64 (p2 - p3))] Try.call79 rfl rfl hF rfl (spec_WordOf_ok p1 (w64 (p2 - p3)) hx4) fun v w3 fr hRes hF => ?_
    obtain ⟨rfl, hc⟩ := hRes
    have hs := hs.ext hc
    have hM0 := hM0.ext hc
    refine from_pure 1 [(8, .int .i64 x4)] hF (by kernel_rfl) fun fr hF => ?_
    refine from_end rfl (then_normal ?_)
    obtain rfl := Option.some.inj h
    exact wp_ret (blk_ret (then_ret (ret1 rfl hF rfl ⟨_, rfl, rfl, hM0.chg⟩)))
  replace h := iteF hb h
  refine wp_seq (wp_pure [(1, .int .i64 p1), (2, .int .i64 p2), (3, .int .i64 p3), (19, .int .i64 p0), (34, .bool (p0 == 5))] hF (by kernel_rfl) fun fr hF => then_normal ?_)
  refine (wp_if hF (b := (p0 == 5)) rfl (fun hb => ?_) (fun hb => ?_))
  · replace h := iteT hb h
    refine wp_seq (wp_text' ?_)
    refine from_pure 4 [(36, .int .i64 p1), (39, .int .i64 (w64 (p2 * p3)))] hF (by kernel_rfl) fun fr hF => ?_
    obtain ⟨x5, hx5, h⟩ := bindE h
    refine s_call [.int .i64 p1, .int .i64 (w64 (p2 * p3))] Try.call79 rfl rfl hF rfl (spec_WordOf_ok p1 (w64 (p2 * p3)) hx5) fun v w4 fr hRes hF => ?_
    obtain ⟨rfl, hc⟩ := hRes
    have hs := hs.ext hc
    have hM0 := hM0.ext hc
    refine from_pure 1 [(8, .int .i64 x5)] hF (by kernel_rfl) fun fr hF => ?_
    refine from_end rfl (then_normal ?_)
    obtain rfl := Option.some.inj h
    exact wp_ret (blk_ret (then_ret (ret1 rfl hF rfl ⟨_, rfl, rfl, hM0.chg⟩)))
  replace h := iteF hb h
  refine wp_seq (wp_pure [(1, .int .i64 p1), (2, .int .i64 p2), (3, .int .i64 p3), (19, .int .i64 p0), (41, .bool (p0 == 6))] hF (by kernel_rfl) fun fr hF => then_normal ?_)
  refine (wp_if hF (b := (p0 == 6)) rfl (fun hb => ?_) (fun hb => ?_))
  · replace h := iteT hb h
    refine wp_seq ?_
    refine wp_seq (wp_pure [(1, .int .i64 p1), (2, .int .i64 p2), (3, .int .i64 p3), (44, .bool (p3 == 0))] hF (by kernel_rfl) fun fr hF => then_normal ?_)
    refine (wp_if hF (b := (p3 == 0)) rfl (fun hb => ?_) (fun hb => ?_))
    · replace h := iteT hb h
      refine wp_seq (wp_text' ?_)
      refine from_pure 1 [(45, .int .i64 p1)] hF (by kernel_rfl) fun fr hF => ?_
      obtain ⟨x6, hx6, h⟩ := bindE h
      refine s_shl rfl rfl hF rfl rfl hx6 fun fr hF => ?_
      refine from_pure 2 [(8, .int .i64 (w64 (x6 - 1)))] hF (by kernel_rfl) fun fr hF => ?_
      refine from_end rfl (then_normal ?_)
      obtain rfl := Option.some.inj h
      exact wp_ret (then_ret (blk_ret (then_ret (ret1 rfl hF rfl ⟨_, rfl, rfl, hM0.chg⟩))))
    replace h := iteF hb h
    refine (wp_skip (then_normal ?_))
    refine wp_seq (wp_text' ?_)
    refine from_pure 2 [(48, .int .i64 p2), (49, .int .i64 p3)] hF (by kernel_rfl) fun fr hF => ?_
    obtain ⟨x7, hx7, h⟩ := bindE h
    refine s_quo rfl rfl hF rfl rfl hx7 fun fr hF => ?_
    refine from_pure 1 [(8, .int .i64 x7)] hF (by kernel_rfl) fun fr hF => ?_
    refine from_end rfl (then_normal ?_)
    obtain rfl := Option.some.inj h
    exact wp_ret (blk_ret (then_ret (ret1 rfl hF rfl ⟨_, rfl, rfl, hM0.chg⟩)))
  replace h := iteF hb h
  refine wp_seq (wp_pure [(1, .int .i64 p1), (2, .int .i64 p2), (3, .int .i64 p3), (19, .int .i64 p0), (51, .bool (p0 == 7))] hF (by kernel_rfl) fun fr hF => then_normal ?_)
  refine (wp_if hF (b := (p0 == 7)) rfl (fun hb => ?_) (fun hb => ?_))
  · replace h := iteT hb h
    refine wp_seq ?_
    refine wp_seq (wp_pure [(2, .int .i64 p2), (3, .int .i64 p3), (54, .bool (p3 == 0))] hF (by kernel_rfl) fun fr hF => then_normal ?_)
    refine (wp_if hF (b := (p3 == 0)) rfl (fun hb => ?_) (fun hb => ?_))
    · replace h := iteT hb h
      refine wp_seq (wp_pure [(8, .int .i64 p2)] hF (by kernel_rfl) fun fr hF => then_normal ?_)
      obtain rfl := Option.some.inj h
      exact wp_ret (then_ret (blk_ret (then_ret (ret1 rfl hF rfl ⟨_, rfl, rfl, hM0.chg⟩))))
    replace h := iteF hb h
    refine (wp_skip (then_normal ?_))
    refine wp_seq (wp_text' ?_)
    refine from_pure 2 [(56, .int .i64 p2), (57, .int .i64 p3)] hF (by kernel_rfl) fun fr hF => ?_
    obtain ⟨x8, hx8, h⟩ := bindE h
    refine s_rem rfl rfl hF rfl rfl hx8 fun fr hF => ?_
    refine from_pure 1 [(8, .int .i64 x8)] hF (by kernel_rfl) fun fr hF => ?_
    refine from_end rfl (then_normal ?_)
    obtain rfl := Option.some.inj h
    exact wp_ret (blk_ret (then_ret (ret1 rfl hF rfl ⟨_, rfl, rfl, hM0.chg⟩)))
  replace h := iteF hb h
  refine wp_seq (wp_pure [(1, .int .i64 p1), (2, .int .i64 p2), (3, .int .i64 p3), (19, .int .i64 p0), (59, .bool (p0 == 8))] hF (by kernel_rfl) fun fr hF => then_normal ?_)
  refine (wp_if hF (b := (p0 == 8)) rfl (fun hb => ?_) (fun hb => ?_))
  · replace h := iteT hb h
    refine wp_seq (wp_pure [(8, .int .i64 (band p2 p3))] hF (by kernel_rfl) fun fr hF => then_normal ?_)
    obtain rfl := Option.some.inj h
    exact wp_ret (blk_ret (then_ret (ret1 rfl hF rfl ⟨_, rfl, rfl, hM0.chg⟩)))
  replace h := iteF hb h
  refine wp_seq (wp_pure [(1, .int .i64 p1), (2, .int .i64 p2), (3, .int .i64 p3), (19, .int .i64 p0), (64, .bool (p0 == 9))] hF (by kernel_rfl) fun fr hF => then_normal ?_)
  refine (wp_if hF (b := (p0 == 9)) rfl (fun hb => ?_) (fun hb => ?_))
  · replace h := iteT hb h
    refine wp_seq (wp_pure [(8, .int .i64 (bor p2 p3))] hF (by kernel_rfl) fun fr hF => then_normal ?_)
    obtain rfl := Option.some.inj h
    exact wp_ret (blk_ret (then_ret (ret1 rfl hF rfl ⟨_, rfl, rfl, hM0.chg⟩)))
  replace h := iteF hb h
  refine wp_seq (wp_pure [(1, .int .i64 p1), (2, .int .i64 p2), (3, .int .i64 p3), (19, .int .i64 p0), (69, .bool (p0 == 10))] hF (by kernel_rfl) fun fr hF => then_normal ?_)
  refine (wp_if hF (b := (p0 == 10)) rfl (fun hb => ?_) (fun hb => ?_))
  · replace h := iteT hb h
    refine wp_seq (wp_pure [(8, .int .i64 (bxor p2 p3))] hF (by kernel_rfl) fun fr hF => then_normal ?_)
    obtain rfl := Option.some.inj h
    exact wp_ret (blk_ret (then_ret (ret1 rfl hF rfl ⟨_, rfl, rfl, hM0.chg⟩)))
  replace h := iteF hb h
  refine wp_seq (wp_pure [(1, .int .i64 p1), (2, .int .i64 p2), (3, .int .i64 p3), (19, .int .i64 p0), (74, .bool (p0 == 11))] hF (by kernel_rfl) fun fr hF => then_normal ?_)
  refine (wp_if hF (b := (p0 == 11)) rfl (fun hb => ?_) (fun hb => ?_))
  · replace h := iteT hb h
    refine wp_seq ?_
    refine wp_seq (wp_pure [(1, .int .i64 p1), (2, .int .i64 p2), (3, .int .i64 p3), (78, .bool (decide (p3 ≥ p1)))] hF (by kernel_rfl) fun fr hF => then_normal ?_)
    refine (wp_if hF (b := (decide (p3 ≥ p1))) rfl (fun hb => ?_) (fun hb => ?_))
    · replace h := iteT hb h
      refine wp_seq (wp_pure [(8, .int .i64 0)] hF (by kernel_rfl) fun fr hF => then_normal ?_)
      obtain rfl := Option.some.inj h
      exact wp_ret (then_ret (blk_ret (then_ret (ret1 rfl hF rfl ⟨_, rfl, rfl, hM0.chg⟩))))
    replace h := iteF hb h
    refine (wp_skip (then_normal ?_))
    refine wp_seq (wp_text' ?_)
    refine from_pure 3 [(79, .int .i64 p1), (80, .int .i64 p2), (81, .int .i64 p3)] hF (by kernel_rfl) fun fr hF => ?_
    obtain ⟨x9, hx9, h⟩ := bindE h
    refine s_shl rfl rfl hF rfl rfl hx9 fun fr hF => ?_
    obtain ⟨x10, hx10, h⟩ := bindE h
    refine s_call [.int .i64 p1, .int .i64 x9] Try.call79 rfl rfl hF rfl (spec_WordOf_ok p1 x9 hx10) fun v w5 fr hRes hF => ?_
    obtain ⟨rfl, hc⟩ := hRes
    have hs := hs.ext hc
    have hM0 := hM0.ext hc
    refine from_pure 1 [(8, .int .i64 x10)] hF (by kernel_rfl) fun fr hF => ?_
    refine from_end rfl (then_normal ?_)
    obtain rfl := Option.some.inj h
    exact wp_ret (blk_ret (then_ret (ret1 rfl hF rfl ⟨_, rfl, rfl, hM0.chg⟩)))
  replace h := iteF hb h
  refine wp_seq (wp_pure [(1, .int .i64 p1), (2, .int .i64 p2), (3, .int .i64 p3), (19, .int .i64 p0), (84, .bool (p0 == 12))] hF (by kernel_rfl) fun fr hF => then_normal ?_)
  refine (wp_if hF (b := (p0 == 12)) rfl (fun hb => ?_) (fun hb => ?_))
  · replace h := iteT hb h
    refine wp_seq ?_
    refine wp_seq (wp_pure [(2, .int .i64 p2), (3, .int .i64 p3), (88, .bool (decide (p3 ≥ p1)))] hF (by kernel_rfl) fun fr hF => then_normal ?_)
    refine (wp_if hF (b := (decide (p3 ≥ p1))) rfl (fun hb => ?_) (fun hb => ?_))
    · replace h := iteT hb h
      refine wp_seq (wp_pure [(8, .int .i64 0)] hF (by kernel_rfl) fun fr hF => then_normal ?_)
      obtain rfl := Option.some.inj h
      exact wp_ret (then_ret (blk_ret (then_ret (ret1 rfl hF rfl ⟨_, rfl, rfl, hM0.chg⟩))))
    replace h := iteF hb h
    refine (wp_skip (then_normal ?_))
    refine wp_seq (wp_text' ?_)
    refine from_pure 2 [(89, .int .i64 p2), (90, .int .i64 p3)] hF (by kernel_rfl) fun fr hF => ?_
    obtain ⟨x11, hx11, h⟩ := bindE h
    refine s_shr rfl rfl hF rfl rfl hx11 fun fr hF => ?_
    refine from_pure 1 [(8, .int .i64 x11)] hF (by kernel_rfl) fun fr hF => ?_
    refine from_end rfl (then_normal ?_)
    obtain rfl := Option.some.inj h
    exact wp_ret (blk_ret (then_ret (ret1 rfl hF rfl ⟨_, rfl, rfl, hM0.chg⟩)))
  replace h := iteF hb h
  refine wp_seq (wp_pure [(1, .int .i64 p1), (2, .int .i64 p2), (3, .int .i64 p3), (19, .int .i64 p0), (92, .bool (p0 == 13))] hF (by kernel_rfl) fun fr hF => then_normal ?_)
  refine (wp_if hF (b := (p0 == 13)) rfl (fun hb => ?_) (fun hb => ?_))
  · replace h := iteT hb h
    refine wp_seq ?_
    refine wp_seq (wp_pure [(1, .int .i64 p1), (2, .int .i64 p2), (3, .int .i64 p3), (96, .bool (decide (p3 ≥ p1)))] hF (by kernel_rfl) fun fr hF => then_normal ?_)
    refine (wp_merge [(1, .int .i64 p1), (2, .int .i64 p2), (3, .int .i64 (cond (decide (p3 ≥ p1)) (w64 (p1 - 1)) p3))] hF (b := (decide (p3 ≥ p1))) rfl (fun hb => ?_) (fun hb => ?_) fun fr hF => then_normal ?_)
    · exact wp_pure [(1, .int .i64 p1), (2, .int .i64 p2), (3, .int .i64 (w64 (p1 - 1)))] hF (by kernel_rfl) fun fr hF => ⟨rfl, rfl, hF.eqs (by first | (simp only [hb]; done) | (simp only [hb]; rfl))⟩
    · exact wp_skip ⟨rfl, rfl, (hF.sub [(1, .int .i64 p1), (2, .int .i64 p2), (3, .int .i64 p3)] (by kernel_rfl)).eqs (by first | (simp only [hb]; done) | (simp only [hb]; rfl))⟩
    refine wp_seq (wp_text' ?_)
    refine from_pure 3 [(3, .int .i64 (cond (decide (p3 ≥ p1)) (w64 (p1 - 1)) p3)), (99, .int .i64 p1), (100, .int .i64 p1), (101, .int .i64 p2)] hF (by kernel_rfl) fun fr hF => ?_
    obtain ⟨x12, hx12, h⟩ := bindE h
    refine s_call [.int .i64 p1, .int .i64 p2] Try.call80 rfl rfl hF rfl (spec_SignedOf_ok p1 p2 hx12) fun v w6 fr hRes hF => ?_
    obtain ⟨rfl, hc⟩ := hRes
    have hs := hs.ext hc
    have hM0 := hM0.ext hc
    refine from_pure 1 [(99, .int .i64 p1), (102, .int .i64 x12), (103, .int .i64 (cond (decide (p3 ≥ p1)) (w64 (p1 - 1)) p3))] hF (by kernel_rfl) fun fr hF => ?_
    obtain ⟨x13, hx13, h⟩ := bindE h
    refine s_shr rfl rfl hF rfl rfl hx13 fun fr hF => ?_
    obtain ⟨x14, hx14, h⟩ := bindE h
    refine s_call [.int .i64 p1, .int .i64 x13] Try.call79 rfl rfl hF rfl (spec_WordOf_ok p1 x13 hx14) fun v w7 fr hRes hF => ?_
    obtain ⟨rfl, hc⟩ := hRes
    have hs := hs.ext hc
    have hM0 := hM0.ext hc
    refine from_pure 1 [(8, .int .i64 x14)] hF (by kernel_rfl) fun fr hF => ?_
    refine from_end rfl (then_normal ?_)
    obtain rfl := Option.some.inj h
    exact wp_ret (blk_ret (then_ret (ret1 rfl hF rfl ⟨_, rfl, rfl, hM0.chg⟩)))
  replace h := iteF hb h
  refine wp_seq (wp_pure [(1, .int .i64 p1), (2, .int .i64 p2), (3, .int .i64 p3), (19, .int .i64 p0), (106, .bool (p0 == 14))] hF (by kernel_rfl) fun fr hF => then_normal ?_)
  refine (wp_if hF (b := (p0 == 14)) rfl (fun hb => ?_) (fun hb => ?_))
  · replace h := iteT hb h
    refine wp_seq (wp_text' ?_)
    refine from_pure 3 [(110, .bool (p2 == p3))] hF (by kernel_rfl) fun fr hF => ?_
    obtain ⟨x15, hx15, h⟩ := bindE h
    refine s_call [.bool (p2 == p3)] Try.call81 rfl rfl hF rfl (spec_l01Truth_ok (p2 == p3) hx15) fun v w8 fr hRes hF => ?_
    obtain ⟨rfl, hc⟩ := hRes
    have hs := hs.ext hc
    have hM0 := hM0.ext hc
    refine from_pure 1 [(8, .int .i64 x15)] hF (by kernel_rfl) fun fr hF => ?_
    refine from_end rfl (then_normal ?_)
    obtain rfl := Option.some.inj h
    exact wp_ret (blk_ret (then_ret (ret1 rfl hF rfl ⟨_, rfl, rfl, hM0.chg⟩)))
  replace h := iteF hb h
  refine wp_seq (wp_pure [(1, .int .i64 p1), (2, .int .i64 p2), (3, .int .i64 p3), (19, .int .i64 p0), (112, .bool (p0 == 15))] hF (by kernel_rfl) fun fr hF => then_normal ?_)
  refine (wp_if hF (b := (p0 == 15)) rfl (fun hb => ?_) (fun hb => ?_))
  · replace h := iteT hb h
    refine wp_seq (wp_text' ?_)
    refine from_pure 3 [(116, .bool (decide (p2 < p3)))] hF (by kernel_rfl) fun fr hF => ?_
    obtain ⟨x16, hx16, h⟩ := bindE h
    refine s_call [.bool (decide (p2 < p3))] Try.call81 rfl rfl hF rfl (spec_l01Truth_ok (decide (p2 < p3)) hx16) fun v w9 fr hRes hF => ?_
    obtain ⟨rfl, hc⟩ := hRes
    have hs := hs.ext hc
    have hM0 := hM0.ext hc
    refine from_pure 1 [(8, .int .i64 x16)] hF (by kernel_rfl) fun fr hF => ?_
    refine from_end rfl (then_normal ?_)
    obtain rfl := Option.some.inj h
    exact wp_ret (blk_ret (then_ret (ret1 rfl hF rfl ⟨_, rfl, rfl, hM0.chg⟩)))
  replace h := iteF hb h
  refine wp_seq (wp_pure [(1, .int .i64 p1), (2, .int .i64 p2), (3, .int .i64 p3), (118, .bool (p0 == 16))] hF (by kernel_rfl) fun fr hF => then_normal ?_)
  refine (wp_if hF (b := (p0 == 16)) rfl (fun hb => ?_) (fun hb => ?_))
  · replace h := iteT hb h
    refine wp_seq (wp_text' ?_)
    refine from_pure 2 [(1, .int .i64 p1), (3, .int .i64 p3), (120, .int .i64 p1), (121, .int .i64 p2)] hF (by kernel_rfl) fun fr hF => ?_
    obtain ⟨x17, hx17, h⟩ := bindE h
    refine s_call [.int .i64 p1, .int .i64 p2] Try.call80 rfl rfl hF rfl (spec_SignedOf_ok p1 p2 hx17) fun v w10 fr hRes hF => ?_
    obtain ⟨rfl, hc⟩ := hRes
    have hs := hs.ext hc
    have hM0 := hM0.ext hc
    refine from_pure 2 [(122, .int .i64 x17), (123, .int .i64 p1), (124, .int .i64 p3)] hF (by kernel_rfl) fun fr hF => ?_
    obtain ⟨x18, hx18, h⟩ := bindE h
    refine s_call [.int .i64 p1, .int .i64 p3] Try.call80 rfl rfl hF rfl (spec_SignedOf_ok p1 p3 hx18) fun v w11 fr hRes hF => ?_
    obtain ⟨rfl, hc⟩ := hRes
    have hs := hs.ext hc
    have hM0 := hM0.ext hc
    refine from_pure 1 [(126, .bool (decide (x17 < x18)))] hF (by kernel_rfl) fun fr hF => ?_
    obtain ⟨x19, hx19, h⟩ := bindE h
    refine s_call [.bool (decide (x17 < x18))] Try.call81 rfl rfl hF rfl (spec_l01Truth_ok (decide (x17 < x18)) hx19) fun v w12 fr hRes hF => ?_
    obtain ⟨rfl, hc⟩ := hRes
    have hs := hs.ext hc
    have hM0 := hM0.ext hc
    refine from_pure 1 [(8, .int .i64 x19)] hF (by kernel_rfl) fun fr hF => ?_
    refine from_end rfl (then_normal ?_)
    obtain rfl := Option.some.inj h
    exact wp_ret (blk_ret (then_ret (ret1 rfl hF rfl ⟨_, rfl, rfl, hM0.chg⟩)))
  replace h := iteF hb h
  refine (wp_skip ?_)
  refine blk_normal (then_normal ?_)
  refine wp_seq (wp_pure [(8, .int .i64 (-1))] hF (by kernel_rfl) fun fr hF => then_normal ?_)
  obtain rfl := Option.some.inj h
  exact wp_ret (ret1 rfl hF rfl ⟨_, rfl, rfl, hM0.chg⟩)

theorem spec_ApplyUnary_ok (p0 : Int) (p1 : Int) (p2 : Int) {r : Int} (h : spec_ApplyUnary p0 p1 p2 = some r) {w : World} :
    Calls Try.prog 67 [.int .i64 p0, .int .i64 p1, .int .i64 p2].toArray w fun e w' => ∃ v, e = .returned v ∧ v = .int .i64 r ∧ Chg Non w w' := by
  unfold spec_ApplyUnary at h
  have hs := Sep.nil w Non
  have hM0 : Mem w Non (fun k => (False) ∧ k < w.heap.size) w Non (fun k => (False) ∧ k < w.heap.size) := Mem.start (fun _ h => h.elim) (fun _ h => h.2) (fun _ h => h.elim)
  refine enter (N := 27) Try.func67 rfl Try.ntmps67 rfl fun fr hF => ?_
  refine wp_seq (wp_pure [(0, .int .i64 p0), (1, .int .i64 p1), (2, .int .i64 p2)] hF (by kernel_rfl) fun fr hF => then_normal ?_)
  refine wp_seq (wp_block ?_)
  refine wp_seq (wp_text' ?_)
  refine from_pure 2 [(0, .int .i64 p0), (1, .int .i64 p1), (2, .int .i64 p2), (8, .int .i64 p1), (9, .int .i64 p2)] hF (by kernel_rfl) fun fr hF => ?_
  obtain ⟨x1, hx1, h⟩ := bindE h
  refine s_call [.int .i64 p1, .int .i64 p2] Try.call57 rfl rfl hF rfl (spec_WordOk_ok p1 p2 hx1) fun v w1 fr hRes hF => ?_
  obtain ⟨rfl, hc⟩ := hRes
  have hs := hs.ext hc
  have hM0 := hM0.ext hc
  refine from_pure 2 [(0, .int .i64 p0), (1, .int .i64 p1), (2, .int .i64 p2), (7, .bool (!x1))] hF (by kernel_rfl) fun fr hF => ?_
  refine from_end rfl (then_normal ?_)
  refine (wp_if hF (b := (!x1)) rfl (fun hb => ?_) (fun hb => ?_))
  · replace h := iteT hb h
    refine wp_seq (wp_pure [(6, .int .i64 (-1))] hF (by kernel_rfl) fun fr hF => then_normal ?_)
    obtain rfl := Option.some.inj h
    exact wp_ret (blk_ret (then_ret (ret1 rfl hF rfl ⟨_, rfl, rfl, hM0.chg⟩)))
  replace h := iteF hb h
  refine wp_seq (wp_pure [(0, .int .i64 p0), (1, .int .i64 p1), (2, .int .i64 p2), (12, .bool (p0 == 1))] hF (by kernel_rfl) fun fr hF => then_normal ?_)
  refine (wp_if hF (b := (p0 == 1)) rfl (fun hb => ?_) (fun hb => ?_))
  · replace h := iteT hb h
    refine wp_seq (wp_text' ?_)
    refine from_pure 1 [(2, .int .i64 p2), (15, .int .i64 p1)] hF (by kernel_rfl) fun fr hF => ?_
    obtain ⟨x2, hx2, h⟩ := bindE h
    refine s_shl rfl rfl hF rfl rfl hx2 fun fr hF => ?_
    refine from_pure 4 [(6, .int .i64 (w64 ((w64 (x2 - 1)) - p2)))] hF (by kernel_rfl) fun fr hF => ?_
    refine from_end rfl (then_normal ?_)
    obtain rfl := Option.some.inj h
    exact wp_ret (blk_ret (then_ret (ret1 rfl hF rfl ⟨_, rfl, rfl, hM0.chg⟩)))
  replace h := iteF hb h
  refine wp_seq (wp_pure [(1, .int .i64 p1), (2, .int .i64 p2), (20, .bool (p0 == 2))] hF (by kernel_rfl) fun fr hF => then_normal ?_)
  refine (wp_if hF (b := (p0 == 2)) rfl (fun hb => ?_) (fun hb => ?_))
  · replace h := iteT hb h
    refine wp_seq (wp_text' ?_)
    refine from_pure 3 [(23, .int .i64 p1), (25, .int .i64 (w64 (0 - p2)))] hF (by kernel_rfl) fun fr hF => ?_
    obtain ⟨x3, hx3, h⟩ := bindE h
    refine s_call [.int .i64 p1, .int .i64 (w64 (0 - p2))] Try.call79 rfl rfl hF rfl (spec_WordOf_ok p1 (w64 (0 - p2)) hx3) fun v w2 fr hRes hF => ?_
    obtain ⟨rfl, hc⟩ := hRes
    have hs := hs.ext hc
    have hM0 := hM0.ext hc
    refine from_pure 1 [(6, .int .i64 x3)] hF (by kernel_rfl) fun fr hF => ?_
    refine from_end rfl (then_normal ?_)
    obtain rfl := Option.some.inj h
    exact wp_ret (blk_ret (then_ret (ret1 rfl hF rfl ⟨_, rfl, rfl, hM0.chg⟩)))
  replace h := iteF hb h
  refine (wp_skip ?_)
  refine blk_normal (then_normal ?_)
  refine wp_seq (wp_pure [(6, .int .i64 (-1))] hF (by kernel_rfl) fun fr hF => then_normal ?_)
  obtain rfl := Option.some.inj h
  exact wp_ret (ret1 rfl hF rfl ⟨_, rfl, rfl, hM0.chg⟩)
end Go.Proofs.Ytbfphbpeajmihaa
