/- Printed by gen2.py: the walks. -/
import Derived.Test.YtbfphbpeajmihaaGLt
import Derived.Test.YtbfphbpeajmihaaGLx
import Derived.Test.YtbfphbpeajmihaaDefs
import Derived.Test.YtbfphbpeajmihaaProg
import Derived.KernelRfl
import Derived.DeepKeys4
set_option linter.unusedVariables false
set_option maxRecDepth 100000
namespace Go.Proofs.Ytbfphbpeajmihaa
open Go.GL Go.Maps Go.WideMaps
theorem mix : Try.prog.follows .mixedOrders = true := by kernel_rfl
theorem ty3 : Ty Try.prog 3 Int := ⟨by kernel_rfl, by kernel_rfl⟩
theorem ty22 : Ty Try.prog 22 (List D.Ins) := ⟨by kernel_rfl, by kernel_rfl⟩
theorem ty24 : Ty Try.prog 24 D.Program := ⟨by kernel_rfl, by kernel_rfl⟩
theorem ty26 : Ty Try.prog 26 (List Int) := ⟨by kernel_rfl, by kernel_rfl⟩
theorem ty28 : Ty Try.prog 28 D.State := ⟨by kernel_rfl, by kernel_rfl⟩
theorem ty30 : Ty Try.prog 30 (List D.Ins) := ⟨by kernel_rfl, by kernel_rfl⟩
theorem ty32 : Ty Try.prog 32 D.Program := ⟨by kernel_rfl, by kernel_rfl⟩
theorem ty66 : Ty Try.prog 66 D.Ins := ⟨by kernel_rfl, by kernel_rfl⟩
theorem ty72 : Ty Try.prog 72 D.Ins := ⟨by kernel_rfl, by kernel_rfl⟩
theorem el3 : ElT Try.prog 3 Int := elT (by kernel_rfl)
theorem el66 : ElT Try.prog 66 D.Ins := elT (by kernel_rfl)

theorem laws_szInsS_ok (p0 : List D.Ins) (p1 : Int) {r : Int} (h : laws_szInsS p0 p1 = some r) {w : World} {G0 : Nat → Prop} {va0 : Value} (ra0 : RV w G0 va0 p0) :
    Calls Try.prog 37 [va0, .int .i64 p1].toArray w fun e w' => ∃ v, e = .returned v ∧ v = .int .i64 r ∧ Chg Non w w' := by
  unfold laws_szInsS at h
  have hs := Sep.nil w Non
  have hM0 : Mem w Non (fun k => (G0 k) ∧ k < w.heap.size) w Non (fun k => (G0 k) ∧ k < w.heap.size) := Mem.start (fun _ h => h.elim) (fun _ h => h.2) (fun _ h => h.elim)
  have ra0 := ra0.sub (F' := (fun k => (G0 k) ∧ k < w.heap.size)) (fun k hk h => ⟨h, hk⟩)
  obtain ⟨a1, c1, rfl, -⟩ := ra0.slice
  refine enter (N := 12) Try.func37 rfl Try.ntmps37 rfl fun fr hF => ?_
  refine wp_seq (wp_pure [(0, .slice a1 (List.length p0) c1), (1, .int .i64 p1)] hF (by kernel_rfl) fun fr hF => then_normal ?_)
  refine wp_seq (wp_pure [(1, .int .i64 (w64 (p1 - (len p0))))] hF (by kernel_rfl) fun fr hF => then_normal ?_)
  refine wp_seq ?_
  refine wp_seq (wp_pure [(1, .int .i64 (w64 (p1 - (len p0)))), (10, .bool (decide ((w64 (p1 - (len p0))) < 0)))] hF (by kernel_rfl) fun fr hF => then_normal ?_)
  refine (wp_if hF (b := (decide ((w64 (p1 - (len p0))) < 0))) rfl (fun hb => ?_) (fun hb => ?_))
  · replace h := iteT hb h
    refine wp_seq (wp_pure [(4, .int .i64 (-1))] hF (by kernel_rfl) fun fr hF => then_normal ?_)
    obtain rfl := Option.some.inj h
    exact wp_ret (then_ret (ret1 rfl hF rfl ⟨_, rfl, rfl, hM0.chg⟩))
  · replace h := iteF hb h
    refine (wp_skip (then_normal ?_))
    refine wp_seq (wp_pure [(4, .int .i64 (w64 (p1 - (len p0))))] hF (by kernel_rfl) fun fr hF => then_normal ?_)
    obtain rfl := Option.some.inj h
    exact wp_ret (ret1 rfl hF rfl ⟨_, rfl, rfl, hM0.chg⟩)

theorem laws_szProgram_ok (p0 : D.Program) (p1 : Int) {r : Int} (h : laws_szProgram p0 p1 = some r) {w : World} {G0 : Nat → Prop} {va0 : Value} (ra0 : RV w G0 va0 p0) :
    Calls Try.prog 10 [va0, .int .i64 p1].toArray w fun e w' => ∃ v, e = .returned v ∧ v = .int .i64 r ∧ Chg Non w w' := by
  unfold laws_szProgram at h
  have hs := Sep.nil w Non
  have hM0 : Mem w Non (fun k => (G0 k) ∧ k < w.heap.size) w Non (fun k => (G0 k) ∧ k < w.heap.size) := Mem.start (fun _ h => h.elim) (fun _ h => h.2) (fun _ h => h.elim)
  have ra0 := ra0.sub (F' := (fun k => (G0 k) ∧ k < w.heap.size)) (fun k hk h => ⟨h, hk⟩)
  obtain ⟨v1, rfl, r1⟩ := RV.Program ra0
  obtain ⟨a1, c1, rfl, -⟩ := r1.slice
  refine enter (N := 12) Try.func10 rfl Try.ntmps10 rfl fun fr hF => ?_
  refine wp_seq (wp_text' ?_)
  refine q_box hs hM0 [.int .i64 p0.W, .int .i64 p0.Mem, .int .i64 p0.In, .slice a1 (List.length p0.Code) c1] rfl rfl hF rfl rfl fun b1 w1 S1 fr hs hp hF => ?_
  have r1 := r1.stp hM0 hp
  have hM0 := hM0.stp hp
  have hs : Sep [BX b1 24 [.int .i64 p0.W, .int .i64 p0.Mem, .int .i64 p0.In, .slice a1 (List.length p0.Code) c1]] w1 S1 := hs
  refine from_pure 1 [(1, .int .i64 p1), (2, .pointer (some ⟨b1, 0, none⟩))] hF (by kernel_rfl) fun fr hF => ?_
  refine from_end rfl (then_normal ?_)
  refine wp_seq (wp_text' ?_)
  refine from_pure 1 [(1, .int .i64 p1), (5, .pointer (some ⟨b1, 3, none⟩))] hF (by kernel_rfl) fun fr hF => ?_
  refine s_loadBox (.slice a1 (List.length p0.Code) c1) ty22 rfl rfl hF rfl (hs.bx 0 rfl) rfl rfl fun fr hF => ?_
  have hs : Sep [] w1 S1 := Sep.pick [] hs (by decide) rfl
  refine from_pure 1 [(6, .slice a1 (List.length p0.Code) c1), (7, .int .i64 p1)] hF (by kernel_rfl) fun fr hF => ?_
  obtain ⟨x1, hx1, h⟩ := bindE h
  refine s_call [.slice a1 (List.length p0.Code) c1, .int .i64 p1] Try.call37 rfl rfl hF rfl (laws_szInsS_ok p0.Code p1 hx1 (r1)) fun v w2 fr hRes hF => ?_
  obtain ⟨rfl, hc⟩ := hRes
  have r1 := r1.ext hc
  have hs := hs.ext hc
  have hM0 := hM0.ext hc
  refine from_pure 1 [(1, .int .i64 x1)] hF (by kernel_rfl) fun fr hF => ?_
  refine from_end rfl (then_normal ?_)
  refine wp_seq ?_
  refine wp_seq (wp_pure [(1, .int .i64 x1), (10, .bool (decide (x1 < 0)))] hF (by kernel_rfl) fun fr hF => then_normal ?_)
  refine (wp_if hF (b := (decide (x1 < 0))) rfl (fun hb => ?_) (fun hb => ?_))
  · replace h := iteT hb h
    refine wp_seq (wp_pure [(4, .int .i64 (-1))] hF (by kernel_rfl) fun fr hF => then_normal ?_)
    obtain rfl := Option.some.inj h
    exact wp_ret (then_ret (ret1 rfl hF rfl ⟨_, rfl, rfl, hM0.chg⟩))
  · replace h := iteF hb h
    refine (wp_skip (then_normal ?_))
    refine wp_seq (wp_pure [(4, .int .i64 x1)] hF (by kernel_rfl) fun fr hF => then_normal ?_)
    obtain rfl := Option.some.inj h
    exact wp_ret (ret1 rfl hF rfl ⟨_, rfl, rfl, hM0.chg⟩)

theorem laws_toIns_ok (p0 : D.Ins) {r : D.Ins} (h : laws_toIns p0 = some r) {w : World} :
    Calls Try.prog 59 [.agg #[.int .i64 p0.Op, .int .i64 p0.A, .int .i64 p0.B, .int .i64 p0.C]].toArray w fun e w' => ∃ v, e = .returned v ∧ v = .agg #[.int .i64 r.Op, .int .i64 r.A, .int .i64 r.B, .int .i64 r.C] ∧ Chg Non w w' := by
  unfold laws_toIns at h
  have hs := Sep.nil w Non
  have hM0 : Mem w Non (fun k => (False) ∧ k < w.heap.size) w Non (fun k => (False) ∧ k < w.heap.size) := Mem.start (fun _ h => h.elim) (fun _ h => h.2) (fun _ h => h.elim)
  refine enter (N := 17) Try.func59 rfl Try.ntmps59 rfl fun fr hF => ?_
  refine wp_seq (wp_text' ?_)
  refine q_box hs hM0 [.int .i64 p0.Op, .int .i64 p0.A, .int .i64 p0.B, .int .i64 p0.C] rfl rfl hF rfl rfl fun b1 w1 S1 fr hs hp hF => ?_
  have hM0 := hM0.stp hp
  have hs : Sep [BX b1 72 [.int .i64 p0.Op, .int .i64 p0.A, .int .i64 p0.B, .int .i64 p0.C]] w1 S1 := hs
  refine q_alloc (z := .agg #[.int .i64 0, .int .i64 0, .int .i64 0, .int .i64 0]) hs hM0 [.int .i64 0, .int .i64 0, .int .i64 0, .int .i64 0] rfl rfl hF (by kernel_rfl) rfl fun b2 w2 S2 fr hs hp hF => ?_
  have hM0 := hM0.stp hp
  have hs : Sep [BX b2 66 [.int .i64 0, .int .i64 0, .int .i64 0, .int .i64 0], BX b1 72 [.int .i64 p0.Op, .int .i64 p0.A, .int .i64 p0.B, .int .i64 p0.C]] w2 S2 := hs
  refine from_end rfl (then_normal ?_)
  refine wp_seq (wp_text' ?_)
  refine q_alloc (z := .agg #[.int .i64 0, .int .i64 0, .int .i64 0, .int .i64 0]) hs hM0 [.int .i64 0, .int .i64 0, .int .i64 0, .int .i64 0] rfl rfl hF (by kernel_rfl) rfl fun b3 w3 S3 fr hs hp hF => ?_
  have hM0 := hM0.stp hp
  have hs : Sep [BX b3 66 [.int .i64 0, .int .i64 0, .int .i64 0, .int .i64 0], BX b2 66 [.int .i64 0, .int .i64 0, .int .i64 0, .int .i64 0], BX b1 72 [.int .i64 p0.Op, .int .i64 p0.A, .int .i64 p0.B, .int .i64 p0.C]] w3 S3 := hs
  refine from_end rfl (then_normal ?_)
  refine wp_seq (wp_text' ?_)
  refine from_pure 1 [(1, .pointer (some ⟨b1, 0, none⟩)), (2, .pointer (some ⟨b2, 0, none⟩)), (3, .pointer (some ⟨b3, 0, none⟩)), (4, .pointer (some ⟨b1, 0, none⟩))] hF (by kernel_rfl) fun fr hF => ?_
  refine s_loadBox (.int .i64 p0.Op) ty3 rfl rfl hF rfl (hs.bx 2 rfl) rfl rfl fun fr hF => ?_
  refine from_pure 1 [(1, .pointer (some ⟨b1, 0, none⟩)), (2, .pointer (some ⟨b2, 0, none⟩)), (3, .pointer (some ⟨b3, 0, none⟩)), (5, .int .i64 p0.Op), (6, .pointer (some ⟨b3, 0, none⟩))] hF (by kernel_rfl) fun fr hF => ?_
  refine q_storeBox 0 hs hM0 rfl [.int .i64 p0.Op, .int .i64 0, .int .i64 0, .int .i64 0] rfl hF rfl rfl (by kernel_rfl) rfl rfl rfl fun w4 S4 hs hp hF => ?_
  have hM0 := hM0.stp hp
  have hs : Sep [BX b3 66 [.int .i64 p0.Op, .int .i64 0, .int .i64 0, .int .i64 0], BX b2 66 [.int .i64 0, .int .i64 0, .int .i64 0, .int .i64 0], BX b1 72 [.int .i64 p0.Op, .int .i64 p0.A, .int .i64 p0.B, .int .i64 p0.C]] w4 S4 := hs
  refine from_end rfl (then_normal ?_)
  refine wp_seq (wp_text' ?_)
  refine from_pure 1 [(1, .pointer (some ⟨b1, 0, none⟩)), (2, .pointer (some ⟨b2, 0, none⟩)), (3, .pointer (some ⟨b3, 0, none⟩)), (7, .pointer (some ⟨b1, 1, none⟩))] hF (by kernel_rfl) fun fr hF => ?_
  refine s_loadBox (.int .i64 p0.A) ty3 rfl rfl hF rfl (hs.bx 2 rfl) rfl rfl fun fr hF => ?_
  refine from_pure 1 [(1, .pointer (some ⟨b1, 0, none⟩)), (2, .pointer (some ⟨b2, 0, none⟩)), (3, .pointer (some ⟨b3, 0, none⟩)), (8, .int .i64 p0.A), (9, .pointer (some ⟨b3, 1, none⟩))] hF (by kernel_rfl) fun fr hF => ?_
  refine q_storeBox 0 hs hM0 rfl [.int .i64 p0.Op, .int .i64 p0.A, .int .i64 0, .int .i64 0] rfl hF rfl rfl (by kernel_rfl) rfl rfl rfl fun w5 S5 hs hp hF => ?_
  have hM0 := hM0.stp hp
  have hs : Sep [BX b3 66 [.int .i64 p0.Op, .int .i64 p0.A, .int .i64 0, .int .i64 0], BX b2 66 [.int .i64 0, .int .i64 0, .int .i64 0, .int .i64 0], BX b1 72 [.int .i64 p0.Op, .int .i64 p0.A, .int .i64 p0.B, .int .i64 p0.C]] w5 S5 := hs
  refine from_end rfl (then_normal ?_)
  refine wp_seq (wp_text' ?_)
  refine from_pure 1 [(1, .pointer (some ⟨b1, 0, none⟩)), (2, .pointer (some ⟨b2, 0, none⟩)), (3, .pointer (some ⟨b3, 0, none⟩)), (10, .pointer (some ⟨b1, 2, none⟩))] hF (by kernel_rfl) fun fr hF => ?_
  refine s_loadBox (.int .i64 p0.B) ty3 rfl rfl hF rfl (hs.bx 2 rfl) rfl rfl fun fr hF => ?_
  refine from_pure 1 [(1, .pointer (some ⟨b1, 0, none⟩)), (2, .pointer (some ⟨b2, 0, none⟩)), (3, .pointer (some ⟨b3, 0, none⟩)), (11, .int .i64 p0.B), (12, .pointer (some ⟨b3, 2, none⟩))] hF (by kernel_rfl) fun fr hF => ?_
  refine q_storeBox 0 hs hM0 rfl [.int .i64 p0.Op, .int .i64 p0.A, .int .i64 p0.B, .int .i64 0] rfl hF rfl rfl (by kernel_rfl) rfl rfl rfl fun w6 S6 hs hp hF => ?_
  have hM0 := hM0.stp hp
  have hs : Sep [BX b3 66 [.int .i64 p0.Op, .int .i64 p0.A, .int .i64 p0.B, .int .i64 0], BX b2 66 [.int .i64 0, .int .i64 0, .int .i64 0, .int .i64 0], BX b1 72 [.int .i64 p0.Op, .int .i64 p0.A, .int .i64 p0.B, .int .i64 p0.C]] w6 S6 := hs
  refine from_end rfl (then_normal ?_)
  refine wp_seq (wp_text' ?_)
  refine from_pure 1 [(2, .pointer (some ⟨b2, 0, none⟩)), (3, .pointer (some ⟨b3, 0, none⟩)), (13, .pointer (some ⟨b1, 3, none⟩))] hF (by kernel_rfl) fun fr hF => ?_
  refine s_loadBox (.int .i64 p0.C) ty3 rfl rfl hF rfl (hs.bx 2 rfl) rfl rfl fun fr hF => ?_
  have hs : Sep [BX b3 66 [.int .i64 p0.Op, .int .i64 p0.A, .int .i64 p0.B, .int .i64 0], BX b2 66 [.int .i64 0, .int .i64 0, .int .i64 0, .int .i64 0]] w6 S6 := Sep.pick [0, 1] hs (by decide) rfl
  refine from_pure 1 [(2, .pointer (some ⟨b2, 0, none⟩)), (3, .pointer (some ⟨b3, 0, none⟩)), (14, .int .i64 p0.C), (15, .pointer (some ⟨b3, 3, none⟩))] hF (by kernel_rfl) fun fr hF => ?_
  refine q_storeBox 0 hs hM0 rfl [.int .i64 p0.Op, .int .i64 p0.A, .int .i64 p0.B, .int .i64 p0.C] rfl hF rfl rfl (by kernel_rfl) rfl rfl rfl fun w7 S7 hs hp hF => ?_
  have hM0 := hM0.stp hp
  have hs : Sep [BX b3 66 [.int .i64 p0.Op, .int .i64 p0.A, .int .i64 p0.B, .int .i64 p0.C], BX b2 66 [.int .i64 0, .int .i64 0, .int .i64 0, .int .i64 0]] w7 S7 := hs
  refine from_end rfl (then_normal ?_)
  refine wp_seq (wp_text' ?_)
  refine s_loadBoxS ty66 rfl rfl hF rfl (hs.bx 0 rfl) rfl rfl fun fr hF => ?_
  have hs : Sep [BX b2 66 [.int .i64 0, .int .i64 0, .int .i64 0, .int .i64 0]] w7 S7 := Sep.pick [1] hs (by decide) rfl
  refine q_storeBoxS 0 hs hM0 rfl [.int .i64 p0.Op, .int .i64 p0.A, .int .i64 p0.B, .int .i64 p0.C] rfl hF rfl rfl (by kernel_rfl) rfl rfl rfl fun w8 S8 hs hp hF => ?_
  have hM0 := hM0.stp hp
  have hs : Sep [BX b2 66 [.int .i64 p0.Op, .int .i64 p0.A, .int .i64 p0.B, .int .i64 p0.C]] w8 S8 := hs
  refine from_end rfl (then_normal ?_)
  have hbr := (hs.bx 0 rfl)
  obtain rfl := Option.some.inj h
  exact wp_ret (retS rfl hF ty66 rfl rfl hbr rfl ⟨_, rfl, rfl, hM0.chg⟩)

theorem laws_toInsS_ok (n : Nat) (p0 : List D.Ins) {r : (List D.Ins)} (h : laws_toInsS n p0 = some r) {w : World} {G0 : Nat → Prop} {va0 : Value} (ra0 : RV w G0 va0 p0) :
    Calls Try.prog 39 [va0].toArray w fun e w' => ∃ v, e = .returned v ∧ ∃ a1 c1, v = .slice a1 (List.length r) c1 ∧ ∃ S', Stp w Non w' S' ∧ Sep [SL (α := D.Ins) 66 (.slice a1 (List.length r) c1) r] w' S' := by
  unfold laws_toInsS at h
  have hs := Sep.nil w Non
  have hM0 : Mem w Non (fun k => (G0 k) ∧ k < w.heap.size) w Non (fun k => (G0 k) ∧ k < w.heap.size) := Mem.start (fun _ h => h.elim) (fun _ h => h.2) (fun _ h => h.elim)
  have ra0 := ra0.sub (F' := (fun k => (G0 k) ∧ k < w.heap.size)) (fun k hk h => ⟨h, hk⟩)
  obtain ⟨a1, c1, rfl, -⟩ := ra0.slice
  refine enter (N := 23) Try.func39 rfl Try.ntmps39 rfl fun fr hF => ?_
  refine wp_seq (wp_pure [(0, .slice a1 (List.length p0) c1)] hF (by kernel_rfl) fun fr hF => then_normal ?_)
  refine wp_seq (wp_text' ?_)
  refine from_pure 2 [(0, .slice a1 (List.length p0) c1), (6, .int .i64 (len p0))] hF (by kernel_rfl) fun fr hF => ?_
  obtain ⟨x1, hx1, h⟩ := bindE h
  refine q_make hs hM0 Try.underlying30 el66 (zero_flat _ (by kernel_rfl)) rfl rfl hF rfl rfl hx1 fun a2 c2 w1 S1 fr hs hp hF => ?_
  have ra0 := ra0.stp hM0 hp
  have hM0 := hM0.stp hp
  have hs : Sep [SL (α := D.Ins) 66 (.slice a2 (List.length x1) c2) x1] w1 S1 := hs
  refine from_pure 1 [(0, .slice a1 (List.length p0) c1), (3, .slice a2 (List.length x1) c2)] hF (by kernel_rfl) fun fr hF => ?_
  refine from_end rfl (then_normal ?_)
  refine wp_seq ?_
  refine wp_seq (wp_pure [(0, .slice a1 (List.length p0) c1), (3, .slice a2 (List.length x1) c2), (4, .int .i64 0)] hF (by kernel_rfl) fun fr hF => then_normal ?_)
  obtain ⟨rl1, hit1, h⟩ := bindE h
  have hk1 := h
  refine (wp_cut (M := fun fr w' => ∃ S3 F2, FrS 23 [(3, .slice a2 (List.length x1) c2)] fr ∧ Mem w1 S1 (fun k => (G0 k) ∧ k < w.heap.size) w' S3 F2 ∧ Sep [SL (α := D.Ins) 66 (.slice a2 (List.length x1) c2) rl1] w' S3) (wp_block (wp_iter (Inv := fun s1 fr w' => ∃ S2 F1, FrS 23 [(0, .slice a1 (List.length p0) c1), (3, .slice a2 (List.length x1) c2), (4, .int .i64 s1.1)] fr ∧ Mem w1 S1 (fun k => (G0 k) ∧ k < w.heap.size) w' S2 F1 ∧ Sep [SL (α := D.Ins) 66 (.slice a2 (List.length x1) c2) s1.2] w' S2) hit1 ⟨S1, _, hF.sub _ (by kernel_rfl), (Mem.start hM0.bd hM0.bdF hM0.dj), hs⟩ fun s1 q1 fr w1i hI h hr1 => ?_)) fun fr w1o hM => ?_)
  · obtain ⟨S2, F1, hF, hM1, hs⟩ := hI
    have ra0 := ra0.mem hM1
    refine wp_seq ?_
    refine wp_seq (wp_pure [(0, .slice a1 (List.length p0) c1), (3, .slice a2 (List.length x1) c2), (4, .int .i64 s1.1), (11, .bool (decide (s1.1 < (len p0))))] hF (by kernel_rfl) fun fr hF => then_normal ?_)
    refine (wp_if hF (b := (decide (s1.1 < (len p0)))) rfl (fun hb => ?_) (fun hb => ?_))
    · replace h := iteT hb h
      refine (wp_skip (then_normal ?_))
      refine wp_seq (wp_block ?_)
      refine (wp_text' ?_)
      refine from_pure 4 [(0, .slice a1 (List.length p0) c1), (3, .slice a2 (List.length x1) c2), (4, .int .i64 s1.1), (14, .slice a2 (List.length x1) c2), (15, .int .i64 s1.1), (16, .slice a1 (List.length p0) c1), (17, .int .i64 s1.1)] hF (by kernel_rfl) fun fr hF => ?_
      obtain ⟨x2, hx2, h⟩ := bindE h
      refine s_elemF (z := x2) (.agg #[.int .i64 x2.Op, .int .i64 x2.A, .int .i64 x2.B, .int .i64 x2.C]) ty72 Try.underlying22 rfl rfl rfl rfl rfl hF rfl (ra0) rfl (get?_nn hx2) (get?_at hx2) rfl fun p fr hF => ?_
      obtain ⟨x3, hx3, h⟩ := bindE h
      refine s_call [.agg #[.int .i64 x2.Op, .int .i64 x2.A, .int .i64 x2.B, .int .i64 x2.C]] Try.call59 rfl rfl hF rfl (laws_toIns_ok x2 hx3) fun v w2 fr hRes hF => ?_
      obtain ⟨rfl, hc⟩ := hRes
      have ra0 := ra0.ext hc
      have hs := hs.ext hc
      have hM1 := hM1.ext hc
      obtain ⟨x4, hx4, h⟩ := bindE h
      refine q_set (q := x3) 0 hs hM1 rfl Try.underlying30 ty66 rfl rfl rfl rfl hF rfl rfl (by simp) rfl rfl hx4 fun w3 S4 fr _ hs hp hF => ?_
      have ra0 := ra0.stp hM1 hp
      have hM1 := hM1.stp hp
      have hs : Sep [SL (α := D.Ins) 66 (.slice a2 (List.length x1) c2) x4] w3 S4 := hs
      refine from_end rfl ?_
      refine blk_normal (then_normal ?_)
      refine (wp_pure [(0, .slice a1 (List.length p0) c1), (3, .slice a2 (List.length x1) c2), (4, .int .i64 (w64 (s1.1 + 1)))] hF (by kernel_rfl) fun fr hF => then_normal ?_)
      exact ⟨_, (Option.some.inj h).symm, S4, _, hF.sub _ (by kernel_rfl), hM1, hs⟩
    · replace h := iteF hb h
      refine (wp_exit (then_exit (then_exit (blk_exit_eq ?_))))
      obtain rfl := hr1 _ (Option.some.inj h).symm
      exact then_normal ⟨S2, _, hF.sub _ (by kernel_rfl), hM1, hs⟩
  · obtain ⟨S3, F2, hF, hMx, hs⟩ := hM
    have hM0 := hM0.trans hMx
    refine wp_seq (wp_pure [(2, .slice a2 (List.length x1) c2)] hF (by kernel_rfl) fun fr hF => then_normal ?_)
    obtain rfl := Option.some.inj h
    obtain ⟨he1, hs⟩ := hs.relen 0 rfl
    have hs : Sep [SL (α := D.Ins) 66 (.slice a2 (List.length rl1) c2) rl1] w1o S3 := hs
    exact wp_ret (ret1 rfl hF rfl ⟨_, rfl, a2, c2, (by simp only [he1]), S3, hM0.out, hs⟩)

theorem laws_toProgram_ok (n : Nat) (p0 : D.Program) {r : D.Program} (h : laws_toProgram n p0 = some r) {w : World} {G0 : Nat → Prop} {va0 : Value} (ra0 : RV w G0 va0 p0) :
    Calls Try.prog 12 [va0].toArray w fun e w' => ∃ v, e = .returned v ∧ ∃ a1 c1, v = .agg #[.int .i64 r.W, .int .i64 r.Mem, .int .i64 r.In, .slice a1 (List.length r.Code) c1] ∧ ∃ S', Stp w Non w' S' ∧ Sep [SL (α := D.Ins) 66 (.slice a1 (List.length r.Code) c1) r.Code] w' S' := by
  unfold laws_toProgram at h
  have hs := Sep.nil w Non
  have hM0 : Mem w Non (fun k => (G0 k) ∧ k < w.heap.size) w Non (fun k => (G0 k) ∧ k < w.heap.size) := Mem.start (fun _ h => h.elim) (fun _ h => h.2) (fun _ h => h.elim)
  have ra0 := ra0.sub (F' := (fun k => (G0 k) ∧ k < w.heap.size)) (fun k hk h => ⟨h, hk⟩)
  obtain ⟨v1, rfl, r1⟩ := RV.Program ra0
  obtain ⟨a1, c1, rfl, -⟩ := r1.slice
  refine enter (N := 18) Try.func12 rfl Try.ntmps12 rfl fun fr hF => ?_
  refine wp_seq (wp_text' ?_)
  refine q_box hs hM0 [.int .i64 p0.W, .int .i64 p0.Mem, .int .i64 p0.In, .slice a1 (List.length p0.Code) c1] rfl rfl hF rfl rfl fun b1 w1 S1 fr hs hp hF => ?_
  have r1 := r1.stp hM0 hp
  have hM0 := hM0.stp hp
  have hs : Sep [BX b1 24 [.int .i64 p0.W, .int .i64 p0.Mem, .int .i64 p0.In, .slice a1 (List.length p0.Code) c1]] w1 S1 := hs
  refine q_alloc (z := .agg #[.int .i64 0, .int .i64 0, .int .i64 0, .slice none (List.length ([] : List D.Ins)) 0]) hs hM0 [.int .i64 0, .int .i64 0, .int .i64 0, .slice none (List.length ([] : List D.Ins)) 0] rfl rfl hF (by kernel_rfl) rfl fun b2 w2 S2 fr hs hp hF => ?_
  have r1 := r1.stp hM0 hp
  have hM0 := hM0.stp hp
  have hs : Sep [BX b2 32 [.int .i64 0, .int .i64 0, .int .i64 0, .slice none (List.length ([] : List D.Ins)) 0], BX b1 24 [.int .i64 p0.W, .int .i64 p0.Mem, .int .i64 p0.In, .slice a1 (List.length p0.Code) c1]] w2 S2 := hs
  refine from_end rfl (then_normal ?_)
  refine wp_seq (wp_text' ?_)
  refine q_alloc (z := .agg #[.int .i64 0, .int .i64 0, .int .i64 0, .slice none (List.length ([] : List D.Ins)) 0]) hs hM0 [.int .i64 0, .int .i64 0, .int .i64 0, .slice none (List.length ([] : List D.Ins)) 0] rfl rfl hF (by kernel_rfl) rfl fun b3 w3 S3 fr hs hp hF => ?_
  have r1 := r1.stp hM0 hp
  have hM0 := hM0.stp hp
  have hs : Sep [BX b3 32 [.int .i64 0, .int .i64 0, .int .i64 0, .slice none (List.length ([] : List D.Ins)) 0], BX b2 32 [.int .i64 0, .int .i64 0, .int .i64 0, .slice none (List.length ([] : List D.Ins)) 0], BX b1 24 [.int .i64 p0.W, .int .i64 p0.Mem, .int .i64 p0.In, .slice a1 (List.length p0.Code) c1]] w3 S3 := hs
  refine from_end rfl (then_normal ?_)
  refine wp_seq (wp_text' ?_)
  refine from_pure 1 [(1, .pointer (some ⟨b1, 0, none⟩)), (2, .pointer (some ⟨b2, 0, none⟩)), (3, .pointer (some ⟨b3, 0, none⟩)), (4, .pointer (some ⟨b1, 0, none⟩))] hF (by kernel_rfl) fun fr hF => ?_
  refine s_loadBox (.int .i64 p0.W) ty3 rfl rfl hF rfl (hs.bx 2 rfl) rfl rfl fun fr hF => ?_
  refine from_pure 1 [(1, .pointer (some ⟨b1, 0, none⟩)), (2, .pointer (some ⟨b2, 0, none⟩)), (3, .pointer (some ⟨b3, 0, none⟩)), (5, .int .i64 p0.W), (6, .pointer (some ⟨b3, 0, none⟩))] hF (by kernel_rfl) fun fr hF => ?_
  refine q_storeBox 0 hs hM0 rfl [.int .i64 p0.W, .int .i64 0, .int .i64 0, .slice none (List.length ([] : List D.Ins)) 0] rfl hF rfl rfl (by kernel_rfl) rfl rfl rfl fun w4 S4 hs hp hF => ?_
  have r1 := r1.stp hM0 hp
  have hM0 := hM0.stp hp
  have hs : Sep [BX b3 32 [.int .i64 p0.W, .int .i64 0, .int .i64 0, .slice none (List.length ([] : List D.Ins)) 0], BX b2 32 [.int .i64 0, .int .i64 0, .int .i64 0, .slice none (List.length ([] : List D.Ins)) 0], BX b1 24 [.int .i64 p0.W, .int .i64 p0.Mem, .int .i64 p0.In, .slice a1 (List.length p0.Code) c1]] w4 S4 := hs
  refine from_end rfl (then_normal ?_)
  refine wp_seq (wp_text' ?_)
  refine from_pure 1 [(1, .pointer (some ⟨b1, 0, none⟩)), (2, .pointer (some ⟨b2, 0, none⟩)), (3, .pointer (some ⟨b3, 0, none⟩)), (7, .pointer (some ⟨b1, 1, none⟩))] hF (by kernel_rfl) fun fr hF => ?_
  refine s_loadBox (.int .i64 p0.Mem) ty3 rfl rfl hF rfl (hs.bx 2 rfl) rfl rfl fun fr hF => ?_
  refine from_pure 1 [(1, .pointer (some ⟨b1, 0, none⟩)), (2, .pointer (some ⟨b2, 0, none⟩)), (3, .pointer (some ⟨b3, 0, none⟩)), (8, .int .i64 p0.Mem), (9, .pointer (some ⟨b3, 1, none⟩))] hF (by kernel_rfl) fun fr hF => ?_
  refine q_storeBox 0 hs hM0 rfl [.int .i64 p0.W, .int .i64 p0.Mem, .int .i64 0, .slice none (List.length ([] : List D.Ins)) 0] rfl hF rfl rfl (by kernel_rfl) rfl rfl rfl fun w5 S5 hs hp hF => ?_
  have r1 := r1.stp hM0 hp
  have hM0 := hM0.stp hp
  have hs : Sep [BX b3 32 [.int .i64 p0.W, .int .i64 p0.Mem, .int .i64 0, .slice none (List.length ([] : List D.Ins)) 0], BX b2 32 [.int .i64 0, .int .i64 0, .int .i64 0, .slice none (List.length ([] : List D.Ins)) 0], BX b1 24 [.int .i64 p0.W, .int .i64 p0.Mem, .int .i64 p0.In, .slice a1 (List.length p0.Code) c1]] w5 S5 := hs
  refine from_end rfl (then_normal ?_)
  refine wp_seq (wp_text' ?_)
  refine from_pure 1 [(1, .pointer (some ⟨b1, 0, none⟩)), (2, .pointer (some ⟨b2, 0, none⟩)), (3, .pointer (some ⟨b3, 0, none⟩)), (10, .pointer (some ⟨b1, 2, none⟩))] hF (by kernel_rfl) fun fr hF => ?_
  refine s_loadBox (.int .i64 p0.In) ty3 rfl rfl hF rfl (hs.bx 2 rfl) rfl rfl fun fr hF => ?_
  refine from_pure 1 [(1, .pointer (some ⟨b1, 0, none⟩)), (2, .pointer (some ⟨b2, 0, none⟩)), (3, .pointer (some ⟨b3, 0, none⟩)), (11, .int .i64 p0.In), (12, .pointer (some ⟨b3, 2, none⟩))] hF (by kernel_rfl) fun fr hF => ?_
  refine q_storeBox 0 hs hM0 rfl [.int .i64 p0.W, .int .i64 p0.Mem, .int .i64 p0.In, .slice none (List.length ([] : List D.Ins)) 0] rfl hF rfl rfl (by kernel_rfl) rfl rfl rfl fun w6 S6 hs hp hF => ?_
  have r1 := r1.stp hM0 hp
  have hM0 := hM0.stp hp
  have hs : Sep [BX b3 32 [.int .i64 p0.W, .int .i64 p0.Mem, .int .i64 p0.In, .slice none (List.length ([] : List D.Ins)) 0], BX b2 32 [.int .i64 0, .int .i64 0, .int .i64 0, .slice none (List.length ([] : List D.Ins)) 0], BX b1 24 [.int .i64 p0.W, .int .i64 p0.Mem, .int .i64 p0.In, .slice a1 (List.length p0.Code) c1]] w6 S6 := hs
  refine from_end rfl (then_normal ?_)
  refine wp_seq (wp_text' ?_)
  refine from_pure 1 [(2, .pointer (some ⟨b2, 0, none⟩)), (3, .pointer (some ⟨b3, 0, none⟩)), (13, .pointer (some ⟨b1, 3, none⟩))] hF (by kernel_rfl) fun fr hF => ?_
  refine s_loadBox (.slice a1 (List.length p0.Code) c1) ty22 rfl rfl hF rfl (hs.bx 2 rfl) rfl rfl fun fr hF => ?_
  have hs : Sep [BX b3 32 [.int .i64 p0.W, .int .i64 p0.Mem, .int .i64 p0.In, .slice none (List.length ([] : List D.Ins)) 0], BX b2 32 [.int .i64 0, .int .i64 0, .int .i64 0, .slice none (List.length ([] : List D.Ins)) 0]] w6 S6 := Sep.pick [0, 1] hs (by decide) rfl
  obtain ⟨x1, hx1, h⟩ := bindE h
  refine s_call [.slice a1 (List.length p0.Code) c1] Try.call39 rfl rfl hF rfl (laws_toInsS_ok n p0.Code hx1 (r1)) fun v w7 fr hRes hF => ?_
  obtain ⟨a2, c2, rfl, _, hp, hs2⟩ := hRes
  obtain ⟨S7, hp, hs⟩ := hs.got hM0 hp hs2
  have r1 := r1.stp hM0 hp
  have hM0 := hM0.stp hp
  have hs : Sep [SL (α := D.Ins) 66 (.slice a2 (List.length x1) c2) x1, BX b3 32 [.int .i64 p0.W, .int .i64 p0.Mem, .int .i64 p0.In, .slice none (List.length ([] : List D.Ins)) 0], BX b2 32 [.int .i64 0, .int .i64 0, .int .i64 0, .slice none (List.length ([] : List D.Ins)) 0]] w7 S7 := hs
  refine from_pure 1 [(2, .pointer (some ⟨b2, 0, none⟩)), (3, .pointer (some ⟨b3, 0, none⟩)), (15, .slice a2 (List.length x1) c2), (16, .pointer (some ⟨b3, 3, none⟩))] hF (by kernel_rfl) fun fr hF => ?_
  refine q_storeBox 1 hs hM0 rfl [.int .i64 p0.W, .int .i64 p0.Mem, .int .i64 p0.In, .slice a2 (List.length x1) c2] rfl hF rfl rfl (by kernel_rfl) rfl rfl rfl fun w8 S8 hs hp hF => ?_
  have hM0 := hM0.stp hp
  have hs : Sep [SL (α := D.Ins) 66 (.slice a2 (List.length x1) c2) x1, BX b3 32 [.int .i64 p0.W, .int .i64 p0.Mem, .int .i64 p0.In, .slice a2 (List.length x1) c2], BX b2 32 [.int .i64 0, .int .i64 0, .int .i64 0, .slice none (List.length ([] : List D.Ins)) 0]] w8 S8 := hs
  refine from_end rfl (then_normal ?_)
  refine wp_seq (wp_text' ?_)
  refine s_loadBoxS ty32 rfl rfl hF rfl (hs.bx 1 rfl) rfl rfl fun fr hF => ?_
  have hs : Sep [SL (α := D.Ins) 66 (.slice a2 (List.length x1) c2) x1, BX b2 32 [.int .i64 0, .int .i64 0, .int .i64 0, .slice none (List.length ([] : List D.Ins)) 0]] w8 S8 := Sep.pick [0, 2] hs (by decide) rfl
  refine q_storeBoxS 1 hs hM0 rfl [.int .i64 p0.W, .int .i64 p0.Mem, .int .i64 p0.In, .slice a2 (List.length x1) c2] rfl hF rfl rfl (by kernel_rfl) rfl rfl rfl fun w9 S9 hs hp hF => ?_
  have hM0 := hM0.stp hp
  have hs : Sep [SL (α := D.Ins) 66 (.slice a2 (List.length x1) c2) x1, BX b2 32 [.int .i64 p0.W, .int .i64 p0.Mem, .int .i64 p0.In, .slice a2 (List.length x1) c2]] w9 S9 := hs
  refine from_end rfl (then_normal ?_)
  have hbr := (hs.bx 1 rfl)
  obtain rfl := Option.some.inj h
  have hs : Sep [SL (α := D.Ins) 66 (.slice a2 (List.length x1) c2) x1] w9 S9 := Sep.pick [0] hs (by decide) rfl
  exact wp_ret (retS rfl hF ty32 rfl rfl hbr rfl ⟨_, rfl, a2, c2, rfl, S9, hM0.out, hs⟩)

theorem spec_l01In_ok (p0 : Int) (p1 : Int) (p2 : Int) {r : Bool} (h : spec_l01In p0 p1 p2 = some r) {w : World} :
    Calls Try.prog 52 [.int .i64 p0, .int .i64 p1, .int .i64 p2].toArray w fun e w' => ∃ v, e = .returned v ∧ v = .bool r ∧ Chg Non w w' := by
  unfold spec_l01In at h
  have hs := Sep.nil w Non
  have hM0 : Mem w Non (fun k => (False) ∧ k < w.heap.size) w Non (fun k => (False) ∧ k < w.heap.size) := Mem.start (fun _ h => h.elim) (fun _ h => h.2) (fun _ h => h.elim)
  refine enter (N := 15) Try.func52 rfl Try.ntmps52 rfl fun fr hF => ?_
  refine wp_seq (wp_pure [(0, .int .i64 p0), (1, .int .i64 p1), (2, .int .i64 p2)] hF (by kernel_rfl) fun fr hF => then_normal ?_)
  refine wp_seq (region_b [] [true, true, true, true, true, true, true, true, true]
      [.eq (.int .i64 p0), .eq (.int .i64 p1), .eq (.bool (decide (p0 ≥ p1))), .eq (.bool (decide (p0 ≥ p1))), .eq (.int .i64 p0), .eq (.int .i64 p2), .eq (.bool (decide (p0 ≤ p2))), .eq (.bool ((decide (p0 ≥ p1)) && (decide (p0 ≤ p2)))), .eq (.bool ((decide (p0 ≥ p1)) && (decide (p0 ≤ p2))))]
      [(6, .bool ((decide (p0 ≥ p1)) && (decide (p0 ≤ p2))))] mix hF (by kernel_rfl) (by kernel_rfl) (by kernel_rfl) trivial (fun hG => trivial) (by kernel_rfl) fun fr w1 hF hE hc => then_normal ?_)
  have hs := hs.ext hc
  have hM0 := hM0.ext hc
  obtain rfl := Option.some.inj h
  exact wp_ret (ret1 rfl hF rfl ⟨_, rfl, rfl, hM0.chg⟩)

theorem spec_WordOk_ok (p0 : Int) (p1 : Int) {r : Bool} (h : spec_WordOk p0 p1 = some r) {w : World} :
    Calls Try.prog 57 [.int .i64 p0, .int .i64 p1].toArray w fun e w' => ∃ v, e = .returned v ∧ v = .bool r ∧ Chg Non w w' := by
  unfold spec_WordOk at h
  have hs := Sep.nil w Non
  have hM0 : Mem w Non (fun k => (False) ∧ k < w.heap.size) w Non (fun k => (False) ∧ k < w.heap.size) := Mem.start (fun _ h => h.elim) (fun _ h => h.2) (fun _ h => h.elim)
  refine enter (N := 14) Try.func57 rfl Try.ntmps57 rfl fun fr hF => ?_
  refine wp_seq (wp_pure [(0, .int .i64 p0), (1, .int .i64 p1)] hF (by kernel_rfl) fun fr hF => then_normal ?_)
  obtain ⟨x1, hx1, h⟩ := bindE h
  obtain ⟨x2, hx2, h⟩ := bindE h
  obtain ⟨x3, hx3, h⟩ := bindE h
  refine wp_seq (region_b [] [true, false, true, true, true, false, true, false, true, true]
      [.eq (.int .i64 p0), .eq (.bool x1), .eq (.bool x1), .eq (.int .i64 p1), .eq (.int .i64 p0), .eq (.int .i64 x2), .eq (.int .i64 (w64 (x2 - 1))), .eq (.bool x3), .eq (.bool (x1 && x3)), .eq (.bool (x1 && x3))]
      [(4, .bool (x1 && x3))] mix hF (by kernel_rfl) (by kernel_rfl) (by kernel_rfl) ⟨Pd.mono_eq, Pd.mono_eq, Pd.mono_eq, trivial⟩ (fun hG => ⟨np_call [.int .i64 p0, .int .i64 1, .int .i64 16] hG hF Try.call52 rfl rfl (fun w hC hg => (spec_l01In_ok p0 1 16 hx1).mono fun e w' ⟨v, he, hv, hc⟩ => ⟨v, he, hc, hv⟩), np_shl hG hF rfl rfl rfl (fun hg => (iteT hg.2 hx2)) rfl, np_call [.int .i64 p1, .int .i64 0, .int .i64 (w64 (x2 - 1))] hG hF Try.call52 rfl rfl (fun w hC hg => (spec_l01In_ok p1 0 (w64 (x2 - 1)) (iteT hg.2 hx3)).mono fun e w' ⟨v, he, hv, hc⟩ => ⟨v, he, hc, hv⟩), trivial⟩) (by kernel_rfl) fun fr w1 hF hE hc => then_normal ?_)
  have hs := hs.ext hc
  have hM0 := hM0.ext hc
  obtain rfl := Option.some.inj h
  exact wp_ret (ret1 rfl hF rfl ⟨_, rfl, rfl, hM0.chg⟩)

theorem spec_l05Reg_ok (p0 : Int) {r : Bool} (h : spec_l05Reg p0 = some r) {w : World} :
    Calls Try.prog 75 [.int .i64 p0].toArray w fun e w' => ∃ v, e = .returned v ∧ v = .bool r ∧ Chg Non w w' := by
  unfold spec_l05Reg at h
  have hs := Sep.nil w Non
  have hM0 : Mem w Non (fun k => (False) ∧ k < w.heap.size) w Non (fun k => (False) ∧ k < w.heap.size) := Mem.start (fun _ h => h.elim) (fun _ h => h.2) (fun _ h => h.elim)
  refine enter (N := 5) Try.func75 rfl Try.ntmps75 rfl fun fr hF => ?_
  refine wp_seq (wp_pure [(0, .int .i64 p0)] hF (by kernel_rfl) fun fr hF => then_normal ?_)
  refine wp_seq (wp_text' ?_)
  refine from_pure 1 [(3, .int .i64 p0)] hF (by kernel_rfl) fun fr hF => ?_
  obtain ⟨x1, hx1, h⟩ := bindE h
  refine s_call [.int .i64 p0, .int .i64 0, .int .i64 3] Try.call52 rfl rfl hF rfl (spec_l01In_ok p0 0 3 hx1) fun v w1 fr hRes hF => ?_
  obtain ⟨rfl, hc⟩ := hRes
  have hs := hs.ext hc
  have hM0 := hM0.ext hc
  refine from_pure 1 [(2, .bool x1)] hF (by kernel_rfl) fun fr hF => ?_
  refine from_end rfl (then_normal ?_)
  obtain rfl := Option.some.inj h
  exact wp_ret (ret1 rfl hF rfl ⟨_, rfl, rfl, hM0.chg⟩)
end Go.Proofs.Ytbfphbpeajmihaa
