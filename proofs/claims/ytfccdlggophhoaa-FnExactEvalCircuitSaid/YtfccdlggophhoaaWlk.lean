/- Printed by gen2.py: the walks. -/
import Derived.Test.YtfccdlggophhoaaGLt
import Derived.Test.YtfccdlggophhoaaGLx
import Derived.Test.YtfccdlggophhoaaDefs
import Derived.Test.YtfccdlggophhoaaProg
import Derived.KernelRfl
import Derived.DeepKeys4
set_option linter.unusedVariables false
set_option maxRecDepth 100000
namespace Go.Proofs.Ytfccdlggophhoaa
open Go.GL Go.Maps Go.WideMaps
theorem mix : Try.prog.follows .mixedOrders = true := by kernel_rfl
theorem ty3 : Ty Try.prog 3 Int := ⟨by kernel_rfl, by kernel_rfl⟩
theorem ty4 : Ty Try.prog 4 Bool := ⟨by kernel_rfl, by kernel_rfl⟩
theorem ty32 : Ty Try.prog 32 (List D.Gate) := ⟨by kernel_rfl, by kernel_rfl⟩
theorem ty34 : Ty Try.prog 34 D.Circuit := ⟨by kernel_rfl, by kernel_rfl⟩
theorem ty37 : Ty Try.prog 37 (List D.Gate) := ⟨by kernel_rfl, by kernel_rfl⟩
theorem ty39 : Ty Try.prog 39 D.Circuit := ⟨by kernel_rfl, by kernel_rfl⟩
theorem ty70 : Ty Try.prog 70 D.Gate := ⟨by kernel_rfl, by kernel_rfl⟩
theorem ty87 : Ty Try.prog 87 D.Gate := ⟨by kernel_rfl, by kernel_rfl⟩
theorem el4 : ElT Try.prog 4 Bool := elT (by kernel_rfl)
theorem el70 : ElT Try.prog 70 D.Gate := elT (by kernel_rfl)
theorem eqi70_3 (d : Nat) (a c : Int) (w : World) : (Op.equalIn (d + 1) 3 (.int .i64 a) (.int .i64 c)).run Try.prog w = .ok (a == c) w := by
  unfold Op.equalIn
  simp [run_underlying Try.underlying3]
theorem eqd70 (n : Nat) (x y : D.Gate) (w : World) : (Op.equalIn (n + 1 + 1) 70 (.agg #[.int .i64 x.A, .int .i64 x.B]) (.agg #[.int .i64 y.A, .int .i64 y.B])).run Try.prog w = .ok (decide (x = y)) w := by
  have hs : Try.prog.stoodInHeld 70 = false := by kernel_rfl
  unfold Op.equalIn
  obtain ⟨x0, x1⟩ := x; obtain ⟨y0, y1⟩ := y
  simp only [D.Gate.mk.injEq]
  by_cases h0 : x0 = y0 <;> by_cases h1 : x1 = y1 <;> simp [run_underlying Try.underlying70, hs, eqi70_3, part, h0, h1]
theorem eq70 (x y : D.Gate) (w : World) : (binOp .eql 70 (.agg #[.int .i64 x.A, .int .i64 x.B]) (.agg #[.int .i64 y.A, .int .i64 y.B])).run Try.prog w = .ok (.bool (decide (x = y))) w := by
  have h := eqd70 9998 x y w
  simp only [binOp, Op.equal, Op.maxDepth, Sem.run_bind, Sem.run_pure]
  rw [h]; rfl
theorem eqg70 (x y : Operand) (a b : Array Value) (w : World) : (eqGuard .eql 70 x y (.agg a) (.agg b)).run Try.prog w = .ok () w := by
  have hg : Try.prog.eqGuardType Try.prog.depth 70 = false := by kernel_rfl
  simp [eqGuard, hg]
theorem laidOut : laidOutB Try.prog = true := by kernel_rfl
theorem keyed70 : Keyed Try.prog 70 := Keyed.of_law (deep_law_laid laidOut (m := 3) (by omega) (of_decide_eq_true (by kernel_rfl)) (by kernel_rfl) (by kernel_rfl))
theorem lits3 (n : Nat) {a : Int} (h : (Lit.int .i64 a).wf = true) : Try.prog.keyLits (n + 1) 3 [.int .i64 a] = some [.int .i64 a] := by
  unfold Program.keyLits
  rw [Try.underlying3]
  simp [h]
theorem lits70 (n : Nat) (x : D.Gate) (hA : (Lit.int .i64 x.A).wf = true) (hB : (Lit.int .i64 x.B).wf = true) : Try.prog.keyLits (n + 1 + 1) 70 [.int .i64 x.A, .int .i64 x.B] = some [.int .i64 x.A, .int .i64 x.B] := by
  have hc : Try.prog.cellsOf 70 = 2 := by kernel_rfl
  have hc3 : Try.prog.cellsOf 3 = 1 := by kernel_rfl
  unfold Program.keyLits
  rw [Try.underlying70]
  simp [hc, hc3, lits3 n hA, lits3 n hB]
theorem key70 (x : D.Gate) (hA : (Lit.int .i64 x.A).wf = true) (hB : (Lit.int .i64 x.B).wf = true) : keyOf Try.prog 70 (.agg #[.int .i64 x.A, .int .i64 x.B]) = some (.string (keyBytes [.int .i64 x.A, .int .i64 x.B])) := by
  have h1 : Try.prog.keyType 70 = true := by kernel_rfl
  have h2 : ∀ x : D.Gate, (Value.agg #[.int .i64 x.A, .int .i64 x.B]).formed Try.prog 70 = true := by intro x; kernel_rfl
  obtain ⟨n, hs⟩ : ∃ n, Try.prog.types.size = n + 1 := ⟨Try.prog.types.size - 1, (Nat.succ_pred_eq_of_pos (of_decide_eq_true (by kernel_rfl))).symm⟩
  have hl := lits70 n x hA hB
  unfold keyOf
  rw [Try.underlying70]
  simp only [h1, h2, Bool.and_self, if_true, hs, Value.cells]
  rw [hl]; rfl
theorem back4 (v : Value) (y : Bool) (ps : List MemPlace) (h : plainElem (H := Unit) Try.prog 4 v = some (.lit (.bool y), ps)) : v = .bool y := by
  unfold plainElem at h
  rw [Try.underlying4] at h
  split at h <;> simp_all
def map73 : MapT Try.prog 70 4 D.Gate Bool where
  fit := fitK_Gate
  lit x := .string (keyBytes [.int .i64 x.A, .int .i64 x.B])
  dv y := .lit (.bool y)
  zero := false
  keyed := keyed70
  key x h := by
    simp only [fitK_Gate, fitZ, Bool.and_eq_true] at h
    exact key70 x h.1 h.2
  inj x y hx hy h := by
    simp only [fitK_Gate, fitZ, Bool.and_eq_true] at hx hy
    have h1 := key70 x hx.1 hx.2
    have h2 := key70 y hy.1 hy.2
    rw [← h] at h2
    have h3 := keyed70.inj h1 h2
    cases x; cases y
    simpa using h3
  elem y := plainElem_bool Try.underlying4 y
  back v y ps h := back4 v y ps h
  hz w := by
    show (zeroValue 4).run Try.prog w = .ok (.bool false) w
    have hz : (Try.prog.info? 4).map (·.zero) = some (some (.bool false)) := by kernel_rfl
    cases hi : Try.prog.info? 4 with
    | none => rw [hi] at hz; cases hz
    | some i =>
      rw [hi] at hz
      simp only [Option.map_some, Option.some.injEq] at hz
      simp [zeroValue, typeInfo, hi, hz]

theorem laws_szGateS_ok (p0 : List D.Gate) (p1 : Int) {r : Int} (h : laws_szGateS p0 p1 = some r) {w : World} {G0 : Nat → Prop} {va0 : Value} (ra0 : RV w G0 va0 p0) :
    Calls Try.prog 41 [va0, .int .i64 p1].toArray w fun e w' => ∃ v, e = .returned v ∧ v = .int .i64 r ∧ Chg Non w w' := by
  unfold laws_szGateS at h
  have hs := Sep.nil w Non
  have hM0 : Mem w Non (fun k => (G0 k) ∧ k < w.heap.size) w Non (fun k => (G0 k) ∧ k < w.heap.size) := Mem.start (fun _ h => h.elim) (fun _ h => h.2) (fun _ h => h.elim)
  have ra0 := ra0.sub (F' := (fun k => (G0 k) ∧ k < w.heap.size)) (fun k hk h => ⟨h, hk⟩)
  obtain ⟨a1, c1, rfl, -⟩ := ra0.slice
  refine enter (N := 12) Try.func41 rfl Try.ntmps41 rfl fun fr hF => ?_
  refine wp_seq (wp_pure [(0, .slice a1 (List.length p0) c1), (1, .int .i64 p1)] hF (by kernel_rfl) fun fr hF => then_normal ?_)
  refine wp_seq (wp_pure [(1, .int .i64 (w64 (p1 - (len p0))))] hF (by kernel_rfl) fun fr hF => then_normal ?_)
  refine wp_seq ?_
  refine wp_seq (wp_pure [(1, .int .i64 (w64 (p1 - (len p0)))), (10, .bool (decide ((w64 (p1 - (len p0))) < 0)))] hF (by kernel_rfl) fun fr hF => then_normal ?_)
  refine (wp_if hF (b := (decide ((w64 (p1 - (len p0))) < 0))) rfl (fun hb => ?_) (fun hb => ?_))
  · replace h := iteT hb h
    refine wp_seq (wp_pure [(4, .int .i64 (-1))] hF (by kernel_rfl) fun fr hF => then_normal ?_)
    obtain rfl := Option.some.inj h
    exact wp_ret (then_ret (ret1 rfl hF rfl ⟨_, rfl, rfl, hM0.chg⟩))
  · replace h := iteF hb h
    refine (wp_skip (then_normal ?_))
    refine wp_seq (wp_pure [(4, .int .i64 (w64 (p1 - (len p0))))] hF (by kernel_rfl) fun fr hF => then_normal ?_)
    obtain rfl := Option.some.inj h
    exact wp_ret (ret1 rfl hF rfl ⟨_, rfl, rfl, hM0.chg⟩)

theorem laws_szCircuit_ok (p0 : D.Circuit) (p1 : Int) {r : Int} (h : laws_szCircuit p0 p1 = some r) {w : World} {G0 : Nat → Prop} {va0 : Value} (ra0 : RV w G0 va0 p0) :
    Calls Try.prog 16 [va0, .int .i64 p1].toArray w fun e w' => ∃ v, e = .returned v ∧ v = .int .i64 r ∧ Chg Non w w' := by
  unfold laws_szCircuit at h
  have hs := Sep.nil w Non
  have hM0 : Mem w Non (fun k => (G0 k) ∧ k < w.heap.size) w Non (fun k => (G0 k) ∧ k < w.heap.size) := Mem.start (fun _ h => h.elim) (fun _ h => h.2) (fun _ h => h.elim)
  have ra0 := ra0.sub (F' := (fun k => (G0 k) ∧ k < w.heap.size)) (fun k hk h => ⟨h, hk⟩)
  obtain ⟨v1, rfl, r1⟩ := RV.Circuit ra0
  obtain ⟨a1, c1, rfl, -⟩ := r1.slice
  refine enter (N := 12) Try.func16 rfl Try.ntmps16 rfl fun fr hF => ?_
  refine wp_seq (wp_text' ?_)
  refine q_box hs hM0 [.int .i64 p0.Inputs, .slice a1 (List.length p0.Gates) c1] rfl rfl hF rfl rfl fun b1 w1 S1 fr hs hp hF => ?_
  have r1 := r1.stp hM0 hp
  have hM0 := hM0.stp hp
  have hs : Sep [BX b1 34 [.int .i64 p0.Inputs, .slice a1 (List.length p0.Gates) c1]] w1 S1 := hs
  refine from_pure 1 [(1, .int .i64 p1), (2, .pointer (some ⟨b1, 0, none⟩))] hF (by kernel_rfl) fun fr hF => ?_
  refine from_end rfl (then_normal ?_)
  refine wp_seq (wp_text' ?_)
  refine from_pure 1 [(1, .int .i64 p1), (5, .pointer (some ⟨b1, 1, none⟩))] hF (by kernel_rfl) fun fr hF => ?_
  refine s_loadBox (.slice a1 (List.length p0.Gates) c1) ty32 rfl rfl hF rfl (hs.bx 0 rfl) rfl rfl fun fr hF => ?_
  have hs : Sep [] w1 S1 := Sep.pick [] hs (by decide) rfl
  refine from_pure 1 [(6, .slice a1 (List.length p0.Gates) c1), (7, .int .i64 p1)] hF (by kernel_rfl) fun fr hF => ?_
  obtain ⟨x1, hx1, h⟩ := bindE h
  refine s_call [.slice a1 (List.length p0.Gates) c1, .int .i64 p1] Try.call41 rfl rfl hF rfl (laws_szGateS_ok p0.Gates p1 hx1 (r1)) fun v w2 fr hRes hF => ?_
  obtain ⟨rfl, hc⟩ := hRes
  have r1 := r1.ext hc
  have hs := hs.ext hc
  have hM0 := hM0.ext hc
  refine from_pure 1 [(1, .int .i64 x1)] hF (by kernel_rfl) fun fr hF => ?_
  refine from_end rfl (then_normal ?_)
  refine wp_seq ?_
  refine wp_seq (wp_pure [(1, .int .i64 x1), (10, .bool (decide (x1 < 0)))] hF (by kernel_rfl) fun fr hF => then_normal ?_)
  refine (wp_if hF (b := (decide (x1 < 0))) rfl (fun hb => ?_) (fun hb => ?_))
  · replace h := iteT hb h
    refine wp_seq (wp_pure [(4, .int .i64 (-1))] hF (by kernel_rfl) fun fr hF => then_normal ?_)
    obtain rfl := Option.some.inj h
    exact wp_ret (then_ret (ret1 rfl hF rfl ⟨_, rfl, rfl, hM0.chg⟩))
  · replace h := iteF hb h
    refine (wp_skip (then_normal ?_))
    refine wp_seq (wp_pure [(4, .int .i64 x1)] hF (by kernel_rfl) fun fr hF => then_normal ?_)
    obtain rfl := Option.some.inj h
    exact wp_ret (ret1 rfl hF rfl ⟨_, rfl, rfl, hM0.chg⟩)

theorem laws_toGate_ok (p0 : D.Gate) {r : D.Gate} (h : laws_toGate p0 = some r) {w : World} :
    Calls Try.prog 60 [.agg #[.int .i64 p0.A, .int .i64 p0.B]].toArray w fun e w' => ∃ v, e = .returned v ∧ v = .agg #[.int .i64 r.A, .int .i64 r.B] ∧ Chg Non w w' := by
  unfold laws_toGate at h
  have hs := Sep.nil w Non
  have hM0 : Mem w Non (fun k => (False) ∧ k < w.heap.size) w Non (fun k => (False) ∧ k < w.heap.size) := Mem.start (fun _ h => h.elim) (fun _ h => h.2) (fun _ h => h.elim)
  refine enter (N := 11) Try.func60 rfl Try.ntmps60 rfl fun fr hF => ?_
  refine wp_seq (wp_text' ?_)
  refine q_box hs hM0 [.int .i64 p0.A, .int .i64 p0.B] rfl rfl hF rfl rfl fun b1 w1 S1 fr hs hp hF => ?_
  have hM0 := hM0.stp hp
  have hs : Sep [BX b1 87 [.int .i64 p0.A, .int .i64 p0.B]] w1 S1 := hs
  refine q_alloc (z := .agg #[.int .i64 0, .int .i64 0]) hs hM0 [.int .i64 0, .int .i64 0] rfl rfl hF (by kernel_rfl) rfl fun b2 w2 S2 fr hs hp hF => ?_
  have hM0 := hM0.stp hp
  have hs : Sep [BX b2 70 [.int .i64 0, .int .i64 0], BX b1 87 [.int .i64 p0.A, .int .i64 p0.B]] w2 S2 := hs
  refine from_end rfl (then_normal ?_)
  refine wp_seq (wp_text' ?_)
  refine q_alloc (z := .agg #[.int .i64 0, .int .i64 0]) hs hM0 [.int .i64 0, .int .i64 0] rfl rfl hF (by kernel_rfl) rfl fun b3 w3 S3 fr hs hp hF => ?_
  have hM0 := hM0.stp hp
  have hs : Sep [BX b3 70 [.int .i64 0, .int .i64 0], BX b2 70 [.int .i64 0, .int .i64 0], BX b1 87 [.int .i64 p0.A, .int .i64 p0.B]] w3 S3 := hs
  refine from_end rfl (then_normal ?_)
  refine wp_seq (wp_text' ?_)
  refine from_pure 1 [(1, .pointer (some ⟨b1, 0, none⟩)), (2, .pointer (some ⟨b2, 0, none⟩)), (3, .pointer (some ⟨b3, 0, none⟩)), (4, .pointer (some ⟨b1, 0, none⟩))] hF (by kernel_rfl) fun fr hF => ?_
  refine s_loadBox (.int .i64 p0.A) ty3 rfl rfl hF rfl (hs.bx 2 rfl) rfl rfl fun fr hF => ?_
  refine from_pure 1 [(1, .pointer (some ⟨b1, 0, none⟩)), (2, .pointer (some ⟨b2, 0, none⟩)), (3, .pointer (some ⟨b3, 0, none⟩)), (5, .int .i64 p0.A), (6, .pointer (some ⟨b3, 0, none⟩))] hF (by kernel_rfl) fun fr hF => ?_
  refine q_storeBox 0 hs hM0 rfl [.int .i64 p0.A, .int .i64 0] rfl hF rfl rfl (by kernel_rfl) rfl rfl rfl fun w4 S4 hs hp hF => ?_
  have hM0 := hM0.stp hp
  have hs : Sep [BX b3 70 [.int .i64 p0.A, .int .i64 0], BX b2 70 [.int .i64 0, .int .i64 0], BX b1 87 [.int .i64 p0.A, .int .i64 p0.B]] w4 S4 := hs
  refine from_end rfl (then_normal ?_)
  refine wp_seq (wp_text' ?_)
  refine from_pure 1 [(2, .pointer (some ⟨b2, 0, none⟩)), (3, .pointer (some ⟨b3, 0, none⟩)), (7, .pointer (some ⟨b1, 1, none⟩))] hF (by kernel_rfl) fun fr hF => ?_
  refine s_loadBox (.int .i64 p0.B) ty3 rfl rfl hF rfl (hs.bx 2 rfl) rfl rfl fun fr hF => ?_
  have hs : Sep [BX b3 70 [.int .i64 p0.A, .int .i64 0], BX b2 70 [.int .i64 0, .int .i64 0]] w4 S4 := Sep.pick [0, 1] hs (by decide) rfl
  refine from_pure 1 [(2, .pointer (some ⟨b2, 0, none⟩)), (3, .pointer (some ⟨b3, 0, none⟩)), (8, .int .i64 p0.B), (9, .pointer (some ⟨b3, 1, none⟩))] hF (by kernel_rfl) fun fr hF => ?_
  refine q_storeBox 0 hs hM0 rfl [.int .i64 p0.A, .int .i64 p0.B] rfl hF rfl rfl (by kernel_rfl) rfl rfl rfl fun w5 S5 hs hp hF => ?_
  have hM0 := hM0.stp hp
  have hs : Sep [BX b3 70 [.int .i64 p0.A, .int .i64 p0.B], BX b2 70 [.int .i64 0, .int .i64 0]] w5 S5 := hs
  refine from_end rfl (then_normal ?_)
  refine wp_seq (wp_text' ?_)
  refine s_loadBoxS ty70 rfl rfl hF rfl (hs.bx 0 rfl) rfl rfl fun fr hF => ?_
  have hs : Sep [BX b2 70 [.int .i64 0, .int .i64 0]] w5 S5 := Sep.pick [1] hs (by decide) rfl
  refine q_storeBoxS 0 hs hM0 rfl [.int .i64 p0.A, .int .i64 p0.B] rfl hF rfl rfl (by kernel_rfl) rfl rfl rfl fun w6 S6 hs hp hF => ?_
  have hM0 := hM0.stp hp
  have hs : Sep [BX b2 70 [.int .i64 p0.A, .int .i64 p0.B]] w6 S6 := hs
  refine from_end rfl (then_normal ?_)
  have hbr := (hs.bx 0 rfl)
  obtain rfl := Option.some.inj h
  exact wp_ret (retS rfl hF ty70 rfl rfl hbr rfl ⟨_, rfl, rfl, hM0.chg⟩)

theorem laws_toGateS_ok (n : Nat) (p0 : List D.Gate) {r : (List D.Gate)} (h : laws_toGateS n p0 = some r) {w : World} {G0 : Nat → Prop} {va0 : Value} (ra0 : RV w G0 va0 p0) :
    Calls Try.prog 43 [va0].toArray w fun e w' => ∃ v, e = .returned v ∧ ∃ a1 c1, v = .slice a1 (List.length r) c1 ∧ ∃ S', Stp w Non w' S' ∧ Sep [SL (α := D.Gate) 70 (.slice a1 (List.length r) c1) r] w' S' := by
  unfold laws_toGateS at h
  have hs := Sep.nil w Non
  have hM0 : Mem w Non (fun k => (G0 k) ∧ k < w.heap.size) w Non (fun k => (G0 k) ∧ k < w.heap.size) := Mem.start (fun _ h => h.elim) (fun _ h => h.2) (fun _ h => h.elim)
  have ra0 := ra0.sub (F' := (fun k => (G0 k) ∧ k < w.heap.size)) (fun k hk h => ⟨h, hk⟩)
  obtain ⟨a1, c1, rfl, -⟩ := ra0.slice
  refine enter (N := 23) Try.func43 rfl Try.ntmps43 rfl fun fr hF => ?_
  refine wp_seq (wp_pure [(0, .slice a1 (List.length p0) c1)] hF (by kernel_rfl) fun fr hF => then_normal ?_)
  refine wp_seq (wp_text' ?_)
  refine from_pure 2 [(0, .slice a1 (List.length p0) c1), (6, .int .i64 (len p0))] hF (by kernel_rfl) fun fr hF => ?_
  obtain ⟨x1, hx1, h⟩ := bindE h
  refine q_make hs hM0 Try.underlying37 el70 (zero_flat _ (by kernel_rfl)) rfl rfl hF rfl rfl hx1 fun a2 c2 w1 S1 fr hs hp hF => ?_
  have ra0 := ra0.stp hM0 hp
  have hM0 := hM0.stp hp
  have hs : Sep [SL (α := D.Gate) 70 (.slice a2 (List.length x1) c2) x1] w1 S1 := hs
  refine from_pure 1 [(0, .slice a1 (List.length p0) c1), (3, .slice a2 (List.length x1) c2)] hF (by kernel_rfl) fun fr hF => ?_
  refine from_end rfl (then_normal ?_)
  refine wp_seq ?_
  refine wp_seq (wp_pure [(0, .slice a1 (List.length p0) c1), (3, .slice a2 (List.length x1) c2), (4, .int .i64 0)] hF (by kernel_rfl) fun fr hF => then_normal ?_)
  obtain ⟨rl1, hit1, h⟩ := bindE h
  have hk1 := h
  refine (wp_cut (M := fun fr w' => ∃ S3 F2, FrS 23 [(3, .slice a2 (List.length x1) c2)] fr ∧ Mem w1 S1 (fun k => (G0 k) ∧ k < w.heap.size) w' S3 F2 ∧ Sep [SL (α := D.Gate) 70 (.slice a2 (List.length x1) c2) rl1] w' S3) (wp_block (wp_iter (Inv := fun s1 fr w' => ∃ S2 F1, FrS 23 [(0, .slice a1 (List.length p0) c1), (3, .slice a2 (List.length x1) c2), (4, .int .i64 s1.1)] fr ∧ Mem w1 S1 (fun k => (G0 k) ∧ k < w.heap.size) w' S2 F1 ∧ Sep [SL (α := D.Gate) 70 (.slice a2 (List.length x1) c2) s1.2] w' S2) hit1 ⟨S1, _, hF.sub _ (by kernel_rfl), (Mem.start hM0.bd hM0.bdF hM0.dj), hs⟩ fun s1 q1 fr w1i hI h hr1 => ?_)) fun fr w1o hM => ?_)
  · obtain ⟨S2, F1, hF, hM1, hs⟩ := hI
    have ra0 := ra0.mem hM1
    refine wp_seq ?_
    refine wp_seq (wp_pure [(0, .slice a1 (List.length p0) c1), (3, .slice a2 (List.length x1) c2), (4, .int .i64 s1.1), (11, .bool (decide (s1.1 < (len p0))))] hF (by kernel_rfl) fun fr hF => then_normal ?_)
    refine (wp_if hF (b := (decide (s1.1 < (len p0)))) rfl (fun hb => ?_) (fun hb => ?_))
    · replace h := iteT hb h
      refine (wp_skip (then_normal ?_))
      refine wp_seq (wp_block ?_)
      refine (wp_text' ?_)
      refine from_pure 4 [(0, .slice a1 (List.length p0) c1), (3, .slice a2 (List.length x1) c2), (4, .int .i64 s1.1), (14, .slice a2 (List.length x1) c2), (15, .int .i64 s1.1), (16, .slice a1 (List.length p0) c1), (17, .int .i64 s1.1)] hF (by kernel_rfl) fun fr hF => ?_
      obtain ⟨x2, hx2, h⟩ := bindE h
      refine s_elemF (z := x2) (.agg #[.int .i64 x2.A, .int .i64 x2.B]) ty87 Try.underlying32 rfl rfl rfl rfl rfl hF rfl (ra0) rfl (get?_nn hx2) (get?_at hx2) rfl fun p fr hF => ?_
      obtain ⟨x3, hx3, h⟩ := bindE h
      refine s_call [.agg #[.int .i64 x2.A, .int .i64 x2.B]] Try.call60 rfl rfl hF rfl (laws_toGate_ok x2 hx3) fun v w2 fr hRes hF => ?_
      obtain ⟨rfl, hc⟩ := hRes
      have ra0 := ra0.ext hc
      have hs := hs.ext hc
      have hM1 := hM1.ext hc
      obtain ⟨x4, hx4, h⟩ := bindE h
      refine q_set (q := x3) 0 hs hM1 rfl Try.underlying37 ty70 rfl rfl rfl rfl hF rfl rfl (by simp) rfl rfl hx4 fun w3 S4 fr _ hs hp hF => ?_
      have ra0 := ra0.stp hM1 hp
      have hM1 := hM1.stp hp
      have hs : Sep [SL (α := D.Gate) 70 (.slice a2 (List.length x1) c2) x4] w3 S4 := hs
      refine from_end rfl ?_
      refine blk_normal (then_normal ?_)
      refine (wp_pure [(0, .slice a1 (List.length p0) c1), (3, .slice a2 (List.length x1) c2), (4, .int .i64 (w64 (s1.1 + 1)))] hF (by kernel_rfl) fun fr hF => then_normal ?_)
      exact ⟨_, (Option.some.inj h).symm, S4, _, hF.sub _ (by kernel_rfl), hM1, hs⟩
    · replace h := iteF hb h
      refine (wp_exit (then_exit (then_exit (blk_exit_eq ?_))))
      obtain rfl := hr1 _ (Option.some.inj h).symm
      exact then_normal ⟨S2, _, hF.sub _ (by kernel_rfl), hM1, hs⟩
  · obtain ⟨S3, F2, hF, hMx, hs⟩ := hM
    have hM0 := hM0.trans hMx
    refine wp_seq (wp_pure [(2, .slice a2 (List.length x1) c2)] hF (by kernel_rfl) fun fr hF => then_normal ?_)
    obtain rfl := Option.some.inj h
    obtain ⟨he1, hs⟩ := hs.relen 0 rfl
    have hs : Sep [SL (α := D.Gate) 70 (.slice a2 (List.length rl1) c2) rl1] w1o S3 := hs
    exact wp_ret (ret1 rfl hF rfl ⟨_, rfl, a2, c2, (by simp only [he1]), S3, hM0.out, hs⟩)

theorem laws_toCircuit_ok (n : Nat) (p0 : D.Circuit) {r : D.Circuit} (h : laws_toCircuit n p0 = some r) {w : World} {G0 : Nat → Prop} {va0 : Value} (ra0 : RV w G0 va0 p0) :
    Calls Try.prog 18 [va0].toArray w fun e w' => ∃ v, e = .returned v ∧ ∃ a1 c1, v = .agg #[.int .i64 r.Inputs, .slice a1 (List.length r.Gates) c1] ∧ ∃ S', Stp w Non w' S' ∧ Sep [SL (α := D.Gate) 70 (.slice a1 (List.length r.Gates) c1) r.Gates] w' S' := by
  unfold laws_toCircuit at h
  have hs := Sep.nil w Non
  have hM0 : Mem w Non (fun k => (G0 k) ∧ k < w.heap.size) w Non (fun k => (G0 k) ∧ k < w.heap.size) := Mem.start (fun _ h => h.elim) (fun _ h => h.2) (fun _ h => h.elim)
  have ra0 := ra0.sub (F' := (fun k => (G0 k) ∧ k < w.heap.size)) (fun k hk h => ⟨h, hk⟩)
  obtain ⟨v1, rfl, r1⟩ := RV.Circuit ra0
  obtain ⟨a1, c1, rfl, -⟩ := r1.slice
  refine enter (N := 12) Try.func18 rfl Try.ntmps18 rfl fun fr hF => ?_
  refine wp_seq (wp_text' ?_)
  refine q_box hs hM0 [.int .i64 p0.Inputs, .slice a1 (List.length p0.Gates) c1] rfl rfl hF rfl rfl fun b1 w1 S1 fr hs hp hF => ?_
  have r1 := r1.stp hM0 hp
  have hM0 := hM0.stp hp
  have hs : Sep [BX b1 34 [.int .i64 p0.Inputs, .slice a1 (List.length p0.Gates) c1]] w1 S1 := hs
  refine q_alloc (z := .agg #[.int .i64 0, .slice none (List.length ([] : List D.Gate)) 0]) hs hM0 [.int .i64 0, .slice none (List.length ([] : List D.Gate)) 0] rfl rfl hF (by kernel_rfl) rfl fun b2 w2 S2 fr hs hp hF => ?_
  have r1 := r1.stp hM0 hp
  have hM0 := hM0.stp hp
  have hs : Sep [BX b2 39 [.int .i64 0, .slice none (List.length ([] : List D.Gate)) 0], BX b1 34 [.int .i64 p0.Inputs, .slice a1 (List.length p0.Gates) c1]] w2 S2 := hs
  refine from_end rfl (then_normal ?_)
  refine wp_seq (wp_text' ?_)
  refine q_alloc (z := .agg #[.int .i64 0, .slice none (List.length ([] : List D.Gate)) 0]) hs hM0 [.int .i64 0, .slice none (List.length ([] : List D.Gate)) 0] rfl rfl hF (by kernel_rfl) rfl fun b3 w3 S3 fr hs hp hF => ?_
  have r1 := r1.stp hM0 hp
  have hM0 := hM0.stp hp
  have hs : Sep [BX b3 39 [.int .i64 0, .slice none (List.length ([] : List D.Gate)) 0], BX b2 39 [.int .i64 0, .slice none (List.length ([] : List D.Gate)) 0], BX b1 34 [.int .i64 p0.Inputs, .slice a1 (List.length p0.Gates) c1]] w3 S3 := hs
  refine from_end rfl (then_normal ?_)
  refine wp_seq (wp_text' ?_)
  refine from_pure 1 [(1, .pointer (some ⟨b1, 0, none⟩)), (2, .pointer (some ⟨b2, 0, none⟩)), (3, .pointer (some ⟨b3, 0, none⟩)), (4, .pointer (some ⟨b1, 0, none⟩))] hF (by kernel_rfl) fun fr hF => ?_
  refine s_loadBox (.int .i64 p0.Inputs) ty3 rfl rfl hF rfl (hs.bx 2 rfl) rfl rfl fun fr hF => ?_
  refine from_pure 1 [(1, .pointer (some ⟨b1, 0, none⟩)), (2, .pointer (some ⟨b2, 0, none⟩)), (3, .pointer (some ⟨b3, 0, none⟩)), (5, .int .i64 p0.Inputs), (6, .pointer (some ⟨b3, 0, none⟩))] hF (by kernel_rfl) fun fr hF => ?_
  refine q_storeBox 0 hs hM0 rfl [.int .i64 p0.Inputs, .slice none (List.length ([] : List D.Gate)) 0] rfl hF rfl rfl (by kernel_rfl) rfl rfl rfl fun w4 S4 hs hp hF => ?_
  have r1 := r1.stp hM0 hp
  have hM0 := hM0.stp hp
  have hs : Sep [BX b3 39 [.int .i64 p0.Inputs, .slice none (List.length ([] : List D.Gate)) 0], BX b2 39 [.int .i64 0, .slice none (List.length ([] : List D.Gate)) 0], BX b1 34 [.int .i64 p0.Inputs, .slice a1 (List.length p0.Gates) c1]] w4 S4 := hs
  refine from_end rfl (then_normal ?_)
  refine wp_seq (wp_text' ?_)
  refine from_pure 1 [(2, .pointer (some ⟨b2, 0, none⟩)), (3, .pointer (some ⟨b3, 0, none⟩)), (7, .pointer (some ⟨b1, 1, none⟩))] hF (by kernel_rfl) fun fr hF => ?_
  refine s_loadBox (.slice a1 (List.length p0.Gates) c1) ty32 rfl rfl hF rfl (hs.bx 2 rfl) rfl rfl fun fr hF => ?_
  have hs : Sep [BX b3 39 [.int .i64 p0.Inputs, .slice none (List.length ([] : List D.Gate)) 0], BX b2 39 [.int .i64 0, .slice none (List.length ([] : List D.Gate)) 0]] w4 S4 := Sep.pick [0, 1] hs (by decide) rfl
  obtain ⟨x1, hx1, h⟩ := bindE h
  refine s_call [.slice a1 (List.length p0.Gates) c1] Try.call43 rfl rfl hF rfl (laws_toGateS_ok n p0.Gates hx1 (r1)) fun v w5 fr hRes hF => ?_
  obtain ⟨a2, c2, rfl, _, hp, hs2⟩ := hRes
  obtain ⟨S5, hp, hs⟩ := hs.got hM0 hp hs2
  have r1 := r1.stp hM0 hp
  have hM0 := hM0.stp hp
  have hs : Sep [SL (α := D.Gate) 70 (.slice a2 (List.length x1) c2) x1, BX b3 39 [.int .i64 p0.Inputs, .slice none (List.length ([] : List D.Gate)) 0], BX b2 39 [.int .i64 0, .slice none (List.length ([] : List D.Gate)) 0]] w5 S5 := hs
  refine from_pure 1 [(2, .pointer (some ⟨b2, 0, none⟩)), (3, .pointer (some ⟨b3, 0, none⟩)), (9, .slice a2 (List.length x1) c2), (10, .pointer (some ⟨b3, 1, none⟩))] hF (by kernel_rfl) fun fr hF => ?_
  refine q_storeBox 1 hs hM0 rfl [.int .i64 p0.Inputs, .slice a2 (List.length x1) c2] rfl hF rfl rfl (by kernel_rfl) rfl rfl rfl fun w6 S6 hs hp hF => ?_
  have hM0 := hM0.stp hp
  have hs : Sep [SL (α := D.Gate) 70 (.slice a2 (List.length x1) c2) x1, BX b3 39 [.int .i64 p0.Inputs, .slice a2 (List.length x1) c2], BX b2 39 [.int .i64 0, .slice none (List.length ([] : List D.Gate)) 0]] w6 S6 := hs
  refine from_end rfl (then_normal ?_)
  refine wp_seq (wp_text' ?_)
  refine s_loadBoxS ty39 rfl rfl hF rfl (hs.bx 1 rfl) rfl rfl fun fr hF => ?_
  have hs : Sep [SL (α := D.Gate) 70 (.slice a2 (List.length x1) c2) x1, BX b2 39 [.int .i64 0, .slice none (List.length ([] : List D.Gate)) 0]] w6 S6 := Sep.pick [0, 2] hs (by decide) rfl
  refine q_storeBoxS 1 hs hM0 rfl [.int .i64 p0.Inputs, .slice a2 (List.length x1) c2] rfl hF rfl rfl (by kernel_rfl) rfl rfl rfl fun w7 S7 hs hp hF => ?_
  have hM0 := hM0.stp hp
  have hs : Sep [SL (α := D.Gate) 70 (.slice a2 (List.length x1) c2) x1, BX b2 39 [.int .i64 p0.Inputs, .slice a2 (List.length x1) c2]] w7 S7 := hs
  refine from_end rfl (then_normal ?_)
  have hbr := (hs.bx 1 rfl)
  obtain rfl := Option.some.inj h
  have hs : Sep [SL (α := D.Gate) 70 (.slice a2 (List.length x1) c2) x1] w7 S7 := Sep.pick [0] hs (by decide) rfl
  exact wp_ret (retS rfl hF ty39 rfl rfl hbr rfl ⟨_, rfl, a2, c2, rfl, S7, hM0.out, hs⟩)

theorem laws_toBoolS_ok (n : Nat) (p0 : List Bool) {r : (List Bool)} (h : laws_toBoolS n p0 = some r) {w : World} {G0 : Nat → Prop} {va0 : Value} (ra0 : RV w G0 va0 p0) :
    Calls Try.prog 27 [va0].toArray w fun e w' => ∃ v, e = .returned v ∧ ∃ a1 c1, v = .slice a1 (List.length r) c1 ∧ ∃ S', Stp w Non w' S' ∧ Sep [SL (α := Bool) 4 (.slice a1 (List.length r) c1) r] w' S' := by
  unfold laws_toBoolS at h
  have hs := Sep.nil w Non
  have hM0 : Mem w Non (fun k => (G0 k) ∧ k < w.heap.size) w Non (fun k => (G0 k) ∧ k < w.heap.size) := Mem.start (fun _ h => h.elim) (fun _ h => h.2) (fun _ h => h.elim)
  have ra0 := ra0.sub (F' := (fun k => (G0 k) ∧ k < w.heap.size)) (fun k hk h => ⟨h, hk⟩)
  obtain ⟨a1, c1, rfl, -⟩ := ra0.slice
  refine enter (N := 22) Try.func27 rfl Try.ntmps27 rfl fun fr hF => ?_
  refine wp_seq (wp_pure [(0, .slice a1 (List.length p0) c1)] hF (by kernel_rfl) fun fr hF => then_normal ?_)
  refine wp_seq (wp_text' ?_)
  refine from_pure 2 [(0, .slice a1 (List.length p0) c1), (6, .int .i64 (len p0))] hF (by kernel_rfl) fun fr hF => ?_
  obtain ⟨x1, hx1, h⟩ := bindE h
  refine q_make hs hM0 Try.underlying54 el4 (zero_flat _ (by kernel_rfl)) rfl rfl hF rfl rfl hx1 fun a2 c2 w1 S1 fr hs hp hF => ?_
  have ra0 := ra0.stp hM0 hp
  have hM0 := hM0.stp hp
  have hs : Sep [SL (α := Bool) 4 (.slice a2 (List.length x1) c2) x1] w1 S1 := hs
  refine from_pure 1 [(0, .slice a1 (List.length p0) c1), (3, .slice a2 (List.length x1) c2)] hF (by kernel_rfl) fun fr hF => ?_
  refine from_end rfl (then_normal ?_)
  refine wp_seq ?_
  refine wp_seq (wp_pure [(0, .slice a1 (List.length p0) c1), (3, .slice a2 (List.length x1) c2), (4, .int .i64 0)] hF (by kernel_rfl) fun fr hF => then_normal ?_)
  obtain ⟨rl1, hit1, h⟩ := bindE h
  have hk1 := h
  refine (wp_cut (M := fun fr w' => ∃ S3 F2, FrS 22 [(3, .slice a2 (List.length x1) c2)] fr ∧ Mem w1 S1 (fun k => (G0 k) ∧ k < w.heap.size) w' S3 F2 ∧ Sep [SL (α := Bool) 4 (.slice a2 (List.length x1) c2) rl1] w' S3) (wp_block (wp_iter (Inv := fun s1 fr w' => ∃ S2 F1, FrS 22 [(0, .slice a1 (List.length p0) c1), (3, .slice a2 (List.length x1) c2), (4, .int .i64 s1.1)] fr ∧ Mem w1 S1 (fun k => (G0 k) ∧ k < w.heap.size) w' S2 F1 ∧ Sep [SL (α := Bool) 4 (.slice a2 (List.length x1) c2) s1.2] w' S2) hit1 ⟨S1, _, hF.sub _ (by kernel_rfl), (Mem.start hM0.bd hM0.bdF hM0.dj), hs⟩ fun s1 q1 fr w1i hI h hr1 => ?_)) fun fr w1o hM => ?_)
  · obtain ⟨S2, F1, hF, hM1, hs⟩ := hI
    have ra0 := ra0.mem hM1
    refine wp_seq ?_
    refine wp_seq (wp_pure [(0, .slice a1 (List.length p0) c1), (3, .slice a2 (List.length x1) c2), (4, .int .i64 s1.1), (11, .bool (decide (s1.1 < (len p0))))] hF (by kernel_rfl) fun fr hF => then_normal ?_)
    refine (wp_if hF (b := (decide (s1.1 < (len p0)))) rfl (fun hb => ?_) (fun hb => ?_))
    · replace h := iteT hb h
      refine (wp_skip (then_normal ?_))
      refine wp_seq (wp_block ?_)
      refine (wp_text' ?_)
      refine from_pure 4 [(0, .slice a1 (List.length p0) c1), (3, .slice a2 (List.length x1) c2), (4, .int .i64 s1.1), (14, .slice a2 (List.length x1) c2), (15, .int .i64 s1.1), (16, .slice a1 (List.length p0) c1), (17, .int .i64 s1.1)] hF (by kernel_rfl) fun fr hF => ?_
      obtain ⟨x2, hx2, h⟩ := bindE h
      refine s_elemF (z := x2) (.bool x2) ty4 Try.underlying54 rfl rfl rfl rfl rfl hF rfl (ra0) rfl (get?_nn hx2) (get?_at hx2) rfl fun p fr hF => ?_
      obtain ⟨x3, hx3, h⟩ := bindE h
      refine q_set (q := x2) 0 hs hM1 rfl Try.underlying54 ty4 rfl rfl rfl rfl hF rfl rfl (by simp) rfl rfl hx3 fun w2 S4 fr _ hs hp hF => ?_
      have ra0 := ra0.stp hM1 hp
      have hM1 := hM1.stp hp
      have hs : Sep [SL (α := Bool) 4 (.slice a2 (List.length x1) c2) x3] w2 S4 := hs
      refine from_end rfl ?_
      refine blk_normal (then_normal ?_)
      refine (wp_pure [(0, .slice a1 (List.length p0) c1), (3, .slice a2 (List.length x1) c2), (4, .int .i64 (w64 (s1.1 + 1)))] hF (by kernel_rfl) fun fr hF => then_normal ?_)
      exact ⟨_, (Option.some.inj h).symm, S4, _, hF.sub _ (by kernel_rfl), hM1, hs⟩
    · replace h := iteF hb h
      refine (wp_exit (then_exit (then_exit (blk_exit_eq ?_))))
      obtain rfl := hr1 _ (Option.some.inj h).symm
      exact then_normal ⟨S2, _, hF.sub _ (by kernel_rfl), hM1, hs⟩
  · obtain ⟨S3, F2, hF, hMx, hs⟩ := hM
    have hM0 := hM0.trans hMx
    refine wp_seq (wp_pure [(2, .slice a2 (List.length x1) c2)] hF (by kernel_rfl) fun fr hF => then_normal ?_)
    obtain rfl := Option.some.inj h
    obtain ⟨he1, hs⟩ := hs.relen 0 rfl
    have hs : Sep [SL (α := Bool) 4 (.slice a2 (List.length rl1) c2) rl1] w1o S3 := hs
    exact wp_ret (ret1 rfl hF rfl ⟨_, rfl, a2, c2, (by simp only [he1]), S3, hM0.out, hs⟩)

theorem spec_l01In_ok (p0 : Int) (p1 : Int) (p2 : Int) {r : Bool} (h : spec_l01In p0 p1 p2 = some r) {w : World} :
    Calls Try.prog 37 [.int .i64 p0, .int .i64 p1, .int .i64 p2].toArray w fun e w' => ∃ v, e = .returned v ∧ v = .bool r ∧ Chg Non w w' := by
  unfold spec_l01In at h
  have hs := Sep.nil w Non
  have hM0 : Mem w Non (fun k => (False) ∧ k < w.heap.size) w Non (fun k => (False) ∧ k < w.heap.size) := Mem.start (fun _ h => h.elim) (fun _ h => h.2) (fun _ h => h.elim)
  refine enter (N := 15) Try.func37 rfl Try.ntmps37 rfl fun fr hF => ?_
  refine wp_seq (wp_pure [(0, .int .i64 p0), (1, .int .i64 p1), (2, .int .i64 p2)] hF (by kernel_rfl) fun fr hF => then_normal ?_)
  refine wp_seq (region_b [] [true, true, true, true, true, true, true, true, true]
      [.eq (.int .i64 p0), .eq (.int .i64 p1), .eq (.bool (decide (p0 ≥ p1))), .eq (.bool (decide (p0 ≥ p1))), .eq (.int .i64 p0), .eq (.int .i64 p2), .eq (.bool (decide (p0 ≤ p2))), .eq (.bool ((decide (p0 ≥ p1)) && (decide (p0 ≤ p2)))), .eq (.bool ((decide (p0 ≥ p1)) && (decide (p0 ≤ p2))))]
      [(6, .bool ((decide (p0 ≥ p1)) && (decide (p0 ≤ p2))))] mix hF (by kernel_rfl) (by kernel_rfl) (by kernel_rfl) trivial (fun hG => trivial) (by kernel_rfl) fun fr w1 hF hE hc => then_normal ?_)
  have hs := hs.ext hc
  have hM0 := hM0.ext hc
  obtain rfl := Option.some.inj h
  exact wp_ret (ret1 rfl hF rfl ⟨_, rfl, rfl, hM0.chg⟩)

theorem spec_l03Abs_ok (p0 : Int) {r : Int} (h : spec_l03Abs p0 = some r) {w : World} :
    Calls Try.prog 42 [.int .i64 p0].toArray w fun e w' => ∃ v, e = .returned v ∧ v = .int .i64 r ∧ Chg Non w w' := by
  unfold spec_l03Abs at h
  have hs := Sep.nil w Non
  have hM0 : Mem w Non (fun k => (False) ∧ k < w.heap.size) w Non (fun k => (False) ∧ k < w.heap.size) := Mem.start (fun _ h => h.elim) (fun _ h => h.2) (fun _ h => h.elim)
  refine enter (N := 8) Try.func42 rfl Try.ntmps42 rfl fun fr hF => ?_
  refine wp_seq (wp_pure [(0, .int .i64 p0)] hF (by kernel_rfl) fun fr hF => then_normal ?_)
  refine wp_seq ?_
  refine wp_seq (wp_pure [(0, .int .i64 p0), (4, .bool (decide (p0 < 0)))] hF (by kernel_rfl) fun fr hF => then_normal ?_)
  refine (wp_if hF (b := (decide (p0 < 0))) rfl (fun hb => ?_) (fun hb => ?_))
  · replace h := iteT hb h
    refine wp_seq (wp_pure [(2, .int .i64 (w64 (0 - p0)))] hF (by kernel_rfl) fun fr hF => then_normal ?_)
    obtain rfl := Option.some.inj h
    exact wp_ret (then_ret (ret1 rfl hF rfl ⟨_, rfl, rfl, hM0.chg⟩))
  · replace h := iteF hb h
    refine (wp_skip (then_normal ?_))
    refine wp_seq (wp_pure [(2, .int .i64 p0)] hF (by kernel_rfl) fun fr hF => then_normal ?_)
    obtain rfl := Option.some.inj h
    exact wp_ret (ret1 rfl hF rfl ⟨_, rfl, rfl, hM0.chg⟩)

theorem spec_CircuitOk_ok (n : Nat) (p0 : D.Circuit) {r : Bool} (h : spec_CircuitOk n p0 = some r) {w : World} {G0 : Nat → Prop} {va0 : Value} (ra0 : RV w G0 va0 p0) :
    Calls Try.prog 17 [va0].toArray w fun e w' => ∃ v, e = .returned v ∧ v = .bool r ∧ Chg Non w w' := by
  unfold spec_CircuitOk at h
  have hs := Sep.nil w Non
  have hM0 : Mem w Non (fun k => (G0 k) ∧ k < w.heap.size) w Non (fun k => (G0 k) ∧ k < w.heap.size) := Mem.start (fun _ h => h.elim) (fun _ h => h.2) (fun _ h => h.elim)
  have ra0 := ra0.sub (F' := (fun k => (G0 k) ∧ k < w.heap.size)) (fun k hk h => ⟨h, hk⟩)
  obtain ⟨v1, rfl, r1⟩ := RV.Circuit ra0
  obtain ⟨a1, c1, rfl, -⟩ := r1.slice
  refine enter (N := 76) Try.func17 rfl Try.ntmps17 rfl fun fr hF => ?_
  refine wp_seq (wp_text' ?_)
  refine q_box hs hM0 [.int .i64 p0.Inputs, .slice a1 (List.length p0.Gates) c1] rfl rfl hF rfl rfl fun b1 w1 S1 fr hs hp hF => ?_
  have r1 := r1.stp hM0 hp
  have hM0 := hM0.stp hp
  have hs : Sep [BX b1 39 [.int .i64 p0.Inputs, .slice a1 (List.length p0.Gates) c1]] w1 S1 := hs
  refine from_pure 1 [(1, .pointer (some ⟨b1, 0, none⟩))] hF (by kernel_rfl) fun fr hF => ?_
  refine from_end rfl (then_normal ?_)
  refine wp_seq ?_
  obtain ⟨x1, hx1, h⟩ := bindE h
  refine wp_seq (region_b [] [true, false, false, true, true, true, false, true, true, true]
      [.eq (.pointer (some ⟨b1, 0, none⟩)), .eq (.int .i64 p0.Inputs), .eq (.bool x1), .eq (.bool (!x1)), .eq (.bool (!x1)), .eq (.pointer (some ⟨b1, 1, none⟩)), .eq (.slice a1 (List.length p0.Gates) c1), .eq (.int .i64 (len p0.Gates)), .eq (.bool (decide ((len p0.Gates) > 360))), .eq (.bool ((!x1) || (decide ((len p0.Gates) > 360))))]
      [(1, .pointer (some ⟨b1, 0, none⟩)), (17, .bool ((!x1) || (decide ((len p0.Gates) > 360))))] mix hF (by kernel_rfl) (by kernel_rfl) (by kernel_rfl) ⟨Pd.mono_eq, Pd.mono_eq, Pd.mono_eq, trivial⟩ (fun hG => ⟨np_loadBox hG hF ty3 rfl rfl (hs.bx 0 rfl) rfl rfl rfl, np_call [.int .i64 p0.Inputs, .int .i64 0, .int .i64 30] hG hF Try.call37 rfl rfl (fun w hC hg => (spec_l01In_ok p0.Inputs 0 30 hx1).mono fun e w' ⟨v, he, hv, hc⟩ => ⟨v, he, hc, hv⟩), np_loadBox hG hF ty37 rfl rfl (hs.bx 0 rfl) rfl rfl rfl, trivial⟩) (by kernel_rfl) fun fr w2 hF hE hc => then_normal ?_)
  have r1 := r1.ext hc
  have hs := hs.ext hc
  have hM0 := hM0.ext hc
  refine (wp_if hF (b := ((!x1) || (decide ((len p0.Gates) > 360)))) rfl (fun hb => ?_) (fun hb => ?_))
  · replace h := iteT hb h
    have hs : Sep [] w2 S1 := Sep.pick [] hs (by decide) rfl
    refine wp_seq (wp_pure [(2, .bool false)] hF (by kernel_rfl) fun fr hF => then_normal ?_)
    obtain rfl := Option.some.inj h
    exact wp_ret (then_ret (ret1 rfl hF rfl ⟨_, rfl, rfl, hM0.chg⟩))
  · replace h := iteF hb h
    refine (wp_skip (then_normal ?_))
    refine wp_seq ?_
    refine wp_seq (wp_text' ?_)
    refine from_pure 1 [(1, .pointer (some ⟨b1, 0, none⟩)), (18, .pointer (some ⟨b1, 1, none⟩))] hF (by kernel_rfl) fun fr hF => ?_
    refine s_loadBox (.slice a1 (List.length p0.Gates) c1) ty37 rfl rfl hF rfl (hs.bx 0 rfl) rfl rfl fun fr hF => ?_
    refine from_pure 2 [(1, .pointer (some ⟨b1, 0, none⟩)), (19, .slice a1 (List.length p0.Gates) c1), (20, .int .i64 (len p0.Gates)), (21, .int .i64 0)] hF (by kernel_rfl) fun fr hF => ?_
    refine from_end rfl (then_normal ?_)
    obtain ⟨rl1, hit1, h⟩ := bindE h
    have hk1 := h
    refine (wp_cut (M := fun fr w' => ∃ s, rl1 = .inl s ∧ ∃ S3 F2, FrS 76 [] fr ∧ Mem w2 S1 (fun k => (G0 k) ∧ k < w.heap.size) w' S3 F2 ∧ Sep [] w' S3) (wp_block (wp_iter (Inv := fun s1 fr w' => ∃ S2 F1, FrS 76 [(1, .pointer (some ⟨b1, 0, none⟩)), (19, .slice a1 (List.length p0.Gates) c1), (20, .int .i64 (len p0.Gates)), (21, .int .i64 s1)] fr ∧ Mem w2 S1 (fun k => (G0 k) ∧ k < w.heap.size) w' S2 F1 ∧ Sep [BX b1 39 [.int .i64 p0.Inputs, .slice a1 (List.length p0.Gates) c1]] w' S2) hit1 ⟨S1, _, hF.sub _ (by kernel_rfl), (Mem.start hM0.bd hM0.bdF hM0.dj), hs⟩ fun s1 q1 fr w1i hI h hr1 => ?_)) fun fr w1o hM => ?_)
    · obtain ⟨S2, F1, hF, hM1, hs⟩ := hI
      have r1 := r1.mem hM1
      refine wp_seq (wp_pure [(1, .pointer (some ⟨b1, 0, none⟩)), (19, .slice a1 (List.length p0.Gates) c1), (20, .int .i64 (len p0.Gates)), (21, .int .i64 s1), (22, .bool (decide (s1 < (len p0.Gates))))] hF (by kernel_rfl) fun fr hF => then_normal ?_)
      refine wp_seq (wp_if hF (b := (decide (s1 < (len p0.Gates)))) rfl (fun hb => ?_) (fun hb => ?_))
      · replace h := iteT hb h
        refine (wp_skip (then_normal ?_))
        refine wp_seq (wp_block ?_)
        refine wp_seq (wp_text' ?_)
        refine from_pure 1 [(1, .pointer (some ⟨b1, 0, none⟩)), (19, .slice a1 (List.length p0.Gates) c1), (20, .int .i64 (len p0.Gates)), (21, .int .i64 s1), (23, .int .i64 s1)] hF (by kernel_rfl) fun fr hF => ?_
        obtain ⟨x2, hx2, h⟩ := bindE h
        refine s_elemF (z := x2) (.agg #[.int .i64 x2.A, .int .i64 x2.B]) ty70 Try.underlying37 rfl rfl rfl rfl rfl hF rfl (r1) rfl (get?_nn hx2) (get?_at hx2) rfl fun p fr hF => ?_
        refine q_alloc (z := .agg #[.int .i64 0, .int .i64 0]) hs hM1 [.int .i64 0, .int .i64 0] rfl rfl hF (by kernel_rfl) rfl fun b2 w3 S4 fr hs hp hF => ?_
        have r1 := r1.stp hM1 hp
        have hM1 := hM1.stp hp
        have hs : Sep [BX b2 70 [.int .i64 0, .int .i64 0], BX b1 39 [.int .i64 p0.Inputs, .slice a1 (List.length p0.Gates) c1]] w3 S4 := hs
        refine from_pure 1 [(1, .pointer (some ⟨b1, 0, none⟩)), (3, .int .i64 s1), (4, .pointer (some ⟨b2, 0, none⟩)), (19, .slice a1 (List.length p0.Gates) c1), (20, .int .i64 (len p0.Gates)), (21, .int .i64 s1), (25, .agg #[.int .i64 x2.A, .int .i64 x2.B])] hF (by kernel_rfl) fun fr hF => ?_
        refine q_storeBoxS 0 hs hM1 rfl [.int .i64 x2.A, .int .i64 x2.B] rfl hF rfl rfl (by kernel_rfl) rfl rfl rfl fun w4 S5 hs hp hF => ?_
        have r1 := r1.stp hM1 hp
        have hM1 := hM1.stp hp
        have hs : Sep [BX b2 70 [.int .i64 x2.A, .int .i64 x2.B], BX b1 39 [.int .i64 p0.Inputs, .slice a1 (List.length p0.Gates) c1]] w4 S5 := hs
        refine from_end rfl (then_normal ?_)
        refine wp_seq (wp_text' ?_)
        refine from_pure 1 [(1, .pointer (some ⟨b1, 0, none⟩)), (3, .int .i64 s1), (4, .pointer (some ⟨b2, 0, none⟩)), (19, .slice a1 (List.length p0.Gates) c1), (20, .int .i64 (len p0.Gates)), (21, .int .i64 s1), (26, .pointer (some ⟨b1, 0, none⟩))] hF (by kernel_rfl) fun fr hF => ?_
        refine s_loadBox (.int .i64 p0.Inputs) ty3 rfl rfl hF rfl (hs.bx 1 rfl) rfl rfl fun fr hF => ?_
        refine from_pure 4 [(1, .pointer (some ⟨b1, 0, none⟩)), (3, .int .i64 s1), (4, .pointer (some ⟨b2, 0, none⟩)), (5, .int .i64 (w64 ((w64 (p0.Inputs + 1)) + s1))), (19, .slice a1 (List.length p0.Gates) c1), (20, .int .i64 (len p0.Gates)), (21, .int .i64 s1)] hF (by kernel_rfl) fun fr hF => ?_
        refine from_end rfl (then_normal ?_)
        refine wp_seq ?_
        obtain ⟨x3, hx3, h⟩ := bindE h
        obtain ⟨x4, hx4, h⟩ := bindE h
        obtain ⟨x5, hx5, h⟩ := bindE h
        obtain ⟨x6, hx6, h⟩ := bindE h
        obtain ⟨x7, hx7, h⟩ := bindE h
        refine wp_seq (region_bm 31 [0, 1, 0, 4, 0, 31, 63, 127, 255, 511, 255, 1279, 255, 8191, 16383, 32767, 65535, 131071, 262143, 524287, 1048575, 2097151, 4194303, 8388607, 16777215, 33554431, 8388607, 75497471, 268435455, 536870911, 1073741823] [true, false, true, true, true, false, true, true, true, false, true, true, true, false, true, true, true, true, false, false, true, true, true, true, false, false, true, false, false, true, true]
            [.eq (.pointer (some ⟨b2, 0, none⟩)), .eq (.int .i64 x2.A), .eq (.int .i64 (w64 ((w64 (p0.Inputs + 1)) + s1))), .eq (.int .i64 (w64 (0 - (w64 ((w64 (p0.Inputs + 1)) + s1))))), .eq (.int .i64 (w64 ((w64 (p0.Inputs + 1)) + s1))), .eq (.bool x3), .eq (.bool (!x3)), .eq (.bool (!x3)), .eq (.pointer (some ⟨b2, 1, none⟩)), .eq (.int .i64 x2.B), .eq (.int .i64 (w64 ((w64 (p0.Inputs + 1)) + s1))), .eq (.int .i64 (w64 (0 - (w64 ((w64 (p0.Inputs + 1)) + s1))))), .eq (.int .i64 (w64 ((w64 (p0.Inputs + 1)) + s1))), .eq (.bool x4), .eq (.bool (!x4)), .eq (.bool ((!x3) || (!x4))), .eq (.bool ((!x3) || (!x4))), .eq (.pointer (some ⟨b2, 0, none⟩)), .eq (.int .i64 x2.A), .eq (.int .i64 x5), .eq (.bool (decide (x5 < 2))), .eq (.bool (((!x3) || (!x4)) || (decide (x5 < 2)))), .eq (.bool (((!x3) || (!x4)) || (decide (x5 < 2)))), .eq (.pointer (some ⟨b2, 0, none⟩)), .eq (.int .i64 x2.A), .eq (.int .i64 x6), .eq (.pointer (some ⟨b2, 1, none⟩)), .eq (.int .i64 x2.B), .eq (.int .i64 x7), .eq (.bool (decide (x6 ≥ x7))), .eq (.bool ((((!x3) || (!x4)) || (decide (x5 < 2))) || (decide (x6 ≥ x7))))]
            [(1, .pointer (some ⟨b1, 0, none⟩)), (3, .int .i64 s1), (4, .pointer (some ⟨b2, 0, none⟩)), (19, .slice a1 (List.length p0.Gates) c1), (20, .int .i64 (len p0.Gates)), (21, .int .i64 s1), (61, .bool ((((!x3) || (!x4)) || (decide (x5 < 2))) || (decide (x6 ≥ x7))))] mix hF (by kernel_rfl) (by kernel_rfl) (by kernel_rfl) (by kernel_rfl) ⟨Pd.monoO_eq, Pd.monoO_eq, Pd.monoO_eq, Pd.monoO_eq, Pd.monoO_eq, Pd.monoO_eq, Pd.monoO_eq, Pd.monoO_eq, Pd.monoO_eq, Pd.monoO_eq, trivial⟩ (fun ow hG => ⟨np_to ow (np_loadBox hG hF ty3 rfl rfl (hs.bx 0 rfl) rfl rfl rfl), np_to ow (np_call [.int .i64 x2.A, .int .i64 (w64 (0 - (w64 ((w64 (p0.Inputs + 1)) + s1)))), .int .i64 (w64 ((w64 (p0.Inputs + 1)) + s1))] hG hF Try.call37 rfl rfl (fun w hC hg => (spec_l01In_ok x2.A (w64 (0 - (w64 ((w64 (p0.Inputs + 1)) + s1)))) (w64 ((w64 (p0.Inputs + 1)) + s1)) hx3).mono fun e w' ⟨v, he, hv, hc⟩ => ⟨v, he, hc, hv⟩)), np_to ow (np_loadBox hG hF ty3 rfl rfl (hs.bx 0 rfl) rfl rfl rfl), np_to ow (np_call [.int .i64 x2.B, .int .i64 (w64 (0 - (w64 ((w64 (p0.Inputs + 1)) + s1)))), .int .i64 (w64 ((w64 (p0.Inputs + 1)) + s1))] hG hF Try.call37 rfl rfl (fun w hC hg => (spec_l01In_ok x2.B (w64 (0 - (w64 ((w64 (p0.Inputs + 1)) + s1)))) (w64 ((w64 (p0.Inputs + 1)) + s1)) (iteF hg.2 hx4)).mono fun e w' ⟨v, he, hv, hc⟩ => ⟨v, he, hc, hv⟩)), np_to ow (np_loadBox hG hF ty3 rfl rfl (hs.bx 0 rfl) rfl rfl rfl), np_to ow (np_call [.int .i64 x2.A] hG hF Try.call42 rfl rfl (fun w hC hg => (spec_l03Abs_ok x2.A (iteF hg.2 hx5)).mono fun e w' ⟨v, he, hv, hc⟩ => ⟨v, he, hc, hv⟩)), np_to ow (np_loadBox hG hF ty3 rfl rfl (hs.bx 0 rfl) rfl rfl rfl), np_to ow (np_call [.int .i64 x2.A] hG hF Try.call42 rfl rfl (fun w hC hg => (spec_l03Abs_ok x2.A (iteF hg.2 hx6)).mono fun e w' ⟨v, he, hv, hc⟩ => ⟨v, he, hc, hv⟩)), np_to ow (np_loadBox hG hF ty3 rfl rfl (hs.bx 0 rfl) rfl rfl rfl), np_to ow (np_call [.int .i64 x2.B] hG hF Try.call42 rfl rfl (fun w hC hg => (spec_l03Abs_ok x2.B (iteF hg.2 hx7)).mono fun e w' ⟨v, he, hv, hc⟩ => ⟨v, he, hc, hv⟩)), trivial⟩) (by kernel_rfl) fun ow fr w5 hF hE hc => ?_)
        have r1 := r1.ext hc
        have hs := hs.ext hc
        have hM1 := hM1.ext hc
        refine from_end rfl (then_normal ?_)
        refine (wp_if hF (b := ((((!x3) || (!x4)) || (decide (x5 < 2))) || (decide (x6 ≥ x7)))) rfl (fun hb => ?_) (fun hb => ?_))
        · replace h := iteT hb h
          have hs : Sep [] w5 S5 := Sep.pick [] hs (by decide) rfl
          refine wp_seq (wp_pure [(2, .bool false)] hF (by kernel_rfl) fun fr hF => then_normal ?_)
          obtain rfl := hr1 _ (Option.some.inj h).symm
          obtain rfl := Option.some.inj hk1
          exact wp_ret (then_ret (blk_ret (then_ret (then_ret (blk_ret (then_ret (ret1 rfl hF rfl ⟨_, rfl, rfl, (hM0.trans hM1).chg⟩)))))))
        · replace h := iteF hb h
          refine (wp_skip (then_normal ?_))
          refine wp_seq (wp_text' ?_)
          refine from_pure 1 [(1, .pointer (some ⟨b1, 0, none⟩)), (3, .int .i64 s1), (4, .pointer (some ⟨b2, 0, none⟩)), (19, .slice a1 (List.length p0.Gates) c1), (20, .int .i64 (len p0.Gates)), (21, .int .i64 s1), (62, .pointer (some ⟨b1, 1, none⟩))] hF (by kernel_rfl) fun fr hF => ?_
          refine s_loadBox (.slice a1 (List.length p0.Gates) c1) ty37 rfl rfl hF rfl (hs.bx 1 rfl) rfl rfl fun fr hF => ?_
          refine from_pure 1 [(1, .pointer (some ⟨b1, 0, none⟩)), (4, .pointer (some ⟨b2, 0, none⟩)), (19, .slice a1 (List.length p0.Gates) c1), (20, .int .i64 (len p0.Gates)), (21, .int .i64 s1), (63, .slice a1 (List.length p0.Gates) c1), (64, .int .i64 s1)] hF (by kernel_rfl) fun fr hF => ?_
          obtain ⟨x8, hx8, h⟩ := bindE h
          refine s_slice ty70 Try.underlying37 rfl rfl hF rfl (r1) rfl ⟨_, rfl⟩ hx8 fun v2 fr r2 hF => ?_
          obtain ⟨a2, c2, rfl, -⟩ := r2.slice
          refine from_pure 2 [(1, .pointer (some ⟨b1, 0, none⟩)), (4, .pointer (some ⟨b2, 0, none⟩)), (19, .slice a1 (List.length p0.Gates) c1), (20, .int .i64 (len p0.Gates)), (21, .int .i64 s1), (65, .slice a2 (List.length x8) c2), (66, .int .i64 (len x8)), (67, .int .i64 0)] hF (by kernel_rfl) fun fr hF => ?_
          refine from_end rfl (then_normal ?_)
          obtain ⟨rl2, hit2, h⟩ := bindE h
          have hk2 := h
          refine (wp_cut' (M := fun fr w' => ∃ s, rl2 = .inl s ∧ ∃ S7 F4, FrS 76 [(1, .pointer (some ⟨b1, 0, none⟩)), (19, .slice a1 (List.length p0.Gates) c1), (20, .int .i64 (len p0.Gates)), (21, .int .i64 s1)] fr ∧ Mem w5 S5 F1 w' S7 F4 ∧ Sep [BX b1 39 [.int .i64 p0.Inputs, .slice a1 (List.length p0.Gates) c1]] w' S7) (wp_block (wp_iter (Inv := fun s2 fr w' => ∃ S6 F3, FrS 76 [(1, .pointer (some ⟨b1, 0, none⟩)), (4, .pointer (some ⟨b2, 0, none⟩)), (19, .slice a1 (List.length p0.Gates) c1), (20, .int .i64 (len p0.Gates)), (21, .int .i64 s1), (65, .slice a2 (List.length x8) c2), (66, .int .i64 (len x8)), (67, .int .i64 s2)] fr ∧ Mem w5 S5 F1 w' S6 F3 ∧ Sep [BX b2 70 [.int .i64 x2.A, .int .i64 x2.B], BX b1 39 [.int .i64 p0.Inputs, .slice a1 (List.length p0.Gates) c1]] w' S6) hit2 ⟨S5, _, hF.sub _ (by kernel_rfl), (Mem.start hM1.bd hM1.bdF hM1.dj), hs⟩ fun s2 q2 fr w2i hI h hr2 => ?_)) fun fr w2o hM => ?_)
          · obtain ⟨S6, F3, hF, hM2, hs⟩ := hI
            have r1 := r1.mem hM2
            have r2 := r2.mem hM2
            refine wp_seq (wp_pure [(1, .pointer (some ⟨b1, 0, none⟩)), (4, .pointer (some ⟨b2, 0, none⟩)), (19, .slice a1 (List.length p0.Gates) c1), (20, .int .i64 (len p0.Gates)), (21, .int .i64 s1), (65, .slice a2 (List.length x8) c2), (66, .int .i64 (len x8)), (67, .int .i64 s2), (68, .bool (decide (s2 < (len x8))))] hF (by kernel_rfl) fun fr hF => then_normal ?_)
            refine wp_seq (wp_if hF (b := (decide (s2 < (len x8)))) rfl (fun hb => ?_) (fun hb => ?_))
            · replace h := iteT hb h
              refine (wp_skip (then_normal ?_))
              refine wp_seq (wp_block ?_)
              refine wp_seq (wp_text' ?_)
              obtain ⟨x9, hx9, h⟩ := bindE h
              refine s_elemF (z := x9) (.agg #[.int .i64 x9.A, .int .i64 x9.B]) ty70 Try.underlying37 rfl rfl rfl rfl rfl hF rfl (r2) rfl (get?_nn hx9) (get?_at hx9) rfl fun p fr hF => ?_
              refine q_alloc (z := .agg #[.int .i64 0, .int .i64 0]) hs hM2 [.int .i64 0, .int .i64 0] rfl rfl hF (by kernel_rfl) rfl fun b3 w6 S8 fr hs hp hF => ?_
              have r1 := r1.stp hM2 hp
              have r2 := r2.stp hM2 hp
              have hM2 := hM2.stp hp
              have hs : Sep [BX b3 70 [.int .i64 0, .int .i64 0], BX b2 70 [.int .i64 x2.A, .int .i64 x2.B], BX b1 39 [.int .i64 p0.Inputs, .slice a1 (List.length p0.Gates) c1]] w6 S8 := hs
              refine q_storeBoxS 0 hs hM2 rfl [.int .i64 x9.A, .int .i64 x9.B] rfl hF rfl rfl (by kernel_rfl) rfl rfl rfl fun w7 S9 hs hp hF => ?_
              have r1 := r1.stp hM2 hp
              have r2 := r2.stp hM2 hp
              have hM2 := hM2.stp hp
              have hs : Sep [BX b3 70 [.int .i64 x9.A, .int .i64 x9.B], BX b2 70 [.int .i64 x2.A, .int .i64 x2.B], BX b1 39 [.int .i64 p0.Inputs, .slice a1 (List.length p0.Gates) c1]] w7 S9 := hs
              refine from_end rfl (then_normal ?_)
              refine wp_seq (wp_text' ?_)
              refine s_loadBoxS ty70 rfl rfl hF rfl (hs.bx 1 rfl) rfl rfl fun fr hF => ?_
              refine s_loadBoxS ty70 rfl rfl hF rfl (hs.bx 0 rfl) rfl rfl fun fr hF => ?_
              have hs : Sep [BX b2 70 [.int .i64 x2.A, .int .i64 x2.B], BX b1 39 [.int .i64 p0.Inputs, .slice a1 (List.length p0.Gates) c1]] w7 S9 := Sep.pick [1, 2] hs (by decide) rfl
              refine s_bin rfl rfl hF rfl rfl (eqg70 _ _ _ _ _) (eq70 x2 x9 _) fun fr hF => ?_
              refine from_end rfl (then_normal ?_)
              refine (wp_if hF (b := (decide (x2 = x9))) rfl (fun hb => ?_) (fun hb => ?_))
              · replace h := iteT hb h
                have hs : Sep [] w7 S9 := Sep.pick [] hs (by decide) rfl
                refine wp_seq (wp_pure [(2, .bool false)] hF (by kernel_rfl) fun fr hF => then_normal ?_)
                obtain rfl := hr2 _ (Option.some.inj h).symm
                obtain rfl := hr1 _ (Option.some.inj hk2).symm
                obtain rfl := Option.some.inj hk1
                exact wp_ret (blk_ret (then_ret (then_ret (blk_ret (then_ret (blk_ret (then_ret (then_ret (blk_ret (then_ret (ret1 rfl hF rfl ⟨_, rfl, rfl, ((hM0.trans hM1).trans hM2).chg⟩)))))))))))
              · replace h := iteF hb h
                refine (wp_skip ?_)
                refine blk_normal (then_normal ?_)
                refine (wp_pure [(1, .pointer (some ⟨b1, 0, none⟩)), (4, .pointer (some ⟨b2, 0, none⟩)), (19, .slice a1 (List.length p0.Gates) c1), (20, .int .i64 (len p0.Gates)), (21, .int .i64 s1), (65, .slice a2 (List.length x8) c2), (66, .int .i64 (len x8)), (67, .int .i64 (w64 (s2 + 1)))] hF (by kernel_rfl) fun fr hF => then_normal ?_)
                exact ⟨_, (Option.some.inj h).symm, S9, _, hF.sub _ (by kernel_rfl), hM2, hs⟩
            · replace h := iteF hb h
              have hs : Sep [BX b1 39 [.int .i64 p0.Inputs, .slice a1 (List.length p0.Gates) c1]] w2i S6 := Sep.pick [1] hs (by decide) rfl
              refine (wp_exit (then_exit (then_exit (blk_exit_eq ?_))))
              obtain rfl := hr2 _ (Option.some.inj h).symm
              exact then_normal ⟨_, rfl, S6, _, hF.sub _ (by kernel_rfl), hM2, hs⟩
          · obtain ⟨s2r, rfl, hM⟩ := hM
            obtain ⟨S7, F4, hF, hMx, hs⟩ := hM
            have r1 := r1.mem hMx
            have hM1 := hM1.trans hMx
            refine blk_normal (then_normal ?_)
            refine (wp_pure [(1, .pointer (some ⟨b1, 0, none⟩)), (19, .slice a1 (List.length p0.Gates) c1), (20, .int .i64 (len p0.Gates)), (21, .int .i64 (w64 (s1 + 1)))] hF (by kernel_rfl) fun fr hF => then_normal ?_)
            exact ⟨_, (Option.some.inj h).symm, S7, _, hF.sub _ (by kernel_rfl), hM1, hs⟩
      · replace h := iteF hb h
        have hs : Sep [] w1i S2 := Sep.pick [] hs (by decide) rfl
        refine (wp_exit (then_exit (then_exit (blk_exit_eq ?_))))
        obtain rfl := hr1 _ (Option.some.inj h).symm
        exact then_normal ⟨_, rfl, S2, _, hF.sub _ (by kernel_rfl), hM1, hs⟩
    · obtain ⟨s1r, rfl, hM⟩ := hM
      obtain ⟨S3, F2, hF, hMx, hs⟩ := hM
      have hM0 := hM0.trans hMx
      refine wp_seq (wp_pure [(2, .bool true)] hF (by kernel_rfl) fun fr hF => then_normal ?_)
      obtain rfl := Option.some.inj h
      exact wp_ret (ret1 rfl hF rfl ⟨_, rfl, rfl, hM0.chg⟩)

theorem spec_l04True_ok (p0 : List Bool) (p1 : Int) {r : Bool} (h : spec_l04True p0 p1 = some r) {w : World} {G0 : Nat → Prop} {va0 : Value} (ra0 : RV w G0 va0 p0) :
    Calls Try.prog 55 [va0, .int .i64 p1].toArray w fun e w' => ∃ v, e = .returned v ∧ v = .bool r ∧ Chg Non w w' := by
  unfold spec_l04True at h
  have hs := Sep.nil w Non
  have hM0 : Mem w Non (fun k => (G0 k) ∧ k < w.heap.size) w Non (fun k => (G0 k) ∧ k < w.heap.size) := Mem.start (fun _ h => h.elim) (fun _ h => h.2) (fun _ h => h.elim)
  have ra0 := ra0.sub (F' := (fun k => (G0 k) ∧ k < w.heap.size)) (fun k hk h => ⟨h, hk⟩)
  obtain ⟨a1, c1, rfl, -⟩ := ra0.slice
  refine enter (N := 14) Try.func55 rfl Try.ntmps55 rfl fun fr hF => ?_
  refine wp_seq (wp_pure [(0, .slice a1 (List.length p0) c1), (1, .int .i64 p1)] hF (by kernel_rfl) fun fr hF => then_normal ?_)
  refine wp_seq (wp_text' ?_)
  refine from_pure 2 [(1, .int .i64 p1), (5, .slice a1 (List.length p0) c1), (6, .int .i64 p1)] hF (by kernel_rfl) fun fr hF => ?_
  obtain ⟨x1, hx1, h⟩ := bindE h
  refine s_call [.int .i64 p1] Try.call42 rfl rfl hF rfl (spec_l03Abs_ok p1 hx1) fun v w1 fr hRes hF => ?_
  obtain ⟨rfl, hc⟩ := hRes
  have ra0 := ra0.ext hc
  have hs := hs.ext hc
  have hM0 := hM0.ext hc
  refine from_pure 1 [(1, .int .i64 p1), (5, .slice a1 (List.length p0) c1), (8, .int .i64 (w64 (x1 - 1)))] hF (by kernel_rfl) fun fr hF => ?_
  obtain ⟨x2, hx2, h⟩ := bindE h
  refine s_elemF (z := x2) (.bool x2) ty4 Try.underlying54 rfl rfl rfl rfl rfl hF rfl (ra0) rfl (get?_nn hx2) (get?_at hx2) rfl fun p fr hF => ?_
  refine from_pure 4 [(4, .bool (x2 == (decide (p1 > 0))))] hF (by kernel_rfl) fun fr hF => ?_
  refine from_end rfl (then_normal ?_)
  obtain rfl := Option.some.inj h
  exact wp_ret (ret1 rfl hF rfl ⟨_, rfl, rfl, hM0.chg⟩)

theorem spec_EvalCircuit_ok (n : Nat) (p0 : D.Circuit) (p1 : List Bool) {r : (List Bool)} (h : spec_EvalCircuit n p0 p1 = some r) {w : World} {G0 : Nat → Prop} {va0 : Value} (ra0 : RV w G0 va0 p0) {G1 : Nat → Prop} {va1 : Value} (ra1 : RV w G1 va1 p1) :
    Calls Try.prog 26 [va0, va1].toArray w fun e w' => ∃ v, e = .returned v ∧ ∃ a1 c1, v = .slice a1 (List.length r) c1 ∧ ∃ S', Stp w Non w' S' ∧ Sep [SL (α := Bool) 4 (.slice a1 (List.length r) c1) r] w' S' := by
  unfold spec_EvalCircuit at h
  have hs := Sep.nil w Non
  have hM0 : Mem w Non (fun k => (G0 k ∨ G1 k) ∧ k < w.heap.size) w Non (fun k => (G0 k ∨ G1 k) ∧ k < w.heap.size) := Mem.start (fun _ h => h.elim) (fun _ h => h.2) (fun _ h => h.elim)
  have ra0 := ra0.sub (F' := (fun k => (G0 k ∨ G1 k) ∧ k < w.heap.size)) (fun k hk h => ⟨.inl h, hk⟩)
  obtain ⟨v1, rfl, r1⟩ := RV.Circuit ra0
  obtain ⟨a1, c1, rfl, -⟩ := r1.slice
  have ra1 := ra1.sub (F' := (fun k => (G0 k ∨ G1 k) ∧ k < w.heap.size)) (fun k hk h => ⟨.inr (h), hk⟩)
  obtain ⟨a2, c2, rfl, -⟩ := ra1.slice
  refine enter (N := 43) Try.func26 rfl Try.ntmps26 rfl fun fr hF => ?_
  refine wp_seq (wp_text' ?_)
  refine q_box hs hM0 [.int .i64 p0.Inputs, .slice a1 (List.length p0.Gates) c1] rfl rfl hF rfl rfl fun b1 w1 S1 fr hs hp hF => ?_
  have r1 := r1.stp hM0 hp
  have ra1 := ra1.stp hM0 hp
  have hM0 := hM0.stp hp
  have hs : Sep [BX b1 39 [.int .i64 p0.Inputs, .slice a1 (List.length p0.Gates) c1]] w1 S1 := hs
  refine from_pure 1 [(1, .slice a2 (List.length p1) c2), (2, .pointer (some ⟨b1, 0, none⟩))] hF (by kernel_rfl) fun fr hF => ?_
  refine from_end rfl (then_normal ?_)
  refine wp_seq ?_
  obtain ⟨x1, hx1, h⟩ := bindE h
  refine wp_seq (region_b [] [false, false, true, true, true, true, true, false, true, true]
      [.eq (.agg #[.int .i64 p0.Inputs, .slice a1 (List.length p0.Gates) c1]), .eq (.bool x1), .eq (.bool (!x1)), .eq (.bool (!x1)), .eq (.slice a2 (List.length p1) c2), .eq (.int .i64 (len p1)), .eq (.pointer (some ⟨b1, 0, none⟩)), .eq (.int .i64 p0.Inputs), .eq (.bool ((len p1) != p0.Inputs)), .eq (.bool ((!x1) || ((len p1) != p0.Inputs)))]
      [(1, .slice a2 (List.length p1) c2), (2, .pointer (some ⟨b1, 0, none⟩)), (17, .bool ((!x1) || ((len p1) != p0.Inputs)))] mix hF (by kernel_rfl) (by kernel_rfl) (by kernel_rfl) ⟨Pd.mono_eq, Pd.mono_eq, Pd.mono_eq, trivial⟩ (fun hG => ⟨np_loadBoxS hG hF ty39 rfl rfl (hs.bx 0 rfl) rfl rfl rfl rfl, np_call [.agg #[.int .i64 p0.Inputs, .slice a1 (List.length p0.Gates) c1]] hG hF Try.call17 rfl rfl (fun w hC hg => (spec_CircuitOk_ok n p0 hx1 ((RV.mk_Circuit p0 (r1)).ext hC)).mono fun e w' ⟨v, he, hv, hc⟩ => ⟨v, he, hc, hv⟩), np_loadBox hG hF ty3 rfl rfl (hs.bx 0 rfl) rfl rfl rfl, trivial⟩) (by kernel_rfl) fun fr w2 hF hE hc => then_normal ?_)
  have ra1 := ra1.ext hc
  have r1 := r1.ext hc
  have hs := hs.ext hc
  have hM0 := hM0.ext hc
  refine (wp_if hF (b := ((!x1) || ((len p1) != p0.Inputs))) rfl (fun hb => ?_) (fun hb => ?_))
  · replace h := iteT hb h
    have hs : Sep [] w2 S1 := Sep.pick [] hs (by decide) rfl
    refine wp_seq (wp_pure [(4, .slice none (List.length ([] : List Bool)) 0)] hF (by kernel_rfl) fun fr hF => then_normal ?_)
    have hs : Sep [SL (α := Bool) 4 (.slice none (List.length ([] : List Bool)) 0) ([] : List Bool)] w2 S1 := hs.cons_nil (α := Bool) 4
    obtain rfl := Option.some.inj h
    exact wp_ret (then_ret (ret1 rfl hF rfl ⟨_, rfl, none, 0, rfl, S1, hM0.out, hs⟩))
  · replace h := iteF hb h
    refine (wp_skip (then_normal ?_))
    refine wp_seq (wp_text' ?_)
    refine q_lit (E := 4) hs hM0 [.bool true] (([true] : List Bool).map Flat.enc) ([true] : List Bool) rfl rfl hF [.bool true] rfl (fun w => by kernel_rfl) (css_flat _) rfl rfl rfl fun a3 c3 w3 S2 fr hs hp hF => ?_
    have ra1 := ra1.stp hM0 hp
    have r1 := r1.stp hM0 hp
    have hM0 := hM0.stp hp
    have hs : Sep [SL (α := Bool) 4 (.slice a3 (List.length ([true] : List Bool)) c3) ([true] : List Bool), BX b1 39 [.int .i64 p0.Inputs, .slice a1 (List.length p0.Gates) c1]] w3 S2 := hs
    refine from_pure 1 [(2, .pointer (some ⟨b1, 0, none⟩)), (18, .slice a3 (List.length ([true] : List Bool)) c3), (19, .slice a2 (List.length p1) c2)] hF (by kernel_rfl) fun fr hF => ?_
    obtain ⟨x2, hx2, h⟩ := bindE h
    refine q_append 0 hs hM0 rfl Try.underlying54 el4 rfl rfl rfl hF rfl rfl (ra1) hx2 fun a4 c4 w4 S3 fr hs hp hF => ?_
    have ra1 := ra1.stp hM0 hp
    have r1 := r1.stp hM0 hp
    have hM0 := hM0.stp hp
    have hs : Sep [SL (α := Bool) 4 (.slice a4 (List.length x2) c4) x2, BX b1 39 [.int .i64 p0.Inputs, .slice a1 (List.length p0.Gates) c1]] w4 S3 := hs
    refine from_pure 1 [(2, .pointer (some ⟨b1, 0, none⟩)), (5, .slice a4 (List.length x2) c4)] hF (by kernel_rfl) fun fr hF => ?_
    refine from_end rfl (then_normal ?_)
    refine wp_seq ?_
    refine wp_seq (wp_text' ?_)
    refine from_pure 1 [(5, .slice a4 (List.length x2) c4), (21, .pointer (some ⟨b1, 1, none⟩))] hF (by kernel_rfl) fun fr hF => ?_
    refine s_loadBox (.slice a1 (List.length p0.Gates) c1) ty37 rfl rfl hF rfl (hs.bx 1 rfl) rfl rfl fun fr hF => ?_
    have hs : Sep [SL (α := Bool) 4 (.slice a4 (List.length x2) c4) x2] w4 S3 := Sep.pick [0] hs (by decide) rfl
    refine from_pure 2 [(5, .slice a4 (List.length x2) c4), (22, .slice a1 (List.length p0.Gates) c1), (23, .int .i64 (len p0.Gates)), (24, .int .i64 0)] hF (by kernel_rfl) fun fr hF => ?_
    refine from_end rfl (then_normal ?_)
    obtain ⟨rl1, hit1, h⟩ := bindE h
    have hk1 := h
    refine (wp_cut (M := fun fr w' => ∃ a6 c6 S5 F2, FrS 43 [(5, .slice a6 (List.length rl1) c6)] fr ∧ Mem w4 S3 (fun k => (G0 k ∨ G1 k) ∧ k < w.heap.size) w' S5 F2 ∧ Sep [SL (α := Bool) 4 (.slice a6 (List.length rl1) c6) rl1] w' S5) (wp_block (wp_iter (Inv := fun s1 fr w' => ∃ a5 c5 S4 F1, FrS 43 [(5, .slice a5 (List.length s1.2) c5), (22, .slice a1 (List.length p0.Gates) c1), (23, .int .i64 (len p0.Gates)), (24, .int .i64 s1.1)] fr ∧ Mem w4 S3 (fun k => (G0 k ∨ G1 k) ∧ k < w.heap.size) w' S4 F1 ∧ Sep [SL (α := Bool) 4 (.slice a5 (List.length s1.2) c5) s1.2] w' S4) hit1 ⟨a4, c4, S3, _, hF.sub _ (by kernel_rfl), (Mem.start hM0.bd hM0.bdF hM0.dj), hs⟩ fun s1 q1 fr w1i hI h hr1 => ?_)) fun fr w1o hM => ?_)
    · obtain ⟨a5, c5, S4, F1, hF, hM1, hs⟩ := hI
      have r1 := r1.mem hM1
      refine wp_seq (wp_pure [(5, .slice a5 (List.length s1.2) c5), (22, .slice a1 (List.length p0.Gates) c1), (23, .int .i64 (len p0.Gates)), (24, .int .i64 s1.1), (25, .bool (decide (s1.1 < (len p0.Gates))))] hF (by kernel_rfl) fun fr hF => then_normal ?_)
      refine wp_seq (wp_if hF (b := (decide (s1.1 < (len p0.Gates)))) rfl (fun hb => ?_) (fun hb => ?_))
      · replace h := iteT hb h
        refine (wp_skip (then_normal ?_))
        refine wp_seq (wp_block ?_)
        refine wp_seq (wp_text' ?_)
        obtain ⟨x3, hx3, h⟩ := bindE h
        refine s_elemF (z := x3) (.agg #[.int .i64 x3.A, .int .i64 x3.B]) ty70 Try.underlying37 rfl rfl rfl rfl rfl hF rfl (r1) rfl (get?_nn hx3) (get?_at hx3) rfl fun p fr hF => ?_
        refine q_alloc (z := .agg #[.int .i64 0, .int .i64 0]) hs hM1 [.int .i64 0, .int .i64 0] rfl rfl hF (by kernel_rfl) rfl fun b2 w5 S6 fr hs hp hF => ?_
        have r1 := r1.stp hM1 hp
        have hM1 := hM1.stp hp
        have hs : Sep [BX b2 70 [.int .i64 0, .int .i64 0], SL (α := Bool) 4 (.slice a5 (List.length s1.2) c5) s1.2] w5 S6 := hs
        refine q_storeBoxS 0 hs hM1 rfl [.int .i64 x3.A, .int .i64 x3.B] rfl hF rfl rfl (by kernel_rfl) rfl rfl rfl fun w6 S7 hs hp hF => ?_
        have r1 := r1.stp hM1 hp
        have hM1 := hM1.stp hp
        have hs : Sep [BX b2 70 [.int .i64 x3.A, .int .i64 x3.B], SL (α := Bool) 4 (.slice a5 (List.length s1.2) c5) s1.2] w6 S7 := hs
        refine from_end rfl (then_normal ?_)
        obtain ⟨x4, hx4, h⟩ := bindE h
        obtain ⟨x5, hx5, h⟩ := bindE h
        refine (region_tm 11 [true, true, true, false, false, true, true, true, false, false, true]
            [.eq (.slice a5 (List.length s1.2) c5), .eq (.slice a5 (List.length s1.2) c5), .eq (.pointer (some ⟨b2, 0, none⟩)), .eq (.int .i64 x3.A), .eq (.bool x4), .eq (.bool x4), .eq (.slice a5 (List.length s1.2) c5), .eq (.pointer (some ⟨b2, 1, none⟩)), .eq (.int .i64 x3.B), .eq (.bool x5), .eq (.bool (x4 && x5)), .any, .any, .any]
            [(22, .slice a1 (List.length p0.Gates) c1), (23, .int .i64 (len p0.Gates)), (24, .int .i64 s1.1), (28, .slice a5 (List.length s1.2) c5), (38, .bool (x4 && x5))] hF (by kernel_rfl) (by kernel_rfl) (by kernel_rfl) (by kernel_rfl) ⟨Pd.mono_eq, Pd.mono_eq, Pd.mono_eq, Pd.mono_eq, trivial⟩ (fun hG => ⟨np_loadBox hG hF ty3 rfl rfl (hs.bx 0 rfl) rfl rfl rfl, np_call [.slice a5 (List.length s1.2) c5, .int .i64 x3.A] hG hF Try.call55 rfl rfl (fun w hC hg => (spec_l04True_ok s1.2 x3.A hx4 ((hs.rv 1 rfl).ext hC)).mono fun e w' ⟨v, he, hv, hc⟩ => ⟨v, he, hc, hv⟩), np_loadBox hG hF ty3 rfl rfl (hs.bx 0 rfl) rfl rfl rfl, np_call [.slice a5 (List.length s1.2) c5, .int .i64 x3.B] hG hF Try.call55 rfl rfl (fun w hC hg => (spec_l04True_ok s1.2 x3.B (iteT hg.2 hx5) ((hs.rv 1 rfl).ext hC)).mono fun e w' ⟨v, he, hv, hc⟩ => ⟨v, he, hc, hv⟩), trivial⟩) (by kernel_rfl) fun fr w7 hF hc => ?_)
        have r1 := r1.ext hc
        have hs := hs.ext hc
        have hM1 := hM1.ext hc
        have hs : Sep [SL (α := Bool) 4 (.slice a5 (List.length s1.2) c5) s1.2] w7 S7 := Sep.pick [1] hs (by decide) rfl
        refine q_lit (E := 4) hs hM1 [.bool (x4 && x5)] (([(x4 && x5)] : List Bool).map Flat.enc) ([(x4 && x5)] : List Bool) rfl rfl hF [.bool (x4 && x5)] rfl (fun w => by kernel_rfl) (css_flat _) rfl rfl rfl fun a7 c7 w8 S8 fr hs hp hF => ?_
        have r1 := r1.stp hM1 hp
        have hM1 := hM1.stp hp
        have hs : Sep [SL (α := Bool) 4 (.slice a7 (List.length ([(x4 && x5)] : List Bool)) c7) ([(x4 && x5)] : List Bool), SL (α := Bool) 4 (.slice a5 (List.length s1.2) c5) s1.2] w8 S8 := hs
        obtain ⟨x6, hx6, h⟩ := bindE h
        refine q_append 1 hs hM1 rfl Try.underlying54 el4 rfl rfl rfl hF rfl rfl (hs.rv 0 rfl) hx6 fun a8 c8 w9 S9 fr hs hp hF => ?_
        have r1 := r1.stp hM1 hp
        have hM1 := hM1.stp hp
        have hs : Sep [SL (α := Bool) 4 (.slice a7 (List.length ([(x4 && x5)] : List Bool)) c7) ([(x4 && x5)] : List Bool), SL (α := Bool) 4 (.slice a8 (List.length x6) c8) x6] w9 S9 := hs
        have hs : Sep [SL (α := Bool) 4 (.slice a8 (List.length x6) c8) x6] w9 S9 := Sep.pick [1] hs (by decide) rfl
        refine from_pure 1 [(5, .slice a8 (List.length x6) c8), (22, .slice a1 (List.length p0.Gates) c1), (23, .int .i64 (len p0.Gates)), (24, .int .i64 s1.1)] hF (by kernel_rfl) fun fr hF => ?_
        refine from_end rfl ?_
        refine blk_normal (then_normal ?_)
        refine (wp_pure [(5, .slice a8 (List.length x6) c8), (22, .slice a1 (List.length p0.Gates) c1), (23, .int .i64 (len p0.Gates)), (24, .int .i64 (w64 (s1.1 + 1)))] hF (by kernel_rfl) fun fr hF => then_normal ?_)
        exact ⟨_, (Option.some.inj h).symm, a8, c8, S9, _, hF.sub _ (by kernel_rfl), hM1, hs⟩
      · replace h := iteF hb h
        refine (wp_exit (then_exit (then_exit (blk_exit_eq ?_))))
        obtain rfl := hr1 _ (Option.some.inj h).symm
        exact then_normal ⟨a5, c5, S4, _, hF.sub _ (by kernel_rfl), hM1, hs⟩
    · obtain ⟨a6, c6, S5, F2, hF, hMx, hs⟩ := hM
      have hM0 := hM0.trans hMx
      refine wp_seq (wp_pure [(4, .slice a6 (List.length rl1) c6)] hF (by kernel_rfl) fun fr hF => then_normal ?_)
      obtain rfl := Option.some.inj h
      exact wp_ret (ret1 rfl hF rfl ⟨_, rfl, a6, c6, rfl, S5, hM0.out, hs⟩)

theorem impl_isLiteral_ok (p0 : Int) (p1 : Int) {r : Bool} (h : impl_isLiteral p0 p1 = some r) {w : World} :
    Calls Try.prog 44 [.int .i64 p0, .int .i64 p1].toArray w fun e w' => ∃ v, e = .returned v ∧ v = .bool r ∧ Chg Non w w' := by
  unfold impl_isLiteral at h
  have hs := Sep.nil w Non
  have hM0 : Mem w Non (fun k => (False) ∧ k < w.heap.size) w Non (fun k => (False) ∧ k < w.heap.size) := Mem.start (fun _ h => h.elim) (fun _ h => h.2) (fun _ h => h.elim)
  refine enter (N := 18) Try.func44 rfl Try.ntmps44 rfl fun fr hF => ?_
  refine wp_seq (wp_pure [(0, .int .i64 p0), (1, .int .i64 p1)] hF (by kernel_rfl) fun fr hF => then_normal ?_)
  refine wp_seq (region_b [] [true, true, true, true, true, true, true, true, true, true, true, true, true, true]
      [.eq (.int .i64 p0), .eq (.bool (p0 != 0)), .eq (.bool (p0 != 0)), .eq (.int .i64 p0), .eq (.int .i64 p1), .eq (.int .i64 (w64 (0 - p1))), .eq (.bool (decide (p0 ≥ (w64 (0 - p1))))), .eq (.bool ((p0 != 0) && (decide (p0 ≥ (w64 (0 - p1)))))), .eq (.bool ((p0 != 0) && (decide (p0 ≥ (w64 (0 - p1)))))), .eq (.int .i64 p0), .eq (.int .i64 p1), .eq (.bool (decide (p0 ≤ p1))), .eq (.bool (((p0 != 0) && (decide (p0 ≥ (w64 (0 - p1))))) && (decide (p0 ≤ p1)))), .eq (.bool (((p0 != 0) && (decide (p0 ≥ (w64 (0 - p1))))) && (decide (p0 ≤ p1))))]
      [(4, .bool (((p0 != 0) && (decide (p0 ≥ (w64 (0 - p1))))) && (decide (p0 ≤ p1))))] mix hF (by kernel_rfl) (by kernel_rfl) (by kernel_rfl) trivial (fun hG => trivial) (by kernel_rfl) fun fr w1 hF hE hc => then_normal ?_)
  have hs := hs.ext hc
  have hM0 := hM0.ext hc
  obtain rfl := Option.some.inj h
  exact wp_ret (ret1 rfl hF rfl ⟨_, rfl, rfl, hM0.chg⟩)

theorem impl_varOf_ok (p0 : Int) {r : Int} (h : impl_varOf p0 = some r) {w : World} :
    Calls Try.prog 45 [.int .i64 p0].toArray w fun e w' => ∃ v, e = .returned v ∧ v = .int .i64 r ∧ Chg Non w w' := by
  unfold impl_varOf at h
  have hs := Sep.nil w Non
  have hM0 : Mem w Non (fun k => (False) ∧ k < w.heap.size) w Non (fun k => (False) ∧ k < w.heap.size) := Mem.start (fun _ h => h.elim) (fun _ h => h.2) (fun _ h => h.elim)
  refine enter (N := 8) Try.func45 rfl Try.ntmps45 rfl fun fr hF => ?_
  refine wp_seq (wp_pure [(0, .int .i64 p0)] hF (by kernel_rfl) fun fr hF => then_normal ?_)
  refine wp_seq ?_
  refine wp_seq (wp_pure [(0, .int .i64 p0), (4, .bool (decide (p0 < 0)))] hF (by kernel_rfl) fun fr hF => then_normal ?_)
  refine (wp_if hF (b := (decide (p0 < 0))) rfl (fun hb => ?_) (fun hb => ?_))
  · replace h := iteT hb h
    refine wp_seq (wp_pure [(2, .int .i64 (w64 (0 - p0)))] hF (by kernel_rfl) fun fr hF => then_normal ?_)
    obtain rfl := Option.some.inj h
    exact wp_ret (then_ret (ret1 rfl hF rfl ⟨_, rfl, rfl, hM0.chg⟩))
  · replace h := iteF hb h
    refine (wp_skip (then_normal ?_))
    refine wp_seq (wp_pure [(2, .int .i64 p0)] hF (by kernel_rfl) fun fr hF => then_normal ?_)
    obtain rfl := Option.some.inj h
    exact wp_ret (ret1 rfl hF rfl ⟨_, rfl, rfl, hM0.chg⟩)

theorem impl_CircuitOk_ok (n : Nat) (p0 : D.Circuit) {r : Bool} (h : impl_CircuitOk n p0 = some r) {w : World} {G0 : Nat → Prop} {va0 : Value} (ra0 : RV w G0 va0 p0) :
    Calls Try.prog 19 [va0].toArray w fun e w' => ∃ v, e = .returned v ∧ v = .bool r ∧ Chg Non w w' := by
  unfold impl_CircuitOk at h
  have hs := Sep.nil w Non
  have hM0 : Mem w Non (fun k => (G0 k) ∧ k < w.heap.size) w Non (fun k => (G0 k) ∧ k < w.heap.size) := Mem.start (fun _ h => h.elim) (fun _ h => h.2) (fun _ h => h.elim)
  have ra0 := ra0.sub (F' := (fun k => (G0 k) ∧ k < w.heap.size)) (fun k hk h => ⟨h, hk⟩)
  obtain ⟨v1, rfl, r1⟩ := RV.Circuit ra0
  obtain ⟨a1, c1, rfl, -⟩ := r1.slice
  refine enter (N := 68) Try.func19 rfl Try.ntmps19 rfl fun fr hF => ?_
  refine wp_seq (wp_text' ?_)
  refine q_box hs hM0 [.int .i64 p0.Inputs, .slice a1 (List.length p0.Gates) c1] rfl rfl hF rfl rfl fun b1 w1 S1 fr hs hp hF => ?_
  have r1 := r1.stp hM0 hp
  have hM0 := hM0.stp hp
  have hs : Sep [BX b1 39 [.int .i64 p0.Inputs, .slice a1 (List.length p0.Gates) c1]] w1 S1 := hs
  refine from_pure 1 [(1, .pointer (some ⟨b1, 0, none⟩))] hF (by kernel_rfl) fun fr hF => ?_
  refine from_end rfl (then_normal ?_)
  refine wp_seq ?_
  refine wp_seq (region_b [] [true, false, true, true, true, false, true, true, true, true, false, true, true, true]
      [.eq (.pointer (some ⟨b1, 0, none⟩)), .eq (.int .i64 p0.Inputs), .eq (.bool (decide (p0.Inputs < 0))), .eq (.bool (decide (p0.Inputs < 0))), .eq (.pointer (some ⟨b1, 0, none⟩)), .eq (.int .i64 p0.Inputs), .eq (.bool (decide (p0.Inputs > 30))), .eq (.bool ((decide (p0.Inputs < 0)) || (decide (p0.Inputs > 30)))), .eq (.bool ((decide (p0.Inputs < 0)) || (decide (p0.Inputs > 30)))), .eq (.pointer (some ⟨b1, 1, none⟩)), .eq (.slice a1 (List.length p0.Gates) c1), .eq (.int .i64 (len p0.Gates)), .eq (.bool (decide ((len p0.Gates) > 360))), .eq (.bool (((decide (p0.Inputs < 0)) || (decide (p0.Inputs > 30))) || (decide ((len p0.Gates) > 360))))]
      [(1, .pointer (some ⟨b1, 0, none⟩)), (20, .bool (((decide (p0.Inputs < 0)) || (decide (p0.Inputs > 30))) || (decide ((len p0.Gates) > 360))))] mix hF (by kernel_rfl) (by kernel_rfl) (by kernel_rfl) ⟨Pd.mono_eq, Pd.mono_eq, Pd.mono_eq, trivial⟩ (fun hG => ⟨np_loadBox hG hF ty3 rfl rfl (hs.bx 0 rfl) rfl rfl rfl, np_loadBox hG hF ty3 rfl rfl (hs.bx 0 rfl) rfl rfl rfl, np_loadBox hG hF ty37 rfl rfl (hs.bx 0 rfl) rfl rfl rfl, trivial⟩) (by kernel_rfl) fun fr w2 hF hE hc => then_normal ?_)
  have r1 := r1.ext hc
  have hs := hs.ext hc
  have hM0 := hM0.ext hc
  refine (wp_if hF (b := (((decide (p0.Inputs < 0)) || (decide (p0.Inputs > 30))) || (decide ((len p0.Gates) > 360)))) rfl (fun hb => ?_) (fun hb => ?_))
  · replace h := iteT hb h
    have hs : Sep [] w2 S1 := Sep.pick [] hs (by decide) rfl
    refine wp_seq (wp_pure [(2, .bool false)] hF (by kernel_rfl) fun fr hF => then_normal ?_)
    obtain rfl := Option.some.inj h
    exact wp_ret (then_ret (ret1 rfl hF rfl ⟨_, rfl, rfl, hM0.chg⟩))
  · replace h := iteF hb h
    refine (wp_skip (then_normal ?_))
    refine wp_seq (wp_text' ?_)
    refine q_makeMap map73 hs hM0 (fun w => by simp [Instr.makeMap, run_newObj_alloc]) rfl rfl hF fun b2 w3 S2 fr hs hp hF => ?_
    have r1 := r1.stp hM0 hp
    have hM0 := hM0.stp hp
    have hs : Sep [MP map73 b2 ([]), BX b1 39 [.int .i64 p0.Inputs, .slice a1 (List.length p0.Gates) c1]] w3 S2 := hs
    refine from_pure 1 [(1, .pointer (some ⟨b1, 0, none⟩)), (3, .map (some b2))] hF (by kernel_rfl) fun fr hF => ?_
    refine from_end rfl (then_normal ?_)
    refine wp_seq ?_
    refine wp_seq (wp_text' ?_)
    refine from_pure 1 [(1, .pointer (some ⟨b1, 0, none⟩)), (3, .map (some b2)), (22, .pointer (some ⟨b1, 1, none⟩))] hF (by kernel_rfl) fun fr hF => ?_
    refine s_loadBox (.slice a1 (List.length p0.Gates) c1) ty37 rfl rfl hF rfl (hs.bx 1 rfl) rfl rfl fun fr hF => ?_
    refine from_pure 2 [(1, .pointer (some ⟨b1, 0, none⟩)), (3, .map (some b2)), (23, .slice a1 (List.length p0.Gates) c1), (24, .int .i64 (len p0.Gates)), (25, .int .i64 0)] hF (by kernel_rfl) fun fr hF => ?_
    refine from_end rfl (then_normal ?_)
    obtain ⟨rl1, hit1, h⟩ := bindE h
    have hk1 := h
    refine (wp_cut (M := fun fr w' => ∃ s, rl1 = .inl s ∧ ∃ S4 F2, FrS 68 [] fr ∧ Mem w3 S2 (fun k => (G0 k) ∧ k < w.heap.size) w' S4 F2 ∧ Sep [] w' S4) (wp_block (wp_iter (Inv := fun s1 fr w' => ∃ S3 F1, FrS 68 [(1, .pointer (some ⟨b1, 0, none⟩)), (3, .map (some b2)), (23, .slice a1 (List.length p0.Gates) c1), (24, .int .i64 (len p0.Gates)), (25, .int .i64 s1.1)] fr ∧ Mem w3 S2 (fun k => (G0 k) ∧ k < w.heap.size) w' S3 F1 ∧ Sep [MP map73 b2 s1.2, BX b1 39 [.int .i64 p0.Inputs, .slice a1 (List.length p0.Gates) c1]] w' S3) hit1 ⟨S2, _, hF.sub _ (by kernel_rfl), (Mem.start hM0.bd hM0.bdF hM0.dj), hs⟩ fun s1 q1 fr w1i hI h hr1 => ?_)) fun fr w1o hM => ?_)
    · obtain ⟨S3, F1, hF, hM1, hs⟩ := hI
      have r1 := r1.mem hM1
      refine wp_seq (wp_pure [(1, .pointer (some ⟨b1, 0, none⟩)), (3, .map (some b2)), (23, .slice a1 (List.length p0.Gates) c1), (24, .int .i64 (len p0.Gates)), (25, .int .i64 s1.1), (26, .bool (decide (s1.1 < (len p0.Gates))))] hF (by kernel_rfl) fun fr hF => then_normal ?_)
      refine wp_seq (wp_if hF (b := (decide (s1.1 < (len p0.Gates)))) rfl (fun hb => ?_) (fun hb => ?_))
      · replace h := iteT hb h
        refine (wp_skip (then_normal ?_))
        refine wp_seq (wp_block ?_)
        refine wp_seq (wp_text' ?_)
        refine from_pure 1 [(1, .pointer (some ⟨b1, 0, none⟩)), (3, .map (some b2)), (23, .slice a1 (List.length p0.Gates) c1), (24, .int .i64 (len p0.Gates)), (25, .int .i64 s1.1), (27, .int .i64 s1.1)] hF (by kernel_rfl) fun fr hF => ?_
        obtain ⟨x1, hx1, h⟩ := bindE h
        refine s_elemF (z := x1) (.agg #[.int .i64 x1.A, .int .i64 x1.B]) ty70 Try.underlying37 rfl rfl rfl rfl rfl hF rfl (r1) rfl (get?_nn hx1) (get?_at hx1) rfl fun p fr hF => ?_
        refine q_alloc (z := .agg #[.int .i64 0, .int .i64 0]) hs hM1 [.int .i64 0, .int .i64 0] rfl rfl hF (by kernel_rfl) rfl fun b3 w4 S5 fr hs hp hF => ?_
        have r1 := r1.stp hM1 hp
        have hM1 := hM1.stp hp
        have hs : Sep [BX b3 70 [.int .i64 0, .int .i64 0], MP map73 b2 s1.2, BX b1 39 [.int .i64 p0.Inputs, .slice a1 (List.length p0.Gates) c1]] w4 S5 := hs
        refine from_pure 1 [(1, .pointer (some ⟨b1, 0, none⟩)), (3, .map (some b2)), (4, .int .i64 s1.1), (5, .pointer (some ⟨b3, 0, none⟩)), (23, .slice a1 (List.length p0.Gates) c1), (24, .int .i64 (len p0.Gates)), (25, .int .i64 s1.1), (29, .agg #[.int .i64 x1.A, .int .i64 x1.B])] hF (by kernel_rfl) fun fr hF => ?_
        refine q_storeBoxS 0 hs hM1 rfl [.int .i64 x1.A, .int .i64 x1.B] rfl hF rfl rfl (by kernel_rfl) rfl rfl rfl fun w5 S6 hs hp hF => ?_
        have r1 := r1.stp hM1 hp
        have hM1 := hM1.stp hp
        have hs : Sep [BX b3 70 [.int .i64 x1.A, .int .i64 x1.B], MP map73 b2 s1.2, BX b1 39 [.int .i64 p0.Inputs, .slice a1 (List.length p0.Gates) c1]] w5 S6 := hs
        refine from_end rfl (then_normal ?_)
        refine wp_seq (wp_text' ?_)
        refine from_pure 1 [(1, .pointer (some ⟨b1, 0, none⟩)), (3, .map (some b2)), (4, .int .i64 s1.1), (5, .pointer (some ⟨b3, 0, none⟩)), (23, .slice a1 (List.length p0.Gates) c1), (24, .int .i64 (len p0.Gates)), (25, .int .i64 s1.1), (30, .pointer (some ⟨b1, 0, none⟩))] hF (by kernel_rfl) fun fr hF => ?_
        refine s_loadBox (.int .i64 p0.Inputs) ty3 rfl rfl hF rfl (hs.bx 2 rfl) rfl rfl fun fr hF => ?_
        refine from_pure 4 [(1, .pointer (some ⟨b1, 0, none⟩)), (3, .map (some b2)), (5, .pointer (some ⟨b3, 0, none⟩)), (6, .int .i64 (w64 ((w64 (1 + p0.Inputs)) + s1.1))), (23, .slice a1 (List.length p0.Gates) c1), (24, .int .i64 (len p0.Gates)), (25, .int .i64 s1.1)] hF (by kernel_rfl) fun fr hF => ?_
        refine from_end rfl (then_normal ?_)
        refine wp_seq ?_
        obtain ⟨x2, hx2, h⟩ := bindE h
        obtain ⟨x3, hx3, h⟩ := bindE h
        obtain ⟨x4, hx4, h⟩ := bindE h
        refine wp_seq (region_b [] [true, false, true, false, true, true, true, false, true, false, true, true, true, true, false, false, true]
            [.eq (.pointer (some ⟨b3, 0, none⟩)), .eq (.int .i64 x1.A), .eq (.int .i64 (w64 ((w64 (1 + p0.Inputs)) + s1.1))), .eq (.bool x2), .eq (.bool (!x2)), .eq (.bool (!x2)), .eq (.pointer (some ⟨b3, 1, none⟩)), .eq (.int .i64 x1.B), .eq (.int .i64 (w64 ((w64 (1 + p0.Inputs)) + s1.1))), .eq (.bool x3), .eq (.bool (!x3)), .eq (.bool ((!x2) || (!x3))), .eq (.bool ((!x2) || (!x3))), .eq (.map (some b2)), .eq (.agg #[.int .i64 x1.A, .int .i64 x1.B]), .eq (.bool x4), .eq (.bool (((!x2) || (!x3)) || x4))]
            [(1, .pointer (some ⟨b1, 0, none⟩)), (3, .map (some b2)), (5, .pointer (some ⟨b3, 0, none⟩)), (23, .slice a1 (List.length p0.Gates) c1), (24, .int .i64 (len p0.Gates)), (25, .int .i64 s1.1), (51, .bool (((!x2) || (!x3)) || x4))] mix hF (by kernel_rfl) (by kernel_rfl) (by kernel_rfl) ⟨Pd.mono_eq, Pd.mono_eq, Pd.mono_eq, Pd.mono_eq, Pd.mono_eq, Pd.mono_eq, trivial⟩ (fun hG => ⟨np_loadBox hG hF ty3 rfl rfl (hs.bx 0 rfl) rfl rfl rfl, np_call [.int .i64 x1.A, .int .i64 (w64 ((w64 (1 + p0.Inputs)) + s1.1))] hG hF Try.call44 rfl rfl (fun w hC hg => (impl_isLiteral_ok x1.A (w64 ((w64 (1 + p0.Inputs)) + s1.1)) hx2).mono fun e w' ⟨v, he, hv, hc⟩ => ⟨v, he, hc, hv⟩), np_loadBox hG hF ty3 rfl rfl (hs.bx 0 rfl) rfl rfl rfl, np_call [.int .i64 x1.B, .int .i64 (w64 ((w64 (1 + p0.Inputs)) + s1.1))] hG hF Try.call44 rfl rfl (fun w hC hg => (impl_isLiteral_ok x1.B (w64 ((w64 (1 + p0.Inputs)) + s1.1)) (iteF hg.2 hx3)).mono fun e w' ⟨v, he, hv, hc⟩ => ⟨v, he, hc, hv⟩), np_loadBoxS hG hF ty70 rfl rfl (hs.bx 0 rfl) rfl rfl rfl rfl, np_mapGet map73 1 hs rfl Try.underlying73 hG hF rfl (u := x1) rfl rfl rfl (fun hg => mget?_fit (iteF hg.2 hx4)) (vr := .bool x4) (fun hg => congrArg (fun y => Rep.val Bool (Flat.enc y)) (mget?_val (iteF hg.2 hx4))) rfl, trivial⟩) (by kernel_rfl) fun fr w6 hF hE hc => then_normal ?_)
        have r1 := r1.ext hc
        have hs := hs.ext hc
        have hM1 := hM1.ext hc
        refine (wp_if hF (b := (((!x2) || (!x3)) || x4)) rfl (fun hb => ?_) (fun hb => ?_))
        · replace h := iteT hb h
          have hs : Sep [] w6 S6 := Sep.pick [] hs (by decide) rfl
          refine wp_seq (wp_pure [(2, .bool false)] hF (by kernel_rfl) fun fr hF => then_normal ?_)
          obtain rfl := hr1 _ (Option.some.inj h).symm
          obtain rfl := Option.some.inj hk1
          exact wp_ret (then_ret (blk_ret (then_ret (then_ret (blk_ret (then_ret (ret1 rfl hF rfl ⟨_, rfl, rfl, (hM0.trans hM1).chg⟩)))))))
        · replace h := iteF hb h
          refine (wp_skip (then_normal ?_))
          refine wp_seq ?_
          obtain ⟨x5, hx5, h⟩ := bindE h
          obtain ⟨x6, hx6, h⟩ := bindE h
          obtain ⟨x7, hx7, h⟩ := bindE h
          refine wp_seq (region_bm 13 [0, 1, 3, 7, 15, 31, 63, 127, 31, 287, 1023, 2047, 4095] [true, false, false, true, true, true, false, false, true, false, false, true, true]
              [.eq (.pointer (some ⟨b3, 0, none⟩)), .eq (.int .i64 x1.A), .eq (.int .i64 x5), .eq (.bool (decide (x5 < 2))), .eq (.bool (decide (x5 < 2))), .eq (.pointer (some ⟨b3, 0, none⟩)), .eq (.int .i64 x1.A), .eq (.int .i64 x6), .eq (.pointer (some ⟨b3, 1, none⟩)), .eq (.int .i64 x1.B), .eq (.int .i64 x7), .eq (.bool (decide (x6 ≥ x7))), .eq (.bool ((decide (x5 < 2)) || (decide (x6 ≥ x7))))]
              [(1, .pointer (some ⟨b1, 0, none⟩)), (3, .map (some b2)), (5, .pointer (some ⟨b3, 0, none⟩)), (23, .slice a1 (List.length p0.Gates) c1), (24, .int .i64 (len p0.Gates)), (25, .int .i64 s1.1), (64, .bool ((decide (x5 < 2)) || (decide (x6 ≥ x7))))] mix hF (by kernel_rfl) (by kernel_rfl) (by kernel_rfl) (by kernel_rfl) ⟨Pd.monoO_eq, Pd.monoO_eq, Pd.monoO_eq, Pd.monoO_eq, Pd.monoO_eq, Pd.monoO_eq, trivial⟩ (fun ow hG => ⟨np_to ow (np_loadBox hG hF ty3 rfl rfl (hs.bx 0 rfl) rfl rfl rfl), np_to ow (np_call [.int .i64 x1.A] hG hF Try.call45 rfl rfl (fun w hC hg => (impl_varOf_ok x1.A hx5).mono fun e w' ⟨v, he, hv, hc⟩ => ⟨v, he, hc, hv⟩)), np_to ow (np_loadBox hG hF ty3 rfl rfl (hs.bx 0 rfl) rfl rfl rfl), np_to ow (np_call [.int .i64 x1.A] hG hF Try.call45 rfl rfl (fun w hC hg => (impl_varOf_ok x1.A (iteF hg.2 hx6)).mono fun e w' ⟨v, he, hv, hc⟩ => ⟨v, he, hc, hv⟩)), np_to ow (np_loadBox hG hF ty3 rfl rfl (hs.bx 0 rfl) rfl rfl rfl), np_to ow (np_call [.int .i64 x1.B] hG hF Try.call45 rfl rfl (fun w hC hg => (impl_varOf_ok x1.B (iteF hg.2 hx7)).mono fun e w' ⟨v, he, hv, hc⟩ => ⟨v, he, hc, hv⟩)), trivial⟩) (by kernel_rfl) fun ow fr w7 hF hE hc => ?_)
          have r1 := r1.ext hc
          have hs := hs.ext hc
          have hM1 := hM1.ext hc
          refine from_end rfl (then_normal ?_)
          refine (wp_if hF (b := ((decide (x5 < 2)) || (decide (x6 ≥ x7)))) rfl (fun hb => ?_) (fun hb => ?_))
          · replace h := iteT hb h
            have hs : Sep [] w7 S6 := Sep.pick [] hs (by decide) rfl
            refine wp_seq (wp_pure [(2, .bool false)] hF (by kernel_rfl) fun fr hF => then_normal ?_)
            obtain rfl := hr1 _ (Option.some.inj h).symm
            obtain rfl := Option.some.inj hk1
            exact wp_ret (then_ret (blk_ret (then_ret (then_ret (blk_ret (then_ret (ret1 rfl hF rfl ⟨_, rfl, rfl, (hM0.trans hM1).chg⟩)))))))
          · replace h := iteF hb h
            refine (wp_skip (then_normal ?_))
            refine (wp_text' ?_)
            refine from_pure 1 [(1, .pointer (some ⟨b1, 0, none⟩)), (3, .map (some b2)), (5, .pointer (some ⟨b3, 0, none⟩)), (23, .slice a1 (List.length p0.Gates) c1), (24, .int .i64 (len p0.Gates)), (25, .int .i64 s1.1), (65, .map (some b2))] hF (by kernel_rfl) fun fr hF => ?_
            refine s_loadBoxS ty70 rfl rfl hF rfl (hs.bx 0 rfl) rfl rfl fun fr hF => ?_
            have hs : Sep [MP map73 b2 s1.2, BX b1 39 [.int .i64 p0.Inputs, .slice a1 (List.length p0.Gates) c1]] w7 S6 := Sep.pick [1, 2] hs (by decide) rfl
            obtain ⟨x8, hx8, h⟩ := bindE h
            refine q_mapPut map73 0 hs hM1 rfl Try.underlying73 rfl hF (u := x1) (mput?_fit hx8) true (mput?_len hx8) rfl rfl rfl rfl rfl fun w8 S7 hs hp hF => ?_
            have r1 := r1.stp hM1 hp
            have hM1 := hM1.stp hp
            have hs : Sep [MP map73 b2 x8, BX b1 39 [.int .i64 p0.Inputs, .slice a1 (List.length p0.Gates) c1]] w8 S7 := by rw [mput?_val hx8]; exact hs
            refine from_end rfl ?_
            refine blk_normal (then_normal ?_)
            refine (wp_pure [(1, .pointer (some ⟨b1, 0, none⟩)), (3, .map (some b2)), (23, .slice a1 (List.length p0.Gates) c1), (24, .int .i64 (len p0.Gates)), (25, .int .i64 (w64 (s1.1 + 1)))] hF (by kernel_rfl) fun fr hF => then_normal ?_)
            exact ⟨_, (Option.some.inj h).symm, S7, _, hF.sub _ (by kernel_rfl), hM1, hs⟩
      · replace h := iteF hb h
        have hs : Sep [] w1i S3 := Sep.pick [] hs (by decide) rfl
        refine (wp_exit (then_exit (then_exit (blk_exit_eq ?_))))
        obtain rfl := hr1 _ (Option.some.inj h).symm
        exact then_normal ⟨_, rfl, S3, _, hF.sub _ (by kernel_rfl), hM1, hs⟩
    · obtain ⟨s1r, rfl, hM⟩ := hM
      obtain ⟨S4, F2, hF, hMx, hs⟩ := hM
      have hM0 := hM0.trans hMx
      refine wp_seq (wp_pure [(2, .bool true)] hF (by kernel_rfl) fun fr hF => then_normal ?_)
      obtain rfl := Option.some.inj h
      exact wp_ret (ret1 rfl hF rfl ⟨_, rfl, rfl, hM0.chg⟩)

theorem impl_litTrue_ok (p0 : List Bool) (p1 : Int) {r : Bool} (h : impl_litTrue p0 p1 = some r) {w : World} {G0 : Nat → Prop} {va0 : Value} (ra0 : RV w G0 va0 p0) :
    Calls Try.prog 56 [va0, .int .i64 p1].toArray w fun e w' => ∃ v, e = .returned v ∧ v = .bool r ∧ Chg Non w w' := by
  unfold impl_litTrue at h
  have hs := Sep.nil w Non
  have hM0 : Mem w Non (fun k => (G0 k) ∧ k < w.heap.size) w Non (fun k => (G0 k) ∧ k < w.heap.size) := Mem.start (fun _ h => h.elim) (fun _ h => h.2) (fun _ h => h.elim)
  have ra0 := ra0.sub (F' := (fun k => (G0 k) ∧ k < w.heap.size)) (fun k hk h => ⟨h, hk⟩)
  obtain ⟨a1, c1, rfl, -⟩ := ra0.slice
  refine enter (N := 19) Try.func56 rfl Try.ntmps56 rfl fun fr hF => ?_
  refine wp_seq (wp_pure [(0, .slice a1 (List.length p0) c1), (1, .int .i64 p1)] hF (by kernel_rfl) fun fr hF => then_normal ?_)
  refine wp_seq ?_
  refine wp_seq (wp_pure [(0, .slice a1 (List.length p0) c1), (1, .int .i64 p1), (6, .bool (decide (p1 < 0)))] hF (by kernel_rfl) fun fr hF => then_normal ?_)
  refine (wp_if hF (b := (decide (p1 < 0))) rfl (fun hb => ?_) (fun hb => ?_))
  · replace h := iteT hb h
    refine wp_seq (wp_text' ?_)
    refine from_pure 4 [(7, .slice a1 (List.length p0) c1), (10, .int .i64 (w64 ((w64 (0 - p1)) - 1)))] hF (by kernel_rfl) fun fr hF => ?_
    obtain ⟨x1, hx1, h⟩ := bindE h
    refine s_elemF (z := x1) (.bool x1) ty4 Try.underlying54 rfl rfl rfl rfl rfl hF rfl (ra0) rfl (get?_nn hx1) (get?_at hx1) rfl fun p fr hF => ?_
    refine from_pure 2 [(4, .bool (!x1))] hF (by kernel_rfl) fun fr hF => ?_
    refine from_end rfl (then_normal ?_)
    obtain rfl := Option.some.inj h
    exact wp_ret (then_ret (ret1 rfl hF rfl ⟨_, rfl, rfl, hM0.chg⟩))
  · replace h := iteF hb h
    refine (wp_skip (then_normal ?_))
    refine wp_seq (wp_text' ?_)
    refine from_pure 3 [(14, .slice a1 (List.length p0) c1), (16, .int .i64 (w64 (p1 - 1)))] hF (by kernel_rfl) fun fr hF => ?_
    obtain ⟨x2, hx2, h⟩ := bindE h
    refine s_elemF (z := x2) (.bool x2) ty4 Try.underlying54 rfl rfl rfl rfl rfl hF rfl (ra0) rfl (get?_nn hx2) (get?_at hx2) rfl fun p fr hF => ?_
    refine from_pure 1 [(4, .bool x2)] hF (by kernel_rfl) fun fr hF => ?_
    refine from_end rfl (then_normal ?_)
    obtain rfl := Option.some.inj h
    exact wp_ret (ret1 rfl hF rfl ⟨_, rfl, rfl, hM0.chg⟩)

theorem impl_EvalCircuit_ok (n : Nat) (p0 : D.Circuit) (p1 : List Bool) {r : (List Bool)} (h : impl_EvalCircuit n p0 p1 = some r) {w : World} {G0 : Nat → Prop} {va0 : Value} (ra0 : RV w G0 va0 p0) {G1 : Nat → Prop} {va1 : Value} (ra1 : RV w G1 va1 p1) :
    Calls Try.prog 28 [va0, va1].toArray w fun e w' => ∃ v, e = .returned v ∧ ∃ a1 c1, v = .slice a1 (List.length r) c1 ∧ ∃ S', Stp w Non w' S' ∧ Sep [SL (α := Bool) 4 (.slice a1 (List.length r) c1) r] w' S' := by
  unfold impl_EvalCircuit at h
  have hs := Sep.nil w Non
  have hM0 : Mem w Non (fun k => (G0 k ∨ G1 k) ∧ k < w.heap.size) w Non (fun k => (G0 k ∨ G1 k) ∧ k < w.heap.size) := Mem.start (fun _ h => h.elim) (fun _ h => h.2) (fun _ h => h.elim)
  have ra0 := ra0.sub (F' := (fun k => (G0 k ∨ G1 k) ∧ k < w.heap.size)) (fun k hk h => ⟨.inl h, hk⟩)
  obtain ⟨v1, rfl, r1⟩ := RV.Circuit ra0
  obtain ⟨a1, c1, rfl, -⟩ := r1.slice
  have ra1 := ra1.sub (F' := (fun k => (G0 k ∨ G1 k) ∧ k < w.heap.size)) (fun k hk h => ⟨.inr (h), hk⟩)
  obtain ⟨a2, c2, rfl, -⟩ := ra1.slice
  refine enter (N := 44) Try.func28 rfl Try.ntmps28 rfl fun fr hF => ?_
  refine wp_seq (wp_text' ?_)
  refine q_box hs hM0 [.int .i64 p0.Inputs, .slice a1 (List.length p0.Gates) c1] rfl rfl hF rfl rfl fun b1 w1 S1 fr hs hp hF => ?_
  have r1 := r1.stp hM0 hp
  have ra1 := ra1.stp hM0 hp
  have hM0 := hM0.stp hp
  have hs : Sep [BX b1 39 [.int .i64 p0.Inputs, .slice a1 (List.length p0.Gates) c1]] w1 S1 := hs
  refine from_pure 1 [(1, .slice a2 (List.length p1) c2), (2, .pointer (some ⟨b1, 0, none⟩))] hF (by kernel_rfl) fun fr hF => ?_
  refine from_end rfl (then_normal ?_)
  refine wp_seq ?_
  obtain ⟨x1, hx1, h⟩ := bindE h
  refine wp_seq (region_b [] [false, false, true, true, true, true, true, false, true, true]
      [.eq (.agg #[.int .i64 p0.Inputs, .slice a1 (List.length p0.Gates) c1]), .eq (.bool x1), .eq (.bool (!x1)), .eq (.bool (!x1)), .eq (.slice a2 (List.length p1) c2), .eq (.int .i64 (len p1)), .eq (.pointer (some ⟨b1, 0, none⟩)), .eq (.int .i64 p0.Inputs), .eq (.bool ((len p1) != p0.Inputs)), .eq (.bool ((!x1) || ((len p1) != p0.Inputs)))]
      [(1, .slice a2 (List.length p1) c2), (2, .pointer (some ⟨b1, 0, none⟩)), (17, .bool ((!x1) || ((len p1) != p0.Inputs)))] mix hF (by kernel_rfl) (by kernel_rfl) (by kernel_rfl) ⟨Pd.mono_eq, Pd.mono_eq, Pd.mono_eq, trivial⟩ (fun hG => ⟨np_loadBoxS hG hF ty39 rfl rfl (hs.bx 0 rfl) rfl rfl rfl rfl, np_call [.agg #[.int .i64 p0.Inputs, .slice a1 (List.length p0.Gates) c1]] hG hF Try.call19 rfl rfl (fun w hC hg => (impl_CircuitOk_ok n p0 hx1 ((RV.mk_Circuit p0 (r1)).ext hC)).mono fun e w' ⟨v, he, hv, hc⟩ => ⟨v, he, hc, hv⟩), np_loadBox hG hF ty3 rfl rfl (hs.bx 0 rfl) rfl rfl rfl, trivial⟩) (by kernel_rfl) fun fr w2 hF hE hc => then_normal ?_)
  have ra1 := ra1.ext hc
  have r1 := r1.ext hc
  have hs := hs.ext hc
  have hM0 := hM0.ext hc
  refine (wp_if hF (b := ((!x1) || ((len p1) != p0.Inputs))) rfl (fun hb => ?_) (fun hb => ?_))
  · replace h := iteT hb h
    have hs : Sep [] w2 S1 := Sep.pick [] hs (by decide) rfl
    refine wp_seq (wp_pure [(4, .slice none (List.length ([] : List Bool)) 0)] hF (by kernel_rfl) fun fr hF => then_normal ?_)
    have hs : Sep [SL (α := Bool) 4 (.slice none (List.length ([] : List Bool)) 0) ([] : List Bool)] w2 S1 := hs.cons_nil (α := Bool) 4
    obtain rfl := Option.some.inj h
    exact wp_ret (then_ret (ret1 rfl hF rfl ⟨_, rfl, none, 0, rfl, S1, hM0.out, hs⟩))
  · replace h := iteF hb h
    refine (wp_skip (then_normal ?_))
    refine wp_seq (wp_text' ?_)
    refine q_lit (E := 4) hs hM0 [.bool true] (([true] : List Bool).map Flat.enc) ([true] : List Bool) rfl rfl hF [.bool true] rfl (fun w => by kernel_rfl) (css_flat _) rfl rfl rfl fun a3 c3 w3 S2 fr hs hp hF => ?_
    have ra1 := ra1.stp hM0 hp
    have r1 := r1.stp hM0 hp
    have hM0 := hM0.stp hp
    have hs : Sep [SL (α := Bool) 4 (.slice a3 (List.length ([true] : List Bool)) c3) ([true] : List Bool), BX b1 39 [.int .i64 p0.Inputs, .slice a1 (List.length p0.Gates) c1]] w3 S2 := hs
    refine from_pure 1 [(1, .slice a2 (List.length p1) c2), (2, .pointer (some ⟨b1, 0, none⟩)), (5, .slice a3 (List.length ([true] : List Bool)) c3)] hF (by kernel_rfl) fun fr hF => ?_
    refine from_end rfl (then_normal ?_)
    refine wp_seq (wp_text' ?_)
    refine from_pure 2 [(2, .pointer (some ⟨b1, 0, none⟩)), (19, .slice a3 (List.length ([true] : List Bool)) c3), (20, .slice a2 (List.length p1) c2)] hF (by kernel_rfl) fun fr hF => ?_
    obtain ⟨x2, hx2, h⟩ := bindE h
    refine q_append 0 hs hM0 rfl Try.underlying54 el4 rfl rfl rfl hF rfl rfl (ra1) hx2 fun a4 c4 w4 S3 fr hs hp hF => ?_
    have ra1 := ra1.stp hM0 hp
    have r1 := r1.stp hM0 hp
    have hM0 := hM0.stp hp
    have hs : Sep [SL (α := Bool) 4 (.slice a4 (List.length x2) c4) x2, BX b1 39 [.int .i64 p0.Inputs, .slice a1 (List.length p0.Gates) c1]] w4 S3 := hs
    refine from_pure 1 [(2, .pointer (some ⟨b1, 0, none⟩)), (5, .slice a4 (List.length x2) c4)] hF (by kernel_rfl) fun fr hF => ?_
    refine from_end rfl (then_normal ?_)
    refine wp_seq ?_
    refine wp_seq (wp_text' ?_)
    refine from_pure 1 [(5, .slice a4 (List.length x2) c4), (22, .pointer (some ⟨b1, 1, none⟩))] hF (by kernel_rfl) fun fr hF => ?_
    refine s_loadBox (.slice a1 (List.length p0.Gates) c1) ty37 rfl rfl hF rfl (hs.bx 1 rfl) rfl rfl fun fr hF => ?_
    have hs : Sep [SL (α := Bool) 4 (.slice a4 (List.length x2) c4) x2] w4 S3 := Sep.pick [0] hs (by decide) rfl
    refine from_pure 2 [(5, .slice a4 (List.length x2) c4), (23, .slice a1 (List.length p0.Gates) c1), (24, .int .i64 (len p0.Gates)), (25, .int .i64 0)] hF (by kernel_rfl) fun fr hF => ?_
    refine from_end rfl (then_normal ?_)
    obtain ⟨rl1, hit1, h⟩ := bindE h
    have hk1 := h
    refine (wp_cut (M := fun fr w' => ∃ a6 c6 S5 F2, FrS 44 [(5, .slice a6 (List.length rl1) c6)] fr ∧ Mem w4 S3 (fun k => (G0 k ∨ G1 k) ∧ k < w.heap.size) w' S5 F2 ∧ Sep [SL (α := Bool) 4 (.slice a6 (List.length rl1) c6) rl1] w' S5) (wp_block (wp_iter (Inv := fun s1 fr w' => ∃ a5 c5 S4 F1, FrS 44 [(5, .slice a5 (List.length s1.2) c5), (23, .slice a1 (List.length p0.Gates) c1), (24, .int .i64 (len p0.Gates)), (25, .int .i64 s1.1)] fr ∧ Mem w4 S3 (fun k => (G0 k ∨ G1 k) ∧ k < w.heap.size) w' S4 F1 ∧ Sep [SL (α := Bool) 4 (.slice a5 (List.length s1.2) c5) s1.2] w' S4) hit1 ⟨a4, c4, S3, _, hF.sub _ (by kernel_rfl), (Mem.start hM0.bd hM0.bdF hM0.dj), hs⟩ fun s1 q1 fr w1i hI h hr1 => ?_)) fun fr w1o hM => ?_)
    · obtain ⟨a5, c5, S4, F1, hF, hM1, hs⟩ := hI
      have r1 := r1.mem hM1
      refine wp_seq (wp_pure [(5, .slice a5 (List.length s1.2) c5), (23, .slice a1 (List.length p0.Gates) c1), (24, .int .i64 (len p0.Gates)), (25, .int .i64 s1.1), (26, .bool (decide (s1.1 < (len p0.Gates))))] hF (by kernel_rfl) fun fr hF => then_normal ?_)
      refine wp_seq (wp_if hF (b := (decide (s1.1 < (len p0.Gates)))) rfl (fun hb => ?_) (fun hb => ?_))
      · replace h := iteT hb h
        refine (wp_skip (then_normal ?_))
        refine wp_seq (wp_block ?_)
        refine wp_seq (wp_text' ?_)
        obtain ⟨x3, hx3, h⟩ := bindE h
        refine s_elemF (z := x3) (.agg #[.int .i64 x3.A, .int .i64 x3.B]) ty70 Try.underlying37 rfl rfl rfl rfl rfl hF rfl (r1) rfl (get?_nn hx3) (get?_at hx3) rfl fun p fr hF => ?_
        refine q_alloc (z := .agg #[.int .i64 0, .int .i64 0]) hs hM1 [.int .i64 0, .int .i64 0] rfl rfl hF (by kernel_rfl) rfl fun b2 w5 S6 fr hs hp hF => ?_
        have r1 := r1.stp hM1 hp
        have hM1 := hM1.stp hp
        have hs : Sep [BX b2 70 [.int .i64 0, .int .i64 0], SL (α := Bool) 4 (.slice a5 (List.length s1.2) c5) s1.2] w5 S6 := hs
        refine q_storeBoxS 0 hs hM1 rfl [.int .i64 x3.A, .int .i64 x3.B] rfl hF rfl rfl (by kernel_rfl) rfl rfl rfl fun w6 S7 hs hp hF => ?_
        have r1 := r1.stp hM1 hp
        have hM1 := hM1.stp hp
        have hs : Sep [BX b2 70 [.int .i64 x3.A, .int .i64 x3.B], SL (α := Bool) 4 (.slice a5 (List.length s1.2) c5) s1.2] w6 S7 := hs
        refine from_end rfl (then_normal ?_)
        obtain ⟨x4, hx4, h⟩ := bindE h
        obtain ⟨x5, hx5, h⟩ := bindE h
        refine (region_tm 11 [true, true, true, false, false, true, true, true, false, false, true]
            [.eq (.slice a5 (List.length s1.2) c5), .eq (.slice a5 (List.length s1.2) c5), .eq (.pointer (some ⟨b2, 0, none⟩)), .eq (.int .i64 x3.A), .eq (.bool x4), .eq (.bool x4), .eq (.slice a5 (List.length s1.2) c5), .eq (.pointer (some ⟨b2, 1, none⟩)), .eq (.int .i64 x3.B), .eq (.bool x5), .eq (.bool (x4 && x5)), .any, .any, .any]
            [(23, .slice a1 (List.length p0.Gates) c1), (24, .int .i64 (len p0.Gates)), (25, .int .i64 s1.1), (29, .slice a5 (List.length s1.2) c5), (39, .bool (x4 && x5))] hF (by kernel_rfl) (by kernel_rfl) (by kernel_rfl) (by kernel_rfl) ⟨Pd.mono_eq, Pd.mono_eq, Pd.mono_eq, Pd.mono_eq, trivial⟩ (fun hG => ⟨np_loadBox hG hF ty3 rfl rfl (hs.bx 0 rfl) rfl rfl rfl, np_call [.slice a5 (List.length s1.2) c5, .int .i64 x3.A] hG hF Try.call56 rfl rfl (fun w hC hg => (impl_litTrue_ok s1.2 x3.A hx4 ((hs.rv 1 rfl).ext hC)).mono fun e w' ⟨v, he, hv, hc⟩ => ⟨v, he, hc, hv⟩), np_loadBox hG hF ty3 rfl rfl (hs.bx 0 rfl) rfl rfl rfl, np_call [.slice a5 (List.length s1.2) c5, .int .i64 x3.B] hG hF Try.call56 rfl rfl (fun w hC hg => (impl_litTrue_ok s1.2 x3.B (iteT hg.2 hx5) ((hs.rv 1 rfl).ext hC)).mono fun e w' ⟨v, he, hv, hc⟩ => ⟨v, he, hc, hv⟩), trivial⟩) (by kernel_rfl) fun fr w7 hF hc => ?_)
        have r1 := r1.ext hc
        have hs := hs.ext hc
        have hM1 := hM1.ext hc
        have hs : Sep [SL (α := Bool) 4 (.slice a5 (List.length s1.2) c5) s1.2] w7 S7 := Sep.pick [1] hs (by decide) rfl
        refine q_lit (E := 4) hs hM1 [.bool (x4 && x5)] (([(x4 && x5)] : List Bool).map Flat.enc) ([(x4 && x5)] : List Bool) rfl rfl hF [.bool (x4 && x5)] rfl (fun w => by kernel_rfl) (css_flat _) rfl rfl rfl fun a7 c7 w8 S8 fr hs hp hF => ?_
        have r1 := r1.stp hM1 hp
        have hM1 := hM1.stp hp
        have hs : Sep [SL (α := Bool) 4 (.slice a7 (List.length ([(x4 && x5)] : List Bool)) c7) ([(x4 && x5)] : List Bool), SL (α := Bool) 4 (.slice a5 (List.length s1.2) c5) s1.2] w8 S8 := hs
        obtain ⟨x6, hx6, h⟩ := bindE h
        refine q_append 1 hs hM1 rfl Try.underlying54 el4 rfl rfl rfl hF rfl rfl (hs.rv 0 rfl) hx6 fun a8 c8 w9 S9 fr hs hp hF => ?_
        have r1 := r1.stp hM1 hp
        have hM1 := hM1.stp hp
        have hs : Sep [SL (α := Bool) 4 (.slice a7 (List.length ([(x4 && x5)] : List Bool)) c7) ([(x4 && x5)] : List Bool), SL (α := Bool) 4 (.slice a8 (List.length x6) c8) x6] w9 S9 := hs
        have hs : Sep [SL (α := Bool) 4 (.slice a8 (List.length x6) c8) x6] w9 S9 := Sep.pick [1] hs (by decide) rfl
        refine from_pure 1 [(5, .slice a8 (List.length x6) c8), (23, .slice a1 (List.length p0.Gates) c1), (24, .int .i64 (len p0.Gates)), (25, .int .i64 s1.1)] hF (by kernel_rfl) fun fr hF => ?_
        refine from_end rfl ?_
        refine blk_normal (then_normal ?_)
        refine (wp_pure [(5, .slice a8 (List.length x6) c8), (23, .slice a1 (List.length p0.Gates) c1), (24, .int .i64 (len p0.Gates)), (25, .int .i64 (w64 (s1.1 + 1)))] hF (by kernel_rfl) fun fr hF => then_normal ?_)
        exact ⟨_, (Option.some.inj h).symm, a8, c8, S9, _, hF.sub _ (by kernel_rfl), hM1, hs⟩
      · replace h := iteF hb h
        refine (wp_exit (then_exit (then_exit (blk_exit_eq ?_))))
        obtain rfl := hr1 _ (Option.some.inj h).symm
        exact then_normal ⟨a5, c5, S4, _, hF.sub _ (by kernel_rfl), hM1, hs⟩
    · obtain ⟨a6, c6, S5, F2, hF, hMx, hs⟩ := hM
      have hM0 := hM0.trans hMx
      refine wp_seq (wp_pure [(4, .slice a6 (List.length rl1) c6)] hF (by kernel_rfl) fun fr hF => then_normal ?_)
      obtain rfl := Option.some.inj h
      exact wp_ret (ret1 rfl hF rfl ⟨_, rfl, a6, c6, rfl, S5, hM0.out, hs⟩)

theorem laws_eqBoolS_ok (n : Nat) (p0 : List Bool) (p1 : List Bool) {r : Bool} (h : laws_eqBoolS n p0 p1 = some r) {w : World} {G0 : Nat → Prop} {va0 : Value} (ra0 : RV w G0 va0 p0) {G1 : Nat → Prop} {va1 : Value} (ra1 : RV w G1 va1 p1) :
    Calls Try.prog 29 [va0, va1].toArray w fun e w' => ∃ v, e = .returned v ∧ v = .bool r ∧ Chg Non w w' := by
  unfold laws_eqBoolS at h
  have hs := Sep.nil w Non
  have hM0 : Mem w Non (fun k => (G0 k ∨ G1 k) ∧ k < w.heap.size) w Non (fun k => (G0 k ∨ G1 k) ∧ k < w.heap.size) := Mem.start (fun _ h => h.elim) (fun _ h => h.2) (fun _ h => h.elim)
  have ra0 := ra0.sub (F' := (fun k => (G0 k ∨ G1 k) ∧ k < w.heap.size)) (fun k hk h => ⟨.inl h, hk⟩)
  obtain ⟨a1, c1, rfl, -⟩ := ra0.slice
  have ra1 := ra1.sub (F' := (fun k => (G0 k ∨ G1 k) ∧ k < w.heap.size)) (fun k hk h => ⟨.inr (h), hk⟩)
  obtain ⟨a2, c2, rfl, -⟩ := ra1.slice
  refine enter (N := 26) Try.func29 rfl Try.ntmps29 rfl fun fr hF => ?_
  refine wp_seq (wp_pure [(0, .slice a1 (List.length p0) c1), (1, .slice a2 (List.length p1) c2)] hF (by kernel_rfl) fun fr hF => then_normal ?_)
  refine wp_seq ?_
  refine wp_seq (wp_pure [(0, .slice a1 (List.length p0) c1), (1, .slice a2 (List.length p1) c2), (10, .bool ((len p0) != (len p1)))] hF (by kernel_rfl) fun fr hF => then_normal ?_)
  refine (wp_if hF (b := ((len p0) != (len p1))) rfl (fun hb => ?_) (fun hb => ?_))
  · replace h := iteT hb h
    refine wp_seq (wp_pure [(4, .bool false)] hF (by kernel_rfl) fun fr hF => then_normal ?_)
    obtain rfl := Option.some.inj h
    exact wp_ret (then_ret (ret1 rfl hF rfl ⟨_, rfl, rfl, hM0.chg⟩))
  · replace h := iteF hb h
    refine (wp_skip (then_normal ?_))
    refine wp_seq ?_
    refine wp_seq (wp_pure [(0, .slice a1 (List.length p0) c1), (1, .slice a2 (List.length p1) c2), (5, .int .i64 0)] hF (by kernel_rfl) fun fr hF => then_normal ?_)
    obtain ⟨rl1, hit1, h⟩ := bindE h
    have hk1 := h
    refine (wp_cut (M := fun fr w' => ∃ s, rl1 = .inl s ∧ ∃ S2 F2, FrS 26 [] fr ∧ Mem w Non (fun k => (G0 k ∨ G1 k) ∧ k < w.heap.size) w' S2 F2 ∧ Sep [] w' S2) (wp_block (wp_iter (Inv := fun s1 fr w' => ∃ S1 F1, FrS 26 [(0, .slice a1 (List.length p0) c1), (1, .slice a2 (List.length p1) c2), (5, .int .i64 s1)] fr ∧ Mem w Non (fun k => (G0 k ∨ G1 k) ∧ k < w.heap.size) w' S1 F1 ∧ Sep [] w' S1) hit1 ⟨Non, _, hF.sub _ (by kernel_rfl), (Mem.start hM0.bd hM0.bdF hM0.dj), hs⟩ fun s1 q1 fr w1i hI h hr1 => ?_)) fun fr w1o hM => ?_)
    · obtain ⟨S1, F1, hF, hM1, hs⟩ := hI
      have ra0 := ra0.mem hM1
      have ra1 := ra1.mem hM1
      refine wp_seq ?_
      refine wp_seq (wp_pure [(0, .slice a1 (List.length p0) c1), (1, .slice a2 (List.length p1) c2), (5, .int .i64 s1), (14, .bool (decide (s1 < (len p0))))] hF (by kernel_rfl) fun fr hF => then_normal ?_)
      refine (wp_if hF (b := (decide (s1 < (len p0)))) rfl (fun hb => ?_) (fun hb => ?_))
      · replace h := iteT hb h
        refine (wp_skip (then_normal ?_))
        refine wp_seq (wp_block ?_)
        obtain ⟨x1, hx1, h⟩ := bindE h
        obtain ⟨x2, hx2, h⟩ := bindE h
        refine wp_seq (region_bm 9 [0, 0, 3, 7, 0, 0, 48, 112, 255] [true, true, false, false, true, true, false, false, true]
            [.eq (.slice a1 (List.length p0) c1), .eq (.int .i64 s1), .is fun v w => ElemP w (fun k => k < w1i.heap.size) v (x1 : Bool), .eq (.bool x1), .eq (.slice a2 (List.length p1) c2), .eq (.int .i64 s1), .is fun v w => ElemP w (fun k => k < w1i.heap.size) v (x2 : Bool), .eq (.bool x2), .eq (.bool (!(x1 == x2)))]
            [(0, .slice a1 (List.length p0) c1), (1, .slice a2 (List.length p1) c2), (5, .int .i64 s1), (25, .bool (!(x1 == x2)))] mix hF (by kernel_rfl) (by kernel_rfl) (by kernel_rfl) (by kernel_rfl) ⟨(Pd.monoO_is mono_elem), Pd.monoO_eq, (Pd.monoO_is mono_elem), Pd.monoO_eq, trivial⟩ (fun ow hG => ⟨np_to ow (np_index hG hF ty4 Try.underlying54 rfl rfl (RV.sub (ra0) fun k hk _ => hk) rfl rfl (fun hg => ⟨get?_nn hx1, get?_at hx1⟩)), np_to ow (np_loadF (z := x1) (i := 2) hG hF ty4 rfl rfl rfl rfl rfl rfl rfl), np_to ow (np_index hG hF ty4 Try.underlying54 rfl rfl (RV.sub (ra1) fun k hk _ => hk) rfl rfl (fun hg => ⟨get?_nn hx2, get?_at hx2⟩)), np_to ow (np_loadF (z := x2) (i := 6) hG hF ty4 rfl rfl rfl rfl rfl rfl rfl), trivial⟩) (by kernel_rfl) fun ow fr w1 hF hE hc => ?_)
        have ra0 := ra0.ext hc
        have ra1 := ra1.ext hc
        have hs := hs.ext hc
        have hM1 := hM1.ext hc
        refine from_end rfl (then_normal ?_)
        refine (wp_if hF (b := (!(x1 == x2))) rfl (fun hb => ?_) (fun hb => ?_))
        · replace h := iteT hb h
          refine wp_seq (wp_pure [(4, .bool false)] hF (by kernel_rfl) fun fr hF => then_normal ?_)
          obtain rfl := hr1 _ (Option.some.inj h).symm
          obtain rfl := Option.some.inj hk1
          exact wp_ret (blk_ret (then_ret (then_ret (blk_ret (then_ret (ret1 rfl hF rfl ⟨_, rfl, rfl, (hM0.trans hM1).chg⟩))))))
        · replace h := iteF hb h
          refine (wp_skip ?_)
          refine blk_normal (then_normal ?_)
          refine (wp_pure [(0, .slice a1 (List.length p0) c1), (1, .slice a2 (List.length p1) c2), (5, .int .i64 (w64 (s1 + 1)))] hF (by kernel_rfl) fun fr hF => then_normal ?_)
          exact ⟨_, (Option.some.inj h).symm, S1, _, hF.sub _ (by kernel_rfl), hM1, hs⟩
      · replace h := iteF hb h
        refine (wp_exit (then_exit (then_exit (blk_exit_eq ?_))))
        obtain rfl := hr1 _ (Option.some.inj h).symm
        exact then_normal ⟨_, rfl, S1, _, hF.sub _ (by kernel_rfl), hM1, hs⟩
    · obtain ⟨s1r, rfl, hM⟩ := hM
      obtain ⟨S2, F2, hF, hMx, hs⟩ := hM
      have hM0 := hM0.trans hMx
      refine wp_seq (wp_pure [(4, .bool true)] hF (by kernel_rfl) fun fr hF => then_normal ?_)
      obtain rfl := Option.some.inj h
      exact wp_ret (ret1 rfl hF rfl ⟨_, rfl, rfl, hM0.chg⟩)

theorem laws_eqGate_ok (p0 : D.Gate) (p1 : D.Gate) {r : Bool} (h : laws_eqGate p0 p1 = some r) {w : World} :
    Calls Try.prog 61 [.agg #[.int .i64 p0.A, .int .i64 p0.B], .agg #[.int .i64 p1.A, .int .i64 p1.B]].toArray w fun e w' => ∃ v, e = .returned v ∧ v = .bool r ∧ Chg Non w w' := by
  unfold laws_eqGate at h
  have hs := Sep.nil w Non
  have hM0 : Mem w Non (fun k => (False) ∧ k < w.heap.size) w Non (fun k => (False) ∧ k < w.heap.size) := Mem.start (fun _ h => h.elim) (fun _ h => h.2) (fun _ h => h.elim)
  refine enter (N := 15) Try.func61 rfl Try.ntmps61 rfl fun fr hF => ?_
  refine wp_seq (wp_text' ?_)
  refine q_box hs hM0 [.int .i64 p0.A, .int .i64 p0.B] rfl rfl hF rfl rfl fun b1 w1 S1 fr hs hp hF => ?_
  have hM0 := hM0.stp hp
  have hs : Sep [BX b1 70 [.int .i64 p0.A, .int .i64 p0.B]] w1 S1 := hs
  refine q_box hs hM0 [.int .i64 p1.A, .int .i64 p1.B] rfl rfl hF rfl rfl fun b2 w2 S2 fr hs hp hF => ?_
  have hM0 := hM0.stp hp
  have hs : Sep [BX b2 70 [.int .i64 p1.A, .int .i64 p1.B], BX b1 70 [.int .i64 p0.A, .int .i64 p0.B]] w2 S2 := hs
  refine from_pure 1 [(2, .pointer (some ⟨b1, 0, none⟩)), (3, .pointer (some ⟨b2, 0, none⟩))] hF (by kernel_rfl) fun fr hF => ?_
  refine from_end rfl (then_normal ?_)
  refine wp_seq ?_
  refine wp_seq (wp_text' ?_)
  refine from_pure 1 [(2, .pointer (some ⟨b1, 0, none⟩)), (3, .pointer (some ⟨b2, 0, none⟩)), (5, .pointer (some ⟨b1, 0, none⟩))] hF (by kernel_rfl) fun fr hF => ?_
  refine s_loadBox (.int .i64 p0.A) ty3 rfl rfl hF rfl (hs.bx 1 rfl) rfl rfl fun fr hF => ?_
  refine from_pure 1 [(2, .pointer (some ⟨b1, 0, none⟩)), (3, .pointer (some ⟨b2, 0, none⟩)), (6, .int .i64 p0.A), (7, .pointer (some ⟨b2, 0, none⟩))] hF (by kernel_rfl) fun fr hF => ?_
  refine s_loadBox (.int .i64 p1.A) ty3 rfl rfl hF rfl (hs.bx 0 rfl) rfl rfl fun fr hF => ?_
  refine from_pure 1 [(2, .pointer (some ⟨b1, 0, none⟩)), (3, .pointer (some ⟨b2, 0, none⟩)), (9, .bool (p0.A != p1.A))] hF (by kernel_rfl) fun fr hF => ?_
  refine from_end rfl (then_normal ?_)
  refine (wp_if hF (b := (p0.A != p1.A)) rfl (fun hb => ?_) (fun hb => ?_))
  · replace h := iteT hb h
    have hs : Sep [] w2 S2 := Sep.pick [] hs (by decide) rfl
    refine wp_seq (wp_pure [(4, .bool false)] hF (by kernel_rfl) fun fr hF => then_normal ?_)
    obtain rfl := Option.some.inj h
    exact wp_ret (then_ret (ret1 rfl hF rfl ⟨_, rfl, rfl, hM0.chg⟩))
  · replace h := iteF hb h
    refine (wp_skip (then_normal ?_))
    refine wp_seq ?_
    refine wp_seq (wp_text' ?_)
    refine from_pure 1 [(3, .pointer (some ⟨b2, 0, none⟩)), (10, .pointer (some ⟨b1, 1, none⟩))] hF (by kernel_rfl) fun fr hF => ?_
    refine s_loadBox (.int .i64 p0.B) ty3 rfl rfl hF rfl (hs.bx 1 rfl) rfl rfl fun fr hF => ?_
    have hs : Sep [BX b2 70 [.int .i64 p1.A, .int .i64 p1.B]] w2 S2 := Sep.pick [0] hs (by decide) rfl
    refine from_pure 1 [(11, .int .i64 p0.B), (12, .pointer (some ⟨b2, 1, none⟩))] hF (by kernel_rfl) fun fr hF => ?_
    refine s_loadBox (.int .i64 p1.B) ty3 rfl rfl hF rfl (hs.bx 0 rfl) rfl rfl fun fr hF => ?_
    have hs : Sep [] w2 S2 := Sep.pick [] hs (by decide) rfl
    refine from_pure 1 [(14, .bool (p0.B != p1.B))] hF (by kernel_rfl) fun fr hF => ?_
    refine from_end rfl (then_normal ?_)
    refine (wp_if hF (b := (p0.B != p1.B)) rfl (fun hb => ?_) (fun hb => ?_))
    · replace h := iteT hb h
      refine wp_seq (wp_pure [(4, .bool false)] hF (by kernel_rfl) fun fr hF => then_normal ?_)
      obtain rfl := Option.some.inj h
      exact wp_ret (then_ret (ret1 rfl hF rfl ⟨_, rfl, rfl, hM0.chg⟩))
    · replace h := iteF hb h
      refine (wp_skip (then_normal ?_))
      refine wp_seq (wp_pure [(4, .bool true)] hF (by kernel_rfl) fun fr hF => then_normal ?_)
      obtain rfl := Option.some.inj h
      exact wp_ret (ret1 rfl hF rfl ⟨_, rfl, rfl, hM0.chg⟩)

theorem laws_eqGateS_ok (n : Nat) (p0 : List D.Gate) (p1 : List D.Gate) {r : Bool} (h : laws_eqGateS n p0 p1 = some r) {w : World} {G0 : Nat → Prop} {va0 : Value} (ra0 : RV w G0 va0 p0) {G1 : Nat → Prop} {va1 : Value} (ra1 : RV w G1 va1 p1) :
    Calls Try.prog 46 [va0, va1].toArray w fun e w' => ∃ v, e = .returned v ∧ v = .bool r ∧ Chg Non w w' := by
  unfold laws_eqGateS at h
  have hs := Sep.nil w Non
  have hM0 : Mem w Non (fun k => (G0 k ∨ G1 k) ∧ k < w.heap.size) w Non (fun k => (G0 k ∨ G1 k) ∧ k < w.heap.size) := Mem.start (fun _ h => h.elim) (fun _ h => h.2) (fun _ h => h.elim)
  have ra0 := ra0.sub (F' := (fun k => (G0 k ∨ G1 k) ∧ k < w.heap.size)) (fun k hk h => ⟨.inl h, hk⟩)
  obtain ⟨a1, c1, rfl, -⟩ := ra0.slice
  have ra1 := ra1.sub (F' := (fun k => (G0 k ∨ G1 k) ∧ k < w.heap.size)) (fun k hk h => ⟨.inr (h), hk⟩)
  obtain ⟨a2, c2, rfl, -⟩ := ra1.slice
  refine enter (N := 27) Try.func46 rfl Try.ntmps46 rfl fun fr hF => ?_
  refine wp_seq (wp_pure [(0, .slice a1 (List.length p0) c1), (1, .slice a2 (List.length p1) c2)] hF (by kernel_rfl) fun fr hF => then_normal ?_)
  refine wp_seq ?_
  refine wp_seq (wp_pure [(0, .slice a1 (List.length p0) c1), (1, .slice a2 (List.length p1) c2), (10, .bool ((len p0) != (len p1)))] hF (by kernel_rfl) fun fr hF => then_normal ?_)
  refine (wp_if hF (b := ((len p0) != (len p1))) rfl (fun hb => ?_) (fun hb => ?_))
  · replace h := iteT hb h
    refine wp_seq (wp_pure [(4, .bool false)] hF (by kernel_rfl) fun fr hF => then_normal ?_)
    obtain rfl := Option.some.inj h
    exact wp_ret (then_ret (ret1 rfl hF rfl ⟨_, rfl, rfl, hM0.chg⟩))
  · replace h := iteF hb h
    refine (wp_skip (then_normal ?_))
    refine wp_seq ?_
    refine wp_seq (wp_pure [(0, .slice a1 (List.length p0) c1), (1, .slice a2 (List.length p1) c2), (5, .int .i64 0)] hF (by kernel_rfl) fun fr hF => then_normal ?_)
    obtain ⟨rl1, hit1, h⟩ := bindE h
    have hk1 := h
    refine (wp_cut (M := fun fr w' => ∃ s, rl1 = .inl s ∧ ∃ S2 F2, FrS 27 [] fr ∧ Mem w Non (fun k => (G0 k ∨ G1 k) ∧ k < w.heap.size) w' S2 F2 ∧ Sep [] w' S2) (wp_block (wp_iter (Inv := fun s1 fr w' => ∃ S1 F1, FrS 27 [(0, .slice a1 (List.length p0) c1), (1, .slice a2 (List.length p1) c2), (5, .int .i64 s1)] fr ∧ Mem w Non (fun k => (G0 k ∨ G1 k) ∧ k < w.heap.size) w' S1 F1 ∧ Sep [] w' S1) hit1 ⟨Non, _, hF.sub _ (by kernel_rfl), (Mem.start hM0.bd hM0.bdF hM0.dj), hs⟩ fun s1 q1 fr w1i hI h hr1 => ?_)) fun fr w1o hM => ?_)
    · obtain ⟨S1, F1, hF, hM1, hs⟩ := hI
      have ra0 := ra0.mem hM1
      have ra1 := ra1.mem hM1
      refine wp_seq ?_
      refine wp_seq (wp_pure [(0, .slice a1 (List.length p0) c1), (1, .slice a2 (List.length p1) c2), (5, .int .i64 s1), (14, .bool (decide (s1 < (len p0))))] hF (by kernel_rfl) fun fr hF => then_normal ?_)
      refine (wp_if hF (b := (decide (s1 < (len p0)))) rfl (fun hb => ?_) (fun hb => ?_))
      · replace h := iteT hb h
        refine (wp_skip (then_normal ?_))
        refine wp_seq (wp_block ?_)
        obtain ⟨x1, hx1, h⟩ := bindE h
        obtain ⟨x2, hx2, h⟩ := bindE h
        obtain ⟨x3, hx3, h⟩ := bindE h
        refine wp_seq (region_bm 10 [0, 0, 3, 7, 0, 0, 48, 112, 255, 511] [true, true, false, false, true, true, false, false, false, true]
            [.eq (.slice a1 (List.length p0) c1), .eq (.int .i64 s1), .is fun v w => ElemP w (fun k => k < w1i.heap.size) v (x1 : D.Gate), .eq (.agg #[.int .i64 x1.A, .int .i64 x1.B]), .eq (.slice a2 (List.length p1) c2), .eq (.int .i64 s1), .is fun v w => ElemP w (fun k => k < w1i.heap.size) v (x2 : D.Gate), .eq (.agg #[.int .i64 x2.A, .int .i64 x2.B]), .eq (.bool x3), .eq (.bool (!x3))]
            [(0, .slice a1 (List.length p0) c1), (1, .slice a2 (List.length p1) c2), (5, .int .i64 s1), (26, .bool (!x3))] mix hF (by kernel_rfl) (by kernel_rfl) (by kernel_rfl) (by kernel_rfl) ⟨(Pd.monoO_is mono_elem), Pd.monoO_eq, (Pd.monoO_is mono_elem), Pd.monoO_eq, Pd.monoO_eq, trivial⟩ (fun ow hG => ⟨np_to ow (np_index hG hF ty70 Try.underlying37 rfl rfl (RV.sub (ra0) fun k hk _ => hk) rfl rfl (fun hg => ⟨get?_nn hx1, get?_at hx1⟩)), np_to ow (np_loadF (z := x1) (i := 2) hG hF ty70 rfl rfl rfl rfl rfl rfl rfl), np_to ow (np_index hG hF ty70 Try.underlying37 rfl rfl (RV.sub (ra1) fun k hk _ => hk) rfl rfl (fun hg => ⟨get?_nn hx2, get?_at hx2⟩)), np_to ow (np_loadF (z := x2) (i := 6) hG hF ty70 rfl rfl rfl rfl rfl rfl rfl), np_to ow (np_call [.agg #[.int .i64 x1.A, .int .i64 x1.B], .agg #[.int .i64 x2.A, .int .i64 x2.B]] hG hF Try.call61 rfl rfl (fun w hC hg => (laws_eqGate_ok x1 x2 hx3).mono fun e w' ⟨v, he, hv, hc⟩ => ⟨v, he, hc, hv⟩)), trivial⟩) (by kernel_rfl) fun ow fr w1 hF hE hc => ?_)
        have ra0 := ra0.ext hc
        have ra1 := ra1.ext hc
        have hs := hs.ext hc
        have hM1 := hM1.ext hc
        refine from_end rfl (then_normal ?_)
        refine (wp_if hF (b := (!x3)) rfl (fun hb => ?_) (fun hb => ?_))
        · replace h := iteT hb h
          refine wp_seq (wp_pure [(4, .bool false)] hF (by kernel_rfl) fun fr hF => then_normal ?_)
          obtain rfl := hr1 _ (Option.some.inj h).symm
          obtain rfl := Option.some.inj hk1
          exact wp_ret (blk_ret (then_ret (then_ret (blk_ret (then_ret (ret1 rfl hF rfl ⟨_, rfl, rfl, (hM0.trans hM1).chg⟩))))))
        · replace h := iteF hb h
          refine (wp_skip ?_)
          refine blk_normal (then_normal ?_)
          refine (wp_pure [(0, .slice a1 (List.length p0) c1), (1, .slice a2 (List.length p1) c2), (5, .int .i64 (w64 (s1 + 1)))] hF (by kernel_rfl) fun fr hF => then_normal ?_)
          exact ⟨_, (Option.some.inj h).symm, S1, _, hF.sub _ (by kernel_rfl), hM1, hs⟩
      · replace h := iteF hb h
        refine (wp_exit (then_exit (then_exit (blk_exit_eq ?_))))
        obtain rfl := hr1 _ (Option.some.inj h).symm
        exact then_normal ⟨_, rfl, S1, _, hF.sub _ (by kernel_rfl), hM1, hs⟩
    · obtain ⟨s1r, rfl, hM⟩ := hM
      obtain ⟨S2, F2, hF, hMx, hs⟩ := hM
      have hM0 := hM0.trans hMx
      refine wp_seq (wp_pure [(4, .bool true)] hF (by kernel_rfl) fun fr hF => then_normal ?_)
      obtain rfl := Option.some.inj h
      exact wp_ret (ret1 rfl hF rfl ⟨_, rfl, rfl, hM0.chg⟩)

theorem laws_eqCircuit_ok (n : Nat) (p0 : D.Circuit) (p1 : D.Circuit) {r : Bool} (h : laws_eqCircuit n p0 p1 = some r) {w : World} {G0 : Nat → Prop} {va0 : Value} (ra0 : RV w G0 va0 p0) {G1 : Nat → Prop} {va1 : Value} (ra1 : RV w G1 va1 p1) :
    Calls Try.prog 20 [va0, va1].toArray w fun e w' => ∃ v, e = .returned v ∧ v = .bool r ∧ Chg Non w w' := by
  unfold laws_eqCircuit at h
  have hs := Sep.nil w Non
  have hM0 : Mem w Non (fun k => (G0 k ∨ G1 k) ∧ k < w.heap.size) w Non (fun k => (G0 k ∨ G1 k) ∧ k < w.heap.size) := Mem.start (fun _ h => h.elim) (fun _ h => h.2) (fun _ h => h.elim)
  have ra0 := ra0.sub (F' := (fun k => (G0 k ∨ G1 k) ∧ k < w.heap.size)) (fun k hk h => ⟨.inl h, hk⟩)
  obtain ⟨v1, rfl, r1⟩ := RV.Circuit ra0
  obtain ⟨a1, c1, rfl, -⟩ := r1.slice
  have ra1 := ra1.sub (F' := (fun k => (G0 k ∨ G1 k) ∧ k < w.heap.size)) (fun k hk h => ⟨.inr (h), hk⟩)
  obtain ⟨v2, rfl, r2⟩ := RV.Circuit ra1
  obtain ⟨a2, c2, rfl, -⟩ := r2.slice
  refine enter (N := 16) Try.func20 rfl Try.ntmps20 rfl fun fr hF => ?_
  refine wp_seq (wp_text' ?_)
  refine q_box hs hM0 [.int .i64 p0.Inputs, .slice a1 (List.length p0.Gates) c1] rfl rfl hF rfl rfl fun b1 w1 S1 fr hs hp hF => ?_
  have r1 := r1.stp hM0 hp
  have r2 := r2.stp hM0 hp
  have hM0 := hM0.stp hp
  have hs : Sep [BX b1 39 [.int .i64 p0.Inputs, .slice a1 (List.length p0.Gates) c1]] w1 S1 := hs
  refine q_box hs hM0 [.int .i64 p1.Inputs, .slice a2 (List.length p1.Gates) c2] rfl rfl hF rfl rfl fun b2 w2 S2 fr hs hp hF => ?_
  have r2 := r2.stp hM0 hp
  have r1 := r1.stp hM0 hp
  have hM0 := hM0.stp hp
  have hs : Sep [BX b2 39 [.int .i64 p1.Inputs, .slice a2 (List.length p1.Gates) c2], BX b1 39 [.int .i64 p0.Inputs, .slice a1 (List.length p0.Gates) c1]] w2 S2 := hs
  refine from_pure 1 [(2, .pointer (some ⟨b1, 0, none⟩)), (3, .pointer (some ⟨b2, 0, none⟩))] hF (by kernel_rfl) fun fr hF => ?_
  refine from_end rfl (then_normal ?_)
  refine wp_seq ?_
  refine wp_seq (wp_text' ?_)
  refine from_pure 1 [(2, .pointer (some ⟨b1, 0, none⟩)), (3, .pointer (some ⟨b2, 0, none⟩)), (5, .pointer (some ⟨b1, 0, none⟩))] hF (by kernel_rfl) fun fr hF => ?_
  refine s_loadBox (.int .i64 p0.Inputs) ty3 rfl rfl hF rfl (hs.bx 1 rfl) rfl rfl fun fr hF => ?_
  refine from_pure 1 [(2, .pointer (some ⟨b1, 0, none⟩)), (3, .pointer (some ⟨b2, 0, none⟩)), (6, .int .i64 p0.Inputs), (7, .pointer (some ⟨b2, 0, none⟩))] hF (by kernel_rfl) fun fr hF => ?_
  refine s_loadBox (.int .i64 p1.Inputs) ty3 rfl rfl hF rfl (hs.bx 0 rfl) rfl rfl fun fr hF => ?_
  refine from_pure 1 [(2, .pointer (some ⟨b1, 0, none⟩)), (3, .pointer (some ⟨b2, 0, none⟩)), (9, .bool (p0.Inputs != p1.Inputs))] hF (by kernel_rfl) fun fr hF => ?_
  refine from_end rfl (then_normal ?_)
  refine (wp_if hF (b := (p0.Inputs != p1.Inputs)) rfl (fun hb => ?_) (fun hb => ?_))
  · replace h := iteT hb h
    have hs : Sep [] w2 S2 := Sep.pick [] hs (by decide) rfl
    refine wp_seq (wp_pure [(4, .bool false)] hF (by kernel_rfl) fun fr hF => then_normal ?_)
    obtain rfl := Option.some.inj h
    exact wp_ret (then_ret (ret1 rfl hF rfl ⟨_, rfl, rfl, hM0.chg⟩))
  · replace h := iteF hb h
    refine (wp_skip (then_normal ?_))
    refine wp_seq ?_
    refine wp_seq (wp_text' ?_)
    refine from_pure 1 [(3, .pointer (some ⟨b2, 0, none⟩)), (10, .pointer (some ⟨b1, 1, none⟩))] hF (by kernel_rfl) fun fr hF => ?_
    refine s_loadBox (.slice a1 (List.length p0.Gates) c1) ty37 rfl rfl hF rfl (hs.bx 1 rfl) rfl rfl fun fr hF => ?_
    have hs : Sep [BX b2 39 [.int .i64 p1.Inputs, .slice a2 (List.length p1.Gates) c2]] w2 S2 := Sep.pick [0] hs (by decide) rfl
    refine from_pure 1 [(11, .slice a1 (List.length p0.Gates) c1), (12, .pointer (some ⟨b2, 1, none⟩))] hF (by kernel_rfl) fun fr hF => ?_
    refine s_loadBox (.slice a2 (List.length p1.Gates) c2) ty37 rfl rfl hF rfl (hs.bx 0 rfl) rfl rfl fun fr hF => ?_
    have hs : Sep [] w2 S2 := Sep.pick [] hs (by decide) rfl
    obtain ⟨x1, hx1, h⟩ := bindE h
    refine s_call [.slice a1 (List.length p0.Gates) c1, .slice a2 (List.length p1.Gates) c2] Try.call46 rfl rfl hF rfl (laws_eqGateS_ok n p0.Gates p1.Gates hx1 (r1) (r2)) fun v w3 fr hRes hF => ?_
    obtain ⟨rfl, hc⟩ := hRes
    have r1 := r1.ext hc
    have r2 := r2.ext hc
    have hs := hs.ext hc
    have hM0 := hM0.ext hc
    refine from_pure 1 [(15, .bool (!x1))] hF (by kernel_rfl) fun fr hF => ?_
    refine from_end rfl (then_normal ?_)
    refine (wp_if hF (b := (!x1)) rfl (fun hb => ?_) (fun hb => ?_))
    · replace h := iteT hb h
      refine wp_seq (wp_pure [(4, .bool false)] hF (by kernel_rfl) fun fr hF => then_normal ?_)
      obtain rfl := Option.some.inj h
      exact wp_ret (then_ret (ret1 rfl hF rfl ⟨_, rfl, rfl, hM0.chg⟩))
    · replace h := iteF hb h
      refine (wp_skip (then_normal ?_))
      refine wp_seq (wp_pure [(4, .bool true)] hF (by kernel_rfl) fun fr hF => then_normal ?_)
      obtain rfl := Option.some.inj h
      exact wp_ret (ret1 rfl hF rfl ⟨_, rfl, rfl, hM0.chg⟩)

theorem laws_markGateS_ok (n : Nat) (p0 : List D.Gate) (p1 : Int) {r : Int × (List D.Gate)} (h : laws_markGateS n p0 p1 = some r) {w : World} {S0 F0 : Nat → Prop} {pa0 : Option Addr} {pn0 pc0 : Nat} (hs : Sep [SL (α := D.Gate) 70 (.slice pa0 pn0 pc0) p0] w S0) (hb : ∀ k, S0 k → k < w.heap.size) (hd : ∀ k, S0 k → F0 k → False) :
    Calls Try.prog 57 [.slice pa0 pn0 pc0, .int .i64 p1].toArray w fun e w' => ∃ v, e = .returned v ∧ v = .int .i64 r.1 ∧ ∃ S', Stp w S0 w' S' ∧ Sep [SL (α := D.Gate) 70 (.slice pa0 pn0 pc0) r.2] w' S' := by
  unfold laws_markGateS at h
  obtain ⟨hpn, hs⟩ := hs.relen 0 rfl
  subst hpn
  have hs : Sep [SL (α := D.Gate) 70 (.slice pa0 (List.length p0) pc0) p0] w S0 := hs
  have hM0 : Mem w S0 (fun k => F0 k ∧ k < w.heap.size) w S0 (fun k => F0 k ∧ k < w.heap.size) := Mem.start hb (fun _ h => h.2) (fun k h1 h2 => hd k h1 h2.1)
  refine enter (N := 27) Try.func57 rfl Try.ntmps57 rfl fun fr hF => ?_
  refine wp_seq (wp_pure [(0, .slice pa0 (List.length p0) pc0), (1, .int .i64 p1)] hF (by kernel_rfl) fun fr hF => then_normal ?_)
  refine wp_seq ?_
  refine wp_seq (wp_pure [(0, .slice pa0 (List.length p0) pc0), (1, .int .i64 p1), (5, .int .i64 0)] hF (by kernel_rfl) fun fr hF => then_normal ?_)
  obtain ⟨rl1, hit1, h⟩ := bindE h
  have hk1 := h
  refine (wp_cut (M := fun fr w' => ∃ S2 F2, FrS 27 [(1, .int .i64 rl1.1)] fr ∧ Mem w S0 (fun k => F0 k ∧ k < w.heap.size) w' S2 F2 ∧ Sep [SL (α := D.Gate) 70 (.slice pa0 (List.length p0) pc0) rl1.2] w' S2) (wp_block (wp_iter (Inv := fun s1 fr w' => ∃ S1 F1, FrS 27 [(0, .slice pa0 (List.length p0) pc0), (1, .int .i64 s1.1), (5, .int .i64 s1.2.1)] fr ∧ Mem w S0 (fun k => F0 k ∧ k < w.heap.size) w' S1 F1 ∧ Sep [SL (α := D.Gate) 70 (.slice pa0 (List.length p0) pc0) s1.2.2] w' S1) hit1 ⟨S0, _, hF.sub _ (by kernel_rfl), (Mem.start hM0.bd hM0.bdF hM0.dj), hs⟩ fun s1 q1 fr w1i hI h hr1 => ?_)) fun fr w1o hM => ?_)
  · obtain ⟨S1, F1, hF, hM1, hs⟩ := hI
    refine wp_seq ?_
    refine wp_seq (wp_pure [(0, .slice pa0 (List.length p0) pc0), (1, .int .i64 s1.1), (5, .int .i64 s1.2.1), (9, .bool (decide (s1.2.1 < (len p0))))] hF (by kernel_rfl) fun fr hF => then_normal ?_)
    refine (wp_if hF (b := (decide (s1.2.1 < (len p0)))) rfl (fun hb => ?_) (fun hb => ?_))
    · replace h := iteT hb h
      refine (wp_skip (then_normal ?_))
      refine wp_seq (wp_block ?_)
      refine wp_seq (wp_text' ?_)
      refine from_pure 3 [(0, .slice pa0 (List.length p0) pc0), (1, .int .i64 s1.1), (5, .int .i64 s1.2.1), (12, .slice pa0 (List.length p0) pc0), (13, .int .i64 s1.2.1), (14, .int .i64 s1.1)] hF (by kernel_rfl) fun fr hF => ?_
      obtain ⟨x1, hx1, h⟩ := bindE h
      obtain ⟨x2, hx2, h⟩ := bindE h
      refine q_setField (q := x1) (q' := ({ x1 with A := s1.1 } : D.Gate)) (off := 0) 0 hs hM1 rfl Try.underlying37 ty70 rfl rfl rfl rfl rfl hF rfl rfl rfl rfl (by kernel_rfl) rfl (by kernel_rfl) rfl hx1 rfl hx2 fun w1 S3 fr _ _ hs hp hF => ?_
      have hM1 := hM1.stp hp
      have hs : Sep [SL (α := D.Gate) 70 (.slice pa0 (List.length p0) pc0) x2] w1 S3 := hs
      refine from_end rfl (then_normal ?_)
      refine wp_seq (wp_pure [(0, .slice pa0 (List.length p0) pc0), (1, .int .i64 (w64 (s1.1 + 1))), (5, .int .i64 s1.2.1)] hF (by kernel_rfl) fun fr hF => then_normal ?_)
      refine wp_seq (wp_text' ?_)
      refine from_pure 3 [(0, .slice pa0 (List.length p0) pc0), (1, .int .i64 (w64 (s1.1 + 1))), (5, .int .i64 s1.2.1), (19, .slice pa0 (List.length p0) pc0), (20, .int .i64 s1.2.1), (21, .int .i64 (w64 (s1.1 + 1)))] hF (by kernel_rfl) fun fr hF => ?_
      obtain ⟨x3, hx3, h⟩ := bindE h
      obtain ⟨x4, hx4, h⟩ := bindE h
      refine q_setField (q := x3) (q' := ({ x3 with B := (w64 (s1.1 + 1)) } : D.Gate)) (off := 1) 0 hs hM1 rfl Try.underlying37 ty70 rfl rfl rfl rfl rfl hF rfl rfl rfl rfl (by kernel_rfl) rfl (by kernel_rfl) rfl hx3 rfl hx4 fun w2 S4 fr _ _ hs hp hF => ?_
      have hM1 := hM1.stp hp
      have hs : Sep [SL (α := D.Gate) 70 (.slice pa0 (List.length p0) pc0) x4] w2 S4 := hs
      refine from_end rfl (then_normal ?_)
      refine (wp_pure [(0, .slice pa0 (List.length p0) pc0), (1, .int .i64 (w64 ((w64 (s1.1 + 1)) + 1))), (5, .int .i64 s1.2.1)] hF (by kernel_rfl) fun fr hF => ?_)
      refine blk_normal (then_normal ?_)
      refine (wp_pure [(0, .slice pa0 (List.length p0) pc0), (1, .int .i64 (w64 ((w64 (s1.1 + 1)) + 1))), (5, .int .i64 (w64 (s1.2.1 + 1)))] hF (by kernel_rfl) fun fr hF => then_normal ?_)
      exact ⟨_, (Option.some.inj h).symm, S4, _, hF.sub _ (by kernel_rfl), hM1, hs⟩
    · replace h := iteF hb h
      refine (wp_exit (then_exit (then_exit (blk_exit_eq ?_))))
      obtain rfl := hr1 _ (Option.some.inj h).symm
      exact then_normal ⟨S1, _, hF.sub _ (by kernel_rfl), hM1, hs⟩
  · obtain ⟨S2, F2, hF, hMx, hs⟩ := hM
    have hM0 := hM0.trans hMx
    refine wp_seq (wp_pure [(4, .int .i64 rl1.1)] hF (by kernel_rfl) fun fr hF => then_normal ?_)
    obtain rfl := Option.some.inj h
    exact wp_ret (ret1 rfl hF rfl ⟨_, rfl, rfl, S2, hM0.out, hs⟩)

theorem laws_markCircuit_ok (n : Nat) (p0 : D.Circuit) (p1 : Int) {r : Int × D.Circuit} (h : laws_markCircuit n p0 p1 = some r) {w : World} {S0 F0 : Nat → Prop} {pa0 : Option Addr} {pn0 pc0 : Nat} (hs : Sep [SL (α := D.Gate) 70 (.slice pa0 pn0 pc0) p0.Gates] w S0) (hb : ∀ k, S0 k → k < w.heap.size) (hd : ∀ k, S0 k → F0 k → False) :
    Calls Try.prog 30 [.agg #[.int .i64 p0.Inputs, .slice pa0 pn0 pc0], .int .i64 p1].toArray w fun e w' => ∃ v, e = .returned v ∧ v = .int .i64 r.1 ∧ ∃ S', Stp w S0 w' S' ∧ Sep [SL (α := D.Gate) 70 (.slice pa0 pn0 pc0) r.2.Gates] w' S' := by
  unfold laws_markCircuit at h
  obtain ⟨hpn, hs⟩ := hs.relen 0 rfl
  subst hpn
  have hs : Sep [SL (α := D.Gate) 70 (.slice pa0 (List.length p0.Gates) pc0) p0.Gates] w S0 := hs
  have hM0 : Mem w S0 (fun k => F0 k ∧ k < w.heap.size) w S0 (fun k => F0 k ∧ k < w.heap.size) := Mem.start hb (fun _ h => h.2) (fun k h1 h2 => hd k h1 h2.1)
  refine enter (N := 10) Try.func30 rfl Try.ntmps30 rfl fun fr hF => ?_
  refine wp_seq (wp_text' ?_)
  refine q_box hs hM0 [.int .i64 p0.Inputs, .slice pa0 (List.length p0.Gates) pc0] rfl rfl hF rfl rfl fun b1 w1 S1 fr hs hp hF => ?_
  have hM0 := hM0.stp hp
  have hs : Sep [BX b1 39 [.int .i64 p0.Inputs, .slice pa0 (List.length p0.Gates) pc0], SL (α := D.Gate) 70 (.slice pa0 (List.length p0.Gates) pc0) p0.Gates] w1 S1 := hs
  refine from_pure 1 [(1, .int .i64 p1), (2, .pointer (some ⟨b1, 0, none⟩))] hF (by kernel_rfl) fun fr hF => ?_
  refine from_end rfl (then_normal ?_)
  refine wp_seq (wp_text' ?_)
  refine from_pure 1 [(1, .int .i64 p1), (5, .pointer (some ⟨b1, 1, none⟩))] hF (by kernel_rfl) fun fr hF => ?_
  refine s_loadBox (.slice pa0 (List.length p0.Gates) pc0) ty37 rfl rfl hF rfl (hs.bx 0 rfl) rfl rfl fun fr hF => ?_
  have hs : Sep [SL (α := D.Gate) 70 (.slice pa0 (List.length p0.Gates) pc0) p0.Gates] w1 S1 := Sep.pick [1] hs (by decide) rfl
  refine from_pure 1 [(6, .slice pa0 (List.length p0.Gates) pc0), (7, .int .i64 p1)] hF (by kernel_rfl) fun fr hF => ?_
  obtain ⟨x1, hx1, h⟩ := bindE h
  obtain ⟨A1, R1, hsA, hsR, hdA, hbA, hup⟩ := Sep.call (L1 := [SL (α := D.Gate) 70 (.slice pa0 (List.length p0.Gates) pc0) p0.Gates]) (L2 := []) hs hM0
  refine s_call [.slice pa0 (List.length p0.Gates) pc0, .int .i64 p1] Try.call57 rfl rfl hF rfl (laws_markGateS_ok n p0.Gates p1 hx1 hsA hbA hdA) fun v w2 fr hRes hF => ?_
  obtain ⟨rfl, _, hp, hs⟩ := hRes
  obtain ⟨S2, hp, hs⟩ := hup hp hs
  have hM0 := hM0.stp hp
  have hs : Sep [SL (α := D.Gate) 70 (.slice pa0 (List.length p0.Gates) pc0) x1.2] w2 S2 := hs
  refine from_pure 1 [(1, .int .i64 x1.1)] hF (by kernel_rfl) fun fr hF => ?_
  refine from_end rfl (then_normal ?_)
  refine wp_seq (wp_pure [(4, .int .i64 x1.1)] hF (by kernel_rfl) fun fr hF => then_normal ?_)
  obtain rfl := Option.some.inj h
  exact wp_ret (ret1 rfl hF rfl ⟨_, rfl, rfl, S2, hM0.out, hs⟩)

theorem laws_markBoolS_ok (n : Nat) (p0 : List Bool) (p1 : Int) {r : Int × (List Bool)} (h : laws_markBoolS n p0 p1 = some r) {w : World} {S0 F0 : Nat → Prop} {pa0 : Option Addr} {pn0 pc0 : Nat} (hs : Sep [SL (α := Bool) 4 (.slice pa0 pn0 pc0) p0] w S0) (hb : ∀ k, S0 k → k < w.heap.size) (hd : ∀ k, S0 k → F0 k → False) :
    Calls Try.prog 31 [.slice pa0 pn0 pc0, .int .i64 p1].toArray w fun e w' => ∃ v, e = .returned v ∧ v = .int .i64 r.1 ∧ ∃ S', Stp w S0 w' S' ∧ Sep [SL (α := Bool) 4 (.slice pa0 pn0 pc0) r.2] w' S' := by
  unfold laws_markBoolS at h
  obtain ⟨hpn, hs⟩ := hs.relen 0 rfl
  subst hpn
  have hs : Sep [SL (α := Bool) 4 (.slice pa0 (List.length p0) pc0) p0] w S0 := hs
  have hM0 : Mem w S0 (fun k => F0 k ∧ k < w.heap.size) w S0 (fun k => F0 k ∧ k < w.heap.size) := Mem.start hb (fun _ h => h.2) (fun k h1 h2 => hd k h1 h2.1)
  refine enter (N := 21) Try.func31 rfl Try.ntmps31 rfl fun fr hF => ?_
  refine wp_seq (wp_pure [(0, .slice pa0 (List.length p0) pc0), (1, .int .i64 p1)] hF (by kernel_rfl) fun fr hF => then_normal ?_)
  refine wp_seq ?_
  refine wp_seq (wp_pure [(0, .slice pa0 (List.length p0) pc0), (1, .int .i64 p1), (5, .int .i64 0)] hF (by kernel_rfl) fun fr hF => then_normal ?_)
  obtain ⟨rl1, hit1, h⟩ := bindE h
  have hk1 := h
  refine (wp_cut (M := fun fr w' => ∃ S2 F2, FrS 21 [(1, .int .i64 rl1.1)] fr ∧ Mem w S0 (fun k => F0 k ∧ k < w.heap.size) w' S2 F2 ∧ Sep [SL (α := Bool) 4 (.slice pa0 (List.length p0) pc0) rl1.2] w' S2) (wp_block (wp_iter (Inv := fun s1 fr w' => ∃ S1 F1, FrS 21 [(0, .slice pa0 (List.length p0) pc0), (1, .int .i64 s1.1), (5, .int .i64 s1.2.1)] fr ∧ Mem w S0 (fun k => F0 k ∧ k < w.heap.size) w' S1 F1 ∧ Sep [SL (α := Bool) 4 (.slice pa0 (List.length p0) pc0) s1.2.2] w' S1) hit1 ⟨S0, _, hF.sub _ (by kernel_rfl), (Mem.start hM0.bd hM0.bdF hM0.dj), hs⟩ fun s1 q1 fr w1i hI h hr1 => ?_)) fun fr w1o hM => ?_)
  · obtain ⟨S1, F1, hF, hM1, hs⟩ := hI
    refine wp_seq ?_
    refine wp_seq (wp_pure [(0, .slice pa0 (List.length p0) pc0), (1, .int .i64 s1.1), (5, .int .i64 s1.2.1), (9, .bool (decide (s1.2.1 < (len p0))))] hF (by kernel_rfl) fun fr hF => then_normal ?_)
    refine (wp_if hF (b := (decide (s1.2.1 < (len p0)))) rfl (fun hb => ?_) (fun hb => ?_))
    · replace h := iteT hb h
      refine (wp_skip (then_normal ?_))
      refine wp_seq (wp_block ?_)
      refine wp_seq (wp_text' ?_)
      refine from_pure 3 [(0, .slice pa0 (List.length p0) pc0), (1, .int .i64 s1.1), (5, .int .i64 s1.2.1), (12, .slice pa0 (List.length p0) pc0), (13, .int .i64 s1.2.1), (14, .int .i64 s1.1)] hF (by kernel_rfl) fun fr hF => ?_
      obtain ⟨x1, hx1, h⟩ := bindE h
      refine s_rem rfl rfl hF rfl rfl hx1 fun fr hF => ?_
      refine from_pure 1 [(0, .slice pa0 (List.length p0) pc0), (1, .int .i64 s1.1), (5, .int .i64 s1.2.1), (12, .slice pa0 (List.length p0) pc0), (13, .int .i64 s1.2.1), (16, .bool (x1 == 0))] hF (by kernel_rfl) fun fr hF => ?_
      obtain ⟨x2, hx2, h⟩ := bindE h
      refine q_set (q := (x1 == 0)) 0 hs hM1 rfl Try.underlying54 ty4 rfl rfl rfl rfl hF rfl rfl (by simp) rfl rfl hx2 fun w1 S3 fr _ hs hp hF => ?_
      have hM1 := hM1.stp hp
      have hs : Sep [SL (α := Bool) 4 (.slice pa0 (List.length p0) pc0) x2] w1 S3 := hs
      refine from_end rfl (then_normal ?_)
      refine (wp_pure [(0, .slice pa0 (List.length p0) pc0), (1, .int .i64 (w64 (s1.1 + 1))), (5, .int .i64 s1.2.1)] hF (by kernel_rfl) fun fr hF => ?_)
      refine blk_normal (then_normal ?_)
      refine (wp_pure [(0, .slice pa0 (List.length p0) pc0), (1, .int .i64 (w64 (s1.1 + 1))), (5, .int .i64 (w64 (s1.2.1 + 1)))] hF (by kernel_rfl) fun fr hF => then_normal ?_)
      exact ⟨_, (Option.some.inj h).symm, S3, _, hF.sub _ (by kernel_rfl), hM1, hs⟩
    · replace h := iteF hb h
      refine (wp_exit (then_exit (then_exit (blk_exit_eq ?_))))
      obtain rfl := hr1 _ (Option.some.inj h).symm
      exact then_normal ⟨S1, _, hF.sub _ (by kernel_rfl), hM1, hs⟩
  · obtain ⟨S2, F2, hF, hMx, hs⟩ := hM
    have hM0 := hM0.trans hMx
    refine wp_seq (wp_pure [(4, .int .i64 rl1.1)] hF (by kernel_rfl) fun fr hF => then_normal ?_)
    obtain rfl := Option.some.inj h
    exact wp_ret (ret1 rfl hF rfl ⟨_, rfl, rfl, S2, hM0.out, hs⟩)

theorem laws_heldBoolS_ok (n : Nat) (p0 : List Bool) (p1 : Int) {r : Int} (h : laws_heldBoolS n p0 p1 = some r) {w : World} {G0 : Nat → Prop} {va0 : Value} (ra0 : RV w G0 va0 p0) :
    Calls Try.prog 32 [va0, .int .i64 p1].toArray w fun e w' => ∃ v, e = .returned v ∧ v = .int .i64 r ∧ Chg Non w w' := by
  unfold laws_heldBoolS at h
  have hs := Sep.nil w Non
  have hM0 : Mem w Non (fun k => (G0 k) ∧ k < w.heap.size) w Non (fun k => (G0 k) ∧ k < w.heap.size) := Mem.start (fun _ h => h.elim) (fun _ h => h.2) (fun _ h => h.elim)
  have ra0 := ra0.sub (F' := (fun k => (G0 k) ∧ k < w.heap.size)) (fun k hk h => ⟨h, hk⟩)
  obtain ⟨a1, c1, rfl, -⟩ := ra0.slice
  refine enter (N := 23) Try.func32 rfl Try.ntmps32 rfl fun fr hF => ?_
  refine wp_seq (wp_pure [(0, .slice a1 (List.length p0) c1), (1, .int .i64 p1)] hF (by kernel_rfl) fun fr hF => then_normal ?_)
  refine wp_seq ?_
  refine wp_seq (wp_pure [(0, .slice a1 (List.length p0) c1), (1, .int .i64 p1), (5, .int .i64 0)] hF (by kernel_rfl) fun fr hF => then_normal ?_)
  obtain ⟨rl1, hit1, h⟩ := bindE h
  have hk1 := h
  refine (wp_cut (M := fun fr w' => ∃ s, rl1 = .inl s ∧ ∃ S2 F2, FrS 23 [(1, .int .i64 s)] fr ∧ Mem w Non (fun k => (G0 k) ∧ k < w.heap.size) w' S2 F2 ∧ Sep [] w' S2) (wp_block (wp_iter (Inv := fun s1 fr w' => ∃ S1 F1, FrS 23 [(0, .slice a1 (List.length p0) c1), (1, .int .i64 s1.1), (5, .int .i64 s1.2)] fr ∧ Mem w Non (fun k => (G0 k) ∧ k < w.heap.size) w' S1 F1 ∧ Sep [] w' S1) hit1 ⟨Non, _, hF.sub _ (by kernel_rfl), (Mem.start hM0.bd hM0.bdF hM0.dj), hs⟩ fun s1 q1 fr w1i hI h hr1 => ?_)) fun fr w1o hM => ?_)
  · obtain ⟨S1, F1, hF, hM1, hs⟩ := hI
    have ra0 := ra0.mem hM1
    refine wp_seq ?_
    refine wp_seq (wp_pure [(0, .slice a1 (List.length p0) c1), (1, .int .i64 s1.1), (5, .int .i64 s1.2), (9, .bool (decide (s1.2 < (len p0))))] hF (by kernel_rfl) fun fr hF => then_normal ?_)
    refine (wp_if hF (b := (decide (s1.2 < (len p0)))) rfl (fun hb => ?_) (fun hb => ?_))
    · replace h := iteT hb h
      refine (wp_skip (then_normal ?_))
      refine wp_seq (wp_block ?_)
      refine wp_seq ?_
      refine wp_seq (wp_text' ?_)
      refine from_pure 2 [(0, .slice a1 (List.length p0) c1), (1, .int .i64 s1.1), (5, .int .i64 s1.2), (12, .slice a1 (List.length p0) c1), (13, .int .i64 s1.2)] hF (by kernel_rfl) fun fr hF => ?_
      obtain ⟨x1, hx1, h⟩ := bindE h
      refine s_elemF (z := x1) (.bool x1) ty4 Try.underlying54 rfl rfl rfl rfl rfl hF rfl (ra0) rfl (get?_nn hx1) (get?_at hx1) rfl fun p fr hF => ?_
      refine from_pure 1 [(0, .slice a1 (List.length p0) c1), (1, .int .i64 s1.1), (5, .int .i64 s1.2), (15, .bool x1), (16, .int .i64 s1.1)] hF (by kernel_rfl) fun fr hF => ?_
      obtain ⟨x2, hx2, h⟩ := bindE h
      refine s_rem rfl rfl hF rfl rfl hx2 fun fr hF => ?_
      refine from_pure 2 [(0, .slice a1 (List.length p0) c1), (1, .int .i64 s1.1), (5, .int .i64 s1.2), (19, .bool (!(x1 == (x2 == 0))))] hF (by kernel_rfl) fun fr hF => ?_
      refine from_end rfl (then_normal ?_)
      refine (wp_if hF (b := (!(x1 == (x2 == 0)))) rfl (fun hb => ?_) (fun hb => ?_))
      · replace h := iteT hb h
        refine wp_seq (wp_pure [(4, .int .i64 (-1))] hF (by kernel_rfl) fun fr hF => then_normal ?_)
        obtain rfl := hr1 _ (Option.some.inj h).symm
        obtain rfl := Option.some.inj hk1
        exact wp_ret (then_ret (blk_ret (then_ret (then_ret (blk_ret (then_ret (ret1 rfl hF rfl ⟨_, rfl, rfl, (hM0.trans hM1).chg⟩)))))))
      · replace h := iteF hb h
        refine (wp_skip (then_normal ?_))
        refine (wp_pure [(0, .slice a1 (List.length p0) c1), (1, .int .i64 (w64 (s1.1 + 1))), (5, .int .i64 s1.2)] hF (by kernel_rfl) fun fr hF => ?_)
        refine blk_normal (then_normal ?_)
        refine (wp_pure [(0, .slice a1 (List.length p0) c1), (1, .int .i64 (w64 (s1.1 + 1))), (5, .int .i64 (w64 (s1.2 + 1)))] hF (by kernel_rfl) fun fr hF => then_normal ?_)
        exact ⟨_, (Option.some.inj h).symm, S1, _, hF.sub _ (by kernel_rfl), hM1, hs⟩
    · replace h := iteF hb h
      refine (wp_exit (then_exit (then_exit (blk_exit_eq ?_))))
      obtain rfl := hr1 _ (Option.some.inj h).symm
      exact then_normal ⟨_, rfl, S1, _, hF.sub _ (by kernel_rfl), hM1, hs⟩
  · obtain ⟨s1r, rfl, hM⟩ := hM
    obtain ⟨S2, F2, hF, hMx, hs⟩ := hM
    have hM0 := hM0.trans hMx
    refine wp_seq (wp_pure [(4, .int .i64 s1r)] hF (by kernel_rfl) fun fr hF => then_normal ?_)
    obtain rfl := Option.some.inj h
    exact wp_ret (ret1 rfl hF rfl ⟨_, rfl, rfl, hM0.chg⟩)

theorem laws_FnExactEvalCircuit_ok (n : Nat) (p0 : D.Circuit) (p1 : List Bool) {r : Bool} (h : laws_FnExactEvalCircuit n p0 p1 = some r) {w : World} {G0 : Nat → Prop} {va0 : Value} (ra0 : RV w G0 va0 p0) {G1 : Nat → Prop} {va1 : Value} (ra1 : RV w G1 va1 p1) :
    Calls Try.prog 7 [va0, va1].toArray w fun e w' => ∃ v, e = .returned v ∧ v = .bool r ∧ Chg Non w w' := by
  unfold laws_FnExactEvalCircuit at h
  have hs := Sep.nil w Non
  have hM0 : Mem w Non (fun k => (G0 k ∨ G1 k) ∧ k < w.heap.size) w Non (fun k => (G0 k ∨ G1 k) ∧ k < w.heap.size) := Mem.start (fun _ h => h.elim) (fun _ h => h.2) (fun _ h => h.elim)
  have ra0 := ra0.sub (F' := (fun k => (G0 k ∨ G1 k) ∧ k < w.heap.size)) (fun k hk h => ⟨.inl h, hk⟩)
  obtain ⟨v1, rfl, r1⟩ := RV.Circuit ra0
  obtain ⟨a1, c1, rfl, -⟩ := r1.slice
  have ra1 := ra1.sub (F' := (fun k => (G0 k ∨ G1 k) ∧ k < w.heap.size)) (fun k hk h => ⟨.inr (h), hk⟩)
  obtain ⟨a2, c2, rfl, -⟩ := ra1.slice
  refine enter (N := 90) Try.func7 rfl Try.ntmps7 rfl fun fr hF => ?_
  refine wp_seq (wp_text' ?_)
  refine q_box hs hM0 [.int .i64 p0.Inputs, .slice a1 (List.length p0.Gates) c1] rfl rfl hF rfl rfl fun b1 w1 S1 fr hs hp hF => ?_
  have r1 := r1.stp hM0 hp
  have ra1 := ra1.stp hM0 hp
  have hM0 := hM0.stp hp
  have hs : Sep [BX b1 34 [.int .i64 p0.Inputs, .slice a1 (List.length p0.Gates) c1]] w1 S1 := hs
  refine from_pure 1 [(1, .slice a2 (List.length p1) c2), (2, .pointer (some ⟨b1, 0, none⟩))] hF (by kernel_rfl) fun fr hF => ?_
  refine from_end rfl (then_normal ?_)
  refine wp_seq ?_
  refine wp_seq (wp_pure [(1, .slice a2 (List.length p1) c2), (2, .pointer (some ⟨b1, 0, none⟩)), (16, .bool (decide ((len p1) > 1048576)))] hF (by kernel_rfl) fun fr hF => then_normal ?_)
  refine (wp_if hF (b := (decide ((len p1) > 1048576))) rfl (fun hb => ?_) (fun hb => ?_))
  · replace h := iteT hb h
    have hs : Sep [] w1 S1 := Sep.pick [] hs (by decide) rfl
    refine wp_seq (wp_pure [(4, .bool true)] hF (by kernel_rfl) fun fr hF => then_normal ?_)
    obtain rfl := Option.some.inj h
    exact wp_ret (then_ret (ret1 rfl hF rfl ⟨_, rfl, rfl, hM0.chg⟩))
  · replace h := iteF hb h
    refine (wp_skip (then_normal ?_))
    refine wp_seq (wp_pure [(1, .slice a2 (List.length p1) c2), (2, .pointer (some ⟨b1, 0, none⟩)), (5, .int .i64 1048576)] hF (by kernel_rfl) fun fr hF => then_normal ?_)
    refine wp_seq (wp_text' ?_)
    refine s_loadBoxS ty34 rfl rfl hF rfl (hs.bx 0 rfl) rfl rfl fun fr hF => ?_
    refine from_pure 1 [(1, .slice a2 (List.length p1) c2), (2, .pointer (some ⟨b1, 0, none⟩)), (17, .agg #[.int .i64 p0.Inputs, .slice a1 (List.length p0.Gates) c1]), (18, .int .i64 1048576)] hF (by kernel_rfl) fun fr hF => ?_
    obtain ⟨x1, hx1, h⟩ := bindE h
    refine s_call [.agg #[.int .i64 p0.Inputs, .slice a1 (List.length p0.Gates) c1], .int .i64 1048576] Try.call16 rfl rfl hF rfl (laws_szCircuit_ok p0 1048576 hx1 (RV.mk_Circuit p0 (r1))) fun v w2 fr hRes hF => ?_
    obtain ⟨rfl, hc⟩ := hRes
    have ra1 := ra1.ext hc
    have r1 := r1.ext hc
    have hs := hs.ext hc
    have hM0 := hM0.ext hc
    refine from_pure 1 [(1, .slice a2 (List.length p1) c2), (2, .pointer (some ⟨b1, 0, none⟩)), (5, .int .i64 x1)] hF (by kernel_rfl) fun fr hF => ?_
    refine from_end rfl (then_normal ?_)
    refine wp_seq ?_
    refine wp_seq (wp_pure [(1, .slice a2 (List.length p1) c2), (2, .pointer (some ⟨b1, 0, none⟩)), (21, .bool (decide (x1 < 0)))] hF (by kernel_rfl) fun fr hF => then_normal ?_)
    refine (wp_if hF (b := (decide (x1 < 0))) rfl (fun hb => ?_) (fun hb => ?_))
    · replace h := iteT hb h
      have hs : Sep [] w2 S1 := Sep.pick [] hs (by decide) rfl
      refine wp_seq (wp_pure [(4, .bool true)] hF (by kernel_rfl) fun fr hF => then_normal ?_)
      obtain rfl := Option.some.inj h
      exact wp_ret (then_ret (ret1 rfl hF rfl ⟨_, rfl, rfl, hM0.chg⟩))
    · replace h := iteF hb h
      refine (wp_skip (then_normal ?_))
      refine wp_seq (wp_text' ?_)
      refine s_loadBoxS ty34 rfl rfl hF rfl (hs.bx 0 rfl) rfl rfl fun fr hF => ?_
      obtain ⟨x2, hx2, h⟩ := bindE h
      refine s_call [.agg #[.int .i64 p0.Inputs, .slice a1 (List.length p0.Gates) c1]] Try.call18 rfl rfl hF rfl (laws_toCircuit_ok n p0 hx2 (RV.mk_Circuit p0 (r1))) fun v w3 fr hRes hF => ?_
      obtain ⟨a3, c3, rfl, _, hp, hs2⟩ := hRes
      obtain ⟨S2, hp, hs⟩ := hs.got hM0 hp hs2
      have ra1 := ra1.stp hM0 hp
      have r1 := r1.stp hM0 hp
      have hM0 := hM0.stp hp
      have hs : Sep [SL (α := D.Gate) 70 (.slice a3 (List.length x2.Gates) c3) x2.Gates, BX b1 34 [.int .i64 p0.Inputs, .slice a1 (List.length p0.Gates) c1]] w3 S2 := hs
      refine from_pure 1 [(1, .slice a2 (List.length p1) c2), (2, .pointer (some ⟨b1, 0, none⟩)), (23, .agg #[.int .i64 x2.Inputs, .slice a3 (List.length x2.Gates) c3]), (24, .slice a2 (List.length p1) c2)] hF (by kernel_rfl) fun fr hF => ?_
      obtain ⟨x3, hx3, h⟩ := bindE h
      refine s_call [.slice a2 (List.length p1) c2] Try.call27 rfl rfl hF rfl (laws_toBoolS_ok n p1 hx3 (ra1)) fun v w4 fr hRes hF => ?_
      obtain ⟨a4, c4, rfl, _, hp, hs2⟩ := hRes
      obtain ⟨S3, hp, hs⟩ := hs.got hM0 hp hs2
      have ra1 := ra1.stp hM0 hp
      have r1 := r1.stp hM0 hp
      have hM0 := hM0.stp hp
      have hs : Sep [SL (α := Bool) 4 (.slice a4 (List.length x3) c4) x3, SL (α := D.Gate) 70 (.slice a3 (List.length x2.Gates) c3) x2.Gates, BX b1 34 [.int .i64 p0.Inputs, .slice a1 (List.length p0.Gates) c1]] w4 S3 := hs
      obtain ⟨x4, hx4, h⟩ := bindE h
      refine s_call [.agg #[.int .i64 x2.Inputs, .slice a3 (List.length x2.Gates) c3], .slice a4 (List.length x3) c4] Try.call26 rfl rfl hF rfl (spec_EvalCircuit_ok n x2 x3 hx4 (RV.mk_Circuit x2 (RV.any (hs.rv 1 rfl))) (hs.rv 0 rfl)) fun v w5 fr hRes hF => ?_
      obtain ⟨a5, c5, rfl, _, hp, hs2⟩ := hRes
      obtain ⟨S4, hp, hs⟩ := hs.got hM0 hp hs2
      have ra1 := ra1.stp hM0 hp
      have r1 := r1.stp hM0 hp
      have hM0 := hM0.stp hp
      have hs : Sep [SL (α := Bool) 4 (.slice a5 (List.length x4) c5) x4, SL (α := Bool) 4 (.slice a4 (List.length x3) c4) x3, SL (α := D.Gate) 70 (.slice a3 (List.length x2.Gates) c3) x2.Gates, BX b1 34 [.int .i64 p0.Inputs, .slice a1 (List.length p0.Gates) c1]] w5 S4 := hs
      have hs : Sep [SL (α := Bool) 4 (.slice a5 (List.length x4) c5) x4, BX b1 34 [.int .i64 p0.Inputs, .slice a1 (List.length p0.Gates) c1]] w5 S4 := Sep.pick [0, 3] hs (by decide) rfl
      refine from_pure 1 [(1, .slice a2 (List.length p1) c2), (2, .pointer (some ⟨b1, 0, none⟩)), (6, .slice a5 (List.length x4) c5)] hF (by kernel_rfl) fun fr hF => ?_
      refine from_end rfl (then_normal ?_)
      refine wp_seq (wp_text' ?_)
      refine s_loadBoxS ty34 rfl rfl hF rfl (hs.bx 1 rfl) rfl rfl fun fr hF => ?_
      obtain ⟨x5, hx5, h⟩ := bindE h
      refine s_call [.agg #[.int .i64 p0.Inputs, .slice a1 (List.length p0.Gates) c1]] Try.call18 rfl rfl hF rfl (laws_toCircuit_ok n p0 hx5 (RV.mk_Circuit p0 (r1))) fun v w6 fr hRes hF => ?_
      obtain ⟨a6, c6, rfl, _, hp, hs2⟩ := hRes
      obtain ⟨S5, hp, hs⟩ := hs.got hM0 hp hs2
      have ra1 := ra1.stp hM0 hp
      have r1 := r1.stp hM0 hp
      have hM0 := hM0.stp hp
      have hs : Sep [SL (α := D.Gate) 70 (.slice a6 (List.length x5.Gates) c6) x5.Gates, SL (α := Bool) 4 (.slice a5 (List.length x4) c5) x4, BX b1 34 [.int .i64 p0.Inputs, .slice a1 (List.length p0.Gates) c1]] w6 S5 := hs
      refine q_alloc (z := .agg #[.int .i64 0, .slice none (List.length ([] : List D.Gate)) 0]) hs hM0 [.int .i64 0, .slice none (List.length ([] : List D.Gate)) 0] rfl rfl hF (by kernel_rfl) rfl fun b2 w7 S6 fr hs hp hF => ?_
      have ra1 := ra1.stp hM0 hp
      have r1 := r1.stp hM0 hp
      have hM0 := hM0.stp hp
      have hs : Sep [BX b2 39 [.int .i64 0, .slice none (List.length ([] : List D.Gate)) 0], SL (α := D.Gate) 70 (.slice a6 (List.length x5.Gates) c6) x5.Gates, SL (α := Bool) 4 (.slice a5 (List.length x4) c5) x4, BX b1 34 [.int .i64 p0.Inputs, .slice a1 (List.length p0.Gates) c1]] w7 S6 := hs
      refine q_storeBoxS 0 hs hM0 rfl [.int .i64 x5.Inputs, .slice a6 (List.length x5.Gates) c6] rfl hF rfl rfl (by kernel_rfl) rfl rfl rfl fun w8 S7 hs hp hF => ?_
      have ra1 := ra1.stp hM0 hp
      have r1 := r1.stp hM0 hp
      have hM0 := hM0.stp hp
      have hs : Sep [BX b2 39 [.int .i64 x5.Inputs, .slice a6 (List.length x5.Gates) c6], SL (α := D.Gate) 70 (.slice a6 (List.length x5.Gates) c6) x5.Gates, SL (α := Bool) 4 (.slice a5 (List.length x4) c5) x4, BX b1 34 [.int .i64 p0.Inputs, .slice a1 (List.length p0.Gates) c1]] w8 S7 := hs
      refine from_end rfl (then_normal ?_)
      refine wp_seq (wp_text' ?_)
      refine from_pure 1 [(1, .slice a2 (List.length p1) c2), (2, .pointer (some ⟨b1, 0, none⟩)), (6, .slice a5 (List.length x4) c5), (7, .pointer (some ⟨b2, 0, none⟩)), (29, .slice a2 (List.length p1) c2)] hF (by kernel_rfl) fun fr hF => ?_
      obtain ⟨x6, hx6, h⟩ := bindE h
      refine s_call [.slice a2 (List.length p1) c2] Try.call27 rfl rfl hF rfl (laws_toBoolS_ok n p1 hx6 (ra1)) fun v w9 fr hRes hF => ?_
      obtain ⟨a7, c7, rfl, _, hp, hs2⟩ := hRes
      obtain ⟨S8, hp, hs⟩ := hs.got hM0 hp hs2
      have ra1 := ra1.stp hM0 hp
      have r1 := r1.stp hM0 hp
      have hM0 := hM0.stp hp
      have hs : Sep [SL (α := Bool) 4 (.slice a7 (List.length x6) c7) x6, BX b2 39 [.int .i64 x5.Inputs, .slice a6 (List.length x5.Gates) c6], SL (α := D.Gate) 70 (.slice a6 (List.length x5.Gates) c6) x5.Gates, SL (α := Bool) 4 (.slice a5 (List.length x4) c5) x4, BX b1 34 [.int .i64 p0.Inputs, .slice a1 (List.length p0.Gates) c1]] w9 S8 := hs
      refine from_pure 1 [(1, .slice a2 (List.length p1) c2), (2, .pointer (some ⟨b1, 0, none⟩)), (6, .slice a5 (List.length x4) c5), (7, .pointer (some ⟨b2, 0, none⟩)), (8, .slice a7 (List.length x6) c7)] hF (by kernel_rfl) fun fr hF => ?_
      refine from_end rfl (then_normal ?_)
      refine wp_seq (wp_text' ?_)
      refine s_loadBoxS ty39 rfl rfl hF rfl (hs.bx 1 rfl) rfl rfl fun fr hF => ?_
      refine from_pure 1 [(1, .slice a2 (List.length p1) c2), (2, .pointer (some ⟨b1, 0, none⟩)), (6, .slice a5 (List.length x4) c5), (7, .pointer (some ⟨b2, 0, none⟩)), (8, .slice a7 (List.length x6) c7), (31, .agg #[.int .i64 x5.Inputs, .slice a6 (List.length x5.Gates) c6]), (32, .slice a7 (List.length x6) c7)] hF (by kernel_rfl) fun fr hF => ?_
      obtain ⟨x7, hx7, h⟩ := bindE h
      refine s_call [.agg #[.int .i64 x5.Inputs, .slice a6 (List.length x5.Gates) c6], .slice a7 (List.length x6) c7] Try.call28 rfl rfl hF rfl (impl_EvalCircuit_ok n x5 x6 hx7 (RV.mk_Circuit x5 (RV.any (hs.rv 2 rfl))) (hs.rv 0 rfl)) fun v w10 fr hRes hF => ?_
      obtain ⟨a8, c8, rfl, _, hp, hs2⟩ := hRes
      obtain ⟨S9, hp, hs⟩ := hs.got hM0 hp hs2
      have ra1 := ra1.stp hM0 hp
      have r1 := r1.stp hM0 hp
      have hM0 := hM0.stp hp
      have hs : Sep [SL (α := Bool) 4 (.slice a8 (List.length x7) c8) x7, SL (α := Bool) 4 (.slice a7 (List.length x6) c7) x6, BX b2 39 [.int .i64 x5.Inputs, .slice a6 (List.length x5.Gates) c6], SL (α := D.Gate) 70 (.slice a6 (List.length x5.Gates) c6) x5.Gates, SL (α := Bool) 4 (.slice a5 (List.length x4) c5) x4, BX b1 34 [.int .i64 p0.Inputs, .slice a1 (List.length p0.Gates) c1]] w10 S9 := hs
      refine from_pure 1 [(1, .slice a2 (List.length p1) c2), (2, .pointer (some ⟨b1, 0, none⟩)), (6, .slice a5 (List.length x4) c5), (7, .pointer (some ⟨b2, 0, none⟩)), (8, .slice a7 (List.length x6) c7), (9, .slice a8 (List.length x7) c8)] hF (by kernel_rfl) fun fr hF => ?_
      refine from_end rfl (then_normal ?_)
      refine wp_seq ?_
      refine wp_seq (wp_text' ?_)
      refine from_pure 2 [(1, .slice a2 (List.length p1) c2), (2, .pointer (some ⟨b1, 0, none⟩)), (6, .slice a5 (List.length x4) c5), (7, .pointer (some ⟨b2, 0, none⟩)), (8, .slice a7 (List.length x6) c7), (9, .slice a8 (List.length x7) c8), (34, .slice a8 (List.length x7) c8), (35, .slice a5 (List.length x4) c5)] hF (by kernel_rfl) fun fr hF => ?_
      obtain ⟨x8, hx8, h⟩ := bindE h
      refine s_call [.slice a8 (List.length x7) c8, .slice a5 (List.length x4) c5] Try.call29 rfl rfl hF rfl (laws_eqBoolS_ok n x7 x4 hx8 (hs.rv 0 rfl) (hs.rv 4 rfl)) fun v w11 fr hRes hF => ?_
      obtain ⟨rfl, hc⟩ := hRes
      have ra1 := ra1.ext hc
      have r1 := r1.ext hc
      have hs := hs.ext hc
      have hM0 := hM0.ext hc
      refine from_pure 1 [(1, .slice a2 (List.length p1) c2), (2, .pointer (some ⟨b1, 0, none⟩)), (6, .slice a5 (List.length x4) c5), (7, .pointer (some ⟨b2, 0, none⟩)), (8, .slice a7 (List.length x6) c7), (9, .slice a8 (List.length x7) c8), (37, .bool (!x8))] hF (by kernel_rfl) fun fr hF => ?_
      refine from_end rfl (then_normal ?_)
      refine (wp_if hF (b := (!x8)) rfl (fun hb => ?_) (fun hb => ?_))
      · replace h := iteT hb h
        have hs : Sep [] w11 S9 := Sep.pick [] hs (by decide) rfl
        refine wp_seq (wp_pure [(4, .bool false)] hF (by kernel_rfl) fun fr hF => then_normal ?_)
        obtain rfl := Option.some.inj h
        exact wp_ret (then_ret (ret1 rfl hF rfl ⟨_, rfl, rfl, hM0.chg⟩))
      · replace h := iteF hb h
        refine (wp_skip (then_normal ?_))
        refine wp_seq ?_
        obtain ⟨x9, hx9, h⟩ := bindE h
        obtain ⟨x10, hx10, h⟩ := bindE h
        refine wp_seq (region_bm 5 [0, 0, 2, 7, 15] [false, false, false, false, true]
            [.eq (.agg #[.int .i64 x5.Inputs, .slice a6 (List.length x5.Gates) c6]), .eq (.agg #[.int .i64 p0.Inputs, .slice a1 (List.length p0.Gates) c1]), .is fun v w => RV w (fun k => k < w.heap.size) v (x9 : D.Circuit), .eq (.bool x10), .eq (.bool (!x10))]
            [(1, .slice a2 (List.length p1) c2), (2, .pointer (some ⟨b1, 0, none⟩)), (6, .slice a5 (List.length x4) c5), (7, .pointer (some ⟨b2, 0, none⟩)), (8, .slice a7 (List.length x6) c7), (9, .slice a8 (List.length x7) c8), (42, .bool (!x10))] mix hF (by kernel_rfl) (by kernel_rfl) (by kernel_rfl) (by kernel_rfl) ⟨Pd.monoO_eq, Pd.monoO_eq, (Pd.monoO_is mono_rvb), Pd.monoO_eq, trivial⟩ (fun ow hG => ⟨np_to ow (np_loadBoxS hG hF ty39 rfl rfl (hs.bx 2 rfl) rfl rfl rfl rfl), np_to ow (np_loadBoxS hG hF ty34 rfl rfl (hs.bx 5 rfl) rfl rfl rfl rfl), np_to ow (np_callI [.inl (.agg #[.int .i64 p0.Inputs, .slice a1 (List.length p0.Gates) c1])] hG hF Try.call18 rfl rfl (by kernel_rfl) (fun w vs hC hg ha => by obtain ⟨_, rfl, rfl⟩ := ha; exact (laws_toCircuit_ok n p0 hx9 ((RV.mk_Circuit p0 (r1)).ext hC)).mono fun e w' ⟨v, he, a0, c0, hv, _, hp, ho⟩ => ⟨_, he, hp.chg, by rw [hv]; exact (show RV w' (fun k => k < w'.heap.size) _ (x9 : D.Circuit) from RV.mk_Circuit x9 ((ho.rv 0 rfl).sub fun k hk _ => hk))⟩)), np_to ow (np_callI [.inl (.agg #[.int .i64 x5.Inputs, .slice a6 (List.length x5.Gates) c6]), .inr 2] hG hF Try.call20 rfl rfl (by kernel_rfl) (fun w vs hC hg ha => by obtain ⟨_, rfl, vq1, _, rfl, hq1, rfl⟩ := ha; exact (laws_eqCircuit_ok n x5 x9 hx10 ((RV.mk_Circuit x5 (RV.any (hs.rv 3 rfl))).ext hC) (show RV w (fun k => k < w.heap.size) vq1 x9 from hq1)).mono fun e w' ⟨v, he, hv, hc⟩ => ⟨v, he, hc, hv⟩)), trivial⟩) (by kernel_rfl) fun ow fr w12 hF hE hc => ?_)
        have ra1 := ra1.ext hc
        have r1 := r1.ext hc
        have hs := hs.ext hc
        have hM0 := hM0.ext hc
        refine from_end rfl (then_normal ?_)
        refine (wp_if hF (b := (!x10)) rfl (fun hb => ?_) (fun hb => ?_))
        · replace h := iteT hb h
          have hs : Sep [] w12 S9 := Sep.pick [] hs (by decide) rfl
          refine wp_seq (wp_pure [(4, .bool false)] hF (by kernel_rfl) fun fr hF => then_normal ?_)
          obtain rfl := Option.some.inj h
          exact wp_ret (then_ret (ret1 rfl hF rfl ⟨_, rfl, rfl, hM0.chg⟩))
        · replace h := iteF hb h
          refine (wp_skip (then_normal ?_))
          refine wp_seq ?_
          refine wp_seq (wp_text' ?_)
          refine from_pure 2 [(1, .slice a2 (List.length p1) c2), (2, .pointer (some ⟨b1, 0, none⟩)), (6, .slice a5 (List.length x4) c5), (7, .pointer (some ⟨b2, 0, none⟩)), (8, .slice a7 (List.length x6) c7), (9, .slice a8 (List.length x7) c8), (43, .slice a7 (List.length x6) c7), (44, .slice a2 (List.length p1) c2)] hF (by kernel_rfl) fun fr hF => ?_
          obtain ⟨x11, hx11, h⟩ := bindE h
          refine s_call [.slice a2 (List.length p1) c2] Try.call27 rfl rfl hF rfl (laws_toBoolS_ok n p1 hx11 (ra1)) fun v w13 fr hRes hF => ?_
          obtain ⟨a9, c9, rfl, _, hp, hs2⟩ := hRes
          obtain ⟨S10, hp, hs⟩ := hs.got hM0 hp hs2
          have ra1 := ra1.stp hM0 hp
          have r1 := r1.stp hM0 hp
          have hM0 := hM0.stp hp
          have hs : Sep [SL (α := Bool) 4 (.slice a9 (List.length x11) c9) x11, SL (α := Bool) 4 (.slice a8 (List.length x7) c8) x7, SL (α := Bool) 4 (.slice a7 (List.length x6) c7) x6, BX b2 39 [.int .i64 x5.Inputs, .slice a6 (List.length x5.Gates) c6], SL (α := D.Gate) 70 (.slice a6 (List.length x5.Gates) c6) x5.Gates, SL (α := Bool) 4 (.slice a5 (List.length x4) c5) x4, BX b1 34 [.int .i64 p0.Inputs, .slice a1 (List.length p0.Gates) c1]] w13 S10 := hs
          obtain ⟨x12, hx12, h⟩ := bindE h
          refine s_call [.slice a7 (List.length x6) c7, .slice a9 (List.length x11) c9] Try.call29 rfl rfl hF rfl (laws_eqBoolS_ok n x6 x11 hx12 (hs.rv 2 rfl) (hs.rv 0 rfl)) fun v w14 fr hRes hF => ?_
          obtain ⟨rfl, hc⟩ := hRes
          have ra1 := ra1.ext hc
          have r1 := r1.ext hc
          have hs := hs.ext hc
          have hM0 := hM0.ext hc
          have hs : Sep [SL (α := Bool) 4 (.slice a8 (List.length x7) c8) x7, SL (α := Bool) 4 (.slice a7 (List.length x6) c7) x6, BX b2 39 [.int .i64 x5.Inputs, .slice a6 (List.length x5.Gates) c6], SL (α := D.Gate) 70 (.slice a6 (List.length x5.Gates) c6) x5.Gates, SL (α := Bool) 4 (.slice a5 (List.length x4) c5) x4, BX b1 34 [.int .i64 p0.Inputs, .slice a1 (List.length p0.Gates) c1]] w14 S10 := Sep.pick [1, 2, 3, 4, 5, 6] hs (by decide) rfl
          refine from_pure 1 [(1, .slice a2 (List.length p1) c2), (2, .pointer (some ⟨b1, 0, none⟩)), (6, .slice a5 (List.length x4) c5), (7, .pointer (some ⟨b2, 0, none⟩)), (8, .slice a7 (List.length x6) c7), (9, .slice a8 (List.length x7) c8), (47, .bool (!x12))] hF (by kernel_rfl) fun fr hF => ?_
          refine from_end rfl (then_normal ?_)
          refine (wp_if hF (b := (!x12)) rfl (fun hb => ?_) (fun hb => ?_))
          · replace h := iteT hb h
            have hs : Sep [] w14 S10 := Sep.pick [] hs (by decide) rfl
            refine wp_seq (wp_pure [(4, .bool false)] hF (by kernel_rfl) fun fr hF => then_normal ?_)
            obtain rfl := Option.some.inj h
            exact wp_ret (then_ret (ret1 rfl hF rfl ⟨_, rfl, rfl, hM0.chg⟩))
          · replace h := iteF hb h
            refine (wp_skip (then_normal ?_))
            refine wp_seq (wp_pure [(1, .slice a2 (List.length p1) c2), (2, .pointer (some ⟨b1, 0, none⟩)), (6, .slice a5 (List.length x4) c5), (7, .pointer (some ⟨b2, 0, none⟩)), (8, .slice a7 (List.length x6) c7), (9, .slice a8 (List.length x7) c8), (10, .int .i64 1)] hF (by kernel_rfl) fun fr hF => then_normal ?_)
            refine wp_seq (wp_text' ?_)
            refine s_loadBoxS ty39 rfl rfl hF rfl (hs.bx 2 rfl) rfl rfl fun fr hF => ?_
            have hs : Sep [SL (α := Bool) 4 (.slice a8 (List.length x7) c8) x7, SL (α := Bool) 4 (.slice a7 (List.length x6) c7) x6, SL (α := D.Gate) 70 (.slice a6 (List.length x5.Gates) c6) x5.Gates, SL (α := Bool) 4 (.slice a5 (List.length x4) c5) x4, BX b1 34 [.int .i64 p0.Inputs, .slice a1 (List.length p0.Gates) c1]] w14 S10 := Sep.pick [0, 1, 3, 4, 5] hs (by decide) rfl
            refine from_pure 1 [(1, .slice a2 (List.length p1) c2), (2, .pointer (some ⟨b1, 0, none⟩)), (6, .slice a5 (List.length x4) c5), (8, .slice a7 (List.length x6) c7), (9, .slice a8 (List.length x7) c8), (48, .agg #[.int .i64 x5.Inputs, .slice a6 (List.length x5.Gates) c6]), (49, .int .i64 1)] hF (by kernel_rfl) fun fr hF => ?_
            obtain ⟨x13, hx13, h⟩ := bindE h
            have hs : Sep [SL (α := D.Gate) 70 (.slice a6 (List.length x5.Gates) c6) x5.Gates, SL (α := Bool) 4 (.slice a8 (List.length x7) c8) x7, SL (α := Bool) 4 (.slice a7 (List.length x6) c7) x6, SL (α := Bool) 4 (.slice a5 (List.length x4) c5) x4, BX b1 34 [.int .i64 p0.Inputs, .slice a1 (List.length p0.Gates) c1]] w14 S10 := Sep.pick [2, 0, 1, 3, 4] hs (by decide) rfl
            obtain ⟨A1, R1, hsA, hsR, hdA, hbA, hup⟩ := Sep.call (L1 := [SL (α := D.Gate) 70 (.slice a6 (List.length x5.Gates) c6) x5.Gates]) (L2 := [SL (α := Bool) 4 (.slice a8 (List.length x7) c8) x7, SL (α := Bool) 4 (.slice a7 (List.length x6) c7) x6, SL (α := Bool) 4 (.slice a5 (List.length x4) c5) x4, BX b1 34 [.int .i64 p0.Inputs, .slice a1 (List.length p0.Gates) c1]]) hs hM0
            refine s_call [.agg #[.int .i64 x5.Inputs, .slice a6 (List.length x5.Gates) c6], .int .i64 1] Try.call30 rfl rfl hF rfl (laws_markCircuit_ok n x5 1 hx13 hsA hbA hdA) fun v w15 fr hRes hF => ?_
            obtain ⟨rfl, _, hp, hs⟩ := hRes
            obtain ⟨S11, hp, hs⟩ := hup hp hs
            have ra1 := ra1.stp hM0 hp
            have r1 := r1.stp hM0 hp
            have hM0 := hM0.stp hp
            have hs : Sep [SL (α := D.Gate) 70 (.slice a6 (List.length x5.Gates) c6) x13.2.Gates, SL (α := Bool) 4 (.slice a8 (List.length x7) c8) x7, SL (α := Bool) 4 (.slice a7 (List.length x6) c7) x6, SL (α := Bool) 4 (.slice a5 (List.length x4) c5) x4, BX b1 34 [.int .i64 p0.Inputs, .slice a1 (List.length p0.Gates) c1]] w15 S11 := hs
            have hs : Sep [SL (α := Bool) 4 (.slice a8 (List.length x7) c8) x7, SL (α := Bool) 4 (.slice a7 (List.length x6) c7) x6, SL (α := Bool) 4 (.slice a5 (List.length x4) c5) x4, BX b1 34 [.int .i64 p0.Inputs, .slice a1 (List.length p0.Gates) c1]] w15 S11 := Sep.pick [1, 2, 3, 4] hs (by decide) rfl
            refine from_pure 1 [(1, .slice a2 (List.length p1) c2), (2, .pointer (some ⟨b1, 0, none⟩)), (6, .slice a5 (List.length x4) c5), (8, .slice a7 (List.length x6) c7), (9, .slice a8 (List.length x7) c8), (10, .int .i64 x13.1)] hF (by kernel_rfl) fun fr hF => ?_
            refine from_end rfl (then_normal ?_)
            refine wp_seq (wp_text' ?_)
            refine from_pure 2 [(1, .slice a2 (List.length p1) c2), (2, .pointer (some ⟨b1, 0, none⟩)), (6, .slice a5 (List.length x4) c5), (9, .slice a8 (List.length x7) c8), (51, .slice a7 (List.length x6) c7), (52, .int .i64 x13.1)] hF (by kernel_rfl) fun fr hF => ?_
            obtain ⟨x14, hx14, h⟩ := bindE h
            have hs : Sep [SL (α := Bool) 4 (.slice a7 (List.length x6) c7) x6, SL (α := Bool) 4 (.slice a8 (List.length x7) c8) x7, SL (α := Bool) 4 (.slice a5 (List.length x4) c5) x4, BX b1 34 [.int .i64 p0.Inputs, .slice a1 (List.length p0.Gates) c1]] w15 S11 := Sep.pick [1, 0, 2, 3] hs (by decide) rfl
            obtain ⟨A2, R2, hsA, hsR, hdA, hbA, hup⟩ := Sep.call (L1 := [SL (α := Bool) 4 (.slice a7 (List.length x6) c7) x6]) (L2 := [SL (α := Bool) 4 (.slice a8 (List.length x7) c8) x7, SL (α := Bool) 4 (.slice a5 (List.length x4) c5) x4, BX b1 34 [.int .i64 p0.Inputs, .slice a1 (List.length p0.Gates) c1]]) hs hM0
            refine s_call [.slice a7 (List.length x6) c7, .int .i64 x13.1] Try.call31 rfl rfl hF rfl (laws_markBoolS_ok n x6 x13.1 hx14 hsA hbA hdA) fun v w16 fr hRes hF => ?_
            obtain ⟨rfl, _, hp, hs⟩ := hRes
            obtain ⟨S12, hp, hs⟩ := hup hp hs
            have ra1 := ra1.stp hM0 hp
            have r1 := r1.stp hM0 hp
            have hM0 := hM0.stp hp
            have hs : Sep [SL (α := Bool) 4 (.slice a7 (List.length x6) c7) x14.2, SL (α := Bool) 4 (.slice a8 (List.length x7) c8) x7, SL (α := Bool) 4 (.slice a5 (List.length x4) c5) x4, BX b1 34 [.int .i64 p0.Inputs, .slice a1 (List.length p0.Gates) c1]] w16 S12 := hs
            have hs : Sep [SL (α := Bool) 4 (.slice a8 (List.length x7) c8) x7, SL (α := Bool) 4 (.slice a5 (List.length x4) c5) x4, BX b1 34 [.int .i64 p0.Inputs, .slice a1 (List.length p0.Gates) c1]] w16 S12 := Sep.pick [1, 2, 3] hs (by decide) rfl
            refine from_pure 1 [(1, .slice a2 (List.length p1) c2), (2, .pointer (some ⟨b1, 0, none⟩)), (6, .slice a5 (List.length x4) c5), (9, .slice a8 (List.length x7) c8), (10, .int .i64 x14.1)] hF (by kernel_rfl) fun fr hF => ?_
            refine from_end rfl (then_normal ?_)
            refine wp_seq ?_
            obtain ⟨x15, hx15, h⟩ := bindE h
            refine wp_seq (region_b [] [true, true, true, true, true, false, true, true]
                [.eq (.int .i64 x14.1), .eq (.bool (decide (x14.1 < 0))), .eq (.bool (decide (x14.1 < 0))), .eq (.slice a8 (List.length x7) c8), .eq (.slice a5 (List.length x4) c5), .eq (.bool x15), .eq (.bool (!x15)), .eq (.bool ((decide (x14.1 < 0)) || (!x15)))]
                [(1, .slice a2 (List.length p1) c2), (2, .pointer (some ⟨b1, 0, none⟩)), (6, .slice a5 (List.length x4) c5), (9, .slice a8 (List.length x7) c8), (61, .bool ((decide (x14.1 < 0)) || (!x15)))] mix hF (by kernel_rfl) (by kernel_rfl) (by kernel_rfl) ⟨Pd.mono_eq, trivial⟩ (fun hG => ⟨np_call [.slice a8 (List.length x7) c8, .slice a5 (List.length x4) c5] hG hF Try.call29 rfl rfl (fun w hC hg => (laws_eqBoolS_ok n x7 x4 (iteF hg.2 hx15) ((hs.rv 0 rfl).ext hC) ((hs.rv 1 rfl).ext hC)).mono fun e w' ⟨v, he, hv, hc⟩ => ⟨v, he, hc, hv⟩), trivial⟩) (by kernel_rfl) fun fr w17 hF hE hc => then_normal ?_)
            have ra1 := ra1.ext hc
            have r1 := r1.ext hc
            have hs := hs.ext hc
            have hM0 := hM0.ext hc
            refine (wp_if hF (b := ((decide (x14.1 < 0)) || (!x15))) rfl (fun hb => ?_) (fun hb => ?_))
            · replace h := iteT hb h
              have hs : Sep [] w17 S12 := Sep.pick [] hs (by decide) rfl
              refine wp_seq (wp_pure [(4, .bool false)] hF (by kernel_rfl) fun fr hF => then_normal ?_)
              obtain rfl := Option.some.inj h
              exact wp_ret (then_ret (ret1 rfl hF rfl ⟨_, rfl, rfl, hM0.chg⟩))
            · replace h := iteF hb h
              refine (wp_skip (then_normal ?_))
              refine wp_seq (wp_pure [(1, .slice a2 (List.length p1) c2), (2, .pointer (some ⟨b1, 0, none⟩)), (6, .slice a5 (List.length x4) c5), (9, .slice a8 (List.length x7) c8), (11, .int .i64 1)] hF (by kernel_rfl) fun fr hF => then_normal ?_)
              refine wp_seq (wp_text' ?_)
              refine from_pure 2 [(1, .slice a2 (List.length p1) c2), (2, .pointer (some ⟨b1, 0, none⟩)), (6, .slice a5 (List.length x4) c5), (9, .slice a8 (List.length x7) c8), (62, .slice a8 (List.length x7) c8), (63, .int .i64 1)] hF (by kernel_rfl) fun fr hF => ?_
              obtain ⟨x16, hx16, h⟩ := bindE h
              obtain ⟨A3, R3, hsA, hsR, hdA, hbA, hup⟩ := Sep.call (L1 := [SL (α := Bool) 4 (.slice a8 (List.length x7) c8) x7]) (L2 := [SL (α := Bool) 4 (.slice a5 (List.length x4) c5) x4, BX b1 34 [.int .i64 p0.Inputs, .slice a1 (List.length p0.Gates) c1]]) hs hM0
              refine s_call [.slice a8 (List.length x7) c8, .int .i64 1] Try.call31 rfl rfl hF rfl (laws_markBoolS_ok n x7 1 hx16 hsA hbA hdA) fun v w18 fr hRes hF => ?_
              obtain ⟨rfl, _, hp, hs⟩ := hRes
              obtain ⟨S13, hp, hs⟩ := hup hp hs
              have ra1 := ra1.stp hM0 hp
              have r1 := r1.stp hM0 hp
              have hM0 := hM0.stp hp
              have hs : Sep [SL (α := Bool) 4 (.slice a8 (List.length x7) c8) x16.2, SL (α := Bool) 4 (.slice a5 (List.length x4) c5) x4, BX b1 34 [.int .i64 p0.Inputs, .slice a1 (List.length p0.Gates) c1]] w18 S13 := hs
              refine from_pure 1 [(1, .slice a2 (List.length p1) c2), (2, .pointer (some ⟨b1, 0, none⟩)), (6, .slice a5 (List.length x4) c5), (9, .slice a8 (List.length x7) c8), (11, .int .i64 x16.1)] hF (by kernel_rfl) fun fr hF => ?_
              refine from_end rfl (then_normal ?_)
              refine wp_seq (wp_pure [(1, .slice a2 (List.length p1) c2), (2, .pointer (some ⟨b1, 0, none⟩)), (6, .slice a5 (List.length x4) c5), (9, .slice a8 (List.length x7) c8), (11, .int .i64 x16.1), (12, .int .i64 1)] hF (by kernel_rfl) fun fr hF => then_normal ?_)
              refine wp_seq (wp_text' ?_)
              refine from_pure 2 [(1, .slice a2 (List.length p1) c2), (2, .pointer (some ⟨b1, 0, none⟩)), (6, .slice a5 (List.length x4) c5), (9, .slice a8 (List.length x7) c8), (11, .int .i64 x16.1), (65, .slice a8 (List.length x7) c8), (66, .int .i64 1)] hF (by kernel_rfl) fun fr hF => ?_
              obtain ⟨x17, hx17, h⟩ := bindE h
              refine s_call [.slice a8 (List.length x7) c8, .int .i64 1] Try.call32 rfl rfl hF rfl (laws_heldBoolS_ok n x16.2 1 hx17 (hs.rv 0 rfl)) fun v w19 fr hRes hF => ?_
              obtain ⟨rfl, hc⟩ := hRes
              have ra1 := ra1.ext hc
              have r1 := r1.ext hc
              have hs := hs.ext hc
              have hM0 := hM0.ext hc
              refine from_pure 1 [(1, .slice a2 (List.length p1) c2), (2, .pointer (some ⟨b1, 0, none⟩)), (6, .slice a5 (List.length x4) c5), (9, .slice a8 (List.length x7) c8), (11, .int .i64 x16.1), (12, .int .i64 x17)] hF (by kernel_rfl) fun fr hF => ?_
              refine from_end rfl (then_normal ?_)
              refine wp_seq ?_
              refine wp_seq (wp_pure [(1, .slice a2 (List.length p1) c2), (2, .pointer (some ⟨b1, 0, none⟩)), (6, .slice a5 (List.length x4) c5), (9, .slice a8 (List.length x7) c8), (11, .int .i64 x16.1), (12, .int .i64 x17), (69, .bool (decide (x17 < 0)))] hF (by kernel_rfl) fun fr hF => then_normal ?_)
              refine (wp_if hF (b := (decide (x17 < 0))) rfl (fun hb => ?_) (fun hb => ?_))
              · replace h := iteT hb h
                have hs : Sep [] w19 S13 := Sep.pick [] hs (by decide) rfl
                refine wp_seq (wp_pure [(4, .bool false)] hF (by kernel_rfl) fun fr hF => then_normal ?_)
                obtain rfl := Option.some.inj h
                exact wp_ret (then_ret (ret1 rfl hF rfl ⟨_, rfl, rfl, hM0.chg⟩))
              · replace h := iteF hb h
                refine (wp_skip (then_normal ?_))
                refine wp_seq ?_
                refine wp_seq (wp_pure [(1, .slice a2 (List.length p1) c2), (2, .pointer (some ⟨b1, 0, none⟩)), (6, .slice a5 (List.length x4) c5), (9, .slice a8 (List.length x7) c8), (11, .int .i64 x16.1), (72, .bool (x17 != x16.1))] hF (by kernel_rfl) fun fr hF => then_normal ?_)
                refine (wp_if hF (b := (x17 != x16.1)) rfl (fun hb => ?_) (fun hb => ?_))
                · replace h := iteT hb h
                  have hs : Sep [] w19 S13 := Sep.pick [] hs (by decide) rfl
                  refine wp_seq (wp_pure [(4, .bool false)] hF (by kernel_rfl) fun fr hF => then_normal ?_)
                  obtain rfl := Option.some.inj h
                  exact wp_ret (then_ret (ret1 rfl hF rfl ⟨_, rfl, rfl, hM0.chg⟩))
                · replace h := iteF hb h
                  refine (wp_skip (then_normal ?_))
                  refine wp_seq (wp_text' ?_)
                  refine s_loadBoxS ty34 rfl rfl hF rfl (hs.bx 2 rfl) rfl rfl fun fr hF => ?_
                  have hs : Sep [SL (α := Bool) 4 (.slice a8 (List.length x7) c8) x16.2, SL (α := Bool) 4 (.slice a5 (List.length x4) c5) x4] w19 S13 := Sep.pick [0, 1] hs (by decide) rfl
                  obtain ⟨x18, hx18, h⟩ := bindE h
                  refine s_call [.agg #[.int .i64 p0.Inputs, .slice a1 (List.length p0.Gates) c1]] Try.call18 rfl rfl hF rfl (laws_toCircuit_ok n p0 hx18 (RV.mk_Circuit p0 (r1))) fun v w20 fr hRes hF => ?_
                  obtain ⟨a10, c10, rfl, _, hp, hs2⟩ := hRes
                  obtain ⟨S14, hp, hs⟩ := hs.got hM0 hp hs2
                  have ra1 := ra1.stp hM0 hp
                  have r1 := r1.stp hM0 hp
                  have hM0 := hM0.stp hp
                  have hs : Sep [SL (α := D.Gate) 70 (.slice a10 (List.length x18.Gates) c10) x18.Gates, SL (α := Bool) 4 (.slice a8 (List.length x7) c8) x16.2, SL (α := Bool) 4 (.slice a5 (List.length x4) c5) x4] w20 S14 := hs
                  refine from_pure 1 [(6, .slice a5 (List.length x4) c5), (9, .slice a8 (List.length x7) c8), (11, .int .i64 x16.1), (74, .agg #[.int .i64 x18.Inputs, .slice a10 (List.length x18.Gates) c10]), (75, .slice a2 (List.length p1) c2)] hF (by kernel_rfl) fun fr hF => ?_
                  obtain ⟨x19, hx19, h⟩ := bindE h
                  refine s_call [.slice a2 (List.length p1) c2] Try.call27 rfl rfl hF rfl (laws_toBoolS_ok n p1 hx19 (ra1)) fun v w21 fr hRes hF => ?_
                  obtain ⟨a11, c11, rfl, _, hp, hs2⟩ := hRes
                  obtain ⟨S15, hp, hs⟩ := hs.got hM0 hp hs2
                  have ra1 := ra1.stp hM0 hp
                  have hM0 := hM0.stp hp
                  have hs : Sep [SL (α := Bool) 4 (.slice a11 (List.length x19) c11) x19, SL (α := D.Gate) 70 (.slice a10 (List.length x18.Gates) c10) x18.Gates, SL (α := Bool) 4 (.slice a8 (List.length x7) c8) x16.2, SL (α := Bool) 4 (.slice a5 (List.length x4) c5) x4] w21 S15 := hs
                  obtain ⟨x20, hx20, h⟩ := bindE h
                  refine s_call [.agg #[.int .i64 x18.Inputs, .slice a10 (List.length x18.Gates) c10], .slice a11 (List.length x19) c11] Try.call28 rfl rfl hF rfl (impl_EvalCircuit_ok n x18 x19 hx20 (RV.mk_Circuit x18 (RV.any (hs.rv 1 rfl))) (hs.rv 0 rfl)) fun v w22 fr hRes hF => ?_
                  obtain ⟨a12, c12, rfl, _, hp, hs2⟩ := hRes
                  obtain ⟨S16, hp, hs⟩ := hs.got hM0 hp hs2
                  have hM0 := hM0.stp hp
                  have hs : Sep [SL (α := Bool) 4 (.slice a12 (List.length x20) c12) x20, SL (α := Bool) 4 (.slice a11 (List.length x19) c11) x19, SL (α := D.Gate) 70 (.slice a10 (List.length x18.Gates) c10) x18.Gates, SL (α := Bool) 4 (.slice a8 (List.length x7) c8) x16.2, SL (α := Bool) 4 (.slice a5 (List.length x4) c5) x4] w22 S16 := hs
                  have hs : Sep [SL (α := Bool) 4 (.slice a12 (List.length x20) c12) x20, SL (α := Bool) 4 (.slice a8 (List.length x7) c8) x16.2, SL (α := Bool) 4 (.slice a5 (List.length x4) c5) x4] w22 S16 := Sep.pick [0, 3, 4] hs (by decide) rfl
                  refine from_pure 1 [(6, .slice a5 (List.length x4) c5), (9, .slice a8 (List.length x7) c8), (11, .int .i64 x16.1), (13, .slice a12 (List.length x20) c12)] hF (by kernel_rfl) fun fr hF => ?_
                  refine from_end rfl (then_normal ?_)
                  refine wp_seq ?_
                  refine wp_seq (wp_text' ?_)
                  refine from_pure 2 [(9, .slice a8 (List.length x7) c8), (11, .int .i64 x16.1), (78, .slice a12 (List.length x20) c12), (79, .slice a5 (List.length x4) c5)] hF (by kernel_rfl) fun fr hF => ?_
                  obtain ⟨x21, hx21, h⟩ := bindE h
                  refine s_call [.slice a12 (List.length x20) c12, .slice a5 (List.length x4) c5] Try.call29 rfl rfl hF rfl (laws_eqBoolS_ok n x20 x4 hx21 (hs.rv 0 rfl) (hs.rv 2 rfl)) fun v w23 fr hRes hF => ?_
                  obtain ⟨rfl, hc⟩ := hRes
                  have hs := hs.ext hc
                  have hM0 := hM0.ext hc
                  have hs : Sep [SL (α := Bool) 4 (.slice a8 (List.length x7) c8) x16.2] w23 S16 := Sep.pick [1] hs (by decide) rfl
                  refine from_pure 1 [(9, .slice a8 (List.length x7) c8), (11, .int .i64 x16.1), (81, .bool (!x21))] hF (by kernel_rfl) fun fr hF => ?_
                  refine from_end rfl (then_normal ?_)
                  refine (wp_if hF (b := (!x21)) rfl (fun hb => ?_) (fun hb => ?_))
                  · replace h := iteT hb h
                    have hs : Sep [] w23 S16 := Sep.pick [] hs (by decide) rfl
                    refine wp_seq (wp_pure [(4, .bool false)] hF (by kernel_rfl) fun fr hF => then_normal ?_)
                    obtain rfl := Option.some.inj h
                    exact wp_ret (then_ret (ret1 rfl hF rfl ⟨_, rfl, rfl, hM0.chg⟩))
                  · replace h := iteF hb h
                    refine (wp_skip (then_normal ?_))
                    refine wp_seq (wp_pure [(9, .slice a8 (List.length x7) c8), (11, .int .i64 x16.1), (12, .int .i64 1)] hF (by kernel_rfl) fun fr hF => then_normal ?_)
                    refine wp_seq (wp_text' ?_)
                    refine from_pure 2 [(11, .int .i64 x16.1), (82, .slice a8 (List.length x7) c8), (83, .int .i64 1)] hF (by kernel_rfl) fun fr hF => ?_
                    obtain ⟨x22, hx22, h⟩ := bindE h
                    refine s_call [.slice a8 (List.length x7) c8, .int .i64 1] Try.call32 rfl rfl hF rfl (laws_heldBoolS_ok n x16.2 1 hx22 (hs.rv 0 rfl)) fun v w24 fr hRes hF => ?_
                    obtain ⟨rfl, hc⟩ := hRes
                    have hs := hs.ext hc
                    have hM0 := hM0.ext hc
                    have hs : Sep [] w24 S16 := Sep.pick [] hs (by decide) rfl
                    refine from_pure 1 [(11, .int .i64 x16.1), (12, .int .i64 x22)] hF (by kernel_rfl) fun fr hF => ?_
                    refine from_end rfl (then_normal ?_)
                    refine wp_seq ?_
                    refine wp_seq (wp_pure [(11, .int .i64 x16.1), (12, .int .i64 x22), (86, .bool (decide (x22 < 0)))] hF (by kernel_rfl) fun fr hF => then_normal ?_)
                    refine (wp_if hF (b := (decide (x22 < 0))) rfl (fun hb => ?_) (fun hb => ?_))
                    · replace h := iteT hb h
                      refine wp_seq (wp_pure [(4, .bool false)] hF (by kernel_rfl) fun fr hF => then_normal ?_)
                      obtain rfl := Option.some.inj h
                      exact wp_ret (then_ret (ret1 rfl hF rfl ⟨_, rfl, rfl, hM0.chg⟩))
                    · replace h := iteF hb h
                      refine (wp_skip (then_normal ?_))
                      refine wp_seq ?_
                      refine wp_seq (wp_pure [(89, .bool (x22 != x16.1))] hF (by kernel_rfl) fun fr hF => then_normal ?_)
                      refine (wp_if hF (b := (x22 != x16.1)) rfl (fun hb => ?_) (fun hb => ?_))
                      · replace h := iteT hb h
                        refine wp_seq (wp_pure [(4, .bool false)] hF (by kernel_rfl) fun fr hF => then_normal ?_)
                        obtain rfl := Option.some.inj h
                        exact wp_ret (then_ret (ret1 rfl hF rfl ⟨_, rfl, rfl, hM0.chg⟩))
                      · replace h := iteF hb h
                        refine (wp_skip (then_normal ?_))
                        refine wp_seq (wp_pure [(4, .bool true)] hF (by kernel_rfl) fun fr hF => then_normal ?_)
                        obtain rfl := Option.some.inj h
                        exact wp_ret (ret1 rfl hF rfl ⟨_, rfl, rfl, hM0.chg⟩)
end Go.Proofs.Ytfccdlggophhoaa
