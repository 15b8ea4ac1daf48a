/- Printed by gen2.py: the walks. -/
import Derived.Test.YtckeihpjfeonmaaGLt
import Derived.Test.YtckeihpjfeonmaaGLz
import Derived.Test.YtckeihpjfeonmaaDefs
import Derived.Test.YtckeihpjfeonmaaProg
import Derived.KernelRfl
import Derived.DeepKeys4
set_option linter.unusedVariables false
set_option maxRecDepth 100000
namespace Go.Proofs.Ytckeihpjfeonmaa
open Go.GL Go.Maps Go.WideMaps
theorem mix : Try.prog.follows .mixedOrders = true := by kernel_rfl
theorem ty3 : Ty Try.prog 3 Int := ⟨by kernel_rfl, by kernel_rfl⟩
theorem ty4 : Ty Try.prog 4 Bool := ⟨by kernel_rfl, by kernel_rfl⟩
theorem ty22 : Ty Try.prog 22 (List D.Gate) := ⟨by kernel_rfl, by kernel_rfl⟩
theorem ty24 : Ty Try.prog 24 D.Circuit := ⟨by kernel_rfl, by kernel_rfl⟩
theorem ty26 : Ty Try.prog 26 (List D.Gate) := ⟨by kernel_rfl, by kernel_rfl⟩
theorem ty28 : Ty Try.prog 28 D.Circuit := ⟨by kernel_rfl, by kernel_rfl⟩
theorem ty59 : Ty Try.prog 59 D.Gate := ⟨by kernel_rfl, by kernel_rfl⟩
theorem ty81 : Ty Try.prog 81 Int := ⟨by kernel_rfl, by kernel_rfl⟩
theorem ty97 : Ty Try.prog 97 D.Gate := ⟨by kernel_rfl, by kernel_rfl⟩
theorem el59 : ElT Try.prog 59 D.Gate := elT (by kernel_rfl)
theorem eqi59_3 (d : Nat) (a c : Int) (w : World) : (Op.equalIn (d + 1) 3 (.int .i64 a) (.int .i64 c)).run Try.prog w = .ok (a == c) w := by
  unfold Op.equalIn
  simp [run_underlying Try.underlying3]
theorem eqd59 (n : Nat) (x y : D.Gate) (w : World) : (Op.equalIn (n + 1 + 1) 59 (.agg #[.int .i64 x.A, .int .i64 x.B]) (.agg #[.int .i64 y.A, .int .i64 y.B])).run Try.prog w = .ok (decide (x = y)) w := by
  have hs : Try.prog.stoodInHeld 59 = false := by kernel_rfl
  unfold Op.equalIn
  obtain ⟨x0, x1⟩ := x; obtain ⟨y0, y1⟩ := y
  simp only [D.Gate.mk.injEq]
  by_cases h0 : x0 = y0 <;> by_cases h1 : x1 = y1 <;> simp [run_underlying Try.underlying59, hs, eqi59_3, part, h0, h1]
theorem eq59 (x y : D.Gate) (w : World) : (binOp .eql 59 (.agg #[.int .i64 x.A, .int .i64 x.B]) (.agg #[.int .i64 y.A, .int .i64 y.B])).run Try.prog w = .ok (.bool (decide (x = y))) w := by
  have h := eqd59 9998 x y w
  simp only [binOp, Op.equal, Op.maxDepth, Sem.run_bind, Sem.run_pure]
  rw [h]; rfl
theorem eqg59 (x y : Operand) (a b : Array Value) (w : World) : (eqGuard .eql 59 x y (.agg a) (.agg b)).run Try.prog w = .ok () w := by
  have hg : Try.prog.eqGuardType Try.prog.depth 59 = false := by kernel_rfl
  simp [eqGuard, hg]
theorem laidOut : laidOutB Try.prog = true := by kernel_rfl
theorem keyed59 : Keyed Try.prog 59 := Keyed.of_law (deep_law_laid laidOut (m := 3) (by omega) (of_decide_eq_true (by kernel_rfl)) (by kernel_rfl) (by kernel_rfl))
theorem lits3 (n : Nat) {a : Int} (h : (Lit.int .i64 a).wf = true) : Try.prog.keyLits (n + 1) 3 [.int .i64 a] = some [.int .i64 a] := by
  unfold Program.keyLits
  rw [Try.underlying3]
  simp [h]
theorem lits59 (n : Nat) (x : D.Gate) (hA : (Lit.int .i64 x.A).wf = true) (hB : (Lit.int .i64 x.B).wf = true) : Try.prog.keyLits (n + 1 + 1) 59 [.int .i64 x.A, .int .i64 x.B] = some [.int .i64 x.A, .int .i64 x.B] := by
  have hc : Try.prog.cellsOf 59 = 2 := by kernel_rfl
  have hc3 : Try.prog.cellsOf 3 = 1 := by kernel_rfl
  unfold Program.keyLits
  rw [Try.underlying59]
  simp [hc, hc3, lits3 n hA, lits3 n hB]
theorem key59 (x : D.Gate) (hA : (Lit.int .i64 x.A).wf = true) (hB : (Lit.int .i64 x.B).wf = true) : keyOf Try.prog 59 (.agg #[.int .i64 x.A, .int .i64 x.B]) = some (.string (keyBytes [.int .i64 x.A, .int .i64 x.B])) := by
  have h1 : Try.prog.keyType 59 = true := by kernel_rfl
  have h2 : ∀ x : D.Gate, (Value.agg #[.int .i64 x.A, .int .i64 x.B]).formed Try.prog 59 = true := by intro x; kernel_rfl
  obtain ⟨n, hs⟩ : ∃ n, Try.prog.types.size = n + 1 := ⟨Try.prog.types.size - 1, (Nat.succ_pred_eq_of_pos (of_decide_eq_true (by kernel_rfl))).symm⟩
  have hl := lits59 n x hA hB
  unfold keyOf
  rw [Try.underlying59]
  simp only [h1, h2, Bool.and_self, if_true, hs, Value.cells]
  rw [hl]; rfl
theorem back3 (v : Value) (y : Int) (ps : List MemPlace) (h : plainElem (H := Unit) Try.prog 3 v = some (.lit (.int .i64 y), ps)) : v = .int .i64 y := by
  obtain ⟨c, rfl, hc, _⟩ := plainElem_int_inv Try.underlying3 h
  simp only [Prod.mk.injEq, DataW.lit.injEq, Lit.int.injEq] at hc
  rw [hc.1.2]
def map81 : MapT Try.prog 59 3 D.Gate Int where
  fit := fitK_Gate
  lit x := .string (keyBytes [.int .i64 x.A, .int .i64 x.B])
  dv y := .lit (.int .i64 y)
  zero := 0
  efit := fitZ
  zfit := by kernel_rfl
  keyed := keyed59
  key x h := by
    simp only [fitK_Gate, fitZ, Bool.and_eq_true] at h
    exact key59 x h.1 h.2
  inj x y hx hy h := by
    simp only [fitK_Gate, fitZ, Bool.and_eq_true] at hx hy
    have h1 := key59 x hx.1 hx.2
    have h2 := key59 y hy.1 hy.2
    rw [← h] at h2
    have h3 := keyed59.inj h1 h2
    cases x; cases y
    simpa using h3
  elem y h := plainElem_int Try.underlying3 (by simpa [fitZ] using h)
  back v y ps h := back3 v y ps h
  hz w := by
    show (zeroValue 3).run Try.prog w = .ok (.int .i64 0) w
    have hz : (Try.prog.info? 3).map (·.zero) = some (some (.int .i64 0)) := by kernel_rfl
    cases hi : Try.prog.info? 3 with
    | none => rw [hi] at hz; cases hz
    | some i =>
      rw [hi] at hz
      simp only [Option.map_some, Option.some.injEq] at hz
      simp [zeroValue, typeInfo, hi, hz]
theorem back4 (v : Value) (y : Bool) (ps : List MemPlace) (h : plainElem (H := Unit) Try.prog 4 v = some (.lit (.bool y), ps)) : v = .bool y := by
  unfold plainElem at h
  rw [Try.underlying4] at h
  split at h <;> simp_all
def map91 : MapT Try.prog 59 4 D.Gate Bool where
  fit := fitK_Gate
  lit x := .string (keyBytes [.int .i64 x.A, .int .i64 x.B])
  dv y := .lit (.bool y)
  zero := false
  efit := fun _ => true
  zfit := by kernel_rfl
  keyed := keyed59
  key x h := by
    simp only [fitK_Gate, fitZ, Bool.and_eq_true] at h
    exact key59 x h.1 h.2
  inj x y hx hy h := by
    simp only [fitK_Gate, fitZ, Bool.and_eq_true] at hx hy
    have h1 := key59 x hx.1 hx.2
    have h2 := key59 y hy.1 hy.2
    rw [← h] at h2
    have h3 := keyed59.inj h1 h2
    cases x; cases y
    simpa using h3
  elem y _ := plainElem_bool Try.underlying4 y
  back v y ps h := back4 v y ps h
  hz w := by
    show (zeroValue 4).run Try.prog w = .ok (.bool false) w
    have hz : (Try.prog.info? 4).map (·.zero) = some (some (.bool false)) := by kernel_rfl
    cases hi : Try.prog.info? 4 with
    | none => rw [hi] at hz; cases hz
    | some i =>
      rw [hi] at hz
      simp only [Option.map_some, Option.some.injEq] at hz
      simp [zeroValue, typeInfo, hi, hz]

theorem laws_szGateS_ok (p0 : List D.Gate) (p1 : Int) {r : Int} (h : laws_szGateS p0 p1 = some r) {w : World} {G0 : Nat → Prop} {va0 : Value} (ra0 : RV w G0 va0 p0) :
    Calls Try.prog 42 [va0, .int .i64 p1].toArray w fun e w' => ∃ v, e = .returned v ∧ v = .int .i64 r ∧ Chg Non w w' := by
  unfold laws_szGateS at h
  have hs := Sep.nil w Non
  have hM0 : Mem w Non (fun k => (G0 k) ∧ k < w.heap.size) w Non (fun k => (G0 k) ∧ k < w.heap.size) := Mem.start (fun _ h => h.elim) (fun _ h => h.2) (fun _ h => h.elim)
  have ra0 := ra0.sub (F' := (fun k => (G0 k) ∧ k < w.heap.size)) (fun k hk h => ⟨h, hk⟩)
  obtain ⟨a1, c1, rfl, -⟩ := ra0.slice
  refine enter (N := 12) Try.func42 rfl Try.ntmps42 rfl fun fr hF => ?_
  refine wp_seq (wp_pure [(0, .slice a1 (List.length p0) c1), (1, .int .i64 p1)] hF (by kernel_rfl) fun fr hF => then_normal ?_)
  refine wp_seq (wp_pure [(1, .int .i64 (w64 (p1 - (len p0))))] hF (by kernel_rfl) fun fr hF => then_normal ?_)
  refine wp_seq ?_
  refine wp_seq (wp_pure [(1, .int .i64 (w64 (p1 - (len p0)))), (10, .bool (decide ((w64 (p1 - (len p0))) < 0)))] hF (by kernel_rfl) fun fr hF => then_normal ?_)
  refine (wp_if hF (b := (decide ((w64 (p1 - (len p0))) < 0))) rfl (fun hb => ?_) (fun hb => ?_))
  · replace h := iteT hb h
    refine wp_seq (wp_pure [(4, .int .i64 (-1))] hF (by kernel_rfl) fun fr hF => then_normal ?_)
    obtain rfl := Option.some.inj h
    exact wp_ret (then_ret (ret1 rfl hF rfl ⟨_, rfl, rfl, hM0.chg⟩))
  replace h := iteF hb h
  refine (wp_skip (then_normal ?_))
  refine wp_seq (wp_pure [(4, .int .i64 (w64 (p1 - (len p0))))] hF (by kernel_rfl) fun fr hF => then_normal ?_)
  obtain rfl := Option.some.inj h
  exact wp_ret (ret1 rfl hF rfl ⟨_, rfl, rfl, hM0.chg⟩)

theorem laws_szCircuit_ok (p0 : D.Circuit) (p1 : Int) {r : Int} (h : laws_szCircuit p0 p1 = some r) {w : World} {G0 : Nat → Prop} {va0 : Value} (ra0 : RV w G0 va0 p0) :
    Calls Try.prog 12 [va0, .int .i64 p1].toArray w fun e w' => ∃ v, e = .returned v ∧ v = .int .i64 r ∧ Chg Non w w' := by
  unfold laws_szCircuit at h
  have hs := Sep.nil w Non
  have hM0 : Mem w Non (fun k => (G0 k) ∧ k < w.heap.size) w Non (fun k => (G0 k) ∧ k < w.heap.size) := Mem.start (fun _ h => h.elim) (fun _ h => h.2) (fun _ h => h.elim)
  have ra0 := ra0.sub (F' := (fun k => (G0 k) ∧ k < w.heap.size)) (fun k hk h => ⟨h, hk⟩)
  obtain ⟨v1, rfl, r1⟩ := RV.Circuit ra0
  obtain ⟨a1, c1, rfl, -⟩ := r1.slice
  refine enter (N := 12) Try.func12 rfl Try.ntmps12 rfl fun fr hF => ?_
  refine wp_seq (wp_text' ?_)
  refine q_box hs hM0 [.int .i64 p0.Inputs, .slice a1 (List.length p0.Gates) c1] rfl rfl hF rfl rfl fun b1 w1 S1 fr hs hp hF => ?_
  have r1 := r1.stp hM0 hp
  have hM0 := hM0.stp hp
  have hs : Sep [BX b1 24 [.int .i64 p0.Inputs, .slice a1 (List.length p0.Gates) c1]] w1 S1 := hs
  refine from_pure 1 [(1, .int .i64 p1), (2, .pointer (some ⟨b1, 0, none⟩))] hF (by kernel_rfl) fun fr hF => ?_
  refine from_end rfl (then_normal ?_)
  refine wp_seq (wp_text' ?_)
  refine from_pure 1 [(1, .int .i64 p1), (5, .pointer (some ⟨b1, 1, none⟩))] hF (by kernel_rfl) fun fr hF => ?_
  refine s_loadBox (.slice a1 (List.length p0.Gates) c1) ty22 rfl rfl hF rfl (hs.bx 0 rfl) rfl rfl fun fr hF => ?_
  have hs : Sep [] w1 S1 := Sep.pick [] hs (by decide) rfl
  refine from_pure 1 [(6, .slice a1 (List.length p0.Gates) c1), (7, .int .i64 p1)] hF (by kernel_rfl) fun fr hF => ?_
  obtain ⟨x1, hx1, h⟩ := bindE h
  refine s_call [.slice a1 (List.length p0.Gates) c1, .int .i64 p1] Try.call42 rfl rfl hF rfl (laws_szGateS_ok p0.Gates p1 hx1 (r1)) fun v w2 fr hRes hF => ?_
  obtain ⟨rfl, hc⟩ := hRes
  have r1 := r1.ext hc
  have hs := hs.ext hc
  have hM0 := hM0.ext hc
  refine from_pure 1 [(1, .int .i64 x1)] hF (by kernel_rfl) fun fr hF => ?_
  refine from_end rfl (then_normal ?_)
  refine wp_seq ?_
  refine wp_seq (wp_pure [(1, .int .i64 x1), (10, .bool (decide (x1 < 0)))] hF (by kernel_rfl) fun fr hF => then_normal ?_)
  refine (wp_if hF (b := (decide (x1 < 0))) rfl (fun hb => ?_) (fun hb => ?_))
  · replace h := iteT hb h
    refine wp_seq (wp_pure [(4, .int .i64 (-1))] hF (by kernel_rfl) fun fr hF => then_normal ?_)
    obtain rfl := Option.some.inj h
    exact wp_ret (then_ret (ret1 rfl hF rfl ⟨_, rfl, rfl, hM0.chg⟩))
  replace h := iteF hb h
  refine (wp_skip (then_normal ?_))
  refine wp_seq (wp_pure [(4, .int .i64 x1)] hF (by kernel_rfl) fun fr hF => then_normal ?_)
  obtain rfl := Option.some.inj h
  exact wp_ret (ret1 rfl hF rfl ⟨_, rfl, rfl, hM0.chg⟩)

theorem laws_toGate_ok (p0 : D.Gate) {r : D.Gate} (h : laws_toGate p0 = some r) {w : World} :
    Calls Try.prog 86 [.agg #[.int .i64 p0.A, .int .i64 p0.B]].toArray w fun e w' => ∃ v, e = .returned v ∧ v = .agg #[.int .i64 r.A, .int .i64 r.B] ∧ Chg Non w w' := by
  unfold laws_toGate at h
  have hs := Sep.nil w Non
  have hM0 : Mem w Non (fun k => (False) ∧ k < w.heap.size) w Non (fun k => (False) ∧ k < w.heap.size) := Mem.start (fun _ h => h.elim) (fun _ h => h.2) (fun _ h => h.elim)
  refine enter (N := 11) Try.func86 rfl Try.ntmps86 rfl fun fr hF => ?_
  refine wp_seq (wp_text' ?_)
  refine q_box hs hM0 [.int .i64 p0.A, .int .i64 p0.B] rfl rfl hF rfl rfl fun b1 w1 S1 fr hs hp hF => ?_
  have hM0 := hM0.stp hp
  have hs : Sep [BX b1 97 [.int .i64 p0.A, .int .i64 p0.B]] w1 S1 := hs
  refine q_alloc (z := .agg #[.int .i64 0, .int .i64 0]) hs hM0 [.int .i64 0, .int .i64 0] rfl rfl hF (by kernel_rfl) rfl fun b2 w2 S2 fr hs hp hF => ?_
  have hM0 := hM0.stp hp
  have hs : Sep [BX b2 59 [.int .i64 0, .int .i64 0], BX b1 97 [.int .i64 p0.A, .int .i64 p0.B]] w2 S2 := hs
  refine from_end rfl (then_normal ?_)
  refine wp_seq (wp_text' ?_)
  refine q_alloc (z := .agg #[.int .i64 0, .int .i64 0]) hs hM0 [.int .i64 0, .int .i64 0] rfl rfl hF (by kernel_rfl) rfl fun b3 w3 S3 fr hs hp hF => ?_
  have hM0 := hM0.stp hp
  have hs : Sep [BX b3 59 [.int .i64 0, .int .i64 0], BX b2 59 [.int .i64 0, .int .i64 0], BX b1 97 [.int .i64 p0.A, .int .i64 p0.B]] w3 S3 := hs
  refine from_end rfl (then_normal ?_)
  refine wp_seq (wp_text' ?_)
  refine from_pure 1 [(1, .pointer (some ⟨b1, 0, none⟩)), (2, .pointer (some ⟨b2, 0, none⟩)), (3, .pointer (some ⟨b3, 0, none⟩)), (4, .pointer (some ⟨b1, 0, none⟩))] hF (by kernel_rfl) fun fr hF => ?_
  refine s_loadBox (.int .i64 p0.A) ty3 rfl rfl hF rfl (hs.bx 2 rfl) rfl rfl fun fr hF => ?_
  refine from_pure 1 [(1, .pointer (some ⟨b1, 0, none⟩)), (2, .pointer (some ⟨b2, 0, none⟩)), (3, .pointer (some ⟨b3, 0, none⟩)), (5, .int .i64 p0.A), (6, .pointer (some ⟨b3, 0, none⟩))] hF (by kernel_rfl) fun fr hF => ?_
  refine q_storeBox 0 hs hM0 rfl [.int .i64 p0.A, .int .i64 0] rfl hF rfl rfl (by kernel_rfl) rfl rfl rfl fun w4 S4 hs hp hF => ?_
  have hM0 := hM0.stp hp
  have hs : Sep [BX b3 59 [.int .i64 p0.A, .int .i64 0], BX b2 59 [.int .i64 0, .int .i64 0], BX b1 97 [.int .i64 p0.A, .int .i64 p0.B]] w4 S4 := hs
  refine from_end rfl (then_normal ?_)
  refine wp_seq (wp_text' ?_)
  refine from_pure 1 [(2, .pointer (some ⟨b2, 0, none⟩)), (3, .pointer (some ⟨b3, 0, none⟩)), (7, .pointer (some ⟨b1, 1, none⟩))] hF (by kernel_rfl) fun fr hF => ?_
  refine s_loadBox (.int .i64 p0.B) ty3 rfl rfl hF rfl (hs.bx 2 rfl) rfl rfl fun fr hF => ?_
  have hs : Sep [BX b3 59 [.int .i64 p0.A, .int .i64 0], BX b2 59 [.int .i64 0, .int .i64 0]] w4 S4 := Sep.pick [0, 1] hs (by decide) rfl
  refine from_pure 1 [(2, .pointer (some ⟨b2, 0, none⟩)), (3, .pointer (some ⟨b3, 0, none⟩)), (8, .int .i64 p0.B), (9, .pointer (some ⟨b3, 1, none⟩))] hF (by kernel_rfl) fun fr hF => ?_
  refine q_storeBox 0 hs hM0 rfl [.int .i64 p0.A, .int .i64 p0.B] rfl hF rfl rfl (by kernel_rfl) rfl rfl rfl fun w5 S5 hs hp hF => ?_
  have hM0 := hM0.stp hp
  have hs : Sep [BX b3 59 [.int .i64 p0.A, .int .i64 p0.B], BX b2 59 [.int .i64 0, .int .i64 0]] w5 S5 := hs
  refine from_end rfl (then_normal ?_)
  refine wp_seq (wp_text' ?_)
  refine s_loadBoxS ty59 rfl rfl hF rfl (hs.bx 0 rfl) rfl rfl fun fr hF => ?_
  have hs : Sep [BX b2 59 [.int .i64 0, .int .i64 0]] w5 S5 := Sep.pick [1] hs (by decide) rfl
  refine q_storeBoxS 0 hs hM0 rfl [.int .i64 p0.A, .int .i64 p0.B] rfl hF rfl rfl (by kernel_rfl) rfl rfl rfl fun w6 S6 hs hp hF => ?_
  have hM0 := hM0.stp hp
  have hs : Sep [BX b2 59 [.int .i64 p0.A, .int .i64 p0.B]] w6 S6 := hs
  refine from_end rfl (then_normal ?_)
  have hbr := (hs.bx 0 rfl)
  obtain rfl := Option.some.inj h
  exact wp_ret (retS rfl hF ty59 rfl rfl hbr rfl ⟨_, rfl, rfl, hM0.chg⟩)

theorem laws_toGateS_ok (n : Nat) (p0 : List D.Gate) {r : (List D.Gate)} (h : laws_toGateS n p0 = some r) {w : World} {G0 : Nat → Prop} {va0 : Value} (ra0 : RV w G0 va0 p0) :
    Calls Try.prog 48 [va0].toArray w fun e w' => ∃ v, e = .returned v ∧ ∃ a1 c1, v = .slice a1 (List.length r) c1 ∧ ∃ S', Stp w Non w' S' ∧ Sep [SL (α := D.Gate) 59 (.slice a1 (List.length r) c1) r] w' S' := by
  unfold laws_toGateS at h
  have hs := Sep.nil w Non
  have hM0 : Mem w Non (fun k => (G0 k) ∧ k < w.heap.size) w Non (fun k => (G0 k) ∧ k < w.heap.size) := Mem.start (fun _ h => h.elim) (fun _ h => h.2) (fun _ h => h.elim)
  have ra0 := ra0.sub (F' := (fun k => (G0 k) ∧ k < w.heap.size)) (fun k hk h => ⟨h, hk⟩)
  obtain ⟨a1, c1, rfl, -⟩ := ra0.slice
  refine enter (N := 23) Try.func48 rfl Try.ntmps48 rfl fun fr hF => ?_
  refine wp_seq (wp_pure [(0, .slice a1 (List.length p0) c1)] hF (by kernel_rfl) fun fr hF => then_normal ?_)
  refine wp_seq (wp_text' ?_)
  refine from_pure 2 [(0, .slice a1 (List.length p0) c1), (6, .int .i64 (len p0))] hF (by kernel_rfl) fun fr hF => ?_
  obtain ⟨x1, hx1, h⟩ := bindE h
  refine q_make hs hM0 Try.underlying26 el59 (zero_flat _ (by kernel_rfl)) rfl rfl hF rfl rfl hx1 fun a2 c2 w1 S1 fr hs hp hF => ?_
  have ra0 := ra0.stp hM0 hp
  have hM0 := hM0.stp hp
  have hs : Sep [SL (α := D.Gate) 59 (.slice a2 (List.length x1) c2) x1] w1 S1 := hs
  refine from_pure 1 [(0, .slice a1 (List.length p0) c1), (3, .slice a2 (List.length x1) c2)] hF (by kernel_rfl) fun fr hF => ?_
  refine from_end rfl (then_normal ?_)
  refine wp_seq ?_
  refine wp_seq (wp_pure [(0, .slice a1 (List.length p0) c1), (3, .slice a2 (List.length x1) c2), (4, .int .i64 0)] hF (by kernel_rfl) fun fr hF => then_normal ?_)
  obtain ⟨rl1, hit1, h⟩ := bindE h
  have hk1 := h
  refine (wp_cut (M := fun fr w' => ∃ S3 F2, FrS 23 [(3, .slice a2 (List.length x1) c2)] fr ∧ Mem w1 S1 (fun k => (G0 k) ∧ k < w.heap.size) w' S3 F2 ∧ Sep [SL (α := D.Gate) 59 (.slice a2 (List.length x1) c2) rl1] w' S3) (wp_block (wp_iter (Inv := fun s1 fr w' => ∃ S2 F1, FrS 23 [(0, .slice a1 (List.length p0) c1), (3, .slice a2 (List.length x1) c2), (4, .int .i64 s1.1)] fr ∧ Mem w1 S1 (fun k => (G0 k) ∧ k < w.heap.size) w' S2 F1 ∧ Sep [SL (α := D.Gate) 59 (.slice a2 (List.length x1) c2) s1.2] w' S2) hit1 ⟨S1, _, hF.sub _ (by kernel_rfl), (Mem.start hM0.bd hM0.bdF hM0.dj), hs⟩ fun s1 q1 fr w1i hI h hr1 => ?_)) fun fr w1o hM => ?_)
  · obtain ⟨S2, F1, hF, hM1, hs⟩ := hI
    have ra0 := ra0.mem hM1
    refine wp_seq ?_
    refine wp_seq (wp_pure [(0, .slice a1 (List.length p0) c1), (3, .slice a2 (List.length x1) c2), (4, .int .i64 s1.1), (11, .bool (decide (s1.1 < (len p0))))] hF (by kernel_rfl) fun fr hF => then_normal ?_)
    refine (wp_if hF (b := (decide (s1.1 < (len p0)))) rfl (fun hb => ?_) (fun hb => ?_))
    · replace h := iteT hb h
      refine (wp_skip (then_normal ?_))
      refine wp_seq (wp_block ?_)
      refine (wp_text' ?_)
      refine from_pure 4 [(0, .slice a1 (List.length p0) c1), (3, .slice a2 (List.length x1) c2), (4, .int .i64 s1.1), (14, .slice a2 (List.length x1) c2), (15, .int .i64 s1.1), (16, .slice a1 (List.length p0) c1), (17, .int .i64 s1.1)] hF (by kernel_rfl) fun fr hF => ?_
      obtain ⟨x2, hx2, h⟩ := bindE h
      refine s_elemF (z := x2) (.agg #[.int .i64 x2.A, .int .i64 x2.B]) ty97 Try.underlying22 rfl rfl rfl rfl rfl hF rfl (ra0) rfl (get?_nn hx2) (get?_at hx2) rfl fun p fr hF => ?_
      obtain ⟨x3, hx3, h⟩ := bindE h
      refine s_call [.agg #[.int .i64 x2.A, .int .i64 x2.B]] Try.call86 rfl rfl hF rfl (laws_toGate_ok x2 hx3) fun v w2 fr hRes hF => ?_
      obtain ⟨rfl, hc⟩ := hRes
      have ra0 := ra0.ext hc
      have hs := hs.ext hc
      have hM1 := hM1.ext hc
      obtain ⟨x4, hx4, h⟩ := bindE h
      refine q_set (q := x3) 0 hs hM1 rfl Try.underlying26 ty59 rfl rfl rfl rfl hF rfl rfl (by simp) rfl rfl hx4 fun w3 S4 fr _ hs hp hF => ?_
      have ra0 := ra0.stp hM1 hp
      have hM1 := hM1.stp hp
      have hs : Sep [SL (α := D.Gate) 59 (.slice a2 (List.length x1) c2) x4] w3 S4 := hs
      refine from_end rfl ?_
      refine blk_normal (then_normal ?_)
      refine (wp_pure [(0, .slice a1 (List.length p0) c1), (3, .slice a2 (List.length x1) c2), (4, .int .i64 (w64 (s1.1 + 1)))] hF (by kernel_rfl) fun fr hF => then_normal ?_)
      exact ⟨_, (Option.some.inj h).symm, S4, _, hF.sub _ (by kernel_rfl), hM1, hs⟩
    replace h := iteF hb h
    refine (wp_exit (then_exit (then_exit (blk_exit_eq ?_))))
    obtain rfl := hr1 _ (Option.some.inj h).symm
    exact then_normal ⟨S2, _, hF.sub _ (by kernel_rfl), hM1, hs⟩
  · obtain ⟨S3, F2, hF, hMx, hs⟩ := hM
    have hM0 := hM0.trans hMx
    refine wp_seq (wp_pure [(2, .slice a2 (List.length x1) c2)] hF (by kernel_rfl) fun fr hF => then_normal ?_)
    obtain rfl := Option.some.inj h
    obtain ⟨he1, hs⟩ := hs.relen 0 rfl
    have hs : Sep [SL (α := D.Gate) 59 (.slice a2 (List.length rl1) c2) rl1] w1o S3 := hs
    exact wp_ret (ret1 rfl hF rfl ⟨_, rfl, a2, c2, (by simp only [he1]), S3, hM0.out, hs⟩)

theorem laws_toCircuit_ok (n : Nat) (p0 : D.Circuit) {r : D.Circuit} (h : laws_toCircuit n p0 = some r) {w : World} {G0 : Nat → Prop} {va0 : Value} (ra0 : RV w G0 va0 p0) :
    Calls Try.prog 14 [va0].toArray w fun e w' => ∃ v, e = .returned v ∧ ∃ a1 c1, v = .agg #[.int .i64 r.Inputs, .slice a1 (List.length r.Gates) c1] ∧ ∃ S', Stp w Non w' S' ∧ Sep [SL (α := D.Gate) 59 (.slice a1 (List.length r.Gates) c1) r.Gates] w' S' := by
  unfold laws_toCircuit at h
  have hs := Sep.nil w Non
  have hM0 : Mem w Non (fun k => (G0 k) ∧ k < w.heap.size) w Non (fun k => (G0 k) ∧ k < w.heap.size) := Mem.start (fun _ h => h.elim) (fun _ h => h.2) (fun _ h => h.elim)
  have ra0 := ra0.sub (F' := (fun k => (G0 k) ∧ k < w.heap.size)) (fun k hk h => ⟨h, hk⟩)
  obtain ⟨v1, rfl, r1⟩ := RV.Circuit ra0
  obtain ⟨a1, c1, rfl, -⟩ := r1.slice
  refine enter (N := 12) Try.func14 rfl Try.ntmps14 rfl fun fr hF => ?_
  refine wp_seq (wp_text' ?_)
  refine q_box hs hM0 [.int .i64 p0.Inputs, .slice a1 (List.length p0.Gates) c1] rfl rfl hF rfl rfl fun b1 w1 S1 fr hs hp hF => ?_
  have r1 := r1.stp hM0 hp
  have hM0 := hM0.stp hp
  have hs : Sep [BX b1 24 [.int .i64 p0.Inputs, .slice a1 (List.length p0.Gates) c1]] w1 S1 := hs
  refine q_alloc (z := .agg #[.int .i64 0, .slice none (List.length ([] : List D.Gate)) 0]) hs hM0 [.int .i64 0, .slice none (List.length ([] : List D.Gate)) 0] rfl rfl hF (by kernel_rfl) rfl fun b2 w2 S2 fr hs hp hF => ?_
  have r1 := r1.stp hM0 hp
  have hM0 := hM0.stp hp
  have hs : Sep [BX b2 28 [.int .i64 0, .slice none (List.length ([] : List D.Gate)) 0], BX b1 24 [.int .i64 p0.Inputs, .slice a1 (List.length p0.Gates) c1]] w2 S2 := hs
  refine from_end rfl (then_normal ?_)
  refine wp_seq (wp_text' ?_)
  refine q_alloc (z := .agg #[.int .i64 0, .slice none (List.length ([] : List D.Gate)) 0]) hs hM0 [.int .i64 0, .slice none (List.length ([] : List D.Gate)) 0] rfl rfl hF (by kernel_rfl) rfl fun b3 w3 S3 fr hs hp hF => ?_
  have r1 := r1.stp hM0 hp
  have hM0 := hM0.stp hp
  have hs : Sep [BX b3 28 [.int .i64 0, .slice none (List.length ([] : List D.Gate)) 0], BX b2 28 [.int .i64 0, .slice none (List.length ([] : List D.Gate)) 0], BX b1 24 [.int .i64 p0.Inputs, .slice a1 (List.length p0.Gates) c1]] w3 S3 := hs
  refine from_end rfl (then_normal ?_)
  refine wp_seq (wp_text' ?_)
  refine from_pure 1 [(1, .pointer (some ⟨b1, 0, none⟩)), (2, .pointer (some ⟨b2, 0, none⟩)), (3, .pointer (some ⟨b3, 0, none⟩)), (4, .pointer (some ⟨b1, 0, none⟩))] hF (by kernel_rfl) fun fr hF => ?_
  refine s_loadBox (.int .i64 p0.Inputs) ty3 rfl rfl hF rfl (hs.bx 2 rfl) rfl rfl fun fr hF => ?_
  refine from_pure 1 [(1, .pointer (some ⟨b1, 0, none⟩)), (2, .pointer (some ⟨b2, 0, none⟩)), (3, .pointer (some ⟨b3, 0, none⟩)), (5, .int .i64 p0.Inputs), (6, .pointer (some ⟨b3, 0, none⟩))] hF (by kernel_rfl) fun fr hF => ?_
  refine q_storeBox 0 hs hM0 rfl [.int .i64 p0.Inputs, .slice none (List.length ([] : List D.Gate)) 0] rfl hF rfl rfl (by kernel_rfl) rfl rfl rfl fun w4 S4 hs hp hF => ?_
  have r1 := r1.stp hM0 hp
  have hM0 := hM0.stp hp
  have hs : Sep [BX b3 28 [.int .i64 p0.Inputs, .slice none (List.length ([] : List D.Gate)) 0], BX b2 28 [.int .i64 0, .slice none (List.length ([] : List D.Gate)) 0], BX b1 24 [.int .i64 p0.Inputs, .slice a1 (List.length p0.Gates) c1]] w4 S4 := hs
  refine from_end rfl (then_normal ?_)
  refine wp_seq (wp_text' ?_)
  refine from_pure 1 [(2, .pointer (some ⟨b2, 0, none⟩)), (3, .pointer (some ⟨b3, 0, none⟩)), (7, .pointer (some ⟨b1, 1, none⟩))] hF (by kernel_rfl) fun fr hF => ?_
  refine s_loadBox (.slice a1 (List.length p0.Gates) c1) ty22 rfl rfl hF rfl (hs.bx 2 rfl) rfl rfl fun fr hF => ?_
  have hs : Sep [BX b3 28 [.int .i64 p0.Inputs, .slice none (List.length ([] : List D.Gate)) 0], BX b2 28 [.int .i64 0, .slice none (List.length ([] : List D.Gate)) 0]] w4 S4 := Sep.pick [0, 1] hs (by decide) rfl
  obtain ⟨x1, hx1, h⟩ := bindE h
  refine s_call [.slice a1 (List.length p0.Gates) c1] Try.call48 rfl rfl hF rfl (laws_toGateS_ok n p0.Gates hx1 (r1)) fun v w5 fr hRes hF => ?_
  obtain ⟨a2, c2, rfl, _, hp, hs2⟩ := hRes
  obtain ⟨S5, hp, hs⟩ := hs.got hM0 hp hs2
  have r1 := r1.stp hM0 hp
  have hM0 := hM0.stp hp
  have hs : Sep [SL (α := D.Gate) 59 (.slice a2 (List.length x1) c2) x1, BX b3 28 [.int .i64 p0.Inputs, .slice none (List.length ([] : List D.Gate)) 0], BX b2 28 [.int .i64 0, .slice none (List.length ([] : List D.Gate)) 0]] w5 S5 := hs
  refine from_pure 1 [(2, .pointer (some ⟨b2, 0, none⟩)), (3, .pointer (some ⟨b3, 0, none⟩)), (9, .slice a2 (List.length x1) c2), (10, .pointer (some ⟨b3, 1, none⟩))] hF (by kernel_rfl) fun fr hF => ?_
  refine q_storeBox 1 hs hM0 rfl [.int .i64 p0.Inputs, .slice a2 (List.length x1) c2] rfl hF rfl rfl (by kernel_rfl) rfl rfl rfl fun w6 S6 hs hp hF => ?_
  have hM0 := hM0.stp hp
  have hs : Sep [SL (α := D.Gate) 59 (.slice a2 (List.length x1) c2) x1, BX b3 28 [.int .i64 p0.Inputs, .slice a2 (List.length x1) c2], BX b2 28 [.int .i64 0, .slice none (List.length ([] : List D.Gate)) 0]] w6 S6 := hs
  refine from_end rfl (then_normal ?_)
  refine wp_seq (wp_text' ?_)
  refine s_loadBoxS ty28 rfl rfl hF rfl (hs.bx 1 rfl) rfl rfl fun fr hF => ?_
  have hs : Sep [SL (α := D.Gate) 59 (.slice a2 (List.length x1) c2) x1, BX b2 28 [.int .i64 0, .slice none (List.length ([] : List D.Gate)) 0]] w6 S6 := Sep.pick [0, 2] hs (by decide) rfl
  refine q_storeBoxS 1 hs hM0 rfl [.int .i64 p0.Inputs, .slice a2 (List.length x1) c2] rfl hF rfl rfl (by kernel_rfl) rfl rfl rfl fun w7 S7 hs hp hF => ?_
  have hM0 := hM0.stp hp
  have hs : Sep [SL (α := D.Gate) 59 (.slice a2 (List.length x1) c2) x1, BX b2 28 [.int .i64 p0.Inputs, .slice a2 (List.length x1) c2]] w7 S7 := hs
  refine from_end rfl (then_normal ?_)
  have hbr := (hs.bx 1 rfl)
  obtain rfl := Option.some.inj h
  have hs : Sep [SL (α := D.Gate) 59 (.slice a2 (List.length x1) c2) x1] w7 S7 := Sep.pick [0] hs (by decide) rfl
  exact wp_ret (retS rfl hF ty28 rfl rfl hbr rfl ⟨_, rfl, a2, c2, rfl, S7, hM0.out, hs⟩)

theorem spec_l01In_ok (p0 : Int) (p1 : Int) (p2 : Int) {r : Bool} (h : spec_l01In p0 p1 p2 = some r) {w : World} :
    Calls Try.prog 70 [.int .i64 p0, .int .i64 p1, .int .i64 p2].toArray w fun e w' => ∃ v, e = .returned v ∧ v = .bool r ∧ Chg Non w w' := by
  unfold spec_l01In at h
  have hs := Sep.nil w Non
  have hM0 : Mem w Non (fun k => (False) ∧ k < w.heap.size) w Non (fun k => (False) ∧ k < w.heap.size) := Mem.start (fun _ h => h.elim) (fun _ h => h.2) (fun _ h => h.elim)
  refine enter (N := 15) Try.func70 rfl Try.ntmps70 rfl fun fr hF => ?_
  refine wp_seq (wp_pure [(0, .int .i64 p0), (1, .int .i64 p1), (2, .int .i64 p2)] hF (by kernel_rfl) fun fr hF => then_normal ?_)
  refine wp_seq (region_b [] [true, true, true, true, true, true, true, true, true]
      [.eq (.int .i64 p0), .eq (.int .i64 p1), .eq (.bool (decide (p0 ≥ p1))), .eq (.bool (decide (p0 ≥ p1))), .eq (.int .i64 p0), .eq (.int .i64 p2), .eq (.bool (decide (p0 ≤ p2))), .eq (.bool ((decide (p0 ≥ p1)) && (decide (p0 ≤ p2)))), .eq (.bool ((decide (p0 ≥ p1)) && (decide (p0 ≤ p2))))]
      [(6, .bool ((decide (p0 ≥ p1)) && (decide (p0 ≤ p2))))] mix hF (by kernel_rfl) (by kernel_rfl) (by kernel_rfl) trivial (fun hG => trivial) (by kernel_rfl) fun fr w1 hF hE hc => then_normal ?_)
  have hs := hs.ext hc
  have hM0 := hM0.ext hc
  obtain rfl := Option.some.inj h
  exact wp_ret (ret1 rfl hF rfl ⟨_, rfl, rfl, hM0.chg⟩)

theorem spec_l03Abs_ok (p0 : Int) {r : Int} (h : spec_l03Abs p0 = some r) {w : World} :
    Calls Try.prog 84 [.int .i64 p0].toArray w fun e w' => ∃ v, e = .returned v ∧ v = .int .i64 r ∧ Chg Non w w' := by
  unfold spec_l03Abs at h
  have hs := Sep.nil w Non
  have hM0 : Mem w Non (fun k => (False) ∧ k < w.heap.size) w Non (fun k => (False) ∧ k < w.heap.size) := Mem.start (fun _ h => h.elim) (fun _ h => h.2) (fun _ h => h.elim)
  refine enter (N := 8) Try.func84 rfl Try.ntmps84 rfl fun fr hF => ?_
  refine wp_seq (wp_pure [(0, .int .i64 p0)] hF (by kernel_rfl) fun fr hF => then_normal ?_)
  refine wp_seq ?_
  refine wp_seq (wp_pure [(0, .int .i64 p0), (4, .bool (decide (p0 < 0)))] hF (by kernel_rfl) fun fr hF => then_normal ?_)
  refine (wp_if hF (b := (decide (p0 < 0))) rfl (fun hb => ?_) (fun hb => ?_))
  · replace h := iteT hb h
    refine wp_seq (wp_pure [(2, .int .i64 (w64 (0 - p0)))] hF (by kernel_rfl) fun fr hF => then_normal ?_)
    obtain rfl := Option.some.inj h
    exact wp_ret (then_ret (ret1 rfl hF rfl ⟨_, rfl, rfl, hM0.chg⟩))
  replace h := iteF hb h
  refine (wp_skip (then_normal ?_))
  refine wp_seq (wp_pure [(2, .int .i64 p0)] hF (by kernel_rfl) fun fr hF => then_normal ?_)
  obtain rfl := Option.some.inj h
  exact wp_ret (ret1 rfl hF rfl ⟨_, rfl, rfl, hM0.chg⟩)

theorem spec_CircuitOk_ok (n : Nat) (p0 : D.Circuit) {r : Bool} (h : spec_CircuitOk n p0 = some r) {w : World} {G0 : Nat → Prop} {va0 : Value} (ra0 : RV w G0 va0 p0) :
    Calls Try.prog 43 [va0].toArray w fun e w' => ∃ v, e = .returned v ∧ v = .bool r ∧ Chg Non w w' := by
  unfold spec_CircuitOk at h
  have hs := Sep.nil w Non
  have hM0 : Mem w Non (fun k => (G0 k) ∧ k < w.heap.size) w Non (fun k => (G0 k) ∧ k < w.heap.size) := Mem.start (fun _ h => h.elim) (fun _ h => h.2) (fun _ h => h.elim)
  have ra0 := ra0.sub (F' := (fun k => (G0 k) ∧ k < w.heap.size)) (fun k hk h => ⟨h, hk⟩)
  obtain ⟨v1, rfl, r1⟩ := RV.Circuit ra0
  obtain ⟨a1, c1, rfl, -⟩ := r1.slice
  refine enter (N := 76) Try.func43 rfl Try.ntmps43 rfl fun fr hF => ?_
  refine wp_seq (wp_text' ?_)
  refine q_box hs hM0 [.int .i64 p0.Inputs, .slice a1 (List.length p0.Gates) c1] rfl rfl hF rfl rfl fun b1 w1 S1 fr hs hp hF => ?_
  have r1 := r1.stp hM0 hp
  have hM0 := hM0.stp hp
  have hs : Sep [BX b1 28 [.int .i64 p0.Inputs, .slice a1 (List.length p0.Gates) c1]] w1 S1 := hs
  refine from_pure 1 [(1, .pointer (some ⟨b1, 0, none⟩))] hF (by kernel_rfl) fun fr hF => ?_
  refine from_end rfl (then_normal ?_)
  refine wp_seq ?_
  obtain ⟨x1, hx1, h⟩ := bindE h
  refine wp_seq (region_b [] [true, false, false, true, true, true, false, true, true, true]
      [.eq (.pointer (some ⟨b1, 0, none⟩)), .eq (.int .i64 p0.Inputs), .eq (.bool x1), .eq (.bool (!x1)), .eq (.bool (!x1)), .eq (.pointer (some ⟨b1, 1, none⟩)), .eq (.slice a1 (List.length p0.Gates) c1), .eq (.int .i64 (len p0.Gates)), .eq (.bool (decide ((len p0.Gates) > 360))), .eq (.bool ((!x1) || (decide ((len p0.Gates) > 360))))]
      [(1, .pointer (some ⟨b1, 0, none⟩)), (17, .bool ((!x1) || (decide ((len p0.Gates) > 360))))] mix hF (by kernel_rfl) (by kernel_rfl) (by kernel_rfl) ⟨Pd.mono_eq, Pd.mono_eq, Pd.mono_eq, trivial⟩ (fun hG => ⟨np_loadBox hG hF ty3 rfl rfl (hs.bx 0 rfl) rfl rfl rfl, np_call [.int .i64 p0.Inputs, .int .i64 0, .int .i64 30] hG hF Try.call70 rfl rfl (fun w hC hg => (spec_l01In_ok p0.Inputs 0 30 hx1).mono fun e w' ⟨v, he, hv, hc⟩ => ⟨v, he, hc, hv⟩), np_loadBox hG hF ty26 rfl rfl (hs.bx 0 rfl) rfl rfl rfl, trivial⟩) (by kernel_rfl) fun fr w2 hF hE hc => then_normal ?_)
  have r1 := r1.ext hc
  have hs := hs.ext hc
  have hM0 := hM0.ext hc
  refine (wp_if hF (b := ((!x1) || (decide ((len p0.Gates) > 360)))) rfl (fun hb => ?_) (fun hb => ?_))
  · replace h := iteT hb h
    have hs : Sep [] w2 S1 := Sep.pick [] hs (by decide) rfl
    refine wp_seq (wp_pure [(2, .bool false)] hF (by kernel_rfl) fun fr hF => then_normal ?_)
    obtain rfl := Option.some.inj h
    exact wp_ret (then_ret (ret1 rfl hF rfl ⟨_, rfl, rfl, hM0.chg⟩))
  replace h := iteF hb h
  refine (wp_skip (then_normal ?_))
  refine wp_seq ?_
  refine wp_seq (wp_text' ?_)
  refine from_pure 1 [(1, .pointer (some ⟨b1, 0, none⟩)), (18, .pointer (some ⟨b1, 1, none⟩))] hF (by kernel_rfl) fun fr hF => ?_
  refine s_loadBox (.slice a1 (List.length p0.Gates) c1) ty26 rfl rfl hF rfl (hs.bx 0 rfl) rfl rfl fun fr hF => ?_
  refine from_pure 2 [(1, .pointer (some ⟨b1, 0, none⟩)), (19, .slice a1 (List.length p0.Gates) c1), (20, .int .i64 (len p0.Gates)), (21, .int .i64 0)] hF (by kernel_rfl) fun fr hF => ?_
  refine from_end rfl (then_normal ?_)
  obtain ⟨rl1, hit1, h⟩ := bindE h
  have hk1 := h
  refine (wp_cut (M := fun fr w' => ∃ s, rl1 = .inl s ∧ ∃ S3 F2, FrS 76 [] fr ∧ Mem w2 S1 (fun k => (G0 k) ∧ k < w.heap.size) w' S3 F2 ∧ Sep [] w' S3) (wp_block (wp_iter (Inv := fun s1 fr w' => ∃ S2 F1, FrS 76 [(1, .pointer (some ⟨b1, 0, none⟩)), (19, .slice a1 (List.length p0.Gates) c1), (20, .int .i64 (len p0.Gates)), (21, .int .i64 s1)] fr ∧ Mem w2 S1 (fun k => (G0 k) ∧ k < w.heap.size) w' S2 F1 ∧ Sep [BX b1 28 [.int .i64 p0.Inputs, .slice a1 (List.length p0.Gates) c1]] w' S2) hit1 ⟨S1, _, hF.sub _ (by kernel_rfl), (Mem.start hM0.bd hM0.bdF hM0.dj), hs⟩ fun s1 q1 fr w1i hI h hr1 => ?_)) fun fr w1o hM => ?_)
  · obtain ⟨S2, F1, hF, hM1, hs⟩ := hI
    have r1 := r1.mem hM1
    refine wp_seq (wp_pure [(1, .pointer (some ⟨b1, 0, none⟩)), (19, .slice a1 (List.length p0.Gates) c1), (20, .int .i64 (len p0.Gates)), (21, .int .i64 s1), (22, .bool (decide (s1 < (len p0.Gates))))] hF (by kernel_rfl) fun fr hF => then_normal ?_)
    refine wp_seq (wp_if hF (b := (decide (s1 < (len p0.Gates)))) rfl (fun hb => ?_) (fun hb => ?_))
    · replace h := iteT hb h
      refine (wp_skip (then_normal ?_))
      refine wp_seq (wp_block ?_)
      refine wp_seq (wp_text' ?_)
      refine from_pure 1 [(1, .pointer (some ⟨b1, 0, none⟩)), (19, .slice a1 (List.length p0.Gates) c1), (20, .int .i64 (len p0.Gates)), (21, .int .i64 s1), (23, .int .i64 s1)] hF (by kernel_rfl) fun fr hF => ?_
      obtain ⟨x2, hx2, h⟩ := bindE h
      refine s_elemF (z := x2) (.agg #[.int .i64 x2.A, .int .i64 x2.B]) ty59 Try.underlying26 rfl rfl rfl rfl rfl hF rfl (r1) rfl (get?_nn hx2) (get?_at hx2) rfl fun p fr hF => ?_
      refine q_alloc (z := .agg #[.int .i64 0, .int .i64 0]) hs hM1 [.int .i64 0, .int .i64 0] rfl rfl hF (by kernel_rfl) rfl fun b2 w3 S4 fr hs hp hF => ?_
      have r1 := r1.stp hM1 hp
      have hM1 := hM1.stp hp
      have hs : Sep [BX b2 59 [.int .i64 0, .int .i64 0], BX b1 28 [.int .i64 p0.Inputs, .slice a1 (List.length p0.Gates) c1]] w3 S4 := hs
      refine from_pure 1 [(1, .pointer (some ⟨b1, 0, none⟩)), (3, .int .i64 s1), (4, .pointer (some ⟨b2, 0, none⟩)), (19, .slice a1 (List.length p0.Gates) c1), (20, .int .i64 (len p0.Gates)), (21, .int .i64 s1), (25, .agg #[.int .i64 x2.A, .int .i64 x2.B])] hF (by kernel_rfl) fun fr hF => ?_
      refine q_storeBoxS 0 hs hM1 rfl [.int .i64 x2.A, .int .i64 x2.B] rfl hF rfl rfl (by kernel_rfl) rfl rfl rfl fun w4 S5 hs hp hF => ?_
      have r1 := r1.stp hM1 hp
      have hM1 := hM1.stp hp
      have hs : Sep [BX b2 59 [.int .i64 x2.A, .int .i64 x2.B], BX b1 28 [.int .i64 p0.Inputs, .slice a1 (List.length p0.Gates) c1]] w4 S5 := hs
      refine from_end rfl (then_normal ?_)
      refine wp_seq (wp_text' ?_)
      refine from_pure 1 [(1, .pointer (some ⟨b1, 0, none⟩)), (3, .int .i64 s1), (4, .pointer (some ⟨b2, 0, none⟩)), (19, .slice a1 (List.length p0.Gates) c1), (20, .int .i64 (len p0.Gates)), (21, .int .i64 s1), (26, .pointer (some ⟨b1, 0, none⟩))] hF (by kernel_rfl) fun fr hF => ?_
      refine s_loadBox (.int .i64 p0.Inputs) ty3 rfl rfl hF rfl (hs.bx 1 rfl) rfl rfl fun fr hF => ?_
      refine from_pure 4 [(1, .pointer (some ⟨b1, 0, none⟩)), (3, .int .i64 s1), (4, .pointer (some ⟨b2, 0, none⟩)), (5, .int .i64 (w64 ((w64 (p0.Inputs + 1)) + s1))), (19, .slice a1 (List.length p0.Gates) c1), (20, .int .i64 (len p0.Gates)), (21, .int .i64 s1)] hF (by kernel_rfl) fun fr hF => ?_
      refine from_end rfl (then_normal ?_)
      refine wp_seq ?_
      obtain ⟨x3, hx3, h⟩ := bindE h
      obtain ⟨x4, hx4, h⟩ := bindE h
      obtain ⟨x5, hx5, h⟩ := bindE h
      obtain ⟨x6, hx6, h⟩ := bindE h
      obtain ⟨x7, hx7, h⟩ := bindE h
      refine wp_seq (region_bm 31 [0, 1, 0, 4, 0, 31, 63, 127, 255, 511, 255, 1279, 255, 8191, 16383, 32767, 65535, 131071, 262143, 524287, 1048575, 2097151, 4194303, 8388607, 16777215, 33554431, 8388607, 75497471, 268435455, 536870911, 1073741823] [true, false, true, true, true, false, true, true, true, false, true, true, true, false, true, true, true, true, false, false, true, true, true, true, false, false, true, false, false, true, true]
          (.eq (.pointer (some ⟨b2, 0, none⟩)) :: .eq (.int .i64 x2.A) :: .eq (.int .i64 (w64 ((w64 (p0.Inputs + 1)) + s1))) :: .eq (.int .i64 (w64 (0 - (w64 ((w64 (p0.Inputs + 1)) + s1))))) :: .eq (.int .i64 (w64 ((w64 (p0.Inputs + 1)) + s1))) :: .eq (.bool x3) :: .eq (.bool (!x3)) :: .eq (.bool (!x3)) :: .eq (.pointer (some ⟨b2, 1, none⟩)) :: .eq (.int .i64 x2.B) :: .eq (.int .i64 (w64 ((w64 (p0.Inputs + 1)) + s1))) :: .eq (.int .i64 (w64 (0 - (w64 ((w64 (p0.Inputs + 1)) + s1))))) :: .eq (.int .i64 (w64 ((w64 (p0.Inputs + 1)) + s1))) :: .eq (.bool x4) :: .eq (.bool (!x4)) :: .eq (.bool ((!x3) || (!x4))) :: .eq (.bool ((!x3) || (!x4))) :: .eq (.pointer (some ⟨b2, 0, none⟩)) :: .eq (.int .i64 x2.A) :: .eq (.int .i64 x5) :: .eq (.bool (decide (x5 < 2))) :: .eq (.bool (((!x3) || (!x4)) || (decide (x5 < 2)))) :: .eq (.bool (((!x3) || (!x4)) || (decide (x5 < 2)))) :: .eq (.pointer (some ⟨b2, 0, none⟩)) :: .eq (.int .i64 x2.A) :: .eq (.int .i64 x6) :: .eq (.pointer (some ⟨b2, 1, none⟩)) :: .eq (.int .i64 x2.B) :: .eq (.int .i64 x7) :: .eq (.bool (decide (x6 ≥ x7))) :: .eq (.bool ((((!x3) || (!x4)) || (decide (x5 < 2))) || (decide (x6 ≥ x7)))) :: [])
          [(1, .pointer (some ⟨b1, 0, none⟩)), (3, .int .i64 s1), (4, .pointer (some ⟨b2, 0, none⟩)), (19, .slice a1 (List.length p0.Gates) c1), (20, .int .i64 (len p0.Gates)), (21, .int .i64 s1), (61, .bool ((((!x3) || (!x4)) || (decide (x5 < 2))) || (decide (x6 ≥ x7))))] mix hF (by kernel_rfl) (by kernel_rfl) (by kernel_rfl) (by kernel_rfl) ⟨Pd.monoO_eq, Pd.monoO_eq, Pd.monoO_eq, Pd.monoO_eq, Pd.monoO_eq, Pd.monoO_eq, Pd.monoO_eq, Pd.monoO_eq, Pd.monoO_eq, Pd.monoO_eq, trivial⟩ (fun ow hG => ⟨np_to ow (np_loadBox hG hF ty3 rfl rfl (hs.bx 0 rfl) rfl rfl rfl), np_to ow (np_call [.int .i64 x2.A, .int .i64 (w64 (0 - (w64 ((w64 (p0.Inputs + 1)) + s1)))), .int .i64 (w64 ((w64 (p0.Inputs + 1)) + s1))] hG hF Try.call70 rfl rfl (fun w hC hg => (spec_l01In_ok x2.A (w64 (0 - (w64 ((w64 (p0.Inputs + 1)) + s1)))) (w64 ((w64 (p0.Inputs + 1)) + s1)) hx3).mono fun e w' ⟨v, he, hv, hc⟩ => ⟨v, he, hc, hv⟩)), np_to ow (np_loadBox hG hF ty3 rfl rfl (hs.bx 0 rfl) rfl rfl rfl), np_to ow (np_call [.int .i64 x2.B, .int .i64 (w64 (0 - (w64 ((w64 (p0.Inputs + 1)) + s1)))), .int .i64 (w64 ((w64 (p0.Inputs + 1)) + s1))] hG hF Try.call70 rfl rfl (fun w hC hg => (spec_l01In_ok x2.B (w64 (0 - (w64 ((w64 (p0.Inputs + 1)) + s1)))) (w64 ((w64 (p0.Inputs + 1)) + s1)) (iteF hg.2 hx4)).mono fun e w' ⟨v, he, hv, hc⟩ => ⟨v, he, hc, hv⟩)), np_to ow (np_loadBox hG hF ty3 rfl rfl (hs.bx 0 rfl) rfl rfl rfl), np_to ow (np_call [.int .i64 x2.A] hG hF Try.call84 rfl rfl (fun w hC hg => (spec_l03Abs_ok x2.A (iteF hg.2 hx5)).mono fun e w' ⟨v, he, hv, hc⟩ => ⟨v, he, hc, hv⟩)), np_to ow (np_loadBox hG hF ty3 rfl rfl (hs.bx 0 rfl) rfl rfl rfl), np_to ow (np_call [.int .i64 x2.A] hG hF Try.call84 rfl rfl (fun w hC hg => (spec_l03Abs_ok x2.A (iteF hg.2 hx6)).mono fun e w' ⟨v, he, hv, hc⟩ => ⟨v, he, hc, hv⟩)), np_to ow (np_loadBox hG hF ty3 rfl rfl (hs.bx 0 rfl) rfl rfl rfl), np_to ow (np_call [.int .i64 x2.B] hG hF Try.call84 rfl rfl (fun w hC hg => (spec_l03Abs_ok x2.B (iteF hg.2 hx7)).mono fun e w' ⟨v, he, hv, hc⟩ => ⟨v, he, hc, hv⟩)), trivial⟩) (by kernel_rfl) fun ow fr w5 hF hE hc => ?_)
      have r1 := r1.ext hc
      have hs := hs.ext hc
      have hM1 := hM1.ext hc
      refine from_end rfl (then_normal ?_)
      refine (wp_if hF (b := ((((!x3) || (!x4)) || (decide (x5 < 2))) || (decide (x6 ≥ x7)))) rfl (fun hb => ?_) (fun hb => ?_))
      · replace h := iteT hb h
        have hs : Sep [] w5 S5 := Sep.pick [] hs (by decide) rfl
        refine wp_seq (wp_pure [(2, .bool false)] hF (by kernel_rfl) fun fr hF => then_normal ?_)
        obtain rfl := hr1 _ (Option.some.inj h).symm
        obtain rfl := Option.some.inj hk1
        exact wp_ret (then_ret (blk_ret (then_ret (then_ret (blk_ret (then_ret (ret1 rfl hF rfl ⟨_, rfl, rfl, (hM0.trans hM1).chg⟩)))))))
      replace h := iteF hb h
      refine (wp_skip (then_normal ?_))
      refine wp_seq (wp_text' ?_)
      refine from_pure 1 [(1, .pointer (some ⟨b1, 0, none⟩)), (3, .int .i64 s1), (4, .pointer (some ⟨b2, 0, none⟩)), (19, .slice a1 (List.length p0.Gates) c1), (20, .int .i64 (len p0.Gates)), (21, .int .i64 s1), (62, .pointer (some ⟨b1, 1, none⟩))] hF (by kernel_rfl) fun fr hF => ?_
      refine s_loadBox (.slice a1 (List.length p0.Gates) c1) ty26 rfl rfl hF rfl (hs.bx 1 rfl) rfl rfl fun fr hF => ?_
      refine from_pure 1 [(1, .pointer (some ⟨b1, 0, none⟩)), (4, .pointer (some ⟨b2, 0, none⟩)), (19, .slice a1 (List.length p0.Gates) c1), (20, .int .i64 (len p0.Gates)), (21, .int .i64 s1), (63, .slice a1 (List.length p0.Gates) c1), (64, .int .i64 s1)] hF (by kernel_rfl) fun fr hF => ?_
      obtain ⟨x8, hx8, h⟩ := bindE h
      refine s_slice ty59 Try.underlying26 rfl rfl hF rfl (r1) rfl ⟨_, rfl⟩ hx8 fun v2 fr r2 hF => ?_
      obtain ⟨a2, c2, rfl, -⟩ := r2.slice
      refine from_pure 2 [(1, .pointer (some ⟨b1, 0, none⟩)), (4, .pointer (some ⟨b2, 0, none⟩)), (19, .slice a1 (List.length p0.Gates) c1), (20, .int .i64 (len p0.Gates)), (21, .int .i64 s1), (65, .slice a2 (List.length x8) c2), (66, .int .i64 (len x8)), (67, .int .i64 0)] hF (by kernel_rfl) fun fr hF => ?_
      refine from_end rfl (then_normal ?_)
      obtain ⟨rl2, hit2, h⟩ := bindE h
      have hk2 := h
      refine (wp_cut' (M := fun fr w' => ∃ s, rl2 = .inl s ∧ ∃ S7 F4, FrS 76 [(1, .pointer (some ⟨b1, 0, none⟩)), (19, .slice a1 (List.length p0.Gates) c1), (20, .int .i64 (len p0.Gates)), (21, .int .i64 s1)] fr ∧ Mem w5 S5 F1 w' S7 F4 ∧ Sep [BX b1 28 [.int .i64 p0.Inputs, .slice a1 (List.length p0.Gates) c1]] w' S7) (wp_block (wp_iter (Inv := fun s2 fr w' => ∃ S6 F3, FrS 76 [(1, .pointer (some ⟨b1, 0, none⟩)), (4, .pointer (some ⟨b2, 0, none⟩)), (19, .slice a1 (List.length p0.Gates) c1), (20, .int .i64 (len p0.Gates)), (21, .int .i64 s1), (65, .slice a2 (List.length x8) c2), (66, .int .i64 (len x8)), (67, .int .i64 s2)] fr ∧ Mem w5 S5 F1 w' S6 F3 ∧ Sep [BX b2 59 [.int .i64 x2.A, .int .i64 x2.B], BX b1 28 [.int .i64 p0.Inputs, .slice a1 (List.length p0.Gates) c1]] w' S6) hit2 ⟨S5, _, hF.sub _ (by kernel_rfl), (Mem.start hM1.bd hM1.bdF hM1.dj), hs⟩ fun s2 q2 fr w2i hI h hr2 => ?_)) fun fr w2o hM => ?_)
      · obtain ⟨S6, F3, hF, hM2, hs⟩ := hI
        have r1 := r1.mem hM2
        have r2 := r2.mem hM2
        refine wp_seq (wp_pure [(1, .pointer (some ⟨b1, 0, none⟩)), (4, .pointer (some ⟨b2, 0, none⟩)), (19, .slice a1 (List.length p0.Gates) c1), (20, .int .i64 (len p0.Gates)), (21, .int .i64 s1), (65, .slice a2 (List.length x8) c2), (66, .int .i64 (len x8)), (67, .int .i64 s2), (68, .bool (decide (s2 < (len x8))))] hF (by kernel_rfl) fun fr hF => then_normal ?_)
        refine wp_seq (wp_if hF (b := (decide (s2 < (len x8)))) rfl (fun hb => ?_) (fun hb => ?_))
        · replace h := iteT hb h
          refine (wp_skip (then_normal ?_))
          refine wp_seq (wp_block ?_)
          refine wp_seq (wp_text' ?_)
          obtain ⟨x9, hx9, h⟩ := bindE h
          refine s_elemF (z := x9) (.agg #[.int .i64 x9.A, .int .i64 x9.B]) ty59 Try.underlying26 rfl rfl rfl rfl rfl hF rfl (r2) rfl (get?_nn hx9) (get?_at hx9) rfl fun p fr hF => ?_
          refine q_alloc (z := .agg #[.int .i64 0, .int .i64 0]) hs hM2 [.int .i64 0, .int .i64 0] rfl rfl hF (by kernel_rfl) rfl fun b3 w6 S8 fr hs hp hF => ?_
          have r1 := r1.stp hM2 hp
          have r2 := r2.stp hM2 hp
          have hM2 := hM2.stp hp
          have hs : Sep [BX b3 59 [.int .i64 0, .int .i64 0], BX b2 59 [.int .i64 x2.A, .int .i64 x2.B], BX b1 28 [.int .i64 p0.Inputs, .slice a1 (List.length p0.Gates) c1]] w6 S8 := hs
          refine q_storeBoxS 0 hs hM2 rfl [.int .i64 x9.A, .int .i64 x9.B] rfl hF rfl rfl (by kernel_rfl) rfl rfl rfl fun w7 S9 hs hp hF => ?_
          have r1 := r1.stp hM2 hp
          have r2 := r2.stp hM2 hp
          have hM2 := hM2.stp hp
          have hs : Sep [BX b3 59 [.int .i64 x9.A, .int .i64 x9.B], BX b2 59 [.int .i64 x2.A, .int .i64 x2.B], BX b1 28 [.int .i64 p0.Inputs, .slice a1 (List.length p0.Gates) c1]] w7 S9 := hs
          refine from_end rfl (then_normal ?_)
          refine wp_seq (wp_text' ?_)
          refine s_loadBoxS ty59 rfl rfl hF rfl (hs.bx 1 rfl) rfl rfl fun fr hF => ?_
          refine s_loadBoxS ty59 rfl rfl hF rfl (hs.bx 0 rfl) rfl rfl fun fr hF => ?_
          have hs : Sep [BX b2 59 [.int .i64 x2.A, .int .i64 x2.B], BX b1 28 [.int .i64 p0.Inputs, .slice a1 (List.length p0.Gates) c1]] w7 S9 := Sep.pick [1, 2] hs (by decide) rfl
          refine s_bin rfl rfl hF rfl rfl (eqg59 _ _ _ _ _) (eq59 x2 x9 _) fun fr hF => ?_
          refine from_end rfl (then_normal ?_)
          refine (wp_if hF (b := (decide (x2 = x9))) rfl (fun hb => ?_) (fun hb => ?_))
          · replace h := iteT hb h
            have hs : Sep [] w7 S9 := Sep.pick [] hs (by decide) rfl
            refine wp_seq (wp_pure [(2, .bool false)] hF (by kernel_rfl) fun fr hF => then_normal ?_)
            obtain rfl := hr2 _ (Option.some.inj h).symm
            obtain rfl := hr1 _ (Option.some.inj hk2).symm
            obtain rfl := Option.some.inj hk1
            exact wp_ret (blk_ret (then_ret (then_ret (blk_ret (then_ret (blk_ret (then_ret (then_ret (blk_ret (then_ret (ret1 rfl hF rfl ⟨_, rfl, rfl, ((hM0.trans hM1).trans hM2).chg⟩)))))))))))
          replace h := iteF hb h
          refine (wp_skip ?_)
          refine blk_normal (then_normal ?_)
          refine (wp_pure [(1, .pointer (some ⟨b1, 0, none⟩)), (4, .pointer (some ⟨b2, 0, none⟩)), (19, .slice a1 (List.length p0.Gates) c1), (20, .int .i64 (len p0.Gates)), (21, .int .i64 s1), (65, .slice a2 (List.length x8) c2), (66, .int .i64 (len x8)), (67, .int .i64 (w64 (s2 + 1)))] hF (by kernel_rfl) fun fr hF => then_normal ?_)
          exact ⟨_, (Option.some.inj h).symm, S9, _, hF.sub _ (by kernel_rfl), hM2, hs⟩
        replace h := iteF hb h
        have hs : Sep [BX b1 28 [.int .i64 p0.Inputs, .slice a1 (List.length p0.Gates) c1]] w2i S6 := Sep.pick [1] hs (by decide) rfl
        refine (wp_exit (then_exit (then_exit (blk_exit_eq ?_))))
        obtain rfl := hr2 _ (Option.some.inj h).symm
        exact then_normal ⟨_, rfl, S6, _, hF.sub _ (by kernel_rfl), hM2, hs⟩
      · obtain ⟨s2r, rfl, hM⟩ := hM
        obtain ⟨S7, F4, hF, hMx, hs⟩ := hM
        have r1 := r1.mem hMx
        have hM1 := hM1.trans hMx
        refine blk_normal (then_normal ?_)
        refine (wp_pure [(1, .pointer (some ⟨b1, 0, none⟩)), (19, .slice a1 (List.length p0.Gates) c1), (20, .int .i64 (len p0.Gates)), (21, .int .i64 (w64 (s1 + 1)))] hF (by kernel_rfl) fun fr hF => then_normal ?_)
        exact ⟨_, (Option.some.inj h).symm, S7, _, hF.sub _ (by kernel_rfl), hM1, hs⟩
    replace h := iteF hb h
    have hs : Sep [] w1i S2 := Sep.pick [] hs (by decide) rfl
    refine (wp_exit (then_exit (then_exit (blk_exit_eq ?_))))
    obtain rfl := hr1 _ (Option.some.inj h).symm
    exact then_normal ⟨_, rfl, S2, _, hF.sub _ (by kernel_rfl), hM1, hs⟩
  · obtain ⟨s1r, rfl, hM⟩ := hM
    obtain ⟨S3, F2, hF, hMx, hs⟩ := hM
    have hM0 := hM0.trans hMx
    refine wp_seq (wp_pure [(2, .bool true)] hF (by kernel_rfl) fun fr hF => then_normal ?_)
    obtain rfl := Option.some.inj h
    exact wp_ret (ret1 rfl hF rfl ⟨_, rfl, rfl, hM0.chg⟩)

theorem spec_l03Lits_ok (n : Nat) (p0 : List Int) (p1 : Int) {r : Bool} (h : spec_l03Lits n p0 p1 = some r) {w : World} {G0 : Nat → Prop} {va0 : Value} (ra0 : RV w G0 va0 p0) :
    Calls Try.prog 85 [va0, .int .i64 p1].toArray w fun e w' => ∃ v, e = .returned v ∧ v = .bool r ∧ Chg Non w w' := by
  unfold spec_l03Lits at h
  have hs := Sep.nil w Non
  have hM0 : Mem w Non (fun k => (G0 k) ∧ k < w.heap.size) w Non (fun k => (G0 k) ∧ k < w.heap.size) := Mem.start (fun _ h => h.elim) (fun _ h => h.2) (fun _ h => h.elim)
  have ra0 := ra0.sub (F' := (fun k => (G0 k) ∧ k < w.heap.size)) (fun k hk h => ⟨h, hk⟩)
  obtain ⟨a1, c1, rfl, -⟩ := ra0.slice
  refine enter (N := 24) Try.func85 rfl Try.ntmps85 rfl fun fr hF => ?_
  refine wp_seq (wp_pure [(0, .slice a1 (List.length p0) c1), (1, .int .i64 p1)] hF (by kernel_rfl) fun fr hF => then_normal ?_)
  refine wp_seq ?_
  refine wp_seq (wp_pure [(1, .int .i64 p1), (7, .slice a1 (List.length p0) c1), (8, .int .i64 (len p0)), (9, .int .i64 0)] hF (by kernel_rfl) fun fr hF => then_normal ?_)
  obtain ⟨rl1, hit1, h⟩ := bindE h
  have hk1 := h
  refine (wp_cut (M := fun fr w' => ∃ s, rl1 = .inl s ∧ ∃ S2 F2, FrS 24 [] fr ∧ Mem w Non (fun k => (G0 k) ∧ k < w.heap.size) w' S2 F2 ∧ Sep [] w' S2) (wp_block (wp_iter (Inv := fun s1 fr w' => ∃ S1 F1, FrS 24 [(1, .int .i64 p1), (7, .slice a1 (List.length p0) c1), (8, .int .i64 (len p0)), (9, .int .i64 s1)] fr ∧ Mem w Non (fun k => (G0 k) ∧ k < w.heap.size) w' S1 F1 ∧ Sep [] w' S1) hit1 ⟨Non, _, hF.sub _ (by kernel_rfl), (Mem.start hM0.bd hM0.bdF hM0.dj), hs⟩ fun s1 q1 fr w1i hI h hr1 => ?_)) fun fr w1o hM => ?_)
  · obtain ⟨S1, F1, hF, hM1, hs⟩ := hI
    have ra0 := ra0.mem hM1
    refine wp_seq (wp_pure [(1, .int .i64 p1), (7, .slice a1 (List.length p0) c1), (8, .int .i64 (len p0)), (9, .int .i64 s1), (10, .bool (decide (s1 < (len p0))))] hF (by kernel_rfl) fun fr hF => then_normal ?_)
    refine wp_seq (wp_if hF (b := (decide (s1 < (len p0)))) rfl (fun hb => ?_) (fun hb => ?_))
    · replace h := iteT hb h
      refine (wp_skip (then_normal ?_))
      refine wp_seq (wp_block ?_)
      refine wp_seq (wp_text' ?_)
      obtain ⟨x1, hx1, h⟩ := bindE h
      refine s_elemF (z := x1) (.int .i64 x1) ty3 Try.underlying37 rfl rfl rfl rfl rfl hF rfl (ra0) rfl (get?_nn hx1) (get?_at hx1) rfl fun p fr hF => ?_
      refine from_pure 1 [(1, .int .i64 p1), (6, .int .i64 x1), (7, .slice a1 (List.length p0) c1), (8, .int .i64 (len p0)), (9, .int .i64 s1)] hF (by kernel_rfl) fun fr hF => ?_
      refine from_end rfl (then_normal ?_)
      obtain ⟨x2, hx2, h⟩ := bindE h
      refine wp_seq (region_b [] [true, true, true, true, true, true, true, false, true, true]
          [.eq (.int .i64 x1), .eq (.bool (x1 == 0)), .eq (.bool (x1 == 0)), .eq (.int .i64 x1), .eq (.int .i64 p1), .eq (.int .i64 (w64 (0 - p1))), .eq (.int .i64 p1), .eq (.bool x2), .eq (.bool (!x2)), .eq (.bool ((x1 == 0) || (!x2)))]
          [(1, .int .i64 p1), (7, .slice a1 (List.length p0) c1), (8, .int .i64 (len p0)), (9, .int .i64 s1), (22, .bool ((x1 == 0) || (!x2)))] mix hF (by kernel_rfl) (by kernel_rfl) (by kernel_rfl) ⟨Pd.mono_eq, trivial⟩ (fun hG => ⟨np_call [.int .i64 x1, .int .i64 (w64 (0 - p1)), .int .i64 p1] hG hF Try.call70 rfl rfl (fun w hC hg => (spec_l01In_ok x1 (w64 (0 - p1)) p1 (iteF hg.2 hx2)).mono fun e w' ⟨v, he, hv, hc⟩ => ⟨v, he, hc, hv⟩), trivial⟩) (by kernel_rfl) fun fr w1 hF hE hc => then_normal ?_)
      have ra0 := ra0.ext hc
      have hs := hs.ext hc
      have hM1 := hM1.ext hc
      refine (wp_if hF (b := ((x1 == 0) || (!x2))) rfl (fun hb => ?_) (fun hb => ?_))
      · replace h := iteT hb h
        refine wp_seq (wp_pure [(4, .bool false)] hF (by kernel_rfl) fun fr hF => then_normal ?_)
        obtain rfl := hr1 _ (Option.some.inj h).symm
        obtain rfl := Option.some.inj hk1
        exact wp_ret (blk_ret (then_ret (then_ret (blk_ret (then_ret (ret1 rfl hF rfl ⟨_, rfl, rfl, (hM0.trans hM1).chg⟩))))))
      replace h := iteF hb h
      refine (wp_skip ?_)
      refine blk_normal (then_normal ?_)
      refine (wp_pure [(1, .int .i64 p1), (7, .slice a1 (List.length p0) c1), (8, .int .i64 (len p0)), (9, .int .i64 (w64 (s1 + 1)))] hF (by kernel_rfl) fun fr hF => then_normal ?_)
      exact ⟨_, (Option.some.inj h).symm, S1, _, hF.sub _ (by kernel_rfl), hM1, hs⟩
    replace h := iteF hb h
    refine (wp_exit (then_exit (then_exit (blk_exit_eq ?_))))
    obtain rfl := hr1 _ (Option.some.inj h).symm
    exact then_normal ⟨_, rfl, S1, _, hF.sub _ (by kernel_rfl), hM1, hs⟩
  · obtain ⟨s1r, rfl, hM⟩ := hM
    obtain ⟨S2, F2, hF, hMx, hs⟩ := hM
    have hM0 := hM0.trans hMx
    refine wp_seq (wp_pure [(4, .bool true)] hF (by kernel_rfl) fun fr hF => then_normal ?_)
    obtain rfl := Option.some.inj h
    exact wp_ret (ret1 rfl hF rfl ⟨_, rfl, rfl, hM0.chg⟩)

theorem spec_l04Lits_ok (n : Nat) (p0 : D.Circuit) (p1 : List Int) {r : Bool} (h : spec_l04Lits n p0 p1 = some r) {w : World} {G0 : Nat → Prop} {va0 : Value} (ra0 : RV w G0 va0 p0) {G1 : Nat → Prop} {va1 : Value} (ra1 : RV w G1 va1 p1) :
    Calls Try.prog 44 [va0, va1].toArray w fun e w' => ∃ v, e = .returned v ∧ v = .bool r ∧ Chg Non w w' := by
  unfold spec_l04Lits at h
  have hs := Sep.nil w Non
  have hM0 : Mem w Non (fun k => (G0 k ∨ G1 k) ∧ k < w.heap.size) w Non (fun k => (G0 k ∨ G1 k) ∧ k < w.heap.size) := Mem.start (fun _ h => h.elim) (fun _ h => h.2) (fun _ h => h.elim)
  have ra0 := ra0.sub (F' := (fun k => (G0 k ∨ G1 k) ∧ k < w.heap.size)) (fun k hk h => ⟨.inl h, hk⟩)
  obtain ⟨v1, rfl, r1⟩ := RV.Circuit ra0
  obtain ⟨a1, c1, rfl, -⟩ := r1.slice
  have ra1 := ra1.sub (F' := (fun k => (G0 k ∨ G1 k) ∧ k < w.heap.size)) (fun k hk h => ⟨.inr (h), hk⟩)
  obtain ⟨a2, c2, rfl, -⟩ := ra1.slice
  refine enter (N := 14) Try.func44 rfl Try.ntmps44 rfl fun fr hF => ?_
  refine wp_seq (wp_text' ?_)
  refine q_box hs hM0 [.int .i64 p0.Inputs, .slice a1 (List.length p0.Gates) c1] rfl rfl hF rfl rfl fun b1 w1 S1 fr hs hp hF => ?_
  have r1 := r1.stp hM0 hp
  have ra1 := ra1.stp hM0 hp
  have hM0 := hM0.stp hp
  have hs : Sep [BX b1 28 [.int .i64 p0.Inputs, .slice a1 (List.length p0.Gates) c1]] w1 S1 := hs
  refine from_pure 1 [(1, .slice a2 (List.length p1) c2), (2, .pointer (some ⟨b1, 0, none⟩))] hF (by kernel_rfl) fun fr hF => ?_
  refine from_end rfl (then_normal ?_)
  refine wp_seq (wp_text' ?_)
  refine from_pure 2 [(2, .pointer (some ⟨b1, 0, none⟩)), (5, .slice a2 (List.length p1) c2), (6, .pointer (some ⟨b1, 0, none⟩))] hF (by kernel_rfl) fun fr hF => ?_
  refine s_loadBox (.int .i64 p0.Inputs) ty3 rfl rfl hF rfl (hs.bx 0 rfl) rfl rfl fun fr hF => ?_
  refine from_pure 2 [(5, .slice a2 (List.length p1) c2), (8, .int .i64 (w64 (p0.Inputs + 1))), (9, .pointer (some ⟨b1, 1, none⟩))] hF (by kernel_rfl) fun fr hF => ?_
  refine s_loadBox (.slice a1 (List.length p0.Gates) c1) ty26 rfl rfl hF rfl (hs.bx 0 rfl) rfl rfl fun fr hF => ?_
  have hs : Sep [] w1 S1 := Sep.pick [] hs (by decide) rfl
  refine from_pure 2 [(5, .slice a2 (List.length p1) c2), (12, .int .i64 (w64 ((w64 (p0.Inputs + 1)) + (len p0.Gates))))] hF (by kernel_rfl) fun fr hF => ?_
  obtain ⟨x1, hx1, h⟩ := bindE h
  refine s_call [.slice a2 (List.length p1) c2, .int .i64 (w64 ((w64 (p0.Inputs + 1)) + (len p0.Gates)))] Try.call85 rfl rfl hF rfl (spec_l03Lits_ok n p1 (w64 ((w64 (p0.Inputs + 1)) + (len p0.Gates))) hx1 (ra1)) fun v w2 fr hRes hF => ?_
  obtain ⟨rfl, hc⟩ := hRes
  have ra1 := ra1.ext hc
  have hs := hs.ext hc
  have hM0 := hM0.ext hc
  refine from_pure 1 [(4, .bool x1)] hF (by kernel_rfl) fun fr hF => ?_
  refine from_end rfl (then_normal ?_)
  obtain rfl := Option.some.inj h
  exact wp_ret (ret1 rfl hF rfl ⟨_, rfl, rfl, hM0.chg⟩)

theorem spec_l04New_ok (p0 : D.Circuit) {r : D.l04Net} (h : spec_l04New p0 = some r) {w : World} {G0 : Nat → Prop} {va0 : Value} (ra0 : RV w G0 va0 p0) :
    Calls Try.prog 45 [va0].toArray w fun e w' => ∃ v, e = .returned v ∧ ∃ b3 a1 c1, v = .pointer (some ⟨b3, 0, none⟩) ∧ ∃ S', Stp w Non w' S' ∧ Sep [BX b3 76 [.int .i64 r.c.Inputs, .slice a1 (List.length r.c.Gates) c1, .bool r.full], SL (α := D.Gate) 59 (.slice a1 (List.length r.c.Gates) c1) r.c.Gates] w' S' := by
  unfold spec_l04New at h
  have hs := Sep.nil w Non
  have hM0 : Mem w Non (fun k => (G0 k) ∧ k < w.heap.size) w Non (fun k => (G0 k) ∧ k < w.heap.size) := Mem.start (fun _ h => h.elim) (fun _ h => h.2) (fun _ h => h.elim)
  have ra0 := ra0.sub (F' := (fun k => (G0 k) ∧ k < w.heap.size)) (fun k hk h => ⟨h, hk⟩)
  obtain ⟨v1, rfl, r1⟩ := RV.Circuit ra0
  obtain ⟨a1, c1, rfl, -⟩ := r1.slice
  refine enter (N := 12) Try.func45 rfl Try.ntmps45 rfl fun fr hF => ?_
  refine wp_seq (wp_text' ?_)
  refine q_box hs hM0 [.int .i64 p0.Inputs, .slice a1 (List.length p0.Gates) c1] rfl rfl hF rfl rfl fun b1 w1 S1 fr hs hp hF => ?_
  have r1 := r1.stp hM0 hp
  have hM0 := hM0.stp hp
  have hs : Sep [BX b1 28 [.int .i64 p0.Inputs, .slice a1 (List.length p0.Gates) c1]] w1 S1 := hs
  refine from_pure 1 [(1, .pointer (some ⟨b1, 0, none⟩))] hF (by kernel_rfl) fun fr hF => ?_
  refine from_end rfl (then_normal ?_)
  obtain ⟨x1, hx1, h⟩ := bindE h
  refine wp_seq (region_bm 6 [0, 1, 0, 0, 8, 28, 63, 127, 255, 511] [true, false, false, true, false, false]
      [.eq (.pointer (some ⟨b1, 0, none⟩)), .eq (.int .i64 p0.Inputs), .is fun v _ => ∃ b, v = .slice b 0 0, .eq (.pointer (some ⟨b1, 1, none⟩)), .eq (.slice a1 (List.length p0.Gates) c1), .own fun ow v w => ∃ i : Option Addr × Nat, v = .slice i.1 (List.length x1) i.2 ∧ (SL (α := D.Gate) 59 (.slice i.1 (List.length x1) i.2) x1).ok w (fun k => w1.heap.size ≤ k ∧ k < w.heap.size ∧ ow k = 5), .any, .any, .any, .any]
      [(4, .int .i64 p0.Inputs)] mix hF (by kernel_rfl) (by kernel_rfl) (by kernel_rfl) (by kernel_rfl) ⟨Pd.monoO_eq, (Pd.monoO_is mono_lit0), Pd.monoO_eq, mono_new, trivial⟩ (fun ow hG => ⟨np_to ow (np_loadBox hG hF ty3 rfl rfl (hs.bx 0 rfl) rfl rfl rfl), np_to ow (np_lit0 (E := 59) hG hF rfl (fun w => by kernel_rfl) rfl), np_to ow (np_loadBox hG hF ty26 rfl rfl (hs.bx 0 rfl) rfl rfl rfl), np_appE (i := 2) (s := 5) hG hF Try.underlying26 el59 rfl rfl rfl rfl rfl rfl rfl (r1) (fun hg => hx1) rfl, trivial⟩) (by kernel_rfl) fun ow fr w2 hF hE hc => ?_)
  obtain ⟨⟨a2, c2⟩, hv, hnw5⟩ := hE.is 8 5 rfl rfl
  have hF := hF.cons hv
  have hsN := sepO (w0 := w1) (ow := ow) [(5, SL (α := D.Gate) 59 (.slice a2 (List.length x1) c2) x1)] (show ([5] : List Nat).Nodup by decide) ⟨hnw5, trivial⟩ rfl
  obtain ⟨S2, hp, hs⟩ := hs.got hM0 (stp_new hc) hsN
  have r1 := r1.stp hM0 hp
  have hM0 := hM0.stp hp
  have hs : Sep [SL (α := D.Gate) 59 (.slice a2 (List.length x1) c2) x1, BX b1 28 [.int .i64 p0.Inputs, .slice a1 (List.length p0.Gates) c1]] w2 S2 := hs
  have hs : Sep [SL (α := D.Gate) 59 (.slice a2 (List.length x1) c2) x1] w2 S2 := Sep.pick [0] hs (by decide) rfl
  refine from_pure 2 [(10, .agg #[.int .i64 p0.Inputs, .slice a2 (List.length x1) c2, .bool false])] hF (by kernel_rfl) fun fr hF => ?_
  refine q_box hs hM0 [.int .i64 p0.Inputs, .slice a2 (List.length x1) c2, .bool false] rfl rfl hF rfl rfl fun b2 w3 S3 fr hs hp hF => ?_
  have hM0 := hM0.stp hp
  have hs : Sep [BX b2 76 [.int .i64 p0.Inputs, .slice a2 (List.length x1) c2, .bool false], SL (α := D.Gate) 59 (.slice a2 (List.length x1) c2) x1] w3 S3 := hs
  refine from_pure 1 [(2, .pointer (some ⟨b2, 0, none⟩))] hF (by kernel_rfl) fun fr hF => ?_
  refine from_end rfl (then_normal ?_)
  obtain rfl := Option.some.inj h
  exact wp_ret (ret1 rfl hF rfl ⟨_, rfl, b2, a2, c2, rfl, S3, hM0.out, hs⟩)

theorem spec_l04Net_l04And_ok (n : Nat) (p0 : D.l04Net) (p1 : Int) (p2 : Int) {r : Int × D.l04Net} (h : spec_l04Net_l04And n p0 p1 p2 = some r) {w : World} {S0 F0 : Nat → Prop} {pa0 : Option Addr} {pn0 pc0 : Nat} {b1 : Nat} (hs : Sep [BX b1 76 [.int .i64 p0.c.Inputs, .slice pa0 pn0 pc0, .bool p0.full], SL (α := D.Gate) 59 (.slice pa0 pn0 pc0) p0.c.Gates] w S0) (hb : ∀ k, S0 k → k < w.heap.size) (hd : ∀ k, S0 k → F0 k → False) :
    Calls Try.prog 46 [.pointer (some ⟨b1, 0, none⟩), .int .i64 p1, .int .i64 p2].toArray w fun e w' => ∃ v, e = .returned v ∧ ∃ a1 c1, v = .int .i64 r.1 ∧ ∃ S', Stp w S0 w' S' ∧ Sep [BX b1 76 [.int .i64 r.2.c.Inputs, .slice a1 (List.length r.2.c.Gates) c1, .bool r.2.full], SL (α := D.Gate) 59 (.slice a1 (List.length r.2.c.Gates) c1) r.2.c.Gates] w' S' := by
  unfold spec_l04Net_l04And at h
  obtain ⟨hpn, hs⟩ := hs.relen 1 rfl
  subst hpn
  have hs : Sep [BX b1 76 [.int .i64 p0.c.Inputs, .slice pa0 (List.length p0.c.Gates) pc0, .bool p0.full], SL (α := D.Gate) 59 (.slice pa0 (List.length p0.c.Gates) pc0) p0.c.Gates] w S0 := hs
  have hM0 : Mem w S0 (fun k => F0 k ∧ k < w.heap.size) w S0 (fun k => F0 k ∧ k < w.heap.size) := Mem.start hb (fun _ h => h.2) (fun k h1 h2 => hd k h1 h2.1)
  refine enter (N := 104) Try.func46 rfl Try.ntmps46 rfl fun fr hF => ?_
  refine wp_seq (wp_pure [(0, .pointer (some ⟨b1, 0, none⟩)), (1, .int .i64 p1), (2, .int .i64 p2)] hF (by kernel_rfl) fun fr hF => then_normal ?_)
  refine wp_seq (wp_block ?_)
  refine wp_seq (region_b [] [true, true, true, true, true, true, true, true, true, true, true, true, true]
      [.eq (.int .i64 p1), .eq (.bool (p1 == (-1))), .eq (.bool (p1 == (-1))), .eq (.int .i64 p2), .eq (.bool (p2 == (-1))), .eq (.bool ((p1 == (-1)) || (p2 == (-1)))), .eq (.bool ((p1 == (-1)) || (p2 == (-1)))), .eq (.int .i64 p1), .eq (.int .i64 p2), .eq (.int .i64 (w64 (0 - p2))), .eq (.bool (p1 == (w64 (0 - p2)))), .eq (.bool (((p1 == (-1)) || (p2 == (-1))) || (p1 == (w64 (0 - p2))))), .eq (.bool (((p1 == (-1)) || (p2 == (-1))) || (p1 == (w64 (0 - p2)))))]
      [(0, .pointer (some ⟨b1, 0, none⟩)), (1, .int .i64 p1), (2, .int .i64 p2), (10, .bool (((p1 == (-1)) || (p2 == (-1))) || (p1 == (w64 (0 - p2)))))] mix hF (by kernel_rfl) (by kernel_rfl) (by kernel_rfl) trivial (fun hG => trivial) (by kernel_rfl) fun fr w1 hF hE hc => then_normal ?_)
  have hs := hs.ext hc
  have hM0 := hM0.ext hc
  refine (wp_if hF (b := (((p1 == (-1)) || (p2 == (-1))) || (p1 == (w64 (0 - p2))))) rfl (fun hb => ?_) (fun hb => ?_))
  · replace h := iteT hb h
    refine wp_seq (wp_pure [(6, .int .i64 (-1))] hF (by kernel_rfl) fun fr hF => then_normal ?_)
    obtain rfl := Option.some.inj h
    exact wp_ret (blk_ret (then_ret (ret1 rfl hF rfl ⟨_, rfl, pa0, pc0, rfl, S0, hM0.out, hs⟩)))
  replace h := iteF hb h
  refine wp_seq (wp_pure [(0, .pointer (some ⟨b1, 0, none⟩)), (1, .int .i64 p1), (2, .int .i64 p2), (23, .bool (p1 == 1))] hF (by kernel_rfl) fun fr hF => then_normal ?_)
  refine (wp_if hF (b := (p1 == 1)) rfl (fun hb => ?_) (fun hb => ?_))
  · replace h := iteT hb h
    refine wp_seq (wp_pure [(6, .int .i64 p2)] hF (by kernel_rfl) fun fr hF => then_normal ?_)
    obtain rfl := Option.some.inj h
    exact wp_ret (blk_ret (then_ret (ret1 rfl hF rfl ⟨_, rfl, pa0, pc0, rfl, S0, hM0.out, hs⟩)))
  replace h := iteF hb h
  refine wp_seq (region_b [] [true, true, true, true, true, true, true, true]
      [.eq (.int .i64 p2), .eq (.bool (p2 == 1)), .eq (.bool (p2 == 1)), .eq (.int .i64 p1), .eq (.int .i64 p2), .eq (.bool (p1 == p2)), .eq (.bool ((p2 == 1) || (p1 == p2))), .eq (.bool ((p2 == 1) || (p1 == p2)))]
      [(0, .pointer (some ⟨b1, 0, none⟩)), (1, .int .i64 p1), (2, .int .i64 p2), (27, .bool ((p2 == 1) || (p1 == p2)))] mix hF (by kernel_rfl) (by kernel_rfl) (by kernel_rfl) trivial (fun hG => trivial) (by kernel_rfl) fun fr w2 hF hE hc => then_normal ?_)
  have hs := hs.ext hc
  have hM0 := hM0.ext hc
  refine (wp_if hF (b := ((p2 == 1) || (p1 == p2))) rfl (fun hb => ?_) (fun hb => ?_))
  · replace h := iteT hb h
    refine wp_seq (wp_pure [(6, .int .i64 p1)] hF (by kernel_rfl) fun fr hF => then_normal ?_)
    obtain rfl := Option.some.inj h
    exact wp_ret (blk_ret (then_ret (ret1 rfl hF rfl ⟨_, rfl, pa0, pc0, rfl, S0, hM0.out, hs⟩)))
  replace h := iteF hb h
  refine (wp_skip ?_)
  refine blk_normal (then_normal ?_)
  refine wp_seq ?_
  refine wp_seq (wp_text' ?_)
  refine from_pure 1 [(0, .pointer (some ⟨b1, 0, none⟩)), (1, .int .i64 p1), (2, .int .i64 p2), (36, .int .i64 p1)] hF (by kernel_rfl) fun fr hF => ?_
  obtain ⟨x1, hx1, h⟩ := bindE h
  refine s_call [.int .i64 p1] Try.call84 rfl rfl hF rfl (spec_l03Abs_ok p1 hx1) fun v w3 fr hRes hF => ?_
  obtain ⟨rfl, hc⟩ := hRes
  have hs := hs.ext hc
  have hM0 := hM0.ext hc
  refine from_pure 1 [(0, .pointer (some ⟨b1, 0, none⟩)), (1, .int .i64 p1), (2, .int .i64 p2), (37, .int .i64 x1), (38, .int .i64 p2)] hF (by kernel_rfl) fun fr hF => ?_
  obtain ⟨x2, hx2, h⟩ := bindE h
  refine s_call [.int .i64 p2] Try.call84 rfl rfl hF rfl (spec_l03Abs_ok p2 hx2) fun v w4 fr hRes hF => ?_
  obtain ⟨rfl, hc⟩ := hRes
  have hs := hs.ext hc
  have hM0 := hM0.ext hc
  refine from_pure 1 [(0, .pointer (some ⟨b1, 0, none⟩)), (1, .int .i64 p1), (2, .int .i64 p2), (40, .bool (decide (x1 > x2)))] hF (by kernel_rfl) fun fr hF => ?_
  refine from_end rfl (then_normal ?_)
  refine (wp_merge [(0, .pointer (some ⟨b1, 0, none⟩)), (1, .int .i64 (cond (decide (x1 > x2)) p2 p1)), (2, .int .i64 (cond (decide (x1 > x2)) p1 p2))] hF (b := (decide (x1 > x2))) rfl (fun hb => ?_) (fun hb => ?_) fun fr hF => then_normal ?_)
  · exact wp_pure [(0, .pointer (some ⟨b1, 0, none⟩)), (1, .int .i64 p2), (2, .int .i64 p1)] hF (by kernel_rfl) fun fr hF => ⟨rfl, rfl, hF.eqs (by first | (simp only [hb]; done) | (simp only [hb]; rfl))⟩
  · exact wp_skip ⟨rfl, rfl, (hF.sub [(0, .pointer (some ⟨b1, 0, none⟩)), (1, .int .i64 p1), (2, .int .i64 p2)] (by kernel_rfl)).eqs (by first | (simp only [hb]; done) | (simp only [hb]; rfl))⟩
  refine wp_seq (wp_text' ?_)
  refine from_pure 3 [(0, .pointer (some ⟨b1, 0, none⟩)), (45, .agg #[.int .i64 (cond (decide (x1 > x2)) p2 p1), .int .i64 (cond (decide (x1 > x2)) p1 p2)])] hF (by kernel_rfl) fun fr hF => ?_
  refine q_alloc (z := .agg #[.int .i64 0, .int .i64 0]) hs hM0 [.int .i64 0, .int .i64 0] rfl rfl hF (by kernel_rfl) rfl fun b2 w5 S1 fr hs hp hF => ?_
  have hM0 := hM0.stp hp
  have hs : Sep [BX b2 59 [.int .i64 0, .int .i64 0], BX b1 76 [.int .i64 p0.c.Inputs, .slice pa0 (List.length p0.c.Gates) pc0, .bool p0.full], SL (α := D.Gate) 59 (.slice pa0 (List.length p0.c.Gates) pc0) p0.c.Gates] w5 S1 := hs
  refine q_storeBoxS 0 hs hM0 rfl [.int .i64 (cond (decide (x1 > x2)) p2 p1), .int .i64 (cond (decide (x1 > x2)) p1 p2)] rfl hF rfl rfl (by kernel_rfl) rfl rfl rfl fun w6 S2 hs hp hF => ?_
  have hM0 := hM0.stp hp
  have hs : Sep [BX b2 59 [.int .i64 (cond (decide (x1 > x2)) p2 p1), .int .i64 (cond (decide (x1 > x2)) p1 p2)], BX b1 76 [.int .i64 p0.c.Inputs, .slice pa0 (List.length p0.c.Gates) pc0, .bool p0.full], SL (α := D.Gate) 59 (.slice pa0 (List.length p0.c.Gates) pc0) p0.c.Gates] w6 S2 := hs
  refine from_end rfl (then_normal ?_)
  refine wp_seq ?_
  refine wp_seq (wp_text' ?_)
  refine from_pure 4 [(0, .pointer (some ⟨b1, 0, none⟩)), (7, .pointer (some ⟨b2, 0, none⟩)), (49, .pointer (some ⟨b1, 1, none⟩))] hF (by kernel_rfl) fun fr hF => ?_
  refine s_loadBox (.slice pa0 (List.length p0.c.Gates) pc0) ty26 rfl rfl hF rfl (hs.bx 1 rfl) rfl rfl fun fr hF => ?_
  refine from_pure 2 [(0, .pointer (some ⟨b1, 0, none⟩)), (7, .pointer (some ⟨b2, 0, none⟩)), (50, .slice pa0 (List.length p0.c.Gates) pc0), (51, .int .i64 (len p0.c.Gates)), (52, .int .i64 0)] hF (by kernel_rfl) fun fr hF => ?_
  refine from_end rfl (then_normal ?_)
  obtain ⟨rl1, hit1, h⟩ := bindE h
  have hk1 := h
  refine (wp_cut (M := fun fr w' => ∃ s, rl1 = .inl s ∧ ∃ S4 F2, FrS 104 [(0, .pointer (some ⟨b1, 0, none⟩)), (7, .pointer (some ⟨b2, 0, none⟩))] fr ∧ Mem w6 S2 (fun k => F0 k ∧ k < w.heap.size) w' S4 F2 ∧ Sep [BX b2 59 [.int .i64 (cond (decide (x1 > x2)) p2 p1), .int .i64 (cond (decide (x1 > x2)) p1 p2)], BX b1 76 [.int .i64 p0.c.Inputs, .slice pa0 (List.length p0.c.Gates) pc0, .bool p0.full], SL (α := D.Gate) 59 (.slice pa0 (List.length p0.c.Gates) pc0) p0.c.Gates] w' S4) (wp_block (wp_iter (Inv := fun s1 fr w' => ∃ S3 F1, FrS 104 [(0, .pointer (some ⟨b1, 0, none⟩)), (7, .pointer (some ⟨b2, 0, none⟩)), (50, .slice pa0 (List.length p0.c.Gates) pc0), (51, .int .i64 (len p0.c.Gates)), (52, .int .i64 s1)] fr ∧ Mem w6 S2 (fun k => F0 k ∧ k < w.heap.size) w' S3 F1 ∧ Sep [BX b2 59 [.int .i64 (cond (decide (x1 > x2)) p2 p1), .int .i64 (cond (decide (x1 > x2)) p1 p2)], BX b1 76 [.int .i64 p0.c.Inputs, .slice pa0 (List.length p0.c.Gates) pc0, .bool p0.full], SL (α := D.Gate) 59 (.slice pa0 (List.length p0.c.Gates) pc0) p0.c.Gates] w' S3) hit1 ⟨S2, _, hF.sub _ (by kernel_rfl), (Mem.start hM0.bd hM0.bdF hM0.dj), hs⟩ fun s1 q1 fr w1i hI h hr1 => ?_)) fun fr w1o hM => ?_)
  · obtain ⟨S3, F1, hF, hM1, hs⟩ := hI
    refine wp_seq (wp_pure [(0, .pointer (some ⟨b1, 0, none⟩)), (7, .pointer (some ⟨b2, 0, none⟩)), (50, .slice pa0 (List.length p0.c.Gates) pc0), (51, .int .i64 (len p0.c.Gates)), (52, .int .i64 s1), (53, .bool (decide (s1 < (len p0.c.Gates))))] hF (by kernel_rfl) fun fr hF => then_normal ?_)
    refine wp_seq (wp_if hF (b := (decide (s1 < (len p0.c.Gates)))) rfl (fun hb => ?_) (fun hb => ?_))
    · replace h := iteT hb h
      refine (wp_skip (then_normal ?_))
      refine wp_seq (wp_block ?_)
      refine wp_seq (wp_text' ?_)
      refine from_pure 1 [(0, .pointer (some ⟨b1, 0, none⟩)), (7, .pointer (some ⟨b2, 0, none⟩)), (50, .slice pa0 (List.length p0.c.Gates) pc0), (51, .int .i64 (len p0.c.Gates)), (52, .int .i64 s1), (54, .int .i64 s1)] hF (by kernel_rfl) fun fr hF => ?_
      obtain ⟨x3, hx3, h⟩ := bindE h
      refine s_elemF (z := x3) (.agg #[.int .i64 x3.A, .int .i64 x3.B]) ty59 Try.underlying26 rfl rfl rfl rfl rfl hF rfl (hs.rv 2 rfl) rfl (get?_nn hx3) (get?_at hx3) rfl fun p fr hF => ?_
      refine q_alloc (z := .agg #[.int .i64 0, .int .i64 0]) hs hM1 [.int .i64 0, .int .i64 0] rfl rfl hF (by kernel_rfl) rfl fun b3 w7 S5 fr hs hp hF => ?_
      have hM1 := hM1.stp hp
      have hs : Sep [BX b3 59 [.int .i64 0, .int .i64 0], BX b2 59 [.int .i64 (cond (decide (x1 > x2)) p2 p1), .int .i64 (cond (decide (x1 > x2)) p1 p2)], BX b1 76 [.int .i64 p0.c.Inputs, .slice pa0 (List.length p0.c.Gates) pc0, .bool p0.full], SL (α := D.Gate) 59 (.slice pa0 (List.length p0.c.Gates) pc0) p0.c.Gates] w7 S5 := hs
      refine from_pure 1 [(0, .pointer (some ⟨b1, 0, none⟩)), (7, .pointer (some ⟨b2, 0, none⟩)), (8, .int .i64 s1), (9, .pointer (some ⟨b3, 0, none⟩)), (50, .slice pa0 (List.length p0.c.Gates) pc0), (51, .int .i64 (len p0.c.Gates)), (52, .int .i64 s1), (56, .agg #[.int .i64 x3.A, .int .i64 x3.B])] hF (by kernel_rfl) fun fr hF => ?_
      refine q_storeBoxS 0 hs hM1 rfl [.int .i64 x3.A, .int .i64 x3.B] rfl hF rfl rfl (by kernel_rfl) rfl rfl rfl fun w8 S6 hs hp hF => ?_
      have hM1 := hM1.stp hp
      have hs : Sep [BX b3 59 [.int .i64 x3.A, .int .i64 x3.B], BX b2 59 [.int .i64 (cond (decide (x1 > x2)) p2 p1), .int .i64 (cond (decide (x1 > x2)) p1 p2)], BX b1 76 [.int .i64 p0.c.Inputs, .slice pa0 (List.length p0.c.Gates) pc0, .bool p0.full], SL (α := D.Gate) 59 (.slice pa0 (List.length p0.c.Gates) pc0) p0.c.Gates] w8 S6 := hs
      refine from_end rfl (then_normal ?_)
      refine wp_seq (wp_text' ?_)
      refine s_loadBoxS ty59 rfl rfl hF rfl (hs.bx 1 rfl) rfl rfl fun fr hF => ?_
      refine s_loadBoxS ty59 rfl rfl hF rfl (hs.bx 0 rfl) rfl rfl fun fr hF => ?_
      have hs : Sep [BX b2 59 [.int .i64 (cond (decide (x1 > x2)) p2 p1), .int .i64 (cond (decide (x1 > x2)) p1 p2)], BX b1 76 [.int .i64 p0.c.Inputs, .slice pa0 (List.length p0.c.Gates) pc0, .bool p0.full], SL (α := D.Gate) 59 (.slice pa0 (List.length p0.c.Gates) pc0) p0.c.Gates] w8 S6 := Sep.pick [1, 2, 3] hs (by decide) rfl
      refine s_bin rfl rfl hF rfl rfl (eqg59 _ _ _ _ _) (eq59 (D.Gate.mk (cond (decide (x1 > x2)) p2 p1) (cond (decide (x1 > x2)) p1 p2)) x3 _) fun fr hF => ?_
      refine from_end rfl (then_normal ?_)
      refine (wp_if hF (b := (decide ((D.Gate.mk (cond (decide (x1 > x2)) p2 p1) (cond (decide (x1 > x2)) p1 p2)) = x3))) rfl (fun hb => ?_) (fun hb => ?_))
      · replace h := iteT hb h
        have hs : Sep [BX b1 76 [.int .i64 p0.c.Inputs, .slice pa0 (List.length p0.c.Gates) pc0, .bool p0.full], SL (α := D.Gate) 59 (.slice pa0 (List.length p0.c.Gates) pc0) p0.c.Gates] w8 S6 := Sep.pick [1, 2] hs (by decide) rfl
        refine wp_seq (wp_text' ?_)
        refine from_pure 4 [(8, .int .i64 s1), (63, .pointer (some ⟨b1, 0, none⟩))] hF (by kernel_rfl) fun fr hF => ?_
        refine s_loadBox (.int .i64 p0.c.Inputs) ty3 rfl rfl hF rfl (hs.bx 0 rfl) rfl rfl fun fr hF => ?_
        refine from_pure 4 [(6, .int .i64 (w64 ((w64 (p0.c.Inputs + 2)) + s1)))] hF (by kernel_rfl) fun fr hF => ?_
        refine from_end rfl (then_normal ?_)
        obtain rfl := hr1 _ (Option.some.inj h).symm
        obtain rfl := Option.some.inj hk1
        exact wp_ret (blk_ret (then_ret (then_ret (blk_ret (then_ret (ret1 rfl hF rfl ⟨_, rfl, pa0, pc0, rfl, S6, (hM0.trans hM1).out, hs⟩))))))
      replace h := iteF hb h
      refine (wp_skip ?_)
      refine blk_normal (then_normal ?_)
      refine (wp_pure [(0, .pointer (some ⟨b1, 0, none⟩)), (7, .pointer (some ⟨b2, 0, none⟩)), (50, .slice pa0 (List.length p0.c.Gates) pc0), (51, .int .i64 (len p0.c.Gates)), (52, .int .i64 (w64 (s1 + 1)))] hF (by kernel_rfl) fun fr hF => then_normal ?_)
      exact ⟨_, (Option.some.inj h).symm, S6, _, hF.sub _ (by kernel_rfl), hM1, hs⟩
    replace h := iteF hb h
    refine (wp_exit (then_exit (then_exit (blk_exit_eq ?_))))
    obtain rfl := hr1 _ (Option.some.inj h).symm
    exact then_normal ⟨_, rfl, S3, _, hF.sub _ (by kernel_rfl), hM1, hs⟩
  · obtain ⟨s1r, rfl, hM⟩ := hM
    obtain ⟨S4, F2, hF, hMx, hs⟩ := hM
    have hM0 := hM0.trans hMx
    refine wp_seq ?_
    refine wp_seq (wp_text' ?_)
    refine from_pure 4 [(0, .pointer (some ⟨b1, 0, none⟩)), (7, .pointer (some ⟨b2, 0, none⟩)), (72, .pointer (some ⟨b1, 1, none⟩))] hF (by kernel_rfl) fun fr hF => ?_
    refine s_loadBox (.slice pa0 (List.length p0.c.Gates) pc0) ty26 rfl rfl hF rfl (hs.bx 1 rfl) rfl rfl fun fr hF => ?_
    refine from_pure 2 [(0, .pointer (some ⟨b1, 0, none⟩)), (7, .pointer (some ⟨b2, 0, none⟩)), (75, .bool (decide ((len p0.c.Gates) ≥ 360)))] hF (by kernel_rfl) fun fr hF => ?_
    refine from_end rfl (then_normal ?_)
    refine (wp_if hF (b := (decide ((len p0.c.Gates) ≥ 360))) rfl (fun hb => ?_) (fun hb => ?_))
    · replace h := iteT hb h
      have hs : Sep [BX b1 76 [.int .i64 p0.c.Inputs, .slice pa0 (List.length p0.c.Gates) pc0, .bool p0.full], SL (α := D.Gate) 59 (.slice pa0 (List.length p0.c.Gates) pc0) p0.c.Gates] w1o S4 := Sep.pick [1, 2] hs (by decide) rfl
      refine wp_seq (wp_text' ?_)
      refine from_pure 3 [(78, .pointer (some ⟨b1, 2, none⟩))] hF (by kernel_rfl) fun fr hF => ?_
      refine q_storeBox 0 hs hM0 rfl [.int .i64 p0.c.Inputs, .slice pa0 (List.length p0.c.Gates) pc0, .bool true] rfl hF rfl rfl (by kernel_rfl) rfl rfl rfl fun w9 S7 hs hp hF => ?_
      have hM0 := hM0.stp hp
      have hs : Sep [BX b1 76 [.int .i64 p0.c.Inputs, .slice pa0 (List.length p0.c.Gates) pc0, .bool true], SL (α := D.Gate) 59 (.slice pa0 (List.length p0.c.Gates) pc0) p0.c.Gates] w9 S7 := hs
      refine from_end rfl (then_normal ?_)
      refine wp_seq (wp_pure [(6, .int .i64 (-1))] hF (by kernel_rfl) fun fr hF => then_normal ?_)
      obtain rfl := Option.some.inj h
      exact wp_ret (then_ret (ret1 rfl hF rfl ⟨_, rfl, pa0, pc0, rfl, S7, hM0.out, hs⟩))
    replace h := iteF hb h
    refine (wp_skip (then_normal ?_))
    refine wp_seq (region_bf 8 0 [0, 0, 2, 6, 14, 30, 0, 64, 254, 511, 1023, 2047, 4095] [true, true, true, true, true, false, false, false]
        [.eq (.pointer (some ⟨b1, 0, none⟩)), .eq (.pointer (some ⟨b1, 0, none⟩)), .eq (.pointer (some ⟨b1, 0, none⟩)), .eq (.pointer (some ⟨b1, 0, none⟩)), .eq (.pointer (some ⟨b1, 1, none⟩)), .eq (.slice pa0 (List.length p0.c.Gates) pc0), .eq (.agg #[.int .i64 (cond (decide (x1 > x2)) p2 p1), .int .i64 (cond (decide (x1 > x2)) p1 p2)]), .own fun ow v w => ∃ i : Option Addr × Nat, v = .slice i.1 (List.length ([(D.Gate.mk (cond (decide (x1 > x2)) p2 p1) (cond (decide (x1 > x2)) p1 p2))] : List D.Gate)) i.2 ∧ (SL (α := D.Gate) 59 (.slice i.1 (List.length ([(D.Gate.mk (cond (decide (x1 > x2)) p2 p1) (cond (decide (x1 > x2)) p1 p2))] : List D.Gate)) i.2) ([(D.Gate.mk (cond (decide (x1 > x2)) p2 p1) (cond (decide (x1 > x2)) p1 p2))] : List D.Gate)).ok w (fun k => w1o.heap.size ≤ k ∧ k < w.heap.size ∧ ow k = 7), .any, .any, .any, .any, .any]
        [(0, .pointer (some ⟨b1, 0, none⟩)), (79, .pointer (some ⟨b1, 0, none⟩)), (84, .slice pa0 (List.length p0.c.Gates) pc0)] mix hF (by kernel_rfl) (fun _ _ _ _ _ h => h) (by kernel_rfl) (by kernel_rfl) (by kernel_rfl) ⟨Pd.monoO_eq, Pd.monoO_eq, mono_new, trivial⟩ (fun ow hG => ⟨np_to ow (np_loadBox hG hF ty26 rfl rfl (hs.bx 1 rfl) rfl rfl rfl), np_to ow (np_loadBoxS hG hF ty59 rfl rfl (hs.bx 0 rfl) rfl rfl rfl rfl), np_lit (E := 59) [.int .i64 (cond (decide (x1 > x2)) p2 p1), .int .i64 (cond (decide (x1 > x2)) p1 p2)] (([(D.Gate.mk (cond (decide (x1 > x2)) p2 p1) (cond (decide (x1 > x2)) p1 p2))] : List D.Gate).map Flat.enc) ([(D.Gate.mk (cond (decide (x1 > x2)) p2 p1) (cond (decide (x1 > x2)) p1 p2))] : List D.Gate) hG hF rfl [.agg #[.int .i64 (cond (decide (x1 > x2)) p2 p1), .int .i64 (cond (decide (x1 > x2)) p1 p2)]] rfl (fun w => by kernel_rfl) (fun w => css_flat _) rfl rfl rfl rfl, trivial⟩) (by kernel_rfl) fun ow fr w10 hF hE hc => ?_)
    obtain ⟨⟨a1, c1⟩, hv, hnw7⟩ := hE.is 86 7 rfl rfl
    have hF := hF.cons hv
    have hsN := sepO (w0 := w1o) (ow := ow) [(7, SL (α := D.Gate) 59 (.slice a1 (List.length ([(D.Gate.mk (cond (decide (x1 > x2)) p2 p1) (cond (decide (x1 > x2)) p1 p2))] : List D.Gate)) c1) ([(D.Gate.mk (cond (decide (x1 > x2)) p2 p1) (cond (decide (x1 > x2)) p1 p2))] : List D.Gate))] (show ([7] : List Nat).Nodup by decide) ⟨hnw7, trivial⟩ rfl
    obtain ⟨S8, hp, hs⟩ := hs.got hM0 (stp_new hc) hsN
    have hM0 := hM0.stp hp
    have hs : Sep [SL (α := D.Gate) 59 (.slice a1 (List.length ([(D.Gate.mk (cond (decide (x1 > x2)) p2 p1) (cond (decide (x1 > x2)) p1 p2))] : List D.Gate)) c1) ([(D.Gate.mk (cond (decide (x1 > x2)) p2 p1) (cond (decide (x1 > x2)) p1 p2))] : List D.Gate), BX b2 59 [.int .i64 (cond (decide (x1 > x2)) p2 p1), .int .i64 (cond (decide (x1 > x2)) p1 p2)], BX b1 76 [.int .i64 p0.c.Inputs, .slice pa0 (List.length p0.c.Gates) pc0, .bool p0.full], SL (α := D.Gate) 59 (.slice pa0 (List.length p0.c.Gates) pc0) p0.c.Gates] w10 S8 := hs
    have hs : Sep [SL (α := D.Gate) 59 (.slice a1 (List.length ([(D.Gate.mk (cond (decide (x1 > x2)) p2 p1) (cond (decide (x1 > x2)) p1 p2))] : List D.Gate)) c1) ([(D.Gate.mk (cond (decide (x1 > x2)) p2 p1) (cond (decide (x1 > x2)) p1 p2))] : List D.Gate), BX b1 76 [.int .i64 p0.c.Inputs, .slice pa0 (List.length p0.c.Gates) pc0, .bool p0.full], SL (α := D.Gate) 59 (.slice pa0 (List.length p0.c.Gates) pc0) p0.c.Gates] w10 S8 := Sep.pick [0, 2, 3] hs (by decide) rfl
    obtain ⟨x4, hx4, h⟩ := bindE h
    refine q_append 2 hs hM0 rfl Try.underlying26 el59 rfl rfl rfl hF rfl rfl (hs.rv 0 rfl) hx4 fun a2 c2 w11 S9 fr hs hp hF => ?_
    have hM0 := hM0.stp hp
    have hs : Sep [SL (α := D.Gate) 59 (.slice a1 (List.length ([(D.Gate.mk (cond (decide (x1 > x2)) p2 p1) (cond (decide (x1 > x2)) p1 p2))] : List D.Gate)) c1) ([(D.Gate.mk (cond (decide (x1 > x2)) p2 p1) (cond (decide (x1 > x2)) p1 p2))] : List D.Gate), BX b1 76 [.int .i64 p0.c.Inputs, .slice pa0 (List.length p0.c.Gates) pc0, .bool p0.full], SL (α := D.Gate) 59 (.slice a2 (List.length x4) c2) x4] w11 S9 := hs
    have hs : Sep [BX b1 76 [.int .i64 p0.c.Inputs, .slice pa0 (List.length p0.c.Gates) pc0, .bool p0.full], SL (α := D.Gate) 59 (.slice a2 (List.length x4) c2) x4] w11 S9 := Sep.pick [1, 2] hs (by decide) rfl
    refine from_pure 3 [(0, .pointer (some ⟨b1, 0, none⟩)), (87, .slice a2 (List.length x4) c2), (90, .pointer (some ⟨b1, 1, none⟩))] hF (by kernel_rfl) fun fr hF => ?_
    refine q_storeBox 0 hs hM0 rfl [.int .i64 p0.c.Inputs, .slice a2 (List.length x4) c2, .bool p0.full] rfl hF rfl rfl (by kernel_rfl) rfl rfl rfl fun w12 S10 hs hp hF => ?_
    have hM0 := hM0.stp hp
    have hs : Sep [BX b1 76 [.int .i64 p0.c.Inputs, .slice a2 (List.length x4) c2, .bool p0.full], SL (α := D.Gate) 59 (.slice a2 (List.length x4) c2) x4] w12 S10 := hs
    refine from_end rfl (then_normal ?_)
    refine wp_seq (region_bm 14 [0, 1, 3, 7, 15, 31, 0, 64, 192, 448, 960, 1984, 4095, 8191] [true, true, true, true, false, true, true, true, true, true, false, true, true, true]
        [.eq (.pointer (some ⟨b1, 0, none⟩)), .eq (.pointer (some ⟨b1, 0, none⟩)), .eq (.pointer (some ⟨b1, 0, none⟩)), .eq (.pointer (some ⟨b1, 0, none⟩)), .eq (.int .i64 p0.c.Inputs), .eq (.int .i64 (w64 (p0.c.Inputs + 1))), .eq (.pointer (some ⟨b1, 0, none⟩)), .eq (.pointer (some ⟨b1, 0, none⟩)), .eq (.pointer (some ⟨b1, 0, none⟩)), .eq (.pointer (some ⟨b1, 1, none⟩)), .eq (.slice a2 (List.length x4) c2), .eq (.int .i64 (len x4)), .eq (.int .i64 (w64 ((w64 (p0.c.Inputs + 1)) + (len x4)))), .eq (.int .i64 (w64 ((w64 (p0.c.Inputs + 1)) + (len x4))))]
        [(6, .int .i64 (w64 ((w64 (p0.c.Inputs + 1)) + (len x4))))] mix hF (by kernel_rfl) (by kernel_rfl) (by kernel_rfl) (by kernel_rfl) ⟨Pd.monoO_eq, Pd.monoO_eq, trivial⟩ (fun ow hG => ⟨np_to ow (np_loadBox hG hF ty3 rfl rfl (hs.bx 0 rfl) rfl rfl rfl), np_to ow (np_loadBox hG hF ty26 rfl rfl (hs.bx 0 rfl) rfl rfl rfl), trivial⟩) (by kernel_rfl) fun ow fr w13 hF hE hc => ?_)
    have hs := hs.ext hc
    have hM0 := hM0.ext hc
    refine from_end rfl (then_normal ?_)
    obtain rfl := Option.some.inj h
    exact wp_ret (ret1 rfl hF rfl ⟨_, rfl, a2, c2, rfl, S10, hM0.out, hs⟩)

theorem spec_l04Net_l04Or_ok (n : Nat) (p0 : D.l04Net) (p1 : Int) (p2 : Int) {r : Int × D.l04Net} (h : spec_l04Net_l04Or n p0 p1 p2 = some r) {w : World} {S0 F0 : Nat → Prop} {pa0 : Option Addr} {pn0 pc0 : Nat} {b1 : Nat} (hs : Sep [BX b1 76 [.int .i64 p0.c.Inputs, .slice pa0 pn0 pc0, .bool p0.full], SL (α := D.Gate) 59 (.slice pa0 pn0 pc0) p0.c.Gates] w S0) (hb : ∀ k, S0 k → k < w.heap.size) (hd : ∀ k, S0 k → F0 k → False) :
    Calls Try.prog 55 [.pointer (some ⟨b1, 0, none⟩), .int .i64 p1, .int .i64 p2].toArray w fun e w' => ∃ v, e = .returned v ∧ ∃ a1 c1, v = .int .i64 r.1 ∧ ∃ S', Stp w S0 w' S' ∧ Sep [BX b1 76 [.int .i64 r.2.c.Inputs, .slice a1 (List.length r.2.c.Gates) c1, .bool r.2.full], SL (α := D.Gate) 59 (.slice a1 (List.length r.2.c.Gates) c1) r.2.c.Gates] w' S' := by
  unfold spec_l04Net_l04Or at h
  obtain ⟨hpn, hs⟩ := hs.relen 1 rfl
  subst hpn
  have hs : Sep [BX b1 76 [.int .i64 p0.c.Inputs, .slice pa0 (List.length p0.c.Gates) pc0, .bool p0.full], SL (α := D.Gate) 59 (.slice pa0 (List.length p0.c.Gates) pc0) p0.c.Gates] w S0 := hs
  have hM0 : Mem w S0 (fun k => F0 k ∧ k < w.heap.size) w S0 (fun k => F0 k ∧ k < w.heap.size) := Mem.start hb (fun _ h => h.2) (fun k h1 h2 => hd k h1 h2.1)
  refine enter (N := 14) Try.func55 rfl Try.ntmps55 rfl fun fr hF => ?_
  refine wp_seq (wp_pure [(0, .pointer (some ⟨b1, 0, none⟩)), (1, .int .i64 p1), (2, .int .i64 p2)] hF (by kernel_rfl) fun fr hF => then_normal ?_)
  refine wp_seq (wp_text' ?_)
  refine from_pure 5 [(7, .pointer (some ⟨b1, 0, none⟩)), (9, .int .i64 (w64 (0 - p1))), (11, .int .i64 (w64 (0 - p2)))] hF (by kernel_rfl) fun fr hF => ?_
  obtain ⟨x1, hx1, h⟩ := bindE h
  obtain ⟨A1, R1, hsA, hsR, hdA, hbA, hup⟩ := Sep.call (L1 := [BX b1 76 [.int .i64 p0.c.Inputs, .slice pa0 (List.length p0.c.Gates) pc0, .bool p0.full], SL (α := D.Gate) 59 (.slice pa0 (List.length p0.c.Gates) pc0) p0.c.Gates]) (L2 := []) hs hM0
  refine s_call [.pointer (some ⟨b1, 0, none⟩), .int .i64 (w64 (0 - p1)), .int .i64 (w64 (0 - p2))] Try.call46 rfl rfl hF rfl (spec_l04Net_l04And_ok n p0 (w64 (0 - p1)) (w64 (0 - p2)) hx1 hsA hbA hdA) fun v w1 fr hRes hF => ?_
  obtain ⟨a1, c1, rfl, _, hp, hs⟩ := hRes
  obtain ⟨S1, hp, hs⟩ := hup hp hs
  have hM0 := hM0.stp hp
  have hs : Sep [BX b1 76 [.int .i64 x1.2.c.Inputs, .slice a1 (List.length x1.2.c.Gates) c1, .bool x1.2.full], SL (α := D.Gate) 59 (.slice a1 (List.length x1.2.c.Gates) c1) x1.2.c.Gates] w1 S1 := hs
  refine from_pure 2 [(6, .int .i64 (w64 (0 - x1.1)))] hF (by kernel_rfl) fun fr hF => ?_
  refine from_end rfl (then_normal ?_)
  obtain rfl := Option.some.inj h
  exact wp_ret (ret1 rfl hF rfl ⟨_, rfl, a1, c1, rfl, S1, hM0.out, hs⟩)

theorem spec_l04Net_l04Xor_ok (n : Nat) (p0 : D.l04Net) (p1 : Int) (p2 : Int) {r : Int × D.l04Net} (h : spec_l04Net_l04Xor n p0 p1 p2 = some r) {w : World} {S0 F0 : Nat → Prop} {pa0 : Option Addr} {pn0 pc0 : Nat} {b1 : Nat} (hs : Sep [BX b1 76 [.int .i64 p0.c.Inputs, .slice pa0 pn0 pc0, .bool p0.full], SL (α := D.Gate) 59 (.slice pa0 pn0 pc0) p0.c.Gates] w S0) (hb : ∀ k, S0 k → k < w.heap.size) (hd : ∀ k, S0 k → F0 k → False) :
    Calls Try.prog 58 [.pointer (some ⟨b1, 0, none⟩), .int .i64 p1, .int .i64 p2].toArray w fun e w' => ∃ v, e = .returned v ∧ ∃ a1 c1, v = .int .i64 r.1 ∧ ∃ S', Stp w S0 w' S' ∧ Sep [BX b1 76 [.int .i64 r.2.c.Inputs, .slice a1 (List.length r.2.c.Gates) c1, .bool r.2.full], SL (α := D.Gate) 59 (.slice a1 (List.length r.2.c.Gates) c1) r.2.c.Gates] w' S' := by
  unfold spec_l04Net_l04Xor at h
  obtain ⟨hpn, hs⟩ := hs.relen 1 rfl
  subst hpn
  have hs : Sep [BX b1 76 [.int .i64 p0.c.Inputs, .slice pa0 (List.length p0.c.Gates) pc0, .bool p0.full], SL (α := D.Gate) 59 (.slice pa0 (List.length p0.c.Gates) pc0) p0.c.Gates] w S0 := hs
  have hM0 : Mem w S0 (fun k => F0 k ∧ k < w.heap.size) w S0 (fun k => F0 k ∧ k < w.heap.size) := Mem.start hb (fun _ h => h.2) (fun k h1 h2 => hd k h1 h2.1)
  refine enter (N := 23) Try.func58 rfl Try.ntmps58 rfl fun fr hF => ?_
  refine wp_seq (wp_pure [(0, .pointer (some ⟨b1, 0, none⟩)), (1, .int .i64 p1), (2, .int .i64 p2)] hF (by kernel_rfl) fun fr hF => then_normal ?_)
  refine wp_seq (wp_text' ?_)
  refine from_pure 4 [(0, .pointer (some ⟨b1, 0, none⟩)), (1, .int .i64 p1), (2, .int .i64 p2), (9, .pointer (some ⟨b1, 0, none⟩)), (10, .int .i64 p1), (12, .int .i64 (w64 (0 - p2)))] hF (by kernel_rfl) fun fr hF => ?_
  obtain ⟨x1, hx1, h⟩ := bindE h
  obtain ⟨A1, R1, hsA, hsR, hdA, hbA, hup⟩ := Sep.call (L1 := [BX b1 76 [.int .i64 p0.c.Inputs, .slice pa0 (List.length p0.c.Gates) pc0, .bool p0.full], SL (α := D.Gate) 59 (.slice pa0 (List.length p0.c.Gates) pc0) p0.c.Gates]) (L2 := []) hs hM0
  refine s_call [.pointer (some ⟨b1, 0, none⟩), .int .i64 p1, .int .i64 (w64 (0 - p2))] Try.call46 rfl rfl hF rfl (spec_l04Net_l04And_ok n p0 p1 (w64 (0 - p2)) hx1 hsA hbA hdA) fun v w1 fr hRes hF => ?_
  obtain ⟨a1, c1, rfl, _, hp, hs⟩ := hRes
  obtain ⟨S1, hp, hs⟩ := hup hp hs
  have hM0 := hM0.stp hp
  have hs : Sep [BX b1 76 [.int .i64 x1.2.c.Inputs, .slice a1 (List.length x1.2.c.Gates) c1, .bool x1.2.full], SL (α := D.Gate) 59 (.slice a1 (List.length x1.2.c.Gates) c1) x1.2.c.Gates] w1 S1 := hs
  refine from_pure 1 [(0, .pointer (some ⟨b1, 0, none⟩)), (1, .int .i64 p1), (2, .int .i64 p2), (7, .int .i64 x1.1)] hF (by kernel_rfl) fun fr hF => ?_
  refine from_end rfl (then_normal ?_)
  refine wp_seq (wp_text' ?_)
  refine from_pure 4 [(0, .pointer (some ⟨b1, 0, none⟩)), (7, .int .i64 x1.1), (14, .pointer (some ⟨b1, 0, none⟩)), (16, .int .i64 (w64 (0 - p1))), (17, .int .i64 p2)] hF (by kernel_rfl) fun fr hF => ?_
  obtain ⟨x2, hx2, h⟩ := bindE h
  obtain ⟨A2, R2, hsA, hsR, hdA, hbA, hup⟩ := Sep.call (L1 := [BX b1 76 [.int .i64 x1.2.c.Inputs, .slice a1 (List.length x1.2.c.Gates) c1, .bool x1.2.full], SL (α := D.Gate) 59 (.slice a1 (List.length x1.2.c.Gates) c1) x1.2.c.Gates]) (L2 := []) hs hM0
  refine s_call [.pointer (some ⟨b1, 0, none⟩), .int .i64 (w64 (0 - p1)), .int .i64 p2] Try.call46 rfl rfl hF rfl (spec_l04Net_l04And_ok n x1.2 (w64 (0 - p1)) p2 hx2 hsA hbA hdA) fun v w2 fr hRes hF => ?_
  obtain ⟨a2, c2, rfl, _, hp, hs⟩ := hRes
  obtain ⟨S2, hp, hs⟩ := hup hp hs
  have hM0 := hM0.stp hp
  have hs : Sep [BX b1 76 [.int .i64 x2.2.c.Inputs, .slice a2 (List.length x2.2.c.Gates) c2, .bool x2.2.full], SL (α := D.Gate) 59 (.slice a2 (List.length x2.2.c.Gates) c2) x2.2.c.Gates] w2 S2 := hs
  refine from_pure 1 [(0, .pointer (some ⟨b1, 0, none⟩)), (7, .int .i64 x1.1), (8, .int .i64 x2.1)] hF (by kernel_rfl) fun fr hF => ?_
  refine from_end rfl (then_normal ?_)
  refine wp_seq (wp_text' ?_)
  refine from_pure 3 [(19, .pointer (some ⟨b1, 0, none⟩)), (20, .int .i64 x1.1), (21, .int .i64 x2.1)] hF (by kernel_rfl) fun fr hF => ?_
  obtain ⟨x3, hx3, h⟩ := bindE h
  obtain ⟨A3, R3, hsA, hsR, hdA, hbA, hup⟩ := Sep.call (L1 := [BX b1 76 [.int .i64 x2.2.c.Inputs, .slice a2 (List.length x2.2.c.Gates) c2, .bool x2.2.full], SL (α := D.Gate) 59 (.slice a2 (List.length x2.2.c.Gates) c2) x2.2.c.Gates]) (L2 := []) hs hM0
  refine s_call [.pointer (some ⟨b1, 0, none⟩), .int .i64 x1.1, .int .i64 x2.1] Try.call55 rfl rfl hF rfl (spec_l04Net_l04Or_ok n x2.2 x1.1 x2.1 hx3 hsA hbA hdA) fun v w3 fr hRes hF => ?_
  obtain ⟨a3, c3, rfl, _, hp, hs⟩ := hRes
  obtain ⟨S3, hp, hs⟩ := hup hp hs
  have hM0 := hM0.stp hp
  have hs : Sep [BX b1 76 [.int .i64 x3.2.c.Inputs, .slice a3 (List.length x3.2.c.Gates) c3, .bool x3.2.full], SL (α := D.Gate) 59 (.slice a3 (List.length x3.2.c.Gates) c3) x3.2.c.Gates] w3 S3 := hs
  refine from_pure 1 [(6, .int .i64 x3.1)] hF (by kernel_rfl) fun fr hF => ?_
  refine from_end rfl (then_normal ?_)
  obtain rfl := Option.some.inj h
  exact wp_ret (ret1 rfl hF rfl ⟨_, rfl, a3, c3, rfl, S3, hM0.out, hs⟩)

theorem spec_l04Out_ok (p0 : D.l04Net) (p1 : Int) {r : D.Circuit × Int × Bool} (h : spec_l04Out p0 p1 = some r) {w : World} {pa0 : Option Addr} {pn0 pc0 : Nat} {G0 : Nat → Prop} {pb0 : Nat} (hb0 : FB w G0 pb0 76 [.int .i64 p0.c.Inputs, .slice pa0 pn0 pc0, .bool p0.full]) (ra0_0 : RV w G0 (.slice pa0 pn0 pc0) p0.c.Gates) :
    Calls Try.prog 47 [.pointer (some ⟨pb0, 0, none⟩), .int .i64 p1].toArray w fun e w' => ∃ v, e = .returned v ∧ ∃ u0, v = .tuple #[u0, .int .i64 r.2.1, .bool r.2.2] ∧ Chg Non w w' ∧ RV w' (fun k => (G0 k) ∨ w.heap.size ≤ k) u0 r.1 := by
  unfold spec_l04Out at h
  have hpn := ra0_0.len; subst hpn
  have hs := Sep.nil w Non
  have hM0 : Mem w Non (fun k => (G0 k) ∧ k < w.heap.size) w Non (fun k => (G0 k) ∧ k < w.heap.size) := Mem.start (fun _ h => h.elim) (fun _ h => h.2) (fun _ h => h.elim)
  have hb0 := hb0.sub (F' := (fun k => (G0 k) ∧ k < w.heap.size)) (fun k hk h => ⟨h, hk⟩)
  have ra0_0 := ra0_0.sub (F' := (fun k => (G0 k) ∧ k < w.heap.size)) (fun k hk h => ⟨h, hk⟩)
  refine enter (N := 17) Try.func47 rfl Try.ntmps47 rfl fun fr hF => ?_
  refine wp_seq (wp_text' ?_)
  refine q_alloc (z := .agg #[.int .i64 0, .slice none (List.length ([] : List D.Gate)) 0]) hs hM0 [.int .i64 0, .slice none (List.length ([] : List D.Gate)) 0] rfl rfl hF (by kernel_rfl) rfl fun b1 w1 S1 fr hs hp hF => ?_
  have hb0 := hb0.stp hM0 hp
  have ra0_0 := ra0_0.stp hM0 hp
  have hM0 := hM0.stp hp
  have hs : Sep [BX b1 28 [.int .i64 0, .slice none (List.length ([] : List D.Gate)) 0]] w1 S1 := hs
  refine from_pure 2 [(0, .pointer (some ⟨pb0, 0, none⟩)), (1, .int .i64 p1), (4, .pointer (some ⟨b1, 0, none⟩))] hF (by kernel_rfl) fun fr hF => ?_
  refine from_end rfl (then_normal ?_)
  refine wp_seq ?_
  refine wp_seq (wp_text' ?_)
  refine from_pure 3 [(0, .pointer (some ⟨pb0, 0, none⟩)), (1, .int .i64 p1), (4, .pointer (some ⟨b1, 0, none⟩)), (9, .pointer (some ⟨pb0, 2, none⟩))] hF (by kernel_rfl) fun fr hF => ?_
  refine s_loadBox (.bool p0.full) ty4 rfl rfl hF rfl hb0.1 rfl rfl fun fr hF => ?_
  refine from_end rfl (then_normal ?_)
  refine (wp_if hF (b := p0.full) rfl (fun hb => ?_) (fun hb => ?_))
  · replace h := iteT hb h
    refine wp_seq (wp_text' ?_)
    refine from_pure 1 [(4, .pointer (some ⟨b1, 0, none⟩)), (11, .agg #[.int .i64 0, .slice none (List.length ([] : List D.Gate)) 0])] hF (by kernel_rfl) fun fr hF => ?_
    refine q_storeBoxS 0 hs hM0 rfl [.int .i64 0, .slice none (List.length ([] : List D.Gate)) 0] rfl hF rfl rfl (by kernel_rfl) rfl rfl rfl fun w2 S2 hs hp hF => ?_
    have hM0 := hM0.stp hp
    have hs : Sep [BX b1 28 [.int .i64 0, .slice none (List.length ([] : List D.Gate)) 0]] w2 S2 := hs
    refine from_pure 2 [(4, .pointer (some ⟨b1, 0, none⟩)), (5, .int .i64 0), (6, .bool false)] hF (by kernel_rfl) fun fr hF => ?_
    refine from_end rfl (then_normal ?_)
    have hrets := fun {σ : List (Nat × Value)} (h : σ = [(4, .pointer (some ⟨b1, 0, none⟩)), (5, .int .i64 0), (6, .bool false)]) => (by subst h; exact (Rets.cell rfl ty28 (hs.bx 0 rfl) rfl rfl (Rets.tmp rfl (Rets.tmp rfl Rets.nil))) : Rets Try.prog σ w2 [.cell 4 28, .tmp 5, .tmp 6] [.agg #[.int .i64 0, .slice none (List.length ([] : List D.Gate)) 0], .int .i64 0, .bool false])
    obtain rfl := Option.some.inj h
    exact wp_ret (then_ret (retG (rs := [.cell 4 28, .tmp 5, .tmp 6]) rfl (hF.sub [(4, .pointer (some ⟨b1, 0, none⟩)), (5, .int .i64 0), (6, .bool false)] (by kernel_rfl)) (hrets rfl) rfl ⟨_, rfl, _, rfl, hM0.chg, (RV.mk_Circuit (D.Circuit.mk 0 ([] : List D.Gate)) (RV.nil))⟩))
  replace h := iteF hb h
  refine (wp_skip (then_normal ?_))
  refine wp_seq (wp_text' ?_)
  refine from_pure 3 [(1, .int .i64 p1), (4, .pointer (some ⟨b1, 0, none⟩)), (14, .pointer (some ⟨pb0, 0, none⟩))] hF (by kernel_rfl) fun fr hF => ?_
  refine s_loadPart [.int .i64 p0.c.Inputs, .slice pa0 (List.length p0.c.Gates) pc0] ty28 rfl rfl hF rfl hb0.1 rfl rfl rfl fun fr hF => ?_
  refine from_pure 1 [(4, .pointer (some ⟨b1, 0, none⟩)), (15, .agg #[.int .i64 p0.c.Inputs, .slice pa0 (List.length p0.c.Gates) pc0]), (16, .int .i64 p1)] hF (by kernel_rfl) fun fr hF => ?_
  refine q_storeBoxS 0 hs hM0 rfl [.int .i64 p0.c.Inputs, .slice pa0 (List.length p0.c.Gates) pc0] rfl hF rfl rfl (by kernel_rfl) rfl rfl rfl fun w3 S3 hs hp hF => ?_
  have ra0_0 := ra0_0.stp hM0 hp
  have hM0 := hM0.stp hp
  have hs : Sep [BX b1 28 [.int .i64 p0.c.Inputs, .slice pa0 (List.length p0.c.Gates) pc0]] w3 S3 := hs
  refine from_pure 2 [(4, .pointer (some ⟨b1, 0, none⟩)), (5, .int .i64 p1), (6, .bool true)] hF (by kernel_rfl) fun fr hF => ?_
  refine from_end rfl (then_normal ?_)
  have hrets := fun {σ : List (Nat × Value)} (h : σ = [(4, .pointer (some ⟨b1, 0, none⟩)), (5, .int .i64 p1), (6, .bool true)]) => (by subst h; exact (Rets.cell rfl ty28 (hs.bx 0 rfl) rfl rfl (Rets.tmp rfl (Rets.tmp rfl Rets.nil))) : Rets Try.prog σ w3 [.cell 4 28, .tmp 5, .tmp 6] [.agg #[.int .i64 p0.c.Inputs, .slice pa0 (List.length p0.c.Gates) pc0], .int .i64 p1, .bool true])
  obtain rfl := Option.some.inj h
  exact wp_ret (retG (rs := [.cell 4 28, .tmp 5, .tmp 6]) rfl (hF.sub [(4, .pointer (some ⟨b1, 0, none⟩)), (5, .int .i64 p1), (6, .bool true)] (by kernel_rfl)) (hrets rfl) rfl ⟨_, rfl, _, rfl, hM0.chg, (RV.mk_Circuit p0.c (ra0_0.big (fun k h => mem_outF hM0 k h)))⟩)

theorem spec_XorOf_ok (n : Nat) (p0 : D.Circuit) (p1 : Int) (p2 : Int) {r : D.Circuit × Int × Bool} (h : spec_XorOf n p0 p1 p2 = some r) {w : World} {G0 : Nat → Prop} {va0 : Value} (ra0 : RV w G0 va0 p0) :
    Calls Try.prog 21 [va0, .int .i64 p1, .int .i64 p2].toArray w fun e w' => ∃ v, e = .returned v ∧ ∃ u0, v = .tuple #[u0, .int .i64 r.2.1, .bool r.2.2] ∧ Chg Non w w' ∧ RV w' (fun k => (G0 k) ∨ w.heap.size ≤ k) u0 r.1 := by
  unfold spec_XorOf at h
  have hs := Sep.nil w Non
  have hM0 : Mem w Non (fun k => (G0 k) ∧ k < w.heap.size) w Non (fun k => (G0 k) ∧ k < w.heap.size) := Mem.start (fun _ h => h.elim) (fun _ h => h.2) (fun _ h => h.elim)
  have ra0 := ra0.sub (F' := (fun k => (G0 k) ∧ k < w.heap.size)) (fun k hk h => ⟨h, hk⟩)
  obtain ⟨v1, rfl, r1⟩ := RV.Circuit ra0
  obtain ⟨a1, c1, rfl, -⟩ := r1.slice
  refine enter (N := 35) Try.func21 rfl Try.ntmps21 rfl fun fr hF => ?_
  refine wp_seq (wp_text' ?_)
  refine q_box hs hM0 [.int .i64 p0.Inputs, .slice a1 (List.length p0.Gates) c1] rfl rfl hF rfl rfl fun b1 w1 S1 fr hs hp hF => ?_
  have r1 := r1.stp hM0 hp
  have hM0 := hM0.stp hp
  have hs : Sep [BX b1 28 [.int .i64 p0.Inputs, .slice a1 (List.length p0.Gates) c1]] w1 S1 := hs
  refine q_alloc (z := .agg #[.int .i64 0, .slice none (List.length ([] : List D.Gate)) 0]) hs hM0 [.int .i64 0, .slice none (List.length ([] : List D.Gate)) 0] rfl rfl hF (by kernel_rfl) rfl fun b2 w2 S2 fr hs hp hF => ?_
  have r1 := r1.stp hM0 hp
  have hM0 := hM0.stp hp
  have hs : Sep [BX b2 28 [.int .i64 0, .slice none (List.length ([] : List D.Gate)) 0], BX b1 28 [.int .i64 p0.Inputs, .slice a1 (List.length p0.Gates) c1]] w2 S2 := hs
  refine from_pure 2 [(1, .int .i64 p1), (2, .int .i64 p2), (3, .pointer (some ⟨b1, 0, none⟩)), (6, .pointer (some ⟨b2, 0, none⟩))] hF (by kernel_rfl) fun fr hF => ?_
  refine from_end rfl (then_normal ?_)
  refine wp_seq ?_
  obtain ⟨x1, hx1, h⟩ := bindE h
  obtain ⟨x2, hx2, h⟩ := bindE h
  refine wp_seq (region_b [] [false, false, true, true, false, true, true, false, false, true, true]
      [.eq (.agg #[.int .i64 p0.Inputs, .slice a1 (List.length p0.Gates) c1]), .eq (.bool x1), .eq (.bool (!x1)), .eq (.bool (!x1)), .eq (.agg #[.int .i64 p0.Inputs, .slice a1 (List.length p0.Gates) c1]), .eq (.int .i64 p1), .eq (.int .i64 p2), .is fun v w => RV w (fun k => k < w.heap.size) v ([p1, p2] : List Int), .eq (.bool x2), .eq (.bool (!x2)), .eq (.bool ((!x1) || (!x2)))]
      [(1, .int .i64 p1), (2, .int .i64 p2), (3, .pointer (some ⟨b1, 0, none⟩)), (6, .pointer (some ⟨b2, 0, none⟩)), (21, .bool ((!x1) || (!x2)))] mix hF (by kernel_rfl) (by kernel_rfl) (by kernel_rfl) ⟨Pd.mono_eq, Pd.mono_eq, Pd.mono_eq, mono_rvb, Pd.mono_eq, trivial⟩ (fun hG => ⟨np_loadBoxS hG hF ty28 rfl rfl (hs.bx 1 rfl) rfl rfl rfl rfl, np_call [.agg #[.int .i64 p0.Inputs, .slice a1 (List.length p0.Gates) c1]] hG hF Try.call43 rfl rfl (fun w hC hg => (spec_CircuitOk_ok n p0 hx1 ((RV.mk_Circuit p0 (r1)).ext hC)).mono fun e w' ⟨v, he, hv, hc⟩ => ⟨v, he, hc, hv⟩), np_loadBoxS hG hF ty28 rfl rfl (hs.bx 1 rfl) rfl rfl rfl rfl, np_litI (E := 3) [.int .i64 p1, .int .i64 p2] (([p1, p2] : List Int).map Flat.enc) ([p1, p2] : List Int) hG hF rfl [.int .i64 p1, .int .i64 p2] rfl (fun w => by kernel_rfl) (fun w => css_flat _) rfl rfl rfl rfl, np_callI [.inl (.agg #[.int .i64 p0.Inputs, .slice a1 (List.length p0.Gates) c1]), .inr 7] hG hF Try.call44 rfl rfl (by kernel_rfl) (fun w vs hC hg ha => by obtain ⟨_, rfl, vq1, _, rfl, hq1, rfl⟩ := ha; exact (spec_l04Lits_ok n p0 ([p1, p2] : List Int) (iteF hg.2 hx2) ((RV.mk_Circuit p0 (r1)).ext hC) (show RV w (fun k => k < w.heap.size) vq1 ([p1, p2] : List Int) from hq1)).mono fun e w' ⟨v, he, hv, hc⟩ => ⟨v, he, hc, hv⟩), trivial⟩) (by kernel_rfl) fun fr w3 hF hE hc => then_normal ?_)
  have r1 := r1.ext hc
  have hs := hs.ext hc
  have hM0 := hM0.ext hc
  refine (wp_if hF (b := ((!x1) || (!x2))) rfl (fun hb => ?_) (fun hb => ?_))
  · replace h := iteT hb h
    have hs : Sep [BX b2 28 [.int .i64 0, .slice none (List.length ([] : List D.Gate)) 0]] w3 S2 := Sep.pick [0] hs (by decide) rfl
    refine wp_seq (wp_text' ?_)
    refine from_pure 1 [(6, .pointer (some ⟨b2, 0, none⟩)), (22, .agg #[.int .i64 0, .slice none (List.length ([] : List D.Gate)) 0])] hF (by kernel_rfl) fun fr hF => ?_
    refine q_storeBoxS 0 hs hM0 rfl [.int .i64 0, .slice none (List.length ([] : List D.Gate)) 0] rfl hF rfl rfl (by kernel_rfl) rfl rfl rfl fun w4 S3 hs hp hF => ?_
    have hM0 := hM0.stp hp
    have hs : Sep [BX b2 28 [.int .i64 0, .slice none (List.length ([] : List D.Gate)) 0]] w4 S3 := hs
    refine from_pure 2 [(6, .pointer (some ⟨b2, 0, none⟩)), (7, .int .i64 0), (8, .bool false)] hF (by kernel_rfl) fun fr hF => ?_
    refine from_end rfl (then_normal ?_)
    have hrets := fun {σ : List (Nat × Value)} (h : σ = [(6, .pointer (some ⟨b2, 0, none⟩)), (7, .int .i64 0), (8, .bool false)]) => (by subst h; exact (Rets.cell rfl ty28 (hs.bx 0 rfl) rfl rfl (Rets.tmp rfl (Rets.tmp rfl Rets.nil))) : Rets Try.prog σ w4 [.cell 6 28, .tmp 7, .tmp 8] [.agg #[.int .i64 0, .slice none (List.length ([] : List D.Gate)) 0], .int .i64 0, .bool false])
    obtain rfl := Option.some.inj h
    exact wp_ret (then_ret (retG (rs := [.cell 6 28, .tmp 7, .tmp 8]) rfl (hF.sub [(6, .pointer (some ⟨b2, 0, none⟩)), (7, .int .i64 0), (8, .bool false)] (by kernel_rfl)) (hrets rfl) rfl ⟨_, rfl, _, rfl, hM0.chg, (RV.mk_Circuit (D.Circuit.mk 0 ([] : List D.Gate)) (RV.nil))⟩))
  replace h := iteF hb h
  refine (wp_skip (then_normal ?_))
  refine wp_seq (wp_text' ?_)
  refine s_loadBoxS ty28 rfl rfl hF rfl (hs.bx 1 rfl) rfl rfl fun fr hF => ?_
  have hs : Sep [BX b2 28 [.int .i64 0, .slice none (List.length ([] : List D.Gate)) 0]] w3 S2 := Sep.pick [0] hs (by decide) rfl
  obtain ⟨x3, hx3, h⟩ := bindE h
  refine s_call [.agg #[.int .i64 p0.Inputs, .slice a1 (List.length p0.Gates) c1]] Try.call45 rfl rfl hF rfl (spec_l04New_ok p0 hx3 (RV.mk_Circuit p0 (r1))) fun v w5 fr hRes hF => ?_
  obtain ⟨b3, a2, c2, rfl, _, hp, hs2⟩ := hRes
  obtain ⟨S4, hp, hs⟩ := hs.got hM0 hp hs2
  have r1 := r1.stp hM0 hp
  have hM0 := hM0.stp hp
  have hs : Sep [BX b3 76 [.int .i64 x3.c.Inputs, .slice a2 (List.length x3.c.Gates) c2, .bool x3.full], SL (α := D.Gate) 59 (.slice a2 (List.length x3.c.Gates) c2) x3.c.Gates, BX b2 28 [.int .i64 0, .slice none (List.length ([] : List D.Gate)) 0]] w5 S4 := hs
  refine from_pure 1 [(1, .int .i64 p1), (2, .int .i64 p2), (6, .pointer (some ⟨b2, 0, none⟩)), (9, .pointer (some ⟨b3, 0, none⟩))] hF (by kernel_rfl) fun fr hF => ?_
  refine from_end rfl (then_normal ?_)
  refine wp_seq (wp_text' ?_)
  refine from_pure 3 [(6, .pointer (some ⟨b2, 0, none⟩)), (9, .pointer (some ⟨b3, 0, none⟩)), (25, .pointer (some ⟨b3, 0, none⟩)), (26, .int .i64 p1), (27, .int .i64 p2)] hF (by kernel_rfl) fun fr hF => ?_
  obtain ⟨x4, hx4, h⟩ := bindE h
  obtain ⟨A1, R1, hsA, hsR, hdA, hbA, hup⟩ := Sep.call (L1 := [BX b3 76 [.int .i64 x3.c.Inputs, .slice a2 (List.length x3.c.Gates) c2, .bool x3.full], SL (α := D.Gate) 59 (.slice a2 (List.length x3.c.Gates) c2) x3.c.Gates]) (L2 := [BX b2 28 [.int .i64 0, .slice none (List.length ([] : List D.Gate)) 0]]) hs hM0
  refine s_call [.pointer (some ⟨b3, 0, none⟩), .int .i64 p1, .int .i64 p2] Try.call58 rfl rfl hF rfl (spec_l04Net_l04Xor_ok n x3 p1 p2 hx4 hsA hbA hdA) fun v w6 fr hRes hF => ?_
  obtain ⟨a3, c3, rfl, _, hp, hs⟩ := hRes
  obtain ⟨S5, hp, hs⟩ := hup hp hs
  have hM0 := hM0.stp hp
  have hs : Sep [BX b3 76 [.int .i64 x4.2.c.Inputs, .slice a3 (List.length x4.2.c.Gates) c3, .bool x4.2.full], SL (α := D.Gate) 59 (.slice a3 (List.length x4.2.c.Gates) c3) x4.2.c.Gates, BX b2 28 [.int .i64 0, .slice none (List.length ([] : List D.Gate)) 0]] w6 S5 := hs
  refine from_pure 1 [(6, .pointer (some ⟨b2, 0, none⟩)), (9, .pointer (some ⟨b3, 0, none⟩)), (10, .int .i64 x4.1)] hF (by kernel_rfl) fun fr hF => ?_
  refine from_end rfl (then_normal ?_)
  refine wp_seq (wp_text' ?_)
  refine from_pure 2 [(6, .pointer (some ⟨b2, 0, none⟩)), (29, .pointer (some ⟨b3, 0, none⟩)), (30, .int .i64 x4.1)] hF (by kernel_rfl) fun fr hF => ?_
  have hs : Sep [SL (α := D.Gate) 59 (.slice a3 (List.length x4.2.c.Gates) c3) x4.2.c.Gates, BX b3 76 [.int .i64 x4.2.c.Inputs, .slice a3 (List.length x4.2.c.Gates) c3, .bool x4.2.full], BX b2 28 [.int .i64 0, .slice none (List.length ([] : List D.Gate)) 0]] w6 S5 := Sep.pick [1, 0, 2] hs (by decide) rfl
  obtain ⟨S6, F1, hMn, hs, r2, hfz⟩ := Sep.freeze hs hM0
  have r2 := SL.rv r2
  have hM0 := hMn
  obtain ⟨S7, F2, hMn, hs, r3, hfz⟩ := Sep.freeze hs hM0
  have r3 : FB w6 F2 b3 76 [.int .i64 x4.2.c.Inputs, .slice a3 (List.length x4.2.c.Gates) c3, .bool x4.2.full] := r3
  have r2 := r2.big hfz
  have hM0 := hMn
  obtain ⟨x5, hx5, h⟩ := bindE h
  refine s_call [.pointer (some ⟨b3, 0, none⟩), .int .i64 x4.1] Try.call47 rfl rfl hF rfl (spec_l04Out_ok x4.2 x4.1 hx5 (r3) (r2)) fun v w7 fr hRes hF => ?_
  obtain ⟨v2, rfl, hc, r4⟩ := hRes
  obtain ⟨F3, hMn, hfz, hnw⟩ := hM0.grow hc
  have r3 := (r3.ext hc).big hfz
  have r2 := (r2.ext hc).big hfz
  have hs := hs.ext hc
  have hM0 := hMn
  have r4 := r4.sub (F' := F3) fun k hk h => h.elim (fun h => hfz k (by simpa [Non] using h)) (fun h => hnw k h hk)
  obtain ⟨v3, rfl, r5⟩ := RV.Circuit r4
  obtain ⟨a4, c4, rfl, -⟩ := r5.slice
  refine from_pure 3 [(6, .pointer (some ⟨b2, 0, none⟩)), (32, .agg #[.int .i64 x5.1.Inputs, .slice a4 (List.length x5.1.Gates) c4]), (33, .int .i64 x5.2.1), (34, .bool x5.2.2)] hF (by kernel_rfl) fun fr hF => ?_
  refine q_storeBoxS 0 hs hM0 rfl [.int .i64 x5.1.Inputs, .slice a4 (List.length x5.1.Gates) c4] rfl hF rfl rfl (by kernel_rfl) rfl rfl rfl fun w8 S8 hs hp hF => ?_
  have r5 := r5.stp hM0 hp
  have hM0 := hM0.stp hp
  have hs : Sep [BX b2 28 [.int .i64 x5.1.Inputs, .slice a4 (List.length x5.1.Gates) c4]] w8 S8 := hs
  refine from_pure 2 [(6, .pointer (some ⟨b2, 0, none⟩)), (7, .int .i64 x5.2.1), (8, .bool x5.2.2)] hF (by kernel_rfl) fun fr hF => ?_
  refine from_end rfl (then_normal ?_)
  have hrets := fun {σ : List (Nat × Value)} (h : σ = [(6, .pointer (some ⟨b2, 0, none⟩)), (7, .int .i64 x5.2.1), (8, .bool x5.2.2)]) => (by subst h; exact (Rets.cell rfl ty28 (hs.bx 0 rfl) rfl rfl (Rets.tmp rfl (Rets.tmp rfl Rets.nil))) : Rets Try.prog σ w8 [.cell 6 28, .tmp 7, .tmp 8] [.agg #[.int .i64 x5.1.Inputs, .slice a4 (List.length x5.1.Gates) c4], .int .i64 x5.2.1, .bool x5.2.2])
  obtain rfl := Option.some.inj h
  exact wp_ret (retG (rs := [.cell 6 28, .tmp 7, .tmp 8]) rfl (hF.sub [(6, .pointer (some ⟨b2, 0, none⟩)), (7, .int .i64 x5.2.1), (8, .bool x5.2.2)] (by kernel_rfl)) (hrets rfl) rfl ⟨_, rfl, _, rfl, hM0.chg, (RV.mk_Circuit x5.1 (r5.big (fun k h => mem_outF hM0 k h)))⟩)

theorem impl_varOf_ok (p0 : Int) {r : Int} (h : impl_varOf p0 = some r) {w : World} :
    Calls Try.prog 77 [.int .i64 p0].toArray w fun e w' => ∃ v, e = .returned v ∧ v = .int .i64 r ∧ Chg Non w w' := by
  unfold impl_varOf at h
  have hs := Sep.nil w Non
  have hM0 : Mem w Non (fun k => (False) ∧ k < w.heap.size) w Non (fun k => (False) ∧ k < w.heap.size) := Mem.start (fun _ h => h.elim) (fun _ h => h.2) (fun _ h => h.elim)
  refine enter (N := 8) Try.func77 rfl Try.ntmps77 rfl fun fr hF => ?_
  refine wp_seq (wp_pure [(0, .int .i64 p0)] hF (by kernel_rfl) fun fr hF => then_normal ?_)
  refine wp_seq ?_
  refine wp_seq (wp_pure [(0, .int .i64 p0), (4, .bool (decide (p0 < 0)))] hF (by kernel_rfl) fun fr hF => then_normal ?_)
  refine (wp_if hF (b := (decide (p0 < 0))) rfl (fun hb => ?_) (fun hb => ?_))
  · replace h := iteT hb h
    refine wp_seq (wp_pure [(2, .int .i64 (w64 (0 - p0)))] hF (by kernel_rfl) fun fr hF => then_normal ?_)
    obtain rfl := Option.some.inj h
    exact wp_ret (then_ret (ret1 rfl hF rfl ⟨_, rfl, rfl, hM0.chg⟩))
  replace h := iteF hb h
  refine (wp_skip (then_normal ?_))
  refine wp_seq (wp_pure [(2, .int .i64 p0)] hF (by kernel_rfl) fun fr hF => then_normal ?_)
  obtain rfl := Option.some.inj h
  exact wp_ret (ret1 rfl hF rfl ⟨_, rfl, rfl, hM0.chg⟩)

theorem impl_linesOf_ok (p0 : D.Circuit) {r : Int} (h : impl_linesOf p0 = some r) {w : World} {G0 : Nat → Prop} {va0 : Value} (ra0 : RV w G0 va0 p0) :
    Calls Try.prog 65 [va0].toArray w fun e w' => ∃ v, e = .returned v ∧ v = .int .i64 r ∧ Chg Non w w' := by
  unfold impl_linesOf at h
  have hs := Sep.nil w Non
  have hM0 : Mem w Non (fun k => (G0 k) ∧ k < w.heap.size) w Non (fun k => (G0 k) ∧ k < w.heap.size) := Mem.start (fun _ h => h.elim) (fun _ h => h.2) (fun _ h => h.elim)
  have ra0 := ra0.sub (F' := (fun k => (G0 k) ∧ k < w.heap.size)) (fun k hk h => ⟨h, hk⟩)
  obtain ⟨v1, rfl, r1⟩ := RV.Circuit ra0
  obtain ⟨a1, c1, rfl, -⟩ := r1.slice
  refine enter (N := 10) Try.func65 rfl Try.ntmps65 rfl fun fr hF => ?_
  refine wp_seq (wp_text' ?_)
  refine q_box hs hM0 [.int .i64 p0.Inputs, .slice a1 (List.length p0.Gates) c1] rfl rfl hF rfl rfl fun b1 w1 S1 fr hs hp hF => ?_
  have r1 := r1.stp hM0 hp
  have hM0 := hM0.stp hp
  have hs : Sep [BX b1 28 [.int .i64 p0.Inputs, .slice a1 (List.length p0.Gates) c1]] w1 S1 := hs
  refine from_pure 1 [(1, .pointer (some ⟨b1, 0, none⟩))] hF (by kernel_rfl) fun fr hF => ?_
  refine from_end rfl (then_normal ?_)
  refine wp_seq (wp_text' ?_)
  refine from_pure 1 [(1, .pointer (some ⟨b1, 0, none⟩)), (3, .pointer (some ⟨b1, 0, none⟩))] hF (by kernel_rfl) fun fr hF => ?_
  refine s_loadBox (.int .i64 p0.Inputs) ty3 rfl rfl hF rfl (hs.bx 0 rfl) rfl rfl fun fr hF => ?_
  refine from_pure 2 [(5, .int .i64 (w64 (1 + p0.Inputs))), (6, .pointer (some ⟨b1, 1, none⟩))] hF (by kernel_rfl) fun fr hF => ?_
  refine s_loadBox (.slice a1 (List.length p0.Gates) c1) ty26 rfl rfl hF rfl (hs.bx 0 rfl) rfl rfl fun fr hF => ?_
  have hs : Sep [] w1 S1 := Sep.pick [] hs (by decide) rfl
  refine from_pure 3 [(2, .int .i64 (w64 ((w64 (1 + p0.Inputs)) + (len p0.Gates))))] hF (by kernel_rfl) fun fr hF => ?_
  refine from_end rfl (then_normal ?_)
  obtain rfl := Option.some.inj h
  exact wp_ret (ret1 rfl hF rfl ⟨_, rfl, rfl, hM0.chg⟩)

theorem impl_builder_and_ok (p0 : D.builder) (p1 : Int) (p2 : Int) {r : Int × D.builder} (h : impl_builder_and p0 p1 p2 = some r) {w : World} {S0 F0 : Nat → Prop} {pa0 : Option Addr} {pn0 pc0 : Nat} {b1 : Nat} {b2 : Nat} (hs : Sep [BX b1 83 [.int .i64 p0.c.Inputs, .slice pa0 pn0 pc0, .map (some b2), .bool p0.full], SL (α := D.Gate) 59 (.slice pa0 pn0 pc0) p0.c.Gates, MP map81 b2 p0.line] w S0) (hb : ∀ k, S0 k → k < w.heap.size) (hd : ∀ k, S0 k → F0 k → False) :
    Calls Try.prog 51 [.pointer (some ⟨b1, 0, none⟩), .int .i64 p1, .int .i64 p2].toArray w fun e w' => ∃ v, e = .returned v ∧ ∃ a1 c1, v = .int .i64 r.1 ∧ ∃ S', Stp w S0 w' S' ∧ Sep [BX b1 83 [.int .i64 r.2.c.Inputs, .slice a1 (List.length r.2.c.Gates) c1, .map (some b2), .bool r.2.full], SL (α := D.Gate) 59 (.slice a1 (List.length r.2.c.Gates) c1) r.2.c.Gates, MP map81 b2 r.2.line] w' S' := by
  unfold impl_builder_and at h
  obtain ⟨hpn, hs⟩ := hs.relen 1 rfl
  subst hpn
  have hs : Sep [BX b1 83 [.int .i64 p0.c.Inputs, .slice pa0 (List.length p0.c.Gates) pc0, .map (some b2), .bool p0.full], SL (α := D.Gate) 59 (.slice pa0 (List.length p0.c.Gates) pc0) p0.c.Gates, MP map81 b2 p0.line] w S0 := hs
  have hM0 : Mem w S0 (fun k => F0 k ∧ k < w.heap.size) w S0 (fun k => F0 k ∧ k < w.heap.size) := Mem.start hb (fun _ h => h.2) (fun k h1 h2 => hd k h1 h2.1)
  refine enter (N := 93) Try.func51 rfl Try.ntmps51 rfl fun fr hF => ?_
  refine wp_seq (wp_pure [(0, .pointer (some ⟨b1, 0, none⟩)), (1, .int .i64 p1), (2, .int .i64 p2)] hF (by kernel_rfl) fun fr hF => then_normal ?_)
  refine wp_seq (wp_block ?_)
  refine wp_seq (region_b [] [true, true, true, true, true, true, true, true, true, true, true, true, true]
      [.eq (.int .i64 p1), .eq (.bool (p1 == (-1))), .eq (.bool (p1 == (-1))), .eq (.int .i64 p2), .eq (.bool (p2 == (-1))), .eq (.bool ((p1 == (-1)) || (p2 == (-1)))), .eq (.bool ((p1 == (-1)) || (p2 == (-1)))), .eq (.int .i64 p1), .eq (.int .i64 p2), .eq (.int .i64 (w64 (0 - p2))), .eq (.bool (p1 == (w64 (0 - p2)))), .eq (.bool (((p1 == (-1)) || (p2 == (-1))) || (p1 == (w64 (0 - p2))))), .eq (.bool (((p1 == (-1)) || (p2 == (-1))) || (p1 == (w64 (0 - p2)))))]
      [(0, .pointer (some ⟨b1, 0, none⟩)), (1, .int .i64 p1), (2, .int .i64 p2), (11, .bool (((p1 == (-1)) || (p2 == (-1))) || (p1 == (w64 (0 - p2)))))] mix hF (by kernel_rfl) (by kernel_rfl) (by kernel_rfl) trivial (fun hG => trivial) (by kernel_rfl) fun fr w1 hF hE hc => then_normal ?_)
  have hs := hs.ext hc
  have hM0 := hM0.ext hc
  refine (wp_if hF (b := (((p1 == (-1)) || (p2 == (-1))) || (p1 == (w64 (0 - p2))))) rfl (fun hb => ?_) (fun hb => ?_))
  · replace h := iteT hb h
    refine wp_seq (wp_pure [(6, .int .i64 (-1))] hF (by kernel_rfl) fun fr hF => then_normal ?_)
    obtain rfl := Option.some.inj h
    exact wp_ret (blk_ret (then_ret (ret1 rfl hF rfl ⟨_, rfl, pa0, pc0, rfl, S0, hM0.out, hs⟩)))
  replace h := iteF hb h
  refine wp_seq (wp_pure [(0, .pointer (some ⟨b1, 0, none⟩)), (1, .int .i64 p1), (2, .int .i64 p2), (24, .bool (p1 == 1))] hF (by kernel_rfl) fun fr hF => then_normal ?_)
  refine (wp_if hF (b := (p1 == 1)) rfl (fun hb => ?_) (fun hb => ?_))
  · replace h := iteT hb h
    refine wp_seq (wp_pure [(6, .int .i64 p2)] hF (by kernel_rfl) fun fr hF => then_normal ?_)
    obtain rfl := Option.some.inj h
    exact wp_ret (blk_ret (then_ret (ret1 rfl hF rfl ⟨_, rfl, pa0, pc0, rfl, S0, hM0.out, hs⟩)))
  replace h := iteF hb h
  refine wp_seq (region_b [] [true, true, true, true, true, true, true, true]
      [.eq (.int .i64 p2), .eq (.bool (p2 == 1)), .eq (.bool (p2 == 1)), .eq (.int .i64 p1), .eq (.int .i64 p2), .eq (.bool (p1 == p2)), .eq (.bool ((p2 == 1) || (p1 == p2))), .eq (.bool ((p2 == 1) || (p1 == p2)))]
      [(0, .pointer (some ⟨b1, 0, none⟩)), (1, .int .i64 p1), (2, .int .i64 p2), (28, .bool ((p2 == 1) || (p1 == p2)))] mix hF (by kernel_rfl) (by kernel_rfl) (by kernel_rfl) trivial (fun hG => trivial) (by kernel_rfl) fun fr w2 hF hE hc => then_normal ?_)
  have hs := hs.ext hc
  have hM0 := hM0.ext hc
  refine (wp_if hF (b := ((p2 == 1) || (p1 == p2))) rfl (fun hb => ?_) (fun hb => ?_))
  · replace h := iteT hb h
    refine wp_seq (wp_pure [(6, .int .i64 p1)] hF (by kernel_rfl) fun fr hF => then_normal ?_)
    obtain rfl := Option.some.inj h
    exact wp_ret (blk_ret (then_ret (ret1 rfl hF rfl ⟨_, rfl, pa0, pc0, rfl, S0, hM0.out, hs⟩)))
  replace h := iteF hb h
  refine (wp_skip ?_)
  refine blk_normal (then_normal ?_)
  refine wp_seq (wp_text' ?_)
  refine from_pure 3 [(0, .pointer (some ⟨b1, 0, none⟩)), (1, .int .i64 p1), (2, .int .i64 p2), (39, .agg #[.int .i64 p1, .int .i64 p2])] hF (by kernel_rfl) fun fr hF => ?_
  refine q_alloc (z := .agg #[.int .i64 0, .int .i64 0]) hs hM0 [.int .i64 0, .int .i64 0] rfl rfl hF (by kernel_rfl) rfl fun b3 w3 S1 fr hs hp hF => ?_
  have hM0 := hM0.stp hp
  have hs : Sep [BX b3 59 [.int .i64 0, .int .i64 0], BX b1 83 [.int .i64 p0.c.Inputs, .slice pa0 (List.length p0.c.Gates) pc0, .map (some b2), .bool p0.full], SL (α := D.Gate) 59 (.slice pa0 (List.length p0.c.Gates) pc0) p0.c.Gates, MP map81 b2 p0.line] w3 S1 := hs
  refine q_storeBoxS 0 hs hM0 rfl [.int .i64 p1, .int .i64 p2] rfl hF rfl rfl (by kernel_rfl) rfl rfl rfl fun w4 S2 hs hp hF => ?_
  have hM0 := hM0.stp hp
  have hs : Sep [BX b3 59 [.int .i64 p1, .int .i64 p2], BX b1 83 [.int .i64 p0.c.Inputs, .slice pa0 (List.length p0.c.Gates) pc0, .map (some b2), .bool p0.full], SL (α := D.Gate) 59 (.slice pa0 (List.length p0.c.Gates) pc0) p0.c.Gates, MP map81 b2 p0.line] w4 S2 := hs
  refine from_end rfl (then_normal ?_)
  refine wp_seq ?_
  refine wp_seq (wp_text' ?_)
  refine from_pure 1 [(0, .pointer (some ⟨b1, 0, none⟩)), (1, .int .i64 p1), (2, .int .i64 p2), (7, .pointer (some ⟨b3, 0, none⟩)), (40, .int .i64 p1)] hF (by kernel_rfl) fun fr hF => ?_
  obtain ⟨x1, hx1, h⟩ := bindE h
  refine s_call [.int .i64 p1] Try.call77 rfl rfl hF rfl (impl_varOf_ok p1 hx1) fun v w5 fr hRes hF => ?_
  obtain ⟨rfl, hc⟩ := hRes
  have hs := hs.ext hc
  have hM0 := hM0.ext hc
  refine from_pure 1 [(0, .pointer (some ⟨b1, 0, none⟩)), (1, .int .i64 p1), (2, .int .i64 p2), (7, .pointer (some ⟨b3, 0, none⟩)), (41, .int .i64 x1), (42, .int .i64 p2)] hF (by kernel_rfl) fun fr hF => ?_
  obtain ⟨x2, hx2, h⟩ := bindE h
  refine s_call [.int .i64 p2] Try.call77 rfl rfl hF rfl (impl_varOf_ok p2 hx2) fun v w6 fr hRes hF => ?_
  obtain ⟨rfl, hc⟩ := hRes
  have hs := hs.ext hc
  have hM0 := hM0.ext hc
  refine from_pure 1 [(0, .pointer (some ⟨b1, 0, none⟩)), (1, .int .i64 p1), (2, .int .i64 p2), (7, .pointer (some ⟨b3, 0, none⟩)), (44, .bool (decide (x1 > x2)))] hF (by kernel_rfl) fun fr hF => ?_
  refine from_end rfl (then_normal ?_)
  refine (wp_if hF (b := (decide (x1 > x2))) rfl (fun hb => ?_) (fun hb => ?_))
  · replace h := iteT hb h
    refine (wp_text' ?_)
    refine from_pure 3 [(0, .pointer (some ⟨b1, 0, none⟩)), (7, .pointer (some ⟨b3, 0, none⟩)), (47, .agg #[.int .i64 p2, .int .i64 p1])] hF (by kernel_rfl) fun fr hF => ?_
    refine q_storeBoxS 0 hs hM0 rfl [.int .i64 p2, .int .i64 p1] rfl hF rfl rfl (by kernel_rfl) rfl rfl rfl fun w7 S3 hs hp hF => ?_
    have hM0 := hM0.stp hp
    have hs : Sep [BX b3 59 [.int .i64 p2, .int .i64 p1], BX b1 83 [.int .i64 p0.c.Inputs, .slice pa0 (List.length p0.c.Gates) pc0, .map (some b2), .bool p0.full], SL (α := D.Gate) 59 (.slice pa0 (List.length p0.c.Gates) pc0) p0.c.Gates, MP map81 b2 p0.line] w7 S3 := hs
    refine from_end rfl (then_normal ?_)
    refine wp_seq ?_
    obtain ⟨x3, hx3, h⟩ := bindE h
    refine wp_seq (region_bm 11 [0, 1, 3, 7, 0, 31, 63, 127, 127, 255, 1023] [true, true, true, false, false, false, true, true, true, true, true]
        [.eq (.pointer (some ⟨b1, 0, none⟩)), .eq (.pointer (some ⟨b1, 0, none⟩)), .eq (.pointer (some ⟨b1, 2, none⟩)), .eq (.map (some b2)), .eq (.agg #[.int .i64 p2, .int .i64 p1]), .eq (.tuple #[.int .i64 x3.1, .bool x3.2]), .eq (.tuple #[.int .i64 x3.1, .bool x3.2]), .eq (.int .i64 x3.1), .eq (.bool x3.2), .eq (.int .i64 x3.1), .eq (.bool x3.2)]
        [(0, .pointer (some ⟨b1, 0, none⟩)), (7, .pointer (some ⟨b3, 0, none⟩)), (8, .int .i64 x3.1), (9, .bool x3.2)] mix hF (by kernel_rfl) (by kernel_rfl) (by kernel_rfl) (by kernel_rfl) ⟨Pd.monoO_eq, Pd.monoO_eq, Pd.monoO_eq, trivial⟩ (fun ow hG => ⟨np_to ow (np_loadBox hG hF ty81 rfl rfl (hs.bx 1 rfl) rfl rfl rfl), np_to ow (np_loadBoxS hG hF ty59 rfl rfl (hs.bx 0 rfl) rfl rfl rfl rfl), np_to ow (np_mapGet2 map81 3 hs rfl Try.underlying81 hG hF rfl (u := (D.Gate.mk p2 p1)) rfl rfl rfl (fun hg => mget2?_fit hx3) (r := x3) (fun hg => mget2?_val hx3) rfl rfl), trivial⟩) (by kernel_rfl) fun ow fr w8 hF hE hc => ?_)
    have hs := hs.ext hc
    have hM0 := hM0.ext hc
    refine from_end rfl (then_normal ?_)
    refine wp_seq (wp_pure [(0, .pointer (some ⟨b1, 0, none⟩)), (7, .pointer (some ⟨b3, 0, none⟩)), (8, .int .i64 x3.1), (57, .bool x3.2)] hF (by kernel_rfl) fun fr hF => then_normal ?_)
    refine (wp_if hF (b := x3.2) rfl (fun hb => ?_) (fun hb => ?_))
    · replace h := iteT hb h
      have hs : Sep [BX b1 83 [.int .i64 p0.c.Inputs, .slice pa0 (List.length p0.c.Gates) pc0, .map (some b2), .bool p0.full], SL (α := D.Gate) 59 (.slice pa0 (List.length p0.c.Gates) pc0) p0.c.Gates, MP map81 b2 p0.line] w8 S3 := Sep.pick [1, 2, 3] hs (by decide) rfl
      refine wp_seq (wp_pure [(6, .int .i64 x3.1)] hF (by kernel_rfl) fun fr hF => then_normal ?_)
      obtain rfl := Option.some.inj h
      exact wp_ret (then_ret (ret1 rfl hF rfl ⟨_, rfl, pa0, pc0, rfl, S3, hM0.out, hs⟩))
    replace h := iteF hb h
    refine (wp_skip (then_normal ?_))
    refine wp_seq ?_
    refine wp_seq (wp_text' ?_)
    refine from_pure 4 [(0, .pointer (some ⟨b1, 0, none⟩)), (7, .pointer (some ⟨b3, 0, none⟩)), (62, .pointer (some ⟨b1, 1, none⟩))] hF (by kernel_rfl) fun fr hF => ?_
    refine s_loadBox (.slice pa0 (List.length p0.c.Gates) pc0) ty26 rfl rfl hF rfl (hs.bx 1 rfl) rfl rfl fun fr hF => ?_
    refine from_pure 2 [(0, .pointer (some ⟨b1, 0, none⟩)), (7, .pointer (some ⟨b3, 0, none⟩)), (65, .bool (decide ((len p0.c.Gates) ≥ 360)))] hF (by kernel_rfl) fun fr hF => ?_
    refine from_end rfl (then_normal ?_)
    refine (wp_if hF (b := (decide ((len p0.c.Gates) ≥ 360))) rfl (fun hb => ?_) (fun hb => ?_))
    · replace h := iteT hb h
      have hs : Sep [BX b1 83 [.int .i64 p0.c.Inputs, .slice pa0 (List.length p0.c.Gates) pc0, .map (some b2), .bool p0.full], SL (α := D.Gate) 59 (.slice pa0 (List.length p0.c.Gates) pc0) p0.c.Gates, MP map81 b2 p0.line] w8 S3 := Sep.pick [1, 2, 3] hs (by decide) rfl
      refine wp_seq (wp_text' ?_)
      refine from_pure 3 [(68, .pointer (some ⟨b1, 3, none⟩))] hF (by kernel_rfl) fun fr hF => ?_
      refine q_storeBox 0 hs hM0 rfl [.int .i64 p0.c.Inputs, .slice pa0 (List.length p0.c.Gates) pc0, .map (some b2), .bool true] rfl hF rfl rfl (by kernel_rfl) rfl rfl rfl fun w9 S4 hs hp hF => ?_
      have hM0 := hM0.stp hp
      have hs : Sep [BX b1 83 [.int .i64 p0.c.Inputs, .slice pa0 (List.length p0.c.Gates) pc0, .map (some b2), .bool true], SL (α := D.Gate) 59 (.slice pa0 (List.length p0.c.Gates) pc0) p0.c.Gates, MP map81 b2 p0.line] w9 S4 := hs
      refine from_end rfl (then_normal ?_)
      refine wp_seq (wp_pure [(6, .int .i64 (-1))] hF (by kernel_rfl) fun fr hF => then_normal ?_)
      obtain rfl := Option.some.inj h
      exact wp_ret (then_ret (ret1 rfl hF rfl ⟨_, rfl, pa0, pc0, rfl, S4, hM0.out, hs⟩))
    replace h := iteF hb h
    refine (wp_skip (then_normal ?_))
    refine wp_seq (region_bf 8 0 [0, 0, 2, 6, 14, 30, 0, 64, 254, 511, 1023, 2047, 4095] [true, true, true, true, true, false, false, false]
        [.eq (.pointer (some ⟨b1, 0, none⟩)), .eq (.pointer (some ⟨b1, 0, none⟩)), .eq (.pointer (some ⟨b1, 0, none⟩)), .eq (.pointer (some ⟨b1, 0, none⟩)), .eq (.pointer (some ⟨b1, 1, none⟩)), .eq (.slice pa0 (List.length p0.c.Gates) pc0), .eq (.agg #[.int .i64 p2, .int .i64 p1]), .own fun ow v w => ∃ i : Option Addr × Nat, v = .slice i.1 (List.length ([(D.Gate.mk p2 p1)] : List D.Gate)) i.2 ∧ (SL (α := D.Gate) 59 (.slice i.1 (List.length ([(D.Gate.mk p2 p1)] : List D.Gate)) i.2) ([(D.Gate.mk p2 p1)] : List D.Gate)).ok w (fun k => w8.heap.size ≤ k ∧ k < w.heap.size ∧ ow k = 7), .any, .any, .any, .any, .any]
        [(0, .pointer (some ⟨b1, 0, none⟩)), (7, .pointer (some ⟨b3, 0, none⟩)), (69, .pointer (some ⟨b1, 0, none⟩)), (74, .slice pa0 (List.length p0.c.Gates) pc0)] mix hF (by kernel_rfl) (fun _ _ _ _ _ h => h) (by kernel_rfl) (by kernel_rfl) (by kernel_rfl) ⟨Pd.monoO_eq, Pd.monoO_eq, mono_new, trivial⟩ (fun ow hG => ⟨np_to ow (np_loadBox hG hF ty26 rfl rfl (hs.bx 1 rfl) rfl rfl rfl), np_to ow (np_loadBoxS hG hF ty59 rfl rfl (hs.bx 0 rfl) rfl rfl rfl rfl), np_lit (E := 59) [.int .i64 p2, .int .i64 p1] (([(D.Gate.mk p2 p1)] : List D.Gate).map Flat.enc) ([(D.Gate.mk p2 p1)] : List D.Gate) hG hF rfl [.agg #[.int .i64 p2, .int .i64 p1]] rfl (fun w => by kernel_rfl) (fun w => css_flat _) rfl rfl rfl rfl, trivial⟩) (by kernel_rfl) fun ow fr w10 hF hE hc => ?_)
    obtain ⟨⟨a1, c1⟩, hv, hnw7⟩ := hE.is 76 7 rfl rfl
    have hF := hF.cons hv
    have hsN := sepO (w0 := w8) (ow := ow) [(7, SL (α := D.Gate) 59 (.slice a1 (List.length ([(D.Gate.mk p2 p1)] : List D.Gate)) c1) ([(D.Gate.mk p2 p1)] : List D.Gate))] (show ([7] : List Nat).Nodup by decide) ⟨hnw7, trivial⟩ rfl
    obtain ⟨S5, hp, hs⟩ := hs.got hM0 (stp_new hc) hsN
    have hM0 := hM0.stp hp
    have hs : Sep [SL (α := D.Gate) 59 (.slice a1 (List.length ([(D.Gate.mk p2 p1)] : List D.Gate)) c1) ([(D.Gate.mk p2 p1)] : List D.Gate), BX b3 59 [.int .i64 p2, .int .i64 p1], BX b1 83 [.int .i64 p0.c.Inputs, .slice pa0 (List.length p0.c.Gates) pc0, .map (some b2), .bool p0.full], SL (α := D.Gate) 59 (.slice pa0 (List.length p0.c.Gates) pc0) p0.c.Gates, MP map81 b2 p0.line] w10 S5 := hs
    obtain ⟨x4, hx4, h⟩ := bindE h
    refine q_append 3 hs hM0 rfl Try.underlying26 el59 rfl rfl rfl hF rfl rfl (hs.rv 0 rfl) hx4 fun a2 c2 w11 S6 fr hs hp hF => ?_
    have hM0 := hM0.stp hp
    have hs : Sep [SL (α := D.Gate) 59 (.slice a1 (List.length ([(D.Gate.mk p2 p1)] : List D.Gate)) c1) ([(D.Gate.mk p2 p1)] : List D.Gate), BX b3 59 [.int .i64 p2, .int .i64 p1], BX b1 83 [.int .i64 p0.c.Inputs, .slice pa0 (List.length p0.c.Gates) pc0, .map (some b2), .bool p0.full], SL (α := D.Gate) 59 (.slice a2 (List.length x4) c2) x4, MP map81 b2 p0.line] w11 S6 := hs
    have hs : Sep [BX b3 59 [.int .i64 p2, .int .i64 p1], BX b1 83 [.int .i64 p0.c.Inputs, .slice pa0 (List.length p0.c.Gates) pc0, .map (some b2), .bool p0.full], SL (α := D.Gate) 59 (.slice a2 (List.length x4) c2) x4, MP map81 b2 p0.line] w11 S6 := Sep.pick [1, 2, 3, 4] hs (by decide) rfl
    refine from_pure 3 [(0, .pointer (some ⟨b1, 0, none⟩)), (7, .pointer (some ⟨b3, 0, none⟩)), (77, .slice a2 (List.length x4) c2), (80, .pointer (some ⟨b1, 1, none⟩))] hF (by kernel_rfl) fun fr hF => ?_
    refine q_storeBox 1 hs hM0 rfl [.int .i64 p0.c.Inputs, .slice a2 (List.length x4) c2, .map (some b2), .bool p0.full] rfl hF rfl rfl (by kernel_rfl) rfl rfl rfl fun w12 S7 hs hp hF => ?_
    have hM0 := hM0.stp hp
    have hs : Sep [BX b3 59 [.int .i64 p2, .int .i64 p1], BX b1 83 [.int .i64 p0.c.Inputs, .slice a2 (List.length x4) c2, .map (some b2), .bool p0.full], SL (α := D.Gate) 59 (.slice a2 (List.length x4) c2) x4, MP map81 b2 p0.line] w12 S7 := hs
    refine from_end rfl (then_normal ?_)
    refine wp_seq (wp_text' ?_)
    refine from_pure 3 [(0, .pointer (some ⟨b1, 0, none⟩)), (7, .pointer (some ⟨b3, 0, none⟩)), (83, .pointer (some ⟨b1, 0, none⟩))] hF (by kernel_rfl) fun fr hF => ?_
    refine s_loadPart [.int .i64 p0.c.Inputs, .slice a2 (List.length x4) c2] ty28 rfl rfl hF rfl (hs.bx 1 rfl) rfl rfl rfl fun fr hF => ?_
    obtain ⟨x5, hx5, h⟩ := bindE h
    refine s_call [.agg #[.int .i64 p0.c.Inputs, .slice a2 (List.length x4) c2]] Try.call65 rfl rfl hF rfl (impl_linesOf_ok (D.Circuit.mk p0.c.Inputs x4) hx5 (RV.mk_Circuit (D.Circuit.mk p0.c.Inputs x4) (RV.any (hs.rv 2 rfl)))) fun v w13 fr hRes hF => ?_
    obtain ⟨rfl, hc⟩ := hRes
    have hs := hs.ext hc
    have hM0 := hM0.ext hc
    refine from_pure 1 [(0, .pointer (some ⟨b1, 0, none⟩)), (7, .pointer (some ⟨b3, 0, none⟩)), (10, .int .i64 x5)] hF (by kernel_rfl) fun fr hF => ?_
    refine from_end rfl (then_normal ?_)
    refine wp_seq (region_bm 6 [0, 1, 3, 7, 0, 0, 63] [true, true, true, false, false, true]
        [.eq (.pointer (some ⟨b1, 0, none⟩)), .eq (.pointer (some ⟨b1, 0, none⟩)), .eq (.pointer (some ⟨b1, 2, none⟩)), .eq (.map (some b2)), .eq (.agg #[.int .i64 p2, .int .i64 p1]), .eq (.int .i64 x5), .any]
        [(10, .int .i64 x5), (89, .map (some b2)), (90, .agg #[.int .i64 p2, .int .i64 p1]), (91, .int .i64 x5)] mix hF (by kernel_rfl) (by kernel_rfl) (by kernel_rfl) (by kernel_rfl) ⟨Pd.monoO_eq, Pd.monoO_eq, trivial⟩ (fun ow hG => ⟨np_to ow (np_loadBox hG hF ty81 rfl rfl (hs.bx 1 rfl) rfl rfl rfl), np_to ow (np_loadBoxS hG hF ty59 rfl rfl (hs.bx 0 rfl) rfl rfl rfl rfl), trivial⟩) (by kernel_rfl) fun ow fr w14 hF hE hc => ?_)
    have hs := hs.ext hc
    have hM0 := hM0.ext hc
    have hs : Sep [BX b1 83 [.int .i64 p0.c.Inputs, .slice a2 (List.length x4) c2, .map (some b2), .bool p0.full], SL (α := D.Gate) 59 (.slice a2 (List.length x4) c2) x4, MP map81 b2 p0.line] w14 S7 := Sep.pick [1, 2, 3] hs (by decide) rfl
    obtain ⟨x6, hx6, h⟩ := bindE h
    refine q_mapPut map81 2 hs hM0 rfl Try.underlying81 rfl hF (u := (D.Gate.mk p2 p1)) (mputE?_fit hx6) x5 (mputE?_efit hx6) (mputE?_len hx6) rfl rfl rfl rfl rfl fun w15 S8 hs hp hF => ?_
    have hM0 := hM0.stp hp
    have hs : Sep [BX b1 83 [.int .i64 p0.c.Inputs, .slice a2 (List.length x4) c2, .map (some b2), .bool p0.full], SL (α := D.Gate) 59 (.slice a2 (List.length x4) c2) x4, MP map81 b2 x6] w15 S8 := by rw [mputE?_val hx6]; exact hs
    refine from_end rfl (then_normal ?_)
    refine wp_seq (wp_pure [(6, .int .i64 x5)] hF (by kernel_rfl) fun fr hF => then_normal ?_)
    obtain rfl := Option.some.inj h
    exact wp_ret (ret1 rfl hF rfl ⟨_, rfl, a2, c2, rfl, S8, hM0.out, hs⟩)
  replace h := iteF hb h
  refine (wp_skip (then_normal ?_))
  refine wp_seq ?_
  obtain ⟨x7, hx7, h⟩ := bindE h
  refine wp_seq (region_bm 11 [0, 1, 3, 7, 0, 31, 63, 127, 127, 255, 1023] [true, true, true, false, false, false, true, true, true, true, true]
      [.eq (.pointer (some ⟨b1, 0, none⟩)), .eq (.pointer (some ⟨b1, 0, none⟩)), .eq (.pointer (some ⟨b1, 2, none⟩)), .eq (.map (some b2)), .eq (.agg #[.int .i64 p1, .int .i64 p2]), .eq (.tuple #[.int .i64 x7.1, .bool x7.2]), .eq (.tuple #[.int .i64 x7.1, .bool x7.2]), .eq (.int .i64 x7.1), .eq (.bool x7.2), .eq (.int .i64 x7.1), .eq (.bool x7.2)]
      [(0, .pointer (some ⟨b1, 0, none⟩)), (7, .pointer (some ⟨b3, 0, none⟩)), (8, .int .i64 x7.1), (9, .bool x7.2)] mix hF (by kernel_rfl) (by kernel_rfl) (by kernel_rfl) (by kernel_rfl) ⟨Pd.monoO_eq, Pd.monoO_eq, Pd.monoO_eq, trivial⟩ (fun ow hG => ⟨np_to ow (np_loadBox hG hF ty81 rfl rfl (hs.bx 1 rfl) rfl rfl rfl), np_to ow (np_loadBoxS hG hF ty59 rfl rfl (hs.bx 0 rfl) rfl rfl rfl rfl), np_to ow (np_mapGet2 map81 3 hs rfl Try.underlying81 hG hF rfl (u := (D.Gate.mk p1 p2)) rfl rfl rfl (fun hg => mget2?_fit hx7) (r := x7) (fun hg => mget2?_val hx7) rfl rfl), trivial⟩) (by kernel_rfl) fun ow fr w16 hF hE hc => ?_)
  have hs := hs.ext hc
  have hM0 := hM0.ext hc
  refine from_end rfl (then_normal ?_)
  refine wp_seq (wp_pure [(0, .pointer (some ⟨b1, 0, none⟩)), (7, .pointer (some ⟨b3, 0, none⟩)), (8, .int .i64 x7.1), (57, .bool x7.2)] hF (by kernel_rfl) fun fr hF => then_normal ?_)
  refine (wp_if hF (b := x7.2) rfl (fun hb => ?_) (fun hb => ?_))
  · replace h := iteT hb h
    have hs : Sep [BX b1 83 [.int .i64 p0.c.Inputs, .slice pa0 (List.length p0.c.Gates) pc0, .map (some b2), .bool p0.full], SL (α := D.Gate) 59 (.slice pa0 (List.length p0.c.Gates) pc0) p0.c.Gates, MP map81 b2 p0.line] w16 S2 := Sep.pick [1, 2, 3] hs (by decide) rfl
    refine wp_seq (wp_pure [(6, .int .i64 x7.1)] hF (by kernel_rfl) fun fr hF => then_normal ?_)
    obtain rfl := Option.some.inj h
    exact wp_ret (then_ret (ret1 rfl hF rfl ⟨_, rfl, pa0, pc0, rfl, S2, hM0.out, hs⟩))
  replace h := iteF hb h
  refine (wp_skip (then_normal ?_))
  refine wp_seq ?_
  refine wp_seq (wp_text' ?_)
  refine from_pure 4 [(0, .pointer (some ⟨b1, 0, none⟩)), (7, .pointer (some ⟨b3, 0, none⟩)), (62, .pointer (some ⟨b1, 1, none⟩))] hF (by kernel_rfl) fun fr hF => ?_
  refine s_loadBox (.slice pa0 (List.length p0.c.Gates) pc0) ty26 rfl rfl hF rfl (hs.bx 1 rfl) rfl rfl fun fr hF => ?_
  refine from_pure 2 [(0, .pointer (some ⟨b1, 0, none⟩)), (7, .pointer (some ⟨b3, 0, none⟩)), (65, .bool (decide ((len p0.c.Gates) ≥ 360)))] hF (by kernel_rfl) fun fr hF => ?_
  refine from_end rfl (then_normal ?_)
  refine (wp_if hF (b := (decide ((len p0.c.Gates) ≥ 360))) rfl (fun hb => ?_) (fun hb => ?_))
  · replace h := iteT hb h
    have hs : Sep [BX b1 83 [.int .i64 p0.c.Inputs, .slice pa0 (List.length p0.c.Gates) pc0, .map (some b2), .bool p0.full], SL (α := D.Gate) 59 (.slice pa0 (List.length p0.c.Gates) pc0) p0.c.Gates, MP map81 b2 p0.line] w16 S2 := Sep.pick [1, 2, 3] hs (by decide) rfl
    refine wp_seq (wp_text' ?_)
    refine from_pure 3 [(68, .pointer (some ⟨b1, 3, none⟩))] hF (by kernel_rfl) fun fr hF => ?_
    refine q_storeBox 0 hs hM0 rfl [.int .i64 p0.c.Inputs, .slice pa0 (List.length p0.c.Gates) pc0, .map (some b2), .bool true] rfl hF rfl rfl (by kernel_rfl) rfl rfl rfl fun w17 S9 hs hp hF => ?_
    have hM0 := hM0.stp hp
    have hs : Sep [BX b1 83 [.int .i64 p0.c.Inputs, .slice pa0 (List.length p0.c.Gates) pc0, .map (some b2), .bool true], SL (α := D.Gate) 59 (.slice pa0 (List.length p0.c.Gates) pc0) p0.c.Gates, MP map81 b2 p0.line] w17 S9 := hs
    refine from_end rfl (then_normal ?_)
    refine wp_seq (wp_pure [(6, .int .i64 (-1))] hF (by kernel_rfl) fun fr hF => then_normal ?_)
    obtain rfl := Option.some.inj h
    exact wp_ret (then_ret (ret1 rfl hF rfl ⟨_, rfl, pa0, pc0, rfl, S9, hM0.out, hs⟩))
  replace h := iteF hb h
  refine (wp_skip (then_normal ?_))
  refine wp_seq (region_bf 8 0 [0, 0, 2, 6, 14, 30, 0, 64, 254, 511, 1023, 2047, 4095] [true, true, true, true, true, false, false, false]
      [.eq (.pointer (some ⟨b1, 0, none⟩)), .eq (.pointer (some ⟨b1, 0, none⟩)), .eq (.pointer (some ⟨b1, 0, none⟩)), .eq (.pointer (some ⟨b1, 0, none⟩)), .eq (.pointer (some ⟨b1, 1, none⟩)), .eq (.slice pa0 (List.length p0.c.Gates) pc0), .eq (.agg #[.int .i64 p1, .int .i64 p2]), .own fun ow v w => ∃ i : Option Addr × Nat, v = .slice i.1 (List.length ([(D.Gate.mk p1 p2)] : List D.Gate)) i.2 ∧ (SL (α := D.Gate) 59 (.slice i.1 (List.length ([(D.Gate.mk p1 p2)] : List D.Gate)) i.2) ([(D.Gate.mk p1 p2)] : List D.Gate)).ok w (fun k => w16.heap.size ≤ k ∧ k < w.heap.size ∧ ow k = 7), .any, .any, .any, .any, .any]
      [(0, .pointer (some ⟨b1, 0, none⟩)), (7, .pointer (some ⟨b3, 0, none⟩)), (69, .pointer (some ⟨b1, 0, none⟩)), (74, .slice pa0 (List.length p0.c.Gates) pc0)] mix hF (by kernel_rfl) (fun _ _ _ _ _ h => h) (by kernel_rfl) (by kernel_rfl) (by kernel_rfl) ⟨Pd.monoO_eq, Pd.monoO_eq, mono_new, trivial⟩ (fun ow hG => ⟨np_to ow (np_loadBox hG hF ty26 rfl rfl (hs.bx 1 rfl) rfl rfl rfl), np_to ow (np_loadBoxS hG hF ty59 rfl rfl (hs.bx 0 rfl) rfl rfl rfl rfl), np_lit (E := 59) [.int .i64 p1, .int .i64 p2] (([(D.Gate.mk p1 p2)] : List D.Gate).map Flat.enc) ([(D.Gate.mk p1 p2)] : List D.Gate) hG hF rfl [.agg #[.int .i64 p1, .int .i64 p2]] rfl (fun w => by kernel_rfl) (fun w => css_flat _) rfl rfl rfl rfl, trivial⟩) (by kernel_rfl) fun ow fr w18 hF hE hc => ?_)
  obtain ⟨⟨a3, c3⟩, hv, hnw7⟩ := hE.is 76 7 rfl rfl
  have hF := hF.cons hv
  have hsN := sepO (w0 := w16) (ow := ow) [(7, SL (α := D.Gate) 59 (.slice a3 (List.length ([(D.Gate.mk p1 p2)] : List D.Gate)) c3) ([(D.Gate.mk p1 p2)] : List D.Gate))] (show ([7] : List Nat).Nodup by decide) ⟨hnw7, trivial⟩ rfl
  obtain ⟨S10, hp, hs⟩ := hs.got hM0 (stp_new hc) hsN
  have hM0 := hM0.stp hp
  have hs : Sep [SL (α := D.Gate) 59 (.slice a3 (List.length ([(D.Gate.mk p1 p2)] : List D.Gate)) c3) ([(D.Gate.mk p1 p2)] : List D.Gate), BX b3 59 [.int .i64 p1, .int .i64 p2], BX b1 83 [.int .i64 p0.c.Inputs, .slice pa0 (List.length p0.c.Gates) pc0, .map (some b2), .bool p0.full], SL (α := D.Gate) 59 (.slice pa0 (List.length p0.c.Gates) pc0) p0.c.Gates, MP map81 b2 p0.line] w18 S10 := hs
  obtain ⟨x8, hx8, h⟩ := bindE h
  refine q_append 3 hs hM0 rfl Try.underlying26 el59 rfl rfl rfl hF rfl rfl (hs.rv 0 rfl) hx8 fun a4 c4 w19 S11 fr hs hp hF => ?_
  have hM0 := hM0.stp hp
  have hs : Sep [SL (α := D.Gate) 59 (.slice a3 (List.length ([(D.Gate.mk p1 p2)] : List D.Gate)) c3) ([(D.Gate.mk p1 p2)] : List D.Gate), BX b3 59 [.int .i64 p1, .int .i64 p2], BX b1 83 [.int .i64 p0.c.Inputs, .slice pa0 (List.length p0.c.Gates) pc0, .map (some b2), .bool p0.full], SL (α := D.Gate) 59 (.slice a4 (List.length x8) c4) x8, MP map81 b2 p0.line] w19 S11 := hs
  have hs : Sep [BX b3 59 [.int .i64 p1, .int .i64 p2], BX b1 83 [.int .i64 p0.c.Inputs, .slice pa0 (List.length p0.c.Gates) pc0, .map (some b2), .bool p0.full], SL (α := D.Gate) 59 (.slice a4 (List.length x8) c4) x8, MP map81 b2 p0.line] w19 S11 := Sep.pick [1, 2, 3, 4] hs (by decide) rfl
  refine from_pure 3 [(0, .pointer (some ⟨b1, 0, none⟩)), (7, .pointer (some ⟨b3, 0, none⟩)), (77, .slice a4 (List.length x8) c4), (80, .pointer (some ⟨b1, 1, none⟩))] hF (by kernel_rfl) fun fr hF => ?_
  refine q_storeBox 1 hs hM0 rfl [.int .i64 p0.c.Inputs, .slice a4 (List.length x8) c4, .map (some b2), .bool p0.full] rfl hF rfl rfl (by kernel_rfl) rfl rfl rfl fun w20 S12 hs hp hF => ?_
  have hM0 := hM0.stp hp
  have hs : Sep [BX b3 59 [.int .i64 p1, .int .i64 p2], BX b1 83 [.int .i64 p0.c.Inputs, .slice a4 (List.length x8) c4, .map (some b2), .bool p0.full], SL (α := D.Gate) 59 (.slice a4 (List.length x8) c4) x8, MP map81 b2 p0.line] w20 S12 := hs
  refine from_end rfl (then_normal ?_)
  refine wp_seq (wp_text' ?_)
  refine from_pure 3 [(0, .pointer (some ⟨b1, 0, none⟩)), (7, .pointer (some ⟨b3, 0, none⟩)), (83, .pointer (some ⟨b1, 0, none⟩))] hF (by kernel_rfl) fun fr hF => ?_
  refine s_loadPart [.int .i64 p0.c.Inputs, .slice a4 (List.length x8) c4] ty28 rfl rfl hF rfl (hs.bx 1 rfl) rfl rfl rfl fun fr hF => ?_
  obtain ⟨x9, hx9, h⟩ := bindE h
  refine s_call [.agg #[.int .i64 p0.c.Inputs, .slice a4 (List.length x8) c4]] Try.call65 rfl rfl hF rfl (impl_linesOf_ok (D.Circuit.mk p0.c.Inputs x8) hx9 (RV.mk_Circuit (D.Circuit.mk p0.c.Inputs x8) (RV.any (hs.rv 2 rfl)))) fun v w21 fr hRes hF => ?_
  obtain ⟨rfl, hc⟩ := hRes
  have hs := hs.ext hc
  have hM0 := hM0.ext hc
  refine from_pure 1 [(0, .pointer (some ⟨b1, 0, none⟩)), (7, .pointer (some ⟨b3, 0, none⟩)), (10, .int .i64 x9)] hF (by kernel_rfl) fun fr hF => ?_
  refine from_end rfl (then_normal ?_)
  refine wp_seq (region_bm 6 [0, 1, 3, 7, 0, 0, 63] [true, true, true, false, false, true]
      [.eq (.pointer (some ⟨b1, 0, none⟩)), .eq (.pointer (some ⟨b1, 0, none⟩)), .eq (.pointer (some ⟨b1, 2, none⟩)), .eq (.map (some b2)), .eq (.agg #[.int .i64 p1, .int .i64 p2]), .eq (.int .i64 x9), .any]
      [(10, .int .i64 x9), (89, .map (some b2)), (90, .agg #[.int .i64 p1, .int .i64 p2]), (91, .int .i64 x9)] mix hF (by kernel_rfl) (by kernel_rfl) (by kernel_rfl) (by kernel_rfl) ⟨Pd.monoO_eq, Pd.monoO_eq, trivial⟩ (fun ow hG => ⟨np_to ow (np_loadBox hG hF ty81 rfl rfl (hs.bx 1 rfl) rfl rfl rfl), np_to ow (np_loadBoxS hG hF ty59 rfl rfl (hs.bx 0 rfl) rfl rfl rfl rfl), trivial⟩) (by kernel_rfl) fun ow fr w22 hF hE hc => ?_)
  have hs := hs.ext hc
  have hM0 := hM0.ext hc
  have hs : Sep [BX b1 83 [.int .i64 p0.c.Inputs, .slice a4 (List.length x8) c4, .map (some b2), .bool p0.full], SL (α := D.Gate) 59 (.slice a4 (List.length x8) c4) x8, MP map81 b2 p0.line] w22 S12 := Sep.pick [1, 2, 3] hs (by decide) rfl
  obtain ⟨x10, hx10, h⟩ := bindE h
  refine q_mapPut map81 2 hs hM0 rfl Try.underlying81 rfl hF (u := (D.Gate.mk p1 p2)) (mputE?_fit hx10) x9 (mputE?_efit hx10) (mputE?_len hx10) rfl rfl rfl rfl rfl fun w23 S13 hs hp hF => ?_
  have hM0 := hM0.stp hp
  have hs : Sep [BX b1 83 [.int .i64 p0.c.Inputs, .slice a4 (List.length x8) c4, .map (some b2), .bool p0.full], SL (α := D.Gate) 59 (.slice a4 (List.length x8) c4) x8, MP map81 b2 x10] w23 S13 := by rw [mputE?_val hx10]; exact hs
  refine from_end rfl (then_normal ?_)
  refine wp_seq (wp_pure [(6, .int .i64 x9)] hF (by kernel_rfl) fun fr hF => then_normal ?_)
  obtain rfl := Option.some.inj h
  exact wp_ret (ret1 rfl hF rfl ⟨_, rfl, a4, c4, rfl, S13, hM0.out, hs⟩)

theorem impl_builder_or_ok (p0 : D.builder) (p1 : Int) (p2 : Int) {r : Int × D.builder} (h : impl_builder_or p0 p1 p2 = some r) {w : World} {S0 F0 : Nat → Prop} {pa0 : Option Addr} {pn0 pc0 : Nat} {b1 : Nat} {b2 : Nat} (hs : Sep [BX b1 83 [.int .i64 p0.c.Inputs, .slice pa0 pn0 pc0, .map (some b2), .bool p0.full], SL (α := D.Gate) 59 (.slice pa0 pn0 pc0) p0.c.Gates, MP map81 b2 p0.line] w S0) (hb : ∀ k, S0 k → k < w.heap.size) (hd : ∀ k, S0 k → F0 k → False) :
    Calls Try.prog 57 [.pointer (some ⟨b1, 0, none⟩), .int .i64 p1, .int .i64 p2].toArray w fun e w' => ∃ v, e = .returned v ∧ ∃ a1 c1, v = .int .i64 r.1 ∧ ∃ S', Stp w S0 w' S' ∧ Sep [BX b1 83 [.int .i64 r.2.c.Inputs, .slice a1 (List.length r.2.c.Gates) c1, .map (some b2), .bool r.2.full], SL (α := D.Gate) 59 (.slice a1 (List.length r.2.c.Gates) c1) r.2.c.Gates, MP map81 b2 r.2.line] w' S' := by
  unfold impl_builder_or at h
  obtain ⟨hpn, hs⟩ := hs.relen 1 rfl
  subst hpn
  have hs : Sep [BX b1 83 [.int .i64 p0.c.Inputs, .slice pa0 (List.length p0.c.Gates) pc0, .map (some b2), .bool p0.full], SL (α := D.Gate) 59 (.slice pa0 (List.length p0.c.Gates) pc0) p0.c.Gates, MP map81 b2 p0.line] w S0 := hs
  have hM0 : Mem w S0 (fun k => F0 k ∧ k < w.heap.size) w S0 (fun k => F0 k ∧ k < w.heap.size) := Mem.start hb (fun _ h => h.2) (fun k h1 h2 => hd k h1 h2.1)
  refine enter (N := 14) Try.func57 rfl Try.ntmps57 rfl fun fr hF => ?_
  refine wp_seq (wp_pure [(0, .pointer (some ⟨b1, 0, none⟩)), (1, .int .i64 p1), (2, .int .i64 p2)] hF (by kernel_rfl) fun fr hF => then_normal ?_)
  refine wp_seq (wp_text' ?_)
  refine from_pure 5 [(7, .pointer (some ⟨b1, 0, none⟩)), (9, .int .i64 (w64 (0 - p1))), (11, .int .i64 (w64 (0 - p2)))] hF (by kernel_rfl) fun fr hF => ?_
  obtain ⟨x1, hx1, h⟩ := bindE h
  obtain ⟨A1, R1, hsA, hsR, hdA, hbA, hup⟩ := Sep.call (L1 := [BX b1 83 [.int .i64 p0.c.Inputs, .slice pa0 (List.length p0.c.Gates) pc0, .map (some b2), .bool p0.full], SL (α := D.Gate) 59 (.slice pa0 (List.length p0.c.Gates) pc0) p0.c.Gates, MP map81 b2 p0.line]) (L2 := []) hs hM0
  refine s_call [.pointer (some ⟨b1, 0, none⟩), .int .i64 (w64 (0 - p1)), .int .i64 (w64 (0 - p2))] Try.call51 rfl rfl hF rfl (impl_builder_and_ok p0 (w64 (0 - p1)) (w64 (0 - p2)) hx1 hsA hbA hdA) fun v w1 fr hRes hF => ?_
  obtain ⟨a1, c1, rfl, _, hp, hs⟩ := hRes
  obtain ⟨S1, hp, hs⟩ := hup hp hs
  have hM0 := hM0.stp hp
  have hs : Sep [BX b1 83 [.int .i64 x1.2.c.Inputs, .slice a1 (List.length x1.2.c.Gates) c1, .map (some b2), .bool x1.2.full], SL (α := D.Gate) 59 (.slice a1 (List.length x1.2.c.Gates) c1) x1.2.c.Gates, MP map81 b2 x1.2.line] w1 S1 := hs
  refine from_pure 2 [(6, .int .i64 (w64 (0 - x1.1)))] hF (by kernel_rfl) fun fr hF => ?_
  refine from_end rfl (then_normal ?_)
  obtain rfl := Option.some.inj h
  exact wp_ret (ret1 rfl hF rfl ⟨_, rfl, a1, c1, rfl, S1, hM0.out, hs⟩)

theorem impl_builder_xor_ok (p0 : D.builder) (p1 : Int) (p2 : Int) {r : Int × D.builder} (h : impl_builder_xor p0 p1 p2 = some r) {w : World} {S0 F0 : Nat → Prop} {pa0 : Option Addr} {pn0 pc0 : Nat} {b1 : Nat} {b2 : Nat} (hs : Sep [BX b1 83 [.int .i64 p0.c.Inputs, .slice pa0 pn0 pc0, .map (some b2), .bool p0.full], SL (α := D.Gate) 59 (.slice pa0 pn0 pc0) p0.c.Gates, MP map81 b2 p0.line] w S0) (hb : ∀ k, S0 k → k < w.heap.size) (hd : ∀ k, S0 k → F0 k → False) :
    Calls Try.prog 60 [.pointer (some ⟨b1, 0, none⟩), .int .i64 p1, .int .i64 p2].toArray w fun e w' => ∃ v, e = .returned v ∧ ∃ a1 c1, v = .int .i64 r.1 ∧ ∃ S', Stp w S0 w' S' ∧ Sep [BX b1 83 [.int .i64 r.2.c.Inputs, .slice a1 (List.length r.2.c.Gates) c1, .map (some b2), .bool r.2.full], SL (α := D.Gate) 59 (.slice a1 (List.length r.2.c.Gates) c1) r.2.c.Gates, MP map81 b2 r.2.line] w' S' := by
  unfold impl_builder_xor at h
  obtain ⟨hpn, hs⟩ := hs.relen 1 rfl
  subst hpn
  have hs : Sep [BX b1 83 [.int .i64 p0.c.Inputs, .slice pa0 (List.length p0.c.Gates) pc0, .map (some b2), .bool p0.full], SL (α := D.Gate) 59 (.slice pa0 (List.length p0.c.Gates) pc0) p0.c.Gates, MP map81 b2 p0.line] w S0 := hs
  have hM0 : Mem w S0 (fun k => F0 k ∧ k < w.heap.size) w S0 (fun k => F0 k ∧ k < w.heap.size) := Mem.start hb (fun _ h => h.2) (fun k h1 h2 => hd k h1 h2.1)
  refine enter (N := 23) Try.func60 rfl Try.ntmps60 rfl fun fr hF => ?_
  refine wp_seq (wp_pure [(0, .pointer (some ⟨b1, 0, none⟩)), (1, .int .i64 p1), (2, .int .i64 p2)] hF (by kernel_rfl) fun fr hF => then_normal ?_)
  refine wp_seq (wp_text' ?_)
  refine from_pure 4 [(0, .pointer (some ⟨b1, 0, none⟩)), (1, .int .i64 p1), (2, .int .i64 p2), (9, .pointer (some ⟨b1, 0, none⟩)), (10, .int .i64 p1), (12, .int .i64 (w64 (0 - p2)))] hF (by kernel_rfl) fun fr hF => ?_
  obtain ⟨x1, hx1, h⟩ := bindE h
  obtain ⟨A1, R1, hsA, hsR, hdA, hbA, hup⟩ := Sep.call (L1 := [BX b1 83 [.int .i64 p0.c.Inputs, .slice pa0 (List.length p0.c.Gates) pc0, .map (some b2), .bool p0.full], SL (α := D.Gate) 59 (.slice pa0 (List.length p0.c.Gates) pc0) p0.c.Gates, MP map81 b2 p0.line]) (L2 := []) hs hM0
  refine s_call [.pointer (some ⟨b1, 0, none⟩), .int .i64 p1, .int .i64 (w64 (0 - p2))] Try.call51 rfl rfl hF rfl (impl_builder_and_ok p0 p1 (w64 (0 - p2)) hx1 hsA hbA hdA) fun v w1 fr hRes hF => ?_
  obtain ⟨a1, c1, rfl, _, hp, hs⟩ := hRes
  obtain ⟨S1, hp, hs⟩ := hup hp hs
  have hM0 := hM0.stp hp
  have hs : Sep [BX b1 83 [.int .i64 x1.2.c.Inputs, .slice a1 (List.length x1.2.c.Gates) c1, .map (some b2), .bool x1.2.full], SL (α := D.Gate) 59 (.slice a1 (List.length x1.2.c.Gates) c1) x1.2.c.Gates, MP map81 b2 x1.2.line] w1 S1 := hs
  refine from_pure 1 [(0, .pointer (some ⟨b1, 0, none⟩)), (1, .int .i64 p1), (2, .int .i64 p2), (7, .int .i64 x1.1)] hF (by kernel_rfl) fun fr hF => ?_
  refine from_end rfl (then_normal ?_)
  refine wp_seq (wp_text' ?_)
  refine from_pure 4 [(0, .pointer (some ⟨b1, 0, none⟩)), (7, .int .i64 x1.1), (14, .pointer (some ⟨b1, 0, none⟩)), (16, .int .i64 (w64 (0 - p1))), (17, .int .i64 p2)] hF (by kernel_rfl) fun fr hF => ?_
  obtain ⟨x2, hx2, h⟩ := bindE h
  obtain ⟨A2, R2, hsA, hsR, hdA, hbA, hup⟩ := Sep.call (L1 := [BX b1 83 [.int .i64 x1.2.c.Inputs, .slice a1 (List.length x1.2.c.Gates) c1, .map (some b2), .bool x1.2.full], SL (α := D.Gate) 59 (.slice a1 (List.length x1.2.c.Gates) c1) x1.2.c.Gates, MP map81 b2 x1.2.line]) (L2 := []) hs hM0
  refine s_call [.pointer (some ⟨b1, 0, none⟩), .int .i64 (w64 (0 - p1)), .int .i64 p2] Try.call51 rfl rfl hF rfl (impl_builder_and_ok x1.2 (w64 (0 - p1)) p2 hx2 hsA hbA hdA) fun v w2 fr hRes hF => ?_
  obtain ⟨a2, c2, rfl, _, hp, hs⟩ := hRes
  obtain ⟨S2, hp, hs⟩ := hup hp hs
  have hM0 := hM0.stp hp
  have hs : Sep [BX b1 83 [.int .i64 x2.2.c.Inputs, .slice a2 (List.length x2.2.c.Gates) c2, .map (some b2), .bool x2.2.full], SL (α := D.Gate) 59 (.slice a2 (List.length x2.2.c.Gates) c2) x2.2.c.Gates, MP map81 b2 x2.2.line] w2 S2 := hs
  refine from_pure 1 [(0, .pointer (some ⟨b1, 0, none⟩)), (7, .int .i64 x1.1), (8, .int .i64 x2.1)] hF (by kernel_rfl) fun fr hF => ?_
  refine from_end rfl (then_normal ?_)
  refine wp_seq (wp_text' ?_)
  refine from_pure 3 [(19, .pointer (some ⟨b1, 0, none⟩)), (20, .int .i64 x1.1), (21, .int .i64 x2.1)] hF (by kernel_rfl) fun fr hF => ?_
  obtain ⟨x3, hx3, h⟩ := bindE h
  obtain ⟨A3, R3, hsA, hsR, hdA, hbA, hup⟩ := Sep.call (L1 := [BX b1 83 [.int .i64 x2.2.c.Inputs, .slice a2 (List.length x2.2.c.Gates) c2, .map (some b2), .bool x2.2.full], SL (α := D.Gate) 59 (.slice a2 (List.length x2.2.c.Gates) c2) x2.2.c.Gates, MP map81 b2 x2.2.line]) (L2 := []) hs hM0
  refine s_call [.pointer (some ⟨b1, 0, none⟩), .int .i64 x1.1, .int .i64 x2.1] Try.call57 rfl rfl hF rfl (impl_builder_or_ok x2.2 x1.1 x2.1 hx3 hsA hbA hdA) fun v w3 fr hRes hF => ?_
  obtain ⟨a3, c3, rfl, _, hp, hs⟩ := hRes
  obtain ⟨S3, hp, hs⟩ := hup hp hs
  have hM0 := hM0.stp hp
  have hs : Sep [BX b1 83 [.int .i64 x3.2.c.Inputs, .slice a3 (List.length x3.2.c.Gates) c3, .map (some b2), .bool x3.2.full], SL (α := D.Gate) 59 (.slice a3 (List.length x3.2.c.Gates) c3) x3.2.c.Gates, MP map81 b2 x3.2.line] w3 S3 := hs
  refine from_pure 1 [(6, .int .i64 x3.1)] hF (by kernel_rfl) fun fr hF => ?_
  refine from_end rfl (then_normal ?_)
  obtain rfl := Option.some.inj h
  exact wp_ret (ret1 rfl hF rfl ⟨_, rfl, a3, c3, rfl, S3, hM0.out, hs⟩)

theorem impl_isLiteral_ok (p0 : Int) (p1 : Int) {r : Bool} (h : impl_isLiteral p0 p1 = some r) {w : World} :
    Calls Try.prog 67 [.int .i64 p0, .int .i64 p1].toArray w fun e w' => ∃ v, e = .returned v ∧ v = .bool r ∧ Chg Non w w' := by
  unfold impl_isLiteral at h
  have hs := Sep.nil w Non
  have hM0 : Mem w Non (fun k => (False) ∧ k < w.heap.size) w Non (fun k => (False) ∧ k < w.heap.size) := Mem.start (fun _ h => h.elim) (fun _ h => h.2) (fun _ h => h.elim)
  refine enter (N := 18) Try.func67 rfl Try.ntmps67 rfl fun fr hF => ?_
  refine wp_seq (wp_pure [(0, .int .i64 p0), (1, .int .i64 p1)] hF (by kernel_rfl) fun fr hF => then_normal ?_)
  refine wp_seq (region_b [] [true, true, true, true, true, true, true, true, true, true, true, true, true, true]
      [.eq (.int .i64 p0), .eq (.bool (p0 != 0)), .eq (.bool (p0 != 0)), .eq (.int .i64 p0), .eq (.int .i64 p1), .eq (.int .i64 (w64 (0 - p1))), .eq (.bool (decide (p0 ≥ (w64 (0 - p1))))), .eq (.bool ((p0 != 0) && (decide (p0 ≥ (w64 (0 - p1)))))), .eq (.bool ((p0 != 0) && (decide (p0 ≥ (w64 (0 - p1)))))), .eq (.int .i64 p0), .eq (.int .i64 p1), .eq (.bool (decide (p0 ≤ p1))), .eq (.bool (((p0 != 0) && (decide (p0 ≥ (w64 (0 - p1))))) && (decide (p0 ≤ p1)))), .eq (.bool (((p0 != 0) && (decide (p0 ≥ (w64 (0 - p1))))) && (decide (p0 ≤ p1))))]
      [(4, .bool (((p0 != 0) && (decide (p0 ≥ (w64 (0 - p1))))) && (decide (p0 ≤ p1))))] mix hF (by kernel_rfl) (by kernel_rfl) (by kernel_rfl) trivial (fun hG => trivial) (by kernel_rfl) fun fr w1 hF hE hc => then_normal ?_)
  have hs := hs.ext hc
  have hM0 := hM0.ext hc
  obtain rfl := Option.some.inj h
  exact wp_ret (ret1 rfl hF rfl ⟨_, rfl, rfl, hM0.chg⟩)

theorem impl_CircuitOk_ok (n : Nat) (p0 : D.Circuit) {r : Bool} (h : impl_CircuitOk n p0 = some r) {w : World} {G0 : Nat → Prop} {va0 : Value} (ra0 : RV w G0 va0 p0) :
    Calls Try.prog 35 [va0].toArray w fun e w' => ∃ v, e = .returned v ∧ v = .bool r ∧ Chg Non w w' := by
  unfold impl_CircuitOk at h
  have hs := Sep.nil w Non
  have hM0 : Mem w Non (fun k => (G0 k) ∧ k < w.heap.size) w Non (fun k => (G0 k) ∧ k < w.heap.size) := Mem.start (fun _ h => h.elim) (fun _ h => h.2) (fun _ h => h.elim)
  have ra0 := ra0.sub (F' := (fun k => (G0 k) ∧ k < w.heap.size)) (fun k hk h => ⟨h, hk⟩)
  obtain ⟨v1, rfl, r1⟩ := RV.Circuit ra0
  obtain ⟨a1, c1, rfl, -⟩ := r1.slice
  refine enter (N := 68) Try.func35 rfl Try.ntmps35 rfl fun fr hF => ?_
  refine wp_seq (wp_text' ?_)
  refine q_box hs hM0 [.int .i64 p0.Inputs, .slice a1 (List.length p0.Gates) c1] rfl rfl hF rfl rfl fun b1 w1 S1 fr hs hp hF => ?_
  have r1 := r1.stp hM0 hp
  have hM0 := hM0.stp hp
  have hs : Sep [BX b1 28 [.int .i64 p0.Inputs, .slice a1 (List.length p0.Gates) c1]] w1 S1 := hs
  refine from_pure 1 [(1, .pointer (some ⟨b1, 0, none⟩))] hF (by kernel_rfl) fun fr hF => ?_
  refine from_end rfl (then_normal ?_)
  refine wp_seq ?_
  refine wp_seq (region_b [] [true, false, true, true, true, false, true, true, true, true, false, true, true, true]
      [.eq (.pointer (some ⟨b1, 0, none⟩)), .eq (.int .i64 p0.Inputs), .eq (.bool (decide (p0.Inputs < 0))), .eq (.bool (decide (p0.Inputs < 0))), .eq (.pointer (some ⟨b1, 0, none⟩)), .eq (.int .i64 p0.Inputs), .eq (.bool (decide (p0.Inputs > 30))), .eq (.bool ((decide (p0.Inputs < 0)) || (decide (p0.Inputs > 30)))), .eq (.bool ((decide (p0.Inputs < 0)) || (decide (p0.Inputs > 30)))), .eq (.pointer (some ⟨b1, 1, none⟩)), .eq (.slice a1 (List.length p0.Gates) c1), .eq (.int .i64 (len p0.Gates)), .eq (.bool (decide ((len p0.Gates) > 360))), .eq (.bool (((decide (p0.Inputs < 0)) || (decide (p0.Inputs > 30))) || (decide ((len p0.Gates) > 360))))]
      [(1, .pointer (some ⟨b1, 0, none⟩)), (20, .bool (((decide (p0.Inputs < 0)) || (decide (p0.Inputs > 30))) || (decide ((len p0.Gates) > 360))))] mix hF (by kernel_rfl) (by kernel_rfl) (by kernel_rfl) ⟨Pd.mono_eq, Pd.mono_eq, Pd.mono_eq, trivial⟩ (fun hG => ⟨np_loadBox hG hF ty3 rfl rfl (hs.bx 0 rfl) rfl rfl rfl, np_loadBox hG hF ty3 rfl rfl (hs.bx 0 rfl) rfl rfl rfl, np_loadBox hG hF ty26 rfl rfl (hs.bx 0 rfl) rfl rfl rfl, trivial⟩) (by kernel_rfl) fun fr w2 hF hE hc => then_normal ?_)
  have r1 := r1.ext hc
  have hs := hs.ext hc
  have hM0 := hM0.ext hc
  refine (wp_if hF (b := (((decide (p0.Inputs < 0)) || (decide (p0.Inputs > 30))) || (decide ((len p0.Gates) > 360)))) rfl (fun hb => ?_) (fun hb => ?_))
  · replace h := iteT hb h
    have hs : Sep [] w2 S1 := Sep.pick [] hs (by decide) rfl
    refine wp_seq (wp_pure [(2, .bool false)] hF (by kernel_rfl) fun fr hF => then_normal ?_)
    obtain rfl := Option.some.inj h
    exact wp_ret (then_ret (ret1 rfl hF rfl ⟨_, rfl, rfl, hM0.chg⟩))
  replace h := iteF hb h
  refine (wp_skip (then_normal ?_))
  refine wp_seq (wp_text' ?_)
  refine q_makeMap map91 hs hM0 (fun w => by simp [Instr.makeMap, run_newObj_alloc]) rfl rfl hF fun b2 w3 S2 fr hs hp hF => ?_
  have r1 := r1.stp hM0 hp
  have hM0 := hM0.stp hp
  have hs : Sep [MP map91 b2 ([]), BX b1 28 [.int .i64 p0.Inputs, .slice a1 (List.length p0.Gates) c1]] w3 S2 := hs
  refine from_pure 1 [(1, .pointer (some ⟨b1, 0, none⟩)), (3, .map (some b2))] hF (by kernel_rfl) fun fr hF => ?_
  refine from_end rfl (then_normal ?_)
  refine wp_seq ?_
  refine wp_seq (wp_text' ?_)
  refine from_pure 1 [(1, .pointer (some ⟨b1, 0, none⟩)), (3, .map (some b2)), (22, .pointer (some ⟨b1, 1, none⟩))] hF (by kernel_rfl) fun fr hF => ?_
  refine s_loadBox (.slice a1 (List.length p0.Gates) c1) ty26 rfl rfl hF rfl (hs.bx 1 rfl) rfl rfl fun fr hF => ?_
  refine from_pure 2 [(1, .pointer (some ⟨b1, 0, none⟩)), (3, .map (some b2)), (23, .slice a1 (List.length p0.Gates) c1), (24, .int .i64 (len p0.Gates)), (25, .int .i64 0)] hF (by kernel_rfl) fun fr hF => ?_
  refine from_end rfl (then_normal ?_)
  obtain ⟨rl1, hit1, h⟩ := bindE h
  have hk1 := h
  refine (wp_cut (M := fun fr w' => ∃ s, rl1 = .inl s ∧ ∃ S4 F2, FrS 68 [] fr ∧ Mem w3 S2 (fun k => (G0 k) ∧ k < w.heap.size) w' S4 F2 ∧ Sep [] w' S4) (wp_block (wp_iter (Inv := fun s1 fr w' => ∃ S3 F1, FrS 68 [(1, .pointer (some ⟨b1, 0, none⟩)), (3, .map (some b2)), (23, .slice a1 (List.length p0.Gates) c1), (24, .int .i64 (len p0.Gates)), (25, .int .i64 s1.1)] fr ∧ Mem w3 S2 (fun k => (G0 k) ∧ k < w.heap.size) w' S3 F1 ∧ Sep [MP map91 b2 s1.2, BX b1 28 [.int .i64 p0.Inputs, .slice a1 (List.length p0.Gates) c1]] w' S3) hit1 ⟨S2, _, hF.sub _ (by kernel_rfl), (Mem.start hM0.bd hM0.bdF hM0.dj), hs⟩ fun s1 q1 fr w1i hI h hr1 => ?_)) fun fr w1o hM => ?_)
  · obtain ⟨S3, F1, hF, hM1, hs⟩ := hI
    have r1 := r1.mem hM1
    refine wp_seq (wp_pure [(1, .pointer (some ⟨b1, 0, none⟩)), (3, .map (some b2)), (23, .slice a1 (List.length p0.Gates) c1), (24, .int .i64 (len p0.Gates)), (25, .int .i64 s1.1), (26, .bool (decide (s1.1 < (len p0.Gates))))] hF (by kernel_rfl) fun fr hF => then_normal ?_)
    refine wp_seq (wp_if hF (b := (decide (s1.1 < (len p0.Gates)))) rfl (fun hb => ?_) (fun hb => ?_))
    · replace h := iteT hb h
      refine (wp_skip (then_normal ?_))
      refine wp_seq (wp_block ?_)
      refine wp_seq (wp_text' ?_)
      refine from_pure 1 [(1, .pointer (some ⟨b1, 0, none⟩)), (3, .map (some b2)), (23, .slice a1 (List.length p0.Gates) c1), (24, .int .i64 (len p0.Gates)), (25, .int .i64 s1.1), (27, .int .i64 s1.1)] hF (by kernel_rfl) fun fr hF => ?_
      obtain ⟨x1, hx1, h⟩ := bindE h
      refine s_elemF (z := x1) (.agg #[.int .i64 x1.A, .int .i64 x1.B]) ty59 Try.underlying26 rfl rfl rfl rfl rfl hF rfl (r1) rfl (get?_nn hx1) (get?_at hx1) rfl fun p fr hF => ?_
      refine q_alloc (z := .agg #[.int .i64 0, .int .i64 0]) hs hM1 [.int .i64 0, .int .i64 0] rfl rfl hF (by kernel_rfl) rfl fun b3 w4 S5 fr hs hp hF => ?_
      have r1 := r1.stp hM1 hp
      have hM1 := hM1.stp hp
      have hs : Sep [BX b3 59 [.int .i64 0, .int .i64 0], MP map91 b2 s1.2, BX b1 28 [.int .i64 p0.Inputs, .slice a1 (List.length p0.Gates) c1]] w4 S5 := hs
      refine from_pure 1 [(1, .pointer (some ⟨b1, 0, none⟩)), (3, .map (some b2)), (4, .int .i64 s1.1), (5, .pointer (some ⟨b3, 0, none⟩)), (23, .slice a1 (List.length p0.Gates) c1), (24, .int .i64 (len p0.Gates)), (25, .int .i64 s1.1), (29, .agg #[.int .i64 x1.A, .int .i64 x1.B])] hF (by kernel_rfl) fun fr hF => ?_
      refine q_storeBoxS 0 hs hM1 rfl [.int .i64 x1.A, .int .i64 x1.B] rfl hF rfl rfl (by kernel_rfl) rfl rfl rfl fun w5 S6 hs hp hF => ?_
      have r1 := r1.stp hM1 hp
      have hM1 := hM1.stp hp
      have hs : Sep [BX b3 59 [.int .i64 x1.A, .int .i64 x1.B], MP map91 b2 s1.2, BX b1 28 [.int .i64 p0.Inputs, .slice a1 (List.length p0.Gates) c1]] w5 S6 := hs
      refine from_end rfl (then_normal ?_)
      refine wp_seq (wp_text' ?_)
      refine from_pure 1 [(1, .pointer (some ⟨b1, 0, none⟩)), (3, .map (some b2)), (4, .int .i64 s1.1), (5, .pointer (some ⟨b3, 0, none⟩)), (23, .slice a1 (List.length p0.Gates) c1), (24, .int .i64 (len p0.Gates)), (25, .int .i64 s1.1), (30, .pointer (some ⟨b1, 0, none⟩))] hF (by kernel_rfl) fun fr hF => ?_
      refine s_loadBox (.int .i64 p0.Inputs) ty3 rfl rfl hF rfl (hs.bx 2 rfl) rfl rfl fun fr hF => ?_
      refine from_pure 4 [(1, .pointer (some ⟨b1, 0, none⟩)), (3, .map (some b2)), (5, .pointer (some ⟨b3, 0, none⟩)), (6, .int .i64 (w64 ((w64 (1 + p0.Inputs)) + s1.1))), (23, .slice a1 (List.length p0.Gates) c1), (24, .int .i64 (len p0.Gates)), (25, .int .i64 s1.1)] hF (by kernel_rfl) fun fr hF => ?_
      refine from_end rfl (then_normal ?_)
      refine wp_seq ?_
      obtain ⟨x2, hx2, h⟩ := bindE h
      obtain ⟨x3, hx3, h⟩ := bindE h
      obtain ⟨x4, hx4, h⟩ := bindE h
      refine wp_seq (region_b [] [true, false, true, false, true, true, true, false, true, false, true, true, true, true, false, false, true]
          [.eq (.pointer (some ⟨b3, 0, none⟩)), .eq (.int .i64 x1.A), .eq (.int .i64 (w64 ((w64 (1 + p0.Inputs)) + s1.1))), .eq (.bool x2), .eq (.bool (!x2)), .eq (.bool (!x2)), .eq (.pointer (some ⟨b3, 1, none⟩)), .eq (.int .i64 x1.B), .eq (.int .i64 (w64 ((w64 (1 + p0.Inputs)) + s1.1))), .eq (.bool x3), .eq (.bool (!x3)), .eq (.bool ((!x2) || (!x3))), .eq (.bool ((!x2) || (!x3))), .eq (.map (some b2)), .eq (.agg #[.int .i64 x1.A, .int .i64 x1.B]), .eq (.bool x4), .eq (.bool (((!x2) || (!x3)) || x4))]
          [(1, .pointer (some ⟨b1, 0, none⟩)), (3, .map (some b2)), (5, .pointer (some ⟨b3, 0, none⟩)), (23, .slice a1 (List.length p0.Gates) c1), (24, .int .i64 (len p0.Gates)), (25, .int .i64 s1.1), (51, .bool (((!x2) || (!x3)) || x4))] mix hF (by kernel_rfl) (by kernel_rfl) (by kernel_rfl) ⟨Pd.mono_eq, Pd.mono_eq, Pd.mono_eq, Pd.mono_eq, Pd.mono_eq, Pd.mono_eq, trivial⟩ (fun hG => ⟨np_loadBox hG hF ty3 rfl rfl (hs.bx 0 rfl) rfl rfl rfl, np_call [.int .i64 x1.A, .int .i64 (w64 ((w64 (1 + p0.Inputs)) + s1.1))] hG hF Try.call67 rfl rfl (fun w hC hg => (impl_isLiteral_ok x1.A (w64 ((w64 (1 + p0.Inputs)) + s1.1)) hx2).mono fun e w' ⟨v, he, hv, hc⟩ => ⟨v, he, hc, hv⟩), np_loadBox hG hF ty3 rfl rfl (hs.bx 0 rfl) rfl rfl rfl, np_call [.int .i64 x1.B, .int .i64 (w64 ((w64 (1 + p0.Inputs)) + s1.1))] hG hF Try.call67 rfl rfl (fun w hC hg => (impl_isLiteral_ok x1.B (w64 ((w64 (1 + p0.Inputs)) + s1.1)) (iteF hg.2 hx3)).mono fun e w' ⟨v, he, hv, hc⟩ => ⟨v, he, hc, hv⟩), np_loadBoxS hG hF ty59 rfl rfl (hs.bx 0 rfl) rfl rfl rfl rfl, np_mapGet map91 1 hs rfl Try.underlying91 hG hF rfl (u := x1) rfl rfl rfl (fun hg => mget?_fit (iteF hg.2 hx4)) (vr := .bool x4) (fun hg => congrArg (fun y => Rep.val Bool (Flat.enc y)) (mget?_val (iteF hg.2 hx4))) rfl, trivial⟩) (by kernel_rfl) fun fr w6 hF hE hc => then_normal ?_)
      have r1 := r1.ext hc
      have hs := hs.ext hc
      have hM1 := hM1.ext hc
      refine (wp_if hF (b := (((!x2) || (!x3)) || x4)) rfl (fun hb => ?_) (fun hb => ?_))
      · replace h := iteT hb h
        have hs : Sep [] w6 S6 := Sep.pick [] hs (by decide) rfl
        refine wp_seq (wp_pure [(2, .bool false)] hF (by kernel_rfl) fun fr hF => then_normal ?_)
        obtain rfl := hr1 _ (Option.some.inj h).symm
        obtain rfl := Option.some.inj hk1
        exact wp_ret (then_ret (blk_ret (then_ret (then_ret (blk_ret (then_ret (ret1 rfl hF rfl ⟨_, rfl, rfl, (hM0.trans hM1).chg⟩)))))))
      replace h := iteF hb h
      refine (wp_skip (then_normal ?_))
      refine wp_seq ?_
      obtain ⟨x5, hx5, h⟩ := bindE h
      obtain ⟨x6, hx6, h⟩ := bindE h
      obtain ⟨x7, hx7, h⟩ := bindE h
      refine wp_seq (region_bm 13 [0, 1, 3, 7, 15, 31, 63, 127, 31, 287, 1023, 2047, 4095] [true, false, false, true, true, true, false, false, true, false, false, true, true]
          [.eq (.pointer (some ⟨b3, 0, none⟩)), .eq (.int .i64 x1.A), .eq (.int .i64 x5), .eq (.bool (decide (x5 < 2))), .eq (.bool (decide (x5 < 2))), .eq (.pointer (some ⟨b3, 0, none⟩)), .eq (.int .i64 x1.A), .eq (.int .i64 x6), .eq (.pointer (some ⟨b3, 1, none⟩)), .eq (.int .i64 x1.B), .eq (.int .i64 x7), .eq (.bool (decide (x6 ≥ x7))), .eq (.bool ((decide (x5 < 2)) || (decide (x6 ≥ x7))))]
          [(1, .pointer (some ⟨b1, 0, none⟩)), (3, .map (some b2)), (5, .pointer (some ⟨b3, 0, none⟩)), (23, .slice a1 (List.length p0.Gates) c1), (24, .int .i64 (len p0.Gates)), (25, .int .i64 s1.1), (64, .bool ((decide (x5 < 2)) || (decide (x6 ≥ x7))))] mix hF (by kernel_rfl) (by kernel_rfl) (by kernel_rfl) (by kernel_rfl) ⟨Pd.monoO_eq, Pd.monoO_eq, Pd.monoO_eq, Pd.monoO_eq, Pd.monoO_eq, Pd.monoO_eq, trivial⟩ (fun ow hG => ⟨np_to ow (np_loadBox hG hF ty3 rfl rfl (hs.bx 0 rfl) rfl rfl rfl), np_to ow (np_call [.int .i64 x1.A] hG hF Try.call77 rfl rfl (fun w hC hg => (impl_varOf_ok x1.A hx5).mono fun e w' ⟨v, he, hv, hc⟩ => ⟨v, he, hc, hv⟩)), np_to ow (np_loadBox hG hF ty3 rfl rfl (hs.bx 0 rfl) rfl rfl rfl), np_to ow (np_call [.int .i64 x1.A] hG hF Try.call77 rfl rfl (fun w hC hg => (impl_varOf_ok x1.A (iteF hg.2 hx6)).mono fun e w' ⟨v, he, hv, hc⟩ => ⟨v, he, hc, hv⟩)), np_to ow (np_loadBox hG hF ty3 rfl rfl (hs.bx 0 rfl) rfl rfl rfl), np_to ow (np_call [.int .i64 x1.B] hG hF Try.call77 rfl rfl (fun w hC hg => (impl_varOf_ok x1.B (iteF hg.2 hx7)).mono fun e w' ⟨v, he, hv, hc⟩ => ⟨v, he, hc, hv⟩)), trivial⟩) (by kernel_rfl) fun ow fr w7 hF hE hc => ?_)
      have r1 := r1.ext hc
      have hs := hs.ext hc
      have hM1 := hM1.ext hc
      refine from_end rfl (then_normal ?_)
      refine (wp_if hF (b := ((decide (x5 < 2)) || (decide (x6 ≥ x7)))) rfl (fun hb => ?_) (fun hb => ?_))
      · replace h := iteT hb h
        have hs : Sep [] w7 S6 := Sep.pick [] hs (by decide) rfl
        refine wp_seq (wp_pure [(2, .bool false)] hF (by kernel_rfl) fun fr hF => then_normal ?_)
        obtain rfl := hr1 _ (Option.some.inj h).symm
        obtain rfl := Option.some.inj hk1
        exact wp_ret (then_ret (blk_ret (then_ret (then_ret (blk_ret (then_ret (ret1 rfl hF rfl ⟨_, rfl, rfl, (hM0.trans hM1).chg⟩)))))))
      replace h := iteF hb h
      refine (wp_skip (then_normal ?_))
      refine (wp_text' ?_)
      refine from_pure 1 [(1, .pointer (some ⟨b1, 0, none⟩)), (3, .map (some b2)), (5, .pointer (some ⟨b3, 0, none⟩)), (23, .slice a1 (List.length p0.Gates) c1), (24, .int .i64 (len p0.Gates)), (25, .int .i64 s1.1), (65, .map (some b2))] hF (by kernel_rfl) fun fr hF => ?_
      refine s_loadBoxS ty59 rfl rfl hF rfl (hs.bx 0 rfl) rfl rfl fun fr hF => ?_
      have hs : Sep [MP map91 b2 s1.2, BX b1 28 [.int .i64 p0.Inputs, .slice a1 (List.length p0.Gates) c1]] w7 S6 := Sep.pick [1, 2] hs (by decide) rfl
      obtain ⟨x8, hx8, h⟩ := bindE h
      refine q_mapPut map91 0 hs hM1 rfl Try.underlying91 rfl hF (u := x1) (mput?_fit hx8) true rfl (mput?_len hx8) rfl rfl rfl rfl rfl fun w8 S7 hs hp hF => ?_
      have r1 := r1.stp hM1 hp
      have hM1 := hM1.stp hp
      have hs : Sep [MP map91 b2 x8, BX b1 28 [.int .i64 p0.Inputs, .slice a1 (List.length p0.Gates) c1]] w8 S7 := by rw [mput?_val hx8]; exact hs
      refine from_end rfl ?_
      refine blk_normal (then_normal ?_)
      refine (wp_pure [(1, .pointer (some ⟨b1, 0, none⟩)), (3, .map (some b2)), (23, .slice a1 (List.length p0.Gates) c1), (24, .int .i64 (len p0.Gates)), (25, .int .i64 (w64 (s1.1 + 1)))] hF (by kernel_rfl) fun fr hF => then_normal ?_)
      exact ⟨_, (Option.some.inj h).symm, S7, _, hF.sub _ (by kernel_rfl), hM1, hs⟩
    replace h := iteF hb h
    have hs : Sep [] w1i S3 := Sep.pick [] hs (by decide) rfl
    refine (wp_exit (then_exit (then_exit (blk_exit_eq ?_))))
    obtain rfl := hr1 _ (Option.some.inj h).symm
    exact then_normal ⟨_, rfl, S3, _, hF.sub _ (by kernel_rfl), hM1, hs⟩
  · obtain ⟨s1r, rfl, hM⟩ := hM
    obtain ⟨S4, F2, hF, hMx, hs⟩ := hM
    have hM0 := hM0.trans hMx
    refine wp_seq (wp_pure [(2, .bool true)] hF (by kernel_rfl) fun fr hF => then_normal ?_)
    obtain rfl := Option.some.inj h
    exact wp_ret (ret1 rfl hF rfl ⟨_, rfl, rfl, hM0.chg⟩)

theorem impl_literalsOk_ok (n : Nat) (p0 : List Int) (p1 : Int) {r : Bool} (h : impl_literalsOk n p0 p1 = some r) {w : World} {G0 : Nat → Prop} {va0 : Value} (ra0 : RV w G0 va0 p0) :
    Calls Try.prog 66 [va0, .int .i64 p1].toArray w fun e w' => ∃ v, e = .returned v ∧ v = .bool r ∧ Chg Non w w' := by
  unfold impl_literalsOk at h
  have hs := Sep.nil w Non
  have hM0 : Mem w Non (fun k => (G0 k) ∧ k < w.heap.size) w Non (fun k => (G0 k) ∧ k < w.heap.size) := Mem.start (fun _ h => h.elim) (fun _ h => h.2) (fun _ h => h.elim)
  have ra0 := ra0.sub (F' := (fun k => (G0 k) ∧ k < w.heap.size)) (fun k hk h => ⟨h, hk⟩)
  obtain ⟨a1, c1, rfl, -⟩ := ra0.slice
  refine enter (N := 18) Try.func66 rfl Try.ntmps66 rfl fun fr hF => ?_
  refine wp_seq (wp_pure [(0, .slice a1 (List.length p0) c1), (1, .int .i64 p1)] hF (by kernel_rfl) fun fr hF => then_normal ?_)
  refine wp_seq ?_
  refine wp_seq (wp_pure [(1, .int .i64 p1), (7, .slice a1 (List.length p0) c1), (8, .int .i64 (len p0)), (9, .int .i64 0)] hF (by kernel_rfl) fun fr hF => then_normal ?_)
  obtain ⟨rl1, hit1, h⟩ := bindE h
  have hk1 := h
  refine (wp_cut (M := fun fr w' => ∃ s, rl1 = .inl s ∧ ∃ S2 F2, FrS 18 [] fr ∧ Mem w Non (fun k => (G0 k) ∧ k < w.heap.size) w' S2 F2 ∧ Sep [] w' S2) (wp_block (wp_iter (Inv := fun s1 fr w' => ∃ S1 F1, FrS 18 [(1, .int .i64 p1), (7, .slice a1 (List.length p0) c1), (8, .int .i64 (len p0)), (9, .int .i64 s1)] fr ∧ Mem w Non (fun k => (G0 k) ∧ k < w.heap.size) w' S1 F1 ∧ Sep [] w' S1) hit1 ⟨Non, _, hF.sub _ (by kernel_rfl), (Mem.start hM0.bd hM0.bdF hM0.dj), hs⟩ fun s1 q1 fr w1i hI h hr1 => ?_)) fun fr w1o hM => ?_)
  · obtain ⟨S1, F1, hF, hM1, hs⟩ := hI
    have ra0 := ra0.mem hM1
    refine wp_seq (wp_pure [(1, .int .i64 p1), (7, .slice a1 (List.length p0) c1), (8, .int .i64 (len p0)), (9, .int .i64 s1), (10, .bool (decide (s1 < (len p0))))] hF (by kernel_rfl) fun fr hF => then_normal ?_)
    refine wp_seq (wp_if hF (b := (decide (s1 < (len p0)))) rfl (fun hb => ?_) (fun hb => ?_))
    · replace h := iteT hb h
      refine (wp_skip (then_normal ?_))
      refine wp_seq (wp_block ?_)
      refine wp_seq (wp_text' ?_)
      obtain ⟨x1, hx1, h⟩ := bindE h
      refine s_elemF (z := x1) (.int .i64 x1) ty3 Try.underlying37 rfl rfl rfl rfl rfl hF rfl (ra0) rfl (get?_nn hx1) (get?_at hx1) rfl fun p fr hF => ?_
      refine from_pure 1 [(1, .int .i64 p1), (6, .int .i64 x1), (7, .slice a1 (List.length p0) c1), (8, .int .i64 (len p0)), (9, .int .i64 s1)] hF (by kernel_rfl) fun fr hF => ?_
      refine from_end rfl (then_normal ?_)
      refine wp_seq (wp_text' ?_)
      refine from_pure 2 [(1, .int .i64 p1), (7, .slice a1 (List.length p0) c1), (8, .int .i64 (len p0)), (9, .int .i64 s1), (13, .int .i64 x1), (14, .int .i64 p1)] hF (by kernel_rfl) fun fr hF => ?_
      obtain ⟨x2, hx2, h⟩ := bindE h
      refine s_call [.int .i64 x1, .int .i64 p1] Try.call67 rfl rfl hF rfl (impl_isLiteral_ok x1 p1 hx2) fun v w1 fr hRes hF => ?_
      obtain ⟨rfl, hc⟩ := hRes
      have ra0 := ra0.ext hc
      have hs := hs.ext hc
      have hM1 := hM1.ext hc
      refine from_pure 1 [(1, .int .i64 p1), (7, .slice a1 (List.length p0) c1), (8, .int .i64 (len p0)), (9, .int .i64 s1), (16, .bool (!x2))] hF (by kernel_rfl) fun fr hF => ?_
      refine from_end rfl (then_normal ?_)
      refine (wp_if hF (b := (!x2)) rfl (fun hb => ?_) (fun hb => ?_))
      · replace h := iteT hb h
        refine wp_seq (wp_pure [(4, .bool false)] hF (by kernel_rfl) fun fr hF => then_normal ?_)
        obtain rfl := hr1 _ (Option.some.inj h).symm
        obtain rfl := Option.some.inj hk1
        exact wp_ret (blk_ret (then_ret (then_ret (blk_ret (then_ret (ret1 rfl hF rfl ⟨_, rfl, rfl, (hM0.trans hM1).chg⟩))))))
      replace h := iteF hb h
      refine (wp_skip ?_)
      refine blk_normal (then_normal ?_)
      refine (wp_pure [(1, .int .i64 p1), (7, .slice a1 (List.length p0) c1), (8, .int .i64 (len p0)), (9, .int .i64 (w64 (s1 + 1)))] hF (by kernel_rfl) fun fr hF => then_normal ?_)
      exact ⟨_, (Option.some.inj h).symm, S1, _, hF.sub _ (by kernel_rfl), hM1, hs⟩
    replace h := iteF hb h
    refine (wp_exit (then_exit (then_exit (blk_exit_eq ?_))))
    obtain rfl := hr1 _ (Option.some.inj h).symm
    exact then_normal ⟨_, rfl, S1, _, hF.sub _ (by kernel_rfl), hM1, hs⟩
  · obtain ⟨s1r, rfl, hM⟩ := hM
    obtain ⟨S2, F2, hF, hMx, hs⟩ := hM
    have hM0 := hM0.trans hMx
    refine wp_seq (wp_pure [(4, .bool true)] hF (by kernel_rfl) fun fr hF => then_normal ?_)
    obtain rfl := Option.some.inj h
    exact wp_ret (ret1 rfl hF rfl ⟨_, rfl, rfl, hM0.chg⟩)

theorem slices_Clone___impl_Gate_impl_Gate__ok (p0 : List D.Gate) {r : (List D.Gate)} (h : slices_Clone___impl_Gate_impl_Gate_ p0 = some r) {w : World} {G0 : Nat → Prop} {va0 : Value} (ra0 : RV w G0 va0 p0) :
    Calls Try.prog 88 [va0].toArray w fun e w' => ∃ v, e = .returned v ∧ ∃ a1 c1, v = .slice a1 (List.length r) c1 ∧ ∃ S', Stp w Non w' S' ∧ Sep [SL (α := D.Gate) 59 (.slice a1 (List.length r) c1) r] w' S' := by
  unfold slices_Clone___impl_Gate_impl_Gate_ at h
  have hs := Sep.nil w Non
  have hM0 : Mem w Non (fun k => (G0 k) ∧ k < w.heap.size) w Non (fun k => (G0 k) ∧ k < w.heap.size) := Mem.start (fun _ h => h.elim) (fun _ h => h.2) (fun _ h => h.elim)
  have ra0 := ra0.sub (F' := (fun k => (G0 k) ∧ k < w.heap.size)) (fun k hk h => ⟨h, hk⟩)
  obtain ⟨a1, c1, rfl, -⟩ := ra0.slice
  refine enter (N := 8) Try.func88 rfl Try.ntmps88 rfl fun fr hF => ?_
  refine wp_seq (wp_pure [(0, .slice a1 (List.length p0) c1)] hF (by kernel_rfl) fun fr hF => then_normal ?_)
  refine wp_seq ?_
  refine wp_seq (wp_text' ?_)
  refine from_pure 1 [(0, .slice a1 (List.length p0) c1), (3, .slice a1 (List.length p0) c1)] hF (by kernel_rfl) fun fr hF => ?_
  refine s_bin rfl rfl hF rfl rfl (nil_guard _ _ _ _ _ _ _ _ _ _) (nil_eq Try.underlying26 _ _ _ _) fun fr hF => ?_
  refine from_end rfl (then_normal ?_)
  refine (wp_if hF (b := (Option.isNone a1)) rfl (fun hb => ?_) (fun hb => ?_))
  · have hnil := nil_of ra0 (Option.isNone_iff_eq_none.1 hb)
    replace h := nil_app hnil h
    refine wp_seq (wp_pure [(2, .slice none (List.length ([] : List D.Gate)) 0)] hF (by kernel_rfl) fun fr hF => then_normal ?_)
    have hs : Sep [SL (α := D.Gate) 59 (.slice none (List.length ([] : List D.Gate)) 0) ([] : List D.Gate)] w Non := hs.cons_nil (α := D.Gate) 59
    obtain rfl := Option.some.inj h
    exact wp_ret (then_ret (ret1 rfl hF rfl ⟨_, rfl, none, 0, rfl, Non, hM0.out, hs⟩))
  · skip
    refine (wp_skip (then_normal ?_))
    refine wp_seq (wp_text' ?_)
    refine q_lit (E := 59) hs hM0 [] (([] : List D.Gate).map Flat.enc) ([] : List D.Gate) rfl rfl hF [] rfl (fun w => by kernel_rfl) (css_flat _) rfl rfl rfl fun a2 c2 w1 S1 fr hs hp hF => ?_
    have ra0 := ra0.stp hM0 hp
    have hM0 := hM0.stp hp
    have hs : Sep [SL (α := D.Gate) 59 (.slice a2 (List.length ([] : List D.Gate)) c2) ([] : List D.Gate)] w1 S1 := hs
    refine from_pure 1 [(5, .slice a2 (List.length ([] : List D.Gate)) c2), (6, .slice a1 (List.length p0) c1)] hF (by kernel_rfl) fun fr hF => ?_
    obtain ⟨x1, hx1, h⟩ := bindE h
    refine q_append 0 hs hM0 rfl Try.underlying26 el59 rfl rfl rfl hF rfl rfl (ra0) hx1 fun a3 c3 w2 S2 fr hs hp hF => ?_
    have ra0 := ra0.stp hM0 hp
    have hM0 := hM0.stp hp
    have hs : Sep [SL (α := D.Gate) 59 (.slice a3 (List.length x1) c3) x1] w2 S2 := hs
    refine from_pure 1 [(2, .slice a3 (List.length x1) c3)] hF (by kernel_rfl) fun fr hF => ?_
    refine from_end rfl (then_normal ?_)
    obtain rfl := Option.some.inj h
    exact wp_ret (ret1 rfl hF rfl ⟨_, rfl, a3, c3, rfl, S2, hM0.out, hs⟩)

theorem impl_newBuilder_ok (n : Nat) (p0 : D.Circuit) {r : D.builder} (h : impl_newBuilder n p0 = some r) {w : World} {G0 : Nat → Prop} {va0 : Value} (ra0 : RV w G0 va0 p0) :
    Calls Try.prog 68 [va0].toArray w fun e w' => ∃ v, e = .returned v ∧ ∃ b5 b6 a1 c1, v = .pointer (some ⟨b5, 0, none⟩) ∧ ∃ S', Stp w Non w' S' ∧ Sep [BX b5 83 [.int .i64 r.c.Inputs, .slice a1 (List.length r.c.Gates) c1, .map (some b6), .bool r.full], SL (α := D.Gate) 59 (.slice a1 (List.length r.c.Gates) c1) r.c.Gates, MP map81 b6 r.line] w' S' := by
  unfold impl_newBuilder at h
  have hs := Sep.nil w Non
  have hM0 : Mem w Non (fun k => (G0 k) ∧ k < w.heap.size) w Non (fun k => (G0 k) ∧ k < w.heap.size) := Mem.start (fun _ h => h.elim) (fun _ h => h.2) (fun _ h => h.elim)
  have ra0 := ra0.sub (F' := (fun k => (G0 k) ∧ k < w.heap.size)) (fun k hk h => ⟨h, hk⟩)
  obtain ⟨v1, rfl, r1⟩ := RV.Circuit ra0
  obtain ⟨a1, c1, rfl, -⟩ := r1.slice
  refine enter (N := 35) Try.func68 rfl Try.ntmps68 rfl fun fr hF => ?_
  refine wp_seq (wp_text' ?_)
  refine q_box hs hM0 [.int .i64 p0.Inputs, .slice a1 (List.length p0.Gates) c1] rfl rfl hF rfl rfl fun b1 w1 S1 fr hs hp hF => ?_
  have r1 := r1.stp hM0 hp
  have hM0 := hM0.stp hp
  have hs : Sep [BX b1 28 [.int .i64 p0.Inputs, .slice a1 (List.length p0.Gates) c1]] w1 S1 := hs
  refine from_pure 1 [(1, .pointer (some ⟨b1, 0, none⟩))] hF (by kernel_rfl) fun fr hF => ?_
  refine from_end rfl (then_normal ?_)
  obtain ⟨x1, hx1, h⟩ := bindE h
  refine wp_seq (region_bm 7 [0, 1, 0, 4, 12, 31, 0, 127, 255, 511] [true, false, true, false, false, false, false]
      [.eq (.pointer (some ⟨b1, 0, none⟩)), .eq (.int .i64 p0.Inputs), .eq (.pointer (some ⟨b1, 1, none⟩)), .eq (.slice a1 (List.length p0.Gates) c1), .own fun ow v w => ∃ i : Option Addr × Nat, v = .slice i.1 (List.length x1) i.2 ∧ (SL (α := D.Gate) 59 (.slice i.1 (List.length x1) i.2) x1).ok w (fun k => w1.heap.size ≤ k ∧ k < w.heap.size ∧ ow k = 4), .own fun ow v w => ∃ i : Option Addr × Nat, v = .agg #[.int .i64 p0.Inputs, .slice i.1 (List.length x1) i.2] ∧ (SL (α := D.Gate) 59 (.slice i.1 (List.length x1) i.2) x1).ok w (fun k => w1.heap.size ≤ k ∧ k < w.heap.size ∧ ow k = 4), .own fun ow v w => ∃ b : Nat, v = .map (some b) ∧ (MP map81 b []).ok w (fun k => w1.heap.size ≤ k ∧ k < w.heap.size ∧ ow k = 6), .any, .any, .any]
      [(1, .pointer (some ⟨b1, 0, none⟩))] mix hF (by kernel_rfl) (by kernel_rfl) (by kernel_rfl) (by kernel_rfl) ⟨Pd.monoO_eq, Pd.monoO_eq, mono_new, mono_new, mono_new, trivial⟩ (fun ow hG => ⟨np_to ow (np_loadBox hG hF ty3 rfl rfl (hs.bx 0 rfl) rfl rfl rfl), np_to ow (np_loadBox hG hF ty26 rfl rfl (hs.bx 0 rfl) rfl rfl rfl), np_callN (V := fun i : Option Addr × Nat => .slice i.1 (List.length x1) i.2) (H := fun i => SL 59 (.slice i.1 (List.length x1) i.2) x1) [.inl (.slice a1 (List.length p0.Gates) c1)] hG hF Try.call88 rfl rfl (by kernel_rfl) rfl (fun w vs hC hg ha => by obtain ⟨_, rfl, rfl⟩ := ha; exact (slices_Clone___impl_Gate_impl_Gate__ok p0.Gates hx1 ((r1).ext hC)).mono fun e w' ⟨v, he, a0, c0, hv, _, hp, ho⟩ => ⟨v, he, hp.chg, (a0, c0), hv, sep_one hp ho⟩), np_to ow (np_thru (V := fun i : Option Addr × Nat => .slice i.1 (List.length x1) i.2) (V' := fun i : Option Addr × Nat => .agg #[.int .i64 p0.Inputs, .slice i.1 (List.length x1) i.2]) (H := fun i : Option Addr × Nat => SL (α := D.Gate) 59 (.slice i.1 (List.length x1) i.2) x1) (i := 4) (s := 10) (tag := 4) hG hF rfl rfl rfl rfl rfl rfl (fun i => rfl) rfl), np_makeMap map81 hG hF (fun w => by simp [Instr.makeMap, run_newObj_alloc]) rfl rfl, trivial⟩) (by kernel_rfl) fun ow fr w2 hF hE hc => ?_)
  obtain ⟨⟨a2, c2⟩, hv, hnw5⟩ := hE.is 11 5 rfl rfl
  have hF := hF.cons hv
  obtain ⟨b2, hv, hnw6⟩ := hE.is 12 6 rfl rfl
  have hF := hF.cons hv
  have hsN := sepO (w0 := w1) (ow := ow) [(4, SL (α := D.Gate) 59 (.slice a2 (List.length x1) c2) x1), (6, MP map81 b2 ([]))] (show ([4, 6] : List Nat).Nodup by decide) ⟨hnw5, hnw6, trivial⟩ rfl
  obtain ⟨S2, hp, hs⟩ := hs.got hM0 (stp_new hc) hsN
  have r1 := r1.stp hM0 hp
  have hM0 := hM0.stp hp
  have hs : Sep [SL (α := D.Gate) 59 (.slice a2 (List.length x1) c2) x1, MP map81 b2 ([]), BX b1 28 [.int .i64 p0.Inputs, .slice a1 (List.length p0.Gates) c1]] w2 S2 := hs
  refine from_pure 1 [(1, .pointer (some ⟨b1, 0, none⟩)), (13, .agg #[.int .i64 p0.Inputs, .slice a2 (List.length x1) c2, .map (some b2), .bool false])] hF (by kernel_rfl) fun fr hF => ?_
  refine q_box hs hM0 [.int .i64 p0.Inputs, .slice a2 (List.length x1) c2, .map (some b2), .bool false] rfl rfl hF rfl rfl fun b3 w3 S3 fr hs hp hF => ?_
  have r1 := r1.stp hM0 hp
  have hM0 := hM0.stp hp
  have hs : Sep [BX b3 83 [.int .i64 p0.Inputs, .slice a2 (List.length x1) c2, .map (some b2), .bool false], SL (α := D.Gate) 59 (.slice a2 (List.length x1) c2) x1, MP map81 b2 ([]), BX b1 28 [.int .i64 p0.Inputs, .slice a1 (List.length p0.Gates) c1]] w3 S3 := hs
  refine from_pure 1 [(1, .pointer (some ⟨b1, 0, none⟩)), (3, .pointer (some ⟨b3, 0, none⟩))] hF (by kernel_rfl) fun fr hF => ?_
  refine from_end rfl (then_normal ?_)
  refine wp_seq ?_
  refine wp_seq (wp_text' ?_)
  refine from_pure 1 [(1, .pointer (some ⟨b1, 0, none⟩)), (3, .pointer (some ⟨b3, 0, none⟩)), (15, .pointer (some ⟨b1, 1, none⟩))] hF (by kernel_rfl) fun fr hF => ?_
  refine s_loadBox (.slice a1 (List.length p0.Gates) c1) ty26 rfl rfl hF rfl (hs.bx 3 rfl) rfl rfl fun fr hF => ?_
  refine from_pure 2 [(1, .pointer (some ⟨b1, 0, none⟩)), (3, .pointer (some ⟨b3, 0, none⟩)), (16, .slice a1 (List.length p0.Gates) c1), (17, .int .i64 (len p0.Gates)), (18, .int .i64 0)] hF (by kernel_rfl) fun fr hF => ?_
  refine from_end rfl (then_normal ?_)
  obtain ⟨rl1, hit1, h⟩ := bindE h
  have hk1 := h
  refine (wp_cut (M := fun fr w' => ∃ S5 F2, FrS 35 [(3, .pointer (some ⟨b3, 0, none⟩))] fr ∧ Mem w3 S3 (fun k => (G0 k) ∧ k < w.heap.size) w' S5 F2 ∧ Sep [BX b3 83 [.int .i64 p0.Inputs, .slice a2 (List.length x1) c2, .map (some b2), .bool false], SL (α := D.Gate) 59 (.slice a2 (List.length x1) c2) x1, MP map81 b2 rl1] w' S5) (wp_block (wp_iter (Inv := fun s1 fr w' => ∃ S4 F1, FrS 35 [(1, .pointer (some ⟨b1, 0, none⟩)), (3, .pointer (some ⟨b3, 0, none⟩)), (16, .slice a1 (List.length p0.Gates) c1), (17, .int .i64 (len p0.Gates)), (18, .int .i64 s1.1)] fr ∧ Mem w3 S3 (fun k => (G0 k) ∧ k < w.heap.size) w' S4 F1 ∧ Sep [BX b3 83 [.int .i64 p0.Inputs, .slice a2 (List.length x1) c2, .map (some b2), .bool false], SL (α := D.Gate) 59 (.slice a2 (List.length x1) c2) x1, MP map81 b2 s1.2, BX b1 28 [.int .i64 p0.Inputs, .slice a1 (List.length p0.Gates) c1]] w' S4) hit1 ⟨S3, _, hF.sub _ (by kernel_rfl), (Mem.start hM0.bd hM0.bdF hM0.dj), hs⟩ fun s1 q1 fr w1i hI h hr1 => ?_)) fun fr w1o hM => ?_)
  · obtain ⟨S4, F1, hF, hM1, hs⟩ := hI
    have r1 := r1.mem hM1
    refine wp_seq (wp_pure [(1, .pointer (some ⟨b1, 0, none⟩)), (3, .pointer (some ⟨b3, 0, none⟩)), (16, .slice a1 (List.length p0.Gates) c1), (17, .int .i64 (len p0.Gates)), (18, .int .i64 s1.1), (19, .bool (decide (s1.1 < (len p0.Gates))))] hF (by kernel_rfl) fun fr hF => then_normal ?_)
    refine wp_seq (wp_if hF (b := (decide (s1.1 < (len p0.Gates)))) rfl (fun hb => ?_) (fun hb => ?_))
    · replace h := iteT hb h
      refine (wp_skip (then_normal ?_))
      refine wp_seq (wp_block ?_)
      refine wp_seq (wp_text' ?_)
      refine from_pure 1 [(1, .pointer (some ⟨b1, 0, none⟩)), (3, .pointer (some ⟨b3, 0, none⟩)), (16, .slice a1 (List.length p0.Gates) c1), (17, .int .i64 (len p0.Gates)), (18, .int .i64 s1.1), (20, .int .i64 s1.1)] hF (by kernel_rfl) fun fr hF => ?_
      obtain ⟨x2, hx2, h⟩ := bindE h
      refine s_elemF (z := x2) (.agg #[.int .i64 x2.A, .int .i64 x2.B]) ty59 Try.underlying26 rfl rfl rfl rfl rfl hF rfl (r1) rfl (get?_nn hx2) (get?_at hx2) rfl fun p fr hF => ?_
      refine q_alloc (z := .agg #[.int .i64 0, .int .i64 0]) hs hM1 [.int .i64 0, .int .i64 0] rfl rfl hF (by kernel_rfl) rfl fun b4 w4 S6 fr hs hp hF => ?_
      have r1 := r1.stp hM1 hp
      have hM1 := hM1.stp hp
      have hs : Sep [BX b4 59 [.int .i64 0, .int .i64 0], BX b3 83 [.int .i64 p0.Inputs, .slice a2 (List.length x1) c2, .map (some b2), .bool false], SL (α := D.Gate) 59 (.slice a2 (List.length x1) c2) x1, MP map81 b2 s1.2, BX b1 28 [.int .i64 p0.Inputs, .slice a1 (List.length p0.Gates) c1]] w4 S6 := hs
      refine from_pure 1 [(1, .pointer (some ⟨b1, 0, none⟩)), (3, .pointer (some ⟨b3, 0, none⟩)), (4, .int .i64 s1.1), (5, .pointer (some ⟨b4, 0, none⟩)), (16, .slice a1 (List.length p0.Gates) c1), (17, .int .i64 (len p0.Gates)), (18, .int .i64 s1.1), (22, .agg #[.int .i64 x2.A, .int .i64 x2.B])] hF (by kernel_rfl) fun fr hF => ?_
      refine q_storeBoxS 0 hs hM1 rfl [.int .i64 x2.A, .int .i64 x2.B] rfl hF rfl rfl (by kernel_rfl) rfl rfl rfl fun w5 S7 hs hp hF => ?_
      have r1 := r1.stp hM1 hp
      have hM1 := hM1.stp hp
      have hs : Sep [BX b4 59 [.int .i64 x2.A, .int .i64 x2.B], BX b3 83 [.int .i64 p0.Inputs, .slice a2 (List.length x1) c2, .map (some b2), .bool false], SL (α := D.Gate) 59 (.slice a2 (List.length x1) c2) x1, MP map81 b2 s1.2, BX b1 28 [.int .i64 p0.Inputs, .slice a1 (List.length p0.Gates) c1]] w5 S7 := hs
      refine from_end rfl (then_normal ?_)
      refine (region_bm 10 [0, 1, 3, 7, 0, 0, 32, 96, 0, 480, 1023] [true, true, true, false, false, true, false, true, true, true]
          [.eq (.pointer (some ⟨b3, 0, none⟩)), .eq (.pointer (some ⟨b3, 0, none⟩)), .eq (.pointer (some ⟨b3, 2, none⟩)), .eq (.map (some b2)), .eq (.agg #[.int .i64 x2.A, .int .i64 x2.B]), .eq (.pointer (some ⟨b1, 0, none⟩)), .eq (.int .i64 p0.Inputs), .eq (.int .i64 (w64 (2 + p0.Inputs))), .eq (.int .i64 s1.1), .eq (.int .i64 (w64 ((w64 (2 + p0.Inputs)) + s1.1))), .any]
          [(1, .pointer (some ⟨b1, 0, none⟩)), (3, .pointer (some ⟨b3, 0, none⟩)), (16, .slice a1 (List.length p0.Gates) c1), (17, .int .i64 (len p0.Gates)), (18, .int .i64 s1.1), (26, .map (some b2)), (27, .agg #[.int .i64 x2.A, .int .i64 x2.B]), (32, .int .i64 (w64 ((w64 (2 + p0.Inputs)) + s1.1)))] mix hF (by kernel_rfl) (by kernel_rfl) (by kernel_rfl) (by kernel_rfl) ⟨Pd.monoO_eq, Pd.monoO_eq, Pd.monoO_eq, trivial⟩ (fun ow hG => ⟨np_to ow (np_loadBox hG hF ty81 rfl rfl (hs.bx 1 rfl) rfl rfl rfl), np_to ow (np_loadBoxS hG hF ty59 rfl rfl (hs.bx 0 rfl) rfl rfl rfl rfl), np_to ow (np_loadBox hG hF ty3 rfl rfl (hs.bx 4 rfl) rfl rfl rfl), trivial⟩) (by kernel_rfl) fun ow fr w6 hF hE hc => ?_)
      have r1 := r1.ext hc
      have hs := hs.ext hc
      have hM1 := hM1.ext hc
      have hs : Sep [BX b3 83 [.int .i64 p0.Inputs, .slice a2 (List.length x1) c2, .map (some b2), .bool false], SL (α := D.Gate) 59 (.slice a2 (List.length x1) c2) x1, MP map81 b2 s1.2, BX b1 28 [.int .i64 p0.Inputs, .slice a1 (List.length p0.Gates) c1]] w6 S7 := Sep.pick [1, 2, 3, 4] hs (by decide) rfl
      obtain ⟨x3, hx3, h⟩ := bindE h
      refine q_mapPut map81 2 hs hM1 rfl Try.underlying81 rfl hF (u := x2) (mputE?_fit hx3) (w64 ((w64 (2 + p0.Inputs)) + s1.1)) (mputE?_efit hx3) (mputE?_len hx3) rfl rfl rfl rfl rfl fun w7 S8 hs hp hF => ?_
      have r1 := r1.stp hM1 hp
      have hM1 := hM1.stp hp
      have hs : Sep [BX b3 83 [.int .i64 p0.Inputs, .slice a2 (List.length x1) c2, .map (some b2), .bool false], SL (α := D.Gate) 59 (.slice a2 (List.length x1) c2) x1, MP map81 b2 x3, BX b1 28 [.int .i64 p0.Inputs, .slice a1 (List.length p0.Gates) c1]] w7 S8 := by rw [mputE?_val hx3]; exact hs
      refine from_end rfl ?_
      refine blk_normal (then_normal ?_)
      refine (wp_pure [(1, .pointer (some ⟨b1, 0, none⟩)), (3, .pointer (some ⟨b3, 0, none⟩)), (16, .slice a1 (List.length p0.Gates) c1), (17, .int .i64 (len p0.Gates)), (18, .int .i64 (w64 (s1.1 + 1)))] hF (by kernel_rfl) fun fr hF => then_normal ?_)
      exact ⟨_, (Option.some.inj h).symm, S8, _, hF.sub _ (by kernel_rfl), hM1, hs⟩
    replace h := iteF hb h
    have hs : Sep [BX b3 83 [.int .i64 p0.Inputs, .slice a2 (List.length x1) c2, .map (some b2), .bool false], SL (α := D.Gate) 59 (.slice a2 (List.length x1) c2) x1, MP map81 b2 s1.2] w1i S4 := Sep.pick [0, 1, 2] hs (by decide) rfl
    refine (wp_exit (then_exit (then_exit (blk_exit_eq ?_))))
    obtain rfl := hr1 _ (Option.some.inj h).symm
    exact then_normal ⟨S4, _, hF.sub _ (by kernel_rfl), hM1, hs⟩
  · obtain ⟨S5, F2, hF, hMx, hs⟩ := hM
    have hM0 := hM0.trans hMx
    refine wp_seq (wp_pure [(2, .pointer (some ⟨b3, 0, none⟩))] hF (by kernel_rfl) fun fr hF => then_normal ?_)
    obtain rfl := Option.some.inj h
    exact wp_ret (ret1 rfl hF rfl ⟨_, rfl, b3, b2, a2, c2, rfl, S5, hM0.out, hs⟩)

theorem impl_XorOf_1_ok (p0 : D.builder) (p1 : Int) (p2 : Int) {r : Int × D.builder} (h : impl_XorOf_1 p0 p1 p2 = some r) {w : World} {S0 F0 : Nat → Prop} {pa0 : Option Addr} {pn0 pc0 : Nat} {b1 : Nat} {b2 : Nat} (hs : Sep [BX b1 83 [.int .i64 p0.c.Inputs, .slice pa0 pn0 pc0, .map (some b2), .bool p0.full], SL (α := D.Gate) 59 (.slice pa0 pn0 pc0) p0.c.Gates, MP map81 b2 p0.line] w S0) (hb : ∀ k, S0 k → k < w.heap.size) (hd : ∀ k, S0 k → F0 k → False) {pb1 : Nat} (hb1 : FB w F0 pb1 3 [.int .i64 p1]) {pb2 : Nat} (hb2 : FB w F0 pb2 3 [.int .i64 p2]) :
    Calls Try.prog 59 [.pointer (some ⟨b1, 0, none⟩), .pointer (some ⟨pb1, 0, none⟩), .pointer (some ⟨pb2, 0, none⟩)].toArray w fun e w' => ∃ v, e = .returned v ∧ ∃ a1 c1, v = .int .i64 r.1 ∧ ∃ S', Stp w S0 w' S' ∧ Sep [BX b1 83 [.int .i64 r.2.c.Inputs, .slice a1 (List.length r.2.c.Gates) c1, .map (some b2), .bool r.2.full], SL (α := D.Gate) 59 (.slice a1 (List.length r.2.c.Gates) c1) r.2.c.Gates, MP map81 b2 r.2.line] w' S' := by
  unfold impl_XorOf_1 at h
  obtain ⟨hpn, hs⟩ := hs.relen 1 rfl
  subst hpn
  have hs : Sep [BX b1 83 [.int .i64 p0.c.Inputs, .slice pa0 (List.length p0.c.Gates) pc0, .map (some b2), .bool p0.full], SL (α := D.Gate) 59 (.slice pa0 (List.length p0.c.Gates) pc0) p0.c.Gates, MP map81 b2 p0.line] w S0 := hs
  have hM0 : Mem w S0 (fun k => F0 k ∧ k < w.heap.size) w S0 (fun k => F0 k ∧ k < w.heap.size) := Mem.start hb (fun _ h => h.2) (fun k h1 h2 => hd k h1 h2.1)
  have hb1 := hb1.sub (F' := (fun k => F0 k ∧ k < w.heap.size)) (fun k hk h => ⟨h, hk⟩)
  have hb2 := hb2.sub (F' := (fun k => F0 k ∧ k < w.heap.size)) (fun k hk h => ⟨h, hk⟩)
  refine enter (N := 9) Try.func59 rfl Try.ntmps59 rfl fun fr hF => ?_
  refine wp_seq (wp_pure [(0, .pointer (some ⟨b1, 0, none⟩)), (1, .pointer (some ⟨pb1, 0, none⟩)), (2, .pointer (some ⟨pb2, 0, none⟩))] hF (by kernel_rfl) fun fr hF => then_normal ?_)
  refine wp_seq (wp_text' ?_)
  refine from_pure 1 [(1, .pointer (some ⟨pb1, 0, none⟩)), (2, .pointer (some ⟨pb2, 0, none⟩)), (5, .pointer (some ⟨b1, 0, none⟩))] hF (by kernel_rfl) fun fr hF => ?_
  refine s_loadBox (.int .i64 p1) ty3 rfl rfl hF rfl hb1.1 rfl rfl fun fr hF => ?_
  refine s_loadBox (.int .i64 p2) ty3 rfl rfl hF rfl hb2.1 rfl rfl fun fr hF => ?_
  obtain ⟨x1, hx1, h⟩ := bindE h
  obtain ⟨A1, R1, hsA, hsR, hdA, hbA, hup⟩ := Sep.call (L1 := [BX b1 83 [.int .i64 p0.c.Inputs, .slice pa0 (List.length p0.c.Gates) pc0, .map (some b2), .bool p0.full], SL (α := D.Gate) 59 (.slice pa0 (List.length p0.c.Gates) pc0) p0.c.Gates, MP map81 b2 p0.line]) (L2 := []) hs hM0
  refine s_call [.pointer (some ⟨b1, 0, none⟩), .int .i64 p1, .int .i64 p2] Try.call60 rfl rfl hF rfl (impl_builder_xor_ok p0 p1 p2 hx1 hsA hbA hdA) fun v w1 fr hRes hF => ?_
  obtain ⟨a1, c1, rfl, _, hp, hs⟩ := hRes
  obtain ⟨S1, hp, hs⟩ := hup hp hs
  have hM0 := hM0.stp hp
  have hs : Sep [BX b1 83 [.int .i64 x1.2.c.Inputs, .slice a1 (List.length x1.2.c.Gates) c1, .map (some b2), .bool x1.2.full], SL (α := D.Gate) 59 (.slice a1 (List.length x1.2.c.Gates) c1) x1.2.c.Gates, MP map81 b2 x1.2.line] w1 S1 := hs
  refine from_pure 1 [(4, .int .i64 x1.1)] hF (by kernel_rfl) fun fr hF => ?_
  refine from_end rfl (then_normal ?_)
  obtain rfl := Option.some.inj h
  exact wp_ret (ret1 rfl hF rfl ⟨_, rfl, a1, c1, rfl, S1, hM0.out, hs⟩)

theorem impl_gateOf__impl_XorOf_1_ok (n : Nat) (p0 : D.Circuit) (p1 : List Int) (p3 : Int) (p4 : Int) {r : D.Circuit × Int × Bool} (h : impl_gateOf__impl_XorOf_1 n p0 p1 p3 p4 = some r) {w : World} {G0 : Nat → Prop} {va0 : Value} (ra0 : RV w G0 va0 p0) {G1 : Nat → Prop} {va1 : Value} (ra1 : RV w G1 va1 p1) {G3 : Nat → Prop} {pb3 : Nat} (hb3 : FB w G3 pb3 3 [.int .i64 p3]) {G4 : Nat → Prop} {pb4 : Nat} (hb4 : FB w G4 pb4 3 [.int .i64 p4]) :
    Calls Try.prog 49 [va0, va1, .func (.func 59) #[] #[.pointer (some ⟨pb3, 0, none⟩), .pointer (some ⟨pb4, 0, none⟩)]].toArray w fun e w' => ∃ v, e = .returned v ∧ ∃ a1 c1, v = .tuple #[.agg #[.int .i64 r.1.Inputs, .slice a1 (List.length r.1.Gates) c1], .int .i64 r.2.1, .bool r.2.2] ∧ ∃ S', Stp w Non w' S' ∧ Sep [SL (α := D.Gate) 59 (.slice a1 (List.length r.1.Gates) c1) r.1.Gates] w' S' := by
  unfold impl_gateOf__impl_XorOf_1 at h
  have hs := Sep.nil w Non
  have hM0 : Mem w Non (fun k => (G0 k ∨ G1 k ∨ G3 k ∨ G4 k) ∧ k < w.heap.size) w Non (fun k => (G0 k ∨ G1 k ∨ G3 k ∨ G4 k) ∧ k < w.heap.size) := Mem.start (fun _ h => h.elim) (fun _ h => h.2) (fun _ h => h.elim)
  have ra0 := ra0.sub (F' := (fun k => (G0 k ∨ G1 k ∨ G3 k ∨ G4 k) ∧ k < w.heap.size)) (fun k hk h => ⟨.inl h, hk⟩)
  obtain ⟨v1, rfl, r1⟩ := RV.Circuit ra0
  obtain ⟨a1, c1, rfl, -⟩ := r1.slice
  have ra1 := ra1.sub (F' := (fun k => (G0 k ∨ G1 k ∨ G3 k ∨ G4 k) ∧ k < w.heap.size)) (fun k hk h => ⟨.inr (.inl h), hk⟩)
  obtain ⟨a2, c2, rfl, -⟩ := ra1.slice
  have hb3 := hb3.sub (F' := (fun k => (G0 k ∨ G1 k ∨ G3 k ∨ G4 k) ∧ k < w.heap.size)) (fun k hk h => ⟨.inr (.inr (.inl h)), hk⟩)
  have hb4 := hb4.sub (F' := (fun k => (G0 k ∨ G1 k ∨ G3 k ∨ G4 k) ∧ k < w.heap.size)) (fun k hk h => ⟨.inr (.inr (.inr (h))), hk⟩)
  refine enter (N := 37) Try.func49 rfl Try.ntmps49 rfl fun fr hF => ?_
  refine wp_seq (wp_text' ?_)
  refine q_box hs hM0 [.int .i64 p0.Inputs, .slice a1 (List.length p0.Gates) c1] rfl rfl hF rfl rfl fun b1 w1 S1 fr hs hp hF => ?_
  have r1 := r1.stp hM0 hp
  have ra1 := ra1.stp hM0 hp
  have hb3 := hb3.stp hM0 hp
  have hb4 := hb4.stp hM0 hp
  have hM0 := hM0.stp hp
  have hs : Sep [BX b1 28 [.int .i64 p0.Inputs, .slice a1 (List.length p0.Gates) c1]] w1 S1 := hs
  refine q_alloc (z := .agg #[.int .i64 0, .slice none (List.length ([] : List D.Gate)) 0]) hs hM0 [.int .i64 0, .slice none (List.length ([] : List D.Gate)) 0] rfl rfl hF (by kernel_rfl) rfl fun b2 w2 S2 fr hs hp hF => ?_
  have ra1 := ra1.stp hM0 hp
  have r1 := r1.stp hM0 hp
  have hb3 := hb3.stp hM0 hp
  have hb4 := hb4.stp hM0 hp
  have hM0 := hM0.stp hp
  have hs : Sep [BX b2 28 [.int .i64 0, .slice none (List.length ([] : List D.Gate)) 0], BX b1 28 [.int .i64 p0.Inputs, .slice a1 (List.length p0.Gates) c1]] w2 S2 := hs
  refine from_pure 2 [(1, .slice a2 (List.length p1) c2), (2, .func (.func 59) #[] #[.pointer (some ⟨pb3, 0, none⟩), .pointer (some ⟨pb4, 0, none⟩)]), (3, .pointer (some ⟨b1, 0, none⟩)), (6, .pointer (some ⟨b2, 0, none⟩))] hF (by kernel_rfl) fun fr hF => ?_
  refine from_end rfl (then_normal ?_)
  refine wp_seq ?_
  obtain ⟨x1, hx1, h⟩ := bindE h
  obtain ⟨x2, hx2, h⟩ := bindE h
  obtain ⟨x3, hx3, h⟩ := bindE h
  refine wp_seq (region_b [] [false, false, true, true, true, false, false, false, true, true]
      [.eq (.agg #[.int .i64 p0.Inputs, .slice a1 (List.length p0.Gates) c1]), .eq (.bool x1), .eq (.bool (!x1)), .eq (.bool (!x1)), .eq (.slice a2 (List.length p1) c2), .eq (.agg #[.int .i64 p0.Inputs, .slice a1 (List.length p0.Gates) c1]), .eq (.int .i64 x2), .eq (.bool x3), .eq (.bool (!x3)), .eq (.bool ((!x1) || (!x3)))]
      [(2, .func (.func 59) #[] #[.pointer (some ⟨pb3, 0, none⟩), .pointer (some ⟨pb4, 0, none⟩)]), (3, .pointer (some ⟨b1, 0, none⟩)), (6, .pointer (some ⟨b2, 0, none⟩)), (20, .bool ((!x1) || (!x3)))] mix hF (by kernel_rfl) (by kernel_rfl) (by kernel_rfl) ⟨Pd.mono_eq, Pd.mono_eq, Pd.mono_eq, Pd.mono_eq, Pd.mono_eq, trivial⟩ (fun hG => ⟨np_loadBoxS hG hF ty28 rfl rfl (hs.bx 1 rfl) rfl rfl rfl rfl, np_call [.agg #[.int .i64 p0.Inputs, .slice a1 (List.length p0.Gates) c1]] hG hF Try.call35 rfl rfl (fun w hC hg => (impl_CircuitOk_ok n p0 hx1 ((RV.mk_Circuit p0 (r1)).ext hC)).mono fun e w' ⟨v, he, hv, hc⟩ => ⟨v, he, hc, hv⟩), np_loadBoxS hG hF ty28 rfl rfl (hs.bx 1 rfl) rfl rfl rfl rfl, np_call [.agg #[.int .i64 p0.Inputs, .slice a1 (List.length p0.Gates) c1]] hG hF Try.call65 rfl rfl (fun w hC hg => (impl_linesOf_ok p0 (iteF hg.2 hx2) ((RV.mk_Circuit p0 (r1)).ext hC)).mono fun e w' ⟨v, he, hv, hc⟩ => ⟨v, he, hc, hv⟩), np_call [.slice a2 (List.length p1) c2, .int .i64 x2] hG hF Try.call66 rfl rfl (fun w hC hg => (impl_literalsOk_ok n p1 x2 (iteF hg.2 hx3) ((ra1).ext hC)).mono fun e w' ⟨v, he, hv, hc⟩ => ⟨v, he, hc, hv⟩), trivial⟩) (by kernel_rfl) fun fr w3 hF hE hc => then_normal ?_)
  have ra1 := ra1.ext hc
  have r1 := r1.ext hc
  have hb3 := hb3.ext hc
  have hb4 := hb4.ext hc
  have hs := hs.ext hc
  have hM0 := hM0.ext hc
  refine (wp_if hF (b := ((!x1) || (!x3))) rfl (fun hb => ?_) (fun hb => ?_))
  · replace h := iteT hb h
    have hs : Sep [BX b2 28 [.int .i64 0, .slice none (List.length ([] : List D.Gate)) 0]] w3 S2 := Sep.pick [0] hs (by decide) rfl
    refine wp_seq (wp_text' ?_)
    refine from_pure 1 [(6, .pointer (some ⟨b2, 0, none⟩)), (21, .agg #[.int .i64 0, .slice none (List.length ([] : List D.Gate)) 0])] hF (by kernel_rfl) fun fr hF => ?_
    refine q_storeBoxS 0 hs hM0 rfl [.int .i64 0, .slice none (List.length ([] : List D.Gate)) 0] rfl hF rfl rfl (by kernel_rfl) rfl rfl rfl fun w4 S3 hs hp hF => ?_
    have hM0 := hM0.stp hp
    have hs : Sep [BX b2 28 [.int .i64 0, .slice none (List.length ([] : List D.Gate)) 0]] w4 S3 := hs
    refine from_pure 2 [(6, .pointer (some ⟨b2, 0, none⟩)), (7, .int .i64 0), (8, .bool false)] hF (by kernel_rfl) fun fr hF => ?_
    refine from_end rfl (then_normal ?_)
    have hrets := fun {σ : List (Nat × Value)} (h : σ = [(6, .pointer (some ⟨b2, 0, none⟩)), (7, .int .i64 0), (8, .bool false)]) => (by subst h; exact (Rets.cell rfl ty28 (hs.bx 0 rfl) rfl rfl (Rets.tmp rfl (Rets.tmp rfl Rets.nil))) : Rets Try.prog σ w4 [.cell 6 28, .tmp 7, .tmp 8] [.agg #[.int .i64 0, .slice none (List.length ([] : List D.Gate)) 0], .int .i64 0, .bool false])
    have hs : Sep [SL (α := D.Gate) 59 (.slice none (List.length ([] : List D.Gate)) 0) ([] : List D.Gate), BX b2 28 [.int .i64 0, .slice none (List.length ([] : List D.Gate)) 0]] w4 S3 := hs.cons_nil (α := D.Gate) 59
    obtain rfl := Option.some.inj h
    have hs : Sep [SL (α := D.Gate) 59 (.slice none (List.length ([] : List D.Gate)) 0) ([] : List D.Gate)] w4 S3 := Sep.pick [0] hs (by decide) rfl
    exact wp_ret (then_ret (retG (rs := [.cell 6 28, .tmp 7, .tmp 8]) rfl (hF.sub [(6, .pointer (some ⟨b2, 0, none⟩)), (7, .int .i64 0), (8, .bool false)] (by kernel_rfl)) (hrets rfl) rfl ⟨_, rfl, none, 0, rfl, S3, hM0.out, hs⟩))
  replace h := iteF hb h
  refine (wp_skip (then_normal ?_))
  refine wp_seq (wp_text' ?_)
  refine s_loadBoxS ty28 rfl rfl hF rfl (hs.bx 1 rfl) rfl rfl fun fr hF => ?_
  have hs : Sep [BX b2 28 [.int .i64 0, .slice none (List.length ([] : List D.Gate)) 0]] w3 S2 := Sep.pick [0] hs (by decide) rfl
  obtain ⟨x4, hx4, h⟩ := bindE h
  refine s_call [.agg #[.int .i64 p0.Inputs, .slice a1 (List.length p0.Gates) c1]] Try.call68 rfl rfl hF rfl (impl_newBuilder_ok n p0 hx4 (RV.mk_Circuit p0 (r1))) fun v w5 fr hRes hF => ?_
  obtain ⟨b3, b4, a3, c3, rfl, _, hp, hs2⟩ := hRes
  obtain ⟨S4, hp, hs⟩ := hs.got hM0 hp hs2
  have r1 := r1.stp hM0 hp
  have hb3 := hb3.stp hM0 hp
  have hb4 := hb4.stp hM0 hp
  have hM0 := hM0.stp hp
  have hs : Sep [BX b3 83 [.int .i64 x4.c.Inputs, .slice a3 (List.length x4.c.Gates) c3, .map (some b4), .bool x4.full], SL (α := D.Gate) 59 (.slice a3 (List.length x4.c.Gates) c3) x4.c.Gates, MP map81 b4 x4.line, BX b2 28 [.int .i64 0, .slice none (List.length ([] : List D.Gate)) 0]] w5 S4 := hs
  refine from_pure 1 [(2, .func (.func 59) #[] #[.pointer (some ⟨pb3, 0, none⟩), .pointer (some ⟨pb4, 0, none⟩)]), (6, .pointer (some ⟨b2, 0, none⟩)), (9, .pointer (some ⟨b3, 0, none⟩))] hF (by kernel_rfl) fun fr hF => ?_
  refine from_end rfl (then_normal ?_)
  refine wp_seq (wp_text' ?_)
  refine from_pure 2 [(6, .pointer (some ⟨b2, 0, none⟩)), (9, .pointer (some ⟨b3, 0, none⟩)), (24, .func (.func 59) #[] #[.pointer (some ⟨pb3, 0, none⟩), .pointer (some ⟨pb4, 0, none⟩)]), (25, .pointer (some ⟨b3, 0, none⟩))] hF (by kernel_rfl) fun fr hF => ?_
  obtain ⟨x5, hx5, h⟩ := bindE h
  obtain ⟨A1, R1, hsA, hsR, hdA, hbA, hup⟩ := Sep.call (L1 := [BX b3 83 [.int .i64 x4.c.Inputs, .slice a3 (List.length x4.c.Gates) c3, .map (some b4), .bool x4.full], SL (α := D.Gate) 59 (.slice a3 (List.length x4.c.Gates) c3) x4.c.Gates, MP map81 b4 x4.line]) (L2 := [BX b2 28 [.int .i64 0, .slice none (List.length ([] : List D.Gate)) 0]]) hs hM0
  refine s_callV [.pointer (some ⟨b3, 0, none⟩)] [.pointer (some ⟨pb3, 0, none⟩), .pointer (some ⟨pb4, 0, none⟩)] Try.call59 rfl rfl hF rfl rfl (impl_XorOf_1_ok x4 p3 p4 hx5 hsA hbA hdA (hb3.big (fun _ h => .inl h)) (hb4.big (fun _ h => .inl h))) fun v w6 fr hRes hF => ?_
  obtain ⟨a4, c4, rfl, _, hp, hs⟩ := hRes
  obtain ⟨S5, hp, hs⟩ := hup hp hs
  have hb3 := hb3.stp hM0 hp
  have hb4 := hb4.stp hM0 hp
  have hM0 := hM0.stp hp
  have hs : Sep [BX b3 83 [.int .i64 x5.2.c.Inputs, .slice a4 (List.length x5.2.c.Gates) c4, .map (some b4), .bool x5.2.full], SL (α := D.Gate) 59 (.slice a4 (List.length x5.2.c.Gates) c4) x5.2.c.Gates, MP map81 b4 x5.2.line, BX b2 28 [.int .i64 0, .slice none (List.length ([] : List D.Gate)) 0]] w6 S5 := hs
  refine from_pure 1 [(6, .pointer (some ⟨b2, 0, none⟩)), (9, .pointer (some ⟨b3, 0, none⟩)), (10, .int .i64 x5.1)] hF (by kernel_rfl) fun fr hF => ?_
  refine from_end rfl (then_normal ?_)
  refine wp_seq ?_
  refine wp_seq (wp_text' ?_)
  refine from_pure 3 [(6, .pointer (some ⟨b2, 0, none⟩)), (9, .pointer (some ⟨b3, 0, none⟩)), (10, .int .i64 x5.1), (29, .pointer (some ⟨b3, 3, none⟩))] hF (by kernel_rfl) fun fr hF => ?_
  refine s_loadBox (.bool x5.2.full) ty4 rfl rfl hF rfl (hs.bx 0 rfl) rfl rfl fun fr hF => ?_
  refine from_end rfl (then_normal ?_)
  refine (wp_if hF (b := x5.2.full) rfl (fun hb => ?_) (fun hb => ?_))
  · replace h := iteT hb h
    have hs : Sep [BX b2 28 [.int .i64 0, .slice none (List.length ([] : List D.Gate)) 0]] w6 S5 := Sep.pick [3] hs (by decide) rfl
    refine wp_seq (wp_text' ?_)
    refine from_pure 1 [(6, .pointer (some ⟨b2, 0, none⟩)), (31, .agg #[.int .i64 0, .slice none (List.length ([] : List D.Gate)) 0])] hF (by kernel_rfl) fun fr hF => ?_
    refine q_storeBoxS 0 hs hM0 rfl [.int .i64 0, .slice none (List.length ([] : List D.Gate)) 0] rfl hF rfl rfl (by kernel_rfl) rfl rfl rfl fun w7 S6 hs hp hF => ?_
    have hM0 := hM0.stp hp
    have hs : Sep [BX b2 28 [.int .i64 0, .slice none (List.length ([] : List D.Gate)) 0]] w7 S6 := hs
    refine from_pure 2 [(6, .pointer (some ⟨b2, 0, none⟩)), (7, .int .i64 0), (8, .bool false)] hF (by kernel_rfl) fun fr hF => ?_
    refine from_end rfl (then_normal ?_)
    have hrets := fun {σ : List (Nat × Value)} (h : σ = [(6, .pointer (some ⟨b2, 0, none⟩)), (7, .int .i64 0), (8, .bool false)]) => (by subst h; exact (Rets.cell rfl ty28 (hs.bx 0 rfl) rfl rfl (Rets.tmp rfl (Rets.tmp rfl Rets.nil))) : Rets Try.prog σ w7 [.cell 6 28, .tmp 7, .tmp 8] [.agg #[.int .i64 0, .slice none (List.length ([] : List D.Gate)) 0], .int .i64 0, .bool false])
    have hs : Sep [SL (α := D.Gate) 59 (.slice none (List.length ([] : List D.Gate)) 0) ([] : List D.Gate), BX b2 28 [.int .i64 0, .slice none (List.length ([] : List D.Gate)) 0]] w7 S6 := hs.cons_nil (α := D.Gate) 59
    obtain rfl := Option.some.inj h
    have hs : Sep [SL (α := D.Gate) 59 (.slice none (List.length ([] : List D.Gate)) 0) ([] : List D.Gate)] w7 S6 := Sep.pick [0] hs (by decide) rfl
    exact wp_ret (then_ret (retG (rs := [.cell 6 28, .tmp 7, .tmp 8]) rfl (hF.sub [(6, .pointer (some ⟨b2, 0, none⟩)), (7, .int .i64 0), (8, .bool false)] (by kernel_rfl)) (hrets rfl) rfl ⟨_, rfl, none, 0, rfl, S6, hM0.out, hs⟩))
  replace h := iteF hb h
  refine (wp_skip (then_normal ?_))
  refine wp_seq (wp_text' ?_)
  refine from_pure 3 [(6, .pointer (some ⟨b2, 0, none⟩)), (10, .int .i64 x5.1), (34, .pointer (some ⟨b3, 0, none⟩))] hF (by kernel_rfl) fun fr hF => ?_
  refine s_loadPart [.int .i64 x5.2.c.Inputs, .slice a4 (List.length x5.2.c.Gates) c4] ty28 rfl rfl hF rfl (hs.bx 0 rfl) rfl rfl rfl fun fr hF => ?_
  have hs : Sep [SL (α := D.Gate) 59 (.slice a4 (List.length x5.2.c.Gates) c4) x5.2.c.Gates, BX b2 28 [.int .i64 0, .slice none (List.length ([] : List D.Gate)) 0]] w6 S5 := Sep.pick [1, 3] hs (by decide) rfl
  refine from_pure 1 [(6, .pointer (some ⟨b2, 0, none⟩)), (35, .agg #[.int .i64 x5.2.c.Inputs, .slice a4 (List.length x5.2.c.Gates) c4]), (36, .int .i64 x5.1)] hF (by kernel_rfl) fun fr hF => ?_
  refine q_storeBoxS 1 hs hM0 rfl [.int .i64 x5.2.c.Inputs, .slice a4 (List.length x5.2.c.Gates) c4] rfl hF rfl rfl (by kernel_rfl) rfl rfl rfl fun w8 S7 hs hp hF => ?_
  have hM0 := hM0.stp hp
  have hs : Sep [SL (α := D.Gate) 59 (.slice a4 (List.length x5.2.c.Gates) c4) x5.2.c.Gates, BX b2 28 [.int .i64 x5.2.c.Inputs, .slice a4 (List.length x5.2.c.Gates) c4]] w8 S7 := hs
  refine from_pure 2 [(6, .pointer (some ⟨b2, 0, none⟩)), (7, .int .i64 x5.1), (8, .bool true)] hF (by kernel_rfl) fun fr hF => ?_
  refine from_end rfl (then_normal ?_)
  have hrets := fun {σ : List (Nat × Value)} (h : σ = [(6, .pointer (some ⟨b2, 0, none⟩)), (7, .int .i64 x5.1), (8, .bool true)]) => (by subst h; exact (Rets.cell rfl ty28 (hs.bx 1 rfl) rfl rfl (Rets.tmp rfl (Rets.tmp rfl Rets.nil))) : Rets Try.prog σ w8 [.cell 6 28, .tmp 7, .tmp 8] [.agg #[.int .i64 x5.2.c.Inputs, .slice a4 (List.length x5.2.c.Gates) c4], .int .i64 x5.1, .bool true])
  obtain rfl := Option.some.inj h
  have hs : Sep [SL (α := D.Gate) 59 (.slice a4 (List.length x5.2.c.Gates) c4) x5.2.c.Gates] w8 S7 := Sep.pick [0] hs (by decide) rfl
  exact wp_ret (retG (rs := [.cell 6 28, .tmp 7, .tmp 8]) rfl (hF.sub [(6, .pointer (some ⟨b2, 0, none⟩)), (7, .int .i64 x5.1), (8, .bool true)] (by kernel_rfl)) (hrets rfl) rfl ⟨_, rfl, a4, c4, rfl, S7, hM0.out, hs⟩)

theorem impl_XorOf_ok (n : Nat) (p0 : D.Circuit) (p1 : Int) (p2 : Int) {r : D.Circuit × Int × Bool} (h : impl_XorOf n p0 p1 p2 = some r) {w : World} {G0 : Nat → Prop} {va0 : Value} (ra0 : RV w G0 va0 p0) :
    Calls Try.prog 22 [va0, .int .i64 p1, .int .i64 p2].toArray w fun e w' => ∃ v, e = .returned v ∧ ∃ a1 c1, v = .tuple #[.agg #[.int .i64 r.1.Inputs, .slice a1 (List.length r.1.Gates) c1], .int .i64 r.2.1, .bool r.2.2] ∧ ∃ S', Stp w Non w' S' ∧ Sep [SL (α := D.Gate) 59 (.slice a1 (List.length r.1.Gates) c1) r.1.Gates] w' S' := by
  unfold impl_XorOf at h
  have hs := Sep.nil w Non
  have hM0 : Mem w Non (fun k => (G0 k) ∧ k < w.heap.size) w Non (fun k => (G0 k) ∧ k < w.heap.size) := Mem.start (fun _ h => h.elim) (fun _ h => h.2) (fun _ h => h.elim)
  have ra0 := ra0.sub (F' := (fun k => (G0 k) ∧ k < w.heap.size)) (fun k hk h => ⟨h, hk⟩)
  obtain ⟨v1, rfl, r1⟩ := RV.Circuit ra0
  obtain ⟨a1, c1, rfl, -⟩ := r1.slice
  refine enter (N := 18) Try.func22 rfl Try.ntmps22 rfl fun fr hF => ?_
  refine wp_seq (wp_text' ?_)
  refine q_box hs hM0 [.int .i64 p0.Inputs, .slice a1 (List.length p0.Gates) c1] rfl rfl hF rfl rfl fun b1 w1 S1 fr hs hp hF => ?_
  have r1 := r1.stp hM0 hp
  have hM0 := hM0.stp hp
  have hs : Sep [BX b1 28 [.int .i64 p0.Inputs, .slice a1 (List.length p0.Gates) c1]] w1 S1 := hs
  refine q_box hs hM0 [.int .i64 p1] rfl rfl hF rfl rfl fun b2 w2 S2 fr hs hp hF => ?_
  have r1 := r1.stp hM0 hp
  have hM0 := hM0.stp hp
  have hs : Sep [BX b2 3 [.int .i64 p1], BX b1 28 [.int .i64 p0.Inputs, .slice a1 (List.length p0.Gates) c1]] w2 S2 := hs
  refine q_box hs hM0 [.int .i64 p2] rfl rfl hF rfl rfl fun b3 w3 S3 fr hs hp hF => ?_
  have r1 := r1.stp hM0 hp
  have hM0 := hM0.stp hp
  have hs : Sep [BX b3 3 [.int .i64 p2], BX b2 3 [.int .i64 p1], BX b1 28 [.int .i64 p0.Inputs, .slice a1 (List.length p0.Gates) c1]] w3 S3 := hs
  refine q_alloc (z := .agg #[.int .i64 0, .slice none (List.length ([] : List D.Gate)) 0]) hs hM0 [.int .i64 0, .slice none (List.length ([] : List D.Gate)) 0] rfl rfl hF (by kernel_rfl) rfl fun b4 w4 S4 fr hs hp hF => ?_
  have r1 := r1.stp hM0 hp
  have hM0 := hM0.stp hp
  have hs : Sep [BX b4 28 [.int .i64 0, .slice none (List.length ([] : List D.Gate)) 0], BX b3 3 [.int .i64 p2], BX b2 3 [.int .i64 p1], BX b1 28 [.int .i64 p0.Inputs, .slice a1 (List.length p0.Gates) c1]] w4 S4 := hs
  refine from_pure 2 [(3, .pointer (some ⟨b1, 0, none⟩)), (4, .pointer (some ⟨b2, 0, none⟩)), (5, .pointer (some ⟨b3, 0, none⟩)), (6, .pointer (some ⟨b4, 0, none⟩))] hF (by kernel_rfl) fun fr hF => ?_
  refine from_end rfl (then_normal ?_)
  refine wp_seq (wp_text' ?_)
  refine s_loadBoxS ty28 rfl rfl hF rfl (hs.bx 3 rfl) rfl rfl fun fr hF => ?_
  have hs : Sep [BX b4 28 [.int .i64 0, .slice none (List.length ([] : List D.Gate)) 0], BX b3 3 [.int .i64 p2], BX b2 3 [.int .i64 p1]] w4 S4 := Sep.pick [0, 1, 2] hs (by decide) rfl
  refine s_loadBox (.int .i64 p1) ty3 rfl rfl hF rfl (hs.bx 2 rfl) rfl rfl fun fr hF => ?_
  refine s_loadBox (.int .i64 p2) ty3 rfl rfl hF rfl (hs.bx 1 rfl) rfl rfl fun fr hF => ?_
  refine q_lit (E := 3) hs hM0 [.int .i64 p1, .int .i64 p2] (([p1, p2] : List Int).map Flat.enc) ([p1, p2] : List Int) rfl rfl hF [.int .i64 p1, .int .i64 p2] rfl (fun w => by kernel_rfl) (css_flat _) rfl rfl rfl fun a2 c2 w5 S5 fr hs hp hF => ?_
  have r1 := r1.stp hM0 hp
  have hM0 := hM0.stp hp
  have hs : Sep [SL (α := Int) 3 (.slice a2 (List.length ([p1, p2] : List Int)) c2) ([p1, p2] : List Int), BX b4 28 [.int .i64 0, .slice none (List.length ([] : List D.Gate)) 0], BX b3 3 [.int .i64 p2], BX b2 3 [.int .i64 p1]] w5 S5 := hs
  refine from_pure 1 [(6, .pointer (some ⟨b4, 0, none⟩)), (9, .agg #[.int .i64 p0.Inputs, .slice a1 (List.length p0.Gates) c1]), (12, .slice a2 (List.length ([p1, p2] : List Int)) c2), (13, .func (.func 59) #[] #[.pointer (some ⟨b2, 0, none⟩), .pointer (some ⟨b3, 0, none⟩)])] hF (by kernel_rfl) fun fr hF => ?_
  obtain ⟨x1, hx1, h⟩ := bindE h
  refine s_call [.agg #[.int .i64 p0.Inputs, .slice a1 (List.length p0.Gates) c1], .slice a2 (List.length ([p1, p2] : List Int)) c2, .func (.func 59) #[] #[.pointer (some ⟨b2, 0, none⟩), .pointer (some ⟨b3, 0, none⟩)]] Try.call49 rfl rfl hF rfl (impl_gateOf__impl_XorOf_1_ok n p0 ([p1, p2] : List Int) p1 p2 hx1 (RV.mk_Circuit p0 (r1)) (hs.rv 0 rfl) (hs.fb 3 rfl) (hs.fb 2 rfl)) fun v w6 fr hRes hF => ?_
  obtain ⟨a3, c3, rfl, _, hp, hs2⟩ := hRes
  obtain ⟨S6, hp, hs⟩ := hs.got hM0 hp hs2
  have r1 := r1.stp hM0 hp
  have hM0 := hM0.stp hp
  have hs : Sep [SL (α := D.Gate) 59 (.slice a3 (List.length x1.1.Gates) c3) x1.1.Gates, SL (α := Int) 3 (.slice a2 (List.length ([p1, p2] : List Int)) c2) ([p1, p2] : List Int), BX b4 28 [.int .i64 0, .slice none (List.length ([] : List D.Gate)) 0], BX b3 3 [.int .i64 p2], BX b2 3 [.int .i64 p1]] w6 S6 := hs
  have hs : Sep [SL (α := D.Gate) 59 (.slice a3 (List.length x1.1.Gates) c3) x1.1.Gates, BX b4 28 [.int .i64 0, .slice none (List.length ([] : List D.Gate)) 0]] w6 S6 := Sep.pick [0, 2] hs (by decide) rfl
  refine from_pure 3 [(6, .pointer (some ⟨b4, 0, none⟩)), (15, .agg #[.int .i64 x1.1.Inputs, .slice a3 (List.length x1.1.Gates) c3]), (16, .int .i64 x1.2.1), (17, .bool x1.2.2)] hF (by kernel_rfl) fun fr hF => ?_
  refine q_storeBoxS 1 hs hM0 rfl [.int .i64 x1.1.Inputs, .slice a3 (List.length x1.1.Gates) c3] rfl hF rfl rfl (by kernel_rfl) rfl rfl rfl fun w7 S7 hs hp hF => ?_
  have hM0 := hM0.stp hp
  have hs : Sep [SL (α := D.Gate) 59 (.slice a3 (List.length x1.1.Gates) c3) x1.1.Gates, BX b4 28 [.int .i64 x1.1.Inputs, .slice a3 (List.length x1.1.Gates) c3]] w7 S7 := hs
  refine from_pure 2 [(6, .pointer (some ⟨b4, 0, none⟩)), (7, .int .i64 x1.2.1), (8, .bool x1.2.2)] hF (by kernel_rfl) fun fr hF => ?_
  refine from_end rfl (then_normal ?_)
  have hrets := fun {σ : List (Nat × Value)} (h : σ = [(6, .pointer (some ⟨b4, 0, none⟩)), (7, .int .i64 x1.2.1), (8, .bool x1.2.2)]) => (by subst h; exact (Rets.cell rfl ty28 (hs.bx 1 rfl) rfl rfl (Rets.tmp rfl (Rets.tmp rfl Rets.nil))) : Rets Try.prog σ w7 [.cell 6 28, .tmp 7, .tmp 8] [.agg #[.int .i64 x1.1.Inputs, .slice a3 (List.length x1.1.Gates) c3], .int .i64 x1.2.1, .bool x1.2.2])
  obtain rfl := Option.some.inj h
  have hs : Sep [SL (α := D.Gate) 59 (.slice a3 (List.length x1.1.Gates) c3) x1.1.Gates] w7 S7 := Sep.pick [0] hs (by decide) rfl
  exact wp_ret (retG (rs := [.cell 6 28, .tmp 7, .tmp 8]) rfl (hF.sub [(6, .pointer (some ⟨b4, 0, none⟩)), (7, .int .i64 x1.2.1), (8, .bool x1.2.2)] (by kernel_rfl)) (hrets rfl) rfl ⟨_, rfl, a3, c3, rfl, S7, hM0.out, hs⟩)

theorem laws_eqGate_ok (p0 : D.Gate) (p1 : D.Gate) {r : Bool} (h : laws_eqGate p0 p1 = some r) {w : World} :
    Calls Try.prog 87 [.agg #[.int .i64 p0.A, .int .i64 p0.B], .agg #[.int .i64 p1.A, .int .i64 p1.B]].toArray w fun e w' => ∃ v, e = .returned v ∧ v = .bool r ∧ Chg Non w w' := by
  unfold laws_eqGate at h
  have hs := Sep.nil w Non
  have hM0 : Mem w Non (fun k => (False) ∧ k < w.heap.size) w Non (fun k => (False) ∧ k < w.heap.size) := Mem.start (fun _ h => h.elim) (fun _ h => h.2) (fun _ h => h.elim)
  refine enter (N := 15) Try.func87 rfl Try.ntmps87 rfl fun fr hF => ?_
  refine wp_seq (wp_text' ?_)
  refine q_box hs hM0 [.int .i64 p0.A, .int .i64 p0.B] rfl rfl hF rfl rfl fun b1 w1 S1 fr hs hp hF => ?_
  have hM0 := hM0.stp hp
  have hs : Sep [BX b1 59 [.int .i64 p0.A, .int .i64 p0.B]] w1 S1 := hs
  refine q_box hs hM0 [.int .i64 p1.A, .int .i64 p1.B] rfl rfl hF rfl rfl fun b2 w2 S2 fr hs hp hF => ?_
  have hM0 := hM0.stp hp
  have hs : Sep [BX b2 59 [.int .i64 p1.A, .int .i64 p1.B], BX b1 59 [.int .i64 p0.A, .int .i64 p0.B]] w2 S2 := hs
  refine from_pure 1 [(2, .pointer (some ⟨b1, 0, none⟩)), (3, .pointer (some ⟨b2, 0, none⟩))] hF (by kernel_rfl) fun fr hF => ?_
  refine from_end rfl (then_normal ?_)
  refine wp_seq ?_
  refine wp_seq (wp_text' ?_)
  refine from_pure 1 [(2, .pointer (some ⟨b1, 0, none⟩)), (3, .pointer (some ⟨b2, 0, none⟩)), (5, .pointer (some ⟨b1, 0, none⟩))] hF (by kernel_rfl) fun fr hF => ?_
  refine s_loadBox (.int .i64 p0.A) ty3 rfl rfl hF rfl (hs.bx 1 rfl) rfl rfl fun fr hF => ?_
  refine from_pure 1 [(2, .pointer (some ⟨b1, 0, none⟩)), (3, .pointer (some ⟨b2, 0, none⟩)), (6, .int .i64 p0.A), (7, .pointer (some ⟨b2, 0, none⟩))] hF (by kernel_rfl) fun fr hF => ?_
  refine s_loadBox (.int .i64 p1.A) ty3 rfl rfl hF rfl (hs.bx 0 rfl) rfl rfl fun fr hF => ?_
  refine from_pure 1 [(2, .pointer (some ⟨b1, 0, none⟩)), (3, .pointer (some ⟨b2, 0, none⟩)), (9, .bool (p0.A != p1.A))] hF (by kernel_rfl) fun fr hF => ?_
  refine from_end rfl (then_normal ?_)
  refine (wp_if hF (b := (p0.A != p1.A)) rfl (fun hb => ?_) (fun hb => ?_))
  · replace h := iteT hb h
    have hs : Sep [] w2 S2 := Sep.pick [] hs (by decide) rfl
    refine wp_seq (wp_pure [(4, .bool false)] hF (by kernel_rfl) fun fr hF => then_normal ?_)
    obtain rfl := Option.some.inj h
    exact wp_ret (then_ret (ret1 rfl hF rfl ⟨_, rfl, rfl, hM0.chg⟩))
  replace h := iteF hb h
  refine (wp_skip (then_normal ?_))
  refine wp_seq ?_
  refine wp_seq (wp_text' ?_)
  refine from_pure 1 [(3, .pointer (some ⟨b2, 0, none⟩)), (10, .pointer (some ⟨b1, 1, none⟩))] hF (by kernel_rfl) fun fr hF => ?_
  refine s_loadBox (.int .i64 p0.B) ty3 rfl rfl hF rfl (hs.bx 1 rfl) rfl rfl fun fr hF => ?_
  have hs : Sep [BX b2 59 [.int .i64 p1.A, .int .i64 p1.B]] w2 S2 := Sep.pick [0] hs (by decide) rfl
  refine from_pure 1 [(11, .int .i64 p0.B), (12, .pointer (some ⟨b2, 1, none⟩))] hF (by kernel_rfl) fun fr hF => ?_
  refine s_loadBox (.int .i64 p1.B) ty3 rfl rfl hF rfl (hs.bx 0 rfl) rfl rfl fun fr hF => ?_
  have hs : Sep [] w2 S2 := Sep.pick [] hs (by decide) rfl
  refine from_pure 1 [(14, .bool (p0.B != p1.B))] hF (by kernel_rfl) fun fr hF => ?_
  refine from_end rfl (then_normal ?_)
  refine (wp_if hF (b := (p0.B != p1.B)) rfl (fun hb => ?_) (fun hb => ?_))
  · replace h := iteT hb h
    refine wp_seq (wp_pure [(4, .bool false)] hF (by kernel_rfl) fun fr hF => then_normal ?_)
    obtain rfl := Option.some.inj h
    exact wp_ret (then_ret (ret1 rfl hF rfl ⟨_, rfl, rfl, hM0.chg⟩))
  replace h := iteF hb h
  refine (wp_skip (then_normal ?_))
  refine wp_seq (wp_pure [(4, .bool true)] hF (by kernel_rfl) fun fr hF => then_normal ?_)
  obtain rfl := Option.some.inj h
  exact wp_ret (ret1 rfl hF rfl ⟨_, rfl, rfl, hM0.chg⟩)

theorem laws_eqGateS_ok (n : Nat) (p0 : List D.Gate) (p1 : List D.Gate) {r : Bool} (h : laws_eqGateS n p0 p1 = some r) {w : World} {G0 : Nat → Prop} {va0 : Value} (ra0 : RV w G0 va0 p0) {G1 : Nat → Prop} {va1 : Value} (ra1 : RV w G1 va1 p1) :
    Calls Try.prog 52 [va0, va1].toArray w fun e w' => ∃ v, e = .returned v ∧ v = .bool r ∧ Chg Non w w' := by
  unfold laws_eqGateS at h
  have hs := Sep.nil w Non
  have hM0 : Mem w Non (fun k => (G0 k ∨ G1 k) ∧ k < w.heap.size) w Non (fun k => (G0 k ∨ G1 k) ∧ k < w.heap.size) := Mem.start (fun _ h => h.elim) (fun _ h => h.2) (fun _ h => h.elim)
  have ra0 := ra0.sub (F' := (fun k => (G0 k ∨ G1 k) ∧ k < w.heap.size)) (fun k hk h => ⟨.inl h, hk⟩)
  obtain ⟨a1, c1, rfl, -⟩ := ra0.slice
  have ra1 := ra1.sub (F' := (fun k => (G0 k ∨ G1 k) ∧ k < w.heap.size)) (fun k hk h => ⟨.inr (h), hk⟩)
  obtain ⟨a2, c2, rfl, -⟩ := ra1.slice
  refine enter (N := 27) Try.func52 rfl Try.ntmps52 rfl fun fr hF => ?_
  refine wp_seq (wp_pure [(0, .slice a1 (List.length p0) c1), (1, .slice a2 (List.length p1) c2)] hF (by kernel_rfl) fun fr hF => then_normal ?_)
  refine wp_seq ?_
  refine wp_seq (wp_pure [(0, .slice a1 (List.length p0) c1), (1, .slice a2 (List.length p1) c2), (10, .bool ((len p0) != (len p1)))] hF (by kernel_rfl) fun fr hF => then_normal ?_)
  refine (wp_if hF (b := ((len p0) != (len p1))) rfl (fun hb => ?_) (fun hb => ?_))
  · replace h := iteT hb h
    refine wp_seq (wp_pure [(4, .bool false)] hF (by kernel_rfl) fun fr hF => then_normal ?_)
    obtain rfl := Option.some.inj h
    exact wp_ret (then_ret (ret1 rfl hF rfl ⟨_, rfl, rfl, hM0.chg⟩))
  replace h := iteF hb h
  refine (wp_skip (then_normal ?_))
  refine wp_seq ?_
  refine wp_seq (wp_pure [(0, .slice a1 (List.length p0) c1), (1, .slice a2 (List.length p1) c2), (5, .int .i64 0)] hF (by kernel_rfl) fun fr hF => then_normal ?_)
  obtain ⟨rl1, hit1, h⟩ := bindE h
  have hk1 := h
  refine (wp_cut (M := fun fr w' => ∃ s, rl1 = .inl s ∧ ∃ S2 F2, FrS 27 [] fr ∧ Mem w Non (fun k => (G0 k ∨ G1 k) ∧ k < w.heap.size) w' S2 F2 ∧ Sep [] w' S2) (wp_block (wp_iter (Inv := fun s1 fr w' => ∃ S1 F1, FrS 27 [(0, .slice a1 (List.length p0) c1), (1, .slice a2 (List.length p1) c2), (5, .int .i64 s1)] fr ∧ Mem w Non (fun k => (G0 k ∨ G1 k) ∧ k < w.heap.size) w' S1 F1 ∧ Sep [] w' S1) hit1 ⟨Non, _, hF.sub _ (by kernel_rfl), (Mem.start hM0.bd hM0.bdF hM0.dj), hs⟩ fun s1 q1 fr w1i hI h hr1 => ?_)) fun fr w1o hM => ?_)
  · obtain ⟨S1, F1, hF, hM1, hs⟩ := hI
    have ra0 := ra0.mem hM1
    have ra1 := ra1.mem hM1
    refine wp_seq ?_
    refine wp_seq (wp_pure [(0, .slice a1 (List.length p0) c1), (1, .slice a2 (List.length p1) c2), (5, .int .i64 s1), (14, .bool (decide (s1 < (len p0))))] hF (by kernel_rfl) fun fr hF => then_normal ?_)
    refine (wp_if hF (b := (decide (s1 < (len p0)))) rfl (fun hb => ?_) (fun hb => ?_))
    · replace h := iteT hb h
      refine (wp_skip (then_normal ?_))
      refine wp_seq (wp_block ?_)
      obtain ⟨x1, hx1, h⟩ := bindE h
      obtain ⟨x2, hx2, h⟩ := bindE h
      obtain ⟨x3, hx3, h⟩ := bindE h
      refine wp_seq (region_bm 10 [0, 0, 3, 7, 0, 0, 48, 112, 255, 511] [true, true, false, false, true, true, false, false, false, true]
          [.eq (.slice a1 (List.length p0) c1), .eq (.int .i64 s1), .is fun v w => ElemP w (fun k => k < w1i.heap.size) v (x1 : D.Gate), .eq (.agg #[.int .i64 x1.A, .int .i64 x1.B]), .eq (.slice a2 (List.length p1) c2), .eq (.int .i64 s1), .is fun v w => ElemP w (fun k => k < w1i.heap.size) v (x2 : D.Gate), .eq (.agg #[.int .i64 x2.A, .int .i64 x2.B]), .eq (.bool x3), .eq (.bool (!x3))]
          [(0, .slice a1 (List.length p0) c1), (1, .slice a2 (List.length p1) c2), (5, .int .i64 s1), (26, .bool (!x3))] mix hF (by kernel_rfl) (by kernel_rfl) (by kernel_rfl) (by kernel_rfl) ⟨(Pd.monoO_is mono_elem), Pd.monoO_eq, (Pd.monoO_is mono_elem), Pd.monoO_eq, Pd.monoO_eq, trivial⟩ (fun ow hG => ⟨np_to ow (np_index hG hF ty59 Try.underlying26 rfl rfl (RV.sub (ra0) fun k hk _ => hk) rfl rfl (fun hg => ⟨get?_nn hx1, get?_at hx1⟩)), np_to ow (np_loadF (z := x1) (i := 2) hG hF ty59 rfl rfl rfl rfl rfl rfl rfl), np_to ow (np_index hG hF ty59 Try.underlying26 rfl rfl (RV.sub (ra1) fun k hk _ => hk) rfl rfl (fun hg => ⟨get?_nn hx2, get?_at hx2⟩)), np_to ow (np_loadF (z := x2) (i := 6) hG hF ty59 rfl rfl rfl rfl rfl rfl rfl), np_to ow (np_call [.agg #[.int .i64 x1.A, .int .i64 x1.B], .agg #[.int .i64 x2.A, .int .i64 x2.B]] hG hF Try.call87 rfl rfl (fun w hC hg => (laws_eqGate_ok x1 x2 hx3).mono fun e w' ⟨v, he, hv, hc⟩ => ⟨v, he, hc, hv⟩)), trivial⟩) (by kernel_rfl) fun ow fr w1 hF hE hc => ?_)
      have ra0 := ra0.ext hc
      have ra1 := ra1.ext hc
      have hs := hs.ext hc
      have hM1 := hM1.ext hc
      refine from_end rfl (then_normal ?_)
      refine (wp_if hF (b := (!x3)) rfl (fun hb => ?_) (fun hb => ?_))
      · replace h := iteT hb h
        refine wp_seq (wp_pure [(4, .bool false)] hF (by kernel_rfl) fun fr hF => then_normal ?_)
        obtain rfl := hr1 _ (Option.some.inj h).symm
        obtain rfl := Option.some.inj hk1
        exact wp_ret (blk_ret (then_ret (then_ret (blk_ret (then_ret (ret1 rfl hF rfl ⟨_, rfl, rfl, (hM0.trans hM1).chg⟩))))))
      replace h := iteF hb h
      refine (wp_skip ?_)
      refine blk_normal (then_normal ?_)
      refine (wp_pure [(0, .slice a1 (List.length p0) c1), (1, .slice a2 (List.length p1) c2), (5, .int .i64 (w64 (s1 + 1)))] hF (by kernel_rfl) fun fr hF => then_normal ?_)
      exact ⟨_, (Option.some.inj h).symm, S1, _, hF.sub _ (by kernel_rfl), hM1, hs⟩
    replace h := iteF hb h
    refine (wp_exit (then_exit (then_exit (blk_exit_eq ?_))))
    obtain rfl := hr1 _ (Option.some.inj h).symm
    exact then_normal ⟨_, rfl, S1, _, hF.sub _ (by kernel_rfl), hM1, hs⟩
  · obtain ⟨s1r, rfl, hM⟩ := hM
    obtain ⟨S2, F2, hF, hMx, hs⟩ := hM
    have hM0 := hM0.trans hMx
    refine wp_seq (wp_pure [(4, .bool true)] hF (by kernel_rfl) fun fr hF => then_normal ?_)
    obtain rfl := Option.some.inj h
    exact wp_ret (ret1 rfl hF rfl ⟨_, rfl, rfl, hM0.chg⟩)

theorem laws_eqCircuit_ok (n : Nat) (p0 : D.Circuit) (p1 : D.Circuit) {r : Bool} (h : laws_eqCircuit n p0 p1 = some r) {w : World} {G0 : Nat → Prop} {va0 : Value} (ra0 : RV w G0 va0 p0) {G1 : Nat → Prop} {va1 : Value} (ra1 : RV w G1 va1 p1) :
    Calls Try.prog 16 [va0, va1].toArray w fun e w' => ∃ v, e = .returned v ∧ v = .bool r ∧ Chg Non w w' := by
  unfold laws_eqCircuit at h
  have hs := Sep.nil w Non
  have hM0 : Mem w Non (fun k => (G0 k ∨ G1 k) ∧ k < w.heap.size) w Non (fun k => (G0 k ∨ G1 k) ∧ k < w.heap.size) := Mem.start (fun _ h => h.elim) (fun _ h => h.2) (fun _ h => h.elim)
  have ra0 := ra0.sub (F' := (fun k => (G0 k ∨ G1 k) ∧ k < w.heap.size)) (fun k hk h => ⟨.inl h, hk⟩)
  obtain ⟨v1, rfl, r1⟩ := RV.Circuit ra0
  obtain ⟨a1, c1, rfl, -⟩ := r1.slice
  have ra1 := ra1.sub (F' := (fun k => (G0 k ∨ G1 k) ∧ k < w.heap.size)) (fun k hk h => ⟨.inr (h), hk⟩)
  obtain ⟨v2, rfl, r2⟩ := RV.Circuit ra1
  obtain ⟨a2, c2, rfl, -⟩ := r2.slice
  refine enter (N := 16) Try.func16 rfl Try.ntmps16 rfl fun fr hF => ?_
  refine wp_seq (wp_text' ?_)
  refine q_box hs hM0 [.int .i64 p0.Inputs, .slice a1 (List.length p0.Gates) c1] rfl rfl hF rfl rfl fun b1 w1 S1 fr hs hp hF => ?_
  have r1 := r1.stp hM0 hp
  have r2 := r2.stp hM0 hp
  have hM0 := hM0.stp hp
  have hs : Sep [BX b1 28 [.int .i64 p0.Inputs, .slice a1 (List.length p0.Gates) c1]] w1 S1 := hs
  refine q_box hs hM0 [.int .i64 p1.Inputs, .slice a2 (List.length p1.Gates) c2] rfl rfl hF rfl rfl fun b2 w2 S2 fr hs hp hF => ?_
  have r2 := r2.stp hM0 hp
  have r1 := r1.stp hM0 hp
  have hM0 := hM0.stp hp
  have hs : Sep [BX b2 28 [.int .i64 p1.Inputs, .slice a2 (List.length p1.Gates) c2], BX b1 28 [.int .i64 p0.Inputs, .slice a1 (List.length p0.Gates) c1]] w2 S2 := hs
  refine from_pure 1 [(2, .pointer (some ⟨b1, 0, none⟩)), (3, .pointer (some ⟨b2, 0, none⟩))] hF (by kernel_rfl) fun fr hF => ?_
  refine from_end rfl (then_normal ?_)
  refine wp_seq ?_
  refine wp_seq (wp_text' ?_)
  refine from_pure 1 [(2, .pointer (some ⟨b1, 0, none⟩)), (3, .pointer (some ⟨b2, 0, none⟩)), (5, .pointer (some ⟨b1, 0, none⟩))] hF (by kernel_rfl) fun fr hF => ?_
  refine s_loadBox (.int .i64 p0.Inputs) ty3 rfl rfl hF rfl (hs.bx 1 rfl) rfl rfl fun fr hF => ?_
  refine from_pure 1 [(2, .pointer (some ⟨b1, 0, none⟩)), (3, .pointer (some ⟨b2, 0, none⟩)), (6, .int .i64 p0.Inputs), (7, .pointer (some ⟨b2, 0, none⟩))] hF (by kernel_rfl) fun fr hF => ?_
  refine s_loadBox (.int .i64 p1.Inputs) ty3 rfl rfl hF rfl (hs.bx 0 rfl) rfl rfl fun fr hF => ?_
  refine from_pure 1 [(2, .pointer (some ⟨b1, 0, none⟩)), (3, .pointer (some ⟨b2, 0, none⟩)), (9, .bool (p0.Inputs != p1.Inputs))] hF (by kernel_rfl) fun fr hF => ?_
  refine from_end rfl (then_normal ?_)
  refine (wp_if hF (b := (p0.Inputs != p1.Inputs)) rfl (fun hb => ?_) (fun hb => ?_))
  · replace h := iteT hb h
    have hs : Sep [] w2 S2 := Sep.pick [] hs (by decide) rfl
    refine wp_seq (wp_pure [(4, .bool false)] hF (by kernel_rfl) fun fr hF => then_normal ?_)
    obtain rfl := Option.some.inj h
    exact wp_ret (then_ret (ret1 rfl hF rfl ⟨_, rfl, rfl, hM0.chg⟩))
  replace h := iteF hb h
  refine (wp_skip (then_normal ?_))
  refine wp_seq ?_
  refine wp_seq (wp_text' ?_)
  refine from_pure 1 [(3, .pointer (some ⟨b2, 0, none⟩)), (10, .pointer (some ⟨b1, 1, none⟩))] hF (by kernel_rfl) fun fr hF => ?_
  refine s_loadBox (.slice a1 (List.length p0.Gates) c1) ty26 rfl rfl hF rfl (hs.bx 1 rfl) rfl rfl fun fr hF => ?_
  have hs : Sep [BX b2 28 [.int .i64 p1.Inputs, .slice a2 (List.length p1.Gates) c2]] w2 S2 := Sep.pick [0] hs (by decide) rfl
  refine from_pure 1 [(11, .slice a1 (List.length p0.Gates) c1), (12, .pointer (some ⟨b2, 1, none⟩))] hF (by kernel_rfl) fun fr hF => ?_
  refine s_loadBox (.slice a2 (List.length p1.Gates) c2) ty26 rfl rfl hF rfl (hs.bx 0 rfl) rfl rfl fun fr hF => ?_
  have hs : Sep [] w2 S2 := Sep.pick [] hs (by decide) rfl
  obtain ⟨x1, hx1, h⟩ := bindE h
  refine s_call [.slice a1 (List.length p0.Gates) c1, .slice a2 (List.length p1.Gates) c2] Try.call52 rfl rfl hF rfl (laws_eqGateS_ok n p0.Gates p1.Gates hx1 (r1) (r2)) fun v w3 fr hRes hF => ?_
  obtain ⟨rfl, hc⟩ := hRes
  have r1 := r1.ext hc
  have r2 := r2.ext hc
  have hs := hs.ext hc
  have hM0 := hM0.ext hc
  refine from_pure 1 [(15, .bool (!x1))] hF (by kernel_rfl) fun fr hF => ?_
  refine from_end rfl (then_normal ?_)
  refine (wp_if hF (b := (!x1)) rfl (fun hb => ?_) (fun hb => ?_))
  · replace h := iteT hb h
    refine wp_seq (wp_pure [(4, .bool false)] hF (by kernel_rfl) fun fr hF => then_normal ?_)
    obtain rfl := Option.some.inj h
    exact wp_ret (then_ret (ret1 rfl hF rfl ⟨_, rfl, rfl, hM0.chg⟩))
  replace h := iteF hb h
  refine (wp_skip (then_normal ?_))
  refine wp_seq (wp_pure [(4, .bool true)] hF (by kernel_rfl) fun fr hF => then_normal ?_)
  obtain rfl := Option.some.inj h
  exact wp_ret (ret1 rfl hF rfl ⟨_, rfl, rfl, hM0.chg⟩)

theorem laws_markGateS_ok (n : Nat) (p0 : List D.Gate) (p1 : Int) {r : Int × (List D.Gate)} (h : laws_markGateS n p0 p1 = some r) {w : World} {S0 F0 : Nat → Prop} {pa0 : Option Addr} {pn0 pc0 : Nat} (hs : Sep [SL (α := D.Gate) 59 (.slice pa0 pn0 pc0) p0] w S0) (hb : ∀ k, S0 k → k < w.heap.size) (hd : ∀ k, S0 k → F0 k → False) :
    Calls Try.prog 53 [.slice pa0 pn0 pc0, .int .i64 p1].toArray w fun e w' => ∃ v, e = .returned v ∧ v = .int .i64 r.1 ∧ ∃ S', Stp w S0 w' S' ∧ Sep [SL (α := D.Gate) 59 (.slice pa0 pn0 pc0) r.2] w' S' := by
  unfold laws_markGateS at h
  obtain ⟨hpn, hs⟩ := hs.relen 0 rfl
  subst hpn
  have hs : Sep [SL (α := D.Gate) 59 (.slice pa0 (List.length p0) pc0) p0] w S0 := hs
  have hM0 : Mem w S0 (fun k => F0 k ∧ k < w.heap.size) w S0 (fun k => F0 k ∧ k < w.heap.size) := Mem.start hb (fun _ h => h.2) (fun k h1 h2 => hd k h1 h2.1)
  refine enter (N := 27) Try.func53 rfl Try.ntmps53 rfl fun fr hF => ?_
  refine wp_seq (wp_pure [(0, .slice pa0 (List.length p0) pc0), (1, .int .i64 p1)] hF (by kernel_rfl) fun fr hF => then_normal ?_)
  refine wp_seq ?_
  refine wp_seq (wp_pure [(0, .slice pa0 (List.length p0) pc0), (1, .int .i64 p1), (5, .int .i64 0)] hF (by kernel_rfl) fun fr hF => then_normal ?_)
  obtain ⟨rl1, hit1, h⟩ := bindE h
  have hk1 := h
  refine (wp_cut (M := fun fr w' => ∃ S2 F2, FrS 27 [(1, .int .i64 rl1.1)] fr ∧ Mem w S0 (fun k => F0 k ∧ k < w.heap.size) w' S2 F2 ∧ Sep [SL (α := D.Gate) 59 (.slice pa0 (List.length p0) pc0) rl1.2] w' S2) (wp_block (wp_iter (Inv := fun s1 fr w' => ∃ S1 F1, FrS 27 [(0, .slice pa0 (List.length p0) pc0), (1, .int .i64 s1.1), (5, .int .i64 s1.2.1)] fr ∧ Mem w S0 (fun k => F0 k ∧ k < w.heap.size) w' S1 F1 ∧ Sep [SL (α := D.Gate) 59 (.slice pa0 (List.length p0) pc0) s1.2.2] w' S1) hit1 ⟨S0, _, hF.sub _ (by kernel_rfl), (Mem.start hM0.bd hM0.bdF hM0.dj), hs⟩ fun s1 q1 fr w1i hI h hr1 => ?_)) fun fr w1o hM => ?_)
  · obtain ⟨S1, F1, hF, hM1, hs⟩ := hI
    refine wp_seq ?_
    refine wp_seq (wp_pure [(0, .slice pa0 (List.length p0) pc0), (1, .int .i64 s1.1), (5, .int .i64 s1.2.1), (9, .bool (decide (s1.2.1 < (len p0))))] hF (by kernel_rfl) fun fr hF => then_normal ?_)
    refine (wp_if hF (b := (decide (s1.2.1 < (len p0)))) rfl (fun hb => ?_) (fun hb => ?_))
    · replace h := iteT hb h
      refine (wp_skip (then_normal ?_))
      refine wp_seq (wp_block ?_)
      refine wp_seq (wp_text' ?_)
      refine from_pure 3 [(0, .slice pa0 (List.length p0) pc0), (1, .int .i64 s1.1), (5, .int .i64 s1.2.1), (12, .slice pa0 (List.length p0) pc0), (13, .int .i64 s1.2.1), (14, .int .i64 s1.1)] hF (by kernel_rfl) fun fr hF => ?_
      obtain ⟨x1, hx1, h⟩ := bindE h
      obtain ⟨x2, hx2, h⟩ := bindE h
      refine q_setField (q := x1) (q' := ({ x1 with A := s1.1 } : D.Gate)) (off := 0) 0 hs hM1 rfl Try.underlying26 ty59 rfl rfl rfl rfl rfl hF rfl rfl rfl rfl (by kernel_rfl) rfl (by kernel_rfl) rfl hx1 rfl hx2 fun w1 S3 fr _ _ hs hp hF => ?_
      have hM1 := hM1.stp hp
      have hs : Sep [SL (α := D.Gate) 59 (.slice pa0 (List.length p0) pc0) x2] w1 S3 := hs
      refine from_end rfl (then_normal ?_)
      refine wp_seq (wp_pure [(0, .slice pa0 (List.length p0) pc0), (1, .int .i64 (w64 (s1.1 + 1))), (5, .int .i64 s1.2.1)] hF (by kernel_rfl) fun fr hF => then_normal ?_)
      refine wp_seq (wp_text' ?_)
      refine from_pure 3 [(0, .slice pa0 (List.length p0) pc0), (1, .int .i64 (w64 (s1.1 + 1))), (5, .int .i64 s1.2.1), (19, .slice pa0 (List.length p0) pc0), (20, .int .i64 s1.2.1), (21, .int .i64 (w64 (s1.1 + 1)))] hF (by kernel_rfl) fun fr hF => ?_
      obtain ⟨x3, hx3, h⟩ := bindE h
      obtain ⟨x4, hx4, h⟩ := bindE h
      refine q_setField (q := x3) (q' := ({ x3 with B := (w64 (s1.1 + 1)) } : D.Gate)) (off := 1) 0 hs hM1 rfl Try.underlying26 ty59 rfl rfl rfl rfl rfl hF rfl rfl rfl rfl (by kernel_rfl) rfl (by kernel_rfl) rfl hx3 rfl hx4 fun w2 S4 fr _ _ hs hp hF => ?_
      have hM1 := hM1.stp hp
      have hs : Sep [SL (α := D.Gate) 59 (.slice pa0 (List.length p0) pc0) x4] w2 S4 := hs
      refine from_end rfl (then_normal ?_)
      refine (wp_pure [(0, .slice pa0 (List.length p0) pc0), (1, .int .i64 (w64 ((w64 (s1.1 + 1)) + 1))), (5, .int .i64 s1.2.1)] hF (by kernel_rfl) fun fr hF => ?_)
      refine blk_normal (then_normal ?_)
      refine (wp_pure [(0, .slice pa0 (List.length p0) pc0), (1, .int .i64 (w64 ((w64 (s1.1 + 1)) + 1))), (5, .int .i64 (w64 (s1.2.1 + 1)))] hF (by kernel_rfl) fun fr hF => then_normal ?_)
      exact ⟨_, (Option.some.inj h).symm, S4, _, hF.sub _ (by kernel_rfl), hM1, hs⟩
    replace h := iteF hb h
    refine (wp_exit (then_exit (then_exit (blk_exit_eq ?_))))
    obtain rfl := hr1 _ (Option.some.inj h).symm
    exact then_normal ⟨S1, _, hF.sub _ (by kernel_rfl), hM1, hs⟩
  · obtain ⟨S2, F2, hF, hMx, hs⟩ := hM
    have hM0 := hM0.trans hMx
    refine wp_seq (wp_pure [(4, .int .i64 rl1.1)] hF (by kernel_rfl) fun fr hF => then_normal ?_)
    obtain rfl := Option.some.inj h
    exact wp_ret (ret1 rfl hF rfl ⟨_, rfl, rfl, S2, hM0.out, hs⟩)

theorem laws_markCircuit_ok (n : Nat) (p0 : D.Circuit) (p1 : Int) {r : Int × D.Circuit} (h : laws_markCircuit n p0 p1 = some r) {w : World} {S0 F0 : Nat → Prop} {pa0 : Option Addr} {pn0 pc0 : Nat} (hs : Sep [SL (α := D.Gate) 59 (.slice pa0 pn0 pc0) p0.Gates] w S0) (hb : ∀ k, S0 k → k < w.heap.size) (hd : ∀ k, S0 k → F0 k → False) :
    Calls Try.prog 17 [.agg #[.int .i64 p0.Inputs, .slice pa0 pn0 pc0], .int .i64 p1].toArray w fun e w' => ∃ v, e = .returned v ∧ v = .int .i64 r.1 ∧ ∃ S', Stp w S0 w' S' ∧ Sep [SL (α := D.Gate) 59 (.slice pa0 pn0 pc0) r.2.Gates] w' S' := by
  unfold laws_markCircuit at h
  obtain ⟨hpn, hs⟩ := hs.relen 0 rfl
  subst hpn
  have hs : Sep [SL (α := D.Gate) 59 (.slice pa0 (List.length p0.Gates) pc0) p0.Gates] w S0 := hs
  have hM0 : Mem w S0 (fun k => F0 k ∧ k < w.heap.size) w S0 (fun k => F0 k ∧ k < w.heap.size) := Mem.start hb (fun _ h => h.2) (fun k h1 h2 => hd k h1 h2.1)
  refine enter (N := 10) Try.func17 rfl Try.ntmps17 rfl fun fr hF => ?_
  refine wp_seq (wp_text' ?_)
  refine q_box hs hM0 [.int .i64 p0.Inputs, .slice pa0 (List.length p0.Gates) pc0] rfl rfl hF rfl rfl fun b1 w1 S1 fr hs hp hF => ?_
  have hM0 := hM0.stp hp
  have hs : Sep [BX b1 28 [.int .i64 p0.Inputs, .slice pa0 (List.length p0.Gates) pc0], SL (α := D.Gate) 59 (.slice pa0 (List.length p0.Gates) pc0) p0.Gates] w1 S1 := hs
  refine from_pure 1 [(1, .int .i64 p1), (2, .pointer (some ⟨b1, 0, none⟩))] hF (by kernel_rfl) fun fr hF => ?_
  refine from_end rfl (then_normal ?_)
  refine wp_seq (wp_text' ?_)
  refine from_pure 1 [(1, .int .i64 p1), (5, .pointer (some ⟨b1, 1, none⟩))] hF (by kernel_rfl) fun fr hF => ?_
  refine s_loadBox (.slice pa0 (List.length p0.Gates) pc0) ty26 rfl rfl hF rfl (hs.bx 0 rfl) rfl rfl fun fr hF => ?_
  have hs : Sep [SL (α := D.Gate) 59 (.slice pa0 (List.length p0.Gates) pc0) p0.Gates] w1 S1 := Sep.pick [1] hs (by decide) rfl
  refine from_pure 1 [(6, .slice pa0 (List.length p0.Gates) pc0), (7, .int .i64 p1)] hF (by kernel_rfl) fun fr hF => ?_
  obtain ⟨x1, hx1, h⟩ := bindE h
  obtain ⟨A1, R1, hsA, hsR, hdA, hbA, hup⟩ := Sep.call (L1 := [SL (α := D.Gate) 59 (.slice pa0 (List.length p0.Gates) pc0) p0.Gates]) (L2 := []) hs hM0
  refine s_call [.slice pa0 (List.length p0.Gates) pc0, .int .i64 p1] Try.call53 rfl rfl hF rfl (laws_markGateS_ok n p0.Gates p1 hx1 hsA hbA hdA) fun v w2 fr hRes hF => ?_
  obtain ⟨rfl, _, hp, hs⟩ := hRes
  obtain ⟨S2, hp, hs⟩ := hup hp hs
  have hM0 := hM0.stp hp
  have hs : Sep [SL (α := D.Gate) 59 (.slice pa0 (List.length p0.Gates) pc0) x1.2] w2 S2 := hs
  refine from_pure 1 [(1, .int .i64 x1.1)] hF (by kernel_rfl) fun fr hF => ?_
  refine from_end rfl (then_normal ?_)
  refine wp_seq (wp_pure [(4, .int .i64 x1.1)] hF (by kernel_rfl) fun fr hF => then_normal ?_)
  obtain rfl := Option.some.inj h
  exact wp_ret (ret1 rfl hF rfl ⟨_, rfl, rfl, S2, hM0.out, hs⟩)

theorem laws_heldGateS_ok (n : Nat) (p0 : List D.Gate) (p1 : Int) {r : Int} (h : laws_heldGateS n p0 p1 = some r) {w : World} {G0 : Nat → Prop} {va0 : Value} (ra0 : RV w G0 va0 p0) :
    Calls Try.prog 54 [va0, .int .i64 p1].toArray w fun e w' => ∃ v, e = .returned v ∧ v = .int .i64 r ∧ Chg Non w w' := by
  unfold laws_heldGateS at h
  have hs := Sep.nil w Non
  have hM0 : Mem w Non (fun k => (G0 k) ∧ k < w.heap.size) w Non (fun k => (G0 k) ∧ k < w.heap.size) := Mem.start (fun _ h => h.elim) (fun _ h => h.2) (fun _ h => h.elim)
  have ra0 := ra0.sub (F' := (fun k => (G0 k) ∧ k < w.heap.size)) (fun k hk h => ⟨h, hk⟩)
  obtain ⟨a1, c1, rfl, -⟩ := ra0.slice
  refine enter (N := 31) Try.func54 rfl Try.ntmps54 rfl fun fr hF => ?_
  refine wp_seq (wp_pure [(0, .slice a1 (List.length p0) c1), (1, .int .i64 p1)] hF (by kernel_rfl) fun fr hF => then_normal ?_)
  refine wp_seq ?_
  refine wp_seq (wp_pure [(0, .slice a1 (List.length p0) c1), (1, .int .i64 p1), (5, .int .i64 0)] hF (by kernel_rfl) fun fr hF => then_normal ?_)
  obtain ⟨rl1, hit1, h⟩ := bindE h
  have hk1 := h
  refine (wp_cut (M := fun fr w' => ∃ s, rl1 = .inl s ∧ ∃ S2 F2, FrS 31 [(1, .int .i64 s)] fr ∧ Mem w Non (fun k => (G0 k) ∧ k < w.heap.size) w' S2 F2 ∧ Sep [] w' S2) (wp_block (wp_iter (Inv := fun s1 fr w' => ∃ S1 F1, FrS 31 [(0, .slice a1 (List.length p0) c1), (1, .int .i64 s1.1), (5, .int .i64 s1.2)] fr ∧ Mem w Non (fun k => (G0 k) ∧ k < w.heap.size) w' S1 F1 ∧ Sep [] w' S1) hit1 ⟨Non, _, hF.sub _ (by kernel_rfl), (Mem.start hM0.bd hM0.bdF hM0.dj), hs⟩ fun s1 q1 fr w1i hI h hr1 => ?_)) fun fr w1o hM => ?_)
  · obtain ⟨S1, F1, hF, hM1, hs⟩ := hI
    have ra0 := ra0.mem hM1
    refine wp_seq ?_
    refine wp_seq (wp_pure [(0, .slice a1 (List.length p0) c1), (1, .int .i64 s1.1), (5, .int .i64 s1.2), (9, .bool (decide (s1.2 < (len p0))))] hF (by kernel_rfl) fun fr hF => then_normal ?_)
    refine (wp_if hF (b := (decide (s1.2 < (len p0)))) rfl (fun hb => ?_) (fun hb => ?_))
    · replace h := iteT hb h
      refine (wp_skip (then_normal ?_))
      refine wp_seq (wp_block ?_)
      refine wp_seq ?_
      refine wp_seq (wp_text' ?_)
      refine from_pure 2 [(0, .slice a1 (List.length p0) c1), (1, .int .i64 s1.1), (5, .int .i64 s1.2), (12, .slice a1 (List.length p0) c1), (13, .int .i64 s1.2)] hF (by kernel_rfl) fun fr hF => ?_
      obtain ⟨x1, hx1, h⟩ := bindE h
      refine s_elemField (z := x1) (u := .int .i64 x1.A) ty59 Try.underlying26 ty3 rfl rfl rfl rfl rfl rfl hF rfl (ra0) rfl (get?_nn hx1) (get?_at hx1) rfl rfl rfl fun p p2 fr hF => ?_
      refine from_pure 2 [(0, .slice a1 (List.length p0) c1), (1, .int .i64 s1.1), (5, .int .i64 s1.2), (18, .bool (x1.A != s1.1))] hF (by kernel_rfl) fun fr hF => ?_
      refine from_end rfl (then_normal ?_)
      refine (wp_if hF (b := (x1.A != s1.1)) rfl (fun hb => ?_) (fun hb => ?_))
      · replace h := iteT hb h
        refine wp_seq (wp_pure [(4, .int .i64 (-1))] hF (by kernel_rfl) fun fr hF => then_normal ?_)
        obtain rfl := hr1 _ (Option.some.inj h).symm
        obtain rfl := Option.some.inj hk1
        exact wp_ret (then_ret (blk_ret (then_ret (then_ret (blk_ret (then_ret (ret1 rfl hF rfl ⟨_, rfl, rfl, (hM0.trans hM1).chg⟩)))))))
      replace h := iteF hb h
      refine (wp_skip (then_normal ?_))
      refine wp_seq (wp_pure [(0, .slice a1 (List.length p0) c1), (1, .int .i64 (w64 (s1.1 + 1))), (5, .int .i64 s1.2)] hF (by kernel_rfl) fun fr hF => then_normal ?_)
      refine wp_seq ?_
      refine wp_seq (wp_text' ?_)
      refine from_pure 2 [(0, .slice a1 (List.length p0) c1), (1, .int .i64 (w64 (s1.1 + 1))), (5, .int .i64 s1.2), (21, .slice a1 (List.length p0) c1), (22, .int .i64 s1.2)] hF (by kernel_rfl) fun fr hF => ?_
      obtain ⟨x2, hx2, h⟩ := bindE h
      refine s_elemField (z := x2) (u := .int .i64 x2.B) ty59 Try.underlying26 ty3 rfl rfl rfl rfl rfl rfl hF rfl (ra0) rfl (get?_nn hx2) (get?_at hx2) rfl rfl rfl fun p p2 fr hF => ?_
      refine from_pure 2 [(0, .slice a1 (List.length p0) c1), (1, .int .i64 (w64 (s1.1 + 1))), (5, .int .i64 s1.2), (27, .bool (x2.B != (w64 (s1.1 + 1))))] hF (by kernel_rfl) fun fr hF => ?_
      refine from_end rfl (then_normal ?_)
      refine (wp_if hF (b := (x2.B != (w64 (s1.1 + 1)))) rfl (fun hb => ?_) (fun hb => ?_))
      · replace h := iteT hb h
        refine wp_seq (wp_pure [(4, .int .i64 (-1))] hF (by kernel_rfl) fun fr hF => then_normal ?_)
        obtain rfl := hr1 _ (Option.some.inj h).symm
        obtain rfl := Option.some.inj hk1
        exact wp_ret (then_ret (blk_ret (then_ret (then_ret (blk_ret (then_ret (ret1 rfl hF rfl ⟨_, rfl, rfl, (hM0.trans hM1).chg⟩)))))))
      replace h := iteF hb h
      refine (wp_skip (then_normal ?_))
      refine (wp_pure [(0, .slice a1 (List.length p0) c1), (1, .int .i64 (w64 ((w64 (s1.1 + 1)) + 1))), (5, .int .i64 s1.2)] hF (by kernel_rfl) fun fr hF => ?_)
      refine blk_normal (then_normal ?_)
      refine (wp_pure [(0, .slice a1 (List.length p0) c1), (1, .int .i64 (w64 ((w64 (s1.1 + 1)) + 1))), (5, .int .i64 (w64 (s1.2 + 1)))] hF (by kernel_rfl) fun fr hF => then_normal ?_)
      exact ⟨_, (Option.some.inj h).symm, S1, _, hF.sub _ (by kernel_rfl), hM1, hs⟩
    replace h := iteF hb h
    refine (wp_exit (then_exit (then_exit (blk_exit_eq ?_))))
    obtain rfl := hr1 _ (Option.some.inj h).symm
    exact then_normal ⟨_, rfl, S1, _, hF.sub _ (by kernel_rfl), hM1, hs⟩
  · obtain ⟨s1r, rfl, hM⟩ := hM
    obtain ⟨S2, F2, hF, hMx, hs⟩ := hM
    have hM0 := hM0.trans hMx
    refine wp_seq (wp_pure [(4, .int .i64 s1r)] hF (by kernel_rfl) fun fr hF => then_normal ?_)
    obtain rfl := Option.some.inj h
    exact wp_ret (ret1 rfl hF rfl ⟨_, rfl, rfl, hM0.chg⟩)

theorem laws_heldCircuit_ok (n : Nat) (p0 : D.Circuit) (p1 : Int) {r : Int} (h : laws_heldCircuit n p0 p1 = some r) {w : World} {G0 : Nat → Prop} {va0 : Value} (ra0 : RV w G0 va0 p0) :
    Calls Try.prog 18 [va0, .int .i64 p1].toArray w fun e w' => ∃ v, e = .returned v ∧ v = .int .i64 r ∧ Chg Non w w' := by
  unfold laws_heldCircuit at h
  have hs := Sep.nil w Non
  have hM0 : Mem w Non (fun k => (G0 k) ∧ k < w.heap.size) w Non (fun k => (G0 k) ∧ k < w.heap.size) := Mem.start (fun _ h => h.elim) (fun _ h => h.2) (fun _ h => h.elim)
  have ra0 := ra0.sub (F' := (fun k => (G0 k) ∧ k < w.heap.size)) (fun k hk h => ⟨h, hk⟩)
  obtain ⟨v1, rfl, r1⟩ := RV.Circuit ra0
  obtain ⟨a1, c1, rfl, -⟩ := r1.slice
  refine enter (N := 12) Try.func18 rfl Try.ntmps18 rfl fun fr hF => ?_
  refine wp_seq (wp_text' ?_)
  refine q_box hs hM0 [.int .i64 p0.Inputs, .slice a1 (List.length p0.Gates) c1] rfl rfl hF rfl rfl fun b1 w1 S1 fr hs hp hF => ?_
  have r1 := r1.stp hM0 hp
  have hM0 := hM0.stp hp
  have hs : Sep [BX b1 28 [.int .i64 p0.Inputs, .slice a1 (List.length p0.Gates) c1]] w1 S1 := hs
  refine from_pure 1 [(1, .int .i64 p1), (2, .pointer (some ⟨b1, 0, none⟩))] hF (by kernel_rfl) fun fr hF => ?_
  refine from_end rfl (then_normal ?_)
  refine wp_seq (wp_text' ?_)
  refine from_pure 1 [(1, .int .i64 p1), (5, .pointer (some ⟨b1, 1, none⟩))] hF (by kernel_rfl) fun fr hF => ?_
  refine s_loadBox (.slice a1 (List.length p0.Gates) c1) ty26 rfl rfl hF rfl (hs.bx 0 rfl) rfl rfl fun fr hF => ?_
  have hs : Sep [] w1 S1 := Sep.pick [] hs (by decide) rfl
  refine from_pure 1 [(6, .slice a1 (List.length p0.Gates) c1), (7, .int .i64 p1)] hF (by kernel_rfl) fun fr hF => ?_
  obtain ⟨x1, hx1, h⟩ := bindE h
  refine s_call [.slice a1 (List.length p0.Gates) c1, .int .i64 p1] Try.call54 rfl rfl hF rfl (laws_heldGateS_ok n p0.Gates p1 hx1 (r1)) fun v w2 fr hRes hF => ?_
  obtain ⟨rfl, hc⟩ := hRes
  have r1 := r1.ext hc
  have hs := hs.ext hc
  have hM0 := hM0.ext hc
  refine from_pure 1 [(1, .int .i64 x1)] hF (by kernel_rfl) fun fr hF => ?_
  refine from_end rfl (then_normal ?_)
  refine wp_seq ?_
  refine wp_seq (wp_pure [(1, .int .i64 x1), (10, .bool (decide (x1 < 0)))] hF (by kernel_rfl) fun fr hF => then_normal ?_)
  refine (wp_if hF (b := (decide (x1 < 0))) rfl (fun hb => ?_) (fun hb => ?_))
  · replace h := iteT hb h
    refine wp_seq (wp_pure [(4, .int .i64 (-1))] hF (by kernel_rfl) fun fr hF => then_normal ?_)
    obtain rfl := Option.some.inj h
    exact wp_ret (then_ret (ret1 rfl hF rfl ⟨_, rfl, rfl, hM0.chg⟩))
  replace h := iteF hb h
  refine (wp_skip (then_normal ?_))
  refine wp_seq (wp_pure [(4, .int .i64 x1)] hF (by kernel_rfl) fun fr hF => then_normal ?_)
  obtain rfl := Option.some.inj h
  exact wp_ret (ret1 rfl hF rfl ⟨_, rfl, rfl, hM0.chg⟩)
end Go.Proofs.Ytckeihpjfeonmaa
