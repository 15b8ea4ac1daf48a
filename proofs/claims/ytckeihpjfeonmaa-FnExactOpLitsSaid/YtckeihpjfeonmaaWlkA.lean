/- Printed by gen2.py: the walks. -/
import Derived.Test.YtckeihpjfeonmaaGLt
import Derived.Test.YtckeihpjfeonmaaGLl
import Derived.Test.YtckeihpjfeonmaaDefs
import Derived.Test.YtckeihpjfeonmaaProg
import Derived.KernelRfl
import Derived.DeepKeys4
set_option linter.unusedVariables false
set_option maxRecDepth 100000
namespace Go.Proofs.Ytckeihpjfeonmaa
open Go.GL Go.Maps Go.WideMaps
abbrev I (x : Int) : Value := .int .i64 x
abbrev L {α : Type} (a : Option Addr) (l : List α) (c : Nat) : Value := .slice a (List.length l) c
abbrev B (b n : Nat) : Value := .pointer (some ⟨b, n, none⟩)
abbrev sl3 : Value → List Int → HP := SL 3
abbrev sl59 : Value → List D.Gate → HP := SL 59
theorem mix : Try.prog.follows .mixedOrders = true := by kernel_rfl
theorem ty3 : Ty Try.prog 3 Int := ⟨by kernel_rfl, by kernel_rfl⟩
theorem ty4 : Ty Try.prog 4 Bool := ⟨by kernel_rfl, by kernel_rfl⟩
theorem ty22 : Ty Try.prog 22 (List D.Gate) := ⟨by kernel_rfl, by kernel_rfl⟩
theorem ty24 : Ty Try.prog 24 D.Circuit := ⟨by kernel_rfl, by kernel_rfl⟩
theorem ty26 : Ty Try.prog 26 (List D.Gate) := ⟨by kernel_rfl, by kernel_rfl⟩
theorem ty28 : Ty Try.prog 28 D.Circuit := ⟨by kernel_rfl, by kernel_rfl⟩
theorem ty59 : Ty Try.prog 59 D.Gate := ⟨by kernel_rfl, by kernel_rfl⟩
theorem ty81 : Ty Try.prog 81 Int := ⟨by kernel_rfl, by kernel_rfl⟩
theorem ty97 : Ty Try.prog 97 D.Gate := ⟨by kernel_rfl, by kernel_rfl⟩
theorem el3 : ElT Try.prog 3 Int := elT (by kernel_rfl)
theorem el59 : ElT Try.prog 59 D.Gate := elT (by kernel_rfl)
theorem eqi59_3 (d : Nat) (a c : Int) (w : World) : (Op.equalIn (d + 1) 3 (.int .i64 a) (.int .i64 c)).run Try.prog w = .ok (a == c) w := by
  unfold Op.equalIn
  simp [run_underlying Try.underlying3]
theorem eqd59 (n : Nat) (x y : D.Gate) (w : World) : (Op.equalIn (n + 1 + 1) 59 (.agg #[.int .i64 x.A, .int .i64 x.B]) (.agg #[.int .i64 y.A, .int .i64 y.B])).run Try.prog w = .ok (decide (x = y)) w := by
  have hs : Try.prog.stoodInHeld 59 = false := by kernel_rfl
  unfold Op.equalIn
  obtain ⟨x0, x1⟩ := x; obtain ⟨y0, y1⟩ := y
  simp only [D.Gate.mk.injEq]
  by_cases h0 : x0 = y0 <;> by_cases h1 : x1 = y1 <;> simp [run_underlying Try.underlying59, hs, eqi59_3, part, h0, h1]
theorem eq59 (x y : D.Gate) (w : World) : (binOp .eql 59 (.agg #[.int .i64 x.A, .int .i64 x.B]) (.agg #[.int .i64 y.A, .int .i64 y.B])).run Try.prog w = .ok (.bool (decide (x = y))) w := by
  have h := eqd59 9998 x y w
  simp only [binOp, Op.equal, Op.maxDepth, Sem.run_bind, Sem.run_pure]
  rw [h]; rfl
theorem eqg59 (x y : Operand) (a b : Array Value) (w : World) : (eqGuard .eql 59 x y (.agg a) (.agg b)).run Try.prog w = .ok () w := by
  have hg : Try.prog.eqGuardType Try.prog.depth 59 = false := by kernel_rfl
  simp [eqGuard, hg]
theorem laidOut : laidOutB Try.prog = true := by kernel_rfl
theorem keyed59 : Keyed Try.prog 59 := Keyed.of_law (deep_law_laid laidOut (m := 3) (by omega) (of_decide_eq_true (by kernel_rfl)) (by kernel_rfl) (by kernel_rfl))
theorem lits3 (n : Nat) {a : Int} (h : (Lit.int .i64 a).wf = true) : Try.prog.keyLits (n + 1) 3 [.int .i64 a] = some [.int .i64 a] := by
  unfold Program.keyLits
  rw [Try.underlying3]
  simp [h]
theorem lits59 (n : Nat) (x : D.Gate) (hA : (Lit.int .i64 x.A).wf = true) (hB : (Lit.int .i64 x.B).wf = true) : Try.prog.keyLits (n + 1 + 1) 59 [.int .i64 x.A, .int .i64 x.B] = some [.int .i64 x.A, .int .i64 x.B] := by
  have hc : Try.prog.cellsOf 59 = 2 := by kernel_rfl
  have hc3 : Try.prog.cellsOf 3 = 1 := by kernel_rfl
  unfold Program.keyLits
  rw [Try.underlying59]
  simp [hc, hc3, lits3 n hA, lits3 n hB]
theorem key59 (x : D.Gate) (hA : (Lit.int .i64 x.A).wf = true) (hB : (Lit.int .i64 x.B).wf = true) : keyOf Try.prog 59 (.agg #[.int .i64 x.A, .int .i64 x.B]) = some (.string (keyBytes [.int .i64 x.A, .int .i64 x.B])) := by
  have h1 : Try.prog.keyType 59 = true := by kernel_rfl
  have h2 : ∀ x : D.Gate, (Value.agg #[.int .i64 x.A, .int .i64 x.B]).formed Try.prog 59 = true := by intro x; kernel_rfl
  obtain ⟨n, hs⟩ : ∃ n, Try.prog.types.size = n + 1 := ⟨Try.prog.types.size - 1, (Nat.succ_pred_eq_of_pos (of_decide_eq_true (by kernel_rfl))).symm⟩
  have hl := lits59 n x hA hB
  unfold keyOf
  rw [Try.underlying59]
  simp only [h1, h2, Bool.and_self, if_true, hs, Value.cells]
  rw [hl]; rfl
theorem back3 (v : Value) (y : Int) (ps : List MemPlace) (h : plainElem (H := Unit) Try.prog 3 v = some (.lit (.int .i64 y), ps)) : v = .int .i64 y := by
  obtain ⟨c, rfl, hc, _⟩ := plainElem_int_inv Try.underlying3 h
  simp only [Prod.mk.injEq, DataW.lit.injEq, Lit.int.injEq] at hc
  rw [hc.1.2]
def map81 : MapT Try.prog 59 3 D.Gate Int where
  fit := fitK_Gate
  lit x := .string (keyBytes [.int .i64 x.A, .int .i64 x.B])
  dv y := .lit (.int .i64 y)
  zero := 0
  efit := fitZ
  zfit := by kernel_rfl
  keyed := keyed59
  key x h := by
    simp only [fitK_Gate, fitZ, Bool.and_eq_true] at h
    exact key59 x h.1 h.2
  inj x y hx hy h := by
    simp only [fitK_Gate, fitZ, Bool.and_eq_true] at hx hy
    have h1 := key59 x hx.1 hx.2
    have h2 := key59 y hy.1 hy.2
    rw [← h] at h2
    have h3 := keyed59.inj h1 h2
    cases x; cases y
    simpa using h3
  elem y h := plainElem_int Try.underlying3 (by simpa [fitZ] using h)
  back v y ps h := back3 v y ps h
  hz w := by
    show (zeroValue 3).run Try.prog w = .ok (.int .i64 0) w
    have hz : (Try.prog.info? 3).map (·.zero) = some (some (.int .i64 0)) := by kernel_rfl
    cases hi : Try.prog.info? 3 with
    | none => rw [hi] at hz; cases hz
    | some i =>
      rw [hi] at hz
      simp only [Option.map_some, Option.some.injEq] at hz
      simp [zeroValue, typeInfo, hi, hz]
theorem back4 (v : Value) (y : Bool) (ps : List MemPlace) (h : plainElem (H := Unit) Try.prog 4 v = some (.lit (.bool y), ps)) : v = .bool y := by
  unfold plainElem at h
  rw [Try.underlying4] at h
  split at h <;> simp_all
def map91 : MapT Try.prog 59 4 D.Gate Bool where
  fit := fitK_Gate
  lit x := .string (keyBytes [.int .i64 x.A, .int .i64 x.B])
  dv y := .lit (.bool y)
  zero := false
  efit := fun _ => true
  zfit := by kernel_rfl
  keyed := keyed59
  key x h := by
    simp only [fitK_Gate, fitZ, Bool.and_eq_true] at h
    exact key59 x h.1 h.2
  inj x y hx hy h := by
    simp only [fitK_Gate, fitZ, Bool.and_eq_true] at hx hy
    have h1 := key59 x hx.1 hx.2
    have h2 := key59 y hy.1 hy.2
    rw [← h] at h2
    have h3 := keyed59.inj h1 h2
    cases x; cases y
    simpa using h3
  elem y _ := plainElem_bool Try.underlying4 y
  back v y ps h := back4 v y ps h
  hz w := by
    show (zeroValue 4).run Try.prog w = .ok (.bool false) w
    have hz : (Try.prog.info? 4).map (·.zero) = some (some (.bool false)) := by kernel_rfl
    cases hi : Try.prog.info? 4 with
    | none => rw [hi] at hz; cases hz
    | some i =>
      rw [hi] at hz
      simp only [Option.map_some, Option.some.injEq] at hz
      simp [zeroValue, typeInfo, hi, hz]

theorem laws_szGateS_ok (p0 : List D.Gate) (p1 : Int) {r : Int} (h : laws_szGateS p0 p1 = some r) {w : World} {G0 : Nat → Prop} {va0 : Value} (ra0 : RV w G0 va0 p0) :
   Calls Try.prog 42 [va0, I p1].toArray w fun e w' => ∃ v, e = .returned v ∧ v = I r ∧ Chg Non w w' := by
 unfold laws_szGateS at h
 have hs := Sep.nil w Non
 have hM0 : Mem w Non (fun k => (G0 k) ∧ k < w.heap.size) w Non (fun k => (G0 k) ∧ k < w.heap.size) := Mem.start (fun _ h => h.elim) (fun _ h => h.2) (fun _ h => h.elim)
 have ra0 := ra0.sub (F' := (fun k => (G0 k) ∧ k < w.heap.size)) (fun k hk h => ⟨h, hk⟩)
 obtain ⟨a1, c1, rfl, -⟩ := ra0.slice
 refine enter (N := 12) Try.func42 rfl Try.ntmps42 rfl fun fr hF => ?_
 refine wp_seq (wp_pure [(0, L a1 p0 c1), (1, I p1)] hF (by kernel_rfl) fun fr hF => then_normal ?_)
 refine wp_seq (wp_pure [(1, I (w64 (p1 - (len p0))))] hF (by kernel_rfl) fun fr hF => then_normal ?_)
 refine wp_seq ?_
 refine wp_seq (wp_pure [(1, I (w64 (p1 - (len p0)))), (10, .bool (decide ((w64 (p1 - (len p0))) < 0)))] hF (by kernel_rfl) fun fr hF => then_normal ?_)
 refine (wp_if hF (b := (decide ((w64 (p1 - (len p0))) < 0))) rfl (fun hb => ?_) (fun hb => ?_))
 · replace h := iteT hb h
   refine wp_seq (wp_pure [(4, I (-1))] hF (by kernel_rfl) fun fr hF => then_normal ?_)
   obtain rfl := Option.some.inj h
   exact wp_ret (then_ret (ret1 rfl hF rfl ⟨_, rfl, rfl, hM0.chg⟩))
 replace h := iteF hb h
 refine (wp_skip (then_normal ?_))
 refine wp_seq (wp_pure [(4, I (w64 (p1 - (len p0))))] hF (by kernel_rfl) fun fr hF => then_normal ?_)
 obtain rfl := Option.some.inj h
 exact wp_ret (ret1 rfl hF rfl ⟨_, rfl, rfl, hM0.chg⟩)

theorem laws_szCircuit_ok (p0 : D.Circuit) (p1 : Int) {r : Int} (h : laws_szCircuit p0 p1 = some r) {w : World} {G0 : Nat → Prop} {va0 : Value} (ra0 : RV w G0 va0 p0) :
   Calls Try.prog 12 [va0, I p1].toArray w fun e w' => ∃ v, e = .returned v ∧ v = I r ∧ Chg Non w w' := by
 unfold laws_szCircuit at h
 have hs := Sep.nil w Non
 have hM0 : Mem w Non (fun k => (G0 k) ∧ k < w.heap.size) w Non (fun k => (G0 k) ∧ k < w.heap.size) := Mem.start (fun _ h => h.elim) (fun _ h => h.2) (fun _ h => h.elim)
 have ra0 := ra0.sub (F' := (fun k => (G0 k) ∧ k < w.heap.size)) (fun k hk h => ⟨h, hk⟩)
 obtain ⟨v1, rfl, r1⟩ := RV.Circuit ra0
 obtain ⟨a1, c1, rfl, -⟩ := r1.slice
 refine enter (N := 12) Try.func12 rfl Try.ntmps12 rfl fun fr hF => ?_
 refine wp_seq (wp_text' ?_)
 refine q_box hs hM0 [I p0.Inputs, L a1 p0.Gates c1] rfl rfl hF rfl rfl fun b1 w1 S1 fr hs hp hF => ?_
 have r1 := r1.stp hM0 hp
 have hM0 := hM0.stp hp
 have hs : Sep [BX b1 24 [I p0.Inputs, L a1 p0.Gates c1]] w1 S1 := hs
 refine from_pure 1 [(1, I p1), (2, B b1 0)] hF (by kernel_rfl) fun fr hF => ?_
 refine from_end rfl (then_normal ?_)
 refine wp_seq (wp_text' ?_)
 refine from_pure 1 [(1, I p1), (5, B b1 1)] hF (by kernel_rfl) fun fr hF => ?_
 refine s_loadBox (L a1 p0.Gates c1) ty22 rfl rfl hF rfl (hs.bx 0 rfl) rfl rfl fun fr hF => ?_
 have hs : Sep [] w1 S1 := Sep.pick [] hs (by decide) rfl
 refine from_pure 1 [(6, L a1 p0.Gates c1), (7, I p1)] hF (by kernel_rfl) fun fr hF => ?_
 obtain ⟨x1, hx1, h⟩ := bindE h
 refine s_call [L a1 p0.Gates c1, I p1] Try.call42 rfl rfl hF rfl (laws_szGateS_ok p0.Gates p1 hx1 (r1)) fun v w2 fr hRes hF => ?_
 obtain ⟨rfl, hc⟩ := hRes
 have r1 := r1.ext hc
 have hs := hs.ext hc
 have hM0 := hM0.ext hc
 refine from_pure 1 [(1, I x1)] hF (by kernel_rfl) fun fr hF => ?_
 refine from_end rfl (then_normal ?_)
 refine wp_seq ?_
 refine wp_seq (wp_pure [(1, I x1), (10, .bool (decide (x1 < 0)))] hF (by kernel_rfl) fun fr hF => then_normal ?_)
 refine (wp_if hF (b := (decide (x1 < 0))) rfl (fun hb => ?_) (fun hb => ?_))
 · replace h := iteT hb h
   refine wp_seq (wp_pure [(4, I (-1))] hF (by kernel_rfl) fun fr hF => then_normal ?_)
   obtain rfl := Option.some.inj h
   exact wp_ret (then_ret (ret1 rfl hF rfl ⟨_, rfl, rfl, hM0.chg⟩))
 replace h := iteF hb h
 refine (wp_skip (then_normal ?_))
 refine wp_seq (wp_pure [(4, I x1)] hF (by kernel_rfl) fun fr hF => then_normal ?_)
 obtain rfl := Option.some.inj h
 exact wp_ret (ret1 rfl hF rfl ⟨_, rfl, rfl, hM0.chg⟩)

theorem laws_toGate_ok (p0 : D.Gate) {r : D.Gate} (h : laws_toGate p0 = some r) {w : World} :
   Calls Try.prog 86 [.agg #[I p0.A, I p0.B]].toArray w fun e w' => ∃ v, e = .returned v ∧ v = .agg #[I r.A, I r.B] ∧ Chg Non w w' := by
 unfold laws_toGate at h
 have hs := Sep.nil w Non
 have hM0 : Mem w Non (fun k => (False) ∧ k < w.heap.size) w Non (fun k => (False) ∧ k < w.heap.size) := Mem.start (fun _ h => h.elim) (fun _ h => h.2) (fun _ h => h.elim)
 refine enter (N := 11) Try.func86 rfl Try.ntmps86 rfl fun fr hF => ?_
 refine wp_seq (wp_text' ?_)
 refine q_box hs hM0 [I p0.A, I p0.B] rfl rfl hF rfl rfl fun b1 w1 S1 fr hs hp hF => ?_
 have hM0 := hM0.stp hp
 have hs : Sep [BX b1 97 [I p0.A, I p0.B]] w1 S1 := hs
 refine q_alloc (z := .agg #[I 0, I 0]) hs hM0 [I 0, I 0] rfl rfl hF (by kernel_rfl) rfl fun b2 w2 S2 fr hs hp hF => ?_
 have hM0 := hM0.stp hp
 have hs : Sep [BX b2 59 [I 0, I 0], BX b1 97 [I p0.A, I p0.B]] w2 S2 := hs
 refine from_end rfl (then_normal ?_)
 refine wp_seq (wp_text' ?_)
 refine q_alloc (z := .agg #[I 0, I 0]) hs hM0 [I 0, I 0] rfl rfl hF (by kernel_rfl) rfl fun b3 w3 S3 fr hs hp hF => ?_
 have hM0 := hM0.stp hp
 have hs : Sep [BX b3 59 [I 0, I 0], BX b2 59 [I 0, I 0], BX b1 97 [I p0.A, I p0.B]] w3 S3 := hs
 refine from_end rfl (then_normal ?_)
 refine wp_seq (wp_text' ?_)
 refine from_pure 1 [(1, B b1 0), (2, B b2 0), (3, B b3 0), (4, B b1 0)] hF (by kernel_rfl) fun fr hF => ?_
 refine s_loadBox (I p0.A) ty3 rfl rfl hF rfl (hs.bx 2 rfl) rfl rfl fun fr hF => ?_
 refine from_pure 1 [(1, B b1 0), (2, B b2 0), (3, B b3 0), (5, I p0.A), (6, B b3 0)] hF (by kernel_rfl) fun fr hF => ?_
 refine q_storeBox 0 hs hM0 rfl [I p0.A, I 0] rfl hF rfl rfl (by kernel_rfl) rfl rfl rfl fun w4 S4 hs hp hF => ?_
 have hM0 := hM0.stp hp
 have hs : Sep [BX b3 59 [I p0.A, I 0], BX b2 59 [I 0, I 0], BX b1 97 [I p0.A, I p0.B]] w4 S4 := hs
 refine from_end rfl (then_normal ?_)
 refine wp_seq (wp_text' ?_)
 refine from_pure 1 [(2, B b2 0), (3, B b3 0), (7, B b1 1)] hF (by kernel_rfl) fun fr hF => ?_
 refine s_loadBox (I p0.B) ty3 rfl rfl hF rfl (hs.bx 2 rfl) rfl rfl fun fr hF => ?_
 have hs : Sep [BX b3 59 [I p0.A, I 0], BX b2 59 [I 0, I 0]] w4 S4 := Sep.pick [0, 1] hs (by decide) rfl
 refine from_pure 1 [(2, B b2 0), (3, B b3 0), (8, I p0.B), (9, B b3 1)] hF (by kernel_rfl) fun fr hF => ?_
 refine q_storeBox 0 hs hM0 rfl [I p0.A, I p0.B] rfl hF rfl rfl (by kernel_rfl) rfl rfl rfl fun w5 S5 hs hp hF => ?_
 have hM0 := hM0.stp hp
 have hs : Sep [BX b3 59 [I p0.A, I p0.B], BX b2 59 [I 0, I 0]] w5 S5 := hs
 refine from_end rfl (then_normal ?_)
 refine wp_seq (wp_text' ?_)
 refine s_loadBoxS ty59 rfl rfl hF rfl (hs.bx 0 rfl) rfl rfl fun fr hF => ?_
 have hs : Sep [BX b2 59 [I 0, I 0]] w5 S5 := Sep.pick [1] hs (by decide) rfl
 refine q_storeBoxS 0 hs hM0 rfl [I p0.A, I p0.B] rfl hF rfl rfl (by kernel_rfl) rfl rfl rfl fun w6 S6 hs hp hF => ?_
 have hM0 := hM0.stp hp
 have hs : Sep [BX b2 59 [I p0.A, I p0.B]] w6 S6 := hs
 refine from_end rfl (then_normal ?_)
 have hbr := (hs.bx 0 rfl)
 obtain rfl := Option.some.inj h
 exact wp_ret (retS rfl hF ty59 rfl rfl hbr rfl ⟨_, rfl, rfl, hM0.chg⟩)

theorem laws_toGateS_ok (n : Nat) (p0 : List D.Gate) {r : (List D.Gate)} (h : laws_toGateS n p0 = some r) {w : World} {G0 : Nat → Prop} {va0 : Value} (ra0 : RV w G0 va0 p0) :
   Calls Try.prog 48 [va0].toArray w fun e w' => ∃ v, e = .returned v ∧ ∃ a1 c1, v = L a1 r c1 ∧ ∃ S', Stp w Non w' S' ∧ Sep [sl59 (L a1 r c1) r] w' S' := by
 unfold laws_toGateS at h
 have hs := Sep.nil w Non
 have hM0 : Mem w Non (fun k => (G0 k) ∧ k < w.heap.size) w Non (fun k => (G0 k) ∧ k < w.heap.size) := Mem.start (fun _ h => h.elim) (fun _ h => h.2) (fun _ h => h.elim)
 have ra0 := ra0.sub (F' := (fun k => (G0 k) ∧ k < w.heap.size)) (fun k hk h => ⟨h, hk⟩)
 obtain ⟨a1, c1, rfl, -⟩ := ra0.slice
 refine enter (N := 23) Try.func48 rfl Try.ntmps48 rfl fun fr hF => ?_
 refine wp_seq (wp_pure [(0, L a1 p0 c1)] hF (by kernel_rfl) fun fr hF => then_normal ?_)
 refine wp_seq (wp_text' ?_)
 refine from_pure 2 [(0, L a1 p0 c1), (6, I (len p0))] hF (by kernel_rfl) fun fr hF => ?_
 obtain ⟨x1, hx1, h⟩ := bindE h
 refine q_make hs hM0 Try.underlying26 el59 (zero_flat _ (by kernel_rfl)) rfl rfl hF rfl rfl hx1 fun a2 c2 w1 S1 fr hs hp hF => ?_
 have ra0 := ra0.stp hM0 hp
 have hM0 := hM0.stp hp
 have hs : Sep [sl59 (L a2 x1 c2) x1] w1 S1 := hs
 refine from_pure 1 [(0, L a1 p0 c1), (3, L a2 x1 c2)] hF (by kernel_rfl) fun fr hF => ?_
 refine from_end rfl (then_normal ?_)
 refine wp_seq ?_
 refine wp_seq (wp_pure [(0, L a1 p0 c1), (3, L a2 x1 c2), (4, I 0)] hF (by kernel_rfl) fun fr hF => then_normal ?_)
 obtain ⟨rl1, hit1, h⟩ := bindE h
 have hk1 := h
 refine (wp_cut (M := fun fr w' => ∃ S3 F2, FrS 23 [(3, L a2 x1 c2)] fr ∧ Mem w1 S1 (fun k => (G0 k) ∧ k < w.heap.size) w' S3 F2 ∧ Sep [sl59 (L a2 x1 c2) rl1] w' S3) (wp_block (wp_iter (Inv := fun s1 fr w' => ∃ S2 F1, FrS 23 [(0, L a1 p0 c1), (3, L a2 x1 c2), (4, I s1.1)] fr ∧ Mem w1 S1 (fun k => (G0 k) ∧ k < w.heap.size) w' S2 F1 ∧ Sep [sl59 (L a2 x1 c2) s1.2] w' S2) hit1 ⟨S1, _, hF.sub _ (by kernel_rfl), (Mem.start hM0.bd hM0.bdF hM0.dj), hs⟩ fun s1 q1 fr w1i hI h hr1 => ?_)) fun fr w1o hM => ?_)
 · obtain ⟨S2, F1, hF, hM1, hs⟩ := hI
   have ra0 := ra0.mem hM1
   refine wp_seq ?_
   refine wp_seq (wp_pure [(0, L a1 p0 c1), (3, L a2 x1 c2), (4, I s1.1), (11, .bool (decide (s1.1 < (len p0))))] hF (by kernel_rfl) fun fr hF => then_normal ?_)
   refine (wp_if hF (b := (decide (s1.1 < (len p0)))) rfl (fun hb => ?_) (fun hb => ?_))
   · replace h := iteT hb h
     refine (wp_skip (then_normal ?_))
     refine wp_seq (wp_block ?_)
     refine (wp_text' ?_)
     refine from_pure 4 [(0, L a1 p0 c1), (3, L a2 x1 c2), (4, I s1.1), (14, L a2 x1 c2), (15, I s1.1), (16, L a1 p0 c1), (17, I s1.1)] hF (by kernel_rfl) fun fr hF => ?_
     obtain ⟨x2, hx2, h⟩ := bindE h
     refine s_elemF (z := x2) (.agg #[I x2.A, I x2.B]) ty97 Try.underlying22 rfl rfl rfl rfl rfl hF rfl (ra0) rfl (get?_nn hx2) (get?_at hx2) rfl fun p fr hF => ?_
     obtain ⟨x3, hx3, h⟩ := bindE h
     refine s_call [.agg #[I x2.A, I x2.B]] Try.call86 rfl rfl hF rfl (laws_toGate_ok x2 hx3) fun v w2 fr hRes hF => ?_
     obtain ⟨rfl, hc⟩ := hRes
     have ra0 := ra0.ext hc
     have hs := hs.ext hc
     have hM1 := hM1.ext hc
     obtain ⟨x4, hx4, h⟩ := bindE h
     refine q_set (q := x3) 0 hs hM1 rfl Try.underlying26 ty59 rfl rfl rfl rfl hF rfl rfl (by simp) rfl rfl hx4 fun w3 S4 fr _ hs hp hF => ?_
     have ra0 := ra0.stp hM1 hp
     have hM1 := hM1.stp hp
     have hs : Sep [sl59 (L a2 x1 c2) x4] w3 S4 := hs
     refine from_end rfl ?_
     refine blk_normal (then_normal ?_)
     refine (wp_pure [(0, L a1 p0 c1), (3, L a2 x1 c2), (4, I (w64 (s1.1 + 1)))] hF (by kernel_rfl) fun fr hF => then_normal ?_)
     exact ⟨_, (Option.some.inj h).symm, S4, _, hF.sub _ (by kernel_rfl), hM1, hs⟩
   replace h := iteF hb h
   refine (wp_exit (then_exit (then_exit (blk_exit_eq ?_))))
   obtain rfl := hr1 _ (Option.some.inj h).symm
   exact then_normal ⟨S2, _, hF.sub _ (by kernel_rfl), hM1, hs⟩
 · obtain ⟨S3, F2, hF, hMx, hs⟩ := hM
   have hM0 := hM0.trans hMx
   refine wp_seq (wp_pure [(2, L a2 x1 c2)] hF (by kernel_rfl) fun fr hF => then_normal ?_)
   obtain rfl := Option.some.inj h
   obtain ⟨he1, hs⟩ := hs.relen 0 rfl
   have hs : Sep [sl59 (L a2 rl1 c2) rl1] w1o S3 := hs
   exact wp_ret (ret1 rfl hF rfl ⟨_, rfl, a2, c2, (by simp only [L, he1]), S3, hM0.out, hs⟩)

theorem laws_toCircuit_ok (n : Nat) (p0 : D.Circuit) {r : D.Circuit} (h : laws_toCircuit n p0 = some r) {w : World} {G0 : Nat → Prop} {va0 : Value} (ra0 : RV w G0 va0 p0) :
   Calls Try.prog 14 [va0].toArray w fun e w' => ∃ v, e = .returned v ∧ ∃ a1 c1, v = .agg #[I r.Inputs, L a1 r.Gates c1] ∧ ∃ S', Stp w Non w' S' ∧ Sep [sl59 (L a1 r.Gates c1) r.Gates] w' S' := by
 unfold laws_toCircuit at h
 have hs := Sep.nil w Non
 have hM0 : Mem w Non (fun k => (G0 k) ∧ k < w.heap.size) w Non (fun k => (G0 k) ∧ k < w.heap.size) := Mem.start (fun _ h => h.elim) (fun _ h => h.2) (fun _ h => h.elim)
 have ra0 := ra0.sub (F' := (fun k => (G0 k) ∧ k < w.heap.size)) (fun k hk h => ⟨h, hk⟩)
 obtain ⟨v1, rfl, r1⟩ := RV.Circuit ra0
 obtain ⟨a1, c1, rfl, -⟩ := r1.slice
 refine enter (N := 12) Try.func14 rfl Try.ntmps14 rfl fun fr hF => ?_
 refine wp_seq (wp_text' ?_)
 refine q_box hs hM0 [I p0.Inputs, L a1 p0.Gates c1] rfl rfl hF rfl rfl fun b1 w1 S1 fr hs hp hF => ?_
 have r1 := r1.stp hM0 hp
 have hM0 := hM0.stp hp
 have hs : Sep [BX b1 24 [I p0.Inputs, L a1 p0.Gates c1]] w1 S1 := hs
 refine q_alloc (z := .agg #[I 0, L none ([] : List D.Gate) 0]) hs hM0 [I 0, L none ([] : List D.Gate) 0] rfl rfl hF (by kernel_rfl) rfl fun b2 w2 S2 fr hs hp hF => ?_
 have r1 := r1.stp hM0 hp
 have hM0 := hM0.stp hp
 have hs : Sep [BX b2 28 [I 0, L none ([] : List D.Gate) 0], BX b1 24 [I p0.Inputs, L a1 p0.Gates c1]] w2 S2 := hs
 refine from_end rfl (then_normal ?_)
 refine wp_seq (wp_text' ?_)
 refine q_alloc (z := .agg #[I 0, L none ([] : List D.Gate) 0]) hs hM0 [I 0, L none ([] : List D.Gate) 0] rfl rfl hF (by kernel_rfl) rfl fun b3 w3 S3 fr hs hp hF => ?_
 have r1 := r1.stp hM0 hp
 have hM0 := hM0.stp hp
 have hs : Sep [BX b3 28 [I 0, L none ([] : List D.Gate) 0], BX b2 28 [I 0, L none ([] : List D.Gate) 0], BX b1 24 [I p0.Inputs, L a1 p0.Gates c1]] w3 S3 := hs
 refine from_end rfl (then_normal ?_)
 refine wp_seq (wp_text' ?_)
 refine from_pure 1 [(1, B b1 0), (2, B b2 0), (3, B b3 0), (4, B b1 0)] hF (by kernel_rfl) fun fr hF => ?_
 refine s_loadBox (I p0.Inputs) ty3 rfl rfl hF rfl (hs.bx 2 rfl) rfl rfl fun fr hF => ?_
 refine from_pure 1 [(1, B b1 0), (2, B b2 0), (3, B b3 0), (5, I p0.Inputs), (6, B b3 0)] hF (by kernel_rfl) fun fr hF => ?_
 refine q_storeBox 0 hs hM0 rfl [I p0.Inputs, L none ([] : List D.Gate) 0] rfl hF rfl rfl (by kernel_rfl) rfl rfl rfl fun w4 S4 hs hp hF => ?_
 have r1 := r1.stp hM0 hp
 have hM0 := hM0.stp hp
 have hs : Sep [BX b3 28 [I p0.Inputs, L none ([] : List D.Gate) 0], BX b2 28 [I 0, L none ([] : List D.Gate) 0], BX b1 24 [I p0.Inputs, L a1 p0.Gates c1]] w4 S4 := hs
 refine from_end rfl (then_normal ?_)
 refine wp_seq (wp_text' ?_)
 refine from_pure 1 [(2, B b2 0), (3, B b3 0), (7, B b1 1)] hF (by kernel_rfl) fun fr hF => ?_
 refine s_loadBox (L a1 p0.Gates c1) ty22 rfl rfl hF rfl (hs.bx 2 rfl) rfl rfl fun fr hF => ?_
 have hs : Sep [BX b3 28 [I p0.Inputs, L none ([] : List D.Gate) 0], BX b2 28 [I 0, L none ([] : List D.Gate) 0]] w4 S4 := Sep.pick [0, 1] hs (by decide) rfl
 obtain ⟨x1, hx1, h⟩ := bindE h
 refine s_call [L a1 p0.Gates c1] Try.call48 rfl rfl hF rfl (laws_toGateS_ok n p0.Gates hx1 (r1)) fun v w5 fr hRes hF => ?_
 obtain ⟨a2, c2, rfl, _, hp, hs2⟩ := hRes
 obtain ⟨S5, hp, hs⟩ := hs.got hM0 hp hs2
 have r1 := r1.stp hM0 hp
 have hM0 := hM0.stp hp
 have hs : Sep [sl59 (L a2 x1 c2) x1, BX b3 28 [I p0.Inputs, L none ([] : List D.Gate) 0], BX b2 28 [I 0, L none ([] : List D.Gate) 0]] w5 S5 := hs
 refine from_pure 1 [(2, B b2 0), (3, B b3 0), (9, L a2 x1 c2), (10, B b3 1)] hF (by kernel_rfl) fun fr hF => ?_
 refine q_storeBox 1 hs hM0 rfl [I p0.Inputs, L a2 x1 c2] rfl hF rfl rfl (by kernel_rfl) rfl rfl rfl fun w6 S6 hs hp hF => ?_
 have hM0 := hM0.stp hp
 have hs : Sep [sl59 (L a2 x1 c2) x1, BX b3 28 [I p0.Inputs, L a2 x1 c2], BX b2 28 [I 0, L none ([] : List D.Gate) 0]] w6 S6 := hs
 refine from_end rfl (then_normal ?_)
 refine wp_seq (wp_text' ?_)
 refine s_loadBoxS ty28 rfl rfl hF rfl (hs.bx 1 rfl) rfl rfl fun fr hF => ?_
 have hs : Sep [sl59 (L a2 x1 c2) x1, BX b2 28 [I 0, L none ([] : List D.Gate) 0]] w6 S6 := Sep.pick [0, 2] hs (by decide) rfl
 refine q_storeBoxS 1 hs hM0 rfl [I p0.Inputs, L a2 x1 c2] rfl hF rfl rfl (by kernel_rfl) rfl rfl rfl fun w7 S7 hs hp hF => ?_
 have hM0 := hM0.stp hp
 have hs : Sep [sl59 (L a2 x1 c2) x1, BX b2 28 [I p0.Inputs, L a2 x1 c2]] w7 S7 := hs
 refine from_end rfl (then_normal ?_)
 have hbr := (hs.bx 1 rfl)
 obtain rfl := Option.some.inj h
 have hs : Sep [sl59 (L a2 x1 c2) x1] w7 S7 := Sep.pick [0] hs (by decide) rfl
 exact wp_ret (retS rfl hF ty28 rfl rfl hbr rfl ⟨_, rfl, a2, c2, rfl, S7, hM0.out, hs⟩)

theorem laws_toIntS_ok (n : Nat) (p0 : List Int) {r : (List Int)} (h : laws_toIntS n p0 = some r) {w : World} {G0 : Nat → Prop} {va0 : Value} (ra0 : RV w G0 va0 p0) :
   Calls Try.prog 26 [va0].toArray w fun e w' => ∃ v, e = .returned v ∧ ∃ a1 c1, v = L a1 r c1 ∧ ∃ S', Stp w Non w' S' ∧ Sep [sl3 (L a1 r c1) r] w' S' := by
 unfold laws_toIntS at h
 have hs := Sep.nil w Non
 have hM0 : Mem w Non (fun k => (G0 k) ∧ k < w.heap.size) w Non (fun k => (G0 k) ∧ k < w.heap.size) := Mem.start (fun _ h => h.elim) (fun _ h => h.2) (fun _ h => h.elim)
 have ra0 := ra0.sub (F' := (fun k => (G0 k) ∧ k < w.heap.size)) (fun k hk h => ⟨h, hk⟩)
 obtain ⟨a1, c1, rfl, -⟩ := ra0.slice
 refine enter (N := 22) Try.func26 rfl Try.ntmps26 rfl fun fr hF => ?_
 refine wp_seq (wp_pure [(0, L a1 p0 c1)] hF (by kernel_rfl) fun fr hF => then_normal ?_)
 refine wp_seq (wp_text' ?_)
 refine from_pure 2 [(0, L a1 p0 c1), (6, I (len p0))] hF (by kernel_rfl) fun fr hF => ?_
 obtain ⟨x1, hx1, h⟩ := bindE h
 refine q_make hs hM0 Try.underlying37 el3 (zero_flat _ (by kernel_rfl)) rfl rfl hF rfl rfl hx1 fun a2 c2 w1 S1 fr hs hp hF => ?_
 have ra0 := ra0.stp hM0 hp
 have hM0 := hM0.stp hp
 have hs : Sep [sl3 (L a2 x1 c2) x1] w1 S1 := hs
 refine from_pure 1 [(0, L a1 p0 c1), (3, L a2 x1 c2)] hF (by kernel_rfl) fun fr hF => ?_
 refine from_end rfl (then_normal ?_)
 refine wp_seq ?_
 refine wp_seq (wp_pure [(0, L a1 p0 c1), (3, L a2 x1 c2), (4, I 0)] hF (by kernel_rfl) fun fr hF => then_normal ?_)
 obtain ⟨rl1, hit1, h⟩ := bindE h
 have hk1 := h
 refine (wp_cut (M := fun fr w' => ∃ S3 F2, FrS 22 [(3, L a2 x1 c2)] fr ∧ Mem w1 S1 (fun k => (G0 k) ∧ k < w.heap.size) w' S3 F2 ∧ Sep [sl3 (L a2 x1 c2) rl1] w' S3) (wp_block (wp_iter (Inv := fun s1 fr w' => ∃ S2 F1, FrS 22 [(0, L a1 p0 c1), (3, L a2 x1 c2), (4, I s1.1)] fr ∧ Mem w1 S1 (fun k => (G0 k) ∧ k < w.heap.size) w' S2 F1 ∧ Sep [sl3 (L a2 x1 c2) s1.2] w' S2) hit1 ⟨S1, _, hF.sub _ (by kernel_rfl), (Mem.start hM0.bd hM0.bdF hM0.dj), hs⟩ fun s1 q1 fr w1i hI h hr1 => ?_)) fun fr w1o hM => ?_)
 · obtain ⟨S2, F1, hF, hM1, hs⟩ := hI
   have ra0 := ra0.mem hM1
   refine wp_seq ?_
   refine wp_seq (wp_pure [(0, L a1 p0 c1), (3, L a2 x1 c2), (4, I s1.1), (11, .bool (decide (s1.1 < (len p0))))] hF (by kernel_rfl) fun fr hF => then_normal ?_)
   refine (wp_if hF (b := (decide (s1.1 < (len p0)))) rfl (fun hb => ?_) (fun hb => ?_))
   · replace h := iteT hb h
     refine (wp_skip (then_normal ?_))
     refine wp_seq (wp_block ?_)
     refine (wp_text' ?_)
     refine from_pure 4 [(0, L a1 p0 c1), (3, L a2 x1 c2), (4, I s1.1), (14, L a2 x1 c2), (15, I s1.1), (16, L a1 p0 c1), (17, I s1.1)] hF (by kernel_rfl) fun fr hF => ?_
     obtain ⟨x2, hx2, h⟩ := bindE h
     refine s_elemF (z := x2) (I x2) ty3 Try.underlying37 rfl rfl rfl rfl rfl hF rfl (ra0) rfl (get?_nn hx2) (get?_at hx2) rfl fun p fr hF => ?_
     obtain ⟨x3, hx3, h⟩ := bindE h
     refine q_set (q := x2) 0 hs hM1 rfl Try.underlying37 ty3 rfl rfl rfl rfl hF rfl rfl (by simp) rfl rfl hx3 fun w2 S4 fr _ hs hp hF => ?_
     have ra0 := ra0.stp hM1 hp
     have hM1 := hM1.stp hp
     have hs : Sep [sl3 (L a2 x1 c2) x3] w2 S4 := hs
     refine from_end rfl ?_
     refine blk_normal (then_normal ?_)
     refine (wp_pure [(0, L a1 p0 c1), (3, L a2 x1 c2), (4, I (w64 (s1.1 + 1)))] hF (by kernel_rfl) fun fr hF => then_normal ?_)
     exact ⟨_, (Option.some.inj h).symm, S4, _, hF.sub _ (by kernel_rfl), hM1, hs⟩
   replace h := iteF hb h
   refine (wp_exit (then_exit (then_exit (blk_exit_eq ?_))))
   obtain rfl := hr1 _ (Option.some.inj h).symm
   exact then_normal ⟨S2, _, hF.sub _ (by kernel_rfl), hM1, hs⟩
 · obtain ⟨S3, F2, hF, hMx, hs⟩ := hM
   have hM0 := hM0.trans hMx
   refine wp_seq (wp_pure [(2, L a2 x1 c2)] hF (by kernel_rfl) fun fr hF => then_normal ?_)
   obtain rfl := Option.some.inj h
   obtain ⟨he1, hs⟩ := hs.relen 0 rfl
   have hs : Sep [sl3 (L a2 rl1 c2) rl1] w1o S3 := hs
   exact wp_ret (ret1 rfl hF rfl ⟨_, rfl, a2, c2, (by simp only [L, he1]), S3, hM0.out, hs⟩)

theorem spec_l01In_ok (p0 : Int) (p1 : Int) (p2 : Int) {r : Bool} (h : spec_l01In p0 p1 p2 = some r) {w : World} :
   Calls Try.prog 70 [I p0, I p1, I p2].toArray w fun e w' => ∃ v, e = .returned v ∧ v = .bool r ∧ Chg Non w w' := by
 unfold spec_l01In at h
 have hs := Sep.nil w Non
 have hM0 : Mem w Non (fun k => (False) ∧ k < w.heap.size) w Non (fun k => (False) ∧ k < w.heap.size) := Mem.start (fun _ h => h.elim) (fun _ h => h.2) (fun _ h => h.elim)
 refine enter (N := 15) Try.func70 rfl Try.ntmps70 rfl fun fr hF => ?_
 refine wp_seq (wp_pure [(0, I p0), (1, I p1), (2, I p2)] hF (by kernel_rfl) fun fr hF => then_normal ?_)
 refine wp_seq (region_b [] [true, true, true, true, true, true, true, true, true]
     [.eq (I p0), .eq (I p1), .eq (.bool (decide (p0 ≥ p1))), .eq (.bool (decide (p0 ≥ p1))), .eq (I p0), .eq (I p2), .eq (.bool (decide (p0 ≤ p2))), .eq (.bool ((decide (p0 ≥ p1)) && (decide (p0 ≤ p2)))), .eq (.bool ((decide (p0 ≥ p1)) && (decide (p0 ≤ p2))))]
     [(6, .bool ((decide (p0 ≥ p1)) && (decide (p0 ≤ p2))))] mix hF (by kernel_rfl) (by kernel_rfl) (by kernel_rfl) trivial (fun hG => trivial) (by kernel_rfl) fun fr w1 hF hE hc => then_normal ?_)
 have hs := hs.ext hc
 have hM0 := hM0.ext hc
 obtain rfl := Option.some.inj h
 exact wp_ret (ret1 rfl hF rfl ⟨_, rfl, rfl, hM0.chg⟩)

theorem spec_l03Abs_ok (p0 : Int) {r : Int} (h : spec_l03Abs p0 = some r) {w : World} :
   Calls Try.prog 84 [I p0].toArray w fun e w' => ∃ v, e = .returned v ∧ v = I r ∧ Chg Non w w' := by
 unfold spec_l03Abs at h
 have hs := Sep.nil w Non
 have hM0 : Mem w Non (fun k => (False) ∧ k < w.heap.size) w Non (fun k => (False) ∧ k < w.heap.size) := Mem.start (fun _ h => h.elim) (fun _ h => h.2) (fun _ h => h.elim)
 refine enter (N := 8) Try.func84 rfl Try.ntmps84 rfl fun fr hF => ?_
 refine wp_seq (wp_pure [(0, I p0)] hF (by kernel_rfl) fun fr hF => then_normal ?_)
 refine wp_seq ?_
 refine wp_seq (wp_pure [(0, I p0), (4, .bool (decide (p0 < 0)))] hF (by kernel_rfl) fun fr hF => then_normal ?_)
 refine (wp_if hF (b := (decide (p0 < 0))) rfl (fun hb => ?_) (fun hb => ?_))
 · replace h := iteT hb h
   refine wp_seq (wp_pure [(2, I (w64 (0 - p0)))] hF (by kernel_rfl) fun fr hF => then_normal ?_)
   obtain rfl := Option.some.inj h
   exact wp_ret (then_ret (ret1 rfl hF rfl ⟨_, rfl, rfl, hM0.chg⟩))
 replace h := iteF hb h
 refine (wp_skip (then_normal ?_))
 refine wp_seq (wp_pure [(2, I p0)] hF (by kernel_rfl) fun fr hF => then_normal ?_)
 obtain rfl := Option.some.inj h
 exact wp_ret (ret1 rfl hF rfl ⟨_, rfl, rfl, hM0.chg⟩)

theorem spec_CircuitOk_ok (n : Nat) (p0 : D.Circuit) {r : Bool} (h : spec_CircuitOk n p0 = some r) {w : World} {G0 : Nat → Prop} {va0 : Value} (ra0 : RV w G0 va0 p0) :
   Calls Try.prog 43 [va0].toArray w fun e w' => ∃ v, e = .returned v ∧ v = .bool r ∧ Chg Non w w' := by
 unfold spec_CircuitOk at h
 have hs := Sep.nil w Non
 have hM0 : Mem w Non (fun k => (G0 k) ∧ k < w.heap.size) w Non (fun k => (G0 k) ∧ k < w.heap.size) := Mem.start (fun _ h => h.elim) (fun _ h => h.2) (fun _ h => h.elim)
 have ra0 := ra0.sub (F' := (fun k => (G0 k) ∧ k < w.heap.size)) (fun k hk h => ⟨h, hk⟩)
 obtain ⟨v1, rfl, r1⟩ := RV.Circuit ra0
 obtain ⟨a1, c1, rfl, -⟩ := r1.slice
 refine enter (N := 76) Try.func43 rfl Try.ntmps43 rfl fun fr hF => ?_
 refine wp_seq (wp_text' ?_)
 refine q_box hs hM0 [I p0.Inputs, L a1 p0.Gates c1] rfl rfl hF rfl rfl fun b1 w1 S1 fr hs hp hF => ?_
 have r1 := r1.stp hM0 hp
 have hM0 := hM0.stp hp
 have hs : Sep [BX b1 28 [I p0.Inputs, L a1 p0.Gates c1]] w1 S1 := hs
 refine from_pure 1 [(1, B b1 0)] hF (by kernel_rfl) fun fr hF => ?_
 refine from_end rfl (then_normal ?_)
 refine wp_seq ?_
 obtain ⟨x1, hx1, h⟩ := bindE h
 refine wp_seq (region_b [] [true, false, false, true, true, true, false, true, true, true]
     [.eq (B b1 0), .eq (I p0.Inputs), .eq (.bool x1), .eq (.bool (!x1)), .eq (.bool (!x1)), .eq (B b1 1), .eq (L a1 p0.Gates c1), .eq (I (len p0.Gates)), .eq (.bool (decide ((len p0.Gates) > 360))), .eq (.bool ((!x1) || (decide ((len p0.Gates) > 360))))]
     [(1, B b1 0), (17, .bool ((!x1) || (decide ((len p0.Gates) > 360))))] mix hF (by kernel_rfl) (by kernel_rfl) (by kernel_rfl) ⟨Pd.mono_eq, Pd.mono_eq, Pd.mono_eq, trivial⟩ (fun hG => ⟨np_loadBox hG hF ty3 rfl rfl (hs.bx 0 rfl) rfl rfl rfl, np_call [I p0.Inputs, I 0, I 30] hG hF Try.call70 rfl rfl (fun w hC hg => (spec_l01In_ok p0.Inputs 0 30 hx1).mono fun e w' ⟨v, he, hv, hc⟩ => ⟨v, he, hc, hv⟩), np_loadBox hG hF ty26 rfl rfl (hs.bx 0 rfl) rfl rfl rfl, trivial⟩) (by kernel_rfl) fun fr w2 hF hE hc => then_normal ?_)
 have r1 := r1.ext hc
 have hs := hs.ext hc
 have hM0 := hM0.ext hc
 refine (wp_if hF (b := ((!x1) || (decide ((len p0.Gates) > 360)))) rfl (fun hb => ?_) (fun hb => ?_))
 · replace h := iteT hb h
   have hs : Sep [] w2 S1 := Sep.pick [] hs (by decide) rfl
   refine wp_seq (wp_pure [(2, .bool false)] hF (by kernel_rfl) fun fr hF => then_normal ?_)
   obtain rfl := Option.some.inj h
   exact wp_ret (then_ret (ret1 rfl hF rfl ⟨_, rfl, rfl, hM0.chg⟩))
 replace h := iteF hb h
 refine (wp_skip (then_normal ?_))
 refine wp_seq ?_
 refine wp_seq (wp_text' ?_)
 refine from_pure 1 [(1, B b1 0), (18, B b1 1)] hF (by kernel_rfl) fun fr hF => ?_
 refine s_loadBox (L a1 p0.Gates c1) ty26 rfl rfl hF rfl (hs.bx 0 rfl) rfl rfl fun fr hF => ?_
 refine from_pure 2 [(1, B b1 0), (19, L a1 p0.Gates c1), (20, I (len p0.Gates)), (21, I 0)] hF (by kernel_rfl) fun fr hF => ?_
 refine from_end rfl (then_normal ?_)
 obtain ⟨rl1, hit1, h⟩ := bindE h
 have hk1 := h
 refine (wp_cut (M := fun fr w' => ∃ s, rl1 = .inl s ∧ ∃ S3 F2, FrS 76 [] fr ∧ Mem w2 S1 (fun k => (G0 k) ∧ k < w.heap.size) w' S3 F2 ∧ Sep [] w' S3) (wp_block (wp_iter (Inv := fun s1 fr w' => ∃ S2 F1, FrS 76 [(1, B b1 0), (19, L a1 p0.Gates c1), (20, I (len p0.Gates)), (21, I s1)] fr ∧ Mem w2 S1 (fun k => (G0 k) ∧ k < w.heap.size) w' S2 F1 ∧ Sep [BX b1 28 [I p0.Inputs, L a1 p0.Gates c1]] w' S2) hit1 ⟨S1, _, hF.sub _ (by kernel_rfl), (Mem.start hM0.bd hM0.bdF hM0.dj), hs⟩ fun s1 q1 fr w1i hI h hr1 => ?_)) fun fr w1o hM => ?_)
 · obtain ⟨S2, F1, hF, hM1, hs⟩ := hI
   have r1 := r1.mem hM1
   refine wp_seq (wp_pure [(1, B b1 0), (19, L a1 p0.Gates c1), (20, I (len p0.Gates)), (21, I s1), (22, .bool (decide (s1 < (len p0.Gates))))] hF (by kernel_rfl) fun fr hF => then_normal ?_)
   refine wp_seq (wp_if hF (b := (decide (s1 < (len p0.Gates)))) rfl (fun hb => ?_) (fun hb => ?_))
   · replace h := iteT hb h
     refine (wp_skip (then_normal ?_))
     refine wp_seq (wp_block ?_)
     refine wp_seq (wp_text' ?_)
     refine from_pure 1 [(1, B b1 0), (19, L a1 p0.Gates c1), (20, I (len p0.Gates)), (21, I s1), (23, I s1)] hF (by kernel_rfl) fun fr hF => ?_
     obtain ⟨x2, hx2, h⟩ := bindE h
     refine s_elemF (z := x2) (.agg #[I x2.A, I x2.B]) ty59 Try.underlying26 rfl rfl rfl rfl rfl hF rfl (r1) rfl (get?_nn hx2) (get?_at hx2) rfl fun p fr hF => ?_
     refine q_alloc (z := .agg #[I 0, I 0]) hs hM1 [I 0, I 0] rfl rfl hF (by kernel_rfl) rfl fun b2 w3 S4 fr hs hp hF => ?_
     have r1 := r1.stp hM1 hp
     have hM1 := hM1.stp hp
     have hs : Sep [BX b2 59 [I 0, I 0], BX b1 28 [I p0.Inputs, L a1 p0.Gates c1]] w3 S4 := hs
     refine from_pure 1 [(1, B b1 0), (3, I s1), (4, B b2 0), (19, L a1 p0.Gates c1), (20, I (len p0.Gates)), (21, I s1), (25, .agg #[I x2.A, I x2.B])] hF (by kernel_rfl) fun fr hF => ?_
     refine q_storeBoxS 0 hs hM1 rfl [I x2.A, I x2.B] rfl hF rfl rfl (by kernel_rfl) rfl rfl rfl fun w4 S5 hs hp hF => ?_
     have r1 := r1.stp hM1 hp
     have hM1 := hM1.stp hp
     have hs : Sep [BX b2 59 [I x2.A, I x2.B], BX b1 28 [I p0.Inputs, L a1 p0.Gates c1]] w4 S5 := hs
     refine from_end rfl (then_normal ?_)
     refine wp_seq (wp_text' ?_)
     refine from_pure 1 [(1, B b1 0), (3, I s1), (4, B b2 0), (19, L a1 p0.Gates c1), (20, I (len p0.Gates)), (21, I s1), (26, B b1 0)] hF (by kernel_rfl) fun fr hF => ?_
     refine s_loadBox (I p0.Inputs) ty3 rfl rfl hF rfl (hs.bx 1 rfl) rfl rfl fun fr hF => ?_
     refine from_pure 4 [(1, B b1 0), (3, I s1), (4, B b2 0), (5, I (w64 ((w64 (p0.Inputs + 1)) + s1))), (19, L a1 p0.Gates c1), (20, I (len p0.Gates)), (21, I s1)] hF (by kernel_rfl) fun fr hF => ?_
     refine from_end rfl (then_normal ?_)
     refine wp_seq ?_
     obtain ⟨x3, hx3, h⟩ := bindE h
     obtain ⟨x4, hx4, h⟩ := bindE h
     obtain ⟨x5, hx5, h⟩ := bindE h
     obtain ⟨x6, hx6, h⟩ := bindE h
     obtain ⟨x7, hx7, h⟩ := bindE h
     refine wp_seq (region_bm 31 [0, 1, 0, 4, 0, 31, 63, 127, 255, 511, 255, 1279, 255, 8191, 16383, 32767, 65535, 131071, 262143, 524287, 1048575, 2097151, 4194303, 8388607, 16777215, 33554431, 8388607, 75497471, 268435455, 536870911, 1073741823] [true, false, true, true, true, false, true, true, true, false, true, true, true, false, true, true, true, true, false, false, true, true, true, true, false, false, true, false, false, true, true]
         (.eq (B b2 0) :: .eq (I x2.A) :: .eq (I (w64 ((w64 (p0.Inputs + 1)) + s1))) :: .eq (I (w64 (0 - (w64 ((w64 (p0.Inputs + 1)) + s1))))) :: .eq (I (w64 ((w64 (p0.Inputs + 1)) + s1))) :: .eq (.bool x3) :: .eq (.bool (!x3)) :: .eq (.bool (!x3)) :: .eq (B b2 1) :: .eq (I x2.B) :: .eq (I (w64 ((w64 (p0.Inputs + 1)) + s1))) :: .eq (I (w64 (0 - (w64 ((w64 (p0.Inputs + 1)) + s1))))) :: .eq (I (w64 ((w64 (p0.Inputs + 1)) + s1))) :: .eq (.bool x4) :: .eq (.bool (!x4)) :: .eq (.bool ((!x3) || (!x4))) :: .eq (.bool ((!x3) || (!x4))) :: .eq (B b2 0) :: .eq (I x2.A) :: .eq (I x5) :: .eq (.bool (decide (x5 < 2))) :: .eq (.bool (((!x3) || (!x4)) || (decide (x5 < 2)))) :: .eq (.bool (((!x3) || (!x4)) || (decide (x5 < 2)))) :: .eq (B b2 0) :: .eq (I x2.A) :: .eq (I x6) :: .eq (B b2 1) :: .eq (I x2.B) :: .eq (I x7) :: .eq (.bool (decide (x6 ≥ x7))) :: .eq (.bool ((((!x3) || (!x4)) || (decide (x5 < 2))) || (decide (x6 ≥ x7)))) :: [])
         [(1, B b1 0), (3, I s1), (4, B b2 0), (19, L a1 p0.Gates c1), (20, I (len p0.Gates)), (21, I s1), (61, .bool ((((!x3) || (!x4)) || (decide (x5 < 2))) || (decide (x6 ≥ x7))))] mix hF (by kernel_rfl) (by kernel_rfl) (by kernel_rfl) (by kernel_rfl) ⟨Pd.monoO_eq, Pd.monoO_eq, Pd.monoO_eq, Pd.monoO_eq, Pd.monoO_eq, Pd.monoO_eq, Pd.monoO_eq, Pd.monoO_eq, Pd.monoO_eq, Pd.monoO_eq, trivial⟩ (fun ow hG => ⟨np_to ow (np_loadBox hG hF ty3 rfl rfl (hs.bx 0 rfl) rfl rfl rfl), np_to ow (np_call [I x2.A, I (w64 (0 - (w64 ((w64 (p0.Inputs + 1)) + s1)))), I (w64 ((w64 (p0.Inputs + 1)) + s1))] hG hF Try.call70 rfl rfl (fun w hC hg => (spec_l01In_ok x2.A (w64 (0 - (w64 ((w64 (p0.Inputs + 1)) + s1)))) (w64 ((w64 (p0.Inputs + 1)) + s1)) hx3).mono fun e w' ⟨v, he, hv, hc⟩ => ⟨v, he, hc, hv⟩)), np_to ow (np_loadBox hG hF ty3 rfl rfl (hs.bx 0 rfl) rfl rfl rfl), np_to ow (np_call [I x2.B, I (w64 (0 - (w64 ((w64 (p0.Inputs + 1)) + s1)))), I (w64 ((w64 (p0.Inputs + 1)) + s1))] hG hF Try.call70 rfl rfl (fun w hC hg => (spec_l01In_ok x2.B (w64 (0 - (w64 ((w64 (p0.Inputs + 1)) + s1)))) (w64 ((w64 (p0.Inputs + 1)) + s1)) (iteF hg.2 hx4)).mono fun e w' ⟨v, he, hv, hc⟩ => ⟨v, he, hc, hv⟩)), np_to ow (np_loadBox hG hF ty3 rfl rfl (hs.bx 0 rfl) rfl rfl rfl), np_to ow (np_call [I x2.A] hG hF Try.call84 rfl rfl (fun w hC hg => (spec_l03Abs_ok x2.A (iteF hg.2 hx5)).mono fun e w' ⟨v, he, hv, hc⟩ => ⟨v, he, hc, hv⟩)), np_to ow (np_loadBox hG hF ty3 rfl rfl (hs.bx 0 rfl) rfl rfl rfl), np_to ow (np_call [I x2.A] hG hF Try.call84 rfl rfl (fun w hC hg => (spec_l03Abs_ok x2.A (iteF hg.2 hx6)).mono fun e w' ⟨v, he, hv, hc⟩ => ⟨v, he, hc, hv⟩)), np_to ow (np_loadBox hG hF ty3 rfl rfl (hs.bx 0 rfl) rfl rfl rfl), np_to ow (np_call [I x2.B] hG hF Try.call84 rfl rfl (fun w hC hg => (spec_l03Abs_ok x2.B (iteF hg.2 hx7)).mono fun e w' ⟨v, he, hv, hc⟩ => ⟨v, he, hc, hv⟩)), trivial⟩) (by kernel_rfl) fun ow fr w5 hF hE hc => ?_)
     have r1 := r1.ext hc
     have hs := hs.ext hc
     have hM1 := hM1.ext hc
     refine from_end rfl (then_normal ?_)
     refine (wp_if hF (b := ((((!x3) || (!x4)) || (decide (x5 < 2))) || (decide (x6 ≥ x7)))) rfl (fun hb => ?_) (fun hb => ?_))
     · replace h := iteT hb h
       have hs : Sep [] w5 S5 := Sep.pick [] hs (by decide) rfl
       refine wp_seq (wp_pure [(2, .bool false)] hF (by kernel_rfl) fun fr hF => then_normal ?_)
       obtain rfl := hr1 _ (Option.some.inj h).symm
       obtain rfl := Option.some.inj hk1
       exact wp_ret (then_ret (blk_ret (then_ret (then_ret (blk_ret (then_ret (ret1 rfl hF rfl ⟨_, rfl, rfl, (hM0.trans hM1).chg⟩)))))))
     replace h := iteF hb h
     refine (wp_skip (then_normal ?_))
     refine wp_seq (wp_text' ?_)
     refine from_pure 1 [(1, B b1 0), (3, I s1), (4, B b2 0), (19, L a1 p0.Gates c1), (20, I (len p0.Gates)), (21, I s1), (62, B b1 1)] hF (by kernel_rfl) fun fr hF => ?_
     refine s_loadBox (L a1 p0.Gates c1) ty26 rfl rfl hF rfl (hs.bx 1 rfl) rfl rfl fun fr hF => ?_
     refine from_pure 1 [(1, B b1 0), (4, B b2 0), (19, L a1 p0.Gates c1), (20, I (len p0.Gates)), (21, I s1), (63, L a1 p0.Gates c1), (64, I s1)] hF (by kernel_rfl) fun fr hF => ?_
     obtain ⟨x8, hx8, h⟩ := bindE h
     refine s_slice ty59 Try.underlying26 rfl rfl hF rfl (r1) rfl ⟨_, rfl⟩ hx8 fun v2 fr r2 hF => ?_
     obtain ⟨a2, c2, rfl, -⟩ := r2.slice
     refine from_pure 2 [(1, B b1 0), (4, B b2 0), (19, L a1 p0.Gates c1), (20, I (len p0.Gates)), (21, I s1), (65, L a2 x8 c2), (66, I (len x8)), (67, I 0)] hF (by kernel_rfl) fun fr hF => ?_
     refine from_end rfl (then_normal ?_)
     obtain ⟨rl2, hit2, h⟩ := bindE h
     have hk2 := h
     refine (wp_cut' (M := fun fr w' => ∃ s, rl2 = .inl s ∧ ∃ S7 F4, FrS 76 [(1, B b1 0), (19, L a1 p0.Gates c1), (20, I (len p0.Gates)), (21, I s1)] fr ∧ Mem w5 S5 F1 w' S7 F4 ∧ Sep [BX b1 28 [I p0.Inputs, L a1 p0.Gates c1]] w' S7) (wp_block (wp_iter (Inv := fun s2 fr w' => ∃ S6 F3, FrS 76 [(1, B b1 0), (4, B b2 0), (19, L a1 p0.Gates c1), (20, I (len p0.Gates)), (21, I s1), (65, L a2 x8 c2), (66, I (len x8)), (67, I s2)] fr ∧ Mem w5 S5 F1 w' S6 F3 ∧ Sep [BX b2 59 [I x2.A, I x2.B], BX b1 28 [I p0.Inputs, L a1 p0.Gates c1]] w' S6) hit2 ⟨S5, _, hF.sub _ (by kernel_rfl), (Mem.start hM1.bd hM1.bdF hM1.dj), hs⟩ fun s2 q2 fr w2i hI h hr2 => ?_)) fun fr w2o hM => ?_)
     · obtain ⟨S6, F3, hF, hM2, hs⟩ := hI
       have r1 := r1.mem hM2
       have r2 := r2.mem hM2
       refine wp_seq (wp_pure [(1, B b1 0), (4, B b2 0), (19, L a1 p0.Gates c1), (20, I (len p0.Gates)), (21, I s1), (65, L a2 x8 c2), (66, I (len x8)), (67, I s2), (68, .bool (decide (s2 < (len x8))))] hF (by kernel_rfl) fun fr hF => then_normal ?_)
       refine wp_seq (wp_if hF (b := (decide (s2 < (len x8)))) rfl (fun hb => ?_) (fun hb => ?_))
       · replace h := iteT hb h
         refine (wp_skip (then_normal ?_))
         refine wp_seq (wp_block ?_)
         refine wp_seq (wp_text' ?_)
         obtain ⟨x9, hx9, h⟩ := bindE h
         refine s_elemF (z := x9) (.agg #[I x9.A, I x9.B]) ty59 Try.underlying26 rfl rfl rfl rfl rfl hF rfl (r2) rfl (get?_nn hx9) (get?_at hx9) rfl fun p fr hF => ?_
         refine q_alloc (z := .agg #[I 0, I 0]) hs hM2 [I 0, I 0] rfl rfl hF (by kernel_rfl) rfl fun b3 w6 S8 fr hs hp hF => ?_
         have r1 := r1.stp hM2 hp
         have r2 := r2.stp hM2 hp
         have hM2 := hM2.stp hp
         have hs : Sep [BX b3 59 [I 0, I 0], BX b2 59 [I x2.A, I x2.B], BX b1 28 [I p0.Inputs, L a1 p0.Gates c1]] w6 S8 := hs
         refine q_storeBoxS 0 hs hM2 rfl [I x9.A, I x9.B] rfl hF rfl rfl (by kernel_rfl) rfl rfl rfl fun w7 S9 hs hp hF => ?_
         have r1 := r1.stp hM2 hp
         have r2 := r2.stp hM2 hp
         have hM2 := hM2.stp hp
         have hs : Sep [BX b3 59 [I x9.A, I x9.B], BX b2 59 [I x2.A, I x2.B], BX b1 28 [I p0.Inputs, L a1 p0.Gates c1]] w7 S9 := hs
         refine from_end rfl (then_normal ?_)
         refine wp_seq (wp_text' ?_)
         refine s_loadBoxS ty59 rfl rfl hF rfl (hs.bx 1 rfl) rfl rfl fun fr hF => ?_
         refine s_loadBoxS ty59 rfl rfl hF rfl (hs.bx 0 rfl) rfl rfl fun fr hF => ?_
         have hs : Sep [BX b2 59 [I x2.A, I x2.B], BX b1 28 [I p0.Inputs, L a1 p0.Gates c1]] w7 S9 := Sep.pick [1, 2] hs (by decide) rfl
         refine s_bin rfl rfl hF rfl rfl (eqg59 _ _ _ _ _) (eq59 x2 x9 _) fun fr hF => ?_
         refine from_end rfl (then_normal ?_)
         refine (wp_if hF (b := (decide (x2 = x9))) rfl (fun hb => ?_) (fun hb => ?_))
         · replace h := iteT hb h
           have hs : Sep [] w7 S9 := Sep.pick [] hs (by decide) rfl
           refine wp_seq (wp_pure [(2, .bool false)] hF (by kernel_rfl) fun fr hF => then_normal ?_)
           obtain rfl := hr2 _ (Option.some.inj h).symm
           obtain rfl := hr1 _ (Option.some.inj hk2).symm
           obtain rfl := Option.some.inj hk1
           exact wp_ret (blk_ret (then_ret (then_ret (blk_ret (then_ret (blk_ret (then_ret (then_ret (blk_ret (then_ret (ret1 rfl hF rfl ⟨_, rfl, rfl, ((hM0.trans hM1).trans hM2).chg⟩)))))))))))
         replace h := iteF hb h
         refine (wp_skip ?_)
         refine blk_normal (then_normal ?_)
         refine (wp_pure [(1, B b1 0), (4, B b2 0), (19, L a1 p0.Gates c1), (20, I (len p0.Gates)), (21, I s1), (65, L a2 x8 c2), (66, I (len x8)), (67, I (w64 (s2 + 1)))] hF (by kernel_rfl) fun fr hF => then_normal ?_)
         exact ⟨_, (Option.some.inj h).symm, S9, _, hF.sub _ (by kernel_rfl), hM2, hs⟩
       replace h := iteF hb h
       have hs : Sep [BX b1 28 [I p0.Inputs, L a1 p0.Gates c1]] w2i S6 := Sep.pick [1] hs (by decide) rfl
       refine (wp_exit (then_exit (then_exit (blk_exit_eq ?_))))
       obtain rfl := hr2 _ (Option.some.inj h).symm
       exact then_normal ⟨_, rfl, S6, _, hF.sub _ (by kernel_rfl), hM2, hs⟩
     · obtain ⟨s2r, rfl, hM⟩ := hM
       obtain ⟨S7, F4, hF, hMx, hs⟩ := hM
       have r1 := r1.mem hMx
       have hM1 := hM1.trans hMx
       refine blk_normal (then_normal ?_)
       refine (wp_pure [(1, B b1 0), (19, L a1 p0.Gates c1), (20, I (len p0.Gates)), (21, I (w64 (s1 + 1)))] hF (by kernel_rfl) fun fr hF => then_normal ?_)
       exact ⟨_, (Option.some.inj h).symm, S7, _, hF.sub _ (by kernel_rfl), hM1, hs⟩
   replace h := iteF hb h
   have hs : Sep [] w1i S2 := Sep.pick [] hs (by decide) rfl
   refine (wp_exit (then_exit (then_exit (blk_exit_eq ?_))))
   obtain rfl := hr1 _ (Option.some.inj h).symm
   exact then_normal ⟨_, rfl, S2, _, hF.sub _ (by kernel_rfl), hM1, hs⟩
 · obtain ⟨s1r, rfl, hM⟩ := hM
   obtain ⟨S3, F2, hF, hMx, hs⟩ := hM
   have hM0 := hM0.trans hMx
   refine wp_seq (wp_pure [(2, .bool true)] hF (by kernel_rfl) fun fr hF => then_normal ?_)
   obtain rfl := Option.some.inj h
   exact wp_ret (ret1 rfl hF rfl ⟨_, rfl, rfl, hM0.chg⟩)

theorem spec_l03Lits_ok (n : Nat) (p0 : List Int) (p1 : Int) {r : Bool} (h : spec_l03Lits n p0 p1 = some r) {w : World} {G0 : Nat → Prop} {va0 : Value} (ra0 : RV w G0 va0 p0) :
   Calls Try.prog 85 [va0, I p1].toArray w fun e w' => ∃ v, e = .returned v ∧ v = .bool r ∧ Chg Non w w' := by
 unfold spec_l03Lits at h
 have hs := Sep.nil w Non
 have hM0 : Mem w Non (fun k => (G0 k) ∧ k < w.heap.size) w Non (fun k => (G0 k) ∧ k < w.heap.size) := Mem.start (fun _ h => h.elim) (fun _ h => h.2) (fun _ h => h.elim)
 have ra0 := ra0.sub (F' := (fun k => (G0 k) ∧ k < w.heap.size)) (fun k hk h => ⟨h, hk⟩)
 obtain ⟨a1, c1, rfl, -⟩ := ra0.slice
 refine enter (N := 24) Try.func85 rfl Try.ntmps85 rfl fun fr hF => ?_
 refine wp_seq (wp_pure [(0, L a1 p0 c1), (1, I p1)] hF (by kernel_rfl) fun fr hF => then_normal ?_)
 refine wp_seq ?_
 refine wp_seq (wp_pure [(1, I p1), (7, L a1 p0 c1), (8, I (len p0)), (9, I 0)] hF (by kernel_rfl) fun fr hF => then_normal ?_)
 obtain ⟨rl1, hit1, h⟩ := bindE h
 have hk1 := h
 refine (wp_cut (M := fun fr w' => ∃ s, rl1 = .inl s ∧ ∃ S2 F2, FrS 24 [] fr ∧ Mem w Non (fun k => (G0 k) ∧ k < w.heap.size) w' S2 F2 ∧ Sep [] w' S2) (wp_block (wp_iter (Inv := fun s1 fr w' => ∃ S1 F1, FrS 24 [(1, I p1), (7, L a1 p0 c1), (8, I (len p0)), (9, I s1)] fr ∧ Mem w Non (fun k => (G0 k) ∧ k < w.heap.size) w' S1 F1 ∧ Sep [] w' S1) hit1 ⟨Non, _, hF.sub _ (by kernel_rfl), (Mem.start hM0.bd hM0.bdF hM0.dj), hs⟩ fun s1 q1 fr w1i hI h hr1 => ?_)) fun fr w1o hM => ?_)
 · obtain ⟨S1, F1, hF, hM1, hs⟩ := hI
   have ra0 := ra0.mem hM1
   refine wp_seq (wp_pure [(1, I p1), (7, L a1 p0 c1), (8, I (len p0)), (9, I s1), (10, .bool (decide (s1 < (len p0))))] hF (by kernel_rfl) fun fr hF => then_normal ?_)
   refine wp_seq (wp_if hF (b := (decide (s1 < (len p0)))) rfl (fun hb => ?_) (fun hb => ?_))
   · replace h := iteT hb h
     refine (wp_skip (then_normal ?_))
     refine wp_seq (wp_block ?_)
     refine wp_seq (wp_text' ?_)
     obtain ⟨x1, hx1, h⟩ := bindE h
     refine s_elemF (z := x1) (I x1) ty3 Try.underlying37 rfl rfl rfl rfl rfl hF rfl (ra0) rfl (get?_nn hx1) (get?_at hx1) rfl fun p fr hF => ?_
     refine from_pure 1 [(1, I p1), (6, I x1), (7, L a1 p0 c1), (8, I (len p0)), (9, I s1)] hF (by kernel_rfl) fun fr hF => ?_
     refine from_end rfl (then_normal ?_)
     obtain ⟨x2, hx2, h⟩ := bindE h
     refine wp_seq (region_b [] [true, true, true, true, true, true, true, false, true, true]
         [.eq (I x1), .eq (.bool (x1 == 0)), .eq (.bool (x1 == 0)), .eq (I x1), .eq (I p1), .eq (I (w64 (0 - p1))), .eq (I p1), .eq (.bool x2), .eq (.bool (!x2)), .eq (.bool ((x1 == 0) || (!x2)))]
         [(1, I p1), (7, L a1 p0 c1), (8, I (len p0)), (9, I s1), (22, .bool ((x1 == 0) || (!x2)))] mix hF (by kernel_rfl) (by kernel_rfl) (by kernel_rfl) ⟨Pd.mono_eq, trivial⟩ (fun hG => ⟨np_call [I x1, I (w64 (0 - p1)), I p1] hG hF Try.call70 rfl rfl (fun w hC hg => (spec_l01In_ok x1 (w64 (0 - p1)) p1 (iteF hg.2 hx2)).mono fun e w' ⟨v, he, hv, hc⟩ => ⟨v, he, hc, hv⟩), trivial⟩) (by kernel_rfl) fun fr w1 hF hE hc => then_normal ?_)
     have ra0 := ra0.ext hc
     have hs := hs.ext hc
     have hM1 := hM1.ext hc
     refine (wp_if hF (b := ((x1 == 0) || (!x2))) rfl (fun hb => ?_) (fun hb => ?_))
     · replace h := iteT hb h
       refine wp_seq (wp_pure [(4, .bool false)] hF (by kernel_rfl) fun fr hF => then_normal ?_)
       obtain rfl := hr1 _ (Option.some.inj h).symm
       obtain rfl := Option.some.inj hk1
       exact wp_ret (blk_ret (then_ret (then_ret (blk_ret (then_ret (ret1 rfl hF rfl ⟨_, rfl, rfl, (hM0.trans hM1).chg⟩))))))
     replace h := iteF hb h
     refine (wp_skip ?_)
     refine blk_normal (then_normal ?_)
     refine (wp_pure [(1, I p1), (7, L a1 p0 c1), (8, I (len p0)), (9, I (w64 (s1 + 1)))] hF (by kernel_rfl) fun fr hF => then_normal ?_)
     exact ⟨_, (Option.some.inj h).symm, S1, _, hF.sub _ (by kernel_rfl), hM1, hs⟩
   replace h := iteF hb h
   refine (wp_exit (then_exit (then_exit (blk_exit_eq ?_))))
   obtain rfl := hr1 _ (Option.some.inj h).symm
   exact then_normal ⟨_, rfl, S1, _, hF.sub _ (by kernel_rfl), hM1, hs⟩
 · obtain ⟨s1r, rfl, hM⟩ := hM
   obtain ⟨S2, F2, hF, hMx, hs⟩ := hM
   have hM0 := hM0.trans hMx
   refine wp_seq (wp_pure [(4, .bool true)] hF (by kernel_rfl) fun fr hF => then_normal ?_)
   obtain rfl := Option.some.inj h
   exact wp_ret (ret1 rfl hF rfl ⟨_, rfl, rfl, hM0.chg⟩)

theorem spec_l04Lits_ok (n : Nat) (p0 : D.Circuit) (p1 : List Int) {r : Bool} (h : spec_l04Lits n p0 p1 = some r) {w : World} {G0 : Nat → Prop} {va0 : Value} (ra0 : RV w G0 va0 p0) {G1 : Nat → Prop} {va1 : Value} (ra1 : RV w G1 va1 p1) :
   Calls Try.prog 44 [va0, va1].toArray w fun e w' => ∃ v, e = .returned v ∧ v = .bool r ∧ Chg Non w w' := by
 unfold spec_l04Lits at h
 have hs := Sep.nil w Non
 have hM0 : Mem w Non (fun k => (G0 k ∨ G1 k) ∧ k < w.heap.size) w Non (fun k => (G0 k ∨ G1 k) ∧ k < w.heap.size) := Mem.start (fun _ h => h.elim) (fun _ h => h.2) (fun _ h => h.elim)
 have ra0 := ra0.sub (F' := (fun k => (G0 k ∨ G1 k) ∧ k < w.heap.size)) (fun k hk h => ⟨.inl h, hk⟩)
 obtain ⟨v1, rfl, r1⟩ := RV.Circuit ra0
 obtain ⟨a1, c1, rfl, -⟩ := r1.slice
 have ra1 := ra1.sub (F' := (fun k => (G0 k ∨ G1 k) ∧ k < w.heap.size)) (fun k hk h => ⟨.inr (h), hk⟩)
 obtain ⟨a2, c2, rfl, -⟩ := ra1.slice
 refine enter (N := 14) Try.func44 rfl Try.ntmps44 rfl fun fr hF => ?_
 refine wp_seq (wp_text' ?_)
 refine q_box hs hM0 [I p0.Inputs, L a1 p0.Gates c1] rfl rfl hF rfl rfl fun b1 w1 S1 fr hs hp hF => ?_
 have r1 := r1.stp hM0 hp
 have ra1 := ra1.stp hM0 hp
 have hM0 := hM0.stp hp
 have hs : Sep [BX b1 28 [I p0.Inputs, L a1 p0.Gates c1]] w1 S1 := hs
 refine from_pure 1 [(1, L a2 p1 c2), (2, B b1 0)] hF (by kernel_rfl) fun fr hF => ?_
 refine from_end rfl (then_normal ?_)
 refine wp_seq (wp_text' ?_)
 refine from_pure 2 [(2, B b1 0), (5, L a2 p1 c2), (6, B b1 0)] hF (by kernel_rfl) fun fr hF => ?_
 refine s_loadBox (I p0.Inputs) ty3 rfl rfl hF rfl (hs.bx 0 rfl) rfl rfl fun fr hF => ?_
 refine from_pure 2 [(5, L a2 p1 c2), (8, I (w64 (p0.Inputs + 1))), (9, B b1 1)] hF (by kernel_rfl) fun fr hF => ?_
 refine s_loadBox (L a1 p0.Gates c1) ty26 rfl rfl hF rfl (hs.bx 0 rfl) rfl rfl fun fr hF => ?_
 have hs : Sep [] w1 S1 := Sep.pick [] hs (by decide) rfl
 refine from_pure 2 [(5, L a2 p1 c2), (12, I (w64 ((w64 (p0.Inputs + 1)) + (len p0.Gates))))] hF (by kernel_rfl) fun fr hF => ?_
 obtain ⟨x1, hx1, h⟩ := bindE h
 refine s_call [L a2 p1 c2, I (w64 ((w64 (p0.Inputs + 1)) + (len p0.Gates)))] Try.call85 rfl rfl hF rfl (spec_l03Lits_ok n p1 (w64 ((w64 (p0.Inputs + 1)) + (len p0.Gates))) hx1 (ra1)) fun v w2 fr hRes hF => ?_
 obtain ⟨rfl, hc⟩ := hRes
 have ra1 := ra1.ext hc
 have hs := hs.ext hc
 have hM0 := hM0.ext hc
 refine from_pure 1 [(4, .bool x1)] hF (by kernel_rfl) fun fr hF => ?_
 refine from_end rfl (then_normal ?_)
 obtain rfl := Option.some.inj h
 exact wp_ret (ret1 rfl hF rfl ⟨_, rfl, rfl, hM0.chg⟩)

theorem spec_l04New_ok (p0 : D.Circuit) {r : D.l04Net} (h : spec_l04New p0 = some r) {w : World} {G0 : Nat → Prop} {va0 : Value} (ra0 : RV w G0 va0 p0) :
   Calls Try.prog 45 [va0].toArray w fun e w' => ∃ v, e = .returned v ∧ ∃ b3 a1 c1, v = B b3 0 ∧ ∃ S', Stp w Non w' S' ∧ Sep [BX b3 76 [I r.c.Inputs, L a1 r.c.Gates c1, .bool r.full], sl59 (L a1 r.c.Gates c1) r.c.Gates] w' S' := by
 unfold spec_l04New at h
 have hs := Sep.nil w Non
 have hM0 : Mem w Non (fun k => (G0 k) ∧ k < w.heap.size) w Non (fun k => (G0 k) ∧ k < w.heap.size) := Mem.start (fun _ h => h.elim) (fun _ h => h.2) (fun _ h => h.elim)
 have ra0 := ra0.sub (F' := (fun k => (G0 k) ∧ k < w.heap.size)) (fun k hk h => ⟨h, hk⟩)
 obtain ⟨v1, rfl, r1⟩ := RV.Circuit ra0
 obtain ⟨a1, c1, rfl, -⟩ := r1.slice
 refine enter (N := 12) Try.func45 rfl Try.ntmps45 rfl fun fr hF => ?_
 refine wp_seq (wp_text' ?_)
 refine q_box hs hM0 [I p0.Inputs, L a1 p0.Gates c1] rfl rfl hF rfl rfl fun b1 w1 S1 fr hs hp hF => ?_
 have r1 := r1.stp hM0 hp
 have hM0 := hM0.stp hp
 have hs : Sep [BX b1 28 [I p0.Inputs, L a1 p0.Gates c1]] w1 S1 := hs
 refine from_pure 1 [(1, B b1 0)] hF (by kernel_rfl) fun fr hF => ?_
 refine from_end rfl (then_normal ?_)
 obtain ⟨x1, hx1, h⟩ := bindE h
 refine wp_seq (region_bm 6 [0, 1, 0, 0, 8, 28, 63, 127, 255, 511] [true, false, false, true, false, false]
     [.eq (B b1 0), .eq (I p0.Inputs), .is fun v _ => ∃ b, v = .slice b 0 0, .eq (B b1 1), .eq (L a1 p0.Gates c1), .own fun ow v w => ∃ i : Option Addr × Nat, v = L i.1 x1 i.2 ∧ (sl59 (L i.1 x1 i.2) x1).ok w (fun k => w1.heap.size ≤ k ∧ k < w.heap.size ∧ ow k = 5), .any, .any, .any, .any]
     [(4, I p0.Inputs)] mix hF (by kernel_rfl) (by kernel_rfl) (by kernel_rfl) (by kernel_rfl) ⟨Pd.monoO_eq, (Pd.monoO_is mono_lit0), Pd.monoO_eq, mono_new, trivial⟩ (fun ow hG => ⟨np_to ow (np_loadBox hG hF ty3 rfl rfl (hs.bx 0 rfl) rfl rfl rfl), np_to ow (np_lit0 (E := 59) hG hF rfl (fun w => by kernel_rfl) rfl), np_to ow (np_loadBox hG hF ty26 rfl rfl (hs.bx 0 rfl) rfl rfl rfl), np_appE (i := 2) (s := 5) hG hF Try.underlying26 el59 rfl rfl rfl rfl rfl rfl rfl (r1) (fun hg => hx1) rfl, trivial⟩) (by kernel_rfl) fun ow fr w2 hF hE hc => ?_)
 obtain ⟨⟨a2, c2⟩, hv, hnw5⟩ := hE.is 8 5 rfl rfl
 have hF := hF.cons hv
 have hsN := sepO (w0 := w1) (ow := ow) [(5, sl59 (L a2 x1 c2) x1)] (show ([5] : List Nat).Nodup by decide) ⟨hnw5, trivial⟩ rfl
 obtain ⟨S2, hp, hs⟩ := hs.got hM0 (stp_new hc) hsN
 have r1 := r1.stp hM0 hp
 have hM0 := hM0.stp hp
 have hs : Sep [sl59 (L a2 x1 c2) x1, BX b1 28 [I p0.Inputs, L a1 p0.Gates c1]] w2 S2 := hs
 have hs : Sep [sl59 (L a2 x1 c2) x1] w2 S2 := Sep.pick [0] hs (by decide) rfl
 refine from_pure 2 [(10, .agg #[I p0.Inputs, L a2 x1 c2, .bool false])] hF (by kernel_rfl) fun fr hF => ?_
 refine q_box hs hM0 [I p0.Inputs, L a2 x1 c2, .bool false] rfl rfl hF rfl rfl fun b2 w3 S3 fr hs hp hF => ?_
 have hM0 := hM0.stp hp
 have hs : Sep [BX b2 76 [I p0.Inputs, L a2 x1 c2, .bool false], sl59 (L a2 x1 c2) x1] w3 S3 := hs
 refine from_pure 1 [(2, B b2 0)] hF (by kernel_rfl) fun fr hF => ?_
 refine from_end rfl (then_normal ?_)
 obtain rfl := Option.some.inj h
 exact wp_ret (ret1 rfl hF rfl ⟨_, rfl, b2, a2, c2, rfl, S3, hM0.out, hs⟩)

theorem spec_l04Net_l04And_ok (n : Nat) (p0 : D.l04Net) (p1 : Int) (p2 : Int) {r : Int × D.l04Net} (h : spec_l04Net_l04And n p0 p1 p2 = some r) {w : World} {S0 F0 : Nat → Prop} {pa0 : Option Addr} {pn0 pc0 : Nat} {b1 : Nat} (hs : Sep [BX b1 76 [I p0.c.Inputs, .slice pa0 pn0 pc0, .bool p0.full], sl59 (.slice pa0 pn0 pc0) p0.c.Gates] w S0) (hb : ∀ k, S0 k → k < w.heap.size) (hd : ∀ k, S0 k → F0 k → False) :
   Calls Try.prog 46 [B b1 0, I p1, I p2].toArray w fun e w' => ∃ v, e = .returned v ∧ ∃ a1 c1, v = I r.1 ∧ ∃ S', Stp w S0 w' S' ∧ Sep [BX b1 76 [I r.2.c.Inputs, L a1 r.2.c.Gates c1, .bool r.2.full], sl59 (L a1 r.2.c.Gates c1) r.2.c.Gates] w' S' := by
 unfold spec_l04Net_l04And at h
 obtain ⟨hpn, hs⟩ := hs.relen 1 rfl
 subst hpn
 have hs : Sep [BX b1 76 [I p0.c.Inputs, L pa0 p0.c.Gates pc0, .bool p0.full], sl59 (L pa0 p0.c.Gates pc0) p0.c.Gates] w S0 := hs
 have hM0 : Mem w S0 (fun k => F0 k ∧ k < w.heap.size) w S0 (fun k => F0 k ∧ k < w.heap.size) := Mem.start hb (fun _ h => h.2) (fun k h1 h2 => hd k h1 h2.1)
 refine enter (N := 104) Try.func46 rfl Try.ntmps46 rfl fun fr hF => ?_
 refine wp_seq (wp_pure [(0, B b1 0), (1, I p1), (2, I p2)] hF (by kernel_rfl) fun fr hF => then_normal ?_)
 refine wp_seq (wp_block ?_)
 refine wp_seq (region_b [] [true, true, true, true, true, true, true, true, true, true, true, true, true]
     [.eq (I p1), .eq (.bool (p1 == (-1))), .eq (.bool (p1 == (-1))), .eq (I p2), .eq (.bool (p2 == (-1))), .eq (.bool ((p1 == (-1)) || (p2 == (-1)))), .eq (.bool ((p1 == (-1)) || (p2 == (-1)))), .eq (I p1), .eq (I p2), .eq (I (w64 (0 - p2))), .eq (.bool (p1 == (w64 (0 - p2)))), .eq (.bool (((p1 == (-1)) || (p2 == (-1))) || (p1 == (w64 (0 - p2))))), .eq (.bool (((p1 == (-1)) || (p2 == (-1))) || (p1 == (w64 (0 - p2)))))]
     [(0, B b1 0), (1, I p1), (2, I p2), (10, .bool (((p1 == (-1)) || (p2 == (-1))) || (p1 == (w64 (0 - p2)))))] mix hF (by kernel_rfl) (by kernel_rfl) (by kernel_rfl) trivial (fun hG => trivial) (by kernel_rfl) fun fr w1 hF hE hc => then_normal ?_)
 have hs := hs.ext hc
 have hM0 := hM0.ext hc
 refine (wp_if hF (b := (((p1 == (-1)) || (p2 == (-1))) || (p1 == (w64 (0 - p2))))) rfl (fun hb => ?_) (fun hb => ?_))
 · replace h := iteT hb h
   refine wp_seq (wp_pure [(6, I (-1))] hF (by kernel_rfl) fun fr hF => then_normal ?_)
   obtain rfl := Option.some.inj h
   exact wp_ret (blk_ret (then_ret (ret1 rfl hF rfl ⟨_, rfl, pa0, pc0, rfl, S0, hM0.out, hs⟩)))
 replace h := iteF hb h
 refine wp_seq (wp_pure [(0, B b1 0), (1, I p1), (2, I p2), (23, .bool (p1 == 1))] hF (by kernel_rfl) fun fr hF => then_normal ?_)
 refine (wp_if hF (b := (p1 == 1)) rfl (fun hb => ?_) (fun hb => ?_))
 · replace h := iteT hb h
   refine wp_seq (wp_pure [(6, I p2)] hF (by kernel_rfl) fun fr hF => then_normal ?_)
   obtain rfl := Option.some.inj h
   exact wp_ret (blk_ret (then_ret (ret1 rfl hF rfl ⟨_, rfl, pa0, pc0, rfl, S0, hM0.out, hs⟩)))
 replace h := iteF hb h
 refine wp_seq (region_b [] [true, true, true, true, true, true, true, true]
     [.eq (I p2), .eq (.bool (p2 == 1)), .eq (.bool (p2 == 1)), .eq (I p1), .eq (I p2), .eq (.bool (p1 == p2)), .eq (.bool ((p2 == 1) || (p1 == p2))), .eq (.bool ((p2 == 1) || (p1 == p2)))]
     [(0, B b1 0), (1, I p1), (2, I p2), (27, .bool ((p2 == 1) || (p1 == p2)))] mix hF (by kernel_rfl) (by kernel_rfl) (by kernel_rfl) trivial (fun hG => trivial) (by kernel_rfl) fun fr w2 hF hE hc => then_normal ?_)
 have hs := hs.ext hc
 have hM0 := hM0.ext hc
 refine (wp_if hF (b := ((p2 == 1) || (p1 == p2))) rfl (fun hb => ?_) (fun hb => ?_))
 · replace h := iteT hb h
   refine wp_seq (wp_pure [(6, I p1)] hF (by kernel_rfl) fun fr hF => then_normal ?_)
   obtain rfl := Option.some.inj h
   exact wp_ret (blk_ret (then_ret (ret1 rfl hF rfl ⟨_, rfl, pa0, pc0, rfl, S0, hM0.out, hs⟩)))
 replace h := iteF hb h
 refine (wp_skip ?_)
 refine blk_normal (then_normal ?_)
 refine wp_seq ?_
 refine wp_seq (wp_text' ?_)
 refine from_pure 1 [(0, B b1 0), (1, I p1), (2, I p2), (36, I p1)] hF (by kernel_rfl) fun fr hF => ?_
 obtain ⟨x1, hx1, h⟩ := bindE h
 refine s_call [I p1] Try.call84 rfl rfl hF rfl (spec_l03Abs_ok p1 hx1) fun v w3 fr hRes hF => ?_
 obtain ⟨rfl, hc⟩ := hRes
 have hs := hs.ext hc
 have hM0 := hM0.ext hc
 refine from_pure 1 [(0, B b1 0), (1, I p1), (2, I p2), (37, I x1), (38, I p2)] hF (by kernel_rfl) fun fr hF => ?_
 obtain ⟨x2, hx2, h⟩ := bindE h
 refine s_call [I p2] Try.call84 rfl rfl hF rfl (spec_l03Abs_ok p2 hx2) fun v w4 fr hRes hF => ?_
 obtain ⟨rfl, hc⟩ := hRes
 have hs := hs.ext hc
 have hM0 := hM0.ext hc
 refine from_pure 1 [(0, B b1 0), (1, I p1), (2, I p2), (40, .bool (decide (x1 > x2)))] hF (by kernel_rfl) fun fr hF => ?_
 refine from_end rfl (then_normal ?_)
 refine (wp_merge [(0, B b1 0), (1, I (cond (decide (x1 > x2)) p2 p1)), (2, I (cond (decide (x1 > x2)) p1 p2))] hF (b := (decide (x1 > x2))) rfl (fun hb => ?_) (fun hb => ?_) fun fr hF => then_normal ?_)
 · exact wp_pure [(0, B b1 0), (1, I p2), (2, I p1)] hF (by kernel_rfl) fun fr hF => ⟨rfl, rfl, hF.eqs (by first | (simp only [hb]; done) | (simp only [hb]; rfl))⟩
 · exact wp_skip ⟨rfl, rfl, (hF.sub [(0, B b1 0), (1, I p1), (2, I p2)] (by kernel_rfl)).eqs (by first | (simp only [hb]; done) | (simp only [hb]; rfl))⟩
 refine wp_seq (wp_text' ?_)
 refine from_pure 3 [(0, B b1 0), (45, .agg #[I (cond (decide (x1 > x2)) p2 p1), I (cond (decide (x1 > x2)) p1 p2)])] hF (by kernel_rfl) fun fr hF => ?_
 refine q_alloc (z := .agg #[I 0, I 0]) hs hM0 [I 0, I 0] rfl rfl hF (by kernel_rfl) rfl fun b2 w5 S1 fr hs hp hF => ?_
 have hM0 := hM0.stp hp
 have hs : Sep [BX b2 59 [I 0, I 0], BX b1 76 [I p0.c.Inputs, L pa0 p0.c.Gates pc0, .bool p0.full], sl59 (L pa0 p0.c.Gates pc0) p0.c.Gates] w5 S1 := hs
 refine q_storeBoxS 0 hs hM0 rfl [I (cond (decide (x1 > x2)) p2 p1), I (cond (decide (x1 > x2)) p1 p2)] rfl hF rfl rfl (by kernel_rfl) rfl rfl rfl fun w6 S2 hs hp hF => ?_
 have hM0 := hM0.stp hp
 have hs : Sep [BX b2 59 [I (cond (decide (x1 > x2)) p2 p1), I (cond (decide (x1 > x2)) p1 p2)], BX b1 76 [I p0.c.Inputs, L pa0 p0.c.Gates pc0, .bool p0.full], sl59 (L pa0 p0.c.Gates pc0) p0.c.Gates] w6 S2 := hs
 refine from_end rfl (then_normal ?_)
 refine wp_seq ?_
 refine wp_seq (wp_text' ?_)
 refine from_pure 4 [(0, B b1 0), (7, B b2 0), (49, B b1 1)] hF (by kernel_rfl) fun fr hF => ?_
 refine s_loadBox (L pa0 p0.c.Gates pc0) ty26 rfl rfl hF rfl (hs.bx 1 rfl) rfl rfl fun fr hF => ?_
 refine from_pure 2 [(0, B b1 0), (7, B b2 0), (50, L pa0 p0.c.Gates pc0), (51, I (len p0.c.Gates)), (52, I 0)] hF (by kernel_rfl) fun fr hF => ?_
 refine from_end rfl (then_normal ?_)
 obtain ⟨rl1, hit1, h⟩ := bindE h
 have hk1 := h
 refine (wp_cut (M := fun fr w' => ∃ s, rl1 = .inl s ∧ ∃ S4 F2, FrS 104 [(0, B b1 0), (7, B b2 0)] fr ∧ Mem w6 S2 (fun k => F0 k ∧ k < w.heap.size) w' S4 F2 ∧ Sep [BX b2 59 [I (cond (decide (x1 > x2)) p2 p1), I (cond (decide (x1 > x2)) p1 p2)], BX b1 76 [I p0.c.Inputs, L pa0 p0.c.Gates pc0, .bool p0.full], sl59 (L pa0 p0.c.Gates pc0) p0.c.Gates] w' S4) (wp_block (wp_iter (Inv := fun s1 fr w' => ∃ S3 F1, FrS 104 [(0, B b1 0), (7, B b2 0), (50, L pa0 p0.c.Gates pc0), (51, I (len p0.c.Gates)), (52, I s1)] fr ∧ Mem w6 S2 (fun k => F0 k ∧ k < w.heap.size) w' S3 F1 ∧ Sep [BX b2 59 [I (cond (decide (x1 > x2)) p2 p1), I (cond (decide (x1 > x2)) p1 p2)], BX b1 76 [I p0.c.Inputs, L pa0 p0.c.Gates pc0, .bool p0.full], sl59 (L pa0 p0.c.Gates pc0) p0.c.Gates] w' S3) hit1 ⟨S2, _, hF.sub _ (by kernel_rfl), (Mem.start hM0.bd hM0.bdF hM0.dj), hs⟩ fun s1 q1 fr w1i hI h hr1 => ?_)) fun fr w1o hM => ?_)
 · obtain ⟨S3, F1, hF, hM1, hs⟩ := hI
   refine wp_seq (wp_pure [(0, B b1 0), (7, B b2 0), (50, L pa0 p0.c.Gates pc0), (51, I (len p0.c.Gates)), (52, I s1), (53, .bool (decide (s1 < (len p0.c.Gates))))] hF (by kernel_rfl) fun fr hF => then_normal ?_)
   refine wp_seq (wp_if hF (b := (decide (s1 < (len p0.c.Gates)))) rfl (fun hb => ?_) (fun hb => ?_))
   · replace h := iteT hb h
     refine (wp_skip (then_normal ?_))
     refine wp_seq (wp_block ?_)
     refine wp_seq (wp_text' ?_)
     refine from_pure 1 [(0, B b1 0), (7, B b2 0), (50, L pa0 p0.c.Gates pc0), (51, I (len p0.c.Gates)), (52, I s1), (54, I s1)] hF (by kernel_rfl) fun fr hF => ?_
     obtain ⟨x3, hx3, h⟩ := bindE h
     refine s_elemF (z := x3) (.agg #[I x3.A, I x3.B]) ty59 Try.underlying26 rfl rfl rfl rfl rfl hF rfl (hs.rv 2 rfl) rfl (get?_nn hx3) (get?_at hx3) rfl fun p fr hF => ?_
     refine q_alloc (z := .agg #[I 0, I 0]) hs hM1 [I 0, I 0] rfl rfl hF (by kernel_rfl) rfl fun b3 w7 S5 fr hs hp hF => ?_
     have hM1 := hM1.stp hp
     have hs : Sep [BX b3 59 [I 0, I 0], BX b2 59 [I (cond (decide (x1 > x2)) p2 p1), I (cond (decide (x1 > x2)) p1 p2)], BX b1 76 [I p0.c.Inputs, L pa0 p0.c.Gates pc0, .bool p0.full], sl59 (L pa0 p0.c.Gates pc0) p0.c.Gates] w7 S5 := hs
     refine from_pure 1 [(0, B b1 0), (7, B b2 0), (8, I s1), (9, B b3 0), (50, L pa0 p0.c.Gates pc0), (51, I (len p0.c.Gates)), (52, I s1), (56, .agg #[I x3.A, I x3.B])] hF (by kernel_rfl) fun fr hF => ?_
     refine q_storeBoxS 0 hs hM1 rfl [I x3.A, I x3.B] rfl hF rfl rfl (by kernel_rfl) rfl rfl rfl fun w8 S6 hs hp hF => ?_
     have hM1 := hM1.stp hp
     have hs : Sep [BX b3 59 [I x3.A, I x3.B], BX b2 59 [I (cond (decide (x1 > x2)) p2 p1), I (cond (decide (x1 > x2)) p1 p2)], BX b1 76 [I p0.c.Inputs, L pa0 p0.c.Gates pc0, .bool p0.full], sl59 (L pa0 p0.c.Gates pc0) p0.c.Gates] w8 S6 := hs
     refine from_end rfl (then_normal ?_)
     refine wp_seq (wp_text' ?_)
     refine s_loadBoxS ty59 rfl rfl hF rfl (hs.bx 1 rfl) rfl rfl fun fr hF => ?_
     refine s_loadBoxS ty59 rfl rfl hF rfl (hs.bx 0 rfl) rfl rfl fun fr hF => ?_
     have hs : Sep [BX b2 59 [I (cond (decide (x1 > x2)) p2 p1), I (cond (decide (x1 > x2)) p1 p2)], BX b1 76 [I p0.c.Inputs, L pa0 p0.c.Gates pc0, .bool p0.full], sl59 (L pa0 p0.c.Gates pc0) p0.c.Gates] w8 S6 := Sep.pick [1, 2, 3] hs (by decide) rfl
     refine s_bin rfl rfl hF rfl rfl (eqg59 _ _ _ _ _) (eq59 (D.Gate.mk (cond (decide (x1 > x2)) p2 p1) (cond (decide (x1 > x2)) p1 p2)) x3 _) fun fr hF => ?_
     refine from_end rfl (then_normal ?_)
     refine (wp_if hF (b := (decide ((D.Gate.mk (cond (decide (x1 > x2)) p2 p1) (cond (decide (x1 > x2)) p1 p2)) = x3))) rfl (fun hb => ?_) (fun hb => ?_))
     · replace h := iteT hb h
       have hs : Sep [BX b1 76 [I p0.c.Inputs, L pa0 p0.c.Gates pc0, .bool p0.full], sl59 (L pa0 p0.c.Gates pc0) p0.c.Gates] w8 S6 := Sep.pick [1, 2] hs (by decide) rfl
       refine wp_seq (wp_text' ?_)
       refine from_pure 4 [(8, I s1), (63, B b1 0)] hF (by kernel_rfl) fun fr hF => ?_
       refine s_loadBox (I p0.c.Inputs) ty3 rfl rfl hF rfl (hs.bx 0 rfl) rfl rfl fun fr hF => ?_
       refine from_pure 4 [(6, I (w64 ((w64 (p0.c.Inputs + 2)) + s1)))] hF (by kernel_rfl) fun fr hF => ?_
       refine from_end rfl (then_normal ?_)
       obtain rfl := hr1 _ (Option.some.inj h).symm
       obtain rfl := Option.some.inj hk1
       exact wp_ret (blk_ret (then_ret (then_ret (blk_ret (then_ret (ret1 rfl hF rfl ⟨_, rfl, pa0, pc0, rfl, S6, (hM0.trans hM1).out, hs⟩))))))
     replace h := iteF hb h
     refine (wp_skip ?_)
     refine blk_normal (then_normal ?_)
     refine (wp_pure [(0, B b1 0), (7, B b2 0), (50, L pa0 p0.c.Gates pc0), (51, I (len p0.c.Gates)), (52, I (w64 (s1 + 1)))] hF (by kernel_rfl) fun fr hF => then_normal ?_)
     exact ⟨_, (Option.some.inj h).symm, S6, _, hF.sub _ (by kernel_rfl), hM1, hs⟩
   replace h := iteF hb h
   refine (wp_exit (then_exit (then_exit (blk_exit_eq ?_))))
   obtain rfl := hr1 _ (Option.some.inj h).symm
   exact then_normal ⟨_, rfl, S3, _, hF.sub _ (by kernel_rfl), hM1, hs⟩
 · obtain ⟨s1r, rfl, hM⟩ := hM
   obtain ⟨S4, F2, hF, hMx, hs⟩ := hM
   have hM0 := hM0.trans hMx
   refine wp_seq ?_
   refine wp_seq (wp_text' ?_)
   refine from_pure 4 [(0, B b1 0), (7, B b2 0), (72, B b1 1)] hF (by kernel_rfl) fun fr hF => ?_
   refine s_loadBox (L pa0 p0.c.Gates pc0) ty26 rfl rfl hF rfl (hs.bx 1 rfl) rfl rfl fun fr hF => ?_
   refine from_pure 2 [(0, B b1 0), (7, B b2 0), (75, .bool (decide ((len p0.c.Gates) ≥ 360)))] hF (by kernel_rfl) fun fr hF => ?_
   refine from_end rfl (then_normal ?_)
   refine (wp_if hF (b := (decide ((len p0.c.Gates) ≥ 360))) rfl (fun hb => ?_) (fun hb => ?_))
   · replace h := iteT hb h
     have hs : Sep [BX b1 76 [I p0.c.Inputs, L pa0 p0.c.Gates pc0, .bool p0.full], sl59 (L pa0 p0.c.Gates pc0) p0.c.Gates] w1o S4 := Sep.pick [1, 2] hs (by decide) rfl
     refine wp_seq (wp_text' ?_)
     refine from_pure 3 [(78, B b1 2)] hF (by kernel_rfl) fun fr hF => ?_
     refine q_storeBox 0 hs hM0 rfl [I p0.c.Inputs, L pa0 p0.c.Gates pc0, .bool true] rfl hF rfl rfl (by kernel_rfl) rfl rfl rfl fun w9 S7 hs hp hF => ?_
     have hM0 := hM0.stp hp
     have hs : Sep [BX b1 76 [I p0.c.Inputs, L pa0 p0.c.Gates pc0, .bool true], sl59 (L pa0 p0.c.Gates pc0) p0.c.Gates] w9 S7 := hs
     refine from_end rfl (then_normal ?_)
     refine wp_seq (wp_pure [(6, I (-1))] hF (by kernel_rfl) fun fr hF => then_normal ?_)
     obtain rfl := Option.some.inj h
     exact wp_ret (then_ret (ret1 rfl hF rfl ⟨_, rfl, pa0, pc0, rfl, S7, hM0.out, hs⟩))
   replace h := iteF hb h
   refine (wp_skip (then_normal ?_))
   refine wp_seq (region_bf 8 0 [0, 0, 2, 6, 14, 30, 0, 64, 254, 511, 1023, 2047, 4095] [true, true, true, true, true, false, false, false]
       [.eq (B b1 0), .eq (B b1 0), .eq (B b1 0), .eq (B b1 0), .eq (B b1 1), .eq (L pa0 p0.c.Gates pc0), .eq (.agg #[I (cond (decide (x1 > x2)) p2 p1), I (cond (decide (x1 > x2)) p1 p2)]), .own fun ow v w => ∃ i : Option Addr × Nat, v = .slice i.1 (List.length ([(D.Gate.mk (cond (decide (x1 > x2)) p2 p1) (cond (decide (x1 > x2)) p1 p2))] : List D.Gate)) i.2 ∧ (sl59 (.slice i.1 (List.length ([(D.Gate.mk (cond (decide (x1 > x2)) p2 p1) (cond (decide (x1 > x2)) p1 p2))] : List D.Gate)) i.2) ([(D.Gate.mk (cond (decide (x1 > x2)) p2 p1) (cond (decide (x1 > x2)) p1 p2))] : List D.Gate)).ok w (fun k => w1o.heap.size ≤ k ∧ k < w.heap.size ∧ ow k = 7), .any, .any, .any, .any, .any]
       [(0, B b1 0), (79, B b1 0), (84, L pa0 p0.c.Gates pc0)] mix hF (by kernel_rfl) (fun _ _ _ _ _ h => h) (by kernel_rfl) (by kernel_rfl) (by kernel_rfl) ⟨Pd.monoO_eq, Pd.monoO_eq, mono_new, trivial⟩ (fun ow hG => ⟨np_to ow (np_loadBox hG hF ty26 rfl rfl (hs.bx 1 rfl) rfl rfl rfl), np_to ow (np_loadBoxS hG hF ty59 rfl rfl (hs.bx 0 rfl) rfl rfl rfl rfl), np_lit (E := 59) [I (cond (decide (x1 > x2)) p2 p1), I (cond (decide (x1 > x2)) p1 p2)] (([(D.Gate.mk (cond (decide (x1 > x2)) p2 p1) (cond (decide (x1 > x2)) p1 p2))] : List D.Gate).map Flat.enc) ([(D.Gate.mk (cond (decide (x1 > x2)) p2 p1) (cond (decide (x1 > x2)) p1 p2))] : List D.Gate) hG hF rfl [.agg #[I (cond (decide (x1 > x2)) p2 p1), I (cond (decide (x1 > x2)) p1 p2)]] rfl (fun w => by kernel_rfl) (fun w => css_flat _) rfl rfl rfl rfl, trivial⟩) (by kernel_rfl) fun ow fr w10 hF hE hc => ?_)
   obtain ⟨⟨a1, c1⟩, hv, hnw7⟩ := hE.is 86 7 rfl rfl
   have hF := hF.cons hv
   have hsN := sepO (w0 := w1o) (ow := ow) [(7, sl59 (.slice a1 (List.length ([(D.Gate.mk (cond (decide (x1 > x2)) p2 p1) (cond (decide (x1 > x2)) p1 p2))] : List D.Gate)) c1) ([(D.Gate.mk (cond (decide (x1 > x2)) p2 p1) (cond (decide (x1 > x2)) p1 p2))] : List D.Gate))] (show ([7] : List Nat).Nodup by decide) ⟨hnw7, trivial⟩ rfl
   obtain ⟨S8, hp, hs⟩ := hs.got hM0 (stp_new hc) hsN
   have hM0 := hM0.stp hp
   have hs : Sep [sl59 (.slice a1 (List.length ([(D.Gate.mk (cond (decide (x1 > x2)) p2 p1) (cond (decide (x1 > x2)) p1 p2))] : List D.Gate)) c1) ([(D.Gate.mk (cond (decide (x1 > x2)) p2 p1) (cond (decide (x1 > x2)) p1 p2))] : List D.Gate), BX b2 59 [I (cond (decide (x1 > x2)) p2 p1), I (cond (decide (x1 > x2)) p1 p2)], BX b1 76 [I p0.c.Inputs, L pa0 p0.c.Gates pc0, .bool p0.full], sl59 (L pa0 p0.c.Gates pc0) p0.c.Gates] w10 S8 := hs
   have hs : Sep [sl59 (.slice a1 (List.length ([(D.Gate.mk (cond (decide (x1 > x2)) p2 p1) (cond (decide (x1 > x2)) p1 p2))] : List D.Gate)) c1) ([(D.Gate.mk (cond (decide (x1 > x2)) p2 p1) (cond (decide (x1 > x2)) p1 p2))] : List D.Gate), BX b1 76 [I p0.c.Inputs, L pa0 p0.c.Gates pc0, .bool p0.full], sl59 (L pa0 p0.c.Gates pc0) p0.c.Gates] w10 S8 := Sep.pick [0, 2, 3] hs (by decide) rfl
   obtain ⟨x4, hx4, h⟩ := bindE h
   refine q_append 2 hs hM0 rfl Try.underlying26 el59 rfl rfl rfl hF rfl rfl (hs.rv 0 rfl) hx4 fun a2 c2 w11 S9 fr hs hp hF => ?_
   have hM0 := hM0.stp hp
   have hs : Sep [sl59 (.slice a1 (List.length ([(D.Gate.mk (cond (decide (x1 > x2)) p2 p1) (cond (decide (x1 > x2)) p1 p2))] : List D.Gate)) c1) ([(D.Gate.mk (cond (decide (x1 > x2)) p2 p1) (cond (decide (x1 > x2)) p1 p2))] : List D.Gate), BX b1 76 [I p0.c.Inputs, L pa0 p0.c.Gates pc0, .bool p0.full], sl59 (L a2 x4 c2) x4] w11 S9 := hs
   have hs : Sep [BX b1 76 [I p0.c.Inputs, L pa0 p0.c.Gates pc0, .bool p0.full], sl59 (L a2 x4 c2) x4] w11 S9 := Sep.pick [1, 2] hs (by decide) rfl
   refine from_pure 3 [(0, B b1 0), (87, L a2 x4 c2), (90, B b1 1)] hF (by kernel_rfl) fun fr hF => ?_
   refine q_storeBox 0 hs hM0 rfl [I p0.c.Inputs, L a2 x4 c2, .bool p0.full] rfl hF rfl rfl (by kernel_rfl) rfl rfl rfl fun w12 S10 hs hp hF => ?_
   have hM0 := hM0.stp hp
   have hs : Sep [BX b1 76 [I p0.c.Inputs, L a2 x4 c2, .bool p0.full], sl59 (L a2 x4 c2) x4] w12 S10 := hs
   refine from_end rfl (then_normal ?_)
   refine wp_seq (region_bm 14 [0, 1, 3, 7, 15, 31, 0, 64, 192, 448, 960, 1984, 4095, 8191] [true, true, true, true, false, true, true, true, true, true, false, true, true, true]
       [.eq (B b1 0), .eq (B b1 0), .eq (B b1 0), .eq (B b1 0), .eq (I p0.c.Inputs), .eq (I (w64 (p0.c.Inputs + 1))), .eq (B b1 0), .eq (B b1 0), .eq (B b1 0), .eq (B b1 1), .eq (L a2 x4 c2), .eq (I (len x4)), .eq (I (w64 ((w64 (p0.c.Inputs + 1)) + (len x4)))), .eq (I (w64 ((w64 (p0.c.Inputs + 1)) + (len x4))))]
       [(6, I (w64 ((w64 (p0.c.Inputs + 1)) + (len x4))))] mix hF (by kernel_rfl) (by kernel_rfl) (by kernel_rfl) (by kernel_rfl) ⟨Pd.monoO_eq, Pd.monoO_eq, trivial⟩ (fun ow hG => ⟨np_to ow (np_loadBox hG hF ty3 rfl rfl (hs.bx 0 rfl) rfl rfl rfl), np_to ow (np_loadBox hG hF ty26 rfl rfl (hs.bx 0 rfl) rfl rfl rfl), trivial⟩) (by kernel_rfl) fun ow fr w13 hF hE hc => ?_)
   have hs := hs.ext hc
   have hM0 := hM0.ext hc
   refine from_end rfl (then_normal ?_)
   obtain rfl := Option.some.inj h
   exact wp_ret (ret1 rfl hF rfl ⟨_, rfl, a2, c2, rfl, S10, hM0.out, hs⟩)

theorem spec_l04Net_l04Or_ok (n : Nat) (p0 : D.l04Net) (p1 : Int) (p2 : Int) {r : Int × D.l04Net} (h : spec_l04Net_l04Or n p0 p1 p2 = some r) {w : World} {S0 F0 : Nat → Prop} {pa0 : Option Addr} {pn0 pc0 : Nat} {b1 : Nat} (hs : Sep [BX b1 76 [I p0.c.Inputs, .slice pa0 pn0 pc0, .bool p0.full], sl59 (.slice pa0 pn0 pc0) p0.c.Gates] w S0) (hb : ∀ k, S0 k → k < w.heap.size) (hd : ∀ k, S0 k → F0 k → False) :
   Calls Try.prog 55 [B b1 0, I p1, I p2].toArray w fun e w' => ∃ v, e = .returned v ∧ ∃ a1 c1, v = I r.1 ∧ ∃ S', Stp w S0 w' S' ∧ Sep [BX b1 76 [I r.2.c.Inputs, L a1 r.2.c.Gates c1, .bool r.2.full], sl59 (L a1 r.2.c.Gates c1) r.2.c.Gates] w' S' := by
 unfold spec_l04Net_l04Or at h
 obtain ⟨hpn, hs⟩ := hs.relen 1 rfl
 subst hpn
 have hs : Sep [BX b1 76 [I p0.c.Inputs, L pa0 p0.c.Gates pc0, .bool p0.full], sl59 (L pa0 p0.c.Gates pc0) p0.c.Gates] w S0 := hs
 have hM0 : Mem w S0 (fun k => F0 k ∧ k < w.heap.size) w S0 (fun k => F0 k ∧ k < w.heap.size) := Mem.start hb (fun _ h => h.2) (fun k h1 h2 => hd k h1 h2.1)
 refine enter (N := 14) Try.func55 rfl Try.ntmps55 rfl fun fr hF => ?_
 refine wp_seq (wp_pure [(0, B b1 0), (1, I p1), (2, I p2)] hF (by kernel_rfl) fun fr hF => then_normal ?_)
 refine wp_seq (wp_text' ?_)
 refine from_pure 5 [(7, B b1 0), (9, I (w64 (0 - p1))), (11, I (w64 (0 - p2)))] hF (by kernel_rfl) fun fr hF => ?_
 obtain ⟨x1, hx1, h⟩ := bindE h
 obtain ⟨A1, R1, hsA, hsR, hdA, hbA, hup⟩ := Sep.call (L1 := [BX b1 76 [I p0.c.Inputs, L pa0 p0.c.Gates pc0, .bool p0.full], sl59 (L pa0 p0.c.Gates pc0) p0.c.Gates]) (L2 := []) hs hM0
 refine s_call [B b1 0, I (w64 (0 - p1)), I (w64 (0 - p2))] Try.call46 rfl rfl hF rfl (spec_l04Net_l04And_ok n p0 (w64 (0 - p1)) (w64 (0 - p2)) hx1 hsA hbA hdA) fun v w1 fr hRes hF => ?_
 obtain ⟨a1, c1, rfl, _, hp, hs⟩ := hRes
 obtain ⟨S1, hp, hs⟩ := hup hp hs
 have hM0 := hM0.stp hp
 have hs : Sep [BX b1 76 [I x1.2.c.Inputs, L a1 x1.2.c.Gates c1, .bool x1.2.full], sl59 (L a1 x1.2.c.Gates c1) x1.2.c.Gates] w1 S1 := hs
 refine from_pure 2 [(6, I (w64 (0 - x1.1)))] hF (by kernel_rfl) fun fr hF => ?_
 refine from_end rfl (then_normal ?_)
 obtain rfl := Option.some.inj h
 exact wp_ret (ret1 rfl hF rfl ⟨_, rfl, a1, c1, rfl, S1, hM0.out, hs⟩)

theorem spec_l04Net_l04Xor_ok (n : Nat) (p0 : D.l04Net) (p1 : Int) (p2 : Int) {r : Int × D.l04Net} (h : spec_l04Net_l04Xor n p0 p1 p2 = some r) {w : World} {S0 F0 : Nat → Prop} {pa0 : Option Addr} {pn0 pc0 : Nat} {b1 : Nat} (hs : Sep [BX b1 76 [I p0.c.Inputs, .slice pa0 pn0 pc0, .bool p0.full], sl59 (.slice pa0 pn0 pc0) p0.c.Gates] w S0) (hb : ∀ k, S0 k → k < w.heap.size) (hd : ∀ k, S0 k → F0 k → False) :
   Calls Try.prog 58 [B b1 0, I p1, I p2].toArray w fun e w' => ∃ v, e = .returned v ∧ ∃ a1 c1, v = I r.1 ∧ ∃ S', Stp w S0 w' S' ∧ Sep [BX b1 76 [I r.2.c.Inputs, L a1 r.2.c.Gates c1, .bool r.2.full], sl59 (L a1 r.2.c.Gates c1) r.2.c.Gates] w' S' := by
 unfold spec_l04Net_l04Xor at h
 obtain ⟨hpn, hs⟩ := hs.relen 1 rfl
 subst hpn
 have hs : Sep [BX b1 76 [I p0.c.Inputs, L pa0 p0.c.Gates pc0, .bool p0.full], sl59 (L pa0 p0.c.Gates pc0) p0.c.Gates] w S0 := hs
 have hM0 : Mem w S0 (fun k => F0 k ∧ k < w.heap.size) w S0 (fun k => F0 k ∧ k < w.heap.size) := Mem.start hb (fun _ h => h.2) (fun k h1 h2 => hd k h1 h2.1)
 refine enter (N := 23) Try.func58 rfl Try.ntmps58 rfl fun fr hF => ?_
 refine wp_seq (wp_pure [(0, B b1 0), (1, I p1), (2, I p2)] hF (by kernel_rfl) fun fr hF => then_normal ?_)
 refine wp_seq (wp_text' ?_)
 refine from_pure 4 [(0, B b1 0), (1, I p1), (2, I p2), (9, B b1 0), (10, I p1), (12, I (w64 (0 - p2)))] hF (by kernel_rfl) fun fr hF => ?_
 obtain ⟨x1, hx1, h⟩ := bindE h
 obtain ⟨A1, R1, hsA, hsR, hdA, hbA, hup⟩ := Sep.call (L1 := [BX b1 76 [I p0.c.Inputs, L pa0 p0.c.Gates pc0, .bool p0.full], sl59 (L pa0 p0.c.Gates pc0) p0.c.Gates]) (L2 := []) hs hM0
 refine s_call [B b1 0, I p1, I (w64 (0 - p2))] Try.call46 rfl rfl hF rfl (spec_l04Net_l04And_ok n p0 p1 (w64 (0 - p2)) hx1 hsA hbA hdA) fun v w1 fr hRes hF => ?_
 obtain ⟨a1, c1, rfl, _, hp, hs⟩ := hRes
 obtain ⟨S1, hp, hs⟩ := hup hp hs
 have hM0 := hM0.stp hp
 have hs : Sep [BX b1 76 [I x1.2.c.Inputs, L a1 x1.2.c.Gates c1, .bool x1.2.full], sl59 (L a1 x1.2.c.Gates c1) x1.2.c.Gates] w1 S1 := hs
 refine from_pure 1 [(0, B b1 0), (1, I p1), (2, I p2), (7, I x1.1)] hF (by kernel_rfl) fun fr hF => ?_
 refine from_end rfl (then_normal ?_)
 refine wp_seq (wp_text' ?_)
 refine from_pure 4 [(0, B b1 0), (7, I x1.1), (14, B b1 0), (16, I (w64 (0 - p1))), (17, I p2)] hF (by kernel_rfl) fun fr hF => ?_
 obtain ⟨x2, hx2, h⟩ := bindE h
 obtain ⟨A2, R2, hsA, hsR, hdA, hbA, hup⟩ := Sep.call (L1 := [BX b1 76 [I x1.2.c.Inputs, L a1 x1.2.c.Gates c1, .bool x1.2.full], sl59 (L a1 x1.2.c.Gates c1) x1.2.c.Gates]) (L2 := []) hs hM0
 refine s_call [B b1 0, I (w64 (0 - p1)), I p2] Try.call46 rfl rfl hF rfl (spec_l04Net_l04And_ok n x1.2 (w64 (0 - p1)) p2 hx2 hsA hbA hdA) fun v w2 fr hRes hF => ?_
 obtain ⟨a2, c2, rfl, _, hp, hs⟩ := hRes
 obtain ⟨S2, hp, hs⟩ := hup hp hs
 have hM0 := hM0.stp hp
 have hs : Sep [BX b1 76 [I x2.2.c.Inputs, L a2 x2.2.c.Gates c2, .bool x2.2.full], sl59 (L a2 x2.2.c.Gates c2) x2.2.c.Gates] w2 S2 := hs
 refine from_pure 1 [(0, B b1 0), (7, I x1.1), (8, I x2.1)] hF (by kernel_rfl) fun fr hF => ?_
 refine from_end rfl (then_normal ?_)
 refine wp_seq (wp_text' ?_)
 refine from_pure 3 [(19, B b1 0), (20, I x1.1), (21, I x2.1)] hF (by kernel_rfl) fun fr hF => ?_
 obtain ⟨x3, hx3, h⟩ := bindE h
 obtain ⟨A3, R3, hsA, hsR, hdA, hbA, hup⟩ := Sep.call (L1 := [BX b1 76 [I x2.2.c.Inputs, L a2 x2.2.c.Gates c2, .bool x2.2.full], sl59 (L a2 x2.2.c.Gates c2) x2.2.c.Gates]) (L2 := []) hs hM0
 refine s_call [B b1 0, I x1.1, I x2.1] Try.call55 rfl rfl hF rfl (spec_l04Net_l04Or_ok n x2.2 x1.1 x2.1 hx3 hsA hbA hdA) fun v w3 fr hRes hF => ?_
 obtain ⟨a3, c3, rfl, _, hp, hs⟩ := hRes
 obtain ⟨S3, hp, hs⟩ := hup hp hs
 have hM0 := hM0.stp hp
 have hs : Sep [BX b1 76 [I x3.2.c.Inputs, L a3 x3.2.c.Gates c3, .bool x3.2.full], sl59 (L a3 x3.2.c.Gates c3) x3.2.c.Gates] w3 S3 := hs
 refine from_pure 1 [(6, I x3.1)] hF (by kernel_rfl) fun fr hF => ?_
 refine from_end rfl (then_normal ?_)
 obtain rfl := Option.some.inj h
 exact wp_ret (ret1 rfl hF rfl ⟨_, rfl, a3, c3, rfl, S3, hM0.out, hs⟩)

theorem spec_l04Net_l04Add_ok (n : Nat) (p0 : D.l04Net) (p1 : List Int) (p2 : List Int) (p3 : Int) {r : (List Int) × Int × D.l04Net} (h : spec_l04Net_l04Add n p0 p1 p2 p3 = some r) {w : World} {S0 F0 : Nat → Prop} {pa0 : Option Addr} {pn0 pc0 : Nat} {b1 : Nat} (hs : Sep [BX b1 76 [I p0.c.Inputs, .slice pa0 pn0 pc0, .bool p0.full], sl59 (.slice pa0 pn0 pc0) p0.c.Gates] w S0) (hb : ∀ k, S0 k → k < w.heap.size) (hd : ∀ k, S0 k → F0 k → False) {va1 : Value} (ra1 : RV w F0 va1 p1) {va2 : Value} (ra2 : RV w F0 va2 p2) :
   Calls Try.prog 64 [B b1 0, va1, va2, I p3].toArray w fun e w' => ∃ v, e = .returned v ∧ ∃ a1 c1 a2 c2, v = .tuple #[L a1 r.1 c1, I r.2.1] ∧ ∃ S', Stp w S0 w' S' ∧ Sep [sl3 (L a1 r.1 c1) r.1, BX b1 76 [I r.2.2.c.Inputs, L a2 r.2.2.c.Gates c2, .bool r.2.2.full], sl59 (L a2 r.2.2.c.Gates c2) r.2.2.c.Gates] w' S' := by
 unfold spec_l04Net_l04Add at h
 obtain ⟨hpn, hs⟩ := hs.relen 1 rfl
 subst hpn
 have hs : Sep [BX b1 76 [I p0.c.Inputs, L pa0 p0.c.Gates pc0, .bool p0.full], sl59 (L pa0 p0.c.Gates pc0) p0.c.Gates] w S0 := hs
 have hM0 : Mem w S0 (fun k => F0 k ∧ k < w.heap.size) w S0 (fun k => F0 k ∧ k < w.heap.size) := Mem.start hb (fun _ h => h.2) (fun k h1 h2 => hd k h1 h2.1)
 have ra1 := ra1.sub (F' := (fun k => F0 k ∧ k < w.heap.size)) (fun k hk h => ⟨h, hk⟩)
 obtain ⟨a1, c1, rfl, -⟩ := ra1.slice
 have ra2 := ra2.sub (F' := (fun k => F0 k ∧ k < w.heap.size)) (fun k hk h => ⟨h, hk⟩)
 obtain ⟨a2, c2, rfl, -⟩ := ra2.slice
 refine enter (N := 59) Try.func64 rfl Try.ntmps64 rfl fun fr hF => ?_
 refine wp_seq (wp_pure [(0, B b1 0), (1, L a1 p1 c1), (2, L a2 p2 c2), (3, I p3)] hF (by kernel_rfl) fun fr hF => then_normal ?_)
 refine wp_seq (wp_text' ?_)
 refine q_lit (E := 3) hs hM0 [] (([] : List Int).map Flat.enc) ([] : List Int) rfl rfl hF [] rfl (fun w => by kernel_rfl) (css_flat _) rfl rfl rfl fun a3 c3 w1 S1 fr hs hp hF => ?_
 have ra1 := ra1.stp hM0 hp
 have ra2 := ra2.stp hM0 hp
 have hM0 := hM0.stp hp
 have hs : Sep [sl3 (L a3 ([] : List Int) c3) ([] : List Int), BX b1 76 [I p0.c.Inputs, L pa0 p0.c.Gates pc0, .bool p0.full], sl59 (L pa0 p0.c.Gates pc0) p0.c.Gates] w1 S1 := hs
 refine from_pure 1 [(0, B b1 0), (1, L a1 p1 c1), (2, L a2 p2 c2), (3, I p3), (10, L a3 ([] : List Int) c3)] hF (by kernel_rfl) fun fr hF => ?_
 refine from_end rfl (then_normal ?_)
 refine wp_seq ?_
 refine wp_seq (wp_pure [(0, B b1 0), (1, L a1 p1 c1), (2, L a2 p2 c2), (3, I p3), (10, L a3 ([] : List Int) c3), (17, I (len p1)), (18, I 0)] hF (by kernel_rfl) fun fr hF => then_normal ?_)
 obtain ⟨rl1, hit1, h⟩ := bindE h
 have hk1 := h
 refine (wp_cut (M := fun fr w' => ∃ a6 c6 a7 c7 S3 F2, FrS 59 [(3, I rl1.1), (10, L a6 rl1.2.1 c6)] fr ∧ Mem w1 S1 (fun k => F0 k ∧ k < w.heap.size) w' S3 F2 ∧ Sep [sl3 (L a6 rl1.2.1 c6) rl1.2.1, BX b1 76 [I rl1.2.2.1, L a7 rl1.2.2.2.2 c7, .bool rl1.2.2.2.1], sl59 (L a7 rl1.2.2.2.2 c7) rl1.2.2.2.2] w' S3) (wp_block (wp_iter (Inv := fun s1 fr w' => ∃ a4 c4 a5 c5 S2 F1, FrS 59 [(0, B b1 0), (1, L a1 p1 c1), (2, L a2 p2 c2), (3, I s1.1), (10, L a4 s1.2.2.1 c4), (17, I (len p1)), (18, I s1.2.1)] fr ∧ Mem w1 S1 (fun k => F0 k ∧ k < w.heap.size) w' S2 F1 ∧ Sep [sl3 (L a4 s1.2.2.1 c4) s1.2.2.1, BX b1 76 [I s1.2.2.2.1, L a5 s1.2.2.2.2.2 c5, .bool s1.2.2.2.2.1], sl59 (L a5 s1.2.2.2.2.2 c5) s1.2.2.2.2.2] w' S2) hit1 ⟨a3, c3, pa0, pc0, S1, _, hF.sub _ (by kernel_rfl), (Mem.start hM0.bd hM0.bdF hM0.dj), hs⟩ fun s1 q1 fr w1i hI h hr1 => ?_)) fun fr w1o hM => ?_)
 · obtain ⟨a4, c4, a5, c5, S2, F1, hF, hM1, hs⟩ := hI
   have ra1 := ra1.mem hM1
   have ra2 := ra2.mem hM1
   refine wp_seq (wp_pure [(0, B b1 0), (1, L a1 p1 c1), (2, L a2 p2 c2), (3, I s1.1), (10, L a4 s1.2.2.1 c4), (17, I (len p1)), (18, I s1.2.1), (19, .bool (decide (s1.2.1 < (len p1))))] hF (by kernel_rfl) fun fr hF => then_normal ?_)
   refine wp_seq (wp_if hF (b := (decide (s1.2.1 < (len p1)))) rfl (fun hb => ?_) (fun hb => ?_))
   · replace h := iteT hb h
     refine (wp_skip (then_normal ?_))
     refine wp_seq (wp_block ?_)
     refine wp_seq (wp_pure [(0, B b1 0), (1, L a1 p1 c1), (2, L a2 p2 c2), (3, I s1.1), (10, L a4 s1.2.2.1 c4), (11, I s1.2.1), (17, I (len p1)), (18, I s1.2.1)] hF (by kernel_rfl) fun fr hF => then_normal ?_)
     obtain ⟨x1, hx1, h⟩ := bindE h
     obtain ⟨x2, hx2, h⟩ := bindE h
     refine wp_seq (region_bm 9 [0, 0, 0, 6, 14, 0, 0, 96, 224, 511, 1023] [true, true, true, false, false, true, true, false, false]
         [.eq (B b1 0), .eq (L a1 p1 c1), .eq (I s1.2.1), .is fun v w => ElemP w (fun k => k < w1i.heap.size) v (x1 : Int), .eq (I x1), .eq (L a2 p2 c2), .eq (I s1.2.1), .is fun v w => ElemP w (fun k => k < w1i.heap.size) v (x2 : Int), .eq (I x2), .any, .any]
         [(0, B b1 0), (1, L a1 p1 c1), (2, L a2 p2 c2), (3, I s1.1), (10, L a4 s1.2.2.1 c4), (11, I s1.2.1), (17, I (len p1)), (18, I s1.2.1), (21, B b1 0), (25, I x1), (29, I x2)] mix hF (by kernel_rfl) (by kernel_rfl) (by kernel_rfl) (by kernel_rfl) ⟨(Pd.monoO_is mono_elem), Pd.monoO_eq, (Pd.monoO_is mono_elem), Pd.monoO_eq, trivial⟩ (fun ow hG => ⟨np_to ow (np_index hG hF ty3 Try.underlying37 rfl rfl (RV.sub (ra1) fun k hk _ => hk) rfl rfl (fun hg => ⟨get?_nn hx1, get?_at hx1⟩)), np_to ow (np_loadF (z := x1) (i := 3) hG hF ty3 rfl rfl rfl rfl rfl rfl rfl), np_to ow (np_index hG hF ty3 Try.underlying37 rfl rfl (RV.sub (ra2) fun k hk _ => hk) rfl rfl (fun hg => ⟨get?_nn hx2, get?_at hx2⟩)), np_to ow (np_loadF (z := x2) (i := 7) hG hF ty3 rfl rfl rfl rfl rfl rfl rfl), trivial⟩) (by kernel_rfl) fun ow fr w2 hF hE hc => ?_)
     have ra1 := ra1.ext hc
     have ra2 := ra2.ext hc
     have hs := hs.ext hc
     have hM1 := hM1.ext hc
     obtain ⟨x3, hx3, h⟩ := bindE h
     have hs : Sep [BX b1 76 [I s1.2.2.2.1, L a5 s1.2.2.2.2.2 c5, .bool s1.2.2.2.2.1], sl59 (L a5 s1.2.2.2.2.2 c5) s1.2.2.2.2.2, sl3 (L a4 s1.2.2.1 c4) s1.2.2.1] w2 S2 := Sep.pick [1, 2, 0] hs (by decide) rfl
     obtain ⟨A1, R1, hsA, hsR, hdA, hbA, hup⟩ := Sep.call (L1 := [BX b1 76 [I s1.2.2.2.1, L a5 s1.2.2.2.2.2 c5, .bool s1.2.2.2.2.1], sl59 (L a5 s1.2.2.2.2.2 c5) s1.2.2.2.2.2]) (L2 := [sl3 (L a4 s1.2.2.1 c4) s1.2.2.1]) hs hM1
     refine s_call [B b1 0, I x1, I x2] Try.call58 rfl rfl hF rfl (spec_l04Net_l04Xor_ok n (D.l04Net.mk (D.Circuit.mk s1.2.2.2.1 s1.2.2.2.2.2) s1.2.2.2.2.1) x1 x2 hx3 hsA hbA hdA) fun v w3 fr hRes hF => ?_
     obtain ⟨a8, c8, rfl, _, hp, hs⟩ := hRes
     obtain ⟨S4, hp, hs⟩ := hup hp hs
     have ra1 := ra1.stp hM1 hp
     have ra2 := ra2.stp hM1 hp
     have hM1 := hM1.stp hp
     have hs : Sep [BX b1 76 [I x3.2.c.Inputs, L a8 x3.2.c.Gates c8, .bool x3.2.full], sl59 (L a8 x3.2.c.Gates c8) x3.2.c.Gates, sl3 (L a4 s1.2.2.1 c4) s1.2.2.1] w3 S4 := hs
     refine from_pure 1 [(0, B b1 0), (1, L a1 p1 c1), (2, L a2 p2 c2), (3, I s1.1), (10, L a4 s1.2.2.1 c4), (11, I s1.2.1), (12, I x3.1), (17, I (len p1)), (18, I s1.2.1)] hF (by kernel_rfl) fun fr hF => ?_
     refine from_end rfl (then_normal ?_)
     refine wp_seq (wp_text' ?_)
     refine from_pure 4 [(0, B b1 0), (1, L a1 p1 c1), (2, L a2 p2 c2), (3, I s1.1), (11, I s1.2.1), (12, I x3.1), (17, I (len p1)), (18, I s1.2.1), (31, L a4 s1.2.2.1 c4), (32, B b1 0), (33, I x3.1), (34, I s1.1)] hF (by kernel_rfl) fun fr hF => ?_
     obtain ⟨x4, hx4, h⟩ := bindE h
     obtain ⟨A2, R2, hsA, hsR, hdA, hbA, hup⟩ := Sep.call (L1 := [BX b1 76 [I x3.2.c.Inputs, L a8 x3.2.c.Gates c8, .bool x3.2.full], sl59 (L a8 x3.2.c.Gates c8) x3.2.c.Gates]) (L2 := [sl3 (L a4 s1.2.2.1 c4) s1.2.2.1]) hs hM1
     refine s_call [B b1 0, I x3.1, I s1.1] Try.call58 rfl rfl hF rfl (spec_l04Net_l04Xor_ok n x3.2 x3.1 s1.1 hx4 hsA hbA hdA) fun v w4 fr hRes hF => ?_
     obtain ⟨a9, c9, rfl, _, hp, hs⟩ := hRes
     obtain ⟨S5, hp, hs⟩ := hup hp hs
     have ra1 := ra1.stp hM1 hp
     have ra2 := ra2.stp hM1 hp
     have hM1 := hM1.stp hp
     have hs : Sep [BX b1 76 [I x4.2.c.Inputs, L a9 x4.2.c.Gates c9, .bool x4.2.full], sl59 (L a9 x4.2.c.Gates c9) x4.2.c.Gates, sl3 (L a4 s1.2.2.1 c4) s1.2.2.1] w4 S5 := hs
     refine q_lit (E := 3) hs hM1 [I x4.1] (([x4.1] : List Int).map Flat.enc) ([x4.1] : List Int) rfl rfl hF [I x4.1] rfl (fun w => by kernel_rfl) (css_flat _) rfl rfl rfl fun a10 c10 w5 S6 fr hs hp hF => ?_
     have ra1 := ra1.stp hM1 hp
     have ra2 := ra2.stp hM1 hp
     have hM1 := hM1.stp hp
     have hs : Sep [sl3 (L a10 ([x4.1] : List Int) c10) ([x4.1] : List Int), BX b1 76 [I x4.2.c.Inputs, L a9 x4.2.c.Gates c9, .bool x4.2.full], sl59 (L a9 x4.2.c.Gates c9) x4.2.c.Gates, sl3 (L a4 s1.2.2.1 c4) s1.2.2.1] w5 S6 := hs
     obtain ⟨x5, hx5, h⟩ := bindE h
     refine q_append 3 hs hM1 rfl Try.underlying37 el3 rfl rfl rfl hF rfl rfl (hs.rv 0 rfl) hx5 fun a11 c11 w6 S7 fr hs hp hF => ?_
     have ra1 := ra1.stp hM1 hp
     have ra2 := ra2.stp hM1 hp
     have hM1 := hM1.stp hp
     have hs : Sep [sl3 (L a10 ([x4.1] : List Int) c10) ([x4.1] : List Int), BX b1 76 [I x4.2.c.Inputs, L a9 x4.2.c.Gates c9, .bool x4.2.full], sl59 (L a9 x4.2.c.Gates c9) x4.2.c.Gates, sl3 (L a11 x5 c11) x5] w6 S7 := hs
     have hs : Sep [BX b1 76 [I x4.2.c.Inputs, L a9 x4.2.c.Gates c9, .bool x4.2.full], sl59 (L a9 x4.2.c.Gates c9) x4.2.c.Gates, sl3 (L a11 x5 c11) x5] w6 S7 := Sep.pick [1, 2, 3] hs (by decide) rfl
     refine from_pure 1 [(0, B b1 0), (1, L a1 p1 c1), (2, L a2 p2 c2), (3, I s1.1), (10, L a11 x5 c11), (11, I s1.2.1), (12, I x3.1), (17, I (len p1)), (18, I s1.2.1)] hF (by kernel_rfl) fun fr hF => ?_
     refine from_end rfl (then_normal ?_)
     obtain ⟨x6, hx6, h⟩ := bindE h
     obtain ⟨x7, hx7, h⟩ := bindE h
     refine wp_seq (region_bm 9 [0, 0, 0, 6, 14, 0, 0, 96, 224, 511, 1023] [true, true, true, false, false, true, true, false, false]
         [.eq (B b1 0), .eq (L a1 p1 c1), .eq (I s1.2.1), .is fun v w => ElemP w (fun k => k < w6.heap.size) v (x6 : Int), .eq (I x6), .eq (L a2 p2 c2), .eq (I s1.2.1), .is fun v w => ElemP w (fun k => k < w6.heap.size) v (x7 : Int), .eq (I x7), .any, .any]
         [(0, B b1 0), (1, L a1 p1 c1), (2, L a2 p2 c2), (3, I s1.1), (10, L a11 x5 c11), (12, I x3.1), (17, I (len p1)), (18, I s1.2.1), (38, B b1 0), (42, I x6), (46, I x7)] mix hF (by kernel_rfl) (by kernel_rfl) (by kernel_rfl) (by kernel_rfl) ⟨(Pd.monoO_is mono_elem), Pd.monoO_eq, (Pd.monoO_is mono_elem), Pd.monoO_eq, trivial⟩ (fun ow hG => ⟨np_to ow (np_index hG hF ty3 Try.underlying37 rfl rfl (RV.sub (ra1) fun k hk _ => hk) rfl rfl (fun hg => ⟨get?_nn hx6, get?_at hx6⟩)), np_to ow (np_loadF (z := x6) (i := 3) hG hF ty3 rfl rfl rfl rfl rfl rfl rfl), np_to ow (np_index hG hF ty3 Try.underlying37 rfl rfl (RV.sub (ra2) fun k hk _ => hk) rfl rfl (fun hg => ⟨get?_nn hx7, get?_at hx7⟩)), np_to ow (np_loadF (z := x7) (i := 7) hG hF ty3 rfl rfl rfl rfl rfl rfl rfl), trivial⟩) (by kernel_rfl) fun ow fr w7 hF hE hc => ?_)
     have ra1 := ra1.ext hc
     have ra2 := ra2.ext hc
     have hs := hs.ext hc
     have hM1 := hM1.ext hc
     obtain ⟨x8, hx8, h⟩ := bindE h
     obtain ⟨A3, R3, hsA, hsR, hdA, hbA, hup⟩ := Sep.call (L1 := [BX b1 76 [I x4.2.c.Inputs, L a9 x4.2.c.Gates c9, .bool x4.2.full], sl59 (L a9 x4.2.c.Gates c9) x4.2.c.Gates]) (L2 := [sl3 (L a11 x5 c11) x5]) hs hM1
     refine s_call [B b1 0, I x6, I x7] Try.call46 rfl rfl hF rfl (spec_l04Net_l04And_ok n x4.2 x6 x7 hx8 hsA hbA hdA) fun v w8 fr hRes hF => ?_
     obtain ⟨a12, c12, rfl, _, hp, hs⟩ := hRes
     obtain ⟨S8, hp, hs⟩ := hup hp hs
     have ra1 := ra1.stp hM1 hp
     have ra2 := ra2.stp hM1 hp
     have hM1 := hM1.stp hp
     have hs : Sep [BX b1 76 [I x8.2.c.Inputs, L a12 x8.2.c.Gates c12, .bool x8.2.full], sl59 (L a12 x8.2.c.Gates c12) x8.2.c.Gates, sl3 (L a11 x5 c11) x5] w8 S8 := hs
     refine from_pure 1 [(0, B b1 0), (1, L a1 p1 c1), (2, L a2 p2 c2), (3, I s1.1), (10, L a11 x5 c11), (12, I x3.1), (13, I x8.1), (17, I (len p1)), (18, I s1.2.1)] hF (by kernel_rfl) fun fr hF => ?_
     refine from_end rfl (then_normal ?_)
     refine wp_seq (wp_text' ?_)
     refine from_pure 3 [(0, B b1 0), (1, L a1 p1 c1), (2, L a2 p2 c2), (10, L a11 x5 c11), (13, I x8.1), (17, I (len p1)), (18, I s1.2.1), (48, B b1 0), (49, I x3.1), (50, I s1.1)] hF (by kernel_rfl) fun fr hF => ?_
     obtain ⟨x9, hx9, h⟩ := bindE h
     obtain ⟨A4, R4, hsA, hsR, hdA, hbA, hup⟩ := Sep.call (L1 := [BX b1 76 [I x8.2.c.Inputs, L a12 x8.2.c.Gates c12, .bool x8.2.full], sl59 (L a12 x8.2.c.Gates c12) x8.2.c.Gates]) (L2 := [sl3 (L a11 x5 c11) x5]) hs hM1
     refine s_call [B b1 0, I x3.1, I s1.1] Try.call46 rfl rfl hF rfl (spec_l04Net_l04And_ok n x8.2 x3.1 s1.1 hx9 hsA hbA hdA) fun v w9 fr hRes hF => ?_
     obtain ⟨a13, c13, rfl, _, hp, hs⟩ := hRes
     obtain ⟨S9, hp, hs⟩ := hup hp hs
     have ra1 := ra1.stp hM1 hp
     have ra2 := ra2.stp hM1 hp
     have hM1 := hM1.stp hp
     have hs : Sep [BX b1 76 [I x9.2.c.Inputs, L a13 x9.2.c.Gates c13, .bool x9.2.full], sl59 (L a13 x9.2.c.Gates c13) x9.2.c.Gates, sl3 (L a11 x5 c11) x5] w9 S9 := hs
     refine from_pure 1 [(0, B b1 0), (1, L a1 p1 c1), (2, L a2 p2 c2), (10, L a11 x5 c11), (13, I x8.1), (14, I x9.1), (17, I (len p1)), (18, I s1.2.1)] hF (by kernel_rfl) fun fr hF => ?_
     refine from_end rfl (then_normal ?_)
     refine (wp_text' ?_)
     refine from_pure 3 [(0, B b1 0), (1, L a1 p1 c1), (2, L a2 p2 c2), (10, L a11 x5 c11), (17, I (len p1)), (18, I s1.2.1), (52, B b1 0), (53, I x8.1), (54, I x9.1)] hF (by kernel_rfl) fun fr hF => ?_
     obtain ⟨x10, hx10, h⟩ := bindE h
     obtain ⟨A5, R5, hsA, hsR, hdA, hbA, hup⟩ := Sep.call (L1 := [BX b1 76 [I x9.2.c.Inputs, L a13 x9.2.c.Gates c13, .bool x9.2.full], sl59 (L a13 x9.2.c.Gates c13) x9.2.c.Gates]) (L2 := [sl3 (L a11 x5 c11) x5]) hs hM1
     refine s_call [B b1 0, I x8.1, I x9.1] Try.call55 rfl rfl hF rfl (spec_l04Net_l04Or_ok n x9.2 x8.1 x9.1 hx10 hsA hbA hdA) fun v w10 fr hRes hF => ?_
     obtain ⟨a14, c14, rfl, _, hp, hs⟩ := hRes
     obtain ⟨S10, hp, hs⟩ := hup hp hs
     have ra1 := ra1.stp hM1 hp
     have ra2 := ra2.stp hM1 hp
     have hM1 := hM1.stp hp
     have hs : Sep [BX b1 76 [I x10.2.c.Inputs, L a14 x10.2.c.Gates c14, .bool x10.2.full], sl59 (L a14 x10.2.c.Gates c14) x10.2.c.Gates, sl3 (L a11 x5 c11) x5] w10 S10 := hs
     refine from_pure 1 [(0, B b1 0), (1, L a1 p1 c1), (2, L a2 p2 c2), (3, I x10.1), (10, L a11 x5 c11), (17, I (len p1)), (18, I s1.2.1)] hF (by kernel_rfl) fun fr hF => ?_
     refine from_end rfl ?_
     refine blk_normal (then_normal ?_)
     refine (wp_pure [(0, B b1 0), (1, L a1 p1 c1), (2, L a2 p2 c2), (3, I x10.1), (10, L a11 x5 c11), (17, I (len p1)), (18, I (w64 (s1.2.1 + 1)))] hF (by kernel_rfl) fun fr hF => then_normal ?_)
     have hs : Sep [sl3 (L a11 x5 c11) x5, BX b1 76 [I x10.2.c.Inputs, L a14 x10.2.c.Gates c14, .bool x10.2.full], sl59 (L a14 x10.2.c.Gates c14) x10.2.c.Gates] w10 S10 := Sep.pick [2, 0, 1] hs (by decide) rfl
     exact ⟨_, (Option.some.inj h).symm, a11, c11, a14, c14, S10, _, hF.sub _ (by kernel_rfl), hM1, hs⟩
   replace h := iteF hb h
   refine (wp_exit (then_exit (then_exit (blk_exit_eq ?_))))
   obtain rfl := hr1 _ (Option.some.inj h).symm
   exact then_normal ⟨a4, c4, a5, c5, S2, _, hF.sub _ (by kernel_rfl), hM1, hs⟩
 · obtain ⟨a6, c6, a7, c7, S3, F2, hF, hMx, hs⟩ := hM
   have hM0 := hM0.trans hMx
   refine wp_seq (wp_pure [(8, L a6 rl1.2.1 c6), (9, I rl1.1)] hF (by kernel_rfl) fun fr hF => then_normal ?_)
   have hrets := fun {σ : List (Nat × Value)} (h : σ = [(8, L a6 rl1.2.1 c6), (9, I rl1.1)]) => (by subst h; exact (Rets.tmp rfl (Rets.tmp rfl Rets.nil)) : Rets Try.prog σ w1o [.tmp 8, .tmp 9] [L a6 rl1.2.1 c6, I rl1.1])
   obtain rfl := Option.some.inj h
   exact wp_ret (retG (rs := [.tmp 8, .tmp 9]) rfl (hF.sub [(8, L a6 rl1.2.1 c6), (9, I rl1.1)] (by kernel_rfl)) (hrets rfl) rfl ⟨_, rfl, a6, c6, a7, c7, rfl, S3, hM0.out, hs⟩)

theorem spec_l04Not_ok (n : Nat) (p0 : List Int) {r : (List Int)} (h : spec_l04Not n p0 = some r) {w : World} {G0 : Nat → Prop} {va0 : Value} (ra0 : RV w G0 va0 p0) :
   Calls Try.prog 89 [va0].toArray w fun e w' => ∃ v, e = .returned v ∧ ∃ a1 c1, v = L a1 r c1 ∧ ∃ S', Stp w Non w' S' ∧ Sep [sl3 (L a1 r c1) r] w' S' := by
 unfold spec_l04Not at h
 have hs := Sep.nil w Non
 have hM0 : Mem w Non (fun k => (G0 k) ∧ k < w.heap.size) w Non (fun k => (G0 k) ∧ k < w.heap.size) := Mem.start (fun _ h => h.elim) (fun _ h => h.2) (fun _ h => h.elim)
 have ra0 := ra0.sub (F' := (fun k => (G0 k) ∧ k < w.heap.size)) (fun k hk h => ⟨h, hk⟩)
 obtain ⟨a1, c1, rfl, -⟩ := ra0.slice
 refine enter (N := 20) Try.func89 rfl Try.ntmps89 rfl fun fr hF => ?_
 refine wp_seq (wp_pure [(0, L a1 p0 c1)] hF (by kernel_rfl) fun fr hF => then_normal ?_)
 refine wp_seq (wp_text' ?_)
 refine q_lit (E := 3) hs hM0 [] (([] : List Int).map Flat.enc) ([] : List Int) rfl rfl hF [] rfl (fun w => by kernel_rfl) (css_flat _) rfl rfl rfl fun a2 c2 w1 S1 fr hs hp hF => ?_
 have ra0 := ra0.stp hM0 hp
 have hM0 := hM0.stp hp
 have hs : Sep [sl3 (L a2 ([] : List Int) c2) ([] : List Int)] w1 S1 := hs
 refine from_pure 1 [(0, L a1 p0 c1), (3, L a2 ([] : List Int) c2)] hF (by kernel_rfl) fun fr hF => ?_
 refine from_end rfl (then_normal ?_)
 refine wp_seq ?_
 refine wp_seq (wp_pure [(3, L a2 ([] : List Int) c2), (7, L a1 p0 c1), (8, I (len p0)), (9, I 0)] hF (by kernel_rfl) fun fr hF => then_normal ?_)
 obtain ⟨rl1, hit1, h⟩ := bindE h
 have hk1 := h
 refine (wp_cut (M := fun fr w' => ∃ a4 c4 S3 F2, FrS 20 [(3, L a4 rl1 c4)] fr ∧ Mem w1 S1 (fun k => (G0 k) ∧ k < w.heap.size) w' S3 F2 ∧ Sep [sl3 (L a4 rl1 c4) rl1] w' S3) (wp_block (wp_iter (Inv := fun s1 fr w' => ∃ a3 c3 S2 F1, FrS 20 [(3, L a3 s1.2 c3), (7, L a1 p0 c1), (8, I (len p0)), (9, I s1.1)] fr ∧ Mem w1 S1 (fun k => (G0 k) ∧ k < w.heap.size) w' S2 F1 ∧ Sep [sl3 (L a3 s1.2 c3) s1.2] w' S2) hit1 ⟨a2, c2, S1, _, hF.sub _ (by kernel_rfl), (Mem.start hM0.bd hM0.bdF hM0.dj), hs⟩ fun s1 q1 fr w1i hI h hr1 => ?_)) fun fr w1o hM => ?_)
 · obtain ⟨a3, c3, S2, F1, hF, hM1, hs⟩ := hI
   have ra0 := ra0.mem hM1
   refine wp_seq (wp_pure [(3, L a3 s1.2 c3), (7, L a1 p0 c1), (8, I (len p0)), (9, I s1.1), (10, .bool (decide (s1.1 < (len p0))))] hF (by kernel_rfl) fun fr hF => then_normal ?_)
   refine wp_seq (wp_if hF (b := (decide (s1.1 < (len p0)))) rfl (fun hb => ?_) (fun hb => ?_))
   · replace h := iteT hb h
     refine (wp_skip (then_normal ?_))
     refine wp_seq (wp_block ?_)
     refine wp_seq (wp_text' ?_)
     obtain ⟨x1, hx1, h⟩ := bindE h
     refine s_elemF (z := x1) (I x1) ty3 Try.underlying37 rfl rfl rfl rfl rfl hF rfl (ra0) rfl (get?_nn hx1) (get?_at hx1) rfl fun p fr hF => ?_
     refine from_pure 1 [(3, L a3 s1.2 c3), (5, I x1), (7, L a1 p0 c1), (8, I (len p0)), (9, I s1.1)] hF (by kernel_rfl) fun fr hF => ?_
     refine from_end rfl (then_normal ?_)
     refine (wp_text' ?_)
     refine from_pure 3 [(7, L a1 p0 c1), (8, I (len p0)), (9, I s1.1), (13, L a3 s1.2 c3), (15, I (w64 (0 - x1)))] hF (by kernel_rfl) fun fr hF => ?_
     refine q_lit (E := 3) hs hM1 [I (w64 (0 - x1))] (([(w64 (0 - x1))] : List Int).map Flat.enc) ([(w64 (0 - x1))] : List Int) rfl rfl hF [I (w64 (0 - x1))] rfl (fun w => by kernel_rfl) (css_flat _) rfl rfl rfl fun a5 c5 w2 S4 fr hs hp hF => ?_
     have ra0 := ra0.stp hM1 hp
     have hM1 := hM1.stp hp
     have hs : Sep [sl3 (L a5 ([(w64 (0 - x1))] : List Int) c5) ([(w64 (0 - x1))] : List Int), sl3 (L a3 s1.2 c3) s1.2] w2 S4 := hs
     obtain ⟨x2, hx2, h⟩ := bindE h
     refine q_append 1 hs hM1 rfl Try.underlying37 el3 rfl rfl rfl hF rfl rfl (hs.rv 0 rfl) hx2 fun a6 c6 w3 S5 fr hs hp hF => ?_
     have ra0 := ra0.stp hM1 hp
     have hM1 := hM1.stp hp
     have hs : Sep [sl3 (L a5 ([(w64 (0 - x1))] : List Int) c5) ([(w64 (0 - x1))] : List Int), sl3 (L a6 x2 c6) x2] w3 S5 := hs
     have hs : Sep [sl3 (L a6 x2 c6) x2] w3 S5 := Sep.pick [1] hs (by decide) rfl
     refine from_pure 1 [(3, L a6 x2 c6), (7, L a1 p0 c1), (8, I (len p0)), (9, I s1.1)] hF (by kernel_rfl) fun fr hF => ?_
     refine from_end rfl ?_
     refine blk_normal (then_normal ?_)
     refine (wp_pure [(3, L a6 x2 c6), (7, L a1 p0 c1), (8, I (len p0)), (9, I (w64 (s1.1 + 1)))] hF (by kernel_rfl) fun fr hF => then_normal ?_)
     exact ⟨_, (Option.some.inj h).symm, a6, c6, S5, _, hF.sub _ (by kernel_rfl), hM1, hs⟩
   replace h := iteF hb h
   refine (wp_exit (then_exit (then_exit (blk_exit_eq ?_))))
   obtain rfl := hr1 _ (Option.some.inj h).symm
   exact then_normal ⟨a3, c3, S2, _, hF.sub _ (by kernel_rfl), hM1, hs⟩
 · obtain ⟨a4, c4, S3, F2, hF, hMx, hs⟩ := hM
   have hM0 := hM0.trans hMx
   refine wp_seq (wp_pure [(2, L a4 rl1 c4)] hF (by kernel_rfl) fun fr hF => then_normal ?_)
   obtain rfl := Option.some.inj h
   exact wp_ret (ret1 rfl hF rfl ⟨_, rfl, a4, c4, rfl, S3, hM0.out, hs⟩)

theorem spec_l04Fill_ok (n : Nat) (p0 : Int) (p1 : Int) {r : (List Int)} (h : spec_l04Fill n p0 p1 = some r) {w : World} :
   Calls Try.prog 106 [I p0, I p1].toArray w fun e w' => ∃ v, e = .returned v ∧ ∃ a1 c1, v = L a1 r c1 ∧ ∃ S', Stp w Non w' S' ∧ Sep [sl3 (L a1 r c1) r] w' S' := by
 unfold spec_l04Fill at h
 have hs := Sep.nil w Non
 have hM0 : Mem w Non (fun k => (False) ∧ k < w.heap.size) w Non (fun k => (False) ∧ k < w.heap.size) := Mem.start (fun _ h => h.elim) (fun _ h => h.2) (fun _ h => h.elim)
 refine enter (N := 18) Try.func106 rfl Try.ntmps106 rfl fun fr hF => ?_
 refine wp_seq (wp_pure [(0, I p0), (1, I p1)] hF (by kernel_rfl) fun fr hF => then_normal ?_)
 refine wp_seq (wp_text' ?_)
 refine q_lit (E := 3) hs hM0 [] (([] : List Int).map Flat.enc) ([] : List Int) rfl rfl hF [] rfl (fun w => by kernel_rfl) (css_flat _) rfl rfl rfl fun a1 c1 w1 S1 fr hs hp hF => ?_
 have hM0 := hM0.stp hp
 have hs : Sep [sl3 (L a1 ([] : List Int) c1) ([] : List Int)] w1 S1 := hs
 refine from_pure 1 [(0, I p0), (1, I p1), (5, L a1 ([] : List Int) c1)] hF (by kernel_rfl) fun fr hF => ?_
 refine from_end rfl (then_normal ?_)
 refine wp_seq ?_
 refine wp_seq (wp_pure [(0, I p0), (1, I p1), (5, L a1 ([] : List Int) c1), (6, I 0)] hF (by kernel_rfl) fun fr hF => then_normal ?_)
 obtain ⟨rl1, hit1, h⟩ := bindE h
 have hk1 := h
 refine (wp_cut (M := fun fr w' => ∃ a3 c3 S3 F2, FrS 18 [(5, L a3 rl1 c3)] fr ∧ Mem w1 S1 (fun k => (False) ∧ k < w.heap.size) w' S3 F2 ∧ Sep [sl3 (L a3 rl1 c3) rl1] w' S3) (wp_block (wp_iter (Inv := fun s1 fr w' => ∃ a2 c2 S2 F1, FrS 18 [(0, I p0), (1, I p1), (5, L a2 s1.2 c2), (6, I s1.1)] fr ∧ Mem w1 S1 (fun k => (False) ∧ k < w.heap.size) w' S2 F1 ∧ Sep [sl3 (L a2 s1.2 c2) s1.2] w' S2) hit1 ⟨a1, c1, S1, _, hF.sub _ (by kernel_rfl), (Mem.start hM0.bd hM0.bdF hM0.dj), hs⟩ fun s1 q1 fr w1i hI h hr1 => ?_)) fun fr w1o hM => ?_)
 · obtain ⟨a2, c2, S2, F1, hF, hM1, hs⟩ := hI
   refine wp_seq ?_
   refine wp_seq (wp_pure [(0, I p0), (1, I p1), (5, L a2 s1.2 c2), (6, I s1.1), (10, .bool (decide (s1.1 < p0)))] hF (by kernel_rfl) fun fr hF => then_normal ?_)
   refine (wp_if hF (b := (decide (s1.1 < p0))) rfl (fun hb => ?_) (fun hb => ?_))
   · replace h := iteT hb h
     refine (wp_skip (then_normal ?_))
     refine wp_seq (wp_block ?_)
     refine (wp_text' ?_)
     refine from_pure 2 [(0, I p0), (1, I p1), (6, I s1.1), (13, L a2 s1.2 c2), (14, I p1)] hF (by kernel_rfl) fun fr hF => ?_
     refine q_lit (E := 3) hs hM1 [I p1] (([p1] : List Int).map Flat.enc) ([p1] : List Int) rfl rfl hF [I p1] rfl (fun w => by kernel_rfl) (css_flat _) rfl rfl rfl fun a4 c4 w2 S4 fr hs hp hF => ?_
     have hM1 := hM1.stp hp
     have hs : Sep [sl3 (L a4 ([p1] : List Int) c4) ([p1] : List Int), sl3 (L a2 s1.2 c2) s1.2] w2 S4 := hs
     obtain ⟨x1, hx1, h⟩ := bindE h
     refine q_append 1 hs hM1 rfl Try.underlying37 el3 rfl rfl rfl hF rfl rfl (hs.rv 0 rfl) hx1 fun a5 c5 w3 S5 fr hs hp hF => ?_
     have hM1 := hM1.stp hp
     have hs : Sep [sl3 (L a4 ([p1] : List Int) c4) ([p1] : List Int), sl3 (L a5 x1 c5) x1] w3 S5 := hs
     have hs : Sep [sl3 (L a5 x1 c5) x1] w3 S5 := Sep.pick [1] hs (by decide) rfl
     refine from_pure 1 [(0, I p0), (1, I p1), (5, L a5 x1 c5), (6, I s1.1)] hF (by kernel_rfl) fun fr hF => ?_
     refine from_end rfl ?_
     refine blk_normal (then_normal ?_)
     refine (wp_pure [(0, I p0), (1, I p1), (5, L a5 x1 c5), (6, I (w64 (s1.1 + 1)))] hF (by kernel_rfl) fun fr hF => then_normal ?_)
     exact ⟨_, (Option.some.inj h).symm, a5, c5, S5, _, hF.sub _ (by kernel_rfl), hM1, hs⟩
   replace h := iteF hb h
   refine (wp_exit (then_exit (then_exit (blk_exit_eq ?_))))
   obtain rfl := hr1 _ (Option.some.inj h).symm
   exact then_normal ⟨a2, c2, S2, _, hF.sub _ (by kernel_rfl), hM1, hs⟩
 · obtain ⟨a3, c3, S3, F2, hF, hMx, hs⟩ := hM
   have hM0 := hM0.trans hMx
   refine wp_seq (wp_pure [(4, L a3 rl1 c3)] hF (by kernel_rfl) fun fr hF => then_normal ?_)
   obtain rfl := Option.some.inj h
   exact wp_ret (ret1 rfl hF rfl ⟨_, rfl, a3, c3, rfl, S3, hM0.out, hs⟩)

theorem spec_l04Net_l04Mul_ok (n : Nat) (p0 : D.l04Net) (p1 : List Int) (p2 : List Int) {r : (List Int) × D.l04Net} (h : spec_l04Net_l04Mul n p0 p1 p2 = some r) {w : World} {S0 F0 : Nat → Prop} {pa0 : Option Addr} {pn0 pc0 : Nat} {b1 : Nat} (hs : Sep [BX b1 76 [I p0.c.Inputs, .slice pa0 pn0 pc0, .bool p0.full], sl59 (.slice pa0 pn0 pc0) p0.c.Gates] w S0) (hb : ∀ k, S0 k → k < w.heap.size) (hd : ∀ k, S0 k → F0 k → False) {va1 : Value} (ra1 : RV w F0 va1 p1) {va2 : Value} (ra2 : RV w F0 va2 p2) :
   Calls Try.prog 90 [B b1 0, va1, va2].toArray w fun e w' => ∃ v, e = .returned v ∧ ∃ a1 c1 a2 c2, v = L a1 r.1 c1 ∧ ∃ S', Stp w S0 w' S' ∧ Sep [sl3 (L a1 r.1 c1) r.1, BX b1 76 [I r.2.c.Inputs, L a2 r.2.c.Gates c2, .bool r.2.full], sl59 (L a2 r.2.c.Gates c2) r.2.c.Gates] w' S' := by
 unfold spec_l04Net_l04Mul at h
 obtain ⟨hpn, hs⟩ := hs.relen 1 rfl
 subst hpn
 have hs : Sep [BX b1 76 [I p0.c.Inputs, L pa0 p0.c.Gates pc0, .bool p0.full], sl59 (L pa0 p0.c.Gates pc0) p0.c.Gates] w S0 := hs
 have hM0 : Mem w S0 (fun k => F0 k ∧ k < w.heap.size) w S0 (fun k => F0 k ∧ k < w.heap.size) := Mem.start hb (fun _ h => h.2) (fun k h1 h2 => hd k h1 h2.1)
 have ra1 := ra1.sub (F' := (fun k => F0 k ∧ k < w.heap.size)) (fun k hk h => ⟨h, hk⟩)
 obtain ⟨a1, c1, rfl, -⟩ := ra1.slice
 have ra2 := ra2.sub (F' := (fun k => F0 k ∧ k < w.heap.size)) (fun k hk h => ⟨h, hk⟩)
 obtain ⟨a2, c2, rfl, -⟩ := ra2.slice
 refine enter (N := 61) Try.func90 rfl Try.ntmps90 rfl fun fr hF => ?_
 refine wp_seq (wp_pure [(0, B b1 0), (1, L a1 p1 c1), (2, L a2 p2 c2)] hF (by kernel_rfl) fun fr hF => then_normal ?_)
 refine wp_seq (wp_pure [(0, B b1 0), (1, L a1 p1 c1), (2, L a2 p2 c2), (7, I (len p1))] hF (by kernel_rfl) fun fr hF => then_normal ?_)
 refine wp_seq (wp_text' ?_)
 refine from_pure 1 [(0, B b1 0), (1, L a1 p1 c1), (2, L a2 p2 c2), (7, I (len p1)), (16, I (len p1))] hF (by kernel_rfl) fun fr hF => ?_
 obtain ⟨x1, hx1, h⟩ := bindE h
 refine s_call [I (len p1), I (-1)] Try.call106 rfl rfl hF rfl (spec_l04Fill_ok n (len p1) (-1) hx1) fun v w1 fr hRes hF => ?_
 obtain ⟨a3, c3, rfl, _, hp, hs2⟩ := hRes
 obtain ⟨S1, hp, hs⟩ := hs.got hM0 hp hs2
 have ra1 := ra1.stp hM0 hp
 have ra2 := ra2.stp hM0 hp
 have hM0 := hM0.stp hp
 have hs : Sep [sl3 (L a3 x1 c3) x1, BX b1 76 [I p0.c.Inputs, L pa0 p0.c.Gates pc0, .bool p0.full], sl59 (L pa0 p0.c.Gates pc0) p0.c.Gates] w1 S1 := hs
 refine from_pure 1 [(0, B b1 0), (1, L a1 p1 c1), (2, L a2 p2 c2), (7, I (len p1)), (8, L a3 x1 c3)] hF (by kernel_rfl) fun fr hF => ?_
 refine from_end rfl (then_normal ?_)
 refine wp_seq ?_
 refine wp_seq (wp_pure [(0, B b1 0), (1, L a1 p1 c1), (2, L a2 p2 c2), (7, I (len p1)), (8, L a3 x1 c3), (9, I 0)] hF (by kernel_rfl) fun fr hF => then_normal ?_)
 obtain ⟨rl1, hit1, h⟩ := bindE h
 have hk1 := h
 refine (wp_cut (M := fun fr w' => ∃ a6 c6 a7 c7 S3 F2, FrS 61 [(8, L a6 rl1.1 c6)] fr ∧ Mem w1 S1 (fun k => F0 k ∧ k < w.heap.size) w' S3 F2 ∧ Sep [sl3 (L a6 rl1.1 c6) rl1.1, BX b1 76 [I rl1.2.1, L a7 rl1.2.2.2 c7, .bool rl1.2.2.1], sl59 (L a7 rl1.2.2.2 c7) rl1.2.2.2] w' S3) (wp_block (wp_iter (Inv := fun s1 fr w' => ∃ a4 c4 a5 c5 S2 F1, FrS 61 [(0, B b1 0), (1, L a1 p1 c1), (2, L a2 p2 c2), (7, I (len p1)), (8, L a4 s1.2.1 c4), (9, I s1.1)] fr ∧ Mem w1 S1 (fun k => F0 k ∧ k < w.heap.size) w' S2 F1 ∧ Sep [sl3 (L a4 s1.2.1 c4) s1.2.1, BX b1 76 [I s1.2.2.1, L a5 s1.2.2.2.2 c5, .bool s1.2.2.2.1], sl59 (L a5 s1.2.2.2.2 c5) s1.2.2.2.2] w' S2) hit1 ⟨a3, c3, pa0, pc0, S1, _, hF.sub _ (by kernel_rfl), (Mem.start hM0.bd hM0.bdF hM0.dj), hs⟩ fun s1 q1 fr w1i hI h hr1 => ?_)) fun fr w1o hM => ?_)
 · obtain ⟨a4, c4, a5, c5, S2, F1, hF, hM1, hs⟩ := hI
   have ra1 := ra1.mem hM1
   have ra2 := ra2.mem hM1
   refine wp_seq ?_
   refine wp_seq (wp_pure [(0, B b1 0), (1, L a1 p1 c1), (2, L a2 p2 c2), (7, I (len p1)), (8, L a4 s1.2.1 c4), (9, I s1.1), (20, .bool (decide (s1.1 < (len p1))))] hF (by kernel_rfl) fun fr hF => then_normal ?_)
   refine (wp_if hF (b := (decide (s1.1 < (len p1)))) rfl (fun hb => ?_) (fun hb => ?_))
   · replace h := iteT hb h
     refine (wp_skip (then_normal ?_))
     refine wp_seq (wp_block ?_)
     refine wp_seq (wp_text' ?_)
     refine q_lit (E := 3) hs hM1 [] (([] : List Int).map Flat.enc) ([] : List Int) rfl rfl hF [] rfl (fun w => by kernel_rfl) (css_flat _) rfl rfl rfl fun a8 c8 w2 S4 fr hs hp hF => ?_
     have ra1 := ra1.stp hM1 hp
     have ra2 := ra2.stp hM1 hp
     have hM1 := hM1.stp hp
     have hs : Sep [sl3 (L a8 ([] : List Int) c8) ([] : List Int), sl3 (L a4 s1.2.1 c4) s1.2.1, BX b1 76 [I s1.2.2.1, L a5 s1.2.2.2.2 c5, .bool s1.2.2.2.1], sl59 (L a5 s1.2.2.2.2 c5) s1.2.2.2.2] w2 S4 := hs
     refine from_pure 1 [(0, B b1 0), (1, L a1 p1 c1), (2, L a2 p2 c2), (7, I (len p1)), (8, L a4 s1.2.1 c4), (9, I s1.1), (10, L a8 ([] : List Int) c8)] hF (by kernel_rfl) fun fr hF => ?_
     refine from_end rfl (then_normal ?_)
     refine wp_seq ?_
     refine wp_seq (wp_pure [(0, B b1 0), (1, L a1 p1 c1), (2, L a2 p2 c2), (7, I (len p1)), (8, L a4 s1.2.1 c4), (9, I s1.1), (10, L a8 ([] : List Int) c8), (11, I 0)] hF (by kernel_rfl) fun fr hF => then_normal ?_)
     obtain ⟨rl2, hit2, h⟩ := bindE h
     have hk2 := h
     refine (wp_cut (M := fun fr w' => ∃ a11 c11 a12 c12 S6 F4, FrS 61 [(0, B b1 0), (1, L a1 p1 c1), (2, L a2 p2 c2), (7, I (len p1)), (8, L a4 s1.2.1 c4), (9, I s1.1), (10, L a11 rl2.1 c11)] fr ∧ Mem w2 S4 F1 w' S6 F4 ∧ Sep [sl3 (L a11 rl2.1 c11) rl2.1, sl3 (L a4 s1.2.1 c4) s1.2.1, BX b1 76 [I rl2.2.1, L a12 rl2.2.2.2 c12, .bool rl2.2.2.1], sl59 (L a12 rl2.2.2.2 c12) rl2.2.2.2] w' S6) (wp_block (wp_iter (Inv := fun s2 fr w' => ∃ a9 c9 a10 c10 S5 F3, FrS 61 [(0, B b1 0), (1, L a1 p1 c1), (2, L a2 p2 c2), (7, I (len p1)), (8, L a4 s1.2.1 c4), (9, I s1.1), (10, L a9 s2.2.1 c9), (11, I s2.1)] fr ∧ Mem w2 S4 F1 w' S5 F3 ∧ Sep [sl3 (L a9 s2.2.1 c9) s2.2.1, sl3 (L a4 s1.2.1 c4) s1.2.1, BX b1 76 [I s2.2.2.1, L a10 s2.2.2.2.2 c10, .bool s2.2.2.2.1], sl59 (L a10 s2.2.2.2.2 c10) s2.2.2.2.2] w' S5) hit2 ⟨a8, c8, a5, c5, S4, _, hF.sub _ (by kernel_rfl), (Mem.start hM1.bd hM1.bdF hM1.dj), hs⟩ fun s2 q2 fr w2i hI h hr2 => ?_)) fun fr w2o hM => ?_)
     · obtain ⟨a9, c9, a10, c10, S5, F3, hF, hM2, hs⟩ := hI
       have ra1 := ra1.mem hM2
       have ra2 := ra2.mem hM2
       refine wp_seq ?_
       refine wp_seq (wp_pure [(0, B b1 0), (1, L a1 p1 c1), (2, L a2 p2 c2), (7, I (len p1)), (8, L a4 s1.2.1 c4), (9, I s1.1), (10, L a9 s2.2.1 c9), (11, I s2.1), (28, .bool (decide (s2.1 < (w64 ((len p1) - s1.1)))))] hF (by kernel_rfl) fun fr hF => then_normal ?_)
       refine (wp_if hF (b := (decide (s2.1 < (w64 ((len p1) - s1.1))))) rfl (fun hb => ?_) (fun hb => ?_))
       · replace h := iteT hb h
         refine (wp_skip (then_normal ?_))
         refine wp_seq (wp_block ?_)
         refine (wp_ra mix ?_)
         refine ra_hoist 0 (by kernel_rfl) (fun _ _ _ _ _ h => h) ?_
         obtain ⟨x2, hx2, h⟩ := bindE h
         obtain ⟨x3, hx3, h⟩ := bindE h
         refine (ra_bm 10 [0, 1, 1, 1, 13, 29, 1, 1, 193, 449, 1023, 2047, 4095, 8191] [true, true, true, true, false, false, true, true, false, false]
             [.eq (L a9 s2.2.1 c9), .eq (B b1 0), .eq (L a2 p2 c2), .eq (I s1.1), .is fun v w => ElemP w (fun k => k < w2i.heap.size) v (x2 : Int), .eq (I x2), .eq (L a1 p1 c1), .eq (I s2.1), .is fun v w => ElemP w (fun k => k < w2i.heap.size) v (x3 : Int), .eq (I x3), .any, .any, .any, .any]
             [(0, B b1 0), (1, L a1 p1 c1), (2, L a2 p2 c2), (7, I (len p1)), (8, L a4 s1.2.1 c4), (9, I s1.1), (11, I s2.1), (31, L a9 s2.2.1 c9), (32, B b1 0), (36, I x2), (40, I x3)] hF (by kernel_rfl) (by kernel_rfl) (by kernel_rfl) (by kernel_rfl) ⟨(Pd.monoO_is mono_elem), Pd.monoO_eq, (Pd.monoO_is mono_elem), Pd.monoO_eq, trivial⟩ (fun ow hG => ⟨np_to ow (np_index hG hF ty3 Try.underlying37 rfl rfl (RV.sub (ra2) fun k hk _ => hk) rfl rfl (fun hg => ⟨get?_nn hx2, get?_at hx2⟩)), np_to ow (np_loadF (z := x2) (i := 4) hG hF ty3 rfl rfl rfl rfl rfl rfl rfl), np_to ow (np_index hG hF ty3 Try.underlying37 rfl rfl (RV.sub (ra1) fun k hk _ => hk) rfl rfl (fun hg => ⟨get?_nn hx3, get?_at hx3⟩)), np_to ow (np_loadF (z := x3) (i := 8) hG hF ty3 rfl rfl rfl rfl rfl rfl rfl), trivial⟩) (by kernel_rfl) fun ow fr w3 hF hE hc => ?_)
         have ra1 := ra1.ext hc
         have ra2 := ra2.ext hc
         have hs := hs.ext hc
         have hM2 := hM2.ext hc
         obtain ⟨x4, hx4, h⟩ := bindE h
         have hs : Sep [BX b1 76 [I s2.2.2.1, L a10 s2.2.2.2.2 c10, .bool s2.2.2.2.1], sl59 (L a10 s2.2.2.2.2 c10) s2.2.2.2.2, sl3 (L a9 s2.2.1 c9) s2.2.1, sl3 (L a4 s1.2.1 c4) s1.2.1] w3 S5 := Sep.pick [2, 3, 0, 1] hs (by decide) rfl
         obtain ⟨A1, R1, hsA, hsR, hdA, hbA, hup⟩ := Sep.call (L1 := [BX b1 76 [I s2.2.2.1, L a10 s2.2.2.2.2 c10, .bool s2.2.2.2.1], sl59 (L a10 s2.2.2.2.2 c10) s2.2.2.2.2]) (L2 := [sl3 (L a9 s2.2.1 c9) s2.2.1, sl3 (L a4 s1.2.1 c4) s1.2.1]) hs hM2
         refine s_call [B b1 0, I x2, I x3] Try.call46 rfl rfl hF rfl (spec_l04Net_l04And_ok n (D.l04Net.mk (D.Circuit.mk s2.2.2.1 s2.2.2.2.2) s2.2.2.2.1) x2 x3 hx4 hsA hbA hdA) fun v w4 fr hRes hF => ?_
         obtain ⟨a13, c13, rfl, _, hp, hs⟩ := hRes
         obtain ⟨S7, hp, hs⟩ := hup hp hs
         have ra1 := ra1.stp hM2 hp
         have ra2 := ra2.stp hM2 hp
         have hM2 := hM2.stp hp
         have hs : Sep [BX b1 76 [I x4.2.c.Inputs, L a13 x4.2.c.Gates c13, .bool x4.2.full], sl59 (L a13 x4.2.c.Gates c13) x4.2.c.Gates, sl3 (L a9 s2.2.1 c9) s2.2.1, sl3 (L a4 s1.2.1 c4) s1.2.1] w4 S7 := hs
         refine q_lit (E := 3) hs hM2 [I x4.1] (([x4.1] : List Int).map Flat.enc) ([x4.1] : List Int) rfl rfl hF [I x4.1] rfl (fun w => by kernel_rfl) (css_flat _) rfl rfl rfl fun a14 c14 w5 S8 fr hs hp hF => ?_
         have ra1 := ra1.stp hM2 hp
         have ra2 := ra2.stp hM2 hp
         have hM2 := hM2.stp hp
         have hs : Sep [sl3 (L a14 ([x4.1] : List Int) c14) ([x4.1] : List Int), BX b1 76 [I x4.2.c.Inputs, L a13 x4.2.c.Gates c13, .bool x4.2.full], sl59 (L a13 x4.2.c.Gates c13) x4.2.c.Gates, sl3 (L a9 s2.2.1 c9) s2.2.1, sl3 (L a4 s1.2.1 c4) s1.2.1] w5 S8 := hs
         obtain ⟨x5, hx5, h⟩ := bindE h
         refine q_append 3 hs hM2 rfl Try.underlying37 el3 rfl rfl rfl hF rfl rfl (hs.rv 0 rfl) hx5 fun a15 c15 w6 S9 fr hs hp hF => ?_
         have ra1 := ra1.stp hM2 hp
         have ra2 := ra2.stp hM2 hp
         have hM2 := hM2.stp hp
         have hs : Sep [sl3 (L a14 ([x4.1] : List Int) c14) ([x4.1] : List Int), BX b1 76 [I x4.2.c.Inputs, L a13 x4.2.c.Gates c13, .bool x4.2.full], sl59 (L a13 x4.2.c.Gates c13) x4.2.c.Gates, sl3 (L a15 x5 c15) x5, sl3 (L a4 s1.2.1 c4) s1.2.1] w6 S9 := hs
         have hs : Sep [BX b1 76 [I x4.2.c.Inputs, L a13 x4.2.c.Gates c13, .bool x4.2.full], sl59 (L a13 x4.2.c.Gates c13) x4.2.c.Gates, sl3 (L a15 x5 c15) x5, sl3 (L a4 s1.2.1 c4) s1.2.1] w6 S9 := Sep.pick [1, 2, 3, 4] hs (by decide) rfl
         refine from_pure 1 [(0, B b1 0), (1, L a1 p1 c1), (2, L a2 p2 c2), (7, I (len p1)), (8, L a4 s1.2.1 c4), (9, I s1.1), (10, L a15 x5 c15), (11, I s2.1)] hF (by kernel_rfl) fun fr hF => ?_
         refine from_end rfl ?_
         refine blk_normal (then_normal ?_)
         refine (wp_pure [(0, B b1 0), (1, L a1 p1 c1), (2, L a2 p2 c2), (7, I (len p1)), (8, L a4 s1.2.1 c4), (9, I s1.1), (10, L a15 x5 c15), (11, I (w64 (s2.1 + 1)))] hF (by kernel_rfl) fun fr hF => then_normal ?_)
         have hs : Sep [sl3 (L a15 x5 c15) x5, sl3 (L a4 s1.2.1 c4) s1.2.1, BX b1 76 [I x4.2.c.Inputs, L a13 x4.2.c.Gates c13, .bool x4.2.full], sl59 (L a13 x4.2.c.Gates c13) x4.2.c.Gates] w6 S9 := Sep.pick [2, 3, 0, 1] hs (by decide) rfl
         exact ⟨_, (Option.some.inj h).symm, a15, c15, a13, c13, S9, _, hF.sub _ (by kernel_rfl), hM2, hs⟩
       replace h := iteF hb h
       refine (wp_exit (then_exit (then_exit (blk_exit_eq ?_))))
       obtain rfl := hr2 _ (Option.some.inj h).symm
       exact then_normal ⟨a9, c9, a10, c10, S5, _, hF.sub _ (by kernel_rfl), hM2, hs⟩
     · obtain ⟨a11, c11, a12, c12, S6, F4, hF, hMx, hs⟩ := hM
       have ra1 := ra1.mem hMx
       have ra2 := ra2.mem hMx
       have hM1 := hM1.trans hMx
       refine wp_seq (wp_text' ?_)
       refine from_pure 3 [(0, B b1 0), (1, L a1 p1 c1), (2, L a2 p2 c2), (7, I (len p1)), (8, L a4 s1.2.1 c4), (9, I s1.1), (10, L a11 rl2.1 c11), (45, B b1 0), (46, L a4 s1.2.1 c4), (47, I s1.1)] hF (by kernel_rfl) fun fr hF => ?_
       obtain ⟨x6, hx6, h⟩ := bindE h
       refine s_view ty3 Try.underlying37 rfl rfl hF rfl (hs.rv 1 rfl) ⟨_, rfl⟩ rfl hx6 fun a16 c16 fr hv1 hle1 hF => ?_
       refine from_pure 1 [(0, B b1 0), (1, L a1 p1 c1), (2, L a2 p2 c2), (7, I (len p1)), (8, L a4 s1.2.1 c4), (9, I s1.1), (45, B b1 0), (48, L a16 x6 c16), (49, L a11 rl2.1 c11)] hF (by kernel_rfl) fun fr hF => ?_
       obtain ⟨x7, hx7, h⟩ := bindE h
       have hs : Sep [BX b1 76 [I rl2.2.1, L a12 rl2.2.2.2 c12, .bool rl2.2.2.1], sl59 (L a12 rl2.2.2.2 c12) rl2.2.2.2, sl3 (L a11 rl2.1 c11) rl2.1, sl3 (L a4 s1.2.1 c4) s1.2.1] w2o S6 := Sep.pick [2, 3, 0, 1] hs (by decide) rfl
       obtain ⟨A2, R2, hsA, hsR, hdA, hbA, hup⟩ := Sep.call (L1 := [BX b1 76 [I rl2.2.1, L a12 rl2.2.2.2 c12, .bool rl2.2.2.1], sl59 (L a12 rl2.2.2.2 c12) rl2.2.2.2]) (L2 := [sl3 (L a11 rl2.1 c11) rl2.1, sl3 (L a4 s1.2.1 c4) s1.2.1]) hs hM1
       refine s_call [B b1 0, L a16 x6 c16, L a11 rl2.1 c11, I (-1)] Try.call64 rfl rfl hF rfl (spec_l04Net_l04Add_ok n (D.l04Net.mk (D.Circuit.mk rl2.2.1 rl2.2.2.2) rl2.2.2.1) (vcut s1.2.1 s1.1 (List.length x6)) rl2.1 (-1) hx7 hsA hbA hdA ((view_rv (hsR.rv 1 rfl) hv1 (by have h1 := (hs.relen 3 rfl).1; omega)).big (fun _ h => .inr h)) ((hsR.rv 0 rfl).big (fun _ h => .inr h))) fun v w7 fr hRes hF => ?_
       obtain ⟨a17, c17, a18, c18, rfl, _, hp, hs⟩ := hRes
       obtain ⟨S10, hp, hs⟩ := hup hp hs
       have ra1 := ra1.stp hM1 hp
       have ra2 := ra2.stp hM1 hp
       have hM1 := hM1.stp hp
       have hs : Sep [sl3 (L a17 x7.1 c17) x7.1, BX b1 76 [I x7.2.2.c.Inputs, L a18 x7.2.2.c.Gates c18, .bool x7.2.2.full], sl59 (L a18 x7.2.2.c.Gates c18) x7.2.2.c.Gates, sl3 (L a11 rl2.1 c11) rl2.1, sl3 (L a4 s1.2.1 c4) s1.2.1] w7 S10 := hs
       have hs : Sep [sl3 (L a17 x7.1 c17) x7.1, BX b1 76 [I x7.2.2.c.Inputs, L a18 x7.2.2.c.Gates c18, .bool x7.2.2.full], sl59 (L a18 x7.2.2.c.Gates c18) x7.2.2.c.Gates, sl3 (L a4 s1.2.1 c4) s1.2.1] w7 S10 := Sep.pick [0, 1, 2, 4] hs (by decide) rfl
       refine from_pure 5 [(0, B b1 0), (1, L a1 p1 c1), (2, L a2 p2 c2), (7, I (len p1)), (8, L a4 s1.2.1 c4), (9, I s1.1), (12, L a17 x7.1 c17)] hF (by kernel_rfl) fun fr hF => ?_
       refine from_end rfl (then_normal ?_)
       refine (wp_text' ?_)
       refine q_lit (E := 3) hs hM1 [] (([] : List Int).map Flat.enc) ([] : List Int) rfl rfl hF [] rfl (fun w => by kernel_rfl) (css_flat _) rfl rfl rfl fun a19 c19 w8 S11 fr hs hp hF => ?_
       have ra1 := ra1.stp hM1 hp
       have ra2 := ra2.stp hM1 hp
       have hM1 := hM1.stp hp
       have hs : Sep [sl3 (L a19 ([] : List Int) c19) ([] : List Int), sl3 (L a17 x7.1 c17) x7.1, BX b1 76 [I x7.2.2.c.Inputs, L a18 x7.2.2.c.Gates c18, .bool x7.2.2.full], sl59 (L a18 x7.2.2.c.Gates c18) x7.2.2.c.Gates, sl3 (L a4 s1.2.1 c4) s1.2.1] w8 S11 := hs
       refine from_pure 2 [(0, B b1 0), (1, L a1 p1 c1), (2, L a2 p2 c2), (7, I (len p1)), (9, I s1.1), (12, L a17 x7.1 c17), (53, L a19 ([] : List Int) c19), (54, L a4 s1.2.1 c4), (55, I s1.1)] hF (by kernel_rfl) fun fr hF => ?_
       obtain ⟨x8, hx8, h⟩ := bindE h
       refine q_front 4 hs hM1 rfl Try.underlying37 ty3 rfl rfl hF rfl (.inl rfl) rfl hx8 fun c20 w9 S12 fr hs hp hF => ?_
       have ra1 := ra1.stp hM1 hp
       have ra2 := ra2.stp hM1 hp
       have hM1 := hM1.stp hp
       have hs : Sep [sl3 (L a19 ([] : List Int) c19) ([] : List Int), sl3 (L a17 x7.1 c17) x7.1, BX b1 76 [I x7.2.2.c.Inputs, L a18 x7.2.2.c.Gates c18, .bool x7.2.2.full], sl59 (L a18 x7.2.2.c.Gates c18) x7.2.2.c.Gates, sl3 (L a4 x8 c20) x8] w9 S12 := hs
       obtain ⟨x9, hx9, h⟩ := bindE h
       refine q_append 0 hs hM1 rfl Try.underlying37 el3 rfl rfl rfl hF rfl rfl (hs.rv 4 rfl) hx9 fun a20 c21 w10 S13 fr hs hp hF => ?_
       have ra1 := ra1.stp hM1 hp
       have ra2 := ra2.stp hM1 hp
       have hM1 := hM1.stp hp
       have hs : Sep [sl3 (L a20 x9 c21) x9, sl3 (L a17 x7.1 c17) x7.1, BX b1 76 [I x7.2.2.c.Inputs, L a18 x7.2.2.c.Gates c18, .bool x7.2.2.full], sl59 (L a18 x7.2.2.c.Gates c18) x7.2.2.c.Gates, sl3 (L a4 x8 c20) x8] w10 S13 := hs
       have hs : Sep [sl3 (L a20 x9 c21) x9, sl3 (L a17 x7.1 c17) x7.1, BX b1 76 [I x7.2.2.c.Inputs, L a18 x7.2.2.c.Gates c18, .bool x7.2.2.full], sl59 (L a18 x7.2.2.c.Gates c18) x7.2.2.c.Gates] w10 S13 := Sep.pick [0, 1, 2, 3] hs (by decide) rfl
       refine from_pure 1 [(0, B b1 0), (1, L a1 p1 c1), (2, L a2 p2 c2), (7, I (len p1)), (9, I s1.1), (57, L a20 x9 c21), (58, L a17 x7.1 c17)] hF (by kernel_rfl) fun fr hF => ?_
       obtain ⟨x10, hx10, h⟩ := bindE h
       refine q_append 0 hs hM1 rfl Try.underlying37 el3 rfl rfl rfl hF rfl rfl (hs.rv 1 rfl) hx10 fun a21 c22 w11 S14 fr hs hp hF => ?_
       have ra1 := ra1.stp hM1 hp
       have ra2 := ra2.stp hM1 hp
       have hM1 := hM1.stp hp
       have hs : Sep [sl3 (L a21 x10 c22) x10, sl3 (L a17 x7.1 c17) x7.1, BX b1 76 [I x7.2.2.c.Inputs, L a18 x7.2.2.c.Gates c18, .bool x7.2.2.full], sl59 (L a18 x7.2.2.c.Gates c18) x7.2.2.c.Gates] w11 S14 := hs
       have hs : Sep [sl3 (L a21 x10 c22) x10, BX b1 76 [I x7.2.2.c.Inputs, L a18 x7.2.2.c.Gates c18, .bool x7.2.2.full], sl59 (L a18 x7.2.2.c.Gates c18) x7.2.2.c.Gates] w11 S14 := Sep.pick [0, 2, 3] hs (by decide) rfl
       refine from_pure 1 [(0, B b1 0), (1, L a1 p1 c1), (2, L a2 p2 c2), (7, I (len p1)), (8, L a21 x10 c22), (9, I s1.1)] hF (by kernel_rfl) fun fr hF => ?_
       refine from_end rfl ?_
       refine blk_normal (then_normal ?_)
       refine (wp_pure [(0, B b1 0), (1, L a1 p1 c1), (2, L a2 p2 c2), (7, I (len p1)), (8, L a21 x10 c22), (9, I (w64 (s1.1 + 1)))] hF (by kernel_rfl) fun fr hF => then_normal ?_)
       exact ⟨_, (Option.some.inj h).symm, a21, c22, a18, c18, S14, _, hF.sub _ (by kernel_rfl), hM1, hs⟩
   replace h := iteF hb h
   refine (wp_exit (then_exit (then_exit (blk_exit_eq ?_))))
   obtain rfl := hr1 _ (Option.some.inj h).symm
   exact then_normal ⟨a4, c4, a5, c5, S2, _, hF.sub _ (by kernel_rfl), hM1, hs⟩
 · obtain ⟨a6, c6, a7, c7, S3, F2, hF, hMx, hs⟩ := hM
   have hM0 := hM0.trans hMx
   refine wp_seq (wp_pure [(6, L a6 rl1.1 c6)] hF (by kernel_rfl) fun fr hF => then_normal ?_)
   obtain rfl := Option.some.inj h
   exact wp_ret (ret1 rfl hF rfl ⟨_, rfl, a6, c6, a7, c7, rfl, S3, hM0.out, hs⟩)

theorem spec_l04Net_l04If_ok (n : Nat) (p0 : D.l04Net) (p1 : Int) (p2 : Int) (p3 : Int) {r : Int × D.l04Net} (h : spec_l04Net_l04If n p0 p1 p2 p3 = some r) {w : World} {S0 F0 : Nat → Prop} {pa0 : Option Addr} {pn0 pc0 : Nat} {b1 : Nat} (hs : Sep [BX b1 76 [I p0.c.Inputs, .slice pa0 pn0 pc0, .bool p0.full], sl59 (.slice pa0 pn0 pc0) p0.c.Gates] w S0) (hb : ∀ k, S0 k → k < w.heap.size) (hd : ∀ k, S0 k → F0 k → False) :
   Calls Try.prog 61 [B b1 0, I p1, I p2, I p3].toArray w fun e w' => ∃ v, e = .returned v ∧ ∃ a1 c1, v = I r.1 ∧ ∃ S', Stp w S0 w' S' ∧ Sep [BX b1 76 [I r.2.c.Inputs, L a1 r.2.c.Gates c1, .bool r.2.full], sl59 (L a1 r.2.c.Gates c1) r.2.c.Gates] w' S' := by
 unfold spec_l04Net_l04If at h
 obtain ⟨hpn, hs⟩ := hs.relen 1 rfl
 subst hpn
 have hs : Sep [BX b1 76 [I p0.c.Inputs, L pa0 p0.c.Gates pc0, .bool p0.full], sl59 (L pa0 p0.c.Gates pc0) p0.c.Gates] w S0 := hs
 have hM0 : Mem w S0 (fun k => F0 k ∧ k < w.heap.size) w S0 (fun k => F0 k ∧ k < w.heap.size) := Mem.start hb (fun _ h => h.2) (fun k h1 h2 => hd k h1 h2.1)
 refine enter (N := 24) Try.func61 rfl Try.ntmps61 rfl fun fr hF => ?_
 refine wp_seq (wp_pure [(0, B b1 0), (1, I p1), (2, I p2), (3, I p3)] hF (by kernel_rfl) fun fr hF => then_normal ?_)
 refine wp_seq (wp_text' ?_)
 refine from_pure 3 [(0, B b1 0), (1, I p1), (3, I p3), (11, B b1 0), (12, I p1), (13, I p2)] hF (by kernel_rfl) fun fr hF => ?_
 obtain ⟨x1, hx1, h⟩ := bindE h
 obtain ⟨A1, R1, hsA, hsR, hdA, hbA, hup⟩ := Sep.call (L1 := [BX b1 76 [I p0.c.Inputs, L pa0 p0.c.Gates pc0, .bool p0.full], sl59 (L pa0 p0.c.Gates pc0) p0.c.Gates]) (L2 := []) hs hM0
 refine s_call [B b1 0, I p1, I p2] Try.call46 rfl rfl hF rfl (spec_l04Net_l04And_ok n p0 p1 p2 hx1 hsA hbA hdA) fun v w1 fr hRes hF => ?_
 obtain ⟨a1, c1, rfl, _, hp, hs⟩ := hRes
 obtain ⟨S1, hp, hs⟩ := hup hp hs
 have hM0 := hM0.stp hp
 have hs : Sep [BX b1 76 [I x1.2.c.Inputs, L a1 x1.2.c.Gates c1, .bool x1.2.full], sl59 (L a1 x1.2.c.Gates c1) x1.2.c.Gates] w1 S1 := hs
 refine from_pure 1 [(0, B b1 0), (1, I p1), (3, I p3), (9, I x1.1)] hF (by kernel_rfl) fun fr hF => ?_
 refine from_end rfl (then_normal ?_)
 refine wp_seq (wp_text' ?_)
 refine from_pure 4 [(0, B b1 0), (9, I x1.1), (15, B b1 0), (17, I (w64 (0 - p1))), (18, I p3)] hF (by kernel_rfl) fun fr hF => ?_
 obtain ⟨x2, hx2, h⟩ := bindE h
 obtain ⟨A2, R2, hsA, hsR, hdA, hbA, hup⟩ := Sep.call (L1 := [BX b1 76 [I x1.2.c.Inputs, L a1 x1.2.c.Gates c1, .bool x1.2.full], sl59 (L a1 x1.2.c.Gates c1) x1.2.c.Gates]) (L2 := []) hs hM0
 refine s_call [B b1 0, I (w64 (0 - p1)), I p3] Try.call46 rfl rfl hF rfl (spec_l04Net_l04And_ok n x1.2 (w64 (0 - p1)) p3 hx2 hsA hbA hdA) fun v w2 fr hRes hF => ?_
 obtain ⟨a2, c2, rfl, _, hp, hs⟩ := hRes
 obtain ⟨S2, hp, hs⟩ := hup hp hs
 have hM0 := hM0.stp hp
 have hs : Sep [BX b1 76 [I x2.2.c.Inputs, L a2 x2.2.c.Gates c2, .bool x2.2.full], sl59 (L a2 x2.2.c.Gates c2) x2.2.c.Gates] w2 S2 := hs
 refine from_pure 1 [(0, B b1 0), (9, I x1.1), (10, I x2.1)] hF (by kernel_rfl) fun fr hF => ?_
 refine from_end rfl (then_normal ?_)
 refine wp_seq (wp_text' ?_)
 refine from_pure 3 [(20, B b1 0), (21, I x1.1), (22, I x2.1)] hF (by kernel_rfl) fun fr hF => ?_
 obtain ⟨x3, hx3, h⟩ := bindE h
 obtain ⟨A3, R3, hsA, hsR, hdA, hbA, hup⟩ := Sep.call (L1 := [BX b1 76 [I x2.2.c.Inputs, L a2 x2.2.c.Gates c2, .bool x2.2.full], sl59 (L a2 x2.2.c.Gates c2) x2.2.c.Gates]) (L2 := []) hs hM0
 refine s_call [B b1 0, I x1.1, I x2.1] Try.call55 rfl rfl hF rfl (spec_l04Net_l04Or_ok n x2.2 x1.1 x2.1 hx3 hsA hbA hdA) fun v w3 fr hRes hF => ?_
 obtain ⟨a3, c3, rfl, _, hp, hs⟩ := hRes
 obtain ⟨S3, hp, hs⟩ := hup hp hs
 have hM0 := hM0.stp hp
 have hs : Sep [BX b1 76 [I x3.2.c.Inputs, L a3 x3.2.c.Gates c3, .bool x3.2.full], sl59 (L a3 x3.2.c.Gates c3) x3.2.c.Gates] w3 S3 := hs
 refine from_pure 1 [(8, I x3.1)] hF (by kernel_rfl) fun fr hF => ?_
 refine from_end rfl (then_normal ?_)
 obtain rfl := Option.some.inj h
 exact wp_ret (ret1 rfl hF rfl ⟨_, rfl, a3, c3, rfl, S3, hM0.out, hs⟩)

theorem spec_l04Net_l04Div_ok (n : Nat) (p0 : D.l04Net) (p1 : List Int) (p2 : List Int) {r : (List Int) × (List Int) × D.l04Net} (h : spec_l04Net_l04Div n p0 p1 p2 = some r) {w : World} {S0 F0 : Nat → Prop} {pa0 : Option Addr} {pn0 pc0 : Nat} {b1 : Nat} (hs : Sep [BX b1 76 [I p0.c.Inputs, .slice pa0 pn0 pc0, .bool p0.full], sl59 (.slice pa0 pn0 pc0) p0.c.Gates] w S0) (hb : ∀ k, S0 k → k < w.heap.size) (hd : ∀ k, S0 k → F0 k → False) {va1 : Value} (ra1 : RV w F0 va1 p1) {va2 : Value} (ra2 : RV w F0 va2 p2) :
   Calls Try.prog 91 [B b1 0, va1, va2].toArray w fun e w' => ∃ v, e = .returned v ∧ ∃ a1 c1 a2 c2 a3 c3, v = .tuple #[L a1 r.1 c1, L a2 r.2.1 c2] ∧ ∃ S', Stp w S0 w' S' ∧ Sep [sl3 (L a1 r.1 c1) r.1, sl3 (L a2 r.2.1 c2) r.2.1, BX b1 76 [I r.2.2.c.Inputs, L a3 r.2.2.c.Gates c3, .bool r.2.2.full], sl59 (L a3 r.2.2.c.Gates c3) r.2.2.c.Gates] w' S' := by
 unfold spec_l04Net_l04Div at h
 obtain ⟨hpn, hs⟩ := hs.relen 1 rfl
 subst hpn
 have hs : Sep [BX b1 76 [I p0.c.Inputs, L pa0 p0.c.Gates pc0, .bool p0.full], sl59 (L pa0 p0.c.Gates pc0) p0.c.Gates] w S0 := hs
 have hM0 : Mem w S0 (fun k => F0 k ∧ k < w.heap.size) w S0 (fun k => F0 k ∧ k < w.heap.size) := Mem.start hb (fun _ h => h.2) (fun k h1 h2 => hd k h1 h2.1)
 have ra1 := ra1.sub (F' := (fun k => F0 k ∧ k < w.heap.size)) (fun k hk h => ⟨h, hk⟩)
 obtain ⟨a1, c1, rfl, -⟩ := ra1.slice
 have ra2 := ra2.sub (F' := (fun k => F0 k ∧ k < w.heap.size)) (fun k hk h => ⟨h, hk⟩)
 obtain ⟨a2, c2, rfl, -⟩ := ra2.slice
 refine enter (N := 73) Try.func91 rfl Try.ntmps91 rfl fun fr hF => ?_
 refine wp_seq (wp_pure [(0, B b1 0), (1, L a1 p1 c1), (2, L a2 p2 c2)] hF (by kernel_rfl) fun fr hF => then_normal ?_)
 refine wp_seq (wp_pure [(0, B b1 0), (1, L a1 p1 c1), (2, L a2 p2 c2), (8, I (len p1))] hF (by kernel_rfl) fun fr hF => then_normal ?_)
 refine wp_seq (wp_text' ?_)
 refine from_pure 1 [(0, B b1 0), (1, L a1 p1 c1), (2, L a2 p2 c2), (8, I (len p1)), (19, I (len p1))] hF (by kernel_rfl) fun fr hF => ?_
 obtain ⟨x1, hx1, h⟩ := bindE h
 refine s_call [I (len p1), I (-1)] Try.call106 rfl rfl hF rfl (spec_l04Fill_ok n (len p1) (-1) hx1) fun v w1 fr hRes hF => ?_
 obtain ⟨a3, c3, rfl, _, hp, hs2⟩ := hRes
 obtain ⟨S1, hp, hs⟩ := hs.got hM0 hp hs2
 have ra1 := ra1.stp hM0 hp
 have ra2 := ra2.stp hM0 hp
 have hM0 := hM0.stp hp
 have hs : Sep [sl3 (L a3 x1 c3) x1, BX b1 76 [I p0.c.Inputs, L pa0 p0.c.Gates pc0, .bool p0.full], sl59 (L pa0 p0.c.Gates pc0) p0.c.Gates] w1 S1 := hs
 refine from_pure 1 [(0, B b1 0), (1, L a1 p1 c1), (2, L a2 p2 c2), (8, I (len p1)), (9, L a3 x1 c3)] hF (by kernel_rfl) fun fr hF => ?_
 refine from_end rfl (then_normal ?_)
 refine wp_seq (wp_text' ?_)
 refine from_pure 1 [(0, B b1 0), (1, L a1 p1 c1), (2, L a2 p2 c2), (8, I (len p1)), (9, L a3 x1 c3), (21, I (len p1))] hF (by kernel_rfl) fun fr hF => ?_
 obtain ⟨x2, hx2, h⟩ := bindE h
 refine s_call [I (len p1), I (-1)] Try.call106 rfl rfl hF rfl (spec_l04Fill_ok n (len p1) (-1) hx2) fun v w2 fr hRes hF => ?_
 obtain ⟨a4, c4, rfl, _, hp, hs2⟩ := hRes
 obtain ⟨S2, hp, hs⟩ := hs.got hM0 hp hs2
 have ra1 := ra1.stp hM0 hp
 have ra2 := ra2.stp hM0 hp
 have hM0 := hM0.stp hp
 have hs : Sep [sl3 (L a4 x2 c4) x2, sl3 (L a3 x1 c3) x1, BX b1 76 [I p0.c.Inputs, L pa0 p0.c.Gates pc0, .bool p0.full], sl59 (L pa0 p0.c.Gates pc0) p0.c.Gates] w2 S2 := hs
 refine from_pure 1 [(0, B b1 0), (1, L a1 p1 c1), (2, L a2 p2 c2), (8, I (len p1)), (9, L a3 x1 c3), (10, L a4 x2 c4)] hF (by kernel_rfl) fun fr hF => ?_
 refine from_end rfl (then_normal ?_)
 refine wp_seq (wp_text' ?_)
 refine from_pure 1 [(0, B b1 0), (1, L a1 p1 c1), (8, I (len p1)), (9, L a3 x1 c3), (10, L a4 x2 c4), (23, L a2 p2 c2)] hF (by kernel_rfl) fun fr hF => ?_
 obtain ⟨x3, hx3, h⟩ := bindE h
 refine s_call [L a2 p2 c2] Try.call89 rfl rfl hF rfl (spec_l04Not_ok n p2 hx3 (ra2)) fun v w3 fr hRes hF => ?_
 obtain ⟨a5, c5, rfl, _, hp, hs2⟩ := hRes
 obtain ⟨S3, hp, hs⟩ := hs.got hM0 hp hs2
 have ra1 := ra1.stp hM0 hp
 have ra2 := ra2.stp hM0 hp
 have hM0 := hM0.stp hp
 have hs : Sep [sl3 (L a5 x3 c5) x3, sl3 (L a4 x2 c4) x2, sl3 (L a3 x1 c3) x1, BX b1 76 [I p0.c.Inputs, L pa0 p0.c.Gates pc0, .bool p0.full], sl59 (L pa0 p0.c.Gates pc0) p0.c.Gates] w3 S3 := hs
 refine q_lit (E := 3) hs hM0 [I 1] (([1] : List Int).map Flat.enc) ([1] : List Int) rfl rfl hF [I 1] rfl (fun w => by kernel_rfl) (css_flat _) rfl rfl rfl fun a6 c6 w4 S4 fr hs hp hF => ?_
 have ra1 := ra1.stp hM0 hp
 have hM0 := hM0.stp hp
 have hs : Sep [sl3 (L a6 ([1] : List Int) c6) ([1] : List Int), sl3 (L a5 x3 c5) x3, sl3 (L a4 x2 c4) x2, sl3 (L a3 x1 c3) x1, BX b1 76 [I p0.c.Inputs, L pa0 p0.c.Gates pc0, .bool p0.full], sl59 (L pa0 p0.c.Gates pc0) p0.c.Gates] w4 S4 := hs
 obtain ⟨x4, hx4, h⟩ := bindE h
 refine q_append 1 hs hM0 rfl Try.underlying37 el3 rfl rfl rfl hF rfl rfl (hs.rv 0 rfl) hx4 fun a7 c7 w5 S5 fr hs hp hF => ?_
 have ra1 := ra1.stp hM0 hp
 have hM0 := hM0.stp hp
 have hs : Sep [sl3 (L a6 ([1] : List Int) c6) ([1] : List Int), sl3 (L a7 x4 c7) x4, sl3 (L a4 x2 c4) x2, sl3 (L a3 x1 c3) x1, BX b1 76 [I p0.c.Inputs, L pa0 p0.c.Gates pc0, .bool p0.full], sl59 (L pa0 p0.c.Gates pc0) p0.c.Gates] w5 S5 := hs
 have hs : Sep [sl3 (L a7 x4 c7) x4, sl3 (L a4 x2 c4) x2, sl3 (L a3 x1 c3) x1, BX b1 76 [I p0.c.Inputs, L pa0 p0.c.Gates pc0, .bool p0.full], sl59 (L pa0 p0.c.Gates pc0) p0.c.Gates] w5 S5 := Sep.pick [1, 2, 3, 4, 5] hs (by decide) rfl
 refine from_pure 1 [(0, B b1 0), (1, L a1 p1 c1), (8, I (len p1)), (9, L a3 x1 c3), (10, L a4 x2 c4), (11, L a7 x4 c7)] hF (by kernel_rfl) fun fr hF => ?_
 refine from_end rfl (then_normal ?_)
 refine wp_seq ?_
 refine wp_seq (wp_pure [(0, B b1 0), (1, L a1 p1 c1), (8, I (len p1)), (9, L a3 x1 c3), (10, L a4 x2 c4), (11, L a7 x4 c7), (12, I (w64 ((len p1) - 1)))] hF (by kernel_rfl) fun fr hF => then_normal ?_)
 obtain ⟨rl1, hit1, h⟩ := bindE h
 have hk1 := h
 refine (wp_cut (M := fun fr w' => ∃ a10 c10 a11 c11 S7 F2, FrS 73 [(9, L a3 x1 c3), (10, L a10 rl1.1 c10)] fr ∧ Mem w5 S5 (fun k => F0 k ∧ k < w.heap.size) w' S7 F2 ∧ Sep [sl3 (L a10 rl1.1 c10) rl1.1, sl3 (L a3 x1 c3) rl1.2.1, BX b1 76 [I rl1.2.2.1, L a11 rl1.2.2.2.2 c11, .bool rl1.2.2.2.1], sl59 (L a11 rl1.2.2.2.2 c11) rl1.2.2.2.2] w' S7) (wp_block (wp_iter (Inv := fun s1 fr w' => ∃ a8 c8 a9 c9 S6 F1, FrS 73 [(0, B b1 0), (1, L a1 p1 c1), (8, I (len p1)), (9, L a3 x1 c3), (10, L a8 s1.2.1 c8), (11, L a7 x4 c7), (12, I s1.1)] fr ∧ Mem w5 S5 (fun k => F0 k ∧ k < w.heap.size) w' S6 F1 ∧ Sep [sl3 (L a7 x4 c7) x4, sl3 (L a8 s1.2.1 c8) s1.2.1, sl3 (L a3 x1 c3) s1.2.2.1, BX b1 76 [I s1.2.2.2.1, L a9 s1.2.2.2.2.2 c9, .bool s1.2.2.2.2.1], sl59 (L a9 s1.2.2.2.2.2 c9) s1.2.2.2.2.2] w' S6) hit1 ⟨a4, c4, pa0, pc0, S5, _, hF.sub _ (by kernel_rfl), (Mem.start hM0.bd hM0.bdF hM0.dj), hs⟩ fun s1 q1 fr w1i hI h hr1 => ?_)) fun fr w1o hM => ?_)
 · obtain ⟨a8, c8, a9, c9, S6, F1, hF, hM1, hs⟩ := hI
   have ra1 := ra1.mem hM1
   refine wp_seq ?_
   refine wp_seq (wp_pure [(0, B b1 0), (1, L a1 p1 c1), (8, I (len p1)), (9, L a3 x1 c3), (10, L a8 s1.2.1 c8), (11, L a7 x4 c7), (12, I s1.1), (30, .bool (decide (s1.1 ≥ 0)))] hF (by kernel_rfl) fun fr hF => then_normal ?_)
   refine (wp_if hF (b := (decide (s1.1 ≥ 0))) rfl (fun hb => ?_) (fun hb => ?_))
   · replace h := iteT hb h
     refine (wp_skip (then_normal ?_))
     refine wp_seq (wp_block ?_)
     refine wp_seq (wp_text' ?_)
     refine from_pure 2 [(0, B b1 0), (1, L a1 p1 c1), (8, I (len p1)), (9, L a3 x1 c3), (10, L a8 s1.2.1 c8), (11, L a7 x4 c7), (12, I s1.1), (33, L a1 p1 c1), (34, I s1.1)] hF (by kernel_rfl) fun fr hF => ?_
     obtain ⟨x5, hx5, h⟩ := bindE h
     refine s_elemF (z := x5) (I x5) ty3 Try.underlying37 rfl rfl rfl rfl rfl hF rfl (ra1) rfl (get?_nn hx5) (get?_at hx5) rfl fun p fr hF => ?_
     refine q_lit (E := 3) hs hM1 [I x5] (([x5] : List Int).map Flat.enc) ([x5] : List Int) rfl rfl hF [I x5] rfl (fun w => by kernel_rfl) (css_flat _) rfl rfl rfl fun a12 c12 w6 S8 fr hs hp hF => ?_
     have ra1 := ra1.stp hM1 hp
     have hM1 := hM1.stp hp
     have hs : Sep [sl3 (L a12 ([x5] : List Int) c12) ([x5] : List Int), sl3 (L a7 x4 c7) x4, sl3 (L a8 s1.2.1 c8) s1.2.1, sl3 (L a3 x1 c3) s1.2.2.1, BX b1 76 [I s1.2.2.2.1, L a9 s1.2.2.2.2.2 c9, .bool s1.2.2.2.2.1], sl59 (L a9 s1.2.2.2.2.2 c9) s1.2.2.2.2.2] w6 S8 := hs
     refine from_pure 1 [(0, B b1 0), (1, L a1 p1 c1), (8, I (len p1)), (9, L a3 x1 c3), (11, L a7 x4 c7), (12, I s1.1), (37, L a12 ([x5] : List Int) c12), (38, L a8 s1.2.1 c8)] hF (by kernel_rfl) fun fr hF => ?_
     obtain ⟨x6, hx6, h⟩ := bindE h
     refine q_append 0 hs hM1 rfl Try.underlying37 el3 rfl rfl rfl hF rfl rfl (hs.rv 2 rfl) hx6 fun a13 c13 w7 S9 fr hs hp hF => ?_
     have ra1 := ra1.stp hM1 hp
     have hM1 := hM1.stp hp
     have hs : Sep [sl3 (L a13 x6 c13) x6, sl3 (L a7 x4 c7) x4, sl3 (L a8 s1.2.1 c8) s1.2.1, sl3 (L a3 x1 c3) s1.2.2.1, BX b1 76 [I s1.2.2.2.1, L a9 s1.2.2.2.2.2 c9, .bool s1.2.2.2.2.1], sl59 (L a9 s1.2.2.2.2.2 c9) s1.2.2.2.2.2] w7 S9 := hs
     have hs : Sep [sl3 (L a13 x6 c13) x6, sl3 (L a7 x4 c7) x4, sl3 (L a3 x1 c3) s1.2.2.1, BX b1 76 [I s1.2.2.2.1, L a9 s1.2.2.2.2.2 c9, .bool s1.2.2.2.2.1], sl59 (L a9 s1.2.2.2.2.2 c9) s1.2.2.2.2.2] w7 S9 := Sep.pick [0, 1, 3, 4, 5] hs (by decide) rfl
     refine from_pure 1 [(0, B b1 0), (1, L a1 p1 c1), (8, I (len p1)), (9, L a3 x1 c3), (11, L a7 x4 c7), (12, I s1.1), (13, L a13 x6 c13)] hF (by kernel_rfl) fun fr hF => ?_
     refine from_end rfl (then_normal ?_)
     refine wp_seq (wp_text' ?_)
     refine from_pure 3 [(0, B b1 0), (1, L a1 p1 c1), (8, I (len p1)), (9, L a3 x1 c3), (11, L a7 x4 c7), (12, I s1.1), (13, L a13 x6 c13), (41, B b1 0), (42, L a13 x6 c13), (43, L a7 x4 c7)] hF (by kernel_rfl) fun fr hF => ?_
     obtain ⟨x7, hx7, h⟩ := bindE h
     have hs : Sep [BX b1 76 [I s1.2.2.2.1, L a9 s1.2.2.2.2.2 c9, .bool s1.2.2.2.2.1], sl59 (L a9 s1.2.2.2.2.2 c9) s1.2.2.2.2.2, sl3 (L a13 x6 c13) x6, sl3 (L a7 x4 c7) x4, sl3 (L a3 x1 c3) s1.2.2.1] w7 S9 := Sep.pick [3, 4, 0, 1, 2] hs (by decide) rfl
     obtain ⟨A1, R1, hsA, hsR, hdA, hbA, hup⟩ := Sep.call (L1 := [BX b1 76 [I s1.2.2.2.1, L a9 s1.2.2.2.2.2 c9, .bool s1.2.2.2.2.1], sl59 (L a9 s1.2.2.2.2.2 c9) s1.2.2.2.2.2]) (L2 := [sl3 (L a13 x6 c13) x6, sl3 (L a7 x4 c7) x4, sl3 (L a3 x1 c3) s1.2.2.1]) hs hM1
     refine s_call [B b1 0, L a13 x6 c13, L a7 x4 c7, I 1] Try.call64 rfl rfl hF rfl (spec_l04Net_l04Add_ok n (D.l04Net.mk (D.Circuit.mk s1.2.2.2.1 s1.2.2.2.2.2) s1.2.2.2.2.1) x6 x4 1 hx7 hsA hbA hdA ((hsR.rv 0 rfl).big (fun _ h => .inr h)) ((hsR.rv 1 rfl).big (fun _ h => .inr h))) fun v w8 fr hRes hF => ?_
     obtain ⟨a14, c14, a15, c15, rfl, _, hp, hs⟩ := hRes
     obtain ⟨S10, hp, hs⟩ := hup hp hs
     have ra1 := ra1.stp hM1 hp
     have hM1 := hM1.stp hp
     have hs : Sep [sl3 (L a14 x7.1 c14) x7.1, BX b1 76 [I x7.2.2.c.Inputs, L a15 x7.2.2.c.Gates c15, .bool x7.2.2.full], sl59 (L a15 x7.2.2.c.Gates c15) x7.2.2.c.Gates, sl3 (L a13 x6 c13) x6, sl3 (L a7 x4 c7) x4, sl3 (L a3 x1 c3) s1.2.2.1] w8 S10 := hs
     refine from_pure 5 [(0, B b1 0), (1, L a1 p1 c1), (8, I (len p1)), (9, L a3 x1 c3), (11, L a7 x4 c7), (12, I s1.1), (13, L a13 x6 c13), (14, L a14 x7.1 c14), (15, I x7.2.1)] hF (by kernel_rfl) fun fr hF => ?_
     refine from_end rfl (then_normal ?_)
     refine wp_seq (wp_text' ?_)
     refine from_pure 3 [(0, B b1 0), (1, L a1 p1 c1), (8, I (len p1)), (9, L a3 x1 c3), (11, L a7 x4 c7), (12, I s1.1), (13, L a13 x6 c13), (14, L a14 x7.1 c14), (15, I x7.2.1), (47, L a3 x1 c3), (48, I s1.1), (49, I x7.2.1)] hF (by kernel_rfl) fun fr hF => ?_
     obtain ⟨x8, hx8, h⟩ := bindE h
     refine q_set (q := x7.2.1) 5 hs hM1 rfl Try.underlying37 ty3 rfl rfl rfl rfl hF rfl rfl (by simp) rfl rfl hx8 fun w9 S11 fr _ hs hp hF => ?_
     have ra1 := ra1.stp hM1 hp
     have hM1 := hM1.stp hp
     have hs : Sep [sl3 (L a14 x7.1 c14) x7.1, BX b1 76 [I x7.2.2.c.Inputs, L a15 x7.2.2.c.Gates c15, .bool x7.2.2.full], sl59 (L a15 x7.2.2.c.Gates c15) x7.2.2.c.Gates, sl3 (L a13 x6 c13) x6, sl3 (L a7 x4 c7) x4, sl3 (L a3 x1 c3) x8] w9 S11 := hs
     refine from_end rfl (then_normal ?_)
     refine wp_seq (wp_text' ?_)
     refine q_lit (E := 3) hs hM1 [] (([] : List Int).map Flat.enc) ([] : List Int) rfl rfl hF [] rfl (fun w => by kernel_rfl) (css_flat _) rfl rfl rfl fun a16 c16 w10 S12 fr hs hp hF => ?_
     have ra1 := ra1.stp hM1 hp
     have hM1 := hM1.stp hp
     have hs : Sep [sl3 (L a16 ([] : List Int) c16) ([] : List Int), sl3 (L a14 x7.1 c14) x7.1, BX b1 76 [I x7.2.2.c.Inputs, L a15 x7.2.2.c.Gates c15, .bool x7.2.2.full], sl59 (L a15 x7.2.2.c.Gates c15) x7.2.2.c.Gates, sl3 (L a13 x6 c13) x6, sl3 (L a7 x4 c7) x4, sl3 (L a3 x1 c3) x8] w10 S12 := hs
     refine from_pure 1 [(0, B b1 0), (1, L a1 p1 c1), (8, I (len p1)), (9, L a3 x1 c3), (10, L a16 ([] : List Int) c16), (11, L a7 x4 c7), (12, I s1.1), (13, L a13 x6 c13), (14, L a14 x7.1 c14), (15, I x7.2.1)] hF (by kernel_rfl) fun fr hF => ?_
     refine from_end rfl (then_normal ?_)
     refine wp_seq (wp_pure [(0, B b1 0), (1, L a1 p1 c1), (8, I (len p1)), (9, L a3 x1 c3), (10, L a16 ([] : List Int) c16), (11, L a7 x4 c7), (12, I s1.1), (13, L a13 x6 c13), (14, L a14 x7.1 c14), (15, I x7.2.1), (16, I 0)] hF (by kernel_rfl) fun fr hF => then_normal ?_)
     obtain ⟨rl2, hit2, h⟩ := bindE h
     have hk2 := h
     refine (wp_cut' (M := fun fr w' => ∃ a19 c19 a20 c20 S14 F4, FrS 73 [(0, B b1 0), (1, L a1 p1 c1), (8, I (len p1)), (9, L a3 x1 c3), (10, L a19 rl2.1 c19), (11, L a7 x4 c7), (12, I s1.1)] fr ∧ Mem w10 S12 F1 w' S14 F4 ∧ Sep [sl3 (L a19 rl2.1 c19) rl2.1, BX b1 76 [I rl2.2.1, L a20 rl2.2.2.2 c20, .bool rl2.2.2.1], sl59 (L a20 rl2.2.2.2 c20) rl2.2.2.2, sl3 (L a7 x4 c7) x4, sl3 (L a3 x1 c3) x8] w' S14) (wp_block (wp_iter (Inv := fun s2 fr w' => ∃ a17 c17 a18 c18 S13 F3, FrS 73 [(0, B b1 0), (1, L a1 p1 c1), (8, I (len p1)), (9, L a3 x1 c3), (10, L a17 s2.2.1 c17), (11, L a7 x4 c7), (12, I s1.1), (13, L a13 x6 c13), (14, L a14 x7.1 c14), (15, I x7.2.1), (16, I s2.1)] fr ∧ Mem w10 S12 F1 w' S13 F3 ∧ Sep [sl3 (L a17 s2.2.1 c17) s2.2.1, sl3 (L a14 x7.1 c14) x7.1, BX b1 76 [I s2.2.2.1, L a18 s2.2.2.2.2 c18, .bool s2.2.2.2.1], sl59 (L a18 s2.2.2.2.2 c18) s2.2.2.2.2, sl3 (L a13 x6 c13) x6, sl3 (L a7 x4 c7) x4, sl3 (L a3 x1 c3) x8] w' S13) hit2 ⟨a16, c16, a15, c15, S12, _, hF.sub _ (by kernel_rfl), (Mem.start hM1.bd hM1.bdF hM1.dj), hs⟩ fun s2 q2 fr w2i hI h hr2 => ?_)) fun fr w2o hM => ?_)
     · obtain ⟨a17, c17, a18, c18, S13, F3, hF, hM2, hs⟩ := hI
       have ra1 := ra1.mem hM2
       refine wp_seq ?_
       refine wp_seq (wp_pure [(0, B b1 0), (1, L a1 p1 c1), (8, I (len p1)), (9, L a3 x1 c3), (10, L a17 s2.2.1 c17), (11, L a7 x4 c7), (12, I s1.1), (13, L a13 x6 c13), (14, L a14 x7.1 c14), (15, I x7.2.1), (16, I s2.1), (54, .bool (decide (s2.1 < (len p1))))] hF (by kernel_rfl) fun fr hF => then_normal ?_)
       refine (wp_if hF (b := (decide (s2.1 < (len p1)))) rfl (fun hb => ?_) (fun hb => ?_))
       · replace h := iteT hb h
         refine (wp_skip (then_normal ?_))
         refine wp_seq (wp_block ?_)
         refine (wp_ra mix ?_)
         refine ra_hoist 0 (by kernel_rfl) (fun _ _ _ _ _ h => h) ?_
         obtain ⟨x9, hx9, h⟩ := bindE h
         obtain ⟨x10, hx10, h⟩ := bindE h
         refine (ra_bm 11 [0, 1, 1, 1, 1, 25, 57, 1, 1, 385, 897, 2047, 4095, 8191, 16383] [true, true, true, true, true, false, false, true, true, false, false]
             [.eq (L a17 s2.2.1 c17), .eq (B b1 0), .eq (I x7.2.1), .eq (L a14 x7.1 c14), .eq (I s2.1), .is fun v w => ElemP w (fun k => k < w2i.heap.size) v (x9 : Int), .eq (I x9), .eq (L a13 x6 c13), .eq (I s2.1), .is fun v w => ElemP w (fun k => k < w2i.heap.size) v (x10 : Int), .eq (I x10), .any, .any, .any, .any]
             [(0, B b1 0), (1, L a1 p1 c1), (8, I (len p1)), (9, L a3 x1 c3), (11, L a7 x4 c7), (12, I s1.1), (13, L a13 x6 c13), (14, L a14 x7.1 c14), (15, I x7.2.1), (16, I s2.1), (57, L a17 s2.2.1 c17), (58, B b1 0), (59, I x7.2.1), (63, I x9), (67, I x10)] hF (by kernel_rfl) (by kernel_rfl) (by kernel_rfl) (by kernel_rfl) ⟨(Pd.monoO_is mono_elem), Pd.monoO_eq, (Pd.monoO_is mono_elem), Pd.monoO_eq, trivial⟩ (fun ow hG => ⟨np_to ow (np_index hG hF ty3 Try.underlying37 rfl rfl (RV.sub (hs.rv 1 rfl) fun k hk _ => hk) rfl rfl (fun hg => ⟨get?_nn hx9, get?_at hx9⟩)), np_to ow (np_loadF (z := x9) (i := 5) hG hF ty3 rfl rfl rfl rfl rfl rfl rfl), np_to ow (np_index hG hF ty3 Try.underlying37 rfl rfl (RV.sub (hs.rv 4 rfl) fun k hk _ => hk) rfl rfl (fun hg => ⟨get?_nn hx10, get?_at hx10⟩)), np_to ow (np_loadF (z := x10) (i := 9) hG hF ty3 rfl rfl rfl rfl rfl rfl rfl), trivial⟩) (by kernel_rfl) fun ow fr w11 hF hE hc => ?_)
         have ra1 := ra1.ext hc
         have hs := hs.ext hc
         have hM2 := hM2.ext hc
         obtain ⟨x11, hx11, h⟩ := bindE h
         have hs : Sep [BX b1 76 [I s2.2.2.1, L a18 s2.2.2.2.2 c18, .bool s2.2.2.2.1], sl59 (L a18 s2.2.2.2.2 c18) s2.2.2.2.2, sl3 (L a17 s2.2.1 c17) s2.2.1, sl3 (L a14 x7.1 c14) x7.1, sl3 (L a13 x6 c13) x6, sl3 (L a7 x4 c7) x4, sl3 (L a3 x1 c3) x8] w11 S13 := Sep.pick [2, 3, 0, 1, 4, 5, 6] hs (by decide) rfl
         obtain ⟨A2, R2, hsA, hsR, hdA, hbA, hup⟩ := Sep.call (L1 := [BX b1 76 [I s2.2.2.1, L a18 s2.2.2.2.2 c18, .bool s2.2.2.2.1], sl59 (L a18 s2.2.2.2.2 c18) s2.2.2.2.2]) (L2 := [sl3 (L a17 s2.2.1 c17) s2.2.1, sl3 (L a14 x7.1 c14) x7.1, sl3 (L a13 x6 c13) x6, sl3 (L a7 x4 c7) x4, sl3 (L a3 x1 c3) x8]) hs hM2
         refine s_call [B b1 0, I x7.2.1, I x9, I x10] Try.call61 rfl rfl hF rfl (spec_l04Net_l04If_ok n (D.l04Net.mk (D.Circuit.mk s2.2.2.1 s2.2.2.2.2) s2.2.2.2.1) x7.2.1 x9 x10 hx11 hsA hbA hdA) fun v w12 fr hRes hF => ?_
         obtain ⟨a21, c21, rfl, _, hp, hs⟩ := hRes
         obtain ⟨S15, hp, hs⟩ := hup hp hs
         have ra1 := ra1.stp hM2 hp
         have hM2 := hM2.stp hp
         have hs : Sep [BX b1 76 [I x11.2.c.Inputs, L a21 x11.2.c.Gates c21, .bool x11.2.full], sl59 (L a21 x11.2.c.Gates c21) x11.2.c.Gates, sl3 (L a17 s2.2.1 c17) s2.2.1, sl3 (L a14 x7.1 c14) x7.1, sl3 (L a13 x6 c13) x6, sl3 (L a7 x4 c7) x4, sl3 (L a3 x1 c3) x8] w12 S15 := hs
         refine q_lit (E := 3) hs hM2 [I x11.1] (([x11.1] : List Int).map Flat.enc) ([x11.1] : List Int) rfl rfl hF [I x11.1] rfl (fun w => by kernel_rfl) (css_flat _) rfl rfl rfl fun a22 c22 w13 S16 fr hs hp hF => ?_
         have ra1 := ra1.stp hM2 hp
         have hM2 := hM2.stp hp
         have hs : Sep [sl3 (L a22 ([x11.1] : List Int) c22) ([x11.1] : List Int), BX b1 76 [I x11.2.c.Inputs, L a21 x11.2.c.Gates c21, .bool x11.2.full], sl59 (L a21 x11.2.c.Gates c21) x11.2.c.Gates, sl3 (L a17 s2.2.1 c17) s2.2.1, sl3 (L a14 x7.1 c14) x7.1, sl3 (L a13 x6 c13) x6, sl3 (L a7 x4 c7) x4, sl3 (L a3 x1 c3) x8] w13 S16 := hs
         obtain ⟨x12, hx12, h⟩ := bindE h
         refine q_append 3 hs hM2 rfl Try.underlying37 el3 rfl rfl rfl hF rfl rfl (hs.rv 0 rfl) hx12 fun a23 c23 w14 S17 fr hs hp hF => ?_
         have ra1 := ra1.stp hM2 hp
         have hM2 := hM2.stp hp
         have hs : Sep [sl3 (L a22 ([x11.1] : List Int) c22) ([x11.1] : List Int), BX b1 76 [I x11.2.c.Inputs, L a21 x11.2.c.Gates c21, .bool x11.2.full], sl59 (L a21 x11.2.c.Gates c21) x11.2.c.Gates, sl3 (L a23 x12 c23) x12, sl3 (L a14 x7.1 c14) x7.1, sl3 (L a13 x6 c13) x6, sl3 (L a7 x4 c7) x4, sl3 (L a3 x1 c3) x8] w14 S17 := hs
         have hs : Sep [BX b1 76 [I x11.2.c.Inputs, L a21 x11.2.c.Gates c21, .bool x11.2.full], sl59 (L a21 x11.2.c.Gates c21) x11.2.c.Gates, sl3 (L a23 x12 c23) x12, sl3 (L a14 x7.1 c14) x7.1, sl3 (L a13 x6 c13) x6, sl3 (L a7 x4 c7) x4, sl3 (L a3 x1 c3) x8] w14 S17 := Sep.pick [1, 2, 3, 4, 5, 6, 7] hs (by decide) rfl
         refine from_pure 1 [(0, B b1 0), (1, L a1 p1 c1), (8, I (len p1)), (9, L a3 x1 c3), (10, L a23 x12 c23), (11, L a7 x4 c7), (12, I s1.1), (13, L a13 x6 c13), (14, L a14 x7.1 c14), (15, I x7.2.1), (16, I s2.1)] hF (by kernel_rfl) fun fr hF => ?_
         refine from_end rfl ?_
         refine blk_normal (then_normal ?_)
         refine (wp_pure [(0, B b1 0), (1, L a1 p1 c1), (8, I (len p1)), (9, L a3 x1 c3), (10, L a23 x12 c23), (11, L a7 x4 c7), (12, I s1.1), (13, L a13 x6 c13), (14, L a14 x7.1 c14), (15, I x7.2.1), (16, I (w64 (s2.1 + 1)))] hF (by kernel_rfl) fun fr hF => then_normal ?_)
         have hs : Sep [sl3 (L a23 x12 c23) x12, sl3 (L a14 x7.1 c14) x7.1, BX b1 76 [I x11.2.c.Inputs, L a21 x11.2.c.Gates c21, .bool x11.2.full], sl59 (L a21 x11.2.c.Gates c21) x11.2.c.Gates, sl3 (L a13 x6 c13) x6, sl3 (L a7 x4 c7) x4, sl3 (L a3 x1 c3) x8] w14 S17 := Sep.pick [2, 3, 0, 1, 4, 5, 6] hs (by decide) rfl
         exact ⟨_, (Option.some.inj h).symm, a23, c23, a21, c21, S17, _, hF.sub _ (by kernel_rfl), hM2, hs⟩
       replace h := iteF hb h
       have hs : Sep [sl3 (L a17 s2.2.1 c17) s2.2.1, BX b1 76 [I s2.2.2.1, L a18 s2.2.2.2.2 c18, .bool s2.2.2.2.1], sl59 (L a18 s2.2.2.2.2 c18) s2.2.2.2.2, sl3 (L a7 x4 c7) x4, sl3 (L a3 x1 c3) x8] w2i S13 := Sep.pick [0, 2, 3, 5, 6] hs (by decide) rfl
       refine (wp_exit (then_exit (then_exit (blk_exit_eq ?_))))
       obtain rfl := hr2 _ (Option.some.inj h).symm
       exact then_normal ⟨a17, c17, a18, c18, S13, _, hF.sub _ (by kernel_rfl), hM2, hs⟩
     · obtain ⟨a19, c19, a20, c20, S14, F4, hF, hMx, hs⟩ := hM
       have ra1 := ra1.mem hMx
       have hM1 := hM1.trans hMx
       refine blk_normal (then_normal ?_)
       refine (wp_pure [(0, B b1 0), (1, L a1 p1 c1), (8, I (len p1)), (9, L a3 x1 c3), (10, L a19 rl2.1 c19), (11, L a7 x4 c7), (12, I (w64 (s1.1 - 1)))] hF (by kernel_rfl) fun fr hF => then_normal ?_)
       have hs : Sep [sl3 (L a7 x4 c7) x4, sl3 (L a19 rl2.1 c19) rl2.1, sl3 (L a3 x1 c3) x8, BX b1 76 [I rl2.2.1, L a20 rl2.2.2.2 c20, .bool rl2.2.2.1], sl59 (L a20 rl2.2.2.2 c20) rl2.2.2.2] w2o S14 := Sep.pick [3, 0, 4, 1, 2] hs (by decide) rfl
       exact ⟨_, (Option.some.inj h).symm, a19, c19, a20, c20, S14, _, hF.sub _ (by kernel_rfl), hM1, hs⟩
   replace h := iteF hb h
   have hs : Sep [sl3 (L a8 s1.2.1 c8) s1.2.1, sl3 (L a3 x1 c3) s1.2.2.1, BX b1 76 [I s1.2.2.2.1, L a9 s1.2.2.2.2.2 c9, .bool s1.2.2.2.2.1], sl59 (L a9 s1.2.2.2.2.2 c9) s1.2.2.2.2.2] w1i S6 := Sep.pick [1, 2, 3, 4] hs (by decide) rfl
   refine (wp_exit (then_exit (then_exit (blk_exit_eq ?_))))
   obtain rfl := hr1 _ (Option.some.inj h).symm
   exact then_normal ⟨a8, c8, a9, c9, S6, _, hF.sub _ (by kernel_rfl), hM1, hs⟩
 · obtain ⟨a10, c10, a11, c11, S7, F2, hF, hMx, hs⟩ := hM
   have hM0 := hM0.trans hMx
   refine wp_seq (wp_pure [(6, L a3 x1 c3), (7, L a10 rl1.1 c10)] hF (by kernel_rfl) fun fr hF => then_normal ?_)
   have hrets := fun {σ : List (Nat × Value)} (h : σ = [(6, L a3 x1 c3), (7, L a10 rl1.1 c10)]) => (by subst h; exact (Rets.tmp rfl (Rets.tmp rfl Rets.nil)) : Rets Try.prog σ w1o [.tmp 6, .tmp 7] [L a3 x1 c3, L a10 rl1.1 c10])
   obtain rfl := Option.some.inj h
   have hs : Sep [sl3 (L a3 x1 c3) rl1.2.1, sl3 (L a10 rl1.1 c10) rl1.1, BX b1 76 [I rl1.2.2.1, L a11 rl1.2.2.2.2 c11, .bool rl1.2.2.2.1], sl59 (L a11 rl1.2.2.2.2 c11) rl1.2.2.2.2] w1o S7 := Sep.pick [1, 0, 2, 3] hs (by decide) rfl
   obtain ⟨he1, hs⟩ := hs.relen 0 rfl
   have hs : Sep [sl3 (L a3 rl1.2.1 c3) rl1.2.1, sl3 (L a10 rl1.1 c10) rl1.1, BX b1 76 [I rl1.2.2.1, L a11 rl1.2.2.2.2 c11, .bool rl1.2.2.2.1], sl59 (L a11 rl1.2.2.2.2 c11) rl1.2.2.2.2] w1o S7 := hs
   exact wp_ret (retG (rs := [.tmp 6, .tmp 7]) rfl (hF.sub [(6, L a3 x1 c3), (7, L a10 rl1.1 c10)] (by kernel_rfl)) (hrets rfl) rfl ⟨_, rfl, a3, c3, a10, c10, a11, c11, (by simp only [L, he1]; rfl), S7, hM0.out, hs⟩)

theorem spec_l04Net_l04Shift_ok (n : Nat) (p0 : D.l04Net) (p1 : Int) (p2 : List Int) (p3 : List Int) {r : (List Int) × D.l04Net} (h : spec_l04Net_l04Shift n p0 p1 p2 p3 = some r) {w : World} {S0 F0 : Nat → Prop} {pa0 : Option Addr} {pn0 pc0 : Nat} {b1 : Nat} (hs : Sep [BX b1 76 [I p0.c.Inputs, .slice pa0 pn0 pc0, .bool p0.full], sl59 (.slice pa0 pn0 pc0) p0.c.Gates] w S0) (hb : ∀ k, S0 k → k < w.heap.size) (hd : ∀ k, S0 k → F0 k → False) {va2 : Value} (ra2 : RV w F0 va2 p2) {va3 : Value} (ra3 : RV w F0 va3 p3) :
   Calls Try.prog 92 [B b1 0, I p1, va2, va3].toArray w fun e w' => ∃ v, e = .returned v ∧ ∃ u0 a1 c1, v = u0 ∧ ∃ S' F', Stp w S0 w' S' ∧ Sep [BX b1 76 [I r.2.c.Inputs, L a1 r.2.c.Gates c1, .bool r.2.full], sl59 (L a1 r.2.c.Gates c1) r.2.c.Gates] w' S' ∧ RvF w w' S0 F0 S' F' ∧ RV w' F' u0 r.1 := by
 unfold spec_l04Net_l04Shift at h
 obtain ⟨hpn, hs⟩ := hs.relen 1 rfl
 subst hpn
 have hs : Sep [BX b1 76 [I p0.c.Inputs, L pa0 p0.c.Gates pc0, .bool p0.full], sl59 (L pa0 p0.c.Gates pc0) p0.c.Gates] w S0 := hs
 have hM0 : Mem w S0 (fun k => F0 k ∧ k < w.heap.size) w S0 (fun k => F0 k ∧ k < w.heap.size) := Mem.start hb (fun _ h => h.2) (fun k h1 h2 => hd k h1 h2.1)
 have ra2 := ra2.sub (F' := (fun k => F0 k ∧ k < w.heap.size)) (fun k hk h => ⟨h, hk⟩)
 obtain ⟨a1, c1, rfl, -⟩ := ra2.slice
 have ra3 := ra3.sub (F' := (fun k => F0 k ∧ k < w.heap.size)) (fun k hk h => ⟨h, hk⟩)
 obtain ⟨a2, c2, rfl, -⟩ := ra3.slice
 refine enter (N := 108) Try.func92 rfl Try.ntmps92 rfl fun fr hF => ?_
 refine wp_seq (wp_pure [(0, B b1 0), (1, I p1), (2, L a1 p2 c1), (3, L a2 p3 c2)] hF (by kernel_rfl) fun fr hF => then_normal ?_)
 refine wp_seq (wp_pure [(0, B b1 0), (1, I p1), (2, L a1 p2 c1), (3, L a2 p3 c2), (9, I (len p2))] hF (by kernel_rfl) fun fr hF => then_normal ?_)
 refine wp_seq (wp_pure [(0, B b1 0), (1, I p1), (2, L a1 p2 c1), (3, L a2 p3 c2), (9, I (len p2)), (10, I (-1))] hF (by kernel_rfl) fun fr hF => then_normal ?_)
 refine wp_seq ?_
 refine wp_seq (wp_pure [(0, B b1 0), (1, I p1), (2, L a1 p2 c1), (3, L a2 p3 c2), (9, I (len p2)), (10, I (-1)), (25, .bool (p1 == 13))] hF (by kernel_rfl) fun fr hF => then_normal ?_)
 refine (wp_if hF (b := (p1 == 13)) rfl (fun hb => ?_) (fun hb => ?_))
 · replace h := iteT hb h
   refine (wp_text' ?_)
   refine from_pure 3 [(0, B b1 0), (1, I p1), (2, L a1 p2 c1), (3, L a2 p3 c2), (9, I (len p2)), (26, L a1 p2 c1), (28, I (w64 ((len p2) - 1)))] hF (by kernel_rfl) fun fr hF => ?_
   obtain ⟨x1, hx1, h⟩ := bindE h
   refine s_elemF (z := x1) (I x1) ty3 Try.underlying37 rfl rfl rfl rfl rfl hF rfl (ra2) rfl (get?_nn hx1) (get?_at hx1) rfl fun p fr hF => ?_
   refine from_pure 1 [(0, B b1 0), (1, I p1), (2, L a1 p2 c1), (3, L a2 p3 c2), (9, I (len p2)), (10, I x1)] hF (by kernel_rfl) fun fr hF => ?_
   refine from_end rfl (then_normal ?_)
   refine wp_seq (wp_pure [(0, B b1 0), (1, I p1), (2, L a1 p2 c1), (3, L a2 p3 c2), (9, I (len p2)), (10, I x1), (11, I (-1))] hF (by kernel_rfl) fun fr hF => then_normal ?_)
   refine wp_seq (wp_pure [(0, B b1 0), (1, I p1), (2, L a1 p2 c1), (3, L a2 p3 c2), (9, I (len p2)), (10, I x1), (11, I (-1)), (12, .bool false)] hF (by kernel_rfl) fun fr hF => then_normal ?_)
   refine wp_seq (wp_pure [(0, B b1 0), (1, I p1), (3, L a2 p3 c2), (9, I (len p2)), (10, I x1), (11, I (-1)), (12, .bool false), (13, L a1 p2 c1)] hF (by kernel_rfl) fun fr hF => then_normal ?_)
   refine wp_seq ?_
   refine wp_seq (wp_pure [(0, B b1 0), (1, I p1), (3, L a2 p3 c2), (9, I (len p2)), (10, I x1), (11, I (-1)), (12, .bool false), (13, L a1 p2 c1), (14, I 0)] hF (by kernel_rfl) fun fr hF => then_normal ?_)
   obtain ⟨rl1, hit1, h⟩ := bindE h
   have hk1 := h
   refine (wp_cut (M := fun fr w' => ∃ a5 c5 a6 c6 S2 F2, FrS 108 [(0, B b1 0), (9, I (len p2)), (10, I x1), (11, I rl1.1), (12, .bool rl1.2.1), (13, L a5 rl1.2.2.1 c5)] fr ∧ Mem w S0 (fun k => F0 k ∧ k < w.heap.size) w' S2 F2 ∧ Sep [BX b1 76 [I rl1.2.2.2.1, L a6 rl1.2.2.2.2.2 c6, .bool rl1.2.2.2.2.1], sl59 (L a6 rl1.2.2.2.2.2 c6) rl1.2.2.2.2.2] w' S2 ∧ RV w' F2 (L a5 rl1.2.2.1 c5) rl1.2.2.1) (wp_block (wp_iter (Inv := fun s1 fr w' => ∃ a3 c3 a4 c4 S1 F1, FrS 108 [(0, B b1 0), (1, I p1), (3, L a2 p3 c2), (9, I (len p2)), (10, I x1), (11, I s1.1), (12, .bool s1.2.1), (13, L a3 s1.2.2.1 c3), (14, I s1.2.2.2.1)] fr ∧ Mem w S0 (fun k => F0 k ∧ k < w.heap.size) w' S1 F1 ∧ Sep [BX b1 76 [I s1.2.2.2.2.1, L a4 s1.2.2.2.2.2.2 c4, .bool s1.2.2.2.2.2.1], sl59 (L a4 s1.2.2.2.2.2.2 c4) s1.2.2.2.2.2.2] w' S1 ∧ RV w' F1 (L a3 s1.2.2.1 c3) s1.2.2.1) hit1 ⟨a1, c1, pa0, pc0, S0, _, hF.sub _ (by kernel_rfl), (Mem.start hM0.bd hM0.bdF hM0.dj), hs, (ra2)⟩ fun s1 q1 fr w1i hI h hr1 => ?_)) fun fr w1o hM => ?_)
   · obtain ⟨a3, c3, a4, c4, S1, F1, hF, hM1, hs, r1⟩ := hI
     have ra3 := ra3.mem hM1
     refine wp_seq ?_
     refine wp_seq (wp_pure [(0, B b1 0), (1, I p1), (3, L a2 p3 c2), (9, I (len p2)), (10, I x1), (11, I s1.1), (12, .bool s1.2.1), (13, L a3 s1.2.2.1 c3), (14, I s1.2.2.2.1), (34, .bool (decide (s1.2.2.2.1 < (len p2))))] hF (by kernel_rfl) fun fr hF => then_normal ?_)
     refine (wp_if hF (b := (decide (s1.2.2.2.1 < (len p2)))) rfl (fun hb => ?_) (fun hb => ?_))
     · replace h := iteT hb h
       refine (wp_skip (then_normal ?_))
       refine wp_seq (wp_block ?_)
       refine wp_seq (wp_text' ?_)
       refine from_pure 1 [(0, B b1 0), (1, I p1), (3, L a2 p3 c2), (9, I (len p2)), (10, I x1), (11, I s1.1), (12, .bool s1.2.1), (13, L a3 s1.2.2.1 c3), (14, I s1.2.2.2.1), (37, I s1.2.2.2.1)] hF (by kernel_rfl) fun fr hF => ?_
       obtain ⟨x2, hx2, h⟩ := bindE h
       refine s_shl rfl rfl hF rfl rfl hx2 fun fr hF => ?_
       refine from_pure 1 [(0, B b1 0), (1, I p1), (3, L a2 p3 c2), (9, I (len p2)), (10, I x1), (11, I s1.1), (12, .bool s1.2.1), (13, L a3 s1.2.2.1 c3), (14, I s1.2.2.2.1), (15, I x2)] hF (by kernel_rfl) fun fr hF => ?_
       refine from_end rfl (then_normal ?_)
       refine wp_seq ?_
       refine wp_seq (wp_pure [(0, B b1 0), (1, I p1), (3, L a2 p3 c2), (9, I (len p2)), (10, I x1), (11, I s1.1), (12, .bool s1.2.1), (13, L a3 s1.2.2.1 c3), (14, I s1.2.2.2.1), (15, I x2), (41, .bool (decide (x2 ≥ (len p2))))] hF (by kernel_rfl) fun fr hF => then_normal ?_)
       refine (wp_if hF (b := (decide (x2 ≥ (len p2)))) rfl (fun hb => ?_) (fun hb => ?_))
       · replace h := iteT hb h
         refine wp_seq (wp_text' ?_)
         refine from_pure 4 [(0, B b1 0), (1, I p1), (3, L a2 p3 c2), (9, I (len p2)), (10, I x1), (13, L a3 s1.2.2.1 c3), (14, I s1.2.2.2.1), (42, B b1 0), (43, I s1.1), (44, L a2 p3 c2), (45, I s1.2.2.2.1)] hF (by kernel_rfl) fun fr hF => ?_
         obtain ⟨x3, hx3, h⟩ := bindE h
         refine s_elemF (z := x3) (I x3) ty3 Try.underlying37 rfl rfl rfl rfl rfl hF rfl (ra3) rfl (get?_nn hx3) (get?_at hx3) rfl fun p fr hF => ?_
         obtain ⟨x4, hx4, h⟩ := bindE h
         obtain ⟨A1, R1, hsA, hsR, hdA, hbA, hup⟩ := Sep.call (L1 := [BX b1 76 [I s1.2.2.2.2.1, L a4 s1.2.2.2.2.2.2 c4, .bool s1.2.2.2.2.2.1], sl59 (L a4 s1.2.2.2.2.2.2 c4) s1.2.2.2.2.2.2]) (L2 := []) hs hM1
         refine s_call [B b1 0, I s1.1, I x3] Try.call55 rfl rfl hF rfl (spec_l04Net_l04Or_ok n (D.l04Net.mk (D.Circuit.mk s1.2.2.2.2.1 s1.2.2.2.2.2.2) s1.2.2.2.2.2.1) s1.1 x3 hx4 hsA hbA hdA) fun v w1 fr hRes hF => ?_
         obtain ⟨a7, c7, rfl, _, hp, hs⟩ := hRes
         obtain ⟨S3, hp, hs⟩ := hup hp hs
         have ra3 := ra3.stp hM1 hp
         have r1 := r1.stp hM1 hp
         have hM1 := hM1.stp hp
         have hs : Sep [BX b1 76 [I x4.2.c.Inputs, L a7 x4.2.c.Gates c7, .bool x4.2.full], sl59 (L a7 x4.2.c.Gates c7) x4.2.c.Gates] w1 S3 := hs
         refine from_pure 1 [(0, B b1 0), (1, I p1), (3, L a2 p3 c2), (9, I (len p2)), (10, I x1), (11, I x4.1), (13, L a3 s1.2.2.1 c3), (14, I s1.2.2.2.1)] hF (by kernel_rfl) fun fr hF => ?_
         refine from_end rfl (then_normal ?_)
         refine wp_seq (wp_pure [(0, B b1 0), (1, I p1), (3, L a2 p3 c2), (9, I (len p2)), (10, I x1), (11, I x4.1), (12, .bool true), (13, L a3 s1.2.2.1 c3), (14, I s1.2.2.2.1)] hF (by kernel_rfl) fun fr hF => then_normal ?_)
         refine (wp_exit (then_exit (blk_exit_eq ?_)))
         refine then_normal ?_
         refine (wp_pure [(0, B b1 0), (1, I p1), (3, L a2 p3 c2), (9, I (len p2)), (10, I x1), (11, I x4.1), (12, .bool true), (13, L a3 s1.2.2.1 c3), (14, I (w64 (s1.2.2.2.1 + 1)))] hF (by kernel_rfl) fun fr hF => then_normal ?_)
         exact ⟨_, (Option.some.inj h).symm, a3, c3, a7, c7, S3, _, hF.sub _ (by kernel_rfl), hM1, hs, (r1)⟩
       replace h := iteF hb h
       refine (wp_skip (then_normal ?_))
       refine wp_seq (wp_text' ?_)
       refine q_lit (E := 3) hs hM1 [] (([] : List Int).map Flat.enc) ([] : List Int) rfl rfl hF [] rfl (fun w => by kernel_rfl) (css_flat _) rfl rfl rfl fun a8 c8 w2 S4 fr hs hp hF => ?_
       have ra3 := ra3.stp hM1 hp
       have r1 := r1.stp hM1 hp
       have hM1 := hM1.stp hp
       have hs : Sep [sl3 (L a8 ([] : List Int) c8) ([] : List Int), BX b1 76 [I s1.2.2.2.2.1, L a4 s1.2.2.2.2.2.2 c4, .bool s1.2.2.2.2.2.1], sl59 (L a4 s1.2.2.2.2.2.2 c4) s1.2.2.2.2.2.2] w2 S4 := hs
       refine from_pure 1 [(0, B b1 0), (1, I p1), (3, L a2 p3 c2), (9, I (len p2)), (10, I x1), (11, I s1.1), (12, .bool s1.2.1), (13, L a3 s1.2.2.1 c3), (14, I s1.2.2.2.1), (15, I x2), (16, L a8 ([] : List Int) c8)] hF (by kernel_rfl) fun fr hF => ?_
       refine from_end rfl (then_normal ?_)
       refine wp_seq ?_
       refine wp_seq (wp_pure [(0, B b1 0), (1, I p1), (3, L a2 p3 c2), (9, I (len p2)), (10, I x1), (11, I s1.1), (12, .bool s1.2.1), (13, L a3 s1.2.2.1 c3), (14, I s1.2.2.2.1), (15, I x2), (16, L a8 ([] : List Int) c8), (17, I 0)] hF (by kernel_rfl) fun fr hF => then_normal ?_)
       obtain ⟨rl2, hit2, h⟩ := bindE h
       have hk2 := h
       refine (wp_cut (M := fun fr w' => ∃ a11 c11 a12 c12 S6 F4, FrS 108 [(0, B b1 0), (1, I p1), (3, L a2 p3 c2), (9, I (len p2)), (10, I x1), (11, I s1.1), (12, .bool s1.2.1), (14, I s1.2.2.2.1), (16, L a11 rl2.1 c11)] fr ∧ Mem w2 S4 F1 w' S6 F4 ∧ Sep [sl3 (L a11 rl2.1 c11) rl2.1, BX b1 76 [I rl2.2.1, L a12 rl2.2.2.2 c12, .bool rl2.2.2.1], sl59 (L a12 rl2.2.2.2 c12) rl2.2.2.2] w' S6) (wp_block (wp_iter (Inv := fun s2 fr w' => ∃ a9 c9 a10 c10 S5 F3, FrS 108 [(0, B b1 0), (1, I p1), (3, L a2 p3 c2), (9, I (len p2)), (10, I x1), (11, I s1.1), (12, .bool s1.2.1), (13, L a3 s1.2.2.1 c3), (14, I s1.2.2.2.1), (15, I x2), (16, L a9 s2.2.1 c9), (17, I s2.1)] fr ∧ Mem w2 S4 F1 w' S5 F3 ∧ Sep [sl3 (L a9 s2.2.1 c9) s2.2.1, BX b1 76 [I s2.2.2.1, L a10 s2.2.2.2.2 c10, .bool s2.2.2.2.1], sl59 (L a10 s2.2.2.2.2 c10) s2.2.2.2.2] w' S5) hit2 ⟨a8, c8, a4, c4, S4, _, hF.sub _ (by kernel_rfl), (Mem.start hM1.bd hM1.bdF hM1.dj), hs⟩ fun s2 q2 fr w2i hI h hr2 => ?_)) fun fr w2o hM => ?_)
       · obtain ⟨a9, c9, a10, c10, S5, F3, hF, hM2, hs⟩ := hI
         have ra3 := ra3.mem hM2
         have r1 := r1.mem hM2
         refine wp_seq ?_
         refine wp_seq (wp_pure [(0, B b1 0), (1, I p1), (3, L a2 p3 c2), (9, I (len p2)), (10, I x1), (11, I s1.1), (12, .bool s1.2.1), (13, L a3 s1.2.2.1 c3), (14, I s1.2.2.2.1), (15, I x2), (16, L a9 s2.2.1 c9), (17, I s2.1), (52, .bool (decide (s2.1 < (len p2))))] hF (by kernel_rfl) fun fr hF => then_normal ?_)
         refine (wp_if hF (b := (decide (s2.1 < (len p2)))) rfl (fun hb => ?_) (fun hb => ?_))
         · replace h := iteT hb h
           refine (wp_skip (then_normal ?_))
           refine wp_seq (wp_block ?_)
           refine wp_seq (wp_pure [(0, B b1 0), (1, I p1), (3, L a2 p3 c2), (9, I (len p2)), (10, I x1), (11, I s1.1), (12, .bool s1.2.1), (13, L a3 s1.2.2.1 c3), (14, I s1.2.2.2.1), (15, I x2), (16, L a9 s2.2.1 c9), (17, I s2.1), (18, I (w64 (s2.1 + x2)))] hF (by kernel_rfl) fun fr hF => then_normal ?_)
           refine wp_seq ?_
           refine wp_seq (wp_pure [(0, B b1 0), (1, I p1), (3, L a2 p3 c2), (9, I (len p2)), (10, I x1), (11, I s1.1), (12, .bool s1.2.1), (13, L a3 s1.2.2.1 c3), (14, I s1.2.2.2.1), (15, I x2), (16, L a9 s2.2.1 c9), (17, I s2.1), (18, I (w64 (s2.1 + x2))), (59, .bool (p1 == 11))] hF (by kernel_rfl) fun fr hF => then_normal ?_)
           refine (wp_merge [(0, B b1 0), (1, I p1), (3, L a2 p3 c2), (9, I (len p2)), (10, I x1), (11, I s1.1), (12, .bool s1.2.1), (13, L a3 s1.2.2.1 c3), (14, I s1.2.2.2.1), (15, I x2), (16, L a9 s2.2.1 c9), (17, I s2.1), (18, I (cond (p1 == 11) (w64 (s2.1 - x2)) (w64 (s2.1 + x2))))] hF (b := (p1 == 11)) rfl (fun hb => ?_) (fun hb => ?_) fun fr hF => then_normal ?_)
           · exact wp_pure [(0, B b1 0), (1, I p1), (3, L a2 p3 c2), (9, I (len p2)), (10, I x1), (11, I s1.1), (12, .bool s1.2.1), (13, L a3 s1.2.2.1 c3), (14, I s1.2.2.2.1), (15, I x2), (16, L a9 s2.2.1 c9), (17, I s2.1), (18, I (w64 (s2.1 - x2)))] hF (by kernel_rfl) fun fr hF => ⟨rfl, rfl, hF.eqs (by first | (simp only [hb]; done) | (simp only [hb]; rfl))⟩
           · exact wp_skip ⟨rfl, rfl, (hF.sub [(0, B b1 0), (1, I p1), (3, L a2 p3 c2), (9, I (len p2)), (10, I x1), (11, I s1.1), (12, .bool s1.2.1), (13, L a3 s1.2.2.1 c3), (14, I s1.2.2.2.1), (15, I x2), (16, L a9 s2.2.1 c9), (17, I s2.1), (18, I (w64 (s2.1 + x2)))] (by kernel_rfl)).eqs (by first | (simp only [hb]; done) | (simp only [hb]; rfl))⟩
           refine wp_seq (wp_pure [(0, B b1 0), (1, I p1), (3, L a2 p3 c2), (9, I (len p2)), (10, I x1), (11, I s1.1), (12, .bool s1.2.1), (13, L a3 s1.2.2.1 c3), (14, I s1.2.2.2.1), (15, I x2), (16, L a9 s2.2.1 c9), (17, I s2.1), (18, I (cond (p1 == 11) (w64 (s2.1 - x2)) (w64 (s2.1 + x2)))), (19, I x1)] hF (by kernel_rfl) fun fr hF => then_normal ?_)
           refine wp_seq ?_
           refine wp_seq (wp_text' ?_)
           refine from_pure 3 [(0, B b1 0), (1, I p1), (3, L a2 p3 c2), (9, I (len p2)), (10, I x1), (11, I s1.1), (12, .bool s1.2.1), (13, L a3 s1.2.2.1 c3), (14, I s1.2.2.2.1), (15, I x2), (16, L a9 s2.2.1 c9), (17, I s2.1), (18, I (cond (p1 == 11) (w64 (s2.1 - x2)) (w64 (s2.1 + x2)))), (19, I x1), (64, I (cond (p1 == 11) (w64 (s2.1 - x2)) (w64 (s2.1 + x2)))), (66, I (w64 ((len p2) - 1)))] hF (by kernel_rfl) fun fr hF => ?_
           obtain ⟨x5, hx5, h⟩ := bindE h
           refine s_call [I (cond (p1 == 11) (w64 (s2.1 - x2)) (w64 (s2.1 + x2))), I 0, I (w64 ((len p2) - 1))] Try.call70 rfl rfl hF rfl (spec_l01In_ok (cond (p1 == 11) (w64 (s2.1 - x2)) (w64 (s2.1 + x2))) 0 (w64 ((len p2) - 1)) hx5) fun v w3 fr hRes hF => ?_
           obtain ⟨rfl, hc⟩ := hRes
           have ra3 := ra3.ext hc
           have r1 := r1.ext hc
           have hs := hs.ext hc
           have hM2 := hM2.ext hc
           refine from_end rfl (then_normal ?_)
           refine (wp_if hF (b := x5) rfl (fun hb => ?_) (fun hb => ?_))
           · replace h := iteT hb h
             refine (wp_text' ?_)
             refine from_pure 2 [(0, B b1 0), (1, I p1), (3, L a2 p3 c2), (9, I (len p2)), (10, I x1), (11, I s1.1), (12, .bool s1.2.1), (13, L a3 s1.2.2.1 c3), (14, I s1.2.2.2.1), (15, I x2), (16, L a9 s2.2.1 c9), (17, I s2.1), (68, L a3 s1.2.2.1 c3), (69, I (cond (p1 == 11) (w64 (s2.1 - x2)) (w64 (s2.1 + x2))))] hF (by kernel_rfl) fun fr hF => ?_
             obtain ⟨x6, hx6, h⟩ := bindE h
             refine s_elemF (z := x6) (I x6) ty3 Try.underlying37 rfl rfl rfl rfl rfl hF rfl (r1) rfl (get?_nn hx6) (get?_at hx6) rfl fun p fr hF => ?_
             refine from_pure 1 [(0, B b1 0), (1, I p1), (3, L a2 p3 c2), (9, I (len p2)), (10, I x1), (11, I s1.1), (12, .bool s1.2.1), (13, L a3 s1.2.2.1 c3), (14, I s1.2.2.2.1), (15, I x2), (16, L a9 s2.2.1 c9), (17, I s2.1), (19, I x6)] hF (by kernel_rfl) fun fr hF => ?_
             refine from_end rfl (then_normal ?_)
             refine (wp_ra mix ?_)
             refine ra_hoist 0 (by kernel_rfl) (fun _ _ _ _ _ h => h) ?_
             obtain ⟨x7, hx7, h⟩ := bindE h
             obtain ⟨x8, hx8, h⟩ := bindE h
             refine (ra_bm 11 [0, 1, 1, 1, 13, 29, 1, 1, 1, 385, 897, 2047, 4095, 8191, 16383] [true, true, true, true, false, false, true, true, true, false, false]
                 [.eq (L a9 s2.2.1 c9), .eq (B b1 0), .eq (L a2 p3 c2), .eq (I s1.2.2.2.1), .is fun v w => ElemP w (fun k => k < w3.heap.size) v (x7 : Int), .eq (I x7), .eq (I x6), .eq (L a3 s1.2.2.1 c3), .eq (I s2.1), .is fun v w => ElemP w (fun k => k < w3.heap.size) v (x8 : Int), .eq (I x8), .any, .any, .any, .any]
                 [(0, B b1 0), (1, I p1), (3, L a2 p3 c2), (9, I (len p2)), (10, I x1), (11, I s1.1), (12, .bool s1.2.1), (13, L a3 s1.2.2.1 c3), (14, I s1.2.2.2.1), (15, I x2), (17, I s2.1), (72, L a9 s2.2.1 c9), (73, B b1 0), (77, I x7), (78, I x6), (82, I x8)] hF (by kernel_rfl) (by kernel_rfl) (by kernel_rfl) (by kernel_rfl) ⟨(Pd.monoO_is mono_elem), Pd.monoO_eq, (Pd.monoO_is mono_elem), Pd.monoO_eq, trivial⟩ (fun ow hG => ⟨np_to ow (np_index hG hF ty3 Try.underlying37 rfl rfl (RV.sub (ra3) fun k hk _ => hk) rfl rfl (fun hg => ⟨get?_nn hx7, get?_at hx7⟩)), np_to ow (np_loadF (z := x7) (i := 4) hG hF ty3 rfl rfl rfl rfl rfl rfl rfl), np_to ow (np_index hG hF ty3 Try.underlying37 rfl rfl (RV.sub (r1) fun k hk _ => hk) rfl rfl (fun hg => ⟨get?_nn hx8, get?_at hx8⟩)), np_to ow (np_loadF (z := x8) (i := 9) hG hF ty3 rfl rfl rfl rfl rfl rfl rfl), trivial⟩) (by kernel_rfl) fun ow fr w4 hF hE hc => ?_)
             have ra3 := ra3.ext hc
             have r1 := r1.ext hc
             have hs := hs.ext hc
             have hM2 := hM2.ext hc
             obtain ⟨x9, hx9, h⟩ := bindE h
             have hs : Sep [BX b1 76 [I s2.2.2.1, L a10 s2.2.2.2.2 c10, .bool s2.2.2.2.1], sl59 (L a10 s2.2.2.2.2 c10) s2.2.2.2.2, sl3 (L a9 s2.2.1 c9) s2.2.1] w4 S5 := Sep.pick [1, 2, 0] hs (by decide) rfl
             obtain ⟨A2, R2, hsA, hsR, hdA, hbA, hup⟩ := Sep.call (L1 := [BX b1 76 [I s2.2.2.1, L a10 s2.2.2.2.2 c10, .bool s2.2.2.2.1], sl59 (L a10 s2.2.2.2.2 c10) s2.2.2.2.2]) (L2 := [sl3 (L a9 s2.2.1 c9) s2.2.1]) hs hM2
             refine s_call [B b1 0, I x7, I x6, I x8] Try.call61 rfl rfl hF rfl (spec_l04Net_l04If_ok n (D.l04Net.mk (D.Circuit.mk s2.2.2.1 s2.2.2.2.2) s2.2.2.2.1) x7 x6 x8 hx9 hsA hbA hdA) fun v w5 fr hRes hF => ?_
             obtain ⟨a13, c13, rfl, _, hp, hs⟩ := hRes
             obtain ⟨S7, hp, hs⟩ := hup hp hs
             have ra3 := ra3.stp hM2 hp
             have r1 := r1.stp hM2 hp
             have hM2 := hM2.stp hp
             have hs : Sep [BX b1 76 [I x9.2.c.Inputs, L a13 x9.2.c.Gates c13, .bool x9.2.full], sl59 (L a13 x9.2.c.Gates c13) x9.2.c.Gates, sl3 (L a9 s2.2.1 c9) s2.2.1] w5 S7 := hs
             refine q_lit (E := 3) hs hM2 [I x9.1] (([x9.1] : List Int).map Flat.enc) ([x9.1] : List Int) rfl rfl hF [I x9.1] rfl (fun w => by kernel_rfl) (css_flat _) rfl rfl rfl fun a14 c14 w6 S8 fr hs hp hF => ?_
             have ra3 := ra3.stp hM2 hp
             have r1 := r1.stp hM2 hp
             have hM2 := hM2.stp hp
             have hs : Sep [sl3 (L a14 ([x9.1] : List Int) c14) ([x9.1] : List Int), BX b1 76 [I x9.2.c.Inputs, L a13 x9.2.c.Gates c13, .bool x9.2.full], sl59 (L a13 x9.2.c.Gates c13) x9.2.c.Gates, sl3 (L a9 s2.2.1 c9) s2.2.1] w6 S8 := hs
             obtain ⟨x10, hx10, h⟩ := bindE h
             refine q_append 3 hs hM2 rfl Try.underlying37 el3 rfl rfl rfl hF rfl rfl (hs.rv 0 rfl) hx10 fun a15 c15 w7 S9 fr hs hp hF => ?_
             have ra3 := ra3.stp hM2 hp
             have r1 := r1.stp hM2 hp
             have hM2 := hM2.stp hp
             have hs : Sep [sl3 (L a14 ([x9.1] : List Int) c14) ([x9.1] : List Int), BX b1 76 [I x9.2.c.Inputs, L a13 x9.2.c.Gates c13, .bool x9.2.full], sl59 (L a13 x9.2.c.Gates c13) x9.2.c.Gates, sl3 (L a15 x10 c15) x10] w7 S9 := hs
             have hs : Sep [BX b1 76 [I x9.2.c.Inputs, L a13 x9.2.c.Gates c13, .bool x9.2.full], sl59 (L a13 x9.2.c.Gates c13) x9.2.c.Gates, sl3 (L a15 x10 c15) x10] w7 S9 := Sep.pick [1, 2, 3] hs (by decide) rfl
             refine from_pure 1 [(0, B b1 0), (1, I p1), (3, L a2 p3 c2), (9, I (len p2)), (10, I x1), (11, I s1.1), (12, .bool s1.2.1), (13, L a3 s1.2.2.1 c3), (14, I s1.2.2.2.1), (15, I x2), (16, L a15 x10 c15), (17, I s2.1)] hF (by kernel_rfl) fun fr hF => ?_
             refine from_end rfl ?_
             refine blk_normal (then_normal ?_)
             refine (wp_pure [(0, B b1 0), (1, I p1), (3, L a2 p3 c2), (9, I (len p2)), (10, I x1), (11, I s1.1), (12, .bool s1.2.1), (13, L a3 s1.2.2.1 c3), (14, I s1.2.2.2.1), (15, I x2), (16, L a15 x10 c15), (17, I (w64 (s2.1 + 1)))] hF (by kernel_rfl) fun fr hF => then_normal ?_)
             have hs : Sep [sl3 (L a15 x10 c15) x10, BX b1 76 [I x9.2.c.Inputs, L a13 x9.2.c.Gates c13, .bool x9.2.full], sl59 (L a13 x9.2.c.Gates c13) x9.2.c.Gates] w7 S9 := Sep.pick [2, 0, 1] hs (by decide) rfl
             exact ⟨_, (Option.some.inj h).symm, a15, c15, a13, c13, S9, _, hF.sub _ (by kernel_rfl), hM2, hs⟩
           replace h := iteF hb h
           refine (wp_skip (then_normal ?_))
           refine (wp_ra mix ?_)
           refine ra_hoist 0 (by kernel_rfl) (fun _ _ _ _ _ h => h) ?_
           obtain ⟨x11, hx11, h⟩ := bindE h
           obtain ⟨x12, hx12, h⟩ := bindE h
           refine (ra_bm 11 [0, 1, 1, 1, 13, 29, 1, 1, 1, 385, 897, 2047, 4095, 8191, 16383] [true, true, true, true, false, false, true, true, true, false, false]
               [.eq (L a9 s2.2.1 c9), .eq (B b1 0), .eq (L a2 p3 c2), .eq (I s1.2.2.2.1), .is fun v w => ElemP w (fun k => k < w3.heap.size) v (x11 : Int), .eq (I x11), .eq (I x1), .eq (L a3 s1.2.2.1 c3), .eq (I s2.1), .is fun v w => ElemP w (fun k => k < w3.heap.size) v (x12 : Int), .eq (I x12), .any, .any, .any, .any]
               [(0, B b1 0), (1, I p1), (3, L a2 p3 c2), (9, I (len p2)), (10, I x1), (11, I s1.1), (12, .bool s1.2.1), (13, L a3 s1.2.2.1 c3), (14, I s1.2.2.2.1), (15, I x2), (17, I s2.1), (72, L a9 s2.2.1 c9), (73, B b1 0), (77, I x11), (78, I x1), (82, I x12)] hF (by kernel_rfl) (by kernel_rfl) (by kernel_rfl) (by kernel_rfl) ⟨(Pd.monoO_is mono_elem), Pd.monoO_eq, (Pd.monoO_is mono_elem), Pd.monoO_eq, trivial⟩ (fun ow hG => ⟨np_to ow (np_index hG hF ty3 Try.underlying37 rfl rfl (RV.sub (ra3) fun k hk _ => hk) rfl rfl (fun hg => ⟨get?_nn hx11, get?_at hx11⟩)), np_to ow (np_loadF (z := x11) (i := 4) hG hF ty3 rfl rfl rfl rfl rfl rfl rfl), np_to ow (np_index hG hF ty3 Try.underlying37 rfl rfl (RV.sub (r1) fun k hk _ => hk) rfl rfl (fun hg => ⟨get?_nn hx12, get?_at hx12⟩)), np_to ow (np_loadF (z := x12) (i := 9) hG hF ty3 rfl rfl rfl rfl rfl rfl rfl), trivial⟩) (by kernel_rfl) fun ow fr w8 hF hE hc => ?_)
           have ra3 := ra3.ext hc
           have r1 := r1.ext hc
           have hs := hs.ext hc
           have hM2 := hM2.ext hc
           obtain ⟨x13, hx13, h⟩ := bindE h
           have hs : Sep [BX b1 76 [I s2.2.2.1, L a10 s2.2.2.2.2 c10, .bool s2.2.2.2.1], sl59 (L a10 s2.2.2.2.2 c10) s2.2.2.2.2, sl3 (L a9 s2.2.1 c9) s2.2.1] w8 S5 := Sep.pick [1, 2, 0] hs (by decide) rfl
           obtain ⟨A3, R3, hsA, hsR, hdA, hbA, hup⟩ := Sep.call (L1 := [BX b1 76 [I s2.2.2.1, L a10 s2.2.2.2.2 c10, .bool s2.2.2.2.1], sl59 (L a10 s2.2.2.2.2 c10) s2.2.2.2.2]) (L2 := [sl3 (L a9 s2.2.1 c9) s2.2.1]) hs hM2
           refine s_call [B b1 0, I x11, I x1, I x12] Try.call61 rfl rfl hF rfl (spec_l04Net_l04If_ok n (D.l04Net.mk (D.Circuit.mk s2.2.2.1 s2.2.2.2.2) s2.2.2.2.1) x11 x1 x12 hx13 hsA hbA hdA) fun v w9 fr hRes hF => ?_
           obtain ⟨a16, c16, rfl, _, hp, hs⟩ := hRes
           obtain ⟨S10, hp, hs⟩ := hup hp hs
           have ra3 := ra3.stp hM2 hp
           have r1 := r1.stp hM2 hp
           have hM2 := hM2.stp hp
           have hs : Sep [BX b1 76 [I x13.2.c.Inputs, L a16 x13.2.c.Gates c16, .bool x13.2.full], sl59 (L a16 x13.2.c.Gates c16) x13.2.c.Gates, sl3 (L a9 s2.2.1 c9) s2.2.1] w9 S10 := hs
           refine q_lit (E := 3) hs hM2 [I x13.1] (([x13.1] : List Int).map Flat.enc) ([x13.1] : List Int) rfl rfl hF [I x13.1] rfl (fun w => by kernel_rfl) (css_flat _) rfl rfl rfl fun a17 c17 w10 S11 fr hs hp hF => ?_
           have ra3 := ra3.stp hM2 hp
           have r1 := r1.stp hM2 hp
           have hM2 := hM2.stp hp
           have hs : Sep [sl3 (L a17 ([x13.1] : List Int) c17) ([x13.1] : List Int), BX b1 76 [I x13.2.c.Inputs, L a16 x13.2.c.Gates c16, .bool x13.2.full], sl59 (L a16 x13.2.c.Gates c16) x13.2.c.Gates, sl3 (L a9 s2.2.1 c9) s2.2.1] w10 S11 := hs
           obtain ⟨x14, hx14, h⟩ := bindE h
           refine q_append 3 hs hM2 rfl Try.underlying37 el3 rfl rfl rfl hF rfl rfl (hs.rv 0 rfl) hx14 fun a18 c18 w11 S12 fr hs hp hF => ?_
           have ra3 := ra3.stp hM2 hp
           have r1 := r1.stp hM2 hp
           have hM2 := hM2.stp hp
           have hs : Sep [sl3 (L a17 ([x13.1] : List Int) c17) ([x13.1] : List Int), BX b1 76 [I x13.2.c.Inputs, L a16 x13.2.c.Gates c16, .bool x13.2.full], sl59 (L a16 x13.2.c.Gates c16) x13.2.c.Gates, sl3 (L a18 x14 c18) x14] w11 S12 := hs
           have hs : Sep [BX b1 76 [I x13.2.c.Inputs, L a16 x13.2.c.Gates c16, .bool x13.2.full], sl59 (L a16 x13.2.c.Gates c16) x13.2.c.Gates, sl3 (L a18 x14 c18) x14] w11 S12 := Sep.pick [1, 2, 3] hs (by decide) rfl
           refine from_pure 1 [(0, B b1 0), (1, I p1), (3, L a2 p3 c2), (9, I (len p2)), (10, I x1), (11, I s1.1), (12, .bool s1.2.1), (13, L a3 s1.2.2.1 c3), (14, I s1.2.2.2.1), (15, I x2), (16, L a18 x14 c18), (17, I s2.1)] hF (by kernel_rfl) fun fr hF => ?_
           refine from_end rfl ?_
           refine blk_normal (then_normal ?_)
           refine (wp_pure [(0, B b1 0), (1, I p1), (3, L a2 p3 c2), (9, I (len p2)), (10, I x1), (11, I s1.1), (12, .bool s1.2.1), (13, L a3 s1.2.2.1 c3), (14, I s1.2.2.2.1), (15, I x2), (16, L a18 x14 c18), (17, I (w64 (s2.1 + 1)))] hF (by kernel_rfl) fun fr hF => then_normal ?_)
           have hs : Sep [sl3 (L a18 x14 c18) x14, BX b1 76 [I x13.2.c.Inputs, L a16 x13.2.c.Gates c16, .bool x13.2.full], sl59 (L a16 x13.2.c.Gates c16) x13.2.c.Gates] w11 S12 := Sep.pick [2, 0, 1] hs (by decide) rfl
           exact ⟨_, (Option.some.inj h).symm, a18, c18, a16, c16, S12, _, hF.sub _ (by kernel_rfl), hM2, hs⟩
         replace h := iteF hb h
         refine (wp_exit (then_exit (then_exit (blk_exit_eq ?_))))
         obtain rfl := hr2 _ (Option.some.inj h).symm
         exact then_normal ⟨a9, c9, a10, c10, S5, _, hF.sub _ (by kernel_rfl), hM2, hs⟩
       · obtain ⟨a11, c11, a12, c12, S6, F4, hF, hMx, hs⟩ := hM
         have ra3 := ra3.mem hMx
         have hM1 := hM1.trans hMx
         refine (wp_pure [(0, B b1 0), (1, I p1), (3, L a2 p3 c2), (9, I (len p2)), (10, I x1), (11, I s1.1), (12, .bool s1.2.1), (13, L a11 rl2.1 c11), (14, I s1.2.2.2.1)] hF (by kernel_rfl) fun fr hF => ?_)
         refine blk_normal (then_normal ?_)
         refine (wp_pure [(0, B b1 0), (1, I p1), (3, L a2 p3 c2), (9, I (len p2)), (10, I x1), (11, I s1.1), (12, .bool s1.2.1), (13, L a11 rl2.1 c11), (14, I (w64 (s1.2.2.2.1 + 1)))] hF (by kernel_rfl) fun fr hF => then_normal ?_)
         obtain ⟨S13, F5, hMn, hs, r3, hfz⟩ := Sep.freeze hs hM1
         have r3 := SL.rv r3
         have ra3 := ra3.big hfz
         have hM1 := hMn
         exact ⟨_, (Option.some.inj h).symm, a11, c11, a12, c12, S13, _, hF.sub _ (by kernel_rfl), hM1, hs, (r3)⟩
     replace h := iteF hb h
     refine (wp_exit (then_exit (then_exit (blk_exit_eq ?_))))
     obtain rfl := hr1 _ (Option.some.inj h).symm
     exact then_normal ⟨a3, c3, a4, c4, S1, _, hF.sub _ (by kernel_rfl), hM1, hs, (r1)⟩
   · obtain ⟨a5, c5, a6, c6, S2, F2, hF, hMx, hs, r2⟩ := hM
     have hM0 := hM0.trans hMx
     refine wp_seq ?_
     refine wp_seq (wp_pure [(0, B b1 0), (9, I (len p2)), (10, I x1), (11, I rl1.1), (13, L a5 rl1.2.2.1 c5), (88, .bool (!rl1.2.1))] hF (by kernel_rfl) fun fr hF => then_normal ?_)
     refine (wp_if hF (b := (!rl1.2.1)) rfl (fun hb => ?_) (fun hb => ?_))
     · replace h := iteT hb h
       refine wp_seq (wp_pure [(8, L a5 rl1.2.2.1 c5)] hF (by kernel_rfl) fun fr hF => then_normal ?_)
       obtain rfl := Option.some.inj h
       exact wp_ret (then_ret (ret1 rfl hF rfl ⟨_, rfl, _, a6, c6, rfl, S2, _, hM0.out, hs, hM0.rvF, (r2)⟩))
     replace h := iteF hb h
     refine (wp_skip (then_normal ?_))
     refine wp_seq (wp_text' ?_)
     refine q_lit (E := 3) hs hM0 [] (([] : List Int).map Flat.enc) ([] : List Int) rfl rfl hF [] rfl (fun w => by kernel_rfl) (css_flat _) rfl rfl rfl fun a19 c19 w12 S14 fr hs hp hF => ?_
     have r2 := r2.stp hM0 hp
     have hM0 := hM0.stp hp
     have hs : Sep [sl3 (L a19 ([] : List Int) c19) ([] : List Int), BX b1 76 [I rl1.2.2.2.1, L a6 rl1.2.2.2.2.2 c6, .bool rl1.2.2.2.2.1], sl59 (L a6 rl1.2.2.2.2.2 c6) rl1.2.2.2.2.2] w12 S14 := hs
     refine from_pure 1 [(0, B b1 0), (9, I (len p2)), (10, I x1), (11, I rl1.1), (13, L a5 rl1.2.2.1 c5), (20, L a19 ([] : List Int) c19)] hF (by kernel_rfl) fun fr hF => ?_
     refine from_end rfl (then_normal ?_)
     refine wp_seq ?_
     refine wp_seq (wp_pure [(0, B b1 0), (9, I (len p2)), (10, I x1), (11, I rl1.1), (13, L a5 rl1.2.2.1 c5), (20, L a19 ([] : List Int) c19), (21, I 0)] hF (by kernel_rfl) fun fr hF => then_normal ?_)
     obtain ⟨rl3, hit3, h⟩ := bindE h
     have hk3 := h
     refine (wp_cut (M := fun fr w' => ∃ a22 c22 a23 c23 S16 F7, FrS 108 [(20, L a22 rl3.1 c22)] fr ∧ Mem w12 S14 F2 w' S16 F7 ∧ Sep [sl3 (L a22 rl3.1 c22) rl3.1, BX b1 76 [I rl3.2.1, L a23 rl3.2.2.2 c23, .bool rl3.2.2.1], sl59 (L a23 rl3.2.2.2 c23) rl3.2.2.2] w' S16) (wp_block (wp_iter (Inv := fun s3 fr w' => ∃ a20 c20 a21 c21 S15 F6, FrS 108 [(0, B b1 0), (9, I (len p2)), (10, I x1), (11, I rl1.1), (13, L a5 rl1.2.2.1 c5), (20, L a20 s3.2.1 c20), (21, I s3.1)] fr ∧ Mem w12 S14 F2 w' S15 F6 ∧ Sep [sl3 (L a20 s3.2.1 c20) s3.2.1, BX b1 76 [I s3.2.2.1, L a21 s3.2.2.2.2 c21, .bool s3.2.2.2.1], sl59 (L a21 s3.2.2.2.2 c21) s3.2.2.2.2] w' S15) hit3 ⟨a19, c19, a6, c6, S14, _, hF.sub _ (by kernel_rfl), (Mem.start hM0.bd hM0.bdF hM0.dj), hs⟩ fun s3 q3 fr w3i hI h hr3 => ?_)) fun fr w3o hM => ?_)
     · obtain ⟨a20, c20, a21, c21, S15, F6, hF, hM1, hs⟩ := hI
       have r2 := r2.mem hM1
       refine wp_seq ?_
       refine wp_seq (wp_pure [(0, B b1 0), (9, I (len p2)), (10, I x1), (11, I rl1.1), (13, L a5 rl1.2.2.1 c5), (20, L a20 s3.2.1 c20), (21, I s3.1), (93, .bool (decide (s3.1 < (len p2))))] hF (by kernel_rfl) fun fr hF => then_normal ?_)
       refine (wp_if hF (b := (decide (s3.1 < (len p2)))) rfl (fun hb => ?_) (fun hb => ?_))
       · replace h := iteT hb h
         refine (wp_skip (then_normal ?_))
         refine wp_seq (wp_block ?_)
         refine (wp_text' ?_)
         refine from_pure 6 [(0, B b1 0), (9, I (len p2)), (10, I x1), (11, I rl1.1), (13, L a5 rl1.2.2.1 c5), (21, I s3.1), (96, L a20 s3.2.1 c20), (97, B b1 0), (98, I rl1.1), (99, I x1), (100, L a5 rl1.2.2.1 c5), (101, I s3.1)] hF (by kernel_rfl) fun fr hF => ?_
         obtain ⟨x15, hx15, h⟩ := bindE h
         refine s_elemF (z := x15) (I x15) ty3 Try.underlying37 rfl rfl rfl rfl rfl hF rfl (r2) rfl (get?_nn hx15) (get?_at hx15) rfl fun p fr hF => ?_
         obtain ⟨x16, hx16, h⟩ := bindE h
         have hs : Sep [BX b1 76 [I s3.2.2.1, L a21 s3.2.2.2.2 c21, .bool s3.2.2.2.1], sl59 (L a21 s3.2.2.2.2 c21) s3.2.2.2.2, sl3 (L a20 s3.2.1 c20) s3.2.1] w3i S15 := Sep.pick [1, 2, 0] hs (by decide) rfl
         obtain ⟨A4, R4, hsA, hsR, hdA, hbA, hup⟩ := Sep.call (L1 := [BX b1 76 [I s3.2.2.1, L a21 s3.2.2.2.2 c21, .bool s3.2.2.2.1], sl59 (L a21 s3.2.2.2.2 c21) s3.2.2.2.2]) (L2 := [sl3 (L a20 s3.2.1 c20) s3.2.1]) hs hM1
         refine s_call [B b1 0, I rl1.1, I x1, I x15] Try.call61 rfl rfl hF rfl (spec_l04Net_l04If_ok n (D.l04Net.mk (D.Circuit.mk s3.2.2.1 s3.2.2.2.2) s3.2.2.2.1) rl1.1 x1 x15 hx16 hsA hbA hdA) fun v w13 fr hRes hF => ?_
         obtain ⟨a24, c24, rfl, _, hp, hs⟩ := hRes
         obtain ⟨S17, hp, hs⟩ := hup hp hs
         have r2 := r2.stp hM1 hp
         have hM1 := hM1.stp hp
         have hs : Sep [BX b1 76 [I x16.2.c.Inputs, L a24 x16.2.c.Gates c24, .bool x16.2.full], sl59 (L a24 x16.2.c.Gates c24) x16.2.c.Gates, sl3 (L a20 s3.2.1 c20) s3.2.1] w13 S17 := hs
         refine q_lit (E := 3) hs hM1 [I x16.1] (([x16.1] : List Int).map Flat.enc) ([x16.1] : List Int) rfl rfl hF [I x16.1] rfl (fun w => by kernel_rfl) (css_flat _) rfl rfl rfl fun a25 c25 w14 S18 fr hs hp hF => ?_
         have r2 := r2.stp hM1 hp
         have hM1 := hM1.stp hp
         have hs : Sep [sl3 (L a25 ([x16.1] : List Int) c25) ([x16.1] : List Int), BX b1 76 [I x16.2.c.Inputs, L a24 x16.2.c.Gates c24, .bool x16.2.full], sl59 (L a24 x16.2.c.Gates c24) x16.2.c.Gates, sl3 (L a20 s3.2.1 c20) s3.2.1] w14 S18 := hs
         obtain ⟨x17, hx17, h⟩ := bindE h
         refine q_append 3 hs hM1 rfl Try.underlying37 el3 rfl rfl rfl hF rfl rfl (hs.rv 0 rfl) hx17 fun a26 c26 w15 S19 fr hs hp hF => ?_
         have r2 := r2.stp hM1 hp
         have hM1 := hM1.stp hp
         have hs : Sep [sl3 (L a25 ([x16.1] : List Int) c25) ([x16.1] : List Int), BX b1 76 [I x16.2.c.Inputs, L a24 x16.2.c.Gates c24, .bool x16.2.full], sl59 (L a24 x16.2.c.Gates c24) x16.2.c.Gates, sl3 (L a26 x17 c26) x17] w15 S19 := hs
         have hs : Sep [BX b1 76 [I x16.2.c.Inputs, L a24 x16.2.c.Gates c24, .bool x16.2.full], sl59 (L a24 x16.2.c.Gates c24) x16.2.c.Gates, sl3 (L a26 x17 c26) x17] w15 S19 := Sep.pick [1, 2, 3] hs (by decide) rfl
         refine from_pure 1 [(0, B b1 0), (9, I (len p2)), (10, I x1), (11, I rl1.1), (13, L a5 rl1.2.2.1 c5), (20, L a26 x17 c26), (21, I s3.1)] hF (by kernel_rfl) fun fr hF => ?_
         refine from_end rfl ?_
         refine blk_normal (then_normal ?_)
         refine (wp_pure [(0, B b1 0), (9, I (len p2)), (10, I x1), (11, I rl1.1), (13, L a5 rl1.2.2.1 c5), (20, L a26 x17 c26), (21, I (w64 (s3.1 + 1)))] hF (by kernel_rfl) fun fr hF => then_normal ?_)
         have hs : Sep [sl3 (L a26 x17 c26) x17, BX b1 76 [I x16.2.c.Inputs, L a24 x16.2.c.Gates c24, .bool x16.2.full], sl59 (L a24 x16.2.c.Gates c24) x16.2.c.Gates] w15 S19 := Sep.pick [2, 0, 1] hs (by decide) rfl
         exact ⟨_, (Option.some.inj h).symm, a26, c26, a24, c24, S19, _, hF.sub _ (by kernel_rfl), hM1, hs⟩
       replace h := iteF hb h
       refine (wp_exit (then_exit (then_exit (blk_exit_eq ?_))))
       obtain rfl := hr3 _ (Option.some.inj h).symm
       exact then_normal ⟨a20, c20, a21, c21, S15, _, hF.sub _ (by kernel_rfl), hM1, hs⟩
     · obtain ⟨a22, c22, a23, c23, S16, F7, hF, hMx, hs⟩ := hM
       have hM0 := hM0.trans hMx
       refine wp_seq (wp_pure [(8, L a22 rl3.1 c22)] hF (by kernel_rfl) fun fr hF => then_normal ?_)
       obtain rfl := Option.some.inj h
       obtain ⟨S20, F8, hMn, hs, r4, hfz⟩ := Sep.freeze hs hM0
       have r4 := SL.rv r4
       have hM0 := hMn
       exact wp_ret (ret1 rfl hF rfl ⟨_, rfl, _, a23, c23, rfl, S20, _, hM0.out, hs, hM0.rvF, (r4)⟩)
 replace h := iteF hb h
 refine (wp_skip (then_normal ?_))
 refine wp_seq (wp_pure [(0, B b1 0), (1, I p1), (2, L a1 p2 c1), (3, L a2 p3 c2), (9, I (len p2)), (10, I (-1)), (11, I (-1))] hF (by kernel_rfl) fun fr hF => then_normal ?_)
 refine wp_seq (wp_pure [(0, B b1 0), (1, I p1), (2, L a1 p2 c1), (3, L a2 p3 c2), (9, I (len p2)), (10, I (-1)), (11, I (-1)), (12, .bool false)] hF (by kernel_rfl) fun fr hF => then_normal ?_)
 refine wp_seq (wp_pure [(0, B b1 0), (1, I p1), (3, L a2 p3 c2), (9, I (len p2)), (10, I (-1)), (11, I (-1)), (12, .bool false), (13, L a1 p2 c1)] hF (by kernel_rfl) fun fr hF => then_normal ?_)
 refine wp_seq ?_
 refine wp_seq (wp_pure [(0, B b1 0), (1, I p1), (3, L a2 p3 c2), (9, I (len p2)), (10, I (-1)), (11, I (-1)), (12, .bool false), (13, L a1 p2 c1), (14, I 0)] hF (by kernel_rfl) fun fr hF => then_normal ?_)
 obtain ⟨rl4, hit4, h⟩ := bindE h
 have hk4 := h
 refine (wp_cut (M := fun fr w' => ∃ a29 c29 a30 c30 S22 F10, FrS 108 [(0, B b1 0), (9, I (len p2)), (10, I (-1)), (11, I rl4.1), (12, .bool rl4.2.1), (13, L a29 rl4.2.2.1 c29)] fr ∧ Mem w S0 (fun k => F0 k ∧ k < w.heap.size) w' S22 F10 ∧ Sep [BX b1 76 [I rl4.2.2.2.1, L a30 rl4.2.2.2.2.2 c30, .bool rl4.2.2.2.2.1], sl59 (L a30 rl4.2.2.2.2.2 c30) rl4.2.2.2.2.2] w' S22 ∧ RV w' F10 (L a29 rl4.2.2.1 c29) rl4.2.2.1) (wp_block (wp_iter (Inv := fun s4 fr w' => ∃ a27 c27 a28 c28 S21 F9, FrS 108 [(0, B b1 0), (1, I p1), (3, L a2 p3 c2), (9, I (len p2)), (10, I (-1)), (11, I s4.1), (12, .bool s4.2.1), (13, L a27 s4.2.2.1 c27), (14, I s4.2.2.2.1)] fr ∧ Mem w S0 (fun k => F0 k ∧ k < w.heap.size) w' S21 F9 ∧ Sep [BX b1 76 [I s4.2.2.2.2.1, L a28 s4.2.2.2.2.2.2 c28, .bool s4.2.2.2.2.2.1], sl59 (L a28 s4.2.2.2.2.2.2 c28) s4.2.2.2.2.2.2] w' S21 ∧ RV w' F9 (L a27 s4.2.2.1 c27) s4.2.2.1) hit4 ⟨a1, c1, pa0, pc0, S0, _, hF.sub _ (by kernel_rfl), (Mem.start hM0.bd hM0.bdF hM0.dj), hs, (ra2)⟩ fun s4 q4 fr w4i hI h hr4 => ?_)) fun fr w4o hM => ?_)
 · obtain ⟨a27, c27, a28, c28, S21, F9, hF, hM1, hs, r5⟩ := hI
   have ra3 := ra3.mem hM1
   refine wp_seq ?_
   refine wp_seq (wp_pure [(0, B b1 0), (1, I p1), (3, L a2 p3 c2), (9, I (len p2)), (10, I (-1)), (11, I s4.1), (12, .bool s4.2.1), (13, L a27 s4.2.2.1 c27), (14, I s4.2.2.2.1), (34, .bool (decide (s4.2.2.2.1 < (len p2))))] hF (by kernel_rfl) fun fr hF => then_normal ?_)
   refine (wp_if hF (b := (decide (s4.2.2.2.1 < (len p2)))) rfl (fun hb => ?_) (fun hb => ?_))
   · replace h := iteT hb h
     refine (wp_skip (then_normal ?_))
     refine wp_seq (wp_block ?_)
     refine wp_seq (wp_text' ?_)
     refine from_pure 1 [(0, B b1 0), (1, I p1), (3, L a2 p3 c2), (9, I (len p2)), (10, I (-1)), (11, I s4.1), (12, .bool s4.2.1), (13, L a27 s4.2.2.1 c27), (14, I s4.2.2.2.1), (37, I s4.2.2.2.1)] hF (by kernel_rfl) fun fr hF => ?_
     obtain ⟨x18, hx18, h⟩ := bindE h
     refine s_shl rfl rfl hF rfl rfl hx18 fun fr hF => ?_
     refine from_pure 1 [(0, B b1 0), (1, I p1), (3, L a2 p3 c2), (9, I (len p2)), (10, I (-1)), (11, I s4.1), (12, .bool s4.2.1), (13, L a27 s4.2.2.1 c27), (14, I s4.2.2.2.1), (15, I x18)] hF (by kernel_rfl) fun fr hF => ?_
     refine from_end rfl (then_normal ?_)
     refine wp_seq ?_
     refine wp_seq (wp_pure [(0, B b1 0), (1, I p1), (3, L a2 p3 c2), (9, I (len p2)), (10, I (-1)), (11, I s4.1), (12, .bool s4.2.1), (13, L a27 s4.2.2.1 c27), (14, I s4.2.2.2.1), (15, I x18), (41, .bool (decide (x18 ≥ (len p2))))] hF (by kernel_rfl) fun fr hF => then_normal ?_)
     refine (wp_if hF (b := (decide (x18 ≥ (len p2)))) rfl (fun hb => ?_) (fun hb => ?_))
     · replace h := iteT hb h
       refine wp_seq (wp_text' ?_)
       refine from_pure 4 [(0, B b1 0), (1, I p1), (3, L a2 p3 c2), (9, I (len p2)), (10, I (-1)), (13, L a27 s4.2.2.1 c27), (14, I s4.2.2.2.1), (42, B b1 0), (43, I s4.1), (44, L a2 p3 c2), (45, I s4.2.2.2.1)] hF (by kernel_rfl) fun fr hF => ?_
       obtain ⟨x19, hx19, h⟩ := bindE h
       refine s_elemF (z := x19) (I x19) ty3 Try.underlying37 rfl rfl rfl rfl rfl hF rfl (ra3) rfl (get?_nn hx19) (get?_at hx19) rfl fun p fr hF => ?_
       obtain ⟨x20, hx20, h⟩ := bindE h
       obtain ⟨A5, R5, hsA, hsR, hdA, hbA, hup⟩ := Sep.call (L1 := [BX b1 76 [I s4.2.2.2.2.1, L a28 s4.2.2.2.2.2.2 c28, .bool s4.2.2.2.2.2.1], sl59 (L a28 s4.2.2.2.2.2.2 c28) s4.2.2.2.2.2.2]) (L2 := []) hs hM1
       refine s_call [B b1 0, I s4.1, I x19] Try.call55 rfl rfl hF rfl (spec_l04Net_l04Or_ok n (D.l04Net.mk (D.Circuit.mk s4.2.2.2.2.1 s4.2.2.2.2.2.2) s4.2.2.2.2.2.1) s4.1 x19 hx20 hsA hbA hdA) fun v w16 fr hRes hF => ?_
       obtain ⟨a31, c31, rfl, _, hp, hs⟩ := hRes
       obtain ⟨S23, hp, hs⟩ := hup hp hs
       have ra3 := ra3.stp hM1 hp
       have r5 := r5.stp hM1 hp
       have hM1 := hM1.stp hp
       have hs : Sep [BX b1 76 [I x20.2.c.Inputs, L a31 x20.2.c.Gates c31, .bool x20.2.full], sl59 (L a31 x20.2.c.Gates c31) x20.2.c.Gates] w16 S23 := hs
       refine from_pure 1 [(0, B b1 0), (1, I p1), (3, L a2 p3 c2), (9, I (len p2)), (10, I (-1)), (11, I x20.1), (13, L a27 s4.2.2.1 c27), (14, I s4.2.2.2.1)] hF (by kernel_rfl) fun fr hF => ?_
       refine from_end rfl (then_normal ?_)
       refine wp_seq (wp_pure [(0, B b1 0), (1, I p1), (3, L a2 p3 c2), (9, I (len p2)), (10, I (-1)), (11, I x20.1), (12, .bool true), (13, L a27 s4.2.2.1 c27), (14, I s4.2.2.2.1)] hF (by kernel_rfl) fun fr hF => then_normal ?_)
       refine (wp_exit (then_exit (blk_exit_eq ?_)))
       refine then_normal ?_
       refine (wp_pure [(0, B b1 0), (1, I p1), (3, L a2 p3 c2), (9, I (len p2)), (10, I (-1)), (11, I x20.1), (12, .bool true), (13, L a27 s4.2.2.1 c27), (14, I (w64 (s4.2.2.2.1 + 1)))] hF (by kernel_rfl) fun fr hF => then_normal ?_)
       exact ⟨_, (Option.some.inj h).symm, a27, c27, a31, c31, S23, _, hF.sub _ (by kernel_rfl), hM1, hs, (r5)⟩
     replace h := iteF hb h
     refine (wp_skip (then_normal ?_))
     refine wp_seq (wp_text' ?_)
     refine q_lit (E := 3) hs hM1 [] (([] : List Int).map Flat.enc) ([] : List Int) rfl rfl hF [] rfl (fun w => by kernel_rfl) (css_flat _) rfl rfl rfl fun a32 c32 w17 S24 fr hs hp hF => ?_
     have ra3 := ra3.stp hM1 hp
     have r5 := r5.stp hM1 hp
     have hM1 := hM1.stp hp
     have hs : Sep [sl3 (L a32 ([] : List Int) c32) ([] : List Int), BX b1 76 [I s4.2.2.2.2.1, L a28 s4.2.2.2.2.2.2 c28, .bool s4.2.2.2.2.2.1], sl59 (L a28 s4.2.2.2.2.2.2 c28) s4.2.2.2.2.2.2] w17 S24 := hs
     refine from_pure 1 [(0, B b1 0), (1, I p1), (3, L a2 p3 c2), (9, I (len p2)), (10, I (-1)), (11, I s4.1), (12, .bool s4.2.1), (13, L a27 s4.2.2.1 c27), (14, I s4.2.2.2.1), (15, I x18), (16, L a32 ([] : List Int) c32)] hF (by kernel_rfl) fun fr hF => ?_
     refine from_end rfl (then_normal ?_)
     refine wp_seq ?_
     refine wp_seq (wp_pure [(0, B b1 0), (1, I p1), (3, L a2 p3 c2), (9, I (len p2)), (10, I (-1)), (11, I s4.1), (12, .bool s4.2.1), (13, L a27 s4.2.2.1 c27), (14, I s4.2.2.2.1), (15, I x18), (16, L a32 ([] : List Int) c32), (17, I 0)] hF (by kernel_rfl) fun fr hF => then_normal ?_)
     obtain ⟨rl5, hit5, h⟩ := bindE h
     have hk5 := h
     refine (wp_cut (M := fun fr w' => ∃ a35 c35 a36 c36 S26 F12, FrS 108 [(0, B b1 0), (1, I p1), (3, L a2 p3 c2), (9, I (len p2)), (10, I (-1)), (11, I s4.1), (12, .bool s4.2.1), (14, I s4.2.2.2.1), (16, L a35 rl5.1 c35)] fr ∧ Mem w17 S24 F9 w' S26 F12 ∧ Sep [sl3 (L a35 rl5.1 c35) rl5.1, BX b1 76 [I rl5.2.1, L a36 rl5.2.2.2 c36, .bool rl5.2.2.1], sl59 (L a36 rl5.2.2.2 c36) rl5.2.2.2] w' S26) (wp_block (wp_iter (Inv := fun s5 fr w' => ∃ a33 c33 a34 c34 S25 F11, FrS 108 [(0, B b1 0), (1, I p1), (3, L a2 p3 c2), (9, I (len p2)), (10, I (-1)), (11, I s4.1), (12, .bool s4.2.1), (13, L a27 s4.2.2.1 c27), (14, I s4.2.2.2.1), (15, I x18), (16, L a33 s5.2.1 c33), (17, I s5.1)] fr ∧ Mem w17 S24 F9 w' S25 F11 ∧ Sep [sl3 (L a33 s5.2.1 c33) s5.2.1, BX b1 76 [I s5.2.2.1, L a34 s5.2.2.2.2 c34, .bool s5.2.2.2.1], sl59 (L a34 s5.2.2.2.2 c34) s5.2.2.2.2] w' S25) hit5 ⟨a32, c32, a28, c28, S24, _, hF.sub _ (by kernel_rfl), (Mem.start hM1.bd hM1.bdF hM1.dj), hs⟩ fun s5 q5 fr w5i hI h hr5 => ?_)) fun fr w5o hM => ?_)
     · obtain ⟨a33, c33, a34, c34, S25, F11, hF, hM2, hs⟩ := hI
       have ra3 := ra3.mem hM2
       have r5 := r5.mem hM2
       refine wp_seq ?_
       refine wp_seq (wp_pure [(0, B b1 0), (1, I p1), (3, L a2 p3 c2), (9, I (len p2)), (10, I (-1)), (11, I s4.1), (12, .bool s4.2.1), (13, L a27 s4.2.2.1 c27), (14, I s4.2.2.2.1), (15, I x18), (16, L a33 s5.2.1 c33), (17, I s5.1), (52, .bool (decide (s5.1 < (len p2))))] hF (by kernel_rfl) fun fr hF => then_normal ?_)
       refine (wp_if hF (b := (decide (s5.1 < (len p2)))) rfl (fun hb => ?_) (fun hb => ?_))
       · replace h := iteT hb h
         refine (wp_skip (then_normal ?_))
         refine wp_seq (wp_block ?_)
         refine wp_seq (wp_pure [(0, B b1 0), (1, I p1), (3, L a2 p3 c2), (9, I (len p2)), (10, I (-1)), (11, I s4.1), (12, .bool s4.2.1), (13, L a27 s4.2.2.1 c27), (14, I s4.2.2.2.1), (15, I x18), (16, L a33 s5.2.1 c33), (17, I s5.1), (18, I (w64 (s5.1 + x18)))] hF (by kernel_rfl) fun fr hF => then_normal ?_)
         refine wp_seq ?_
         refine wp_seq (wp_pure [(0, B b1 0), (1, I p1), (3, L a2 p3 c2), (9, I (len p2)), (10, I (-1)), (11, I s4.1), (12, .bool s4.2.1), (13, L a27 s4.2.2.1 c27), (14, I s4.2.2.2.1), (15, I x18), (16, L a33 s5.2.1 c33), (17, I s5.1), (18, I (w64 (s5.1 + x18))), (59, .bool (p1 == 11))] hF (by kernel_rfl) fun fr hF => then_normal ?_)
         refine (wp_merge [(0, B b1 0), (1, I p1), (3, L a2 p3 c2), (9, I (len p2)), (10, I (-1)), (11, I s4.1), (12, .bool s4.2.1), (13, L a27 s4.2.2.1 c27), (14, I s4.2.2.2.1), (15, I x18), (16, L a33 s5.2.1 c33), (17, I s5.1), (18, I (cond (p1 == 11) (w64 (s5.1 - x18)) (w64 (s5.1 + x18))))] hF (b := (p1 == 11)) rfl (fun hb => ?_) (fun hb => ?_) fun fr hF => then_normal ?_)
         · exact wp_pure [(0, B b1 0), (1, I p1), (3, L a2 p3 c2), (9, I (len p2)), (10, I (-1)), (11, I s4.1), (12, .bool s4.2.1), (13, L a27 s4.2.2.1 c27), (14, I s4.2.2.2.1), (15, I x18), (16, L a33 s5.2.1 c33), (17, I s5.1), (18, I (w64 (s5.1 - x18)))] hF (by kernel_rfl) fun fr hF => ⟨rfl, rfl, hF.eqs (by first | (simp only [hb]; done) | (simp only [hb]; rfl))⟩
         · exact wp_skip ⟨rfl, rfl, (hF.sub [(0, B b1 0), (1, I p1), (3, L a2 p3 c2), (9, I (len p2)), (10, I (-1)), (11, I s4.1), (12, .bool s4.2.1), (13, L a27 s4.2.2.1 c27), (14, I s4.2.2.2.1), (15, I x18), (16, L a33 s5.2.1 c33), (17, I s5.1), (18, I (w64 (s5.1 + x18)))] (by kernel_rfl)).eqs (by first | (simp only [hb]; done) | (simp only [hb]; rfl))⟩
         refine wp_seq (wp_pure [(0, B b1 0), (1, I p1), (3, L a2 p3 c2), (9, I (len p2)), (10, I (-1)), (11, I s4.1), (12, .bool s4.2.1), (13, L a27 s4.2.2.1 c27), (14, I s4.2.2.2.1), (15, I x18), (16, L a33 s5.2.1 c33), (17, I s5.1), (18, I (cond (p1 == 11) (w64 (s5.1 - x18)) (w64 (s5.1 + x18)))), (19, I (-1))] hF (by kernel_rfl) fun fr hF => then_normal ?_)
         refine wp_seq ?_
         refine wp_seq (wp_text' ?_)
         refine from_pure 3 [(0, B b1 0), (1, I p1), (3, L a2 p3 c2), (9, I (len p2)), (10, I (-1)), (11, I s4.1), (12, .bool s4.2.1), (13, L a27 s4.2.2.1 c27), (14, I s4.2.2.2.1), (15, I x18), (16, L a33 s5.2.1 c33), (17, I s5.1), (18, I (cond (p1 == 11) (w64 (s5.1 - x18)) (w64 (s5.1 + x18)))), (19, I (-1)), (64, I (cond (p1 == 11) (w64 (s5.1 - x18)) (w64 (s5.1 + x18)))), (66, I (w64 ((len p2) - 1)))] hF (by kernel_rfl) fun fr hF => ?_
         obtain ⟨x21, hx21, h⟩ := bindE h
         refine s_call [I (cond (p1 == 11) (w64 (s5.1 - x18)) (w64 (s5.1 + x18))), I 0, I (w64 ((len p2) - 1))] Try.call70 rfl rfl hF rfl (spec_l01In_ok (cond (p1 == 11) (w64 (s5.1 - x18)) (w64 (s5.1 + x18))) 0 (w64 ((len p2) - 1)) hx21) fun v w18 fr hRes hF => ?_
         obtain ⟨rfl, hc⟩ := hRes
         have ra3 := ra3.ext hc
         have r5 := r5.ext hc
         have hs := hs.ext hc
         have hM2 := hM2.ext hc
         refine from_end rfl (then_normal ?_)
         refine (wp_if hF (b := x21) rfl (fun hb => ?_) (fun hb => ?_))
         · replace h := iteT hb h
           refine (wp_text' ?_)
           refine from_pure 2 [(0, B b1 0), (1, I p1), (3, L a2 p3 c2), (9, I (len p2)), (10, I (-1)), (11, I s4.1), (12, .bool s4.2.1), (13, L a27 s4.2.2.1 c27), (14, I s4.2.2.2.1), (15, I x18), (16, L a33 s5.2.1 c33), (17, I s5.1), (68, L a27 s4.2.2.1 c27), (69, I (cond (p1 == 11) (w64 (s5.1 - x18)) (w64 (s5.1 + x18))))] hF (by kernel_rfl) fun fr hF => ?_
           obtain ⟨x22, hx22, h⟩ := bindE h
           refine s_elemF (z := x22) (I x22) ty3 Try.underlying37 rfl rfl rfl rfl rfl hF rfl (r5) rfl (get?_nn hx22) (get?_at hx22) rfl fun p fr hF => ?_
           refine from_pure 1 [(0, B b1 0), (1, I p1), (3, L a2 p3 c2), (9, I (len p2)), (10, I (-1)), (11, I s4.1), (12, .bool s4.2.1), (13, L a27 s4.2.2.1 c27), (14, I s4.2.2.2.1), (15, I x18), (16, L a33 s5.2.1 c33), (17, I s5.1), (19, I x22)] hF (by kernel_rfl) fun fr hF => ?_
           refine from_end rfl (then_normal ?_)
           refine (wp_ra mix ?_)
           refine ra_hoist 0 (by kernel_rfl) (fun _ _ _ _ _ h => h) ?_
           obtain ⟨x23, hx23, h⟩ := bindE h
           obtain ⟨x24, hx24, h⟩ := bindE h
           refine (ra_bm 11 [0, 1, 1, 1, 13, 29, 1, 1, 1, 385, 897, 2047, 4095, 8191, 16383] [true, true, true, true, false, false, true, true, true, false, false]
               [.eq (L a33 s5.2.1 c33), .eq (B b1 0), .eq (L a2 p3 c2), .eq (I s4.2.2.2.1), .is fun v w => ElemP w (fun k => k < w18.heap.size) v (x23 : Int), .eq (I x23), .eq (I x22), .eq (L a27 s4.2.2.1 c27), .eq (I s5.1), .is fun v w => ElemP w (fun k => k < w18.heap.size) v (x24 : Int), .eq (I x24), .any, .any, .any, .any]
               [(0, B b1 0), (1, I p1), (3, L a2 p3 c2), (9, I (len p2)), (10, I (-1)), (11, I s4.1), (12, .bool s4.2.1), (13, L a27 s4.2.2.1 c27), (14, I s4.2.2.2.1), (15, I x18), (17, I s5.1), (72, L a33 s5.2.1 c33), (73, B b1 0), (77, I x23), (78, I x22), (82, I x24)] hF (by kernel_rfl) (by kernel_rfl) (by kernel_rfl) (by kernel_rfl) ⟨(Pd.monoO_is mono_elem), Pd.monoO_eq, (Pd.monoO_is mono_elem), Pd.monoO_eq, trivial⟩ (fun ow hG => ⟨np_to ow (np_index hG hF ty3 Try.underlying37 rfl rfl (RV.sub (ra3) fun k hk _ => hk) rfl rfl (fun hg => ⟨get?_nn hx23, get?_at hx23⟩)), np_to ow (np_loadF (z := x23) (i := 4) hG hF ty3 rfl rfl rfl rfl rfl rfl rfl), np_to ow (np_index hG hF ty3 Try.underlying37 rfl rfl (RV.sub (r5) fun k hk _ => hk) rfl rfl (fun hg => ⟨get?_nn hx24, get?_at hx24⟩)), np_to ow (np_loadF (z := x24) (i := 9) hG hF ty3 rfl rfl rfl rfl rfl rfl rfl), trivial⟩) (by kernel_rfl) fun ow fr w19 hF hE hc => ?_)
           have ra3 := ra3.ext hc
           have r5 := r5.ext hc
           have hs := hs.ext hc
           have hM2 := hM2.ext hc
           obtain ⟨x25, hx25, h⟩ := bindE h
           have hs : Sep [BX b1 76 [I s5.2.2.1, L a34 s5.2.2.2.2 c34, .bool s5.2.2.2.1], sl59 (L a34 s5.2.2.2.2 c34) s5.2.2.2.2, sl3 (L a33 s5.2.1 c33) s5.2.1] w19 S25 := Sep.pick [1, 2, 0] hs (by decide) rfl
           obtain ⟨A6, R6, hsA, hsR, hdA, hbA, hup⟩ := Sep.call (L1 := [BX b1 76 [I s5.2.2.1, L a34 s5.2.2.2.2 c34, .bool s5.2.2.2.1], sl59 (L a34 s5.2.2.2.2 c34) s5.2.2.2.2]) (L2 := [sl3 (L a33 s5.2.1 c33) s5.2.1]) hs hM2
           refine s_call [B b1 0, I x23, I x22, I x24] Try.call61 rfl rfl hF rfl (spec_l04Net_l04If_ok n (D.l04Net.mk (D.Circuit.mk s5.2.2.1 s5.2.2.2.2) s5.2.2.2.1) x23 x22 x24 hx25 hsA hbA hdA) fun v w20 fr hRes hF => ?_
           obtain ⟨a37, c37, rfl, _, hp, hs⟩ := hRes
           obtain ⟨S27, hp, hs⟩ := hup hp hs
           have ra3 := ra3.stp hM2 hp
           have r5 := r5.stp hM2 hp
           have hM2 := hM2.stp hp
           have hs : Sep [BX b1 76 [I x25.2.c.Inputs, L a37 x25.2.c.Gates c37, .bool x25.2.full], sl59 (L a37 x25.2.c.Gates c37) x25.2.c.Gates, sl3 (L a33 s5.2.1 c33) s5.2.1] w20 S27 := hs
           refine q_lit (E := 3) hs hM2 [I x25.1] (([x25.1] : List Int).map Flat.enc) ([x25.1] : List Int) rfl rfl hF [I x25.1] rfl (fun w => by kernel_rfl) (css_flat _) rfl rfl rfl fun a38 c38 w21 S28 fr hs hp hF => ?_
           have ra3 := ra3.stp hM2 hp
           have r5 := r5.stp hM2 hp
           have hM2 := hM2.stp hp
           have hs : Sep [sl3 (L a38 ([x25.1] : List Int) c38) ([x25.1] : List Int), BX b1 76 [I x25.2.c.Inputs, L a37 x25.2.c.Gates c37, .bool x25.2.full], sl59 (L a37 x25.2.c.Gates c37) x25.2.c.Gates, sl3 (L a33 s5.2.1 c33) s5.2.1] w21 S28 := hs
           obtain ⟨x26, hx26, h⟩ := bindE h
           refine q_append 3 hs hM2 rfl Try.underlying37 el3 rfl rfl rfl hF rfl rfl (hs.rv 0 rfl) hx26 fun a39 c39 w22 S29 fr hs hp hF => ?_
           have ra3 := ra3.stp hM2 hp
           have r5 := r5.stp hM2 hp
           have hM2 := hM2.stp hp
           have hs : Sep [sl3 (L a38 ([x25.1] : List Int) c38) ([x25.1] : List Int), BX b1 76 [I x25.2.c.Inputs, L a37 x25.2.c.Gates c37, .bool x25.2.full], sl59 (L a37 x25.2.c.Gates c37) x25.2.c.Gates, sl3 (L a39 x26 c39) x26] w22 S29 := hs
           have hs : Sep [BX b1 76 [I x25.2.c.Inputs, L a37 x25.2.c.Gates c37, .bool x25.2.full], sl59 (L a37 x25.2.c.Gates c37) x25.2.c.Gates, sl3 (L a39 x26 c39) x26] w22 S29 := Sep.pick [1, 2, 3] hs (by decide) rfl
           refine from_pure 1 [(0, B b1 0), (1, I p1), (3, L a2 p3 c2), (9, I (len p2)), (10, I (-1)), (11, I s4.1), (12, .bool s4.2.1), (13, L a27 s4.2.2.1 c27), (14, I s4.2.2.2.1), (15, I x18), (16, L a39 x26 c39), (17, I s5.1)] hF (by kernel_rfl) fun fr hF => ?_
           refine from_end rfl ?_
           refine blk_normal (then_normal ?_)
           refine (wp_pure [(0, B b1 0), (1, I p1), (3, L a2 p3 c2), (9, I (len p2)), (10, I (-1)), (11, I s4.1), (12, .bool s4.2.1), (13, L a27 s4.2.2.1 c27), (14, I s4.2.2.2.1), (15, I x18), (16, L a39 x26 c39), (17, I (w64 (s5.1 + 1)))] hF (by kernel_rfl) fun fr hF => then_normal ?_)
           have hs : Sep [sl3 (L a39 x26 c39) x26, BX b1 76 [I x25.2.c.Inputs, L a37 x25.2.c.Gates c37, .bool x25.2.full], sl59 (L a37 x25.2.c.Gates c37) x25.2.c.Gates] w22 S29 := Sep.pick [2, 0, 1] hs (by decide) rfl
           exact ⟨_, (Option.some.inj h).symm, a39, c39, a37, c37, S29, _, hF.sub _ (by kernel_rfl), hM2, hs⟩
         replace h := iteF hb h
         refine (wp_skip (then_normal ?_))
         refine (wp_ra mix ?_)
         refine ra_hoist 0 (by kernel_rfl) (fun _ _ _ _ _ h => h) ?_
         obtain ⟨x27, hx27, h⟩ := bindE h
         obtain ⟨x28, hx28, h⟩ := bindE h
         refine (ra_bm 11 [0, 1, 1, 1, 13, 29, 1, 1, 1, 385, 897, 2047, 4095, 8191, 16383] [true, true, true, true, false, false, true, true, true, false, false]
             [.eq (L a33 s5.2.1 c33), .eq (B b1 0), .eq (L a2 p3 c2), .eq (I s4.2.2.2.1), .is fun v w => ElemP w (fun k => k < w18.heap.size) v (x27 : Int), .eq (I x27), .eq (I (-1)), .eq (L a27 s4.2.2.1 c27), .eq (I s5.1), .is fun v w => ElemP w (fun k => k < w18.heap.size) v (x28 : Int), .eq (I x28), .any, .any, .any, .any]
             [(0, B b1 0), (1, I p1), (3, L a2 p3 c2), (9, I (len p2)), (10, I (-1)), (11, I s4.1), (12, .bool s4.2.1), (13, L a27 s4.2.2.1 c27), (14, I s4.2.2.2.1), (15, I x18), (17, I s5.1), (72, L a33 s5.2.1 c33), (73, B b1 0), (77, I x27), (78, I (-1)), (82, I x28)] hF (by kernel_rfl) (by kernel_rfl) (by kernel_rfl) (by kernel_rfl) ⟨(Pd.monoO_is mono_elem), Pd.monoO_eq, (Pd.monoO_is mono_elem), Pd.monoO_eq, trivial⟩ (fun ow hG => ⟨np_to ow (np_index hG hF ty3 Try.underlying37 rfl rfl (RV.sub (ra3) fun k hk _ => hk) rfl rfl (fun hg => ⟨get?_nn hx27, get?_at hx27⟩)), np_to ow (np_loadF (z := x27) (i := 4) hG hF ty3 rfl rfl rfl rfl rfl rfl rfl), np_to ow (np_index hG hF ty3 Try.underlying37 rfl rfl (RV.sub (r5) fun k hk _ => hk) rfl rfl (fun hg => ⟨get?_nn hx28, get?_at hx28⟩)), np_to ow (np_loadF (z := x28) (i := 9) hG hF ty3 rfl rfl rfl rfl rfl rfl rfl), trivial⟩) (by kernel_rfl) fun ow fr w23 hF hE hc => ?_)
         have ra3 := ra3.ext hc
         have r5 := r5.ext hc
         have hs := hs.ext hc
         have hM2 := hM2.ext hc
         obtain ⟨x29, hx29, h⟩ := bindE h
         have hs : Sep [BX b1 76 [I s5.2.2.1, L a34 s5.2.2.2.2 c34, .bool s5.2.2.2.1], sl59 (L a34 s5.2.2.2.2 c34) s5.2.2.2.2, sl3 (L a33 s5.2.1 c33) s5.2.1] w23 S25 := Sep.pick [1, 2, 0] hs (by decide) rfl
         obtain ⟨A7, R7, hsA, hsR, hdA, hbA, hup⟩ := Sep.call (L1 := [BX b1 76 [I s5.2.2.1, L a34 s5.2.2.2.2 c34, .bool s5.2.2.2.1], sl59 (L a34 s5.2.2.2.2 c34) s5.2.2.2.2]) (L2 := [sl3 (L a33 s5.2.1 c33) s5.2.1]) hs hM2
         refine s_call [B b1 0, I x27, I (-1), I x28] Try.call61 rfl rfl hF rfl (spec_l04Net_l04If_ok n (D.l04Net.mk (D.Circuit.mk s5.2.2.1 s5.2.2.2.2) s5.2.2.2.1) x27 (-1) x28 hx29 hsA hbA hdA) fun v w24 fr hRes hF => ?_
         obtain ⟨a40, c40, rfl, _, hp, hs⟩ := hRes
         obtain ⟨S30, hp, hs⟩ := hup hp hs
         have ra3 := ra3.stp hM2 hp
         have r5 := r5.stp hM2 hp
         have hM2 := hM2.stp hp
         have hs : Sep [BX b1 76 [I x29.2.c.Inputs, L a40 x29.2.c.Gates c40, .bool x29.2.full], sl59 (L a40 x29.2.c.Gates c40) x29.2.c.Gates, sl3 (L a33 s5.2.1 c33) s5.2.1] w24 S30 := hs
         refine q_lit (E := 3) hs hM2 [I x29.1] (([x29.1] : List Int).map Flat.enc) ([x29.1] : List Int) rfl rfl hF [I x29.1] rfl (fun w => by kernel_rfl) (css_flat _) rfl rfl rfl fun a41 c41 w25 S31 fr hs hp hF => ?_
         have ra3 := ra3.stp hM2 hp
         have r5 := r5.stp hM2 hp
         have hM2 := hM2.stp hp
         have hs : Sep [sl3 (L a41 ([x29.1] : List Int) c41) ([x29.1] : List Int), BX b1 76 [I x29.2.c.Inputs, L a40 x29.2.c.Gates c40, .bool x29.2.full], sl59 (L a40 x29.2.c.Gates c40) x29.2.c.Gates, sl3 (L a33 s5.2.1 c33) s5.2.1] w25 S31 := hs
         obtain ⟨x30, hx30, h⟩ := bindE h
         refine q_append 3 hs hM2 rfl Try.underlying37 el3 rfl rfl rfl hF rfl rfl (hs.rv 0 rfl) hx30 fun a42 c42 w26 S32 fr hs hp hF => ?_
         have ra3 := ra3.stp hM2 hp
         have r5 := r5.stp hM2 hp
         have hM2 := hM2.stp hp
         have hs : Sep [sl3 (L a41 ([x29.1] : List Int) c41) ([x29.1] : List Int), BX b1 76 [I x29.2.c.Inputs, L a40 x29.2.c.Gates c40, .bool x29.2.full], sl59 (L a40 x29.2.c.Gates c40) x29.2.c.Gates, sl3 (L a42 x30 c42) x30] w26 S32 := hs
         have hs : Sep [BX b1 76 [I x29.2.c.Inputs, L a40 x29.2.c.Gates c40, .bool x29.2.full], sl59 (L a40 x29.2.c.Gates c40) x29.2.c.Gates, sl3 (L a42 x30 c42) x30] w26 S32 := Sep.pick [1, 2, 3] hs (by decide) rfl
         refine from_pure 1 [(0, B b1 0), (1, I p1), (3, L a2 p3 c2), (9, I (len p2)), (10, I (-1)), (11, I s4.1), (12, .bool s4.2.1), (13, L a27 s4.2.2.1 c27), (14, I s4.2.2.2.1), (15, I x18), (16, L a42 x30 c42), (17, I s5.1)] hF (by kernel_rfl) fun fr hF => ?_
         refine from_end rfl ?_
         refine blk_normal (then_normal ?_)
         refine (wp_pure [(0, B b1 0), (1, I p1), (3, L a2 p3 c2), (9, I (len p2)), (10, I (-1)), (11, I s4.1), (12, .bool s4.2.1), (13, L a27 s4.2.2.1 c27), (14, I s4.2.2.2.1), (15, I x18), (16, L a42 x30 c42), (17, I (w64 (s5.1 + 1)))] hF (by kernel_rfl) fun fr hF => then_normal ?_)
         have hs : Sep [sl3 (L a42 x30 c42) x30, BX b1 76 [I x29.2.c.Inputs, L a40 x29.2.c.Gates c40, .bool x29.2.full], sl59 (L a40 x29.2.c.Gates c40) x29.2.c.Gates] w26 S32 := Sep.pick [2, 0, 1] hs (by decide) rfl
         exact ⟨_, (Option.some.inj h).symm, a42, c42, a40, c40, S32, _, hF.sub _ (by kernel_rfl), hM2, hs⟩
       replace h := iteF hb h
       refine (wp_exit (then_exit (then_exit (blk_exit_eq ?_))))
       obtain rfl := hr5 _ (Option.some.inj h).symm
       exact then_normal ⟨a33, c33, a34, c34, S25, _, hF.sub _ (by kernel_rfl), hM2, hs⟩
     · obtain ⟨a35, c35, a36, c36, S26, F12, hF, hMx, hs⟩ := hM
       have ra3 := ra3.mem hMx
       have hM1 := hM1.trans hMx
       refine (wp_pure [(0, B b1 0), (1, I p1), (3, L a2 p3 c2), (9, I (len p2)), (10, I (-1)), (11, I s4.1), (12, .bool s4.2.1), (13, L a35 rl5.1 c35), (14, I s4.2.2.2.1)] hF (by kernel_rfl) fun fr hF => ?_)
       refine blk_normal (then_normal ?_)
       refine (wp_pure [(0, B b1 0), (1, I p1), (3, L a2 p3 c2), (9, I (len p2)), (10, I (-1)), (11, I s4.1), (12, .bool s4.2.1), (13, L a35 rl5.1 c35), (14, I (w64 (s4.2.2.2.1 + 1)))] hF (by kernel_rfl) fun fr hF => then_normal ?_)
       obtain ⟨S33, F13, hMn, hs, r7, hfz⟩ := Sep.freeze hs hM1
       have r7 := SL.rv r7
       have ra3 := ra3.big hfz
       have hM1 := hMn
       exact ⟨_, (Option.some.inj h).symm, a35, c35, a36, c36, S33, _, hF.sub _ (by kernel_rfl), hM1, hs, (r7)⟩
   replace h := iteF hb h
   refine (wp_exit (then_exit (then_exit (blk_exit_eq ?_))))
   obtain rfl := hr4 _ (Option.some.inj h).symm
   exact then_normal ⟨a27, c27, a28, c28, S21, _, hF.sub _ (by kernel_rfl), hM1, hs, (r5)⟩
 · obtain ⟨a29, c29, a30, c30, S22, F10, hF, hMx, hs, r6⟩ := hM
   have hM0 := hM0.trans hMx
   refine wp_seq ?_
   refine wp_seq (wp_pure [(0, B b1 0), (9, I (len p2)), (10, I (-1)), (11, I rl4.1), (13, L a29 rl4.2.2.1 c29), (88, .bool (!rl4.2.1))] hF (by kernel_rfl) fun fr hF => then_normal ?_)
   refine (wp_if hF (b := (!rl4.2.1)) rfl (fun hb => ?_) (fun hb => ?_))
   · replace h := iteT hb h
     refine wp_seq (wp_pure [(8, L a29 rl4.2.2.1 c29)] hF (by kernel_rfl) fun fr hF => then_normal ?_)
     obtain rfl := Option.some.inj h
     exact wp_ret (then_ret (ret1 rfl hF rfl ⟨_, rfl, _, a30, c30, rfl, S22, _, hM0.out, hs, hM0.rvF, (r6)⟩))
   replace h := iteF hb h
   refine (wp_skip (then_normal ?_))
   refine wp_seq (wp_text' ?_)
   refine q_lit (E := 3) hs hM0 [] (([] : List Int).map Flat.enc) ([] : List Int) rfl rfl hF [] rfl (fun w => by kernel_rfl) (css_flat _) rfl rfl rfl fun a43 c43 w27 S34 fr hs hp hF => ?_
   have r6 := r6.stp hM0 hp
   have hM0 := hM0.stp hp
   have hs : Sep [sl3 (L a43 ([] : List Int) c43) ([] : List Int), BX b1 76 [I rl4.2.2.2.1, L a30 rl4.2.2.2.2.2 c30, .bool rl4.2.2.2.2.1], sl59 (L a30 rl4.2.2.2.2.2 c30) rl4.2.2.2.2.2] w27 S34 := hs
   refine from_pure 1 [(0, B b1 0), (9, I (len p2)), (10, I (-1)), (11, I rl4.1), (13, L a29 rl4.2.2.1 c29), (20, L a43 ([] : List Int) c43)] hF (by kernel_rfl) fun fr hF => ?_
   refine from_end rfl (then_normal ?_)
   refine wp_seq ?_
   refine wp_seq (wp_pure [(0, B b1 0), (9, I (len p2)), (10, I (-1)), (11, I rl4.1), (13, L a29 rl4.2.2.1 c29), (20, L a43 ([] : List Int) c43), (21, I 0)] hF (by kernel_rfl) fun fr hF => then_normal ?_)
   obtain ⟨rl6, hit6, h⟩ := bindE h
   have hk6 := h
   refine (wp_cut (M := fun fr w' => ∃ a46 c46 a47 c47 S36 F15, FrS 108 [(20, L a46 rl6.1 c46)] fr ∧ Mem w27 S34 F10 w' S36 F15 ∧ Sep [sl3 (L a46 rl6.1 c46) rl6.1, BX b1 76 [I rl6.2.1, L a47 rl6.2.2.2 c47, .bool rl6.2.2.1], sl59 (L a47 rl6.2.2.2 c47) rl6.2.2.2] w' S36) (wp_block (wp_iter (Inv := fun s6 fr w' => ∃ a44 c44 a45 c45 S35 F14, FrS 108 [(0, B b1 0), (9, I (len p2)), (10, I (-1)), (11, I rl4.1), (13, L a29 rl4.2.2.1 c29), (20, L a44 s6.2.1 c44), (21, I s6.1)] fr ∧ Mem w27 S34 F10 w' S35 F14 ∧ Sep [sl3 (L a44 s6.2.1 c44) s6.2.1, BX b1 76 [I s6.2.2.1, L a45 s6.2.2.2.2 c45, .bool s6.2.2.2.1], sl59 (L a45 s6.2.2.2.2 c45) s6.2.2.2.2] w' S35) hit6 ⟨a43, c43, a30, c30, S34, _, hF.sub _ (by kernel_rfl), (Mem.start hM0.bd hM0.bdF hM0.dj), hs⟩ fun s6 q6 fr w6i hI h hr6 => ?_)) fun fr w6o hM => ?_)
   · obtain ⟨a44, c44, a45, c45, S35, F14, hF, hM1, hs⟩ := hI
     have r6 := r6.mem hM1
     refine wp_seq ?_
     refine wp_seq (wp_pure [(0, B b1 0), (9, I (len p2)), (10, I (-1)), (11, I rl4.1), (13, L a29 rl4.2.2.1 c29), (20, L a44 s6.2.1 c44), (21, I s6.1), (93, .bool (decide (s6.1 < (len p2))))] hF (by kernel_rfl) fun fr hF => then_normal ?_)
     refine (wp_if hF (b := (decide (s6.1 < (len p2)))) rfl (fun hb => ?_) (fun hb => ?_))
     · replace h := iteT hb h
       refine (wp_skip (then_normal ?_))
       refine wp_seq (wp_block ?_)
       refine (wp_text' ?_)
       refine from_pure 6 [(0, B b1 0), (9, I (len p2)), (10, I (-1)), (11, I rl4.1), (13, L a29 rl4.2.2.1 c29), (21, I s6.1), (96, L a44 s6.2.1 c44), (97, B b1 0), (98, I rl4.1), (99, I (-1)), (100, L a29 rl4.2.2.1 c29), (101, I s6.1)] hF (by kernel_rfl) fun fr hF => ?_
       obtain ⟨x31, hx31, h⟩ := bindE h
       refine s_elemF (z := x31) (I x31) ty3 Try.underlying37 rfl rfl rfl rfl rfl hF rfl (r6) rfl (get?_nn hx31) (get?_at hx31) rfl fun p fr hF => ?_
       obtain ⟨x32, hx32, h⟩ := bindE h
       have hs : Sep [BX b1 76 [I s6.2.2.1, L a45 s6.2.2.2.2 c45, .bool s6.2.2.2.1], sl59 (L a45 s6.2.2.2.2 c45) s6.2.2.2.2, sl3 (L a44 s6.2.1 c44) s6.2.1] w6i S35 := Sep.pick [1, 2, 0] hs (by decide) rfl
       obtain ⟨A8, R8, hsA, hsR, hdA, hbA, hup⟩ := Sep.call (L1 := [BX b1 76 [I s6.2.2.1, L a45 s6.2.2.2.2 c45, .bool s6.2.2.2.1], sl59 (L a45 s6.2.2.2.2 c45) s6.2.2.2.2]) (L2 := [sl3 (L a44 s6.2.1 c44) s6.2.1]) hs hM1
       refine s_call [B b1 0, I rl4.1, I (-1), I x31] Try.call61 rfl rfl hF rfl (spec_l04Net_l04If_ok n (D.l04Net.mk (D.Circuit.mk s6.2.2.1 s6.2.2.2.2) s6.2.2.2.1) rl4.1 (-1) x31 hx32 hsA hbA hdA) fun v w28 fr hRes hF => ?_
       obtain ⟨a48, c48, rfl, _, hp, hs⟩ := hRes
       obtain ⟨S37, hp, hs⟩ := hup hp hs
       have r6 := r6.stp hM1 hp
       have hM1 := hM1.stp hp
       have hs : Sep [BX b1 76 [I x32.2.c.Inputs, L a48 x32.2.c.Gates c48, .bool x32.2.full], sl59 (L a48 x32.2.c.Gates c48) x32.2.c.Gates, sl3 (L a44 s6.2.1 c44) s6.2.1] w28 S37 := hs
       refine q_lit (E := 3) hs hM1 [I x32.1] (([x32.1] : List Int).map Flat.enc) ([x32.1] : List Int) rfl rfl hF [I x32.1] rfl (fun w => by kernel_rfl) (css_flat _) rfl rfl rfl fun a49 c49 w29 S38 fr hs hp hF => ?_
       have r6 := r6.stp hM1 hp
       have hM1 := hM1.stp hp
       have hs : Sep [sl3 (L a49 ([x32.1] : List Int) c49) ([x32.1] : List Int), BX b1 76 [I x32.2.c.Inputs, L a48 x32.2.c.Gates c48, .bool x32.2.full], sl59 (L a48 x32.2.c.Gates c48) x32.2.c.Gates, sl3 (L a44 s6.2.1 c44) s6.2.1] w29 S38 := hs
       obtain ⟨x33, hx33, h⟩ := bindE h
       refine q_append 3 hs hM1 rfl Try.underlying37 el3 rfl rfl rfl hF rfl rfl (hs.rv 0 rfl) hx33 fun a50 c50 w30 S39 fr hs hp hF => ?_
       have r6 := r6.stp hM1 hp
       have hM1 := hM1.stp hp
       have hs : Sep [sl3 (L a49 ([x32.1] : List Int) c49) ([x32.1] : List Int), BX b1 76 [I x32.2.c.Inputs, L a48 x32.2.c.Gates c48, .bool x32.2.full], sl59 (L a48 x32.2.c.Gates c48) x32.2.c.Gates, sl3 (L a50 x33 c50) x33] w30 S39 := hs
       have hs : Sep [BX b1 76 [I x32.2.c.Inputs, L a48 x32.2.c.Gates c48, .bool x32.2.full], sl59 (L a48 x32.2.c.Gates c48) x32.2.c.Gates, sl3 (L a50 x33 c50) x33] w30 S39 := Sep.pick [1, 2, 3] hs (by decide) rfl
       refine from_pure 1 [(0, B b1 0), (9, I (len p2)), (10, I (-1)), (11, I rl4.1), (13, L a29 rl4.2.2.1 c29), (20, L a50 x33 c50), (21, I s6.1)] hF (by kernel_rfl) fun fr hF => ?_
       refine from_end rfl ?_
       refine blk_normal (then_normal ?_)
       refine (wp_pure [(0, B b1 0), (9, I (len p2)), (10, I (-1)), (11, I rl4.1), (13, L a29 rl4.2.2.1 c29), (20, L a50 x33 c50), (21, I (w64 (s6.1 + 1)))] hF (by kernel_rfl) fun fr hF => then_normal ?_)
       have hs : Sep [sl3 (L a50 x33 c50) x33, BX b1 76 [I x32.2.c.Inputs, L a48 x32.2.c.Gates c48, .bool x32.2.full], sl59 (L a48 x32.2.c.Gates c48) x32.2.c.Gates] w30 S39 := Sep.pick [2, 0, 1] hs (by decide) rfl
       exact ⟨_, (Option.some.inj h).symm, a50, c50, a48, c48, S39, _, hF.sub _ (by kernel_rfl), hM1, hs⟩
     replace h := iteF hb h
     refine (wp_exit (then_exit (then_exit (blk_exit_eq ?_))))
     obtain rfl := hr6 _ (Option.some.inj h).symm
     exact then_normal ⟨a44, c44, a45, c45, S35, _, hF.sub _ (by kernel_rfl), hM1, hs⟩
   · obtain ⟨a46, c46, a47, c47, S36, F15, hF, hMx, hs⟩ := hM
     have hM0 := hM0.trans hMx
     refine wp_seq (wp_pure [(8, L a46 rl6.1 c46)] hF (by kernel_rfl) fun fr hF => then_normal ?_)
     obtain rfl := Option.some.inj h
     obtain ⟨S40, F16, hMn, hs, r8, hfz⟩ := Sep.freeze hs hM0
     have r8 := SL.rv r8
     have hM0 := hMn
     exact wp_ret (ret1 rfl hF rfl ⟨_, rfl, _, a47, c47, rfl, S40, _, hM0.out, hs, hM0.rvF, (r8)⟩)

theorem spec_l04Net_l04Less_ok (n : Nat) (p0 : D.l04Net) (p1 : List Int) (p2 : List Int) {r : Int × D.l04Net} (h : spec_l04Net_l04Less n p0 p1 p2 = some r) {w : World} {S0 F0 : Nat → Prop} {pa0 : Option Addr} {pn0 pc0 : Nat} {b1 : Nat} (hs : Sep [BX b1 76 [I p0.c.Inputs, .slice pa0 pn0 pc0, .bool p0.full], sl59 (.slice pa0 pn0 pc0) p0.c.Gates] w S0) (hb : ∀ k, S0 k → k < w.heap.size) (hd : ∀ k, S0 k → F0 k → False) {va1 : Value} (ra1 : RV w F0 va1 p1) {va2 : Value} (ra2 : RV w F0 va2 p2) :
   Calls Try.prog 93 [B b1 0, va1, va2].toArray w fun e w' => ∃ v, e = .returned v ∧ ∃ a1 c1, v = I r.1 ∧ ∃ S', Stp w S0 w' S' ∧ Sep [BX b1 76 [I r.2.c.Inputs, L a1 r.2.c.Gates c1, .bool r.2.full], sl59 (L a1 r.2.c.Gates c1) r.2.c.Gates] w' S' := by
 unfold spec_l04Net_l04Less at h
 obtain ⟨hpn, hs⟩ := hs.relen 1 rfl
 subst hpn
 have hs : Sep [BX b1 76 [I p0.c.Inputs, L pa0 p0.c.Gates pc0, .bool p0.full], sl59 (L pa0 p0.c.Gates pc0) p0.c.Gates] w S0 := hs
 have hM0 : Mem w S0 (fun k => F0 k ∧ k < w.heap.size) w S0 (fun k => F0 k ∧ k < w.heap.size) := Mem.start hb (fun _ h => h.2) (fun k h1 h2 => hd k h1 h2.1)
 have ra1 := ra1.sub (F' := (fun k => F0 k ∧ k < w.heap.size)) (fun k hk h => ⟨h, hk⟩)
 obtain ⟨a1, c1, rfl, -⟩ := ra1.slice
 have ra2 := ra2.sub (F' := (fun k => F0 k ∧ k < w.heap.size)) (fun k hk h => ⟨h, hk⟩)
 obtain ⟨a2, c2, rfl, -⟩ := ra2.slice
 refine enter (N := 19) Try.func93 rfl Try.ntmps93 rfl fun fr hF => ?_
 refine wp_seq (wp_pure [(0, B b1 0), (1, L a1 p1 c1), (2, L a2 p2 c2)] hF (by kernel_rfl) fun fr hF => then_normal ?_)
 refine wp_seq (wp_text' ?_)
 refine from_pure 3 [(10, B b1 0), (11, L a1 p1 c1), (12, L a2 p2 c2)] hF (by kernel_rfl) fun fr hF => ?_
 obtain ⟨x1, hx1, h⟩ := bindE h
 refine s_call [L a2 p2 c2] Try.call89 rfl rfl hF rfl (spec_l04Not_ok n p2 hx1 (ra2)) fun v w1 fr hRes hF => ?_
 obtain ⟨a3, c3, rfl, _, hp, hs2⟩ := hRes
 obtain ⟨S1, hp, hs⟩ := hs.got hM0 hp hs2
 have ra1 := ra1.stp hM0 hp
 have ra2 := ra2.stp hM0 hp
 have hM0 := hM0.stp hp
 have hs : Sep [sl3 (L a3 x1 c3) x1, BX b1 76 [I p0.c.Inputs, L pa0 p0.c.Gates pc0, .bool p0.full], sl59 (L pa0 p0.c.Gates pc0) p0.c.Gates] w1 S1 := hs
 obtain ⟨x2, hx2, h⟩ := bindE h
 have hs : Sep [BX b1 76 [I p0.c.Inputs, L pa0 p0.c.Gates pc0, .bool p0.full], sl59 (L pa0 p0.c.Gates pc0) p0.c.Gates, sl3 (L a3 x1 c3) x1] w1 S1 := Sep.pick [1, 2, 0] hs (by decide) rfl
 obtain ⟨A1, R1, hsA, hsR, hdA, hbA, hup⟩ := Sep.call (L1 := [BX b1 76 [I p0.c.Inputs, L pa0 p0.c.Gates pc0, .bool p0.full], sl59 (L pa0 p0.c.Gates pc0) p0.c.Gates]) (L2 := [sl3 (L a3 x1 c3) x1]) hs hM0
 refine s_call [B b1 0, L a1 p1 c1, L a3 x1 c3, I 1] Try.call64 rfl rfl hF rfl (spec_l04Net_l04Add_ok n p0 p1 x1 1 hx2 hsA hbA hdA (ra1.big (fun _ h => .inl h)) ((hsR.rv 0 rfl).big (fun _ h => .inr h))) fun v w2 fr hRes hF => ?_
 obtain ⟨a4, c4, a5, c5, rfl, _, hp, hs⟩ := hRes
 obtain ⟨S2, hp, hs⟩ := hup hp hs
 have ra1 := ra1.stp hM0 hp
 have hM0 := hM0.stp hp
 have hs : Sep [sl3 (L a4 x2.1 c4) x2.1, BX b1 76 [I x2.2.2.c.Inputs, L a5 x2.2.2.c.Gates c5, .bool x2.2.2.full], sl59 (L a5 x2.2.2.c.Gates c5) x2.2.2.c.Gates, sl3 (L a3 x1 c3) x1] w2 S2 := hs
 have hs : Sep [sl3 (L a4 x2.1 c4) x2.1, BX b1 76 [I x2.2.2.c.Inputs, L a5 x2.2.2.c.Gates c5, .bool x2.2.2.full], sl59 (L a5 x2.2.2.c.Gates c5) x2.2.2.c.Gates] w2 S2 := Sep.pick [0, 1, 2] hs (by decide) rfl
 refine from_pure 5 [(8, I x2.2.1)] hF (by kernel_rfl) fun fr hF => ?_
 have hs : Sep [BX b1 76 [I x2.2.2.c.Inputs, L a5 x2.2.2.c.Gates c5, .bool x2.2.2.full], sl59 (L a5 x2.2.2.c.Gates c5) x2.2.2.c.Gates] w2 S2 := Sep.pick [1, 2] hs (by decide) rfl
 refine from_end rfl (then_normal ?_)
 refine wp_seq (wp_pure [(6, I (w64 (0 - x2.2.1)))] hF (by kernel_rfl) fun fr hF => then_normal ?_)
 obtain rfl := Option.some.inj h
 exact wp_ret (ret1 rfl hF rfl ⟨_, rfl, a5, c5, rfl, S2, hM0.out, hs⟩)

theorem spec_l04Flip_ok (p0 : List Int) {r : (List Int)} (h : spec_l04Flip p0 = some r) {w : World} {G0 : Nat → Prop} {va0 : Value} (ra0 : RV w G0 va0 p0) :
   Calls Try.prog 94 [va0].toArray w fun e w' => ∃ v, e = .returned v ∧ ∃ a1 c1, v = L a1 r c1 ∧ ∃ S', Stp w Non w' S' ∧ Sep [sl3 (L a1 r c1) r] w' S' := by
 unfold spec_l04Flip at h
 have hs := Sep.nil w Non
 have hM0 : Mem w Non (fun k => (G0 k) ∧ k < w.heap.size) w Non (fun k => (G0 k) ∧ k < w.heap.size) := Mem.start (fun _ h => h.elim) (fun _ h => h.2) (fun _ h => h.elim)
 have ra0 := ra0.sub (F' := (fun k => (G0 k) ∧ k < w.heap.size)) (fun k hk h => ⟨h, hk⟩)
 obtain ⟨a1, c1, rfl, -⟩ := ra0.slice
 refine enter (N := 20) Try.func94 rfl Try.ntmps94 rfl fun fr hF => ?_
 refine wp_seq (wp_pure [(0, L a1 p0 c1)] hF (by kernel_rfl) fun fr hF => then_normal ?_)
 refine wp_seq (wp_text' ?_)
 refine q_lit (E := 3) hs hM0 [] (([] : List Int).map Flat.enc) ([] : List Int) rfl rfl hF [] rfl (fun w => by kernel_rfl) (css_flat _) rfl rfl rfl fun a2 c2 w1 S1 fr hs hp hF => ?_
 have ra0 := ra0.stp hM0 hp
 have hM0 := hM0.stp hp
 have hs : Sep [sl3 (L a2 ([] : List Int) c2) ([] : List Int)] w1 S1 := hs
 refine from_pure 1 [(4, L a2 ([] : List Int) c2), (5, L a1 p0 c1)] hF (by kernel_rfl) fun fr hF => ?_
 obtain ⟨x1, hx1, h⟩ := bindE h
 refine q_append 0 hs hM0 rfl Try.underlying37 el3 rfl rfl rfl hF rfl rfl (ra0) hx1 fun a3 c3 w2 S2 fr hs hp hF => ?_
 have ra0 := ra0.stp hM0 hp
 have hM0 := hM0.stp hp
 have hs : Sep [sl3 (L a3 x1 c3) x1] w2 S2 := hs
 refine from_pure 1 [(3, L a3 x1 c3)] hF (by kernel_rfl) fun fr hF => ?_
 refine from_end rfl (then_normal ?_)
 refine wp_seq (wp_text' ?_)
 refine from_pure 8 [(3, L a3 x1 c3), (7, L a3 x1 c3), (10, I (w64 ((len x1) - 1))), (11, L a3 x1 c3), (14, I (w64 ((len x1) - 1)))] hF (by kernel_rfl) fun fr hF => ?_
 obtain ⟨x2, hx2, h⟩ := bindE h
 refine s_elemF (z := x2) (I x2) ty3 Try.underlying37 rfl rfl rfl rfl rfl hF rfl (hs.rv 0 rfl) rfl (get?_nn hx2) (get?_at hx2) rfl fun p fr hF => ?_
 refine from_pure 1 [(3, L a3 x1 c3), (7, L a3 x1 c3), (10, I (w64 ((len x1) - 1))), (17, I (w64 (0 - x2)))] hF (by kernel_rfl) fun fr hF => ?_
 obtain ⟨x3, hx3, h⟩ := bindE h
 refine q_set (q := (w64 (0 - x2))) 0 hs hM0 rfl Try.underlying37 ty3 rfl rfl rfl rfl hF rfl rfl (by simp) rfl rfl hx3 fun w3 S3 fr _ hs hp hF => ?_
 have hM0 := hM0.stp hp
 have hs : Sep [sl3 (L a3 x1 c3) x3] w3 S3 := hs
 refine from_end rfl (then_normal ?_)
 refine wp_seq (wp_pure [(2, L a3 x1 c3)] hF (by kernel_rfl) fun fr hF => then_normal ?_)
 obtain rfl := Option.some.inj h
 obtain ⟨he1, hs⟩ := hs.relen 0 rfl
 have hs : Sep [sl3 (L a3 x3 c3) x3] w3 S3 := hs
 exact wp_ret (ret1 rfl hF rfl ⟨_, rfl, a3, c3, (by simp only [L, he1]), S3, hM0.out, hs⟩)
end Go.Proofs.Ytckeihpjfeonmaa
