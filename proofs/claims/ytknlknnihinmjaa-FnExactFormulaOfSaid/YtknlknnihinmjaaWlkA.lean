/- Printed by gen2.py: the walks. -/
import Derived.Test.YtknlknnihinmjaaGLt
import Derived.Test.YtknlknnihinmjaaGLl
import Derived.Test.YtknlknnihinmjaaDefs
import Derived.Test.YtknlknnihinmjaaProg
import Derived.KernelRfl
import Derived.DeepKeys4
set_option linter.unusedVariables false
set_option maxRecDepth 100000
namespace Go.Proofs.Ytknlknnihinmjaa
open Go.GL Go.Maps Go.WideMaps
abbrev I (x : Int) : Value := .int .i64 x
abbrev L {α : Type} (a : Option Addr) (l : List α) (c : Nat) : Value := .slice a (List.length l) c
abbrev B (b n : Nat) : Value := .pointer (some ⟨b, n, none⟩)
abbrev sl103 : Value → List D.Gate → HP := SL 103
abbrev sl26 : Value → List Hd → HP := SL 26
abbrev sl3 : Value → List Int → HP := SL 3
theorem mix : Try.prog.follows .mixedOrders = true := by kernel_rfl
theorem ty3 : Ty Try.prog 3 Int := ⟨by kernel_rfl, by kernel_rfl⟩
theorem ty26 : Ty Try.prog 26 (List Int) := ⟨by kernel_rfl, by kernel_rfl⟩
theorem ty39 : Ty Try.prog 39 (List (List Int)) := ⟨by kernel_rfl, by kernel_rfl⟩
theorem ty43 : Ty Try.prog 43 (List D.Gate) := ⟨by kernel_rfl, by kernel_rfl⟩
theorem ty45 : Ty Try.prog 45 D.Circuit := ⟨by kernel_rfl, by kernel_rfl⟩
theorem ty48 : Ty Try.prog 48 D.Formula := ⟨by kernel_rfl, by kernel_rfl⟩
theorem ty51 : Ty Try.prog 51 (List D.Gate) := ⟨by kernel_rfl, by kernel_rfl⟩
theorem ty53 : Ty Try.prog 53 D.Circuit := ⟨by kernel_rfl, by kernel_rfl⟩
theorem ty103 : Ty Try.prog 103 D.Gate := ⟨by kernel_rfl, by kernel_rfl⟩
theorem ty137 : Ty Try.prog 137 D.Gate := ⟨by kernel_rfl, by kernel_rfl⟩
theorem el3 : ElT Try.prog 3 Int := elT (by kernel_rfl)
theorem el103 : ElT Try.prog 103 D.Gate := elT (by kernel_rfl)
theorem eqi103_3 (d : Nat) (a c : Int) (w : World) : (Op.equalIn (d + 1) 3 (.int .i64 a) (.int .i64 c)).run Try.prog w = .ok (a == c) w := by
  unfold Op.equalIn
  simp [run_underlying Try.underlying3]
theorem eqd103 (n : Nat) (x y : D.Gate) (w : World) : (Op.equalIn (n + 1 + 1) 103 (.agg #[.int .i64 x.A, .int .i64 x.B]) (.agg #[.int .i64 y.A, .int .i64 y.B])).run Try.prog w = .ok (decide (x = y)) w := by
  have hs : Try.prog.stoodInHeld 103 = false := by kernel_rfl
  unfold Op.equalIn
  obtain ⟨x0, x1⟩ := x; obtain ⟨y0, y1⟩ := y
  simp only [D.Gate.mk.injEq]
  by_cases h0 : x0 = y0 <;> by_cases h1 : x1 = y1 <;> simp [run_underlying Try.underlying103, hs, eqi103_3, part, h0, h1]
theorem eq103 (x y : D.Gate) (w : World) : (binOp .eql 103 (.agg #[.int .i64 x.A, .int .i64 x.B]) (.agg #[.int .i64 y.A, .int .i64 y.B])).run Try.prog w = .ok (.bool (decide (x = y))) w := by
  have h := eqd103 9998 x y w
  simp only [binOp, Op.equal, Op.maxDepth, Sem.run_bind, Sem.run_pure]
  rw [h]; rfl
theorem eqg103 (x y : Operand) (a b : Array Value) (w : World) : (eqGuard .eql 103 x y (.agg a) (.agg b)).run Try.prog w = .ok () w := by
  have hg : Try.prog.eqGuardType Try.prog.depth 103 = false := by kernel_rfl
  simp [eqGuard, hg]
theorem ne103 (x y : D.Gate) (w : World) : (binOp .neq 103 (.agg #[.int .i64 x.A, .int .i64 x.B]) (.agg #[.int .i64 y.A, .int .i64 y.B])).run Try.prog w = .ok (.bool (!decide (x = y))) w := by
  have h := eqd103 9998 x y w
  simp only [binOp, Op.equal, Op.maxDepth, Sem.run_bind, Sem.run_pure]
  rw [h]; rfl
theorem neg103 (x y : Operand) (a b : Array Value) (w : World) : (eqGuard .neq 103 x y (.agg a) (.agg b)).run Try.prog w = .ok () w := by
  have hg : Try.prog.eqGuardType Try.prog.depth 103 = false := by kernel_rfl
  simp [eqGuard, hg]
abbrev own26 : Hd → List Int → HP := fun h xs => SL 3 h.v xs
theorem owns26 : Owns own26 := owns_sl _ _
theorem rty26 : Ty Try.prog 26 Hd := ⟨by kernel_rfl, by kernel_rfl⟩
theorem rel26 : ElT Try.prog 26 Hd := elT (by kernel_rfl)
theorem laidOut : laidOutB Try.prog = true := by kernel_rfl
theorem keyed103 : Keyed Try.prog 103 := Keyed.of_law (deep_law_laid laidOut (m := 3) (by omega) (of_decide_eq_true (by kernel_rfl)) (by kernel_rfl) (by kernel_rfl))
theorem lits3 (n : Nat) {a : Int} (h : (Lit.int .i64 a).wf = true) : Try.prog.keyLits (n + 1) 3 [.int .i64 a] = some [.int .i64 a] := by
  unfold Program.keyLits
  rw [Try.underlying3]
  simp [h]
theorem lits103 (n : Nat) (x : D.Gate) (hA : (Lit.int .i64 x.A).wf = true) (hB : (Lit.int .i64 x.B).wf = true) : Try.prog.keyLits (n + 1 + 1) 103 [.int .i64 x.A, .int .i64 x.B] = some [.int .i64 x.A, .int .i64 x.B] := by
  have hc : Try.prog.cellsOf 103 = 2 := by kernel_rfl
  have hc3 : Try.prog.cellsOf 3 = 1 := by kernel_rfl
  unfold Program.keyLits
  rw [Try.underlying103]
  simp [hc, hc3, lits3 n hA, lits3 n hB]
theorem key103 (x : D.Gate) (hA : (Lit.int .i64 x.A).wf = true) (hB : (Lit.int .i64 x.B).wf = true) : keyOf Try.prog 103 (.agg #[.int .i64 x.A, .int .i64 x.B]) = some (.string (keyBytes [.int .i64 x.A, .int .i64 x.B])) := by
  have h1 : Try.prog.keyType 103 = true := by kernel_rfl
  have h2 : ∀ x : D.Gate, (Value.agg #[.int .i64 x.A, .int .i64 x.B]).formed Try.prog 103 = true := by intro x; kernel_rfl
  obtain ⟨n, hs⟩ : ∃ n, Try.prog.types.size = n + 1 := ⟨Try.prog.types.size - 1, (Nat.succ_pred_eq_of_pos (of_decide_eq_true (by kernel_rfl))).symm⟩
  have hl := lits103 n x hA hB
  unfold keyOf
  rw [Try.underlying103]
  simp only [h1, h2, Bool.and_self, if_true, hs, Value.cells]
  rw [hl]; rfl
theorem back4 (v : Value) (y : Bool) (ps : List MemPlace) (h : plainElem (H := Unit) Try.prog 4 v = some (.lit (.bool y), ps)) : v = .bool y := by
  unfold plainElem at h
  rw [Try.underlying4] at h
  split at h <;> simp_all
def map138 : MapT Try.prog 103 4 D.Gate Bool where
  fit := fitK_Gate
  lit x := .string (keyBytes [.int .i64 x.A, .int .i64 x.B])
  dv y := .lit (.bool y)
  zero := false
  efit := fun _ => true
  zfit := by kernel_rfl
  keyed := keyed103
  key x h := by
    simp only [fitK_Gate, fitZ, Bool.and_eq_true] at h
    exact key103 x h.1 h.2
  inj x y hx hy h := by
    simp only [fitK_Gate, fitZ, Bool.and_eq_true] at hx hy
    have h1 := key103 x hx.1 hx.2
    have h2 := key103 y hy.1 hy.2
    rw [← h] at h2
    have h3 := keyed103.inj h1 h2
    cases x; cases y
    simpa using h3
  elem y _ := plainElem_bool Try.underlying4 y
  back v y ps h := back4 v y ps h
  hz w := by
    show (zeroValue 4).run Try.prog w = .ok (.bool false) w
    have hz : (Try.prog.info? 4).map (·.zero) = some (some (.bool false)) := by kernel_rfl
    cases hi : Try.prog.info? 4 with
    | none => rw [hi] at hz; cases hz
    | some i =>
      rw [hi] at hz
      simp only [Option.map_some, Option.some.injEq] at hz
      simp [zeroValue, typeInfo, hi, hz]

theorem laws_szGateS_ok (p0 : List D.Gate) (p1 : Int) {r : Int} (h : laws_szGateS p0 p1 = some r) {w : World} {G0 : Nat → Prop} {va0 : Value} (ra0 : RV w G0 va0 p0) :
   Calls Try.prog 67 [va0, I p1].toArray w fun e w' => ∃ v, e = .returned v ∧ v = I r ∧ Chg Non w w' := by
 unfold laws_szGateS at h
 have hs := Sep.nil w Non
 have hM0 : Mem w Non (fun k => (G0 k) ∧ k < w.heap.size) w Non (fun k => (G0 k) ∧ k < w.heap.size) := Mem.start (fun _ h => h.elim) (fun _ h => h.2) (fun _ h => h.elim)
 have ra0 := ra0.sub (F' := (fun k => (G0 k) ∧ k < w.heap.size)) (fun k hk h => ⟨h, hk⟩)
 obtain ⟨a1, c1, rfl, -⟩ := ra0.slice
 refine enter (N := 12) Try.func67 rfl Try.ntmps67 rfl fun fr hF => ?_
 refine wp_seq (wp_pure [(0, L a1 p0 c1), (1, I p1)] hF (by kernel_rfl) fun fr hF => then_normal ?_)
 refine wp_seq (wp_pure [(1, I (w64 (p1 - (len p0))))] hF (by kernel_rfl) fun fr hF => then_normal ?_)
 refine wp_seq ?_
 refine wp_seq (wp_pure [(1, I (w64 (p1 - (len p0)))), (10, .bool (decide ((w64 (p1 - (len p0))) < 0)))] hF (by kernel_rfl) fun fr hF => then_normal ?_)
 refine (wp_if hF (b := (decide ((w64 (p1 - (len p0))) < 0))) rfl (fun hb => ?_) (fun hb => ?_))
 · replace h := iteT hb h
   refine wp_seq (wp_pure [(4, I (-1))] hF (by kernel_rfl) fun fr hF => then_normal ?_)
   obtain rfl := Option.some.inj h
   exact wp_ret (then_ret (ret1 rfl hF rfl ⟨_, rfl, rfl, hM0.chg⟩))
 replace h := iteF hb h
 refine (wp_skip (then_normal ?_))
 refine wp_seq (wp_pure [(4, I (w64 (p1 - (len p0))))] hF (by kernel_rfl) fun fr hF => then_normal ?_)
 obtain rfl := Option.some.inj h
 exact wp_ret (ret1 rfl hF rfl ⟨_, rfl, rfl, hM0.chg⟩)

theorem laws_szCircuit_ok (p0 : D.Circuit) (p1 : Int) {r : Int} (h : laws_szCircuit p0 p1 = some r) {w : World} {G0 : Nat → Prop} {va0 : Value} (ra0 : RV w G0 va0 p0) :
   Calls Try.prog 29 [va0, I p1].toArray w fun e w' => ∃ v, e = .returned v ∧ v = I r ∧ Chg Non w w' := by
 unfold laws_szCircuit at h
 have hs := Sep.nil w Non
 have hM0 : Mem w Non (fun k => (G0 k) ∧ k < w.heap.size) w Non (fun k => (G0 k) ∧ k < w.heap.size) := Mem.start (fun _ h => h.elim) (fun _ h => h.2) (fun _ h => h.elim)
 have ra0 := ra0.sub (F' := (fun k => (G0 k) ∧ k < w.heap.size)) (fun k hk h => ⟨h, hk⟩)
 obtain ⟨v1, rfl, r1⟩ := RV.Circuit ra0
 obtain ⟨a1, c1, rfl, -⟩ := r1.slice
 refine enter (N := 12) Try.func29 rfl Try.ntmps29 rfl fun fr hF => ?_
 refine wp_seq (wp_text' ?_)
 refine q_box hs hM0 [I p0.Inputs, L a1 p0.Gates c1] rfl rfl hF rfl rfl fun b1 w1 S1 fr hs hp hF => ?_
 have r1 := r1.stp hM0 hp
 have hM0 := hM0.stp hp
 have hs : Sep [BX b1 45 [I p0.Inputs, L a1 p0.Gates c1]] w1 S1 := hs
 refine from_pure 1 [(1, I p1), (2, B b1 0)] hF (by kernel_rfl) fun fr hF => ?_
 refine from_end rfl (then_normal ?_)
 refine wp_seq (wp_text' ?_)
 refine from_pure 1 [(1, I p1), (5, B b1 1)] hF (by kernel_rfl) fun fr hF => ?_
 refine s_loadBox (L a1 p0.Gates c1) ty43 rfl rfl hF rfl (hs.bx 0 rfl) rfl rfl fun fr hF => ?_
 have hs : Sep [] w1 S1 := Sep.pick [] hs (by decide) rfl
 refine from_pure 1 [(6, L a1 p0.Gates c1), (7, I p1)] hF (by kernel_rfl) fun fr hF => ?_
 obtain ⟨x1, hx1, h⟩ := bindE h
 refine s_call [L a1 p0.Gates c1, I p1] Try.call67 rfl rfl hF rfl (laws_szGateS_ok p0.Gates p1 hx1 (r1)) fun v w2 fr hRes hF => ?_
 obtain ⟨rfl, hc⟩ := hRes
 have r1 := r1.ext hc
 have hs := hs.ext hc
 have hM0 := hM0.ext hc
 refine from_pure 1 [(1, I x1)] hF (by kernel_rfl) fun fr hF => ?_
 refine from_end rfl (then_normal ?_)
 refine wp_seq ?_
 refine wp_seq (wp_pure [(1, I x1), (10, .bool (decide (x1 < 0)))] hF (by kernel_rfl) fun fr hF => then_normal ?_)
 refine (wp_if hF (b := (decide (x1 < 0))) rfl (fun hb => ?_) (fun hb => ?_))
 · replace h := iteT hb h
   refine wp_seq (wp_pure [(4, I (-1))] hF (by kernel_rfl) fun fr hF => then_normal ?_)
   obtain rfl := Option.some.inj h
   exact wp_ret (then_ret (ret1 rfl hF rfl ⟨_, rfl, rfl, hM0.chg⟩))
 replace h := iteF hb h
 refine (wp_skip (then_normal ?_))
 refine wp_seq (wp_pure [(4, I x1)] hF (by kernel_rfl) fun fr hF => then_normal ?_)
 obtain rfl := Option.some.inj h
 exact wp_ret (ret1 rfl hF rfl ⟨_, rfl, rfl, hM0.chg⟩)

theorem laws_toGate_ok (p0 : D.Gate) {r : D.Gate} (h : laws_toGate p0 = some r) {w : World} :
   Calls Try.prog 114 [.agg #[I p0.A, I p0.B]].toArray w fun e w' => ∃ v, e = .returned v ∧ v = .agg #[I r.A, I r.B] ∧ Chg Non w w' := by
 unfold laws_toGate at h
 have hs := Sep.nil w Non
 have hM0 : Mem w Non (fun k => (False) ∧ k < w.heap.size) w Non (fun k => (False) ∧ k < w.heap.size) := Mem.start (fun _ h => h.elim) (fun _ h => h.2) (fun _ h => h.elim)
 refine enter (N := 11) Try.func114 rfl Try.ntmps114 rfl fun fr hF => ?_
 refine wp_seq (wp_text' ?_)
 refine q_box hs hM0 [I p0.A, I p0.B] rfl rfl hF rfl rfl fun b1 w1 S1 fr hs hp hF => ?_
 have hM0 := hM0.stp hp
 have hs : Sep [BX b1 137 [I p0.A, I p0.B]] w1 S1 := hs
 refine q_alloc (z := .agg #[I 0, I 0]) hs hM0 [I 0, I 0] rfl rfl hF (by kernel_rfl) rfl fun b2 w2 S2 fr hs hp hF => ?_
 have hM0 := hM0.stp hp
 have hs : Sep [BX b2 103 [I 0, I 0], BX b1 137 [I p0.A, I p0.B]] w2 S2 := hs
 refine from_end rfl (then_normal ?_)
 refine wp_seq (wp_text' ?_)
 refine q_alloc (z := .agg #[I 0, I 0]) hs hM0 [I 0, I 0] rfl rfl hF (by kernel_rfl) rfl fun b3 w3 S3 fr hs hp hF => ?_
 have hM0 := hM0.stp hp
 have hs : Sep [BX b3 103 [I 0, I 0], BX b2 103 [I 0, I 0], BX b1 137 [I p0.A, I p0.B]] w3 S3 := hs
 refine from_end rfl (then_normal ?_)
 refine wp_seq (wp_text' ?_)
 refine from_pure 1 [(1, B b1 0), (2, B b2 0), (3, B b3 0), (4, B b1 0)] hF (by kernel_rfl) fun fr hF => ?_
 refine s_loadBox (I p0.A) ty3 rfl rfl hF rfl (hs.bx 2 rfl) rfl rfl fun fr hF => ?_
 refine from_pure 1 [(1, B b1 0), (2, B b2 0), (3, B b3 0), (5, I p0.A), (6, B b3 0)] hF (by kernel_rfl) fun fr hF => ?_
 refine q_storeBox 0 hs hM0 rfl [I p0.A, I 0] rfl hF rfl rfl (by kernel_rfl) rfl rfl rfl fun w4 S4 hs hp hF => ?_
 have hM0 := hM0.stp hp
 have hs : Sep [BX b3 103 [I p0.A, I 0], BX b2 103 [I 0, I 0], BX b1 137 [I p0.A, I p0.B]] w4 S4 := hs
 refine from_end rfl (then_normal ?_)
 refine wp_seq (wp_text' ?_)
 refine from_pure 1 [(2, B b2 0), (3, B b3 0), (7, B b1 1)] hF (by kernel_rfl) fun fr hF => ?_
 refine s_loadBox (I p0.B) ty3 rfl rfl hF rfl (hs.bx 2 rfl) rfl rfl fun fr hF => ?_
 have hs : Sep [BX b3 103 [I p0.A, I 0], BX b2 103 [I 0, I 0]] w4 S4 := Sep.pick [0, 1] hs (by decide) rfl
 refine from_pure 1 [(2, B b2 0), (3, B b3 0), (8, I p0.B), (9, B b3 1)] hF (by kernel_rfl) fun fr hF => ?_
 refine q_storeBox 0 hs hM0 rfl [I p0.A, I p0.B] rfl hF rfl rfl (by kernel_rfl) rfl rfl rfl fun w5 S5 hs hp hF => ?_
 have hM0 := hM0.stp hp
 have hs : Sep [BX b3 103 [I p0.A, I p0.B], BX b2 103 [I 0, I 0]] w5 S5 := hs
 refine from_end rfl (then_normal ?_)
 refine wp_seq (wp_text' ?_)
 refine s_loadBoxS ty103 rfl rfl hF rfl (hs.bx 0 rfl) rfl rfl fun fr hF => ?_
 have hs : Sep [BX b2 103 [I 0, I 0]] w5 S5 := Sep.pick [1] hs (by decide) rfl
 refine q_storeBoxS 0 hs hM0 rfl [I p0.A, I p0.B] rfl hF rfl rfl (by kernel_rfl) rfl rfl rfl fun w6 S6 hs hp hF => ?_
 have hM0 := hM0.stp hp
 have hs : Sep [BX b2 103 [I p0.A, I p0.B]] w6 S6 := hs
 refine from_end rfl (then_normal ?_)
 have hbr := (hs.bx 0 rfl)
 obtain rfl := Option.some.inj h
 exact wp_ret (retS rfl hF ty103 rfl rfl hbr rfl ⟨_, rfl, rfl, hM0.chg⟩)

theorem laws_toGateS_ok (n : Nat) (p0 : List D.Gate) {r : (List D.Gate)} (h : laws_toGateS n p0 = some r) {w : World} {G0 : Nat → Prop} {va0 : Value} (ra0 : RV w G0 va0 p0) :
   Calls Try.prog 71 [va0].toArray w fun e w' => ∃ v, e = .returned v ∧ ∃ a1 c1, v = L a1 r c1 ∧ ∃ S', Stp w Non w' S' ∧ Sep [sl103 (L a1 r c1) r] w' S' := by
 unfold laws_toGateS at h
 have hs := Sep.nil w Non
 have hM0 : Mem w Non (fun k => (G0 k) ∧ k < w.heap.size) w Non (fun k => (G0 k) ∧ k < w.heap.size) := Mem.start (fun _ h => h.elim) (fun _ h => h.2) (fun _ h => h.elim)
 have ra0 := ra0.sub (F' := (fun k => (G0 k) ∧ k < w.heap.size)) (fun k hk h => ⟨h, hk⟩)
 obtain ⟨a1, c1, rfl, -⟩ := ra0.slice
 refine enter (N := 23) Try.func71 rfl Try.ntmps71 rfl fun fr hF => ?_
 refine wp_seq (wp_pure [(0, L a1 p0 c1)] hF (by kernel_rfl) fun fr hF => then_normal ?_)
 refine wp_seq (wp_text' ?_)
 refine from_pure 2 [(0, L a1 p0 c1), (6, I (len p0))] hF (by kernel_rfl) fun fr hF => ?_
 obtain ⟨x1, hx1, h⟩ := bindE h
 refine q_make hs hM0 Try.underlying51 el103 (zero_flat _ (by kernel_rfl)) rfl rfl hF rfl rfl hx1 fun a2 c2 w1 S1 fr hs hp hF => ?_
 have ra0 := ra0.stp hM0 hp
 have hM0 := hM0.stp hp
 have hs : Sep [sl103 (L a2 x1 c2) x1] w1 S1 := hs
 refine from_pure 1 [(0, L a1 p0 c1), (3, L a2 x1 c2)] hF (by kernel_rfl) fun fr hF => ?_
 refine from_end rfl (then_normal ?_)
 refine wp_seq ?_
 refine wp_seq (wp_pure [(0, L a1 p0 c1), (3, L a2 x1 c2), (4, I 0)] hF (by kernel_rfl) fun fr hF => then_normal ?_)
 obtain ⟨rl1, hit1, h⟩ := bindE h
 have hk1 := h
 refine (wp_cut (M := fun fr w' => ∃ S3 F2, FrS 23 [(3, L a2 x1 c2)] fr ∧ Mem w1 S1 (fun k => (G0 k) ∧ k < w.heap.size) w' S3 F2 ∧ Sep [sl103 (L a2 x1 c2) rl1] w' S3) (wp_block (wp_iter (Inv := fun s1 fr w' => ∃ S2 F1, FrS 23 [(0, L a1 p0 c1), (3, L a2 x1 c2), (4, I s1.1)] fr ∧ Mem w1 S1 (fun k => (G0 k) ∧ k < w.heap.size) w' S2 F1 ∧ Sep [sl103 (L a2 x1 c2) s1.2] w' S2) hit1 ⟨S1, _, hF.sub _ (by kernel_rfl), (Mem.start hM0.bd hM0.bdF hM0.dj), hs⟩ fun s1 q1 fr w1i hI h hr1 => ?_)) fun fr w1o hM => ?_)
 · obtain ⟨S2, F1, hF, hM1, hs⟩ := hI
   have ra0 := ra0.mem hM1
   refine wp_seq ?_
   refine wp_seq (wp_pure [(0, L a1 p0 c1), (3, L a2 x1 c2), (4, I s1.1), (11, .bool (decide (s1.1 < (len p0))))] hF (by kernel_rfl) fun fr hF => then_normal ?_)
   refine (wp_if hF (b := (decide (s1.1 < (len p0)))) rfl (fun hb => ?_) (fun hb => ?_))
   · replace h := iteT hb h
     refine (wp_skip (then_normal ?_))
     refine wp_seq (wp_block ?_)
     refine (wp_text' ?_)
     refine from_pure 4 [(0, L a1 p0 c1), (3, L a2 x1 c2), (4, I s1.1), (14, L a2 x1 c2), (15, I s1.1), (16, L a1 p0 c1), (17, I s1.1)] hF (by kernel_rfl) fun fr hF => ?_
     obtain ⟨x2, hx2, h⟩ := bindE h
     refine s_elemF (z := x2) (.agg #[I x2.A, I x2.B]) ty137 Try.underlying43 rfl rfl rfl rfl rfl hF rfl (ra0) rfl (get?_nn hx2) (get?_at hx2) rfl fun p fr hF => ?_
     obtain ⟨x3, hx3, h⟩ := bindE h
     refine s_call [.agg #[I x2.A, I x2.B]] Try.call114 rfl rfl hF rfl (laws_toGate_ok x2 hx3) fun v w2 fr hRes hF => ?_
     obtain ⟨rfl, hc⟩ := hRes
     have ra0 := ra0.ext hc
     have hs := hs.ext hc
     have hM1 := hM1.ext hc
     obtain ⟨x4, hx4, h⟩ := bindE h
     refine q_set (q := x3) 0 hs hM1 rfl Try.underlying51 ty103 rfl rfl rfl rfl hF rfl rfl (by simp) rfl rfl hx4 fun w3 S4 fr _ hs hp hF => ?_
     have ra0 := ra0.stp hM1 hp
     have hM1 := hM1.stp hp
     have hs : Sep [sl103 (L a2 x1 c2) x4] w3 S4 := hs
     refine from_end rfl ?_
     refine blk_normal (then_normal ?_)
     refine (wp_pure [(0, L a1 p0 c1), (3, L a2 x1 c2), (4, I (w64 (s1.1 + 1)))] hF (by kernel_rfl) fun fr hF => then_normal ?_)
     exact ⟨_, (Option.some.inj h).symm, S4, _, hF.sub _ (by kernel_rfl), hM1, hs⟩
   replace h := iteF hb h
   refine (wp_exit (then_exit (then_exit (blk_exit_eq ?_))))
   obtain rfl := hr1 _ (Option.some.inj h).symm
   exact then_normal ⟨S2, _, hF.sub _ (by kernel_rfl), hM1, hs⟩
 · obtain ⟨S3, F2, hF, hMx, hs⟩ := hM
   have hM0 := hM0.trans hMx
   refine wp_seq (wp_pure [(2, L a2 x1 c2)] hF (by kernel_rfl) fun fr hF => then_normal ?_)
   obtain rfl := Option.some.inj h
   obtain ⟨he1, hs⟩ := hs.relen 0 rfl
   have hs : Sep [sl103 (L a2 rl1 c2) rl1] w1o S3 := hs
   exact wp_ret (ret1 rfl hF rfl ⟨_, rfl, a2, c2, (by simp only [L, he1]), S3, hM0.out, hs⟩)

theorem laws_toCircuit_ok (n : Nat) (p0 : D.Circuit) {r : D.Circuit} (h : laws_toCircuit n p0 = some r) {w : World} {G0 : Nat → Prop} {va0 : Value} (ra0 : RV w G0 va0 p0) :
   Calls Try.prog 31 [va0].toArray w fun e w' => ∃ v, e = .returned v ∧ ∃ a1 c1, v = .agg #[I r.Inputs, L a1 r.Gates c1] ∧ ∃ S', Stp w Non w' S' ∧ Sep [sl103 (L a1 r.Gates c1) r.Gates] w' S' := by
 unfold laws_toCircuit at h
 have hs := Sep.nil w Non
 have hM0 : Mem w Non (fun k => (G0 k) ∧ k < w.heap.size) w Non (fun k => (G0 k) ∧ k < w.heap.size) := Mem.start (fun _ h => h.elim) (fun _ h => h.2) (fun _ h => h.elim)
 have ra0 := ra0.sub (F' := (fun k => (G0 k) ∧ k < w.heap.size)) (fun k hk h => ⟨h, hk⟩)
 obtain ⟨v1, rfl, r1⟩ := RV.Circuit ra0
 obtain ⟨a1, c1, rfl, -⟩ := r1.slice
 refine enter (N := 12) Try.func31 rfl Try.ntmps31 rfl fun fr hF => ?_
 refine wp_seq (wp_text' ?_)
 refine q_box hs hM0 [I p0.Inputs, L a1 p0.Gates c1] rfl rfl hF rfl rfl fun b1 w1 S1 fr hs hp hF => ?_
 have r1 := r1.stp hM0 hp
 have hM0 := hM0.stp hp
 have hs : Sep [BX b1 45 [I p0.Inputs, L a1 p0.Gates c1]] w1 S1 := hs
 refine q_alloc (z := .agg #[I 0, L none ([] : List D.Gate) 0]) hs hM0 [I 0, L none ([] : List D.Gate) 0] rfl rfl hF (by kernel_rfl) rfl fun b2 w2 S2 fr hs hp hF => ?_
 have r1 := r1.stp hM0 hp
 have hM0 := hM0.stp hp
 have hs : Sep [BX b2 53 [I 0, L none ([] : List D.Gate) 0], BX b1 45 [I p0.Inputs, L a1 p0.Gates c1]] w2 S2 := hs
 refine from_end rfl (then_normal ?_)
 refine wp_seq (wp_text' ?_)
 refine q_alloc (z := .agg #[I 0, L none ([] : List D.Gate) 0]) hs hM0 [I 0, L none ([] : List D.Gate) 0] rfl rfl hF (by kernel_rfl) rfl fun b3 w3 S3 fr hs hp hF => ?_
 have r1 := r1.stp hM0 hp
 have hM0 := hM0.stp hp
 have hs : Sep [BX b3 53 [I 0, L none ([] : List D.Gate) 0], BX b2 53 [I 0, L none ([] : List D.Gate) 0], BX b1 45 [I p0.Inputs, L a1 p0.Gates c1]] w3 S3 := hs
 refine from_end rfl (then_normal ?_)
 refine wp_seq (wp_text' ?_)
 refine from_pure 1 [(1, B b1 0), (2, B b2 0), (3, B b3 0), (4, B b1 0)] hF (by kernel_rfl) fun fr hF => ?_
 refine s_loadBox (I p0.Inputs) ty3 rfl rfl hF rfl (hs.bx 2 rfl) rfl rfl fun fr hF => ?_
 refine from_pure 1 [(1, B b1 0), (2, B b2 0), (3, B b3 0), (5, I p0.Inputs), (6, B b3 0)] hF (by kernel_rfl) fun fr hF => ?_
 refine q_storeBox 0 hs hM0 rfl [I p0.Inputs, L none ([] : List D.Gate) 0] rfl hF rfl rfl (by kernel_rfl) rfl rfl rfl fun w4 S4 hs hp hF => ?_
 have r1 := r1.stp hM0 hp
 have hM0 := hM0.stp hp
 have hs : Sep [BX b3 53 [I p0.Inputs, L none ([] : List D.Gate) 0], BX b2 53 [I 0, L none ([] : List D.Gate) 0], BX b1 45 [I p0.Inputs, L a1 p0.Gates c1]] w4 S4 := hs
 refine from_end rfl (then_normal ?_)
 refine wp_seq (wp_text' ?_)
 refine from_pure 1 [(2, B b2 0), (3, B b3 0), (7, B b1 1)] hF (by kernel_rfl) fun fr hF => ?_
 refine s_loadBox (L a1 p0.Gates c1) ty43 rfl rfl hF rfl (hs.bx 2 rfl) rfl rfl fun fr hF => ?_
 have hs : Sep [BX b3 53 [I p0.Inputs, L none ([] : List D.Gate) 0], BX b2 53 [I 0, L none ([] : List D.Gate) 0]] w4 S4 := Sep.pick [0, 1] hs (by decide) rfl
 obtain ⟨x1, hx1, h⟩ := bindE h
 refine s_call [L a1 p0.Gates c1] Try.call71 rfl rfl hF rfl (laws_toGateS_ok n p0.Gates hx1 (r1)) fun v w5 fr hRes hF => ?_
 obtain ⟨a2, c2, rfl, _, hp, hs2⟩ := hRes
 obtain ⟨S5, hp, hs⟩ := hs.got hM0 hp hs2
 have r1 := r1.stp hM0 hp
 have hM0 := hM0.stp hp
 have hs : Sep [sl103 (L a2 x1 c2) x1, BX b3 53 [I p0.Inputs, L none ([] : List D.Gate) 0], BX b2 53 [I 0, L none ([] : List D.Gate) 0]] w5 S5 := hs
 refine from_pure 1 [(2, B b2 0), (3, B b3 0), (9, L a2 x1 c2), (10, B b3 1)] hF (by kernel_rfl) fun fr hF => ?_
 refine q_storeBox 1 hs hM0 rfl [I p0.Inputs, L a2 x1 c2] rfl hF rfl rfl (by kernel_rfl) rfl rfl rfl fun w6 S6 hs hp hF => ?_
 have hM0 := hM0.stp hp
 have hs : Sep [sl103 (L a2 x1 c2) x1, BX b3 53 [I p0.Inputs, L a2 x1 c2], BX b2 53 [I 0, L none ([] : List D.Gate) 0]] w6 S6 := hs
 refine from_end rfl (then_normal ?_)
 refine wp_seq (wp_text' ?_)
 refine s_loadBoxS ty53 rfl rfl hF rfl (hs.bx 1 rfl) rfl rfl fun fr hF => ?_
 have hs : Sep [sl103 (L a2 x1 c2) x1, BX b2 53 [I 0, L none ([] : List D.Gate) 0]] w6 S6 := Sep.pick [0, 2] hs (by decide) rfl
 refine q_storeBoxS 1 hs hM0 rfl [I p0.Inputs, L a2 x1 c2] rfl hF rfl rfl (by kernel_rfl) rfl rfl rfl fun w7 S7 hs hp hF => ?_
 have hM0 := hM0.stp hp
 have hs : Sep [sl103 (L a2 x1 c2) x1, BX b2 53 [I p0.Inputs, L a2 x1 c2]] w7 S7 := hs
 refine from_end rfl (then_normal ?_)
 have hbr := (hs.bx 1 rfl)
 obtain rfl := Option.some.inj h
 have hs : Sep [sl103 (L a2 x1 c2) x1] w7 S7 := Sep.pick [0] hs (by decide) rfl
 exact wp_ret (retS rfl hF ty53 rfl rfl hbr rfl ⟨_, rfl, a2, c2, rfl, S7, hM0.out, hs⟩)

theorem spec_l01In_ok (p0 : Int) (p1 : Int) (p2 : Int) {r : Bool} (h : spec_l01In p0 p1 p2 = some r) {w : World} :
   Calls Try.prog 58 [I p0, I p1, I p2].toArray w fun e w' => ∃ v, e = .returned v ∧ v = .bool r ∧ Chg Non w w' := by
 unfold spec_l01In at h
 have hs := Sep.nil w Non
 have hM0 : Mem w Non (fun k => (False) ∧ k < w.heap.size) w Non (fun k => (False) ∧ k < w.heap.size) := Mem.start (fun _ h => h.elim) (fun _ h => h.2) (fun _ h => h.elim)
 refine enter (N := 15) Try.func58 rfl Try.ntmps58 rfl fun fr hF => ?_
 refine wp_seq (wp_pure [(0, I p0), (1, I p1), (2, I p2)] hF (by kernel_rfl) fun fr hF => then_normal ?_)
 refine wp_seq (region_b [] [true, true, true, true, true, true, true, true, true]
     [.eq (I p0), .eq (I p1), .eq (.bool (decide (p0 ≥ p1))), .eq (.bool (decide (p0 ≥ p1))), .eq (I p0), .eq (I p2), .eq (.bool (decide (p0 ≤ p2))), .eq (.bool ((decide (p0 ≥ p1)) && (decide (p0 ≤ p2)))), .eq (.bool ((decide (p0 ≥ p1)) && (decide (p0 ≤ p2))))]
     [(6, .bool ((decide (p0 ≥ p1)) && (decide (p0 ≤ p2))))] mix hF (by kernel_rfl) (by kernel_rfl) (by kernel_rfl) trivial (fun hG => trivial) (by kernel_rfl) fun fr w1 hF hE hc => then_normal ?_)
 have hs := hs.ext hc
 have hM0 := hM0.ext hc
 obtain rfl := Option.some.inj h
 exact wp_ret (ret1 rfl hF rfl ⟨_, rfl, rfl, hM0.chg⟩)

theorem spec_l03Abs_ok (p0 : Int) {r : Int} (h : spec_l03Abs p0 = some r) {w : World} :
   Calls Try.prog 112 [I p0].toArray w fun e w' => ∃ v, e = .returned v ∧ v = I r ∧ Chg Non w w' := by
 unfold spec_l03Abs at h
 have hs := Sep.nil w Non
 have hM0 : Mem w Non (fun k => (False) ∧ k < w.heap.size) w Non (fun k => (False) ∧ k < w.heap.size) := Mem.start (fun _ h => h.elim) (fun _ h => h.2) (fun _ h => h.elim)
 refine enter (N := 8) Try.func112 rfl Try.ntmps112 rfl fun fr hF => ?_
 refine wp_seq (wp_pure [(0, I p0)] hF (by kernel_rfl) fun fr hF => then_normal ?_)
 refine wp_seq ?_
 refine wp_seq (wp_pure [(0, I p0), (4, .bool (decide (p0 < 0)))] hF (by kernel_rfl) fun fr hF => then_normal ?_)
 refine (wp_if hF (b := (decide (p0 < 0))) rfl (fun hb => ?_) (fun hb => ?_))
 · replace h := iteT hb h
   refine wp_seq (wp_pure [(2, I (w64 (0 - p0)))] hF (by kernel_rfl) fun fr hF => then_normal ?_)
   obtain rfl := Option.some.inj h
   exact wp_ret (then_ret (ret1 rfl hF rfl ⟨_, rfl, rfl, hM0.chg⟩))
 replace h := iteF hb h
 refine (wp_skip (then_normal ?_))
 refine wp_seq (wp_pure [(2, I p0)] hF (by kernel_rfl) fun fr hF => then_normal ?_)
 obtain rfl := Option.some.inj h
 exact wp_ret (ret1 rfl hF rfl ⟨_, rfl, rfl, hM0.chg⟩)

theorem spec_CircuitOk_ok (n : Nat) (p0 : D.Circuit) {r : Bool} (h : spec_CircuitOk n p0 = some r) {w : World} {G0 : Nat → Prop} {va0 : Value} (ra0 : RV w G0 va0 p0) :
   Calls Try.prog 68 [va0].toArray w fun e w' => ∃ v, e = .returned v ∧ v = .bool r ∧ Chg Non w w' := by
 unfold spec_CircuitOk at h
 have hs := Sep.nil w Non
 have hM0 : Mem w Non (fun k => (G0 k) ∧ k < w.heap.size) w Non (fun k => (G0 k) ∧ k < w.heap.size) := Mem.start (fun _ h => h.elim) (fun _ h => h.2) (fun _ h => h.elim)
 have ra0 := ra0.sub (F' := (fun k => (G0 k) ∧ k < w.heap.size)) (fun k hk h => ⟨h, hk⟩)
 obtain ⟨v1, rfl, r1⟩ := RV.Circuit ra0
 obtain ⟨a1, c1, rfl, -⟩ := r1.slice
 refine enter (N := 76) Try.func68 rfl Try.ntmps68 rfl fun fr hF => ?_
 refine wp_seq (wp_text' ?_)
 refine q_box hs hM0 [I p0.Inputs, L a1 p0.Gates c1] rfl rfl hF rfl rfl fun b1 w1 S1 fr hs hp hF => ?_
 have r1 := r1.stp hM0 hp
 have hM0 := hM0.stp hp
 have hs : Sep [BX b1 53 [I p0.Inputs, L a1 p0.Gates c1]] w1 S1 := hs
 refine from_pure 1 [(1, B b1 0)] hF (by kernel_rfl) fun fr hF => ?_
 refine from_end rfl (then_normal ?_)
 refine wp_seq ?_
 obtain ⟨x1, hx1, h⟩ := bindE h
 refine wp_seq (region_b [] [true, false, false, true, true, true, false, true, true, true]
     [.eq (B b1 0), .eq (I p0.Inputs), .eq (.bool x1), .eq (.bool (!x1)), .eq (.bool (!x1)), .eq (B b1 1), .eq (L a1 p0.Gates c1), .eq (I (len p0.Gates)), .eq (.bool (decide ((len p0.Gates) > 360))), .eq (.bool ((!x1) || (decide ((len p0.Gates) > 360))))]
     [(1, B b1 0), (17, .bool ((!x1) || (decide ((len p0.Gates) > 360))))] mix hF (by kernel_rfl) (by kernel_rfl) (by kernel_rfl) ⟨Pd.mono_eq, Pd.mono_eq, Pd.mono_eq, trivial⟩ (fun hG => ⟨np_loadBox hG hF ty3 rfl rfl (hs.bx 0 rfl) rfl rfl rfl, np_call [I p0.Inputs, I 0, I 30] hG hF Try.call58 rfl rfl (fun w hC hg => (spec_l01In_ok p0.Inputs 0 30 hx1).mono fun e w' ⟨v, he, hv, hc⟩ => ⟨v, he, hc, hv⟩), np_loadBox hG hF ty51 rfl rfl (hs.bx 0 rfl) rfl rfl rfl, trivial⟩) (by kernel_rfl) fun fr w2 hF hE hc => then_normal ?_)
 have r1 := r1.ext hc
 have hs := hs.ext hc
 have hM0 := hM0.ext hc
 refine (wp_if hF (b := ((!x1) || (decide ((len p0.Gates) > 360)))) rfl (fun hb => ?_) (fun hb => ?_))
 · replace h := iteT hb h
   have hs : Sep [] w2 S1 := Sep.pick [] hs (by decide) rfl
   refine wp_seq (wp_pure [(2, .bool false)] hF (by kernel_rfl) fun fr hF => then_normal ?_)
   obtain rfl := Option.some.inj h
   exact wp_ret (then_ret (ret1 rfl hF rfl ⟨_, rfl, rfl, hM0.chg⟩))
 replace h := iteF hb h
 refine (wp_skip (then_normal ?_))
 refine wp_seq ?_
 refine wp_seq (wp_text' ?_)
 refine from_pure 1 [(1, B b1 0), (18, B b1 1)] hF (by kernel_rfl) fun fr hF => ?_
 refine s_loadBox (L a1 p0.Gates c1) ty51 rfl rfl hF rfl (hs.bx 0 rfl) rfl rfl fun fr hF => ?_
 refine from_pure 2 [(1, B b1 0), (19, L a1 p0.Gates c1), (20, I (len p0.Gates)), (21, I 0)] hF (by kernel_rfl) fun fr hF => ?_
 refine from_end rfl (then_normal ?_)
 obtain ⟨rl1, hit1, h⟩ := bindE h
 have hk1 := h
 refine (wp_cut (M := fun fr w' => ∃ s, rl1 = .inl s ∧ ∃ S3 F2, FrS 76 [] fr ∧ Mem w2 S1 (fun k => (G0 k) ∧ k < w.heap.size) w' S3 F2 ∧ Sep [] w' S3) (wp_block (wp_iter (Inv := fun s1 fr w' => ∃ S2 F1, FrS 76 [(1, B b1 0), (19, L a1 p0.Gates c1), (20, I (len p0.Gates)), (21, I s1)] fr ∧ Mem w2 S1 (fun k => (G0 k) ∧ k < w.heap.size) w' S2 F1 ∧ Sep [BX b1 53 [I p0.Inputs, L a1 p0.Gates c1]] w' S2) hit1 ⟨S1, _, hF.sub _ (by kernel_rfl), (Mem.start hM0.bd hM0.bdF hM0.dj), hs⟩ fun s1 q1 fr w1i hI h hr1 => ?_)) fun fr w1o hM => ?_)
 · obtain ⟨S2, F1, hF, hM1, hs⟩ := hI
   have r1 := r1.mem hM1
   refine wp_seq (wp_pure [(1, B b1 0), (19, L a1 p0.Gates c1), (20, I (len p0.Gates)), (21, I s1), (22, .bool (decide (s1 < (len p0.Gates))))] hF (by kernel_rfl) fun fr hF => then_normal ?_)
   refine wp_seq (wp_if hF (b := (decide (s1 < (len p0.Gates)))) rfl (fun hb => ?_) (fun hb => ?_))
   · replace h := iteT hb h
     refine (wp_skip (then_normal ?_))
     refine wp_seq (wp_block ?_)
     refine wp_seq (wp_text' ?_)
     refine from_pure 1 [(1, B b1 0), (19, L a1 p0.Gates c1), (20, I (len p0.Gates)), (21, I s1), (23, I s1)] hF (by kernel_rfl) fun fr hF => ?_
     obtain ⟨x2, hx2, h⟩ := bindE h
     refine s_elemF (z := x2) (.agg #[I x2.A, I x2.B]) ty103 Try.underlying51 rfl rfl rfl rfl rfl hF rfl (r1) rfl (get?_nn hx2) (get?_at hx2) rfl fun p fr hF => ?_
     refine q_alloc (z := .agg #[I 0, I 0]) hs hM1 [I 0, I 0] rfl rfl hF (by kernel_rfl) rfl fun b2 w3 S4 fr hs hp hF => ?_
     have r1 := r1.stp hM1 hp
     have hM1 := hM1.stp hp
     have hs : Sep [BX b2 103 [I 0, I 0], BX b1 53 [I p0.Inputs, L a1 p0.Gates c1]] w3 S4 := hs
     refine from_pure 1 [(1, B b1 0), (3, I s1), (4, B b2 0), (19, L a1 p0.Gates c1), (20, I (len p0.Gates)), (21, I s1), (25, .agg #[I x2.A, I x2.B])] hF (by kernel_rfl) fun fr hF => ?_
     refine q_storeBoxS 0 hs hM1 rfl [I x2.A, I x2.B] rfl hF rfl rfl (by kernel_rfl) rfl rfl rfl fun w4 S5 hs hp hF => ?_
     have r1 := r1.stp hM1 hp
     have hM1 := hM1.stp hp
     have hs : Sep [BX b2 103 [I x2.A, I x2.B], BX b1 53 [I p0.Inputs, L a1 p0.Gates c1]] w4 S5 := hs
     refine from_end rfl (then_normal ?_)
     refine wp_seq (wp_text' ?_)
     refine from_pure 1 [(1, B b1 0), (3, I s1), (4, B b2 0), (19, L a1 p0.Gates c1), (20, I (len p0.Gates)), (21, I s1), (26, B b1 0)] hF (by kernel_rfl) fun fr hF => ?_
     refine s_loadBox (I p0.Inputs) ty3 rfl rfl hF rfl (hs.bx 1 rfl) rfl rfl fun fr hF => ?_
     refine from_pure 4 [(1, B b1 0), (3, I s1), (4, B b2 0), (5, I (w64 ((w64 (p0.Inputs + 1)) + s1))), (19, L a1 p0.Gates c1), (20, I (len p0.Gates)), (21, I s1)] hF (by kernel_rfl) fun fr hF => ?_
     refine from_end rfl (then_normal ?_)
     refine wp_seq ?_
     obtain ⟨x3, hx3, h⟩ := bindE h
     obtain ⟨x4, hx4, h⟩ := bindE h
     obtain ⟨x5, hx5, h⟩ := bindE h
     obtain ⟨x6, hx6, h⟩ := bindE h
     obtain ⟨x7, hx7, h⟩ := bindE h
     refine wp_seq (region_bm 31 [0, 1, 0, 4, 0, 31, 63, 127, 255, 511, 255, 1279, 255, 8191, 16383, 32767, 65535, 131071, 262143, 524287, 1048575, 2097151, 4194303, 8388607, 16777215, 33554431, 8388607, 75497471, 268435455, 536870911, 1073741823] [true, false, true, true, true, false, true, true, true, false, true, true, true, false, true, true, true, true, false, false, true, true, true, true, false, false, true, false, false, true, true]
         (.eq (B b2 0) :: .eq (I x2.A) :: .eq (I (w64 ((w64 (p0.Inputs + 1)) + s1))) :: .eq (I (w64 (0 - (w64 ((w64 (p0.Inputs + 1)) + s1))))) :: .eq (I (w64 ((w64 (p0.Inputs + 1)) + s1))) :: .eq (.bool x3) :: .eq (.bool (!x3)) :: .eq (.bool (!x3)) :: .eq (B b2 1) :: .eq (I x2.B) :: .eq (I (w64 ((w64 (p0.Inputs + 1)) + s1))) :: .eq (I (w64 (0 - (w64 ((w64 (p0.Inputs + 1)) + s1))))) :: .eq (I (w64 ((w64 (p0.Inputs + 1)) + s1))) :: .eq (.bool x4) :: .eq (.bool (!x4)) :: .eq (.bool ((!x3) || (!x4))) :: .eq (.bool ((!x3) || (!x4))) :: .eq (B b2 0) :: .eq (I x2.A) :: .eq (I x5) :: .eq (.bool (decide (x5 < 2))) :: .eq (.bool (((!x3) || (!x4)) || (decide (x5 < 2)))) :: .eq (.bool (((!x3) || (!x4)) || (decide (x5 < 2)))) :: .eq (B b2 0) :: .eq (I x2.A) :: .eq (I x6) :: .eq (B b2 1) :: .eq (I x2.B) :: .eq (I x7) :: .eq (.bool (decide (x6 ≥ x7))) :: .eq (.bool ((((!x3) || (!x4)) || (decide (x5 < 2))) || (decide (x6 ≥ x7)))) :: [])
         [(1, B b1 0), (3, I s1), (4, B b2 0), (19, L a1 p0.Gates c1), (20, I (len p0.Gates)), (21, I s1), (61, .bool ((((!x3) || (!x4)) || (decide (x5 < 2))) || (decide (x6 ≥ x7))))] mix hF (by kernel_rfl) (by kernel_rfl) (by kernel_rfl) (by kernel_rfl) ⟨Pd.monoO_eq, Pd.monoO_eq, Pd.monoO_eq, Pd.monoO_eq, Pd.monoO_eq, Pd.monoO_eq, Pd.monoO_eq, Pd.monoO_eq, Pd.monoO_eq, Pd.monoO_eq, trivial⟩ (fun ow hG => ⟨np_to ow (np_loadBox hG hF ty3 rfl rfl (hs.bx 0 rfl) rfl rfl rfl), np_to ow (np_call [I x2.A, I (w64 (0 - (w64 ((w64 (p0.Inputs + 1)) + s1)))), I (w64 ((w64 (p0.Inputs + 1)) + s1))] hG hF Try.call58 rfl rfl (fun w hC hg => (spec_l01In_ok x2.A (w64 (0 - (w64 ((w64 (p0.Inputs + 1)) + s1)))) (w64 ((w64 (p0.Inputs + 1)) + s1)) hx3).mono fun e w' ⟨v, he, hv, hc⟩ => ⟨v, he, hc, hv⟩)), np_to ow (np_loadBox hG hF ty3 rfl rfl (hs.bx 0 rfl) rfl rfl rfl), np_to ow (np_call [I x2.B, I (w64 (0 - (w64 ((w64 (p0.Inputs + 1)) + s1)))), I (w64 ((w64 (p0.Inputs + 1)) + s1))] hG hF Try.call58 rfl rfl (fun w hC hg => (spec_l01In_ok x2.B (w64 (0 - (w64 ((w64 (p0.Inputs + 1)) + s1)))) (w64 ((w64 (p0.Inputs + 1)) + s1)) (iteF hg.2 hx4)).mono fun e w' ⟨v, he, hv, hc⟩ => ⟨v, he, hc, hv⟩)), np_to ow (np_loadBox hG hF ty3 rfl rfl (hs.bx 0 rfl) rfl rfl rfl), np_to ow (np_call [I x2.A] hG hF Try.call112 rfl rfl (fun w hC hg => (spec_l03Abs_ok x2.A (iteF hg.2 hx5)).mono fun e w' ⟨v, he, hv, hc⟩ => ⟨v, he, hc, hv⟩)), np_to ow (np_loadBox hG hF ty3 rfl rfl (hs.bx 0 rfl) rfl rfl rfl), np_to ow (np_call [I x2.A] hG hF Try.call112 rfl rfl (fun w hC hg => (spec_l03Abs_ok x2.A (iteF hg.2 hx6)).mono fun e w' ⟨v, he, hv, hc⟩ => ⟨v, he, hc, hv⟩)), np_to ow (np_loadBox hG hF ty3 rfl rfl (hs.bx 0 rfl) rfl rfl rfl), np_to ow (np_call [I x2.B] hG hF Try.call112 rfl rfl (fun w hC hg => (spec_l03Abs_ok x2.B (iteF hg.2 hx7)).mono fun e w' ⟨v, he, hv, hc⟩ => ⟨v, he, hc, hv⟩)), trivial⟩) (by kernel_rfl) fun ow fr w5 hF hE hc => ?_)
     have r1 := r1.ext hc
     have hs := hs.ext hc
     have hM1 := hM1.ext hc
     refine from_end rfl (then_normal ?_)
     refine (wp_if hF (b := ((((!x3) || (!x4)) || (decide (x5 < 2))) || (decide (x6 ≥ x7)))) rfl (fun hb => ?_) (fun hb => ?_))
     · replace h := iteT hb h
       have hs : Sep [] w5 S5 := Sep.pick [] hs (by decide) rfl
       refine wp_seq (wp_pure [(2, .bool false)] hF (by kernel_rfl) fun fr hF => then_normal ?_)
       obtain rfl := hr1 _ (Option.some.inj h).symm
       obtain rfl := Option.some.inj hk1
       exact wp_ret (then_ret (blk_ret (then_ret (then_ret (blk_ret (then_ret (ret1 rfl hF rfl ⟨_, rfl, rfl, (hM0.trans hM1).chg⟩)))))))
     replace h := iteF hb h
     refine (wp_skip (then_normal ?_))
     refine wp_seq (wp_text' ?_)
     refine from_pure 1 [(1, B b1 0), (3, I s1), (4, B b2 0), (19, L a1 p0.Gates c1), (20, I (len p0.Gates)), (21, I s1), (62, B b1 1)] hF (by kernel_rfl) fun fr hF => ?_
     refine s_loadBox (L a1 p0.Gates c1) ty51 rfl rfl hF rfl (hs.bx 1 rfl) rfl rfl fun fr hF => ?_
     refine from_pure 1 [(1, B b1 0), (4, B b2 0), (19, L a1 p0.Gates c1), (20, I (len p0.Gates)), (21, I s1), (63, L a1 p0.Gates c1), (64, I s1)] hF (by kernel_rfl) fun fr hF => ?_
     obtain ⟨x8, hx8, h⟩ := bindE h
     refine s_slice ty103 Try.underlying51 rfl rfl hF rfl (r1) rfl ⟨_, rfl⟩ hx8 fun v2 fr r2 hF => ?_
     obtain ⟨a2, c2, rfl, -⟩ := r2.slice
     refine from_pure 2 [(1, B b1 0), (4, B b2 0), (19, L a1 p0.Gates c1), (20, I (len p0.Gates)), (21, I s1), (65, L a2 x8 c2), (66, I (len x8)), (67, I 0)] hF (by kernel_rfl) fun fr hF => ?_
     refine from_end rfl (then_normal ?_)
     obtain ⟨rl2, hit2, h⟩ := bindE h
     have hk2 := h
     refine (wp_cut' (M := fun fr w' => ∃ s, rl2 = .inl s ∧ ∃ S7 F4, FrS 76 [(1, B b1 0), (19, L a1 p0.Gates c1), (20, I (len p0.Gates)), (21, I s1)] fr ∧ Mem w5 S5 F1 w' S7 F4 ∧ Sep [BX b1 53 [I p0.Inputs, L a1 p0.Gates c1]] w' S7) (wp_block (wp_iter (Inv := fun s2 fr w' => ∃ S6 F3, FrS 76 [(1, B b1 0), (4, B b2 0), (19, L a1 p0.Gates c1), (20, I (len p0.Gates)), (21, I s1), (65, L a2 x8 c2), (66, I (len x8)), (67, I s2)] fr ∧ Mem w5 S5 F1 w' S6 F3 ∧ Sep [BX b2 103 [I x2.A, I x2.B], BX b1 53 [I p0.Inputs, L a1 p0.Gates c1]] w' S6) hit2 ⟨S5, _, hF.sub _ (by kernel_rfl), (Mem.start hM1.bd hM1.bdF hM1.dj), hs⟩ fun s2 q2 fr w2i hI h hr2 => ?_)) fun fr w2o hM => ?_)
     · obtain ⟨S6, F3, hF, hM2, hs⟩ := hI
       have r1 := r1.mem hM2
       have r2 := r2.mem hM2
       refine wp_seq (wp_pure [(1, B b1 0), (4, B b2 0), (19, L a1 p0.Gates c1), (20, I (len p0.Gates)), (21, I s1), (65, L a2 x8 c2), (66, I (len x8)), (67, I s2), (68, .bool (decide (s2 < (len x8))))] hF (by kernel_rfl) fun fr hF => then_normal ?_)
       refine wp_seq (wp_if hF (b := (decide (s2 < (len x8)))) rfl (fun hb => ?_) (fun hb => ?_))
       · replace h := iteT hb h
         refine (wp_skip (then_normal ?_))
         refine wp_seq (wp_block ?_)
         refine wp_seq (wp_text' ?_)
         obtain ⟨x9, hx9, h⟩ := bindE h
         refine s_elemF (z := x9) (.agg #[I x9.A, I x9.B]) ty103 Try.underlying51 rfl rfl rfl rfl rfl hF rfl (r2) rfl (get?_nn hx9) (get?_at hx9) rfl fun p fr hF => ?_
         refine q_alloc (z := .agg #[I 0, I 0]) hs hM2 [I 0, I 0] rfl rfl hF (by kernel_rfl) rfl fun b3 w6 S8 fr hs hp hF => ?_
         have r1 := r1.stp hM2 hp
         have r2 := r2.stp hM2 hp
         have hM2 := hM2.stp hp
         have hs : Sep [BX b3 103 [I 0, I 0], BX b2 103 [I x2.A, I x2.B], BX b1 53 [I p0.Inputs, L a1 p0.Gates c1]] w6 S8 := hs
         refine q_storeBoxS 0 hs hM2 rfl [I x9.A, I x9.B] rfl hF rfl rfl (by kernel_rfl) rfl rfl rfl fun w7 S9 hs hp hF => ?_
         have r1 := r1.stp hM2 hp
         have r2 := r2.stp hM2 hp
         have hM2 := hM2.stp hp
         have hs : Sep [BX b3 103 [I x9.A, I x9.B], BX b2 103 [I x2.A, I x2.B], BX b1 53 [I p0.Inputs, L a1 p0.Gates c1]] w7 S9 := hs
         refine from_end rfl (then_normal ?_)
         refine wp_seq (wp_text' ?_)
         refine s_loadBoxS ty103 rfl rfl hF rfl (hs.bx 1 rfl) rfl rfl fun fr hF => ?_
         refine s_loadBoxS ty103 rfl rfl hF rfl (hs.bx 0 rfl) rfl rfl fun fr hF => ?_
         have hs : Sep [BX b2 103 [I x2.A, I x2.B], BX b1 53 [I p0.Inputs, L a1 p0.Gates c1]] w7 S9 := Sep.pick [1, 2] hs (by decide) rfl
         refine s_bin rfl rfl hF rfl rfl (eqg103 _ _ _ _ _) (eq103 x2 x9 _) fun fr hF => ?_
         refine from_end rfl (then_normal ?_)
         refine (wp_if hF (b := (decide (x2 = x9))) rfl (fun hb => ?_) (fun hb => ?_))
         · replace h := iteT hb h
           have hs : Sep [] w7 S9 := Sep.pick [] hs (by decide) rfl
           refine wp_seq (wp_pure [(2, .bool false)] hF (by kernel_rfl) fun fr hF => then_normal ?_)
           obtain rfl := hr2 _ (Option.some.inj h).symm
           obtain rfl := hr1 _ (Option.some.inj hk2).symm
           obtain rfl := Option.some.inj hk1
           exact wp_ret (blk_ret (then_ret (then_ret (blk_ret (then_ret (blk_ret (then_ret (then_ret (blk_ret (then_ret (ret1 rfl hF rfl ⟨_, rfl, rfl, ((hM0.trans hM1).trans hM2).chg⟩)))))))))))
         replace h := iteF hb h
         refine (wp_skip ?_)
         refine blk_normal (then_normal ?_)
         refine (wp_pure [(1, B b1 0), (4, B b2 0), (19, L a1 p0.Gates c1), (20, I (len p0.Gates)), (21, I s1), (65, L a2 x8 c2), (66, I (len x8)), (67, I (w64 (s2 + 1)))] hF (by kernel_rfl) fun fr hF => then_normal ?_)
         exact ⟨_, (Option.some.inj h).symm, S9, _, hF.sub _ (by kernel_rfl), hM2, hs⟩
       replace h := iteF hb h
       have hs : Sep [BX b1 53 [I p0.Inputs, L a1 p0.Gates c1]] w2i S6 := Sep.pick [1] hs (by decide) rfl
       refine (wp_exit (then_exit (then_exit (blk_exit_eq ?_))))
       obtain rfl := hr2 _ (Option.some.inj h).symm
       exact then_normal ⟨_, rfl, S6, _, hF.sub _ (by kernel_rfl), hM2, hs⟩
     · obtain ⟨s2r, rfl, hM⟩ := hM
       obtain ⟨S7, F4, hF, hMx, hs⟩ := hM
       have r1 := r1.mem hMx
       have hM1 := hM1.trans hMx
       refine blk_normal (then_normal ?_)
       refine (wp_pure [(1, B b1 0), (19, L a1 p0.Gates c1), (20, I (len p0.Gates)), (21, I (w64 (s1 + 1)))] hF (by kernel_rfl) fun fr hF => then_normal ?_)
       exact ⟨_, (Option.some.inj h).symm, S7, _, hF.sub _ (by kernel_rfl), hM1, hs⟩
   replace h := iteF hb h
   have hs : Sep [] w1i S2 := Sep.pick [] hs (by decide) rfl
   refine (wp_exit (then_exit (then_exit (blk_exit_eq ?_))))
   obtain rfl := hr1 _ (Option.some.inj h).symm
   exact then_normal ⟨_, rfl, S2, _, hF.sub _ (by kernel_rfl), hM1, hs⟩
 · obtain ⟨s1r, rfl, hM⟩ := hM
   obtain ⟨S3, F2, hF, hMx, hs⟩ := hM
   have hM0 := hM0.trans hMx
   refine wp_seq (wp_pure [(2, .bool true)] hF (by kernel_rfl) fun fr hF => then_normal ?_)
   obtain rfl := Option.some.inj h
   exact wp_ret (ret1 rfl hF rfl ⟨_, rfl, rfl, hM0.chg⟩)

theorem spec_l03Lits_ok (n : Nat) (p0 : List Int) (p1 : Int) {r : Bool} (h : spec_l03Lits n p0 p1 = some r) {w : World} {G0 : Nat → Prop} {va0 : Value} (ra0 : RV w G0 va0 p0) :
   Calls Try.prog 113 [va0, I p1].toArray w fun e w' => ∃ v, e = .returned v ∧ v = .bool r ∧ Chg Non w w' := by
 unfold spec_l03Lits at h
 have hs := Sep.nil w Non
 have hM0 : Mem w Non (fun k => (G0 k) ∧ k < w.heap.size) w Non (fun k => (G0 k) ∧ k < w.heap.size) := Mem.start (fun _ h => h.elim) (fun _ h => h.2) (fun _ h => h.elim)
 have ra0 := ra0.sub (F' := (fun k => (G0 k) ∧ k < w.heap.size)) (fun k hk h => ⟨h, hk⟩)
 obtain ⟨a1, c1, rfl, -⟩ := ra0.slice
 refine enter (N := 24) Try.func113 rfl Try.ntmps113 rfl fun fr hF => ?_
 refine wp_seq (wp_pure [(0, L a1 p0 c1), (1, I p1)] hF (by kernel_rfl) fun fr hF => then_normal ?_)
 refine wp_seq ?_
 refine wp_seq (wp_pure [(1, I p1), (7, L a1 p0 c1), (8, I (len p0)), (9, I 0)] hF (by kernel_rfl) fun fr hF => then_normal ?_)
 obtain ⟨rl1, hit1, h⟩ := bindE h
 have hk1 := h
 refine (wp_cut (M := fun fr w' => ∃ s, rl1 = .inl s ∧ ∃ S2 F2, FrS 24 [] fr ∧ Mem w Non (fun k => (G0 k) ∧ k < w.heap.size) w' S2 F2 ∧ Sep [] w' S2) (wp_block (wp_iter (Inv := fun s1 fr w' => ∃ S1 F1, FrS 24 [(1, I p1), (7, L a1 p0 c1), (8, I (len p0)), (9, I s1)] fr ∧ Mem w Non (fun k => (G0 k) ∧ k < w.heap.size) w' S1 F1 ∧ Sep [] w' S1) hit1 ⟨Non, _, hF.sub _ (by kernel_rfl), (Mem.start hM0.bd hM0.bdF hM0.dj), hs⟩ fun s1 q1 fr w1i hI h hr1 => ?_)) fun fr w1o hM => ?_)
 · obtain ⟨S1, F1, hF, hM1, hs⟩ := hI
   have ra0 := ra0.mem hM1
   refine wp_seq (wp_pure [(1, I p1), (7, L a1 p0 c1), (8, I (len p0)), (9, I s1), (10, .bool (decide (s1 < (len p0))))] hF (by kernel_rfl) fun fr hF => then_normal ?_)
   refine wp_seq (wp_if hF (b := (decide (s1 < (len p0)))) rfl (fun hb => ?_) (fun hb => ?_))
   · replace h := iteT hb h
     refine (wp_skip (then_normal ?_))
     refine wp_seq (wp_block ?_)
     refine wp_seq (wp_text' ?_)
     obtain ⟨x1, hx1, h⟩ := bindE h
     refine s_elemF (z := x1) (I x1) ty3 Try.underlying26 rfl rfl rfl rfl rfl hF rfl (ra0) rfl (get?_nn hx1) (get?_at hx1) rfl fun p fr hF => ?_
     refine from_pure 1 [(1, I p1), (6, I x1), (7, L a1 p0 c1), (8, I (len p0)), (9, I s1)] hF (by kernel_rfl) fun fr hF => ?_
     refine from_end rfl (then_normal ?_)
     obtain ⟨x2, hx2, h⟩ := bindE h
     refine wp_seq (region_b [] [true, true, true, true, true, true, true, false, true, true]
         [.eq (I x1), .eq (.bool (x1 == 0)), .eq (.bool (x1 == 0)), .eq (I x1), .eq (I p1), .eq (I (w64 (0 - p1))), .eq (I p1), .eq (.bool x2), .eq (.bool (!x2)), .eq (.bool ((x1 == 0) || (!x2)))]
         [(1, I p1), (7, L a1 p0 c1), (8, I (len p0)), (9, I s1), (22, .bool ((x1 == 0) || (!x2)))] mix hF (by kernel_rfl) (by kernel_rfl) (by kernel_rfl) ⟨Pd.mono_eq, trivial⟩ (fun hG => ⟨np_call [I x1, I (w64 (0 - p1)), I p1] hG hF Try.call58 rfl rfl (fun w hC hg => (spec_l01In_ok x1 (w64 (0 - p1)) p1 (iteF hg.2 hx2)).mono fun e w' ⟨v, he, hv, hc⟩ => ⟨v, he, hc, hv⟩), trivial⟩) (by kernel_rfl) fun fr w1 hF hE hc => then_normal ?_)
     have ra0 := ra0.ext hc
     have hs := hs.ext hc
     have hM1 := hM1.ext hc
     refine (wp_if hF (b := ((x1 == 0) || (!x2))) rfl (fun hb => ?_) (fun hb => ?_))
     · replace h := iteT hb h
       refine wp_seq (wp_pure [(4, .bool false)] hF (by kernel_rfl) fun fr hF => then_normal ?_)
       obtain rfl := hr1 _ (Option.some.inj h).symm
       obtain rfl := Option.some.inj hk1
       exact wp_ret (blk_ret (then_ret (then_ret (blk_ret (then_ret (ret1 rfl hF rfl ⟨_, rfl, rfl, (hM0.trans hM1).chg⟩))))))
     replace h := iteF hb h
     refine (wp_skip ?_)
     refine blk_normal (then_normal ?_)
     refine (wp_pure [(1, I p1), (7, L a1 p0 c1), (8, I (len p0)), (9, I (w64 (s1 + 1)))] hF (by kernel_rfl) fun fr hF => then_normal ?_)
     exact ⟨_, (Option.some.inj h).symm, S1, _, hF.sub _ (by kernel_rfl), hM1, hs⟩
   replace h := iteF hb h
   refine (wp_exit (then_exit (then_exit (blk_exit_eq ?_))))
   obtain rfl := hr1 _ (Option.some.inj h).symm
   exact then_normal ⟨_, rfl, S1, _, hF.sub _ (by kernel_rfl), hM1, hs⟩
 · obtain ⟨s1r, rfl, hM⟩ := hM
   obtain ⟨S2, F2, hF, hMx, hs⟩ := hM
   have hM0 := hM0.trans hMx
   refine wp_seq (wp_pure [(4, .bool true)] hF (by kernel_rfl) fun fr hF => then_normal ?_)
   obtain rfl := Option.some.inj h
   exact wp_ret (ret1 rfl hF rfl ⟨_, rfl, rfl, hM0.chg⟩)

theorem spec_l04Lits_ok (n : Nat) (p0 : D.Circuit) (p1 : List Int) {r : Bool} (h : spec_l04Lits n p0 p1 = some r) {w : World} {G0 : Nat → Prop} {va0 : Value} (ra0 : RV w G0 va0 p0) {G1 : Nat → Prop} {va1 : Value} (ra1 : RV w G1 va1 p1) :
   Calls Try.prog 69 [va0, va1].toArray w fun e w' => ∃ v, e = .returned v ∧ v = .bool r ∧ Chg Non w w' := by
 unfold spec_l04Lits at h
 have hs := Sep.nil w Non
 have hM0 : Mem w Non (fun k => (G0 k ∨ G1 k) ∧ k < w.heap.size) w Non (fun k => (G0 k ∨ G1 k) ∧ k < w.heap.size) := Mem.start (fun _ h => h.elim) (fun _ h => h.2) (fun _ h => h.elim)
 have ra0 := ra0.sub (F' := (fun k => (G0 k ∨ G1 k) ∧ k < w.heap.size)) (fun k hk h => ⟨.inl h, hk⟩)
 obtain ⟨v1, rfl, r1⟩ := RV.Circuit ra0
 obtain ⟨a1, c1, rfl, -⟩ := r1.slice
 have ra1 := ra1.sub (F' := (fun k => (G0 k ∨ G1 k) ∧ k < w.heap.size)) (fun k hk h => ⟨.inr (h), hk⟩)
 obtain ⟨a2, c2, rfl, -⟩ := ra1.slice
 refine enter (N := 14) Try.func69 rfl Try.ntmps69 rfl fun fr hF => ?_
 refine wp_seq (wp_text' ?_)
 refine q_box hs hM0 [I p0.Inputs, L a1 p0.Gates c1] rfl rfl hF rfl rfl fun b1 w1 S1 fr hs hp hF => ?_
 have r1 := r1.stp hM0 hp
 have ra1 := ra1.stp hM0 hp
 have hM0 := hM0.stp hp
 have hs : Sep [BX b1 53 [I p0.Inputs, L a1 p0.Gates c1]] w1 S1 := hs
 refine from_pure 1 [(1, L a2 p1 c2), (2, B b1 0)] hF (by kernel_rfl) fun fr hF => ?_
 refine from_end rfl (then_normal ?_)
 refine wp_seq (wp_text' ?_)
 refine from_pure 2 [(2, B b1 0), (5, L a2 p1 c2), (6, B b1 0)] hF (by kernel_rfl) fun fr hF => ?_
 refine s_loadBox (I p0.Inputs) ty3 rfl rfl hF rfl (hs.bx 0 rfl) rfl rfl fun fr hF => ?_
 refine from_pure 2 [(5, L a2 p1 c2), (8, I (w64 (p0.Inputs + 1))), (9, B b1 1)] hF (by kernel_rfl) fun fr hF => ?_
 refine s_loadBox (L a1 p0.Gates c1) ty51 rfl rfl hF rfl (hs.bx 0 rfl) rfl rfl fun fr hF => ?_
 have hs : Sep [] w1 S1 := Sep.pick [] hs (by decide) rfl
 refine from_pure 2 [(5, L a2 p1 c2), (12, I (w64 ((w64 (p0.Inputs + 1)) + (len p0.Gates))))] hF (by kernel_rfl) fun fr hF => ?_
 obtain ⟨x1, hx1, h⟩ := bindE h
 refine s_call [L a2 p1 c2, I (w64 ((w64 (p0.Inputs + 1)) + (len p0.Gates)))] Try.call113 rfl rfl hF rfl (spec_l03Lits_ok n p1 (w64 ((w64 (p0.Inputs + 1)) + (len p0.Gates))) hx1 (ra1)) fun v w2 fr hRes hF => ?_
 obtain ⟨rfl, hc⟩ := hRes
 have ra1 := ra1.ext hc
 have hs := hs.ext hc
 have hM0 := hM0.ext hc
 refine from_pure 1 [(4, .bool x1)] hF (by kernel_rfl) fun fr hF => ?_
 refine from_end rfl (then_normal ?_)
 obtain rfl := Option.some.inj h
 exact wp_ret (ret1 rfl hF rfl ⟨_, rfl, rfl, hM0.chg⟩)

theorem spec_MakeClause_ok (n : Nat) (p0 : List Int) {r : (List Int) × Bool} (h : spec_MakeClause n p0 = some r) {w : World} {G0 : Nat → Prop} {va0 : Value} (ra0 : RV w G0 va0 p0) :
   Calls Try.prog 70 [va0].toArray w fun e w' => ∃ v, e = .returned v ∧ ∃ a1 c1, v = .tuple #[L a1 r.1 c1, .bool r.2] ∧ ∃ S', Stp w Non w' S' ∧ Sep [sl3 (L a1 r.1 c1) r.1] w' S' := by
 unfold spec_MakeClause at h
 have hs := Sep.nil w Non
 have hM0 : Mem w Non (fun k => (G0 k) ∧ k < w.heap.size) w Non (fun k => (G0 k) ∧ k < w.heap.size) := Mem.start (fun _ h => h.elim) (fun _ h => h.2) (fun _ h => h.elim)
 have ra0 := ra0.sub (F' := (fun k => (G0 k) ∧ k < w.heap.size)) (fun k hk h => ⟨h, hk⟩)
 obtain ⟨a1, c1, rfl, -⟩ := ra0.slice
 refine enter (N := 80) Try.func70 rfl Try.ntmps70 rfl fun fr hF => ?_
 refine wp_seq (wp_pure [(0, L a1 p0 c1)] hF (by kernel_rfl) fun fr hF => then_normal ?_)
 refine wp_seq (wp_text' ?_)
 refine q_lit (E := 3) hs hM0 [] (([] : List Int).map Flat.enc) ([] : List Int) rfl rfl hF [] rfl (fun w => by kernel_rfl) (css_flat _) rfl rfl rfl fun a2 c2 w1 S1 fr hs hp hF => ?_
 have ra0 := ra0.stp hM0 hp
 have hM0 := hM0.stp hp
 have hs : Sep [sl3 (L a2 ([] : List Int) c2) ([] : List Int)] w1 S1 := hs
 refine from_pure 1 [(0, L a1 p0 c1), (4, L a2 ([] : List Int) c2)] hF (by kernel_rfl) fun fr hF => ?_
 refine from_end rfl (then_normal ?_)
 refine wp_seq ?_
 refine wp_seq (wp_pure [(4, L a2 ([] : List Int) c2), (10, L a1 p0 c1), (11, I (len p0)), (12, I 0)] hF (by kernel_rfl) fun fr hF => then_normal ?_)
 obtain ⟨rl1, hit1, h⟩ := bindE h
 have hk1 := h
 refine (wp_cut (M := fun fr w' => ∃ s, rl1 = .inl s ∧ ∃ a4 c4 S3 F2, FrS 80 [(4, L a4 s c4)] fr ∧ Mem w1 S1 (fun k => (G0 k) ∧ k < w.heap.size) w' S3 F2 ∧ Sep [sl3 (L a4 s c4) s] w' S3) (wp_block (wp_iter (Inv := fun s1 fr w' => ∃ a3 c3 S2 F1, FrS 80 [(4, L a3 s1.2 c3), (10, L a1 p0 c1), (11, I (len p0)), (12, I s1.1)] fr ∧ Mem w1 S1 (fun k => (G0 k) ∧ k < w.heap.size) w' S2 F1 ∧ Sep [sl3 (L a3 s1.2 c3) s1.2] w' S2) hit1 ⟨a2, c2, S1, _, hF.sub _ (by kernel_rfl), (Mem.start hM0.bd hM0.bdF hM0.dj), hs⟩ fun s1 q1 fr w1i hI h hr1 => ?_)) fun fr w1o hM => ?_)
 · obtain ⟨a3, c3, S2, F1, hF, hM1, hs⟩ := hI
   have ra0 := ra0.mem hM1
   refine wp_seq (wp_pure [(4, L a3 s1.2 c3), (10, L a1 p0 c1), (11, I (len p0)), (12, I s1.1), (13, .bool (decide (s1.1 < (len p0))))] hF (by kernel_rfl) fun fr hF => then_normal ?_)
   refine wp_seq (wp_if hF (b := (decide (s1.1 < (len p0)))) rfl (fun hb => ?_) (fun hb => ?_))
   · replace h := iteT hb h
     refine (wp_skip (then_normal ?_))
     refine wp_seq (wp_block ?_)
     refine wp_seq (wp_text' ?_)
     obtain ⟨x1, hx1, h⟩ := bindE h
     refine s_elemF (z := x1) (I x1) ty3 Try.underlying26 rfl rfl rfl rfl rfl hF rfl (ra0) rfl (get?_nn hx1) (get?_at hx1) rfl fun p fr hF => ?_
     refine from_pure 1 [(4, L a3 s1.2 c3), (6, I x1), (10, L a1 p0 c1), (11, I (len p0)), (12, I s1.1)] hF (by kernel_rfl) fun fr hF => ?_
     refine from_end rfl (then_normal ?_)
     refine wp_seq ?_
     obtain ⟨x2, hx2, h⟩ := bindE h
     refine wp_seq (region_b [] [true, true, true, true, false, true, true]
         [.eq (I x1), .eq (.bool (x1 == 0)), .eq (.bool (x1 == 0)), .eq (I x1), .eq (.bool x2), .eq (.bool (!x2)), .eq (.bool ((x1 == 0) || (!x2)))]
         [(4, L a3 s1.2 c3), (6, I x1), (10, L a1 p0 c1), (11, I (len p0)), (12, I s1.1), (22, .bool ((x1 == 0) || (!x2)))] mix hF (by kernel_rfl) (by kernel_rfl) (by kernel_rfl) ⟨Pd.mono_eq, trivial⟩ (fun hG => ⟨np_call [I x1, I (-400), I 400] hG hF Try.call58 rfl rfl (fun w hC hg => (spec_l01In_ok x1 (-400) 400 (iteF hg.2 hx2)).mono fun e w' ⟨v, he, hv, hc⟩ => ⟨v, he, hc, hv⟩), trivial⟩) (by kernel_rfl) fun fr w2 hF hE hc => then_normal ?_)
     have ra0 := ra0.ext hc
     have hs := hs.ext hc
     have hM1 := hM1.ext hc
     refine (wp_if hF (b := ((x1 == 0) || (!x2))) rfl (fun hb => ?_) (fun hb => ?_))
     · replace h := iteT hb h
       have hs : Sep [] w2 S2 := Sep.pick [] hs (by decide) rfl
       refine wp_seq (wp_pure [(2, L none ([] : List Int) 0), (3, .bool false)] hF (by kernel_rfl) fun fr hF => then_normal ?_)
       have hrets := fun {σ : List (Nat × Value)} (h : σ = [(2, L none ([] : List Int) 0), (3, .bool false)]) => (by subst h; exact (Rets.tmp rfl (Rets.tmp rfl Rets.nil)) : Rets Try.prog σ w2 [.tmp 2, .tmp 3] [L none ([] : List Int) 0, .bool false])
       have hs : Sep [sl3 (L none ([] : List Int) 0) ([] : List Int)] w2 S2 := hs.cons_nil (α := Int) 3
       obtain rfl := hr1 _ (Option.some.inj h).symm
       obtain rfl := Option.some.inj hk1
       exact wp_ret (then_ret (blk_ret (then_ret (then_ret (blk_ret (then_ret (retG (rs := [.tmp 2, .tmp 3]) rfl (hF.sub [(2, L none ([] : List Int) 0), (3, .bool false)] (by kernel_rfl)) (hrets rfl) rfl ⟨_, rfl, none, 0, rfl, S2, (hM0.trans hM1).out, hs⟩)))))))
     replace h := iteF hb h
     refine (wp_skip (then_normal ?_))
     refine wp_seq (wp_pure [(4, L a3 s1.2 c3), (6, I x1), (7, I 0), (10, L a1 p0 c1), (11, I (len p0)), (12, I s1.1)] hF (by kernel_rfl) fun fr hF => then_normal ?_)
     obtain ⟨rl2, hit2, h⟩ := bindE h
     have hk2 := h
     refine wp_seq (wp_cut (M := fun fr w' => ∃ S5 F4, FrS 80 [(4, L a3 s1.2 c3), (6, I x1), (7, I rl2), (10, L a1 p0 c1), (11, I (len p0)), (12, I s1.1)] fr ∧ Mem w2 S2 F1 w' S5 F4 ∧ Sep [sl3 (L a3 s1.2 c3) s1.2] w' S5) (wp_block (wp_iter (Inv := fun s2 fr w' => ∃ S4 F3, FrS 80 [(4, L a3 s1.2 c3), (6, I x1), (7, I s2), (10, L a1 p0 c1), (11, I (len p0)), (12, I s1.1)] fr ∧ Mem w2 S2 F1 w' S4 F3 ∧ Sep [sl3 (L a3 s1.2 c3) s1.2] w' S4) hit2 ⟨S2, _, hF.sub _ (by kernel_rfl), (Mem.start hM1.bd hM1.bdF hM1.dj), hs⟩ fun s2 q2 fr w2i hI h hr2 => ?_)) fun fr w2o hM => ?_)
     · obtain ⟨S4, F3, hF, hM2, hs⟩ := hI
       have ra0 := ra0.mem hM2
       refine wp_seq ?_
       obtain ⟨x3, hx3, h⟩ := bindE h
       obtain ⟨x4, hx4, h⟩ := bindE h
       obtain ⟨x5, hx5, h⟩ := bindE h
       refine wp_seq (region_b [] [true, true, true, true, true, true, true, false, false, false, true, false, true, true]
           [.eq (I s2), .eq (L a3 s1.2 c3), .eq (I (len s1.2)), .eq (.bool (decide (s2 < (len s1.2)))), .eq (.bool (decide (s2 < (len s1.2)))), .eq (L a3 s1.2 c3), .eq (I s2), .is fun v w => ElemP w (fun k => k < w2i.heap.size) v (x3 : Int), .eq (I x3), .eq (I x4), .eq (I x1), .eq (I x5), .eq (.bool (decide (x4 < x5))), .eq (.bool ((decide (s2 < (len s1.2))) && (decide (x4 < x5))))]
           [(4, L a3 s1.2 c3), (6, I x1), (7, I s2), (10, L a1 p0 c1), (11, I (len p0)), (12, I s1.1), (36, .bool ((decide (s2 < (len s1.2))) && (decide (x4 < x5))))] mix hF (by kernel_rfl) (by kernel_rfl) (by kernel_rfl) ⟨mono_elem, Pd.mono_eq, Pd.mono_eq, Pd.mono_eq, trivial⟩ (fun hG => ⟨np_index hG hF ty3 Try.underlying26 rfl rfl (RV.sub (hs.rv 0 rfl) fun k hk _ => hk) rfl rfl (fun hg => ⟨get?_nn (iteT hg.2 hx3), get?_at (iteT hg.2 hx3)⟩), np_loadF (z := x3) (i := 7) hG hF ty3 rfl rfl rfl rfl rfl rfl rfl, np_call [I x3] hG hF Try.call112 rfl rfl (fun w hC hg => (spec_l03Abs_ok x3 (iteT hg.2 hx4)).mono fun e w' ⟨v, he, hv, hc⟩ => ⟨v, he, hc, hv⟩), np_call [I x1] hG hF Try.call112 rfl rfl (fun w hC hg => (spec_l03Abs_ok x1 (iteT hg.2 hx5)).mono fun e w' ⟨v, he, hv, hc⟩ => ⟨v, he, hc, hv⟩), trivial⟩) (by kernel_rfl) fun fr w3 hF hE hc => then_normal ?_)
       have ra0 := ra0.ext hc
       have hs := hs.ext hc
       have hM2 := hM2.ext hc
       refine (wp_if hF (b := ((decide (s2 < (len s1.2))) && (decide (x4 < x5)))) rfl (fun hb => ?_) (fun hb => ?_))
       · replace h := iteT hb h
         refine (wp_skip (then_normal ?_))
         refine (wp_block ?_)
         refine (wp_pure [(4, L a3 s1.2 c3), (6, I x1), (7, I (w64 (s2 + 1))), (10, L a1 p0 c1), (11, I (len p0)), (12, I s1.1)] hF (by kernel_rfl) fun fr hF => ?_)
         refine blk_normal (then_normal ?_)
         exact ⟨_, (Option.some.inj h).symm, S4, _, hF.sub _ (by kernel_rfl), hM2, hs⟩
       replace h := iteF hb h
       refine (wp_exit (then_exit (then_exit (blk_exit_eq ?_))))
       obtain rfl := hr2 _ (Option.some.inj h).symm
       exact then_normal ⟨S4, _, hF.sub _ (by kernel_rfl), hM2, hs⟩
     · obtain ⟨S5, F4, hF, hMx, hs⟩ := hM
       have ra0 := ra0.mem hMx
       have hM1 := hM1.trans hMx
       refine wp_seq ?_
       obtain ⟨x6, hx6, h⟩ := bindE h
       refine wp_seq (region_b [] [true, true, true, true, true, true, true, false, false, true, true, true]
           [.eq (I rl2), .eq (L a3 s1.2 c3), .eq (I (len s1.2)), .eq (.bool (decide (rl2 < (len s1.2)))), .eq (.bool (decide (rl2 < (len s1.2)))), .eq (L a3 s1.2 c3), .eq (I rl2), .is fun v w => ElemP w (fun k => k < w2o.heap.size) v (x6 : Int), .eq (I x6), .eq (I x1), .eq (.bool (x6 == x1)), .eq (.bool ((decide (rl2 < (len s1.2))) && (x6 == x1)))]
           [(4, L a3 s1.2 c3), (6, I x1), (7, I rl2), (10, L a1 p0 c1), (11, I (len p0)), (12, I s1.1), (50, .bool ((decide (rl2 < (len s1.2))) && (x6 == x1)))] mix hF (by kernel_rfl) (by kernel_rfl) (by kernel_rfl) ⟨mono_elem, Pd.mono_eq, trivial⟩ (fun hG => ⟨np_index hG hF ty3 Try.underlying26 rfl rfl (RV.sub (hs.rv 0 rfl) fun k hk _ => hk) rfl rfl (fun hg => ⟨get?_nn (iteT hg.2 hx6), get?_at (iteT hg.2 hx6)⟩), np_loadF (z := x6) (i := 7) hG hF ty3 rfl rfl rfl rfl rfl rfl rfl, trivial⟩) (by kernel_rfl) fun fr w4 hF hE hc => then_normal ?_)
       have ra0 := ra0.ext hc
       have hs := hs.ext hc
       have hM1 := hM1.ext hc
       refine (wp_if hF (b := ((decide (rl2 < (len s1.2))) && (x6 == x1))) rfl (fun hb => ?_) (fun hb => ?_))
       · replace h := iteT hb h
         refine (wp_exit (then_exit (blk_exit_eq ?_)))
         refine then_normal ?_
         refine (wp_pure [(4, L a3 s1.2 c3), (10, L a1 p0 c1), (11, I (len p0)), (12, I (w64 (s1.1 + 1)))] hF (by kernel_rfl) fun fr hF => then_normal ?_)
         exact ⟨_, (Option.some.inj h).symm, a3, c3, S5, _, hF.sub _ (by kernel_rfl), hM1, hs⟩
       replace h := iteF hb h
       refine (wp_skip (then_normal ?_))
       refine wp_seq ?_
       obtain ⟨x7, hx7, h⟩ := bindE h
       refine wp_seq (region_b [] [true, true, true, true, true, true, true, false, false, true, true, true, true]
           [.eq (I rl2), .eq (L a3 s1.2 c3), .eq (I (len s1.2)), .eq (.bool (decide (rl2 < (len s1.2)))), .eq (.bool (decide (rl2 < (len s1.2)))), .eq (L a3 s1.2 c3), .eq (I rl2), .is fun v w => ElemP w (fun k => k < w4.heap.size) v (x7 : Int), .eq (I x7), .eq (I x1), .eq (I (w64 (0 - x1))), .eq (.bool (x7 == (w64 (0 - x1)))), .eq (.bool ((decide (rl2 < (len s1.2))) && (x7 == (w64 (0 - x1)))))]
           [(4, L a3 s1.2 c3), (6, I x1), (7, I rl2), (10, L a1 p0 c1), (11, I (len p0)), (12, I s1.1), (63, .bool ((decide (rl2 < (len s1.2))) && (x7 == (w64 (0 - x1)))))] mix hF (by kernel_rfl) (by kernel_rfl) (by kernel_rfl) ⟨mono_elem, Pd.mono_eq, trivial⟩ (fun hG => ⟨np_index hG hF ty3 Try.underlying26 rfl rfl (RV.sub (hs.rv 0 rfl) fun k hk _ => hk) rfl rfl (fun hg => ⟨get?_nn (iteT hg.2 hx7), get?_at (iteT hg.2 hx7)⟩), np_loadF (z := x7) (i := 7) hG hF ty3 rfl rfl rfl rfl rfl rfl rfl, trivial⟩) (by kernel_rfl) fun fr w5 hF hE hc => then_normal ?_)
       have ra0 := ra0.ext hc
       have hs := hs.ext hc
       have hM1 := hM1.ext hc
       refine (wp_if hF (b := ((decide (rl2 < (len s1.2))) && (x7 == (w64 (0 - x1))))) rfl (fun hb => ?_) (fun hb => ?_))
       · replace h := iteT hb h
         have hs : Sep [] w5 S5 := Sep.pick [] hs (by decide) rfl
         refine wp_seq (wp_pure [(2, L none ([] : List Int) 0), (3, .bool false)] hF (by kernel_rfl) fun fr hF => then_normal ?_)
         have hrets := fun {σ : List (Nat × Value)} (h : σ = [(2, L none ([] : List Int) 0), (3, .bool false)]) => (by subst h; exact (Rets.tmp rfl (Rets.tmp rfl Rets.nil)) : Rets Try.prog σ w5 [.tmp 2, .tmp 3] [L none ([] : List Int) 0, .bool false])
         have hs : Sep [sl3 (L none ([] : List Int) 0) ([] : List Int)] w5 S5 := hs.cons_nil (α := Int) 3
         obtain rfl := hr1 _ (Option.some.inj h).symm
         obtain rfl := Option.some.inj hk1
         exact wp_ret (then_ret (blk_ret (then_ret (then_ret (blk_ret (then_ret (retG (rs := [.tmp 2, .tmp 3]) rfl (hF.sub [(2, L none ([] : List Int) 0), (3, .bool false)] (by kernel_rfl)) (hrets rfl) rfl ⟨_, rfl, none, 0, rfl, S5, (hM0.trans hM1).out, hs⟩)))))))
       replace h := iteF hb h
       refine (wp_skip (then_normal ?_))
       refine wp_seq (wp_text' ?_)
       refine q_lit (E := 3) hs hM1 [] (([] : List Int).map Flat.enc) ([] : List Int) rfl rfl hF [] rfl (fun w => by kernel_rfl) (css_flat _) rfl rfl rfl fun a5 c5 w6 S6 fr hs hp hF => ?_
       have ra0 := ra0.stp hM1 hp
       have hM1 := hM1.stp hp
       have hs : Sep [sl3 (L a5 ([] : List Int) c5) ([] : List Int), sl3 (L a3 s1.2 c3) s1.2] w6 S6 := hs
       refine from_pure 2 [(4, L a3 s1.2 c3), (6, I x1), (7, I rl2), (10, L a1 p0 c1), (11, I (len p0)), (12, I s1.1), (64, L a5 ([] : List Int) c5), (65, L a3 s1.2 c3), (66, I rl2)] hF (by kernel_rfl) fun fr hF => ?_
       obtain ⟨x8, hx8, h⟩ := bindE h
       refine s_view ty3 Try.underlying26 rfl rfl hF rfl (hs.rv 1 rfl) rfl ⟨_, rfl⟩ hx8 fun a6 c6 fr hv1 hle1 hF => ?_
       obtain ⟨x9, hx9, h⟩ := bindE h
       refine q_append 0 hs hM1 rfl Try.underlying26 el3 rfl rfl rfl hF rfl rfl (view_rv (hs.rv 1 rfl) hv1 (by have h1 := (hs.relen 1 rfl).1; omega)) hx9 fun a7 c7 w7 S7 fr hs hp hF => ?_
       have ra0 := ra0.stp hM1 hp
       have hM1 := hM1.stp hp
       have hs : Sep [sl3 (L a7 x9 c7) x9, sl3 (L a3 s1.2 c3) s1.2] w7 S7 := hs
       refine from_pure 1 [(4, L a3 s1.2 c3), (6, I x1), (7, I rl2), (8, L a7 x9 c7), (10, L a1 p0 c1), (11, I (len p0)), (12, I s1.1)] hF (by kernel_rfl) fun fr hF => ?_
       refine from_end rfl (then_normal ?_)
       refine wp_seq (wp_text' ?_)
       refine from_pure 2 [(4, L a3 s1.2 c3), (7, I rl2), (10, L a1 p0 c1), (11, I (len p0)), (12, I s1.1), (69, L a7 x9 c7), (70, I x1)] hF (by kernel_rfl) fun fr hF => ?_
       refine q_lit (E := 3) hs hM1 [I x1] (([x1] : List Int).map Flat.enc) ([x1] : List Int) rfl rfl hF [I x1] rfl (fun w => by kernel_rfl) (css_flat _) rfl rfl rfl fun a8 c8 w8 S8 fr hs hp hF => ?_
       have ra0 := ra0.stp hM1 hp
       have hM1 := hM1.stp hp
       have hs : Sep [sl3 (L a8 ([x1] : List Int) c8) ([x1] : List Int), sl3 (L a7 x9 c7) x9, sl3 (L a3 s1.2 c3) s1.2] w8 S8 := hs
       obtain ⟨x10, hx10, h⟩ := bindE h
       refine q_append 1 hs hM1 rfl Try.underlying26 el3 rfl rfl rfl hF rfl rfl (hs.rv 0 rfl) hx10 fun a9 c9 w9 S9 fr hs hp hF => ?_
       have ra0 := ra0.stp hM1 hp
       have hM1 := hM1.stp hp
       have hs : Sep [sl3 (L a8 ([x1] : List Int) c8) ([x1] : List Int), sl3 (L a9 x10 c9) x10, sl3 (L a3 s1.2 c3) s1.2] w9 S9 := hs
       have hs : Sep [sl3 (L a9 x10 c9) x10, sl3 (L a3 s1.2 c3) s1.2] w9 S9 := Sep.pick [1, 2] hs (by decide) rfl
       refine from_pure 1 [(4, L a3 s1.2 c3), (7, I rl2), (8, L a9 x10 c9), (10, L a1 p0 c1), (11, I (len p0)), (12, I s1.1)] hF (by kernel_rfl) fun fr hF => ?_
       refine from_end rfl (then_normal ?_)
       refine (wp_text' ?_)
       refine from_pure 3 [(10, L a1 p0 c1), (11, I (len p0)), (12, I s1.1), (73, L a9 x10 c9), (74, L a3 s1.2 c3), (75, I rl2)] hF (by kernel_rfl) fun fr hF => ?_
       obtain ⟨x11, hx11, h⟩ := bindE h
       refine s_view ty3 Try.underlying26 rfl rfl hF rfl (hs.rv 1 rfl) ⟨_, rfl⟩ rfl hx11 fun a10 c10 fr hv2 hle2 hF => ?_
       obtain ⟨x12, hx12, h⟩ := bindE h
       refine q_append 0 hs hM1 rfl Try.underlying26 el3 rfl rfl rfl hF rfl rfl (view_rv (hs.rv 1 rfl) hv2 (by have h1 := (hs.relen 1 rfl).1; omega)) hx12 fun a11 c11 w10 S10 fr hs hp hF => ?_
       have ra0 := ra0.stp hM1 hp
       have hM1 := hM1.stp hp
       have hs : Sep [sl3 (L a11 x12 c11) x12, sl3 (L a3 s1.2 c3) s1.2] w10 S10 := hs
       have hs : Sep [sl3 (L a11 x12 c11) x12] w10 S10 := Sep.pick [0] hs (by decide) rfl
       refine from_pure 1 [(4, L a11 x12 c11), (10, L a1 p0 c1), (11, I (len p0)), (12, I s1.1)] hF (by kernel_rfl) fun fr hF => ?_
       refine from_end rfl ?_
       refine blk_normal (then_normal ?_)
       refine (wp_pure [(4, L a11 x12 c11), (10, L a1 p0 c1), (11, I (len p0)), (12, I (w64 (s1.1 + 1)))] hF (by kernel_rfl) fun fr hF => then_normal ?_)
       exact ⟨_, (Option.some.inj h).symm, a11, c11, S10, _, hF.sub _ (by kernel_rfl), hM1, hs⟩
   replace h := iteF hb h
   refine (wp_exit (then_exit (then_exit (blk_exit_eq ?_))))
   obtain rfl := hr1 _ (Option.some.inj h).symm
   exact then_normal ⟨_, rfl, a3, c3, S2, _, hF.sub _ (by kernel_rfl), hM1, hs⟩
 · obtain ⟨s1r, rfl, hM⟩ := hM
   obtain ⟨a4, c4, S3, F2, hF, hMx, hs⟩ := hM
   have hM0 := hM0.trans hMx
   refine wp_seq (wp_pure [(2, L a4 s1r c4), (3, .bool true)] hF (by kernel_rfl) fun fr hF => then_normal ?_)
   have hrets := fun {σ : List (Nat × Value)} (h : σ = [(2, L a4 s1r c4), (3, .bool true)]) => (by subst h; exact (Rets.tmp rfl (Rets.tmp rfl Rets.nil)) : Rets Try.prog σ w1o [.tmp 2, .tmp 3] [L a4 s1r c4, .bool true])
   obtain rfl := Option.some.inj h
   exact wp_ret (retG (rs := [.tmp 2, .tmp 3]) rfl (hF.sub [(2, L a4 s1r c4), (3, .bool true)] (by kernel_rfl)) (hrets rfl) rfl ⟨_, rfl, a4, c4, rfl, S3, hM0.out, hs⟩)

theorem spec_FormulaOf_ok (n : Nat) (p0 : D.Circuit) (p1 : Int) {r : D.Formula × Bool} (h : spec_FormulaOf n p0 p1 = some r) {w : World} {G0 : Nat → Prop} {va0 : Value} (ra0 : RV w G0 va0 p0) :
   Calls Try.prog 30 [va0, I p1].toArray w fun e w' => ∃ v, e = .returned v ∧ ∃ a1 c1 rs2, v = .tuple #[.agg #[I r.1.Vars, L a1 r.1.Clauses c1], .bool r.2] ∧ ∃ S', Stp w Non w' S' ∧ Sep [sl26 (L a1 r.1.Clauses c1) rs2, HP.all own26 rs2 r.1.Clauses] w' S' := by
 unfold spec_FormulaOf at h
 have hs := Sep.nil w Non
 have hM0 : Mem w Non (fun k => (G0 k) ∧ k < w.heap.size) w Non (fun k => (G0 k) ∧ k < w.heap.size) := Mem.start (fun _ h => h.elim) (fun _ h => h.2) (fun _ h => h.elim)
 have ra0 := ra0.sub (F' := (fun k => (G0 k) ∧ k < w.heap.size)) (fun k hk h => ⟨h, hk⟩)
 obtain ⟨v1, rfl, r1⟩ := RV.Circuit ra0
 obtain ⟨a1, c1, rfl, -⟩ := r1.slice
 refine enter (N := 93) Try.func30 rfl Try.ntmps30 rfl fun fr hF => ?_
 refine wp_seq (wp_text' ?_)
 refine q_box hs hM0 [I p0.Inputs, L a1 p0.Gates c1] rfl rfl hF rfl rfl fun b1 w1 S1 fr hs hp hF => ?_
 have r1 := r1.stp hM0 hp
 have hM0 := hM0.stp hp
 have hs : Sep [BX b1 53 [I p0.Inputs, L a1 p0.Gates c1]] w1 S1 := hs
 refine q_alloc (z := .agg #[I 0, L none ([] : List (List Int)) 0]) hs hM0 [I 0, L none ([] : List (List Int)) 0] rfl rfl hF (by kernel_rfl) rfl fun b2 w2 S2 fr hs hp hF => ?_
 have r1 := r1.stp hM0 hp
 have hM0 := hM0.stp hp
 have hs : Sep [BX b2 48 [I 0, L none ([] : List (List Int)) 0], BX b1 53 [I p0.Inputs, L a1 p0.Gates c1]] w2 S2 := hs
 refine from_pure 1 [(1, I p1), (2, B b1 0), (4, B b2 0)] hF (by kernel_rfl) fun fr hF => ?_
 refine from_end rfl (then_normal ?_)
 refine wp_seq ?_
 obtain ⟨x1, hx1, h⟩ := bindE h
 obtain ⟨x2, hx2, h⟩ := bindE h
 refine wp_seq (region_b [] [false, false, true, true, false, true, false, false, true, true]
     [.eq (.agg #[I p0.Inputs, L a1 p0.Gates c1]), .eq (.bool x1), .eq (.bool (!x1)), .eq (.bool (!x1)), .eq (.agg #[I p0.Inputs, L a1 p0.Gates c1]), .eq (I p1), .is fun v w => RV w (fun k => k < w.heap.size) v ([p1] : List Int), .eq (.bool x2), .eq (.bool (!x2)), .eq (.bool ((!x1) || (!x2)))]
     [(1, I p1), (2, B b1 0), (4, B b2 0), (23, .bool ((!x1) || (!x2)))] mix hF (by kernel_rfl) (by kernel_rfl) (by kernel_rfl) ⟨Pd.mono_eq, Pd.mono_eq, Pd.mono_eq, mono_rvb, Pd.mono_eq, trivial⟩ (fun hG => ⟨np_loadBoxS hG hF ty53 rfl rfl (hs.bx 1 rfl) rfl rfl rfl rfl, np_call [.agg #[I p0.Inputs, L a1 p0.Gates c1]] hG hF Try.call68 rfl rfl (fun w hC hg => (spec_CircuitOk_ok n p0 hx1 ((RV.mk_Circuit p0 (r1)).ext hC)).mono fun e w' ⟨v, he, hv, hc⟩ => ⟨v, he, hc, hv⟩), np_loadBoxS hG hF ty53 rfl rfl (hs.bx 1 rfl) rfl rfl rfl rfl, np_litI (E := 3) [I p1] (([p1] : List Int).map Flat.enc) ([p1] : List Int) hG hF rfl [I p1] rfl (fun w => by kernel_rfl) (fun w => css_flat _) rfl rfl rfl rfl, np_callI [.inl (.agg #[I p0.Inputs, L a1 p0.Gates c1]), .inr 6] hG hF Try.call69 rfl rfl (by kernel_rfl) (fun w vs hC hg ha => by obtain ⟨_, rfl, vq1, _, rfl, hq1, rfl⟩ := ha; exact (spec_l04Lits_ok n p0 ([p1] : List Int) (iteF hg.2 hx2) ((RV.mk_Circuit p0 (r1)).ext hC) (show RV w (fun k => k < w.heap.size) vq1 ([p1] : List Int) from hq1)).mono fun e w' ⟨v, he, hv, hc⟩ => ⟨v, he, hc, hv⟩), trivial⟩) (by kernel_rfl) fun fr w3 hF hE hc => then_normal ?_)
 have r1 := r1.ext hc
 have hs := hs.ext hc
 have hM0 := hM0.ext hc
 refine (wp_if hF (b := ((!x1) || (!x2))) rfl (fun hb => ?_) (fun hb => ?_))
 · replace h := iteT hb h
   have hs : Sep [BX b2 48 [I 0, L none ([] : List (List Int)) 0]] w3 S2 := Sep.pick [0] hs (by decide) rfl
   refine wp_seq (wp_text' ?_)
   refine from_pure 1 [(4, B b2 0), (24, .agg #[I 0, L none ([] : List (List Int)) 0])] hF (by kernel_rfl) fun fr hF => ?_
   refine q_storeBoxS 0 hs hM0 rfl [I 0, L none ([] : List (List Int)) 0] rfl hF rfl rfl (by kernel_rfl) rfl rfl rfl fun w4 S3 hs hp hF => ?_
   have hM0 := hM0.stp hp
   have hs : Sep [BX b2 48 [I 0, L none ([] : List (List Int)) 0]] w4 S3 := hs
   refine from_pure 1 [(4, B b2 0), (5, .bool false)] hF (by kernel_rfl) fun fr hF => ?_
   refine from_end rfl (then_normal ?_)
   have hrets := fun {σ : List (Nat × Value)} (h : σ = [(4, B b2 0), (5, .bool false)]) => (by subst h; exact (Rets.cell rfl ty48 (hs.bx 0 rfl) rfl rfl (Rets.tmp rfl Rets.nil)) : Rets Try.prog σ w4 [.cell 4 48, .tmp 5] [.agg #[I 0, L none ([] : List (List Int)) 0], .bool false])
   have hs : Sep [sl26 (L none ([] : List (List Int)) 0) ([] : List Hd), HP.all own26 ([] : List Hd) ([] : List (List Int)), BX b2 48 [I 0, L none ([] : List (List Int)) 0]] w4 S3 := (hs.emp (HP.all own26 [] []) trivial).cons_nil (α := Hd) 26
   obtain rfl := Option.some.inj h
   have hs : Sep [sl26 (L none ([] : List (List Int)) 0) ([] : List Hd), HP.all own26 ([] : List Hd) ([] : List (List Int))] w4 S3 := Sep.pick [0, 1] hs (by decide) rfl
   exact wp_ret (then_ret (retG (rs := [.cell 4 48, .tmp 5]) rfl (hF.sub [(4, B b2 0), (5, .bool false)] (by kernel_rfl)) (hrets rfl) rfl ⟨_, rfl, none, 0, ([] : List Hd), rfl, S3, hM0.out, hs⟩))
 replace h := iteF hb h
 refine (wp_skip (then_normal ?_))
 refine wp_seq (wp_text' ?_)
 refine from_pure 1 [(1, I p1), (2, B b1 0), (4, B b2 0), (25, B b1 0)] hF (by kernel_rfl) fun fr hF => ?_
 refine s_loadBox (I p0.Inputs) ty3 rfl rfl hF rfl (hs.bx 1 rfl) rfl rfl fun fr hF => ?_
 refine from_pure 2 [(1, I p1), (2, B b1 0), (4, B b2 0), (27, I (w64 (p0.Inputs + 1))), (28, B b1 1)] hF (by kernel_rfl) fun fr hF => ?_
 refine s_loadBox (L a1 p0.Gates c1) ty51 rfl rfl hF rfl (hs.bx 1 rfl) rfl rfl fun fr hF => ?_
 refine from_pure 2 [(1, I p1), (2, B b1 0), (4, B b2 0), (31, I (w64 ((w64 (p0.Inputs + 1)) + (len p0.Gates))))] hF (by kernel_rfl) fun fr hF => ?_
 refine q_lit (E := 3) hs hM0 [I 1] (([1] : List Int).map Flat.enc) ([1] : List Int) rfl rfl hF [I 1] rfl (fun w => by kernel_rfl) (css_flat _) rfl rfl rfl fun a2 c2 w5 S4 fr hs hp hF => ?_
 have r1 := r1.stp hM0 hp
 have hM0 := hM0.stp hp
 have hs : Sep [sl3 (L a2 ([1] : List Int) c2) ([1] : List Int), BX b2 48 [I 0, L none ([] : List (List Int)) 0], BX b1 53 [I p0.Inputs, L a1 p0.Gates c1]] w5 S4 := hs
 refine q_lit (E := 26) hs hM0 [L a2 ([1] : List Int) c2] (([⟨a2, List.length ([1] : List Int), c2⟩] : List Hd).map Flat.enc) ([⟨a2, List.length ([1] : List Int), c2⟩] : List Hd) rfl rfl hF [L a2 ([1] : List Int) c2] rfl (fun w => by kernel_rfl) (css_flat _) rfl rfl rfl fun a3 c3 w6 S5 fr hs hp hF => ?_
 have r1 := r1.stp hM0 hp
 have hM0 := hM0.stp hp
 have hs : Sep [sl26 (L a3 ([([1] : List Int)] : List (List Int)) c3) ([⟨a2, List.length ([1] : List Int), c2⟩] : List Hd), sl3 (L a2 ([1] : List Int) c2) ([1] : List Int), BX b2 48 [I 0, L none ([] : List (List Int)) 0], BX b1 53 [I p0.Inputs, L a1 p0.Gates c1]] w6 S5 := hs
 have hs : Sep [HP.all own26 ([] : List Hd) ([] : List (List Int)), sl26 (L a3 ([([1] : List Int)] : List (List Int)) c3) ([⟨a2, List.length ([1] : List Int), c2⟩] : List Hd), sl3 (L a2 ([1] : List Int) c2) ([1] : List Int), BX b2 48 [I 0, L none ([] : List (List Int)) 0], BX b1 53 [I p0.Inputs, L a1 p0.Gates c1]] w6 S5 := hs.emp (HP.all own26 [] []) trivial
 have hs : Sep [sl3 (L a2 ([1] : List Int) c2) ([1] : List Int), HP.all own26 ([] : List Hd) ([] : List (List Int)), sl26 (L a3 ([([1] : List Int)] : List (List Int)) c3) ([⟨a2, List.length ([1] : List Int), c2⟩] : List Hd), BX b2 48 [I 0, L none ([] : List (List Int)) 0], BX b1 53 [I p0.Inputs, L a1 p0.Gates c1]] w6 S5 := Sep.pick [2, 0, 1, 3, 4] hs (by decide) rfl
 have hs : Sep [HP.all own26 ([⟨a2, List.length ([1] : List Int), c2⟩] : List Hd) ([([1] : List Int)] : List (List Int)), sl26 (L a3 ([([1] : List Int)] : List (List Int)) c3) ([⟨a2, List.length ([1] : List Int), c2⟩] : List Hd), BX b2 48 [I 0, L none ([] : List (List Int)) 0], BX b1 53 [I p0.Inputs, L a1 p0.Gates c1]] w6 S5 := Sep.merge hs (fun _ h => h)
 refine from_pure 1 [(1, I p1), (2, B b1 0), (4, B b2 0), (34, .agg #[I (w64 ((w64 (p0.Inputs + 1)) + (len p0.Gates))), L a3 ([([1] : List Int)] : List (List Int)) c3])] hF (by kernel_rfl) fun fr hF => ?_
 refine q_alloc (z := .agg #[I 0, L none ([] : List (List Int)) 0]) hs hM0 [I 0, L none ([] : List (List Int)) 0] rfl rfl hF (by kernel_rfl) rfl fun b3 w7 S6 fr hs hp hF => ?_
 have r1 := r1.stp hM0 hp
 have hM0 := hM0.stp hp
 have hs : Sep [BX b3 48 [I 0, L none ([] : List (List Int)) 0], HP.all own26 ([⟨a2, List.length ([1] : List Int), c2⟩] : List Hd) ([([1] : List Int)] : List (List Int)), sl26 (L a3 ([([1] : List Int)] : List (List Int)) c3) ([⟨a2, List.length ([1] : List Int), c2⟩] : List Hd), BX b2 48 [I 0, L none ([] : List (List Int)) 0], BX b1 53 [I p0.Inputs, L a1 p0.Gates c1]] w7 S6 := hs
 refine q_storeBoxS 0 hs hM0 rfl [I (w64 ((w64 (p0.Inputs + 1)) + (len p0.Gates))), L a3 ([([1] : List Int)] : List (List Int)) c3] rfl hF rfl rfl (by kernel_rfl) rfl rfl rfl fun w8 S7 hs hp hF => ?_
 have r1 := r1.stp hM0 hp
 have hM0 := hM0.stp hp
 have hs : Sep [BX b3 48 [I (w64 ((w64 (p0.Inputs + 1)) + (len p0.Gates))), L a3 ([([1] : List Int)] : List (List Int)) c3], HP.all own26 ([⟨a2, List.length ([1] : List Int), c2⟩] : List Hd) ([([1] : List Int)] : List (List Int)), sl26 (L a3 ([([1] : List Int)] : List (List Int)) c3) ([⟨a2, List.length ([1] : List Int), c2⟩] : List Hd), BX b2 48 [I 0, L none ([] : List (List Int)) 0], BX b1 53 [I p0.Inputs, L a1 p0.Gates c1]] w8 S7 := hs
 refine from_end rfl (then_normal ?_)
 refine wp_seq ?_
 refine wp_seq (wp_text' ?_)
 refine from_pure 1 [(1, I p1), (2, B b1 0), (4, B b2 0), (6, B b3 0), (35, B b1 1)] hF (by kernel_rfl) fun fr hF => ?_
 refine s_loadBox (L a1 p0.Gates c1) ty51 rfl rfl hF rfl (hs.bx 4 rfl) rfl rfl fun fr hF => ?_
 refine from_pure 2 [(1, I p1), (2, B b1 0), (4, B b2 0), (6, B b3 0), (36, L a1 p0.Gates c1), (37, I (len p0.Gates)), (38, I 0)] hF (by kernel_rfl) fun fr hF => ?_
 refine from_end rfl (then_normal ?_)
 obtain ⟨rl1, hit1, h⟩ := bindE h
 have hk1 := h
 refine (wp_cut (M := fun fr w' => ∃ rs2 a5 c5 S9 F2, FrS 93 [(1, I p1), (4, B b2 0), (6, B b3 0)] fr ∧ Mem w8 S7 (fun k => (G0 k) ∧ k < w.heap.size) w' S9 F2 ∧ Sep [BX b3 48 [I (w64 ((w64 (p0.Inputs + 1)) + (len p0.Gates))), L a5 rl1 c5], HP.all own26 rs2 rl1, sl26 (L a5 rl1 c5) rs2, BX b2 48 [I 0, L none ([] : List (List Int)) 0]] w' S9) (wp_block (wp_iter (Inv := fun s1 fr w' => ∃ rs1 a4 c4 S8 F1, FrS 93 [(1, I p1), (2, B b1 0), (4, B b2 0), (6, B b3 0), (36, L a1 p0.Gates c1), (37, I (len p0.Gates)), (38, I s1.1)] fr ∧ Mem w8 S7 (fun k => (G0 k) ∧ k < w.heap.size) w' S8 F1 ∧ Sep [BX b3 48 [I (w64 ((w64 (p0.Inputs + 1)) + (len p0.Gates))), L a4 s1.2 c4], HP.all own26 rs1 s1.2, sl26 (L a4 s1.2 c4) rs1, BX b2 48 [I 0, L none ([] : List (List Int)) 0], BX b1 53 [I p0.Inputs, L a1 p0.Gates c1]] w' S8) hit1 ⟨([⟨a2, List.length ([1] : List Int), c2⟩] : List Hd), a3, c3, S7, _, hF.sub _ (by kernel_rfl), (Mem.start hM0.bd hM0.bdF hM0.dj), hs⟩ fun s1 q1 fr w1i hI h hr1 => ?_)) fun fr w1o hM => ?_)
 · obtain ⟨rs1, a4, c4, S8, F1, hF, hM1, hs⟩ := hI
   have r1 := r1.mem hM1
   refine wp_seq (wp_pure [(1, I p1), (2, B b1 0), (4, B b2 0), (6, B b3 0), (36, L a1 p0.Gates c1), (37, I (len p0.Gates)), (38, I s1.1), (39, .bool (decide (s1.1 < (len p0.Gates))))] hF (by kernel_rfl) fun fr hF => then_normal ?_)
   refine wp_seq (wp_if hF (b := (decide (s1.1 < (len p0.Gates)))) rfl (fun hb => ?_) (fun hb => ?_))
   · replace h := iteT hb h
     refine (wp_skip (then_normal ?_))
     refine wp_seq (wp_block ?_)
     refine wp_seq (wp_text' ?_)
     refine from_pure 1 [(1, I p1), (2, B b1 0), (4, B b2 0), (6, B b3 0), (36, L a1 p0.Gates c1), (37, I (len p0.Gates)), (38, I s1.1), (40, I s1.1)] hF (by kernel_rfl) fun fr hF => ?_
     obtain ⟨x3, hx3, h⟩ := bindE h
     refine s_elemF (z := x3) (.agg #[I x3.A, I x3.B]) ty103 Try.underlying51 rfl rfl rfl rfl rfl hF rfl (r1) rfl (get?_nn hx3) (get?_at hx3) rfl fun p fr hF => ?_
     refine q_alloc (z := .agg #[I 0, I 0]) hs hM1 [I 0, I 0] rfl rfl hF (by kernel_rfl) rfl fun b4 w9 S10 fr hs hp hF => ?_
     have r1 := r1.stp hM1 hp
     have hM1 := hM1.stp hp
     have hs : Sep [BX b4 103 [I 0, I 0], BX b3 48 [I (w64 ((w64 (p0.Inputs + 1)) + (len p0.Gates))), L a4 s1.2 c4], HP.all own26 rs1 s1.2, sl26 (L a4 s1.2 c4) rs1, BX b2 48 [I 0, L none ([] : List (List Int)) 0], BX b1 53 [I p0.Inputs, L a1 p0.Gates c1]] w9 S10 := hs
     refine from_pure 1 [(1, I p1), (2, B b1 0), (4, B b2 0), (6, B b3 0), (7, I s1.1), (8, B b4 0), (36, L a1 p0.Gates c1), (37, I (len p0.Gates)), (38, I s1.1), (42, .agg #[I x3.A, I x3.B])] hF (by kernel_rfl) fun fr hF => ?_
     refine q_storeBoxS 0 hs hM1 rfl [I x3.A, I x3.B] rfl hF rfl rfl (by kernel_rfl) rfl rfl rfl fun w10 S11 hs hp hF => ?_
     have r1 := r1.stp hM1 hp
     have hM1 := hM1.stp hp
     have hs : Sep [BX b4 103 [I x3.A, I x3.B], BX b3 48 [I (w64 ((w64 (p0.Inputs + 1)) + (len p0.Gates))), L a4 s1.2 c4], HP.all own26 rs1 s1.2, sl26 (L a4 s1.2 c4) rs1, BX b2 48 [I 0, L none ([] : List (List Int)) 0], BX b1 53 [I p0.Inputs, L a1 p0.Gates c1]] w10 S11 := hs
     refine from_end rfl (then_normal ?_)
     refine wp_seq (wp_text' ?_)
     refine from_pure 1 [(1, I p1), (2, B b1 0), (4, B b2 0), (6, B b3 0), (7, I s1.1), (8, B b4 0), (36, L a1 p0.Gates c1), (37, I (len p0.Gates)), (38, I s1.1), (43, B b1 0)] hF (by kernel_rfl) fun fr hF => ?_
     refine s_loadBox (I p0.Inputs) ty3 rfl rfl hF rfl (hs.bx 5 rfl) rfl rfl fun fr hF => ?_
     refine from_pure 4 [(1, I p1), (2, B b1 0), (4, B b2 0), (6, B b3 0), (8, B b4 0), (9, I (w64 ((w64 (p0.Inputs + 2)) + s1.1))), (36, L a1 p0.Gates c1), (37, I (len p0.Gates)), (38, I s1.1)] hF (by kernel_rfl) fun fr hF => ?_
     refine from_end rfl (then_normal ?_)
     refine wp_seq (wp_text' ?_)
     refine from_pure 3 [(1, I p1), (2, B b1 0), (4, B b2 0), (6, B b3 0), (8, B b4 0), (9, I (w64 ((w64 (p0.Inputs + 2)) + s1.1))), (36, L a1 p0.Gates c1), (37, I (len p0.Gates)), (38, I s1.1), (49, I (w64 (0 - (w64 ((w64 (p0.Inputs + 2)) + s1.1))))), (50, B b4 0)] hF (by kernel_rfl) fun fr hF => ?_
     refine s_loadBox (I x3.A) ty3 rfl rfl hF rfl (hs.bx 0 rfl) rfl rfl fun fr hF => ?_
     refine q_lit (E := 3) hs hM1 [I (w64 (0 - (w64 ((w64 (p0.Inputs + 2)) + s1.1)))), I x3.A] (([(w64 (0 - (w64 ((w64 (p0.Inputs + 2)) + s1.1)))), x3.A] : List Int).map Flat.enc) ([(w64 (0 - (w64 ((w64 (p0.Inputs + 2)) + s1.1)))), x3.A] : List Int) rfl rfl hF [I (w64 (0 - (w64 ((w64 (p0.Inputs + 2)) + s1.1)))), I x3.A] rfl (fun w => by kernel_rfl) (css_flat _) rfl rfl rfl fun a6 c6 w11 S12 fr hs hp hF => ?_
     have r1 := r1.stp hM1 hp
     have hM1 := hM1.stp hp
     have hs : Sep [sl3 (.slice a6 (List.length ([(w64 (0 - (w64 ((w64 (p0.Inputs + 2)) + s1.1)))), x3.A] : List Int)) c6) ([(w64 (0 - (w64 ((w64 (p0.Inputs + 2)) + s1.1)))), x3.A] : List Int), BX b4 103 [I x3.A, I x3.B], BX b3 48 [I (w64 ((w64 (p0.Inputs + 1)) + (len p0.Gates))), L a4 s1.2 c4], HP.all own26 rs1 s1.2, sl26 (L a4 s1.2 c4) rs1, BX b2 48 [I 0, L none ([] : List (List Int)) 0], BX b1 53 [I p0.Inputs, L a1 p0.Gates c1]] w11 S12 := hs
     refine from_pure 3 [(1, I p1), (2, B b1 0), (4, B b2 0), (6, B b3 0), (8, B b4 0), (9, I (w64 ((w64 (p0.Inputs + 2)) + s1.1))), (36, L a1 p0.Gates c1), (37, I (len p0.Gates)), (38, I s1.1), (52, .slice a6 (List.length ([(w64 (0 - (w64 ((w64 (p0.Inputs + 2)) + s1.1)))), x3.A] : List Int)) c6), (54, I (w64 (0 - (w64 ((w64 (p0.Inputs + 2)) + s1.1))))), (55, B b4 1)] hF (by kernel_rfl) fun fr hF => ?_
     refine s_loadBox (I x3.B) ty3 rfl rfl hF rfl (hs.bx 1 rfl) rfl rfl fun fr hF => ?_
     refine q_lit (E := 3) hs hM1 [I (w64 (0 - (w64 ((w64 (p0.Inputs + 2)) + s1.1)))), I x3.B] (([(w64 (0 - (w64 ((w64 (p0.Inputs + 2)) + s1.1)))), x3.B] : List Int).map Flat.enc) ([(w64 (0 - (w64 ((w64 (p0.Inputs + 2)) + s1.1)))), x3.B] : List Int) rfl rfl hF [I (w64 (0 - (w64 ((w64 (p0.Inputs + 2)) + s1.1)))), I x3.B] rfl (fun w => by kernel_rfl) (css_flat _) rfl rfl rfl fun a7 c7 w12 S13 fr hs hp hF => ?_
     have r1 := r1.stp hM1 hp
     have hM1 := hM1.stp hp
     have hs : Sep [sl3 (.slice a7 (List.length ([(w64 (0 - (w64 ((w64 (p0.Inputs + 2)) + s1.1)))), x3.B] : List Int)) c7) ([(w64 (0 - (w64 ((w64 (p0.Inputs + 2)) + s1.1)))), x3.B] : List Int), sl3 (.slice a6 (List.length ([(w64 (0 - (w64 ((w64 (p0.Inputs + 2)) + s1.1)))), x3.A] : List Int)) c6) ([(w64 (0 - (w64 ((w64 (p0.Inputs + 2)) + s1.1)))), x3.A] : List Int), BX b4 103 [I x3.A, I x3.B], BX b3 48 [I (w64 ((w64 (p0.Inputs + 1)) + (len p0.Gates))), L a4 s1.2 c4], HP.all own26 rs1 s1.2, sl26 (L a4 s1.2 c4) rs1, BX b2 48 [I 0, L none ([] : List (List Int)) 0], BX b1 53 [I p0.Inputs, L a1 p0.Gates c1]] w12 S13 := hs
     refine from_pure 2 [(1, I p1), (2, B b1 0), (4, B b2 0), (6, B b3 0), (8, B b4 0), (36, L a1 p0.Gates c1), (37, I (len p0.Gates)), (38, I s1.1), (52, .slice a6 (List.length ([(w64 (0 - (w64 ((w64 (p0.Inputs + 2)) + s1.1)))), x3.A] : List Int)) c6), (57, .slice a7 (List.length ([(w64 (0 - (w64 ((w64 (p0.Inputs + 2)) + s1.1)))), x3.B] : List Int)) c7), (58, I (w64 ((w64 (p0.Inputs + 2)) + s1.1))), (59, B b4 0)] hF (by kernel_rfl) fun fr hF => ?_
     refine s_loadBox (I x3.A) ty3 rfl rfl hF rfl (hs.bx 2 rfl) rfl rfl fun fr hF => ?_
     refine from_pure 2 [(1, I p1), (2, B b1 0), (4, B b2 0), (6, B b3 0), (36, L a1 p0.Gates c1), (37, I (len p0.Gates)), (38, I s1.1), (52, .slice a6 (List.length ([(w64 (0 - (w64 ((w64 (p0.Inputs + 2)) + s1.1)))), x3.A] : List Int)) c6), (57, .slice a7 (List.length ([(w64 (0 - (w64 ((w64 (p0.Inputs + 2)) + s1.1)))), x3.B] : List Int)) c7), (58, I (w64 ((w64 (p0.Inputs + 2)) + s1.1))), (61, I (w64 (0 - x3.A))), (62, B b4 1)] hF (by kernel_rfl) fun fr hF => ?_
     refine s_loadBox (I x3.B) ty3 rfl rfl hF rfl (hs.bx 2 rfl) rfl rfl fun fr hF => ?_
     have hs : Sep [sl3 (.slice a7 (List.length ([(w64 (0 - (w64 ((w64 (p0.Inputs + 2)) + s1.1)))), x3.B] : List Int)) c7) ([(w64 (0 - (w64 ((w64 (p0.Inputs + 2)) + s1.1)))), x3.B] : List Int), sl3 (.slice a6 (List.length ([(w64 (0 - (w64 ((w64 (p0.Inputs + 2)) + s1.1)))), x3.A] : List Int)) c6) ([(w64 (0 - (w64 ((w64 (p0.Inputs + 2)) + s1.1)))), x3.A] : List Int), BX b3 48 [I (w64 ((w64 (p0.Inputs + 1)) + (len p0.Gates))), L a4 s1.2 c4], HP.all own26 rs1 s1.2, sl26 (L a4 s1.2 c4) rs1, BX b2 48 [I 0, L none ([] : List (List Int)) 0], BX b1 53 [I p0.Inputs, L a1 p0.Gates c1]] w12 S13 := Sep.pick [0, 1, 3, 4, 5, 6, 7] hs (by decide) rfl
     refine from_pure 1 [(1, I p1), (2, B b1 0), (4, B b2 0), (6, B b3 0), (36, L a1 p0.Gates c1), (37, I (len p0.Gates)), (38, I s1.1), (52, .slice a6 (List.length ([(w64 (0 - (w64 ((w64 (p0.Inputs + 2)) + s1.1)))), x3.A] : List Int)) c6), (57, .slice a7 (List.length ([(w64 (0 - (w64 ((w64 (p0.Inputs + 2)) + s1.1)))), x3.B] : List Int)) c7), (58, I (w64 ((w64 (p0.Inputs + 2)) + s1.1))), (61, I (w64 (0 - x3.A))), (64, I (w64 (0 - x3.B)))] hF (by kernel_rfl) fun fr hF => ?_
     refine q_lit (E := 3) hs hM1 [I (w64 ((w64 (p0.Inputs + 2)) + s1.1)), I (w64 (0 - x3.A)), I (w64 (0 - x3.B))] (([(w64 ((w64 (p0.Inputs + 2)) + s1.1)), (w64 (0 - x3.A)), (w64 (0 - x3.B))] : List Int).map Flat.enc) ([(w64 ((w64 (p0.Inputs + 2)) + s1.1)), (w64 (0 - x3.A)), (w64 (0 - x3.B))] : List Int) rfl rfl hF [I (w64 ((w64 (p0.Inputs + 2)) + s1.1)), I (w64 (0 - x3.A)), I (w64 (0 - x3.B))] rfl (fun w => by kernel_rfl) (css_flat _) rfl rfl rfl fun a8 c8 w13 S14 fr hs hp hF => ?_
     have r1 := r1.stp hM1 hp
     have hM1 := hM1.stp hp
     have hs : Sep [sl3 (.slice a8 (List.length ([(w64 ((w64 (p0.Inputs + 2)) + s1.1)), (w64 (0 - x3.A)), (w64 (0 - x3.B))] : List Int)) c8) ([(w64 ((w64 (p0.Inputs + 2)) + s1.1)), (w64 (0 - x3.A)), (w64 (0 - x3.B))] : List Int), sl3 (.slice a7 (List.length ([(w64 (0 - (w64 ((w64 (p0.Inputs + 2)) + s1.1)))), x3.B] : List Int)) c7) ([(w64 (0 - (w64 ((w64 (p0.Inputs + 2)) + s1.1)))), x3.B] : List Int), sl3 (.slice a6 (List.length ([(w64 (0 - (w64 ((w64 (p0.Inputs + 2)) + s1.1)))), x3.A] : List Int)) c6) ([(w64 (0 - (w64 ((w64 (p0.Inputs + 2)) + s1.1)))), x3.A] : List Int), BX b3 48 [I (w64 ((w64 (p0.Inputs + 1)) + (len p0.Gates))), L a4 s1.2 c4], HP.all own26 rs1 s1.2, sl26 (L a4 s1.2 c4) rs1, BX b2 48 [I 0, L none ([] : List (List Int)) 0], BX b1 53 [I p0.Inputs, L a1 p0.Gates c1]] w13 S14 := hs
     refine q_lit (E := 26) hs hM1 [.slice a6 (List.length ([(w64 (0 - (w64 ((w64 (p0.Inputs + 2)) + s1.1)))), x3.A] : List Int)) c6, .slice a7 (List.length ([(w64 (0 - (w64 ((w64 (p0.Inputs + 2)) + s1.1)))), x3.B] : List Int)) c7, .slice a8 (List.length ([(w64 ((w64 (p0.Inputs + 2)) + s1.1)), (w64 (0 - x3.A)), (w64 (0 - x3.B))] : List Int)) c8] (([⟨a6, List.length ([(w64 (0 - (w64 ((w64 (p0.Inputs + 2)) + s1.1)))), x3.A] : List Int), c6⟩, ⟨a7, List.length ([(w64 (0 - (w64 ((w64 (p0.Inputs + 2)) + s1.1)))), x3.B] : List Int), c7⟩, ⟨a8, List.length ([(w64 ((w64 (p0.Inputs + 2)) + s1.1)), (w64 (0 - x3.A)), (w64 (0 - x3.B))] : List Int), c8⟩] : List Hd).map Flat.enc) ([⟨a6, List.length ([(w64 (0 - (w64 ((w64 (p0.Inputs + 2)) + s1.1)))), x3.A] : List Int), c6⟩, ⟨a7, List.length ([(w64 (0 - (w64 ((w64 (p0.Inputs + 2)) + s1.1)))), x3.B] : List Int), c7⟩, ⟨a8, List.length ([(w64 ((w64 (p0.Inputs + 2)) + s1.1)), (w64 (0 - x3.A)), (w64 (0 - x3.B))] : List Int), c8⟩] : List Hd) rfl rfl hF [.slice a6 (List.length ([(w64 (0 - (w64 ((w64 (p0.Inputs + 2)) + s1.1)))), x3.A] : List Int)) c6, .slice a7 (List.length ([(w64 (0 - (w64 ((w64 (p0.Inputs + 2)) + s1.1)))), x3.B] : List Int)) c7, .slice a8 (List.length ([(w64 ((w64 (p0.Inputs + 2)) + s1.1)), (w64 (0 - x3.A)), (w64 (0 - x3.B))] : List Int)) c8] rfl (fun w => by kernel_rfl) (css_flat _) rfl rfl rfl fun a9 c9 w14 S15 fr hs hp hF => ?_
     have r1 := r1.stp hM1 hp
     have hM1 := hM1.stp hp
     have hs : Sep [sl26 (.slice a9 (List.length ([([(w64 (0 - (w64 ((w64 (p0.Inputs + 2)) + s1.1)))), x3.A] : List Int), ([(w64 (0 - (w64 ((w64 (p0.Inputs + 2)) + s1.1)))), x3.B] : List Int), ([(w64 ((w64 (p0.Inputs + 2)) + s1.1)), (w64 (0 - x3.A)), (w64 (0 - x3.B))] : List Int)] : List (List Int))) c9) ([⟨a6, List.length ([(w64 (0 - (w64 ((w64 (p0.Inputs + 2)) + s1.1)))), x3.A] : List Int), c6⟩, ⟨a7, List.length ([(w64 (0 - (w64 ((w64 (p0.Inputs + 2)) + s1.1)))), x3.B] : List Int), c7⟩, ⟨a8, List.length ([(w64 ((w64 (p0.Inputs + 2)) + s1.1)), (w64 (0 - x3.A)), (w64 (0 - x3.B))] : List Int), c8⟩] : List Hd), sl3 (.slice a8 (List.length ([(w64 ((w64 (p0.Inputs + 2)) + s1.1)), (w64 (0 - x3.A)), (w64 (0 - x3.B))] : List Int)) c8) ([(w64 ((w64 (p0.Inputs + 2)) + s1.1)), (w64 (0 - x3.A)), (w64 (0 - x3.B))] : List Int), sl3 (.slice a7 (List.length ([(w64 (0 - (w64 ((w64 (p0.Inputs + 2)) + s1.1)))), x3.B] : List Int)) c7) ([(w64 (0 - (w64 ((w64 (p0.Inputs + 2)) + s1.1)))), x3.B] : List Int), sl3 (.slice a6 (List.length ([(w64 (0 - (w64 ((w64 (p0.Inputs + 2)) + s1.1)))), x3.A] : List Int)) c6) ([(w64 (0 - (w64 ((w64 (p0.Inputs + 2)) + s1.1)))), x3.A] : List Int), BX b3 48 [I (w64 ((w64 (p0.Inputs + 1)) + (len p0.Gates))), L a4 s1.2 c4], HP.all own26 rs1 s1.2, sl26 (L a4 s1.2 c4) rs1, BX b2 48 [I 0, L none ([] : List (List Int)) 0], BX b1 53 [I p0.Inputs, L a1 p0.Gates c1]] w14 S15 := hs
     have hs : Sep [HP.all own26 ([] : List Hd) ([] : List (List Int)), sl26 (.slice a9 (List.length ([([(w64 (0 - (w64 ((w64 (p0.Inputs + 2)) + s1.1)))), x3.A] : List Int), ([(w64 (0 - (w64 ((w64 (p0.Inputs + 2)) + s1.1)))), x3.B] : List Int), ([(w64 ((w64 (p0.Inputs + 2)) + s1.1)), (w64 (0 - x3.A)), (w64 (0 - x3.B))] : List Int)] : List (List Int))) c9) ([⟨a6, List.length ([(w64 (0 - (w64 ((w64 (p0.Inputs + 2)) + s1.1)))), x3.A] : List Int), c6⟩, ⟨a7, List.length ([(w64 (0 - (w64 ((w64 (p0.Inputs + 2)) + s1.1)))), x3.B] : List Int), c7⟩, ⟨a8, List.length ([(w64 ((w64 (p0.Inputs + 2)) + s1.1)), (w64 (0 - x3.A)), (w64 (0 - x3.B))] : List Int), c8⟩] : List Hd), sl3 (.slice a8 (List.length ([(w64 ((w64 (p0.Inputs + 2)) + s1.1)), (w64 (0 - x3.A)), (w64 (0 - x3.B))] : List Int)) c8) ([(w64 ((w64 (p0.Inputs + 2)) + s1.1)), (w64 (0 - x3.A)), (w64 (0 - x3.B))] : List Int), sl3 (.slice a7 (List.length ([(w64 (0 - (w64 ((w64 (p0.Inputs + 2)) + s1.1)))), x3.B] : List Int)) c7) ([(w64 (0 - (w64 ((w64 (p0.Inputs + 2)) + s1.1)))), x3.B] : List Int), sl3 (.slice a6 (List.length ([(w64 (0 - (w64 ((w64 (p0.Inputs + 2)) + s1.1)))), x3.A] : List Int)) c6) ([(w64 (0 - (w64 ((w64 (p0.Inputs + 2)) + s1.1)))), x3.A] : List Int), BX b3 48 [I (w64 ((w64 (p0.Inputs + 1)) + (len p0.Gates))), L a4 s1.2 c4], HP.all own26 rs1 s1.2, sl26 (L a4 s1.2 c4) rs1, BX b2 48 [I 0, L none ([] : List (List Int)) 0], BX b1 53 [I p0.Inputs, L a1 p0.Gates c1]] w14 S15 := hs.emp (HP.all own26 [] []) trivial
     have hs : Sep [sl3 (.slice a8 (List.length ([(w64 ((w64 (p0.Inputs + 2)) + s1.1)), (w64 (0 - x3.A)), (w64 (0 - x3.B))] : List Int)) c8) ([(w64 ((w64 (p0.Inputs + 2)) + s1.1)), (w64 (0 - x3.A)), (w64 (0 - x3.B))] : List Int), HP.all own26 ([] : List Hd) ([] : List (List Int)), sl26 (.slice a9 (List.length ([([(w64 (0 - (w64 ((w64 (p0.Inputs + 2)) + s1.1)))), x3.A] : List Int), ([(w64 (0 - (w64 ((w64 (p0.Inputs + 2)) + s1.1)))), x3.B] : List Int), ([(w64 ((w64 (p0.Inputs + 2)) + s1.1)), (w64 (0 - x3.A)), (w64 (0 - x3.B))] : List Int)] : List (List Int))) c9) ([⟨a6, List.length ([(w64 (0 - (w64 ((w64 (p0.Inputs + 2)) + s1.1)))), x3.A] : List Int), c6⟩, ⟨a7, List.length ([(w64 (0 - (w64 ((w64 (p0.Inputs + 2)) + s1.1)))), x3.B] : List Int), c7⟩, ⟨a8, List.length ([(w64 ((w64 (p0.Inputs + 2)) + s1.1)), (w64 (0 - x3.A)), (w64 (0 - x3.B))] : List Int), c8⟩] : List Hd), sl3 (.slice a7 (List.length ([(w64 (0 - (w64 ((w64 (p0.Inputs + 2)) + s1.1)))), x3.B] : List Int)) c7) ([(w64 (0 - (w64 ((w64 (p0.Inputs + 2)) + s1.1)))), x3.B] : List Int), sl3 (.slice a6 (List.length ([(w64 (0 - (w64 ((w64 (p0.Inputs + 2)) + s1.1)))), x3.A] : List Int)) c6) ([(w64 (0 - (w64 ((w64 (p0.Inputs + 2)) + s1.1)))), x3.A] : List Int), BX b3 48 [I (w64 ((w64 (p0.Inputs + 1)) + (len p0.Gates))), L a4 s1.2 c4], HP.all own26 rs1 s1.2, sl26 (L a4 s1.2 c4) rs1, BX b2 48 [I 0, L none ([] : List (List Int)) 0], BX b1 53 [I p0.Inputs, L a1 p0.Gates c1]] w14 S15 := Sep.pick [2, 0, 1, 3, 4, 5, 6, 7, 8, 9] hs (by decide) rfl
     have hs : Sep [HP.all own26 ([⟨a8, List.length ([(w64 ((w64 (p0.Inputs + 2)) + s1.1)), (w64 (0 - x3.A)), (w64 (0 - x3.B))] : List Int), c8⟩] : List Hd) ([([(w64 ((w64 (p0.Inputs + 2)) + s1.1)), (w64 (0 - x3.A)), (w64 (0 - x3.B))] : List Int)] : List (List Int)), sl26 (.slice a9 (List.length ([([(w64 (0 - (w64 ((w64 (p0.Inputs + 2)) + s1.1)))), x3.A] : List Int), ([(w64 (0 - (w64 ((w64 (p0.Inputs + 2)) + s1.1)))), x3.B] : List Int), ([(w64 ((w64 (p0.Inputs + 2)) + s1.1)), (w64 (0 - x3.A)), (w64 (0 - x3.B))] : List Int)] : List (List Int))) c9) ([⟨a6, List.length ([(w64 (0 - (w64 ((w64 (p0.Inputs + 2)) + s1.1)))), x3.A] : List Int), c6⟩, ⟨a7, List.length ([(w64 (0 - (w64 ((w64 (p0.Inputs + 2)) + s1.1)))), x3.B] : List Int), c7⟩, ⟨a8, List.length ([(w64 ((w64 (p0.Inputs + 2)) + s1.1)), (w64 (0 - x3.A)), (w64 (0 - x3.B))] : List Int), c8⟩] : List Hd), sl3 (.slice a7 (List.length ([(w64 (0 - (w64 ((w64 (p0.Inputs + 2)) + s1.1)))), x3.B] : List Int)) c7) ([(w64 (0 - (w64 ((w64 (p0.Inputs + 2)) + s1.1)))), x3.B] : List Int), sl3 (.slice a6 (List.length ([(w64 (0 - (w64 ((w64 (p0.Inputs + 2)) + s1.1)))), x3.A] : List Int)) c6) ([(w64 (0 - (w64 ((w64 (p0.Inputs + 2)) + s1.1)))), x3.A] : List Int), BX b3 48 [I (w64 ((w64 (p0.Inputs + 1)) + (len p0.Gates))), L a4 s1.2 c4], HP.all own26 rs1 s1.2, sl26 (L a4 s1.2 c4) rs1, BX b2 48 [I 0, L none ([] : List (List Int)) 0], BX b1 53 [I p0.Inputs, L a1 p0.Gates c1]] w14 S15 := Sep.merge hs (fun _ h => h)
     have hs : Sep [sl3 (.slice a7 (List.length ([(w64 (0 - (w64 ((w64 (p0.Inputs + 2)) + s1.1)))), x3.B] : List Int)) c7) ([(w64 (0 - (w64 ((w64 (p0.Inputs + 2)) + s1.1)))), x3.B] : List Int), HP.all own26 ([⟨a8, List.length ([(w64 ((w64 (p0.Inputs + 2)) + s1.1)), (w64 (0 - x3.A)), (w64 (0 - x3.B))] : List Int), c8⟩] : List Hd) ([([(w64 ((w64 (p0.Inputs + 2)) + s1.1)), (w64 (0 - x3.A)), (w64 (0 - x3.B))] : List Int)] : List (List Int)), sl26 (.slice a9 (List.length ([([(w64 (0 - (w64 ((w64 (p0.Inputs + 2)) + s1.1)))), x3.A] : List Int), ([(w64 (0 - (w64 ((w64 (p0.Inputs + 2)) + s1.1)))), x3.B] : List Int), ([(w64 ((w64 (p0.Inputs + 2)) + s1.1)), (w64 (0 - x3.A)), (w64 (0 - x3.B))] : List Int)] : List (List Int))) c9) ([⟨a6, List.length ([(w64 (0 - (w64 ((w64 (p0.Inputs + 2)) + s1.1)))), x3.A] : List Int), c6⟩, ⟨a7, List.length ([(w64 (0 - (w64 ((w64 (p0.Inputs + 2)) + s1.1)))), x3.B] : List Int), c7⟩, ⟨a8, List.length ([(w64 ((w64 (p0.Inputs + 2)) + s1.1)), (w64 (0 - x3.A)), (w64 (0 - x3.B))] : List Int), c8⟩] : List Hd), sl3 (.slice a6 (List.length ([(w64 (0 - (w64 ((w64 (p0.Inputs + 2)) + s1.1)))), x3.A] : List Int)) c6) ([(w64 (0 - (w64 ((w64 (p0.Inputs + 2)) + s1.1)))), x3.A] : List Int), BX b3 48 [I (w64 ((w64 (p0.Inputs + 1)) + (len p0.Gates))), L a4 s1.2 c4], HP.all own26 rs1 s1.2, sl26 (L a4 s1.2 c4) rs1, BX b2 48 [I 0, L none ([] : List (List Int)) 0], BX b1 53 [I p0.Inputs, L a1 p0.Gates c1]] w14 S15 := Sep.pick [2, 0, 1, 3, 4, 5, 6, 7, 8] hs (by decide) rfl
     have hs : Sep [HP.all own26 ([⟨a7, List.length ([(w64 (0 - (w64 ((w64 (p0.Inputs + 2)) + s1.1)))), x3.B] : List Int), c7⟩, ⟨a8, List.length ([(w64 ((w64 (p0.Inputs + 2)) + s1.1)), (w64 (0 - x3.A)), (w64 (0 - x3.B))] : List Int), c8⟩] : List Hd) ([([(w64 (0 - (w64 ((w64 (p0.Inputs + 2)) + s1.1)))), x3.B] : List Int), ([(w64 ((w64 (p0.Inputs + 2)) + s1.1)), (w64 (0 - x3.A)), (w64 (0 - x3.B))] : List Int)] : List (List Int)), sl26 (.slice a9 (List.length ([([(w64 (0 - (w64 ((w64 (p0.Inputs + 2)) + s1.1)))), x3.A] : List Int), ([(w64 (0 - (w64 ((w64 (p0.Inputs + 2)) + s1.1)))), x3.B] : List Int), ([(w64 ((w64 (p0.Inputs + 2)) + s1.1)), (w64 (0 - x3.A)), (w64 (0 - x3.B))] : List Int)] : List (List Int))) c9) ([⟨a6, List.length ([(w64 (0 - (w64 ((w64 (p0.Inputs + 2)) + s1.1)))), x3.A] : List Int), c6⟩, ⟨a7, List.length ([(w64 (0 - (w64 ((w64 (p0.Inputs + 2)) + s1.1)))), x3.B] : List Int), c7⟩, ⟨a8, List.length ([(w64 ((w64 (p0.Inputs + 2)) + s1.1)), (w64 (0 - x3.A)), (w64 (0 - x3.B))] : List Int), c8⟩] : List Hd), sl3 (.slice a6 (List.length ([(w64 (0 - (w64 ((w64 (p0.Inputs + 2)) + s1.1)))), x3.A] : List Int)) c6) ([(w64 (0 - (w64 ((w64 (p0.Inputs + 2)) + s1.1)))), x3.A] : List Int), BX b3 48 [I (w64 ((w64 (p0.Inputs + 1)) + (len p0.Gates))), L a4 s1.2 c4], HP.all own26 rs1 s1.2, sl26 (L a4 s1.2 c4) rs1, BX b2 48 [I 0, L none ([] : List (List Int)) 0], BX b1 53 [I p0.Inputs, L a1 p0.Gates c1]] w14 S15 := Sep.merge hs (fun _ h => h)
     have hs : Sep [sl3 (.slice a6 (List.length ([(w64 (0 - (w64 ((w64 (p0.Inputs + 2)) + s1.1)))), x3.A] : List Int)) c6) ([(w64 (0 - (w64 ((w64 (p0.Inputs + 2)) + s1.1)))), x3.A] : List Int), HP.all own26 ([⟨a7, List.length ([(w64 (0 - (w64 ((w64 (p0.Inputs + 2)) + s1.1)))), x3.B] : List Int), c7⟩, ⟨a8, List.length ([(w64 ((w64 (p0.Inputs + 2)) + s1.1)), (w64 (0 - x3.A)), (w64 (0 - x3.B))] : List Int), c8⟩] : List Hd) ([([(w64 (0 - (w64 ((w64 (p0.Inputs + 2)) + s1.1)))), x3.B] : List Int), ([(w64 ((w64 (p0.Inputs + 2)) + s1.1)), (w64 (0 - x3.A)), (w64 (0 - x3.B))] : List Int)] : List (List Int)), sl26 (.slice a9 (List.length ([([(w64 (0 - (w64 ((w64 (p0.Inputs + 2)) + s1.1)))), x3.A] : List Int), ([(w64 (0 - (w64 ((w64 (p0.Inputs + 2)) + s1.1)))), x3.B] : List Int), ([(w64 ((w64 (p0.Inputs + 2)) + s1.1)), (w64 (0 - x3.A)), (w64 (0 - x3.B))] : List Int)] : List (List Int))) c9) ([⟨a6, List.length ([(w64 (0 - (w64 ((w64 (p0.Inputs + 2)) + s1.1)))), x3.A] : List Int), c6⟩, ⟨a7, List.length ([(w64 (0 - (w64 ((w64 (p0.Inputs + 2)) + s1.1)))), x3.B] : List Int), c7⟩, ⟨a8, List.length ([(w64 ((w64 (p0.Inputs + 2)) + s1.1)), (w64 (0 - x3.A)), (w64 (0 - x3.B))] : List Int), c8⟩] : List Hd), BX b3 48 [I (w64 ((w64 (p0.Inputs + 1)) + (len p0.Gates))), L a4 s1.2 c4], HP.all own26 rs1 s1.2, sl26 (L a4 s1.2 c4) rs1, BX b2 48 [I 0, L none ([] : List (List Int)) 0], BX b1 53 [I p0.Inputs, L a1 p0.Gates c1]] w14 S15 := Sep.pick [2, 0, 1, 3, 4, 5, 6, 7] hs (by decide) rfl
     have hs : Sep [HP.all own26 ([⟨a6, List.length ([(w64 (0 - (w64 ((w64 (p0.Inputs + 2)) + s1.1)))), x3.A] : List Int), c6⟩, ⟨a7, List.length ([(w64 (0 - (w64 ((w64 (p0.Inputs + 2)) + s1.1)))), x3.B] : List Int), c7⟩, ⟨a8, List.length ([(w64 ((w64 (p0.Inputs + 2)) + s1.1)), (w64 (0 - x3.A)), (w64 (0 - x3.B))] : List Int), c8⟩] : List Hd) ([([(w64 (0 - (w64 ((w64 (p0.Inputs + 2)) + s1.1)))), x3.A] : List Int), ([(w64 (0 - (w64 ((w64 (p0.Inputs + 2)) + s1.1)))), x3.B] : List Int), ([(w64 ((w64 (p0.Inputs + 2)) + s1.1)), (w64 (0 - x3.A)), (w64 (0 - x3.B))] : List Int)] : List (List Int)), sl26 (.slice a9 (List.length ([([(w64 (0 - (w64 ((w64 (p0.Inputs + 2)) + s1.1)))), x3.A] : List Int), ([(w64 (0 - (w64 ((w64 (p0.Inputs + 2)) + s1.1)))), x3.B] : List Int), ([(w64 ((w64 (p0.Inputs + 2)) + s1.1)), (w64 (0 - x3.A)), (w64 (0 - x3.B))] : List Int)] : List (List Int))) c9) ([⟨a6, List.length ([(w64 (0 - (w64 ((w64 (p0.Inputs + 2)) + s1.1)))), x3.A] : List Int), c6⟩, ⟨a7, List.length ([(w64 (0 - (w64 ((w64 (p0.Inputs + 2)) + s1.1)))), x3.B] : List Int), c7⟩, ⟨a8, List.length ([(w64 ((w64 (p0.Inputs + 2)) + s1.1)), (w64 (0 - x3.A)), (w64 (0 - x3.B))] : List Int), c8⟩] : List Hd), BX b3 48 [I (w64 ((w64 (p0.Inputs + 1)) + (len p0.Gates))), L a4 s1.2 c4], HP.all own26 rs1 s1.2, sl26 (L a4 s1.2 c4) rs1, BX b2 48 [I 0, L none ([] : List (List Int)) 0], BX b1 53 [I p0.Inputs, L a1 p0.Gates c1]] w14 S15 := Sep.merge hs (fun _ h => h)
     refine from_pure 2 [(1, I p1), (2, B b1 0), (4, B b2 0), (6, B b3 0), (36, L a1 p0.Gates c1), (37, I (len p0.Gates)), (38, I s1.1), (66, .slice a9 (List.length ([([(w64 (0 - (w64 ((w64 (p0.Inputs + 2)) + s1.1)))), x3.A] : List Int), ([(w64 (0 - (w64 ((w64 (p0.Inputs + 2)) + s1.1)))), x3.B] : List Int), ([(w64 ((w64 (p0.Inputs + 2)) + s1.1)), (w64 (0 - x3.A)), (w64 (0 - x3.B))] : List Int)] : List (List Int))) c9), (67, I (len ([([(w64 (0 - (w64 ((w64 (p0.Inputs + 2)) + s1.1)))), x3.A] : List Int), ([(w64 (0 - (w64 ((w64 (p0.Inputs + 2)) + s1.1)))), x3.B] : List Int), ([(w64 ((w64 (p0.Inputs + 2)) + s1.1)), (w64 (0 - x3.A)), (w64 (0 - x3.B))] : List Int)] : List (List Int)))), (68, I 0)] hF (by kernel_rfl) fun fr hF => ?_
     refine from_end rfl (then_normal ?_)
     obtain ⟨rl2, hit2, h⟩ := bindE h
     have hk2 := h
     refine (wp_cut' (M := fun fr w' => ∃ rs4 a11 c11 S17 F4, FrS 93 [(1, I p1), (2, B b1 0), (4, B b2 0), (6, B b3 0), (36, L a1 p0.Gates c1), (37, I (len p0.Gates)), (38, I s1.1)] fr ∧ Mem w14 S15 F1 w' S17 F4 ∧ Sep [BX b3 48 [I (w64 ((w64 (p0.Inputs + 1)) + (len p0.Gates))), L a11 rl2 c11], HP.all own26 rs4 rl2, sl26 (L a11 rl2 c11) rs4, BX b2 48 [I 0, L none ([] : List (List Int)) 0], BX b1 53 [I p0.Inputs, L a1 p0.Gates c1]] w' S17) (wp_block (wp_iter (Inv := fun s2 fr w' => ∃ rs3 a10 c10 S16 F3, FrS 93 [(1, I p1), (2, B b1 0), (4, B b2 0), (6, B b3 0), (36, L a1 p0.Gates c1), (37, I (len p0.Gates)), (38, I s1.1), (66, .slice a9 (List.length ([([(w64 (0 - (w64 ((w64 (p0.Inputs + 2)) + s1.1)))), x3.A] : List Int), ([(w64 (0 - (w64 ((w64 (p0.Inputs + 2)) + s1.1)))), x3.B] : List Int), ([(w64 ((w64 (p0.Inputs + 2)) + s1.1)), (w64 (0 - x3.A)), (w64 (0 - x3.B))] : List Int)] : List (List Int))) c9), (67, I (len ([([(w64 (0 - (w64 ((w64 (p0.Inputs + 2)) + s1.1)))), x3.A] : List Int), ([(w64 (0 - (w64 ((w64 (p0.Inputs + 2)) + s1.1)))), x3.B] : List Int), ([(w64 ((w64 (p0.Inputs + 2)) + s1.1)), (w64 (0 - x3.A)), (w64 (0 - x3.B))] : List Int)] : List (List Int)))), (68, I s2.1)] fr ∧ Mem w14 S15 F1 w' S16 F3 ∧ Sep [HP.all own26 ([⟨a6, List.length ([(w64 (0 - (w64 ((w64 (p0.Inputs + 2)) + s1.1)))), x3.A] : List Int), c6⟩, ⟨a7, List.length ([(w64 (0 - (w64 ((w64 (p0.Inputs + 2)) + s1.1)))), x3.B] : List Int), c7⟩, ⟨a8, List.length ([(w64 ((w64 (p0.Inputs + 2)) + s1.1)), (w64 (0 - x3.A)), (w64 (0 - x3.B))] : List Int), c8⟩] : List Hd) ([([(w64 (0 - (w64 ((w64 (p0.Inputs + 2)) + s1.1)))), x3.A] : List Int), ([(w64 (0 - (w64 ((w64 (p0.Inputs + 2)) + s1.1)))), x3.B] : List Int), ([(w64 ((w64 (p0.Inputs + 2)) + s1.1)), (w64 (0 - x3.A)), (w64 (0 - x3.B))] : List Int)] : List (List Int)), sl26 (.slice a9 (List.length ([([(w64 (0 - (w64 ((w64 (p0.Inputs + 2)) + s1.1)))), x3.A] : List Int), ([(w64 (0 - (w64 ((w64 (p0.Inputs + 2)) + s1.1)))), x3.B] : List Int), ([(w64 ((w64 (p0.Inputs + 2)) + s1.1)), (w64 (0 - x3.A)), (w64 (0 - x3.B))] : List Int)] : List (List Int))) c9) ([⟨a6, List.length ([(w64 (0 - (w64 ((w64 (p0.Inputs + 2)) + s1.1)))), x3.A] : List Int), c6⟩, ⟨a7, List.length ([(w64 (0 - (w64 ((w64 (p0.Inputs + 2)) + s1.1)))), x3.B] : List Int), c7⟩, ⟨a8, List.length ([(w64 ((w64 (p0.Inputs + 2)) + s1.1)), (w64 (0 - x3.A)), (w64 (0 - x3.B))] : List Int), c8⟩] : List Hd), BX b3 48 [I (w64 ((w64 (p0.Inputs + 1)) + (len p0.Gates))), L a10 s2.2 c10], HP.all own26 rs3 s2.2, sl26 (L a10 s2.2 c10) rs3, BX b2 48 [I 0, L none ([] : List (List Int)) 0], BX b1 53 [I p0.Inputs, L a1 p0.Gates c1]] w' S16) hit2 ⟨rs1, a4, c4, S15, _, hF.sub _ (by kernel_rfl), (Mem.start hM1.bd hM1.bdF hM1.dj), hs⟩ fun s2 q2 fr w2i hI h hr2 => ?_)) fun fr w2o hM => ?_)
     · obtain ⟨rs3, a10, c10, S16, F3, hF, hM2, hs⟩ := hI
       have r1 := r1.mem hM2
       refine wp_seq (wp_pure [(1, I p1), (2, B b1 0), (4, B b2 0), (6, B b3 0), (36, L a1 p0.Gates c1), (37, I (len p0.Gates)), (38, I s1.1), (66, .slice a9 (List.length ([([(w64 (0 - (w64 ((w64 (p0.Inputs + 2)) + s1.1)))), x3.A] : List Int), ([(w64 (0 - (w64 ((w64 (p0.Inputs + 2)) + s1.1)))), x3.B] : List Int), ([(w64 ((w64 (p0.Inputs + 2)) + s1.1)), (w64 (0 - x3.A)), (w64 (0 - x3.B))] : List Int)] : List (List Int))) c9), (67, I (len ([([(w64 (0 - (w64 ((w64 (p0.Inputs + 2)) + s1.1)))), x3.A] : List Int), ([(w64 (0 - (w64 ((w64 (p0.Inputs + 2)) + s1.1)))), x3.B] : List Int), ([(w64 ((w64 (p0.Inputs + 2)) + s1.1)), (w64 (0 - x3.A)), (w64 (0 - x3.B))] : List Int)] : List (List Int)))), (68, I s2.1), (69, .bool (decide (s2.1 < (len ([([(w64 (0 - (w64 ((w64 (p0.Inputs + 2)) + s1.1)))), x3.A] : List Int), ([(w64 (0 - (w64 ((w64 (p0.Inputs + 2)) + s1.1)))), x3.B] : List Int), ([(w64 ((w64 (p0.Inputs + 2)) + s1.1)), (w64 (0 - x3.A)), (w64 (0 - x3.B))] : List Int)] : List (List Int))))))] hF (by kernel_rfl) fun fr hF => then_normal ?_)
       refine wp_seq (wp_if hF (b := (decide (s2.1 < (len ([([(w64 (0 - (w64 ((w64 (p0.Inputs + 2)) + s1.1)))), x3.A] : List Int), ([(w64 (0 - (w64 ((w64 (p0.Inputs + 2)) + s1.1)))), x3.B] : List Int), ([(w64 ((w64 (p0.Inputs + 2)) + s1.1)), (w64 (0 - x3.A)), (w64 (0 - x3.B))] : List Int)] : List (List Int)))))) rfl (fun hb => ?_) (fun hb => ?_))
       · replace h := iteT hb h
         refine (wp_skip (then_normal ?_))
         refine wp_seq (wp_block ?_)
         refine wp_seq (wp_text' ?_)
         obtain ⟨x4, hx4, h⟩ := bindE h
         refine q_getDs (z := x4) owns26 1 0 hs rfl rfl rty26 Try.underlying39 rfl rfl rfl rfl rfl hF rfl rfl hx4 fun a12 c12 _ fr hr1 hF => ?_
         refine from_pure 1 [(1, I p1), (2, B b1 0), (4, B b2 0), (6, B b3 0), (11, L a12 x4 c12), (36, L a1 p0.Gates c1), (37, I (len p0.Gates)), (38, I s1.1), (66, .slice a9 (List.length ([([(w64 (0 - (w64 ((w64 (p0.Inputs + 2)) + s1.1)))), x3.A] : List Int), ([(w64 (0 - (w64 ((w64 (p0.Inputs + 2)) + s1.1)))), x3.B] : List Int), ([(w64 ((w64 (p0.Inputs + 2)) + s1.1)), (w64 (0 - x3.A)), (w64 (0 - x3.B))] : List Int)] : List (List Int))) c9), (67, I (len ([([(w64 (0 - (w64 ((w64 (p0.Inputs + 2)) + s1.1)))), x3.A] : List Int), ([(w64 (0 - (w64 ((w64 (p0.Inputs + 2)) + s1.1)))), x3.B] : List Int), ([(w64 ((w64 (p0.Inputs + 2)) + s1.1)), (w64 (0 - x3.A)), (w64 (0 - x3.B))] : List Int)] : List (List Int)))), (68, I s2.1)] hF (by kernel_rfl) fun fr hF => ?_
         refine from_end rfl (then_normal ?_)
         refine wp_seq (wp_text' ?_)
         refine from_pure 1 [(1, I p1), (2, B b1 0), (4, B b2 0), (6, B b3 0), (36, L a1 p0.Gates c1), (37, I (len p0.Gates)), (38, I s1.1), (66, .slice a9 (List.length ([([(w64 (0 - (w64 ((w64 (p0.Inputs + 2)) + s1.1)))), x3.A] : List Int), ([(w64 (0 - (w64 ((w64 (p0.Inputs + 2)) + s1.1)))), x3.B] : List Int), ([(w64 ((w64 (p0.Inputs + 2)) + s1.1)), (w64 (0 - x3.A)), (w64 (0 - x3.B))] : List Int)] : List (List Int))) c9), (67, I (len ([([(w64 (0 - (w64 ((w64 (p0.Inputs + 2)) + s1.1)))), x3.A] : List Int), ([(w64 (0 - (w64 ((w64 (p0.Inputs + 2)) + s1.1)))), x3.B] : List Int), ([(w64 ((w64 (p0.Inputs + 2)) + s1.1)), (w64 (0 - x3.A)), (w64 (0 - x3.B))] : List Int)] : List (List Int)))), (68, I s2.1), (73, L a12 x4 c12)] hF (by kernel_rfl) fun fr hF => ?_
         obtain ⟨x5, hx5, h⟩ := bindE h
         refine s_call [L a12 x4 c12] Try.call70 rfl rfl hF rfl (spec_MakeClause_ok n x4 hx5 (hs.delem owns26 0 rfl hr1 (get?_at hx4))) fun v w15 fr hRes hF => ?_
         obtain ⟨a13, c13, rfl, _, hp, hs2⟩ := hRes
         obtain ⟨S18, hp, hs⟩ := hs.got hM2 hp hs2
         have r1 := r1.stp hM2 hp
         have hM2 := hM2.stp hp
         have hs : Sep [sl3 (L a13 x5.1 c13) x5.1, HP.all own26 ([⟨a6, List.length ([(w64 (0 - (w64 ((w64 (p0.Inputs + 2)) + s1.1)))), x3.A] : List Int), c6⟩, ⟨a7, List.length ([(w64 (0 - (w64 ((w64 (p0.Inputs + 2)) + s1.1)))), x3.B] : List Int), c7⟩, ⟨a8, List.length ([(w64 ((w64 (p0.Inputs + 2)) + s1.1)), (w64 (0 - x3.A)), (w64 (0 - x3.B))] : List Int), c8⟩] : List Hd) ([([(w64 (0 - (w64 ((w64 (p0.Inputs + 2)) + s1.1)))), x3.A] : List Int), ([(w64 (0 - (w64 ((w64 (p0.Inputs + 2)) + s1.1)))), x3.B] : List Int), ([(w64 ((w64 (p0.Inputs + 2)) + s1.1)), (w64 (0 - x3.A)), (w64 (0 - x3.B))] : List Int)] : List (List Int)), sl26 (.slice a9 (List.length ([([(w64 (0 - (w64 ((w64 (p0.Inputs + 2)) + s1.1)))), x3.A] : List Int), ([(w64 (0 - (w64 ((w64 (p0.Inputs + 2)) + s1.1)))), x3.B] : List Int), ([(w64 ((w64 (p0.Inputs + 2)) + s1.1)), (w64 (0 - x3.A)), (w64 (0 - x3.B))] : List Int)] : List (List Int))) c9) ([⟨a6, List.length ([(w64 (0 - (w64 ((w64 (p0.Inputs + 2)) + s1.1)))), x3.A] : List Int), c6⟩, ⟨a7, List.length ([(w64 (0 - (w64 ((w64 (p0.Inputs + 2)) + s1.1)))), x3.B] : List Int), c7⟩, ⟨a8, List.length ([(w64 ((w64 (p0.Inputs + 2)) + s1.1)), (w64 (0 - x3.A)), (w64 (0 - x3.B))] : List Int), c8⟩] : List Hd), BX b3 48 [I (w64 ((w64 (p0.Inputs + 1)) + (len p0.Gates))), L a10 s2.2 c10], HP.all own26 rs3 s2.2, sl26 (L a10 s2.2 c10) rs3, BX b2 48 [I 0, L none ([] : List (List Int)) 0], BX b1 53 [I p0.Inputs, L a1 p0.Gates c1]] w15 S18 := hs
         refine from_pure 5 [(1, I p1), (2, B b1 0), (4, B b2 0), (6, B b3 0), (12, L a13 x5.1 c13), (36, L a1 p0.Gates c1), (37, I (len p0.Gates)), (38, I s1.1), (66, .slice a9 (List.length ([([(w64 (0 - (w64 ((w64 (p0.Inputs + 2)) + s1.1)))), x3.A] : List Int), ([(w64 (0 - (w64 ((w64 (p0.Inputs + 2)) + s1.1)))), x3.B] : List Int), ([(w64 ((w64 (p0.Inputs + 2)) + s1.1)), (w64 (0 - x3.A)), (w64 (0 - x3.B))] : List Int)] : List (List Int))) c9), (67, I (len ([([(w64 (0 - (w64 ((w64 (p0.Inputs + 2)) + s1.1)))), x3.A] : List Int), ([(w64 (0 - (w64 ((w64 (p0.Inputs + 2)) + s1.1)))), x3.B] : List Int), ([(w64 ((w64 (p0.Inputs + 2)) + s1.1)), (w64 (0 - x3.A)), (w64 (0 - x3.B))] : List Int)] : List (List Int)))), (68, I s2.1)] hF (by kernel_rfl) fun fr hF => ?_
         refine from_end rfl (then_normal ?_)
         refine (wp_text' ?_)
         refine from_pure 1 [(1, I p1), (2, B b1 0), (4, B b2 0), (6, B b3 0), (12, L a13 x5.1 c13), (36, L a1 p0.Gates c1), (37, I (len p0.Gates)), (38, I s1.1), (66, .slice a9 (List.length ([([(w64 (0 - (w64 ((w64 (p0.Inputs + 2)) + s1.1)))), x3.A] : List Int), ([(w64 (0 - (w64 ((w64 (p0.Inputs + 2)) + s1.1)))), x3.B] : List Int), ([(w64 ((w64 (p0.Inputs + 2)) + s1.1)), (w64 (0 - x3.A)), (w64 (0 - x3.B))] : List Int)] : List (List Int))) c9), (67, I (len ([([(w64 (0 - (w64 ((w64 (p0.Inputs + 2)) + s1.1)))), x3.A] : List Int), ([(w64 (0 - (w64 ((w64 (p0.Inputs + 2)) + s1.1)))), x3.B] : List Int), ([(w64 ((w64 (p0.Inputs + 2)) + s1.1)), (w64 (0 - x3.A)), (w64 (0 - x3.B))] : List Int)] : List (List Int)))), (68, I s2.1), (77, B b3 1)] hF (by kernel_rfl) fun fr hF => ?_
         refine s_loadBox (L a10 s2.2 c10) ty39 rfl rfl hF rfl (hs.bx 3 rfl) rfl rfl fun fr hF => ?_
         refine from_pure 1 [(1, I p1), (2, B b1 0), (4, B b2 0), (6, B b3 0), (36, L a1 p0.Gates c1), (37, I (len p0.Gates)), (38, I s1.1), (66, .slice a9 (List.length ([([(w64 (0 - (w64 ((w64 (p0.Inputs + 2)) + s1.1)))), x3.A] : List Int), ([(w64 (0 - (w64 ((w64 (p0.Inputs + 2)) + s1.1)))), x3.B] : List Int), ([(w64 ((w64 (p0.Inputs + 2)) + s1.1)), (w64 (0 - x3.A)), (w64 (0 - x3.B))] : List Int)] : List (List Int))) c9), (67, I (len ([([(w64 (0 - (w64 ((w64 (p0.Inputs + 2)) + s1.1)))), x3.A] : List Int), ([(w64 (0 - (w64 ((w64 (p0.Inputs + 2)) + s1.1)))), x3.B] : List Int), ([(w64 ((w64 (p0.Inputs + 2)) + s1.1)), (w64 (0 - x3.A)), (w64 (0 - x3.B))] : List Int)] : List (List Int)))), (68, I s2.1), (78, L a10 s2.2 c10), (79, L a13 x5.1 c13)] hF (by kernel_rfl) fun fr hF => ?_
         refine q_lit (E := 26) hs hM2 [L a13 x5.1 c13] (([⟨a13, List.length x5.1, c13⟩] : List Hd).map Flat.enc) ([⟨a13, List.length x5.1, c13⟩] : List Hd) rfl rfl hF [L a13 x5.1 c13] rfl (fun w => by kernel_rfl) (css_flat _) rfl rfl rfl fun a14 c14 w16 S19 fr hs hp hF => ?_
         have r1 := r1.stp hM2 hp
         have hM2 := hM2.stp hp
         have hs : Sep [sl26 (L a14 ([x5.1] : List (List Int)) c14) ([⟨a13, List.length x5.1, c13⟩] : List Hd), sl3 (L a13 x5.1 c13) x5.1, HP.all own26 ([⟨a6, List.length ([(w64 (0 - (w64 ((w64 (p0.Inputs + 2)) + s1.1)))), x3.A] : List Int), c6⟩, ⟨a7, List.length ([(w64 (0 - (w64 ((w64 (p0.Inputs + 2)) + s1.1)))), x3.B] : List Int), c7⟩, ⟨a8, List.length ([(w64 ((w64 (p0.Inputs + 2)) + s1.1)), (w64 (0 - x3.A)), (w64 (0 - x3.B))] : List Int), c8⟩] : List Hd) ([([(w64 (0 - (w64 ((w64 (p0.Inputs + 2)) + s1.1)))), x3.A] : List Int), ([(w64 (0 - (w64 ((w64 (p0.Inputs + 2)) + s1.1)))), x3.B] : List Int), ([(w64 ((w64 (p0.Inputs + 2)) + s1.1)), (w64 (0 - x3.A)), (w64 (0 - x3.B))] : List Int)] : List (List Int)), sl26 (.slice a9 (List.length ([([(w64 (0 - (w64 ((w64 (p0.Inputs + 2)) + s1.1)))), x3.A] : List Int), ([(w64 (0 - (w64 ((w64 (p0.Inputs + 2)) + s1.1)))), x3.B] : List Int), ([(w64 ((w64 (p0.Inputs + 2)) + s1.1)), (w64 (0 - x3.A)), (w64 (0 - x3.B))] : List Int)] : List (List Int))) c9) ([⟨a6, List.length ([(w64 (0 - (w64 ((w64 (p0.Inputs + 2)) + s1.1)))), x3.A] : List Int), c6⟩, ⟨a7, List.length ([(w64 (0 - (w64 ((w64 (p0.Inputs + 2)) + s1.1)))), x3.B] : List Int), c7⟩, ⟨a8, List.length ([(w64 ((w64 (p0.Inputs + 2)) + s1.1)), (w64 (0 - x3.A)), (w64 (0 - x3.B))] : List Int), c8⟩] : List Hd), BX b3 48 [I (w64 ((w64 (p0.Inputs + 1)) + (len p0.Gates))), L a10 s2.2 c10], HP.all own26 rs3 s2.2, sl26 (L a10 s2.2 c10) rs3, BX b2 48 [I 0, L none ([] : List (List Int)) 0], BX b1 53 [I p0.Inputs, L a1 p0.Gates c1]] w16 S19 := hs
         have hs : Sep [HP.all own26 ([] : List Hd) ([] : List (List Int)), sl26 (L a14 ([x5.1] : List (List Int)) c14) ([⟨a13, List.length x5.1, c13⟩] : List Hd), sl3 (L a13 x5.1 c13) x5.1, HP.all own26 ([⟨a6, List.length ([(w64 (0 - (w64 ((w64 (p0.Inputs + 2)) + s1.1)))), x3.A] : List Int), c6⟩, ⟨a7, List.length ([(w64 (0 - (w64 ((w64 (p0.Inputs + 2)) + s1.1)))), x3.B] : List Int), c7⟩, ⟨a8, List.length ([(w64 ((w64 (p0.Inputs + 2)) + s1.1)), (w64 (0 - x3.A)), (w64 (0 - x3.B))] : List Int), c8⟩] : List Hd) ([([(w64 (0 - (w64 ((w64 (p0.Inputs + 2)) + s1.1)))), x3.A] : List Int), ([(w64 (0 - (w64 ((w64 (p0.Inputs + 2)) + s1.1)))), x3.B] : List Int), ([(w64 ((w64 (p0.Inputs + 2)) + s1.1)), (w64 (0 - x3.A)), (w64 (0 - x3.B))] : List Int)] : List (List Int)), sl26 (.slice a9 (List.length ([([(w64 (0 - (w64 ((w64 (p0.Inputs + 2)) + s1.1)))), x3.A] : List Int), ([(w64 (0 - (w64 ((w64 (p0.Inputs + 2)) + s1.1)))), x3.B] : List Int), ([(w64 ((w64 (p0.Inputs + 2)) + s1.1)), (w64 (0 - x3.A)), (w64 (0 - x3.B))] : List Int)] : List (List Int))) c9) ([⟨a6, List.length ([(w64 (0 - (w64 ((w64 (p0.Inputs + 2)) + s1.1)))), x3.A] : List Int), c6⟩, ⟨a7, List.length ([(w64 (0 - (w64 ((w64 (p0.Inputs + 2)) + s1.1)))), x3.B] : List Int), c7⟩, ⟨a8, List.length ([(w64 ((w64 (p0.Inputs + 2)) + s1.1)), (w64 (0 - x3.A)), (w64 (0 - x3.B))] : List Int), c8⟩] : List Hd), BX b3 48 [I (w64 ((w64 (p0.Inputs + 1)) + (len p0.Gates))), L a10 s2.2 c10], HP.all own26 rs3 s2.2, sl26 (L a10 s2.2 c10) rs3, BX b2 48 [I 0, L none ([] : List (List Int)) 0], BX b1 53 [I p0.Inputs, L a1 p0.Gates c1]] w16 S19 := hs.emp (HP.all own26 [] []) trivial
         have hs : Sep [sl3 (L a13 x5.1 c13) x5.1, HP.all own26 ([] : List Hd) ([] : List (List Int)), sl26 (L a14 ([x5.1] : List (List Int)) c14) ([⟨a13, List.length x5.1, c13⟩] : List Hd), HP.all own26 ([⟨a6, List.length ([(w64 (0 - (w64 ((w64 (p0.Inputs + 2)) + s1.1)))), x3.A] : List Int), c6⟩, ⟨a7, List.length ([(w64 (0 - (w64 ((w64 (p0.Inputs + 2)) + s1.1)))), x3.B] : List Int), c7⟩, ⟨a8, List.length ([(w64 ((w64 (p0.Inputs + 2)) + s1.1)), (w64 (0 - x3.A)), (w64 (0 - x3.B))] : List Int), c8⟩] : List Hd) ([([(w64 (0 - (w64 ((w64 (p0.Inputs + 2)) + s1.1)))), x3.A] : List Int), ([(w64 (0 - (w64 ((w64 (p0.Inputs + 2)) + s1.1)))), x3.B] : List Int), ([(w64 ((w64 (p0.Inputs + 2)) + s1.1)), (w64 (0 - x3.A)), (w64 (0 - x3.B))] : List Int)] : List (List Int)), sl26 (.slice a9 (List.length ([([(w64 (0 - (w64 ((w64 (p0.Inputs + 2)) + s1.1)))), x3.A] : List Int), ([(w64 (0 - (w64 ((w64 (p0.Inputs + 2)) + s1.1)))), x3.B] : List Int), ([(w64 ((w64 (p0.Inputs + 2)) + s1.1)), (w64 (0 - x3.A)), (w64 (0 - x3.B))] : List Int)] : List (List Int))) c9) ([⟨a6, List.length ([(w64 (0 - (w64 ((w64 (p0.Inputs + 2)) + s1.1)))), x3.A] : List Int), c6⟩, ⟨a7, List.length ([(w64 (0 - (w64 ((w64 (p0.Inputs + 2)) + s1.1)))), x3.B] : List Int), c7⟩, ⟨a8, List.length ([(w64 ((w64 (p0.Inputs + 2)) + s1.1)), (w64 (0 - x3.A)), (w64 (0 - x3.B))] : List Int), c8⟩] : List Hd), BX b3 48 [I (w64 ((w64 (p0.Inputs + 1)) + (len p0.Gates))), L a10 s2.2 c10], HP.all own26 rs3 s2.2, sl26 (L a10 s2.2 c10) rs3, BX b2 48 [I 0, L none ([] : List (List Int)) 0], BX b1 53 [I p0.Inputs, L a1 p0.Gates c1]] w16 S19 := Sep.pick [2, 0, 1, 3, 4, 5, 6, 7, 8, 9] hs (by decide) rfl
         have hs : Sep [HP.all own26 ([⟨a13, List.length x5.1, c13⟩] : List Hd) ([x5.1] : List (List Int)), sl26 (L a14 ([x5.1] : List (List Int)) c14) ([⟨a13, List.length x5.1, c13⟩] : List Hd), HP.all own26 ([⟨a6, List.length ([(w64 (0 - (w64 ((w64 (p0.Inputs + 2)) + s1.1)))), x3.A] : List Int), c6⟩, ⟨a7, List.length ([(w64 (0 - (w64 ((w64 (p0.Inputs + 2)) + s1.1)))), x3.B] : List Int), c7⟩, ⟨a8, List.length ([(w64 ((w64 (p0.Inputs + 2)) + s1.1)), (w64 (0 - x3.A)), (w64 (0 - x3.B))] : List Int), c8⟩] : List Hd) ([([(w64 (0 - (w64 ((w64 (p0.Inputs + 2)) + s1.1)))), x3.A] : List Int), ([(w64 (0 - (w64 ((w64 (p0.Inputs + 2)) + s1.1)))), x3.B] : List Int), ([(w64 ((w64 (p0.Inputs + 2)) + s1.1)), (w64 (0 - x3.A)), (w64 (0 - x3.B))] : List Int)] : List (List Int)), sl26 (.slice a9 (List.length ([([(w64 (0 - (w64 ((w64 (p0.Inputs + 2)) + s1.1)))), x3.A] : List Int), ([(w64 (0 - (w64 ((w64 (p0.Inputs + 2)) + s1.1)))), x3.B] : List Int), ([(w64 ((w64 (p0.Inputs + 2)) + s1.1)), (w64 (0 - x3.A)), (w64 (0 - x3.B))] : List Int)] : List (List Int))) c9) ([⟨a6, List.length ([(w64 (0 - (w64 ((w64 (p0.Inputs + 2)) + s1.1)))), x3.A] : List Int), c6⟩, ⟨a7, List.length ([(w64 (0 - (w64 ((w64 (p0.Inputs + 2)) + s1.1)))), x3.B] : List Int), c7⟩, ⟨a8, List.length ([(w64 ((w64 (p0.Inputs + 2)) + s1.1)), (w64 (0 - x3.A)), (w64 (0 - x3.B))] : List Int), c8⟩] : List Hd), BX b3 48 [I (w64 ((w64 (p0.Inputs + 1)) + (len p0.Gates))), L a10 s2.2 c10], HP.all own26 rs3 s2.2, sl26 (L a10 s2.2 c10) rs3, BX b2 48 [I 0, L none ([] : List (List Int)) 0], BX b1 53 [I p0.Inputs, L a1 p0.Gates c1]] w16 S19 := Sep.merge hs (fun _ h => h)
         have hs : Sep [sl26 (L a10 s2.2 c10) rs3, HP.all own26 rs3 s2.2, HP.all own26 ([⟨a13, List.length x5.1, c13⟩] : List Hd) ([x5.1] : List (List Int)), sl26 (L a14 ([x5.1] : List (List Int)) c14) ([⟨a13, List.length x5.1, c13⟩] : List Hd), HP.all own26 ([⟨a6, List.length ([(w64 (0 - (w64 ((w64 (p0.Inputs + 2)) + s1.1)))), x3.A] : List Int), c6⟩, ⟨a7, List.length ([(w64 (0 - (w64 ((w64 (p0.Inputs + 2)) + s1.1)))), x3.B] : List Int), c7⟩, ⟨a8, List.length ([(w64 ((w64 (p0.Inputs + 2)) + s1.1)), (w64 (0 - x3.A)), (w64 (0 - x3.B))] : List Int), c8⟩] : List Hd) ([([(w64 (0 - (w64 ((w64 (p0.Inputs + 2)) + s1.1)))), x3.A] : List Int), ([(w64 (0 - (w64 ((w64 (p0.Inputs + 2)) + s1.1)))), x3.B] : List Int), ([(w64 ((w64 (p0.Inputs + 2)) + s1.1)), (w64 (0 - x3.A)), (w64 (0 - x3.B))] : List Int)] : List (List Int)), sl26 (.slice a9 (List.length ([([(w64 (0 - (w64 ((w64 (p0.Inputs + 2)) + s1.1)))), x3.A] : List Int), ([(w64 (0 - (w64 ((w64 (p0.Inputs + 2)) + s1.1)))), x3.B] : List Int), ([(w64 ((w64 (p0.Inputs + 2)) + s1.1)), (w64 (0 - x3.A)), (w64 (0 - x3.B))] : List Int)] : List (List Int))) c9) ([⟨a6, List.length ([(w64 (0 - (w64 ((w64 (p0.Inputs + 2)) + s1.1)))), x3.A] : List Int), c6⟩, ⟨a7, List.length ([(w64 (0 - (w64 ((w64 (p0.Inputs + 2)) + s1.1)))), x3.B] : List Int), c7⟩, ⟨a8, List.length ([(w64 ((w64 (p0.Inputs + 2)) + s1.1)), (w64 (0 - x3.A)), (w64 (0 - x3.B))] : List Int), c8⟩] : List Hd), BX b3 48 [I (w64 ((w64 (p0.Inputs + 1)) + (len p0.Gates))), L a10 s2.2 c10], BX b2 48 [I 0, L none ([] : List (List Int)) 0], BX b1 53 [I p0.Inputs, L a1 p0.Gates c1]] w16 S19 := Sep.pick [6, 5, 0, 1, 2, 3, 4, 7, 8] hs (by decide) rfl
         obtain ⟨x6, hx6, h⟩ := bindE h
         refine q_appendD hs hM2 Try.underlying39 rel26 rfl rfl rfl hF rfl rfl (hs.rv 3 rfl) hx6 fun a15 c15 rs5 w17 S20 fr hs hp hF => ?_
         have r1 := r1.stp hM2 hp
         have hM2 := hM2.stp hp
         have hs : Sep [sl26 (L a15 x6 c15) rs5, HP.all own26 rs5 x6, sl26 (L a14 ([x5.1] : List (List Int)) c14) ([⟨a13, List.length x5.1, c13⟩] : List Hd), HP.all own26 ([⟨a6, List.length ([(w64 (0 - (w64 ((w64 (p0.Inputs + 2)) + s1.1)))), x3.A] : List Int), c6⟩, ⟨a7, List.length ([(w64 (0 - (w64 ((w64 (p0.Inputs + 2)) + s1.1)))), x3.B] : List Int), c7⟩, ⟨a8, List.length ([(w64 ((w64 (p0.Inputs + 2)) + s1.1)), (w64 (0 - x3.A)), (w64 (0 - x3.B))] : List Int), c8⟩] : List Hd) ([([(w64 (0 - (w64 ((w64 (p0.Inputs + 2)) + s1.1)))), x3.A] : List Int), ([(w64 (0 - (w64 ((w64 (p0.Inputs + 2)) + s1.1)))), x3.B] : List Int), ([(w64 ((w64 (p0.Inputs + 2)) + s1.1)), (w64 (0 - x3.A)), (w64 (0 - x3.B))] : List Int)] : List (List Int)), sl26 (.slice a9 (List.length ([([(w64 (0 - (w64 ((w64 (p0.Inputs + 2)) + s1.1)))), x3.A] : List Int), ([(w64 (0 - (w64 ((w64 (p0.Inputs + 2)) + s1.1)))), x3.B] : List Int), ([(w64 ((w64 (p0.Inputs + 2)) + s1.1)), (w64 (0 - x3.A)), (w64 (0 - x3.B))] : List Int)] : List (List Int))) c9) ([⟨a6, List.length ([(w64 (0 - (w64 ((w64 (p0.Inputs + 2)) + s1.1)))), x3.A] : List Int), c6⟩, ⟨a7, List.length ([(w64 (0 - (w64 ((w64 (p0.Inputs + 2)) + s1.1)))), x3.B] : List Int), c7⟩, ⟨a8, List.length ([(w64 ((w64 (p0.Inputs + 2)) + s1.1)), (w64 (0 - x3.A)), (w64 (0 - x3.B))] : List Int), c8⟩] : List Hd), BX b3 48 [I (w64 ((w64 (p0.Inputs + 1)) + (len p0.Gates))), L a10 s2.2 c10], BX b2 48 [I 0, L none ([] : List (List Int)) 0], BX b1 53 [I p0.Inputs, L a1 p0.Gates c1]] w17 S20 := hs
         have hs : Sep [sl26 (L a15 x6 c15) rs5, HP.all own26 rs5 x6, HP.all own26 ([⟨a6, List.length ([(w64 (0 - (w64 ((w64 (p0.Inputs + 2)) + s1.1)))), x3.A] : List Int), c6⟩, ⟨a7, List.length ([(w64 (0 - (w64 ((w64 (p0.Inputs + 2)) + s1.1)))), x3.B] : List Int), c7⟩, ⟨a8, List.length ([(w64 ((w64 (p0.Inputs + 2)) + s1.1)), (w64 (0 - x3.A)), (w64 (0 - x3.B))] : List Int), c8⟩] : List Hd) ([([(w64 (0 - (w64 ((w64 (p0.Inputs + 2)) + s1.1)))), x3.A] : List Int), ([(w64 (0 - (w64 ((w64 (p0.Inputs + 2)) + s1.1)))), x3.B] : List Int), ([(w64 ((w64 (p0.Inputs + 2)) + s1.1)), (w64 (0 - x3.A)), (w64 (0 - x3.B))] : List Int)] : List (List Int)), sl26 (.slice a9 (List.length ([([(w64 (0 - (w64 ((w64 (p0.Inputs + 2)) + s1.1)))), x3.A] : List Int), ([(w64 (0 - (w64 ((w64 (p0.Inputs + 2)) + s1.1)))), x3.B] : List Int), ([(w64 ((w64 (p0.Inputs + 2)) + s1.1)), (w64 (0 - x3.A)), (w64 (0 - x3.B))] : List Int)] : List (List Int))) c9) ([⟨a6, List.length ([(w64 (0 - (w64 ((w64 (p0.Inputs + 2)) + s1.1)))), x3.A] : List Int), c6⟩, ⟨a7, List.length ([(w64 (0 - (w64 ((w64 (p0.Inputs + 2)) + s1.1)))), x3.B] : List Int), c7⟩, ⟨a8, List.length ([(w64 ((w64 (p0.Inputs + 2)) + s1.1)), (w64 (0 - x3.A)), (w64 (0 - x3.B))] : List Int), c8⟩] : List Hd), BX b3 48 [I (w64 ((w64 (p0.Inputs + 1)) + (len p0.Gates))), L a10 s2.2 c10], BX b2 48 [I 0, L none ([] : List (List Int)) 0], BX b1 53 [I p0.Inputs, L a1 p0.Gates c1]] w17 S20 := Sep.pick [0, 1, 3, 4, 5, 6, 7] hs (by decide) rfl
         refine from_pure 1 [(1, I p1), (2, B b1 0), (4, B b2 0), (6, B b3 0), (36, L a1 p0.Gates c1), (37, I (len p0.Gates)), (38, I s1.1), (66, .slice a9 (List.length ([([(w64 (0 - (w64 ((w64 (p0.Inputs + 2)) + s1.1)))), x3.A] : List Int), ([(w64 (0 - (w64 ((w64 (p0.Inputs + 2)) + s1.1)))), x3.B] : List Int), ([(w64 ((w64 (p0.Inputs + 2)) + s1.1)), (w64 (0 - x3.A)), (w64 (0 - x3.B))] : List Int)] : List (List Int))) c9), (67, I (len ([([(w64 (0 - (w64 ((w64 (p0.Inputs + 2)) + s1.1)))), x3.A] : List Int), ([(w64 (0 - (w64 ((w64 (p0.Inputs + 2)) + s1.1)))), x3.B] : List Int), ([(w64 ((w64 (p0.Inputs + 2)) + s1.1)), (w64 (0 - x3.A)), (w64 (0 - x3.B))] : List Int)] : List (List Int)))), (68, I s2.1), (81, L a15 x6 c15), (82, B b3 1)] hF (by kernel_rfl) fun fr hF => ?_
         refine q_storeBox 4 hs hM2 rfl [I (w64 ((w64 (p0.Inputs + 1)) + (len p0.Gates))), L a15 x6 c15] rfl hF rfl rfl (by kernel_rfl) rfl rfl rfl fun w18 S21 hs hp hF => ?_
         have r1 := r1.stp hM2 hp
         have hM2 := hM2.stp hp
         have hs : Sep [sl26 (L a15 x6 c15) rs5, HP.all own26 rs5 x6, HP.all own26 ([⟨a6, List.length ([(w64 (0 - (w64 ((w64 (p0.Inputs + 2)) + s1.1)))), x3.A] : List Int), c6⟩, ⟨a7, List.length ([(w64 (0 - (w64 ((w64 (p0.Inputs + 2)) + s1.1)))), x3.B] : List Int), c7⟩, ⟨a8, List.length ([(w64 ((w64 (p0.Inputs + 2)) + s1.1)), (w64 (0 - x3.A)), (w64 (0 - x3.B))] : List Int), c8⟩] : List Hd) ([([(w64 (0 - (w64 ((w64 (p0.Inputs + 2)) + s1.1)))), x3.A] : List Int), ([(w64 (0 - (w64 ((w64 (p0.Inputs + 2)) + s1.1)))), x3.B] : List Int), ([(w64 ((w64 (p0.Inputs + 2)) + s1.1)), (w64 (0 - x3.A)), (w64 (0 - x3.B))] : List Int)] : List (List Int)), sl26 (.slice a9 (List.length ([([(w64 (0 - (w64 ((w64 (p0.Inputs + 2)) + s1.1)))), x3.A] : List Int), ([(w64 (0 - (w64 ((w64 (p0.Inputs + 2)) + s1.1)))), x3.B] : List Int), ([(w64 ((w64 (p0.Inputs + 2)) + s1.1)), (w64 (0 - x3.A)), (w64 (0 - x3.B))] : List Int)] : List (List Int))) c9) ([⟨a6, List.length ([(w64 (0 - (w64 ((w64 (p0.Inputs + 2)) + s1.1)))), x3.A] : List Int), c6⟩, ⟨a7, List.length ([(w64 (0 - (w64 ((w64 (p0.Inputs + 2)) + s1.1)))), x3.B] : List Int), c7⟩, ⟨a8, List.length ([(w64 ((w64 (p0.Inputs + 2)) + s1.1)), (w64 (0 - x3.A)), (w64 (0 - x3.B))] : List Int), c8⟩] : List Hd), BX b3 48 [I (w64 ((w64 (p0.Inputs + 1)) + (len p0.Gates))), L a15 x6 c15], BX b2 48 [I 0, L none ([] : List (List Int)) 0], BX b1 53 [I p0.Inputs, L a1 p0.Gates c1]] w18 S21 := hs
         refine from_end rfl ?_
         refine blk_normal (then_normal ?_)
         refine (wp_pure [(1, I p1), (2, B b1 0), (4, B b2 0), (6, B b3 0), (36, L a1 p0.Gates c1), (37, I (len p0.Gates)), (38, I s1.1), (66, .slice a9 (List.length ([([(w64 (0 - (w64 ((w64 (p0.Inputs + 2)) + s1.1)))), x3.A] : List Int), ([(w64 (0 - (w64 ((w64 (p0.Inputs + 2)) + s1.1)))), x3.B] : List Int), ([(w64 ((w64 (p0.Inputs + 2)) + s1.1)), (w64 (0 - x3.A)), (w64 (0 - x3.B))] : List Int)] : List (List Int))) c9), (67, I (len ([([(w64 (0 - (w64 ((w64 (p0.Inputs + 2)) + s1.1)))), x3.A] : List Int), ([(w64 (0 - (w64 ((w64 (p0.Inputs + 2)) + s1.1)))), x3.B] : List Int), ([(w64 ((w64 (p0.Inputs + 2)) + s1.1)), (w64 (0 - x3.A)), (w64 (0 - x3.B))] : List Int)] : List (List Int)))), (68, I (w64 (s2.1 + 1)))] hF (by kernel_rfl) fun fr hF => then_normal ?_)
         have hs : Sep [HP.all own26 ([⟨a6, List.length ([(w64 (0 - (w64 ((w64 (p0.Inputs + 2)) + s1.1)))), x3.A] : List Int), c6⟩, ⟨a7, List.length ([(w64 (0 - (w64 ((w64 (p0.Inputs + 2)) + s1.1)))), x3.B] : List Int), c7⟩, ⟨a8, List.length ([(w64 ((w64 (p0.Inputs + 2)) + s1.1)), (w64 (0 - x3.A)), (w64 (0 - x3.B))] : List Int), c8⟩] : List Hd) ([([(w64 (0 - (w64 ((w64 (p0.Inputs + 2)) + s1.1)))), x3.A] : List Int), ([(w64 (0 - (w64 ((w64 (p0.Inputs + 2)) + s1.1)))), x3.B] : List Int), ([(w64 ((w64 (p0.Inputs + 2)) + s1.1)), (w64 (0 - x3.A)), (w64 (0 - x3.B))] : List Int)] : List (List Int)), sl26 (.slice a9 (List.length ([([(w64 (0 - (w64 ((w64 (p0.Inputs + 2)) + s1.1)))), x3.A] : List Int), ([(w64 (0 - (w64 ((w64 (p0.Inputs + 2)) + s1.1)))), x3.B] : List Int), ([(w64 ((w64 (p0.Inputs + 2)) + s1.1)), (w64 (0 - x3.A)), (w64 (0 - x3.B))] : List Int)] : List (List Int))) c9) ([⟨a6, List.length ([(w64 (0 - (w64 ((w64 (p0.Inputs + 2)) + s1.1)))), x3.A] : List Int), c6⟩, ⟨a7, List.length ([(w64 (0 - (w64 ((w64 (p0.Inputs + 2)) + s1.1)))), x3.B] : List Int), c7⟩, ⟨a8, List.length ([(w64 ((w64 (p0.Inputs + 2)) + s1.1)), (w64 (0 - x3.A)), (w64 (0 - x3.B))] : List Int), c8⟩] : List Hd), BX b3 48 [I (w64 ((w64 (p0.Inputs + 1)) + (len p0.Gates))), L a15 x6 c15], HP.all own26 rs5 x6, sl26 (L a15 x6 c15) rs5, BX b2 48 [I 0, L none ([] : List (List Int)) 0], BX b1 53 [I p0.Inputs, L a1 p0.Gates c1]] w18 S21 := Sep.pick [2, 3, 4, 1, 0, 5, 6] hs (by decide) rfl
         exact ⟨_, (Option.some.inj h).symm, rs5, a15, c15, S21, _, hF.sub _ (by kernel_rfl), hM2, hs⟩
       replace h := iteF hb h
       have hs : Sep [BX b3 48 [I (w64 ((w64 (p0.Inputs + 1)) + (len p0.Gates))), L a10 s2.2 c10], HP.all own26 rs3 s2.2, sl26 (L a10 s2.2 c10) rs3, BX b2 48 [I 0, L none ([] : List (List Int)) 0], BX b1 53 [I p0.Inputs, L a1 p0.Gates c1]] w2i S16 := Sep.pick [2, 3, 4, 5, 6] hs (by decide) rfl
       refine (wp_exit (then_exit (then_exit (blk_exit_eq ?_))))
       obtain rfl := hr2 _ (Option.some.inj h).symm
       exact then_normal ⟨rs3, a10, c10, S16, _, hF.sub _ (by kernel_rfl), hM2, hs⟩
     · obtain ⟨rs4, a11, c11, S17, F4, hF, hMx, hs⟩ := hM
       have r1 := r1.mem hMx
       have hM1 := hM1.trans hMx
       refine blk_normal (then_normal ?_)
       refine (wp_pure [(1, I p1), (2, B b1 0), (4, B b2 0), (6, B b3 0), (36, L a1 p0.Gates c1), (37, I (len p0.Gates)), (38, I (w64 (s1.1 + 1)))] hF (by kernel_rfl) fun fr hF => then_normal ?_)
       exact ⟨_, (Option.some.inj h).symm, rs4, a11, c11, S17, _, hF.sub _ (by kernel_rfl), hM1, hs⟩
   replace h := iteF hb h
   have hs : Sep [BX b3 48 [I (w64 ((w64 (p0.Inputs + 1)) + (len p0.Gates))), L a4 s1.2 c4], HP.all own26 rs1 s1.2, sl26 (L a4 s1.2 c4) rs1, BX b2 48 [I 0, L none ([] : List (List Int)) 0]] w1i S8 := Sep.pick [0, 1, 2, 3] hs (by decide) rfl
   refine (wp_exit (then_exit (then_exit (blk_exit_eq ?_))))
   obtain rfl := hr1 _ (Option.some.inj h).symm
   exact then_normal ⟨rs1, a4, c4, S8, _, hF.sub _ (by kernel_rfl), hM1, hs⟩
 · obtain ⟨rs2, a5, c5, S9, F2, hF, hMx, hs⟩ := hM
   have hM0 := hM0.trans hMx
   refine wp_seq (wp_text' ?_)
   refine from_pure 1 [(1, I p1), (4, B b2 0), (6, B b3 0), (85, B b3 1)] hF (by kernel_rfl) fun fr hF => ?_
   refine s_loadBox (L a5 rl1 c5) ty39 rfl rfl hF rfl (hs.bx 0 rfl) rfl rfl fun fr hF => ?_
   refine from_pure 1 [(4, B b2 0), (6, B b3 0), (86, L a5 rl1 c5), (87, I p1)] hF (by kernel_rfl) fun fr hF => ?_
   refine q_lit (E := 3) hs hM0 [I p1] (([p1] : List Int).map Flat.enc) ([p1] : List Int) rfl rfl hF [I p1] rfl (fun w => by kernel_rfl) (css_flat _) rfl rfl rfl fun a16 c16 w19 S22 fr hs hp hF => ?_
   have hM0 := hM0.stp hp
   have hs : Sep [sl3 (L a16 ([p1] : List Int) c16) ([p1] : List Int), BX b3 48 [I (w64 ((w64 (p0.Inputs + 1)) + (len p0.Gates))), L a5 rl1 c5], HP.all own26 rs2 rl1, sl26 (L a5 rl1 c5) rs2, BX b2 48 [I 0, L none ([] : List (List Int)) 0]] w19 S22 := hs
   refine q_lit (E := 26) hs hM0 [L a16 ([p1] : List Int) c16] (([⟨a16, List.length ([p1] : List Int), c16⟩] : List Hd).map Flat.enc) ([⟨a16, List.length ([p1] : List Int), c16⟩] : List Hd) rfl rfl hF [L a16 ([p1] : List Int) c16] rfl (fun w => by kernel_rfl) (css_flat _) rfl rfl rfl fun a17 c17 w20 S23 fr hs hp hF => ?_
   have hM0 := hM0.stp hp
   have hs : Sep [sl26 (L a17 ([([p1] : List Int)] : List (List Int)) c17) ([⟨a16, List.length ([p1] : List Int), c16⟩] : List Hd), sl3 (L a16 ([p1] : List Int) c16) ([p1] : List Int), BX b3 48 [I (w64 ((w64 (p0.Inputs + 1)) + (len p0.Gates))), L a5 rl1 c5], HP.all own26 rs2 rl1, sl26 (L a5 rl1 c5) rs2, BX b2 48 [I 0, L none ([] : List (List Int)) 0]] w20 S23 := hs
   have hs : Sep [HP.all own26 ([] : List Hd) ([] : List (List Int)), sl26 (L a17 ([([p1] : List Int)] : List (List Int)) c17) ([⟨a16, List.length ([p1] : List Int), c16⟩] : List Hd), sl3 (L a16 ([p1] : List Int) c16) ([p1] : List Int), BX b3 48 [I (w64 ((w64 (p0.Inputs + 1)) + (len p0.Gates))), L a5 rl1 c5], HP.all own26 rs2 rl1, sl26 (L a5 rl1 c5) rs2, BX b2 48 [I 0, L none ([] : List (List Int)) 0]] w20 S23 := hs.emp (HP.all own26 [] []) trivial
   have hs : Sep [sl3 (L a16 ([p1] : List Int) c16) ([p1] : List Int), HP.all own26 ([] : List Hd) ([] : List (List Int)), sl26 (L a17 ([([p1] : List Int)] : List (List Int)) c17) ([⟨a16, List.length ([p1] : List Int), c16⟩] : List Hd), BX b3 48 [I (w64 ((w64 (p0.Inputs + 1)) + (len p0.Gates))), L a5 rl1 c5], HP.all own26 rs2 rl1, sl26 (L a5 rl1 c5) rs2, BX b2 48 [I 0, L none ([] : List (List Int)) 0]] w20 S23 := Sep.pick [2, 0, 1, 3, 4, 5, 6] hs (by decide) rfl
   have hs : Sep [HP.all own26 ([⟨a16, List.length ([p1] : List Int), c16⟩] : List Hd) ([([p1] : List Int)] : List (List Int)), sl26 (L a17 ([([p1] : List Int)] : List (List Int)) c17) ([⟨a16, List.length ([p1] : List Int), c16⟩] : List Hd), BX b3 48 [I (w64 ((w64 (p0.Inputs + 1)) + (len p0.Gates))), L a5 rl1 c5], HP.all own26 rs2 rl1, sl26 (L a5 rl1 c5) rs2, BX b2 48 [I 0, L none ([] : List (List Int)) 0]] w20 S23 := Sep.merge hs (fun _ h => h)
   have hs : Sep [sl26 (L a5 rl1 c5) rs2, HP.all own26 rs2 rl1, HP.all own26 ([⟨a16, List.length ([p1] : List Int), c16⟩] : List Hd) ([([p1] : List Int)] : List (List Int)), sl26 (L a17 ([([p1] : List Int)] : List (List Int)) c17) ([⟨a16, List.length ([p1] : List Int), c16⟩] : List Hd), BX b3 48 [I (w64 ((w64 (p0.Inputs + 1)) + (len p0.Gates))), L a5 rl1 c5], BX b2 48 [I 0, L none ([] : List (List Int)) 0]] w20 S23 := Sep.pick [4, 3, 0, 1, 2, 5] hs (by decide) rfl
   obtain ⟨x7, hx7, h⟩ := bindE h
   refine q_appendD hs hM0 Try.underlying39 rel26 rfl rfl rfl hF rfl rfl (hs.rv 3 rfl) hx7 fun a18 c18 rs6 w21 S24 fr hs hp hF => ?_
   have hM0 := hM0.stp hp
   have hs : Sep [sl26 (L a18 x7 c18) rs6, HP.all own26 rs6 x7, sl26 (L a17 ([([p1] : List Int)] : List (List Int)) c17) ([⟨a16, List.length ([p1] : List Int), c16⟩] : List Hd), BX b3 48 [I (w64 ((w64 (p0.Inputs + 1)) + (len p0.Gates))), L a5 rl1 c5], BX b2 48 [I 0, L none ([] : List (List Int)) 0]] w21 S24 := hs
   have hs : Sep [sl26 (L a18 x7 c18) rs6, HP.all own26 rs6 x7, BX b3 48 [I (w64 ((w64 (p0.Inputs + 1)) + (len p0.Gates))), L a5 rl1 c5], BX b2 48 [I 0, L none ([] : List (List Int)) 0]] w21 S24 := Sep.pick [0, 1, 3, 4] hs (by decide) rfl
   refine from_pure 1 [(4, B b2 0), (6, B b3 0), (90, L a18 x7 c18), (91, B b3 1)] hF (by kernel_rfl) fun fr hF => ?_
   refine q_storeBox 2 hs hM0 rfl [I (w64 ((w64 (p0.Inputs + 1)) + (len p0.Gates))), L a18 x7 c18] rfl hF rfl rfl (by kernel_rfl) rfl rfl rfl fun w22 S25 hs hp hF => ?_
   have hM0 := hM0.stp hp
   have hs : Sep [sl26 (L a18 x7 c18) rs6, HP.all own26 rs6 x7, BX b3 48 [I (w64 ((w64 (p0.Inputs + 1)) + (len p0.Gates))), L a18 x7 c18], BX b2 48 [I 0, L none ([] : List (List Int)) 0]] w22 S25 := hs
   refine from_end rfl (then_normal ?_)
   refine wp_seq (wp_text' ?_)
   refine s_loadBoxS ty48 rfl rfl hF rfl (hs.bx 2 rfl) rfl rfl fun fr hF => ?_
   have hs : Sep [sl26 (L a18 x7 c18) rs6, HP.all own26 rs6 x7, BX b2 48 [I 0, L none ([] : List (List Int)) 0]] w22 S25 := Sep.pick [0, 1, 3] hs (by decide) rfl
   refine q_storeBoxS 2 hs hM0 rfl [I (w64 ((w64 (p0.Inputs + 1)) + (len p0.Gates))), L a18 x7 c18] rfl hF rfl rfl (by kernel_rfl) rfl rfl rfl fun w23 S26 hs hp hF => ?_
   have hM0 := hM0.stp hp
   have hs : Sep [sl26 (L a18 x7 c18) rs6, HP.all own26 rs6 x7, BX b2 48 [I (w64 ((w64 (p0.Inputs + 1)) + (len p0.Gates))), L a18 x7 c18]] w23 S26 := hs
   refine from_pure 1 [(4, B b2 0), (5, .bool true)] hF (by kernel_rfl) fun fr hF => ?_
   refine from_end rfl (then_normal ?_)
   have hrets := fun {σ : List (Nat × Value)} (h : σ = [(4, B b2 0), (5, .bool true)]) => (by subst h; exact (Rets.cell rfl ty48 (hs.bx 2 rfl) rfl rfl (Rets.tmp rfl Rets.nil)) : Rets Try.prog σ w23 [.cell 4 48, .tmp 5] [.agg #[I (w64 ((w64 (p0.Inputs + 1)) + (len p0.Gates))), L a18 x7 c18], .bool true])
   obtain rfl := Option.some.inj h
   have hs : Sep [sl26 (L a18 x7 c18) rs6, HP.all own26 rs6 x7] w23 S26 := Sep.pick [0, 1] hs (by decide) rfl
   exact wp_ret (retG (rs := [.cell 4 48, .tmp 5]) rfl (hF.sub [(4, B b2 0), (5, .bool true)] (by kernel_rfl)) (hrets rfl) rfl ⟨_, rfl, a18, c18, rs6, rfl, S26, hM0.out, hs⟩)

theorem impl_isLiteral_ok (p0 : Int) (p1 : Int) {r : Bool} (h : impl_isLiteral p0 p1 = some r) {w : World} :
   Calls Try.prog 73 [I p0, I p1].toArray w fun e w' => ∃ v, e = .returned v ∧ v = .bool r ∧ Chg Non w w' := by
 unfold impl_isLiteral at h
 have hs := Sep.nil w Non
 have hM0 : Mem w Non (fun k => (False) ∧ k < w.heap.size) w Non (fun k => (False) ∧ k < w.heap.size) := Mem.start (fun _ h => h.elim) (fun _ h => h.2) (fun _ h => h.elim)
 refine enter (N := 18) Try.func73 rfl Try.ntmps73 rfl fun fr hF => ?_
 refine wp_seq (wp_pure [(0, I p0), (1, I p1)] hF (by kernel_rfl) fun fr hF => then_normal ?_)
 refine wp_seq (region_b [] [true, true, true, true, true, true, true, true, true, true, true, true, true, true]
     [.eq (I p0), .eq (.bool (p0 != 0)), .eq (.bool (p0 != 0)), .eq (I p0), .eq (I p1), .eq (I (w64 (0 - p1))), .eq (.bool (decide (p0 ≥ (w64 (0 - p1))))), .eq (.bool ((p0 != 0) && (decide (p0 ≥ (w64 (0 - p1)))))), .eq (.bool ((p0 != 0) && (decide (p0 ≥ (w64 (0 - p1)))))), .eq (I p0), .eq (I p1), .eq (.bool (decide (p0 ≤ p1))), .eq (.bool (((p0 != 0) && (decide (p0 ≥ (w64 (0 - p1))))) && (decide (p0 ≤ p1)))), .eq (.bool (((p0 != 0) && (decide (p0 ≥ (w64 (0 - p1))))) && (decide (p0 ≤ p1))))]
     [(4, .bool (((p0 != 0) && (decide (p0 ≥ (w64 (0 - p1))))) && (decide (p0 ≤ p1))))] mix hF (by kernel_rfl) (by kernel_rfl) (by kernel_rfl) trivial (fun hG => trivial) (by kernel_rfl) fun fr w1 hF hE hc => then_normal ?_)
 have hs := hs.ext hc
 have hM0 := hM0.ext hc
 obtain rfl := Option.some.inj h
 exact wp_ret (ret1 rfl hF rfl ⟨_, rfl, rfl, hM0.chg⟩)

theorem impl_varOf_ok (p0 : Int) {r : Int} (h : impl_varOf p0 = some r) {w : World} :
   Calls Try.prog 115 [I p0].toArray w fun e w' => ∃ v, e = .returned v ∧ v = I r ∧ Chg Non w w' := by
 unfold impl_varOf at h
 have hs := Sep.nil w Non
 have hM0 : Mem w Non (fun k => (False) ∧ k < w.heap.size) w Non (fun k => (False) ∧ k < w.heap.size) := Mem.start (fun _ h => h.elim) (fun _ h => h.2) (fun _ h => h.elim)
 refine enter (N := 8) Try.func115 rfl Try.ntmps115 rfl fun fr hF => ?_
 refine wp_seq (wp_pure [(0, I p0)] hF (by kernel_rfl) fun fr hF => then_normal ?_)
 refine wp_seq ?_
 refine wp_seq (wp_pure [(0, I p0), (4, .bool (decide (p0 < 0)))] hF (by kernel_rfl) fun fr hF => then_normal ?_)
 refine (wp_if hF (b := (decide (p0 < 0))) rfl (fun hb => ?_) (fun hb => ?_))
 · replace h := iteT hb h
   refine wp_seq (wp_pure [(2, I (w64 (0 - p0)))] hF (by kernel_rfl) fun fr hF => then_normal ?_)
   obtain rfl := Option.some.inj h
   exact wp_ret (then_ret (ret1 rfl hF rfl ⟨_, rfl, rfl, hM0.chg⟩))
 replace h := iteF hb h
 refine (wp_skip (then_normal ?_))
 refine wp_seq (wp_pure [(2, I p0)] hF (by kernel_rfl) fun fr hF => then_normal ?_)
 obtain rfl := Option.some.inj h
 exact wp_ret (ret1 rfl hF rfl ⟨_, rfl, rfl, hM0.chg⟩)

theorem impl_CircuitOk_ok (n : Nat) (p0 : D.Circuit) {r : Bool} (h : impl_CircuitOk n p0 = some r) {w : World} {G0 : Nat → Prop} {va0 : Value} (ra0 : RV w G0 va0 p0) :
   Calls Try.prog 72 [va0].toArray w fun e w' => ∃ v, e = .returned v ∧ v = .bool r ∧ Chg Non w w' := by
 unfold impl_CircuitOk at h
 have hs := Sep.nil w Non
 have hM0 : Mem w Non (fun k => (G0 k) ∧ k < w.heap.size) w Non (fun k => (G0 k) ∧ k < w.heap.size) := Mem.start (fun _ h => h.elim) (fun _ h => h.2) (fun _ h => h.elim)
 have ra0 := ra0.sub (F' := (fun k => (G0 k) ∧ k < w.heap.size)) (fun k hk h => ⟨h, hk⟩)
 obtain ⟨v1, rfl, r1⟩ := RV.Circuit ra0
 obtain ⟨a1, c1, rfl, -⟩ := r1.slice
 refine enter (N := 68) Try.func72 rfl Try.ntmps72 rfl fun fr hF => ?_
 refine wp_seq (wp_text' ?_)
 refine q_box hs hM0 [I p0.Inputs, L a1 p0.Gates c1] rfl rfl hF rfl rfl fun b1 w1 S1 fr hs hp hF => ?_
 have r1 := r1.stp hM0 hp
 have hM0 := hM0.stp hp
 have hs : Sep [BX b1 53 [I p0.Inputs, L a1 p0.Gates c1]] w1 S1 := hs
 refine from_pure 1 [(1, B b1 0)] hF (by kernel_rfl) fun fr hF => ?_
 refine from_end rfl (then_normal ?_)
 refine wp_seq ?_
 refine wp_seq (region_b [] [true, false, true, true, true, false, true, true, true, true, false, true, true, true]
     [.eq (B b1 0), .eq (I p0.Inputs), .eq (.bool (decide (p0.Inputs < 0))), .eq (.bool (decide (p0.Inputs < 0))), .eq (B b1 0), .eq (I p0.Inputs), .eq (.bool (decide (p0.Inputs > 30))), .eq (.bool ((decide (p0.Inputs < 0)) || (decide (p0.Inputs > 30)))), .eq (.bool ((decide (p0.Inputs < 0)) || (decide (p0.Inputs > 30)))), .eq (B b1 1), .eq (L a1 p0.Gates c1), .eq (I (len p0.Gates)), .eq (.bool (decide ((len p0.Gates) > 360))), .eq (.bool (((decide (p0.Inputs < 0)) || (decide (p0.Inputs > 30))) || (decide ((len p0.Gates) > 360))))]
     [(1, B b1 0), (20, .bool (((decide (p0.Inputs < 0)) || (decide (p0.Inputs > 30))) || (decide ((len p0.Gates) > 360))))] mix hF (by kernel_rfl) (by kernel_rfl) (by kernel_rfl) ⟨Pd.mono_eq, Pd.mono_eq, Pd.mono_eq, trivial⟩ (fun hG => ⟨np_loadBox hG hF ty3 rfl rfl (hs.bx 0 rfl) rfl rfl rfl, np_loadBox hG hF ty3 rfl rfl (hs.bx 0 rfl) rfl rfl rfl, np_loadBox hG hF ty51 rfl rfl (hs.bx 0 rfl) rfl rfl rfl, trivial⟩) (by kernel_rfl) fun fr w2 hF hE hc => then_normal ?_)
 have r1 := r1.ext hc
 have hs := hs.ext hc
 have hM0 := hM0.ext hc
 refine (wp_if hF (b := (((decide (p0.Inputs < 0)) || (decide (p0.Inputs > 30))) || (decide ((len p0.Gates) > 360)))) rfl (fun hb => ?_) (fun hb => ?_))
 · replace h := iteT hb h
   have hs : Sep [] w2 S1 := Sep.pick [] hs (by decide) rfl
   refine wp_seq (wp_pure [(2, .bool false)] hF (by kernel_rfl) fun fr hF => then_normal ?_)
   obtain rfl := Option.some.inj h
   exact wp_ret (then_ret (ret1 rfl hF rfl ⟨_, rfl, rfl, hM0.chg⟩))
 replace h := iteF hb h
 refine (wp_skip (then_normal ?_))
 refine wp_seq (wp_text' ?_)
 refine q_makeMap map138 hs hM0 (fun w => by simp [Instr.makeMap, run_newObj_alloc]) rfl rfl hF fun b2 w3 S2 fr hs hp hF => ?_
 have r1 := r1.stp hM0 hp
 have hM0 := hM0.stp hp
 have hs : Sep [MP map138 b2 ([]), BX b1 53 [I p0.Inputs, L a1 p0.Gates c1]] w3 S2 := hs
 refine from_pure 1 [(1, B b1 0), (3, .map (some b2))] hF (by kernel_rfl) fun fr hF => ?_
 refine from_end rfl (then_normal ?_)
 refine wp_seq ?_
 refine wp_seq (wp_text' ?_)
 refine from_pure 1 [(1, B b1 0), (3, .map (some b2)), (22, B b1 1)] hF (by kernel_rfl) fun fr hF => ?_
 refine s_loadBox (L a1 p0.Gates c1) ty51 rfl rfl hF rfl (hs.bx 1 rfl) rfl rfl fun fr hF => ?_
 refine from_pure 2 [(1, B b1 0), (3, .map (some b2)), (23, L a1 p0.Gates c1), (24, I (len p0.Gates)), (25, I 0)] hF (by kernel_rfl) fun fr hF => ?_
 refine from_end rfl (then_normal ?_)
 obtain ⟨rl1, hit1, h⟩ := bindE h
 have hk1 := h
 refine (wp_cut (M := fun fr w' => ∃ s, rl1 = .inl s ∧ ∃ S4 F2, FrS 68 [] fr ∧ Mem w3 S2 (fun k => (G0 k) ∧ k < w.heap.size) w' S4 F2 ∧ Sep [] w' S4) (wp_block (wp_iter (Inv := fun s1 fr w' => ∃ S3 F1, FrS 68 [(1, B b1 0), (3, .map (some b2)), (23, L a1 p0.Gates c1), (24, I (len p0.Gates)), (25, I s1.1)] fr ∧ Mem w3 S2 (fun k => (G0 k) ∧ k < w.heap.size) w' S3 F1 ∧ Sep [MP map138 b2 s1.2, BX b1 53 [I p0.Inputs, L a1 p0.Gates c1]] w' S3) hit1 ⟨S2, _, hF.sub _ (by kernel_rfl), (Mem.start hM0.bd hM0.bdF hM0.dj), hs⟩ fun s1 q1 fr w1i hI h hr1 => ?_)) fun fr w1o hM => ?_)
 · obtain ⟨S3, F1, hF, hM1, hs⟩ := hI
   have r1 := r1.mem hM1
   refine wp_seq (wp_pure [(1, B b1 0), (3, .map (some b2)), (23, L a1 p0.Gates c1), (24, I (len p0.Gates)), (25, I s1.1), (26, .bool (decide (s1.1 < (len p0.Gates))))] hF (by kernel_rfl) fun fr hF => then_normal ?_)
   refine wp_seq (wp_if hF (b := (decide (s1.1 < (len p0.Gates)))) rfl (fun hb => ?_) (fun hb => ?_))
   · replace h := iteT hb h
     refine (wp_skip (then_normal ?_))
     refine wp_seq (wp_block ?_)
     refine wp_seq (wp_text' ?_)
     refine from_pure 1 [(1, B b1 0), (3, .map (some b2)), (23, L a1 p0.Gates c1), (24, I (len p0.Gates)), (25, I s1.1), (27, I s1.1)] hF (by kernel_rfl) fun fr hF => ?_
     obtain ⟨x1, hx1, h⟩ := bindE h
     refine s_elemF (z := x1) (.agg #[I x1.A, I x1.B]) ty103 Try.underlying51 rfl rfl rfl rfl rfl hF rfl (r1) rfl (get?_nn hx1) (get?_at hx1) rfl fun p fr hF => ?_
     refine q_alloc (z := .agg #[I 0, I 0]) hs hM1 [I 0, I 0] rfl rfl hF (by kernel_rfl) rfl fun b3 w4 S5 fr hs hp hF => ?_
     have r1 := r1.stp hM1 hp
     have hM1 := hM1.stp hp
     have hs : Sep [BX b3 103 [I 0, I 0], MP map138 b2 s1.2, BX b1 53 [I p0.Inputs, L a1 p0.Gates c1]] w4 S5 := hs
     refine from_pure 1 [(1, B b1 0), (3, .map (some b2)), (4, I s1.1), (5, B b3 0), (23, L a1 p0.Gates c1), (24, I (len p0.Gates)), (25, I s1.1), (29, .agg #[I x1.A, I x1.B])] hF (by kernel_rfl) fun fr hF => ?_
     refine q_storeBoxS 0 hs hM1 rfl [I x1.A, I x1.B] rfl hF rfl rfl (by kernel_rfl) rfl rfl rfl fun w5 S6 hs hp hF => ?_
     have r1 := r1.stp hM1 hp
     have hM1 := hM1.stp hp
     have hs : Sep [BX b3 103 [I x1.A, I x1.B], MP map138 b2 s1.2, BX b1 53 [I p0.Inputs, L a1 p0.Gates c1]] w5 S6 := hs
     refine from_end rfl (then_normal ?_)
     refine wp_seq (wp_text' ?_)
     refine from_pure 1 [(1, B b1 0), (3, .map (some b2)), (4, I s1.1), (5, B b3 0), (23, L a1 p0.Gates c1), (24, I (len p0.Gates)), (25, I s1.1), (30, B b1 0)] hF (by kernel_rfl) fun fr hF => ?_
     refine s_loadBox (I p0.Inputs) ty3 rfl rfl hF rfl (hs.bx 2 rfl) rfl rfl fun fr hF => ?_
     refine from_pure 4 [(1, B b1 0), (3, .map (some b2)), (5, B b3 0), (6, I (w64 ((w64 (1 + p0.Inputs)) + s1.1))), (23, L a1 p0.Gates c1), (24, I (len p0.Gates)), (25, I s1.1)] hF (by kernel_rfl) fun fr hF => ?_
     refine from_end rfl (then_normal ?_)
     refine wp_seq ?_
     obtain ⟨x2, hx2, h⟩ := bindE h
     obtain ⟨x3, hx3, h⟩ := bindE h
     obtain ⟨x4, hx4, h⟩ := bindE h
     refine wp_seq (region_b [] [true, false, true, false, true, true, true, false, true, false, true, true, true, true, false, false, true]
         [.eq (B b3 0), .eq (I x1.A), .eq (I (w64 ((w64 (1 + p0.Inputs)) + s1.1))), .eq (.bool x2), .eq (.bool (!x2)), .eq (.bool (!x2)), .eq (B b3 1), .eq (I x1.B), .eq (I (w64 ((w64 (1 + p0.Inputs)) + s1.1))), .eq (.bool x3), .eq (.bool (!x3)), .eq (.bool ((!x2) || (!x3))), .eq (.bool ((!x2) || (!x3))), .eq (.map (some b2)), .eq (.agg #[I x1.A, I x1.B]), .eq (.bool x4), .eq (.bool (((!x2) || (!x3)) || x4))]
         [(1, B b1 0), (3, .map (some b2)), (5, B b3 0), (23, L a1 p0.Gates c1), (24, I (len p0.Gates)), (25, I s1.1), (51, .bool (((!x2) || (!x3)) || x4))] mix hF (by kernel_rfl) (by kernel_rfl) (by kernel_rfl) ⟨Pd.mono_eq, Pd.mono_eq, Pd.mono_eq, Pd.mono_eq, Pd.mono_eq, Pd.mono_eq, trivial⟩ (fun hG => ⟨np_loadBox hG hF ty3 rfl rfl (hs.bx 0 rfl) rfl rfl rfl, np_call [I x1.A, I (w64 ((w64 (1 + p0.Inputs)) + s1.1))] hG hF Try.call73 rfl rfl (fun w hC hg => (impl_isLiteral_ok x1.A (w64 ((w64 (1 + p0.Inputs)) + s1.1)) hx2).mono fun e w' ⟨v, he, hv, hc⟩ => ⟨v, he, hc, hv⟩), np_loadBox hG hF ty3 rfl rfl (hs.bx 0 rfl) rfl rfl rfl, np_call [I x1.B, I (w64 ((w64 (1 + p0.Inputs)) + s1.1))] hG hF Try.call73 rfl rfl (fun w hC hg => (impl_isLiteral_ok x1.B (w64 ((w64 (1 + p0.Inputs)) + s1.1)) (iteF hg.2 hx3)).mono fun e w' ⟨v, he, hv, hc⟩ => ⟨v, he, hc, hv⟩), np_loadBoxS hG hF ty103 rfl rfl (hs.bx 0 rfl) rfl rfl rfl rfl, np_mapGet map138 1 hs rfl Try.underlying138 hG hF rfl (u := x1) rfl rfl rfl (fun hg => mget?_fit (iteF hg.2 hx4)) (vr := .bool x4) (fun hg => congrArg (fun y => Rep.val Bool (Flat.enc y)) (mget?_val (iteF hg.2 hx4))) rfl, trivial⟩) (by kernel_rfl) fun fr w6 hF hE hc => then_normal ?_)
     have r1 := r1.ext hc
     have hs := hs.ext hc
     have hM1 := hM1.ext hc
     refine (wp_if hF (b := (((!x2) || (!x3)) || x4)) rfl (fun hb => ?_) (fun hb => ?_))
     · replace h := iteT hb h
       have hs : Sep [] w6 S6 := Sep.pick [] hs (by decide) rfl
       refine wp_seq (wp_pure [(2, .bool false)] hF (by kernel_rfl) fun fr hF => then_normal ?_)
       obtain rfl := hr1 _ (Option.some.inj h).symm
       obtain rfl := Option.some.inj hk1
       exact wp_ret (then_ret (blk_ret (then_ret (then_ret (blk_ret (then_ret (ret1 rfl hF rfl ⟨_, rfl, rfl, (hM0.trans hM1).chg⟩)))))))
     replace h := iteF hb h
     refine (wp_skip (then_normal ?_))
     refine wp_seq ?_
     obtain ⟨x5, hx5, h⟩ := bindE h
     obtain ⟨x6, hx6, h⟩ := bindE h
     obtain ⟨x7, hx7, h⟩ := bindE h
     refine wp_seq (region_bm 13 [0, 1, 3, 7, 15, 31, 63, 127, 31, 287, 1023, 2047, 4095] [true, false, false, true, true, true, false, false, true, false, false, true, true]
         [.eq (B b3 0), .eq (I x1.A), .eq (I x5), .eq (.bool (decide (x5 < 2))), .eq (.bool (decide (x5 < 2))), .eq (B b3 0), .eq (I x1.A), .eq (I x6), .eq (B b3 1), .eq (I x1.B), .eq (I x7), .eq (.bool (decide (x6 ≥ x7))), .eq (.bool ((decide (x5 < 2)) || (decide (x6 ≥ x7))))]
         [(1, B b1 0), (3, .map (some b2)), (5, B b3 0), (23, L a1 p0.Gates c1), (24, I (len p0.Gates)), (25, I s1.1), (64, .bool ((decide (x5 < 2)) || (decide (x6 ≥ x7))))] mix hF (by kernel_rfl) (by kernel_rfl) (by kernel_rfl) (by kernel_rfl) ⟨Pd.monoO_eq, Pd.monoO_eq, Pd.monoO_eq, Pd.monoO_eq, Pd.monoO_eq, Pd.monoO_eq, trivial⟩ (fun ow hG => ⟨np_to ow (np_loadBox hG hF ty3 rfl rfl (hs.bx 0 rfl) rfl rfl rfl), np_to ow (np_call [I x1.A] hG hF Try.call115 rfl rfl (fun w hC hg => (impl_varOf_ok x1.A hx5).mono fun e w' ⟨v, he, hv, hc⟩ => ⟨v, he, hc, hv⟩)), np_to ow (np_loadBox hG hF ty3 rfl rfl (hs.bx 0 rfl) rfl rfl rfl), np_to ow (np_call [I x1.A] hG hF Try.call115 rfl rfl (fun w hC hg => (impl_varOf_ok x1.A (iteF hg.2 hx6)).mono fun e w' ⟨v, he, hv, hc⟩ => ⟨v, he, hc, hv⟩)), np_to ow (np_loadBox hG hF ty3 rfl rfl (hs.bx 0 rfl) rfl rfl rfl), np_to ow (np_call [I x1.B] hG hF Try.call115 rfl rfl (fun w hC hg => (impl_varOf_ok x1.B (iteF hg.2 hx7)).mono fun e w' ⟨v, he, hv, hc⟩ => ⟨v, he, hc, hv⟩)), trivial⟩) (by kernel_rfl) fun ow fr w7 hF hE hc => ?_)
     have r1 := r1.ext hc
     have hs := hs.ext hc
     have hM1 := hM1.ext hc
     refine from_end rfl (then_normal ?_)
     refine (wp_if hF (b := ((decide (x5 < 2)) || (decide (x6 ≥ x7)))) rfl (fun hb => ?_) (fun hb => ?_))
     · replace h := iteT hb h
       have hs : Sep [] w7 S6 := Sep.pick [] hs (by decide) rfl
       refine wp_seq (wp_pure [(2, .bool false)] hF (by kernel_rfl) fun fr hF => then_normal ?_)
       obtain rfl := hr1 _ (Option.some.inj h).symm
       obtain rfl := Option.some.inj hk1
       exact wp_ret (then_ret (blk_ret (then_ret (then_ret (blk_ret (then_ret (ret1 rfl hF rfl ⟨_, rfl, rfl, (hM0.trans hM1).chg⟩)))))))
     replace h := iteF hb h
     refine (wp_skip (then_normal ?_))
     refine (wp_text' ?_)
     refine from_pure 1 [(1, B b1 0), (3, .map (some b2)), (5, B b3 0), (23, L a1 p0.Gates c1), (24, I (len p0.Gates)), (25, I s1.1), (65, .map (some b2))] hF (by kernel_rfl) fun fr hF => ?_
     refine s_loadBoxS ty103 rfl rfl hF rfl (hs.bx 0 rfl) rfl rfl fun fr hF => ?_
     have hs : Sep [MP map138 b2 s1.2, BX b1 53 [I p0.Inputs, L a1 p0.Gates c1]] w7 S6 := Sep.pick [1, 2] hs (by decide) rfl
     obtain ⟨x8, hx8, h⟩ := bindE h
     refine q_mapPut map138 0 hs hM1 rfl Try.underlying138 rfl hF (u := x1) (mput?_fit hx8) true rfl (mput?_len hx8) rfl rfl rfl rfl rfl fun w8 S7 hs hp hF => ?_
     have r1 := r1.stp hM1 hp
     have hM1 := hM1.stp hp
     have hs : Sep [MP map138 b2 x8, BX b1 53 [I p0.Inputs, L a1 p0.Gates c1]] w8 S7 := by rw [mput?_val hx8]; exact hs
     refine from_end rfl ?_
     refine blk_normal (then_normal ?_)
     refine (wp_pure [(1, B b1 0), (3, .map (some b2)), (23, L a1 p0.Gates c1), (24, I (len p0.Gates)), (25, I (w64 (s1.1 + 1)))] hF (by kernel_rfl) fun fr hF => then_normal ?_)
     exact ⟨_, (Option.some.inj h).symm, S7, _, hF.sub _ (by kernel_rfl), hM1, hs⟩
   replace h := iteF hb h
   have hs : Sep [] w1i S3 := Sep.pick [] hs (by decide) rfl
   refine (wp_exit (then_exit (then_exit (blk_exit_eq ?_))))
   obtain rfl := hr1 _ (Option.some.inj h).symm
   exact then_normal ⟨_, rfl, S3, _, hF.sub _ (by kernel_rfl), hM1, hs⟩
 · obtain ⟨s1r, rfl, hM⟩ := hM
   obtain ⟨S4, F2, hF, hMx, hs⟩ := hM
   have hM0 := hM0.trans hMx
   refine wp_seq (wp_pure [(2, .bool true)] hF (by kernel_rfl) fun fr hF => then_normal ?_)
   obtain rfl := Option.some.inj h
   exact wp_ret (ret1 rfl hF rfl ⟨_, rfl, rfl, hM0.chg⟩)

theorem impl_linesOf_ok (p0 : D.Circuit) {r : Int} (h : impl_linesOf p0 = some r) {w : World} {G0 : Nat → Prop} {va0 : Value} (ra0 : RV w G0 va0 p0) :
   Calls Try.prog 74 [va0].toArray w fun e w' => ∃ v, e = .returned v ∧ v = I r ∧ Chg Non w w' := by
 unfold impl_linesOf at h
 have hs := Sep.nil w Non
 have hM0 : Mem w Non (fun k => (G0 k) ∧ k < w.heap.size) w Non (fun k => (G0 k) ∧ k < w.heap.size) := Mem.start (fun _ h => h.elim) (fun _ h => h.2) (fun _ h => h.elim)
 have ra0 := ra0.sub (F' := (fun k => (G0 k) ∧ k < w.heap.size)) (fun k hk h => ⟨h, hk⟩)
 obtain ⟨v1, rfl, r1⟩ := RV.Circuit ra0
 obtain ⟨a1, c1, rfl, -⟩ := r1.slice
 refine enter (N := 10) Try.func74 rfl Try.ntmps74 rfl fun fr hF => ?_
 refine wp_seq (wp_text' ?_)
 refine q_box hs hM0 [I p0.Inputs, L a1 p0.Gates c1] rfl rfl hF rfl rfl fun b1 w1 S1 fr hs hp hF => ?_
 have r1 := r1.stp hM0 hp
 have hM0 := hM0.stp hp
 have hs : Sep [BX b1 53 [I p0.Inputs, L a1 p0.Gates c1]] w1 S1 := hs
 refine from_pure 1 [(1, B b1 0)] hF (by kernel_rfl) fun fr hF => ?_
 refine from_end rfl (then_normal ?_)
 refine wp_seq (wp_text' ?_)
 refine from_pure 1 [(1, B b1 0), (3, B b1 0)] hF (by kernel_rfl) fun fr hF => ?_
 refine s_loadBox (I p0.Inputs) ty3 rfl rfl hF rfl (hs.bx 0 rfl) rfl rfl fun fr hF => ?_
 refine from_pure 2 [(5, I (w64 (1 + p0.Inputs))), (6, B b1 1)] hF (by kernel_rfl) fun fr hF => ?_
 refine s_loadBox (L a1 p0.Gates c1) ty51 rfl rfl hF rfl (hs.bx 0 rfl) rfl rfl fun fr hF => ?_
 have hs : Sep [] w1 S1 := Sep.pick [] hs (by decide) rfl
 refine from_pure 3 [(2, I (w64 ((w64 (1 + p0.Inputs)) + (len p0.Gates))))] hF (by kernel_rfl) fun fr hF => ?_
 refine from_end rfl (then_normal ?_)
 obtain rfl := Option.some.inj h
 exact wp_ret (ret1 rfl hF rfl ⟨_, rfl, rfl, hM0.chg⟩)

theorem impl_literalsOk_ok (n : Nat) (p0 : List Int) (p1 : Int) {r : Bool} (h : impl_literalsOk n p0 p1 = some r) {w : World} {G0 : Nat → Prop} {va0 : Value} (ra0 : RV w G0 va0 p0) :
   Calls Try.prog 85 [va0, I p1].toArray w fun e w' => ∃ v, e = .returned v ∧ v = .bool r ∧ Chg Non w w' := by
 unfold impl_literalsOk at h
 have hs := Sep.nil w Non
 have hM0 : Mem w Non (fun k => (G0 k) ∧ k < w.heap.size) w Non (fun k => (G0 k) ∧ k < w.heap.size) := Mem.start (fun _ h => h.elim) (fun _ h => h.2) (fun _ h => h.elim)
 have ra0 := ra0.sub (F' := (fun k => (G0 k) ∧ k < w.heap.size)) (fun k hk h => ⟨h, hk⟩)
 obtain ⟨a1, c1, rfl, -⟩ := ra0.slice
 refine enter (N := 18) Try.func85 rfl Try.ntmps85 rfl fun fr hF => ?_
 refine wp_seq (wp_pure [(0, L a1 p0 c1), (1, I p1)] hF (by kernel_rfl) fun fr hF => then_normal ?_)
 refine wp_seq ?_
 refine wp_seq (wp_pure [(1, I p1), (7, L a1 p0 c1), (8, I (len p0)), (9, I 0)] hF (by kernel_rfl) fun fr hF => then_normal ?_)
 obtain ⟨rl1, hit1, h⟩ := bindE h
 have hk1 := h
 refine (wp_cut (M := fun fr w' => ∃ s, rl1 = .inl s ∧ ∃ S2 F2, FrS 18 [] fr ∧ Mem w Non (fun k => (G0 k) ∧ k < w.heap.size) w' S2 F2 ∧ Sep [] w' S2) (wp_block (wp_iter (Inv := fun s1 fr w' => ∃ S1 F1, FrS 18 [(1, I p1), (7, L a1 p0 c1), (8, I (len p0)), (9, I s1)] fr ∧ Mem w Non (fun k => (G0 k) ∧ k < w.heap.size) w' S1 F1 ∧ Sep [] w' S1) hit1 ⟨Non, _, hF.sub _ (by kernel_rfl), (Mem.start hM0.bd hM0.bdF hM0.dj), hs⟩ fun s1 q1 fr w1i hI h hr1 => ?_)) fun fr w1o hM => ?_)
 · obtain ⟨S1, F1, hF, hM1, hs⟩ := hI
   have ra0 := ra0.mem hM1
   refine wp_seq (wp_pure [(1, I p1), (7, L a1 p0 c1), (8, I (len p0)), (9, I s1), (10, .bool (decide (s1 < (len p0))))] hF (by kernel_rfl) fun fr hF => then_normal ?_)
   refine wp_seq (wp_if hF (b := (decide (s1 < (len p0)))) rfl (fun hb => ?_) (fun hb => ?_))
   · replace h := iteT hb h
     refine (wp_skip (then_normal ?_))
     refine wp_seq (wp_block ?_)
     refine wp_seq (wp_text' ?_)
     obtain ⟨x1, hx1, h⟩ := bindE h
     refine s_elemF (z := x1) (I x1) ty3 Try.underlying26 rfl rfl rfl rfl rfl hF rfl (ra0) rfl (get?_nn hx1) (get?_at hx1) rfl fun p fr hF => ?_
     refine from_pure 1 [(1, I p1), (6, I x1), (7, L a1 p0 c1), (8, I (len p0)), (9, I s1)] hF (by kernel_rfl) fun fr hF => ?_
     refine from_end rfl (then_normal ?_)
     refine wp_seq (wp_text' ?_)
     refine from_pure 2 [(1, I p1), (7, L a1 p0 c1), (8, I (len p0)), (9, I s1), (13, I x1), (14, I p1)] hF (by kernel_rfl) fun fr hF => ?_
     obtain ⟨x2, hx2, h⟩ := bindE h
     refine s_call [I x1, I p1] Try.call73 rfl rfl hF rfl (impl_isLiteral_ok x1 p1 hx2) fun v w1 fr hRes hF => ?_
     obtain ⟨rfl, hc⟩ := hRes
     have ra0 := ra0.ext hc
     have hs := hs.ext hc
     have hM1 := hM1.ext hc
     refine from_pure 1 [(1, I p1), (7, L a1 p0 c1), (8, I (len p0)), (9, I s1), (16, .bool (!x2))] hF (by kernel_rfl) fun fr hF => ?_
     refine from_end rfl (then_normal ?_)
     refine (wp_if hF (b := (!x2)) rfl (fun hb => ?_) (fun hb => ?_))
     · replace h := iteT hb h
       refine wp_seq (wp_pure [(4, .bool false)] hF (by kernel_rfl) fun fr hF => then_normal ?_)
       obtain rfl := hr1 _ (Option.some.inj h).symm
       obtain rfl := Option.some.inj hk1
       exact wp_ret (blk_ret (then_ret (then_ret (blk_ret (then_ret (ret1 rfl hF rfl ⟨_, rfl, rfl, (hM0.trans hM1).chg⟩))))))
     replace h := iteF hb h
     refine (wp_skip ?_)
     refine blk_normal (then_normal ?_)
     refine (wp_pure [(1, I p1), (7, L a1 p0 c1), (8, I (len p0)), (9, I (w64 (s1 + 1)))] hF (by kernel_rfl) fun fr hF => then_normal ?_)
     exact ⟨_, (Option.some.inj h).symm, S1, _, hF.sub _ (by kernel_rfl), hM1, hs⟩
   replace h := iteF hb h
   refine (wp_exit (then_exit (then_exit (blk_exit_eq ?_))))
   obtain rfl := hr1 _ (Option.some.inj h).symm
   exact then_normal ⟨_, rfl, S1, _, hF.sub _ (by kernel_rfl), hM1, hs⟩
 · obtain ⟨s1r, rfl, hM⟩ := hM
   obtain ⟨S2, F2, hF, hMx, hs⟩ := hM
   have hM0 := hM0.trans hMx
   refine wp_seq (wp_pure [(4, .bool true)] hF (by kernel_rfl) fun fr hF => then_normal ?_)
   obtain rfl := Option.some.inj h
   exact wp_ret (ret1 rfl hF rfl ⟨_, rfl, rfl, hM0.chg⟩)

theorem slices_Clone___int_int__ok (p0 : List Int) {r : (List Int)} (h : slices_Clone___int_int_ p0 = some r) {w : World} {G0 : Nat → Prop} {va0 : Value} (ra0 : RV w G0 va0 p0) :
   Calls Try.prog 116 [va0].toArray w fun e w' => ∃ v, e = .returned v ∧ ∃ a1 c1, v = L a1 r c1 ∧ ∃ S', Stp w Non w' S' ∧ Sep [sl3 (L a1 r c1) r] w' S' := by
 unfold slices_Clone___int_int_ at h
 have hs := Sep.nil w Non
 have hM0 : Mem w Non (fun k => (G0 k) ∧ k < w.heap.size) w Non (fun k => (G0 k) ∧ k < w.heap.size) := Mem.start (fun _ h => h.elim) (fun _ h => h.2) (fun _ h => h.elim)
 have ra0 := ra0.sub (F' := (fun k => (G0 k) ∧ k < w.heap.size)) (fun k hk h => ⟨h, hk⟩)
 obtain ⟨a1, c1, rfl, -⟩ := ra0.slice
 refine enter (N := 8) Try.func116 rfl Try.ntmps116 rfl fun fr hF => ?_
 refine wp_seq (wp_pure [(0, L a1 p0 c1)] hF (by kernel_rfl) fun fr hF => then_normal ?_)
 refine wp_seq ?_
 refine wp_seq (wp_text' ?_)
 refine from_pure 1 [(0, L a1 p0 c1), (3, L a1 p0 c1)] hF (by kernel_rfl) fun fr hF => ?_
 refine s_bin rfl rfl hF rfl rfl (nil_guard _ _ _ _ _ _ _ _ _ _) (nil_eq Try.underlying26 _ _ _ _) fun fr hF => ?_
 refine from_end rfl (then_normal ?_)
 refine (wp_if hF (b := (Option.isNone a1)) rfl (fun hb => ?_) (fun hb => ?_))
 · have hnil := nil_of ra0 (Option.isNone_iff_eq_none.1 hb)
   replace h := nil_app hnil h
   refine wp_seq (wp_pure [(2, L none ([] : List Int) 0)] hF (by kernel_rfl) fun fr hF => then_normal ?_)
   have hs : Sep [sl3 (L none ([] : List Int) 0) ([] : List Int)] w Non := hs.cons_nil (α := Int) 3
   obtain rfl := Option.some.inj h
   exact wp_ret (then_ret (ret1 rfl hF rfl ⟨_, rfl, none, 0, rfl, Non, hM0.out, hs⟩))
 · skip
   refine (wp_skip (then_normal ?_))
   refine wp_seq (wp_text' ?_)
   refine q_lit (E := 3) hs hM0 [] (([] : List Int).map Flat.enc) ([] : List Int) rfl rfl hF [] rfl (fun w => by kernel_rfl) (css_flat _) rfl rfl rfl fun a2 c2 w1 S1 fr hs hp hF => ?_
   have ra0 := ra0.stp hM0 hp
   have hM0 := hM0.stp hp
   have hs : Sep [sl3 (L a2 ([] : List Int) c2) ([] : List Int)] w1 S1 := hs
   refine from_pure 1 [(5, L a2 ([] : List Int) c2), (6, L a1 p0 c1)] hF (by kernel_rfl) fun fr hF => ?_
   obtain ⟨x1, hx1, h⟩ := bindE h
   refine q_append 0 hs hM0 rfl Try.underlying26 el3 rfl rfl rfl hF rfl rfl (ra0) hx1 fun a3 c3 w2 S2 fr hs hp hF => ?_
   have ra0 := ra0.stp hM0 hp
   have hM0 := hM0.stp hp
   have hs : Sep [sl3 (L a3 x1 c3) x1] w2 S2 := hs
   refine from_pure 1 [(2, L a3 x1 c3)] hF (by kernel_rfl) fun fr hF => ?_
   refine from_end rfl (then_normal ?_)
   obtain rfl := Option.some.inj h
   exact wp_ret (ret1 rfl hF rfl ⟨_, rfl, a3, c3, rfl, S2, hM0.out, hs⟩)

theorem math_bits_Len64_ok (p0 : Int) {r : Int} (h : math_bits_Len64 p0 = some r) {w : World} :
   Calls Try.prog 164 [.int .u64 p0].toArray w fun e w' => ∃ v, e = .returned v ∧ v = I r ∧ Chg Non w w' := by
 unfold math_bits_Len64 at h
 have hs := Sep.nil w Non
 have hM0 : Mem w Non (fun k => (False) ∧ k < w.heap.size) w Non (fun k => (False) ∧ k < w.heap.size) := Mem.start (fun _ h => h.elim) (fun _ h => h.2) (fun _ h => h.elim)
 refine enter (N := 25) Try.func164 rfl Try.ntmps164 rfl fun fr hF => ?_
 refine wp_seq (wp_pure [(0, .int .u64 p0), (2, I 0)] hF (by kernel_rfl) fun fr hF => then_normal ?_)
 refine wp_seq ?_
 refine wp_seq (wp_pure [(0, .int .u64 p0), (2, I 0), (4, .bool (decide (p0 ≥ 4294967296)))] hF (by kernel_rfl) fun fr hF => then_normal ?_)
 refine (wp_if hF (b := (decide (p0 ≥ 4294967296))) rfl (fun hb => ?_) (fun hb => ?_))
 · replace h := iteT hb h
   refine wp_seq (wp_text' ?_)
   refine from_pure 1 [(5, .int .u64 p0)] hF (by kernel_rfl) fun fr hF => ?_
   obtain ⟨x1, hx1, h⟩ := bindE h
   refine s_shrK rfl rfl hF rfl rfl hx1 fun fr hF => ?_
   refine from_pure 1 [(0, .int .u64 x1)] hF (by kernel_rfl) fun fr hF => ?_
   refine from_end rfl (then_normal ?_)
   refine (wp_pure [(0, .int .u64 x1), (2, I 32)] hF (by kernel_rfl) fun fr hF => then_normal ?_)
   refine wp_seq ?_
   refine wp_seq (wp_pure [(0, .int .u64 x1), (2, I 32), (8, .bool (decide (x1 ≥ 65536)))] hF (by kernel_rfl) fun fr hF => then_normal ?_)
   refine (wp_if hF (b := (decide (x1 ≥ 65536))) rfl (fun hb => ?_) (fun hb => ?_))
   · replace h := iteT hb h
     refine wp_seq (wp_text' ?_)
     refine from_pure 1 [(2, I 32), (9, .int .u64 x1)] hF (by kernel_rfl) fun fr hF => ?_
     obtain ⟨x2, hx2, h⟩ := bindE h
     refine s_shrK rfl rfl hF rfl rfl hx2 fun fr hF => ?_
     refine from_pure 1 [(0, .int .u64 x2), (2, I 32)] hF (by kernel_rfl) fun fr hF => ?_
     refine from_end rfl (then_normal ?_)
     refine (wp_pure [(0, .int .u64 x2), (2, I (w64 (32 + 16)))] hF (by kernel_rfl) fun fr hF => then_normal ?_)
     refine wp_seq ?_
     refine wp_seq (wp_pure [(0, .int .u64 x2), (2, I (w64 (32 + 16))), (14, .bool (decide (x2 ≥ 256)))] hF (by kernel_rfl) fun fr hF => then_normal ?_)
     refine (wp_if hF (b := (decide (x2 ≥ 256))) rfl (fun hb => ?_) (fun hb => ?_))
     · replace h := iteT hb h
       refine wp_seq (wp_text' ?_)
       refine from_pure 1 [(2, I (w64 (32 + 16))), (15, .int .u64 x2)] hF (by kernel_rfl) fun fr hF => ?_
       obtain ⟨x3, hx3, h⟩ := bindE h
       refine s_shrK rfl rfl hF rfl rfl hx3 fun fr hF => ?_
       refine from_pure 1 [(0, .int .u64 x3), (2, I (w64 (32 + 16)))] hF (by kernel_rfl) fun fr hF => ?_
       refine from_end rfl (then_normal ?_)
       refine (wp_pure [(0, .int .u64 x3), (2, I (w64 ((w64 (32 + 16)) + 8)))] hF (by kernel_rfl) fun fr hF => then_normal ?_)
       refine wp_seq (wp_text' ?_)
       refine from_pure 3 [(19, I (w64 ((w64 (32 + 16)) + 8))), (21, .int .u8 (IntKind.u8.wrap x3))] hF (by kernel_rfl) fun fr hF => ?_
       obtain ⟨x4, hx4, h⟩ := bindE h
       refine s_index (s := lstr0) Try.underlying9 rfl rfl hF rfl rfl hx4 fun fr hF => ?_
       refine from_pure 3 [(2, I (w64 ((w64 ((w64 (32 + 16)) + 8)) + (w64 x4))))] hF (by kernel_rfl) fun fr hF => ?_
       refine from_end rfl (then_normal ?_)
       obtain rfl := Option.some.inj h
       exact wp_ret (ret1 rfl hF rfl ⟨_, rfl, rfl, hM0.chg⟩)
     replace h := iteF hb h
     refine (wp_skip (then_normal ?_))
     refine wp_seq (wp_text' ?_)
     refine from_pure 3 [(19, I (w64 (32 + 16))), (21, .int .u8 (IntKind.u8.wrap x2))] hF (by kernel_rfl) fun fr hF => ?_
     obtain ⟨x5, hx5, h⟩ := bindE h
     refine s_index (s := lstr0) Try.underlying9 rfl rfl hF rfl rfl hx5 fun fr hF => ?_
     refine from_pure 3 [(2, I (w64 ((w64 (32 + 16)) + (w64 x5))))] hF (by kernel_rfl) fun fr hF => ?_
     refine from_end rfl (then_normal ?_)
     obtain rfl := Option.some.inj h
     exact wp_ret (ret1 rfl hF rfl ⟨_, rfl, rfl, hM0.chg⟩)
   replace h := iteF hb h
   refine (wp_skip (then_normal ?_))
   refine wp_seq ?_
   refine wp_seq (wp_pure [(0, .int .u64 x1), (2, I 32), (14, .bool (decide (x1 ≥ 256)))] hF (by kernel_rfl) fun fr hF => then_normal ?_)
   refine (wp_if hF (b := (decide (x1 ≥ 256))) rfl (fun hb => ?_) (fun hb => ?_))
   · replace h := iteT hb h
     refine wp_seq (wp_text' ?_)
     refine from_pure 1 [(2, I 32), (15, .int .u64 x1)] hF (by kernel_rfl) fun fr hF => ?_
     obtain ⟨x6, hx6, h⟩ := bindE h
     refine s_shrK rfl rfl hF rfl rfl hx6 fun fr hF => ?_
     refine from_pure 1 [(0, .int .u64 x6), (2, I 32)] hF (by kernel_rfl) fun fr hF => ?_
     refine from_end rfl (then_normal ?_)
     refine (wp_pure [(0, .int .u64 x6), (2, I (w64 (32 + 8)))] hF (by kernel_rfl) fun fr hF => then_normal ?_)
     refine wp_seq (wp_text' ?_)
     refine from_pure 3 [(19, I (w64 (32 + 8))), (21, .int .u8 (IntKind.u8.wrap x6))] hF (by kernel_rfl) fun fr hF => ?_
     obtain ⟨x7, hx7, h⟩ := bindE h
     refine s_index (s := lstr0) Try.underlying9 rfl rfl hF rfl rfl hx7 fun fr hF => ?_
     refine from_pure 3 [(2, I (w64 ((w64 (32 + 8)) + (w64 x7))))] hF (by kernel_rfl) fun fr hF => ?_
     refine from_end rfl (then_normal ?_)
     obtain rfl := Option.some.inj h
     exact wp_ret (ret1 rfl hF rfl ⟨_, rfl, rfl, hM0.chg⟩)
   replace h := iteF hb h
   refine (wp_skip (then_normal ?_))
   refine wp_seq (wp_text' ?_)
   refine from_pure 3 [(19, I 32), (21, .int .u8 (IntKind.u8.wrap x1))] hF (by kernel_rfl) fun fr hF => ?_
   obtain ⟨x8, hx8, h⟩ := bindE h
   refine s_index (s := lstr0) Try.underlying9 rfl rfl hF rfl rfl hx8 fun fr hF => ?_
   refine from_pure 3 [(2, I (w64 (32 + (w64 x8))))] hF (by kernel_rfl) fun fr hF => ?_
   refine from_end rfl (then_normal ?_)
   obtain rfl := Option.some.inj h
   exact wp_ret (ret1 rfl hF rfl ⟨_, rfl, rfl, hM0.chg⟩)
 replace h := iteF hb h
 refine (wp_skip (then_normal ?_))
 refine wp_seq ?_
 refine wp_seq (wp_pure [(0, .int .u64 p0), (2, I 0), (8, .bool (decide (p0 ≥ 65536)))] hF (by kernel_rfl) fun fr hF => then_normal ?_)
 refine (wp_if hF (b := (decide (p0 ≥ 65536))) rfl (fun hb => ?_) (fun hb => ?_))
 · replace h := iteT hb h
   refine wp_seq (wp_text' ?_)
   refine from_pure 1 [(2, I 0), (9, .int .u64 p0)] hF (by kernel_rfl) fun fr hF => ?_
   obtain ⟨x9, hx9, h⟩ := bindE h
   refine s_shrK rfl rfl hF rfl rfl hx9 fun fr hF => ?_
   refine from_pure 1 [(0, .int .u64 x9), (2, I 0)] hF (by kernel_rfl) fun fr hF => ?_
   refine from_end rfl (then_normal ?_)
   refine (wp_pure [(0, .int .u64 x9), (2, I (w64 (0 + 16)))] hF (by kernel_rfl) fun fr hF => then_normal ?_)
   refine wp_seq ?_
   refine wp_seq (wp_pure [(0, .int .u64 x9), (2, I (w64 (0 + 16))), (14, .bool (decide (x9 ≥ 256)))] hF (by kernel_rfl) fun fr hF => then_normal ?_)
   refine (wp_if hF (b := (decide (x9 ≥ 256))) rfl (fun hb => ?_) (fun hb => ?_))
   · replace h := iteT hb h
     refine wp_seq (wp_text' ?_)
     refine from_pure 1 [(2, I (w64 (0 + 16))), (15, .int .u64 x9)] hF (by kernel_rfl) fun fr hF => ?_
     obtain ⟨x10, hx10, h⟩ := bindE h
     refine s_shrK rfl rfl hF rfl rfl hx10 fun fr hF => ?_
     refine from_pure 1 [(0, .int .u64 x10), (2, I (w64 (0 + 16)))] hF (by kernel_rfl) fun fr hF => ?_
     refine from_end rfl (then_normal ?_)
     refine (wp_pure [(0, .int .u64 x10), (2, I (w64 ((w64 (0 + 16)) + 8)))] hF (by kernel_rfl) fun fr hF => then_normal ?_)
     refine wp_seq (wp_text' ?_)
     refine from_pure 3 [(19, I (w64 ((w64 (0 + 16)) + 8))), (21, .int .u8 (IntKind.u8.wrap x10))] hF (by kernel_rfl) fun fr hF => ?_
     obtain ⟨x11, hx11, h⟩ := bindE h
     refine s_index (s := lstr0) Try.underlying9 rfl rfl hF rfl rfl hx11 fun fr hF => ?_
     refine from_pure 3 [(2, I (w64 ((w64 ((w64 (0 + 16)) + 8)) + (w64 x11))))] hF (by kernel_rfl) fun fr hF => ?_
     refine from_end rfl (then_normal ?_)
     obtain rfl := Option.some.inj h
     exact wp_ret (ret1 rfl hF rfl ⟨_, rfl, rfl, hM0.chg⟩)
   replace h := iteF hb h
   refine (wp_skip (then_normal ?_))
   refine wp_seq (wp_text' ?_)
   refine from_pure 3 [(19, I (w64 (0 + 16))), (21, .int .u8 (IntKind.u8.wrap x9))] hF (by kernel_rfl) fun fr hF => ?_
   obtain ⟨x12, hx12, h⟩ := bindE h
   refine s_index (s := lstr0) Try.underlying9 rfl rfl hF rfl rfl hx12 fun fr hF => ?_
   refine from_pure 3 [(2, I (w64 ((w64 (0 + 16)) + (w64 x12))))] hF (by kernel_rfl) fun fr hF => ?_
   refine from_end rfl (then_normal ?_)
   obtain rfl := Option.some.inj h
   exact wp_ret (ret1 rfl hF rfl ⟨_, rfl, rfl, hM0.chg⟩)
 replace h := iteF hb h
 refine (wp_skip (then_normal ?_))
 refine wp_seq ?_
 refine wp_seq (wp_pure [(0, .int .u64 p0), (2, I 0), (14, .bool (decide (p0 ≥ 256)))] hF (by kernel_rfl) fun fr hF => then_normal ?_)
 refine (wp_if hF (b := (decide (p0 ≥ 256))) rfl (fun hb => ?_) (fun hb => ?_))
 · replace h := iteT hb h
   refine wp_seq (wp_text' ?_)
   refine from_pure 1 [(2, I 0), (15, .int .u64 p0)] hF (by kernel_rfl) fun fr hF => ?_
   obtain ⟨x13, hx13, h⟩ := bindE h
   refine s_shrK rfl rfl hF rfl rfl hx13 fun fr hF => ?_
   refine from_pure 1 [(0, .int .u64 x13), (2, I 0)] hF (by kernel_rfl) fun fr hF => ?_
   refine from_end rfl (then_normal ?_)
   refine (wp_pure [(0, .int .u64 x13), (2, I (w64 (0 + 8)))] hF (by kernel_rfl) fun fr hF => then_normal ?_)
   refine wp_seq (wp_text' ?_)
   refine from_pure 3 [(19, I (w64 (0 + 8))), (21, .int .u8 (IntKind.u8.wrap x13))] hF (by kernel_rfl) fun fr hF => ?_
   obtain ⟨x14, hx14, h⟩ := bindE h
   refine s_index (s := lstr0) Try.underlying9 rfl rfl hF rfl rfl hx14 fun fr hF => ?_
   refine from_pure 3 [(2, I (w64 ((w64 (0 + 8)) + (w64 x14))))] hF (by kernel_rfl) fun fr hF => ?_
   refine from_end rfl (then_normal ?_)
   obtain rfl := Option.some.inj h
   exact wp_ret (ret1 rfl hF rfl ⟨_, rfl, rfl, hM0.chg⟩)
 replace h := iteF hb h
 refine (wp_skip (then_normal ?_))
 refine wp_seq (wp_text' ?_)
 refine from_pure 3 [(19, I 0), (21, .int .u8 (IntKind.u8.wrap p0))] hF (by kernel_rfl) fun fr hF => ?_
 obtain ⟨x15, hx15, h⟩ := bindE h
 refine s_index (s := lstr0) Try.underlying9 rfl rfl hF rfl rfl hx15 fun fr hF => ?_
 refine from_pure 3 [(2, I (w64 (0 + (w64 x15))))] hF (by kernel_rfl) fun fr hF => ?_
 refine from_end rfl (then_normal ?_)
 obtain rfl := Option.some.inj h
 exact wp_ret (ret1 rfl hF rfl ⟨_, rfl, rfl, hM0.chg⟩)

theorem math_bits_Len_ok (p0 : Int) {r : Int} (h : math_bits_Len p0 = some r) {w : World} :
   Calls Try.prog 141 [.int .u64 p0].toArray w fun e w' => ∃ v, e = .returned v ∧ v = I r ∧ Chg Non w w' := by
 unfold math_bits_Len at h
 have hs := Sep.nil w Non
 have hM0 : Mem w Non (fun k => (False) ∧ k < w.heap.size) w Non (fun k => (False) ∧ k < w.heap.size) := Mem.start (fun _ h => h.elim) (fun _ h => h.2) (fun _ h => h.elim)
 refine enter (N := 8) Try.func141 rfl Try.ntmps141 rfl fun fr hF => ?_
 refine wp_seq (wp_pure [(0, .int .u64 p0)] hF (by kernel_rfl) fun fr hF => then_normal ?_)
 refine wp_seq (wp_if hF (b := false) rfl (fun hb => ?_) (fun hb => ?_))
 · replace h := iteT hb h
   cases h
 replace h := iteF hb h
 refine (wp_skip (then_normal ?_))
 refine wp_seq (wp_text' ?_)
 refine from_pure 1 [(6, .int .u64 p0)] hF (by kernel_rfl) fun fr hF => ?_
 obtain ⟨x1, hx1, h⟩ := bindE h
 refine s_call [.int .u64 p0] Try.call164 rfl rfl hF rfl (math_bits_Len64_ok p0 hx1) fun v w1 fr hRes hF => ?_
 obtain ⟨rfl, hc⟩ := hRes
 have hs := hs.ext hc
 have hM0 := hM0.ext hc
 refine from_pure 1 [(2, I x1)] hF (by kernel_rfl) fun fr hF => ?_
 refine from_end rfl (then_normal ?_)
 obtain rfl := Option.some.inj h
 exact wp_ret (ret1 rfl hF rfl ⟨_, rfl, rfl, hM0.chg⟩)

theorem cmp_isNaN_int__ok (p0 : Int) {r : Bool} (h : cmp_isNaN_int_ p0 = some r) {w : World} :
   Calls Try.prog 143 [I p0].toArray w fun e w' => ∃ v, e = .returned v ∧ v = .bool r ∧ Chg Non w w' := by
 unfold cmp_isNaN_int_ at h
 have hs := Sep.nil w Non
 have hM0 : Mem w Non (fun k => (False) ∧ k < w.heap.size) w Non (fun k => (False) ∧ k < w.heap.size) := Mem.start (fun _ h => h.elim) (fun _ h => h.2) (fun _ h => h.elim)
 refine enter (N := 6) Try.func143 rfl Try.ntmps143 rfl fun fr hF => ?_
 refine wp_seq (wp_pure [(0, I p0)] hF (by kernel_rfl) fun fr hF => then_normal ?_)
 refine wp_seq (wp_pure [(2, .bool (p0 != p0))] hF (by kernel_rfl) fun fr hF => then_normal ?_)
 obtain rfl := Option.some.inj h
 exact wp_ret (ret1 rfl hF rfl ⟨_, rfl, rfl, hM0.chg⟩)

theorem cmp_Compare_int__ok (p0 : Int) (p1 : Int) {r : Int} (h : cmp_Compare_int_ p0 p1 = some r) {w : World} :
   Calls Try.prog 119 [I p0, I p1].toArray w fun e w' => ∃ v, e = .returned v ∧ v = I r ∧ Chg Non w w' := by
 unfold cmp_Compare_int_ at h
 have hs := Sep.nil w Non
 have hM0 : Mem w Non (fun k => (False) ∧ k < w.heap.size) w Non (fun k => (False) ∧ k < w.heap.size) := Mem.start (fun _ h => h.elim) (fun _ h => h.2) (fun _ h => h.elim)
 refine enter (N := 20) Try.func119 rfl Try.ntmps119 rfl fun fr hF => ?_
 refine wp_seq (wp_pure [(0, I p0), (1, I p1)] hF (by kernel_rfl) fun fr hF => then_normal ?_)
 refine wp_seq (wp_text' ?_)
 refine from_pure 1 [(0, I p0), (1, I p1), (7, I p0)] hF (by kernel_rfl) fun fr hF => ?_
 obtain ⟨x1, hx1, h⟩ := bindE h
 refine s_call [I p0] Try.call143 rfl rfl hF rfl (cmp_isNaN_int__ok p0 hx1) fun v w1 fr hRes hF => ?_
 obtain ⟨rfl, hc⟩ := hRes
 have hs := hs.ext hc
 have hM0 := hM0.ext hc
 refine from_pure 1 [(0, I p0), (1, I p1), (5, .bool x1)] hF (by kernel_rfl) fun fr hF => ?_
 refine from_end rfl (then_normal ?_)
 refine wp_seq (wp_text' ?_)
 refine from_pure 1 [(0, I p0), (1, I p1), (5, .bool x1), (9, I p1)] hF (by kernel_rfl) fun fr hF => ?_
 obtain ⟨x2, hx2, h⟩ := bindE h
 refine s_call [I p1] Try.call143 rfl rfl hF rfl (cmp_isNaN_int__ok p1 hx2) fun v w2 fr hRes hF => ?_
 obtain ⟨rfl, hc⟩ := hRes
 have hs := hs.ext hc
 have hM0 := hM0.ext hc
 refine from_pure 1 [(0, I p0), (1, I p1), (5, .bool x1), (6, .bool x2)] hF (by kernel_rfl) fun fr hF => ?_
 refine from_end rfl (then_normal ?_)
 refine wp_seq ?_
 refine wp_seq (wp_pure [(0, I p0), (1, I p1), (6, .bool x2), (11, .bool x1)] hF (by kernel_rfl) fun fr hF => then_normal ?_)
 refine (wp_if hF (b := x1) rfl (fun hb => ?_) (fun hb => ?_))
 · replace h := iteT hb h
   refine wp_seq ?_
   refine wp_seq (wp_pure [(12, .bool x2)] hF (by kernel_rfl) fun fr hF => then_normal ?_)
   refine (wp_if hF (b := x2) rfl (fun hb => ?_) (fun hb => ?_))
   · replace h := iteT hb h
     refine wp_seq (wp_pure [(4, I 0)] hF (by kernel_rfl) fun fr hF => then_normal ?_)
     obtain rfl := Option.some.inj h
     exact wp_ret (then_ret (then_ret (ret1 rfl hF rfl ⟨_, rfl, rfl, hM0.chg⟩)))
   replace h := iteF hb h
   refine (wp_skip (then_normal ?_))
   refine wp_seq (wp_pure [(4, I (-1))] hF (by kernel_rfl) fun fr hF => then_normal ?_)
   obtain rfl := Option.some.inj h
   exact wp_ret (then_ret (ret1 rfl hF rfl ⟨_, rfl, rfl, hM0.chg⟩))
 replace h := iteF hb h
 refine (wp_skip (then_normal ?_))
 refine wp_seq ?_
 refine wp_seq (wp_pure [(0, I p0), (1, I p1), (13, .bool x2)] hF (by kernel_rfl) fun fr hF => then_normal ?_)
 refine (wp_if hF (b := x2) rfl (fun hb => ?_) (fun hb => ?_))
 · replace h := iteT hb h
   refine wp_seq (wp_pure [(4, I 1)] hF (by kernel_rfl) fun fr hF => then_normal ?_)
   obtain rfl := Option.some.inj h
   exact wp_ret (then_ret (ret1 rfl hF rfl ⟨_, rfl, rfl, hM0.chg⟩))
 replace h := iteF hb h
 refine (wp_skip (then_normal ?_))
 refine wp_seq ?_
 refine wp_seq (wp_pure [(0, I p0), (1, I p1), (16, .bool (decide (p0 < p1)))] hF (by kernel_rfl) fun fr hF => then_normal ?_)
 refine (wp_if hF (b := (decide (p0 < p1))) rfl (fun hb => ?_) (fun hb => ?_))
 · replace h := iteT hb h
   refine wp_seq (wp_pure [(4, I (-1))] hF (by kernel_rfl) fun fr hF => then_normal ?_)
   obtain rfl := Option.some.inj h
   exact wp_ret (then_ret (ret1 rfl hF rfl ⟨_, rfl, rfl, hM0.chg⟩))
 replace h := iteF hb h
 refine (wp_skip (then_normal ?_))
 refine wp_seq ?_
 refine wp_seq (wp_pure [(19, .bool (decide (p0 > p1)))] hF (by kernel_rfl) fun fr hF => then_normal ?_)
 refine (wp_if hF (b := (decide (p0 > p1))) rfl (fun hb => ?_) (fun hb => ?_))
 · replace h := iteT hb h
   refine wp_seq (wp_pure [(4, I 1)] hF (by kernel_rfl) fun fr hF => then_normal ?_)
   obtain rfl := Option.some.inj h
   exact wp_ret (then_ret (ret1 rfl hF rfl ⟨_, rfl, rfl, hM0.chg⟩))
 replace h := iteF hb h
 refine (wp_skip (then_normal ?_))
 refine wp_seq (wp_pure [(4, I 0)] hF (by kernel_rfl) fun fr hF => then_normal ?_)
 obtain rfl := Option.some.inj h
 exact wp_ret (ret1 rfl hF rfl ⟨_, rfl, rfl, hM0.chg⟩)

theorem impl_MakeClause_1_ok (p0 : Int) (p1 : Int) {r : Int} (h : impl_MakeClause_1 p0 p1 = some r) {w : World} :
   Calls Try.prog 118 [I p0, I p1].toArray w fun e w' => ∃ v, e = .returned v ∧ v = I r ∧ Chg Non w w' := by
 unfold impl_MakeClause_1 at h
 have hs := Sep.nil w Non
 have hM0 : Mem w Non (fun k => (False) ∧ k < w.heap.size) w Non (fun k => (False) ∧ k < w.heap.size) := Mem.start (fun _ h => h.elim) (fun _ h => h.2) (fun _ h => h.elim)
 refine enter (N := 17) Try.func118 rfl Try.ntmps118 rfl fun fr hF => ?_
 refine wp_seq (wp_pure [(0, I p0), (1, I p1)] hF (by kernel_rfl) fun fr hF => then_normal ?_)
 refine wp_seq ?_
 refine wp_seq (wp_text' ?_)
 refine from_pure 1 [(0, I p0), (1, I p1), (6, I p0)] hF (by kernel_rfl) fun fr hF => ?_
 obtain ⟨x1, hx1, h⟩ := bindE h
 refine s_call [I p0] Try.call115 rfl rfl hF rfl (impl_varOf_ok p0 hx1) fun v w1 fr hRes hF => ?_
 obtain ⟨rfl, hc⟩ := hRes
 have hs := hs.ext hc
 have hM0 := hM0.ext hc
 refine from_pure 1 [(0, I p0), (1, I p1), (7, I x1), (8, I p1)] hF (by kernel_rfl) fun fr hF => ?_
 obtain ⟨x2, hx2, h⟩ := bindE h
 refine s_call [I p1] Try.call115 rfl rfl hF rfl (impl_varOf_ok p1 hx2) fun v w2 fr hRes hF => ?_
 obtain ⟨rfl, hc⟩ := hRes
 have hs := hs.ext hc
 have hM0 := hM0.ext hc
 obtain ⟨x3, hx3, h⟩ := bindE h
 refine s_call [I x1, I x2] Try.call119 rfl rfl hF rfl (cmp_Compare_int__ok x1 x2 hx3) fun v w3 fr hRes hF => ?_
 obtain ⟨rfl, hc⟩ := hRes
 have hs := hs.ext hc
 have hM0 := hM0.ext hc
 refine from_pure 1 [(0, I p0), (1, I p1), (5, I x3)] hF (by kernel_rfl) fun fr hF => ?_
 refine from_end rfl (then_normal ?_)
 refine wp_seq (wp_pure [(0, I p0), (1, I p1), (5, I x3), (12, .bool (x3 != 0))] hF (by kernel_rfl) fun fr hF => then_normal ?_)
 refine (wp_if hF (b := (x3 != 0)) rfl (fun hb => ?_) (fun hb => ?_))
 · replace h := iteT hb h
   refine wp_seq (wp_pure [(4, I x3)] hF (by kernel_rfl) fun fr hF => then_normal ?_)
   obtain rfl := Option.some.inj h
   exact wp_ret (then_ret (ret1 rfl hF rfl ⟨_, rfl, rfl, hM0.chg⟩))
 replace h := iteF hb h
 refine (wp_skip (then_normal ?_))
 refine wp_seq (wp_text' ?_)
 refine from_pure 2 [(14, I p0), (15, I p1)] hF (by kernel_rfl) fun fr hF => ?_
 obtain ⟨x4, hx4, h⟩ := bindE h
 refine s_call [I p0, I p1] Try.call119 rfl rfl hF rfl (cmp_Compare_int__ok p0 p1 hx4) fun v w4 fr hRes hF => ?_
 obtain ⟨rfl, hc⟩ := hRes
 have hs := hs.ext hc
 have hM0 := hM0.ext hc
 refine from_pure 1 [(4, I x4)] hF (by kernel_rfl) fun fr hF => ?_
 refine from_end rfl (then_normal ?_)
 obtain rfl := Option.some.inj h
 exact wp_ret (ret1 rfl hF rfl ⟨_, rfl, rfl, hM0.chg⟩)

theorem slices_Compact___int_int__ok (n : Nat) (p0 : List Int) {r : (List Int)} (h : slices_Compact___int_int_ n p0 = some r) {w : World} {S0 F0 : Nat → Prop} {pa0 : Option Addr} {pn0 pc0 : Nat} (hs : Sep [sl3 (.slice pa0 pn0 pc0) p0] w S0) (hb : ∀ k, S0 k → k < w.heap.size) (hd : ∀ k, S0 k → F0 k → False) :
   Calls Try.prog 110 [.slice pa0 pn0 pc0].toArray w fun e w' => ∃ v, e = .returned v ∧ ∃ a1 c1, v = L a1 r c1 ∧ ∃ S', Stp w S0 w' S' ∧ Sep [sl3 (L a1 r c1) r] w' S' := by
 unfold slices_Compact___int_int_ at h
 obtain ⟨hpn, hs⟩ := hs.relen 0 rfl
 subst hpn
 have hs : Sep [sl3 (L pa0 p0 pc0) p0] w S0 := hs
 have hM0 : Mem w S0 (fun k => F0 k ∧ k < w.heap.size) w S0 (fun k => F0 k ∧ k < w.heap.size) := Mem.start hb (fun _ h => h.2) (fun k h1 h2 => hd k h1 h2.1)
 refine enter (N := 61) Try.func110 rfl Try.ntmps110 rfl fun fr hF => ?_
 refine wp_seq (wp_pure [(0, L pa0 p0 pc0)] hF (by kernel_rfl) fun fr hF => then_normal ?_)
 refine wp_seq ?_
 refine wp_seq (wp_pure [(0, L pa0 p0 pc0), (8, .bool (decide ((len p0) < 2)))] hF (by kernel_rfl) fun fr hF => then_normal ?_)
 refine (wp_if hF (b := (decide ((len p0) < 2))) rfl (fun hb => ?_) (fun hb => ?_))
 · replace h := iteT hb h
   refine wp_seq (wp_pure [(2, L pa0 p0 pc0)] hF (by kernel_rfl) fun fr hF => then_normal ?_)
   obtain rfl := Option.some.inj h
   exact wp_ret (then_ret (ret1 rfl hF rfl ⟨_, rfl, pa0, pc0, rfl, S0, hM0.out, hs⟩))
 replace h := iteF hb h
 refine (wp_skip (then_normal ?_))
 refine wp_seq ?_
 refine wp_seq (wp_pure [(0, L pa0 p0 pc0), (3, I 1)] hF (by kernel_rfl) fun fr hF => then_normal ?_)
 obtain ⟨rl1, hit1, h⟩ := bindE h
 have hk1 := h
 refine (wp_cut (M := fun fr w' => ∃ s, rl1 = .inl s ∧ ∃ S2 F2, FrS 61 [(0, L pa0 p0 pc0)] fr ∧ Mem w S0 (fun k => F0 k ∧ k < w.heap.size) w' S2 F2 ∧ Sep [sl3 (L pa0 p0 pc0) p0] w' S2) (wp_block (wp_iter (Inv := fun s1 fr w' => ∃ S1 F1, FrS 61 [(0, L pa0 p0 pc0), (3, I s1)] fr ∧ Mem w S0 (fun k => F0 k ∧ k < w.heap.size) w' S1 F1 ∧ Sep [sl3 (L pa0 p0 pc0) p0] w' S1) hit1 ⟨S0, _, hF.sub _ (by kernel_rfl), (Mem.start hM0.bd hM0.bdF hM0.dj), hs⟩ fun s1 q1 fr w1i hI h hr1 => ?_)) fun fr w1o hM => ?_)
 · obtain ⟨S1, F1, hF, hM1, hs⟩ := hI
   refine wp_seq ?_
   refine wp_seq (wp_pure [(0, L pa0 p0 pc0), (3, I s1), (13, .bool (decide (s1 < (len p0))))] hF (by kernel_rfl) fun fr hF => then_normal ?_)
   refine (wp_if hF (b := (decide (s1 < (len p0)))) rfl (fun hb => ?_) (fun hb => ?_))
   · replace h := iteT hb h
     refine (wp_skip (then_normal ?_))
     refine wp_seq (wp_block ?_)
     obtain ⟨x1, hx1, h⟩ := bindE h
     obtain ⟨x2, hx2, h⟩ := bindE h
     refine wp_seq (region_bm 10 [0, 0, 3, 7, 0, 0, 32, 112, 240, 511] [true, true, false, false, true, true, true, false, false, true]
         [.eq (L pa0 p0 pc0), .eq (I s1), .is fun v w => ElemP w (fun k => k < w1i.heap.size) v (x1 : Int), .eq (I x1), .eq (L pa0 p0 pc0), .eq (I s1), .eq (I (w64 (s1 - 1))), .is fun v w => ElemP w (fun k => k < w1i.heap.size) v (x2 : Int), .eq (I x2), .eq (.bool (x1 == x2))]
         [(0, L pa0 p0 pc0), (3, I s1), (25, .bool (x1 == x2))] mix hF (by kernel_rfl) (by kernel_rfl) (by kernel_rfl) (by kernel_rfl) ⟨(Pd.monoO_is mono_elem), Pd.monoO_eq, (Pd.monoO_is mono_elem), Pd.monoO_eq, trivial⟩ (fun ow hG => ⟨np_to ow (np_index hG hF ty3 Try.underlying26 rfl rfl (RV.sub (hs.rv 0 rfl) fun k hk _ => hk) rfl rfl (fun hg => ⟨get?_nn hx1, get?_at hx1⟩)), np_to ow (np_loadF (z := x1) (i := 2) hG hF ty3 rfl rfl rfl rfl rfl rfl rfl), np_to ow (np_index hG hF ty3 Try.underlying26 rfl rfl (RV.sub (hs.rv 0 rfl) fun k hk _ => hk) rfl rfl (fun hg => ⟨get?_nn hx2, get?_at hx2⟩)), np_to ow (np_loadF (z := x2) (i := 7) hG hF ty3 rfl rfl rfl rfl rfl rfl rfl), trivial⟩) (by kernel_rfl) fun ow fr w1 hF hE hc => ?_)
     have hs := hs.ext hc
     have hM1 := hM1.ext hc
     refine from_end rfl (then_normal ?_)
     refine (wp_if hF (b := (x1 == x2)) rfl (fun hb => ?_) (fun hb => ?_))
     · replace h := iteT hb h
       refine wp_seq (wp_text' ?_)
       refine from_pure 2 [(0, L pa0 p0 pc0), (3, I s1), (26, L pa0 p0 pc0), (27, I s1)] hF (by kernel_rfl) fun fr hF => ?_
       obtain ⟨x3, hx3, h⟩ := bindE h
       refine s_view ty3 Try.underlying26 rfl rfl hF rfl (hs.rv 0 rfl) ⟨_, rfl⟩ rfl hx3 fun a1 c1 fr hv1 hle1 hF => ?_
       refine from_pure 1 [(0, L pa0 p0 pc0), (3, I s1), (4, L a1 x3 c1)] hF (by kernel_rfl) fun fr hF => ?_
       refine from_end rfl (then_normal ?_)
       refine wp_seq ?_
       refine wp_seq (wp_pure [(0, L pa0 p0 pc0), (3, I s1), (4, L a1 x3 c1), (5, I 1)] hF (by kernel_rfl) fun fr hF => then_normal ?_)
       obtain ⟨rl2, hit2, h⟩ := bindE h
       have hk2 := h
       refine (wp_cut (M := fun fr w' => ∃ S4 F4, FrS 61 [(0, L pa0 p0 pc0), (3, I rl2.1)] fr ∧ Mem w1 S1 F1 w' S4 F4 ∧ Sep [sl3 (L pa0 p0 pc0) rl2.2] w' S4) (wp_block (wp_iter (Inv := fun s2 fr w' => ∃ S3 F3, FrS 61 [(0, L pa0 p0 pc0), (3, I s2.1), (4, L a1 x3 c1), (5, I s2.2.1)] fr ∧ Mem w1 S1 F1 w' S3 F3 ∧ Sep [sl3 (L pa0 p0 pc0) s2.2.2] w' S3) hit2 ⟨S1, _, hF.sub _ (by kernel_rfl), (Mem.start hM1.bd hM1.bdF hM1.dj), hs⟩ fun s2 q2 fr w2i hI h hr2 => ?_)) fun fr w2o hM => ?_)
       · obtain ⟨S3, F3, hF, hM2, hs⟩ := hI
         refine wp_seq ?_
         refine wp_seq (wp_pure [(0, L pa0 p0 pc0), (3, I s2.1), (4, L a1 x3 c1), (5, I s2.2.1), (32, .bool (decide (s2.2.1 < (len x3))))] hF (by kernel_rfl) fun fr hF => then_normal ?_)
         refine (wp_if hF (b := (decide (s2.2.1 < (len x3)))) rfl (fun hb => ?_) (fun hb => ?_))
         · replace h := iteT hb h
           refine (wp_skip (then_normal ?_))
           refine wp_seq (wp_block ?_)
           obtain ⟨x4, hx4, h⟩ := bindE h
           obtain ⟨x5, hx5, h⟩ := bindE h
           refine wp_seq (region_bm 10 [0, 0, 3, 7, 0, 0, 32, 112, 240, 511] [true, true, false, false, true, true, true, false, false, true]
               [.eq (L a1 x3 c1), .eq (I s2.2.1), .is fun v w => ElemP w (fun k => k < w2i.heap.size) v (x4 : Int), .eq (I x4), .eq (L a1 x3 c1), .eq (I s2.2.1), .eq (I (w64 (s2.2.1 - 1))), .is fun v w => ElemP w (fun k => k < w2i.heap.size) v (x5 : Int), .eq (I x5), .eq (.bool (x4 != x5))]
               [(0, L pa0 p0 pc0), (3, I s2.1), (4, L a1 x3 c1), (5, I s2.2.1), (44, .bool (x4 != x5))] mix hF (by kernel_rfl) (by kernel_rfl) (by kernel_rfl) (by kernel_rfl) ⟨(Pd.monoO_is mono_elem), Pd.monoO_eq, (Pd.monoO_is mono_elem), Pd.monoO_eq, trivial⟩ (fun ow hG => ⟨np_to ow (np_index hG hF ty3 Try.underlying26 rfl rfl (RV.sub (view_rv (hs.rv 0 rfl) hv1 (by have h1 := (hs.relen 0 rfl).1; omega)) fun k hk _ => hk) rfl rfl (fun hg => ⟨get?_nn hx4, get?_at hx4⟩)), np_to ow (np_loadF (z := x4) (i := 2) hG hF ty3 rfl rfl rfl rfl rfl rfl rfl), np_to ow (np_index hG hF ty3 Try.underlying26 rfl rfl (RV.sub (view_rv (hs.rv 0 rfl) hv1 (by have h1 := (hs.relen 0 rfl).1; omega)) fun k hk _ => hk) rfl rfl (fun hg => ⟨get?_nn hx5, get?_at hx5⟩)), np_to ow (np_loadF (z := x5) (i := 7) hG hF ty3 rfl rfl rfl rfl rfl rfl rfl), trivial⟩) (by kernel_rfl) fun ow fr w2 hF hE hc => ?_)
           have hs := hs.ext hc
           have hM2 := hM2.ext hc
           refine from_end rfl (then_normal ?_)
           refine (wp_if hF (b := (x4 != x5)) rfl (fun hb => ?_) (fun hb => ?_))
           · replace h := iteT hb h
             refine wp_seq (wp_text' ?_)
             refine from_pure 4 [(0, L pa0 p0 pc0), (3, I s2.1), (4, L a1 x3 c1), (5, I s2.2.1), (45, L pa0 p0 pc0), (46, I s2.1), (47, L a1 x3 c1), (48, I s2.2.1)] hF (by kernel_rfl) fun fr hF => ?_
             obtain ⟨x6, hx6, h⟩ := bindE h
             refine s_elemF (z := x6) (I x6) ty3 Try.underlying26 rfl rfl rfl rfl rfl hF rfl (view_rv (hs.rv 0 rfl) hv1 (by have h1 := (hs.relen 0 rfl).1; omega)) rfl (get?_nn hx6) (get?_at hx6) rfl fun p fr hF => ?_
             obtain ⟨x7, hx7, h⟩ := bindE h
             refine q_set (q := x6) 0 hs hM2 rfl Try.underlying26 ty3 rfl rfl rfl rfl hF rfl rfl (by simp) rfl rfl hx7 fun w3 S5 fr _ hs hp hF => ?_
             have hM2 := hM2.stp hp
             have hs : Sep [sl3 (L pa0 p0 pc0) x7] w3 S5 := hs
             refine from_end rfl (then_normal ?_)
             refine (wp_pure [(0, L pa0 p0 pc0), (3, I (w64 (s2.1 + 1))), (4, L a1 x3 c1), (5, I s2.2.1)] hF (by kernel_rfl) fun fr hF => ?_)
             refine blk_normal (then_normal ?_)
             refine (wp_pure [(0, L pa0 p0 pc0), (3, I (w64 (s2.1 + 1))), (4, L a1 x3 c1), (5, I (w64 (s2.2.1 + 1)))] hF (by kernel_rfl) fun fr hF => then_normal ?_)
             exact ⟨_, (Option.some.inj h).symm, S5, _, hF.sub _ (by kernel_rfl), hM2, hs⟩
           replace h := iteF hb h
           refine (wp_skip ?_)
           refine blk_normal (then_normal ?_)
           refine (wp_pure [(0, L pa0 p0 pc0), (3, I s2.1), (4, L a1 x3 c1), (5, I (w64 (s2.2.1 + 1)))] hF (by kernel_rfl) fun fr hF => then_normal ?_)
           exact ⟨_, (Option.some.inj h).symm, S3, _, hF.sub _ (by kernel_rfl), hM2, hs⟩
         replace h := iteF hb h
         refine (wp_exit (then_exit (then_exit (blk_exit_eq ?_))))
         obtain rfl := hr2 _ (Option.some.inj h).symm
         exact then_normal ⟨S3, _, hF.sub _ (by kernel_rfl), hM2, hs⟩
       · obtain ⟨S4, F4, hF, hMx, hs⟩ := hM
         have hM1 := hM1.trans hMx
         refine wp_seq (wp_text' ?_)
         refine from_pure 2 [(0, L pa0 p0 pc0), (3, I rl2.1), (54, L pa0 p0 pc0), (55, I rl2.1)] hF (by kernel_rfl) fun fr hF => ?_
         obtain ⟨x8, hx8, h⟩ := bindE h
         refine s_view ty3 Try.underlying26 rfl rfl hF rfl (hs.rv 0 rfl) ⟨_, rfl⟩ (by have h1 := (hs.relen 0 rfl).1; show len p0 = ((List.length rl2.2 : Nat) : Int); unfold len; omega) hx8 fun a2 c2 fr hv2 hle2 hF => ?_
         have hle2 := (show (rl2.1).toNat + List.length x8 ≤ List.length p0 by have h1 := (hs.relen 0 rfl).1; omega)
         refine q_clearV (z := 0) (zv := I 0) 0 hs hM1 rfl Try.underlying26 (fun w => by kernel_rfl) rfl rfl hF rfl (hv2) (by have h1 := (hs.relen 0 rfl).1; omega) fun w4 S6 hs hp hF => ?_
         have hM1 := hM1.stp hp
         have hs : Sep [sl3 (L pa0 p0 pc0) (vclear 0 rl2.2 rl2.1 (List.length x8))] w4 S6 := hs
         refine from_end rfl (then_normal ?_)
         refine wp_seq (wp_text' ?_)
         refine from_pure 2 [(57, L pa0 p0 pc0), (58, I rl2.1)] hF (by kernel_rfl) fun fr hF => ?_
         obtain ⟨x9, hx9, h⟩ := bindE h
         refine q_front 0 hs hM1 rfl Try.underlying26 ty3 rfl rfl hF rfl (.inl rfl) rfl hx9 fun c3 w5 S7 fr hs hp hF => ?_
         have hM1 := hM1.stp hp
         have hs : Sep [sl3 (L pa0 x9 c3) x9] w5 S7 := hs
         refine from_pure 1 [(2, L pa0 x9 c3)] hF (by kernel_rfl) fun fr hF => ?_
         refine from_end rfl (then_normal ?_)
         obtain rfl := hr1 _ (Option.some.inj h).symm
         obtain rfl := Option.some.inj hk1
         exact wp_ret (blk_ret (then_ret (then_ret (blk_ret (then_ret (ret1 rfl hF rfl ⟨_, rfl, pa0, c3, rfl, S7, (hM0.trans hM1).out, hs⟩))))))
     replace h := iteF hb h
     refine (wp_skip ?_)
     refine blk_normal (then_normal ?_)
     refine (wp_pure [(0, L pa0 p0 pc0), (3, I (w64 (s1 + 1)))] hF (by kernel_rfl) fun fr hF => then_normal ?_)
     exact ⟨_, (Option.some.inj h).symm, S1, _, hF.sub _ (by kernel_rfl), hM1, hs⟩
   replace h := iteF hb h
   refine (wp_exit (then_exit (then_exit (blk_exit_eq ?_))))
   obtain rfl := hr1 _ (Option.some.inj h).symm
   exact then_normal ⟨_, rfl, S1, _, hF.sub _ (by kernel_rfl), hM1, hs⟩
 · obtain ⟨s1r, rfl, hM⟩ := hM
   obtain ⟨S2, F2, hF, hMx, hs⟩ := hM
   have hM0 := hM0.trans hMx
   refine wp_seq (wp_pure [(2, L pa0 p0 pc0)] hF (by kernel_rfl) fun fr hF => then_normal ?_)
   obtain rfl := Option.some.inj h
   exact wp_ret (ret1 rfl hF rfl ⟨_, rfl, pa0, pc0, rfl, S2, hM0.out, hs⟩)

theorem impl_clauseOk_ok (n : Nat) (p0 : List Int) (p1 : Int) {r : Bool} (h : impl_clauseOk n p0 p1 = some r) {w : World} {G0 : Nat → Prop} {va0 : Value} (ra0 : RV w G0 va0 p0) :
   Calls Try.prog 120 [va0, I p1].toArray w fun e w' => ∃ v, e = .returned v ∧ v = .bool r ∧ Chg Non w w' := by
 unfold impl_clauseOk at h
 have hs := Sep.nil w Non
 have hM0 : Mem w Non (fun k => (G0 k) ∧ k < w.heap.size) w Non (fun k => (G0 k) ∧ k < w.heap.size) := Mem.start (fun _ h => h.elim) (fun _ h => h.2) (fun _ h => h.elim)
 have ra0 := ra0.sub (F' := (fun k => (G0 k) ∧ k < w.heap.size)) (fun k hk h => ⟨h, hk⟩)
 obtain ⟨a1, c1, rfl, -⟩ := ra0.slice
 refine enter (N := 28) Try.func120 rfl Try.ntmps120 rfl fun fr hF => ?_
 refine wp_seq (wp_pure [(0, L a1 p0 c1), (1, I p1)] hF (by kernel_rfl) fun fr hF => then_normal ?_)
 refine wp_seq ?_
 refine wp_seq (wp_text' ?_)
 refine from_pure 2 [(0, L a1 p0 c1), (6, L a1 p0 c1), (7, I p1)] hF (by kernel_rfl) fun fr hF => ?_
 obtain ⟨x1, hx1, h⟩ := bindE h
 refine s_call [L a1 p0 c1, I p1] Try.call85 rfl rfl hF rfl (impl_literalsOk_ok n p0 p1 hx1 (ra0)) fun v w1 fr hRes hF => ?_
 obtain ⟨rfl, hc⟩ := hRes
 have ra0 := ra0.ext hc
 have hs := hs.ext hc
 have hM0 := hM0.ext hc
 refine from_pure 1 [(0, L a1 p0 c1), (9, .bool (!x1))] hF (by kernel_rfl) fun fr hF => ?_
 refine from_end rfl (then_normal ?_)
 refine (wp_if hF (b := (!x1)) rfl (fun hb => ?_) (fun hb => ?_))
 · replace h := iteT hb h
   refine wp_seq (wp_pure [(4, .bool false)] hF (by kernel_rfl) fun fr hF => then_normal ?_)
   obtain rfl := Option.some.inj h
   exact wp_ret (then_ret (ret1 rfl hF rfl ⟨_, rfl, rfl, hM0.chg⟩))
 replace h := iteF hb h
 refine (wp_skip (then_normal ?_))
 refine wp_seq ?_
 refine wp_seq (wp_pure [(0, L a1 p0 c1), (5, I 1)] hF (by kernel_rfl) fun fr hF => then_normal ?_)
 obtain ⟨rl1, hit1, h⟩ := bindE h
 have hk1 := h
 refine (wp_cut (M := fun fr w' => ∃ s, rl1 = .inl s ∧ ∃ S2 F2, FrS 28 [] fr ∧ Mem w1 Non (fun k => (G0 k) ∧ k < w.heap.size) w' S2 F2 ∧ Sep [] w' S2) (wp_block (wp_iter (Inv := fun s1 fr w' => ∃ S1 F1, FrS 28 [(0, L a1 p0 c1), (5, I s1)] fr ∧ Mem w1 Non (fun k => (G0 k) ∧ k < w.heap.size) w' S1 F1 ∧ Sep [] w' S1) hit1 ⟨Non, _, hF.sub _ (by kernel_rfl), (Mem.start hM0.bd hM0.bdF hM0.dj), hs⟩ fun s1 q1 fr w1i hI h hr1 => ?_)) fun fr w1o hM => ?_)
 · obtain ⟨S1, F1, hF, hM1, hs⟩ := hI
   have ra0 := ra0.mem hM1
   refine wp_seq ?_
   refine wp_seq (wp_pure [(0, L a1 p0 c1), (5, I s1), (13, .bool (decide (s1 < (len p0))))] hF (by kernel_rfl) fun fr hF => then_normal ?_)
   refine (wp_if hF (b := (decide (s1 < (len p0)))) rfl (fun hb => ?_) (fun hb => ?_))
   · replace h := iteT hb h
     refine (wp_skip (then_normal ?_))
     refine wp_seq (wp_block ?_)
     obtain ⟨x2, hx2, h⟩ := bindE h
     obtain ⟨x3, hx3, h⟩ := bindE h
     obtain ⟨x4, hx4, h⟩ := bindE h
     obtain ⟨x5, hx5, h⟩ := bindE h
     refine wp_seq (region_bm 12 [0, 0, 2, 7, 15, 31, 0, 0, 192, 448, 1023, 2047] [true, true, true, false, false, false, true, true, false, false, false, true]
         [.eq (L a1 p0 c1), .eq (I s1), .eq (I (w64 (s1 - 1))), .is fun v w => ElemP w (fun k => k < w1i.heap.size) v (x2 : Int), .eq (I x2), .eq (I x3), .eq (L a1 p0 c1), .eq (I s1), .is fun v w => ElemP w (fun k => k < w1i.heap.size) v (x4 : Int), .eq (I x4), .eq (I x5), .eq (.bool (decide (x3 ≥ x5)))]
         [(0, L a1 p0 c1), (5, I s1), (27, .bool (decide (x3 ≥ x5)))] mix hF (by kernel_rfl) (by kernel_rfl) (by kernel_rfl) (by kernel_rfl) ⟨(Pd.monoO_is mono_elem), Pd.monoO_eq, Pd.monoO_eq, (Pd.monoO_is mono_elem), Pd.monoO_eq, Pd.monoO_eq, trivial⟩ (fun ow hG => ⟨np_to ow (np_index hG hF ty3 Try.underlying26 rfl rfl (RV.sub (ra0) fun k hk _ => hk) rfl rfl (fun hg => ⟨get?_nn hx2, get?_at hx2⟩)), np_to ow (np_loadF (z := x2) (i := 3) hG hF ty3 rfl rfl rfl rfl rfl rfl rfl), np_to ow (np_call [I x2] hG hF Try.call115 rfl rfl (fun w hC hg => (impl_varOf_ok x2 hx3).mono fun e w' ⟨v, he, hv, hc⟩ => ⟨v, he, hc, hv⟩)), np_to ow (np_index hG hF ty3 Try.underlying26 rfl rfl (RV.sub (ra0) fun k hk _ => hk) rfl rfl (fun hg => ⟨get?_nn hx4, get?_at hx4⟩)), np_to ow (np_loadF (z := x4) (i := 8) hG hF ty3 rfl rfl rfl rfl rfl rfl rfl), np_to ow (np_call [I x4] hG hF Try.call115 rfl rfl (fun w hC hg => (impl_varOf_ok x4 hx5).mono fun e w' ⟨v, he, hv, hc⟩ => ⟨v, he, hc, hv⟩)), trivial⟩) (by kernel_rfl) fun ow fr w2 hF hE hc => ?_)
     have ra0 := ra0.ext hc
     have hs := hs.ext hc
     have hM1 := hM1.ext hc
     refine from_end rfl (then_normal ?_)
     refine (wp_if hF (b := (decide (x3 ≥ x5))) rfl (fun hb => ?_) (fun hb => ?_))
     · replace h := iteT hb h
       refine wp_seq (wp_pure [(4, .bool false)] hF (by kernel_rfl) fun fr hF => then_normal ?_)
       obtain rfl := hr1 _ (Option.some.inj h).symm
       obtain rfl := Option.some.inj hk1
       exact wp_ret (blk_ret (then_ret (then_ret (blk_ret (then_ret (ret1 rfl hF rfl ⟨_, rfl, rfl, (hM0.trans hM1).chg⟩))))))
     replace h := iteF hb h
     refine (wp_skip ?_)
     refine blk_normal (then_normal ?_)
     refine (wp_pure [(0, L a1 p0 c1), (5, I (w64 (s1 + 1)))] hF (by kernel_rfl) fun fr hF => then_normal ?_)
     exact ⟨_, (Option.some.inj h).symm, S1, _, hF.sub _ (by kernel_rfl), hM1, hs⟩
   replace h := iteF hb h
   refine (wp_exit (then_exit (then_exit (blk_exit_eq ?_))))
   obtain rfl := hr1 _ (Option.some.inj h).symm
   exact then_normal ⟨_, rfl, S1, _, hF.sub _ (by kernel_rfl), hM1, hs⟩
 · obtain ⟨s1r, rfl, hM⟩ := hM
   obtain ⟨S2, F2, hF, hMx, hs⟩ := hM
   have hM0 := hM0.trans hMx
   refine wp_seq (wp_pure [(4, .bool true)] hF (by kernel_rfl) fun fr hF => then_normal ?_)
   obtain rfl := Option.some.inj h
   exact wp_ret (ret1 rfl hF rfl ⟨_, rfl, rfl, hM0.chg⟩)

theorem slices_insertionSortCmpFunc_int___impl_MakeClause_1_ok (n : Nat) (p0 : List Int) (p1 : Int) (p2 : Int) {r : (List Int)} (h : slices_insertionSortCmpFunc_int___impl_MakeClause_1 n p0 p1 p2 = some r) {w : World} {S0 F0 : Nat → Prop} {pa0 : Option Addr} {pn0 pc0 : Nat} (hs : Sep [sl3 (.slice pa0 pn0 pc0) p0] w S0) (hb : ∀ k, S0 k → k < w.heap.size) (hd : ∀ k, S0 k → F0 k → False) :
   Calls Try.prog 165 [.slice pa0 pn0 pc0, I p1, I p2, .func (.func 118) #[] #[]].toArray w fun e w' => ∃ v, e = .returned v ∧ v = .tuple #[] ∧ ∃ S', Stp w S0 w' S' ∧ Sep [sl3 (.slice pa0 pn0 pc0) r] w' S' := by
 unfold slices_insertionSortCmpFunc_int___impl_MakeClause_1 at h
 obtain ⟨hpn, hs⟩ := hs.relen 0 rfl
 subst hpn
 have hs : Sep [sl3 (L pa0 p0 pc0) p0] w S0 := hs
 have hM0 : Mem w S0 (fun k => F0 k ∧ k < w.heap.size) w S0 (fun k => F0 k ∧ k < w.heap.size) := Mem.start hb (fun _ h => h.2) (fun k h1 h2 => hd k h1 h2.1)
 refine enter (N := 53) Try.func165 rfl Try.ntmps165 rfl fun fr hF => ?_
 refine wp_seq (wp_pure [(0, L pa0 p0 pc0), (1, I p1), (2, I p2), (3, .func (.func 118) #[] #[]), (8, I (w64 (p1 + 1)))] hF (by kernel_rfl) fun fr hF => then_normal ?_)
 obtain ⟨rl1, hit1, h⟩ := bindE h
 have hk1 := h
 refine (wp_cut' (M := fun fr w' => ∃ S2 F2, FrS 53 [] fr ∧ Mem w S0 (fun k => F0 k ∧ k < w.heap.size) w' S2 F2 ∧ Sep [sl3 (L pa0 p0 pc0) rl1] w' S2) (wp_block (wp_iter (Inv := fun s1 fr w' => ∃ S1 F1, FrS 53 [(0, L pa0 p0 pc0), (1, I p1), (2, I p2), (3, .func (.func 118) #[] #[]), (8, I s1.1)] fr ∧ Mem w S0 (fun k => F0 k ∧ k < w.heap.size) w' S1 F1 ∧ Sep [sl3 (L pa0 p0 pc0) s1.2] w' S1) hit1 ⟨S0, _, hF.sub _ (by kernel_rfl), (Mem.start hM0.bd hM0.bdF hM0.dj), hs⟩ fun s1 q1 fr w1i hI h hr1 => ?_)) fun fr w1o hM => ?_)
 · obtain ⟨S1, F1, hF, hM1, hs⟩ := hI
   refine wp_seq ?_
   refine wp_seq (wp_pure [(0, L pa0 p0 pc0), (1, I p1), (2, I p2), (3, .func (.func 118) #[] #[]), (8, I s1.1), (14, .bool (decide (s1.1 < p2)))] hF (by kernel_rfl) fun fr hF => then_normal ?_)
   refine (wp_if hF (b := (decide (s1.1 < p2))) rfl (fun hb => ?_) (fun hb => ?_))
   · replace h := iteT hb h
     refine (wp_skip (then_normal ?_))
     refine wp_seq (wp_block ?_)
     refine wp_seq (wp_pure [(0, L pa0 p0 pc0), (1, I p1), (2, I p2), (3, .func (.func 118) #[] #[]), (8, I s1.1), (9, I s1.1)] hF (by kernel_rfl) fun fr hF => then_normal ?_)
     obtain ⟨rl2, hit2, h⟩ := bindE h
     have hk2 := h
     refine (wp_cut' (M := fun fr w' => ∃ S4 F4, FrS 53 [(0, L pa0 p0 pc0), (1, I p1), (2, I p2), (3, .func (.func 118) #[] #[]), (8, I s1.1)] fr ∧ Mem w1i S1 F1 w' S4 F4 ∧ Sep [sl3 (L pa0 p0 pc0) rl2] w' S4) (wp_block (wp_iter (Inv := fun s2 fr w' => ∃ S3 F3, FrS 53 [(0, L pa0 p0 pc0), (1, I p1), (2, I p2), (3, .func (.func 118) #[] #[]), (8, I s1.1), (9, I s2.1)] fr ∧ Mem w1i S1 F1 w' S3 F3 ∧ Sep [sl3 (L pa0 p0 pc0) s2.2] w' S3) hit2 ⟨S1, _, hF.sub _ (by kernel_rfl), (Mem.start hM1.bd hM1.bdF hM1.dj), hs⟩ fun s2 q2 fr w2i hI h hr2 => ?_)) fun fr w2o hM => ?_)
     · obtain ⟨S3, F3, hF, hM2, hs⟩ := hI
       refine wp_seq ?_
       obtain ⟨x1, hx1, h⟩ := bindE h
       obtain ⟨x2, hx2, h⟩ := bindE h
       obtain ⟨x3, hx3, h⟩ := bindE h
       refine wp_seq (region_bm 17 [0, 0, 3, 7, 15, 15, 15, 111, 239, 15, 15, 1039, 3599, 7695, 16383, 32767, 65535] [true, true, true, true, true, true, true, false, false, true, true, true, false, false, false, true, true]
           [.eq (I s2.1), .eq (I p1), .eq (.bool (decide (s2.1 > p1))), .eq (.bool (decide (s2.1 > p1))), .eq (.func (.func 118) #[] #[]), .eq (L pa0 p0 pc0), .eq (I s2.1), .is fun v w => ElemP w (fun k => k < w2i.heap.size) v (x1 : Int), .eq (I x1), .eq (L pa0 p0 pc0), .eq (I s2.1), .eq (I (w64 (s2.1 - 1))), .is fun v w => ElemP w (fun k => k < w2i.heap.size) v (x2 : Int), .eq (I x2), .eq (I x3), .eq (.bool (decide (x3 < 0))), .eq (.bool ((decide (s2.1 > p1)) && (decide (x3 < 0))))]
           [(0, L pa0 p0 pc0), (1, I p1), (2, I p2), (3, .func (.func 118) #[] #[]), (8, I s1.1), (9, I s2.1), (34, .bool ((decide (s2.1 > p1)) && (decide (x3 < 0))))] mix hF (by kernel_rfl) (by kernel_rfl) (by kernel_rfl) (by kernel_rfl) ⟨(Pd.monoO_is mono_elem), Pd.monoO_eq, (Pd.monoO_is mono_elem), Pd.monoO_eq, Pd.monoO_eq, trivial⟩ (fun ow hG => ⟨np_to ow (np_index hG hF ty3 Try.underlying26 rfl rfl (RV.sub (hs.rv 0 rfl) fun k hk _ => hk) rfl rfl (fun hg => ⟨get?_nn (iteT hg.2 hx1), get?_at (iteT hg.2 hx1)⟩)), np_to ow (np_loadF (z := x1) (i := 7) hG hF ty3 rfl rfl rfl rfl rfl rfl rfl), np_to ow (np_index hG hF ty3 Try.underlying26 rfl rfl (RV.sub (hs.rv 0 rfl) fun k hk _ => hk) rfl rfl (fun hg => ⟨get?_nn (iteT hg.2 hx2), get?_at (iteT hg.2 hx2)⟩)), np_to ow (np_loadF (z := x2) (i := 12) hG hF ty3 rfl rfl rfl rfl rfl rfl rfl), np_to ow (np_callV [I x1, I x2] [] hG hF Try.call118 rfl rfl rfl (fun w hC hg => (impl_MakeClause_1_ok x1 x2 (iteT hg.2 hx3)).mono fun e w' ⟨v, he, hv, hc⟩ => ⟨v, he, hc, hv⟩)), trivial⟩) (by kernel_rfl) fun ow fr w1 hF hE hc => ?_)
       have hs := hs.ext hc
       have hM2 := hM2.ext hc
       refine from_end rfl (then_normal ?_)
       refine (wp_if hF (b := ((decide (s2.1 > p1)) && (decide (x3 < 0)))) rfl (fun hb => ?_) (fun hb => ?_))
       · replace h := iteT hb h
         refine (wp_skip (then_normal ?_))
         refine wp_seq (wp_block ?_)
         refine (wp_ra mix ?_)
         refine ra_hoists [2, 3, 4] hF 15 rfl (by kernel_rfl) (by kernel_rfl) (by kernel_rfl) (by kernel_rfl) (by kernel_rfl) (fun _ _ _ _ _ h => h) ?_
         obtain ⟨x4, hx4, h⟩ := bindE h
         obtain ⟨x5, hx5, h⟩ := bindE h
         refine (ra_bm 14 [0, 0, 0, 4, 12, 28, 28, 92, 252, 508, 28, 28, 3100, 7196, 16383, 32767, 65535, 131071] [true, true, true, true, true, true, true, true, false, false, true, true, false, false]
             [.eq (L pa0 p0 pc0), .eq (I s2.1), .eq (L pa0 p0 pc0), .eq (I s2.1), .eq (I (w64 (s2.1 - 1))), .eq (L pa0 p0 pc0), .eq (I s2.1), .eq (I (w64 (s2.1 - 1))), .is fun v w => ElemP w (fun k => k < w1.heap.size) v (x4 : Int), .eq (I x4), .eq (L pa0 p0 pc0), .eq (I s2.1), .is fun v w => ElemP w (fun k => k < w1.heap.size) v (x5 : Int), .eq (I x5), .any, .any, .any, .any]
             [(0, L pa0 p0 pc0), (1, I p1), (2, I p2), (3, .func (.func 118) #[] #[]), (8, I s1.1), (9, I s2.1), (37, L pa0 p0 pc0), (38, I s2.1), (39, L pa0 p0 pc0), (41, I (w64 (s2.1 - 1))), (46, I x4), (50, I x5)] hF (by kernel_rfl) (by kernel_rfl) (by kernel_rfl) (by kernel_rfl) ⟨(Pd.monoO_is mono_elem), Pd.monoO_eq, (Pd.monoO_is mono_elem), Pd.monoO_eq, trivial⟩ (fun ow hG => ⟨np_to ow (np_index hG hF ty3 Try.underlying26 rfl rfl (RV.sub (hs.rv 0 rfl) fun k hk _ => hk) rfl rfl (fun hg => ⟨get?_nn hx4, get?_at hx4⟩)), np_to ow (np_loadF (z := x4) (i := 8) hG hF ty3 rfl rfl rfl rfl rfl rfl rfl), np_to ow (np_index hG hF ty3 Try.underlying26 rfl rfl (RV.sub (hs.rv 0 rfl) fun k hk _ => hk) rfl rfl (fun hg => ⟨get?_nn hx5, get?_at hx5⟩)), np_to ow (np_loadF (z := x5) (i := 12) hG hF ty3 rfl rfl rfl rfl rfl rfl rfl), trivial⟩) (by kernel_rfl) fun ow fr w2 hF hE hc => ?_)
         have hs := hs.ext hc
         have hM2 := hM2.ext hc
         obtain ⟨x6, hx6, h⟩ := bindE h
         refine q_set (q := x4) 0 hs hM2 rfl Try.underlying26 ty3 rfl rfl rfl rfl hF rfl rfl (by simp) rfl rfl hx6 fun w3 S5 fr _ hs hp hF => ?_
         have hM2 := hM2.stp hp
         have hs : Sep [sl3 (L pa0 p0 pc0) x6] w3 S5 := hs
         obtain ⟨x7, hx7, h⟩ := bindE h
         refine q_set (q := x5) 0 hs hM2 rfl Try.underlying26 ty3 rfl rfl rfl rfl hF rfl rfl (by simp) rfl rfl hx7 fun w4 S6 fr _ hs hp hF => ?_
         have hM2 := hM2.stp hp
         have hs : Sep [sl3 (L pa0 p0 pc0) x7] w4 S6 := hs
         refine from_end rfl ?_
         refine blk_normal (then_normal ?_)
         refine (wp_pure [(0, L pa0 p0 pc0), (1, I p1), (2, I p2), (3, .func (.func 118) #[] #[]), (8, I s1.1), (9, I (w64 (s2.1 - 1)))] hF (by kernel_rfl) fun fr hF => then_normal ?_)
         exact ⟨_, (Option.some.inj h).symm, S6, _, hF.sub _ (by kernel_rfl), hM2, hs⟩
       replace h := iteF hb h
       refine (wp_exit (then_exit (then_exit (blk_exit_eq ?_))))
       obtain rfl := hr2 _ (Option.some.inj h).symm
       exact then_normal ⟨S3, _, hF.sub _ (by kernel_rfl), hM2, hs⟩
     · obtain ⟨S4, F4, hF, hMx, hs⟩ := hM
       have hM1 := hM1.trans hMx
       refine blk_normal (then_normal ?_)
       refine (wp_pure [(0, L pa0 p0 pc0), (1, I p1), (2, I p2), (3, .func (.func 118) #[] #[]), (8, I (w64 (s1.1 + 1)))] hF (by kernel_rfl) fun fr hF => then_normal ?_)
       exact ⟨_, (Option.some.inj h).symm, S4, _, hF.sub _ (by kernel_rfl), hM1, hs⟩
   replace h := iteF hb h
   refine (wp_exit (then_exit (then_exit (blk_exit_eq ?_))))
   obtain rfl := hr1 _ (Option.some.inj h).symm
   exact then_normal ⟨S1, _, hF.sub _ (by kernel_rfl), hM1, hs⟩
 · obtain ⟨S2, F2, hF, hMx, hs⟩ := hM
   have hM0 := hM0.trans hMx
   have hrets := fun {σ : List (Nat × Value)} (h : σ = []) => (by subst h; exact Rets.nil : Rets Try.prog σ w1o [] [])
   obtain rfl := Option.some.inj h
   exact (retGn (rs := []) rfl (hF.sub [] (by kernel_rfl)) (hrets rfl) rfl ⟨_, rfl, rfl, S2, hM0.out, hs⟩)

theorem slices_pdqsortCmpFunc_int___impl_MakeClause_1_ok (n : Nat) (p0 : List Int) (p1 : Int) (p2 : Int) (p3 : Int) {r : (List Int)} (h : slices_pdqsortCmpFunc_int___impl_MakeClause_1 n p0 p1 p2 p3 = some r) {w : World} {S0 F0 : Nat → Prop} {pa0 : Option Addr} {pn0 pc0 : Nat} (hs : Sep [sl3 (.slice pa0 pn0 pc0) p0] w S0) (hb : ∀ k, S0 k → k < w.heap.size) (hd : ∀ k, S0 k → F0 k → False) :
   Calls Try.prog 142 [.slice pa0 pn0 pc0, I p1, I p2, I p3, .func (.func 118) #[] #[]].toArray w fun e w' => ∃ v, e = .returned v ∧ v = .tuple #[] ∧ ∃ S', Stp w S0 w' S' ∧ Sep [sl3 (.slice pa0 pn0 pc0) r] w' S' := by
 unfold slices_pdqsortCmpFunc_int___impl_MakeClause_1 at h
 obtain ⟨hpn, hs⟩ := hs.relen 0 rfl
 subst hpn
 have hs : Sep [sl3 (L pa0 p0 pc0) p0] w S0 := hs
 have hM0 : Mem w S0 (fun k => F0 k ∧ k < w.heap.size) w S0 (fun k => F0 k ∧ k < w.heap.size) := Mem.start hb (fun _ h => h.2) (fun k h1 h2 => hd k h1 h2.1)
 refine enter (N := 148) Try.func142 rfl Try.ntmps142 rfl fun fr hF => ?_
 refine wp_seq (wp_pure [(0, L pa0 p0 pc0), (1, I p1), (2, I p2), (3, I p3), (4, .func (.func 118) #[] #[]), (10, .bool true)] hF (by kernel_rfl) fun fr hF => then_normal ?_)
 refine wp_seq (wp_pure [(0, L pa0 p0 pc0), (1, I p1), (2, I p2), (3, I p3), (4, .func (.func 118) #[] #[]), (10, .bool true), (11, .bool true)] hF (by kernel_rfl) fun fr hF => then_normal ?_)
 obtain ⟨rl1, hit1, h⟩ := bindE h
 have hk1 := h
 refine (wp_cut' (M := fun fr w' => ∃ s, rl1 = .inl s ∧ ∃ S2 F2, FrS 148 [] fr ∧ Mem w S0 (fun k => F0 k ∧ k < w.heap.size) w' S2 F2 ∧ Sep [sl3 (L pa0 p0 pc0) p0] w' S2) (wp_block (wp_iter (Inv := fun s1 fr w' => ∃ S1 F1, FrS 148 [(0, L pa0 p0 pc0), (1, I s1.1), (2, I s1.2.1), (3, I s1.2.2.1), (4, .func (.func 118) #[] #[]), (10, .bool s1.2.2.2.1), (11, .bool s1.2.2.2.2)] fr ∧ Mem w S0 (fun k => F0 k ∧ k < w.heap.size) w' S1 F1 ∧ Sep [sl3 (L pa0 p0 pc0) p0] w' S1) hit1 ⟨S0, _, hF.sub _ (by kernel_rfl), (Mem.start hM0.bd hM0.bdF hM0.dj), hs⟩ fun s1 q1 fr w1i hI h hr1 => ?_)) fun fr w1o hM => ?_)
 · obtain ⟨S1, F1, hF, hM1, hs⟩ := hI
   refine (wp_block ?_)
   refine wp_seq (wp_pure [(0, L pa0 p0 pc0), (1, I s1.1), (2, I s1.2.1), (3, I s1.2.2.1), (4, .func (.func 118) #[] #[]), (10, .bool s1.2.2.2.1), (11, .bool s1.2.2.2.2), (12, I (w64 (s1.2.1 - s1.1)))] hF (by kernel_rfl) fun fr hF => then_normal ?_)
   refine wp_seq ?_
   refine wp_seq (wp_pure [(0, L pa0 p0 pc0), (1, I s1.1), (2, I s1.2.1), (3, I s1.2.2.1), (4, .func (.func 118) #[] #[]), (10, .bool s1.2.2.2.1), (11, .bool s1.2.2.2.2), (12, I (w64 (s1.2.1 - s1.1))), (25, .bool (decide ((w64 (s1.2.1 - s1.1)) ≤ 12)))] hF (by kernel_rfl) fun fr hF => then_normal ?_)
   refine (wp_if hF (b := (decide ((w64 (s1.2.1 - s1.1)) ≤ 12))) rfl (fun hb => ?_) (fun hb => ?_))
   · replace h := iteT hb h
     refine wp_seq (wp_text' ?_)
     refine from_pure 4 [(26, L pa0 p0 pc0), (27, I s1.1), (28, I s1.2.1), (29, .func (.func 118) #[] #[])] hF (by kernel_rfl) fun fr hF => ?_
     obtain ⟨x1, hx1, h⟩ := bindE h
     obtain ⟨A1, R1, hsA, hsR, hdA, hbA, hup⟩ := Sep.call (L1 := [sl3 (L pa0 p0 pc0) p0]) (L2 := []) hs hM1
     refine s_call [L pa0 p0 pc0, I s1.1, I s1.2.1, .func (.func 118) #[] #[]] Try.call165 rfl rfl hF rfl (slices_insertionSortCmpFunc_int___impl_MakeClause_1_ok n p0 s1.1 s1.2.1 hx1 hsA hbA hdA) fun v w1 fr hRes hF => ?_
     obtain ⟨rfl, _, hp, hs⟩ := hRes
     obtain ⟨S3, hp, hs⟩ := hup hp hs
     have hM1 := hM1.stp hp
     have hs : Sep [sl3 (L pa0 p0 pc0) x1] w1 S3 := hs
     refine from_end rfl (then_normal ?_)
     have hrets := fun {σ : List (Nat × Value)} (h : σ = []) => (by subst h; exact Rets.nil : Rets Try.prog σ w1 [] [])
     obtain rfl := hr1 _ (Option.some.inj h).symm
     obtain rfl := Option.some.inj hk1
     exact wp_ret (then_ret (blk_ret (then_ret (blk_ret (then_ret (retG (rs := []) rfl (hF.sub [] (by kernel_rfl)) (hrets rfl) rfl ⟨_, rfl, rfl, S3, (hM0.trans hM1).out, hs⟩))))))
   replace h := iteF hb h
   refine (wp_skip (then_normal ?_))
   refine wp_seq ?_
   refine wp_seq (wp_pure [(0, L pa0 p0 pc0), (1, I s1.1), (2, I s1.2.1), (3, I s1.2.2.1), (4, .func (.func 118) #[] #[]), (10, .bool s1.2.2.2.1), (11, .bool s1.2.2.2.2), (12, I (w64 (s1.2.1 - s1.1))), (32, .bool (s1.2.2.1 == 0))] hF (by kernel_rfl) fun fr hF => then_normal ?_)
   refine (wp_if hF (b := (s1.2.2.1 == 0)) rfl (fun hb => ?_) (fun hb => ?_))
   · replace h := iteT hb h
     cases h
   replace h := iteF hb h
   refine (wp_skip (then_normal ?_))
   refine wp_seq ?_
   refine wp_seq (wp_pure [(0, L pa0 p0 pc0), (1, I s1.1), (2, I s1.2.1), (3, I s1.2.2.1), (4, .func (.func 118) #[] #[]), (10, .bool s1.2.2.2.1), (11, .bool s1.2.2.2.2), (12, I (w64 (s1.2.1 - s1.1))), (39, .bool (!s1.2.2.2.1))] hF (by kernel_rfl) fun fr hF => then_normal ?_)
   refine (wp_if hF (b := (!s1.2.2.2.1)) rfl (fun hb => ?_) (fun hb => ?_))
   · replace h := iteT hb h
     cases h
   replace h := iteF hb h
   cases h
 · obtain ⟨s1r, rfl, hM⟩ := hM
   obtain ⟨S2, F2, hF, hMx, hs⟩ := hM
   have hM0 := hM0.trans hMx
   have hrets := fun {σ : List (Nat × Value)} (h : σ = []) => (by subst h; exact Rets.nil : Rets Try.prog σ w1o [] [])
   obtain rfl := Option.some.inj h
   exact (retGn (rs := []) rfl (hF.sub [] (by kernel_rfl)) (hrets rfl) rfl ⟨_, rfl, rfl, S2, hM0.out, hs⟩)

theorem slices_SortFunc___int_int___impl_MakeClause_1_ok (n : Nat) (p0 : List Int) {r : (List Int)} (h : slices_SortFunc___int_int___impl_MakeClause_1 n p0 = some r) {w : World} {S0 F0 : Nat → Prop} {pa0 : Option Addr} {pn0 pc0 : Nat} (hs : Sep [sl3 (.slice pa0 pn0 pc0) p0] w S0) (hb : ∀ k, S0 k → k < w.heap.size) (hd : ∀ k, S0 k → F0 k → False) :
   Calls Try.prog 117 [.slice pa0 pn0 pc0, .func (.func 118) #[] #[]].toArray w fun e w' => ∃ v, e = .returned v ∧ v = .tuple #[] ∧ ∃ S', Stp w S0 w' S' ∧ Sep [sl3 (.slice pa0 pn0 pc0) r] w' S' := by
 unfold slices_SortFunc___int_int___impl_MakeClause_1 at h
 obtain ⟨hpn, hs⟩ := hs.relen 0 rfl
 subst hpn
 have hs : Sep [sl3 (L pa0 p0 pc0) p0] w S0 := hs
 have hM0 : Mem w S0 (fun k => F0 k ∧ k < w.heap.size) w S0 (fun k => F0 k ∧ k < w.heap.size) := Mem.start hb (fun _ h => h.2) (fun k h1 h2 => hd k h1 h2.1)
 refine enter (N := 14) Try.func117 rfl Try.ntmps117 rfl fun fr hF => ?_
 refine wp_seq (wp_pure [(0, L pa0 p0 pc0), (1, .func (.func 118) #[] #[]), (4, I (len p0))] hF (by kernel_rfl) fun fr hF => then_normal ?_)
 refine (wp_text' ?_)
 refine from_pure 4 [(1, .func (.func 118) #[] #[]), (7, L pa0 p0 pc0), (8, I (len p0)), (10, .int .u64 (IntKind.u64.wrap (len p0)))] hF (by kernel_rfl) fun fr hF => ?_
 obtain ⟨x1, hx1, h⟩ := bindE h
 refine s_call [.int .u64 (IntKind.u64.wrap (len p0))] Try.call141 rfl rfl hF rfl (math_bits_Len_ok (IntKind.u64.wrap (len p0)) hx1) fun v w1 fr hRes hF => ?_
 obtain ⟨rfl, hc⟩ := hRes
 have hs := hs.ext hc
 have hM0 := hM0.ext hc
 refine from_pure 1 [(7, L pa0 p0 pc0), (8, I (len p0)), (11, I x1), (12, .func (.func 118) #[] #[])] hF (by kernel_rfl) fun fr hF => ?_
 obtain ⟨x2, hx2, h⟩ := bindE h
 obtain ⟨A1, R1, hsA, hsR, hdA, hbA, hup⟩ := Sep.call (L1 := [sl3 (L pa0 p0 pc0) p0]) (L2 := []) hs hM0
 refine s_call [L pa0 p0 pc0, I 0, I (len p0), I x1, .func (.func 118) #[] #[]] Try.call142 rfl rfl hF rfl (slices_pdqsortCmpFunc_int___impl_MakeClause_1_ok n p0 0 (len p0) x1 hx2 hsA hbA hdA) fun v w2 fr hRes hF => ?_
 obtain ⟨rfl, _, hp, hs⟩ := hRes
 obtain ⟨S1, hp, hs⟩ := hup hp hs
 have hM0 := hM0.stp hp
 have hs : Sep [sl3 (L pa0 p0 pc0) x2] w2 S1 := hs
 refine from_end rfl ?_
 have hrets := fun {σ : List (Nat × Value)} (h : σ = []) => (by subst h; exact Rets.nil : Rets Try.prog σ w2 [] [])
 obtain rfl := Option.some.inj h
 exact (retGn (rs := []) rfl (hF.sub [] (by kernel_rfl)) (hrets rfl) rfl ⟨_, rfl, rfl, S1, hM0.out, hs⟩)

theorem impl_MakeClause_ok (n : Nat) (p0 : List Int) {r : (List Int) × Bool} (h : impl_MakeClause n p0 = some r) {w : World} {G0 : Nat → Prop} {va0 : Value} (ra0 : RV w G0 va0 p0) :
   Calls Try.prog 75 [va0].toArray w fun e w' => ∃ v, e = .returned v ∧ ∃ a1 c1, v = .tuple #[L a1 r.1 c1, .bool r.2] ∧ ∃ S', Stp w Non w' S' ∧ Sep [sl3 (L a1 r.1 c1) r.1] w' S' := by
 unfold impl_MakeClause at h
 have hs := Sep.nil w Non
 have hM0 : Mem w Non (fun k => (G0 k) ∧ k < w.heap.size) w Non (fun k => (G0 k) ∧ k < w.heap.size) := Mem.start (fun _ h => h.elim) (fun _ h => h.2) (fun _ h => h.elim)
 have ra0 := ra0.sub (F' := (fun k => (G0 k) ∧ k < w.heap.size)) (fun k hk h => ⟨h, hk⟩)
 obtain ⟨a1, c1, rfl, -⟩ := ra0.slice
 refine enter (N := 18) Try.func75 rfl Try.ntmps75 rfl fun fr hF => ?_
 refine wp_seq (wp_pure [(0, L a1 p0 c1)] hF (by kernel_rfl) fun fr hF => then_normal ?_)
 refine wp_seq ?_
 refine wp_seq (wp_text' ?_)
 refine from_pure 1 [(0, L a1 p0 c1), (5, L a1 p0 c1)] hF (by kernel_rfl) fun fr hF => ?_
 obtain ⟨x1, hx1, h⟩ := bindE h
 refine s_call [L a1 p0 c1, I 400] Try.call85 rfl rfl hF rfl (impl_literalsOk_ok n p0 400 hx1 (ra0)) fun v w1 fr hRes hF => ?_
 obtain ⟨rfl, hc⟩ := hRes
 have ra0 := ra0.ext hc
 have hs := hs.ext hc
 have hM0 := hM0.ext hc
 refine from_pure 1 [(0, L a1 p0 c1), (7, .bool (!x1))] hF (by kernel_rfl) fun fr hF => ?_
 refine from_end rfl (then_normal ?_)
 refine (wp_if hF (b := (!x1)) rfl (fun hb => ?_) (fun hb => ?_))
 · replace h := iteT hb h
   refine wp_seq (wp_pure [(2, L none ([] : List Int) 0), (3, .bool false)] hF (by kernel_rfl) fun fr hF => then_normal ?_)
   have hrets := fun {σ : List (Nat × Value)} (h : σ = [(2, L none ([] : List Int) 0), (3, .bool false)]) => (by subst h; exact (Rets.tmp rfl (Rets.tmp rfl Rets.nil)) : Rets Try.prog σ w1 [.tmp 2, .tmp 3] [L none ([] : List Int) 0, .bool false])
   have hs : Sep [sl3 (L none ([] : List Int) 0) ([] : List Int)] w1 Non := hs.cons_nil (α := Int) 3
   obtain rfl := Option.some.inj h
   exact wp_ret (then_ret (retG (rs := [.tmp 2, .tmp 3]) rfl (hF.sub [(2, L none ([] : List Int) 0), (3, .bool false)] (by kernel_rfl)) (hrets rfl) rfl ⟨_, rfl, none, 0, rfl, Non, hM0.out, hs⟩))
 replace h := iteF hb h
 refine (wp_skip (then_normal ?_))
 refine wp_seq (wp_text' ?_)
 refine from_pure 1 [(8, L a1 p0 c1)] hF (by kernel_rfl) fun fr hF => ?_
 obtain ⟨x2, hx2, h⟩ := bindE h
 refine s_call [L a1 p0 c1] Try.call116 rfl rfl hF rfl (slices_Clone___int_int__ok p0 hx2 (ra0)) fun v w2 fr hRes hF => ?_
 obtain ⟨a2, c2, rfl, _, hp, hs2⟩ := hRes
 obtain ⟨S1, hp, hs⟩ := hs.got hM0 hp hs2
 have ra0 := ra0.stp hM0 hp
 have hM0 := hM0.stp hp
 have hs : Sep [sl3 (L a2 x2 c2) x2] w2 S1 := hs
 refine from_pure 1 [(4, L a2 x2 c2)] hF (by kernel_rfl) fun fr hF => ?_
 refine from_end rfl (then_normal ?_)
 refine wp_seq (wp_text' ?_)
 refine from_pure 1 [(4, L a2 x2 c2), (10, L a2 x2 c2)] hF (by kernel_rfl) fun fr hF => ?_
 obtain ⟨x3, hx3, h⟩ := bindE h
 obtain ⟨A1, R1, hsA, hsR, hdA, hbA, hup⟩ := Sep.call (L1 := [sl3 (L a2 x2 c2) x2]) (L2 := []) hs hM0
 refine s_call [L a2 x2 c2, .func (.func 118) #[] #[]] Try.call117 rfl rfl hF rfl (slices_SortFunc___int_int___impl_MakeClause_1_ok n x2 hx3 hsA hbA hdA) fun v w3 fr hRes hF => ?_
 obtain ⟨rfl, _, hp, hs⟩ := hRes
 obtain ⟨S2, hp, hs⟩ := hup hp hs
 have hM0 := hM0.stp hp
 have hs : Sep [sl3 (L a2 x2 c2) x3] w3 S2 := hs
 refine from_end rfl (then_normal ?_)
 refine wp_seq (wp_text' ?_)
 refine from_pure 1 [(12, L a2 x2 c2)] hF (by kernel_rfl) fun fr hF => ?_
 obtain ⟨x4, hx4, h⟩ := bindE h
 obtain ⟨A2, R2, hsA, hsR, hdA, hbA, hup⟩ := Sep.call (L1 := [sl3 (L a2 x2 c2) x3]) (L2 := []) hs hM0
 refine s_call [L a2 x2 c2] Try.call110 rfl rfl hF rfl (slices_Compact___int_int__ok n x3 hx4 hsA hbA hdA) fun v w4 fr hRes hF => ?_
 obtain ⟨a3, c3, rfl, _, hp, hs⟩ := hRes
 obtain ⟨S3, hp, hs⟩ := hup hp hs
 have hM0 := hM0.stp hp
 have hs : Sep [sl3 (L a3 x4 c3) x4] w4 S3 := hs
 refine from_pure 1 [(4, L a3 x4 c3)] hF (by kernel_rfl) fun fr hF => ?_
 refine from_end rfl (then_normal ?_)
 refine wp_seq ?_
 refine wp_seq (wp_text' ?_)
 refine from_pure 1 [(4, L a3 x4 c3), (14, L a3 x4 c3)] hF (by kernel_rfl) fun fr hF => ?_
 obtain ⟨x5, hx5, h⟩ := bindE h
 refine s_call [L a3 x4 c3, I 400] Try.call120 rfl rfl hF rfl (impl_clauseOk_ok n x4 400 hx5 (hs.rv 0 rfl)) fun v w5 fr hRes hF => ?_
 obtain ⟨rfl, hc⟩ := hRes
 have hs := hs.ext hc
 have hM0 := hM0.ext hc
 refine from_pure 1 [(4, L a3 x4 c3), (16, .bool (!x5))] hF (by kernel_rfl) fun fr hF => ?_
 refine from_end rfl (then_normal ?_)
 refine (wp_if hF (b := (!x5)) rfl (fun hb => ?_) (fun hb => ?_))
 · replace h := iteT hb h
   have hs : Sep [] w5 S3 := Sep.pick [] hs (by decide) rfl
   refine wp_seq (wp_pure [(2, L none ([] : List Int) 0), (3, .bool false)] hF (by kernel_rfl) fun fr hF => then_normal ?_)
   have hrets := fun {σ : List (Nat × Value)} (h : σ = [(2, L none ([] : List Int) 0), (3, .bool false)]) => (by subst h; exact (Rets.tmp rfl (Rets.tmp rfl Rets.nil)) : Rets Try.prog σ w5 [.tmp 2, .tmp 3] [L none ([] : List Int) 0, .bool false])
   have hs : Sep [sl3 (L none ([] : List Int) 0) ([] : List Int)] w5 S3 := hs.cons_nil (α := Int) 3
   obtain rfl := Option.some.inj h
   exact wp_ret (then_ret (retG (rs := [.tmp 2, .tmp 3]) rfl (hF.sub [(2, L none ([] : List Int) 0), (3, .bool false)] (by kernel_rfl)) (hrets rfl) rfl ⟨_, rfl, none, 0, rfl, S3, hM0.out, hs⟩))
 replace h := iteF hb h
 refine (wp_skip (then_normal ?_))
 refine wp_seq (wp_pure [(2, L a3 x4 c3), (3, .bool true)] hF (by kernel_rfl) fun fr hF => then_normal ?_)
 have hrets := fun {σ : List (Nat × Value)} (h : σ = [(2, L a3 x4 c3), (3, .bool true)]) => (by subst h; exact (Rets.tmp rfl (Rets.tmp rfl Rets.nil)) : Rets Try.prog σ w5 [.tmp 2, .tmp 3] [L a3 x4 c3, .bool true])
 obtain rfl := Option.some.inj h
 exact wp_ret (retG (rs := [.tmp 2, .tmp 3]) rfl (hF.sub [(2, L a3 x4 c3), (3, .bool true)] (by kernel_rfl)) (hrets rfl) rfl ⟨_, rfl, a3, c3, rfl, S3, hM0.out, hs⟩)
end Go.Proofs.Ytknlknnihinmjaa
