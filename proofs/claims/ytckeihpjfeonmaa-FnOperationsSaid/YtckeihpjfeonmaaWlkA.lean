/- Printed by gen2.py: the walks. -/
import Derived.Test.YtckeihpjfeonmaaGLt
import Derived.Test.YtckeihpjfeonmaaGLl
import Derived.Test.YtckeihpjfeonmaaDefs
import Derived.Test.YtckeihpjfeonmaaProg
import Derived.KernelRfl
import Derived.DeepKeys4
set_option linter.unusedVariables false
set_option maxRecDepth 100000
namespace Go.Proofs.Ytckeihpjfeonmaa
open Go.GL Go.Maps Go.WideMaps
abbrev I (x : Int) : Value := .int .i64 x
abbrev L {α : Type} (a : Option Addr) (l : List α) (c : Nat) : Value := .slice a (List.length l) c
abbrev B (b n : Nat) : Value := .pointer (some ⟨b, n, none⟩)
abbrev sl3 : Value → List Int → HP := SL 3
abbrev sl4 : Value → List Bool → HP := SL 4
abbrev sl59 : Value → List D.Gate → HP := SL 59
theorem mix : Try.prog.follows .mixedOrders = true := by kernel_rfl
theorem ty3 : Ty Try.prog 3 Int := ⟨by kernel_rfl, by kernel_rfl⟩
theorem ty4 : Ty Try.prog 4 Bool := ⟨by kernel_rfl, by kernel_rfl⟩
theorem ty5 : Ty Try.prog 5 Byt := ⟨by kernel_rfl, by kernel_rfl⟩
theorem ty26 : Ty Try.prog 26 (List D.Gate) := ⟨by kernel_rfl, by kernel_rfl⟩
theorem ty28 : Ty Try.prog 28 D.Circuit := ⟨by kernel_rfl, by kernel_rfl⟩
theorem ty47 : Ty Try.prog 47 (List Byt) := ⟨by kernel_rfl, by kernel_rfl⟩
theorem ty59 : Ty Try.prog 59 D.Gate := ⟨by kernel_rfl, by kernel_rfl⟩
theorem ty81 : Ty Try.prog 81 Int := ⟨by kernel_rfl, by kernel_rfl⟩
theorem el3 : ElT Try.prog 3 Int := elT (by kernel_rfl)
theorem el4 : ElT Try.prog 4 Bool := elT (by kernel_rfl)
theorem el59 : ElT Try.prog 59 D.Gate := elT (by kernel_rfl)
theorem eqi59_3 (d : Nat) (a c : Int) (w : World) : (Op.equalIn (d + 1) 3 (.int .i64 a) (.int .i64 c)).run Try.prog w = .ok (a == c) w := by
  unfold Op.equalIn
  simp [run_underlying Try.underlying3]
theorem eqd59 (n : Nat) (x y : D.Gate) (w : World) : (Op.equalIn (n + 1 + 1) 59 (.agg #[.int .i64 x.A, .int .i64 x.B]) (.agg #[.int .i64 y.A, .int .i64 y.B])).run Try.prog w = .ok (decide (x = y)) w := by
  have hs : Try.prog.stoodInHeld 59 = false := by kernel_rfl
  unfold Op.equalIn
  obtain ⟨x0, x1⟩ := x; obtain ⟨y0, y1⟩ := y
  simp only [D.Gate.mk.injEq]
  by_cases h0 : x0 = y0 <;> by_cases h1 : x1 = y1 <;> simp [run_underlying Try.underlying59, hs, eqi59_3, part, h0, h1]
theorem eq59 (x y : D.Gate) (w : World) : (binOp .eql 59 (.agg #[.int .i64 x.A, .int .i64 x.B]) (.agg #[.int .i64 y.A, .int .i64 y.B])).run Try.prog w = .ok (.bool (decide (x = y))) w := by
  have h := eqd59 9998 x y w
  simp only [binOp, Op.equal, Op.maxDepth, Sem.run_bind, Sem.run_pure]
  rw [h]; rfl
theorem eqg59 (x y : Operand) (a b : Array Value) (w : World) : (eqGuard .eql 59 x y (.agg a) (.agg b)).run Try.prog w = .ok () w := by
  have hg : Try.prog.eqGuardType Try.prog.depth 59 = false := by kernel_rfl
  simp [eqGuard, hg]
theorem ne59 (x y : D.Gate) (w : World) : (binOp .neq 59 (.agg #[.int .i64 x.A, .int .i64 x.B]) (.agg #[.int .i64 y.A, .int .i64 y.B])).run Try.prog w = .ok (.bool (!decide (x = y))) w := by
  have h := eqd59 9998 x y w
  simp only [binOp, Op.equal, Op.maxDepth, Sem.run_bind, Sem.run_pure]
  rw [h]; rfl
theorem neg59 (x y : Operand) (a b : Array Value) (w : World) : (eqGuard .neq 59 x y (.agg a) (.agg b)).run Try.prog w = .ok () w := by
  have hg : Try.prog.eqGuardType Try.prog.depth 59 = false := by kernel_rfl
  simp [eqGuard, hg]
theorem laidOut : laidOutB Try.prog = true := by kernel_rfl
theorem keyed59 : Keyed Try.prog 59 := Keyed.of_law (deep_law_laid laidOut (m := 3) (by omega) (of_decide_eq_true (by kernel_rfl)) (by kernel_rfl) (by kernel_rfl))
theorem lits3 (n : Nat) {a : Int} (h : (Lit.int .i64 a).wf = true) : Try.prog.keyLits (n + 1) 3 [.int .i64 a] = some [.int .i64 a] := by
  unfold Program.keyLits
  rw [Try.underlying3]
  simp [h]
theorem lits59 (n : Nat) (x : D.Gate) (hA : (Lit.int .i64 x.A).wf = true) (hB : (Lit.int .i64 x.B).wf = true) : Try.prog.keyLits (n + 1 + 1) 59 [.int .i64 x.A, .int .i64 x.B] = some [.int .i64 x.A, .int .i64 x.B] := by
  have hc : Try.prog.cellsOf 59 = 2 := by kernel_rfl
  have hc3 : Try.prog.cellsOf 3 = 1 := by kernel_rfl
  unfold Program.keyLits
  rw [Try.underlying59]
  simp [hc, hc3, lits3 n hA, lits3 n hB]
theorem key59 (x : D.Gate) (hA : (Lit.int .i64 x.A).wf = true) (hB : (Lit.int .i64 x.B).wf = true) : keyOf Try.prog 59 (.agg #[.int .i64 x.A, .int .i64 x.B]) = some (.string (keyBytes [.int .i64 x.A, .int .i64 x.B])) := by
  have h1 : Try.prog.keyType 59 = true := by kernel_rfl
  have h2 : ∀ x : D.Gate, (Value.agg #[.int .i64 x.A, .int .i64 x.B]).formed Try.prog 59 = true := by intro x; kernel_rfl
  obtain ⟨n, hs⟩ : ∃ n, Try.prog.types.size = n + 1 := ⟨Try.prog.types.size - 1, (Nat.succ_pred_eq_of_pos (of_decide_eq_true (by kernel_rfl))).symm⟩
  have hl := lits59 n x hA hB
  unfold keyOf
  rw [Try.underlying59]
  simp only [h1, h2, Bool.and_self, if_true, hs, Value.cells]
  rw [hl]; rfl
theorem back3 (v : Value) (y : Int) (ps : List MemPlace) (h : plainElem (H := Unit) Try.prog 3 v = some (.lit (.int .i64 y), ps)) : v = .int .i64 y := by
  obtain ⟨c, rfl, hc, _⟩ := plainElem_int_inv Try.underlying3 h
  simp only [Prod.mk.injEq, DataW.lit.injEq, Lit.int.injEq] at hc
  rw [hc.1.2]
def map81 : MapT Try.prog 59 3 D.Gate Int where
  fit := fitK_Gate
  lit x := .string (keyBytes [.int .i64 x.A, .int .i64 x.B])
  dv y := .lit (.int .i64 y)
  zero := 0
  efit := fitZ
  zfit := by kernel_rfl
  keyed := keyed59
  key x h := by
    simp only [fitK_Gate, fitZ, Bool.and_eq_true] at h
    exact key59 x h.1 h.2
  inj x y hx hy h := by
    simp only [fitK_Gate, fitZ, Bool.and_eq_true] at hx hy
    have h1 := key59 x hx.1 hx.2
    have h2 := key59 y hy.1 hy.2
    rw [← h] at h2
    have h3 := keyed59.inj h1 h2
    cases x; cases y
    simpa using h3
  elem y h := plainElem_int Try.underlying3 (by simpa [fitZ] using h)
  back v y ps h := back3 v y ps h
  hz w := by
    show (zeroValue 3).run Try.prog w = .ok (.int .i64 0) w
    have hz : (Try.prog.info? 3).map (·.zero) = some (some (.int .i64 0)) := by kernel_rfl
    cases hi : Try.prog.info? 3 with
    | none => rw [hi] at hz; cases hz
    | some i =>
      rw [hi] at hz
      simp only [Option.map_some, Option.some.injEq] at hz
      simp [zeroValue, typeInfo, hi, hz]
theorem back4 (v : Value) (y : Bool) (ps : List MemPlace) (h : plainElem (H := Unit) Try.prog 4 v = some (.lit (.bool y), ps)) : v = .bool y := by
  unfold plainElem at h
  rw [Try.underlying4] at h
  split at h <;> simp_all
def map91 : MapT Try.prog 59 4 D.Gate Bool where
  fit := fitK_Gate
  lit x := .string (keyBytes [.int .i64 x.A, .int .i64 x.B])
  dv y := .lit (.bool y)
  zero := false
  efit := fun _ => true
  zfit := by kernel_rfl
  keyed := keyed59
  key x h := by
    simp only [fitK_Gate, fitZ, Bool.and_eq_true] at h
    exact key59 x h.1 h.2
  inj x y hx hy h := by
    simp only [fitK_Gate, fitZ, Bool.and_eq_true] at hx hy
    have h1 := key59 x hx.1 hx.2
    have h2 := key59 y hy.1 hy.2
    rw [← h] at h2
    have h3 := keyed59.inj h1 h2
    cases x; cases y
    simpa using h3
  elem y _ := plainElem_bool Try.underlying4 y
  back v y ps h := back4 v y ps h
  hz w := by
    show (zeroValue 4).run Try.prog w = .ok (.bool false) w
    have hz : (Try.prog.info? 4).map (·.zero) = some (some (.bool false)) := by kernel_rfl
    cases hi : Try.prog.info? 4 with
    | none => rw [hi] at hz; cases hz
    | some i =>
      rw [hi] at hz
      simp only [Option.map_some, Option.some.injEq] at hz
      simp [zeroValue, typeInfo, hi, hz]

theorem spec_l01New_ok (n : Nat) (p0 : List Byt) {r : D.l01Cur} (h : spec_l01New n p0 = some r) {w : World} {G0 : Nat → Prop} {va0 : Value} (ra0 : RV w G0 va0 p0) :
   Calls Try.prog 103 [va0].toArray w fun e w' => ∃ v, e = .returned v ∧ ∃ b2, v = B b2 0 ∧ ∃ S', Stp w Non w' S' ∧ Sep [BX b2 108 [va0, I r.i, I r.h]] w' S' := by
 unfold spec_l01New at h
 have hs := Sep.nil w Non
 have hM0 : Mem w Non (fun k => (G0 k) ∧ k < w.heap.size) w Non (fun k => (G0 k) ∧ k < w.heap.size) := Mem.start (fun _ h => h.elim) (fun _ h => h.2) (fun _ h => h.elim)
 have ra0 := ra0.sub (F' := (fun k => (G0 k) ∧ k < w.heap.size)) (fun k hk h => ⟨h, hk⟩)
 obtain ⟨a1, c1, rfl, -⟩ := ra0.slice
 refine enter (N := 32) Try.func103 rfl Try.ntmps103 rfl fun fr hF => ?_
 refine wp_seq (wp_pure [(0, L a1 p0 c1)] hF (by kernel_rfl) fun fr hF => then_normal ?_)
 refine wp_seq (wp_pure [(0, L a1 p0 c1), (3, I (w64 (55127 + (len p0))))] hF (by kernel_rfl) fun fr hF => then_normal ?_)
 refine wp_seq ?_
 refine wp_seq (wp_pure [(0, L a1 p0 c1), (3, I (w64 (55127 + (len p0)))), (4, I 0)] hF (by kernel_rfl) fun fr hF => then_normal ?_)
 obtain ⟨rl1, hit1, h⟩ := bindE h
 have hk1 := h
 refine (wp_cut (M := fun fr w' => ∃ S2 F2, FrS 32 [(0, L a1 p0 c1), (3, I rl1)] fr ∧ Mem w Non (fun k => (G0 k) ∧ k < w.heap.size) w' S2 F2 ∧ Sep [] w' S2) (wp_block (wp_iter (Inv := fun s1 fr w' => ∃ S1 F1, FrS 32 [(0, L a1 p0 c1), (3, I s1.1), (4, I s1.2)] fr ∧ Mem w Non (fun k => (G0 k) ∧ k < w.heap.size) w' S1 F1 ∧ Sep [] w' S1) hit1 ⟨Non, _, hF.sub _ (by kernel_rfl), (Mem.start hM0.bd hM0.bdF hM0.dj), hs⟩ fun s1 q1 fr w1i hI h hr1 => ?_)) fun fr w1o hM => ?_)
 · obtain ⟨S1, F1, hF, hM1, hs⟩ := hI
   have ra0 := ra0.mem hM1
   refine wp_seq ?_
   refine wp_seq (region_b [] [true, true, true, true, true, true, true, true]
       [.eq (I s1.2), .eq (L a1 p0 c1), .eq (I (len p0)), .eq (.bool (decide (s1.2 < (len p0)))), .eq (.bool (decide (s1.2 < (len p0)))), .eq (I s1.2), .eq (.bool (decide (s1.2 < 4000))), .eq (.bool ((decide (s1.2 < (len p0))) && (decide (s1.2 < 4000))))]
       [(0, L a1 p0 c1), (3, I s1.1), (4, I s1.2), (15, .bool ((decide (s1.2 < (len p0))) && (decide (s1.2 < 4000))))] mix hF (by kernel_rfl) (by kernel_rfl) (by kernel_rfl) trivial (fun hG => trivial) (by kernel_rfl) fun fr w1 hF hE hc => then_normal ?_)
   have ra0 := ra0.ext hc
   have hs := hs.ext hc
   have hM1 := hM1.ext hc
   refine (wp_if hF (b := ((decide (s1.2 < (len p0))) && (decide (s1.2 < 4000)))) rfl (fun hb => ?_) (fun hb => ?_))
   · replace h := iteT hb h
     refine (wp_skip (then_normal ?_))
     refine wp_seq (wp_block ?_)
     refine (wp_text' ?_)
     refine from_pure 4 [(0, L a1 p0 c1), (4, I s1.2), (19, I (w64 (s1.1 * 131))), (20, L a1 p0 c1), (21, I s1.2)] hF (by kernel_rfl) fun fr hF => ?_
     obtain ⟨x1, hx1, h⟩ := bindE h
     refine s_elemF (z := x1) (.int .u8 x1.n) ty5 Try.underlying47 rfl rfl rfl rfl rfl hF rfl (ra0) rfl (get?_nn hx1) (get?_at hx1) rfl fun p fr hF => ?_
     refine from_pure 5 [(0, L a1 p0 c1), (3, I (band (w64 ((w64 ((w64 (s1.1 * 131)) + (w64 x1.n))) + 7)) 1073741823)), (4, I s1.2)] hF (by kernel_rfl) fun fr hF => ?_
     refine from_end rfl ?_
     refine blk_normal (then_normal ?_)
     refine (wp_pure [(0, L a1 p0 c1), (3, I (band (w64 ((w64 ((w64 (s1.1 * 131)) + (w64 x1.n))) + 7)) 1073741823)), (4, I (w64 (s1.2 + 1)))] hF (by kernel_rfl) fun fr hF => then_normal ?_)
     exact ⟨_, (Option.some.inj h).symm, S1, _, hF.sub _ (by kernel_rfl), hM1, hs⟩
   replace h := iteF hb h
   refine (wp_exit (then_exit (then_exit (blk_exit_eq ?_))))
   obtain rfl := hr1 _ (Option.some.inj h).symm
   exact then_normal ⟨S1, _, hF.sub _ (by kernel_rfl), hM1, hs⟩
 · obtain ⟨S2, F2, hF, hMx, hs⟩ := hM
   have ra0 := ra0.mem hMx
   have hM0 := hM0.trans hMx
   refine wp_seq (wp_text' ?_)
   refine from_pure 3 [(30, .agg #[L a1 p0 c1, I 0, I rl1])] hF (by kernel_rfl) fun fr hF => ?_
   refine q_box hs hM0 [L a1 p0 c1, I 0, I rl1] rfl rfl hF rfl rfl fun b1 w2 S3 fr hs hp hF => ?_
   have ra0 := ra0.stp hM0 hp
   have hM0 := hM0.stp hp
   have hs : Sep [BX b1 108 [L a1 p0 c1, I 0, I rl1]] w2 S3 := hs
   refine from_pure 1 [(2, B b1 0)] hF (by kernel_rfl) fun fr hF => ?_
   refine from_end rfl (then_normal ?_)
   obtain rfl := Option.some.inj h
   exact wp_ret (ret1 rfl hF rfl ⟨_, rfl, b1, rfl, S3, hM0.out, hs⟩)

theorem spec_l11At_ok (n : Nat) (p0 : List Byt) (p1 : Int) {r : D.l01Cur} (h : spec_l11At n p0 p1 = some r) {w : World} {G0 : Nat → Prop} {va0 : Value} (ra0 : RV w G0 va0 p0) :
   Calls Try.prog 75 [va0, I p1].toArray w fun e w' => ∃ v, e = .returned v ∧ ∃ b2, v = B b2 0 ∧ ∃ S', Stp w Non w' S' ∧ Sep [BX b2 108 [va0, I r.i, I r.h]] w' S' := by
 unfold spec_l11At at h
 have hs := Sep.nil w Non
 have hM0 : Mem w Non (fun k => (G0 k) ∧ k < w.heap.size) w Non (fun k => (G0 k) ∧ k < w.heap.size) := Mem.start (fun _ h => h.elim) (fun _ h => h.2) (fun _ h => h.elim)
 have ra0 := ra0.sub (F' := (fun k => (G0 k) ∧ k < w.heap.size)) (fun k hk h => ⟨h, hk⟩)
 obtain ⟨a1, c1, rfl, -⟩ := ra0.slice
 refine enter (N := 29) Try.func75 rfl Try.ntmps75 rfl fun fr hF => ?_
 refine wp_seq (wp_pure [(0, L a1 p0 c1), (1, I p1)] hF (by kernel_rfl) fun fr hF => then_normal ?_)
 refine wp_seq (wp_text' ?_)
 refine from_pure 1 [(0, L a1 p0 c1), (1, I p1), (6, L a1 p0 c1)] hF (by kernel_rfl) fun fr hF => ?_
 obtain ⟨x1, hx1, h⟩ := bindE h
 refine s_call [L a1 p0 c1] Try.call103 rfl rfl hF rfl (spec_l01New_ok n p0 hx1 (ra0)) fun v w1 fr hRes hF => ?_
 obtain ⟨b1, rfl, _, hp, hs2⟩ := hRes
 obtain ⟨S1, hp, hs⟩ := hs.got hM0 hp hs2
 have ra0 := ra0.stp hM0 hp
 have hM0 := hM0.stp hp
 have hs : Sep [BX b1 108 [L a1 p0 c1, I x1.i, I x1.h]] w1 S1 := hs
 refine from_pure 1 [(0, L a1 p0 c1), (1, I p1), (5, B b1 0)] hF (by kernel_rfl) fun fr hF => ?_
 refine from_end rfl (then_normal ?_)
 refine wp_seq (wp_text' ?_)
 refine from_pure 7 [(1, I p1), (5, B b1 0), (12, I (imin p1 (len p0))), (14, B b1 1)] hF (by kernel_rfl) fun fr hF => ?_
 refine q_storeBox 0 hs hM0 rfl [L a1 p0 c1, I (imin p1 (len p0)), I x1.h] rfl hF rfl rfl (by kernel_rfl) rfl rfl rfl fun w2 S2 hs hp hF => ?_
 have ra0 := ra0.stp hM0 hp
 have hM0 := hM0.stp hp
 have hs : Sep [BX b1 108 [L a1 p0 c1, I (imin p1 (len p0)), I x1.h]] w2 S2 := hs
 refine from_end rfl (then_normal ?_)
 refine wp_seq (wp_text' ?_)
 refine from_pure 4 [(1, I p1), (5, B b1 0), (15, B b1 0), (18, B b1 2)] hF (by kernel_rfl) fun fr hF => ?_
 refine s_loadBox (I x1.h) ty3 rfl rfl hF rfl (hs.bx 0 rfl) rfl rfl fun fr hF => ?_
 refine from_pure 8 [(5, B b1 0), (25, I (band (w64 ((w64 ((w64 (x1.h * 31)) + (w64 (p1 * 7919)))) + 1)) 1073741823)), (27, B b1 2)] hF (by kernel_rfl) fun fr hF => ?_
 refine q_storeBox 0 hs hM0 rfl [L a1 p0 c1, I (imin p1 (len p0)), I (band (w64 ((w64 ((w64 (x1.h * 31)) + (w64 (p1 * 7919)))) + 1)) 1073741823)] rfl hF rfl rfl (by kernel_rfl) rfl rfl rfl fun w3 S3 hs hp hF => ?_
 have ra0 := ra0.stp hM0 hp
 have hM0 := hM0.stp hp
 have hs : Sep [BX b1 108 [L a1 p0 c1, I (imin p1 (len p0)), I (band (w64 ((w64 ((w64 (x1.h * 31)) + (w64 (p1 * 7919)))) + 1)) 1073741823)]] w3 S3 := hs
 refine from_end rfl (then_normal ?_)
 refine wp_seq (wp_pure [(4, B b1 0)] hF (by kernel_rfl) fun fr hF => then_normal ?_)
 obtain rfl := Option.some.inj h
 exact wp_ret (ret1 rfl hF rfl ⟨_, rfl, b1, rfl, S3, hM0.out, hs⟩)

theorem spec_l01Byte_ok (p0 : D.l01Cur) {r : Int × D.l01Cur} (h : spec_l01Byte p0 = some r) {w : World} {S0 F0 : Nat → Prop} {pa0 : Option Addr} {pn0 pc0 : Nat} {b1 : Nat} (hs : Sep [BX b1 108 [.slice pa0 pn0 pc0, I p0.i, I p0.h]] w S0) (hb : ∀ k, S0 k → k < w.heap.size) (hd : ∀ k, S0 k → F0 k → False) (ra0_0 : RV w F0 (.slice pa0 pn0 pc0) p0.b) :
   Calls Try.prog 105 [B b1 0].toArray w fun e w' => ∃ v, e = .returned v ∧ v = I r.1 ∧ ∃ S', Stp w S0 w' S' ∧ Sep [BX b1 108 [L pa0 p0.b pc0, I r.2.i, I r.2.h]] w' S' := by
 unfold spec_l01Byte at h
 have hpn := ra0_0.len; subst hpn
 have hs : Sep [BX b1 108 [L pa0 p0.b pc0, I p0.i, I p0.h]] w S0 := hs
 have hM0 : Mem w S0 (fun k => F0 k ∧ k < w.heap.size) w S0 (fun k => F0 k ∧ k < w.heap.size) := Mem.start hb (fun _ h => h.2) (fun k h1 h2 => hd k h1 h2.1)
 have ra0_0 := ra0_0.sub (F' := (fun k => F0 k ∧ k < w.heap.size)) (fun k hk h => ⟨h, hk⟩)
 refine enter (N := 58) Try.func105 rfl Try.ntmps105 rfl fun fr hF => ?_
 refine wp_seq (wp_pure [(0, B b1 0)] hF (by kernel_rfl) fun fr hF => then_normal ?_)
 refine wp_seq (wp_text' ?_)
 refine from_pure 4 [(0, B b1 0), (4, B b1 0), (7, B b1 2)] hF (by kernel_rfl) fun fr hF => ?_
 refine s_loadBox (I p0.h) ty3 rfl rfl hF rfl (hs.bx 0 rfl) rfl rfl fun fr hF => ?_
 refine from_pure 4 [(0, B b1 0), (10, I (w64 ((w64 (p0.h * 6364136223846793005)) + 1442695040888963407))), (12, B b1 2)] hF (by kernel_rfl) fun fr hF => ?_
 refine q_storeBox 0 hs hM0 rfl [L pa0 p0.b pc0, I p0.i, I (w64 ((w64 (p0.h * 6364136223846793005)) + 1442695040888963407))] rfl hF rfl rfl (by kernel_rfl) rfl rfl rfl fun w1 S1 hs hp hF => ?_
 have ra0_0 := ra0_0.stp hM0 hp
 have hM0 := hM0.stp hp
 have hs : Sep [BX b1 108 [L pa0 p0.b pc0, I p0.i, I (w64 ((w64 (p0.h * 6364136223846793005)) + 1442695040888963407))]] w1 S1 := hs
 refine from_end rfl (then_normal ?_)
 obtain ⟨x1, hx1, h⟩ := bindE h
 obtain ⟨x2, hx2, h⟩ := bindE h
 refine wp_seq (region_bm 13 [0, 1, 3, 7, 15, 0, 32, 96, 224, 480, 1023, 2047, 4095] [true, true, true, false, false, true, true, true, false, false, true, true, true]
     [.eq (B b1 0), .eq (B b1 0), .eq (B b1 2), .eq (I (w64 ((w64 (p0.h * 6364136223846793005)) + 1442695040888963407))), .eq (I x1), .eq (B b1 0), .eq (B b1 0), .eq (B b1 2), .eq (I (w64 ((w64 (p0.h * 6364136223846793005)) + 1442695040888963407))), .eq (I x2), .eq (I (bxor x1 x2)), .eq (I (band (bxor x1 x2) 255)), .eq (I (band (bxor x1 x2) 255))]
     [(0, B b1 0), (3, I (band (bxor x1 x2) 255))] mix hF (by kernel_rfl) (by kernel_rfl) (by kernel_rfl) (by kernel_rfl) ⟨Pd.monoO_eq, Pd.monoO_eq, Pd.monoO_eq, Pd.monoO_eq, trivial⟩ (fun ow hG => ⟨np_to ow (np_loadBox hG hF ty3 rfl rfl (hs.bx 0 rfl) rfl rfl rfl), np_to ow (np_shr hG hF rfl rfl rfl (fun hg => hx1) rfl), np_to ow (np_loadBox hG hF ty3 rfl rfl (hs.bx 0 rfl) rfl rfl rfl), np_to ow (np_shr hG hF rfl rfl rfl (fun hg => hx2) rfl), trivial⟩) (by kernel_rfl) fun ow fr w2 hF hE hc => ?_)
 have ra0_0 := ra0_0.ext hc
 have hs := hs.ext hc
 have hM0 := hM0.ext hc
 refine from_end rfl (then_normal ?_)
 refine wp_seq ?_
 refine wp_seq (region_bm 10 [0, 1, 3, 7, 0, 16, 48, 112, 240, 511] [true, true, true, false, true, true, true, false, true, true]
     [.eq (B b1 0), .eq (B b1 0), .eq (B b1 1), .eq (I p0.i), .eq (B b1 0), .eq (B b1 0), .eq (B b1 0), .eq (L pa0 p0.b pc0), .eq (I (len p0.b)), .eq (.bool (decide (p0.i < (len p0.b))))]
     [(0, B b1 0), (3, I (band (bxor x1 x2) 255)), (34, .bool (decide (p0.i < (len p0.b))))] mix hF (by kernel_rfl) (by kernel_rfl) (by kernel_rfl) (by kernel_rfl) ⟨Pd.monoO_eq, Pd.monoO_eq, trivial⟩ (fun ow hG => ⟨np_to ow (np_loadBox hG hF ty3 rfl rfl (hs.bx 0 rfl) rfl rfl rfl), np_to ow (np_loadBox hG hF ty47 rfl rfl (hs.bx 0 rfl) rfl rfl rfl), trivial⟩) (by kernel_rfl) fun ow fr w3 hF hE hc => ?_)
 have ra0_0 := ra0_0.ext hc
 have hs := hs.ext hc
 have hM0 := hM0.ext hc
 refine from_end rfl (then_normal ?_)
 refine (wp_if hF (b := (decide (p0.i < (len p0.b)))) rfl (fun hb => ?_) (fun hb => ?_))
 · replace h := iteT hb h
   obtain ⟨x3, hx3, h⟩ := bindE h
   refine wp_seq (region_bm 15 [0, 0, 2, 6, 14, 0, 32, 96, 224, 510, 1022, 2046, 4095, 8191, 16383] [true, true, true, true, false, true, true, true, false, false, false, true, true, true, true]
       [.eq (I (band (bxor x1 x2) 255)), .eq (B b1 0), .eq (B b1 0), .eq (B b1 0), .eq (L pa0 p0.b pc0), .eq (B b1 0), .eq (B b1 0), .eq (B b1 1), .eq (I p0.i), .is fun v w => ElemP w (fun k => k < w3.heap.size) v (x3 : Byt), .eq (.int .u8 x3.n), .eq (I (w64 x3.n)), .eq (I (w64 ((band (bxor x1 x2) 255) + (w64 x3.n)))), .eq (I (band (w64 ((band (bxor x1 x2) 255) + (w64 x3.n))) 255)), .eq (I (band (w64 ((band (bxor x1 x2) 255) + (w64 x3.n))) 255))]
       [(0, B b1 0), (3, I (band (w64 ((band (bxor x1 x2) 255) + (w64 x3.n))) 255))] mix hF (by kernel_rfl) (by kernel_rfl) (by kernel_rfl) (by kernel_rfl) ⟨Pd.monoO_eq, Pd.monoO_eq, (Pd.monoO_is mono_elem), Pd.monoO_eq, trivial⟩ (fun ow hG => ⟨np_to ow (np_loadBox hG hF ty47 rfl rfl (hs.bx 0 rfl) rfl rfl rfl), np_to ow (np_loadBox hG hF ty3 rfl rfl (hs.bx 0 rfl) rfl rfl rfl), np_to ow (np_index hG hF ty5 Try.underlying47 rfl rfl (RV.sub (ra0_0) fun k hk _ => hk) rfl rfl (fun hg => ⟨get?_nn hx3, get?_at hx3⟩)), np_to ow (np_loadF (z := x3) (i := 9) hG hF ty5 rfl rfl rfl rfl rfl rfl rfl), trivial⟩) (by kernel_rfl) fun ow fr w4 hF hE hc => ?_)
   have ra0_0 := ra0_0.ext hc
   have hs := hs.ext hc
   have hM0 := hM0.ext hc
   refine from_end rfl (then_normal ?_)
   refine (wp_text' ?_)
   refine from_pure 4 [(3, I (band (w64 ((band (bxor x1 x2) 255) + (w64 x3.n))) 255)), (49, B b1 0), (52, B b1 1)] hF (by kernel_rfl) fun fr hF => ?_
   refine s_loadBox (I p0.i) ty3 rfl rfl hF rfl (hs.bx 0 rfl) rfl rfl fun fr hF => ?_
   refine from_pure 3 [(3, I (band (w64 ((band (bxor x1 x2) 255) + (w64 x3.n))) 255)), (54, I (w64 (p0.i + 1))), (56, B b1 1)] hF (by kernel_rfl) fun fr hF => ?_
   refine q_storeBox 0 hs hM0 rfl [L pa0 p0.b pc0, I (w64 (p0.i + 1)), I (w64 ((w64 (p0.h * 6364136223846793005)) + 1442695040888963407))] rfl hF rfl rfl (by kernel_rfl) rfl rfl rfl fun w5 S2 hs hp hF => ?_
   have ra0_0 := ra0_0.stp hM0 hp
   have hM0 := hM0.stp hp
   have hs : Sep [BX b1 108 [L pa0 p0.b pc0, I (w64 (p0.i + 1)), I (w64 ((w64 (p0.h * 6364136223846793005)) + 1442695040888963407))]] w5 S2 := hs
   refine from_end rfl (then_normal ?_)
   refine wp_seq (wp_pure [(2, I (band (w64 ((band (bxor x1 x2) 255) + (w64 x3.n))) 255))] hF (by kernel_rfl) fun fr hF => then_normal ?_)
   obtain rfl := Option.some.inj h
   exact wp_ret (ret1 rfl hF rfl ⟨_, rfl, rfl, S2, hM0.out, hs⟩)
 replace h := iteF hb h
 refine (wp_skip (then_normal ?_))
 refine wp_seq (wp_pure [(2, I (band (bxor x1 x2) 255))] hF (by kernel_rfl) fun fr hF => then_normal ?_)
 obtain rfl := Option.some.inj h
 exact wp_ret (ret1 rfl hF rfl ⟨_, rfl, rfl, S1, hM0.out, hs⟩)

theorem spec_l01Below_ok (p0 : D.l01Cur) (p1 : Int) {r : Int × D.l01Cur} (h : spec_l01Below p0 p1 = some r) {w : World} {S0 F0 : Nat → Prop} {pa0 : Option Addr} {pn0 pc0 : Nat} {b1 : Nat} (hs : Sep [BX b1 108 [.slice pa0 pn0 pc0, I p0.i, I p0.h]] w S0) (hb : ∀ k, S0 k → k < w.heap.size) (hd : ∀ k, S0 k → F0 k → False) (ra0_0 : RV w F0 (.slice pa0 pn0 pc0) p0.b) :
   Calls Try.prog 102 [B b1 0, I p1].toArray w fun e w' => ∃ v, e = .returned v ∧ v = I r.1 ∧ ∃ S', Stp w S0 w' S' ∧ Sep [BX b1 108 [L pa0 p0.b pc0, I r.2.i, I r.2.h]] w' S' := by
 unfold spec_l01Below at h
 have hpn := ra0_0.len; subst hpn
 have hs : Sep [BX b1 108 [L pa0 p0.b pc0, I p0.i, I p0.h]] w S0 := hs
 have hM0 : Mem w S0 (fun k => F0 k ∧ k < w.heap.size) w S0 (fun k => F0 k ∧ k < w.heap.size) := Mem.start hb (fun _ h => h.2) (fun k h1 h2 => hd k h1 h2.1)
 have ra0_0 := ra0_0.sub (F' := (fun k => F0 k ∧ k < w.heap.size)) (fun k hk h => ⟨h, hk⟩)
 refine enter (N := 11) Try.func102 rfl Try.ntmps102 rfl fun fr hF => ?_
 refine wp_seq (wp_pure [(0, B b1 0), (1, I p1)] hF (by kernel_rfl) fun fr hF => then_normal ?_)
 refine wp_seq ?_
 refine wp_seq (wp_pure [(0, B b1 0), (1, I p1), (6, .bool (decide (p1 ≤ 0)))] hF (by kernel_rfl) fun fr hF => then_normal ?_)
 refine (wp_if hF (b := (decide (p1 ≤ 0))) rfl (fun hb => ?_) (fun hb => ?_))
 · replace h := iteT hb h
   refine wp_seq (wp_pure [(4, I 0)] hF (by kernel_rfl) fun fr hF => then_normal ?_)
   obtain rfl := Option.some.inj h
   exact wp_ret (then_ret (ret1 rfl hF rfl ⟨_, rfl, rfl, S0, hM0.out, hs⟩))
 replace h := iteF hb h
 refine (wp_skip (then_normal ?_))
 refine wp_seq (wp_text' ?_)
 refine from_pure 1 [(1, I p1), (7, B b1 0)] hF (by kernel_rfl) fun fr hF => ?_
 obtain ⟨x1, hx1, h⟩ := bindE h
 obtain ⟨A1, R1, hsA, hsR, hdA, hbA, hup⟩ := Sep.call (L1 := [BX b1 108 [L pa0 p0.b pc0, I p0.i, I p0.h]]) (L2 := []) hs hM0
 refine s_call [B b1 0] Try.call105 rfl rfl hF rfl (spec_l01Byte_ok p0 hx1 hsA hbA hdA (ra0_0.big (fun _ h => .inl h))) fun v w1 fr hRes hF => ?_
 obtain ⟨rfl, _, hp, hs⟩ := hRes
 obtain ⟨S1, hp, hs⟩ := hup hp hs
 have ra0_0 := ra0_0.stp hM0 hp
 have hM0 := hM0.stp hp
 have hs : Sep [BX b1 108 [L pa0 p0.b pc0, I x1.2.i, I x1.2.h]] w1 S1 := hs
 refine from_pure 1 [(8, I x1.1), (9, I p1)] hF (by kernel_rfl) fun fr hF => ?_
 obtain ⟨x2, hx2, h⟩ := bindE h
 refine s_rem rfl rfl hF rfl rfl hx2 fun fr hF => ?_
 refine from_pure 1 [(4, I x2)] hF (by kernel_rfl) fun fr hF => ?_
 refine from_end rfl (then_normal ?_)
 obtain rfl := Option.some.inj h
 exact wp_ret (ret1 rfl hF rfl ⟨_, rfl, rfl, S1, hM0.out, hs⟩)

theorem spec_l04New_ok (p0 : D.Circuit) {r : D.l04Net} (h : spec_l04New p0 = some r) {w : World} {G0 : Nat → Prop} {va0 : Value} (ra0 : RV w G0 va0 p0) :
   Calls Try.prog 45 [va0].toArray w fun e w' => ∃ v, e = .returned v ∧ ∃ b3 a1 c1, v = B b3 0 ∧ ∃ S', Stp w Non w' S' ∧ Sep [BX b3 76 [I r.c.Inputs, L a1 r.c.Gates c1, .bool r.full], sl59 (L a1 r.c.Gates c1) r.c.Gates] w' S' := by
 unfold spec_l04New at h
 have hs := Sep.nil w Non
 have hM0 : Mem w Non (fun k => (G0 k) ∧ k < w.heap.size) w Non (fun k => (G0 k) ∧ k < w.heap.size) := Mem.start (fun _ h => h.elim) (fun _ h => h.2) (fun _ h => h.elim)
 have ra0 := ra0.sub (F' := (fun k => (G0 k) ∧ k < w.heap.size)) (fun k hk h => ⟨h, hk⟩)
 obtain ⟨v1, rfl, r1⟩ := RV.Circuit ra0
 obtain ⟨a1, c1, rfl, -⟩ := r1.slice
 refine enter (N := 12) Try.func45 rfl Try.ntmps45 rfl fun fr hF => ?_
 refine wp_seq (wp_text' ?_)
 refine q_box hs hM0 [I p0.Inputs, L a1 p0.Gates c1] rfl rfl hF rfl rfl fun b1 w1 S1 fr hs hp hF => ?_
 have r1 := r1.stp hM0 hp
 have hM0 := hM0.stp hp
 have hs : Sep [BX b1 28 [I p0.Inputs, L a1 p0.Gates c1]] w1 S1 := hs
 refine from_pure 1 [(1, B b1 0)] hF (by kernel_rfl) fun fr hF => ?_
 refine from_end rfl (then_normal ?_)
 obtain ⟨x1, hx1, h⟩ := bindE h
 refine wp_seq (region_bm 6 [0, 1, 0, 0, 8, 28, 63, 127, 255, 511] [true, false, false, true, false, false]
     [.eq (B b1 0), .eq (I p0.Inputs), .is fun v _ => ∃ b, v = .slice b 0 0, .eq (B b1 1), .eq (L a1 p0.Gates c1), .own fun ow v w => ∃ i : Option Addr × Nat, v = L i.1 x1 i.2 ∧ (sl59 (L i.1 x1 i.2) x1).ok w (fun k => w1.heap.size ≤ k ∧ k < w.heap.size ∧ ow k = 5), .any, .any, .any, .any]
     [(4, I p0.Inputs)] mix hF (by kernel_rfl) (by kernel_rfl) (by kernel_rfl) (by kernel_rfl) ⟨Pd.monoO_eq, (Pd.monoO_is mono_lit0), Pd.monoO_eq, mono_new, trivial⟩ (fun ow hG => ⟨np_to ow (np_loadBox hG hF ty3 rfl rfl (hs.bx 0 rfl) rfl rfl rfl), np_to ow (np_lit0 (E := 59) hG hF rfl (fun w => by kernel_rfl) rfl), np_to ow (np_loadBox hG hF ty26 rfl rfl (hs.bx 0 rfl) rfl rfl rfl), np_appE (i := 2) (s := 5) hG hF Try.underlying26 el59 rfl rfl rfl rfl rfl rfl rfl (r1) (fun hg => hx1) rfl, trivial⟩) (by kernel_rfl) fun ow fr w2 hF hE hc => ?_)
 obtain ⟨⟨a2, c2⟩, hv, hnw5⟩ := hE.is 8 5 rfl rfl
 have hF := hF.cons hv
 have hsN := sepO (w0 := w1) (ow := ow) [(5, sl59 (L a2 x1 c2) x1)] (show ([5] : List Nat).Nodup by decide) ⟨hnw5, trivial⟩ rfl
 obtain ⟨S2, hp, hs⟩ := hs.got hM0 (stp_new hc) hsN
 have r1 := r1.stp hM0 hp
 have hM0 := hM0.stp hp
 have hs : Sep [sl59 (L a2 x1 c2) x1, BX b1 28 [I p0.Inputs, L a1 p0.Gates c1]] w2 S2 := hs
 have hs : Sep [sl59 (L a2 x1 c2) x1] w2 S2 := Sep.pick [0] hs (by decide) rfl
 refine from_pure 2 [(10, .agg #[I p0.Inputs, L a2 x1 c2, .bool false])] hF (by kernel_rfl) fun fr hF => ?_
 refine q_box hs hM0 [I p0.Inputs, L a2 x1 c2, .bool false] rfl rfl hF rfl rfl fun b2 w3 S3 fr hs hp hF => ?_
 have hM0 := hM0.stp hp
 have hs : Sep [BX b2 76 [I p0.Inputs, L a2 x1 c2, .bool false], sl59 (L a2 x1 c2) x1] w3 S3 := hs
 refine from_pure 1 [(2, B b2 0)] hF (by kernel_rfl) fun fr hF => ?_
 refine from_end rfl (then_normal ?_)
 obtain rfl := Option.some.inj h
 exact wp_ret (ret1 rfl hF rfl ⟨_, rfl, b2, a2, c2, rfl, S3, hM0.out, hs⟩)

theorem spec_l01Once_ok (p0 : D.l01Cur) (p1 : Int) {r : Bool × D.l01Cur} (h : spec_l01Once p0 p1 = some r) {w : World} {S0 F0 : Nat → Prop} {pa0 : Option Addr} {pn0 pc0 : Nat} {b1 : Nat} (hs : Sep [BX b1 108 [.slice pa0 pn0 pc0, I p0.i, I p0.h]] w S0) (hb : ∀ k, S0 k → k < w.heap.size) (hd : ∀ k, S0 k → F0 k → False) (ra0_0 : RV w F0 (.slice pa0 pn0 pc0) p0.b) :
   Calls Try.prog 104 [B b1 0, I p1].toArray w fun e w' => ∃ v, e = .returned v ∧ v = .bool r.1 ∧ ∃ S', Stp w S0 w' S' ∧ Sep [BX b1 108 [L pa0 p0.b pc0, I r.2.i, I r.2.h]] w' S' := by
 unfold spec_l01Once at h
 have hpn := ra0_0.len; subst hpn
 have hs : Sep [BX b1 108 [L pa0 p0.b pc0, I p0.i, I p0.h]] w S0 := hs
 have hM0 : Mem w S0 (fun k => F0 k ∧ k < w.heap.size) w S0 (fun k => F0 k ∧ k < w.heap.size) := Mem.start hb (fun _ h => h.2) (fun k h1 h2 => hd k h1 h2.1)
 have ra0_0 := ra0_0.sub (F' := (fun k => F0 k ∧ k < w.heap.size)) (fun k hk h => ⟨h, hk⟩)
 refine enter (N := 9) Try.func104 rfl Try.ntmps104 rfl fun fr hF => ?_
 refine wp_seq (wp_pure [(0, B b1 0), (1, I p1)] hF (by kernel_rfl) fun fr hF => then_normal ?_)
 refine wp_seq (wp_text' ?_)
 refine from_pure 2 [(5, B b1 0), (6, I p1)] hF (by kernel_rfl) fun fr hF => ?_
 obtain ⟨x1, hx1, h⟩ := bindE h
 obtain ⟨A1, R1, hsA, hsR, hdA, hbA, hup⟩ := Sep.call (L1 := [BX b1 108 [L pa0 p0.b pc0, I p0.i, I p0.h]]) (L2 := []) hs hM0
 refine s_call [B b1 0, I p1] Try.call102 rfl rfl hF rfl (spec_l01Below_ok p0 p1 hx1 hsA hbA hdA (ra0_0.big (fun _ h => .inl h))) fun v w1 fr hRes hF => ?_
 obtain ⟨rfl, _, hp, hs⟩ := hRes
 obtain ⟨S1, hp, hs⟩ := hup hp hs
 have ra0_0 := ra0_0.stp hM0 hp
 have hM0 := hM0.stp hp
 have hs : Sep [BX b1 108 [L pa0 p0.b pc0, I x1.2.i, I x1.2.h]] w1 S1 := hs
 refine from_pure 2 [(4, .bool (x1.1 == 0))] hF (by kernel_rfl) fun fr hF => ?_
 refine from_end rfl (then_normal ?_)
 obtain rfl := Option.some.inj h
 exact wp_ret (ret1 rfl hF rfl ⟨_, rfl, rfl, S1, hM0.out, hs⟩)

theorem spec_l04Lit_ok (p0 : D.l01Cur) (p1 : D.Circuit) {r : Int × D.l01Cur} (h : spec_l04Lit p0 p1 = some r) {w : World} {S0 F0 : Nat → Prop} {pa0 : Option Addr} {pn0 pc0 : Nat} {b1 : Nat} (hs : Sep [BX b1 108 [.slice pa0 pn0 pc0, I p0.i, I p0.h]] w S0) (hb : ∀ k, S0 k → k < w.heap.size) (hd : ∀ k, S0 k → F0 k → False) (ra0_0 : RV w F0 (.slice pa0 pn0 pc0) p0.b) {va1 : Value} (ra1 : RV w F0 va1 p1) :
   Calls Try.prog 76 [B b1 0, va1].toArray w fun e w' => ∃ v, e = .returned v ∧ v = I r.1 ∧ ∃ S', Stp w S0 w' S' ∧ Sep [BX b1 108 [L pa0 p0.b pc0, I r.2.i, I r.2.h]] w' S' := by
 unfold spec_l04Lit at h
 have hpn := ra0_0.len; subst hpn
 have hs : Sep [BX b1 108 [L pa0 p0.b pc0, I p0.i, I p0.h]] w S0 := hs
 have hM0 : Mem w S0 (fun k => F0 k ∧ k < w.heap.size) w S0 (fun k => F0 k ∧ k < w.heap.size) := Mem.start hb (fun _ h => h.2) (fun k h1 h2 => hd k h1 h2.1)
 have ra1 := ra1.sub (F' := (fun k => F0 k ∧ k < w.heap.size)) (fun k hk h => ⟨h, hk⟩)
 obtain ⟨v1, rfl, r1⟩ := RV.Circuit ra1
 obtain ⟨a1, c1, rfl, -⟩ := r1.slice
 have ra0_0 := ra0_0.sub (F' := (fun k => F0 k ∧ k < w.heap.size)) (fun k hk h => ⟨h, hk⟩)
 refine enter (N := 21) Try.func76 rfl Try.ntmps76 rfl fun fr hF => ?_
 refine wp_seq (wp_text' ?_)
 refine q_box hs hM0 [I p1.Inputs, L a1 p1.Gates c1] rfl rfl hF rfl rfl fun b2 w1 S1 fr hs hp hF => ?_
 have r1 := r1.stp hM0 hp
 have ra0_0 := ra0_0.stp hM0 hp
 have hM0 := hM0.stp hp
 have hs : Sep [BX b2 28 [I p1.Inputs, L a1 p1.Gates c1], BX b1 108 [L pa0 p0.b pc0, I p0.i, I p0.h]] w1 S1 := hs
 refine from_pure 1 [(0, B b1 0), (3, B b2 0)] hF (by kernel_rfl) fun fr hF => ?_
 refine from_end rfl (then_normal ?_)
 refine wp_seq (wp_text' ?_)
 refine from_pure 2 [(0, B b1 0), (3, B b2 0), (6, B b1 0), (7, B b2 0)] hF (by kernel_rfl) fun fr hF => ?_
 refine s_loadBox (I p1.Inputs) ty3 rfl rfl hF rfl (hs.bx 0 rfl) rfl rfl fun fr hF => ?_
 refine from_pure 2 [(0, B b1 0), (6, B b1 0), (9, I (w64 (p1.Inputs + 1))), (10, B b2 1)] hF (by kernel_rfl) fun fr hF => ?_
 refine s_loadBox (L a1 p1.Gates c1) ty26 rfl rfl hF rfl (hs.bx 0 rfl) rfl rfl fun fr hF => ?_
 have hs : Sep [BX b1 108 [L pa0 p0.b pc0, I p0.i, I p0.h]] w1 S1 := Sep.pick [1] hs (by decide) rfl
 refine from_pure 2 [(0, B b1 0), (6, B b1 0), (13, I (w64 ((w64 (p1.Inputs + 1)) + (len p1.Gates))))] hF (by kernel_rfl) fun fr hF => ?_
 obtain ⟨x1, hx1, h⟩ := bindE h
 obtain ⟨A1, R1, hsA, hsR, hdA, hbA, hup⟩ := Sep.call (L1 := [BX b1 108 [L pa0 p0.b pc0, I p0.i, I p0.h]]) (L2 := []) hs hM0
 refine s_call [B b1 0, I (w64 ((w64 (p1.Inputs + 1)) + (len p1.Gates)))] Try.call102 rfl rfl hF rfl (spec_l01Below_ok p0 (w64 ((w64 (p1.Inputs + 1)) + (len p1.Gates))) hx1 hsA hbA hdA (ra0_0.big (fun _ h => .inl h))) fun v w2 fr hRes hF => ?_
 obtain ⟨rfl, _, hp, hs⟩ := hRes
 obtain ⟨S2, hp, hs⟩ := hup hp hs
 have ra0_0 := ra0_0.stp hM0 hp
 have hM0 := hM0.stp hp
 have hs : Sep [BX b1 108 [L pa0 p0.b pc0, I x1.2.i, I x1.2.h]] w2 S2 := hs
 refine from_pure 2 [(0, B b1 0), (5, I (w64 (1 + x1.1)))] hF (by kernel_rfl) fun fr hF => ?_
 refine from_end rfl (then_normal ?_)
 refine wp_seq ?_
 refine wp_seq (wp_text' ?_)
 refine from_pure 1 [(5, I (w64 (1 + x1.1))), (16, B b1 0)] hF (by kernel_rfl) fun fr hF => ?_
 obtain ⟨x2, hx2, h⟩ := bindE h
 obtain ⟨A2, R2, hsA, hsR, hdA, hbA, hup⟩ := Sep.call (L1 := [BX b1 108 [L pa0 p0.b pc0, I x1.2.i, I x1.2.h]]) (L2 := []) hs hM0
 refine s_call [B b1 0, I 2] Try.call104 rfl rfl hF rfl (spec_l01Once_ok (D.l01Cur.mk p0.b x1.2.i x1.2.h) 2 hx2 hsA hbA hdA (ra0_0.big (fun _ h => .inl h))) fun v w3 fr hRes hF => ?_
 obtain ⟨rfl, _, hp, hs⟩ := hRes
 obtain ⟨S3, hp, hs⟩ := hup hp hs
 have ra0_0 := ra0_0.stp hM0 hp
 have hM0 := hM0.stp hp
 have hs : Sep [BX b1 108 [L pa0 p0.b pc0, I x2.2.i, I x2.2.h]] w3 S3 := hs
 refine from_end rfl (then_normal ?_)
 refine (wp_if hF (b := x2.1) rfl (fun hb => ?_) (fun hb => ?_))
 · replace h := iteT hb h
   refine wp_seq (wp_pure [(4, I (w64 (0 - (w64 (1 + x1.1)))))] hF (by kernel_rfl) fun fr hF => then_normal ?_)
   obtain rfl := Option.some.inj h
   exact wp_ret (then_ret (ret1 rfl hF rfl ⟨_, rfl, rfl, S3, hM0.out, hs⟩))
 replace h := iteF hb h
 refine (wp_skip (then_normal ?_))
 refine wp_seq (wp_pure [(4, I (w64 (1 + x1.1)))] hF (by kernel_rfl) fun fr hF => then_normal ?_)
 obtain rfl := Option.some.inj h
 exact wp_ret (ret1 rfl hF rfl ⟨_, rfl, rfl, S3, hM0.out, hs⟩)

theorem spec_l03Abs_ok (p0 : Int) {r : Int} (h : spec_l03Abs p0 = some r) {w : World} :
   Calls Try.prog 84 [I p0].toArray w fun e w' => ∃ v, e = .returned v ∧ v = I r ∧ Chg Non w w' := by
 unfold spec_l03Abs at h
 have hs := Sep.nil w Non
 have hM0 : Mem w Non (fun k => (False) ∧ k < w.heap.size) w Non (fun k => (False) ∧ k < w.heap.size) := Mem.start (fun _ h => h.elim) (fun _ h => h.2) (fun _ h => h.elim)
 refine enter (N := 8) Try.func84 rfl Try.ntmps84 rfl fun fr hF => ?_
 refine wp_seq (wp_pure [(0, I p0)] hF (by kernel_rfl) fun fr hF => then_normal ?_)
 refine wp_seq ?_
 refine wp_seq (wp_pure [(0, I p0), (4, .bool (decide (p0 < 0)))] hF (by kernel_rfl) fun fr hF => then_normal ?_)
 refine (wp_if hF (b := (decide (p0 < 0))) rfl (fun hb => ?_) (fun hb => ?_))
 · replace h := iteT hb h
   refine wp_seq (wp_pure [(2, I (w64 (0 - p0)))] hF (by kernel_rfl) fun fr hF => then_normal ?_)
   obtain rfl := Option.some.inj h
   exact wp_ret (then_ret (ret1 rfl hF rfl ⟨_, rfl, rfl, hM0.chg⟩))
 replace h := iteF hb h
 refine (wp_skip (then_normal ?_))
 refine wp_seq (wp_pure [(2, I p0)] hF (by kernel_rfl) fun fr hF => then_normal ?_)
 obtain rfl := Option.some.inj h
 exact wp_ret (ret1 rfl hF rfl ⟨_, rfl, rfl, hM0.chg⟩)

theorem spec_l04Net_l04And_ok (n : Nat) (p0 : D.l04Net) (p1 : Int) (p2 : Int) {r : Int × D.l04Net} (h : spec_l04Net_l04And n p0 p1 p2 = some r) {w : World} {S0 F0 : Nat → Prop} {pa0 : Option Addr} {pn0 pc0 : Nat} {b1 : Nat} (hs : Sep [BX b1 76 [I p0.c.Inputs, .slice pa0 pn0 pc0, .bool p0.full], sl59 (.slice pa0 pn0 pc0) p0.c.Gates] w S0) (hb : ∀ k, S0 k → k < w.heap.size) (hd : ∀ k, S0 k → F0 k → False) :
   Calls Try.prog 46 [B b1 0, I p1, I p2].toArray w fun e w' => ∃ v, e = .returned v ∧ ∃ a1 c1, v = I r.1 ∧ ∃ S', Stp w S0 w' S' ∧ Sep [BX b1 76 [I r.2.c.Inputs, L a1 r.2.c.Gates c1, .bool r.2.full], sl59 (L a1 r.2.c.Gates c1) r.2.c.Gates] w' S' := by
 unfold spec_l04Net_l04And at h
 obtain ⟨hpn, hs⟩ := hs.relen 1 rfl
 subst hpn
 have hs : Sep [BX b1 76 [I p0.c.Inputs, L pa0 p0.c.Gates pc0, .bool p0.full], sl59 (L pa0 p0.c.Gates pc0) p0.c.Gates] w S0 := hs
 have hM0 : Mem w S0 (fun k => F0 k ∧ k < w.heap.size) w S0 (fun k => F0 k ∧ k < w.heap.size) := Mem.start hb (fun _ h => h.2) (fun k h1 h2 => hd k h1 h2.1)
 refine enter (N := 104) Try.func46 rfl Try.ntmps46 rfl fun fr hF => ?_
 refine wp_seq (wp_pure [(0, B b1 0), (1, I p1), (2, I p2)] hF (by kernel_rfl) fun fr hF => then_normal ?_)
 refine wp_seq (wp_block ?_)
 refine wp_seq (region_b [] [true, true, true, true, true, true, true, true, true, true, true, true, true]
     [.eq (I p1), .eq (.bool (p1 == (-1))), .eq (.bool (p1 == (-1))), .eq (I p2), .eq (.bool (p2 == (-1))), .eq (.bool ((p1 == (-1)) || (p2 == (-1)))), .eq (.bool ((p1 == (-1)) || (p2 == (-1)))), .eq (I p1), .eq (I p2), .eq (I (w64 (0 - p2))), .eq (.bool (p1 == (w64 (0 - p2)))), .eq (.bool (((p1 == (-1)) || (p2 == (-1))) || (p1 == (w64 (0 - p2))))), .eq (.bool (((p1 == (-1)) || (p2 == (-1))) || (p1 == (w64 (0 - p2)))))]
     [(0, B b1 0), (1, I p1), (2, I p2), (10, .bool (((p1 == (-1)) || (p2 == (-1))) || (p1 == (w64 (0 - p2)))))] mix hF (by kernel_rfl) (by kernel_rfl) (by kernel_rfl) trivial (fun hG => trivial) (by kernel_rfl) fun fr w1 hF hE hc => then_normal ?_)
 have hs := hs.ext hc
 have hM0 := hM0.ext hc
 refine (wp_if hF (b := (((p1 == (-1)) || (p2 == (-1))) || (p1 == (w64 (0 - p2))))) rfl (fun hb => ?_) (fun hb => ?_))
 · replace h := iteT hb h
   refine wp_seq (wp_pure [(6, I (-1))] hF (by kernel_rfl) fun fr hF => then_normal ?_)
   obtain rfl := Option.some.inj h
   exact wp_ret (blk_ret (then_ret (ret1 rfl hF rfl ⟨_, rfl, pa0, pc0, rfl, S0, hM0.out, hs⟩)))
 replace h := iteF hb h
 refine wp_seq (wp_pure [(0, B b1 0), (1, I p1), (2, I p2), (23, .bool (p1 == 1))] hF (by kernel_rfl) fun fr hF => then_normal ?_)
 refine (wp_if hF (b := (p1 == 1)) rfl (fun hb => ?_) (fun hb => ?_))
 · replace h := iteT hb h
   refine wp_seq (wp_pure [(6, I p2)] hF (by kernel_rfl) fun fr hF => then_normal ?_)
   obtain rfl := Option.some.inj h
   exact wp_ret (blk_ret (then_ret (ret1 rfl hF rfl ⟨_, rfl, pa0, pc0, rfl, S0, hM0.out, hs⟩)))
 replace h := iteF hb h
 refine wp_seq (region_b [] [true, true, true, true, true, true, true, true]
     [.eq (I p2), .eq (.bool (p2 == 1)), .eq (.bool (p2 == 1)), .eq (I p1), .eq (I p2), .eq (.bool (p1 == p2)), .eq (.bool ((p2 == 1) || (p1 == p2))), .eq (.bool ((p2 == 1) || (p1 == p2)))]
     [(0, B b1 0), (1, I p1), (2, I p2), (27, .bool ((p2 == 1) || (p1 == p2)))] mix hF (by kernel_rfl) (by kernel_rfl) (by kernel_rfl) trivial (fun hG => trivial) (by kernel_rfl) fun fr w2 hF hE hc => then_normal ?_)
 have hs := hs.ext hc
 have hM0 := hM0.ext hc
 refine (wp_if hF (b := ((p2 == 1) || (p1 == p2))) rfl (fun hb => ?_) (fun hb => ?_))
 · replace h := iteT hb h
   refine wp_seq (wp_pure [(6, I p1)] hF (by kernel_rfl) fun fr hF => then_normal ?_)
   obtain rfl := Option.some.inj h
   exact wp_ret (blk_ret (then_ret (ret1 rfl hF rfl ⟨_, rfl, pa0, pc0, rfl, S0, hM0.out, hs⟩)))
 replace h := iteF hb h
 refine (wp_skip ?_)
 refine blk_normal (then_normal ?_)
 refine wp_seq ?_
 refine wp_seq (wp_text' ?_)
 refine from_pure 1 [(0, B b1 0), (1, I p1), (2, I p2), (36, I p1)] hF (by kernel_rfl) fun fr hF => ?_
 obtain ⟨x1, hx1, h⟩ := bindE h
 refine s_call [I p1] Try.call84 rfl rfl hF rfl (spec_l03Abs_ok p1 hx1) fun v w3 fr hRes hF => ?_
 obtain ⟨rfl, hc⟩ := hRes
 have hs := hs.ext hc
 have hM0 := hM0.ext hc
 refine from_pure 1 [(0, B b1 0), (1, I p1), (2, I p2), (37, I x1), (38, I p2)] hF (by kernel_rfl) fun fr hF => ?_
 obtain ⟨x2, hx2, h⟩ := bindE h
 refine s_call [I p2] Try.call84 rfl rfl hF rfl (spec_l03Abs_ok p2 hx2) fun v w4 fr hRes hF => ?_
 obtain ⟨rfl, hc⟩ := hRes
 have hs := hs.ext hc
 have hM0 := hM0.ext hc
 refine from_pure 1 [(0, B b1 0), (1, I p1), (2, I p2), (40, .bool (decide (x1 > x2)))] hF (by kernel_rfl) fun fr hF => ?_
 refine from_end rfl (then_normal ?_)
 refine (wp_merge [(0, B b1 0), (1, I (cond (decide (x1 > x2)) p2 p1)), (2, I (cond (decide (x1 > x2)) p1 p2))] hF (b := (decide (x1 > x2))) rfl (fun hb => ?_) (fun hb => ?_) fun fr hF => then_normal ?_)
 · exact wp_pure [(0, B b1 0), (1, I p2), (2, I p1)] hF (by kernel_rfl) fun fr hF => ⟨rfl, rfl, hF.eqs (by first | (simp only [hb]; done) | (simp only [hb]; rfl))⟩
 · exact wp_skip ⟨rfl, rfl, (hF.sub [(0, B b1 0), (1, I p1), (2, I p2)] (by kernel_rfl)).eqs (by first | (simp only [hb]; done) | (simp only [hb]; rfl))⟩
 refine wp_seq (wp_text' ?_)
 refine from_pure 3 [(0, B b1 0), (45, .agg #[I (cond (decide (x1 > x2)) p2 p1), I (cond (decide (x1 > x2)) p1 p2)])] hF (by kernel_rfl) fun fr hF => ?_
 refine q_alloc (z := .agg #[I 0, I 0]) hs hM0 [I 0, I 0] rfl rfl hF (by kernel_rfl) rfl fun b2 w5 S1 fr hs hp hF => ?_
 have hM0 := hM0.stp hp
 have hs : Sep [BX b2 59 [I 0, I 0], BX b1 76 [I p0.c.Inputs, L pa0 p0.c.Gates pc0, .bool p0.full], sl59 (L pa0 p0.c.Gates pc0) p0.c.Gates] w5 S1 := hs
 refine q_storeBoxS 0 hs hM0 rfl [I (cond (decide (x1 > x2)) p2 p1), I (cond (decide (x1 > x2)) p1 p2)] rfl hF rfl rfl (by kernel_rfl) rfl rfl rfl fun w6 S2 hs hp hF => ?_
 have hM0 := hM0.stp hp
 have hs : Sep [BX b2 59 [I (cond (decide (x1 > x2)) p2 p1), I (cond (decide (x1 > x2)) p1 p2)], BX b1 76 [I p0.c.Inputs, L pa0 p0.c.Gates pc0, .bool p0.full], sl59 (L pa0 p0.c.Gates pc0) p0.c.Gates] w6 S2 := hs
 refine from_end rfl (then_normal ?_)
 refine wp_seq ?_
 refine wp_seq (wp_text' ?_)
 refine from_pure 4 [(0, B b1 0), (7, B b2 0), (49, B b1 1)] hF (by kernel_rfl) fun fr hF => ?_
 refine s_loadBox (L pa0 p0.c.Gates pc0) ty26 rfl rfl hF rfl (hs.bx 1 rfl) rfl rfl fun fr hF => ?_
 refine from_pure 2 [(0, B b1 0), (7, B b2 0), (50, L pa0 p0.c.Gates pc0), (51, I (len p0.c.Gates)), (52, I 0)] hF (by kernel_rfl) fun fr hF => ?_
 refine from_end rfl (then_normal ?_)
 obtain ⟨rl1, hit1, h⟩ := bindE h
 have hk1 := h
 refine (wp_cut (M := fun fr w' => ∃ s, rl1 = .inl s ∧ ∃ S4 F2, FrS 104 [(0, B b1 0), (7, B b2 0)] fr ∧ Mem w6 S2 (fun k => F0 k ∧ k < w.heap.size) w' S4 F2 ∧ Sep [BX b2 59 [I (cond (decide (x1 > x2)) p2 p1), I (cond (decide (x1 > x2)) p1 p2)], BX b1 76 [I p0.c.Inputs, L pa0 p0.c.Gates pc0, .bool p0.full], sl59 (L pa0 p0.c.Gates pc0) p0.c.Gates] w' S4) (wp_block (wp_iter (Inv := fun s1 fr w' => ∃ S3 F1, FrS 104 [(0, B b1 0), (7, B b2 0), (50, L pa0 p0.c.Gates pc0), (51, I (len p0.c.Gates)), (52, I s1)] fr ∧ Mem w6 S2 (fun k => F0 k ∧ k < w.heap.size) w' S3 F1 ∧ Sep [BX b2 59 [I (cond (decide (x1 > x2)) p2 p1), I (cond (decide (x1 > x2)) p1 p2)], BX b1 76 [I p0.c.Inputs, L pa0 p0.c.Gates pc0, .bool p0.full], sl59 (L pa0 p0.c.Gates pc0) p0.c.Gates] w' S3) hit1 ⟨S2, _, hF.sub _ (by kernel_rfl), (Mem.start hM0.bd hM0.bdF hM0.dj), hs⟩ fun s1 q1 fr w1i hI h hr1 => ?_)) fun fr w1o hM => ?_)
 · obtain ⟨S3, F1, hF, hM1, hs⟩ := hI
   refine wp_seq (wp_pure [(0, B b1 0), (7, B b2 0), (50, L pa0 p0.c.Gates pc0), (51, I (len p0.c.Gates)), (52, I s1), (53, .bool (decide (s1 < (len p0.c.Gates))))] hF (by kernel_rfl) fun fr hF => then_normal ?_)
   refine wp_seq (wp_if hF (b := (decide (s1 < (len p0.c.Gates)))) rfl (fun hb => ?_) (fun hb => ?_))
   · replace h := iteT hb h
     refine (wp_skip (then_normal ?_))
     refine wp_seq (wp_block ?_)
     refine wp_seq (wp_text' ?_)
     refine from_pure 1 [(0, B b1 0), (7, B b2 0), (50, L pa0 p0.c.Gates pc0), (51, I (len p0.c.Gates)), (52, I s1), (54, I s1)] hF (by kernel_rfl) fun fr hF => ?_
     obtain ⟨x3, hx3, h⟩ := bindE h
     refine s_elemF (z := x3) (.agg #[I x3.A, I x3.B]) ty59 Try.underlying26 rfl rfl rfl rfl rfl hF rfl (hs.rv 2 rfl) rfl (get?_nn hx3) (get?_at hx3) rfl fun p fr hF => ?_
     refine q_alloc (z := .agg #[I 0, I 0]) hs hM1 [I 0, I 0] rfl rfl hF (by kernel_rfl) rfl fun b3 w7 S5 fr hs hp hF => ?_
     have hM1 := hM1.stp hp
     have hs : Sep [BX b3 59 [I 0, I 0], BX b2 59 [I (cond (decide (x1 > x2)) p2 p1), I (cond (decide (x1 > x2)) p1 p2)], BX b1 76 [I p0.c.Inputs, L pa0 p0.c.Gates pc0, .bool p0.full], sl59 (L pa0 p0.c.Gates pc0) p0.c.Gates] w7 S5 := hs
     refine from_pure 1 [(0, B b1 0), (7, B b2 0), (8, I s1), (9, B b3 0), (50, L pa0 p0.c.Gates pc0), (51, I (len p0.c.Gates)), (52, I s1), (56, .agg #[I x3.A, I x3.B])] hF (by kernel_rfl) fun fr hF => ?_
     refine q_storeBoxS 0 hs hM1 rfl [I x3.A, I x3.B] rfl hF rfl rfl (by kernel_rfl) rfl rfl rfl fun w8 S6 hs hp hF => ?_
     have hM1 := hM1.stp hp
     have hs : Sep [BX b3 59 [I x3.A, I x3.B], BX b2 59 [I (cond (decide (x1 > x2)) p2 p1), I (cond (decide (x1 > x2)) p1 p2)], BX b1 76 [I p0.c.Inputs, L pa0 p0.c.Gates pc0, .bool p0.full], sl59 (L pa0 p0.c.Gates pc0) p0.c.Gates] w8 S6 := hs
     refine from_end rfl (then_normal ?_)
     refine wp_seq (wp_text' ?_)
     refine s_loadBoxS ty59 rfl rfl hF rfl (hs.bx 1 rfl) rfl rfl fun fr hF => ?_
     refine s_loadBoxS ty59 rfl rfl hF rfl (hs.bx 0 rfl) rfl rfl fun fr hF => ?_
     have hs : Sep [BX b2 59 [I (cond (decide (x1 > x2)) p2 p1), I (cond (decide (x1 > x2)) p1 p2)], BX b1 76 [I p0.c.Inputs, L pa0 p0.c.Gates pc0, .bool p0.full], sl59 (L pa0 p0.c.Gates pc0) p0.c.Gates] w8 S6 := Sep.pick [1, 2, 3] hs (by decide) rfl
     refine s_bin rfl rfl hF rfl rfl (eqg59 _ _ _ _ _) (eq59 (D.Gate.mk (cond (decide (x1 > x2)) p2 p1) (cond (decide (x1 > x2)) p1 p2)) x3 _) fun fr hF => ?_
     refine from_end rfl (then_normal ?_)
     refine (wp_if hF (b := (decide ((D.Gate.mk (cond (decide (x1 > x2)) p2 p1) (cond (decide (x1 > x2)) p1 p2)) = x3))) rfl (fun hb => ?_) (fun hb => ?_))
     · replace h := iteT hb h
       have hs : Sep [BX b1 76 [I p0.c.Inputs, L pa0 p0.c.Gates pc0, .bool p0.full], sl59 (L pa0 p0.c.Gates pc0) p0.c.Gates] w8 S6 := Sep.pick [1, 2] hs (by decide) rfl
       refine wp_seq (wp_text' ?_)
       refine from_pure 4 [(8, I s1), (63, B b1 0)] hF (by kernel_rfl) fun fr hF => ?_
       refine s_loadBox (I p0.c.Inputs) ty3 rfl rfl hF rfl (hs.bx 0 rfl) rfl rfl fun fr hF => ?_
       refine from_pure 4 [(6, I (w64 ((w64 (p0.c.Inputs + 2)) + s1)))] hF (by kernel_rfl) fun fr hF => ?_
       refine from_end rfl (then_normal ?_)
       obtain rfl := hr1 _ (Option.some.inj h).symm
       obtain rfl := Option.some.inj hk1
       exact wp_ret (blk_ret (then_ret (then_ret (blk_ret (then_ret (ret1 rfl hF rfl ⟨_, rfl, pa0, pc0, rfl, S6, (hM0.trans hM1).out, hs⟩))))))
     replace h := iteF hb h
     refine (wp_skip ?_)
     refine blk_normal (then_normal ?_)
     refine (wp_pure [(0, B b1 0), (7, B b2 0), (50, L pa0 p0.c.Gates pc0), (51, I (len p0.c.Gates)), (52, I (w64 (s1 + 1)))] hF (by kernel_rfl) fun fr hF => then_normal ?_)
     exact ⟨_, (Option.some.inj h).symm, S6, _, hF.sub _ (by kernel_rfl), hM1, hs⟩
   replace h := iteF hb h
   refine (wp_exit (then_exit (then_exit (blk_exit_eq ?_))))
   obtain rfl := hr1 _ (Option.some.inj h).symm
   exact then_normal ⟨_, rfl, S3, _, hF.sub _ (by kernel_rfl), hM1, hs⟩
 · obtain ⟨s1r, rfl, hM⟩ := hM
   obtain ⟨S4, F2, hF, hMx, hs⟩ := hM
   have hM0 := hM0.trans hMx
   refine wp_seq ?_
   refine wp_seq (wp_text' ?_)
   refine from_pure 4 [(0, B b1 0), (7, B b2 0), (72, B b1 1)] hF (by kernel_rfl) fun fr hF => ?_
   refine s_loadBox (L pa0 p0.c.Gates pc0) ty26 rfl rfl hF rfl (hs.bx 1 rfl) rfl rfl fun fr hF => ?_
   refine from_pure 2 [(0, B b1 0), (7, B b2 0), (75, .bool (decide ((len p0.c.Gates) ≥ 360)))] hF (by kernel_rfl) fun fr hF => ?_
   refine from_end rfl (then_normal ?_)
   refine (wp_if hF (b := (decide ((len p0.c.Gates) ≥ 360))) rfl (fun hb => ?_) (fun hb => ?_))
   · replace h := iteT hb h
     have hs : Sep [BX b1 76 [I p0.c.Inputs, L pa0 p0.c.Gates pc0, .bool p0.full], sl59 (L pa0 p0.c.Gates pc0) p0.c.Gates] w1o S4 := Sep.pick [1, 2] hs (by decide) rfl
     refine wp_seq (wp_text' ?_)
     refine from_pure 3 [(78, B b1 2)] hF (by kernel_rfl) fun fr hF => ?_
     refine q_storeBox 0 hs hM0 rfl [I p0.c.Inputs, L pa0 p0.c.Gates pc0, .bool true] rfl hF rfl rfl (by kernel_rfl) rfl rfl rfl fun w9 S7 hs hp hF => ?_
     have hM0 := hM0.stp hp
     have hs : Sep [BX b1 76 [I p0.c.Inputs, L pa0 p0.c.Gates pc0, .bool true], sl59 (L pa0 p0.c.Gates pc0) p0.c.Gates] w9 S7 := hs
     refine from_end rfl (then_normal ?_)
     refine wp_seq (wp_pure [(6, I (-1))] hF (by kernel_rfl) fun fr hF => then_normal ?_)
     obtain rfl := Option.some.inj h
     exact wp_ret (then_ret (ret1 rfl hF rfl ⟨_, rfl, pa0, pc0, rfl, S7, hM0.out, hs⟩))
   replace h := iteF hb h
   refine (wp_skip (then_normal ?_))
   refine wp_seq (region_bf 8 0 [0, 0, 2, 6, 14, 30, 0, 64, 254, 511, 1023, 2047, 4095] [true, true, true, true, true, false, false, false]
       [.eq (B b1 0), .eq (B b1 0), .eq (B b1 0), .eq (B b1 0), .eq (B b1 1), .eq (L pa0 p0.c.Gates pc0), .eq (.agg #[I (cond (decide (x1 > x2)) p2 p1), I (cond (decide (x1 > x2)) p1 p2)]), .own fun ow v w => ∃ i : Option Addr × Nat, v = .slice i.1 (List.length ([(D.Gate.mk (cond (decide (x1 > x2)) p2 p1) (cond (decide (x1 > x2)) p1 p2))] : List D.Gate)) i.2 ∧ (sl59 (.slice i.1 (List.length ([(D.Gate.mk (cond (decide (x1 > x2)) p2 p1) (cond (decide (x1 > x2)) p1 p2))] : List D.Gate)) i.2) ([(D.Gate.mk (cond (decide (x1 > x2)) p2 p1) (cond (decide (x1 > x2)) p1 p2))] : List D.Gate)).ok w (fun k => w1o.heap.size ≤ k ∧ k < w.heap.size ∧ ow k = 7), .any, .any, .any, .any, .any]
       [(0, B b1 0), (79, B b1 0), (84, L pa0 p0.c.Gates pc0)] mix hF (by kernel_rfl) (fun _ _ _ _ _ h => h) (by kernel_rfl) (by kernel_rfl) (by kernel_rfl) ⟨Pd.monoO_eq, Pd.monoO_eq, mono_new, trivial⟩ (fun ow hG => ⟨np_to ow (np_loadBox hG hF ty26 rfl rfl (hs.bx 1 rfl) rfl rfl rfl), np_to ow (np_loadBoxS hG hF ty59 rfl rfl (hs.bx 0 rfl) rfl rfl rfl rfl), np_lit (E := 59) [I (cond (decide (x1 > x2)) p2 p1), I (cond (decide (x1 > x2)) p1 p2)] (([(D.Gate.mk (cond (decide (x1 > x2)) p2 p1) (cond (decide (x1 > x2)) p1 p2))] : List D.Gate).map Flat.enc) ([(D.Gate.mk (cond (decide (x1 > x2)) p2 p1) (cond (decide (x1 > x2)) p1 p2))] : List D.Gate) hG hF rfl [.agg #[I (cond (decide (x1 > x2)) p2 p1), I (cond (decide (x1 > x2)) p1 p2)]] rfl (fun w => by kernel_rfl) (fun w => css_flat _) rfl rfl rfl rfl, trivial⟩) (by kernel_rfl) fun ow fr w10 hF hE hc => ?_)
   obtain ⟨⟨a1, c1⟩, hv, hnw7⟩ := hE.is 86 7 rfl rfl
   have hF := hF.cons hv
   have hsN := sepO (w0 := w1o) (ow := ow) [(7, sl59 (.slice a1 (List.length ([(D.Gate.mk (cond (decide (x1 > x2)) p2 p1) (cond (decide (x1 > x2)) p1 p2))] : List D.Gate)) c1) ([(D.Gate.mk (cond (decide (x1 > x2)) p2 p1) (cond (decide (x1 > x2)) p1 p2))] : List D.Gate))] (show ([7] : List Nat).Nodup by decide) ⟨hnw7, trivial⟩ rfl
   obtain ⟨S8, hp, hs⟩ := hs.got hM0 (stp_new hc) hsN
   have hM0 := hM0.stp hp
   have hs : Sep [sl59 (.slice a1 (List.length ([(D.Gate.mk (cond (decide (x1 > x2)) p2 p1) (cond (decide (x1 > x2)) p1 p2))] : List D.Gate)) c1) ([(D.Gate.mk (cond (decide (x1 > x2)) p2 p1) (cond (decide (x1 > x2)) p1 p2))] : List D.Gate), BX b2 59 [I (cond (decide (x1 > x2)) p2 p1), I (cond (decide (x1 > x2)) p1 p2)], BX b1 76 [I p0.c.Inputs, L pa0 p0.c.Gates pc0, .bool p0.full], sl59 (L pa0 p0.c.Gates pc0) p0.c.Gates] w10 S8 := hs
   have hs : Sep [sl59 (.slice a1 (List.length ([(D.Gate.mk (cond (decide (x1 > x2)) p2 p1) (cond (decide (x1 > x2)) p1 p2))] : List D.Gate)) c1) ([(D.Gate.mk (cond (decide (x1 > x2)) p2 p1) (cond (decide (x1 > x2)) p1 p2))] : List D.Gate), BX b1 76 [I p0.c.Inputs, L pa0 p0.c.Gates pc0, .bool p0.full], sl59 (L pa0 p0.c.Gates pc0) p0.c.Gates] w10 S8 := Sep.pick [0, 2, 3] hs (by decide) rfl
   obtain ⟨x4, hx4, h⟩ := bindE h
   refine q_append 2 hs hM0 rfl Try.underlying26 el59 rfl rfl rfl hF rfl rfl (hs.rv 0 rfl) hx4 fun a2 c2 w11 S9 fr hs hp hF => ?_
   have hM0 := hM0.stp hp
   have hs : Sep [sl59 (.slice a1 (List.length ([(D.Gate.mk (cond (decide (x1 > x2)) p2 p1) (cond (decide (x1 > x2)) p1 p2))] : List D.Gate)) c1) ([(D.Gate.mk (cond (decide (x1 > x2)) p2 p1) (cond (decide (x1 > x2)) p1 p2))] : List D.Gate), BX b1 76 [I p0.c.Inputs, L pa0 p0.c.Gates pc0, .bool p0.full], sl59 (L a2 x4 c2) x4] w11 S9 := hs
   have hs : Sep [BX b1 76 [I p0.c.Inputs, L pa0 p0.c.Gates pc0, .bool p0.full], sl59 (L a2 x4 c2) x4] w11 S9 := Sep.pick [1, 2] hs (by decide) rfl
   refine from_pure 3 [(0, B b1 0), (87, L a2 x4 c2), (90, B b1 1)] hF (by kernel_rfl) fun fr hF => ?_
   refine q_storeBox 0 hs hM0 rfl [I p0.c.Inputs, L a2 x4 c2, .bool p0.full] rfl hF rfl rfl (by kernel_rfl) rfl rfl rfl fun w12 S10 hs hp hF => ?_
   have hM0 := hM0.stp hp
   have hs : Sep [BX b1 76 [I p0.c.Inputs, L a2 x4 c2, .bool p0.full], sl59 (L a2 x4 c2) x4] w12 S10 := hs
   refine from_end rfl (then_normal ?_)
   refine wp_seq (region_bm 14 [0, 1, 3, 7, 15, 31, 0, 64, 192, 448, 960, 1984, 4095, 8191] [true, true, true, true, false, true, true, true, true, true, false, true, true, true]
       [.eq (B b1 0), .eq (B b1 0), .eq (B b1 0), .eq (B b1 0), .eq (I p0.c.Inputs), .eq (I (w64 (p0.c.Inputs + 1))), .eq (B b1 0), .eq (B b1 0), .eq (B b1 0), .eq (B b1 1), .eq (L a2 x4 c2), .eq (I (len x4)), .eq (I (w64 ((w64 (p0.c.Inputs + 1)) + (len x4)))), .eq (I (w64 ((w64 (p0.c.Inputs + 1)) + (len x4))))]
       [(6, I (w64 ((w64 (p0.c.Inputs + 1)) + (len x4))))] mix hF (by kernel_rfl) (by kernel_rfl) (by kernel_rfl) (by kernel_rfl) ⟨Pd.monoO_eq, Pd.monoO_eq, trivial⟩ (fun ow hG => ⟨np_to ow (np_loadBox hG hF ty3 rfl rfl (hs.bx 0 rfl) rfl rfl rfl), np_to ow (np_loadBox hG hF ty26 rfl rfl (hs.bx 0 rfl) rfl rfl rfl), trivial⟩) (by kernel_rfl) fun ow fr w13 hF hE hc => ?_)
   have hs := hs.ext hc
   have hM0 := hM0.ext hc
   refine from_end rfl (then_normal ?_)
   obtain rfl := Option.some.inj h
   exact wp_ret (ret1 rfl hF rfl ⟨_, rfl, a2, c2, rfl, S10, hM0.out, hs⟩)

theorem spec_l04Draw_ok (n : Nat) (p0 : D.l01Cur) {r : D.Circuit × D.l01Cur} (h : spec_l04Draw n p0 = some r) {w : World} {S0 F0 : Nat → Prop} {pa0 : Option Addr} {pn0 pc0 : Nat} {b1 : Nat} (hs : Sep [BX b1 108 [.slice pa0 pn0 pc0, I p0.i, I p0.h]] w S0) (hb : ∀ k, S0 k → k < w.heap.size) (hd : ∀ k, S0 k → F0 k → False) (ra0_0 : RV w F0 (.slice pa0 pn0 pc0) p0.b) :
   Calls Try.prog 74 [B b1 0].toArray w fun e w' => ∃ v, e = .returned v ∧ ∃ a1 c1, v = .agg #[I r.1.Inputs, L a1 r.1.Gates c1] ∧ ∃ S', Stp w S0 w' S' ∧ Sep [sl59 (L a1 r.1.Gates c1) r.1.Gates, BX b1 108 [L pa0 p0.b pc0, I r.2.i, I r.2.h]] w' S' := by
 unfold spec_l04Draw at h
 have hpn := ra0_0.len; subst hpn
 have hs : Sep [BX b1 108 [L pa0 p0.b pc0, I p0.i, I p0.h]] w S0 := hs
 have hM0 : Mem w S0 (fun k => F0 k ∧ k < w.heap.size) w S0 (fun k => F0 k ∧ k < w.heap.size) := Mem.start hb (fun _ h => h.2) (fun k h1 h2 => hd k h1 h2.1)
 have ra0_0 := ra0_0.sub (F' := (fun k => F0 k ∧ k < w.heap.size)) (fun k hk h => ⟨h, hk⟩)
 refine enter (N := 34) Try.func74 rfl Try.ntmps74 rfl fun fr hF => ?_
 refine wp_seq (wp_text' ?_)
 refine q_alloc (z := .agg #[I 0, L none ([] : List D.Gate) 0]) hs hM0 [I 0, L none ([] : List D.Gate) 0] rfl rfl hF (by kernel_rfl) rfl fun b2 w1 S1 fr hs hp hF => ?_
 have ra0_0 := ra0_0.stp hM0 hp
 have hM0 := hM0.stp hp
 have hs : Sep [BX b2 28 [I 0, L none ([] : List D.Gate) 0], BX b1 108 [L pa0 p0.b pc0, I p0.i, I p0.h]] w1 S1 := hs
 refine from_end rfl (then_normal ?_)
 refine wp_seq (wp_text' ?_)
 refine from_pure 1 [(0, B b1 0), (2, B b2 0), (5, B b1 0)] hF (by kernel_rfl) fun fr hF => ?_
 obtain ⟨x1, hx1, h⟩ := bindE h
 have hs : Sep [BX b1 108 [L pa0 p0.b pc0, I p0.i, I p0.h], BX b2 28 [I 0, L none ([] : List D.Gate) 0]] w1 S1 := Sep.pick [1, 0] hs (by decide) rfl
 obtain ⟨A1, R1, hsA, hsR, hdA, hbA, hup⟩ := Sep.call (L1 := [BX b1 108 [L pa0 p0.b pc0, I p0.i, I p0.h]]) (L2 := [BX b2 28 [I 0, L none ([] : List D.Gate) 0]]) hs hM0
 refine s_call [B b1 0, I 6] Try.call102 rfl rfl hF rfl (spec_l01Below_ok p0 6 hx1 hsA hbA hdA (ra0_0.big (fun _ h => .inl h))) fun v w2 fr hRes hF => ?_
 obtain ⟨rfl, _, hp, hs⟩ := hRes
 obtain ⟨S2, hp, hs⟩ := hup hp hs
 have ra0_0 := ra0_0.stp hM0 hp
 have hM0 := hM0.stp hp
 have hs : Sep [BX b1 108 [L pa0 p0.b pc0, I x1.2.i, I x1.2.h], BX b2 28 [I 0, L none ([] : List D.Gate) 0]] w2 S2 := hs
 refine from_pure 2 [(0, B b1 0), (2, B b2 0), (8, .agg #[I (w64 (1 + x1.1)), L none ([] : List D.Gate) 0])] hF (by kernel_rfl) fun fr hF => ?_
 obtain ⟨x2, hx2, h⟩ := bindE h
 refine s_call [.agg #[I (w64 (1 + x1.1)), L none ([] : List D.Gate) 0]] Try.call45 rfl rfl hF rfl (spec_l04New_ok (D.Circuit.mk (w64 (1 + x1.1)) ([] : List D.Gate)) hx2 (show RV _ Non _ _ from RV.mk_Circuit (D.Circuit.mk (w64 (1 + x1.1)) ([] : List D.Gate)) (RV.nil))) fun v w3 fr hRes hF => ?_
 obtain ⟨b3, a1, c1, rfl, _, hp, hs2⟩ := hRes
 obtain ⟨S3, hp, hs⟩ := hs.got hM0 hp hs2
 have ra0_0 := ra0_0.stp hM0 hp
 have hM0 := hM0.stp hp
 have hs : Sep [BX b3 76 [I x2.c.Inputs, L a1 x2.c.Gates c1, .bool x2.full], sl59 (L a1 x2.c.Gates c1) x2.c.Gates, BX b1 108 [L pa0 p0.b pc0, I x1.2.i, I x1.2.h], BX b2 28 [I 0, L none ([] : List D.Gate) 0]] w3 S3 := hs
 refine from_pure 1 [(0, B b1 0), (2, B b2 0), (3, B b3 0)] hF (by kernel_rfl) fun fr hF => ?_
 refine from_end rfl (then_normal ?_)
 refine wp_seq ?_
 refine wp_seq (wp_text' ?_)
 refine from_pure 1 [(0, B b1 0), (2, B b2 0), (3, B b3 0), (10, B b1 0)] hF (by kernel_rfl) fun fr hF => ?_
 obtain ⟨x3, hx3, h⟩ := bindE h
 have hs : Sep [BX b1 108 [L pa0 p0.b pc0, I x1.2.i, I x1.2.h], BX b3 76 [I x2.c.Inputs, L a1 x2.c.Gates c1, .bool x2.full], sl59 (L a1 x2.c.Gates c1) x2.c.Gates, BX b2 28 [I 0, L none ([] : List D.Gate) 0]] w3 S3 := Sep.pick [2, 0, 1, 3] hs (by decide) rfl
 obtain ⟨A2, R2, hsA, hsR, hdA, hbA, hup⟩ := Sep.call (L1 := [BX b1 108 [L pa0 p0.b pc0, I x1.2.i, I x1.2.h]]) (L2 := [BX b3 76 [I x2.c.Inputs, L a1 x2.c.Gates c1, .bool x2.full], sl59 (L a1 x2.c.Gates c1) x2.c.Gates, BX b2 28 [I 0, L none ([] : List D.Gate) 0]]) hs hM0
 refine s_call [B b1 0, I 8] Try.call102 rfl rfl hF rfl (spec_l01Below_ok (D.l01Cur.mk p0.b x1.2.i x1.2.h) 8 hx3 hsA hbA hdA (ra0_0.big (fun _ h => .inl h))) fun v w4 fr hRes hF => ?_
 obtain ⟨rfl, _, hp, hs⟩ := hRes
 obtain ⟨S4, hp, hs⟩ := hup hp hs
 have ra0_0 := ra0_0.stp hM0 hp
 have hM0 := hM0.stp hp
 have hs : Sep [BX b1 108 [L pa0 p0.b pc0, I x3.2.i, I x3.2.h], BX b3 76 [I x2.c.Inputs, L a1 x2.c.Gates c1, .bool x2.full], sl59 (L a1 x2.c.Gates c1) x2.c.Gates, BX b2 28 [I 0, L none ([] : List D.Gate) 0]] w4 S4 := hs
 refine from_pure 1 [(0, B b1 0), (2, B b2 0), (3, B b3 0), (4, I x3.1)] hF (by kernel_rfl) fun fr hF => ?_
 refine from_end rfl (then_normal ?_)
 obtain ⟨rl1, hit1, h⟩ := bindE h
 have hk1 := h
 refine (wp_cut (M := fun fr w' => ∃ a3 c3 S6 F2, FrS 34 [(2, B b2 0), (3, B b3 0)] fr ∧ Mem w4 S4 (fun k => F0 k ∧ k < w.heap.size) w' S6 F2 ∧ Sep [BX b1 108 [L pa0 p0.b pc0, I rl1.1, I rl1.2.1], BX b3 76 [I rl1.2.2.1, L a3 rl1.2.2.2.2 c3, .bool rl1.2.2.2.1], sl59 (L a3 rl1.2.2.2.2 c3) rl1.2.2.2.2, BX b2 28 [I 0, L none ([] : List D.Gate) 0]] w' S6) (wp_block (wp_iter (Inv := fun s1 fr w' => ∃ a2 c2 S5 F1, FrS 34 [(0, B b1 0), (2, B b2 0), (3, B b3 0), (4, I s1.1)] fr ∧ Mem w4 S4 (fun k => F0 k ∧ k < w.heap.size) w' S5 F1 ∧ Sep [BX b1 108 [L pa0 p0.b pc0, I s1.2.1, I s1.2.2.1], BX b3 76 [I s1.2.2.2.1, L a2 s1.2.2.2.2.2 c2, .bool s1.2.2.2.2.1], sl59 (L a2 s1.2.2.2.2.2 c2) s1.2.2.2.2.2, BX b2 28 [I 0, L none ([] : List D.Gate) 0]] w' S5) hit1 ⟨a1, c1, S4, _, hF.sub _ (by kernel_rfl), (Mem.start hM0.bd hM0.bdF hM0.dj), hs⟩ fun s1 q1 fr w1i hI h hr1 => ?_)) fun fr w1o hM => ?_)
 · obtain ⟨a2, c2, S5, F1, hF, hM1, hs⟩ := hI
   have ra0_0 := ra0_0.mem hM1
   refine wp_seq ?_
   refine wp_seq (wp_pure [(0, B b1 0), (2, B b2 0), (3, B b3 0), (4, I s1.1), (13, .bool (decide (s1.1 > 0)))] hF (by kernel_rfl) fun fr hF => then_normal ?_)
   refine (wp_if hF (b := (decide (s1.1 > 0))) rfl (fun hb => ?_) (fun hb => ?_))
   · replace h := iteT hb h
     refine (wp_skip (then_normal ?_))
     refine wp_seq (wp_block ?_)
     refine (wp_ra mix ?_)
     refine ra_hoist 0 (by kernel_rfl) (fun _ _ _ _ _ h => h) ?_
     obtain ⟨x4, hx4, h⟩ := bindE h
     obtain ⟨x5, hx5, h⟩ := bindE h
     obtain ⟨x6, hx6, h⟩ := bindE h
     refine (ra_start fun w5 hc => ?_)
     have ra0_0 := ra0_0.ext hc
     have hs := hs.ext hc
     have hM1 := hM1.ext hc
     refine any_takes (fuel := 5) [0, 1, 2, 3, 4, 7, 8, 9, 10] [(0, B b1 0), (2, B b2 0), (3, B b3 0), (4, I s1.1), (16, B b3 0), (17, B b1 0), (20, B b3 0), (23, B b1 0), (26, B b3 0)] hF (by kernel_rfl) (by kernel_rfl) (by kernel_rfl) (fun _ _ _ _ _ h => h) fun fr hF => ?_
     refine any_node (fuel := 4) [5, 11] (by kernel_rfl) (by simp) ⟨?_, ?_, trivial⟩
     · refine op_of _ rfl rfl ?_
       refine s_loadPart [I s1.2.2.2.1, L a2 s1.2.2.2.2.2 c2] ty28 rfl rfl hF rfl (hs.bx 1 rfl) rfl rfl rfl fun fr hF => ?_
       refine from_end rfl (then_normal ?_)
       refine any_node (fuel := 3) [6, 11] (by kernel_rfl) (by simp) ⟨?_, ?_, trivial⟩
       · refine op_of _ rfl rfl ?_
         obtain ⟨A3, R3, hsA, hsR, hdA, hbA, hup⟩ := Sep.call (L1 := [BX b1 108 [L pa0 p0.b pc0, I s1.2.1, I s1.2.2.1]]) (L2 := [BX b3 76 [I s1.2.2.2.1, L a2 s1.2.2.2.2.2 c2, .bool s1.2.2.2.2.1], sl59 (L a2 s1.2.2.2.2.2 c2) s1.2.2.2.2.2, BX b2 28 [I 0, L none ([] : List D.Gate) 0]]) hs hM1
         refine s_call [B b1 0, .agg #[I s1.2.2.2.1, L a2 s1.2.2.2.2.2 c2]] Try.call76 rfl rfl hF rfl (spec_l04Lit_ok (D.l01Cur.mk p0.b s1.2.1 s1.2.2.1) (D.Circuit.mk s1.2.2.2.1 s1.2.2.2.2.2) hx4 hsA hbA hdA (ra0_0.big (fun _ h => .inl h)) (RV.mk_Circuit (D.Circuit.mk s1.2.2.2.1 s1.2.2.2.2.2) ((hsR.rv 1 rfl).big (fun _ h => .inr h)))) fun v w6 fr hRes hF => ?_
         obtain ⟨rfl, _, hp, hs⟩ := hRes
         obtain ⟨S7, hp, hs⟩ := hup hp hs
         have ra0_0 := ra0_0.stp hM1 hp
         have hM1 := hM1.stp hp
         have hs : Sep [BX b1 108 [L pa0 p0.b pc0, I x4.2.i, I x4.2.h], BX b3 76 [I s1.2.2.2.1, L a2 s1.2.2.2.2.2 c2, .bool s1.2.2.2.2.1], sl59 (L a2 s1.2.2.2.2.2 c2) s1.2.2.2.2.2, BX b2 28 [I 0, L none ([] : List D.Gate) 0]] w6 S7 := hs
         refine from_end rfl (then_normal ?_)
         refine any_node (fuel := 2) [11] (by kernel_rfl) (by simp) ⟨?_, trivial⟩
         · refine op_of _ rfl rfl ?_
           refine s_loadPart [I s1.2.2.2.1, L a2 s1.2.2.2.2.2 c2] ty28 rfl rfl hF rfl (hs.bx 1 rfl) rfl rfl rfl fun fr hF => ?_
           refine from_end rfl (then_normal ?_)
           refine any_node (fuel := 1) [12] (by kernel_rfl) (by simp) ⟨?_, trivial⟩
           · refine op_of _ rfl rfl ?_
             obtain ⟨A4, R4, hsA, hsR, hdA, hbA, hup⟩ := Sep.call (L1 := [BX b1 108 [L pa0 p0.b pc0, I x4.2.i, I x4.2.h]]) (L2 := [BX b3 76 [I s1.2.2.2.1, L a2 s1.2.2.2.2.2 c2, .bool s1.2.2.2.2.1], sl59 (L a2 s1.2.2.2.2.2 c2) s1.2.2.2.2.2, BX b2 28 [I 0, L none ([] : List D.Gate) 0]]) hs hM1
             refine s_call [B b1 0, .agg #[I s1.2.2.2.1, L a2 s1.2.2.2.2.2 c2]] Try.call76 rfl rfl hF rfl (spec_l04Lit_ok (D.l01Cur.mk p0.b x4.2.i x4.2.h) (D.Circuit.mk s1.2.2.2.1 s1.2.2.2.2.2) hx5 hsA hbA hdA (ra0_0.big (fun _ h => .inl h)) (RV.mk_Circuit (D.Circuit.mk s1.2.2.2.1 s1.2.2.2.2.2) ((hsR.rv 1 rfl).big (fun _ h => .inr h)))) fun v w7 fr hRes hF => ?_
             obtain ⟨rfl, _, hp, hs⟩ := hRes
             obtain ⟨S8, hp, hs⟩ := hup hp hs
             have ra0_0 := ra0_0.stp hM1 hp
             have hM1 := hM1.stp hp
             have hs : Sep [BX b1 108 [L pa0 p0.b pc0, I x5.2.i, I x5.2.h], BX b3 76 [I s1.2.2.2.1, L a2 s1.2.2.2.2.2 c2, .bool s1.2.2.2.2.1], sl59 (L a2 s1.2.2.2.2.2 c2) s1.2.2.2.2.2, BX b2 28 [I 0, L none ([] : List D.Gate) 0]] w7 S8 := hs
             refine from_end rfl (then_normal ?_)
             refine any_node (fuel := 0) [13] (by kernel_rfl) (by simp) ⟨?_, trivial⟩
             · refine op_of _ rfl rfl ?_
               have hs : Sep [BX b3 76 [I s1.2.2.2.1, L a2 s1.2.2.2.2.2 c2, .bool s1.2.2.2.2.1], sl59 (L a2 s1.2.2.2.2.2 c2) s1.2.2.2.2.2, BX b1 108 [L pa0 p0.b pc0, I x5.2.i, I x5.2.h], BX b2 28 [I 0, L none ([] : List D.Gate) 0]] w7 S8 := Sep.pick [1, 2, 0, 3] hs (by decide) rfl
               obtain ⟨A5, R5, hsA, hsR, hdA, hbA, hup⟩ := Sep.call (L1 := [BX b3 76 [I s1.2.2.2.1, L a2 s1.2.2.2.2.2 c2, .bool s1.2.2.2.2.1], sl59 (L a2 s1.2.2.2.2.2 c2) s1.2.2.2.2.2]) (L2 := [BX b1 108 [L pa0 p0.b pc0, I x5.2.i, I x5.2.h], BX b2 28 [I 0, L none ([] : List D.Gate) 0]]) hs hM1
               refine s_call [B b3 0, I x4.1, I x5.1] Try.call46 rfl rfl hF rfl (spec_l04Net_l04And_ok n (D.l04Net.mk (D.Circuit.mk s1.2.2.2.1 s1.2.2.2.2.2) s1.2.2.2.2.1) x4.1 x5.1 hx6 hsA hbA hdA) fun v w8 fr hRes hF => ?_
               obtain ⟨a4, c4, rfl, _, hp, hs⟩ := hRes
               obtain ⟨S9, hp, hs⟩ := hup hp hs
               have ra0_0 := ra0_0.stp hM1 hp
               have hM1 := hM1.stp hp
               have hs : Sep [BX b3 76 [I x6.2.c.Inputs, L a4 x6.2.c.Gates c4, .bool x6.2.full], sl59 (L a4 x6.2.c.Gates c4) x6.2.c.Gates, BX b1 108 [L pa0 p0.b pc0, I x5.2.i, I x5.2.h], BX b2 28 [I 0, L none ([] : List D.Gate) 0]] w8 S9 := hs
               refine from_end rfl (then_normal ?_)
               refine any_leaf (by kernel_rfl) ?_
               refine blk_normal (then_normal ?_)
               refine (wp_pure [(0, B b1 0), (2, B b2 0), (3, B b3 0), (4, I (w64 (s1.1 - 1)))] hF (by kernel_rfl) fun fr hF => then_normal ?_)
               have hs : Sep [BX b1 108 [L pa0 p0.b pc0, I x5.2.i, I x5.2.h], BX b3 76 [I x6.2.c.Inputs, L a4 x6.2.c.Gates c4, .bool x6.2.full], sl59 (L a4 x6.2.c.Gates c4) x6.2.c.Gates, BX b2 28 [I 0, L none ([] : List D.Gate) 0]] w8 S9 := Sep.pick [2, 0, 1, 3] hs (by decide) rfl
               exact ⟨_, (Option.some.inj h).symm, a4, c4, S9, _, hF.sub _ (by kernel_rfl), hM1, hs⟩
       · refine op_of _ rfl rfl ?_
         refine s_loadPart [I s1.2.2.2.1, L a2 s1.2.2.2.2.2 c2] ty28 rfl rfl hF rfl (hs.bx 1 rfl) rfl rfl rfl fun fr hF => ?_
         refine from_end rfl (then_normal ?_)
         refine any_node (fuel := 2) [6] (by kernel_rfl) (by simp) ⟨?_, trivial⟩
         · refine op_of _ rfl rfl ?_
           obtain ⟨A6, R6, hsA, hsR, hdA, hbA, hup⟩ := Sep.call (L1 := [BX b1 108 [L pa0 p0.b pc0, I s1.2.1, I s1.2.2.1]]) (L2 := [BX b3 76 [I s1.2.2.2.1, L a2 s1.2.2.2.2.2 c2, .bool s1.2.2.2.2.1], sl59 (L a2 s1.2.2.2.2.2 c2) s1.2.2.2.2.2, BX b2 28 [I 0, L none ([] : List D.Gate) 0]]) hs hM1
           refine s_call [B b1 0, .agg #[I s1.2.2.2.1, L a2 s1.2.2.2.2.2 c2]] Try.call76 rfl rfl hF rfl (spec_l04Lit_ok (D.l01Cur.mk p0.b s1.2.1 s1.2.2.1) (D.Circuit.mk s1.2.2.2.1 s1.2.2.2.2.2) hx4 hsA hbA hdA (ra0_0.big (fun _ h => .inl h)) (RV.mk_Circuit (D.Circuit.mk s1.2.2.2.1 s1.2.2.2.2.2) ((hsR.rv 1 rfl).big (fun _ h => .inr h)))) fun v w9 fr hRes hF => ?_
           obtain ⟨rfl, _, hp, hs⟩ := hRes
           obtain ⟨S10, hp, hs⟩ := hup hp hs
           have ra0_0 := ra0_0.stp hM1 hp
           have hM1 := hM1.stp hp
           have hs : Sep [BX b1 108 [L pa0 p0.b pc0, I x4.2.i, I x4.2.h], BX b3 76 [I s1.2.2.2.1, L a2 s1.2.2.2.2.2 c2, .bool s1.2.2.2.2.1], sl59 (L a2 s1.2.2.2.2.2 c2) s1.2.2.2.2.2, BX b2 28 [I 0, L none ([] : List D.Gate) 0]] w9 S10 := hs
           refine from_end rfl (then_normal ?_)
           refine any_node (fuel := 1) [12] (by kernel_rfl) (by simp) ⟨?_, trivial⟩
           · refine op_of _ rfl rfl ?_
             obtain ⟨A7, R7, hsA, hsR, hdA, hbA, hup⟩ := Sep.call (L1 := [BX b1 108 [L pa0 p0.b pc0, I x4.2.i, I x4.2.h]]) (L2 := [BX b3 76 [I s1.2.2.2.1, L a2 s1.2.2.2.2.2 c2, .bool s1.2.2.2.2.1], sl59 (L a2 s1.2.2.2.2.2 c2) s1.2.2.2.2.2, BX b2 28 [I 0, L none ([] : List D.Gate) 0]]) hs hM1
             refine s_call [B b1 0, .agg #[I s1.2.2.2.1, L a2 s1.2.2.2.2.2 c2]] Try.call76 rfl rfl hF rfl (spec_l04Lit_ok (D.l01Cur.mk p0.b x4.2.i x4.2.h) (D.Circuit.mk s1.2.2.2.1 s1.2.2.2.2.2) hx5 hsA hbA hdA (ra0_0.big (fun _ h => .inl h)) (RV.mk_Circuit (D.Circuit.mk s1.2.2.2.1 s1.2.2.2.2.2) ((hsR.rv 1 rfl).big (fun _ h => .inr h)))) fun v w10 fr hRes hF => ?_
             obtain ⟨rfl, _, hp, hs⟩ := hRes
             obtain ⟨S11, hp, hs⟩ := hup hp hs
             have ra0_0 := ra0_0.stp hM1 hp
             have hM1 := hM1.stp hp
             have hs : Sep [BX b1 108 [L pa0 p0.b pc0, I x5.2.i, I x5.2.h], BX b3 76 [I s1.2.2.2.1, L a2 s1.2.2.2.2.2 c2, .bool s1.2.2.2.2.1], sl59 (L a2 s1.2.2.2.2.2 c2) s1.2.2.2.2.2, BX b2 28 [I 0, L none ([] : List D.Gate) 0]] w10 S11 := hs
             refine from_end rfl (then_normal ?_)
             refine any_node (fuel := 0) [13] (by kernel_rfl) (by simp) ⟨?_, trivial⟩
             · refine op_of _ rfl rfl ?_
               have hs : Sep [BX b3 76 [I s1.2.2.2.1, L a2 s1.2.2.2.2.2 c2, .bool s1.2.2.2.2.1], sl59 (L a2 s1.2.2.2.2.2 c2) s1.2.2.2.2.2, BX b1 108 [L pa0 p0.b pc0, I x5.2.i, I x5.2.h], BX b2 28 [I 0, L none ([] : List D.Gate) 0]] w10 S11 := Sep.pick [1, 2, 0, 3] hs (by decide) rfl
               obtain ⟨A8, R8, hsA, hsR, hdA, hbA, hup⟩ := Sep.call (L1 := [BX b3 76 [I s1.2.2.2.1, L a2 s1.2.2.2.2.2 c2, .bool s1.2.2.2.2.1], sl59 (L a2 s1.2.2.2.2.2 c2) s1.2.2.2.2.2]) (L2 := [BX b1 108 [L pa0 p0.b pc0, I x5.2.i, I x5.2.h], BX b2 28 [I 0, L none ([] : List D.Gate) 0]]) hs hM1
               refine s_call [B b3 0, I x4.1, I x5.1] Try.call46 rfl rfl hF rfl (spec_l04Net_l04And_ok n (D.l04Net.mk (D.Circuit.mk s1.2.2.2.1 s1.2.2.2.2.2) s1.2.2.2.2.1) x4.1 x5.1 hx6 hsA hbA hdA) fun v w11 fr hRes hF => ?_
               obtain ⟨a5, c5, rfl, _, hp, hs⟩ := hRes
               obtain ⟨S12, hp, hs⟩ := hup hp hs
               have ra0_0 := ra0_0.stp hM1 hp
               have hM1 := hM1.stp hp
               have hs : Sep [BX b3 76 [I x6.2.c.Inputs, L a5 x6.2.c.Gates c5, .bool x6.2.full], sl59 (L a5 x6.2.c.Gates c5) x6.2.c.Gates, BX b1 108 [L pa0 p0.b pc0, I x5.2.i, I x5.2.h], BX b2 28 [I 0, L none ([] : List D.Gate) 0]] w11 S12 := hs
               refine from_end rfl (then_normal ?_)
               refine any_leaf (by kernel_rfl) ?_
               refine blk_normal (then_normal ?_)
               refine (wp_pure [(0, B b1 0), (2, B b2 0), (3, B b3 0), (4, I (w64 (s1.1 - 1)))] hF (by kernel_rfl) fun fr hF => then_normal ?_)
               have hs : Sep [BX b1 108 [L pa0 p0.b pc0, I x5.2.i, I x5.2.h], BX b3 76 [I x6.2.c.Inputs, L a5 x6.2.c.Gates c5, .bool x6.2.full], sl59 (L a5 x6.2.c.Gates c5) x6.2.c.Gates, BX b2 28 [I 0, L none ([] : List D.Gate) 0]] w11 S12 := Sep.pick [2, 0, 1, 3] hs (by decide) rfl
               exact ⟨_, (Option.some.inj h).symm, a5, c5, S12, _, hF.sub _ (by kernel_rfl), hM1, hs⟩
     · refine op_of _ rfl rfl ?_
       refine s_loadPart [I s1.2.2.2.1, L a2 s1.2.2.2.2.2 c2] ty28 rfl rfl hF rfl (hs.bx 1 rfl) rfl rfl rfl fun fr hF => ?_
       refine from_end rfl (then_normal ?_)
       refine any_node (fuel := 3) [5] (by kernel_rfl) (by simp) ⟨?_, trivial⟩
       · refine op_of _ rfl rfl ?_
         refine s_loadPart [I s1.2.2.2.1, L a2 s1.2.2.2.2.2 c2] ty28 rfl rfl hF rfl (hs.bx 1 rfl) rfl rfl rfl fun fr hF => ?_
         refine from_end rfl (then_normal ?_)
         refine any_node (fuel := 2) [6] (by kernel_rfl) (by simp) ⟨?_, trivial⟩
         · refine op_of _ rfl rfl ?_
           obtain ⟨A9, R9, hsA, hsR, hdA, hbA, hup⟩ := Sep.call (L1 := [BX b1 108 [L pa0 p0.b pc0, I s1.2.1, I s1.2.2.1]]) (L2 := [BX b3 76 [I s1.2.2.2.1, L a2 s1.2.2.2.2.2 c2, .bool s1.2.2.2.2.1], sl59 (L a2 s1.2.2.2.2.2 c2) s1.2.2.2.2.2, BX b2 28 [I 0, L none ([] : List D.Gate) 0]]) hs hM1
           refine s_call [B b1 0, .agg #[I s1.2.2.2.1, L a2 s1.2.2.2.2.2 c2]] Try.call76 rfl rfl hF rfl (spec_l04Lit_ok (D.l01Cur.mk p0.b s1.2.1 s1.2.2.1) (D.Circuit.mk s1.2.2.2.1 s1.2.2.2.2.2) hx4 hsA hbA hdA (ra0_0.big (fun _ h => .inl h)) (RV.mk_Circuit (D.Circuit.mk s1.2.2.2.1 s1.2.2.2.2.2) ((hsR.rv 1 rfl).big (fun _ h => .inr h)))) fun v w12 fr hRes hF => ?_
           obtain ⟨rfl, _, hp, hs⟩ := hRes
           obtain ⟨S13, hp, hs⟩ := hup hp hs
           have ra0_0 := ra0_0.stp hM1 hp
           have hM1 := hM1.stp hp
           have hs : Sep [BX b1 108 [L pa0 p0.b pc0, I x4.2.i, I x4.2.h], BX b3 76 [I s1.2.2.2.1, L a2 s1.2.2.2.2.2 c2, .bool s1.2.2.2.2.1], sl59 (L a2 s1.2.2.2.2.2 c2) s1.2.2.2.2.2, BX b2 28 [I 0, L none ([] : List D.Gate) 0]] w12 S13 := hs
           refine from_end rfl (then_normal ?_)
           refine any_node (fuel := 1) [12] (by kernel_rfl) (by simp) ⟨?_, trivial⟩
           · refine op_of _ rfl rfl ?_
             obtain ⟨A10, R10, hsA, hsR, hdA, hbA, hup⟩ := Sep.call (L1 := [BX b1 108 [L pa0 p0.b pc0, I x4.2.i, I x4.2.h]]) (L2 := [BX b3 76 [I s1.2.2.2.1, L a2 s1.2.2.2.2.2 c2, .bool s1.2.2.2.2.1], sl59 (L a2 s1.2.2.2.2.2 c2) s1.2.2.2.2.2, BX b2 28 [I 0, L none ([] : List D.Gate) 0]]) hs hM1
             refine s_call [B b1 0, .agg #[I s1.2.2.2.1, L a2 s1.2.2.2.2.2 c2]] Try.call76 rfl rfl hF rfl (spec_l04Lit_ok (D.l01Cur.mk p0.b x4.2.i x4.2.h) (D.Circuit.mk s1.2.2.2.1 s1.2.2.2.2.2) hx5 hsA hbA hdA (ra0_0.big (fun _ h => .inl h)) (RV.mk_Circuit (D.Circuit.mk s1.2.2.2.1 s1.2.2.2.2.2) ((hsR.rv 1 rfl).big (fun _ h => .inr h)))) fun v w13 fr hRes hF => ?_
             obtain ⟨rfl, _, hp, hs⟩ := hRes
             obtain ⟨S14, hp, hs⟩ := hup hp hs
             have ra0_0 := ra0_0.stp hM1 hp
             have hM1 := hM1.stp hp
             have hs : Sep [BX b1 108 [L pa0 p0.b pc0, I x5.2.i, I x5.2.h], BX b3 76 [I s1.2.2.2.1, L a2 s1.2.2.2.2.2 c2, .bool s1.2.2.2.2.1], sl59 (L a2 s1.2.2.2.2.2 c2) s1.2.2.2.2.2, BX b2 28 [I 0, L none ([] : List D.Gate) 0]] w13 S14 := hs
             refine from_end rfl (then_normal ?_)
             refine any_node (fuel := 0) [13] (by kernel_rfl) (by simp) ⟨?_, trivial⟩
             · refine op_of _ rfl rfl ?_
               have hs : Sep [BX b3 76 [I s1.2.2.2.1, L a2 s1.2.2.2.2.2 c2, .bool s1.2.2.2.2.1], sl59 (L a2 s1.2.2.2.2.2 c2) s1.2.2.2.2.2, BX b1 108 [L pa0 p0.b pc0, I x5.2.i, I x5.2.h], BX b2 28 [I 0, L none ([] : List D.Gate) 0]] w13 S14 := Sep.pick [1, 2, 0, 3] hs (by decide) rfl
               obtain ⟨A11, R11, hsA, hsR, hdA, hbA, hup⟩ := Sep.call (L1 := [BX b3 76 [I s1.2.2.2.1, L a2 s1.2.2.2.2.2 c2, .bool s1.2.2.2.2.1], sl59 (L a2 s1.2.2.2.2.2 c2) s1.2.2.2.2.2]) (L2 := [BX b1 108 [L pa0 p0.b pc0, I x5.2.i, I x5.2.h], BX b2 28 [I 0, L none ([] : List D.Gate) 0]]) hs hM1
               refine s_call [B b3 0, I x4.1, I x5.1] Try.call46 rfl rfl hF rfl (spec_l04Net_l04And_ok n (D.l04Net.mk (D.Circuit.mk s1.2.2.2.1 s1.2.2.2.2.2) s1.2.2.2.2.1) x4.1 x5.1 hx6 hsA hbA hdA) fun v w14 fr hRes hF => ?_
               obtain ⟨a6, c6, rfl, _, hp, hs⟩ := hRes
               obtain ⟨S15, hp, hs⟩ := hup hp hs
               have ra0_0 := ra0_0.stp hM1 hp
               have hM1 := hM1.stp hp
               have hs : Sep [BX b3 76 [I x6.2.c.Inputs, L a6 x6.2.c.Gates c6, .bool x6.2.full], sl59 (L a6 x6.2.c.Gates c6) x6.2.c.Gates, BX b1 108 [L pa0 p0.b pc0, I x5.2.i, I x5.2.h], BX b2 28 [I 0, L none ([] : List D.Gate) 0]] w14 S15 := hs
               refine from_end rfl (then_normal ?_)
               refine any_leaf (by kernel_rfl) ?_
               refine blk_normal (then_normal ?_)
               refine (wp_pure [(0, B b1 0), (2, B b2 0), (3, B b3 0), (4, I (w64 (s1.1 - 1)))] hF (by kernel_rfl) fun fr hF => then_normal ?_)
               have hs : Sep [BX b1 108 [L pa0 p0.b pc0, I x5.2.i, I x5.2.h], BX b3 76 [I x6.2.c.Inputs, L a6 x6.2.c.Gates c6, .bool x6.2.full], sl59 (L a6 x6.2.c.Gates c6) x6.2.c.Gates, BX b2 28 [I 0, L none ([] : List D.Gate) 0]] w14 S15 := Sep.pick [2, 0, 1, 3] hs (by decide) rfl
               exact ⟨_, (Option.some.inj h).symm, a6, c6, S15, _, hF.sub _ (by kernel_rfl), hM1, hs⟩
   replace h := iteF hb h
   refine (wp_exit (then_exit (then_exit (blk_exit_eq ?_))))
   obtain rfl := hr1 _ (Option.some.inj h).symm
   exact then_normal ⟨a2, c2, S5, _, hF.sub _ (by kernel_rfl), hM1, hs⟩
 · obtain ⟨a3, c3, S6, F2, hF, hMx, hs⟩ := hM
   have ra0_0 := ra0_0.mem hMx
   have hM0 := hM0.trans hMx
   refine wp_seq (wp_text' ?_)
   refine from_pure 3 [(2, B b2 0), (32, B b3 0)] hF (by kernel_rfl) fun fr hF => ?_
   refine s_loadPart [I rl1.2.2.1, L a3 rl1.2.2.2.2 c3] ty28 rfl rfl hF rfl (hs.bx 1 rfl) rfl rfl rfl fun fr hF => ?_
   have hs : Sep [BX b1 108 [L pa0 p0.b pc0, I rl1.1, I rl1.2.1], sl59 (L a3 rl1.2.2.2.2 c3) rl1.2.2.2.2, BX b2 28 [I 0, L none ([] : List D.Gate) 0]] w1o S6 := Sep.pick [0, 2, 3] hs (by decide) rfl
   refine q_storeBoxS 2 hs hM0 rfl [I rl1.2.2.1, L a3 rl1.2.2.2.2 c3] rfl hF rfl rfl (by kernel_rfl) rfl rfl rfl fun w15 S16 hs hp hF => ?_
   have ra0_0 := ra0_0.stp hM0 hp
   have hM0 := hM0.stp hp
   have hs : Sep [BX b1 108 [L pa0 p0.b pc0, I rl1.1, I rl1.2.1], sl59 (L a3 rl1.2.2.2.2 c3) rl1.2.2.2.2, BX b2 28 [I rl1.2.2.1, L a3 rl1.2.2.2.2 c3]] w15 S16 := hs
   refine from_end rfl (then_normal ?_)
   have hbr := (hs.bx 2 rfl)
   obtain rfl := Option.some.inj h
   have hs : Sep [sl59 (L a3 rl1.2.2.2.2 c3) rl1.2.2.2.2, BX b1 108 [L pa0 p0.b pc0, I rl1.1, I rl1.2.1]] w15 S16 := Sep.pick [1, 0] hs (by decide) rfl
   exact wp_ret (retS rfl hF ty28 rfl rfl hbr rfl ⟨_, rfl, a3, c3, rfl, S16, hM0.out, hs⟩)

theorem spec_GiveCircuit_ok (n : Nat) (p0 : List Byt) (p1 : Int) {r : D.Circuit} (h : spec_GiveCircuit n p0 p1 = some r) {w : World} {G0 : Nat → Prop} {va0 : Value} (ra0 : RV w G0 va0 p0) :
   Calls Try.prog 33 [va0, I p1].toArray w fun e w' => ∃ v, e = .returned v ∧ ∃ a1 c1, v = .agg #[I r.Inputs, L a1 r.Gates c1] ∧ ∃ S', Stp w Non w' S' ∧ Sep [sl59 (L a1 r.Gates c1) r.Gates] w' S' := by
 unfold spec_GiveCircuit at h
 have hs := Sep.nil w Non
 have hM0 : Mem w Non (fun k => (G0 k) ∧ k < w.heap.size) w Non (fun k => (G0 k) ∧ k < w.heap.size) := Mem.start (fun _ h => h.elim) (fun _ h => h.2) (fun _ h => h.elim)
 have ra0 := ra0.sub (F' := (fun k => (G0 k) ∧ k < w.heap.size)) (fun k hk h => ⟨h, hk⟩)
 obtain ⟨a1, c1, rfl, -⟩ := ra0.slice
 refine enter (N := 9) Try.func33 rfl Try.ntmps33 rfl fun fr hF => ?_
 refine wp_seq (wp_text' ?_)
 refine q_alloc (z := .agg #[I 0, L none ([] : List D.Gate) 0]) hs hM0 [I 0, L none ([] : List D.Gate) 0] rfl rfl hF (by kernel_rfl) rfl fun b1 w1 S1 fr hs hp hF => ?_
 have ra0 := ra0.stp hM0 hp
 have hM0 := hM0.stp hp
 have hs : Sep [BX b1 28 [I 0, L none ([] : List D.Gate) 0]] w1 S1 := hs
 refine from_end rfl (then_normal ?_)
 refine wp_seq (wp_text' ?_)
 refine from_pure 2 [(4, B b1 0), (5, L a1 p0 c1), (6, I p1)] hF (by kernel_rfl) fun fr hF => ?_
 obtain ⟨x1, hx1, h⟩ := bindE h
 refine s_call [L a1 p0 c1, I p1] Try.call75 rfl rfl hF rfl (spec_l11At_ok n p0 p1 hx1 (ra0)) fun v w2 fr hRes hF => ?_
 obtain ⟨b2, rfl, _, hp, hs2⟩ := hRes
 obtain ⟨S2, hp, hs⟩ := hs.got hM0 hp hs2
 have ra0 := ra0.stp hM0 hp
 have hM0 := hM0.stp hp
 have hs : Sep [BX b2 108 [L a1 p0 c1, I x1.i, I x1.h], BX b1 28 [I 0, L none ([] : List D.Gate) 0]] w2 S2 := hs
 obtain ⟨x2, hx2, h⟩ := bindE h
 obtain ⟨A1, R1, hsA, hsR, hdA, hbA, hup⟩ := Sep.call (L1 := [BX b2 108 [L a1 p0 c1, I x1.i, I x1.h]]) (L2 := [BX b1 28 [I 0, L none ([] : List D.Gate) 0]]) hs hM0
 refine s_call [B b2 0] Try.call74 rfl rfl hF rfl (spec_l04Draw_ok n (D.l01Cur.mk p0 x1.i x1.h) hx2 hsA hbA hdA (ra0.big (fun _ h => .inl h))) fun v w3 fr hRes hF => ?_
 obtain ⟨a2, c2, rfl, _, hp, hs⟩ := hRes
 obtain ⟨S3, hp, hs⟩ := hup hp hs
 have ra0 := ra0.stp hM0 hp
 have hM0 := hM0.stp hp
 have hs : Sep [sl59 (L a2 x2.1.Gates c2) x2.1.Gates, BX b2 108 [L a1 p0 c1, I x2.2.i, I x2.2.h], BX b1 28 [I 0, L none ([] : List D.Gate) 0]] w3 S3 := hs
 have hs : Sep [sl59 (L a2 x2.1.Gates c2) x2.1.Gates, BX b1 28 [I 0, L none ([] : List D.Gate) 0]] w3 S3 := Sep.pick [0, 2] hs (by decide) rfl
 refine q_storeBoxS 1 hs hM0 rfl [I x2.1.Inputs, L a2 x2.1.Gates c2] rfl hF rfl rfl (by kernel_rfl) rfl rfl rfl fun w4 S4 hs hp hF => ?_
 have hM0 := hM0.stp hp
 have hs : Sep [sl59 (L a2 x2.1.Gates c2) x2.1.Gates, BX b1 28 [I x2.1.Inputs, L a2 x2.1.Gates c2]] w4 S4 := hs
 refine from_end rfl (then_normal ?_)
 have hbr := (hs.bx 1 rfl)
 obtain rfl := Option.some.inj h
 have hs : Sep [sl59 (L a2 x2.1.Gates c2) x2.1.Gates] w4 S4 := Sep.pick [0] hs (by decide) rfl
 exact wp_ret (retS rfl hF ty28 rfl rfl hbr rfl ⟨_, rfl, a2, c2, rfl, S4, hM0.out, hs⟩)

theorem spec_GiveNum_ok (n : Nat) (p0 : List Byt) (p1 : Int) {r : Int} (h : spec_GiveNum n p0 p1 = some r) {w : World} {G0 : Nat → Prop} {va0 : Value} (ra0 : RV w G0 va0 p0) :
   Calls Try.prog 79 [va0, I p1].toArray w fun e w' => ∃ v, e = .returned v ∧ v = I r ∧ Chg Non w w' := by
 unfold spec_GiveNum at h
 have hs := Sep.nil w Non
 have hM0 : Mem w Non (fun k => (G0 k) ∧ k < w.heap.size) w Non (fun k => (G0 k) ∧ k < w.heap.size) := Mem.start (fun _ h => h.elim) (fun _ h => h.2) (fun _ h => h.elim)
 have ra0 := ra0.sub (F' := (fun k => (G0 k) ∧ k < w.heap.size)) (fun k hk h => ⟨h, hk⟩)
 obtain ⟨a1, c1, rfl, -⟩ := ra0.slice
 refine enter (N := 15) Try.func79 rfl Try.ntmps79 rfl fun fr hF => ?_
 refine wp_seq (wp_pure [(0, L a1 p0 c1), (1, I p1)] hF (by kernel_rfl) fun fr hF => then_normal ?_)
 refine wp_seq (wp_text' ?_)
 refine from_pure 2 [(6, L a1 p0 c1), (7, I p1)] hF (by kernel_rfl) fun fr hF => ?_
 obtain ⟨x1, hx1, h⟩ := bindE h
 refine s_call [L a1 p0 c1, I p1] Try.call75 rfl rfl hF rfl (spec_l11At_ok n p0 p1 hx1 (ra0)) fun v w1 fr hRes hF => ?_
 obtain ⟨b1, rfl, _, hp, hs2⟩ := hRes
 obtain ⟨S1, hp, hs⟩ := hs.got hM0 hp hs2
 have ra0 := ra0.stp hM0 hp
 have hM0 := hM0.stp hp
 have hs : Sep [BX b1 108 [L a1 p0 c1, I x1.i, I x1.h]] w1 S1 := hs
 refine from_pure 1 [(5, B b1 0)] hF (by kernel_rfl) fun fr hF => ?_
 refine from_end rfl (then_normal ?_)
 refine wp_seq (wp_text' ?_)
 refine from_pure 1 [(5, B b1 0), (9, B b1 0)] hF (by kernel_rfl) fun fr hF => ?_
 obtain ⟨x2, hx2, h⟩ := bindE h
 obtain ⟨A1, R1, hsA, hsR, hdA, hbA, hup⟩ := Sep.call (L1 := [BX b1 108 [L a1 p0 c1, I x1.i, I x1.h]]) (L2 := []) hs hM0
 refine s_call [B b1 0] Try.call105 rfl rfl hF rfl (spec_l01Byte_ok (D.l01Cur.mk p0 x1.i x1.h) hx2 hsA hbA hdA (ra0.big (fun _ h => .inl h))) fun v w2 fr hRes hF => ?_
 obtain ⟨rfl, _, hp, hs⟩ := hRes
 obtain ⟨S2, hp, hs⟩ := hup hp hs
 have ra0 := ra0.stp hM0 hp
 have hM0 := hM0.stp hp
 have hs : Sep [BX b1 108 [L a1 p0 c1, I x2.2.i, I x2.2.h]] w2 S2 := hs
 refine from_pure 2 [(11, I (w64 (256 * x2.1))), (12, B b1 0)] hF (by kernel_rfl) fun fr hF => ?_
 obtain ⟨x3, hx3, h⟩ := bindE h
 obtain ⟨A2, R2, hsA, hsR, hdA, hbA, hup⟩ := Sep.call (L1 := [BX b1 108 [L a1 p0 c1, I x2.2.i, I x2.2.h]]) (L2 := []) hs hM0
 refine s_call [B b1 0] Try.call105 rfl rfl hF rfl (spec_l01Byte_ok (D.l01Cur.mk p0 x2.2.i x2.2.h) hx3 hsA hbA hdA (ra0.big (fun _ h => .inl h))) fun v w3 fr hRes hF => ?_
 obtain ⟨rfl, _, hp, hs⟩ := hRes
 obtain ⟨S3, hp, hs⟩ := hup hp hs
 have ra0 := ra0.stp hM0 hp
 have hM0 := hM0.stp hp
 have hs : Sep [BX b1 108 [L a1 p0 c1, I x3.2.i, I x3.2.h]] w3 S3 := hs
 have hs : Sep [] w3 S3 := Sep.pick [] hs (by decide) rfl
 refine from_pure 2 [(4, I (w64 ((w64 (256 * x2.1)) + x3.1)))] hF (by kernel_rfl) fun fr hF => ?_
 refine from_end rfl (then_normal ?_)
 obtain rfl := Option.some.inj h
 exact wp_ret (ret1 rfl hF rfl ⟨_, rfl, rfl, hM0.chg⟩)

theorem spec_GiveSize_ok (n : Nat) (p0 : List Byt) (p1 : Int) (p2 : Int) (p3 : Int) {r : Int} (h : spec_GiveSize n p0 p1 p2 p3 = some r) {w : World} {G0 : Nat → Prop} {va0 : Value} (ra0 : RV w G0 va0 p0) :
   Calls Try.prog 39 [va0, I p1, I p2, I p3].toArray w fun e w' => ∃ v, e = .returned v ∧ v = I r ∧ Chg Non w w' := by
 unfold spec_GiveSize at h
 have hs := Sep.nil w Non
 have hM0 : Mem w Non (fun k => (G0 k) ∧ k < w.heap.size) w Non (fun k => (G0 k) ∧ k < w.heap.size) := Mem.start (fun _ h => h.elim) (fun _ h => h.2) (fun _ h => h.elim)
 have ra0 := ra0.sub (F' := (fun k => (G0 k) ∧ k < w.heap.size)) (fun k hk h => ⟨h, hk⟩)
 obtain ⟨a1, c1, rfl, -⟩ := ra0.slice
 refine enter (N := 19) Try.func39 rfl Try.ntmps39 rfl fun fr hF => ?_
 refine wp_seq (wp_pure [(0, L a1 p0 c1), (1, I p1), (2, I p2), (3, I p3)] hF (by kernel_rfl) fun fr hF => then_normal ?_)
 refine wp_seq (wp_text' ?_)
 refine from_pure 3 [(2, I p2), (3, I p3), (9, I p2), (10, L a1 p0 c1), (11, I p1)] hF (by kernel_rfl) fun fr hF => ?_
 obtain ⟨x1, hx1, h⟩ := bindE h
 refine s_call [L a1 p0 c1, I p1] Try.call79 rfl rfl hF rfl (spec_GiveNum_ok n p0 p1 hx1 (ra0)) fun v w1 fr hRes hF => ?_
 obtain ⟨rfl, hc⟩ := hRes
 have ra0 := ra0.ext hc
 have hs := hs.ext hc
 have hM0 := hM0.ext hc
 refine from_pure 4 [(9, I p2), (12, I x1), (16, I (w64 ((w64 (p3 - p2)) + 1)))] hF (by kernel_rfl) fun fr hF => ?_
 obtain ⟨x2, hx2, h⟩ := bindE h
 refine s_rem rfl rfl hF rfl rfl hx2 fun fr hF => ?_
 refine from_pure 2 [(8, I (w64 (p2 + x2)))] hF (by kernel_rfl) fun fr hF => ?_
 refine from_end rfl (then_normal ?_)
 obtain rfl := Option.some.inj h
 exact wp_ret (ret1 rfl hF rfl ⟨_, rfl, rfl, hM0.chg⟩)

theorem spec_GiveLit_ok (n : Nat) (p0 : List Byt) (p1 : Int) (p2 : D.Circuit) {r : Int} (h : spec_GiveLit n p0 p1 p2 = some r) {w : World} {G0 : Nat → Prop} {va0 : Value} (ra0 : RV w G0 va0 p0) {G2 : Nat → Prop} {va2 : Value} (ra2 : RV w G2 va2 p2) :
   Calls Try.prog 34 [va0, I p1, va2].toArray w fun e w' => ∃ v, e = .returned v ∧ v = I r ∧ Chg Non w w' := by
 unfold spec_GiveLit at h
 have hs := Sep.nil w Non
 have hM0 : Mem w Non (fun k => (G0 k ∨ G2 k) ∧ k < w.heap.size) w Non (fun k => (G0 k ∨ G2 k) ∧ k < w.heap.size) := Mem.start (fun _ h => h.elim) (fun _ h => h.2) (fun _ h => h.elim)
 have ra0 := ra0.sub (F' := (fun k => (G0 k ∨ G2 k) ∧ k < w.heap.size)) (fun k hk h => ⟨.inl h, hk⟩)
 obtain ⟨a1, c1, rfl, -⟩ := ra0.slice
 have ra2 := ra2.sub (F' := (fun k => (G0 k ∨ G2 k) ∧ k < w.heap.size)) (fun k hk h => ⟨.inr (h), hk⟩)
 obtain ⟨v1, rfl, r1⟩ := RV.Circuit ra2
 obtain ⟨a2, c2, rfl, -⟩ := r1.slice
 refine enter (N := 12) Try.func34 rfl Try.ntmps34 rfl fun fr hF => ?_
 refine wp_seq (wp_text' ?_)
 refine q_box hs hM0 [I p2.Inputs, L a2 p2.Gates c2] rfl rfl hF rfl rfl fun b1 w1 S1 fr hs hp hF => ?_
 have ra0 := ra0.stp hM0 hp
 have r1 := r1.stp hM0 hp
 have hM0 := hM0.stp hp
 have hs : Sep [BX b1 28 [I p2.Inputs, L a2 p2.Gates c2]] w1 S1 := hs
 refine from_pure 1 [(0, L a1 p0 c1), (1, I p1), (5, B b1 0)] hF (by kernel_rfl) fun fr hF => ?_
 refine from_end rfl (then_normal ?_)
 obtain ⟨x1, hx1, h⟩ := bindE h
 obtain ⟨x2, hx2, h⟩ := bindE h
 refine wp_seq (any_start mix fun w2 hc => ?_)
 have ra0 := ra0.ext hc
 have r1 := r1.ext hc
 have hs := hs.ext hc
 have hM0 := hM0.ext hc
 refine any_takes (fuel := 4) [0, 1] [(5, B b1 0), (7, L a1 p0 c1), (8, I p1)] hF (by kernel_rfl) (by kernel_rfl) (by kernel_rfl) (fun _ _ _ _ _ h => h) fun fr hF => ?_
 refine any_node (fuel := 3) [2, 3] (by kernel_rfl) (by simp) ⟨?_, ?_, trivial⟩
 · refine op_of _ rfl rfl ?_
   refine s_call [L a1 p0 c1, I p1] Try.call75 rfl rfl hF rfl (spec_l11At_ok n p0 p1 hx1 (ra0)) fun v w3 fr hRes hF => ?_
   obtain ⟨b2, rfl, _, hp, hs2⟩ := hRes
   obtain ⟨S2, hp, hs⟩ := hs.got hM0 hp hs2
   have ra0 := ra0.stp hM0 hp
   have r1 := r1.stp hM0 hp
   have hM0 := hM0.stp hp
   have hs : Sep [BX b2 108 [L a1 p0 c1, I x1.i, I x1.h], BX b1 28 [I p2.Inputs, L a2 p2.Gates c2]] w3 S2 := hs
   refine from_end rfl (then_normal ?_)
   refine any_node (fuel := 2) [3] (by kernel_rfl) (by simp) ⟨?_, trivial⟩
   · refine op_of _ rfl rfl ?_
     refine s_loadBoxS ty28 rfl rfl hF rfl (hs.bx 1 rfl) rfl rfl fun fr hF => ?_
     have hs : Sep [BX b2 108 [L a1 p0 c1, I x1.i, I x1.h]] w3 S2 := Sep.pick [0] hs (by decide) rfl
     refine from_end rfl (then_normal ?_)
     refine any_node (fuel := 1) [4] (by kernel_rfl) (by simp) ⟨?_, trivial⟩
     · refine op_of _ rfl rfl ?_
       obtain ⟨A1, R1, hsA, hsR, hdA, hbA, hup⟩ := Sep.call (L1 := [BX b2 108 [L a1 p0 c1, I x1.i, I x1.h]]) (L2 := []) hs hM0
       refine s_call [B b2 0, .agg #[I p2.Inputs, L a2 p2.Gates c2]] Try.call76 rfl rfl hF rfl (spec_l04Lit_ok (D.l01Cur.mk p0 x1.i x1.h) p2 hx2 hsA hbA hdA (ra0.big (fun _ h => .inl h)) (RV.mk_Circuit p2 (r1.big (fun _ h => .inl h)))) fun v w4 fr hRes hF => ?_
       obtain ⟨rfl, _, hp, hs⟩ := hRes
       obtain ⟨S3, hp, hs⟩ := hup hp hs
       have r1 := r1.stp hM0 hp
       have ra0 := ra0.stp hM0 hp
       have hM0 := hM0.stp hp
       have hs : Sep [BX b2 108 [L a1 p0 c1, I x2.2.i, I x2.2.h]] w4 S3 := hs
       have hs : Sep [] w4 S3 := Sep.pick [] hs (by decide) rfl
       refine from_end rfl (then_normal ?_)
       refine any_node (fuel := 0) [5] (by kernel_rfl) (by simp) ⟨?_, trivial⟩
       · refine op_of _ rfl rfl ?_
         refine from_pure 1 [(6, I x2.1)] hF (by kernel_rfl) fun fr hF => ?_
         refine from_end rfl (then_normal ?_)
         refine any_leaf (by kernel_rfl) (then_normal ?_)
         obtain rfl := Option.some.inj h
         exact wp_ret (ret1 rfl hF rfl ⟨_, rfl, rfl, hM0.chg⟩)
 · refine op_of _ rfl rfl ?_
   refine s_loadBoxS ty28 rfl rfl hF rfl (hs.bx 0 rfl) rfl rfl fun fr hF => ?_
   have hs : Sep [] w2 S1 := Sep.pick [] hs (by decide) rfl
   refine from_end rfl (then_normal ?_)
   refine any_node (fuel := 2) [2] (by kernel_rfl) (by simp) ⟨?_, trivial⟩
   · refine op_of _ rfl rfl ?_
     refine s_call [L a1 p0 c1, I p1] Try.call75 rfl rfl hF rfl (spec_l11At_ok n p0 p1 hx1 (ra0)) fun v w5 fr hRes hF => ?_
     obtain ⟨b3, rfl, _, hp, hs2⟩ := hRes
     obtain ⟨S4, hp, hs⟩ := hs.got hM0 hp hs2
     have ra0 := ra0.stp hM0 hp
     have r1 := r1.stp hM0 hp
     have hM0 := hM0.stp hp
     have hs : Sep [BX b3 108 [L a1 p0 c1, I x1.i, I x1.h]] w5 S4 := hs
     refine from_end rfl (then_normal ?_)
     refine any_node (fuel := 1) [4] (by kernel_rfl) (by simp) ⟨?_, trivial⟩
     · refine op_of _ rfl rfl ?_
       obtain ⟨A2, R2, hsA, hsR, hdA, hbA, hup⟩ := Sep.call (L1 := [BX b3 108 [L a1 p0 c1, I x1.i, I x1.h]]) (L2 := []) hs hM0
       refine s_call [B b3 0, .agg #[I p2.Inputs, L a2 p2.Gates c2]] Try.call76 rfl rfl hF rfl (spec_l04Lit_ok (D.l01Cur.mk p0 x1.i x1.h) p2 hx2 hsA hbA hdA (ra0.big (fun _ h => .inl h)) (RV.mk_Circuit p2 (r1.big (fun _ h => .inl h)))) fun v w6 fr hRes hF => ?_
       obtain ⟨rfl, _, hp, hs⟩ := hRes
       obtain ⟨S5, hp, hs⟩ := hup hp hs
       have r1 := r1.stp hM0 hp
       have ra0 := ra0.stp hM0 hp
       have hM0 := hM0.stp hp
       have hs : Sep [BX b3 108 [L a1 p0 c1, I x2.2.i, I x2.2.h]] w6 S5 := hs
       have hs : Sep [] w6 S5 := Sep.pick [] hs (by decide) rfl
       refine from_end rfl (then_normal ?_)
       refine any_node (fuel := 0) [5] (by kernel_rfl) (by simp) ⟨?_, trivial⟩
       · refine op_of _ rfl rfl ?_
         refine from_pure 1 [(6, I x2.1)] hF (by kernel_rfl) fun fr hF => ?_
         refine from_end rfl (then_normal ?_)
         refine any_leaf (by kernel_rfl) (then_normal ?_)
         obtain rfl := Option.some.inj h
         exact wp_ret (ret1 rfl hF rfl ⟨_, rfl, rfl, hM0.chg⟩)

theorem impl_isLiteral_ok (p0 : Int) (p1 : Int) {r : Bool} (h : impl_isLiteral p0 p1 = some r) {w : World} :
   Calls Try.prog 67 [I p0, I p1].toArray w fun e w' => ∃ v, e = .returned v ∧ v = .bool r ∧ Chg Non w w' := by
 unfold impl_isLiteral at h
 have hs := Sep.nil w Non
 have hM0 : Mem w Non (fun k => (False) ∧ k < w.heap.size) w Non (fun k => (False) ∧ k < w.heap.size) := Mem.start (fun _ h => h.elim) (fun _ h => h.2) (fun _ h => h.elim)
 refine enter (N := 18) Try.func67 rfl Try.ntmps67 rfl fun fr hF => ?_
 refine wp_seq (wp_pure [(0, I p0), (1, I p1)] hF (by kernel_rfl) fun fr hF => then_normal ?_)
 refine wp_seq (region_b [] [true, true, true, true, true, true, true, true, true, true, true, true, true, true]
     [.eq (I p0), .eq (.bool (p0 != 0)), .eq (.bool (p0 != 0)), .eq (I p0), .eq (I p1), .eq (I (w64 (0 - p1))), .eq (.bool (decide (p0 ≥ (w64 (0 - p1))))), .eq (.bool ((p0 != 0) && (decide (p0 ≥ (w64 (0 - p1)))))), .eq (.bool ((p0 != 0) && (decide (p0 ≥ (w64 (0 - p1)))))), .eq (I p0), .eq (I p1), .eq (.bool (decide (p0 ≤ p1))), .eq (.bool (((p0 != 0) && (decide (p0 ≥ (w64 (0 - p1))))) && (decide (p0 ≤ p1)))), .eq (.bool (((p0 != 0) && (decide (p0 ≥ (w64 (0 - p1))))) && (decide (p0 ≤ p1))))]
     [(4, .bool (((p0 != 0) && (decide (p0 ≥ (w64 (0 - p1))))) && (decide (p0 ≤ p1))))] mix hF (by kernel_rfl) (by kernel_rfl) (by kernel_rfl) trivial (fun hG => trivial) (by kernel_rfl) fun fr w1 hF hE hc => then_normal ?_)
 have hs := hs.ext hc
 have hM0 := hM0.ext hc
 obtain rfl := Option.some.inj h
 exact wp_ret (ret1 rfl hF rfl ⟨_, rfl, rfl, hM0.chg⟩)

theorem impl_varOf_ok (p0 : Int) {r : Int} (h : impl_varOf p0 = some r) {w : World} :
   Calls Try.prog 77 [I p0].toArray w fun e w' => ∃ v, e = .returned v ∧ v = I r ∧ Chg Non w w' := by
 unfold impl_varOf at h
 have hs := Sep.nil w Non
 have hM0 : Mem w Non (fun k => (False) ∧ k < w.heap.size) w Non (fun k => (False) ∧ k < w.heap.size) := Mem.start (fun _ h => h.elim) (fun _ h => h.2) (fun _ h => h.elim)
 refine enter (N := 8) Try.func77 rfl Try.ntmps77 rfl fun fr hF => ?_
 refine wp_seq (wp_pure [(0, I p0)] hF (by kernel_rfl) fun fr hF => then_normal ?_)
 refine wp_seq ?_
 refine wp_seq (wp_pure [(0, I p0), (4, .bool (decide (p0 < 0)))] hF (by kernel_rfl) fun fr hF => then_normal ?_)
 refine (wp_if hF (b := (decide (p0 < 0))) rfl (fun hb => ?_) (fun hb => ?_))
 · replace h := iteT hb h
   refine wp_seq (wp_pure [(2, I (w64 (0 - p0)))] hF (by kernel_rfl) fun fr hF => then_normal ?_)
   obtain rfl := Option.some.inj h
   exact wp_ret (then_ret (ret1 rfl hF rfl ⟨_, rfl, rfl, hM0.chg⟩))
 replace h := iteF hb h
 refine (wp_skip (then_normal ?_))
 refine wp_seq (wp_pure [(2, I p0)] hF (by kernel_rfl) fun fr hF => then_normal ?_)
 obtain rfl := Option.some.inj h
 exact wp_ret (ret1 rfl hF rfl ⟨_, rfl, rfl, hM0.chg⟩)

theorem impl_CircuitOk_ok (n : Nat) (p0 : D.Circuit) {r : Bool} (h : impl_CircuitOk n p0 = some r) {w : World} {G0 : Nat → Prop} {va0 : Value} (ra0 : RV w G0 va0 p0) :
   Calls Try.prog 35 [va0].toArray w fun e w' => ∃ v, e = .returned v ∧ v = .bool r ∧ Chg Non w w' := by
 unfold impl_CircuitOk at h
 have hs := Sep.nil w Non
 have hM0 : Mem w Non (fun k => (G0 k) ∧ k < w.heap.size) w Non (fun k => (G0 k) ∧ k < w.heap.size) := Mem.start (fun _ h => h.elim) (fun _ h => h.2) (fun _ h => h.elim)
 have ra0 := ra0.sub (F' := (fun k => (G0 k) ∧ k < w.heap.size)) (fun k hk h => ⟨h, hk⟩)
 obtain ⟨v1, rfl, r1⟩ := RV.Circuit ra0
 obtain ⟨a1, c1, rfl, -⟩ := r1.slice
 refine enter (N := 68) Try.func35 rfl Try.ntmps35 rfl fun fr hF => ?_
 refine wp_seq (wp_text' ?_)
 refine q_box hs hM0 [I p0.Inputs, L a1 p0.Gates c1] rfl rfl hF rfl rfl fun b1 w1 S1 fr hs hp hF => ?_
 have r1 := r1.stp hM0 hp
 have hM0 := hM0.stp hp
 have hs : Sep [BX b1 28 [I p0.Inputs, L a1 p0.Gates c1]] w1 S1 := hs
 refine from_pure 1 [(1, B b1 0)] hF (by kernel_rfl) fun fr hF => ?_
 refine from_end rfl (then_normal ?_)
 refine wp_seq ?_
 refine wp_seq (region_b [] [true, false, true, true, true, false, true, true, true, true, false, true, true, true]
     [.eq (B b1 0), .eq (I p0.Inputs), .eq (.bool (decide (p0.Inputs < 0))), .eq (.bool (decide (p0.Inputs < 0))), .eq (B b1 0), .eq (I p0.Inputs), .eq (.bool (decide (p0.Inputs > 30))), .eq (.bool ((decide (p0.Inputs < 0)) || (decide (p0.Inputs > 30)))), .eq (.bool ((decide (p0.Inputs < 0)) || (decide (p0.Inputs > 30)))), .eq (B b1 1), .eq (L a1 p0.Gates c1), .eq (I (len p0.Gates)), .eq (.bool (decide ((len p0.Gates) > 360))), .eq (.bool (((decide (p0.Inputs < 0)) || (decide (p0.Inputs > 30))) || (decide ((len p0.Gates) > 360))))]
     [(1, B b1 0), (20, .bool (((decide (p0.Inputs < 0)) || (decide (p0.Inputs > 30))) || (decide ((len p0.Gates) > 360))))] mix hF (by kernel_rfl) (by kernel_rfl) (by kernel_rfl) ⟨Pd.mono_eq, Pd.mono_eq, Pd.mono_eq, trivial⟩ (fun hG => ⟨np_loadBox hG hF ty3 rfl rfl (hs.bx 0 rfl) rfl rfl rfl, np_loadBox hG hF ty3 rfl rfl (hs.bx 0 rfl) rfl rfl rfl, np_loadBox hG hF ty26 rfl rfl (hs.bx 0 rfl) rfl rfl rfl, trivial⟩) (by kernel_rfl) fun fr w2 hF hE hc => then_normal ?_)
 have r1 := r1.ext hc
 have hs := hs.ext hc
 have hM0 := hM0.ext hc
 refine (wp_if hF (b := (((decide (p0.Inputs < 0)) || (decide (p0.Inputs > 30))) || (decide ((len p0.Gates) > 360)))) rfl (fun hb => ?_) (fun hb => ?_))
 · replace h := iteT hb h
   have hs : Sep [] w2 S1 := Sep.pick [] hs (by decide) rfl
   refine wp_seq (wp_pure [(2, .bool false)] hF (by kernel_rfl) fun fr hF => then_normal ?_)
   obtain rfl := Option.some.inj h
   exact wp_ret (then_ret (ret1 rfl hF rfl ⟨_, rfl, rfl, hM0.chg⟩))
 replace h := iteF hb h
 refine (wp_skip (then_normal ?_))
 refine wp_seq (wp_text' ?_)
 refine q_makeMap map91 hs hM0 (fun w => by simp [Instr.makeMap, run_newObj_alloc]) rfl rfl hF fun b2 w3 S2 fr hs hp hF => ?_
 have r1 := r1.stp hM0 hp
 have hM0 := hM0.stp hp
 have hs : Sep [MP map91 b2 ([]), BX b1 28 [I p0.Inputs, L a1 p0.Gates c1]] w3 S2 := hs
 refine from_pure 1 [(1, B b1 0), (3, .map (some b2))] hF (by kernel_rfl) fun fr hF => ?_
 refine from_end rfl (then_normal ?_)
 refine wp_seq ?_
 refine wp_seq (wp_text' ?_)
 refine from_pure 1 [(1, B b1 0), (3, .map (some b2)), (22, B b1 1)] hF (by kernel_rfl) fun fr hF => ?_
 refine s_loadBox (L a1 p0.Gates c1) ty26 rfl rfl hF rfl (hs.bx 1 rfl) rfl rfl fun fr hF => ?_
 refine from_pure 2 [(1, B b1 0), (3, .map (some b2)), (23, L a1 p0.Gates c1), (24, I (len p0.Gates)), (25, I 0)] hF (by kernel_rfl) fun fr hF => ?_
 refine from_end rfl (then_normal ?_)
 obtain ⟨rl1, hit1, h⟩ := bindE h
 have hk1 := h
 refine (wp_cut (M := fun fr w' => ∃ s, rl1 = .inl s ∧ ∃ S4 F2, FrS 68 [] fr ∧ Mem w3 S2 (fun k => (G0 k) ∧ k < w.heap.size) w' S4 F2 ∧ Sep [] w' S4) (wp_block (wp_iter (Inv := fun s1 fr w' => ∃ S3 F1, FrS 68 [(1, B b1 0), (3, .map (some b2)), (23, L a1 p0.Gates c1), (24, I (len p0.Gates)), (25, I s1.1)] fr ∧ Mem w3 S2 (fun k => (G0 k) ∧ k < w.heap.size) w' S3 F1 ∧ Sep [MP map91 b2 s1.2, BX b1 28 [I p0.Inputs, L a1 p0.Gates c1]] w' S3) hit1 ⟨S2, _, hF.sub _ (by kernel_rfl), (Mem.start hM0.bd hM0.bdF hM0.dj), hs⟩ fun s1 q1 fr w1i hI h hr1 => ?_)) fun fr w1o hM => ?_)
 · obtain ⟨S3, F1, hF, hM1, hs⟩ := hI
   have r1 := r1.mem hM1
   refine wp_seq (wp_pure [(1, B b1 0), (3, .map (some b2)), (23, L a1 p0.Gates c1), (24, I (len p0.Gates)), (25, I s1.1), (26, .bool (decide (s1.1 < (len p0.Gates))))] hF (by kernel_rfl) fun fr hF => then_normal ?_)
   refine wp_seq (wp_if hF (b := (decide (s1.1 < (len p0.Gates)))) rfl (fun hb => ?_) (fun hb => ?_))
   · replace h := iteT hb h
     refine (wp_skip (then_normal ?_))
     refine wp_seq (wp_block ?_)
     refine wp_seq (wp_text' ?_)
     refine from_pure 1 [(1, B b1 0), (3, .map (some b2)), (23, L a1 p0.Gates c1), (24, I (len p0.Gates)), (25, I s1.1), (27, I s1.1)] hF (by kernel_rfl) fun fr hF => ?_
     obtain ⟨x1, hx1, h⟩ := bindE h
     refine s_elemF (z := x1) (.agg #[I x1.A, I x1.B]) ty59 Try.underlying26 rfl rfl rfl rfl rfl hF rfl (r1) rfl (get?_nn hx1) (get?_at hx1) rfl fun p fr hF => ?_
     refine q_alloc (z := .agg #[I 0, I 0]) hs hM1 [I 0, I 0] rfl rfl hF (by kernel_rfl) rfl fun b3 w4 S5 fr hs hp hF => ?_
     have r1 := r1.stp hM1 hp
     have hM1 := hM1.stp hp
     have hs : Sep [BX b3 59 [I 0, I 0], MP map91 b2 s1.2, BX b1 28 [I p0.Inputs, L a1 p0.Gates c1]] w4 S5 := hs
     refine from_pure 1 [(1, B b1 0), (3, .map (some b2)), (4, I s1.1), (5, B b3 0), (23, L a1 p0.Gates c1), (24, I (len p0.Gates)), (25, I s1.1), (29, .agg #[I x1.A, I x1.B])] hF (by kernel_rfl) fun fr hF => ?_
     refine q_storeBoxS 0 hs hM1 rfl [I x1.A, I x1.B] rfl hF rfl rfl (by kernel_rfl) rfl rfl rfl fun w5 S6 hs hp hF => ?_
     have r1 := r1.stp hM1 hp
     have hM1 := hM1.stp hp
     have hs : Sep [BX b3 59 [I x1.A, I x1.B], MP map91 b2 s1.2, BX b1 28 [I p0.Inputs, L a1 p0.Gates c1]] w5 S6 := hs
     refine from_end rfl (then_normal ?_)
     refine wp_seq (wp_text' ?_)
     refine from_pure 1 [(1, B b1 0), (3, .map (some b2)), (4, I s1.1), (5, B b3 0), (23, L a1 p0.Gates c1), (24, I (len p0.Gates)), (25, I s1.1), (30, B b1 0)] hF (by kernel_rfl) fun fr hF => ?_
     refine s_loadBox (I p0.Inputs) ty3 rfl rfl hF rfl (hs.bx 2 rfl) rfl rfl fun fr hF => ?_
     refine from_pure 4 [(1, B b1 0), (3, .map (some b2)), (5, B b3 0), (6, I (w64 ((w64 (1 + p0.Inputs)) + s1.1))), (23, L a1 p0.Gates c1), (24, I (len p0.Gates)), (25, I s1.1)] hF (by kernel_rfl) fun fr hF => ?_
     refine from_end rfl (then_normal ?_)
     refine wp_seq ?_
     obtain ⟨x2, hx2, h⟩ := bindE h
     obtain ⟨x3, hx3, h⟩ := bindE h
     obtain ⟨x4, hx4, h⟩ := bindE h
     refine wp_seq (region_b [] [true, false, true, false, true, true, true, false, true, false, true, true, true, true, false, false, true]
         [.eq (B b3 0), .eq (I x1.A), .eq (I (w64 ((w64 (1 + p0.Inputs)) + s1.1))), .eq (.bool x2), .eq (.bool (!x2)), .eq (.bool (!x2)), .eq (B b3 1), .eq (I x1.B), .eq (I (w64 ((w64 (1 + p0.Inputs)) + s1.1))), .eq (.bool x3), .eq (.bool (!x3)), .eq (.bool ((!x2) || (!x3))), .eq (.bool ((!x2) || (!x3))), .eq (.map (some b2)), .eq (.agg #[I x1.A, I x1.B]), .eq (.bool x4), .eq (.bool (((!x2) || (!x3)) || x4))]
         [(1, B b1 0), (3, .map (some b2)), (5, B b3 0), (23, L a1 p0.Gates c1), (24, I (len p0.Gates)), (25, I s1.1), (51, .bool (((!x2) || (!x3)) || x4))] mix hF (by kernel_rfl) (by kernel_rfl) (by kernel_rfl) ⟨Pd.mono_eq, Pd.mono_eq, Pd.mono_eq, Pd.mono_eq, Pd.mono_eq, Pd.mono_eq, trivial⟩ (fun hG => ⟨np_loadBox hG hF ty3 rfl rfl (hs.bx 0 rfl) rfl rfl rfl, np_call [I x1.A, I (w64 ((w64 (1 + p0.Inputs)) + s1.1))] hG hF Try.call67 rfl rfl (fun w hC hg => (impl_isLiteral_ok x1.A (w64 ((w64 (1 + p0.Inputs)) + s1.1)) hx2).mono fun e w' ⟨v, he, hv, hc⟩ => ⟨v, he, hc, hv⟩), np_loadBox hG hF ty3 rfl rfl (hs.bx 0 rfl) rfl rfl rfl, np_call [I x1.B, I (w64 ((w64 (1 + p0.Inputs)) + s1.1))] hG hF Try.call67 rfl rfl (fun w hC hg => (impl_isLiteral_ok x1.B (w64 ((w64 (1 + p0.Inputs)) + s1.1)) (iteF hg.2 hx3)).mono fun e w' ⟨v, he, hv, hc⟩ => ⟨v, he, hc, hv⟩), np_loadBoxS hG hF ty59 rfl rfl (hs.bx 0 rfl) rfl rfl rfl rfl, np_mapGet map91 1 hs rfl Try.underlying91 hG hF rfl (u := x1) rfl rfl rfl (fun hg => mget?_fit (iteF hg.2 hx4)) (vr := .bool x4) (fun hg => congrArg (fun y => Rep.val Bool (Flat.enc y)) (mget?_val (iteF hg.2 hx4))) rfl, trivial⟩) (by kernel_rfl) fun fr w6 hF hE hc => then_normal ?_)
     have r1 := r1.ext hc
     have hs := hs.ext hc
     have hM1 := hM1.ext hc
     refine (wp_if hF (b := (((!x2) || (!x3)) || x4)) rfl (fun hb => ?_) (fun hb => ?_))
     · replace h := iteT hb h
       have hs : Sep [] w6 S6 := Sep.pick [] hs (by decide) rfl
       refine wp_seq (wp_pure [(2, .bool false)] hF (by kernel_rfl) fun fr hF => then_normal ?_)
       obtain rfl := hr1 _ (Option.some.inj h).symm
       obtain rfl := Option.some.inj hk1
       exact wp_ret (then_ret (blk_ret (then_ret (then_ret (blk_ret (then_ret (ret1 rfl hF rfl ⟨_, rfl, rfl, (hM0.trans hM1).chg⟩)))))))
     replace h := iteF hb h
     refine (wp_skip (then_normal ?_))
     refine wp_seq ?_
     obtain ⟨x5, hx5, h⟩ := bindE h
     obtain ⟨x6, hx6, h⟩ := bindE h
     obtain ⟨x7, hx7, h⟩ := bindE h
     refine wp_seq (region_bm 13 [0, 1, 3, 7, 15, 31, 63, 127, 31, 287, 1023, 2047, 4095] [true, false, false, true, true, true, false, false, true, false, false, true, true]
         [.eq (B b3 0), .eq (I x1.A), .eq (I x5), .eq (.bool (decide (x5 < 2))), .eq (.bool (decide (x5 < 2))), .eq (B b3 0), .eq (I x1.A), .eq (I x6), .eq (B b3 1), .eq (I x1.B), .eq (I x7), .eq (.bool (decide (x6 ≥ x7))), .eq (.bool ((decide (x5 < 2)) || (decide (x6 ≥ x7))))]
         [(1, B b1 0), (3, .map (some b2)), (5, B b3 0), (23, L a1 p0.Gates c1), (24, I (len p0.Gates)), (25, I s1.1), (64, .bool ((decide (x5 < 2)) || (decide (x6 ≥ x7))))] mix hF (by kernel_rfl) (by kernel_rfl) (by kernel_rfl) (by kernel_rfl) ⟨Pd.monoO_eq, Pd.monoO_eq, Pd.monoO_eq, Pd.monoO_eq, Pd.monoO_eq, Pd.monoO_eq, trivial⟩ (fun ow hG => ⟨np_to ow (np_loadBox hG hF ty3 rfl rfl (hs.bx 0 rfl) rfl rfl rfl), np_to ow (np_call [I x1.A] hG hF Try.call77 rfl rfl (fun w hC hg => (impl_varOf_ok x1.A hx5).mono fun e w' ⟨v, he, hv, hc⟩ => ⟨v, he, hc, hv⟩)), np_to ow (np_loadBox hG hF ty3 rfl rfl (hs.bx 0 rfl) rfl rfl rfl), np_to ow (np_call [I x1.A] hG hF Try.call77 rfl rfl (fun w hC hg => (impl_varOf_ok x1.A (iteF hg.2 hx6)).mono fun e w' ⟨v, he, hv, hc⟩ => ⟨v, he, hc, hv⟩)), np_to ow (np_loadBox hG hF ty3 rfl rfl (hs.bx 0 rfl) rfl rfl rfl), np_to ow (np_call [I x1.B] hG hF Try.call77 rfl rfl (fun w hC hg => (impl_varOf_ok x1.B (iteF hg.2 hx7)).mono fun e w' ⟨v, he, hv, hc⟩ => ⟨v, he, hc, hv⟩)), trivial⟩) (by kernel_rfl) fun ow fr w7 hF hE hc => ?_)
     have r1 := r1.ext hc
     have hs := hs.ext hc
     have hM1 := hM1.ext hc
     refine from_end rfl (then_normal ?_)
     refine (wp_if hF (b := ((decide (x5 < 2)) || (decide (x6 ≥ x7)))) rfl (fun hb => ?_) (fun hb => ?_))
     · replace h := iteT hb h
       have hs : Sep [] w7 S6 := Sep.pick [] hs (by decide) rfl
       refine wp_seq (wp_pure [(2, .bool false)] hF (by kernel_rfl) fun fr hF => then_normal ?_)
       obtain rfl := hr1 _ (Option.some.inj h).symm
       obtain rfl := Option.some.inj hk1
       exact wp_ret (then_ret (blk_ret (then_ret (then_ret (blk_ret (then_ret (ret1 rfl hF rfl ⟨_, rfl, rfl, (hM0.trans hM1).chg⟩)))))))
     replace h := iteF hb h
     refine (wp_skip (then_normal ?_))
     refine (wp_text' ?_)
     refine from_pure 1 [(1, B b1 0), (3, .map (some b2)), (5, B b3 0), (23, L a1 p0.Gates c1), (24, I (len p0.Gates)), (25, I s1.1), (65, .map (some b2))] hF (by kernel_rfl) fun fr hF => ?_
     refine s_loadBoxS ty59 rfl rfl hF rfl (hs.bx 0 rfl) rfl rfl fun fr hF => ?_
     have hs : Sep [MP map91 b2 s1.2, BX b1 28 [I p0.Inputs, L a1 p0.Gates c1]] w7 S6 := Sep.pick [1, 2] hs (by decide) rfl
     obtain ⟨x8, hx8, h⟩ := bindE h
     refine q_mapPut map91 0 hs hM1 rfl Try.underlying91 rfl hF (u := x1) (mput?_fit hx8) true rfl (mput?_len hx8) rfl rfl rfl rfl rfl fun w8 S7 hs hp hF => ?_
     have r1 := r1.stp hM1 hp
     have hM1 := hM1.stp hp
     have hs : Sep [MP map91 b2 x8, BX b1 28 [I p0.Inputs, L a1 p0.Gates c1]] w8 S7 := by rw [mput?_val hx8]; exact hs
     refine from_end rfl ?_
     refine blk_normal (then_normal ?_)
     refine (wp_pure [(1, B b1 0), (3, .map (some b2)), (23, L a1 p0.Gates c1), (24, I (len p0.Gates)), (25, I (w64 (s1.1 + 1)))] hF (by kernel_rfl) fun fr hF => then_normal ?_)
     exact ⟨_, (Option.some.inj h).symm, S7, _, hF.sub _ (by kernel_rfl), hM1, hs⟩
   replace h := iteF hb h
   have hs : Sep [] w1i S3 := Sep.pick [] hs (by decide) rfl
   refine (wp_exit (then_exit (then_exit (blk_exit_eq ?_))))
   obtain rfl := hr1 _ (Option.some.inj h).symm
   exact then_normal ⟨_, rfl, S3, _, hF.sub _ (by kernel_rfl), hM1, hs⟩
 · obtain ⟨s1r, rfl, hM⟩ := hM
   obtain ⟨S4, F2, hF, hMx, hs⟩ := hM
   have hM0 := hM0.trans hMx
   refine wp_seq (wp_pure [(2, .bool true)] hF (by kernel_rfl) fun fr hF => then_normal ?_)
   obtain rfl := Option.some.inj h
   exact wp_ret (ret1 rfl hF rfl ⟨_, rfl, rfl, hM0.chg⟩)

theorem impl_isTwoWords_ok (p0 : Int) {r : Bool} (h : impl_isTwoWords p0 = some r) {w : World} :
   Calls Try.prog 72 [I p0].toArray w fun e w' => ∃ v, e = .returned v ∧ v = .bool r ∧ Chg Non w w' := by
 unfold impl_isTwoWords at h
 have hs := Sep.nil w Non
 have hM0 : Mem w Non (fun k => (False) ∧ k < w.heap.size) w Non (fun k => (False) ∧ k < w.heap.size) := Mem.start (fun _ h => h.elim) (fun _ h => h.2) (fun _ h => h.elim)
 refine enter (N := 9) Try.func72 rfl Try.ntmps72 rfl fun fr hF => ?_
 refine wp_seq (wp_pure [(0, I p0)] hF (by kernel_rfl) fun fr hF => then_normal ?_)
 refine wp_seq (region_b [] [true, true, true, true, true, true, true]
     [.eq (I p0), .eq (.bool (decide (p0 ≥ 3))), .eq (.bool (decide (p0 ≥ 3))), .eq (I p0), .eq (.bool (decide (p0 ≤ 16))), .eq (.bool ((decide (p0 ≥ 3)) && (decide (p0 ≤ 16)))), .eq (.bool ((decide (p0 ≥ 3)) && (decide (p0 ≤ 16))))]
     [(2, .bool ((decide (p0 ≥ 3)) && (decide (p0 ≤ 16))))] mix hF (by kernel_rfl) (by kernel_rfl) (by kernel_rfl) trivial (fun hG => trivial) (by kernel_rfl) fun fr w1 hF hE hc => then_normal ?_)
 have hs := hs.ext hc
 have hM0 := hM0.ext hc
 obtain rfl := Option.some.inj h
 exact wp_ret (ret1 rfl hF rfl ⟨_, rfl, rfl, hM0.chg⟩)

theorem impl_linesOf_ok (p0 : D.Circuit) {r : Int} (h : impl_linesOf p0 = some r) {w : World} {G0 : Nat → Prop} {va0 : Value} (ra0 : RV w G0 va0 p0) :
   Calls Try.prog 65 [va0].toArray w fun e w' => ∃ v, e = .returned v ∧ v = I r ∧ Chg Non w w' := by
 unfold impl_linesOf at h
 have hs := Sep.nil w Non
 have hM0 : Mem w Non (fun k => (G0 k) ∧ k < w.heap.size) w Non (fun k => (G0 k) ∧ k < w.heap.size) := Mem.start (fun _ h => h.elim) (fun _ h => h.2) (fun _ h => h.elim)
 have ra0 := ra0.sub (F' := (fun k => (G0 k) ∧ k < w.heap.size)) (fun k hk h => ⟨h, hk⟩)
 obtain ⟨v1, rfl, r1⟩ := RV.Circuit ra0
 obtain ⟨a1, c1, rfl, -⟩ := r1.slice
 refine enter (N := 10) Try.func65 rfl Try.ntmps65 rfl fun fr hF => ?_
 refine wp_seq (wp_text' ?_)
 refine q_box hs hM0 [I p0.Inputs, L a1 p0.Gates c1] rfl rfl hF rfl rfl fun b1 w1 S1 fr hs hp hF => ?_
 have r1 := r1.stp hM0 hp
 have hM0 := hM0.stp hp
 have hs : Sep [BX b1 28 [I p0.Inputs, L a1 p0.Gates c1]] w1 S1 := hs
 refine from_pure 1 [(1, B b1 0)] hF (by kernel_rfl) fun fr hF => ?_
 refine from_end rfl (then_normal ?_)
 refine wp_seq (wp_text' ?_)
 refine from_pure 1 [(1, B b1 0), (3, B b1 0)] hF (by kernel_rfl) fun fr hF => ?_
 refine s_loadBox (I p0.Inputs) ty3 rfl rfl hF rfl (hs.bx 0 rfl) rfl rfl fun fr hF => ?_
 refine from_pure 2 [(5, I (w64 (1 + p0.Inputs))), (6, B b1 1)] hF (by kernel_rfl) fun fr hF => ?_
 refine s_loadBox (L a1 p0.Gates c1) ty26 rfl rfl hF rfl (hs.bx 0 rfl) rfl rfl fun fr hF => ?_
 have hs : Sep [] w1 S1 := Sep.pick [] hs (by decide) rfl
 refine from_pure 3 [(2, I (w64 ((w64 (1 + p0.Inputs)) + (len p0.Gates))))] hF (by kernel_rfl) fun fr hF => ?_
 refine from_end rfl (then_normal ?_)
 obtain rfl := Option.some.inj h
 exact wp_ret (ret1 rfl hF rfl ⟨_, rfl, rfl, hM0.chg⟩)

theorem impl_literalsOk_ok (n : Nat) (p0 : List Int) (p1 : Int) {r : Bool} (h : impl_literalsOk n p0 p1 = some r) {w : World} {G0 : Nat → Prop} {va0 : Value} (ra0 : RV w G0 va0 p0) :
   Calls Try.prog 66 [va0, I p1].toArray w fun e w' => ∃ v, e = .returned v ∧ v = .bool r ∧ Chg Non w w' := by
 unfold impl_literalsOk at h
 have hs := Sep.nil w Non
 have hM0 : Mem w Non (fun k => (G0 k) ∧ k < w.heap.size) w Non (fun k => (G0 k) ∧ k < w.heap.size) := Mem.start (fun _ h => h.elim) (fun _ h => h.2) (fun _ h => h.elim)
 have ra0 := ra0.sub (F' := (fun k => (G0 k) ∧ k < w.heap.size)) (fun k hk h => ⟨h, hk⟩)
 obtain ⟨a1, c1, rfl, -⟩ := ra0.slice
 refine enter (N := 18) Try.func66 rfl Try.ntmps66 rfl fun fr hF => ?_
 refine wp_seq (wp_pure [(0, L a1 p0 c1), (1, I p1)] hF (by kernel_rfl) fun fr hF => then_normal ?_)
 refine wp_seq ?_
 refine wp_seq (wp_pure [(1, I p1), (7, L a1 p0 c1), (8, I (len p0)), (9, I 0)] hF (by kernel_rfl) fun fr hF => then_normal ?_)
 obtain ⟨rl1, hit1, h⟩ := bindE h
 have hk1 := h
 refine (wp_cut (M := fun fr w' => ∃ s, rl1 = .inl s ∧ ∃ S2 F2, FrS 18 [] fr ∧ Mem w Non (fun k => (G0 k) ∧ k < w.heap.size) w' S2 F2 ∧ Sep [] w' S2) (wp_block (wp_iter (Inv := fun s1 fr w' => ∃ S1 F1, FrS 18 [(1, I p1), (7, L a1 p0 c1), (8, I (len p0)), (9, I s1)] fr ∧ Mem w Non (fun k => (G0 k) ∧ k < w.heap.size) w' S1 F1 ∧ Sep [] w' S1) hit1 ⟨Non, _, hF.sub _ (by kernel_rfl), (Mem.start hM0.bd hM0.bdF hM0.dj), hs⟩ fun s1 q1 fr w1i hI h hr1 => ?_)) fun fr w1o hM => ?_)
 · obtain ⟨S1, F1, hF, hM1, hs⟩ := hI
   have ra0 := ra0.mem hM1
   refine wp_seq (wp_pure [(1, I p1), (7, L a1 p0 c1), (8, I (len p0)), (9, I s1), (10, .bool (decide (s1 < (len p0))))] hF (by kernel_rfl) fun fr hF => then_normal ?_)
   refine wp_seq (wp_if hF (b := (decide (s1 < (len p0)))) rfl (fun hb => ?_) (fun hb => ?_))
   · replace h := iteT hb h
     refine (wp_skip (then_normal ?_))
     refine wp_seq (wp_block ?_)
     refine wp_seq (wp_text' ?_)
     obtain ⟨x1, hx1, h⟩ := bindE h
     refine s_elemF (z := x1) (I x1) ty3 Try.underlying37 rfl rfl rfl rfl rfl hF rfl (ra0) rfl (get?_nn hx1) (get?_at hx1) rfl fun p fr hF => ?_
     refine from_pure 1 [(1, I p1), (6, I x1), (7, L a1 p0 c1), (8, I (len p0)), (9, I s1)] hF (by kernel_rfl) fun fr hF => ?_
     refine from_end rfl (then_normal ?_)
     refine wp_seq (wp_text' ?_)
     refine from_pure 2 [(1, I p1), (7, L a1 p0 c1), (8, I (len p0)), (9, I s1), (13, I x1), (14, I p1)] hF (by kernel_rfl) fun fr hF => ?_
     obtain ⟨x2, hx2, h⟩ := bindE h
     refine s_call [I x1, I p1] Try.call67 rfl rfl hF rfl (impl_isLiteral_ok x1 p1 hx2) fun v w1 fr hRes hF => ?_
     obtain ⟨rfl, hc⟩ := hRes
     have ra0 := ra0.ext hc
     have hs := hs.ext hc
     have hM1 := hM1.ext hc
     refine from_pure 1 [(1, I p1), (7, L a1 p0 c1), (8, I (len p0)), (9, I s1), (16, .bool (!x2))] hF (by kernel_rfl) fun fr hF => ?_
     refine from_end rfl (then_normal ?_)
     refine (wp_if hF (b := (!x2)) rfl (fun hb => ?_) (fun hb => ?_))
     · replace h := iteT hb h
       refine wp_seq (wp_pure [(4, .bool false)] hF (by kernel_rfl) fun fr hF => then_normal ?_)
       obtain rfl := hr1 _ (Option.some.inj h).symm
       obtain rfl := Option.some.inj hk1
       exact wp_ret (blk_ret (then_ret (then_ret (blk_ret (then_ret (ret1 rfl hF rfl ⟨_, rfl, rfl, (hM0.trans hM1).chg⟩))))))
     replace h := iteF hb h
     refine (wp_skip ?_)
     refine blk_normal (then_normal ?_)
     refine (wp_pure [(1, I p1), (7, L a1 p0 c1), (8, I (len p0)), (9, I (w64 (s1 + 1)))] hF (by kernel_rfl) fun fr hF => then_normal ?_)
     exact ⟨_, (Option.some.inj h).symm, S1, _, hF.sub _ (by kernel_rfl), hM1, hs⟩
   replace h := iteF hb h
   refine (wp_exit (then_exit (then_exit (blk_exit_eq ?_))))
   obtain rfl := hr1 _ (Option.some.inj h).symm
   exact then_normal ⟨_, rfl, S1, _, hF.sub _ (by kernel_rfl), hM1, hs⟩
 · obtain ⟨s1r, rfl, hM⟩ := hM
   obtain ⟨S2, F2, hF, hMx, hs⟩ := hM
   have hM0 := hM0.trans hMx
   refine wp_seq (wp_pure [(4, .bool true)] hF (by kernel_rfl) fun fr hF => then_normal ?_)
   obtain rfl := Option.some.inj h
   exact wp_ret (ret1 rfl hF rfl ⟨_, rfl, rfl, hM0.chg⟩)

theorem slices_Clone___impl_Gate_impl_Gate__ok (p0 : List D.Gate) {r : (List D.Gate)} (h : slices_Clone___impl_Gate_impl_Gate_ p0 = some r) {w : World} {G0 : Nat → Prop} {va0 : Value} (ra0 : RV w G0 va0 p0) :
   Calls Try.prog 88 [va0].toArray w fun e w' => ∃ v, e = .returned v ∧ ∃ a1 c1, v = L a1 r c1 ∧ ∃ S', Stp w Non w' S' ∧ Sep [sl59 (L a1 r c1) r] w' S' := by
 unfold slices_Clone___impl_Gate_impl_Gate_ at h
 have hs := Sep.nil w Non
 have hM0 : Mem w Non (fun k => (G0 k) ∧ k < w.heap.size) w Non (fun k => (G0 k) ∧ k < w.heap.size) := Mem.start (fun _ h => h.elim) (fun _ h => h.2) (fun _ h => h.elim)
 have ra0 := ra0.sub (F' := (fun k => (G0 k) ∧ k < w.heap.size)) (fun k hk h => ⟨h, hk⟩)
 obtain ⟨a1, c1, rfl, -⟩ := ra0.slice
 refine enter (N := 8) Try.func88 rfl Try.ntmps88 rfl fun fr hF => ?_
 refine wp_seq (wp_pure [(0, L a1 p0 c1)] hF (by kernel_rfl) fun fr hF => then_normal ?_)
 refine wp_seq ?_
 refine wp_seq (wp_text' ?_)
 refine from_pure 1 [(0, L a1 p0 c1), (3, L a1 p0 c1)] hF (by kernel_rfl) fun fr hF => ?_
 refine s_bin rfl rfl hF rfl rfl (nil_guard _ _ _ _ _ _ _ _ _ _) (nil_eq Try.underlying26 _ _ _ _) fun fr hF => ?_
 refine from_end rfl (then_normal ?_)
 refine (wp_if hF (b := (Option.isNone a1)) rfl (fun hb => ?_) (fun hb => ?_))
 · have hnil := nil_of ra0 (Option.isNone_iff_eq_none.1 hb)
   replace h := nil_app hnil h
   refine wp_seq (wp_pure [(2, L none ([] : List D.Gate) 0)] hF (by kernel_rfl) fun fr hF => then_normal ?_)
   have hs : Sep [sl59 (L none ([] : List D.Gate) 0) ([] : List D.Gate)] w Non := hs.cons_nil (α := D.Gate) 59
   obtain rfl := Option.some.inj h
   exact wp_ret (then_ret (ret1 rfl hF rfl ⟨_, rfl, none, 0, rfl, Non, hM0.out, hs⟩))
 · skip
   refine (wp_skip (then_normal ?_))
   refine wp_seq (wp_text' ?_)
   refine q_lit (E := 59) hs hM0 [] (([] : List D.Gate).map Flat.enc) ([] : List D.Gate) rfl rfl hF [] rfl (fun w => by kernel_rfl) (css_flat _) rfl rfl rfl fun a2 c2 w1 S1 fr hs hp hF => ?_
   have ra0 := ra0.stp hM0 hp
   have hM0 := hM0.stp hp
   have hs : Sep [sl59 (L a2 ([] : List D.Gate) c2) ([] : List D.Gate)] w1 S1 := hs
   refine from_pure 1 [(5, L a2 ([] : List D.Gate) c2), (6, L a1 p0 c1)] hF (by kernel_rfl) fun fr hF => ?_
   obtain ⟨x1, hx1, h⟩ := bindE h
   refine q_append 0 hs hM0 rfl Try.underlying26 el59 rfl rfl rfl hF rfl rfl (ra0) hx1 fun a3 c3 w2 S2 fr hs hp hF => ?_
   have ra0 := ra0.stp hM0 hp
   have hM0 := hM0.stp hp
   have hs : Sep [sl59 (L a3 x1 c3) x1] w2 S2 := hs
   refine from_pure 1 [(2, L a3 x1 c3)] hF (by kernel_rfl) fun fr hF => ?_
   refine from_end rfl (then_normal ?_)
   obtain rfl := Option.some.inj h
   exact wp_ret (ret1 rfl hF rfl ⟨_, rfl, a3, c3, rfl, S2, hM0.out, hs⟩)

theorem impl_newBuilder_ok (n : Nat) (p0 : D.Circuit) {r : D.builder} (h : impl_newBuilder n p0 = some r) {w : World} {G0 : Nat → Prop} {va0 : Value} (ra0 : RV w G0 va0 p0) :
   Calls Try.prog 68 [va0].toArray w fun e w' => ∃ v, e = .returned v ∧ ∃ b5 b6 a1 c1, v = B b5 0 ∧ ∃ S', Stp w Non w' S' ∧ Sep [BX b5 83 [I r.c.Inputs, L a1 r.c.Gates c1, .map (some b6), .bool r.full], sl59 (L a1 r.c.Gates c1) r.c.Gates, MP map81 b6 r.line] w' S' := by
 unfold impl_newBuilder at h
 have hs := Sep.nil w Non
 have hM0 : Mem w Non (fun k => (G0 k) ∧ k < w.heap.size) w Non (fun k => (G0 k) ∧ k < w.heap.size) := Mem.start (fun _ h => h.elim) (fun _ h => h.2) (fun _ h => h.elim)
 have ra0 := ra0.sub (F' := (fun k => (G0 k) ∧ k < w.heap.size)) (fun k hk h => ⟨h, hk⟩)
 obtain ⟨v1, rfl, r1⟩ := RV.Circuit ra0
 obtain ⟨a1, c1, rfl, -⟩ := r1.slice
 refine enter (N := 35) Try.func68 rfl Try.ntmps68 rfl fun fr hF => ?_
 refine wp_seq (wp_text' ?_)
 refine q_box hs hM0 [I p0.Inputs, L a1 p0.Gates c1] rfl rfl hF rfl rfl fun b1 w1 S1 fr hs hp hF => ?_
 have r1 := r1.stp hM0 hp
 have hM0 := hM0.stp hp
 have hs : Sep [BX b1 28 [I p0.Inputs, L a1 p0.Gates c1]] w1 S1 := hs
 refine from_pure 1 [(1, B b1 0)] hF (by kernel_rfl) fun fr hF => ?_
 refine from_end rfl (then_normal ?_)
 obtain ⟨x1, hx1, h⟩ := bindE h
 refine wp_seq (region_bm 7 [0, 1, 0, 4, 12, 31, 0, 127, 255, 511] [true, false, true, false, false, false, false]
     [.eq (B b1 0), .eq (I p0.Inputs), .eq (B b1 1), .eq (L a1 p0.Gates c1), .own fun ow v w => ∃ i : Option Addr × Nat, v = L i.1 x1 i.2 ∧ (sl59 (L i.1 x1 i.2) x1).ok w (fun k => w1.heap.size ≤ k ∧ k < w.heap.size ∧ ow k = 4), .own fun ow v w => ∃ i : Option Addr × Nat, v = .agg #[I p0.Inputs, L i.1 x1 i.2] ∧ (sl59 (L i.1 x1 i.2) x1).ok w (fun k => w1.heap.size ≤ k ∧ k < w.heap.size ∧ ow k = 4), .own fun ow v w => ∃ b : Nat, v = .map (some b) ∧ (MP map81 b []).ok w (fun k => w1.heap.size ≤ k ∧ k < w.heap.size ∧ ow k = 6), .any, .any, .any]
     [(1, B b1 0)] mix hF (by kernel_rfl) (by kernel_rfl) (by kernel_rfl) (by kernel_rfl) ⟨Pd.monoO_eq, Pd.monoO_eq, mono_new, mono_new, mono_new, trivial⟩ (fun ow hG => ⟨np_to ow (np_loadBox hG hF ty3 rfl rfl (hs.bx 0 rfl) rfl rfl rfl), np_to ow (np_loadBox hG hF ty26 rfl rfl (hs.bx 0 rfl) rfl rfl rfl), np_callN (V := fun i : Option Addr × Nat => L i.1 x1 i.2) (H := fun i => SL 59 (L i.1 x1 i.2) x1) [.inl (L a1 p0.Gates c1)] hG hF Try.call88 rfl rfl (by kernel_rfl) rfl (fun w vs hC hg ha => by obtain ⟨_, rfl, rfl⟩ := ha; exact (slices_Clone___impl_Gate_impl_Gate__ok p0.Gates hx1 ((r1).ext hC)).mono fun e w' ⟨v, he, a0, c0, hv, _, hp, ho⟩ => ⟨v, he, hp.chg, (a0, c0), hv, sep_one hp ho⟩), np_to ow (np_thru (V := fun i : Option Addr × Nat => L i.1 x1 i.2) (V' := fun i : Option Addr × Nat => .agg #[I p0.Inputs, L i.1 x1 i.2]) (H := fun i : Option Addr × Nat => sl59 (L i.1 x1 i.2) x1) (i := 4) (s := 10) (tag := 4) hG hF rfl rfl rfl rfl rfl rfl (fun i => rfl) rfl), np_makeMap map81 hG hF (fun w => by simp [Instr.makeMap, run_newObj_alloc]) rfl rfl, trivial⟩) (by kernel_rfl) fun ow fr w2 hF hE hc => ?_)
 obtain ⟨⟨a2, c2⟩, hv, hnw5⟩ := hE.is 11 5 rfl rfl
 have hF := hF.cons hv
 obtain ⟨b2, hv, hnw6⟩ := hE.is 12 6 rfl rfl
 have hF := hF.cons hv
 have hsN := sepO (w0 := w1) (ow := ow) [(4, sl59 (L a2 x1 c2) x1), (6, MP map81 b2 ([]))] (show ([4, 6] : List Nat).Nodup by decide) ⟨hnw5, hnw6, trivial⟩ rfl
 obtain ⟨S2, hp, hs⟩ := hs.got hM0 (stp_new hc) hsN
 have r1 := r1.stp hM0 hp
 have hM0 := hM0.stp hp
 have hs : Sep [sl59 (L a2 x1 c2) x1, MP map81 b2 ([]), BX b1 28 [I p0.Inputs, L a1 p0.Gates c1]] w2 S2 := hs
 refine from_pure 1 [(1, B b1 0), (13, .agg #[I p0.Inputs, L a2 x1 c2, .map (some b2), .bool false])] hF (by kernel_rfl) fun fr hF => ?_
 refine q_box hs hM0 [I p0.Inputs, L a2 x1 c2, .map (some b2), .bool false] rfl rfl hF rfl rfl fun b3 w3 S3 fr hs hp hF => ?_
 have r1 := r1.stp hM0 hp
 have hM0 := hM0.stp hp
 have hs : Sep [BX b3 83 [I p0.Inputs, L a2 x1 c2, .map (some b2), .bool false], sl59 (L a2 x1 c2) x1, MP map81 b2 ([]), BX b1 28 [I p0.Inputs, L a1 p0.Gates c1]] w3 S3 := hs
 refine from_pure 1 [(1, B b1 0), (3, B b3 0)] hF (by kernel_rfl) fun fr hF => ?_
 refine from_end rfl (then_normal ?_)
 refine wp_seq ?_
 refine wp_seq (wp_text' ?_)
 refine from_pure 1 [(1, B b1 0), (3, B b3 0), (15, B b1 1)] hF (by kernel_rfl) fun fr hF => ?_
 refine s_loadBox (L a1 p0.Gates c1) ty26 rfl rfl hF rfl (hs.bx 3 rfl) rfl rfl fun fr hF => ?_
 refine from_pure 2 [(1, B b1 0), (3, B b3 0), (16, L a1 p0.Gates c1), (17, I (len p0.Gates)), (18, I 0)] hF (by kernel_rfl) fun fr hF => ?_
 refine from_end rfl (then_normal ?_)
 obtain ⟨rl1, hit1, h⟩ := bindE h
 have hk1 := h
 refine (wp_cut (M := fun fr w' => ∃ S5 F2, FrS 35 [(3, B b3 0)] fr ∧ Mem w3 S3 (fun k => (G0 k) ∧ k < w.heap.size) w' S5 F2 ∧ Sep [BX b3 83 [I p0.Inputs, L a2 x1 c2, .map (some b2), .bool false], sl59 (L a2 x1 c2) x1, MP map81 b2 rl1] w' S5) (wp_block (wp_iter (Inv := fun s1 fr w' => ∃ S4 F1, FrS 35 [(1, B b1 0), (3, B b3 0), (16, L a1 p0.Gates c1), (17, I (len p0.Gates)), (18, I s1.1)] fr ∧ Mem w3 S3 (fun k => (G0 k) ∧ k < w.heap.size) w' S4 F1 ∧ Sep [BX b3 83 [I p0.Inputs, L a2 x1 c2, .map (some b2), .bool false], sl59 (L a2 x1 c2) x1, MP map81 b2 s1.2, BX b1 28 [I p0.Inputs, L a1 p0.Gates c1]] w' S4) hit1 ⟨S3, _, hF.sub _ (by kernel_rfl), (Mem.start hM0.bd hM0.bdF hM0.dj), hs⟩ fun s1 q1 fr w1i hI h hr1 => ?_)) fun fr w1o hM => ?_)
 · obtain ⟨S4, F1, hF, hM1, hs⟩ := hI
   have r1 := r1.mem hM1
   refine wp_seq (wp_pure [(1, B b1 0), (3, B b3 0), (16, L a1 p0.Gates c1), (17, I (len p0.Gates)), (18, I s1.1), (19, .bool (decide (s1.1 < (len p0.Gates))))] hF (by kernel_rfl) fun fr hF => then_normal ?_)
   refine wp_seq (wp_if hF (b := (decide (s1.1 < (len p0.Gates)))) rfl (fun hb => ?_) (fun hb => ?_))
   · replace h := iteT hb h
     refine (wp_skip (then_normal ?_))
     refine wp_seq (wp_block ?_)
     refine wp_seq (wp_text' ?_)
     refine from_pure 1 [(1, B b1 0), (3, B b3 0), (16, L a1 p0.Gates c1), (17, I (len p0.Gates)), (18, I s1.1), (20, I s1.1)] hF (by kernel_rfl) fun fr hF => ?_
     obtain ⟨x2, hx2, h⟩ := bindE h
     refine s_elemF (z := x2) (.agg #[I x2.A, I x2.B]) ty59 Try.underlying26 rfl rfl rfl rfl rfl hF rfl (r1) rfl (get?_nn hx2) (get?_at hx2) rfl fun p fr hF => ?_
     refine q_alloc (z := .agg #[I 0, I 0]) hs hM1 [I 0, I 0] rfl rfl hF (by kernel_rfl) rfl fun b4 w4 S6 fr hs hp hF => ?_
     have r1 := r1.stp hM1 hp
     have hM1 := hM1.stp hp
     have hs : Sep [BX b4 59 [I 0, I 0], BX b3 83 [I p0.Inputs, L a2 x1 c2, .map (some b2), .bool false], sl59 (L a2 x1 c2) x1, MP map81 b2 s1.2, BX b1 28 [I p0.Inputs, L a1 p0.Gates c1]] w4 S6 := hs
     refine from_pure 1 [(1, B b1 0), (3, B b3 0), (4, I s1.1), (5, B b4 0), (16, L a1 p0.Gates c1), (17, I (len p0.Gates)), (18, I s1.1), (22, .agg #[I x2.A, I x2.B])] hF (by kernel_rfl) fun fr hF => ?_
     refine q_storeBoxS 0 hs hM1 rfl [I x2.A, I x2.B] rfl hF rfl rfl (by kernel_rfl) rfl rfl rfl fun w5 S7 hs hp hF => ?_
     have r1 := r1.stp hM1 hp
     have hM1 := hM1.stp hp
     have hs : Sep [BX b4 59 [I x2.A, I x2.B], BX b3 83 [I p0.Inputs, L a2 x1 c2, .map (some b2), .bool false], sl59 (L a2 x1 c2) x1, MP map81 b2 s1.2, BX b1 28 [I p0.Inputs, L a1 p0.Gates c1]] w5 S7 := hs
     refine from_end rfl (then_normal ?_)
     refine (region_bm 10 [0, 1, 3, 7, 0, 0, 32, 96, 0, 480, 1023] [true, true, true, false, false, true, false, true, true, true]
         [.eq (B b3 0), .eq (B b3 0), .eq (B b3 2), .eq (.map (some b2)), .eq (.agg #[I x2.A, I x2.B]), .eq (B b1 0), .eq (I p0.Inputs), .eq (I (w64 (2 + p0.Inputs))), .eq (I s1.1), .eq (I (w64 ((w64 (2 + p0.Inputs)) + s1.1))), .any]
         [(1, B b1 0), (3, B b3 0), (16, L a1 p0.Gates c1), (17, I (len p0.Gates)), (18, I s1.1), (26, .map (some b2)), (27, .agg #[I x2.A, I x2.B]), (32, I (w64 ((w64 (2 + p0.Inputs)) + s1.1)))] mix hF (by kernel_rfl) (by kernel_rfl) (by kernel_rfl) (by kernel_rfl) ⟨Pd.monoO_eq, Pd.monoO_eq, Pd.monoO_eq, trivial⟩ (fun ow hG => ⟨np_to ow (np_loadBox hG hF ty81 rfl rfl (hs.bx 1 rfl) rfl rfl rfl), np_to ow (np_loadBoxS hG hF ty59 rfl rfl (hs.bx 0 rfl) rfl rfl rfl rfl), np_to ow (np_loadBox hG hF ty3 rfl rfl (hs.bx 4 rfl) rfl rfl rfl), trivial⟩) (by kernel_rfl) fun ow fr w6 hF hE hc => ?_)
     have r1 := r1.ext hc
     have hs := hs.ext hc
     have hM1 := hM1.ext hc
     have hs : Sep [BX b3 83 [I p0.Inputs, L a2 x1 c2, .map (some b2), .bool false], sl59 (L a2 x1 c2) x1, MP map81 b2 s1.2, BX b1 28 [I p0.Inputs, L a1 p0.Gates c1]] w6 S7 := Sep.pick [1, 2, 3, 4] hs (by decide) rfl
     obtain ⟨x3, hx3, h⟩ := bindE h
     refine q_mapPut map81 2 hs hM1 rfl Try.underlying81 rfl hF (u := x2) (mputE?_fit hx3) (w64 ((w64 (2 + p0.Inputs)) + s1.1)) (mputE?_efit hx3) (mputE?_len hx3) rfl rfl rfl rfl rfl fun w7 S8 hs hp hF => ?_
     have r1 := r1.stp hM1 hp
     have hM1 := hM1.stp hp
     have hs : Sep [BX b3 83 [I p0.Inputs, L a2 x1 c2, .map (some b2), .bool false], sl59 (L a2 x1 c2) x1, MP map81 b2 x3, BX b1 28 [I p0.Inputs, L a1 p0.Gates c1]] w7 S8 := by rw [mputE?_val hx3]; exact hs
     refine from_end rfl ?_
     refine blk_normal (then_normal ?_)
     refine (wp_pure [(1, B b1 0), (3, B b3 0), (16, L a1 p0.Gates c1), (17, I (len p0.Gates)), (18, I (w64 (s1.1 + 1)))] hF (by kernel_rfl) fun fr hF => then_normal ?_)
     exact ⟨_, (Option.some.inj h).symm, S8, _, hF.sub _ (by kernel_rfl), hM1, hs⟩
   replace h := iteF hb h
   have hs : Sep [BX b3 83 [I p0.Inputs, L a2 x1 c2, .map (some b2), .bool false], sl59 (L a2 x1 c2) x1, MP map81 b2 s1.2] w1i S4 := Sep.pick [0, 1, 2] hs (by decide) rfl
   refine (wp_exit (then_exit (then_exit (blk_exit_eq ?_))))
   obtain rfl := hr1 _ (Option.some.inj h).symm
   exact then_normal ⟨S4, _, hF.sub _ (by kernel_rfl), hM1, hs⟩
 · obtain ⟨S5, F2, hF, hMx, hs⟩ := hM
   have hM0 := hM0.trans hMx
   refine wp_seq (wp_pure [(2, B b3 0)] hF (by kernel_rfl) fun fr hF => then_normal ?_)
   obtain rfl := Option.some.inj h
   exact wp_ret (ret1 rfl hF rfl ⟨_, rfl, b3, b2, a2, c2, rfl, S5, hM0.out, hs⟩)

theorem impl_builder_and_ok (p0 : D.builder) (p1 : Int) (p2 : Int) {r : Int × D.builder} (h : impl_builder_and p0 p1 p2 = some r) {w : World} {S0 F0 : Nat → Prop} {pa0 : Option Addr} {pn0 pc0 : Nat} {b1 : Nat} {b2 : Nat} (hs : Sep [BX b1 83 [I p0.c.Inputs, .slice pa0 pn0 pc0, .map (some b2), .bool p0.full], sl59 (.slice pa0 pn0 pc0) p0.c.Gates, MP map81 b2 p0.line] w S0) (hb : ∀ k, S0 k → k < w.heap.size) (hd : ∀ k, S0 k → F0 k → False) :
   Calls Try.prog 51 [B b1 0, I p1, I p2].toArray w fun e w' => ∃ v, e = .returned v ∧ ∃ a1 c1, v = I r.1 ∧ ∃ S', Stp w S0 w' S' ∧ Sep [BX b1 83 [I r.2.c.Inputs, L a1 r.2.c.Gates c1, .map (some b2), .bool r.2.full], sl59 (L a1 r.2.c.Gates c1) r.2.c.Gates, MP map81 b2 r.2.line] w' S' := by
 unfold impl_builder_and at h
 obtain ⟨hpn, hs⟩ := hs.relen 1 rfl
 subst hpn
 have hs : Sep [BX b1 83 [I p0.c.Inputs, L pa0 p0.c.Gates pc0, .map (some b2), .bool p0.full], sl59 (L pa0 p0.c.Gates pc0) p0.c.Gates, MP map81 b2 p0.line] w S0 := hs
 have hM0 : Mem w S0 (fun k => F0 k ∧ k < w.heap.size) w S0 (fun k => F0 k ∧ k < w.heap.size) := Mem.start hb (fun _ h => h.2) (fun k h1 h2 => hd k h1 h2.1)
 refine enter (N := 93) Try.func51 rfl Try.ntmps51 rfl fun fr hF => ?_
 refine wp_seq (wp_pure [(0, B b1 0), (1, I p1), (2, I p2)] hF (by kernel_rfl) fun fr hF => then_normal ?_)
 refine wp_seq (wp_block ?_)
 refine wp_seq (region_b [] [true, true, true, true, true, true, true, true, true, true, true, true, true]
     [.eq (I p1), .eq (.bool (p1 == (-1))), .eq (.bool (p1 == (-1))), .eq (I p2), .eq (.bool (p2 == (-1))), .eq (.bool ((p1 == (-1)) || (p2 == (-1)))), .eq (.bool ((p1 == (-1)) || (p2 == (-1)))), .eq (I p1), .eq (I p2), .eq (I (w64 (0 - p2))), .eq (.bool (p1 == (w64 (0 - p2)))), .eq (.bool (((p1 == (-1)) || (p2 == (-1))) || (p1 == (w64 (0 - p2))))), .eq (.bool (((p1 == (-1)) || (p2 == (-1))) || (p1 == (w64 (0 - p2)))))]
     [(0, B b1 0), (1, I p1), (2, I p2), (11, .bool (((p1 == (-1)) || (p2 == (-1))) || (p1 == (w64 (0 - p2)))))] mix hF (by kernel_rfl) (by kernel_rfl) (by kernel_rfl) trivial (fun hG => trivial) (by kernel_rfl) fun fr w1 hF hE hc => then_normal ?_)
 have hs := hs.ext hc
 have hM0 := hM0.ext hc
 refine (wp_if hF (b := (((p1 == (-1)) || (p2 == (-1))) || (p1 == (w64 (0 - p2))))) rfl (fun hb => ?_) (fun hb => ?_))
 · replace h := iteT hb h
   refine wp_seq (wp_pure [(6, I (-1))] hF (by kernel_rfl) fun fr hF => then_normal ?_)
   obtain rfl := Option.some.inj h
   exact wp_ret (blk_ret (then_ret (ret1 rfl hF rfl ⟨_, rfl, pa0, pc0, rfl, S0, hM0.out, hs⟩)))
 replace h := iteF hb h
 refine wp_seq (wp_pure [(0, B b1 0), (1, I p1), (2, I p2), (24, .bool (p1 == 1))] hF (by kernel_rfl) fun fr hF => then_normal ?_)
 refine (wp_if hF (b := (p1 == 1)) rfl (fun hb => ?_) (fun hb => ?_))
 · replace h := iteT hb h
   refine wp_seq (wp_pure [(6, I p2)] hF (by kernel_rfl) fun fr hF => then_normal ?_)
   obtain rfl := Option.some.inj h
   exact wp_ret (blk_ret (then_ret (ret1 rfl hF rfl ⟨_, rfl, pa0, pc0, rfl, S0, hM0.out, hs⟩)))
 replace h := iteF hb h
 refine wp_seq (region_b [] [true, true, true, true, true, true, true, true]
     [.eq (I p2), .eq (.bool (p2 == 1)), .eq (.bool (p2 == 1)), .eq (I p1), .eq (I p2), .eq (.bool (p1 == p2)), .eq (.bool ((p2 == 1) || (p1 == p2))), .eq (.bool ((p2 == 1) || (p1 == p2)))]
     [(0, B b1 0), (1, I p1), (2, I p2), (28, .bool ((p2 == 1) || (p1 == p2)))] mix hF (by kernel_rfl) (by kernel_rfl) (by kernel_rfl) trivial (fun hG => trivial) (by kernel_rfl) fun fr w2 hF hE hc => then_normal ?_)
 have hs := hs.ext hc
 have hM0 := hM0.ext hc
 refine (wp_if hF (b := ((p2 == 1) || (p1 == p2))) rfl (fun hb => ?_) (fun hb => ?_))
 · replace h := iteT hb h
   refine wp_seq (wp_pure [(6, I p1)] hF (by kernel_rfl) fun fr hF => then_normal ?_)
   obtain rfl := Option.some.inj h
   exact wp_ret (blk_ret (then_ret (ret1 rfl hF rfl ⟨_, rfl, pa0, pc0, rfl, S0, hM0.out, hs⟩)))
 replace h := iteF hb h
 refine (wp_skip ?_)
 refine blk_normal (then_normal ?_)
 refine wp_seq (wp_text' ?_)
 refine from_pure 3 [(0, B b1 0), (1, I p1), (2, I p2), (39, .agg #[I p1, I p2])] hF (by kernel_rfl) fun fr hF => ?_
 refine q_alloc (z := .agg #[I 0, I 0]) hs hM0 [I 0, I 0] rfl rfl hF (by kernel_rfl) rfl fun b3 w3 S1 fr hs hp hF => ?_
 have hM0 := hM0.stp hp
 have hs : Sep [BX b3 59 [I 0, I 0], BX b1 83 [I p0.c.Inputs, L pa0 p0.c.Gates pc0, .map (some b2), .bool p0.full], sl59 (L pa0 p0.c.Gates pc0) p0.c.Gates, MP map81 b2 p0.line] w3 S1 := hs
 refine q_storeBoxS 0 hs hM0 rfl [I p1, I p2] rfl hF rfl rfl (by kernel_rfl) rfl rfl rfl fun w4 S2 hs hp hF => ?_
 have hM0 := hM0.stp hp
 have hs : Sep [BX b3 59 [I p1, I p2], BX b1 83 [I p0.c.Inputs, L pa0 p0.c.Gates pc0, .map (some b2), .bool p0.full], sl59 (L pa0 p0.c.Gates pc0) p0.c.Gates, MP map81 b2 p0.line] w4 S2 := hs
 refine from_end rfl (then_normal ?_)
 refine wp_seq ?_
 refine wp_seq (wp_text' ?_)
 refine from_pure 1 [(0, B b1 0), (1, I p1), (2, I p2), (7, B b3 0), (40, I p1)] hF (by kernel_rfl) fun fr hF => ?_
 obtain ⟨x1, hx1, h⟩ := bindE h
 refine s_call [I p1] Try.call77 rfl rfl hF rfl (impl_varOf_ok p1 hx1) fun v w5 fr hRes hF => ?_
 obtain ⟨rfl, hc⟩ := hRes
 have hs := hs.ext hc
 have hM0 := hM0.ext hc
 refine from_pure 1 [(0, B b1 0), (1, I p1), (2, I p2), (7, B b3 0), (41, I x1), (42, I p2)] hF (by kernel_rfl) fun fr hF => ?_
 obtain ⟨x2, hx2, h⟩ := bindE h
 refine s_call [I p2] Try.call77 rfl rfl hF rfl (impl_varOf_ok p2 hx2) fun v w6 fr hRes hF => ?_
 obtain ⟨rfl, hc⟩ := hRes
 have hs := hs.ext hc
 have hM0 := hM0.ext hc
 refine from_pure 1 [(0, B b1 0), (1, I p1), (2, I p2), (7, B b3 0), (44, .bool (decide (x1 > x2)))] hF (by kernel_rfl) fun fr hF => ?_
 refine from_end rfl (then_normal ?_)
 refine (wp_if hF (b := (decide (x1 > x2))) rfl (fun hb => ?_) (fun hb => ?_))
 · replace h := iteT hb h
   refine (wp_text' ?_)
   refine from_pure 3 [(0, B b1 0), (7, B b3 0), (47, .agg #[I p2, I p1])] hF (by kernel_rfl) fun fr hF => ?_
   refine q_storeBoxS 0 hs hM0 rfl [I p2, I p1] rfl hF rfl rfl (by kernel_rfl) rfl rfl rfl fun w7 S3 hs hp hF => ?_
   have hM0 := hM0.stp hp
   have hs : Sep [BX b3 59 [I p2, I p1], BX b1 83 [I p0.c.Inputs, L pa0 p0.c.Gates pc0, .map (some b2), .bool p0.full], sl59 (L pa0 p0.c.Gates pc0) p0.c.Gates, MP map81 b2 p0.line] w7 S3 := hs
   refine from_end rfl (then_normal ?_)
   refine wp_seq ?_
   obtain ⟨x3, hx3, h⟩ := bindE h
   refine wp_seq (region_bm 11 [0, 1, 3, 7, 0, 31, 63, 127, 127, 255, 1023] [true, true, true, false, false, false, true, true, true, true, true]
       [.eq (B b1 0), .eq (B b1 0), .eq (B b1 2), .eq (.map (some b2)), .eq (.agg #[I p2, I p1]), .eq (.tuple #[I x3.1, .bool x3.2]), .eq (.tuple #[I x3.1, .bool x3.2]), .eq (I x3.1), .eq (.bool x3.2), .eq (I x3.1), .eq (.bool x3.2)]
       [(0, B b1 0), (7, B b3 0), (8, I x3.1), (9, .bool x3.2)] mix hF (by kernel_rfl) (by kernel_rfl) (by kernel_rfl) (by kernel_rfl) ⟨Pd.monoO_eq, Pd.monoO_eq, Pd.monoO_eq, trivial⟩ (fun ow hG => ⟨np_to ow (np_loadBox hG hF ty81 rfl rfl (hs.bx 1 rfl) rfl rfl rfl), np_to ow (np_loadBoxS hG hF ty59 rfl rfl (hs.bx 0 rfl) rfl rfl rfl rfl), np_to ow (np_mapGet2 map81 3 hs rfl Try.underlying81 hG hF rfl (u := (D.Gate.mk p2 p1)) rfl rfl rfl (fun hg => mget2?_fit hx3) (r := x3) (fun hg => mget2?_val hx3) rfl rfl), trivial⟩) (by kernel_rfl) fun ow fr w8 hF hE hc => ?_)
   have hs := hs.ext hc
   have hM0 := hM0.ext hc
   refine from_end rfl (then_normal ?_)
   refine wp_seq (wp_pure [(0, B b1 0), (7, B b3 0), (8, I x3.1), (57, .bool x3.2)] hF (by kernel_rfl) fun fr hF => then_normal ?_)
   refine (wp_if hF (b := x3.2) rfl (fun hb => ?_) (fun hb => ?_))
   · replace h := iteT hb h
     have hs : Sep [BX b1 83 [I p0.c.Inputs, L pa0 p0.c.Gates pc0, .map (some b2), .bool p0.full], sl59 (L pa0 p0.c.Gates pc0) p0.c.Gates, MP map81 b2 p0.line] w8 S3 := Sep.pick [1, 2, 3] hs (by decide) rfl
     refine wp_seq (wp_pure [(6, I x3.1)] hF (by kernel_rfl) fun fr hF => then_normal ?_)
     obtain rfl := Option.some.inj h
     exact wp_ret (then_ret (ret1 rfl hF rfl ⟨_, rfl, pa0, pc0, rfl, S3, hM0.out, hs⟩))
   replace h := iteF hb h
   refine (wp_skip (then_normal ?_))
   refine wp_seq ?_
   refine wp_seq (wp_text' ?_)
   refine from_pure 4 [(0, B b1 0), (7, B b3 0), (62, B b1 1)] hF (by kernel_rfl) fun fr hF => ?_
   refine s_loadBox (L pa0 p0.c.Gates pc0) ty26 rfl rfl hF rfl (hs.bx 1 rfl) rfl rfl fun fr hF => ?_
   refine from_pure 2 [(0, B b1 0), (7, B b3 0), (65, .bool (decide ((len p0.c.Gates) ≥ 360)))] hF (by kernel_rfl) fun fr hF => ?_
   refine from_end rfl (then_normal ?_)
   refine (wp_if hF (b := (decide ((len p0.c.Gates) ≥ 360))) rfl (fun hb => ?_) (fun hb => ?_))
   · replace h := iteT hb h
     have hs : Sep [BX b1 83 [I p0.c.Inputs, L pa0 p0.c.Gates pc0, .map (some b2), .bool p0.full], sl59 (L pa0 p0.c.Gates pc0) p0.c.Gates, MP map81 b2 p0.line] w8 S3 := Sep.pick [1, 2, 3] hs (by decide) rfl
     refine wp_seq (wp_text' ?_)
     refine from_pure 3 [(68, B b1 3)] hF (by kernel_rfl) fun fr hF => ?_
     refine q_storeBox 0 hs hM0 rfl [I p0.c.Inputs, L pa0 p0.c.Gates pc0, .map (some b2), .bool true] rfl hF rfl rfl (by kernel_rfl) rfl rfl rfl fun w9 S4 hs hp hF => ?_
     have hM0 := hM0.stp hp
     have hs : Sep [BX b1 83 [I p0.c.Inputs, L pa0 p0.c.Gates pc0, .map (some b2), .bool true], sl59 (L pa0 p0.c.Gates pc0) p0.c.Gates, MP map81 b2 p0.line] w9 S4 := hs
     refine from_end rfl (then_normal ?_)
     refine wp_seq (wp_pure [(6, I (-1))] hF (by kernel_rfl) fun fr hF => then_normal ?_)
     obtain rfl := Option.some.inj h
     exact wp_ret (then_ret (ret1 rfl hF rfl ⟨_, rfl, pa0, pc0, rfl, S4, hM0.out, hs⟩))
   replace h := iteF hb h
   refine (wp_skip (then_normal ?_))
   refine wp_seq (region_bf 8 0 [0, 0, 2, 6, 14, 30, 0, 64, 254, 511, 1023, 2047, 4095] [true, true, true, true, true, false, false, false]
       [.eq (B b1 0), .eq (B b1 0), .eq (B b1 0), .eq (B b1 0), .eq (B b1 1), .eq (L pa0 p0.c.Gates pc0), .eq (.agg #[I p2, I p1]), .own fun ow v w => ∃ i : Option Addr × Nat, v = L i.1 ([(D.Gate.mk p2 p1)] : List D.Gate) i.2 ∧ (sl59 (L i.1 ([(D.Gate.mk p2 p1)] : List D.Gate) i.2) ([(D.Gate.mk p2 p1)] : List D.Gate)).ok w (fun k => w8.heap.size ≤ k ∧ k < w.heap.size ∧ ow k = 7), .any, .any, .any, .any, .any]
       [(0, B b1 0), (7, B b3 0), (69, B b1 0), (74, L pa0 p0.c.Gates pc0)] mix hF (by kernel_rfl) (fun _ _ _ _ _ h => h) (by kernel_rfl) (by kernel_rfl) (by kernel_rfl) ⟨Pd.monoO_eq, Pd.monoO_eq, mono_new, trivial⟩ (fun ow hG => ⟨np_to ow (np_loadBox hG hF ty26 rfl rfl (hs.bx 1 rfl) rfl rfl rfl), np_to ow (np_loadBoxS hG hF ty59 rfl rfl (hs.bx 0 rfl) rfl rfl rfl rfl), np_lit (E := 59) [I p2, I p1] (([(D.Gate.mk p2 p1)] : List D.Gate).map Flat.enc) ([(D.Gate.mk p2 p1)] : List D.Gate) hG hF rfl [.agg #[I p2, I p1]] rfl (fun w => by kernel_rfl) (fun w => css_flat _) rfl rfl rfl rfl, trivial⟩) (by kernel_rfl) fun ow fr w10 hF hE hc => ?_)
   obtain ⟨⟨a1, c1⟩, hv, hnw7⟩ := hE.is 76 7 rfl rfl
   have hF := hF.cons hv
   have hsN := sepO (w0 := w8) (ow := ow) [(7, sl59 (L a1 ([(D.Gate.mk p2 p1)] : List D.Gate) c1) ([(D.Gate.mk p2 p1)] : List D.Gate))] (show ([7] : List Nat).Nodup by decide) ⟨hnw7, trivial⟩ rfl
   obtain ⟨S5, hp, hs⟩ := hs.got hM0 (stp_new hc) hsN
   have hM0 := hM0.stp hp
   have hs : Sep [sl59 (L a1 ([(D.Gate.mk p2 p1)] : List D.Gate) c1) ([(D.Gate.mk p2 p1)] : List D.Gate), BX b3 59 [I p2, I p1], BX b1 83 [I p0.c.Inputs, L pa0 p0.c.Gates pc0, .map (some b2), .bool p0.full], sl59 (L pa0 p0.c.Gates pc0) p0.c.Gates, MP map81 b2 p0.line] w10 S5 := hs
   obtain ⟨x4, hx4, h⟩ := bindE h
   refine q_append 3 hs hM0 rfl Try.underlying26 el59 rfl rfl rfl hF rfl rfl (hs.rv 0 rfl) hx4 fun a2 c2 w11 S6 fr hs hp hF => ?_
   have hM0 := hM0.stp hp
   have hs : Sep [sl59 (L a1 ([(D.Gate.mk p2 p1)] : List D.Gate) c1) ([(D.Gate.mk p2 p1)] : List D.Gate), BX b3 59 [I p2, I p1], BX b1 83 [I p0.c.Inputs, L pa0 p0.c.Gates pc0, .map (some b2), .bool p0.full], sl59 (L a2 x4 c2) x4, MP map81 b2 p0.line] w11 S6 := hs
   have hs : Sep [BX b3 59 [I p2, I p1], BX b1 83 [I p0.c.Inputs, L pa0 p0.c.Gates pc0, .map (some b2), .bool p0.full], sl59 (L a2 x4 c2) x4, MP map81 b2 p0.line] w11 S6 := Sep.pick [1, 2, 3, 4] hs (by decide) rfl
   refine from_pure 3 [(0, B b1 0), (7, B b3 0), (77, L a2 x4 c2), (80, B b1 1)] hF (by kernel_rfl) fun fr hF => ?_
   refine q_storeBox 1 hs hM0 rfl [I p0.c.Inputs, L a2 x4 c2, .map (some b2), .bool p0.full] rfl hF rfl rfl (by kernel_rfl) rfl rfl rfl fun w12 S7 hs hp hF => ?_
   have hM0 := hM0.stp hp
   have hs : Sep [BX b3 59 [I p2, I p1], BX b1 83 [I p0.c.Inputs, L a2 x4 c2, .map (some b2), .bool p0.full], sl59 (L a2 x4 c2) x4, MP map81 b2 p0.line] w12 S7 := hs
   refine from_end rfl (then_normal ?_)
   refine wp_seq (wp_text' ?_)
   refine from_pure 3 [(0, B b1 0), (7, B b3 0), (83, B b1 0)] hF (by kernel_rfl) fun fr hF => ?_
   refine s_loadPart [I p0.c.Inputs, L a2 x4 c2] ty28 rfl rfl hF rfl (hs.bx 1 rfl) rfl rfl rfl fun fr hF => ?_
   obtain ⟨x5, hx5, h⟩ := bindE h
   refine s_call [.agg #[I p0.c.Inputs, L a2 x4 c2]] Try.call65 rfl rfl hF rfl (impl_linesOf_ok (D.Circuit.mk p0.c.Inputs x4) hx5 (RV.mk_Circuit (D.Circuit.mk p0.c.Inputs x4) (RV.any (hs.rv 2 rfl)))) fun v w13 fr hRes hF => ?_
   obtain ⟨rfl, hc⟩ := hRes
   have hs := hs.ext hc
   have hM0 := hM0.ext hc
   refine from_pure 1 [(0, B b1 0), (7, B b3 0), (10, I x5)] hF (by kernel_rfl) fun fr hF => ?_
   refine from_end rfl (then_normal ?_)
   refine wp_seq (region_bm 6 [0, 1, 3, 7, 0, 0, 63] [true, true, true, false, false, true]
       [.eq (B b1 0), .eq (B b1 0), .eq (B b1 2), .eq (.map (some b2)), .eq (.agg #[I p2, I p1]), .eq (I x5), .any]
       [(10, I x5), (89, .map (some b2)), (90, .agg #[I p2, I p1]), (91, I x5)] mix hF (by kernel_rfl) (by kernel_rfl) (by kernel_rfl) (by kernel_rfl) ⟨Pd.monoO_eq, Pd.monoO_eq, trivial⟩ (fun ow hG => ⟨np_to ow (np_loadBox hG hF ty81 rfl rfl (hs.bx 1 rfl) rfl rfl rfl), np_to ow (np_loadBoxS hG hF ty59 rfl rfl (hs.bx 0 rfl) rfl rfl rfl rfl), trivial⟩) (by kernel_rfl) fun ow fr w14 hF hE hc => ?_)
   have hs := hs.ext hc
   have hM0 := hM0.ext hc
   have hs : Sep [BX b1 83 [I p0.c.Inputs, L a2 x4 c2, .map (some b2), .bool p0.full], sl59 (L a2 x4 c2) x4, MP map81 b2 p0.line] w14 S7 := Sep.pick [1, 2, 3] hs (by decide) rfl
   obtain ⟨x6, hx6, h⟩ := bindE h
   refine q_mapPut map81 2 hs hM0 rfl Try.underlying81 rfl hF (u := (D.Gate.mk p2 p1)) (mputE?_fit hx6) x5 (mputE?_efit hx6) (mputE?_len hx6) rfl rfl rfl rfl rfl fun w15 S8 hs hp hF => ?_
   have hM0 := hM0.stp hp
   have hs : Sep [BX b1 83 [I p0.c.Inputs, L a2 x4 c2, .map (some b2), .bool p0.full], sl59 (L a2 x4 c2) x4, MP map81 b2 x6] w15 S8 := by rw [mputE?_val hx6]; exact hs
   refine from_end rfl (then_normal ?_)
   refine wp_seq (wp_pure [(6, I x5)] hF (by kernel_rfl) fun fr hF => then_normal ?_)
   obtain rfl := Option.some.inj h
   exact wp_ret (ret1 rfl hF rfl ⟨_, rfl, a2, c2, rfl, S8, hM0.out, hs⟩)
 replace h := iteF hb h
 refine (wp_skip (then_normal ?_))
 refine wp_seq ?_
 obtain ⟨x7, hx7, h⟩ := bindE h
 refine wp_seq (region_bm 11 [0, 1, 3, 7, 0, 31, 63, 127, 127, 255, 1023] [true, true, true, false, false, false, true, true, true, true, true]
     [.eq (B b1 0), .eq (B b1 0), .eq (B b1 2), .eq (.map (some b2)), .eq (.agg #[I p1, I p2]), .eq (.tuple #[I x7.1, .bool x7.2]), .eq (.tuple #[I x7.1, .bool x7.2]), .eq (I x7.1), .eq (.bool x7.2), .eq (I x7.1), .eq (.bool x7.2)]
     [(0, B b1 0), (7, B b3 0), (8, I x7.1), (9, .bool x7.2)] mix hF (by kernel_rfl) (by kernel_rfl) (by kernel_rfl) (by kernel_rfl) ⟨Pd.monoO_eq, Pd.monoO_eq, Pd.monoO_eq, trivial⟩ (fun ow hG => ⟨np_to ow (np_loadBox hG hF ty81 rfl rfl (hs.bx 1 rfl) rfl rfl rfl), np_to ow (np_loadBoxS hG hF ty59 rfl rfl (hs.bx 0 rfl) rfl rfl rfl rfl), np_to ow (np_mapGet2 map81 3 hs rfl Try.underlying81 hG hF rfl (u := (D.Gate.mk p1 p2)) rfl rfl rfl (fun hg => mget2?_fit hx7) (r := x7) (fun hg => mget2?_val hx7) rfl rfl), trivial⟩) (by kernel_rfl) fun ow fr w16 hF hE hc => ?_)
 have hs := hs.ext hc
 have hM0 := hM0.ext hc
 refine from_end rfl (then_normal ?_)
 refine wp_seq (wp_pure [(0, B b1 0), (7, B b3 0), (8, I x7.1), (57, .bool x7.2)] hF (by kernel_rfl) fun fr hF => then_normal ?_)
 refine (wp_if hF (b := x7.2) rfl (fun hb => ?_) (fun hb => ?_))
 · replace h := iteT hb h
   have hs : Sep [BX b1 83 [I p0.c.Inputs, L pa0 p0.c.Gates pc0, .map (some b2), .bool p0.full], sl59 (L pa0 p0.c.Gates pc0) p0.c.Gates, MP map81 b2 p0.line] w16 S2 := Sep.pick [1, 2, 3] hs (by decide) rfl
   refine wp_seq (wp_pure [(6, I x7.1)] hF (by kernel_rfl) fun fr hF => then_normal ?_)
   obtain rfl := Option.some.inj h
   exact wp_ret (then_ret (ret1 rfl hF rfl ⟨_, rfl, pa0, pc0, rfl, S2, hM0.out, hs⟩))
 replace h := iteF hb h
 refine (wp_skip (then_normal ?_))
 refine wp_seq ?_
 refine wp_seq (wp_text' ?_)
 refine from_pure 4 [(0, B b1 0), (7, B b3 0), (62, B b1 1)] hF (by kernel_rfl) fun fr hF => ?_
 refine s_loadBox (L pa0 p0.c.Gates pc0) ty26 rfl rfl hF rfl (hs.bx 1 rfl) rfl rfl fun fr hF => ?_
 refine from_pure 2 [(0, B b1 0), (7, B b3 0), (65, .bool (decide ((len p0.c.Gates) ≥ 360)))] hF (by kernel_rfl) fun fr hF => ?_
 refine from_end rfl (then_normal ?_)
 refine (wp_if hF (b := (decide ((len p0.c.Gates) ≥ 360))) rfl (fun hb => ?_) (fun hb => ?_))
 · replace h := iteT hb h
   have hs : Sep [BX b1 83 [I p0.c.Inputs, L pa0 p0.c.Gates pc0, .map (some b2), .bool p0.full], sl59 (L pa0 p0.c.Gates pc0) p0.c.Gates, MP map81 b2 p0.line] w16 S2 := Sep.pick [1, 2, 3] hs (by decide) rfl
   refine wp_seq (wp_text' ?_)
   refine from_pure 3 [(68, B b1 3)] hF (by kernel_rfl) fun fr hF => ?_
   refine q_storeBox 0 hs hM0 rfl [I p0.c.Inputs, L pa0 p0.c.Gates pc0, .map (some b2), .bool true] rfl hF rfl rfl (by kernel_rfl) rfl rfl rfl fun w17 S9 hs hp hF => ?_
   have hM0 := hM0.stp hp
   have hs : Sep [BX b1 83 [I p0.c.Inputs, L pa0 p0.c.Gates pc0, .map (some b2), .bool true], sl59 (L pa0 p0.c.Gates pc0) p0.c.Gates, MP map81 b2 p0.line] w17 S9 := hs
   refine from_end rfl (then_normal ?_)
   refine wp_seq (wp_pure [(6, I (-1))] hF (by kernel_rfl) fun fr hF => then_normal ?_)
   obtain rfl := Option.some.inj h
   exact wp_ret (then_ret (ret1 rfl hF rfl ⟨_, rfl, pa0, pc0, rfl, S9, hM0.out, hs⟩))
 replace h := iteF hb h
 refine (wp_skip (then_normal ?_))
 refine wp_seq (region_bf 8 0 [0, 0, 2, 6, 14, 30, 0, 64, 254, 511, 1023, 2047, 4095] [true, true, true, true, true, false, false, false]
     [.eq (B b1 0), .eq (B b1 0), .eq (B b1 0), .eq (B b1 0), .eq (B b1 1), .eq (L pa0 p0.c.Gates pc0), .eq (.agg #[I p1, I p2]), .own fun ow v w => ∃ i : Option Addr × Nat, v = L i.1 ([(D.Gate.mk p1 p2)] : List D.Gate) i.2 ∧ (sl59 (L i.1 ([(D.Gate.mk p1 p2)] : List D.Gate) i.2) ([(D.Gate.mk p1 p2)] : List D.Gate)).ok w (fun k => w16.heap.size ≤ k ∧ k < w.heap.size ∧ ow k = 7), .any, .any, .any, .any, .any]
     [(0, B b1 0), (7, B b3 0), (69, B b1 0), (74, L pa0 p0.c.Gates pc0)] mix hF (by kernel_rfl) (fun _ _ _ _ _ h => h) (by kernel_rfl) (by kernel_rfl) (by kernel_rfl) ⟨Pd.monoO_eq, Pd.monoO_eq, mono_new, trivial⟩ (fun ow hG => ⟨np_to ow (np_loadBox hG hF ty26 rfl rfl (hs.bx 1 rfl) rfl rfl rfl), np_to ow (np_loadBoxS hG hF ty59 rfl rfl (hs.bx 0 rfl) rfl rfl rfl rfl), np_lit (E := 59) [I p1, I p2] (([(D.Gate.mk p1 p2)] : List D.Gate).map Flat.enc) ([(D.Gate.mk p1 p2)] : List D.Gate) hG hF rfl [.agg #[I p1, I p2]] rfl (fun w => by kernel_rfl) (fun w => css_flat _) rfl rfl rfl rfl, trivial⟩) (by kernel_rfl) fun ow fr w18 hF hE hc => ?_)
 obtain ⟨⟨a3, c3⟩, hv, hnw7⟩ := hE.is 76 7 rfl rfl
 have hF := hF.cons hv
 have hsN := sepO (w0 := w16) (ow := ow) [(7, sl59 (L a3 ([(D.Gate.mk p1 p2)] : List D.Gate) c3) ([(D.Gate.mk p1 p2)] : List D.Gate))] (show ([7] : List Nat).Nodup by decide) ⟨hnw7, trivial⟩ rfl
 obtain ⟨S10, hp, hs⟩ := hs.got hM0 (stp_new hc) hsN
 have hM0 := hM0.stp hp
 have hs : Sep [sl59 (L a3 ([(D.Gate.mk p1 p2)] : List D.Gate) c3) ([(D.Gate.mk p1 p2)] : List D.Gate), BX b3 59 [I p1, I p2], BX b1 83 [I p0.c.Inputs, L pa0 p0.c.Gates pc0, .map (some b2), .bool p0.full], sl59 (L pa0 p0.c.Gates pc0) p0.c.Gates, MP map81 b2 p0.line] w18 S10 := hs
 obtain ⟨x8, hx8, h⟩ := bindE h
 refine q_append 3 hs hM0 rfl Try.underlying26 el59 rfl rfl rfl hF rfl rfl (hs.rv 0 rfl) hx8 fun a4 c4 w19 S11 fr hs hp hF => ?_
 have hM0 := hM0.stp hp
 have hs : Sep [sl59 (L a3 ([(D.Gate.mk p1 p2)] : List D.Gate) c3) ([(D.Gate.mk p1 p2)] : List D.Gate), BX b3 59 [I p1, I p2], BX b1 83 [I p0.c.Inputs, L pa0 p0.c.Gates pc0, .map (some b2), .bool p0.full], sl59 (L a4 x8 c4) x8, MP map81 b2 p0.line] w19 S11 := hs
 have hs : Sep [BX b3 59 [I p1, I p2], BX b1 83 [I p0.c.Inputs, L pa0 p0.c.Gates pc0, .map (some b2), .bool p0.full], sl59 (L a4 x8 c4) x8, MP map81 b2 p0.line] w19 S11 := Sep.pick [1, 2, 3, 4] hs (by decide) rfl
 refine from_pure 3 [(0, B b1 0), (7, B b3 0), (77, L a4 x8 c4), (80, B b1 1)] hF (by kernel_rfl) fun fr hF => ?_
 refine q_storeBox 1 hs hM0 rfl [I p0.c.Inputs, L a4 x8 c4, .map (some b2), .bool p0.full] rfl hF rfl rfl (by kernel_rfl) rfl rfl rfl fun w20 S12 hs hp hF => ?_
 have hM0 := hM0.stp hp
 have hs : Sep [BX b3 59 [I p1, I p2], BX b1 83 [I p0.c.Inputs, L a4 x8 c4, .map (some b2), .bool p0.full], sl59 (L a4 x8 c4) x8, MP map81 b2 p0.line] w20 S12 := hs
 refine from_end rfl (then_normal ?_)
 refine wp_seq (wp_text' ?_)
 refine from_pure 3 [(0, B b1 0), (7, B b3 0), (83, B b1 0)] hF (by kernel_rfl) fun fr hF => ?_
 refine s_loadPart [I p0.c.Inputs, L a4 x8 c4] ty28 rfl rfl hF rfl (hs.bx 1 rfl) rfl rfl rfl fun fr hF => ?_
 obtain ⟨x9, hx9, h⟩ := bindE h
 refine s_call [.agg #[I p0.c.Inputs, L a4 x8 c4]] Try.call65 rfl rfl hF rfl (impl_linesOf_ok (D.Circuit.mk p0.c.Inputs x8) hx9 (RV.mk_Circuit (D.Circuit.mk p0.c.Inputs x8) (RV.any (hs.rv 2 rfl)))) fun v w21 fr hRes hF => ?_
 obtain ⟨rfl, hc⟩ := hRes
 have hs := hs.ext hc
 have hM0 := hM0.ext hc
 refine from_pure 1 [(0, B b1 0), (7, B b3 0), (10, I x9)] hF (by kernel_rfl) fun fr hF => ?_
 refine from_end rfl (then_normal ?_)
 refine wp_seq (region_bm 6 [0, 1, 3, 7, 0, 0, 63] [true, true, true, false, false, true]
     [.eq (B b1 0), .eq (B b1 0), .eq (B b1 2), .eq (.map (some b2)), .eq (.agg #[I p1, I p2]), .eq (I x9), .any]
     [(10, I x9), (89, .map (some b2)), (90, .agg #[I p1, I p2]), (91, I x9)] mix hF (by kernel_rfl) (by kernel_rfl) (by kernel_rfl) (by kernel_rfl) ⟨Pd.monoO_eq, Pd.monoO_eq, trivial⟩ (fun ow hG => ⟨np_to ow (np_loadBox hG hF ty81 rfl rfl (hs.bx 1 rfl) rfl rfl rfl), np_to ow (np_loadBoxS hG hF ty59 rfl rfl (hs.bx 0 rfl) rfl rfl rfl rfl), trivial⟩) (by kernel_rfl) fun ow fr w22 hF hE hc => ?_)
 have hs := hs.ext hc
 have hM0 := hM0.ext hc
 have hs : Sep [BX b1 83 [I p0.c.Inputs, L a4 x8 c4, .map (some b2), .bool p0.full], sl59 (L a4 x8 c4) x8, MP map81 b2 p0.line] w22 S12 := Sep.pick [1, 2, 3] hs (by decide) rfl
 obtain ⟨x10, hx10, h⟩ := bindE h
 refine q_mapPut map81 2 hs hM0 rfl Try.underlying81 rfl hF (u := (D.Gate.mk p1 p2)) (mputE?_fit hx10) x9 (mputE?_efit hx10) (mputE?_len hx10) rfl rfl rfl rfl rfl fun w23 S13 hs hp hF => ?_
 have hM0 := hM0.stp hp
 have hs : Sep [BX b1 83 [I p0.c.Inputs, L a4 x8 c4, .map (some b2), .bool p0.full], sl59 (L a4 x8 c4) x8, MP map81 b2 x10] w23 S13 := by rw [mputE?_val hx10]; exact hs
 refine from_end rfl (then_normal ?_)
 refine wp_seq (wp_pure [(6, I x9)] hF (by kernel_rfl) fun fr hF => then_normal ?_)
 obtain rfl := Option.some.inj h
 exact wp_ret (ret1 rfl hF rfl ⟨_, rfl, a4, c4, rfl, S13, hM0.out, hs⟩)

theorem impl_builder_or_ok (p0 : D.builder) (p1 : Int) (p2 : Int) {r : Int × D.builder} (h : impl_builder_or p0 p1 p2 = some r) {w : World} {S0 F0 : Nat → Prop} {pa0 : Option Addr} {pn0 pc0 : Nat} {b1 : Nat} {b2 : Nat} (hs : Sep [BX b1 83 [I p0.c.Inputs, .slice pa0 pn0 pc0, .map (some b2), .bool p0.full], sl59 (.slice pa0 pn0 pc0) p0.c.Gates, MP map81 b2 p0.line] w S0) (hb : ∀ k, S0 k → k < w.heap.size) (hd : ∀ k, S0 k → F0 k → False) :
   Calls Try.prog 57 [B b1 0, I p1, I p2].toArray w fun e w' => ∃ v, e = .returned v ∧ ∃ a1 c1, v = I r.1 ∧ ∃ S', Stp w S0 w' S' ∧ Sep [BX b1 83 [I r.2.c.Inputs, L a1 r.2.c.Gates c1, .map (some b2), .bool r.2.full], sl59 (L a1 r.2.c.Gates c1) r.2.c.Gates, MP map81 b2 r.2.line] w' S' := by
 unfold impl_builder_or at h
 obtain ⟨hpn, hs⟩ := hs.relen 1 rfl
 subst hpn
 have hs : Sep [BX b1 83 [I p0.c.Inputs, L pa0 p0.c.Gates pc0, .map (some b2), .bool p0.full], sl59 (L pa0 p0.c.Gates pc0) p0.c.Gates, MP map81 b2 p0.line] w S0 := hs
 have hM0 : Mem w S0 (fun k => F0 k ∧ k < w.heap.size) w S0 (fun k => F0 k ∧ k < w.heap.size) := Mem.start hb (fun _ h => h.2) (fun k h1 h2 => hd k h1 h2.1)
 refine enter (N := 14) Try.func57 rfl Try.ntmps57 rfl fun fr hF => ?_
 refine wp_seq (wp_pure [(0, B b1 0), (1, I p1), (2, I p2)] hF (by kernel_rfl) fun fr hF => then_normal ?_)
 refine wp_seq (wp_text' ?_)
 refine from_pure 5 [(7, B b1 0), (9, I (w64 (0 - p1))), (11, I (w64 (0 - p2)))] hF (by kernel_rfl) fun fr hF => ?_
 obtain ⟨x1, hx1, h⟩ := bindE h
 obtain ⟨A1, R1, hsA, hsR, hdA, hbA, hup⟩ := Sep.call (L1 := [BX b1 83 [I p0.c.Inputs, L pa0 p0.c.Gates pc0, .map (some b2), .bool p0.full], sl59 (L pa0 p0.c.Gates pc0) p0.c.Gates, MP map81 b2 p0.line]) (L2 := []) hs hM0
 refine s_call [B b1 0, I (w64 (0 - p1)), I (w64 (0 - p2))] Try.call51 rfl rfl hF rfl (impl_builder_and_ok p0 (w64 (0 - p1)) (w64 (0 - p2)) hx1 hsA hbA hdA) fun v w1 fr hRes hF => ?_
 obtain ⟨a1, c1, rfl, _, hp, hs⟩ := hRes
 obtain ⟨S1, hp, hs⟩ := hup hp hs
 have hM0 := hM0.stp hp
 have hs : Sep [BX b1 83 [I x1.2.c.Inputs, L a1 x1.2.c.Gates c1, .map (some b2), .bool x1.2.full], sl59 (L a1 x1.2.c.Gates c1) x1.2.c.Gates, MP map81 b2 x1.2.line] w1 S1 := hs
 refine from_pure 2 [(6, I (w64 (0 - x1.1)))] hF (by kernel_rfl) fun fr hF => ?_
 refine from_end rfl (then_normal ?_)
 obtain rfl := Option.some.inj h
 exact wp_ret (ret1 rfl hF rfl ⟨_, rfl, a1, c1, rfl, S1, hM0.out, hs⟩)

theorem impl_builder_xor_ok (p0 : D.builder) (p1 : Int) (p2 : Int) {r : Int × D.builder} (h : impl_builder_xor p0 p1 p2 = some r) {w : World} {S0 F0 : Nat → Prop} {pa0 : Option Addr} {pn0 pc0 : Nat} {b1 : Nat} {b2 : Nat} (hs : Sep [BX b1 83 [I p0.c.Inputs, .slice pa0 pn0 pc0, .map (some b2), .bool p0.full], sl59 (.slice pa0 pn0 pc0) p0.c.Gates, MP map81 b2 p0.line] w S0) (hb : ∀ k, S0 k → k < w.heap.size) (hd : ∀ k, S0 k → F0 k → False) :
   Calls Try.prog 60 [B b1 0, I p1, I p2].toArray w fun e w' => ∃ v, e = .returned v ∧ ∃ a1 c1, v = I r.1 ∧ ∃ S', Stp w S0 w' S' ∧ Sep [BX b1 83 [I r.2.c.Inputs, L a1 r.2.c.Gates c1, .map (some b2), .bool r.2.full], sl59 (L a1 r.2.c.Gates c1) r.2.c.Gates, MP map81 b2 r.2.line] w' S' := by
 unfold impl_builder_xor at h
 obtain ⟨hpn, hs⟩ := hs.relen 1 rfl
 subst hpn
 have hs : Sep [BX b1 83 [I p0.c.Inputs, L pa0 p0.c.Gates pc0, .map (some b2), .bool p0.full], sl59 (L pa0 p0.c.Gates pc0) p0.c.Gates, MP map81 b2 p0.line] w S0 := hs
 have hM0 : Mem w S0 (fun k => F0 k ∧ k < w.heap.size) w S0 (fun k => F0 k ∧ k < w.heap.size) := Mem.start hb (fun _ h => h.2) (fun k h1 h2 => hd k h1 h2.1)
 refine enter (N := 23) Try.func60 rfl Try.ntmps60 rfl fun fr hF => ?_
 refine wp_seq (wp_pure [(0, B b1 0), (1, I p1), (2, I p2)] hF (by kernel_rfl) fun fr hF => then_normal ?_)
 refine wp_seq (wp_text' ?_)
 refine from_pure 4 [(0, B b1 0), (1, I p1), (2, I p2), (9, B b1 0), (10, I p1), (12, I (w64 (0 - p2)))] hF (by kernel_rfl) fun fr hF => ?_
 obtain ⟨x1, hx1, h⟩ := bindE h
 obtain ⟨A1, R1, hsA, hsR, hdA, hbA, hup⟩ := Sep.call (L1 := [BX b1 83 [I p0.c.Inputs, L pa0 p0.c.Gates pc0, .map (some b2), .bool p0.full], sl59 (L pa0 p0.c.Gates pc0) p0.c.Gates, MP map81 b2 p0.line]) (L2 := []) hs hM0
 refine s_call [B b1 0, I p1, I (w64 (0 - p2))] Try.call51 rfl rfl hF rfl (impl_builder_and_ok p0 p1 (w64 (0 - p2)) hx1 hsA hbA hdA) fun v w1 fr hRes hF => ?_
 obtain ⟨a1, c1, rfl, _, hp, hs⟩ := hRes
 obtain ⟨S1, hp, hs⟩ := hup hp hs
 have hM0 := hM0.stp hp
 have hs : Sep [BX b1 83 [I x1.2.c.Inputs, L a1 x1.2.c.Gates c1, .map (some b2), .bool x1.2.full], sl59 (L a1 x1.2.c.Gates c1) x1.2.c.Gates, MP map81 b2 x1.2.line] w1 S1 := hs
 refine from_pure 1 [(0, B b1 0), (1, I p1), (2, I p2), (7, I x1.1)] hF (by kernel_rfl) fun fr hF => ?_
 refine from_end rfl (then_normal ?_)
 refine wp_seq (wp_text' ?_)
 refine from_pure 4 [(0, B b1 0), (7, I x1.1), (14, B b1 0), (16, I (w64 (0 - p1))), (17, I p2)] hF (by kernel_rfl) fun fr hF => ?_
 obtain ⟨x2, hx2, h⟩ := bindE h
 obtain ⟨A2, R2, hsA, hsR, hdA, hbA, hup⟩ := Sep.call (L1 := [BX b1 83 [I x1.2.c.Inputs, L a1 x1.2.c.Gates c1, .map (some b2), .bool x1.2.full], sl59 (L a1 x1.2.c.Gates c1) x1.2.c.Gates, MP map81 b2 x1.2.line]) (L2 := []) hs hM0
 refine s_call [B b1 0, I (w64 (0 - p1)), I p2] Try.call51 rfl rfl hF rfl (impl_builder_and_ok x1.2 (w64 (0 - p1)) p2 hx2 hsA hbA hdA) fun v w2 fr hRes hF => ?_
 obtain ⟨a2, c2, rfl, _, hp, hs⟩ := hRes
 obtain ⟨S2, hp, hs⟩ := hup hp hs
 have hM0 := hM0.stp hp
 have hs : Sep [BX b1 83 [I x2.2.c.Inputs, L a2 x2.2.c.Gates c2, .map (some b2), .bool x2.2.full], sl59 (L a2 x2.2.c.Gates c2) x2.2.c.Gates, MP map81 b2 x2.2.line] w2 S2 := hs
 refine from_pure 1 [(0, B b1 0), (7, I x1.1), (8, I x2.1)] hF (by kernel_rfl) fun fr hF => ?_
 refine from_end rfl (then_normal ?_)
 refine wp_seq (wp_text' ?_)
 refine from_pure 3 [(19, B b1 0), (20, I x1.1), (21, I x2.1)] hF (by kernel_rfl) fun fr hF => ?_
 obtain ⟨x3, hx3, h⟩ := bindE h
 obtain ⟨A3, R3, hsA, hsR, hdA, hbA, hup⟩ := Sep.call (L1 := [BX b1 83 [I x2.2.c.Inputs, L a2 x2.2.c.Gates c2, .map (some b2), .bool x2.2.full], sl59 (L a2 x2.2.c.Gates c2) x2.2.c.Gates, MP map81 b2 x2.2.line]) (L2 := []) hs hM0
 refine s_call [B b1 0, I x1.1, I x2.1] Try.call57 rfl rfl hF rfl (impl_builder_or_ok x2.2 x1.1 x2.1 hx3 hsA hbA hdA) fun v w3 fr hRes hF => ?_
 obtain ⟨a3, c3, rfl, _, hp, hs⟩ := hRes
 obtain ⟨S3, hp, hs⟩ := hup hp hs
 have hM0 := hM0.stp hp
 have hs : Sep [BX b1 83 [I x3.2.c.Inputs, L a3 x3.2.c.Gates c3, .map (some b2), .bool x3.2.full], sl59 (L a3 x3.2.c.Gates c3) x3.2.c.Gates, MP map81 b2 x3.2.line] w3 S3 := hs
 refine from_pure 1 [(6, I x3.1)] hF (by kernel_rfl) fun fr hF => ?_
 refine from_end rfl (then_normal ?_)
 obtain rfl := Option.some.inj h
 exact wp_ret (ret1 rfl hF rfl ⟨_, rfl, a3, c3, rfl, S3, hM0.out, hs⟩)

theorem impl_builder_add_ok (n : Nat) (p0 : D.builder) (p1 : List Int) (p2 : List Int) (p3 : Int) {r : (List Int) × Int × D.builder} (h : impl_builder_add n p0 p1 p2 p3 = some r) {w : World} {S0 F0 : Nat → Prop} {pa0 : Option Addr} {pn0 pc0 : Nat} {b1 : Nat} {b2 : Nat} (hs : Sep [BX b1 83 [I p0.c.Inputs, .slice pa0 pn0 pc0, .map (some b2), .bool p0.full], sl59 (.slice pa0 pn0 pc0) p0.c.Gates, MP map81 b2 p0.line] w S0) (hb : ∀ k, S0 k → k < w.heap.size) (hd : ∀ k, S0 k → F0 k → False) {va1 : Value} (ra1 : RV w F0 va1 p1) {va2 : Value} (ra2 : RV w F0 va2 p2) :
   Calls Try.prog 69 [B b1 0, va1, va2, I p3].toArray w fun e w' => ∃ v, e = .returned v ∧ ∃ a1 c1 a2 c2, v = .tuple #[L a1 r.1 c1, I r.2.1] ∧ ∃ S', Stp w S0 w' S' ∧ Sep [sl3 (L a1 r.1 c1) r.1, BX b1 83 [I r.2.2.c.Inputs, L a2 r.2.2.c.Gates c2, .map (some b2), .bool r.2.2.full], sl59 (L a2 r.2.2.c.Gates c2) r.2.2.c.Gates, MP map81 b2 r.2.2.line] w' S' := by
 unfold impl_builder_add at h
 obtain ⟨hpn, hs⟩ := hs.relen 1 rfl
 subst hpn
 have hs : Sep [BX b1 83 [I p0.c.Inputs, L pa0 p0.c.Gates pc0, .map (some b2), .bool p0.full], sl59 (L pa0 p0.c.Gates pc0) p0.c.Gates, MP map81 b2 p0.line] w S0 := hs
 have hM0 : Mem w S0 (fun k => F0 k ∧ k < w.heap.size) w S0 (fun k => F0 k ∧ k < w.heap.size) := Mem.start hb (fun _ h => h.2) (fun k h1 h2 => hd k h1 h2.1)
 have ra1 := ra1.sub (F' := (fun k => F0 k ∧ k < w.heap.size)) (fun k hk h => ⟨h, hk⟩)
 obtain ⟨a1, c1, rfl, -⟩ := ra1.slice
 have ra2 := ra2.sub (F' := (fun k => F0 k ∧ k < w.heap.size)) (fun k hk h => ⟨h, hk⟩)
 obtain ⟨a2, c2, rfl, -⟩ := ra2.slice
 refine enter (N := 61) Try.func69 rfl Try.ntmps69 rfl fun fr hF => ?_
 refine wp_seq (wp_pure [(0, B b1 0), (1, L a1 p1 c1), (2, L a2 p2 c2), (3, I p3)] hF (by kernel_rfl) fun fr hF => then_normal ?_)
 refine wp_seq (wp_text' ?_)
 refine from_pure 2 [(0, B b1 0), (1, L a1 p1 c1), (2, L a2 p2 c2), (3, I p3), (16, I (len p1))] hF (by kernel_rfl) fun fr hF => ?_
 obtain ⟨x1, hx1, h⟩ := bindE h
 refine q_make hs hM0 Try.underlying37 el3 (zero_flat _ (by kernel_rfl)) rfl rfl hF rfl rfl hx1 fun a3 c3 w1 S1 fr hs hp hF => ?_
 have ra1 := ra1.stp hM0 hp
 have ra2 := ra2.stp hM0 hp
 have hM0 := hM0.stp hp
 have hs : Sep [sl3 (L a3 x1 c3) x1, BX b1 83 [I p0.c.Inputs, L pa0 p0.c.Gates pc0, .map (some b2), .bool p0.full], sl59 (L pa0 p0.c.Gates pc0) p0.c.Gates, MP map81 b2 p0.line] w1 S1 := hs
 refine from_pure 1 [(0, B b1 0), (1, L a1 p1 c1), (2, L a2 p2 c2), (3, I p3), (10, L a3 x1 c3)] hF (by kernel_rfl) fun fr hF => ?_
 refine from_end rfl (then_normal ?_)
 refine wp_seq ?_
 refine wp_seq (wp_pure [(0, B b1 0), (1, L a1 p1 c1), (2, L a2 p2 c2), (3, I p3), (10, L a3 x1 c3), (19, I (len p1)), (20, I 0)] hF (by kernel_rfl) fun fr hF => then_normal ?_)
 obtain ⟨rl1, hit1, h⟩ := bindE h
 have hk1 := h
 refine (wp_cut (M := fun fr w' => ∃ a5 c5 S3 F2, FrS 61 [(3, I rl1.1), (10, L a3 x1 c3)] fr ∧ Mem w1 S1 (fun k => F0 k ∧ k < w.heap.size) w' S3 F2 ∧ Sep [sl3 (L a3 x1 c3) rl1.2.1, BX b1 83 [I rl1.2.2.1, L a5 rl1.2.2.2.2.1 c5, .map (some b2), .bool rl1.2.2.2.1], sl59 (L a5 rl1.2.2.2.2.1 c5) rl1.2.2.2.2.1, MP map81 b2 rl1.2.2.2.2.2] w' S3) (wp_block (wp_iter (Inv := fun s1 fr w' => ∃ a4 c4 S2 F1, FrS 61 [(0, B b1 0), (1, L a1 p1 c1), (2, L a2 p2 c2), (3, I s1.1), (10, L a3 x1 c3), (19, I (len p1)), (20, I s1.2.1)] fr ∧ Mem w1 S1 (fun k => F0 k ∧ k < w.heap.size) w' S2 F1 ∧ Sep [sl3 (L a3 x1 c3) s1.2.2.1, BX b1 83 [I s1.2.2.2.1, L a4 s1.2.2.2.2.2.1 c4, .map (some b2), .bool s1.2.2.2.2.1], sl59 (L a4 s1.2.2.2.2.2.1 c4) s1.2.2.2.2.2.1, MP map81 b2 s1.2.2.2.2.2.2] w' S2) hit1 ⟨pa0, pc0, S1, _, hF.sub _ (by kernel_rfl), (Mem.start hM0.bd hM0.bdF hM0.dj), hs⟩ fun s1 q1 fr w1i hI h hr1 => ?_)) fun fr w1o hM => ?_)
 · obtain ⟨a4, c4, S2, F1, hF, hM1, hs⟩ := hI
   have ra1 := ra1.mem hM1
   have ra2 := ra2.mem hM1
   refine wp_seq (wp_pure [(0, B b1 0), (1, L a1 p1 c1), (2, L a2 p2 c2), (3, I s1.1), (10, L a3 x1 c3), (19, I (len p1)), (20, I s1.2.1), (21, .bool (decide (s1.2.1 < (len p1))))] hF (by kernel_rfl) fun fr hF => then_normal ?_)
   refine wp_seq (wp_if hF (b := (decide (s1.2.1 < (len p1)))) rfl (fun hb => ?_) (fun hb => ?_))
   · replace h := iteT hb h
     refine (wp_skip (then_normal ?_))
     refine wp_seq (wp_block ?_)
     refine wp_seq (wp_pure [(0, B b1 0), (1, L a1 p1 c1), (2, L a2 p2 c2), (3, I s1.1), (10, L a3 x1 c3), (11, I s1.2.1), (19, I (len p1)), (20, I s1.2.1)] hF (by kernel_rfl) fun fr hF => then_normal ?_)
     obtain ⟨x2, hx2, h⟩ := bindE h
     obtain ⟨x3, hx3, h⟩ := bindE h
     refine wp_seq (region_bm 9 [0, 0, 0, 6, 14, 0, 0, 96, 224, 511, 1023] [true, true, true, false, false, true, true, false, false]
         [.eq (B b1 0), .eq (L a1 p1 c1), .eq (I s1.2.1), .is fun v w => ElemP w (fun k => k < w1i.heap.size) v (x2 : Int), .eq (I x2), .eq (L a2 p2 c2), .eq (I s1.2.1), .is fun v w => ElemP w (fun k => k < w1i.heap.size) v (x3 : Int), .eq (I x3), .any, .any]
         [(0, B b1 0), (1, L a1 p1 c1), (2, L a2 p2 c2), (3, I s1.1), (10, L a3 x1 c3), (11, I s1.2.1), (19, I (len p1)), (20, I s1.2.1), (23, B b1 0), (27, I x2), (31, I x3)] mix hF (by kernel_rfl) (by kernel_rfl) (by kernel_rfl) (by kernel_rfl) ⟨(Pd.monoO_is mono_elem), Pd.monoO_eq, (Pd.monoO_is mono_elem), Pd.monoO_eq, trivial⟩ (fun ow hG => ⟨np_to ow (np_index hG hF ty3 Try.underlying37 rfl rfl (RV.sub (ra1) fun k hk _ => hk) rfl rfl (fun hg => ⟨get?_nn hx2, get?_at hx2⟩)), np_to ow (np_loadF (z := x2) (i := 3) hG hF ty3 rfl rfl rfl rfl rfl rfl rfl), np_to ow (np_index hG hF ty3 Try.underlying37 rfl rfl (RV.sub (ra2) fun k hk _ => hk) rfl rfl (fun hg => ⟨get?_nn hx3, get?_at hx3⟩)), np_to ow (np_loadF (z := x3) (i := 7) hG hF ty3 rfl rfl rfl rfl rfl rfl rfl), trivial⟩) (by kernel_rfl) fun ow fr w2 hF hE hc => ?_)
     have ra1 := ra1.ext hc
     have ra2 := ra2.ext hc
     have hs := hs.ext hc
     have hM1 := hM1.ext hc
     obtain ⟨x4, hx4, h⟩ := bindE h
     have hs : Sep [BX b1 83 [I s1.2.2.2.1, L a4 s1.2.2.2.2.2.1 c4, .map (some b2), .bool s1.2.2.2.2.1], sl59 (L a4 s1.2.2.2.2.2.1 c4) s1.2.2.2.2.2.1, MP map81 b2 s1.2.2.2.2.2.2, sl3 (L a3 x1 c3) s1.2.2.1] w2 S2 := Sep.pick [1, 2, 3, 0] hs (by decide) rfl
     obtain ⟨A1, R1, hsA, hsR, hdA, hbA, hup⟩ := Sep.call (L1 := [BX b1 83 [I s1.2.2.2.1, L a4 s1.2.2.2.2.2.1 c4, .map (some b2), .bool s1.2.2.2.2.1], sl59 (L a4 s1.2.2.2.2.2.1 c4) s1.2.2.2.2.2.1, MP map81 b2 s1.2.2.2.2.2.2]) (L2 := [sl3 (L a3 x1 c3) s1.2.2.1]) hs hM1
     refine s_call [B b1 0, I x2, I x3] Try.call60 rfl rfl hF rfl (impl_builder_xor_ok (D.builder.mk (D.Circuit.mk s1.2.2.2.1 s1.2.2.2.2.2.1) s1.2.2.2.2.2.2 s1.2.2.2.2.1) x2 x3 hx4 hsA hbA hdA) fun v w3 fr hRes hF => ?_
     obtain ⟨a6, c6, rfl, _, hp, hs⟩ := hRes
     obtain ⟨S4, hp, hs⟩ := hup hp hs
     have ra1 := ra1.stp hM1 hp
     have ra2 := ra2.stp hM1 hp
     have hM1 := hM1.stp hp
     have hs : Sep [BX b1 83 [I x4.2.c.Inputs, L a6 x4.2.c.Gates c6, .map (some b2), .bool x4.2.full], sl59 (L a6 x4.2.c.Gates c6) x4.2.c.Gates, MP map81 b2 x4.2.line, sl3 (L a3 x1 c3) s1.2.2.1] w3 S4 := hs
     refine from_pure 1 [(0, B b1 0), (1, L a1 p1 c1), (2, L a2 p2 c2), (3, I s1.1), (10, L a3 x1 c3), (11, I s1.2.1), (12, I x4.1), (19, I (len p1)), (20, I s1.2.1)] hF (by kernel_rfl) fun fr hF => ?_
     refine from_end rfl (then_normal ?_)
     refine wp_seq (wp_text' ?_)
     refine from_pure 5 [(0, B b1 0), (1, L a1 p1 c1), (2, L a2 p2 c2), (3, I s1.1), (10, L a3 x1 c3), (11, I s1.2.1), (12, I x4.1), (19, I (len p1)), (20, I s1.2.1), (33, L a3 x1 c3), (34, I s1.2.1), (35, B b1 0), (36, I x4.1), (37, I s1.1)] hF (by kernel_rfl) fun fr hF => ?_
     obtain ⟨x5, hx5, h⟩ := bindE h
     obtain ⟨A2, R2, hsA, hsR, hdA, hbA, hup⟩ := Sep.call (L1 := [BX b1 83 [I x4.2.c.Inputs, L a6 x4.2.c.Gates c6, .map (some b2), .bool x4.2.full], sl59 (L a6 x4.2.c.Gates c6) x4.2.c.Gates, MP map81 b2 x4.2.line]) (L2 := [sl3 (L a3 x1 c3) s1.2.2.1]) hs hM1
     refine s_call [B b1 0, I x4.1, I s1.1] Try.call60 rfl rfl hF rfl (impl_builder_xor_ok x4.2 x4.1 s1.1 hx5 hsA hbA hdA) fun v w4 fr hRes hF => ?_
     obtain ⟨a7, c7, rfl, _, hp, hs⟩ := hRes
     obtain ⟨S5, hp, hs⟩ := hup hp hs
     have ra1 := ra1.stp hM1 hp
     have ra2 := ra2.stp hM1 hp
     have hM1 := hM1.stp hp
     have hs : Sep [BX b1 83 [I x5.2.c.Inputs, L a7 x5.2.c.Gates c7, .map (some b2), .bool x5.2.full], sl59 (L a7 x5.2.c.Gates c7) x5.2.c.Gates, MP map81 b2 x5.2.line, sl3 (L a3 x1 c3) s1.2.2.1] w4 S5 := hs
     obtain ⟨x6, hx6, h⟩ := bindE h
     refine q_set (q := x5.1) 3 hs hM1 rfl Try.underlying37 ty3 rfl rfl rfl rfl hF rfl rfl (by simp) rfl rfl hx6 fun w5 S6 fr _ hs hp hF => ?_
     have ra1 := ra1.stp hM1 hp
     have ra2 := ra2.stp hM1 hp
     have hM1 := hM1.stp hp
     have hs : Sep [BX b1 83 [I x5.2.c.Inputs, L a7 x5.2.c.Gates c7, .map (some b2), .bool x5.2.full], sl59 (L a7 x5.2.c.Gates c7) x5.2.c.Gates, MP map81 b2 x5.2.line, sl3 (L a3 x1 c3) x6] w5 S6 := hs
     refine from_end rfl (then_normal ?_)
     obtain ⟨x7, hx7, h⟩ := bindE h
     obtain ⟨x8, hx8, h⟩ := bindE h
     refine wp_seq (region_bm 9 [0, 0, 0, 6, 14, 0, 0, 96, 224, 511, 1023] [true, true, true, false, false, true, true, false, false]
         [.eq (B b1 0), .eq (L a1 p1 c1), .eq (I s1.2.1), .is fun v w => ElemP w (fun k => k < w5.heap.size) v (x7 : Int), .eq (I x7), .eq (L a2 p2 c2), .eq (I s1.2.1), .is fun v w => ElemP w (fun k => k < w5.heap.size) v (x8 : Int), .eq (I x8), .any, .any]
         [(0, B b1 0), (1, L a1 p1 c1), (2, L a2 p2 c2), (3, I s1.1), (10, L a3 x1 c3), (12, I x4.1), (19, I (len p1)), (20, I s1.2.1), (40, B b1 0), (44, I x7), (48, I x8)] mix hF (by kernel_rfl) (by kernel_rfl) (by kernel_rfl) (by kernel_rfl) ⟨(Pd.monoO_is mono_elem), Pd.monoO_eq, (Pd.monoO_is mono_elem), Pd.monoO_eq, trivial⟩ (fun ow hG => ⟨np_to ow (np_index hG hF ty3 Try.underlying37 rfl rfl (RV.sub (ra1) fun k hk _ => hk) rfl rfl (fun hg => ⟨get?_nn hx7, get?_at hx7⟩)), np_to ow (np_loadF (z := x7) (i := 3) hG hF ty3 rfl rfl rfl rfl rfl rfl rfl), np_to ow (np_index hG hF ty3 Try.underlying37 rfl rfl (RV.sub (ra2) fun k hk _ => hk) rfl rfl (fun hg => ⟨get?_nn hx8, get?_at hx8⟩)), np_to ow (np_loadF (z := x8) (i := 7) hG hF ty3 rfl rfl rfl rfl rfl rfl rfl), trivial⟩) (by kernel_rfl) fun ow fr w6 hF hE hc => ?_)
     have ra1 := ra1.ext hc
     have ra2 := ra2.ext hc
     have hs := hs.ext hc
     have hM1 := hM1.ext hc
     obtain ⟨x9, hx9, h⟩ := bindE h
     obtain ⟨A3, R3, hsA, hsR, hdA, hbA, hup⟩ := Sep.call (L1 := [BX b1 83 [I x5.2.c.Inputs, L a7 x5.2.c.Gates c7, .map (some b2), .bool x5.2.full], sl59 (L a7 x5.2.c.Gates c7) x5.2.c.Gates, MP map81 b2 x5.2.line]) (L2 := [sl3 (L a3 x1 c3) x6]) hs hM1
     refine s_call [B b1 0, I x7, I x8] Try.call51 rfl rfl hF rfl (impl_builder_and_ok x5.2 x7 x8 hx9 hsA hbA hdA) fun v w7 fr hRes hF => ?_
     obtain ⟨a8, c8, rfl, _, hp, hs⟩ := hRes
     obtain ⟨S7, hp, hs⟩ := hup hp hs
     have ra1 := ra1.stp hM1 hp
     have ra2 := ra2.stp hM1 hp
     have hM1 := hM1.stp hp
     have hs : Sep [BX b1 83 [I x9.2.c.Inputs, L a8 x9.2.c.Gates c8, .map (some b2), .bool x9.2.full], sl59 (L a8 x9.2.c.Gates c8) x9.2.c.Gates, MP map81 b2 x9.2.line, sl3 (L a3 x1 c3) x6] w7 S7 := hs
     refine from_pure 1 [(0, B b1 0), (1, L a1 p1 c1), (2, L a2 p2 c2), (3, I s1.1), (10, L a3 x1 c3), (12, I x4.1), (13, I x9.1), (19, I (len p1)), (20, I s1.2.1)] hF (by kernel_rfl) fun fr hF => ?_
     refine from_end rfl (then_normal ?_)
     refine wp_seq (wp_text' ?_)
     refine from_pure 3 [(0, B b1 0), (1, L a1 p1 c1), (2, L a2 p2 c2), (10, L a3 x1 c3), (13, I x9.1), (19, I (len p1)), (20, I s1.2.1), (50, B b1 0), (51, I x4.1), (52, I s1.1)] hF (by kernel_rfl) fun fr hF => ?_
     obtain ⟨x10, hx10, h⟩ := bindE h
     obtain ⟨A4, R4, hsA, hsR, hdA, hbA, hup⟩ := Sep.call (L1 := [BX b1 83 [I x9.2.c.Inputs, L a8 x9.2.c.Gates c8, .map (some b2), .bool x9.2.full], sl59 (L a8 x9.2.c.Gates c8) x9.2.c.Gates, MP map81 b2 x9.2.line]) (L2 := [sl3 (L a3 x1 c3) x6]) hs hM1
     refine s_call [B b1 0, I x4.1, I s1.1] Try.call51 rfl rfl hF rfl (impl_builder_and_ok x9.2 x4.1 s1.1 hx10 hsA hbA hdA) fun v w8 fr hRes hF => ?_
     obtain ⟨a9, c9, rfl, _, hp, hs⟩ := hRes
     obtain ⟨S8, hp, hs⟩ := hup hp hs
     have ra1 := ra1.stp hM1 hp
     have ra2 := ra2.stp hM1 hp
     have hM1 := hM1.stp hp
     have hs : Sep [BX b1 83 [I x10.2.c.Inputs, L a9 x10.2.c.Gates c9, .map (some b2), .bool x10.2.full], sl59 (L a9 x10.2.c.Gates c9) x10.2.c.Gates, MP map81 b2 x10.2.line, sl3 (L a3 x1 c3) x6] w8 S8 := hs
     refine from_pure 1 [(0, B b1 0), (1, L a1 p1 c1), (2, L a2 p2 c2), (10, L a3 x1 c3), (13, I x9.1), (14, I x10.1), (19, I (len p1)), (20, I s1.2.1)] hF (by kernel_rfl) fun fr hF => ?_
     refine from_end rfl (then_normal ?_)
     refine (wp_text' ?_)
     refine from_pure 3 [(0, B b1 0), (1, L a1 p1 c1), (2, L a2 p2 c2), (10, L a3 x1 c3), (19, I (len p1)), (20, I s1.2.1), (54, B b1 0), (55, I x9.1), (56, I x10.1)] hF (by kernel_rfl) fun fr hF => ?_
     obtain ⟨x11, hx11, h⟩ := bindE h
     obtain ⟨A5, R5, hsA, hsR, hdA, hbA, hup⟩ := Sep.call (L1 := [BX b1 83 [I x10.2.c.Inputs, L a9 x10.2.c.Gates c9, .map (some b2), .bool x10.2.full], sl59 (L a9 x10.2.c.Gates c9) x10.2.c.Gates, MP map81 b2 x10.2.line]) (L2 := [sl3 (L a3 x1 c3) x6]) hs hM1
     refine s_call [B b1 0, I x9.1, I x10.1] Try.call57 rfl rfl hF rfl (impl_builder_or_ok x10.2 x9.1 x10.1 hx11 hsA hbA hdA) fun v w9 fr hRes hF => ?_
     obtain ⟨a10, c10, rfl, _, hp, hs⟩ := hRes
     obtain ⟨S9, hp, hs⟩ := hup hp hs
     have ra1 := ra1.stp hM1 hp
     have ra2 := ra2.stp hM1 hp
     have hM1 := hM1.stp hp
     have hs : Sep [BX b1 83 [I x11.2.c.Inputs, L a10 x11.2.c.Gates c10, .map (some b2), .bool x11.2.full], sl59 (L a10 x11.2.c.Gates c10) x11.2.c.Gates, MP map81 b2 x11.2.line, sl3 (L a3 x1 c3) x6] w9 S9 := hs
     refine from_pure 1 [(0, B b1 0), (1, L a1 p1 c1), (2, L a2 p2 c2), (3, I x11.1), (10, L a3 x1 c3), (19, I (len p1)), (20, I s1.2.1)] hF (by kernel_rfl) fun fr hF => ?_
     refine from_end rfl ?_
     refine blk_normal (then_normal ?_)
     refine (wp_pure [(0, B b1 0), (1, L a1 p1 c1), (2, L a2 p2 c2), (3, I x11.1), (10, L a3 x1 c3), (19, I (len p1)), (20, I (w64 (s1.2.1 + 1)))] hF (by kernel_rfl) fun fr hF => then_normal ?_)
     have hs : Sep [sl3 (L a3 x1 c3) x6, BX b1 83 [I x11.2.c.Inputs, L a10 x11.2.c.Gates c10, .map (some b2), .bool x11.2.full], sl59 (L a10 x11.2.c.Gates c10) x11.2.c.Gates, MP map81 b2 x11.2.line] w9 S9 := Sep.pick [3, 0, 1, 2] hs (by decide) rfl
     exact ⟨_, (Option.some.inj h).symm, a10, c10, S9, _, hF.sub _ (by kernel_rfl), hM1, hs⟩
   replace h := iteF hb h
   refine (wp_exit (then_exit (then_exit (blk_exit_eq ?_))))
   obtain rfl := hr1 _ (Option.some.inj h).symm
   exact then_normal ⟨a4, c4, S2, _, hF.sub _ (by kernel_rfl), hM1, hs⟩
 · obtain ⟨a5, c5, S3, F2, hF, hMx, hs⟩ := hM
   have hM0 := hM0.trans hMx
   refine wp_seq (wp_pure [(8, L a3 x1 c3), (9, I rl1.1)] hF (by kernel_rfl) fun fr hF => then_normal ?_)
   have hrets := fun {σ : List (Nat × Value)} (h : σ = [(8, L a3 x1 c3), (9, I rl1.1)]) => (by subst h; exact (Rets.tmp rfl (Rets.tmp rfl Rets.nil)) : Rets Try.prog σ w1o [.tmp 8, .tmp 9] [L a3 x1 c3, I rl1.1])
   obtain rfl := Option.some.inj h
   obtain ⟨he1, hs⟩ := hs.relen 0 rfl
   have hs : Sep [sl3 (L a3 rl1.2.1 c3) rl1.2.1, BX b1 83 [I rl1.2.2.1, L a5 rl1.2.2.2.2.1 c5, .map (some b2), .bool rl1.2.2.2.1], sl59 (L a5 rl1.2.2.2.2.1 c5) rl1.2.2.2.2.1, MP map81 b2 rl1.2.2.2.2.2] w1o S3 := hs
   exact wp_ret (retG (rs := [.tmp 8, .tmp 9]) rfl (hF.sub [(8, L a3 x1 c3), (9, I rl1.1)] (by kernel_rfl)) (hrets rfl) rfl ⟨_, rfl, a3, c3, a5, c5, (by simp only [L, he1]; rfl), S3, hM0.out, hs⟩)

theorem impl_opposites_ok (n : Nat) (p0 : List Int) {r : (List Int)} (h : impl_opposites n p0 = some r) {w : World} {G0 : Nat → Prop} {va0 : Value} (ra0 : RV w G0 va0 p0) :
   Calls Try.prog 95 [va0].toArray w fun e w' => ∃ v, e = .returned v ∧ ∃ a1 c1, v = L a1 r c1 ∧ ∃ S', Stp w Non w' S' ∧ Sep [sl3 (L a1 r c1) r] w' S' := by
 unfold impl_opposites at h
 have hs := Sep.nil w Non
 have hM0 : Mem w Non (fun k => (G0 k) ∧ k < w.heap.size) w Non (fun k => (G0 k) ∧ k < w.heap.size) := Mem.start (fun _ h => h.elim) (fun _ h => h.2) (fun _ h => h.elim)
 have ra0 := ra0.sub (F' := (fun k => (G0 k) ∧ k < w.heap.size)) (fun k hk h => ⟨h, hk⟩)
 obtain ⟨a1, c1, rfl, -⟩ := ra0.slice
 refine enter (N := 23) Try.func95 rfl Try.ntmps95 rfl fun fr hF => ?_
 refine wp_seq (wp_pure [(0, L a1 p0 c1)] hF (by kernel_rfl) fun fr hF => then_normal ?_)
 refine wp_seq (wp_text' ?_)
 refine from_pure 2 [(0, L a1 p0 c1), (7, I (len p0))] hF (by kernel_rfl) fun fr hF => ?_
 obtain ⟨x1, hx1, h⟩ := bindE h
 refine q_make hs hM0 Try.underlying37 el3 (zero_flat _ (by kernel_rfl)) rfl rfl hF rfl rfl hx1 fun a2 c2 w1 S1 fr hs hp hF => ?_
 have ra0 := ra0.stp hM0 hp
 have hM0 := hM0.stp hp
 have hs : Sep [sl3 (L a2 x1 c2) x1] w1 S1 := hs
 refine from_pure 1 [(0, L a1 p0 c1), (3, L a2 x1 c2)] hF (by kernel_rfl) fun fr hF => ?_
 refine from_end rfl (then_normal ?_)
 refine wp_seq ?_
 refine wp_seq (wp_pure [(3, L a2 x1 c2), (9, L a1 p0 c1), (10, I (len p0)), (11, I 0)] hF (by kernel_rfl) fun fr hF => then_normal ?_)
 obtain ⟨rl1, hit1, h⟩ := bindE h
 have hk1 := h
 refine (wp_cut (M := fun fr w' => ∃ S3 F2, FrS 23 [(3, L a2 x1 c2)] fr ∧ Mem w1 S1 (fun k => (G0 k) ∧ k < w.heap.size) w' S3 F2 ∧ Sep [sl3 (L a2 x1 c2) rl1] w' S3) (wp_block (wp_iter (Inv := fun s1 fr w' => ∃ S2 F1, FrS 23 [(3, L a2 x1 c2), (9, L a1 p0 c1), (10, I (len p0)), (11, I s1.1)] fr ∧ Mem w1 S1 (fun k => (G0 k) ∧ k < w.heap.size) w' S2 F1 ∧ Sep [sl3 (L a2 x1 c2) s1.2] w' S2) hit1 ⟨S1, _, hF.sub _ (by kernel_rfl), (Mem.start hM0.bd hM0.bdF hM0.dj), hs⟩ fun s1 q1 fr w1i hI h hr1 => ?_)) fun fr w1o hM => ?_)
 · obtain ⟨S2, F1, hF, hM1, hs⟩ := hI
   have ra0 := ra0.mem hM1
   refine wp_seq (wp_pure [(3, L a2 x1 c2), (9, L a1 p0 c1), (10, I (len p0)), (11, I s1.1), (12, .bool (decide (s1.1 < (len p0))))] hF (by kernel_rfl) fun fr hF => then_normal ?_)
   refine wp_seq (wp_if hF (b := (decide (s1.1 < (len p0)))) rfl (fun hb => ?_) (fun hb => ?_))
   · replace h := iteT hb h
     refine (wp_skip (then_normal ?_))
     refine wp_seq (wp_block ?_)
     refine wp_seq (wp_text' ?_)
     refine from_pure 1 [(3, L a2 x1 c2), (9, L a1 p0 c1), (10, I (len p0)), (11, I s1.1), (13, I s1.1)] hF (by kernel_rfl) fun fr hF => ?_
     obtain ⟨x2, hx2, h⟩ := bindE h
     refine s_elemF (z := x2) (I x2) ty3 Try.underlying37 rfl rfl rfl rfl rfl hF rfl (ra0) rfl (get?_nn hx2) (get?_at hx2) rfl fun p fr hF => ?_
     refine from_pure 2 [(3, L a2 x1 c2), (4, I s1.1), (5, I x2), (9, L a1 p0 c1), (10, I (len p0)), (11, I s1.1)] hF (by kernel_rfl) fun fr hF => ?_
     refine from_end rfl (then_normal ?_)
     refine (wp_text' ?_)
     refine from_pure 4 [(3, L a2 x1 c2), (9, L a1 p0 c1), (10, I (len p0)), (11, I s1.1), (16, L a2 x1 c2), (17, I s1.1), (19, I (w64 (0 - x2)))] hF (by kernel_rfl) fun fr hF => ?_
     obtain ⟨x3, hx3, h⟩ := bindE h
     refine q_set (q := (w64 (0 - x2))) 0 hs hM1 rfl Try.underlying37 ty3 rfl rfl rfl rfl hF rfl rfl (by simp) rfl rfl hx3 fun w2 S4 fr _ hs hp hF => ?_
     have ra0 := ra0.stp hM1 hp
     have hM1 := hM1.stp hp
     have hs : Sep [sl3 (L a2 x1 c2) x3] w2 S4 := hs
     refine from_end rfl ?_
     refine blk_normal (then_normal ?_)
     refine (wp_pure [(3, L a2 x1 c2), (9, L a1 p0 c1), (10, I (len p0)), (11, I (w64 (s1.1 + 1)))] hF (by kernel_rfl) fun fr hF => then_normal ?_)
     exact ⟨_, (Option.some.inj h).symm, S4, _, hF.sub _ (by kernel_rfl), hM1, hs⟩
   replace h := iteF hb h
   refine (wp_exit (then_exit (then_exit (blk_exit_eq ?_))))
   obtain rfl := hr1 _ (Option.some.inj h).symm
   exact then_normal ⟨S2, _, hF.sub _ (by kernel_rfl), hM1, hs⟩
 · obtain ⟨S3, F2, hF, hMx, hs⟩ := hM
   have hM0 := hM0.trans hMx
   refine wp_seq (wp_pure [(2, L a2 x1 c2)] hF (by kernel_rfl) fun fr hF => then_normal ?_)
   obtain rfl := Option.some.inj h
   obtain ⟨he1, hs⟩ := hs.relen 0 rfl
   have hs : Sep [sl3 (L a2 rl1 c2) rl1] w1o S3 := hs
   exact wp_ret (ret1 rfl hF rfl ⟨_, rfl, a2, c2, (by simp only [L, he1]), S3, hM0.out, hs⟩)

theorem impl_numberOf_ok (n : Nat) (p0 : Int) (p1 : Int) {r : (List Int)} (h : impl_numberOf n p0 p1 = some r) {w : World} :
   Calls Try.prog 107 [I p0, I p1].toArray w fun e w' => ∃ v, e = .returned v ∧ ∃ a1 c1, v = L a1 r c1 ∧ ∃ S', Stp w Non w' S' ∧ Sep [sl3 (L a1 r c1) r] w' S' := by
 unfold impl_numberOf at h
 have hs := Sep.nil w Non
 have hM0 : Mem w Non (fun k => (False) ∧ k < w.heap.size) w Non (fun k => (False) ∧ k < w.heap.size) := Mem.start (fun _ h => h.elim) (fun _ h => h.2) (fun _ h => h.elim)
 refine enter (N := 28) Try.func107 rfl Try.ntmps107 rfl fun fr hF => ?_
 refine wp_seq (wp_pure [(0, I p0), (1, I p1)] hF (by kernel_rfl) fun fr hF => then_normal ?_)
 refine wp_seq (wp_text' ?_)
 refine from_pure 1 [(1, I p1), (7, I p0)] hF (by kernel_rfl) fun fr hF => ?_
 obtain ⟨x1, hx1, h⟩ := bindE h
 refine q_make hs hM0 Try.underlying37 el3 (zero_flat _ (by kernel_rfl)) rfl rfl hF rfl rfl hx1 fun a1 c1 w1 S1 fr hs hp hF => ?_
 have hM0 := hM0.stp hp
 have hs : Sep [sl3 (L a1 x1 c1) x1] w1 S1 := hs
 refine from_pure 1 [(1, I p1), (5, L a1 x1 c1)] hF (by kernel_rfl) fun fr hF => ?_
 refine from_end rfl (then_normal ?_)
 refine wp_seq ?_
 refine wp_seq (wp_pure [(1, I p1), (5, L a1 x1 c1), (10, I (len x1)), (11, I 0)] hF (by kernel_rfl) fun fr hF => then_normal ?_)
 obtain ⟨rl1, hit1, h⟩ := bindE h
 have hk1 := h
 refine (wp_cut (M := fun fr w' => ∃ S3 F2, FrS 28 [(5, L a1 x1 c1)] fr ∧ Mem w1 S1 (fun k => (False) ∧ k < w.heap.size) w' S3 F2 ∧ Sep [sl3 (L a1 x1 c1) rl1] w' S3) (wp_block (wp_iter (Inv := fun s1 fr w' => ∃ S2 F1, FrS 28 [(1, I p1), (5, L a1 x1 c1), (10, I (len x1)), (11, I s1.1)] fr ∧ Mem w1 S1 (fun k => (False) ∧ k < w.heap.size) w' S2 F1 ∧ Sep [sl3 (L a1 x1 c1) s1.2] w' S2) hit1 ⟨S1, _, hF.sub _ (by kernel_rfl), (Mem.start hM0.bd hM0.bdF hM0.dj), hs⟩ fun s1 q1 fr w1i hI h hr1 => ?_)) fun fr w1o hM => ?_)
 · obtain ⟨S2, F1, hF, hM1, hs⟩ := hI
   refine wp_seq (wp_pure [(1, I p1), (5, L a1 x1 c1), (10, I (len x1)), (11, I s1.1), (12, .bool (decide (s1.1 < (len x1))))] hF (by kernel_rfl) fun fr hF => then_normal ?_)
   refine wp_seq (wp_if hF (b := (decide (s1.1 < (len x1)))) rfl (fun hb => ?_) (fun hb => ?_))
   · replace h := iteT hb h
     refine (wp_skip (then_normal ?_))
     refine wp_seq (wp_block ?_)
     refine wp_seq (wp_pure [(1, I p1), (5, L a1 x1 c1), (6, I s1.1), (10, I (len x1)), (11, I s1.1)] hF (by kernel_rfl) fun fr hF => then_normal ?_)
     refine wp_seq (wp_text' ?_)
     refine from_pure 2 [(1, I p1), (5, L a1 x1 c1), (6, I s1.1), (10, I (len x1)), (11, I s1.1), (14, L a1 x1 c1), (15, I s1.1)] hF (by kernel_rfl) fun fr hF => ?_
     obtain ⟨x2, hx2, h⟩ := bindE h
     refine q_set (q := (-1)) 0 hs hM1 rfl Try.underlying37 ty3 rfl rfl rfl rfl hF rfl rfl (by simp) rfl rfl hx2 fun w2 S4 fr _ hs hp hF => ?_
     have hM1 := hM1.stp hp
     have hs : Sep [sl3 (L a1 x1 c1) x2] w2 S4 := hs
     refine from_end rfl (then_normal ?_)
     refine wp_seq (wp_text' ?_)
     refine from_pure 3 [(1, I p1), (5, L a1 x1 c1), (6, I s1.1), (10, I (len x1)), (11, I s1.1), (17, I p1), (19, .int .u64 (IntKind.u64.wrap s1.1))] hF (by kernel_rfl) fun fr hF => ?_
     obtain ⟨x3, hx3, h⟩ := bindE h
     refine s_shr rfl rfl hF rfl rfl hx3 fun fr hF => ?_
     refine from_pure 2 [(1, I p1), (5, L a1 x1 c1), (6, I s1.1), (10, I (len x1)), (11, I s1.1), (22, .bool ((band x3 1) == 1))] hF (by kernel_rfl) fun fr hF => ?_
     refine from_end rfl (then_normal ?_)
     refine (wp_if hF (b := ((band x3 1) == 1)) rfl (fun hb => ?_) (fun hb => ?_))
     · replace h := iteT hb h
       refine (wp_text' ?_)
       refine from_pure 2 [(1, I p1), (5, L a1 x1 c1), (10, I (len x1)), (11, I s1.1), (23, L a1 x1 c1), (24, I s1.1)] hF (by kernel_rfl) fun fr hF => ?_
       obtain ⟨x4, hx4, h⟩ := bindE h
       refine q_set (q := 1) 0 hs hM1 rfl Try.underlying37 ty3 rfl rfl rfl rfl hF rfl rfl (by simp) rfl rfl hx4 fun w3 S5 fr _ hs hp hF => ?_
       have hM1 := hM1.stp hp
       have hs : Sep [sl3 (L a1 x1 c1) x4] w3 S5 := hs
       refine from_end rfl ?_
       refine blk_normal (then_normal ?_)
       refine (wp_pure [(1, I p1), (5, L a1 x1 c1), (10, I (len x1)), (11, I (w64 (s1.1 + 1)))] hF (by kernel_rfl) fun fr hF => then_normal ?_)
       exact ⟨_, (Option.some.inj h).symm, S5, _, hF.sub _ (by kernel_rfl), hM1, hs⟩
     replace h := iteF hb h
     refine (wp_skip ?_)
     refine blk_normal (then_normal ?_)
     refine (wp_pure [(1, I p1), (5, L a1 x1 c1), (10, I (len x1)), (11, I (w64 (s1.1 + 1)))] hF (by kernel_rfl) fun fr hF => then_normal ?_)
     exact ⟨_, (Option.some.inj h).symm, S4, _, hF.sub _ (by kernel_rfl), hM1, hs⟩
   replace h := iteF hb h
   refine (wp_exit (then_exit (then_exit (blk_exit_eq ?_))))
   obtain rfl := hr1 _ (Option.some.inj h).symm
   exact then_normal ⟨S2, _, hF.sub _ (by kernel_rfl), hM1, hs⟩
 · obtain ⟨S3, F2, hF, hMx, hs⟩ := hM
   have hM0 := hM0.trans hMx
   refine wp_seq (wp_pure [(4, L a1 x1 c1)] hF (by kernel_rfl) fun fr hF => then_normal ?_)
   obtain rfl := Option.some.inj h
   obtain ⟨he1, hs⟩ := hs.relen 0 rfl
   have hs : Sep [sl3 (L a1 rl1 c1) rl1] w1o S3 := hs
   exact wp_ret (ret1 rfl hF rfl ⟨_, rfl, a1, c1, (by simp only [L, he1]), S3, hM0.out, hs⟩)

theorem impl_builder_multiply_ok (n : Nat) (p0 : D.builder) (p1 : List Int) (p2 : List Int) {r : (List Int) × D.builder} (h : impl_builder_multiply n p0 p1 p2 = some r) {w : World} {S0 F0 : Nat → Prop} {pa0 : Option Addr} {pn0 pc0 : Nat} {b1 : Nat} {b2 : Nat} (hs : Sep [BX b1 83 [I p0.c.Inputs, .slice pa0 pn0 pc0, .map (some b2), .bool p0.full], sl59 (.slice pa0 pn0 pc0) p0.c.Gates, MP map81 b2 p0.line] w S0) (hb : ∀ k, S0 k → k < w.heap.size) (hd : ∀ k, S0 k → F0 k → False) {va1 : Value} (ra1 : RV w F0 va1 p1) {va2 : Value} (ra2 : RV w F0 va2 p2) :
   Calls Try.prog 96 [B b1 0, va1, va2].toArray w fun e w' => ∃ v, e = .returned v ∧ ∃ a1 c1 a2 c2, v = L a1 r.1 c1 ∧ ∃ S', Stp w S0 w' S' ∧ Sep [sl3 (L a1 r.1 c1) r.1, BX b1 83 [I r.2.c.Inputs, L a2 r.2.c.Gates c2, .map (some b2), .bool r.2.full], sl59 (L a2 r.2.c.Gates c2) r.2.c.Gates, MP map81 b2 r.2.line] w' S' := by
 unfold impl_builder_multiply at h
 obtain ⟨hpn, hs⟩ := hs.relen 1 rfl
 subst hpn
 have hs : Sep [BX b1 83 [I p0.c.Inputs, L pa0 p0.c.Gates pc0, .map (some b2), .bool p0.full], sl59 (L pa0 p0.c.Gates pc0) p0.c.Gates, MP map81 b2 p0.line] w S0 := hs
 have hM0 : Mem w S0 (fun k => F0 k ∧ k < w.heap.size) w S0 (fun k => F0 k ∧ k < w.heap.size) := Mem.start hb (fun _ h => h.2) (fun k h1 h2 => hd k h1 h2.1)
 have ra1 := ra1.sub (F' := (fun k => F0 k ∧ k < w.heap.size)) (fun k hk h => ⟨h, hk⟩)
 obtain ⟨a1, c1, rfl, -⟩ := ra1.slice
 have ra2 := ra2.sub (F' := (fun k => F0 k ∧ k < w.heap.size)) (fun k hk h => ⟨h, hk⟩)
 obtain ⟨a2, c2, rfl, -⟩ := ra2.slice
 refine enter (N := 62) Try.func96 rfl Try.ntmps96 rfl fun fr hF => ?_
 refine wp_seq (wp_pure [(0, B b1 0), (1, L a1 p1 c1), (2, L a2 p2 c2)] hF (by kernel_rfl) fun fr hF => then_normal ?_)
 refine wp_seq (wp_pure [(0, B b1 0), (1, L a1 p1 c1), (2, L a2 p2 c2), (7, I (len p1))] hF (by kernel_rfl) fun fr hF => then_normal ?_)
 refine wp_seq (wp_text' ?_)
 refine from_pure 1 [(0, B b1 0), (1, L a1 p1 c1), (2, L a2 p2 c2), (7, I (len p1)), (16, I (len p1))] hF (by kernel_rfl) fun fr hF => ?_
 obtain ⟨x1, hx1, h⟩ := bindE h
 refine s_call [I (len p1), I 0] Try.call107 rfl rfl hF rfl (impl_numberOf_ok n (len p1) 0 hx1) fun v w1 fr hRes hF => ?_
 obtain ⟨a3, c3, rfl, _, hp, hs2⟩ := hRes
 obtain ⟨S1, hp, hs⟩ := hs.got hM0 hp hs2
 have ra1 := ra1.stp hM0 hp
 have ra2 := ra2.stp hM0 hp
 have hM0 := hM0.stp hp
 have hs : Sep [sl3 (L a3 x1 c3) x1, BX b1 83 [I p0.c.Inputs, L pa0 p0.c.Gates pc0, .map (some b2), .bool p0.full], sl59 (L pa0 p0.c.Gates pc0) p0.c.Gates, MP map81 b2 p0.line] w1 S1 := hs
 refine from_pure 1 [(0, B b1 0), (1, L a1 p1 c1), (2, L a2 p2 c2), (7, I (len p1)), (8, L a3 x1 c3)] hF (by kernel_rfl) fun fr hF => ?_
 refine from_end rfl (then_normal ?_)
 refine wp_seq ?_
 refine wp_seq (wp_pure [(0, B b1 0), (1, L a1 p1 c1), (2, L a2 p2 c2), (7, I (len p1)), (8, L a3 x1 c3), (19, I (len p2)), (20, I 0)] hF (by kernel_rfl) fun fr hF => then_normal ?_)
 obtain ⟨rl1, hit1, h⟩ := bindE h
 have hk1 := h
 refine (wp_cut (M := fun fr w' => ∃ a5 c5 S3 F2, FrS 62 [(8, L a3 x1 c3)] fr ∧ Mem w1 S1 (fun k => F0 k ∧ k < w.heap.size) w' S3 F2 ∧ Sep [sl3 (L a3 x1 c3) rl1.1, BX b1 83 [I rl1.2.1, L a5 rl1.2.2.2.1 c5, .map (some b2), .bool rl1.2.2.1], sl59 (L a5 rl1.2.2.2.1 c5) rl1.2.2.2.1, MP map81 b2 rl1.2.2.2.2] w' S3) (wp_block (wp_iter (Inv := fun s1 fr w' => ∃ a4 c4 S2 F1, FrS 62 [(0, B b1 0), (1, L a1 p1 c1), (2, L a2 p2 c2), (7, I (len p1)), (8, L a3 x1 c3), (19, I (len p2)), (20, I s1.1)] fr ∧ Mem w1 S1 (fun k => F0 k ∧ k < w.heap.size) w' S2 F1 ∧ Sep [sl3 (L a3 x1 c3) s1.2.1, BX b1 83 [I s1.2.2.1, L a4 s1.2.2.2.2.1 c4, .map (some b2), .bool s1.2.2.2.1], sl59 (L a4 s1.2.2.2.2.1 c4) s1.2.2.2.2.1, MP map81 b2 s1.2.2.2.2.2] w' S2) hit1 ⟨pa0, pc0, S1, _, hF.sub _ (by kernel_rfl), (Mem.start hM0.bd hM0.bdF hM0.dj), hs⟩ fun s1 q1 fr w1i hI h hr1 => ?_)) fun fr w1o hM => ?_)
 · obtain ⟨a4, c4, S2, F1, hF, hM1, hs⟩ := hI
   have ra1 := ra1.mem hM1
   have ra2 := ra2.mem hM1
   refine wp_seq (wp_pure [(0, B b1 0), (1, L a1 p1 c1), (2, L a2 p2 c2), (7, I (len p1)), (8, L a3 x1 c3), (19, I (len p2)), (20, I s1.1), (21, .bool (decide (s1.1 < (len p2))))] hF (by kernel_rfl) fun fr hF => then_normal ?_)
   refine wp_seq (wp_if hF (b := (decide (s1.1 < (len p2)))) rfl (fun hb => ?_) (fun hb => ?_))
   · replace h := iteT hb h
     refine (wp_skip (then_normal ?_))
     refine wp_seq (wp_block ?_)
     refine wp_seq (wp_pure [(0, B b1 0), (1, L a1 p1 c1), (2, L a2 p2 c2), (7, I (len p1)), (8, L a3 x1 c3), (9, I s1.1), (19, I (len p2)), (20, I s1.1)] hF (by kernel_rfl) fun fr hF => then_normal ?_)
     refine wp_seq (wp_text' ?_)
     refine from_pure 3 [(0, B b1 0), (1, L a1 p1 c1), (2, L a2 p2 c2), (7, I (len p1)), (8, L a3 x1 c3), (9, I s1.1), (19, I (len p2)), (20, I s1.1), (25, I (w64 ((len p1) - s1.1)))] hF (by kernel_rfl) fun fr hF => ?_
     obtain ⟨x2, hx2, h⟩ := bindE h
     refine q_make hs hM1 Try.underlying37 el3 (zero_flat _ (by kernel_rfl)) rfl rfl hF rfl rfl hx2 fun a6 c6 w2 S4 fr hs hp hF => ?_
     have ra1 := ra1.stp hM1 hp
     have ra2 := ra2.stp hM1 hp
     have hM1 := hM1.stp hp
     have hs : Sep [sl3 (L a6 x2 c6) x2, sl3 (L a3 x1 c3) s1.2.1, BX b1 83 [I s1.2.2.1, L a4 s1.2.2.2.2.1 c4, .map (some b2), .bool s1.2.2.2.1], sl59 (L a4 s1.2.2.2.2.1 c4) s1.2.2.2.2.1, MP map81 b2 s1.2.2.2.2.2] w2 S4 := hs
     refine from_pure 1 [(0, B b1 0), (1, L a1 p1 c1), (2, L a2 p2 c2), (7, I (len p1)), (8, L a3 x1 c3), (9, I s1.1), (10, L a6 x2 c6), (19, I (len p2)), (20, I s1.1)] hF (by kernel_rfl) fun fr hF => ?_
     refine from_end rfl (then_normal ?_)
     refine wp_seq ?_
     refine wp_seq (wp_pure [(0, B b1 0), (1, L a1 p1 c1), (2, L a2 p2 c2), (7, I (len p1)), (8, L a3 x1 c3), (9, I s1.1), (10, L a6 x2 c6), (19, I (len p2)), (20, I s1.1), (28, I (len x2)), (29, I 0)] hF (by kernel_rfl) fun fr hF => then_normal ?_)
     obtain ⟨rl2, hit2, h⟩ := bindE h
     have hk2 := h
     refine (wp_cut (M := fun fr w' => ∃ a8 c8 S6 F4, FrS 62 [(0, B b1 0), (1, L a1 p1 c1), (2, L a2 p2 c2), (7, I (len p1)), (8, L a3 x1 c3), (9, I s1.1), (10, L a6 x2 c6), (19, I (len p2)), (20, I s1.1)] fr ∧ Mem w2 S4 F1 w' S6 F4 ∧ Sep [sl3 (L a6 x2 c6) rl2.1, sl3 (L a3 x1 c3) s1.2.1, BX b1 83 [I rl2.2.1, L a8 rl2.2.2.2.1 c8, .map (some b2), .bool rl2.2.2.1], sl59 (L a8 rl2.2.2.2.1 c8) rl2.2.2.2.1, MP map81 b2 rl2.2.2.2.2] w' S6) (wp_block (wp_iter (Inv := fun s2 fr w' => ∃ a7 c7 S5 F3, FrS 62 [(0, B b1 0), (1, L a1 p1 c1), (2, L a2 p2 c2), (7, I (len p1)), (8, L a3 x1 c3), (9, I s1.1), (10, L a6 x2 c6), (19, I (len p2)), (20, I s1.1), (28, I (len x2)), (29, I s2.1)] fr ∧ Mem w2 S4 F1 w' S5 F3 ∧ Sep [sl3 (L a6 x2 c6) s2.2.1, sl3 (L a3 x1 c3) s1.2.1, BX b1 83 [I s2.2.2.1, L a7 s2.2.2.2.2.1 c7, .map (some b2), .bool s2.2.2.2.1], sl59 (L a7 s2.2.2.2.2.1 c7) s2.2.2.2.2.1, MP map81 b2 s2.2.2.2.2.2] w' S5) hit2 ⟨a4, c4, S4, _, hF.sub _ (by kernel_rfl), (Mem.start hM1.bd hM1.bdF hM1.dj), hs⟩ fun s2 q2 fr w2i hI h hr2 => ?_)) fun fr w2o hM => ?_)
     · obtain ⟨a7, c7, S5, F3, hF, hM2, hs⟩ := hI
       have ra1 := ra1.mem hM2
       have ra2 := ra2.mem hM2
       refine wp_seq (wp_pure [(0, B b1 0), (1, L a1 p1 c1), (2, L a2 p2 c2), (7, I (len p1)), (8, L a3 x1 c3), (9, I s1.1), (10, L a6 x2 c6), (19, I (len p2)), (20, I s1.1), (28, I (len x2)), (29, I s2.1), (30, .bool (decide (s2.1 < (len x2))))] hF (by kernel_rfl) fun fr hF => then_normal ?_)
       refine wp_seq (wp_if hF (b := (decide (s2.1 < (len x2)))) rfl (fun hb => ?_) (fun hb => ?_))
       · replace h := iteT hb h
         refine (wp_skip (then_normal ?_))
         refine wp_seq (wp_block ?_)
         refine wp_seq (wp_pure [(0, B b1 0), (1, L a1 p1 c1), (2, L a2 p2 c2), (7, I (len p1)), (8, L a3 x1 c3), (9, I s1.1), (10, L a6 x2 c6), (11, I s2.1), (19, I (len p2)), (20, I s1.1), (28, I (len x2)), (29, I s2.1)] hF (by kernel_rfl) fun fr hF => then_normal ?_)
         refine (wp_ra mix ?_)
         refine ra_hoist 1 (by kernel_rfl) (fun _ _ _ _ _ h => h) ?_
         refine ra_hoist 0 (by kernel_rfl) (fun _ _ _ _ _ h => h) ?_
         obtain ⟨x3, hx3, h⟩ := bindE h
         obtain ⟨x4, hx4, h⟩ := bindE h
         refine (ra_bm 11 [0, 1, 3, 3, 3, 27, 59, 3, 3, 387, 899, 2047, 4095, 8191] [true, true, true, true, true, false, false, true, true, false, false]
             [.eq (L a6 x2 c6), .eq (I s2.1), .eq (B b1 0), .eq (L a2 p2 c2), .eq (I s1.1), .is fun v w => ElemP w (fun k => k < w2i.heap.size) v (x3 : Int), .eq (I x3), .eq (L a1 p1 c1), .eq (I s2.1), .is fun v w => ElemP w (fun k => k < w2i.heap.size) v (x4 : Int), .eq (I x4), .any, .any, .any]
             [(0, B b1 0), (1, L a1 p1 c1), (2, L a2 p2 c2), (7, I (len p1)), (8, L a3 x1 c3), (9, I s1.1), (10, L a6 x2 c6), (19, I (len p2)), (20, I s1.1), (28, I (len x2)), (29, I s2.1), (32, L a6 x2 c6), (33, I s2.1), (34, B b1 0), (38, I x3), (42, I x4)] hF (by kernel_rfl) (by kernel_rfl) (by kernel_rfl) (by kernel_rfl) ⟨(Pd.monoO_is mono_elem), Pd.monoO_eq, (Pd.monoO_is mono_elem), Pd.monoO_eq, trivial⟩ (fun ow hG => ⟨np_to ow (np_index hG hF ty3 Try.underlying37 rfl rfl (RV.sub (ra2) fun k hk _ => hk) rfl rfl (fun hg => ⟨get?_nn hx3, get?_at hx3⟩)), np_to ow (np_loadF (z := x3) (i := 5) hG hF ty3 rfl rfl rfl rfl rfl rfl rfl), np_to ow (np_index hG hF ty3 Try.underlying37 rfl rfl (RV.sub (ra1) fun k hk _ => hk) rfl rfl (fun hg => ⟨get?_nn hx4, get?_at hx4⟩)), np_to ow (np_loadF (z := x4) (i := 9) hG hF ty3 rfl rfl rfl rfl rfl rfl rfl), trivial⟩) (by kernel_rfl) fun ow fr w3 hF hE hc => ?_)
         have ra1 := ra1.ext hc
         have ra2 := ra2.ext hc
         have hs := hs.ext hc
         have hM2 := hM2.ext hc
         obtain ⟨x5, hx5, h⟩ := bindE h
         have hs : Sep [BX b1 83 [I s2.2.2.1, L a7 s2.2.2.2.2.1 c7, .map (some b2), .bool s2.2.2.2.1], sl59 (L a7 s2.2.2.2.2.1 c7) s2.2.2.2.2.1, MP map81 b2 s2.2.2.2.2.2, sl3 (L a6 x2 c6) s2.2.1, sl3 (L a3 x1 c3) s1.2.1] w3 S5 := Sep.pick [2, 3, 4, 0, 1] hs (by decide) rfl
         obtain ⟨A1, R1, hsA, hsR, hdA, hbA, hup⟩ := Sep.call (L1 := [BX b1 83 [I s2.2.2.1, L a7 s2.2.2.2.2.1 c7, .map (some b2), .bool s2.2.2.2.1], sl59 (L a7 s2.2.2.2.2.1 c7) s2.2.2.2.2.1, MP map81 b2 s2.2.2.2.2.2]) (L2 := [sl3 (L a6 x2 c6) s2.2.1, sl3 (L a3 x1 c3) s1.2.1]) hs hM2
         refine s_call [B b1 0, I x3, I x4] Try.call51 rfl rfl hF rfl (impl_builder_and_ok (D.builder.mk (D.Circuit.mk s2.2.2.1 s2.2.2.2.2.1) s2.2.2.2.2.2 s2.2.2.2.1) x3 x4 hx5 hsA hbA hdA) fun v w4 fr hRes hF => ?_
         obtain ⟨a9, c9, rfl, _, hp, hs⟩ := hRes
         obtain ⟨S7, hp, hs⟩ := hup hp hs
         have ra1 := ra1.stp hM2 hp
         have ra2 := ra2.stp hM2 hp
         have hM2 := hM2.stp hp
         have hs : Sep [BX b1 83 [I x5.2.c.Inputs, L a9 x5.2.c.Gates c9, .map (some b2), .bool x5.2.full], sl59 (L a9 x5.2.c.Gates c9) x5.2.c.Gates, MP map81 b2 x5.2.line, sl3 (L a6 x2 c6) s2.2.1, sl3 (L a3 x1 c3) s1.2.1] w4 S7 := hs
         obtain ⟨x6, hx6, h⟩ := bindE h
         refine q_set (q := x5.1) 3 hs hM2 rfl Try.underlying37 ty3 rfl rfl rfl rfl hF rfl rfl (by simp) rfl rfl hx6 fun w5 S8 fr _ hs hp hF => ?_
         have ra1 := ra1.stp hM2 hp
         have ra2 := ra2.stp hM2 hp
         have hM2 := hM2.stp hp
         have hs : Sep [BX b1 83 [I x5.2.c.Inputs, L a9 x5.2.c.Gates c9, .map (some b2), .bool x5.2.full], sl59 (L a9 x5.2.c.Gates c9) x5.2.c.Gates, MP map81 b2 x5.2.line, sl3 (L a6 x2 c6) x6, sl3 (L a3 x1 c3) s1.2.1] w5 S8 := hs
         refine from_end rfl ?_
         refine blk_normal (then_normal ?_)
         refine (wp_pure [(0, B b1 0), (1, L a1 p1 c1), (2, L a2 p2 c2), (7, I (len p1)), (8, L a3 x1 c3), (9, I s1.1), (10, L a6 x2 c6), (19, I (len p2)), (20, I s1.1), (28, I (len x2)), (29, I (w64 (s2.1 + 1)))] hF (by kernel_rfl) fun fr hF => then_normal ?_)
         have hs : Sep [sl3 (L a6 x2 c6) x6, sl3 (L a3 x1 c3) s1.2.1, BX b1 83 [I x5.2.c.Inputs, L a9 x5.2.c.Gates c9, .map (some b2), .bool x5.2.full], sl59 (L a9 x5.2.c.Gates c9) x5.2.c.Gates, MP map81 b2 x5.2.line] w5 S8 := Sep.pick [3, 4, 0, 1, 2] hs (by decide) rfl
         exact ⟨_, (Option.some.inj h).symm, a9, c9, S8, _, hF.sub _ (by kernel_rfl), hM2, hs⟩
       replace h := iteF hb h
       refine (wp_exit (then_exit (then_exit (blk_exit_eq ?_))))
       obtain rfl := hr2 _ (Option.some.inj h).symm
       exact then_normal ⟨a7, c7, S5, _, hF.sub _ (by kernel_rfl), hM2, hs⟩
     · obtain ⟨a8, c8, S6, F4, hF, hMx, hs⟩ := hM
       have ra1 := ra1.mem hMx
       have ra2 := ra2.mem hMx
       have hM1 := hM1.trans hMx
       refine wp_seq (wp_text' ?_)
       refine from_pure 3 [(0, B b1 0), (1, L a1 p1 c1), (2, L a2 p2 c2), (7, I (len p1)), (8, L a3 x1 c3), (9, I s1.1), (10, L a6 x2 c6), (19, I (len p2)), (20, I s1.1), (47, B b1 0), (48, L a3 x1 c3), (49, I s1.1)] hF (by kernel_rfl) fun fr hF => ?_
       obtain ⟨x7, hx7, h⟩ := bindE h
       refine s_view ty3 Try.underlying37 rfl rfl hF rfl (hs.rv 1 rfl) ⟨_, rfl⟩ (by have h1 := (hs.relen 1 rfl).1; show len x1 = ((List.length s1.2.1 : Nat) : Int); unfold len; omega) hx7 fun a10 c10 fr hv1 hle1 hF => ?_
       have hle1 := (show (s1.1).toNat + List.length x7 ≤ List.length x1 by have h1 := (hs.relen 1 rfl).1; omega)
       refine from_pure 1 [(0, B b1 0), (1, L a1 p1 c1), (2, L a2 p2 c2), (7, I (len p1)), (8, L a3 x1 c3), (9, I s1.1), (19, I (len p2)), (20, I s1.1), (47, B b1 0), (50, L a10 x7 c10), (51, L a6 x2 c6)] hF (by kernel_rfl) fun fr hF => ?_
       obtain ⟨x8, hx8, h⟩ := bindE h
       have hs : Sep [BX b1 83 [I rl2.2.1, L a8 rl2.2.2.2.1 c8, .map (some b2), .bool rl2.2.2.1], sl59 (L a8 rl2.2.2.2.1 c8) rl2.2.2.2.1, MP map81 b2 rl2.2.2.2.2, sl3 (L a6 x2 c6) rl2.1, sl3 (L a3 x1 c3) s1.2.1] w2o S6 := Sep.pick [2, 3, 4, 0, 1] hs (by decide) rfl
       obtain ⟨A2, R2, hsA, hsR, hdA, hbA, hup⟩ := Sep.call (L1 := [BX b1 83 [I rl2.2.1, L a8 rl2.2.2.2.1 c8, .map (some b2), .bool rl2.2.2.1], sl59 (L a8 rl2.2.2.2.1 c8) rl2.2.2.2.1, MP map81 b2 rl2.2.2.2.2]) (L2 := [sl3 (L a6 x2 c6) rl2.1, sl3 (L a3 x1 c3) s1.2.1]) hs hM1
       refine s_call [B b1 0, L a10 x7 c10, L a6 x2 c6, I (-1)] Try.call69 rfl rfl hF rfl (impl_builder_add_ok n (D.builder.mk (D.Circuit.mk rl2.2.1 rl2.2.2.2.1) rl2.2.2.2.2 rl2.2.2.1) (vcut s1.2.1 s1.1 (List.length x7)) rl2.1 (-1) hx8 hsA hbA hdA ((view_rv (hsR.rv 1 rfl) hv1 (by have h1 := (hs.relen 4 rfl).1; omega)).big (fun _ h => .inr h)) ((hsR.rv 0 rfl).big (fun _ h => .inr h))) fun v w6 fr hRes hF => ?_
       obtain ⟨a11, c11, a12, c12, rfl, _, hp, hs⟩ := hRes
       obtain ⟨S9, hp, hs⟩ := hup hp hs
       have ra1 := ra1.stp hM1 hp
       have ra2 := ra2.stp hM1 hp
       have hM1 := hM1.stp hp
       have hs : Sep [sl3 (L a11 x8.1 c11) x8.1, BX b1 83 [I x8.2.2.c.Inputs, L a12 x8.2.2.c.Gates c12, .map (some b2), .bool x8.2.2.full], sl59 (L a12 x8.2.2.c.Gates c12) x8.2.2.c.Gates, MP map81 b2 x8.2.2.line, sl3 (L a6 x2 c6) rl2.1, sl3 (L a3 x1 c3) s1.2.1] w6 S9 := hs
       have hs : Sep [sl3 (L a11 x8.1 c11) x8.1, BX b1 83 [I x8.2.2.c.Inputs, L a12 x8.2.2.c.Gates c12, .map (some b2), .bool x8.2.2.full], sl59 (L a12 x8.2.2.c.Gates c12) x8.2.2.c.Gates, MP map81 b2 x8.2.2.line, sl3 (L a3 x1 c3) s1.2.1] w6 S9 := Sep.pick [0, 1, 2, 3, 5] hs (by decide) rfl
       refine from_pure 5 [(0, B b1 0), (1, L a1 p1 c1), (2, L a2 p2 c2), (7, I (len p1)), (8, L a3 x1 c3), (9, I s1.1), (12, L a11 x8.1 c11), (19, I (len p2)), (20, I s1.1)] hF (by kernel_rfl) fun fr hF => ?_
       refine from_end rfl (then_normal ?_)
       refine (wp_text' ?_)
       refine from_pure 2 [(0, B b1 0), (1, L a1 p1 c1), (2, L a2 p2 c2), (7, I (len p1)), (8, L a3 x1 c3), (12, L a11 x8.1 c11), (19, I (len p2)), (20, I s1.1), (55, L a3 x1 c3), (56, I s1.1)] hF (by kernel_rfl) fun fr hF => ?_
       obtain ⟨x9, hx9, h⟩ := bindE h
       refine s_view ty3 Try.underlying37 rfl rfl hF rfl (hs.rv 4 rfl) ⟨_, rfl⟩ (by have h1 := (hs.relen 4 rfl).1; show len x1 = ((List.length s1.2.1 : Nat) : Int); unfold len; omega) hx9 fun a13 c13 fr hv2 hle2 hF => ?_
       have hle2 := (show (s1.1).toNat + List.length x9 ≤ List.length x1 by have h1 := (hs.relen 4 rfl).1; omega)
       refine from_pure 1 [(0, B b1 0), (1, L a1 p1 c1), (2, L a2 p2 c2), (7, I (len p1)), (8, L a3 x1 c3), (19, I (len p2)), (20, I s1.1), (57, L a13 x9 c13), (58, L a11 x8.1 c11)] hF (by kernel_rfl) fun fr hF => ?_
       refine q_copyV (m := x8.1) 4 hs hM1 rfl Try.underlying37 ty3 rfl rfl hF rfl rfl (hs.rv 0 rfl) hv2 (by have h1 := (hs.relen 4 rfl).1; omega) fun w7 S10 fr q hs hp hF => ?_
       have ra1 := ra1.stp hM1 hp
       have ra2 := ra2.stp hM1 hp
       have hM1 := hM1.stp hp
       have hs : Sep [sl3 (L a11 x8.1 c11) x8.1, BX b1 83 [I x8.2.2.c.Inputs, L a12 x8.2.2.c.Gates c12, .map (some b2), .bool x8.2.2.full], sl59 (L a12 x8.2.2.c.Gates c12) x8.2.2.c.Gates, MP map81 b2 x8.2.2.line, sl3 (L a3 x1 c3) (vcopy s1.2.1 s1.1 (List.length x9) x8.1)] w7 S10 := hs
       have hs : Sep [BX b1 83 [I x8.2.2.c.Inputs, L a12 x8.2.2.c.Gates c12, .map (some b2), .bool x8.2.2.full], sl59 (L a12 x8.2.2.c.Gates c12) x8.2.2.c.Gates, MP map81 b2 x8.2.2.line, sl3 (L a3 x1 c3) (vcopy s1.2.1 s1.1 (List.length x9) x8.1)] w7 S10 := Sep.pick [1, 2, 3, 4] hs (by decide) rfl
       refine from_end rfl ?_
       refine blk_normal (then_normal ?_)
       refine (wp_pure [(0, B b1 0), (1, L a1 p1 c1), (2, L a2 p2 c2), (7, I (len p1)), (8, L a3 x1 c3), (19, I (len p2)), (20, I (w64 (s1.1 + 1)))] hF (by kernel_rfl) fun fr hF => then_normal ?_)
       have hs : Sep [sl3 (L a3 x1 c3) (vcopy s1.2.1 s1.1 (List.length x9) x8.1), BX b1 83 [I x8.2.2.c.Inputs, L a12 x8.2.2.c.Gates c12, .map (some b2), .bool x8.2.2.full], sl59 (L a12 x8.2.2.c.Gates c12) x8.2.2.c.Gates, MP map81 b2 x8.2.2.line] w7 S10 := Sep.pick [3, 0, 1, 2] hs (by decide) rfl
       exact ⟨_, (Option.some.inj h).symm, a12, c12, S10, _, hF.sub _ (by kernel_rfl), hM1, hs⟩
   replace h := iteF hb h
   refine (wp_exit (then_exit (then_exit (blk_exit_eq ?_))))
   obtain rfl := hr1 _ (Option.some.inj h).symm
   exact then_normal ⟨a4, c4, S2, _, hF.sub _ (by kernel_rfl), hM1, hs⟩
 · obtain ⟨a5, c5, S3, F2, hF, hMx, hs⟩ := hM
   have hM0 := hM0.trans hMx
   refine wp_seq (wp_pure [(6, L a3 x1 c3)] hF (by kernel_rfl) fun fr hF => then_normal ?_)
   obtain rfl := Option.some.inj h
   obtain ⟨he1, hs⟩ := hs.relen 0 rfl
   have hs : Sep [sl3 (L a3 rl1.1 c3) rl1.1, BX b1 83 [I rl1.2.1, L a5 rl1.2.2.2.1 c5, .map (some b2), .bool rl1.2.2.1], sl59 (L a5 rl1.2.2.2.1 c5) rl1.2.2.2.1, MP map81 b2 rl1.2.2.2.2] w1o S3 := hs
   exact wp_ret (ret1 rfl hF rfl ⟨_, rfl, a3, c3, a5, c5, (by simp only [L, he1]), S3, hM0.out, hs⟩)

theorem impl_builder_choose_ok (p0 : D.builder) (p1 : Int) (p2 : Int) (p3 : Int) {r : Int × D.builder} (h : impl_builder_choose p0 p1 p2 p3 = some r) {w : World} {S0 F0 : Nat → Prop} {pa0 : Option Addr} {pn0 pc0 : Nat} {b1 : Nat} {b2 : Nat} (hs : Sep [BX b1 83 [I p0.c.Inputs, .slice pa0 pn0 pc0, .map (some b2), .bool p0.full], sl59 (.slice pa0 pn0 pc0) p0.c.Gates, MP map81 b2 p0.line] w S0) (hb : ∀ k, S0 k → k < w.heap.size) (hd : ∀ k, S0 k → F0 k → False) :
   Calls Try.prog 63 [B b1 0, I p1, I p2, I p3].toArray w fun e w' => ∃ v, e = .returned v ∧ ∃ a1 c1, v = I r.1 ∧ ∃ S', Stp w S0 w' S' ∧ Sep [BX b1 83 [I r.2.c.Inputs, L a1 r.2.c.Gates c1, .map (some b2), .bool r.2.full], sl59 (L a1 r.2.c.Gates c1) r.2.c.Gates, MP map81 b2 r.2.line] w' S' := by
 unfold impl_builder_choose at h
 obtain ⟨hpn, hs⟩ := hs.relen 1 rfl
 subst hpn
 have hs : Sep [BX b1 83 [I p0.c.Inputs, L pa0 p0.c.Gates pc0, .map (some b2), .bool p0.full], sl59 (L pa0 p0.c.Gates pc0) p0.c.Gates, MP map81 b2 p0.line] w S0 := hs
 have hM0 : Mem w S0 (fun k => F0 k ∧ k < w.heap.size) w S0 (fun k => F0 k ∧ k < w.heap.size) := Mem.start hb (fun _ h => h.2) (fun k h1 h2 => hd k h1 h2.1)
 refine enter (N := 24) Try.func63 rfl Try.ntmps63 rfl fun fr hF => ?_
 refine wp_seq (wp_pure [(0, B b1 0), (1, I p1), (2, I p2), (3, I p3)] hF (by kernel_rfl) fun fr hF => then_normal ?_)
 refine wp_seq (wp_text' ?_)
 refine from_pure 3 [(0, B b1 0), (1, I p1), (3, I p3), (11, B b1 0), (12, I p1), (13, I p2)] hF (by kernel_rfl) fun fr hF => ?_
 obtain ⟨x1, hx1, h⟩ := bindE h
 obtain ⟨A1, R1, hsA, hsR, hdA, hbA, hup⟩ := Sep.call (L1 := [BX b1 83 [I p0.c.Inputs, L pa0 p0.c.Gates pc0, .map (some b2), .bool p0.full], sl59 (L pa0 p0.c.Gates pc0) p0.c.Gates, MP map81 b2 p0.line]) (L2 := []) hs hM0
 refine s_call [B b1 0, I p1, I p2] Try.call51 rfl rfl hF rfl (impl_builder_and_ok p0 p1 p2 hx1 hsA hbA hdA) fun v w1 fr hRes hF => ?_
 obtain ⟨a1, c1, rfl, _, hp, hs⟩ := hRes
 obtain ⟨S1, hp, hs⟩ := hup hp hs
 have hM0 := hM0.stp hp
 have hs : Sep [BX b1 83 [I x1.2.c.Inputs, L a1 x1.2.c.Gates c1, .map (some b2), .bool x1.2.full], sl59 (L a1 x1.2.c.Gates c1) x1.2.c.Gates, MP map81 b2 x1.2.line] w1 S1 := hs
 refine from_pure 1 [(0, B b1 0), (1, I p1), (3, I p3), (9, I x1.1)] hF (by kernel_rfl) fun fr hF => ?_
 refine from_end rfl (then_normal ?_)
 refine wp_seq (wp_text' ?_)
 refine from_pure 4 [(0, B b1 0), (9, I x1.1), (15, B b1 0), (17, I (w64 (0 - p1))), (18, I p3)] hF (by kernel_rfl) fun fr hF => ?_
 obtain ⟨x2, hx2, h⟩ := bindE h
 obtain ⟨A2, R2, hsA, hsR, hdA, hbA, hup⟩ := Sep.call (L1 := [BX b1 83 [I x1.2.c.Inputs, L a1 x1.2.c.Gates c1, .map (some b2), .bool x1.2.full], sl59 (L a1 x1.2.c.Gates c1) x1.2.c.Gates, MP map81 b2 x1.2.line]) (L2 := []) hs hM0
 refine s_call [B b1 0, I (w64 (0 - p1)), I p3] Try.call51 rfl rfl hF rfl (impl_builder_and_ok x1.2 (w64 (0 - p1)) p3 hx2 hsA hbA hdA) fun v w2 fr hRes hF => ?_
 obtain ⟨a2, c2, rfl, _, hp, hs⟩ := hRes
 obtain ⟨S2, hp, hs⟩ := hup hp hs
 have hM0 := hM0.stp hp
 have hs : Sep [BX b1 83 [I x2.2.c.Inputs, L a2 x2.2.c.Gates c2, .map (some b2), .bool x2.2.full], sl59 (L a2 x2.2.c.Gates c2) x2.2.c.Gates, MP map81 b2 x2.2.line] w2 S2 := hs
 refine from_pure 1 [(0, B b1 0), (9, I x1.1), (10, I x2.1)] hF (by kernel_rfl) fun fr hF => ?_
 refine from_end rfl (then_normal ?_)
 refine wp_seq (wp_text' ?_)
 refine from_pure 3 [(20, B b1 0), (21, I x1.1), (22, I x2.1)] hF (by kernel_rfl) fun fr hF => ?_
 obtain ⟨x3, hx3, h⟩ := bindE h
 obtain ⟨A3, R3, hsA, hsR, hdA, hbA, hup⟩ := Sep.call (L1 := [BX b1 83 [I x2.2.c.Inputs, L a2 x2.2.c.Gates c2, .map (some b2), .bool x2.2.full], sl59 (L a2 x2.2.c.Gates c2) x2.2.c.Gates, MP map81 b2 x2.2.line]) (L2 := []) hs hM0
 refine s_call [B b1 0, I x1.1, I x2.1] Try.call57 rfl rfl hF rfl (impl_builder_or_ok x2.2 x1.1 x2.1 hx3 hsA hbA hdA) fun v w3 fr hRes hF => ?_
 obtain ⟨a3, c3, rfl, _, hp, hs⟩ := hRes
 obtain ⟨S3, hp, hs⟩ := hup hp hs
 have hM0 := hM0.stp hp
 have hs : Sep [BX b1 83 [I x3.2.c.Inputs, L a3 x3.2.c.Gates c3, .map (some b2), .bool x3.2.full], sl59 (L a3 x3.2.c.Gates c3) x3.2.c.Gates, MP map81 b2 x3.2.line] w3 S3 := hs
 refine from_pure 1 [(8, I x3.1)] hF (by kernel_rfl) fun fr hF => ?_
 refine from_end rfl (then_normal ?_)
 obtain rfl := Option.some.inj h
 exact wp_ret (ret1 rfl hF rfl ⟨_, rfl, a3, c3, rfl, S3, hM0.out, hs⟩)

theorem impl_builder_divide_ok (n : Nat) (p0 : D.builder) (p1 : List Int) (p2 : List Int) {r : (List Int) × (List Int) × D.builder} (h : impl_builder_divide n p0 p1 p2 = some r) {w : World} {S0 F0 : Nat → Prop} {pa0 : Option Addr} {pn0 pc0 : Nat} {b1 : Nat} {b2 : Nat} (hs : Sep [BX b1 83 [I p0.c.Inputs, .slice pa0 pn0 pc0, .map (some b2), .bool p0.full], sl59 (.slice pa0 pn0 pc0) p0.c.Gates, MP map81 b2 p0.line] w S0) (hb : ∀ k, S0 k → k < w.heap.size) (hd : ∀ k, S0 k → F0 k → False) {va1 : Value} (ra1 : RV w F0 va1 p1) {va2 : Value} (ra2 : RV w F0 va2 p2) :
   Calls Try.prog 97 [B b1 0, va1, va2].toArray w fun e w' => ∃ v, e = .returned v ∧ ∃ a1 c1 a2 c2 a3 c3, v = .tuple #[L a1 r.1 c1, L a2 r.2.1 c2] ∧ ∃ S', Stp w S0 w' S' ∧ Sep [sl3 (L a1 r.1 c1) r.1, sl3 (L a2 r.2.1 c2) r.2.1, BX b1 83 [I r.2.2.c.Inputs, L a3 r.2.2.c.Gates c3, .map (some b2), .bool r.2.2.full], sl59 (L a3 r.2.2.c.Gates c3) r.2.2.c.Gates, MP map81 b2 r.2.2.line] w' S' := by
 unfold impl_builder_divide at h
 obtain ⟨hpn, hs⟩ := hs.relen 1 rfl
 subst hpn
 have hs : Sep [BX b1 83 [I p0.c.Inputs, L pa0 p0.c.Gates pc0, .map (some b2), .bool p0.full], sl59 (L pa0 p0.c.Gates pc0) p0.c.Gates, MP map81 b2 p0.line] w S0 := hs
 have hM0 : Mem w S0 (fun k => F0 k ∧ k < w.heap.size) w S0 (fun k => F0 k ∧ k < w.heap.size) := Mem.start hb (fun _ h => h.2) (fun k h1 h2 => hd k h1 h2.1)
 have ra1 := ra1.sub (F' := (fun k => F0 k ∧ k < w.heap.size)) (fun k hk h => ⟨h, hk⟩)
 obtain ⟨a1, c1, rfl, -⟩ := ra1.slice
 have ra2 := ra2.sub (F' := (fun k => F0 k ∧ k < w.heap.size)) (fun k hk h => ⟨h, hk⟩)
 obtain ⟨a2, c2, rfl, -⟩ := ra2.slice
 refine enter (N := 73) Try.func97 rfl Try.ntmps97 rfl fun fr hF => ?_
 refine wp_seq (wp_pure [(0, B b1 0), (1, L a1 p1 c1), (2, L a2 p2 c2)] hF (by kernel_rfl) fun fr hF => then_normal ?_)
 refine wp_seq (wp_pure [(0, B b1 0), (1, L a1 p1 c1), (2, L a2 p2 c2), (8, I (len p1))] hF (by kernel_rfl) fun fr hF => then_normal ?_)
 refine wp_seq (wp_text' ?_)
 refine from_pure 1 [(0, B b1 0), (1, L a1 p1 c1), (2, L a2 p2 c2), (8, I (len p1)), (19, I (len p1))] hF (by kernel_rfl) fun fr hF => ?_
 obtain ⟨x1, hx1, h⟩ := bindE h
 refine q_make hs hM0 Try.underlying37 el3 (zero_flat _ (by kernel_rfl)) rfl rfl hF rfl rfl hx1 fun a3 c3 w1 S1 fr hs hp hF => ?_
 have ra1 := ra1.stp hM0 hp
 have ra2 := ra2.stp hM0 hp
 have hM0 := hM0.stp hp
 have hs : Sep [sl3 (L a3 x1 c3) x1, BX b1 83 [I p0.c.Inputs, L pa0 p0.c.Gates pc0, .map (some b2), .bool p0.full], sl59 (L pa0 p0.c.Gates pc0) p0.c.Gates, MP map81 b2 p0.line] w1 S1 := hs
 refine from_pure 1 [(0, B b1 0), (1, L a1 p1 c1), (2, L a2 p2 c2), (8, I (len p1)), (9, L a3 x1 c3)] hF (by kernel_rfl) fun fr hF => ?_
 refine from_end rfl (then_normal ?_)
 refine wp_seq (wp_text' ?_)
 refine from_pure 1 [(0, B b1 0), (1, L a1 p1 c1), (2, L a2 p2 c2), (8, I (len p1)), (9, L a3 x1 c3), (21, I (len p1))] hF (by kernel_rfl) fun fr hF => ?_
 obtain ⟨x2, hx2, h⟩ := bindE h
 refine s_call [I (len p1), I 0] Try.call107 rfl rfl hF rfl (impl_numberOf_ok n (len p1) 0 hx2) fun v w2 fr hRes hF => ?_
 obtain ⟨a4, c4, rfl, _, hp, hs2⟩ := hRes
 obtain ⟨S2, hp, hs⟩ := hs.got hM0 hp hs2
 have ra1 := ra1.stp hM0 hp
 have ra2 := ra2.stp hM0 hp
 have hM0 := hM0.stp hp
 have hs : Sep [sl3 (L a4 x2 c4) x2, sl3 (L a3 x1 c3) x1, BX b1 83 [I p0.c.Inputs, L pa0 p0.c.Gates pc0, .map (some b2), .bool p0.full], sl59 (L pa0 p0.c.Gates pc0) p0.c.Gates, MP map81 b2 p0.line] w2 S2 := hs
 refine from_pure 1 [(0, B b1 0), (1, L a1 p1 c1), (2, L a2 p2 c2), (8, I (len p1)), (9, L a3 x1 c3), (10, L a4 x2 c4)] hF (by kernel_rfl) fun fr hF => ?_
 refine from_end rfl (then_normal ?_)
 refine wp_seq (wp_text' ?_)
 refine from_pure 1 [(0, B b1 0), (1, L a1 p1 c1), (8, I (len p1)), (9, L a3 x1 c3), (10, L a4 x2 c4), (23, L a2 p2 c2)] hF (by kernel_rfl) fun fr hF => ?_
 obtain ⟨x3, hx3, h⟩ := bindE h
 refine s_call [L a2 p2 c2] Try.call95 rfl rfl hF rfl (impl_opposites_ok n p2 hx3 (ra2)) fun v w3 fr hRes hF => ?_
 obtain ⟨a5, c5, rfl, _, hp, hs2⟩ := hRes
 obtain ⟨S3, hp, hs⟩ := hs.got hM0 hp hs2
 have ra1 := ra1.stp hM0 hp
 have ra2 := ra2.stp hM0 hp
 have hM0 := hM0.stp hp
 have hs : Sep [sl3 (L a5 x3 c5) x3, sl3 (L a4 x2 c4) x2, sl3 (L a3 x1 c3) x1, BX b1 83 [I p0.c.Inputs, L pa0 p0.c.Gates pc0, .map (some b2), .bool p0.full], sl59 (L pa0 p0.c.Gates pc0) p0.c.Gates, MP map81 b2 p0.line] w3 S3 := hs
 refine q_lit (E := 3) hs hM0 [I 1] (([1] : List Int).map Flat.enc) ([1] : List Int) rfl rfl hF [I 1] rfl (fun w => by kernel_rfl) (css_flat _) rfl rfl rfl fun a6 c6 w4 S4 fr hs hp hF => ?_
 have ra1 := ra1.stp hM0 hp
 have hM0 := hM0.stp hp
 have hs : Sep [sl3 (L a6 ([1] : List Int) c6) ([1] : List Int), sl3 (L a5 x3 c5) x3, sl3 (L a4 x2 c4) x2, sl3 (L a3 x1 c3) x1, BX b1 83 [I p0.c.Inputs, L pa0 p0.c.Gates pc0, .map (some b2), .bool p0.full], sl59 (L pa0 p0.c.Gates pc0) p0.c.Gates, MP map81 b2 p0.line] w4 S4 := hs
 obtain ⟨x4, hx4, h⟩ := bindE h
 refine q_append 1 hs hM0 rfl Try.underlying37 el3 rfl rfl rfl hF rfl rfl (hs.rv 0 rfl) hx4 fun a7 c7 w5 S5 fr hs hp hF => ?_
 have ra1 := ra1.stp hM0 hp
 have hM0 := hM0.stp hp
 have hs : Sep [sl3 (L a6 ([1] : List Int) c6) ([1] : List Int), sl3 (L a7 x4 c7) x4, sl3 (L a4 x2 c4) x2, sl3 (L a3 x1 c3) x1, BX b1 83 [I p0.c.Inputs, L pa0 p0.c.Gates pc0, .map (some b2), .bool p0.full], sl59 (L pa0 p0.c.Gates pc0) p0.c.Gates, MP map81 b2 p0.line] w5 S5 := hs
 have hs : Sep [sl3 (L a7 x4 c7) x4, sl3 (L a4 x2 c4) x2, sl3 (L a3 x1 c3) x1, BX b1 83 [I p0.c.Inputs, L pa0 p0.c.Gates pc0, .map (some b2), .bool p0.full], sl59 (L pa0 p0.c.Gates pc0) p0.c.Gates, MP map81 b2 p0.line] w5 S5 := Sep.pick [1, 2, 3, 4, 5, 6] hs (by decide) rfl
 refine from_pure 1 [(0, B b1 0), (1, L a1 p1 c1), (8, I (len p1)), (9, L a3 x1 c3), (10, L a4 x2 c4), (11, L a7 x4 c7)] hF (by kernel_rfl) fun fr hF => ?_
 refine from_end rfl (then_normal ?_)
 refine wp_seq ?_
 refine wp_seq (wp_pure [(0, B b1 0), (1, L a1 p1 c1), (9, L a3 x1 c3), (10, L a4 x2 c4), (11, L a7 x4 c7), (12, I (w64 ((len p1) - 1)))] hF (by kernel_rfl) fun fr hF => then_normal ?_)
 obtain ⟨rl1, hit1, h⟩ := bindE h
 have hk1 := h
 refine (wp_cut (M := fun fr w' => ∃ a9 c9 S7 F2, FrS 73 [(9, L a3 x1 c3), (10, L a4 x2 c4)] fr ∧ Mem w5 S5 (fun k => F0 k ∧ k < w.heap.size) w' S7 F2 ∧ Sep [sl3 (L a4 x2 c4) rl1.1, sl3 (L a3 x1 c3) rl1.2.1, BX b1 83 [I rl1.2.2.1, L a9 rl1.2.2.2.2.1 c9, .map (some b2), .bool rl1.2.2.2.1], sl59 (L a9 rl1.2.2.2.2.1 c9) rl1.2.2.2.2.1, MP map81 b2 rl1.2.2.2.2.2] w' S7) (wp_block (wp_iter (Inv := fun s1 fr w' => ∃ a8 c8 S6 F1, FrS 73 [(0, B b1 0), (1, L a1 p1 c1), (9, L a3 x1 c3), (10, L a4 x2 c4), (11, L a7 x4 c7), (12, I s1.1)] fr ∧ Mem w5 S5 (fun k => F0 k ∧ k < w.heap.size) w' S6 F1 ∧ Sep [sl3 (L a7 x4 c7) x4, sl3 (L a4 x2 c4) s1.2.1, sl3 (L a3 x1 c3) s1.2.2.1, BX b1 83 [I s1.2.2.2.1, L a8 s1.2.2.2.2.2.1 c8, .map (some b2), .bool s1.2.2.2.2.1], sl59 (L a8 s1.2.2.2.2.2.1 c8) s1.2.2.2.2.2.1, MP map81 b2 s1.2.2.2.2.2.2] w' S6) hit1 ⟨pa0, pc0, S5, _, hF.sub _ (by kernel_rfl), (Mem.start hM0.bd hM0.bdF hM0.dj), hs⟩ fun s1 q1 fr w1i hI h hr1 => ?_)) fun fr w1o hM => ?_)
 · obtain ⟨a8, c8, S6, F1, hF, hM1, hs⟩ := hI
   have ra1 := ra1.mem hM1
   refine wp_seq ?_
   refine wp_seq (wp_pure [(0, B b1 0), (1, L a1 p1 c1), (9, L a3 x1 c3), (10, L a4 x2 c4), (11, L a7 x4 c7), (12, I s1.1), (30, .bool (decide (s1.1 ≥ 0)))] hF (by kernel_rfl) fun fr hF => then_normal ?_)
   refine (wp_if hF (b := (decide (s1.1 ≥ 0))) rfl (fun hb => ?_) (fun hb => ?_))
   · replace h := iteT hb h
     refine (wp_skip (then_normal ?_))
     refine wp_seq (wp_block ?_)
     refine wp_seq (wp_text' ?_)
     refine from_pure 2 [(0, B b1 0), (1, L a1 p1 c1), (9, L a3 x1 c3), (10, L a4 x2 c4), (11, L a7 x4 c7), (12, I s1.1), (33, L a1 p1 c1), (34, I s1.1)] hF (by kernel_rfl) fun fr hF => ?_
     obtain ⟨x5, hx5, h⟩ := bindE h
     refine s_elemF (z := x5) (I x5) ty3 Try.underlying37 rfl rfl rfl rfl rfl hF rfl (ra1) rfl (get?_nn hx5) (get?_at hx5) rfl fun p fr hF => ?_
     refine q_lit (E := 3) hs hM1 [I x5] (([x5] : List Int).map Flat.enc) ([x5] : List Int) rfl rfl hF [I x5] rfl (fun w => by kernel_rfl) (css_flat _) rfl rfl rfl fun a10 c10 w6 S8 fr hs hp hF => ?_
     have ra1 := ra1.stp hM1 hp
     have hM1 := hM1.stp hp
     have hs : Sep [sl3 (L a10 ([x5] : List Int) c10) ([x5] : List Int), sl3 (L a7 x4 c7) x4, sl3 (L a4 x2 c4) s1.2.1, sl3 (L a3 x1 c3) s1.2.2.1, BX b1 83 [I s1.2.2.2.1, L a8 s1.2.2.2.2.2.1 c8, .map (some b2), .bool s1.2.2.2.2.1], sl59 (L a8 s1.2.2.2.2.2.1 c8) s1.2.2.2.2.2.1, MP map81 b2 s1.2.2.2.2.2.2] w6 S8 := hs
     refine from_pure 1 [(0, B b1 0), (1, L a1 p1 c1), (9, L a3 x1 c3), (10, L a4 x2 c4), (11, L a7 x4 c7), (12, I s1.1), (37, L a10 ([x5] : List Int) c10), (38, L a4 x2 c4)] hF (by kernel_rfl) fun fr hF => ?_
     obtain ⟨x6, hx6, h⟩ := bindE h
     refine q_append 0 hs hM1 rfl Try.underlying37 el3 rfl rfl rfl hF rfl rfl (hs.rv 2 rfl) hx6 fun a11 c11 w7 S9 fr hs hp hF => ?_
     have ra1 := ra1.stp hM1 hp
     have hM1 := hM1.stp hp
     have hs : Sep [sl3 (L a11 x6 c11) x6, sl3 (L a7 x4 c7) x4, sl3 (L a4 x2 c4) s1.2.1, sl3 (L a3 x1 c3) s1.2.2.1, BX b1 83 [I s1.2.2.2.1, L a8 s1.2.2.2.2.2.1 c8, .map (some b2), .bool s1.2.2.2.2.1], sl59 (L a8 s1.2.2.2.2.2.1 c8) s1.2.2.2.2.2.1, MP map81 b2 s1.2.2.2.2.2.2] w7 S9 := hs
     refine from_pure 1 [(0, B b1 0), (1, L a1 p1 c1), (9, L a3 x1 c3), (10, L a4 x2 c4), (11, L a7 x4 c7), (12, I s1.1), (13, L a11 x6 c11)] hF (by kernel_rfl) fun fr hF => ?_
     refine from_end rfl (then_normal ?_)
     refine wp_seq (wp_text' ?_)
     refine from_pure 3 [(0, B b1 0), (1, L a1 p1 c1), (9, L a3 x1 c3), (10, L a4 x2 c4), (11, L a7 x4 c7), (12, I s1.1), (13, L a11 x6 c11), (41, B b1 0), (42, L a11 x6 c11), (43, L a7 x4 c7)] hF (by kernel_rfl) fun fr hF => ?_
     obtain ⟨x7, hx7, h⟩ := bindE h
     have hs : Sep [BX b1 83 [I s1.2.2.2.1, L a8 s1.2.2.2.2.2.1 c8, .map (some b2), .bool s1.2.2.2.2.1], sl59 (L a8 s1.2.2.2.2.2.1 c8) s1.2.2.2.2.2.1, MP map81 b2 s1.2.2.2.2.2.2, sl3 (L a11 x6 c11) x6, sl3 (L a7 x4 c7) x4, sl3 (L a4 x2 c4) s1.2.1, sl3 (L a3 x1 c3) s1.2.2.1] w7 S9 := Sep.pick [4, 5, 6, 0, 1, 2, 3] hs (by decide) rfl
     obtain ⟨A1, R1, hsA, hsR, hdA, hbA, hup⟩ := Sep.call (L1 := [BX b1 83 [I s1.2.2.2.1, L a8 s1.2.2.2.2.2.1 c8, .map (some b2), .bool s1.2.2.2.2.1], sl59 (L a8 s1.2.2.2.2.2.1 c8) s1.2.2.2.2.2.1, MP map81 b2 s1.2.2.2.2.2.2]) (L2 := [sl3 (L a11 x6 c11) x6, sl3 (L a7 x4 c7) x4, sl3 (L a4 x2 c4) s1.2.1, sl3 (L a3 x1 c3) s1.2.2.1]) hs hM1
     refine s_call [B b1 0, L a11 x6 c11, L a7 x4 c7, I 1] Try.call69 rfl rfl hF rfl (impl_builder_add_ok n (D.builder.mk (D.Circuit.mk s1.2.2.2.1 s1.2.2.2.2.2.1) s1.2.2.2.2.2.2 s1.2.2.2.2.1) x6 x4 1 hx7 hsA hbA hdA ((hsR.rv 0 rfl).big (fun _ h => .inr h)) ((hsR.rv 1 rfl).big (fun _ h => .inr h))) fun v w8 fr hRes hF => ?_
     obtain ⟨a12, c12, a13, c13, rfl, _, hp, hs⟩ := hRes
     obtain ⟨S10, hp, hs⟩ := hup hp hs
     have ra1 := ra1.stp hM1 hp
     have hM1 := hM1.stp hp
     have hs : Sep [sl3 (L a12 x7.1 c12) x7.1, BX b1 83 [I x7.2.2.c.Inputs, L a13 x7.2.2.c.Gates c13, .map (some b2), .bool x7.2.2.full], sl59 (L a13 x7.2.2.c.Gates c13) x7.2.2.c.Gates, MP map81 b2 x7.2.2.line, sl3 (L a11 x6 c11) x6, sl3 (L a7 x4 c7) x4, sl3 (L a4 x2 c4) s1.2.1, sl3 (L a3 x1 c3) s1.2.2.1] w8 S10 := hs
     refine from_pure 5 [(0, B b1 0), (1, L a1 p1 c1), (9, L a3 x1 c3), (10, L a4 x2 c4), (11, L a7 x4 c7), (12, I s1.1), (13, L a11 x6 c11), (14, L a12 x7.1 c12), (15, I x7.2.1)] hF (by kernel_rfl) fun fr hF => ?_
     refine from_end rfl (then_normal ?_)
     refine wp_seq (wp_text' ?_)
     refine from_pure 3 [(0, B b1 0), (1, L a1 p1 c1), (9, L a3 x1 c3), (10, L a4 x2 c4), (11, L a7 x4 c7), (12, I s1.1), (13, L a11 x6 c11), (14, L a12 x7.1 c12), (15, I x7.2.1), (47, L a3 x1 c3), (48, I s1.1), (49, I x7.2.1)] hF (by kernel_rfl) fun fr hF => ?_
     obtain ⟨x8, hx8, h⟩ := bindE h
     refine q_set (q := x7.2.1) 7 hs hM1 rfl Try.underlying37 ty3 rfl rfl rfl rfl hF rfl rfl (by simp) rfl rfl hx8 fun w9 S11 fr _ hs hp hF => ?_
     have ra1 := ra1.stp hM1 hp
     have hM1 := hM1.stp hp
     have hs : Sep [sl3 (L a12 x7.1 c12) x7.1, BX b1 83 [I x7.2.2.c.Inputs, L a13 x7.2.2.c.Gates c13, .map (some b2), .bool x7.2.2.full], sl59 (L a13 x7.2.2.c.Gates c13) x7.2.2.c.Gates, MP map81 b2 x7.2.2.line, sl3 (L a11 x6 c11) x6, sl3 (L a7 x4 c7) x4, sl3 (L a4 x2 c4) s1.2.1, sl3 (L a3 x1 c3) x8] w9 S11 := hs
     refine from_end rfl (then_normal ?_)
     refine wp_seq (wp_pure [(0, B b1 0), (1, L a1 p1 c1), (9, L a3 x1 c3), (10, L a4 x2 c4), (11, L a7 x4 c7), (12, I s1.1), (13, L a11 x6 c11), (14, L a12 x7.1 c12), (15, I x7.2.1), (52, I (len x2)), (53, I 0)] hF (by kernel_rfl) fun fr hF => then_normal ?_)
     obtain ⟨rl2, hit2, h⟩ := bindE h
     have hk2 := h
     refine (wp_cut' (M := fun fr w' => ∃ a15 c15 S13 F4, FrS 73 [(0, B b1 0), (1, L a1 p1 c1), (9, L a3 x1 c3), (10, L a4 x2 c4), (11, L a7 x4 c7), (12, I s1.1)] fr ∧ Mem w9 S11 F1 w' S13 F4 ∧ Sep [BX b1 83 [I rl2.1, L a15 rl2.2.2.1 c15, .map (some b2), .bool rl2.2.1], sl59 (L a15 rl2.2.2.1 c15) rl2.2.2.1, MP map81 b2 rl2.2.2.2.1, sl3 (L a7 x4 c7) x4, sl3 (L a4 x2 c4) rl2.2.2.2.2, sl3 (L a3 x1 c3) x8] w' S13) (wp_block (wp_iter (Inv := fun s2 fr w' => ∃ a14 c14 S12 F3, FrS 73 [(0, B b1 0), (1, L a1 p1 c1), (9, L a3 x1 c3), (10, L a4 x2 c4), (11, L a7 x4 c7), (12, I s1.1), (13, L a11 x6 c11), (14, L a12 x7.1 c12), (15, I x7.2.1), (52, I (len x2)), (53, I s2.1)] fr ∧ Mem w9 S11 F1 w' S12 F3 ∧ Sep [sl3 (L a12 x7.1 c12) x7.1, BX b1 83 [I s2.2.1, L a14 s2.2.2.2.1 c14, .map (some b2), .bool s2.2.2.1], sl59 (L a14 s2.2.2.2.1 c14) s2.2.2.2.1, MP map81 b2 s2.2.2.2.2.1, sl3 (L a11 x6 c11) x6, sl3 (L a7 x4 c7) x4, sl3 (L a4 x2 c4) s2.2.2.2.2.2, sl3 (L a3 x1 c3) x8] w' S12) hit2 ⟨a13, c13, S11, _, hF.sub _ (by kernel_rfl), (Mem.start hM1.bd hM1.bdF hM1.dj), hs⟩ fun s2 q2 fr w2i hI h hr2 => ?_)) fun fr w2o hM => ?_)
     · obtain ⟨a14, c14, S12, F3, hF, hM2, hs⟩ := hI
       have ra1 := ra1.mem hM2
       refine wp_seq (wp_pure [(0, B b1 0), (1, L a1 p1 c1), (9, L a3 x1 c3), (10, L a4 x2 c4), (11, L a7 x4 c7), (12, I s1.1), (13, L a11 x6 c11), (14, L a12 x7.1 c12), (15, I x7.2.1), (52, I (len x2)), (53, I s2.1), (54, .bool (decide (s2.1 < (len x2))))] hF (by kernel_rfl) fun fr hF => then_normal ?_)
       refine wp_seq (wp_if hF (b := (decide (s2.1 < (len x2)))) rfl (fun hb => ?_) (fun hb => ?_))
       · replace h := iteT hb h
         refine (wp_skip (then_normal ?_))
         refine wp_seq (wp_block ?_)
         refine wp_seq (wp_pure [(0, B b1 0), (1, L a1 p1 c1), (9, L a3 x1 c3), (10, L a4 x2 c4), (11, L a7 x4 c7), (12, I s1.1), (13, L a11 x6 c11), (14, L a12 x7.1 c12), (15, I x7.2.1), (16, I s2.1), (52, I (len x2)), (53, I s2.1)] hF (by kernel_rfl) fun fr hF => then_normal ?_)
         refine (wp_ra mix ?_)
         refine ra_hoist 1 (by kernel_rfl) (fun _ _ _ _ _ h => h) ?_
         refine ra_hoist 0 (by kernel_rfl) (fun _ _ _ _ _ h => h) ?_
         obtain ⟨x9, hx9, h⟩ := bindE h
         obtain ⟨x10, hx10, h⟩ := bindE h
         refine (ra_bm 12 [0, 1, 3, 3, 3, 3, 51, 115, 3, 3, 771, 1795, 4095, 8191, 16383] [true, true, true, true, true, true, false, false, true, true, false, false]
             [.eq (L a4 x2 c4), .eq (I s2.1), .eq (B b1 0), .eq (I x7.2.1), .eq (L a12 x7.1 c12), .eq (I s2.1), .is fun v w => ElemP w (fun k => k < w2i.heap.size) v (x9 : Int), .eq (I x9), .eq (L a11 x6 c11), .eq (I s2.1), .is fun v w => ElemP w (fun k => k < w2i.heap.size) v (x10 : Int), .eq (I x10), .any, .any, .any]
             [(0, B b1 0), (1, L a1 p1 c1), (9, L a3 x1 c3), (10, L a4 x2 c4), (11, L a7 x4 c7), (12, I s1.1), (13, L a11 x6 c11), (14, L a12 x7.1 c12), (15, I x7.2.1), (52, I (len x2)), (53, I s2.1), (56, L a4 x2 c4), (57, I s2.1), (58, B b1 0), (59, I x7.2.1), (63, I x9), (67, I x10)] hF (by kernel_rfl) (by kernel_rfl) (by kernel_rfl) (by kernel_rfl) ⟨(Pd.monoO_is mono_elem), Pd.monoO_eq, (Pd.monoO_is mono_elem), Pd.monoO_eq, trivial⟩ (fun ow hG => ⟨np_to ow (np_index hG hF ty3 Try.underlying37 rfl rfl (RV.sub (hs.rv 0 rfl) fun k hk _ => hk) rfl rfl (fun hg => ⟨get?_nn hx9, get?_at hx9⟩)), np_to ow (np_loadF (z := x9) (i := 6) hG hF ty3 rfl rfl rfl rfl rfl rfl rfl), np_to ow (np_index hG hF ty3 Try.underlying37 rfl rfl (RV.sub (hs.rv 4 rfl) fun k hk _ => hk) rfl rfl (fun hg => ⟨get?_nn hx10, get?_at hx10⟩)), np_to ow (np_loadF (z := x10) (i := 10) hG hF ty3 rfl rfl rfl rfl rfl rfl rfl), trivial⟩) (by kernel_rfl) fun ow fr w10 hF hE hc => ?_)
         have ra1 := ra1.ext hc
         have hs := hs.ext hc
         have hM2 := hM2.ext hc
         obtain ⟨x11, hx11, h⟩ := bindE h
         have hs : Sep [BX b1 83 [I s2.2.1, L a14 s2.2.2.2.1 c14, .map (some b2), .bool s2.2.2.1], sl59 (L a14 s2.2.2.2.1 c14) s2.2.2.2.1, MP map81 b2 s2.2.2.2.2.1, sl3 (L a12 x7.1 c12) x7.1, sl3 (L a11 x6 c11) x6, sl3 (L a7 x4 c7) x4, sl3 (L a4 x2 c4) s2.2.2.2.2.2, sl3 (L a3 x1 c3) x8] w10 S12 := Sep.pick [1, 2, 3, 0, 4, 5, 6, 7] hs (by decide) rfl
         obtain ⟨A2, R2, hsA, hsR, hdA, hbA, hup⟩ := Sep.call (L1 := [BX b1 83 [I s2.2.1, L a14 s2.2.2.2.1 c14, .map (some b2), .bool s2.2.2.1], sl59 (L a14 s2.2.2.2.1 c14) s2.2.2.2.1, MP map81 b2 s2.2.2.2.2.1]) (L2 := [sl3 (L a12 x7.1 c12) x7.1, sl3 (L a11 x6 c11) x6, sl3 (L a7 x4 c7) x4, sl3 (L a4 x2 c4) s2.2.2.2.2.2, sl3 (L a3 x1 c3) x8]) hs hM2
         refine s_call [B b1 0, I x7.2.1, I x9, I x10] Try.call63 rfl rfl hF rfl (impl_builder_choose_ok (D.builder.mk (D.Circuit.mk s2.2.1 s2.2.2.2.1) s2.2.2.2.2.1 s2.2.2.1) x7.2.1 x9 x10 hx11 hsA hbA hdA) fun v w11 fr hRes hF => ?_
         obtain ⟨a16, c16, rfl, _, hp, hs⟩ := hRes
         obtain ⟨S14, hp, hs⟩ := hup hp hs
         have ra1 := ra1.stp hM2 hp
         have hM2 := hM2.stp hp
         have hs : Sep [BX b1 83 [I x11.2.c.Inputs, L a16 x11.2.c.Gates c16, .map (some b2), .bool x11.2.full], sl59 (L a16 x11.2.c.Gates c16) x11.2.c.Gates, MP map81 b2 x11.2.line, sl3 (L a12 x7.1 c12) x7.1, sl3 (L a11 x6 c11) x6, sl3 (L a7 x4 c7) x4, sl3 (L a4 x2 c4) s2.2.2.2.2.2, sl3 (L a3 x1 c3) x8] w11 S14 := hs
         obtain ⟨x12, hx12, h⟩ := bindE h
         refine q_set (q := x11.1) 6 hs hM2 rfl Try.underlying37 ty3 rfl rfl rfl rfl hF rfl rfl (by simp) rfl rfl hx12 fun w12 S15 fr _ hs hp hF => ?_
         have ra1 := ra1.stp hM2 hp
         have hM2 := hM2.stp hp
         have hs : Sep [BX b1 83 [I x11.2.c.Inputs, L a16 x11.2.c.Gates c16, .map (some b2), .bool x11.2.full], sl59 (L a16 x11.2.c.Gates c16) x11.2.c.Gates, MP map81 b2 x11.2.line, sl3 (L a12 x7.1 c12) x7.1, sl3 (L a11 x6 c11) x6, sl3 (L a7 x4 c7) x4, sl3 (L a4 x2 c4) x12, sl3 (L a3 x1 c3) x8] w12 S15 := hs
         refine from_end rfl ?_
         refine blk_normal (then_normal ?_)
         refine (wp_pure [(0, B b1 0), (1, L a1 p1 c1), (9, L a3 x1 c3), (10, L a4 x2 c4), (11, L a7 x4 c7), (12, I s1.1), (13, L a11 x6 c11), (14, L a12 x7.1 c12), (15, I x7.2.1), (52, I (len x2)), (53, I (w64 (s2.1 + 1)))] hF (by kernel_rfl) fun fr hF => then_normal ?_)
         have hs : Sep [sl3 (L a12 x7.1 c12) x7.1, BX b1 83 [I x11.2.c.Inputs, L a16 x11.2.c.Gates c16, .map (some b2), .bool x11.2.full], sl59 (L a16 x11.2.c.Gates c16) x11.2.c.Gates, MP map81 b2 x11.2.line, sl3 (L a11 x6 c11) x6, sl3 (L a7 x4 c7) x4, sl3 (L a4 x2 c4) x12, sl3 (L a3 x1 c3) x8] w12 S15 := Sep.pick [3, 0, 1, 2, 4, 5, 6, 7] hs (by decide) rfl
         exact ⟨_, (Option.some.inj h).symm, a16, c16, S15, _, hF.sub _ (by kernel_rfl), hM2, hs⟩
       replace h := iteF hb h
       have hs : Sep [BX b1 83 [I s2.2.1, L a14 s2.2.2.2.1 c14, .map (some b2), .bool s2.2.2.1], sl59 (L a14 s2.2.2.2.1 c14) s2.2.2.2.1, MP map81 b2 s2.2.2.2.2.1, sl3 (L a7 x4 c7) x4, sl3 (L a4 x2 c4) s2.2.2.2.2.2, sl3 (L a3 x1 c3) x8] w2i S12 := Sep.pick [1, 2, 3, 5, 6, 7] hs (by decide) rfl
       refine (wp_exit (then_exit (then_exit (blk_exit_eq ?_))))
       obtain rfl := hr2 _ (Option.some.inj h).symm
       exact then_normal ⟨a14, c14, S12, _, hF.sub _ (by kernel_rfl), hM2, hs⟩
     · obtain ⟨a15, c15, S13, F4, hF, hMx, hs⟩ := hM
       have ra1 := ra1.mem hMx
       have hM1 := hM1.trans hMx
       refine blk_normal (then_normal ?_)
       refine (wp_pure [(0, B b1 0), (1, L a1 p1 c1), (9, L a3 x1 c3), (10, L a4 x2 c4), (11, L a7 x4 c7), (12, I (w64 (s1.1 - 1)))] hF (by kernel_rfl) fun fr hF => then_normal ?_)
       have hs : Sep [sl3 (L a7 x4 c7) x4, sl3 (L a4 x2 c4) rl2.2.2.2.2, sl3 (L a3 x1 c3) x8, BX b1 83 [I rl2.1, L a15 rl2.2.2.1 c15, .map (some b2), .bool rl2.2.1], sl59 (L a15 rl2.2.2.1 c15) rl2.2.2.1, MP map81 b2 rl2.2.2.2.1] w2o S13 := Sep.pick [3, 4, 5, 0, 1, 2] hs (by decide) rfl
       exact ⟨_, (Option.some.inj h).symm, a15, c15, S13, _, hF.sub _ (by kernel_rfl), hM1, hs⟩
   replace h := iteF hb h
   have hs : Sep [sl3 (L a4 x2 c4) s1.2.1, sl3 (L a3 x1 c3) s1.2.2.1, BX b1 83 [I s1.2.2.2.1, L a8 s1.2.2.2.2.2.1 c8, .map (some b2), .bool s1.2.2.2.2.1], sl59 (L a8 s1.2.2.2.2.2.1 c8) s1.2.2.2.2.2.1, MP map81 b2 s1.2.2.2.2.2.2] w1i S6 := Sep.pick [1, 2, 3, 4, 5] hs (by decide) rfl
   refine (wp_exit (then_exit (then_exit (blk_exit_eq ?_))))
   obtain rfl := hr1 _ (Option.some.inj h).symm
   exact then_normal ⟨a8, c8, S6, _, hF.sub _ (by kernel_rfl), hM1, hs⟩
 · obtain ⟨a9, c9, S7, F2, hF, hMx, hs⟩ := hM
   have hM0 := hM0.trans hMx
   refine wp_seq (wp_pure [(6, L a3 x1 c3), (7, L a4 x2 c4)] hF (by kernel_rfl) fun fr hF => then_normal ?_)
   have hrets := fun {σ : List (Nat × Value)} (h : σ = [(6, L a3 x1 c3), (7, L a4 x2 c4)]) => (by subst h; exact (Rets.tmp rfl (Rets.tmp rfl Rets.nil)) : Rets Try.prog σ w1o [.tmp 6, .tmp 7] [L a3 x1 c3, L a4 x2 c4])
   obtain rfl := Option.some.inj h
   have hs : Sep [sl3 (L a3 x1 c3) rl1.2.1, sl3 (L a4 x2 c4) rl1.1, BX b1 83 [I rl1.2.2.1, L a9 rl1.2.2.2.2.1 c9, .map (some b2), .bool rl1.2.2.2.1], sl59 (L a9 rl1.2.2.2.2.1 c9) rl1.2.2.2.2.1, MP map81 b2 rl1.2.2.2.2.2] w1o S7 := Sep.pick [1, 0, 2, 3, 4] hs (by decide) rfl
   obtain ⟨he1, hs⟩ := hs.relen 0 rfl
   have hs : Sep [sl3 (L a3 rl1.2.1 c3) rl1.2.1, sl3 (L a4 x2 c4) rl1.1, BX b1 83 [I rl1.2.2.1, L a9 rl1.2.2.2.2.1 c9, .map (some b2), .bool rl1.2.2.2.1], sl59 (L a9 rl1.2.2.2.2.1 c9) rl1.2.2.2.2.1, MP map81 b2 rl1.2.2.2.2.2] w1o S7 := hs
   obtain ⟨he2, hs⟩ := hs.relen 1 rfl
   have hs : Sep [sl3 (L a3 rl1.2.1 c3) rl1.2.1, sl3 (L a4 rl1.1 c4) rl1.1, BX b1 83 [I rl1.2.2.1, L a9 rl1.2.2.2.2.1 c9, .map (some b2), .bool rl1.2.2.2.1], sl59 (L a9 rl1.2.2.2.2.1 c9) rl1.2.2.2.2.1, MP map81 b2 rl1.2.2.2.2.2] w1o S7 := hs
   exact wp_ret (retG (rs := [.tmp 6, .tmp 7]) rfl (hF.sub [(6, L a3 x1 c3), (7, L a4 x2 c4)] (by kernel_rfl)) (hrets rfl) rfl ⟨_, rfl, a3, c3, a4, c4, a9, c9, (by simp only [L, he1, he2]; rfl), S7, hM0.out, hs⟩)

theorem slices_Clone___int_int__ok (p0 : List Int) {r : (List Int)} (h : slices_Clone___int_int_ p0 = some r) {w : World} {G0 : Nat → Prop} {va0 : Value} (ra0 : RV w G0 va0 p0) :
   Calls Try.prog 108 [va0].toArray w fun e w' => ∃ v, e = .returned v ∧ ∃ a1 c1, v = L a1 r c1 ∧ ∃ S', Stp w Non w' S' ∧ Sep [sl3 (L a1 r c1) r] w' S' := by
 unfold slices_Clone___int_int_ at h
 have hs := Sep.nil w Non
 have hM0 : Mem w Non (fun k => (G0 k) ∧ k < w.heap.size) w Non (fun k => (G0 k) ∧ k < w.heap.size) := Mem.start (fun _ h => h.elim) (fun _ h => h.2) (fun _ h => h.elim)
 have ra0 := ra0.sub (F' := (fun k => (G0 k) ∧ k < w.heap.size)) (fun k hk h => ⟨h, hk⟩)
 obtain ⟨a1, c1, rfl, -⟩ := ra0.slice
 refine enter (N := 8) Try.func108 rfl Try.ntmps108 rfl fun fr hF => ?_
 refine wp_seq (wp_pure [(0, L a1 p0 c1)] hF (by kernel_rfl) fun fr hF => then_normal ?_)
 refine wp_seq ?_
 refine wp_seq (wp_text' ?_)
 refine from_pure 1 [(0, L a1 p0 c1), (3, L a1 p0 c1)] hF (by kernel_rfl) fun fr hF => ?_
 refine s_bin rfl rfl hF rfl rfl (nil_guard _ _ _ _ _ _ _ _ _ _) (nil_eq Try.underlying37 _ _ _ _) fun fr hF => ?_
 refine from_end rfl (then_normal ?_)
 refine (wp_if hF (b := (Option.isNone a1)) rfl (fun hb => ?_) (fun hb => ?_))
 · have hnil := nil_of ra0 (Option.isNone_iff_eq_none.1 hb)
   replace h := nil_app hnil h
   refine wp_seq (wp_pure [(2, L none ([] : List Int) 0)] hF (by kernel_rfl) fun fr hF => then_normal ?_)
   have hs : Sep [sl3 (L none ([] : List Int) 0) ([] : List Int)] w Non := hs.cons_nil (α := Int) 3
   obtain rfl := Option.some.inj h
   exact wp_ret (then_ret (ret1 rfl hF rfl ⟨_, rfl, none, 0, rfl, Non, hM0.out, hs⟩))
 · skip
   refine (wp_skip (then_normal ?_))
   refine wp_seq (wp_text' ?_)
   refine q_lit (E := 3) hs hM0 [] (([] : List Int).map Flat.enc) ([] : List Int) rfl rfl hF [] rfl (fun w => by kernel_rfl) (css_flat _) rfl rfl rfl fun a2 c2 w1 S1 fr hs hp hF => ?_
   have ra0 := ra0.stp hM0 hp
   have hM0 := hM0.stp hp
   have hs : Sep [sl3 (L a2 ([] : List Int) c2) ([] : List Int)] w1 S1 := hs
   refine from_pure 1 [(5, L a2 ([] : List Int) c2), (6, L a1 p0 c1)] hF (by kernel_rfl) fun fr hF => ?_
   obtain ⟨x1, hx1, h⟩ := bindE h
   refine q_append 0 hs hM0 rfl Try.underlying37 el3 rfl rfl rfl hF rfl rfl (ra0) hx1 fun a3 c3 w2 S2 fr hs hp hF => ?_
   have ra0 := ra0.stp hM0 hp
   have hM0 := hM0.stp hp
   have hs : Sep [sl3 (L a3 x1 c3) x1] w2 S2 := hs
   refine from_pure 1 [(2, L a3 x1 c3)] hF (by kernel_rfl) fun fr hF => ?_
   refine from_end rfl (then_normal ?_)
   obtain rfl := Option.some.inj h
   exact wp_ret (ret1 rfl hF rfl ⟨_, rfl, a3, c3, rfl, S2, hM0.out, hs⟩)
end Go.Proofs.Ytckeihpjfeonmaa
