/- Printed by gen2.py: the walks. -/
import Derived.Test.YtknlknnihinmjaaGLt
import Derived.Test.YtknlknnihinmjaaGLn
import Derived.Test.YtknlknnihinmjaaDefs
import Derived.Test.YtknlknnihinmjaaProg
import Derived.KernelRfl
import Derived.DeepKeys4
import Derived.Test.YtknlknnihinmjaaGLo
import Derived.Test.YtknlknnihinmjaaShelf
set_option linter.unusedVariables false
set_option maxRecDepth 100000
namespace Go.Proofs.Ytknlknnihinmjaa
open Go.GL Go.Maps Go.WideMaps
abbrev I (x : Int) : Value := .int .i64 x
abbrev L {α : Type} (a : Option Addr) (l : List α) (c : Nat) : Value := .slice a (List.length l) c
abbrev B (b n : Nat) : Value := .pointer (some ⟨b, n, none⟩)
abbrev sl3 : Value → List Int → HP := SL 3
abbrev sl4 : Value → List Bool → HP := SL 4
abbrev sl90 : Value → List D.Ins → HP := SL 90
theorem mix : Try.prog.follows .mixedOrders = true := by kernel_rfl
theorem ty3 : Ty Try.prog 3 Int := ⟨by kernel_rfl, by kernel_rfl⟩
theorem ty4 : Ty Try.prog 4 Bool := ⟨by kernel_rfl, by kernel_rfl⟩
theorem ty22 : Ty Try.prog 22 (List D.Ins) := ⟨by kernel_rfl, by kernel_rfl⟩
theorem ty24 : Ty Try.prog 24 D.Program := ⟨by kernel_rfl, by kernel_rfl⟩
theorem ty28 : Ty Try.prog 28 (List D.Ins) := ⟨by kernel_rfl, by kernel_rfl⟩
theorem ty30 : Ty Try.prog 30 D.Program := ⟨by kernel_rfl, by kernel_rfl⟩
theorem ty90 : Ty Try.prog 90 D.Ins := ⟨by kernel_rfl, by kernel_rfl⟩
theorem ty133 : Ty Try.prog 133 D.Ins := ⟨by kernel_rfl, by kernel_rfl⟩
theorem el3 : ElT Try.prog 3 Int := elT (by kernel_rfl)
theorem el4 : ElT Try.prog 4 Bool := elT (by kernel_rfl)
theorem el90 : ElT Try.prog 90 D.Ins := elT (by kernel_rfl)

theorem laws_szInsS_ok (p0 : List D.Ins) (p1 : Int) {r : Int} (h : laws_szInsS p0 p1 = some r) {w : World} {G0 : Nat → Prop} {va0 : Value} (ra0 : RV w G0 va0 p0) :
   Calls Try.prog 56 [va0, I p1].toArray w fun e w' => ∃ v, e = .returned v ∧ v = I r ∧ Chg Non w w' := by
 unfold laws_szInsS at h
 have hs := Sep.nil w Non
 have hM0 : Mem w Non (fun k => (G0 k) ∧ k < w.heap.size) w Non (fun k => (G0 k) ∧ k < w.heap.size) := Mem.start (fun _ h => h.elim) (fun _ h => h.2) (fun _ h => h.elim)
 have ra0 := ra0.sub (F' := (fun k => (G0 k) ∧ k < w.heap.size)) (fun k hk h => ⟨h, hk⟩)
 obtain ⟨a1, c1, rfl, -⟩ := ra0.slice
 refine enter (N := 12) Try.func56 rfl Try.ntmps56 rfl fun fr hF => ?_
 refine wp_seq (wp_pure [(0, L a1 p0 c1), (1, I p1)] hF (by kernel_rfl) fun fr hF => then_normal ?_)
 refine wp_seq (wp_pure [(1, I (w64 (p1 - (len p0))))] hF (by kernel_rfl) fun fr hF => then_normal ?_)
 refine wp_seq ?_
 refine wp_seq (wp_pure [(1, I (w64 (p1 - (len p0)))), (10, .bool (decide ((w64 (p1 - (len p0))) < 0)))] hF (by kernel_rfl) fun fr hF => then_normal ?_)
 refine (wp_if hF (b := (decide ((w64 (p1 - (len p0))) < 0))) rfl (fun hb => ?_) (fun hb => ?_))
 · replace h := iteT hb h
   refine wp_seq (wp_pure [(4, I (-1))] hF (by kernel_rfl) fun fr hF => then_normal ?_)
   obtain rfl := Option.some.inj h
   exact wp_ret (then_ret (ret1 rfl hF rfl ⟨_, rfl, rfl, hM0.chg⟩))
 replace h := iteF hb h
 refine (wp_skip (then_normal ?_))
 refine wp_seq (wp_pure [(4, I (w64 (p1 - (len p0))))] hF (by kernel_rfl) fun fr hF => then_normal ?_)
 obtain rfl := Option.some.inj h
 exact wp_ret (ret1 rfl hF rfl ⟨_, rfl, rfl, hM0.chg⟩)

theorem laws_szProgram_ok (p0 : D.Program) (p1 : Int) {r : Int} (h : laws_szProgram p0 p1 = some r) {w : World} {G0 : Nat → Prop} {va0 : Value} (ra0 : RV w G0 va0 p0) :
   Calls Try.prog 11 [va0, I p1].toArray w fun e w' => ∃ v, e = .returned v ∧ v = I r ∧ Chg Non w w' := by
 unfold laws_szProgram at h
 have hs := Sep.nil w Non
 have hM0 : Mem w Non (fun k => (G0 k) ∧ k < w.heap.size) w Non (fun k => (G0 k) ∧ k < w.heap.size) := Mem.start (fun _ h => h.elim) (fun _ h => h.2) (fun _ h => h.elim)
 have ra0 := ra0.sub (F' := (fun k => (G0 k) ∧ k < w.heap.size)) (fun k hk h => ⟨h, hk⟩)
 obtain ⟨v1, rfl, r1⟩ := RV.Program ra0
 obtain ⟨a1, c1, rfl, -⟩ := r1.slice
 refine enter (N := 12) Try.func11 rfl Try.ntmps11 rfl fun fr hF => ?_
 refine wp_seq (wp_text' ?_)
 refine q_box hs hM0 [I p0.W, I p0.Mem, I p0.In, L a1 p0.Code c1] rfl rfl hF rfl rfl fun b1 w1 S1 fr hs hp hF => ?_
 have r1 := r1.stp hM0 hp
 have hM0 := hM0.stp hp
 have hs : Sep [BX b1 24 [I p0.W, I p0.Mem, I p0.In, L a1 p0.Code c1]] w1 S1 := hs
 refine from_pure 1 [(1, I p1), (2, B b1 0)] hF (by kernel_rfl) fun fr hF => ?_
 refine from_end rfl (then_normal ?_)
 refine wp_seq (wp_text' ?_)
 refine from_pure 1 [(1, I p1), (5, B b1 3)] hF (by kernel_rfl) fun fr hF => ?_
 refine s_loadBox (L a1 p0.Code c1) ty22 rfl rfl hF rfl (hs.bx 0 rfl) rfl rfl fun fr hF => ?_
 have hs : Sep [] w1 S1 := Sep.pick [] hs (by decide) rfl
 refine from_pure 1 [(6, L a1 p0.Code c1), (7, I p1)] hF (by kernel_rfl) fun fr hF => ?_
 obtain ⟨x1, hx1, h⟩ := bindE h
 refine s_call [L a1 p0.Code c1, I p1] Try.call56 rfl rfl hF rfl (laws_szInsS_ok p0.Code p1 hx1 (r1)) fun v w2 fr hRes hF => ?_
 obtain ⟨rfl, hc⟩ := hRes
 have r1 := r1.ext hc
 have hs := hs.ext hc
 have hM0 := hM0.ext hc
 refine from_pure 1 [(1, I x1)] hF (by kernel_rfl) fun fr hF => ?_
 refine from_end rfl (then_normal ?_)
 refine wp_seq ?_
 refine wp_seq (wp_pure [(1, I x1), (10, .bool (decide (x1 < 0)))] hF (by kernel_rfl) fun fr hF => then_normal ?_)
 refine (wp_if hF (b := (decide (x1 < 0))) rfl (fun hb => ?_) (fun hb => ?_))
 · replace h := iteT hb h
   refine wp_seq (wp_pure [(4, I (-1))] hF (by kernel_rfl) fun fr hF => then_normal ?_)
   obtain rfl := Option.some.inj h
   exact wp_ret (then_ret (ret1 rfl hF rfl ⟨_, rfl, rfl, hM0.chg⟩))
 replace h := iteF hb h
 refine (wp_skip (then_normal ?_))
 refine wp_seq (wp_pure [(4, I x1)] hF (by kernel_rfl) fun fr hF => then_normal ?_)
 obtain rfl := Option.some.inj h
 exact wp_ret (ret1 rfl hF rfl ⟨_, rfl, rfl, hM0.chg⟩)

theorem laws_toIns_ok (p0 : D.Ins) {r : D.Ins} (h : laws_toIns p0 = some r) {w : World} :
   Calls Try.prog 105 [.agg #[I p0.Op, I p0.A, I p0.B, I p0.C]].toArray w fun e w' => ∃ v, e = .returned v ∧ v = .agg #[I r.Op, I r.A, I r.B, I r.C] ∧ Chg Non w w' := by
 unfold laws_toIns at h
 have hs := Sep.nil w Non
 have hM0 : Mem w Non (fun k => (False) ∧ k < w.heap.size) w Non (fun k => (False) ∧ k < w.heap.size) := Mem.start (fun _ h => h.elim) (fun _ h => h.2) (fun _ h => h.elim)
 refine enter (N := 17) Try.func105 rfl Try.ntmps105 rfl fun fr hF => ?_
 refine wp_seq (wp_text' ?_)
 refine q_box hs hM0 [I p0.Op, I p0.A, I p0.B, I p0.C] rfl rfl hF rfl rfl fun b1 w1 S1 fr hs hp hF => ?_
 have hM0 := hM0.stp hp
 have hs : Sep [BX b1 133 [I p0.Op, I p0.A, I p0.B, I p0.C]] w1 S1 := hs
 refine q_alloc (z := .agg #[I 0, I 0, I 0, I 0]) hs hM0 [I 0, I 0, I 0, I 0] rfl rfl hF (by kernel_rfl) rfl fun b2 w2 S2 fr hs hp hF => ?_
 have hM0 := hM0.stp hp
 have hs : Sep [BX b2 90 [I 0, I 0, I 0, I 0], BX b1 133 [I p0.Op, I p0.A, I p0.B, I p0.C]] w2 S2 := hs
 refine from_end rfl (then_normal ?_)
 refine wp_seq (wp_text' ?_)
 refine q_alloc (z := .agg #[I 0, I 0, I 0, I 0]) hs hM0 [I 0, I 0, I 0, I 0] rfl rfl hF (by kernel_rfl) rfl fun b3 w3 S3 fr hs hp hF => ?_
 have hM0 := hM0.stp hp
 have hs : Sep [BX b3 90 [I 0, I 0, I 0, I 0], BX b2 90 [I 0, I 0, I 0, I 0], BX b1 133 [I p0.Op, I p0.A, I p0.B, I p0.C]] w3 S3 := hs
 refine from_end rfl (then_normal ?_)
 refine wp_seq (wp_text' ?_)
 refine from_pure 1 [(1, B b1 0), (2, B b2 0), (3, B b3 0), (4, B b1 0)] hF (by kernel_rfl) fun fr hF => ?_
 refine s_loadBox (I p0.Op) ty3 rfl rfl hF rfl (hs.bx 2 rfl) rfl rfl fun fr hF => ?_
 refine from_pure 1 [(1, B b1 0), (2, B b2 0), (3, B b3 0), (5, I p0.Op), (6, B b3 0)] hF (by kernel_rfl) fun fr hF => ?_
 refine q_storeBox 0 hs hM0 rfl [I p0.Op, I 0, I 0, I 0] rfl hF rfl rfl (by kernel_rfl) rfl rfl rfl fun w4 S4 hs hp hF => ?_
 have hM0 := hM0.stp hp
 have hs : Sep [BX b3 90 [I p0.Op, I 0, I 0, I 0], BX b2 90 [I 0, I 0, I 0, I 0], BX b1 133 [I p0.Op, I p0.A, I p0.B, I p0.C]] w4 S4 := hs
 refine from_end rfl (then_normal ?_)
 refine wp_seq (wp_text' ?_)
 refine from_pure 1 [(1, B b1 0), (2, B b2 0), (3, B b3 0), (7, B b1 1)] hF (by kernel_rfl) fun fr hF => ?_
 refine s_loadBox (I p0.A) ty3 rfl rfl hF rfl (hs.bx 2 rfl) rfl rfl fun fr hF => ?_
 refine from_pure 1 [(1, B b1 0), (2, B b2 0), (3, B b3 0), (8, I p0.A), (9, B b3 1)] hF (by kernel_rfl) fun fr hF => ?_
 refine q_storeBox 0 hs hM0 rfl [I p0.Op, I p0.A, I 0, I 0] rfl hF rfl rfl (by kernel_rfl) rfl rfl rfl fun w5 S5 hs hp hF => ?_
 have hM0 := hM0.stp hp
 have hs : Sep [BX b3 90 [I p0.Op, I p0.A, I 0, I 0], BX b2 90 [I 0, I 0, I 0, I 0], BX b1 133 [I p0.Op, I p0.A, I p0.B, I p0.C]] w5 S5 := hs
 refine from_end rfl (then_normal ?_)
 refine wp_seq (wp_text' ?_)
 refine from_pure 1 [(1, B b1 0), (2, B b2 0), (3, B b3 0), (10, B b1 2)] hF (by kernel_rfl) fun fr hF => ?_
 refine s_loadBox (I p0.B) ty3 rfl rfl hF rfl (hs.bx 2 rfl) rfl rfl fun fr hF => ?_
 refine from_pure 1 [(1, B b1 0), (2, B b2 0), (3, B b3 0), (11, I p0.B), (12, B b3 2)] hF (by kernel_rfl) fun fr hF => ?_
 refine q_storeBox 0 hs hM0 rfl [I p0.Op, I p0.A, I p0.B, I 0] rfl hF rfl rfl (by kernel_rfl) rfl rfl rfl fun w6 S6 hs hp hF => ?_
 have hM0 := hM0.stp hp
 have hs : Sep [BX b3 90 [I p0.Op, I p0.A, I p0.B, I 0], BX b2 90 [I 0, I 0, I 0, I 0], BX b1 133 [I p0.Op, I p0.A, I p0.B, I p0.C]] w6 S6 := hs
 refine from_end rfl (then_normal ?_)
 refine wp_seq (wp_text' ?_)
 refine from_pure 1 [(2, B b2 0), (3, B b3 0), (13, B b1 3)] hF (by kernel_rfl) fun fr hF => ?_
 refine s_loadBox (I p0.C) ty3 rfl rfl hF rfl (hs.bx 2 rfl) rfl rfl fun fr hF => ?_
 have hs : Sep [BX b3 90 [I p0.Op, I p0.A, I p0.B, I 0], BX b2 90 [I 0, I 0, I 0, I 0]] w6 S6 := Sep.pick [0, 1] hs (by decide) rfl
 refine from_pure 1 [(2, B b2 0), (3, B b3 0), (14, I p0.C), (15, B b3 3)] hF (by kernel_rfl) fun fr hF => ?_
 refine q_storeBox 0 hs hM0 rfl [I p0.Op, I p0.A, I p0.B, I p0.C] rfl hF rfl rfl (by kernel_rfl) rfl rfl rfl fun w7 S7 hs hp hF => ?_
 have hM0 := hM0.stp hp
 have hs : Sep [BX b3 90 [I p0.Op, I p0.A, I p0.B, I p0.C], BX b2 90 [I 0, I 0, I 0, I 0]] w7 S7 := hs
 refine from_end rfl (then_normal ?_)
 refine wp_seq (wp_text' ?_)
 refine s_loadBoxS ty90 rfl rfl hF rfl (hs.bx 0 rfl) rfl rfl fun fr hF => ?_
 have hs : Sep [BX b2 90 [I 0, I 0, I 0, I 0]] w7 S7 := Sep.pick [1] hs (by decide) rfl
 refine q_storeBoxS 0 hs hM0 rfl [I p0.Op, I p0.A, I p0.B, I p0.C] rfl hF rfl rfl (by kernel_rfl) rfl rfl rfl fun w8 S8 hs hp hF => ?_
 have hM0 := hM0.stp hp
 have hs : Sep [BX b2 90 [I p0.Op, I p0.A, I p0.B, I p0.C]] w8 S8 := hs
 refine from_end rfl (then_normal ?_)
 have hbr := (hs.bx 0 rfl)
 obtain rfl := Option.some.inj h
 exact wp_ret (retS rfl hF ty90 rfl rfl hbr rfl ⟨_, rfl, rfl, hM0.chg⟩)

theorem laws_toInsS_ok (n : Nat) (p0 : List D.Ins) {r : (List D.Ins)} (h : laws_toInsS n p0 = some r) {w : World} {G0 : Nat → Prop} {va0 : Value} (ra0 : RV w G0 va0 p0) :
   Calls Try.prog 59 [va0].toArray w fun e w' => ∃ v, e = .returned v ∧ ∃ a1 c1, v = L a1 r c1 ∧ ∃ S', Stp w Non w' S' ∧ Sep [sl90 (L a1 r c1) r] w' S' := by
 unfold laws_toInsS at h
 have hs := Sep.nil w Non
 have hM0 : Mem w Non (fun k => (G0 k) ∧ k < w.heap.size) w Non (fun k => (G0 k) ∧ k < w.heap.size) := Mem.start (fun _ h => h.elim) (fun _ h => h.2) (fun _ h => h.elim)
 have ra0 := ra0.sub (F' := (fun k => (G0 k) ∧ k < w.heap.size)) (fun k hk h => ⟨h, hk⟩)
 obtain ⟨a1, c1, rfl, -⟩ := ra0.slice
 refine enter (N := 23) Try.func59 rfl Try.ntmps59 rfl fun fr hF => ?_
 refine wp_seq (wp_pure [(0, L a1 p0 c1)] hF (by kernel_rfl) fun fr hF => then_normal ?_)
 refine wp_seq (wp_text' ?_)
 refine from_pure 2 [(0, L a1 p0 c1), (6, I (len p0))] hF (by kernel_rfl) fun fr hF => ?_
 obtain ⟨x1, hx1, h⟩ := bindE h
 refine q_make hs hM0 Try.underlying28 el90 (zero_flat _ (by kernel_rfl)) rfl rfl hF rfl rfl hx1 fun a2 c2 w1 S1 fr hs hp hF => ?_
 have ra0 := ra0.stp hM0 hp
 have hM0 := hM0.stp hp
 have hs : Sep [sl90 (L a2 x1 c2) x1] w1 S1 := hs
 refine from_pure 1 [(0, L a1 p0 c1), (3, L a2 x1 c2)] hF (by kernel_rfl) fun fr hF => ?_
 refine from_end rfl (then_normal ?_)
 refine wp_seq ?_
 refine wp_seq (wp_pure [(0, L a1 p0 c1), (3, L a2 x1 c2), (4, I 0)] hF (by kernel_rfl) fun fr hF => then_normal ?_)
 obtain ⟨rl1, hit1, h⟩ := bindE h
 have hk1 := h
 refine (GL.wp_cut (M := fun fr w' => ∃ S3 F2, FrS 23 [(3, L a2 x1 c2)] fr ∧ Mem w1 S1 (fun k => (G0 k) ∧ k < w.heap.size) w' S3 F2 ∧ Sep [sl90 (L a2 x1 c2) rl1] w' S3) (wp_block (wp_iter (Inv := fun s1 fr w' => ∃ S2 F1, FrS 23 [(0, L a1 p0 c1), (3, L a2 x1 c2), (4, I s1.1)] fr ∧ Mem w1 S1 (fun k => (G0 k) ∧ k < w.heap.size) w' S2 F1 ∧ Sep [sl90 (L a2 x1 c2) s1.2] w' S2) hit1 ⟨S1, _, hF.sub _ (by kernel_rfl), (Mem.start hM0.bd hM0.bdF hM0.dj), hs⟩ fun s1 q1 fr w1i hI h hr1 => ?_)) fun fr w1o hM => ?_)
 · obtain ⟨S2, F1, hF, hM1, hs⟩ := hI
   have ra0 := ra0.mem hM1
   refine wp_seq ?_
   refine wp_seq (wp_pure [(0, L a1 p0 c1), (3, L a2 x1 c2), (4, I s1.1), (11, .bool (decide (s1.1 < (len p0))))] hF (by kernel_rfl) fun fr hF => then_normal ?_)
   refine (wp_if hF (b := (decide (s1.1 < (len p0)))) rfl (fun hb => ?_) (fun hb => ?_))
   · replace h := iteT hb h
     refine (wp_skip (then_normal ?_))
     refine wp_seq (wp_block ?_)
     refine (wp_text' ?_)
     refine from_pure 4 [(0, L a1 p0 c1), (3, L a2 x1 c2), (4, I s1.1), (14, L a2 x1 c2), (15, I s1.1), (16, L a1 p0 c1), (17, I s1.1)] hF (by kernel_rfl) fun fr hF => ?_
     obtain ⟨x2, hx2, h⟩ := bindE h
     refine s_elemF (z := x2) (.agg #[I x2.Op, I x2.A, I x2.B, I x2.C]) ty133 Try.underlying22 rfl rfl rfl rfl rfl hF rfl (ra0) rfl (get?_nn hx2) (get?_at hx2) rfl fun p fr hF => ?_
     obtain ⟨x3, hx3, h⟩ := bindE h
     refine s_call [.agg #[I x2.Op, I x2.A, I x2.B, I x2.C]] Try.call105 rfl rfl hF rfl (laws_toIns_ok x2 hx3) fun v w2 fr hRes hF => ?_
     obtain ⟨rfl, hc⟩ := hRes
     have ra0 := ra0.ext hc
     have hs := hs.ext hc
     have hM1 := hM1.ext hc
     obtain ⟨x4, hx4, h⟩ := bindE h
     refine q_set (q := x3) 0 hs hM1 rfl Try.underlying28 ty90 rfl rfl rfl rfl hF rfl rfl (by simp) rfl rfl hx4 fun w3 S4 fr _ hs hp hF => ?_
     have ra0 := ra0.stp hM1 hp
     have hM1 := hM1.stp hp
     have hs : Sep [sl90 (L a2 x1 c2) x4] w3 S4 := hs
     refine from_end rfl ?_
     refine blk_normal (then_normal ?_)
     refine (wp_pure [(0, L a1 p0 c1), (3, L a2 x1 c2), (4, I (w64 (s1.1 + 1)))] hF (by kernel_rfl) fun fr hF => then_normal ?_)
     exact ⟨_, (Option.some.inj h).symm, S4, _, hF.sub _ (by kernel_rfl), hM1, hs⟩
   replace h := iteF hb h
   refine (wp_exit (then_exit (then_exit (blk_exit_eq ?_))))
   obtain rfl := hr1 _ (Option.some.inj h).symm
   exact then_normal ⟨S2, _, hF.sub _ (by kernel_rfl), hM1, hs⟩
 · obtain ⟨S3, F2, hF, hMx, hs⟩ := hM
   have hM0 := hM0.trans hMx
   refine wp_seq (wp_pure [(2, L a2 x1 c2)] hF (by kernel_rfl) fun fr hF => then_normal ?_)
   obtain rfl := Option.some.inj h
   obtain ⟨he1, hs⟩ := hs.relen 0 rfl
   have hs : Sep [sl90 (L a2 rl1 c2) rl1] w1o S3 := hs
   exact wp_ret (ret1 rfl hF rfl ⟨_, rfl, a2, c2, (by simp only [L, he1]), S3, hM0.out, hs⟩)

theorem laws_toProgram_ok (n : Nat) (p0 : D.Program) {r : D.Program} (h : laws_toProgram n p0 = some r) {w : World} {G0 : Nat → Prop} {va0 : Value} (ra0 : RV w G0 va0 p0) :
   Calls Try.prog 13 [va0].toArray w fun e w' => ∃ v, e = .returned v ∧ ∃ a1 c1, v = .agg #[I r.W, I r.Mem, I r.In, L a1 r.Code c1] ∧ ∃ S', Stp w Non w' S' ∧ Sep [sl90 (L a1 r.Code c1) r.Code] w' S' := by
 unfold laws_toProgram at h
 have hs := Sep.nil w Non
 have hM0 : Mem w Non (fun k => (G0 k) ∧ k < w.heap.size) w Non (fun k => (G0 k) ∧ k < w.heap.size) := Mem.start (fun _ h => h.elim) (fun _ h => h.2) (fun _ h => h.elim)
 have ra0 := ra0.sub (F' := (fun k => (G0 k) ∧ k < w.heap.size)) (fun k hk h => ⟨h, hk⟩)
 obtain ⟨v1, rfl, r1⟩ := RV.Program ra0
 obtain ⟨a1, c1, rfl, -⟩ := r1.slice
 refine enter (N := 18) Try.func13 rfl Try.ntmps13 rfl fun fr hF => ?_
 refine wp_seq (wp_text' ?_)
 refine q_box hs hM0 [I p0.W, I p0.Mem, I p0.In, L a1 p0.Code c1] rfl rfl hF rfl rfl fun b1 w1 S1 fr hs hp hF => ?_
 have r1 := r1.stp hM0 hp
 have hM0 := hM0.stp hp
 have hs : Sep [BX b1 24 [I p0.W, I p0.Mem, I p0.In, L a1 p0.Code c1]] w1 S1 := hs
 refine q_alloc (z := .agg #[I 0, I 0, I 0, L none ([] : List D.Ins) 0]) hs hM0 [I 0, I 0, I 0, L none ([] : List D.Ins) 0] rfl rfl hF (by kernel_rfl) rfl fun b2 w2 S2 fr hs hp hF => ?_
 have r1 := r1.stp hM0 hp
 have hM0 := hM0.stp hp
 have hs : Sep [BX b2 30 [I 0, I 0, I 0, L none ([] : List D.Ins) 0], BX b1 24 [I p0.W, I p0.Mem, I p0.In, L a1 p0.Code c1]] w2 S2 := hs
 refine from_end rfl (then_normal ?_)
 refine wp_seq (wp_text' ?_)
 refine q_alloc (z := .agg #[I 0, I 0, I 0, L none ([] : List D.Ins) 0]) hs hM0 [I 0, I 0, I 0, L none ([] : List D.Ins) 0] rfl rfl hF (by kernel_rfl) rfl fun b3 w3 S3 fr hs hp hF => ?_
 have r1 := r1.stp hM0 hp
 have hM0 := hM0.stp hp
 have hs : Sep [BX b3 30 [I 0, I 0, I 0, L none ([] : List D.Ins) 0], BX b2 30 [I 0, I 0, I 0, L none ([] : List D.Ins) 0], BX b1 24 [I p0.W, I p0.Mem, I p0.In, L a1 p0.Code c1]] w3 S3 := hs
 refine from_end rfl (then_normal ?_)
 refine wp_seq (wp_text' ?_)
 refine from_pure 1 [(1, B b1 0), (2, B b2 0), (3, B b3 0), (4, B b1 0)] hF (by kernel_rfl) fun fr hF => ?_
 refine s_loadBox (I p0.W) ty3 rfl rfl hF rfl (hs.bx 2 rfl) rfl rfl fun fr hF => ?_
 refine from_pure 1 [(1, B b1 0), (2, B b2 0), (3, B b3 0), (5, I p0.W), (6, B b3 0)] hF (by kernel_rfl) fun fr hF => ?_
 refine q_storeBox 0 hs hM0 rfl [I p0.W, I 0, I 0, L none ([] : List D.Ins) 0] rfl hF rfl rfl (by kernel_rfl) rfl rfl rfl fun w4 S4 hs hp hF => ?_
 have r1 := r1.stp hM0 hp
 have hM0 := hM0.stp hp
 have hs : Sep [BX b3 30 [I p0.W, I 0, I 0, L none ([] : List D.Ins) 0], BX b2 30 [I 0, I 0, I 0, L none ([] : List D.Ins) 0], BX b1 24 [I p0.W, I p0.Mem, I p0.In, L a1 p0.Code c1]] w4 S4 := hs
 refine from_end rfl (then_normal ?_)
 refine wp_seq (wp_text' ?_)
 refine from_pure 1 [(1, B b1 0), (2, B b2 0), (3, B b3 0), (7, B b1 1)] hF (by kernel_rfl) fun fr hF => ?_
 refine s_loadBox (I p0.Mem) ty3 rfl rfl hF rfl (hs.bx 2 rfl) rfl rfl fun fr hF => ?_
 refine from_pure 1 [(1, B b1 0), (2, B b2 0), (3, B b3 0), (8, I p0.Mem), (9, B b3 1)] hF (by kernel_rfl) fun fr hF => ?_
 refine q_storeBox 0 hs hM0 rfl [I p0.W, I p0.Mem, I 0, L none ([] : List D.Ins) 0] rfl hF rfl rfl (by kernel_rfl) rfl rfl rfl fun w5 S5 hs hp hF => ?_
 have r1 := r1.stp hM0 hp
 have hM0 := hM0.stp hp
 have hs : Sep [BX b3 30 [I p0.W, I p0.Mem, I 0, L none ([] : List D.Ins) 0], BX b2 30 [I 0, I 0, I 0, L none ([] : List D.Ins) 0], BX b1 24 [I p0.W, I p0.Mem, I p0.In, L a1 p0.Code c1]] w5 S5 := hs
 refine from_end rfl (then_normal ?_)
 refine wp_seq (wp_text' ?_)
 refine from_pure 1 [(1, B b1 0), (2, B b2 0), (3, B b3 0), (10, B b1 2)] hF (by kernel_rfl) fun fr hF => ?_
 refine s_loadBox (I p0.In) ty3 rfl rfl hF rfl (hs.bx 2 rfl) rfl rfl fun fr hF => ?_
 refine from_pure 1 [(1, B b1 0), (2, B b2 0), (3, B b3 0), (11, I p0.In), (12, B b3 2)] hF (by kernel_rfl) fun fr hF => ?_
 refine q_storeBox 0 hs hM0 rfl [I p0.W, I p0.Mem, I p0.In, L none ([] : List D.Ins) 0] rfl hF rfl rfl (by kernel_rfl) rfl rfl rfl fun w6 S6 hs hp hF => ?_
 have r1 := r1.stp hM0 hp
 have hM0 := hM0.stp hp
 have hs : Sep [BX b3 30 [I p0.W, I p0.Mem, I p0.In, L none ([] : List D.Ins) 0], BX b2 30 [I 0, I 0, I 0, L none ([] : List D.Ins) 0], BX b1 24 [I p0.W, I p0.Mem, I p0.In, L a1 p0.Code c1]] w6 S6 := hs
 refine from_end rfl (then_normal ?_)
 refine wp_seq (wp_text' ?_)
 refine from_pure 1 [(2, B b2 0), (3, B b3 0), (13, B b1 3)] hF (by kernel_rfl) fun fr hF => ?_
 refine s_loadBox (L a1 p0.Code c1) ty22 rfl rfl hF rfl (hs.bx 2 rfl) rfl rfl fun fr hF => ?_
 have hs : Sep [BX b3 30 [I p0.W, I p0.Mem, I p0.In, L none ([] : List D.Ins) 0], BX b2 30 [I 0, I 0, I 0, L none ([] : List D.Ins) 0]] w6 S6 := Sep.pick [0, 1] hs (by decide) rfl
 obtain ⟨x1, hx1, h⟩ := bindE h
 refine s_call [L a1 p0.Code c1] Try.call59 rfl rfl hF rfl (laws_toInsS_ok n p0.Code hx1 (r1)) fun v w7 fr hRes hF => ?_
 obtain ⟨a2, c2, rfl, _, hp, hs2⟩ := hRes
 obtain ⟨S7, hp, hs⟩ := hs.got hM0 hp hs2
 have r1 := r1.stp hM0 hp
 have hM0 := hM0.stp hp
 have hs : Sep [sl90 (L a2 x1 c2) x1, BX b3 30 [I p0.W, I p0.Mem, I p0.In, L none ([] : List D.Ins) 0], BX b2 30 [I 0, I 0, I 0, L none ([] : List D.Ins) 0]] w7 S7 := hs
 refine from_pure 1 [(2, B b2 0), (3, B b3 0), (15, L a2 x1 c2), (16, B b3 3)] hF (by kernel_rfl) fun fr hF => ?_
 refine q_storeBox 1 hs hM0 rfl [I p0.W, I p0.Mem, I p0.In, L a2 x1 c2] rfl hF rfl rfl (by kernel_rfl) rfl rfl rfl fun w8 S8 hs hp hF => ?_
 have hM0 := hM0.stp hp
 have hs : Sep [sl90 (L a2 x1 c2) x1, BX b3 30 [I p0.W, I p0.Mem, I p0.In, L a2 x1 c2], BX b2 30 [I 0, I 0, I 0, L none ([] : List D.Ins) 0]] w8 S8 := hs
 refine from_end rfl (then_normal ?_)
 refine wp_seq (wp_text' ?_)
 refine s_loadBoxS ty30 rfl rfl hF rfl (hs.bx 1 rfl) rfl rfl fun fr hF => ?_
 have hs : Sep [sl90 (L a2 x1 c2) x1, BX b2 30 [I 0, I 0, I 0, L none ([] : List D.Ins) 0]] w8 S8 := Sep.pick [0, 2] hs (by decide) rfl
 refine q_storeBoxS 1 hs hM0 rfl [I p0.W, I p0.Mem, I p0.In, L a2 x1 c2] rfl hF rfl rfl (by kernel_rfl) rfl rfl rfl fun w9 S9 hs hp hF => ?_
 have hM0 := hM0.stp hp
 have hs : Sep [sl90 (L a2 x1 c2) x1, BX b2 30 [I p0.W, I p0.Mem, I p0.In, L a2 x1 c2]] w9 S9 := hs
 refine from_end rfl (then_normal ?_)
 have hbr := (hs.bx 1 rfl)
 obtain rfl := Option.some.inj h
 have hs : Sep [sl90 (L a2 x1 c2) x1] w9 S9 := Sep.pick [0] hs (by decide) rfl
 exact wp_ret (retS rfl hF ty30 rfl rfl hbr rfl ⟨_, rfl, a2, c2, rfl, S9, hM0.out, hs⟩)

theorem spec_l01In_ok (p0 : Int) (p1 : Int) (p2 : Int) {r : Bool} (h : spec_l01In p0 p1 p2 = some r) {w : World} :
   Calls Try.prog 58 [I p0, I p1, I p2].toArray w fun e w' => ∃ v, e = .returned v ∧ v = .bool r ∧ Chg Non w w' := by
 unfold spec_l01In at h
 have hs := Sep.nil w Non
 have hM0 : Mem w Non (fun k => (False) ∧ k < w.heap.size) w Non (fun k => (False) ∧ k < w.heap.size) := Mem.start (fun _ h => h.elim) (fun _ h => h.2) (fun _ h => h.elim)
 refine enter (N := 15) Try.func58 rfl Try.ntmps58 rfl fun fr hF => ?_
 refine wp_seq (wp_pure [(0, I p0), (1, I p1), (2, I p2)] hF (by kernel_rfl) fun fr hF => then_normal ?_)
 refine wp_seq (region_b [] [true, true, true, true, true, true, true, true, true]
     [.eq (I p0), .eq (I p1), .eq (.bool (decide (p0 ≥ p1))), .eq (.bool (decide (p0 ≥ p1))), .eq (I p0), .eq (I p2), .eq (.bool (decide (p0 ≤ p2))), .eq (.bool ((decide (p0 ≥ p1)) && (decide (p0 ≤ p2)))), .eq (.bool ((decide (p0 ≥ p1)) && (decide (p0 ≤ p2))))]
     [(6, .bool ((decide (p0 ≥ p1)) && (decide (p0 ≤ p2))))] mix hF (by kernel_rfl) (by kernel_rfl) (by kernel_rfl) trivial (fun hG => trivial) (by kernel_rfl) fun fr w1 hF hE hc => then_normal ?_)
 have hs := hs.ext hc
 have hM0 := hM0.ext hc
 obtain rfl := Option.some.inj h
 exact wp_ret (ret1 rfl hF rfl ⟨_, rfl, rfl, hM0.chg⟩)

theorem spec_WordOk_ok (p0 : Int) (p1 : Int) {r : Bool} (h : spec_WordOk p0 p1 = some r) {w : World} :
   Calls Try.prog 103 [I p0, I p1].toArray w fun e w' => ∃ v, e = .returned v ∧ v = .bool r ∧ Chg Non w w' := by
 unfold spec_WordOk at h
 have hs := Sep.nil w Non
 have hM0 : Mem w Non (fun k => (False) ∧ k < w.heap.size) w Non (fun k => (False) ∧ k < w.heap.size) := Mem.start (fun _ h => h.elim) (fun _ h => h.2) (fun _ h => h.elim)
 refine enter (N := 14) Try.func103 rfl Try.ntmps103 rfl fun fr hF => ?_
 refine wp_seq (wp_pure [(0, I p0), (1, I p1)] hF (by kernel_rfl) fun fr hF => then_normal ?_)
 obtain ⟨x1, hx1, h⟩ := bindE h
 obtain ⟨x2, hx2, h⟩ := bindE h
 obtain ⟨x3, hx3, h⟩ := bindE h
 refine wp_seq (region_b [] [true, false, true, true, true, false, true, false, true, true]
     [.eq (I p0), .eq (.bool x1), .eq (.bool x1), .eq (I p1), .eq (I p0), .eq (I x2), .eq (I (w64 (x2 - 1))), .eq (.bool x3), .eq (.bool (x1 && x3)), .eq (.bool (x1 && x3))]
     [(4, .bool (x1 && x3))] mix hF (by kernel_rfl) (by kernel_rfl) (by kernel_rfl) ⟨Pd.mono_eq, Pd.mono_eq, Pd.mono_eq, trivial⟩ (fun hG => ⟨np_call [I p0, I 1, I 16] hG hF Try.call58 rfl rfl (fun w hC hg => (spec_l01In_ok p0 1 16 hx1).mono fun e w' ⟨v, he, hv, hc⟩ => ⟨v, he, hc, hv⟩), np_shl hG hF rfl rfl rfl (fun hg => (iteT hg.2 hx2)) rfl, np_call [I p1, I 0, I (w64 (x2 - 1))] hG hF Try.call58 rfl rfl (fun w hC hg => (spec_l01In_ok p1 0 (w64 (x2 - 1)) (iteT hg.2 hx3)).mono fun e w' ⟨v, he, hv, hc⟩ => ⟨v, he, hc, hv⟩), trivial⟩) (by kernel_rfl) fun fr w1 hF hE hc => then_normal ?_)
 have hs := hs.ext hc
 have hM0 := hM0.ext hc
 obtain rfl := Option.some.inj h
 exact wp_ret (ret1 rfl hF rfl ⟨_, rfl, rfl, hM0.chg⟩)

theorem spec_l05Reg_ok (p0 : Int) {r : Bool} (h : spec_l05Reg p0 = some r) {w : World} :
   Calls Try.prog 136 [I p0].toArray w fun e w' => ∃ v, e = .returned v ∧ v = .bool r ∧ Chg Non w w' := by
 unfold spec_l05Reg at h
 have hs := Sep.nil w Non
 have hM0 : Mem w Non (fun k => (False) ∧ k < w.heap.size) w Non (fun k => (False) ∧ k < w.heap.size) := Mem.start (fun _ h => h.elim) (fun _ h => h.2) (fun _ h => h.elim)
 refine enter (N := 5) Try.func136 rfl Try.ntmps136 rfl fun fr hF => ?_
 refine wp_seq (wp_pure [(0, I p0)] hF (by kernel_rfl) fun fr hF => then_normal ?_)
 refine wp_seq (wp_text' ?_)
 refine from_pure 1 [(3, I p0)] hF (by kernel_rfl) fun fr hF => ?_
 obtain ⟨x1, hx1, h⟩ := bindE h
 refine s_call [I p0, I 0, I 3] Try.call58 rfl rfl hF rfl (spec_l01In_ok p0 0 3 hx1) fun v w1 fr hRes hF => ?_
 obtain ⟨rfl, hc⟩ := hRes
 have hs := hs.ext hc
 have hM0 := hM0.ext hc
 refine from_pure 1 [(2, .bool x1)] hF (by kernel_rfl) fun fr hF => ?_
 refine from_end rfl (then_normal ?_)
 obtain rfl := Option.some.inj h
 exact wp_ret (ret1 rfl hF rfl ⟨_, rfl, rfl, hM0.chg⟩)

theorem spec_l05Ins_ok (p0 : D.Ins) (p1 : Int) (p2 : Int) {r : Bool} (h : spec_l05Ins p0 p1 p2 = some r) {w : World} :
   Calls Try.prog 104 [.agg #[I p0.Op, I p0.A, I p0.B, I p0.C], I p1, I p2].toArray w fun e w' => ∃ v, e = .returned v ∧ v = .bool r ∧ Chg Non w w' := by
 unfold spec_l05Ins at h
 have hs := Sep.nil w Non
 have hM0 : Mem w Non (fun k => (False) ∧ k < w.heap.size) w Non (fun k => (False) ∧ k < w.heap.size) := Mem.start (fun _ h => h.elim) (fun _ h => h.2) (fun _ h => h.elim)
 refine enter (N := 123) Try.func104 rfl Try.ntmps104 rfl fun fr hF => ?_
 refine wp_seq (wp_text' ?_)
 refine q_box hs hM0 [I p0.Op, I p0.A, I p0.B, I p0.C] rfl rfl hF rfl rfl fun b1 w1 S1 fr hs hp hF => ?_
 have hM0 := hM0.stp hp
 have hs : Sep [BX b1 90 [I p0.Op, I p0.A, I p0.B, I p0.C]] w1 S1 := hs
 refine from_pure 1 [(1, I p1), (2, I p2), (3, B b1 0)] hF (by kernel_rfl) fun fr hF => ?_
 refine from_end rfl (then_normal ?_)
 refine wp_seq (wp_text' ?_)
 refine from_pure 1 [(1, I p1), (2, I p2), (3, B b1 0), (8, B b1 2)] hF (by kernel_rfl) fun fr hF => ?_
 refine s_loadBox (I p0.B) ty3 rfl rfl hF rfl (hs.bx 0 rfl) rfl rfl fun fr hF => ?_
 refine from_pure 1 [(1, I p1), (3, B b1 0), (9, I p0.B), (10, I p2)] hF (by kernel_rfl) fun fr hF => ?_
 obtain ⟨x1, hx1, h⟩ := bindE h
 refine s_call [I p0.B, I 0, I p2] Try.call58 rfl rfl hF rfl (spec_l01In_ok p0.B 0 p2 hx1) fun v w2 fr hRes hF => ?_
 obtain ⟨rfl, hc⟩ := hRes
 have hs := hs.ext hc
 have hM0 := hM0.ext hc
 refine from_pure 1 [(1, I p1), (3, B b1 0), (7, .bool x1)] hF (by kernel_rfl) fun fr hF => ?_
 refine from_end rfl (then_normal ?_)
 refine wp_seq ?_
 refine wp_seq (wp_text' ?_)
 refine from_pure 1 [(1, I p1), (3, B b1 0), (7, .bool x1), (12, B b1 0)] hF (by kernel_rfl) fun fr hF => ?_
 refine s_loadBox (I p0.Op) ty3 rfl rfl hF rfl (hs.bx 0 rfl) rfl rfl fun fr hF => ?_
 refine from_end rfl (then_normal ?_)
 refine (wp_block ?_)
 refine wp_seq (wp_pure [(1, I p1), (3, B b1 0), (7, .bool x1), (13, I p0.Op), (14, .bool (p0.Op == 1))] hF (by kernel_rfl) fun fr hF => then_normal ?_)
 refine (wp_if hF (b := (p0.Op == 1)) rfl (fun hb => ?_) (fun hb => ?_))
 · replace h := iteT hb h
   obtain ⟨x2, hx2, h⟩ := bindE h
   obtain ⟨x3, hx3, h⟩ := bindE h
   refine wp_seq (region_b [] [true, false, false, true, true, true, false, false, true, true, true, false, true, true, true]
       [.eq (B b1 1), .eq (I p0.A), .eq (.bool x2), .eq (.bool x2), .eq (I p1), .eq (B b1 2), .eq (I p0.B), .eq (.bool x3), .eq (.bool (x2 && x3)), .eq (.bool (x2 && x3)), .eq (B b1 3), .eq (I p0.C), .eq (.bool (p0.C == 0)), .eq (.bool ((x2 && x3) && (p0.C == 0))), .eq (.bool ((x2 && x3) && (p0.C == 0)))]
       [(6, .bool ((x2 && x3) && (p0.C == 0)))] mix hF (by kernel_rfl) (by kernel_rfl) (by kernel_rfl) ⟨Pd.mono_eq, Pd.mono_eq, Pd.mono_eq, Pd.mono_eq, Pd.mono_eq, trivial⟩ (fun hG => ⟨np_loadBox hG hF ty3 rfl rfl (hs.bx 0 rfl) rfl rfl rfl, np_call [I p0.A] hG hF Try.call136 rfl rfl (fun w hC hg => (spec_l05Reg_ok p0.A hx2).mono fun e w' ⟨v, he, hv, hc⟩ => ⟨v, he, hc, hv⟩), np_loadBox hG hF ty3 rfl rfl (hs.bx 0 rfl) rfl rfl rfl, np_call [I p1, I p0.B] hG hF Try.call103 rfl rfl (fun w hC hg => (spec_WordOk_ok p1 p0.B (iteT hg.2 hx3)).mono fun e w' ⟨v, he, hv, hc⟩ => ⟨v, he, hc, hv⟩), np_loadBox hG hF ty3 rfl rfl (hs.bx 0 rfl) rfl rfl rfl, trivial⟩) (by kernel_rfl) fun fr w3 hF hE hc => then_normal ?_)
   have hs := hs.ext hc
   have hM0 := hM0.ext hc
   have hs : Sep [] w3 S1 := Sep.pick [] hs (by decide) rfl
   obtain rfl := Option.some.inj h
   exact wp_ret (blk_ret (then_ret (ret1 rfl hF rfl ⟨_, rfl, rfl, hM0.chg⟩)))
 replace h := iteF hb h
 refine wp_seq ?_
 refine wp_seq (wp_pure [(3, B b1 0), (7, .bool x1), (13, I p0.Op), (30, .bool (p0.Op == 2))] hF (by kernel_rfl) fun fr hF => then_normal ?_)
 refine (wp_if hF (b := (p0.Op == 2)) rfl (fun hb => ?_) (fun hb => ?_))
 · replace h := iteT hb h
   refine (wp_skip (then_normal ?_))
   refine (wp_if hF (b := (p0.Op == 2)) rfl (fun hb => ?_) (fun hb => ?_))
   · replace h := iteT hb h
     obtain ⟨x4, hx4, h⟩ := bindE h
     obtain ⟨x5, hx5, h⟩ := bindE h
     refine wp_seq (region_b [] [true, false, false, true, true, false, false, true, true, true, false, true, true, true]
         [.eq (B b1 1), .eq (I p0.A), .eq (.bool x4), .eq (.bool x4), .eq (B b1 2), .eq (I p0.B), .eq (.bool x5), .eq (.bool (x4 && x5)), .eq (.bool (x4 && x5)), .eq (B b1 3), .eq (I p0.C), .eq (.bool (p0.C == 0)), .eq (.bool ((x4 && x5) && (p0.C == 0))), .eq (.bool ((x4 && x5) && (p0.C == 0)))]
         [(6, .bool ((x4 && x5) && (p0.C == 0)))] mix hF (by kernel_rfl) (by kernel_rfl) (by kernel_rfl) ⟨Pd.mono_eq, Pd.mono_eq, Pd.mono_eq, Pd.mono_eq, Pd.mono_eq, trivial⟩ (fun hG => ⟨np_loadBox hG hF ty3 rfl rfl (hs.bx 0 rfl) rfl rfl rfl, np_call [I p0.A] hG hF Try.call136 rfl rfl (fun w hC hg => (spec_l05Reg_ok p0.A hx4).mono fun e w' ⟨v, he, hv, hc⟩ => ⟨v, he, hc, hv⟩), np_loadBox hG hF ty3 rfl rfl (hs.bx 0 rfl) rfl rfl rfl, np_call [I p0.B] hG hF Try.call136 rfl rfl (fun w hC hg => (spec_l05Reg_ok p0.B (iteT hg.2 hx5)).mono fun e w' ⟨v, he, hv, hc⟩ => ⟨v, he, hc, hv⟩), np_loadBox hG hF ty3 rfl rfl (hs.bx 0 rfl) rfl rfl rfl, trivial⟩) (by kernel_rfl) fun fr w4 hF hE hc => then_normal ?_)
     have hs := hs.ext hc
     have hM0 := hM0.ext hc
     have hs : Sep [] w4 S1 := Sep.pick [] hs (by decide) rfl
     obtain rfl := Option.some.inj h
     exact wp_ret (blk_ret (then_ret (ret1 rfl hF rfl ⟨_, rfl, rfl, hM0.chg⟩)))
   replace h := iteF hb h
   refine wp_seq (wp_pure [(3, B b1 0), (7, .bool x1), (13, I p0.Op), (47, .bool (p0.Op == 3))] hF (by kernel_rfl) fun fr hF => then_normal ?_)
   refine (wp_if hF (b := (p0.Op == 3)) rfl (fun hb => ?_) (fun hb => ?_))
   · replace h := iteT hb h
     obtain ⟨x6, hx6, h⟩ := bindE h
     obtain ⟨x7, hx7, h⟩ := bindE h
     obtain ⟨x8, hx8, h⟩ := bindE h
     refine wp_seq (region_b [] [true, false, false, true, true, false, false, true, true, true, false, false, true, true]
         [.eq (B b1 1), .eq (I p0.A), .eq (.bool x6), .eq (.bool x6), .eq (B b1 2), .eq (I p0.B), .eq (.bool x7), .eq (.bool (x6 && x7)), .eq (.bool (x6 && x7)), .eq (B b1 3), .eq (I p0.C), .eq (.bool x8), .eq (.bool ((x6 && x7) && x8)), .eq (.bool ((x6 && x7) && x8))]
         [(6, .bool ((x6 && x7) && x8))] mix hF (by kernel_rfl) (by kernel_rfl) (by kernel_rfl) ⟨Pd.mono_eq, Pd.mono_eq, Pd.mono_eq, Pd.mono_eq, Pd.mono_eq, Pd.mono_eq, trivial⟩ (fun hG => ⟨np_loadBox hG hF ty3 rfl rfl (hs.bx 0 rfl) rfl rfl rfl, np_call [I p0.A] hG hF Try.call136 rfl rfl (fun w hC hg => (spec_l05Reg_ok p0.A hx6).mono fun e w' ⟨v, he, hv, hc⟩ => ⟨v, he, hc, hv⟩), np_loadBox hG hF ty3 rfl rfl (hs.bx 0 rfl) rfl rfl rfl, np_call [I p0.B] hG hF Try.call136 rfl rfl (fun w hC hg => (spec_l05Reg_ok p0.B (iteT hg.2 hx7)).mono fun e w' ⟨v, he, hv, hc⟩ => ⟨v, he, hc, hv⟩), np_loadBox hG hF ty3 rfl rfl (hs.bx 0 rfl) rfl rfl rfl, np_call [I p0.C, I 3, I 16] hG hF Try.call58 rfl rfl (fun w hC hg => (spec_l01In_ok p0.C 3 16 (iteT hg.2 hx8)).mono fun e w' ⟨v, he, hv, hc⟩ => ⟨v, he, hc, hv⟩), trivial⟩) (by kernel_rfl) fun fr w5 hF hE hc => then_normal ?_)
     have hs := hs.ext hc
     have hM0 := hM0.ext hc
     have hs : Sep [] w5 S1 := Sep.pick [] hs (by decide) rfl
     obtain rfl := Option.some.inj h
     exact wp_ret (blk_ret (then_ret (ret1 rfl hF rfl ⟨_, rfl, rfl, hM0.chg⟩)))
   replace h := iteF hb h
   refine wp_seq ?_
   refine wp_seq (wp_pure [(3, B b1 0), (7, .bool x1), (13, I p0.Op), (62, .bool (p0.Op == 4))] hF (by kernel_rfl) fun fr hF => then_normal ?_)
   refine (wp_if hF (b := (p0.Op == 4)) rfl (fun hb => ?_) (fun hb => ?_))
   · replace h := iteT hb h
     refine (wp_skip (then_normal ?_))
     refine (wp_if hF (b := (p0.Op == 4)) rfl (fun hb => ?_) (fun hb => ?_))
     · replace h := iteT hb h
       obtain ⟨x9, hx9, h⟩ := bindE h
       refine wp_seq (region_b [] [true, false, false, true, true, false, true, true, true, true, false, true, true, true]
           [.eq (B b1 1), .eq (I p0.A), .eq (.bool x9), .eq (.bool x9), .eq (B b1 2), .eq (I p0.B), .eq (.bool (p0.B == 0)), .eq (.bool (x9 && (p0.B == 0))), .eq (.bool (x9 && (p0.B == 0))), .eq (B b1 3), .eq (I p0.C), .eq (.bool (p0.C == 0)), .eq (.bool ((x9 && (p0.B == 0)) && (p0.C == 0))), .eq (.bool ((x9 && (p0.B == 0)) && (p0.C == 0)))]
           [(6, .bool ((x9 && (p0.B == 0)) && (p0.C == 0)))] mix hF (by kernel_rfl) (by kernel_rfl) (by kernel_rfl) ⟨Pd.mono_eq, Pd.mono_eq, Pd.mono_eq, Pd.mono_eq, trivial⟩ (fun hG => ⟨np_loadBox hG hF ty3 rfl rfl (hs.bx 0 rfl) rfl rfl rfl, np_call [I p0.A] hG hF Try.call136 rfl rfl (fun w hC hg => (spec_l05Reg_ok p0.A hx9).mono fun e w' ⟨v, he, hv, hc⟩ => ⟨v, he, hc, hv⟩), np_loadBox hG hF ty3 rfl rfl (hs.bx 0 rfl) rfl rfl rfl, np_loadBox hG hF ty3 rfl rfl (hs.bx 0 rfl) rfl rfl rfl, trivial⟩) (by kernel_rfl) fun fr w6 hF hE hc => then_normal ?_)
       have hs := hs.ext hc
       have hM0 := hM0.ext hc
       have hs : Sep [] w6 S1 := Sep.pick [] hs (by decide) rfl
       obtain rfl := Option.some.inj h
       exact wp_ret (blk_ret (then_ret (ret1 rfl hF rfl ⟨_, rfl, rfl, hM0.chg⟩)))
     replace h := iteF hb h
     refine wp_seq ?_
     refine wp_seq (wp_pure [(3, B b1 0), (7, .bool x1), (13, I p0.Op), (80, .bool (p0.Op == 9))] hF (by kernel_rfl) fun fr hF => then_normal ?_)
     refine (wp_merge [(3, B b1 0), (7, .bool x1), (13, I p0.Op), (80, .bool ((p0.Op == 9) || (p0.Op == 11)))] hF (b := (p0.Op == 9)) rfl (fun hb => ?_) (fun hb => ?_) fun fr hF => then_normal ?_)
     · exact wp_skip ⟨rfl, rfl, (hF.sub [(3, B b1 0), (7, .bool x1), (13, I p0.Op), (80, .bool (p0.Op == 9))] (by kernel_rfl)).eqs (by first | (simp only [hb]; done) | (simp only [hb]; rfl))⟩
     · exact wp_pure [(3, B b1 0), (7, .bool x1), (13, I p0.Op), (80, .bool (p0.Op == 11))] hF (by kernel_rfl) fun fr hF => ⟨rfl, rfl, hF.eqs (by first | (simp only [hb]; done) | (simp only [hb]; rfl))⟩
     refine (wp_if hF (b := ((p0.Op == 9) || (p0.Op == 11))) rfl (fun hb => ?_) (fun hb => ?_))
     · replace h := iteT hb h
       refine wp_seq (region_b [] [true, false, true, true, true, true, true, true, false, true, true, true]
           [.eq (B b1 1), .eq (I p0.A), .eq (.bool (p0.A == 0)), .eq (.bool (p0.A == 0)), .eq (.bool x1), .eq (.bool ((p0.A == 0) && x1)), .eq (.bool ((p0.A == 0) && x1)), .eq (B b1 3), .eq (I p0.C), .eq (.bool (p0.C == 0)), .eq (.bool (((p0.A == 0) && x1) && (p0.C == 0))), .eq (.bool (((p0.A == 0) && x1) && (p0.C == 0)))]
           [(6, .bool (((p0.A == 0) && x1) && (p0.C == 0)))] mix hF (by kernel_rfl) (by kernel_rfl) (by kernel_rfl) ⟨Pd.mono_eq, Pd.mono_eq, trivial⟩ (fun hG => ⟨np_loadBox hG hF ty3 rfl rfl (hs.bx 0 rfl) rfl rfl rfl, np_loadBox hG hF ty3 rfl rfl (hs.bx 0 rfl) rfl rfl rfl, trivial⟩) (by kernel_rfl) fun fr w7 hF hE hc => then_normal ?_)
       have hs := hs.ext hc
       have hM0 := hM0.ext hc
       have hs : Sep [] w7 S1 := Sep.pick [] hs (by decide) rfl
       obtain rfl := Option.some.inj h
       exact wp_ret (blk_ret (then_ret (ret1 rfl hF rfl ⟨_, rfl, rfl, hM0.chg⟩)))
     replace h := iteF hb h
     refine wp_seq (wp_pure [(3, B b1 0), (7, .bool x1), (13, I p0.Op), (94, .bool (p0.Op == 10))] hF (by kernel_rfl) fun fr hF => then_normal ?_)
     refine (wp_if hF (b := (p0.Op == 10)) rfl (fun hb => ?_) (fun hb => ?_))
     · replace h := iteT hb h
       obtain ⟨x10, hx10, h⟩ := bindE h
       refine wp_seq (region_b [] [true, false, false, true, true, true, true, true, false, true, true, true]
           [.eq (B b1 1), .eq (I p0.A), .eq (.bool x10), .eq (.bool x10), .eq (.bool x1), .eq (.bool (x10 && x1)), .eq (.bool (x10 && x1)), .eq (B b1 3), .eq (I p0.C), .eq (.bool (p0.C == 0)), .eq (.bool ((x10 && x1) && (p0.C == 0))), .eq (.bool ((x10 && x1) && (p0.C == 0)))]
           [(6, .bool ((x10 && x1) && (p0.C == 0)))] mix hF (by kernel_rfl) (by kernel_rfl) (by kernel_rfl) ⟨Pd.mono_eq, Pd.mono_eq, Pd.mono_eq, trivial⟩ (fun hG => ⟨np_loadBox hG hF ty3 rfl rfl (hs.bx 0 rfl) rfl rfl rfl, np_call [I p0.A] hG hF Try.call136 rfl rfl (fun w hC hg => (spec_l05Reg_ok p0.A hx10).mono fun e w' ⟨v, he, hv, hc⟩ => ⟨v, he, hc, hv⟩), np_loadBox hG hF ty3 rfl rfl (hs.bx 0 rfl) rfl rfl rfl, trivial⟩) (by kernel_rfl) fun fr w8 hF hE hc => then_normal ?_)
       have hs := hs.ext hc
       have hM0 := hM0.ext hc
       have hs : Sep [] w8 S1 := Sep.pick [] hs (by decide) rfl
       obtain rfl := Option.some.inj h
       exact wp_ret (blk_ret (then_ret (ret1 rfl hF rfl ⟨_, rfl, rfl, hM0.chg⟩)))
     replace h := iteF hb h
     refine wp_seq ?_
     refine wp_seq (wp_pure [(3, B b1 0), (13, I p0.Op), (107, .bool (p0.Op == 12))] hF (by kernel_rfl) fun fr hF => then_normal ?_)
     refine (wp_merge [(3, B b1 0), (107, .bool ((p0.Op == 12) || (p0.Op == 14)))] hF (b := (p0.Op == 12)) rfl (fun hb => ?_) (fun hb => ?_) fun fr hF => then_normal ?_)
     · exact wp_skip ⟨rfl, rfl, (hF.sub [(3, B b1 0), (107, .bool (p0.Op == 12))] (by kernel_rfl)).eqs (by first | (simp only [hb]; done) | (simp only [hb]; rfl))⟩
     · exact wp_pure [(3, B b1 0), (107, .bool (p0.Op == 14))] hF (by kernel_rfl) fun fr hF => ⟨rfl, rfl, hF.eqs (by first | (simp only [hb]; done) | (simp only [hb]; rfl))⟩
     refine (wp_if hF (b := ((p0.Op == 12) || (p0.Op == 14))) rfl (fun hb => ?_) (fun hb => ?_))
     · replace h := iteT hb h
       refine wp_seq (region_b [] [true, false, true, true, true, false, true, true, true, true, false, true, true, true]
           [.eq (B b1 1), .eq (I p0.A), .eq (.bool (p0.A == 0)), .eq (.bool (p0.A == 0)), .eq (B b1 2), .eq (I p0.B), .eq (.bool (p0.B == 0)), .eq (.bool ((p0.A == 0) && (p0.B == 0))), .eq (.bool ((p0.A == 0) && (p0.B == 0))), .eq (B b1 3), .eq (I p0.C), .eq (.bool (p0.C == 0)), .eq (.bool (((p0.A == 0) && (p0.B == 0)) && (p0.C == 0))), .eq (.bool (((p0.A == 0) && (p0.B == 0)) && (p0.C == 0)))]
           [(6, .bool (((p0.A == 0) && (p0.B == 0)) && (p0.C == 0)))] mix hF (by kernel_rfl) (by kernel_rfl) (by kernel_rfl) ⟨Pd.mono_eq, Pd.mono_eq, Pd.mono_eq, trivial⟩ (fun hG => ⟨np_loadBox hG hF ty3 rfl rfl (hs.bx 0 rfl) rfl rfl rfl, np_loadBox hG hF ty3 rfl rfl (hs.bx 0 rfl) rfl rfl rfl, np_loadBox hG hF ty3 rfl rfl (hs.bx 0 rfl) rfl rfl rfl, trivial⟩) (by kernel_rfl) fun fr w9 hF hE hc => then_normal ?_)
       have hs := hs.ext hc
       have hM0 := hM0.ext hc
       have hs : Sep [] w9 S1 := Sep.pick [] hs (by decide) rfl
       obtain rfl := Option.some.inj h
       exact wp_ret (blk_ret (then_ret (ret1 rfl hF rfl ⟨_, rfl, rfl, hM0.chg⟩)))
     replace h := iteF hb h
     have hs : Sep [] w2 S1 := Sep.pick [] hs (by decide) rfl
     refine (wp_skip ?_)
     refine blk_normal (then_normal ?_)
     refine wp_seq (wp_pure [(6, .bool false)] hF (by kernel_rfl) fun fr hF => then_normal ?_)
     obtain rfl := Option.some.inj h
     exact wp_ret (ret1 rfl hF rfl ⟨_, rfl, rfl, hM0.chg⟩)
   replace h := iteF hb h
   refine wp_seq (wp_pure [(3, B b1 0), (7, .bool x1), (13, I p0.Op), (62, .bool (p0.Op == 5))] hF (by kernel_rfl) fun fr hF => then_normal ?_)
   refine (wp_if hF (b := (p0.Op == 5)) rfl (fun hb => ?_) (fun hb => ?_))
   · replace h := iteT hb h
     refine (wp_skip (then_normal ?_))
     refine (wp_if hF (b := (p0.Op == 5)) rfl (fun hb => ?_) (fun hb => ?_))
     · replace h := iteT hb h
       obtain ⟨x11, hx11, h⟩ := bindE h
       refine wp_seq (region_b [] [true, false, false, true, true, false, true, true, true, true, false, true, true, true]
           [.eq (B b1 1), .eq (I p0.A), .eq (.bool x11), .eq (.bool x11), .eq (B b1 2), .eq (I p0.B), .eq (.bool (p0.B == 0)), .eq (.bool (x11 && (p0.B == 0))), .eq (.bool (x11 && (p0.B == 0))), .eq (B b1 3), .eq (I p0.C), .eq (.bool (p0.C == 0)), .eq (.bool ((x11 && (p0.B == 0)) && (p0.C == 0))), .eq (.bool ((x11 && (p0.B == 0)) && (p0.C == 0)))]
           [(6, .bool ((x11 && (p0.B == 0)) && (p0.C == 0)))] mix hF (by kernel_rfl) (by kernel_rfl) (by kernel_rfl) ⟨Pd.mono_eq, Pd.mono_eq, Pd.mono_eq, Pd.mono_eq, trivial⟩ (fun hG => ⟨np_loadBox hG hF ty3 rfl rfl (hs.bx 0 rfl) rfl rfl rfl, np_call [I p0.A] hG hF Try.call136 rfl rfl (fun w hC hg => (spec_l05Reg_ok p0.A hx11).mono fun e w' ⟨v, he, hv, hc⟩ => ⟨v, he, hc, hv⟩), np_loadBox hG hF ty3 rfl rfl (hs.bx 0 rfl) rfl rfl rfl, np_loadBox hG hF ty3 rfl rfl (hs.bx 0 rfl) rfl rfl rfl, trivial⟩) (by kernel_rfl) fun fr w10 hF hE hc => then_normal ?_)
       have hs := hs.ext hc
       have hM0 := hM0.ext hc
       have hs : Sep [] w10 S1 := Sep.pick [] hs (by decide) rfl
       obtain rfl := Option.some.inj h
       exact wp_ret (blk_ret (then_ret (ret1 rfl hF rfl ⟨_, rfl, rfl, hM0.chg⟩)))
     replace h := iteF hb h
     refine wp_seq ?_
     refine wp_seq (wp_pure [(3, B b1 0), (7, .bool x1), (13, I p0.Op), (80, .bool (p0.Op == 9))] hF (by kernel_rfl) fun fr hF => then_normal ?_)
     refine (wp_merge [(3, B b1 0), (7, .bool x1), (13, I p0.Op), (80, .bool ((p0.Op == 9) || (p0.Op == 11)))] hF (b := (p0.Op == 9)) rfl (fun hb => ?_) (fun hb => ?_) fun fr hF => then_normal ?_)
     · exact wp_skip ⟨rfl, rfl, (hF.sub [(3, B b1 0), (7, .bool x1), (13, I p0.Op), (80, .bool (p0.Op == 9))] (by kernel_rfl)).eqs (by first | (simp only [hb]; done) | (simp only [hb]; rfl))⟩
     · exact wp_pure [(3, B b1 0), (7, .bool x1), (13, I p0.Op), (80, .bool (p0.Op == 11))] hF (by kernel_rfl) fun fr hF => ⟨rfl, rfl, hF.eqs (by first | (simp only [hb]; done) | (simp only [hb]; rfl))⟩
     refine (wp_if hF (b := ((p0.Op == 9) || (p0.Op == 11))) rfl (fun hb => ?_) (fun hb => ?_))
     · replace h := iteT hb h
       refine wp_seq (region_b [] [true, false, true, true, true, true, true, true, false, true, true, true]
           [.eq (B b1 1), .eq (I p0.A), .eq (.bool (p0.A == 0)), .eq (.bool (p0.A == 0)), .eq (.bool x1), .eq (.bool ((p0.A == 0) && x1)), .eq (.bool ((p0.A == 0) && x1)), .eq (B b1 3), .eq (I p0.C), .eq (.bool (p0.C == 0)), .eq (.bool (((p0.A == 0) && x1) && (p0.C == 0))), .eq (.bool (((p0.A == 0) && x1) && (p0.C == 0)))]
           [(6, .bool (((p0.A == 0) && x1) && (p0.C == 0)))] mix hF (by kernel_rfl) (by kernel_rfl) (by kernel_rfl) ⟨Pd.mono_eq, Pd.mono_eq, trivial⟩ (fun hG => ⟨np_loadBox hG hF ty3 rfl rfl (hs.bx 0 rfl) rfl rfl rfl, np_loadBox hG hF ty3 rfl rfl (hs.bx 0 rfl) rfl rfl rfl, trivial⟩) (by kernel_rfl) fun fr w11 hF hE hc => then_normal ?_)
       have hs := hs.ext hc
       have hM0 := hM0.ext hc
       have hs : Sep [] w11 S1 := Sep.pick [] hs (by decide) rfl
       obtain rfl := Option.some.inj h
       exact wp_ret (blk_ret (then_ret (ret1 rfl hF rfl ⟨_, rfl, rfl, hM0.chg⟩)))
     replace h := iteF hb h
     refine wp_seq (wp_pure [(3, B b1 0), (7, .bool x1), (13, I p0.Op), (94, .bool (p0.Op == 10))] hF (by kernel_rfl) fun fr hF => then_normal ?_)
     refine (wp_if hF (b := (p0.Op == 10)) rfl (fun hb => ?_) (fun hb => ?_))
     · replace h := iteT hb h
       obtain ⟨x12, hx12, h⟩ := bindE h
       refine wp_seq (region_b [] [true, false, false, true, true, true, true, true, false, true, true, true]
           [.eq (B b1 1), .eq (I p0.A), .eq (.bool x12), .eq (.bool x12), .eq (.bool x1), .eq (.bool (x12 && x1)), .eq (.bool (x12 && x1)), .eq (B b1 3), .eq (I p0.C), .eq (.bool (p0.C == 0)), .eq (.bool ((x12 && x1) && (p0.C == 0))), .eq (.bool ((x12 && x1) && (p0.C == 0)))]
           [(6, .bool ((x12 && x1) && (p0.C == 0)))] mix hF (by kernel_rfl) (by kernel_rfl) (by kernel_rfl) ⟨Pd.mono_eq, Pd.mono_eq, Pd.mono_eq, trivial⟩ (fun hG => ⟨np_loadBox hG hF ty3 rfl rfl (hs.bx 0 rfl) rfl rfl rfl, np_call [I p0.A] hG hF Try.call136 rfl rfl (fun w hC hg => (spec_l05Reg_ok p0.A hx12).mono fun e w' ⟨v, he, hv, hc⟩ => ⟨v, he, hc, hv⟩), np_loadBox hG hF ty3 rfl rfl (hs.bx 0 rfl) rfl rfl rfl, trivial⟩) (by kernel_rfl) fun fr w12 hF hE hc => then_normal ?_)
       have hs := hs.ext hc
       have hM0 := hM0.ext hc
       have hs : Sep [] w12 S1 := Sep.pick [] hs (by decide) rfl
       obtain rfl := Option.some.inj h
       exact wp_ret (blk_ret (then_ret (ret1 rfl hF rfl ⟨_, rfl, rfl, hM0.chg⟩)))
     replace h := iteF hb h
     refine wp_seq ?_
     refine wp_seq (wp_pure [(3, B b1 0), (13, I p0.Op), (107, .bool (p0.Op == 12))] hF (by kernel_rfl) fun fr hF => then_normal ?_)
     refine (wp_merge [(3, B b1 0), (107, .bool ((p0.Op == 12) || (p0.Op == 14)))] hF (b := (p0.Op == 12)) rfl (fun hb => ?_) (fun hb => ?_) fun fr hF => then_normal ?_)
     · exact wp_skip ⟨rfl, rfl, (hF.sub [(3, B b1 0), (107, .bool (p0.Op == 12))] (by kernel_rfl)).eqs (by first | (simp only [hb]; done) | (simp only [hb]; rfl))⟩
     · exact wp_pure [(3, B b1 0), (107, .bool (p0.Op == 14))] hF (by kernel_rfl) fun fr hF => ⟨rfl, rfl, hF.eqs (by first | (simp only [hb]; done) | (simp only [hb]; rfl))⟩
     refine (wp_if hF (b := ((p0.Op == 12) || (p0.Op == 14))) rfl (fun hb => ?_) (fun hb => ?_))
     · replace h := iteT hb h
       refine wp_seq (region_b [] [true, false, true, true, true, false, true, true, true, true, false, true, true, true]
           [.eq (B b1 1), .eq (I p0.A), .eq (.bool (p0.A == 0)), .eq (.bool (p0.A == 0)), .eq (B b1 2), .eq (I p0.B), .eq (.bool (p0.B == 0)), .eq (.bool ((p0.A == 0) && (p0.B == 0))), .eq (.bool ((p0.A == 0) && (p0.B == 0))), .eq (B b1 3), .eq (I p0.C), .eq (.bool (p0.C == 0)), .eq (.bool (((p0.A == 0) && (p0.B == 0)) && (p0.C == 0))), .eq (.bool (((p0.A == 0) && (p0.B == 0)) && (p0.C == 0)))]
           [(6, .bool (((p0.A == 0) && (p0.B == 0)) && (p0.C == 0)))] mix hF (by kernel_rfl) (by kernel_rfl) (by kernel_rfl) ⟨Pd.mono_eq, Pd.mono_eq, Pd.mono_eq, trivial⟩ (fun hG => ⟨np_loadBox hG hF ty3 rfl rfl (hs.bx 0 rfl) rfl rfl rfl, np_loadBox hG hF ty3 rfl rfl (hs.bx 0 rfl) rfl rfl rfl, np_loadBox hG hF ty3 rfl rfl (hs.bx 0 rfl) rfl rfl rfl, trivial⟩) (by kernel_rfl) fun fr w13 hF hE hc => then_normal ?_)
       have hs := hs.ext hc
       have hM0 := hM0.ext hc
       have hs : Sep [] w13 S1 := Sep.pick [] hs (by decide) rfl
       obtain rfl := Option.some.inj h
       exact wp_ret (blk_ret (then_ret (ret1 rfl hF rfl ⟨_, rfl, rfl, hM0.chg⟩)))
     replace h := iteF hb h
     have hs : Sep [] w2 S1 := Sep.pick [] hs (by decide) rfl
     refine (wp_skip ?_)
     refine blk_normal (then_normal ?_)
     refine wp_seq (wp_pure [(6, .bool false)] hF (by kernel_rfl) fun fr hF => then_normal ?_)
     obtain rfl := Option.some.inj h
     exact wp_ret (ret1 rfl hF rfl ⟨_, rfl, rfl, hM0.chg⟩)
   replace h := iteF hb h
   refine wp_seq (wp_pure [(3, B b1 0), (7, .bool x1), (13, I p0.Op), (62, .bool (p0.Op == 6))] hF (by kernel_rfl) fun fr hF => then_normal ?_)
   refine (wp_merge [(3, B b1 0), (7, .bool x1), (13, I p0.Op), (62, .bool ((p0.Op == 6) || (p0.Op == 13)))] hF (b := (p0.Op == 6)) rfl (fun hb => ?_) (fun hb => ?_) fun fr hF => then_normal ?_)
   · exact wp_skip ⟨rfl, rfl, (hF.sub [(3, B b1 0), (7, .bool x1), (13, I p0.Op), (62, .bool (p0.Op == 6))] (by kernel_rfl)).eqs (by first | (simp only [hb]; done) | (simp only [hb]; rfl))⟩
   · exact wp_pure [(3, B b1 0), (7, .bool x1), (13, I p0.Op), (62, .bool (p0.Op == 13))] hF (by kernel_rfl) fun fr hF => ⟨rfl, rfl, hF.eqs (by first | (simp only [hb]; done) | (simp only [hb]; rfl))⟩
   refine (wp_if hF (b := ((p0.Op == 6) || (p0.Op == 13))) rfl (fun hb => ?_) (fun hb => ?_))
   · replace h := iteT hb h
     obtain ⟨x13, hx13, h⟩ := bindE h
     refine wp_seq (region_b [] [true, false, false, true, true, false, true, true, true, true, false, true, true, true]
         [.eq (B b1 1), .eq (I p0.A), .eq (.bool x13), .eq (.bool x13), .eq (B b1 2), .eq (I p0.B), .eq (.bool (p0.B == 0)), .eq (.bool (x13 && (p0.B == 0))), .eq (.bool (x13 && (p0.B == 0))), .eq (B b1 3), .eq (I p0.C), .eq (.bool (p0.C == 0)), .eq (.bool ((x13 && (p0.B == 0)) && (p0.C == 0))), .eq (.bool ((x13 && (p0.B == 0)) && (p0.C == 0)))]
         [(6, .bool ((x13 && (p0.B == 0)) && (p0.C == 0)))] mix hF (by kernel_rfl) (by kernel_rfl) (by kernel_rfl) ⟨Pd.mono_eq, Pd.mono_eq, Pd.mono_eq, Pd.mono_eq, trivial⟩ (fun hG => ⟨np_loadBox hG hF ty3 rfl rfl (hs.bx 0 rfl) rfl rfl rfl, np_call [I p0.A] hG hF Try.call136 rfl rfl (fun w hC hg => (spec_l05Reg_ok p0.A hx13).mono fun e w' ⟨v, he, hv, hc⟩ => ⟨v, he, hc, hv⟩), np_loadBox hG hF ty3 rfl rfl (hs.bx 0 rfl) rfl rfl rfl, np_loadBox hG hF ty3 rfl rfl (hs.bx 0 rfl) rfl rfl rfl, trivial⟩) (by kernel_rfl) fun fr w14 hF hE hc => then_normal ?_)
     have hs := hs.ext hc
     have hM0 := hM0.ext hc
     have hs : Sep [] w14 S1 := Sep.pick [] hs (by decide) rfl
     obtain rfl := Option.some.inj h
     exact wp_ret (blk_ret (then_ret (ret1 rfl hF rfl ⟨_, rfl, rfl, hM0.chg⟩)))
   replace h := iteF hb h
   refine wp_seq ?_
   refine wp_seq (wp_pure [(3, B b1 0), (7, .bool x1), (13, I p0.Op), (80, .bool (p0.Op == 9))] hF (by kernel_rfl) fun fr hF => then_normal ?_)
   refine (wp_merge [(3, B b1 0), (7, .bool x1), (13, I p0.Op), (80, .bool ((p0.Op == 9) || (p0.Op == 11)))] hF (b := (p0.Op == 9)) rfl (fun hb => ?_) (fun hb => ?_) fun fr hF => then_normal ?_)
   · exact wp_skip ⟨rfl, rfl, (hF.sub [(3, B b1 0), (7, .bool x1), (13, I p0.Op), (80, .bool (p0.Op == 9))] (by kernel_rfl)).eqs (by first | (simp only [hb]; done) | (simp only [hb]; rfl))⟩
   · exact wp_pure [(3, B b1 0), (7, .bool x1), (13, I p0.Op), (80, .bool (p0.Op == 11))] hF (by kernel_rfl) fun fr hF => ⟨rfl, rfl, hF.eqs (by first | (simp only [hb]; done) | (simp only [hb]; rfl))⟩
   refine (wp_if hF (b := ((p0.Op == 9) || (p0.Op == 11))) rfl (fun hb => ?_) (fun hb => ?_))
   · replace h := iteT hb h
     refine wp_seq (region_b [] [true, false, true, true, true, true, true, true, false, true, true, true]
         [.eq (B b1 1), .eq (I p0.A), .eq (.bool (p0.A == 0)), .eq (.bool (p0.A == 0)), .eq (.bool x1), .eq (.bool ((p0.A == 0) && x1)), .eq (.bool ((p0.A == 0) && x1)), .eq (B b1 3), .eq (I p0.C), .eq (.bool (p0.C == 0)), .eq (.bool (((p0.A == 0) && x1) && (p0.C == 0))), .eq (.bool (((p0.A == 0) && x1) && (p0.C == 0)))]
         [(6, .bool (((p0.A == 0) && x1) && (p0.C == 0)))] mix hF (by kernel_rfl) (by kernel_rfl) (by kernel_rfl) ⟨Pd.mono_eq, Pd.mono_eq, trivial⟩ (fun hG => ⟨np_loadBox hG hF ty3 rfl rfl (hs.bx 0 rfl) rfl rfl rfl, np_loadBox hG hF ty3 rfl rfl (hs.bx 0 rfl) rfl rfl rfl, trivial⟩) (by kernel_rfl) fun fr w15 hF hE hc => then_normal ?_)
     have hs := hs.ext hc
     have hM0 := hM0.ext hc
     have hs : Sep [] w15 S1 := Sep.pick [] hs (by decide) rfl
     obtain rfl := Option.some.inj h
     exact wp_ret (blk_ret (then_ret (ret1 rfl hF rfl ⟨_, rfl, rfl, hM0.chg⟩)))
   replace h := iteF hb h
   refine wp_seq (wp_pure [(3, B b1 0), (7, .bool x1), (13, I p0.Op), (94, .bool (p0.Op == 10))] hF (by kernel_rfl) fun fr hF => then_normal ?_)
   refine (wp_if hF (b := (p0.Op == 10)) rfl (fun hb => ?_) (fun hb => ?_))
   · replace h := iteT hb h
     obtain ⟨x14, hx14, h⟩ := bindE h
     refine wp_seq (region_b [] [true, false, false, true, true, true, true, true, false, true, true, true]
         [.eq (B b1 1), .eq (I p0.A), .eq (.bool x14), .eq (.bool x14), .eq (.bool x1), .eq (.bool (x14 && x1)), .eq (.bool (x14 && x1)), .eq (B b1 3), .eq (I p0.C), .eq (.bool (p0.C == 0)), .eq (.bool ((x14 && x1) && (p0.C == 0))), .eq (.bool ((x14 && x1) && (p0.C == 0)))]
         [(6, .bool ((x14 && x1) && (p0.C == 0)))] mix hF (by kernel_rfl) (by kernel_rfl) (by kernel_rfl) ⟨Pd.mono_eq, Pd.mono_eq, Pd.mono_eq, trivial⟩ (fun hG => ⟨np_loadBox hG hF ty3 rfl rfl (hs.bx 0 rfl) rfl rfl rfl, np_call [I p0.A] hG hF Try.call136 rfl rfl (fun w hC hg => (spec_l05Reg_ok p0.A hx14).mono fun e w' ⟨v, he, hv, hc⟩ => ⟨v, he, hc, hv⟩), np_loadBox hG hF ty3 rfl rfl (hs.bx 0 rfl) rfl rfl rfl, trivial⟩) (by kernel_rfl) fun fr w16 hF hE hc => then_normal ?_)
     have hs := hs.ext hc
     have hM0 := hM0.ext hc
     have hs : Sep [] w16 S1 := Sep.pick [] hs (by decide) rfl
     obtain rfl := Option.some.inj h
     exact wp_ret (blk_ret (then_ret (ret1 rfl hF rfl ⟨_, rfl, rfl, hM0.chg⟩)))
   replace h := iteF hb h
   refine wp_seq ?_
   refine wp_seq (wp_pure [(3, B b1 0), (13, I p0.Op), (107, .bool (p0.Op == 12))] hF (by kernel_rfl) fun fr hF => then_normal ?_)
   refine (wp_merge [(3, B b1 0), (107, .bool ((p0.Op == 12) || (p0.Op == 14)))] hF (b := (p0.Op == 12)) rfl (fun hb => ?_) (fun hb => ?_) fun fr hF => then_normal ?_)
   · exact wp_skip ⟨rfl, rfl, (hF.sub [(3, B b1 0), (107, .bool (p0.Op == 12))] (by kernel_rfl)).eqs (by first | (simp only [hb]; done) | (simp only [hb]; rfl))⟩
   · exact wp_pure [(3, B b1 0), (107, .bool (p0.Op == 14))] hF (by kernel_rfl) fun fr hF => ⟨rfl, rfl, hF.eqs (by first | (simp only [hb]; done) | (simp only [hb]; rfl))⟩
   refine (wp_if hF (b := ((p0.Op == 12) || (p0.Op == 14))) rfl (fun hb => ?_) (fun hb => ?_))
   · replace h := iteT hb h
     refine wp_seq (region_b [] [true, false, true, true, true, false, true, true, true, true, false, true, true, true]
         [.eq (B b1 1), .eq (I p0.A), .eq (.bool (p0.A == 0)), .eq (.bool (p0.A == 0)), .eq (B b1 2), .eq (I p0.B), .eq (.bool (p0.B == 0)), .eq (.bool ((p0.A == 0) && (p0.B == 0))), .eq (.bool ((p0.A == 0) && (p0.B == 0))), .eq (B b1 3), .eq (I p0.C), .eq (.bool (p0.C == 0)), .eq (.bool (((p0.A == 0) && (p0.B == 0)) && (p0.C == 0))), .eq (.bool (((p0.A == 0) && (p0.B == 0)) && (p0.C == 0)))]
         [(6, .bool (((p0.A == 0) && (p0.B == 0)) && (p0.C == 0)))] mix hF (by kernel_rfl) (by kernel_rfl) (by kernel_rfl) ⟨Pd.mono_eq, Pd.mono_eq, Pd.mono_eq, trivial⟩ (fun hG => ⟨np_loadBox hG hF ty3 rfl rfl (hs.bx 0 rfl) rfl rfl rfl, np_loadBox hG hF ty3 rfl rfl (hs.bx 0 rfl) rfl rfl rfl, np_loadBox hG hF ty3 rfl rfl (hs.bx 0 rfl) rfl rfl rfl, trivial⟩) (by kernel_rfl) fun fr w17 hF hE hc => then_normal ?_)
     have hs := hs.ext hc
     have hM0 := hM0.ext hc
     have hs : Sep [] w17 S1 := Sep.pick [] hs (by decide) rfl
     obtain rfl := Option.some.inj h
     exact wp_ret (blk_ret (then_ret (ret1 rfl hF rfl ⟨_, rfl, rfl, hM0.chg⟩)))
   replace h := iteF hb h
   have hs : Sep [] w2 S1 := Sep.pick [] hs (by decide) rfl
   refine (wp_skip ?_)
   refine blk_normal (then_normal ?_)
   refine wp_seq (wp_pure [(6, .bool false)] hF (by kernel_rfl) fun fr hF => then_normal ?_)
   obtain rfl := Option.some.inj h
   exact wp_ret (ret1 rfl hF rfl ⟨_, rfl, rfl, hM0.chg⟩)
 replace h := iteF hb h
 refine wp_seq (wp_pure [(3, B b1 0), (7, .bool x1), (13, I p0.Op), (30, .bool (p0.Op == 7))] hF (by kernel_rfl) fun fr hF => then_normal ?_)
 refine (wp_merge [(3, B b1 0), (7, .bool x1), (13, I p0.Op), (30, .bool ((p0.Op == 7) || (p0.Op == 8)))] hF (b := (p0.Op == 7)) rfl (fun hb => ?_) (fun hb => ?_) fun fr hF => then_normal ?_)
 · exact wp_skip ⟨rfl, rfl, (hF.sub [(3, B b1 0), (7, .bool x1), (13, I p0.Op), (30, .bool (p0.Op == 7))] (by kernel_rfl)).eqs (by first | (simp only [hb]; done) | (simp only [hb]; rfl))⟩
 · exact wp_pure [(3, B b1 0), (7, .bool x1), (13, I p0.Op), (30, .bool (p0.Op == 8))] hF (by kernel_rfl) fun fr hF => ⟨rfl, rfl, hF.eqs (by first | (simp only [hb]; done) | (simp only [hb]; rfl))⟩
 refine (wp_if hF (b := ((p0.Op == 7) || (p0.Op == 8))) rfl (fun hb => ?_) (fun hb => ?_))
 · replace h := iteT hb h
   obtain ⟨x15, hx15, h⟩ := bindE h
   obtain ⟨x16, hx16, h⟩ := bindE h
   refine wp_seq (region_b [] [true, false, false, true, true, false, false, true, true, true, false, true, true, true]
       [.eq (B b1 1), .eq (I p0.A), .eq (.bool x15), .eq (.bool x15), .eq (B b1 2), .eq (I p0.B), .eq (.bool x16), .eq (.bool (x15 && x16)), .eq (.bool (x15 && x16)), .eq (B b1 3), .eq (I p0.C), .eq (.bool (p0.C == 0)), .eq (.bool ((x15 && x16) && (p0.C == 0))), .eq (.bool ((x15 && x16) && (p0.C == 0)))]
       [(6, .bool ((x15 && x16) && (p0.C == 0)))] mix hF (by kernel_rfl) (by kernel_rfl) (by kernel_rfl) ⟨Pd.mono_eq, Pd.mono_eq, Pd.mono_eq, Pd.mono_eq, Pd.mono_eq, trivial⟩ (fun hG => ⟨np_loadBox hG hF ty3 rfl rfl (hs.bx 0 rfl) rfl rfl rfl, np_call [I p0.A] hG hF Try.call136 rfl rfl (fun w hC hg => (spec_l05Reg_ok p0.A hx15).mono fun e w' ⟨v, he, hv, hc⟩ => ⟨v, he, hc, hv⟩), np_loadBox hG hF ty3 rfl rfl (hs.bx 0 rfl) rfl rfl rfl, np_call [I p0.B] hG hF Try.call136 rfl rfl (fun w hC hg => (spec_l05Reg_ok p0.B (iteT hg.2 hx16)).mono fun e w' ⟨v, he, hv, hc⟩ => ⟨v, he, hc, hv⟩), np_loadBox hG hF ty3 rfl rfl (hs.bx 0 rfl) rfl rfl rfl, trivial⟩) (by kernel_rfl) fun fr w18 hF hE hc => then_normal ?_)
   have hs := hs.ext hc
   have hM0 := hM0.ext hc
   have hs : Sep [] w18 S1 := Sep.pick [] hs (by decide) rfl
   obtain rfl := Option.some.inj h
   exact wp_ret (blk_ret (then_ret (ret1 rfl hF rfl ⟨_, rfl, rfl, hM0.chg⟩)))
 replace h := iteF hb h
 refine wp_seq (wp_pure [(3, B b1 0), (7, .bool x1), (13, I p0.Op), (47, .bool (p0.Op == 3))] hF (by kernel_rfl) fun fr hF => then_normal ?_)
 refine (wp_if hF (b := (p0.Op == 3)) rfl (fun hb => ?_) (fun hb => ?_))
 · replace h := iteT hb h
   obtain ⟨x17, hx17, h⟩ := bindE h
   obtain ⟨x18, hx18, h⟩ := bindE h
   obtain ⟨x19, hx19, h⟩ := bindE h
   refine wp_seq (region_b [] [true, false, false, true, true, false, false, true, true, true, false, false, true, true]
       [.eq (B b1 1), .eq (I p0.A), .eq (.bool x17), .eq (.bool x17), .eq (B b1 2), .eq (I p0.B), .eq (.bool x18), .eq (.bool (x17 && x18)), .eq (.bool (x17 && x18)), .eq (B b1 3), .eq (I p0.C), .eq (.bool x19), .eq (.bool ((x17 && x18) && x19)), .eq (.bool ((x17 && x18) && x19))]
       [(6, .bool ((x17 && x18) && x19))] mix hF (by kernel_rfl) (by kernel_rfl) (by kernel_rfl) ⟨Pd.mono_eq, Pd.mono_eq, Pd.mono_eq, Pd.mono_eq, Pd.mono_eq, Pd.mono_eq, trivial⟩ (fun hG => ⟨np_loadBox hG hF ty3 rfl rfl (hs.bx 0 rfl) rfl rfl rfl, np_call [I p0.A] hG hF Try.call136 rfl rfl (fun w hC hg => (spec_l05Reg_ok p0.A hx17).mono fun e w' ⟨v, he, hv, hc⟩ => ⟨v, he, hc, hv⟩), np_loadBox hG hF ty3 rfl rfl (hs.bx 0 rfl) rfl rfl rfl, np_call [I p0.B] hG hF Try.call136 rfl rfl (fun w hC hg => (spec_l05Reg_ok p0.B (iteT hg.2 hx18)).mono fun e w' ⟨v, he, hv, hc⟩ => ⟨v, he, hc, hv⟩), np_loadBox hG hF ty3 rfl rfl (hs.bx 0 rfl) rfl rfl rfl, np_call [I p0.C, I 3, I 16] hG hF Try.call58 rfl rfl (fun w hC hg => (spec_l01In_ok p0.C 3 16 (iteT hg.2 hx19)).mono fun e w' ⟨v, he, hv, hc⟩ => ⟨v, he, hc, hv⟩), trivial⟩) (by kernel_rfl) fun fr w19 hF hE hc => then_normal ?_)
   have hs := hs.ext hc
   have hM0 := hM0.ext hc
   have hs : Sep [] w19 S1 := Sep.pick [] hs (by decide) rfl
   obtain rfl := Option.some.inj h
   exact wp_ret (blk_ret (then_ret (ret1 rfl hF rfl ⟨_, rfl, rfl, hM0.chg⟩)))
 replace h := iteF hb h
 refine wp_seq ?_
 refine wp_seq (wp_pure [(3, B b1 0), (7, .bool x1), (13, I p0.Op), (62, .bool (p0.Op == 4))] hF (by kernel_rfl) fun fr hF => then_normal ?_)
 refine (wp_if hF (b := (p0.Op == 4)) rfl (fun hb => ?_) (fun hb => ?_))
 · replace h := iteT hb h
   refine (wp_skip (then_normal ?_))
   refine (wp_if hF (b := (p0.Op == 4)) rfl (fun hb => ?_) (fun hb => ?_))
   · replace h := iteT hb h
     obtain ⟨x20, hx20, h⟩ := bindE h
     refine wp_seq (region_b [] [true, false, false, true, true, false, true, true, true, true, false, true, true, true]
         [.eq (B b1 1), .eq (I p0.A), .eq (.bool x20), .eq (.bool x20), .eq (B b1 2), .eq (I p0.B), .eq (.bool (p0.B == 0)), .eq (.bool (x20 && (p0.B == 0))), .eq (.bool (x20 && (p0.B == 0))), .eq (B b1 3), .eq (I p0.C), .eq (.bool (p0.C == 0)), .eq (.bool ((x20 && (p0.B == 0)) && (p0.C == 0))), .eq (.bool ((x20 && (p0.B == 0)) && (p0.C == 0)))]
         [(6, .bool ((x20 && (p0.B == 0)) && (p0.C == 0)))] mix hF (by kernel_rfl) (by kernel_rfl) (by kernel_rfl) ⟨Pd.mono_eq, Pd.mono_eq, Pd.mono_eq, Pd.mono_eq, trivial⟩ (fun hG => ⟨np_loadBox hG hF ty3 rfl rfl (hs.bx 0 rfl) rfl rfl rfl, np_call [I p0.A] hG hF Try.call136 rfl rfl (fun w hC hg => (spec_l05Reg_ok p0.A hx20).mono fun e w' ⟨v, he, hv, hc⟩ => ⟨v, he, hc, hv⟩), np_loadBox hG hF ty3 rfl rfl (hs.bx 0 rfl) rfl rfl rfl, np_loadBox hG hF ty3 rfl rfl (hs.bx 0 rfl) rfl rfl rfl, trivial⟩) (by kernel_rfl) fun fr w20 hF hE hc => then_normal ?_)
     have hs := hs.ext hc
     have hM0 := hM0.ext hc
     have hs : Sep [] w20 S1 := Sep.pick [] hs (by decide) rfl
     obtain rfl := Option.some.inj h
     exact wp_ret (blk_ret (then_ret (ret1 rfl hF rfl ⟨_, rfl, rfl, hM0.chg⟩)))
   replace h := iteF hb h
   refine wp_seq ?_
   refine wp_seq (wp_pure [(3, B b1 0), (7, .bool x1), (13, I p0.Op), (80, .bool (p0.Op == 9))] hF (by kernel_rfl) fun fr hF => then_normal ?_)
   refine (wp_merge [(3, B b1 0), (7, .bool x1), (13, I p0.Op), (80, .bool ((p0.Op == 9) || (p0.Op == 11)))] hF (b := (p0.Op == 9)) rfl (fun hb => ?_) (fun hb => ?_) fun fr hF => then_normal ?_)
   · exact wp_skip ⟨rfl, rfl, (hF.sub [(3, B b1 0), (7, .bool x1), (13, I p0.Op), (80, .bool (p0.Op == 9))] (by kernel_rfl)).eqs (by first | (simp only [hb]; done) | (simp only [hb]; rfl))⟩
   · exact wp_pure [(3, B b1 0), (7, .bool x1), (13, I p0.Op), (80, .bool (p0.Op == 11))] hF (by kernel_rfl) fun fr hF => ⟨rfl, rfl, hF.eqs (by first | (simp only [hb]; done) | (simp only [hb]; rfl))⟩
   refine (wp_if hF (b := ((p0.Op == 9) || (p0.Op == 11))) rfl (fun hb => ?_) (fun hb => ?_))
   · replace h := iteT hb h
     refine wp_seq (region_b [] [true, false, true, true, true, true, true, true, false, true, true, true]
         [.eq (B b1 1), .eq (I p0.A), .eq (.bool (p0.A == 0)), .eq (.bool (p0.A == 0)), .eq (.bool x1), .eq (.bool ((p0.A == 0) && x1)), .eq (.bool ((p0.A == 0) && x1)), .eq (B b1 3), .eq (I p0.C), .eq (.bool (p0.C == 0)), .eq (.bool (((p0.A == 0) && x1) && (p0.C == 0))), .eq (.bool (((p0.A == 0) && x1) && (p0.C == 0)))]
         [(6, .bool (((p0.A == 0) && x1) && (p0.C == 0)))] mix hF (by kernel_rfl) (by kernel_rfl) (by kernel_rfl) ⟨Pd.mono_eq, Pd.mono_eq, trivial⟩ (fun hG => ⟨np_loadBox hG hF ty3 rfl rfl (hs.bx 0 rfl) rfl rfl rfl, np_loadBox hG hF ty3 rfl rfl (hs.bx 0 rfl) rfl rfl rfl, trivial⟩) (by kernel_rfl) fun fr w21 hF hE hc => then_normal ?_)
     have hs := hs.ext hc
     have hM0 := hM0.ext hc
     have hs : Sep [] w21 S1 := Sep.pick [] hs (by decide) rfl
     obtain rfl := Option.some.inj h
     exact wp_ret (blk_ret (then_ret (ret1 rfl hF rfl ⟨_, rfl, rfl, hM0.chg⟩)))
   replace h := iteF hb h
   refine wp_seq (wp_pure [(3, B b1 0), (7, .bool x1), (13, I p0.Op), (94, .bool (p0.Op == 10))] hF (by kernel_rfl) fun fr hF => then_normal ?_)
   refine (wp_if hF (b := (p0.Op == 10)) rfl (fun hb => ?_) (fun hb => ?_))
   · replace h := iteT hb h
     obtain ⟨x21, hx21, h⟩ := bindE h
     refine wp_seq (region_b [] [true, false, false, true, true, true, true, true, false, true, true, true]
         [.eq (B b1 1), .eq (I p0.A), .eq (.bool x21), .eq (.bool x21), .eq (.bool x1), .eq (.bool (x21 && x1)), .eq (.bool (x21 && x1)), .eq (B b1 3), .eq (I p0.C), .eq (.bool (p0.C == 0)), .eq (.bool ((x21 && x1) && (p0.C == 0))), .eq (.bool ((x21 && x1) && (p0.C == 0)))]
         [(6, .bool ((x21 && x1) && (p0.C == 0)))] mix hF (by kernel_rfl) (by kernel_rfl) (by kernel_rfl) ⟨Pd.mono_eq, Pd.mono_eq, Pd.mono_eq, trivial⟩ (fun hG => ⟨np_loadBox hG hF ty3 rfl rfl (hs.bx 0 rfl) rfl rfl rfl, np_call [I p0.A] hG hF Try.call136 rfl rfl (fun w hC hg => (spec_l05Reg_ok p0.A hx21).mono fun e w' ⟨v, he, hv, hc⟩ => ⟨v, he, hc, hv⟩), np_loadBox hG hF ty3 rfl rfl (hs.bx 0 rfl) rfl rfl rfl, trivial⟩) (by kernel_rfl) fun fr w22 hF hE hc => then_normal ?_)
     have hs := hs.ext hc
     have hM0 := hM0.ext hc
     have hs : Sep [] w22 S1 := Sep.pick [] hs (by decide) rfl
     obtain rfl := Option.some.inj h
     exact wp_ret (blk_ret (then_ret (ret1 rfl hF rfl ⟨_, rfl, rfl, hM0.chg⟩)))
   replace h := iteF hb h
   refine wp_seq ?_
   refine wp_seq (wp_pure [(3, B b1 0), (13, I p0.Op), (107, .bool (p0.Op == 12))] hF (by kernel_rfl) fun fr hF => then_normal ?_)
   refine (wp_merge [(3, B b1 0), (107, .bool ((p0.Op == 12) || (p0.Op == 14)))] hF (b := (p0.Op == 12)) rfl (fun hb => ?_) (fun hb => ?_) fun fr hF => then_normal ?_)
   · exact wp_skip ⟨rfl, rfl, (hF.sub [(3, B b1 0), (107, .bool (p0.Op == 12))] (by kernel_rfl)).eqs (by first | (simp only [hb]; done) | (simp only [hb]; rfl))⟩
   · exact wp_pure [(3, B b1 0), (107, .bool (p0.Op == 14))] hF (by kernel_rfl) fun fr hF => ⟨rfl, rfl, hF.eqs (by first | (simp only [hb]; done) | (simp only [hb]; rfl))⟩
   refine (wp_if hF (b := ((p0.Op == 12) || (p0.Op == 14))) rfl (fun hb => ?_) (fun hb => ?_))
   · replace h := iteT hb h
     refine wp_seq (region_b [] [true, false, true, true, true, false, true, true, true, true, false, true, true, true]
         [.eq (B b1 1), .eq (I p0.A), .eq (.bool (p0.A == 0)), .eq (.bool (p0.A == 0)), .eq (B b1 2), .eq (I p0.B), .eq (.bool (p0.B == 0)), .eq (.bool ((p0.A == 0) && (p0.B == 0))), .eq (.bool ((p0.A == 0) && (p0.B == 0))), .eq (B b1 3), .eq (I p0.C), .eq (.bool (p0.C == 0)), .eq (.bool (((p0.A == 0) && (p0.B == 0)) && (p0.C == 0))), .eq (.bool (((p0.A == 0) && (p0.B == 0)) && (p0.C == 0)))]
         [(6, .bool (((p0.A == 0) && (p0.B == 0)) && (p0.C == 0)))] mix hF (by kernel_rfl) (by kernel_rfl) (by kernel_rfl) ⟨Pd.mono_eq, Pd.mono_eq, Pd.mono_eq, trivial⟩ (fun hG => ⟨np_loadBox hG hF ty3 rfl rfl (hs.bx 0 rfl) rfl rfl rfl, np_loadBox hG hF ty3 rfl rfl (hs.bx 0 rfl) rfl rfl rfl, np_loadBox hG hF ty3 rfl rfl (hs.bx 0 rfl) rfl rfl rfl, trivial⟩) (by kernel_rfl) fun fr w23 hF hE hc => then_normal ?_)
     have hs := hs.ext hc
     have hM0 := hM0.ext hc
     have hs : Sep [] w23 S1 := Sep.pick [] hs (by decide) rfl
     obtain rfl := Option.some.inj h
     exact wp_ret (blk_ret (then_ret (ret1 rfl hF rfl ⟨_, rfl, rfl, hM0.chg⟩)))
   replace h := iteF hb h
   have hs : Sep [] w2 S1 := Sep.pick [] hs (by decide) rfl
   refine (wp_skip ?_)
   refine blk_normal (then_normal ?_)
   refine wp_seq (wp_pure [(6, .bool false)] hF (by kernel_rfl) fun fr hF => then_normal ?_)
   obtain rfl := Option.some.inj h
   exact wp_ret (ret1 rfl hF rfl ⟨_, rfl, rfl, hM0.chg⟩)
 replace h := iteF hb h
 refine wp_seq (wp_pure [(3, B b1 0), (7, .bool x1), (13, I p0.Op), (62, .bool (p0.Op == 5))] hF (by kernel_rfl) fun fr hF => then_normal ?_)
 refine (wp_if hF (b := (p0.Op == 5)) rfl (fun hb => ?_) (fun hb => ?_))
 · replace h := iteT hb h
   refine (wp_skip (then_normal ?_))
   refine (wp_if hF (b := (p0.Op == 5)) rfl (fun hb => ?_) (fun hb => ?_))
   · replace h := iteT hb h
     obtain ⟨x22, hx22, h⟩ := bindE h
     refine wp_seq (region_b [] [true, false, false, true, true, false, true, true, true, true, false, true, true, true]
         [.eq (B b1 1), .eq (I p0.A), .eq (.bool x22), .eq (.bool x22), .eq (B b1 2), .eq (I p0.B), .eq (.bool (p0.B == 0)), .eq (.bool (x22 && (p0.B == 0))), .eq (.bool (x22 && (p0.B == 0))), .eq (B b1 3), .eq (I p0.C), .eq (.bool (p0.C == 0)), .eq (.bool ((x22 && (p0.B == 0)) && (p0.C == 0))), .eq (.bool ((x22 && (p0.B == 0)) && (p0.C == 0)))]
         [(6, .bool ((x22 && (p0.B == 0)) && (p0.C == 0)))] mix hF (by kernel_rfl) (by kernel_rfl) (by kernel_rfl) ⟨Pd.mono_eq, Pd.mono_eq, Pd.mono_eq, Pd.mono_eq, trivial⟩ (fun hG => ⟨np_loadBox hG hF ty3 rfl rfl (hs.bx 0 rfl) rfl rfl rfl, np_call [I p0.A] hG hF Try.call136 rfl rfl (fun w hC hg => (spec_l05Reg_ok p0.A hx22).mono fun e w' ⟨v, he, hv, hc⟩ => ⟨v, he, hc, hv⟩), np_loadBox hG hF ty3 rfl rfl (hs.bx 0 rfl) rfl rfl rfl, np_loadBox hG hF ty3 rfl rfl (hs.bx 0 rfl) rfl rfl rfl, trivial⟩) (by kernel_rfl) fun fr w24 hF hE hc => then_normal ?_)
     have hs := hs.ext hc
     have hM0 := hM0.ext hc
     have hs : Sep [] w24 S1 := Sep.pick [] hs (by decide) rfl
     obtain rfl := Option.some.inj h
     exact wp_ret (blk_ret (then_ret (ret1 rfl hF rfl ⟨_, rfl, rfl, hM0.chg⟩)))
   replace h := iteF hb h
   refine wp_seq ?_
   refine wp_seq (wp_pure [(3, B b1 0), (7, .bool x1), (13, I p0.Op), (80, .bool (p0.Op == 9))] hF (by kernel_rfl) fun fr hF => then_normal ?_)
   refine (wp_merge [(3, B b1 0), (7, .bool x1), (13, I p0.Op), (80, .bool ((p0.Op == 9) || (p0.Op == 11)))] hF (b := (p0.Op == 9)) rfl (fun hb => ?_) (fun hb => ?_) fun fr hF => then_normal ?_)
   · exact wp_skip ⟨rfl, rfl, (hF.sub [(3, B b1 0), (7, .bool x1), (13, I p0.Op), (80, .bool (p0.Op == 9))] (by kernel_rfl)).eqs (by first | (simp only [hb]; done) | (simp only [hb]; rfl))⟩
   · exact wp_pure [(3, B b1 0), (7, .bool x1), (13, I p0.Op), (80, .bool (p0.Op == 11))] hF (by kernel_rfl) fun fr hF => ⟨rfl, rfl, hF.eqs (by first | (simp only [hb]; done) | (simp only [hb]; rfl))⟩
   refine (wp_if hF (b := ((p0.Op == 9) || (p0.Op == 11))) rfl (fun hb => ?_) (fun hb => ?_))
   · replace h := iteT hb h
     refine wp_seq (region_b [] [true, false, true, true, true, true, true, true, false, true, true, true]
         [.eq (B b1 1), .eq (I p0.A), .eq (.bool (p0.A == 0)), .eq (.bool (p0.A == 0)), .eq (.bool x1), .eq (.bool ((p0.A == 0) && x1)), .eq (.bool ((p0.A == 0) && x1)), .eq (B b1 3), .eq (I p0.C), .eq (.bool (p0.C == 0)), .eq (.bool (((p0.A == 0) && x1) && (p0.C == 0))), .eq (.bool (((p0.A == 0) && x1) && (p0.C == 0)))]
         [(6, .bool (((p0.A == 0) && x1) && (p0.C == 0)))] mix hF (by kernel_rfl) (by kernel_rfl) (by kernel_rfl) ⟨Pd.mono_eq, Pd.mono_eq, trivial⟩ (fun hG => ⟨np_loadBox hG hF ty3 rfl rfl (hs.bx 0 rfl) rfl rfl rfl, np_loadBox hG hF ty3 rfl rfl (hs.bx 0 rfl) rfl rfl rfl, trivial⟩) (by kernel_rfl) fun fr w25 hF hE hc => then_normal ?_)
     have hs := hs.ext hc
     have hM0 := hM0.ext hc
     have hs : Sep [] w25 S1 := Sep.pick [] hs (by decide) rfl
     obtain rfl := Option.some.inj h
     exact wp_ret (blk_ret (then_ret (ret1 rfl hF rfl ⟨_, rfl, rfl, hM0.chg⟩)))
   replace h := iteF hb h
   refine wp_seq (wp_pure [(3, B b1 0), (7, .bool x1), (13, I p0.Op), (94, .bool (p0.Op == 10))] hF (by kernel_rfl) fun fr hF => then_normal ?_)
   refine (wp_if hF (b := (p0.Op == 10)) rfl (fun hb => ?_) (fun hb => ?_))
   · replace h := iteT hb h
     obtain ⟨x23, hx23, h⟩ := bindE h
     refine wp_seq (region_b [] [true, false, false, true, true, true, true, true, false, true, true, true]
         [.eq (B b1 1), .eq (I p0.A), .eq (.bool x23), .eq (.bool x23), .eq (.bool x1), .eq (.bool (x23 && x1)), .eq (.bool (x23 && x1)), .eq (B b1 3), .eq (I p0.C), .eq (.bool (p0.C == 0)), .eq (.bool ((x23 && x1) && (p0.C == 0))), .eq (.bool ((x23 && x1) && (p0.C == 0)))]
         [(6, .bool ((x23 && x1) && (p0.C == 0)))] mix hF (by kernel_rfl) (by kernel_rfl) (by kernel_rfl) ⟨Pd.mono_eq, Pd.mono_eq, Pd.mono_eq, trivial⟩ (fun hG => ⟨np_loadBox hG hF ty3 rfl rfl (hs.bx 0 rfl) rfl rfl rfl, np_call [I p0.A] hG hF Try.call136 rfl rfl (fun w hC hg => (spec_l05Reg_ok p0.A hx23).mono fun e w' ⟨v, he, hv, hc⟩ => ⟨v, he, hc, hv⟩), np_loadBox hG hF ty3 rfl rfl (hs.bx 0 rfl) rfl rfl rfl, trivial⟩) (by kernel_rfl) fun fr w26 hF hE hc => then_normal ?_)
     have hs := hs.ext hc
     have hM0 := hM0.ext hc
     have hs : Sep [] w26 S1 := Sep.pick [] hs (by decide) rfl
     obtain rfl := Option.some.inj h
     exact wp_ret (blk_ret (then_ret (ret1 rfl hF rfl ⟨_, rfl, rfl, hM0.chg⟩)))
   replace h := iteF hb h
   refine wp_seq ?_
   refine wp_seq (wp_pure [(3, B b1 0), (13, I p0.Op), (107, .bool (p0.Op == 12))] hF (by kernel_rfl) fun fr hF => then_normal ?_)
   refine (wp_merge [(3, B b1 0), (107, .bool ((p0.Op == 12) || (p0.Op == 14)))] hF (b := (p0.Op == 12)) rfl (fun hb => ?_) (fun hb => ?_) fun fr hF => then_normal ?_)
   · exact wp_skip ⟨rfl, rfl, (hF.sub [(3, B b1 0), (107, .bool (p0.Op == 12))] (by kernel_rfl)).eqs (by first | (simp only [hb]; done) | (simp only [hb]; rfl))⟩
   · exact wp_pure [(3, B b1 0), (107, .bool (p0.Op == 14))] hF (by kernel_rfl) fun fr hF => ⟨rfl, rfl, hF.eqs (by first | (simp only [hb]; done) | (simp only [hb]; rfl))⟩
   refine (wp_if hF (b := ((p0.Op == 12) || (p0.Op == 14))) rfl (fun hb => ?_) (fun hb => ?_))
   · replace h := iteT hb h
     refine wp_seq (region_b [] [true, false, true, true, true, false, true, true, true, true, false, true, true, true]
         [.eq (B b1 1), .eq (I p0.A), .eq (.bool (p0.A == 0)), .eq (.bool (p0.A == 0)), .eq (B b1 2), .eq (I p0.B), .eq (.bool (p0.B == 0)), .eq (.bool ((p0.A == 0) && (p0.B == 0))), .eq (.bool ((p0.A == 0) && (p0.B == 0))), .eq (B b1 3), .eq (I p0.C), .eq (.bool (p0.C == 0)), .eq (.bool (((p0.A == 0) && (p0.B == 0)) && (p0.C == 0))), .eq (.bool (((p0.A == 0) && (p0.B == 0)) && (p0.C == 0)))]
         [(6, .bool (((p0.A == 0) && (p0.B == 0)) && (p0.C == 0)))] mix hF (by kernel_rfl) (by kernel_rfl) (by kernel_rfl) ⟨Pd.mono_eq, Pd.mono_eq, Pd.mono_eq, trivial⟩ (fun hG => ⟨np_loadBox hG hF ty3 rfl rfl (hs.bx 0 rfl) rfl rfl rfl, np_loadBox hG hF ty3 rfl rfl (hs.bx 0 rfl) rfl rfl rfl, np_loadBox hG hF ty3 rfl rfl (hs.bx 0 rfl) rfl rfl rfl, trivial⟩) (by kernel_rfl) fun fr w27 hF hE hc => then_normal ?_)
     have hs := hs.ext hc
     have hM0 := hM0.ext hc
     have hs : Sep [] w27 S1 := Sep.pick [] hs (by decide) rfl
     obtain rfl := Option.some.inj h
     exact wp_ret (blk_ret (then_ret (ret1 rfl hF rfl ⟨_, rfl, rfl, hM0.chg⟩)))
   replace h := iteF hb h
   have hs : Sep [] w2 S1 := Sep.pick [] hs (by decide) rfl
   refine (wp_skip ?_)
   refine blk_normal (then_normal ?_)
   refine wp_seq (wp_pure [(6, .bool false)] hF (by kernel_rfl) fun fr hF => then_normal ?_)
   obtain rfl := Option.some.inj h
   exact wp_ret (ret1 rfl hF rfl ⟨_, rfl, rfl, hM0.chg⟩)
 replace h := iteF hb h
 refine wp_seq (wp_pure [(3, B b1 0), (7, .bool x1), (13, I p0.Op), (62, .bool (p0.Op == 6))] hF (by kernel_rfl) fun fr hF => then_normal ?_)
 refine (wp_merge [(3, B b1 0), (7, .bool x1), (13, I p0.Op), (62, .bool ((p0.Op == 6) || (p0.Op == 13)))] hF (b := (p0.Op == 6)) rfl (fun hb => ?_) (fun hb => ?_) fun fr hF => then_normal ?_)
 · exact wp_skip ⟨rfl, rfl, (hF.sub [(3, B b1 0), (7, .bool x1), (13, I p0.Op), (62, .bool (p0.Op == 6))] (by kernel_rfl)).eqs (by first | (simp only [hb]; done) | (simp only [hb]; rfl))⟩
 · exact wp_pure [(3, B b1 0), (7, .bool x1), (13, I p0.Op), (62, .bool (p0.Op == 13))] hF (by kernel_rfl) fun fr hF => ⟨rfl, rfl, hF.eqs (by first | (simp only [hb]; done) | (simp only [hb]; rfl))⟩
 refine (wp_if hF (b := ((p0.Op == 6) || (p0.Op == 13))) rfl (fun hb => ?_) (fun hb => ?_))
 · replace h := iteT hb h
   obtain ⟨x24, hx24, h⟩ := bindE h
   refine wp_seq (region_b [] [true, false, false, true, true, false, true, true, true, true, false, true, true, true]
       [.eq (B b1 1), .eq (I p0.A), .eq (.bool x24), .eq (.bool x24), .eq (B b1 2), .eq (I p0.B), .eq (.bool (p0.B == 0)), .eq (.bool (x24 && (p0.B == 0))), .eq (.bool (x24 && (p0.B == 0))), .eq (B b1 3), .eq (I p0.C), .eq (.bool (p0.C == 0)), .eq (.bool ((x24 && (p0.B == 0)) && (p0.C == 0))), .eq (.bool ((x24 && (p0.B == 0)) && (p0.C == 0)))]
       [(6, .bool ((x24 && (p0.B == 0)) && (p0.C == 0)))] mix hF (by kernel_rfl) (by kernel_rfl) (by kernel_rfl) ⟨Pd.mono_eq, Pd.mono_eq, Pd.mono_eq, Pd.mono_eq, trivial⟩ (fun hG => ⟨np_loadBox hG hF ty3 rfl rfl (hs.bx 0 rfl) rfl rfl rfl, np_call [I p0.A] hG hF Try.call136 rfl rfl (fun w hC hg => (spec_l05Reg_ok p0.A hx24).mono fun e w' ⟨v, he, hv, hc⟩ => ⟨v, he, hc, hv⟩), np_loadBox hG hF ty3 rfl rfl (hs.bx 0 rfl) rfl rfl rfl, np_loadBox hG hF ty3 rfl rfl (hs.bx 0 rfl) rfl rfl rfl, trivial⟩) (by kernel_rfl) fun fr w28 hF hE hc => then_normal ?_)
   have hs := hs.ext hc
   have hM0 := hM0.ext hc
   have hs : Sep [] w28 S1 := Sep.pick [] hs (by decide) rfl
   obtain rfl := Option.some.inj h
   exact wp_ret (blk_ret (then_ret (ret1 rfl hF rfl ⟨_, rfl, rfl, hM0.chg⟩)))
 replace h := iteF hb h
 refine wp_seq ?_
 refine wp_seq (wp_pure [(3, B b1 0), (7, .bool x1), (13, I p0.Op), (80, .bool (p0.Op == 9))] hF (by kernel_rfl) fun fr hF => then_normal ?_)
 refine (wp_merge [(3, B b1 0), (7, .bool x1), (13, I p0.Op), (80, .bool ((p0.Op == 9) || (p0.Op == 11)))] hF (b := (p0.Op == 9)) rfl (fun hb => ?_) (fun hb => ?_) fun fr hF => then_normal ?_)
 · exact wp_skip ⟨rfl, rfl, (hF.sub [(3, B b1 0), (7, .bool x1), (13, I p0.Op), (80, .bool (p0.Op == 9))] (by kernel_rfl)).eqs (by first | (simp only [hb]; done) | (simp only [hb]; rfl))⟩
 · exact wp_pure [(3, B b1 0), (7, .bool x1), (13, I p0.Op), (80, .bool (p0.Op == 11))] hF (by kernel_rfl) fun fr hF => ⟨rfl, rfl, hF.eqs (by first | (simp only [hb]; done) | (simp only [hb]; rfl))⟩
 refine (wp_if hF (b := ((p0.Op == 9) || (p0.Op == 11))) rfl (fun hb => ?_) (fun hb => ?_))
 · replace h := iteT hb h
   refine wp_seq (region_b [] [true, false, true, true, true, true, true, true, false, true, true, true]
       [.eq (B b1 1), .eq (I p0.A), .eq (.bool (p0.A == 0)), .eq (.bool (p0.A == 0)), .eq (.bool x1), .eq (.bool ((p0.A == 0) && x1)), .eq (.bool ((p0.A == 0) && x1)), .eq (B b1 3), .eq (I p0.C), .eq (.bool (p0.C == 0)), .eq (.bool (((p0.A == 0) && x1) && (p0.C == 0))), .eq (.bool (((p0.A == 0) && x1) && (p0.C == 0)))]
       [(6, .bool (((p0.A == 0) && x1) && (p0.C == 0)))] mix hF (by kernel_rfl) (by kernel_rfl) (by kernel_rfl) ⟨Pd.mono_eq, Pd.mono_eq, trivial⟩ (fun hG => ⟨np_loadBox hG hF ty3 rfl rfl (hs.bx 0 rfl) rfl rfl rfl, np_loadBox hG hF ty3 rfl rfl (hs.bx 0 rfl) rfl rfl rfl, trivial⟩) (by kernel_rfl) fun fr w29 hF hE hc => then_normal ?_)
   have hs := hs.ext hc
   have hM0 := hM0.ext hc
   have hs : Sep [] w29 S1 := Sep.pick [] hs (by decide) rfl
   obtain rfl := Option.some.inj h
   exact wp_ret (blk_ret (then_ret (ret1 rfl hF rfl ⟨_, rfl, rfl, hM0.chg⟩)))
 replace h := iteF hb h
 refine wp_seq (wp_pure [(3, B b1 0), (7, .bool x1), (13, I p0.Op), (94, .bool (p0.Op == 10))] hF (by kernel_rfl) fun fr hF => then_normal ?_)
 refine (wp_if hF (b := (p0.Op == 10)) rfl (fun hb => ?_) (fun hb => ?_))
 · replace h := iteT hb h
   obtain ⟨x25, hx25, h⟩ := bindE h
   refine wp_seq (region_b [] [true, false, false, true, true, true, true, true, false, true, true, true]
       [.eq (B b1 1), .eq (I p0.A), .eq (.bool x25), .eq (.bool x25), .eq (.bool x1), .eq (.bool (x25 && x1)), .eq (.bool (x25 && x1)), .eq (B b1 3), .eq (I p0.C), .eq (.bool (p0.C == 0)), .eq (.bool ((x25 && x1) && (p0.C == 0))), .eq (.bool ((x25 && x1) && (p0.C == 0)))]
       [(6, .bool ((x25 && x1) && (p0.C == 0)))] mix hF (by kernel_rfl) (by kernel_rfl) (by kernel_rfl) ⟨Pd.mono_eq, Pd.mono_eq, Pd.mono_eq, trivial⟩ (fun hG => ⟨np_loadBox hG hF ty3 rfl rfl (hs.bx 0 rfl) rfl rfl rfl, np_call [I p0.A] hG hF Try.call136 rfl rfl (fun w hC hg => (spec_l05Reg_ok p0.A hx25).mono fun e w' ⟨v, he, hv, hc⟩ => ⟨v, he, hc, hv⟩), np_loadBox hG hF ty3 rfl rfl (hs.bx 0 rfl) rfl rfl rfl, trivial⟩) (by kernel_rfl) fun fr w30 hF hE hc => then_normal ?_)
   have hs := hs.ext hc
   have hM0 := hM0.ext hc
   have hs : Sep [] w30 S1 := Sep.pick [] hs (by decide) rfl
   obtain rfl := Option.some.inj h
   exact wp_ret (blk_ret (then_ret (ret1 rfl hF rfl ⟨_, rfl, rfl, hM0.chg⟩)))
 replace h := iteF hb h
 refine wp_seq ?_
 refine wp_seq (wp_pure [(3, B b1 0), (13, I p0.Op), (107, .bool (p0.Op == 12))] hF (by kernel_rfl) fun fr hF => then_normal ?_)
 refine (wp_merge [(3, B b1 0), (107, .bool ((p0.Op == 12) || (p0.Op == 14)))] hF (b := (p0.Op == 12)) rfl (fun hb => ?_) (fun hb => ?_) fun fr hF => then_normal ?_)
 · exact wp_skip ⟨rfl, rfl, (hF.sub [(3, B b1 0), (107, .bool (p0.Op == 12))] (by kernel_rfl)).eqs (by first | (simp only [hb]; done) | (simp only [hb]; rfl))⟩
 · exact wp_pure [(3, B b1 0), (107, .bool (p0.Op == 14))] hF (by kernel_rfl) fun fr hF => ⟨rfl, rfl, hF.eqs (by first | (simp only [hb]; done) | (simp only [hb]; rfl))⟩
 refine (wp_if hF (b := ((p0.Op == 12) || (p0.Op == 14))) rfl (fun hb => ?_) (fun hb => ?_))
 · replace h := iteT hb h
   refine wp_seq (region_b [] [true, false, true, true, true, false, true, true, true, true, false, true, true, true]
       [.eq (B b1 1), .eq (I p0.A), .eq (.bool (p0.A == 0)), .eq (.bool (p0.A == 0)), .eq (B b1 2), .eq (I p0.B), .eq (.bool (p0.B == 0)), .eq (.bool ((p0.A == 0) && (p0.B == 0))), .eq (.bool ((p0.A == 0) && (p0.B == 0))), .eq (B b1 3), .eq (I p0.C), .eq (.bool (p0.C == 0)), .eq (.bool (((p0.A == 0) && (p0.B == 0)) && (p0.C == 0))), .eq (.bool (((p0.A == 0) && (p0.B == 0)) && (p0.C == 0)))]
       [(6, .bool (((p0.A == 0) && (p0.B == 0)) && (p0.C == 0)))] mix hF (by kernel_rfl) (by kernel_rfl) (by kernel_rfl) ⟨Pd.mono_eq, Pd.mono_eq, Pd.mono_eq, trivial⟩ (fun hG => ⟨np_loadBox hG hF ty3 rfl rfl (hs.bx 0 rfl) rfl rfl rfl, np_loadBox hG hF ty3 rfl rfl (hs.bx 0 rfl) rfl rfl rfl, np_loadBox hG hF ty3 rfl rfl (hs.bx 0 rfl) rfl rfl rfl, trivial⟩) (by kernel_rfl) fun fr w31 hF hE hc => then_normal ?_)
   have hs := hs.ext hc
   have hM0 := hM0.ext hc
   have hs : Sep [] w31 S1 := Sep.pick [] hs (by decide) rfl
   obtain rfl := Option.some.inj h
   exact wp_ret (blk_ret (then_ret (ret1 rfl hF rfl ⟨_, rfl, rfl, hM0.chg⟩)))
 replace h := iteF hb h
 have hs : Sep [] w2 S1 := Sep.pick [] hs (by decide) rfl
 refine (wp_skip ?_)
 refine blk_normal (then_normal ?_)
 refine wp_seq (wp_pure [(6, .bool false)] hF (by kernel_rfl) fun fr hF => then_normal ?_)
 obtain rfl := Option.some.inj h
 exact wp_ret (ret1 rfl hF rfl ⟨_, rfl, rfl, hM0.chg⟩)

theorem spec_ProgramOk_ok (n : Nat) (p0 : D.Program) {r : Bool} (h : spec_ProgramOk n p0 = some r) {w : World} {G0 : Nat → Prop} {va0 : Value} (ra0 : RV w G0 va0 p0) :
   Calls Try.prog 57 [va0].toArray w fun e w' => ∃ v, e = .returned v ∧ v = .bool r ∧ Chg Non w w' := by
 unfold spec_ProgramOk at h
 have hs := Sep.nil w Non
 have hM0 : Mem w Non (fun k => (G0 k) ∧ k < w.heap.size) w Non (fun k => (G0 k) ∧ k < w.heap.size) := Mem.start (fun _ h => h.elim) (fun _ h => h.2) (fun _ h => h.elim)
 have ra0 := ra0.sub (F' := (fun k => (G0 k) ∧ k < w.heap.size)) (fun k hk h => ⟨h, hk⟩)
 obtain ⟨v1, rfl, r1⟩ := RV.Program ra0
 obtain ⟨a1, c1, rfl, -⟩ := r1.slice
 refine enter (N := 52) Try.func57 rfl Try.ntmps57 rfl fun fr hF => ?_
 refine wp_seq (wp_text' ?_)
 refine q_box hs hM0 [I p0.W, I p0.Mem, I p0.In, L a1 p0.Code c1] rfl rfl hF rfl rfl fun b1 w1 S1 fr hs hp hF => ?_
 have r1 := r1.stp hM0 hp
 have hM0 := hM0.stp hp
 have hs : Sep [BX b1 30 [I p0.W, I p0.Mem, I p0.In, L a1 p0.Code c1]] w1 S1 := hs
 refine from_pure 1 [(1, B b1 0)] hF (by kernel_rfl) fun fr hF => ?_
 refine from_end rfl (then_normal ?_)
 refine wp_seq ?_
 obtain ⟨x1, hx1, h⟩ := bindE h
 obtain ⟨x2, hx2, h⟩ := bindE h
 obtain ⟨x3, hx3, h⟩ := bindE h
 obtain ⟨x4, hx4, h⟩ := bindE h
 obtain ⟨x5, hx5, h⟩ := bindE h
 refine wp_seq (region_b [] [true, false, false, true, true, true, false, false, true, true, true, true, false, true, false, false, true, true, true, true, false, false, true, true, true, true, false, true, false, true, true]
     (.eq (B b1 0) :: .eq (I p0.W) :: .eq (.bool x1) :: .eq (.bool (!x1)) :: .eq (.bool (!x1)) :: .eq (B b1 1) :: .eq (I p0.Mem) :: .eq (.bool x2) :: .eq (.bool (!x2)) :: .eq (.bool ((!x1) || (!x2))) :: .eq (.bool ((!x1) || (!x2))) :: .eq (B b1 0) :: .eq (I p0.W) :: .eq (B b1 1) :: .eq (I p0.Mem) :: .eq (.bool x3) :: .eq (.bool (!x3)) :: .eq (.bool (((!x1) || (!x2)) || (!x3))) :: .eq (.bool (((!x1) || (!x2)) || (!x3))) :: .eq (B b1 2) :: .eq (I p0.In) :: .eq (.bool x4) :: .eq (.bool (!x4)) :: .eq (.bool ((((!x1) || (!x2)) || (!x3)) || (!x4))) :: .eq (.bool ((((!x1) || (!x2)) || (!x3)) || (!x4))) :: .eq (B b1 3) :: .eq (L a1 p0.Code c1) :: .eq (I (len p0.Code)) :: .eq (.bool x5) :: .eq (.bool (!x5)) :: .eq (.bool (((((!x1) || (!x2)) || (!x3)) || (!x4)) || (!x5))) :: [])
     [(1, B b1 0), (35, .bool (((((!x1) || (!x2)) || (!x3)) || (!x4)) || (!x5)))] mix hF (by kernel_rfl) (by kernel_rfl) (by kernel_rfl) ⟨Pd.mono_eq, Pd.mono_eq, Pd.mono_eq, Pd.mono_eq, Pd.mono_eq, Pd.mono_eq, Pd.mono_eq, Pd.mono_eq, Pd.mono_eq, Pd.mono_eq, Pd.mono_eq, trivial⟩ (fun hG => ⟨np_loadBox hG hF ty3 rfl rfl (hs.bx 0 rfl) rfl rfl rfl, np_call [I p0.W, I 2, I 8] hG hF Try.call58 rfl rfl (fun w hC hg => (spec_l01In_ok p0.W 2 8 hx1).mono fun e w' ⟨v, he, hv, hc⟩ => ⟨v, he, hc, hv⟩), np_loadBox hG hF ty3 rfl rfl (hs.bx 0 rfl) rfl rfl rfl, np_call [I p0.Mem, I 1, I 6] hG hF Try.call58 rfl rfl (fun w hC hg => (spec_l01In_ok p0.Mem 1 6 (iteF hg.2 hx2)).mono fun e w' ⟨v, he, hv, hc⟩ => ⟨v, he, hc, hv⟩), np_loadBox hG hF ty3 rfl rfl (hs.bx 0 rfl) rfl rfl rfl, np_loadBox hG hF ty3 rfl rfl (hs.bx 0 rfl) rfl rfl rfl, np_call [I p0.W, I p0.Mem] hG hF Try.call103 rfl rfl (fun w hC hg => (spec_WordOk_ok p0.W p0.Mem (iteF hg.2 hx3)).mono fun e w' ⟨v, he, hv, hc⟩ => ⟨v, he, hc, hv⟩), np_loadBox hG hF ty3 rfl rfl (hs.bx 0 rfl) rfl rfl rfl, np_call [I p0.In, I 0, I 3] hG hF Try.call58 rfl rfl (fun w hC hg => (spec_l01In_ok p0.In 0 3 (iteF hg.2 hx4)).mono fun e w' ⟨v, he, hv, hc⟩ => ⟨v, he, hc, hv⟩), np_loadBox hG hF ty28 rfl rfl (hs.bx 0 rfl) rfl rfl rfl, np_call [I (len p0.Code), I 1, I 40] hG hF Try.call58 rfl rfl (fun w hC hg => (spec_l01In_ok (len p0.Code) 1 40 (iteF hg.2 hx5)).mono fun e w' ⟨v, he, hv, hc⟩ => ⟨v, he, hc, hv⟩), trivial⟩) (by kernel_rfl) fun fr w2 hF hE hc => then_normal ?_)
 have r1 := r1.ext hc
 have hs := hs.ext hc
 have hM0 := hM0.ext hc
 refine (wp_if hF (b := (((((!x1) || (!x2)) || (!x3)) || (!x4)) || (!x5))) rfl (fun hb => ?_) (fun hb => ?_))
 · replace h := iteT hb h
   have hs : Sep [] w2 S1 := Sep.pick [] hs (by decide) rfl
   refine wp_seq (wp_pure [(2, .bool false)] hF (by kernel_rfl) fun fr hF => then_normal ?_)
   obtain rfl := Option.some.inj h
   exact wp_ret (then_ret (ret1 rfl hF rfl ⟨_, rfl, rfl, hM0.chg⟩))
 replace h := iteF hb h
 refine (wp_skip (then_normal ?_))
 refine wp_seq ?_
 refine wp_seq (wp_text' ?_)
 refine from_pure 1 [(1, B b1 0), (36, B b1 3)] hF (by kernel_rfl) fun fr hF => ?_
 refine s_loadBox (L a1 p0.Code c1) ty28 rfl rfl hF rfl (hs.bx 0 rfl) rfl rfl fun fr hF => ?_
 refine from_pure 2 [(1, B b1 0), (37, L a1 p0.Code c1), (38, I (len p0.Code)), (39, I 0)] hF (by kernel_rfl) fun fr hF => ?_
 refine from_end rfl (then_normal ?_)
 obtain ⟨rl1, hit1, h⟩ := bindE h
 have hk1 := h
 refine (GL.wp_cut (M := fun fr w' => ∃ s, rl1 = .inl s ∧ ∃ S3 F2, FrS 52 [] fr ∧ Mem w2 S1 (fun k => (G0 k) ∧ k < w.heap.size) w' S3 F2 ∧ Sep [] w' S3) (wp_block (wp_iter (Inv := fun s1 fr w' => ∃ S2 F1, FrS 52 [(1, B b1 0), (37, L a1 p0.Code c1), (38, I (len p0.Code)), (39, I s1)] fr ∧ Mem w2 S1 (fun k => (G0 k) ∧ k < w.heap.size) w' S2 F1 ∧ Sep [BX b1 30 [I p0.W, I p0.Mem, I p0.In, L a1 p0.Code c1]] w' S2) hit1 ⟨S1, _, hF.sub _ (by kernel_rfl), (Mem.start hM0.bd hM0.bdF hM0.dj), hs⟩ fun s1 q1 fr w1i hI h hr1 => ?_)) fun fr w1o hM => ?_)
 · obtain ⟨S2, F1, hF, hM1, hs⟩ := hI
   have r1 := r1.mem hM1
   refine wp_seq (wp_pure [(1, B b1 0), (37, L a1 p0.Code c1), (38, I (len p0.Code)), (39, I s1), (40, .bool (decide (s1 < (len p0.Code))))] hF (by kernel_rfl) fun fr hF => then_normal ?_)
   refine wp_seq (wp_if hF (b := (decide (s1 < (len p0.Code)))) rfl (fun hb => ?_) (fun hb => ?_))
   · replace h := iteT hb h
     refine (wp_skip (then_normal ?_))
     refine wp_seq (wp_block ?_)
     refine wp_seq (wp_text' ?_)
     obtain ⟨x6, hx6, h⟩ := bindE h
     refine s_elemF (z := x6) (.agg #[I x6.Op, I x6.A, I x6.B, I x6.C]) ty90 Try.underlying28 rfl rfl rfl rfl rfl hF rfl (r1) rfl (get?_nn hx6) (get?_at hx6) rfl fun p fr hF => ?_
     refine q_alloc (z := .agg #[I 0, I 0, I 0, I 0]) hs hM1 [I 0, I 0, I 0, I 0] rfl rfl hF (by kernel_rfl) rfl fun b2 w3 S4 fr hs hp hF => ?_
     have r1 := r1.stp hM1 hp
     have hM1 := hM1.stp hp
     have hs : Sep [BX b2 90 [I 0, I 0, I 0, I 0], BX b1 30 [I p0.W, I p0.Mem, I p0.In, L a1 p0.Code c1]] w3 S4 := hs
     refine q_storeBoxS 0 hs hM1 rfl [I x6.Op, I x6.A, I x6.B, I x6.C] rfl hF rfl rfl (by kernel_rfl) rfl rfl rfl fun w4 S5 hs hp hF => ?_
     have r1 := r1.stp hM1 hp
     have hM1 := hM1.stp hp
     have hs : Sep [BX b2 90 [I x6.Op, I x6.A, I x6.B, I x6.C], BX b1 30 [I p0.W, I p0.Mem, I p0.In, L a1 p0.Code c1]] w4 S5 := hs
     refine from_end rfl (then_normal ?_)
     refine wp_seq (wp_text' ?_)
     refine s_loadBoxS ty90 rfl rfl hF rfl (hs.bx 0 rfl) rfl rfl fun fr hF => ?_
     have hs : Sep [BX b1 30 [I p0.W, I p0.Mem, I p0.In, L a1 p0.Code c1]] w4 S5 := Sep.pick [1] hs (by decide) rfl
     refine from_pure 1 [(1, B b1 0), (37, L a1 p0.Code c1), (38, I (len p0.Code)), (39, I s1), (43, .agg #[I x6.Op, I x6.A, I x6.B, I x6.C]), (44, B b1 0)] hF (by kernel_rfl) fun fr hF => ?_
     refine s_loadBox (I p0.W) ty3 rfl rfl hF rfl (hs.bx 0 rfl) rfl rfl fun fr hF => ?_
     refine from_pure 1 [(1, B b1 0), (37, L a1 p0.Code c1), (38, I (len p0.Code)), (39, I s1), (43, .agg #[I x6.Op, I x6.A, I x6.B, I x6.C]), (45, I p0.W), (46, B b1 3)] hF (by kernel_rfl) fun fr hF => ?_
     refine s_loadBox (L a1 p0.Code c1) ty28 rfl rfl hF rfl (hs.bx 0 rfl) rfl rfl fun fr hF => ?_
     refine from_pure 1 [(1, B b1 0), (37, L a1 p0.Code c1), (38, I (len p0.Code)), (39, I s1), (43, .agg #[I x6.Op, I x6.A, I x6.B, I x6.C]), (45, I p0.W), (48, I (len p0.Code))] hF (by kernel_rfl) fun fr hF => ?_
     obtain ⟨x7, hx7, h⟩ := bindE h
     refine s_call [.agg #[I x6.Op, I x6.A, I x6.B, I x6.C], I p0.W, I (len p0.Code)] Try.call104 rfl rfl hF rfl (spec_l05Ins_ok x6 p0.W (len p0.Code) hx7) fun v w5 fr hRes hF => ?_
     obtain ⟨rfl, hc⟩ := hRes
     have r1 := r1.ext hc
     have hs := hs.ext hc
     have hM1 := hM1.ext hc
     refine from_pure 1 [(1, B b1 0), (37, L a1 p0.Code c1), (38, I (len p0.Code)), (39, I s1), (50, .bool (!x7))] hF (by kernel_rfl) fun fr hF => ?_
     refine from_end rfl (then_normal ?_)
     refine (wp_if hF (b := (!x7)) rfl (fun hb => ?_) (fun hb => ?_))
     · replace h := iteT hb h
       have hs : Sep [] w5 S5 := Sep.pick [] hs (by decide) rfl
       refine wp_seq (wp_pure [(2, .bool false)] hF (by kernel_rfl) fun fr hF => then_normal ?_)
       obtain rfl := hr1 _ (Option.some.inj h).symm
       obtain rfl := Option.some.inj hk1
       exact wp_ret (blk_ret (then_ret (then_ret (blk_ret (then_ret (ret1 rfl hF rfl ⟨_, rfl, rfl, (hM0.trans hM1).chg⟩))))))
     replace h := iteF hb h
     refine (wp_skip ?_)
     refine blk_normal (then_normal ?_)
     refine (wp_pure [(1, B b1 0), (37, L a1 p0.Code c1), (38, I (len p0.Code)), (39, I (w64 (s1 + 1)))] hF (by kernel_rfl) fun fr hF => then_normal ?_)
     exact ⟨_, (Option.some.inj h).symm, S5, _, hF.sub _ (by kernel_rfl), hM1, hs⟩
   replace h := iteF hb h
   have hs : Sep [] w1i S2 := Sep.pick [] hs (by decide) rfl
   refine (wp_exit (then_exit (then_exit (blk_exit_eq ?_))))
   obtain rfl := hr1 _ (Option.some.inj h).symm
   exact then_normal ⟨_, rfl, S2, _, hF.sub _ (by kernel_rfl), hM1, hs⟩
 · obtain ⟨s1r, rfl, hM⟩ := hM
   obtain ⟨S3, F2, hF, hMx, hs⟩ := hM
   have hM0 := hM0.trans hMx
   refine wp_seq (wp_pure [(2, .bool true)] hF (by kernel_rfl) fun fr hF => then_normal ?_)
   obtain rfl := Option.some.inj h
   exact wp_ret (ret1 rfl hF rfl ⟨_, rfl, rfl, hM0.chg⟩)

theorem spec_NextOf_ok (n : Nat) (p0 : D.Program) (p1 : Int) {r : (List Int)} (h : spec_NextOf n p0 p1 = some r) {w : World} {G0 : Nat → Prop} {va0 : Value} (ra0 : RV w G0 va0 p0) :
   Calls Try.prog 12 [va0, I p1].toArray w fun e w' => ∃ v, e = .returned v ∧ ∃ a1 c1, v = L a1 r c1 ∧ ∃ S', Stp w Non w' S' ∧ Sep [sl3 (L a1 r c1) r] w' S' := by
 unfold spec_NextOf at h
 have hs := Sep.nil w Non
 have hM0 : Mem w Non (fun k => (G0 k) ∧ k < w.heap.size) w Non (fun k => (G0 k) ∧ k < w.heap.size) := Mem.start (fun _ h => h.elim) (fun _ h => h.2) (fun _ h => h.elim)
 have ra0 := ra0.sub (F' := (fun k => (G0 k) ∧ k < w.heap.size)) (fun k hk h => ⟨h, hk⟩)
 obtain ⟨v1, rfl, r1⟩ := RV.Program ra0
 obtain ⟨a1, c1, rfl, -⟩ := r1.slice
 refine enter (N := 59) Try.func12 rfl Try.ntmps12 rfl fun fr hF => ?_
 refine wp_seq (wp_text' ?_)
 refine q_box hs hM0 [I p0.W, I p0.Mem, I p0.In, L a1 p0.Code c1] rfl rfl hF rfl rfl fun b1 w1 S1 fr hs hp hF => ?_
 have r1 := r1.stp hM0 hp
 have hM0 := hM0.stp hp
 have hs : Sep [BX b1 30 [I p0.W, I p0.Mem, I p0.In, L a1 p0.Code c1]] w1 S1 := hs
 refine from_pure 1 [(1, I p1), (2, B b1 0)] hF (by kernel_rfl) fun fr hF => ?_
 refine from_end rfl (then_normal ?_)
 refine wp_seq ?_
 obtain ⟨x1, hx1, h⟩ := bindE h
 obtain ⟨x2, hx2, h⟩ := bindE h
 refine wp_seq (region_b [] [false, false, true, true, true, true, false, true, true, false, true, true]
     [.eq (.agg #[I p0.W, I p0.Mem, I p0.In, L a1 p0.Code c1]), .eq (.bool x1), .eq (.bool (!x1)), .eq (.bool (!x1)), .eq (I p1), .eq (B b1 3), .eq (L a1 p0.Code c1), .eq (I (len p0.Code)), .eq (I (w64 ((len p0.Code) - 1))), .eq (.bool x2), .eq (.bool (!x2)), .eq (.bool ((!x1) || (!x2)))]
     [(1, I p1), (2, B b1 0), (17, .bool ((!x1) || (!x2)))] mix hF (by kernel_rfl) (by kernel_rfl) (by kernel_rfl) ⟨Pd.mono_eq, Pd.mono_eq, Pd.mono_eq, Pd.mono_eq, trivial⟩ (fun hG => ⟨np_loadBoxS hG hF ty30 rfl rfl (hs.bx 0 rfl) rfl rfl rfl rfl, np_call [.agg #[I p0.W, I p0.Mem, I p0.In, L a1 p0.Code c1]] hG hF Try.call57 rfl rfl (fun w hC hg => (spec_ProgramOk_ok n p0 hx1 ((RV.mk_Program p0 (r1)).ext hC)).mono fun e w' ⟨v, he, hv, hc⟩ => ⟨v, he, hc, hv⟩), np_loadBox hG hF ty28 rfl rfl (hs.bx 0 rfl) rfl rfl rfl, np_call [I p1, I 0, I (w64 ((len p0.Code) - 1))] hG hF Try.call58 rfl rfl (fun w hC hg => (spec_l01In_ok p1 0 (w64 ((len p0.Code) - 1)) (iteF hg.2 hx2)).mono fun e w' ⟨v, he, hv, hc⟩ => ⟨v, he, hc, hv⟩), trivial⟩) (by kernel_rfl) fun fr w2 hF hE hc => then_normal ?_)
 have r1 := r1.ext hc
 have hs := hs.ext hc
 have hM0 := hM0.ext hc
 refine (wp_if hF (b := ((!x1) || (!x2))) rfl (fun hb => ?_) (fun hb => ?_))
 · replace h := iteT hb h
   have hs : Sep [] w2 S1 := Sep.pick [] hs (by decide) rfl
   refine wp_seq (wp_pure [(4, L none ([] : List Int) 0)] hF (by kernel_rfl) fun fr hF => then_normal ?_)
   have hs : Sep [sl3 (L none ([] : List Int) 0) ([] : List Int)] w2 S1 := hs.cons_nil (α := Int) 3
   obtain rfl := Option.some.inj h
   exact wp_ret (then_ret (ret1 rfl hF rfl ⟨_, rfl, none, 0, rfl, S1, hM0.out, hs⟩))
 replace h := iteF hb h
 refine (wp_skip (then_normal ?_))
 refine wp_seq (wp_text' ?_)
 refine from_pure 1 [(1, I p1), (18, B b1 3)] hF (by kernel_rfl) fun fr hF => ?_
 refine s_loadBox (L a1 p0.Code c1) ty28 rfl rfl hF rfl (hs.bx 0 rfl) rfl rfl fun fr hF => ?_
 have hs : Sep [] w2 S1 := Sep.pick [] hs (by decide) rfl
 refine from_pure 1 [(1, I p1), (19, L a1 p0.Code c1), (20, I p1)] hF (by kernel_rfl) fun fr hF => ?_
 obtain ⟨x3, hx3, h⟩ := bindE h
 refine s_elemF (z := x3) (.agg #[I x3.Op, I x3.A, I x3.B, I x3.C]) ty90 Try.underlying28 rfl rfl rfl rfl rfl hF rfl (r1) rfl (get?_nn hx3) (get?_at hx3) rfl fun p fr hF => ?_
 refine q_alloc (z := .agg #[I 0, I 0, I 0, I 0]) hs hM0 [I 0, I 0, I 0, I 0] rfl rfl hF (by kernel_rfl) rfl fun b2 w3 S2 fr hs hp hF => ?_
 have hM0 := hM0.stp hp
 have hs : Sep [BX b2 90 [I 0, I 0, I 0, I 0]] w3 S2 := hs
 refine q_storeBoxS 0 hs hM0 rfl [I x3.Op, I x3.A, I x3.B, I x3.C] rfl hF rfl rfl (by kernel_rfl) rfl rfl rfl fun w4 S3 hs hp hF => ?_
 have hM0 := hM0.stp hp
 have hs : Sep [BX b2 90 [I x3.Op, I x3.A, I x3.B, I x3.C]] w4 S3 := hs
 refine from_end rfl (then_normal ?_)
 refine wp_seq ?_
 refine wp_seq (wp_text' ?_)
 refine from_pure 1 [(1, I p1), (5, B b2 0), (23, B b2 0)] hF (by kernel_rfl) fun fr hF => ?_
 refine s_loadBox (I x3.Op) ty3 rfl rfl hF rfl (hs.bx 0 rfl) rfl rfl fun fr hF => ?_
 refine from_end rfl (then_normal ?_)
 refine (wp_block ?_)
 refine wp_seq (wp_pure [(1, I p1), (5, B b2 0), (24, I x3.Op), (25, .bool (x3.Op == 9))] hF (by kernel_rfl) fun fr hF => then_normal ?_)
 refine (wp_if hF (b := (x3.Op == 9)) rfl (fun hb => ?_) (fun hb => ?_))
 · replace h := iteT hb h
   refine wp_seq (wp_text' ?_)
   refine from_pure 1 [(27, B b2 2)] hF (by kernel_rfl) fun fr hF => ?_
   refine s_loadBox (I x3.B) ty3 rfl rfl hF rfl (hs.bx 0 rfl) rfl rfl fun fr hF => ?_
   have hs : Sep [] w4 S3 := Sep.pick [] hs (by decide) rfl
   refine q_lit (E := 3) hs hM0 [I x3.B] (([x3.B] : List Int).map Flat.enc) ([x3.B] : List Int) rfl rfl hF [I x3.B] rfl (fun w => by kernel_rfl) (css_flat _) rfl rfl rfl fun a2 c2 w5 S4 fr hs hp hF => ?_
   have hM0 := hM0.stp hp
   have hs : Sep [sl3 (L a2 ([x3.B] : List Int) c2) ([x3.B] : List Int)] w5 S4 := hs
   refine from_pure 1 [(4, L a2 ([x3.B] : List Int) c2)] hF (by kernel_rfl) fun fr hF => ?_
   refine from_end rfl (then_normal ?_)
   obtain rfl := Option.some.inj h
   exact wp_ret (blk_ret (then_ret (ret1 rfl hF rfl ⟨_, rfl, a2, c2, rfl, S4, hM0.out, hs⟩)))
 replace h := iteF hb h
 refine wp_seq ?_
 refine wp_seq (wp_pure [(1, I p1), (5, B b2 0), (24, I x3.Op), (30, .bool (x3.Op == 12))] hF (by kernel_rfl) fun fr hF => then_normal ?_)
 refine (wp_merge [(1, I p1), (5, B b2 0), (24, I x3.Op), (30, .bool ((x3.Op == 12) || (x3.Op == 14)))] hF (b := (x3.Op == 12)) rfl (fun hb => ?_) (fun hb => ?_) fun fr hF => then_normal ?_)
 · exact wp_skip ⟨rfl, rfl, (hF.sub [(1, I p1), (5, B b2 0), (24, I x3.Op), (30, .bool (x3.Op == 12))] (by kernel_rfl)).eqs (by first | (simp only [hb]; done) | (simp only [hb]; rfl))⟩
 · exact wp_pure [(1, I p1), (5, B b2 0), (24, I x3.Op), (30, .bool (x3.Op == 14))] hF (by kernel_rfl) fun fr hF => ⟨rfl, rfl, hF.eqs (by first | (simp only [hb]; done) | (simp only [hb]; rfl))⟩
 refine (wp_if hF (b := ((x3.Op == 12) || (x3.Op == 14))) rfl (fun hb => ?_) (fun hb => ?_))
 · replace h := iteT hb h
   have hs : Sep [] w4 S3 := Sep.pick [] hs (by decide) rfl
   refine wp_seq (wp_pure [(4, L none ([] : List Int) 0)] hF (by kernel_rfl) fun fr hF => then_normal ?_)
   have hs : Sep [sl3 (L none ([] : List Int) 0) ([] : List Int)] w4 S3 := hs.cons_nil (α := Int) 3
   obtain rfl := Option.some.inj h
   exact wp_ret (blk_ret (then_ret (ret1 rfl hF rfl ⟨_, rfl, none, 0, rfl, S3, hM0.out, hs⟩)))
 replace h := iteF hb h
 refine wp_seq ?_
 refine wp_seq (wp_pure [(1, I p1), (5, B b2 0), (24, I x3.Op), (33, .bool (x3.Op == 10))] hF (by kernel_rfl) fun fr hF => then_normal ?_)
 refine (wp_merge [(1, I p1), (5, B b2 0), (33, .bool ((x3.Op == 10) || (x3.Op == 11)))] hF (b := (x3.Op == 10)) rfl (fun hb => ?_) (fun hb => ?_) fun fr hF => then_normal ?_)
 · exact wp_skip ⟨rfl, rfl, (hF.sub [(1, I p1), (5, B b2 0), (33, .bool (x3.Op == 10))] (by kernel_rfl)).eqs (by first | (simp only [hb]; done) | (simp only [hb]; rfl))⟩
 · exact wp_pure [(1, I p1), (5, B b2 0), (33, .bool (x3.Op == 11))] hF (by kernel_rfl) fun fr hF => ⟨rfl, rfl, hF.eqs (by first | (simp only [hb]; done) | (simp only [hb]; rfl))⟩
 refine (wp_if hF (b := ((x3.Op == 10) || (x3.Op == 11))) rfl (fun hb => ?_) (fun hb => ?_))
 · replace h := iteT hb h
   refine wp_seq ?_
   refine wp_seq (wp_text' ?_)
   refine from_pure 1 [(1, I p1), (5, B b2 0), (36, B b2 2)] hF (by kernel_rfl) fun fr hF => ?_
   refine s_loadBox (I x3.B) ty3 rfl rfl hF rfl (hs.bx 0 rfl) rfl rfl fun fr hF => ?_
   refine from_pure 3 [(1, I p1), (5, B b2 0), (40, .bool (decide (x3.B < (w64 (p1 + 1)))))] hF (by kernel_rfl) fun fr hF => ?_
   refine from_end rfl (then_normal ?_)
   refine (wp_if hF (b := (decide (x3.B < (w64 (p1 + 1))))) rfl (fun hb => ?_) (fun hb => ?_))
   · replace h := iteT hb h
     refine wp_seq (wp_text' ?_)
     refine from_pure 1 [(1, I p1), (41, B b2 2)] hF (by kernel_rfl) fun fr hF => ?_
     refine s_loadBox (I x3.B) ty3 rfl rfl hF rfl (hs.bx 0 rfl) rfl rfl fun fr hF => ?_
     have hs : Sep [] w4 S3 := Sep.pick [] hs (by decide) rfl
     refine from_pure 2 [(42, I x3.B), (44, I (w64 (p1 + 1)))] hF (by kernel_rfl) fun fr hF => ?_
     refine q_lit (E := 3) hs hM0 [I x3.B, I (w64 (p1 + 1))] (([x3.B, (w64 (p1 + 1))] : List Int).map Flat.enc) ([x3.B, (w64 (p1 + 1))] : List Int) rfl rfl hF [I x3.B, I (w64 (p1 + 1))] rfl (fun w => by kernel_rfl) (css_flat _) rfl rfl rfl fun a3 c3 w6 S5 fr hs hp hF => ?_
     have hM0 := hM0.stp hp
     have hs : Sep [sl3 (L a3 ([x3.B, (w64 (p1 + 1))] : List Int) c3) ([x3.B, (w64 (p1 + 1))] : List Int)] w6 S5 := hs
     refine from_pure 1 [(4, L a3 ([x3.B, (w64 (p1 + 1))] : List Int) c3)] hF (by kernel_rfl) fun fr hF => ?_
     refine from_end rfl (then_normal ?_)
     obtain rfl := Option.some.inj h
     exact wp_ret (then_ret (blk_ret (then_ret (ret1 rfl hF rfl ⟨_, rfl, a3, c3, rfl, S5, hM0.out, hs⟩))))
   replace h := iteF hb h
   refine (wp_skip (then_normal ?_))
   refine wp_seq (wp_text' ?_)
   refine from_pure 1 [(1, I p1), (5, B b2 0), (46, B b2 2)] hF (by kernel_rfl) fun fr hF => ?_
   refine s_loadBox (I x3.B) ty3 rfl rfl hF rfl (hs.bx 0 rfl) rfl rfl fun fr hF => ?_
   refine from_pure 3 [(1, I p1), (5, B b2 0), (50, .bool (decide (x3.B > (w64 (p1 + 1)))))] hF (by kernel_rfl) fun fr hF => ?_
   refine from_end rfl (then_normal ?_)
   refine (wp_if hF (b := (decide (x3.B > (w64 (p1 + 1))))) rfl (fun hb => ?_) (fun hb => ?_))
   · replace h := iteT hb h
     refine wp_seq (wp_text' ?_)
     refine from_pure 3 [(52, I (w64 (p1 + 1))), (53, B b2 2)] hF (by kernel_rfl) fun fr hF => ?_
     refine s_loadBox (I x3.B) ty3 rfl rfl hF rfl (hs.bx 0 rfl) rfl rfl fun fr hF => ?_
     have hs : Sep [] w4 S3 := Sep.pick [] hs (by decide) rfl
     refine q_lit (E := 3) hs hM0 [I (w64 (p1 + 1)), I x3.B] (([(w64 (p1 + 1)), x3.B] : List Int).map Flat.enc) ([(w64 (p1 + 1)), x3.B] : List Int) rfl rfl hF [I (w64 (p1 + 1)), I x3.B] rfl (fun w => by kernel_rfl) (css_flat _) rfl rfl rfl fun a4 c4 w7 S6 fr hs hp hF => ?_
     have hM0 := hM0.stp hp
     have hs : Sep [sl3 (L a4 ([(w64 (p1 + 1)), x3.B] : List Int) c4) ([(w64 (p1 + 1)), x3.B] : List Int)] w7 S6 := hs
     refine from_pure 1 [(4, L a4 ([(w64 (p1 + 1)), x3.B] : List Int) c4)] hF (by kernel_rfl) fun fr hF => ?_
     refine from_end rfl (then_normal ?_)
     obtain rfl := Option.some.inj h
     exact wp_ret (blk_ret (then_ret (ret1 rfl hF rfl ⟨_, rfl, a4, c4, rfl, S6, hM0.out, hs⟩)))
   replace h := iteF hb h
   have hs : Sep [] w4 S3 := Sep.pick [] hs (by decide) rfl
   refine (wp_skip ?_)
   refine blk_normal (then_normal ?_)
   refine wp_seq (wp_text' ?_)
   refine from_pure 2 [(57, I (w64 (p1 + 1)))] hF (by kernel_rfl) fun fr hF => ?_
   refine q_lit (E := 3) hs hM0 [I (w64 (p1 + 1))] (([(w64 (p1 + 1))] : List Int).map Flat.enc) ([(w64 (p1 + 1))] : List Int) rfl rfl hF [I (w64 (p1 + 1))] rfl (fun w => by kernel_rfl) (css_flat _) rfl rfl rfl fun a5 c5 w8 S7 fr hs hp hF => ?_
   have hM0 := hM0.stp hp
   have hs : Sep [sl3 (L a5 ([(w64 (p1 + 1))] : List Int) c5) ([(w64 (p1 + 1))] : List Int)] w8 S7 := hs
   refine from_pure 1 [(4, L a5 ([(w64 (p1 + 1))] : List Int) c5)] hF (by kernel_rfl) fun fr hF => ?_
   refine from_end rfl (then_normal ?_)
   obtain rfl := Option.some.inj h
   exact wp_ret (ret1 rfl hF rfl ⟨_, rfl, a5, c5, rfl, S7, hM0.out, hs⟩)
 replace h := iteF hb h
 have hs : Sep [] w4 S3 := Sep.pick [] hs (by decide) rfl
 refine (wp_skip ?_)
 refine blk_normal (then_normal ?_)
 refine wp_seq (wp_text' ?_)
 refine from_pure 2 [(57, I (w64 (p1 + 1)))] hF (by kernel_rfl) fun fr hF => ?_
 refine q_lit (E := 3) hs hM0 [I (w64 (p1 + 1))] (([(w64 (p1 + 1))] : List Int).map Flat.enc) ([(w64 (p1 + 1))] : List Int) rfl rfl hF [I (w64 (p1 + 1))] rfl (fun w => by kernel_rfl) (css_flat _) rfl rfl rfl fun a6 c6 w9 S8 fr hs hp hF => ?_
 have hM0 := hM0.stp hp
 have hs : Sep [sl3 (L a6 ([(w64 (p1 + 1))] : List Int) c6) ([(w64 (p1 + 1))] : List Int)] w9 S8 := hs
 refine from_pure 1 [(4, L a6 ([(w64 (p1 + 1))] : List Int) c6)] hF (by kernel_rfl) fun fr hF => ?_
 refine from_end rfl (then_normal ?_)
 obtain rfl := Option.some.inj h
 exact wp_ret (ret1 rfl hF rfl ⟨_, rfl, a6, c6, rfl, S8, hM0.out, hs⟩)

theorem spec_ReachedOf_ok (n : Nat) (p0 : D.Program) {r : (List Int)} (h : spec_ReachedOf n p0 = some r) {w : World} {G0 : Nat → Prop} {va0 : Value} (ra0 : RV w G0 va0 p0) :
   Calls Try.prog 20 [va0].toArray w fun e w' => ∃ v, e = .returned v ∧ ∃ a1 c1, v = L a1 r c1 ∧ ∃ S', Stp w Non w' S' ∧ Sep [sl3 (L a1 r c1) r] w' S' := by
 unfold spec_ReachedOf at h
 have hs := Sep.nil w Non
 have hM0 : Mem w Non (fun k => (G0 k) ∧ k < w.heap.size) w Non (fun k => (G0 k) ∧ k < w.heap.size) := Mem.start (fun _ h => h.elim) (fun _ h => h.2) (fun _ h => h.elim)
 have ra0 := ra0.sub (F' := (fun k => (G0 k) ∧ k < w.heap.size)) (fun k hk h => ⟨h, hk⟩)
 obtain ⟨v1, rfl, r1⟩ := RV.Program ra0
 obtain ⟨a1, c1, rfl, -⟩ := r1.slice
 refine enter (N := 54) Try.func20 rfl Try.ntmps20 rfl fun fr hF => ?_
 refine wp_seq (wp_text' ?_)
 refine q_box hs hM0 [I p0.W, I p0.Mem, I p0.In, L a1 p0.Code c1] rfl rfl hF rfl rfl fun b1 w1 S1 fr hs hp hF => ?_
 have r1 := r1.stp hM0 hp
 have hM0 := hM0.stp hp
 have hs : Sep [BX b1 30 [I p0.W, I p0.Mem, I p0.In, L a1 p0.Code c1]] w1 S1 := hs
 refine from_pure 1 [(1, B b1 0)] hF (by kernel_rfl) fun fr hF => ?_
 refine from_end rfl (then_normal ?_)
 refine wp_seq ?_
 refine wp_seq (wp_text' ?_)
 refine s_loadBoxS ty30 rfl rfl hF rfl (hs.bx 0 rfl) rfl rfl fun fr hF => ?_
 obtain ⟨x1, hx1, h⟩ := bindE h
 refine s_call [.agg #[I p0.W, I p0.Mem, I p0.In, L a1 p0.Code c1]] Try.call57 rfl rfl hF rfl (spec_ProgramOk_ok n p0 hx1 (RV.mk_Program p0 (r1))) fun v w2 fr hRes hF => ?_
 obtain ⟨rfl, hc⟩ := hRes
 have r1 := r1.ext hc
 have hs := hs.ext hc
 have hM0 := hM0.ext hc
 refine from_pure 1 [(1, B b1 0), (11, .bool (!x1))] hF (by kernel_rfl) fun fr hF => ?_
 refine from_end rfl (then_normal ?_)
 refine (wp_if hF (b := (!x1)) rfl (fun hb => ?_) (fun hb => ?_))
 · replace h := iteT hb h
   have hs : Sep [] w2 S1 := Sep.pick [] hs (by decide) rfl
   refine wp_seq (wp_pure [(2, L none ([] : List Int) 0)] hF (by kernel_rfl) fun fr hF => then_normal ?_)
   have hs : Sep [sl3 (L none ([] : List Int) 0) ([] : List Int)] w2 S1 := hs.cons_nil (α := Int) 3
   obtain rfl := Option.some.inj h
   exact wp_ret (then_ret (ret1 rfl hF rfl ⟨_, rfl, none, 0, rfl, S1, hM0.out, hs⟩))
 replace h := iteF hb h
 refine (wp_skip (then_normal ?_))
 refine wp_seq (wp_text' ?_)
 refine from_pure 1 [(1, B b1 0), (12, B b1 3)] hF (by kernel_rfl) fun fr hF => ?_
 refine s_loadBox (L a1 p0.Code c1) ty28 rfl rfl hF rfl (hs.bx 0 rfl) rfl rfl fun fr hF => ?_
 refine from_pure 2 [(1, B b1 0), (15, I (w64 ((len p0.Code) + 1)))] hF (by kernel_rfl) fun fr hF => ?_
 obtain ⟨x2, hx2, h⟩ := bindE h
 refine q_make hs hM0 Try.underlying64 el4 (zero_flat _ (by kernel_rfl)) rfl rfl hF rfl rfl hx2 fun a2 c2 w3 S2 fr hs hp hF => ?_
 have r1 := r1.stp hM0 hp
 have hM0 := hM0.stp hp
 have hs : Sep [sl4 (L a2 x2 c2) x2, BX b1 30 [I p0.W, I p0.Mem, I p0.In, L a1 p0.Code c1]] w3 S2 := hs
 refine from_pure 1 [(1, B b1 0), (3, L a2 x2 c2)] hF (by kernel_rfl) fun fr hF => ?_
 refine from_end rfl (then_normal ?_)
 refine wp_seq (wp_text' ?_)
 refine q_lit (E := 3) hs hM0 [I 0] (([0] : List Int).map Flat.enc) ([0] : List Int) rfl rfl hF [I 0] rfl (fun w => by kernel_rfl) (css_flat _) rfl rfl rfl fun a3 c3 w4 S3 fr hs hp hF => ?_
 have r1 := r1.stp hM0 hp
 have hM0 := hM0.stp hp
 have hs : Sep [sl3 (L a3 ([0] : List Int) c3) ([0] : List Int), sl4 (L a2 x2 c2) x2, BX b1 30 [I p0.W, I p0.Mem, I p0.In, L a1 p0.Code c1]] w4 S3 := hs
 have hs : Sep [TL 3 (L a3 ([0] : List Int) c3) ([0] : List Int), sl4 (L a2 x2 c2) x2, BX b1 30 [I p0.W, I p0.Mem, I p0.In, L a1 p0.Code c1]] w4 S3 := hs.toT 0 rfl
 refine from_pure 1 [(1, B b1 0), (3, L a2 x2 c2), (4, L a3 ([0] : List Int) c3)] hF (by kernel_rfl) fun fr hF => ?_
 refine from_end rfl (then_normal ?_)
 obtain ⟨rl1, hit1, h⟩ := bindE h
 have hk1 := h
 refine wp_seq (GL.wp_cut (M := fun fr w' => ∃ S5 F2, FrS 54 [(3, L a2 x2 c2)] fr ∧ Mem w4 S3 (fun k => (G0 k) ∧ k < w.heap.size) w' S5 F2 ∧ Sep [sl4 (L a2 x2 c2) rl1] w' S5) (wp_block (wp_iter (Inv := fun s1 fr w' => ∃ a4 c4 S4 F1, FrS 54 [(1, B b1 0), (3, L a2 x2 c2), (4, L a4 s1.1 c4)] fr ∧ Mem w4 S3 (fun k => (G0 k) ∧ k < w.heap.size) w' S4 F1 ∧ Sep [TL 3 (L a4 s1.1 c4) s1.1, sl4 (L a2 x2 c2) s1.2, BX b1 30 [I p0.W, I p0.Mem, I p0.In, L a1 p0.Code c1]] w' S4) hit1 ⟨a3, c3, S3, _, hF.sub _ (by kernel_rfl), (Mem.start hM0.bd hM0.bdF hM0.dj), hs⟩ fun s1 q1 fr w1i hI h hr1 => ?_)) fun fr w1o hM => ?_)
 · obtain ⟨a4, c4, S4, F1, hF, hM1, hs⟩ := hI
   have r1 := r1.mem hM1
   refine wp_seq ?_
   refine wp_seq (wp_pure [(1, B b1 0), (3, L a2 x2 c2), (4, L a4 s1.1 c4), (20, .bool (decide ((len s1.1) > 0)))] hF (by kernel_rfl) fun fr hF => then_normal ?_)
   refine (wp_if hF (b := (decide ((len s1.1) > 0))) rfl (fun hb => ?_) (fun hb => ?_))
   · replace h := iteT hb h
     refine (wp_skip (then_normal ?_))
     refine (wp_block ?_)
     refine wp_seq (wp_text' ?_)
     refine from_pure 1 [(1, B b1 0), (3, L a2 x2 c2), (4, L a4 s1.1 c4), (21, L a4 s1.1 c4)] hF (by kernel_rfl) fun fr hF => ?_
     obtain ⟨x3, hx3, h⟩ := bindE h
     refine s_elemF (z := x3) (I x3) ty3 Try.underlying26 rfl rfl rfl rfl rfl hF rfl (hs.rvT 0 rfl) rfl (get?_nn hx3) (get?_at hx3) rfl fun p fr hF => ?_
     refine from_pure 1 [(1, B b1 0), (3, L a2 x2 c2), (4, L a4 s1.1 c4), (5, I x3)] hF (by kernel_rfl) fun fr hF => ?_
     refine from_end rfl (then_normal ?_)
     refine wp_seq (wp_text' ?_)
     refine from_pure 1 [(1, B b1 0), (3, L a2 x2 c2), (5, I x3), (24, L a4 s1.1 c4)] hF (by kernel_rfl) fun fr hF => ?_
     obtain ⟨x4, hx4, h⟩ := bindE h
     refine q_tail 0 hs rfl ty3 Try.underlying26 rfl rfl hF rfl ⟨_, rfl⟩ hx4 fun a5 c5 fr hs hF => ?_
     have hs : Sep [TL 3 (L a5 x4 c5) x4, sl4 (L a2 x2 c2) s1.2, BX b1 30 [I p0.W, I p0.Mem, I p0.In, L a1 p0.Code c1]] w1i S4 := hs
     refine from_pure 1 [(1, B b1 0), (3, L a2 x2 c2), (4, L a5 x4 c5), (5, I x3)] hF (by kernel_rfl) fun fr hF => ?_
     refine from_end rfl (then_normal ?_)
     refine wp_seq (wp_text' ?_)
     refine from_pure 2 [(1, B b1 0), (3, L a2 x2 c2), (4, L a5 x4 c5), (5, I x3), (26, L a2 x2 c2), (27, I x3)] hF (by kernel_rfl) fun fr hF => ?_
     obtain ⟨x5, hx5, h⟩ := bindE h
     refine s_elemF (z := x5) (.bool x5) ty4 Try.underlying64 rfl rfl rfl rfl rfl hF rfl (hs.rv 1 rfl) rfl (get?_nn hx5) (get?_at hx5) rfl fun p fr hF => ?_
     refine from_pure 1 [(1, B b1 0), (3, L a2 x2 c2), (4, L a5 x4 c5), (5, I x3), (30, .bool (!x5))] hF (by kernel_rfl) fun fr hF => ?_
     refine from_end rfl (then_normal ?_)
     refine (wp_if hF (b := (!x5)) rfl (fun hb => ?_) (fun hb => ?_))
     · replace h := iteT hb h
       refine wp_seq (wp_text' ?_)
       refine from_pure 2 [(1, B b1 0), (3, L a2 x2 c2), (4, L a5 x4 c5), (5, I x3), (31, L a2 x2 c2), (32, I x3)] hF (by kernel_rfl) fun fr hF => ?_
       obtain ⟨x6, hx6, h⟩ := bindE h
       refine q_set (q := true) 1 hs hM1 rfl Try.underlying64 ty4 rfl rfl rfl rfl hF rfl rfl (by simp) rfl rfl hx6 fun w5 S6 fr _ hs hp hF => ?_
       have r1 := r1.stp hM1 hp
       have hM1 := hM1.stp hp
       have hs : Sep [TL 3 (L a5 x4 c5) x4, sl4 (L a2 x2 c2) x6, BX b1 30 [I p0.W, I p0.Mem, I p0.In, L a1 p0.Code c1]] w5 S6 := hs
       refine from_end rfl (then_normal ?_)
       refine (wp_text' ?_)
       refine from_pure 1 [(1, B b1 0), (3, L a2 x2 c2), (5, I x3), (34, L a5 x4 c5)] hF (by kernel_rfl) fun fr hF => ?_
       refine s_loadBoxS ty30 rfl rfl hF rfl (hs.bx 2 rfl) rfl rfl fun fr hF => ?_
       refine from_pure 1 [(1, B b1 0), (3, L a2 x2 c2), (34, L a5 x4 c5), (35, .agg #[I p0.W, I p0.Mem, I p0.In, L a1 p0.Code c1]), (36, I x3)] hF (by kernel_rfl) fun fr hF => ?_
       obtain ⟨x7, hx7, h⟩ := bindE h
       refine s_call [.agg #[I p0.W, I p0.Mem, I p0.In, L a1 p0.Code c1], I x3] Try.call12 rfl rfl hF rfl (spec_NextOf_ok n p0 x3 hx7 (RV.mk_Program p0 (r1))) fun v w6 fr hRes hF => ?_
       obtain ⟨a6, c6, rfl, _, hp, hs2⟩ := hRes
       obtain ⟨S7, hp, hs⟩ := hs.got hM1 hp hs2
       have r1 := r1.stp hM1 hp
       have hM1 := hM1.stp hp
       have hs : Sep [sl3 (L a6 x7 c6) x7, TL 3 (L a5 x4 c5) x4, sl4 (L a2 x2 c2) x6, BX b1 30 [I p0.W, I p0.Mem, I p0.In, L a1 p0.Code c1]] w6 S7 := hs
       obtain ⟨x8, hx8, h⟩ := bindE h
       refine q_appendT 1 hs hM1 rfl Try.underlying26 el3 rfl rfl rfl hF rfl rfl (hs.rv 0 rfl) hx8 fun a7 c7 w7 S8 fr hs hp hF => ?_
       have r1 := r1.stp hM1 hp
       have hM1 := hM1.stp hp
       have hs : Sep [sl3 (L a6 x7 c6) x7, TL 3 (L a7 x8 c7) x8, sl4 (L a2 x2 c2) x6, BX b1 30 [I p0.W, I p0.Mem, I p0.In, L a1 p0.Code c1]] w7 S8 := hs
       have hs : Sep [TL 3 (L a7 x8 c7) x8, sl4 (L a2 x2 c2) x6, BX b1 30 [I p0.W, I p0.Mem, I p0.In, L a1 p0.Code c1]] w7 S8 := Sep.pick [1, 2, 3] hs (by decide) rfl
       refine from_pure 1 [(1, B b1 0), (3, L a2 x2 c2), (4, L a7 x8 c7)] hF (by kernel_rfl) fun fr hF => ?_
       refine from_end rfl ?_
       refine blk_normal (then_normal ?_)
       exact ⟨_, (Option.some.inj h).symm, a7, c7, S8, _, hF.sub _ (by kernel_rfl), hM1, hs⟩
     replace h := iteF hb h
     refine (wp_skip ?_)
     refine blk_normal (then_normal ?_)
     exact ⟨_, (Option.some.inj h).symm, a5, c5, S4, _, hF.sub _ (by kernel_rfl), hM1, hs⟩
   replace h := iteF hb h
   have hs : Sep [sl4 (L a2 x2 c2) s1.2] w1i S4 := Sep.pick [1] hs (by decide) rfl
   refine (wp_exit (then_exit (then_exit (blk_exit_eq ?_))))
   obtain rfl := hr1 _ (Option.some.inj h).symm
   exact then_normal ⟨S4, _, hF.sub _ (by kernel_rfl), hM1, hs⟩
 · obtain ⟨S5, F2, hF, hMx, hs⟩ := hM
   have hM0 := hM0.trans hMx
   refine wp_seq (wp_text' ?_)
   refine q_lit (E := 3) hs hM0 [] (([] : List Int).map Flat.enc) ([] : List Int) rfl rfl hF [] rfl (fun w => by kernel_rfl) (css_flat _) rfl rfl rfl fun a8 c8 w8 S9 fr hs hp hF => ?_
   have hM0 := hM0.stp hp
   have hs : Sep [sl3 (L a8 ([] : List Int) c8) ([] : List Int), sl4 (L a2 x2 c2) rl1] w8 S9 := hs
   refine from_pure 1 [(3, L a2 x2 c2), (6, L a8 ([] : List Int) c8)] hF (by kernel_rfl) fun fr hF => ?_
   refine from_end rfl (then_normal ?_)
   refine wp_seq ?_
   refine wp_seq (wp_pure [(6, L a8 ([] : List Int) c8), (40, L a2 x2 c2), (41, I (len x2)), (42, I 0)] hF (by kernel_rfl) fun fr hF => then_normal ?_)
   obtain ⟨rl2, hit2, h⟩ := bindE h
   have hk2 := h
   refine (GL.wp_cut (M := fun fr w' => ∃ a10 c10 S11 F4, FrS 54 [(6, L a10 rl2 c10)] fr ∧ Mem w8 S9 F2 w' S11 F4 ∧ Sep [sl3 (L a10 rl2 c10) rl2] w' S11) (wp_block (wp_iter (Inv := fun s2 fr w' => ∃ a9 c9 S10 F3, FrS 54 [(6, L a9 s2.2 c9), (40, L a2 x2 c2), (41, I (len x2)), (42, I s2.1)] fr ∧ Mem w8 S9 F2 w' S10 F3 ∧ Sep [sl3 (L a9 s2.2 c9) s2.2, sl4 (L a2 x2 c2) rl1] w' S10) hit2 ⟨a8, c8, S9, _, hF.sub _ (by kernel_rfl), (Mem.start hM0.bd hM0.bdF hM0.dj), hs⟩ fun s2 q2 fr w2i hI h hr2 => ?_)) fun fr w2o hM => ?_)
   · obtain ⟨a9, c9, S10, F3, hF, hM1, hs⟩ := hI
     refine wp_seq (wp_pure [(6, L a9 s2.2 c9), (40, L a2 x2 c2), (41, I (len x2)), (42, I s2.1), (43, .bool (decide (s2.1 < (len x2))))] hF (by kernel_rfl) fun fr hF => then_normal ?_)
     refine wp_seq (wp_if hF (b := (decide (s2.1 < (len x2)))) rfl (fun hb => ?_) (fun hb => ?_))
     · replace h := iteT hb h
       refine (wp_skip (then_normal ?_))
       refine wp_seq (wp_block ?_)
       refine wp_seq (wp_text' ?_)
       refine from_pure 1 [(6, L a9 s2.2 c9), (40, L a2 x2 c2), (41, I (len x2)), (42, I s2.1), (44, I s2.1)] hF (by kernel_rfl) fun fr hF => ?_
       obtain ⟨x9, hx9, h⟩ := bindE h
       refine s_elemF (z := x9) (.bool x9) ty4 Try.underlying64 rfl rfl rfl rfl rfl hF rfl (hs.rv 1 rfl) rfl (get?_nn hx9) (get?_at hx9) rfl fun p fr hF => ?_
       refine from_pure 2 [(6, L a9 s2.2 c9), (7, I s2.1), (8, .bool x9), (40, L a2 x2 c2), (41, I (len x2)), (42, I s2.1)] hF (by kernel_rfl) fun fr hF => ?_
       refine from_end rfl (then_normal ?_)
       refine wp_seq (wp_pure [(6, L a9 s2.2 c9), (7, I s2.1), (40, L a2 x2 c2), (41, I (len x2)), (42, I s2.1), (47, .bool x9)] hF (by kernel_rfl) fun fr hF => then_normal ?_)
       refine (wp_if hF (b := x9) rfl (fun hb => ?_) (fun hb => ?_))
       · replace h := iteT hb h
         refine (wp_text' ?_)
         refine from_pure 2 [(40, L a2 x2 c2), (41, I (len x2)), (42, I s2.1), (48, L a9 s2.2 c9), (49, I s2.1)] hF (by kernel_rfl) fun fr hF => ?_
         refine q_lit (E := 3) hs hM1 [I s2.1] (([s2.1] : List Int).map Flat.enc) ([s2.1] : List Int) rfl rfl hF [I s2.1] rfl (fun w => by kernel_rfl) (css_flat _) rfl rfl rfl fun a11 c11 w9 S12 fr hs hp hF => ?_
         have hM1 := hM1.stp hp
         have hs : Sep [sl3 (L a11 ([s2.1] : List Int) c11) ([s2.1] : List Int), sl3 (L a9 s2.2 c9) s2.2, sl4 (L a2 x2 c2) rl1] w9 S12 := hs
         obtain ⟨x10, hx10, h⟩ := bindE h
         refine q_append 1 hs hM1 rfl Try.underlying26 el3 rfl rfl rfl hF rfl rfl (hs.rv 0 rfl) hx10 fun a12 c12 w10 S13 fr hs hp hF => ?_
         have hM1 := hM1.stp hp
         have hs : Sep [sl3 (L a11 ([s2.1] : List Int) c11) ([s2.1] : List Int), sl3 (L a12 x10 c12) x10, sl4 (L a2 x2 c2) rl1] w10 S13 := hs
         have hs : Sep [sl3 (L a12 x10 c12) x10, sl4 (L a2 x2 c2) rl1] w10 S13 := Sep.pick [1, 2] hs (by decide) rfl
         refine from_pure 1 [(6, L a12 x10 c12), (40, L a2 x2 c2), (41, I (len x2)), (42, I s2.1)] hF (by kernel_rfl) fun fr hF => ?_
         refine from_end rfl ?_
         refine blk_normal (then_normal ?_)
         refine (wp_pure [(6, L a12 x10 c12), (40, L a2 x2 c2), (41, I (len x2)), (42, I (w64 (s2.1 + 1)))] hF (by kernel_rfl) fun fr hF => then_normal ?_)
         exact ⟨_, (Option.some.inj h).symm, a12, c12, S13, _, hF.sub _ (by kernel_rfl), hM1, hs⟩
       replace h := iteF hb h
       refine (wp_skip ?_)
       refine blk_normal (then_normal ?_)
       refine (wp_pure [(6, L a9 s2.2 c9), (40, L a2 x2 c2), (41, I (len x2)), (42, I (w64 (s2.1 + 1)))] hF (by kernel_rfl) fun fr hF => then_normal ?_)
       exact ⟨_, (Option.some.inj h).symm, a9, c9, S10, _, hF.sub _ (by kernel_rfl), hM1, hs⟩
     replace h := iteF hb h
     have hs : Sep [sl3 (L a9 s2.2 c9) s2.2] w2i S10 := Sep.pick [0] hs (by decide) rfl
     refine (wp_exit (then_exit (then_exit (blk_exit_eq ?_))))
     obtain rfl := hr2 _ (Option.some.inj h).symm
     exact then_normal ⟨a9, c9, S10, _, hF.sub _ (by kernel_rfl), hM1, hs⟩
   · obtain ⟨a10, c10, S11, F4, hF, hMx, hs⟩ := hM
     have hM0 := hM0.trans hMx
     refine wp_seq (wp_pure [(2, L a10 rl2 c10)] hF (by kernel_rfl) fun fr hF => then_normal ?_)
     obtain rfl := Option.some.inj h
     exact wp_ret (ret1 rfl hF rfl ⟨_, rfl, a10, c10, rfl, S11, hM0.out, hs⟩)

theorem spec_l03Has_ok (n : Nat) (p0 : List Int) (p1 : Int) {r : Bool} (h : spec_l03Has n p0 p1 = some r) {w : World} {G0 : Nat → Prop} {va0 : Value} (ra0 : RV w G0 va0 p0) :
   Calls Try.prog 64 [va0, I p1].toArray w fun e w' => ∃ v, e = .returned v ∧ v = .bool r ∧ Chg Non w w' := by
 unfold spec_l03Has at h
 have hs := Sep.nil w Non
 have hM0 : Mem w Non (fun k => (G0 k) ∧ k < w.heap.size) w Non (fun k => (G0 k) ∧ k < w.heap.size) := Mem.start (fun _ h => h.elim) (fun _ h => h.2) (fun _ h => h.elim)
 have ra0 := ra0.sub (F' := (fun k => (G0 k) ∧ k < w.heap.size)) (fun k hk h => ⟨h, hk⟩)
 obtain ⟨a1, c1, rfl, -⟩ := ra0.slice
 refine enter (N := 17) Try.func64 rfl Try.ntmps64 rfl fun fr hF => ?_
 refine wp_seq (wp_pure [(0, L a1 p0 c1), (1, I p1)] hF (by kernel_rfl) fun fr hF => then_normal ?_)
 refine wp_seq ?_
 refine wp_seq (wp_pure [(1, I p1), (7, L a1 p0 c1), (8, I (len p0)), (9, I 0)] hF (by kernel_rfl) fun fr hF => then_normal ?_)
 obtain ⟨rl1, hit1, h⟩ := bindE h
 have hk1 := h
 refine (GL.wp_cut (M := fun fr w' => ∃ s, rl1 = .inl s ∧ ∃ S2 F2, FrS 17 [] fr ∧ Mem w Non (fun k => (G0 k) ∧ k < w.heap.size) w' S2 F2 ∧ Sep [] w' S2) (wp_block (wp_iter (Inv := fun s1 fr w' => ∃ S1 F1, FrS 17 [(1, I p1), (7, L a1 p0 c1), (8, I (len p0)), (9, I s1)] fr ∧ Mem w Non (fun k => (G0 k) ∧ k < w.heap.size) w' S1 F1 ∧ Sep [] w' S1) hit1 ⟨Non, _, hF.sub _ (by kernel_rfl), (Mem.start hM0.bd hM0.bdF hM0.dj), hs⟩ fun s1 q1 fr w1i hI h hr1 => ?_)) fun fr w1o hM => ?_)
 · obtain ⟨S1, F1, hF, hM1, hs⟩ := hI
   have ra0 := ra0.mem hM1
   refine wp_seq (wp_pure [(1, I p1), (7, L a1 p0 c1), (8, I (len p0)), (9, I s1), (10, .bool (decide (s1 < (len p0))))] hF (by kernel_rfl) fun fr hF => then_normal ?_)
   refine wp_seq (wp_if hF (b := (decide (s1 < (len p0)))) rfl (fun hb => ?_) (fun hb => ?_))
   · replace h := iteT hb h
     refine (wp_skip (then_normal ?_))
     refine wp_seq (wp_block ?_)
     refine wp_seq (wp_text' ?_)
     obtain ⟨x1, hx1, h⟩ := bindE h
     refine s_elemF (z := x1) (I x1) ty3 Try.underlying26 rfl rfl rfl rfl rfl hF rfl (ra0) rfl (get?_nn hx1) (get?_at hx1) rfl fun p fr hF => ?_
     refine from_pure 1 [(1, I p1), (6, I x1), (7, L a1 p0 c1), (8, I (len p0)), (9, I s1)] hF (by kernel_rfl) fun fr hF => ?_
     refine from_end rfl (then_normal ?_)
     refine wp_seq (wp_pure [(1, I p1), (7, L a1 p0 c1), (8, I (len p0)), (9, I s1), (15, .bool (p1 == x1))] hF (by kernel_rfl) fun fr hF => then_normal ?_)
     refine (wp_if hF (b := (p1 == x1)) rfl (fun hb => ?_) (fun hb => ?_))
     · replace h := iteT hb h
       refine wp_seq (wp_pure [(4, .bool true)] hF (by kernel_rfl) fun fr hF => then_normal ?_)
       obtain rfl := hr1 _ (Option.some.inj h).symm
       obtain rfl := Option.some.inj hk1
       exact wp_ret (blk_ret (then_ret (then_ret (blk_ret (then_ret (ret1 rfl hF rfl ⟨_, rfl, rfl, (hM0.trans hM1).chg⟩))))))
     replace h := iteF hb h
     refine (wp_skip ?_)
     refine blk_normal (then_normal ?_)
     refine (wp_pure [(1, I p1), (7, L a1 p0 c1), (8, I (len p0)), (9, I (w64 (s1 + 1)))] hF (by kernel_rfl) fun fr hF => then_normal ?_)
     exact ⟨_, (Option.some.inj h).symm, S1, _, hF.sub _ (by kernel_rfl), hM1, hs⟩
   replace h := iteF hb h
   refine (wp_exit (then_exit (then_exit (blk_exit_eq ?_))))
   obtain rfl := hr1 _ (Option.some.inj h).symm
   exact then_normal ⟨_, rfl, S1, _, hF.sub _ (by kernel_rfl), hM1, hs⟩
 · obtain ⟨s1r, rfl, hM⟩ := hM
   obtain ⟨S2, F2, hF, hMx, hs⟩ := hM
   have hM0 := hM0.trans hMx
   refine wp_seq (wp_pure [(4, .bool false)] hF (by kernel_rfl) fun fr hF => then_normal ?_)
   obtain rfl := Option.some.inj h
   exact wp_ret (ret1 rfl hF rfl ⟨_, rfl, rfl, hM0.chg⟩)

theorem spec_LoopHeads_ok (n : Nat) (p0 : D.Program) {r : (List Int)} (h : spec_LoopHeads n p0 = some r) {w : World} {G0 : Nat → Prop} {va0 : Value} (ra0 : RV w G0 va0 p0) :
   Calls Try.prog 22 [va0].toArray w fun e w' => ∃ v, e = .returned v ∧ ∃ a1 c1, v = L a1 r c1 ∧ ∃ S', Stp w Non w' S' ∧ Sep [sl3 (L a1 r c1) r] w' S' := by
 unfold spec_LoopHeads at h
 have hs := Sep.nil w Non
 have hM0 : Mem w Non (fun k => (G0 k) ∧ k < w.heap.size) w Non (fun k => (G0 k) ∧ k < w.heap.size) := Mem.start (fun _ h => h.elim) (fun _ h => h.2) (fun _ h => h.elim)
 have ra0 := ra0.sub (F' := (fun k => (G0 k) ∧ k < w.heap.size)) (fun k hk h => ⟨h, hk⟩)
 obtain ⟨v1, rfl, r1⟩ := RV.Program ra0
 obtain ⟨a1, c1, rfl, -⟩ := r1.slice
 refine enter (N := 45) Try.func22 rfl Try.ntmps22 rfl fun fr hF => ?_
 refine wp_seq (wp_text' ?_)
 refine q_box hs hM0 [I p0.W, I p0.Mem, I p0.In, L a1 p0.Code c1] rfl rfl hF rfl rfl fun b1 w1 S1 fr hs hp hF => ?_
 have r1 := r1.stp hM0 hp
 have hM0 := hM0.stp hp
 have hs : Sep [BX b1 30 [I p0.W, I p0.Mem, I p0.In, L a1 p0.Code c1]] w1 S1 := hs
 refine from_pure 1 [(1, B b1 0)] hF (by kernel_rfl) fun fr hF => ?_
 refine from_end rfl (then_normal ?_)
 refine wp_seq (wp_text' ?_)
 refine q_lit (E := 3) hs hM0 [] (([] : List Int).map Flat.enc) ([] : List Int) rfl rfl hF [] rfl (fun w => by kernel_rfl) (css_flat _) rfl rfl rfl fun a2 c2 w2 S2 fr hs hp hF => ?_
 have r1 := r1.stp hM0 hp
 have hM0 := hM0.stp hp
 have hs : Sep [sl3 (L a2 ([] : List Int) c2) ([] : List Int), BX b1 30 [I p0.W, I p0.Mem, I p0.In, L a1 p0.Code c1]] w2 S2 := hs
 refine from_pure 1 [(1, B b1 0), (3, L a2 ([] : List Int) c2)] hF (by kernel_rfl) fun fr hF => ?_
 refine from_end rfl (then_normal ?_)
 refine wp_seq (wp_text' ?_)
 refine s_loadBoxS ty30 rfl rfl hF rfl (hs.bx 1 rfl) rfl rfl fun fr hF => ?_
 obtain ⟨x1, hx1, h⟩ := bindE h
 refine s_call [.agg #[I p0.W, I p0.Mem, I p0.In, L a1 p0.Code c1]] Try.call20 rfl rfl hF rfl (spec_ReachedOf_ok n p0 hx1 (RV.mk_Program p0 (r1))) fun v w3 fr hRes hF => ?_
 obtain ⟨a3, c3, rfl, _, hp, hs2⟩ := hRes
 obtain ⟨S3, hp, hs⟩ := hs.got hM0 hp hs2
 have r1 := r1.stp hM0 hp
 have hM0 := hM0.stp hp
 have hs : Sep [sl3 (L a3 x1 c3) x1, sl3 (L a2 ([] : List Int) c2) ([] : List Int), BX b1 30 [I p0.W, I p0.Mem, I p0.In, L a1 p0.Code c1]] w3 S3 := hs
 refine from_pure 1 [(1, B b1 0), (3, L a2 ([] : List Int) c2), (4, L a3 x1 c3)] hF (by kernel_rfl) fun fr hF => ?_
 refine from_end rfl (then_normal ?_)
 refine wp_seq ?_
 refine wp_seq (wp_pure [(1, B b1 0), (3, L a2 ([] : List Int) c2), (4, L a3 x1 c3), (5, I 0)] hF (by kernel_rfl) fun fr hF => then_normal ?_)
 obtain ⟨rl1, hit1, h⟩ := bindE h
 have hk1 := h
 refine (GL.wp_cut (M := fun fr w' => ∃ a5 c5 S5 F2, FrS 45 [(3, L a5 rl1 c5)] fr ∧ Mem w3 S3 (fun k => (G0 k) ∧ k < w.heap.size) w' S5 F2 ∧ Sep [sl3 (L a5 rl1 c5) rl1] w' S5) (wp_block (wp_iter (Inv := fun s1 fr w' => ∃ a4 c4 S4 F1, FrS 45 [(1, B b1 0), (3, L a4 s1.2 c4), (4, L a3 x1 c3), (5, I s1.1)] fr ∧ Mem w3 S3 (fun k => (G0 k) ∧ k < w.heap.size) w' S4 F1 ∧ Sep [sl3 (L a3 x1 c3) x1, sl3 (L a4 s1.2 c4) s1.2, BX b1 30 [I p0.W, I p0.Mem, I p0.In, L a1 p0.Code c1]] w' S4) hit1 ⟨a2, c2, S3, _, hF.sub _ (by kernel_rfl), (Mem.start hM0.bd hM0.bdF hM0.dj), hs⟩ fun s1 q1 fr w1i hI h hr1 => ?_)) fun fr w1o hM => ?_)
 · obtain ⟨a4, c4, S4, F1, hF, hM1, hs⟩ := hI
   have r1 := r1.mem hM1
   refine wp_seq ?_
   refine wp_seq (wp_text' ?_)
   refine from_pure 2 [(1, B b1 0), (3, L a4 s1.2 c4), (4, L a3 x1 c3), (5, I s1.1), (12, I s1.1), (13, B b1 3)] hF (by kernel_rfl) fun fr hF => ?_
   refine s_loadBox (L a1 p0.Code c1) ty28 rfl rfl hF rfl (hs.bx 2 rfl) rfl rfl fun fr hF => ?_
   refine from_pure 2 [(1, B b1 0), (3, L a4 s1.2 c4), (4, L a3 x1 c3), (5, I s1.1), (16, .bool (decide (s1.1 ≤ (len p0.Code))))] hF (by kernel_rfl) fun fr hF => ?_
   refine from_end rfl (then_normal ?_)
   refine (wp_if hF (b := (decide (s1.1 ≤ (len p0.Code)))) rfl (fun hb => ?_) (fun hb => ?_))
   · replace h := iteT hb h
     refine (wp_skip (then_normal ?_))
     refine wp_seq (wp_block ?_)
     refine wp_seq (wp_pure [(1, B b1 0), (3, L a4 s1.2 c4), (4, L a3 x1 c3), (5, I s1.1), (6, .bool false)] hF (by kernel_rfl) fun fr hF => then_normal ?_)
     refine wp_seq ?_
     refine wp_seq (wp_pure [(1, B b1 0), (3, L a4 s1.2 c4), (4, L a3 x1 c3), (5, I s1.1), (6, .bool false), (19, L a3 x1 c3), (20, I (len x1)), (21, I 0)] hF (by kernel_rfl) fun fr hF => then_normal ?_)
     obtain ⟨rl2, hit2, h⟩ := bindE h
     have hk2 := h
     refine (GL.wp_cut (M := fun fr w' => ∃ S7 F4, FrS 45 [(1, B b1 0), (3, L a4 s1.2 c4), (4, L a3 x1 c3), (5, I s1.1), (6, .bool rl2)] fr ∧ Mem w1i S4 F1 w' S7 F4 ∧ Sep [sl3 (L a3 x1 c3) x1, sl3 (L a4 s1.2 c4) s1.2, BX b1 30 [I p0.W, I p0.Mem, I p0.In, L a1 p0.Code c1]] w' S7) (wp_block (wp_iter (Inv := fun s2 fr w' => ∃ S6 F3, FrS 45 [(1, B b1 0), (3, L a4 s1.2 c4), (4, L a3 x1 c3), (5, I s1.1), (6, .bool s2.1), (19, L a3 x1 c3), (20, I (len x1)), (21, I s2.2)] fr ∧ Mem w1i S4 F1 w' S6 F3 ∧ Sep [sl3 (L a3 x1 c3) x1, sl3 (L a4 s1.2 c4) s1.2, BX b1 30 [I p0.W, I p0.Mem, I p0.In, L a1 p0.Code c1]] w' S6) hit2 ⟨S4, _, hF.sub _ (by kernel_rfl), (Mem.start hM1.bd hM1.bdF hM1.dj), hs⟩ fun s2 q2 fr w2i hI h hr2 => ?_)) fun fr w2o hM => ?_)
     · obtain ⟨S6, F3, hF, hM2, hs⟩ := hI
       have r1 := r1.mem hM2
       refine wp_seq (wp_pure [(1, B b1 0), (3, L a4 s1.2 c4), (4, L a3 x1 c3), (5, I s1.1), (6, .bool s2.1), (19, L a3 x1 c3), (20, I (len x1)), (21, I s2.2), (22, .bool (decide (s2.2 < (len x1))))] hF (by kernel_rfl) fun fr hF => then_normal ?_)
       refine wp_seq (wp_if hF (b := (decide (s2.2 < (len x1)))) rfl (fun hb => ?_) (fun hb => ?_))
       · replace h := iteT hb h
         refine (wp_skip (then_normal ?_))
         refine wp_seq (wp_block ?_)
         refine wp_seq (wp_text' ?_)
         obtain ⟨x2, hx2, h⟩ := bindE h
         refine s_elemF (z := x2) (I x2) ty3 Try.underlying26 rfl rfl rfl rfl rfl hF rfl (hs.rv 0 rfl) rfl (get?_nn hx2) (get?_at hx2) rfl fun p fr hF => ?_
         refine from_pure 1 [(1, B b1 0), (3, L a4 s1.2 c4), (4, L a3 x1 c3), (5, I s1.1), (6, .bool s2.1), (8, I x2), (19, L a3 x1 c3), (20, I (len x1)), (21, I s2.2)] hF (by kernel_rfl) fun fr hF => ?_
         refine from_end rfl (then_normal ?_)
         refine (wp_text' ?_)
         refine from_pure 1 [(1, B b1 0), (3, L a4 s1.2 c4), (4, L a3 x1 c3), (5, I s1.1), (8, I x2), (19, L a3 x1 c3), (20, I (len x1)), (21, I s2.2), (25, .bool s2.1)] hF (by kernel_rfl) fun fr hF => ?_
         refine from_pure 1 [(1, B b1 0), (3, L a4 s1.2 c4), (4, L a3 x1 c3), (5, I s1.1), (8, I x2), (19, L a3 x1 c3), (20, I (len x1)), (21, I s2.2), (26, .bool s2.1)] hF (by kernel_rfl) fun fr hF => ?_
         rcases ite_split (b := s2.1) h with ⟨hg1, h⟩ | ⟨hg1, h⟩
         · simp only [hg1] at hF
           refine from_skip hF rfl rfl rfl rfl rfl rfl rfl rfl rfl fun fr hF => ?_
           refine from_skip hF rfl rfl rfl rfl rfl rfl rfl rfl rfl fun fr hF => ?_
           refine from_skip hF rfl rfl rfl rfl rfl rfl rfl rfl rfl fun fr hF => ?_
           refine from_skip hF rfl rfl rfl rfl rfl rfl rfl rfl rfl fun fr hF => ?_
           refine from_skipU hF rfl rfl rfl rfl rfl rfl rfl rfl fun fr hF => ?_
           refine from_skipU hF rfl rfl rfl rfl rfl rfl rfl rfl fun fr hF => ?_
           refine from_skipU hF rfl rfl rfl rfl rfl rfl rfl rfl fun fr hF => ?_
           refine from_skipU hF rfl rfl rfl rfl rfl rfl rfl rfl fun fr hF => ?_
           refine from_skipU hF rfl rfl rfl rfl rfl rfl rfl rfl fun fr hF => ?_
           refine from_skip hF rfl rfl rfl rfl rfl rfl rfl rfl rfl fun fr hF => ?_
           refine from_pick rfl rfl hF rfl rfl fun fr hF => ?_
           refine from_pure 1 [(1, B b1 0), (3, L a4 s1.2 c4), (4, L a3 x1 c3), (5, I s1.1), (6, .bool true), (19, L a3 x1 c3), (20, I (len x1)), (21, I s2.2)] hF (by kernel_rfl) fun fr hF => ?_
           refine from_end rfl ?_
           refine blk_normal (then_normal ?_)
           refine (wp_pure [(1, B b1 0), (3, L a4 s1.2 c4), (4, L a3 x1 c3), (5, I s1.1), (6, .bool true), (19, L a3 x1 c3), (20, I (len x1)), (21, I (w64 (s2.2 + 1)))] hF (by kernel_rfl) fun fr hF => then_normal ?_)
           exact ⟨_, (Option.some.inj h).symm, S6, _, hF.sub _ (by kernel_rfl), hM2, hs⟩
         simp only [hg1] at hF
         refine from_takeL hF rfl rfl rfl rfl rfl rfl ?_
         dsimp only [List.set]
         refine from_pure 1 [(1, B b1 0), (3, L a4 s1.2 c4), (4, L a3 x1 c3), (5, I s1.1), (8, I x2), (19, L a3 x1 c3), (20, I (len x1)), (21, I s2.2), (26, .bool false), (27, I x2)] hF (by kernel_rfl) fun fr hF => ?_
         refine from_takeL hF rfl rfl rfl rfl rfl rfl ?_
         dsimp only [List.set]
         refine from_pure 1 [(1, B b1 0), (3, L a4 s1.2 c4), (4, L a3 x1 c3), (5, I s1.1), (8, I x2), (19, L a3 x1 c3), (20, I (len x1)), (21, I s2.2), (26, .bool false), (27, I x2), (28, I s1.1)] hF (by kernel_rfl) fun fr hF => ?_
         refine from_takeL hF rfl rfl rfl rfl rfl rfl ?_
         dsimp only [List.set]
         refine from_pure 1 [(1, B b1 0), (3, L a4 s1.2 c4), (4, L a3 x1 c3), (5, I s1.1), (8, I x2), (19, L a3 x1 c3), (20, I (len x1)), (21, I s2.2), (26, .bool false), (29, .bool (decide (x2 ≥ s1.1)))] hF (by kernel_rfl) fun fr hF => ?_
         refine from_takeL hF rfl rfl rfl rfl rfl rfl ?_
         dsimp only [List.set]
         refine from_pure 1 [(1, B b1 0), (3, L a4 s1.2 c4), (4, L a3 x1 c3), (5, I s1.1), (8, I x2), (19, L a3 x1 c3), (20, I (len x1)), (21, I s2.2), (26, .bool false), (30, .bool (decide (x2 ≥ s1.1)))] hF (by kernel_rfl) fun fr hF => ?_
         rcases ite_split (b := (decide (x2 ≥ s1.1))) h with ⟨hg2, h⟩ | ⟨hg2, h⟩
         · simp only [hg2] at hF
           refine from_takeL hF rfl rfl rfl rfl rfl rfl ?_
           dsimp only [List.set]
           refine s_loadBoxS ty30 rfl rfl hF rfl (hs.bx 2 rfl) rfl rfl fun fr hF => ?_
           refine from_takeL hF rfl rfl rfl rfl rfl rfl ?_
           dsimp only [List.set]
           refine from_pure 1 [(1, B b1 0), (3, L a4 s1.2 c4), (4, L a3 x1 c3), (5, I s1.1), (19, L a3 x1 c3), (20, I (len x1)), (21, I s2.2), (26, .bool false), (30, .bool true), (31, .agg #[I p0.W, I p0.Mem, I p0.In, L a1 p0.Code c1]), (32, I x2)] hF (by kernel_rfl) fun fr hF => ?_
           refine from_takeL hF rfl rfl rfl rfl rfl rfl ?_
           dsimp only [List.set]
           obtain ⟨x3, hx3, h⟩ := bindE h
           refine s_call [.agg #[I p0.W, I p0.Mem, I p0.In, L a1 p0.Code c1], I x2] Try.call12 rfl rfl hF rfl (spec_NextOf_ok n p0 x2 hx3 (RV.mk_Program p0 (r1))) fun v w4 fr hRes hF => ?_
           obtain ⟨a6, c6, rfl, _, hp, hs2⟩ := hRes
           obtain ⟨S8, hp, hs⟩ := hs.got hM2 hp hs2
           have r1 := r1.stp hM2 hp
           have hM2 := hM2.stp hp
           have hs : Sep [sl3 (L a6 x3 c6) x3, sl3 (L a3 x1 c3) x1, sl3 (L a4 s1.2 c4) s1.2, BX b1 30 [I p0.W, I p0.Mem, I p0.In, L a1 p0.Code c1]] w4 S8 := hs
           refine from_takeL hF rfl rfl rfl rfl rfl rfl ?_
           dsimp only [List.set]
           refine from_pure 1 [(1, B b1 0), (3, L a4 s1.2 c4), (4, L a3 x1 c3), (5, I s1.1), (19, L a3 x1 c3), (20, I (len x1)), (21, I s2.2), (26, .bool false), (30, .bool true), (33, L a6 x3 c6), (34, I s1.1)] hF (by kernel_rfl) fun fr hF => ?_
           refine from_takeL hF rfl rfl rfl rfl rfl rfl ?_
           dsimp only [List.set]
           obtain ⟨x4, hx4, h⟩ := bindE h
           refine s_call [L a6 x3 c6, I s1.1] Try.call64 rfl rfl hF rfl (spec_l03Has_ok n x3 s1.1 hx4 (hs.rv 0 rfl)) fun v w5 fr hRes hF => ?_
           obtain ⟨rfl, hc⟩ := hRes
           have r1 := r1.ext hc
           have hs := hs.ext hc
           have hM2 := hM2.ext hc
           have hs : Sep [sl3 (L a3 x1 c3) x1, sl3 (L a4 s1.2 c4) s1.2, BX b1 30 [I p0.W, I p0.Mem, I p0.In, L a1 p0.Code c1]] w5 S8 := Sep.pick [1, 2, 3] hs (by decide) rfl
           refine from_takeL hF rfl rfl rfl rfl rfl rfl ?_
           dsimp only [List.set]
           refine from_pick rfl rfl hF rfl rfl fun fr hF => ?_
           refine from_pick rfl rfl hF rfl rfl fun fr hF => ?_
           refine from_pure 1 [(1, B b1 0), (3, L a4 s1.2 c4), (4, L a3 x1 c3), (5, I s1.1), (6, .bool x4), (19, L a3 x1 c3), (20, I (len x1)), (21, I s2.2)] hF (by kernel_rfl) fun fr hF => ?_
           refine from_end rfl ?_
           refine blk_normal (then_normal ?_)
           refine (wp_pure [(1, B b1 0), (3, L a4 s1.2 c4), (4, L a3 x1 c3), (5, I s1.1), (6, .bool x4), (19, L a3 x1 c3), (20, I (len x1)), (21, I (w64 (s2.2 + 1)))] hF (by kernel_rfl) fun fr hF => then_normal ?_)
           exact ⟨_, (Option.some.inj h).symm, S8, _, hF.sub _ (by kernel_rfl), hM2, hs⟩
         simp only [hg2] at hF
         refine from_skip hF rfl rfl rfl rfl rfl rfl rfl rfl rfl fun fr hF => ?_
         refine from_skip hF rfl rfl rfl rfl rfl rfl rfl rfl rfl fun fr hF => ?_
         refine from_skip hF rfl rfl rfl rfl rfl rfl rfl rfl rfl fun fr hF => ?_
         refine from_skip hF rfl rfl rfl rfl rfl rfl rfl rfl rfl fun fr hF => ?_
         refine from_skip hF rfl rfl rfl rfl rfl rfl rfl rfl rfl fun fr hF => ?_
         refine from_takeL hF rfl rfl rfl rfl rfl rfl ?_
         dsimp only [List.set]
         refine from_pick rfl rfl hF rfl rfl fun fr hF => ?_
         refine from_pick rfl rfl hF rfl rfl fun fr hF => ?_
         refine from_pure 1 [(1, B b1 0), (3, L a4 s1.2 c4), (4, L a3 x1 c3), (5, I s1.1), (6, .bool false), (19, L a3 x1 c3), (20, I (len x1)), (21, I s2.2)] hF (by kernel_rfl) fun fr hF => ?_
         refine from_end rfl ?_
         refine blk_normal (then_normal ?_)
         refine (wp_pure [(1, B b1 0), (3, L a4 s1.2 c4), (4, L a3 x1 c3), (5, I s1.1), (6, .bool false), (19, L a3 x1 c3), (20, I (len x1)), (21, I (w64 (s2.2 + 1)))] hF (by kernel_rfl) fun fr hF => then_normal ?_)
         exact ⟨_, (Option.some.inj h).symm, S6, _, hF.sub _ (by kernel_rfl), hM2, hs⟩
       replace h := iteF hb h
       refine (wp_exit (then_exit (then_exit (blk_exit_eq ?_))))
       obtain rfl := hr2 _ (Option.some.inj h).symm
       exact then_normal ⟨S6, _, hF.sub _ (by kernel_rfl), hM2, hs⟩
     · obtain ⟨S7, F4, hF, hMx, hs⟩ := hM
       have r1 := r1.mem hMx
       have hM1 := hM1.trans hMx
       refine wp_seq (wp_pure [(1, B b1 0), (3, L a4 s1.2 c4), (4, L a3 x1 c3), (5, I s1.1), (39, .bool rl2)] hF (by kernel_rfl) fun fr hF => then_normal ?_)
       refine (wp_if hF (b := rl2) rfl (fun hb => ?_) (fun hb => ?_))
       · replace h := iteT hb h
         refine (wp_text' ?_)
         refine from_pure 2 [(1, B b1 0), (4, L a3 x1 c3), (5, I s1.1), (40, L a4 s1.2 c4), (41, I s1.1)] hF (by kernel_rfl) fun fr hF => ?_
         refine q_lit (E := 3) hs hM1 [I s1.1] (([s1.1] : List Int).map Flat.enc) ([s1.1] : List Int) rfl rfl hF [I s1.1] rfl (fun w => by kernel_rfl) (css_flat _) rfl rfl rfl fun a7 c7 w6 S9 fr hs hp hF => ?_
         have r1 := r1.stp hM1 hp
         have hM1 := hM1.stp hp
         have hs : Sep [sl3 (L a7 ([s1.1] : List Int) c7) ([s1.1] : List Int), sl3 (L a3 x1 c3) x1, sl3 (L a4 s1.2 c4) s1.2, BX b1 30 [I p0.W, I p0.Mem, I p0.In, L a1 p0.Code c1]] w6 S9 := hs
         obtain ⟨x5, hx5, h⟩ := bindE h
         refine q_append 2 hs hM1 rfl Try.underlying26 el3 rfl rfl rfl hF rfl rfl (hs.rv 0 rfl) hx5 fun a8 c8 w7 S10 fr hs hp hF => ?_
         have r1 := r1.stp hM1 hp
         have hM1 := hM1.stp hp
         have hs : Sep [sl3 (L a7 ([s1.1] : List Int) c7) ([s1.1] : List Int), sl3 (L a3 x1 c3) x1, sl3 (L a8 x5 c8) x5, BX b1 30 [I p0.W, I p0.Mem, I p0.In, L a1 p0.Code c1]] w7 S10 := hs
         have hs : Sep [sl3 (L a3 x1 c3) x1, sl3 (L a8 x5 c8) x5, BX b1 30 [I p0.W, I p0.Mem, I p0.In, L a1 p0.Code c1]] w7 S10 := Sep.pick [1, 2, 3] hs (by decide) rfl
         refine from_pure 1 [(1, B b1 0), (3, L a8 x5 c8), (4, L a3 x1 c3), (5, I s1.1)] hF (by kernel_rfl) fun fr hF => ?_
         refine from_end rfl ?_
         refine blk_normal (then_normal ?_)
         refine (wp_pure [(1, B b1 0), (3, L a8 x5 c8), (4, L a3 x1 c3), (5, I (w64 (s1.1 + 1)))] hF (by kernel_rfl) fun fr hF => then_normal ?_)
         exact ⟨_, (Option.some.inj h).symm, a8, c8, S10, _, hF.sub _ (by kernel_rfl), hM1, hs⟩
       replace h := iteF hb h
       refine (wp_skip ?_)
       refine blk_normal (then_normal ?_)
       refine (wp_pure [(1, B b1 0), (3, L a4 s1.2 c4), (4, L a3 x1 c3), (5, I (w64 (s1.1 + 1)))] hF (by kernel_rfl) fun fr hF => then_normal ?_)
       exact ⟨_, (Option.some.inj h).symm, a4, c4, S7, _, hF.sub _ (by kernel_rfl), hM1, hs⟩
   replace h := iteF hb h
   have hs : Sep [sl3 (L a4 s1.2 c4) s1.2] w1i S4 := Sep.pick [1] hs (by decide) rfl
   refine (wp_exit (then_exit (then_exit (blk_exit_eq ?_))))
   obtain rfl := hr1 _ (Option.some.inj h).symm
   exact then_normal ⟨a4, c4, S4, _, hF.sub _ (by kernel_rfl), hM1, hs⟩
 · obtain ⟨a5, c5, S5, F2, hF, hMx, hs⟩ := hM
   have hM0 := hM0.trans hMx
   refine wp_seq (wp_pure [(2, L a5 rl1 c5)] hF (by kernel_rfl) fun fr hF => then_normal ?_)
   obtain rfl := Option.some.inj h
   exact wp_ret (ret1 rfl hF rfl ⟨_, rfl, a5, c5, rfl, S5, hM0.out, hs⟩)

theorem impl_shapeOk_ok (p0 : Int) (p1 : Int) {r : Bool} (h : impl_shapeOk p0 p1 = some r) {w : World} :
   Calls Try.prog 106 [I p0, I p1].toArray w fun e w' => ∃ v, e = .returned v ∧ v = .bool r ∧ Chg Non w w' := by
 unfold impl_shapeOk at h
 have hs := Sep.nil w Non
 have hM0 : Mem w Non (fun k => (False) ∧ k < w.heap.size) w Non (fun k => (False) ∧ k < w.heap.size) := Mem.start (fun _ h => h.elim) (fun _ h => h.2) (fun _ h => h.elim)
 refine enter (N := 19) Try.func106 rfl Try.ntmps106 rfl fun fr hF => ?_
 refine wp_seq (wp_pure [(0, I p0), (1, I p1)] hF (by kernel_rfl) fun fr hF => then_normal ?_)
 refine wp_seq (region_b [] [true, true, true, true, true, true, true, true, true, true, true, true, true, true, true]
     [.eq (I p0), .eq (.bool (decide (p0 ≥ 2))), .eq (.bool (decide (p0 ≥ 2))), .eq (I p0), .eq (.bool (decide (p0 ≤ 8))), .eq (.bool ((decide (p0 ≥ 2)) && (decide (p0 ≤ 8)))), .eq (.bool ((decide (p0 ≥ 2)) && (decide (p0 ≤ 8)))), .eq (I p1), .eq (.bool (decide (p1 ≥ 1))), .eq (.bool (((decide (p0 ≥ 2)) && (decide (p0 ≤ 8))) && (decide (p1 ≥ 1)))), .eq (.bool (((decide (p0 ≥ 2)) && (decide (p0 ≤ 8))) && (decide (p1 ≥ 1)))), .eq (I p1), .eq (.bool (decide (p1 ≤ 40))), .eq (.bool ((((decide (p0 ≥ 2)) && (decide (p0 ≤ 8))) && (decide (p1 ≥ 1))) && (decide (p1 ≤ 40)))), .eq (.bool ((((decide (p0 ≥ 2)) && (decide (p0 ≤ 8))) && (decide (p1 ≥ 1))) && (decide (p1 ≤ 40))))]
     [(4, .bool ((((decide (p0 ≥ 2)) && (decide (p0 ≤ 8))) && (decide (p1 ≥ 1))) && (decide (p1 ≤ 40))))] mix hF (by kernel_rfl) (by kernel_rfl) (by kernel_rfl) trivial (fun hG => trivial) (by kernel_rfl) fun fr w1 hF hE hc => then_normal ?_)
 have hs := hs.ext hc
 have hM0 := hM0.ext hc
 obtain rfl := Option.some.inj h
 exact wp_ret (ret1 rfl hF rfl ⟨_, rfl, rfl, hM0.chg⟩)

theorem impl_isWidth_ok (p0 : Int) {r : Bool} (h : impl_isWidth p0 = some r) {w : World} :
   Calls Try.prog 137 [I p0].toArray w fun e w' => ∃ v, e = .returned v ∧ v = .bool r ∧ Chg Non w w' := by
 unfold impl_isWidth at h
 have hs := Sep.nil w Non
 have hM0 : Mem w Non (fun k => (False) ∧ k < w.heap.size) w Non (fun k => (False) ∧ k < w.heap.size) := Mem.start (fun _ h => h.elim) (fun _ h => h.2) (fun _ h => h.elim)
 refine enter (N := 9) Try.func137 rfl Try.ntmps137 rfl fun fr hF => ?_
 refine wp_seq (wp_pure [(0, I p0)] hF (by kernel_rfl) fun fr hF => then_normal ?_)
 refine wp_seq (region_b [] [true, true, true, true, true, true, true]
     [.eq (I p0), .eq (.bool (decide (p0 ≥ 1))), .eq (.bool (decide (p0 ≥ 1))), .eq (I p0), .eq (.bool (decide (p0 ≤ 16))), .eq (.bool ((decide (p0 ≥ 1)) && (decide (p0 ≤ 16)))), .eq (.bool ((decide (p0 ≥ 1)) && (decide (p0 ≤ 16))))]
     [(2, .bool ((decide (p0 ≥ 1)) && (decide (p0 ≤ 16))))] mix hF (by kernel_rfl) (by kernel_rfl) (by kernel_rfl) trivial (fun hG => trivial) (by kernel_rfl) fun fr w1 hF hE hc => then_normal ?_)
 have hs := hs.ext hc
 have hM0 := hM0.ext hc
 obtain rfl := Option.some.inj h
 exact wp_ret (ret1 rfl hF rfl ⟨_, rfl, rfl, hM0.chg⟩)

theorem impl_WordOk_ok (p0 : Int) (p1 : Int) {r : Bool} (h : impl_WordOk p0 p1 = some r) {w : World} :
   Calls Try.prog 107 [I p0, I p1].toArray w fun e w' => ∃ v, e = .returned v ∧ v = .bool r ∧ Chg Non w w' := by
 unfold impl_WordOk at h
 have hs := Sep.nil w Non
 have hM0 : Mem w Non (fun k => (False) ∧ k < w.heap.size) w Non (fun k => (False) ∧ k < w.heap.size) := Mem.start (fun _ h => h.elim) (fun _ h => h.2) (fun _ h => h.elim)
 refine enter (N := 18) Try.func107 rfl Try.ntmps107 rfl fun fr hF => ?_
 refine wp_seq (wp_pure [(0, I p0), (1, I p1)] hF (by kernel_rfl) fun fr hF => then_normal ?_)
 obtain ⟨x1, hx1, h⟩ := bindE h
 obtain ⟨x2, hx2, h⟩ := bindE h
 refine wp_seq (region_b [] [true, false, true, true, true, true, true, true, true, true, false, true, true, true]
     [.eq (I p0), .eq (.bool x1), .eq (.bool x1), .eq (I p1), .eq (.bool (decide (p1 ≥ 0))), .eq (.bool (x1 && (decide (p1 ≥ 0)))), .eq (.bool (x1 && (decide (p1 ≥ 0)))), .eq (I p1), .eq (I p0), .eq (.int .u64 (IntKind.u64.wrap p0)), .eq (I x2), .eq (.bool (decide (p1 < x2))), .eq (.bool ((x1 && (decide (p1 ≥ 0))) && (decide (p1 < x2)))), .eq (.bool ((x1 && (decide (p1 ≥ 0))) && (decide (p1 < x2))))]
     [(4, .bool ((x1 && (decide (p1 ≥ 0))) && (decide (p1 < x2))))] mix hF (by kernel_rfl) (by kernel_rfl) (by kernel_rfl) ⟨Pd.mono_eq, Pd.mono_eq, trivial⟩ (fun hG => ⟨np_call [I p0] hG hF Try.call137 rfl rfl (fun w hC hg => (impl_isWidth_ok p0 hx1).mono fun e w' ⟨v, he, hv, hc⟩ => ⟨v, he, hc, hv⟩), np_shl hG hF rfl rfl rfl (fun hg => (iteT hg.2 hx2)) rfl, trivial⟩) (by kernel_rfl) fun fr w1 hF hE hc => then_normal ?_)
 have hs := hs.ext hc
 have hM0 := hM0.ext hc
 obtain rfl := Option.some.inj h
 exact wp_ret (ret1 rfl hF rfl ⟨_, rfl, rfl, hM0.chg⟩)

theorem impl_isReg_ok (p0 : Int) {r : Bool} (h : impl_isReg p0 = some r) {w : World} :
   Calls Try.prog 138 [I p0].toArray w fun e w' => ∃ v, e = .returned v ∧ v = .bool r ∧ Chg Non w w' := by
 unfold impl_isReg at h
 have hs := Sep.nil w Non
 have hM0 : Mem w Non (fun k => (False) ∧ k < w.heap.size) w Non (fun k => (False) ∧ k < w.heap.size) := Mem.start (fun _ h => h.elim) (fun _ h => h.2) (fun _ h => h.elim)
 refine enter (N := 9) Try.func138 rfl Try.ntmps138 rfl fun fr hF => ?_
 refine wp_seq (wp_pure [(0, I p0)] hF (by kernel_rfl) fun fr hF => then_normal ?_)
 refine wp_seq (region_b [] [true, true, true, true, true, true, true]
     [.eq (I p0), .eq (.bool (decide (p0 ≥ 0))), .eq (.bool (decide (p0 ≥ 0))), .eq (I p0), .eq (.bool (decide (p0 < 4))), .eq (.bool ((decide (p0 ≥ 0)) && (decide (p0 < 4)))), .eq (.bool ((decide (p0 ≥ 0)) && (decide (p0 < 4))))]
     [(2, .bool ((decide (p0 ≥ 0)) && (decide (p0 < 4))))] mix hF (by kernel_rfl) (by kernel_rfl) (by kernel_rfl) trivial (fun hG => trivial) (by kernel_rfl) fun fr w1 hF hE hc => then_normal ?_)
 have hs := hs.ext hc
 have hM0 := hM0.ext hc
 obtain rfl := Option.some.inj h
 exact wp_ret (ret1 rfl hF rfl ⟨_, rfl, rfl, hM0.chg⟩)

theorem impl_isTwoWords_ok (p0 : Int) {r : Bool} (h : impl_isTwoWords p0 = some r) {w : World} :
   Calls Try.prog 139 [I p0].toArray w fun e w' => ∃ v, e = .returned v ∧ v = .bool r ∧ Chg Non w w' := by
 unfold impl_isTwoWords at h
 have hs := Sep.nil w Non
 have hM0 : Mem w Non (fun k => (False) ∧ k < w.heap.size) w Non (fun k => (False) ∧ k < w.heap.size) := Mem.start (fun _ h => h.elim) (fun _ h => h.2) (fun _ h => h.elim)
 refine enter (N := 9) Try.func139 rfl Try.ntmps139 rfl fun fr hF => ?_
 refine wp_seq (wp_pure [(0, I p0)] hF (by kernel_rfl) fun fr hF => then_normal ?_)
 refine wp_seq (region_b [] [true, true, true, true, true, true, true]
     [.eq (I p0), .eq (.bool (decide (p0 ≥ 3))), .eq (.bool (decide (p0 ≥ 3))), .eq (I p0), .eq (.bool (decide (p0 ≤ 16))), .eq (.bool ((decide (p0 ≥ 3)) && (decide (p0 ≤ 16)))), .eq (.bool ((decide (p0 ≥ 3)) && (decide (p0 ≤ 16))))]
     [(2, .bool ((decide (p0 ≥ 3)) && (decide (p0 ≤ 16))))] mix hF (by kernel_rfl) (by kernel_rfl) (by kernel_rfl) trivial (fun hG => trivial) (by kernel_rfl) fun fr w1 hF hE hc => then_normal ?_)
 have hs := hs.ext hc
 have hM0 := hM0.ext hc
 obtain rfl := Option.some.inj h
 exact wp_ret (ret1 rfl hF rfl ⟨_, rfl, rfl, hM0.chg⟩)

theorem impl_insOk_ok (p0 : D.Ins) (p1 : Int) (p2 : Int) {r : Bool} (h : impl_insOk p0 p1 p2 = some r) {w : World} :
   Calls Try.prog 108 [.agg #[I p0.Op, I p0.A, I p0.B, I p0.C], I p1, I p2].toArray w fun e w' => ∃ v, e = .returned v ∧ v = .bool r ∧ Chg Non w w' := by
 unfold impl_insOk at h
 have hs := Sep.nil w Non
 have hM0 : Mem w Non (fun k => (False) ∧ k < w.heap.size) w Non (fun k => (False) ∧ k < w.heap.size) := Mem.start (fun _ h => h.elim) (fun _ h => h.2) (fun _ h => h.elim)
 refine enter (N := 102) Try.func108 rfl Try.ntmps108 rfl fun fr hF => ?_
 refine wp_seq (wp_text' ?_)
 refine q_box hs hM0 [I p0.Op, I p0.A, I p0.B, I p0.C] rfl rfl hF rfl rfl fun b1 w1 S1 fr hs hp hF => ?_
 have hM0 := hM0.stp hp
 have hs : Sep [BX b1 90 [I p0.Op, I p0.A, I p0.B, I p0.C]] w1 S1 := hs
 refine from_pure 1 [(1, I p1), (2, I p2), (3, B b1 0)] hF (by kernel_rfl) fun fr hF => ?_
 refine from_end rfl (then_normal ?_)
 refine wp_seq (region_b [] [true, false, true, true, true, false, true, true, true, true]
     [.eq (B b1 2), .eq (I p0.B), .eq (.bool (decide (p0.B ≥ 0))), .eq (.bool (decide (p0.B ≥ 0))), .eq (B b1 2), .eq (I p0.B), .eq (I p2), .eq (.bool (decide (p0.B ≤ p2))), .eq (.bool ((decide (p0.B ≥ 0)) && (decide (p0.B ≤ p2)))), .eq (.bool ((decide (p0.B ≥ 0)) && (decide (p0.B ≤ p2))))]
     [(1, I p1), (3, B b1 0), (7, .bool ((decide (p0.B ≥ 0)) && (decide (p0.B ≤ p2))))] mix hF (by kernel_rfl) (by kernel_rfl) (by kernel_rfl) ⟨Pd.mono_eq, Pd.mono_eq, trivial⟩ (fun hG => ⟨np_loadBox hG hF ty3 rfl rfl (hs.bx 0 rfl) rfl rfl rfl, np_loadBox hG hF ty3 rfl rfl (hs.bx 0 rfl) rfl rfl rfl, trivial⟩) (by kernel_rfl) fun fr w2 hF hE hc => then_normal ?_)
 have hs := hs.ext hc
 have hM0 := hM0.ext hc
 refine wp_seq ?_
 refine wp_seq (wp_text' ?_)
 refine from_pure 1 [(1, I p1), (3, B b1 0), (7, .bool ((decide (p0.B ≥ 0)) && (decide (p0.B ≤ p2)))), (17, B b1 0)] hF (by kernel_rfl) fun fr hF => ?_
 refine s_loadBox (I p0.Op) ty3 rfl rfl hF rfl (hs.bx 0 rfl) rfl rfl fun fr hF => ?_
 refine from_pure 1 [(1, I p1), (3, B b1 0), (7, .bool ((decide (p0.B ≥ 0)) && (decide (p0.B ≤ p2)))), (19, .bool (p0.Op == 3))] hF (by kernel_rfl) fun fr hF => ?_
 refine from_end rfl (then_normal ?_)
 refine (wp_if hF (b := (p0.Op == 3)) rfl (fun hb => ?_) (fun hb => ?_))
 · replace h := iteT hb h
   obtain ⟨x1, hx1, h⟩ := bindE h
   obtain ⟨x2, hx2, h⟩ := bindE h
   obtain ⟨x3, hx3, h⟩ := bindE h
   refine wp_seq (region_b [] [true, false, false, true, true, false, false, true, true, true, false, false, true, true]
       [.eq (B b1 1), .eq (I p0.A), .eq (.bool x1), .eq (.bool x1), .eq (B b1 2), .eq (I p0.B), .eq (.bool x2), .eq (.bool (x1 && x2)), .eq (.bool (x1 && x2)), .eq (B b1 3), .eq (I p0.C), .eq (.bool x3), .eq (.bool ((x1 && x2) && x3)), .eq (.bool ((x1 && x2) && x3))]
       [(6, .bool ((x1 && x2) && x3))] mix hF (by kernel_rfl) (by kernel_rfl) (by kernel_rfl) ⟨Pd.mono_eq, Pd.mono_eq, Pd.mono_eq, Pd.mono_eq, Pd.mono_eq, Pd.mono_eq, trivial⟩ (fun hG => ⟨np_loadBox hG hF ty3 rfl rfl (hs.bx 0 rfl) rfl rfl rfl, np_call [I p0.A] hG hF Try.call138 rfl rfl (fun w hC hg => (impl_isReg_ok p0.A hx1).mono fun e w' ⟨v, he, hv, hc⟩ => ⟨v, he, hc, hv⟩), np_loadBox hG hF ty3 rfl rfl (hs.bx 0 rfl) rfl rfl rfl, np_call [I p0.B] hG hF Try.call138 rfl rfl (fun w hC hg => (impl_isReg_ok p0.B (iteT hg.2 hx2)).mono fun e w' ⟨v, he, hv, hc⟩ => ⟨v, he, hc, hv⟩), np_loadBox hG hF ty3 rfl rfl (hs.bx 0 rfl) rfl rfl rfl, np_call [I p0.C] hG hF Try.call139 rfl rfl (fun w hC hg => (impl_isTwoWords_ok p0.C (iteT hg.2 hx3)).mono fun e w' ⟨v, he, hv, hc⟩ => ⟨v, he, hc, hv⟩), trivial⟩) (by kernel_rfl) fun fr w3 hF hE hc => then_normal ?_)
   have hs := hs.ext hc
   have hM0 := hM0.ext hc
   have hs : Sep [] w3 S1 := Sep.pick [] hs (by decide) rfl
   obtain rfl := Option.some.inj h
   exact wp_ret (then_ret (ret1 rfl hF rfl ⟨_, rfl, rfl, hM0.chg⟩))
 replace h := iteF hb h
 refine (wp_skip (then_normal ?_))
 refine wp_seq ?_
 refine wp_seq (wp_text' ?_)
 refine from_pure 1 [(1, I p1), (3, B b1 0), (7, .bool ((decide (p0.B ≥ 0)) && (decide (p0.B ≤ p2)))), (33, B b1 3)] hF (by kernel_rfl) fun fr hF => ?_
 refine s_loadBox (I p0.C) ty3 rfl rfl hF rfl (hs.bx 0 rfl) rfl rfl fun fr hF => ?_
 refine from_pure 1 [(1, I p1), (3, B b1 0), (7, .bool ((decide (p0.B ≥ 0)) && (decide (p0.B ≤ p2)))), (35, .bool (p0.C != 0))] hF (by kernel_rfl) fun fr hF => ?_
 refine from_end rfl (then_normal ?_)
 refine (wp_if hF (b := (p0.C != 0)) rfl (fun hb => ?_) (fun hb => ?_))
 · replace h := iteT hb h
   have hs : Sep [] w2 S1 := Sep.pick [] hs (by decide) rfl
   refine wp_seq (wp_pure [(6, .bool false)] hF (by kernel_rfl) fun fr hF => then_normal ?_)
   obtain rfl := Option.some.inj h
   exact wp_ret (then_ret (ret1 rfl hF rfl ⟨_, rfl, rfl, hM0.chg⟩))
 replace h := iteF hb h
 refine (wp_skip (then_normal ?_))
 refine wp_seq ?_
 refine wp_seq (wp_text' ?_)
 refine from_pure 1 [(1, I p1), (3, B b1 0), (7, .bool ((decide (p0.B ≥ 0)) && (decide (p0.B ≤ p2)))), (36, B b1 0)] hF (by kernel_rfl) fun fr hF => ?_
 refine s_loadBox (I p0.Op) ty3 rfl rfl hF rfl (hs.bx 0 rfl) rfl rfl fun fr hF => ?_
 refine from_end rfl (then_normal ?_)
 refine (wp_block ?_)
 refine wp_seq (wp_pure [(1, I p1), (3, B b1 0), (7, .bool ((decide (p0.B ≥ 0)) && (decide (p0.B ≤ p2)))), (37, I p0.Op), (38, .bool (p0.Op == 1))] hF (by kernel_rfl) fun fr hF => then_normal ?_)
 refine (wp_if hF (b := (p0.Op == 1)) rfl (fun hb => ?_) (fun hb => ?_))
 · replace h := iteT hb h
   obtain ⟨x4, hx4, h⟩ := bindE h
   obtain ⟨x5, hx5, h⟩ := bindE h
   refine wp_seq (region_b [] [true, false, false, true, true, true, false, false, true, true]
       [.eq (B b1 1), .eq (I p0.A), .eq (.bool x4), .eq (.bool x4), .eq (I p1), .eq (B b1 2), .eq (I p0.B), .eq (.bool x5), .eq (.bool (x4 && x5)), .eq (.bool (x4 && x5))]
       [(6, .bool (x4 && x5))] mix hF (by kernel_rfl) (by kernel_rfl) (by kernel_rfl) ⟨Pd.mono_eq, Pd.mono_eq, Pd.mono_eq, Pd.mono_eq, trivial⟩ (fun hG => ⟨np_loadBox hG hF ty3 rfl rfl (hs.bx 0 rfl) rfl rfl rfl, np_call [I p0.A] hG hF Try.call138 rfl rfl (fun w hC hg => (impl_isReg_ok p0.A hx4).mono fun e w' ⟨v, he, hv, hc⟩ => ⟨v, he, hc, hv⟩), np_loadBox hG hF ty3 rfl rfl (hs.bx 0 rfl) rfl rfl rfl, np_call [I p1, I p0.B] hG hF Try.call107 rfl rfl (fun w hC hg => (impl_WordOk_ok p1 p0.B (iteT hg.2 hx5)).mono fun e w' ⟨v, he, hv, hc⟩ => ⟨v, he, hc, hv⟩), trivial⟩) (by kernel_rfl) fun fr w4 hF hE hc => then_normal ?_)
   have hs := hs.ext hc
   have hM0 := hM0.ext hc
   have hs : Sep [] w4 S1 := Sep.pick [] hs (by decide) rfl
   obtain rfl := Option.some.inj h
   exact wp_ret (blk_ret (then_ret (ret1 rfl hF rfl ⟨_, rfl, rfl, hM0.chg⟩)))
 replace h := iteF hb h
 refine wp_seq ?_
 refine wp_seq (wp_pure [(3, B b1 0), (7, .bool ((decide (p0.B ≥ 0)) && (decide (p0.B ≤ p2)))), (37, I p0.Op), (49, .bool (p0.Op == 2))] hF (by kernel_rfl) fun fr hF => then_normal ?_)
 refine (wp_if hF (b := (p0.Op == 2)) rfl (fun hb => ?_) (fun hb => ?_))
 · replace h := iteT hb h
   refine (wp_skip (then_normal ?_))
   refine (wp_if hF (b := (p0.Op == 2)) rfl (fun hb => ?_) (fun hb => ?_))
   · replace h := iteT hb h
     obtain ⟨x6, hx6, h⟩ := bindE h
     obtain ⟨x7, hx7, h⟩ := bindE h
     refine wp_seq (region_b [] [true, false, false, true, true, false, false, true, true]
         [.eq (B b1 1), .eq (I p0.A), .eq (.bool x6), .eq (.bool x6), .eq (B b1 2), .eq (I p0.B), .eq (.bool x7), .eq (.bool (x6 && x7)), .eq (.bool (x6 && x7))]
         [(6, .bool (x6 && x7))] mix hF (by kernel_rfl) (by kernel_rfl) (by kernel_rfl) ⟨Pd.mono_eq, Pd.mono_eq, Pd.mono_eq, Pd.mono_eq, trivial⟩ (fun hG => ⟨np_loadBox hG hF ty3 rfl rfl (hs.bx 0 rfl) rfl rfl rfl, np_call [I p0.A] hG hF Try.call138 rfl rfl (fun w hC hg => (impl_isReg_ok p0.A hx6).mono fun e w' ⟨v, he, hv, hc⟩ => ⟨v, he, hc, hv⟩), np_loadBox hG hF ty3 rfl rfl (hs.bx 0 rfl) rfl rfl rfl, np_call [I p0.B] hG hF Try.call138 rfl rfl (fun w hC hg => (impl_isReg_ok p0.B (iteT hg.2 hx7)).mono fun e w' ⟨v, he, hv, hc⟩ => ⟨v, he, hc, hv⟩), trivial⟩) (by kernel_rfl) fun fr w5 hF hE hc => then_normal ?_)
     have hs := hs.ext hc
     have hM0 := hM0.ext hc
     have hs : Sep [] w5 S1 := Sep.pick [] hs (by decide) rfl
     obtain rfl := Option.some.inj h
     exact wp_ret (blk_ret (then_ret (ret1 rfl hF rfl ⟨_, rfl, rfl, hM0.chg⟩)))
   replace h := iteF hb h
   refine wp_seq ?_
   refine wp_seq (wp_pure [(3, B b1 0), (7, .bool ((decide (p0.B ≥ 0)) && (decide (p0.B ≤ p2)))), (37, I p0.Op), (61, .bool (p0.Op == 4))] hF (by kernel_rfl) fun fr hF => then_normal ?_)
   refine (wp_if hF (b := (p0.Op == 4)) rfl (fun hb => ?_) (fun hb => ?_))
   · replace h := iteT hb h
     refine (wp_skip (then_normal ?_))
     refine (wp_if hF (b := (p0.Op == 4)) rfl (fun hb => ?_) (fun hb => ?_))
     · replace h := iteT hb h
       obtain ⟨x8, hx8, h⟩ := bindE h
       refine wp_seq (region_b [] [true, false, false, true, true, false, true, true, true]
           [.eq (B b1 1), .eq (I p0.A), .eq (.bool x8), .eq (.bool x8), .eq (B b1 2), .eq (I p0.B), .eq (.bool (p0.B == 0)), .eq (.bool (x8 && (p0.B == 0))), .eq (.bool (x8 && (p0.B == 0)))]
           [(6, .bool (x8 && (p0.B == 0)))] mix hF (by kernel_rfl) (by kernel_rfl) (by kernel_rfl) ⟨Pd.mono_eq, Pd.mono_eq, Pd.mono_eq, trivial⟩ (fun hG => ⟨np_loadBox hG hF ty3 rfl rfl (hs.bx 0 rfl) rfl rfl rfl, np_call [I p0.A] hG hF Try.call138 rfl rfl (fun w hC hg => (impl_isReg_ok p0.A hx8).mono fun e w' ⟨v, he, hv, hc⟩ => ⟨v, he, hc, hv⟩), np_loadBox hG hF ty3 rfl rfl (hs.bx 0 rfl) rfl rfl rfl, trivial⟩) (by kernel_rfl) fun fr w6 hF hE hc => then_normal ?_)
       have hs := hs.ext hc
       have hM0 := hM0.ext hc
       have hs : Sep [] w6 S1 := Sep.pick [] hs (by decide) rfl
       obtain rfl := Option.some.inj h
       exact wp_ret (blk_ret (then_ret (ret1 rfl hF rfl ⟨_, rfl, rfl, hM0.chg⟩)))
     replace h := iteF hb h
     refine wp_seq ?_
     refine wp_seq (wp_pure [(3, B b1 0), (7, .bool ((decide (p0.B ≥ 0)) && (decide (p0.B ≤ p2)))), (37, I p0.Op), (74, .bool (p0.Op == 9))] hF (by kernel_rfl) fun fr hF => then_normal ?_)
     refine (wp_merge [(3, B b1 0), (7, .bool ((decide (p0.B ≥ 0)) && (decide (p0.B ≤ p2)))), (37, I p0.Op), (74, .bool ((p0.Op == 9) || (p0.Op == 11)))] hF (b := (p0.Op == 9)) rfl (fun hb => ?_) (fun hb => ?_) fun fr hF => then_normal ?_)
     · exact wp_skip ⟨rfl, rfl, (hF.sub [(3, B b1 0), (7, .bool ((decide (p0.B ≥ 0)) && (decide (p0.B ≤ p2)))), (37, I p0.Op), (74, .bool (p0.Op == 9))] (by kernel_rfl)).eqs (by first | (simp only [hb]; done) | (simp only [hb]; rfl))⟩
     · exact wp_pure [(3, B b1 0), (7, .bool ((decide (p0.B ≥ 0)) && (decide (p0.B ≤ p2)))), (37, I p0.Op), (74, .bool (p0.Op == 11))] hF (by kernel_rfl) fun fr hF => ⟨rfl, rfl, hF.eqs (by first | (simp only [hb]; done) | (simp only [hb]; rfl))⟩
     refine (wp_if hF (b := ((p0.Op == 9) || (p0.Op == 11))) rfl (fun hb => ?_) (fun hb => ?_))
     · replace h := iteT hb h
       refine wp_seq (region_b [] [true, false, true, true, true, true, true]
           [.eq (B b1 1), .eq (I p0.A), .eq (.bool (p0.A == 0)), .eq (.bool (p0.A == 0)), .eq (.bool ((decide (p0.B ≥ 0)) && (decide (p0.B ≤ p2)))), .eq (.bool ((p0.A == 0) && ((decide (p0.B ≥ 0)) && (decide (p0.B ≤ p2))))), .eq (.bool ((p0.A == 0) && ((decide (p0.B ≥ 0)) && (decide (p0.B ≤ p2)))))]
           [(6, .bool ((p0.A == 0) && ((decide (p0.B ≥ 0)) && (decide (p0.B ≤ p2)))))] mix hF (by kernel_rfl) (by kernel_rfl) (by kernel_rfl) ⟨Pd.mono_eq, trivial⟩ (fun hG => ⟨np_loadBox hG hF ty3 rfl rfl (hs.bx 0 rfl) rfl rfl rfl, trivial⟩) (by kernel_rfl) fun fr w7 hF hE hc => then_normal ?_)
       have hs := hs.ext hc
       have hM0 := hM0.ext hc
       have hs : Sep [] w7 S1 := Sep.pick [] hs (by decide) rfl
       obtain rfl := Option.some.inj h
       exact wp_ret (blk_ret (then_ret (ret1 rfl hF rfl ⟨_, rfl, rfl, hM0.chg⟩)))
     replace h := iteF hb h
     refine wp_seq (wp_pure [(3, B b1 0), (7, .bool ((decide (p0.B ≥ 0)) && (decide (p0.B ≤ p2)))), (37, I p0.Op), (83, .bool (p0.Op == 10))] hF (by kernel_rfl) fun fr hF => then_normal ?_)
     refine (wp_if hF (b := (p0.Op == 10)) rfl (fun hb => ?_) (fun hb => ?_))
     · replace h := iteT hb h
       obtain ⟨x9, hx9, h⟩ := bindE h
       refine wp_seq (region_b [] [true, false, false, true, true, true, true]
           [.eq (B b1 1), .eq (I p0.A), .eq (.bool x9), .eq (.bool x9), .eq (.bool ((decide (p0.B ≥ 0)) && (decide (p0.B ≤ p2)))), .eq (.bool (x9 && ((decide (p0.B ≥ 0)) && (decide (p0.B ≤ p2))))), .eq (.bool (x9 && ((decide (p0.B ≥ 0)) && (decide (p0.B ≤ p2)))))]
           [(6, .bool (x9 && ((decide (p0.B ≥ 0)) && (decide (p0.B ≤ p2)))))] mix hF (by kernel_rfl) (by kernel_rfl) (by kernel_rfl) ⟨Pd.mono_eq, Pd.mono_eq, trivial⟩ (fun hG => ⟨np_loadBox hG hF ty3 rfl rfl (hs.bx 0 rfl) rfl rfl rfl, np_call [I p0.A] hG hF Try.call138 rfl rfl (fun w hC hg => (impl_isReg_ok p0.A hx9).mono fun e w' ⟨v, he, hv, hc⟩ => ⟨v, he, hc, hv⟩), trivial⟩) (by kernel_rfl) fun fr w8 hF hE hc => then_normal ?_)
       have hs := hs.ext hc
       have hM0 := hM0.ext hc
       have hs : Sep [] w8 S1 := Sep.pick [] hs (by decide) rfl
       obtain rfl := Option.some.inj h
       exact wp_ret (blk_ret (then_ret (ret1 rfl hF rfl ⟨_, rfl, rfl, hM0.chg⟩)))
     replace h := iteF hb h
     refine wp_seq ?_
     refine wp_seq (wp_pure [(3, B b1 0), (37, I p0.Op), (91, .bool (p0.Op == 12))] hF (by kernel_rfl) fun fr hF => then_normal ?_)
     refine (wp_merge [(3, B b1 0), (91, .bool ((p0.Op == 12) || (p0.Op == 14)))] hF (b := (p0.Op == 12)) rfl (fun hb => ?_) (fun hb => ?_) fun fr hF => then_normal ?_)
     · exact wp_skip ⟨rfl, rfl, (hF.sub [(3, B b1 0), (91, .bool (p0.Op == 12))] (by kernel_rfl)).eqs (by first | (simp only [hb]; done) | (simp only [hb]; rfl))⟩
     · exact wp_pure [(3, B b1 0), (91, .bool (p0.Op == 14))] hF (by kernel_rfl) fun fr hF => ⟨rfl, rfl, hF.eqs (by first | (simp only [hb]; done) | (simp only [hb]; rfl))⟩
     refine (wp_if hF (b := ((p0.Op == 12) || (p0.Op == 14))) rfl (fun hb => ?_) (fun hb => ?_))
     · replace h := iteT hb h
       refine wp_seq (region_b [] [true, false, true, true, true, false, true, true, true]
           [.eq (B b1 1), .eq (I p0.A), .eq (.bool (p0.A == 0)), .eq (.bool (p0.A == 0)), .eq (B b1 2), .eq (I p0.B), .eq (.bool (p0.B == 0)), .eq (.bool ((p0.A == 0) && (p0.B == 0))), .eq (.bool ((p0.A == 0) && (p0.B == 0)))]
           [(6, .bool ((p0.A == 0) && (p0.B == 0)))] mix hF (by kernel_rfl) (by kernel_rfl) (by kernel_rfl) ⟨Pd.mono_eq, Pd.mono_eq, trivial⟩ (fun hG => ⟨np_loadBox hG hF ty3 rfl rfl (hs.bx 0 rfl) rfl rfl rfl, np_loadBox hG hF ty3 rfl rfl (hs.bx 0 rfl) rfl rfl rfl, trivial⟩) (by kernel_rfl) fun fr w9 hF hE hc => then_normal ?_)
       have hs := hs.ext hc
       have hM0 := hM0.ext hc
       have hs : Sep [] w9 S1 := Sep.pick [] hs (by decide) rfl
       obtain rfl := Option.some.inj h
       exact wp_ret (blk_ret (then_ret (ret1 rfl hF rfl ⟨_, rfl, rfl, hM0.chg⟩)))
     replace h := iteF hb h
     have hs : Sep [] w2 S1 := Sep.pick [] hs (by decide) rfl
     refine (wp_skip ?_)
     refine blk_normal (then_normal ?_)
     refine wp_seq (wp_pure [(6, .bool false)] hF (by kernel_rfl) fun fr hF => then_normal ?_)
     obtain rfl := Option.some.inj h
     exact wp_ret (ret1 rfl hF rfl ⟨_, rfl, rfl, hM0.chg⟩)
   replace h := iteF hb h
   refine wp_seq (wp_pure [(3, B b1 0), (7, .bool ((decide (p0.B ≥ 0)) && (decide (p0.B ≤ p2)))), (37, I p0.Op), (61, .bool (p0.Op == 5))] hF (by kernel_rfl) fun fr hF => then_normal ?_)
   refine (wp_if hF (b := (p0.Op == 5)) rfl (fun hb => ?_) (fun hb => ?_))
   · replace h := iteT hb h
     refine (wp_skip (then_normal ?_))
     refine (wp_if hF (b := (p0.Op == 5)) rfl (fun hb => ?_) (fun hb => ?_))
     · replace h := iteT hb h
       obtain ⟨x10, hx10, h⟩ := bindE h
       refine wp_seq (region_b [] [true, false, false, true, true, false, true, true, true]
           [.eq (B b1 1), .eq (I p0.A), .eq (.bool x10), .eq (.bool x10), .eq (B b1 2), .eq (I p0.B), .eq (.bool (p0.B == 0)), .eq (.bool (x10 && (p0.B == 0))), .eq (.bool (x10 && (p0.B == 0)))]
           [(6, .bool (x10 && (p0.B == 0)))] mix hF (by kernel_rfl) (by kernel_rfl) (by kernel_rfl) ⟨Pd.mono_eq, Pd.mono_eq, Pd.mono_eq, trivial⟩ (fun hG => ⟨np_loadBox hG hF ty3 rfl rfl (hs.bx 0 rfl) rfl rfl rfl, np_call [I p0.A] hG hF Try.call138 rfl rfl (fun w hC hg => (impl_isReg_ok p0.A hx10).mono fun e w' ⟨v, he, hv, hc⟩ => ⟨v, he, hc, hv⟩), np_loadBox hG hF ty3 rfl rfl (hs.bx 0 rfl) rfl rfl rfl, trivial⟩) (by kernel_rfl) fun fr w10 hF hE hc => then_normal ?_)
       have hs := hs.ext hc
       have hM0 := hM0.ext hc
       have hs : Sep [] w10 S1 := Sep.pick [] hs (by decide) rfl
       obtain rfl := Option.some.inj h
       exact wp_ret (blk_ret (then_ret (ret1 rfl hF rfl ⟨_, rfl, rfl, hM0.chg⟩)))
     replace h := iteF hb h
     refine wp_seq ?_
     refine wp_seq (wp_pure [(3, B b1 0), (7, .bool ((decide (p0.B ≥ 0)) && (decide (p0.B ≤ p2)))), (37, I p0.Op), (74, .bool (p0.Op == 9))] hF (by kernel_rfl) fun fr hF => then_normal ?_)
     refine (wp_merge [(3, B b1 0), (7, .bool ((decide (p0.B ≥ 0)) && (decide (p0.B ≤ p2)))), (37, I p0.Op), (74, .bool ((p0.Op == 9) || (p0.Op == 11)))] hF (b := (p0.Op == 9)) rfl (fun hb => ?_) (fun hb => ?_) fun fr hF => then_normal ?_)
     · exact wp_skip ⟨rfl, rfl, (hF.sub [(3, B b1 0), (7, .bool ((decide (p0.B ≥ 0)) && (decide (p0.B ≤ p2)))), (37, I p0.Op), (74, .bool (p0.Op == 9))] (by kernel_rfl)).eqs (by first | (simp only [hb]; done) | (simp only [hb]; rfl))⟩
     · exact wp_pure [(3, B b1 0), (7, .bool ((decide (p0.B ≥ 0)) && (decide (p0.B ≤ p2)))), (37, I p0.Op), (74, .bool (p0.Op == 11))] hF (by kernel_rfl) fun fr hF => ⟨rfl, rfl, hF.eqs (by first | (simp only [hb]; done) | (simp only [hb]; rfl))⟩
     refine (wp_if hF (b := ((p0.Op == 9) || (p0.Op == 11))) rfl (fun hb => ?_) (fun hb => ?_))
     · replace h := iteT hb h
       refine wp_seq (region_b [] [true, false, true, true, true, true, true]
           [.eq (B b1 1), .eq (I p0.A), .eq (.bool (p0.A == 0)), .eq (.bool (p0.A == 0)), .eq (.bool ((decide (p0.B ≥ 0)) && (decide (p0.B ≤ p2)))), .eq (.bool ((p0.A == 0) && ((decide (p0.B ≥ 0)) && (decide (p0.B ≤ p2))))), .eq (.bool ((p0.A == 0) && ((decide (p0.B ≥ 0)) && (decide (p0.B ≤ p2)))))]
           [(6, .bool ((p0.A == 0) && ((decide (p0.B ≥ 0)) && (decide (p0.B ≤ p2)))))] mix hF (by kernel_rfl) (by kernel_rfl) (by kernel_rfl) ⟨Pd.mono_eq, trivial⟩ (fun hG => ⟨np_loadBox hG hF ty3 rfl rfl (hs.bx 0 rfl) rfl rfl rfl, trivial⟩) (by kernel_rfl) fun fr w11 hF hE hc => then_normal ?_)
       have hs := hs.ext hc
       have hM0 := hM0.ext hc
       have hs : Sep [] w11 S1 := Sep.pick [] hs (by decide) rfl
       obtain rfl := Option.some.inj h
       exact wp_ret (blk_ret (then_ret (ret1 rfl hF rfl ⟨_, rfl, rfl, hM0.chg⟩)))
     replace h := iteF hb h
     refine wp_seq (wp_pure [(3, B b1 0), (7, .bool ((decide (p0.B ≥ 0)) && (decide (p0.B ≤ p2)))), (37, I p0.Op), (83, .bool (p0.Op == 10))] hF (by kernel_rfl) fun fr hF => then_normal ?_)
     refine (wp_if hF (b := (p0.Op == 10)) rfl (fun hb => ?_) (fun hb => ?_))
     · replace h := iteT hb h
       obtain ⟨x11, hx11, h⟩ := bindE h
       refine wp_seq (region_b [] [true, false, false, true, true, true, true]
           [.eq (B b1 1), .eq (I p0.A), .eq (.bool x11), .eq (.bool x11), .eq (.bool ((decide (p0.B ≥ 0)) && (decide (p0.B ≤ p2)))), .eq (.bool (x11 && ((decide (p0.B ≥ 0)) && (decide (p0.B ≤ p2))))), .eq (.bool (x11 && ((decide (p0.B ≥ 0)) && (decide (p0.B ≤ p2)))))]
           [(6, .bool (x11 && ((decide (p0.B ≥ 0)) && (decide (p0.B ≤ p2)))))] mix hF (by kernel_rfl) (by kernel_rfl) (by kernel_rfl) ⟨Pd.mono_eq, Pd.mono_eq, trivial⟩ (fun hG => ⟨np_loadBox hG hF ty3 rfl rfl (hs.bx 0 rfl) rfl rfl rfl, np_call [I p0.A] hG hF Try.call138 rfl rfl (fun w hC hg => (impl_isReg_ok p0.A hx11).mono fun e w' ⟨v, he, hv, hc⟩ => ⟨v, he, hc, hv⟩), trivial⟩) (by kernel_rfl) fun fr w12 hF hE hc => then_normal ?_)
       have hs := hs.ext hc
       have hM0 := hM0.ext hc
       have hs : Sep [] w12 S1 := Sep.pick [] hs (by decide) rfl
       obtain rfl := Option.some.inj h
       exact wp_ret (blk_ret (then_ret (ret1 rfl hF rfl ⟨_, rfl, rfl, hM0.chg⟩)))
     replace h := iteF hb h
     refine wp_seq ?_
     refine wp_seq (wp_pure [(3, B b1 0), (37, I p0.Op), (91, .bool (p0.Op == 12))] hF (by kernel_rfl) fun fr hF => then_normal ?_)
     refine (wp_merge [(3, B b1 0), (91, .bool ((p0.Op == 12) || (p0.Op == 14)))] hF (b := (p0.Op == 12)) rfl (fun hb => ?_) (fun hb => ?_) fun fr hF => then_normal ?_)
     · exact wp_skip ⟨rfl, rfl, (hF.sub [(3, B b1 0), (91, .bool (p0.Op == 12))] (by kernel_rfl)).eqs (by first | (simp only [hb]; done) | (simp only [hb]; rfl))⟩
     · exact wp_pure [(3, B b1 0), (91, .bool (p0.Op == 14))] hF (by kernel_rfl) fun fr hF => ⟨rfl, rfl, hF.eqs (by first | (simp only [hb]; done) | (simp only [hb]; rfl))⟩
     refine (wp_if hF (b := ((p0.Op == 12) || (p0.Op == 14))) rfl (fun hb => ?_) (fun hb => ?_))
     · replace h := iteT hb h
       refine wp_seq (region_b [] [true, false, true, true, true, false, true, true, true]
           [.eq (B b1 1), .eq (I p0.A), .eq (.bool (p0.A == 0)), .eq (.bool (p0.A == 0)), .eq (B b1 2), .eq (I p0.B), .eq (.bool (p0.B == 0)), .eq (.bool ((p0.A == 0) && (p0.B == 0))), .eq (.bool ((p0.A == 0) && (p0.B == 0)))]
           [(6, .bool ((p0.A == 0) && (p0.B == 0)))] mix hF (by kernel_rfl) (by kernel_rfl) (by kernel_rfl) ⟨Pd.mono_eq, Pd.mono_eq, trivial⟩ (fun hG => ⟨np_loadBox hG hF ty3 rfl rfl (hs.bx 0 rfl) rfl rfl rfl, np_loadBox hG hF ty3 rfl rfl (hs.bx 0 rfl) rfl rfl rfl, trivial⟩) (by kernel_rfl) fun fr w13 hF hE hc => then_normal ?_)
       have hs := hs.ext hc
       have hM0 := hM0.ext hc
       have hs : Sep [] w13 S1 := Sep.pick [] hs (by decide) rfl
       obtain rfl := Option.some.inj h
       exact wp_ret (blk_ret (then_ret (ret1 rfl hF rfl ⟨_, rfl, rfl, hM0.chg⟩)))
     replace h := iteF hb h
     have hs : Sep [] w2 S1 := Sep.pick [] hs (by decide) rfl
     refine (wp_skip ?_)
     refine blk_normal (then_normal ?_)
     refine wp_seq (wp_pure [(6, .bool false)] hF (by kernel_rfl) fun fr hF => then_normal ?_)
     obtain rfl := Option.some.inj h
     exact wp_ret (ret1 rfl hF rfl ⟨_, rfl, rfl, hM0.chg⟩)
   replace h := iteF hb h
   refine wp_seq (wp_pure [(3, B b1 0), (7, .bool ((decide (p0.B ≥ 0)) && (decide (p0.B ≤ p2)))), (37, I p0.Op), (61, .bool (p0.Op == 6))] hF (by kernel_rfl) fun fr hF => then_normal ?_)
   refine (wp_merge [(3, B b1 0), (7, .bool ((decide (p0.B ≥ 0)) && (decide (p0.B ≤ p2)))), (37, I p0.Op), (61, .bool ((p0.Op == 6) || (p0.Op == 13)))] hF (b := (p0.Op == 6)) rfl (fun hb => ?_) (fun hb => ?_) fun fr hF => then_normal ?_)
   · exact wp_skip ⟨rfl, rfl, (hF.sub [(3, B b1 0), (7, .bool ((decide (p0.B ≥ 0)) && (decide (p0.B ≤ p2)))), (37, I p0.Op), (61, .bool (p0.Op == 6))] (by kernel_rfl)).eqs (by first | (simp only [hb]; done) | (simp only [hb]; rfl))⟩
   · exact wp_pure [(3, B b1 0), (7, .bool ((decide (p0.B ≥ 0)) && (decide (p0.B ≤ p2)))), (37, I p0.Op), (61, .bool (p0.Op == 13))] hF (by kernel_rfl) fun fr hF => ⟨rfl, rfl, hF.eqs (by first | (simp only [hb]; done) | (simp only [hb]; rfl))⟩
   refine (wp_if hF (b := ((p0.Op == 6) || (p0.Op == 13))) rfl (fun hb => ?_) (fun hb => ?_))
   · replace h := iteT hb h
     obtain ⟨x12, hx12, h⟩ := bindE h
     refine wp_seq (region_b [] [true, false, false, true, true, false, true, true, true]
         [.eq (B b1 1), .eq (I p0.A), .eq (.bool x12), .eq (.bool x12), .eq (B b1 2), .eq (I p0.B), .eq (.bool (p0.B == 0)), .eq (.bool (x12 && (p0.B == 0))), .eq (.bool (x12 && (p0.B == 0)))]
         [(6, .bool (x12 && (p0.B == 0)))] mix hF (by kernel_rfl) (by kernel_rfl) (by kernel_rfl) ⟨Pd.mono_eq, Pd.mono_eq, Pd.mono_eq, trivial⟩ (fun hG => ⟨np_loadBox hG hF ty3 rfl rfl (hs.bx 0 rfl) rfl rfl rfl, np_call [I p0.A] hG hF Try.call138 rfl rfl (fun w hC hg => (impl_isReg_ok p0.A hx12).mono fun e w' ⟨v, he, hv, hc⟩ => ⟨v, he, hc, hv⟩), np_loadBox hG hF ty3 rfl rfl (hs.bx 0 rfl) rfl rfl rfl, trivial⟩) (by kernel_rfl) fun fr w14 hF hE hc => then_normal ?_)
     have hs := hs.ext hc
     have hM0 := hM0.ext hc
     have hs : Sep [] w14 S1 := Sep.pick [] hs (by decide) rfl
     obtain rfl := Option.some.inj h
     exact wp_ret (blk_ret (then_ret (ret1 rfl hF rfl ⟨_, rfl, rfl, hM0.chg⟩)))
   replace h := iteF hb h
   refine wp_seq ?_
   refine wp_seq (wp_pure [(3, B b1 0), (7, .bool ((decide (p0.B ≥ 0)) && (decide (p0.B ≤ p2)))), (37, I p0.Op), (74, .bool (p0.Op == 9))] hF (by kernel_rfl) fun fr hF => then_normal ?_)
   refine (wp_merge [(3, B b1 0), (7, .bool ((decide (p0.B ≥ 0)) && (decide (p0.B ≤ p2)))), (37, I p0.Op), (74, .bool ((p0.Op == 9) || (p0.Op == 11)))] hF (b := (p0.Op == 9)) rfl (fun hb => ?_) (fun hb => ?_) fun fr hF => then_normal ?_)
   · exact wp_skip ⟨rfl, rfl, (hF.sub [(3, B b1 0), (7, .bool ((decide (p0.B ≥ 0)) && (decide (p0.B ≤ p2)))), (37, I p0.Op), (74, .bool (p0.Op == 9))] (by kernel_rfl)).eqs (by first | (simp only [hb]; done) | (simp only [hb]; rfl))⟩
   · exact wp_pure [(3, B b1 0), (7, .bool ((decide (p0.B ≥ 0)) && (decide (p0.B ≤ p2)))), (37, I p0.Op), (74, .bool (p0.Op == 11))] hF (by kernel_rfl) fun fr hF => ⟨rfl, rfl, hF.eqs (by first | (simp only [hb]; done) | (simp only [hb]; rfl))⟩
   refine (wp_if hF (b := ((p0.Op == 9) || (p0.Op == 11))) rfl (fun hb => ?_) (fun hb => ?_))
   · replace h := iteT hb h
     refine wp_seq (region_b [] [true, false, true, true, true, true, true]
         [.eq (B b1 1), .eq (I p0.A), .eq (.bool (p0.A == 0)), .eq (.bool (p0.A == 0)), .eq (.bool ((decide (p0.B ≥ 0)) && (decide (p0.B ≤ p2)))), .eq (.bool ((p0.A == 0) && ((decide (p0.B ≥ 0)) && (decide (p0.B ≤ p2))))), .eq (.bool ((p0.A == 0) && ((decide (p0.B ≥ 0)) && (decide (p0.B ≤ p2)))))]
         [(6, .bool ((p0.A == 0) && ((decide (p0.B ≥ 0)) && (decide (p0.B ≤ p2)))))] mix hF (by kernel_rfl) (by kernel_rfl) (by kernel_rfl) ⟨Pd.mono_eq, trivial⟩ (fun hG => ⟨np_loadBox hG hF ty3 rfl rfl (hs.bx 0 rfl) rfl rfl rfl, trivial⟩) (by kernel_rfl) fun fr w15 hF hE hc => then_normal ?_)
     have hs := hs.ext hc
     have hM0 := hM0.ext hc
     have hs : Sep [] w15 S1 := Sep.pick [] hs (by decide) rfl
     obtain rfl := Option.some.inj h
     exact wp_ret (blk_ret (then_ret (ret1 rfl hF rfl ⟨_, rfl, rfl, hM0.chg⟩)))
   replace h := iteF hb h
   refine wp_seq (wp_pure [(3, B b1 0), (7, .bool ((decide (p0.B ≥ 0)) && (decide (p0.B ≤ p2)))), (37, I p0.Op), (83, .bool (p0.Op == 10))] hF (by kernel_rfl) fun fr hF => then_normal ?_)
   refine (wp_if hF (b := (p0.Op == 10)) rfl (fun hb => ?_) (fun hb => ?_))
   · replace h := iteT hb h
     obtain ⟨x13, hx13, h⟩ := bindE h
     refine wp_seq (region_b [] [true, false, false, true, true, true, true]
         [.eq (B b1 1), .eq (I p0.A), .eq (.bool x13), .eq (.bool x13), .eq (.bool ((decide (p0.B ≥ 0)) && (decide (p0.B ≤ p2)))), .eq (.bool (x13 && ((decide (p0.B ≥ 0)) && (decide (p0.B ≤ p2))))), .eq (.bool (x13 && ((decide (p0.B ≥ 0)) && (decide (p0.B ≤ p2)))))]
         [(6, .bool (x13 && ((decide (p0.B ≥ 0)) && (decide (p0.B ≤ p2)))))] mix hF (by kernel_rfl) (by kernel_rfl) (by kernel_rfl) ⟨Pd.mono_eq, Pd.mono_eq, trivial⟩ (fun hG => ⟨np_loadBox hG hF ty3 rfl rfl (hs.bx 0 rfl) rfl rfl rfl, np_call [I p0.A] hG hF Try.call138 rfl rfl (fun w hC hg => (impl_isReg_ok p0.A hx13).mono fun e w' ⟨v, he, hv, hc⟩ => ⟨v, he, hc, hv⟩), trivial⟩) (by kernel_rfl) fun fr w16 hF hE hc => then_normal ?_)
     have hs := hs.ext hc
     have hM0 := hM0.ext hc
     have hs : Sep [] w16 S1 := Sep.pick [] hs (by decide) rfl
     obtain rfl := Option.some.inj h
     exact wp_ret (blk_ret (then_ret (ret1 rfl hF rfl ⟨_, rfl, rfl, hM0.chg⟩)))
   replace h := iteF hb h
   refine wp_seq ?_
   refine wp_seq (wp_pure [(3, B b1 0), (37, I p0.Op), (91, .bool (p0.Op == 12))] hF (by kernel_rfl) fun fr hF => then_normal ?_)
   refine (wp_merge [(3, B b1 0), (91, .bool ((p0.Op == 12) || (p0.Op == 14)))] hF (b := (p0.Op == 12)) rfl (fun hb => ?_) (fun hb => ?_) fun fr hF => then_normal ?_)
   · exact wp_skip ⟨rfl, rfl, (hF.sub [(3, B b1 0), (91, .bool (p0.Op == 12))] (by kernel_rfl)).eqs (by first | (simp only [hb]; done) | (simp only [hb]; rfl))⟩
   · exact wp_pure [(3, B b1 0), (91, .bool (p0.Op == 14))] hF (by kernel_rfl) fun fr hF => ⟨rfl, rfl, hF.eqs (by first | (simp only [hb]; done) | (simp only [hb]; rfl))⟩
   refine (wp_if hF (b := ((p0.Op == 12) || (p0.Op == 14))) rfl (fun hb => ?_) (fun hb => ?_))
   · replace h := iteT hb h
     refine wp_seq (region_b [] [true, false, true, true, true, false, true, true, true]
         [.eq (B b1 1), .eq (I p0.A), .eq (.bool (p0.A == 0)), .eq (.bool (p0.A == 0)), .eq (B b1 2), .eq (I p0.B), .eq (.bool (p0.B == 0)), .eq (.bool ((p0.A == 0) && (p0.B == 0))), .eq (.bool ((p0.A == 0) && (p0.B == 0)))]
         [(6, .bool ((p0.A == 0) && (p0.B == 0)))] mix hF (by kernel_rfl) (by kernel_rfl) (by kernel_rfl) ⟨Pd.mono_eq, Pd.mono_eq, trivial⟩ (fun hG => ⟨np_loadBox hG hF ty3 rfl rfl (hs.bx 0 rfl) rfl rfl rfl, np_loadBox hG hF ty3 rfl rfl (hs.bx 0 rfl) rfl rfl rfl, trivial⟩) (by kernel_rfl) fun fr w17 hF hE hc => then_normal ?_)
     have hs := hs.ext hc
     have hM0 := hM0.ext hc
     have hs : Sep [] w17 S1 := Sep.pick [] hs (by decide) rfl
     obtain rfl := Option.some.inj h
     exact wp_ret (blk_ret (then_ret (ret1 rfl hF rfl ⟨_, rfl, rfl, hM0.chg⟩)))
   replace h := iteF hb h
   have hs : Sep [] w2 S1 := Sep.pick [] hs (by decide) rfl
   refine (wp_skip ?_)
   refine blk_normal (then_normal ?_)
   refine wp_seq (wp_pure [(6, .bool false)] hF (by kernel_rfl) fun fr hF => then_normal ?_)
   obtain rfl := Option.some.inj h
   exact wp_ret (ret1 rfl hF rfl ⟨_, rfl, rfl, hM0.chg⟩)
 replace h := iteF hb h
 refine wp_seq (wp_pure [(3, B b1 0), (7, .bool ((decide (p0.B ≥ 0)) && (decide (p0.B ≤ p2)))), (37, I p0.Op), (49, .bool (p0.Op == 7))] hF (by kernel_rfl) fun fr hF => then_normal ?_)
 refine (wp_merge [(3, B b1 0), (7, .bool ((decide (p0.B ≥ 0)) && (decide (p0.B ≤ p2)))), (37, I p0.Op), (49, .bool ((p0.Op == 7) || (p0.Op == 8)))] hF (b := (p0.Op == 7)) rfl (fun hb => ?_) (fun hb => ?_) fun fr hF => then_normal ?_)
 · exact wp_skip ⟨rfl, rfl, (hF.sub [(3, B b1 0), (7, .bool ((decide (p0.B ≥ 0)) && (decide (p0.B ≤ p2)))), (37, I p0.Op), (49, .bool (p0.Op == 7))] (by kernel_rfl)).eqs (by first | (simp only [hb]; done) | (simp only [hb]; rfl))⟩
 · exact wp_pure [(3, B b1 0), (7, .bool ((decide (p0.B ≥ 0)) && (decide (p0.B ≤ p2)))), (37, I p0.Op), (49, .bool (p0.Op == 8))] hF (by kernel_rfl) fun fr hF => ⟨rfl, rfl, hF.eqs (by first | (simp only [hb]; done) | (simp only [hb]; rfl))⟩
 refine (wp_if hF (b := ((p0.Op == 7) || (p0.Op == 8))) rfl (fun hb => ?_) (fun hb => ?_))
 · replace h := iteT hb h
   obtain ⟨x14, hx14, h⟩ := bindE h
   obtain ⟨x15, hx15, h⟩ := bindE h
   refine wp_seq (region_b [] [true, false, false, true, true, false, false, true, true]
       [.eq (B b1 1), .eq (I p0.A), .eq (.bool x14), .eq (.bool x14), .eq (B b1 2), .eq (I p0.B), .eq (.bool x15), .eq (.bool (x14 && x15)), .eq (.bool (x14 && x15))]
       [(6, .bool (x14 && x15))] mix hF (by kernel_rfl) (by kernel_rfl) (by kernel_rfl) ⟨Pd.mono_eq, Pd.mono_eq, Pd.mono_eq, Pd.mono_eq, trivial⟩ (fun hG => ⟨np_loadBox hG hF ty3 rfl rfl (hs.bx 0 rfl) rfl rfl rfl, np_call [I p0.A] hG hF Try.call138 rfl rfl (fun w hC hg => (impl_isReg_ok p0.A hx14).mono fun e w' ⟨v, he, hv, hc⟩ => ⟨v, he, hc, hv⟩), np_loadBox hG hF ty3 rfl rfl (hs.bx 0 rfl) rfl rfl rfl, np_call [I p0.B] hG hF Try.call138 rfl rfl (fun w hC hg => (impl_isReg_ok p0.B (iteT hg.2 hx15)).mono fun e w' ⟨v, he, hv, hc⟩ => ⟨v, he, hc, hv⟩), trivial⟩) (by kernel_rfl) fun fr w18 hF hE hc => then_normal ?_)
   have hs := hs.ext hc
   have hM0 := hM0.ext hc
   have hs : Sep [] w18 S1 := Sep.pick [] hs (by decide) rfl
   obtain rfl := Option.some.inj h
   exact wp_ret (blk_ret (then_ret (ret1 rfl hF rfl ⟨_, rfl, rfl, hM0.chg⟩)))
 replace h := iteF hb h
 refine wp_seq ?_
 refine wp_seq (wp_pure [(3, B b1 0), (7, .bool ((decide (p0.B ≥ 0)) && (decide (p0.B ≤ p2)))), (37, I p0.Op), (61, .bool (p0.Op == 4))] hF (by kernel_rfl) fun fr hF => then_normal ?_)
 refine (wp_if hF (b := (p0.Op == 4)) rfl (fun hb => ?_) (fun hb => ?_))
 · replace h := iteT hb h
   refine (wp_skip (then_normal ?_))
   refine (wp_if hF (b := (p0.Op == 4)) rfl (fun hb => ?_) (fun hb => ?_))
   · replace h := iteT hb h
     obtain ⟨x16, hx16, h⟩ := bindE h
     refine wp_seq (region_b [] [true, false, false, true, true, false, true, true, true]
         [.eq (B b1 1), .eq (I p0.A), .eq (.bool x16), .eq (.bool x16), .eq (B b1 2), .eq (I p0.B), .eq (.bool (p0.B == 0)), .eq (.bool (x16 && (p0.B == 0))), .eq (.bool (x16 && (p0.B == 0)))]
         [(6, .bool (x16 && (p0.B == 0)))] mix hF (by kernel_rfl) (by kernel_rfl) (by kernel_rfl) ⟨Pd.mono_eq, Pd.mono_eq, Pd.mono_eq, trivial⟩ (fun hG => ⟨np_loadBox hG hF ty3 rfl rfl (hs.bx 0 rfl) rfl rfl rfl, np_call [I p0.A] hG hF Try.call138 rfl rfl (fun w hC hg => (impl_isReg_ok p0.A hx16).mono fun e w' ⟨v, he, hv, hc⟩ => ⟨v, he, hc, hv⟩), np_loadBox hG hF ty3 rfl rfl (hs.bx 0 rfl) rfl rfl rfl, trivial⟩) (by kernel_rfl) fun fr w19 hF hE hc => then_normal ?_)
     have hs := hs.ext hc
     have hM0 := hM0.ext hc
     have hs : Sep [] w19 S1 := Sep.pick [] hs (by decide) rfl
     obtain rfl := Option.some.inj h
     exact wp_ret (blk_ret (then_ret (ret1 rfl hF rfl ⟨_, rfl, rfl, hM0.chg⟩)))
   replace h := iteF hb h
   refine wp_seq ?_
   refine wp_seq (wp_pure [(3, B b1 0), (7, .bool ((decide (p0.B ≥ 0)) && (decide (p0.B ≤ p2)))), (37, I p0.Op), (74, .bool (p0.Op == 9))] hF (by kernel_rfl) fun fr hF => then_normal ?_)
   refine (wp_merge [(3, B b1 0), (7, .bool ((decide (p0.B ≥ 0)) && (decide (p0.B ≤ p2)))), (37, I p0.Op), (74, .bool ((p0.Op == 9) || (p0.Op == 11)))] hF (b := (p0.Op == 9)) rfl (fun hb => ?_) (fun hb => ?_) fun fr hF => then_normal ?_)
   · exact wp_skip ⟨rfl, rfl, (hF.sub [(3, B b1 0), (7, .bool ((decide (p0.B ≥ 0)) && (decide (p0.B ≤ p2)))), (37, I p0.Op), (74, .bool (p0.Op == 9))] (by kernel_rfl)).eqs (by first | (simp only [hb]; done) | (simp only [hb]; rfl))⟩
   · exact wp_pure [(3, B b1 0), (7, .bool ((decide (p0.B ≥ 0)) && (decide (p0.B ≤ p2)))), (37, I p0.Op), (74, .bool (p0.Op == 11))] hF (by kernel_rfl) fun fr hF => ⟨rfl, rfl, hF.eqs (by first | (simp only [hb]; done) | (simp only [hb]; rfl))⟩
   refine (wp_if hF (b := ((p0.Op == 9) || (p0.Op == 11))) rfl (fun hb => ?_) (fun hb => ?_))
   · replace h := iteT hb h
     refine wp_seq (region_b [] [true, false, true, true, true, true, true]
         [.eq (B b1 1), .eq (I p0.A), .eq (.bool (p0.A == 0)), .eq (.bool (p0.A == 0)), .eq (.bool ((decide (p0.B ≥ 0)) && (decide (p0.B ≤ p2)))), .eq (.bool ((p0.A == 0) && ((decide (p0.B ≥ 0)) && (decide (p0.B ≤ p2))))), .eq (.bool ((p0.A == 0) && ((decide (p0.B ≥ 0)) && (decide (p0.B ≤ p2)))))]
         [(6, .bool ((p0.A == 0) && ((decide (p0.B ≥ 0)) && (decide (p0.B ≤ p2)))))] mix hF (by kernel_rfl) (by kernel_rfl) (by kernel_rfl) ⟨Pd.mono_eq, trivial⟩ (fun hG => ⟨np_loadBox hG hF ty3 rfl rfl (hs.bx 0 rfl) rfl rfl rfl, trivial⟩) (by kernel_rfl) fun fr w20 hF hE hc => then_normal ?_)
     have hs := hs.ext hc
     have hM0 := hM0.ext hc
     have hs : Sep [] w20 S1 := Sep.pick [] hs (by decide) rfl
     obtain rfl := Option.some.inj h
     exact wp_ret (blk_ret (then_ret (ret1 rfl hF rfl ⟨_, rfl, rfl, hM0.chg⟩)))
   replace h := iteF hb h
   refine wp_seq (wp_pure [(3, B b1 0), (7, .bool ((decide (p0.B ≥ 0)) && (decide (p0.B ≤ p2)))), (37, I p0.Op), (83, .bool (p0.Op == 10))] hF (by kernel_rfl) fun fr hF => then_normal ?_)
   refine (wp_if hF (b := (p0.Op == 10)) rfl (fun hb => ?_) (fun hb => ?_))
   · replace h := iteT hb h
     obtain ⟨x17, hx17, h⟩ := bindE h
     refine wp_seq (region_b [] [true, false, false, true, true, true, true]
         [.eq (B b1 1), .eq (I p0.A), .eq (.bool x17), .eq (.bool x17), .eq (.bool ((decide (p0.B ≥ 0)) && (decide (p0.B ≤ p2)))), .eq (.bool (x17 && ((decide (p0.B ≥ 0)) && (decide (p0.B ≤ p2))))), .eq (.bool (x17 && ((decide (p0.B ≥ 0)) && (decide (p0.B ≤ p2)))))]
         [(6, .bool (x17 && ((decide (p0.B ≥ 0)) && (decide (p0.B ≤ p2)))))] mix hF (by kernel_rfl) (by kernel_rfl) (by kernel_rfl) ⟨Pd.mono_eq, Pd.mono_eq, trivial⟩ (fun hG => ⟨np_loadBox hG hF ty3 rfl rfl (hs.bx 0 rfl) rfl rfl rfl, np_call [I p0.A] hG hF Try.call138 rfl rfl (fun w hC hg => (impl_isReg_ok p0.A hx17).mono fun e w' ⟨v, he, hv, hc⟩ => ⟨v, he, hc, hv⟩), trivial⟩) (by kernel_rfl) fun fr w21 hF hE hc => then_normal ?_)
     have hs := hs.ext hc
     have hM0 := hM0.ext hc
     have hs : Sep [] w21 S1 := Sep.pick [] hs (by decide) rfl
     obtain rfl := Option.some.inj h
     exact wp_ret (blk_ret (then_ret (ret1 rfl hF rfl ⟨_, rfl, rfl, hM0.chg⟩)))
   replace h := iteF hb h
   refine wp_seq ?_
   refine wp_seq (wp_pure [(3, B b1 0), (37, I p0.Op), (91, .bool (p0.Op == 12))] hF (by kernel_rfl) fun fr hF => then_normal ?_)
   refine (wp_merge [(3, B b1 0), (91, .bool ((p0.Op == 12) || (p0.Op == 14)))] hF (b := (p0.Op == 12)) rfl (fun hb => ?_) (fun hb => ?_) fun fr hF => then_normal ?_)
   · exact wp_skip ⟨rfl, rfl, (hF.sub [(3, B b1 0), (91, .bool (p0.Op == 12))] (by kernel_rfl)).eqs (by first | (simp only [hb]; done) | (simp only [hb]; rfl))⟩
   · exact wp_pure [(3, B b1 0), (91, .bool (p0.Op == 14))] hF (by kernel_rfl) fun fr hF => ⟨rfl, rfl, hF.eqs (by first | (simp only [hb]; done) | (simp only [hb]; rfl))⟩
   refine (wp_if hF (b := ((p0.Op == 12) || (p0.Op == 14))) rfl (fun hb => ?_) (fun hb => ?_))
   · replace h := iteT hb h
     refine wp_seq (region_b [] [true, false, true, true, true, false, true, true, true]
         [.eq (B b1 1), .eq (I p0.A), .eq (.bool (p0.A == 0)), .eq (.bool (p0.A == 0)), .eq (B b1 2), .eq (I p0.B), .eq (.bool (p0.B == 0)), .eq (.bool ((p0.A == 0) && (p0.B == 0))), .eq (.bool ((p0.A == 0) && (p0.B == 0)))]
         [(6, .bool ((p0.A == 0) && (p0.B == 0)))] mix hF (by kernel_rfl) (by kernel_rfl) (by kernel_rfl) ⟨Pd.mono_eq, Pd.mono_eq, trivial⟩ (fun hG => ⟨np_loadBox hG hF ty3 rfl rfl (hs.bx 0 rfl) rfl rfl rfl, np_loadBox hG hF ty3 rfl rfl (hs.bx 0 rfl) rfl rfl rfl, trivial⟩) (by kernel_rfl) fun fr w22 hF hE hc => then_normal ?_)
     have hs := hs.ext hc
     have hM0 := hM0.ext hc
     have hs : Sep [] w22 S1 := Sep.pick [] hs (by decide) rfl
     obtain rfl := Option.some.inj h
     exact wp_ret (blk_ret (then_ret (ret1 rfl hF rfl ⟨_, rfl, rfl, hM0.chg⟩)))
   replace h := iteF hb h
   have hs : Sep [] w2 S1 := Sep.pick [] hs (by decide) rfl
   refine (wp_skip ?_)
   refine blk_normal (then_normal ?_)
   refine wp_seq (wp_pure [(6, .bool false)] hF (by kernel_rfl) fun fr hF => then_normal ?_)
   obtain rfl := Option.some.inj h
   exact wp_ret (ret1 rfl hF rfl ⟨_, rfl, rfl, hM0.chg⟩)
 replace h := iteF hb h
 refine wp_seq (wp_pure [(3, B b1 0), (7, .bool ((decide (p0.B ≥ 0)) && (decide (p0.B ≤ p2)))), (37, I p0.Op), (61, .bool (p0.Op == 5))] hF (by kernel_rfl) fun fr hF => then_normal ?_)
 refine (wp_if hF (b := (p0.Op == 5)) rfl (fun hb => ?_) (fun hb => ?_))
 · replace h := iteT hb h
   refine (wp_skip (then_normal ?_))
   refine (wp_if hF (b := (p0.Op == 5)) rfl (fun hb => ?_) (fun hb => ?_))
   · replace h := iteT hb h
     obtain ⟨x18, hx18, h⟩ := bindE h
     refine wp_seq (region_b [] [true, false, false, true, true, false, true, true, true]
         [.eq (B b1 1), .eq (I p0.A), .eq (.bool x18), .eq (.bool x18), .eq (B b1 2), .eq (I p0.B), .eq (.bool (p0.B == 0)), .eq (.bool (x18 && (p0.B == 0))), .eq (.bool (x18 && (p0.B == 0)))]
         [(6, .bool (x18 && (p0.B == 0)))] mix hF (by kernel_rfl) (by kernel_rfl) (by kernel_rfl) ⟨Pd.mono_eq, Pd.mono_eq, Pd.mono_eq, trivial⟩ (fun hG => ⟨np_loadBox hG hF ty3 rfl rfl (hs.bx 0 rfl) rfl rfl rfl, np_call [I p0.A] hG hF Try.call138 rfl rfl (fun w hC hg => (impl_isReg_ok p0.A hx18).mono fun e w' ⟨v, he, hv, hc⟩ => ⟨v, he, hc, hv⟩), np_loadBox hG hF ty3 rfl rfl (hs.bx 0 rfl) rfl rfl rfl, trivial⟩) (by kernel_rfl) fun fr w23 hF hE hc => then_normal ?_)
     have hs := hs.ext hc
     have hM0 := hM0.ext hc
     have hs : Sep [] w23 S1 := Sep.pick [] hs (by decide) rfl
     obtain rfl := Option.some.inj h
     exact wp_ret (blk_ret (then_ret (ret1 rfl hF rfl ⟨_, rfl, rfl, hM0.chg⟩)))
   replace h := iteF hb h
   refine wp_seq ?_
   refine wp_seq (wp_pure [(3, B b1 0), (7, .bool ((decide (p0.B ≥ 0)) && (decide (p0.B ≤ p2)))), (37, I p0.Op), (74, .bool (p0.Op == 9))] hF (by kernel_rfl) fun fr hF => then_normal ?_)
   refine (wp_merge [(3, B b1 0), (7, .bool ((decide (p0.B ≥ 0)) && (decide (p0.B ≤ p2)))), (37, I p0.Op), (74, .bool ((p0.Op == 9) || (p0.Op == 11)))] hF (b := (p0.Op == 9)) rfl (fun hb => ?_) (fun hb => ?_) fun fr hF => then_normal ?_)
   · exact wp_skip ⟨rfl, rfl, (hF.sub [(3, B b1 0), (7, .bool ((decide (p0.B ≥ 0)) && (decide (p0.B ≤ p2)))), (37, I p0.Op), (74, .bool (p0.Op == 9))] (by kernel_rfl)).eqs (by first | (simp only [hb]; done) | (simp only [hb]; rfl))⟩
   · exact wp_pure [(3, B b1 0), (7, .bool ((decide (p0.B ≥ 0)) && (decide (p0.B ≤ p2)))), (37, I p0.Op), (74, .bool (p0.Op == 11))] hF (by kernel_rfl) fun fr hF => ⟨rfl, rfl, hF.eqs (by first | (simp only [hb]; done) | (simp only [hb]; rfl))⟩
   refine (wp_if hF (b := ((p0.Op == 9) || (p0.Op == 11))) rfl (fun hb => ?_) (fun hb => ?_))
   · replace h := iteT hb h
     refine wp_seq (region_b [] [true, false, true, true, true, true, true]
         [.eq (B b1 1), .eq (I p0.A), .eq (.bool (p0.A == 0)), .eq (.bool (p0.A == 0)), .eq (.bool ((decide (p0.B ≥ 0)) && (decide (p0.B ≤ p2)))), .eq (.bool ((p0.A == 0) && ((decide (p0.B ≥ 0)) && (decide (p0.B ≤ p2))))), .eq (.bool ((p0.A == 0) && ((decide (p0.B ≥ 0)) && (decide (p0.B ≤ p2)))))]
         [(6, .bool ((p0.A == 0) && ((decide (p0.B ≥ 0)) && (decide (p0.B ≤ p2)))))] mix hF (by kernel_rfl) (by kernel_rfl) (by kernel_rfl) ⟨Pd.mono_eq, trivial⟩ (fun hG => ⟨np_loadBox hG hF ty3 rfl rfl (hs.bx 0 rfl) rfl rfl rfl, trivial⟩) (by kernel_rfl) fun fr w24 hF hE hc => then_normal ?_)
     have hs := hs.ext hc
     have hM0 := hM0.ext hc
     have hs : Sep [] w24 S1 := Sep.pick [] hs (by decide) rfl
     obtain rfl := Option.some.inj h
     exact wp_ret (blk_ret (then_ret (ret1 rfl hF rfl ⟨_, rfl, rfl, hM0.chg⟩)))
   replace h := iteF hb h
   refine wp_seq (wp_pure [(3, B b1 0), (7, .bool ((decide (p0.B ≥ 0)) && (decide (p0.B ≤ p2)))), (37, I p0.Op), (83, .bool (p0.Op == 10))] hF (by kernel_rfl) fun fr hF => then_normal ?_)
   refine (wp_if hF (b := (p0.Op == 10)) rfl (fun hb => ?_) (fun hb => ?_))
   · replace h := iteT hb h
     obtain ⟨x19, hx19, h⟩ := bindE h
     refine wp_seq (region_b [] [true, false, false, true, true, true, true]
         [.eq (B b1 1), .eq (I p0.A), .eq (.bool x19), .eq (.bool x19), .eq (.bool ((decide (p0.B ≥ 0)) && (decide (p0.B ≤ p2)))), .eq (.bool (x19 && ((decide (p0.B ≥ 0)) && (decide (p0.B ≤ p2))))), .eq (.bool (x19 && ((decide (p0.B ≥ 0)) && (decide (p0.B ≤ p2)))))]
         [(6, .bool (x19 && ((decide (p0.B ≥ 0)) && (decide (p0.B ≤ p2)))))] mix hF (by kernel_rfl) (by kernel_rfl) (by kernel_rfl) ⟨Pd.mono_eq, Pd.mono_eq, trivial⟩ (fun hG => ⟨np_loadBox hG hF ty3 rfl rfl (hs.bx 0 rfl) rfl rfl rfl, np_call [I p0.A] hG hF Try.call138 rfl rfl (fun w hC hg => (impl_isReg_ok p0.A hx19).mono fun e w' ⟨v, he, hv, hc⟩ => ⟨v, he, hc, hv⟩), trivial⟩) (by kernel_rfl) fun fr w25 hF hE hc => then_normal ?_)
     have hs := hs.ext hc
     have hM0 := hM0.ext hc
     have hs : Sep [] w25 S1 := Sep.pick [] hs (by decide) rfl
     obtain rfl := Option.some.inj h
     exact wp_ret (blk_ret (then_ret (ret1 rfl hF rfl ⟨_, rfl, rfl, hM0.chg⟩)))
   replace h := iteF hb h
   refine wp_seq ?_
   refine wp_seq (wp_pure [(3, B b1 0), (37, I p0.Op), (91, .bool (p0.Op == 12))] hF (by kernel_rfl) fun fr hF => then_normal ?_)
   refine (wp_merge [(3, B b1 0), (91, .bool ((p0.Op == 12) || (p0.Op == 14)))] hF (b := (p0.Op == 12)) rfl (fun hb => ?_) (fun hb => ?_) fun fr hF => then_normal ?_)
   · exact wp_skip ⟨rfl, rfl, (hF.sub [(3, B b1 0), (91, .bool (p0.Op == 12))] (by kernel_rfl)).eqs (by first | (simp only [hb]; done) | (simp only [hb]; rfl))⟩
   · exact wp_pure [(3, B b1 0), (91, .bool (p0.Op == 14))] hF (by kernel_rfl) fun fr hF => ⟨rfl, rfl, hF.eqs (by first | (simp only [hb]; done) | (simp only [hb]; rfl))⟩
   refine (wp_if hF (b := ((p0.Op == 12) || (p0.Op == 14))) rfl (fun hb => ?_) (fun hb => ?_))
   · replace h := iteT hb h
     refine wp_seq (region_b [] [true, false, true, true, true, false, true, true, true]
         [.eq (B b1 1), .eq (I p0.A), .eq (.bool (p0.A == 0)), .eq (.bool (p0.A == 0)), .eq (B b1 2), .eq (I p0.B), .eq (.bool (p0.B == 0)), .eq (.bool ((p0.A == 0) && (p0.B == 0))), .eq (.bool ((p0.A == 0) && (p0.B == 0)))]
         [(6, .bool ((p0.A == 0) && (p0.B == 0)))] mix hF (by kernel_rfl) (by kernel_rfl) (by kernel_rfl) ⟨Pd.mono_eq, Pd.mono_eq, trivial⟩ (fun hG => ⟨np_loadBox hG hF ty3 rfl rfl (hs.bx 0 rfl) rfl rfl rfl, np_loadBox hG hF ty3 rfl rfl (hs.bx 0 rfl) rfl rfl rfl, trivial⟩) (by kernel_rfl) fun fr w26 hF hE hc => then_normal ?_)
     have hs := hs.ext hc
     have hM0 := hM0.ext hc
     have hs : Sep [] w26 S1 := Sep.pick [] hs (by decide) rfl
     obtain rfl := Option.some.inj h
     exact wp_ret (blk_ret (then_ret (ret1 rfl hF rfl ⟨_, rfl, rfl, hM0.chg⟩)))
   replace h := iteF hb h
   have hs : Sep [] w2 S1 := Sep.pick [] hs (by decide) rfl
   refine (wp_skip ?_)
   refine blk_normal (then_normal ?_)
   refine wp_seq (wp_pure [(6, .bool false)] hF (by kernel_rfl) fun fr hF => then_normal ?_)
   obtain rfl := Option.some.inj h
   exact wp_ret (ret1 rfl hF rfl ⟨_, rfl, rfl, hM0.chg⟩)
 replace h := iteF hb h
 refine wp_seq (wp_pure [(3, B b1 0), (7, .bool ((decide (p0.B ≥ 0)) && (decide (p0.B ≤ p2)))), (37, I p0.Op), (61, .bool (p0.Op == 6))] hF (by kernel_rfl) fun fr hF => then_normal ?_)
 refine (wp_merge [(3, B b1 0), (7, .bool ((decide (p0.B ≥ 0)) && (decide (p0.B ≤ p2)))), (37, I p0.Op), (61, .bool ((p0.Op == 6) || (p0.Op == 13)))] hF (b := (p0.Op == 6)) rfl (fun hb => ?_) (fun hb => ?_) fun fr hF => then_normal ?_)
 · exact wp_skip ⟨rfl, rfl, (hF.sub [(3, B b1 0), (7, .bool ((decide (p0.B ≥ 0)) && (decide (p0.B ≤ p2)))), (37, I p0.Op), (61, .bool (p0.Op == 6))] (by kernel_rfl)).eqs (by first | (simp only [hb]; done) | (simp only [hb]; rfl))⟩
 · exact wp_pure [(3, B b1 0), (7, .bool ((decide (p0.B ≥ 0)) && (decide (p0.B ≤ p2)))), (37, I p0.Op), (61, .bool (p0.Op == 13))] hF (by kernel_rfl) fun fr hF => ⟨rfl, rfl, hF.eqs (by first | (simp only [hb]; done) | (simp only [hb]; rfl))⟩
 refine (wp_if hF (b := ((p0.Op == 6) || (p0.Op == 13))) rfl (fun hb => ?_) (fun hb => ?_))
 · replace h := iteT hb h
   obtain ⟨x20, hx20, h⟩ := bindE h
   refine wp_seq (region_b [] [true, false, false, true, true, false, true, true, true]
       [.eq (B b1 1), .eq (I p0.A), .eq (.bool x20), .eq (.bool x20), .eq (B b1 2), .eq (I p0.B), .eq (.bool (p0.B == 0)), .eq (.bool (x20 && (p0.B == 0))), .eq (.bool (x20 && (p0.B == 0)))]
       [(6, .bool (x20 && (p0.B == 0)))] mix hF (by kernel_rfl) (by kernel_rfl) (by kernel_rfl) ⟨Pd.mono_eq, Pd.mono_eq, Pd.mono_eq, trivial⟩ (fun hG => ⟨np_loadBox hG hF ty3 rfl rfl (hs.bx 0 rfl) rfl rfl rfl, np_call [I p0.A] hG hF Try.call138 rfl rfl (fun w hC hg => (impl_isReg_ok p0.A hx20).mono fun e w' ⟨v, he, hv, hc⟩ => ⟨v, he, hc, hv⟩), np_loadBox hG hF ty3 rfl rfl (hs.bx 0 rfl) rfl rfl rfl, trivial⟩) (by kernel_rfl) fun fr w27 hF hE hc => then_normal ?_)
   have hs := hs.ext hc
   have hM0 := hM0.ext hc
   have hs : Sep [] w27 S1 := Sep.pick [] hs (by decide) rfl
   obtain rfl := Option.some.inj h
   exact wp_ret (blk_ret (then_ret (ret1 rfl hF rfl ⟨_, rfl, rfl, hM0.chg⟩)))
 replace h := iteF hb h
 refine wp_seq ?_
 refine wp_seq (wp_pure [(3, B b1 0), (7, .bool ((decide (p0.B ≥ 0)) && (decide (p0.B ≤ p2)))), (37, I p0.Op), (74, .bool (p0.Op == 9))] hF (by kernel_rfl) fun fr hF => then_normal ?_)
 refine (wp_merge [(3, B b1 0), (7, .bool ((decide (p0.B ≥ 0)) && (decide (p0.B ≤ p2)))), (37, I p0.Op), (74, .bool ((p0.Op == 9) || (p0.Op == 11)))] hF (b := (p0.Op == 9)) rfl (fun hb => ?_) (fun hb => ?_) fun fr hF => then_normal ?_)
 · exact wp_skip ⟨rfl, rfl, (hF.sub [(3, B b1 0), (7, .bool ((decide (p0.B ≥ 0)) && (decide (p0.B ≤ p2)))), (37, I p0.Op), (74, .bool (p0.Op == 9))] (by kernel_rfl)).eqs (by first | (simp only [hb]; done) | (simp only [hb]; rfl))⟩
 · exact wp_pure [(3, B b1 0), (7, .bool ((decide (p0.B ≥ 0)) && (decide (p0.B ≤ p2)))), (37, I p0.Op), (74, .bool (p0.Op == 11))] hF (by kernel_rfl) fun fr hF => ⟨rfl, rfl, hF.eqs (by first | (simp only [hb]; done) | (simp only [hb]; rfl))⟩
 refine (wp_if hF (b := ((p0.Op == 9) || (p0.Op == 11))) rfl (fun hb => ?_) (fun hb => ?_))
 · replace h := iteT hb h
   refine wp_seq (region_b [] [true, false, true, true, true, true, true]
       [.eq (B b1 1), .eq (I p0.A), .eq (.bool (p0.A == 0)), .eq (.bool (p0.A == 0)), .eq (.bool ((decide (p0.B ≥ 0)) && (decide (p0.B ≤ p2)))), .eq (.bool ((p0.A == 0) && ((decide (p0.B ≥ 0)) && (decide (p0.B ≤ p2))))), .eq (.bool ((p0.A == 0) && ((decide (p0.B ≥ 0)) && (decide (p0.B ≤ p2)))))]
       [(6, .bool ((p0.A == 0) && ((decide (p0.B ≥ 0)) && (decide (p0.B ≤ p2)))))] mix hF (by kernel_rfl) (by kernel_rfl) (by kernel_rfl) ⟨Pd.mono_eq, trivial⟩ (fun hG => ⟨np_loadBox hG hF ty3 rfl rfl (hs.bx 0 rfl) rfl rfl rfl, trivial⟩) (by kernel_rfl) fun fr w28 hF hE hc => then_normal ?_)
   have hs := hs.ext hc
   have hM0 := hM0.ext hc
   have hs : Sep [] w28 S1 := Sep.pick [] hs (by decide) rfl
   obtain rfl := Option.some.inj h
   exact wp_ret (blk_ret (then_ret (ret1 rfl hF rfl ⟨_, rfl, rfl, hM0.chg⟩)))
 replace h := iteF hb h
 refine wp_seq (wp_pure [(3, B b1 0), (7, .bool ((decide (p0.B ≥ 0)) && (decide (p0.B ≤ p2)))), (37, I p0.Op), (83, .bool (p0.Op == 10))] hF (by kernel_rfl) fun fr hF => then_normal ?_)
 refine (wp_if hF (b := (p0.Op == 10)) rfl (fun hb => ?_) (fun hb => ?_))
 · replace h := iteT hb h
   obtain ⟨x21, hx21, h⟩ := bindE h
   refine wp_seq (region_b [] [true, false, false, true, true, true, true]
       [.eq (B b1 1), .eq (I p0.A), .eq (.bool x21), .eq (.bool x21), .eq (.bool ((decide (p0.B ≥ 0)) && (decide (p0.B ≤ p2)))), .eq (.bool (x21 && ((decide (p0.B ≥ 0)) && (decide (p0.B ≤ p2))))), .eq (.bool (x21 && ((decide (p0.B ≥ 0)) && (decide (p0.B ≤ p2)))))]
       [(6, .bool (x21 && ((decide (p0.B ≥ 0)) && (decide (p0.B ≤ p2)))))] mix hF (by kernel_rfl) (by kernel_rfl) (by kernel_rfl) ⟨Pd.mono_eq, Pd.mono_eq, trivial⟩ (fun hG => ⟨np_loadBox hG hF ty3 rfl rfl (hs.bx 0 rfl) rfl rfl rfl, np_call [I p0.A] hG hF Try.call138 rfl rfl (fun w hC hg => (impl_isReg_ok p0.A hx21).mono fun e w' ⟨v, he, hv, hc⟩ => ⟨v, he, hc, hv⟩), trivial⟩) (by kernel_rfl) fun fr w29 hF hE hc => then_normal ?_)
   have hs := hs.ext hc
   have hM0 := hM0.ext hc
   have hs : Sep [] w29 S1 := Sep.pick [] hs (by decide) rfl
   obtain rfl := Option.some.inj h
   exact wp_ret (blk_ret (then_ret (ret1 rfl hF rfl ⟨_, rfl, rfl, hM0.chg⟩)))
 replace h := iteF hb h
 refine wp_seq ?_
 refine wp_seq (wp_pure [(3, B b1 0), (37, I p0.Op), (91, .bool (p0.Op == 12))] hF (by kernel_rfl) fun fr hF => then_normal ?_)
 refine (wp_merge [(3, B b1 0), (91, .bool ((p0.Op == 12) || (p0.Op == 14)))] hF (b := (p0.Op == 12)) rfl (fun hb => ?_) (fun hb => ?_) fun fr hF => then_normal ?_)
 · exact wp_skip ⟨rfl, rfl, (hF.sub [(3, B b1 0), (91, .bool (p0.Op == 12))] (by kernel_rfl)).eqs (by first | (simp only [hb]; done) | (simp only [hb]; rfl))⟩
 · exact wp_pure [(3, B b1 0), (91, .bool (p0.Op == 14))] hF (by kernel_rfl) fun fr hF => ⟨rfl, rfl, hF.eqs (by first | (simp only [hb]; done) | (simp only [hb]; rfl))⟩
 refine (wp_if hF (b := ((p0.Op == 12) || (p0.Op == 14))) rfl (fun hb => ?_) (fun hb => ?_))
 · replace h := iteT hb h
   refine wp_seq (region_b [] [true, false, true, true, true, false, true, true, true]
       [.eq (B b1 1), .eq (I p0.A), .eq (.bool (p0.A == 0)), .eq (.bool (p0.A == 0)), .eq (B b1 2), .eq (I p0.B), .eq (.bool (p0.B == 0)), .eq (.bool ((p0.A == 0) && (p0.B == 0))), .eq (.bool ((p0.A == 0) && (p0.B == 0)))]
       [(6, .bool ((p0.A == 0) && (p0.B == 0)))] mix hF (by kernel_rfl) (by kernel_rfl) (by kernel_rfl) ⟨Pd.mono_eq, Pd.mono_eq, trivial⟩ (fun hG => ⟨np_loadBox hG hF ty3 rfl rfl (hs.bx 0 rfl) rfl rfl rfl, np_loadBox hG hF ty3 rfl rfl (hs.bx 0 rfl) rfl rfl rfl, trivial⟩) (by kernel_rfl) fun fr w30 hF hE hc => then_normal ?_)
   have hs := hs.ext hc
   have hM0 := hM0.ext hc
   have hs : Sep [] w30 S1 := Sep.pick [] hs (by decide) rfl
   obtain rfl := Option.some.inj h
   exact wp_ret (blk_ret (then_ret (ret1 rfl hF rfl ⟨_, rfl, rfl, hM0.chg⟩)))
 replace h := iteF hb h
 have hs : Sep [] w2 S1 := Sep.pick [] hs (by decide) rfl
 refine (wp_skip ?_)
 refine blk_normal (then_normal ?_)
 refine wp_seq (wp_pure [(6, .bool false)] hF (by kernel_rfl) fun fr hF => then_normal ?_)
 obtain rfl := Option.some.inj h
 exact wp_ret (ret1 rfl hF rfl ⟨_, rfl, rfl, hM0.chg⟩)

theorem impl_ProgramOk_ok (n : Nat) (p0 : D.Program) {r : Bool} (h : impl_ProgramOk n p0 = some r) {w : World} {G0 : Nat → Prop} {va0 : Value} (ra0 : RV w G0 va0 p0) :
   Calls Try.prog 60 [va0].toArray w fun e w' => ∃ v, e = .returned v ∧ v = .bool r ∧ Chg Non w w' := by
 unfold impl_ProgramOk at h
 have hs := Sep.nil w Non
 have hM0 : Mem w Non (fun k => (G0 k) ∧ k < w.heap.size) w Non (fun k => (G0 k) ∧ k < w.heap.size) := Mem.start (fun _ h => h.elim) (fun _ h => h.2) (fun _ h => h.elim)
 have ra0 := ra0.sub (F' := (fun k => (G0 k) ∧ k < w.heap.size)) (fun k hk h => ⟨h, hk⟩)
 obtain ⟨v1, rfl, r1⟩ := RV.Program ra0
 obtain ⟨a1, c1, rfl, -⟩ := r1.slice
 refine enter (N := 54) Try.func60 rfl Try.ntmps60 rfl fun fr hF => ?_
 refine wp_seq (wp_text' ?_)
 refine q_box hs hM0 [I p0.W, I p0.Mem, I p0.In, L a1 p0.Code c1] rfl rfl hF rfl rfl fun b1 w1 S1 fr hs hp hF => ?_
 have r1 := r1.stp hM0 hp
 have hM0 := hM0.stp hp
 have hs : Sep [BX b1 30 [I p0.W, I p0.Mem, I p0.In, L a1 p0.Code c1]] w1 S1 := hs
 refine from_pure 1 [(1, B b1 0)] hF (by kernel_rfl) fun fr hF => ?_
 refine from_end rfl (then_normal ?_)
 refine wp_seq ?_
 obtain ⟨x1, hx1, h⟩ := bindE h
 obtain ⟨x2, hx2, h⟩ := bindE h
 refine wp_seq (region_b [] [true, false, true, false, true, false, true, true, true, false, true, true, true, true, false, true, true, true, true, false, true, false, false, true, true]
     [.eq (B b1 0), .eq (I p0.W), .eq (B b1 3), .eq (L a1 p0.Code c1), .eq (I (len p0.Code)), .eq (.bool x1), .eq (.bool (!x1)), .eq (.bool (!x1)), .eq (B b1 1), .eq (I p0.Mem), .eq (.bool (decide (p0.Mem < 1))), .eq (.bool ((!x1) || (decide (p0.Mem < 1)))), .eq (.bool ((!x1) || (decide (p0.Mem < 1)))), .eq (B b1 1), .eq (I p0.Mem), .eq (.bool (decide (p0.Mem > 6))), .eq (.bool (((!x1) || (decide (p0.Mem < 1))) || (decide (p0.Mem > 6)))), .eq (.bool (((!x1) || (decide (p0.Mem < 1))) || (decide (p0.Mem > 6)))), .eq (B b1 0), .eq (I p0.W), .eq (B b1 1), .eq (I p0.Mem), .eq (.bool x2), .eq (.bool (!x2)), .eq (.bool ((((!x1) || (decide (p0.Mem < 1))) || (decide (p0.Mem > 6))) || (!x2)))]
     [(1, B b1 0), (29, .bool ((((!x1) || (decide (p0.Mem < 1))) || (decide (p0.Mem > 6))) || (!x2)))] mix hF (by kernel_rfl) (by kernel_rfl) (by kernel_rfl) ⟨Pd.mono_eq, Pd.mono_eq, Pd.mono_eq, Pd.mono_eq, Pd.mono_eq, Pd.mono_eq, Pd.mono_eq, Pd.mono_eq, trivial⟩ (fun hG => ⟨np_loadBox hG hF ty3 rfl rfl (hs.bx 0 rfl) rfl rfl rfl, np_loadBox hG hF ty28 rfl rfl (hs.bx 0 rfl) rfl rfl rfl, np_call [I p0.W, I (len p0.Code)] hG hF Try.call106 rfl rfl (fun w hC hg => (impl_shapeOk_ok p0.W (len p0.Code) hx1).mono fun e w' ⟨v, he, hv, hc⟩ => ⟨v, he, hc, hv⟩), np_loadBox hG hF ty3 rfl rfl (hs.bx 0 rfl) rfl rfl rfl, np_loadBox hG hF ty3 rfl rfl (hs.bx 0 rfl) rfl rfl rfl, np_loadBox hG hF ty3 rfl rfl (hs.bx 0 rfl) rfl rfl rfl, np_loadBox hG hF ty3 rfl rfl (hs.bx 0 rfl) rfl rfl rfl, np_call [I p0.W, I p0.Mem] hG hF Try.call107 rfl rfl (fun w hC hg => (impl_WordOk_ok p0.W p0.Mem (iteF hg.2 hx2)).mono fun e w' ⟨v, he, hv, hc⟩ => ⟨v, he, hc, hv⟩), trivial⟩) (by kernel_rfl) fun fr w2 hF hE hc => then_normal ?_)
 have r1 := r1.ext hc
 have hs := hs.ext hc
 have hM0 := hM0.ext hc
 refine (wp_if hF (b := ((((!x1) || (decide (p0.Mem < 1))) || (decide (p0.Mem > 6))) || (!x2))) rfl (fun hb => ?_) (fun hb => ?_))
 · replace h := iteT hb h
   have hs : Sep [] w2 S1 := Sep.pick [] hs (by decide) rfl
   refine wp_seq (wp_pure [(2, .bool false)] hF (by kernel_rfl) fun fr hF => then_normal ?_)
   obtain rfl := Option.some.inj h
   exact wp_ret (then_ret (ret1 rfl hF rfl ⟨_, rfl, rfl, hM0.chg⟩))
 replace h := iteF hb h
 refine (wp_skip (then_normal ?_))
 refine wp_seq ?_
 refine wp_seq (region_b [] [true, false, true, true, true, false, true, true]
     [.eq (B b1 2), .eq (I p0.In), .eq (.bool (decide (p0.In < 0))), .eq (.bool (decide (p0.In < 0))), .eq (B b1 2), .eq (I p0.In), .eq (.bool (decide (p0.In > 3))), .eq (.bool ((decide (p0.In < 0)) || (decide (p0.In > 3))))]
     [(1, B b1 0), (37, .bool ((decide (p0.In < 0)) || (decide (p0.In > 3))))] mix hF (by kernel_rfl) (by kernel_rfl) (by kernel_rfl) ⟨Pd.mono_eq, Pd.mono_eq, trivial⟩ (fun hG => ⟨np_loadBox hG hF ty3 rfl rfl (hs.bx 0 rfl) rfl rfl rfl, np_loadBox hG hF ty3 rfl rfl (hs.bx 0 rfl) rfl rfl rfl, trivial⟩) (by kernel_rfl) fun fr w3 hF hE hc => then_normal ?_)
 have r1 := r1.ext hc
 have hs := hs.ext hc
 have hM0 := hM0.ext hc
 refine (wp_if hF (b := ((decide (p0.In < 0)) || (decide (p0.In > 3)))) rfl (fun hb => ?_) (fun hb => ?_))
 · replace h := iteT hb h
   have hs : Sep [] w3 S1 := Sep.pick [] hs (by decide) rfl
   refine wp_seq (wp_pure [(2, .bool false)] hF (by kernel_rfl) fun fr hF => then_normal ?_)
   obtain rfl := Option.some.inj h
   exact wp_ret (then_ret (ret1 rfl hF rfl ⟨_, rfl, rfl, hM0.chg⟩))
 replace h := iteF hb h
 refine (wp_skip (then_normal ?_))
 refine wp_seq ?_
 refine wp_seq (wp_text' ?_)
 refine from_pure 1 [(1, B b1 0), (38, B b1 3)] hF (by kernel_rfl) fun fr hF => ?_
 refine s_loadBox (L a1 p0.Code c1) ty28 rfl rfl hF rfl (hs.bx 0 rfl) rfl rfl fun fr hF => ?_
 refine from_pure 2 [(1, B b1 0), (39, L a1 p0.Code c1), (40, I (len p0.Code)), (41, I 0)] hF (by kernel_rfl) fun fr hF => ?_
 refine from_end rfl (then_normal ?_)
 obtain ⟨rl1, hit1, h⟩ := bindE h
 have hk1 := h
 refine (GL.wp_cut (M := fun fr w' => ∃ s, rl1 = .inl s ∧ ∃ S3 F2, FrS 54 [] fr ∧ Mem w3 S1 (fun k => (G0 k) ∧ k < w.heap.size) w' S3 F2 ∧ Sep [] w' S3) (wp_block (wp_iter (Inv := fun s1 fr w' => ∃ S2 F1, FrS 54 [(1, B b1 0), (39, L a1 p0.Code c1), (40, I (len p0.Code)), (41, I s1)] fr ∧ Mem w3 S1 (fun k => (G0 k) ∧ k < w.heap.size) w' S2 F1 ∧ Sep [BX b1 30 [I p0.W, I p0.Mem, I p0.In, L a1 p0.Code c1]] w' S2) hit1 ⟨S1, _, hF.sub _ (by kernel_rfl), (Mem.start hM0.bd hM0.bdF hM0.dj), hs⟩ fun s1 q1 fr w1i hI h hr1 => ?_)) fun fr w1o hM => ?_)
 · obtain ⟨S2, F1, hF, hM1, hs⟩ := hI
   have r1 := r1.mem hM1
   refine wp_seq (wp_pure [(1, B b1 0), (39, L a1 p0.Code c1), (40, I (len p0.Code)), (41, I s1), (42, .bool (decide (s1 < (len p0.Code))))] hF (by kernel_rfl) fun fr hF => then_normal ?_)
   refine wp_seq (wp_if hF (b := (decide (s1 < (len p0.Code)))) rfl (fun hb => ?_) (fun hb => ?_))
   · replace h := iteT hb h
     refine (wp_skip (then_normal ?_))
     refine wp_seq (wp_block ?_)
     refine wp_seq (wp_text' ?_)
     obtain ⟨x3, hx3, h⟩ := bindE h
     refine s_elemF (z := x3) (.agg #[I x3.Op, I x3.A, I x3.B, I x3.C]) ty90 Try.underlying28 rfl rfl rfl rfl rfl hF rfl (r1) rfl (get?_nn hx3) (get?_at hx3) rfl fun p fr hF => ?_
     refine q_alloc (z := .agg #[I 0, I 0, I 0, I 0]) hs hM1 [I 0, I 0, I 0, I 0] rfl rfl hF (by kernel_rfl) rfl fun b2 w4 S4 fr hs hp hF => ?_
     have r1 := r1.stp hM1 hp
     have hM1 := hM1.stp hp
     have hs : Sep [BX b2 90 [I 0, I 0, I 0, I 0], BX b1 30 [I p0.W, I p0.Mem, I p0.In, L a1 p0.Code c1]] w4 S4 := hs
     refine q_storeBoxS 0 hs hM1 rfl [I x3.Op, I x3.A, I x3.B, I x3.C] rfl hF rfl rfl (by kernel_rfl) rfl rfl rfl fun w5 S5 hs hp hF => ?_
     have r1 := r1.stp hM1 hp
     have hM1 := hM1.stp hp
     have hs : Sep [BX b2 90 [I x3.Op, I x3.A, I x3.B, I x3.C], BX b1 30 [I p0.W, I p0.Mem, I p0.In, L a1 p0.Code c1]] w5 S5 := hs
     refine from_end rfl (then_normal ?_)
     refine wp_seq (wp_text' ?_)
     refine s_loadBoxS ty90 rfl rfl hF rfl (hs.bx 0 rfl) rfl rfl fun fr hF => ?_
     have hs : Sep [BX b1 30 [I p0.W, I p0.Mem, I p0.In, L a1 p0.Code c1]] w5 S5 := Sep.pick [1] hs (by decide) rfl
     refine from_pure 1 [(1, B b1 0), (39, L a1 p0.Code c1), (40, I (len p0.Code)), (41, I s1), (45, .agg #[I x3.Op, I x3.A, I x3.B, I x3.C]), (46, B b1 0)] hF (by kernel_rfl) fun fr hF => ?_
     refine s_loadBox (I p0.W) ty3 rfl rfl hF rfl (hs.bx 0 rfl) rfl rfl fun fr hF => ?_
     refine from_pure 1 [(1, B b1 0), (39, L a1 p0.Code c1), (40, I (len p0.Code)), (41, I s1), (45, .agg #[I x3.Op, I x3.A, I x3.B, I x3.C]), (47, I p0.W), (48, B b1 3)] hF (by kernel_rfl) fun fr hF => ?_
     refine s_loadBox (L a1 p0.Code c1) ty28 rfl rfl hF rfl (hs.bx 0 rfl) rfl rfl fun fr hF => ?_
     refine from_pure 1 [(1, B b1 0), (39, L a1 p0.Code c1), (40, I (len p0.Code)), (41, I s1), (45, .agg #[I x3.Op, I x3.A, I x3.B, I x3.C]), (47, I p0.W), (50, I (len p0.Code))] hF (by kernel_rfl) fun fr hF => ?_
     obtain ⟨x4, hx4, h⟩ := bindE h
     refine s_call [.agg #[I x3.Op, I x3.A, I x3.B, I x3.C], I p0.W, I (len p0.Code)] Try.call108 rfl rfl hF rfl (impl_insOk_ok x3 p0.W (len p0.Code) hx4) fun v w6 fr hRes hF => ?_
     obtain ⟨rfl, hc⟩ := hRes
     have r1 := r1.ext hc
     have hs := hs.ext hc
     have hM1 := hM1.ext hc
     refine from_pure 1 [(1, B b1 0), (39, L a1 p0.Code c1), (40, I (len p0.Code)), (41, I s1), (52, .bool (!x4))] hF (by kernel_rfl) fun fr hF => ?_
     refine from_end rfl (then_normal ?_)
     refine (wp_if hF (b := (!x4)) rfl (fun hb => ?_) (fun hb => ?_))
     · replace h := iteT hb h
       have hs : Sep [] w6 S5 := Sep.pick [] hs (by decide) rfl
       refine wp_seq (wp_pure [(2, .bool false)] hF (by kernel_rfl) fun fr hF => then_normal ?_)
       obtain rfl := hr1 _ (Option.some.inj h).symm
       obtain rfl := Option.some.inj hk1
       exact wp_ret (blk_ret (then_ret (then_ret (blk_ret (then_ret (ret1 rfl hF rfl ⟨_, rfl, rfl, (hM0.trans hM1).chg⟩))))))
     replace h := iteF hb h
     refine (wp_skip ?_)
     refine blk_normal (then_normal ?_)
     refine (wp_pure [(1, B b1 0), (39, L a1 p0.Code c1), (40, I (len p0.Code)), (41, I (w64 (s1 + 1)))] hF (by kernel_rfl) fun fr hF => then_normal ?_)
     exact ⟨_, (Option.some.inj h).symm, S5, _, hF.sub _ (by kernel_rfl), hM1, hs⟩
   replace h := iteF hb h
   have hs : Sep [] w1i S2 := Sep.pick [] hs (by decide) rfl
   refine (wp_exit (then_exit (then_exit (blk_exit_eq ?_))))
   obtain rfl := hr1 _ (Option.some.inj h).symm
   exact then_normal ⟨_, rfl, S2, _, hF.sub _ (by kernel_rfl), hM1, hs⟩
 · obtain ⟨s1r, rfl, hM⟩ := hM
   obtain ⟨S3, F2, hF, hMx, hs⟩ := hM
   have hM0 := hM0.trans hMx
   refine wp_seq (wp_pure [(2, .bool true)] hF (by kernel_rfl) fun fr hF => then_normal ?_)
   obtain rfl := Option.some.inj h
   exact wp_ret (ret1 rfl hF rfl ⟨_, rfl, rfl, hM0.chg⟩)

theorem slices_Sort___int_int__ok (p0 : List Int) {r : List Int} (h : slices_Sort___int_int_ p0 = some r) {w : World} {S0 F0 : Nat → Prop} {pa0 : Option Addr} {pn0 pc0 : Nat} (hs : Sep [sl3 (.slice pa0 pn0 pc0) p0] w S0) (hb : ∀ k, S0 k → k < w.heap.size) (hd : ∀ k, S0 k → F0 k → False) :
   Calls Try.prog 109 [.slice pa0 pn0 pc0].toArray w fun e w' => ∃ v, e = .returned v ∧ v = .tuple #[] ∧ ∃ S', Stp w S0 w' S' ∧ Sep [sl3 (.slice pa0 pn0 pc0) r] w' S' := by
 unfold slices_Sort___int_int_ at h
 split at h
 · rename_i hl
   obtain rfl := Option.some.inj h
   exact calls_sort Try.lays189 (by kernel_rfl) hl hs hb hd
 · cases h

theorem slices_Compact___int_int__ok (n : Nat) (p0 : List Int) {r : (List Int)} (h : slices_Compact___int_int_ n p0 = some r) {w : World} {S0 F0 : Nat → Prop} {pa0 : Option Addr} {pn0 pc0 : Nat} (hs : Sep [sl3 (.slice pa0 pn0 pc0) p0] w S0) (hb : ∀ k, S0 k → k < w.heap.size) (hd : ∀ k, S0 k → F0 k → False) :
   Calls Try.prog 110 [.slice pa0 pn0 pc0].toArray w fun e w' => ∃ v, e = .returned v ∧ ∃ a1 c1, v = L a1 r c1 ∧ ∃ S', Stp w S0 w' S' ∧ Sep [sl3 (L a1 r c1) r] w' S' := by
 unfold slices_Compact___int_int_ at h
 obtain ⟨hpn, hs⟩ := hs.relen 0 rfl
 subst hpn
 have hs : Sep [sl3 (L pa0 p0 pc0) p0] w S0 := hs
 have hM0 : Mem w S0 (fun k => F0 k ∧ k < w.heap.size) w S0 (fun k => F0 k ∧ k < w.heap.size) := Mem.start hb (fun _ h => h.2) (fun k h1 h2 => hd k h1 h2.1)
 refine enter (N := 61) Try.func110 rfl Try.ntmps110 rfl fun fr hF => ?_
 refine wp_seq (wp_pure [(0, L pa0 p0 pc0)] hF (by kernel_rfl) fun fr hF => then_normal ?_)
 refine wp_seq ?_
 refine wp_seq (wp_pure [(0, L pa0 p0 pc0), (8, .bool (decide ((len p0) < 2)))] hF (by kernel_rfl) fun fr hF => then_normal ?_)
 refine (wp_if hF (b := (decide ((len p0) < 2))) rfl (fun hb => ?_) (fun hb => ?_))
 · replace h := iteT hb h
   refine wp_seq (wp_pure [(2, L pa0 p0 pc0)] hF (by kernel_rfl) fun fr hF => then_normal ?_)
   obtain rfl := Option.some.inj h
   exact wp_ret (then_ret (ret1 rfl hF rfl ⟨_, rfl, pa0, pc0, rfl, S0, hM0.out, hs⟩))
 replace h := iteF hb h
 refine (wp_skip (then_normal ?_))
 refine wp_seq ?_
 refine wp_seq (wp_pure [(0, L pa0 p0 pc0), (3, I 1)] hF (by kernel_rfl) fun fr hF => then_normal ?_)
 obtain ⟨rl1, hit1, h⟩ := bindE h
 have hk1 := h
 refine (GL.wp_cut (M := fun fr w' => ∃ s, rl1 = .inl s ∧ ∃ S2 F2, FrS 61 [(0, L pa0 p0 pc0)] fr ∧ Mem w S0 (fun k => F0 k ∧ k < w.heap.size) w' S2 F2 ∧ Sep [sl3 (L pa0 p0 pc0) p0] w' S2) (wp_block (wp_iter (Inv := fun s1 fr w' => ∃ S1 F1, FrS 61 [(0, L pa0 p0 pc0), (3, I s1)] fr ∧ Mem w S0 (fun k => F0 k ∧ k < w.heap.size) w' S1 F1 ∧ Sep [sl3 (L pa0 p0 pc0) p0] w' S1) hit1 ⟨S0, _, hF.sub _ (by kernel_rfl), (Mem.start hM0.bd hM0.bdF hM0.dj), hs⟩ fun s1 q1 fr w1i hI h hr1 => ?_)) fun fr w1o hM => ?_)
 · obtain ⟨S1, F1, hF, hM1, hs⟩ := hI
   refine wp_seq ?_
   refine wp_seq (wp_pure [(0, L pa0 p0 pc0), (3, I s1), (13, .bool (decide (s1 < (len p0))))] hF (by kernel_rfl) fun fr hF => then_normal ?_)
   refine (wp_if hF (b := (decide (s1 < (len p0)))) rfl (fun hb => ?_) (fun hb => ?_))
   · replace h := iteT hb h
     refine (wp_skip (then_normal ?_))
     refine wp_seq (wp_block ?_)
     obtain ⟨x1, hx1, h⟩ := bindE h
     obtain ⟨x2, hx2, h⟩ := bindE h
     refine wp_seq (region_bm 10 [0, 0, 3, 7, 0, 0, 32, 112, 240, 511] [true, true, false, false, true, true, true, false, false, true]
         [.eq (L pa0 p0 pc0), .eq (I s1), .is fun v w => ElemP w (fun k => k < w1i.heap.size) v (x1 : Int), .eq (I x1), .eq (L pa0 p0 pc0), .eq (I s1), .eq (I (w64 (s1 - 1))), .is fun v w => ElemP w (fun k => k < w1i.heap.size) v (x2 : Int), .eq (I x2), .eq (.bool (x1 == x2))]
         [(0, L pa0 p0 pc0), (3, I s1), (25, .bool (x1 == x2))] mix hF (by kernel_rfl) (by kernel_rfl) (by kernel_rfl) (by kernel_rfl) ⟨(Pd.monoO_is mono_elem), Pd.monoO_eq, (Pd.monoO_is mono_elem), Pd.monoO_eq, trivial⟩ (fun ow hG => ⟨np_to ow (np_index hG hF ty3 Try.underlying26 rfl rfl (RV.sub (hs.rv 0 rfl) fun k hk _ => hk) rfl rfl (fun hg => ⟨get?_nn hx1, get?_at hx1⟩)), np_to ow (np_loadF (z := x1) (i := 2) hG hF ty3 rfl rfl rfl rfl rfl rfl rfl), np_to ow (np_index hG hF ty3 Try.underlying26 rfl rfl (RV.sub (hs.rv 0 rfl) fun k hk _ => hk) rfl rfl (fun hg => ⟨get?_nn hx2, get?_at hx2⟩)), np_to ow (np_loadF (z := x2) (i := 7) hG hF ty3 rfl rfl rfl rfl rfl rfl rfl), trivial⟩) (by kernel_rfl) fun ow fr w1 hF hE hc => ?_)
     have hs := hs.ext hc
     have hM1 := hM1.ext hc
     refine from_end rfl (then_normal ?_)
     refine (wp_if hF (b := (x1 == x2)) rfl (fun hb => ?_) (fun hb => ?_))
     · replace h := iteT hb h
       refine wp_seq (wp_text' ?_)
       refine from_pure 2 [(0, L pa0 p0 pc0), (3, I s1), (26, L pa0 p0 pc0), (27, I s1)] hF (by kernel_rfl) fun fr hF => ?_
       obtain ⟨x3, hx3, h⟩ := bindE h
       refine s_view ty3 Try.underlying26 rfl rfl hF rfl (hs.rv 0 rfl) ⟨_, rfl⟩ rfl hx3 fun a1 c1 fr hv1 hle1 hF => ?_
       refine from_pure 1 [(0, L pa0 p0 pc0), (3, I s1), (4, L a1 x3 c1)] hF (by kernel_rfl) fun fr hF => ?_
       refine from_end rfl (then_normal ?_)
       refine wp_seq ?_
       refine wp_seq (wp_pure [(0, L pa0 p0 pc0), (3, I s1), (4, L a1 x3 c1), (5, I 1)] hF (by kernel_rfl) fun fr hF => then_normal ?_)
       obtain ⟨rl2, hit2, h⟩ := bindE h
       have hk2 := h
       refine (GL.wp_cut (M := fun fr w' => ∃ S4 F4, FrS 61 [(0, L pa0 p0 pc0), (3, I rl2.1)] fr ∧ Mem w1 S1 F1 w' S4 F4 ∧ Sep [sl3 (L pa0 p0 pc0) rl2.2] w' S4) (wp_block (wp_iter (Inv := fun s2 fr w' => ∃ S3 F3, FrS 61 [(0, L pa0 p0 pc0), (3, I s2.1), (4, L a1 x3 c1), (5, I s2.2.1)] fr ∧ Mem w1 S1 F1 w' S3 F3 ∧ Sep [sl3 (L pa0 p0 pc0) s2.2.2] w' S3) hit2 ⟨S1, _, hF.sub _ (by kernel_rfl), (Mem.start hM1.bd hM1.bdF hM1.dj), hs⟩ fun s2 q2 fr w2i hI h hr2 => ?_)) fun fr w2o hM => ?_)
       · obtain ⟨S3, F3, hF, hM2, hs⟩ := hI
         refine wp_seq ?_
         refine wp_seq (wp_pure [(0, L pa0 p0 pc0), (3, I s2.1), (4, L a1 x3 c1), (5, I s2.2.1), (32, .bool (decide (s2.2.1 < (len x3))))] hF (by kernel_rfl) fun fr hF => then_normal ?_)
         refine (wp_if hF (b := (decide (s2.2.1 < (len x3)))) rfl (fun hb => ?_) (fun hb => ?_))
         · replace h := iteT hb h
           refine (wp_skip (then_normal ?_))
           refine wp_seq (wp_block ?_)
           obtain ⟨x4, hx4, h⟩ := bindE h
           obtain ⟨x5, hx5, h⟩ := bindE h
           refine wp_seq (region_bm 10 [0, 0, 3, 7, 0, 0, 32, 112, 240, 511] [true, true, false, false, true, true, true, false, false, true]
               [.eq (L a1 x3 c1), .eq (I s2.2.1), .is fun v w => ElemP w (fun k => k < w2i.heap.size) v (x4 : Int), .eq (I x4), .eq (L a1 x3 c1), .eq (I s2.2.1), .eq (I (w64 (s2.2.1 - 1))), .is fun v w => ElemP w (fun k => k < w2i.heap.size) v (x5 : Int), .eq (I x5), .eq (.bool (x4 != x5))]
               [(0, L pa0 p0 pc0), (3, I s2.1), (4, L a1 x3 c1), (5, I s2.2.1), (44, .bool (x4 != x5))] mix hF (by kernel_rfl) (by kernel_rfl) (by kernel_rfl) (by kernel_rfl) ⟨(Pd.monoO_is mono_elem), Pd.monoO_eq, (Pd.monoO_is mono_elem), Pd.monoO_eq, trivial⟩ (fun ow hG => ⟨np_to ow (np_index hG hF ty3 Try.underlying26 rfl rfl (RV.sub (view_rv (hs.rv 0 rfl) hv1 (by have h1 := (hs.relen 0 rfl).1; omega)) fun k hk _ => hk) rfl rfl (fun hg => ⟨get?_nn hx4, get?_at hx4⟩)), np_to ow (np_loadF (z := x4) (i := 2) hG hF ty3 rfl rfl rfl rfl rfl rfl rfl), np_to ow (np_index hG hF ty3 Try.underlying26 rfl rfl (RV.sub (view_rv (hs.rv 0 rfl) hv1 (by have h1 := (hs.relen 0 rfl).1; omega)) fun k hk _ => hk) rfl rfl (fun hg => ⟨get?_nn hx5, get?_at hx5⟩)), np_to ow (np_loadF (z := x5) (i := 7) hG hF ty3 rfl rfl rfl rfl rfl rfl rfl), trivial⟩) (by kernel_rfl) fun ow fr w2 hF hE hc => ?_)
           have hs := hs.ext hc
           have hM2 := hM2.ext hc
           refine from_end rfl (then_normal ?_)
           refine (wp_if hF (b := (x4 != x5)) rfl (fun hb => ?_) (fun hb => ?_))
           · replace h := iteT hb h
             refine wp_seq (wp_text' ?_)
             refine from_pure 4 [(0, L pa0 p0 pc0), (3, I s2.1), (4, L a1 x3 c1), (5, I s2.2.1), (45, L pa0 p0 pc0), (46, I s2.1), (47, L a1 x3 c1), (48, I s2.2.1)] hF (by kernel_rfl) fun fr hF => ?_
             obtain ⟨x6, hx6, h⟩ := bindE h
             refine s_elemF (z := x6) (I x6) ty3 Try.underlying26 rfl rfl rfl rfl rfl hF rfl (view_rv (hs.rv 0 rfl) hv1 (by have h1 := (hs.relen 0 rfl).1; omega)) rfl (get?_nn hx6) (get?_at hx6) rfl fun p fr hF => ?_
             obtain ⟨x7, hx7, h⟩ := bindE h
             refine q_set (q := x6) 0 hs hM2 rfl Try.underlying26 ty3 rfl rfl rfl rfl hF rfl rfl (by simp) rfl rfl hx7 fun w3 S5 fr _ hs hp hF => ?_
             have hM2 := hM2.stp hp
             have hs : Sep [sl3 (L pa0 p0 pc0) x7] w3 S5 := hs
             refine from_end rfl (then_normal ?_)
             refine (wp_pure [(0, L pa0 p0 pc0), (3, I (w64 (s2.1 + 1))), (4, L a1 x3 c1), (5, I s2.2.1)] hF (by kernel_rfl) fun fr hF => ?_)
             refine blk_normal (then_normal ?_)
             refine (wp_pure [(0, L pa0 p0 pc0), (3, I (w64 (s2.1 + 1))), (4, L a1 x3 c1), (5, I (w64 (s2.2.1 + 1)))] hF (by kernel_rfl) fun fr hF => then_normal ?_)
             exact ⟨_, (Option.some.inj h).symm, S5, _, hF.sub _ (by kernel_rfl), hM2, hs⟩
           replace h := iteF hb h
           refine (wp_skip ?_)
           refine blk_normal (then_normal ?_)
           refine (wp_pure [(0, L pa0 p0 pc0), (3, I s2.1), (4, L a1 x3 c1), (5, I (w64 (s2.2.1 + 1)))] hF (by kernel_rfl) fun fr hF => then_normal ?_)
           exact ⟨_, (Option.some.inj h).symm, S3, _, hF.sub _ (by kernel_rfl), hM2, hs⟩
         replace h := iteF hb h
         refine (wp_exit (then_exit (then_exit (blk_exit_eq ?_))))
         obtain rfl := hr2 _ (Option.some.inj h).symm
         exact then_normal ⟨S3, _, hF.sub _ (by kernel_rfl), hM2, hs⟩
       · obtain ⟨S4, F4, hF, hMx, hs⟩ := hM
         have hM1 := hM1.trans hMx
         refine wp_seq (wp_text' ?_)
         refine from_pure 2 [(0, L pa0 p0 pc0), (3, I rl2.1), (54, L pa0 p0 pc0), (55, I rl2.1)] hF (by kernel_rfl) fun fr hF => ?_
         obtain ⟨x8, hx8, h⟩ := bindE h
         refine s_view ty3 Try.underlying26 rfl rfl hF rfl (hs.rv 0 rfl) ⟨_, rfl⟩ (by have h1 := (hs.relen 0 rfl).1; show len p0 = ((List.length rl2.2 : Nat) : Int); unfold len; omega) hx8 fun a2 c2 fr hv2 hle2 hF => ?_
         have hle2 := (show (rl2.1).toNat + List.length x8 ≤ List.length p0 by have h1 := (hs.relen 0 rfl).1; omega)
         refine q_clearV (z := 0) (zv := I 0) 0 hs hM1 rfl Try.underlying26 (fun w => by kernel_rfl) rfl rfl hF rfl (hv2) (by have h1 := (hs.relen 0 rfl).1; omega) fun w4 S6 hs hp hF => ?_
         have hM1 := hM1.stp hp
         have hs : Sep [sl3 (L pa0 p0 pc0) (vclear 0 rl2.2 rl2.1 (List.length x8))] w4 S6 := hs
         refine from_end rfl (then_normal ?_)
         refine wp_seq (wp_text' ?_)
         refine from_pure 2 [(57, L pa0 p0 pc0), (58, I rl2.1)] hF (by kernel_rfl) fun fr hF => ?_
         obtain ⟨x9, hx9, h⟩ := bindE h
         refine q_front 0 hs hM1 rfl Try.underlying26 ty3 rfl rfl hF rfl (.inl rfl) rfl hx9 fun c3 w5 S7 fr hs hp hF => ?_
         have hM1 := hM1.stp hp
         have hs : Sep [sl3 (L pa0 x9 c3) x9] w5 S7 := hs
         refine from_pure 1 [(2, L pa0 x9 c3)] hF (by kernel_rfl) fun fr hF => ?_
         refine from_end rfl (then_normal ?_)
         obtain rfl := hr1 _ (Option.some.inj h).symm
         obtain rfl := Option.some.inj hk1
         exact wp_ret (blk_ret (then_ret (then_ret (blk_ret (then_ret (ret1 rfl hF rfl ⟨_, rfl, pa0, c3, rfl, S7, (hM0.trans hM1).out, hs⟩))))))
     replace h := iteF hb h
     refine (wp_skip ?_)
     refine blk_normal (then_normal ?_)
     refine (wp_pure [(0, L pa0 p0 pc0), (3, I (w64 (s1 + 1)))] hF (by kernel_rfl) fun fr hF => then_normal ?_)
     exact ⟨_, (Option.some.inj h).symm, S1, _, hF.sub _ (by kernel_rfl), hM1, hs⟩
   replace h := iteF hb h
   refine (wp_exit (then_exit (then_exit (blk_exit_eq ?_))))
   obtain rfl := hr1 _ (Option.some.inj h).symm
   exact then_normal ⟨_, rfl, S1, _, hF.sub _ (by kernel_rfl), hM1, hs⟩
 · obtain ⟨s1r, rfl, hM⟩ := hM
   obtain ⟨S2, F2, hF, hMx, hs⟩ := hM
   have hM0 := hM0.trans hMx
   refine wp_seq (wp_pure [(2, L pa0 p0 pc0)] hF (by kernel_rfl) fun fr hF => then_normal ?_)
   obtain rfl := Option.some.inj h
   exact wp_ret (ret1 rfl hF rfl ⟨_, rfl, pa0, pc0, rfl, S2, hM0.out, hs⟩)

theorem impl_ascending_ok (n : Nat) (p0 : List Int) {r : (List Int)} (h : impl_ascending n p0 = some r) {w : World} {S0 F0 : Nat → Prop} {pa0 : Option Addr} {pn0 pc0 : Nat} (hs : Sep [sl3 (.slice pa0 pn0 pc0) p0] w S0) (hb : ∀ k, S0 k → k < w.heap.size) (hd : ∀ k, S0 k → F0 k → False) :
   Calls Try.prog 61 [.slice pa0 pn0 pc0].toArray w fun e w' => ∃ v, e = .returned v ∧ ∃ a1 c1, v = L a1 r c1 ∧ ∃ S', Stp w S0 w' S' ∧ Sep [sl3 (L a1 r c1) r] w' S' := by
 unfold impl_ascending at h
 obtain ⟨hpn, hs⟩ := hs.relen 0 rfl
 subst hpn
 have hs : Sep [sl3 (L pa0 p0 pc0) p0] w S0 := hs
 have hM0 : Mem w S0 (fun k => F0 k ∧ k < w.heap.size) w S0 (fun k => F0 k ∧ k < w.heap.size) := Mem.start hb (fun _ h => h.2) (fun k h1 h2 => hd k h1 h2.1)
 refine enter (N := 7) Try.func61 rfl Try.ntmps61 rfl fun fr hF => ?_
 refine wp_seq (wp_pure [(0, L pa0 p0 pc0)] hF (by kernel_rfl) fun fr hF => then_normal ?_)
 refine wp_seq (wp_text' ?_)
 refine from_pure 1 [(0, L pa0 p0 pc0), (3, L pa0 p0 pc0)] hF (by kernel_rfl) fun fr hF => ?_
 obtain ⟨x1, hx1, h⟩ := bindE h
 obtain ⟨A1, R1, hsA, hsR, hdA, hbA, hup⟩ := Sep.call (L1 := [sl3 (L pa0 p0 pc0) p0]) (L2 := []) hs hM0
 refine s_call [L pa0 p0 pc0] Try.call109 rfl rfl hF rfl (slices_Sort___int_int__ok p0 hx1 hsA hbA hdA) fun v w1 fr hRes hF => ?_
 obtain ⟨rfl, _, hp, hs⟩ := hRes
 obtain ⟨S1, hp, hs⟩ := hup hp hs
 have hM0 := hM0.stp hp
 have hs : Sep [sl3 (L pa0 p0 pc0) x1] w1 S1 := hs
 refine from_end rfl (then_normal ?_)
 refine wp_seq (wp_text' ?_)
 refine from_pure 1 [(5, L pa0 p0 pc0)] hF (by kernel_rfl) fun fr hF => ?_
 obtain ⟨x2, hx2, h⟩ := bindE h
 obtain ⟨A2, R2, hsA, hsR, hdA, hbA, hup⟩ := Sep.call (L1 := [sl3 (L pa0 p0 pc0) x1]) (L2 := []) hs hM0
 refine s_call [L pa0 p0 pc0] Try.call110 rfl rfl hF rfl (slices_Compact___int_int__ok n x1 hx2 hsA hbA hdA) fun v w2 fr hRes hF => ?_
 obtain ⟨a1, c1, rfl, _, hp, hs⟩ := hRes
 obtain ⟨S2, hp, hs⟩ := hup hp hs
 have hM0 := hM0.stp hp
 have hs : Sep [sl3 (L a1 x2 c1) x2] w2 S2 := hs
 refine from_pure 1 [(2, L a1 x2 c1)] hF (by kernel_rfl) fun fr hF => ?_
 refine from_end rfl (then_normal ?_)
 obtain rfl := Option.some.inj h
 exact wp_ret (ret1 rfl hF rfl ⟨_, rfl, a1, c1, rfl, S2, hM0.out, hs⟩)

theorem impl_NextOf_ok (n : Nat) (p0 : D.Program) (p1 : Int) {r : (List Int)} (h : impl_NextOf n p0 p1 = some r) {w : World} {G0 : Nat → Prop} {va0 : Value} (ra0 : RV w G0 va0 p0) :
   Calls Try.prog 14 [va0, I p1].toArray w fun e w' => ∃ v, e = .returned v ∧ ∃ a1 c1, v = L a1 r c1 ∧ ∃ S', Stp w Non w' S' ∧ Sep [sl3 (L a1 r c1) r] w' S' := by
 unfold impl_NextOf at h
 have hs := Sep.nil w Non
 have hM0 : Mem w Non (fun k => (G0 k) ∧ k < w.heap.size) w Non (fun k => (G0 k) ∧ k < w.heap.size) := Mem.start (fun _ h => h.elim) (fun _ h => h.2) (fun _ h => h.elim)
 have ra0 := ra0.sub (F' := (fun k => (G0 k) ∧ k < w.heap.size)) (fun k hk h => ⟨h, hk⟩)
 obtain ⟨v1, rfl, r1⟩ := RV.Program ra0
 obtain ⟨a1, c1, rfl, -⟩ := r1.slice
 refine enter (N := 47) Try.func14 rfl Try.ntmps14 rfl fun fr hF => ?_
 refine wp_seq (wp_text' ?_)
 refine q_box hs hM0 [I p0.W, I p0.Mem, I p0.In, L a1 p0.Code c1] rfl rfl hF rfl rfl fun b1 w1 S1 fr hs hp hF => ?_
 have r1 := r1.stp hM0 hp
 have hM0 := hM0.stp hp
 have hs : Sep [BX b1 30 [I p0.W, I p0.Mem, I p0.In, L a1 p0.Code c1]] w1 S1 := hs
 refine from_pure 1 [(1, I p1), (2, B b1 0)] hF (by kernel_rfl) fun fr hF => ?_
 refine from_end rfl (then_normal ?_)
 refine wp_seq ?_
 obtain ⟨x1, hx1, h⟩ := bindE h
 refine wp_seq (region_b [] [false, false, true, true, true, true, true, true, true, true, false, true, true, true]
     [.eq (.agg #[I p0.W, I p0.Mem, I p0.In, L a1 p0.Code c1]), .eq (.bool x1), .eq (.bool (!x1)), .eq (.bool (!x1)), .eq (I p1), .eq (.bool (decide (p1 < 0))), .eq (.bool ((!x1) || (decide (p1 < 0)))), .eq (.bool ((!x1) || (decide (p1 < 0)))), .eq (I p1), .eq (B b1 3), .eq (L a1 p0.Code c1), .eq (I (len p0.Code)), .eq (.bool (decide (p1 ≥ (len p0.Code)))), .eq (.bool (((!x1) || (decide (p1 < 0))) || (decide (p1 ≥ (len p0.Code)))))]
     [(1, I p1), (2, B b1 0), (19, .bool (((!x1) || (decide (p1 < 0))) || (decide (p1 ≥ (len p0.Code)))))] mix hF (by kernel_rfl) (by kernel_rfl) (by kernel_rfl) ⟨Pd.mono_eq, Pd.mono_eq, Pd.mono_eq, trivial⟩ (fun hG => ⟨np_loadBoxS hG hF ty30 rfl rfl (hs.bx 0 rfl) rfl rfl rfl rfl, np_call [.agg #[I p0.W, I p0.Mem, I p0.In, L a1 p0.Code c1]] hG hF Try.call60 rfl rfl (fun w hC hg => (impl_ProgramOk_ok n p0 hx1 ((RV.mk_Program p0 (r1)).ext hC)).mono fun e w' ⟨v, he, hv, hc⟩ => ⟨v, he, hc, hv⟩), np_loadBox hG hF ty28 rfl rfl (hs.bx 0 rfl) rfl rfl rfl, trivial⟩) (by kernel_rfl) fun fr w2 hF hE hc => then_normal ?_)
 have r1 := r1.ext hc
 have hs := hs.ext hc
 have hM0 := hM0.ext hc
 refine (wp_if hF (b := (((!x1) || (decide (p1 < 0))) || (decide (p1 ≥ (len p0.Code))))) rfl (fun hb => ?_) (fun hb => ?_))
 · replace h := iteT hb h
   have hs : Sep [] w2 S1 := Sep.pick [] hs (by decide) rfl
   refine wp_seq (wp_pure [(4, L none ([] : List Int) 0)] hF (by kernel_rfl) fun fr hF => then_normal ?_)
   have hs : Sep [sl3 (L none ([] : List Int) 0) ([] : List Int)] w2 S1 := hs.cons_nil (α := Int) 3
   obtain rfl := Option.some.inj h
   exact wp_ret (then_ret (ret1 rfl hF rfl ⟨_, rfl, none, 0, rfl, S1, hM0.out, hs⟩))
 replace h := iteF hb h
 refine (wp_skip (then_normal ?_))
 refine wp_seq (wp_text' ?_)
 refine from_pure 1 [(1, I p1), (20, B b1 3)] hF (by kernel_rfl) fun fr hF => ?_
 refine s_loadBox (L a1 p0.Code c1) ty28 rfl rfl hF rfl (hs.bx 0 rfl) rfl rfl fun fr hF => ?_
 have hs : Sep [] w2 S1 := Sep.pick [] hs (by decide) rfl
 refine from_pure 1 [(1, I p1), (21, L a1 p0.Code c1), (22, I p1)] hF (by kernel_rfl) fun fr hF => ?_
 obtain ⟨x2, hx2, h⟩ := bindE h
 refine s_elemF (z := x2) (.agg #[I x2.Op, I x2.A, I x2.B, I x2.C]) ty90 Try.underlying28 rfl rfl rfl rfl rfl hF rfl (r1) rfl (get?_nn hx2) (get?_at hx2) rfl fun p fr hF => ?_
 refine q_alloc (z := .agg #[I 0, I 0, I 0, I 0]) hs hM0 [I 0, I 0, I 0, I 0] rfl rfl hF (by kernel_rfl) rfl fun b2 w3 S2 fr hs hp hF => ?_
 have hM0 := hM0.stp hp
 have hs : Sep [BX b2 90 [I 0, I 0, I 0, I 0]] w3 S2 := hs
 refine q_storeBoxS 0 hs hM0 rfl [I x2.Op, I x2.A, I x2.B, I x2.C] rfl hF rfl rfl (by kernel_rfl) rfl rfl rfl fun w4 S3 hs hp hF => ?_
 have hM0 := hM0.stp hp
 have hs : Sep [BX b2 90 [I x2.Op, I x2.A, I x2.B, I x2.C]] w4 S3 := hs
 refine from_end rfl (then_normal ?_)
 refine wp_seq ?_
 refine wp_seq (wp_text' ?_)
 refine from_pure 1 [(1, I p1), (5, B b2 0), (25, B b2 0)] hF (by kernel_rfl) fun fr hF => ?_
 refine s_loadBox (I x2.Op) ty3 rfl rfl hF rfl (hs.bx 0 rfl) rfl rfl fun fr hF => ?_
 refine from_end rfl (then_normal ?_)
 refine (wp_block ?_)
 refine wp_seq (wp_pure [(1, I p1), (5, B b2 0), (26, I x2.Op), (27, .bool (x2.Op == 9))] hF (by kernel_rfl) fun fr hF => then_normal ?_)
 refine (wp_if hF (b := (x2.Op == 9)) rfl (fun hb => ?_) (fun hb => ?_))
 · replace h := iteT hb h
   refine wp_seq (wp_text' ?_)
   refine from_pure 1 [(29, B b2 2)] hF (by kernel_rfl) fun fr hF => ?_
   refine s_loadBox (I x2.B) ty3 rfl rfl hF rfl (hs.bx 0 rfl) rfl rfl fun fr hF => ?_
   have hs : Sep [] w4 S3 := Sep.pick [] hs (by decide) rfl
   refine q_lit (E := 3) hs hM0 [I x2.B] (([x2.B] : List Int).map Flat.enc) ([x2.B] : List Int) rfl rfl hF [I x2.B] rfl (fun w => by kernel_rfl) (css_flat _) rfl rfl rfl fun a2 c2 w5 S4 fr hs hp hF => ?_
   have hM0 := hM0.stp hp
   have hs : Sep [sl3 (L a2 ([x2.B] : List Int) c2) ([x2.B] : List Int)] w5 S4 := hs
   refine from_pure 1 [(4, L a2 ([x2.B] : List Int) c2)] hF (by kernel_rfl) fun fr hF => ?_
   refine from_end rfl (then_normal ?_)
   obtain rfl := Option.some.inj h
   exact wp_ret (blk_ret (then_ret (ret1 rfl hF rfl ⟨_, rfl, a2, c2, rfl, S4, hM0.out, hs⟩)))
 replace h := iteF hb h
 refine wp_seq ?_
 refine wp_seq (wp_pure [(1, I p1), (5, B b2 0), (26, I x2.Op), (32, .bool (x2.Op == 10))] hF (by kernel_rfl) fun fr hF => then_normal ?_)
 refine (wp_merge [(1, I p1), (5, B b2 0), (26, I x2.Op), (32, .bool ((x2.Op == 10) || (x2.Op == 11)))] hF (b := (x2.Op == 10)) rfl (fun hb => ?_) (fun hb => ?_) fun fr hF => then_normal ?_)
 · exact wp_skip ⟨rfl, rfl, (hF.sub [(1, I p1), (5, B b2 0), (26, I x2.Op), (32, .bool (x2.Op == 10))] (by kernel_rfl)).eqs (by first | (simp only [hb]; done) | (simp only [hb]; rfl))⟩
 · exact wp_pure [(1, I p1), (5, B b2 0), (26, I x2.Op), (32, .bool (x2.Op == 11))] hF (by kernel_rfl) fun fr hF => ⟨rfl, rfl, hF.eqs (by first | (simp only [hb]; done) | (simp only [hb]; rfl))⟩
 refine (wp_if hF (b := ((x2.Op == 10) || (x2.Op == 11))) rfl (fun hb => ?_) (fun hb => ?_))
 · replace h := iteT hb h
   refine wp_seq (wp_text' ?_)
   refine from_pure 3 [(36, I (w64 (p1 + 1))), (37, B b2 2)] hF (by kernel_rfl) fun fr hF => ?_
   refine s_loadBox (I x2.B) ty3 rfl rfl hF rfl (hs.bx 0 rfl) rfl rfl fun fr hF => ?_
   have hs : Sep [] w4 S3 := Sep.pick [] hs (by decide) rfl
   refine q_lit (E := 3) hs hM0 [I (w64 (p1 + 1)), I x2.B] (([(w64 (p1 + 1)), x2.B] : List Int).map Flat.enc) ([(w64 (p1 + 1)), x2.B] : List Int) rfl rfl hF [I (w64 (p1 + 1)), I x2.B] rfl (fun w => by kernel_rfl) (css_flat _) rfl rfl rfl fun a3 c3 w6 S5 fr hs hp hF => ?_
   have hM0 := hM0.stp hp
   have hs : Sep [sl3 (L a3 ([(w64 (p1 + 1)), x2.B] : List Int) c3) ([(w64 (p1 + 1)), x2.B] : List Int)] w6 S5 := hs
   obtain ⟨x3, hx3, h⟩ := bindE h
   obtain ⟨A1, R1, hsA, hsR, hdA, hbA, hup⟩ := Sep.call (L1 := [sl3 (L a3 ([(w64 (p1 + 1)), x2.B] : List Int) c3) ([(w64 (p1 + 1)), x2.B] : List Int)]) (L2 := []) hs hM0
   refine s_call [L a3 ([(w64 (p1 + 1)), x2.B] : List Int) c3] Try.call61 rfl rfl hF rfl (impl_ascending_ok n ([(w64 (p1 + 1)), x2.B] : List Int) hx3 hsA hbA hdA) fun v w7 fr hRes hF => ?_
   obtain ⟨a4, c4, rfl, _, hp, hs⟩ := hRes
   obtain ⟨S6, hp, hs⟩ := hup hp hs
   have hM0 := hM0.stp hp
   have hs : Sep [sl3 (L a4 x3 c4) x3] w7 S6 := hs
   refine from_pure 1 [(4, L a4 x3 c4)] hF (by kernel_rfl) fun fr hF => ?_
   refine from_end rfl (then_normal ?_)
   obtain rfl := Option.some.inj h
   exact wp_ret (blk_ret (then_ret (ret1 rfl hF rfl ⟨_, rfl, a4, c4, rfl, S6, hM0.out, hs⟩)))
 replace h := iteF hb h
 have hs : Sep [] w4 S3 := Sep.pick [] hs (by decide) rfl
 refine wp_seq ?_
 refine wp_seq (wp_pure [(1, I p1), (26, I x2.Op), (41, .bool (x2.Op == 12))] hF (by kernel_rfl) fun fr hF => then_normal ?_)
 refine (wp_merge [(1, I p1), (41, .bool ((x2.Op == 12) || (x2.Op == 14)))] hF (b := (x2.Op == 12)) rfl (fun hb => ?_) (fun hb => ?_) fun fr hF => then_normal ?_)
 · exact wp_skip ⟨rfl, rfl, (hF.sub [(1, I p1), (41, .bool (x2.Op == 12))] (by kernel_rfl)).eqs (by first | (simp only [hb]; done) | (simp only [hb]; rfl))⟩
 · exact wp_pure [(1, I p1), (41, .bool (x2.Op == 14))] hF (by kernel_rfl) fun fr hF => ⟨rfl, rfl, hF.eqs (by first | (simp only [hb]; done) | (simp only [hb]; rfl))⟩
 refine (wp_if hF (b := ((x2.Op == 12) || (x2.Op == 14))) rfl (fun hb => ?_) (fun hb => ?_))
 · replace h := iteT hb h
   refine wp_seq (wp_pure [(4, L none ([] : List Int) 0)] hF (by kernel_rfl) fun fr hF => then_normal ?_)
   have hs : Sep [sl3 (L none ([] : List Int) 0) ([] : List Int)] w4 S3 := hs.cons_nil (α := Int) 3
   obtain rfl := Option.some.inj h
   exact wp_ret (blk_ret (then_ret (ret1 rfl hF rfl ⟨_, rfl, none, 0, rfl, S3, hM0.out, hs⟩)))
 replace h := iteF hb h
 refine (wp_skip ?_)
 refine blk_normal (then_normal ?_)
 refine wp_seq (wp_text' ?_)
 refine from_pure 2 [(45, I (w64 (p1 + 1)))] hF (by kernel_rfl) fun fr hF => ?_
 refine q_lit (E := 3) hs hM0 [I (w64 (p1 + 1))] (([(w64 (p1 + 1))] : List Int).map Flat.enc) ([(w64 (p1 + 1))] : List Int) rfl rfl hF [I (w64 (p1 + 1))] rfl (fun w => by kernel_rfl) (css_flat _) rfl rfl rfl fun a5 c5 w8 S7 fr hs hp hF => ?_
 have hM0 := hM0.stp hp
 have hs : Sep [sl3 (L a5 ([(w64 (p1 + 1))] : List Int) c5) ([(w64 (p1 + 1))] : List Int)] w8 S7 := hs
 refine from_pure 1 [(4, L a5 ([(w64 (p1 + 1))] : List Int) c5)] hF (by kernel_rfl) fun fr hF => ?_
 refine from_end rfl (then_normal ?_)
 obtain rfl := Option.some.inj h
 exact wp_ret (ret1 rfl hF rfl ⟨_, rfl, a5, c5, rfl, S7, hM0.out, hs⟩)
end Go.Proofs.Ytknlknnihinmjaa
