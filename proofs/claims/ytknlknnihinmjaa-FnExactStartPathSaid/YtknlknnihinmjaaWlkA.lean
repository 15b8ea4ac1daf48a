/- Printed by gen2.py: the walks. -/
import Derived.Test.YtknlknnihinmjaaGLt
import Derived.Test.YtknlknnihinmjaaGLn
import Derived.Test.YtknlknnihinmjaaDefs
import Derived.Test.YtknlknnihinmjaaProg
import Derived.KernelRfl
import Derived.DeepKeys4
import Derived.Test.YtknlknnihinmjaaGLA
set_option linter.unusedVariables false
set_option maxRecDepth 100000
namespace Go.Proofs.Ytknlknnihinmjaa
open Go.GL Go.Maps Go.WideMaps
abbrev I (x : Int) : Value := .int .i64 x
abbrev L {α : Type} (a : Option Addr) (l : List α) (c : Nat) : Value := .slice a (List.length l) c
abbrev B (b n : Nat) : Value := .pointer (some ⟨b, n, none⟩)
abbrev sl121 : Value → List D.Term → HP := SL 121
abbrev sl3 : Value → List Int → HP := SL 3
abbrev sl5 : Value → List Byt → HP := SL 5
abbrev sl90 : Value → List D.Ins → HP := SL 90
theorem mix : Try.prog.follows .mixedOrders = true := by kernel_rfl
theorem ty3 : Ty Try.prog 3 Int := ⟨by kernel_rfl, by kernel_rfl⟩
theorem ty9 : Ty Try.prog 9 Str := ⟨by kernel_rfl, by kernel_rfl⟩
theorem ty22 : Ty Try.prog 22 (List D.Ins) := ⟨by kernel_rfl, by kernel_rfl⟩
theorem ty24 : Ty Try.prog 24 D.Program := ⟨by kernel_rfl, by kernel_rfl⟩
theorem ty26 : Ty Try.prog 26 (List Int) := ⟨by kernel_rfl, by kernel_rfl⟩
theorem ty28 : Ty Try.prog 28 (List D.Ins) := ⟨by kernel_rfl, by kernel_rfl⟩
theorem ty30 : Ty Try.prog 30 D.Program := ⟨by kernel_rfl, by kernel_rfl⟩
theorem ty73 : Ty Try.prog 73 (List D.Term) := ⟨by kernel_rfl, by kernel_rfl⟩
theorem ty75 : Ty Try.prog 75 D.Path := ⟨by kernel_rfl, by kernel_rfl⟩
theorem ty90 : Ty Try.prog 90 D.Ins := ⟨by kernel_rfl, by kernel_rfl⟩
theorem ty121 : Ty Try.prog 121 D.Term := ⟨by kernel_rfl, by kernel_rfl⟩
theorem ty133 : Ty Try.prog 133 D.Ins := ⟨by kernel_rfl, by kernel_rfl⟩
theorem el90 : ElT Try.prog 90 D.Ins := elT (by kernel_rfl)
theorem el121 : ElT Try.prog 121 D.Term := elT (by kernel_rfl)

theorem laws_szInsS_ok (p0 : List D.Ins) (p1 : Int) {r : Int} (h : laws_szInsS p0 p1 = some r) {w : World} {G0 : Nat → Prop} {va0 : Value} (ra0 : RV w G0 va0 p0) :
   Calls Try.prog 56 [va0, I p1].toArray w fun e w' => ∃ v, e = .returned v ∧ v = I r ∧ Chg Non w w' := by
 unfold laws_szInsS at h
 have hs := Sep.nil w Non
 have hM0 : Mem w Non (fun k => (G0 k) ∧ k < w.heap.size) w Non (fun k => (G0 k) ∧ k < w.heap.size) := Mem.start (fun _ h => h.elim) (fun _ h => h.2) (fun _ h => h.elim)
 have ra0 := ra0.sub (F' := (fun k => (G0 k) ∧ k < w.heap.size)) (fun k hk h => ⟨h, hk⟩)
 obtain ⟨a1, c1, rfl, -⟩ := ra0.slice
 refine enter (N := 12) Try.func56 rfl Try.ntmps56 rfl fun fr hF => ?_
 refine wp_seq (wp_pure [(0, L a1 p0 c1), (1, I p1)] hF (by kernel_rfl) fun fr hF => then_normal ?_)
 refine wp_seq (wp_pure [(1, I (w64 (p1 - (len p0))))] hF (by kernel_rfl) fun fr hF => then_normal ?_)
 refine wp_seq ?_
 refine wp_seq (wp_pure [(1, I (w64 (p1 - (len p0)))), (10, .bool (decide ((w64 (p1 - (len p0))) < 0)))] hF (by kernel_rfl) fun fr hF => then_normal ?_)
 refine (wp_if hF (b := (decide ((w64 (p1 - (len p0))) < 0))) rfl (fun hb => ?_) (fun hb => ?_))
 · replace h := iteT hb h
   refine wp_seq (wp_pure [(4, I (-1))] hF (by kernel_rfl) fun fr hF => then_normal ?_)
   obtain rfl := Option.some.inj h
   exact wp_ret (then_ret (ret1 rfl hF rfl ⟨_, rfl, rfl, hM0.chg⟩))
 replace h := iteF hb h
 refine (wp_skip (then_normal ?_))
 refine wp_seq (wp_pure [(4, I (w64 (p1 - (len p0))))] hF (by kernel_rfl) fun fr hF => then_normal ?_)
 obtain rfl := Option.some.inj h
 exact wp_ret (ret1 rfl hF rfl ⟨_, rfl, rfl, hM0.chg⟩)

theorem laws_szProgram_ok (p0 : D.Program) (p1 : Int) {r : Int} (h : laws_szProgram p0 p1 = some r) {w : World} {G0 : Nat → Prop} {va0 : Value} (ra0 : RV w G0 va0 p0) :
   Calls Try.prog 11 [va0, I p1].toArray w fun e w' => ∃ v, e = .returned v ∧ v = I r ∧ Chg Non w w' := by
 unfold laws_szProgram at h
 have hs := Sep.nil w Non
 have hM0 : Mem w Non (fun k => (G0 k) ∧ k < w.heap.size) w Non (fun k => (G0 k) ∧ k < w.heap.size) := Mem.start (fun _ h => h.elim) (fun _ h => h.2) (fun _ h => h.elim)
 have ra0 := ra0.sub (F' := (fun k => (G0 k) ∧ k < w.heap.size)) (fun k hk h => ⟨h, hk⟩)
 obtain ⟨v1, rfl, r1⟩ := RV.Program ra0
 obtain ⟨a1, c1, rfl, -⟩ := r1.slice
 refine enter (N := 12) Try.func11 rfl Try.ntmps11 rfl fun fr hF => ?_
 refine wp_seq (wp_text' ?_)
 refine q_box hs hM0 [I p0.W, I p0.Mem, I p0.In, L a1 p0.Code c1] rfl rfl hF rfl rfl fun b1 w1 S1 fr hs hp hF => ?_
 have r1 := r1.stp hM0 hp
 have hM0 := hM0.stp hp
 have hs : Sep [BX b1 24 [I p0.W, I p0.Mem, I p0.In, L a1 p0.Code c1]] w1 S1 := hs
 refine from_pure 1 [(1, I p1), (2, B b1 0)] hF (by kernel_rfl) fun fr hF => ?_
 refine from_end rfl (then_normal ?_)
 refine wp_seq (wp_text' ?_)
 refine from_pure 1 [(1, I p1), (5, B b1 3)] hF (by kernel_rfl) fun fr hF => ?_
 refine s_loadBox (L a1 p0.Code c1) ty22 rfl rfl hF rfl (hs.bx 0 rfl) rfl rfl fun fr hF => ?_
 have hs : Sep [] w1 S1 := Sep.pick [] hs (by decide) rfl
 refine from_pure 1 [(6, L a1 p0.Code c1), (7, I p1)] hF (by kernel_rfl) fun fr hF => ?_
 obtain ⟨x1, hx1, h⟩ := bindE h
 refine s_call [L a1 p0.Code c1, I p1] Try.call56 rfl rfl hF rfl (laws_szInsS_ok p0.Code p1 hx1 (r1)) fun v w2 fr hRes hF => ?_
 obtain ⟨rfl, hc⟩ := hRes
 have r1 := r1.ext hc
 have hs := hs.ext hc
 have hM0 := hM0.ext hc
 refine from_pure 1 [(1, I x1)] hF (by kernel_rfl) fun fr hF => ?_
 refine from_end rfl (then_normal ?_)
 refine wp_seq ?_
 refine wp_seq (wp_pure [(1, I x1), (10, .bool (decide (x1 < 0)))] hF (by kernel_rfl) fun fr hF => then_normal ?_)
 refine (wp_if hF (b := (decide (x1 < 0))) rfl (fun hb => ?_) (fun hb => ?_))
 · replace h := iteT hb h
   refine wp_seq (wp_pure [(4, I (-1))] hF (by kernel_rfl) fun fr hF => then_normal ?_)
   obtain rfl := Option.some.inj h
   exact wp_ret (then_ret (ret1 rfl hF rfl ⟨_, rfl, rfl, hM0.chg⟩))
 replace h := iteF hb h
 refine (wp_skip (then_normal ?_))
 refine wp_seq (wp_pure [(4, I x1)] hF (by kernel_rfl) fun fr hF => then_normal ?_)
 obtain rfl := Option.some.inj h
 exact wp_ret (ret1 rfl hF rfl ⟨_, rfl, rfl, hM0.chg⟩)

theorem laws_toIns_ok (p0 : D.Ins) {r : D.Ins} (h : laws_toIns p0 = some r) {w : World} :
   Calls Try.prog 105 [.agg #[I p0.Op, I p0.A, I p0.B, I p0.C]].toArray w fun e w' => ∃ v, e = .returned v ∧ v = .agg #[I r.Op, I r.A, I r.B, I r.C] ∧ Chg Non w w' := by
 unfold laws_toIns at h
 have hs := Sep.nil w Non
 have hM0 : Mem w Non (fun k => (False) ∧ k < w.heap.size) w Non (fun k => (False) ∧ k < w.heap.size) := Mem.start (fun _ h => h.elim) (fun _ h => h.2) (fun _ h => h.elim)
 refine enter (N := 17) Try.func105 rfl Try.ntmps105 rfl fun fr hF => ?_
 refine wp_seq (wp_text' ?_)
 refine q_box hs hM0 [I p0.Op, I p0.A, I p0.B, I p0.C] rfl rfl hF rfl rfl fun b1 w1 S1 fr hs hp hF => ?_
 have hM0 := hM0.stp hp
 have hs : Sep [BX b1 133 [I p0.Op, I p0.A, I p0.B, I p0.C]] w1 S1 := hs
 refine q_alloc (z := .agg #[I 0, I 0, I 0, I 0]) hs hM0 [I 0, I 0, I 0, I 0] rfl rfl hF (by kernel_rfl) rfl fun b2 w2 S2 fr hs hp hF => ?_
 have hM0 := hM0.stp hp
 have hs : Sep [BX b2 90 [I 0, I 0, I 0, I 0], BX b1 133 [I p0.Op, I p0.A, I p0.B, I p0.C]] w2 S2 := hs
 refine from_end rfl (then_normal ?_)
 refine wp_seq (wp_text' ?_)
 refine q_alloc (z := .agg #[I 0, I 0, I 0, I 0]) hs hM0 [I 0, I 0, I 0, I 0] rfl rfl hF (by kernel_rfl) rfl fun b3 w3 S3 fr hs hp hF => ?_
 have hM0 := hM0.stp hp
 have hs : Sep [BX b3 90 [I 0, I 0, I 0, I 0], BX b2 90 [I 0, I 0, I 0, I 0], BX b1 133 [I p0.Op, I p0.A, I p0.B, I p0.C]] w3 S3 := hs
 refine from_end rfl (then_normal ?_)
 refine wp_seq (wp_text' ?_)
 refine from_pure 1 [(1, B b1 0), (2, B b2 0), (3, B b3 0), (4, B b1 0)] hF (by kernel_rfl) fun fr hF => ?_
 refine s_loadBox (I p0.Op) ty3 rfl rfl hF rfl (hs.bx 2 rfl) rfl rfl fun fr hF => ?_
 refine from_pure 1 [(1, B b1 0), (2, B b2 0), (3, B b3 0), (5, I p0.Op), (6, B b3 0)] hF (by kernel_rfl) fun fr hF => ?_
 refine q_storeBox 0 hs hM0 rfl [I p0.Op, I 0, I 0, I 0] rfl hF rfl rfl (by kernel_rfl) rfl rfl rfl fun w4 S4 hs hp hF => ?_
 have hM0 := hM0.stp hp
 have hs : Sep [BX b3 90 [I p0.Op, I 0, I 0, I 0], BX b2 90 [I 0, I 0, I 0, I 0], BX b1 133 [I p0.Op, I p0.A, I p0.B, I p0.C]] w4 S4 := hs
 refine from_end rfl (then_normal ?_)
 refine wp_seq (wp_text' ?_)
 refine from_pure 1 [(1, B b1 0), (2, B b2 0), (3, B b3 0), (7, B b1 1)] hF (by kernel_rfl) fun fr hF => ?_
 refine s_loadBox (I p0.A) ty3 rfl rfl hF rfl (hs.bx 2 rfl) rfl rfl fun fr hF => ?_
 refine from_pure 1 [(1, B b1 0), (2, B b2 0), (3, B b3 0), (8, I p0.A), (9, B b3 1)] hF (by kernel_rfl) fun fr hF => ?_
 refine q_storeBox 0 hs hM0 rfl [I p0.Op, I p0.A, I 0, I 0] rfl hF rfl rfl (by kernel_rfl) rfl rfl rfl fun w5 S5 hs hp hF => ?_
 have hM0 := hM0.stp hp
 have hs : Sep [BX b3 90 [I p0.Op, I p0.A, I 0, I 0], BX b2 90 [I 0, I 0, I 0, I 0], BX b1 133 [I p0.Op, I p0.A, I p0.B, I p0.C]] w5 S5 := hs
 refine from_end rfl (then_normal ?_)
 refine wp_seq (wp_text' ?_)
 refine from_pure 1 [(1, B b1 0), (2, B b2 0), (3, B b3 0), (10, B b1 2)] hF (by kernel_rfl) fun fr hF => ?_
 refine s_loadBox (I p0.B) ty3 rfl rfl hF rfl (hs.bx 2 rfl) rfl rfl fun fr hF => ?_
 refine from_pure 1 [(1, B b1 0), (2, B b2 0), (3, B b3 0), (11, I p0.B), (12, B b3 2)] hF (by kernel_rfl) fun fr hF => ?_
 refine q_storeBox 0 hs hM0 rfl [I p0.Op, I p0.A, I p0.B, I 0] rfl hF rfl rfl (by kernel_rfl) rfl rfl rfl fun w6 S6 hs hp hF => ?_
 have hM0 := hM0.stp hp
 have hs : Sep [BX b3 90 [I p0.Op, I p0.A, I p0.B, I 0], BX b2 90 [I 0, I 0, I 0, I 0], BX b1 133 [I p0.Op, I p0.A, I p0.B, I p0.C]] w6 S6 := hs
 refine from_end rfl (then_normal ?_)
 refine wp_seq (wp_text' ?_)
 refine from_pure 1 [(2, B b2 0), (3, B b3 0), (13, B b1 3)] hF (by kernel_rfl) fun fr hF => ?_
 refine s_loadBox (I p0.C) ty3 rfl rfl hF rfl (hs.bx 2 rfl) rfl rfl fun fr hF => ?_
 have hs : Sep [BX b3 90 [I p0.Op, I p0.A, I p0.B, I 0], BX b2 90 [I 0, I 0, I 0, I 0]] w6 S6 := Sep.pick [0, 1] hs (by decide) rfl
 refine from_pure 1 [(2, B b2 0), (3, B b3 0), (14, I p0.C), (15, B b3 3)] hF (by kernel_rfl) fun fr hF => ?_
 refine q_storeBox 0 hs hM0 rfl [I p0.Op, I p0.A, I p0.B, I p0.C] rfl hF rfl rfl (by kernel_rfl) rfl rfl rfl fun w7 S7 hs hp hF => ?_
 have hM0 := hM0.stp hp
 have hs : Sep [BX b3 90 [I p0.Op, I p0.A, I p0.B, I p0.C], BX b2 90 [I 0, I 0, I 0, I 0]] w7 S7 := hs
 refine from_end rfl (then_normal ?_)
 refine wp_seq (wp_text' ?_)
 refine s_loadBoxS ty90 rfl rfl hF rfl (hs.bx 0 rfl) rfl rfl fun fr hF => ?_
 have hs : Sep [BX b2 90 [I 0, I 0, I 0, I 0]] w7 S7 := Sep.pick [1] hs (by decide) rfl
 refine q_storeBoxS 0 hs hM0 rfl [I p0.Op, I p0.A, I p0.B, I p0.C] rfl hF rfl rfl (by kernel_rfl) rfl rfl rfl fun w8 S8 hs hp hF => ?_
 have hM0 := hM0.stp hp
 have hs : Sep [BX b2 90 [I p0.Op, I p0.A, I p0.B, I p0.C]] w8 S8 := hs
 refine from_end rfl (then_normal ?_)
 have hbr := (hs.bx 0 rfl)
 obtain rfl := Option.some.inj h
 exact wp_ret (retS rfl hF ty90 rfl rfl hbr rfl ⟨_, rfl, rfl, hM0.chg⟩)

theorem laws_toInsS_ok (n : Nat) (p0 : List D.Ins) {r : (List D.Ins)} (h : laws_toInsS n p0 = some r) {w : World} {G0 : Nat → Prop} {va0 : Value} (ra0 : RV w G0 va0 p0) :
   Calls Try.prog 59 [va0].toArray w fun e w' => ∃ v, e = .returned v ∧ ∃ a1 c1, v = L a1 r c1 ∧ ∃ S', Stp w Non w' S' ∧ Sep [sl90 (L a1 r c1) r] w' S' := by
 unfold laws_toInsS at h
 have hs := Sep.nil w Non
 have hM0 : Mem w Non (fun k => (G0 k) ∧ k < w.heap.size) w Non (fun k => (G0 k) ∧ k < w.heap.size) := Mem.start (fun _ h => h.elim) (fun _ h => h.2) (fun _ h => h.elim)
 have ra0 := ra0.sub (F' := (fun k => (G0 k) ∧ k < w.heap.size)) (fun k hk h => ⟨h, hk⟩)
 obtain ⟨a1, c1, rfl, -⟩ := ra0.slice
 refine enter (N := 23) Try.func59 rfl Try.ntmps59 rfl fun fr hF => ?_
 refine wp_seq (wp_pure [(0, L a1 p0 c1)] hF (by kernel_rfl) fun fr hF => then_normal ?_)
 refine wp_seq (wp_text' ?_)
 refine from_pure 2 [(0, L a1 p0 c1), (6, I (len p0))] hF (by kernel_rfl) fun fr hF => ?_
 obtain ⟨x1, hx1, h⟩ := bindE h
 refine q_make hs hM0 Try.underlying28 el90 (zero_flat _ (by kernel_rfl)) rfl rfl hF rfl rfl hx1 fun a2 c2 w1 S1 fr hs hp hF => ?_
 have ra0 := ra0.stp hM0 hp
 have hM0 := hM0.stp hp
 have hs : Sep [sl90 (L a2 x1 c2) x1] w1 S1 := hs
 refine from_pure 1 [(0, L a1 p0 c1), (3, L a2 x1 c2)] hF (by kernel_rfl) fun fr hF => ?_
 refine from_end rfl (then_normal ?_)
 refine wp_seq ?_
 refine wp_seq (wp_pure [(0, L a1 p0 c1), (3, L a2 x1 c2), (4, I 0)] hF (by kernel_rfl) fun fr hF => then_normal ?_)
 obtain ⟨rl1, hit1, h⟩ := bindE h
 have hk1 := h
 refine (GL.wp_cut (M := fun fr w' => ∃ S3 F2, FrS 23 [(3, L a2 x1 c2)] fr ∧ Mem w1 S1 (fun k => (G0 k) ∧ k < w.heap.size) w' S3 F2 ∧ Sep [sl90 (L a2 x1 c2) rl1] w' S3) (wp_block (wp_iter (Inv := fun s1 fr w' => ∃ S2 F1, FrS 23 [(0, L a1 p0 c1), (3, L a2 x1 c2), (4, I s1.1)] fr ∧ Mem w1 S1 (fun k => (G0 k) ∧ k < w.heap.size) w' S2 F1 ∧ Sep [sl90 (L a2 x1 c2) s1.2] w' S2) hit1 ⟨S1, _, hF.sub _ (by kernel_rfl), (Mem.start hM0.bd hM0.bdF hM0.dj), hs⟩ fun s1 q1 fr w1i hI h hr1 => ?_)) fun fr w1o hM => ?_)
 · obtain ⟨S2, F1, hF, hM1, hs⟩ := hI
   have ra0 := ra0.mem hM1
   refine wp_seq ?_
   refine wp_seq (wp_pure [(0, L a1 p0 c1), (3, L a2 x1 c2), (4, I s1.1), (11, .bool (decide (s1.1 < (len p0))))] hF (by kernel_rfl) fun fr hF => then_normal ?_)
   refine (wp_if hF (b := (decide (s1.1 < (len p0)))) rfl (fun hb => ?_) (fun hb => ?_))
   · replace h := iteT hb h
     refine (wp_skip (then_normal ?_))
     refine wp_seq (wp_block ?_)
     refine (wp_text' ?_)
     refine from_pure 4 [(0, L a1 p0 c1), (3, L a2 x1 c2), (4, I s1.1), (14, L a2 x1 c2), (15, I s1.1), (16, L a1 p0 c1), (17, I s1.1)] hF (by kernel_rfl) fun fr hF => ?_
     obtain ⟨x2, hx2, h⟩ := bindE h
     refine s_elemF (z := x2) (.agg #[I x2.Op, I x2.A, I x2.B, I x2.C]) ty133 Try.underlying22 rfl rfl rfl rfl rfl hF rfl (ra0) rfl (get?_nn hx2) (get?_at hx2) rfl fun p fr hF => ?_
     obtain ⟨x3, hx3, h⟩ := bindE h
     refine s_call [.agg #[I x2.Op, I x2.A, I x2.B, I x2.C]] Try.call105 rfl rfl hF rfl (laws_toIns_ok x2 hx3) fun v w2 fr hRes hF => ?_
     obtain ⟨rfl, hc⟩ := hRes
     have ra0 := ra0.ext hc
     have hs := hs.ext hc
     have hM1 := hM1.ext hc
     obtain ⟨x4, hx4, h⟩ := bindE h
     refine q_set (q := x3) 0 hs hM1 rfl Try.underlying28 ty90 rfl rfl rfl rfl hF rfl rfl (by simp) rfl rfl hx4 fun w3 S4 fr _ hs hp hF => ?_
     have ra0 := ra0.stp hM1 hp
     have hM1 := hM1.stp hp
     have hs : Sep [sl90 (L a2 x1 c2) x4] w3 S4 := hs
     refine from_end rfl ?_
     refine blk_normal (then_normal ?_)
     refine (wp_pure [(0, L a1 p0 c1), (3, L a2 x1 c2), (4, I (w64 (s1.1 + 1)))] hF (by kernel_rfl) fun fr hF => then_normal ?_)
     exact ⟨_, (Option.some.inj h).symm, S4, _, hF.sub _ (by kernel_rfl), hM1, hs⟩
   replace h := iteF hb h
   refine (wp_exit (then_exit (then_exit (blk_exit_eq ?_))))
   obtain rfl := hr1 _ (Option.some.inj h).symm
   exact then_normal ⟨S2, _, hF.sub _ (by kernel_rfl), hM1, hs⟩
 · obtain ⟨S3, F2, hF, hMx, hs⟩ := hM
   have hM0 := hM0.trans hMx
   refine wp_seq (wp_pure [(2, L a2 x1 c2)] hF (by kernel_rfl) fun fr hF => then_normal ?_)
   obtain rfl := Option.some.inj h
   obtain ⟨he1, hs⟩ := hs.relen 0 rfl
   have hs : Sep [sl90 (L a2 rl1 c2) rl1] w1o S3 := hs
   exact wp_ret (ret1 rfl hF rfl ⟨_, rfl, a2, c2, (by simp only [L, he1]), S3, hM0.out, hs⟩)

theorem laws_toProgram_ok (n : Nat) (p0 : D.Program) {r : D.Program} (h : laws_toProgram n p0 = some r) {w : World} {G0 : Nat → Prop} {va0 : Value} (ra0 : RV w G0 va0 p0) :
   Calls Try.prog 13 [va0].toArray w fun e w' => ∃ v, e = .returned v ∧ ∃ a1 c1, v = .agg #[I r.W, I r.Mem, I r.In, L a1 r.Code c1] ∧ ∃ S', Stp w Non w' S' ∧ Sep [sl90 (L a1 r.Code c1) r.Code] w' S' := by
 unfold laws_toProgram at h
 have hs := Sep.nil w Non
 have hM0 : Mem w Non (fun k => (G0 k) ∧ k < w.heap.size) w Non (fun k => (G0 k) ∧ k < w.heap.size) := Mem.start (fun _ h => h.elim) (fun _ h => h.2) (fun _ h => h.elim)
 have ra0 := ra0.sub (F' := (fun k => (G0 k) ∧ k < w.heap.size)) (fun k hk h => ⟨h, hk⟩)
 obtain ⟨v1, rfl, r1⟩ := RV.Program ra0
 obtain ⟨a1, c1, rfl, -⟩ := r1.slice
 refine enter (N := 18) Try.func13 rfl Try.ntmps13 rfl fun fr hF => ?_
 refine wp_seq (wp_text' ?_)
 refine q_box hs hM0 [I p0.W, I p0.Mem, I p0.In, L a1 p0.Code c1] rfl rfl hF rfl rfl fun b1 w1 S1 fr hs hp hF => ?_
 have r1 := r1.stp hM0 hp
 have hM0 := hM0.stp hp
 have hs : Sep [BX b1 24 [I p0.W, I p0.Mem, I p0.In, L a1 p0.Code c1]] w1 S1 := hs
 refine q_alloc (z := .agg #[I 0, I 0, I 0, L none ([] : List D.Ins) 0]) hs hM0 [I 0, I 0, I 0, L none ([] : List D.Ins) 0] rfl rfl hF (by kernel_rfl) rfl fun b2 w2 S2 fr hs hp hF => ?_
 have r1 := r1.stp hM0 hp
 have hM0 := hM0.stp hp
 have hs : Sep [BX b2 30 [I 0, I 0, I 0, L none ([] : List D.Ins) 0], BX b1 24 [I p0.W, I p0.Mem, I p0.In, L a1 p0.Code c1]] w2 S2 := hs
 refine from_end rfl (then_normal ?_)
 refine wp_seq (wp_text' ?_)
 refine q_alloc (z := .agg #[I 0, I 0, I 0, L none ([] : List D.Ins) 0]) hs hM0 [I 0, I 0, I 0, L none ([] : List D.Ins) 0] rfl rfl hF (by kernel_rfl) rfl fun b3 w3 S3 fr hs hp hF => ?_
 have r1 := r1.stp hM0 hp
 have hM0 := hM0.stp hp
 have hs : Sep [BX b3 30 [I 0, I 0, I 0, L none ([] : List D.Ins) 0], BX b2 30 [I 0, I 0, I 0, L none ([] : List D.Ins) 0], BX b1 24 [I p0.W, I p0.Mem, I p0.In, L a1 p0.Code c1]] w3 S3 := hs
 refine from_end rfl (then_normal ?_)
 refine wp_seq (wp_text' ?_)
 refine from_pure 1 [(1, B b1 0), (2, B b2 0), (3, B b3 0), (4, B b1 0)] hF (by kernel_rfl) fun fr hF => ?_
 refine s_loadBox (I p0.W) ty3 rfl rfl hF rfl (hs.bx 2 rfl) rfl rfl fun fr hF => ?_
 refine from_pure 1 [(1, B b1 0), (2, B b2 0), (3, B b3 0), (5, I p0.W), (6, B b3 0)] hF (by kernel_rfl) fun fr hF => ?_
 refine q_storeBox 0 hs hM0 rfl [I p0.W, I 0, I 0, L none ([] : List D.Ins) 0] rfl hF rfl rfl (by kernel_rfl) rfl rfl rfl fun w4 S4 hs hp hF => ?_
 have r1 := r1.stp hM0 hp
 have hM0 := hM0.stp hp
 have hs : Sep [BX b3 30 [I p0.W, I 0, I 0, L none ([] : List D.Ins) 0], BX b2 30 [I 0, I 0, I 0, L none ([] : List D.Ins) 0], BX b1 24 [I p0.W, I p0.Mem, I p0.In, L a1 p0.Code c1]] w4 S4 := hs
 refine from_end rfl (then_normal ?_)
 refine wp_seq (wp_text' ?_)
 refine from_pure 1 [(1, B b1 0), (2, B b2 0), (3, B b3 0), (7, B b1 1)] hF (by kernel_rfl) fun fr hF => ?_
 refine s_loadBox (I p0.Mem) ty3 rfl rfl hF rfl (hs.bx 2 rfl) rfl rfl fun fr hF => ?_
 refine from_pure 1 [(1, B b1 0), (2, B b2 0), (3, B b3 0), (8, I p0.Mem), (9, B b3 1)] hF (by kernel_rfl) fun fr hF => ?_
 refine q_storeBox 0 hs hM0 rfl [I p0.W, I p0.Mem, I 0, L none ([] : List D.Ins) 0] rfl hF rfl rfl (by kernel_rfl) rfl rfl rfl fun w5 S5 hs hp hF => ?_
 have r1 := r1.stp hM0 hp
 have hM0 := hM0.stp hp
 have hs : Sep [BX b3 30 [I p0.W, I p0.Mem, I 0, L none ([] : List D.Ins) 0], BX b2 30 [I 0, I 0, I 0, L none ([] : List D.Ins) 0], BX b1 24 [I p0.W, I p0.Mem, I p0.In, L a1 p0.Code c1]] w5 S5 := hs
 refine from_end rfl (then_normal ?_)
 refine wp_seq (wp_text' ?_)
 refine from_pure 1 [(1, B b1 0), (2, B b2 0), (3, B b3 0), (10, B b1 2)] hF (by kernel_rfl) fun fr hF => ?_
 refine s_loadBox (I p0.In) ty3 rfl rfl hF rfl (hs.bx 2 rfl) rfl rfl fun fr hF => ?_
 refine from_pure 1 [(1, B b1 0), (2, B b2 0), (3, B b3 0), (11, I p0.In), (12, B b3 2)] hF (by kernel_rfl) fun fr hF => ?_
 refine q_storeBox 0 hs hM0 rfl [I p0.W, I p0.Mem, I p0.In, L none ([] : List D.Ins) 0] rfl hF rfl rfl (by kernel_rfl) rfl rfl rfl fun w6 S6 hs hp hF => ?_
 have r1 := r1.stp hM0 hp
 have hM0 := hM0.stp hp
 have hs : Sep [BX b3 30 [I p0.W, I p0.Mem, I p0.In, L none ([] : List D.Ins) 0], BX b2 30 [I 0, I 0, I 0, L none ([] : List D.Ins) 0], BX b1 24 [I p0.W, I p0.Mem, I p0.In, L a1 p0.Code c1]] w6 S6 := hs
 refine from_end rfl (then_normal ?_)
 refine wp_seq (wp_text' ?_)
 refine from_pure 1 [(2, B b2 0), (3, B b3 0), (13, B b1 3)] hF (by kernel_rfl) fun fr hF => ?_
 refine s_loadBox (L a1 p0.Code c1) ty22 rfl rfl hF rfl (hs.bx 2 rfl) rfl rfl fun fr hF => ?_
 have hs : Sep [BX b3 30 [I p0.W, I p0.Mem, I p0.In, L none ([] : List D.Ins) 0], BX b2 30 [I 0, I 0, I 0, L none ([] : List D.Ins) 0]] w6 S6 := Sep.pick [0, 1] hs (by decide) rfl
 obtain ⟨x1, hx1, h⟩ := bindE h
 refine s_call [L a1 p0.Code c1] Try.call59 rfl rfl hF rfl (laws_toInsS_ok n p0.Code hx1 (r1)) fun v w7 fr hRes hF => ?_
 obtain ⟨a2, c2, rfl, _, hp, hs2⟩ := hRes
 obtain ⟨S7, hp, hs⟩ := hs.got hM0 hp hs2
 have r1 := r1.stp hM0 hp
 have hM0 := hM0.stp hp
 have hs : Sep [sl90 (L a2 x1 c2) x1, BX b3 30 [I p0.W, I p0.Mem, I p0.In, L none ([] : List D.Ins) 0], BX b2 30 [I 0, I 0, I 0, L none ([] : List D.Ins) 0]] w7 S7 := hs
 refine from_pure 1 [(2, B b2 0), (3, B b3 0), (15, L a2 x1 c2), (16, B b3 3)] hF (by kernel_rfl) fun fr hF => ?_
 refine q_storeBox 1 hs hM0 rfl [I p0.W, I p0.Mem, I p0.In, L a2 x1 c2] rfl hF rfl rfl (by kernel_rfl) rfl rfl rfl fun w8 S8 hs hp hF => ?_
 have hM0 := hM0.stp hp
 have hs : Sep [sl90 (L a2 x1 c2) x1, BX b3 30 [I p0.W, I p0.Mem, I p0.In, L a2 x1 c2], BX b2 30 [I 0, I 0, I 0, L none ([] : List D.Ins) 0]] w8 S8 := hs
 refine from_end rfl (then_normal ?_)
 refine wp_seq (wp_text' ?_)
 refine s_loadBoxS ty30 rfl rfl hF rfl (hs.bx 1 rfl) rfl rfl fun fr hF => ?_
 have hs : Sep [sl90 (L a2 x1 c2) x1, BX b2 30 [I 0, I 0, I 0, L none ([] : List D.Ins) 0]] w8 S8 := Sep.pick [0, 2] hs (by decide) rfl
 refine q_storeBoxS 1 hs hM0 rfl [I p0.W, I p0.Mem, I p0.In, L a2 x1 c2] rfl hF rfl rfl (by kernel_rfl) rfl rfl rfl fun w9 S9 hs hp hF => ?_
 have hM0 := hM0.stp hp
 have hs : Sep [sl90 (L a2 x1 c2) x1, BX b2 30 [I p0.W, I p0.Mem, I p0.In, L a2 x1 c2]] w9 S9 := hs
 refine from_end rfl (then_normal ?_)
 have hbr := (hs.bx 1 rfl)
 obtain rfl := Option.some.inj h
 have hs : Sep [sl90 (L a2 x1 c2) x1] w9 S9 := Sep.pick [0] hs (by decide) rfl
 exact wp_ret (retS rfl hF ty30 rfl rfl hbr rfl ⟨_, rfl, a2, c2, rfl, S9, hM0.out, hs⟩)

theorem spec_l01In_ok (p0 : Int) (p1 : Int) (p2 : Int) {r : Bool} (h : spec_l01In p0 p1 p2 = some r) {w : World} :
   Calls Try.prog 58 [I p0, I p1, I p2].toArray w fun e w' => ∃ v, e = .returned v ∧ v = .bool r ∧ Chg Non w w' := by
 unfold spec_l01In at h
 have hs := Sep.nil w Non
 have hM0 : Mem w Non (fun k => (False) ∧ k < w.heap.size) w Non (fun k => (False) ∧ k < w.heap.size) := Mem.start (fun _ h => h.elim) (fun _ h => h.2) (fun _ h => h.elim)
 refine enter (N := 15) Try.func58 rfl Try.ntmps58 rfl fun fr hF => ?_
 refine wp_seq (wp_pure [(0, I p0), (1, I p1), (2, I p2)] hF (by kernel_rfl) fun fr hF => then_normal ?_)
 refine wp_seq (region_b [] [true, true, true, true, true, true, true, true, true]
     [.eq (I p0), .eq (I p1), .eq (.bool (decide (p0 ≥ p1))), .eq (.bool (decide (p0 ≥ p1))), .eq (I p0), .eq (I p2), .eq (.bool (decide (p0 ≤ p2))), .eq (.bool ((decide (p0 ≥ p1)) && (decide (p0 ≤ p2)))), .eq (.bool ((decide (p0 ≥ p1)) && (decide (p0 ≤ p2))))]
     [(6, .bool ((decide (p0 ≥ p1)) && (decide (p0 ≤ p2))))] mix hF (by kernel_rfl) (by kernel_rfl) (by kernel_rfl) trivial (fun hG => trivial) (by kernel_rfl) fun fr w1 hF hE hc => then_normal ?_)
 have hs := hs.ext hc
 have hM0 := hM0.ext hc
 obtain rfl := Option.some.inj h
 exact wp_ret (ret1 rfl hF rfl ⟨_, rfl, rfl, hM0.chg⟩)

theorem spec_WordOk_ok (p0 : Int) (p1 : Int) {r : Bool} (h : spec_WordOk p0 p1 = some r) {w : World} :
   Calls Try.prog 103 [I p0, I p1].toArray w fun e w' => ∃ v, e = .returned v ∧ v = .bool r ∧ Chg Non w w' := by
 unfold spec_WordOk at h
 have hs := Sep.nil w Non
 have hM0 : Mem w Non (fun k => (False) ∧ k < w.heap.size) w Non (fun k => (False) ∧ k < w.heap.size) := Mem.start (fun _ h => h.elim) (fun _ h => h.2) (fun _ h => h.elim)
 refine enter (N := 14) Try.func103 rfl Try.ntmps103 rfl fun fr hF => ?_
 refine wp_seq (wp_pure [(0, I p0), (1, I p1)] hF (by kernel_rfl) fun fr hF => then_normal ?_)
 obtain ⟨x1, hx1, h⟩ := bindE h
 obtain ⟨x2, hx2, h⟩ := bindE h
 obtain ⟨x3, hx3, h⟩ := bindE h
 refine wp_seq (region_b [] [true, false, true, true, true, false, true, false, true, true]
     [.eq (I p0), .eq (.bool x1), .eq (.bool x1), .eq (I p1), .eq (I p0), .eq (I x2), .eq (I (w64 (x2 - 1))), .eq (.bool x3), .eq (.bool (x1 && x3)), .eq (.bool (x1 && x3))]
     [(4, .bool (x1 && x3))] mix hF (by kernel_rfl) (by kernel_rfl) (by kernel_rfl) ⟨Pd.mono_eq, Pd.mono_eq, Pd.mono_eq, trivial⟩ (fun hG => ⟨np_call [I p0, I 1, I 16] hG hF Try.call58 rfl rfl (fun w hC hg => (spec_l01In_ok p0 1 16 hx1).mono fun e w' ⟨v, he, hv, hc⟩ => ⟨v, he, hc, hv⟩), np_shl hG hF rfl rfl rfl (fun hg => (iteT hg.2 hx2)) rfl, np_call [I p1, I 0, I (w64 (x2 - 1))] hG hF Try.call58 rfl rfl (fun w hC hg => (spec_l01In_ok p1 0 (w64 (x2 - 1)) (iteT hg.2 hx3)).mono fun e w' ⟨v, he, hv, hc⟩ => ⟨v, he, hc, hv⟩), trivial⟩) (by kernel_rfl) fun fr w1 hF hE hc => then_normal ?_)
 have hs := hs.ext hc
 have hM0 := hM0.ext hc
 obtain rfl := Option.some.inj h
 exact wp_ret (ret1 rfl hF rfl ⟨_, rfl, rfl, hM0.chg⟩)

theorem spec_l05Reg_ok (p0 : Int) {r : Bool} (h : spec_l05Reg p0 = some r) {w : World} :
   Calls Try.prog 136 [I p0].toArray w fun e w' => ∃ v, e = .returned v ∧ v = .bool r ∧ Chg Non w w' := by
 unfold spec_l05Reg at h
 have hs := Sep.nil w Non
 have hM0 : Mem w Non (fun k => (False) ∧ k < w.heap.size) w Non (fun k => (False) ∧ k < w.heap.size) := Mem.start (fun _ h => h.elim) (fun _ h => h.2) (fun _ h => h.elim)
 refine enter (N := 5) Try.func136 rfl Try.ntmps136 rfl fun fr hF => ?_
 refine wp_seq (wp_pure [(0, I p0)] hF (by kernel_rfl) fun fr hF => then_normal ?_)
 refine wp_seq (wp_text' ?_)
 refine from_pure 1 [(3, I p0)] hF (by kernel_rfl) fun fr hF => ?_
 obtain ⟨x1, hx1, h⟩ := bindE h
 refine s_call [I p0, I 0, I 3] Try.call58 rfl rfl hF rfl (spec_l01In_ok p0 0 3 hx1) fun v w1 fr hRes hF => ?_
 obtain ⟨rfl, hc⟩ := hRes
 have hs := hs.ext hc
 have hM0 := hM0.ext hc
 refine from_pure 1 [(2, .bool x1)] hF (by kernel_rfl) fun fr hF => ?_
 refine from_end rfl (then_normal ?_)
 obtain rfl := Option.some.inj h
 exact wp_ret (ret1 rfl hF rfl ⟨_, rfl, rfl, hM0.chg⟩)

theorem spec_l05Ins_ok (p0 : D.Ins) (p1 : Int) (p2 : Int) {r : Bool} (h : spec_l05Ins p0 p1 p2 = some r) {w : World} :
   Calls Try.prog 104 [.agg #[I p0.Op, I p0.A, I p0.B, I p0.C], I p1, I p2].toArray w fun e w' => ∃ v, e = .returned v ∧ v = .bool r ∧ Chg Non w w' := by
 unfold spec_l05Ins at h
 have hs := Sep.nil w Non
 have hM0 : Mem w Non (fun k => (False) ∧ k < w.heap.size) w Non (fun k => (False) ∧ k < w.heap.size) := Mem.start (fun _ h => h.elim) (fun _ h => h.2) (fun _ h => h.elim)
 refine enter (N := 123) Try.func104 rfl Try.ntmps104 rfl fun fr hF => ?_
 refine wp_seq (wp_text' ?_)
 refine q_box hs hM0 [I p0.Op, I p0.A, I p0.B, I p0.C] rfl rfl hF rfl rfl fun b1 w1 S1 fr hs hp hF => ?_
 have hM0 := hM0.stp hp
 have hs : Sep [BX b1 90 [I p0.Op, I p0.A, I p0.B, I p0.C]] w1 S1 := hs
 refine from_pure 1 [(1, I p1), (2, I p2), (3, B b1 0)] hF (by kernel_rfl) fun fr hF => ?_
 refine from_end rfl (then_normal ?_)
 refine wp_seq (wp_text' ?_)
 refine from_pure 1 [(1, I p1), (2, I p2), (3, B b1 0), (8, B b1 2)] hF (by kernel_rfl) fun fr hF => ?_
 refine s_loadBox (I p0.B) ty3 rfl rfl hF rfl (hs.bx 0 rfl) rfl rfl fun fr hF => ?_
 refine from_pure 1 [(1, I p1), (3, B b1 0), (9, I p0.B), (10, I p2)] hF (by kernel_rfl) fun fr hF => ?_
 obtain ⟨x1, hx1, h⟩ := bindE h
 refine s_call [I p0.B, I 0, I p2] Try.call58 rfl rfl hF rfl (spec_l01In_ok p0.B 0 p2 hx1) fun v w2 fr hRes hF => ?_
 obtain ⟨rfl, hc⟩ := hRes
 have hs := hs.ext hc
 have hM0 := hM0.ext hc
 refine from_pure 1 [(1, I p1), (3, B b1 0), (7, .bool x1)] hF (by kernel_rfl) fun fr hF => ?_
 refine from_end rfl (then_normal ?_)
 refine wp_seq ?_
 refine wp_seq (wp_text' ?_)
 refine from_pure 1 [(1, I p1), (3, B b1 0), (7, .bool x1), (12, B b1 0)] hF (by kernel_rfl) fun fr hF => ?_
 refine s_loadBox (I p0.Op) ty3 rfl rfl hF rfl (hs.bx 0 rfl) rfl rfl fun fr hF => ?_
 refine from_end rfl (then_normal ?_)
 refine (wp_block ?_)
 refine wp_seq (wp_pure [(1, I p1), (3, B b1 0), (7, .bool x1), (13, I p0.Op), (14, .bool (p0.Op == 1))] hF (by kernel_rfl) fun fr hF => then_normal ?_)
 refine (wp_if hF (b := (p0.Op == 1)) rfl (fun hb => ?_) (fun hb => ?_))
 · replace h := iteT hb h
   obtain ⟨x2, hx2, h⟩ := bindE h
   obtain ⟨x3, hx3, h⟩ := bindE h
   refine wp_seq (region_b [] [true, false, false, true, true, true, false, false, true, true, true, false, true, true, true]
       [.eq (B b1 1), .eq (I p0.A), .eq (.bool x2), .eq (.bool x2), .eq (I p1), .eq (B b1 2), .eq (I p0.B), .eq (.bool x3), .eq (.bool (x2 && x3)), .eq (.bool (x2 && x3)), .eq (B b1 3), .eq (I p0.C), .eq (.bool (p0.C == 0)), .eq (.bool ((x2 && x3) && (p0.C == 0))), .eq (.bool ((x2 && x3) && (p0.C == 0)))]
       [(6, .bool ((x2 && x3) && (p0.C == 0)))] mix hF (by kernel_rfl) (by kernel_rfl) (by kernel_rfl) ⟨Pd.mono_eq, Pd.mono_eq, Pd.mono_eq, Pd.mono_eq, Pd.mono_eq, trivial⟩ (fun hG => ⟨np_loadBox hG hF ty3 rfl rfl (hs.bx 0 rfl) rfl rfl rfl, np_call [I p0.A] hG hF Try.call136 rfl rfl (fun w hC hg => (spec_l05Reg_ok p0.A hx2).mono fun e w' ⟨v, he, hv, hc⟩ => ⟨v, he, hc, hv⟩), np_loadBox hG hF ty3 rfl rfl (hs.bx 0 rfl) rfl rfl rfl, np_call [I p1, I p0.B] hG hF Try.call103 rfl rfl (fun w hC hg => (spec_WordOk_ok p1 p0.B (iteT hg.2 hx3)).mono fun e w' ⟨v, he, hv, hc⟩ => ⟨v, he, hc, hv⟩), np_loadBox hG hF ty3 rfl rfl (hs.bx 0 rfl) rfl rfl rfl, trivial⟩) (by kernel_rfl) fun fr w3 hF hE hc => then_normal ?_)
   have hs := hs.ext hc
   have hM0 := hM0.ext hc
   have hs : Sep [] w3 S1 := Sep.pick [] hs (by decide) rfl
   obtain rfl := Option.some.inj h
   exact wp_ret (blk_ret (then_ret (ret1 rfl hF rfl ⟨_, rfl, rfl, hM0.chg⟩)))
 replace h := iteF hb h
 refine wp_seq ?_
 refine wp_seq (wp_pure [(3, B b1 0), (7, .bool x1), (13, I p0.Op), (30, .bool (p0.Op == 2))] hF (by kernel_rfl) fun fr hF => then_normal ?_)
 refine (wp_if hF (b := (p0.Op == 2)) rfl (fun hb => ?_) (fun hb => ?_))
 · replace h := iteT hb h
   refine (wp_skip (then_normal ?_))
   refine (wp_if hF (b := (p0.Op == 2)) rfl (fun hb => ?_) (fun hb => ?_))
   · replace h := iteT hb h
     obtain ⟨x4, hx4, h⟩ := bindE h
     obtain ⟨x5, hx5, h⟩ := bindE h
     refine wp_seq (region_b [] [true, false, false, true, true, false, false, true, true, true, false, true, true, true]
         [.eq (B b1 1), .eq (I p0.A), .eq (.bool x4), .eq (.bool x4), .eq (B b1 2), .eq (I p0.B), .eq (.bool x5), .eq (.bool (x4 && x5)), .eq (.bool (x4 && x5)), .eq (B b1 3), .eq (I p0.C), .eq (.bool (p0.C == 0)), .eq (.bool ((x4 && x5) && (p0.C == 0))), .eq (.bool ((x4 && x5) && (p0.C == 0)))]
         [(6, .bool ((x4 && x5) && (p0.C == 0)))] mix hF (by kernel_rfl) (by kernel_rfl) (by kernel_rfl) ⟨Pd.mono_eq, Pd.mono_eq, Pd.mono_eq, Pd.mono_eq, Pd.mono_eq, trivial⟩ (fun hG => ⟨np_loadBox hG hF ty3 rfl rfl (hs.bx 0 rfl) rfl rfl rfl, np_call [I p0.A] hG hF Try.call136 rfl rfl (fun w hC hg => (spec_l05Reg_ok p0.A hx4).mono fun e w' ⟨v, he, hv, hc⟩ => ⟨v, he, hc, hv⟩), np_loadBox hG hF ty3 rfl rfl (hs.bx 0 rfl) rfl rfl rfl, np_call [I p0.B] hG hF Try.call136 rfl rfl (fun w hC hg => (spec_l05Reg_ok p0.B (iteT hg.2 hx5)).mono fun e w' ⟨v, he, hv, hc⟩ => ⟨v, he, hc, hv⟩), np_loadBox hG hF ty3 rfl rfl (hs.bx 0 rfl) rfl rfl rfl, trivial⟩) (by kernel_rfl) fun fr w4 hF hE hc => then_normal ?_)
     have hs := hs.ext hc
     have hM0 := hM0.ext hc
     have hs : Sep [] w4 S1 := Sep.pick [] hs (by decide) rfl
     obtain rfl := Option.some.inj h
     exact wp_ret (blk_ret (then_ret (ret1 rfl hF rfl ⟨_, rfl, rfl, hM0.chg⟩)))
   replace h := iteF hb h
   refine wp_seq (wp_pure [(3, B b1 0), (7, .bool x1), (13, I p0.Op), (47, .bool (p0.Op == 3))] hF (by kernel_rfl) fun fr hF => then_normal ?_)
   refine (wp_if hF (b := (p0.Op == 3)) rfl (fun hb => ?_) (fun hb => ?_))
   · replace h := iteT hb h
     obtain ⟨x6, hx6, h⟩ := bindE h
     obtain ⟨x7, hx7, h⟩ := bindE h
     obtain ⟨x8, hx8, h⟩ := bindE h
     refine wp_seq (region_b [] [true, false, false, true, true, false, false, true, true, true, false, false, true, true]
         [.eq (B b1 1), .eq (I p0.A), .eq (.bool x6), .eq (.bool x6), .eq (B b1 2), .eq (I p0.B), .eq (.bool x7), .eq (.bool (x6 && x7)), .eq (.bool (x6 && x7)), .eq (B b1 3), .eq (I p0.C), .eq (.bool x8), .eq (.bool ((x6 && x7) && x8)), .eq (.bool ((x6 && x7) && x8))]
         [(6, .bool ((x6 && x7) && x8))] mix hF (by kernel_rfl) (by kernel_rfl) (by kernel_rfl) ⟨Pd.mono_eq, Pd.mono_eq, Pd.mono_eq, Pd.mono_eq, Pd.mono_eq, Pd.mono_eq, trivial⟩ (fun hG => ⟨np_loadBox hG hF ty3 rfl rfl (hs.bx 0 rfl) rfl rfl rfl, np_call [I p0.A] hG hF Try.call136 rfl rfl (fun w hC hg => (spec_l05Reg_ok p0.A hx6).mono fun e w' ⟨v, he, hv, hc⟩ => ⟨v, he, hc, hv⟩), np_loadBox hG hF ty3 rfl rfl (hs.bx 0 rfl) rfl rfl rfl, np_call [I p0.B] hG hF Try.call136 rfl rfl (fun w hC hg => (spec_l05Reg_ok p0.B (iteT hg.2 hx7)).mono fun e w' ⟨v, he, hv, hc⟩ => ⟨v, he, hc, hv⟩), np_loadBox hG hF ty3 rfl rfl (hs.bx 0 rfl) rfl rfl rfl, np_call [I p0.C, I 3, I 16] hG hF Try.call58 rfl rfl (fun w hC hg => (spec_l01In_ok p0.C 3 16 (iteT hg.2 hx8)).mono fun e w' ⟨v, he, hv, hc⟩ => ⟨v, he, hc, hv⟩), trivial⟩) (by kernel_rfl) fun fr w5 hF hE hc => then_normal ?_)
     have hs := hs.ext hc
     have hM0 := hM0.ext hc
     have hs : Sep [] w5 S1 := Sep.pick [] hs (by decide) rfl
     obtain rfl := Option.some.inj h
     exact wp_ret (blk_ret (then_ret (ret1 rfl hF rfl ⟨_, rfl, rfl, hM0.chg⟩)))
   replace h := iteF hb h
   refine wp_seq ?_
   refine wp_seq (wp_pure [(3, B b1 0), (7, .bool x1), (13, I p0.Op), (62, .bool (p0.Op == 4))] hF (by kernel_rfl) fun fr hF => then_normal ?_)
   refine (wp_if hF (b := (p0.Op == 4)) rfl (fun hb => ?_) (fun hb => ?_))
   · replace h := iteT hb h
     refine (wp_skip (then_normal ?_))
     refine (wp_if hF (b := (p0.Op == 4)) rfl (fun hb => ?_) (fun hb => ?_))
     · replace h := iteT hb h
       obtain ⟨x9, hx9, h⟩ := bindE h
       refine wp_seq (region_b [] [true, false, false, true, true, false, true, true, true, true, false, true, true, true]
           [.eq (B b1 1), .eq (I p0.A), .eq (.bool x9), .eq (.bool x9), .eq (B b1 2), .eq (I p0.B), .eq (.bool (p0.B == 0)), .eq (.bool (x9 && (p0.B == 0))), .eq (.bool (x9 && (p0.B == 0))), .eq (B b1 3), .eq (I p0.C), .eq (.bool (p0.C == 0)), .eq (.bool ((x9 && (p0.B == 0)) && (p0.C == 0))), .eq (.bool ((x9 && (p0.B == 0)) && (p0.C == 0)))]
           [(6, .bool ((x9 && (p0.B == 0)) && (p0.C == 0)))] mix hF (by kernel_rfl) (by kernel_rfl) (by kernel_rfl) ⟨Pd.mono_eq, Pd.mono_eq, Pd.mono_eq, Pd.mono_eq, trivial⟩ (fun hG => ⟨np_loadBox hG hF ty3 rfl rfl (hs.bx 0 rfl) rfl rfl rfl, np_call [I p0.A] hG hF Try.call136 rfl rfl (fun w hC hg => (spec_l05Reg_ok p0.A hx9).mono fun e w' ⟨v, he, hv, hc⟩ => ⟨v, he, hc, hv⟩), np_loadBox hG hF ty3 rfl rfl (hs.bx 0 rfl) rfl rfl rfl, np_loadBox hG hF ty3 rfl rfl (hs.bx 0 rfl) rfl rfl rfl, trivial⟩) (by kernel_rfl) fun fr w6 hF hE hc => then_normal ?_)
       have hs := hs.ext hc
       have hM0 := hM0.ext hc
       have hs : Sep [] w6 S1 := Sep.pick [] hs (by decide) rfl
       obtain rfl := Option.some.inj h
       exact wp_ret (blk_ret (then_ret (ret1 rfl hF rfl ⟨_, rfl, rfl, hM0.chg⟩)))
     replace h := iteF hb h
     refine wp_seq ?_
     refine wp_seq (wp_pure [(3, B b1 0), (7, .bool x1), (13, I p0.Op), (80, .bool (p0.Op == 9))] hF (by kernel_rfl) fun fr hF => then_normal ?_)
     refine (wp_merge [(3, B b1 0), (7, .bool x1), (13, I p0.Op), (80, .bool ((p0.Op == 9) || (p0.Op == 11)))] hF (b := (p0.Op == 9)) rfl (fun hb => ?_) (fun hb => ?_) fun fr hF => then_normal ?_)
     · exact wp_skip ⟨rfl, rfl, (hF.sub [(3, B b1 0), (7, .bool x1), (13, I p0.Op), (80, .bool (p0.Op == 9))] (by kernel_rfl)).eqs (by first | (simp only [hb]; done) | (simp only [hb]; rfl))⟩
     · exact wp_pure [(3, B b1 0), (7, .bool x1), (13, I p0.Op), (80, .bool (p0.Op == 11))] hF (by kernel_rfl) fun fr hF => ⟨rfl, rfl, hF.eqs (by first | (simp only [hb]; done) | (simp only [hb]; rfl))⟩
     refine (wp_if hF (b := ((p0.Op == 9) || (p0.Op == 11))) rfl (fun hb => ?_) (fun hb => ?_))
     · replace h := iteT hb h
       refine wp_seq (region_b [] [true, false, true, true, true, true, true, true, false, true, true, true]
           [.eq (B b1 1), .eq (I p0.A), .eq (.bool (p0.A == 0)), .eq (.bool (p0.A == 0)), .eq (.bool x1), .eq (.bool ((p0.A == 0) && x1)), .eq (.bool ((p0.A == 0) && x1)), .eq (B b1 3), .eq (I p0.C), .eq (.bool (p0.C == 0)), .eq (.bool (((p0.A == 0) && x1) && (p0.C == 0))), .eq (.bool (((p0.A == 0) && x1) && (p0.C == 0)))]
           [(6, .bool (((p0.A == 0) && x1) && (p0.C == 0)))] mix hF (by kernel_rfl) (by kernel_rfl) (by kernel_rfl) ⟨Pd.mono_eq, Pd.mono_eq, trivial⟩ (fun hG => ⟨np_loadBox hG hF ty3 rfl rfl (hs.bx 0 rfl) rfl rfl rfl, np_loadBox hG hF ty3 rfl rfl (hs.bx 0 rfl) rfl rfl rfl, trivial⟩) (by kernel_rfl) fun fr w7 hF hE hc => then_normal ?_)
       have hs := hs.ext hc
       have hM0 := hM0.ext hc
       have hs : Sep [] w7 S1 := Sep.pick [] hs (by decide) rfl
       obtain rfl := Option.some.inj h
       exact wp_ret (blk_ret (then_ret (ret1 rfl hF rfl ⟨_, rfl, rfl, hM0.chg⟩)))
     replace h := iteF hb h
     refine wp_seq (wp_pure [(3, B b1 0), (7, .bool x1), (13, I p0.Op), (94, .bool (p0.Op == 10))] hF (by kernel_rfl) fun fr hF => then_normal ?_)
     refine (wp_if hF (b := (p0.Op == 10)) rfl (fun hb => ?_) (fun hb => ?_))
     · replace h := iteT hb h
       obtain ⟨x10, hx10, h⟩ := bindE h
       refine wp_seq (region_b [] [true, false, false, true, true, true, true, true, false, true, true, true]
           [.eq (B b1 1), .eq (I p0.A), .eq (.bool x10), .eq (.bool x10), .eq (.bool x1), .eq (.bool (x10 && x1)), .eq (.bool (x10 && x1)), .eq (B b1 3), .eq (I p0.C), .eq (.bool (p0.C == 0)), .eq (.bool ((x10 && x1) && (p0.C == 0))), .eq (.bool ((x10 && x1) && (p0.C == 0)))]
           [(6, .bool ((x10 && x1) && (p0.C == 0)))] mix hF (by kernel_rfl) (by kernel_rfl) (by kernel_rfl) ⟨Pd.mono_eq, Pd.mono_eq, Pd.mono_eq, trivial⟩ (fun hG => ⟨np_loadBox hG hF ty3 rfl rfl (hs.bx 0 rfl) rfl rfl rfl, np_call [I p0.A] hG hF Try.call136 rfl rfl (fun w hC hg => (spec_l05Reg_ok p0.A hx10).mono fun e w' ⟨v, he, hv, hc⟩ => ⟨v, he, hc, hv⟩), np_loadBox hG hF ty3 rfl rfl (hs.bx 0 rfl) rfl rfl rfl, trivial⟩) (by kernel_rfl) fun fr w8 hF hE hc => then_normal ?_)
       have hs := hs.ext hc
       have hM0 := hM0.ext hc
       have hs : Sep [] w8 S1 := Sep.pick [] hs (by decide) rfl
       obtain rfl := Option.some.inj h
       exact wp_ret (blk_ret (then_ret (ret1 rfl hF rfl ⟨_, rfl, rfl, hM0.chg⟩)))
     replace h := iteF hb h
     refine wp_seq ?_
     refine wp_seq (wp_pure [(3, B b1 0), (13, I p0.Op), (107, .bool (p0.Op == 12))] hF (by kernel_rfl) fun fr hF => then_normal ?_)
     refine (wp_merge [(3, B b1 0), (107, .bool ((p0.Op == 12) || (p0.Op == 14)))] hF (b := (p0.Op == 12)) rfl (fun hb => ?_) (fun hb => ?_) fun fr hF => then_normal ?_)
     · exact wp_skip ⟨rfl, rfl, (hF.sub [(3, B b1 0), (107, .bool (p0.Op == 12))] (by kernel_rfl)).eqs (by first | (simp only [hb]; done) | (simp only [hb]; rfl))⟩
     · exact wp_pure [(3, B b1 0), (107, .bool (p0.Op == 14))] hF (by kernel_rfl) fun fr hF => ⟨rfl, rfl, hF.eqs (by first | (simp only [hb]; done) | (simp only [hb]; rfl))⟩
     refine (wp_if hF (b := ((p0.Op == 12) || (p0.Op == 14))) rfl (fun hb => ?_) (fun hb => ?_))
     · replace h := iteT hb h
       refine wp_seq (region_b [] [true, false, true, true, true, false, true, true, true, true, false, true, true, true]
           [.eq (B b1 1), .eq (I p0.A), .eq (.bool (p0.A == 0)), .eq (.bool (p0.A == 0)), .eq (B b1 2), .eq (I p0.B), .eq (.bool (p0.B == 0)), .eq (.bool ((p0.A == 0) && (p0.B == 0))), .eq (.bool ((p0.A == 0) && (p0.B == 0))), .eq (B b1 3), .eq (I p0.C), .eq (.bool (p0.C == 0)), .eq (.bool (((p0.A == 0) && (p0.B == 0)) && (p0.C == 0))), .eq (.bool (((p0.A == 0) && (p0.B == 0)) && (p0.C == 0)))]
           [(6, .bool (((p0.A == 0) && (p0.B == 0)) && (p0.C == 0)))] mix hF (by kernel_rfl) (by kernel_rfl) (by kernel_rfl) ⟨Pd.mono_eq, Pd.mono_eq, Pd.mono_eq, trivial⟩ (fun hG => ⟨np_loadBox hG hF ty3 rfl rfl (hs.bx 0 rfl) rfl rfl rfl, np_loadBox hG hF ty3 rfl rfl (hs.bx 0 rfl) rfl rfl rfl, np_loadBox hG hF ty3 rfl rfl (hs.bx 0 rfl) rfl rfl rfl, trivial⟩) (by kernel_rfl) fun fr w9 hF hE hc => then_normal ?_)
       have hs := hs.ext hc
       have hM0 := hM0.ext hc
       have hs : Sep [] w9 S1 := Sep.pick [] hs (by decide) rfl
       obtain rfl := Option.some.inj h
       exact wp_ret (blk_ret (then_ret (ret1 rfl hF rfl ⟨_, rfl, rfl, hM0.chg⟩)))
     replace h := iteF hb h
     have hs : Sep [] w2 S1 := Sep.pick [] hs (by decide) rfl
     refine (wp_skip ?_)
     refine blk_normal (then_normal ?_)
     refine wp_seq (wp_pure [(6, .bool false)] hF (by kernel_rfl) fun fr hF => then_normal ?_)
     obtain rfl := Option.some.inj h
     exact wp_ret (ret1 rfl hF rfl ⟨_, rfl, rfl, hM0.chg⟩)
   replace h := iteF hb h
   refine wp_seq (wp_pure [(3, B b1 0), (7, .bool x1), (13, I p0.Op), (62, .bool (p0.Op == 5))] hF (by kernel_rfl) fun fr hF => then_normal ?_)
   refine (wp_if hF (b := (p0.Op == 5)) rfl (fun hb => ?_) (fun hb => ?_))
   · replace h := iteT hb h
     refine (wp_skip (then_normal ?_))
     refine (wp_if hF (b := (p0.Op == 5)) rfl (fun hb => ?_) (fun hb => ?_))
     · replace h := iteT hb h
       obtain ⟨x11, hx11, h⟩ := bindE h
       refine wp_seq (region_b [] [true, false, false, true, true, false, true, true, true, true, false, true, true, true]
           [.eq (B b1 1), .eq (I p0.A), .eq (.bool x11), .eq (.bool x11), .eq (B b1 2), .eq (I p0.B), .eq (.bool (p0.B == 0)), .eq (.bool (x11 && (p0.B == 0))), .eq (.bool (x11 && (p0.B == 0))), .eq (B b1 3), .eq (I p0.C), .eq (.bool (p0.C == 0)), .eq (.bool ((x11 && (p0.B == 0)) && (p0.C == 0))), .eq (.bool ((x11 && (p0.B == 0)) && (p0.C == 0)))]
           [(6, .bool ((x11 && (p0.B == 0)) && (p0.C == 0)))] mix hF (by kernel_rfl) (by kernel_rfl) (by kernel_rfl) ⟨Pd.mono_eq, Pd.mono_eq, Pd.mono_eq, Pd.mono_eq, trivial⟩ (fun hG => ⟨np_loadBox hG hF ty3 rfl rfl (hs.bx 0 rfl) rfl rfl rfl, np_call [I p0.A] hG hF Try.call136 rfl rfl (fun w hC hg => (spec_l05Reg_ok p0.A hx11).mono fun e w' ⟨v, he, hv, hc⟩ => ⟨v, he, hc, hv⟩), np_loadBox hG hF ty3 rfl rfl (hs.bx 0 rfl) rfl rfl rfl, np_loadBox hG hF ty3 rfl rfl (hs.bx 0 rfl) rfl rfl rfl, trivial⟩) (by kernel_rfl) fun fr w10 hF hE hc => then_normal ?_)
       have hs := hs.ext hc
       have hM0 := hM0.ext hc
       have hs : Sep [] w10 S1 := Sep.pick [] hs (by decide) rfl
       obtain rfl := Option.some.inj h
       exact wp_ret (blk_ret (then_ret (ret1 rfl hF rfl ⟨_, rfl, rfl, hM0.chg⟩)))
     replace h := iteF hb h
     refine wp_seq ?_
     refine wp_seq (wp_pure [(3, B b1 0), (7, .bool x1), (13, I p0.Op), (80, .bool (p0.Op == 9))] hF (by kernel_rfl) fun fr hF => then_normal ?_)
     refine (wp_merge [(3, B b1 0), (7, .bool x1), (13, I p0.Op), (80, .bool ((p0.Op == 9) || (p0.Op == 11)))] hF (b := (p0.Op == 9)) rfl (fun hb => ?_) (fun hb => ?_) fun fr hF => then_normal ?_)
     · exact wp_skip ⟨rfl, rfl, (hF.sub [(3, B b1 0), (7, .bool x1), (13, I p0.Op), (80, .bool (p0.Op == 9))] (by kernel_rfl)).eqs (by first | (simp only [hb]; done) | (simp only [hb]; rfl))⟩
     · exact wp_pure [(3, B b1 0), (7, .bool x1), (13, I p0.Op), (80, .bool (p0.Op == 11))] hF (by kernel_rfl) fun fr hF => ⟨rfl, rfl, hF.eqs (by first | (simp only [hb]; done) | (simp only [hb]; rfl))⟩
     refine (wp_if hF (b := ((p0.Op == 9) || (p0.Op == 11))) rfl (fun hb => ?_) (fun hb => ?_))
     · replace h := iteT hb h
       refine wp_seq (region_b [] [true, false, true, true, true, true, true, true, false, true, true, true]
           [.eq (B b1 1), .eq (I p0.A), .eq (.bool (p0.A == 0)), .eq (.bool (p0.A == 0)), .eq (.bool x1), .eq (.bool ((p0.A == 0) && x1)), .eq (.bool ((p0.A == 0) && x1)), .eq (B b1 3), .eq (I p0.C), .eq (.bool (p0.C == 0)), .eq (.bool (((p0.A == 0) && x1) && (p0.C == 0))), .eq (.bool (((p0.A == 0) && x1) && (p0.C == 0)))]
           [(6, .bool (((p0.A == 0) && x1) && (p0.C == 0)))] mix hF (by kernel_rfl) (by kernel_rfl) (by kernel_rfl) ⟨Pd.mono_eq, Pd.mono_eq, trivial⟩ (fun hG => ⟨np_loadBox hG hF ty3 rfl rfl (hs.bx 0 rfl) rfl rfl rfl, np_loadBox hG hF ty3 rfl rfl (hs.bx 0 rfl) rfl rfl rfl, trivial⟩) (by kernel_rfl) fun fr w11 hF hE hc => then_normal ?_)
       have hs := hs.ext hc
       have hM0 := hM0.ext hc
       have hs : Sep [] w11 S1 := Sep.pick [] hs (by decide) rfl
       obtain rfl := Option.some.inj h
       exact wp_ret (blk_ret (then_ret (ret1 rfl hF rfl ⟨_, rfl, rfl, hM0.chg⟩)))
     replace h := iteF hb h
     refine wp_seq (wp_pure [(3, B b1 0), (7, .bool x1), (13, I p0.Op), (94, .bool (p0.Op == 10))] hF (by kernel_rfl) fun fr hF => then_normal ?_)
     refine (wp_if hF (b := (p0.Op == 10)) rfl (fun hb => ?_) (fun hb => ?_))
     · replace h := iteT hb h
       obtain ⟨x12, hx12, h⟩ := bindE h
       refine wp_seq (region_b [] [true, false, false, true, true, true, true, true, false, true, true, true]
           [.eq (B b1 1), .eq (I p0.A), .eq (.bool x12), .eq (.bool x12), .eq (.bool x1), .eq (.bool (x12 && x1)), .eq (.bool (x12 && x1)), .eq (B b1 3), .eq (I p0.C), .eq (.bool (p0.C == 0)), .eq (.bool ((x12 && x1) && (p0.C == 0))), .eq (.bool ((x12 && x1) && (p0.C == 0)))]
           [(6, .bool ((x12 && x1) && (p0.C == 0)))] mix hF (by kernel_rfl) (by kernel_rfl) (by kernel_rfl) ⟨Pd.mono_eq, Pd.mono_eq, Pd.mono_eq, trivial⟩ (fun hG => ⟨np_loadBox hG hF ty3 rfl rfl (hs.bx 0 rfl) rfl rfl rfl, np_call [I p0.A] hG hF Try.call136 rfl rfl (fun w hC hg => (spec_l05Reg_ok p0.A hx12).mono fun e w' ⟨v, he, hv, hc⟩ => ⟨v, he, hc, hv⟩), np_loadBox hG hF ty3 rfl rfl (hs.bx 0 rfl) rfl rfl rfl, trivial⟩) (by kernel_rfl) fun fr w12 hF hE hc => then_normal ?_)
       have hs := hs.ext hc
       have hM0 := hM0.ext hc
       have hs : Sep [] w12 S1 := Sep.pick [] hs (by decide) rfl
       obtain rfl := Option.some.inj h
       exact wp_ret (blk_ret (then_ret (ret1 rfl hF rfl ⟨_, rfl, rfl, hM0.chg⟩)))
     replace h := iteF hb h
     refine wp_seq ?_
     refine wp_seq (wp_pure [(3, B b1 0), (13, I p0.Op), (107, .bool (p0.Op == 12))] hF (by kernel_rfl) fun fr hF => then_normal ?_)
     refine (wp_merge [(3, B b1 0), (107, .bool ((p0.Op == 12) || (p0.Op == 14)))] hF (b := (p0.Op == 12)) rfl (fun hb => ?_) (fun hb => ?_) fun fr hF => then_normal ?_)
     · exact wp_skip ⟨rfl, rfl, (hF.sub [(3, B b1 0), (107, .bool (p0.Op == 12))] (by kernel_rfl)).eqs (by first | (simp only [hb]; done) | (simp only [hb]; rfl))⟩
     · exact wp_pure [(3, B b1 0), (107, .bool (p0.Op == 14))] hF (by kernel_rfl) fun fr hF => ⟨rfl, rfl, hF.eqs (by first | (simp only [hb]; done) | (simp only [hb]; rfl))⟩
     refine (wp_if hF (b := ((p0.Op == 12) || (p0.Op == 14))) rfl (fun hb => ?_) (fun hb => ?_))
     · replace h := iteT hb h
       refine wp_seq (region_b [] [true, false, true, true, true, false, true, true, true, true, false, true, true, true]
           [.eq (B b1 1), .eq (I p0.A), .eq (.bool (p0.A == 0)), .eq (.bool (p0.A == 0)), .eq (B b1 2), .eq (I p0.B), .eq (.bool (p0.B == 0)), .eq (.bool ((p0.A == 0) && (p0.B == 0))), .eq (.bool ((p0.A == 0) && (p0.B == 0))), .eq (B b1 3), .eq (I p0.C), .eq (.bool (p0.C == 0)), .eq (.bool (((p0.A == 0) && (p0.B == 0)) && (p0.C == 0))), .eq (.bool (((p0.A == 0) && (p0.B == 0)) && (p0.C == 0)))]
           [(6, .bool (((p0.A == 0) && (p0.B == 0)) && (p0.C == 0)))] mix hF (by kernel_rfl) (by kernel_rfl) (by kernel_rfl) ⟨Pd.mono_eq, Pd.mono_eq, Pd.mono_eq, trivial⟩ (fun hG => ⟨np_loadBox hG hF ty3 rfl rfl (hs.bx 0 rfl) rfl rfl rfl, np_loadBox hG hF ty3 rfl rfl (hs.bx 0 rfl) rfl rfl rfl, np_loadBox hG hF ty3 rfl rfl (hs.bx 0 rfl) rfl rfl rfl, trivial⟩) (by kernel_rfl) fun fr w13 hF hE hc => then_normal ?_)
       have hs := hs.ext hc
       have hM0 := hM0.ext hc
       have hs : Sep [] w13 S1 := Sep.pick [] hs (by decide) rfl
       obtain rfl := Option.some.inj h
       exact wp_ret (blk_ret (then_ret (ret1 rfl hF rfl ⟨_, rfl, rfl, hM0.chg⟩)))
     replace h := iteF hb h
     have hs : Sep [] w2 S1 := Sep.pick [] hs (by decide) rfl
     refine (wp_skip ?_)
     refine blk_normal (then_normal ?_)
     refine wp_seq (wp_pure [(6, .bool false)] hF (by kernel_rfl) fun fr hF => then_normal ?_)
     obtain rfl := Option.some.inj h
     exact wp_ret (ret1 rfl hF rfl ⟨_, rfl, rfl, hM0.chg⟩)
   replace h := iteF hb h
   refine wp_seq (wp_pure [(3, B b1 0), (7, .bool x1), (13, I p0.Op), (62, .bool (p0.Op == 6))] hF (by kernel_rfl) fun fr hF => then_normal ?_)
   refine (wp_merge [(3, B b1 0), (7, .bool x1), (13, I p0.Op), (62, .bool ((p0.Op == 6) || (p0.Op == 13)))] hF (b := (p0.Op == 6)) rfl (fun hb => ?_) (fun hb => ?_) fun fr hF => then_normal ?_)
   · exact wp_skip ⟨rfl, rfl, (hF.sub [(3, B b1 0), (7, .bool x1), (13, I p0.Op), (62, .bool (p0.Op == 6))] (by kernel_rfl)).eqs (by first | (simp only [hb]; done) | (simp only [hb]; rfl))⟩
   · exact wp_pure [(3, B b1 0), (7, .bool x1), (13, I p0.Op), (62, .bool (p0.Op == 13))] hF (by kernel_rfl) fun fr hF => ⟨rfl, rfl, hF.eqs (by first | (simp only [hb]; done) | (simp only [hb]; rfl))⟩
   refine (wp_if hF (b := ((p0.Op == 6) || (p0.Op == 13))) rfl (fun hb => ?_) (fun hb => ?_))
   · replace h := iteT hb h
     obtain ⟨x13, hx13, h⟩ := bindE h
     refine wp_seq (region_b [] [true, false, false, true, true, false, true, true, true, true, false, true, true, true]
         [.eq (B b1 1), .eq (I p0.A), .eq (.bool x13), .eq (.bool x13), .eq (B b1 2), .eq (I p0.B), .eq (.bool (p0.B == 0)), .eq (.bool (x13 && (p0.B == 0))), .eq (.bool (x13 && (p0.B == 0))), .eq (B b1 3), .eq (I p0.C), .eq (.bool (p0.C == 0)), .eq (.bool ((x13 && (p0.B == 0)) && (p0.C == 0))), .eq (.bool ((x13 && (p0.B == 0)) && (p0.C == 0)))]
         [(6, .bool ((x13 && (p0.B == 0)) && (p0.C == 0)))] mix hF (by kernel_rfl) (by kernel_rfl) (by kernel_rfl) ⟨Pd.mono_eq, Pd.mono_eq, Pd.mono_eq, Pd.mono_eq, trivial⟩ (fun hG => ⟨np_loadBox hG hF ty3 rfl rfl (hs.bx 0 rfl) rfl rfl rfl, np_call [I p0.A] hG hF Try.call136 rfl rfl (fun w hC hg => (spec_l05Reg_ok p0.A hx13).mono fun e w' ⟨v, he, hv, hc⟩ => ⟨v, he, hc, hv⟩), np_loadBox hG hF ty3 rfl rfl (hs.bx 0 rfl) rfl rfl rfl, np_loadBox hG hF ty3 rfl rfl (hs.bx 0 rfl) rfl rfl rfl, trivial⟩) (by kernel_rfl) fun fr w14 hF hE hc => then_normal ?_)
     have hs := hs.ext hc
     have hM0 := hM0.ext hc
     have hs : Sep [] w14 S1 := Sep.pick [] hs (by decide) rfl
     obtain rfl := Option.some.inj h
     exact wp_ret (blk_ret (then_ret (ret1 rfl hF rfl ⟨_, rfl, rfl, hM0.chg⟩)))
   replace h := iteF hb h
   refine wp_seq ?_
   refine wp_seq (wp_pure [(3, B b1 0), (7, .bool x1), (13, I p0.Op), (80, .bool (p0.Op == 9))] hF (by kernel_rfl) fun fr hF => then_normal ?_)
   refine (wp_merge [(3, B b1 0), (7, .bool x1), (13, I p0.Op), (80, .bool ((p0.Op == 9) || (p0.Op == 11)))] hF (b := (p0.Op == 9)) rfl (fun hb => ?_) (fun hb => ?_) fun fr hF => then_normal ?_)
   · exact wp_skip ⟨rfl, rfl, (hF.sub [(3, B b1 0), (7, .bool x1), (13, I p0.Op), (80, .bool (p0.Op == 9))] (by kernel_rfl)).eqs (by first | (simp only [hb]; done) | (simp only [hb]; rfl))⟩
   · exact wp_pure [(3, B b1 0), (7, .bool x1), (13, I p0.Op), (80, .bool (p0.Op == 11))] hF (by kernel_rfl) fun fr hF => ⟨rfl, rfl, hF.eqs (by first | (simp only [hb]; done) | (simp only [hb]; rfl))⟩
   refine (wp_if hF (b := ((p0.Op == 9) || (p0.Op == 11))) rfl (fun hb => ?_) (fun hb => ?_))
   · replace h := iteT hb h
     refine wp_seq (region_b [] [true, false, true, true, true, true, true, true, false, true, true, true]
         [.eq (B b1 1), .eq (I p0.A), .eq (.bool (p0.A == 0)), .eq (.bool (p0.A == 0)), .eq (.bool x1), .eq (.bool ((p0.A == 0) && x1)), .eq (.bool ((p0.A == 0) && x1)), .eq (B b1 3), .eq (I p0.C), .eq (.bool (p0.C == 0)), .eq (.bool (((p0.A == 0) && x1) && (p0.C == 0))), .eq (.bool (((p0.A == 0) && x1) && (p0.C == 0)))]
         [(6, .bool (((p0.A == 0) && x1) && (p0.C == 0)))] mix hF (by kernel_rfl) (by kernel_rfl) (by kernel_rfl) ⟨Pd.mono_eq, Pd.mono_eq, trivial⟩ (fun hG => ⟨np_loadBox hG hF ty3 rfl rfl (hs.bx 0 rfl) rfl rfl rfl, np_loadBox hG hF ty3 rfl rfl (hs.bx 0 rfl) rfl rfl rfl, trivial⟩) (by kernel_rfl) fun fr w15 hF hE hc => then_normal ?_)
     have hs := hs.ext hc
     have hM0 := hM0.ext hc
     have hs : Sep [] w15 S1 := Sep.pick [] hs (by decide) rfl
     obtain rfl := Option.some.inj h
     exact wp_ret (blk_ret (then_ret (ret1 rfl hF rfl ⟨_, rfl, rfl, hM0.chg⟩)))
   replace h := iteF hb h
   refine wp_seq (wp_pure [(3, B b1 0), (7, .bool x1), (13, I p0.Op), (94, .bool (p0.Op == 10))] hF (by kernel_rfl) fun fr hF => then_normal ?_)
   refine (wp_if hF (b := (p0.Op == 10)) rfl (fun hb => ?_) (fun hb => ?_))
   · replace h := iteT hb h
     obtain ⟨x14, hx14, h⟩ := bindE h
     refine wp_seq (region_b [] [true, false, false, true, true, true, true, true, false, true, true, true]
         [.eq (B b1 1), .eq (I p0.A), .eq (.bool x14), .eq (.bool x14), .eq (.bool x1), .eq (.bool (x14 && x1)), .eq (.bool (x14 && x1)), .eq (B b1 3), .eq (I p0.C), .eq (.bool (p0.C == 0)), .eq (.bool ((x14 && x1) && (p0.C == 0))), .eq (.bool ((x14 && x1) && (p0.C == 0)))]
         [(6, .bool ((x14 && x1) && (p0.C == 0)))] mix hF (by kernel_rfl) (by kernel_rfl) (by kernel_rfl) ⟨Pd.mono_eq, Pd.mono_eq, Pd.mono_eq, trivial⟩ (fun hG => ⟨np_loadBox hG hF ty3 rfl rfl (hs.bx 0 rfl) rfl rfl rfl, np_call [I p0.A] hG hF Try.call136 rfl rfl (fun w hC hg => (spec_l05Reg_ok p0.A hx14).mono fun e w' ⟨v, he, hv, hc⟩ => ⟨v, he, hc, hv⟩), np_loadBox hG hF ty3 rfl rfl (hs.bx 0 rfl) rfl rfl rfl, trivial⟩) (by kernel_rfl) fun fr w16 hF hE hc => then_normal ?_)
     have hs := hs.ext hc
     have hM0 := hM0.ext hc
     have hs : Sep [] w16 S1 := Sep.pick [] hs (by decide) rfl
     obtain rfl := Option.some.inj h
     exact wp_ret (blk_ret (then_ret (ret1 rfl hF rfl ⟨_, rfl, rfl, hM0.chg⟩)))
   replace h := iteF hb h
   refine wp_seq ?_
   refine wp_seq (wp_pure [(3, B b1 0), (13, I p0.Op), (107, .bool (p0.Op == 12))] hF (by kernel_rfl) fun fr hF => then_normal ?_)
   refine (wp_merge [(3, B b1 0), (107, .bool ((p0.Op == 12) || (p0.Op == 14)))] hF (b := (p0.Op == 12)) rfl (fun hb => ?_) (fun hb => ?_) fun fr hF => then_normal ?_)
   · exact wp_skip ⟨rfl, rfl, (hF.sub [(3, B b1 0), (107, .bool (p0.Op == 12))] (by kernel_rfl)).eqs (by first | (simp only [hb]; done) | (simp only [hb]; rfl))⟩
   · exact wp_pure [(3, B b1 0), (107, .bool (p0.Op == 14))] hF (by kernel_rfl) fun fr hF => ⟨rfl, rfl, hF.eqs (by first | (simp only [hb]; done) | (simp only [hb]; rfl))⟩
   refine (wp_if hF (b := ((p0.Op == 12) || (p0.Op == 14))) rfl (fun hb => ?_) (fun hb => ?_))
   · replace h := iteT hb h
     refine wp_seq (region_b [] [true, false, true, true, true, false, true, true, true, true, false, true, true, true]
         [.eq (B b1 1), .eq (I p0.A), .eq (.bool (p0.A == 0)), .eq (.bool (p0.A == 0)), .eq (B b1 2), .eq (I p0.B), .eq (.bool (p0.B == 0)), .eq (.bool ((p0.A == 0) && (p0.B == 0))), .eq (.bool ((p0.A == 0) && (p0.B == 0))), .eq (B b1 3), .eq (I p0.C), .eq (.bool (p0.C == 0)), .eq (.bool (((p0.A == 0) && (p0.B == 0)) && (p0.C == 0))), .eq (.bool (((p0.A == 0) && (p0.B == 0)) && (p0.C == 0)))]
         [(6, .bool (((p0.A == 0) && (p0.B == 0)) && (p0.C == 0)))] mix hF (by kernel_rfl) (by kernel_rfl) (by kernel_rfl) ⟨Pd.mono_eq, Pd.mono_eq, Pd.mono_eq, trivial⟩ (fun hG => ⟨np_loadBox hG hF ty3 rfl rfl (hs.bx 0 rfl) rfl rfl rfl, np_loadBox hG hF ty3 rfl rfl (hs.bx 0 rfl) rfl rfl rfl, np_loadBox hG hF ty3 rfl rfl (hs.bx 0 rfl) rfl rfl rfl, trivial⟩) (by kernel_rfl) fun fr w17 hF hE hc => then_normal ?_)
     have hs := hs.ext hc
     have hM0 := hM0.ext hc
     have hs : Sep [] w17 S1 := Sep.pick [] hs (by decide) rfl
     obtain rfl := Option.some.inj h
     exact wp_ret (blk_ret (then_ret (ret1 rfl hF rfl ⟨_, rfl, rfl, hM0.chg⟩)))
   replace h := iteF hb h
   have hs : Sep [] w2 S1 := Sep.pick [] hs (by decide) rfl
   refine (wp_skip ?_)
   refine blk_normal (then_normal ?_)
   refine wp_seq (wp_pure [(6, .bool false)] hF (by kernel_rfl) fun fr hF => then_normal ?_)
   obtain rfl := Option.some.inj h
   exact wp_ret (ret1 rfl hF rfl ⟨_, rfl, rfl, hM0.chg⟩)
 replace h := iteF hb h
 refine wp_seq (wp_pure [(3, B b1 0), (7, .bool x1), (13, I p0.Op), (30, .bool (p0.Op == 7))] hF (by kernel_rfl) fun fr hF => then_normal ?_)
 refine (wp_merge [(3, B b1 0), (7, .bool x1), (13, I p0.Op), (30, .bool ((p0.Op == 7) || (p0.Op == 8)))] hF (b := (p0.Op == 7)) rfl (fun hb => ?_) (fun hb => ?_) fun fr hF => then_normal ?_)
 · exact wp_skip ⟨rfl, rfl, (hF.sub [(3, B b1 0), (7, .bool x1), (13, I p0.Op), (30, .bool (p0.Op == 7))] (by kernel_rfl)).eqs (by first | (simp only [hb]; done) | (simp only [hb]; rfl))⟩
 · exact wp_pure [(3, B b1 0), (7, .bool x1), (13, I p0.Op), (30, .bool (p0.Op == 8))] hF (by kernel_rfl) fun fr hF => ⟨rfl, rfl, hF.eqs (by first | (simp only [hb]; done) | (simp only [hb]; rfl))⟩
 refine (wp_if hF (b := ((p0.Op == 7) || (p0.Op == 8))) rfl (fun hb => ?_) (fun hb => ?_))
 · replace h := iteT hb h
   obtain ⟨x15, hx15, h⟩ := bindE h
   obtain ⟨x16, hx16, h⟩ := bindE h
   refine wp_seq (region_b [] [true, false, false, true, true, false, false, true, true, true, false, true, true, true]
       [.eq (B b1 1), .eq (I p0.A), .eq (.bool x15), .eq (.bool x15), .eq (B b1 2), .eq (I p0.B), .eq (.bool x16), .eq (.bool (x15 && x16)), .eq (.bool (x15 && x16)), .eq (B b1 3), .eq (I p0.C), .eq (.bool (p0.C == 0)), .eq (.bool ((x15 && x16) && (p0.C == 0))), .eq (.bool ((x15 && x16) && (p0.C == 0)))]
       [(6, .bool ((x15 && x16) && (p0.C == 0)))] mix hF (by kernel_rfl) (by kernel_rfl) (by kernel_rfl) ⟨Pd.mono_eq, Pd.mono_eq, Pd.mono_eq, Pd.mono_eq, Pd.mono_eq, trivial⟩ (fun hG => ⟨np_loadBox hG hF ty3 rfl rfl (hs.bx 0 rfl) rfl rfl rfl, np_call [I p0.A] hG hF Try.call136 rfl rfl (fun w hC hg => (spec_l05Reg_ok p0.A hx15).mono fun e w' ⟨v, he, hv, hc⟩ => ⟨v, he, hc, hv⟩), np_loadBox hG hF ty3 rfl rfl (hs.bx 0 rfl) rfl rfl rfl, np_call [I p0.B] hG hF Try.call136 rfl rfl (fun w hC hg => (spec_l05Reg_ok p0.B (iteT hg.2 hx16)).mono fun e w' ⟨v, he, hv, hc⟩ => ⟨v, he, hc, hv⟩), np_loadBox hG hF ty3 rfl rfl (hs.bx 0 rfl) rfl rfl rfl, trivial⟩) (by kernel_rfl) fun fr w18 hF hE hc => then_normal ?_)
   have hs := hs.ext hc
   have hM0 := hM0.ext hc
   have hs : Sep [] w18 S1 := Sep.pick [] hs (by decide) rfl
   obtain rfl := Option.some.inj h
   exact wp_ret (blk_ret (then_ret (ret1 rfl hF rfl ⟨_, rfl, rfl, hM0.chg⟩)))
 replace h := iteF hb h
 refine wp_seq (wp_pure [(3, B b1 0), (7, .bool x1), (13, I p0.Op), (47, .bool (p0.Op == 3))] hF (by kernel_rfl) fun fr hF => then_normal ?_)
 refine (wp_if hF (b := (p0.Op == 3)) rfl (fun hb => ?_) (fun hb => ?_))
 · replace h := iteT hb h
   obtain ⟨x17, hx17, h⟩ := bindE h
   obtain ⟨x18, hx18, h⟩ := bindE h
   obtain ⟨x19, hx19, h⟩ := bindE h
   refine wp_seq (region_b [] [true, false, false, true, true, false, false, true, true, true, false, false, true, true]
       [.eq (B b1 1), .eq (I p0.A), .eq (.bool x17), .eq (.bool x17), .eq (B b1 2), .eq (I p0.B), .eq (.bool x18), .eq (.bool (x17 && x18)), .eq (.bool (x17 && x18)), .eq (B b1 3), .eq (I p0.C), .eq (.bool x19), .eq (.bool ((x17 && x18) && x19)), .eq (.bool ((x17 && x18) && x19))]
       [(6, .bool ((x17 && x18) && x19))] mix hF (by kernel_rfl) (by kernel_rfl) (by kernel_rfl) ⟨Pd.mono_eq, Pd.mono_eq, Pd.mono_eq, Pd.mono_eq, Pd.mono_eq, Pd.mono_eq, trivial⟩ (fun hG => ⟨np_loadBox hG hF ty3 rfl rfl (hs.bx 0 rfl) rfl rfl rfl, np_call [I p0.A] hG hF Try.call136 rfl rfl (fun w hC hg => (spec_l05Reg_ok p0.A hx17).mono fun e w' ⟨v, he, hv, hc⟩ => ⟨v, he, hc, hv⟩), np_loadBox hG hF ty3 rfl rfl (hs.bx 0 rfl) rfl rfl rfl, np_call [I p0.B] hG hF Try.call136 rfl rfl (fun w hC hg => (spec_l05Reg_ok p0.B (iteT hg.2 hx18)).mono fun e w' ⟨v, he, hv, hc⟩ => ⟨v, he, hc, hv⟩), np_loadBox hG hF ty3 rfl rfl (hs.bx 0 rfl) rfl rfl rfl, np_call [I p0.C, I 3, I 16] hG hF Try.call58 rfl rfl (fun w hC hg => (spec_l01In_ok p0.C 3 16 (iteT hg.2 hx19)).mono fun e w' ⟨v, he, hv, hc⟩ => ⟨v, he, hc, hv⟩), trivial⟩) (by kernel_rfl) fun fr w19 hF hE hc => then_normal ?_)
   have hs := hs.ext hc
   have hM0 := hM0.ext hc
   have hs : Sep [] w19 S1 := Sep.pick [] hs (by decide) rfl
   obtain rfl := Option.some.inj h
   exact wp_ret (blk_ret (then_ret (ret1 rfl hF rfl ⟨_, rfl, rfl, hM0.chg⟩)))
 replace h := iteF hb h
 refine wp_seq ?_
 refine wp_seq (wp_pure [(3, B b1 0), (7, .bool x1), (13, I p0.Op), (62, .bool (p0.Op == 4))] hF (by kernel_rfl) fun fr hF => then_normal ?_)
 refine (wp_if hF (b := (p0.Op == 4)) rfl (fun hb => ?_) (fun hb => ?_))
 · replace h := iteT hb h
   refine (wp_skip (then_normal ?_))
   refine (wp_if hF (b := (p0.Op == 4)) rfl (fun hb => ?_) (fun hb => ?_))
   · replace h := iteT hb h
     obtain ⟨x20, hx20, h⟩ := bindE h
     refine wp_seq (region_b [] [true, false, false, true, true, false, true, true, true, true, false, true, true, true]
         [.eq (B b1 1), .eq (I p0.A), .eq (.bool x20), .eq (.bool x20), .eq (B b1 2), .eq (I p0.B), .eq (.bool (p0.B == 0)), .eq (.bool (x20 && (p0.B == 0))), .eq (.bool (x20 && (p0.B == 0))), .eq (B b1 3), .eq (I p0.C), .eq (.bool (p0.C == 0)), .eq (.bool ((x20 && (p0.B == 0)) && (p0.C == 0))), .eq (.bool ((x20 && (p0.B == 0)) && (p0.C == 0)))]
         [(6, .bool ((x20 && (p0.B == 0)) && (p0.C == 0)))] mix hF (by kernel_rfl) (by kernel_rfl) (by kernel_rfl) ⟨Pd.mono_eq, Pd.mono_eq, Pd.mono_eq, Pd.mono_eq, trivial⟩ (fun hG => ⟨np_loadBox hG hF ty3 rfl rfl (hs.bx 0 rfl) rfl rfl rfl, np_call [I p0.A] hG hF Try.call136 rfl rfl (fun w hC hg => (spec_l05Reg_ok p0.A hx20).mono fun e w' ⟨v, he, hv, hc⟩ => ⟨v, he, hc, hv⟩), np_loadBox hG hF ty3 rfl rfl (hs.bx 0 rfl) rfl rfl rfl, np_loadBox hG hF ty3 rfl rfl (hs.bx 0 rfl) rfl rfl rfl, trivial⟩) (by kernel_rfl) fun fr w20 hF hE hc => then_normal ?_)
     have hs := hs.ext hc
     have hM0 := hM0.ext hc
     have hs : Sep [] w20 S1 := Sep.pick [] hs (by decide) rfl
     obtain rfl := Option.some.inj h
     exact wp_ret (blk_ret (then_ret (ret1 rfl hF rfl ⟨_, rfl, rfl, hM0.chg⟩)))
   replace h := iteF hb h
   refine wp_seq ?_
   refine wp_seq (wp_pure [(3, B b1 0), (7, .bool x1), (13, I p0.Op), (80, .bool (p0.Op == 9))] hF (by kernel_rfl) fun fr hF => then_normal ?_)
   refine (wp_merge [(3, B b1 0), (7, .bool x1), (13, I p0.Op), (80, .bool ((p0.Op == 9) || (p0.Op == 11)))] hF (b := (p0.Op == 9)) rfl (fun hb => ?_) (fun hb => ?_) fun fr hF => then_normal ?_)
   · exact wp_skip ⟨rfl, rfl, (hF.sub [(3, B b1 0), (7, .bool x1), (13, I p0.Op), (80, .bool (p0.Op == 9))] (by kernel_rfl)).eqs (by first | (simp only [hb]; done) | (simp only [hb]; rfl))⟩
   · exact wp_pure [(3, B b1 0), (7, .bool x1), (13, I p0.Op), (80, .bool (p0.Op == 11))] hF (by kernel_rfl) fun fr hF => ⟨rfl, rfl, hF.eqs (by first | (simp only [hb]; done) | (simp only [hb]; rfl))⟩
   refine (wp_if hF (b := ((p0.Op == 9) || (p0.Op == 11))) rfl (fun hb => ?_) (fun hb => ?_))
   · replace h := iteT hb h
     refine wp_seq (region_b [] [true, false, true, true, true, true, true, true, false, true, true, true]
         [.eq (B b1 1), .eq (I p0.A), .eq (.bool (p0.A == 0)), .eq (.bool (p0.A == 0)), .eq (.bool x1), .eq (.bool ((p0.A == 0) && x1)), .eq (.bool ((p0.A == 0) && x1)), .eq (B b1 3), .eq (I p0.C), .eq (.bool (p0.C == 0)), .eq (.bool (((p0.A == 0) && x1) && (p0.C == 0))), .eq (.bool (((p0.A == 0) && x1) && (p0.C == 0)))]
         [(6, .bool (((p0.A == 0) && x1) && (p0.C == 0)))] mix hF (by kernel_rfl) (by kernel_rfl) (by kernel_rfl) ⟨Pd.mono_eq, Pd.mono_eq, trivial⟩ (fun hG => ⟨np_loadBox hG hF ty3 rfl rfl (hs.bx 0 rfl) rfl rfl rfl, np_loadBox hG hF ty3 rfl rfl (hs.bx 0 rfl) rfl rfl rfl, trivial⟩) (by kernel_rfl) fun fr w21 hF hE hc => then_normal ?_)
     have hs := hs.ext hc
     have hM0 := hM0.ext hc
     have hs : Sep [] w21 S1 := Sep.pick [] hs (by decide) rfl
     obtain rfl := Option.some.inj h
     exact wp_ret (blk_ret (then_ret (ret1 rfl hF rfl ⟨_, rfl, rfl, hM0.chg⟩)))
   replace h := iteF hb h
   refine wp_seq (wp_pure [(3, B b1 0), (7, .bool x1), (13, I p0.Op), (94, .bool (p0.Op == 10))] hF (by kernel_rfl) fun fr hF => then_normal ?_)
   refine (wp_if hF (b := (p0.Op == 10)) rfl (fun hb => ?_) (fun hb => ?_))
   · replace h := iteT hb h
     obtain ⟨x21, hx21, h⟩ := bindE h
     refine wp_seq (region_b [] [true, false, false, true, true, true, true, true, false, true, true, true]
         [.eq (B b1 1), .eq (I p0.A), .eq (.bool x21), .eq (.bool x21), .eq (.bool x1), .eq (.bool (x21 && x1)), .eq (.bool (x21 && x1)), .eq (B b1 3), .eq (I p0.C), .eq (.bool (p0.C == 0)), .eq (.bool ((x21 && x1) && (p0.C == 0))), .eq (.bool ((x21 && x1) && (p0.C == 0)))]
         [(6, .bool ((x21 && x1) && (p0.C == 0)))] mix hF (by kernel_rfl) (by kernel_rfl) (by kernel_rfl) ⟨Pd.mono_eq, Pd.mono_eq, Pd.mono_eq, trivial⟩ (fun hG => ⟨np_loadBox hG hF ty3 rfl rfl (hs.bx 0 rfl) rfl rfl rfl, np_call [I p0.A] hG hF Try.call136 rfl rfl (fun w hC hg => (spec_l05Reg_ok p0.A hx21).mono fun e w' ⟨v, he, hv, hc⟩ => ⟨v, he, hc, hv⟩), np_loadBox hG hF ty3 rfl rfl (hs.bx 0 rfl) rfl rfl rfl, trivial⟩) (by kernel_rfl) fun fr w22 hF hE hc => then_normal ?_)
     have hs := hs.ext hc
     have hM0 := hM0.ext hc
     have hs : Sep [] w22 S1 := Sep.pick [] hs (by decide) rfl
     obtain rfl := Option.some.inj h
     exact wp_ret (blk_ret (then_ret (ret1 rfl hF rfl ⟨_, rfl, rfl, hM0.chg⟩)))
   replace h := iteF hb h
   refine wp_seq ?_
   refine wp_seq (wp_pure [(3, B b1 0), (13, I p0.Op), (107, .bool (p0.Op == 12))] hF (by kernel_rfl) fun fr hF => then_normal ?_)
   refine (wp_merge [(3, B b1 0), (107, .bool ((p0.Op == 12) || (p0.Op == 14)))] hF (b := (p0.Op == 12)) rfl (fun hb => ?_) (fun hb => ?_) fun fr hF => then_normal ?_)
   · exact wp_skip ⟨rfl, rfl, (hF.sub [(3, B b1 0), (107, .bool (p0.Op == 12))] (by kernel_rfl)).eqs (by first | (simp only [hb]; done) | (simp only [hb]; rfl))⟩
   · exact wp_pure [(3, B b1 0), (107, .bool (p0.Op == 14))] hF (by kernel_rfl) fun fr hF => ⟨rfl, rfl, hF.eqs (by first | (simp only [hb]; done) | (simp only [hb]; rfl))⟩
   refine (wp_if hF (b := ((p0.Op == 12) || (p0.Op == 14))) rfl (fun hb => ?_) (fun hb => ?_))
   · replace h := iteT hb h
     refine wp_seq (region_b [] [true, false, true, true, true, false, true, true, true, true, false, true, true, true]
         [.eq (B b1 1), .eq (I p0.A), .eq (.bool (p0.A == 0)), .eq (.bool (p0.A == 0)), .eq (B b1 2), .eq (I p0.B), .eq (.bool (p0.B == 0)), .eq (.bool ((p0.A == 0) && (p0.B == 0))), .eq (.bool ((p0.A == 0) && (p0.B == 0))), .eq (B b1 3), .eq (I p0.C), .eq (.bool (p0.C == 0)), .eq (.bool (((p0.A == 0) && (p0.B == 0)) && (p0.C == 0))), .eq (.bool (((p0.A == 0) && (p0.B == 0)) && (p0.C == 0)))]
         [(6, .bool (((p0.A == 0) && (p0.B == 0)) && (p0.C == 0)))] mix hF (by kernel_rfl) (by kernel_rfl) (by kernel_rfl) ⟨Pd.mono_eq, Pd.mono_eq, Pd.mono_eq, trivial⟩ (fun hG => ⟨np_loadBox hG hF ty3 rfl rfl (hs.bx 0 rfl) rfl rfl rfl, np_loadBox hG hF ty3 rfl rfl (hs.bx 0 rfl) rfl rfl rfl, np_loadBox hG hF ty3 rfl rfl (hs.bx 0 rfl) rfl rfl rfl, trivial⟩) (by kernel_rfl) fun fr w23 hF hE hc => then_normal ?_)
     have hs := hs.ext hc
     have hM0 := hM0.ext hc
     have hs : Sep [] w23 S1 := Sep.pick [] hs (by decide) rfl
     obtain rfl := Option.some.inj h
     exact wp_ret (blk_ret (then_ret (ret1 rfl hF rfl ⟨_, rfl, rfl, hM0.chg⟩)))
   replace h := iteF hb h
   have hs : Sep [] w2 S1 := Sep.pick [] hs (by decide) rfl
   refine (wp_skip ?_)
   refine blk_normal (then_normal ?_)
   refine wp_seq (wp_pure [(6, .bool false)] hF (by kernel_rfl) fun fr hF => then_normal ?_)
   obtain rfl := Option.some.inj h
   exact wp_ret (ret1 rfl hF rfl ⟨_, rfl, rfl, hM0.chg⟩)
 replace h := iteF hb h
 refine wp_seq (wp_pure [(3, B b1 0), (7, .bool x1), (13, I p0.Op), (62, .bool (p0.Op == 5))] hF (by kernel_rfl) fun fr hF => then_normal ?_)
 refine (wp_if hF (b := (p0.Op == 5)) rfl (fun hb => ?_) (fun hb => ?_))
 · replace h := iteT hb h
   refine (wp_skip (then_normal ?_))
   refine (wp_if hF (b := (p0.Op == 5)) rfl (fun hb => ?_) (fun hb => ?_))
   · replace h := iteT hb h
     obtain ⟨x22, hx22, h⟩ := bindE h
     refine wp_seq (region_b [] [true, false, false, true, true, false, true, true, true, true, false, true, true, true]
         [.eq (B b1 1), .eq (I p0.A), .eq (.bool x22), .eq (.bool x22), .eq (B b1 2), .eq (I p0.B), .eq (.bool (p0.B == 0)), .eq (.bool (x22 && (p0.B == 0))), .eq (.bool (x22 && (p0.B == 0))), .eq (B b1 3), .eq (I p0.C), .eq (.bool (p0.C == 0)), .eq (.bool ((x22 && (p0.B == 0)) && (p0.C == 0))), .eq (.bool ((x22 && (p0.B == 0)) && (p0.C == 0)))]
         [(6, .bool ((x22 && (p0.B == 0)) && (p0.C == 0)))] mix hF (by kernel_rfl) (by kernel_rfl) (by kernel_rfl) ⟨Pd.mono_eq, Pd.mono_eq, Pd.mono_eq, Pd.mono_eq, trivial⟩ (fun hG => ⟨np_loadBox hG hF ty3 rfl rfl (hs.bx 0 rfl) rfl rfl rfl, np_call [I p0.A] hG hF Try.call136 rfl rfl (fun w hC hg => (spec_l05Reg_ok p0.A hx22).mono fun e w' ⟨v, he, hv, hc⟩ => ⟨v, he, hc, hv⟩), np_loadBox hG hF ty3 rfl rfl (hs.bx 0 rfl) rfl rfl rfl, np_loadBox hG hF ty3 rfl rfl (hs.bx 0 rfl) rfl rfl rfl, trivial⟩) (by kernel_rfl) fun fr w24 hF hE hc => then_normal ?_)
     have hs := hs.ext hc
     have hM0 := hM0.ext hc
     have hs : Sep [] w24 S1 := Sep.pick [] hs (by decide) rfl
     obtain rfl := Option.some.inj h
     exact wp_ret (blk_ret (then_ret (ret1 rfl hF rfl ⟨_, rfl, rfl, hM0.chg⟩)))
   replace h := iteF hb h
   refine wp_seq ?_
   refine wp_seq (wp_pure [(3, B b1 0), (7, .bool x1), (13, I p0.Op), (80, .bool (p0.Op == 9))] hF (by kernel_rfl) fun fr hF => then_normal ?_)
   refine (wp_merge [(3, B b1 0), (7, .bool x1), (13, I p0.Op), (80, .bool ((p0.Op == 9) || (p0.Op == 11)))] hF (b := (p0.Op == 9)) rfl (fun hb => ?_) (fun hb => ?_) fun fr hF => then_normal ?_)
   · exact wp_skip ⟨rfl, rfl, (hF.sub [(3, B b1 0), (7, .bool x1), (13, I p0.Op), (80, .bool (p0.Op == 9))] (by kernel_rfl)).eqs (by first | (simp only [hb]; done) | (simp only [hb]; rfl))⟩
   · exact wp_pure [(3, B b1 0), (7, .bool x1), (13, I p0.Op), (80, .bool (p0.Op == 11))] hF (by kernel_rfl) fun fr hF => ⟨rfl, rfl, hF.eqs (by first | (simp only [hb]; done) | (simp only [hb]; rfl))⟩
   refine (wp_if hF (b := ((p0.Op == 9) || (p0.Op == 11))) rfl (fun hb => ?_) (fun hb => ?_))
   · replace h := iteT hb h
     refine wp_seq (region_b [] [true, false, true, true, true, true, true, true, false, true, true, true]
         [.eq (B b1 1), .eq (I p0.A), .eq (.bool (p0.A == 0)), .eq (.bool (p0.A == 0)), .eq (.bool x1), .eq (.bool ((p0.A == 0) && x1)), .eq (.bool ((p0.A == 0) && x1)), .eq (B b1 3), .eq (I p0.C), .eq (.bool (p0.C == 0)), .eq (.bool (((p0.A == 0) && x1) && (p0.C == 0))), .eq (.bool (((p0.A == 0) && x1) && (p0.C == 0)))]
         [(6, .bool (((p0.A == 0) && x1) && (p0.C == 0)))] mix hF (by kernel_rfl) (by kernel_rfl) (by kernel_rfl) ⟨Pd.mono_eq, Pd.mono_eq, trivial⟩ (fun hG => ⟨np_loadBox hG hF ty3 rfl rfl (hs.bx 0 rfl) rfl rfl rfl, np_loadBox hG hF ty3 rfl rfl (hs.bx 0 rfl) rfl rfl rfl, trivial⟩) (by kernel_rfl) fun fr w25 hF hE hc => then_normal ?_)
     have hs := hs.ext hc
     have hM0 := hM0.ext hc
     have hs : Sep [] w25 S1 := Sep.pick [] hs (by decide) rfl
     obtain rfl := Option.some.inj h
     exact wp_ret (blk_ret (then_ret (ret1 rfl hF rfl ⟨_, rfl, rfl, hM0.chg⟩)))
   replace h := iteF hb h
   refine wp_seq (wp_pure [(3, B b1 0), (7, .bool x1), (13, I p0.Op), (94, .bool (p0.Op == 10))] hF (by kernel_rfl) fun fr hF => then_normal ?_)
   refine (wp_if hF (b := (p0.Op == 10)) rfl (fun hb => ?_) (fun hb => ?_))
   · replace h := iteT hb h
     obtain ⟨x23, hx23, h⟩ := bindE h
     refine wp_seq (region_b [] [true, false, false, true, true, true, true, true, false, true, true, true]
         [.eq (B b1 1), .eq (I p0.A), .eq (.bool x23), .eq (.bool x23), .eq (.bool x1), .eq (.bool (x23 && x1)), .eq (.bool (x23 && x1)), .eq (B b1 3), .eq (I p0.C), .eq (.bool (p0.C == 0)), .eq (.bool ((x23 && x1) && (p0.C == 0))), .eq (.bool ((x23 && x1) && (p0.C == 0)))]
         [(6, .bool ((x23 && x1) && (p0.C == 0)))] mix hF (by kernel_rfl) (by kernel_rfl) (by kernel_rfl) ⟨Pd.mono_eq, Pd.mono_eq, Pd.mono_eq, trivial⟩ (fun hG => ⟨np_loadBox hG hF ty3 rfl rfl (hs.bx 0 rfl) rfl rfl rfl, np_call [I p0.A] hG hF Try.call136 rfl rfl (fun w hC hg => (spec_l05Reg_ok p0.A hx23).mono fun e w' ⟨v, he, hv, hc⟩ => ⟨v, he, hc, hv⟩), np_loadBox hG hF ty3 rfl rfl (hs.bx 0 rfl) rfl rfl rfl, trivial⟩) (by kernel_rfl) fun fr w26 hF hE hc => then_normal ?_)
     have hs := hs.ext hc
     have hM0 := hM0.ext hc
     have hs : Sep [] w26 S1 := Sep.pick [] hs (by decide) rfl
     obtain rfl := Option.some.inj h
     exact wp_ret (blk_ret (then_ret (ret1 rfl hF rfl ⟨_, rfl, rfl, hM0.chg⟩)))
   replace h := iteF hb h
   refine wp_seq ?_
   refine wp_seq (wp_pure [(3, B b1 0), (13, I p0.Op), (107, .bool (p0.Op == 12))] hF (by kernel_rfl) fun fr hF => then_normal ?_)
   refine (wp_merge [(3, B b1 0), (107, .bool ((p0.Op == 12) || (p0.Op == 14)))] hF (b := (p0.Op == 12)) rfl (fun hb => ?_) (fun hb => ?_) fun fr hF => then_normal ?_)
   · exact wp_skip ⟨rfl, rfl, (hF.sub [(3, B b1 0), (107, .bool (p0.Op == 12))] (by kernel_rfl)).eqs (by first | (simp only [hb]; done) | (simp only [hb]; rfl))⟩
   · exact wp_pure [(3, B b1 0), (107, .bool (p0.Op == 14))] hF (by kernel_rfl) fun fr hF => ⟨rfl, rfl, hF.eqs (by first | (simp only [hb]; done) | (simp only [hb]; rfl))⟩
   refine (wp_if hF (b := ((p0.Op == 12) || (p0.Op == 14))) rfl (fun hb => ?_) (fun hb => ?_))
   · replace h := iteT hb h
     refine wp_seq (region_b [] [true, false, true, true, true, false, true, true, true, true, false, true, true, true]
         [.eq (B b1 1), .eq (I p0.A), .eq (.bool (p0.A == 0)), .eq (.bool (p0.A == 0)), .eq (B b1 2), .eq (I p0.B), .eq (.bool (p0.B == 0)), .eq (.bool ((p0.A == 0) && (p0.B == 0))), .eq (.bool ((p0.A == 0) && (p0.B == 0))), .eq (B b1 3), .eq (I p0.C), .eq (.bool (p0.C == 0)), .eq (.bool (((p0.A == 0) && (p0.B == 0)) && (p0.C == 0))), .eq (.bool (((p0.A == 0) && (p0.B == 0)) && (p0.C == 0)))]
         [(6, .bool (((p0.A == 0) && (p0.B == 0)) && (p0.C == 0)))] mix hF (by kernel_rfl) (by kernel_rfl) (by kernel_rfl) ⟨Pd.mono_eq, Pd.mono_eq, Pd.mono_eq, trivial⟩ (fun hG => ⟨np_loadBox hG hF ty3 rfl rfl (hs.bx 0 rfl) rfl rfl rfl, np_loadBox hG hF ty3 rfl rfl (hs.bx 0 rfl) rfl rfl rfl, np_loadBox hG hF ty3 rfl rfl (hs.bx 0 rfl) rfl rfl rfl, trivial⟩) (by kernel_rfl) fun fr w27 hF hE hc => then_normal ?_)
     have hs := hs.ext hc
     have hM0 := hM0.ext hc
     have hs : Sep [] w27 S1 := Sep.pick [] hs (by decide) rfl
     obtain rfl := Option.some.inj h
     exact wp_ret (blk_ret (then_ret (ret1 rfl hF rfl ⟨_, rfl, rfl, hM0.chg⟩)))
   replace h := iteF hb h
   have hs : Sep [] w2 S1 := Sep.pick [] hs (by decide) rfl
   refine (wp_skip ?_)
   refine blk_normal (then_normal ?_)
   refine wp_seq (wp_pure [(6, .bool false)] hF (by kernel_rfl) fun fr hF => then_normal ?_)
   obtain rfl := Option.some.inj h
   exact wp_ret (ret1 rfl hF rfl ⟨_, rfl, rfl, hM0.chg⟩)
 replace h := iteF hb h
 refine wp_seq (wp_pure [(3, B b1 0), (7, .bool x1), (13, I p0.Op), (62, .bool (p0.Op == 6))] hF (by kernel_rfl) fun fr hF => then_normal ?_)
 refine (wp_merge [(3, B b1 0), (7, .bool x1), (13, I p0.Op), (62, .bool ((p0.Op == 6) || (p0.Op == 13)))] hF (b := (p0.Op == 6)) rfl (fun hb => ?_) (fun hb => ?_) fun fr hF => then_normal ?_)
 · exact wp_skip ⟨rfl, rfl, (hF.sub [(3, B b1 0), (7, .bool x1), (13, I p0.Op), (62, .bool (p0.Op == 6))] (by kernel_rfl)).eqs (by first | (simp only [hb]; done) | (simp only [hb]; rfl))⟩
 · exact wp_pure [(3, B b1 0), (7, .bool x1), (13, I p0.Op), (62, .bool (p0.Op == 13))] hF (by kernel_rfl) fun fr hF => ⟨rfl, rfl, hF.eqs (by first | (simp only [hb]; done) | (simp only [hb]; rfl))⟩
 refine (wp_if hF (b := ((p0.Op == 6) || (p0.Op == 13))) rfl (fun hb => ?_) (fun hb => ?_))
 · replace h := iteT hb h
   obtain ⟨x24, hx24, h⟩ := bindE h
   refine wp_seq (region_b [] [true, false, false, true, true, false, true, true, true, true, false, true, true, true]
       [.eq (B b1 1), .eq (I p0.A), .eq (.bool x24), .eq (.bool x24), .eq (B b1 2), .eq (I p0.B), .eq (.bool (p0.B == 0)), .eq (.bool (x24 && (p0.B == 0))), .eq (.bool (x24 && (p0.B == 0))), .eq (B b1 3), .eq (I p0.C), .eq (.bool (p0.C == 0)), .eq (.bool ((x24 && (p0.B == 0)) && (p0.C == 0))), .eq (.bool ((x24 && (p0.B == 0)) && (p0.C == 0)))]
       [(6, .bool ((x24 && (p0.B == 0)) && (p0.C == 0)))] mix hF (by kernel_rfl) (by kernel_rfl) (by kernel_rfl) ⟨Pd.mono_eq, Pd.mono_eq, Pd.mono_eq, Pd.mono_eq, trivial⟩ (fun hG => ⟨np_loadBox hG hF ty3 rfl rfl (hs.bx 0 rfl) rfl rfl rfl, np_call [I p0.A] hG hF Try.call136 rfl rfl (fun w hC hg => (spec_l05Reg_ok p0.A hx24).mono fun e w' ⟨v, he, hv, hc⟩ => ⟨v, he, hc, hv⟩), np_loadBox hG hF ty3 rfl rfl (hs.bx 0 rfl) rfl rfl rfl, np_loadBox hG hF ty3 rfl rfl (hs.bx 0 rfl) rfl rfl rfl, trivial⟩) (by kernel_rfl) fun fr w28 hF hE hc => then_normal ?_)
   have hs := hs.ext hc
   have hM0 := hM0.ext hc
   have hs : Sep [] w28 S1 := Sep.pick [] hs (by decide) rfl
   obtain rfl := Option.some.inj h
   exact wp_ret (blk_ret (then_ret (ret1 rfl hF rfl ⟨_, rfl, rfl, hM0.chg⟩)))
 replace h := iteF hb h
 refine wp_seq ?_
 refine wp_seq (wp_pure [(3, B b1 0), (7, .bool x1), (13, I p0.Op), (80, .bool (p0.Op == 9))] hF (by kernel_rfl) fun fr hF => then_normal ?_)
 refine (wp_merge [(3, B b1 0), (7, .bool x1), (13, I p0.Op), (80, .bool ((p0.Op == 9) || (p0.Op == 11)))] hF (b := (p0.Op == 9)) rfl (fun hb => ?_) (fun hb => ?_) fun fr hF => then_normal ?_)
 · exact wp_skip ⟨rfl, rfl, (hF.sub [(3, B b1 0), (7, .bool x1), (13, I p0.Op), (80, .bool (p0.Op == 9))] (by kernel_rfl)).eqs (by first | (simp only [hb]; done) | (simp only [hb]; rfl))⟩
 · exact wp_pure [(3, B b1 0), (7, .bool x1), (13, I p0.Op), (80, .bool (p0.Op == 11))] hF (by kernel_rfl) fun fr hF => ⟨rfl, rfl, hF.eqs (by first | (simp only [hb]; done) | (simp only [hb]; rfl))⟩
 refine (wp_if hF (b := ((p0.Op == 9) || (p0.Op == 11))) rfl (fun hb => ?_) (fun hb => ?_))
 · replace h := iteT hb h
   refine wp_seq (region_b [] [true, false, true, true, true, true, true, true, false, true, true, true]
       [.eq (B b1 1), .eq (I p0.A), .eq (.bool (p0.A == 0)), .eq (.bool (p0.A == 0)), .eq (.bool x1), .eq (.bool ((p0.A == 0) && x1)), .eq (.bool ((p0.A == 0) && x1)), .eq (B b1 3), .eq (I p0.C), .eq (.bool (p0.C == 0)), .eq (.bool (((p0.A == 0) && x1) && (p0.C == 0))), .eq (.bool (((p0.A == 0) && x1) && (p0.C == 0)))]
       [(6, .bool (((p0.A == 0) && x1) && (p0.C == 0)))] mix hF (by kernel_rfl) (by kernel_rfl) (by kernel_rfl) ⟨Pd.mono_eq, Pd.mono_eq, trivial⟩ (fun hG => ⟨np_loadBox hG hF ty3 rfl rfl (hs.bx 0 rfl) rfl rfl rfl, np_loadBox hG hF ty3 rfl rfl (hs.bx 0 rfl) rfl rfl rfl, trivial⟩) (by kernel_rfl) fun fr w29 hF hE hc => then_normal ?_)
   have hs := hs.ext hc
   have hM0 := hM0.ext hc
   have hs : Sep [] w29 S1 := Sep.pick [] hs (by decide) rfl
   obtain rfl := Option.some.inj h
   exact wp_ret (blk_ret (then_ret (ret1 rfl hF rfl ⟨_, rfl, rfl, hM0.chg⟩)))
 replace h := iteF hb h
 refine wp_seq (wp_pure [(3, B b1 0), (7, .bool x1), (13, I p0.Op), (94, .bool (p0.Op == 10))] hF (by kernel_rfl) fun fr hF => then_normal ?_)
 refine (wp_if hF (b := (p0.Op == 10)) rfl (fun hb => ?_) (fun hb => ?_))
 · replace h := iteT hb h
   obtain ⟨x25, hx25, h⟩ := bindE h
   refine wp_seq (region_b [] [true, false, false, true, true, true, true, true, false, true, true, true]
       [.eq (B b1 1), .eq (I p0.A), .eq (.bool x25), .eq (.bool x25), .eq (.bool x1), .eq (.bool (x25 && x1)), .eq (.bool (x25 && x1)), .eq (B b1 3), .eq (I p0.C), .eq (.bool (p0.C == 0)), .eq (.bool ((x25 && x1) && (p0.C == 0))), .eq (.bool ((x25 && x1) && (p0.C == 0)))]
       [(6, .bool ((x25 && x1) && (p0.C == 0)))] mix hF (by kernel_rfl) (by kernel_rfl) (by kernel_rfl) ⟨Pd.mono_eq, Pd.mono_eq, Pd.mono_eq, trivial⟩ (fun hG => ⟨np_loadBox hG hF ty3 rfl rfl (hs.bx 0 rfl) rfl rfl rfl, np_call [I p0.A] hG hF Try.call136 rfl rfl (fun w hC hg => (spec_l05Reg_ok p0.A hx25).mono fun e w' ⟨v, he, hv, hc⟩ => ⟨v, he, hc, hv⟩), np_loadBox hG hF ty3 rfl rfl (hs.bx 0 rfl) rfl rfl rfl, trivial⟩) (by kernel_rfl) fun fr w30 hF hE hc => then_normal ?_)
   have hs := hs.ext hc
   have hM0 := hM0.ext hc
   have hs : Sep [] w30 S1 := Sep.pick [] hs (by decide) rfl
   obtain rfl := Option.some.inj h
   exact wp_ret (blk_ret (then_ret (ret1 rfl hF rfl ⟨_, rfl, rfl, hM0.chg⟩)))
 replace h := iteF hb h
 refine wp_seq ?_
 refine wp_seq (wp_pure [(3, B b1 0), (13, I p0.Op), (107, .bool (p0.Op == 12))] hF (by kernel_rfl) fun fr hF => then_normal ?_)
 refine (wp_merge [(3, B b1 0), (107, .bool ((p0.Op == 12) || (p0.Op == 14)))] hF (b := (p0.Op == 12)) rfl (fun hb => ?_) (fun hb => ?_) fun fr hF => then_normal ?_)
 · exact wp_skip ⟨rfl, rfl, (hF.sub [(3, B b1 0), (107, .bool (p0.Op == 12))] (by kernel_rfl)).eqs (by first | (simp only [hb]; done) | (simp only [hb]; rfl))⟩
 · exact wp_pure [(3, B b1 0), (107, .bool (p0.Op == 14))] hF (by kernel_rfl) fun fr hF => ⟨rfl, rfl, hF.eqs (by first | (simp only [hb]; done) | (simp only [hb]; rfl))⟩
 refine (wp_if hF (b := ((p0.Op == 12) || (p0.Op == 14))) rfl (fun hb => ?_) (fun hb => ?_))
 · replace h := iteT hb h
   refine wp_seq (region_b [] [true, false, true, true, true, false, true, true, true, true, false, true, true, true]
       [.eq (B b1 1), .eq (I p0.A), .eq (.bool (p0.A == 0)), .eq (.bool (p0.A == 0)), .eq (B b1 2), .eq (I p0.B), .eq (.bool (p0.B == 0)), .eq (.bool ((p0.A == 0) && (p0.B == 0))), .eq (.bool ((p0.A == 0) && (p0.B == 0))), .eq (B b1 3), .eq (I p0.C), .eq (.bool (p0.C == 0)), .eq (.bool (((p0.A == 0) && (p0.B == 0)) && (p0.C == 0))), .eq (.bool (((p0.A == 0) && (p0.B == 0)) && (p0.C == 0)))]
       [(6, .bool (((p0.A == 0) && (p0.B == 0)) && (p0.C == 0)))] mix hF (by kernel_rfl) (by kernel_rfl) (by kernel_rfl) ⟨Pd.mono_eq, Pd.mono_eq, Pd.mono_eq, trivial⟩ (fun hG => ⟨np_loadBox hG hF ty3 rfl rfl (hs.bx 0 rfl) rfl rfl rfl, np_loadBox hG hF ty3 rfl rfl (hs.bx 0 rfl) rfl rfl rfl, np_loadBox hG hF ty3 rfl rfl (hs.bx 0 rfl) rfl rfl rfl, trivial⟩) (by kernel_rfl) fun fr w31 hF hE hc => then_normal ?_)
   have hs := hs.ext hc
   have hM0 := hM0.ext hc
   have hs : Sep [] w31 S1 := Sep.pick [] hs (by decide) rfl
   obtain rfl := Option.some.inj h
   exact wp_ret (blk_ret (then_ret (ret1 rfl hF rfl ⟨_, rfl, rfl, hM0.chg⟩)))
 replace h := iteF hb h
 have hs : Sep [] w2 S1 := Sep.pick [] hs (by decide) rfl
 refine (wp_skip ?_)
 refine blk_normal (then_normal ?_)
 refine wp_seq (wp_pure [(6, .bool false)] hF (by kernel_rfl) fun fr hF => then_normal ?_)
 obtain rfl := Option.some.inj h
 exact wp_ret (ret1 rfl hF rfl ⟨_, rfl, rfl, hM0.chg⟩)

theorem spec_ProgramOk_ok (n : Nat) (p0 : D.Program) {r : Bool} (h : spec_ProgramOk n p0 = some r) {w : World} {G0 : Nat → Prop} {va0 : Value} (ra0 : RV w G0 va0 p0) :
   Calls Try.prog 57 [va0].toArray w fun e w' => ∃ v, e = .returned v ∧ v = .bool r ∧ Chg Non w w' := by
 unfold spec_ProgramOk at h
 have hs := Sep.nil w Non
 have hM0 : Mem w Non (fun k => (G0 k) ∧ k < w.heap.size) w Non (fun k => (G0 k) ∧ k < w.heap.size) := Mem.start (fun _ h => h.elim) (fun _ h => h.2) (fun _ h => h.elim)
 have ra0 := ra0.sub (F' := (fun k => (G0 k) ∧ k < w.heap.size)) (fun k hk h => ⟨h, hk⟩)
 obtain ⟨v1, rfl, r1⟩ := RV.Program ra0
 obtain ⟨a1, c1, rfl, -⟩ := r1.slice
 refine enter (N := 52) Try.func57 rfl Try.ntmps57 rfl fun fr hF => ?_
 refine wp_seq (wp_text' ?_)
 refine q_box hs hM0 [I p0.W, I p0.Mem, I p0.In, L a1 p0.Code c1] rfl rfl hF rfl rfl fun b1 w1 S1 fr hs hp hF => ?_
 have r1 := r1.stp hM0 hp
 have hM0 := hM0.stp hp
 have hs : Sep [BX b1 30 [I p0.W, I p0.Mem, I p0.In, L a1 p0.Code c1]] w1 S1 := hs
 refine from_pure 1 [(1, B b1 0)] hF (by kernel_rfl) fun fr hF => ?_
 refine from_end rfl (then_normal ?_)
 refine wp_seq ?_
 obtain ⟨x1, hx1, h⟩ := bindE h
 obtain ⟨x2, hx2, h⟩ := bindE h
 obtain ⟨x3, hx3, h⟩ := bindE h
 obtain ⟨x4, hx4, h⟩ := bindE h
 obtain ⟨x5, hx5, h⟩ := bindE h
 refine wp_seq (region_b [] [true, false, false, true, true, true, false, false, true, true, true, true, false, true, false, false, true, true, true, true, false, false, true, true, true, true, false, true, false, true, true]
     (.eq (B b1 0) :: .eq (I p0.W) :: .eq (.bool x1) :: .eq (.bool (!x1)) :: .eq (.bool (!x1)) :: .eq (B b1 1) :: .eq (I p0.Mem) :: .eq (.bool x2) :: .eq (.bool (!x2)) :: .eq (.bool ((!x1) || (!x2))) :: .eq (.bool ((!x1) || (!x2))) :: .eq (B b1 0) :: .eq (I p0.W) :: .eq (B b1 1) :: .eq (I p0.Mem) :: .eq (.bool x3) :: .eq (.bool (!x3)) :: .eq (.bool (((!x1) || (!x2)) || (!x3))) :: .eq (.bool (((!x1) || (!x2)) || (!x3))) :: .eq (B b1 2) :: .eq (I p0.In) :: .eq (.bool x4) :: .eq (.bool (!x4)) :: .eq (.bool ((((!x1) || (!x2)) || (!x3)) || (!x4))) :: .eq (.bool ((((!x1) || (!x2)) || (!x3)) || (!x4))) :: .eq (B b1 3) :: .eq (L a1 p0.Code c1) :: .eq (I (len p0.Code)) :: .eq (.bool x5) :: .eq (.bool (!x5)) :: .eq (.bool (((((!x1) || (!x2)) || (!x3)) || (!x4)) || (!x5))) :: [])
     [(1, B b1 0), (35, .bool (((((!x1) || (!x2)) || (!x3)) || (!x4)) || (!x5)))] mix hF (by kernel_rfl) (by kernel_rfl) (by kernel_rfl) ⟨Pd.mono_eq, Pd.mono_eq, Pd.mono_eq, Pd.mono_eq, Pd.mono_eq, Pd.mono_eq, Pd.mono_eq, Pd.mono_eq, Pd.mono_eq, Pd.mono_eq, Pd.mono_eq, trivial⟩ (fun hG => ⟨np_loadBox hG hF ty3 rfl rfl (hs.bx 0 rfl) rfl rfl rfl, np_call [I p0.W, I 2, I 8] hG hF Try.call58 rfl rfl (fun w hC hg => (spec_l01In_ok p0.W 2 8 hx1).mono fun e w' ⟨v, he, hv, hc⟩ => ⟨v, he, hc, hv⟩), np_loadBox hG hF ty3 rfl rfl (hs.bx 0 rfl) rfl rfl rfl, np_call [I p0.Mem, I 1, I 6] hG hF Try.call58 rfl rfl (fun w hC hg => (spec_l01In_ok p0.Mem 1 6 (iteF hg.2 hx2)).mono fun e w' ⟨v, he, hv, hc⟩ => ⟨v, he, hc, hv⟩), np_loadBox hG hF ty3 rfl rfl (hs.bx 0 rfl) rfl rfl rfl, np_loadBox hG hF ty3 rfl rfl (hs.bx 0 rfl) rfl rfl rfl, np_call [I p0.W, I p0.Mem] hG hF Try.call103 rfl rfl (fun w hC hg => (spec_WordOk_ok p0.W p0.Mem (iteF hg.2 hx3)).mono fun e w' ⟨v, he, hv, hc⟩ => ⟨v, he, hc, hv⟩), np_loadBox hG hF ty3 rfl rfl (hs.bx 0 rfl) rfl rfl rfl, np_call [I p0.In, I 0, I 3] hG hF Try.call58 rfl rfl (fun w hC hg => (spec_l01In_ok p0.In 0 3 (iteF hg.2 hx4)).mono fun e w' ⟨v, he, hv, hc⟩ => ⟨v, he, hc, hv⟩), np_loadBox hG hF ty28 rfl rfl (hs.bx 0 rfl) rfl rfl rfl, np_call [I (len p0.Code), I 1, I 40] hG hF Try.call58 rfl rfl (fun w hC hg => (spec_l01In_ok (len p0.Code) 1 40 (iteF hg.2 hx5)).mono fun e w' ⟨v, he, hv, hc⟩ => ⟨v, he, hc, hv⟩), trivial⟩) (by kernel_rfl) fun fr w2 hF hE hc => then_normal ?_)
 have r1 := r1.ext hc
 have hs := hs.ext hc
 have hM0 := hM0.ext hc
 refine (wp_if hF (b := (((((!x1) || (!x2)) || (!x3)) || (!x4)) || (!x5))) rfl (fun hb => ?_) (fun hb => ?_))
 · replace h := iteT hb h
   have hs : Sep [] w2 S1 := Sep.pick [] hs (by decide) rfl
   refine wp_seq (wp_pure [(2, .bool false)] hF (by kernel_rfl) fun fr hF => then_normal ?_)
   obtain rfl := Option.some.inj h
   exact wp_ret (then_ret (ret1 rfl hF rfl ⟨_, rfl, rfl, hM0.chg⟩))
 replace h := iteF hb h
 refine (wp_skip (then_normal ?_))
 refine wp_seq ?_
 refine wp_seq (wp_text' ?_)
 refine from_pure 1 [(1, B b1 0), (36, B b1 3)] hF (by kernel_rfl) fun fr hF => ?_
 refine s_loadBox (L a1 p0.Code c1) ty28 rfl rfl hF rfl (hs.bx 0 rfl) rfl rfl fun fr hF => ?_
 refine from_pure 2 [(1, B b1 0), (37, L a1 p0.Code c1), (38, I (len p0.Code)), (39, I 0)] hF (by kernel_rfl) fun fr hF => ?_
 refine from_end rfl (then_normal ?_)
 obtain ⟨rl1, hit1, h⟩ := bindE h
 have hk1 := h
 refine (GL.wp_cut (M := fun fr w' => ∃ s, rl1 = .inl s ∧ ∃ S3 F2, FrS 52 [] fr ∧ Mem w2 S1 (fun k => (G0 k) ∧ k < w.heap.size) w' S3 F2 ∧ Sep [] w' S3) (wp_block (wp_iter (Inv := fun s1 fr w' => ∃ S2 F1, FrS 52 [(1, B b1 0), (37, L a1 p0.Code c1), (38, I (len p0.Code)), (39, I s1)] fr ∧ Mem w2 S1 (fun k => (G0 k) ∧ k < w.heap.size) w' S2 F1 ∧ Sep [BX b1 30 [I p0.W, I p0.Mem, I p0.In, L a1 p0.Code c1]] w' S2) hit1 ⟨S1, _, hF.sub _ (by kernel_rfl), (Mem.start hM0.bd hM0.bdF hM0.dj), hs⟩ fun s1 q1 fr w1i hI h hr1 => ?_)) fun fr w1o hM => ?_)
 · obtain ⟨S2, F1, hF, hM1, hs⟩ := hI
   have r1 := r1.mem hM1
   refine wp_seq (wp_pure [(1, B b1 0), (37, L a1 p0.Code c1), (38, I (len p0.Code)), (39, I s1), (40, .bool (decide (s1 < (len p0.Code))))] hF (by kernel_rfl) fun fr hF => then_normal ?_)
   refine wp_seq (wp_if hF (b := (decide (s1 < (len p0.Code)))) rfl (fun hb => ?_) (fun hb => ?_))
   · replace h := iteT hb h
     refine (wp_skip (then_normal ?_))
     refine wp_seq (wp_block ?_)
     refine wp_seq (wp_text' ?_)
     obtain ⟨x6, hx6, h⟩ := bindE h
     refine s_elemF (z := x6) (.agg #[I x6.Op, I x6.A, I x6.B, I x6.C]) ty90 Try.underlying28 rfl rfl rfl rfl rfl hF rfl (r1) rfl (get?_nn hx6) (get?_at hx6) rfl fun p fr hF => ?_
     refine q_alloc (z := .agg #[I 0, I 0, I 0, I 0]) hs hM1 [I 0, I 0, I 0, I 0] rfl rfl hF (by kernel_rfl) rfl fun b2 w3 S4 fr hs hp hF => ?_
     have r1 := r1.stp hM1 hp
     have hM1 := hM1.stp hp
     have hs : Sep [BX b2 90 [I 0, I 0, I 0, I 0], BX b1 30 [I p0.W, I p0.Mem, I p0.In, L a1 p0.Code c1]] w3 S4 := hs
     refine q_storeBoxS 0 hs hM1 rfl [I x6.Op, I x6.A, I x6.B, I x6.C] rfl hF rfl rfl (by kernel_rfl) rfl rfl rfl fun w4 S5 hs hp hF => ?_
     have r1 := r1.stp hM1 hp
     have hM1 := hM1.stp hp
     have hs : Sep [BX b2 90 [I x6.Op, I x6.A, I x6.B, I x6.C], BX b1 30 [I p0.W, I p0.Mem, I p0.In, L a1 p0.Code c1]] w4 S5 := hs
     refine from_end rfl (then_normal ?_)
     refine wp_seq (wp_text' ?_)
     refine s_loadBoxS ty90 rfl rfl hF rfl (hs.bx 0 rfl) rfl rfl fun fr hF => ?_
     have hs : Sep [BX b1 30 [I p0.W, I p0.Mem, I p0.In, L a1 p0.Code c1]] w4 S5 := Sep.pick [1] hs (by decide) rfl
     refine from_pure 1 [(1, B b1 0), (37, L a1 p0.Code c1), (38, I (len p0.Code)), (39, I s1), (43, .agg #[I x6.Op, I x6.A, I x6.B, I x6.C]), (44, B b1 0)] hF (by kernel_rfl) fun fr hF => ?_
     refine s_loadBox (I p0.W) ty3 rfl rfl hF rfl (hs.bx 0 rfl) rfl rfl fun fr hF => ?_
     refine from_pure 1 [(1, B b1 0), (37, L a1 p0.Code c1), (38, I (len p0.Code)), (39, I s1), (43, .agg #[I x6.Op, I x6.A, I x6.B, I x6.C]), (45, I p0.W), (46, B b1 3)] hF (by kernel_rfl) fun fr hF => ?_
     refine s_loadBox (L a1 p0.Code c1) ty28 rfl rfl hF rfl (hs.bx 0 rfl) rfl rfl fun fr hF => ?_
     refine from_pure 1 [(1, B b1 0), (37, L a1 p0.Code c1), (38, I (len p0.Code)), (39, I s1), (43, .agg #[I x6.Op, I x6.A, I x6.B, I x6.C]), (45, I p0.W), (48, I (len p0.Code))] hF (by kernel_rfl) fun fr hF => ?_
     obtain ⟨x7, hx7, h⟩ := bindE h
     refine s_call [.agg #[I x6.Op, I x6.A, I x6.B, I x6.C], I p0.W, I (len p0.Code)] Try.call104 rfl rfl hF rfl (spec_l05Ins_ok x6 p0.W (len p0.Code) hx7) fun v w5 fr hRes hF => ?_
     obtain ⟨rfl, hc⟩ := hRes
     have r1 := r1.ext hc
     have hs := hs.ext hc
     have hM1 := hM1.ext hc
     refine from_pure 1 [(1, B b1 0), (37, L a1 p0.Code c1), (38, I (len p0.Code)), (39, I s1), (50, .bool (!x7))] hF (by kernel_rfl) fun fr hF => ?_
     refine from_end rfl (then_normal ?_)
     refine (wp_if hF (b := (!x7)) rfl (fun hb => ?_) (fun hb => ?_))
     · replace h := iteT hb h
       have hs : Sep [] w5 S5 := Sep.pick [] hs (by decide) rfl
       refine wp_seq (wp_pure [(2, .bool false)] hF (by kernel_rfl) fun fr hF => then_normal ?_)
       obtain rfl := hr1 _ (Option.some.inj h).symm
       obtain rfl := Option.some.inj hk1
       exact wp_ret (blk_ret (then_ret (then_ret (blk_ret (then_ret (ret1 rfl hF rfl ⟨_, rfl, rfl, (hM0.trans hM1).chg⟩))))))
     replace h := iteF hb h
     refine (wp_skip ?_)
     refine blk_normal (then_normal ?_)
     refine (wp_pure [(1, B b1 0), (37, L a1 p0.Code c1), (38, I (len p0.Code)), (39, I (w64 (s1 + 1)))] hF (by kernel_rfl) fun fr hF => then_normal ?_)
     exact ⟨_, (Option.some.inj h).symm, S5, _, hF.sub _ (by kernel_rfl), hM1, hs⟩
   replace h := iteF hb h
   have hs : Sep [] w1i S2 := Sep.pick [] hs (by decide) rfl
   refine (wp_exit (then_exit (then_exit (blk_exit_eq ?_))))
   obtain rfl := hr1 _ (Option.some.inj h).symm
   exact then_normal ⟨_, rfl, S2, _, hF.sub _ (by kernel_rfl), hM1, hs⟩
 · obtain ⟨s1r, rfl, hM⟩ := hM
   obtain ⟨S3, F2, hF, hMx, hs⟩ := hM
   have hM0 := hM0.trans hMx
   refine wp_seq (wp_pure [(2, .bool true)] hF (by kernel_rfl) fun fr hF => then_normal ?_)
   obtain rfl := Option.some.inj h
   exact wp_ret (ret1 rfl hF rfl ⟨_, rfl, rfl, hM0.chg⟩)

theorem spec_l02Const_ok (p0 : Int) (p1 : Int) {r : D.Term} (h : spec_l02Const p0 p1 = some r) {w : World} :
   Calls Try.prog 89 [I p0, I p1].toArray w fun e w' => ∃ v, e = .returned v ∧ v = .agg #[I r.Op, I r.W, I r.N, Str.val r.Name, L none ([] : List D.Term) 0] ∧ Chg Non w w' := by
 unfold spec_l02Const at h
 have hs := Sep.nil w Non
 have hM0 : Mem w Non (fun k => (False) ∧ k < w.heap.size) w Non (fun k => (False) ∧ k < w.heap.size) := Mem.start (fun _ h => h.elim) (fun _ h => h.2) (fun _ h => h.elim)
 refine enter (N := 8) Try.func89 rfl Try.ntmps89 rfl fun fr hF => ?_
 refine wp_seq (wp_text' ?_)
 refine q_alloc (z := .agg #[I 0, I 0, I 0, Str.val (⟨[]⟩), L none ([] : List D.Term) 0]) hs hM0 [I 0, I 0, I 0, Str.val (⟨[]⟩), L none ([] : List D.Term) 0] rfl rfl hF (by kernel_rfl) rfl fun b1 w1 S1 fr hs hp hF => ?_
 have hM0 := hM0.stp hp
 have hs : Sep [BX b1 121 [I 0, I 0, I 0, Str.val (⟨[]⟩), L none ([] : List D.Term) 0]] w1 S1 := hs
 refine from_end rfl (then_normal ?_)
 refine wp_seq (wp_text' ?_)
 refine from_pure 3 [(4, B b1 0), (7, .agg #[I 0, I p0, I p1, Str.val (⟨[]⟩), L none ([] : List D.Term) 0])] hF (by kernel_rfl) fun fr hF => ?_
 refine q_storeBoxS 0 hs hM0 rfl [I 0, I p0, I p1, Str.val (⟨[]⟩), L none ([] : List D.Term) 0] rfl hF rfl rfl (by kernel_rfl) rfl rfl rfl fun w2 S2 hs hp hF => ?_
 have hM0 := hM0.stp hp
 have hs : Sep [BX b1 121 [I 0, I p0, I p1, Str.val (⟨[]⟩), L none ([] : List D.Term) 0]] w2 S2 := hs
 refine from_end rfl (then_normal ?_)
 have hbr := (hs.bx 0 rfl)
 obtain rfl := Option.some.inj h
 exact wp_ret (retS rfl hF ty121 rfl rfl hbr rfl ⟨_, rfl, rfl, hM0.chg⟩)

theorem spec_StartPath_ok (n : Nat) (p0 : D.Program) {r : D.Path} (h : spec_StartPath n p0 = some r) {w : World} {G0 : Nat → Prop} {va0 : Value} (ra0 : RV w G0 va0 p0) :
   Calls Try.prog 47 [va0].toArray w fun e w' => ∃ v, e = .returned v ∧ ∃ a1 c1 a2 c2 a3 c3 a4 c4 a5 c5 a6 c6, v = .agg #[I r.Pc, L a1 r.Regs c1, L a2 r.Mem c2, L a3 r.Stack c3, I r.In, L a4 r.Out c4, I r.Code, I r.Steps, L a5 r.Cond c5, L a6 r.Turns c6] ∧ ∃ S', Stp w Non w' S' ∧ Sep [sl121 (L a1 r.Regs c1) r.Regs, sl121 (L a2 r.Mem c2) r.Mem, sl3 (L a3 r.Stack c3) r.Stack, sl121 (L a4 r.Out c4) r.Out, sl121 (L a5 r.Cond c5) r.Cond, sl3 (L a6 r.Turns c6) r.Turns] w' S' := by
 unfold spec_StartPath at h
 have hs := Sep.nil w Non
 have hM0 : Mem w Non (fun k => (G0 k) ∧ k < w.heap.size) w Non (fun k => (G0 k) ∧ k < w.heap.size) := Mem.start (fun _ h => h.elim) (fun _ h => h.2) (fun _ h => h.elim)
 have ra0 := ra0.sub (F' := (fun k => (G0 k) ∧ k < w.heap.size)) (fun k hk h => ⟨h, hk⟩)
 obtain ⟨v1, rfl, r1⟩ := RV.Program ra0
 obtain ⟨a1, c1, rfl, -⟩ := r1.slice
 refine enter (N := 38) Try.func47 rfl Try.ntmps47 rfl fun fr hF => ?_
 refine wp_seq (wp_text' ?_)
 refine q_box hs hM0 [I p0.W, I p0.Mem, I p0.In, L a1 p0.Code c1] rfl rfl hF rfl rfl fun b1 w1 S1 fr hs hp hF => ?_
 have r1 := r1.stp hM0 hp
 have hM0 := hM0.stp hp
 have hs : Sep [BX b1 30 [I p0.W, I p0.Mem, I p0.In, L a1 p0.Code c1]] w1 S1 := hs
 refine q_alloc (z := .agg #[I 0, L none ([] : List D.Term) 0, L none ([] : List D.Term) 0, L none ([] : List Int) 0, I 0, L none ([] : List D.Term) 0, I 0, I 0, L none ([] : List D.Term) 0, L none ([] : List Int) 0]) hs hM0 [I 0, L none ([] : List D.Term) 0, L none ([] : List D.Term) 0, L none ([] : List Int) 0, I 0, L none ([] : List D.Term) 0, I 0, I 0, L none ([] : List D.Term) 0, L none ([] : List Int) 0] rfl rfl hF (by kernel_rfl) rfl fun b2 w2 S2 fr hs hp hF => ?_
 have r1 := r1.stp hM0 hp
 have hM0 := hM0.stp hp
 have hs : Sep [BX b2 75 [I 0, L none ([] : List D.Term) 0, L none ([] : List D.Term) 0, L none ([] : List Int) 0, I 0, L none ([] : List D.Term) 0, I 0, I 0, L none ([] : List D.Term) 0, L none ([] : List Int) 0], BX b1 30 [I p0.W, I p0.Mem, I p0.In, L a1 p0.Code c1]] w2 S2 := hs
 refine from_end rfl (then_normal ?_)
 refine wp_seq ?_
 refine wp_seq (wp_text' ?_)
 refine s_loadBoxS ty30 rfl rfl hF rfl (hs.bx 1 rfl) rfl rfl fun fr hF => ?_
 obtain ⟨x1, hx1, h⟩ := bindE h
 refine s_call [.agg #[I p0.W, I p0.Mem, I p0.In, L a1 p0.Code c1]] Try.call57 rfl rfl hF rfl (spec_ProgramOk_ok n p0 hx1 (RV.mk_Program p0 (r1))) fun v w3 fr hRes hF => ?_
 obtain ⟨rfl, hc⟩ := hRes
 have r1 := r1.ext hc
 have hs := hs.ext hc
 have hM0 := hM0.ext hc
 refine from_pure 1 [(1, B b1 0), (2, B b2 0), (8, .bool (!x1))] hF (by kernel_rfl) fun fr hF => ?_
 refine from_end rfl (then_normal ?_)
 refine (wp_if hF (b := (!x1)) rfl (fun hb => ?_) (fun hb => ?_))
 · replace h := iteT hb h
   have hs : Sep [BX b2 75 [I 0, L none ([] : List D.Term) 0, L none ([] : List D.Term) 0, L none ([] : List Int) 0, I 0, L none ([] : List D.Term) 0, I 0, I 0, L none ([] : List D.Term) 0, L none ([] : List Int) 0]] w3 S2 := Sep.pick [0] hs (by decide) rfl
   refine wp_seq (wp_text' ?_)
   refine from_pure 1 [(2, B b2 0), (9, .agg #[I 0, L none ([] : List D.Term) 0, L none ([] : List D.Term) 0, L none ([] : List Int) 0, I 0, L none ([] : List D.Term) 0, I 0, I 0, L none ([] : List D.Term) 0, L none ([] : List Int) 0])] hF (by kernel_rfl) fun fr hF => ?_
   refine q_storeBoxS 0 hs hM0 rfl [I 0, L none ([] : List D.Term) 0, L none ([] : List D.Term) 0, L none ([] : List Int) 0, I 0, L none ([] : List D.Term) 0, I 0, I 0, L none ([] : List D.Term) 0, L none ([] : List Int) 0] rfl hF rfl rfl (by kernel_rfl) rfl rfl rfl fun w4 S3 hs hp hF => ?_
   have hM0 := hM0.stp hp
   have hs : Sep [BX b2 75 [I 0, L none ([] : List D.Term) 0, L none ([] : List D.Term) 0, L none ([] : List Int) 0, I 0, L none ([] : List D.Term) 0, I 0, I 0, L none ([] : List D.Term) 0, L none ([] : List Int) 0]] w4 S3 := hs
   refine from_end rfl (then_normal ?_)
   have hbr := (hs.bx 0 rfl)
   have hs : Sep [sl121 (L none ([] : List D.Term) 0) ([] : List D.Term), BX b2 75 [I 0, L none ([] : List D.Term) 0, L none ([] : List D.Term) 0, L none ([] : List Int) 0, I 0, L none ([] : List D.Term) 0, I 0, I 0, L none ([] : List D.Term) 0, L none ([] : List Int) 0]] w4 S3 := hs.cons_nil (α := D.Term) 121
   have hs : Sep [sl121 (L none ([] : List D.Term) 0) ([] : List D.Term), sl121 (L none ([] : List D.Term) 0) ([] : List D.Term), BX b2 75 [I 0, L none ([] : List D.Term) 0, L none ([] : List D.Term) 0, L none ([] : List Int) 0, I 0, L none ([] : List D.Term) 0, I 0, I 0, L none ([] : List D.Term) 0, L none ([] : List Int) 0]] w4 S3 := hs.cons_nil (α := D.Term) 121
   have hs : Sep [sl3 (L none ([] : List Int) 0) ([] : List Int), sl121 (L none ([] : List D.Term) 0) ([] : List D.Term), sl121 (L none ([] : List D.Term) 0) ([] : List D.Term), BX b2 75 [I 0, L none ([] : List D.Term) 0, L none ([] : List D.Term) 0, L none ([] : List Int) 0, I 0, L none ([] : List D.Term) 0, I 0, I 0, L none ([] : List D.Term) 0, L none ([] : List Int) 0]] w4 S3 := hs.cons_nil (α := Int) 3
   have hs : Sep [sl121 (L none ([] : List D.Term) 0) ([] : List D.Term), sl3 (L none ([] : List Int) 0) ([] : List Int), sl121 (L none ([] : List D.Term) 0) ([] : List D.Term), sl121 (L none ([] : List D.Term) 0) ([] : List D.Term), BX b2 75 [I 0, L none ([] : List D.Term) 0, L none ([] : List D.Term) 0, L none ([] : List Int) 0, I 0, L none ([] : List D.Term) 0, I 0, I 0, L none ([] : List D.Term) 0, L none ([] : List Int) 0]] w4 S3 := hs.cons_nil (α := D.Term) 121
   have hs : Sep [sl121 (L none ([] : List D.Term) 0) ([] : List D.Term), sl121 (L none ([] : List D.Term) 0) ([] : List D.Term), sl3 (L none ([] : List Int) 0) ([] : List Int), sl121 (L none ([] : List D.Term) 0) ([] : List D.Term), sl121 (L none ([] : List D.Term) 0) ([] : List D.Term), BX b2 75 [I 0, L none ([] : List D.Term) 0, L none ([] : List D.Term) 0, L none ([] : List Int) 0, I 0, L none ([] : List D.Term) 0, I 0, I 0, L none ([] : List D.Term) 0, L none ([] : List Int) 0]] w4 S3 := hs.cons_nil (α := D.Term) 121
   have hs : Sep [sl3 (L none ([] : List Int) 0) ([] : List Int), sl121 (L none ([] : List D.Term) 0) ([] : List D.Term), sl121 (L none ([] : List D.Term) 0) ([] : List D.Term), sl3 (L none ([] : List Int) 0) ([] : List Int), sl121 (L none ([] : List D.Term) 0) ([] : List D.Term), sl121 (L none ([] : List D.Term) 0) ([] : List D.Term), BX b2 75 [I 0, L none ([] : List D.Term) 0, L none ([] : List D.Term) 0, L none ([] : List Int) 0, I 0, L none ([] : List D.Term) 0, I 0, I 0, L none ([] : List D.Term) 0, L none ([] : List Int) 0]] w4 S3 := hs.cons_nil (α := Int) 3
   obtain rfl := Option.some.inj h
   have hs : Sep [sl121 (L none ([] : List D.Term) 0) ([] : List D.Term), sl121 (L none ([] : List D.Term) 0) ([] : List D.Term), sl3 (L none ([] : List Int) 0) ([] : List Int), sl121 (L none ([] : List D.Term) 0) ([] : List D.Term), sl121 (L none ([] : List D.Term) 0) ([] : List D.Term), sl3 (L none ([] : List Int) 0) ([] : List Int)] w4 S3 := Sep.pick [5, 4, 3, 2, 1, 0] hs (by decide) rfl
   exact wp_ret (then_ret (retS rfl hF ty75 rfl rfl hbr rfl ⟨_, rfl, none, 0, none, 0, none, 0, none, 0, none, 0, none, 0, rfl, S3, hM0.out, hs⟩))
 replace h := iteF hb h
 refine (wp_skip (then_normal ?_))
 refine wp_seq (wp_text' ?_)
 refine from_pure 1 [(1, B b1 0), (2, B b2 0), (10, .agg #[I 0, L none ([] : List D.Term) 0, L none ([] : List D.Term) 0, L none ([] : List Int) 0, I 0, L none ([] : List D.Term) 0, I 0, I 0, L none ([] : List D.Term) 0, L none ([] : List Int) 0])] hF (by kernel_rfl) fun fr hF => ?_
 refine q_alloc (z := .agg #[I 0, L none ([] : List D.Term) 0, L none ([] : List D.Term) 0, L none ([] : List Int) 0, I 0, L none ([] : List D.Term) 0, I 0, I 0, L none ([] : List D.Term) 0, L none ([] : List Int) 0]) hs hM0 [I 0, L none ([] : List D.Term) 0, L none ([] : List D.Term) 0, L none ([] : List Int) 0, I 0, L none ([] : List D.Term) 0, I 0, I 0, L none ([] : List D.Term) 0, L none ([] : List Int) 0] rfl rfl hF (by kernel_rfl) rfl fun b3 w5 S4 fr hs hp hF => ?_
 have r1 := r1.stp hM0 hp
 have hM0 := hM0.stp hp
 have hs : Sep [BX b3 75 [I 0, L none ([] : List D.Term) 0, L none ([] : List D.Term) 0, L none ([] : List Int) 0, I 0, L none ([] : List D.Term) 0, I 0, I 0, L none ([] : List D.Term) 0, L none ([] : List Int) 0], BX b2 75 [I 0, L none ([] : List D.Term) 0, L none ([] : List D.Term) 0, L none ([] : List Int) 0, I 0, L none ([] : List D.Term) 0, I 0, I 0, L none ([] : List D.Term) 0, L none ([] : List Int) 0], BX b1 30 [I p0.W, I p0.Mem, I p0.In, L a1 p0.Code c1]] w5 S4 := hs
 refine q_storeBoxS 0 hs hM0 rfl [I 0, L none ([] : List D.Term) 0, L none ([] : List D.Term) 0, L none ([] : List Int) 0, I 0, L none ([] : List D.Term) 0, I 0, I 0, L none ([] : List D.Term) 0, L none ([] : List Int) 0] rfl hF rfl rfl (by kernel_rfl) rfl rfl rfl fun w6 S5 hs hp hF => ?_
 have r1 := r1.stp hM0 hp
 have hM0 := hM0.stp hp
 have hs : Sep [BX b3 75 [I 0, L none ([] : List D.Term) 0, L none ([] : List D.Term) 0, L none ([] : List Int) 0, I 0, L none ([] : List D.Term) 0, I 0, I 0, L none ([] : List D.Term) 0, L none ([] : List Int) 0], BX b2 75 [I 0, L none ([] : List D.Term) 0, L none ([] : List D.Term) 0, L none ([] : List Int) 0, I 0, L none ([] : List D.Term) 0, I 0, I 0, L none ([] : List D.Term) 0, L none ([] : List Int) 0], BX b1 30 [I p0.W, I p0.Mem, I p0.In, L a1 p0.Code c1]] w6 S5 := hs
 refine from_end rfl (then_normal ?_)
 refine wp_seq ?_
 refine wp_seq (wp_pure [(1, B b1 0), (2, B b2 0), (3, B b3 0), (4, I 0)] hF (by kernel_rfl) fun fr hF => then_normal ?_)
 have hs : Sep [sl121 (L none ([] : List D.Term) 0) ([] : List D.Term), BX b3 75 [I 0, L none ([] : List D.Term) 0, L none ([] : List D.Term) 0, L none ([] : List Int) 0, I 0, L none ([] : List D.Term) 0, I 0, I 0, L none ([] : List D.Term) 0, L none ([] : List Int) 0], BX b2 75 [I 0, L none ([] : List D.Term) 0, L none ([] : List D.Term) 0, L none ([] : List Int) 0, I 0, L none ([] : List D.Term) 0, I 0, I 0, L none ([] : List D.Term) 0, L none ([] : List Int) 0], BX b1 30 [I p0.W, I p0.Mem, I p0.In, L a1 p0.Code c1]] w6 S5 := hs.cons_nil (α := D.Term) 121
 have hs : Sep [sl121 (L none ([] : List D.Term) 0) ([] : List D.Term), BX b3 75 [I 0, L none ([] : List D.Term) 0, L none ([] : List D.Term) 0, L none ([] : List Int) 0, I 0, L none ([] : List D.Term) 0, I 0, I 0, L none ([] : List D.Term) 0, L none ([] : List Int) 0], BX b2 75 [I 0, L none ([] : List D.Term) 0, L none ([] : List D.Term) 0, L none ([] : List Int) 0, I 0, L none ([] : List D.Term) 0, I 0, I 0, L none ([] : List D.Term) 0, L none ([] : List Int) 0], BX b1 30 [I p0.W, I p0.Mem, I p0.In, L a1 p0.Code c1]] w6 S5 := hs
 obtain ⟨rl1, hit1, h⟩ := bindE h
 have hk1 := h
 refine (GL.wp_cut (M := fun fr w' => ∃ a3 c3 S7 F2, FrS 38 [(1, B b1 0), (2, B b2 0), (3, B b3 0)] fr ∧ Mem w6 S5 (fun k => (G0 k) ∧ k < w.heap.size) w' S7 F2 ∧ Sep [sl121 (L a3 rl1 c3) rl1, BX b3 75 [I 0, L a3 rl1 c3, L none ([] : List D.Term) 0, L none ([] : List Int) 0, I 0, L none ([] : List D.Term) 0, I 0, I 0, L none ([] : List D.Term) 0, L none ([] : List Int) 0], BX b2 75 [I 0, L none ([] : List D.Term) 0, L none ([] : List D.Term) 0, L none ([] : List Int) 0, I 0, L none ([] : List D.Term) 0, I 0, I 0, L none ([] : List D.Term) 0, L none ([] : List Int) 0], BX b1 30 [I p0.W, I p0.Mem, I p0.In, L a1 p0.Code c1]] w' S7) (wp_block (wp_iter (Inv := fun s1 fr w' => ∃ a2 c2 S6 F1, FrS 38 [(1, B b1 0), (2, B b2 0), (3, B b3 0), (4, I s1.1)] fr ∧ Mem w6 S5 (fun k => (G0 k) ∧ k < w.heap.size) w' S6 F1 ∧ Sep [sl121 (L a2 s1.2 c2) s1.2, BX b3 75 [I 0, L a2 s1.2 c2, L none ([] : List D.Term) 0, L none ([] : List Int) 0, I 0, L none ([] : List D.Term) 0, I 0, I 0, L none ([] : List D.Term) 0, L none ([] : List Int) 0], BX b2 75 [I 0, L none ([] : List D.Term) 0, L none ([] : List D.Term) 0, L none ([] : List Int) 0, I 0, L none ([] : List D.Term) 0, I 0, I 0, L none ([] : List D.Term) 0, L none ([] : List Int) 0], BX b1 30 [I p0.W, I p0.Mem, I p0.In, L a1 p0.Code c1]] w' S6) hit1 ⟨none, 0, S5, _, hF.sub _ (by kernel_rfl), (Mem.start hM0.bd hM0.bdF hM0.dj), hs⟩ fun s1 q1 fr w1i hI h hr1 => ?_)) fun fr w1o hM => ?_)
 · obtain ⟨a2, c2, S6, F1, hF, hM1, hs⟩ := hI
   have r1 := r1.mem hM1
   refine wp_seq ?_
   refine wp_seq (wp_pure [(1, B b1 0), (2, B b2 0), (3, B b3 0), (4, I s1.1), (12, .bool (decide (s1.1 < 4)))] hF (by kernel_rfl) fun fr hF => then_normal ?_)
   refine (wp_if hF (b := (decide (s1.1 < 4))) rfl (fun hb => ?_) (fun hb => ?_))
   · replace h := iteT hb h
     refine (wp_skip (then_normal ?_))
     refine wp_seq (wp_block ?_)
     obtain ⟨x2, hx2, h⟩ := bindE h
     refine (region_bm 6 [0, 1, 0, 4, 12, 28, 63, 127, 255] [true, false, true, false, false, false]
         [.eq (B b3 1), .eq (L a2 s1.2 c2), .eq (B b1 0), .eq (I p0.W), .eq (.agg #[I x2.Op, I x2.W, I x2.N, Str.val x2.Name, L none ([] : List D.Term) 0]), .own fun ow v w => ∃ i : Option Addr × Nat, v = L i.1 ([x2] : List D.Term) i.2 ∧ (sl121 (L i.1 ([x2] : List D.Term) i.2) ([x2] : List D.Term)).ok w (fun k => w1i.heap.size ≤ k ∧ k < w.heap.size ∧ ow k = 5), .any, .any, .any]
         [(1, B b1 0), (2, B b2 0), (3, B b3 0), (4, I s1.1), (16, L a2 s1.2 c2)] mix hF (by kernel_rfl) (by kernel_rfl) (by kernel_rfl) (by kernel_rfl) ⟨Pd.monoO_eq, Pd.monoO_eq, Pd.monoO_eq, mono_new, trivial⟩ (fun ow hG => ⟨np_to ow (np_loadBox hG hF ty73 rfl rfl (hs.bx 1 rfl) rfl rfl rfl), np_to ow (np_loadBox hG hF ty3 rfl rfl (hs.bx 3 rfl) rfl rfl rfl), np_to ow (np_call [I p0.W, I 0] hG hF Try.call89 rfl rfl (fun w hC hg => (spec_l02Const_ok p0.W 0 hx2).mono fun e w' ⟨v, he, hv, hc⟩ => ⟨v, he, hc, hv⟩)), np_lit (E := 121) [I x2.Op, I x2.W, I x2.N, Str.val x2.Name, L none ([] : List D.Term) 0] (([x2] : List D.Term).map Flat.enc) ([x2] : List D.Term) hG hF rfl [.agg #[I x2.Op, I x2.W, I x2.N, Str.val x2.Name, L none ([] : List D.Term) 0]] rfl (fun w => by kernel_rfl) (fun w => css_flat _) rfl rfl rfl rfl, trivial⟩) (by kernel_rfl) fun ow fr w7 hF hE hc => ?_)
     obtain ⟨⟨a4, c4⟩, hv, hnw5⟩ := hE.is 20 5 rfl rfl
     have hF := hF.cons hv
     have hsN := sepO (w0 := w1i) (ow := ow) [(5, sl121 (L a4 ([x2] : List D.Term) c4) ([x2] : List D.Term))] (show ([5] : List Nat).Nodup by decide) ⟨hnw5, trivial⟩ rfl
     obtain ⟨S8, hp, hs⟩ := hs.got hM1 (stp_new hc) hsN
     have r1 := r1.stp hM1 hp
     have hM1 := hM1.stp hp
     have hs : Sep [sl121 (L a4 ([x2] : List D.Term) c4) ([x2] : List D.Term), sl121 (L a2 s1.2 c2) s1.2, BX b3 75 [I 0, L a2 s1.2 c2, L none ([] : List D.Term) 0, L none ([] : List Int) 0, I 0, L none ([] : List D.Term) 0, I 0, I 0, L none ([] : List D.Term) 0, L none ([] : List Int) 0], BX b2 75 [I 0, L none ([] : List D.Term) 0, L none ([] : List D.Term) 0, L none ([] : List Int) 0, I 0, L none ([] : List D.Term) 0, I 0, I 0, L none ([] : List D.Term) 0, L none ([] : List Int) 0], BX b1 30 [I p0.W, I p0.Mem, I p0.In, L a1 p0.Code c1]] w7 S8 := hs
     obtain ⟨x3, hx3, h⟩ := bindE h
     refine q_append 1 hs hM1 rfl Try.underlying73 el121 rfl rfl rfl hF rfl rfl (hs.rv 0 rfl) hx3 fun a5 c5 w8 S9 fr hs hp hF => ?_
     have r1 := r1.stp hM1 hp
     have hM1 := hM1.stp hp
     have hs : Sep [sl121 (L a4 ([x2] : List D.Term) c4) ([x2] : List D.Term), sl121 (L a5 x3 c5) x3, BX b3 75 [I 0, L a2 s1.2 c2, L none ([] : List D.Term) 0, L none ([] : List Int) 0, I 0, L none ([] : List D.Term) 0, I 0, I 0, L none ([] : List D.Term) 0, L none ([] : List Int) 0], BX b2 75 [I 0, L none ([] : List D.Term) 0, L none ([] : List D.Term) 0, L none ([] : List Int) 0, I 0, L none ([] : List D.Term) 0, I 0, I 0, L none ([] : List D.Term) 0, L none ([] : List Int) 0], BX b1 30 [I p0.W, I p0.Mem, I p0.In, L a1 p0.Code c1]] w8 S9 := hs
     have hs : Sep [sl121 (L a5 x3 c5) x3, BX b3 75 [I 0, L a2 s1.2 c2, L none ([] : List D.Term) 0, L none ([] : List Int) 0, I 0, L none ([] : List D.Term) 0, I 0, I 0, L none ([] : List D.Term) 0, L none ([] : List Int) 0], BX b2 75 [I 0, L none ([] : List D.Term) 0, L none ([] : List D.Term) 0, L none ([] : List Int) 0, I 0, L none ([] : List D.Term) 0, I 0, I 0, L none ([] : List D.Term) 0, L none ([] : List Int) 0], BX b1 30 [I p0.W, I p0.Mem, I p0.In, L a1 p0.Code c1]] w8 S9 := Sep.pick [1, 2, 3, 4] hs (by decide) rfl
     refine from_pure 1 [(1, B b1 0), (2, B b2 0), (3, B b3 0), (4, I s1.1), (21, L a5 x3 c5), (22, B b3 1)] hF (by kernel_rfl) fun fr hF => ?_
     refine q_storeBox 1 hs hM1 rfl [I 0, L a5 x3 c5, L none ([] : List D.Term) 0, L none ([] : List Int) 0, I 0, L none ([] : List D.Term) 0, I 0, I 0, L none ([] : List D.Term) 0, L none ([] : List Int) 0] rfl hF rfl rfl (by kernel_rfl) rfl rfl rfl fun w9 S10 hs hp hF => ?_
     have r1 := r1.stp hM1 hp
     have hM1 := hM1.stp hp
     have hs : Sep [sl121 (L a5 x3 c5) x3, BX b3 75 [I 0, L a5 x3 c5, L none ([] : List D.Term) 0, L none ([] : List Int) 0, I 0, L none ([] : List D.Term) 0, I 0, I 0, L none ([] : List D.Term) 0, L none ([] : List Int) 0], BX b2 75 [I 0, L none ([] : List D.Term) 0, L none ([] : List D.Term) 0, L none ([] : List Int) 0, I 0, L none ([] : List D.Term) 0, I 0, I 0, L none ([] : List D.Term) 0, L none ([] : List Int) 0], BX b1 30 [I p0.W, I p0.Mem, I p0.In, L a1 p0.Code c1]] w9 S10 := hs
     refine from_end rfl ?_
     refine blk_normal (then_normal ?_)
     refine (wp_pure [(1, B b1 0), (2, B b2 0), (3, B b3 0), (4, I (w64 (s1.1 + 1)))] hF (by kernel_rfl) fun fr hF => then_normal ?_)
     exact ⟨_, (Option.some.inj h).symm, a5, c5, S10, _, hF.sub _ (by kernel_rfl), hM1, hs⟩
   replace h := iteF hb h
   refine (wp_exit (then_exit (then_exit (blk_exit_eq ?_))))
   obtain rfl := hr1 _ (Option.some.inj h).symm
   exact then_normal ⟨a2, c2, S6, _, hF.sub _ (by kernel_rfl), hM1, hs⟩
 · obtain ⟨a3, c3, S7, F2, hF, hMx, hs⟩ := hM
   have r1 := r1.mem hMx
   have hM0 := hM0.trans hMx
   refine wp_seq ?_
   refine wp_seq (wp_pure [(1, B b1 0), (2, B b2 0), (3, B b3 0), (5, I 0)] hF (by kernel_rfl) fun fr hF => then_normal ?_)
   have hs : Sep [sl121 (L none ([] : List D.Term) 0) ([] : List D.Term), sl121 (L a3 rl1 c3) rl1, BX b3 75 [I 0, L a3 rl1 c3, L none ([] : List D.Term) 0, L none ([] : List Int) 0, I 0, L none ([] : List D.Term) 0, I 0, I 0, L none ([] : List D.Term) 0, L none ([] : List Int) 0], BX b2 75 [I 0, L none ([] : List D.Term) 0, L none ([] : List D.Term) 0, L none ([] : List Int) 0, I 0, L none ([] : List D.Term) 0, I 0, I 0, L none ([] : List D.Term) 0, L none ([] : List Int) 0], BX b1 30 [I p0.W, I p0.Mem, I p0.In, L a1 p0.Code c1]] w1o S7 := hs.cons_nil (α := D.Term) 121
   have hs : Sep [sl121 (L none ([] : List D.Term) 0) ([] : List D.Term), sl121 (L a3 rl1 c3) rl1, BX b3 75 [I 0, L a3 rl1 c3, L none ([] : List D.Term) 0, L none ([] : List Int) 0, I 0, L none ([] : List D.Term) 0, I 0, I 0, L none ([] : List D.Term) 0, L none ([] : List Int) 0], BX b2 75 [I 0, L none ([] : List D.Term) 0, L none ([] : List D.Term) 0, L none ([] : List Int) 0, I 0, L none ([] : List D.Term) 0, I 0, I 0, L none ([] : List D.Term) 0, L none ([] : List Int) 0], BX b1 30 [I p0.W, I p0.Mem, I p0.In, L a1 p0.Code c1]] w1o S7 := hs
   obtain ⟨rl2, hit2, h⟩ := bindE h
   have hk2 := h
   refine (GL.wp_cut (M := fun fr w' => ∃ a7 c7 S12 F4, FrS 38 [(2, B b2 0), (3, B b3 0)] fr ∧ Mem w1o S7 F2 w' S12 F4 ∧ Sep [sl121 (L a7 rl2 c7) rl2, sl121 (L a3 rl1 c3) rl1, BX b3 75 [I 0, L a3 rl1 c3, L a7 rl2 c7, L none ([] : List Int) 0, I 0, L none ([] : List D.Term) 0, I 0, I 0, L none ([] : List D.Term) 0, L none ([] : List Int) 0], BX b2 75 [I 0, L none ([] : List D.Term) 0, L none ([] : List D.Term) 0, L none ([] : List Int) 0, I 0, L none ([] : List D.Term) 0, I 0, I 0, L none ([] : List D.Term) 0, L none ([] : List Int) 0]] w' S12) (wp_block (wp_iter (Inv := fun s2 fr w' => ∃ a6 c6 S11 F3, FrS 38 [(1, B b1 0), (2, B b2 0), (3, B b3 0), (5, I s2.1)] fr ∧ Mem w1o S7 F2 w' S11 F3 ∧ Sep [sl121 (L a6 s2.2 c6) s2.2, sl121 (L a3 rl1 c3) rl1, BX b3 75 [I 0, L a3 rl1 c3, L a6 s2.2 c6, L none ([] : List Int) 0, I 0, L none ([] : List D.Term) 0, I 0, I 0, L none ([] : List D.Term) 0, L none ([] : List Int) 0], BX b2 75 [I 0, L none ([] : List D.Term) 0, L none ([] : List D.Term) 0, L none ([] : List Int) 0, I 0, L none ([] : List D.Term) 0, I 0, I 0, L none ([] : List D.Term) 0, L none ([] : List Int) 0], BX b1 30 [I p0.W, I p0.Mem, I p0.In, L a1 p0.Code c1]] w' S11) hit2 ⟨none, 0, S7, _, hF.sub _ (by kernel_rfl), (Mem.start hM0.bd hM0.bdF hM0.dj), hs⟩ fun s2 q2 fr w2i hI h hr2 => ?_)) fun fr w2o hM => ?_)
   · obtain ⟨a6, c6, S11, F3, hF, hM1, hs⟩ := hI
     have r1 := r1.mem hM1
     refine wp_seq ?_
     refine wp_seq (wp_text' ?_)
     refine from_pure 2 [(1, B b1 0), (2, B b2 0), (3, B b3 0), (5, I s2.1), (23, I s2.1), (24, B b1 1)] hF (by kernel_rfl) fun fr hF => ?_
     refine s_loadBox (I p0.Mem) ty3 rfl rfl hF rfl (hs.bx 4 rfl) rfl rfl fun fr hF => ?_
     refine from_pure 1 [(1, B b1 0), (2, B b2 0), (3, B b3 0), (5, I s2.1), (26, .bool (decide (s2.1 < p0.Mem)))] hF (by kernel_rfl) fun fr hF => ?_
     refine from_end rfl (then_normal ?_)
     refine (wp_if hF (b := (decide (s2.1 < p0.Mem))) rfl (fun hb => ?_) (fun hb => ?_))
     · replace h := iteT hb h
       refine (wp_skip (then_normal ?_))
       refine wp_seq (wp_block ?_)
       obtain ⟨x4, hx4, h⟩ := bindE h
       refine (region_bm 6 [0, 1, 0, 4, 12, 28, 63, 127, 255] [true, false, true, false, false, false]
           [.eq (B b3 2), .eq (L a6 s2.2 c6), .eq (B b1 0), .eq (I p0.W), .eq (.agg #[I x4.Op, I x4.W, I x4.N, Str.val x4.Name, L none ([] : List D.Term) 0]), .own fun ow v w => ∃ i : Option Addr × Nat, v = L i.1 ([x4] : List D.Term) i.2 ∧ (sl121 (L i.1 ([x4] : List D.Term) i.2) ([x4] : List D.Term)).ok w (fun k => w2i.heap.size ≤ k ∧ k < w.heap.size ∧ ow k = 5), .any, .any, .any]
           [(1, B b1 0), (2, B b2 0), (3, B b3 0), (5, I s2.1), (30, L a6 s2.2 c6)] mix hF (by kernel_rfl) (by kernel_rfl) (by kernel_rfl) (by kernel_rfl) ⟨Pd.monoO_eq, Pd.monoO_eq, Pd.monoO_eq, mono_new, trivial⟩ (fun ow hG => ⟨np_to ow (np_loadBox hG hF ty73 rfl rfl (hs.bx 2 rfl) rfl rfl rfl), np_to ow (np_loadBox hG hF ty3 rfl rfl (hs.bx 4 rfl) rfl rfl rfl), np_to ow (np_call [I p0.W, I 0] hG hF Try.call89 rfl rfl (fun w hC hg => (spec_l02Const_ok p0.W 0 hx4).mono fun e w' ⟨v, he, hv, hc⟩ => ⟨v, he, hc, hv⟩)), np_lit (E := 121) [I x4.Op, I x4.W, I x4.N, Str.val x4.Name, L none ([] : List D.Term) 0] (([x4] : List D.Term).map Flat.enc) ([x4] : List D.Term) hG hF rfl [.agg #[I x4.Op, I x4.W, I x4.N, Str.val x4.Name, L none ([] : List D.Term) 0]] rfl (fun w => by kernel_rfl) (fun w => css_flat _) rfl rfl rfl rfl, trivial⟩) (by kernel_rfl) fun ow fr w10 hF hE hc => ?_)
       obtain ⟨⟨a8, c8⟩, hv, hnw5⟩ := hE.is 34 5 rfl rfl
       have hF := hF.cons hv
       have hsN := sepO (w0 := w2i) (ow := ow) [(5, sl121 (L a8 ([x4] : List D.Term) c8) ([x4] : List D.Term))] (show ([5] : List Nat).Nodup by decide) ⟨hnw5, trivial⟩ rfl
       obtain ⟨S13, hp, hs⟩ := hs.got hM1 (stp_new hc) hsN
       have r1 := r1.stp hM1 hp
       have hM1 := hM1.stp hp
       have hs : Sep [sl121 (L a8 ([x4] : List D.Term) c8) ([x4] : List D.Term), sl121 (L a6 s2.2 c6) s2.2, sl121 (L a3 rl1 c3) rl1, BX b3 75 [I 0, L a3 rl1 c3, L a6 s2.2 c6, L none ([] : List Int) 0, I 0, L none ([] : List D.Term) 0, I 0, I 0, L none ([] : List D.Term) 0, L none ([] : List Int) 0], BX b2 75 [I 0, L none ([] : List D.Term) 0, L none ([] : List D.Term) 0, L none ([] : List Int) 0, I 0, L none ([] : List D.Term) 0, I 0, I 0, L none ([] : List D.Term) 0, L none ([] : List Int) 0], BX b1 30 [I p0.W, I p0.Mem, I p0.In, L a1 p0.Code c1]] w10 S13 := hs
       obtain ⟨x5, hx5, h⟩ := bindE h
       refine q_append 1 hs hM1 rfl Try.underlying73 el121 rfl rfl rfl hF rfl rfl (hs.rv 0 rfl) hx5 fun a9 c9 w11 S14 fr hs hp hF => ?_
       have r1 := r1.stp hM1 hp
       have hM1 := hM1.stp hp
       have hs : Sep [sl121 (L a8 ([x4] : List D.Term) c8) ([x4] : List D.Term), sl121 (L a9 x5 c9) x5, sl121 (L a3 rl1 c3) rl1, BX b3 75 [I 0, L a3 rl1 c3, L a6 s2.2 c6, L none ([] : List Int) 0, I 0, L none ([] : List D.Term) 0, I 0, I 0, L none ([] : List D.Term) 0, L none ([] : List Int) 0], BX b2 75 [I 0, L none ([] : List D.Term) 0, L none ([] : List D.Term) 0, L none ([] : List Int) 0, I 0, L none ([] : List D.Term) 0, I 0, I 0, L none ([] : List D.Term) 0, L none ([] : List Int) 0], BX b1 30 [I p0.W, I p0.Mem, I p0.In, L a1 p0.Code c1]] w11 S14 := hs
       have hs : Sep [sl121 (L a9 x5 c9) x5, sl121 (L a3 rl1 c3) rl1, BX b3 75 [I 0, L a3 rl1 c3, L a6 s2.2 c6, L none ([] : List Int) 0, I 0, L none ([] : List D.Term) 0, I 0, I 0, L none ([] : List D.Term) 0, L none ([] : List Int) 0], BX b2 75 [I 0, L none ([] : List D.Term) 0, L none ([] : List D.Term) 0, L none ([] : List Int) 0, I 0, L none ([] : List D.Term) 0, I 0, I 0, L none ([] : List D.Term) 0, L none ([] : List Int) 0], BX b1 30 [I p0.W, I p0.Mem, I p0.In, L a1 p0.Code c1]] w11 S14 := Sep.pick [1, 2, 3, 4, 5] hs (by decide) rfl
       refine from_pure 1 [(1, B b1 0), (2, B b2 0), (3, B b3 0), (5, I s2.1), (35, L a9 x5 c9), (36, B b3 2)] hF (by kernel_rfl) fun fr hF => ?_
       refine q_storeBox 2 hs hM1 rfl [I 0, L a3 rl1 c3, L a9 x5 c9, L none ([] : List Int) 0, I 0, L none ([] : List D.Term) 0, I 0, I 0, L none ([] : List D.Term) 0, L none ([] : List Int) 0] rfl hF rfl rfl (by kernel_rfl) rfl rfl rfl fun w12 S15 hs hp hF => ?_
       have r1 := r1.stp hM1 hp
       have hM1 := hM1.stp hp
       have hs : Sep [sl121 (L a9 x5 c9) x5, sl121 (L a3 rl1 c3) rl1, BX b3 75 [I 0, L a3 rl1 c3, L a9 x5 c9, L none ([] : List Int) 0, I 0, L none ([] : List D.Term) 0, I 0, I 0, L none ([] : List D.Term) 0, L none ([] : List Int) 0], BX b2 75 [I 0, L none ([] : List D.Term) 0, L none ([] : List D.Term) 0, L none ([] : List Int) 0, I 0, L none ([] : List D.Term) 0, I 0, I 0, L none ([] : List D.Term) 0, L none ([] : List Int) 0], BX b1 30 [I p0.W, I p0.Mem, I p0.In, L a1 p0.Code c1]] w12 S15 := hs
       refine from_end rfl ?_
       refine blk_normal (then_normal ?_)
       refine (wp_pure [(1, B b1 0), (2, B b2 0), (3, B b3 0), (5, I (w64 (s2.1 + 1)))] hF (by kernel_rfl) fun fr hF => then_normal ?_)
       exact ⟨_, (Option.some.inj h).symm, a9, c9, S15, _, hF.sub _ (by kernel_rfl), hM1, hs⟩
     replace h := iteF hb h
     have hs : Sep [sl121 (L a6 s2.2 c6) s2.2, sl121 (L a3 rl1 c3) rl1, BX b3 75 [I 0, L a3 rl1 c3, L a6 s2.2 c6, L none ([] : List Int) 0, I 0, L none ([] : List D.Term) 0, I 0, I 0, L none ([] : List D.Term) 0, L none ([] : List Int) 0], BX b2 75 [I 0, L none ([] : List D.Term) 0, L none ([] : List D.Term) 0, L none ([] : List Int) 0, I 0, L none ([] : List D.Term) 0, I 0, I 0, L none ([] : List D.Term) 0, L none ([] : List Int) 0]] w2i S11 := Sep.pick [0, 1, 2, 3] hs (by decide) rfl
     refine (wp_exit (then_exit (then_exit (blk_exit_eq ?_))))
     obtain rfl := hr2 _ (Option.some.inj h).symm
     exact then_normal ⟨a6, c6, S11, _, hF.sub _ (by kernel_rfl), hM1, hs⟩
   · obtain ⟨a7, c7, S12, F4, hF, hMx, hs⟩ := hM
     have hM0 := hM0.trans hMx
     refine wp_seq (wp_text' ?_)
     refine s_loadBoxS ty75 rfl rfl hF rfl (hs.bx 2 rfl) rfl rfl fun fr hF => ?_
     have hs : Sep [sl121 (L a7 rl2 c7) rl2, sl121 (L a3 rl1 c3) rl1, BX b2 75 [I 0, L none ([] : List D.Term) 0, L none ([] : List D.Term) 0, L none ([] : List Int) 0, I 0, L none ([] : List D.Term) 0, I 0, I 0, L none ([] : List D.Term) 0, L none ([] : List Int) 0]] w2o S12 := Sep.pick [0, 1, 3] hs (by decide) rfl
     refine q_storeBoxS 2 hs hM0 rfl [I 0, L a3 rl1 c3, L a7 rl2 c7, L none ([] : List Int) 0, I 0, L none ([] : List D.Term) 0, I 0, I 0, L none ([] : List D.Term) 0, L none ([] : List Int) 0] rfl hF rfl rfl (by kernel_rfl) rfl rfl rfl fun w13 S16 hs hp hF => ?_
     have hM0 := hM0.stp hp
     have hs : Sep [sl121 (L a7 rl2 c7) rl2, sl121 (L a3 rl1 c3) rl1, BX b2 75 [I 0, L a3 rl1 c3, L a7 rl2 c7, L none ([] : List Int) 0, I 0, L none ([] : List D.Term) 0, I 0, I 0, L none ([] : List D.Term) 0, L none ([] : List Int) 0]] w13 S16 := hs
     refine from_end rfl (then_normal ?_)
     have hbr := (hs.bx 2 rfl)
     have hs : Sep [sl3 (L none ([] : List Int) 0) ([] : List Int), sl121 (L a7 rl2 c7) rl2, sl121 (L a3 rl1 c3) rl1, BX b2 75 [I 0, L a3 rl1 c3, L a7 rl2 c7, L none ([] : List Int) 0, I 0, L none ([] : List D.Term) 0, I 0, I 0, L none ([] : List D.Term) 0, L none ([] : List Int) 0]] w13 S16 := hs.cons_nil (α := Int) 3
     have hs : Sep [sl121 (L none ([] : List D.Term) 0) ([] : List D.Term), sl3 (L none ([] : List Int) 0) ([] : List Int), sl121 (L a7 rl2 c7) rl2, sl121 (L a3 rl1 c3) rl1, BX b2 75 [I 0, L a3 rl1 c3, L a7 rl2 c7, L none ([] : List Int) 0, I 0, L none ([] : List D.Term) 0, I 0, I 0, L none ([] : List D.Term) 0, L none ([] : List Int) 0]] w13 S16 := hs.cons_nil (α := D.Term) 121
     have hs : Sep [sl121 (L none ([] : List D.Term) 0) ([] : List D.Term), sl121 (L none ([] : List D.Term) 0) ([] : List D.Term), sl3 (L none ([] : List Int) 0) ([] : List Int), sl121 (L a7 rl2 c7) rl2, sl121 (L a3 rl1 c3) rl1, BX b2 75 [I 0, L a3 rl1 c3, L a7 rl2 c7, L none ([] : List Int) 0, I 0, L none ([] : List D.Term) 0, I 0, I 0, L none ([] : List D.Term) 0, L none ([] : List Int) 0]] w13 S16 := hs.cons_nil (α := D.Term) 121
     have hs : Sep [sl3 (L none ([] : List Int) 0) ([] : List Int), sl121 (L none ([] : List D.Term) 0) ([] : List D.Term), sl121 (L none ([] : List D.Term) 0) ([] : List D.Term), sl3 (L none ([] : List Int) 0) ([] : List Int), sl121 (L a7 rl2 c7) rl2, sl121 (L a3 rl1 c3) rl1, BX b2 75 [I 0, L a3 rl1 c3, L a7 rl2 c7, L none ([] : List Int) 0, I 0, L none ([] : List D.Term) 0, I 0, I 0, L none ([] : List D.Term) 0, L none ([] : List Int) 0]] w13 S16 := hs.cons_nil (α := Int) 3
     obtain rfl := Option.some.inj h
     have hs : Sep [sl121 (L a3 rl1 c3) rl1, sl121 (L a7 rl2 c7) rl2, sl3 (L none ([] : List Int) 0) ([] : List Int), sl121 (L none ([] : List D.Term) 0) ([] : List D.Term), sl121 (L none ([] : List D.Term) 0) ([] : List D.Term), sl3 (L none ([] : List Int) 0) ([] : List Int)] w13 S16 := Sep.pick [5, 4, 3, 2, 1, 0] hs (by decide) rfl
     exact wp_ret (retS rfl hF ty75 rfl rfl hbr rfl ⟨_, rfl, a3, c3, a7, c7, none, 0, none, 0, none, 0, none, 0, rfl, S16, hM0.out, hs⟩)

theorem impl_shapeOk_ok (p0 : Int) (p1 : Int) {r : Bool} (h : impl_shapeOk p0 p1 = some r) {w : World} :
   Calls Try.prog 106 [I p0, I p1].toArray w fun e w' => ∃ v, e = .returned v ∧ v = .bool r ∧ Chg Non w w' := by
 unfold impl_shapeOk at h
 have hs := Sep.nil w Non
 have hM0 : Mem w Non (fun k => (False) ∧ k < w.heap.size) w Non (fun k => (False) ∧ k < w.heap.size) := Mem.start (fun _ h => h.elim) (fun _ h => h.2) (fun _ h => h.elim)
 refine enter (N := 19) Try.func106 rfl Try.ntmps106 rfl fun fr hF => ?_
 refine wp_seq (wp_pure [(0, I p0), (1, I p1)] hF (by kernel_rfl) fun fr hF => then_normal ?_)
 refine wp_seq (region_b [] [true, true, true, true, true, true, true, true, true, true, true, true, true, true, true]
     [.eq (I p0), .eq (.bool (decide (p0 ≥ 2))), .eq (.bool (decide (p0 ≥ 2))), .eq (I p0), .eq (.bool (decide (p0 ≤ 8))), .eq (.bool ((decide (p0 ≥ 2)) && (decide (p0 ≤ 8)))), .eq (.bool ((decide (p0 ≥ 2)) && (decide (p0 ≤ 8)))), .eq (I p1), .eq (.bool (decide (p1 ≥ 1))), .eq (.bool (((decide (p0 ≥ 2)) && (decide (p0 ≤ 8))) && (decide (p1 ≥ 1)))), .eq (.bool (((decide (p0 ≥ 2)) && (decide (p0 ≤ 8))) && (decide (p1 ≥ 1)))), .eq (I p1), .eq (.bool (decide (p1 ≤ 40))), .eq (.bool ((((decide (p0 ≥ 2)) && (decide (p0 ≤ 8))) && (decide (p1 ≥ 1))) && (decide (p1 ≤ 40)))), .eq (.bool ((((decide (p0 ≥ 2)) && (decide (p0 ≤ 8))) && (decide (p1 ≥ 1))) && (decide (p1 ≤ 40))))]
     [(4, .bool ((((decide (p0 ≥ 2)) && (decide (p0 ≤ 8))) && (decide (p1 ≥ 1))) && (decide (p1 ≤ 40))))] mix hF (by kernel_rfl) (by kernel_rfl) (by kernel_rfl) trivial (fun hG => trivial) (by kernel_rfl) fun fr w1 hF hE hc => then_normal ?_)
 have hs := hs.ext hc
 have hM0 := hM0.ext hc
 obtain rfl := Option.some.inj h
 exact wp_ret (ret1 rfl hF rfl ⟨_, rfl, rfl, hM0.chg⟩)

theorem impl_isWidth_ok (p0 : Int) {r : Bool} (h : impl_isWidth p0 = some r) {w : World} :
   Calls Try.prog 137 [I p0].toArray w fun e w' => ∃ v, e = .returned v ∧ v = .bool r ∧ Chg Non w w' := by
 unfold impl_isWidth at h
 have hs := Sep.nil w Non
 have hM0 : Mem w Non (fun k => (False) ∧ k < w.heap.size) w Non (fun k => (False) ∧ k < w.heap.size) := Mem.start (fun _ h => h.elim) (fun _ h => h.2) (fun _ h => h.elim)
 refine enter (N := 9) Try.func137 rfl Try.ntmps137 rfl fun fr hF => ?_
 refine wp_seq (wp_pure [(0, I p0)] hF (by kernel_rfl) fun fr hF => then_normal ?_)
 refine wp_seq (region_b [] [true, true, true, true, true, true, true]
     [.eq (I p0), .eq (.bool (decide (p0 ≥ 1))), .eq (.bool (decide (p0 ≥ 1))), .eq (I p0), .eq (.bool (decide (p0 ≤ 16))), .eq (.bool ((decide (p0 ≥ 1)) && (decide (p0 ≤ 16)))), .eq (.bool ((decide (p0 ≥ 1)) && (decide (p0 ≤ 16))))]
     [(2, .bool ((decide (p0 ≥ 1)) && (decide (p0 ≤ 16))))] mix hF (by kernel_rfl) (by kernel_rfl) (by kernel_rfl) trivial (fun hG => trivial) (by kernel_rfl) fun fr w1 hF hE hc => then_normal ?_)
 have hs := hs.ext hc
 have hM0 := hM0.ext hc
 obtain rfl := Option.some.inj h
 exact wp_ret (ret1 rfl hF rfl ⟨_, rfl, rfl, hM0.chg⟩)

theorem impl_WordOk_ok (p0 : Int) (p1 : Int) {r : Bool} (h : impl_WordOk p0 p1 = some r) {w : World} :
   Calls Try.prog 107 [I p0, I p1].toArray w fun e w' => ∃ v, e = .returned v ∧ v = .bool r ∧ Chg Non w w' := by
 unfold impl_WordOk at h
 have hs := Sep.nil w Non
 have hM0 : Mem w Non (fun k => (False) ∧ k < w.heap.size) w Non (fun k => (False) ∧ k < w.heap.size) := Mem.start (fun _ h => h.elim) (fun _ h => h.2) (fun _ h => h.elim)
 refine enter (N := 18) Try.func107 rfl Try.ntmps107 rfl fun fr hF => ?_
 refine wp_seq (wp_pure [(0, I p0), (1, I p1)] hF (by kernel_rfl) fun fr hF => then_normal ?_)
 obtain ⟨x1, hx1, h⟩ := bindE h
 obtain ⟨x2, hx2, h⟩ := bindE h
 refine wp_seq (region_b [] [true, false, true, true, true, true, true, true, true, true, false, true, true, true]
     [.eq (I p0), .eq (.bool x1), .eq (.bool x1), .eq (I p1), .eq (.bool (decide (p1 ≥ 0))), .eq (.bool (x1 && (decide (p1 ≥ 0)))), .eq (.bool (x1 && (decide (p1 ≥ 0)))), .eq (I p1), .eq (I p0), .eq (.int .u64 (IntKind.u64.wrap p0)), .eq (I x2), .eq (.bool (decide (p1 < x2))), .eq (.bool ((x1 && (decide (p1 ≥ 0))) && (decide (p1 < x2)))), .eq (.bool ((x1 && (decide (p1 ≥ 0))) && (decide (p1 < x2))))]
     [(4, .bool ((x1 && (decide (p1 ≥ 0))) && (decide (p1 < x2))))] mix hF (by kernel_rfl) (by kernel_rfl) (by kernel_rfl) ⟨Pd.mono_eq, Pd.mono_eq, trivial⟩ (fun hG => ⟨np_call [I p0] hG hF Try.call137 rfl rfl (fun w hC hg => (impl_isWidth_ok p0 hx1).mono fun e w' ⟨v, he, hv, hc⟩ => ⟨v, he, hc, hv⟩), np_shl hG hF rfl rfl rfl (fun hg => (iteT hg.2 hx2)) rfl, trivial⟩) (by kernel_rfl) fun fr w1 hF hE hc => then_normal ?_)
 have hs := hs.ext hc
 have hM0 := hM0.ext hc
 obtain rfl := Option.some.inj h
 exact wp_ret (ret1 rfl hF rfl ⟨_, rfl, rfl, hM0.chg⟩)

theorem impl_isReg_ok (p0 : Int) {r : Bool} (h : impl_isReg p0 = some r) {w : World} :
   Calls Try.prog 138 [I p0].toArray w fun e w' => ∃ v, e = .returned v ∧ v = .bool r ∧ Chg Non w w' := by
 unfold impl_isReg at h
 have hs := Sep.nil w Non
 have hM0 : Mem w Non (fun k => (False) ∧ k < w.heap.size) w Non (fun k => (False) ∧ k < w.heap.size) := Mem.start (fun _ h => h.elim) (fun _ h => h.2) (fun _ h => h.elim)
 refine enter (N := 9) Try.func138 rfl Try.ntmps138 rfl fun fr hF => ?_
 refine wp_seq (wp_pure [(0, I p0)] hF (by kernel_rfl) fun fr hF => then_normal ?_)
 refine wp_seq (region_b [] [true, true, true, true, true, true, true]
     [.eq (I p0), .eq (.bool (decide (p0 ≥ 0))), .eq (.bool (decide (p0 ≥ 0))), .eq (I p0), .eq (.bool (decide (p0 < 4))), .eq (.bool ((decide (p0 ≥ 0)) && (decide (p0 < 4)))), .eq (.bool ((decide (p0 ≥ 0)) && (decide (p0 < 4))))]
     [(2, .bool ((decide (p0 ≥ 0)) && (decide (p0 < 4))))] mix hF (by kernel_rfl) (by kernel_rfl) (by kernel_rfl) trivial (fun hG => trivial) (by kernel_rfl) fun fr w1 hF hE hc => then_normal ?_)
 have hs := hs.ext hc
 have hM0 := hM0.ext hc
 obtain rfl := Option.some.inj h
 exact wp_ret (ret1 rfl hF rfl ⟨_, rfl, rfl, hM0.chg⟩)

theorem impl_isTwoWords_ok (p0 : Int) {r : Bool} (h : impl_isTwoWords p0 = some r) {w : World} :
   Calls Try.prog 139 [I p0].toArray w fun e w' => ∃ v, e = .returned v ∧ v = .bool r ∧ Chg Non w w' := by
 unfold impl_isTwoWords at h
 have hs := Sep.nil w Non
 have hM0 : Mem w Non (fun k => (False) ∧ k < w.heap.size) w Non (fun k => (False) ∧ k < w.heap.size) := Mem.start (fun _ h => h.elim) (fun _ h => h.2) (fun _ h => h.elim)
 refine enter (N := 9) Try.func139 rfl Try.ntmps139 rfl fun fr hF => ?_
 refine wp_seq (wp_pure [(0, I p0)] hF (by kernel_rfl) fun fr hF => then_normal ?_)
 refine wp_seq (region_b [] [true, true, true, true, true, true, true]
     [.eq (I p0), .eq (.bool (decide (p0 ≥ 3))), .eq (.bool (decide (p0 ≥ 3))), .eq (I p0), .eq (.bool (decide (p0 ≤ 16))), .eq (.bool ((decide (p0 ≥ 3)) && (decide (p0 ≤ 16)))), .eq (.bool ((decide (p0 ≥ 3)) && (decide (p0 ≤ 16))))]
     [(2, .bool ((decide (p0 ≥ 3)) && (decide (p0 ≤ 16))))] mix hF (by kernel_rfl) (by kernel_rfl) (by kernel_rfl) trivial (fun hG => trivial) (by kernel_rfl) fun fr w1 hF hE hc => then_normal ?_)
 have hs := hs.ext hc
 have hM0 := hM0.ext hc
 obtain rfl := Option.some.inj h
 exact wp_ret (ret1 rfl hF rfl ⟨_, rfl, rfl, hM0.chg⟩)

theorem impl_insOk_ok (p0 : D.Ins) (p1 : Int) (p2 : Int) {r : Bool} (h : impl_insOk p0 p1 p2 = some r) {w : World} :
   Calls Try.prog 108 [.agg #[I p0.Op, I p0.A, I p0.B, I p0.C], I p1, I p2].toArray w fun e w' => ∃ v, e = .returned v ∧ v = .bool r ∧ Chg Non w w' := by
 unfold impl_insOk at h
 have hs := Sep.nil w Non
 have hM0 : Mem w Non (fun k => (False) ∧ k < w.heap.size) w Non (fun k => (False) ∧ k < w.heap.size) := Mem.start (fun _ h => h.elim) (fun _ h => h.2) (fun _ h => h.elim)
 refine enter (N := 102) Try.func108 rfl Try.ntmps108 rfl fun fr hF => ?_
 refine wp_seq (wp_text' ?_)
 refine q_box hs hM0 [I p0.Op, I p0.A, I p0.B, I p0.C] rfl rfl hF rfl rfl fun b1 w1 S1 fr hs hp hF => ?_
 have hM0 := hM0.stp hp
 have hs : Sep [BX b1 90 [I p0.Op, I p0.A, I p0.B, I p0.C]] w1 S1 := hs
 refine from_pure 1 [(1, I p1), (2, I p2), (3, B b1 0)] hF (by kernel_rfl) fun fr hF => ?_
 refine from_end rfl (then_normal ?_)
 refine wp_seq (region_b [] [true, false, true, true, true, false, true, true, true, true]
     [.eq (B b1 2), .eq (I p0.B), .eq (.bool (decide (p0.B ≥ 0))), .eq (.bool (decide (p0.B ≥ 0))), .eq (B b1 2), .eq (I p0.B), .eq (I p2), .eq (.bool (decide (p0.B ≤ p2))), .eq (.bool ((decide (p0.B ≥ 0)) && (decide (p0.B ≤ p2)))), .eq (.bool ((decide (p0.B ≥ 0)) && (decide (p0.B ≤ p2))))]
     [(1, I p1), (3, B b1 0), (7, .bool ((decide (p0.B ≥ 0)) && (decide (p0.B ≤ p2))))] mix hF (by kernel_rfl) (by kernel_rfl) (by kernel_rfl) ⟨Pd.mono_eq, Pd.mono_eq, trivial⟩ (fun hG => ⟨np_loadBox hG hF ty3 rfl rfl (hs.bx 0 rfl) rfl rfl rfl, np_loadBox hG hF ty3 rfl rfl (hs.bx 0 rfl) rfl rfl rfl, trivial⟩) (by kernel_rfl) fun fr w2 hF hE hc => then_normal ?_)
 have hs := hs.ext hc
 have hM0 := hM0.ext hc
 refine wp_seq ?_
 refine wp_seq (wp_text' ?_)
 refine from_pure 1 [(1, I p1), (3, B b1 0), (7, .bool ((decide (p0.B ≥ 0)) && (decide (p0.B ≤ p2)))), (17, B b1 0)] hF (by kernel_rfl) fun fr hF => ?_
 refine s_loadBox (I p0.Op) ty3 rfl rfl hF rfl (hs.bx 0 rfl) rfl rfl fun fr hF => ?_
 refine from_pure 1 [(1, I p1), (3, B b1 0), (7, .bool ((decide (p0.B ≥ 0)) && (decide (p0.B ≤ p2)))), (19, .bool (p0.Op == 3))] hF (by kernel_rfl) fun fr hF => ?_
 refine from_end rfl (then_normal ?_)
 refine (wp_if hF (b := (p0.Op == 3)) rfl (fun hb => ?_) (fun hb => ?_))
 · replace h := iteT hb h
   obtain ⟨x1, hx1, h⟩ := bindE h
   obtain ⟨x2, hx2, h⟩ := bindE h
   obtain ⟨x3, hx3, h⟩ := bindE h
   refine wp_seq (region_b [] [true, false, false, true, true, false, false, true, true, true, false, false, true, true]
       [.eq (B b1 1), .eq (I p0.A), .eq (.bool x1), .eq (.bool x1), .eq (B b1 2), .eq (I p0.B), .eq (.bool x2), .eq (.bool (x1 && x2)), .eq (.bool (x1 && x2)), .eq (B b1 3), .eq (I p0.C), .eq (.bool x3), .eq (.bool ((x1 && x2) && x3)), .eq (.bool ((x1 && x2) && x3))]
       [(6, .bool ((x1 && x2) && x3))] mix hF (by kernel_rfl) (by kernel_rfl) (by kernel_rfl) ⟨Pd.mono_eq, Pd.mono_eq, Pd.mono_eq, Pd.mono_eq, Pd.mono_eq, Pd.mono_eq, trivial⟩ (fun hG => ⟨np_loadBox hG hF ty3 rfl rfl (hs.bx 0 rfl) rfl rfl rfl, np_call [I p0.A] hG hF Try.call138 rfl rfl (fun w hC hg => (impl_isReg_ok p0.A hx1).mono fun e w' ⟨v, he, hv, hc⟩ => ⟨v, he, hc, hv⟩), np_loadBox hG hF ty3 rfl rfl (hs.bx 0 rfl) rfl rfl rfl, np_call [I p0.B] hG hF Try.call138 rfl rfl (fun w hC hg => (impl_isReg_ok p0.B (iteT hg.2 hx2)).mono fun e w' ⟨v, he, hv, hc⟩ => ⟨v, he, hc, hv⟩), np_loadBox hG hF ty3 rfl rfl (hs.bx 0 rfl) rfl rfl rfl, np_call [I p0.C] hG hF Try.call139 rfl rfl (fun w hC hg => (impl_isTwoWords_ok p0.C (iteT hg.2 hx3)).mono fun e w' ⟨v, he, hv, hc⟩ => ⟨v, he, hc, hv⟩), trivial⟩) (by kernel_rfl) fun fr w3 hF hE hc => then_normal ?_)
   have hs := hs.ext hc
   have hM0 := hM0.ext hc
   have hs : Sep [] w3 S1 := Sep.pick [] hs (by decide) rfl
   obtain rfl := Option.some.inj h
   exact wp_ret (then_ret (ret1 rfl hF rfl ⟨_, rfl, rfl, hM0.chg⟩))
 replace h := iteF hb h
 refine (wp_skip (then_normal ?_))
 refine wp_seq ?_
 refine wp_seq (wp_text' ?_)
 refine from_pure 1 [(1, I p1), (3, B b1 0), (7, .bool ((decide (p0.B ≥ 0)) && (decide (p0.B ≤ p2)))), (33, B b1 3)] hF (by kernel_rfl) fun fr hF => ?_
 refine s_loadBox (I p0.C) ty3 rfl rfl hF rfl (hs.bx 0 rfl) rfl rfl fun fr hF => ?_
 refine from_pure 1 [(1, I p1), (3, B b1 0), (7, .bool ((decide (p0.B ≥ 0)) && (decide (p0.B ≤ p2)))), (35, .bool (p0.C != 0))] hF (by kernel_rfl) fun fr hF => ?_
 refine from_end rfl (then_normal ?_)
 refine (wp_if hF (b := (p0.C != 0)) rfl (fun hb => ?_) (fun hb => ?_))
 · replace h := iteT hb h
   have hs : Sep [] w2 S1 := Sep.pick [] hs (by decide) rfl
   refine wp_seq (wp_pure [(6, .bool false)] hF (by kernel_rfl) fun fr hF => then_normal ?_)
   obtain rfl := Option.some.inj h
   exact wp_ret (then_ret (ret1 rfl hF rfl ⟨_, rfl, rfl, hM0.chg⟩))
 replace h := iteF hb h
 refine (wp_skip (then_normal ?_))
 refine wp_seq ?_
 refine wp_seq (wp_text' ?_)
 refine from_pure 1 [(1, I p1), (3, B b1 0), (7, .bool ((decide (p0.B ≥ 0)) && (decide (p0.B ≤ p2)))), (36, B b1 0)] hF (by kernel_rfl) fun fr hF => ?_
 refine s_loadBox (I p0.Op) ty3 rfl rfl hF rfl (hs.bx 0 rfl) rfl rfl fun fr hF => ?_
 refine from_end rfl (then_normal ?_)
 refine (wp_block ?_)
 refine wp_seq (wp_pure [(1, I p1), (3, B b1 0), (7, .bool ((decide (p0.B ≥ 0)) && (decide (p0.B ≤ p2)))), (37, I p0.Op), (38, .bool (p0.Op == 1))] hF (by kernel_rfl) fun fr hF => then_normal ?_)
 refine (wp_if hF (b := (p0.Op == 1)) rfl (fun hb => ?_) (fun hb => ?_))
 · replace h := iteT hb h
   obtain ⟨x4, hx4, h⟩ := bindE h
   obtain ⟨x5, hx5, h⟩ := bindE h
   refine wp_seq (region_b [] [true, false, false, true, true, true, false, false, true, true]
       [.eq (B b1 1), .eq (I p0.A), .eq (.bool x4), .eq (.bool x4), .eq (I p1), .eq (B b1 2), .eq (I p0.B), .eq (.bool x5), .eq (.bool (x4 && x5)), .eq (.bool (x4 && x5))]
       [(6, .bool (x4 && x5))] mix hF (by kernel_rfl) (by kernel_rfl) (by kernel_rfl) ⟨Pd.mono_eq, Pd.mono_eq, Pd.mono_eq, Pd.mono_eq, trivial⟩ (fun hG => ⟨np_loadBox hG hF ty3 rfl rfl (hs.bx 0 rfl) rfl rfl rfl, np_call [I p0.A] hG hF Try.call138 rfl rfl (fun w hC hg => (impl_isReg_ok p0.A hx4).mono fun e w' ⟨v, he, hv, hc⟩ => ⟨v, he, hc, hv⟩), np_loadBox hG hF ty3 rfl rfl (hs.bx 0 rfl) rfl rfl rfl, np_call [I p1, I p0.B] hG hF Try.call107 rfl rfl (fun w hC hg => (impl_WordOk_ok p1 p0.B (iteT hg.2 hx5)).mono fun e w' ⟨v, he, hv, hc⟩ => ⟨v, he, hc, hv⟩), trivial⟩) (by kernel_rfl) fun fr w4 hF hE hc => then_normal ?_)
   have hs := hs.ext hc
   have hM0 := hM0.ext hc
   have hs : Sep [] w4 S1 := Sep.pick [] hs (by decide) rfl
   obtain rfl := Option.some.inj h
   exact wp_ret (blk_ret (then_ret (ret1 rfl hF rfl ⟨_, rfl, rfl, hM0.chg⟩)))
 replace h := iteF hb h
 refine wp_seq ?_
 refine wp_seq (wp_pure [(3, B b1 0), (7, .bool ((decide (p0.B ≥ 0)) && (decide (p0.B ≤ p2)))), (37, I p0.Op), (49, .bool (p0.Op == 2))] hF (by kernel_rfl) fun fr hF => then_normal ?_)
 refine (wp_if hF (b := (p0.Op == 2)) rfl (fun hb => ?_) (fun hb => ?_))
 · replace h := iteT hb h
   refine (wp_skip (then_normal ?_))
   refine (wp_if hF (b := (p0.Op == 2)) rfl (fun hb => ?_) (fun hb => ?_))
   · replace h := iteT hb h
     obtain ⟨x6, hx6, h⟩ := bindE h
     obtain ⟨x7, hx7, h⟩ := bindE h
     refine wp_seq (region_b [] [true, false, false, true, true, false, false, true, true]
         [.eq (B b1 1), .eq (I p0.A), .eq (.bool x6), .eq (.bool x6), .eq (B b1 2), .eq (I p0.B), .eq (.bool x7), .eq (.bool (x6 && x7)), .eq (.bool (x6 && x7))]
         [(6, .bool (x6 && x7))] mix hF (by kernel_rfl) (by kernel_rfl) (by kernel_rfl) ⟨Pd.mono_eq, Pd.mono_eq, Pd.mono_eq, Pd.mono_eq, trivial⟩ (fun hG => ⟨np_loadBox hG hF ty3 rfl rfl (hs.bx 0 rfl) rfl rfl rfl, np_call [I p0.A] hG hF Try.call138 rfl rfl (fun w hC hg => (impl_isReg_ok p0.A hx6).mono fun e w' ⟨v, he, hv, hc⟩ => ⟨v, he, hc, hv⟩), np_loadBox hG hF ty3 rfl rfl (hs.bx 0 rfl) rfl rfl rfl, np_call [I p0.B] hG hF Try.call138 rfl rfl (fun w hC hg => (impl_isReg_ok p0.B (iteT hg.2 hx7)).mono fun e w' ⟨v, he, hv, hc⟩ => ⟨v, he, hc, hv⟩), trivial⟩) (by kernel_rfl) fun fr w5 hF hE hc => then_normal ?_)
     have hs := hs.ext hc
     have hM0 := hM0.ext hc
     have hs : Sep [] w5 S1 := Sep.pick [] hs (by decide) rfl
     obtain rfl := Option.some.inj h
     exact wp_ret (blk_ret (then_ret (ret1 rfl hF rfl ⟨_, rfl, rfl, hM0.chg⟩)))
   replace h := iteF hb h
   refine wp_seq ?_
   refine wp_seq (wp_pure [(3, B b1 0), (7, .bool ((decide (p0.B ≥ 0)) && (decide (p0.B ≤ p2)))), (37, I p0.Op), (61, .bool (p0.Op == 4))] hF (by kernel_rfl) fun fr hF => then_normal ?_)
   refine (wp_if hF (b := (p0.Op == 4)) rfl (fun hb => ?_) (fun hb => ?_))
   · replace h := iteT hb h
     refine (wp_skip (then_normal ?_))
     refine (wp_if hF (b := (p0.Op == 4)) rfl (fun hb => ?_) (fun hb => ?_))
     · replace h := iteT hb h
       obtain ⟨x8, hx8, h⟩ := bindE h
       refine wp_seq (region_b [] [true, false, false, true, true, false, true, true, true]
           [.eq (B b1 1), .eq (I p0.A), .eq (.bool x8), .eq (.bool x8), .eq (B b1 2), .eq (I p0.B), .eq (.bool (p0.B == 0)), .eq (.bool (x8 && (p0.B == 0))), .eq (.bool (x8 && (p0.B == 0)))]
           [(6, .bool (x8 && (p0.B == 0)))] mix hF (by kernel_rfl) (by kernel_rfl) (by kernel_rfl) ⟨Pd.mono_eq, Pd.mono_eq, Pd.mono_eq, trivial⟩ (fun hG => ⟨np_loadBox hG hF ty3 rfl rfl (hs.bx 0 rfl) rfl rfl rfl, np_call [I p0.A] hG hF Try.call138 rfl rfl (fun w hC hg => (impl_isReg_ok p0.A hx8).mono fun e w' ⟨v, he, hv, hc⟩ => ⟨v, he, hc, hv⟩), np_loadBox hG hF ty3 rfl rfl (hs.bx 0 rfl) rfl rfl rfl, trivial⟩) (by kernel_rfl) fun fr w6 hF hE hc => then_normal ?_)
       have hs := hs.ext hc
       have hM0 := hM0.ext hc
       have hs : Sep [] w6 S1 := Sep.pick [] hs (by decide) rfl
       obtain rfl := Option.some.inj h
       exact wp_ret (blk_ret (then_ret (ret1 rfl hF rfl ⟨_, rfl, rfl, hM0.chg⟩)))
     replace h := iteF hb h
     refine wp_seq ?_
     refine wp_seq (wp_pure [(3, B b1 0), (7, .bool ((decide (p0.B ≥ 0)) && (decide (p0.B ≤ p2)))), (37, I p0.Op), (74, .bool (p0.Op == 9))] hF (by kernel_rfl) fun fr hF => then_normal ?_)
     refine (wp_merge [(3, B b1 0), (7, .bool ((decide (p0.B ≥ 0)) && (decide (p0.B ≤ p2)))), (37, I p0.Op), (74, .bool ((p0.Op == 9) || (p0.Op == 11)))] hF (b := (p0.Op == 9)) rfl (fun hb => ?_) (fun hb => ?_) fun fr hF => then_normal ?_)
     · exact wp_skip ⟨rfl, rfl, (hF.sub [(3, B b1 0), (7, .bool ((decide (p0.B ≥ 0)) && (decide (p0.B ≤ p2)))), (37, I p0.Op), (74, .bool (p0.Op == 9))] (by kernel_rfl)).eqs (by first | (simp only [hb]; done) | (simp only [hb]; rfl))⟩
     · exact wp_pure [(3, B b1 0), (7, .bool ((decide (p0.B ≥ 0)) && (decide (p0.B ≤ p2)))), (37, I p0.Op), (74, .bool (p0.Op == 11))] hF (by kernel_rfl) fun fr hF => ⟨rfl, rfl, hF.eqs (by first | (simp only [hb]; done) | (simp only [hb]; rfl))⟩
     refine (wp_if hF (b := ((p0.Op == 9) || (p0.Op == 11))) rfl (fun hb => ?_) (fun hb => ?_))
     · replace h := iteT hb h
       refine wp_seq (region_b [] [true, false, true, true, true, true, true]
           [.eq (B b1 1), .eq (I p0.A), .eq (.bool (p0.A == 0)), .eq (.bool (p0.A == 0)), .eq (.bool ((decide (p0.B ≥ 0)) && (decide (p0.B ≤ p2)))), .eq (.bool ((p0.A == 0) && ((decide (p0.B ≥ 0)) && (decide (p0.B ≤ p2))))), .eq (.bool ((p0.A == 0) && ((decide (p0.B ≥ 0)) && (decide (p0.B ≤ p2)))))]
           [(6, .bool ((p0.A == 0) && ((decide (p0.B ≥ 0)) && (decide (p0.B ≤ p2)))))] mix hF (by kernel_rfl) (by kernel_rfl) (by kernel_rfl) ⟨Pd.mono_eq, trivial⟩ (fun hG => ⟨np_loadBox hG hF ty3 rfl rfl (hs.bx 0 rfl) rfl rfl rfl, trivial⟩) (by kernel_rfl) fun fr w7 hF hE hc => then_normal ?_)
       have hs := hs.ext hc
       have hM0 := hM0.ext hc
       have hs : Sep [] w7 S1 := Sep.pick [] hs (by decide) rfl
       obtain rfl := Option.some.inj h
       exact wp_ret (blk_ret (then_ret (ret1 rfl hF rfl ⟨_, rfl, rfl, hM0.chg⟩)))
     replace h := iteF hb h
     refine wp_seq (wp_pure [(3, B b1 0), (7, .bool ((decide (p0.B ≥ 0)) && (decide (p0.B ≤ p2)))), (37, I p0.Op), (83, .bool (p0.Op == 10))] hF (by kernel_rfl) fun fr hF => then_normal ?_)
     refine (wp_if hF (b := (p0.Op == 10)) rfl (fun hb => ?_) (fun hb => ?_))
     · replace h := iteT hb h
       obtain ⟨x9, hx9, h⟩ := bindE h
       refine wp_seq (region_b [] [true, false, false, true, true, true, true]
           [.eq (B b1 1), .eq (I p0.A), .eq (.bool x9), .eq (.bool x9), .eq (.bool ((decide (p0.B ≥ 0)) && (decide (p0.B ≤ p2)))), .eq (.bool (x9 && ((decide (p0.B ≥ 0)) && (decide (p0.B ≤ p2))))), .eq (.bool (x9 && ((decide (p0.B ≥ 0)) && (decide (p0.B ≤ p2)))))]
           [(6, .bool (x9 && ((decide (p0.B ≥ 0)) && (decide (p0.B ≤ p2)))))] mix hF (by kernel_rfl) (by kernel_rfl) (by kernel_rfl) ⟨Pd.mono_eq, Pd.mono_eq, trivial⟩ (fun hG => ⟨np_loadBox hG hF ty3 rfl rfl (hs.bx 0 rfl) rfl rfl rfl, np_call [I p0.A] hG hF Try.call138 rfl rfl (fun w hC hg => (impl_isReg_ok p0.A hx9).mono fun e w' ⟨v, he, hv, hc⟩ => ⟨v, he, hc, hv⟩), trivial⟩) (by kernel_rfl) fun fr w8 hF hE hc => then_normal ?_)
       have hs := hs.ext hc
       have hM0 := hM0.ext hc
       have hs : Sep [] w8 S1 := Sep.pick [] hs (by decide) rfl
       obtain rfl := Option.some.inj h
       exact wp_ret (blk_ret (then_ret (ret1 rfl hF rfl ⟨_, rfl, rfl, hM0.chg⟩)))
     replace h := iteF hb h
     refine wp_seq ?_
     refine wp_seq (wp_pure [(3, B b1 0), (37, I p0.Op), (91, .bool (p0.Op == 12))] hF (by kernel_rfl) fun fr hF => then_normal ?_)
     refine (wp_merge [(3, B b1 0), (91, .bool ((p0.Op == 12) || (p0.Op == 14)))] hF (b := (p0.Op == 12)) rfl (fun hb => ?_) (fun hb => ?_) fun fr hF => then_normal ?_)
     · exact wp_skip ⟨rfl, rfl, (hF.sub [(3, B b1 0), (91, .bool (p0.Op == 12))] (by kernel_rfl)).eqs (by first | (simp only [hb]; done) | (simp only [hb]; rfl))⟩
     · exact wp_pure [(3, B b1 0), (91, .bool (p0.Op == 14))] hF (by kernel_rfl) fun fr hF => ⟨rfl, rfl, hF.eqs (by first | (simp only [hb]; done) | (simp only [hb]; rfl))⟩
     refine (wp_if hF (b := ((p0.Op == 12) || (p0.Op == 14))) rfl (fun hb => ?_) (fun hb => ?_))
     · replace h := iteT hb h
       refine wp_seq (region_b [] [true, false, true, true, true, false, true, true, true]
           [.eq (B b1 1), .eq (I p0.A), .eq (.bool (p0.A == 0)), .eq (.bool (p0.A == 0)), .eq (B b1 2), .eq (I p0.B), .eq (.bool (p0.B == 0)), .eq (.bool ((p0.A == 0) && (p0.B == 0))), .eq (.bool ((p0.A == 0) && (p0.B == 0)))]
           [(6, .bool ((p0.A == 0) && (p0.B == 0)))] mix hF (by kernel_rfl) (by kernel_rfl) (by kernel_rfl) ⟨Pd.mono_eq, Pd.mono_eq, trivial⟩ (fun hG => ⟨np_loadBox hG hF ty3 rfl rfl (hs.bx 0 rfl) rfl rfl rfl, np_loadBox hG hF ty3 rfl rfl (hs.bx 0 rfl) rfl rfl rfl, trivial⟩) (by kernel_rfl) fun fr w9 hF hE hc => then_normal ?_)
       have hs := hs.ext hc
       have hM0 := hM0.ext hc
       have hs : Sep [] w9 S1 := Sep.pick [] hs (by decide) rfl
       obtain rfl := Option.some.inj h
       exact wp_ret (blk_ret (then_ret (ret1 rfl hF rfl ⟨_, rfl, rfl, hM0.chg⟩)))
     replace h := iteF hb h
     have hs : Sep [] w2 S1 := Sep.pick [] hs (by decide) rfl
     refine (wp_skip ?_)
     refine blk_normal (then_normal ?_)
     refine wp_seq (wp_pure [(6, .bool false)] hF (by kernel_rfl) fun fr hF => then_normal ?_)
     obtain rfl := Option.some.inj h
     exact wp_ret (ret1 rfl hF rfl ⟨_, rfl, rfl, hM0.chg⟩)
   replace h := iteF hb h
   refine wp_seq (wp_pure [(3, B b1 0), (7, .bool ((decide (p0.B ≥ 0)) && (decide (p0.B ≤ p2)))), (37, I p0.Op), (61, .bool (p0.Op == 5))] hF (by kernel_rfl) fun fr hF => then_normal ?_)
   refine (wp_if hF (b := (p0.Op == 5)) rfl (fun hb => ?_) (fun hb => ?_))
   · replace h := iteT hb h
     refine (wp_skip (then_normal ?_))
     refine (wp_if hF (b := (p0.Op == 5)) rfl (fun hb => ?_) (fun hb => ?_))
     · replace h := iteT hb h
       obtain ⟨x10, hx10, h⟩ := bindE h
       refine wp_seq (region_b [] [true, false, false, true, true, false, true, true, true]
           [.eq (B b1 1), .eq (I p0.A), .eq (.bool x10), .eq (.bool x10), .eq (B b1 2), .eq (I p0.B), .eq (.bool (p0.B == 0)), .eq (.bool (x10 && (p0.B == 0))), .eq (.bool (x10 && (p0.B == 0)))]
           [(6, .bool (x10 && (p0.B == 0)))] mix hF (by kernel_rfl) (by kernel_rfl) (by kernel_rfl) ⟨Pd.mono_eq, Pd.mono_eq, Pd.mono_eq, trivial⟩ (fun hG => ⟨np_loadBox hG hF ty3 rfl rfl (hs.bx 0 rfl) rfl rfl rfl, np_call [I p0.A] hG hF Try.call138 rfl rfl (fun w hC hg => (impl_isReg_ok p0.A hx10).mono fun e w' ⟨v, he, hv, hc⟩ => ⟨v, he, hc, hv⟩), np_loadBox hG hF ty3 rfl rfl (hs.bx 0 rfl) rfl rfl rfl, trivial⟩) (by kernel_rfl) fun fr w10 hF hE hc => then_normal ?_)
       have hs := hs.ext hc
       have hM0 := hM0.ext hc
       have hs : Sep [] w10 S1 := Sep.pick [] hs (by decide) rfl
       obtain rfl := Option.some.inj h
       exact wp_ret (blk_ret (then_ret (ret1 rfl hF rfl ⟨_, rfl, rfl, hM0.chg⟩)))
     replace h := iteF hb h
     refine wp_seq ?_
     refine wp_seq (wp_pure [(3, B b1 0), (7, .bool ((decide (p0.B ≥ 0)) && (decide (p0.B ≤ p2)))), (37, I p0.Op), (74, .bool (p0.Op == 9))] hF (by kernel_rfl) fun fr hF => then_normal ?_)
     refine (wp_merge [(3, B b1 0), (7, .bool ((decide (p0.B ≥ 0)) && (decide (p0.B ≤ p2)))), (37, I p0.Op), (74, .bool ((p0.Op == 9) || (p0.Op == 11)))] hF (b := (p0.Op == 9)) rfl (fun hb => ?_) (fun hb => ?_) fun fr hF => then_normal ?_)
     · exact wp_skip ⟨rfl, rfl, (hF.sub [(3, B b1 0), (7, .bool ((decide (p0.B ≥ 0)) && (decide (p0.B ≤ p2)))), (37, I p0.Op), (74, .bool (p0.Op == 9))] (by kernel_rfl)).eqs (by first | (simp only [hb]; done) | (simp only [hb]; rfl))⟩
     · exact wp_pure [(3, B b1 0), (7, .bool ((decide (p0.B ≥ 0)) && (decide (p0.B ≤ p2)))), (37, I p0.Op), (74, .bool (p0.Op == 11))] hF (by kernel_rfl) fun fr hF => ⟨rfl, rfl, hF.eqs (by first | (simp only [hb]; done) | (simp only [hb]; rfl))⟩
     refine (wp_if hF (b := ((p0.Op == 9) || (p0.Op == 11))) rfl (fun hb => ?_) (fun hb => ?_))
     · replace h := iteT hb h
       refine wp_seq (region_b [] [true, false, true, true, true, true, true]
           [.eq (B b1 1), .eq (I p0.A), .eq (.bool (p0.A == 0)), .eq (.bool (p0.A == 0)), .eq (.bool ((decide (p0.B ≥ 0)) && (decide (p0.B ≤ p2)))), .eq (.bool ((p0.A == 0) && ((decide (p0.B ≥ 0)) && (decide (p0.B ≤ p2))))), .eq (.bool ((p0.A == 0) && ((decide (p0.B ≥ 0)) && (decide (p0.B ≤ p2)))))]
           [(6, .bool ((p0.A == 0) && ((decide (p0.B ≥ 0)) && (decide (p0.B ≤ p2)))))] mix hF (by kernel_rfl) (by kernel_rfl) (by kernel_rfl) ⟨Pd.mono_eq, trivial⟩ (fun hG => ⟨np_loadBox hG hF ty3 rfl rfl (hs.bx 0 rfl) rfl rfl rfl, trivial⟩) (by kernel_rfl) fun fr w11 hF hE hc => then_normal ?_)
       have hs := hs.ext hc
       have hM0 := hM0.ext hc
       have hs : Sep [] w11 S1 := Sep.pick [] hs (by decide) rfl
       obtain rfl := Option.some.inj h
       exact wp_ret (blk_ret (then_ret (ret1 rfl hF rfl ⟨_, rfl, rfl, hM0.chg⟩)))
     replace h := iteF hb h
     refine wp_seq (wp_pure [(3, B b1 0), (7, .bool ((decide (p0.B ≥ 0)) && (decide (p0.B ≤ p2)))), (37, I p0.Op), (83, .bool (p0.Op == 10))] hF (by kernel_rfl) fun fr hF => then_normal ?_)
     refine (wp_if hF (b := (p0.Op == 10)) rfl (fun hb => ?_) (fun hb => ?_))
     · replace h := iteT hb h
       obtain ⟨x11, hx11, h⟩ := bindE h
       refine wp_seq (region_b [] [true, false, false, true, true, true, true]
           [.eq (B b1 1), .eq (I p0.A), .eq (.bool x11), .eq (.bool x11), .eq (.bool ((decide (p0.B ≥ 0)) && (decide (p0.B ≤ p2)))), .eq (.bool (x11 && ((decide (p0.B ≥ 0)) && (decide (p0.B ≤ p2))))), .eq (.bool (x11 && ((decide (p0.B ≥ 0)) && (decide (p0.B ≤ p2)))))]
           [(6, .bool (x11 && ((decide (p0.B ≥ 0)) && (decide (p0.B ≤ p2)))))] mix hF (by kernel_rfl) (by kernel_rfl) (by kernel_rfl) ⟨Pd.mono_eq, Pd.mono_eq, trivial⟩ (fun hG => ⟨np_loadBox hG hF ty3 rfl rfl (hs.bx 0 rfl) rfl rfl rfl, np_call [I p0.A] hG hF Try.call138 rfl rfl (fun w hC hg => (impl_isReg_ok p0.A hx11).mono fun e w' ⟨v, he, hv, hc⟩ => ⟨v, he, hc, hv⟩), trivial⟩) (by kernel_rfl) fun fr w12 hF hE hc => then_normal ?_)
       have hs := hs.ext hc
       have hM0 := hM0.ext hc
       have hs : Sep [] w12 S1 := Sep.pick [] hs (by decide) rfl
       obtain rfl := Option.some.inj h
       exact wp_ret (blk_ret (then_ret (ret1 rfl hF rfl ⟨_, rfl, rfl, hM0.chg⟩)))
     replace h := iteF hb h
     refine wp_seq ?_
     refine wp_seq (wp_pure [(3, B b1 0), (37, I p0.Op), (91, .bool (p0.Op == 12))] hF (by kernel_rfl) fun fr hF => then_normal ?_)
     refine (wp_merge [(3, B b1 0), (91, .bool ((p0.Op == 12) || (p0.Op == 14)))] hF (b := (p0.Op == 12)) rfl (fun hb => ?_) (fun hb => ?_) fun fr hF => then_normal ?_)
     · exact wp_skip ⟨rfl, rfl, (hF.sub [(3, B b1 0), (91, .bool (p0.Op == 12))] (by kernel_rfl)).eqs (by first | (simp only [hb]; done) | (simp only [hb]; rfl))⟩
     · exact wp_pure [(3, B b1 0), (91, .bool (p0.Op == 14))] hF (by kernel_rfl) fun fr hF => ⟨rfl, rfl, hF.eqs (by first | (simp only [hb]; done) | (simp only [hb]; rfl))⟩
     refine (wp_if hF (b := ((p0.Op == 12) || (p0.Op == 14))) rfl (fun hb => ?_) (fun hb => ?_))
     · replace h := iteT hb h
       refine wp_seq (region_b [] [true, false, true, true, true, false, true, true, true]
           [.eq (B b1 1), .eq (I p0.A), .eq (.bool (p0.A == 0)), .eq (.bool (p0.A == 0)), .eq (B b1 2), .eq (I p0.B), .eq (.bool (p0.B == 0)), .eq (.bool ((p0.A == 0) && (p0.B == 0))), .eq (.bool ((p0.A == 0) && (p0.B == 0)))]
           [(6, .bool ((p0.A == 0) && (p0.B == 0)))] mix hF (by kernel_rfl) (by kernel_rfl) (by kernel_rfl) ⟨Pd.mono_eq, Pd.mono_eq, trivial⟩ (fun hG => ⟨np_loadBox hG hF ty3 rfl rfl (hs.bx 0 rfl) rfl rfl rfl, np_loadBox hG hF ty3 rfl rfl (hs.bx 0 rfl) rfl rfl rfl, trivial⟩) (by kernel_rfl) fun fr w13 hF hE hc => then_normal ?_)
       have hs := hs.ext hc
       have hM0 := hM0.ext hc
       have hs : Sep [] w13 S1 := Sep.pick [] hs (by decide) rfl
       obtain rfl := Option.some.inj h
       exact wp_ret (blk_ret (then_ret (ret1 rfl hF rfl ⟨_, rfl, rfl, hM0.chg⟩)))
     replace h := iteF hb h
     have hs : Sep [] w2 S1 := Sep.pick [] hs (by decide) rfl
     refine (wp_skip ?_)
     refine blk_normal (then_normal ?_)
     refine wp_seq (wp_pure [(6, .bool false)] hF (by kernel_rfl) fun fr hF => then_normal ?_)
     obtain rfl := Option.some.inj h
     exact wp_ret (ret1 rfl hF rfl ⟨_, rfl, rfl, hM0.chg⟩)
   replace h := iteF hb h
   refine wp_seq (wp_pure [(3, B b1 0), (7, .bool ((decide (p0.B ≥ 0)) && (decide (p0.B ≤ p2)))), (37, I p0.Op), (61, .bool (p0.Op == 6))] hF (by kernel_rfl) fun fr hF => then_normal ?_)
   refine (wp_merge [(3, B b1 0), (7, .bool ((decide (p0.B ≥ 0)) && (decide (p0.B ≤ p2)))), (37, I p0.Op), (61, .bool ((p0.Op == 6) || (p0.Op == 13)))] hF (b := (p0.Op == 6)) rfl (fun hb => ?_) (fun hb => ?_) fun fr hF => then_normal ?_)
   · exact wp_skip ⟨rfl, rfl, (hF.sub [(3, B b1 0), (7, .bool ((decide (p0.B ≥ 0)) && (decide (p0.B ≤ p2)))), (37, I p0.Op), (61, .bool (p0.Op == 6))] (by kernel_rfl)).eqs (by first | (simp only [hb]; done) | (simp only [hb]; rfl))⟩
   · exact wp_pure [(3, B b1 0), (7, .bool ((decide (p0.B ≥ 0)) && (decide (p0.B ≤ p2)))), (37, I p0.Op), (61, .bool (p0.Op == 13))] hF (by kernel_rfl) fun fr hF => ⟨rfl, rfl, hF.eqs (by first | (simp only [hb]; done) | (simp only [hb]; rfl))⟩
   refine (wp_if hF (b := ((p0.Op == 6) || (p0.Op == 13))) rfl (fun hb => ?_) (fun hb => ?_))
   · replace h := iteT hb h
     obtain ⟨x12, hx12, h⟩ := bindE h
     refine wp_seq (region_b [] [true, false, false, true, true, false, true, true, true]
         [.eq (B b1 1), .eq (I p0.A), .eq (.bool x12), .eq (.bool x12), .eq (B b1 2), .eq (I p0.B), .eq (.bool (p0.B == 0)), .eq (.bool (x12 && (p0.B == 0))), .eq (.bool (x12 && (p0.B == 0)))]
         [(6, .bool (x12 && (p0.B == 0)))] mix hF (by kernel_rfl) (by kernel_rfl) (by kernel_rfl) ⟨Pd.mono_eq, Pd.mono_eq, Pd.mono_eq, trivial⟩ (fun hG => ⟨np_loadBox hG hF ty3 rfl rfl (hs.bx 0 rfl) rfl rfl rfl, np_call [I p0.A] hG hF Try.call138 rfl rfl (fun w hC hg => (impl_isReg_ok p0.A hx12).mono fun e w' ⟨v, he, hv, hc⟩ => ⟨v, he, hc, hv⟩), np_loadBox hG hF ty3 rfl rfl (hs.bx 0 rfl) rfl rfl rfl, trivial⟩) (by kernel_rfl) fun fr w14 hF hE hc => then_normal ?_)
     have hs := hs.ext hc
     have hM0 := hM0.ext hc
     have hs : Sep [] w14 S1 := Sep.pick [] hs (by decide) rfl
     obtain rfl := Option.some.inj h
     exact wp_ret (blk_ret (then_ret (ret1 rfl hF rfl ⟨_, rfl, rfl, hM0.chg⟩)))
   replace h := iteF hb h
   refine wp_seq ?_
   refine wp_seq (wp_pure [(3, B b1 0), (7, .bool ((decide (p0.B ≥ 0)) && (decide (p0.B ≤ p2)))), (37, I p0.Op), (74, .bool (p0.Op == 9))] hF (by kernel_rfl) fun fr hF => then_normal ?_)
   refine (wp_merge [(3, B b1 0), (7, .bool ((decide (p0.B ≥ 0)) && (decide (p0.B ≤ p2)))), (37, I p0.Op), (74, .bool ((p0.Op == 9) || (p0.Op == 11)))] hF (b := (p0.Op == 9)) rfl (fun hb => ?_) (fun hb => ?_) fun fr hF => then_normal ?_)
   · exact wp_skip ⟨rfl, rfl, (hF.sub [(3, B b1 0), (7, .bool ((decide (p0.B ≥ 0)) && (decide (p0.B ≤ p2)))), (37, I p0.Op), (74, .bool (p0.Op == 9))] (by kernel_rfl)).eqs (by first | (simp only [hb]; done) | (simp only [hb]; rfl))⟩
   · exact wp_pure [(3, B b1 0), (7, .bool ((decide (p0.B ≥ 0)) && (decide (p0.B ≤ p2)))), (37, I p0.Op), (74, .bool (p0.Op == 11))] hF (by kernel_rfl) fun fr hF => ⟨rfl, rfl, hF.eqs (by first | (simp only [hb]; done) | (simp only [hb]; rfl))⟩
   refine (wp_if hF (b := ((p0.Op == 9) || (p0.Op == 11))) rfl (fun hb => ?_) (fun hb => ?_))
   · replace h := iteT hb h
     refine wp_seq (region_b [] [true, false, true, true, true, true, true]
         [.eq (B b1 1), .eq (I p0.A), .eq (.bool (p0.A == 0)), .eq (.bool (p0.A == 0)), .eq (.bool ((decide (p0.B ≥ 0)) && (decide (p0.B ≤ p2)))), .eq (.bool ((p0.A == 0) && ((decide (p0.B ≥ 0)) && (decide (p0.B ≤ p2))))), .eq (.bool ((p0.A == 0) && ((decide (p0.B ≥ 0)) && (decide (p0.B ≤ p2)))))]
         [(6, .bool ((p0.A == 0) && ((decide (p0.B ≥ 0)) && (decide (p0.B ≤ p2)))))] mix hF (by kernel_rfl) (by kernel_rfl) (by kernel_rfl) ⟨Pd.mono_eq, trivial⟩ (fun hG => ⟨np_loadBox hG hF ty3 rfl rfl (hs.bx 0 rfl) rfl rfl rfl, trivial⟩) (by kernel_rfl) fun fr w15 hF hE hc => then_normal ?_)
     have hs := hs.ext hc
     have hM0 := hM0.ext hc
     have hs : Sep [] w15 S1 := Sep.pick [] hs (by decide) rfl
     obtain rfl := Option.some.inj h
     exact wp_ret (blk_ret (then_ret (ret1 rfl hF rfl ⟨_, rfl, rfl, hM0.chg⟩)))
   replace h := iteF hb h
   refine wp_seq (wp_pure [(3, B b1 0), (7, .bool ((decide (p0.B ≥ 0)) && (decide (p0.B ≤ p2)))), (37, I p0.Op), (83, .bool (p0.Op == 10))] hF (by kernel_rfl) fun fr hF => then_normal ?_)
   refine (wp_if hF (b := (p0.Op == 10)) rfl (fun hb => ?_) (fun hb => ?_))
   · replace h := iteT hb h
     obtain ⟨x13, hx13, h⟩ := bindE h
     refine wp_seq (region_b [] [true, false, false, true, true, true, true]
         [.eq (B b1 1), .eq (I p0.A), .eq (.bool x13), .eq (.bool x13), .eq (.bool ((decide (p0.B ≥ 0)) && (decide (p0.B ≤ p2)))), .eq (.bool (x13 && ((decide (p0.B ≥ 0)) && (decide (p0.B ≤ p2))))), .eq (.bool (x13 && ((decide (p0.B ≥ 0)) && (decide (p0.B ≤ p2)))))]
         [(6, .bool (x13 && ((decide (p0.B ≥ 0)) && (decide (p0.B ≤ p2)))))] mix hF (by kernel_rfl) (by kernel_rfl) (by kernel_rfl) ⟨Pd.mono_eq, Pd.mono_eq, trivial⟩ (fun hG => ⟨np_loadBox hG hF ty3 rfl rfl (hs.bx 0 rfl) rfl rfl rfl, np_call [I p0.A] hG hF Try.call138 rfl rfl (fun w hC hg => (impl_isReg_ok p0.A hx13).mono fun e w' ⟨v, he, hv, hc⟩ => ⟨v, he, hc, hv⟩), trivial⟩) (by kernel_rfl) fun fr w16 hF hE hc => then_normal ?_)
     have hs := hs.ext hc
     have hM0 := hM0.ext hc
     have hs : Sep [] w16 S1 := Sep.pick [] hs (by decide) rfl
     obtain rfl := Option.some.inj h
     exact wp_ret (blk_ret (then_ret (ret1 rfl hF rfl ⟨_, rfl, rfl, hM0.chg⟩)))
   replace h := iteF hb h
   refine wp_seq ?_
   refine wp_seq (wp_pure [(3, B b1 0), (37, I p0.Op), (91, .bool (p0.Op == 12))] hF (by kernel_rfl) fun fr hF => then_normal ?_)
   refine (wp_merge [(3, B b1 0), (91, .bool ((p0.Op == 12) || (p0.Op == 14)))] hF (b := (p0.Op == 12)) rfl (fun hb => ?_) (fun hb => ?_) fun fr hF => then_normal ?_)
   · exact wp_skip ⟨rfl, rfl, (hF.sub [(3, B b1 0), (91, .bool (p0.Op == 12))] (by kernel_rfl)).eqs (by first | (simp only [hb]; done) | (simp only [hb]; rfl))⟩
   · exact wp_pure [(3, B b1 0), (91, .bool (p0.Op == 14))] hF (by kernel_rfl) fun fr hF => ⟨rfl, rfl, hF.eqs (by first | (simp only [hb]; done) | (simp only [hb]; rfl))⟩
   refine (wp_if hF (b := ((p0.Op == 12) || (p0.Op == 14))) rfl (fun hb => ?_) (fun hb => ?_))
   · replace h := iteT hb h
     refine wp_seq (region_b [] [true, false, true, true, true, false, true, true, true]
         [.eq (B b1 1), .eq (I p0.A), .eq (.bool (p0.A == 0)), .eq (.bool (p0.A == 0)), .eq (B b1 2), .eq (I p0.B), .eq (.bool (p0.B == 0)), .eq (.bool ((p0.A == 0) && (p0.B == 0))), .eq (.bool ((p0.A == 0) && (p0.B == 0)))]
         [(6, .bool ((p0.A == 0) && (p0.B == 0)))] mix hF (by kernel_rfl) (by kernel_rfl) (by kernel_rfl) ⟨Pd.mono_eq, Pd.mono_eq, trivial⟩ (fun hG => ⟨np_loadBox hG hF ty3 rfl rfl (hs.bx 0 rfl) rfl rfl rfl, np_loadBox hG hF ty3 rfl rfl (hs.bx 0 rfl) rfl rfl rfl, trivial⟩) (by kernel_rfl) fun fr w17 hF hE hc => then_normal ?_)
     have hs := hs.ext hc
     have hM0 := hM0.ext hc
     have hs : Sep [] w17 S1 := Sep.pick [] hs (by decide) rfl
     obtain rfl := Option.some.inj h
     exact wp_ret (blk_ret (then_ret (ret1 rfl hF rfl ⟨_, rfl, rfl, hM0.chg⟩)))
   replace h := iteF hb h
   have hs : Sep [] w2 S1 := Sep.pick [] hs (by decide) rfl
   refine (wp_skip ?_)
   refine blk_normal (then_normal ?_)
   refine wp_seq (wp_pure [(6, .bool false)] hF (by kernel_rfl) fun fr hF => then_normal ?_)
   obtain rfl := Option.some.inj h
   exact wp_ret (ret1 rfl hF rfl ⟨_, rfl, rfl, hM0.chg⟩)
 replace h := iteF hb h
 refine wp_seq (wp_pure [(3, B b1 0), (7, .bool ((decide (p0.B ≥ 0)) && (decide (p0.B ≤ p2)))), (37, I p0.Op), (49, .bool (p0.Op == 7))] hF (by kernel_rfl) fun fr hF => then_normal ?_)
 refine (wp_merge [(3, B b1 0), (7, .bool ((decide (p0.B ≥ 0)) && (decide (p0.B ≤ p2)))), (37, I p0.Op), (49, .bool ((p0.Op == 7) || (p0.Op == 8)))] hF (b := (p0.Op == 7)) rfl (fun hb => ?_) (fun hb => ?_) fun fr hF => then_normal ?_)
 · exact wp_skip ⟨rfl, rfl, (hF.sub [(3, B b1 0), (7, .bool ((decide (p0.B ≥ 0)) && (decide (p0.B ≤ p2)))), (37, I p0.Op), (49, .bool (p0.Op == 7))] (by kernel_rfl)).eqs (by first | (simp only [hb]; done) | (simp only [hb]; rfl))⟩
 · exact wp_pure [(3, B b1 0), (7, .bool ((decide (p0.B ≥ 0)) && (decide (p0.B ≤ p2)))), (37, I p0.Op), (49, .bool (p0.Op == 8))] hF (by kernel_rfl) fun fr hF => ⟨rfl, rfl, hF.eqs (by first | (simp only [hb]; done) | (simp only [hb]; rfl))⟩
 refine (wp_if hF (b := ((p0.Op == 7) || (p0.Op == 8))) rfl (fun hb => ?_) (fun hb => ?_))
 · replace h := iteT hb h
   obtain ⟨x14, hx14, h⟩ := bindE h
   obtain ⟨x15, hx15, h⟩ := bindE h
   refine wp_seq (region_b [] [true, false, false, true, true, false, false, true, true]
       [.eq (B b1 1), .eq (I p0.A), .eq (.bool x14), .eq (.bool x14), .eq (B b1 2), .eq (I p0.B), .eq (.bool x15), .eq (.bool (x14 && x15)), .eq (.bool (x14 && x15))]
       [(6, .bool (x14 && x15))] mix hF (by kernel_rfl) (by kernel_rfl) (by kernel_rfl) ⟨Pd.mono_eq, Pd.mono_eq, Pd.mono_eq, Pd.mono_eq, trivial⟩ (fun hG => ⟨np_loadBox hG hF ty3 rfl rfl (hs.bx 0 rfl) rfl rfl rfl, np_call [I p0.A] hG hF Try.call138 rfl rfl (fun w hC hg => (impl_isReg_ok p0.A hx14).mono fun e w' ⟨v, he, hv, hc⟩ => ⟨v, he, hc, hv⟩), np_loadBox hG hF ty3 rfl rfl (hs.bx 0 rfl) rfl rfl rfl, np_call [I p0.B] hG hF Try.call138 rfl rfl (fun w hC hg => (impl_isReg_ok p0.B (iteT hg.2 hx15)).mono fun e w' ⟨v, he, hv, hc⟩ => ⟨v, he, hc, hv⟩), trivial⟩) (by kernel_rfl) fun fr w18 hF hE hc => then_normal ?_)
   have hs := hs.ext hc
   have hM0 := hM0.ext hc
   have hs : Sep [] w18 S1 := Sep.pick [] hs (by decide) rfl
   obtain rfl := Option.some.inj h
   exact wp_ret (blk_ret (then_ret (ret1 rfl hF rfl ⟨_, rfl, rfl, hM0.chg⟩)))
 replace h := iteF hb h
 refine wp_seq ?_
 refine wp_seq (wp_pure [(3, B b1 0), (7, .bool ((decide (p0.B ≥ 0)) && (decide (p0.B ≤ p2)))), (37, I p0.Op), (61, .bool (p0.Op == 4))] hF (by kernel_rfl) fun fr hF => then_normal ?_)
 refine (wp_if hF (b := (p0.Op == 4)) rfl (fun hb => ?_) (fun hb => ?_))
 · replace h := iteT hb h
   refine (wp_skip (then_normal ?_))
   refine (wp_if hF (b := (p0.Op == 4)) rfl (fun hb => ?_) (fun hb => ?_))
   · replace h := iteT hb h
     obtain ⟨x16, hx16, h⟩ := bindE h
     refine wp_seq (region_b [] [true, false, false, true, true, false, true, true, true]
         [.eq (B b1 1), .eq (I p0.A), .eq (.bool x16), .eq (.bool x16), .eq (B b1 2), .eq (I p0.B), .eq (.bool (p0.B == 0)), .eq (.bool (x16 && (p0.B == 0))), .eq (.bool (x16 && (p0.B == 0)))]
         [(6, .bool (x16 && (p0.B == 0)))] mix hF (by kernel_rfl) (by kernel_rfl) (by kernel_rfl) ⟨Pd.mono_eq, Pd.mono_eq, Pd.mono_eq, trivial⟩ (fun hG => ⟨np_loadBox hG hF ty3 rfl rfl (hs.bx 0 rfl) rfl rfl rfl, np_call [I p0.A] hG hF Try.call138 rfl rfl (fun w hC hg => (impl_isReg_ok p0.A hx16).mono fun e w' ⟨v, he, hv, hc⟩ => ⟨v, he, hc, hv⟩), np_loadBox hG hF ty3 rfl rfl (hs.bx 0 rfl) rfl rfl rfl, trivial⟩) (by kernel_rfl) fun fr w19 hF hE hc => then_normal ?_)
     have hs := hs.ext hc
     have hM0 := hM0.ext hc
     have hs : Sep [] w19 S1 := Sep.pick [] hs (by decide) rfl
     obtain rfl := Option.some.inj h
     exact wp_ret (blk_ret (then_ret (ret1 rfl hF rfl ⟨_, rfl, rfl, hM0.chg⟩)))
   replace h := iteF hb h
   refine wp_seq ?_
   refine wp_seq (wp_pure [(3, B b1 0), (7, .bool ((decide (p0.B ≥ 0)) && (decide (p0.B ≤ p2)))), (37, I p0.Op), (74, .bool (p0.Op == 9))] hF (by kernel_rfl) fun fr hF => then_normal ?_)
   refine (wp_merge [(3, B b1 0), (7, .bool ((decide (p0.B ≥ 0)) && (decide (p0.B ≤ p2)))), (37, I p0.Op), (74, .bool ((p0.Op == 9) || (p0.Op == 11)))] hF (b := (p0.Op == 9)) rfl (fun hb => ?_) (fun hb => ?_) fun fr hF => then_normal ?_)
   · exact wp_skip ⟨rfl, rfl, (hF.sub [(3, B b1 0), (7, .bool ((decide (p0.B ≥ 0)) && (decide (p0.B ≤ p2)))), (37, I p0.Op), (74, .bool (p0.Op == 9))] (by kernel_rfl)).eqs (by first | (simp only [hb]; done) | (simp only [hb]; rfl))⟩
   · exact wp_pure [(3, B b1 0), (7, .bool ((decide (p0.B ≥ 0)) && (decide (p0.B ≤ p2)))), (37, I p0.Op), (74, .bool (p0.Op == 11))] hF (by kernel_rfl) fun fr hF => ⟨rfl, rfl, hF.eqs (by first | (simp only [hb]; done) | (simp only [hb]; rfl))⟩
   refine (wp_if hF (b := ((p0.Op == 9) || (p0.Op == 11))) rfl (fun hb => ?_) (fun hb => ?_))
   · replace h := iteT hb h
     refine wp_seq (region_b [] [true, false, true, true, true, true, true]
         [.eq (B b1 1), .eq (I p0.A), .eq (.bool (p0.A == 0)), .eq (.bool (p0.A == 0)), .eq (.bool ((decide (p0.B ≥ 0)) && (decide (p0.B ≤ p2)))), .eq (.bool ((p0.A == 0) && ((decide (p0.B ≥ 0)) && (decide (p0.B ≤ p2))))), .eq (.bool ((p0.A == 0) && ((decide (p0.B ≥ 0)) && (decide (p0.B ≤ p2)))))]
         [(6, .bool ((p0.A == 0) && ((decide (p0.B ≥ 0)) && (decide (p0.B ≤ p2)))))] mix hF (by kernel_rfl) (by kernel_rfl) (by kernel_rfl) ⟨Pd.mono_eq, trivial⟩ (fun hG => ⟨np_loadBox hG hF ty3 rfl rfl (hs.bx 0 rfl) rfl rfl rfl, trivial⟩) (by kernel_rfl) fun fr w20 hF hE hc => then_normal ?_)
     have hs := hs.ext hc
     have hM0 := hM0.ext hc
     have hs : Sep [] w20 S1 := Sep.pick [] hs (by decide) rfl
     obtain rfl := Option.some.inj h
     exact wp_ret (blk_ret (then_ret (ret1 rfl hF rfl ⟨_, rfl, rfl, hM0.chg⟩)))
   replace h := iteF hb h
   refine wp_seq (wp_pure [(3, B b1 0), (7, .bool ((decide (p0.B ≥ 0)) && (decide (p0.B ≤ p2)))), (37, I p0.Op), (83, .bool (p0.Op == 10))] hF (by kernel_rfl) fun fr hF => then_normal ?_)
   refine (wp_if hF (b := (p0.Op == 10)) rfl (fun hb => ?_) (fun hb => ?_))
   · replace h := iteT hb h
     obtain ⟨x17, hx17, h⟩ := bindE h
     refine wp_seq (region_b [] [true, false, false, true, true, true, true]
         [.eq (B b1 1), .eq (I p0.A), .eq (.bool x17), .eq (.bool x17), .eq (.bool ((decide (p0.B ≥ 0)) && (decide (p0.B ≤ p2)))), .eq (.bool (x17 && ((decide (p0.B ≥ 0)) && (decide (p0.B ≤ p2))))), .eq (.bool (x17 && ((decide (p0.B ≥ 0)) && (decide (p0.B ≤ p2)))))]
         [(6, .bool (x17 && ((decide (p0.B ≥ 0)) && (decide (p0.B ≤ p2)))))] mix hF (by kernel_rfl) (by kernel_rfl) (by kernel_rfl) ⟨Pd.mono_eq, Pd.mono_eq, trivial⟩ (fun hG => ⟨np_loadBox hG hF ty3 rfl rfl (hs.bx 0 rfl) rfl rfl rfl, np_call [I p0.A] hG hF Try.call138 rfl rfl (fun w hC hg => (impl_isReg_ok p0.A hx17).mono fun e w' ⟨v, he, hv, hc⟩ => ⟨v, he, hc, hv⟩), trivial⟩) (by kernel_rfl) fun fr w21 hF hE hc => then_normal ?_)
     have hs := hs.ext hc
     have hM0 := hM0.ext hc
     have hs : Sep [] w21 S1 := Sep.pick [] hs (by decide) rfl
     obtain rfl := Option.some.inj h
     exact wp_ret (blk_ret (then_ret (ret1 rfl hF rfl ⟨_, rfl, rfl, hM0.chg⟩)))
   replace h := iteF hb h
   refine wp_seq ?_
   refine wp_seq (wp_pure [(3, B b1 0), (37, I p0.Op), (91, .bool (p0.Op == 12))] hF (by kernel_rfl) fun fr hF => then_normal ?_)
   refine (wp_merge [(3, B b1 0), (91, .bool ((p0.Op == 12) || (p0.Op == 14)))] hF (b := (p0.Op == 12)) rfl (fun hb => ?_) (fun hb => ?_) fun fr hF => then_normal ?_)
   · exact wp_skip ⟨rfl, rfl, (hF.sub [(3, B b1 0), (91, .bool (p0.Op == 12))] (by kernel_rfl)).eqs (by first | (simp only [hb]; done) | (simp only [hb]; rfl))⟩
   · exact wp_pure [(3, B b1 0), (91, .bool (p0.Op == 14))] hF (by kernel_rfl) fun fr hF => ⟨rfl, rfl, hF.eqs (by first | (simp only [hb]; done) | (simp only [hb]; rfl))⟩
   refine (wp_if hF (b := ((p0.Op == 12) || (p0.Op == 14))) rfl (fun hb => ?_) (fun hb => ?_))
   · replace h := iteT hb h
     refine wp_seq (region_b [] [true, false, true, true, true, false, true, true, true]
         [.eq (B b1 1), .eq (I p0.A), .eq (.bool (p0.A == 0)), .eq (.bool (p0.A == 0)), .eq (B b1 2), .eq (I p0.B), .eq (.bool (p0.B == 0)), .eq (.bool ((p0.A == 0) && (p0.B == 0))), .eq (.bool ((p0.A == 0) && (p0.B == 0)))]
         [(6, .bool ((p0.A == 0) && (p0.B == 0)))] mix hF (by kernel_rfl) (by kernel_rfl) (by kernel_rfl) ⟨Pd.mono_eq, Pd.mono_eq, trivial⟩ (fun hG => ⟨np_loadBox hG hF ty3 rfl rfl (hs.bx 0 rfl) rfl rfl rfl, np_loadBox hG hF ty3 rfl rfl (hs.bx 0 rfl) rfl rfl rfl, trivial⟩) (by kernel_rfl) fun fr w22 hF hE hc => then_normal ?_)
     have hs := hs.ext hc
     have hM0 := hM0.ext hc
     have hs : Sep [] w22 S1 := Sep.pick [] hs (by decide) rfl
     obtain rfl := Option.some.inj h
     exact wp_ret (blk_ret (then_ret (ret1 rfl hF rfl ⟨_, rfl, rfl, hM0.chg⟩)))
   replace h := iteF hb h
   have hs : Sep [] w2 S1 := Sep.pick [] hs (by decide) rfl
   refine (wp_skip ?_)
   refine blk_normal (then_normal ?_)
   refine wp_seq (wp_pure [(6, .bool false)] hF (by kernel_rfl) fun fr hF => then_normal ?_)
   obtain rfl := Option.some.inj h
   exact wp_ret (ret1 rfl hF rfl ⟨_, rfl, rfl, hM0.chg⟩)
 replace h := iteF hb h
 refine wp_seq (wp_pure [(3, B b1 0), (7, .bool ((decide (p0.B ≥ 0)) && (decide (p0.B ≤ p2)))), (37, I p0.Op), (61, .bool (p0.Op == 5))] hF (by kernel_rfl) fun fr hF => then_normal ?_)
 refine (wp_if hF (b := (p0.Op == 5)) rfl (fun hb => ?_) (fun hb => ?_))
 · replace h := iteT hb h
   refine (wp_skip (then_normal ?_))
   refine (wp_if hF (b := (p0.Op == 5)) rfl (fun hb => ?_) (fun hb => ?_))
   · replace h := iteT hb h
     obtain ⟨x18, hx18, h⟩ := bindE h
     refine wp_seq (region_b [] [true, false, false, true, true, false, true, true, true]
         [.eq (B b1 1), .eq (I p0.A), .eq (.bool x18), .eq (.bool x18), .eq (B b1 2), .eq (I p0.B), .eq (.bool (p0.B == 0)), .eq (.bool (x18 && (p0.B == 0))), .eq (.bool (x18 && (p0.B == 0)))]
         [(6, .bool (x18 && (p0.B == 0)))] mix hF (by kernel_rfl) (by kernel_rfl) (by kernel_rfl) ⟨Pd.mono_eq, Pd.mono_eq, Pd.mono_eq, trivial⟩ (fun hG => ⟨np_loadBox hG hF ty3 rfl rfl (hs.bx 0 rfl) rfl rfl rfl, np_call [I p0.A] hG hF Try.call138 rfl rfl (fun w hC hg => (impl_isReg_ok p0.A hx18).mono fun e w' ⟨v, he, hv, hc⟩ => ⟨v, he, hc, hv⟩), np_loadBox hG hF ty3 rfl rfl (hs.bx 0 rfl) rfl rfl rfl, trivial⟩) (by kernel_rfl) fun fr w23 hF hE hc => then_normal ?_)
     have hs := hs.ext hc
     have hM0 := hM0.ext hc
     have hs : Sep [] w23 S1 := Sep.pick [] hs (by decide) rfl
     obtain rfl := Option.some.inj h
     exact wp_ret (blk_ret (then_ret (ret1 rfl hF rfl ⟨_, rfl, rfl, hM0.chg⟩)))
   replace h := iteF hb h
   refine wp_seq ?_
   refine wp_seq (wp_pure [(3, B b1 0), (7, .bool ((decide (p0.B ≥ 0)) && (decide (p0.B ≤ p2)))), (37, I p0.Op), (74, .bool (p0.Op == 9))] hF (by kernel_rfl) fun fr hF => then_normal ?_)
   refine (wp_merge [(3, B b1 0), (7, .bool ((decide (p0.B ≥ 0)) && (decide (p0.B ≤ p2)))), (37, I p0.Op), (74, .bool ((p0.Op == 9) || (p0.Op == 11)))] hF (b := (p0.Op == 9)) rfl (fun hb => ?_) (fun hb => ?_) fun fr hF => then_normal ?_)
   · exact wp_skip ⟨rfl, rfl, (hF.sub [(3, B b1 0), (7, .bool ((decide (p0.B ≥ 0)) && (decide (p0.B ≤ p2)))), (37, I p0.Op), (74, .bool (p0.Op == 9))] (by kernel_rfl)).eqs (by first | (simp only [hb]; done) | (simp only [hb]; rfl))⟩
   · exact wp_pure [(3, B b1 0), (7, .bool ((decide (p0.B ≥ 0)) && (decide (p0.B ≤ p2)))), (37, I p0.Op), (74, .bool (p0.Op == 11))] hF (by kernel_rfl) fun fr hF => ⟨rfl, rfl, hF.eqs (by first | (simp only [hb]; done) | (simp only [hb]; rfl))⟩
   refine (wp_if hF (b := ((p0.Op == 9) || (p0.Op == 11))) rfl (fun hb => ?_) (fun hb => ?_))
   · replace h := iteT hb h
     refine wp_seq (region_b [] [true, false, true, true, true, true, true]
         [.eq (B b1 1), .eq (I p0.A), .eq (.bool (p0.A == 0)), .eq (.bool (p0.A == 0)), .eq (.bool ((decide (p0.B ≥ 0)) && (decide (p0.B ≤ p2)))), .eq (.bool ((p0.A == 0) && ((decide (p0.B ≥ 0)) && (decide (p0.B ≤ p2))))), .eq (.bool ((p0.A == 0) && ((decide (p0.B ≥ 0)) && (decide (p0.B ≤ p2)))))]
         [(6, .bool ((p0.A == 0) && ((decide (p0.B ≥ 0)) && (decide (p0.B ≤ p2)))))] mix hF (by kernel_rfl) (by kernel_rfl) (by kernel_rfl) ⟨Pd.mono_eq, trivial⟩ (fun hG => ⟨np_loadBox hG hF ty3 rfl rfl (hs.bx 0 rfl) rfl rfl rfl, trivial⟩) (by kernel_rfl) fun fr w24 hF hE hc => then_normal ?_)
     have hs := hs.ext hc
     have hM0 := hM0.ext hc
     have hs : Sep [] w24 S1 := Sep.pick [] hs (by decide) rfl
     obtain rfl := Option.some.inj h
     exact wp_ret (blk_ret (then_ret (ret1 rfl hF rfl ⟨_, rfl, rfl, hM0.chg⟩)))
   replace h := iteF hb h
   refine wp_seq (wp_pure [(3, B b1 0), (7, .bool ((decide (p0.B ≥ 0)) && (decide (p0.B ≤ p2)))), (37, I p0.Op), (83, .bool (p0.Op == 10))] hF (by kernel_rfl) fun fr hF => then_normal ?_)
   refine (wp_if hF (b := (p0.Op == 10)) rfl (fun hb => ?_) (fun hb => ?_))
   · replace h := iteT hb h
     obtain ⟨x19, hx19, h⟩ := bindE h
     refine wp_seq (region_b [] [true, false, false, true, true, true, true]
         [.eq (B b1 1), .eq (I p0.A), .eq (.bool x19), .eq (.bool x19), .eq (.bool ((decide (p0.B ≥ 0)) && (decide (p0.B ≤ p2)))), .eq (.bool (x19 && ((decide (p0.B ≥ 0)) && (decide (p0.B ≤ p2))))), .eq (.bool (x19 && ((decide (p0.B ≥ 0)) && (decide (p0.B ≤ p2)))))]
         [(6, .bool (x19 && ((decide (p0.B ≥ 0)) && (decide (p0.B ≤ p2)))))] mix hF (by kernel_rfl) (by kernel_rfl) (by kernel_rfl) ⟨Pd.mono_eq, Pd.mono_eq, trivial⟩ (fun hG => ⟨np_loadBox hG hF ty3 rfl rfl (hs.bx 0 rfl) rfl rfl rfl, np_call [I p0.A] hG hF Try.call138 rfl rfl (fun w hC hg => (impl_isReg_ok p0.A hx19).mono fun e w' ⟨v, he, hv, hc⟩ => ⟨v, he, hc, hv⟩), trivial⟩) (by kernel_rfl) fun fr w25 hF hE hc => then_normal ?_)
     have hs := hs.ext hc
     have hM0 := hM0.ext hc
     have hs : Sep [] w25 S1 := Sep.pick [] hs (by decide) rfl
     obtain rfl := Option.some.inj h
     exact wp_ret (blk_ret (then_ret (ret1 rfl hF rfl ⟨_, rfl, rfl, hM0.chg⟩)))
   replace h := iteF hb h
   refine wp_seq ?_
   refine wp_seq (wp_pure [(3, B b1 0), (37, I p0.Op), (91, .bool (p0.Op == 12))] hF (by kernel_rfl) fun fr hF => then_normal ?_)
   refine (wp_merge [(3, B b1 0), (91, .bool ((p0.Op == 12) || (p0.Op == 14)))] hF (b := (p0.Op == 12)) rfl (fun hb => ?_) (fun hb => ?_) fun fr hF => then_normal ?_)
   · exact wp_skip ⟨rfl, rfl, (hF.sub [(3, B b1 0), (91, .bool (p0.Op == 12))] (by kernel_rfl)).eqs (by first | (simp only [hb]; done) | (simp only [hb]; rfl))⟩
   · exact wp_pure [(3, B b1 0), (91, .bool (p0.Op == 14))] hF (by kernel_rfl) fun fr hF => ⟨rfl, rfl, hF.eqs (by first | (simp only [hb]; done) | (simp only [hb]; rfl))⟩
   refine (wp_if hF (b := ((p0.Op == 12) || (p0.Op == 14))) rfl (fun hb => ?_) (fun hb => ?_))
   · replace h := iteT hb h
     refine wp_seq (region_b [] [true, false, true, true, true, false, true, true, true]
         [.eq (B b1 1), .eq (I p0.A), .eq (.bool (p0.A == 0)), .eq (.bool (p0.A == 0)), .eq (B b1 2), .eq (I p0.B), .eq (.bool (p0.B == 0)), .eq (.bool ((p0.A == 0) && (p0.B == 0))), .eq (.bool ((p0.A == 0) && (p0.B == 0)))]
         [(6, .bool ((p0.A == 0) && (p0.B == 0)))] mix hF (by kernel_rfl) (by kernel_rfl) (by kernel_rfl) ⟨Pd.mono_eq, Pd.mono_eq, trivial⟩ (fun hG => ⟨np_loadBox hG hF ty3 rfl rfl (hs.bx 0 rfl) rfl rfl rfl, np_loadBox hG hF ty3 rfl rfl (hs.bx 0 rfl) rfl rfl rfl, trivial⟩) (by kernel_rfl) fun fr w26 hF hE hc => then_normal ?_)
     have hs := hs.ext hc
     have hM0 := hM0.ext hc
     have hs : Sep [] w26 S1 := Sep.pick [] hs (by decide) rfl
     obtain rfl := Option.some.inj h
     exact wp_ret (blk_ret (then_ret (ret1 rfl hF rfl ⟨_, rfl, rfl, hM0.chg⟩)))
   replace h := iteF hb h
   have hs : Sep [] w2 S1 := Sep.pick [] hs (by decide) rfl
   refine (wp_skip ?_)
   refine blk_normal (then_normal ?_)
   refine wp_seq (wp_pure [(6, .bool false)] hF (by kernel_rfl) fun fr hF => then_normal ?_)
   obtain rfl := Option.some.inj h
   exact wp_ret (ret1 rfl hF rfl ⟨_, rfl, rfl, hM0.chg⟩)
 replace h := iteF hb h
 refine wp_seq (wp_pure [(3, B b1 0), (7, .bool ((decide (p0.B ≥ 0)) && (decide (p0.B ≤ p2)))), (37, I p0.Op), (61, .bool (p0.Op == 6))] hF (by kernel_rfl) fun fr hF => then_normal ?_)
 refine (wp_merge [(3, B b1 0), (7, .bool ((decide (p0.B ≥ 0)) && (decide (p0.B ≤ p2)))), (37, I p0.Op), (61, .bool ((p0.Op == 6) || (p0.Op == 13)))] hF (b := (p0.Op == 6)) rfl (fun hb => ?_) (fun hb => ?_) fun fr hF => then_normal ?_)
 · exact wp_skip ⟨rfl, rfl, (hF.sub [(3, B b1 0), (7, .bool ((decide (p0.B ≥ 0)) && (decide (p0.B ≤ p2)))), (37, I p0.Op), (61, .bool (p0.Op == 6))] (by kernel_rfl)).eqs (by first | (simp only [hb]; done) | (simp only [hb]; rfl))⟩
 · exact wp_pure [(3, B b1 0), (7, .bool ((decide (p0.B ≥ 0)) && (decide (p0.B ≤ p2)))), (37, I p0.Op), (61, .bool (p0.Op == 13))] hF (by kernel_rfl) fun fr hF => ⟨rfl, rfl, hF.eqs (by first | (simp only [hb]; done) | (simp only [hb]; rfl))⟩
 refine (wp_if hF (b := ((p0.Op == 6) || (p0.Op == 13))) rfl (fun hb => ?_) (fun hb => ?_))
 · replace h := iteT hb h
   obtain ⟨x20, hx20, h⟩ := bindE h
   refine wp_seq (region_b [] [true, false, false, true, true, false, true, true, true]
       [.eq (B b1 1), .eq (I p0.A), .eq (.bool x20), .eq (.bool x20), .eq (B b1 2), .eq (I p0.B), .eq (.bool (p0.B == 0)), .eq (.bool (x20 && (p0.B == 0))), .eq (.bool (x20 && (p0.B == 0)))]
       [(6, .bool (x20 && (p0.B == 0)))] mix hF (by kernel_rfl) (by kernel_rfl) (by kernel_rfl) ⟨Pd.mono_eq, Pd.mono_eq, Pd.mono_eq, trivial⟩ (fun hG => ⟨np_loadBox hG hF ty3 rfl rfl (hs.bx 0 rfl) rfl rfl rfl, np_call [I p0.A] hG hF Try.call138 rfl rfl (fun w hC hg => (impl_isReg_ok p0.A hx20).mono fun e w' ⟨v, he, hv, hc⟩ => ⟨v, he, hc, hv⟩), np_loadBox hG hF ty3 rfl rfl (hs.bx 0 rfl) rfl rfl rfl, trivial⟩) (by kernel_rfl) fun fr w27 hF hE hc => then_normal ?_)
   have hs := hs.ext hc
   have hM0 := hM0.ext hc
   have hs : Sep [] w27 S1 := Sep.pick [] hs (by decide) rfl
   obtain rfl := Option.some.inj h
   exact wp_ret (blk_ret (then_ret (ret1 rfl hF rfl ⟨_, rfl, rfl, hM0.chg⟩)))
 replace h := iteF hb h
 refine wp_seq ?_
 refine wp_seq (wp_pure [(3, B b1 0), (7, .bool ((decide (p0.B ≥ 0)) && (decide (p0.B ≤ p2)))), (37, I p0.Op), (74, .bool (p0.Op == 9))] hF (by kernel_rfl) fun fr hF => then_normal ?_)
 refine (wp_merge [(3, B b1 0), (7, .bool ((decide (p0.B ≥ 0)) && (decide (p0.B ≤ p2)))), (37, I p0.Op), (74, .bool ((p0.Op == 9) || (p0.Op == 11)))] hF (b := (p0.Op == 9)) rfl (fun hb => ?_) (fun hb => ?_) fun fr hF => then_normal ?_)
 · exact wp_skip ⟨rfl, rfl, (hF.sub [(3, B b1 0), (7, .bool ((decide (p0.B ≥ 0)) && (decide (p0.B ≤ p2)))), (37, I p0.Op), (74, .bool (p0.Op == 9))] (by kernel_rfl)).eqs (by first | (simp only [hb]; done) | (simp only [hb]; rfl))⟩
 · exact wp_pure [(3, B b1 0), (7, .bool ((decide (p0.B ≥ 0)) && (decide (p0.B ≤ p2)))), (37, I p0.Op), (74, .bool (p0.Op == 11))] hF (by kernel_rfl) fun fr hF => ⟨rfl, rfl, hF.eqs (by first | (simp only [hb]; done) | (simp only [hb]; rfl))⟩
 refine (wp_if hF (b := ((p0.Op == 9) || (p0.Op == 11))) rfl (fun hb => ?_) (fun hb => ?_))
 · replace h := iteT hb h
   refine wp_seq (region_b [] [true, false, true, true, true, true, true]
       [.eq (B b1 1), .eq (I p0.A), .eq (.bool (p0.A == 0)), .eq (.bool (p0.A == 0)), .eq (.bool ((decide (p0.B ≥ 0)) && (decide (p0.B ≤ p2)))), .eq (.bool ((p0.A == 0) && ((decide (p0.B ≥ 0)) && (decide (p0.B ≤ p2))))), .eq (.bool ((p0.A == 0) && ((decide (p0.B ≥ 0)) && (decide (p0.B ≤ p2)))))]
       [(6, .bool ((p0.A == 0) && ((decide (p0.B ≥ 0)) && (decide (p0.B ≤ p2)))))] mix hF (by kernel_rfl) (by kernel_rfl) (by kernel_rfl) ⟨Pd.mono_eq, trivial⟩ (fun hG => ⟨np_loadBox hG hF ty3 rfl rfl (hs.bx 0 rfl) rfl rfl rfl, trivial⟩) (by kernel_rfl) fun fr w28 hF hE hc => then_normal ?_)
   have hs := hs.ext hc
   have hM0 := hM0.ext hc
   have hs : Sep [] w28 S1 := Sep.pick [] hs (by decide) rfl
   obtain rfl := Option.some.inj h
   exact wp_ret (blk_ret (then_ret (ret1 rfl hF rfl ⟨_, rfl, rfl, hM0.chg⟩)))
 replace h := iteF hb h
 refine wp_seq (wp_pure [(3, B b1 0), (7, .bool ((decide (p0.B ≥ 0)) && (decide (p0.B ≤ p2)))), (37, I p0.Op), (83, .bool (p0.Op == 10))] hF (by kernel_rfl) fun fr hF => then_normal ?_)
 refine (wp_if hF (b := (p0.Op == 10)) rfl (fun hb => ?_) (fun hb => ?_))
 · replace h := iteT hb h
   obtain ⟨x21, hx21, h⟩ := bindE h
   refine wp_seq (region_b [] [true, false, false, true, true, true, true]
       [.eq (B b1 1), .eq (I p0.A), .eq (.bool x21), .eq (.bool x21), .eq (.bool ((decide (p0.B ≥ 0)) && (decide (p0.B ≤ p2)))), .eq (.bool (x21 && ((decide (p0.B ≥ 0)) && (decide (p0.B ≤ p2))))), .eq (.bool (x21 && ((decide (p0.B ≥ 0)) && (decide (p0.B ≤ p2)))))]
       [(6, .bool (x21 && ((decide (p0.B ≥ 0)) && (decide (p0.B ≤ p2)))))] mix hF (by kernel_rfl) (by kernel_rfl) (by kernel_rfl) ⟨Pd.mono_eq, Pd.mono_eq, trivial⟩ (fun hG => ⟨np_loadBox hG hF ty3 rfl rfl (hs.bx 0 rfl) rfl rfl rfl, np_call [I p0.A] hG hF Try.call138 rfl rfl (fun w hC hg => (impl_isReg_ok p0.A hx21).mono fun e w' ⟨v, he, hv, hc⟩ => ⟨v, he, hc, hv⟩), trivial⟩) (by kernel_rfl) fun fr w29 hF hE hc => then_normal ?_)
   have hs := hs.ext hc
   have hM0 := hM0.ext hc
   have hs : Sep [] w29 S1 := Sep.pick [] hs (by decide) rfl
   obtain rfl := Option.some.inj h
   exact wp_ret (blk_ret (then_ret (ret1 rfl hF rfl ⟨_, rfl, rfl, hM0.chg⟩)))
 replace h := iteF hb h
 refine wp_seq ?_
 refine wp_seq (wp_pure [(3, B b1 0), (37, I p0.Op), (91, .bool (p0.Op == 12))] hF (by kernel_rfl) fun fr hF => then_normal ?_)
 refine (wp_merge [(3, B b1 0), (91, .bool ((p0.Op == 12) || (p0.Op == 14)))] hF (b := (p0.Op == 12)) rfl (fun hb => ?_) (fun hb => ?_) fun fr hF => then_normal ?_)
 · exact wp_skip ⟨rfl, rfl, (hF.sub [(3, B b1 0), (91, .bool (p0.Op == 12))] (by kernel_rfl)).eqs (by first | (simp only [hb]; done) | (simp only [hb]; rfl))⟩
 · exact wp_pure [(3, B b1 0), (91, .bool (p0.Op == 14))] hF (by kernel_rfl) fun fr hF => ⟨rfl, rfl, hF.eqs (by first | (simp only [hb]; done) | (simp only [hb]; rfl))⟩
 refine (wp_if hF (b := ((p0.Op == 12) || (p0.Op == 14))) rfl (fun hb => ?_) (fun hb => ?_))
 · replace h := iteT hb h
   refine wp_seq (region_b [] [true, false, true, true, true, false, true, true, true]
       [.eq (B b1 1), .eq (I p0.A), .eq (.bool (p0.A == 0)), .eq (.bool (p0.A == 0)), .eq (B b1 2), .eq (I p0.B), .eq (.bool (p0.B == 0)), .eq (.bool ((p0.A == 0) && (p0.B == 0))), .eq (.bool ((p0.A == 0) && (p0.B == 0)))]
       [(6, .bool ((p0.A == 0) && (p0.B == 0)))] mix hF (by kernel_rfl) (by kernel_rfl) (by kernel_rfl) ⟨Pd.mono_eq, Pd.mono_eq, trivial⟩ (fun hG => ⟨np_loadBox hG hF ty3 rfl rfl (hs.bx 0 rfl) rfl rfl rfl, np_loadBox hG hF ty3 rfl rfl (hs.bx 0 rfl) rfl rfl rfl, trivial⟩) (by kernel_rfl) fun fr w30 hF hE hc => then_normal ?_)
   have hs := hs.ext hc
   have hM0 := hM0.ext hc
   have hs : Sep [] w30 S1 := Sep.pick [] hs (by decide) rfl
   obtain rfl := Option.some.inj h
   exact wp_ret (blk_ret (then_ret (ret1 rfl hF rfl ⟨_, rfl, rfl, hM0.chg⟩)))
 replace h := iteF hb h
 have hs : Sep [] w2 S1 := Sep.pick [] hs (by decide) rfl
 refine (wp_skip ?_)
 refine blk_normal (then_normal ?_)
 refine wp_seq (wp_pure [(6, .bool false)] hF (by kernel_rfl) fun fr hF => then_normal ?_)
 obtain rfl := Option.some.inj h
 exact wp_ret (ret1 rfl hF rfl ⟨_, rfl, rfl, hM0.chg⟩)

theorem impl_ProgramOk_ok (n : Nat) (p0 : D.Program) {r : Bool} (h : impl_ProgramOk n p0 = some r) {w : World} {G0 : Nat → Prop} {va0 : Value} (ra0 : RV w G0 va0 p0) :
   Calls Try.prog 60 [va0].toArray w fun e w' => ∃ v, e = .returned v ∧ v = .bool r ∧ Chg Non w w' := by
 unfold impl_ProgramOk at h
 have hs := Sep.nil w Non
 have hM0 : Mem w Non (fun k => (G0 k) ∧ k < w.heap.size) w Non (fun k => (G0 k) ∧ k < w.heap.size) := Mem.start (fun _ h => h.elim) (fun _ h => h.2) (fun _ h => h.elim)
 have ra0 := ra0.sub (F' := (fun k => (G0 k) ∧ k < w.heap.size)) (fun k hk h => ⟨h, hk⟩)
 obtain ⟨v1, rfl, r1⟩ := RV.Program ra0
 obtain ⟨a1, c1, rfl, -⟩ := r1.slice
 refine enter (N := 54) Try.func60 rfl Try.ntmps60 rfl fun fr hF => ?_
 refine wp_seq (wp_text' ?_)
 refine q_box hs hM0 [I p0.W, I p0.Mem, I p0.In, L a1 p0.Code c1] rfl rfl hF rfl rfl fun b1 w1 S1 fr hs hp hF => ?_
 have r1 := r1.stp hM0 hp
 have hM0 := hM0.stp hp
 have hs : Sep [BX b1 30 [I p0.W, I p0.Mem, I p0.In, L a1 p0.Code c1]] w1 S1 := hs
 refine from_pure 1 [(1, B b1 0)] hF (by kernel_rfl) fun fr hF => ?_
 refine from_end rfl (then_normal ?_)
 refine wp_seq ?_
 obtain ⟨x1, hx1, h⟩ := bindE h
 obtain ⟨x2, hx2, h⟩ := bindE h
 refine wp_seq (region_b [] [true, false, true, false, true, false, true, true, true, false, true, true, true, true, false, true, true, true, true, false, true, false, false, true, true]
     [.eq (B b1 0), .eq (I p0.W), .eq (B b1 3), .eq (L a1 p0.Code c1), .eq (I (len p0.Code)), .eq (.bool x1), .eq (.bool (!x1)), .eq (.bool (!x1)), .eq (B b1 1), .eq (I p0.Mem), .eq (.bool (decide (p0.Mem < 1))), .eq (.bool ((!x1) || (decide (p0.Mem < 1)))), .eq (.bool ((!x1) || (decide (p0.Mem < 1)))), .eq (B b1 1), .eq (I p0.Mem), .eq (.bool (decide (p0.Mem > 6))), .eq (.bool (((!x1) || (decide (p0.Mem < 1))) || (decide (p0.Mem > 6)))), .eq (.bool (((!x1) || (decide (p0.Mem < 1))) || (decide (p0.Mem > 6)))), .eq (B b1 0), .eq (I p0.W), .eq (B b1 1), .eq (I p0.Mem), .eq (.bool x2), .eq (.bool (!x2)), .eq (.bool ((((!x1) || (decide (p0.Mem < 1))) || (decide (p0.Mem > 6))) || (!x2)))]
     [(1, B b1 0), (29, .bool ((((!x1) || (decide (p0.Mem < 1))) || (decide (p0.Mem > 6))) || (!x2)))] mix hF (by kernel_rfl) (by kernel_rfl) (by kernel_rfl) ⟨Pd.mono_eq, Pd.mono_eq, Pd.mono_eq, Pd.mono_eq, Pd.mono_eq, Pd.mono_eq, Pd.mono_eq, Pd.mono_eq, trivial⟩ (fun hG => ⟨np_loadBox hG hF ty3 rfl rfl (hs.bx 0 rfl) rfl rfl rfl, np_loadBox hG hF ty28 rfl rfl (hs.bx 0 rfl) rfl rfl rfl, np_call [I p0.W, I (len p0.Code)] hG hF Try.call106 rfl rfl (fun w hC hg => (impl_shapeOk_ok p0.W (len p0.Code) hx1).mono fun e w' ⟨v, he, hv, hc⟩ => ⟨v, he, hc, hv⟩), np_loadBox hG hF ty3 rfl rfl (hs.bx 0 rfl) rfl rfl rfl, np_loadBox hG hF ty3 rfl rfl (hs.bx 0 rfl) rfl rfl rfl, np_loadBox hG hF ty3 rfl rfl (hs.bx 0 rfl) rfl rfl rfl, np_loadBox hG hF ty3 rfl rfl (hs.bx 0 rfl) rfl rfl rfl, np_call [I p0.W, I p0.Mem] hG hF Try.call107 rfl rfl (fun w hC hg => (impl_WordOk_ok p0.W p0.Mem (iteF hg.2 hx2)).mono fun e w' ⟨v, he, hv, hc⟩ => ⟨v, he, hc, hv⟩), trivial⟩) (by kernel_rfl) fun fr w2 hF hE hc => then_normal ?_)
 have r1 := r1.ext hc
 have hs := hs.ext hc
 have hM0 := hM0.ext hc
 refine (wp_if hF (b := ((((!x1) || (decide (p0.Mem < 1))) || (decide (p0.Mem > 6))) || (!x2))) rfl (fun hb => ?_) (fun hb => ?_))
 · replace h := iteT hb h
   have hs : Sep [] w2 S1 := Sep.pick [] hs (by decide) rfl
   refine wp_seq (wp_pure [(2, .bool false)] hF (by kernel_rfl) fun fr hF => then_normal ?_)
   obtain rfl := Option.some.inj h
   exact wp_ret (then_ret (ret1 rfl hF rfl ⟨_, rfl, rfl, hM0.chg⟩))
 replace h := iteF hb h
 refine (wp_skip (then_normal ?_))
 refine wp_seq ?_
 refine wp_seq (region_b [] [true, false, true, true, true, false, true, true]
     [.eq (B b1 2), .eq (I p0.In), .eq (.bool (decide (p0.In < 0))), .eq (.bool (decide (p0.In < 0))), .eq (B b1 2), .eq (I p0.In), .eq (.bool (decide (p0.In > 3))), .eq (.bool ((decide (p0.In < 0)) || (decide (p0.In > 3))))]
     [(1, B b1 0), (37, .bool ((decide (p0.In < 0)) || (decide (p0.In > 3))))] mix hF (by kernel_rfl) (by kernel_rfl) (by kernel_rfl) ⟨Pd.mono_eq, Pd.mono_eq, trivial⟩ (fun hG => ⟨np_loadBox hG hF ty3 rfl rfl (hs.bx 0 rfl) rfl rfl rfl, np_loadBox hG hF ty3 rfl rfl (hs.bx 0 rfl) rfl rfl rfl, trivial⟩) (by kernel_rfl) fun fr w3 hF hE hc => then_normal ?_)
 have r1 := r1.ext hc
 have hs := hs.ext hc
 have hM0 := hM0.ext hc
 refine (wp_if hF (b := ((decide (p0.In < 0)) || (decide (p0.In > 3)))) rfl (fun hb => ?_) (fun hb => ?_))
 · replace h := iteT hb h
   have hs : Sep [] w3 S1 := Sep.pick [] hs (by decide) rfl
   refine wp_seq (wp_pure [(2, .bool false)] hF (by kernel_rfl) fun fr hF => then_normal ?_)
   obtain rfl := Option.some.inj h
   exact wp_ret (then_ret (ret1 rfl hF rfl ⟨_, rfl, rfl, hM0.chg⟩))
 replace h := iteF hb h
 refine (wp_skip (then_normal ?_))
 refine wp_seq ?_
 refine wp_seq (wp_text' ?_)
 refine from_pure 1 [(1, B b1 0), (38, B b1 3)] hF (by kernel_rfl) fun fr hF => ?_
 refine s_loadBox (L a1 p0.Code c1) ty28 rfl rfl hF rfl (hs.bx 0 rfl) rfl rfl fun fr hF => ?_
 refine from_pure 2 [(1, B b1 0), (39, L a1 p0.Code c1), (40, I (len p0.Code)), (41, I 0)] hF (by kernel_rfl) fun fr hF => ?_
 refine from_end rfl (then_normal ?_)
 obtain ⟨rl1, hit1, h⟩ := bindE h
 have hk1 := h
 refine (GL.wp_cut (M := fun fr w' => ∃ s, rl1 = .inl s ∧ ∃ S3 F2, FrS 54 [] fr ∧ Mem w3 S1 (fun k => (G0 k) ∧ k < w.heap.size) w' S3 F2 ∧ Sep [] w' S3) (wp_block (wp_iter (Inv := fun s1 fr w' => ∃ S2 F1, FrS 54 [(1, B b1 0), (39, L a1 p0.Code c1), (40, I (len p0.Code)), (41, I s1)] fr ∧ Mem w3 S1 (fun k => (G0 k) ∧ k < w.heap.size) w' S2 F1 ∧ Sep [BX b1 30 [I p0.W, I p0.Mem, I p0.In, L a1 p0.Code c1]] w' S2) hit1 ⟨S1, _, hF.sub _ (by kernel_rfl), (Mem.start hM0.bd hM0.bdF hM0.dj), hs⟩ fun s1 q1 fr w1i hI h hr1 => ?_)) fun fr w1o hM => ?_)
 · obtain ⟨S2, F1, hF, hM1, hs⟩ := hI
   have r1 := r1.mem hM1
   refine wp_seq (wp_pure [(1, B b1 0), (39, L a1 p0.Code c1), (40, I (len p0.Code)), (41, I s1), (42, .bool (decide (s1 < (len p0.Code))))] hF (by kernel_rfl) fun fr hF => then_normal ?_)
   refine wp_seq (wp_if hF (b := (decide (s1 < (len p0.Code)))) rfl (fun hb => ?_) (fun hb => ?_))
   · replace h := iteT hb h
     refine (wp_skip (then_normal ?_))
     refine wp_seq (wp_block ?_)
     refine wp_seq (wp_text' ?_)
     obtain ⟨x3, hx3, h⟩ := bindE h
     refine s_elemF (z := x3) (.agg #[I x3.Op, I x3.A, I x3.B, I x3.C]) ty90 Try.underlying28 rfl rfl rfl rfl rfl hF rfl (r1) rfl (get?_nn hx3) (get?_at hx3) rfl fun p fr hF => ?_
     refine q_alloc (z := .agg #[I 0, I 0, I 0, I 0]) hs hM1 [I 0, I 0, I 0, I 0] rfl rfl hF (by kernel_rfl) rfl fun b2 w4 S4 fr hs hp hF => ?_
     have r1 := r1.stp hM1 hp
     have hM1 := hM1.stp hp
     have hs : Sep [BX b2 90 [I 0, I 0, I 0, I 0], BX b1 30 [I p0.W, I p0.Mem, I p0.In, L a1 p0.Code c1]] w4 S4 := hs
     refine q_storeBoxS 0 hs hM1 rfl [I x3.Op, I x3.A, I x3.B, I x3.C] rfl hF rfl rfl (by kernel_rfl) rfl rfl rfl fun w5 S5 hs hp hF => ?_
     have r1 := r1.stp hM1 hp
     have hM1 := hM1.stp hp
     have hs : Sep [BX b2 90 [I x3.Op, I x3.A, I x3.B, I x3.C], BX b1 30 [I p0.W, I p0.Mem, I p0.In, L a1 p0.Code c1]] w5 S5 := hs
     refine from_end rfl (then_normal ?_)
     refine wp_seq (wp_text' ?_)
     refine s_loadBoxS ty90 rfl rfl hF rfl (hs.bx 0 rfl) rfl rfl fun fr hF => ?_
     have hs : Sep [BX b1 30 [I p0.W, I p0.Mem, I p0.In, L a1 p0.Code c1]] w5 S5 := Sep.pick [1] hs (by decide) rfl
     refine from_pure 1 [(1, B b1 0), (39, L a1 p0.Code c1), (40, I (len p0.Code)), (41, I s1), (45, .agg #[I x3.Op, I x3.A, I x3.B, I x3.C]), (46, B b1 0)] hF (by kernel_rfl) fun fr hF => ?_
     refine s_loadBox (I p0.W) ty3 rfl rfl hF rfl (hs.bx 0 rfl) rfl rfl fun fr hF => ?_
     refine from_pure 1 [(1, B b1 0), (39, L a1 p0.Code c1), (40, I (len p0.Code)), (41, I s1), (45, .agg #[I x3.Op, I x3.A, I x3.B, I x3.C]), (47, I p0.W), (48, B b1 3)] hF (by kernel_rfl) fun fr hF => ?_
     refine s_loadBox (L a1 p0.Code c1) ty28 rfl rfl hF rfl (hs.bx 0 rfl) rfl rfl fun fr hF => ?_
     refine from_pure 1 [(1, B b1 0), (39, L a1 p0.Code c1), (40, I (len p0.Code)), (41, I s1), (45, .agg #[I x3.Op, I x3.A, I x3.B, I x3.C]), (47, I p0.W), (50, I (len p0.Code))] hF (by kernel_rfl) fun fr hF => ?_
     obtain ⟨x4, hx4, h⟩ := bindE h
     refine s_call [.agg #[I x3.Op, I x3.A, I x3.B, I x3.C], I p0.W, I (len p0.Code)] Try.call108 rfl rfl hF rfl (impl_insOk_ok x3 p0.W (len p0.Code) hx4) fun v w6 fr hRes hF => ?_
     obtain ⟨rfl, hc⟩ := hRes
     have r1 := r1.ext hc
     have hs := hs.ext hc
     have hM1 := hM1.ext hc
     refine from_pure 1 [(1, B b1 0), (39, L a1 p0.Code c1), (40, I (len p0.Code)), (41, I s1), (52, .bool (!x4))] hF (by kernel_rfl) fun fr hF => ?_
     refine from_end rfl (then_normal ?_)
     refine (wp_if hF (b := (!x4)) rfl (fun hb => ?_) (fun hb => ?_))
     · replace h := iteT hb h
       have hs : Sep [] w6 S5 := Sep.pick [] hs (by decide) rfl
       refine wp_seq (wp_pure [(2, .bool false)] hF (by kernel_rfl) fun fr hF => then_normal ?_)
       obtain rfl := hr1 _ (Option.some.inj h).symm
       obtain rfl := Option.some.inj hk1
       exact wp_ret (blk_ret (then_ret (then_ret (blk_ret (then_ret (ret1 rfl hF rfl ⟨_, rfl, rfl, (hM0.trans hM1).chg⟩))))))
     replace h := iteF hb h
     refine (wp_skip ?_)
     refine blk_normal (then_normal ?_)
     refine (wp_pure [(1, B b1 0), (39, L a1 p0.Code c1), (40, I (len p0.Code)), (41, I (w64 (s1 + 1)))] hF (by kernel_rfl) fun fr hF => then_normal ?_)
     exact ⟨_, (Option.some.inj h).symm, S5, _, hF.sub _ (by kernel_rfl), hM1, hs⟩
   replace h := iteF hb h
   have hs : Sep [] w1i S2 := Sep.pick [] hs (by decide) rfl
   refine (wp_exit (then_exit (then_exit (blk_exit_eq ?_))))
   obtain rfl := hr1 _ (Option.some.inj h).symm
   exact then_normal ⟨_, rfl, S2, _, hF.sub _ (by kernel_rfl), hM1, hs⟩
 · obtain ⟨s1r, rfl, hM⟩ := hM
   obtain ⟨S3, F2, hF, hMx, hs⟩ := hM
   have hM0 := hM0.trans hMx
   refine wp_seq (wp_pure [(2, .bool true)] hF (by kernel_rfl) fun fr hF => then_normal ?_)
   obtain rfl := Option.some.inj h
   exact wp_ret (ret1 rfl hF rfl ⟨_, rfl, rfl, hM0.chg⟩)

theorem impl_ConstTerm_ok (p0 : Int) (p1 : Int) {r : D.Term} (h : impl_ConstTerm p0 p1 = some r) {w : World} :
   Calls Try.prog 129 [I p0, I p1].toArray w fun e w' => ∃ v, e = .returned v ∧ v = .agg #[I r.Op, I r.W, I r.N, Str.val r.Name, L none ([] : List D.Term) 0] ∧ Chg Non w w' := by
 unfold impl_ConstTerm at h
 have hs := Sep.nil w Non
 have hM0 : Mem w Non (fun k => (False) ∧ k < w.heap.size) w Non (fun k => (False) ∧ k < w.heap.size) := Mem.start (fun _ h => h.elim) (fun _ h => h.2) (fun _ h => h.elim)
 refine enter (N := 13) Try.func129 rfl Try.ntmps129 rfl fun fr hF => ?_
 refine wp_seq (wp_text' ?_)
 refine q_alloc (z := .agg #[I 0, I 0, I 0, Str.val (⟨[]⟩), L none ([] : List D.Term) 0]) hs hM0 [I 0, I 0, I 0, Str.val (⟨[]⟩), L none ([] : List D.Term) 0] rfl rfl hF (by kernel_rfl) rfl fun b1 w1 S1 fr hs hp hF => ?_
 have hM0 := hM0.stp hp
 have hs : Sep [BX b1 121 [I 0, I 0, I 0, Str.val (⟨[]⟩), L none ([] : List D.Term) 0]] w1 S1 := hs
 refine from_end rfl (then_normal ?_)
 refine wp_seq ?_
 refine wp_seq (wp_text' ?_)
 refine from_pure 2 [(0, I p0), (1, I p1), (4, B b1 0), (5, I p0), (6, I p1)] hF (by kernel_rfl) fun fr hF => ?_
 obtain ⟨x1, hx1, h⟩ := bindE h
 refine s_call [I p0, I p1] Try.call107 rfl rfl hF rfl (impl_WordOk_ok p0 p1 hx1) fun v w2 fr hRes hF => ?_
 obtain ⟨rfl, hc⟩ := hRes
 have hs := hs.ext hc
 have hM0 := hM0.ext hc
 refine from_pure 1 [(0, I p0), (1, I p1), (4, B b1 0), (8, .bool (!x1))] hF (by kernel_rfl) fun fr hF => ?_
 refine from_end rfl (then_normal ?_)
 refine (wp_if hF (b := (!x1)) rfl (fun hb => ?_) (fun hb => ?_))
 · replace h := iteT hb h
   refine wp_seq (wp_text' ?_)
   refine from_pure 1 [(4, B b1 0), (9, .agg #[I 0, I 0, I 0, Str.val (⟨[]⟩), L none ([] : List D.Term) 0])] hF (by kernel_rfl) fun fr hF => ?_
   refine q_storeBoxS 0 hs hM0 rfl [I 0, I 0, I 0, Str.val (⟨[]⟩), L none ([] : List D.Term) 0] rfl hF rfl rfl (by kernel_rfl) rfl rfl rfl fun w3 S2 hs hp hF => ?_
   have hM0 := hM0.stp hp
   have hs : Sep [BX b1 121 [I 0, I 0, I 0, Str.val (⟨[]⟩), L none ([] : List D.Term) 0]] w3 S2 := hs
   refine from_end rfl (then_normal ?_)
   have hbr := (hs.bx 0 rfl)
   obtain rfl := Option.some.inj h
   exact wp_ret (then_ret (retS rfl hF ty121 rfl rfl hbr rfl ⟨_, rfl, rfl, hM0.chg⟩))
 replace h := iteF hb h
 refine (wp_skip (then_normal ?_))
 refine wp_seq (wp_text' ?_)
 refine from_pure 3 [(4, B b1 0), (12, .agg #[I 0, I p0, I p1, Str.val (⟨[]⟩), L none ([] : List D.Term) 0])] hF (by kernel_rfl) fun fr hF => ?_
 refine q_storeBoxS 0 hs hM0 rfl [I 0, I p0, I p1, Str.val (⟨[]⟩), L none ([] : List D.Term) 0] rfl hF rfl rfl (by kernel_rfl) rfl rfl rfl fun w4 S3 hs hp hF => ?_
 have hM0 := hM0.stp hp
 have hs : Sep [BX b1 121 [I 0, I p0, I p1, Str.val (⟨[]⟩), L none ([] : List D.Term) 0]] w4 S3 := hs
 refine from_end rfl (then_normal ?_)
 have hbr := (hs.bx 0 rfl)
 obtain rfl := Option.some.inj h
 exact wp_ret (retS rfl hF ty121 rfl rfl hbr rfl ⟨_, rfl, rfl, hM0.chg⟩)
end Go.Proofs.Ytknlknnihinmjaa
