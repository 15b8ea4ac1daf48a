/- Printed by gen2.py: the walks. -/
import Derived.Test.YtghbeebinbmpkaaGLt
import Derived.Test.YtghbeebinbmpkaaDefs
import Derived.Test.YtghbeebinbmpkaaProg
import Derived.KernelRfl
set_option linter.unusedVariables false
set_option maxRecDepth 100000
namespace Go.Proofs.Ytghbeebinbmpkaa
open Go.GL
theorem mix : Try.prog.follows .mixedOrders = true := by kernel_rfl
theorem ty3 : Ty Try.prog 3 Int := ⟨by kernel_rfl, by kernel_rfl⟩
theorem ty22 : Ty Try.prog 22 (List D.Ins) := ⟨by kernel_rfl, by kernel_rfl⟩
theorem ty24 : Ty Try.prog 24 D.Program := ⟨by kernel_rfl, by kernel_rfl⟩
theorem ty26 : Ty Try.prog 26 (List Int) := ⟨by kernel_rfl, by kernel_rfl⟩
theorem ty28 : Ty Try.prog 28 D.State := ⟨by kernel_rfl, by kernel_rfl⟩
theorem ty30 : Ty Try.prog 30 (List D.Ins) := ⟨by kernel_rfl, by kernel_rfl⟩
theorem ty32 : Ty Try.prog 32 D.Program := ⟨by kernel_rfl, by kernel_rfl⟩
theorem ty39 : Ty Try.prog 39 D.State := ⟨by kernel_rfl, by kernel_rfl⟩
theorem ty85 : Ty Try.prog 85 D.Ins := ⟨by kernel_rfl, by kernel_rfl⟩
theorem ty93 : Ty Try.prog 93 D.Ins := ⟨by kernel_rfl, by kernel_rfl⟩
theorem el3 : ElT Try.prog 3 Int := elT (by kernel_rfl)
theorem el85 : ElT Try.prog 85 D.Ins := elT (by kernel_rfl)

theorem laws_szInsS_ok (p0 : List D.Ins) (p1 : Int) {r : Int} (h : laws_szInsS p0 p1 = some r) {w : World} {F0 : Nat → Prop} {va0 : Value} (ra0 : RV w F0 va0 p0) :
    Calls Try.prog 39 [va0, .int .i64 p1].toArray w fun e w' => ∃ v, e = .returned v ∧ v = .int .i64 r ∧ Chg Non w w' := by
  unfold laws_szInsS at h
  have ra0 := ra0.sub (F' := fun k => k < w.heap.size) (fun k hk _ => hk)
  obtain ⟨a1, c1, rfl, -⟩ := ra0.slice
  have hC : Chg Non w w := Chg.refl _ _
  refine enter (N := 12) Try.func39 rfl Try.ntmps39 rfl fun fr hF => ?_
  refine wp_seq (wp_pure [(0, .slice a1 (List.length p0) c1), (1, .int .i64 p1)] hF (by kernel_rfl) fun fr hF => then_normal ?_)
  refine wp_seq (wp_pure [(1, .int .i64 (w64 (p1 - (len p0))))] hF (by kernel_rfl) fun fr hF => then_normal ?_)
  refine wp_seq ?_
  refine wp_seq (wp_pure [(1, .int .i64 (w64 (p1 - (len p0)))), (10, .bool (decide ((w64 (p1 - (len p0))) < 0)))] hF (by kernel_rfl) fun fr hF => then_normal ?_)
  refine (wp_if hF (b := (decide ((w64 (p1 - (len p0))) < 0))) rfl (fun hb => ?_) (fun hb => ?_))
  · replace h := iteT hb h
    refine wp_seq (wp_pure [(4, .int .i64 (-1))] hF (by kernel_rfl) fun fr hF => then_normal ?_)
    obtain rfl := Option.some.inj h
    exact wp_ret (then_ret (ret1 rfl hF rfl ⟨_, rfl, rfl, hC⟩))
  · replace h := iteF hb h
    refine (wp_skip (then_normal ?_))
    refine wp_seq (wp_pure [(4, .int .i64 (w64 (p1 - (len p0))))] hF (by kernel_rfl) fun fr hF => then_normal ?_)
    obtain rfl := Option.some.inj h
    exact wp_ret (ret1 rfl hF rfl ⟨_, rfl, rfl, hC⟩)

theorem laws_szProgram_ok (p0 : D.Program) (p1 : Int) {r : Int} (h : laws_szProgram p0 p1 = some r) {w : World} {F0 : Nat → Prop} {va0 : Value} (ra0 : RV w F0 va0 p0) :
    Calls Try.prog 9 [va0, .int .i64 p1].toArray w fun e w' => ∃ v, e = .returned v ∧ v = .int .i64 r ∧ Chg Non w w' := by
  unfold laws_szProgram at h
  have ra0 := ra0.sub (F' := fun k => k < w.heap.size) (fun k hk _ => hk)
  obtain ⟨v1, rfl, r1⟩ := RV.Program ra0
  obtain ⟨a1, c1, rfl, -⟩ := r1.slice
  have hC : Chg Non w w := Chg.refl _ _
  refine enter (N := 12) Try.func9 rfl Try.ntmps9 rfl fun fr hF => ?_
  refine wp_seq (wp_text' ?_)
  refine s_box [.int .i64 p0.W, .int .i64 p0.Mem, .int .i64 p0.In, .slice a1 (List.length p0.Code) c1] rfl rfl hF rfl rfl fun b1 w1 fr b1lo hb1 hc hF => ?_
  have hC := hC.trans hc
  have r1 := r1.ext hc
  have z1 := hc.size
  have b1hi := hb1.lt
  refine from_pure 1 [(1, .int .i64 p1), (2, .pointer (some ⟨b1, 0, none⟩))] hF (by kernel_rfl) fun fr hF => ?_
  refine from_end rfl (then_normal ?_)
  refine wp_seq (wp_text' ?_)
  refine from_pure 1 [(1, .int .i64 p1), (5, .pointer (some ⟨b1, 3, none⟩))] hF (by kernel_rfl) fun fr hF => ?_
  refine s_loadBox (.slice a1 (List.length p0.Code) c1) ty22 rfl rfl hF rfl hb1 rfl rfl fun fr hF => ?_
  refine from_pure 1 [(6, .slice a1 (List.length p0.Code) c1), (7, .int .i64 p1)] hF (by kernel_rfl) fun fr hF => ?_
  obtain ⟨x1, hx1, h⟩ := bindE h
  refine s_call [.slice a1 (List.length p0.Code) c1, .int .i64 p1] Try.call39 rfl rfl hF rfl (laws_szInsS_ok p0.Code p1 hx1 r1) fun v w2 fr hR hF => ?_
  obtain ⟨rfl, hc⟩ := hR
  have hC := hC.trans hc
  have r1 := r1.ext hc
  have z2 := hc.size
  refine from_pure 1 [(1, .int .i64 x1)] hF (by kernel_rfl) fun fr hF => ?_
  refine from_end rfl (then_normal ?_)
  refine wp_seq ?_
  refine wp_seq (wp_pure [(1, .int .i64 x1), (10, .bool (decide (x1 < 0)))] hF (by kernel_rfl) fun fr hF => then_normal ?_)
  refine (wp_if hF (b := (decide (x1 < 0))) rfl (fun hb => ?_) (fun hb => ?_))
  · replace h := iteT hb h
    refine wp_seq (wp_pure [(4, .int .i64 (-1))] hF (by kernel_rfl) fun fr hF => then_normal ?_)
    obtain rfl := Option.some.inj h
    exact wp_ret (then_ret (ret1 rfl hF rfl ⟨_, rfl, rfl, hC⟩))
  · replace h := iteF hb h
    refine (wp_skip (then_normal ?_))
    refine wp_seq (wp_pure [(4, .int .i64 x1)] hF (by kernel_rfl) fun fr hF => then_normal ?_)
    obtain rfl := Option.some.inj h
    exact wp_ret (ret1 rfl hF rfl ⟨_, rfl, rfl, hC⟩)

theorem laws_szIntS_ok (p0 : List Int) (p1 : Int) {r : Int} (h : laws_szIntS p0 p1 = some r) {w : World} {F0 : Nat → Prop} {va0 : Value} (ra0 : RV w F0 va0 p0) :
    Calls Try.prog 45 [va0, .int .i64 p1].toArray w fun e w' => ∃ v, e = .returned v ∧ v = .int .i64 r ∧ Chg Non w w' := by
  unfold laws_szIntS at h
  have ra0 := ra0.sub (F' := fun k => k < w.heap.size) (fun k hk _ => hk)
  obtain ⟨a1, c1, rfl, -⟩ := ra0.slice
  have hC : Chg Non w w := Chg.refl _ _
  refine enter (N := 12) Try.func45 rfl Try.ntmps45 rfl fun fr hF => ?_
  refine wp_seq (wp_pure [(0, .slice a1 (List.length p0) c1), (1, .int .i64 p1)] hF (by kernel_rfl) fun fr hF => then_normal ?_)
  refine wp_seq (wp_pure [(1, .int .i64 (w64 (p1 - (len p0))))] hF (by kernel_rfl) fun fr hF => then_normal ?_)
  refine wp_seq ?_
  refine wp_seq (wp_pure [(1, .int .i64 (w64 (p1 - (len p0)))), (10, .bool (decide ((w64 (p1 - (len p0))) < 0)))] hF (by kernel_rfl) fun fr hF => then_normal ?_)
  refine (wp_if hF (b := (decide ((w64 (p1 - (len p0))) < 0))) rfl (fun hb => ?_) (fun hb => ?_))
  · replace h := iteT hb h
    refine wp_seq (wp_pure [(4, .int .i64 (-1))] hF (by kernel_rfl) fun fr hF => then_normal ?_)
    obtain rfl := Option.some.inj h
    exact wp_ret (then_ret (ret1 rfl hF rfl ⟨_, rfl, rfl, hC⟩))
  · replace h := iteF hb h
    refine (wp_skip (then_normal ?_))
    refine wp_seq (wp_pure [(4, .int .i64 (w64 (p1 - (len p0))))] hF (by kernel_rfl) fun fr hF => then_normal ?_)
    obtain rfl := Option.some.inj h
    exact wp_ret (ret1 rfl hF rfl ⟨_, rfl, rfl, hC⟩)

theorem laws_szState_ok (p0 : D.State) (p1 : Int) {r : Int} (h : laws_szState p0 p1 = some r) {w : World} {F0 : Nat → Prop} {va0 : Value} (ra0 : RV w F0 va0 p0) :
    Calls Try.prog 18 [va0, .int .i64 p1].toArray w fun e w' => ∃ v, e = .returned v ∧ v = .int .i64 r ∧ Chg Non w w' := by
  unfold laws_szState at h
  have ra0 := ra0.sub (F' := fun k => k < w.heap.size) (fun k hk _ => hk)
  obtain ⟨v1, v2, v3, v4, rfl, r1, r2, r3, r4⟩ := RV.State ra0
  obtain ⟨a1, c1, rfl, -⟩ := r1.slice
  obtain ⟨a2, c2, rfl, -⟩ := r2.slice
  obtain ⟨a3, c3, rfl, -⟩ := r3.slice
  obtain ⟨a4, c4, rfl, -⟩ := r4.slice
  have hC : Chg Non w w := Chg.refl _ _
  refine enter (N := 30) Try.func18 rfl Try.ntmps18 rfl fun fr hF => ?_
  refine wp_seq (wp_text' ?_)
  refine s_box [.int .i64 p0.Pc, .slice a1 (List.length p0.Regs) c1, .slice a2 (List.length p0.Mem) c2, .slice a3 (List.length p0.Stack) c3, .int .i64 p0.In, .slice a4 (List.length p0.Out) c4, .int .i64 p0.Code, .int .i64 p0.Steps] rfl rfl hF rfl rfl fun b1 w1 fr b1lo hb1 hc hF => ?_
  have hC := hC.trans hc
  have r1 := r1.ext hc
  have r2 := r2.ext hc
  have r3 := r3.ext hc
  have r4 := r4.ext hc
  have z1 := hc.size
  have b1hi := hb1.lt
  refine from_pure 1 [(1, .int .i64 p1), (2, .pointer (some ⟨b1, 0, none⟩))] hF (by kernel_rfl) fun fr hF => ?_
  refine from_end rfl (then_normal ?_)
  refine wp_seq (wp_text' ?_)
  refine from_pure 1 [(1, .int .i64 p1), (2, .pointer (some ⟨b1, 0, none⟩)), (5, .pointer (some ⟨b1, 1, none⟩))] hF (by kernel_rfl) fun fr hF => ?_
  refine s_loadBox (.slice a1 (List.length p0.Regs) c1) ty26 rfl rfl hF rfl hb1 rfl rfl fun fr hF => ?_
  refine from_pure 1 [(2, .pointer (some ⟨b1, 0, none⟩)), (6, .slice a1 (List.length p0.Regs) c1), (7, .int .i64 p1)] hF (by kernel_rfl) fun fr hF => ?_
  obtain ⟨x1, hx1, h⟩ := bindE h
  refine s_call [.slice a1 (List.length p0.Regs) c1, .int .i64 p1] Try.call45 rfl rfl hF rfl (laws_szIntS_ok p0.Regs p1 hx1 r1) fun v w2 fr hR hF => ?_
  obtain ⟨rfl, hc⟩ := hR
  have hC := hC.trans hc
  have r1 := r1.ext hc
  have r2 := r2.ext hc
  have r3 := r3.ext hc
  have r4 := r4.ext hc
  have hb1 := hb1.ext hc
  have z2 := hc.size
  refine from_pure 1 [(1, .int .i64 x1), (2, .pointer (some ⟨b1, 0, none⟩))] hF (by kernel_rfl) fun fr hF => ?_
  refine from_end rfl (then_normal ?_)
  refine wp_seq ?_
  refine wp_seq (wp_pure [(1, .int .i64 x1), (2, .pointer (some ⟨b1, 0, none⟩)), (10, .bool (decide (x1 < 0)))] hF (by kernel_rfl) fun fr hF => then_normal ?_)
  refine (wp_if hF (b := (decide (x1 < 0))) rfl (fun hb => ?_) (fun hb => ?_))
  · replace h := iteT hb h
    refine wp_seq (wp_pure [(4, .int .i64 (-1))] hF (by kernel_rfl) fun fr hF => then_normal ?_)
    obtain rfl := Option.some.inj h
    exact wp_ret (then_ret (ret1 rfl hF rfl ⟨_, rfl, rfl, hC⟩))
  · replace h := iteF hb h
    refine (wp_skip (then_normal ?_))
    refine wp_seq (wp_text' ?_)
    refine from_pure 1 [(1, .int .i64 x1), (2, .pointer (some ⟨b1, 0, none⟩)), (11, .pointer (some ⟨b1, 2, none⟩))] hF (by kernel_rfl) fun fr hF => ?_
    refine s_loadBox (.slice a2 (List.length p0.Mem) c2) ty26 rfl rfl hF rfl hb1 rfl rfl fun fr hF => ?_
    refine from_pure 1 [(2, .pointer (some ⟨b1, 0, none⟩)), (12, .slice a2 (List.length p0.Mem) c2), (13, .int .i64 x1)] hF (by kernel_rfl) fun fr hF => ?_
    obtain ⟨x2, hx2, h⟩ := bindE h
    refine s_call [.slice a2 (List.length p0.Mem) c2, .int .i64 x1] Try.call45 rfl rfl hF rfl (laws_szIntS_ok p0.Mem x1 hx2 r2) fun v w3 fr hR hF => ?_
    obtain ⟨rfl, hc⟩ := hR
    have hC := hC.trans hc
    have r2 := r2.ext hc
    have r1 := r1.ext hc
    have r3 := r3.ext hc
    have r4 := r4.ext hc
    have hb1 := hb1.ext hc
    have z3 := hc.size
    refine from_pure 1 [(1, .int .i64 x2), (2, .pointer (some ⟨b1, 0, none⟩))] hF (by kernel_rfl) fun fr hF => ?_
    refine from_end rfl (then_normal ?_)
    refine wp_seq ?_
    refine wp_seq (wp_pure [(1, .int .i64 x2), (2, .pointer (some ⟨b1, 0, none⟩)), (16, .bool (decide (x2 < 0)))] hF (by kernel_rfl) fun fr hF => then_normal ?_)
    refine (wp_if hF (b := (decide (x2 < 0))) rfl (fun hb => ?_) (fun hb => ?_))
    · replace h := iteT hb h
      refine wp_seq (wp_pure [(4, .int .i64 (-1))] hF (by kernel_rfl) fun fr hF => then_normal ?_)
      obtain rfl := Option.some.inj h
      exact wp_ret (then_ret (ret1 rfl hF rfl ⟨_, rfl, rfl, hC⟩))
    · replace h := iteF hb h
      refine (wp_skip (then_normal ?_))
      refine wp_seq (wp_text' ?_)
      refine from_pure 1 [(1, .int .i64 x2), (2, .pointer (some ⟨b1, 0, none⟩)), (17, .pointer (some ⟨b1, 3, none⟩))] hF (by kernel_rfl) fun fr hF => ?_
      refine s_loadBox (.slice a3 (List.length p0.Stack) c3) ty26 rfl rfl hF rfl hb1 rfl rfl fun fr hF => ?_
      refine from_pure 1 [(2, .pointer (some ⟨b1, 0, none⟩)), (18, .slice a3 (List.length p0.Stack) c3), (19, .int .i64 x2)] hF (by kernel_rfl) fun fr hF => ?_
      obtain ⟨x3, hx3, h⟩ := bindE h
      refine s_call [.slice a3 (List.length p0.Stack) c3, .int .i64 x2] Try.call45 rfl rfl hF rfl (laws_szIntS_ok p0.Stack x2 hx3 r3) fun v w4 fr hR hF => ?_
      obtain ⟨rfl, hc⟩ := hR
      have hC := hC.trans hc
      have r3 := r3.ext hc
      have r1 := r1.ext hc
      have r2 := r2.ext hc
      have r4 := r4.ext hc
      have hb1 := hb1.ext hc
      have z4 := hc.size
      refine from_pure 1 [(1, .int .i64 x3), (2, .pointer (some ⟨b1, 0, none⟩))] hF (by kernel_rfl) fun fr hF => ?_
      refine from_end rfl (then_normal ?_)
      refine wp_seq ?_
      refine wp_seq (wp_pure [(1, .int .i64 x3), (2, .pointer (some ⟨b1, 0, none⟩)), (22, .bool (decide (x3 < 0)))] hF (by kernel_rfl) fun fr hF => then_normal ?_)
      refine (wp_if hF (b := (decide (x3 < 0))) rfl (fun hb => ?_) (fun hb => ?_))
      · replace h := iteT hb h
        refine wp_seq (wp_pure [(4, .int .i64 (-1))] hF (by kernel_rfl) fun fr hF => then_normal ?_)
        obtain rfl := Option.some.inj h
        exact wp_ret (then_ret (ret1 rfl hF rfl ⟨_, rfl, rfl, hC⟩))
      · replace h := iteF hb h
        refine (wp_skip (then_normal ?_))
        refine wp_seq (wp_text' ?_)
        refine from_pure 1 [(1, .int .i64 x3), (23, .pointer (some ⟨b1, 5, none⟩))] hF (by kernel_rfl) fun fr hF => ?_
        refine s_loadBox (.slice a4 (List.length p0.Out) c4) ty26 rfl rfl hF rfl hb1 rfl rfl fun fr hF => ?_
        refine from_pure 1 [(24, .slice a4 (List.length p0.Out) c4), (25, .int .i64 x3)] hF (by kernel_rfl) fun fr hF => ?_
        obtain ⟨x4, hx4, h⟩ := bindE h
        refine s_call [.slice a4 (List.length p0.Out) c4, .int .i64 x3] Try.call45 rfl rfl hF rfl (laws_szIntS_ok p0.Out x3 hx4 r4) fun v w5 fr hR hF => ?_
        obtain ⟨rfl, hc⟩ := hR
        have hC := hC.trans hc
        have r4 := r4.ext hc
        have z5 := hc.size
        refine from_pure 1 [(1, .int .i64 x4)] hF (by kernel_rfl) fun fr hF => ?_
        refine from_end rfl (then_normal ?_)
        refine wp_seq ?_
        refine wp_seq (wp_pure [(1, .int .i64 x4), (28, .bool (decide (x4 < 0)))] hF (by kernel_rfl) fun fr hF => then_normal ?_)
        refine (wp_if hF (b := (decide (x4 < 0))) rfl (fun hb => ?_) (fun hb => ?_))
        · replace h := iteT hb h
          refine wp_seq (wp_pure [(4, .int .i64 (-1))] hF (by kernel_rfl) fun fr hF => then_normal ?_)
          obtain rfl := Option.some.inj h
          exact wp_ret (then_ret (ret1 rfl hF rfl ⟨_, rfl, rfl, hC⟩))
        · replace h := iteF hb h
          refine (wp_skip (then_normal ?_))
          refine wp_seq (wp_pure [(4, .int .i64 x4)] hF (by kernel_rfl) fun fr hF => then_normal ?_)
          obtain rfl := Option.some.inj h
          exact wp_ret (ret1 rfl hF rfl ⟨_, rfl, rfl, hC⟩)

theorem laws_toIns_ok (p0 : D.Ins) {r : D.Ins} (h : laws_toIns p0 = some r) {w : World} :
    Calls Try.prog 69 [.agg #[.int .i64 p0.Op, .int .i64 p0.A, .int .i64 p0.B, .int .i64 p0.C]].toArray w fun e w' => ∃ v, e = .returned v ∧ v = .agg #[.int .i64 r.Op, .int .i64 r.A, .int .i64 r.B, .int .i64 r.C] ∧ Chg Non w w' := by
  unfold laws_toIns at h
  have hC : Chg Non w w := Chg.refl _ _
  refine enter (N := 17) Try.func69 rfl Try.ntmps69 rfl fun fr hF => ?_
  refine wp_seq (wp_text' ?_)
  refine s_box [.int .i64 p0.Op, .int .i64 p0.A, .int .i64 p0.B, .int .i64 p0.C] rfl rfl hF rfl rfl fun b1 w1 fr b1lo hb1 hc hF => ?_
  have hC := hC.trans hc
  have z1 := hc.size
  have b1hi := hb1.lt
  refine s_alloc (z := .agg #[.int .i64 0, .int .i64 0, .int .i64 0, .int .i64 0]) [.int .i64 0, .int .i64 0, .int .i64 0, .int .i64 0] rfl rfl hF (by kernel_rfl) rfl fun b2 w2 fr b2lo hb2 hc hF => ?_
  have hC := hC.trans hc
  have hb1 := hb1.ext hc
  have z2 := hc.size
  have b2hi := hb2.lt
  refine from_end rfl (then_normal ?_)
  refine wp_seq (wp_text' ?_)
  refine s_alloc (z := .agg #[.int .i64 0, .int .i64 0, .int .i64 0, .int .i64 0]) [.int .i64 0, .int .i64 0, .int .i64 0, .int .i64 0] rfl rfl hF (by kernel_rfl) rfl fun b3 w3 fr b3lo hb3 hc hF => ?_
  have hC := hC.trans hc
  have hb1 := hb1.ext hc
  have hb2 := hb2.ext hc
  have z3 := hc.size
  have b3hi := hb3.lt
  refine from_end rfl (then_normal ?_)
  refine wp_seq (wp_text' ?_)
  refine from_pure 1 [(1, .pointer (some ⟨b1, 0, none⟩)), (2, .pointer (some ⟨b2, 0, none⟩)), (3, .pointer (some ⟨b3, 0, none⟩)), (4, .pointer (some ⟨b1, 0, none⟩))] hF (by kernel_rfl) fun fr hF => ?_
  refine s_loadBox (.int .i64 p0.Op) ty3 rfl rfl hF rfl hb1 rfl rfl fun fr hF => ?_
  refine from_pure 1 [(1, .pointer (some ⟨b1, 0, none⟩)), (2, .pointer (some ⟨b2, 0, none⟩)), (3, .pointer (some ⟨b3, 0, none⟩)), (5, .int .i64 p0.Op), (6, .pointer (some ⟨b3, 0, none⟩))] hF (by kernel_rfl) fun fr hF => ?_
  refine s_storeBox [.int .i64 p0.Op, .int .i64 0, .int .i64 0, .int .i64 0] rfl hF rfl rfl (by kernel_rfl) hb3 rfl rfl rfl fun w4 hb3 hc hF => ?_
  have hC := hC.trans' hc (fun x hx => .inr (by subst hx; (try dsimp only at *); omega))
  have hb1 := hb1.chg hc (by omega)
  have hb2 := hb2.chg hc (by omega)
  have z4 := hc.size
  refine from_end rfl (then_normal ?_)
  refine wp_seq (wp_text' ?_)
  refine from_pure 1 [(1, .pointer (some ⟨b1, 0, none⟩)), (2, .pointer (some ⟨b2, 0, none⟩)), (3, .pointer (some ⟨b3, 0, none⟩)), (7, .pointer (some ⟨b1, 1, none⟩))] hF (by kernel_rfl) fun fr hF => ?_
  refine s_loadBox (.int .i64 p0.A) ty3 rfl rfl hF rfl hb1 rfl rfl fun fr hF => ?_
  refine from_pure 1 [(1, .pointer (some ⟨b1, 0, none⟩)), (2, .pointer (some ⟨b2, 0, none⟩)), (3, .pointer (some ⟨b3, 0, none⟩)), (8, .int .i64 p0.A), (9, .pointer (some ⟨b3, 1, none⟩))] hF (by kernel_rfl) fun fr hF => ?_
  refine s_storeBox [.int .i64 p0.Op, .int .i64 p0.A, .int .i64 0, .int .i64 0] rfl hF rfl rfl (by kernel_rfl) hb3 rfl rfl rfl fun w5 hb3 hc hF => ?_
  have hC := hC.trans' hc (fun x hx => .inr (by subst hx; (try dsimp only at *); omega))
  have hb1 := hb1.chg hc (by omega)
  have hb2 := hb2.chg hc (by omega)
  have z5 := hc.size
  refine from_end rfl (then_normal ?_)
  refine wp_seq (wp_text' ?_)
  refine from_pure 1 [(1, .pointer (some ⟨b1, 0, none⟩)), (2, .pointer (some ⟨b2, 0, none⟩)), (3, .pointer (some ⟨b3, 0, none⟩)), (10, .pointer (some ⟨b1, 2, none⟩))] hF (by kernel_rfl) fun fr hF => ?_
  refine s_loadBox (.int .i64 p0.B) ty3 rfl rfl hF rfl hb1 rfl rfl fun fr hF => ?_
  refine from_pure 1 [(1, .pointer (some ⟨b1, 0, none⟩)), (2, .pointer (some ⟨b2, 0, none⟩)), (3, .pointer (some ⟨b3, 0, none⟩)), (11, .int .i64 p0.B), (12, .pointer (some ⟨b3, 2, none⟩))] hF (by kernel_rfl) fun fr hF => ?_
  refine s_storeBox [.int .i64 p0.Op, .int .i64 p0.A, .int .i64 p0.B, .int .i64 0] rfl hF rfl rfl (by kernel_rfl) hb3 rfl rfl rfl fun w6 hb3 hc hF => ?_
  have hC := hC.trans' hc (fun x hx => .inr (by subst hx; (try dsimp only at *); omega))
  have hb1 := hb1.chg hc (by omega)
  have hb2 := hb2.chg hc (by omega)
  have z6 := hc.size
  refine from_end rfl (then_normal ?_)
  refine wp_seq (wp_text' ?_)
  refine from_pure 1 [(2, .pointer (some ⟨b2, 0, none⟩)), (3, .pointer (some ⟨b3, 0, none⟩)), (13, .pointer (some ⟨b1, 3, none⟩))] hF (by kernel_rfl) fun fr hF => ?_
  refine s_loadBox (.int .i64 p0.C) ty3 rfl rfl hF rfl hb1 rfl rfl fun fr hF => ?_
  refine from_pure 1 [(2, .pointer (some ⟨b2, 0, none⟩)), (3, .pointer (some ⟨b3, 0, none⟩)), (14, .int .i64 p0.C), (15, .pointer (some ⟨b3, 3, none⟩))] hF (by kernel_rfl) fun fr hF => ?_
  refine s_storeBox [.int .i64 p0.Op, .int .i64 p0.A, .int .i64 p0.B, .int .i64 p0.C] rfl hF rfl rfl (by kernel_rfl) hb3 rfl rfl rfl fun w7 hb3 hc hF => ?_
  have hC := hC.trans' hc (fun x hx => .inr (by subst hx; (try dsimp only at *); omega))
  have hb2 := hb2.chg hc (by omega)
  have z7 := hc.size
  refine from_end rfl (then_normal ?_)
  refine wp_seq (wp_text' ?_)
  refine s_loadBoxS ty85 rfl rfl hF rfl hb3 rfl rfl fun fr hF => ?_
  refine s_storeBoxS [.int .i64 p0.Op, .int .i64 p0.A, .int .i64 p0.B, .int .i64 p0.C] rfl hF rfl rfl (by kernel_rfl) hb2 rfl rfl rfl fun w8 hb2 hc hF => ?_
  have hC := hC.trans' hc (fun x hx => .inr (by subst hx; (try dsimp only at *); omega))
  have z8 := hc.size
  refine from_end rfl (then_normal ?_)
  obtain rfl := Option.some.inj h
  exact wp_ret (retS rfl hF ty85 rfl rfl hb2 rfl ⟨_, rfl, rfl, hC⟩)

theorem laws_toInsS_ok (n : Nat) (p0 : List D.Ins) {r : (List D.Ins)} (h : laws_toInsS n p0 = some r) {w : World} {F0 : Nat → Prop} {va0 : Value} (ra0 : RV w F0 va0 p0) :
    Calls Try.prog 41 [va0].toArray w fun e w' => ∃ v, e = .returned v ∧ ∃ go0 a0 c0, v = .slice a0 (List.length r) c0 ∧ Chg Non w w' ∧ OwnS w' 85 go0 (fun k => w.heap.size ≤ k) Non (.slice a0 (List.length r) c0) r := by
  unfold laws_toInsS at h
  have ra0 := ra0.sub (F' := fun k => k < w.heap.size) (fun k hk _ => hk)
  obtain ⟨a1, c1, rfl, -⟩ := ra0.slice
  have hC : Chg Non w w := Chg.refl _ _
  refine enter (N := 23) Try.func41 rfl Try.ntmps41 rfl fun fr hF => ?_
  refine wp_seq (wp_pure [(0, .slice a1 (List.length p0) c1)] hF (by kernel_rfl) fun fr hF => then_normal ?_)
  refine wp_seq (wp_text' ?_)
  refine from_pure 2 [(0, .slice a1 (List.length p0) c1), (6, .int .i64 (len p0))] hF (by kernel_rfl) fun fr hF => ?_
  obtain ⟨x1, hx1, h⟩ := bindE h
  refine s_make (G := (fun k => w.heap.size ≤ k)) (FF := Non) Try.underlying30 el85 (zero_flat _ (by kernel_rfl)) rfl rfl hF rfl rfl hx1 (fun k hk => by (try dsimp only at *); omega) fun g1 a2 c2 w1 fr g1lo o1 hc hF => ?_
  have hC := hC.trans hc
  have ra0 := ra0.ext hc
  have z1 := hc.size
  refine from_pure 1 [(0, .slice a1 (List.length p0) c1), (3, .slice a2 (List.length x1) c2)] hF (by kernel_rfl) fun fr hF => ?_
  refine from_end rfl (then_normal ?_)
  refine wp_seq ?_
  refine wp_seq (wp_pure [(0, .slice a1 (List.length p0) c1), (3, .slice a2 (List.length x1) c2), (4, .int .i64 0)] hF (by kernel_rfl) fun fr hF => then_normal ?_)
  obtain ⟨rl1, hit1, h⟩ := bindE h
  have hk1 := h
  refine (wp_cut (M := fun fr w' => ∃ go2 a4 c4, FrS 23 [(3, .slice a4 (List.length rl1) c4)] fr ∧ Chg (fun k => (some g1) = some k) w1 w' ∧ OwnS w' 85 go2 (fun k => w.heap.size ≤ k) Non (.slice a4 (List.length rl1) c4) rl1 ∧ (go2 = (some g1) ∨ ∃ g, go2 = some g ∧ w1.heap.size ≤ g)) (wp_block (wp_iter (Inv := fun s1 fr w' => ∃ go1 a3 c3, FrS 23 [(0, .slice a1 (List.length p0) c1), (3, .slice a3 (List.length s1.1) c3), (4, .int .i64 s1.2)] fr ∧ Chg (fun k => (some g1) = some k) w1 w' ∧ OwnS w' 85 go1 (fun k => w.heap.size ≤ k) Non (.slice a3 (List.length s1.1) c3) s1.1 ∧ (go1 = (some g1) ∨ ∃ g, go1 = some g ∧ w1.heap.size ≤ g)) hit1 ⟨(some g1), a2, c2, hF.sub _ (by kernel_rfl), Chg.refl _ _, (o1.regard fun k _ hG => by (try dsimp only at *); omega), .inl rfl⟩ fun s1 q1 fr w1i hI h hr1 => ?_)) fun fr w1o hM => ?_)
  · obtain ⟨go1, a3, c3, hF, hc, o2, hgo1⟩ := hI
    have zLw1i := hc.size
    have hC := hC.trans' hc (fun x hx => .inr (by have hG := o1.inG hx; (try dsimp only at *); omega))
    have ra0 := ra0.chg hc (fun k hk hs => by have hG := o1.inG hs; (try dsimp only at *); omega)
    have hL1 := hc
    refine wp_seq ?_
    refine wp_seq (wp_pure [(0, .slice a1 (List.length p0) c1), (3, .slice a3 (List.length s1.1) c3), (4, .int .i64 s1.2), (11, .bool (decide (s1.2 < (len p0))))] hF (by kernel_rfl) fun fr hF => then_normal ?_)
    refine (wp_if hF (b := (decide (s1.2 < (len p0)))) rfl (fun hb => ?_) (fun hb => ?_))
    · replace h := iteT hb h
      refine (wp_skip (then_normal ?_))
      refine wp_seq (wp_block ?_)
      refine (wp_text' ?_)
      refine from_pure 4 [(0, .slice a1 (List.length p0) c1), (3, .slice a3 (List.length s1.1) c3), (4, .int .i64 s1.2), (14, .slice a3 (List.length s1.1) c3), (15, .int .i64 s1.2), (16, .slice a1 (List.length p0) c1), (17, .int .i64 s1.2)] hF (by kernel_rfl) fun fr hF => ?_
      obtain ⟨x2, hx2, h⟩ := bindE h
      refine s_elemF (z := x2) (.agg #[.int .i64 x2.Op, .int .i64 x2.A, .int .i64 x2.B, .int .i64 x2.C]) ty93 Try.underlying22 rfl rfl rfl rfl rfl hF rfl (ra0) rfl (get?_nn hx2) (get?_at hx2) rfl fun p fr hF => ?_
      obtain ⟨x3, hx3, h⟩ := bindE h
      refine s_call [.agg #[.int .i64 x2.Op, .int .i64 x2.A, .int .i64 x2.B, .int .i64 x2.C]] Try.call69 rfl rfl hF rfl (laws_toIns_ok x2 hx3) fun v w2 fr hR hF => ?_
      obtain ⟨rfl, hc⟩ := hR
      have hC := hC.trans hc
      have ra0 := ra0.ext hc
      have o4 := o2.ext hc
      have z2 := hc.size
      have hL2 := hL1.trans' hc (fun _ hx => False.elim hx)
      obtain ⟨x4, hx4, h⟩ := bindE h
      refine s_setElem (fun _ => False) o4 Try.underlying30 ty85 rfl rfl rfl rfl hF rfl rfl (by simp) rfl (Fr := Non) (RV.mk_flat x3) flat_sub (fun _ _ h => h.elim) hx4 fun a5 c5 w3 fr o5 he hc hF => ?_
      obtain ⟨_, hF⟩ := hF
      rw [he] at hF
      have hC := hC.trans' hc (fun x hx => .inr (by have hG := o4.inG hx; (try dsimp only at *); omega))
      have ra0 := ra0.chg hc (fun k hk hs => by have hG := o4.inG hs; (try dsimp only at *); omega)
      have z3 := hc.size
      have hL3 := hL2.trans' hc (fun x hx => go_chg hgo1 x hx)
      refine from_end rfl ?_
      refine blk_normal (then_normal ?_)
      refine (wp_pure [(0, .slice a1 (List.length p0) c1), (3, .slice a5 (List.length x4) c5), (4, .int .i64 (w64 (s1.2 + 1)))] hF (by kernel_rfl) fun fr hF => then_normal ?_)
      exact ⟨_, (Option.some.inj h).symm, go1, a5, c5, hF.sub _ (by kernel_rfl), hL3, (o5.regard fun k _ hG => by (try dsimp only at *); omega), hgo1⟩
    · replace h := iteF hb h
      refine (wp_exit (then_exit (then_exit (blk_exit_eq ?_))))
      obtain rfl := hr1 _ (Option.some.inj h).symm
      exact then_normal ⟨go1, a3, c3, hF.sub _ (by kernel_rfl), hL1, (o2.regard fun k _ hG => by (try dsimp only at *); omega), hgo1⟩
  · obtain ⟨go2, a4, c4, hF, hc, o3, hgo2⟩ := hM
    have zLw1o := hc.size
    have hC := hC.trans' hc (fun x hx => .inr (by have hG := o1.inG hx; (try dsimp only at *); omega))
    refine wp_seq (wp_pure [(2, .slice a4 (List.length rl1) c4)] hF (by kernel_rfl) fun fr hF => then_normal ?_)
    obtain rfl := Option.some.inj h
    exact wp_ret (ret1 rfl hF rfl ⟨_, rfl, _, _, _, rfl, hC, (o3.regard fun k _ hG => by (try dsimp only at *); omega)⟩)

theorem laws_toProgram_ok (n : Nat) (p0 : D.Program) {r : D.Program} (h : laws_toProgram n p0 = some r) {w : World} {F0 : Nat → Prop} {va0 : Value} (ra0 : RV w F0 va0 p0) :
    Calls Try.prog 11 [va0].toArray w fun e w' => ∃ v, e = .returned v ∧ ∃ u0, v = u0 ∧ Chg Non w w' ∧ RV w' (fun k => w.heap.size ≤ k) u0 r := by
  unfold laws_toProgram at h
  have ra0 := ra0.sub (F' := fun k => k < w.heap.size) (fun k hk _ => hk)
  obtain ⟨v1, rfl, r1⟩ := RV.Program ra0
  obtain ⟨a1, c1, rfl, -⟩ := r1.slice
  have hC : Chg Non w w := Chg.refl _ _
  refine enter (N := 18) Try.func11 rfl Try.ntmps11 rfl fun fr hF => ?_
  refine wp_seq (wp_text' ?_)
  refine s_box [.int .i64 p0.W, .int .i64 p0.Mem, .int .i64 p0.In, .slice a1 (List.length p0.Code) c1] rfl rfl hF rfl rfl fun b1 w1 fr b1lo hb1 hc hF => ?_
  have hC := hC.trans hc
  have r1 := r1.ext hc
  have z1 := hc.size
  have b1hi := hb1.lt
  refine s_alloc (z := .agg #[.int .i64 0, .int .i64 0, .int .i64 0, .slice none (List.length ([] : List D.Ins)) 0]) [.int .i64 0, .int .i64 0, .int .i64 0, .slice none (List.length ([] : List D.Ins)) 0] rfl rfl hF (by kernel_rfl) rfl fun b2 w2 fr b2lo hb2 hc hF => ?_
  have hC := hC.trans hc
  have r1 := r1.ext hc
  have hb1 := hb1.ext hc
  have z2 := hc.size
  have b2hi := hb2.lt
  refine from_end rfl (then_normal ?_)
  refine wp_seq (wp_text' ?_)
  refine s_alloc (z := .agg #[.int .i64 0, .int .i64 0, .int .i64 0, .slice none (List.length ([] : List D.Ins)) 0]) [.int .i64 0, .int .i64 0, .int .i64 0, .slice none (List.length ([] : List D.Ins)) 0] rfl rfl hF (by kernel_rfl) rfl fun b3 w3 fr b3lo hb3 hc hF => ?_
  have hC := hC.trans hc
  have r1 := r1.ext hc
  have hb1 := hb1.ext hc
  have hb2 := hb2.ext hc
  have z3 := hc.size
  have b3hi := hb3.lt
  refine from_end rfl (then_normal ?_)
  refine wp_seq (wp_text' ?_)
  refine from_pure 1 [(1, .pointer (some ⟨b1, 0, none⟩)), (2, .pointer (some ⟨b2, 0, none⟩)), (3, .pointer (some ⟨b3, 0, none⟩)), (4, .pointer (some ⟨b1, 0, none⟩))] hF (by kernel_rfl) fun fr hF => ?_
  refine s_loadBox (.int .i64 p0.W) ty3 rfl rfl hF rfl hb1 rfl rfl fun fr hF => ?_
  refine from_pure 1 [(1, .pointer (some ⟨b1, 0, none⟩)), (2, .pointer (some ⟨b2, 0, none⟩)), (3, .pointer (some ⟨b3, 0, none⟩)), (5, .int .i64 p0.W), (6, .pointer (some ⟨b3, 0, none⟩))] hF (by kernel_rfl) fun fr hF => ?_
  refine s_storeBox [.int .i64 p0.W, .int .i64 0, .int .i64 0, .slice none (List.length ([] : List D.Ins)) 0] rfl hF rfl rfl (by kernel_rfl) hb3 rfl rfl rfl fun w4 hb3 hc hF => ?_
  have hC := hC.trans' hc (fun x hx => .inr (by subst hx; (try dsimp only at *); omega))
  have r1 := r1.chg hc (fun k hk hs => by subst hs; (try dsimp only at *); omega)
  have hb1 := hb1.chg hc (by omega)
  have hb2 := hb2.chg hc (by omega)
  have z4 := hc.size
  refine from_end rfl (then_normal ?_)
  refine wp_seq (wp_text' ?_)
  refine from_pure 1 [(1, .pointer (some ⟨b1, 0, none⟩)), (2, .pointer (some ⟨b2, 0, none⟩)), (3, .pointer (some ⟨b3, 0, none⟩)), (7, .pointer (some ⟨b1, 1, none⟩))] hF (by kernel_rfl) fun fr hF => ?_
  refine s_loadBox (.int .i64 p0.Mem) ty3 rfl rfl hF rfl hb1 rfl rfl fun fr hF => ?_
  refine from_pure 1 [(1, .pointer (some ⟨b1, 0, none⟩)), (2, .pointer (some ⟨b2, 0, none⟩)), (3, .pointer (some ⟨b3, 0, none⟩)), (8, .int .i64 p0.Mem), (9, .pointer (some ⟨b3, 1, none⟩))] hF (by kernel_rfl) fun fr hF => ?_
  refine s_storeBox [.int .i64 p0.W, .int .i64 p0.Mem, .int .i64 0, .slice none (List.length ([] : List D.Ins)) 0] rfl hF rfl rfl (by kernel_rfl) hb3 rfl rfl rfl fun w5 hb3 hc hF => ?_
  have hC := hC.trans' hc (fun x hx => .inr (by subst hx; (try dsimp only at *); omega))
  have r1 := r1.chg hc (fun k hk hs => by subst hs; (try dsimp only at *); omega)
  have hb1 := hb1.chg hc (by omega)
  have hb2 := hb2.chg hc (by omega)
  have z5 := hc.size
  refine from_end rfl (then_normal ?_)
  refine wp_seq (wp_text' ?_)
  refine from_pure 1 [(1, .pointer (some ⟨b1, 0, none⟩)), (2, .pointer (some ⟨b2, 0, none⟩)), (3, .pointer (some ⟨b3, 0, none⟩)), (10, .pointer (some ⟨b1, 2, none⟩))] hF (by kernel_rfl) fun fr hF => ?_
  refine s_loadBox (.int .i64 p0.In) ty3 rfl rfl hF rfl hb1 rfl rfl fun fr hF => ?_
  refine from_pure 1 [(1, .pointer (some ⟨b1, 0, none⟩)), (2, .pointer (some ⟨b2, 0, none⟩)), (3, .pointer (some ⟨b3, 0, none⟩)), (11, .int .i64 p0.In), (12, .pointer (some ⟨b3, 2, none⟩))] hF (by kernel_rfl) fun fr hF => ?_
  refine s_storeBox [.int .i64 p0.W, .int .i64 p0.Mem, .int .i64 p0.In, .slice none (List.length ([] : List D.Ins)) 0] rfl hF rfl rfl (by kernel_rfl) hb3 rfl rfl rfl fun w6 hb3 hc hF => ?_
  have hC := hC.trans' hc (fun x hx => .inr (by subst hx; (try dsimp only at *); omega))
  have r1 := r1.chg hc (fun k hk hs => by subst hs; (try dsimp only at *); omega)
  have hb1 := hb1.chg hc (by omega)
  have hb2 := hb2.chg hc (by omega)
  have z6 := hc.size
  refine from_end rfl (then_normal ?_)
  refine wp_seq (wp_text' ?_)
  refine from_pure 1 [(2, .pointer (some ⟨b2, 0, none⟩)), (3, .pointer (some ⟨b3, 0, none⟩)), (13, .pointer (some ⟨b1, 3, none⟩))] hF (by kernel_rfl) fun fr hF => ?_
  refine s_loadBox (.slice a1 (List.length p0.Code) c1) ty22 rfl rfl hF rfl hb1 rfl rfl fun fr hF => ?_
  obtain ⟨x1, hx1, h⟩ := bindE h
  refine s_call [.slice a1 (List.length p0.Code) c1] Try.call41 rfl rfl hF rfl (laws_toInsS_ok n p0.Code hx1 r1) fun v w7 fr hR hF => ?_
  obtain ⟨go1, a2, c2, rfl, hc, o1⟩ := hR
  have hC := hC.trans hc
  have r1 := r1.ext hc
  have hb2 := hb2.ext hc
  have hb3 := hb3.ext hc
  have z7 := hc.size
  have o2 := o1.regard (G' := (fun k => w.heap.size ≤ k ∧ k ≠ b2 ∧ k ≠ b3)) (fun k hk hG => by (try dsimp only at *); omega)
  refine from_pure 1 [(2, .pointer (some ⟨b2, 0, none⟩)), (3, .pointer (some ⟨b3, 0, none⟩)), (15, .slice a2 (List.length x1) c2), (16, .pointer (some ⟨b3, 3, none⟩))] hF (by kernel_rfl) fun fr hF => ?_
  refine s_storeBox [.int .i64 p0.W, .int .i64 p0.Mem, .int .i64 p0.In, .slice a2 (List.length x1) c2] rfl hF rfl rfl (by kernel_rfl) hb3 rfl rfl rfl fun w8 hb3 hc hF => ?_
  have hC := hC.trans' hc (fun x hx => .inr (by subst hx; (try dsimp only at *); omega))
  have hb2 := hb2.chg hc (by omega)
  have o3 := o2.chg hc (fun k _ hG hs => by subst hs; (try dsimp only at *); omega) (fun _ h => h.elim)
  have z8 := hc.size
  refine from_end rfl (then_normal ?_)
  refine wp_seq (wp_text' ?_)
  refine s_loadBoxS ty32 rfl rfl hF rfl hb3 rfl rfl fun fr hF => ?_
  refine s_storeBoxS [.int .i64 p0.W, .int .i64 p0.Mem, .int .i64 p0.In, .slice a2 (List.length x1) c2] rfl hF rfl rfl (by kernel_rfl) hb2 rfl rfl rfl fun w9 hb2 hc hF => ?_
  have hC := hC.trans' hc (fun x hx => .inr (by subst hx; (try dsimp only at *); omega))
  have o4 := o3.chg hc (fun k _ hG hs => by subst hs; (try dsimp only at *); omega) (fun _ h => h.elim)
  have z9 := hc.size
  refine from_end rfl (then_normal ?_)
  obtain rfl := Option.some.inj h
  exact wp_ret (retS rfl hF ty32 rfl rfl hb2 rfl ⟨_, rfl, _, rfl, hC, (RV.mk_Program (D.Program.mk p0.W p0.Mem p0.In x1) (RV.sub o4.rv fun k hk hf => by simp only [Non, or_false] at *; (try dsimp only at *); omega))⟩)

theorem laws_toIntS_ok (n : Nat) (p0 : List Int) {r : (List Int)} (h : laws_toIntS n p0 = some r) {w : World} {F0 : Nat → Prop} {va0 : Value} (ra0 : RV w F0 va0 p0) :
    Calls Try.prog 37 [va0].toArray w fun e w' => ∃ v, e = .returned v ∧ ∃ go0 a0 c0, v = .slice a0 (List.length r) c0 ∧ Chg Non w w' ∧ OwnS w' 3 go0 (fun k => w.heap.size ≤ k) Non (.slice a0 (List.length r) c0) r := by
  unfold laws_toIntS at h
  have ra0 := ra0.sub (F' := fun k => k < w.heap.size) (fun k hk _ => hk)
  obtain ⟨a1, c1, rfl, -⟩ := ra0.slice
  have hC : Chg Non w w := Chg.refl _ _
  refine enter (N := 22) Try.func37 rfl Try.ntmps37 rfl fun fr hF => ?_
  refine wp_seq (wp_pure [(0, .slice a1 (List.length p0) c1)] hF (by kernel_rfl) fun fr hF => then_normal ?_)
  refine wp_seq (wp_text' ?_)
  refine from_pure 2 [(0, .slice a1 (List.length p0) c1), (6, .int .i64 (len p0))] hF (by kernel_rfl) fun fr hF => ?_
  obtain ⟨x1, hx1, h⟩ := bindE h
  refine s_make (G := (fun k => w.heap.size ≤ k)) (FF := Non) Try.underlying26 el3 (zero_flat _ (by kernel_rfl)) rfl rfl hF rfl rfl hx1 (fun k hk => by (try dsimp only at *); omega) fun g1 a2 c2 w1 fr g1lo o1 hc hF => ?_
  have hC := hC.trans hc
  have ra0 := ra0.ext hc
  have z1 := hc.size
  refine from_pure 1 [(0, .slice a1 (List.length p0) c1), (3, .slice a2 (List.length x1) c2)] hF (by kernel_rfl) fun fr hF => ?_
  refine from_end rfl (then_normal ?_)
  refine wp_seq ?_
  refine wp_seq (wp_pure [(0, .slice a1 (List.length p0) c1), (3, .slice a2 (List.length x1) c2), (4, .int .i64 0)] hF (by kernel_rfl) fun fr hF => then_normal ?_)
  obtain ⟨rl1, hit1, h⟩ := bindE h
  have hk1 := h
  refine (wp_cut (M := fun fr w' => ∃ go2 a4 c4, FrS 22 [(3, .slice a4 (List.length rl1) c4)] fr ∧ Chg (fun k => (some g1) = some k) w1 w' ∧ OwnS w' 3 go2 (fun k => w.heap.size ≤ k) Non (.slice a4 (List.length rl1) c4) rl1 ∧ (go2 = (some g1) ∨ ∃ g, go2 = some g ∧ w1.heap.size ≤ g)) (wp_block (wp_iter (Inv := fun s1 fr w' => ∃ go1 a3 c3, FrS 22 [(0, .slice a1 (List.length p0) c1), (3, .slice a3 (List.length s1.1) c3), (4, .int .i64 s1.2)] fr ∧ Chg (fun k => (some g1) = some k) w1 w' ∧ OwnS w' 3 go1 (fun k => w.heap.size ≤ k) Non (.slice a3 (List.length s1.1) c3) s1.1 ∧ (go1 = (some g1) ∨ ∃ g, go1 = some g ∧ w1.heap.size ≤ g)) hit1 ⟨(some g1), a2, c2, hF.sub _ (by kernel_rfl), Chg.refl _ _, (o1.regard fun k _ hG => by (try dsimp only at *); omega), .inl rfl⟩ fun s1 q1 fr w1i hI h hr1 => ?_)) fun fr w1o hM => ?_)
  · obtain ⟨go1, a3, c3, hF, hc, o2, hgo1⟩ := hI
    have zLw1i := hc.size
    have hC := hC.trans' hc (fun x hx => .inr (by have hG := o1.inG hx; (try dsimp only at *); omega))
    have ra0 := ra0.chg hc (fun k hk hs => by have hG := o1.inG hs; (try dsimp only at *); omega)
    have hL1 := hc
    refine wp_seq ?_
    refine wp_seq (wp_pure [(0, .slice a1 (List.length p0) c1), (3, .slice a3 (List.length s1.1) c3), (4, .int .i64 s1.2), (11, .bool (decide (s1.2 < (len p0))))] hF (by kernel_rfl) fun fr hF => then_normal ?_)
    refine (wp_if hF (b := (decide (s1.2 < (len p0)))) rfl (fun hb => ?_) (fun hb => ?_))
    · replace h := iteT hb h
      refine (wp_skip (then_normal ?_))
      refine wp_seq (wp_block ?_)
      refine (wp_text' ?_)
      refine from_pure 4 [(0, .slice a1 (List.length p0) c1), (3, .slice a3 (List.length s1.1) c3), (4, .int .i64 s1.2), (14, .slice a3 (List.length s1.1) c3), (15, .int .i64 s1.2), (16, .slice a1 (List.length p0) c1), (17, .int .i64 s1.2)] hF (by kernel_rfl) fun fr hF => ?_
      obtain ⟨x2, hx2, h⟩ := bindE h
      refine s_elemF (z := x2) (.int .i64 x2) ty3 Try.underlying26 rfl rfl rfl rfl rfl hF rfl (ra0) rfl (get?_nn hx2) (get?_at hx2) rfl fun p fr hF => ?_
      obtain ⟨x3, hx3, h⟩ := bindE h
      refine s_setElem (fun _ => False) o2 Try.underlying26 ty3 rfl rfl rfl rfl hF rfl rfl (by simp) rfl (Fr := Non) (RV.mk_flat x2) flat_sub (fun _ _ h => h.elim) hx3 fun a5 c5 w2 fr o4 he hc hF => ?_
      obtain ⟨_, hF⟩ := hF
      rw [he] at hF
      have hC := hC.trans' hc (fun x hx => .inr (by have hG := o2.inG hx; (try dsimp only at *); omega))
      have ra0 := ra0.chg hc (fun k hk hs => by have hG := o2.inG hs; (try dsimp only at *); omega)
      have z2 := hc.size
      have hL2 := hL1.trans' hc (fun x hx => go_chg hgo1 x hx)
      refine from_end rfl ?_
      refine blk_normal (then_normal ?_)
      refine (wp_pure [(0, .slice a1 (List.length p0) c1), (3, .slice a5 (List.length x3) c5), (4, .int .i64 (w64 (s1.2 + 1)))] hF (by kernel_rfl) fun fr hF => then_normal ?_)
      exact ⟨_, (Option.some.inj h).symm, go1, a5, c5, hF.sub _ (by kernel_rfl), hL2, (o4.regard fun k _ hG => by (try dsimp only at *); omega), hgo1⟩
    · replace h := iteF hb h
      refine (wp_exit (then_exit (then_exit (blk_exit_eq ?_))))
      obtain rfl := hr1 _ (Option.some.inj h).symm
      exact then_normal ⟨go1, a3, c3, hF.sub _ (by kernel_rfl), hL1, (o2.regard fun k _ hG => by (try dsimp only at *); omega), hgo1⟩
  · obtain ⟨go2, a4, c4, hF, hc, o3, hgo2⟩ := hM
    have zLw1o := hc.size
    have hC := hC.trans' hc (fun x hx => .inr (by have hG := o1.inG hx; (try dsimp only at *); omega))
    refine wp_seq (wp_pure [(2, .slice a4 (List.length rl1) c4)] hF (by kernel_rfl) fun fr hF => then_normal ?_)
    obtain rfl := Option.some.inj h
    exact wp_ret (ret1 rfl hF rfl ⟨_, rfl, _, _, _, rfl, hC, (o3.regard fun k _ hG => by (try dsimp only at *); omega)⟩)

theorem laws_toState_ok (n : Nat) (p0 : D.State) {r : D.State} (h : laws_toState n p0 = some r) {w : World} {F0 : Nat → Prop} {va0 : Value} (ra0 : RV w F0 va0 p0) :
    Calls Try.prog 20 [va0].toArray w fun e w' => ∃ v, e = .returned v ∧ ∃ u0, v = u0 ∧ Chg Non w w' ∧ RV w' (fun k => w.heap.size ≤ k) u0 r := by
  unfold laws_toState at h
  have ra0 := ra0.sub (F' := fun k => k < w.heap.size) (fun k hk _ => hk)
  obtain ⟨v1, v2, v3, v4, rfl, r1, r2, r3, r4⟩ := RV.State ra0
  obtain ⟨a1, c1, rfl, -⟩ := r1.slice
  obtain ⟨a2, c2, rfl, -⟩ := r2.slice
  obtain ⟨a3, c3, rfl, -⟩ := r3.slice
  obtain ⟨a4, c4, rfl, -⟩ := r4.slice
  have hC : Chg Non w w := Chg.refl _ _
  refine enter (N := 33) Try.func20 rfl Try.ntmps20 rfl fun fr hF => ?_
  refine wp_seq (wp_text' ?_)
  refine s_box [.int .i64 p0.Pc, .slice a1 (List.length p0.Regs) c1, .slice a2 (List.length p0.Mem) c2, .slice a3 (List.length p0.Stack) c3, .int .i64 p0.In, .slice a4 (List.length p0.Out) c4, .int .i64 p0.Code, .int .i64 p0.Steps] rfl rfl hF rfl rfl fun b1 w1 fr b1lo hb1 hc hF => ?_
  have hC := hC.trans hc
  have r1 := r1.ext hc
  have r2 := r2.ext hc
  have r3 := r3.ext hc
  have r4 := r4.ext hc
  have z1 := hc.size
  have b1hi := hb1.lt
  refine s_alloc (z := .agg #[.int .i64 0, .slice none (List.length ([] : List Int)) 0, .slice none (List.length ([] : List Int)) 0, .slice none (List.length ([] : List Int)) 0, .int .i64 0, .slice none (List.length ([] : List Int)) 0, .int .i64 0, .int .i64 0]) [.int .i64 0, .slice none (List.length ([] : List Int)) 0, .slice none (List.length ([] : List Int)) 0, .slice none (List.length ([] : List Int)) 0, .int .i64 0, .slice none (List.length ([] : List Int)) 0, .int .i64 0, .int .i64 0] rfl rfl hF (by kernel_rfl) rfl fun b2 w2 fr b2lo hb2 hc hF => ?_
  have hC := hC.trans hc
  have r1 := r1.ext hc
  have r2 := r2.ext hc
  have r3 := r3.ext hc
  have r4 := r4.ext hc
  have hb1 := hb1.ext hc
  have z2 := hc.size
  have b2hi := hb2.lt
  refine from_end rfl (then_normal ?_)
  refine wp_seq (wp_text' ?_)
  refine s_alloc (z := .agg #[.int .i64 0, .slice none (List.length ([] : List Int)) 0, .slice none (List.length ([] : List Int)) 0, .slice none (List.length ([] : List Int)) 0, .int .i64 0, .slice none (List.length ([] : List Int)) 0, .int .i64 0, .int .i64 0]) [.int .i64 0, .slice none (List.length ([] : List Int)) 0, .slice none (List.length ([] : List Int)) 0, .slice none (List.length ([] : List Int)) 0, .int .i64 0, .slice none (List.length ([] : List Int)) 0, .int .i64 0, .int .i64 0] rfl rfl hF (by kernel_rfl) rfl fun b3 w3 fr b3lo hb3 hc hF => ?_
  have hC := hC.trans hc
  have r1 := r1.ext hc
  have r2 := r2.ext hc
  have r3 := r3.ext hc
  have r4 := r4.ext hc
  have hb1 := hb1.ext hc
  have hb2 := hb2.ext hc
  have z3 := hc.size
  have b3hi := hb3.lt
  refine from_end rfl (then_normal ?_)
  refine wp_seq (wp_text' ?_)
  refine from_pure 1 [(1, .pointer (some ⟨b1, 0, none⟩)), (2, .pointer (some ⟨b2, 0, none⟩)), (3, .pointer (some ⟨b3, 0, none⟩)), (4, .pointer (some ⟨b1, 0, none⟩))] hF (by kernel_rfl) fun fr hF => ?_
  refine s_loadBox (.int .i64 p0.Pc) ty3 rfl rfl hF rfl hb1 rfl rfl fun fr hF => ?_
  refine from_pure 1 [(1, .pointer (some ⟨b1, 0, none⟩)), (2, .pointer (some ⟨b2, 0, none⟩)), (3, .pointer (some ⟨b3, 0, none⟩)), (5, .int .i64 p0.Pc), (6, .pointer (some ⟨b3, 0, none⟩))] hF (by kernel_rfl) fun fr hF => ?_
  refine s_storeBox [.int .i64 p0.Pc, .slice none (List.length ([] : List Int)) 0, .slice none (List.length ([] : List Int)) 0, .slice none (List.length ([] : List Int)) 0, .int .i64 0, .slice none (List.length ([] : List Int)) 0, .int .i64 0, .int .i64 0] rfl hF rfl rfl (by kernel_rfl) hb3 rfl rfl rfl fun w4 hb3 hc hF => ?_
  have hC := hC.trans' hc (fun x hx => .inr (by subst hx; (try dsimp only at *); omega))
  have r1 := r1.chg hc (fun k hk hs => by subst hs; (try dsimp only at *); omega)
  have r2 := r2.chg hc (fun k hk hs => by subst hs; (try dsimp only at *); omega)
  have r3 := r3.chg hc (fun k hk hs => by subst hs; (try dsimp only at *); omega)
  have r4 := r4.chg hc (fun k hk hs => by subst hs; (try dsimp only at *); omega)
  have hb1 := hb1.chg hc (by omega)
  have hb2 := hb2.chg hc (by omega)
  have z4 := hc.size
  refine from_end rfl (then_normal ?_)
  refine wp_seq (wp_text' ?_)
  refine from_pure 1 [(1, .pointer (some ⟨b1, 0, none⟩)), (2, .pointer (some ⟨b2, 0, none⟩)), (3, .pointer (some ⟨b3, 0, none⟩)), (7, .pointer (some ⟨b1, 1, none⟩))] hF (by kernel_rfl) fun fr hF => ?_
  refine s_loadBox (.slice a1 (List.length p0.Regs) c1) ty26 rfl rfl hF rfl hb1 rfl rfl fun fr hF => ?_
  obtain ⟨x1, hx1, h⟩ := bindE h
  refine s_call [.slice a1 (List.length p0.Regs) c1] Try.call37 rfl rfl hF rfl (laws_toIntS_ok n p0.Regs hx1 r1) fun v w5 fr hR hF => ?_
  obtain ⟨go1, a5, c5, rfl, hc, o1⟩ := hR
  have hC := hC.trans hc
  have r1 := r1.ext hc
  have r2 := r2.ext hc
  have r3 := r3.ext hc
  have r4 := r4.ext hc
  have hb1 := hb1.ext hc
  have hb2 := hb2.ext hc
  have hb3 := hb3.ext hc
  have z5 := hc.size
  have o2 := o1.regard (G' := (fun k => w.heap.size ≤ k ∧ k ≠ b1 ∧ k ≠ b2 ∧ k ≠ b3)) (fun k hk hG => by (try dsimp only at *); omega)
  refine from_pure 1 [(1, .pointer (some ⟨b1, 0, none⟩)), (2, .pointer (some ⟨b2, 0, none⟩)), (3, .pointer (some ⟨b3, 0, none⟩)), (9, .slice a5 (List.length x1) c5), (10, .pointer (some ⟨b3, 1, none⟩))] hF (by kernel_rfl) fun fr hF => ?_
  refine s_storeBox [.int .i64 p0.Pc, .slice a5 (List.length x1) c5, .slice none (List.length ([] : List Int)) 0, .slice none (List.length ([] : List Int)) 0, .int .i64 0, .slice none (List.length ([] : List Int)) 0, .int .i64 0, .int .i64 0] rfl hF rfl rfl (by kernel_rfl) hb3 rfl rfl rfl fun w6 hb3 hc hF => ?_
  have hC := hC.trans' hc (fun x hx => .inr (by subst hx; (try dsimp only at *); omega))
  have r1 := r1.chg hc (fun k hk hs => by subst hs; (try dsimp only at *); omega)
  have r2 := r2.chg hc (fun k hk hs => by subst hs; (try dsimp only at *); omega)
  have r3 := r3.chg hc (fun k hk hs => by subst hs; (try dsimp only at *); omega)
  have r4 := r4.chg hc (fun k hk hs => by subst hs; (try dsimp only at *); omega)
  have hb1 := hb1.chg hc (by omega)
  have hb2 := hb2.chg hc (by omega)
  have o3 := o2.chg hc (fun k _ hG hs => by subst hs; (try dsimp only at *); omega) (fun _ h => h.elim)
  have z6 := hc.size
  refine from_end rfl (then_normal ?_)
  refine wp_seq (wp_text' ?_)
  refine from_pure 1 [(1, .pointer (some ⟨b1, 0, none⟩)), (2, .pointer (some ⟨b2, 0, none⟩)), (3, .pointer (some ⟨b3, 0, none⟩)), (11, .pointer (some ⟨b1, 2, none⟩))] hF (by kernel_rfl) fun fr hF => ?_
  refine s_loadBox (.slice a2 (List.length p0.Mem) c2) ty26 rfl rfl hF rfl hb1 rfl rfl fun fr hF => ?_
  obtain ⟨x2, hx2, h⟩ := bindE h
  refine s_call [.slice a2 (List.length p0.Mem) c2] Try.call37 rfl rfl hF rfl (laws_toIntS_ok n p0.Mem hx2 r2) fun v w7 fr hR hF => ?_
  obtain ⟨go2, a6, c6, rfl, hc, o4⟩ := hR
  have o5 := o3.regard (G' := (fun k => w.heap.size ≤ k ∧ k ≠ b1 ∧ k ≠ b2 ∧ k ≠ b3 ∧ ¬ (w6.heap.size ≤ k ∧ k < w7.heap.size))) (fun k hk hG => by (try dsimp only at *); omega)
  have hC := hC.trans hc
  have r2 := r2.ext hc
  have r1 := r1.ext hc
  have r3 := r3.ext hc
  have r4 := r4.ext hc
  have hb1 := hb1.ext hc
  have hb2 := hb2.ext hc
  have hb3 := hb3.ext hc
  have o6 := o5.ext hc
  have z7 := hc.size
  have o7 := o4.regard (G' := (fun k => w.heap.size ≤ k ∧ k ≠ b1 ∧ k ≠ b2 ∧ k ≠ b3)) (fun k hk hG => by (try dsimp only at *); omega)
  refine from_pure 1 [(1, .pointer (some ⟨b1, 0, none⟩)), (2, .pointer (some ⟨b2, 0, none⟩)), (3, .pointer (some ⟨b3, 0, none⟩)), (13, .slice a6 (List.length x2) c6), (14, .pointer (some ⟨b3, 2, none⟩))] hF (by kernel_rfl) fun fr hF => ?_
  refine s_storeBox [.int .i64 p0.Pc, .slice a5 (List.length x1) c5, .slice a6 (List.length x2) c6, .slice none (List.length ([] : List Int)) 0, .int .i64 0, .slice none (List.length ([] : List Int)) 0, .int .i64 0, .int .i64 0] rfl hF rfl rfl (by kernel_rfl) hb3 rfl rfl rfl fun w8 hb3 hc hF => ?_
  have hC := hC.trans' hc (fun x hx => .inr (by subst hx; (try dsimp only at *); omega))
  have r1 := r1.chg hc (fun k hk hs => by subst hs; (try dsimp only at *); omega)
  have r2 := r2.chg hc (fun k hk hs => by subst hs; (try dsimp only at *); omega)
  have r3 := r3.chg hc (fun k hk hs => by subst hs; (try dsimp only at *); omega)
  have r4 := r4.chg hc (fun k hk hs => by subst hs; (try dsimp only at *); omega)
  have hb1 := hb1.chg hc (by omega)
  have hb2 := hb2.chg hc (by omega)
  have o8 := o6.chg hc (fun k _ hG hs => by subst hs; (try dsimp only at *); omega) (fun _ h => h.elim)
  have o9 := o7.chg hc (fun k _ hG hs => by subst hs; (try dsimp only at *); omega) (fun _ h => h.elim)
  have z8 := hc.size
  refine from_end rfl (then_normal ?_)
  refine wp_seq (wp_text' ?_)
  refine from_pure 1 [(1, .pointer (some ⟨b1, 0, none⟩)), (2, .pointer (some ⟨b2, 0, none⟩)), (3, .pointer (some ⟨b3, 0, none⟩)), (15, .pointer (some ⟨b1, 3, none⟩))] hF (by kernel_rfl) fun fr hF => ?_
  refine s_loadBox (.slice a3 (List.length p0.Stack) c3) ty26 rfl rfl hF rfl hb1 rfl rfl fun fr hF => ?_
  obtain ⟨x3, hx3, h⟩ := bindE h
  refine s_call [.slice a3 (List.length p0.Stack) c3] Try.call37 rfl rfl hF rfl (laws_toIntS_ok n p0.Stack hx3 r3) fun v w9 fr hR hF => ?_
  obtain ⟨go3, a7, c7, rfl, hc, o10⟩ := hR
  have o11 := o8.regard (G' := (fun k => w.heap.size ≤ k ∧ k ≠ b1 ∧ k ≠ b2 ∧ k ≠ b3 ∧ ¬ (w6.heap.size ≤ k ∧ k < w7.heap.size) ∧ ¬ (w8.heap.size ≤ k ∧ k < w9.heap.size))) (fun k hk hG => by (try dsimp only at *); omega)
  have o12 := o9.regard (G' := (fun k => w.heap.size ≤ k ∧ k ≠ b1 ∧ k ≠ b2 ∧ k ≠ b3 ∧ ¬ (w8.heap.size ≤ k ∧ k < w9.heap.size))) (fun k hk hG => by (try dsimp only at *); omega)
  have hC := hC.trans hc
  have r3 := r3.ext hc
  have r1 := r1.ext hc
  have r2 := r2.ext hc
  have r4 := r4.ext hc
  have hb1 := hb1.ext hc
  have hb2 := hb2.ext hc
  have hb3 := hb3.ext hc
  have o13 := o11.ext hc
  have o14 := o12.ext hc
  have z9 := hc.size
  have o15 := o10.regard (G' := (fun k => w.heap.size ≤ k ∧ k ≠ b1 ∧ k ≠ b2 ∧ k ≠ b3)) (fun k hk hG => by (try dsimp only at *); omega)
  refine from_pure 1 [(1, .pointer (some ⟨b1, 0, none⟩)), (2, .pointer (some ⟨b2, 0, none⟩)), (3, .pointer (some ⟨b3, 0, none⟩)), (17, .slice a7 (List.length x3) c7), (18, .pointer (some ⟨b3, 3, none⟩))] hF (by kernel_rfl) fun fr hF => ?_
  refine s_storeBox [.int .i64 p0.Pc, .slice a5 (List.length x1) c5, .slice a6 (List.length x2) c6, .slice a7 (List.length x3) c7, .int .i64 0, .slice none (List.length ([] : List Int)) 0, .int .i64 0, .int .i64 0] rfl hF rfl rfl (by kernel_rfl) hb3 rfl rfl rfl fun w10 hb3 hc hF => ?_
  have hC := hC.trans' hc (fun x hx => .inr (by subst hx; (try dsimp only at *); omega))
  have r1 := r1.chg hc (fun k hk hs => by subst hs; (try dsimp only at *); omega)
  have r2 := r2.chg hc (fun k hk hs => by subst hs; (try dsimp only at *); omega)
  have r3 := r3.chg hc (fun k hk hs => by subst hs; (try dsimp only at *); omega)
  have r4 := r4.chg hc (fun k hk hs => by subst hs; (try dsimp only at *); omega)
  have hb1 := hb1.chg hc (by omega)
  have hb2 := hb2.chg hc (by omega)
  have o16 := o13.chg hc (fun k _ hG hs => by subst hs; (try dsimp only at *); omega) (fun _ h => h.elim)
  have o17 := o14.chg hc (fun k _ hG hs => by subst hs; (try dsimp only at *); omega) (fun _ h => h.elim)
  have o18 := o15.chg hc (fun k _ hG hs => by subst hs; (try dsimp only at *); omega) (fun _ h => h.elim)
  have z10 := hc.size
  refine from_end rfl (then_normal ?_)
  refine wp_seq (wp_text' ?_)
  refine from_pure 1 [(1, .pointer (some ⟨b1, 0, none⟩)), (2, .pointer (some ⟨b2, 0, none⟩)), (3, .pointer (some ⟨b3, 0, none⟩)), (19, .pointer (some ⟨b1, 4, none⟩))] hF (by kernel_rfl) fun fr hF => ?_
  refine s_loadBox (.int .i64 p0.In) ty3 rfl rfl hF rfl hb1 rfl rfl fun fr hF => ?_
  refine from_pure 1 [(1, .pointer (some ⟨b1, 0, none⟩)), (2, .pointer (some ⟨b2, 0, none⟩)), (3, .pointer (some ⟨b3, 0, none⟩)), (20, .int .i64 p0.In), (21, .pointer (some ⟨b3, 4, none⟩))] hF (by kernel_rfl) fun fr hF => ?_
  refine s_storeBox [.int .i64 p0.Pc, .slice a5 (List.length x1) c5, .slice a6 (List.length x2) c6, .slice a7 (List.length x3) c7, .int .i64 p0.In, .slice none (List.length ([] : List Int)) 0, .int .i64 0, .int .i64 0] rfl hF rfl rfl (by kernel_rfl) hb3 rfl rfl rfl fun w11 hb3 hc hF => ?_
  have hC := hC.trans' hc (fun x hx => .inr (by subst hx; (try dsimp only at *); omega))
  have r1 := r1.chg hc (fun k hk hs => by subst hs; (try dsimp only at *); omega)
  have r2 := r2.chg hc (fun k hk hs => by subst hs; (try dsimp only at *); omega)
  have r3 := r3.chg hc (fun k hk hs => by subst hs; (try dsimp only at *); omega)
  have r4 := r4.chg hc (fun k hk hs => by subst hs; (try dsimp only at *); omega)
  have hb1 := hb1.chg hc (by omega)
  have hb2 := hb2.chg hc (by omega)
  have o19 := o16.chg hc (fun k _ hG hs => by subst hs; (try dsimp only at *); omega) (fun _ h => h.elim)
  have o20 := o17.chg hc (fun k _ hG hs => by subst hs; (try dsimp only at *); omega) (fun _ h => h.elim)
  have o21 := o18.chg hc (fun k _ hG hs => by subst hs; (try dsimp only at *); omega) (fun _ h => h.elim)
  have z11 := hc.size
  refine from_end rfl (then_normal ?_)
  refine wp_seq (wp_text' ?_)
  refine from_pure 1 [(1, .pointer (some ⟨b1, 0, none⟩)), (2, .pointer (some ⟨b2, 0, none⟩)), (3, .pointer (some ⟨b3, 0, none⟩)), (22, .pointer (some ⟨b1, 5, none⟩))] hF (by kernel_rfl) fun fr hF => ?_
  refine s_loadBox (.slice a4 (List.length p0.Out) c4) ty26 rfl rfl hF rfl hb1 rfl rfl fun fr hF => ?_
  obtain ⟨x4, hx4, h⟩ := bindE h
  refine s_call [.slice a4 (List.length p0.Out) c4] Try.call37 rfl rfl hF rfl (laws_toIntS_ok n p0.Out hx4 r4) fun v w12 fr hR hF => ?_
  obtain ⟨go4, a8, c8, rfl, hc, o22⟩ := hR
  have o23 := o19.regard (G' := (fun k => w.heap.size ≤ k ∧ k ≠ b1 ∧ k ≠ b2 ∧ k ≠ b3 ∧ ¬ (w6.heap.size ≤ k ∧ k < w7.heap.size) ∧ ¬ (w8.heap.size ≤ k ∧ k < w9.heap.size) ∧ ¬ (w11.heap.size ≤ k ∧ k < w12.heap.size))) (fun k hk hG => by (try dsimp only at *); omega)
  have o24 := o20.regard (G' := (fun k => w.heap.size ≤ k ∧ k ≠ b1 ∧ k ≠ b2 ∧ k ≠ b3 ∧ ¬ (w8.heap.size ≤ k ∧ k < w9.heap.size) ∧ ¬ (w11.heap.size ≤ k ∧ k < w12.heap.size))) (fun k hk hG => by (try dsimp only at *); omega)
  have o25 := o21.regard (G' := (fun k => w.heap.size ≤ k ∧ k ≠ b1 ∧ k ≠ b2 ∧ k ≠ b3 ∧ ¬ (w11.heap.size ≤ k ∧ k < w12.heap.size))) (fun k hk hG => by (try dsimp only at *); omega)
  have hC := hC.trans hc
  have r4 := r4.ext hc
  have r1 := r1.ext hc
  have r2 := r2.ext hc
  have r3 := r3.ext hc
  have hb1 := hb1.ext hc
  have hb2 := hb2.ext hc
  have hb3 := hb3.ext hc
  have o26 := o23.ext hc
  have o27 := o24.ext hc
  have o28 := o25.ext hc
  have z12 := hc.size
  have o29 := o22.regard (G' := (fun k => w.heap.size ≤ k ∧ k ≠ b1 ∧ k ≠ b2 ∧ k ≠ b3)) (fun k hk hG => by (try dsimp only at *); omega)
  refine from_pure 1 [(1, .pointer (some ⟨b1, 0, none⟩)), (2, .pointer (some ⟨b2, 0, none⟩)), (3, .pointer (some ⟨b3, 0, none⟩)), (24, .slice a8 (List.length x4) c8), (25, .pointer (some ⟨b3, 5, none⟩))] hF (by kernel_rfl) fun fr hF => ?_
  refine s_storeBox [.int .i64 p0.Pc, .slice a5 (List.length x1) c5, .slice a6 (List.length x2) c6, .slice a7 (List.length x3) c7, .int .i64 p0.In, .slice a8 (List.length x4) c8, .int .i64 0, .int .i64 0] rfl hF rfl rfl (by kernel_rfl) hb3 rfl rfl rfl fun w13 hb3 hc hF => ?_
  have hC := hC.trans' hc (fun x hx => .inr (by subst hx; (try dsimp only at *); omega))
  have r1 := r1.chg hc (fun k hk hs => by subst hs; (try dsimp only at *); omega)
  have r2 := r2.chg hc (fun k hk hs => by subst hs; (try dsimp only at *); omega)
  have r3 := r3.chg hc (fun k hk hs => by subst hs; (try dsimp only at *); omega)
  have r4 := r4.chg hc (fun k hk hs => by subst hs; (try dsimp only at *); omega)
  have hb1 := hb1.chg hc (by omega)
  have hb2 := hb2.chg hc (by omega)
  have o30 := o26.chg hc (fun k _ hG hs => by subst hs; (try dsimp only at *); omega) (fun _ h => h.elim)
  have o31 := o27.chg hc (fun k _ hG hs => by subst hs; (try dsimp only at *); omega) (fun _ h => h.elim)
  have o32 := o28.chg hc (fun k _ hG hs => by subst hs; (try dsimp only at *); omega) (fun _ h => h.elim)
  have o33 := o29.chg hc (fun k _ hG hs => by subst hs; (try dsimp only at *); omega) (fun _ h => h.elim)
  have z13 := hc.size
  refine from_end rfl (then_normal ?_)
  refine wp_seq (wp_text' ?_)
  refine from_pure 1 [(1, .pointer (some ⟨b1, 0, none⟩)), (2, .pointer (some ⟨b2, 0, none⟩)), (3, .pointer (some ⟨b3, 0, none⟩)), (26, .pointer (some ⟨b1, 6, none⟩))] hF (by kernel_rfl) fun fr hF => ?_
  refine s_loadBox (.int .i64 p0.Code) ty3 rfl rfl hF rfl hb1 rfl rfl fun fr hF => ?_
  refine from_pure 1 [(1, .pointer (some ⟨b1, 0, none⟩)), (2, .pointer (some ⟨b2, 0, none⟩)), (3, .pointer (some ⟨b3, 0, none⟩)), (27, .int .i64 p0.Code), (28, .pointer (some ⟨b3, 6, none⟩))] hF (by kernel_rfl) fun fr hF => ?_
  refine s_storeBox [.int .i64 p0.Pc, .slice a5 (List.length x1) c5, .slice a6 (List.length x2) c6, .slice a7 (List.length x3) c7, .int .i64 p0.In, .slice a8 (List.length x4) c8, .int .i64 p0.Code, .int .i64 0] rfl hF rfl rfl (by kernel_rfl) hb3 rfl rfl rfl fun w14 hb3 hc hF => ?_
  have hC := hC.trans' hc (fun x hx => .inr (by subst hx; (try dsimp only at *); omega))
  have r1 := r1.chg hc (fun k hk hs => by subst hs; (try dsimp only at *); omega)
  have r2 := r2.chg hc (fun k hk hs => by subst hs; (try dsimp only at *); omega)
  have r3 := r3.chg hc (fun k hk hs => by subst hs; (try dsimp only at *); omega)
  have r4 := r4.chg hc (fun k hk hs => by subst hs; (try dsimp only at *); omega)
  have hb1 := hb1.chg hc (by omega)
  have hb2 := hb2.chg hc (by omega)
  have o34 := o30.chg hc (fun k _ hG hs => by subst hs; (try dsimp only at *); omega) (fun _ h => h.elim)
  have o35 := o31.chg hc (fun k _ hG hs => by subst hs; (try dsimp only at *); omega) (fun _ h => h.elim)
  have o36 := o32.chg hc (fun k _ hG hs => by subst hs; (try dsimp only at *); omega) (fun _ h => h.elim)
  have o37 := o33.chg hc (fun k _ hG hs => by subst hs; (try dsimp only at *); omega) (fun _ h => h.elim)
  have z14 := hc.size
  refine from_end rfl (then_normal ?_)
  refine wp_seq (wp_text' ?_)
  refine from_pure 1 [(2, .pointer (some ⟨b2, 0, none⟩)), (3, .pointer (some ⟨b3, 0, none⟩)), (29, .pointer (some ⟨b1, 7, none⟩))] hF (by kernel_rfl) fun fr hF => ?_
  refine s_loadBox (.int .i64 p0.Steps) ty3 rfl rfl hF rfl hb1 rfl rfl fun fr hF => ?_
  refine from_pure 1 [(2, .pointer (some ⟨b2, 0, none⟩)), (3, .pointer (some ⟨b3, 0, none⟩)), (30, .int .i64 p0.Steps), (31, .pointer (some ⟨b3, 7, none⟩))] hF (by kernel_rfl) fun fr hF => ?_
  refine s_storeBox [.int .i64 p0.Pc, .slice a5 (List.length x1) c5, .slice a6 (List.length x2) c6, .slice a7 (List.length x3) c7, .int .i64 p0.In, .slice a8 (List.length x4) c8, .int .i64 p0.Code, .int .i64 p0.Steps] rfl hF rfl rfl (by kernel_rfl) hb3 rfl rfl rfl fun w15 hb3 hc hF => ?_
  have hC := hC.trans' hc (fun x hx => .inr (by subst hx; (try dsimp only at *); omega))
  have hb2 := hb2.chg hc (by omega)
  have o38 := o34.chg hc (fun k _ hG hs => by subst hs; (try dsimp only at *); omega) (fun _ h => h.elim)
  have o39 := o35.chg hc (fun k _ hG hs => by subst hs; (try dsimp only at *); omega) (fun _ h => h.elim)
  have o40 := o36.chg hc (fun k _ hG hs => by subst hs; (try dsimp only at *); omega) (fun _ h => h.elim)
  have o41 := o37.chg hc (fun k _ hG hs => by subst hs; (try dsimp only at *); omega) (fun _ h => h.elim)
  have z15 := hc.size
  refine from_end rfl (then_normal ?_)
  refine wp_seq (wp_text' ?_)
  refine s_loadBoxS ty28 rfl rfl hF rfl hb3 rfl rfl fun fr hF => ?_
  refine s_storeBoxS [.int .i64 p0.Pc, .slice a5 (List.length x1) c5, .slice a6 (List.length x2) c6, .slice a7 (List.length x3) c7, .int .i64 p0.In, .slice a8 (List.length x4) c8, .int .i64 p0.Code, .int .i64 p0.Steps] rfl hF rfl rfl (by kernel_rfl) hb2 rfl rfl rfl fun w16 hb2 hc hF => ?_
  have hC := hC.trans' hc (fun x hx => .inr (by subst hx; (try dsimp only at *); omega))
  have o42 := o38.chg hc (fun k _ hG hs => by subst hs; (try dsimp only at *); omega) (fun _ h => h.elim)
  have o43 := o39.chg hc (fun k _ hG hs => by subst hs; (try dsimp only at *); omega) (fun _ h => h.elim)
  have o44 := o40.chg hc (fun k _ hG hs => by subst hs; (try dsimp only at *); omega) (fun _ h => h.elim)
  have o45 := o41.chg hc (fun k _ hG hs => by subst hs; (try dsimp only at *); omega) (fun _ h => h.elim)
  have z16 := hc.size
  refine from_end rfl (then_normal ?_)
  obtain rfl := Option.some.inj h
  exact wp_ret (retS rfl hF ty28 rfl rfl hb2 rfl ⟨_, rfl, _, rfl, hC, (RV.mk_State (D.State.mk p0.Pc x1 x2 x3 p0.In x4 p0.Code p0.Steps) (RV.sub o42.rv fun k hk hf => by simp only [Non, or_false] at *; (try dsimp only at *); omega) (RV.sub o43.rv fun k hk hf => by simp only [Non, or_false] at *; (try dsimp only at *); omega) (RV.sub o44.rv fun k hk hf => by simp only [Non, or_false] at *; (try dsimp only at *); omega) (RV.sub o45.rv fun k hk hf => by simp only [Non, or_false] at *; (try dsimp only at *); omega))⟩)

theorem spec_l01In_ok (p0 : Int) (p1 : Int) (p2 : Int) {r : Bool} (h : spec_l01In p0 p1 p2 = some r) {w : World} :
    Calls Try.prog 46 [.int .i64 p0, .int .i64 p1, .int .i64 p2].toArray w fun e w' => ∃ v, e = .returned v ∧ v = .bool r ∧ Chg Non w w' := by
  unfold spec_l01In at h
  have hC : Chg Non w w := Chg.refl _ _
  refine enter (N := 15) Try.func46 rfl Try.ntmps46 rfl fun fr hF => ?_
  refine wp_seq (wp_pure [(0, .int .i64 p0), (1, .int .i64 p1), (2, .int .i64 p2)] hF (by kernel_rfl) fun fr hF => then_normal ?_)
  refine wp_seq (region_b [] [true, true, true, true, true, true, true, true, true]
      [.eq (.int .i64 p0), .eq (.int .i64 p1), .eq (.bool (decide (p0 ≥ p1))), .eq (.bool (decide (p0 ≥ p1))), .eq (.int .i64 p0), .eq (.int .i64 p2), .eq (.bool (decide (p0 ≤ p2))), .eq (.bool ((decide (p0 ≥ p1)) && (decide (p0 ≤ p2)))), .eq (.bool ((decide (p0 ≥ p1)) && (decide (p0 ≤ p2))))]
      [(6, .bool ((decide (p0 ≥ p1)) && (decide (p0 ≤ p2))))] mix hF (by kernel_rfl) (by kernel_rfl) (by kernel_rfl) trivial (fun hG => trivial) (by kernel_rfl) fun fr w1 hF hE hc => then_normal ?_)
  have hC := hC.trans hc
  have z1 := hc.size
  obtain rfl := Option.some.inj h
  exact wp_ret (ret1 rfl hF rfl ⟨_, rfl, rfl, hC⟩)

theorem spec_WordOk_ok (p0 : Int) (p1 : Int) {r : Bool} (h : spec_WordOk p0 p1 = some r) {w : World} :
    Calls Try.prog 67 [.int .i64 p0, .int .i64 p1].toArray w fun e w' => ∃ v, e = .returned v ∧ v = .bool r ∧ Chg Non w w' := by
  unfold spec_WordOk at h
  have hC : Chg Non w w := Chg.refl _ _
  refine enter (N := 14) Try.func67 rfl Try.ntmps67 rfl fun fr hF => ?_
  refine wp_seq (wp_pure [(0, .int .i64 p0), (1, .int .i64 p1)] hF (by kernel_rfl) fun fr hF => then_normal ?_)
  obtain ⟨x1, hx1, h⟩ := bindE h
  obtain ⟨x2, hx2, h⟩ := bindE h
  obtain ⟨x3, hx3, h⟩ := bindE h
  refine wp_seq (region_b [] [true, false, true, true, true, false, true, false, true, true]
      [.eq (.int .i64 p0), .eq (.bool x1), .eq (.bool x1), .eq (.int .i64 p1), .eq (.int .i64 p0), .eq (.int .i64 x2), .eq (.int .i64 (w64 (x2 - 1))), .eq (.bool x3), .eq (.bool (x1 && x3)), .eq (.bool (x1 && x3))]
      [(4, .bool (x1 && x3))] mix hF (by kernel_rfl) (by kernel_rfl) (by kernel_rfl) ⟨Pd.mono_eq, Pd.mono_eq, Pd.mono_eq, trivial⟩ (fun hG => ⟨np_call [.int .i64 p0, .int .i64 1, .int .i64 16] hG hF Try.call46 rfl rfl (fun w hC hg => (spec_l01In_ok p0 1 16 hx1).mono fun e w' ⟨v, he, hv, hc⟩ => ⟨v, he, hc, hv⟩), np_shl hG hF rfl rfl rfl (fun hg => (iteT hg.2 hx2)) rfl, np_call [.int .i64 p1, .int .i64 0, .int .i64 (w64 (x2 - 1))] hG hF Try.call46 rfl rfl (fun w hC hg => (spec_l01In_ok p1 0 (w64 (x2 - 1)) (iteT hg.2 hx3)).mono fun e w' ⟨v, he, hv, hc⟩ => ⟨v, he, hc, hv⟩), trivial⟩) (by kernel_rfl) fun fr w1 hF hE hc => then_normal ?_)
  have hC := hC.trans hc
  have z1 := hc.size
  obtain rfl := Option.some.inj h
  exact wp_ret (ret1 rfl hF rfl ⟨_, rfl, rfl, hC⟩)

theorem spec_l05Reg_ok (p0 : Int) {r : Bool} (h : spec_l05Reg p0 = some r) {w : World} :
    Calls Try.prog 88 [.int .i64 p0].toArray w fun e w' => ∃ v, e = .returned v ∧ v = .bool r ∧ Chg Non w w' := by
  unfold spec_l05Reg at h
  have hC : Chg Non w w := Chg.refl _ _
  refine enter (N := 5) Try.func88 rfl Try.ntmps88 rfl fun fr hF => ?_
  refine wp_seq (wp_pure [(0, .int .i64 p0)] hF (by kernel_rfl) fun fr hF => then_normal ?_)
  refine wp_seq (wp_text' ?_)
  refine from_pure 1 [(3, .int .i64 p0)] hF (by kernel_rfl) fun fr hF => ?_
  obtain ⟨x1, hx1, h⟩ := bindE h
  refine s_call [.int .i64 p0, .int .i64 0, .int .i64 3] Try.call46 rfl rfl hF rfl (spec_l01In_ok p0 0 3 hx1) fun v w1 fr hR hF => ?_
  obtain ⟨rfl, hc⟩ := hR
  have hC := hC.trans hc
  have z1 := hc.size
  refine from_pure 1 [(2, .bool x1)] hF (by kernel_rfl) fun fr hF => ?_
  refine from_end rfl (then_normal ?_)
  obtain rfl := Option.some.inj h
  exact wp_ret (ret1 rfl hF rfl ⟨_, rfl, rfl, hC⟩)
end Go.Proofs.Ytghbeebinbmpkaa
