/- Printed by gen2.py: the walks. -/
import Derived.Test.YtfccdlggophhoaaGLt
import Derived.Test.YtfccdlggophhoaaDefs
import Derived.Test.YtfccdlggophhoaaProg
import Derived.KernelRfl
set_option linter.unusedVariables false
set_option maxRecDepth 100000
namespace Go.Proofs.Ytfccdlggophhoaa
open Go.GL
theorem mix : Try.prog.follows .mixedOrders = true := by kernel_rfl
theorem ty3 : Ty Try.prog 3 Int := ⟨by kernel_rfl, by kernel_rfl⟩
theorem ty24 : Ty Try.prog 24 (List Int) := ⟨by kernel_rfl, by kernel_rfl⟩
theorem ty26 : Ty Try.prog 26 D.State := ⟨by kernel_rfl, by kernel_rfl⟩
theorem ty29 : Ty Try.prog 29 D.State := ⟨by kernel_rfl, by kernel_rfl⟩
theorem ty43 : Ty Try.prog 43 (List D.Ins) := ⟨by kernel_rfl, by kernel_rfl⟩
theorem ty45 : Ty Try.prog 45 D.Program := ⟨by kernel_rfl, by kernel_rfl⟩
theorem ty48 : Ty Try.prog 48 (List D.Ins) := ⟨by kernel_rfl, by kernel_rfl⟩
theorem ty50 : Ty Try.prog 50 D.Program := ⟨by kernel_rfl, by kernel_rfl⟩
theorem ty78 : Ty Try.prog 78 D.Ins := ⟨by kernel_rfl, by kernel_rfl⟩
theorem ty90 : Ty Try.prog 90 D.Ins := ⟨by kernel_rfl, by kernel_rfl⟩
theorem el3 : ElT Try.prog 3 Int := elT (by kernel_rfl)
theorem el78 : ElT Try.prog 78 D.Ins := elT (by kernel_rfl)

theorem laws_szIntS_ok (p0 : List Int) (p1 : Int) {r : Int} (h : laws_szIntS p0 p1 = some r) {w : World} {F0 : Nat → Prop} {va0 : Value} (ra0 : RV w F0 va0 p0) :
    Calls Try.prog 38 [va0, .int .i64 p1].toArray w fun e w' => ∃ v, e = .returned v ∧ v = .int .i64 r ∧ Chg Non w w' := by
  unfold laws_szIntS at h
  have ra0 := ra0.sub (F' := fun k => k < w.heap.size) (fun k hk _ => hk)
  obtain ⟨a1, c1, rfl, -⟩ := ra0.slice
  have hC : Chg Non w w := Chg.refl _ _
  refine enter (N := 12) Try.func38 rfl Try.ntmps38 rfl fun fr hF => ?_
  refine wp_seq (wp_pure [(0, .slice a1 (List.length p0) c1), (1, .int .i64 p1)] hF (by kernel_rfl) fun fr hF => then_normal ?_)
  refine wp_seq (wp_pure [(1, .int .i64 (w64 (p1 - (len p0))))] hF (by kernel_rfl) fun fr hF => then_normal ?_)
  refine wp_seq ?_
  refine wp_seq (wp_pure [(1, .int .i64 (w64 (p1 - (len p0)))), (10, .bool (decide ((w64 (p1 - (len p0))) < 0)))] hF (by kernel_rfl) fun fr hF => then_normal ?_)
  refine (wp_if hF (b := (decide ((w64 (p1 - (len p0))) < 0))) rfl (fun hb => ?_) (fun hb => ?_))
  · replace h := iteT hb h
    refine wp_seq (wp_pure [(4, .int .i64 (-1))] hF (by kernel_rfl) fun fr hF => then_normal ?_)
    obtain rfl := Option.some.inj h
    exact wp_ret (then_ret (ret1 rfl hF rfl ⟨_, rfl, rfl, hC⟩))
  · replace h := iteF hb h
    refine (wp_skip (then_normal ?_))
    refine wp_seq (wp_pure [(4, .int .i64 (w64 (p1 - (len p0))))] hF (by kernel_rfl) fun fr hF => then_normal ?_)
    obtain rfl := Option.some.inj h
    exact wp_ret (ret1 rfl hF rfl ⟨_, rfl, rfl, hC⟩)

theorem laws_szState_ok (p0 : D.State) (p1 : Int) {r : Int} (h : laws_szState p0 p1 = some r) {w : World} {F0 : Nat → Prop} {va0 : Value} (ra0 : RV w F0 va0 p0) :
    Calls Try.prog 11 [va0, .int .i64 p1].toArray w fun e w' => ∃ v, e = .returned v ∧ v = .int .i64 r ∧ Chg Non w w' := by
  unfold laws_szState at h
  have ra0 := ra0.sub (F' := fun k => k < w.heap.size) (fun k hk _ => hk)
  obtain ⟨v1, v2, v3, v4, rfl, r1, r2, r3, r4⟩ := RV.State ra0
  obtain ⟨a1, c1, rfl, -⟩ := r1.slice
  obtain ⟨a2, c2, rfl, -⟩ := r2.slice
  obtain ⟨a3, c3, rfl, -⟩ := r3.slice
  obtain ⟨a4, c4, rfl, -⟩ := r4.slice
  have hC : Chg Non w w := Chg.refl _ _
  refine enter (N := 30) Try.func11 rfl Try.ntmps11 rfl fun fr hF => ?_
  refine wp_seq (wp_text' ?_)
  refine s_box [.int .i64 p0.Pc, .slice a1 (List.length p0.Regs) c1, .slice a2 (List.length p0.Mem) c2, .slice a3 (List.length p0.Stack) c3, .int .i64 p0.In, .slice a4 (List.length p0.Out) c4, .int .i64 p0.Code, .int .i64 p0.Steps] rfl rfl hF rfl rfl fun b1 w1 fr b1lo hb1 hc hF => ?_
  have hC := hC.trans hc
  have r1 := r1.ext hc
  have r2 := r2.ext hc
  have r3 := r3.ext hc
  have r4 := r4.ext hc
  have z1 := hc.size
  have b1hi := hb1.lt
  refine from_pure 1 [(1, .int .i64 p1), (2, .pointer (some ⟨b1, 0, none⟩))] hF (by kernel_rfl) fun fr hF => ?_
  refine from_end rfl (then_normal ?_)
  refine wp_seq (wp_text' ?_)
  refine from_pure 1 [(1, .int .i64 p1), (2, .pointer (some ⟨b1, 0, none⟩)), (5, .pointer (some ⟨b1, 1, none⟩))] hF (by kernel_rfl) fun fr hF => ?_
  refine s_loadBox (.slice a1 (List.length p0.Regs) c1) ty24 rfl rfl hF rfl hb1 rfl rfl fun fr hF => ?_
  refine from_pure 1 [(2, .pointer (some ⟨b1, 0, none⟩)), (6, .slice a1 (List.length p0.Regs) c1), (7, .int .i64 p1)] hF (by kernel_rfl) fun fr hF => ?_
  obtain ⟨x1, hx1, h⟩ := bindE h
  refine s_call [.slice a1 (List.length p0.Regs) c1, .int .i64 p1] Try.call38 rfl rfl hF rfl (laws_szIntS_ok p0.Regs p1 hx1 r1) fun v w2 fr hR hF => ?_
  obtain ⟨rfl, hc⟩ := hR
  have hC := hC.trans hc
  have r1 := r1.ext hc
  have r2 := r2.ext hc
  have r3 := r3.ext hc
  have r4 := r4.ext hc
  have hb1 := hb1.ext hc
  have z2 := hc.size
  refine from_pure 1 [(1, .int .i64 x1), (2, .pointer (some ⟨b1, 0, none⟩))] hF (by kernel_rfl) fun fr hF => ?_
  refine from_end rfl (then_normal ?_)
  refine wp_seq ?_
  refine wp_seq (wp_pure [(1, .int .i64 x1), (2, .pointer (some ⟨b1, 0, none⟩)), (10, .bool (decide (x1 < 0)))] hF (by kernel_rfl) fun fr hF => then_normal ?_)
  refine (wp_if hF (b := (decide (x1 < 0))) rfl (fun hb => ?_) (fun hb => ?_))
  · replace h := iteT hb h
    refine wp_seq (wp_pure [(4, .int .i64 (-1))] hF (by kernel_rfl) fun fr hF => then_normal ?_)
    obtain rfl := Option.some.inj h
    exact wp_ret (then_ret (ret1 rfl hF rfl ⟨_, rfl, rfl, hC⟩))
  · replace h := iteF hb h
    refine (wp_skip (then_normal ?_))
    refine wp_seq (wp_text' ?_)
    refine from_pure 1 [(1, .int .i64 x1), (2, .pointer (some ⟨b1, 0, none⟩)), (11, .pointer (some ⟨b1, 2, none⟩))] hF (by kernel_rfl) fun fr hF => ?_
    refine s_loadBox (.slice a2 (List.length p0.Mem) c2) ty24 rfl rfl hF rfl hb1 rfl rfl fun fr hF => ?_
    refine from_pure 1 [(2, .pointer (some ⟨b1, 0, none⟩)), (12, .slice a2 (List.length p0.Mem) c2), (13, .int .i64 x1)] hF (by kernel_rfl) fun fr hF => ?_
    obtain ⟨x2, hx2, h⟩ := bindE h
    refine s_call [.slice a2 (List.length p0.Mem) c2, .int .i64 x1] Try.call38 rfl rfl hF rfl (laws_szIntS_ok p0.Mem x1 hx2 r2) fun v w3 fr hR hF => ?_
    obtain ⟨rfl, hc⟩ := hR
    have hC := hC.trans hc
    have r2 := r2.ext hc
    have r1 := r1.ext hc
    have r3 := r3.ext hc
    have r4 := r4.ext hc
    have hb1 := hb1.ext hc
    have z3 := hc.size
    refine from_pure 1 [(1, .int .i64 x2), (2, .pointer (some ⟨b1, 0, none⟩))] hF (by kernel_rfl) fun fr hF => ?_
    refine from_end rfl (then_normal ?_)
    refine wp_seq ?_
    refine wp_seq (wp_pure [(1, .int .i64 x2), (2, .pointer (some ⟨b1, 0, none⟩)), (16, .bool (decide (x2 < 0)))] hF (by kernel_rfl) fun fr hF => then_normal ?_)
    refine (wp_if hF (b := (decide (x2 < 0))) rfl (fun hb => ?_) (fun hb => ?_))
    · replace h := iteT hb h
      refine wp_seq (wp_pure [(4, .int .i64 (-1))] hF (by kernel_rfl) fun fr hF => then_normal ?_)
      obtain rfl := Option.some.inj h
      exact wp_ret (then_ret (ret1 rfl hF rfl ⟨_, rfl, rfl, hC⟩))
    · replace h := iteF hb h
      refine (wp_skip (then_normal ?_))
      refine wp_seq (wp_text' ?_)
      refine from_pure 1 [(1, .int .i64 x2), (2, .pointer (some ⟨b1, 0, none⟩)), (17, .pointer (some ⟨b1, 3, none⟩))] hF (by kernel_rfl) fun fr hF => ?_
      refine s_loadBox (.slice a3 (List.length p0.Stack) c3) ty24 rfl rfl hF rfl hb1 rfl rfl fun fr hF => ?_
      refine from_pure 1 [(2, .pointer (some ⟨b1, 0, none⟩)), (18, .slice a3 (List.length p0.Stack) c3), (19, .int .i64 x2)] hF (by kernel_rfl) fun fr hF => ?_
      obtain ⟨x3, hx3, h⟩ := bindE h
      refine s_call [.slice a3 (List.length p0.Stack) c3, .int .i64 x2] Try.call38 rfl rfl hF rfl (laws_szIntS_ok p0.Stack x2 hx3 r3) fun v w4 fr hR hF => ?_
      obtain ⟨rfl, hc⟩ := hR
      have hC := hC.trans hc
      have r3 := r3.ext hc
      have r1 := r1.ext hc
      have r2 := r2.ext hc
      have r4 := r4.ext hc
      have hb1 := hb1.ext hc
      have z4 := hc.size
      refine from_pure 1 [(1, .int .i64 x3), (2, .pointer (some ⟨b1, 0, none⟩))] hF (by kernel_rfl) fun fr hF => ?_
      refine from_end rfl (then_normal ?_)
      refine wp_seq ?_
      refine wp_seq (wp_pure [(1, .int .i64 x3), (2, .pointer (some ⟨b1, 0, none⟩)), (22, .bool (decide (x3 < 0)))] hF (by kernel_rfl) fun fr hF => then_normal ?_)
      refine (wp_if hF (b := (decide (x3 < 0))) rfl (fun hb => ?_) (fun hb => ?_))
      · replace h := iteT hb h
        refine wp_seq (wp_pure [(4, .int .i64 (-1))] hF (by kernel_rfl) fun fr hF => then_normal ?_)
        obtain rfl := Option.some.inj h
        exact wp_ret (then_ret (ret1 rfl hF rfl ⟨_, rfl, rfl, hC⟩))
      · replace h := iteF hb h
        refine (wp_skip (then_normal ?_))
        refine wp_seq (wp_text' ?_)
        refine from_pure 1 [(1, .int .i64 x3), (23, .pointer (some ⟨b1, 5, none⟩))] hF (by kernel_rfl) fun fr hF => ?_
        refine s_loadBox (.slice a4 (List.length p0.Out) c4) ty24 rfl rfl hF rfl hb1 rfl rfl fun fr hF => ?_
        refine from_pure 1 [(24, .slice a4 (List.length p0.Out) c4), (25, .int .i64 x3)] hF (by kernel_rfl) fun fr hF => ?_
        obtain ⟨x4, hx4, h⟩ := bindE h
        refine s_call [.slice a4 (List.length p0.Out) c4, .int .i64 x3] Try.call38 rfl rfl hF rfl (laws_szIntS_ok p0.Out x3 hx4 r4) fun v w5 fr hR hF => ?_
        obtain ⟨rfl, hc⟩ := hR
        have hC := hC.trans hc
        have r4 := r4.ext hc
        have z5 := hc.size
        refine from_pure 1 [(1, .int .i64 x4)] hF (by kernel_rfl) fun fr hF => ?_
        refine from_end rfl (then_normal ?_)
        refine wp_seq ?_
        refine wp_seq (wp_pure [(1, .int .i64 x4), (28, .bool (decide (x4 < 0)))] hF (by kernel_rfl) fun fr hF => then_normal ?_)
        refine (wp_if hF (b := (decide (x4 < 0))) rfl (fun hb => ?_) (fun hb => ?_))
        · replace h := iteT hb h
          refine wp_seq (wp_pure [(4, .int .i64 (-1))] hF (by kernel_rfl) fun fr hF => then_normal ?_)
          obtain rfl := Option.some.inj h
          exact wp_ret (then_ret (ret1 rfl hF rfl ⟨_, rfl, rfl, hC⟩))
        · replace h := iteF hb h
          refine (wp_skip (then_normal ?_))
          refine wp_seq (wp_pure [(4, .int .i64 x4)] hF (by kernel_rfl) fun fr hF => then_normal ?_)
          obtain rfl := Option.some.inj h
          exact wp_ret (ret1 rfl hF rfl ⟨_, rfl, rfl, hC⟩)

theorem laws_toIntS_ok (n : Nat) (p0 : List Int) {r : (List Int)} (h : laws_toIntS n p0 = some r) {w : World} {F0 : Nat → Prop} {va0 : Value} (ra0 : RV w F0 va0 p0) :
    Calls Try.prog 34 [va0].toArray w fun e w' => ∃ v, e = .returned v ∧ ∃ go0 a0 c0, v = .slice a0 (List.length r) c0 ∧ Chg Non w w' ∧ OwnS w' 3 go0 (fun k => w.heap.size ≤ k) Non (.slice a0 (List.length r) c0) r := by
  unfold laws_toIntS at h
  have ra0 := ra0.sub (F' := fun k => k < w.heap.size) (fun k hk _ => hk)
  obtain ⟨a1, c1, rfl, -⟩ := ra0.slice
  have hC : Chg Non w w := Chg.refl _ _
  refine enter (N := 22) Try.func34 rfl Try.ntmps34 rfl fun fr hF => ?_
  refine wp_seq (wp_pure [(0, .slice a1 (List.length p0) c1)] hF (by kernel_rfl) fun fr hF => then_normal ?_)
  refine wp_seq (wp_text' ?_)
  refine from_pure 2 [(0, .slice a1 (List.length p0) c1), (6, .int .i64 (len p0))] hF (by kernel_rfl) fun fr hF => ?_
  obtain ⟨x1, hx1, h⟩ := bindE h
  refine s_make (G := (fun k => w.heap.size ≤ k)) (FF := Non) Try.underlying24 el3 (zero_flat _ (by kernel_rfl)) rfl rfl hF rfl rfl hx1 (fun k hk => by (try dsimp only at *); omega) fun g1 a2 c2 w1 fr g1lo o1 hc hF => ?_
  have hC := hC.trans hc
  have ra0 := ra0.ext hc
  have z1 := hc.size
  refine from_pure 1 [(0, .slice a1 (List.length p0) c1), (3, .slice a2 (List.length x1) c2)] hF (by kernel_rfl) fun fr hF => ?_
  refine from_end rfl (then_normal ?_)
  refine wp_seq ?_
  refine wp_seq (wp_pure [(0, .slice a1 (List.length p0) c1), (3, .slice a2 (List.length x1) c2), (4, .int .i64 0)] hF (by kernel_rfl) fun fr hF => then_normal ?_)
  obtain ⟨rl1, hit1, h⟩ := bindE h
  have hk1 := h
  refine (wp_cut (M := fun fr w' => ∃ go2 a4 c4, FrS 22 [(3, .slice a4 (List.length rl1) c4)] fr ∧ Chg (fun k => (some g1) = some k) w1 w' ∧ OwnS w' 3 go2 (fun k => w.heap.size ≤ k) Non (.slice a4 (List.length rl1) c4) rl1 ∧ (go2 = (some g1) ∨ ∃ g, go2 = some g ∧ w1.heap.size ≤ g)) (wp_block (wp_iter (Inv := fun s1 fr w' => ∃ go1 a3 c3, FrS 22 [(0, .slice a1 (List.length p0) c1), (3, .slice a3 (List.length s1.1) c3), (4, .int .i64 s1.2)] fr ∧ Chg (fun k => (some g1) = some k) w1 w' ∧ OwnS w' 3 go1 (fun k => w.heap.size ≤ k) Non (.slice a3 (List.length s1.1) c3) s1.1 ∧ (go1 = (some g1) ∨ ∃ g, go1 = some g ∧ w1.heap.size ≤ g)) hit1 ⟨(some g1), a2, c2, hF.sub _ (by kernel_rfl), Chg.refl _ _, (o1.regard fun k _ hG => by (try dsimp only at *); omega), .inl rfl⟩ fun s1 q1 fr w1i hI h hr1 => ?_)) fun fr w1o hM => ?_)
  · obtain ⟨go1, a3, c3, hF, hc, o2, hgo1⟩ := hI
    have zLw1i := hc.size
    have hC := hC.trans' hc (fun x hx => .inr (by have hG := o1.inG hx; (try dsimp only at *); omega))
    have ra0 := ra0.chg hc (fun k hk hs => by have hG := o1.inG hs; (try dsimp only at *); omega)
    have hL1 := hc
    refine wp_seq ?_
    refine wp_seq (wp_pure [(0, .slice a1 (List.length p0) c1), (3, .slice a3 (List.length s1.1) c3), (4, .int .i64 s1.2), (11, .bool (decide (s1.2 < (len p0))))] hF (by kernel_rfl) fun fr hF => then_normal ?_)
    refine (wp_if hF (b := (decide (s1.2 < (len p0)))) rfl (fun hb => ?_) (fun hb => ?_))
    · replace h := iteT hb h
      refine (wp_skip (then_normal ?_))
      refine wp_seq (wp_block ?_)
      refine (wp_text' ?_)
      refine from_pure 4 [(0, .slice a1 (List.length p0) c1), (3, .slice a3 (List.length s1.1) c3), (4, .int .i64 s1.2), (14, .slice a3 (List.length s1.1) c3), (15, .int .i64 s1.2), (16, .slice a1 (List.length p0) c1), (17, .int .i64 s1.2)] hF (by kernel_rfl) fun fr hF => ?_
      obtain ⟨x2, hx2, h⟩ := bindE h
      refine s_elemF (z := x2) (.int .i64 x2) ty3 Try.underlying24 rfl rfl rfl rfl rfl hF rfl (ra0) rfl (get?_nn hx2) (get?_at hx2) rfl fun p fr hF => ?_
      obtain ⟨x3, hx3, h⟩ := bindE h
      refine s_setElem (fun _ => False) o2 Try.underlying24 ty3 rfl rfl rfl rfl hF rfl rfl (by simp) rfl (Fr := Non) (RV.mk_flat x2) flat_sub (fun _ _ h => h.elim) hx3 fun a5 c5 w2 fr o4 he hc hF => ?_
      obtain ⟨_, hF⟩ := hF
      rw [he] at hF
      have hC := hC.trans' hc (fun x hx => .inr (by have hG := o2.inG hx; (try dsimp only at *); omega))
      have ra0 := ra0.chg hc (fun k hk hs => by have hG := o2.inG hs; (try dsimp only at *); omega)
      have z2 := hc.size
      have hL2 := hL1.trans' hc (fun x hx => go_chg hgo1 x hx)
      refine from_end rfl ?_
      refine blk_normal (then_normal ?_)
      refine (wp_pure [(0, .slice a1 (List.length p0) c1), (3, .slice a5 (List.length x3) c5), (4, .int .i64 (w64 (s1.2 + 1)))] hF (by kernel_rfl) fun fr hF => then_normal ?_)
      exact ⟨_, (Option.some.inj h).symm, go1, a5, c5, hF.sub _ (by kernel_rfl), hL2, (o4.regard fun k _ hG => by (try dsimp only at *); omega), hgo1⟩
    · replace h := iteF hb h
      refine (wp_exit (then_exit (then_exit (blk_exit_eq ?_))))
      obtain rfl := hr1 _ (Option.some.inj h).symm
      exact then_normal ⟨go1, a3, c3, hF.sub _ (by kernel_rfl), hL1, (o2.regard fun k _ hG => by (try dsimp only at *); omega), hgo1⟩
  · obtain ⟨go2, a4, c4, hF, hc, o3, hgo2⟩ := hM
    have zLw1o := hc.size
    have hC := hC.trans' hc (fun x hx => .inr (by have hG := o1.inG hx; (try dsimp only at *); omega))
    refine wp_seq (wp_pure [(2, .slice a4 (List.length rl1) c4)] hF (by kernel_rfl) fun fr hF => then_normal ?_)
    obtain rfl := Option.some.inj h
    exact wp_ret (ret1 rfl hF rfl ⟨_, rfl, _, _, _, rfl, hC, (o3.regard fun k _ hG => by (try dsimp only at *); omega)⟩)

theorem laws_toState_ok (n : Nat) (p0 : D.State) {r : D.State} (h : laws_toState n p0 = some r) {w : World} {F0 : Nat → Prop} {va0 : Value} (ra0 : RV w F0 va0 p0) :
    Calls Try.prog 13 [va0].toArray w fun e w' => ∃ v, e = .returned v ∧ ∃ u0, v = u0 ∧ Chg Non w w' ∧ RV w' (fun k => w.heap.size ≤ k) u0 r := by
  unfold laws_toState at h
  have ra0 := ra0.sub (F' := fun k => k < w.heap.size) (fun k hk _ => hk)
  obtain ⟨v1, v2, v3, v4, rfl, r1, r2, r3, r4⟩ := RV.State ra0
  obtain ⟨a1, c1, rfl, -⟩ := r1.slice
  obtain ⟨a2, c2, rfl, -⟩ := r2.slice
  obtain ⟨a3, c3, rfl, -⟩ := r3.slice
  obtain ⟨a4, c4, rfl, -⟩ := r4.slice
  have hC : Chg Non w w := Chg.refl _ _
  refine enter (N := 33) Try.func13 rfl Try.ntmps13 rfl fun fr hF => ?_
  refine wp_seq (wp_text' ?_)
  refine s_box [.int .i64 p0.Pc, .slice a1 (List.length p0.Regs) c1, .slice a2 (List.length p0.Mem) c2, .slice a3 (List.length p0.Stack) c3, .int .i64 p0.In, .slice a4 (List.length p0.Out) c4, .int .i64 p0.Code, .int .i64 p0.Steps] rfl rfl hF rfl rfl fun b1 w1 fr b1lo hb1 hc hF => ?_
  have hC := hC.trans hc
  have r1 := r1.ext hc
  have r2 := r2.ext hc
  have r3 := r3.ext hc
  have r4 := r4.ext hc
  have z1 := hc.size
  have b1hi := hb1.lt
  refine s_alloc (z := .agg #[.int .i64 0, .slice none (List.length ([] : List Int)) 0, .slice none (List.length ([] : List Int)) 0, .slice none (List.length ([] : List Int)) 0, .int .i64 0, .slice none (List.length ([] : List Int)) 0, .int .i64 0, .int .i64 0]) [.int .i64 0, .slice none (List.length ([] : List Int)) 0, .slice none (List.length ([] : List Int)) 0, .slice none (List.length ([] : List Int)) 0, .int .i64 0, .slice none (List.length ([] : List Int)) 0, .int .i64 0, .int .i64 0] rfl rfl hF (by kernel_rfl) rfl fun b2 w2 fr b2lo hb2 hc hF => ?_
  have hC := hC.trans hc
  have r1 := r1.ext hc
  have r2 := r2.ext hc
  have r3 := r3.ext hc
  have r4 := r4.ext hc
  have hb1 := hb1.ext hc
  have z2 := hc.size
  have b2hi := hb2.lt
  refine from_end rfl (then_normal ?_)
  refine wp_seq (wp_text' ?_)
  refine s_alloc (z := .agg #[.int .i64 0, .slice none (List.length ([] : List Int)) 0, .slice none (List.length ([] : List Int)) 0, .slice none (List.length ([] : List Int)) 0, .int .i64 0, .slice none (List.length ([] : List Int)) 0, .int .i64 0, .int .i64 0]) [.int .i64 0, .slice none (List.length ([] : List Int)) 0, .slice none (List.length ([] : List Int)) 0, .slice none (List.length ([] : List Int)) 0, .int .i64 0, .slice none (List.length ([] : List Int)) 0, .int .i64 0, .int .i64 0] rfl rfl hF (by kernel_rfl) rfl fun b3 w3 fr b3lo hb3 hc hF => ?_
  have hC := hC.trans hc
  have r1 := r1.ext hc
  have r2 := r2.ext hc
  have r3 := r3.ext hc
  have r4 := r4.ext hc
  have hb1 := hb1.ext hc
  have hb2 := hb2.ext hc
  have z3 := hc.size
  have b3hi := hb3.lt
  refine from_end rfl (then_normal ?_)
  refine wp_seq (wp_text' ?_)
  refine from_pure 1 [(1, .pointer (some ⟨b1, 0, none⟩)), (2, .pointer (some ⟨b2, 0, none⟩)), (3, .pointer (some ⟨b3, 0, none⟩)), (4, .pointer (some ⟨b1, 0, none⟩))] hF (by kernel_rfl) fun fr hF => ?_
  refine s_loadBox (.int .i64 p0.Pc) ty3 rfl rfl hF rfl hb1 rfl rfl fun fr hF => ?_
  refine from_pure 1 [(1, .pointer (some ⟨b1, 0, none⟩)), (2, .pointer (some ⟨b2, 0, none⟩)), (3, .pointer (some ⟨b3, 0, none⟩)), (5, .int .i64 p0.Pc), (6, .pointer (some ⟨b3, 0, none⟩))] hF (by kernel_rfl) fun fr hF => ?_
  refine s_storeBox [.int .i64 p0.Pc, .slice none (List.length ([] : List Int)) 0, .slice none (List.length ([] : List Int)) 0, .slice none (List.length ([] : List Int)) 0, .int .i64 0, .slice none (List.length ([] : List Int)) 0, .int .i64 0, .int .i64 0] rfl hF rfl rfl (by kernel_rfl) hb3 rfl rfl rfl fun w4 hb3 hc hF => ?_
  have hC := hC.trans' hc (fun x hx => .inr (by subst hx; (try dsimp only at *); omega))
  have r1 := r1.chg hc (fun k hk hs => by subst hs; (try dsimp only at *); omega)
  have r2 := r2.chg hc (fun k hk hs => by subst hs; (try dsimp only at *); omega)
  have r3 := r3.chg hc (fun k hk hs => by subst hs; (try dsimp only at *); omega)
  have r4 := r4.chg hc (fun k hk hs => by subst hs; (try dsimp only at *); omega)
  have hb1 := hb1.chg hc (by omega)
  have hb2 := hb2.chg hc (by omega)
  have z4 := hc.size
  refine from_end rfl (then_normal ?_)
  refine wp_seq (wp_text' ?_)
  refine from_pure 1 [(1, .pointer (some ⟨b1, 0, none⟩)), (2, .pointer (some ⟨b2, 0, none⟩)), (3, .pointer (some ⟨b3, 0, none⟩)), (7, .pointer (some ⟨b1, 1, none⟩))] hF (by kernel_rfl) fun fr hF => ?_
  refine s_loadBox (.slice a1 (List.length p0.Regs) c1) ty24 rfl rfl hF rfl hb1 rfl rfl fun fr hF => ?_
  obtain ⟨x1, hx1, h⟩ := bindE h
  refine s_call [.slice a1 (List.length p0.Regs) c1] Try.call34 rfl rfl hF rfl (laws_toIntS_ok n p0.Regs hx1 r1) fun v w5 fr hR hF => ?_
  obtain ⟨go1, a5, c5, rfl, hc, o1⟩ := hR
  have hC := hC.trans hc
  have r1 := r1.ext hc
  have r2 := r2.ext hc
  have r3 := r3.ext hc
  have r4 := r4.ext hc
  have hb1 := hb1.ext hc
  have hb2 := hb2.ext hc
  have hb3 := hb3.ext hc
  have z5 := hc.size
  have o2 := o1.regard (G' := (fun k => w.heap.size ≤ k ∧ k ≠ b1 ∧ k ≠ b2 ∧ k ≠ b3)) (fun k hk hG => by (try dsimp only at *); omega)
  refine from_pure 1 [(1, .pointer (some ⟨b1, 0, none⟩)), (2, .pointer (some ⟨b2, 0, none⟩)), (3, .pointer (some ⟨b3, 0, none⟩)), (9, .slice a5 (List.length x1) c5), (10, .pointer (some ⟨b3, 1, none⟩))] hF (by kernel_rfl) fun fr hF => ?_
  refine s_storeBox [.int .i64 p0.Pc, .slice a5 (List.length x1) c5, .slice none (List.length ([] : List Int)) 0, .slice none (List.length ([] : List Int)) 0, .int .i64 0, .slice none (List.length ([] : List Int)) 0, .int .i64 0, .int .i64 0] rfl hF rfl rfl (by kernel_rfl) hb3 rfl rfl rfl fun w6 hb3 hc hF => ?_
  have hC := hC.trans' hc (fun x hx => .inr (by subst hx; (try dsimp only at *); omega))
  have r1 := r1.chg hc (fun k hk hs => by subst hs; (try dsimp only at *); omega)
  have r2 := r2.chg hc (fun k hk hs => by subst hs; (try dsimp only at *); omega)
  have r3 := r3.chg hc (fun k hk hs => by subst hs; (try dsimp only at *); omega)
  have r4 := r4.chg hc (fun k hk hs => by subst hs; (try dsimp only at *); omega)
  have hb1 := hb1.chg hc (by omega)
  have hb2 := hb2.chg hc (by omega)
  have o3 := o2.chg hc (fun k _ hG hs => by subst hs; (try dsimp only at *); omega) (fun _ h => h.elim)
  have z6 := hc.size
  refine from_end rfl (then_normal ?_)
  refine wp_seq (wp_text' ?_)
  refine from_pure 1 [(1, .pointer (some ⟨b1, 0, none⟩)), (2, .pointer (some ⟨b2, 0, none⟩)), (3, .pointer (some ⟨b3, 0, none⟩)), (11, .pointer (some ⟨b1, 2, none⟩))] hF (by kernel_rfl) fun fr hF => ?_
  refine s_loadBox (.slice a2 (List.length p0.Mem) c2) ty24 rfl rfl hF rfl hb1 rfl rfl fun fr hF => ?_
  obtain ⟨x2, hx2, h⟩ := bindE h
  refine s_call [.slice a2 (List.length p0.Mem) c2] Try.call34 rfl rfl hF rfl (laws_toIntS_ok n p0.Mem hx2 r2) fun v w7 fr hR hF => ?_
  obtain ⟨go2, a6, c6, rfl, hc, o4⟩ := hR
  have o5 := o3.regard (G' := (fun k => w.heap.size ≤ k ∧ k ≠ b1 ∧ k ≠ b2 ∧ k ≠ b3 ∧ ¬ (w6.heap.size ≤ k ∧ k < w7.heap.size))) (fun k hk hG => by (try dsimp only at *); omega)
  have hC := hC.trans hc
  have r2 := r2.ext hc
  have r1 := r1.ext hc
  have r3 := r3.ext hc
  have r4 := r4.ext hc
  have hb1 := hb1.ext hc
  have hb2 := hb2.ext hc
  have hb3 := hb3.ext hc
  have o6 := o5.ext hc
  have z7 := hc.size
  have o7 := o4.regard (G' := (fun k => w.heap.size ≤ k ∧ k ≠ b1 ∧ k ≠ b2 ∧ k ≠ b3)) (fun k hk hG => by (try dsimp only at *); omega)
  refine from_pure 1 [(1, .pointer (some ⟨b1, 0, none⟩)), (2, .pointer (some ⟨b2, 0, none⟩)), (3, .pointer (some ⟨b3, 0, none⟩)), (13, .slice a6 (List.length x2) c6), (14, .pointer (some ⟨b3, 2, none⟩))] hF (by kernel_rfl) fun fr hF => ?_
  refine s_storeBox [.int .i64 p0.Pc, .slice a5 (List.length x1) c5, .slice a6 (List.length x2) c6, .slice none (List.length ([] : List Int)) 0, .int .i64 0, .slice none (List.length ([] : List Int)) 0, .int .i64 0, .int .i64 0] rfl hF rfl rfl (by kernel_rfl) hb3 rfl rfl rfl fun w8 hb3 hc hF => ?_
  have hC := hC.trans' hc (fun x hx => .inr (by subst hx; (try dsimp only at *); omega))
  have r1 := r1.chg hc (fun k hk hs => by subst hs; (try dsimp only at *); omega)
  have r2 := r2.chg hc (fun k hk hs => by subst hs; (try dsimp only at *); omega)
  have r3 := r3.chg hc (fun k hk hs => by subst hs; (try dsimp only at *); omega)
  have r4 := r4.chg hc (fun k hk hs => by subst hs; (try dsimp only at *); omega)
  have hb1 := hb1.chg hc (by omega)
  have hb2 := hb2.chg hc (by omega)
  have o8 := o6.chg hc (fun k _ hG hs => by subst hs; (try dsimp only at *); omega) (fun _ h => h.elim)
  have o9 := o7.chg hc (fun k _ hG hs => by subst hs; (try dsimp only at *); omega) (fun _ h => h.elim)
  have z8 := hc.size
  refine from_end rfl (then_normal ?_)
  refine wp_seq (wp_text' ?_)
  refine from_pure 1 [(1, .pointer (some ⟨b1, 0, none⟩)), (2, .pointer (some ⟨b2, 0, none⟩)), (3, .pointer (some ⟨b3, 0, none⟩)), (15, .pointer (some ⟨b1, 3, none⟩))] hF (by kernel_rfl) fun fr hF => ?_
  refine s_loadBox (.slice a3 (List.length p0.Stack) c3) ty24 rfl rfl hF rfl hb1 rfl rfl fun fr hF => ?_
  obtain ⟨x3, hx3, h⟩ := bindE h
  refine s_call [.slice a3 (List.length p0.Stack) c3] Try.call34 rfl rfl hF rfl (laws_toIntS_ok n p0.Stack hx3 r3) fun v w9 fr hR hF => ?_
  obtain ⟨go3, a7, c7, rfl, hc, o10⟩ := hR
  have o11 := o8.regard (G' := (fun k => w.heap.size ≤ k ∧ k ≠ b1 ∧ k ≠ b2 ∧ k ≠ b3 ∧ ¬ (w6.heap.size ≤ k ∧ k < w7.heap.size) ∧ ¬ (w8.heap.size ≤ k ∧ k < w9.heap.size))) (fun k hk hG => by (try dsimp only at *); omega)
  have o12 := o9.regard (G' := (fun k => w.heap.size ≤ k ∧ k ≠ b1 ∧ k ≠ b2 ∧ k ≠ b3 ∧ ¬ (w8.heap.size ≤ k ∧ k < w9.heap.size))) (fun k hk hG => by (try dsimp only at *); omega)
  have hC := hC.trans hc
  have r3 := r3.ext hc
  have r1 := r1.ext hc
  have r2 := r2.ext hc
  have r4 := r4.ext hc
  have hb1 := hb1.ext hc
  have hb2 := hb2.ext hc
  have hb3 := hb3.ext hc
  have o13 := o11.ext hc
  have o14 := o12.ext hc
  have z9 := hc.size
  have o15 := o10.regard (G' := (fun k => w.heap.size ≤ k ∧ k ≠ b1 ∧ k ≠ b2 ∧ k ≠ b3)) (fun k hk hG => by (try dsimp only at *); omega)
  refine from_pure 1 [(1, .pointer (some ⟨b1, 0, none⟩)), (2, .pointer (some ⟨b2, 0, none⟩)), (3, .pointer (some ⟨b3, 0, none⟩)), (17, .slice a7 (List.length x3) c7), (18, .pointer (some ⟨b3, 3, none⟩))] hF (by kernel_rfl) fun fr hF => ?_
  refine s_storeBox [.int .i64 p0.Pc, .slice a5 (List.length x1) c5, .slice a6 (List.length x2) c6, .slice a7 (List.length x3) c7, .int .i64 0, .slice none (List.length ([] : List Int)) 0, .int .i64 0, .int .i64 0] rfl hF rfl rfl (by kernel_rfl) hb3 rfl rfl rfl fun w10 hb3 hc hF => ?_
  have hC := hC.trans' hc (fun x hx => .inr (by subst hx; (try dsimp only at *); omega))
  have r1 := r1.chg hc (fun k hk hs => by subst hs; (try dsimp only at *); omega)
  have r2 := r2.chg hc (fun k hk hs => by subst hs; (try dsimp only at *); omega)
  have r3 := r3.chg hc (fun k hk hs => by subst hs; (try dsimp only at *); omega)
  have r4 := r4.chg hc (fun k hk hs => by subst hs; (try dsimp only at *); omega)
  have hb1 := hb1.chg hc (by omega)
  have hb2 := hb2.chg hc (by omega)
  have o16 := o13.chg hc (fun k _ hG hs => by subst hs; (try dsimp only at *); omega) (fun _ h => h.elim)
  have o17 := o14.chg hc (fun k _ hG hs => by subst hs; (try dsimp only at *); omega) (fun _ h => h.elim)
  have o18 := o15.chg hc (fun k _ hG hs => by subst hs; (try dsimp only at *); omega) (fun _ h => h.elim)
  have z10 := hc.size
  refine from_end rfl (then_normal ?_)
  refine wp_seq (wp_text' ?_)
  refine from_pure 1 [(1, .pointer (some ⟨b1, 0, none⟩)), (2, .pointer (some ⟨b2, 0, none⟩)), (3, .pointer (some ⟨b3, 0, none⟩)), (19, .pointer (some ⟨b1, 4, none⟩))] hF (by kernel_rfl) fun fr hF => ?_
  refine s_loadBox (.int .i64 p0.In) ty3 rfl rfl hF rfl hb1 rfl rfl fun fr hF => ?_
  refine from_pure 1 [(1, .pointer (some ⟨b1, 0, none⟩)), (2, .pointer (some ⟨b2, 0, none⟩)), (3, .pointer (some ⟨b3, 0, none⟩)), (20, .int .i64 p0.In), (21, .pointer (some ⟨b3, 4, none⟩))] hF (by kernel_rfl) fun fr hF => ?_
  refine s_storeBox [.int .i64 p0.Pc, .slice a5 (List.length x1) c5, .slice a6 (List.length x2) c6, .slice a7 (List.length x3) c7, .int .i64 p0.In, .slice none (List.length ([] : List Int)) 0, .int .i64 0, .int .i64 0] rfl hF rfl rfl (by kernel_rfl) hb3 rfl rfl rfl fun w11 hb3 hc hF => ?_
  have hC := hC.trans' hc (fun x hx => .inr (by subst hx; (try dsimp only at *); omega))
  have r1 := r1.chg hc (fun k hk hs => by subst hs; (try dsimp only at *); omega)
  have r2 := r2.chg hc (fun k hk hs => by subst hs; (try dsimp only at *); omega)
  have r3 := r3.chg hc (fun k hk hs => by subst hs; (try dsimp only at *); omega)
  have r4 := r4.chg hc (fun k hk hs => by subst hs; (try dsimp only at *); omega)
  have hb1 := hb1.chg hc (by omega)
  have hb2 := hb2.chg hc (by omega)
  have o19 := o16.chg hc (fun k _ hG hs => by subst hs; (try dsimp only at *); omega) (fun _ h => h.elim)
  have o20 := o17.chg hc (fun k _ hG hs => by subst hs; (try dsimp only at *); omega) (fun _ h => h.elim)
  have o21 := o18.chg hc (fun k _ hG hs => by subst hs; (try dsimp only at *); omega) (fun _ h => h.elim)
  have z11 := hc.size
  refine from_end rfl (then_normal ?_)
  refine wp_seq (wp_text' ?_)
  refine from_pure 1 [(1, .pointer (some ⟨b1, 0, none⟩)), (2, .pointer (some ⟨b2, 0, none⟩)), (3, .pointer (some ⟨b3, 0, none⟩)), (22, .pointer (some ⟨b1, 5, none⟩))] hF (by kernel_rfl) fun fr hF => ?_
  refine s_loadBox (.slice a4 (List.length p0.Out) c4) ty24 rfl rfl hF rfl hb1 rfl rfl fun fr hF => ?_
  obtain ⟨x4, hx4, h⟩ := bindE h
  refine s_call [.slice a4 (List.length p0.Out) c4] Try.call34 rfl rfl hF rfl (laws_toIntS_ok n p0.Out hx4 r4) fun v w12 fr hR hF => ?_
  obtain ⟨go4, a8, c8, rfl, hc, o22⟩ := hR
  have o23 := o19.regard (G' := (fun k => w.heap.size ≤ k ∧ k ≠ b1 ∧ k ≠ b2 ∧ k ≠ b3 ∧ ¬ (w6.heap.size ≤ k ∧ k < w7.heap.size) ∧ ¬ (w8.heap.size ≤ k ∧ k < w9.heap.size) ∧ ¬ (w11.heap.size ≤ k ∧ k < w12.heap.size))) (fun k hk hG => by (try dsimp only at *); omega)
  have o24 := o20.regard (G' := (fun k => w.heap.size ≤ k ∧ k ≠ b1 ∧ k ≠ b2 ∧ k ≠ b3 ∧ ¬ (w8.heap.size ≤ k ∧ k < w9.heap.size) ∧ ¬ (w11.heap.size ≤ k ∧ k < w12.heap.size))) (fun k hk hG => by (try dsimp only at *); omega)
  have o25 := o21.regard (G' := (fun k => w.heap.size ≤ k ∧ k ≠ b1 ∧ k ≠ b2 ∧ k ≠ b3 ∧ ¬ (w11.heap.size ≤ k ∧ k < w12.heap.size))) (fun k hk hG => by (try dsimp only at *); omega)
  have hC := hC.trans hc
  have r4 := r4.ext hc
  have r1 := r1.ext hc
  have r2 := r2.ext hc
  have r3 := r3.ext hc
  have hb1 := hb1.ext hc
  have hb2 := hb2.ext hc
  have hb3 := hb3.ext hc
  have o26 := o23.ext hc
  have o27 := o24.ext hc
  have o28 := o25.ext hc
  have z12 := hc.size
  have o29 := o22.regard (G' := (fun k => w.heap.size ≤ k ∧ k ≠ b1 ∧ k ≠ b2 ∧ k ≠ b3)) (fun k hk hG => by (try dsimp only at *); omega)
  refine from_pure 1 [(1, .pointer (some ⟨b1, 0, none⟩)), (2, .pointer (some ⟨b2, 0, none⟩)), (3, .pointer (some ⟨b3, 0, none⟩)), (24, .slice a8 (List.length x4) c8), (25, .pointer (some ⟨b3, 5, none⟩))] hF (by kernel_rfl) fun fr hF => ?_
  refine s_storeBox [.int .i64 p0.Pc, .slice a5 (List.length x1) c5, .slice a6 (List.length x2) c6, .slice a7 (List.length x3) c7, .int .i64 p0.In, .slice a8 (List.length x4) c8, .int .i64 0, .int .i64 0] rfl hF rfl rfl (by kernel_rfl) hb3 rfl rfl rfl fun w13 hb3 hc hF => ?_
  have hC := hC.trans' hc (fun x hx => .inr (by subst hx; (try dsimp only at *); omega))
  have r1 := r1.chg hc (fun k hk hs => by subst hs; (try dsimp only at *); omega)
  have r2 := r2.chg hc (fun k hk hs => by subst hs; (try dsimp only at *); omega)
  have r3 := r3.chg hc (fun k hk hs => by subst hs; (try dsimp only at *); omega)
  have r4 := r4.chg hc (fun k hk hs => by subst hs; (try dsimp only at *); omega)
  have hb1 := hb1.chg hc (by omega)
  have hb2 := hb2.chg hc (by omega)
  have o30 := o26.chg hc (fun k _ hG hs => by subst hs; (try dsimp only at *); omega) (fun _ h => h.elim)
  have o31 := o27.chg hc (fun k _ hG hs => by subst hs; (try dsimp only at *); omega) (fun _ h => h.elim)
  have o32 := o28.chg hc (fun k _ hG hs => by subst hs; (try dsimp only at *); omega) (fun _ h => h.elim)
  have o33 := o29.chg hc (fun k _ hG hs => by subst hs; (try dsimp only at *); omega) (fun _ h => h.elim)
  have z13 := hc.size
  refine from_end rfl (then_normal ?_)
  refine wp_seq (wp_text' ?_)
  refine from_pure 1 [(1, .pointer (some ⟨b1, 0, none⟩)), (2, .pointer (some ⟨b2, 0, none⟩)), (3, .pointer (some ⟨b3, 0, none⟩)), (26, .pointer (some ⟨b1, 6, none⟩))] hF (by kernel_rfl) fun fr hF => ?_
  refine s_loadBox (.int .i64 p0.Code) ty3 rfl rfl hF rfl hb1 rfl rfl fun fr hF => ?_
  refine from_pure 1 [(1, .pointer (some ⟨b1, 0, none⟩)), (2, .pointer (some ⟨b2, 0, none⟩)), (3, .pointer (some ⟨b3, 0, none⟩)), (27, .int .i64 p0.Code), (28, .pointer (some ⟨b3, 6, none⟩))] hF (by kernel_rfl) fun fr hF => ?_
  refine s_storeBox [.int .i64 p0.Pc, .slice a5 (List.length x1) c5, .slice a6 (List.length x2) c6, .slice a7 (List.length x3) c7, .int .i64 p0.In, .slice a8 (List.length x4) c8, .int .i64 p0.Code, .int .i64 0] rfl hF rfl rfl (by kernel_rfl) hb3 rfl rfl rfl fun w14 hb3 hc hF => ?_
  have hC := hC.trans' hc (fun x hx => .inr (by subst hx; (try dsimp only at *); omega))
  have r1 := r1.chg hc (fun k hk hs => by subst hs; (try dsimp only at *); omega)
  have r2 := r2.chg hc (fun k hk hs => by subst hs; (try dsimp only at *); omega)
  have r3 := r3.chg hc (fun k hk hs => by subst hs; (try dsimp only at *); omega)
  have r4 := r4.chg hc (fun k hk hs => by subst hs; (try dsimp only at *); omega)
  have hb1 := hb1.chg hc (by omega)
  have hb2 := hb2.chg hc (by omega)
  have o34 := o30.chg hc (fun k _ hG hs => by subst hs; (try dsimp only at *); omega) (fun _ h => h.elim)
  have o35 := o31.chg hc (fun k _ hG hs => by subst hs; (try dsimp only at *); omega) (fun _ h => h.elim)
  have o36 := o32.chg hc (fun k _ hG hs => by subst hs; (try dsimp only at *); omega) (fun _ h => h.elim)
  have o37 := o33.chg hc (fun k _ hG hs => by subst hs; (try dsimp only at *); omega) (fun _ h => h.elim)
  have z14 := hc.size
  refine from_end rfl (then_normal ?_)
  refine wp_seq (wp_text' ?_)
  refine from_pure 1 [(2, .pointer (some ⟨b2, 0, none⟩)), (3, .pointer (some ⟨b3, 0, none⟩)), (29, .pointer (some ⟨b1, 7, none⟩))] hF (by kernel_rfl) fun fr hF => ?_
  refine s_loadBox (.int .i64 p0.Steps) ty3 rfl rfl hF rfl hb1 rfl rfl fun fr hF => ?_
  refine from_pure 1 [(2, .pointer (some ⟨b2, 0, none⟩)), (3, .pointer (some ⟨b3, 0, none⟩)), (30, .int .i64 p0.Steps), (31, .pointer (some ⟨b3, 7, none⟩))] hF (by kernel_rfl) fun fr hF => ?_
  refine s_storeBox [.int .i64 p0.Pc, .slice a5 (List.length x1) c5, .slice a6 (List.length x2) c6, .slice a7 (List.length x3) c7, .int .i64 p0.In, .slice a8 (List.length x4) c8, .int .i64 p0.Code, .int .i64 p0.Steps] rfl hF rfl rfl (by kernel_rfl) hb3 rfl rfl rfl fun w15 hb3 hc hF => ?_
  have hC := hC.trans' hc (fun x hx => .inr (by subst hx; (try dsimp only at *); omega))
  have hb2 := hb2.chg hc (by omega)
  have o38 := o34.chg hc (fun k _ hG hs => by subst hs; (try dsimp only at *); omega) (fun _ h => h.elim)
  have o39 := o35.chg hc (fun k _ hG hs => by subst hs; (try dsimp only at *); omega) (fun _ h => h.elim)
  have o40 := o36.chg hc (fun k _ hG hs => by subst hs; (try dsimp only at *); omega) (fun _ h => h.elim)
  have o41 := o37.chg hc (fun k _ hG hs => by subst hs; (try dsimp only at *); omega) (fun _ h => h.elim)
  have z15 := hc.size
  refine from_end rfl (then_normal ?_)
  refine wp_seq (wp_text' ?_)
  refine s_loadBoxS ty29 rfl rfl hF rfl hb3 rfl rfl fun fr hF => ?_
  refine s_storeBoxS [.int .i64 p0.Pc, .slice a5 (List.length x1) c5, .slice a6 (List.length x2) c6, .slice a7 (List.length x3) c7, .int .i64 p0.In, .slice a8 (List.length x4) c8, .int .i64 p0.Code, .int .i64 p0.Steps] rfl hF rfl rfl (by kernel_rfl) hb2 rfl rfl rfl fun w16 hb2 hc hF => ?_
  have hC := hC.trans' hc (fun x hx => .inr (by subst hx; (try dsimp only at *); omega))
  have o42 := o38.chg hc (fun k _ hG hs => by subst hs; (try dsimp only at *); omega) (fun _ h => h.elim)
  have o43 := o39.chg hc (fun k _ hG hs => by subst hs; (try dsimp only at *); omega) (fun _ h => h.elim)
  have o44 := o40.chg hc (fun k _ hG hs => by subst hs; (try dsimp only at *); omega) (fun _ h => h.elim)
  have o45 := o41.chg hc (fun k _ hG hs => by subst hs; (try dsimp only at *); omega) (fun _ h => h.elim)
  have z16 := hc.size
  refine from_end rfl (then_normal ?_)
  obtain rfl := Option.some.inj h
  exact wp_ret (retS rfl hF ty29 rfl rfl hb2 rfl ⟨_, rfl, _, rfl, hC, (RV.mk_State (D.State.mk p0.Pc x1 x2 x3 p0.In x4 p0.Code p0.Steps) (RV.sub o42.rv fun k hk hf => by simp only [Non, or_false] at *; (try dsimp only at *); omega) (RV.sub o43.rv fun k hk hf => by simp only [Non, or_false] at *; (try dsimp only at *); omega) (RV.sub o44.rv fun k hk hf => by simp only [Non, or_false] at *; (try dsimp only at *); omega) (RV.sub o45.rv fun k hk hf => by simp only [Non, or_false] at *; (try dsimp only at *); omega))⟩)

theorem spec_l05Ints_ok (n : Nat) (p0 : List Int) (p1 : List Int) {r : Bool} (h : spec_l05Ints n p0 p1 = some r) {w : World} {F0 : Nat → Prop} {va0 : Value} (ra0 : RV w F0 va0 p0) {F1 : Nat → Prop} {va1 : Value} (ra1 : RV w F1 va1 p1) :
    Calls Try.prog 39 [va0, va1].toArray w fun e w' => ∃ v, e = .returned v ∧ v = .bool r ∧ Chg Non w w' := by
  unfold spec_l05Ints at h
  have ra0 := ra0.sub (F' := fun k => k < w.heap.size) (fun k hk _ => hk)
  obtain ⟨a1, c1, rfl, -⟩ := ra0.slice
  have ra1 := ra1.sub (F' := fun k => k < w.heap.size) (fun k hk _ => hk)
  obtain ⟨a2, c2, rfl, -⟩ := ra1.slice
  have hC : Chg Non w w := Chg.refl _ _
  refine enter (N := 26) Try.func39 rfl Try.ntmps39 rfl fun fr hF => ?_
  refine wp_seq (wp_pure [(0, .slice a1 (List.length p0) c1), (1, .slice a2 (List.length p1) c2)] hF (by kernel_rfl) fun fr hF => then_normal ?_)
  refine wp_seq ?_
  refine wp_seq (wp_pure [(0, .slice a1 (List.length p0) c1), (1, .slice a2 (List.length p1) c2), (11, .bool ((len p0) != (len p1)))] hF (by kernel_rfl) fun fr hF => then_normal ?_)
  refine (wp_if hF (b := ((len p0) != (len p1))) rfl (fun hb => ?_) (fun hb => ?_))
  · replace h := iteT hb h
    refine wp_seq (wp_pure [(4, .bool false)] hF (by kernel_rfl) fun fr hF => then_normal ?_)
    obtain rfl := Option.some.inj h
    exact wp_ret (then_ret (ret1 rfl hF rfl ⟨_, rfl, rfl, hC⟩))
  · replace h := iteF hb h
    refine (wp_skip (then_normal ?_))
    refine wp_seq ?_
    refine wp_seq (wp_pure [(1, .slice a2 (List.length p1) c2), (12, .slice a1 (List.length p0) c1), (13, .int .i64 (len p0)), (14, .int .i64 0)] hF (by kernel_rfl) fun fr hF => then_normal ?_)
    obtain ⟨rl1, hit1, h⟩ := bindE h
    have hk1 := h
    refine (wp_cut (M := fun fr w' => ∃ s, rl1 = .inl s ∧ FrS 26 [] fr ∧ Chg (Non) w w') (wp_block (wp_iter (Inv := fun s1 fr w' => FrS 26 [(1, .slice a2 (List.length p1) c2), (12, .slice a1 (List.length p0) c1), (13, .int .i64 (len p0)), (14, .int .i64 s1)] fr ∧ Chg (Non) w w') hit1 ⟨hF.sub _ (by kernel_rfl), Chg.refl _ _⟩ fun s1 q1 fr w1i hI h hr1 => ?_)) fun fr w1o hM => ?_)
    · obtain ⟨hF, hc⟩ := hI
      have zLw1i := hc.size
      have hC := hC.trans hc
      have ra1 := ra1.ext hc
      have ra0 := ra0.ext hc
      have hL1 := hc
      refine wp_seq (wp_pure [(1, .slice a2 (List.length p1) c2), (12, .slice a1 (List.length p0) c1), (13, .int .i64 (len p0)), (14, .int .i64 s1), (15, .bool (decide (s1 < (len p0))))] hF (by kernel_rfl) fun fr hF => then_normal ?_)
      refine wp_seq (wp_if hF (b := (decide (s1 < (len p0)))) rfl (fun hb => ?_) (fun hb => ?_))
      · replace h := iteT hb h
        refine (wp_skip (then_normal ?_))
        refine wp_seq (wp_block ?_)
        refine wp_seq (wp_text' ?_)
        refine from_pure 1 [(1, .slice a2 (List.length p1) c2), (12, .slice a1 (List.length p0) c1), (13, .int .i64 (len p0)), (14, .int .i64 s1), (16, .int .i64 s1)] hF (by kernel_rfl) fun fr hF => ?_
        obtain ⟨x1, hx1, h⟩ := bindE h
        refine s_elemF (z := x1) (.int .i64 x1) ty3 Try.underlying24 rfl rfl rfl rfl rfl hF rfl (ra0) rfl (get?_nn hx1) (get?_at hx1) rfl fun p fr hF => ?_
        refine from_pure 2 [(1, .slice a2 (List.length p1) c2), (5, .int .i64 s1), (6, .int .i64 x1), (12, .slice a1 (List.length p0) c1), (13, .int .i64 (len p0)), (14, .int .i64 s1)] hF (by kernel_rfl) fun fr hF => ?_
        refine from_end rfl (then_normal ?_)
        refine wp_seq (wp_text' ?_)
        refine from_pure 3 [(1, .slice a2 (List.length p1) c2), (12, .slice a1 (List.length p0) c1), (13, .int .i64 (len p0)), (14, .int .i64 s1), (19, .int .i64 x1), (20, .slice a2 (List.length p1) c2), (21, .int .i64 s1)] hF (by kernel_rfl) fun fr hF => ?_
        obtain ⟨x2, hx2, h⟩ := bindE h
        refine s_elemF (z := x2) (.int .i64 x2) ty3 Try.underlying24 rfl rfl rfl rfl rfl hF rfl (ra1) rfl (get?_nn hx2) (get?_at hx2) rfl fun p fr hF => ?_
        refine from_pure 1 [(1, .slice a2 (List.length p1) c2), (12, .slice a1 (List.length p0) c1), (13, .int .i64 (len p0)), (14, .int .i64 s1), (24, .bool (x1 != x2))] hF (by kernel_rfl) fun fr hF => ?_
        refine from_end rfl (then_normal ?_)
        refine (wp_if hF (b := (x1 != x2)) rfl (fun hb => ?_) (fun hb => ?_))
        · replace h := iteT hb h
          refine wp_seq (wp_pure [(4, .bool false)] hF (by kernel_rfl) fun fr hF => then_normal ?_)
          obtain rfl := hr1 _ (Option.some.inj h).symm
          obtain rfl := Option.some.inj hk1
          exact wp_ret (blk_ret (then_ret (then_ret (blk_ret (then_ret (ret1 rfl hF rfl ⟨_, rfl, rfl, hC⟩))))))
        · replace h := iteF hb h
          refine (wp_skip ?_)
          refine blk_normal (then_normal ?_)
          refine (wp_pure [(1, .slice a2 (List.length p1) c2), (12, .slice a1 (List.length p0) c1), (13, .int .i64 (len p0)), (14, .int .i64 (w64 (s1 + 1)))] hF (by kernel_rfl) fun fr hF => then_normal ?_)
          exact ⟨_, (Option.some.inj h).symm, hF.sub _ (by kernel_rfl), hL1⟩
      · replace h := iteF hb h
        refine (wp_exit (then_exit (then_exit (blk_exit_eq ?_))))
        obtain rfl := hr1 _ (Option.some.inj h).symm
        exact then_normal ⟨_, rfl, hF.sub _ (by kernel_rfl), hL1⟩
    · obtain ⟨s1r, rfl, hM⟩ := hM
      obtain ⟨hF, hc⟩ := hM
      have zLw1o := hc.size
      have hC := hC.trans hc
      refine wp_seq (wp_pure [(4, .bool true)] hF (by kernel_rfl) fun fr hF => then_normal ?_)
      obtain rfl := Option.some.inj h
      exact wp_ret (ret1 rfl hF rfl ⟨_, rfl, rfl, hC⟩)

theorem spec_SameRun_ok (n : Nat) (p0 : D.State) (p1 : D.State) {r : Bool} (h : spec_SameRun n p0 p1 = some r) {w : World} {F0 : Nat → Prop} {va0 : Value} (ra0 : RV w F0 va0 p0) {F1 : Nat → Prop} {va1 : Value} (ra1 : RV w F1 va1 p1) :
    Calls Try.prog 12 [va0, va1].toArray w fun e w' => ∃ v, e = .returned v ∧ v = .bool r ∧ Chg Non w w' := by
  unfold spec_SameRun at h
  have ra0 := ra0.sub (F' := fun k => k < w.heap.size) (fun k hk _ => hk)
  obtain ⟨v1, v2, v3, v4, rfl, r1, r2, r3, r4⟩ := RV.State ra0
  obtain ⟨a1, c1, rfl, -⟩ := r1.slice
  obtain ⟨a2, c2, rfl, -⟩ := r2.slice
  obtain ⟨a3, c3, rfl, -⟩ := r3.slice
  obtain ⟨a4, c4, rfl, -⟩ := r4.slice
  have ra1 := ra1.sub (F' := fun k => k < w.heap.size) (fun k hk _ => hk)
  obtain ⟨v5, v6, v7, v8, rfl, r5, r6, r7, r8⟩ := RV.State ra1
  obtain ⟨a5, c5, rfl, -⟩ := r5.slice
  obtain ⟨a6, c6, rfl, -⟩ := r6.slice
  obtain ⟨a7, c7, rfl, -⟩ := r7.slice
  obtain ⟨a8, c8, rfl, -⟩ := r8.slice
  have hC : Chg Non w w := Chg.refl _ _
  refine enter (N := 17) Try.func12 rfl Try.ntmps12 rfl fun fr hF => ?_
  refine wp_seq (wp_text' ?_)
  refine s_box [.int .i64 p0.Pc, .slice a1 (List.length p0.Regs) c1, .slice a2 (List.length p0.Mem) c2, .slice a3 (List.length p0.Stack) c3, .int .i64 p0.In, .slice a4 (List.length p0.Out) c4, .int .i64 p0.Code, .int .i64 p0.Steps] rfl rfl hF rfl rfl fun b1 w1 fr b1lo hb1 hc hF => ?_
  have hC := hC.trans hc
  have r1 := r1.ext hc
  have r2 := r2.ext hc
  have r3 := r3.ext hc
  have r4 := r4.ext hc
  have r5 := r5.ext hc
  have r6 := r6.ext hc
  have r7 := r7.ext hc
  have r8 := r8.ext hc
  have z1 := hc.size
  have b1hi := hb1.lt
  refine s_box [.int .i64 p1.Pc, .slice a5 (List.length p1.Regs) c5, .slice a6 (List.length p1.Mem) c6, .slice a7 (List.length p1.Stack) c7, .int .i64 p1.In, .slice a8 (List.length p1.Out) c8, .int .i64 p1.Code, .int .i64 p1.Steps] rfl rfl hF rfl rfl fun b2 w2 fr b2lo hb2 hc hF => ?_
  have hC := hC.trans hc
  have r5 := r5.ext hc
  have r6 := r6.ext hc
  have r7 := r7.ext hc
  have r8 := r8.ext hc
  have r1 := r1.ext hc
  have r2 := r2.ext hc
  have r3 := r3.ext hc
  have r4 := r4.ext hc
  have hb1 := hb1.ext hc
  have z2 := hc.size
  have b2hi := hb2.lt
  refine from_pure 1 [(2, .pointer (some ⟨b1, 0, none⟩)), (3, .pointer (some ⟨b2, 0, none⟩))] hF (by kernel_rfl) fun fr hF => ?_
  refine from_end rfl (then_normal ?_)
  obtain ⟨x1, hx1, h⟩ := bindE h
  refine wp_seq (region_b [] [true, false, true, false, true, true, true, false, true, false, false, true, true]
      [.eq (.pointer (some ⟨b1, 6, none⟩)), .eq (.int .i64 p0.Code), .eq (.pointer (some ⟨b2, 6, none⟩)), .eq (.int .i64 p1.Code), .eq (.bool (p0.Code == p1.Code)), .eq (.bool (p0.Code == p1.Code)), .eq (.pointer (some ⟨b1, 5, none⟩)), .eq (.slice a4 (List.length p0.Out) c4), .eq (.pointer (some ⟨b2, 5, none⟩)), .eq (.slice a8 (List.length p1.Out) c8), .eq (.bool x1), .eq (.bool ((p0.Code == p1.Code) && x1)), .eq (.bool ((p0.Code == p1.Code) && x1))]
      [(4, .bool ((p0.Code == p1.Code) && x1))] mix hF (by kernel_rfl) (by kernel_rfl) (by kernel_rfl) ⟨Pd.mono_eq, Pd.mono_eq, Pd.mono_eq, Pd.mono_eq, Pd.mono_eq, trivial⟩ (fun hG => ⟨np_loadBox hG hF ty3 rfl rfl hb1 rfl rfl rfl, np_loadBox hG hF ty3 rfl rfl hb2 rfl rfl rfl, np_loadBox hG hF ty24 rfl rfl hb1 rfl rfl rfl, np_loadBox hG hF ty24 rfl rfl hb2 rfl rfl rfl, np_call [.slice a4 (List.length p0.Out) c4, .slice a8 (List.length p1.Out) c8] hG hF Try.call39 rfl rfl (fun w hC hg => (spec_l05Ints_ok n p0.Out p1.Out (iteT hg.2 hx1) (r4.ext hC) (r8.ext hC)).mono fun e w' ⟨v, he, hv, hc⟩ => ⟨v, he, hc, hv⟩), trivial⟩) (by kernel_rfl) fun fr w3 hF hE hc => then_normal ?_)
  have hC := hC.trans hc
  have z3 := hc.size
  obtain rfl := Option.some.inj h
  exact wp_ret (ret1 rfl hF rfl ⟨_, rfl, rfl, hC⟩)

theorem slices_Equal___int_int__ok (n : Nat) (p0 : List Int) (p1 : List Int) {r : Bool} (h : slices_Equal___int_int_ n p0 p1 = some r) {w : World} {F0 : Nat → Prop} {va0 : Value} (ra0 : RV w F0 va0 p0) {F1 : Nat → Prop} {va1 : Value} (ra1 : RV w F1 va1 p1) :
    Calls Try.prog 40 [va0, va1].toArray w fun e w' => ∃ v, e = .returned v ∧ v = .bool r ∧ Chg Non w w' := by
  unfold slices_Equal___int_int_ at h
  have ra0 := ra0.sub (F' := fun k => k < w.heap.size) (fun k hk _ => hk)
  obtain ⟨a1, c1, rfl, -⟩ := ra0.slice
  have ra1 := ra1.sub (F' := fun k => k < w.heap.size) (fun k hk _ => hk)
  obtain ⟨a2, c2, rfl, -⟩ := ra1.slice
  have hC : Chg Non w w := Chg.refl _ _
  refine enter (N := 26) Try.func40 rfl Try.ntmps40 rfl fun fr hF => ?_
  refine wp_seq (wp_pure [(0, .slice a1 (List.length p0) c1), (1, .slice a2 (List.length p1) c2)] hF (by kernel_rfl) fun fr hF => then_normal ?_)
  refine wp_seq ?_
  refine wp_seq (wp_pure [(0, .slice a1 (List.length p0) c1), (1, .slice a2 (List.length p1) c2), (10, .bool ((len p0) != (len p1)))] hF (by kernel_rfl) fun fr hF => then_normal ?_)
  refine (wp_if hF (b := ((len p0) != (len p1))) rfl (fun hb => ?_) (fun hb => ?_))
  · replace h := iteT hb h
    refine wp_seq (wp_pure [(4, .bool false)] hF (by kernel_rfl) fun fr hF => then_normal ?_)
    obtain rfl := Option.some.inj h
    exact wp_ret (then_ret (ret1 rfl hF rfl ⟨_, rfl, rfl, hC⟩))
  · replace h := iteF hb h
    refine (wp_skip (then_normal ?_))
    refine wp_seq ?_
    refine wp_seq (wp_pure [(0, .slice a1 (List.length p0) c1), (1, .slice a2 (List.length p1) c2), (12, .int .i64 (len p0)), (13, .int .i64 0)] hF (by kernel_rfl) fun fr hF => then_normal ?_)
    obtain ⟨rl1, hit1, h⟩ := bindE h
    have hk1 := h
    refine (wp_cut (M := fun fr w' => ∃ s, rl1 = .inl s ∧ FrS 26 [] fr ∧ Chg (Non) w w') (wp_block (wp_iter (Inv := fun s1 fr w' => FrS 26 [(0, .slice a1 (List.length p0) c1), (1, .slice a2 (List.length p1) c2), (12, .int .i64 (len p0)), (13, .int .i64 s1)] fr ∧ Chg (Non) w w') hit1 ⟨hF.sub _ (by kernel_rfl), Chg.refl _ _⟩ fun s1 q1 fr w1i hI h hr1 => ?_)) fun fr w1o hM => ?_)
    · obtain ⟨hF, hc⟩ := hI
      have zLw1i := hc.size
      have hC := hC.trans hc
      have ra0 := ra0.ext hc
      have ra1 := ra1.ext hc
      have hL1 := hc
      refine wp_seq (wp_pure [(0, .slice a1 (List.length p0) c1), (1, .slice a2 (List.length p1) c2), (12, .int .i64 (len p0)), (13, .int .i64 s1), (14, .bool (decide (s1 < (len p0))))] hF (by kernel_rfl) fun fr hF => then_normal ?_)
      refine wp_seq (wp_if hF (b := (decide (s1 < (len p0)))) rfl (fun hb => ?_) (fun hb => ?_))
      · replace h := iteT hb h
        refine (wp_skip (then_normal ?_))
        refine wp_seq (wp_block ?_)
        refine wp_seq (wp_pure [(0, .slice a1 (List.length p0) c1), (1, .slice a2 (List.length p1) c2), (5, .int .i64 s1), (12, .int .i64 (len p0)), (13, .int .i64 s1)] hF (by kernel_rfl) fun fr hF => then_normal ?_)
        obtain ⟨x1, hx1, h⟩ := bindE h
        obtain ⟨x2, hx2, h⟩ := bindE h
        refine wp_seq (region_b [0, 0, 3, 7, 0, 0, 48, 112, 255] [true, true, false, false, true, true, false, false, true]
            [.eq (.slice a1 (List.length p0) c1), .eq (.int .i64 s1), .is fun v w => ElemP w (fun k => k < w1i.heap.size) v (x1 : Int), .eq (.int .i64 x1), .eq (.slice a2 (List.length p1) c2), .eq (.int .i64 s1), .is fun v w => ElemP w (fun k => k < w1i.heap.size) v (x2 : Int), .eq (.int .i64 x2), .eq (.bool (x1 != x2))]
            [(0, .slice a1 (List.length p0) c1), (1, .slice a2 (List.length p1) c2), (12, .int .i64 (len p0)), (13, .int .i64 s1), (24, .bool (x1 != x2))] mix hF (by kernel_rfl) (by kernel_rfl) (by kernel_rfl) ⟨mono_elem, Pd.mono_eq, mono_elem, Pd.mono_eq, trivial⟩ (fun hG => ⟨np_index hG hF ty3 Try.underlying24 rfl rfl (RV.sub (ra0) fun k hk _ => hk) rfl rfl (fun hg => ⟨get?_nn hx1, get?_at hx1⟩), np_loadF (z := x1) (i := 2) hG hF ty3 rfl rfl rfl rfl rfl rfl rfl, np_index hG hF ty3 Try.underlying24 rfl rfl (RV.sub (ra1) fun k hk _ => hk) rfl rfl (fun hg => ⟨get?_nn hx2, get?_at hx2⟩), np_loadF (z := x2) (i := 6) hG hF ty3 rfl rfl rfl rfl rfl rfl rfl, trivial⟩) (by kernel_rfl) fun fr w1 hF hE hc => then_normal ?_)
        have hC := hC.trans hc
        have ra0 := ra0.ext hc
        have ra1 := ra1.ext hc
        have z1 := hc.size
        have hL2 := hL1.trans' hc (fun _ hx => False.elim hx)
        refine (wp_if hF (b := (x1 != x2)) rfl (fun hb => ?_) (fun hb => ?_))
        · replace h := iteT hb h
          refine wp_seq (wp_pure [(4, .bool false)] hF (by kernel_rfl) fun fr hF => then_normal ?_)
          obtain rfl := hr1 _ (Option.some.inj h).symm
          obtain rfl := Option.some.inj hk1
          exact wp_ret (blk_ret (then_ret (then_ret (blk_ret (then_ret (ret1 rfl hF rfl ⟨_, rfl, rfl, hC⟩))))))
        · replace h := iteF hb h
          refine (wp_skip ?_)
          refine blk_normal (then_normal ?_)
          refine (wp_pure [(0, .slice a1 (List.length p0) c1), (1, .slice a2 (List.length p1) c2), (12, .int .i64 (len p0)), (13, .int .i64 (w64 (s1 + 1)))] hF (by kernel_rfl) fun fr hF => then_normal ?_)
          exact ⟨_, (Option.some.inj h).symm, hF.sub _ (by kernel_rfl), hL2⟩
      · replace h := iteF hb h
        refine (wp_exit (then_exit (then_exit (blk_exit_eq ?_))))
        obtain rfl := hr1 _ (Option.some.inj h).symm
        exact then_normal ⟨_, rfl, hF.sub _ (by kernel_rfl), hL1⟩
    · obtain ⟨s1r, rfl, hM⟩ := hM
      obtain ⟨hF, hc⟩ := hM
      have zLw1o := hc.size
      have hC := hC.trans hc
      refine wp_seq (wp_pure [(4, .bool true)] hF (by kernel_rfl) fun fr hF => then_normal ?_)
      obtain rfl := Option.some.inj h
      exact wp_ret (ret1 rfl hF rfl ⟨_, rfl, rfl, hC⟩)

theorem impl_SameRun_ok (n : Nat) (p0 : D.State) (p1 : D.State) {r : Bool} (h : impl_SameRun n p0 p1 = some r) {w : World} {F0 : Nat → Prop} {va0 : Value} (ra0 : RV w F0 va0 p0) {F1 : Nat → Prop} {va1 : Value} (ra1 : RV w F1 va1 p1) :
    Calls Try.prog 14 [va0, va1].toArray w fun e w' => ∃ v, e = .returned v ∧ v = .bool r ∧ Chg Non w w' := by
  unfold impl_SameRun at h
  have ra0 := ra0.sub (F' := fun k => k < w.heap.size) (fun k hk _ => hk)
  obtain ⟨v1, v2, v3, v4, rfl, r1, r2, r3, r4⟩ := RV.State ra0
  obtain ⟨a1, c1, rfl, -⟩ := r1.slice
  obtain ⟨a2, c2, rfl, -⟩ := r2.slice
  obtain ⟨a3, c3, rfl, -⟩ := r3.slice
  obtain ⟨a4, c4, rfl, -⟩ := r4.slice
  have ra1 := ra1.sub (F' := fun k => k < w.heap.size) (fun k hk _ => hk)
  obtain ⟨v5, v6, v7, v8, rfl, r5, r6, r7, r8⟩ := RV.State ra1
  obtain ⟨a5, c5, rfl, -⟩ := r5.slice
  obtain ⟨a6, c6, rfl, -⟩ := r6.slice
  obtain ⟨a7, c7, rfl, -⟩ := r7.slice
  obtain ⟨a8, c8, rfl, -⟩ := r8.slice
  have hC : Chg Non w w := Chg.refl _ _
  refine enter (N := 17) Try.func14 rfl Try.ntmps14 rfl fun fr hF => ?_
  refine wp_seq (wp_text' ?_)
  refine s_box [.int .i64 p0.Pc, .slice a1 (List.length p0.Regs) c1, .slice a2 (List.length p0.Mem) c2, .slice a3 (List.length p0.Stack) c3, .int .i64 p0.In, .slice a4 (List.length p0.Out) c4, .int .i64 p0.Code, .int .i64 p0.Steps] rfl rfl hF rfl rfl fun b1 w1 fr b1lo hb1 hc hF => ?_
  have hC := hC.trans hc
  have r1 := r1.ext hc
  have r2 := r2.ext hc
  have r3 := r3.ext hc
  have r4 := r4.ext hc
  have r5 := r5.ext hc
  have r6 := r6.ext hc
  have r7 := r7.ext hc
  have r8 := r8.ext hc
  have z1 := hc.size
  have b1hi := hb1.lt
  refine s_box [.int .i64 p1.Pc, .slice a5 (List.length p1.Regs) c5, .slice a6 (List.length p1.Mem) c6, .slice a7 (List.length p1.Stack) c7, .int .i64 p1.In, .slice a8 (List.length p1.Out) c8, .int .i64 p1.Code, .int .i64 p1.Steps] rfl rfl hF rfl rfl fun b2 w2 fr b2lo hb2 hc hF => ?_
  have hC := hC.trans hc
  have r5 := r5.ext hc
  have r6 := r6.ext hc
  have r7 := r7.ext hc
  have r8 := r8.ext hc
  have r1 := r1.ext hc
  have r2 := r2.ext hc
  have r3 := r3.ext hc
  have r4 := r4.ext hc
  have hb1 := hb1.ext hc
  have z2 := hc.size
  have b2hi := hb2.lt
  refine from_pure 1 [(2, .pointer (some ⟨b1, 0, none⟩)), (3, .pointer (some ⟨b2, 0, none⟩))] hF (by kernel_rfl) fun fr hF => ?_
  refine from_end rfl (then_normal ?_)
  obtain ⟨x1, hx1, h⟩ := bindE h
  refine wp_seq (region_b [] [true, false, true, false, true, true, true, false, true, false, false, true, true]
      [.eq (.pointer (some ⟨b1, 6, none⟩)), .eq (.int .i64 p0.Code), .eq (.pointer (some ⟨b2, 6, none⟩)), .eq (.int .i64 p1.Code), .eq (.bool (p0.Code == p1.Code)), .eq (.bool (p0.Code == p1.Code)), .eq (.pointer (some ⟨b1, 5, none⟩)), .eq (.slice a4 (List.length p0.Out) c4), .eq (.pointer (some ⟨b2, 5, none⟩)), .eq (.slice a8 (List.length p1.Out) c8), .eq (.bool x1), .eq (.bool ((p0.Code == p1.Code) && x1)), .eq (.bool ((p0.Code == p1.Code) && x1))]
      [(4, .bool ((p0.Code == p1.Code) && x1))] mix hF (by kernel_rfl) (by kernel_rfl) (by kernel_rfl) ⟨Pd.mono_eq, Pd.mono_eq, Pd.mono_eq, Pd.mono_eq, Pd.mono_eq, trivial⟩ (fun hG => ⟨np_loadBox hG hF ty3 rfl rfl hb1 rfl rfl rfl, np_loadBox hG hF ty3 rfl rfl hb2 rfl rfl rfl, np_loadBox hG hF ty24 rfl rfl hb1 rfl rfl rfl, np_loadBox hG hF ty24 rfl rfl hb2 rfl rfl rfl, np_call [.slice a4 (List.length p0.Out) c4, .slice a8 (List.length p1.Out) c8] hG hF Try.call40 rfl rfl (fun w hC hg => (slices_Equal___int_int__ok n p0.Out p1.Out (iteT hg.2 hx1) (r4.ext hC) (r8.ext hC)).mono fun e w' ⟨v, he, hv, hc⟩ => ⟨v, he, hc, hv⟩), trivial⟩) (by kernel_rfl) fun fr w3 hF hE hc => then_normal ?_)
  have hC := hC.trans hc
  have z3 := hc.size
  obtain rfl := Option.some.inj h
  exact wp_ret (ret1 rfl hF rfl ⟨_, rfl, rfl, hC⟩)

theorem laws_eqIntS_ok (n : Nat) (p0 : List Int) (p1 : List Int) {r : Bool} (h : laws_eqIntS n p0 p1 = some r) {w : World} {F0 : Nat → Prop} {va0 : Value} (ra0 : RV w F0 va0 p0) {F1 : Nat → Prop} {va1 : Value} (ra1 : RV w F1 va1 p1) :
    Calls Try.prog 36 [va0, va1].toArray w fun e w' => ∃ v, e = .returned v ∧ v = .bool r ∧ Chg Non w w' := by
  unfold laws_eqIntS at h
  have ra0 := ra0.sub (F' := fun k => k < w.heap.size) (fun k hk _ => hk)
  obtain ⟨a1, c1, rfl, -⟩ := ra0.slice
  have ra1 := ra1.sub (F' := fun k => k < w.heap.size) (fun k hk _ => hk)
  obtain ⟨a2, c2, rfl, -⟩ := ra1.slice
  have hC : Chg Non w w := Chg.refl _ _
  refine enter (N := 26) Try.func36 rfl Try.ntmps36 rfl fun fr hF => ?_
  refine wp_seq (wp_pure [(0, .slice a1 (List.length p0) c1), (1, .slice a2 (List.length p1) c2)] hF (by kernel_rfl) fun fr hF => then_normal ?_)
  refine wp_seq ?_
  refine wp_seq (wp_pure [(0, .slice a1 (List.length p0) c1), (1, .slice a2 (List.length p1) c2), (10, .bool ((len p0) != (len p1)))] hF (by kernel_rfl) fun fr hF => then_normal ?_)
  refine (wp_if hF (b := ((len p0) != (len p1))) rfl (fun hb => ?_) (fun hb => ?_))
  · replace h := iteT hb h
    refine wp_seq (wp_pure [(4, .bool false)] hF (by kernel_rfl) fun fr hF => then_normal ?_)
    obtain rfl := Option.some.inj h
    exact wp_ret (then_ret (ret1 rfl hF rfl ⟨_, rfl, rfl, hC⟩))
  · replace h := iteF hb h
    refine (wp_skip (then_normal ?_))
    refine wp_seq ?_
    refine wp_seq (wp_pure [(0, .slice a1 (List.length p0) c1), (1, .slice a2 (List.length p1) c2), (5, .int .i64 0)] hF (by kernel_rfl) fun fr hF => then_normal ?_)
    obtain ⟨rl1, hit1, h⟩ := bindE h
    have hk1 := h
    refine (wp_cut (M := fun fr w' => ∃ s, rl1 = .inl s ∧ FrS 26 [] fr ∧ Chg (Non) w w') (wp_block (wp_iter (Inv := fun s1 fr w' => FrS 26 [(0, .slice a1 (List.length p0) c1), (1, .slice a2 (List.length p1) c2), (5, .int .i64 s1)] fr ∧ Chg (Non) w w') hit1 ⟨hF.sub _ (by kernel_rfl), Chg.refl _ _⟩ fun s1 q1 fr w1i hI h hr1 => ?_)) fun fr w1o hM => ?_)
    · obtain ⟨hF, hc⟩ := hI
      have zLw1i := hc.size
      have hC := hC.trans hc
      have ra0 := ra0.ext hc
      have ra1 := ra1.ext hc
      have hL1 := hc
      refine wp_seq ?_
      refine wp_seq (wp_pure [(0, .slice a1 (List.length p0) c1), (1, .slice a2 (List.length p1) c2), (5, .int .i64 s1), (14, .bool (decide (s1 < (len p0))))] hF (by kernel_rfl) fun fr hF => then_normal ?_)
      refine (wp_if hF (b := (decide (s1 < (len p0)))) rfl (fun hb => ?_) (fun hb => ?_))
      · replace h := iteT hb h
        refine (wp_skip (then_normal ?_))
        refine wp_seq (wp_block ?_)
        obtain ⟨x1, hx1, h⟩ := bindE h
        obtain ⟨x2, hx2, h⟩ := bindE h
        refine wp_seq (region_b [0, 0, 3, 7, 0, 0, 48, 112, 255] [true, true, false, false, true, true, false, false, true]
            [.eq (.slice a1 (List.length p0) c1), .eq (.int .i64 s1), .is fun v w => ElemP w (fun k => k < w1i.heap.size) v (x1 : Int), .eq (.int .i64 x1), .eq (.slice a2 (List.length p1) c2), .eq (.int .i64 s1), .is fun v w => ElemP w (fun k => k < w1i.heap.size) v (x2 : Int), .eq (.int .i64 x2), .eq (.bool (x1 != x2))]
            [(0, .slice a1 (List.length p0) c1), (1, .slice a2 (List.length p1) c2), (5, .int .i64 s1), (25, .bool (x1 != x2))] mix hF (by kernel_rfl) (by kernel_rfl) (by kernel_rfl) ⟨mono_elem, Pd.mono_eq, mono_elem, Pd.mono_eq, trivial⟩ (fun hG => ⟨np_index hG hF ty3 Try.underlying24 rfl rfl (RV.sub (ra0) fun k hk _ => hk) rfl rfl (fun hg => ⟨get?_nn hx1, get?_at hx1⟩), np_loadF (z := x1) (i := 2) hG hF ty3 rfl rfl rfl rfl rfl rfl rfl, np_index hG hF ty3 Try.underlying24 rfl rfl (RV.sub (ra1) fun k hk _ => hk) rfl rfl (fun hg => ⟨get?_nn hx2, get?_at hx2⟩), np_loadF (z := x2) (i := 6) hG hF ty3 rfl rfl rfl rfl rfl rfl rfl, trivial⟩) (by kernel_rfl) fun fr w1 hF hE hc => then_normal ?_)
        have hC := hC.trans hc
        have ra0 := ra0.ext hc
        have ra1 := ra1.ext hc
        have z1 := hc.size
        have hL2 := hL1.trans' hc (fun _ hx => False.elim hx)
        refine (wp_if hF (b := (x1 != x2)) rfl (fun hb => ?_) (fun hb => ?_))
        · replace h := iteT hb h
          refine wp_seq (wp_pure [(4, .bool false)] hF (by kernel_rfl) fun fr hF => then_normal ?_)
          obtain rfl := hr1 _ (Option.some.inj h).symm
          obtain rfl := Option.some.inj hk1
          exact wp_ret (blk_ret (then_ret (then_ret (blk_ret (then_ret (ret1 rfl hF rfl ⟨_, rfl, rfl, hC⟩))))))
        · replace h := iteF hb h
          refine (wp_skip ?_)
          refine blk_normal (then_normal ?_)
          refine (wp_pure [(0, .slice a1 (List.length p0) c1), (1, .slice a2 (List.length p1) c2), (5, .int .i64 (w64 (s1 + 1)))] hF (by kernel_rfl) fun fr hF => then_normal ?_)
          exact ⟨_, (Option.some.inj h).symm, hF.sub _ (by kernel_rfl), hL2⟩
      · replace h := iteF hb h
        refine (wp_exit (then_exit (then_exit (blk_exit_eq ?_))))
        obtain rfl := hr1 _ (Option.some.inj h).symm
        exact then_normal ⟨_, rfl, hF.sub _ (by kernel_rfl), hL1⟩
    · obtain ⟨s1r, rfl, hM⟩ := hM
      obtain ⟨hF, hc⟩ := hM
      have zLw1o := hc.size
      have hC := hC.trans hc
      refine wp_seq (wp_pure [(4, .bool true)] hF (by kernel_rfl) fun fr hF => then_normal ?_)
      obtain rfl := Option.some.inj h
      exact wp_ret (ret1 rfl hF rfl ⟨_, rfl, rfl, hC⟩)

theorem laws_eqState_ok (n : Nat) (p0 : D.State) (p1 : D.State) {r : Bool} (h : laws_eqState n p0 p1 = some r) {w : World} {F0 : Nat → Prop} {va0 : Value} (ra0 : RV w F0 va0 p0) {F1 : Nat → Prop} {va1 : Value} (ra1 : RV w F1 va1 p1) :
    Calls Try.prog 15 [va0, va1].toArray w fun e w' => ∃ v, e = .returned v ∧ v = .bool r ∧ Chg Non w w' := by
  unfold laws_eqState at h
  have ra0 := ra0.sub (F' := fun k => k < w.heap.size) (fun k hk _ => hk)
  obtain ⟨v1, v2, v3, v4, rfl, r1, r2, r3, r4⟩ := RV.State ra0
  obtain ⟨a1, c1, rfl, -⟩ := r1.slice
  obtain ⟨a2, c2, rfl, -⟩ := r2.slice
  obtain ⟨a3, c3, rfl, -⟩ := r3.slice
  obtain ⟨a4, c4, rfl, -⟩ := r4.slice
  have ra1 := ra1.sub (F' := fun k => k < w.heap.size) (fun k hk _ => hk)
  obtain ⟨v5, v6, v7, v8, rfl, r5, r6, r7, r8⟩ := RV.State ra1
  obtain ⟨a5, c5, rfl, -⟩ := r5.slice
  obtain ⟨a6, c6, rfl, -⟩ := r6.slice
  obtain ⟨a7, c7, rfl, -⟩ := r7.slice
  obtain ⟨a8, c8, rfl, -⟩ := r8.slice
  have hC : Chg Non w w := Chg.refl _ _
  refine enter (N := 49) Try.func15 rfl Try.ntmps15 rfl fun fr hF => ?_
  refine wp_seq (wp_text' ?_)
  refine s_box [.int .i64 p0.Pc, .slice a1 (List.length p0.Regs) c1, .slice a2 (List.length p0.Mem) c2, .slice a3 (List.length p0.Stack) c3, .int .i64 p0.In, .slice a4 (List.length p0.Out) c4, .int .i64 p0.Code, .int .i64 p0.Steps] rfl rfl hF rfl rfl fun b1 w1 fr b1lo hb1 hc hF => ?_
  have hC := hC.trans hc
  have r1 := r1.ext hc
  have r2 := r2.ext hc
  have r3 := r3.ext hc
  have r4 := r4.ext hc
  have r5 := r5.ext hc
  have r6 := r6.ext hc
  have r7 := r7.ext hc
  have r8 := r8.ext hc
  have z1 := hc.size
  have b1hi := hb1.lt
  refine s_box [.int .i64 p1.Pc, .slice a5 (List.length p1.Regs) c5, .slice a6 (List.length p1.Mem) c6, .slice a7 (List.length p1.Stack) c7, .int .i64 p1.In, .slice a8 (List.length p1.Out) c8, .int .i64 p1.Code, .int .i64 p1.Steps] rfl rfl hF rfl rfl fun b2 w2 fr b2lo hb2 hc hF => ?_
  have hC := hC.trans hc
  have r5 := r5.ext hc
  have r6 := r6.ext hc
  have r7 := r7.ext hc
  have r8 := r8.ext hc
  have r1 := r1.ext hc
  have r2 := r2.ext hc
  have r3 := r3.ext hc
  have r4 := r4.ext hc
  have hb1 := hb1.ext hc
  have z2 := hc.size
  have b2hi := hb2.lt
  refine from_pure 1 [(2, .pointer (some ⟨b1, 0, none⟩)), (3, .pointer (some ⟨b2, 0, none⟩))] hF (by kernel_rfl) fun fr hF => ?_
  refine from_end rfl (then_normal ?_)
  refine wp_seq ?_
  refine wp_seq (wp_text' ?_)
  refine from_pure 1 [(2, .pointer (some ⟨b1, 0, none⟩)), (3, .pointer (some ⟨b2, 0, none⟩)), (5, .pointer (some ⟨b1, 0, none⟩))] hF (by kernel_rfl) fun fr hF => ?_
  refine s_loadBox (.int .i64 p0.Pc) ty3 rfl rfl hF rfl hb1 rfl rfl fun fr hF => ?_
  refine from_pure 1 [(2, .pointer (some ⟨b1, 0, none⟩)), (3, .pointer (some ⟨b2, 0, none⟩)), (6, .int .i64 p0.Pc), (7, .pointer (some ⟨b2, 0, none⟩))] hF (by kernel_rfl) fun fr hF => ?_
  refine s_loadBox (.int .i64 p1.Pc) ty3 rfl rfl hF rfl hb2 rfl rfl fun fr hF => ?_
  refine from_pure 1 [(2, .pointer (some ⟨b1, 0, none⟩)), (3, .pointer (some ⟨b2, 0, none⟩)), (9, .bool (p0.Pc != p1.Pc))] hF (by kernel_rfl) fun fr hF => ?_
  refine from_end rfl (then_normal ?_)
  refine (wp_if hF (b := (p0.Pc != p1.Pc)) rfl (fun hb => ?_) (fun hb => ?_))
  · replace h := iteT hb h
    refine wp_seq (wp_pure [(4, .bool false)] hF (by kernel_rfl) fun fr hF => then_normal ?_)
    obtain rfl := Option.some.inj h
    exact wp_ret (then_ret (ret1 rfl hF rfl ⟨_, rfl, rfl, hC⟩))
  · replace h := iteF hb h
    refine (wp_skip (then_normal ?_))
    refine wp_seq ?_
    refine wp_seq (wp_text' ?_)
    refine from_pure 1 [(2, .pointer (some ⟨b1, 0, none⟩)), (3, .pointer (some ⟨b2, 0, none⟩)), (10, .pointer (some ⟨b1, 1, none⟩))] hF (by kernel_rfl) fun fr hF => ?_
    refine s_loadBox (.slice a1 (List.length p0.Regs) c1) ty24 rfl rfl hF rfl hb1 rfl rfl fun fr hF => ?_
    refine from_pure 1 [(2, .pointer (some ⟨b1, 0, none⟩)), (3, .pointer (some ⟨b2, 0, none⟩)), (11, .slice a1 (List.length p0.Regs) c1), (12, .pointer (some ⟨b2, 1, none⟩))] hF (by kernel_rfl) fun fr hF => ?_
    refine s_loadBox (.slice a5 (List.length p1.Regs) c5) ty24 rfl rfl hF rfl hb2 rfl rfl fun fr hF => ?_
    obtain ⟨x1, hx1, h⟩ := bindE h
    refine s_call [.slice a1 (List.length p0.Regs) c1, .slice a5 (List.length p1.Regs) c5] Try.call36 rfl rfl hF rfl (laws_eqIntS_ok n p0.Regs p1.Regs hx1 r1 r5) fun v w3 fr hR hF => ?_
    obtain ⟨rfl, hc⟩ := hR
    have hC := hC.trans hc
    have r1 := r1.ext hc
    have r5 := r5.ext hc
    have r2 := r2.ext hc
    have r3 := r3.ext hc
    have r4 := r4.ext hc
    have r6 := r6.ext hc
    have r7 := r7.ext hc
    have r8 := r8.ext hc
    have hb1 := hb1.ext hc
    have hb2 := hb2.ext hc
    have z3 := hc.size
    refine from_pure 1 [(2, .pointer (some ⟨b1, 0, none⟩)), (3, .pointer (some ⟨b2, 0, none⟩)), (15, .bool (!x1))] hF (by kernel_rfl) fun fr hF => ?_
    refine from_end rfl (then_normal ?_)
    refine (wp_if hF (b := (!x1)) rfl (fun hb => ?_) (fun hb => ?_))
    · replace h := iteT hb h
      refine wp_seq (wp_pure [(4, .bool false)] hF (by kernel_rfl) fun fr hF => then_normal ?_)
      obtain rfl := Option.some.inj h
      exact wp_ret (then_ret (ret1 rfl hF rfl ⟨_, rfl, rfl, hC⟩))
    · replace h := iteF hb h
      refine (wp_skip (then_normal ?_))
      refine wp_seq ?_
      refine wp_seq (wp_text' ?_)
      refine from_pure 1 [(2, .pointer (some ⟨b1, 0, none⟩)), (3, .pointer (some ⟨b2, 0, none⟩)), (16, .pointer (some ⟨b1, 2, none⟩))] hF (by kernel_rfl) fun fr hF => ?_
      refine s_loadBox (.slice a2 (List.length p0.Mem) c2) ty24 rfl rfl hF rfl hb1 rfl rfl fun fr hF => ?_
      refine from_pure 1 [(2, .pointer (some ⟨b1, 0, none⟩)), (3, .pointer (some ⟨b2, 0, none⟩)), (17, .slice a2 (List.length p0.Mem) c2), (18, .pointer (some ⟨b2, 2, none⟩))] hF (by kernel_rfl) fun fr hF => ?_
      refine s_loadBox (.slice a6 (List.length p1.Mem) c6) ty24 rfl rfl hF rfl hb2 rfl rfl fun fr hF => ?_
      obtain ⟨x2, hx2, h⟩ := bindE h
      refine s_call [.slice a2 (List.length p0.Mem) c2, .slice a6 (List.length p1.Mem) c6] Try.call36 rfl rfl hF rfl (laws_eqIntS_ok n p0.Mem p1.Mem hx2 r2 r6) fun v w4 fr hR hF => ?_
      obtain ⟨rfl, hc⟩ := hR
      have hC := hC.trans hc
      have r2 := r2.ext hc
      have r6 := r6.ext hc
      have r1 := r1.ext hc
      have r3 := r3.ext hc
      have r4 := r4.ext hc
      have r5 := r5.ext hc
      have r7 := r7.ext hc
      have r8 := r8.ext hc
      have hb1 := hb1.ext hc
      have hb2 := hb2.ext hc
      have z4 := hc.size
      refine from_pure 1 [(2, .pointer (some ⟨b1, 0, none⟩)), (3, .pointer (some ⟨b2, 0, none⟩)), (21, .bool (!x2))] hF (by kernel_rfl) fun fr hF => ?_
      refine from_end rfl (then_normal ?_)
      refine (wp_if hF (b := (!x2)) rfl (fun hb => ?_) (fun hb => ?_))
      · replace h := iteT hb h
        refine wp_seq (wp_pure [(4, .bool false)] hF (by kernel_rfl) fun fr hF => then_normal ?_)
        obtain rfl := Option.some.inj h
        exact wp_ret (then_ret (ret1 rfl hF rfl ⟨_, rfl, rfl, hC⟩))
      · replace h := iteF hb h
        refine (wp_skip (then_normal ?_))
        refine wp_seq ?_
        refine wp_seq (wp_text' ?_)
        refine from_pure 1 [(2, .pointer (some ⟨b1, 0, none⟩)), (3, .pointer (some ⟨b2, 0, none⟩)), (22, .pointer (some ⟨b1, 3, none⟩))] hF (by kernel_rfl) fun fr hF => ?_
        refine s_loadBox (.slice a3 (List.length p0.Stack) c3) ty24 rfl rfl hF rfl hb1 rfl rfl fun fr hF => ?_
        refine from_pure 1 [(2, .pointer (some ⟨b1, 0, none⟩)), (3, .pointer (some ⟨b2, 0, none⟩)), (23, .slice a3 (List.length p0.Stack) c3), (24, .pointer (some ⟨b2, 3, none⟩))] hF (by kernel_rfl) fun fr hF => ?_
        refine s_loadBox (.slice a7 (List.length p1.Stack) c7) ty24 rfl rfl hF rfl hb2 rfl rfl fun fr hF => ?_
        obtain ⟨x3, hx3, h⟩ := bindE h
        refine s_call [.slice a3 (List.length p0.Stack) c3, .slice a7 (List.length p1.Stack) c7] Try.call36 rfl rfl hF rfl (laws_eqIntS_ok n p0.Stack p1.Stack hx3 r3 r7) fun v w5 fr hR hF => ?_
        obtain ⟨rfl, hc⟩ := hR
        have hC := hC.trans hc
        have r3 := r3.ext hc
        have r7 := r7.ext hc
        have r1 := r1.ext hc
        have r2 := r2.ext hc
        have r4 := r4.ext hc
        have r5 := r5.ext hc
        have r6 := r6.ext hc
        have r8 := r8.ext hc
        have hb1 := hb1.ext hc
        have hb2 := hb2.ext hc
        have z5 := hc.size
        refine from_pure 1 [(2, .pointer (some ⟨b1, 0, none⟩)), (3, .pointer (some ⟨b2, 0, none⟩)), (27, .bool (!x3))] hF (by kernel_rfl) fun fr hF => ?_
        refine from_end rfl (then_normal ?_)
        refine (wp_if hF (b := (!x3)) rfl (fun hb => ?_) (fun hb => ?_))
        · replace h := iteT hb h
          refine wp_seq (wp_pure [(4, .bool false)] hF (by kernel_rfl) fun fr hF => then_normal ?_)
          obtain rfl := Option.some.inj h
          exact wp_ret (then_ret (ret1 rfl hF rfl ⟨_, rfl, rfl, hC⟩))
        · replace h := iteF hb h
          refine (wp_skip (then_normal ?_))
          refine wp_seq ?_
          refine wp_seq (wp_text' ?_)
          refine from_pure 1 [(2, .pointer (some ⟨b1, 0, none⟩)), (3, .pointer (some ⟨b2, 0, none⟩)), (28, .pointer (some ⟨b1, 4, none⟩))] hF (by kernel_rfl) fun fr hF => ?_
          refine s_loadBox (.int .i64 p0.In) ty3 rfl rfl hF rfl hb1 rfl rfl fun fr hF => ?_
          refine from_pure 1 [(2, .pointer (some ⟨b1, 0, none⟩)), (3, .pointer (some ⟨b2, 0, none⟩)), (29, .int .i64 p0.In), (30, .pointer (some ⟨b2, 4, none⟩))] hF (by kernel_rfl) fun fr hF => ?_
          refine s_loadBox (.int .i64 p1.In) ty3 rfl rfl hF rfl hb2 rfl rfl fun fr hF => ?_
          refine from_pure 1 [(2, .pointer (some ⟨b1, 0, none⟩)), (3, .pointer (some ⟨b2, 0, none⟩)), (32, .bool (p0.In != p1.In))] hF (by kernel_rfl) fun fr hF => ?_
          refine from_end rfl (then_normal ?_)
          refine (wp_if hF (b := (p0.In != p1.In)) rfl (fun hb => ?_) (fun hb => ?_))
          · replace h := iteT hb h
            refine wp_seq (wp_pure [(4, .bool false)] hF (by kernel_rfl) fun fr hF => then_normal ?_)
            obtain rfl := Option.some.inj h
            exact wp_ret (then_ret (ret1 rfl hF rfl ⟨_, rfl, rfl, hC⟩))
          · replace h := iteF hb h
            refine (wp_skip (then_normal ?_))
            refine wp_seq ?_
            refine wp_seq (wp_text' ?_)
            refine from_pure 1 [(2, .pointer (some ⟨b1, 0, none⟩)), (3, .pointer (some ⟨b2, 0, none⟩)), (33, .pointer (some ⟨b1, 5, none⟩))] hF (by kernel_rfl) fun fr hF => ?_
            refine s_loadBox (.slice a4 (List.length p0.Out) c4) ty24 rfl rfl hF rfl hb1 rfl rfl fun fr hF => ?_
            refine from_pure 1 [(2, .pointer (some ⟨b1, 0, none⟩)), (3, .pointer (some ⟨b2, 0, none⟩)), (34, .slice a4 (List.length p0.Out) c4), (35, .pointer (some ⟨b2, 5, none⟩))] hF (by kernel_rfl) fun fr hF => ?_
            refine s_loadBox (.slice a8 (List.length p1.Out) c8) ty24 rfl rfl hF rfl hb2 rfl rfl fun fr hF => ?_
            obtain ⟨x4, hx4, h⟩ := bindE h
            refine s_call [.slice a4 (List.length p0.Out) c4, .slice a8 (List.length p1.Out) c8] Try.call36 rfl rfl hF rfl (laws_eqIntS_ok n p0.Out p1.Out hx4 r4 r8) fun v w6 fr hR hF => ?_
            obtain ⟨rfl, hc⟩ := hR
            have hC := hC.trans hc
            have r4 := r4.ext hc
            have r8 := r8.ext hc
            have r1 := r1.ext hc
            have r2 := r2.ext hc
            have r3 := r3.ext hc
            have r5 := r5.ext hc
            have r6 := r6.ext hc
            have r7 := r7.ext hc
            have hb1 := hb1.ext hc
            have hb2 := hb2.ext hc
            have z6 := hc.size
            refine from_pure 1 [(2, .pointer (some ⟨b1, 0, none⟩)), (3, .pointer (some ⟨b2, 0, none⟩)), (38, .bool (!x4))] hF (by kernel_rfl) fun fr hF => ?_
            refine from_end rfl (then_normal ?_)
            refine (wp_if hF (b := (!x4)) rfl (fun hb => ?_) (fun hb => ?_))
            · replace h := iteT hb h
              refine wp_seq (wp_pure [(4, .bool false)] hF (by kernel_rfl) fun fr hF => then_normal ?_)
              obtain rfl := Option.some.inj h
              exact wp_ret (then_ret (ret1 rfl hF rfl ⟨_, rfl, rfl, hC⟩))
            · replace h := iteF hb h
              refine (wp_skip (then_normal ?_))
              refine wp_seq ?_
              refine wp_seq (wp_text' ?_)
              refine from_pure 1 [(2, .pointer (some ⟨b1, 0, none⟩)), (3, .pointer (some ⟨b2, 0, none⟩)), (39, .pointer (some ⟨b1, 6, none⟩))] hF (by kernel_rfl) fun fr hF => ?_
              refine s_loadBox (.int .i64 p0.Code) ty3 rfl rfl hF rfl hb1 rfl rfl fun fr hF => ?_
              refine from_pure 1 [(2, .pointer (some ⟨b1, 0, none⟩)), (3, .pointer (some ⟨b2, 0, none⟩)), (40, .int .i64 p0.Code), (41, .pointer (some ⟨b2, 6, none⟩))] hF (by kernel_rfl) fun fr hF => ?_
              refine s_loadBox (.int .i64 p1.Code) ty3 rfl rfl hF rfl hb2 rfl rfl fun fr hF => ?_
              refine from_pure 1 [(2, .pointer (some ⟨b1, 0, none⟩)), (3, .pointer (some ⟨b2, 0, none⟩)), (43, .bool (p0.Code != p1.Code))] hF (by kernel_rfl) fun fr hF => ?_
              refine from_end rfl (then_normal ?_)
              refine (wp_if hF (b := (p0.Code != p1.Code)) rfl (fun hb => ?_) (fun hb => ?_))
              · replace h := iteT hb h
                refine wp_seq (wp_pure [(4, .bool false)] hF (by kernel_rfl) fun fr hF => then_normal ?_)
                obtain rfl := Option.some.inj h
                exact wp_ret (then_ret (ret1 rfl hF rfl ⟨_, rfl, rfl, hC⟩))
              · replace h := iteF hb h
                refine (wp_skip (then_normal ?_))
                refine wp_seq ?_
                refine wp_seq (wp_text' ?_)
                refine from_pure 1 [(3, .pointer (some ⟨b2, 0, none⟩)), (44, .pointer (some ⟨b1, 7, none⟩))] hF (by kernel_rfl) fun fr hF => ?_
                refine s_loadBox (.int .i64 p0.Steps) ty3 rfl rfl hF rfl hb1 rfl rfl fun fr hF => ?_
                refine from_pure 1 [(45, .int .i64 p0.Steps), (46, .pointer (some ⟨b2, 7, none⟩))] hF (by kernel_rfl) fun fr hF => ?_
                refine s_loadBox (.int .i64 p1.Steps) ty3 rfl rfl hF rfl hb2 rfl rfl fun fr hF => ?_
                refine from_pure 1 [(48, .bool (p0.Steps != p1.Steps))] hF (by kernel_rfl) fun fr hF => ?_
                refine from_end rfl (then_normal ?_)
                refine (wp_if hF (b := (p0.Steps != p1.Steps)) rfl (fun hb => ?_) (fun hb => ?_))
                · replace h := iteT hb h
                  refine wp_seq (wp_pure [(4, .bool false)] hF (by kernel_rfl) fun fr hF => then_normal ?_)
                  obtain rfl := Option.some.inj h
                  exact wp_ret (then_ret (ret1 rfl hF rfl ⟨_, rfl, rfl, hC⟩))
                · replace h := iteF hb h
                  refine (wp_skip (then_normal ?_))
                  refine wp_seq (wp_pure [(4, .bool true)] hF (by kernel_rfl) fun fr hF => then_normal ?_)
                  obtain rfl := Option.some.inj h
                  exact wp_ret (ret1 rfl hF rfl ⟨_, rfl, rfl, hC⟩)

theorem laws_FnExactSameRun_ok (n : Nat) (p0 : D.State) (p1 : D.State) {r : Bool} (h : laws_FnExactSameRun n p0 p1 = some r) {w : World} {F0 : Nat → Prop} {va0 : Value} (ra0 : RV w F0 va0 p0) {F1 : Nat → Prop} {va1 : Value} (ra1 : RV w F1 va1 p1) :
    Calls Try.prog 4 [va0, va1].toArray w fun e w' => ∃ v, e = .returned v ∧ v = .bool r ∧ Chg Non w w' := by
  unfold laws_FnExactSameRun at h
  have ra0 := ra0.sub (F' := fun k => k < w.heap.size) (fun k hk _ => hk)
  obtain ⟨v1, v2, v3, v4, rfl, r1, r2, r3, r4⟩ := RV.State ra0
  obtain ⟨a1, c1, rfl, -⟩ := r1.slice
  obtain ⟨a2, c2, rfl, -⟩ := r2.slice
  obtain ⟨a3, c3, rfl, -⟩ := r3.slice
  obtain ⟨a4, c4, rfl, -⟩ := r4.slice
  have ra1 := ra1.sub (F' := fun k => k < w.heap.size) (fun k hk _ => hk)
  obtain ⟨v5, v6, v7, v8, rfl, r5, r6, r7, r8⟩ := RV.State ra1
  obtain ⟨a5, c5, rfl, -⟩ := r5.slice
  obtain ⟨a6, c6, rfl, -⟩ := r6.slice
  obtain ⟨a7, c7, rfl, -⟩ := r7.slice
  obtain ⟨a8, c8, rfl, -⟩ := r8.slice
  have hC : Chg Non w w := Chg.refl _ _
  refine enter (N := 45) Try.func4 rfl Try.ntmps4 rfl fun fr hF => ?_
  refine wp_seq (wp_text' ?_)
  refine s_box [.int .i64 p0.Pc, .slice a1 (List.length p0.Regs) c1, .slice a2 (List.length p0.Mem) c2, .slice a3 (List.length p0.Stack) c3, .int .i64 p0.In, .slice a4 (List.length p0.Out) c4, .int .i64 p0.Code, .int .i64 p0.Steps] rfl rfl hF rfl rfl fun b1 w1 fr b1lo hb1 hc hF => ?_
  have hC := hC.trans hc
  have r1 := r1.ext hc
  have r2 := r2.ext hc
  have r3 := r3.ext hc
  have r4 := r4.ext hc
  have r5 := r5.ext hc
  have r6 := r6.ext hc
  have r7 := r7.ext hc
  have r8 := r8.ext hc
  have z1 := hc.size
  have b1hi := hb1.lt
  refine s_box [.int .i64 p1.Pc, .slice a5 (List.length p1.Regs) c5, .slice a6 (List.length p1.Mem) c6, .slice a7 (List.length p1.Stack) c7, .int .i64 p1.In, .slice a8 (List.length p1.Out) c8, .int .i64 p1.Code, .int .i64 p1.Steps] rfl rfl hF rfl rfl fun b2 w2 fr b2lo hb2 hc hF => ?_
  have hC := hC.trans hc
  have r5 := r5.ext hc
  have r6 := r6.ext hc
  have r7 := r7.ext hc
  have r8 := r8.ext hc
  have r1 := r1.ext hc
  have r2 := r2.ext hc
  have r3 := r3.ext hc
  have r4 := r4.ext hc
  have hb1 := hb1.ext hc
  have z2 := hc.size
  have b2hi := hb2.lt
  refine from_pure 1 [(2, .pointer (some ⟨b1, 0, none⟩)), (3, .pointer (some ⟨b2, 0, none⟩))] hF (by kernel_rfl) fun fr hF => ?_
  refine from_end rfl (then_normal ?_)
  refine wp_seq (wp_pure [(2, .pointer (some ⟨b1, 0, none⟩)), (3, .pointer (some ⟨b2, 0, none⟩)), (5, .int .i64 1048576)] hF (by kernel_rfl) fun fr hF => then_normal ?_)
  refine wp_seq (wp_text' ?_)
  refine s_loadBoxS ty26 rfl rfl hF rfl hb1 rfl rfl fun fr hF => ?_
  refine from_pure 1 [(2, .pointer (some ⟨b1, 0, none⟩)), (3, .pointer (some ⟨b2, 0, none⟩)), (10, .agg #[.int .i64 p0.Pc, .slice a1 (List.length p0.Regs) c1, .slice a2 (List.length p0.Mem) c2, .slice a3 (List.length p0.Stack) c3, .int .i64 p0.In, .slice a4 (List.length p0.Out) c4, .int .i64 p0.Code, .int .i64 p0.Steps]), (11, .int .i64 1048576)] hF (by kernel_rfl) fun fr hF => ?_
  obtain ⟨x1, hx1, h⟩ := bindE h
  refine s_call [.agg #[.int .i64 p0.Pc, .slice a1 (List.length p0.Regs) c1, .slice a2 (List.length p0.Mem) c2, .slice a3 (List.length p0.Stack) c3, .int .i64 p0.In, .slice a4 (List.length p0.Out) c4, .int .i64 p0.Code, .int .i64 p0.Steps], .int .i64 1048576] Try.call11 rfl rfl hF rfl (laws_szState_ok p0 1048576 hx1 (RV.mk_State p0 (RV.any (r1)) (RV.any (r2)) (RV.any (r3)) (RV.any (r4)))) fun v w3 fr hR hF => ?_
  obtain ⟨rfl, hc⟩ := hR
  have hC := hC.trans hc
  have r1 := r1.ext hc
  have r2 := r2.ext hc
  have r3 := r3.ext hc
  have r4 := r4.ext hc
  have r5 := r5.ext hc
  have r6 := r6.ext hc
  have r7 := r7.ext hc
  have r8 := r8.ext hc
  have hb1 := hb1.ext hc
  have hb2 := hb2.ext hc
  have z3 := hc.size
  refine from_pure 1 [(2, .pointer (some ⟨b1, 0, none⟩)), (3, .pointer (some ⟨b2, 0, none⟩)), (5, .int .i64 x1)] hF (by kernel_rfl) fun fr hF => ?_
  refine from_end rfl (then_normal ?_)
  refine wp_seq ?_
  refine wp_seq (wp_pure [(2, .pointer (some ⟨b1, 0, none⟩)), (3, .pointer (some ⟨b2, 0, none⟩)), (5, .int .i64 x1), (14, .bool (decide (x1 < 0)))] hF (by kernel_rfl) fun fr hF => then_normal ?_)
  refine (wp_if hF (b := (decide (x1 < 0))) rfl (fun hb => ?_) (fun hb => ?_))
  · replace h := iteT hb h
    refine wp_seq (wp_pure [(4, .bool true)] hF (by kernel_rfl) fun fr hF => then_normal ?_)
    obtain rfl := Option.some.inj h
    exact wp_ret (then_ret (ret1 rfl hF rfl ⟨_, rfl, rfl, hC⟩))
  · replace h := iteF hb h
    refine (wp_skip (then_normal ?_))
    refine wp_seq (wp_text' ?_)
    refine s_loadBoxS ty26 rfl rfl hF rfl hb2 rfl rfl fun fr hF => ?_
    refine from_pure 1 [(2, .pointer (some ⟨b1, 0, none⟩)), (3, .pointer (some ⟨b2, 0, none⟩)), (15, .agg #[.int .i64 p1.Pc, .slice a5 (List.length p1.Regs) c5, .slice a6 (List.length p1.Mem) c6, .slice a7 (List.length p1.Stack) c7, .int .i64 p1.In, .slice a8 (List.length p1.Out) c8, .int .i64 p1.Code, .int .i64 p1.Steps]), (16, .int .i64 x1)] hF (by kernel_rfl) fun fr hF => ?_
    obtain ⟨x2, hx2, h⟩ := bindE h
    refine s_call [.agg #[.int .i64 p1.Pc, .slice a5 (List.length p1.Regs) c5, .slice a6 (List.length p1.Mem) c6, .slice a7 (List.length p1.Stack) c7, .int .i64 p1.In, .slice a8 (List.length p1.Out) c8, .int .i64 p1.Code, .int .i64 p1.Steps], .int .i64 x1] Try.call11 rfl rfl hF rfl (laws_szState_ok p1 x1 hx2 (RV.mk_State p1 (RV.any (r5)) (RV.any (r6)) (RV.any (r7)) (RV.any (r8)))) fun v w4 fr hR hF => ?_
    obtain ⟨rfl, hc⟩ := hR
    have hC := hC.trans hc
    have r5 := r5.ext hc
    have r6 := r6.ext hc
    have r7 := r7.ext hc
    have r8 := r8.ext hc
    have r1 := r1.ext hc
    have r2 := r2.ext hc
    have r3 := r3.ext hc
    have r4 := r4.ext hc
    have hb1 := hb1.ext hc
    have hb2 := hb2.ext hc
    have z4 := hc.size
    refine from_pure 1 [(2, .pointer (some ⟨b1, 0, none⟩)), (3, .pointer (some ⟨b2, 0, none⟩)), (5, .int .i64 x2)] hF (by kernel_rfl) fun fr hF => ?_
    refine from_end rfl (then_normal ?_)
    refine wp_seq ?_
    refine wp_seq (wp_pure [(2, .pointer (some ⟨b1, 0, none⟩)), (3, .pointer (some ⟨b2, 0, none⟩)), (19, .bool (decide (x2 < 0)))] hF (by kernel_rfl) fun fr hF => then_normal ?_)
    refine (wp_if hF (b := (decide (x2 < 0))) rfl (fun hb => ?_) (fun hb => ?_))
    · replace h := iteT hb h
      refine wp_seq (wp_pure [(4, .bool true)] hF (by kernel_rfl) fun fr hF => then_normal ?_)
      obtain rfl := Option.some.inj h
      exact wp_ret (then_ret (ret1 rfl hF rfl ⟨_, rfl, rfl, hC⟩))
    · replace h := iteF hb h
      refine (wp_skip (then_normal ?_))
      obtain ⟨x3, hx3, h⟩ := bindE h
      obtain ⟨x4, hx4, h⟩ := bindE h
      obtain ⟨x5, hx5, h⟩ := bindE h
      refine wp_seq (region_b [0, 1, 0, 7, 15, 31] [false, false, false, false, false, true]
          [.eq (.agg #[.int .i64 p0.Pc, .slice a1 (List.length p0.Regs) c1, .slice a2 (List.length p0.Mem) c2, .slice a3 (List.length p0.Stack) c3, .int .i64 p0.In, .slice a4 (List.length p0.Out) c4, .int .i64 p0.Code, .int .i64 p0.Steps]), .is fun v w => RV w (fun k => k < w.heap.size) v (x3 : D.State), .eq (.agg #[.int .i64 p1.Pc, .slice a5 (List.length p1.Regs) c5, .slice a6 (List.length p1.Mem) c6, .slice a7 (List.length p1.Stack) c7, .int .i64 p1.In, .slice a8 (List.length p1.Out) c8, .int .i64 p1.Code, .int .i64 p1.Steps]), .is fun v w => RV w (fun k => k < w.heap.size) v (x4 : D.State), .eq (.bool x5), .eq (.bool x5)]
          [(2, .pointer (some ⟨b1, 0, none⟩)), (3, .pointer (some ⟨b2, 0, none⟩)), (6, .bool x5)] mix hF (by kernel_rfl) (by kernel_rfl) (by kernel_rfl) ⟨Pd.mono_eq, mono_rvb, Pd.mono_eq, mono_rvb, Pd.mono_eq, trivial⟩ (fun hG => ⟨np_loadBoxS hG hF ty26 rfl rfl hb1 rfl rfl rfl rfl, np_callI [.inl (.agg #[.int .i64 p0.Pc, .slice a1 (List.length p0.Regs) c1, .slice a2 (List.length p0.Mem) c2, .slice a3 (List.length p0.Stack) c3, .int .i64 p0.In, .slice a4 (List.length p0.Out) c4, .int .i64 p0.Code, .int .i64 p0.Steps])] hG hF Try.call13 rfl rfl (by kernel_rfl) (fun w vs hC hg ha => by obtain ⟨_, rfl, rfl⟩ := ha; exact (laws_toState_ok n p0 hx3 ((RV.mk_State p0 (RV.any (r1)) (RV.any (r2)) (RV.any (r3)) (RV.any (r4))).ext hC)).mono fun e w' ⟨v, he, u, hv, hc, o⟩ => ⟨_, he, hc, by rw [hv]; exact (show RV w' (fun k => k < w'.heap.size) _ (x3 : D.State) from RV.sub o fun k hk _ => hk)⟩), np_loadBoxS hG hF ty26 rfl rfl hb2 rfl rfl rfl rfl, np_callI [.inl (.agg #[.int .i64 p1.Pc, .slice a5 (List.length p1.Regs) c5, .slice a6 (List.length p1.Mem) c6, .slice a7 (List.length p1.Stack) c7, .int .i64 p1.In, .slice a8 (List.length p1.Out) c8, .int .i64 p1.Code, .int .i64 p1.Steps])] hG hF Try.call13 rfl rfl (by kernel_rfl) (fun w vs hC hg ha => by obtain ⟨_, rfl, rfl⟩ := ha; exact (laws_toState_ok n p1 hx4 ((RV.mk_State p1 (RV.any (r5)) (RV.any (r6)) (RV.any (r7)) (RV.any (r8))).ext hC)).mono fun e w' ⟨v, he, u, hv, hc, o⟩ => ⟨_, he, hc, by rw [hv]; exact (show RV w' (fun k => k < w'.heap.size) _ (x4 : D.State) from RV.sub o fun k hk _ => hk)⟩), np_callI [.inr 1, .inr 3] hG hF Try.call12 rfl rfl (by kernel_rfl) (fun w vs hC hg ha => by obtain ⟨vq0, _, rfl, hq0, vq1, _, rfl, hq1, rfl⟩ := ha; exact (spec_SameRun_ok n x3 x4 hx5 (show RV w (fun k => k < w.heap.size) vq0 x3 from hq0) (show RV w (fun k => k < w.heap.size) vq1 x4 from hq1)).mono fun e w' ⟨v, he, hv, hc⟩ => ⟨v, he, hc, hv⟩), trivial⟩) (by kernel_rfl) fun fr w5 hF hE hc => then_normal ?_)
      have hC := hC.trans hc
      have r1 := r1.ext hc
      have r2 := r2.ext hc
      have r3 := r3.ext hc
      have r4 := r4.ext hc
      have r5 := r5.ext hc
      have r6 := r6.ext hc
      have r7 := r7.ext hc
      have r8 := r8.ext hc
      have hb1 := hb1.ext hc
      have hb2 := hb2.ext hc
      have z5 := hc.size
      refine wp_seq (wp_text' ?_)
      refine s_loadBoxS ty26 rfl rfl hF rfl hb1 rfl rfl fun fr hF => ?_
      obtain ⟨x6, hx6, h⟩ := bindE h
      refine s_call [.agg #[.int .i64 p0.Pc, .slice a1 (List.length p0.Regs) c1, .slice a2 (List.length p0.Mem) c2, .slice a3 (List.length p0.Stack) c3, .int .i64 p0.In, .slice a4 (List.length p0.Out) c4, .int .i64 p0.Code, .int .i64 p0.Steps]] Try.call13 rfl rfl hF rfl (laws_toState_ok n p0 hx6 (RV.mk_State p0 (RV.any (r1)) (RV.any (r2)) (RV.any (r3)) (RV.any (r4)))) fun v w6 fr hR hF => ?_
      obtain ⟨v9, rfl, hc, r9⟩ := hR
      have hC := hC.trans hc
      have r1 := r1.ext hc
      have r2 := r2.ext hc
      have r3 := r3.ext hc
      have r4 := r4.ext hc
      have r5 := r5.ext hc
      have r6 := r6.ext hc
      have r7 := r7.ext hc
      have r8 := r8.ext hc
      have hb1 := hb1.ext hc
      have hb2 := hb2.ext hc
      have z6 := hc.size
      have r9 := r9.sub (F' := fun k => w5.heap.size ≤ k ∧ k < w6.heap.size) (fun k hk hf => by (try dsimp only at *); omega)
      obtain ⟨v10, v11, v12, v13, rfl, r10, r11, r12, r13⟩ := RV.State r9
      obtain ⟨a9, c9, rfl, -⟩ := r10.slice
      obtain ⟨a10, c10, rfl, -⟩ := r11.slice
      obtain ⟨a11, c11, rfl, -⟩ := r12.slice
      obtain ⟨a12, c12, rfl, -⟩ := r13.slice
      refine s_alloc (z := .agg #[.int .i64 0, .slice none (List.length ([] : List Int)) 0, .slice none (List.length ([] : List Int)) 0, .slice none (List.length ([] : List Int)) 0, .int .i64 0, .slice none (List.length ([] : List Int)) 0, .int .i64 0, .int .i64 0]) [.int .i64 0, .slice none (List.length ([] : List Int)) 0, .slice none (List.length ([] : List Int)) 0, .slice none (List.length ([] : List Int)) 0, .int .i64 0, .slice none (List.length ([] : List Int)) 0, .int .i64 0, .int .i64 0] rfl rfl hF (by kernel_rfl) rfl fun b3 w7 fr b3lo hb3 hc hF => ?_
      have hC := hC.trans hc
      have r10 := r10.ext hc
      have r11 := r11.ext hc
      have r12 := r12.ext hc
      have r13 := r13.ext hc
      have r1 := r1.ext hc
      have r2 := r2.ext hc
      have r3 := r3.ext hc
      have r4 := r4.ext hc
      have r5 := r5.ext hc
      have r6 := r6.ext hc
      have r7 := r7.ext hc
      have r8 := r8.ext hc
      have hb1 := hb1.ext hc
      have hb2 := hb2.ext hc
      have z7 := hc.size
      have b3hi := hb3.lt
      refine s_storeBoxS [.int .i64 x6.Pc, .slice a9 (List.length x6.Regs) c9, .slice a10 (List.length x6.Mem) c10, .slice a11 (List.length x6.Stack) c11, .int .i64 x6.In, .slice a12 (List.length x6.Out) c12, .int .i64 x6.Code, .int .i64 x6.Steps] rfl hF rfl rfl (by kernel_rfl) hb3 rfl rfl rfl fun w8 hb3 hc hF => ?_
      have hC := hC.trans' hc (fun x hx => .inr (by subst hx; (try dsimp only at *); omega))
      have r10 := r10.chg hc (fun k hk hs => by subst hs; (try dsimp only at *); omega)
      have r11 := r11.chg hc (fun k hk hs => by subst hs; (try dsimp only at *); omega)
      have r12 := r12.chg hc (fun k hk hs => by subst hs; (try dsimp only at *); omega)
      have r13 := r13.chg hc (fun k hk hs => by subst hs; (try dsimp only at *); omega)
      have r1 := r1.chg hc (fun k hk hs => by subst hs; (try dsimp only at *); omega)
      have r2 := r2.chg hc (fun k hk hs => by subst hs; (try dsimp only at *); omega)
      have r3 := r3.chg hc (fun k hk hs => by subst hs; (try dsimp only at *); omega)
      have r4 := r4.chg hc (fun k hk hs => by subst hs; (try dsimp only at *); omega)
      have r5 := r5.chg hc (fun k hk hs => by subst hs; (try dsimp only at *); omega)
      have r6 := r6.chg hc (fun k hk hs => by subst hs; (try dsimp only at *); omega)
      have r7 := r7.chg hc (fun k hk hs => by subst hs; (try dsimp only at *); omega)
      have r8 := r8.chg hc (fun k hk hs => by subst hs; (try dsimp only at *); omega)
      have hb1 := hb1.chg hc (by omega)
      have hb2 := hb2.chg hc (by omega)
      have z8 := hc.size
      refine from_end rfl (then_normal ?_)
      refine wp_seq (wp_text' ?_)
      refine s_loadBoxS ty26 rfl rfl hF rfl hb2 rfl rfl fun fr hF => ?_
      obtain ⟨x7, hx7, h⟩ := bindE h
      refine s_call [.agg #[.int .i64 p1.Pc, .slice a5 (List.length p1.Regs) c5, .slice a6 (List.length p1.Mem) c6, .slice a7 (List.length p1.Stack) c7, .int .i64 p1.In, .slice a8 (List.length p1.Out) c8, .int .i64 p1.Code, .int .i64 p1.Steps]] Try.call13 rfl rfl hF rfl (laws_toState_ok n p1 hx7 (RV.mk_State p1 (RV.any (r5)) (RV.any (r6)) (RV.any (r7)) (RV.any (r8)))) fun v w9 fr hR hF => ?_
      obtain ⟨v14, rfl, hc, r14⟩ := hR
      have hC := hC.trans hc
      have r5 := r5.ext hc
      have r6 := r6.ext hc
      have r7 := r7.ext hc
      have r8 := r8.ext hc
      have r1 := r1.ext hc
      have r2 := r2.ext hc
      have r3 := r3.ext hc
      have r4 := r4.ext hc
      have r10 := r10.ext hc
      have r11 := r11.ext hc
      have r12 := r12.ext hc
      have r13 := r13.ext hc
      have hb1 := hb1.ext hc
      have hb2 := hb2.ext hc
      have hb3 := hb3.ext hc
      have z9 := hc.size
      have r14 := r14.sub (F' := fun k => w8.heap.size ≤ k ∧ k < w9.heap.size) (fun k hk hf => by (try dsimp only at *); omega)
      obtain ⟨v15, v16, v17, v18, rfl, r15, r16, r17, r18⟩ := RV.State r14
      obtain ⟨a13, c13, rfl, -⟩ := r15.slice
      obtain ⟨a14, c14, rfl, -⟩ := r16.slice
      obtain ⟨a15, c15, rfl, -⟩ := r17.slice
      obtain ⟨a16, c16, rfl, -⟩ := r18.slice
      refine s_alloc (z := .agg #[.int .i64 0, .slice none (List.length ([] : List Int)) 0, .slice none (List.length ([] : List Int)) 0, .slice none (List.length ([] : List Int)) 0, .int .i64 0, .slice none (List.length ([] : List Int)) 0, .int .i64 0, .int .i64 0]) [.int .i64 0, .slice none (List.length ([] : List Int)) 0, .slice none (List.length ([] : List Int)) 0, .slice none (List.length ([] : List Int)) 0, .int .i64 0, .slice none (List.length ([] : List Int)) 0, .int .i64 0, .int .i64 0] rfl rfl hF (by kernel_rfl) rfl fun b4 w10 fr b4lo hb4 hc hF => ?_
      have hC := hC.trans hc
      have r15 := r15.ext hc
      have r16 := r16.ext hc
      have r17 := r17.ext hc
      have r18 := r18.ext hc
      have r1 := r1.ext hc
      have r2 := r2.ext hc
      have r3 := r3.ext hc
      have r4 := r4.ext hc
      have r5 := r5.ext hc
      have r6 := r6.ext hc
      have r7 := r7.ext hc
      have r8 := r8.ext hc
      have r10 := r10.ext hc
      have r11 := r11.ext hc
      have r12 := r12.ext hc
      have r13 := r13.ext hc
      have hb1 := hb1.ext hc
      have hb2 := hb2.ext hc
      have hb3 := hb3.ext hc
      have z10 := hc.size
      have b4hi := hb4.lt
      refine s_storeBoxS [.int .i64 x7.Pc, .slice a13 (List.length x7.Regs) c13, .slice a14 (List.length x7.Mem) c14, .slice a15 (List.length x7.Stack) c15, .int .i64 x7.In, .slice a16 (List.length x7.Out) c16, .int .i64 x7.Code, .int .i64 x7.Steps] rfl hF rfl rfl (by kernel_rfl) hb4 rfl rfl rfl fun w11 hb4 hc hF => ?_
      have hC := hC.trans' hc (fun x hx => .inr (by subst hx; (try dsimp only at *); omega))
      have r15 := r15.chg hc (fun k hk hs => by subst hs; (try dsimp only at *); omega)
      have r16 := r16.chg hc (fun k hk hs => by subst hs; (try dsimp only at *); omega)
      have r17 := r17.chg hc (fun k hk hs => by subst hs; (try dsimp only at *); omega)
      have r18 := r18.chg hc (fun k hk hs => by subst hs; (try dsimp only at *); omega)
      have r1 := r1.chg hc (fun k hk hs => by subst hs; (try dsimp only at *); omega)
      have r2 := r2.chg hc (fun k hk hs => by subst hs; (try dsimp only at *); omega)
      have r3 := r3.chg hc (fun k hk hs => by subst hs; (try dsimp only at *); omega)
      have r4 := r4.chg hc (fun k hk hs => by subst hs; (try dsimp only at *); omega)
      have r5 := r5.chg hc (fun k hk hs => by subst hs; (try dsimp only at *); omega)
      have r6 := r6.chg hc (fun k hk hs => by subst hs; (try dsimp only at *); omega)
      have r7 := r7.chg hc (fun k hk hs => by subst hs; (try dsimp only at *); omega)
      have r8 := r8.chg hc (fun k hk hs => by subst hs; (try dsimp only at *); omega)
      have r10 := r10.chg hc (fun k hk hs => by subst hs; (try dsimp only at *); omega)
      have r11 := r11.chg hc (fun k hk hs => by subst hs; (try dsimp only at *); omega)
      have r12 := r12.chg hc (fun k hk hs => by subst hs; (try dsimp only at *); omega)
      have r13 := r13.chg hc (fun k hk hs => by subst hs; (try dsimp only at *); omega)
      have hb1 := hb1.chg hc (by omega)
      have hb2 := hb2.chg hc (by omega)
      have hb3 := hb3.chg hc (by omega)
      have z11 := hc.size
      refine from_end rfl (then_normal ?_)
      refine wp_seq (wp_text' ?_)
      refine s_loadBoxS ty29 rfl rfl hF rfl hb3 rfl rfl fun fr hF => ?_
      refine s_loadBoxS ty29 rfl rfl hF rfl hb4 rfl rfl fun fr hF => ?_
      obtain ⟨x8, hx8, h⟩ := bindE h
      refine s_call [.agg #[.int .i64 x6.Pc, .slice a9 (List.length x6.Regs) c9, .slice a10 (List.length x6.Mem) c10, .slice a11 (List.length x6.Stack) c11, .int .i64 x6.In, .slice a12 (List.length x6.Out) c12, .int .i64 x6.Code, .int .i64 x6.Steps], .agg #[.int .i64 x7.Pc, .slice a13 (List.length x7.Regs) c13, .slice a14 (List.length x7.Mem) c14, .slice a15 (List.length x7.Stack) c15, .int .i64 x7.In, .slice a16 (List.length x7.Out) c16, .int .i64 x7.Code, .int .i64 x7.Steps]] Try.call14 rfl rfl hF rfl (impl_SameRun_ok n x6 x7 hx8 (RV.mk_State x6 (RV.any (r10)) (RV.any (r11)) (RV.any (r12)) (RV.any (r13))) (RV.mk_State x7 (RV.any (r15)) (RV.any (r16)) (RV.any (r17)) (RV.any (r18)))) fun v w12 fr hR hF => ?_
      obtain ⟨rfl, hc⟩ := hR
      have hC := hC.trans hc
      have r10 := r10.ext hc
      have r11 := r11.ext hc
      have r12 := r12.ext hc
      have r13 := r13.ext hc
      have r15 := r15.ext hc
      have r16 := r16.ext hc
      have r17 := r17.ext hc
      have r18 := r18.ext hc
      have r1 := r1.ext hc
      have r2 := r2.ext hc
      have r3 := r3.ext hc
      have r4 := r4.ext hc
      have r5 := r5.ext hc
      have r6 := r6.ext hc
      have r7 := r7.ext hc
      have r8 := r8.ext hc
      have hb1 := hb1.ext hc
      have hb2 := hb2.ext hc
      have hb3 := hb3.ext hc
      have hb4 := hb4.ext hc
      have z12 := hc.size
      refine from_pure 1 [(2, .pointer (some ⟨b1, 0, none⟩)), (3, .pointer (some ⟨b2, 0, none⟩)), (6, .bool x5), (7, .pointer (some ⟨b3, 0, none⟩)), (8, .pointer (some ⟨b4, 0, none⟩)), (9, .bool x8)] hF (by kernel_rfl) fun fr hF => ?_
      refine from_end rfl (then_normal ?_)
      refine wp_seq ?_
      refine wp_seq (wp_pure [(2, .pointer (some ⟨b1, 0, none⟩)), (3, .pointer (some ⟨b2, 0, none⟩)), (7, .pointer (some ⟨b3, 0, none⟩)), (8, .pointer (some ⟨b4, 0, none⟩)), (34, .bool (!(x8 == x5)))] hF (by kernel_rfl) fun fr hF => then_normal ?_)
      refine (wp_if hF (b := (!(x8 == x5))) rfl (fun hb => ?_) (fun hb => ?_))
      · replace h := iteT hb h
        refine wp_seq (wp_pure [(4, .bool false)] hF (by kernel_rfl) fun fr hF => then_normal ?_)
        obtain rfl := Option.some.inj h
        exact wp_ret (then_ret (ret1 rfl hF rfl ⟨_, rfl, rfl, hC⟩))
      · replace h := iteF hb h
        refine (wp_skip (then_normal ?_))
        refine wp_seq ?_
        obtain ⟨x9, hx9, h⟩ := bindE h
        obtain ⟨x10, hx10, h⟩ := bindE h
        refine wp_seq (region_b [0, 0, 2, 7, 15] [false, false, false, false, true]
            [.eq (.agg #[.int .i64 x6.Pc, .slice a9 (List.length x6.Regs) c9, .slice a10 (List.length x6.Mem) c10, .slice a11 (List.length x6.Stack) c11, .int .i64 x6.In, .slice a12 (List.length x6.Out) c12, .int .i64 x6.Code, .int .i64 x6.Steps]), .eq (.agg #[.int .i64 p0.Pc, .slice a1 (List.length p0.Regs) c1, .slice a2 (List.length p0.Mem) c2, .slice a3 (List.length p0.Stack) c3, .int .i64 p0.In, .slice a4 (List.length p0.Out) c4, .int .i64 p0.Code, .int .i64 p0.Steps]), .is fun v w => RV w (fun k => k < w.heap.size) v (x9 : D.State), .eq (.bool x10), .eq (.bool (!x10))]
            [(3, .pointer (some ⟨b2, 0, none⟩)), (8, .pointer (some ⟨b4, 0, none⟩)), (39, .bool (!x10))] mix hF (by kernel_rfl) (by kernel_rfl) (by kernel_rfl) ⟨Pd.mono_eq, Pd.mono_eq, mono_rvb, Pd.mono_eq, trivial⟩ (fun hG => ⟨np_loadBoxS hG hF ty29 rfl rfl hb3 rfl rfl rfl rfl, np_loadBoxS hG hF ty26 rfl rfl hb1 rfl rfl rfl rfl, np_callI [.inl (.agg #[.int .i64 p0.Pc, .slice a1 (List.length p0.Regs) c1, .slice a2 (List.length p0.Mem) c2, .slice a3 (List.length p0.Stack) c3, .int .i64 p0.In, .slice a4 (List.length p0.Out) c4, .int .i64 p0.Code, .int .i64 p0.Steps])] hG hF Try.call13 rfl rfl (by kernel_rfl) (fun w vs hC hg ha => by obtain ⟨_, rfl, rfl⟩ := ha; exact (laws_toState_ok n p0 hx9 ((RV.mk_State p0 (RV.any (r1)) (RV.any (r2)) (RV.any (r3)) (RV.any (r4))).ext hC)).mono fun e w' ⟨v, he, u, hv, hc, o⟩ => ⟨_, he, hc, by rw [hv]; exact (show RV w' (fun k => k < w'.heap.size) _ (x9 : D.State) from RV.sub o fun k hk _ => hk)⟩), np_callI [.inl (.agg #[.int .i64 x6.Pc, .slice a9 (List.length x6.Regs) c9, .slice a10 (List.length x6.Mem) c10, .slice a11 (List.length x6.Stack) c11, .int .i64 x6.In, .slice a12 (List.length x6.Out) c12, .int .i64 x6.Code, .int .i64 x6.Steps]), .inr 2] hG hF Try.call15 rfl rfl (by kernel_rfl) (fun w vs hC hg ha => by obtain ⟨_, rfl, vq1, _, rfl, hq1, rfl⟩ := ha; exact (laws_eqState_ok n x6 x9 hx10 ((RV.mk_State x6 (RV.any (r10)) (RV.any (r11)) (RV.any (r12)) (RV.any (r13))).ext hC) (show RV w (fun k => k < w.heap.size) vq1 x9 from hq1)).mono fun e w' ⟨v, he, hv, hc⟩ => ⟨v, he, hc, hv⟩), trivial⟩) (by kernel_rfl) fun fr w13 hF hE hc => then_normal ?_)
        have hC := hC.trans hc
        have r5 := r5.ext hc
        have r6 := r6.ext hc
        have r7 := r7.ext hc
        have r8 := r8.ext hc
        have r15 := r15.ext hc
        have r16 := r16.ext hc
        have r17 := r17.ext hc
        have r18 := r18.ext hc
        have hb2 := hb2.ext hc
        have hb4 := hb4.ext hc
        have z13 := hc.size
        refine (wp_if hF (b := (!x10)) rfl (fun hb => ?_) (fun hb => ?_))
        · replace h := iteT hb h
          refine wp_seq (wp_pure [(4, .bool false)] hF (by kernel_rfl) fun fr hF => then_normal ?_)
          obtain rfl := Option.some.inj h
          exact wp_ret (then_ret (ret1 rfl hF rfl ⟨_, rfl, rfl, hC⟩))
        · replace h := iteF hb h
          refine (wp_skip (then_normal ?_))
          refine wp_seq ?_
          obtain ⟨x11, hx11, h⟩ := bindE h
          obtain ⟨x12, hx12, h⟩ := bindE h
          refine wp_seq (region_b [0, 0, 2, 7, 15] [false, false, false, false, true]
              [.eq (.agg #[.int .i64 x7.Pc, .slice a13 (List.length x7.Regs) c13, .slice a14 (List.length x7.Mem) c14, .slice a15 (List.length x7.Stack) c15, .int .i64 x7.In, .slice a16 (List.length x7.Out) c16, .int .i64 x7.Code, .int .i64 x7.Steps]), .eq (.agg #[.int .i64 p1.Pc, .slice a5 (List.length p1.Regs) c5, .slice a6 (List.length p1.Mem) c6, .slice a7 (List.length p1.Stack) c7, .int .i64 p1.In, .slice a8 (List.length p1.Out) c8, .int .i64 p1.Code, .int .i64 p1.Steps]), .is fun v w => RV w (fun k => k < w.heap.size) v (x11 : D.State), .eq (.bool x12), .eq (.bool (!x12))]
              [(44, .bool (!x12))] mix hF (by kernel_rfl) (by kernel_rfl) (by kernel_rfl) ⟨Pd.mono_eq, Pd.mono_eq, mono_rvb, Pd.mono_eq, trivial⟩ (fun hG => ⟨np_loadBoxS hG hF ty29 rfl rfl hb4 rfl rfl rfl rfl, np_loadBoxS hG hF ty26 rfl rfl hb2 rfl rfl rfl rfl, np_callI [.inl (.agg #[.int .i64 p1.Pc, .slice a5 (List.length p1.Regs) c5, .slice a6 (List.length p1.Mem) c6, .slice a7 (List.length p1.Stack) c7, .int .i64 p1.In, .slice a8 (List.length p1.Out) c8, .int .i64 p1.Code, .int .i64 p1.Steps])] hG hF Try.call13 rfl rfl (by kernel_rfl) (fun w vs hC hg ha => by obtain ⟨_, rfl, rfl⟩ := ha; exact (laws_toState_ok n p1 hx11 ((RV.mk_State p1 (RV.any (r5)) (RV.any (r6)) (RV.any (r7)) (RV.any (r8))).ext hC)).mono fun e w' ⟨v, he, u, hv, hc, o⟩ => ⟨_, he, hc, by rw [hv]; exact (show RV w' (fun k => k < w'.heap.size) _ (x11 : D.State) from RV.sub o fun k hk _ => hk)⟩), np_callI [.inl (.agg #[.int .i64 x7.Pc, .slice a13 (List.length x7.Regs) c13, .slice a14 (List.length x7.Mem) c14, .slice a15 (List.length x7.Stack) c15, .int .i64 x7.In, .slice a16 (List.length x7.Out) c16, .int .i64 x7.Code, .int .i64 x7.Steps]), .inr 2] hG hF Try.call15 rfl rfl (by kernel_rfl) (fun w vs hC hg ha => by obtain ⟨_, rfl, vq1, _, rfl, hq1, rfl⟩ := ha; exact (laws_eqState_ok n x7 x11 hx12 ((RV.mk_State x7 (RV.any (r15)) (RV.any (r16)) (RV.any (r17)) (RV.any (r18))).ext hC) (show RV w (fun k => k < w.heap.size) vq1 x11 from hq1)).mono fun e w' ⟨v, he, hv, hc⟩ => ⟨v, he, hc, hv⟩), trivial⟩) (by kernel_rfl) fun fr w14 hF hE hc => then_normal ?_)
          have hC := hC.trans hc
          have z14 := hc.size
          refine (wp_if hF (b := (!x12)) rfl (fun hb => ?_) (fun hb => ?_))
          · replace h := iteT hb h
            refine wp_seq (wp_pure [(4, .bool false)] hF (by kernel_rfl) fun fr hF => then_normal ?_)
            obtain rfl := Option.some.inj h
            exact wp_ret (then_ret (ret1 rfl hF rfl ⟨_, rfl, rfl, hC⟩))
          · replace h := iteF hb h
            refine (wp_skip (then_normal ?_))
            refine wp_seq (wp_pure [(4, .bool true)] hF (by kernel_rfl) fun fr hF => then_normal ?_)
            obtain rfl := Option.some.inj h
            exact wp_ret (ret1 rfl hF rfl ⟨_, rfl, rfl, hC⟩)

theorem laws_szInsS_ok (p0 : List D.Ins) (p1 : Int) {r : Int} (h : laws_szInsS p0 p1 = some r) {w : World} {F0 : Nat → Prop} {va0 : Value} (ra0 : RV w F0 va0 p0) :
    Calls Try.prog 47 [va0, .int .i64 p1].toArray w fun e w' => ∃ v, e = .returned v ∧ v = .int .i64 r ∧ Chg Non w w' := by
  unfold laws_szInsS at h
  have ra0 := ra0.sub (F' := fun k => k < w.heap.size) (fun k hk _ => hk)
  obtain ⟨a1, c1, rfl, -⟩ := ra0.slice
  have hC : Chg Non w w := Chg.refl _ _
  refine enter (N := 12) Try.func47 rfl Try.ntmps47 rfl fun fr hF => ?_
  refine wp_seq (wp_pure [(0, .slice a1 (List.length p0) c1), (1, .int .i64 p1)] hF (by kernel_rfl) fun fr hF => then_normal ?_)
  refine wp_seq (wp_pure [(1, .int .i64 (w64 (p1 - (len p0))))] hF (by kernel_rfl) fun fr hF => then_normal ?_)
  refine wp_seq ?_
  refine wp_seq (wp_pure [(1, .int .i64 (w64 (p1 - (len p0)))), (10, .bool (decide ((w64 (p1 - (len p0))) < 0)))] hF (by kernel_rfl) fun fr hF => then_normal ?_)
  refine (wp_if hF (b := (decide ((w64 (p1 - (len p0))) < 0))) rfl (fun hb => ?_) (fun hb => ?_))
  · replace h := iteT hb h
    refine wp_seq (wp_pure [(4, .int .i64 (-1))] hF (by kernel_rfl) fun fr hF => then_normal ?_)
    obtain rfl := Option.some.inj h
    exact wp_ret (then_ret (ret1 rfl hF rfl ⟨_, rfl, rfl, hC⟩))
  · replace h := iteF hb h
    refine (wp_skip (then_normal ?_))
    refine wp_seq (wp_pure [(4, .int .i64 (w64 (p1 - (len p0))))] hF (by kernel_rfl) fun fr hF => then_normal ?_)
    obtain rfl := Option.some.inj h
    exact wp_ret (ret1 rfl hF rfl ⟨_, rfl, rfl, hC⟩)

theorem laws_szProgram_ok (p0 : D.Program) (p1 : Int) {r : Int} (h : laws_szProgram p0 p1 = some r) {w : World} {F0 : Nat → Prop} {va0 : Value} (ra0 : RV w F0 va0 p0) :
    Calls Try.prog 21 [va0, .int .i64 p1].toArray w fun e w' => ∃ v, e = .returned v ∧ v = .int .i64 r ∧ Chg Non w w' := by
  unfold laws_szProgram at h
  have ra0 := ra0.sub (F' := fun k => k < w.heap.size) (fun k hk _ => hk)
  obtain ⟨v1, rfl, r1⟩ := RV.Program ra0
  obtain ⟨a1, c1, rfl, -⟩ := r1.slice
  have hC : Chg Non w w := Chg.refl _ _
  refine enter (N := 12) Try.func21 rfl Try.ntmps21 rfl fun fr hF => ?_
  refine wp_seq (wp_text' ?_)
  refine s_box [.int .i64 p0.W, .int .i64 p0.Mem, .int .i64 p0.In, .slice a1 (List.length p0.Code) c1] rfl rfl hF rfl rfl fun b1 w1 fr b1lo hb1 hc hF => ?_
  have hC := hC.trans hc
  have r1 := r1.ext hc
  have z1 := hc.size
  have b1hi := hb1.lt
  refine from_pure 1 [(1, .int .i64 p1), (2, .pointer (some ⟨b1, 0, none⟩))] hF (by kernel_rfl) fun fr hF => ?_
  refine from_end rfl (then_normal ?_)
  refine wp_seq (wp_text' ?_)
  refine from_pure 1 [(1, .int .i64 p1), (5, .pointer (some ⟨b1, 3, none⟩))] hF (by kernel_rfl) fun fr hF => ?_
  refine s_loadBox (.slice a1 (List.length p0.Code) c1) ty43 rfl rfl hF rfl hb1 rfl rfl fun fr hF => ?_
  refine from_pure 1 [(6, .slice a1 (List.length p0.Code) c1), (7, .int .i64 p1)] hF (by kernel_rfl) fun fr hF => ?_
  obtain ⟨x1, hx1, h⟩ := bindE h
  refine s_call [.slice a1 (List.length p0.Code) c1, .int .i64 p1] Try.call47 rfl rfl hF rfl (laws_szInsS_ok p0.Code p1 hx1 r1) fun v w2 fr hR hF => ?_
  obtain ⟨rfl, hc⟩ := hR
  have hC := hC.trans hc
  have r1 := r1.ext hc
  have z2 := hc.size
  refine from_pure 1 [(1, .int .i64 x1)] hF (by kernel_rfl) fun fr hF => ?_
  refine from_end rfl (then_normal ?_)
  refine wp_seq ?_
  refine wp_seq (wp_pure [(1, .int .i64 x1), (10, .bool (decide (x1 < 0)))] hF (by kernel_rfl) fun fr hF => then_normal ?_)
  refine (wp_if hF (b := (decide (x1 < 0))) rfl (fun hb => ?_) (fun hb => ?_))
  · replace h := iteT hb h
    refine wp_seq (wp_pure [(4, .int .i64 (-1))] hF (by kernel_rfl) fun fr hF => then_normal ?_)
    obtain rfl := Option.some.inj h
    exact wp_ret (then_ret (ret1 rfl hF rfl ⟨_, rfl, rfl, hC⟩))
  · replace h := iteF hb h
    refine (wp_skip (then_normal ?_))
    refine wp_seq (wp_pure [(4, .int .i64 x1)] hF (by kernel_rfl) fun fr hF => then_normal ?_)
    obtain rfl := Option.some.inj h
    exact wp_ret (ret1 rfl hF rfl ⟨_, rfl, rfl, hC⟩)

theorem laws_toIns_ok (p0 : D.Ins) {r : D.Ins} (h : laws_toIns p0 = some r) {w : World} :
    Calls Try.prog 63 [.agg #[.int .i64 p0.Op, .int .i64 p0.A, .int .i64 p0.B, .int .i64 p0.C]].toArray w fun e w' => ∃ v, e = .returned v ∧ v = .agg #[.int .i64 r.Op, .int .i64 r.A, .int .i64 r.B, .int .i64 r.C] ∧ Chg Non w w' := by
  unfold laws_toIns at h
  have hC : Chg Non w w := Chg.refl _ _
  refine enter (N := 17) Try.func63 rfl Try.ntmps63 rfl fun fr hF => ?_
  refine wp_seq (wp_text' ?_)
  refine s_box [.int .i64 p0.Op, .int .i64 p0.A, .int .i64 p0.B, .int .i64 p0.C] rfl rfl hF rfl rfl fun b1 w1 fr b1lo hb1 hc hF => ?_
  have hC := hC.trans hc
  have z1 := hc.size
  have b1hi := hb1.lt
  refine s_alloc (z := .agg #[.int .i64 0, .int .i64 0, .int .i64 0, .int .i64 0]) [.int .i64 0, .int .i64 0, .int .i64 0, .int .i64 0] rfl rfl hF (by kernel_rfl) rfl fun b2 w2 fr b2lo hb2 hc hF => ?_
  have hC := hC.trans hc
  have hb1 := hb1.ext hc
  have z2 := hc.size
  have b2hi := hb2.lt
  refine from_end rfl (then_normal ?_)
  refine wp_seq (wp_text' ?_)
  refine s_alloc (z := .agg #[.int .i64 0, .int .i64 0, .int .i64 0, .int .i64 0]) [.int .i64 0, .int .i64 0, .int .i64 0, .int .i64 0] rfl rfl hF (by kernel_rfl) rfl fun b3 w3 fr b3lo hb3 hc hF => ?_
  have hC := hC.trans hc
  have hb1 := hb1.ext hc
  have hb2 := hb2.ext hc
  have z3 := hc.size
  have b3hi := hb3.lt
  refine from_end rfl (then_normal ?_)
  refine wp_seq (wp_text' ?_)
  refine from_pure 1 [(1, .pointer (some ⟨b1, 0, none⟩)), (2, .pointer (some ⟨b2, 0, none⟩)), (3, .pointer (some ⟨b3, 0, none⟩)), (4, .pointer (some ⟨b1, 0, none⟩))] hF (by kernel_rfl) fun fr hF => ?_
  refine s_loadBox (.int .i64 p0.Op) ty3 rfl rfl hF rfl hb1 rfl rfl fun fr hF => ?_
  refine from_pure 1 [(1, .pointer (some ⟨b1, 0, none⟩)), (2, .pointer (some ⟨b2, 0, none⟩)), (3, .pointer (some ⟨b3, 0, none⟩)), (5, .int .i64 p0.Op), (6, .pointer (some ⟨b3, 0, none⟩))] hF (by kernel_rfl) fun fr hF => ?_
  refine s_storeBox [.int .i64 p0.Op, .int .i64 0, .int .i64 0, .int .i64 0] rfl hF rfl rfl (by kernel_rfl) hb3 rfl rfl rfl fun w4 hb3 hc hF => ?_
  have hC := hC.trans' hc (fun x hx => .inr (by subst hx; (try dsimp only at *); omega))
  have hb1 := hb1.chg hc (by omega)
  have hb2 := hb2.chg hc (by omega)
  have z4 := hc.size
  refine from_end rfl (then_normal ?_)
  refine wp_seq (wp_text' ?_)
  refine from_pure 1 [(1, .pointer (some ⟨b1, 0, none⟩)), (2, .pointer (some ⟨b2, 0, none⟩)), (3, .pointer (some ⟨b3, 0, none⟩)), (7, .pointer (some ⟨b1, 1, none⟩))] hF (by kernel_rfl) fun fr hF => ?_
  refine s_loadBox (.int .i64 p0.A) ty3 rfl rfl hF rfl hb1 rfl rfl fun fr hF => ?_
  refine from_pure 1 [(1, .pointer (some ⟨b1, 0, none⟩)), (2, .pointer (some ⟨b2, 0, none⟩)), (3, .pointer (some ⟨b3, 0, none⟩)), (8, .int .i64 p0.A), (9, .pointer (some ⟨b3, 1, none⟩))] hF (by kernel_rfl) fun fr hF => ?_
  refine s_storeBox [.int .i64 p0.Op, .int .i64 p0.A, .int .i64 0, .int .i64 0] rfl hF rfl rfl (by kernel_rfl) hb3 rfl rfl rfl fun w5 hb3 hc hF => ?_
  have hC := hC.trans' hc (fun x hx => .inr (by subst hx; (try dsimp only at *); omega))
  have hb1 := hb1.chg hc (by omega)
  have hb2 := hb2.chg hc (by omega)
  have z5 := hc.size
  refine from_end rfl (then_normal ?_)
  refine wp_seq (wp_text' ?_)
  refine from_pure 1 [(1, .pointer (some ⟨b1, 0, none⟩)), (2, .pointer (some ⟨b2, 0, none⟩)), (3, .pointer (some ⟨b3, 0, none⟩)), (10, .pointer (some ⟨b1, 2, none⟩))] hF (by kernel_rfl) fun fr hF => ?_
  refine s_loadBox (.int .i64 p0.B) ty3 rfl rfl hF rfl hb1 rfl rfl fun fr hF => ?_
  refine from_pure 1 [(1, .pointer (some ⟨b1, 0, none⟩)), (2, .pointer (some ⟨b2, 0, none⟩)), (3, .pointer (some ⟨b3, 0, none⟩)), (11, .int .i64 p0.B), (12, .pointer (some ⟨b3, 2, none⟩))] hF (by kernel_rfl) fun fr hF => ?_
  refine s_storeBox [.int .i64 p0.Op, .int .i64 p0.A, .int .i64 p0.B, .int .i64 0] rfl hF rfl rfl (by kernel_rfl) hb3 rfl rfl rfl fun w6 hb3 hc hF => ?_
  have hC := hC.trans' hc (fun x hx => .inr (by subst hx; (try dsimp only at *); omega))
  have hb1 := hb1.chg hc (by omega)
  have hb2 := hb2.chg hc (by omega)
  have z6 := hc.size
  refine from_end rfl (then_normal ?_)
  refine wp_seq (wp_text' ?_)
  refine from_pure 1 [(2, .pointer (some ⟨b2, 0, none⟩)), (3, .pointer (some ⟨b3, 0, none⟩)), (13, .pointer (some ⟨b1, 3, none⟩))] hF (by kernel_rfl) fun fr hF => ?_
  refine s_loadBox (.int .i64 p0.C) ty3 rfl rfl hF rfl hb1 rfl rfl fun fr hF => ?_
  refine from_pure 1 [(2, .pointer (some ⟨b2, 0, none⟩)), (3, .pointer (some ⟨b3, 0, none⟩)), (14, .int .i64 p0.C), (15, .pointer (some ⟨b3, 3, none⟩))] hF (by kernel_rfl) fun fr hF => ?_
  refine s_storeBox [.int .i64 p0.Op, .int .i64 p0.A, .int .i64 p0.B, .int .i64 p0.C] rfl hF rfl rfl (by kernel_rfl) hb3 rfl rfl rfl fun w7 hb3 hc hF => ?_
  have hC := hC.trans' hc (fun x hx => .inr (by subst hx; (try dsimp only at *); omega))
  have hb2 := hb2.chg hc (by omega)
  have z7 := hc.size
  refine from_end rfl (then_normal ?_)
  refine wp_seq (wp_text' ?_)
  refine s_loadBoxS ty78 rfl rfl hF rfl hb3 rfl rfl fun fr hF => ?_
  refine s_storeBoxS [.int .i64 p0.Op, .int .i64 p0.A, .int .i64 p0.B, .int .i64 p0.C] rfl hF rfl rfl (by kernel_rfl) hb2 rfl rfl rfl fun w8 hb2 hc hF => ?_
  have hC := hC.trans' hc (fun x hx => .inr (by subst hx; (try dsimp only at *); omega))
  have z8 := hc.size
  refine from_end rfl (then_normal ?_)
  obtain rfl := Option.some.inj h
  exact wp_ret (retS rfl hF ty78 rfl rfl hb2 rfl ⟨_, rfl, rfl, hC⟩)

theorem laws_toInsS_ok (n : Nat) (p0 : List D.Ins) {r : (List D.Ins)} (h : laws_toInsS n p0 = some r) {w : World} {F0 : Nat → Prop} {va0 : Value} (ra0 : RV w F0 va0 p0) :
    Calls Try.prog 50 [va0].toArray w fun e w' => ∃ v, e = .returned v ∧ ∃ go0 a0 c0, v = .slice a0 (List.length r) c0 ∧ Chg Non w w' ∧ OwnS w' 78 go0 (fun k => w.heap.size ≤ k) Non (.slice a0 (List.length r) c0) r := by
  unfold laws_toInsS at h
  have ra0 := ra0.sub (F' := fun k => k < w.heap.size) (fun k hk _ => hk)
  obtain ⟨a1, c1, rfl, -⟩ := ra0.slice
  have hC : Chg Non w w := Chg.refl _ _
  refine enter (N := 23) Try.func50 rfl Try.ntmps50 rfl fun fr hF => ?_
  refine wp_seq (wp_pure [(0, .slice a1 (List.length p0) c1)] hF (by kernel_rfl) fun fr hF => then_normal ?_)
  refine wp_seq (wp_text' ?_)
  refine from_pure 2 [(0, .slice a1 (List.length p0) c1), (6, .int .i64 (len p0))] hF (by kernel_rfl) fun fr hF => ?_
  obtain ⟨x1, hx1, h⟩ := bindE h
  refine s_make (G := (fun k => w.heap.size ≤ k)) (FF := Non) Try.underlying48 el78 (zero_flat _ (by kernel_rfl)) rfl rfl hF rfl rfl hx1 (fun k hk => by (try dsimp only at *); omega) fun g1 a2 c2 w1 fr g1lo o1 hc hF => ?_
  have hC := hC.trans hc
  have ra0 := ra0.ext hc
  have z1 := hc.size
  refine from_pure 1 [(0, .slice a1 (List.length p0) c1), (3, .slice a2 (List.length x1) c2)] hF (by kernel_rfl) fun fr hF => ?_
  refine from_end rfl (then_normal ?_)
  refine wp_seq ?_
  refine wp_seq (wp_pure [(0, .slice a1 (List.length p0) c1), (3, .slice a2 (List.length x1) c2), (4, .int .i64 0)] hF (by kernel_rfl) fun fr hF => then_normal ?_)
  obtain ⟨rl1, hit1, h⟩ := bindE h
  have hk1 := h
  refine (wp_cut (M := fun fr w' => ∃ go2 a4 c4, FrS 23 [(3, .slice a4 (List.length rl1) c4)] fr ∧ Chg (fun k => (some g1) = some k) w1 w' ∧ OwnS w' 78 go2 (fun k => w.heap.size ≤ k) Non (.slice a4 (List.length rl1) c4) rl1 ∧ (go2 = (some g1) ∨ ∃ g, go2 = some g ∧ w1.heap.size ≤ g)) (wp_block (wp_iter (Inv := fun s1 fr w' => ∃ go1 a3 c3, FrS 23 [(0, .slice a1 (List.length p0) c1), (3, .slice a3 (List.length s1.1) c3), (4, .int .i64 s1.2)] fr ∧ Chg (fun k => (some g1) = some k) w1 w' ∧ OwnS w' 78 go1 (fun k => w.heap.size ≤ k) Non (.slice a3 (List.length s1.1) c3) s1.1 ∧ (go1 = (some g1) ∨ ∃ g, go1 = some g ∧ w1.heap.size ≤ g)) hit1 ⟨(some g1), a2, c2, hF.sub _ (by kernel_rfl), Chg.refl _ _, (o1.regard fun k _ hG => by (try dsimp only at *); omega), .inl rfl⟩ fun s1 q1 fr w1i hI h hr1 => ?_)) fun fr w1o hM => ?_)
  · obtain ⟨go1, a3, c3, hF, hc, o2, hgo1⟩ := hI
    have zLw1i := hc.size
    have hC := hC.trans' hc (fun x hx => .inr (by have hG := o1.inG hx; (try dsimp only at *); omega))
    have ra0 := ra0.chg hc (fun k hk hs => by have hG := o1.inG hs; (try dsimp only at *); omega)
    have hL1 := hc
    refine wp_seq ?_
    refine wp_seq (wp_pure [(0, .slice a1 (List.length p0) c1), (3, .slice a3 (List.length s1.1) c3), (4, .int .i64 s1.2), (11, .bool (decide (s1.2 < (len p0))))] hF (by kernel_rfl) fun fr hF => then_normal ?_)
    refine (wp_if hF (b := (decide (s1.2 < (len p0)))) rfl (fun hb => ?_) (fun hb => ?_))
    · replace h := iteT hb h
      refine (wp_skip (then_normal ?_))
      refine wp_seq (wp_block ?_)
      refine (wp_text' ?_)
      refine from_pure 4 [(0, .slice a1 (List.length p0) c1), (3, .slice a3 (List.length s1.1) c3), (4, .int .i64 s1.2), (14, .slice a3 (List.length s1.1) c3), (15, .int .i64 s1.2), (16, .slice a1 (List.length p0) c1), (17, .int .i64 s1.2)] hF (by kernel_rfl) fun fr hF => ?_
      obtain ⟨x2, hx2, h⟩ := bindE h
      refine s_elemF (z := x2) (.agg #[.int .i64 x2.Op, .int .i64 x2.A, .int .i64 x2.B, .int .i64 x2.C]) ty90 Try.underlying43 rfl rfl rfl rfl rfl hF rfl (ra0) rfl (get?_nn hx2) (get?_at hx2) rfl fun p fr hF => ?_
      obtain ⟨x3, hx3, h⟩ := bindE h
      refine s_call [.agg #[.int .i64 x2.Op, .int .i64 x2.A, .int .i64 x2.B, .int .i64 x2.C]] Try.call63 rfl rfl hF rfl (laws_toIns_ok x2 hx3) fun v w2 fr hR hF => ?_
      obtain ⟨rfl, hc⟩ := hR
      have hC := hC.trans hc
      have ra0 := ra0.ext hc
      have o4 := o2.ext hc
      have z2 := hc.size
      have hL2 := hL1.trans' hc (fun _ hx => False.elim hx)
      obtain ⟨x4, hx4, h⟩ := bindE h
      refine s_setElem (fun _ => False) o4 Try.underlying48 ty78 rfl rfl rfl rfl hF rfl rfl (by simp) rfl (Fr := Non) (RV.mk_flat x3) flat_sub (fun _ _ h => h.elim) hx4 fun a5 c5 w3 fr o5 he hc hF => ?_
      obtain ⟨_, hF⟩ := hF
      rw [he] at hF
      have hC := hC.trans' hc (fun x hx => .inr (by have hG := o4.inG hx; (try dsimp only at *); omega))
      have ra0 := ra0.chg hc (fun k hk hs => by have hG := o4.inG hs; (try dsimp only at *); omega)
      have z3 := hc.size
      have hL3 := hL2.trans' hc (fun x hx => go_chg hgo1 x hx)
      refine from_end rfl ?_
      refine blk_normal (then_normal ?_)
      refine (wp_pure [(0, .slice a1 (List.length p0) c1), (3, .slice a5 (List.length x4) c5), (4, .int .i64 (w64 (s1.2 + 1)))] hF (by kernel_rfl) fun fr hF => then_normal ?_)
      exact ⟨_, (Option.some.inj h).symm, go1, a5, c5, hF.sub _ (by kernel_rfl), hL3, (o5.regard fun k _ hG => by (try dsimp only at *); omega), hgo1⟩
    · replace h := iteF hb h
      refine (wp_exit (then_exit (then_exit (blk_exit_eq ?_))))
      obtain rfl := hr1 _ (Option.some.inj h).symm
      exact then_normal ⟨go1, a3, c3, hF.sub _ (by kernel_rfl), hL1, (o2.regard fun k _ hG => by (try dsimp only at *); omega), hgo1⟩
  · obtain ⟨go2, a4, c4, hF, hc, o3, hgo2⟩ := hM
    have zLw1o := hc.size
    have hC := hC.trans' hc (fun x hx => .inr (by have hG := o1.inG hx; (try dsimp only at *); omega))
    refine wp_seq (wp_pure [(2, .slice a4 (List.length rl1) c4)] hF (by kernel_rfl) fun fr hF => then_normal ?_)
    obtain rfl := Option.some.inj h
    exact wp_ret (ret1 rfl hF rfl ⟨_, rfl, _, _, _, rfl, hC, (o3.regard fun k _ hG => by (try dsimp only at *); omega)⟩)

theorem laws_toProgram_ok (n : Nat) (p0 : D.Program) {r : D.Program} (h : laws_toProgram n p0 = some r) {w : World} {F0 : Nat → Prop} {va0 : Value} (ra0 : RV w F0 va0 p0) :
    Calls Try.prog 23 [va0].toArray w fun e w' => ∃ v, e = .returned v ∧ ∃ u0, v = u0 ∧ Chg Non w w' ∧ RV w' (fun k => w.heap.size ≤ k) u0 r := by
  unfold laws_toProgram at h
  have ra0 := ra0.sub (F' := fun k => k < w.heap.size) (fun k hk _ => hk)
  obtain ⟨v1, rfl, r1⟩ := RV.Program ra0
  obtain ⟨a1, c1, rfl, -⟩ := r1.slice
  have hC : Chg Non w w := Chg.refl _ _
  refine enter (N := 18) Try.func23 rfl Try.ntmps23 rfl fun fr hF => ?_
  refine wp_seq (wp_text' ?_)
  refine s_box [.int .i64 p0.W, .int .i64 p0.Mem, .int .i64 p0.In, .slice a1 (List.length p0.Code) c1] rfl rfl hF rfl rfl fun b1 w1 fr b1lo hb1 hc hF => ?_
  have hC := hC.trans hc
  have r1 := r1.ext hc
  have z1 := hc.size
  have b1hi := hb1.lt
  refine s_alloc (z := .agg #[.int .i64 0, .int .i64 0, .int .i64 0, .slice none (List.length ([] : List D.Ins)) 0]) [.int .i64 0, .int .i64 0, .int .i64 0, .slice none (List.length ([] : List D.Ins)) 0] rfl rfl hF (by kernel_rfl) rfl fun b2 w2 fr b2lo hb2 hc hF => ?_
  have hC := hC.trans hc
  have r1 := r1.ext hc
  have hb1 := hb1.ext hc
  have z2 := hc.size
  have b2hi := hb2.lt
  refine from_end rfl (then_normal ?_)
  refine wp_seq (wp_text' ?_)
  refine s_alloc (z := .agg #[.int .i64 0, .int .i64 0, .int .i64 0, .slice none (List.length ([] : List D.Ins)) 0]) [.int .i64 0, .int .i64 0, .int .i64 0, .slice none (List.length ([] : List D.Ins)) 0] rfl rfl hF (by kernel_rfl) rfl fun b3 w3 fr b3lo hb3 hc hF => ?_
  have hC := hC.trans hc
  have r1 := r1.ext hc
  have hb1 := hb1.ext hc
  have hb2 := hb2.ext hc
  have z3 := hc.size
  have b3hi := hb3.lt
  refine from_end rfl (then_normal ?_)
  refine wp_seq (wp_text' ?_)
  refine from_pure 1 [(1, .pointer (some ⟨b1, 0, none⟩)), (2, .pointer (some ⟨b2, 0, none⟩)), (3, .pointer (some ⟨b3, 0, none⟩)), (4, .pointer (some ⟨b1, 0, none⟩))] hF (by kernel_rfl) fun fr hF => ?_
  refine s_loadBox (.int .i64 p0.W) ty3 rfl rfl hF rfl hb1 rfl rfl fun fr hF => ?_
  refine from_pure 1 [(1, .pointer (some ⟨b1, 0, none⟩)), (2, .pointer (some ⟨b2, 0, none⟩)), (3, .pointer (some ⟨b3, 0, none⟩)), (5, .int .i64 p0.W), (6, .pointer (some ⟨b3, 0, none⟩))] hF (by kernel_rfl) fun fr hF => ?_
  refine s_storeBox [.int .i64 p0.W, .int .i64 0, .int .i64 0, .slice none (List.length ([] : List D.Ins)) 0] rfl hF rfl rfl (by kernel_rfl) hb3 rfl rfl rfl fun w4 hb3 hc hF => ?_
  have hC := hC.trans' hc (fun x hx => .inr (by subst hx; (try dsimp only at *); omega))
  have r1 := r1.chg hc (fun k hk hs => by subst hs; (try dsimp only at *); omega)
  have hb1 := hb1.chg hc (by omega)
  have hb2 := hb2.chg hc (by omega)
  have z4 := hc.size
  refine from_end rfl (then_normal ?_)
  refine wp_seq (wp_text' ?_)
  refine from_pure 1 [(1, .pointer (some ⟨b1, 0, none⟩)), (2, .pointer (some ⟨b2, 0, none⟩)), (3, .pointer (some ⟨b3, 0, none⟩)), (7, .pointer (some ⟨b1, 1, none⟩))] hF (by kernel_rfl) fun fr hF => ?_
  refine s_loadBox (.int .i64 p0.Mem) ty3 rfl rfl hF rfl hb1 rfl rfl fun fr hF => ?_
  refine from_pure 1 [(1, .pointer (some ⟨b1, 0, none⟩)), (2, .pointer (some ⟨b2, 0, none⟩)), (3, .pointer (some ⟨b3, 0, none⟩)), (8, .int .i64 p0.Mem), (9, .pointer (some ⟨b3, 1, none⟩))] hF (by kernel_rfl) fun fr hF => ?_
  refine s_storeBox [.int .i64 p0.W, .int .i64 p0.Mem, .int .i64 0, .slice none (List.length ([] : List D.Ins)) 0] rfl hF rfl rfl (by kernel_rfl) hb3 rfl rfl rfl fun w5 hb3 hc hF => ?_
  have hC := hC.trans' hc (fun x hx => .inr (by subst hx; (try dsimp only at *); omega))
  have r1 := r1.chg hc (fun k hk hs => by subst hs; (try dsimp only at *); omega)
  have hb1 := hb1.chg hc (by omega)
  have hb2 := hb2.chg hc (by omega)
  have z5 := hc.size
  refine from_end rfl (then_normal ?_)
  refine wp_seq (wp_text' ?_)
  refine from_pure 1 [(1, .pointer (some ⟨b1, 0, none⟩)), (2, .pointer (some ⟨b2, 0, none⟩)), (3, .pointer (some ⟨b3, 0, none⟩)), (10, .pointer (some ⟨b1, 2, none⟩))] hF (by kernel_rfl) fun fr hF => ?_
  refine s_loadBox (.int .i64 p0.In) ty3 rfl rfl hF rfl hb1 rfl rfl fun fr hF => ?_
  refine from_pure 1 [(1, .pointer (some ⟨b1, 0, none⟩)), (2, .pointer (some ⟨b2, 0, none⟩)), (3, .pointer (some ⟨b3, 0, none⟩)), (11, .int .i64 p0.In), (12, .pointer (some ⟨b3, 2, none⟩))] hF (by kernel_rfl) fun fr hF => ?_
  refine s_storeBox [.int .i64 p0.W, .int .i64 p0.Mem, .int .i64 p0.In, .slice none (List.length ([] : List D.Ins)) 0] rfl hF rfl rfl (by kernel_rfl) hb3 rfl rfl rfl fun w6 hb3 hc hF => ?_
  have hC := hC.trans' hc (fun x hx => .inr (by subst hx; (try dsimp only at *); omega))
  have r1 := r1.chg hc (fun k hk hs => by subst hs; (try dsimp only at *); omega)
  have hb1 := hb1.chg hc (by omega)
  have hb2 := hb2.chg hc (by omega)
  have z6 := hc.size
  refine from_end rfl (then_normal ?_)
  refine wp_seq (wp_text' ?_)
  refine from_pure 1 [(2, .pointer (some ⟨b2, 0, none⟩)), (3, .pointer (some ⟨b3, 0, none⟩)), (13, .pointer (some ⟨b1, 3, none⟩))] hF (by kernel_rfl) fun fr hF => ?_
  refine s_loadBox (.slice a1 (List.length p0.Code) c1) ty43 rfl rfl hF rfl hb1 rfl rfl fun fr hF => ?_
  obtain ⟨x1, hx1, h⟩ := bindE h
  refine s_call [.slice a1 (List.length p0.Code) c1] Try.call50 rfl rfl hF rfl (laws_toInsS_ok n p0.Code hx1 r1) fun v w7 fr hR hF => ?_
  obtain ⟨go1, a2, c2, rfl, hc, o1⟩ := hR
  have hC := hC.trans hc
  have r1 := r1.ext hc
  have hb2 := hb2.ext hc
  have hb3 := hb3.ext hc
  have z7 := hc.size
  have o2 := o1.regard (G' := (fun k => w.heap.size ≤ k ∧ k ≠ b2 ∧ k ≠ b3)) (fun k hk hG => by (try dsimp only at *); omega)
  refine from_pure 1 [(2, .pointer (some ⟨b2, 0, none⟩)), (3, .pointer (some ⟨b3, 0, none⟩)), (15, .slice a2 (List.length x1) c2), (16, .pointer (some ⟨b3, 3, none⟩))] hF (by kernel_rfl) fun fr hF => ?_
  refine s_storeBox [.int .i64 p0.W, .int .i64 p0.Mem, .int .i64 p0.In, .slice a2 (List.length x1) c2] rfl hF rfl rfl (by kernel_rfl) hb3 rfl rfl rfl fun w8 hb3 hc hF => ?_
  have hC := hC.trans' hc (fun x hx => .inr (by subst hx; (try dsimp only at *); omega))
  have hb2 := hb2.chg hc (by omega)
  have o3 := o2.chg hc (fun k _ hG hs => by subst hs; (try dsimp only at *); omega) (fun _ h => h.elim)
  have z8 := hc.size
  refine from_end rfl (then_normal ?_)
  refine wp_seq (wp_text' ?_)
  refine s_loadBoxS ty50 rfl rfl hF rfl hb3 rfl rfl fun fr hF => ?_
  refine s_storeBoxS [.int .i64 p0.W, .int .i64 p0.Mem, .int .i64 p0.In, .slice a2 (List.length x1) c2] rfl hF rfl rfl (by kernel_rfl) hb2 rfl rfl rfl fun w9 hb2 hc hF => ?_
  have hC := hC.trans' hc (fun x hx => .inr (by subst hx; (try dsimp only at *); omega))
  have o4 := o3.chg hc (fun k _ hG hs => by subst hs; (try dsimp only at *); omega) (fun _ h => h.elim)
  have z9 := hc.size
  refine from_end rfl (then_normal ?_)
  obtain rfl := Option.some.inj h
  exact wp_ret (retS rfl hF ty50 rfl rfl hb2 rfl ⟨_, rfl, _, rfl, hC, (RV.mk_Program (D.Program.mk p0.W p0.Mem p0.In x1) (RV.sub o4.rv fun k hk hf => by simp only [Non, or_false] at *; (try dsimp only at *); omega))⟩)

theorem spec_l01In_ok (p0 : Int) (p1 : Int) (p2 : Int) {r : Bool} (h : spec_l01In p0 p1 p2 = some r) {w : World} :
    Calls Try.prog 37 [.int .i64 p0, .int .i64 p1, .int .i64 p2].toArray w fun e w' => ∃ v, e = .returned v ∧ v = .bool r ∧ Chg Non w w' := by
  unfold spec_l01In at h
  have hC : Chg Non w w := Chg.refl _ _
  refine enter (N := 15) Try.func37 rfl Try.ntmps37 rfl fun fr hF => ?_
  refine wp_seq (wp_pure [(0, .int .i64 p0), (1, .int .i64 p1), (2, .int .i64 p2)] hF (by kernel_rfl) fun fr hF => then_normal ?_)
  refine wp_seq (region_b [] [true, true, true, true, true, true, true, true, true]
      [.eq (.int .i64 p0), .eq (.int .i64 p1), .eq (.bool (decide (p0 ≥ p1))), .eq (.bool (decide (p0 ≥ p1))), .eq (.int .i64 p0), .eq (.int .i64 p2), .eq (.bool (decide (p0 ≤ p2))), .eq (.bool ((decide (p0 ≥ p1)) && (decide (p0 ≤ p2)))), .eq (.bool ((decide (p0 ≥ p1)) && (decide (p0 ≤ p2))))]
      [(6, .bool ((decide (p0 ≥ p1)) && (decide (p0 ≤ p2))))] mix hF (by kernel_rfl) (by kernel_rfl) (by kernel_rfl) trivial (fun hG => trivial) (by kernel_rfl) fun fr w1 hF hE hc => then_normal ?_)
  have hC := hC.trans hc
  have z1 := hc.size
  obtain rfl := Option.some.inj h
  exact wp_ret (ret1 rfl hF rfl ⟨_, rfl, rfl, hC⟩)

theorem spec_WordOk_ok (p0 : Int) (p1 : Int) {r : Bool} (h : spec_WordOk p0 p1 = some r) {w : World} :
    Calls Try.prog 48 [.int .i64 p0, .int .i64 p1].toArray w fun e w' => ∃ v, e = .returned v ∧ v = .bool r ∧ Chg Non w w' := by
  unfold spec_WordOk at h
  have hC : Chg Non w w := Chg.refl _ _
  refine enter (N := 14) Try.func48 rfl Try.ntmps48 rfl fun fr hF => ?_
  refine wp_seq (wp_pure [(0, .int .i64 p0), (1, .int .i64 p1)] hF (by kernel_rfl) fun fr hF => then_normal ?_)
  obtain ⟨x1, hx1, h⟩ := bindE h
  obtain ⟨x2, hx2, h⟩ := bindE h
  obtain ⟨x3, hx3, h⟩ := bindE h
  refine wp_seq (region_b [] [true, false, true, true, true, false, true, false, true, true]
      [.eq (.int .i64 p0), .eq (.bool x1), .eq (.bool x1), .eq (.int .i64 p1), .eq (.int .i64 p0), .eq (.int .i64 x2), .eq (.int .i64 (w64 (x2 - 1))), .eq (.bool x3), .eq (.bool (x1 && x3)), .eq (.bool (x1 && x3))]
      [(4, .bool (x1 && x3))] mix hF (by kernel_rfl) (by kernel_rfl) (by kernel_rfl) ⟨Pd.mono_eq, Pd.mono_eq, Pd.mono_eq, trivial⟩ (fun hG => ⟨np_call [.int .i64 p0, .int .i64 1, .int .i64 16] hG hF Try.call37 rfl rfl (fun w hC hg => (spec_l01In_ok p0 1 16 hx1).mono fun e w' ⟨v, he, hv, hc⟩ => ⟨v, he, hc, hv⟩), np_shl hG hF rfl rfl rfl (fun hg => (iteT hg.2 hx2)) rfl, np_call [.int .i64 p1, .int .i64 0, .int .i64 (w64 (x2 - 1))] hG hF Try.call37 rfl rfl (fun w hC hg => (spec_l01In_ok p1 0 (w64 (x2 - 1)) (iteT hg.2 hx3)).mono fun e w' ⟨v, he, hv, hc⟩ => ⟨v, he, hc, hv⟩), trivial⟩) (by kernel_rfl) fun fr w1 hF hE hc => then_normal ?_)
  have hC := hC.trans hc
  have z1 := hc.size
  obtain rfl := Option.some.inj h
  exact wp_ret (ret1 rfl hF rfl ⟨_, rfl, rfl, hC⟩)

theorem spec_l05Reg_ok (p0 : Int) {r : Bool} (h : spec_l05Reg p0 = some r) {w : World} :
    Calls Try.prog 62 [.int .i64 p0].toArray w fun e w' => ∃ v, e = .returned v ∧ v = .bool r ∧ Chg Non w w' := by
  unfold spec_l05Reg at h
  have hC : Chg Non w w := Chg.refl _ _
  refine enter (N := 5) Try.func62 rfl Try.ntmps62 rfl fun fr hF => ?_
  refine wp_seq (wp_pure [(0, .int .i64 p0)] hF (by kernel_rfl) fun fr hF => then_normal ?_)
  refine wp_seq (wp_text' ?_)
  refine from_pure 1 [(3, .int .i64 p0)] hF (by kernel_rfl) fun fr hF => ?_
  obtain ⟨x1, hx1, h⟩ := bindE h
  refine s_call [.int .i64 p0, .int .i64 0, .int .i64 3] Try.call37 rfl rfl hF rfl (spec_l01In_ok p0 0 3 hx1) fun v w1 fr hR hF => ?_
  obtain ⟨rfl, hc⟩ := hR
  have hC := hC.trans hc
  have z1 := hc.size
  refine from_pure 1 [(2, .bool x1)] hF (by kernel_rfl) fun fr hF => ?_
  refine from_end rfl (then_normal ?_)
  obtain rfl := Option.some.inj h
  exact wp_ret (ret1 rfl hF rfl ⟨_, rfl, rfl, hC⟩)
end Go.Proofs.Ytfccdlggophhoaa
