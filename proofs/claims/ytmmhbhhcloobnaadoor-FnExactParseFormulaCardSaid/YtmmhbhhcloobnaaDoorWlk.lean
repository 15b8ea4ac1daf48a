/- Printed by gen2.py: the walks. -/
import Derived.Test.YtmmhbhhcloobnaaDoorGLt
import Derived.Test.YtmmhbhhcloobnaaDoorGLn
import Derived.Test.YtmmhbhhcloobnaaDoorDefs
import Derived.Test.YtmmhbhhcloobnaaDoorProg
import Derived.KernelRfl
import Derived.DeepKeys4
import Derived.Test.YtmmhbhhcloobnaaDoorShelf
import Derived.Test.YtmmhbhhcloobnaaDoorGLA
import Derived.Test.YtmmhbhhcloobnaaDoorGLB
import Derived.Test.YtmmhbhhcloobnaaDoorBld
import Derived.Test.YtmmhbhhcloobnaaDoorGLC
import Derived.Test.YtmmhbhhcloobnaaDoorGLE
import Derived.Test.YtmmhbhhcloobnaaDoorPrs
set_option linter.unusedVariables false
set_option maxRecDepth 100000
namespace Go.Proofs.YtmmhbhhcloobnaaDoor
open Go.GL Go.Maps Go.WideMaps
abbrev I (x : Int) : Value := .int .i64 x
abbrev L {α : Type} (a : Option Addr) (l : List α) (c : Nat) : Value := .slice a (List.length l) c
abbrev B (b n : Nat) : Value := .pointer (some ⟨b, n, none⟩)
abbrev sl3 : Value → List Int → HP := SL 3
abbrev sl5 : Value → List Byt → HP := SL 5
abbrev sl61 : Value → List Hd → HP := SL 61
abbrev sl9 : Value → List Str → HP := SL 9
theorem mix : Tryd.prog.follows .mixedOrders = true := by kernel_rfl
theorem ty3 : Ty Tryd.prog 3 Int := ⟨by kernel_rfl, by kernel_rfl⟩
theorem ty9 : Ty Tryd.prog 9 Str := ⟨by kernel_rfl, by kernel_rfl⟩
theorem ty43 : Ty Tryd.prog 43 (List (List Int)) := ⟨by kernel_rfl, by kernel_rfl⟩
theorem ty45 : Ty Tryd.prog 45 D.Formula := ⟨by kernel_rfl, by kernel_rfl⟩
theorem ty61 : Ty Tryd.prog 61 (List Int) := ⟨by kernel_rfl, by kernel_rfl⟩
theorem el3 : ElT Tryd.prog 3 Int := elT (by kernel_rfl)
theorem el9 : ElT Tryd.prog 9 Str := elT (by kernel_rfl)
abbrev own61 : Hd → List Int → HP := fun h xs => SL 3 h.v xs
theorem owns61 : Owns own61 := owns_sl _ _
theorem rty61 : Ty Tryd.prog 61 Hd := ⟨by kernel_rfl, by kernel_rfl⟩
theorem rel61 : ElT Tryd.prog 61 Hd := elT (by kernel_rfl)

theorem spec_l01In_ok (p0 : Int) (p1 : Int) (p2 : Int) {r : Bool} (h : spec_l01In p0 p1 p2 = some r) {w : World} :
   Calls Tryd.prog 23 [I p0, I p1, I p2].toArray w fun e w' => ∃ v, e = .returned v ∧ v = .bool r ∧ Chg Non w w' := by
 unfold spec_l01In at h
 have hs := Sep.nil w Non
 have hM0 : Mem w Non (fun k => (False) ∧ k < w.heap.size) w Non (fun k => (False) ∧ k < w.heap.size) := Mem.start (fun _ h => h.elim) (fun _ h => h.2) (fun _ h => h.elim)
 refine enter (N := 15) Tryd.func23 rfl Tryd.ntmps23 rfl fun fr hF => ?_
 refine wp_seq (wp_pure [(0, I p0), (1, I p1), (2, I p2)] hF (by kernel_rfl) fun fr hF => then_normal ?_)
 refine wp_seq (region_b [] [true, true, true, true, true, true, true, true, true]
     [.eq (I p0), .eq (I p1), .eq (.bool (decide (p0 ≥ p1))), .eq (.bool (decide (p0 ≥ p1))), .eq (I p0), .eq (I p2), .eq (.bool (decide (p0 ≤ p2))), .eq (.bool ((decide (p0 ≥ p1)) && (decide (p0 ≤ p2)))), .eq (.bool ((decide (p0 ≥ p1)) && (decide (p0 ≤ p2))))]
     [(6, .bool ((decide (p0 ≥ p1)) && (decide (p0 ≤ p2))))] mix hF (by kernel_rfl) (by kernel_rfl) (by kernel_rfl) trivial (fun hG => trivial) (by kernel_rfl) fun fr w1 hF hE hc => then_normal ?_)
 have hs := hs.ext hc
 have hM0 := hM0.ext hc
 obtain rfl := Option.some.inj h
 exact wp_ret (ret1 rfl hF rfl ⟨_, rfl, rfl, hM0.chg⟩)

theorem spec_FormatInt_ok (n : Nat) : ∀ (p0 : Int) {r : Str} (h : spec_FormatInt n p0 = some r) {w : World},
   Calls Tryd.prog 26 [I p0].toArray w fun e w' => ∃ v, e = .returned v ∧ v = Str.val r ∧ Chg Non w w' := by
 induction n with
 | zero => intro p0 r h w; simp [spec_FormatInt] at h
 | succ n ih =>
 intro p0 r h w
 rw [spec_FormatInt] at h
 have hs := Sep.nil w Non
 have hM0 : Mem w Non (fun k => (False) ∧ k < w.heap.size) w Non (fun k => (False) ∧ k < w.heap.size) := Mem.start (fun _ h => h.elim) (fun _ h => h.2) (fun _ h => h.elim)
 refine enter (N := 44) Tryd.func26 rfl Tryd.ntmps26 rfl fun fr hF => ?_
 refine wp_seq (wp_pure [(0, I p0)] hF (by kernel_rfl) fun fr hF => then_normal ?_)
 refine wp_seq ?_
 refine wp_seq (wp_pure [(0, I p0), (5, .bool (decide (p0 < 0)))] hF (by kernel_rfl) fun fr hF => then_normal ?_)
 refine (wp_if hF (b := (decide (p0 < 0))) rfl (fun hb => ?_) (fun hb => ?_))
 · replace h := iteT hb h
   refine wp_seq ?_
   refine wp_seq (wp_text' ?_)
   refine from_pure 1 [(0, I p0), (6, I p0)] hF (by kernel_rfl) fun fr hF => ?_
   obtain ⟨x1, hx1, h⟩ := bindE h
   refine s_quo rfl rfl hF rfl rfl hx1 fun fr hF => ?_
   refine from_pure 1 [(0, I p0), (8, .bool (x1 == 0))] hF (by kernel_rfl) fun fr hF => ?_
   refine from_end rfl (then_normal ?_)
   refine (wp_if hF (b := (x1 == 0)) rfl (fun hb => ?_) (fun hb => ?_))
   · replace h := iteT hb h
     refine wp_seq (wp_text' ?_)
     refine from_pure 3 [(11, .int .u8 (IntKind.u8.wrap (w64 (48 - p0))))] hF (by kernel_rfl) fun fr hF => ?_
     refine q_lit (E := 5) hs hM0 [.int .u8 (IntKind.u8.wrap (w64 (48 - p0)))] (([(Byt.mk (IntKind.u8.wrap (w64 (48 - p0))))] : List Byt).map Flat.enc) ([(Byt.mk (IntKind.u8.wrap (w64 (48 - p0))))] : List Byt) rfl rfl hF [.int .u8 (IntKind.u8.wrap (w64 (48 - p0)))] rfl (fun w => by kernel_rfl) (css_flat _) rfl rfl rfl fun a1 c1 w1 S1 fr hs hp hF => ?_
     have hM0 := hM0.stp hp
     have hs : Sep [sl5 (.slice a1 (List.length ([(Byt.mk (IntKind.u8.wrap (w64 (48 - p0))))] : List Byt)) c1) ([(Byt.mk (IntKind.u8.wrap (w64 (48 - p0))))] : List Byt)] w1 S1 := hs
     refine s_bytesStr Tryd.underlying62 Tryd.underlying5 Tryd.underlying9 rfl rfl hF rfl (hs.rv 0 rfl) fun fr hF => ?_
     have hs : Sep [] w1 S1 := Sep.pick [] hs (by decide) rfl
     obtain ⟨x2, hx2, h⟩ := bindE h
     refine s_cat (s1 := (⟨[45]⟩)) (s2 := (strOf ([(Byt.mk (IntKind.u8.wrap (w64 (48 - p0))))] : List Byt))) rfl rfl hF rfl rfl hx2 fun fr hF => ?_
     refine from_pure 1 [(2, Str.val x2)] hF (by kernel_rfl) fun fr hF => ?_
     refine from_end rfl (then_normal ?_)
     obtain rfl := Option.some.inj h
     exact wp_ret (then_ret (then_ret (ret1 rfl hF rfl ⟨_, rfl, rfl, hM0.chg⟩)))
   replace h := iteF hb h
   refine (wp_skip (then_normal ?_))
   obtain ⟨x3, hx3, h⟩ := bindE h
   obtain ⟨x4, hx4, h⟩ := bindE h
   obtain ⟨x5, hx5, h⟩ := bindE h
   obtain ⟨x6, hx6, h⟩ := bindE h
   refine wp_seq (region_bm 11 [0, 1, 3, 0, 8, 24, 56, 120, 248, 511, 1023] [true, false, false, true, false, true, true, false, false, false, true]
       [.eq (I p0), .eq (I x3), .eq (Str.val x4), .eq (I p0), .eq (I x5), .eq (I (w64 (48 - x5))), .eq (.int .u8 (IntKind.u8.wrap (w64 (48 - x5)))), .is fun v w => RV w (fun k => k < w.heap.size) v ([(Byt.mk (IntKind.u8.wrap (w64 (48 - x5))))] : List Byt), .eq (Str.val (strOf ([(Byt.mk (IntKind.u8.wrap (w64 (48 - x5))))] : List Byt))), .eq (Str.val x6), .eq (Str.val x6)]
       [(2, Str.val x6)] mix hF (by kernel_rfl) (by kernel_rfl) (by kernel_rfl) (by kernel_rfl) ⟨Pd.monoO_eq, Pd.monoO_eq, Pd.monoO_eq, (Pd.monoO_is mono_rvb), Pd.monoO_eq, Pd.monoO_eq, trivial⟩ (fun ow hG => ⟨np_to ow (np_quo hG hF rfl rfl rfl (fun hg => hx3) rfl), np_to ow (np_call [I x3] hG hF Tryd.call26 rfl rfl (fun w hC hg => (ih x3 hx4).mono fun e w' ⟨v, he, hv, hc⟩ => ⟨v, he, hc, hv⟩)), np_to ow (np_rem hG hF rfl rfl rfl (fun hg => hx5) rfl), np_to ow (np_litI (E := 5) [.int .u8 (IntKind.u8.wrap (w64 (48 - x5)))] (([(Byt.mk (IntKind.u8.wrap (w64 (48 - x5))))] : List Byt).map Flat.enc) ([(Byt.mk (IntKind.u8.wrap (w64 (48 - x5))))] : List Byt) hG hF rfl [.int .u8 (IntKind.u8.wrap (w64 (48 - x5)))] rfl (fun w => by kernel_rfl) (fun w => css_flat _) rfl rfl rfl rfl), np_to ow (np_bytesD (le := ([(Byt.mk (IntKind.u8.wrap (w64 (48 - x5))))] : List Byt)) (i := 7) (s := 22) hG hF rfl rfl rfl rfl rfl Tryd.underlying62 Tryd.underlying5 Tryd.underlying9 rfl), np_to ow (np_cat (s1 := x4) (s2 := (strOf ([(Byt.mk (IntKind.u8.wrap (w64 (48 - x5))))] : List Byt))) hG hF rfl rfl rfl (fun hg => hx6) rfl), trivial⟩) (by kernel_rfl) fun ow fr w2 hF hE hc => ?_)
   have hs := hs.ext hc
   have hM0 := hM0.ext hc
   refine from_end rfl (then_normal ?_)
   obtain rfl := Option.some.inj h
   exact wp_ret (then_ret (ret1 rfl hF rfl ⟨_, rfl, rfl, hM0.chg⟩))
 replace h := iteF hb h
 refine (wp_skip (then_normal ?_))
 refine wp_seq (wp_pure [(0, I p0), (3, Str.val (⟨[]⟩))] hF (by kernel_rfl) fun fr hF => then_normal ?_)
 obtain ⟨rl1, hit1, h⟩ := bindE h
 have hk1 := h
 refine wp_seq (GL.wp_cut (M := fun fr w' => ∃ S3 F2, FrS 44 [(0, I rl1.1), (3, Str.val rl1.2)] fr ∧ Mem w Non (fun k => (False) ∧ k < w.heap.size) w' S3 F2 ∧ Sep [] w' S3) (wp_block (wp_iter (Inv := fun s1 fr w' => ∃ S2 F1, FrS 44 [(0, I s1.1), (3, Str.val s1.2)] fr ∧ Mem w Non (fun k => (False) ∧ k < w.heap.size) w' S2 F1 ∧ Sep [] w' S2) hit1 ⟨Non, _, hF.sub _ (by kernel_rfl), (Mem.start hM0.bd hM0.bdF hM0.dj), hs⟩ fun s1 q1 fr w1i hI h hr1 => ?_)) fun fr w1o hM => ?_)
 · obtain ⟨S2, F1, hF, hM1, hs⟩ := hI
   refine wp_seq ?_
   refine wp_seq (wp_pure [(0, I s1.1), (3, Str.val s1.2), (26, .bool (decide (s1.1 > 9)))] hF (by kernel_rfl) fun fr hF => then_normal ?_)
   refine (wp_if hF (b := (decide (s1.1 > 9))) rfl (fun hb => ?_) (fun hb => ?_))
   · replace h := iteT hb h
     refine (wp_skip (then_normal ?_))
     refine (wp_block ?_)
     refine wp_seq (wp_text' ?_)
     refine from_pure 1 [(0, I s1.1), (3, Str.val s1.2), (27, I s1.1)] hF (by kernel_rfl) fun fr hF => ?_
     obtain ⟨x7, hx7, h⟩ := bindE h
     refine s_rem rfl rfl hF rfl rfl hx7 fun fr hF => ?_
     refine from_pure 2 [(0, I s1.1), (3, Str.val s1.2), (30, .int .u8 (IntKind.u8.wrap (w64 (48 + x7))))] hF (by kernel_rfl) fun fr hF => ?_
     refine q_lit (E := 5) hs hM1 [.int .u8 (IntKind.u8.wrap (w64 (48 + x7)))] (([(Byt.mk (IntKind.u8.wrap (w64 (48 + x7))))] : List Byt).map Flat.enc) ([(Byt.mk (IntKind.u8.wrap (w64 (48 + x7))))] : List Byt) rfl rfl hF [.int .u8 (IntKind.u8.wrap (w64 (48 + x7)))] rfl (fun w => by kernel_rfl) (css_flat _) rfl rfl rfl fun a2 c2 w3 S4 fr hs hp hF => ?_
     have hM1 := hM1.stp hp
     have hs : Sep [sl5 (.slice a2 (List.length ([(Byt.mk (IntKind.u8.wrap (w64 (48 + x7))))] : List Byt)) c2) ([(Byt.mk (IntKind.u8.wrap (w64 (48 + x7))))] : List Byt)] w3 S4 := hs
     refine s_bytesStr Tryd.underlying62 Tryd.underlying5 Tryd.underlying9 rfl rfl hF rfl (hs.rv 0 rfl) fun fr hF => ?_
     have hs : Sep [] w3 S4 := Sep.pick [] hs (by decide) rfl
     refine from_pure 1 [(0, I s1.1), (32, Str.val (strOf ([(Byt.mk (IntKind.u8.wrap (w64 (48 + x7))))] : List Byt))), (33, Str.val s1.2)] hF (by kernel_rfl) fun fr hF => ?_
     obtain ⟨x8, hx8, h⟩ := bindE h
     refine s_cat (s1 := (strOf ([(Byt.mk (IntKind.u8.wrap (w64 (48 + x7))))] : List Byt))) (s2 := s1.2) rfl rfl hF rfl rfl hx8 fun fr hF => ?_
     refine from_pure 1 [(0, I s1.1), (3, Str.val x8)] hF (by kernel_rfl) fun fr hF => ?_
     refine from_end rfl (then_normal ?_)
     refine (wp_text' ?_)
     refine from_pure 1 [(3, Str.val x8), (35, I s1.1)] hF (by kernel_rfl) fun fr hF => ?_
     obtain ⟨x9, hx9, h⟩ := bindE h
     refine s_quo rfl rfl hF rfl rfl hx9 fun fr hF => ?_
     refine from_pure 1 [(0, I x9), (3, Str.val x8)] hF (by kernel_rfl) fun fr hF => ?_
     refine from_end rfl ?_
     refine blk_normal (then_normal ?_)
     exact ⟨_, (Option.some.inj h).symm, S4, _, hF.sub _ (by kernel_rfl), hM1, hs⟩
   replace h := iteF hb h
   refine (wp_exit (then_exit (then_exit (blk_exit_eq ?_))))
   obtain rfl := hr1 _ (Option.some.inj h).symm
   exact then_normal ⟨S2, _, hF.sub _ (by kernel_rfl), hM1, hs⟩
 · obtain ⟨S3, F2, hF, hMx, hs⟩ := hM
   have hM0 := hM0.trans hMx
   refine wp_seq (wp_text' ?_)
   refine from_pure 3 [(3, Str.val rl1.2), (39, .int .u8 (IntKind.u8.wrap (w64 (48 + rl1.1))))] hF (by kernel_rfl) fun fr hF => ?_
   refine q_lit (E := 5) hs hM0 [.int .u8 (IntKind.u8.wrap (w64 (48 + rl1.1)))] (([(Byt.mk (IntKind.u8.wrap (w64 (48 + rl1.1))))] : List Byt).map Flat.enc) ([(Byt.mk (IntKind.u8.wrap (w64 (48 + rl1.1))))] : List Byt) rfl rfl hF [.int .u8 (IntKind.u8.wrap (w64 (48 + rl1.1)))] rfl (fun w => by kernel_rfl) (css_flat _) rfl rfl rfl fun a3 c3 w4 S5 fr hs hp hF => ?_
   have hM0 := hM0.stp hp
   have hs : Sep [sl5 (.slice a3 (List.length ([(Byt.mk (IntKind.u8.wrap (w64 (48 + rl1.1))))] : List Byt)) c3) ([(Byt.mk (IntKind.u8.wrap (w64 (48 + rl1.1))))] : List Byt)] w4 S5 := hs
   refine s_bytesStr Tryd.underlying62 Tryd.underlying5 Tryd.underlying9 rfl rfl hF rfl (hs.rv 0 rfl) fun fr hF => ?_
   have hs : Sep [] w4 S5 := Sep.pick [] hs (by decide) rfl
   refine from_pure 1 [(41, Str.val (strOf ([(Byt.mk (IntKind.u8.wrap (w64 (48 + rl1.1))))] : List Byt))), (42, Str.val rl1.2)] hF (by kernel_rfl) fun fr hF => ?_
   obtain ⟨x10, hx10, h⟩ := bindE h
   refine s_cat (s1 := (strOf ([(Byt.mk (IntKind.u8.wrap (w64 (48 + rl1.1))))] : List Byt))) (s2 := rl1.2) rfl rfl hF rfl rfl hx10 fun fr hF => ?_
   refine from_pure 1 [(2, Str.val x10)] hF (by kernel_rfl) fun fr hF => ?_
   refine from_end rfl (then_normal ?_)
   obtain rfl := Option.some.inj h
   exact wp_ret (ret1 rfl hF rfl ⟨_, rfl, rfl, hM0.chg⟩)

theorem spec_ParseInt_ok (n : Nat) (p0 : Str) {r : Int × Bool} (h : spec_ParseInt n p0 = some r) {w : World} :
   Calls Tryd.prog 51 [Str.val p0].toArray w fun e w' => ∃ v, e = .returned v ∧ v = .tuple #[I r.1, .bool r.2] ∧ Chg Non w w' := by
 unfold spec_ParseInt at h
 have hs := Sep.nil w Non
 have hM0 : Mem w Non (fun k => (False) ∧ k < w.heap.size) w Non (fun k => (False) ∧ k < w.heap.size) := Mem.start (fun _ h => h.elim) (fun _ h => h.2) (fun _ h => h.elim)
 refine enter (N := 65) Tryd.func51 rfl Tryd.ntmps51 rfl fun fr hF => ?_
 refine wp_seq (wp_pure [(0, Str.val p0)] hF (by kernel_rfl) fun fr hF => then_normal ?_)
 obtain ⟨x1, hx1, h⟩ := bindE h
 refine wp_seq (region_b [] [true, true, true, true, true, false, true, true, true]
     [.eq (Str.val p0), .eq (I (len p0.bytes)), .eq (.bool (decide ((len p0.bytes) > 0))), .eq (.bool (decide ((len p0.bytes) > 0))), .eq (Str.val p0), .eq (.int .u8 x1), .eq (.bool (x1 == 45)), .eq (.bool ((decide ((len p0.bytes) > 0)) && (x1 == 45))), .eq (.bool ((decide ((len p0.bytes) > 0)) && (x1 == 45)))]
     [(0, Str.val p0), (4, .bool ((decide ((len p0.bytes) > 0)) && (x1 == 45)))] mix hF (by kernel_rfl) (by kernel_rfl) (by kernel_rfl) ⟨Pd.mono_eq, trivial⟩ (fun hG => ⟨np_index_str (s := p0) hG hF Tryd.underlying9 rfl rfl rfl (fun hg => (iteT hg.2 hx1)) rfl, trivial⟩) (by kernel_rfl) fun fr w1 hF hE hc => then_normal ?_)
 have hs := hs.ext hc
 have hM0 := hM0.ext hc
 refine wp_seq (wp_pure [(0, Str.val p0), (4, .bool ((decide ((len p0.bytes) > 0)) && (x1 == 45))), (5, Str.val p0)] hF (by kernel_rfl) fun fr hF => then_normal ?_)
 refine wp_seq ?_
 refine wp_seq (wp_pure [(0, Str.val p0), (4, .bool ((decide ((len p0.bytes) > 0)) && (x1 == 45))), (5, Str.val p0), (18, .bool ((decide ((len p0.bytes) > 0)) && (x1 == 45)))] hF (by kernel_rfl) fun fr hF => then_normal ?_)
 refine (wp_if hF (b := ((decide ((len p0.bytes) > 0)) && (x1 == 45))) rfl (fun hb => ?_) (fun hb => ?_))
 · replace h := iteT hb h
   refine (wp_text' ?_)
   refine from_pure 1 [(0, Str.val p0), (4, .bool ((decide ((len p0.bytes) > 0)) && (x1 == 45))), (19, Str.val p0)] hF (by kernel_rfl) fun fr hF => ?_
   obtain ⟨x2, hx2, h⟩ := bindE h
   refine s_scut (s := p0) Tryd.underlying9 rfl rfl hF rfl ⟨_, rfl⟩ rfl hx2 fun fr hF => ?_
   refine from_pure 1 [(0, Str.val p0), (4, .bool ((decide ((len p0.bytes) > 0)) && (x1 == 45))), (5, Str.val x2)] hF (by kernel_rfl) fun fr hF => ?_
   refine from_end rfl (then_normal ?_)
   refine wp_seq ?_
   refine wp_seq (region_b [] [true, true, true, true, true, true, true, true]
       [.eq (Str.val x2), .eq (I (len x2.bytes)), .eq (.bool (decide ((len x2.bytes) < 1))), .eq (.bool (decide ((len x2.bytes) < 1))), .eq (Str.val x2), .eq (I (len x2.bytes)), .eq (.bool (decide ((len x2.bytes) > 19))), .eq (.bool ((decide ((len x2.bytes) < 1)) || (decide ((len x2.bytes) > 19))))]
       [(0, Str.val p0), (4, .bool ((decide ((len p0.bytes) > 0)) && (x1 == 45))), (5, Str.val x2), (28, .bool ((decide ((len x2.bytes) < 1)) || (decide ((len x2.bytes) > 19))))] mix hF (by kernel_rfl) (by kernel_rfl) (by kernel_rfl) trivial (fun hG => trivial) (by kernel_rfl) fun fr w2 hF hE hc => then_normal ?_)
   have hs := hs.ext hc
   have hM0 := hM0.ext hc
   refine (wp_if hF (b := ((decide ((len x2.bytes) < 1)) || (decide ((len x2.bytes) > 19)))) rfl (fun hb => ?_) (fun hb => ?_))
   · replace h := iteT hb h
     refine wp_seq (wp_pure [(2, I 0), (3, .bool false)] hF (by kernel_rfl) fun fr hF => then_normal ?_)
     have hrets := fun {σ : List (Nat × Value)} (h : σ = [(2, I 0), (3, .bool false)]) => (by subst h; exact (Rets.tmp rfl (Rets.tmp rfl Rets.nil)) : Rets Tryd.prog σ w2 [.tmp 2, .tmp 3] [I 0, .bool false])
     obtain rfl := Option.some.inj h
     exact wp_ret (then_ret (retG (rs := [.tmp 2, .tmp 3]) rfl (hF.sub [(2, I 0), (3, .bool false)] (by kernel_rfl)) (hrets rfl) rfl ⟨_, rfl, rfl, hM0.chg⟩))
   replace h := iteF hb h
   refine (wp_skip (then_normal ?_))
   refine wp_seq (wp_pure [(0, Str.val p0), (4, .bool ((decide ((len p0.bytes) > 0)) && (x1 == 45))), (5, Str.val x2), (6, I 0)] hF (by kernel_rfl) fun fr hF => then_normal ?_)
   refine wp_seq ?_
   refine wp_seq (wp_pure [(0, Str.val p0), (4, .bool ((decide ((len p0.bytes) > 0)) && (x1 == 45))), (5, Str.val x2), (6, I 0), (7, I 0)] hF (by kernel_rfl) fun fr hF => then_normal ?_)
   obtain ⟨rl1, hit1, h⟩ := bindE h
   have hk1 := h
   refine (GL.wp_cut (M := fun fr w' => ∃ s, rl1 = .inl s ∧ ∃ S2 F2, FrS 65 [(0, Str.val p0), (4, .bool ((decide ((len p0.bytes) > 0)) && (x1 == 45))), (6, I s)] fr ∧ Mem w2 Non (fun k => (False) ∧ k < w.heap.size) w' S2 F2 ∧ Sep [] w' S2) (wp_block (wp_iter (Inv := fun s1 fr w' => ∃ S1 F1, FrS 65 [(0, Str.val p0), (4, .bool ((decide ((len p0.bytes) > 0)) && (x1 == 45))), (5, Str.val x2), (6, I s1.1), (7, I s1.2)] fr ∧ Mem w2 Non (fun k => (False) ∧ k < w.heap.size) w' S1 F1 ∧ Sep [] w' S1) hit1 ⟨Non, _, hF.sub _ (by kernel_rfl), (Mem.start hM0.bd hM0.bdF hM0.dj), hs⟩ fun s1 q1 fr w1i hI h hr1 => ?_)) fun fr w1o hM => ?_)
   · obtain ⟨S1, F1, hF, hM1, hs⟩ := hI
     refine wp_seq ?_
     refine wp_seq (wp_pure [(0, Str.val p0), (4, .bool ((decide ((len p0.bytes) > 0)) && (x1 == 45))), (5, Str.val x2), (6, I s1.1), (7, I s1.2), (32, .bool (decide (s1.2 < (len x2.bytes))))] hF (by kernel_rfl) fun fr hF => then_normal ?_)
     refine (wp_if hF (b := (decide (s1.2 < (len x2.bytes)))) rfl (fun hb => ?_) (fun hb => ?_))
     · replace h := iteT hb h
       refine (wp_skip (then_normal ?_))
       refine wp_seq (wp_block ?_)
       refine wp_seq (wp_text' ?_)
       refine from_pure 2 [(0, Str.val p0), (4, .bool ((decide ((len p0.bytes) > 0)) && (x1 == 45))), (5, Str.val x2), (6, I s1.1), (7, I s1.2), (35, Str.val x2), (36, I s1.2)] hF (by kernel_rfl) fun fr hF => ?_
       obtain ⟨x3, hx3, h⟩ := bindE h
       refine s_index (s := x2) Tryd.underlying9 rfl rfl hF rfl rfl hx3 fun fr hF => ?_
       refine from_pure 3 [(0, Str.val p0), (4, .bool ((decide ((len p0.bytes) > 0)) && (x1 == 45))), (5, Str.val x2), (6, I s1.1), (7, I s1.2), (8, I (w64 ((w64 x3) - 48)))] hF (by kernel_rfl) fun fr hF => ?_
       refine from_end rfl (then_normal ?_)
       refine wp_seq ?_
       obtain ⟨x4, hx4, h⟩ := bindE h
       obtain ⟨x5, hx5, h⟩ := bindE h
       refine wp_seq (region_b [] [true, false, true, true, true, true, true, false, true, true]
           [.eq (I (w64 ((w64 x3) - 48))), .eq (.bool x4), .eq (.bool (!x4)), .eq (.bool (!x4)), .eq (I s1.1), .eq (I (w64 ((w64 x3) - 48))), .eq (I (w64 ((-9223372036854775808) + (w64 ((w64 x3) - 48))))), .eq (I x5), .eq (.bool (decide (s1.1 < x5))), .eq (.bool ((!x4) || (decide (s1.1 < x5))))]
           [(0, Str.val p0), (4, .bool ((decide ((len p0.bytes) > 0)) && (x1 == 45))), (5, Str.val x2), (6, I s1.1), (7, I s1.2), (8, I (w64 ((w64 x3) - 48))), (49, .bool ((!x4) || (decide (s1.1 < x5))))] mix hF (by kernel_rfl) (by kernel_rfl) (by kernel_rfl) ⟨Pd.mono_eq, Pd.mono_eq, trivial⟩ (fun hG => ⟨np_call [I (w64 ((w64 x3) - 48)), I 0, I 9] hG hF Tryd.call23 rfl rfl (fun w hC hg => (spec_l01In_ok (w64 ((w64 x3) - 48)) 0 9 hx4).mono fun e w' ⟨v, he, hv, hc⟩ => ⟨v, he, hc, hv⟩), np_quo hG hF rfl rfl rfl (fun hg => (iteF hg.2 hx5)) rfl, trivial⟩) (by kernel_rfl) fun fr w3 hF hE hc => then_normal ?_)
       have hs := hs.ext hc
       have hM1 := hM1.ext hc
       refine (wp_if hF (b := ((!x4) || (decide (s1.1 < x5)))) rfl (fun hb => ?_) (fun hb => ?_))
       · replace h := iteT hb h
         refine wp_seq (wp_pure [(2, I 0), (3, .bool false)] hF (by kernel_rfl) fun fr hF => then_normal ?_)
         have hrets := fun {σ : List (Nat × Value)} (h : σ = [(2, I 0), (3, .bool false)]) => (by subst h; exact (Rets.tmp rfl (Rets.tmp rfl Rets.nil)) : Rets Tryd.prog σ w3 [.tmp 2, .tmp 3] [I 0, .bool false])
         obtain rfl := hr1 _ (Option.some.inj h).symm
         obtain rfl := Option.some.inj hk1
         exact wp_ret (then_ret (blk_ret (then_ret (then_ret (blk_ret (then_ret (retG (rs := [.tmp 2, .tmp 3]) rfl (hF.sub [(2, I 0), (3, .bool false)] (by kernel_rfl)) (hrets rfl) rfl ⟨_, rfl, rfl, (hM0.trans hM1).chg⟩)))))))
       replace h := iteF hb h
       refine (wp_skip (then_normal ?_))
       refine (wp_pure [(0, Str.val p0), (4, .bool ((decide ((len p0.bytes) > 0)) && (x1 == 45))), (5, Str.val x2), (6, I (w64 ((w64 (s1.1 * 10)) - (w64 ((w64 x3) - 48))))), (7, I s1.2)] hF (by kernel_rfl) fun fr hF => ?_)
       refine blk_normal (then_normal ?_)
       refine (wp_pure [(0, Str.val p0), (4, .bool ((decide ((len p0.bytes) > 0)) && (x1 == 45))), (5, Str.val x2), (6, I (w64 ((w64 (s1.1 * 10)) - (w64 ((w64 x3) - 48))))), (7, I (w64 (s1.2 + 1)))] hF (by kernel_rfl) fun fr hF => then_normal ?_)
       exact ⟨_, (Option.some.inj h).symm, S1, _, hF.sub _ (by kernel_rfl), hM1, hs⟩
     replace h := iteF hb h
     refine (wp_exit (then_exit (then_exit (blk_exit_eq ?_))))
     obtain rfl := hr1 _ (Option.some.inj h).symm
     exact then_normal ⟨_, rfl, S1, _, hF.sub _ (by kernel_rfl), hM1, hs⟩
   · obtain ⟨s1r, rfl, hM⟩ := hM
     obtain ⟨S2, F2, hF, hMx, hs⟩ := hM
     have hM0 := hM0.trans hMx
     refine wp_seq ?_
     refine wp_seq (wp_pure [(0, Str.val p0), (6, I s1r), (55, .bool (!((decide ((len p0.bytes) > 0)) && (x1 == 45))))] hF (by kernel_rfl) fun fr hF => then_normal ?_)
     refine (wp_if hF (b := (!((decide ((len p0.bytes) > 0)) && (x1 == 45)))) rfl (fun hb => ?_) (fun hb => ?_))
     · replace h := iteT hb h
       refine wp_seq ?_
       refine wp_seq (wp_pure [(0, Str.val p0), (6, I s1r), (57, .bool (s1r == (-9223372036854775808)))] hF (by kernel_rfl) fun fr hF => then_normal ?_)
       refine (wp_if hF (b := (s1r == (-9223372036854775808))) rfl (fun hb => ?_) (fun hb => ?_))
       · replace h := iteT hb h
         refine wp_seq (wp_pure [(2, I 0), (3, .bool false)] hF (by kernel_rfl) fun fr hF => then_normal ?_)
         have hrets := fun {σ : List (Nat × Value)} (h : σ = [(2, I 0), (3, .bool false)]) => (by subst h; exact (Rets.tmp rfl (Rets.tmp rfl Rets.nil)) : Rets Tryd.prog σ w1o [.tmp 2, .tmp 3] [I 0, .bool false])
         obtain rfl := Option.some.inj h
         exact wp_ret (then_ret (then_ret (retG (rs := [.tmp 2, .tmp 3]) rfl (hF.sub [(2, I 0), (3, .bool false)] (by kernel_rfl)) (hrets rfl) rfl ⟨_, rfl, rfl, hM0.chg⟩)))
       replace h := iteF hb h
       refine (wp_skip (then_normal ?_))
       refine (wp_pure [(0, Str.val p0), (6, I (w64 (0 - s1r)))] hF (by kernel_rfl) fun fr hF => then_normal ?_)
       refine wp_seq ?_
       refine wp_seq (wp_text' ?_)
       refine from_pure 1 [(0, Str.val p0), (6, I (w64 (0 - s1r))), (60, I (w64 (0 - s1r)))] hF (by kernel_rfl) fun fr hF => ?_
       obtain ⟨x6, hx6, h⟩ := bindE h
       refine s_call [I (w64 (0 - s1r))] Tryd.call26 rfl rfl hF rfl (spec_FormatInt_ok n (w64 (0 - s1r)) hx6) fun v w4 fr hRes hF => ?_
       obtain ⟨rfl, hc⟩ := hRes
       have hs := hs.ext hc
       have hM0 := hM0.ext hc
       refine from_pure 2 [(6, I (w64 (0 - s1r))), (63, .bool (!(Str.eqb x6 p0)))] hF (by kernel_rfl) fun fr hF => ?_
       refine from_end rfl (then_normal ?_)
       refine (wp_if hF (b := (!(Str.eqb x6 p0))) rfl (fun hb => ?_) (fun hb => ?_))
       · replace h := iteT hb h
         refine wp_seq (wp_pure [(2, I 0), (3, .bool false)] hF (by kernel_rfl) fun fr hF => then_normal ?_)
         have hrets := fun {σ : List (Nat × Value)} (h : σ = [(2, I 0), (3, .bool false)]) => (by subst h; exact (Rets.tmp rfl (Rets.tmp rfl Rets.nil)) : Rets Tryd.prog σ w4 [.tmp 2, .tmp 3] [I 0, .bool false])
         obtain rfl := Option.some.inj h
         exact wp_ret (then_ret (retG (rs := [.tmp 2, .tmp 3]) rfl (hF.sub [(2, I 0), (3, .bool false)] (by kernel_rfl)) (hrets rfl) rfl ⟨_, rfl, rfl, hM0.chg⟩))
       replace h := iteF hb h
       refine (wp_skip (then_normal ?_))
       refine wp_seq (wp_pure [(2, I (w64 (0 - s1r))), (3, .bool true)] hF (by kernel_rfl) fun fr hF => then_normal ?_)
       have hrets := fun {σ : List (Nat × Value)} (h : σ = [(2, I (w64 (0 - s1r))), (3, .bool true)]) => (by subst h; exact (Rets.tmp rfl (Rets.tmp rfl Rets.nil)) : Rets Tryd.prog σ w4 [.tmp 2, .tmp 3] [I (w64 (0 - s1r)), .bool true])
       obtain rfl := Option.some.inj h
       exact wp_ret (retG (rs := [.tmp 2, .tmp 3]) rfl (hF.sub [(2, I (w64 (0 - s1r))), (3, .bool true)] (by kernel_rfl)) (hrets rfl) rfl ⟨_, rfl, rfl, hM0.chg⟩)
     replace h := iteF hb h
     refine (wp_skip (then_normal ?_))
     refine wp_seq ?_
     refine wp_seq (wp_text' ?_)
     refine from_pure 1 [(0, Str.val p0), (6, I s1r), (60, I s1r)] hF (by kernel_rfl) fun fr hF => ?_
     obtain ⟨x7, hx7, h⟩ := bindE h
     refine s_call [I s1r] Tryd.call26 rfl rfl hF rfl (spec_FormatInt_ok n s1r hx7) fun v w5 fr hRes hF => ?_
     obtain ⟨rfl, hc⟩ := hRes
     have hs := hs.ext hc
     have hM0 := hM0.ext hc
     refine from_pure 2 [(6, I s1r), (63, .bool (!(Str.eqb x7 p0)))] hF (by kernel_rfl) fun fr hF => ?_
     refine from_end rfl (then_normal ?_)
     refine (wp_if hF (b := (!(Str.eqb x7 p0))) rfl (fun hb => ?_) (fun hb => ?_))
     · replace h := iteT hb h
       refine wp_seq (wp_pure [(2, I 0), (3, .bool false)] hF (by kernel_rfl) fun fr hF => then_normal ?_)
       have hrets := fun {σ : List (Nat × Value)} (h : σ = [(2, I 0), (3, .bool false)]) => (by subst h; exact (Rets.tmp rfl (Rets.tmp rfl Rets.nil)) : Rets Tryd.prog σ w5 [.tmp 2, .tmp 3] [I 0, .bool false])
       obtain rfl := Option.some.inj h
       exact wp_ret (then_ret (retG (rs := [.tmp 2, .tmp 3]) rfl (hF.sub [(2, I 0), (3, .bool false)] (by kernel_rfl)) (hrets rfl) rfl ⟨_, rfl, rfl, hM0.chg⟩))
     replace h := iteF hb h
     refine (wp_skip (then_normal ?_))
     refine wp_seq (wp_pure [(2, I s1r), (3, .bool true)] hF (by kernel_rfl) fun fr hF => then_normal ?_)
     have hrets := fun {σ : List (Nat × Value)} (h : σ = [(2, I s1r), (3, .bool true)]) => (by subst h; exact (Rets.tmp rfl (Rets.tmp rfl Rets.nil)) : Rets Tryd.prog σ w5 [.tmp 2, .tmp 3] [I s1r, .bool true])
     obtain rfl := Option.some.inj h
     exact wp_ret (retG (rs := [.tmp 2, .tmp 3]) rfl (hF.sub [(2, I s1r), (3, .bool true)] (by kernel_rfl)) (hrets rfl) rfl ⟨_, rfl, rfl, hM0.chg⟩)
 replace h := iteF hb h
 refine (wp_skip (then_normal ?_))
 refine wp_seq ?_
 refine wp_seq (region_b [] [true, true, true, true, true, true, true, true]
     [.eq (Str.val p0), .eq (I (len p0.bytes)), .eq (.bool (decide ((len p0.bytes) < 1))), .eq (.bool (decide ((len p0.bytes) < 1))), .eq (Str.val p0), .eq (I (len p0.bytes)), .eq (.bool (decide ((len p0.bytes) > 19))), .eq (.bool ((decide ((len p0.bytes) < 1)) || (decide ((len p0.bytes) > 19))))]
     [(0, Str.val p0), (4, .bool ((decide ((len p0.bytes) > 0)) && (x1 == 45))), (5, Str.val p0), (28, .bool ((decide ((len p0.bytes) < 1)) || (decide ((len p0.bytes) > 19))))] mix hF (by kernel_rfl) (by kernel_rfl) (by kernel_rfl) trivial (fun hG => trivial) (by kernel_rfl) fun fr w6 hF hE hc => then_normal ?_)
 have hs := hs.ext hc
 have hM0 := hM0.ext hc
 refine (wp_if hF (b := ((decide ((len p0.bytes) < 1)) || (decide ((len p0.bytes) > 19)))) rfl (fun hb => ?_) (fun hb => ?_))
 · replace h := iteT hb h
   refine wp_seq (wp_pure [(2, I 0), (3, .bool false)] hF (by kernel_rfl) fun fr hF => then_normal ?_)
   have hrets := fun {σ : List (Nat × Value)} (h : σ = [(2, I 0), (3, .bool false)]) => (by subst h; exact (Rets.tmp rfl (Rets.tmp rfl Rets.nil)) : Rets Tryd.prog σ w6 [.tmp 2, .tmp 3] [I 0, .bool false])
   obtain rfl := Option.some.inj h
   exact wp_ret (then_ret (retG (rs := [.tmp 2, .tmp 3]) rfl (hF.sub [(2, I 0), (3, .bool false)] (by kernel_rfl)) (hrets rfl) rfl ⟨_, rfl, rfl, hM0.chg⟩))
 replace h := iteF hb h
 refine (wp_skip (then_normal ?_))
 refine wp_seq (wp_pure [(0, Str.val p0), (4, .bool ((decide ((len p0.bytes) > 0)) && (x1 == 45))), (5, Str.val p0), (6, I 0)] hF (by kernel_rfl) fun fr hF => then_normal ?_)
 refine wp_seq ?_
 refine wp_seq (wp_pure [(0, Str.val p0), (4, .bool ((decide ((len p0.bytes) > 0)) && (x1 == 45))), (5, Str.val p0), (6, I 0), (7, I 0)] hF (by kernel_rfl) fun fr hF => then_normal ?_)
 obtain ⟨rl2, hit2, h⟩ := bindE h
 have hk2 := h
 refine (GL.wp_cut (M := fun fr w' => ∃ s, rl2 = .inl s ∧ ∃ S4 F4, FrS 65 [(0, Str.val p0), (4, .bool ((decide ((len p0.bytes) > 0)) && (x1 == 45))), (6, I s)] fr ∧ Mem w6 Non (fun k => (False) ∧ k < w.heap.size) w' S4 F4 ∧ Sep [] w' S4) (wp_block (wp_iter (Inv := fun s2 fr w' => ∃ S3 F3, FrS 65 [(0, Str.val p0), (4, .bool ((decide ((len p0.bytes) > 0)) && (x1 == 45))), (5, Str.val p0), (6, I s2.1), (7, I s2.2)] fr ∧ Mem w6 Non (fun k => (False) ∧ k < w.heap.size) w' S3 F3 ∧ Sep [] w' S3) hit2 ⟨Non, _, hF.sub _ (by kernel_rfl), (Mem.start hM0.bd hM0.bdF hM0.dj), hs⟩ fun s2 q2 fr w2i hI h hr2 => ?_)) fun fr w2o hM => ?_)
 · obtain ⟨S3, F3, hF, hM1, hs⟩ := hI
   refine wp_seq ?_
   refine wp_seq (wp_pure [(0, Str.val p0), (4, .bool ((decide ((len p0.bytes) > 0)) && (x1 == 45))), (5, Str.val p0), (6, I s2.1), (7, I s2.2), (32, .bool (decide (s2.2 < (len p0.bytes))))] hF (by kernel_rfl) fun fr hF => then_normal ?_)
   refine (wp_if hF (b := (decide (s2.2 < (len p0.bytes)))) rfl (fun hb => ?_) (fun hb => ?_))
   · replace h := iteT hb h
     refine (wp_skip (then_normal ?_))
     refine wp_seq (wp_block ?_)
     refine wp_seq (wp_text' ?_)
     refine from_pure 2 [(0, Str.val p0), (4, .bool ((decide ((len p0.bytes) > 0)) && (x1 == 45))), (5, Str.val p0), (6, I s2.1), (7, I s2.2), (35, Str.val p0), (36, I s2.2)] hF (by kernel_rfl) fun fr hF => ?_
     obtain ⟨x8, hx8, h⟩ := bindE h
     refine s_index (s := p0) Tryd.underlying9 rfl rfl hF rfl rfl hx8 fun fr hF => ?_
     refine from_pure 3 [(0, Str.val p0), (4, .bool ((decide ((len p0.bytes) > 0)) && (x1 == 45))), (5, Str.val p0), (6, I s2.1), (7, I s2.2), (8, I (w64 ((w64 x8) - 48)))] hF (by kernel_rfl) fun fr hF => ?_
     refine from_end rfl (then_normal ?_)
     refine wp_seq ?_
     obtain ⟨x9, hx9, h⟩ := bindE h
     obtain ⟨x10, hx10, h⟩ := bindE h
     refine wp_seq (region_b [] [true, false, true, true, true, true, true, false, true, true]
         [.eq (I (w64 ((w64 x8) - 48))), .eq (.bool x9), .eq (.bool (!x9)), .eq (.bool (!x9)), .eq (I s2.1), .eq (I (w64 ((w64 x8) - 48))), .eq (I (w64 ((-9223372036854775808) + (w64 ((w64 x8) - 48))))), .eq (I x10), .eq (.bool (decide (s2.1 < x10))), .eq (.bool ((!x9) || (decide (s2.1 < x10))))]
         [(0, Str.val p0), (4, .bool ((decide ((len p0.bytes) > 0)) && (x1 == 45))), (5, Str.val p0), (6, I s2.1), (7, I s2.2), (8, I (w64 ((w64 x8) - 48))), (49, .bool ((!x9) || (decide (s2.1 < x10))))] mix hF (by kernel_rfl) (by kernel_rfl) (by kernel_rfl) ⟨Pd.mono_eq, Pd.mono_eq, trivial⟩ (fun hG => ⟨np_call [I (w64 ((w64 x8) - 48)), I 0, I 9] hG hF Tryd.call23 rfl rfl (fun w hC hg => (spec_l01In_ok (w64 ((w64 x8) - 48)) 0 9 hx9).mono fun e w' ⟨v, he, hv, hc⟩ => ⟨v, he, hc, hv⟩), np_quo hG hF rfl rfl rfl (fun hg => (iteF hg.2 hx10)) rfl, trivial⟩) (by kernel_rfl) fun fr w7 hF hE hc => then_normal ?_)
     have hs := hs.ext hc
     have hM1 := hM1.ext hc
     refine (wp_if hF (b := ((!x9) || (decide (s2.1 < x10)))) rfl (fun hb => ?_) (fun hb => ?_))
     · replace h := iteT hb h
       refine wp_seq (wp_pure [(2, I 0), (3, .bool false)] hF (by kernel_rfl) fun fr hF => then_normal ?_)
       have hrets := fun {σ : List (Nat × Value)} (h : σ = [(2, I 0), (3, .bool false)]) => (by subst h; exact (Rets.tmp rfl (Rets.tmp rfl Rets.nil)) : Rets Tryd.prog σ w7 [.tmp 2, .tmp 3] [I 0, .bool false])
       obtain rfl := hr2 _ (Option.some.inj h).symm
       obtain rfl := Option.some.inj hk2
       exact wp_ret (then_ret (blk_ret (then_ret (then_ret (blk_ret (then_ret (retG (rs := [.tmp 2, .tmp 3]) rfl (hF.sub [(2, I 0), (3, .bool false)] (by kernel_rfl)) (hrets rfl) rfl ⟨_, rfl, rfl, (hM0.trans hM1).chg⟩)))))))
     replace h := iteF hb h
     refine (wp_skip (then_normal ?_))
     refine (wp_pure [(0, Str.val p0), (4, .bool ((decide ((len p0.bytes) > 0)) && (x1 == 45))), (5, Str.val p0), (6, I (w64 ((w64 (s2.1 * 10)) - (w64 ((w64 x8) - 48))))), (7, I s2.2)] hF (by kernel_rfl) fun fr hF => ?_)
     refine blk_normal (then_normal ?_)
     refine (wp_pure [(0, Str.val p0), (4, .bool ((decide ((len p0.bytes) > 0)) && (x1 == 45))), (5, Str.val p0), (6, I (w64 ((w64 (s2.1 * 10)) - (w64 ((w64 x8) - 48))))), (7, I (w64 (s2.2 + 1)))] hF (by kernel_rfl) fun fr hF => then_normal ?_)
     exact ⟨_, (Option.some.inj h).symm, S3, _, hF.sub _ (by kernel_rfl), hM1, hs⟩
   replace h := iteF hb h
   refine (wp_exit (then_exit (then_exit (blk_exit_eq ?_))))
   obtain rfl := hr2 _ (Option.some.inj h).symm
   exact then_normal ⟨_, rfl, S3, _, hF.sub _ (by kernel_rfl), hM1, hs⟩
 · obtain ⟨s2r, rfl, hM⟩ := hM
   obtain ⟨S4, F4, hF, hMx, hs⟩ := hM
   have hM0 := hM0.trans hMx
   refine wp_seq ?_
   refine wp_seq (wp_pure [(0, Str.val p0), (6, I s2r), (55, .bool (!((decide ((len p0.bytes) > 0)) && (x1 == 45))))] hF (by kernel_rfl) fun fr hF => then_normal ?_)
   refine (wp_if hF (b := (!((decide ((len p0.bytes) > 0)) && (x1 == 45)))) rfl (fun hb => ?_) (fun hb => ?_))
   · replace h := iteT hb h
     refine wp_seq ?_
     refine wp_seq (wp_pure [(0, Str.val p0), (6, I s2r), (57, .bool (s2r == (-9223372036854775808)))] hF (by kernel_rfl) fun fr hF => then_normal ?_)
     refine (wp_if hF (b := (s2r == (-9223372036854775808))) rfl (fun hb => ?_) (fun hb => ?_))
     · replace h := iteT hb h
       refine wp_seq (wp_pure [(2, I 0), (3, .bool false)] hF (by kernel_rfl) fun fr hF => then_normal ?_)
       have hrets := fun {σ : List (Nat × Value)} (h : σ = [(2, I 0), (3, .bool false)]) => (by subst h; exact (Rets.tmp rfl (Rets.tmp rfl Rets.nil)) : Rets Tryd.prog σ w2o [.tmp 2, .tmp 3] [I 0, .bool false])
       obtain rfl := Option.some.inj h
       exact wp_ret (then_ret (then_ret (retG (rs := [.tmp 2, .tmp 3]) rfl (hF.sub [(2, I 0), (3, .bool false)] (by kernel_rfl)) (hrets rfl) rfl ⟨_, rfl, rfl, hM0.chg⟩)))
     replace h := iteF hb h
     refine (wp_skip (then_normal ?_))
     refine (wp_pure [(0, Str.val p0), (6, I (w64 (0 - s2r)))] hF (by kernel_rfl) fun fr hF => then_normal ?_)
     refine wp_seq ?_
     refine wp_seq (wp_text' ?_)
     refine from_pure 1 [(0, Str.val p0), (6, I (w64 (0 - s2r))), (60, I (w64 (0 - s2r)))] hF (by kernel_rfl) fun fr hF => ?_
     obtain ⟨x11, hx11, h⟩ := bindE h
     refine s_call [I (w64 (0 - s2r))] Tryd.call26 rfl rfl hF rfl (spec_FormatInt_ok n (w64 (0 - s2r)) hx11) fun v w8 fr hRes hF => ?_
     obtain ⟨rfl, hc⟩ := hRes
     have hs := hs.ext hc
     have hM0 := hM0.ext hc
     refine from_pure 2 [(6, I (w64 (0 - s2r))), (63, .bool (!(Str.eqb x11 p0)))] hF (by kernel_rfl) fun fr hF => ?_
     refine from_end rfl (then_normal ?_)
     refine (wp_if hF (b := (!(Str.eqb x11 p0))) rfl (fun hb => ?_) (fun hb => ?_))
     · replace h := iteT hb h
       refine wp_seq (wp_pure [(2, I 0), (3, .bool false)] hF (by kernel_rfl) fun fr hF => then_normal ?_)
       have hrets := fun {σ : List (Nat × Value)} (h : σ = [(2, I 0), (3, .bool false)]) => (by subst h; exact (Rets.tmp rfl (Rets.tmp rfl Rets.nil)) : Rets Tryd.prog σ w8 [.tmp 2, .tmp 3] [I 0, .bool false])
       obtain rfl := Option.some.inj h
       exact wp_ret (then_ret (retG (rs := [.tmp 2, .tmp 3]) rfl (hF.sub [(2, I 0), (3, .bool false)] (by kernel_rfl)) (hrets rfl) rfl ⟨_, rfl, rfl, hM0.chg⟩))
     replace h := iteF hb h
     refine (wp_skip (then_normal ?_))
     refine wp_seq (wp_pure [(2, I (w64 (0 - s2r))), (3, .bool true)] hF (by kernel_rfl) fun fr hF => then_normal ?_)
     have hrets := fun {σ : List (Nat × Value)} (h : σ = [(2, I (w64 (0 - s2r))), (3, .bool true)]) => (by subst h; exact (Rets.tmp rfl (Rets.tmp rfl Rets.nil)) : Rets Tryd.prog σ w8 [.tmp 2, .tmp 3] [I (w64 (0 - s2r)), .bool true])
     obtain rfl := Option.some.inj h
     exact wp_ret (retG (rs := [.tmp 2, .tmp 3]) rfl (hF.sub [(2, I (w64 (0 - s2r))), (3, .bool true)] (by kernel_rfl)) (hrets rfl) rfl ⟨_, rfl, rfl, hM0.chg⟩)
   replace h := iteF hb h
   refine (wp_skip (then_normal ?_))
   refine wp_seq ?_
   refine wp_seq (wp_text' ?_)
   refine from_pure 1 [(0, Str.val p0), (6, I s2r), (60, I s2r)] hF (by kernel_rfl) fun fr hF => ?_
   obtain ⟨x12, hx12, h⟩ := bindE h
   refine s_call [I s2r] Tryd.call26 rfl rfl hF rfl (spec_FormatInt_ok n s2r hx12) fun v w9 fr hRes hF => ?_
   obtain ⟨rfl, hc⟩ := hRes
   have hs := hs.ext hc
   have hM0 := hM0.ext hc
   refine from_pure 2 [(6, I s2r), (63, .bool (!(Str.eqb x12 p0)))] hF (by kernel_rfl) fun fr hF => ?_
   refine from_end rfl (then_normal ?_)
   refine (wp_if hF (b := (!(Str.eqb x12 p0))) rfl (fun hb => ?_) (fun hb => ?_))
   · replace h := iteT hb h
     refine wp_seq (wp_pure [(2, I 0), (3, .bool false)] hF (by kernel_rfl) fun fr hF => then_normal ?_)
     have hrets := fun {σ : List (Nat × Value)} (h : σ = [(2, I 0), (3, .bool false)]) => (by subst h; exact (Rets.tmp rfl (Rets.tmp rfl Rets.nil)) : Rets Tryd.prog σ w9 [.tmp 2, .tmp 3] [I 0, .bool false])
     obtain rfl := Option.some.inj h
     exact wp_ret (then_ret (retG (rs := [.tmp 2, .tmp 3]) rfl (hF.sub [(2, I 0), (3, .bool false)] (by kernel_rfl)) (hrets rfl) rfl ⟨_, rfl, rfl, hM0.chg⟩))
   replace h := iteF hb h
   refine (wp_skip (then_normal ?_))
   refine wp_seq (wp_pure [(2, I s2r), (3, .bool true)] hF (by kernel_rfl) fun fr hF => then_normal ?_)
   have hrets := fun {σ : List (Nat × Value)} (h : σ = [(2, I s2r), (3, .bool true)]) => (by subst h; exact (Rets.tmp rfl (Rets.tmp rfl Rets.nil)) : Rets Tryd.prog σ w9 [.tmp 2, .tmp 3] [I s2r, .bool true])
   obtain rfl := Option.some.inj h
   exact wp_ret (retG (rs := [.tmp 2, .tmp 3]) rfl (hF.sub [(2, I s2r), (3, .bool true)] (by kernel_rfl)) (hrets rfl) rfl ⟨_, rfl, rfl, hM0.chg⟩)

theorem spec_ParseInts_ok (n : Nat) (p0 : Str) {r : (List Int) × Bool} (h : spec_ParseInts n p0 = some r) {w : World} :
   Calls Tryd.prog 52 [Str.val p0].toArray w fun e w' => ∃ v, e = .returned v ∧ ∃ a1 c1, v = .tuple #[L a1 r.1 c1, .bool r.2] ∧ ∃ S', Stp w Non w' S' ∧ Sep [sl3 (L a1 r.1 c1) r.1] w' S' := by
 unfold spec_ParseInts at h
 have hs := Sep.nil w Non
 have hM0 : Mem w Non (fun k => (False) ∧ k < w.heap.size) w Non (fun k => (False) ∧ k < w.heap.size) := Mem.start (fun _ h => h.elim) (fun _ h => h.2) (fun _ h => h.elim)
 refine enter (N := 48) Tryd.func52 rfl Tryd.ntmps52 rfl fun fr hF => ?_
 refine wp_seq (wp_pure [(0, Str.val p0)] hF (by kernel_rfl) fun fr hF => then_normal ?_)
 refine wp_seq (wp_text' ?_)
 refine q_lit (E := 3) hs hM0 [] (([] : List Int).map Flat.enc) ([] : List Int) rfl rfl hF [] rfl (fun w => by kernel_rfl) (css_flat _) rfl rfl rfl fun a1 c1 w1 S1 fr hs hp hF => ?_
 have hM0 := hM0.stp hp
 have hs : Sep [sl3 (L a1 ([] : List Int) c1) ([] : List Int)] w1 S1 := hs
 refine from_pure 1 [(0, Str.val p0), (4, L a1 ([] : List Int) c1)] hF (by kernel_rfl) fun fr hF => ?_
 refine from_end rfl (then_normal ?_)
 refine wp_seq (wp_pure [(0, Str.val p0), (4, L a1 ([] : List Int) c1), (5, I 0)] hF (by kernel_rfl) fun fr hF => then_normal ?_)
 refine wp_seq ?_
 refine wp_seq (wp_pure [(0, Str.val p0), (4, L a1 ([] : List Int) c1), (5, I 0), (6, I 0)] hF (by kernel_rfl) fun fr hF => then_normal ?_)
 obtain ⟨rl1, hit1, h⟩ := bindE h
 have hk1 := h
 refine (GL.wp_cut (M := fun fr w' => ∃ s, rl1 = .inl s ∧ ∃ a3 c3 S3 F2, FrS 48 [(4, L a3 s c3)] fr ∧ Mem w1 S1 (fun k => (False) ∧ k < w.heap.size) w' S3 F2 ∧ Sep [sl3 (L a3 s c3) s] w' S3) (wp_block (wp_iter (Inv := fun s1 fr w' => ∃ a2 c2 S2 F1, FrS 48 [(0, Str.val p0), (4, L a2 s1.2.2 c2), (5, I s1.1), (6, I s1.2.1)] fr ∧ Mem w1 S1 (fun k => (False) ∧ k < w.heap.size) w' S2 F1 ∧ Sep [sl3 (L a2 s1.2.2 c2) s1.2.2] w' S2) hit1 ⟨a1, c1, S1, _, hF.sub _ (by kernel_rfl), (Mem.start hM0.bd hM0.bdF hM0.dj), hs⟩ fun s1 q1 fr w1i hI h hr1 => ?_)) fun fr w1o hM => ?_)
 · obtain ⟨a2, c2, S2, F1, hF, hM1, hs⟩ := hI
   refine wp_seq ?_
   refine wp_seq (region_b [] [true, true, true, true, true, true, true, true, true]
       [.eq (I s1.2.1), .eq (Str.val p0), .eq (I (len p0.bytes)), .eq (.bool (decide (s1.2.1 ≤ (len p0.bytes)))), .eq (.bool (decide (s1.2.1 ≤ (len p0.bytes)))), .eq (Str.val p0), .eq (I (len p0.bytes)), .eq (.bool (decide ((len p0.bytes) > 0))), .eq (.bool ((decide (s1.2.1 ≤ (len p0.bytes))) && (decide ((len p0.bytes) > 0))))]
       [(0, Str.val p0), (4, L a2 s1.2.2 c2), (5, I s1.1), (6, I s1.2.1), (18, .bool ((decide (s1.2.1 ≤ (len p0.bytes))) && (decide ((len p0.bytes) > 0))))] mix hF (by kernel_rfl) (by kernel_rfl) (by kernel_rfl) trivial (fun hG => trivial) (by kernel_rfl) fun fr w2 hF hE hc => then_normal ?_)
   have hs := hs.ext hc
   have hM1 := hM1.ext hc
   refine (wp_if hF (b := ((decide (s1.2.1 ≤ (len p0.bytes))) && (decide ((len p0.bytes) > 0)))) rfl (fun hb => ?_) (fun hb => ?_))
   · replace h := iteT hb h
     refine (wp_skip (then_normal ?_))
     refine wp_seq (wp_block ?_)
     obtain ⟨x1, hx1, h⟩ := bindE h
     refine wp_seq (region_b [] [true, true, true, true, true, true, true, false, true, true]
         [.eq (I s1.2.1), .eq (Str.val p0), .eq (I (len p0.bytes)), .eq (.bool (s1.2.1 == (len p0.bytes))), .eq (.bool (s1.2.1 == (len p0.bytes))), .eq (Str.val p0), .eq (I s1.2.1), .eq (.int .u8 x1), .eq (.bool (x1 == 32)), .eq (.bool ((s1.2.1 == (len p0.bytes)) || (x1 == 32)))]
         [(0, Str.val p0), (4, L a2 s1.2.2 c2), (5, I s1.1), (6, I s1.2.1), (30, .bool ((s1.2.1 == (len p0.bytes)) || (x1 == 32)))] mix hF (by kernel_rfl) (by kernel_rfl) (by kernel_rfl) ⟨Pd.mono_eq, trivial⟩ (fun hG => ⟨np_index_str (s := p0) hG hF Tryd.underlying9 rfl rfl rfl (fun hg => (iteF hg.2 hx1)) rfl, trivial⟩) (by kernel_rfl) fun fr w3 hF hE hc => then_normal ?_)
     have hs := hs.ext hc
     have hM1 := hM1.ext hc
     refine (wp_if hF (b := ((s1.2.1 == (len p0.bytes)) || (x1 == 32))) rfl (fun hb => ?_) (fun hb => ?_))
     · replace h := iteT hb h
       refine wp_seq (wp_text' ?_)
       refine from_pure 3 [(0, Str.val p0), (4, L a2 s1.2.2 c2), (6, I s1.2.1), (32, Str.val p0), (33, I s1.1), (34, I s1.2.1)] hF (by kernel_rfl) fun fr hF => ?_
       obtain ⟨x2, hx2, h⟩ := bindE h
       refine s_scut (s := p0) Tryd.underlying9 rfl rfl hF rfl ⟨_, rfl⟩ ⟨_, rfl⟩ hx2 fun fr hF => ?_
       obtain ⟨x3, hx3, h⟩ := bindE h
       refine s_call [Str.val x2] Tryd.call51 rfl rfl hF rfl (spec_ParseInt_ok n x2 hx3) fun v w4 fr hRes hF => ?_
       obtain ⟨rfl, hc⟩ := hRes
       have hs := hs.ext hc
       have hM1 := hM1.ext hc
       refine from_pure 5 [(0, Str.val p0), (4, L a2 s1.2.2 c2), (6, I s1.2.1), (7, I x3.1), (8, .bool x3.2)] hF (by kernel_rfl) fun fr hF => ?_
       refine from_end rfl (then_normal ?_)
       refine wp_seq ?_
       refine wp_seq (wp_pure [(0, Str.val p0), (4, L a2 s1.2.2 c2), (6, I s1.2.1), (7, I x3.1), (40, .bool (!x3.2))] hF (by kernel_rfl) fun fr hF => then_normal ?_)
       refine (wp_if hF (b := (!x3.2)) rfl (fun hb => ?_) (fun hb => ?_))
       · replace h := iteT hb h
         have hs : Sep [] w4 S2 := Sep.pick [] hs (by decide) rfl
         refine wp_seq (wp_pure [(2, L none ([] : List Int) 0), (3, .bool false)] hF (by kernel_rfl) fun fr hF => then_normal ?_)
         have hrets := fun {σ : List (Nat × Value)} (h : σ = [(2, L none ([] : List Int) 0), (3, .bool false)]) => (by subst h; exact (Rets.tmp rfl (Rets.tmp rfl Rets.nil)) : Rets Tryd.prog σ w4 [.tmp 2, .tmp 3] [L none ([] : List Int) 0, .bool false])
         have hs : Sep [sl3 (L none ([] : List Int) 0) ([] : List Int)] w4 S2 := hs.cons_nil (α := Int) 3
         obtain rfl := hr1 _ (Option.some.inj h).symm
         obtain rfl := Option.some.inj hk1
         exact wp_ret (then_ret (blk_ret (then_ret (then_ret (blk_ret (then_ret (retG (rs := [.tmp 2, .tmp 3]) rfl (hF.sub [(2, L none ([] : List Int) 0), (3, .bool false)] (by kernel_rfl)) (hrets rfl) rfl ⟨_, rfl, none, 0, rfl, S2, (hM0.trans hM1).out, hs⟩)))))))
       replace h := iteF hb h
       refine (wp_skip (then_normal ?_))
       refine wp_seq (wp_text' ?_)
       refine from_pure 2 [(0, Str.val p0), (6, I s1.2.1), (41, L a2 s1.2.2 c2), (42, I x3.1)] hF (by kernel_rfl) fun fr hF => ?_
       refine q_lit (E := 3) hs hM1 [I x3.1] (([x3.1] : List Int).map Flat.enc) ([x3.1] : List Int) rfl rfl hF [I x3.1] rfl (fun w => by kernel_rfl) (css_flat _) rfl rfl rfl fun a4 c4 w5 S4 fr hs hp hF => ?_
       have hM1 := hM1.stp hp
       have hs : Sep [sl3 (L a4 ([x3.1] : List Int) c4) ([x3.1] : List Int), sl3 (L a2 s1.2.2 c2) s1.2.2] w5 S4 := hs
       obtain ⟨x4, hx4, h⟩ := bindE h
       refine q_append 1 hs hM1 rfl Tryd.underlying61 el3 rfl rfl rfl hF rfl rfl (hs.rv 0 rfl) hx4 fun a5 c5 w6 S5 fr hs hp hF => ?_
       have hM1 := hM1.stp hp
       have hs : Sep [sl3 (L a4 ([x3.1] : List Int) c4) ([x3.1] : List Int), sl3 (L a5 x4 c5) x4] w6 S5 := hs
       have hs : Sep [sl3 (L a5 x4 c5) x4] w6 S5 := Sep.pick [1] hs (by decide) rfl
       refine from_pure 1 [(0, Str.val p0), (4, L a5 x4 c5), (6, I s1.2.1)] hF (by kernel_rfl) fun fr hF => ?_
       refine from_end rfl (then_normal ?_)
       refine (wp_pure [(0, Str.val p0), (4, L a5 x4 c5), (5, I (w64 (s1.2.1 + 1))), (6, I s1.2.1)] hF (by kernel_rfl) fun fr hF => ?_)
       refine blk_normal (then_normal ?_)
       refine (wp_pure [(0, Str.val p0), (4, L a5 x4 c5), (5, I (w64 (s1.2.1 + 1))), (6, I (w64 (s1.2.1 + 1)))] hF (by kernel_rfl) fun fr hF => then_normal ?_)
       exact ⟨_, (Option.some.inj h).symm, a5, c5, S5, _, hF.sub _ (by kernel_rfl), hM1, hs⟩
     replace h := iteF hb h
     refine (wp_skip ?_)
     refine blk_normal (then_normal ?_)
     refine (wp_pure [(0, Str.val p0), (4, L a2 s1.2.2 c2), (5, I s1.1), (6, I (w64 (s1.2.1 + 1)))] hF (by kernel_rfl) fun fr hF => then_normal ?_)
     exact ⟨_, (Option.some.inj h).symm, a2, c2, S2, _, hF.sub _ (by kernel_rfl), hM1, hs⟩
   replace h := iteF hb h
   refine (wp_exit (then_exit (then_exit (blk_exit_eq ?_))))
   obtain rfl := hr1 _ (Option.some.inj h).symm
   exact then_normal ⟨_, rfl, a2, c2, S2, _, hF.sub _ (by kernel_rfl), hM1, hs⟩
 · obtain ⟨s1r, rfl, hM⟩ := hM
   obtain ⟨a3, c3, S3, F2, hF, hMx, hs⟩ := hM
   have hM0 := hM0.trans hMx
   refine wp_seq (wp_pure [(2, L a3 s1r c3), (3, .bool true)] hF (by kernel_rfl) fun fr hF => then_normal ?_)
   have hrets := fun {σ : List (Nat × Value)} (h : σ = [(2, L a3 s1r c3), (3, .bool true)]) => (by subst h; exact (Rets.tmp rfl (Rets.tmp rfl Rets.nil)) : Rets Tryd.prog σ w1o [.tmp 2, .tmp 3] [L a3 s1r c3, .bool true])
   obtain rfl := Option.some.inj h
   exact wp_ret (retG (rs := [.tmp 2, .tmp 3]) rfl (hF.sub [(2, L a3 s1r c3), (3, .bool true)] (by kernel_rfl)) (hrets rfl) rfl ⟨_, rfl, a3, c3, rfl, S3, hM0.out, hs⟩)

theorem spec_l03Abs_ok (p0 : Int) {r : Int} (h : spec_l03Abs p0 = some r) {w : World} :
   Calls Tryd.prog 86 [I p0].toArray w fun e w' => ∃ v, e = .returned v ∧ v = I r ∧ Chg Non w w' := by
 unfold spec_l03Abs at h
 have hs := Sep.nil w Non
 have hM0 : Mem w Non (fun k => (False) ∧ k < w.heap.size) w Non (fun k => (False) ∧ k < w.heap.size) := Mem.start (fun _ h => h.elim) (fun _ h => h.2) (fun _ h => h.elim)
 refine enter (N := 8) Tryd.func86 rfl Tryd.ntmps86 rfl fun fr hF => ?_
 refine wp_seq (wp_pure [(0, I p0)] hF (by kernel_rfl) fun fr hF => then_normal ?_)
 refine wp_seq ?_
 refine wp_seq (wp_pure [(0, I p0), (4, .bool (decide (p0 < 0)))] hF (by kernel_rfl) fun fr hF => then_normal ?_)
 refine (wp_if hF (b := (decide (p0 < 0))) rfl (fun hb => ?_) (fun hb => ?_))
 · replace h := iteT hb h
   refine wp_seq (wp_pure [(2, I (w64 (0 - p0)))] hF (by kernel_rfl) fun fr hF => then_normal ?_)
   obtain rfl := Option.some.inj h
   exact wp_ret (then_ret (ret1 rfl hF rfl ⟨_, rfl, rfl, hM0.chg⟩))
 replace h := iteF hb h
 refine (wp_skip (then_normal ?_))
 refine wp_seq (wp_pure [(2, I p0)] hF (by kernel_rfl) fun fr hF => then_normal ?_)
 obtain rfl := Option.some.inj h
 exact wp_ret (ret1 rfl hF rfl ⟨_, rfl, rfl, hM0.chg⟩)

theorem spec_l03Clause_ok (n : Nat) (p0 : List Int) (p1 : Int) {r : Bool} (h : spec_l03Clause n p0 p1 = some r) {w : World} {G0 : Nat → Prop} {va0 : Value} (ra0 : RV w G0 va0 p0) :
   Calls Tryd.prog 73 [va0, I p1].toArray w fun e w' => ∃ v, e = .returned v ∧ v = .bool r ∧ Chg Non w w' := by
 unfold spec_l03Clause at h
 have hs := Sep.nil w Non
 have hM0 : Mem w Non (fun k => (G0 k) ∧ k < w.heap.size) w Non (fun k => (G0 k) ∧ k < w.heap.size) := Mem.start (fun _ h => h.elim) (fun _ h => h.2) (fun _ h => h.elim)
 have ra0 := ra0.sub (F' := (fun k => (G0 k) ∧ k < w.heap.size)) (fun k hk h => ⟨h, hk⟩)
 obtain ⟨a1, c1, rfl, -⟩ := ra0.slice
 refine enter (N := 29) Tryd.func73 rfl Tryd.ntmps73 rfl fun fr hF => ?_
 refine wp_seq (wp_pure [(0, L a1 p0 c1), (1, I p1)] hF (by kernel_rfl) fun fr hF => then_normal ?_)
 refine wp_seq (wp_pure [(0, L a1 p0 c1), (1, I p1), (5, I 0)] hF (by kernel_rfl) fun fr hF => then_normal ?_)
 refine wp_seq ?_
 refine wp_seq (wp_pure [(1, I p1), (5, I 0), (8, L a1 p0 c1), (9, I (len p0)), (10, I 0)] hF (by kernel_rfl) fun fr hF => then_normal ?_)
 obtain ⟨rl1, hit1, h⟩ := bindE h
 have hk1 := h
 refine (GL.wp_cut (M := fun fr w' => ∃ s, rl1 = .inl s ∧ ∃ S2 F2, FrS 29 [] fr ∧ Mem w Non (fun k => (G0 k) ∧ k < w.heap.size) w' S2 F2 ∧ Sep [] w' S2) (wp_block (wp_iter (Inv := fun s1 fr w' => ∃ S1 F1, FrS 29 [(1, I p1), (5, I s1.1), (8, L a1 p0 c1), (9, I (len p0)), (10, I s1.2)] fr ∧ Mem w Non (fun k => (G0 k) ∧ k < w.heap.size) w' S1 F1 ∧ Sep [] w' S1) hit1 ⟨Non, _, hF.sub _ (by kernel_rfl), (Mem.start hM0.bd hM0.bdF hM0.dj), hs⟩ fun s1 q1 fr w1i hI h hr1 => ?_)) fun fr w1o hM => ?_)
 · obtain ⟨S1, F1, hF, hM1, hs⟩ := hI
   have ra0 := ra0.mem hM1
   refine wp_seq (wp_pure [(1, I p1), (5, I s1.1), (8, L a1 p0 c1), (9, I (len p0)), (10, I s1.2), (11, .bool (decide (s1.2 < (len p0))))] hF (by kernel_rfl) fun fr hF => then_normal ?_)
   refine wp_seq (wp_if hF (b := (decide (s1.2 < (len p0)))) rfl (fun hb => ?_) (fun hb => ?_))
   · replace h := iteT hb h
     refine (wp_skip (then_normal ?_))
     refine wp_seq (wp_block ?_)
     refine wp_seq (wp_text' ?_)
     obtain ⟨x1, hx1, h⟩ := bindE h
     refine s_elemF (z := x1) (I x1) ty3 Tryd.underlying61 rfl rfl rfl rfl rfl hF rfl (ra0) rfl (get?_nn hx1) (get?_at hx1) rfl fun p fr hF => ?_
     refine from_pure 1 [(1, I p1), (5, I s1.1), (7, I x1), (8, L a1 p0 c1), (9, I (len p0)), (10, I s1.2)] hF (by kernel_rfl) fun fr hF => ?_
     refine from_end rfl (then_normal ?_)
     refine wp_seq ?_
     obtain ⟨x2, hx2, h⟩ := bindE h
     obtain ⟨x3, hx3, h⟩ := bindE h
     refine wp_seq (region_b [] [true, true, true, true, false, true, true, true, false, true, true, true]
         [.eq (I x1), .eq (I p1), .eq (I (w64 (0 - p1))), .eq (I p1), .eq (.bool x2), .eq (.bool (!x2)), .eq (.bool (!x2)), .eq (I x1), .eq (I x3), .eq (I s1.1), .eq (.bool (decide (x3 ≤ s1.1))), .eq (.bool ((!x2) || (decide (x3 ≤ s1.1))))]
         [(1, I p1), (7, I x1), (8, L a1 p0 c1), (9, I (len p0)), (10, I s1.2), (25, .bool ((!x2) || (decide (x3 ≤ s1.1))))] mix hF (by kernel_rfl) (by kernel_rfl) (by kernel_rfl) ⟨Pd.mono_eq, Pd.mono_eq, trivial⟩ (fun hG => ⟨np_call [I x1, I (w64 (0 - p1)), I p1] hG hF Tryd.call23 rfl rfl (fun w hC hg => (spec_l01In_ok x1 (w64 (0 - p1)) p1 hx2).mono fun e w' ⟨v, he, hv, hc⟩ => ⟨v, he, hc, hv⟩), np_call [I x1] hG hF Tryd.call86 rfl rfl (fun w hC hg => (spec_l03Abs_ok x1 (iteF hg.2 hx3)).mono fun e w' ⟨v, he, hv, hc⟩ => ⟨v, he, hc, hv⟩), trivial⟩) (by kernel_rfl) fun fr w1 hF hE hc => then_normal ?_)
     have ra0 := ra0.ext hc
     have hs := hs.ext hc
     have hM1 := hM1.ext hc
     refine (wp_if hF (b := ((!x2) || (decide (x3 ≤ s1.1)))) rfl (fun hb => ?_) (fun hb => ?_))
     · replace h := iteT hb h
       refine wp_seq (wp_pure [(4, .bool false)] hF (by kernel_rfl) fun fr hF => then_normal ?_)
       obtain rfl := hr1 _ (Option.some.inj h).symm
       obtain rfl := Option.some.inj hk1
       exact wp_ret (then_ret (blk_ret (then_ret (then_ret (blk_ret (then_ret (ret1 rfl hF rfl ⟨_, rfl, rfl, (hM0.trans hM1).chg⟩)))))))
     replace h := iteF hb h
     refine (wp_skip (then_normal ?_))
     refine (wp_text' ?_)
     refine from_pure 1 [(1, I p1), (8, L a1 p0 c1), (9, I (len p0)), (10, I s1.2), (26, I x1)] hF (by kernel_rfl) fun fr hF => ?_
     obtain ⟨x4, hx4, h⟩ := bindE h
     refine s_call [I x1] Tryd.call86 rfl rfl hF rfl (spec_l03Abs_ok x1 hx4) fun v w2 fr hRes hF => ?_
     obtain ⟨rfl, hc⟩ := hRes
     have ra0 := ra0.ext hc
     have hs := hs.ext hc
     have hM1 := hM1.ext hc
     refine from_pure 1 [(1, I p1), (5, I x4), (8, L a1 p0 c1), (9, I (len p0)), (10, I s1.2)] hF (by kernel_rfl) fun fr hF => ?_
     refine from_end rfl ?_
     refine blk_normal (then_normal ?_)
     refine (wp_pure [(1, I p1), (5, I x4), (8, L a1 p0 c1), (9, I (len p0)), (10, I (w64 (s1.2 + 1)))] hF (by kernel_rfl) fun fr hF => then_normal ?_)
     exact ⟨_, (Option.some.inj h).symm, S1, _, hF.sub _ (by kernel_rfl), hM1, hs⟩
   replace h := iteF hb h
   refine (wp_exit (then_exit (then_exit (blk_exit_eq ?_))))
   obtain rfl := hr1 _ (Option.some.inj h).symm
   exact then_normal ⟨_, rfl, S1, _, hF.sub _ (by kernel_rfl), hM1, hs⟩
 · obtain ⟨s1r, rfl, hM⟩ := hM
   obtain ⟨S2, F2, hF, hMx, hs⟩ := hM
   have hM0 := hM0.trans hMx
   refine wp_seq (wp_pure [(4, .bool true)] hF (by kernel_rfl) fun fr hF => then_normal ?_)
   obtain rfl := Option.some.inj h
   exact wp_ret (ret1 rfl hF rfl ⟨_, rfl, rfl, hM0.chg⟩)

theorem spec_FormulaOk_ok (n : Nat) (p0 : D.Formula) {r : Bool} (h : spec_FormulaOk n p0 = some r) {w : World} {G0 : Nat → Prop} {va0 : Value} (ra0 : RV w G0 va0 p0) :
   Calls Tryd.prog 53 [va0].toArray w fun e w' => ∃ v, e = .returned v ∧ v = .bool r ∧ Chg Non w w' := by
 unfold spec_FormulaOk at h
 have hs := Sep.nil w Non
 have hM0 : Mem w Non (fun k => (G0 k) ∧ k < w.heap.size) w Non (fun k => (G0 k) ∧ k < w.heap.size) := Mem.start (fun _ h => h.elim) (fun _ h => h.2) (fun _ h => h.elim)
 have ra0 := ra0.sub (F' := (fun k => (G0 k) ∧ k < w.heap.size)) (fun k hk h => ⟨h, hk⟩)
 obtain ⟨v1, rfl, r1⟩ := RV.Formula ra0
 obtain ⟨a1, c1, rfl, -⟩ := r1.slice
 refine enter (N := 28) Tryd.func53 rfl Tryd.ntmps53 rfl fun fr hF => ?_
 refine wp_seq (wp_text' ?_)
 refine q_box hs hM0 [I p0.Vars, L a1 p0.Clauses c1] rfl rfl hF rfl rfl fun b1 w1 S1 fr hs hp hF => ?_
 have r1 := r1.stp hM0 hp
 have hM0 := hM0.stp hp
 have hs : Sep [BX b1 45 [I p0.Vars, L a1 p0.Clauses c1]] w1 S1 := hs
 refine from_pure 1 [(1, B b1 0)] hF (by kernel_rfl) fun fr hF => ?_
 refine from_end rfl (then_normal ?_)
 refine wp_seq ?_
 obtain ⟨x1, hx1, h⟩ := bindE h
 refine wp_seq (region_b [] [true, false, false, true, true, true, false, true, true, true]
     [.eq (B b1 0), .eq (I p0.Vars), .eq (.bool x1), .eq (.bool (!x1)), .eq (.bool (!x1)), .eq (B b1 1), .eq (L a1 p0.Clauses c1), .eq (I (len p0.Clauses)), .eq (.bool (decide ((len p0.Clauses) > 1600))), .eq (.bool ((!x1) || (decide ((len p0.Clauses) > 1600))))]
     [(1, B b1 0), (14, .bool ((!x1) || (decide ((len p0.Clauses) > 1600))))] mix hF (by kernel_rfl) (by kernel_rfl) (by kernel_rfl) ⟨Pd.mono_eq, Pd.mono_eq, Pd.mono_eq, trivial⟩ (fun hG => ⟨np_loadBox hG hF ty3 rfl rfl (hs.bx 0 rfl) rfl rfl rfl, np_call [I p0.Vars, I 0, I 400] hG hF Tryd.call23 rfl rfl (fun w hC hg => (spec_l01In_ok p0.Vars 0 400 hx1).mono fun e w' ⟨v, he, hv, hc⟩ => ⟨v, he, hc, hv⟩), np_loadBox hG hF ty43 rfl rfl (hs.bx 0 rfl) rfl rfl rfl, trivial⟩) (by kernel_rfl) fun fr w2 hF hE hc => then_normal ?_)
 have r1 := r1.ext hc
 have hs := hs.ext hc
 have hM0 := hM0.ext hc
 refine (wp_if hF (b := ((!x1) || (decide ((len p0.Clauses) > 1600)))) rfl (fun hb => ?_) (fun hb => ?_))
 · replace h := iteT hb h
   have hs : Sep [] w2 S1 := Sep.pick [] hs (by decide) rfl
   refine wp_seq (wp_pure [(2, .bool false)] hF (by kernel_rfl) fun fr hF => then_normal ?_)
   obtain rfl := Option.some.inj h
   exact wp_ret (then_ret (ret1 rfl hF rfl ⟨_, rfl, rfl, hM0.chg⟩))
 replace h := iteF hb h
 refine (wp_skip (then_normal ?_))
 refine wp_seq ?_
 refine wp_seq (wp_text' ?_)
 refine from_pure 1 [(1, B b1 0), (15, B b1 1)] hF (by kernel_rfl) fun fr hF => ?_
 refine s_loadBox (L a1 p0.Clauses c1) ty43 rfl rfl hF rfl (hs.bx 0 rfl) rfl rfl fun fr hF => ?_
 refine from_pure 2 [(1, B b1 0), (16, L a1 p0.Clauses c1), (17, I (len p0.Clauses)), (18, I 0)] hF (by kernel_rfl) fun fr hF => ?_
 refine from_end rfl (then_normal ?_)
 obtain ⟨rl1, hit1, h⟩ := bindE h
 have hk1 := h
 refine (GL.wp_cut (M := fun fr w' => ∃ s, rl1 = .inl s ∧ ∃ S3 F2, FrS 28 [] fr ∧ Mem w2 S1 (fun k => (G0 k) ∧ k < w.heap.size) w' S3 F2 ∧ Sep [] w' S3) (wp_block (wp_iter (Inv := fun s1 fr w' => ∃ S2 F1, FrS 28 [(1, B b1 0), (16, L a1 p0.Clauses c1), (17, I (len p0.Clauses)), (18, I s1)] fr ∧ Mem w2 S1 (fun k => (G0 k) ∧ k < w.heap.size) w' S2 F1 ∧ Sep [BX b1 45 [I p0.Vars, L a1 p0.Clauses c1]] w' S2) hit1 ⟨S1, _, hF.sub _ (by kernel_rfl), (Mem.start hM0.bd hM0.bdF hM0.dj), hs⟩ fun s1 q1 fr w1i hI h hr1 => ?_)) fun fr w1o hM => ?_)
 · obtain ⟨S2, F1, hF, hM1, hs⟩ := hI
   have r1 := r1.mem hM1
   refine wp_seq (wp_pure [(1, B b1 0), (16, L a1 p0.Clauses c1), (17, I (len p0.Clauses)), (18, I s1), (19, .bool (decide (s1 < (len p0.Clauses))))] hF (by kernel_rfl) fun fr hF => then_normal ?_)
   refine wp_seq (wp_if hF (b := (decide (s1 < (len p0.Clauses)))) rfl (fun hb => ?_) (fun hb => ?_))
   · replace h := iteT hb h
     refine (wp_skip (then_normal ?_))
     refine wp_seq (wp_block ?_)
     refine wp_seq (wp_text' ?_)
     obtain ⟨x2, hx2, h⟩ := bindE h
     refine s_elem (z := x2) ty61 Tryd.underlying43 rfl rfl rfl rfl rfl hF rfl (r1) rfl (get?_nn hx2) (get?_at hx2) fun p v2 fr r2 hF => ?_
     obtain ⟨a2, c2, rfl, -⟩ := r2.slice
     refine from_pure 1 [(1, B b1 0), (4, L a2 x2 c2), (16, L a1 p0.Clauses c1), (17, I (len p0.Clauses)), (18, I s1)] hF (by kernel_rfl) fun fr hF => ?_
     refine from_end rfl (then_normal ?_)
     refine wp_seq (wp_text' ?_)
     refine from_pure 2 [(1, B b1 0), (16, L a1 p0.Clauses c1), (17, I (len p0.Clauses)), (18, I s1), (22, L a2 x2 c2), (23, B b1 0)] hF (by kernel_rfl) fun fr hF => ?_
     refine s_loadBox (I p0.Vars) ty3 rfl rfl hF rfl (hs.bx 0 rfl) rfl rfl fun fr hF => ?_
     obtain ⟨x3, hx3, h⟩ := bindE h
     refine s_call [L a2 x2 c2, I p0.Vars] Tryd.call73 rfl rfl hF rfl (spec_l03Clause_ok n x2 p0.Vars hx3 (r2)) fun v w3 fr hRes hF => ?_
     obtain ⟨rfl, hc⟩ := hRes
     have r1 := r1.ext hc
     have r2 := r2.ext hc
     have hs := hs.ext hc
     have hM1 := hM1.ext hc
     refine from_pure 1 [(1, B b1 0), (16, L a1 p0.Clauses c1), (17, I (len p0.Clauses)), (18, I s1), (26, .bool (!x3))] hF (by kernel_rfl) fun fr hF => ?_
     refine from_end rfl (then_normal ?_)
     refine (wp_if hF (b := (!x3)) rfl (fun hb => ?_) (fun hb => ?_))
     · replace h := iteT hb h
       have hs : Sep [] w3 S2 := Sep.pick [] hs (by decide) rfl
       refine wp_seq (wp_pure [(2, .bool false)] hF (by kernel_rfl) fun fr hF => then_normal ?_)
       obtain rfl := hr1 _ (Option.some.inj h).symm
       obtain rfl := Option.some.inj hk1
       exact wp_ret (blk_ret (then_ret (then_ret (blk_ret (then_ret (ret1 rfl hF rfl ⟨_, rfl, rfl, (hM0.trans hM1).chg⟩))))))
     replace h := iteF hb h
     refine (wp_skip ?_)
     refine blk_normal (then_normal ?_)
     refine (wp_pure [(1, B b1 0), (16, L a1 p0.Clauses c1), (17, I (len p0.Clauses)), (18, I (w64 (s1 + 1)))] hF (by kernel_rfl) fun fr hF => then_normal ?_)
     exact ⟨_, (Option.some.inj h).symm, S2, _, hF.sub _ (by kernel_rfl), hM1, hs⟩
   replace h := iteF hb h
   have hs : Sep [] w1i S2 := Sep.pick [] hs (by decide) rfl
   refine (wp_exit (then_exit (then_exit (blk_exit_eq ?_))))
   obtain rfl := hr1 _ (Option.some.inj h).symm
   exact then_normal ⟨_, rfl, S2, _, hF.sub _ (by kernel_rfl), hM1, hs⟩
 · obtain ⟨s1r, rfl, hM⟩ := hM
   obtain ⟨S3, F2, hF, hMx, hs⟩ := hM
   have hM0 := hM0.trans hMx
   refine wp_seq (wp_pure [(2, .bool true)] hF (by kernel_rfl) fun fr hF => then_normal ?_)
   obtain rfl := Option.some.inj h
   exact wp_ret (ret1 rfl hF rfl ⟨_, rfl, rfl, hM0.chg⟩)

theorem spec_Join_ok (n : Nat) (p0 : List Str) (p1 : Str) {r : Str} (h : spec_Join n p0 p1 = some r) {w : World} {G0 : Nat → Prop} {va0 : Value} (ra0 : RV w G0 va0 p0) :
   Calls Tryd.prog 28 [va0, Str.val p1].toArray w fun e w' => ∃ v, e = .returned v ∧ v = Str.val r ∧ Chg Non w w' := by
 unfold spec_Join at h
 have hs := Sep.nil w Non
 have hM0 : Mem w Non (fun k => (G0 k) ∧ k < w.heap.size) w Non (fun k => (G0 k) ∧ k < w.heap.size) := Mem.start (fun _ h => h.elim) (fun _ h => h.2) (fun _ h => h.elim)
 have ra0 := ra0.sub (F' := (fun k => (G0 k) ∧ k < w.heap.size)) (fun k hk h => ⟨h, hk⟩)
 obtain ⟨a1, c1, rfl, -⟩ := ra0.slice
 refine enter (N := 25) Tryd.func28 rfl Tryd.ntmps28 rfl fun fr hF => ?_
 refine wp_seq (wp_pure [(0, L a1 p0 c1), (1, Str.val p1)] hF (by kernel_rfl) fun fr hF => then_normal ?_)
 refine wp_seq (wp_pure [(0, L a1 p0 c1), (1, Str.val p1), (5, Str.val (⟨[]⟩))] hF (by kernel_rfl) fun fr hF => then_normal ?_)
 refine wp_seq ?_
 refine wp_seq (wp_pure [(1, Str.val p1), (5, Str.val (⟨[]⟩)), (8, L a1 p0 c1), (9, I (len p0)), (10, I 0)] hF (by kernel_rfl) fun fr hF => then_normal ?_)
 obtain ⟨rl1, hit1, h⟩ := bindE h
 have hk1 := h
 refine (GL.wp_cut (M := fun fr w' => ∃ S2 F2, FrS 25 [(5, Str.val rl1)] fr ∧ Mem w Non (fun k => (G0 k) ∧ k < w.heap.size) w' S2 F2 ∧ Sep [] w' S2) (wp_block (wp_iter (Inv := fun s1 fr w' => ∃ S1 F1, FrS 25 [(1, Str.val p1), (5, Str.val s1.1), (8, L a1 p0 c1), (9, I (len p0)), (10, I s1.2)] fr ∧ Mem w Non (fun k => (G0 k) ∧ k < w.heap.size) w' S1 F1 ∧ Sep [] w' S1) hit1 ⟨Non, _, hF.sub _ (by kernel_rfl), (Mem.start hM0.bd hM0.bdF hM0.dj), hs⟩ fun s1 q1 fr w1i hI h hr1 => ?_)) fun fr w1o hM => ?_)
 · obtain ⟨S1, F1, hF, hM1, hs⟩ := hI
   have ra0 := ra0.mem hM1
   refine wp_seq (wp_pure [(1, Str.val p1), (5, Str.val s1.1), (8, L a1 p0 c1), (9, I (len p0)), (10, I s1.2), (11, .bool (decide (s1.2 < (len p0))))] hF (by kernel_rfl) fun fr hF => then_normal ?_)
   refine wp_seq (wp_if hF (b := (decide (s1.2 < (len p0)))) rfl (fun hb => ?_) (fun hb => ?_))
   · replace h := iteT hb h
     refine (wp_skip (then_normal ?_))
     refine wp_seq (wp_block ?_)
     refine wp_seq (wp_text' ?_)
     refine from_pure 1 [(1, Str.val p1), (5, Str.val s1.1), (8, L a1 p0 c1), (9, I (len p0)), (10, I s1.2), (12, I s1.2)] hF (by kernel_rfl) fun fr hF => ?_
     obtain ⟨x1, hx1, h⟩ := bindE h
     refine s_elemF (z := x1) (Str.val x1) ty9 Tryd.underlying55 rfl rfl rfl rfl rfl hF rfl (ra0) rfl (get?_nn hx1) (get?_at hx1) rfl fun p fr hF => ?_
     refine from_pure 2 [(1, Str.val p1), (5, Str.val s1.1), (6, I s1.2), (7, Str.val x1), (8, L a1 p0 c1), (9, I (len p0)), (10, I s1.2)] hF (by kernel_rfl) fun fr hF => ?_
     refine from_end rfl (then_normal ?_)
     refine wp_seq ?_
     refine wp_seq (wp_pure [(1, Str.val p1), (5, Str.val s1.1), (7, Str.val x1), (8, L a1 p0 c1), (9, I (len p0)), (10, I s1.2), (16, .bool (decide (s1.2 > 0)))] hF (by kernel_rfl) fun fr hF => then_normal ?_)
     refine (wp_if hF (b := (decide (s1.2 > 0))) rfl (fun hb => ?_) (fun hb => ?_))
     · replace h := iteT hb h
       refine (wp_text' ?_)
       refine from_pure 2 [(1, Str.val p1), (7, Str.val x1), (8, L a1 p0 c1), (9, I (len p0)), (10, I s1.2), (17, Str.val s1.1), (18, Str.val p1)] hF (by kernel_rfl) fun fr hF => ?_
       obtain ⟨x2, hx2, h⟩ := bindE h
       refine s_cat (s1 := s1.1) (s2 := p1) rfl rfl hF rfl rfl hx2 fun fr hF => ?_
       refine from_pure 1 [(1, Str.val p1), (5, Str.val x2), (7, Str.val x1), (8, L a1 p0 c1), (9, I (len p0)), (10, I s1.2)] hF (by kernel_rfl) fun fr hF => ?_
       refine from_end rfl (then_normal ?_)
       refine (wp_text' ?_)
       refine from_pure 2 [(1, Str.val p1), (8, L a1 p0 c1), (9, I (len p0)), (10, I s1.2), (20, Str.val x2), (21, Str.val x1)] hF (by kernel_rfl) fun fr hF => ?_
       obtain ⟨x3, hx3, h⟩ := bindE h
       refine s_cat (s1 := x2) (s2 := x1) rfl rfl hF rfl rfl hx3 fun fr hF => ?_
       refine from_pure 1 [(1, Str.val p1), (5, Str.val x3), (8, L a1 p0 c1), (9, I (len p0)), (10, I s1.2)] hF (by kernel_rfl) fun fr hF => ?_
       refine from_end rfl ?_
       refine blk_normal (then_normal ?_)
       refine (wp_pure [(1, Str.val p1), (5, Str.val x3), (8, L a1 p0 c1), (9, I (len p0)), (10, I (w64 (s1.2 + 1)))] hF (by kernel_rfl) fun fr hF => then_normal ?_)
       exact ⟨_, (Option.some.inj h).symm, S1, _, hF.sub _ (by kernel_rfl), hM1, hs⟩
     replace h := iteF hb h
     refine (wp_skip (then_normal ?_))
     refine (wp_text' ?_)
     refine from_pure 2 [(1, Str.val p1), (8, L a1 p0 c1), (9, I (len p0)), (10, I s1.2), (20, Str.val s1.1), (21, Str.val x1)] hF (by kernel_rfl) fun fr hF => ?_
     obtain ⟨x4, hx4, h⟩ := bindE h
     refine s_cat (s1 := s1.1) (s2 := x1) rfl rfl hF rfl rfl hx4 fun fr hF => ?_
     refine from_pure 1 [(1, Str.val p1), (5, Str.val x4), (8, L a1 p0 c1), (9, I (len p0)), (10, I s1.2)] hF (by kernel_rfl) fun fr hF => ?_
     refine from_end rfl ?_
     refine blk_normal (then_normal ?_)
     refine (wp_pure [(1, Str.val p1), (5, Str.val x4), (8, L a1 p0 c1), (9, I (len p0)), (10, I (w64 (s1.2 + 1)))] hF (by kernel_rfl) fun fr hF => then_normal ?_)
     exact ⟨_, (Option.some.inj h).symm, S1, _, hF.sub _ (by kernel_rfl), hM1, hs⟩
   replace h := iteF hb h
   refine (wp_exit (then_exit (then_exit (blk_exit_eq ?_))))
   obtain rfl := hr1 _ (Option.some.inj h).symm
   exact then_normal ⟨S1, _, hF.sub _ (by kernel_rfl), hM1, hs⟩
 · obtain ⟨S2, F2, hF, hMx, hs⟩ := hM
   have hM0 := hM0.trans hMx
   refine wp_seq (wp_pure [(4, Str.val rl1)] hF (by kernel_rfl) fun fr hF => then_normal ?_)
   obtain rfl := Option.some.inj h
   exact wp_ret (ret1 rfl hF rfl ⟨_, rfl, rfl, hM0.chg⟩)

theorem spec_FormatInts_ok (n : Nat) (p0 : List Int) {r : Str} (h : spec_FormatInts n p0 = some r) {w : World} {G0 : Nat → Prop} {va0 : Value} (ra0 : RV w G0 va0 p0) :
   Calls Tryd.prog 37 [va0].toArray w fun e w' => ∃ v, e = .returned v ∧ v = Str.val r ∧ Chg Non w w' := by
 unfold spec_FormatInts at h
 have hs := Sep.nil w Non
 have hM0 : Mem w Non (fun k => (G0 k) ∧ k < w.heap.size) w Non (fun k => (G0 k) ∧ k < w.heap.size) := Mem.start (fun _ h => h.elim) (fun _ h => h.2) (fun _ h => h.elim)
 have ra0 := ra0.sub (F' := (fun k => (G0 k) ∧ k < w.heap.size)) (fun k hk h => ⟨h, hk⟩)
 obtain ⟨a1, c1, rfl, -⟩ := ra0.slice
 refine enter (N := 21) Tryd.func37 rfl Tryd.ntmps37 rfl fun fr hF => ?_
 refine wp_seq (wp_pure [(0, L a1 p0 c1)] hF (by kernel_rfl) fun fr hF => then_normal ?_)
 refine wp_seq (wp_text' ?_)
 refine q_lit (E := 9) hs hM0 [] (([] : List Str).map Flat.enc) ([] : List Str) rfl rfl hF [] rfl (fun w => by kernel_rfl) (css_flat _) rfl rfl rfl fun a2 c2 w1 S1 fr hs hp hF => ?_
 have ra0 := ra0.stp hM0 hp
 have hM0 := hM0.stp hp
 have hs : Sep [sl9 (L a2 ([] : List Str) c2) ([] : List Str)] w1 S1 := hs
 refine from_pure 1 [(0, L a1 p0 c1), (3, L a2 ([] : List Str) c2)] hF (by kernel_rfl) fun fr hF => ?_
 refine from_end rfl (then_normal ?_)
 refine wp_seq ?_
 refine wp_seq (wp_pure [(3, L a2 ([] : List Str) c2), (7, L a1 p0 c1), (8, I (len p0)), (9, I 0)] hF (by kernel_rfl) fun fr hF => then_normal ?_)
 obtain ⟨rl1, hit1, h⟩ := bindE h
 have hk1 := h
 refine (GL.wp_cut (M := fun fr w' => ∃ a4 c4 S3 F2, FrS 21 [(3, L a4 rl1 c4)] fr ∧ Mem w1 S1 (fun k => (G0 k) ∧ k < w.heap.size) w' S3 F2 ∧ Sep [sl9 (L a4 rl1 c4) rl1] w' S3) (wp_block (wp_iter (Inv := fun s1 fr w' => ∃ a3 c3 S2 F1, FrS 21 [(3, L a3 s1.2 c3), (7, L a1 p0 c1), (8, I (len p0)), (9, I s1.1)] fr ∧ Mem w1 S1 (fun k => (G0 k) ∧ k < w.heap.size) w' S2 F1 ∧ Sep [sl9 (L a3 s1.2 c3) s1.2] w' S2) hit1 ⟨a2, c2, S1, _, hF.sub _ (by kernel_rfl), (Mem.start hM0.bd hM0.bdF hM0.dj), hs⟩ fun s1 q1 fr w1i hI h hr1 => ?_)) fun fr w1o hM => ?_)
 · obtain ⟨a3, c3, S2, F1, hF, hM1, hs⟩ := hI
   have ra0 := ra0.mem hM1
   refine wp_seq (wp_pure [(3, L a3 s1.2 c3), (7, L a1 p0 c1), (8, I (len p0)), (9, I s1.1), (10, .bool (decide (s1.1 < (len p0))))] hF (by kernel_rfl) fun fr hF => then_normal ?_)
   refine wp_seq (wp_if hF (b := (decide (s1.1 < (len p0)))) rfl (fun hb => ?_) (fun hb => ?_))
   · replace h := iteT hb h
     refine (wp_skip (then_normal ?_))
     refine wp_seq (wp_block ?_)
     refine wp_seq (wp_text' ?_)
     obtain ⟨x1, hx1, h⟩ := bindE h
     refine s_elemF (z := x1) (I x1) ty3 Tryd.underlying61 rfl rfl rfl rfl rfl hF rfl (ra0) rfl (get?_nn hx1) (get?_at hx1) rfl fun p fr hF => ?_
     refine from_pure 1 [(3, L a3 s1.2 c3), (5, I x1), (7, L a1 p0 c1), (8, I (len p0)), (9, I s1.1)] hF (by kernel_rfl) fun fr hF => ?_
     refine from_end rfl (then_normal ?_)
     refine (wp_text' ?_)
     refine from_pure 2 [(7, L a1 p0 c1), (8, I (len p0)), (9, I s1.1), (13, L a3 s1.2 c3), (14, I x1)] hF (by kernel_rfl) fun fr hF => ?_
     obtain ⟨x2, hx2, h⟩ := bindE h
     refine s_call [I x1] Tryd.call26 rfl rfl hF rfl (spec_FormatInt_ok n x1 hx2) fun v w2 fr hRes hF => ?_
     obtain ⟨rfl, hc⟩ := hRes
     have ra0 := ra0.ext hc
     have hs := hs.ext hc
     have hM1 := hM1.ext hc
     refine q_lit (E := 9) hs hM1 [Str.val x2] (([x2] : List Str).map Flat.enc) ([x2] : List Str) rfl rfl hF [Str.val x2] rfl (fun w => by kernel_rfl) (css_flat _) rfl rfl rfl fun a5 c5 w3 S4 fr hs hp hF => ?_
     have ra0 := ra0.stp hM1 hp
     have hM1 := hM1.stp hp
     have hs : Sep [sl9 (L a5 ([x2] : List Str) c5) ([x2] : List Str), sl9 (L a3 s1.2 c3) s1.2] w3 S4 := hs
     obtain ⟨x3, hx3, h⟩ := bindE h
     refine q_append 1 hs hM1 rfl Tryd.underlying55 el9 rfl rfl rfl hF rfl rfl (hs.rv 0 rfl) hx3 fun a6 c6 w4 S5 fr hs hp hF => ?_
     have ra0 := ra0.stp hM1 hp
     have hM1 := hM1.stp hp
     have hs : Sep [sl9 (L a5 ([x2] : List Str) c5) ([x2] : List Str), sl9 (L a6 x3 c6) x3] w4 S5 := hs
     have hs : Sep [sl9 (L a6 x3 c6) x3] w4 S5 := Sep.pick [1] hs (by decide) rfl
     refine from_pure 1 [(3, L a6 x3 c6), (7, L a1 p0 c1), (8, I (len p0)), (9, I s1.1)] hF (by kernel_rfl) fun fr hF => ?_
     refine from_end rfl ?_
     refine blk_normal (then_normal ?_)
     refine (wp_pure [(3, L a6 x3 c6), (7, L a1 p0 c1), (8, I (len p0)), (9, I (w64 (s1.1 + 1)))] hF (by kernel_rfl) fun fr hF => then_normal ?_)
     exact ⟨_, (Option.some.inj h).symm, a6, c6, S5, _, hF.sub _ (by kernel_rfl), hM1, hs⟩
   replace h := iteF hb h
   refine (wp_exit (then_exit (then_exit (blk_exit_eq ?_))))
   obtain rfl := hr1 _ (Option.some.inj h).symm
   exact then_normal ⟨a3, c3, S2, _, hF.sub _ (by kernel_rfl), hM1, hs⟩
 · obtain ⟨a4, c4, S3, F2, hF, hMx, hs⟩ := hM
   have hM0 := hM0.trans hMx
   refine wp_seq (wp_text' ?_)
   refine from_pure 1 [(19, L a4 rl1 c4)] hF (by kernel_rfl) fun fr hF => ?_
   obtain ⟨x4, hx4, h⟩ := bindE h
   refine s_call [L a4 rl1 c4, Str.val (⟨[32]⟩)] Tryd.call28 rfl rfl hF rfl (spec_Join_ok n rl1 (⟨[32]⟩) hx4 (hs.rv 0 rfl)) fun v w5 fr hRes hF => ?_
   obtain ⟨rfl, hc⟩ := hRes
   have hs := hs.ext hc
   have hM0 := hM0.ext hc
   have hs : Sep [] w5 S3 := Sep.pick [] hs (by decide) rfl
   refine from_pure 1 [(2, Str.val x4)] hF (by kernel_rfl) fun fr hF => ?_
   refine from_end rfl (then_normal ?_)
   obtain rfl := Option.some.inj h
   exact wp_ret (ret1 rfl hF rfl ⟨_, rfl, rfl, hM0.chg⟩)

theorem spec_FormatFormula_ok (n : Nat) (p0 : D.Formula) {r : Str} (h : spec_FormatFormula n p0 = some r) {w : World} {G0 : Nat → Prop} {va0 : Value} (ra0 : RV w G0 va0 p0) :
   Calls Tryd.prog 54 [va0].toArray w fun e w' => ∃ v, e = .returned v ∧ v = Str.val r ∧ Chg Non w w' := by
 unfold spec_FormatFormula at h
 have hs := Sep.nil w Non
 have hM0 : Mem w Non (fun k => (G0 k) ∧ k < w.heap.size) w Non (fun k => (G0 k) ∧ k < w.heap.size) := Mem.start (fun _ h => h.elim) (fun _ h => h.2) (fun _ h => h.elim)
 have ra0 := ra0.sub (F' := (fun k => (G0 k) ∧ k < w.heap.size)) (fun k hk h => ⟨h, hk⟩)
 obtain ⟨v1, rfl, r1⟩ := RV.Formula ra0
 obtain ⟨a1, c1, rfl, -⟩ := r1.slice
 refine enter (N := 26) Tryd.func54 rfl Tryd.ntmps54 rfl fun fr hF => ?_
 refine wp_seq (wp_text' ?_)
 refine q_box hs hM0 [I p0.Vars, L a1 p0.Clauses c1] rfl rfl hF rfl rfl fun b1 w1 S1 fr hs hp hF => ?_
 have r1 := r1.stp hM0 hp
 have hM0 := hM0.stp hp
 have hs : Sep [BX b1 45 [I p0.Vars, L a1 p0.Clauses c1]] w1 S1 := hs
 refine from_pure 1 [(1, B b1 0)] hF (by kernel_rfl) fun fr hF => ?_
 refine from_end rfl (then_normal ?_)
 refine wp_seq ?_
 refine wp_seq (wp_text' ?_)
 refine s_loadBoxS ty45 rfl rfl hF rfl (hs.bx 0 rfl) rfl rfl fun fr hF => ?_
 obtain ⟨x1, hx1, h⟩ := bindE h
 refine s_call [.agg #[I p0.Vars, L a1 p0.Clauses c1]] Tryd.call53 rfl rfl hF rfl (spec_FormulaOk_ok n p0 hx1 (RV.mk_Formula p0 (r1))) fun v w2 fr hRes hF => ?_
 obtain ⟨rfl, hc⟩ := hRes
 have r1 := r1.ext hc
 have hs := hs.ext hc
 have hM0 := hM0.ext hc
 refine from_pure 1 [(1, B b1 0), (8, .bool (!x1))] hF (by kernel_rfl) fun fr hF => ?_
 refine from_end rfl (then_normal ?_)
 refine (wp_if hF (b := (!x1)) rfl (fun hb => ?_) (fun hb => ?_))
 · replace h := iteT hb h
   have hs : Sep [] w2 S1 := Sep.pick [] hs (by decide) rfl
   refine wp_seq (wp_pure [(2, Str.val (⟨[]⟩))] hF (by kernel_rfl) fun fr hF => then_normal ?_)
   obtain rfl := Option.some.inj h
   exact wp_ret (then_ret (ret1 rfl hF rfl ⟨_, rfl, rfl, hM0.chg⟩))
 replace h := iteF hb h
 refine (wp_skip (then_normal ?_))
 refine wp_seq (wp_text' ?_)
 refine from_pure 1 [(1, B b1 0), (9, B b1 0)] hF (by kernel_rfl) fun fr hF => ?_
 refine s_loadBox (I p0.Vars) ty3 rfl rfl hF rfl (hs.bx 0 rfl) rfl rfl fun fr hF => ?_
 obtain ⟨x2, hx2, h⟩ := bindE h
 refine s_call [I p0.Vars] Tryd.call26 rfl rfl hF rfl (spec_FormatInt_ok n p0.Vars hx2) fun v w3 fr hRes hF => ?_
 obtain ⟨rfl, hc⟩ := hRes
 have r1 := r1.ext hc
 have hs := hs.ext hc
 have hM0 := hM0.ext hc
 refine from_pure 1 [(1, B b1 0), (3, Str.val x2)] hF (by kernel_rfl) fun fr hF => ?_
 refine from_end rfl (then_normal ?_)
 refine wp_seq ?_
 refine wp_seq (wp_text' ?_)
 refine from_pure 1 [(3, Str.val x2), (12, B b1 1)] hF (by kernel_rfl) fun fr hF => ?_
 refine s_loadBox (L a1 p0.Clauses c1) ty43 rfl rfl hF rfl (hs.bx 0 rfl) rfl rfl fun fr hF => ?_
 have hs : Sep [] w3 S1 := Sep.pick [] hs (by decide) rfl
 refine from_pure 2 [(3, Str.val x2), (13, L a1 p0.Clauses c1), (14, I (len p0.Clauses)), (15, I 0)] hF (by kernel_rfl) fun fr hF => ?_
 refine from_end rfl (then_normal ?_)
 obtain ⟨rl1, hit1, h⟩ := bindE h
 have hk1 := h
 refine (GL.wp_cut (M := fun fr w' => ∃ S3 F2, FrS 26 [(3, Str.val rl1)] fr ∧ Mem w3 S1 (fun k => (G0 k) ∧ k < w.heap.size) w' S3 F2 ∧ Sep [] w' S3) (wp_block (wp_iter (Inv := fun s1 fr w' => ∃ S2 F1, FrS 26 [(3, Str.val s1.1), (13, L a1 p0.Clauses c1), (14, I (len p0.Clauses)), (15, I s1.2)] fr ∧ Mem w3 S1 (fun k => (G0 k) ∧ k < w.heap.size) w' S2 F1 ∧ Sep [] w' S2) hit1 ⟨S1, _, hF.sub _ (by kernel_rfl), (Mem.start hM0.bd hM0.bdF hM0.dj), hs⟩ fun s1 q1 fr w1i hI h hr1 => ?_)) fun fr w1o hM => ?_)
 · obtain ⟨S2, F1, hF, hM1, hs⟩ := hI
   have r1 := r1.mem hM1
   refine wp_seq (wp_pure [(3, Str.val s1.1), (13, L a1 p0.Clauses c1), (14, I (len p0.Clauses)), (15, I s1.2), (16, .bool (decide (s1.2 < (len p0.Clauses))))] hF (by kernel_rfl) fun fr hF => then_normal ?_)
   refine wp_seq (wp_if hF (b := (decide (s1.2 < (len p0.Clauses)))) rfl (fun hb => ?_) (fun hb => ?_))
   · replace h := iteT hb h
     refine (wp_skip (then_normal ?_))
     refine wp_seq (wp_block ?_)
     refine wp_seq (wp_text' ?_)
     obtain ⟨x3, hx3, h⟩ := bindE h
     refine s_elem (z := x3) ty61 Tryd.underlying43 rfl rfl rfl rfl rfl hF rfl (r1) rfl (get?_nn hx3) (get?_at hx3) fun p v2 fr r2 hF => ?_
     obtain ⟨a2, c2, rfl, -⟩ := r2.slice
     refine from_pure 1 [(3, Str.val s1.1), (5, L a2 x3 c2), (13, L a1 p0.Clauses c1), (14, I (len p0.Clauses)), (15, I s1.2)] hF (by kernel_rfl) fun fr hF => ?_
     refine from_end rfl (then_normal ?_)
     refine (wp_text' ?_)
     refine from_pure 1 [(5, L a2 x3 c2), (13, L a1 p0.Clauses c1), (14, I (len p0.Clauses)), (15, I s1.2), (19, Str.val s1.1)] hF (by kernel_rfl) fun fr hF => ?_
     obtain ⟨x4, hx4, h⟩ := bindE h
     refine s_cat (s1 := s1.1) (s2 := (⟨[124]⟩)) rfl rfl hF rfl rfl hx4 fun fr hF => ?_
     refine from_pure 1 [(13, L a1 p0.Clauses c1), (14, I (len p0.Clauses)), (15, I s1.2), (20, Str.val x4), (21, L a2 x3 c2)] hF (by kernel_rfl) fun fr hF => ?_
     obtain ⟨x5, hx5, h⟩ := bindE h
     refine s_call [L a2 x3 c2] Tryd.call37 rfl rfl hF rfl (spec_FormatInts_ok n x3 hx5 (r2)) fun v w4 fr hRes hF => ?_
     obtain ⟨rfl, hc⟩ := hRes
     have r1 := r1.ext hc
     have r2 := r2.ext hc
     have hs := hs.ext hc
     have hM1 := hM1.ext hc
     obtain ⟨x6, hx6, h⟩ := bindE h
     refine s_cat (s1 := x4) (s2 := x5) rfl rfl hF rfl rfl hx6 fun fr hF => ?_
     refine from_pure 1 [(3, Str.val x6), (13, L a1 p0.Clauses c1), (14, I (len p0.Clauses)), (15, I s1.2)] hF (by kernel_rfl) fun fr hF => ?_
     refine from_end rfl ?_
     refine blk_normal (then_normal ?_)
     refine (wp_pure [(3, Str.val x6), (13, L a1 p0.Clauses c1), (14, I (len p0.Clauses)), (15, I (w64 (s1.2 + 1)))] hF (by kernel_rfl) fun fr hF => then_normal ?_)
     exact ⟨_, (Option.some.inj h).symm, S2, _, hF.sub _ (by kernel_rfl), hM1, hs⟩
   replace h := iteF hb h
   refine (wp_exit (then_exit (then_exit (blk_exit_eq ?_))))
   obtain rfl := hr1 _ (Option.some.inj h).symm
   exact then_normal ⟨S2, _, hF.sub _ (by kernel_rfl), hM1, hs⟩
 · obtain ⟨S3, F2, hF, hMx, hs⟩ := hM
   have hM0 := hM0.trans hMx
   refine wp_seq (wp_pure [(2, Str.val rl1)] hF (by kernel_rfl) fun fr hF => then_normal ?_)
   obtain rfl := Option.some.inj h
   exact wp_ret (ret1 rfl hF rfl ⟨_, rfl, rfl, hM0.chg⟩)

theorem spec_ParseFormula_ok (n : Nat) (p0 : Str) {r : D.Formula × Bool} (h : spec_ParseFormula n p0 = some r) {w : World} :
   Calls Tryd.prog 18 [Str.val p0].toArray w fun e w' => ∃ v, e = .returned v ∧ ∃ a1 c1 rs2, v = .tuple #[.agg #[I r.1.Vars, L a1 r.1.Clauses c1], .bool r.2] ∧ ∃ S', Stp w Non w' S' ∧ Sep [sl61 (L a1 r.1.Clauses c1) rs2, HP.all own61 rs2 r.1.Clauses] w' S' := by
 unfold spec_ParseFormula at h
 have hs := Sep.nil w Non
 have hM0 : Mem w Non (fun k => (False) ∧ k < w.heap.size) w Non (fun k => (False) ∧ k < w.heap.size) := Mem.start (fun _ h => h.elim) (fun _ h => h.2) (fun _ h => h.elim)
 refine enter (N := 73) Tryd.func18 rfl Tryd.ntmps18 rfl fun fr hF => ?_
 refine wp_seq (wp_text' ?_)
 refine q_alloc (z := .agg #[I 0, L none ([] : List (List Int)) 0]) hs hM0 [I 0, L none ([] : List (List Int)) 0] rfl rfl hF (by kernel_rfl) rfl fun b1 w1 S1 fr hs hp hF => ?_
 have hM0 := hM0.stp hp
 have hs : Sep [BX b1 45 [I 0, L none ([] : List (List Int)) 0]] w1 S1 := hs
 refine from_pure 1 [(0, Str.val p0), (2, B b1 0)] hF (by kernel_rfl) fun fr hF => ?_
 refine from_end rfl (then_normal ?_)
 refine wp_seq (wp_text' ?_)
 refine from_pure 1 [(0, Str.val p0), (2, B b1 0), (12, .agg #[I 0, L none ([] : List (List Int)) 0])] hF (by kernel_rfl) fun fr hF => ?_
 refine q_alloc (z := .agg #[I 0, L none ([] : List (List Int)) 0]) hs hM0 [I 0, L none ([] : List (List Int)) 0] rfl rfl hF (by kernel_rfl) rfl fun b2 w2 S2 fr hs hp hF => ?_
 have hM0 := hM0.stp hp
 have hs : Sep [BX b2 45 [I 0, L none ([] : List (List Int)) 0], BX b1 45 [I 0, L none ([] : List (List Int)) 0]] w2 S2 := hs
 refine q_storeBoxS 0 hs hM0 rfl [I 0, L none ([] : List (List Int)) 0] rfl hF rfl rfl (by kernel_rfl) rfl rfl rfl fun w3 S3 hs hp hF => ?_
 have hM0 := hM0.stp hp
 have hs : Sep [BX b2 45 [I 0, L none ([] : List (List Int)) 0], BX b1 45 [I 0, L none ([] : List (List Int)) 0]] w3 S3 := hs
 refine from_end rfl (then_normal ?_)
 refine wp_seq (wp_pure [(0, Str.val p0), (2, B b1 0), (4, B b2 0), (5, I 0)] hF (by kernel_rfl) fun fr hF => then_normal ?_)
 refine wp_seq (wp_pure [(0, Str.val p0), (2, B b1 0), (4, B b2 0), (5, I 0), (6, .bool true)] hF (by kernel_rfl) fun fr hF => then_normal ?_)
 refine wp_seq ?_
 refine wp_seq (wp_pure [(0, Str.val p0), (2, B b1 0), (4, B b2 0), (5, I 0), (6, .bool true), (7, I 0)] hF (by kernel_rfl) fun fr hF => then_normal ?_)
 have hs : Sep [sl61 (L none ([] : List (List Int)) 0) ([] : List Hd), HP.all own61 ([] : List Hd) ([] : List (List Int)), BX b2 45 [I 0, L none ([] : List (List Int)) 0], BX b1 45 [I 0, L none ([] : List (List Int)) 0]] w3 S3 := (hs.emp (HP.all own61 [] []) trivial).cons_nil (α := Hd) 61
 have hs : Sep [sl61 (L none ([] : List (List Int)) 0) ([] : List Hd), HP.all own61 ([] : List Hd) ([] : List (List Int)), BX b2 45 [I 0, L none ([] : List (List Int)) 0], BX b1 45 [I 0, L none ([] : List (List Int)) 0]] w3 S3 := hs
 obtain ⟨rl1, hit1, h⟩ := bindE h
 have hk1 := h
 refine (GL.wp_cut (M := fun fr w' => ∃ s, rl1 = .inl s ∧ ∃ rs2 a2 c2 S5 F2, FrS 73 [(0, Str.val p0), (2, B b1 0), (4, B b2 0)] fr ∧ Mem w3 S3 (fun k => (False) ∧ k < w.heap.size) w' S5 F2 ∧ Sep [sl61 (L a2 s.1 c2) rs2, HP.all own61 rs2 s.1, BX b2 45 [I s.2, L a2 s.1 c2], BX b1 45 [I 0, L none ([] : List (List Int)) 0]] w' S5) (wp_block (wp_iter (Inv := fun s1 fr w' => ∃ rs1 a1 c1 S4 F1, FrS 73 [(0, Str.val p0), (2, B b1 0), (4, B b2 0), (5, I s1.1), (6, .bool s1.2.1), (7, I s1.2.2.1)] fr ∧ Mem w3 S3 (fun k => (False) ∧ k < w.heap.size) w' S4 F1 ∧ Sep [sl61 (L a1 s1.2.2.2.1 c1) rs1, HP.all own61 rs1 s1.2.2.2.1, BX b2 45 [I s1.2.2.2.2, L a1 s1.2.2.2.1 c1], BX b1 45 [I 0, L none ([] : List (List Int)) 0]] w' S4) hit1 ⟨([] : List Hd), none, 0, S3, _, hF.sub _ (by kernel_rfl), (Mem.start hM0.bd hM0.bdF hM0.dj), hs⟩ fun s1 q1 fr w1i hI h hr1 => ?_)) fun fr w1o hM => ?_)
 · obtain ⟨rs1, a1, c1, S4, F1, hF, hM1, hs⟩ := hI
   refine wp_seq ?_
   refine wp_seq (wp_pure [(0, Str.val p0), (2, B b1 0), (4, B b2 0), (5, I s1.1), (6, .bool s1.2.1), (7, I s1.2.2.1), (16, .bool (decide (s1.2.2.1 ≤ (len p0.bytes))))] hF (by kernel_rfl) fun fr hF => then_normal ?_)
   refine (wp_if hF (b := (decide (s1.2.2.1 ≤ (len p0.bytes)))) rfl (fun hb => ?_) (fun hb => ?_))
   · replace h := iteT hb h
     refine (wp_skip (then_normal ?_))
     refine wp_seq (wp_block ?_)
     refine wp_seq ?_
     obtain ⟨x1, hx1, h⟩ := bindE h
     refine wp_seq (region_b [] [true, true, true, true, true, true, true, false, true, true]
         [.eq (I s1.2.2.1), .eq (Str.val p0), .eq (I (len p0.bytes)), .eq (.bool (decide (s1.2.2.1 < (len p0.bytes)))), .eq (.bool (decide (s1.2.2.1 < (len p0.bytes)))), .eq (Str.val p0), .eq (I s1.2.2.1), .eq (.int .u8 x1), .eq (.bool (x1 != 124)), .eq (.bool ((decide (s1.2.2.1 < (len p0.bytes))) && (x1 != 124)))]
         [(0, Str.val p0), (2, B b1 0), (4, B b2 0), (5, I s1.1), (6, .bool s1.2.1), (7, I s1.2.2.1), (28, .bool ((decide (s1.2.2.1 < (len p0.bytes))) && (x1 != 124)))] mix hF (by kernel_rfl) (by kernel_rfl) (by kernel_rfl) ⟨Pd.mono_eq, trivial⟩ (fun hG => ⟨np_index_str (s := p0) hG hF Tryd.underlying9 rfl rfl rfl (fun hg => (iteT hg.2 hx1)) rfl, trivial⟩) (by kernel_rfl) fun fr w4 hF hE hc => then_normal ?_)
     have hs := hs.ext hc
     have hM1 := hM1.ext hc
     refine (wp_if hF (b := ((decide (s1.2.2.1 < (len p0.bytes))) && (x1 != 124))) rfl (fun hb => ?_) (fun hb => ?_))
     · replace h := iteT hb h
       refine (wp_exit (then_exit (blk_exit_eq ?_)))
       refine then_normal ?_
       refine (wp_pure [(0, Str.val p0), (2, B b1 0), (4, B b2 0), (5, I s1.1), (6, .bool s1.2.1), (7, I (w64 (s1.2.2.1 + 1)))] hF (by kernel_rfl) fun fr hF => then_normal ?_)
       exact ⟨_, (Option.some.inj h).symm, rs1, a1, c1, S4, _, hF.sub _ (by kernel_rfl), hM1, hs⟩
     replace h := iteF hb h
     refine (wp_skip (then_normal ?_))
     refine wp_seq ?_
     refine wp_seq (wp_pure [(0, Str.val p0), (2, B b1 0), (4, B b2 0), (5, I s1.1), (7, I s1.2.2.1), (29, .bool s1.2.1)] hF (by kernel_rfl) fun fr hF => then_normal ?_)
     refine (wp_if hF (b := s1.2.1) rfl (fun hb => ?_) (fun hb => ?_))
     · replace h := iteT hb h
       refine wp_seq (wp_text' ?_)
       refine from_pure 3 [(0, Str.val p0), (2, B b1 0), (4, B b2 0), (7, I s1.2.2.1), (31, Str.val p0), (32, I s1.1), (33, I s1.2.2.1)] hF (by kernel_rfl) fun fr hF => ?_
       obtain ⟨x2, hx2, h⟩ := bindE h
       refine s_scut (s := p0) Tryd.underlying9 rfl rfl hF rfl ⟨_, rfl⟩ ⟨_, rfl⟩ hx2 fun fr hF => ?_
       obtain ⟨x3, hx3, h⟩ := bindE h
       refine s_call [Str.val x2] Tryd.call51 rfl rfl hF rfl (spec_ParseInt_ok n x2 hx3) fun v w5 fr hRes hF => ?_
       obtain ⟨rfl, hc⟩ := hRes
       have hs := hs.ext hc
       have hM1 := hM1.ext hc
       refine from_pure 5 [(0, Str.val p0), (2, B b1 0), (4, B b2 0), (7, I s1.2.2.1), (8, I x3.1), (9, .bool x3.2)] hF (by kernel_rfl) fun fr hF => ?_
       refine from_end rfl (then_normal ?_)
       refine wp_seq ?_
       refine wp_seq (wp_pure [(0, Str.val p0), (2, B b1 0), (4, B b2 0), (7, I s1.2.2.1), (8, I x3.1), (39, .bool (!x3.2))] hF (by kernel_rfl) fun fr hF => then_normal ?_)
       refine (wp_if hF (b := (!x3.2)) rfl (fun hb => ?_) (fun hb => ?_))
       · replace h := iteT hb h
         have hs : Sep [BX b1 45 [I 0, L none ([] : List (List Int)) 0]] w5 S4 := Sep.pick [3] hs (by decide) rfl
         refine wp_seq (wp_text' ?_)
         refine from_pure 1 [(2, B b1 0), (40, .agg #[I 0, L none ([] : List (List Int)) 0])] hF (by kernel_rfl) fun fr hF => ?_
         refine q_storeBoxS 0 hs hM1 rfl [I 0, L none ([] : List (List Int)) 0] rfl hF rfl rfl (by kernel_rfl) rfl rfl rfl fun w6 S6 hs hp hF => ?_
         have hM1 := hM1.stp hp
         have hs : Sep [BX b1 45 [I 0, L none ([] : List (List Int)) 0]] w6 S6 := hs
         refine from_pure 1 [(2, B b1 0), (3, .bool false)] hF (by kernel_rfl) fun fr hF => ?_
         refine from_end rfl (then_normal ?_)
         have hrets := fun {σ : List (Nat × Value)} (h : σ = [(2, B b1 0), (3, .bool false)]) => (by subst h; exact (Rets.cell rfl ty45 (hs.bx 0 rfl) rfl rfl (Rets.tmp rfl Rets.nil)) : Rets Tryd.prog σ w6 [.cell 2 45, .tmp 3] [.agg #[I 0, L none ([] : List (List Int)) 0], .bool false])
         have hs : Sep [sl61 (L none ([] : List (List Int)) 0) ([] : List Hd), HP.all own61 ([] : List Hd) ([] : List (List Int)), BX b1 45 [I 0, L none ([] : List (List Int)) 0]] w6 S6 := (hs.emp (HP.all own61 [] []) trivial).cons_nil (α := Hd) 61
         obtain rfl := hr1 _ (Option.some.inj h).symm
         obtain rfl := Option.some.inj hk1
         have hs : Sep [sl61 (L none ([] : List (List Int)) 0) ([] : List Hd), HP.all own61 ([] : List Hd) ([] : List (List Int))] w6 S6 := Sep.pick [0, 1] hs (by decide) rfl
         exact wp_ret (then_ret (then_ret (blk_ret (then_ret (then_ret (blk_ret (then_ret (retG (rs := [.cell 2 45, .tmp 3]) rfl (hF.sub [(2, B b1 0), (3, .bool false)] (by kernel_rfl)) (hrets rfl) rfl ⟨_, rfl, none, 0, ([] : List Hd), rfl, S6, (hM0.trans hM1).out, hs⟩))))))))
       replace h := iteF hb h
       refine (wp_skip (then_normal ?_))
       refine (wp_text' ?_)
       refine from_pure 2 [(0, Str.val p0), (2, B b1 0), (4, B b2 0), (7, I s1.2.2.1), (41, I x3.1), (42, B b2 0)] hF (by kernel_rfl) fun fr hF => ?_
       refine q_storeBox 2 hs hM1 rfl [I x3.1, L a1 s1.2.2.2.1 c1] rfl hF rfl rfl (by kernel_rfl) rfl rfl rfl fun w7 S7 hs hp hF => ?_
       have hM1 := hM1.stp hp
       have hs : Sep [sl61 (L a1 s1.2.2.2.1 c1) rs1, HP.all own61 rs1 s1.2.2.2.1, BX b2 45 [I x3.1, L a1 s1.2.2.2.1 c1], BX b1 45 [I 0, L none ([] : List (List Int)) 0]] w7 S7 := hs
       refine from_end rfl (then_normal ?_)
       refine wp_seq (wp_pure [(0, Str.val p0), (2, B b1 0), (4, B b2 0), (6, .bool false), (7, I s1.2.2.1)] hF (by kernel_rfl) fun fr hF => then_normal ?_)
       refine (wp_pure [(0, Str.val p0), (2, B b1 0), (4, B b2 0), (5, I (w64 (s1.2.2.1 + 1))), (6, .bool false), (7, I s1.2.2.1)] hF (by kernel_rfl) fun fr hF => ?_)
       refine blk_normal (then_normal ?_)
       refine (wp_pure [(0, Str.val p0), (2, B b1 0), (4, B b2 0), (5, I (w64 (s1.2.2.1 + 1))), (6, .bool false), (7, I (w64 (s1.2.2.1 + 1)))] hF (by kernel_rfl) fun fr hF => then_normal ?_)
       exact ⟨_, (Option.some.inj h).symm, rs1, a1, c1, S7, _, hF.sub _ (by kernel_rfl), hM1, hs⟩
     replace h := iteF hb h
     refine wp_seq (wp_text' ?_)
     refine from_pure 3 [(0, Str.val p0), (2, B b1 0), (4, B b2 0), (7, I s1.2.2.1), (44, Str.val p0), (45, I s1.1), (46, I s1.2.2.1)] hF (by kernel_rfl) fun fr hF => ?_
     obtain ⟨x4, hx4, h⟩ := bindE h
     refine s_scut (s := p0) Tryd.underlying9 rfl rfl hF rfl ⟨_, rfl⟩ ⟨_, rfl⟩ hx4 fun fr hF => ?_
     obtain ⟨x5, hx5, h⟩ := bindE h
     refine s_call [Str.val x4] Tryd.call52 rfl rfl hF rfl (spec_ParseInts_ok n x4 hx5) fun v w8 fr hRes hF => ?_
     obtain ⟨a3, c3, rfl, _, hp, hs2⟩ := hRes
     obtain ⟨S8, hp, hs⟩ := hs.got hM1 hp hs2
     have hM1 := hM1.stp hp
     have hs : Sep [sl3 (L a3 x5.1 c3) x5.1, sl61 (L a1 s1.2.2.2.1 c1) rs1, HP.all own61 rs1 s1.2.2.2.1, BX b2 45 [I s1.2.2.2.2, L a1 s1.2.2.2.1 c1], BX b1 45 [I 0, L none ([] : List (List Int)) 0]] w8 S8 := hs
     refine from_pure 5 [(0, Str.val p0), (2, B b1 0), (4, B b2 0), (7, I s1.2.2.1), (10, L a3 x5.1 c3), (11, .bool x5.2)] hF (by kernel_rfl) fun fr hF => ?_
     refine from_end rfl (then_normal ?_)
     refine wp_seq ?_
     refine wp_seq (wp_pure [(0, Str.val p0), (2, B b1 0), (4, B b2 0), (7, I s1.2.2.1), (10, L a3 x5.1 c3), (52, .bool (!x5.2))] hF (by kernel_rfl) fun fr hF => then_normal ?_)
     refine (wp_if hF (b := (!x5.2)) rfl (fun hb => ?_) (fun hb => ?_))
     · replace h := iteT hb h
       have hs : Sep [BX b1 45 [I 0, L none ([] : List (List Int)) 0]] w8 S8 := Sep.pick [4] hs (by decide) rfl
       refine wp_seq (wp_text' ?_)
       refine from_pure 1 [(2, B b1 0), (53, .agg #[I 0, L none ([] : List (List Int)) 0])] hF (by kernel_rfl) fun fr hF => ?_
       refine q_storeBoxS 0 hs hM1 rfl [I 0, L none ([] : List (List Int)) 0] rfl hF rfl rfl (by kernel_rfl) rfl rfl rfl fun w9 S9 hs hp hF => ?_
       have hM1 := hM1.stp hp
       have hs : Sep [BX b1 45 [I 0, L none ([] : List (List Int)) 0]] w9 S9 := hs
       refine from_pure 1 [(2, B b1 0), (3, .bool false)] hF (by kernel_rfl) fun fr hF => ?_
       refine from_end rfl (then_normal ?_)
       have hrets := fun {σ : List (Nat × Value)} (h : σ = [(2, B b1 0), (3, .bool false)]) => (by subst h; exact (Rets.cell rfl ty45 (hs.bx 0 rfl) rfl rfl (Rets.tmp rfl Rets.nil)) : Rets Tryd.prog σ w9 [.cell 2 45, .tmp 3] [.agg #[I 0, L none ([] : List (List Int)) 0], .bool false])
       have hs : Sep [sl61 (L none ([] : List (List Int)) 0) ([] : List Hd), HP.all own61 ([] : List Hd) ([] : List (List Int)), BX b1 45 [I 0, L none ([] : List (List Int)) 0]] w9 S9 := (hs.emp (HP.all own61 [] []) trivial).cons_nil (α := Hd) 61
       obtain rfl := hr1 _ (Option.some.inj h).symm
       obtain rfl := Option.some.inj hk1
       have hs : Sep [sl61 (L none ([] : List (List Int)) 0) ([] : List Hd), HP.all own61 ([] : List Hd) ([] : List (List Int))] w9 S9 := Sep.pick [0, 1] hs (by decide) rfl
       exact wp_ret (then_ret (then_ret (blk_ret (then_ret (then_ret (blk_ret (then_ret (retG (rs := [.cell 2 45, .tmp 3]) rfl (hF.sub [(2, B b1 0), (3, .bool false)] (by kernel_rfl)) (hrets rfl) rfl ⟨_, rfl, none, 0, ([] : List Hd), rfl, S9, (hM0.trans hM1).out, hs⟩))))))))
     replace h := iteF hb h
     refine (wp_skip (then_normal ?_))
     refine (wp_text' ?_)
     refine from_pure 1 [(0, Str.val p0), (2, B b1 0), (4, B b2 0), (7, I s1.2.2.1), (10, L a3 x5.1 c3), (54, B b2 1)] hF (by kernel_rfl) fun fr hF => ?_
     refine s_loadBox (L a1 s1.2.2.2.1 c1) ty43 rfl rfl hF rfl (hs.bx 3 rfl) rfl rfl fun fr hF => ?_
     refine from_pure 1 [(0, Str.val p0), (2, B b1 0), (4, B b2 0), (7, I s1.2.2.1), (55, L a1 s1.2.2.2.1 c1), (56, L a3 x5.1 c3)] hF (by kernel_rfl) fun fr hF => ?_
     refine q_lit (E := 61) hs hM1 [L a3 x5.1 c3] (([⟨a3, List.length x5.1, c3⟩] : List Hd).map Flat.enc) ([⟨a3, List.length x5.1, c3⟩] : List Hd) rfl rfl hF [L a3 x5.1 c3] rfl (fun w => by kernel_rfl) (css_flat _) rfl rfl rfl fun a4 c4 w10 S10 fr hs hp hF => ?_
     have hM1 := hM1.stp hp
     have hs : Sep [sl61 (L a4 ([x5.1] : List (List Int)) c4) ([⟨a3, List.length x5.1, c3⟩] : List Hd), sl3 (L a3 x5.1 c3) x5.1, sl61 (L a1 s1.2.2.2.1 c1) rs1, HP.all own61 rs1 s1.2.2.2.1, BX b2 45 [I s1.2.2.2.2, L a1 s1.2.2.2.1 c1], BX b1 45 [I 0, L none ([] : List (List Int)) 0]] w10 S10 := hs
     have hs : Sep [HP.all own61 ([] : List Hd) ([] : List (List Int)), sl61 (L a4 ([x5.1] : List (List Int)) c4) ([⟨a3, List.length x5.1, c3⟩] : List Hd), sl3 (L a3 x5.1 c3) x5.1, sl61 (L a1 s1.2.2.2.1 c1) rs1, HP.all own61 rs1 s1.2.2.2.1, BX b2 45 [I s1.2.2.2.2, L a1 s1.2.2.2.1 c1], BX b1 45 [I 0, L none ([] : List (List Int)) 0]] w10 S10 := hs.emp (HP.all own61 [] []) trivial
     have hs : Sep [sl3 (L a3 x5.1 c3) x5.1, HP.all own61 ([] : List Hd) ([] : List (List Int)), sl61 (L a4 ([x5.1] : List (List Int)) c4) ([⟨a3, List.length x5.1, c3⟩] : List Hd), sl61 (L a1 s1.2.2.2.1 c1) rs1, HP.all own61 rs1 s1.2.2.2.1, BX b2 45 [I s1.2.2.2.2, L a1 s1.2.2.2.1 c1], BX b1 45 [I 0, L none ([] : List (List Int)) 0]] w10 S10 := Sep.pick [2, 0, 1, 3, 4, 5, 6] hs (by decide) rfl
     have hs : Sep [HP.all own61 ([⟨a3, List.length x5.1, c3⟩] : List Hd) ([x5.1] : List (List Int)), sl61 (L a4 ([x5.1] : List (List Int)) c4) ([⟨a3, List.length x5.1, c3⟩] : List Hd), sl61 (L a1 s1.2.2.2.1 c1) rs1, HP.all own61 rs1 s1.2.2.2.1, BX b2 45 [I s1.2.2.2.2, L a1 s1.2.2.2.1 c1], BX b1 45 [I 0, L none ([] : List (List Int)) 0]] w10 S10 := Sep.merge hs (fun _ h => h)
     have hs : Sep [sl61 (L a1 s1.2.2.2.1 c1) rs1, HP.all own61 rs1 s1.2.2.2.1, HP.all own61 ([⟨a3, List.length x5.1, c3⟩] : List Hd) ([x5.1] : List (List Int)), sl61 (L a4 ([x5.1] : List (List Int)) c4) ([⟨a3, List.length x5.1, c3⟩] : List Hd), BX b2 45 [I s1.2.2.2.2, L a1 s1.2.2.2.1 c1], BX b1 45 [I 0, L none ([] : List (List Int)) 0]] w10 S10 := Sep.pick [2, 3, 0, 1, 4, 5] hs (by decide) rfl
     obtain ⟨x6, hx6, h⟩ := bindE h
     refine q_appendD hs hM1 Tryd.underlying43 rel61 rfl rfl rfl hF rfl rfl (hs.rv 3 rfl) hx6 fun a5 c5 rs3 w11 S11 fr hs hp hF => ?_
     have hM1 := hM1.stp hp
     have hs : Sep [sl61 (L a5 x6 c5) rs3, HP.all own61 rs3 x6, sl61 (L a4 ([x5.1] : List (List Int)) c4) ([⟨a3, List.length x5.1, c3⟩] : List Hd), BX b2 45 [I s1.2.2.2.2, L a1 s1.2.2.2.1 c1], BX b1 45 [I 0, L none ([] : List (List Int)) 0]] w11 S11 := hs
     have hs : Sep [sl61 (L a5 x6 c5) rs3, HP.all own61 rs3 x6, BX b2 45 [I s1.2.2.2.2, L a1 s1.2.2.2.1 c1], BX b1 45 [I 0, L none ([] : List (List Int)) 0]] w11 S11 := Sep.pick [0, 1, 3, 4] hs (by decide) rfl
     refine from_pure 1 [(0, Str.val p0), (2, B b1 0), (4, B b2 0), (7, I s1.2.2.1), (58, L a5 x6 c5), (59, B b2 1)] hF (by kernel_rfl) fun fr hF => ?_
     refine q_storeBox 2 hs hM1 rfl [I s1.2.2.2.2, L a5 x6 c5] rfl hF rfl rfl (by kernel_rfl) rfl rfl rfl fun w12 S12 hs hp hF => ?_
     have hM1 := hM1.stp hp
     have hs : Sep [sl61 (L a5 x6 c5) rs3, HP.all own61 rs3 x6, BX b2 45 [I s1.2.2.2.2, L a5 x6 c5], BX b1 45 [I 0, L none ([] : List (List Int)) 0]] w12 S12 := hs
     refine from_end rfl (then_normal ?_)
     refine wp_seq (wp_pure [(0, Str.val p0), (2, B b1 0), (4, B b2 0), (6, .bool false), (7, I s1.2.2.1)] hF (by kernel_rfl) fun fr hF => then_normal ?_)
     refine (wp_pure [(0, Str.val p0), (2, B b1 0), (4, B b2 0), (5, I (w64 (s1.2.2.1 + 1))), (6, .bool false), (7, I s1.2.2.1)] hF (by kernel_rfl) fun fr hF => ?_)
     refine blk_normal (then_normal ?_)
     refine (wp_pure [(0, Str.val p0), (2, B b1 0), (4, B b2 0), (5, I (w64 (s1.2.2.1 + 1))), (6, .bool false), (7, I (w64 (s1.2.2.1 + 1)))] hF (by kernel_rfl) fun fr hF => then_normal ?_)
     exact ⟨_, (Option.some.inj h).symm, rs3, a5, c5, S12, _, hF.sub _ (by kernel_rfl), hM1, hs⟩
   replace h := iteF hb h
   refine (wp_exit (then_exit (then_exit (blk_exit_eq ?_))))
   obtain rfl := hr1 _ (Option.some.inj h).symm
   exact then_normal ⟨_, rfl, rs1, a1, c1, S4, _, hF.sub _ (by kernel_rfl), hM1, hs⟩
 · obtain ⟨s1r, rfl, hM⟩ := hM
   obtain ⟨rs2, a2, c2, S5, F2, hF, hMx, hs⟩ := hM
   have hM0 := hM0.trans hMx
   refine wp_seq ?_
   obtain ⟨x7, hx7, h⟩ := bindE h
   obtain ⟨x8, hx8, h⟩ := bindE h
   refine wp_seq (region_b [] [false, false, true, true, false, false, true, true, true]
       [.eq (.agg #[I s1r.2, L a2 s1r.1 c2]), .eq (.bool x7), .eq (.bool (!x7)), .eq (.bool (!x7)), .eq (.agg #[I s1r.2, L a2 s1r.1 c2]), .eq (Str.val x8), .eq (Str.val p0), .eq (.bool (!(Str.eqb x8 p0))), .eq (.bool ((!x7) || (!(Str.eqb x8 p0))))]
       [(2, B b1 0), (4, B b2 0), (70, .bool ((!x7) || (!(Str.eqb x8 p0))))] mix hF (by kernel_rfl) (by kernel_rfl) (by kernel_rfl) ⟨Pd.mono_eq, Pd.mono_eq, Pd.mono_eq, Pd.mono_eq, trivial⟩ (fun hG => ⟨np_loadBoxS hG hF ty45 rfl rfl (hs.bx 2 rfl) rfl rfl rfl rfl, np_call [.agg #[I s1r.2, L a2 s1r.1 c2]] hG hF Tryd.call53 rfl rfl (fun w hC hg => (spec_FormulaOk_ok n (D.Formula.mk s1r.2 s1r.1) hx7 ((RV.mk_Formula (D.Formula.mk s1r.2 s1r.1) (RV.any (hs.drv owns61 0 1 rfl rfl (by decide)))).ext hC)).mono fun e w' ⟨v, he, hv, hc⟩ => ⟨v, he, hc, hv⟩), np_loadBoxS hG hF ty45 rfl rfl (hs.bx 2 rfl) rfl rfl rfl rfl, np_call [.agg #[I s1r.2, L a2 s1r.1 c2]] hG hF Tryd.call54 rfl rfl (fun w hC hg => (spec_FormatFormula_ok n (D.Formula.mk s1r.2 s1r.1) (iteF hg.2 hx8) ((RV.mk_Formula (D.Formula.mk s1r.2 s1r.1) (RV.any (hs.drv owns61 0 1 rfl rfl (by decide)))).ext hC)).mono fun e w' ⟨v, he, hv, hc⟩ => ⟨v, he, hc, hv⟩), trivial⟩) (by kernel_rfl) fun fr w13 hF hE hc => then_normal ?_)
   have hs := hs.ext hc
   have hM0 := hM0.ext hc
   refine (wp_if hF (b := ((!x7) || (!(Str.eqb x8 p0)))) rfl (fun hb => ?_) (fun hb => ?_))
   · replace h := iteT hb h
     have hs : Sep [BX b1 45 [I 0, L none ([] : List (List Int)) 0]] w13 S5 := Sep.pick [3] hs (by decide) rfl
     refine wp_seq (wp_text' ?_)
     refine from_pure 1 [(2, B b1 0), (71, .agg #[I 0, L none ([] : List (List Int)) 0])] hF (by kernel_rfl) fun fr hF => ?_
     refine q_storeBoxS 0 hs hM0 rfl [I 0, L none ([] : List (List Int)) 0] rfl hF rfl rfl (by kernel_rfl) rfl rfl rfl fun w14 S13 hs hp hF => ?_
     have hM0 := hM0.stp hp
     have hs : Sep [BX b1 45 [I 0, L none ([] : List (List Int)) 0]] w14 S13 := hs
     refine from_pure 1 [(2, B b1 0), (3, .bool false)] hF (by kernel_rfl) fun fr hF => ?_
     refine from_end rfl (then_normal ?_)
     have hrets := fun {σ : List (Nat × Value)} (h : σ = [(2, B b1 0), (3, .bool false)]) => (by subst h; exact (Rets.cell rfl ty45 (hs.bx 0 rfl) rfl rfl (Rets.tmp rfl Rets.nil)) : Rets Tryd.prog σ w14 [.cell 2 45, .tmp 3] [.agg #[I 0, L none ([] : List (List Int)) 0], .bool false])
     have hs : Sep [sl61 (L none ([] : List (List Int)) 0) ([] : List Hd), HP.all own61 ([] : List Hd) ([] : List (List Int)), BX b1 45 [I 0, L none ([] : List (List Int)) 0]] w14 S13 := (hs.emp (HP.all own61 [] []) trivial).cons_nil (α := Hd) 61
     obtain rfl := Option.some.inj h
     have hs : Sep [sl61 (L none ([] : List (List Int)) 0) ([] : List Hd), HP.all own61 ([] : List Hd) ([] : List (List Int))] w14 S13 := Sep.pick [0, 1] hs (by decide) rfl
     exact wp_ret (then_ret (retG (rs := [.cell 2 45, .tmp 3]) rfl (hF.sub [(2, B b1 0), (3, .bool false)] (by kernel_rfl)) (hrets rfl) rfl ⟨_, rfl, none, 0, ([] : List Hd), rfl, S13, hM0.out, hs⟩))
   replace h := iteF hb h
   refine (wp_skip (then_normal ?_))
   refine wp_seq (wp_text' ?_)
   refine s_loadBoxS ty45 rfl rfl hF rfl (hs.bx 2 rfl) rfl rfl fun fr hF => ?_
   have hs : Sep [sl61 (L a2 s1r.1 c2) rs2, HP.all own61 rs2 s1r.1, BX b1 45 [I 0, L none ([] : List (List Int)) 0]] w13 S5 := Sep.pick [0, 1, 3] hs (by decide) rfl
   refine q_storeBoxS 2 hs hM0 rfl [I s1r.2, L a2 s1r.1 c2] rfl hF rfl rfl (by kernel_rfl) rfl rfl rfl fun w15 S14 hs hp hF => ?_
   have hM0 := hM0.stp hp
   have hs : Sep [sl61 (L a2 s1r.1 c2) rs2, HP.all own61 rs2 s1r.1, BX b1 45 [I s1r.2, L a2 s1r.1 c2]] w15 S14 := hs
   refine from_pure 1 [(2, B b1 0), (3, .bool true)] hF (by kernel_rfl) fun fr hF => ?_
   refine from_end rfl (then_normal ?_)
   have hrets := fun {σ : List (Nat × Value)} (h : σ = [(2, B b1 0), (3, .bool true)]) => (by subst h; exact (Rets.cell rfl ty45 (hs.bx 2 rfl) rfl rfl (Rets.tmp rfl Rets.nil)) : Rets Tryd.prog σ w15 [.cell 2 45, .tmp 3] [.agg #[I s1r.2, L a2 s1r.1 c2], .bool true])
   obtain rfl := Option.some.inj h
   have hs : Sep [sl61 (L a2 s1r.1 c2) rs2, HP.all own61 rs2 s1r.1] w15 S14 := Sep.pick [0, 1] hs (by decide) rfl
   exact wp_ret (retG (rs := [.cell 2 45, .tmp 3]) rfl (hF.sub [(2, B b1 0), (3, .bool true)] (by kernel_rfl)) (hrets rfl) rfl ⟨_, rfl, a2, c2, rs2, rfl, S14, hM0.out, hs⟩)





theorem strconv_Itoa_ok (p0 : Int) {r : Str} (h : strconv_Itoa p0 = some r) {w : World} {G99 : Nat → Prop} (tb : TX Tryd.prog w G99) :
   Calls Tryd.prog 67 [I p0].toArray w fun e w' => ∃ v, e = .returned v ∧ v = Str.val r ∧ Chg Non w w' := by
 unfold strconv_Itoa at h
 split at h
 · rename_i hl
   obtain rfl := Option.some.inj h
   refine (Tryd.strconv_Itoa p0 hl.1 hl.2 w tb.tab).mono ?_
   rintro e w' ⟨rfl, k, os, rfl⟩
   exact ⟨_, rfl, rfl, chg_grow w k os⟩
 · cases h

theorem impl_ParseInt_ok (p0 : Str) {r : Int × Bool} (h : impl_ParseInt p0 = some r) {w : World} {G99 : Nat → Prop} (tb : TX Tryd.prog w G99) :
   Calls Tryd.prog 55 [Str.val p0].toArray w fun e w' => ∃ v, e = .returned v ∧ v = .tuple #[I r.1, .bool r.2] ∧ Chg Non w w' := by
 unfold impl_ParseInt at h
 have hs := Sep.nil w Non
 have hM0 : Mem w Non (fun k => (G99 k) ∧ k < w.heap.size) w Non (fun k => (G99 k) ∧ k < w.heap.size) := Mem.start (fun _ h => h.elim) (fun _ h => h.2) (fun _ h => h.elim)
 have tb := tb.sub (F' := (fun k => (G99 k) ∧ k < w.heap.size)) (fun k hk h => ⟨h, hk⟩)
 refine enter (N := 20) Tryd.func55 rfl Tryd.ntmps55 rfl fun fr hF => ?_
 refine wp_seq (wp_pure [(0, Str.val p0)] hF (by kernel_rfl) fun fr hF => then_normal ?_)
 refine wp_seq (wp_text' ?_)
 refine from_pure 1 [(0, Str.val p0), (7, Str.val p0)] hF (by kernel_rfl) fun fr hF => ?_
 obtain ⟨x1, hx1, h⟩ := bindE h
 refine s_call [Str.val p0] Tryd.call74 rfl rfl hF rfl (strconv_Atoi_ok p0 hx1 tb) fun v w1 fr hRes hF => ?_
 obtain ⟨u1, rfl, hu1, hc⟩ := hRes
 have tb := tb.ext hc
 have hs := hs.ext hc
 have hM0 := hM0.ext hc
 refine from_pure 5 [(0, Str.val p0), (4, I x1.1), (5, u1)] hF (by kernel_rfl) fun fr hF => ?_
 refine from_end rfl (then_normal ?_)
 refine wp_seq ?_
 refine wp_seq (wp_text' ?_)
 refine from_pure 1 [(0, Str.val p0), (4, I x1.1), (11, u1)] hF (by kernel_rfl) fun fr hF => ?_
 refine s_bin rfl rfl hF rfl rfl (err_guard hu1 _ _ _ _ _) (err_neq Tryd.underlying68 hu1 _) fun fr hF => ?_
 refine from_pure 1 [(0, Str.val p0), (4, I x1.1), (13, .bool x1.2)] hF (by kernel_rfl) fun fr hF => ?_
 rcases ite_split (b := x1.2) h with ⟨hg1, h⟩ | ⟨hg1, h⟩
 · simp only [hg1] at hF
   refine from_skip hF rfl rfl rfl rfl rfl rfl rfl rfl rfl fun fr hF => ?_
   refine from_skip hF rfl rfl rfl rfl rfl rfl rfl rfl rfl fun fr hF => ?_
   refine from_skip hF rfl rfl rfl rfl rfl rfl rfl rfl rfl fun fr hF => ?_
   refine from_skip hF rfl rfl rfl rfl rfl rfl rfl rfl rfl fun fr hF => ?_
   refine from_pick rfl rfl hF rfl rfl fun fr hF => ?_
   refine from_end rfl (then_normal ?_)
   refine (wp_if hF (b := true) rfl (fun hb => ?_) (fun hb => ?_))
   · replace h := iteT hb h
     refine wp_seq (wp_pure [(2, I 0), (3, .bool false)] hF (by kernel_rfl) fun fr hF => then_normal ?_)
     have hrets := fun {σ : List (Nat × Value)} (h : σ = [(2, I 0), (3, .bool false)]) => (by subst h; exact (Rets.tmp rfl (Rets.tmp rfl Rets.nil)) : Rets Tryd.prog σ w1 [.tmp 2, .tmp 3] [I 0, .bool false])
     obtain rfl := Option.some.inj h
     exact wp_ret (then_ret (retG (rs := [.tmp 2, .tmp 3]) rfl (hF.sub [(2, I 0), (3, .bool false)] (by kernel_rfl)) (hrets rfl) rfl ⟨_, rfl, rfl, hM0.chg⟩))
   replace h := iteF hb h
   refine (wp_skip (then_normal ?_))
   refine wp_seq (wp_pure [(2, I x1.1), (3, .bool true)] hF (by kernel_rfl) fun fr hF => then_normal ?_)
   have hrets := fun {σ : List (Nat × Value)} (h : σ = [(2, I x1.1), (3, .bool true)]) => (by subst h; exact (Rets.tmp rfl (Rets.tmp rfl Rets.nil)) : Rets Tryd.prog σ w1 [.tmp 2, .tmp 3] [I x1.1, .bool true])
   obtain rfl := Option.some.inj h
   exact wp_ret (retG (rs := [.tmp 2, .tmp 3]) rfl (hF.sub [(2, I x1.1), (3, .bool true)] (by kernel_rfl)) (hrets rfl) rfl ⟨_, rfl, rfl, hM0.chg⟩)
 simp only [hg1] at hF
 refine from_takeL hF rfl rfl rfl rfl rfl rfl ?_
 dsimp only [List.set]
 refine from_pure 1 [(0, Str.val p0), (4, I x1.1), (13, .bool false), (14, I x1.1)] hF (by kernel_rfl) fun fr hF => ?_
 refine from_takeL hF rfl rfl rfl rfl rfl rfl ?_
 dsimp only [List.set]
 obtain ⟨x2, hx2, h⟩ := bindE h
 refine s_call [I x1.1] Tryd.call67 rfl rfl hF rfl (strconv_Itoa_ok x1.1 hx2 tb) fun v w2 fr hRes hF => ?_
 obtain ⟨rfl, hc⟩ := hRes
 have tb := tb.ext hc
 have hs := hs.ext hc
 have hM0 := hM0.ext hc
 refine from_takeL hF rfl rfl rfl rfl rfl rfl ?_
 dsimp only [List.set]
 refine from_pure 1 [(4, I x1.1), (13, .bool false), (15, Str.val x2), (16, Str.val p0)] hF (by kernel_rfl) fun fr hF => ?_
 refine from_takeL hF rfl rfl rfl rfl rfl rfl ?_
 dsimp only [List.set]
 refine from_pure 1 [(4, I x1.1), (13, .bool false), (17, .bool (!(Str.eqb x2 p0)))] hF (by kernel_rfl) fun fr hF => ?_
 refine from_pick rfl rfl hF rfl rfl fun fr hF => ?_
 refine from_end rfl (then_normal ?_)
 refine (wp_if hF (b := (!(Str.eqb x2 p0))) rfl (fun hb => ?_) (fun hb => ?_))
 · replace h := iteT hb h
   refine wp_seq (wp_pure [(2, I 0), (3, .bool false)] hF (by kernel_rfl) fun fr hF => then_normal ?_)
   have hrets := fun {σ : List (Nat × Value)} (h : σ = [(2, I 0), (3, .bool false)]) => (by subst h; exact (Rets.tmp rfl (Rets.tmp rfl Rets.nil)) : Rets Tryd.prog σ w2 [.tmp 2, .tmp 3] [I 0, .bool false])
   obtain rfl := Option.some.inj h
   exact wp_ret (then_ret (retG (rs := [.tmp 2, .tmp 3]) rfl (hF.sub [(2, I 0), (3, .bool false)] (by kernel_rfl)) (hrets rfl) rfl ⟨_, rfl, rfl, hM0.chg⟩))
 replace h := iteF hb h
 refine (wp_skip (then_normal ?_))
 refine wp_seq (wp_pure [(2, I x1.1), (3, .bool true)] hF (by kernel_rfl) fun fr hF => then_normal ?_)
 have hrets := fun {σ : List (Nat × Value)} (h : σ = [(2, I x1.1), (3, .bool true)]) => (by subst h; exact (Rets.tmp rfl (Rets.tmp rfl Rets.nil)) : Rets Tryd.prog σ w2 [.tmp 2, .tmp 3] [I x1.1, .bool true])
 obtain rfl := Option.some.inj h
 exact wp_ret (retG (rs := [.tmp 2, .tmp 3]) rfl (hF.sub [(2, I x1.1), (3, .bool true)] (by kernel_rfl)) (hrets rfl) rfl ⟨_, rfl, rfl, hM0.chg⟩)

theorem impl_ParseInts_ok (n : Nat) (p0 : Str) {r : (List Int) × Bool} (h : impl_ParseInts n p0 = some r) {w : World} {G99 : Nat → Prop} (tb : TX Tryd.prog w G99) :
   Calls Tryd.prog 56 [Str.val p0].toArray w fun e w' => ∃ v, e = .returned v ∧ ∃ a1 c1, v = .tuple #[L a1 r.1 c1, .bool r.2] ∧ ∃ S', Stp w Non w' S' ∧ Sep [sl3 (L a1 r.1 c1) r.1] w' S' := by
 unfold impl_ParseInts at h
 have hs := Sep.nil w Non
 have hM0 : Mem w Non (fun k => (G99 k) ∧ k < w.heap.size) w Non (fun k => (G99 k) ∧ k < w.heap.size) := Mem.start (fun _ h => h.elim) (fun _ h => h.2) (fun _ h => h.elim)
 have tb := tb.sub (F' := (fun k => (G99 k) ∧ k < w.heap.size)) (fun k hk h => ⟨h, hk⟩)
 refine enter (N := 31) Tryd.func56 rfl Tryd.ntmps56 rfl fun fr hF => ?_
 refine wp_seq (wp_pure [(0, Str.val p0)] hF (by kernel_rfl) fun fr hF => then_normal ?_)
 refine wp_seq ?_
 refine wp_seq (wp_pure [(0, Str.val p0), (10, .bool (Str.eqb p0 (⟨[]⟩)))] hF (by kernel_rfl) fun fr hF => then_normal ?_)
 refine (wp_if hF (b := (Str.eqb p0 (⟨[]⟩))) rfl (fun hb => ?_) (fun hb => ?_))
 · replace h := iteT hb h
   refine wp_seq (wp_pure [(2, L none ([] : List Int) 0), (3, .bool true)] hF (by kernel_rfl) fun fr hF => then_normal ?_)
   have hrets := fun {σ : List (Nat × Value)} (h : σ = [(2, L none ([] : List Int) 0), (3, .bool true)]) => (by subst h; exact (Rets.tmp rfl (Rets.tmp rfl Rets.nil)) : Rets Tryd.prog σ w [.tmp 2, .tmp 3] [L none ([] : List Int) 0, .bool true])
   have hs : Sep [sl3 (L none ([] : List Int) 0) ([] : List Int)] w Non := hs.cons_nil (α := Int) 3
   obtain rfl := Option.some.inj h
   exact wp_ret (then_ret (retG (rs := [.tmp 2, .tmp 3]) rfl (hF.sub [(2, L none ([] : List Int) 0), (3, .bool true)] (by kernel_rfl)) (hrets rfl) rfl ⟨_, rfl, none, 0, rfl, Non, hM0.out, hs⟩))
 replace h := iteF hb h
 refine (wp_skip (then_normal ?_))
 refine wp_seq (wp_pure [(0, Str.val p0), (4, L none ([] : List Int) 0)] hF (by kernel_rfl) fun fr hF => then_normal ?_)
 refine wp_seq ?_
 refine wp_seq (wp_text' ?_)
 refine from_pure 1 [(4, L none ([] : List Int) 0), (11, Str.val p0)] hF (by kernel_rfl) fun fr hF => ?_
 obtain ⟨x1, hx1, h⟩ := bindE h
 refine s_call [Str.val p0, Str.val (⟨[32]⟩)] Tryd.call47 rfl rfl hF rfl (strings_Split_ok p0 (⟨[32]⟩) hx1 tb) fun v w1 fr hRes hF => ?_
 obtain ⟨a1, c1, rfl, _, hp, hs2⟩ := hRes
 obtain ⟨S1, hp, hs⟩ := hs.got hM0 hp hs2
 have tb := tb.stp hM0 hp
 have hM0 := hM0.stp hp
 have hs : Sep [sl9 (L a1 x1 c1) x1] w1 S1 := hs
 refine from_pure 2 [(4, L none ([] : List Int) 0), (12, L a1 x1 c1), (13, I (len x1)), (14, I 0)] hF (by kernel_rfl) fun fr hF => ?_
 refine from_end rfl (then_normal ?_)
 have hs : Sep [sl3 (L none ([] : List Int) 0) ([] : List Int), sl9 (L a1 x1 c1) x1] w1 S1 := hs.cons_nil (α := Int) 3
 obtain ⟨rl1, hit1, h⟩ := bindE h
 have hk1 := h
 refine (GL.wp_cut (M := fun fr w' => ∃ s, rl1 = .inl s ∧ ∃ a3 c3 S3 F2, FrS 31 [(4, L a3 s c3)] fr ∧ Mem w1 S1 (fun k => (G99 k) ∧ k < w.heap.size) w' S3 F2 ∧ Sep [sl3 (L a3 s c3) s] w' S3) (wp_block (wp_iter (Inv := fun s1 fr w' => ∃ a2 c2 S2 F1, FrS 31 [(4, L a2 s1.2 c2), (12, L a1 x1 c1), (13, I (len x1)), (14, I s1.1)] fr ∧ Mem w1 S1 (fun k => (G99 k) ∧ k < w.heap.size) w' S2 F1 ∧ Sep [sl3 (L a2 s1.2 c2) s1.2, sl9 (L a1 x1 c1) x1] w' S2) hit1 ⟨none, 0, S1, _, hF.sub _ (by kernel_rfl), (Mem.start hM0.bd hM0.bdF hM0.dj), hs⟩ fun s1 q1 fr w1i hI h hr1 => ?_)) fun fr w1o hM => ?_)
 · obtain ⟨a2, c2, S2, F1, hF, hM1, hs⟩ := hI
   have tb := tb.mem hM1
   refine wp_seq (wp_pure [(4, L a2 s1.2 c2), (12, L a1 x1 c1), (13, I (len x1)), (14, I s1.1), (15, .bool (decide (s1.1 < (len x1))))] hF (by kernel_rfl) fun fr hF => then_normal ?_)
   refine wp_seq (wp_if hF (b := (decide (s1.1 < (len x1)))) rfl (fun hb => ?_) (fun hb => ?_))
   · replace h := iteT hb h
     refine (wp_skip (then_normal ?_))
     refine wp_seq (wp_block ?_)
     refine wp_seq (wp_text' ?_)
     obtain ⟨x2, hx2, h⟩ := bindE h
     refine s_elemF (z := x2) (Str.val x2) ty9 Tryd.underlying55 rfl rfl rfl rfl rfl hF rfl (hs.rv 1 rfl) rfl (get?_nn hx2) (get?_at hx2) rfl fun p fr hF => ?_
     refine from_pure 1 [(4, L a2 s1.2 c2), (6, Str.val x2), (12, L a1 x1 c1), (13, I (len x1)), (14, I s1.1)] hF (by kernel_rfl) fun fr hF => ?_
     refine from_end rfl (then_normal ?_)
     refine wp_seq (wp_text' ?_)
     refine from_pure 1 [(4, L a2 s1.2 c2), (12, L a1 x1 c1), (13, I (len x1)), (14, I s1.1), (19, Str.val x2)] hF (by kernel_rfl) fun fr hF => ?_
     obtain ⟨x3, hx3, h⟩ := bindE h
     refine s_call [Str.val x2] Tryd.call55 rfl rfl hF rfl (impl_ParseInt_ok x2 hx3 tb) fun v w2 fr hRes hF => ?_
     obtain ⟨rfl, hc⟩ := hRes
     have tb := tb.ext hc
     have hs := hs.ext hc
     have hM1 := hM1.ext hc
     refine from_pure 5 [(4, L a2 s1.2 c2), (7, I x3.1), (8, .bool x3.2), (12, L a1 x1 c1), (13, I (len x1)), (14, I s1.1)] hF (by kernel_rfl) fun fr hF => ?_
     refine from_end rfl (then_normal ?_)
     refine wp_seq ?_
     refine wp_seq (wp_pure [(4, L a2 s1.2 c2), (7, I x3.1), (12, L a1 x1 c1), (13, I (len x1)), (14, I s1.1), (24, .bool (!x3.2))] hF (by kernel_rfl) fun fr hF => then_normal ?_)
     refine (wp_if hF (b := (!x3.2)) rfl (fun hb => ?_) (fun hb => ?_))
     · replace h := iteT hb h
       have hs : Sep [] w2 S2 := Sep.pick [] hs (by decide) rfl
       refine wp_seq (wp_pure [(2, L none ([] : List Int) 0), (3, .bool false)] hF (by kernel_rfl) fun fr hF => then_normal ?_)
       have hrets := fun {σ : List (Nat × Value)} (h : σ = [(2, L none ([] : List Int) 0), (3, .bool false)]) => (by subst h; exact (Rets.tmp rfl (Rets.tmp rfl Rets.nil)) : Rets Tryd.prog σ w2 [.tmp 2, .tmp 3] [L none ([] : List Int) 0, .bool false])
       have hs : Sep [sl3 (L none ([] : List Int) 0) ([] : List Int)] w2 S2 := hs.cons_nil (α := Int) 3
       obtain rfl := hr1 _ (Option.some.inj h).symm
       obtain rfl := Option.some.inj hk1
       exact wp_ret (then_ret (blk_ret (then_ret (then_ret (blk_ret (then_ret (retG (rs := [.tmp 2, .tmp 3]) rfl (hF.sub [(2, L none ([] : List Int) 0), (3, .bool false)] (by kernel_rfl)) (hrets rfl) rfl ⟨_, rfl, none, 0, rfl, S2, (hM0.trans hM1).out, hs⟩)))))))
     replace h := iteF hb h
     refine (wp_skip (then_normal ?_))
     refine (wp_text' ?_)
     refine from_pure 2 [(12, L a1 x1 c1), (13, I (len x1)), (14, I s1.1), (25, L a2 s1.2 c2), (26, I x3.1)] hF (by kernel_rfl) fun fr hF => ?_
     refine q_lit (E := 3) hs hM1 [I x3.1] (([x3.1] : List Int).map Flat.enc) ([x3.1] : List Int) rfl rfl hF [I x3.1] rfl (fun w => by kernel_rfl) (css_flat _) rfl rfl rfl fun a4 c4 w3 S4 fr hs hp hF => ?_
     have tb := tb.stp hM1 hp
     have hM1 := hM1.stp hp
     have hs : Sep [sl3 (L a4 ([x3.1] : List Int) c4) ([x3.1] : List Int), sl3 (L a2 s1.2 c2) s1.2, sl9 (L a1 x1 c1) x1] w3 S4 := hs
     obtain ⟨x4, hx4, h⟩ := bindE h
     refine q_append 1 hs hM1 rfl Tryd.underlying61 el3 rfl rfl rfl hF rfl rfl (hs.rv 0 rfl) hx4 fun a5 c5 w4 S5 fr hs hp hF => ?_
     have tb := tb.stp hM1 hp
     have hM1 := hM1.stp hp
     have hs : Sep [sl3 (L a4 ([x3.1] : List Int) c4) ([x3.1] : List Int), sl3 (L a5 x4 c5) x4, sl9 (L a1 x1 c1) x1] w4 S5 := hs
     have hs : Sep [sl3 (L a5 x4 c5) x4, sl9 (L a1 x1 c1) x1] w4 S5 := Sep.pick [1, 2] hs (by decide) rfl
     refine from_pure 1 [(4, L a5 x4 c5), (12, L a1 x1 c1), (13, I (len x1)), (14, I s1.1)] hF (by kernel_rfl) fun fr hF => ?_
     refine from_end rfl ?_
     refine blk_normal (then_normal ?_)
     refine (wp_pure [(4, L a5 x4 c5), (12, L a1 x1 c1), (13, I (len x1)), (14, I (w64 (s1.1 + 1)))] hF (by kernel_rfl) fun fr hF => then_normal ?_)
     exact ⟨_, (Option.some.inj h).symm, a5, c5, S5, _, hF.sub _ (by kernel_rfl), hM1, hs⟩
   replace h := iteF hb h
   have hs : Sep [sl3 (L a2 s1.2 c2) s1.2] w1i S2 := Sep.pick [0] hs (by decide) rfl
   refine (wp_exit (then_exit (then_exit (blk_exit_eq ?_))))
   obtain rfl := hr1 _ (Option.some.inj h).symm
   exact then_normal ⟨_, rfl, a2, c2, S2, _, hF.sub _ (by kernel_rfl), hM1, hs⟩
 · obtain ⟨s1r, rfl, hM⟩ := hM
   obtain ⟨a3, c3, S3, F2, hF, hMx, hs⟩ := hM
   have tb := tb.mem hMx
   have hM0 := hM0.trans hMx
   refine wp_seq (wp_pure [(2, L a3 s1r c3), (3, .bool true)] hF (by kernel_rfl) fun fr hF => then_normal ?_)
   have hrets := fun {σ : List (Nat × Value)} (h : σ = [(2, L a3 s1r c3), (3, .bool true)]) => (by subst h; exact (Rets.tmp rfl (Rets.tmp rfl Rets.nil)) : Rets Tryd.prog σ w1o [.tmp 2, .tmp 3] [L a3 s1r c3, .bool true])
   obtain rfl := Option.some.inj h
   exact wp_ret (retG (rs := [.tmp 2, .tmp 3]) rfl (hF.sub [(2, L a3 s1r c3), (3, .bool true)] (by kernel_rfl)) (hrets rfl) rfl ⟨_, rfl, a3, c3, rfl, S3, hM0.out, hs⟩)

theorem impl_isLiteral_ok (p0 : Int) (p1 : Int) {r : Bool} (h : impl_isLiteral p0 p1 = some r) {w : World} :
   Calls Tryd.prog 102 [I p0, I p1].toArray w fun e w' => ∃ v, e = .returned v ∧ v = .bool r ∧ Chg Non w w' := by
 unfold impl_isLiteral at h
 have hs := Sep.nil w Non
 have hM0 : Mem w Non (fun k => (False) ∧ k < w.heap.size) w Non (fun k => (False) ∧ k < w.heap.size) := Mem.start (fun _ h => h.elim) (fun _ h => h.2) (fun _ h => h.elim)
 refine enter (N := 18) Tryd.func102 rfl Tryd.ntmps102 rfl fun fr hF => ?_
 refine wp_seq (wp_pure [(0, I p0), (1, I p1)] hF (by kernel_rfl) fun fr hF => then_normal ?_)
 refine wp_seq (region_b [] [true, true, true, true, true, true, true, true, true, true, true, true, true, true]
     [.eq (I p0), .eq (.bool (p0 != 0)), .eq (.bool (p0 != 0)), .eq (I p0), .eq (I p1), .eq (I (w64 (0 - p1))), .eq (.bool (decide (p0 ≥ (w64 (0 - p1))))), .eq (.bool ((p0 != 0) && (decide (p0 ≥ (w64 (0 - p1)))))), .eq (.bool ((p0 != 0) && (decide (p0 ≥ (w64 (0 - p1)))))), .eq (I p0), .eq (I p1), .eq (.bool (decide (p0 ≤ p1))), .eq (.bool (((p0 != 0) && (decide (p0 ≥ (w64 (0 - p1))))) && (decide (p0 ≤ p1)))), .eq (.bool (((p0 != 0) && (decide (p0 ≥ (w64 (0 - p1))))) && (decide (p0 ≤ p1))))]
     [(4, .bool (((p0 != 0) && (decide (p0 ≥ (w64 (0 - p1))))) && (decide (p0 ≤ p1))))] mix hF (by kernel_rfl) (by kernel_rfl) (by kernel_rfl) trivial (fun hG => trivial) (by kernel_rfl) fun fr w1 hF hE hc => then_normal ?_)
 have hs := hs.ext hc
 have hM0 := hM0.ext hc
 obtain rfl := Option.some.inj h
 exact wp_ret (ret1 rfl hF rfl ⟨_, rfl, rfl, hM0.chg⟩)

theorem impl_literalsOk_ok (n : Nat) (p0 : List Int) (p1 : Int) {r : Bool} (h : impl_literalsOk n p0 p1 = some r) {w : World} {G0 : Nat → Prop} {va0 : Value} (ra0 : RV w G0 va0 p0) :
   Calls Tryd.prog 89 [va0, I p1].toArray w fun e w' => ∃ v, e = .returned v ∧ v = .bool r ∧ Chg Non w w' := by
 unfold impl_literalsOk at h
 have hs := Sep.nil w Non
 have hM0 : Mem w Non (fun k => (G0 k) ∧ k < w.heap.size) w Non (fun k => (G0 k) ∧ k < w.heap.size) := Mem.start (fun _ h => h.elim) (fun _ h => h.2) (fun _ h => h.elim)
 have ra0 := ra0.sub (F' := (fun k => (G0 k) ∧ k < w.heap.size)) (fun k hk h => ⟨h, hk⟩)
 obtain ⟨a1, c1, rfl, -⟩ := ra0.slice
 refine enter (N := 18) Tryd.func89 rfl Tryd.ntmps89 rfl fun fr hF => ?_
 refine wp_seq (wp_pure [(0, L a1 p0 c1), (1, I p1)] hF (by kernel_rfl) fun fr hF => then_normal ?_)
 refine wp_seq ?_
 refine wp_seq (wp_pure [(1, I p1), (7, L a1 p0 c1), (8, I (len p0)), (9, I 0)] hF (by kernel_rfl) fun fr hF => then_normal ?_)
 obtain ⟨rl1, hit1, h⟩ := bindE h
 have hk1 := h
 refine (GL.wp_cut (M := fun fr w' => ∃ s, rl1 = .inl s ∧ ∃ S2 F2, FrS 18 [] fr ∧ Mem w Non (fun k => (G0 k) ∧ k < w.heap.size) w' S2 F2 ∧ Sep [] w' S2) (wp_block (wp_iter (Inv := fun s1 fr w' => ∃ S1 F1, FrS 18 [(1, I p1), (7, L a1 p0 c1), (8, I (len p0)), (9, I s1)] fr ∧ Mem w Non (fun k => (G0 k) ∧ k < w.heap.size) w' S1 F1 ∧ Sep [] w' S1) hit1 ⟨Non, _, hF.sub _ (by kernel_rfl), (Mem.start hM0.bd hM0.bdF hM0.dj), hs⟩ fun s1 q1 fr w1i hI h hr1 => ?_)) fun fr w1o hM => ?_)
 · obtain ⟨S1, F1, hF, hM1, hs⟩ := hI
   have ra0 := ra0.mem hM1
   refine wp_seq (wp_pure [(1, I p1), (7, L a1 p0 c1), (8, I (len p0)), (9, I s1), (10, .bool (decide (s1 < (len p0))))] hF (by kernel_rfl) fun fr hF => then_normal ?_)
   refine wp_seq (wp_if hF (b := (decide (s1 < (len p0)))) rfl (fun hb => ?_) (fun hb => ?_))
   · replace h := iteT hb h
     refine (wp_skip (then_normal ?_))
     refine wp_seq (wp_block ?_)
     refine wp_seq (wp_text' ?_)
     obtain ⟨x1, hx1, h⟩ := bindE h
     refine s_elemF (z := x1) (I x1) ty3 Tryd.underlying61 rfl rfl rfl rfl rfl hF rfl (ra0) rfl (get?_nn hx1) (get?_at hx1) rfl fun p fr hF => ?_
     refine from_pure 1 [(1, I p1), (6, I x1), (7, L a1 p0 c1), (8, I (len p0)), (9, I s1)] hF (by kernel_rfl) fun fr hF => ?_
     refine from_end rfl (then_normal ?_)
     refine wp_seq (wp_text' ?_)
     refine from_pure 2 [(1, I p1), (7, L a1 p0 c1), (8, I (len p0)), (9, I s1), (13, I x1), (14, I p1)] hF (by kernel_rfl) fun fr hF => ?_
     obtain ⟨x2, hx2, h⟩ := bindE h
     refine s_call [I x1, I p1] Tryd.call102 rfl rfl hF rfl (impl_isLiteral_ok x1 p1 hx2) fun v w1 fr hRes hF => ?_
     obtain ⟨rfl, hc⟩ := hRes
     have ra0 := ra0.ext hc
     have hs := hs.ext hc
     have hM1 := hM1.ext hc
     refine from_pure 1 [(1, I p1), (7, L a1 p0 c1), (8, I (len p0)), (9, I s1), (16, .bool (!x2))] hF (by kernel_rfl) fun fr hF => ?_
     refine from_end rfl (then_normal ?_)
     refine (wp_if hF (b := (!x2)) rfl (fun hb => ?_) (fun hb => ?_))
     · replace h := iteT hb h
       refine wp_seq (wp_pure [(4, .bool false)] hF (by kernel_rfl) fun fr hF => then_normal ?_)
       obtain rfl := hr1 _ (Option.some.inj h).symm
       obtain rfl := Option.some.inj hk1
       exact wp_ret (blk_ret (then_ret (then_ret (blk_ret (then_ret (ret1 rfl hF rfl ⟨_, rfl, rfl, (hM0.trans hM1).chg⟩))))))
     replace h := iteF hb h
     refine (wp_skip ?_)
     refine blk_normal (then_normal ?_)
     refine (wp_pure [(1, I p1), (7, L a1 p0 c1), (8, I (len p0)), (9, I (w64 (s1 + 1)))] hF (by kernel_rfl) fun fr hF => then_normal ?_)
     exact ⟨_, (Option.some.inj h).symm, S1, _, hF.sub _ (by kernel_rfl), hM1, hs⟩
   replace h := iteF hb h
   refine (wp_exit (then_exit (then_exit (blk_exit_eq ?_))))
   obtain rfl := hr1 _ (Option.some.inj h).symm
   exact then_normal ⟨_, rfl, S1, _, hF.sub _ (by kernel_rfl), hM1, hs⟩
 · obtain ⟨s1r, rfl, hM⟩ := hM
   obtain ⟨S2, F2, hF, hMx, hs⟩ := hM
   have hM0 := hM0.trans hMx
   refine wp_seq (wp_pure [(4, .bool true)] hF (by kernel_rfl) fun fr hF => then_normal ?_)
   obtain rfl := Option.some.inj h
   exact wp_ret (ret1 rfl hF rfl ⟨_, rfl, rfl, hM0.chg⟩)

theorem impl_varOf_ok (p0 : Int) {r : Int} (h : impl_varOf p0 = some r) {w : World} :
   Calls Tryd.prog 90 [I p0].toArray w fun e w' => ∃ v, e = .returned v ∧ v = I r ∧ Chg Non w w' := by
 unfold impl_varOf at h
 have hs := Sep.nil w Non
 have hM0 : Mem w Non (fun k => (False) ∧ k < w.heap.size) w Non (fun k => (False) ∧ k < w.heap.size) := Mem.start (fun _ h => h.elim) (fun _ h => h.2) (fun _ h => h.elim)
 refine enter (N := 8) Tryd.func90 rfl Tryd.ntmps90 rfl fun fr hF => ?_
 refine wp_seq (wp_pure [(0, I p0)] hF (by kernel_rfl) fun fr hF => then_normal ?_)
 refine wp_seq ?_
 refine wp_seq (wp_pure [(0, I p0), (4, .bool (decide (p0 < 0)))] hF (by kernel_rfl) fun fr hF => then_normal ?_)
 refine (wp_if hF (b := (decide (p0 < 0))) rfl (fun hb => ?_) (fun hb => ?_))
 · replace h := iteT hb h
   refine wp_seq (wp_pure [(2, I (w64 (0 - p0)))] hF (by kernel_rfl) fun fr hF => then_normal ?_)
   obtain rfl := Option.some.inj h
   exact wp_ret (then_ret (ret1 rfl hF rfl ⟨_, rfl, rfl, hM0.chg⟩))
 replace h := iteF hb h
 refine (wp_skip (then_normal ?_))
 refine wp_seq (wp_pure [(2, I p0)] hF (by kernel_rfl) fun fr hF => then_normal ?_)
 obtain rfl := Option.some.inj h
 exact wp_ret (ret1 rfl hF rfl ⟨_, rfl, rfl, hM0.chg⟩)

theorem impl_clauseOk_ok (n : Nat) (p0 : List Int) (p1 : Int) {r : Bool} (h : impl_clauseOk n p0 p1 = some r) {w : World} {G0 : Nat → Prop} {va0 : Value} (ra0 : RV w G0 va0 p0) :
   Calls Tryd.prog 75 [va0, I p1].toArray w fun e w' => ∃ v, e = .returned v ∧ v = .bool r ∧ Chg Non w w' := by
 unfold impl_clauseOk at h
 have hs := Sep.nil w Non
 have hM0 : Mem w Non (fun k => (G0 k) ∧ k < w.heap.size) w Non (fun k => (G0 k) ∧ k < w.heap.size) := Mem.start (fun _ h => h.elim) (fun _ h => h.2) (fun _ h => h.elim)
 have ra0 := ra0.sub (F' := (fun k => (G0 k) ∧ k < w.heap.size)) (fun k hk h => ⟨h, hk⟩)
 obtain ⟨a1, c1, rfl, -⟩ := ra0.slice
 refine enter (N := 28) Tryd.func75 rfl Tryd.ntmps75 rfl fun fr hF => ?_
 refine wp_seq (wp_pure [(0, L a1 p0 c1), (1, I p1)] hF (by kernel_rfl) fun fr hF => then_normal ?_)
 refine wp_seq ?_
 refine wp_seq (wp_text' ?_)
 refine from_pure 2 [(0, L a1 p0 c1), (6, L a1 p0 c1), (7, I p1)] hF (by kernel_rfl) fun fr hF => ?_
 obtain ⟨x1, hx1, h⟩ := bindE h
 refine s_call [L a1 p0 c1, I p1] Tryd.call89 rfl rfl hF rfl (impl_literalsOk_ok n p0 p1 hx1 (ra0)) fun v w1 fr hRes hF => ?_
 obtain ⟨rfl, hc⟩ := hRes
 have ra0 := ra0.ext hc
 have hs := hs.ext hc
 have hM0 := hM0.ext hc
 refine from_pure 1 [(0, L a1 p0 c1), (9, .bool (!x1))] hF (by kernel_rfl) fun fr hF => ?_
 refine from_end rfl (then_normal ?_)
 refine (wp_if hF (b := (!x1)) rfl (fun hb => ?_) (fun hb => ?_))
 · replace h := iteT hb h
   refine wp_seq (wp_pure [(4, .bool false)] hF (by kernel_rfl) fun fr hF => then_normal ?_)
   obtain rfl := Option.some.inj h
   exact wp_ret (then_ret (ret1 rfl hF rfl ⟨_, rfl, rfl, hM0.chg⟩))
 replace h := iteF hb h
 refine (wp_skip (then_normal ?_))
 refine wp_seq ?_
 refine wp_seq (wp_pure [(0, L a1 p0 c1), (5, I 1)] hF (by kernel_rfl) fun fr hF => then_normal ?_)
 obtain ⟨rl1, hit1, h⟩ := bindE h
 have hk1 := h
 refine (GL.wp_cut (M := fun fr w' => ∃ s, rl1 = .inl s ∧ ∃ S2 F2, FrS 28 [] fr ∧ Mem w1 Non (fun k => (G0 k) ∧ k < w.heap.size) w' S2 F2 ∧ Sep [] w' S2) (wp_block (wp_iter (Inv := fun s1 fr w' => ∃ S1 F1, FrS 28 [(0, L a1 p0 c1), (5, I s1)] fr ∧ Mem w1 Non (fun k => (G0 k) ∧ k < w.heap.size) w' S1 F1 ∧ Sep [] w' S1) hit1 ⟨Non, _, hF.sub _ (by kernel_rfl), (Mem.start hM0.bd hM0.bdF hM0.dj), hs⟩ fun s1 q1 fr w1i hI h hr1 => ?_)) fun fr w1o hM => ?_)
 · obtain ⟨S1, F1, hF, hM1, hs⟩ := hI
   have ra0 := ra0.mem hM1
   refine wp_seq ?_
   refine wp_seq (wp_pure [(0, L a1 p0 c1), (5, I s1), (13, .bool (decide (s1 < (len p0))))] hF (by kernel_rfl) fun fr hF => then_normal ?_)
   refine (wp_if hF (b := (decide (s1 < (len p0)))) rfl (fun hb => ?_) (fun hb => ?_))
   · replace h := iteT hb h
     refine (wp_skip (then_normal ?_))
     refine wp_seq (wp_block ?_)
     obtain ⟨x2, hx2, h⟩ := bindE h
     obtain ⟨x3, hx3, h⟩ := bindE h
     obtain ⟨x4, hx4, h⟩ := bindE h
     obtain ⟨x5, hx5, h⟩ := bindE h
     refine wp_seq (region_bm 12 [0, 0, 2, 7, 15, 31, 0, 0, 192, 448, 1023, 2047] [true, true, true, false, false, false, true, true, false, false, false, true]
         [.eq (L a1 p0 c1), .eq (I s1), .eq (I (w64 (s1 - 1))), .is fun v w => ElemP w (fun k => k < w1i.heap.size) v (x2 : Int), .eq (I x2), .eq (I x3), .eq (L a1 p0 c1), .eq (I s1), .is fun v w => ElemP w (fun k => k < w1i.heap.size) v (x4 : Int), .eq (I x4), .eq (I x5), .eq (.bool (decide (x3 ≥ x5)))]
         [(0, L a1 p0 c1), (5, I s1), (27, .bool (decide (x3 ≥ x5)))] mix hF (by kernel_rfl) (by kernel_rfl) (by kernel_rfl) (by kernel_rfl) ⟨(Pd.monoO_is mono_elem), Pd.monoO_eq, Pd.monoO_eq, (Pd.monoO_is mono_elem), Pd.monoO_eq, Pd.monoO_eq, trivial⟩ (fun ow hG => ⟨np_to ow (np_index hG hF ty3 Tryd.underlying61 rfl rfl (RV.sub (ra0) fun k hk _ => hk) rfl rfl (fun hg => ⟨get?_nn hx2, get?_at hx2⟩)), np_to ow (np_loadF (z := x2) (i := 3) hG hF ty3 rfl rfl rfl rfl rfl rfl rfl), np_to ow (np_call [I x2] hG hF Tryd.call90 rfl rfl (fun w hC hg => (impl_varOf_ok x2 hx3).mono fun e w' ⟨v, he, hv, hc⟩ => ⟨v, he, hc, hv⟩)), np_to ow (np_index hG hF ty3 Tryd.underlying61 rfl rfl (RV.sub (ra0) fun k hk _ => hk) rfl rfl (fun hg => ⟨get?_nn hx4, get?_at hx4⟩)), np_to ow (np_loadF (z := x4) (i := 8) hG hF ty3 rfl rfl rfl rfl rfl rfl rfl), np_to ow (np_call [I x4] hG hF Tryd.call90 rfl rfl (fun w hC hg => (impl_varOf_ok x4 hx5).mono fun e w' ⟨v, he, hv, hc⟩ => ⟨v, he, hc, hv⟩)), trivial⟩) (by kernel_rfl) fun ow fr w2 hF hE hc => ?_)
     have ra0 := ra0.ext hc
     have hs := hs.ext hc
     have hM1 := hM1.ext hc
     refine from_end rfl (then_normal ?_)
     refine (wp_if hF (b := (decide (x3 ≥ x5))) rfl (fun hb => ?_) (fun hb => ?_))
     · replace h := iteT hb h
       refine wp_seq (wp_pure [(4, .bool false)] hF (by kernel_rfl) fun fr hF => then_normal ?_)
       obtain rfl := hr1 _ (Option.some.inj h).symm
       obtain rfl := Option.some.inj hk1
       exact wp_ret (blk_ret (then_ret (then_ret (blk_ret (then_ret (ret1 rfl hF rfl ⟨_, rfl, rfl, (hM0.trans hM1).chg⟩))))))
     replace h := iteF hb h
     refine (wp_skip ?_)
     refine blk_normal (then_normal ?_)
     refine (wp_pure [(0, L a1 p0 c1), (5, I (w64 (s1 + 1)))] hF (by kernel_rfl) fun fr hF => then_normal ?_)
     exact ⟨_, (Option.some.inj h).symm, S1, _, hF.sub _ (by kernel_rfl), hM1, hs⟩
   replace h := iteF hb h
   refine (wp_exit (then_exit (then_exit (blk_exit_eq ?_))))
   obtain rfl := hr1 _ (Option.some.inj h).symm
   exact then_normal ⟨_, rfl, S1, _, hF.sub _ (by kernel_rfl), hM1, hs⟩
 · obtain ⟨s1r, rfl, hM⟩ := hM
   obtain ⟨S2, F2, hF, hMx, hs⟩ := hM
   have hM0 := hM0.trans hMx
   refine wp_seq (wp_pure [(4, .bool true)] hF (by kernel_rfl) fun fr hF => then_normal ?_)
   obtain rfl := Option.some.inj h
   exact wp_ret (ret1 rfl hF rfl ⟨_, rfl, rfl, hM0.chg⟩)

theorem impl_FormulaOk_ok (n : Nat) (p0 : D.Formula) {r : Bool} (h : impl_FormulaOk n p0 = some r) {w : World} {G0 : Nat → Prop} {va0 : Value} (ra0 : RV w G0 va0 p0) :
   Calls Tryd.prog 57 [va0].toArray w fun e w' => ∃ v, e = .returned v ∧ v = .bool r ∧ Chg Non w w' := by
 unfold impl_FormulaOk at h
 have hs := Sep.nil w Non
 have hM0 : Mem w Non (fun k => (G0 k) ∧ k < w.heap.size) w Non (fun k => (G0 k) ∧ k < w.heap.size) := Mem.start (fun _ h => h.elim) (fun _ h => h.2) (fun _ h => h.elim)
 have ra0 := ra0.sub (F' := (fun k => (G0 k) ∧ k < w.heap.size)) (fun k hk h => ⟨h, hk⟩)
 obtain ⟨v1, rfl, r1⟩ := RV.Formula ra0
 obtain ⟨a1, c1, rfl, -⟩ := r1.slice
 refine enter (N := 32) Tryd.func57 rfl Tryd.ntmps57 rfl fun fr hF => ?_
 refine wp_seq (wp_text' ?_)
 refine q_box hs hM0 [I p0.Vars, L a1 p0.Clauses c1] rfl rfl hF rfl rfl fun b1 w1 S1 fr hs hp hF => ?_
 have r1 := r1.stp hM0 hp
 have hM0 := hM0.stp hp
 have hs : Sep [BX b1 45 [I p0.Vars, L a1 p0.Clauses c1]] w1 S1 := hs
 refine from_pure 1 [(1, B b1 0)] hF (by kernel_rfl) fun fr hF => ?_
 refine from_end rfl (then_normal ?_)
 refine wp_seq ?_
 refine wp_seq (region_b [] [true, false, true, true, true, false, true, true, true, true, false, true, true, true]
     [.eq (B b1 0), .eq (I p0.Vars), .eq (.bool (decide (p0.Vars < 0))), .eq (.bool (decide (p0.Vars < 0))), .eq (B b1 0), .eq (I p0.Vars), .eq (.bool (decide (p0.Vars > 400))), .eq (.bool ((decide (p0.Vars < 0)) || (decide (p0.Vars > 400)))), .eq (.bool ((decide (p0.Vars < 0)) || (decide (p0.Vars > 400)))), .eq (B b1 1), .eq (L a1 p0.Clauses c1), .eq (I (len p0.Clauses)), .eq (.bool (decide ((len p0.Clauses) > 1600))), .eq (.bool (((decide (p0.Vars < 0)) || (decide (p0.Vars > 400))) || (decide ((len p0.Clauses) > 1600))))]
     [(1, B b1 0), (18, .bool (((decide (p0.Vars < 0)) || (decide (p0.Vars > 400))) || (decide ((len p0.Clauses) > 1600))))] mix hF (by kernel_rfl) (by kernel_rfl) (by kernel_rfl) ⟨Pd.mono_eq, Pd.mono_eq, Pd.mono_eq, trivial⟩ (fun hG => ⟨np_loadBox hG hF ty3 rfl rfl (hs.bx 0 rfl) rfl rfl rfl, np_loadBox hG hF ty3 rfl rfl (hs.bx 0 rfl) rfl rfl rfl, np_loadBox hG hF ty43 rfl rfl (hs.bx 0 rfl) rfl rfl rfl, trivial⟩) (by kernel_rfl) fun fr w2 hF hE hc => then_normal ?_)
 have r1 := r1.ext hc
 have hs := hs.ext hc
 have hM0 := hM0.ext hc
 refine (wp_if hF (b := (((decide (p0.Vars < 0)) || (decide (p0.Vars > 400))) || (decide ((len p0.Clauses) > 1600)))) rfl (fun hb => ?_) (fun hb => ?_))
 · replace h := iteT hb h
   have hs : Sep [] w2 S1 := Sep.pick [] hs (by decide) rfl
   refine wp_seq (wp_pure [(2, .bool false)] hF (by kernel_rfl) fun fr hF => then_normal ?_)
   obtain rfl := Option.some.inj h
   exact wp_ret (then_ret (ret1 rfl hF rfl ⟨_, rfl, rfl, hM0.chg⟩))
 replace h := iteF hb h
 refine (wp_skip (then_normal ?_))
 refine wp_seq ?_
 refine wp_seq (wp_text' ?_)
 refine from_pure 1 [(1, B b1 0), (19, B b1 1)] hF (by kernel_rfl) fun fr hF => ?_
 refine s_loadBox (L a1 p0.Clauses c1) ty43 rfl rfl hF rfl (hs.bx 0 rfl) rfl rfl fun fr hF => ?_
 refine from_pure 2 [(1, B b1 0), (20, L a1 p0.Clauses c1), (21, I (len p0.Clauses)), (22, I 0)] hF (by kernel_rfl) fun fr hF => ?_
 refine from_end rfl (then_normal ?_)
 obtain ⟨rl1, hit1, h⟩ := bindE h
 have hk1 := h
 refine (GL.wp_cut (M := fun fr w' => ∃ s, rl1 = .inl s ∧ ∃ S3 F2, FrS 32 [] fr ∧ Mem w2 S1 (fun k => (G0 k) ∧ k < w.heap.size) w' S3 F2 ∧ Sep [] w' S3) (wp_block (wp_iter (Inv := fun s1 fr w' => ∃ S2 F1, FrS 32 [(1, B b1 0), (20, L a1 p0.Clauses c1), (21, I (len p0.Clauses)), (22, I s1)] fr ∧ Mem w2 S1 (fun k => (G0 k) ∧ k < w.heap.size) w' S2 F1 ∧ Sep [BX b1 45 [I p0.Vars, L a1 p0.Clauses c1]] w' S2) hit1 ⟨S1, _, hF.sub _ (by kernel_rfl), (Mem.start hM0.bd hM0.bdF hM0.dj), hs⟩ fun s1 q1 fr w1i hI h hr1 => ?_)) fun fr w1o hM => ?_)
 · obtain ⟨S2, F1, hF, hM1, hs⟩ := hI
   have r1 := r1.mem hM1
   refine wp_seq (wp_pure [(1, B b1 0), (20, L a1 p0.Clauses c1), (21, I (len p0.Clauses)), (22, I s1), (23, .bool (decide (s1 < (len p0.Clauses))))] hF (by kernel_rfl) fun fr hF => then_normal ?_)
   refine wp_seq (wp_if hF (b := (decide (s1 < (len p0.Clauses)))) rfl (fun hb => ?_) (fun hb => ?_))
   · replace h := iteT hb h
     refine (wp_skip (then_normal ?_))
     refine wp_seq (wp_block ?_)
     refine wp_seq (wp_text' ?_)
     obtain ⟨x1, hx1, h⟩ := bindE h
     refine s_elem (z := x1) ty61 Tryd.underlying43 rfl rfl rfl rfl rfl hF rfl (r1) rfl (get?_nn hx1) (get?_at hx1) fun p v2 fr r2 hF => ?_
     obtain ⟨a2, c2, rfl, -⟩ := r2.slice
     refine from_pure 1 [(1, B b1 0), (4, L a2 x1 c2), (20, L a1 p0.Clauses c1), (21, I (len p0.Clauses)), (22, I s1)] hF (by kernel_rfl) fun fr hF => ?_
     refine from_end rfl (then_normal ?_)
     refine wp_seq (wp_text' ?_)
     refine from_pure 2 [(1, B b1 0), (20, L a1 p0.Clauses c1), (21, I (len p0.Clauses)), (22, I s1), (26, L a2 x1 c2), (27, B b1 0)] hF (by kernel_rfl) fun fr hF => ?_
     refine s_loadBox (I p0.Vars) ty3 rfl rfl hF rfl (hs.bx 0 rfl) rfl rfl fun fr hF => ?_
     obtain ⟨x2, hx2, h⟩ := bindE h
     refine s_call [L a2 x1 c2, I p0.Vars] Tryd.call75 rfl rfl hF rfl (impl_clauseOk_ok n x1 p0.Vars hx2 (r2)) fun v w3 fr hRes hF => ?_
     obtain ⟨rfl, hc⟩ := hRes
     have r1 := r1.ext hc
     have r2 := r2.ext hc
     have hs := hs.ext hc
     have hM1 := hM1.ext hc
     refine from_pure 1 [(1, B b1 0), (20, L a1 p0.Clauses c1), (21, I (len p0.Clauses)), (22, I s1), (30, .bool (!x2))] hF (by kernel_rfl) fun fr hF => ?_
     refine from_end rfl (then_normal ?_)
     refine (wp_if hF (b := (!x2)) rfl (fun hb => ?_) (fun hb => ?_))
     · replace h := iteT hb h
       have hs : Sep [] w3 S2 := Sep.pick [] hs (by decide) rfl
       refine wp_seq (wp_pure [(2, .bool false)] hF (by kernel_rfl) fun fr hF => then_normal ?_)
       obtain rfl := hr1 _ (Option.some.inj h).symm
       obtain rfl := Option.some.inj hk1
       exact wp_ret (blk_ret (then_ret (then_ret (blk_ret (then_ret (ret1 rfl hF rfl ⟨_, rfl, rfl, (hM0.trans hM1).chg⟩))))))
     replace h := iteF hb h
     refine (wp_skip ?_)
     refine blk_normal (then_normal ?_)
     refine (wp_pure [(1, B b1 0), (20, L a1 p0.Clauses c1), (21, I (len p0.Clauses)), (22, I (w64 (s1 + 1)))] hF (by kernel_rfl) fun fr hF => then_normal ?_)
     exact ⟨_, (Option.some.inj h).symm, S2, _, hF.sub _ (by kernel_rfl), hM1, hs⟩
   replace h := iteF hb h
   have hs : Sep [] w1i S2 := Sep.pick [] hs (by decide) rfl
   refine (wp_exit (then_exit (then_exit (blk_exit_eq ?_))))
   obtain rfl := hr1 _ (Option.some.inj h).symm
   exact then_normal ⟨_, rfl, S2, _, hF.sub _ (by kernel_rfl), hM1, hs⟩
 · obtain ⟨s1r, rfl, hM⟩ := hM
   obtain ⟨S3, F2, hF, hMx, hs⟩ := hM
   have hM0 := hM0.trans hMx
   refine wp_seq (wp_pure [(2, .bool true)] hF (by kernel_rfl) fun fr hF => then_normal ?_)
   obtain rfl := Option.some.inj h
   exact wp_ret (ret1 rfl hF rfl ⟨_, rfl, rfl, hM0.chg⟩)

theorem impl_FormatInt_ok (p0 : Int) {r : Str} (h : impl_FormatInt p0 = some r) {w : World} {G99 : Nat → Prop} (tb : TX Tryd.prog w G99) :
   Calls Tryd.prog 34 [I p0].toArray w fun e w' => ∃ v, e = .returned v ∧ v = Str.val r ∧ Chg Non w w' := by
 unfold impl_FormatInt at h
 have hs := Sep.nil w Non
 have hM0 : Mem w Non (fun k => (G99 k) ∧ k < w.heap.size) w Non (fun k => (G99 k) ∧ k < w.heap.size) := Mem.start (fun _ h => h.elim) (fun _ h => h.2) (fun _ h => h.elim)
 have tb := tb.sub (F' := (fun k => (G99 k) ∧ k < w.heap.size)) (fun k hk h => ⟨h, hk⟩)
 refine enter (N := 5) Tryd.func34 rfl Tryd.ntmps34 rfl fun fr hF => ?_
 refine wp_seq (wp_pure [(0, I p0)] hF (by kernel_rfl) fun fr hF => then_normal ?_)
 refine wp_seq (wp_text' ?_)
 refine from_pure 1 [(3, I p0)] hF (by kernel_rfl) fun fr hF => ?_
 obtain ⟨x1, hx1, h⟩ := bindE h
 refine s_call [I p0] Tryd.call67 rfl rfl hF rfl (strconv_Itoa_ok p0 hx1 tb) fun v w1 fr hRes hF => ?_
 obtain ⟨rfl, hc⟩ := hRes
 have tb := tb.ext hc
 have hs := hs.ext hc
 have hM0 := hM0.ext hc
 refine from_pure 1 [(2, Str.val x1)] hF (by kernel_rfl) fun fr hF => ?_
 refine from_end rfl (then_normal ?_)
 obtain rfl := Option.some.inj h
 exact wp_ret (ret1 rfl hF rfl ⟨_, rfl, rfl, hM0.chg⟩)





theorem impl_FormatInts_ok (n : Nat) (p0 : List Int) {r : Str} (h : impl_FormatInts n p0 = some r) {w : World} {G0 : Nat → Prop} {va0 : Value} (ra0 : RV w G0 va0 p0) {G99 : Nat → Prop} (tb : TX Tryd.prog w G99) :
   Calls Tryd.prog 41 [va0].toArray w fun e w' => ∃ v, e = .returned v ∧ v = Str.val r ∧ Chg Non w w' := by
 unfold impl_FormatInts at h
 have hs := Sep.nil w Non
 have hM0 : Mem w Non (fun k => (G0 k ∨ G99 k) ∧ k < w.heap.size) w Non (fun k => (G0 k ∨ G99 k) ∧ k < w.heap.size) := Mem.start (fun _ h => h.elim) (fun _ h => h.2) (fun _ h => h.elim)
 have ra0 := ra0.sub (F' := (fun k => (G0 k ∨ G99 k) ∧ k < w.heap.size)) (fun k hk h => ⟨.inl h, hk⟩)
 obtain ⟨a1, c1, rfl, -⟩ := ra0.slice
 have tb := tb.sub (F' := (fun k => (G0 k ∨ G99 k) ∧ k < w.heap.size)) (fun k hk h => ⟨.inr (h), hk⟩)
 refine enter (N := 24) Tryd.func41 rfl Tryd.ntmps41 rfl fun fr hF => ?_
 refine wp_seq (wp_pure [(0, L a1 p0 c1)] hF (by kernel_rfl) fun fr hF => then_normal ?_)
 refine wp_seq (wp_text' ?_)
 refine from_pure 2 [(0, L a1 p0 c1), (7, I (len p0))] hF (by kernel_rfl) fun fr hF => ?_
 obtain ⟨x1, hx1, h⟩ := bindE h
 refine q_make hs hM0 Tryd.underlying55 el9 (zero_flat _ (by kernel_rfl)) rfl rfl hF rfl rfl hx1 fun a2 c2 w1 S1 fr hs hp hF => ?_
 have tb := tb.stp hM0 hp
 have ra0 := ra0.stp hM0 hp
 have hM0 := hM0.stp hp
 have hs : Sep [sl9 (L a2 x1 c2) x1] w1 S1 := hs
 refine from_pure 1 [(0, L a1 p0 c1), (3, L a2 x1 c2)] hF (by kernel_rfl) fun fr hF => ?_
 refine from_end rfl (then_normal ?_)
 refine wp_seq ?_
 refine wp_seq (wp_pure [(3, L a2 x1 c2), (9, L a1 p0 c1), (10, I (len p0)), (11, I 0)] hF (by kernel_rfl) fun fr hF => then_normal ?_)
 obtain ⟨rl1, hit1, h⟩ := bindE h
 have hk1 := h
 refine (GL.wp_cut (M := fun fr w' => ∃ S3 F2, FrS 24 [(3, L a2 x1 c2)] fr ∧ Mem w1 S1 (fun k => (G0 k ∨ G99 k) ∧ k < w.heap.size) w' S3 F2 ∧ Sep [sl9 (L a2 x1 c2) rl1] w' S3) (wp_block (wp_iter (Inv := fun s1 fr w' => ∃ S2 F1, FrS 24 [(3, L a2 x1 c2), (9, L a1 p0 c1), (10, I (len p0)), (11, I s1.1)] fr ∧ Mem w1 S1 (fun k => (G0 k ∨ G99 k) ∧ k < w.heap.size) w' S2 F1 ∧ Sep [sl9 (L a2 x1 c2) s1.2] w' S2) hit1 ⟨S1, _, hF.sub _ (by kernel_rfl), (Mem.start hM0.bd hM0.bdF hM0.dj), hs⟩ fun s1 q1 fr w1i hI h hr1 => ?_)) fun fr w1o hM => ?_)
 · obtain ⟨S2, F1, hF, hM1, hs⟩ := hI
   have tb := tb.mem hM1
   have ra0 := ra0.mem hM1
   refine wp_seq (wp_pure [(3, L a2 x1 c2), (9, L a1 p0 c1), (10, I (len p0)), (11, I s1.1), (12, .bool (decide (s1.1 < (len p0))))] hF (by kernel_rfl) fun fr hF => then_normal ?_)
   refine wp_seq (wp_if hF (b := (decide (s1.1 < (len p0)))) rfl (fun hb => ?_) (fun hb => ?_))
   · replace h := iteT hb h
     refine (wp_skip (then_normal ?_))
     refine wp_seq (wp_block ?_)
     refine wp_seq (wp_text' ?_)
     refine from_pure 1 [(3, L a2 x1 c2), (9, L a1 p0 c1), (10, I (len p0)), (11, I s1.1), (13, I s1.1)] hF (by kernel_rfl) fun fr hF => ?_
     obtain ⟨x2, hx2, h⟩ := bindE h
     refine s_elemF (z := x2) (I x2) ty3 Tryd.underlying61 rfl rfl rfl rfl rfl hF rfl (ra0) rfl (get?_nn hx2) (get?_at hx2) rfl fun p fr hF => ?_
     refine from_pure 2 [(3, L a2 x1 c2), (4, I s1.1), (5, I x2), (9, L a1 p0 c1), (10, I (len p0)), (11, I s1.1)] hF (by kernel_rfl) fun fr hF => ?_
     refine from_end rfl (then_normal ?_)
     refine (wp_text' ?_)
     refine from_pure 3 [(3, L a2 x1 c2), (9, L a1 p0 c1), (10, I (len p0)), (11, I s1.1), (16, L a2 x1 c2), (17, I s1.1), (18, I x2)] hF (by kernel_rfl) fun fr hF => ?_
     obtain ⟨x3, hx3, h⟩ := bindE h
     refine s_call [I x2] Tryd.call34 rfl rfl hF rfl (impl_FormatInt_ok x2 hx3 tb) fun v w2 fr hRes hF => ?_
     obtain ⟨rfl, hc⟩ := hRes
     have tb := tb.ext hc
     have ra0 := ra0.ext hc
     have hs := hs.ext hc
     have hM1 := hM1.ext hc
     obtain ⟨x4, hx4, h⟩ := bindE h
     refine q_set (q := x3) 0 hs hM1 rfl Tryd.underlying55 ty9 rfl rfl rfl rfl hF rfl rfl (by simp) rfl rfl hx4 fun w3 S4 fr _ hs hp hF => ?_
     have tb := tb.stp hM1 hp
     have ra0 := ra0.stp hM1 hp
     have hM1 := hM1.stp hp
     have hs : Sep [sl9 (L a2 x1 c2) x4] w3 S4 := hs
     refine from_end rfl ?_
     refine blk_normal (then_normal ?_)
     refine (wp_pure [(3, L a2 x1 c2), (9, L a1 p0 c1), (10, I (len p0)), (11, I (w64 (s1.1 + 1)))] hF (by kernel_rfl) fun fr hF => then_normal ?_)
     exact ⟨_, (Option.some.inj h).symm, S4, _, hF.sub _ (by kernel_rfl), hM1, hs⟩
   replace h := iteF hb h
   refine (wp_exit (then_exit (then_exit (blk_exit_eq ?_))))
   obtain rfl := hr1 _ (Option.some.inj h).symm
   exact then_normal ⟨S2, _, hF.sub _ (by kernel_rfl), hM1, hs⟩
 · obtain ⟨S3, F2, hF, hMx, hs⟩ := hM
   have tb := tb.mem hMx
   have hM0 := hM0.trans hMx
   refine wp_seq (wp_text' ?_)
   refine from_pure 1 [(22, L a2 x1 c2)] hF (by kernel_rfl) fun fr hF => ?_
   obtain ⟨x5, hx5, h⟩ := bindE h
   refine s_call [L a2 x1 c2, Str.val (⟨[32]⟩)] Tryd.call69 rfl rfl hF rfl (strings_Join_ok rl1 (⟨[32]⟩) hx5 (hs.rv 0 rfl)) fun v w4 fr hRes hF => ?_
   obtain ⟨rfl, hc⟩ := hRes
   have tb := tb.ext hc
   have hs := hs.ext hc
   have hM0 := hM0.ext hc
   have hs : Sep [] w4 S3 := Sep.pick [] hs (by decide) rfl
   refine from_pure 1 [(2, Str.val x5)] hF (by kernel_rfl) fun fr hF => ?_
   refine from_end rfl (then_normal ?_)
   obtain rfl := Option.some.inj h
   exact wp_ret (ret1 rfl hF rfl ⟨_, rfl, rfl, hM0.chg⟩)



theorem impl_FormatFormula_ok (n : Nat) (p0 : D.Formula) {r : Str} (h : impl_FormatFormula n p0 = some r) {w : World} {G0 : Nat → Prop} {va0 : Value} (ra0 : RV w G0 va0 p0) {G99 : Nat → Prop} (tb : TX Tryd.prog w G99) :
   Calls Tryd.prog 58 [va0].toArray w fun e w' => ∃ v, e = .returned v ∧ v = Str.val r ∧ Chg Non w w' := by
 unfold impl_FormatFormula at h
 have hs := Sep.nil w Non
 have hM0 : Mem w Non (fun k => (G0 k ∨ G99 k) ∧ k < w.heap.size) w Non (fun k => (G0 k ∨ G99 k) ∧ k < w.heap.size) := Mem.start (fun _ h => h.elim) (fun _ h => h.2) (fun _ h => h.elim)
 have ra0 := ra0.sub (F' := (fun k => (G0 k ∨ G99 k) ∧ k < w.heap.size)) (fun k hk h => ⟨.inl h, hk⟩)
 obtain ⟨v1, rfl, r1⟩ := RV.Formula ra0
 obtain ⟨a1, c1, rfl, -⟩ := r1.slice
 have tb := tb.sub (F' := (fun k => (G0 k ∨ G99 k) ∧ k < w.heap.size)) (fun k hk h => ⟨.inr (h), hk⟩)
 refine enter (N := 26) Tryd.func58 rfl Tryd.ntmps58 rfl fun fr hF => ?_
 refine wp_seq (wp_text' ?_)
 refine q_box hs hM0 [I p0.Vars, L a1 p0.Clauses c1] rfl rfl hF rfl rfl fun b1 w1 S1 fr hs hp hF => ?_
 have tb := tb.stp hM0 hp
 have r1 := r1.stp hM0 hp
 have hM0 := hM0.stp hp
 have hs : Sep [BX b1 45 [I p0.Vars, L a1 p0.Clauses c1]] w1 S1 := hs
 refine from_pure 1 [(1, B b1 0)] hF (by kernel_rfl) fun fr hF => ?_
 refine from_end rfl (then_normal ?_)
 refine wp_seq ?_
 refine wp_seq (wp_text' ?_)
 refine s_loadBoxS ty45 rfl rfl hF rfl (hs.bx 0 rfl) rfl rfl fun fr hF => ?_
 obtain ⟨x1, hx1, h⟩ := bindE h
 refine s_call [.agg #[I p0.Vars, L a1 p0.Clauses c1]] Tryd.call57 rfl rfl hF rfl (impl_FormulaOk_ok n p0 hx1 (RV.mk_Formula p0 (r1))) fun v w2 fr hRes hF => ?_
 obtain ⟨rfl, hc⟩ := hRes
 have tb := tb.ext hc
 have r1 := r1.ext hc
 have hs := hs.ext hc
 have hM0 := hM0.ext hc
 refine from_pure 1 [(1, B b1 0), (8, .bool (!x1))] hF (by kernel_rfl) fun fr hF => ?_
 refine from_end rfl (then_normal ?_)
 refine (wp_if hF (b := (!x1)) rfl (fun hb => ?_) (fun hb => ?_))
 · replace h := iteT hb h
   have hs : Sep [] w2 S1 := Sep.pick [] hs (by decide) rfl
   refine wp_seq (wp_pure [(2, Str.val (⟨[]⟩))] hF (by kernel_rfl) fun fr hF => then_normal ?_)
   obtain rfl := Option.some.inj h
   exact wp_ret (then_ret (ret1 rfl hF rfl ⟨_, rfl, rfl, hM0.chg⟩))
 replace h := iteF hb h
 refine (wp_skip (then_normal ?_))
 refine wp_seq (wp_text' ?_)
 refine q_alloc (z := .agg #[.pointer none, .slice none 0 0]) hs hM0 [.pointer none, .slice none 0 0] rfl rfl hF (by kernel_rfl) rfl fun b2 w3 S2 fr hs hp hF => ?_
 have hs := hs.swapT 0 rfl fun A hA => bd_new (E := 5) hA
 have tb := tb.stp hM0 hp
 have r1 := r1.stp hM0 hp
 have hM0 := hM0.stp hp
 have hs : Sep [BD 66 5 b2 (⟨[]⟩ : Str), BX b1 45 [I p0.Vars, L a1 p0.Clauses c1]] w3 S2 := hs
 refine from_end rfl (then_normal ?_)
 refine wp_seq (wp_text' ?_)
 refine from_pure 1 [(1, B b1 0), (3, B b2 0), (9, B b1 0)] hF (by kernel_rfl) fun fr hF => ?_
 refine s_loadBox (I p0.Vars) ty3 rfl rfl hF rfl (hs.bx 1 rfl) rfl rfl fun fr hF => ?_
 obtain ⟨x2, hx2, h⟩ := bindE h
 refine s_call [I p0.Vars] Tryd.call34 rfl rfl hF rfl (impl_FormatInt_ok p0.Vars hx2 tb) fun v w4 fr hRes hF => ?_
 obtain ⟨rfl, hc⟩ := hRes
 have tb := tb.ext hc
 have r1 := r1.ext hc
 have hs := hs.ext hc
 have hM0 := hM0.ext hc
 obtain ⟨x3, hx3, h⟩ := bindE h
 obtain ⟨A1, R1, hsA, hsR, hdA, hbA, hup⟩ := Sep.call (L1 := [BD 66 5 b2 (⟨[]⟩ : Str)]) (L2 := [BX b1 45 [I p0.Vars, L a1 p0.Clauses c1]]) hs hM0
 refine s_call [B b2 0, Str.val x2] Tryd.call40 rfl rfl hF rfl (Builder_WriteString_ok (⟨[]⟩ : Str) x2 hx3 hsA hbA hdA) fun v w5 fr hRes hF => ?_
 obtain ⟨rfl, _, hp, hs⟩ := hRes
 obtain ⟨S3, hp, hs⟩ := hup hp hs
 have tb := tb.stp hM0 hp
 have r1 := r1.stp hM0 hp
 have hM0 := hM0.stp hp
 have hs : Sep [BD 66 5 b2 x3, BX b1 45 [I p0.Vars, L a1 p0.Clauses c1]] w5 S3 := hs
 refine from_end rfl (then_normal ?_)
 refine wp_seq ?_
 refine wp_seq (wp_text' ?_)
 refine from_pure 1 [(3, B b2 0), (13, B b1 1)] hF (by kernel_rfl) fun fr hF => ?_
 refine s_loadBox (L a1 p0.Clauses c1) ty43 rfl rfl hF rfl (hs.bx 1 rfl) rfl rfl fun fr hF => ?_
 have hs : Sep [BD 66 5 b2 x3] w5 S3 := Sep.pick [0] hs (by decide) rfl
 refine from_pure 2 [(3, B b2 0), (14, L a1 p0.Clauses c1), (15, I (len p0.Clauses)), (16, I 0)] hF (by kernel_rfl) fun fr hF => ?_
 refine from_end rfl (then_normal ?_)
 obtain ⟨rl1, hit1, h⟩ := bindE h
 have hk1 := h
 refine (GL.wp_cut (M := fun fr w' => ∃ S5 F2, FrS 26 [(3, B b2 0)] fr ∧ Mem w5 S3 (fun k => (G0 k ∨ G99 k) ∧ k < w.heap.size) w' S5 F2 ∧ Sep [BD 66 5 b2 rl1] w' S5) (wp_block (wp_iter (Inv := fun s1 fr w' => ∃ S4 F1, FrS 26 [(3, B b2 0), (14, L a1 p0.Clauses c1), (15, I (len p0.Clauses)), (16, I s1.1)] fr ∧ Mem w5 S3 (fun k => (G0 k ∨ G99 k) ∧ k < w.heap.size) w' S4 F1 ∧ Sep [BD 66 5 b2 s1.2] w' S4) hit1 ⟨S3, _, hF.sub _ (by kernel_rfl), (Mem.start hM0.bd hM0.bdF hM0.dj), hs⟩ fun s1 q1 fr w1i hI h hr1 => ?_)) fun fr w1o hM => ?_)
 · obtain ⟨S4, F1, hF, hM1, hs⟩ := hI
   have tb := tb.mem hM1
   have r1 := r1.mem hM1
   refine wp_seq (wp_pure [(3, B b2 0), (14, L a1 p0.Clauses c1), (15, I (len p0.Clauses)), (16, I s1.1), (17, .bool (decide (s1.1 < (len p0.Clauses))))] hF (by kernel_rfl) fun fr hF => then_normal ?_)
   refine wp_seq (wp_if hF (b := (decide (s1.1 < (len p0.Clauses)))) rfl (fun hb => ?_) (fun hb => ?_))
   · replace h := iteT hb h
     refine (wp_skip (then_normal ?_))
     refine wp_seq (wp_block ?_)
     refine wp_seq (wp_text' ?_)
     obtain ⟨x4, hx4, h⟩ := bindE h
     refine s_elem (z := x4) ty61 Tryd.underlying43 rfl rfl rfl rfl rfl hF rfl (r1) rfl (get?_nn hx4) (get?_at hx4) fun p v2 fr r2 hF => ?_
     obtain ⟨a2, c2, rfl, -⟩ := r2.slice
     refine from_pure 1 [(3, B b2 0), (5, L a2 x4 c2), (14, L a1 p0.Clauses c1), (15, I (len p0.Clauses)), (16, I s1.1)] hF (by kernel_rfl) fun fr hF => ?_
     refine from_end rfl (then_normal ?_)
     refine (wp_text' ?_)
     refine from_pure 1 [(3, B b2 0), (14, L a1 p0.Clauses c1), (15, I (len p0.Clauses)), (16, I s1.1), (20, L a2 x4 c2)] hF (by kernel_rfl) fun fr hF => ?_
     obtain ⟨x5, hx5, h⟩ := bindE h
     refine s_call [L a2 x4 c2] Tryd.call41 rfl rfl hF rfl (impl_FormatInts_ok n x4 hx5 (r2) tb) fun v w6 fr hRes hF => ?_
     obtain ⟨rfl, hc⟩ := hRes
     have tb := tb.ext hc
     have r1 := r1.ext hc
     have r2 := r2.ext hc
     have hs := hs.ext hc
     have hM1 := hM1.ext hc
     obtain ⟨x6, hx6, h⟩ := bindE h
     refine s_cat (s1 := (⟨[124]⟩)) (s2 := x5) rfl rfl hF rfl rfl hx6 fun fr hF => ?_
     obtain ⟨x7, hx7, h⟩ := bindE h
     obtain ⟨A2, R2, hsA, hsR, hdA, hbA, hup⟩ := Sep.call (L1 := [BD 66 5 b2 s1.2]) (L2 := []) hs hM1
     refine s_call [B b2 0, Str.val x6] Tryd.call40 rfl rfl hF rfl (Builder_WriteString_ok s1.2 x6 hx7 hsA hbA hdA) fun v w7 fr hRes hF => ?_
     obtain ⟨rfl, _, hp, hs⟩ := hRes
     obtain ⟨S6, hp, hs⟩ := hup hp hs
     have tb := tb.stp hM1 hp
     have r1 := r1.stp hM1 hp
     have hM1 := hM1.stp hp
     have hs : Sep [BD 66 5 b2 x7] w7 S6 := hs
     refine from_end rfl ?_
     refine blk_normal (then_normal ?_)
     refine (wp_pure [(3, B b2 0), (14, L a1 p0.Clauses c1), (15, I (len p0.Clauses)), (16, I (w64 (s1.1 + 1)))] hF (by kernel_rfl) fun fr hF => then_normal ?_)
     exact ⟨_, (Option.some.inj h).symm, S6, _, hF.sub _ (by kernel_rfl), hM1, hs⟩
   replace h := iteF hb h
   refine (wp_exit (then_exit (then_exit (blk_exit_eq ?_))))
   obtain rfl := hr1 _ (Option.some.inj h).symm
   exact then_normal ⟨S4, _, hF.sub _ (by kernel_rfl), hM1, hs⟩
 · obtain ⟨S5, F2, hF, hMx, hs⟩ := hM
   have tb := tb.mem hMx
   have hM0 := hM0.trans hMx
   refine wp_seq (wp_text' ?_)
   refine s_call [B b2 0] Tryd.call42 rfl rfl hF rfl (Builder_String_ok 0 hs rfl hM0) fun v w8 fr hRes hF => ?_
   obtain ⟨rfl, hMn⟩ := hRes
   have hM0 := hMn
   have hs := Sep.nil w8 Non
   refine from_pure 1 [(2, Str.val rl1)] hF (by kernel_rfl) fun fr hF => ?_
   refine from_end rfl (then_normal ?_)
   obtain rfl := Option.some.inj h
   exact wp_ret (ret1 rfl hF rfl ⟨_, rfl, rfl, hM0.chg⟩)

theorem impl_ParseFormula_ok (n : Nat) (p0 : Str) {r : D.Formula × Bool} (h : impl_ParseFormula n p0 = some r) {w : World} {G99 : Nat → Prop} (tb : TX Tryd.prog w G99) :
   Calls Tryd.prog 19 [Str.val p0].toArray w fun e w' => ∃ v, e = .returned v ∧ ∃ a1 c1 rs2, v = .tuple #[.agg #[I r.1.Vars, L a1 r.1.Clauses c1], .bool r.2] ∧ ∃ S', Stp w Non w' S' ∧ Sep [sl61 (L a1 r.1.Clauses c1) rs2, HP.all own61 rs2 r.1.Clauses] w' S' := by
 unfold impl_ParseFormula at h
 have hs := Sep.nil w Non
 have hM0 : Mem w Non (fun k => (G99 k) ∧ k < w.heap.size) w Non (fun k => (G99 k) ∧ k < w.heap.size) := Mem.start (fun _ h => h.elim) (fun _ h => h.2) (fun _ h => h.elim)
 have tb := tb.sub (F' := (fun k => (G99 k) ∧ k < w.heap.size)) (fun k hk h => ⟨h, hk⟩)
 refine enter (N := 59) Tryd.func19 rfl Tryd.ntmps19 rfl fun fr hF => ?_
 refine wp_seq (wp_text' ?_)
 refine q_alloc (z := .agg #[I 0, L none ([] : List (List Int)) 0]) hs hM0 [I 0, L none ([] : List (List Int)) 0] rfl rfl hF (by kernel_rfl) rfl fun b1 w1 S1 fr hs hp hF => ?_
 have tb := tb.stp hM0 hp
 have hM0 := hM0.stp hp
 have hs : Sep [BX b1 45 [I 0, L none ([] : List (List Int)) 0]] w1 S1 := hs
 refine from_pure 1 [(0, Str.val p0), (2, B b1 0)] hF (by kernel_rfl) fun fr hF => ?_
 refine from_end rfl (then_normal ?_)
 refine wp_seq (wp_text' ?_)
 refine from_pure 1 [(0, Str.val p0), (2, B b1 0), (12, Str.val p0)] hF (by kernel_rfl) fun fr hF => ?_
 obtain ⟨x1, hx1, h⟩ := bindE h
 refine s_call [Str.val p0, Str.val (⟨[124]⟩)] Tryd.call47 rfl rfl hF rfl (strings_Split_ok p0 (⟨[124]⟩) hx1 tb) fun v w2 fr hRes hF => ?_
 obtain ⟨a1, c1, rfl, _, hp, hs2⟩ := hRes
 obtain ⟨S2, hp, hs⟩ := hs.got hM0 hp hs2
 have tb := tb.stp hM0 hp
 have hM0 := hM0.stp hp
 have hs : Sep [sl9 (L a1 x1 c1) x1, BX b1 45 [I 0, L none ([] : List (List Int)) 0]] w2 S2 := hs
 refine from_pure 1 [(0, Str.val p0), (2, B b1 0), (4, L a1 x1 c1)] hF (by kernel_rfl) fun fr hF => ?_
 refine from_end rfl (then_normal ?_)
 refine wp_seq (wp_text' ?_)
 refine from_pure 1 [(0, Str.val p0), (2, B b1 0), (4, L a1 x1 c1), (15, L a1 x1 c1)] hF (by kernel_rfl) fun fr hF => ?_
 obtain ⟨x2, hx2, h⟩ := bindE h
 refine s_elemF (z := x2) (Str.val x2) ty9 Tryd.underlying55 rfl rfl rfl rfl rfl hF rfl (hs.rv 0 rfl) rfl (get?_nn hx2) (get?_at hx2) rfl fun p fr hF => ?_
 obtain ⟨x3, hx3, h⟩ := bindE h
 refine s_call [Str.val x2] Tryd.call55 rfl rfl hF rfl (impl_ParseInt_ok x2 hx3 tb) fun v w3 fr hRes hF => ?_
 obtain ⟨rfl, hc⟩ := hRes
 have tb := tb.ext hc
 have hs := hs.ext hc
 have hM0 := hM0.ext hc
 refine from_pure 5 [(0, Str.val p0), (2, B b1 0), (4, L a1 x1 c1), (5, I x3.1), (6, .bool x3.2)] hF (by kernel_rfl) fun fr hF => ?_
 refine from_end rfl (then_normal ?_)
 refine wp_seq ?_
 refine wp_seq (wp_pure [(0, Str.val p0), (2, B b1 0), (4, L a1 x1 c1), (5, I x3.1), (22, .bool (!x3.2))] hF (by kernel_rfl) fun fr hF => then_normal ?_)
 refine (wp_if hF (b := (!x3.2)) rfl (fun hb => ?_) (fun hb => ?_))
 · replace h := iteT hb h
   have hs : Sep [BX b1 45 [I 0, L none ([] : List (List Int)) 0]] w3 S2 := Sep.pick [1] hs (by decide) rfl
   refine wp_seq (wp_text' ?_)
   refine from_pure 1 [(2, B b1 0), (23, .agg #[I 0, L none ([] : List (List Int)) 0])] hF (by kernel_rfl) fun fr hF => ?_
   refine q_storeBoxS 0 hs hM0 rfl [I 0, L none ([] : List (List Int)) 0] rfl hF rfl rfl (by kernel_rfl) rfl rfl rfl fun w4 S3 hs hp hF => ?_
   have tb := tb.stp hM0 hp
   have hM0 := hM0.stp hp
   have hs : Sep [BX b1 45 [I 0, L none ([] : List (List Int)) 0]] w4 S3 := hs
   refine from_pure 1 [(2, B b1 0), (3, .bool false)] hF (by kernel_rfl) fun fr hF => ?_
   refine from_end rfl (then_normal ?_)
   have hrets := fun {σ : List (Nat × Value)} (h : σ = [(2, B b1 0), (3, .bool false)]) => (by subst h; exact (Rets.cell rfl ty45 (hs.bx 0 rfl) rfl rfl (Rets.tmp rfl Rets.nil)) : Rets Tryd.prog σ w4 [.cell 2 45, .tmp 3] [.agg #[I 0, L none ([] : List (List Int)) 0], .bool false])
   have hs : Sep [sl61 (L none ([] : List (List Int)) 0) ([] : List Hd), HP.all own61 ([] : List Hd) ([] : List (List Int)), BX b1 45 [I 0, L none ([] : List (List Int)) 0]] w4 S3 := (hs.emp (HP.all own61 [] []) trivial).cons_nil (α := Hd) 61
   obtain rfl := Option.some.inj h
   have hs : Sep [sl61 (L none ([] : List (List Int)) 0) ([] : List Hd), HP.all own61 ([] : List Hd) ([] : List (List Int))] w4 S3 := Sep.pick [0, 1] hs (by decide) rfl
   exact wp_ret (then_ret (retG (rs := [.cell 2 45, .tmp 3]) rfl (hF.sub [(2, B b1 0), (3, .bool false)] (by kernel_rfl)) (hrets rfl) rfl ⟨_, rfl, none, 0, ([] : List Hd), rfl, S3, hM0.out, hs⟩))
 replace h := iteF hb h
 refine (wp_skip (then_normal ?_))
 refine wp_seq (wp_text' ?_)
 refine from_pure 2 [(0, Str.val p0), (2, B b1 0), (4, L a1 x1 c1), (25, .agg #[I x3.1, L none ([] : List (List Int)) 0])] hF (by kernel_rfl) fun fr hF => ?_
 refine q_alloc (z := .agg #[I 0, L none ([] : List (List Int)) 0]) hs hM0 [I 0, L none ([] : List (List Int)) 0] rfl rfl hF (by kernel_rfl) rfl fun b2 w5 S4 fr hs hp hF => ?_
 have tb := tb.stp hM0 hp
 have hM0 := hM0.stp hp
 have hs : Sep [BX b2 45 [I 0, L none ([] : List (List Int)) 0], sl9 (L a1 x1 c1) x1, BX b1 45 [I 0, L none ([] : List (List Int)) 0]] w5 S4 := hs
 refine q_storeBoxS 0 hs hM0 rfl [I x3.1, L none ([] : List (List Int)) 0] rfl hF rfl rfl (by kernel_rfl) rfl rfl rfl fun w6 S5 hs hp hF => ?_
 have tb := tb.stp hM0 hp
 have hM0 := hM0.stp hp
 have hs : Sep [BX b2 45 [I x3.1, L none ([] : List (List Int)) 0], sl9 (L a1 x1 c1) x1, BX b1 45 [I 0, L none ([] : List (List Int)) 0]] w6 S5 := hs
 refine from_end rfl (then_normal ?_)
 refine wp_seq ?_
 refine wp_seq (wp_text' ?_)
 refine from_pure 1 [(0, Str.val p0), (2, B b1 0), (7, B b2 0), (26, L a1 x1 c1)] hF (by kernel_rfl) fun fr hF => ?_
 obtain ⟨x4, hx4, h⟩ := bindE h
 refine s_view ty9 Tryd.underlying55 rfl rfl hF rfl (hs.rv 1 rfl) ⟨_, rfl⟩ rfl hx4 fun a2 c2 fr hv1 hle1 hF => ?_
 refine from_pure 2 [(0, Str.val p0), (2, B b1 0), (7, B b2 0), (27, L a2 x4 c2), (28, I (len x4)), (29, I 0)] hF (by kernel_rfl) fun fr hF => ?_
 refine from_end rfl (then_normal ?_)
 have hs : Sep [sl61 (L none ([] : List (List Int)) 0) ([] : List Hd), HP.all own61 ([] : List Hd) ([] : List (List Int)), BX b2 45 [I x3.1, L none ([] : List (List Int)) 0], sl9 (L a1 x1 c1) x1, BX b1 45 [I 0, L none ([] : List (List Int)) 0]] w6 S5 := (hs.emp (HP.all own61 [] []) trivial).cons_nil (α := Hd) 61
 have hs : Sep [sl61 (L none ([] : List (List Int)) 0) ([] : List Hd), HP.all own61 ([] : List Hd) ([] : List (List Int)), BX b2 45 [I x3.1, L none ([] : List (List Int)) 0], sl9 (L a1 x1 c1) x1, BX b1 45 [I 0, L none ([] : List (List Int)) 0]] w6 S5 := hs
 obtain ⟨rl1, hit1, h⟩ := bindE h
 have hk1 := h
 refine (GL.wp_cut (M := fun fr w' => ∃ s, rl1 = .inl s ∧ ∃ rs2 a4 c4 S7 F2, FrS 59 [(0, Str.val p0), (2, B b1 0), (7, B b2 0)] fr ∧ Mem w6 S5 (fun k => (G99 k) ∧ k < w.heap.size) w' S7 F2 ∧ Sep [sl61 (L a4 s c4) rs2, HP.all own61 rs2 s, BX b2 45 [I x3.1, L a4 s c4], BX b1 45 [I 0, L none ([] : List (List Int)) 0]] w' S7) (wp_block (wp_iter (Inv := fun s1 fr w' => ∃ rs1 a3 c3 S6 F1, FrS 59 [(0, Str.val p0), (2, B b1 0), (7, B b2 0), (27, L a2 x4 c2), (28, I (len x4)), (29, I s1.1)] fr ∧ Mem w6 S5 (fun k => (G99 k) ∧ k < w.heap.size) w' S6 F1 ∧ Sep [sl61 (L a3 s1.2 c3) rs1, HP.all own61 rs1 s1.2, BX b2 45 [I x3.1, L a3 s1.2 c3], sl9 (L a1 x1 c1) x1, BX b1 45 [I 0, L none ([] : List (List Int)) 0]] w' S6) hit1 ⟨([] : List Hd), none, 0, S5, _, hF.sub _ (by kernel_rfl), (Mem.start hM0.bd hM0.bdF hM0.dj), hs⟩ fun s1 q1 fr w1i hI h hr1 => ?_)) fun fr w1o hM => ?_)
 · obtain ⟨rs1, a3, c3, S6, F1, hF, hM1, hs⟩ := hI
   have tb := tb.mem hM1
   refine wp_seq (wp_pure [(0, Str.val p0), (2, B b1 0), (7, B b2 0), (27, L a2 x4 c2), (28, I (len x4)), (29, I s1.1), (30, .bool (decide (s1.1 < (len x4))))] hF (by kernel_rfl) fun fr hF => then_normal ?_)
   refine wp_seq (wp_if hF (b := (decide (s1.1 < (len x4)))) rfl (fun hb => ?_) (fun hb => ?_))
   · replace h := iteT hb h
     refine (wp_skip (then_normal ?_))
     refine wp_seq (wp_block ?_)
     refine wp_seq (wp_text' ?_)
     obtain ⟨x5, hx5, h⟩ := bindE h
     refine s_elemF (z := x5) (Str.val x5) ty9 Tryd.underlying55 rfl rfl rfl rfl rfl hF rfl (view_rv (hs.rv 3 rfl) hv1 (by have h1 := (hs.relen 3 rfl).1; omega)) rfl (get?_nn hx5) (get?_at hx5) rfl fun p fr hF => ?_
     refine from_pure 1 [(0, Str.val p0), (2, B b1 0), (7, B b2 0), (9, Str.val x5), (27, L a2 x4 c2), (28, I (len x4)), (29, I s1.1)] hF (by kernel_rfl) fun fr hF => ?_
     refine from_end rfl (then_normal ?_)
     refine wp_seq (wp_text' ?_)
     refine from_pure 1 [(0, Str.val p0), (2, B b1 0), (7, B b2 0), (27, L a2 x4 c2), (28, I (len x4)), (29, I s1.1), (34, Str.val x5)] hF (by kernel_rfl) fun fr hF => ?_
     obtain ⟨x6, hx6, h⟩ := bindE h
     refine s_call [Str.val x5] Tryd.call56 rfl rfl hF rfl (impl_ParseInts_ok n x5 hx6 tb) fun v w7 fr hRes hF => ?_
     obtain ⟨a5, c5, rfl, _, hp, hs2⟩ := hRes
     obtain ⟨S8, hp, hs⟩ := hs.got hM1 hp hs2
     have tb := tb.stp hM1 hp
     have hM1 := hM1.stp hp
     have hs : Sep [sl3 (L a5 x6.1 c5) x6.1, sl61 (L a3 s1.2 c3) rs1, HP.all own61 rs1 s1.2, BX b2 45 [I x3.1, L a3 s1.2 c3], sl9 (L a1 x1 c1) x1, BX b1 45 [I 0, L none ([] : List (List Int)) 0]] w7 S8 := hs
     refine from_pure 5 [(0, Str.val p0), (2, B b1 0), (7, B b2 0), (10, L a5 x6.1 c5), (11, .bool x6.2), (27, L a2 x4 c2), (28, I (len x4)), (29, I s1.1)] hF (by kernel_rfl) fun fr hF => ?_
     refine from_end rfl (then_normal ?_)
     refine wp_seq ?_
     refine wp_seq (wp_pure [(0, Str.val p0), (2, B b1 0), (7, B b2 0), (10, L a5 x6.1 c5), (27, L a2 x4 c2), (28, I (len x4)), (29, I s1.1), (39, .bool (!x6.2))] hF (by kernel_rfl) fun fr hF => then_normal ?_)
     refine (wp_if hF (b := (!x6.2)) rfl (fun hb => ?_) (fun hb => ?_))
     · replace h := iteT hb h
       have hs : Sep [BX b1 45 [I 0, L none ([] : List (List Int)) 0]] w7 S8 := Sep.pick [5] hs (by decide) rfl
       refine wp_seq (wp_text' ?_)
       refine from_pure 1 [(2, B b1 0), (40, .agg #[I 0, L none ([] : List (List Int)) 0])] hF (by kernel_rfl) fun fr hF => ?_
       refine q_storeBoxS 0 hs hM1 rfl [I 0, L none ([] : List (List Int)) 0] rfl hF rfl rfl (by kernel_rfl) rfl rfl rfl fun w8 S9 hs hp hF => ?_
       have tb := tb.stp hM1 hp
       have hM1 := hM1.stp hp
       have hs : Sep [BX b1 45 [I 0, L none ([] : List (List Int)) 0]] w8 S9 := hs
       refine from_pure 1 [(2, B b1 0), (3, .bool false)] hF (by kernel_rfl) fun fr hF => ?_
       refine from_end rfl (then_normal ?_)
       have hrets := fun {σ : List (Nat × Value)} (h : σ = [(2, B b1 0), (3, .bool false)]) => (by subst h; exact (Rets.cell rfl ty45 (hs.bx 0 rfl) rfl rfl (Rets.tmp rfl Rets.nil)) : Rets Tryd.prog σ w8 [.cell 2 45, .tmp 3] [.agg #[I 0, L none ([] : List (List Int)) 0], .bool false])
       have hs : Sep [sl61 (L none ([] : List (List Int)) 0) ([] : List Hd), HP.all own61 ([] : List Hd) ([] : List (List Int)), BX b1 45 [I 0, L none ([] : List (List Int)) 0]] w8 S9 := (hs.emp (HP.all own61 [] []) trivial).cons_nil (α := Hd) 61
       obtain rfl := hr1 _ (Option.some.inj h).symm
       obtain rfl := Option.some.inj hk1
       have hs : Sep [sl61 (L none ([] : List (List Int)) 0) ([] : List Hd), HP.all own61 ([] : List Hd) ([] : List (List Int))] w8 S9 := Sep.pick [0, 1] hs (by decide) rfl
       exact wp_ret (then_ret (blk_ret (then_ret (then_ret (blk_ret (then_ret (retG (rs := [.cell 2 45, .tmp 3]) rfl (hF.sub [(2, B b1 0), (3, .bool false)] (by kernel_rfl)) (hrets rfl) rfl ⟨_, rfl, none, 0, ([] : List Hd), rfl, S9, (hM0.trans hM1).out, hs⟩)))))))
     replace h := iteF hb h
     refine (wp_skip (then_normal ?_))
     refine (wp_text' ?_)
     refine from_pure 1 [(0, Str.val p0), (2, B b1 0), (7, B b2 0), (10, L a5 x6.1 c5), (27, L a2 x4 c2), (28, I (len x4)), (29, I s1.1), (41, B b2 1)] hF (by kernel_rfl) fun fr hF => ?_
     refine s_loadBox (L a3 s1.2 c3) ty43 rfl rfl hF rfl (hs.bx 3 rfl) rfl rfl fun fr hF => ?_
     refine from_pure 1 [(0, Str.val p0), (2, B b1 0), (7, B b2 0), (27, L a2 x4 c2), (28, I (len x4)), (29, I s1.1), (42, L a3 s1.2 c3), (43, L a5 x6.1 c5)] hF (by kernel_rfl) fun fr hF => ?_
     refine q_lit (E := 61) hs hM1 [L a5 x6.1 c5] (([⟨a5, List.length x6.1, c5⟩] : List Hd).map Flat.enc) ([⟨a5, List.length x6.1, c5⟩] : List Hd) rfl rfl hF [L a5 x6.1 c5] rfl (fun w => by kernel_rfl) (css_flat _) rfl rfl rfl fun a6 c6 w9 S10 fr hs hp hF => ?_
     have tb := tb.stp hM1 hp
     have hM1 := hM1.stp hp
     have hs : Sep [sl61 (L a6 ([x6.1] : List (List Int)) c6) ([⟨a5, List.length x6.1, c5⟩] : List Hd), sl3 (L a5 x6.1 c5) x6.1, sl61 (L a3 s1.2 c3) rs1, HP.all own61 rs1 s1.2, BX b2 45 [I x3.1, L a3 s1.2 c3], sl9 (L a1 x1 c1) x1, BX b1 45 [I 0, L none ([] : List (List Int)) 0]] w9 S10 := hs
     have hs : Sep [HP.all own61 ([] : List Hd) ([] : List (List Int)), sl61 (L a6 ([x6.1] : List (List Int)) c6) ([⟨a5, List.length x6.1, c5⟩] : List Hd), sl3 (L a5 x6.1 c5) x6.1, sl61 (L a3 s1.2 c3) rs1, HP.all own61 rs1 s1.2, BX b2 45 [I x3.1, L a3 s1.2 c3], sl9 (L a1 x1 c1) x1, BX b1 45 [I 0, L none ([] : List (List Int)) 0]] w9 S10 := hs.emp (HP.all own61 [] []) trivial
     have hs : Sep [sl3 (L a5 x6.1 c5) x6.1, HP.all own61 ([] : List Hd) ([] : List (List Int)), sl61 (L a6 ([x6.1] : List (List Int)) c6) ([⟨a5, List.length x6.1, c5⟩] : List Hd), sl61 (L a3 s1.2 c3) rs1, HP.all own61 rs1 s1.2, BX b2 45 [I x3.1, L a3 s1.2 c3], sl9 (L a1 x1 c1) x1, BX b1 45 [I 0, L none ([] : List (List Int)) 0]] w9 S10 := Sep.pick [2, 0, 1, 3, 4, 5, 6, 7] hs (by decide) rfl
     have hs : Sep [HP.all own61 ([⟨a5, List.length x6.1, c5⟩] : List Hd) ([x6.1] : List (List Int)), sl61 (L a6 ([x6.1] : List (List Int)) c6) ([⟨a5, List.length x6.1, c5⟩] : List Hd), sl61 (L a3 s1.2 c3) rs1, HP.all own61 rs1 s1.2, BX b2 45 [I x3.1, L a3 s1.2 c3], sl9 (L a1 x1 c1) x1, BX b1 45 [I 0, L none ([] : List (List Int)) 0]] w9 S10 := Sep.merge hs (fun _ h => h)
     have hs : Sep [sl61 (L a3 s1.2 c3) rs1, HP.all own61 rs1 s1.2, HP.all own61 ([⟨a5, List.length x6.1, c5⟩] : List Hd) ([x6.1] : List (List Int)), sl61 (L a6 ([x6.1] : List (List Int)) c6) ([⟨a5, List.length x6.1, c5⟩] : List Hd), BX b2 45 [I x3.1, L a3 s1.2 c3], sl9 (L a1 x1 c1) x1, BX b1 45 [I 0, L none ([] : List (List Int)) 0]] w9 S10 := Sep.pick [2, 3, 0, 1, 4, 5, 6] hs (by decide) rfl
     obtain ⟨x7, hx7, h⟩ := bindE h
     refine q_appendD hs hM1 Tryd.underlying43 rel61 rfl rfl rfl hF rfl rfl (hs.rv 3 rfl) hx7 fun a7 c7 rs3 w10 S11 fr hs hp hF => ?_
     have tb := tb.stp hM1 hp
     have hM1 := hM1.stp hp
     have hs : Sep [sl61 (L a7 x7 c7) rs3, HP.all own61 rs3 x7, sl61 (L a6 ([x6.1] : List (List Int)) c6) ([⟨a5, List.length x6.1, c5⟩] : List Hd), BX b2 45 [I x3.1, L a3 s1.2 c3], sl9 (L a1 x1 c1) x1, BX b1 45 [I 0, L none ([] : List (List Int)) 0]] w10 S11 := hs
     have hs : Sep [sl61 (L a7 x7 c7) rs3, HP.all own61 rs3 x7, BX b2 45 [I x3.1, L a3 s1.2 c3], sl9 (L a1 x1 c1) x1, BX b1 45 [I 0, L none ([] : List (List Int)) 0]] w10 S11 := Sep.pick [0, 1, 3, 4, 5] hs (by decide) rfl
     refine from_pure 1 [(0, Str.val p0), (2, B b1 0), (7, B b2 0), (27, L a2 x4 c2), (28, I (len x4)), (29, I s1.1), (45, L a7 x7 c7), (46, B b2 1)] hF (by kernel_rfl) fun fr hF => ?_
     refine q_storeBox 2 hs hM1 rfl [I x3.1, L a7 x7 c7] rfl hF rfl rfl (by kernel_rfl) rfl rfl rfl fun w11 S12 hs hp hF => ?_
     have tb := tb.stp hM1 hp
     have hM1 := hM1.stp hp
     have hs : Sep [sl61 (L a7 x7 c7) rs3, HP.all own61 rs3 x7, BX b2 45 [I x3.1, L a7 x7 c7], sl9 (L a1 x1 c1) x1, BX b1 45 [I 0, L none ([] : List (List Int)) 0]] w11 S12 := hs
     refine from_end rfl ?_
     refine blk_normal (then_normal ?_)
     refine (wp_pure [(0, Str.val p0), (2, B b1 0), (7, B b2 0), (27, L a2 x4 c2), (28, I (len x4)), (29, I (w64 (s1.1 + 1)))] hF (by kernel_rfl) fun fr hF => then_normal ?_)
     exact ⟨_, (Option.some.inj h).symm, rs3, a7, c7, S12, _, hF.sub _ (by kernel_rfl), hM1, hs⟩
   replace h := iteF hb h
   have hs : Sep [sl61 (L a3 s1.2 c3) rs1, HP.all own61 rs1 s1.2, BX b2 45 [I x3.1, L a3 s1.2 c3], BX b1 45 [I 0, L none ([] : List (List Int)) 0]] w1i S6 := Sep.pick [0, 1, 2, 4] hs (by decide) rfl
   refine (wp_exit (then_exit (then_exit (blk_exit_eq ?_))))
   obtain rfl := hr1 _ (Option.some.inj h).symm
   exact then_normal ⟨_, rfl, rs1, a3, c3, S6, _, hF.sub _ (by kernel_rfl), hM1, hs⟩
 · obtain ⟨s1r, rfl, hM⟩ := hM
   obtain ⟨rs2, a4, c4, S7, F2, hF, hMx, hs⟩ := hM
   have tb := tb.mem hMx
   have hM0 := hM0.trans hMx
   refine wp_seq ?_
   obtain ⟨x8, hx8, h⟩ := bindE h
   obtain ⟨x9, hx9, h⟩ := bindE h
   refine wp_seq (region_b [] [false, false, true, true, false, false, true, true, true]
       [.eq (.agg #[I x3.1, L a4 s1r c4]), .eq (.bool x8), .eq (.bool (!x8)), .eq (.bool (!x8)), .eq (.agg #[I x3.1, L a4 s1r c4]), .eq (Str.val x9), .eq (Str.val p0), .eq (.bool (!(Str.eqb x9 p0))), .eq (.bool ((!x8) || (!(Str.eqb x9 p0))))]
       [(2, B b1 0), (7, B b2 0), (56, .bool ((!x8) || (!(Str.eqb x9 p0))))] mix hF (by kernel_rfl) (by kernel_rfl) (by kernel_rfl) ⟨Pd.mono_eq, Pd.mono_eq, Pd.mono_eq, Pd.mono_eq, trivial⟩ (fun hG => ⟨np_loadBoxS hG hF ty45 rfl rfl (hs.bx 2 rfl) rfl rfl rfl rfl, np_call [.agg #[I x3.1, L a4 s1r c4]] hG hF Tryd.call57 rfl rfl (fun w hC hg => (impl_FormulaOk_ok n (D.Formula.mk x3.1 s1r) hx8 ((RV.mk_Formula (D.Formula.mk x3.1 s1r) (RV.any (hs.drv owns61 0 1 rfl rfl (by decide)))).ext hC)).mono fun e w' ⟨v, he, hv, hc⟩ => ⟨v, he, hc, hv⟩), np_loadBoxS hG hF ty45 rfl rfl (hs.bx 2 rfl) rfl rfl rfl rfl, np_call [.agg #[I x3.1, L a4 s1r c4]] hG hF Tryd.call58 rfl rfl (fun w hC hg => (impl_FormatFormula_ok n (D.Formula.mk x3.1 s1r) (iteF hg.2 hx9) ((RV.mk_Formula (D.Formula.mk x3.1 s1r) (RV.any (hs.drv owns61 0 1 rfl rfl (by decide)))).ext hC) (tb.ext hC)).mono fun e w' ⟨v, he, hv, hc⟩ => ⟨v, he, hc, hv⟩), trivial⟩) (by kernel_rfl) fun fr w12 hF hE hc => then_normal ?_)
   have tb := tb.ext hc
   have hs := hs.ext hc
   have hM0 := hM0.ext hc
   refine (wp_if hF (b := ((!x8) || (!(Str.eqb x9 p0)))) rfl (fun hb => ?_) (fun hb => ?_))
   · replace h := iteT hb h
     have hs : Sep [BX b1 45 [I 0, L none ([] : List (List Int)) 0]] w12 S7 := Sep.pick [3] hs (by decide) rfl
     refine wp_seq (wp_text' ?_)
     refine from_pure 1 [(2, B b1 0), (57, .agg #[I 0, L none ([] : List (List Int)) 0])] hF (by kernel_rfl) fun fr hF => ?_
     refine q_storeBoxS 0 hs hM0 rfl [I 0, L none ([] : List (List Int)) 0] rfl hF rfl rfl (by kernel_rfl) rfl rfl rfl fun w13 S13 hs hp hF => ?_
     have tb := tb.stp hM0 hp
     have hM0 := hM0.stp hp
     have hs : Sep [BX b1 45 [I 0, L none ([] : List (List Int)) 0]] w13 S13 := hs
     refine from_pure 1 [(2, B b1 0), (3, .bool false)] hF (by kernel_rfl) fun fr hF => ?_
     refine from_end rfl (then_normal ?_)
     have hrets := fun {σ : List (Nat × Value)} (h : σ = [(2, B b1 0), (3, .bool false)]) => (by subst h; exact (Rets.cell rfl ty45 (hs.bx 0 rfl) rfl rfl (Rets.tmp rfl Rets.nil)) : Rets Tryd.prog σ w13 [.cell 2 45, .tmp 3] [.agg #[I 0, L none ([] : List (List Int)) 0], .bool false])
     have hs : Sep [sl61 (L none ([] : List (List Int)) 0) ([] : List Hd), HP.all own61 ([] : List Hd) ([] : List (List Int)), BX b1 45 [I 0, L none ([] : List (List Int)) 0]] w13 S13 := (hs.emp (HP.all own61 [] []) trivial).cons_nil (α := Hd) 61
     obtain rfl := Option.some.inj h
     have hs : Sep [sl61 (L none ([] : List (List Int)) 0) ([] : List Hd), HP.all own61 ([] : List Hd) ([] : List (List Int))] w13 S13 := Sep.pick [0, 1] hs (by decide) rfl
     exact wp_ret (then_ret (retG (rs := [.cell 2 45, .tmp 3]) rfl (hF.sub [(2, B b1 0), (3, .bool false)] (by kernel_rfl)) (hrets rfl) rfl ⟨_, rfl, none, 0, ([] : List Hd), rfl, S13, hM0.out, hs⟩))
   replace h := iteF hb h
   refine (wp_skip (then_normal ?_))
   refine wp_seq (wp_text' ?_)
   refine s_loadBoxS ty45 rfl rfl hF rfl (hs.bx 2 rfl) rfl rfl fun fr hF => ?_
   have hs : Sep [sl61 (L a4 s1r c4) rs2, HP.all own61 rs2 s1r, BX b1 45 [I 0, L none ([] : List (List Int)) 0]] w12 S7 := Sep.pick [0, 1, 3] hs (by decide) rfl
   refine q_storeBoxS 2 hs hM0 rfl [I x3.1, L a4 s1r c4] rfl hF rfl rfl (by kernel_rfl) rfl rfl rfl fun w14 S14 hs hp hF => ?_
   have tb := tb.stp hM0 hp
   have hM0 := hM0.stp hp
   have hs : Sep [sl61 (L a4 s1r c4) rs2, HP.all own61 rs2 s1r, BX b1 45 [I x3.1, L a4 s1r c4]] w14 S14 := hs
   refine from_pure 1 [(2, B b1 0), (3, .bool true)] hF (by kernel_rfl) fun fr hF => ?_
   refine from_end rfl (then_normal ?_)
   have hrets := fun {σ : List (Nat × Value)} (h : σ = [(2, B b1 0), (3, .bool true)]) => (by subst h; exact (Rets.cell rfl ty45 (hs.bx 2 rfl) rfl rfl (Rets.tmp rfl Rets.nil)) : Rets Tryd.prog σ w14 [.cell 2 45, .tmp 3] [.agg #[I x3.1, L a4 s1r c4], .bool true])
   obtain rfl := Option.some.inj h
   have hs : Sep [sl61 (L a4 s1r c4) rs2, HP.all own61 rs2 s1r] w14 S14 := Sep.pick [0, 1] hs (by decide) rfl
   exact wp_ret (retG (rs := [.cell 2 45, .tmp 3]) rfl (hF.sub [(2, B b1 0), (3, .bool true)] (by kernel_rfl)) (hrets rfl) rfl ⟨_, rfl, a4, c4, rs2, rfl, S14, hM0.out, hs⟩)

theorem laws_eqIntS_ok (n : Nat) (p0 : List Int) (p1 : List Int) {r : Bool} (h : laws_eqIntS n p0 p1 = some r) {w : World} {G0 : Nat → Prop} {va0 : Value} (ra0 : RV w G0 va0 p0) {G1 : Nat → Prop} {va1 : Value} (ra1 : RV w G1 va1 p1) :
   Calls Tryd.prog 76 [va0, va1].toArray w fun e w' => ∃ v, e = .returned v ∧ v = .bool r ∧ Chg Non w w' := by
 unfold laws_eqIntS at h
 have hs := Sep.nil w Non
 have hM0 : Mem w Non (fun k => (G0 k ∨ G1 k) ∧ k < w.heap.size) w Non (fun k => (G0 k ∨ G1 k) ∧ k < w.heap.size) := Mem.start (fun _ h => h.elim) (fun _ h => h.2) (fun _ h => h.elim)
 have ra0 := ra0.sub (F' := (fun k => (G0 k ∨ G1 k) ∧ k < w.heap.size)) (fun k hk h => ⟨.inl h, hk⟩)
 obtain ⟨a1, c1, rfl, -⟩ := ra0.slice
 have ra1 := ra1.sub (F' := (fun k => (G0 k ∨ G1 k) ∧ k < w.heap.size)) (fun k hk h => ⟨.inr (h), hk⟩)
 obtain ⟨a2, c2, rfl, -⟩ := ra1.slice
 refine enter (N := 26) Tryd.func76 rfl Tryd.ntmps76 rfl fun fr hF => ?_
 refine wp_seq (wp_pure [(0, L a1 p0 c1), (1, L a2 p1 c2)] hF (by kernel_rfl) fun fr hF => then_normal ?_)
 refine wp_seq ?_
 refine wp_seq (wp_pure [(0, L a1 p0 c1), (1, L a2 p1 c2), (10, .bool ((len p0) != (len p1)))] hF (by kernel_rfl) fun fr hF => then_normal ?_)
 refine (wp_if hF (b := ((len p0) != (len p1))) rfl (fun hb => ?_) (fun hb => ?_))
 · replace h := iteT hb h
   refine wp_seq (wp_pure [(4, .bool false)] hF (by kernel_rfl) fun fr hF => then_normal ?_)
   obtain rfl := Option.some.inj h
   exact wp_ret (then_ret (ret1 rfl hF rfl ⟨_, rfl, rfl, hM0.chg⟩))
 replace h := iteF hb h
 refine (wp_skip (then_normal ?_))
 refine wp_seq ?_
 refine wp_seq (wp_pure [(0, L a1 p0 c1), (1, L a2 p1 c2), (5, I 0)] hF (by kernel_rfl) fun fr hF => then_normal ?_)
 obtain ⟨rl1, hit1, h⟩ := bindE h
 have hk1 := h
 refine (GL.wp_cut (M := fun fr w' => ∃ s, rl1 = .inl s ∧ ∃ S2 F2, FrS 26 [] fr ∧ Mem w Non (fun k => (G0 k ∨ G1 k) ∧ k < w.heap.size) w' S2 F2 ∧ Sep [] w' S2) (wp_block (wp_iter (Inv := fun s1 fr w' => ∃ S1 F1, FrS 26 [(0, L a1 p0 c1), (1, L a2 p1 c2), (5, I s1)] fr ∧ Mem w Non (fun k => (G0 k ∨ G1 k) ∧ k < w.heap.size) w' S1 F1 ∧ Sep [] w' S1) hit1 ⟨Non, _, hF.sub _ (by kernel_rfl), (Mem.start hM0.bd hM0.bdF hM0.dj), hs⟩ fun s1 q1 fr w1i hI h hr1 => ?_)) fun fr w1o hM => ?_)
 · obtain ⟨S1, F1, hF, hM1, hs⟩ := hI
   have ra0 := ra0.mem hM1
   have ra1 := ra1.mem hM1
   refine wp_seq ?_
   refine wp_seq (wp_pure [(0, L a1 p0 c1), (1, L a2 p1 c2), (5, I s1), (14, .bool (decide (s1 < (len p0))))] hF (by kernel_rfl) fun fr hF => then_normal ?_)
   refine (wp_if hF (b := (decide (s1 < (len p0)))) rfl (fun hb => ?_) (fun hb => ?_))
   · replace h := iteT hb h
     refine (wp_skip (then_normal ?_))
     refine wp_seq (wp_block ?_)
     obtain ⟨x1, hx1, h⟩ := bindE h
     obtain ⟨x2, hx2, h⟩ := bindE h
     refine wp_seq (region_bm 9 [0, 0, 3, 7, 0, 0, 48, 112, 255] [true, true, false, false, true, true, false, false, true]
         [.eq (L a1 p0 c1), .eq (I s1), .is fun v w => ElemP w (fun k => k < w1i.heap.size) v (x1 : Int), .eq (I x1), .eq (L a2 p1 c2), .eq (I s1), .is fun v w => ElemP w (fun k => k < w1i.heap.size) v (x2 : Int), .eq (I x2), .eq (.bool (x1 != x2))]
         [(0, L a1 p0 c1), (1, L a2 p1 c2), (5, I s1), (25, .bool (x1 != x2))] mix hF (by kernel_rfl) (by kernel_rfl) (by kernel_rfl) (by kernel_rfl) ⟨(Pd.monoO_is mono_elem), Pd.monoO_eq, (Pd.monoO_is mono_elem), Pd.monoO_eq, trivial⟩ (fun ow hG => ⟨np_to ow (np_index hG hF ty3 Tryd.underlying61 rfl rfl (RV.sub (ra0) fun k hk _ => hk) rfl rfl (fun hg => ⟨get?_nn hx1, get?_at hx1⟩)), np_to ow (np_loadF (z := x1) (i := 2) hG hF ty3 rfl rfl rfl rfl rfl rfl rfl), np_to ow (np_index hG hF ty3 Tryd.underlying61 rfl rfl (RV.sub (ra1) fun k hk _ => hk) rfl rfl (fun hg => ⟨get?_nn hx2, get?_at hx2⟩)), np_to ow (np_loadF (z := x2) (i := 6) hG hF ty3 rfl rfl rfl rfl rfl rfl rfl), trivial⟩) (by kernel_rfl) fun ow fr w1 hF hE hc => ?_)
     have ra0 := ra0.ext hc
     have ra1 := ra1.ext hc
     have hs := hs.ext hc
     have hM1 := hM1.ext hc
     refine from_end rfl (then_normal ?_)
     refine (wp_if hF (b := (x1 != x2)) rfl (fun hb => ?_) (fun hb => ?_))
     · replace h := iteT hb h
       refine wp_seq (wp_pure [(4, .bool false)] hF (by kernel_rfl) fun fr hF => then_normal ?_)
       obtain rfl := hr1 _ (Option.some.inj h).symm
       obtain rfl := Option.some.inj hk1
       exact wp_ret (blk_ret (then_ret (then_ret (blk_ret (then_ret (ret1 rfl hF rfl ⟨_, rfl, rfl, (hM0.trans hM1).chg⟩))))))
     replace h := iteF hb h
     refine (wp_skip ?_)
     refine blk_normal (then_normal ?_)
     refine (wp_pure [(0, L a1 p0 c1), (1, L a2 p1 c2), (5, I (w64 (s1 + 1)))] hF (by kernel_rfl) fun fr hF => then_normal ?_)
     exact ⟨_, (Option.some.inj h).symm, S1, _, hF.sub _ (by kernel_rfl), hM1, hs⟩
   replace h := iteF hb h
   refine (wp_exit (then_exit (then_exit (blk_exit_eq ?_))))
   obtain rfl := hr1 _ (Option.some.inj h).symm
   exact then_normal ⟨_, rfl, S1, _, hF.sub _ (by kernel_rfl), hM1, hs⟩
 · obtain ⟨s1r, rfl, hM⟩ := hM
   obtain ⟨S2, F2, hF, hMx, hs⟩ := hM
   have hM0 := hM0.trans hMx
   refine wp_seq (wp_pure [(4, .bool true)] hF (by kernel_rfl) fun fr hF => then_normal ?_)
   obtain rfl := Option.some.inj h
   exact wp_ret (ret1 rfl hF rfl ⟨_, rfl, rfl, hM0.chg⟩)

theorem laws_eqIntSS_ok (n : Nat) (p0 : List (List Int)) (p1 : List (List Int)) {r : Bool} (h : laws_eqIntSS n p0 p1 = some r) {w : World} {G0 : Nat → Prop} {va0 : Value} (ra0 : RV w G0 va0 p0) {G1 : Nat → Prop} {va1 : Value} (ra1 : RV w G1 va1 p1) :
   Calls Tryd.prog 59 [va0, va1].toArray w fun e w' => ∃ v, e = .returned v ∧ v = .bool r ∧ Chg Non w w' := by
 unfold laws_eqIntSS at h
 have hs := Sep.nil w Non
 have hM0 : Mem w Non (fun k => (G0 k ∨ G1 k) ∧ k < w.heap.size) w Non (fun k => (G0 k ∨ G1 k) ∧ k < w.heap.size) := Mem.start (fun _ h => h.elim) (fun _ h => h.2) (fun _ h => h.elim)
 have ra0 := ra0.sub (F' := (fun k => (G0 k ∨ G1 k) ∧ k < w.heap.size)) (fun k hk h => ⟨.inl h, hk⟩)
 obtain ⟨a1, c1, rfl, -⟩ := ra0.slice
 have ra1 := ra1.sub (F' := (fun k => (G0 k ∨ G1 k) ∧ k < w.heap.size)) (fun k hk h => ⟨.inr (h), hk⟩)
 obtain ⟨a2, c2, rfl, -⟩ := ra1.slice
 refine enter (N := 27) Tryd.func59 rfl Tryd.ntmps59 rfl fun fr hF => ?_
 refine wp_seq (wp_pure [(0, L a1 p0 c1), (1, L a2 p1 c2)] hF (by kernel_rfl) fun fr hF => then_normal ?_)
 refine wp_seq ?_
 refine wp_seq (wp_pure [(0, L a1 p0 c1), (1, L a2 p1 c2), (10, .bool ((len p0) != (len p1)))] hF (by kernel_rfl) fun fr hF => then_normal ?_)
 refine (wp_if hF (b := ((len p0) != (len p1))) rfl (fun hb => ?_) (fun hb => ?_))
 · replace h := iteT hb h
   refine wp_seq (wp_pure [(4, .bool false)] hF (by kernel_rfl) fun fr hF => then_normal ?_)
   obtain rfl := Option.some.inj h
   exact wp_ret (then_ret (ret1 rfl hF rfl ⟨_, rfl, rfl, hM0.chg⟩))
 replace h := iteF hb h
 refine (wp_skip (then_normal ?_))
 refine wp_seq ?_
 refine wp_seq (wp_pure [(0, L a1 p0 c1), (1, L a2 p1 c2), (5, I 0)] hF (by kernel_rfl) fun fr hF => then_normal ?_)
 obtain ⟨rl1, hit1, h⟩ := bindE h
 have hk1 := h
 refine (GL.wp_cut (M := fun fr w' => ∃ s, rl1 = .inl s ∧ ∃ S2 F2, FrS 27 [] fr ∧ Mem w Non (fun k => (G0 k ∨ G1 k) ∧ k < w.heap.size) w' S2 F2 ∧ Sep [] w' S2) (wp_block (wp_iter (Inv := fun s1 fr w' => ∃ S1 F1, FrS 27 [(0, L a1 p0 c1), (1, L a2 p1 c2), (5, I s1)] fr ∧ Mem w Non (fun k => (G0 k ∨ G1 k) ∧ k < w.heap.size) w' S1 F1 ∧ Sep [] w' S1) hit1 ⟨Non, _, hF.sub _ (by kernel_rfl), (Mem.start hM0.bd hM0.bdF hM0.dj), hs⟩ fun s1 q1 fr w1i hI h hr1 => ?_)) fun fr w1o hM => ?_)
 · obtain ⟨S1, F1, hF, hM1, hs⟩ := hI
   have ra0 := ra0.mem hM1
   have ra1 := ra1.mem hM1
   refine wp_seq ?_
   refine wp_seq (wp_pure [(0, L a1 p0 c1), (1, L a2 p1 c2), (5, I s1), (14, .bool (decide (s1 < (len p0))))] hF (by kernel_rfl) fun fr hF => then_normal ?_)
   refine (wp_if hF (b := (decide (s1 < (len p0)))) rfl (fun hb => ?_) (fun hb => ?_))
   · replace h := iteT hb h
     refine (wp_skip (then_normal ?_))
     refine wp_seq (wp_block ?_)
     obtain ⟨x1, hx1, h⟩ := bindE h
     obtain ⟨x2, hx2, h⟩ := bindE h
     obtain ⟨x3, hx3, h⟩ := bindE h
     refine wp_seq (region_bm 10 [0, 0, 3, 7, 0, 0, 48, 112, 255, 511] [true, true, false, false, true, true, false, false, false, true]
         [.eq (L a1 p0 c1), .eq (I s1), .is fun v w => ElemP w (fun k => k < w1i.heap.size) v (x1 : List Int), .is fun v w => RV w (fun k => k < w.heap.size) v (x1 : List Int), .eq (L a2 p1 c2), .eq (I s1), .is fun v w => ElemP w (fun k => k < w1i.heap.size) v (x2 : List Int), .is fun v w => RV w (fun k => k < w.heap.size) v (x2 : List Int), .eq (.bool x3), .eq (.bool (!x3))]
         [(0, L a1 p0 c1), (1, L a2 p1 c2), (5, I s1), (26, .bool (!x3))] mix hF (by kernel_rfl) (by kernel_rfl) (by kernel_rfl) (by kernel_rfl) ⟨(Pd.monoO_is mono_elem), (Pd.monoO_is mono_rvb), (Pd.monoO_is mono_elem), (Pd.monoO_is mono_rvb), Pd.monoO_eq, trivial⟩ (fun ow hG => ⟨np_to ow (np_index hG hF ty61 Tryd.underlying43 rfl rfl (RV.sub (ra0) fun k hk _ => hk) rfl rfl (fun hg => ⟨get?_nn hx1, get?_at hx1⟩)), np_to ow (np_loadD (z := x1) (i := 2) hG hF ty61 rfl rfl rfl rfl rfl rfl), np_to ow (np_index hG hF ty61 Tryd.underlying43 rfl rfl (RV.sub (ra1) fun k hk _ => hk) rfl rfl (fun hg => ⟨get?_nn hx2, get?_at hx2⟩)), np_to ow (np_loadD (z := x2) (i := 6) hG hF ty61 rfl rfl rfl rfl rfl rfl), np_to ow (np_callI [.inr 3, .inr 7] hG hF Tryd.call76 rfl rfl (by kernel_rfl) (fun w vs hC hg ha => by obtain ⟨vq0, _, rfl, hq0, vq1, _, rfl, hq1, rfl⟩ := ha; exact (laws_eqIntS_ok n x1 x2 hx3 (show RV w (fun k => k < w.heap.size) vq0 x1 from hq0) (show RV w (fun k => k < w.heap.size) vq1 x2 from hq1)).mono fun e w' ⟨v, he, hv, hc⟩ => ⟨v, he, hc, hv⟩)), trivial⟩) (by kernel_rfl) fun ow fr w1 hF hE hc => ?_)
     have ra0 := ra0.ext hc
     have ra1 := ra1.ext hc
     have hs := hs.ext hc
     have hM1 := hM1.ext hc
     refine from_end rfl (then_normal ?_)
     refine (wp_if hF (b := (!x3)) rfl (fun hb => ?_) (fun hb => ?_))
     · replace h := iteT hb h
       refine wp_seq (wp_pure [(4, .bool false)] hF (by kernel_rfl) fun fr hF => then_normal ?_)
       obtain rfl := hr1 _ (Option.some.inj h).symm
       obtain rfl := Option.some.inj hk1
       exact wp_ret (blk_ret (then_ret (then_ret (blk_ret (then_ret (ret1 rfl hF rfl ⟨_, rfl, rfl, (hM0.trans hM1).chg⟩))))))
     replace h := iteF hb h
     refine (wp_skip ?_)
     refine blk_normal (then_normal ?_)
     refine (wp_pure [(0, L a1 p0 c1), (1, L a2 p1 c2), (5, I (w64 (s1 + 1)))] hF (by kernel_rfl) fun fr hF => then_normal ?_)
     exact ⟨_, (Option.some.inj h).symm, S1, _, hF.sub _ (by kernel_rfl), hM1, hs⟩
   replace h := iteF hb h
   refine (wp_exit (then_exit (then_exit (blk_exit_eq ?_))))
   obtain rfl := hr1 _ (Option.some.inj h).symm
   exact then_normal ⟨_, rfl, S1, _, hF.sub _ (by kernel_rfl), hM1, hs⟩
 · obtain ⟨s1r, rfl, hM⟩ := hM
   obtain ⟨S2, F2, hF, hMx, hs⟩ := hM
   have hM0 := hM0.trans hMx
   refine wp_seq (wp_pure [(4, .bool true)] hF (by kernel_rfl) fun fr hF => then_normal ?_)
   obtain rfl := Option.some.inj h
   exact wp_ret (ret1 rfl hF rfl ⟨_, rfl, rfl, hM0.chg⟩)

theorem laws_eqFormula_ok (n : Nat) (p0 : D.Formula) (p1 : D.Formula) {r : Bool} (h : laws_eqFormula n p0 p1 = some r) {w : World} {G0 : Nat → Prop} {va0 : Value} (ra0 : RV w G0 va0 p0) {G1 : Nat → Prop} {va1 : Value} (ra1 : RV w G1 va1 p1) :
   Calls Tryd.prog 20 [va0, va1].toArray w fun e w' => ∃ v, e = .returned v ∧ v = .bool r ∧ Chg Non w w' := by
 unfold laws_eqFormula at h
 have hs := Sep.nil w Non
 have hM0 : Mem w Non (fun k => (G0 k ∨ G1 k) ∧ k < w.heap.size) w Non (fun k => (G0 k ∨ G1 k) ∧ k < w.heap.size) := Mem.start (fun _ h => h.elim) (fun _ h => h.2) (fun _ h => h.elim)
 have ra0 := ra0.sub (F' := (fun k => (G0 k ∨ G1 k) ∧ k < w.heap.size)) (fun k hk h => ⟨.inl h, hk⟩)
 obtain ⟨v1, rfl, r1⟩ := RV.Formula ra0
 obtain ⟨a1, c1, rfl, -⟩ := r1.slice
 have ra1 := ra1.sub (F' := (fun k => (G0 k ∨ G1 k) ∧ k < w.heap.size)) (fun k hk h => ⟨.inr (h), hk⟩)
 obtain ⟨v2, rfl, r2⟩ := RV.Formula ra1
 obtain ⟨a2, c2, rfl, -⟩ := r2.slice
 refine enter (N := 16) Tryd.func20 rfl Tryd.ntmps20 rfl fun fr hF => ?_
 refine wp_seq (wp_text' ?_)
 refine q_box hs hM0 [I p0.Vars, L a1 p0.Clauses c1] rfl rfl hF rfl rfl fun b1 w1 S1 fr hs hp hF => ?_
 have r1 := r1.stp hM0 hp
 have r2 := r2.stp hM0 hp
 have hM0 := hM0.stp hp
 have hs : Sep [BX b1 45 [I p0.Vars, L a1 p0.Clauses c1]] w1 S1 := hs
 refine q_box hs hM0 [I p1.Vars, L a2 p1.Clauses c2] rfl rfl hF rfl rfl fun b2 w2 S2 fr hs hp hF => ?_
 have r2 := r2.stp hM0 hp
 have r1 := r1.stp hM0 hp
 have hM0 := hM0.stp hp
 have hs : Sep [BX b2 45 [I p1.Vars, L a2 p1.Clauses c2], BX b1 45 [I p0.Vars, L a1 p0.Clauses c1]] w2 S2 := hs
 refine from_pure 1 [(2, B b1 0), (3, B b2 0)] hF (by kernel_rfl) fun fr hF => ?_
 refine from_end rfl (then_normal ?_)
 refine wp_seq ?_
 refine wp_seq (wp_text' ?_)
 refine from_pure 1 [(2, B b1 0), (3, B b2 0), (5, B b1 0)] hF (by kernel_rfl) fun fr hF => ?_
 refine s_loadBox (I p0.Vars) ty3 rfl rfl hF rfl (hs.bx 1 rfl) rfl rfl fun fr hF => ?_
 refine from_pure 1 [(2, B b1 0), (3, B b2 0), (6, I p0.Vars), (7, B b2 0)] hF (by kernel_rfl) fun fr hF => ?_
 refine s_loadBox (I p1.Vars) ty3 rfl rfl hF rfl (hs.bx 0 rfl) rfl rfl fun fr hF => ?_
 refine from_pure 1 [(2, B b1 0), (3, B b2 0), (9, .bool (p0.Vars != p1.Vars))] hF (by kernel_rfl) fun fr hF => ?_
 refine from_end rfl (then_normal ?_)
 refine (wp_if hF (b := (p0.Vars != p1.Vars)) rfl (fun hb => ?_) (fun hb => ?_))
 · replace h := iteT hb h
   have hs : Sep [] w2 S2 := Sep.pick [] hs (by decide) rfl
   refine wp_seq (wp_pure [(4, .bool false)] hF (by kernel_rfl) fun fr hF => then_normal ?_)
   obtain rfl := Option.some.inj h
   exact wp_ret (then_ret (ret1 rfl hF rfl ⟨_, rfl, rfl, hM0.chg⟩))
 replace h := iteF hb h
 refine (wp_skip (then_normal ?_))
 refine wp_seq ?_
 refine wp_seq (wp_text' ?_)
 refine from_pure 1 [(3, B b2 0), (10, B b1 1)] hF (by kernel_rfl) fun fr hF => ?_
 refine s_loadBox (L a1 p0.Clauses c1) ty43 rfl rfl hF rfl (hs.bx 1 rfl) rfl rfl fun fr hF => ?_
 have hs : Sep [BX b2 45 [I p1.Vars, L a2 p1.Clauses c2]] w2 S2 := Sep.pick [0] hs (by decide) rfl
 refine from_pure 1 [(11, L a1 p0.Clauses c1), (12, B b2 1)] hF (by kernel_rfl) fun fr hF => ?_
 refine s_loadBox (L a2 p1.Clauses c2) ty43 rfl rfl hF rfl (hs.bx 0 rfl) rfl rfl fun fr hF => ?_
 have hs : Sep [] w2 S2 := Sep.pick [] hs (by decide) rfl
 obtain ⟨x1, hx1, h⟩ := bindE h
 refine s_call [L a1 p0.Clauses c1, L a2 p1.Clauses c2] Tryd.call59 rfl rfl hF rfl (laws_eqIntSS_ok n p0.Clauses p1.Clauses hx1 (r1) (r2)) fun v w3 fr hRes hF => ?_
 obtain ⟨rfl, hc⟩ := hRes
 have r1 := r1.ext hc
 have r2 := r2.ext hc
 have hs := hs.ext hc
 have hM0 := hM0.ext hc
 refine from_pure 1 [(15, .bool (!x1))] hF (by kernel_rfl) fun fr hF => ?_
 refine from_end rfl (then_normal ?_)
 refine (wp_if hF (b := (!x1)) rfl (fun hb => ?_) (fun hb => ?_))
 · replace h := iteT hb h
   refine wp_seq (wp_pure [(4, .bool false)] hF (by kernel_rfl) fun fr hF => then_normal ?_)
   obtain rfl := Option.some.inj h
   exact wp_ret (then_ret (ret1 rfl hF rfl ⟨_, rfl, rfl, hM0.chg⟩))
 replace h := iteF hb h
 refine (wp_skip (then_normal ?_))
 refine wp_seq (wp_pure [(4, .bool true)] hF (by kernel_rfl) fun fr hF => then_normal ?_)
 obtain rfl := Option.some.inj h
 exact wp_ret (ret1 rfl hF rfl ⟨_, rfl, rfl, hM0.chg⟩)

theorem laws_markIntS_ok (n : Nat) (p0 : List Int) (p1 : Int) {r : Int × (List Int)} (h : laws_markIntS n p0 p1 = some r) {w : World} {S0 F0 : Nat → Prop} {pa0 : Option Addr} {pn0 pc0 : Nat} (hs : Sep [sl3 (.slice pa0 pn0 pc0) p0] w S0) (hb : ∀ k, S0 k → k < w.heap.size) (hd : ∀ k, S0 k → F0 k → False) :
   Calls Tryd.prog 77 [.slice pa0 pn0 pc0, I p1].toArray w fun e w' => ∃ v, e = .returned v ∧ v = I r.1 ∧ ∃ S', Stp w S0 w' S' ∧ Sep [sl3 (.slice pa0 pn0 pc0) r.2] w' S' := by
 unfold laws_markIntS at h
 obtain ⟨hpn, hs⟩ := hs.relen 0 rfl
 subst hpn
 have hs : Sep [sl3 (L pa0 p0 pc0) p0] w S0 := hs
 have hM0 : Mem w S0 (fun k => F0 k ∧ k < w.heap.size) w S0 (fun k => F0 k ∧ k < w.heap.size) := Mem.start hb (fun _ h => h.2) (fun k h1 h2 => hd k h1 h2.1)
 refine enter (N := 19) Tryd.func77 rfl Tryd.ntmps77 rfl fun fr hF => ?_
 refine wp_seq (wp_pure [(0, L pa0 p0 pc0), (1, I p1)] hF (by kernel_rfl) fun fr hF => then_normal ?_)
 refine wp_seq ?_
 refine wp_seq (wp_pure [(0, L pa0 p0 pc0), (1, I p1), (5, I 0)] hF (by kernel_rfl) fun fr hF => then_normal ?_)
 obtain ⟨rl1, hit1, h⟩ := bindE h
 have hk1 := h
 refine (GL.wp_cut (M := fun fr w' => ∃ S2 F2, FrS 19 [(1, I rl1.1)] fr ∧ Mem w S0 (fun k => F0 k ∧ k < w.heap.size) w' S2 F2 ∧ Sep [sl3 (L pa0 p0 pc0) rl1.2] w' S2) (wp_block (wp_iter (Inv := fun s1 fr w' => ∃ S1 F1, FrS 19 [(0, L pa0 p0 pc0), (1, I s1.1), (5, I s1.2.1)] fr ∧ Mem w S0 (fun k => F0 k ∧ k < w.heap.size) w' S1 F1 ∧ Sep [sl3 (L pa0 p0 pc0) s1.2.2] w' S1) hit1 ⟨S0, _, hF.sub _ (by kernel_rfl), (Mem.start hM0.bd hM0.bdF hM0.dj), hs⟩ fun s1 q1 fr w1i hI h hr1 => ?_)) fun fr w1o hM => ?_)
 · obtain ⟨S1, F1, hF, hM1, hs⟩ := hI
   refine wp_seq ?_
   refine wp_seq (wp_pure [(0, L pa0 p0 pc0), (1, I s1.1), (5, I s1.2.1), (9, .bool (decide (s1.2.1 < (len p0))))] hF (by kernel_rfl) fun fr hF => then_normal ?_)
   refine (wp_if hF (b := (decide (s1.2.1 < (len p0)))) rfl (fun hb => ?_) (fun hb => ?_))
   · replace h := iteT hb h
     refine (wp_skip (then_normal ?_))
     refine wp_seq (wp_block ?_)
     refine wp_seq (wp_text' ?_)
     refine from_pure 3 [(0, L pa0 p0 pc0), (1, I s1.1), (5, I s1.2.1), (12, L pa0 p0 pc0), (13, I s1.2.1), (14, I s1.1)] hF (by kernel_rfl) fun fr hF => ?_
     obtain ⟨x1, hx1, h⟩ := bindE h
     refine q_set (q := s1.1) 0 hs hM1 rfl Tryd.underlying61 ty3 rfl rfl rfl rfl hF rfl rfl (by simp) rfl rfl hx1 fun w1 S3 fr _ hs hp hF => ?_
     have hM1 := hM1.stp hp
     have hs : Sep [sl3 (L pa0 p0 pc0) x1] w1 S3 := hs
     refine from_end rfl (then_normal ?_)
     refine (wp_pure [(0, L pa0 p0 pc0), (1, I (w64 (s1.1 + 1))), (5, I s1.2.1)] hF (by kernel_rfl) fun fr hF => ?_)
     refine blk_normal (then_normal ?_)
     refine (wp_pure [(0, L pa0 p0 pc0), (1, I (w64 (s1.1 + 1))), (5, I (w64 (s1.2.1 + 1)))] hF (by kernel_rfl) fun fr hF => then_normal ?_)
     exact ⟨_, (Option.some.inj h).symm, S3, _, hF.sub _ (by kernel_rfl), hM1, hs⟩
   replace h := iteF hb h
   refine (wp_exit (then_exit (then_exit (blk_exit_eq ?_))))
   obtain rfl := hr1 _ (Option.some.inj h).symm
   exact then_normal ⟨S1, _, hF.sub _ (by kernel_rfl), hM1, hs⟩
 · obtain ⟨S2, F2, hF, hMx, hs⟩ := hM
   have hM0 := hM0.trans hMx
   refine wp_seq (wp_pure [(4, I rl1.1)] hF (by kernel_rfl) fun fr hF => then_normal ?_)
   obtain rfl := Option.some.inj h
   exact wp_ret (ret1 rfl hF rfl ⟨_, rfl, rfl, S2, hM0.out, hs⟩)

theorem laws_markIntSS_ok (n : Nat) (p0 : List (List Int)) (p1 : Int) {r : Int × (List (List Int))} (h : laws_markIntSS n p0 p1 = some r) {w : World} {S0 F0 : Nat → Prop} {pa0 : Option Addr} {pn0 pc0 : Nat} {pr0 : List Hd} (hs : Sep [sl61 (.slice pa0 pn0 pc0) pr0, HP.all own61 pr0 p0] w S0) (hb : ∀ k, S0 k → k < w.heap.size) (hd : ∀ k, S0 k → F0 k → False) :
   Calls Tryd.prog 60 [.slice pa0 pn0 pc0, I p1].toArray w fun e w' => ∃ v, e = .returned v ∧ ∃ rs1, v = I r.1 ∧ ∃ S', Stp w S0 w' S' ∧ Sep [sl61 (.slice pa0 pn0 pc0) rs1, HP.all own61 rs1 r.2] w' S' := by
 unfold laws_markIntSS at h
 obtain ⟨hpn, hs⟩ := hs.relenD 0 1 rfl rfl
 subst hpn
 have hs : Sep [sl61 (L pa0 p0 pc0) pr0, HP.all own61 pr0 p0] w S0 := hs
 have hM0 : Mem w S0 (fun k => F0 k ∧ k < w.heap.size) w S0 (fun k => F0 k ∧ k < w.heap.size) := Mem.start hb (fun _ h => h.2) (fun k h1 h2 => hd k h1 h2.1)
 refine enter (N := 19) Tryd.func60 rfl Tryd.ntmps60 rfl fun fr hF => ?_
 refine wp_seq (wp_pure [(0, L pa0 p0 pc0), (1, I p1)] hF (by kernel_rfl) fun fr hF => then_normal ?_)
 refine wp_seq ?_
 refine wp_seq (wp_pure [(0, L pa0 p0 pc0), (1, I p1), (5, I 0)] hF (by kernel_rfl) fun fr hF => then_normal ?_)
 obtain ⟨rl1, hit1, h⟩ := bindE h
 have hk1 := h
 refine (GL.wp_cut (M := fun fr w' => ∃ rs2 S2 F2, FrS 19 [(1, I rl1.1)] fr ∧ Mem w S0 (fun k => F0 k ∧ k < w.heap.size) w' S2 F2 ∧ Sep [sl61 (L pa0 p0 pc0) rs2, HP.all own61 rs2 rl1.2] w' S2) (wp_block (wp_iter (Inv := fun s1 fr w' => ∃ rs1 S1 F1, FrS 19 [(0, L pa0 p0 pc0), (1, I s1.1), (5, I s1.2.1)] fr ∧ Mem w S0 (fun k => F0 k ∧ k < w.heap.size) w' S1 F1 ∧ Sep [sl61 (L pa0 p0 pc0) rs1, HP.all own61 rs1 s1.2.2] w' S1) hit1 ⟨pr0, S0, _, hF.sub _ (by kernel_rfl), (Mem.start hM0.bd hM0.bdF hM0.dj), hs⟩ fun s1 q1 fr w1i hI h hr1 => ?_)) fun fr w1o hM => ?_)
 · obtain ⟨rs1, S1, F1, hF, hM1, hs⟩ := hI
   refine wp_seq ?_
   refine wp_seq (wp_pure [(0, L pa0 p0 pc0), (1, I s1.1), (5, I s1.2.1), (9, .bool (decide (s1.2.1 < (len p0))))] hF (by kernel_rfl) fun fr hF => then_normal ?_)
   refine (wp_if hF (b := (decide (s1.2.1 < (len p0)))) rfl (fun hb => ?_) (fun hb => ?_))
   · replace h := iteT hb h
     refine (wp_skip (then_normal ?_))
     refine wp_seq (wp_block ?_)
     refine (wp_text' ?_)
     refine from_pure 2 [(0, L pa0 p0 pc0), (1, I s1.1), (5, I s1.2.1), (12, L pa0 p0 pc0), (13, I s1.2.1)] hF (by kernel_rfl) fun fr hF => ?_
     obtain ⟨x1, hx1, h⟩ := bindE h
     refine q_getDs (z := x1) owns61 0 1 hs rfl rfl rty61 Tryd.underlying43 rfl rfl rfl rfl rfl hF rfl rfl hx1 fun a1 c1 _ fr hr1 hF => ?_
     refine from_pure 1 [(0, L pa0 p0 pc0), (5, I s1.2.1), (15, L a1 x1 c1), (16, I s1.1)] hF (by kernel_rfl) fun fr hF => ?_
     have hs : Sep [HP.all own61 rs1 s1.2.2, sl61 (L pa0 p0 pc0) rs1] w1i S1 := Sep.pick [1, 0] hs (by decide) rfl
     have hl1 := hs.dlen 0 rfl
     have hs : Sep [sl3 (L a1 x1 c1) x1, HP.but own61 (s1.2.1).toNat rs1 s1.2.2, sl61 (L pa0 p0 pc0) rs1] w1i S1 := Sep.focus hs hr1 hx1
     obtain ⟨x2, hx2, h⟩ := bindE h
     obtain ⟨A1, R1, hsA, hsR, hdA, hbA, hup⟩ := Sep.call (L1 := [sl3 (L a1 x1 c1) x1]) (L2 := [HP.but own61 (s1.2.1).toNat rs1 s1.2.2, sl61 (L pa0 p0 pc0) rs1]) hs hM1
     refine s_call [L a1 x1 c1, I s1.1] Tryd.call77 rfl rfl hF rfl (laws_markIntS_ok n x1 s1.1 hx2 hsA hbA hdA) fun v w1 fr hRes hF => ?_
     obtain ⟨rfl, _, hp, hs⟩ := hRes
     obtain ⟨S3, hp, hs⟩ := hup hp hs
     have hM1 := hM1.stp hp
     have hs : Sep [sl3 (L a1 x1 c1) x2.2, HP.but own61 (s1.2.1).toNat rs1 s1.2.2, sl61 (L pa0 p0 pc0) rs1] w1 S3 := hs
     obtain ⟨x3, hx3, h⟩ := bindE h
     have hs : Sep [HP.all own61 rs1 x3, sl61 (L pa0 p0 pc0) rs1] w1 S3 := Sep.fill (own := own61) (r := (⟨a1, List.length x1, c1⟩ : Hd)) (n := s1.2.1) (z := x2.2) (xs := s1.2.2) hs hl1 hr1 hx3
     refine from_pure 1 [(0, L pa0 p0 pc0), (1, I x2.1), (5, I s1.2.1)] hF (by kernel_rfl) fun fr hF => ?_
     refine from_end rfl ?_
     refine blk_normal (then_normal ?_)
     refine (wp_pure [(0, L pa0 p0 pc0), (1, I x2.1), (5, I (w64 (s1.2.1 + 1)))] hF (by kernel_rfl) fun fr hF => then_normal ?_)
     have hs : Sep [sl61 (L pa0 p0 pc0) rs1, HP.all own61 rs1 x3] w1 S3 := Sep.pick [1, 0] hs (by decide) rfl
     exact ⟨_, (Option.some.inj h).symm, rs1, S3, _, hF.sub _ (by kernel_rfl), hM1, hs⟩
   replace h := iteF hb h
   refine (wp_exit (then_exit (then_exit (blk_exit_eq ?_))))
   obtain rfl := hr1 _ (Option.some.inj h).symm
   exact then_normal ⟨rs1, S1, _, hF.sub _ (by kernel_rfl), hM1, hs⟩
 · obtain ⟨rs2, S2, F2, hF, hMx, hs⟩ := hM
   have hM0 := hM0.trans hMx
   refine wp_seq (wp_pure [(4, I rl1.1)] hF (by kernel_rfl) fun fr hF => then_normal ?_)
   obtain rfl := Option.some.inj h
   exact wp_ret (ret1 rfl hF rfl ⟨_, rfl, rs2, rfl, S2, hM0.out, hs⟩)

theorem laws_markFormula_ok (n : Nat) (p0 : D.Formula) (p1 : Int) {r : Int × D.Formula} (h : laws_markFormula n p0 p1 = some r) {w : World} {S0 F0 : Nat → Prop} {pa0 : Option Addr} {pn0 pc0 : Nat} {pr0 : List Hd} (hs : Sep [sl61 (.slice pa0 pn0 pc0) pr0, HP.all own61 pr0 p0.Clauses] w S0) (hb : ∀ k, S0 k → k < w.heap.size) (hd : ∀ k, S0 k → F0 k → False) :
   Calls Tryd.prog 21 [.agg #[I p0.Vars, .slice pa0 pn0 pc0], I p1].toArray w fun e w' => ∃ v, e = .returned v ∧ ∃ rs1, v = I r.1 ∧ ∃ S', Stp w S0 w' S' ∧ Sep [sl61 (.slice pa0 pn0 pc0) rs1, HP.all own61 rs1 r.2.Clauses] w' S' := by
 unfold laws_markFormula at h
 obtain ⟨hpn, hs⟩ := hs.relenD 0 1 rfl rfl
 subst hpn
 have hs : Sep [sl61 (L pa0 p0.Clauses pc0) pr0, HP.all own61 pr0 p0.Clauses] w S0 := hs
 have hM0 : Mem w S0 (fun k => F0 k ∧ k < w.heap.size) w S0 (fun k => F0 k ∧ k < w.heap.size) := Mem.start hb (fun _ h => h.2) (fun k h1 h2 => hd k h1 h2.1)
 refine enter (N := 10) Tryd.func21 rfl Tryd.ntmps21 rfl fun fr hF => ?_
 refine wp_seq (wp_text' ?_)
 refine q_box hs hM0 [I p0.Vars, L pa0 p0.Clauses pc0] rfl rfl hF rfl rfl fun b1 w1 S1 fr hs hp hF => ?_
 have hM0 := hM0.stp hp
 have hs : Sep [BX b1 45 [I p0.Vars, L pa0 p0.Clauses pc0], sl61 (L pa0 p0.Clauses pc0) pr0, HP.all own61 pr0 p0.Clauses] w1 S1 := hs
 refine from_pure 1 [(1, I p1), (2, B b1 0)] hF (by kernel_rfl) fun fr hF => ?_
 refine from_end rfl (then_normal ?_)
 refine wp_seq (wp_text' ?_)
 refine from_pure 1 [(1, I p1), (5, B b1 1)] hF (by kernel_rfl) fun fr hF => ?_
 refine s_loadBox (L pa0 p0.Clauses pc0) ty43 rfl rfl hF rfl (hs.bx 0 rfl) rfl rfl fun fr hF => ?_
 have hs : Sep [sl61 (L pa0 p0.Clauses pc0) pr0, HP.all own61 pr0 p0.Clauses] w1 S1 := Sep.pick [1, 2] hs (by decide) rfl
 refine from_pure 1 [(6, L pa0 p0.Clauses pc0), (7, I p1)] hF (by kernel_rfl) fun fr hF => ?_
 obtain ⟨x1, hx1, h⟩ := bindE h
 obtain ⟨A1, R1, hsA, hsR, hdA, hbA, hup⟩ := Sep.call (L1 := [sl61 (L pa0 p0.Clauses pc0) pr0, HP.all own61 pr0 p0.Clauses]) (L2 := []) hs hM0
 refine s_call [L pa0 p0.Clauses pc0, I p1] Tryd.call60 rfl rfl hF rfl (laws_markIntSS_ok n p0.Clauses p1 hx1 hsA hbA hdA) fun v w2 fr hRes hF => ?_
 obtain ⟨rs1, rfl, _, hp, hs⟩ := hRes
 obtain ⟨S2, hp, hs⟩ := hup hp hs
 have hM0 := hM0.stp hp
 have hs : Sep [sl61 (L pa0 p0.Clauses pc0) rs1, HP.all own61 rs1 x1.2] w2 S2 := hs
 refine from_pure 1 [(1, I x1.1)] hF (by kernel_rfl) fun fr hF => ?_
 refine from_end rfl (then_normal ?_)
 refine wp_seq (wp_pure [(4, I x1.1)] hF (by kernel_rfl) fun fr hF => then_normal ?_)
 obtain rfl := Option.some.inj h
 exact wp_ret (ret1 rfl hF rfl ⟨_, rfl, rs1, rfl, S2, hM0.out, hs⟩)

theorem laws_heldIntS_ok (n : Nat) (p0 : List Int) (p1 : Int) {r : Int} (h : laws_heldIntS n p0 p1 = some r) {w : World} {G0 : Nat → Prop} {va0 : Value} (ra0 : RV w G0 va0 p0) :
   Calls Tryd.prog 78 [va0, I p1].toArray w fun e w' => ∃ v, e = .returned v ∧ v = I r ∧ Chg Non w w' := by
 unfold laws_heldIntS at h
 have hs := Sep.nil w Non
 have hM0 : Mem w Non (fun k => (G0 k) ∧ k < w.heap.size) w Non (fun k => (G0 k) ∧ k < w.heap.size) := Mem.start (fun _ h => h.elim) (fun _ h => h.2) (fun _ h => h.elim)
 have ra0 := ra0.sub (F' := (fun k => (G0 k) ∧ k < w.heap.size)) (fun k hk h => ⟨h, hk⟩)
 obtain ⟨a1, c1, rfl, -⟩ := ra0.slice
 refine enter (N := 21) Tryd.func78 rfl Tryd.ntmps78 rfl fun fr hF => ?_
 refine wp_seq (wp_pure [(0, L a1 p0 c1), (1, I p1)] hF (by kernel_rfl) fun fr hF => then_normal ?_)
 refine wp_seq ?_
 refine wp_seq (wp_pure [(0, L a1 p0 c1), (1, I p1), (5, I 0)] hF (by kernel_rfl) fun fr hF => then_normal ?_)
 obtain ⟨rl1, hit1, h⟩ := bindE h
 have hk1 := h
 refine (GL.wp_cut (M := fun fr w' => ∃ s, rl1 = .inl s ∧ ∃ S2 F2, FrS 21 [(1, I s)] fr ∧ Mem w Non (fun k => (G0 k) ∧ k < w.heap.size) w' S2 F2 ∧ Sep [] w' S2) (wp_block (wp_iter (Inv := fun s1 fr w' => ∃ S1 F1, FrS 21 [(0, L a1 p0 c1), (1, I s1.1), (5, I s1.2)] fr ∧ Mem w Non (fun k => (G0 k) ∧ k < w.heap.size) w' S1 F1 ∧ Sep [] w' S1) hit1 ⟨Non, _, hF.sub _ (by kernel_rfl), (Mem.start hM0.bd hM0.bdF hM0.dj), hs⟩ fun s1 q1 fr w1i hI h hr1 => ?_)) fun fr w1o hM => ?_)
 · obtain ⟨S1, F1, hF, hM1, hs⟩ := hI
   have ra0 := ra0.mem hM1
   refine wp_seq ?_
   refine wp_seq (wp_pure [(0, L a1 p0 c1), (1, I s1.1), (5, I s1.2), (9, .bool (decide (s1.2 < (len p0))))] hF (by kernel_rfl) fun fr hF => then_normal ?_)
   refine (wp_if hF (b := (decide (s1.2 < (len p0)))) rfl (fun hb => ?_) (fun hb => ?_))
   · replace h := iteT hb h
     refine (wp_skip (then_normal ?_))
     refine wp_seq (wp_block ?_)
     refine wp_seq ?_
     refine wp_seq (wp_text' ?_)
     refine from_pure 2 [(0, L a1 p0 c1), (1, I s1.1), (5, I s1.2), (12, L a1 p0 c1), (13, I s1.2)] hF (by kernel_rfl) fun fr hF => ?_
     obtain ⟨x1, hx1, h⟩ := bindE h
     refine s_elemF (z := x1) (I x1) ty3 Tryd.underlying61 rfl rfl rfl rfl rfl hF rfl (ra0) rfl (get?_nn hx1) (get?_at hx1) rfl fun p fr hF => ?_
     refine from_pure 2 [(0, L a1 p0 c1), (1, I s1.1), (5, I s1.2), (17, .bool (x1 != s1.1))] hF (by kernel_rfl) fun fr hF => ?_
     refine from_end rfl (then_normal ?_)
     refine (wp_if hF (b := (x1 != s1.1)) rfl (fun hb => ?_) (fun hb => ?_))
     · replace h := iteT hb h
       refine wp_seq (wp_pure [(4, I (-1))] hF (by kernel_rfl) fun fr hF => then_normal ?_)
       obtain rfl := hr1 _ (Option.some.inj h).symm
       obtain rfl := Option.some.inj hk1
       exact wp_ret (then_ret (blk_ret (then_ret (then_ret (blk_ret (then_ret (ret1 rfl hF rfl ⟨_, rfl, rfl, (hM0.trans hM1).chg⟩)))))))
     replace h := iteF hb h
     refine (wp_skip (then_normal ?_))
     refine (wp_pure [(0, L a1 p0 c1), (1, I (w64 (s1.1 + 1))), (5, I s1.2)] hF (by kernel_rfl) fun fr hF => ?_)
     refine blk_normal (then_normal ?_)
     refine (wp_pure [(0, L a1 p0 c1), (1, I (w64 (s1.1 + 1))), (5, I (w64 (s1.2 + 1)))] hF (by kernel_rfl) fun fr hF => then_normal ?_)
     exact ⟨_, (Option.some.inj h).symm, S1, _, hF.sub _ (by kernel_rfl), hM1, hs⟩
   replace h := iteF hb h
   refine (wp_exit (then_exit (then_exit (blk_exit_eq ?_))))
   obtain rfl := hr1 _ (Option.some.inj h).symm
   exact then_normal ⟨_, rfl, S1, _, hF.sub _ (by kernel_rfl), hM1, hs⟩
 · obtain ⟨s1r, rfl, hM⟩ := hM
   obtain ⟨S2, F2, hF, hMx, hs⟩ := hM
   have hM0 := hM0.trans hMx
   refine wp_seq (wp_pure [(4, I s1r)] hF (by kernel_rfl) fun fr hF => then_normal ?_)
   obtain rfl := Option.some.inj h
   exact wp_ret (ret1 rfl hF rfl ⟨_, rfl, rfl, hM0.chg⟩)

theorem laws_heldIntSS_ok (n : Nat) (p0 : List (List Int)) (p1 : Int) {r : Int} (h : laws_heldIntSS n p0 p1 = some r) {w : World} {G0 : Nat → Prop} {va0 : Value} (ra0 : RV w G0 va0 p0) :
   Calls Tryd.prog 61 [va0, I p1].toArray w fun e w' => ∃ v, e = .returned v ∧ v = I r ∧ Chg Non w w' := by
 unfold laws_heldIntSS at h
 have hs := Sep.nil w Non
 have hM0 : Mem w Non (fun k => (G0 k) ∧ k < w.heap.size) w Non (fun k => (G0 k) ∧ k < w.heap.size) := Mem.start (fun _ h => h.elim) (fun _ h => h.2) (fun _ h => h.elim)
 have ra0 := ra0.sub (F' := (fun k => (G0 k) ∧ k < w.heap.size)) (fun k hk h => ⟨h, hk⟩)
 obtain ⟨a1, c1, rfl, -⟩ := ra0.slice
 refine enter (N := 21) Tryd.func61 rfl Tryd.ntmps61 rfl fun fr hF => ?_
 refine wp_seq (wp_pure [(0, L a1 p0 c1), (1, I p1)] hF (by kernel_rfl) fun fr hF => then_normal ?_)
 refine wp_seq ?_
 refine wp_seq (wp_pure [(0, L a1 p0 c1), (1, I p1), (5, I 0)] hF (by kernel_rfl) fun fr hF => then_normal ?_)
 obtain ⟨rl1, hit1, h⟩ := bindE h
 have hk1 := h
 refine (GL.wp_cut (M := fun fr w' => ∃ s, rl1 = .inl s ∧ ∃ S2 F2, FrS 21 [(1, I s)] fr ∧ Mem w Non (fun k => (G0 k) ∧ k < w.heap.size) w' S2 F2 ∧ Sep [] w' S2) (wp_block (wp_iter (Inv := fun s1 fr w' => ∃ S1 F1, FrS 21 [(0, L a1 p0 c1), (1, I s1.1), (5, I s1.2)] fr ∧ Mem w Non (fun k => (G0 k) ∧ k < w.heap.size) w' S1 F1 ∧ Sep [] w' S1) hit1 ⟨Non, _, hF.sub _ (by kernel_rfl), (Mem.start hM0.bd hM0.bdF hM0.dj), hs⟩ fun s1 q1 fr w1i hI h hr1 => ?_)) fun fr w1o hM => ?_)
 · obtain ⟨S1, F1, hF, hM1, hs⟩ := hI
   have ra0 := ra0.mem hM1
   refine wp_seq ?_
   refine wp_seq (wp_pure [(0, L a1 p0 c1), (1, I s1.1), (5, I s1.2), (9, .bool (decide (s1.2 < (len p0))))] hF (by kernel_rfl) fun fr hF => then_normal ?_)
   refine (wp_if hF (b := (decide (s1.2 < (len p0)))) rfl (fun hb => ?_) (fun hb => ?_))
   · replace h := iteT hb h
     refine (wp_skip (then_normal ?_))
     refine wp_seq (wp_block ?_)
     refine wp_seq (wp_text' ?_)
     refine from_pure 2 [(0, L a1 p0 c1), (1, I s1.1), (5, I s1.2), (12, L a1 p0 c1), (13, I s1.2)] hF (by kernel_rfl) fun fr hF => ?_
     obtain ⟨x1, hx1, h⟩ := bindE h
     refine s_elem (z := x1) ty61 Tryd.underlying43 rfl rfl rfl rfl rfl hF rfl (ra0) rfl (get?_nn hx1) (get?_at hx1) fun p v1 fr r1 hF => ?_
     obtain ⟨a2, c2, rfl, -⟩ := r1.slice
     refine from_pure 1 [(0, L a1 p0 c1), (5, I s1.2), (15, L a2 x1 c2), (16, I s1.1)] hF (by kernel_rfl) fun fr hF => ?_
     obtain ⟨x2, hx2, h⟩ := bindE h
     refine s_call [L a2 x1 c2, I s1.1] Tryd.call78 rfl rfl hF rfl (laws_heldIntS_ok n x1 s1.1 hx2 (r1)) fun v w1 fr hRes hF => ?_
     obtain ⟨rfl, hc⟩ := hRes
     have ra0 := ra0.ext hc
     have r1 := r1.ext hc
     have hs := hs.ext hc
     have hM1 := hM1.ext hc
     refine from_pure 1 [(0, L a1 p0 c1), (1, I x2), (5, I s1.2)] hF (by kernel_rfl) fun fr hF => ?_
     refine from_end rfl (then_normal ?_)
     refine wp_seq (wp_pure [(0, L a1 p0 c1), (1, I x2), (5, I s1.2), (19, .bool (decide (x2 < 0)))] hF (by kernel_rfl) fun fr hF => then_normal ?_)
     refine (wp_if hF (b := (decide (x2 < 0))) rfl (fun hb => ?_) (fun hb => ?_))
     · replace h := iteT hb h
       refine wp_seq (wp_pure [(4, I (-1))] hF (by kernel_rfl) fun fr hF => then_normal ?_)
       obtain rfl := hr1 _ (Option.some.inj h).symm
       obtain rfl := Option.some.inj hk1
       exact wp_ret (blk_ret (then_ret (then_ret (blk_ret (then_ret (ret1 rfl hF rfl ⟨_, rfl, rfl, (hM0.trans hM1).chg⟩))))))
     replace h := iteF hb h
     refine (wp_skip ?_)
     refine blk_normal (then_normal ?_)
     refine (wp_pure [(0, L a1 p0 c1), (1, I x2), (5, I (w64 (s1.2 + 1)))] hF (by kernel_rfl) fun fr hF => then_normal ?_)
     exact ⟨_, (Option.some.inj h).symm, S1, _, hF.sub _ (by kernel_rfl), hM1, hs⟩
   replace h := iteF hb h
   refine (wp_exit (then_exit (then_exit (blk_exit_eq ?_))))
   obtain rfl := hr1 _ (Option.some.inj h).symm
   exact then_normal ⟨_, rfl, S1, _, hF.sub _ (by kernel_rfl), hM1, hs⟩
 · obtain ⟨s1r, rfl, hM⟩ := hM
   obtain ⟨S2, F2, hF, hMx, hs⟩ := hM
   have hM0 := hM0.trans hMx
   refine wp_seq (wp_pure [(4, I s1r)] hF (by kernel_rfl) fun fr hF => then_normal ?_)
   obtain rfl := Option.some.inj h
   exact wp_ret (ret1 rfl hF rfl ⟨_, rfl, rfl, hM0.chg⟩)

theorem laws_heldFormula_ok (n : Nat) (p0 : D.Formula) (p1 : Int) {r : Int} (h : laws_heldFormula n p0 p1 = some r) {w : World} {G0 : Nat → Prop} {va0 : Value} (ra0 : RV w G0 va0 p0) :
   Calls Tryd.prog 22 [va0, I p1].toArray w fun e w' => ∃ v, e = .returned v ∧ v = I r ∧ Chg Non w w' := by
 unfold laws_heldFormula at h
 have hs := Sep.nil w Non
 have hM0 : Mem w Non (fun k => (G0 k) ∧ k < w.heap.size) w Non (fun k => (G0 k) ∧ k < w.heap.size) := Mem.start (fun _ h => h.elim) (fun _ h => h.2) (fun _ h => h.elim)
 have ra0 := ra0.sub (F' := (fun k => (G0 k) ∧ k < w.heap.size)) (fun k hk h => ⟨h, hk⟩)
 obtain ⟨v1, rfl, r1⟩ := RV.Formula ra0
 obtain ⟨a1, c1, rfl, -⟩ := r1.slice
 refine enter (N := 12) Tryd.func22 rfl Tryd.ntmps22 rfl fun fr hF => ?_
 refine wp_seq (wp_text' ?_)
 refine q_box hs hM0 [I p0.Vars, L a1 p0.Clauses c1] rfl rfl hF rfl rfl fun b1 w1 S1 fr hs hp hF => ?_
 have r1 := r1.stp hM0 hp
 have hM0 := hM0.stp hp
 have hs : Sep [BX b1 45 [I p0.Vars, L a1 p0.Clauses c1]] w1 S1 := hs
 refine from_pure 1 [(1, I p1), (2, B b1 0)] hF (by kernel_rfl) fun fr hF => ?_
 refine from_end rfl (then_normal ?_)
 refine wp_seq (wp_text' ?_)
 refine from_pure 1 [(1, I p1), (5, B b1 1)] hF (by kernel_rfl) fun fr hF => ?_
 refine s_loadBox (L a1 p0.Clauses c1) ty43 rfl rfl hF rfl (hs.bx 0 rfl) rfl rfl fun fr hF => ?_
 have hs : Sep [] w1 S1 := Sep.pick [] hs (by decide) rfl
 refine from_pure 1 [(6, L a1 p0.Clauses c1), (7, I p1)] hF (by kernel_rfl) fun fr hF => ?_
 obtain ⟨x1, hx1, h⟩ := bindE h
 refine s_call [L a1 p0.Clauses c1, I p1] Tryd.call61 rfl rfl hF rfl (laws_heldIntSS_ok n p0.Clauses p1 hx1 (r1)) fun v w2 fr hRes hF => ?_
 obtain ⟨rfl, hc⟩ := hRes
 have r1 := r1.ext hc
 have hs := hs.ext hc
 have hM0 := hM0.ext hc
 refine from_pure 1 [(1, I x1)] hF (by kernel_rfl) fun fr hF => ?_
 refine from_end rfl (then_normal ?_)
 refine wp_seq ?_
 refine wp_seq (wp_pure [(1, I x1), (10, .bool (decide (x1 < 0)))] hF (by kernel_rfl) fun fr hF => then_normal ?_)
 refine (wp_if hF (b := (decide (x1 < 0))) rfl (fun hb => ?_) (fun hb => ?_))
 · replace h := iteT hb h
   refine wp_seq (wp_pure [(4, I (-1))] hF (by kernel_rfl) fun fr hF => then_normal ?_)
   obtain rfl := Option.some.inj h
   exact wp_ret (then_ret (ret1 rfl hF rfl ⟨_, rfl, rfl, hM0.chg⟩))
 replace h := iteF hb h
 refine (wp_skip (then_normal ?_))
 refine wp_seq (wp_pure [(4, I x1)] hF (by kernel_rfl) fun fr hF => then_normal ?_)
 obtain rfl := Option.some.inj h
 exact wp_ret (ret1 rfl hF rfl ⟨_, rfl, rfl, hM0.chg⟩)

theorem laws_FnExactParseFormula_ok (n : Nat) (p0 : Str) {r : Bool} (h : laws_FnExactParseFormula n p0 = some r) {w : World} {G99 : Nat → Prop} (tb : TX Tryd.prog w G99) :
   Calls Tryd.prog 6 [Str.val p0].toArray w fun e w' => ∃ v, e = .returned v ∧ v = .bool r ∧ Chg Non w w' := by
 unfold laws_FnExactParseFormula at h
 have hs := Sep.nil w Non
 have hM0 : Mem w Non (fun k => (G99 k) ∧ k < w.heap.size) w Non (fun k => (G99 k) ∧ k < w.heap.size) := Mem.start (fun _ h => h.elim) (fun _ h => h.2) (fun _ h => h.elim)
 have tb := tb.sub (F' := (fun k => (G99 k) ∧ k < w.heap.size)) (fun k hk h => ⟨h, hk⟩)
 refine enter (N := 66) Tryd.func6 rfl Tryd.ntmps6 rfl fun fr hF => ?_
 refine wp_seq (wp_pure [(0, Str.val p0)] hF (by kernel_rfl) fun fr hF => then_normal ?_)
 refine wp_seq ?_
 refine wp_seq (wp_pure [(0, Str.val p0), (13, .bool (decide ((len p0.bytes) > 1048576)))] hF (by kernel_rfl) fun fr hF => then_normal ?_)
 refine (wp_if hF (b := (decide ((len p0.bytes) > 1048576))) rfl (fun hb => ?_) (fun hb => ?_))
 · replace h := iteT hb h
   refine wp_seq (wp_pure [(2, .bool true)] hF (by kernel_rfl) fun fr hF => then_normal ?_)
   obtain rfl := Option.some.inj h
   exact wp_ret (then_ret (ret1 rfl hF rfl ⟨_, rfl, rfl, hM0.chg⟩))
 replace h := iteF hb h
 refine (wp_skip (then_normal ?_))
 refine wp_seq (wp_text' ?_)
 refine from_pure 1 [(0, Str.val p0), (15, Str.val p0)] hF (by kernel_rfl) fun fr hF => ?_
 obtain ⟨x1, hx1, h⟩ := bindE h
 refine s_call [Str.val p0] Tryd.call18 rfl rfl hF rfl (spec_ParseFormula_ok n p0 hx1) fun v w1 fr hRes hF => ?_
 obtain ⟨a1, c1, rs1, rfl, _, hp, hs2⟩ := hRes
 obtain ⟨S1, hp, hs⟩ := hs.got hM0 hp hs2
 have tb := tb.stp hM0 hp
 have hM0 := hM0.stp hp
 have hs : Sep [sl61 (L a1 x1.1.Clauses c1) rs1, HP.all own61 rs1 x1.1.Clauses] w1 S1 := hs
 refine from_pure 3 [(0, Str.val p0), (17, .agg #[I x1.1.Vars, L a1 x1.1.Clauses c1]), (18, .bool x1.2)] hF (by kernel_rfl) fun fr hF => ?_
 refine q_alloc (z := .agg #[I 0, L none ([] : List (List Int)) 0]) hs hM0 [I 0, L none ([] : List (List Int)) 0] rfl rfl hF (by kernel_rfl) rfl fun b1 w2 S2 fr hs hp hF => ?_
 have tb := tb.stp hM0 hp
 have hM0 := hM0.stp hp
 have hs : Sep [BX b1 45 [I 0, L none ([] : List (List Int)) 0], sl61 (L a1 x1.1.Clauses c1) rs1, HP.all own61 rs1 x1.1.Clauses] w2 S2 := hs
 refine q_storeBoxS 0 hs hM0 rfl [I x1.1.Vars, L a1 x1.1.Clauses c1] rfl hF rfl rfl (by kernel_rfl) rfl rfl rfl fun w3 S3 hs hp hF => ?_
 have tb := tb.stp hM0 hp
 have hM0 := hM0.stp hp
 have hs : Sep [BX b1 45 [I x1.1.Vars, L a1 x1.1.Clauses c1], sl61 (L a1 x1.1.Clauses c1) rs1, HP.all own61 rs1 x1.1.Clauses] w3 S3 := hs
 refine from_pure 1 [(0, Str.val p0), (3, B b1 0), (4, .bool x1.2)] hF (by kernel_rfl) fun fr hF => ?_
 refine from_end rfl (then_normal ?_)
 refine wp_seq (wp_text' ?_)
 refine from_pure 1 [(0, Str.val p0), (3, B b1 0), (4, .bool x1.2), (20, Str.val p0)] hF (by kernel_rfl) fun fr hF => ?_
 obtain ⟨x2, hx2, h⟩ := bindE h
 refine s_call [Str.val p0] Tryd.call19 rfl rfl hF rfl (impl_ParseFormula_ok n p0 hx2 tb) fun v w4 fr hRes hF => ?_
 obtain ⟨a2, c2, rs2, rfl, _, hp, hs2⟩ := hRes
 obtain ⟨S4, hp, hs⟩ := hs.got hM0 hp hs2
 have tb := tb.stp hM0 hp
 have hM0 := hM0.stp hp
 have hs : Sep [sl61 (L a2 x2.1.Clauses c2) rs2, HP.all own61 rs2 x2.1.Clauses, BX b1 45 [I x1.1.Vars, L a1 x1.1.Clauses c1], sl61 (L a1 x1.1.Clauses c1) rs1, HP.all own61 rs1 x1.1.Clauses] w4 S4 := hs
 refine from_pure 3 [(0, Str.val p0), (3, B b1 0), (4, .bool x1.2), (22, .agg #[I x2.1.Vars, L a2 x2.1.Clauses c2]), (23, .bool x2.2)] hF (by kernel_rfl) fun fr hF => ?_
 refine q_alloc (z := .agg #[I 0, L none ([] : List (List Int)) 0]) hs hM0 [I 0, L none ([] : List (List Int)) 0] rfl rfl hF (by kernel_rfl) rfl fun b2 w5 S5 fr hs hp hF => ?_
 have tb := tb.stp hM0 hp
 have hM0 := hM0.stp hp
 have hs : Sep [BX b2 45 [I 0, L none ([] : List (List Int)) 0], sl61 (L a2 x2.1.Clauses c2) rs2, HP.all own61 rs2 x2.1.Clauses, BX b1 45 [I x1.1.Vars, L a1 x1.1.Clauses c1], sl61 (L a1 x1.1.Clauses c1) rs1, HP.all own61 rs1 x1.1.Clauses] w5 S5 := hs
 refine q_storeBoxS 0 hs hM0 rfl [I x2.1.Vars, L a2 x2.1.Clauses c2] rfl hF rfl rfl (by kernel_rfl) rfl rfl rfl fun w6 S6 hs hp hF => ?_
 have tb := tb.stp hM0 hp
 have hM0 := hM0.stp hp
 have hs : Sep [BX b2 45 [I x2.1.Vars, L a2 x2.1.Clauses c2], sl61 (L a2 x2.1.Clauses c2) rs2, HP.all own61 rs2 x2.1.Clauses, BX b1 45 [I x1.1.Vars, L a1 x1.1.Clauses c1], sl61 (L a1 x1.1.Clauses c1) rs1, HP.all own61 rs1 x1.1.Clauses] w6 S6 := hs
 refine from_pure 1 [(0, Str.val p0), (3, B b1 0), (4, .bool x1.2), (5, B b2 0), (6, .bool x2.2)] hF (by kernel_rfl) fun fr hF => ?_
 refine from_end rfl (then_normal ?_)
 refine wp_seq ?_
 obtain ⟨x3, hx3, h⟩ := bindE h
 refine wp_seq (region_b [] [false, false, false, true, true, true, true, true, true]
     [.eq (.agg #[I x2.1.Vars, L a2 x2.1.Clauses c2]), .eq (.agg #[I x1.1.Vars, L a1 x1.1.Clauses c1]), .eq (.bool x3), .eq (.bool (!x3)), .eq (.bool (!x3)), .eq (.bool x2.2), .eq (.bool x1.2), .eq (.bool (!(x2.2 == x1.2))), .eq (.bool ((!x3) || (!(x2.2 == x1.2))))]
     [(0, Str.val p0), (3, B b1 0), (4, .bool x1.2), (5, B b2 0), (32, .bool ((!x3) || (!(x2.2 == x1.2))))] mix hF (by kernel_rfl) (by kernel_rfl) (by kernel_rfl) ⟨Pd.mono_eq, Pd.mono_eq, Pd.mono_eq, trivial⟩ (fun hG => ⟨np_loadBoxS hG hF ty45 rfl rfl (hs.bx 0 rfl) rfl rfl rfl rfl, np_loadBoxS hG hF ty45 rfl rfl (hs.bx 3 rfl) rfl rfl rfl rfl, np_call [.agg #[I x2.1.Vars, L a2 x2.1.Clauses c2], .agg #[I x1.1.Vars, L a1 x1.1.Clauses c1]] hG hF Tryd.call20 rfl rfl (fun w hC hg => (laws_eqFormula_ok n x2.1 x1.1 hx3 ((RV.mk_Formula x2.1 (RV.any (hs.drv owns61 1 2 rfl rfl (by decide)))).ext hC) ((RV.mk_Formula x1.1 (RV.any (hs.drv owns61 4 5 rfl rfl (by decide)))).ext hC)).mono fun e w' ⟨v, he, hv, hc⟩ => ⟨v, he, hc, hv⟩), trivial⟩) (by kernel_rfl) fun fr w7 hF hE hc => then_normal ?_)
 have tb := tb.ext hc
 have hs := hs.ext hc
 have hM0 := hM0.ext hc
 refine (wp_if hF (b := ((!x3) || (!(x2.2 == x1.2)))) rfl (fun hb => ?_) (fun hb => ?_))
 · replace h := iteT hb h
   have hs : Sep [] w7 S6 := Sep.pick [] hs (by decide) rfl
   refine wp_seq (wp_pure [(2, .bool false)] hF (by kernel_rfl) fun fr hF => then_normal ?_)
   obtain rfl := Option.some.inj h
   exact wp_ret (then_ret (ret1 rfl hF rfl ⟨_, rfl, rfl, hM0.chg⟩))
 replace h := iteF hb h
 refine (wp_skip (then_normal ?_))
 refine wp_seq (wp_pure [(0, Str.val p0), (3, B b1 0), (4, .bool x1.2), (5, B b2 0), (7, I 1)] hF (by kernel_rfl) fun fr hF => then_normal ?_)
 refine wp_seq (wp_text' ?_)
 refine s_loadBoxS ty45 rfl rfl hF rfl (hs.bx 0 rfl) rfl rfl fun fr hF => ?_
 refine from_pure 1 [(0, Str.val p0), (3, B b1 0), (4, .bool x1.2), (5, B b2 0), (33, .agg #[I x2.1.Vars, L a2 x2.1.Clauses c2]), (34, I 1)] hF (by kernel_rfl) fun fr hF => ?_
 obtain ⟨x4, hx4, h⟩ := bindE h
 have hs : Sep [sl61 (L a2 x2.1.Clauses c2) rs2, HP.all own61 rs2 x2.1.Clauses, BX b2 45 [I x2.1.Vars, L a2 x2.1.Clauses c2], BX b1 45 [I x1.1.Vars, L a1 x1.1.Clauses c1], sl61 (L a1 x1.1.Clauses c1) rs1, HP.all own61 rs1 x1.1.Clauses] w7 S6 := Sep.pick [1, 2, 0, 3, 4, 5] hs (by decide) rfl
 obtain ⟨A1, R1, hsA, hsR, hdA, hbA, hup⟩ := Sep.call (L1 := [sl61 (L a2 x2.1.Clauses c2) rs2, HP.all own61 rs2 x2.1.Clauses]) (L2 := [BX b2 45 [I x2.1.Vars, L a2 x2.1.Clauses c2], BX b1 45 [I x1.1.Vars, L a1 x1.1.Clauses c1], sl61 (L a1 x1.1.Clauses c1) rs1, HP.all own61 rs1 x1.1.Clauses]) hs hM0
 refine s_call [.agg #[I x2.1.Vars, L a2 x2.1.Clauses c2], I 1] Tryd.call21 rfl rfl hF rfl (laws_markFormula_ok n x2.1 1 hx4 hsA hbA hdA) fun v w8 fr hRes hF => ?_
 obtain ⟨rs3, rfl, _, hp, hs⟩ := hRes
 obtain ⟨S7, hp, hs⟩ := hup hp hs
 have tb := tb.stp hM0 hp
 have hM0 := hM0.stp hp
 have hs : Sep [sl61 (L a2 x2.1.Clauses c2) rs3, HP.all own61 rs3 x4.2.Clauses, BX b2 45 [I x2.1.Vars, L a2 x2.1.Clauses c2], BX b1 45 [I x1.1.Vars, L a1 x1.1.Clauses c1], sl61 (L a1 x1.1.Clauses c1) rs1, HP.all own61 rs1 x1.1.Clauses] w8 S7 := hs
 refine from_pure 1 [(0, Str.val p0), (3, B b1 0), (4, .bool x1.2), (5, B b2 0), (7, I x4.1)] hF (by kernel_rfl) fun fr hF => ?_
 refine from_end rfl (then_normal ?_)
 refine wp_seq (wp_pure [(0, Str.val p0), (3, B b1 0), (4, .bool x1.2), (5, B b2 0), (7, I x4.1), (8, I 1)] hF (by kernel_rfl) fun fr hF => then_normal ?_)
 refine wp_seq (wp_text' ?_)
 refine s_loadBoxS ty45 rfl rfl hF rfl (hs.bx 2 rfl) rfl rfl fun fr hF => ?_
 refine from_pure 1 [(0, Str.val p0), (3, B b1 0), (4, .bool x1.2), (5, B b2 0), (7, I x4.1), (36, .agg #[I x2.1.Vars, L a2 x2.1.Clauses c2]), (37, I 1)] hF (by kernel_rfl) fun fr hF => ?_
 obtain ⟨x5, hx5, h⟩ := bindE h
 refine s_call [.agg #[I x2.1.Vars, L a2 x2.1.Clauses c2], I 1] Tryd.call22 rfl rfl hF rfl (laws_heldFormula_ok n (D.Formula.mk x2.1.Vars x4.2.Clauses) 1 hx5 (RV.mk_Formula (D.Formula.mk x2.1.Vars x4.2.Clauses) (RV.any (hs.drv owns61 0 1 rfl rfl (by decide))))) fun v w9 fr hRes hF => ?_
 obtain ⟨rfl, hc⟩ := hRes
 have tb := tb.ext hc
 have hs := hs.ext hc
 have hM0 := hM0.ext hc
 refine from_pure 1 [(0, Str.val p0), (3, B b1 0), (4, .bool x1.2), (5, B b2 0), (7, I x4.1), (8, I x5)] hF (by kernel_rfl) fun fr hF => ?_
 refine from_end rfl (then_normal ?_)
 refine wp_seq ?_
 refine wp_seq (wp_pure [(0, Str.val p0), (3, B b1 0), (4, .bool x1.2), (5, B b2 0), (7, I x4.1), (8, I x5), (40, .bool (decide (x5 < 0)))] hF (by kernel_rfl) fun fr hF => then_normal ?_)
 refine (wp_if hF (b := (decide (x5 < 0))) rfl (fun hb => ?_) (fun hb => ?_))
 · replace h := iteT hb h
   have hs : Sep [] w9 S7 := Sep.pick [] hs (by decide) rfl
   refine wp_seq (wp_pure [(2, .bool false)] hF (by kernel_rfl) fun fr hF => then_normal ?_)
   obtain rfl := Option.some.inj h
   exact wp_ret (then_ret (ret1 rfl hF rfl ⟨_, rfl, rfl, hM0.chg⟩))
 replace h := iteF hb h
 refine (wp_skip (then_normal ?_))
 refine wp_seq ?_
 refine wp_seq (wp_pure [(0, Str.val p0), (3, B b1 0), (4, .bool x1.2), (5, B b2 0), (7, I x4.1), (43, .bool (x5 != x4.1))] hF (by kernel_rfl) fun fr hF => then_normal ?_)
 refine (wp_if hF (b := (x5 != x4.1)) rfl (fun hb => ?_) (fun hb => ?_))
 · replace h := iteT hb h
   have hs : Sep [] w9 S7 := Sep.pick [] hs (by decide) rfl
   refine wp_seq (wp_pure [(2, .bool false)] hF (by kernel_rfl) fun fr hF => then_normal ?_)
   obtain rfl := Option.some.inj h
   exact wp_ret (then_ret (ret1 rfl hF rfl ⟨_, rfl, rfl, hM0.chg⟩))
 replace h := iteF hb h
 refine (wp_skip (then_normal ?_))
 refine wp_seq (wp_text' ?_)
 refine from_pure 1 [(3, B b1 0), (4, .bool x1.2), (5, B b2 0), (7, I x4.1), (45, Str.val p0)] hF (by kernel_rfl) fun fr hF => ?_
 obtain ⟨x6, hx6, h⟩ := bindE h
 refine s_call [Str.val p0] Tryd.call19 rfl rfl hF rfl (impl_ParseFormula_ok n p0 hx6 tb) fun v w10 fr hRes hF => ?_
 obtain ⟨a3, c3, rs4, rfl, _, hp, hs2⟩ := hRes
 obtain ⟨S8, hp, hs⟩ := hs.got hM0 hp hs2
 have tb := tb.stp hM0 hp
 have hM0 := hM0.stp hp
 have hs : Sep [sl61 (L a3 x6.1.Clauses c3) rs4, HP.all own61 rs4 x6.1.Clauses, sl61 (L a2 x2.1.Clauses c2) rs3, HP.all own61 rs3 x4.2.Clauses, BX b2 45 [I x2.1.Vars, L a2 x2.1.Clauses c2], BX b1 45 [I x1.1.Vars, L a1 x1.1.Clauses c1], sl61 (L a1 x1.1.Clauses c1) rs1, HP.all own61 rs1 x1.1.Clauses] w10 S8 := hs
 refine from_pure 3 [(3, B b1 0), (4, .bool x1.2), (5, B b2 0), (7, I x4.1), (47, .agg #[I x6.1.Vars, L a3 x6.1.Clauses c3]), (48, .bool x6.2)] hF (by kernel_rfl) fun fr hF => ?_
 refine q_alloc (z := .agg #[I 0, L none ([] : List (List Int)) 0]) hs hM0 [I 0, L none ([] : List (List Int)) 0] rfl rfl hF (by kernel_rfl) rfl fun b3 w11 S9 fr hs hp hF => ?_
 have tb := tb.stp hM0 hp
 have hM0 := hM0.stp hp
 have hs : Sep [BX b3 45 [I 0, L none ([] : List (List Int)) 0], sl61 (L a3 x6.1.Clauses c3) rs4, HP.all own61 rs4 x6.1.Clauses, sl61 (L a2 x2.1.Clauses c2) rs3, HP.all own61 rs3 x4.2.Clauses, BX b2 45 [I x2.1.Vars, L a2 x2.1.Clauses c2], BX b1 45 [I x1.1.Vars, L a1 x1.1.Clauses c1], sl61 (L a1 x1.1.Clauses c1) rs1, HP.all own61 rs1 x1.1.Clauses] w11 S9 := hs
 refine q_storeBoxS 0 hs hM0 rfl [I x6.1.Vars, L a3 x6.1.Clauses c3] rfl hF rfl rfl (by kernel_rfl) rfl rfl rfl fun w12 S10 hs hp hF => ?_
 have tb := tb.stp hM0 hp
 have hM0 := hM0.stp hp
 have hs : Sep [BX b3 45 [I x6.1.Vars, L a3 x6.1.Clauses c3], sl61 (L a3 x6.1.Clauses c3) rs4, HP.all own61 rs4 x6.1.Clauses, sl61 (L a2 x2.1.Clauses c2) rs3, HP.all own61 rs3 x4.2.Clauses, BX b2 45 [I x2.1.Vars, L a2 x2.1.Clauses c2], BX b1 45 [I x1.1.Vars, L a1 x1.1.Clauses c1], sl61 (L a1 x1.1.Clauses c1) rs1, HP.all own61 rs1 x1.1.Clauses] w12 S10 := hs
 refine from_pure 1 [(3, B b1 0), (4, .bool x1.2), (5, B b2 0), (7, I x4.1), (9, B b3 0), (10, .bool x6.2)] hF (by kernel_rfl) fun fr hF => ?_
 refine from_end rfl (then_normal ?_)
 refine wp_seq ?_
 obtain ⟨x7, hx7, h⟩ := bindE h
 refine wp_seq (region_b [] [false, false, false, true, true, true, true, true, true]
     [.eq (.agg #[I x6.1.Vars, L a3 x6.1.Clauses c3]), .eq (.agg #[I x1.1.Vars, L a1 x1.1.Clauses c1]), .eq (.bool x7), .eq (.bool (!x7)), .eq (.bool (!x7)), .eq (.bool x6.2), .eq (.bool x1.2), .eq (.bool (!(x6.2 == x1.2))), .eq (.bool ((!x7) || (!(x6.2 == x1.2))))]
     [(5, B b2 0), (7, I x4.1), (57, .bool ((!x7) || (!(x6.2 == x1.2))))] mix hF (by kernel_rfl) (by kernel_rfl) (by kernel_rfl) ⟨Pd.mono_eq, Pd.mono_eq, Pd.mono_eq, trivial⟩ (fun hG => ⟨np_loadBoxS hG hF ty45 rfl rfl (hs.bx 0 rfl) rfl rfl rfl rfl, np_loadBoxS hG hF ty45 rfl rfl (hs.bx 6 rfl) rfl rfl rfl rfl, np_call [.agg #[I x6.1.Vars, L a3 x6.1.Clauses c3], .agg #[I x1.1.Vars, L a1 x1.1.Clauses c1]] hG hF Tryd.call20 rfl rfl (fun w hC hg => (laws_eqFormula_ok n x6.1 x1.1 hx7 ((RV.mk_Formula x6.1 (RV.any (hs.drv owns61 1 2 rfl rfl (by decide)))).ext hC) ((RV.mk_Formula x1.1 (RV.any (hs.drv owns61 7 8 rfl rfl (by decide)))).ext hC)).mono fun e w' ⟨v, he, hv, hc⟩ => ⟨v, he, hc, hv⟩), trivial⟩) (by kernel_rfl) fun fr w13 hF hE hc => then_normal ?_)
 have tb := tb.ext hc
 have hs := hs.ext hc
 have hM0 := hM0.ext hc
 have hs : Sep [sl61 (L a2 x2.1.Clauses c2) rs3, HP.all own61 rs3 x4.2.Clauses, BX b2 45 [I x2.1.Vars, L a2 x2.1.Clauses c2]] w13 S10 := Sep.pick [3, 4, 5] hs (by decide) rfl
 refine (wp_if hF (b := ((!x7) || (!(x6.2 == x1.2)))) rfl (fun hb => ?_) (fun hb => ?_))
 · replace h := iteT hb h
   have hs : Sep [] w13 S10 := Sep.pick [] hs (by decide) rfl
   refine wp_seq (wp_pure [(2, .bool false)] hF (by kernel_rfl) fun fr hF => then_normal ?_)
   obtain rfl := Option.some.inj h
   exact wp_ret (then_ret (ret1 rfl hF rfl ⟨_, rfl, rfl, hM0.chg⟩))
 replace h := iteF hb h
 refine (wp_skip (then_normal ?_))
 refine wp_seq (wp_pure [(5, B b2 0), (7, I x4.1), (8, I 1)] hF (by kernel_rfl) fun fr hF => then_normal ?_)
 refine wp_seq (wp_text' ?_)
 refine s_loadBoxS ty45 rfl rfl hF rfl (hs.bx 2 rfl) rfl rfl fun fr hF => ?_
 have hs : Sep [sl61 (L a2 x2.1.Clauses c2) rs3, HP.all own61 rs3 x4.2.Clauses] w13 S10 := Sep.pick [0, 1] hs (by decide) rfl
 refine from_pure 1 [(7, I x4.1), (58, .agg #[I x2.1.Vars, L a2 x2.1.Clauses c2]), (59, I 1)] hF (by kernel_rfl) fun fr hF => ?_
 obtain ⟨x8, hx8, h⟩ := bindE h
 refine s_call [.agg #[I x2.1.Vars, L a2 x2.1.Clauses c2], I 1] Tryd.call22 rfl rfl hF rfl (laws_heldFormula_ok n (D.Formula.mk x2.1.Vars x4.2.Clauses) 1 hx8 (RV.mk_Formula (D.Formula.mk x2.1.Vars x4.2.Clauses) (RV.any (hs.drv owns61 0 1 rfl rfl (by decide))))) fun v w14 fr hRes hF => ?_
 obtain ⟨rfl, hc⟩ := hRes
 have tb := tb.ext hc
 have hs := hs.ext hc
 have hM0 := hM0.ext hc
 have hs : Sep [] w14 S10 := Sep.pick [] hs (by decide) rfl
 refine from_pure 1 [(7, I x4.1), (8, I x8)] hF (by kernel_rfl) fun fr hF => ?_
 refine from_end rfl (then_normal ?_)
 refine wp_seq ?_
 refine wp_seq (wp_pure [(7, I x4.1), (8, I x8), (62, .bool (decide (x8 < 0)))] hF (by kernel_rfl) fun fr hF => then_normal ?_)
 refine (wp_if hF (b := (decide (x8 < 0))) rfl (fun hb => ?_) (fun hb => ?_))
 · replace h := iteT hb h
   refine wp_seq (wp_pure [(2, .bool false)] hF (by kernel_rfl) fun fr hF => then_normal ?_)
   obtain rfl := Option.some.inj h
   exact wp_ret (then_ret (ret1 rfl hF rfl ⟨_, rfl, rfl, hM0.chg⟩))
 replace h := iteF hb h
 refine (wp_skip (then_normal ?_))
 refine wp_seq ?_
 refine wp_seq (wp_pure [(65, .bool (x8 != x4.1))] hF (by kernel_rfl) fun fr hF => then_normal ?_)
 refine (wp_if hF (b := (x8 != x4.1)) rfl (fun hb => ?_) (fun hb => ?_))
 · replace h := iteT hb h
   refine wp_seq (wp_pure [(2, .bool false)] hF (by kernel_rfl) fun fr hF => then_normal ?_)
   obtain rfl := Option.some.inj h
   exact wp_ret (then_ret (ret1 rfl hF rfl ⟨_, rfl, rfl, hM0.chg⟩))
 replace h := iteF hb h
 refine (wp_skip (then_normal ?_))
 refine wp_seq (wp_pure [(2, .bool true)] hF (by kernel_rfl) fun fr hF => then_normal ?_)
 obtain rfl := Option.some.inj h
 exact wp_ret (ret1 rfl hF rfl ⟨_, rfl, rfl, hM0.chg⟩)
end Go.Proofs.YtmmhbhhcloobnaaDoor
