/- Printed by gen2.py: the walks. -/
import Derived.Test.YtmmhbhhcloobnaaGreatDoorGLt
import Derived.Test.YtmmhbhhcloobnaaGreatDoorGLn
import Derived.Test.YtmmhbhhcloobnaaGreatDoorDefs
import Derived.Test.YtmmhbhhcloobnaaGreatDoorProg
import Derived.KernelRfl
import Derived.DeepKeys4
import Derived.Test.YtmmhbhhcloobnaaGreatDoorShelf
import Derived.Test.YtmmhbhhcloobnaaGreatDoorGLA
import Derived.Test.YtmmhbhhcloobnaaGreatDoorGLB
import Derived.Test.YtmmhbhhcloobnaaGreatDoorBld
import Derived.Test.YtmmhbhhcloobnaaGreatDoorGLC
import Derived.Test.YtmmhbhhcloobnaaGreatDoorGLE
import Derived.Test.YtmmhbhhcloobnaaGreatDoorPrs
set_option linter.unusedVariables false
set_option maxRecDepth 100000
namespace Go.Proofs.YtmmhbhhcloobnaaGreatDoor
open Go.GL Go.Maps Go.WideMaps
abbrev I (x : Int) : Value := .int .i64 x
abbrev L {α : Type} (a : Option Addr) (l : List α) (c : Nat) : Value := .slice a (List.length l) c
abbrev B (b n : Nat) : Value := .pointer (some ⟨b, n, none⟩)
abbrev sl3 : Value → List Int → HP := SL 3
abbrev sl38 : Value → List D.Ins → HP := SL 38
abbrev sl5 : Value → List Byt → HP := SL 5
abbrev sl9 : Value → List Str → HP := SL 9
theorem mix : Tryz.prog.follows .mixedOrders = true := by kernel_rfl
theorem ty3 : Ty Tryz.prog 3 Int := ⟨by kernel_rfl, by kernel_rfl⟩
theorem ty9 : Ty Tryz.prog 9 Str := ⟨by kernel_rfl, by kernel_rfl⟩
theorem ty22 : Ty Tryz.prog 22 (List D.Ins) := ⟨by kernel_rfl, by kernel_rfl⟩
theorem ty24 : Ty Tryz.prog 24 D.Program := ⟨by kernel_rfl, by kernel_rfl⟩
theorem ty38 : Ty Tryz.prog 38 D.Ins := ⟨by kernel_rfl, by kernel_rfl⟩
theorem el3 : ElT Tryz.prog 3 Int := elT (by kernel_rfl)
theorem el9 : ElT Tryz.prog 9 Str := elT (by kernel_rfl)
theorem el38 : ElT Tryz.prog 38 D.Ins := elT (by kernel_rfl)

theorem spec_SplitLines_ok (n : Nat) (p0 : Str) {r : (List Str)} (h : spec_SplitLines n p0 = some r) {w : World} :
   Calls Tryz.prog 9 [Str.val p0].toArray w fun e w' => ∃ v, e = .returned v ∧ ∃ a1 c1, v = L a1 r c1 ∧ ∃ S', Stp w Non w' S' ∧ Sep [sl9 (L a1 r c1) r] w' S' := by
 unfold spec_SplitLines at h
 have hs := Sep.nil w Non
 have hM0 : Mem w Non (fun k => (False) ∧ k < w.heap.size) w Non (fun k => (False) ∧ k < w.heap.size) := Mem.start (fun _ h => h.elim) (fun _ h => h.2) (fun _ h => h.elim)
 refine enter (N := 37) Tryz.func9 rfl Tryz.ntmps9 rfl fun fr hF => ?_
 refine wp_seq (wp_pure [(0, Str.val p0)] hF (by kernel_rfl) fun fr hF => then_normal ?_)
 refine wp_seq (wp_text' ?_)
 refine q_lit (E := 9) hs hM0 [] (([] : List Str).map Flat.enc) ([] : List Str) rfl rfl hF [] rfl (fun w => by kernel_rfl) (css_flat _) rfl rfl rfl fun a1 c1 w1 S1 fr hs hp hF => ?_
 have hM0 := hM0.stp hp
 have hs : Sep [sl9 (L a1 ([] : List Str) c1) ([] : List Str)] w1 S1 := hs
 refine from_pure 1 [(0, Str.val p0), (3, L a1 ([] : List Str) c1)] hF (by kernel_rfl) fun fr hF => ?_
 refine from_end rfl (then_normal ?_)
 refine wp_seq (wp_pure [(0, Str.val p0), (3, L a1 ([] : List Str) c1), (4, I 0)] hF (by kernel_rfl) fun fr hF => then_normal ?_)
 refine wp_seq ?_
 refine wp_seq (wp_pure [(0, Str.val p0), (3, L a1 ([] : List Str) c1), (4, I 0), (5, I 0)] hF (by kernel_rfl) fun fr hF => then_normal ?_)
 obtain ⟨rl1, hit1, h⟩ := bindE h
 have hk1 := h
 refine (GL.wp_cut (M := fun fr w' => ∃ a3 c3 S3 F2, FrS 37 [(0, Str.val p0), (3, L a3 rl1.2 c3), (4, I rl1.1)] fr ∧ Mem w1 S1 (fun k => (False) ∧ k < w.heap.size) w' S3 F2 ∧ Sep [sl9 (L a3 rl1.2 c3) rl1.2] w' S3) (wp_block (wp_iter (Inv := fun s1 fr w' => ∃ a2 c2 S2 F1, FrS 37 [(0, Str.val p0), (3, L a2 s1.2.2 c2), (4, I s1.1), (5, I s1.2.1)] fr ∧ Mem w1 S1 (fun k => (False) ∧ k < w.heap.size) w' S2 F1 ∧ Sep [sl9 (L a2 s1.2.2 c2) s1.2.2] w' S2) hit1 ⟨a1, c1, S1, _, hF.sub _ (by kernel_rfl), (Mem.start hM0.bd hM0.bdF hM0.dj), hs⟩ fun s1 q1 fr w1i hI h hr1 => ?_)) fun fr w1o hM => ?_)
 · obtain ⟨a2, c2, S2, F1, hF, hM1, hs⟩ := hI
   refine wp_seq ?_
   refine wp_seq (wp_pure [(0, Str.val p0), (3, L a2 s1.2.2 c2), (4, I s1.1), (5, I s1.2.1), (10, .bool (decide (s1.2.1 < (len p0.bytes))))] hF (by kernel_rfl) fun fr hF => then_normal ?_)
   refine (wp_if hF (b := (decide (s1.2.1 < (len p0.bytes)))) rfl (fun hb => ?_) (fun hb => ?_))
   · replace h := iteT hb h
     refine (wp_skip (then_normal ?_))
     refine wp_seq (wp_block ?_)
     refine wp_seq (wp_text' ?_)
     refine from_pure 2 [(0, Str.val p0), (3, L a2 s1.2.2 c2), (4, I s1.1), (5, I s1.2.1), (13, Str.val p0), (14, I s1.2.1)] hF (by kernel_rfl) fun fr hF => ?_
     obtain ⟨x1, hx1, h⟩ := bindE h
     refine s_index (s := p0) Tryz.underlying9 rfl rfl hF rfl rfl hx1 fun fr hF => ?_
     refine from_pure 1 [(0, Str.val p0), (3, L a2 s1.2.2 c2), (4, I s1.1), (5, I s1.2.1), (16, .bool (x1 == 10))] hF (by kernel_rfl) fun fr hF => ?_
     refine from_end rfl (then_normal ?_)
     refine (wp_if hF (b := (x1 == 10)) rfl (fun hb => ?_) (fun hb => ?_))
     · replace h := iteT hb h
       refine wp_seq (wp_text' ?_)
       refine from_pure 4 [(0, Str.val p0), (5, I s1.2.1), (17, L a2 s1.2.2 c2), (18, Str.val p0), (19, I s1.1), (20, I s1.2.1)] hF (by kernel_rfl) fun fr hF => ?_
       obtain ⟨x2, hx2, h⟩ := bindE h
       refine s_scut (s := p0) Tryz.underlying9 rfl rfl hF rfl ⟨_, rfl⟩ ⟨_, rfl⟩ hx2 fun fr hF => ?_
       refine q_lit (E := 9) hs hM1 [Str.val x2] (([x2] : List Str).map Flat.enc) ([x2] : List Str) rfl rfl hF [Str.val x2] rfl (fun w => by kernel_rfl) (css_flat _) rfl rfl rfl fun a4 c4 w2 S4 fr hs hp hF => ?_
       have hM1 := hM1.stp hp
       have hs : Sep [sl9 (L a4 ([x2] : List Str) c4) ([x2] : List Str), sl9 (L a2 s1.2.2 c2) s1.2.2] w2 S4 := hs
       obtain ⟨x3, hx3, h⟩ := bindE h
       refine q_append 1 hs hM1 rfl Tryz.underlying30 el9 rfl rfl rfl hF rfl rfl (hs.rv 0 rfl) hx3 fun a5 c5 w3 S5 fr hs hp hF => ?_
       have hM1 := hM1.stp hp
       have hs : Sep [sl9 (L a4 ([x2] : List Str) c4) ([x2] : List Str), sl9 (L a5 x3 c5) x3] w3 S5 := hs
       have hs : Sep [sl9 (L a5 x3 c5) x3] w3 S5 := Sep.pick [1] hs (by decide) rfl
       refine from_pure 1 [(0, Str.val p0), (3, L a5 x3 c5), (5, I s1.2.1)] hF (by kernel_rfl) fun fr hF => ?_
       refine from_end rfl (then_normal ?_)
       refine (wp_pure [(0, Str.val p0), (3, L a5 x3 c5), (4, I (w64 (s1.2.1 + 1))), (5, I s1.2.1)] hF (by kernel_rfl) fun fr hF => ?_)
       refine blk_normal (then_normal ?_)
       refine (wp_pure [(0, Str.val p0), (3, L a5 x3 c5), (4, I (w64 (s1.2.1 + 1))), (5, I (w64 (s1.2.1 + 1)))] hF (by kernel_rfl) fun fr hF => then_normal ?_)
       exact ⟨_, (Option.some.inj h).symm, a5, c5, S5, _, hF.sub _ (by kernel_rfl), hM1, hs⟩
     replace h := iteF hb h
     refine (wp_skip ?_)
     refine blk_normal (then_normal ?_)
     refine (wp_pure [(0, Str.val p0), (3, L a2 s1.2.2 c2), (4, I s1.1), (5, I (w64 (s1.2.1 + 1)))] hF (by kernel_rfl) fun fr hF => then_normal ?_)
     exact ⟨_, (Option.some.inj h).symm, a2, c2, S2, _, hF.sub _ (by kernel_rfl), hM1, hs⟩
   replace h := iteF hb h
   refine (wp_exit (then_exit (then_exit (blk_exit_eq ?_))))
   obtain rfl := hr1 _ (Option.some.inj h).symm
   exact then_normal ⟨a2, c2, S2, _, hF.sub _ (by kernel_rfl), hM1, hs⟩
 · obtain ⟨a3, c3, S3, F2, hF, hMx, hs⟩ := hM
   have hM0 := hM0.trans hMx
   refine wp_seq ?_
   refine wp_seq (wp_pure [(0, Str.val p0), (3, L a3 rl1.2 c3), (4, I rl1.1), (29, .bool (decide (rl1.1 < (len p0.bytes))))] hF (by kernel_rfl) fun fr hF => then_normal ?_)
   refine (wp_if hF (b := (decide (rl1.1 < (len p0.bytes)))) rfl (fun hb => ?_) (fun hb => ?_))
   · replace h := iteT hb h
     refine (wp_text' ?_)
     refine from_pure 3 [(30, L a3 rl1.2 c3), (31, Str.val p0), (32, I rl1.1)] hF (by kernel_rfl) fun fr hF => ?_
     obtain ⟨x4, hx4, h⟩ := bindE h
     refine s_scut (s := p0) Tryz.underlying9 rfl rfl hF rfl ⟨_, rfl⟩ rfl hx4 fun fr hF => ?_
     refine q_lit (E := 9) hs hM0 [Str.val x4] (([x4] : List Str).map Flat.enc) ([x4] : List Str) rfl rfl hF [Str.val x4] rfl (fun w => by kernel_rfl) (css_flat _) rfl rfl rfl fun a6 c6 w4 S6 fr hs hp hF => ?_
     have hM0 := hM0.stp hp
     have hs : Sep [sl9 (L a6 ([x4] : List Str) c6) ([x4] : List Str), sl9 (L a3 rl1.2 c3) rl1.2] w4 S6 := hs
     obtain ⟨x5, hx5, h⟩ := bindE h
     refine q_append 1 hs hM0 rfl Tryz.underlying30 el9 rfl rfl rfl hF rfl rfl (hs.rv 0 rfl) hx5 fun a7 c7 w5 S7 fr hs hp hF => ?_
     have hM0 := hM0.stp hp
     have hs : Sep [sl9 (L a6 ([x4] : List Str) c6) ([x4] : List Str), sl9 (L a7 x5 c7) x5] w5 S7 := hs
     have hs : Sep [sl9 (L a7 x5 c7) x5] w5 S7 := Sep.pick [1] hs (by decide) rfl
     refine from_pure 1 [(3, L a7 x5 c7)] hF (by kernel_rfl) fun fr hF => ?_
     refine from_end rfl (then_normal ?_)
     refine wp_seq (wp_pure [(2, L a7 x5 c7)] hF (by kernel_rfl) fun fr hF => then_normal ?_)
     obtain rfl := Option.some.inj h
     exact wp_ret (ret1 rfl hF rfl ⟨_, rfl, a7, c7, rfl, S7, hM0.out, hs⟩)
   replace h := iteF hb h
   refine (wp_skip (then_normal ?_))
   refine wp_seq (wp_pure [(2, L a3 rl1.2 c3)] hF (by kernel_rfl) fun fr hF => then_normal ?_)
   obtain rfl := Option.some.inj h
   exact wp_ret (ret1 rfl hF rfl ⟨_, rfl, a3, c3, rfl, S3, hM0.out, hs⟩)

theorem spec_l01In_ok (p0 : Int) (p1 : Int) (p2 : Int) {r : Bool} (h : spec_l01In p0 p1 p2 = some r) {w : World} :
   Calls Tryz.prog 10 [I p0, I p1, I p2].toArray w fun e w' => ∃ v, e = .returned v ∧ v = .bool r ∧ Chg Non w w' := by
 unfold spec_l01In at h
 have hs := Sep.nil w Non
 have hM0 : Mem w Non (fun k => (False) ∧ k < w.heap.size) w Non (fun k => (False) ∧ k < w.heap.size) := Mem.start (fun _ h => h.elim) (fun _ h => h.2) (fun _ h => h.elim)
 refine enter (N := 15) Tryz.func10 rfl Tryz.ntmps10 rfl fun fr hF => ?_
 refine wp_seq (wp_pure [(0, I p0), (1, I p1), (2, I p2)] hF (by kernel_rfl) fun fr hF => then_normal ?_)
 refine wp_seq (region_b [] [true, true, true, true, true, true, true, true, true]
     [.eq (I p0), .eq (I p1), .eq (.bool (decide (p0 ≥ p1))), .eq (.bool (decide (p0 ≥ p1))), .eq (I p0), .eq (I p2), .eq (.bool (decide (p0 ≤ p2))), .eq (.bool ((decide (p0 ≥ p1)) && (decide (p0 ≤ p2)))), .eq (.bool ((decide (p0 ≥ p1)) && (decide (p0 ≤ p2))))]
     [(6, .bool ((decide (p0 ≥ p1)) && (decide (p0 ≤ p2))))] mix hF (by kernel_rfl) (by kernel_rfl) (by kernel_rfl) trivial (fun hG => trivial) (by kernel_rfl) fun fr w1 hF hE hc => then_normal ?_)
 have hs := hs.ext hc
 have hM0 := hM0.ext hc
 obtain rfl := Option.some.inj h
 exact wp_ret (ret1 rfl hF rfl ⟨_, rfl, rfl, hM0.chg⟩)

theorem spec_Words_ok (n : Nat) (p0 : Str) {r : (List Str)} (h : spec_Words n p0 = some r) {w : World} :
   Calls Tryz.prog 11 [Str.val p0].toArray w fun e w' => ∃ v, e = .returned v ∧ ∃ a1 c1, v = L a1 r c1 ∧ ∃ S', Stp w Non w' S' ∧ Sep [sl9 (L a1 r c1) r] w' S' := by
 unfold spec_Words at h
 have hs := Sep.nil w Non
 have hM0 : Mem w Non (fun k => (False) ∧ k < w.heap.size) w Non (fun k => (False) ∧ k < w.heap.size) := Mem.start (fun _ h => h.elim) (fun _ h => h.2) (fun _ h => h.elim)
 refine enter (N := 44) Tryz.func11 rfl Tryz.ntmps11 rfl fun fr hF => ?_
 refine wp_seq (wp_pure [(0, Str.val p0)] hF (by kernel_rfl) fun fr hF => then_normal ?_)
 refine wp_seq (wp_text' ?_)
 refine q_lit (E := 9) hs hM0 [] (([] : List Str).map Flat.enc) ([] : List Str) rfl rfl hF [] rfl (fun w => by kernel_rfl) (css_flat _) rfl rfl rfl fun a1 c1 w1 S1 fr hs hp hF => ?_
 have hM0 := hM0.stp hp
 have hs : Sep [sl9 (L a1 ([] : List Str) c1) ([] : List Str)] w1 S1 := hs
 refine from_pure 1 [(0, Str.val p0), (3, L a1 ([] : List Str) c1)] hF (by kernel_rfl) fun fr hF => ?_
 refine from_end rfl (then_normal ?_)
 refine wp_seq (wp_pure [(0, Str.val p0), (3, L a1 ([] : List Str) c1), (4, I (-1))] hF (by kernel_rfl) fun fr hF => then_normal ?_)
 refine wp_seq ?_
 refine wp_seq (wp_pure [(0, Str.val p0), (3, L a1 ([] : List Str) c1), (4, I (-1)), (5, I 0)] hF (by kernel_rfl) fun fr hF => then_normal ?_)
 obtain ⟨rl1, hit1, h⟩ := bindE h
 have hk1 := h
 refine (GL.wp_cut (M := fun fr w' => ∃ a3 c3 S3 F2, FrS 44 [(3, L a3 rl1 c3)] fr ∧ Mem w1 S1 (fun k => (False) ∧ k < w.heap.size) w' S3 F2 ∧ Sep [sl9 (L a3 rl1 c3) rl1] w' S3) (wp_block (wp_iter (Inv := fun s1 fr w' => ∃ a2 c2 S2 F1, FrS 44 [(0, Str.val p0), (3, L a2 s1.2.2 c2), (4, I s1.1), (5, I s1.2.1)] fr ∧ Mem w1 S1 (fun k => (False) ∧ k < w.heap.size) w' S2 F1 ∧ Sep [sl9 (L a2 s1.2.2 c2) s1.2.2] w' S2) hit1 ⟨a1, c1, S1, _, hF.sub _ (by kernel_rfl), (Mem.start hM0.bd hM0.bdF hM0.dj), hs⟩ fun s1 q1 fr w1i hI h hr1 => ?_)) fun fr w1o hM => ?_)
 · obtain ⟨a2, c2, S2, F1, hF, hM1, hs⟩ := hI
   refine wp_seq ?_
   refine wp_seq (wp_pure [(0, Str.val p0), (3, L a2 s1.2.2 c2), (4, I s1.1), (5, I s1.2.1), (11, .bool (decide (s1.2.1 ≤ (len p0.bytes))))] hF (by kernel_rfl) fun fr hF => then_normal ?_)
   refine (wp_if hF (b := (decide (s1.2.1 ≤ (len p0.bytes)))) rfl (fun hb => ?_) (fun hb => ?_))
   · replace h := iteT hb h
     refine (wp_skip (then_normal ?_))
     refine wp_seq (wp_block ?_)
     obtain ⟨x1, hx1, h⟩ := bindE h
     refine wp_seq (region_b [] [true, true, true, true, true, true, true, false, true, true, true]
         [.eq (I s1.2.1), .eq (Str.val p0), .eq (I (len p0.bytes)), .eq (.bool (s1.2.1 == (len p0.bytes))), .eq (.bool (s1.2.1 == (len p0.bytes))), .eq (Str.val p0), .eq (I s1.2.1), .eq (.int .u8 x1), .eq (.bool (x1 == 32)), .eq (.bool ((s1.2.1 == (len p0.bytes)) || (x1 == 32))), .eq (.bool ((s1.2.1 == (len p0.bytes)) || (x1 == 32)))]
         [(0, Str.val p0), (3, L a2 s1.2.2 c2), (4, I s1.1), (5, I s1.2.1), (6, .bool ((s1.2.1 == (len p0.bytes)) || (x1 == 32)))] mix hF (by kernel_rfl) (by kernel_rfl) (by kernel_rfl) ⟨Pd.mono_eq, trivial⟩ (fun hG => ⟨np_index_str (s := p0) hG hF Tryz.underlying9 rfl rfl rfl (fun hg => (iteF hg.2 hx1)) rfl, trivial⟩) (by kernel_rfl) fun fr w2 hF hE hc => then_normal ?_)
     have hs := hs.ext hc
     have hM1 := hM1.ext hc
     refine wp_seq ?_
     refine wp_seq (region_b [] [true, true, true, true, true]
         [.eq (.bool ((s1.2.1 == (len p0.bytes)) || (x1 == 32))), .eq (.bool ((s1.2.1 == (len p0.bytes)) || (x1 == 32))), .eq (I s1.1), .eq (.bool (decide (s1.1 ≥ 0))), .eq (.bool (((s1.2.1 == (len p0.bytes)) || (x1 == 32)) && (decide (s1.1 ≥ 0))))]
         [(0, Str.val p0), (3, L a2 s1.2.2 c2), (4, I s1.1), (5, I s1.2.1), (6, .bool ((s1.2.1 == (len p0.bytes)) || (x1 == 32))), (28, .bool (((s1.2.1 == (len p0.bytes)) || (x1 == 32)) && (decide (s1.1 ≥ 0))))] mix hF (by kernel_rfl) (by kernel_rfl) (by kernel_rfl) trivial (fun hG => trivial) (by kernel_rfl) fun fr w3 hF hE hc => then_normal ?_)
     have hs := hs.ext hc
     have hM1 := hM1.ext hc
     refine (wp_if hF (b := (((s1.2.1 == (len p0.bytes)) || (x1 == 32)) && (decide (s1.1 ≥ 0)))) rfl (fun hb => ?_) (fun hb => ?_))
     · replace h := iteT hb h
       refine wp_seq (wp_text' ?_)
       refine from_pure 4 [(0, Str.val p0), (5, I s1.2.1), (6, .bool ((s1.2.1 == (len p0.bytes)) || (x1 == 32))), (29, L a2 s1.2.2 c2), (30, Str.val p0), (31, I s1.1), (32, I s1.2.1)] hF (by kernel_rfl) fun fr hF => ?_
       obtain ⟨x2, hx2, h⟩ := bindE h
       refine s_scut (s := p0) Tryz.underlying9 rfl rfl hF rfl ⟨_, rfl⟩ ⟨_, rfl⟩ hx2 fun fr hF => ?_
       refine q_lit (E := 9) hs hM1 [Str.val x2] (([x2] : List Str).map Flat.enc) ([x2] : List Str) rfl rfl hF [Str.val x2] rfl (fun w => by kernel_rfl) (css_flat _) rfl rfl rfl fun a4 c4 w4 S4 fr hs hp hF => ?_
       have hM1 := hM1.stp hp
       have hs : Sep [sl9 (L a4 ([x2] : List Str) c4) ([x2] : List Str), sl9 (L a2 s1.2.2 c2) s1.2.2] w4 S4 := hs
       obtain ⟨x3, hx3, h⟩ := bindE h
       refine q_append 1 hs hM1 rfl Tryz.underlying30 el9 rfl rfl rfl hF rfl rfl (hs.rv 0 rfl) hx3 fun a5 c5 w5 S5 fr hs hp hF => ?_
       have hM1 := hM1.stp hp
       have hs : Sep [sl9 (L a4 ([x2] : List Str) c4) ([x2] : List Str), sl9 (L a5 x3 c5) x3] w5 S5 := hs
       have hs : Sep [sl9 (L a5 x3 c5) x3] w5 S5 := Sep.pick [1] hs (by decide) rfl
       refine from_pure 1 [(0, Str.val p0), (3, L a5 x3 c5), (5, I s1.2.1), (6, .bool ((s1.2.1 == (len p0.bytes)) || (x1 == 32)))] hF (by kernel_rfl) fun fr hF => ?_
       refine from_end rfl (then_normal ?_)
       refine (wp_pure [(0, Str.val p0), (3, L a5 x3 c5), (4, I (-1)), (5, I s1.2.1), (6, .bool ((s1.2.1 == (len p0.bytes)) || (x1 == 32)))] hF (by kernel_rfl) fun fr hF => then_normal ?_)
       refine wp_seq (region_b [] [true, true, true, true, true, true]
           [.eq (.bool ((s1.2.1 == (len p0.bytes)) || (x1 == 32))), .eq (.bool (!((s1.2.1 == (len p0.bytes)) || (x1 == 32)))), .eq (.bool (!((s1.2.1 == (len p0.bytes)) || (x1 == 32)))), .eq (I (-1)), .eq (.bool (decide ((-1) < 0))), .eq (.bool ((!((s1.2.1 == (len p0.bytes)) || (x1 == 32))) && (decide ((-1) < 0))))]
           [(0, Str.val p0), (3, L a5 x3 c5), (4, I (-1)), (5, I s1.2.1), (41, .bool ((!((s1.2.1 == (len p0.bytes)) || (x1 == 32))) && (decide ((-1) < 0))))] mix hF (by kernel_rfl) (by kernel_rfl) (by kernel_rfl) trivial (fun hG => trivial) (by kernel_rfl) fun fr w6 hF hE hc => then_normal ?_)
       have hs := hs.ext hc
       have hM1 := hM1.ext hc
       refine (wp_merge [(0, Str.val p0), (3, L a5 x3 c5), (4, I (cond ((!((s1.2.1 == (len p0.bytes)) || (x1 == 32))) && (decide ((-1) < 0))) s1.2.1 (-1))), (5, I s1.2.1)] hF (b := ((!((s1.2.1 == (len p0.bytes)) || (x1 == 32))) && (decide ((-1) < 0)))) rfl (fun hb => ?_) (fun hb => ?_) fun fr hF => ?_)
       · exact wp_pure [(0, Str.val p0), (3, L a5 x3 c5), (4, I s1.2.1), (5, I s1.2.1)] hF (by kernel_rfl) fun fr hF => ⟨rfl, rfl, hF.eqs (by first | (simp only [hb]; done) | (simp only [hb]; rfl))⟩
       · exact wp_skip ⟨rfl, rfl, (hF.sub [(0, Str.val p0), (3, L a5 x3 c5), (4, I (-1)), (5, I s1.2.1)] (by kernel_rfl)).eqs (by first | (simp only [hb]; done) | (simp only [hb]; rfl))⟩
       refine blk_normal (then_normal ?_)
       refine (wp_pure [(0, Str.val p0), (3, L a5 x3 c5), (4, I (cond ((!((s1.2.1 == (len p0.bytes)) || (x1 == 32))) && (decide ((-1) < 0))) s1.2.1 (-1))), (5, I (w64 (s1.2.1 + 1)))] hF (by kernel_rfl) fun fr hF => then_normal ?_)
       exact ⟨_, (Option.some.inj h).symm, a5, c5, S5, _, hF.sub _ (by kernel_rfl), hM1, hs⟩
     replace h := iteF hb h
     refine (wp_skip (then_normal ?_))
     refine wp_seq (region_b [] [true, true, true, true, true, true]
         [.eq (.bool ((s1.2.1 == (len p0.bytes)) || (x1 == 32))), .eq (.bool (!((s1.2.1 == (len p0.bytes)) || (x1 == 32)))), .eq (.bool (!((s1.2.1 == (len p0.bytes)) || (x1 == 32)))), .eq (I s1.1), .eq (.bool (decide (s1.1 < 0))), .eq (.bool ((!((s1.2.1 == (len p0.bytes)) || (x1 == 32))) && (decide (s1.1 < 0))))]
         [(0, Str.val p0), (3, L a2 s1.2.2 c2), (4, I s1.1), (5, I s1.2.1), (41, .bool ((!((s1.2.1 == (len p0.bytes)) || (x1 == 32))) && (decide (s1.1 < 0))))] mix hF (by kernel_rfl) (by kernel_rfl) (by kernel_rfl) trivial (fun hG => trivial) (by kernel_rfl) fun fr w7 hF hE hc => then_normal ?_)
     have hs := hs.ext hc
     have hM1 := hM1.ext hc
     refine (wp_merge [(0, Str.val p0), (3, L a2 s1.2.2 c2), (4, I (cond ((!((s1.2.1 == (len p0.bytes)) || (x1 == 32))) && (decide (s1.1 < 0))) s1.2.1 s1.1)), (5, I s1.2.1)] hF (b := ((!((s1.2.1 == (len p0.bytes)) || (x1 == 32))) && (decide (s1.1 < 0)))) rfl (fun hb => ?_) (fun hb => ?_) fun fr hF => ?_)
     · exact wp_pure [(0, Str.val p0), (3, L a2 s1.2.2 c2), (4, I s1.2.1), (5, I s1.2.1)] hF (by kernel_rfl) fun fr hF => ⟨rfl, rfl, hF.eqs (by first | (simp only [hb]; done) | (simp only [hb]; rfl))⟩
     · exact wp_skip ⟨rfl, rfl, (hF.sub [(0, Str.val p0), (3, L a2 s1.2.2 c2), (4, I s1.1), (5, I s1.2.1)] (by kernel_rfl)).eqs (by first | (simp only [hb]; done) | (simp only [hb]; rfl))⟩
     refine blk_normal (then_normal ?_)
     refine (wp_pure [(0, Str.val p0), (3, L a2 s1.2.2 c2), (4, I (cond ((!((s1.2.1 == (len p0.bytes)) || (x1 == 32))) && (decide (s1.1 < 0))) s1.2.1 s1.1)), (5, I (w64 (s1.2.1 + 1)))] hF (by kernel_rfl) fun fr hF => then_normal ?_)
     exact ⟨_, (Option.some.inj h).symm, a2, c2, S2, _, hF.sub _ (by kernel_rfl), hM1, hs⟩
   replace h := iteF hb h
   refine (wp_exit (then_exit (then_exit (blk_exit_eq ?_))))
   obtain rfl := hr1 _ (Option.some.inj h).symm
   exact then_normal ⟨a2, c2, S2, _, hF.sub _ (by kernel_rfl), hM1, hs⟩
 · obtain ⟨a3, c3, S3, F2, hF, hMx, hs⟩ := hM
   have hM0 := hM0.trans hMx
   refine wp_seq (wp_pure [(2, L a3 rl1 c3)] hF (by kernel_rfl) fun fr hF => then_normal ?_)
   obtain rfl := Option.some.inj h
   exact wp_ret (ret1 rfl hF rfl ⟨_, rfl, a3, c3, rfl, S3, hM0.out, hs⟩)

theorem spec_Join_ok (n : Nat) (p0 : List Str) (p1 : Str) {r : Str} (h : spec_Join n p0 p1 = some r) {w : World} {G0 : Nat → Prop} {va0 : Value} (ra0 : RV w G0 va0 p0) :
   Calls Tryz.prog 13 [va0, Str.val p1].toArray w fun e w' => ∃ v, e = .returned v ∧ v = Str.val r ∧ Chg Non w w' := by
 unfold spec_Join at h
 have hs := Sep.nil w Non
 have hM0 : Mem w Non (fun k => (G0 k) ∧ k < w.heap.size) w Non (fun k => (G0 k) ∧ k < w.heap.size) := Mem.start (fun _ h => h.elim) (fun _ h => h.2) (fun _ h => h.elim)
 have ra0 := ra0.sub (F' := (fun k => (G0 k) ∧ k < w.heap.size)) (fun k hk h => ⟨h, hk⟩)
 obtain ⟨a1, c1, rfl, -⟩ := ra0.slice
 refine enter (N := 25) Tryz.func13 rfl Tryz.ntmps13 rfl fun fr hF => ?_
 refine wp_seq (wp_pure [(0, L a1 p0 c1), (1, Str.val p1)] hF (by kernel_rfl) fun fr hF => then_normal ?_)
 refine wp_seq (wp_pure [(0, L a1 p0 c1), (1, Str.val p1), (5, Str.val (⟨[]⟩))] hF (by kernel_rfl) fun fr hF => then_normal ?_)
 refine wp_seq ?_
 refine wp_seq (wp_pure [(1, Str.val p1), (5, Str.val (⟨[]⟩)), (8, L a1 p0 c1), (9, I (len p0)), (10, I 0)] hF (by kernel_rfl) fun fr hF => then_normal ?_)
 obtain ⟨rl1, hit1, h⟩ := bindE h
 have hk1 := h
 refine (GL.wp_cut (M := fun fr w' => ∃ S2 F2, FrS 25 [(5, Str.val rl1)] fr ∧ Mem w Non (fun k => (G0 k) ∧ k < w.heap.size) w' S2 F2 ∧ Sep [] w' S2) (wp_block (wp_iter (Inv := fun s1 fr w' => ∃ S1 F1, FrS 25 [(1, Str.val p1), (5, Str.val s1.1), (8, L a1 p0 c1), (9, I (len p0)), (10, I s1.2)] fr ∧ Mem w Non (fun k => (G0 k) ∧ k < w.heap.size) w' S1 F1 ∧ Sep [] w' S1) hit1 ⟨Non, _, hF.sub _ (by kernel_rfl), (Mem.start hM0.bd hM0.bdF hM0.dj), hs⟩ fun s1 q1 fr w1i hI h hr1 => ?_)) fun fr w1o hM => ?_)
 · obtain ⟨S1, F1, hF, hM1, hs⟩ := hI
   have ra0 := ra0.mem hM1
   refine wp_seq (wp_pure [(1, Str.val p1), (5, Str.val s1.1), (8, L a1 p0 c1), (9, I (len p0)), (10, I s1.2), (11, .bool (decide (s1.2 < (len p0))))] hF (by kernel_rfl) fun fr hF => then_normal ?_)
   refine wp_seq (wp_if hF (b := (decide (s1.2 < (len p0)))) rfl (fun hb => ?_) (fun hb => ?_))
   · replace h := iteT hb h
     refine (wp_skip (then_normal ?_))
     refine wp_seq (wp_block ?_)
     refine wp_seq (wp_text' ?_)
     refine from_pure 1 [(1, Str.val p1), (5, Str.val s1.1), (8, L a1 p0 c1), (9, I (len p0)), (10, I s1.2), (12, I s1.2)] hF (by kernel_rfl) fun fr hF => ?_
     obtain ⟨x1, hx1, h⟩ := bindE h
     refine s_elemF (z := x1) (Str.val x1) ty9 Tryz.underlying30 rfl rfl rfl rfl rfl hF rfl (ra0) rfl (get?_nn hx1) (get?_at hx1) rfl fun p fr hF => ?_
     refine from_pure 2 [(1, Str.val p1), (5, Str.val s1.1), (6, I s1.2), (7, Str.val x1), (8, L a1 p0 c1), (9, I (len p0)), (10, I s1.2)] hF (by kernel_rfl) fun fr hF => ?_
     refine from_end rfl (then_normal ?_)
     refine wp_seq ?_
     refine wp_seq (wp_pure [(1, Str.val p1), (5, Str.val s1.1), (7, Str.val x1), (8, L a1 p0 c1), (9, I (len p0)), (10, I s1.2), (16, .bool (decide (s1.2 > 0)))] hF (by kernel_rfl) fun fr hF => then_normal ?_)
     refine (wp_if hF (b := (decide (s1.2 > 0))) rfl (fun hb => ?_) (fun hb => ?_))
     · replace h := iteT hb h
       refine (wp_text' ?_)
       refine from_pure 2 [(1, Str.val p1), (7, Str.val x1), (8, L a1 p0 c1), (9, I (len p0)), (10, I s1.2), (17, Str.val s1.1), (18, Str.val p1)] hF (by kernel_rfl) fun fr hF => ?_
       obtain ⟨x2, hx2, h⟩ := bindE h
       refine s_cat (s1 := s1.1) (s2 := p1) rfl rfl hF rfl rfl hx2 fun fr hF => ?_
       refine from_pure 1 [(1, Str.val p1), (5, Str.val x2), (7, Str.val x1), (8, L a1 p0 c1), (9, I (len p0)), (10, I s1.2)] hF (by kernel_rfl) fun fr hF => ?_
       refine from_end rfl (then_normal ?_)
       refine (wp_text' ?_)
       refine from_pure 2 [(1, Str.val p1), (8, L a1 p0 c1), (9, I (len p0)), (10, I s1.2), (20, Str.val x2), (21, Str.val x1)] hF (by kernel_rfl) fun fr hF => ?_
       obtain ⟨x3, hx3, h⟩ := bindE h
       refine s_cat (s1 := x2) (s2 := x1) rfl rfl hF rfl rfl hx3 fun fr hF => ?_
       refine from_pure 1 [(1, Str.val p1), (5, Str.val x3), (8, L a1 p0 c1), (9, I (len p0)), (10, I s1.2)] hF (by kernel_rfl) fun fr hF => ?_
       refine from_end rfl ?_
       refine blk_normal (then_normal ?_)
       refine (wp_pure [(1, Str.val p1), (5, Str.val x3), (8, L a1 p0 c1), (9, I (len p0)), (10, I (w64 (s1.2 + 1)))] hF (by kernel_rfl) fun fr hF => then_normal ?_)
       exact ⟨_, (Option.some.inj h).symm, S1, _, hF.sub _ (by kernel_rfl), hM1, hs⟩
     replace h := iteF hb h
     refine (wp_skip (then_normal ?_))
     refine (wp_text' ?_)
     refine from_pure 2 [(1, Str.val p1), (8, L a1 p0 c1), (9, I (len p0)), (10, I s1.2), (20, Str.val s1.1), (21, Str.val x1)] hF (by kernel_rfl) fun fr hF => ?_
     obtain ⟨x4, hx4, h⟩ := bindE h
     refine s_cat (s1 := s1.1) (s2 := x1) rfl rfl hF rfl rfl hx4 fun fr hF => ?_
     refine from_pure 1 [(1, Str.val p1), (5, Str.val x4), (8, L a1 p0 c1), (9, I (len p0)), (10, I s1.2)] hF (by kernel_rfl) fun fr hF => ?_
     refine from_end rfl ?_
     refine blk_normal (then_normal ?_)
     refine (wp_pure [(1, Str.val p1), (5, Str.val x4), (8, L a1 p0 c1), (9, I (len p0)), (10, I (w64 (s1.2 + 1)))] hF (by kernel_rfl) fun fr hF => then_normal ?_)
     exact ⟨_, (Option.some.inj h).symm, S1, _, hF.sub _ (by kernel_rfl), hM1, hs⟩
   replace h := iteF hb h
   refine (wp_exit (then_exit (then_exit (blk_exit_eq ?_))))
   obtain rfl := hr1 _ (Option.some.inj h).symm
   exact then_normal ⟨S1, _, hF.sub _ (by kernel_rfl), hM1, hs⟩
 · obtain ⟨S2, F2, hF, hMx, hs⟩ := hM
   have hM0 := hM0.trans hMx
   refine wp_seq (wp_pure [(4, Str.val rl1)] hF (by kernel_rfl) fun fr hF => then_normal ?_)
   obtain rfl := Option.some.inj h
   exact wp_ret (ret1 rfl hF rfl ⟨_, rfl, rfl, hM0.chg⟩)

theorem spec_FormatInt_ok (n : Nat) : ∀ (p0 : Int) {r : Str} (h : spec_FormatInt n p0 = some r) {w : World},
   Calls Tryz.prog 49 [I p0].toArray w fun e w' => ∃ v, e = .returned v ∧ v = Str.val r ∧ Chg Non w w' := by
 induction n with
 | zero => intro p0 r h w; simp [spec_FormatInt] at h
 | succ n ih =>
 intro p0 r h w
 rw [spec_FormatInt] at h
 have hs := Sep.nil w Non
 have hM0 : Mem w Non (fun k => (False) ∧ k < w.heap.size) w Non (fun k => (False) ∧ k < w.heap.size) := Mem.start (fun _ h => h.elim) (fun _ h => h.2) (fun _ h => h.elim)
 refine enter (N := 44) Tryz.func49 rfl Tryz.ntmps49 rfl fun fr hF => ?_
 refine wp_seq (wp_pure [(0, I p0)] hF (by kernel_rfl) fun fr hF => then_normal ?_)
 refine wp_seq ?_
 refine wp_seq (wp_pure [(0, I p0), (5, .bool (decide (p0 < 0)))] hF (by kernel_rfl) fun fr hF => then_normal ?_)
 refine (wp_if hF (b := (decide (p0 < 0))) rfl (fun hb => ?_) (fun hb => ?_))
 · replace h := iteT hb h
   refine wp_seq ?_
   refine wp_seq (wp_text' ?_)
   refine from_pure 1 [(0, I p0), (6, I p0)] hF (by kernel_rfl) fun fr hF => ?_
   obtain ⟨x1, hx1, h⟩ := bindE h
   refine s_quo rfl rfl hF rfl rfl hx1 fun fr hF => ?_
   refine from_pure 1 [(0, I p0), (8, .bool (x1 == 0))] hF (by kernel_rfl) fun fr hF => ?_
   refine from_end rfl (then_normal ?_)
   refine (wp_if hF (b := (x1 == 0)) rfl (fun hb => ?_) (fun hb => ?_))
   · replace h := iteT hb h
     refine wp_seq (wp_text' ?_)
     refine from_pure 3 [(11, .int .u8 (IntKind.u8.wrap (w64 (48 - p0))))] hF (by kernel_rfl) fun fr hF => ?_
     refine q_lit (E := 5) hs hM0 [.int .u8 (IntKind.u8.wrap (w64 (48 - p0)))] (([(Byt.mk (IntKind.u8.wrap (w64 (48 - p0))))] : List Byt).map Flat.enc) ([(Byt.mk (IntKind.u8.wrap (w64 (48 - p0))))] : List Byt) rfl rfl hF [.int .u8 (IntKind.u8.wrap (w64 (48 - p0)))] rfl (fun w => by kernel_rfl) (css_flat _) rfl rfl rfl fun a1 c1 w1 S1 fr hs hp hF => ?_
     have hM0 := hM0.stp hp
     have hs : Sep [sl5 (.slice a1 (List.length ([(Byt.mk (IntKind.u8.wrap (w64 (48 - p0))))] : List Byt)) c1) ([(Byt.mk (IntKind.u8.wrap (w64 (48 - p0))))] : List Byt)] w1 S1 := hs
     refine s_bytesStr Tryz.underlying55 Tryz.underlying5 Tryz.underlying9 rfl rfl hF rfl (hs.rv 0 rfl) fun fr hF => ?_
     have hs : Sep [] w1 S1 := Sep.pick [] hs (by decide) rfl
     obtain ⟨x2, hx2, h⟩ := bindE h
     refine s_cat (s1 := (⟨[45]⟩)) (s2 := (strOf ([(Byt.mk (IntKind.u8.wrap (w64 (48 - p0))))] : List Byt))) rfl rfl hF rfl rfl hx2 fun fr hF => ?_
     refine from_pure 1 [(2, Str.val x2)] hF (by kernel_rfl) fun fr hF => ?_
     refine from_end rfl (then_normal ?_)
     obtain rfl := Option.some.inj h
     exact wp_ret (then_ret (then_ret (ret1 rfl hF rfl ⟨_, rfl, rfl, hM0.chg⟩)))
   replace h := iteF hb h
   refine (wp_skip (then_normal ?_))
   obtain ⟨x3, hx3, h⟩ := bindE h
   obtain ⟨x4, hx4, h⟩ := bindE h
   obtain ⟨x5, hx5, h⟩ := bindE h
   obtain ⟨x6, hx6, h⟩ := bindE h
   refine wp_seq (region_bm 11 [0, 1, 3, 0, 8, 24, 56, 120, 248, 511, 1023] [true, false, false, true, false, true, true, false, false, false, true]
       [.eq (I p0), .eq (I x3), .eq (Str.val x4), .eq (I p0), .eq (I x5), .eq (I (w64 (48 - x5))), .eq (.int .u8 (IntKind.u8.wrap (w64 (48 - x5)))), .is fun v w => RV w (fun k => k < w.heap.size) v ([(Byt.mk (IntKind.u8.wrap (w64 (48 - x5))))] : List Byt), .eq (Str.val (strOf ([(Byt.mk (IntKind.u8.wrap (w64 (48 - x5))))] : List Byt))), .eq (Str.val x6), .eq (Str.val x6)]
       [(2, Str.val x6)] mix hF (by kernel_rfl) (by kernel_rfl) (by kernel_rfl) (by kernel_rfl) ⟨Pd.monoO_eq, Pd.monoO_eq, Pd.monoO_eq, (Pd.monoO_is mono_rvb), Pd.monoO_eq, Pd.monoO_eq, trivial⟩ (fun ow hG => ⟨np_to ow (np_quo hG hF rfl rfl rfl (fun hg => hx3) rfl), np_to ow (np_call [I x3] hG hF Tryz.call49 rfl rfl (fun w hC hg => (ih x3 hx4).mono fun e w' ⟨v, he, hv, hc⟩ => ⟨v, he, hc, hv⟩)), np_to ow (np_rem hG hF rfl rfl rfl (fun hg => hx5) rfl), np_to ow (np_litI (E := 5) [.int .u8 (IntKind.u8.wrap (w64 (48 - x5)))] (([(Byt.mk (IntKind.u8.wrap (w64 (48 - x5))))] : List Byt).map Flat.enc) ([(Byt.mk (IntKind.u8.wrap (w64 (48 - x5))))] : List Byt) hG hF rfl [.int .u8 (IntKind.u8.wrap (w64 (48 - x5)))] rfl (fun w => by kernel_rfl) (fun w => css_flat _) rfl rfl rfl rfl), np_to ow (np_bytesD (le := ([(Byt.mk (IntKind.u8.wrap (w64 (48 - x5))))] : List Byt)) (i := 7) (s := 22) hG hF rfl rfl rfl rfl rfl Tryz.underlying55 Tryz.underlying5 Tryz.underlying9 rfl), np_to ow (np_cat (s1 := x4) (s2 := (strOf ([(Byt.mk (IntKind.u8.wrap (w64 (48 - x5))))] : List Byt))) hG hF rfl rfl rfl (fun hg => hx6) rfl), trivial⟩) (by kernel_rfl) fun ow fr w2 hF hE hc => ?_)
   have hs := hs.ext hc
   have hM0 := hM0.ext hc
   refine from_end rfl (then_normal ?_)
   obtain rfl := Option.some.inj h
   exact wp_ret (then_ret (ret1 rfl hF rfl ⟨_, rfl, rfl, hM0.chg⟩))
 replace h := iteF hb h
 refine (wp_skip (then_normal ?_))
 refine wp_seq (wp_pure [(0, I p0), (3, Str.val (⟨[]⟩))] hF (by kernel_rfl) fun fr hF => then_normal ?_)
 obtain ⟨rl1, hit1, h⟩ := bindE h
 have hk1 := h
 refine wp_seq (GL.wp_cut (M := fun fr w' => ∃ S3 F2, FrS 44 [(0, I rl1.1), (3, Str.val rl1.2)] fr ∧ Mem w Non (fun k => (False) ∧ k < w.heap.size) w' S3 F2 ∧ Sep [] w' S3) (wp_block (wp_iter (Inv := fun s1 fr w' => ∃ S2 F1, FrS 44 [(0, I s1.1), (3, Str.val s1.2)] fr ∧ Mem w Non (fun k => (False) ∧ k < w.heap.size) w' S2 F1 ∧ Sep [] w' S2) hit1 ⟨Non, _, hF.sub _ (by kernel_rfl), (Mem.start hM0.bd hM0.bdF hM0.dj), hs⟩ fun s1 q1 fr w1i hI h hr1 => ?_)) fun fr w1o hM => ?_)
 · obtain ⟨S2, F1, hF, hM1, hs⟩ := hI
   refine wp_seq ?_
   refine wp_seq (wp_pure [(0, I s1.1), (3, Str.val s1.2), (26, .bool (decide (s1.1 > 9)))] hF (by kernel_rfl) fun fr hF => then_normal ?_)
   refine (wp_if hF (b := (decide (s1.1 > 9))) rfl (fun hb => ?_) (fun hb => ?_))
   · replace h := iteT hb h
     refine (wp_skip (then_normal ?_))
     refine (wp_block ?_)
     refine wp_seq (wp_text' ?_)
     refine from_pure 1 [(0, I s1.1), (3, Str.val s1.2), (27, I s1.1)] hF (by kernel_rfl) fun fr hF => ?_
     obtain ⟨x7, hx7, h⟩ := bindE h
     refine s_rem rfl rfl hF rfl rfl hx7 fun fr hF => ?_
     refine from_pure 2 [(0, I s1.1), (3, Str.val s1.2), (30, .int .u8 (IntKind.u8.wrap (w64 (48 + x7))))] hF (by kernel_rfl) fun fr hF => ?_
     refine q_lit (E := 5) hs hM1 [.int .u8 (IntKind.u8.wrap (w64 (48 + x7)))] (([(Byt.mk (IntKind.u8.wrap (w64 (48 + x7))))] : List Byt).map Flat.enc) ([(Byt.mk (IntKind.u8.wrap (w64 (48 + x7))))] : List Byt) rfl rfl hF [.int .u8 (IntKind.u8.wrap (w64 (48 + x7)))] rfl (fun w => by kernel_rfl) (css_flat _) rfl rfl rfl fun a2 c2 w3 S4 fr hs hp hF => ?_
     have hM1 := hM1.stp hp
     have hs : Sep [sl5 (.slice a2 (List.length ([(Byt.mk (IntKind.u8.wrap (w64 (48 + x7))))] : List Byt)) c2) ([(Byt.mk (IntKind.u8.wrap (w64 (48 + x7))))] : List Byt)] w3 S4 := hs
     refine s_bytesStr Tryz.underlying55 Tryz.underlying5 Tryz.underlying9 rfl rfl hF rfl (hs.rv 0 rfl) fun fr hF => ?_
     have hs : Sep [] w3 S4 := Sep.pick [] hs (by decide) rfl
     refine from_pure 1 [(0, I s1.1), (32, Str.val (strOf ([(Byt.mk (IntKind.u8.wrap (w64 (48 + x7))))] : List Byt))), (33, Str.val s1.2)] hF (by kernel_rfl) fun fr hF => ?_
     obtain ⟨x8, hx8, h⟩ := bindE h
     refine s_cat (s1 := (strOf ([(Byt.mk (IntKind.u8.wrap (w64 (48 + x7))))] : List Byt))) (s2 := s1.2) rfl rfl hF rfl rfl hx8 fun fr hF => ?_
     refine from_pure 1 [(0, I s1.1), (3, Str.val x8)] hF (by kernel_rfl) fun fr hF => ?_
     refine from_end rfl (then_normal ?_)
     refine (wp_text' ?_)
     refine from_pure 1 [(3, Str.val x8), (35, I s1.1)] hF (by kernel_rfl) fun fr hF => ?_
     obtain ⟨x9, hx9, h⟩ := bindE h
     refine s_quo rfl rfl hF rfl rfl hx9 fun fr hF => ?_
     refine from_pure 1 [(0, I x9), (3, Str.val x8)] hF (by kernel_rfl) fun fr hF => ?_
     refine from_end rfl ?_
     refine blk_normal (then_normal ?_)
     exact ⟨_, (Option.some.inj h).symm, S4, _, hF.sub _ (by kernel_rfl), hM1, hs⟩
   replace h := iteF hb h
   refine (wp_exit (then_exit (then_exit (blk_exit_eq ?_))))
   obtain rfl := hr1 _ (Option.some.inj h).symm
   exact then_normal ⟨S2, _, hF.sub _ (by kernel_rfl), hM1, hs⟩
 · obtain ⟨S3, F2, hF, hMx, hs⟩ := hM
   have hM0 := hM0.trans hMx
   refine wp_seq (wp_text' ?_)
   refine from_pure 3 [(3, Str.val rl1.2), (39, .int .u8 (IntKind.u8.wrap (w64 (48 + rl1.1))))] hF (by kernel_rfl) fun fr hF => ?_
   refine q_lit (E := 5) hs hM0 [.int .u8 (IntKind.u8.wrap (w64 (48 + rl1.1)))] (([(Byt.mk (IntKind.u8.wrap (w64 (48 + rl1.1))))] : List Byt).map Flat.enc) ([(Byt.mk (IntKind.u8.wrap (w64 (48 + rl1.1))))] : List Byt) rfl rfl hF [.int .u8 (IntKind.u8.wrap (w64 (48 + rl1.1)))] rfl (fun w => by kernel_rfl) (css_flat _) rfl rfl rfl fun a3 c3 w4 S5 fr hs hp hF => ?_
   have hM0 := hM0.stp hp
   have hs : Sep [sl5 (.slice a3 (List.length ([(Byt.mk (IntKind.u8.wrap (w64 (48 + rl1.1))))] : List Byt)) c3) ([(Byt.mk (IntKind.u8.wrap (w64 (48 + rl1.1))))] : List Byt)] w4 S5 := hs
   refine s_bytesStr Tryz.underlying55 Tryz.underlying5 Tryz.underlying9 rfl rfl hF rfl (hs.rv 0 rfl) fun fr hF => ?_
   have hs : Sep [] w4 S5 := Sep.pick [] hs (by decide) rfl
   refine from_pure 1 [(41, Str.val (strOf ([(Byt.mk (IntKind.u8.wrap (w64 (48 + rl1.1))))] : List Byt))), (42, Str.val rl1.2)] hF (by kernel_rfl) fun fr hF => ?_
   obtain ⟨x10, hx10, h⟩ := bindE h
   refine s_cat (s1 := (strOf ([(Byt.mk (IntKind.u8.wrap (w64 (48 + rl1.1))))] : List Byt))) (s2 := rl1.2) rfl rfl hF rfl rfl hx10 fun fr hF => ?_
   refine from_pure 1 [(2, Str.val x10)] hF (by kernel_rfl) fun fr hF => ?_
   refine from_end rfl (then_normal ?_)
   obtain rfl := Option.some.inj h
   exact wp_ret (ret1 rfl hF rfl ⟨_, rfl, rfl, hM0.chg⟩)

theorem spec_ParseInt_ok (n : Nat) (p0 : Str) {r : Int × Bool} (h : spec_ParseInt n p0 = some r) {w : World} :
   Calls Tryz.prog 26 [Str.val p0].toArray w fun e w' => ∃ v, e = .returned v ∧ v = .tuple #[I r.1, .bool r.2] ∧ Chg Non w w' := by
 unfold spec_ParseInt at h
 have hs := Sep.nil w Non
 have hM0 : Mem w Non (fun k => (False) ∧ k < w.heap.size) w Non (fun k => (False) ∧ k < w.heap.size) := Mem.start (fun _ h => h.elim) (fun _ h => h.2) (fun _ h => h.elim)
 refine enter (N := 65) Tryz.func26 rfl Tryz.ntmps26 rfl fun fr hF => ?_
 refine wp_seq (wp_pure [(0, Str.val p0)] hF (by kernel_rfl) fun fr hF => then_normal ?_)
 obtain ⟨x1, hx1, h⟩ := bindE h
 refine wp_seq (region_b [] [true, true, true, true, true, false, true, true, true]
     [.eq (Str.val p0), .eq (I (len p0.bytes)), .eq (.bool (decide ((len p0.bytes) > 0))), .eq (.bool (decide ((len p0.bytes) > 0))), .eq (Str.val p0), .eq (.int .u8 x1), .eq (.bool (x1 == 45)), .eq (.bool ((decide ((len p0.bytes) > 0)) && (x1 == 45))), .eq (.bool ((decide ((len p0.bytes) > 0)) && (x1 == 45)))]
     [(0, Str.val p0), (4, .bool ((decide ((len p0.bytes) > 0)) && (x1 == 45)))] mix hF (by kernel_rfl) (by kernel_rfl) (by kernel_rfl) ⟨Pd.mono_eq, trivial⟩ (fun hG => ⟨np_index_str (s := p0) hG hF Tryz.underlying9 rfl rfl rfl (fun hg => (iteT hg.2 hx1)) rfl, trivial⟩) (by kernel_rfl) fun fr w1 hF hE hc => then_normal ?_)
 have hs := hs.ext hc
 have hM0 := hM0.ext hc
 refine wp_seq (wp_pure [(0, Str.val p0), (4, .bool ((decide ((len p0.bytes) > 0)) && (x1 == 45))), (5, Str.val p0)] hF (by kernel_rfl) fun fr hF => then_normal ?_)
 refine wp_seq ?_
 refine wp_seq (wp_pure [(0, Str.val p0), (4, .bool ((decide ((len p0.bytes) > 0)) && (x1 == 45))), (5, Str.val p0), (18, .bool ((decide ((len p0.bytes) > 0)) && (x1 == 45)))] hF (by kernel_rfl) fun fr hF => then_normal ?_)
 refine (wp_if hF (b := ((decide ((len p0.bytes) > 0)) && (x1 == 45))) rfl (fun hb => ?_) (fun hb => ?_))
 · replace h := iteT hb h
   refine (wp_text' ?_)
   refine from_pure 1 [(0, Str.val p0), (4, .bool ((decide ((len p0.bytes) > 0)) && (x1 == 45))), (19, Str.val p0)] hF (by kernel_rfl) fun fr hF => ?_
   obtain ⟨x2, hx2, h⟩ := bindE h
   refine s_scut (s := p0) Tryz.underlying9 rfl rfl hF rfl ⟨_, rfl⟩ rfl hx2 fun fr hF => ?_
   refine from_pure 1 [(0, Str.val p0), (4, .bool ((decide ((len p0.bytes) > 0)) && (x1 == 45))), (5, Str.val x2)] hF (by kernel_rfl) fun fr hF => ?_
   refine from_end rfl (then_normal ?_)
   refine wp_seq ?_
   refine wp_seq (region_b [] [true, true, true, true, true, true, true, true]
       [.eq (Str.val x2), .eq (I (len x2.bytes)), .eq (.bool (decide ((len x2.bytes) < 1))), .eq (.bool (decide ((len x2.bytes) < 1))), .eq (Str.val x2), .eq (I (len x2.bytes)), .eq (.bool (decide ((len x2.bytes) > 19))), .eq (.bool ((decide ((len x2.bytes) < 1)) || (decide ((len x2.bytes) > 19))))]
       [(0, Str.val p0), (4, .bool ((decide ((len p0.bytes) > 0)) && (x1 == 45))), (5, Str.val x2), (28, .bool ((decide ((len x2.bytes) < 1)) || (decide ((len x2.bytes) > 19))))] mix hF (by kernel_rfl) (by kernel_rfl) (by kernel_rfl) trivial (fun hG => trivial) (by kernel_rfl) fun fr w2 hF hE hc => then_normal ?_)
   have hs := hs.ext hc
   have hM0 := hM0.ext hc
   refine (wp_if hF (b := ((decide ((len x2.bytes) < 1)) || (decide ((len x2.bytes) > 19)))) rfl (fun hb => ?_) (fun hb => ?_))
   · replace h := iteT hb h
     refine wp_seq (wp_pure [(2, I 0), (3, .bool false)] hF (by kernel_rfl) fun fr hF => then_normal ?_)
     have hrets := fun {σ : List (Nat × Value)} (h : σ = [(2, I 0), (3, .bool false)]) => (by subst h; exact (Rets.tmp rfl (Rets.tmp rfl Rets.nil)) : Rets Tryz.prog σ w2 [.tmp 2, .tmp 3] [I 0, .bool false])
     obtain rfl := Option.some.inj h
     exact wp_ret (then_ret (retG (rs := [.tmp 2, .tmp 3]) rfl (hF.sub [(2, I 0), (3, .bool false)] (by kernel_rfl)) (hrets rfl) rfl ⟨_, rfl, rfl, hM0.chg⟩))
   replace h := iteF hb h
   refine (wp_skip (then_normal ?_))
   refine wp_seq (wp_pure [(0, Str.val p0), (4, .bool ((decide ((len p0.bytes) > 0)) && (x1 == 45))), (5, Str.val x2), (6, I 0)] hF (by kernel_rfl) fun fr hF => then_normal ?_)
   refine wp_seq ?_
   refine wp_seq (wp_pure [(0, Str.val p0), (4, .bool ((decide ((len p0.bytes) > 0)) && (x1 == 45))), (5, Str.val x2), (6, I 0), (7, I 0)] hF (by kernel_rfl) fun fr hF => then_normal ?_)
   obtain ⟨rl1, hit1, h⟩ := bindE h
   have hk1 := h
   refine (GL.wp_cut (M := fun fr w' => ∃ s, rl1 = .inl s ∧ ∃ S2 F2, FrS 65 [(0, Str.val p0), (4, .bool ((decide ((len p0.bytes) > 0)) && (x1 == 45))), (6, I s)] fr ∧ Mem w2 Non (fun k => (False) ∧ k < w.heap.size) w' S2 F2 ∧ Sep [] w' S2) (wp_block (wp_iter (Inv := fun s1 fr w' => ∃ S1 F1, FrS 65 [(0, Str.val p0), (4, .bool ((decide ((len p0.bytes) > 0)) && (x1 == 45))), (5, Str.val x2), (6, I s1.1), (7, I s1.2)] fr ∧ Mem w2 Non (fun k => (False) ∧ k < w.heap.size) w' S1 F1 ∧ Sep [] w' S1) hit1 ⟨Non, _, hF.sub _ (by kernel_rfl), (Mem.start hM0.bd hM0.bdF hM0.dj), hs⟩ fun s1 q1 fr w1i hI h hr1 => ?_)) fun fr w1o hM => ?_)
   · obtain ⟨S1, F1, hF, hM1, hs⟩ := hI
     refine wp_seq ?_
     refine wp_seq (wp_pure [(0, Str.val p0), (4, .bool ((decide ((len p0.bytes) > 0)) && (x1 == 45))), (5, Str.val x2), (6, I s1.1), (7, I s1.2), (32, .bool (decide (s1.2 < (len x2.bytes))))] hF (by kernel_rfl) fun fr hF => then_normal ?_)
     refine (wp_if hF (b := (decide (s1.2 < (len x2.bytes)))) rfl (fun hb => ?_) (fun hb => ?_))
     · replace h := iteT hb h
       refine (wp_skip (then_normal ?_))
       refine wp_seq (wp_block ?_)
       refine wp_seq (wp_text' ?_)
       refine from_pure 2 [(0, Str.val p0), (4, .bool ((decide ((len p0.bytes) > 0)) && (x1 == 45))), (5, Str.val x2), (6, I s1.1), (7, I s1.2), (35, Str.val x2), (36, I s1.2)] hF (by kernel_rfl) fun fr hF => ?_
       obtain ⟨x3, hx3, h⟩ := bindE h
       refine s_index (s := x2) Tryz.underlying9 rfl rfl hF rfl rfl hx3 fun fr hF => ?_
       refine from_pure 3 [(0, Str.val p0), (4, .bool ((decide ((len p0.bytes) > 0)) && (x1 == 45))), (5, Str.val x2), (6, I s1.1), (7, I s1.2), (8, I (w64 ((w64 x3) - 48)))] hF (by kernel_rfl) fun fr hF => ?_
       refine from_end rfl (then_normal ?_)
       refine wp_seq ?_
       obtain ⟨x4, hx4, h⟩ := bindE h
       obtain ⟨x5, hx5, h⟩ := bindE h
       refine wp_seq (region_b [] [true, false, true, true, true, true, true, false, true, true]
           [.eq (I (w64 ((w64 x3) - 48))), .eq (.bool x4), .eq (.bool (!x4)), .eq (.bool (!x4)), .eq (I s1.1), .eq (I (w64 ((w64 x3) - 48))), .eq (I (w64 ((-9223372036854775808) + (w64 ((w64 x3) - 48))))), .eq (I x5), .eq (.bool (decide (s1.1 < x5))), .eq (.bool ((!x4) || (decide (s1.1 < x5))))]
           [(0, Str.val p0), (4, .bool ((decide ((len p0.bytes) > 0)) && (x1 == 45))), (5, Str.val x2), (6, I s1.1), (7, I s1.2), (8, I (w64 ((w64 x3) - 48))), (49, .bool ((!x4) || (decide (s1.1 < x5))))] mix hF (by kernel_rfl) (by kernel_rfl) (by kernel_rfl) ⟨Pd.mono_eq, Pd.mono_eq, trivial⟩ (fun hG => ⟨np_call [I (w64 ((w64 x3) - 48)), I 0, I 9] hG hF Tryz.call10 rfl rfl (fun w hC hg => (spec_l01In_ok (w64 ((w64 x3) - 48)) 0 9 hx4).mono fun e w' ⟨v, he, hv, hc⟩ => ⟨v, he, hc, hv⟩), np_quo hG hF rfl rfl rfl (fun hg => (iteF hg.2 hx5)) rfl, trivial⟩) (by kernel_rfl) fun fr w3 hF hE hc => then_normal ?_)
       have hs := hs.ext hc
       have hM1 := hM1.ext hc
       refine (wp_if hF (b := ((!x4) || (decide (s1.1 < x5)))) rfl (fun hb => ?_) (fun hb => ?_))
       · replace h := iteT hb h
         refine wp_seq (wp_pure [(2, I 0), (3, .bool false)] hF (by kernel_rfl) fun fr hF => then_normal ?_)
         have hrets := fun {σ : List (Nat × Value)} (h : σ = [(2, I 0), (3, .bool false)]) => (by subst h; exact (Rets.tmp rfl (Rets.tmp rfl Rets.nil)) : Rets Tryz.prog σ w3 [.tmp 2, .tmp 3] [I 0, .bool false])
         obtain rfl := hr1 _ (Option.some.inj h).symm
         obtain rfl := Option.some.inj hk1
         exact wp_ret (then_ret (blk_ret (then_ret (then_ret (blk_ret (then_ret (retG (rs := [.tmp 2, .tmp 3]) rfl (hF.sub [(2, I 0), (3, .bool false)] (by kernel_rfl)) (hrets rfl) rfl ⟨_, rfl, rfl, (hM0.trans hM1).chg⟩)))))))
       replace h := iteF hb h
       refine (wp_skip (then_normal ?_))
       refine (wp_pure [(0, Str.val p0), (4, .bool ((decide ((len p0.bytes) > 0)) && (x1 == 45))), (5, Str.val x2), (6, I (w64 ((w64 (s1.1 * 10)) - (w64 ((w64 x3) - 48))))), (7, I s1.2)] hF (by kernel_rfl) fun fr hF => ?_)
       refine blk_normal (then_normal ?_)
       refine (wp_pure [(0, Str.val p0), (4, .bool ((decide ((len p0.bytes) > 0)) && (x1 == 45))), (5, Str.val x2), (6, I (w64 ((w64 (s1.1 * 10)) - (w64 ((w64 x3) - 48))))), (7, I (w64 (s1.2 + 1)))] hF (by kernel_rfl) fun fr hF => then_normal ?_)
       exact ⟨_, (Option.some.inj h).symm, S1, _, hF.sub _ (by kernel_rfl), hM1, hs⟩
     replace h := iteF hb h
     refine (wp_exit (then_exit (then_exit (blk_exit_eq ?_))))
     obtain rfl := hr1 _ (Option.some.inj h).symm
     exact then_normal ⟨_, rfl, S1, _, hF.sub _ (by kernel_rfl), hM1, hs⟩
   · obtain ⟨s1r, rfl, hM⟩ := hM
     obtain ⟨S2, F2, hF, hMx, hs⟩ := hM
     have hM0 := hM0.trans hMx
     refine wp_seq ?_
     refine wp_seq (wp_pure [(0, Str.val p0), (6, I s1r), (55, .bool (!((decide ((len p0.bytes) > 0)) && (x1 == 45))))] hF (by kernel_rfl) fun fr hF => then_normal ?_)
     refine (wp_if hF (b := (!((decide ((len p0.bytes) > 0)) && (x1 == 45)))) rfl (fun hb => ?_) (fun hb => ?_))
     · replace h := iteT hb h
       refine wp_seq ?_
       refine wp_seq (wp_pure [(0, Str.val p0), (6, I s1r), (57, .bool (s1r == (-9223372036854775808)))] hF (by kernel_rfl) fun fr hF => then_normal ?_)
       refine (wp_if hF (b := (s1r == (-9223372036854775808))) rfl (fun hb => ?_) (fun hb => ?_))
       · replace h := iteT hb h
         refine wp_seq (wp_pure [(2, I 0), (3, .bool false)] hF (by kernel_rfl) fun fr hF => then_normal ?_)
         have hrets := fun {σ : List (Nat × Value)} (h : σ = [(2, I 0), (3, .bool false)]) => (by subst h; exact (Rets.tmp rfl (Rets.tmp rfl Rets.nil)) : Rets Tryz.prog σ w1o [.tmp 2, .tmp 3] [I 0, .bool false])
         obtain rfl := Option.some.inj h
         exact wp_ret (then_ret (then_ret (retG (rs := [.tmp 2, .tmp 3]) rfl (hF.sub [(2, I 0), (3, .bool false)] (by kernel_rfl)) (hrets rfl) rfl ⟨_, rfl, rfl, hM0.chg⟩)))
       replace h := iteF hb h
       refine (wp_skip (then_normal ?_))
       refine (wp_pure [(0, Str.val p0), (6, I (w64 (0 - s1r)))] hF (by kernel_rfl) fun fr hF => then_normal ?_)
       refine wp_seq ?_
       refine wp_seq (wp_text' ?_)
       refine from_pure 1 [(0, Str.val p0), (6, I (w64 (0 - s1r))), (60, I (w64 (0 - s1r)))] hF (by kernel_rfl) fun fr hF => ?_
       obtain ⟨x6, hx6, h⟩ := bindE h
       refine s_call [I (w64 (0 - s1r))] Tryz.call49 rfl rfl hF rfl (spec_FormatInt_ok n (w64 (0 - s1r)) hx6) fun v w4 fr hRes hF => ?_
       obtain ⟨rfl, hc⟩ := hRes
       have hs := hs.ext hc
       have hM0 := hM0.ext hc
       refine from_pure 2 [(6, I (w64 (0 - s1r))), (63, .bool (!(Str.eqb x6 p0)))] hF (by kernel_rfl) fun fr hF => ?_
       refine from_end rfl (then_normal ?_)
       refine (wp_if hF (b := (!(Str.eqb x6 p0))) rfl (fun hb => ?_) (fun hb => ?_))
       · replace h := iteT hb h
         refine wp_seq (wp_pure [(2, I 0), (3, .bool false)] hF (by kernel_rfl) fun fr hF => then_normal ?_)
         have hrets := fun {σ : List (Nat × Value)} (h : σ = [(2, I 0), (3, .bool false)]) => (by subst h; exact (Rets.tmp rfl (Rets.tmp rfl Rets.nil)) : Rets Tryz.prog σ w4 [.tmp 2, .tmp 3] [I 0, .bool false])
         obtain rfl := Option.some.inj h
         exact wp_ret (then_ret (retG (rs := [.tmp 2, .tmp 3]) rfl (hF.sub [(2, I 0), (3, .bool false)] (by kernel_rfl)) (hrets rfl) rfl ⟨_, rfl, rfl, hM0.chg⟩))
       replace h := iteF hb h
       refine (wp_skip (then_normal ?_))
       refine wp_seq (wp_pure [(2, I (w64 (0 - s1r))), (3, .bool true)] hF (by kernel_rfl) fun fr hF => then_normal ?_)
       have hrets := fun {σ : List (Nat × Value)} (h : σ = [(2, I (w64 (0 - s1r))), (3, .bool true)]) => (by subst h; exact (Rets.tmp rfl (Rets.tmp rfl Rets.nil)) : Rets Tryz.prog σ w4 [.tmp 2, .tmp 3] [I (w64 (0 - s1r)), .bool true])
       obtain rfl := Option.some.inj h
       exact wp_ret (retG (rs := [.tmp 2, .tmp 3]) rfl (hF.sub [(2, I (w64 (0 - s1r))), (3, .bool true)] (by kernel_rfl)) (hrets rfl) rfl ⟨_, rfl, rfl, hM0.chg⟩)
     replace h := iteF hb h
     refine (wp_skip (then_normal ?_))
     refine wp_seq ?_
     refine wp_seq (wp_text' ?_)
     refine from_pure 1 [(0, Str.val p0), (6, I s1r), (60, I s1r)] hF (by kernel_rfl) fun fr hF => ?_
     obtain ⟨x7, hx7, h⟩ := bindE h
     refine s_call [I s1r] Tryz.call49 rfl rfl hF rfl (spec_FormatInt_ok n s1r hx7) fun v w5 fr hRes hF => ?_
     obtain ⟨rfl, hc⟩ := hRes
     have hs := hs.ext hc
     have hM0 := hM0.ext hc
     refine from_pure 2 [(6, I s1r), (63, .bool (!(Str.eqb x7 p0)))] hF (by kernel_rfl) fun fr hF => ?_
     refine from_end rfl (then_normal ?_)
     refine (wp_if hF (b := (!(Str.eqb x7 p0))) rfl (fun hb => ?_) (fun hb => ?_))
     · replace h := iteT hb h
       refine wp_seq (wp_pure [(2, I 0), (3, .bool false)] hF (by kernel_rfl) fun fr hF => then_normal ?_)
       have hrets := fun {σ : List (Nat × Value)} (h : σ = [(2, I 0), (3, .bool false)]) => (by subst h; exact (Rets.tmp rfl (Rets.tmp rfl Rets.nil)) : Rets Tryz.prog σ w5 [.tmp 2, .tmp 3] [I 0, .bool false])
       obtain rfl := Option.some.inj h
       exact wp_ret (then_ret (retG (rs := [.tmp 2, .tmp 3]) rfl (hF.sub [(2, I 0), (3, .bool false)] (by kernel_rfl)) (hrets rfl) rfl ⟨_, rfl, rfl, hM0.chg⟩))
     replace h := iteF hb h
     refine (wp_skip (then_normal ?_))
     refine wp_seq (wp_pure [(2, I s1r), (3, .bool true)] hF (by kernel_rfl) fun fr hF => then_normal ?_)
     have hrets := fun {σ : List (Nat × Value)} (h : σ = [(2, I s1r), (3, .bool true)]) => (by subst h; exact (Rets.tmp rfl (Rets.tmp rfl Rets.nil)) : Rets Tryz.prog σ w5 [.tmp 2, .tmp 3] [I s1r, .bool true])
     obtain rfl := Option.some.inj h
     exact wp_ret (retG (rs := [.tmp 2, .tmp 3]) rfl (hF.sub [(2, I s1r), (3, .bool true)] (by kernel_rfl)) (hrets rfl) rfl ⟨_, rfl, rfl, hM0.chg⟩)
 replace h := iteF hb h
 refine (wp_skip (then_normal ?_))
 refine wp_seq ?_
 refine wp_seq (region_b [] [true, true, true, true, true, true, true, true]
     [.eq (Str.val p0), .eq (I (len p0.bytes)), .eq (.bool (decide ((len p0.bytes) < 1))), .eq (.bool (decide ((len p0.bytes) < 1))), .eq (Str.val p0), .eq (I (len p0.bytes)), .eq (.bool (decide ((len p0.bytes) > 19))), .eq (.bool ((decide ((len p0.bytes) < 1)) || (decide ((len p0.bytes) > 19))))]
     [(0, Str.val p0), (4, .bool ((decide ((len p0.bytes) > 0)) && (x1 == 45))), (5, Str.val p0), (28, .bool ((decide ((len p0.bytes) < 1)) || (decide ((len p0.bytes) > 19))))] mix hF (by kernel_rfl) (by kernel_rfl) (by kernel_rfl) trivial (fun hG => trivial) (by kernel_rfl) fun fr w6 hF hE hc => then_normal ?_)
 have hs := hs.ext hc
 have hM0 := hM0.ext hc
 refine (wp_if hF (b := ((decide ((len p0.bytes) < 1)) || (decide ((len p0.bytes) > 19)))) rfl (fun hb => ?_) (fun hb => ?_))
 · replace h := iteT hb h
   refine wp_seq (wp_pure [(2, I 0), (3, .bool false)] hF (by kernel_rfl) fun fr hF => then_normal ?_)
   have hrets := fun {σ : List (Nat × Value)} (h : σ = [(2, I 0), (3, .bool false)]) => (by subst h; exact (Rets.tmp rfl (Rets.tmp rfl Rets.nil)) : Rets Tryz.prog σ w6 [.tmp 2, .tmp 3] [I 0, .bool false])
   obtain rfl := Option.some.inj h
   exact wp_ret (then_ret (retG (rs := [.tmp 2, .tmp 3]) rfl (hF.sub [(2, I 0), (3, .bool false)] (by kernel_rfl)) (hrets rfl) rfl ⟨_, rfl, rfl, hM0.chg⟩))
 replace h := iteF hb h
 refine (wp_skip (then_normal ?_))
 refine wp_seq (wp_pure [(0, Str.val p0), (4, .bool ((decide ((len p0.bytes) > 0)) && (x1 == 45))), (5, Str.val p0), (6, I 0)] hF (by kernel_rfl) fun fr hF => then_normal ?_)
 refine wp_seq ?_
 refine wp_seq (wp_pure [(0, Str.val p0), (4, .bool ((decide ((len p0.bytes) > 0)) && (x1 == 45))), (5, Str.val p0), (6, I 0), (7, I 0)] hF (by kernel_rfl) fun fr hF => then_normal ?_)
 obtain ⟨rl2, hit2, h⟩ := bindE h
 have hk2 := h
 refine (GL.wp_cut (M := fun fr w' => ∃ s, rl2 = .inl s ∧ ∃ S4 F4, FrS 65 [(0, Str.val p0), (4, .bool ((decide ((len p0.bytes) > 0)) && (x1 == 45))), (6, I s)] fr ∧ Mem w6 Non (fun k => (False) ∧ k < w.heap.size) w' S4 F4 ∧ Sep [] w' S4) (wp_block (wp_iter (Inv := fun s2 fr w' => ∃ S3 F3, FrS 65 [(0, Str.val p0), (4, .bool ((decide ((len p0.bytes) > 0)) && (x1 == 45))), (5, Str.val p0), (6, I s2.1), (7, I s2.2)] fr ∧ Mem w6 Non (fun k => (False) ∧ k < w.heap.size) w' S3 F3 ∧ Sep [] w' S3) hit2 ⟨Non, _, hF.sub _ (by kernel_rfl), (Mem.start hM0.bd hM0.bdF hM0.dj), hs⟩ fun s2 q2 fr w2i hI h hr2 => ?_)) fun fr w2o hM => ?_)
 · obtain ⟨S3, F3, hF, hM1, hs⟩ := hI
   refine wp_seq ?_
   refine wp_seq (wp_pure [(0, Str.val p0), (4, .bool ((decide ((len p0.bytes) > 0)) && (x1 == 45))), (5, Str.val p0), (6, I s2.1), (7, I s2.2), (32, .bool (decide (s2.2 < (len p0.bytes))))] hF (by kernel_rfl) fun fr hF => then_normal ?_)
   refine (wp_if hF (b := (decide (s2.2 < (len p0.bytes)))) rfl (fun hb => ?_) (fun hb => ?_))
   · replace h := iteT hb h
     refine (wp_skip (then_normal ?_))
     refine wp_seq (wp_block ?_)
     refine wp_seq (wp_text' ?_)
     refine from_pure 2 [(0, Str.val p0), (4, .bool ((decide ((len p0.bytes) > 0)) && (x1 == 45))), (5, Str.val p0), (6, I s2.1), (7, I s2.2), (35, Str.val p0), (36, I s2.2)] hF (by kernel_rfl) fun fr hF => ?_
     obtain ⟨x8, hx8, h⟩ := bindE h
     refine s_index (s := p0) Tryz.underlying9 rfl rfl hF rfl rfl hx8 fun fr hF => ?_
     refine from_pure 3 [(0, Str.val p0), (4, .bool ((decide ((len p0.bytes) > 0)) && (x1 == 45))), (5, Str.val p0), (6, I s2.1), (7, I s2.2), (8, I (w64 ((w64 x8) - 48)))] hF (by kernel_rfl) fun fr hF => ?_
     refine from_end rfl (then_normal ?_)
     refine wp_seq ?_
     obtain ⟨x9, hx9, h⟩ := bindE h
     obtain ⟨x10, hx10, h⟩ := bindE h
     refine wp_seq (region_b [] [true, false, true, true, true, true, true, false, true, true]
         [.eq (I (w64 ((w64 x8) - 48))), .eq (.bool x9), .eq (.bool (!x9)), .eq (.bool (!x9)), .eq (I s2.1), .eq (I (w64 ((w64 x8) - 48))), .eq (I (w64 ((-9223372036854775808) + (w64 ((w64 x8) - 48))))), .eq (I x10), .eq (.bool (decide (s2.1 < x10))), .eq (.bool ((!x9) || (decide (s2.1 < x10))))]
         [(0, Str.val p0), (4, .bool ((decide ((len p0.bytes) > 0)) && (x1 == 45))), (5, Str.val p0), (6, I s2.1), (7, I s2.2), (8, I (w64 ((w64 x8) - 48))), (49, .bool ((!x9) || (decide (s2.1 < x10))))] mix hF (by kernel_rfl) (by kernel_rfl) (by kernel_rfl) ⟨Pd.mono_eq, Pd.mono_eq, trivial⟩ (fun hG => ⟨np_call [I (w64 ((w64 x8) - 48)), I 0, I 9] hG hF Tryz.call10 rfl rfl (fun w hC hg => (spec_l01In_ok (w64 ((w64 x8) - 48)) 0 9 hx9).mono fun e w' ⟨v, he, hv, hc⟩ => ⟨v, he, hc, hv⟩), np_quo hG hF rfl rfl rfl (fun hg => (iteF hg.2 hx10)) rfl, trivial⟩) (by kernel_rfl) fun fr w7 hF hE hc => then_normal ?_)
     have hs := hs.ext hc
     have hM1 := hM1.ext hc
     refine (wp_if hF (b := ((!x9) || (decide (s2.1 < x10)))) rfl (fun hb => ?_) (fun hb => ?_))
     · replace h := iteT hb h
       refine wp_seq (wp_pure [(2, I 0), (3, .bool false)] hF (by kernel_rfl) fun fr hF => then_normal ?_)
       have hrets := fun {σ : List (Nat × Value)} (h : σ = [(2, I 0), (3, .bool false)]) => (by subst h; exact (Rets.tmp rfl (Rets.tmp rfl Rets.nil)) : Rets Tryz.prog σ w7 [.tmp 2, .tmp 3] [I 0, .bool false])
       obtain rfl := hr2 _ (Option.some.inj h).symm
       obtain rfl := Option.some.inj hk2
       exact wp_ret (then_ret (blk_ret (then_ret (then_ret (blk_ret (then_ret (retG (rs := [.tmp 2, .tmp 3]) rfl (hF.sub [(2, I 0), (3, .bool false)] (by kernel_rfl)) (hrets rfl) rfl ⟨_, rfl, rfl, (hM0.trans hM1).chg⟩)))))))
     replace h := iteF hb h
     refine (wp_skip (then_normal ?_))
     refine (wp_pure [(0, Str.val p0), (4, .bool ((decide ((len p0.bytes) > 0)) && (x1 == 45))), (5, Str.val p0), (6, I (w64 ((w64 (s2.1 * 10)) - (w64 ((w64 x8) - 48))))), (7, I s2.2)] hF (by kernel_rfl) fun fr hF => ?_)
     refine blk_normal (then_normal ?_)
     refine (wp_pure [(0, Str.val p0), (4, .bool ((decide ((len p0.bytes) > 0)) && (x1 == 45))), (5, Str.val p0), (6, I (w64 ((w64 (s2.1 * 10)) - (w64 ((w64 x8) - 48))))), (7, I (w64 (s2.2 + 1)))] hF (by kernel_rfl) fun fr hF => then_normal ?_)
     exact ⟨_, (Option.some.inj h).symm, S3, _, hF.sub _ (by kernel_rfl), hM1, hs⟩
   replace h := iteF hb h
   refine (wp_exit (then_exit (then_exit (blk_exit_eq ?_))))
   obtain rfl := hr2 _ (Option.some.inj h).symm
   exact then_normal ⟨_, rfl, S3, _, hF.sub _ (by kernel_rfl), hM1, hs⟩
 · obtain ⟨s2r, rfl, hM⟩ := hM
   obtain ⟨S4, F4, hF, hMx, hs⟩ := hM
   have hM0 := hM0.trans hMx
   refine wp_seq ?_
   refine wp_seq (wp_pure [(0, Str.val p0), (6, I s2r), (55, .bool (!((decide ((len p0.bytes) > 0)) && (x1 == 45))))] hF (by kernel_rfl) fun fr hF => then_normal ?_)
   refine (wp_if hF (b := (!((decide ((len p0.bytes) > 0)) && (x1 == 45)))) rfl (fun hb => ?_) (fun hb => ?_))
   · replace h := iteT hb h
     refine wp_seq ?_
     refine wp_seq (wp_pure [(0, Str.val p0), (6, I s2r), (57, .bool (s2r == (-9223372036854775808)))] hF (by kernel_rfl) fun fr hF => then_normal ?_)
     refine (wp_if hF (b := (s2r == (-9223372036854775808))) rfl (fun hb => ?_) (fun hb => ?_))
     · replace h := iteT hb h
       refine wp_seq (wp_pure [(2, I 0), (3, .bool false)] hF (by kernel_rfl) fun fr hF => then_normal ?_)
       have hrets := fun {σ : List (Nat × Value)} (h : σ = [(2, I 0), (3, .bool false)]) => (by subst h; exact (Rets.tmp rfl (Rets.tmp rfl Rets.nil)) : Rets Tryz.prog σ w2o [.tmp 2, .tmp 3] [I 0, .bool false])
       obtain rfl := Option.some.inj h
       exact wp_ret (then_ret (then_ret (retG (rs := [.tmp 2, .tmp 3]) rfl (hF.sub [(2, I 0), (3, .bool false)] (by kernel_rfl)) (hrets rfl) rfl ⟨_, rfl, rfl, hM0.chg⟩)))
     replace h := iteF hb h
     refine (wp_skip (then_normal ?_))
     refine (wp_pure [(0, Str.val p0), (6, I (w64 (0 - s2r)))] hF (by kernel_rfl) fun fr hF => then_normal ?_)
     refine wp_seq ?_
     refine wp_seq (wp_text' ?_)
     refine from_pure 1 [(0, Str.val p0), (6, I (w64 (0 - s2r))), (60, I (w64 (0 - s2r)))] hF (by kernel_rfl) fun fr hF => ?_
     obtain ⟨x11, hx11, h⟩ := bindE h
     refine s_call [I (w64 (0 - s2r))] Tryz.call49 rfl rfl hF rfl (spec_FormatInt_ok n (w64 (0 - s2r)) hx11) fun v w8 fr hRes hF => ?_
     obtain ⟨rfl, hc⟩ := hRes
     have hs := hs.ext hc
     have hM0 := hM0.ext hc
     refine from_pure 2 [(6, I (w64 (0 - s2r))), (63, .bool (!(Str.eqb x11 p0)))] hF (by kernel_rfl) fun fr hF => ?_
     refine from_end rfl (then_normal ?_)
     refine (wp_if hF (b := (!(Str.eqb x11 p0))) rfl (fun hb => ?_) (fun hb => ?_))
     · replace h := iteT hb h
       refine wp_seq (wp_pure [(2, I 0), (3, .bool false)] hF (by kernel_rfl) fun fr hF => then_normal ?_)
       have hrets := fun {σ : List (Nat × Value)} (h : σ = [(2, I 0), (3, .bool false)]) => (by subst h; exact (Rets.tmp rfl (Rets.tmp rfl Rets.nil)) : Rets Tryz.prog σ w8 [.tmp 2, .tmp 3] [I 0, .bool false])
       obtain rfl := Option.some.inj h
       exact wp_ret (then_ret (retG (rs := [.tmp 2, .tmp 3]) rfl (hF.sub [(2, I 0), (3, .bool false)] (by kernel_rfl)) (hrets rfl) rfl ⟨_, rfl, rfl, hM0.chg⟩))
     replace h := iteF hb h
     refine (wp_skip (then_normal ?_))
     refine wp_seq (wp_pure [(2, I (w64 (0 - s2r))), (3, .bool true)] hF (by kernel_rfl) fun fr hF => then_normal ?_)
     have hrets := fun {σ : List (Nat × Value)} (h : σ = [(2, I (w64 (0 - s2r))), (3, .bool true)]) => (by subst h; exact (Rets.tmp rfl (Rets.tmp rfl Rets.nil)) : Rets Tryz.prog σ w8 [.tmp 2, .tmp 3] [I (w64 (0 - s2r)), .bool true])
     obtain rfl := Option.some.inj h
     exact wp_ret (retG (rs := [.tmp 2, .tmp 3]) rfl (hF.sub [(2, I (w64 (0 - s2r))), (3, .bool true)] (by kernel_rfl)) (hrets rfl) rfl ⟨_, rfl, rfl, hM0.chg⟩)
   replace h := iteF hb h
   refine (wp_skip (then_normal ?_))
   refine wp_seq ?_
   refine wp_seq (wp_text' ?_)
   refine from_pure 1 [(0, Str.val p0), (6, I s2r), (60, I s2r)] hF (by kernel_rfl) fun fr hF => ?_
   obtain ⟨x12, hx12, h⟩ := bindE h
   refine s_call [I s2r] Tryz.call49 rfl rfl hF rfl (spec_FormatInt_ok n s2r hx12) fun v w9 fr hRes hF => ?_
   obtain ⟨rfl, hc⟩ := hRes
   have hs := hs.ext hc
   have hM0 := hM0.ext hc
   refine from_pure 2 [(6, I s2r), (63, .bool (!(Str.eqb x12 p0)))] hF (by kernel_rfl) fun fr hF => ?_
   refine from_end rfl (then_normal ?_)
   refine (wp_if hF (b := (!(Str.eqb x12 p0))) rfl (fun hb => ?_) (fun hb => ?_))
   · replace h := iteT hb h
     refine wp_seq (wp_pure [(2, I 0), (3, .bool false)] hF (by kernel_rfl) fun fr hF => then_normal ?_)
     have hrets := fun {σ : List (Nat × Value)} (h : σ = [(2, I 0), (3, .bool false)]) => (by subst h; exact (Rets.tmp rfl (Rets.tmp rfl Rets.nil)) : Rets Tryz.prog σ w9 [.tmp 2, .tmp 3] [I 0, .bool false])
     obtain rfl := Option.some.inj h
     exact wp_ret (then_ret (retG (rs := [.tmp 2, .tmp 3]) rfl (hF.sub [(2, I 0), (3, .bool false)] (by kernel_rfl)) (hrets rfl) rfl ⟨_, rfl, rfl, hM0.chg⟩))
   replace h := iteF hb h
   refine (wp_skip (then_normal ?_))
   refine wp_seq (wp_pure [(2, I s2r), (3, .bool true)] hF (by kernel_rfl) fun fr hF => then_normal ?_)
   have hrets := fun {σ : List (Nat × Value)} (h : σ = [(2, I s2r), (3, .bool true)]) => (by subst h; exact (Rets.tmp rfl (Rets.tmp rfl Rets.nil)) : Rets Tryz.prog σ w9 [.tmp 2, .tmp 3] [I s2r, .bool true])
   obtain rfl := Option.some.inj h
   exact wp_ret (retG (rs := [.tmp 2, .tmp 3]) rfl (hF.sub [(2, I s2r), (3, .bool true)] (by kernel_rfl)) (hrets rfl) rfl ⟨_, rfl, rfl, hM0.chg⟩)

theorem spec_ParseInts_ok (n : Nat) (p0 : Str) {r : (List Int) × Bool} (h : spec_ParseInts n p0 = some r) {w : World} :
   Calls Tryz.prog 12 [Str.val p0].toArray w fun e w' => ∃ v, e = .returned v ∧ ∃ a1 c1, v = .tuple #[L a1 r.1 c1, .bool r.2] ∧ ∃ S', Stp w Non w' S' ∧ Sep [sl3 (L a1 r.1 c1) r.1] w' S' := by
 unfold spec_ParseInts at h
 have hs := Sep.nil w Non
 have hM0 : Mem w Non (fun k => (False) ∧ k < w.heap.size) w Non (fun k => (False) ∧ k < w.heap.size) := Mem.start (fun _ h => h.elim) (fun _ h => h.2) (fun _ h => h.elim)
 refine enter (N := 48) Tryz.func12 rfl Tryz.ntmps12 rfl fun fr hF => ?_
 refine wp_seq (wp_pure [(0, Str.val p0)] hF (by kernel_rfl) fun fr hF => then_normal ?_)
 refine wp_seq (wp_text' ?_)
 refine q_lit (E := 3) hs hM0 [] (([] : List Int).map Flat.enc) ([] : List Int) rfl rfl hF [] rfl (fun w => by kernel_rfl) (css_flat _) rfl rfl rfl fun a1 c1 w1 S1 fr hs hp hF => ?_
 have hM0 := hM0.stp hp
 have hs : Sep [sl3 (L a1 ([] : List Int) c1) ([] : List Int)] w1 S1 := hs
 refine from_pure 1 [(0, Str.val p0), (4, L a1 ([] : List Int) c1)] hF (by kernel_rfl) fun fr hF => ?_
 refine from_end rfl (then_normal ?_)
 refine wp_seq (wp_pure [(0, Str.val p0), (4, L a1 ([] : List Int) c1), (5, I 0)] hF (by kernel_rfl) fun fr hF => then_normal ?_)
 refine wp_seq ?_
 refine wp_seq (wp_pure [(0, Str.val p0), (4, L a1 ([] : List Int) c1), (5, I 0), (6, I 0)] hF (by kernel_rfl) fun fr hF => then_normal ?_)
 obtain ⟨rl1, hit1, h⟩ := bindE h
 have hk1 := h
 refine (GL.wp_cut (M := fun fr w' => ∃ s, rl1 = .inl s ∧ ∃ a3 c3 S3 F2, FrS 48 [(4, L a3 s c3)] fr ∧ Mem w1 S1 (fun k => (False) ∧ k < w.heap.size) w' S3 F2 ∧ Sep [sl3 (L a3 s c3) s] w' S3) (wp_block (wp_iter (Inv := fun s1 fr w' => ∃ a2 c2 S2 F1, FrS 48 [(0, Str.val p0), (4, L a2 s1.2.2 c2), (5, I s1.1), (6, I s1.2.1)] fr ∧ Mem w1 S1 (fun k => (False) ∧ k < w.heap.size) w' S2 F1 ∧ Sep [sl3 (L a2 s1.2.2 c2) s1.2.2] w' S2) hit1 ⟨a1, c1, S1, _, hF.sub _ (by kernel_rfl), (Mem.start hM0.bd hM0.bdF hM0.dj), hs⟩ fun s1 q1 fr w1i hI h hr1 => ?_)) fun fr w1o hM => ?_)
 · obtain ⟨a2, c2, S2, F1, hF, hM1, hs⟩ := hI
   refine wp_seq ?_
   refine wp_seq (region_b [] [true, true, true, true, true, true, true, true, true]
       [.eq (I s1.2.1), .eq (Str.val p0), .eq (I (len p0.bytes)), .eq (.bool (decide (s1.2.1 ≤ (len p0.bytes)))), .eq (.bool (decide (s1.2.1 ≤ (len p0.bytes)))), .eq (Str.val p0), .eq (I (len p0.bytes)), .eq (.bool (decide ((len p0.bytes) > 0))), .eq (.bool ((decide (s1.2.1 ≤ (len p0.bytes))) && (decide ((len p0.bytes) > 0))))]
       [(0, Str.val p0), (4, L a2 s1.2.2 c2), (5, I s1.1), (6, I s1.2.1), (18, .bool ((decide (s1.2.1 ≤ (len p0.bytes))) && (decide ((len p0.bytes) > 0))))] mix hF (by kernel_rfl) (by kernel_rfl) (by kernel_rfl) trivial (fun hG => trivial) (by kernel_rfl) fun fr w2 hF hE hc => then_normal ?_)
   have hs := hs.ext hc
   have hM1 := hM1.ext hc
   refine (wp_if hF (b := ((decide (s1.2.1 ≤ (len p0.bytes))) && (decide ((len p0.bytes) > 0)))) rfl (fun hb => ?_) (fun hb => ?_))
   · replace h := iteT hb h
     refine (wp_skip (then_normal ?_))
     refine wp_seq (wp_block ?_)
     obtain ⟨x1, hx1, h⟩ := bindE h
     refine wp_seq (region_b [] [true, true, true, true, true, true, true, false, true, true]
         [.eq (I s1.2.1), .eq (Str.val p0), .eq (I (len p0.bytes)), .eq (.bool (s1.2.1 == (len p0.bytes))), .eq (.bool (s1.2.1 == (len p0.bytes))), .eq (Str.val p0), .eq (I s1.2.1), .eq (.int .u8 x1), .eq (.bool (x1 == 32)), .eq (.bool ((s1.2.1 == (len p0.bytes)) || (x1 == 32)))]
         [(0, Str.val p0), (4, L a2 s1.2.2 c2), (5, I s1.1), (6, I s1.2.1), (30, .bool ((s1.2.1 == (len p0.bytes)) || (x1 == 32)))] mix hF (by kernel_rfl) (by kernel_rfl) (by kernel_rfl) ⟨Pd.mono_eq, trivial⟩ (fun hG => ⟨np_index_str (s := p0) hG hF Tryz.underlying9 rfl rfl rfl (fun hg => (iteF hg.2 hx1)) rfl, trivial⟩) (by kernel_rfl) fun fr w3 hF hE hc => then_normal ?_)
     have hs := hs.ext hc
     have hM1 := hM1.ext hc
     refine (wp_if hF (b := ((s1.2.1 == (len p0.bytes)) || (x1 == 32))) rfl (fun hb => ?_) (fun hb => ?_))
     · replace h := iteT hb h
       refine wp_seq (wp_text' ?_)
       refine from_pure 3 [(0, Str.val p0), (4, L a2 s1.2.2 c2), (6, I s1.2.1), (32, Str.val p0), (33, I s1.1), (34, I s1.2.1)] hF (by kernel_rfl) fun fr hF => ?_
       obtain ⟨x2, hx2, h⟩ := bindE h
       refine s_scut (s := p0) Tryz.underlying9 rfl rfl hF rfl ⟨_, rfl⟩ ⟨_, rfl⟩ hx2 fun fr hF => ?_
       obtain ⟨x3, hx3, h⟩ := bindE h
       refine s_call [Str.val x2] Tryz.call26 rfl rfl hF rfl (spec_ParseInt_ok n x2 hx3) fun v w4 fr hRes hF => ?_
       obtain ⟨rfl, hc⟩ := hRes
       have hs := hs.ext hc
       have hM1 := hM1.ext hc
       refine from_pure 5 [(0, Str.val p0), (4, L a2 s1.2.2 c2), (6, I s1.2.1), (7, I x3.1), (8, .bool x3.2)] hF (by kernel_rfl) fun fr hF => ?_
       refine from_end rfl (then_normal ?_)
       refine wp_seq ?_
       refine wp_seq (wp_pure [(0, Str.val p0), (4, L a2 s1.2.2 c2), (6, I s1.2.1), (7, I x3.1), (40, .bool (!x3.2))] hF (by kernel_rfl) fun fr hF => then_normal ?_)
       refine (wp_if hF (b := (!x3.2)) rfl (fun hb => ?_) (fun hb => ?_))
       · replace h := iteT hb h
         have hs : Sep [] w4 S2 := Sep.pick [] hs (by decide) rfl
         refine wp_seq (wp_pure [(2, L none ([] : List Int) 0), (3, .bool false)] hF (by kernel_rfl) fun fr hF => then_normal ?_)
         have hrets := fun {σ : List (Nat × Value)} (h : σ = [(2, L none ([] : List Int) 0), (3, .bool false)]) => (by subst h; exact (Rets.tmp rfl (Rets.tmp rfl Rets.nil)) : Rets Tryz.prog σ w4 [.tmp 2, .tmp 3] [L none ([] : List Int) 0, .bool false])
         have hs : Sep [sl3 (L none ([] : List Int) 0) ([] : List Int)] w4 S2 := hs.cons_nil (α := Int) 3
         obtain rfl := hr1 _ (Option.some.inj h).symm
         obtain rfl := Option.some.inj hk1
         exact wp_ret (then_ret (blk_ret (then_ret (then_ret (blk_ret (then_ret (retG (rs := [.tmp 2, .tmp 3]) rfl (hF.sub [(2, L none ([] : List Int) 0), (3, .bool false)] (by kernel_rfl)) (hrets rfl) rfl ⟨_, rfl, none, 0, rfl, S2, (hM0.trans hM1).out, hs⟩)))))))
       replace h := iteF hb h
       refine (wp_skip (then_normal ?_))
       refine wp_seq (wp_text' ?_)
       refine from_pure 2 [(0, Str.val p0), (6, I s1.2.1), (41, L a2 s1.2.2 c2), (42, I x3.1)] hF (by kernel_rfl) fun fr hF => ?_
       refine q_lit (E := 3) hs hM1 [I x3.1] (([x3.1] : List Int).map Flat.enc) ([x3.1] : List Int) rfl rfl hF [I x3.1] rfl (fun w => by kernel_rfl) (css_flat _) rfl rfl rfl fun a4 c4 w5 S4 fr hs hp hF => ?_
       have hM1 := hM1.stp hp
       have hs : Sep [sl3 (L a4 ([x3.1] : List Int) c4) ([x3.1] : List Int), sl3 (L a2 s1.2.2 c2) s1.2.2] w5 S4 := hs
       obtain ⟨x4, hx4, h⟩ := bindE h
       refine q_append 1 hs hM1 rfl Tryz.underlying33 el3 rfl rfl rfl hF rfl rfl (hs.rv 0 rfl) hx4 fun a5 c5 w6 S5 fr hs hp hF => ?_
       have hM1 := hM1.stp hp
       have hs : Sep [sl3 (L a4 ([x3.1] : List Int) c4) ([x3.1] : List Int), sl3 (L a5 x4 c5) x4] w6 S5 := hs
       have hs : Sep [sl3 (L a5 x4 c5) x4] w6 S5 := Sep.pick [1] hs (by decide) rfl
       refine from_pure 1 [(0, Str.val p0), (4, L a5 x4 c5), (6, I s1.2.1)] hF (by kernel_rfl) fun fr hF => ?_
       refine from_end rfl (then_normal ?_)
       refine (wp_pure [(0, Str.val p0), (4, L a5 x4 c5), (5, I (w64 (s1.2.1 + 1))), (6, I s1.2.1)] hF (by kernel_rfl) fun fr hF => ?_)
       refine blk_normal (then_normal ?_)
       refine (wp_pure [(0, Str.val p0), (4, L a5 x4 c5), (5, I (w64 (s1.2.1 + 1))), (6, I (w64 (s1.2.1 + 1)))] hF (by kernel_rfl) fun fr hF => then_normal ?_)
       exact ⟨_, (Option.some.inj h).symm, a5, c5, S5, _, hF.sub _ (by kernel_rfl), hM1, hs⟩
     replace h := iteF hb h
     refine (wp_skip ?_)
     refine blk_normal (then_normal ?_)
     refine (wp_pure [(0, Str.val p0), (4, L a2 s1.2.2 c2), (5, I s1.1), (6, I (w64 (s1.2.1 + 1)))] hF (by kernel_rfl) fun fr hF => then_normal ?_)
     exact ⟨_, (Option.some.inj h).symm, a2, c2, S2, _, hF.sub _ (by kernel_rfl), hM1, hs⟩
   replace h := iteF hb h
   refine (wp_exit (then_exit (then_exit (blk_exit_eq ?_))))
   obtain rfl := hr1 _ (Option.some.inj h).symm
   exact then_normal ⟨_, rfl, a2, c2, S2, _, hF.sub _ (by kernel_rfl), hM1, hs⟩
 · obtain ⟨s1r, rfl, hM⟩ := hM
   obtain ⟨a3, c3, S3, F2, hF, hMx, hs⟩ := hM
   have hM0 := hM0.trans hMx
   refine wp_seq (wp_pure [(2, L a3 s1r c3), (3, .bool true)] hF (by kernel_rfl) fun fr hF => then_normal ?_)
   have hrets := fun {σ : List (Nat × Value)} (h : σ = [(2, L a3 s1r c3), (3, .bool true)]) => (by subst h; exact (Rets.tmp rfl (Rets.tmp rfl Rets.nil)) : Rets Tryz.prog σ w1o [.tmp 2, .tmp 3] [L a3 s1r c3, .bool true])
   obtain rfl := Option.some.inj h
   exact wp_ret (retG (rs := [.tmp 2, .tmp 3]) rfl (hF.sub [(2, L a3 s1r c3), (3, .bool true)] (by kernel_rfl)) (hrets rfl) rfl ⟨_, rfl, a3, c3, rfl, S3, hM0.out, hs⟩)

theorem spec_l01Names_ok {r : (List Str)} (h : spec_l01Names  = some r) {w : World} :
   Calls Tryz.prog 51 [].toArray w fun e w' => ∃ v, e = .returned v ∧ ∃ a1 c1, v = L a1 r c1 ∧ ∃ S', Stp w Non w' S' ∧ Sep [sl9 (L a1 r c1) r] w' S' := by
 unfold spec_l01Names at h
 have hs := Sep.nil w Non
 have hM0 : Mem w Non (fun k => (False) ∧ k < w.heap.size) w Non (fun k => (False) ∧ k < w.heap.size) := Mem.start (fun _ h => h.elim) (fun _ h => h.2) (fun _ h => h.elim)
 refine enter (N := 2) Tryz.func51 rfl Tryz.ntmps51 rfl fun fr hF => ?_
 refine wp_seq (wp_pure [] hF (by kernel_rfl) fun fr hF => then_normal ?_)
 refine wp_seq (wp_text' ?_)
 refine q_lit (E := 9) hs hM0 [Str.val (⟨[]⟩), Str.val (⟨[110, 111, 116]⟩), Str.val (⟨[110, 101, 103]⟩), Str.val (⟨[97, 100, 100]⟩), Str.val (⟨[115, 117, 98]⟩), Str.val (⟨[109, 117, 108]⟩), Str.val (⟨[100, 105, 118]⟩), Str.val (⟨[114, 101, 109]⟩), Str.val (⟨[97, 110, 100]⟩), Str.val (⟨[111, 114]⟩), Str.val (⟨[120, 111, 114]⟩), Str.val (⟨[115, 104, 108]⟩), Str.val (⟨[115, 104, 114]⟩), Str.val (⟨[115, 97, 114]⟩), Str.val (⟨[101, 113]⟩), Str.val (⟨[108, 101, 115, 115]⟩), Str.val (⟨[98, 101, 108, 111, 119]⟩)] (([⟨[]⟩, ⟨[110, 111, 116]⟩, ⟨[110, 101, 103]⟩, ⟨[97, 100, 100]⟩, ⟨[115, 117, 98]⟩, ⟨[109, 117, 108]⟩, ⟨[100, 105, 118]⟩, ⟨[114, 101, 109]⟩, ⟨[97, 110, 100]⟩, ⟨[111, 114]⟩, ⟨[120, 111, 114]⟩, ⟨[115, 104, 108]⟩, ⟨[115, 104, 114]⟩, ⟨[115, 97, 114]⟩, ⟨[101, 113]⟩, ⟨[108, 101, 115, 115]⟩, ⟨[98, 101, 108, 111, 119]⟩] : List Str).map Flat.enc) ([⟨[]⟩, ⟨[110, 111, 116]⟩, ⟨[110, 101, 103]⟩, ⟨[97, 100, 100]⟩, ⟨[115, 117, 98]⟩, ⟨[109, 117, 108]⟩, ⟨[100, 105, 118]⟩, ⟨[114, 101, 109]⟩, ⟨[97, 110, 100]⟩, ⟨[111, 114]⟩, ⟨[120, 111, 114]⟩, ⟨[115, 104, 108]⟩, ⟨[115, 104, 114]⟩, ⟨[115, 97, 114]⟩, ⟨[101, 113]⟩, ⟨[108, 101, 115, 115]⟩, ⟨[98, 101, 108, 111, 119]⟩] : List Str) rfl rfl hF [Str.val (⟨[]⟩), Str.val (⟨[110, 111, 116]⟩), Str.val (⟨[110, 101, 103]⟩), Str.val (⟨[97, 100, 100]⟩), Str.val (⟨[115, 117, 98]⟩), Str.val (⟨[109, 117, 108]⟩), Str.val (⟨[100, 105, 118]⟩), Str.val (⟨[114, 101, 109]⟩), Str.val (⟨[97, 110, 100]⟩), Str.val (⟨[111, 114]⟩), Str.val (⟨[120, 111, 114]⟩), Str.val (⟨[115, 104, 108]⟩), Str.val (⟨[115, 104, 114]⟩), Str.val (⟨[115, 97, 114]⟩), Str.val (⟨[101, 113]⟩), Str.val (⟨[108, 101, 115, 115]⟩), Str.val (⟨[98, 101, 108, 111, 119]⟩)] rfl (fun w => by kernel_rfl) (css_flat _) rfl rfl rfl fun a1 c1 w1 S1 fr hs hp hF => ?_
 have hM0 := hM0.stp hp
 have hs : Sep [sl9 (L a1 ([⟨[]⟩, ⟨[110, 111, 116]⟩, ⟨[110, 101, 103]⟩, ⟨[97, 100, 100]⟩, ⟨[115, 117, 98]⟩, ⟨[109, 117, 108]⟩, ⟨[100, 105, 118]⟩, ⟨[114, 101, 109]⟩, ⟨[97, 110, 100]⟩, ⟨[111, 114]⟩, ⟨[120, 111, 114]⟩, ⟨[115, 104, 108]⟩, ⟨[115, 104, 114]⟩, ⟨[115, 97, 114]⟩, ⟨[101, 113]⟩, ⟨[108, 101, 115, 115]⟩, ⟨[98, 101, 108, 111, 119]⟩] : List Str) c1) ([⟨[]⟩, ⟨[110, 111, 116]⟩, ⟨[110, 101, 103]⟩, ⟨[97, 100, 100]⟩, ⟨[115, 117, 98]⟩, ⟨[109, 117, 108]⟩, ⟨[100, 105, 118]⟩, ⟨[114, 101, 109]⟩, ⟨[97, 110, 100]⟩, ⟨[111, 114]⟩, ⟨[120, 111, 114]⟩, ⟨[115, 104, 108]⟩, ⟨[115, 104, 114]⟩, ⟨[115, 97, 114]⟩, ⟨[101, 113]⟩, ⟨[108, 101, 115, 115]⟩, ⟨[98, 101, 108, 111, 119]⟩] : List Str)] w1 S1 := hs
 refine from_pure 1 [(0, L a1 ([⟨[]⟩, ⟨[110, 111, 116]⟩, ⟨[110, 101, 103]⟩, ⟨[97, 100, 100]⟩, ⟨[115, 117, 98]⟩, ⟨[109, 117, 108]⟩, ⟨[100, 105, 118]⟩, ⟨[114, 101, 109]⟩, ⟨[97, 110, 100]⟩, ⟨[111, 114]⟩, ⟨[120, 111, 114]⟩, ⟨[115, 104, 108]⟩, ⟨[115, 104, 114]⟩, ⟨[115, 97, 114]⟩, ⟨[101, 113]⟩, ⟨[108, 101, 115, 115]⟩, ⟨[98, 101, 108, 111, 119]⟩] : List Str) c1)] hF (by kernel_rfl) fun fr hF => ?_
 refine from_end rfl (then_normal ?_)
 obtain rfl := Option.some.inj h
 exact wp_ret (ret1 rfl hF rfl ⟨_, rfl, a1, c1, rfl, S1, hM0.out, hs⟩)

theorem spec_OpName_ok (p0 : Int) {r : Str} (h : spec_OpName p0 = some r) {w : World} :
   Calls Tryz.prog 50 [I p0].toArray w fun e w' => ∃ v, e = .returned v ∧ v = Str.val r ∧ Chg Non w w' := by
 unfold spec_OpName at h
 have hs := Sep.nil w Non
 have hM0 : Mem w Non (fun k => (False) ∧ k < w.heap.size) w Non (fun k => (False) ∧ k < w.heap.size) := Mem.start (fun _ h => h.elim) (fun _ h => h.2) (fun _ h => h.elim)
 refine enter (N := 10) Tryz.func50 rfl Tryz.ntmps50 rfl fun fr hF => ?_
 refine wp_seq (wp_pure [(0, I p0)] hF (by kernel_rfl) fun fr hF => then_normal ?_)
 refine wp_seq ?_
 refine wp_seq (wp_text' ?_)
 refine from_pure 1 [(0, I p0), (3, I p0)] hF (by kernel_rfl) fun fr hF => ?_
 obtain ⟨x1, hx1, h⟩ := bindE h
 refine s_call [I p0, I 1, I 16] Tryz.call10 rfl rfl hF rfl (spec_l01In_ok p0 1 16 hx1) fun v w1 fr hRes hF => ?_
 obtain ⟨rfl, hc⟩ := hRes
 have hs := hs.ext hc
 have hM0 := hM0.ext hc
 refine from_pure 1 [(0, I p0), (5, .bool (!x1))] hF (by kernel_rfl) fun fr hF => ?_
 refine from_end rfl (then_normal ?_)
 refine (wp_if hF (b := (!x1)) rfl (fun hb => ?_) (fun hb => ?_))
 · replace h := iteT hb h
   refine wp_seq (wp_pure [(2, Str.val (⟨[]⟩))] hF (by kernel_rfl) fun fr hF => then_normal ?_)
   obtain rfl := Option.some.inj h
   exact wp_ret (then_ret (ret1 rfl hF rfl ⟨_, rfl, rfl, hM0.chg⟩))
 replace h := iteF hb h
 refine (wp_skip (then_normal ?_))
 refine wp_seq (wp_text' ?_)
 obtain ⟨x2, hx2, h⟩ := bindE h
 refine s_call [] Tryz.call51 rfl rfl hF rfl (spec_l01Names_ok hx2) fun v w2 fr hRes hF => ?_
 obtain ⟨a1, c1, rfl, _, hp, hs2⟩ := hRes
 obtain ⟨S1, hp, hs⟩ := hs.got hM0 hp hs2
 have hM0 := hM0.stp hp
 have hs : Sep [sl9 (L a1 x2 c1) x2] w2 S1 := hs
 refine from_pure 1 [(6, L a1 x2 c1), (7, I p0)] hF (by kernel_rfl) fun fr hF => ?_
 obtain ⟨x3, hx3, h⟩ := bindE h
 refine s_elemF (z := x3) (Str.val x3) ty9 Tryz.underlying30 rfl rfl rfl rfl rfl hF rfl (hs.rv 0 rfl) rfl (get?_nn hx3) (get?_at hx3) rfl fun p fr hF => ?_
 have hs : Sep [] w2 S1 := Sep.pick [] hs (by decide) rfl
 refine from_pure 1 [(2, Str.val x3)] hF (by kernel_rfl) fun fr hF => ?_
 refine from_end rfl (then_normal ?_)
 obtain rfl := Option.some.inj h
 exact wp_ret (ret1 rfl hF rfl ⟨_, rfl, rfl, hM0.chg⟩)

theorem spec_l05Word_ok (p0 : D.Ins) {r : Str} (h : spec_l05Word p0 = some r) {w : World} :
   Calls Tryz.prog 27 [.agg #[I p0.Op, I p0.A, I p0.B, I p0.C]].toArray w fun e w' => ∃ v, e = .returned v ∧ v = Str.val r ∧ Chg Non w w' := by
 unfold spec_l05Word at h
 have hs := Sep.nil w Non
 have hM0 : Mem w Non (fun k => (False) ∧ k < w.heap.size) w Non (fun k => (False) ∧ k < w.heap.size) := Mem.start (fun _ h => h.elim) (fun _ h => h.2) (fun _ h => h.elim)
 refine enter (N := 14) Tryz.func27 rfl Tryz.ntmps27 rfl fun fr hF => ?_
 refine wp_seq (wp_text' ?_)
 refine q_box hs hM0 [I p0.Op, I p0.A, I p0.B, I p0.C] rfl rfl hF rfl rfl fun b1 w1 S1 fr hs hp hF => ?_
 have hM0 := hM0.stp hp
 have hs : Sep [BX b1 38 [I p0.Op, I p0.A, I p0.B, I p0.C]] w1 S1 := hs
 refine from_pure 1 [(1, B b1 0)] hF (by kernel_rfl) fun fr hF => ?_
 refine from_end rfl (then_normal ?_)
 refine wp_seq ?_
 refine wp_seq (wp_text' ?_)
 refine from_pure 1 [(1, B b1 0), (3, B b1 0)] hF (by kernel_rfl) fun fr hF => ?_
 refine s_loadBox (I p0.Op) ty3 rfl rfl hF rfl (hs.bx 0 rfl) rfl rfl fun fr hF => ?_
 refine from_pure 1 [(1, B b1 0), (5, .bool (p0.Op == 3))] hF (by kernel_rfl) fun fr hF => ?_
 refine from_end rfl (then_normal ?_)
 refine (wp_if hF (b := (p0.Op == 3)) rfl (fun hb => ?_) (fun hb => ?_))
 · replace h := iteT hb h
   refine wp_seq (wp_text' ?_)
   refine from_pure 1 [(6, B b1 3)] hF (by kernel_rfl) fun fr hF => ?_
   refine s_loadBox (I p0.C) ty3 rfl rfl hF rfl (hs.bx 0 rfl) rfl rfl fun fr hF => ?_
   have hs : Sep [] w1 S1 := Sep.pick [] hs (by decide) rfl
   obtain ⟨x1, hx1, h⟩ := bindE h
   refine s_call [I p0.C] Tryz.call50 rfl rfl hF rfl (spec_OpName_ok p0.C hx1) fun v w2 fr hRes hF => ?_
   obtain ⟨rfl, hc⟩ := hRes
   have hs := hs.ext hc
   have hM0 := hM0.ext hc
   refine from_pure 1 [(2, Str.val x1)] hF (by kernel_rfl) fun fr hF => ?_
   refine from_end rfl (then_normal ?_)
   obtain rfl := Option.some.inj h
   exact wp_ret (then_ret (ret1 rfl hF rfl ⟨_, rfl, rfl, hM0.chg⟩))
 replace h := iteF hb h
 refine (wp_skip (then_normal ?_))
 refine wp_seq (wp_text' ?_)
 refine q_lit (E := 9) hs hM0 [Str.val (⟨[]⟩), Str.val (⟨[115, 101, 116]⟩), Str.val (⟨[109, 111, 118, 101]⟩), Str.val (⟨[]⟩), Str.val (⟨[110, 111, 116]⟩), Str.val (⟨[105, 110]⟩), Str.val (⟨[111, 117, 116]⟩), Str.val (⟨[108, 111, 97, 100]⟩), Str.val (⟨[115, 116, 111, 114, 101]⟩), Str.val (⟨[106, 117, 109, 112]⟩), Str.val (⟨[122, 101, 114, 111]⟩), Str.val (⟨[99, 97, 108, 108]⟩), Str.val (⟨[114, 101, 116]⟩), Str.val (⟨[99, 104, 101, 99, 107]⟩), Str.val (⟨[104, 97, 108, 116]⟩)] (([⟨[]⟩, ⟨[115, 101, 116]⟩, ⟨[109, 111, 118, 101]⟩, ⟨[]⟩, ⟨[110, 111, 116]⟩, ⟨[105, 110]⟩, ⟨[111, 117, 116]⟩, ⟨[108, 111, 97, 100]⟩, ⟨[115, 116, 111, 114, 101]⟩, ⟨[106, 117, 109, 112]⟩, ⟨[122, 101, 114, 111]⟩, ⟨[99, 97, 108, 108]⟩, ⟨[114, 101, 116]⟩, ⟨[99, 104, 101, 99, 107]⟩, ⟨[104, 97, 108, 116]⟩] : List Str).map Flat.enc) ([⟨[]⟩, ⟨[115, 101, 116]⟩, ⟨[109, 111, 118, 101]⟩, ⟨[]⟩, ⟨[110, 111, 116]⟩, ⟨[105, 110]⟩, ⟨[111, 117, 116]⟩, ⟨[108, 111, 97, 100]⟩, ⟨[115, 116, 111, 114, 101]⟩, ⟨[106, 117, 109, 112]⟩, ⟨[122, 101, 114, 111]⟩, ⟨[99, 97, 108, 108]⟩, ⟨[114, 101, 116]⟩, ⟨[99, 104, 101, 99, 107]⟩, ⟨[104, 97, 108, 116]⟩] : List Str) rfl rfl hF [Str.val (⟨[]⟩), Str.val (⟨[115, 101, 116]⟩), Str.val (⟨[109, 111, 118, 101]⟩), Str.val (⟨[]⟩), Str.val (⟨[110, 111, 116]⟩), Str.val (⟨[105, 110]⟩), Str.val (⟨[111, 117, 116]⟩), Str.val (⟨[108, 111, 97, 100]⟩), Str.val (⟨[115, 116, 111, 114, 101]⟩), Str.val (⟨[106, 117, 109, 112]⟩), Str.val (⟨[122, 101, 114, 111]⟩), Str.val (⟨[99, 97, 108, 108]⟩), Str.val (⟨[114, 101, 116]⟩), Str.val (⟨[99, 104, 101, 99, 107]⟩), Str.val (⟨[104, 97, 108, 116]⟩)] rfl (fun w => by kernel_rfl) (css_flat _) rfl rfl rfl fun a1 c1 w3 S2 fr hs hp hF => ?_
 have hM0 := hM0.stp hp
 have hs : Sep [sl9 (L a1 ([⟨[]⟩, ⟨[115, 101, 116]⟩, ⟨[109, 111, 118, 101]⟩, ⟨[]⟩, ⟨[110, 111, 116]⟩, ⟨[105, 110]⟩, ⟨[111, 117, 116]⟩, ⟨[108, 111, 97, 100]⟩, ⟨[115, 116, 111, 114, 101]⟩, ⟨[106, 117, 109, 112]⟩, ⟨[122, 101, 114, 111]⟩, ⟨[99, 97, 108, 108]⟩, ⟨[114, 101, 116]⟩, ⟨[99, 104, 101, 99, 107]⟩, ⟨[104, 97, 108, 116]⟩] : List Str) c1) ([⟨[]⟩, ⟨[115, 101, 116]⟩, ⟨[109, 111, 118, 101]⟩, ⟨[]⟩, ⟨[110, 111, 116]⟩, ⟨[105, 110]⟩, ⟨[111, 117, 116]⟩, ⟨[108, 111, 97, 100]⟩, ⟨[115, 116, 111, 114, 101]⟩, ⟨[106, 117, 109, 112]⟩, ⟨[122, 101, 114, 111]⟩, ⟨[99, 97, 108, 108]⟩, ⟨[114, 101, 116]⟩, ⟨[99, 104, 101, 99, 107]⟩, ⟨[104, 97, 108, 116]⟩] : List Str), BX b1 38 [I p0.Op, I p0.A, I p0.B, I p0.C]] w3 S2 := hs
 refine from_pure 1 [(9, L a1 ([⟨[]⟩, ⟨[115, 101, 116]⟩, ⟨[109, 111, 118, 101]⟩, ⟨[]⟩, ⟨[110, 111, 116]⟩, ⟨[105, 110]⟩, ⟨[111, 117, 116]⟩, ⟨[108, 111, 97, 100]⟩, ⟨[115, 116, 111, 114, 101]⟩, ⟨[106, 117, 109, 112]⟩, ⟨[122, 101, 114, 111]⟩, ⟨[99, 97, 108, 108]⟩, ⟨[114, 101, 116]⟩, ⟨[99, 104, 101, 99, 107]⟩, ⟨[104, 97, 108, 116]⟩] : List Str) c1), (10, B b1 0)] hF (by kernel_rfl) fun fr hF => ?_
 refine s_loadBox (I p0.Op) ty3 rfl rfl hF rfl (hs.bx 1 rfl) rfl rfl fun fr hF => ?_
 have hs : Sep [sl9 (L a1 ([⟨[]⟩, ⟨[115, 101, 116]⟩, ⟨[109, 111, 118, 101]⟩, ⟨[]⟩, ⟨[110, 111, 116]⟩, ⟨[105, 110]⟩, ⟨[111, 117, 116]⟩, ⟨[108, 111, 97, 100]⟩, ⟨[115, 116, 111, 114, 101]⟩, ⟨[106, 117, 109, 112]⟩, ⟨[122, 101, 114, 111]⟩, ⟨[99, 97, 108, 108]⟩, ⟨[114, 101, 116]⟩, ⟨[99, 104, 101, 99, 107]⟩, ⟨[104, 97, 108, 116]⟩] : List Str) c1) ([⟨[]⟩, ⟨[115, 101, 116]⟩, ⟨[109, 111, 118, 101]⟩, ⟨[]⟩, ⟨[110, 111, 116]⟩, ⟨[105, 110]⟩, ⟨[111, 117, 116]⟩, ⟨[108, 111, 97, 100]⟩, ⟨[115, 116, 111, 114, 101]⟩, ⟨[106, 117, 109, 112]⟩, ⟨[122, 101, 114, 111]⟩, ⟨[99, 97, 108, 108]⟩, ⟨[114, 101, 116]⟩, ⟨[99, 104, 101, 99, 107]⟩, ⟨[104, 97, 108, 116]⟩] : List Str)] w3 S2 := Sep.pick [0] hs (by decide) rfl
 obtain ⟨x2, hx2, h⟩ := bindE h
 refine s_elemF (z := x2) (Str.val x2) ty9 Tryz.underlying30 rfl rfl rfl rfl rfl hF rfl (hs.rv 0 rfl) rfl (get?_nn hx2) (get?_at hx2) rfl fun p fr hF => ?_
 have hs : Sep [] w3 S2 := Sep.pick [] hs (by decide) rfl
 refine from_pure 1 [(2, Str.val x2)] hF (by kernel_rfl) fun fr hF => ?_
 refine from_end rfl (then_normal ?_)
 obtain rfl := Option.some.inj h
 exact wp_ret (ret1 rfl hF rfl ⟨_, rfl, rfl, hM0.chg⟩)

theorem spec_OpOf_ok (n : Nat) (p0 : Str) {r : Int} (h : spec_OpOf n p0 = some r) {w : World} :
   Calls Tryz.prog 28 [Str.val p0].toArray w fun e w' => ∃ v, e = .returned v ∧ v = I r ∧ Chg Non w w' := by
 unfold spec_OpOf at h
 have hs := Sep.nil w Non
 have hM0 : Mem w Non (fun k => (False) ∧ k < w.heap.size) w Non (fun k => (False) ∧ k < w.heap.size) := Mem.start (fun _ h => h.elim) (fun _ h => h.2) (fun _ h => h.elim)
 refine enter (N := 17) Tryz.func28 rfl Tryz.ntmps28 rfl fun fr hF => ?_
 refine wp_seq (wp_pure [(0, Str.val p0)] hF (by kernel_rfl) fun fr hF => then_normal ?_)
 refine wp_seq ?_
 refine wp_seq (wp_text' ?_)
 obtain ⟨x1, hx1, h⟩ := bindE h
 refine s_call [] Tryz.call51 rfl rfl hF rfl (spec_l01Names_ok hx1) fun v w1 fr hRes hF => ?_
 obtain ⟨a1, c1, rfl, _, hp, hs2⟩ := hRes
 obtain ⟨S1, hp, hs⟩ := hs.got hM0 hp hs2
 have hM0 := hM0.stp hp
 have hs : Sep [sl9 (L a1 x1 c1) x1] w1 S1 := hs
 refine from_pure 2 [(0, Str.val p0), (5, L a1 x1 c1), (6, I (len x1)), (7, I 0)] hF (by kernel_rfl) fun fr hF => ?_
 refine from_end rfl (then_normal ?_)
 obtain ⟨rl1, hit1, h⟩ := bindE h
 have hk1 := h
 refine (GL.wp_cut (M := fun fr w' => ∃ s, rl1 = .inl s ∧ ∃ S3 F2, FrS 17 [] fr ∧ Mem w1 S1 (fun k => (False) ∧ k < w.heap.size) w' S3 F2 ∧ Sep [] w' S3) (wp_block (wp_iter (Inv := fun s1 fr w' => ∃ S2 F1, FrS 17 [(0, Str.val p0), (5, L a1 x1 c1), (6, I (len x1)), (7, I s1)] fr ∧ Mem w1 S1 (fun k => (False) ∧ k < w.heap.size) w' S2 F1 ∧ Sep [sl9 (L a1 x1 c1) x1] w' S2) hit1 ⟨S1, _, hF.sub _ (by kernel_rfl), (Mem.start hM0.bd hM0.bdF hM0.dj), hs⟩ fun s1 q1 fr w1i hI h hr1 => ?_)) fun fr w1o hM => ?_)
 · obtain ⟨S2, F1, hF, hM1, hs⟩ := hI
   refine wp_seq (wp_pure [(0, Str.val p0), (5, L a1 x1 c1), (6, I (len x1)), (7, I s1), (8, .bool (decide (s1 < (len x1))))] hF (by kernel_rfl) fun fr hF => then_normal ?_)
   refine wp_seq (wp_if hF (b := (decide (s1 < (len x1)))) rfl (fun hb => ?_) (fun hb => ?_))
   · replace h := iteT hb h
     refine (wp_skip (then_normal ?_))
     refine wp_seq (wp_block ?_)
     refine wp_seq (wp_text' ?_)
     refine from_pure 1 [(0, Str.val p0), (5, L a1 x1 c1), (6, I (len x1)), (7, I s1), (9, I s1)] hF (by kernel_rfl) fun fr hF => ?_
     obtain ⟨x2, hx2, h⟩ := bindE h
     refine s_elemF (z := x2) (Str.val x2) ty9 Tryz.underlying30 rfl rfl rfl rfl rfl hF rfl (hs.rv 0 rfl) rfl (get?_nn hx2) (get?_at hx2) rfl fun p fr hF => ?_
     refine from_pure 2 [(0, Str.val p0), (3, I s1), (4, Str.val x2), (5, L a1 x1 c1), (6, I (len x1)), (7, I s1)] hF (by kernel_rfl) fun fr hF => ?_
     refine from_end rfl (then_normal ?_)
     refine wp_seq (wp_pure [(0, Str.val p0), (3, I s1), (5, L a1 x1 c1), (6, I (len x1)), (7, I s1), (14, .bool (Str.eqb x2 p0))] hF (by kernel_rfl) fun fr hF => then_normal ?_)
     refine (wp_if hF (b := (Str.eqb x2 p0)) rfl (fun hb => ?_) (fun hb => ?_))
     · replace h := iteT hb h
       have hs : Sep [] w1i S2 := Sep.pick [] hs (by decide) rfl
       refine wp_seq (wp_pure [(2, I s1)] hF (by kernel_rfl) fun fr hF => then_normal ?_)
       obtain rfl := hr1 _ (Option.some.inj h).symm
       obtain rfl := Option.some.inj hk1
       exact wp_ret (blk_ret (then_ret (then_ret (blk_ret (then_ret (ret1 rfl hF rfl ⟨_, rfl, rfl, (hM0.trans hM1).chg⟩))))))
     replace h := iteF hb h
     refine (wp_skip ?_)
     refine blk_normal (then_normal ?_)
     refine (wp_pure [(0, Str.val p0), (5, L a1 x1 c1), (6, I (len x1)), (7, I (w64 (s1 + 1)))] hF (by kernel_rfl) fun fr hF => then_normal ?_)
     exact ⟨_, (Option.some.inj h).symm, S2, _, hF.sub _ (by kernel_rfl), hM1, hs⟩
   replace h := iteF hb h
   have hs : Sep [] w1i S2 := Sep.pick [] hs (by decide) rfl
   refine (wp_exit (then_exit (then_exit (blk_exit_eq ?_))))
   obtain rfl := hr1 _ (Option.some.inj h).symm
   exact then_normal ⟨_, rfl, S2, _, hF.sub _ (by kernel_rfl), hM1, hs⟩
 · obtain ⟨s1r, rfl, hM⟩ := hM
   obtain ⟨S3, F2, hF, hMx, hs⟩ := hM
   have hM0 := hM0.trans hMx
   refine wp_seq (wp_pure [(2, I 0)] hF (by kernel_rfl) fun fr hF => then_normal ?_)
   obtain rfl := Option.some.inj h
   exact wp_ret (ret1 rfl hF rfl ⟨_, rfl, rfl, hM0.chg⟩)

theorem spec_l05Number_ok (n : Nat) (p0 : Str) {r : Int} (h : spec_l05Number n p0 = some r) {w : World} :
   Calls Tryz.prog 29 [Str.val p0].toArray w fun e w' => ∃ v, e = .returned v ∧ v = I r ∧ Chg Non w w' := by
 unfold spec_l05Number at h
 have hs := Sep.nil w Non
 have hM0 : Mem w Non (fun k => (False) ∧ k < w.heap.size) w Non (fun k => (False) ∧ k < w.heap.size) := Mem.start (fun _ h => h.elim) (fun _ h => h.2) (fun _ h => h.elim)
 refine enter (N := 21) Tryz.func29 rfl Tryz.ntmps29 rfl fun fr hF => ?_
 refine wp_seq (wp_pure [(0, Str.val p0)] hF (by kernel_rfl) fun fr hF => then_normal ?_)
 refine wp_seq ?_
 obtain ⟨x1, hx1, h⟩ := bindE h
 refine wp_seq (region_b [] [true, true, true, true, true, false, true, true]
     [.eq (Str.val p0), .eq (I (len p0.bytes)), .eq (.bool (decide ((len p0.bytes) > 0))), .eq (.bool (decide ((len p0.bytes) > 0))), .eq (Str.val p0), .eq (.int .u8 x1), .eq (.bool (x1 == 114)), .eq (.bool ((decide ((len p0.bytes) > 0)) && (x1 == 114)))]
     [(0, Str.val p0), (12, .bool ((decide ((len p0.bytes) > 0)) && (x1 == 114)))] mix hF (by kernel_rfl) (by kernel_rfl) (by kernel_rfl) ⟨Pd.mono_eq, trivial⟩ (fun hG => ⟨np_index_str (s := p0) hG hF Tryz.underlying9 rfl rfl rfl (fun hg => (iteT hg.2 hx1)) rfl, trivial⟩) (by kernel_rfl) fun fr w1 hF hE hc => then_normal ?_)
 have hs := hs.ext hc
 have hM0 := hM0.ext hc
 refine (wp_if hF (b := ((decide ((len p0.bytes) > 0)) && (x1 == 114))) rfl (fun hb => ?_) (fun hb => ?_))
 · replace h := iteT hb h
   refine (wp_text' ?_)
   refine from_pure 1 [(13, Str.val p0)] hF (by kernel_rfl) fun fr hF => ?_
   obtain ⟨x2, hx2, h⟩ := bindE h
   refine s_scut (s := p0) Tryz.underlying9 rfl rfl hF rfl ⟨_, rfl⟩ rfl hx2 fun fr hF => ?_
   refine from_pure 1 [(0, Str.val x2)] hF (by kernel_rfl) fun fr hF => ?_
   refine from_end rfl (then_normal ?_)
   refine wp_seq (wp_text' ?_)
   refine from_pure 1 [(16, Str.val x2)] hF (by kernel_rfl) fun fr hF => ?_
   obtain ⟨x3, hx3, h⟩ := bindE h
   refine s_call [Str.val x2] Tryz.call26 rfl rfl hF rfl (spec_ParseInt_ok n x2 hx3) fun v w2 fr hRes hF => ?_
   obtain ⟨rfl, hc⟩ := hRes
   have hs := hs.ext hc
   have hM0 := hM0.ext hc
   refine from_pure 5 [(3, I x3.1)] hF (by kernel_rfl) fun fr hF => ?_
   refine from_end rfl (then_normal ?_)
   refine wp_seq (wp_pure [(2, I x3.1)] hF (by kernel_rfl) fun fr hF => then_normal ?_)
   obtain rfl := Option.some.inj h
   exact wp_ret (ret1 rfl hF rfl ⟨_, rfl, rfl, hM0.chg⟩)
 replace h := iteF hb h
 refine (wp_skip (then_normal ?_))
 refine wp_seq (wp_text' ?_)
 refine from_pure 1 [(16, Str.val p0)] hF (by kernel_rfl) fun fr hF => ?_
 obtain ⟨x4, hx4, h⟩ := bindE h
 refine s_call [Str.val p0] Tryz.call26 rfl rfl hF rfl (spec_ParseInt_ok n p0 hx4) fun v w3 fr hRes hF => ?_
 obtain ⟨rfl, hc⟩ := hRes
 have hs := hs.ext hc
 have hM0 := hM0.ext hc
 refine from_pure 5 [(3, I x4.1)] hF (by kernel_rfl) fun fr hF => ?_
 refine from_end rfl (then_normal ?_)
 refine wp_seq (wp_pure [(2, I x4.1)] hF (by kernel_rfl) fun fr hF => then_normal ?_)
 obtain rfl := Option.some.inj h
 exact wp_ret (ret1 rfl hF rfl ⟨_, rfl, rfl, hM0.chg⟩)

theorem spec_l05Reg_ok (p0 : Int) {r : Bool} (h : spec_l05Reg p0 = some r) {w : World} :
   Calls Tryz.prog 53 [I p0].toArray w fun e w' => ∃ v, e = .returned v ∧ v = .bool r ∧ Chg Non w w' := by
 unfold spec_l05Reg at h
 have hs := Sep.nil w Non
 have hM0 : Mem w Non (fun k => (False) ∧ k < w.heap.size) w Non (fun k => (False) ∧ k < w.heap.size) := Mem.start (fun _ h => h.elim) (fun _ h => h.2) (fun _ h => h.elim)
 refine enter (N := 5) Tryz.func53 rfl Tryz.ntmps53 rfl fun fr hF => ?_
 refine wp_seq (wp_pure [(0, I p0)] hF (by kernel_rfl) fun fr hF => then_normal ?_)
 refine wp_seq (wp_text' ?_)
 refine from_pure 1 [(3, I p0)] hF (by kernel_rfl) fun fr hF => ?_
 obtain ⟨x1, hx1, h⟩ := bindE h
 refine s_call [I p0, I 0, I 3] Tryz.call10 rfl rfl hF rfl (spec_l01In_ok p0 0 3 hx1) fun v w1 fr hRes hF => ?_
 obtain ⟨rfl, hc⟩ := hRes
 have hs := hs.ext hc
 have hM0 := hM0.ext hc
 refine from_pure 1 [(2, .bool x1)] hF (by kernel_rfl) fun fr hF => ?_
 refine from_end rfl (then_normal ?_)
 obtain rfl := Option.some.inj h
 exact wp_ret (ret1 rfl hF rfl ⟨_, rfl, rfl, hM0.chg⟩)

theorem spec_WordOk_ok (p0 : Int) (p1 : Int) {r : Bool} (h : spec_WordOk p0 p1 = some r) {w : World} :
   Calls Tryz.prog 31 [I p0, I p1].toArray w fun e w' => ∃ v, e = .returned v ∧ v = .bool r ∧ Chg Non w w' := by
 unfold spec_WordOk at h
 have hs := Sep.nil w Non
 have hM0 : Mem w Non (fun k => (False) ∧ k < w.heap.size) w Non (fun k => (False) ∧ k < w.heap.size) := Mem.start (fun _ h => h.elim) (fun _ h => h.2) (fun _ h => h.elim)
 refine enter (N := 14) Tryz.func31 rfl Tryz.ntmps31 rfl fun fr hF => ?_
 refine wp_seq (wp_pure [(0, I p0), (1, I p1)] hF (by kernel_rfl) fun fr hF => then_normal ?_)
 obtain ⟨x1, hx1, h⟩ := bindE h
 obtain ⟨x2, hx2, h⟩ := bindE h
 obtain ⟨x3, hx3, h⟩ := bindE h
 refine wp_seq (region_b [] [true, false, true, true, true, false, true, false, true, true]
     [.eq (I p0), .eq (.bool x1), .eq (.bool x1), .eq (I p1), .eq (I p0), .eq (I x2), .eq (I (w64 (x2 - 1))), .eq (.bool x3), .eq (.bool (x1 && x3)), .eq (.bool (x1 && x3))]
     [(4, .bool (x1 && x3))] mix hF (by kernel_rfl) (by kernel_rfl) (by kernel_rfl) ⟨Pd.mono_eq, Pd.mono_eq, Pd.mono_eq, trivial⟩ (fun hG => ⟨np_call [I p0, I 1, I 16] hG hF Tryz.call10 rfl rfl (fun w hC hg => (spec_l01In_ok p0 1 16 hx1).mono fun e w' ⟨v, he, hv, hc⟩ => ⟨v, he, hc, hv⟩), np_shl hG hF rfl rfl rfl (fun hg => (iteT hg.2 hx2)) rfl, np_call [I p1, I 0, I (w64 (x2 - 1))] hG hF Tryz.call10 rfl rfl (fun w hC hg => (spec_l01In_ok p1 0 (w64 (x2 - 1)) (iteT hg.2 hx3)).mono fun e w' ⟨v, he, hv, hc⟩ => ⟨v, he, hc, hv⟩), trivial⟩) (by kernel_rfl) fun fr w1 hF hE hc => then_normal ?_)
 have hs := hs.ext hc
 have hM0 := hM0.ext hc
 obtain rfl := Option.some.inj h
 exact wp_ret (ret1 rfl hF rfl ⟨_, rfl, rfl, hM0.chg⟩)

theorem spec_l05Ins_ok (p0 : D.Ins) (p1 : Int) (p2 : Int) {r : Bool} (h : spec_l05Ins p0 p1 p2 = some r) {w : World} :
   Calls Tryz.prog 32 [.agg #[I p0.Op, I p0.A, I p0.B, I p0.C], I p1, I p2].toArray w fun e w' => ∃ v, e = .returned v ∧ v = .bool r ∧ Chg Non w w' := by
 unfold spec_l05Ins at h
 have hs := Sep.nil w Non
 have hM0 : Mem w Non (fun k => (False) ∧ k < w.heap.size) w Non (fun k => (False) ∧ k < w.heap.size) := Mem.start (fun _ h => h.elim) (fun _ h => h.2) (fun _ h => h.elim)
 refine enter (N := 123) Tryz.func32 rfl Tryz.ntmps32 rfl fun fr hF => ?_
 refine wp_seq (wp_text' ?_)
 refine q_box hs hM0 [I p0.Op, I p0.A, I p0.B, I p0.C] rfl rfl hF rfl rfl fun b1 w1 S1 fr hs hp hF => ?_
 have hM0 := hM0.stp hp
 have hs : Sep [BX b1 38 [I p0.Op, I p0.A, I p0.B, I p0.C]] w1 S1 := hs
 refine from_pure 1 [(1, I p1), (2, I p2), (3, B b1 0)] hF (by kernel_rfl) fun fr hF => ?_
 refine from_end rfl (then_normal ?_)
 refine wp_seq (wp_text' ?_)
 refine from_pure 1 [(1, I p1), (2, I p2), (3, B b1 0), (8, B b1 2)] hF (by kernel_rfl) fun fr hF => ?_
 refine s_loadBox (I p0.B) ty3 rfl rfl hF rfl (hs.bx 0 rfl) rfl rfl fun fr hF => ?_
 refine from_pure 1 [(1, I p1), (3, B b1 0), (9, I p0.B), (10, I p2)] hF (by kernel_rfl) fun fr hF => ?_
 obtain ⟨x1, hx1, h⟩ := bindE h
 refine s_call [I p0.B, I 0, I p2] Tryz.call10 rfl rfl hF rfl (spec_l01In_ok p0.B 0 p2 hx1) fun v w2 fr hRes hF => ?_
 obtain ⟨rfl, hc⟩ := hRes
 have hs := hs.ext hc
 have hM0 := hM0.ext hc
 refine from_pure 1 [(1, I p1), (3, B b1 0), (7, .bool x1)] hF (by kernel_rfl) fun fr hF => ?_
 refine from_end rfl (then_normal ?_)
 refine wp_seq ?_
 refine wp_seq (wp_text' ?_)
 refine from_pure 1 [(1, I p1), (3, B b1 0), (7, .bool x1), (12, B b1 0)] hF (by kernel_rfl) fun fr hF => ?_
 refine s_loadBox (I p0.Op) ty3 rfl rfl hF rfl (hs.bx 0 rfl) rfl rfl fun fr hF => ?_
 refine from_end rfl (then_normal ?_)
 refine (wp_block ?_)
 refine wp_seq (wp_pure [(1, I p1), (3, B b1 0), (7, .bool x1), (13, I p0.Op), (14, .bool (p0.Op == 1))] hF (by kernel_rfl) fun fr hF => then_normal ?_)
 refine (wp_if hF (b := (p0.Op == 1)) rfl (fun hb => ?_) (fun hb => ?_))
 · replace h := iteT hb h
   obtain ⟨x2, hx2, h⟩ := bindE h
   obtain ⟨x3, hx3, h⟩ := bindE h
   refine wp_seq (region_b [] [true, false, false, true, true, true, false, false, true, true, true, false, true, true, true]
       [.eq (B b1 1), .eq (I p0.A), .eq (.bool x2), .eq (.bool x2), .eq (I p1), .eq (B b1 2), .eq (I p0.B), .eq (.bool x3), .eq (.bool (x2 && x3)), .eq (.bool (x2 && x3)), .eq (B b1 3), .eq (I p0.C), .eq (.bool (p0.C == 0)), .eq (.bool ((x2 && x3) && (p0.C == 0))), .eq (.bool ((x2 && x3) && (p0.C == 0)))]
       [(6, .bool ((x2 && x3) && (p0.C == 0)))] mix hF (by kernel_rfl) (by kernel_rfl) (by kernel_rfl) ⟨Pd.mono_eq, Pd.mono_eq, Pd.mono_eq, Pd.mono_eq, Pd.mono_eq, trivial⟩ (fun hG => ⟨np_loadBox hG hF ty3 rfl rfl (hs.bx 0 rfl) rfl rfl rfl, np_call [I p0.A] hG hF Tryz.call53 rfl rfl (fun w hC hg => (spec_l05Reg_ok p0.A hx2).mono fun e w' ⟨v, he, hv, hc⟩ => ⟨v, he, hc, hv⟩), np_loadBox hG hF ty3 rfl rfl (hs.bx 0 rfl) rfl rfl rfl, np_call [I p1, I p0.B] hG hF Tryz.call31 rfl rfl (fun w hC hg => (spec_WordOk_ok p1 p0.B (iteT hg.2 hx3)).mono fun e w' ⟨v, he, hv, hc⟩ => ⟨v, he, hc, hv⟩), np_loadBox hG hF ty3 rfl rfl (hs.bx 0 rfl) rfl rfl rfl, trivial⟩) (by kernel_rfl) fun fr w3 hF hE hc => then_normal ?_)
   have hs := hs.ext hc
   have hM0 := hM0.ext hc
   have hs : Sep [] w3 S1 := Sep.pick [] hs (by decide) rfl
   obtain rfl := Option.some.inj h
   exact wp_ret (blk_ret (then_ret (ret1 rfl hF rfl ⟨_, rfl, rfl, hM0.chg⟩)))
 replace h := iteF hb h
 refine wp_seq ?_
 refine wp_seq (wp_pure [(3, B b1 0), (7, .bool x1), (13, I p0.Op), (30, .bool (p0.Op == 2))] hF (by kernel_rfl) fun fr hF => then_normal ?_)
 refine (wp_if hF (b := (p0.Op == 2)) rfl (fun hb => ?_) (fun hb => ?_))
 · replace h := iteT hb h
   refine (wp_skip (then_normal ?_))
   refine (wp_if hF (b := (p0.Op == 2)) rfl (fun hb => ?_) (fun hb => ?_))
   · replace h := iteT hb h
     obtain ⟨x4, hx4, h⟩ := bindE h
     obtain ⟨x5, hx5, h⟩ := bindE h
     refine wp_seq (region_b [] [true, false, false, true, true, false, false, true, true, true, false, true, true, true]
         [.eq (B b1 1), .eq (I p0.A), .eq (.bool x4), .eq (.bool x4), .eq (B b1 2), .eq (I p0.B), .eq (.bool x5), .eq (.bool (x4 && x5)), .eq (.bool (x4 && x5)), .eq (B b1 3), .eq (I p0.C), .eq (.bool (p0.C == 0)), .eq (.bool ((x4 && x5) && (p0.C == 0))), .eq (.bool ((x4 && x5) && (p0.C == 0)))]
         [(6, .bool ((x4 && x5) && (p0.C == 0)))] mix hF (by kernel_rfl) (by kernel_rfl) (by kernel_rfl) ⟨Pd.mono_eq, Pd.mono_eq, Pd.mono_eq, Pd.mono_eq, Pd.mono_eq, trivial⟩ (fun hG => ⟨np_loadBox hG hF ty3 rfl rfl (hs.bx 0 rfl) rfl rfl rfl, np_call [I p0.A] hG hF Tryz.call53 rfl rfl (fun w hC hg => (spec_l05Reg_ok p0.A hx4).mono fun e w' ⟨v, he, hv, hc⟩ => ⟨v, he, hc, hv⟩), np_loadBox hG hF ty3 rfl rfl (hs.bx 0 rfl) rfl rfl rfl, np_call [I p0.B] hG hF Tryz.call53 rfl rfl (fun w hC hg => (spec_l05Reg_ok p0.B (iteT hg.2 hx5)).mono fun e w' ⟨v, he, hv, hc⟩ => ⟨v, he, hc, hv⟩), np_loadBox hG hF ty3 rfl rfl (hs.bx 0 rfl) rfl rfl rfl, trivial⟩) (by kernel_rfl) fun fr w4 hF hE hc => then_normal ?_)
     have hs := hs.ext hc
     have hM0 := hM0.ext hc
     have hs : Sep [] w4 S1 := Sep.pick [] hs (by decide) rfl
     obtain rfl := Option.some.inj h
     exact wp_ret (blk_ret (then_ret (ret1 rfl hF rfl ⟨_, rfl, rfl, hM0.chg⟩)))
   replace h := iteF hb h
   refine wp_seq (wp_pure [(3, B b1 0), (7, .bool x1), (13, I p0.Op), (47, .bool (p0.Op == 3))] hF (by kernel_rfl) fun fr hF => then_normal ?_)
   refine (wp_if hF (b := (p0.Op == 3)) rfl (fun hb => ?_) (fun hb => ?_))
   · replace h := iteT hb h
     obtain ⟨x6, hx6, h⟩ := bindE h
     obtain ⟨x7, hx7, h⟩ := bindE h
     obtain ⟨x8, hx8, h⟩ := bindE h
     refine wp_seq (region_b [] [true, false, false, true, true, false, false, true, true, true, false, false, true, true]
         [.eq (B b1 1), .eq (I p0.A), .eq (.bool x6), .eq (.bool x6), .eq (B b1 2), .eq (I p0.B), .eq (.bool x7), .eq (.bool (x6 && x7)), .eq (.bool (x6 && x7)), .eq (B b1 3), .eq (I p0.C), .eq (.bool x8), .eq (.bool ((x6 && x7) && x8)), .eq (.bool ((x6 && x7) && x8))]
         [(6, .bool ((x6 && x7) && x8))] mix hF (by kernel_rfl) (by kernel_rfl) (by kernel_rfl) ⟨Pd.mono_eq, Pd.mono_eq, Pd.mono_eq, Pd.mono_eq, Pd.mono_eq, Pd.mono_eq, trivial⟩ (fun hG => ⟨np_loadBox hG hF ty3 rfl rfl (hs.bx 0 rfl) rfl rfl rfl, np_call [I p0.A] hG hF Tryz.call53 rfl rfl (fun w hC hg => (spec_l05Reg_ok p0.A hx6).mono fun e w' ⟨v, he, hv, hc⟩ => ⟨v, he, hc, hv⟩), np_loadBox hG hF ty3 rfl rfl (hs.bx 0 rfl) rfl rfl rfl, np_call [I p0.B] hG hF Tryz.call53 rfl rfl (fun w hC hg => (spec_l05Reg_ok p0.B (iteT hg.2 hx7)).mono fun e w' ⟨v, he, hv, hc⟩ => ⟨v, he, hc, hv⟩), np_loadBox hG hF ty3 rfl rfl (hs.bx 0 rfl) rfl rfl rfl, np_call [I p0.C, I 3, I 16] hG hF Tryz.call10 rfl rfl (fun w hC hg => (spec_l01In_ok p0.C 3 16 (iteT hg.2 hx8)).mono fun e w' ⟨v, he, hv, hc⟩ => ⟨v, he, hc, hv⟩), trivial⟩) (by kernel_rfl) fun fr w5 hF hE hc => then_normal ?_)
     have hs := hs.ext hc
     have hM0 := hM0.ext hc
     have hs : Sep [] w5 S1 := Sep.pick [] hs (by decide) rfl
     obtain rfl := Option.some.inj h
     exact wp_ret (blk_ret (then_ret (ret1 rfl hF rfl ⟨_, rfl, rfl, hM0.chg⟩)))
   replace h := iteF hb h
   refine wp_seq ?_
   refine wp_seq (wp_pure [(3, B b1 0), (7, .bool x1), (13, I p0.Op), (62, .bool (p0.Op == 4))] hF (by kernel_rfl) fun fr hF => then_normal ?_)
   refine (wp_if hF (b := (p0.Op == 4)) rfl (fun hb => ?_) (fun hb => ?_))
   · replace h := iteT hb h
     refine (wp_skip (then_normal ?_))
     refine (wp_if hF (b := (p0.Op == 4)) rfl (fun hb => ?_) (fun hb => ?_))
     · replace h := iteT hb h
       obtain ⟨x9, hx9, h⟩ := bindE h
       refine wp_seq (region_b [] [true, false, false, true, true, false, true, true, true, true, false, true, true, true]
           [.eq (B b1 1), .eq (I p0.A), .eq (.bool x9), .eq (.bool x9), .eq (B b1 2), .eq (I p0.B), .eq (.bool (p0.B == 0)), .eq (.bool (x9 && (p0.B == 0))), .eq (.bool (x9 && (p0.B == 0))), .eq (B b1 3), .eq (I p0.C), .eq (.bool (p0.C == 0)), .eq (.bool ((x9 && (p0.B == 0)) && (p0.C == 0))), .eq (.bool ((x9 && (p0.B == 0)) && (p0.C == 0)))]
           [(6, .bool ((x9 && (p0.B == 0)) && (p0.C == 0)))] mix hF (by kernel_rfl) (by kernel_rfl) (by kernel_rfl) ⟨Pd.mono_eq, Pd.mono_eq, Pd.mono_eq, Pd.mono_eq, trivial⟩ (fun hG => ⟨np_loadBox hG hF ty3 rfl rfl (hs.bx 0 rfl) rfl rfl rfl, np_call [I p0.A] hG hF Tryz.call53 rfl rfl (fun w hC hg => (spec_l05Reg_ok p0.A hx9).mono fun e w' ⟨v, he, hv, hc⟩ => ⟨v, he, hc, hv⟩), np_loadBox hG hF ty3 rfl rfl (hs.bx 0 rfl) rfl rfl rfl, np_loadBox hG hF ty3 rfl rfl (hs.bx 0 rfl) rfl rfl rfl, trivial⟩) (by kernel_rfl) fun fr w6 hF hE hc => then_normal ?_)
       have hs := hs.ext hc
       have hM0 := hM0.ext hc
       have hs : Sep [] w6 S1 := Sep.pick [] hs (by decide) rfl
       obtain rfl := Option.some.inj h
       exact wp_ret (blk_ret (then_ret (ret1 rfl hF rfl ⟨_, rfl, rfl, hM0.chg⟩)))
     replace h := iteF hb h
     refine wp_seq ?_
     refine wp_seq (wp_pure [(3, B b1 0), (7, .bool x1), (13, I p0.Op), (80, .bool (p0.Op == 9))] hF (by kernel_rfl) fun fr hF => then_normal ?_)
     refine (wp_merge [(3, B b1 0), (7, .bool x1), (13, I p0.Op), (80, .bool ((p0.Op == 9) || (p0.Op == 11)))] hF (b := (p0.Op == 9)) rfl (fun hb => ?_) (fun hb => ?_) fun fr hF => then_normal ?_)
     · exact wp_skip ⟨rfl, rfl, (hF.sub [(3, B b1 0), (7, .bool x1), (13, I p0.Op), (80, .bool (p0.Op == 9))] (by kernel_rfl)).eqs (by first | (simp only [hb]; done) | (simp only [hb]; rfl))⟩
     · exact wp_pure [(3, B b1 0), (7, .bool x1), (13, I p0.Op), (80, .bool (p0.Op == 11))] hF (by kernel_rfl) fun fr hF => ⟨rfl, rfl, hF.eqs (by first | (simp only [hb]; done) | (simp only [hb]; rfl))⟩
     refine (wp_if hF (b := ((p0.Op == 9) || (p0.Op == 11))) rfl (fun hb => ?_) (fun hb => ?_))
     · replace h := iteT hb h
       refine wp_seq (region_b [] [true, false, true, true, true, true, true, true, false, true, true, true]
           [.eq (B b1 1), .eq (I p0.A), .eq (.bool (p0.A == 0)), .eq (.bool (p0.A == 0)), .eq (.bool x1), .eq (.bool ((p0.A == 0) && x1)), .eq (.bool ((p0.A == 0) && x1)), .eq (B b1 3), .eq (I p0.C), .eq (.bool (p0.C == 0)), .eq (.bool (((p0.A == 0) && x1) && (p0.C == 0))), .eq (.bool (((p0.A == 0) && x1) && (p0.C == 0)))]
           [(6, .bool (((p0.A == 0) && x1) && (p0.C == 0)))] mix hF (by kernel_rfl) (by kernel_rfl) (by kernel_rfl) ⟨Pd.mono_eq, Pd.mono_eq, trivial⟩ (fun hG => ⟨np_loadBox hG hF ty3 rfl rfl (hs.bx 0 rfl) rfl rfl rfl, np_loadBox hG hF ty3 rfl rfl (hs.bx 0 rfl) rfl rfl rfl, trivial⟩) (by kernel_rfl) fun fr w7 hF hE hc => then_normal ?_)
       have hs := hs.ext hc
       have hM0 := hM0.ext hc
       have hs : Sep [] w7 S1 := Sep.pick [] hs (by decide) rfl
       obtain rfl := Option.some.inj h
       exact wp_ret (blk_ret (then_ret (ret1 rfl hF rfl ⟨_, rfl, rfl, hM0.chg⟩)))
     replace h := iteF hb h
     refine wp_seq (wp_pure [(3, B b1 0), (7, .bool x1), (13, I p0.Op), (94, .bool (p0.Op == 10))] hF (by kernel_rfl) fun fr hF => then_normal ?_)
     refine (wp_if hF (b := (p0.Op == 10)) rfl (fun hb => ?_) (fun hb => ?_))
     · replace h := iteT hb h
       obtain ⟨x10, hx10, h⟩ := bindE h
       refine wp_seq (region_b [] [true, false, false, true, true, true, true, true, false, true, true, true]
           [.eq (B b1 1), .eq (I p0.A), .eq (.bool x10), .eq (.bool x10), .eq (.bool x1), .eq (.bool (x10 && x1)), .eq (.bool (x10 && x1)), .eq (B b1 3), .eq (I p0.C), .eq (.bool (p0.C == 0)), .eq (.bool ((x10 && x1) && (p0.C == 0))), .eq (.bool ((x10 && x1) && (p0.C == 0)))]
           [(6, .bool ((x10 && x1) && (p0.C == 0)))] mix hF (by kernel_rfl) (by kernel_rfl) (by kernel_rfl) ⟨Pd.mono_eq, Pd.mono_eq, Pd.mono_eq, trivial⟩ (fun hG => ⟨np_loadBox hG hF ty3 rfl rfl (hs.bx 0 rfl) rfl rfl rfl, np_call [I p0.A] hG hF Tryz.call53 rfl rfl (fun w hC hg => (spec_l05Reg_ok p0.A hx10).mono fun e w' ⟨v, he, hv, hc⟩ => ⟨v, he, hc, hv⟩), np_loadBox hG hF ty3 rfl rfl (hs.bx 0 rfl) rfl rfl rfl, trivial⟩) (by kernel_rfl) fun fr w8 hF hE hc => then_normal ?_)
       have hs := hs.ext hc
       have hM0 := hM0.ext hc
       have hs : Sep [] w8 S1 := Sep.pick [] hs (by decide) rfl
       obtain rfl := Option.some.inj h
       exact wp_ret (blk_ret (then_ret (ret1 rfl hF rfl ⟨_, rfl, rfl, hM0.chg⟩)))
     replace h := iteF hb h
     refine wp_seq ?_
     refine wp_seq (wp_pure [(3, B b1 0), (13, I p0.Op), (107, .bool (p0.Op == 12))] hF (by kernel_rfl) fun fr hF => then_normal ?_)
     refine (wp_merge [(3, B b1 0), (107, .bool ((p0.Op == 12) || (p0.Op == 14)))] hF (b := (p0.Op == 12)) rfl (fun hb => ?_) (fun hb => ?_) fun fr hF => then_normal ?_)
     · exact wp_skip ⟨rfl, rfl, (hF.sub [(3, B b1 0), (107, .bool (p0.Op == 12))] (by kernel_rfl)).eqs (by first | (simp only [hb]; done) | (simp only [hb]; rfl))⟩
     · exact wp_pure [(3, B b1 0), (107, .bool (p0.Op == 14))] hF (by kernel_rfl) fun fr hF => ⟨rfl, rfl, hF.eqs (by first | (simp only [hb]; done) | (simp only [hb]; rfl))⟩
     refine (wp_if hF (b := ((p0.Op == 12) || (p0.Op == 14))) rfl (fun hb => ?_) (fun hb => ?_))
     · replace h := iteT hb h
       refine wp_seq (region_b [] [true, false, true, true, true, false, true, true, true, true, false, true, true, true]
           [.eq (B b1 1), .eq (I p0.A), .eq (.bool (p0.A == 0)), .eq (.bool (p0.A == 0)), .eq (B b1 2), .eq (I p0.B), .eq (.bool (p0.B == 0)), .eq (.bool ((p0.A == 0) && (p0.B == 0))), .eq (.bool ((p0.A == 0) && (p0.B == 0))), .eq (B b1 3), .eq (I p0.C), .eq (.bool (p0.C == 0)), .eq (.bool (((p0.A == 0) && (p0.B == 0)) && (p0.C == 0))), .eq (.bool (((p0.A == 0) && (p0.B == 0)) && (p0.C == 0)))]
           [(6, .bool (((p0.A == 0) && (p0.B == 0)) && (p0.C == 0)))] mix hF (by kernel_rfl) (by kernel_rfl) (by kernel_rfl) ⟨Pd.mono_eq, Pd.mono_eq, Pd.mono_eq, trivial⟩ (fun hG => ⟨np_loadBox hG hF ty3 rfl rfl (hs.bx 0 rfl) rfl rfl rfl, np_loadBox hG hF ty3 rfl rfl (hs.bx 0 rfl) rfl rfl rfl, np_loadBox hG hF ty3 rfl rfl (hs.bx 0 rfl) rfl rfl rfl, trivial⟩) (by kernel_rfl) fun fr w9 hF hE hc => then_normal ?_)
       have hs := hs.ext hc
       have hM0 := hM0.ext hc
       have hs : Sep [] w9 S1 := Sep.pick [] hs (by decide) rfl
       obtain rfl := Option.some.inj h
       exact wp_ret (blk_ret (then_ret (ret1 rfl hF rfl ⟨_, rfl, rfl, hM0.chg⟩)))
     replace h := iteF hb h
     have hs : Sep [] w2 S1 := Sep.pick [] hs (by decide) rfl
     refine (wp_skip ?_)
     refine blk_normal (then_normal ?_)
     refine wp_seq (wp_pure [(6, .bool false)] hF (by kernel_rfl) fun fr hF => then_normal ?_)
     obtain rfl := Option.some.inj h
     exact wp_ret (ret1 rfl hF rfl ⟨_, rfl, rfl, hM0.chg⟩)
   replace h := iteF hb h
   refine wp_seq (wp_pure [(3, B b1 0), (7, .bool x1), (13, I p0.Op), (62, .bool (p0.Op == 5))] hF (by kernel_rfl) fun fr hF => then_normal ?_)
   refine (wp_if hF (b := (p0.Op == 5)) rfl (fun hb => ?_) (fun hb => ?_))
   · replace h := iteT hb h
     refine (wp_skip (then_normal ?_))
     refine (wp_if hF (b := (p0.Op == 5)) rfl (fun hb => ?_) (fun hb => ?_))
     · replace h := iteT hb h
       obtain ⟨x11, hx11, h⟩ := bindE h
       refine wp_seq (region_b [] [true, false, false, true, true, false, true, true, true, true, false, true, true, true]
           [.eq (B b1 1), .eq (I p0.A), .eq (.bool x11), .eq (.bool x11), .eq (B b1 2), .eq (I p0.B), .eq (.bool (p0.B == 0)), .eq (.bool (x11 && (p0.B == 0))), .eq (.bool (x11 && (p0.B == 0))), .eq (B b1 3), .eq (I p0.C), .eq (.bool (p0.C == 0)), .eq (.bool ((x11 && (p0.B == 0)) && (p0.C == 0))), .eq (.bool ((x11 && (p0.B == 0)) && (p0.C == 0)))]
           [(6, .bool ((x11 && (p0.B == 0)) && (p0.C == 0)))] mix hF (by kernel_rfl) (by kernel_rfl) (by kernel_rfl) ⟨Pd.mono_eq, Pd.mono_eq, Pd.mono_eq, Pd.mono_eq, trivial⟩ (fun hG => ⟨np_loadBox hG hF ty3 rfl rfl (hs.bx 0 rfl) rfl rfl rfl, np_call [I p0.A] hG hF Tryz.call53 rfl rfl (fun w hC hg => (spec_l05Reg_ok p0.A hx11).mono fun e w' ⟨v, he, hv, hc⟩ => ⟨v, he, hc, hv⟩), np_loadBox hG hF ty3 rfl rfl (hs.bx 0 rfl) rfl rfl rfl, np_loadBox hG hF ty3 rfl rfl (hs.bx 0 rfl) rfl rfl rfl, trivial⟩) (by kernel_rfl) fun fr w10 hF hE hc => then_normal ?_)
       have hs := hs.ext hc
       have hM0 := hM0.ext hc
       have hs : Sep [] w10 S1 := Sep.pick [] hs (by decide) rfl
       obtain rfl := Option.some.inj h
       exact wp_ret (blk_ret (then_ret (ret1 rfl hF rfl ⟨_, rfl, rfl, hM0.chg⟩)))
     replace h := iteF hb h
     refine wp_seq ?_
     refine wp_seq (wp_pure [(3, B b1 0), (7, .bool x1), (13, I p0.Op), (80, .bool (p0.Op == 9))] hF (by kernel_rfl) fun fr hF => then_normal ?_)
     refine (wp_merge [(3, B b1 0), (7, .bool x1), (13, I p0.Op), (80, .bool ((p0.Op == 9) || (p0.Op == 11)))] hF (b := (p0.Op == 9)) rfl (fun hb => ?_) (fun hb => ?_) fun fr hF => then_normal ?_)
     · exact wp_skip ⟨rfl, rfl, (hF.sub [(3, B b1 0), (7, .bool x1), (13, I p0.Op), (80, .bool (p0.Op == 9))] (by kernel_rfl)).eqs (by first | (simp only [hb]; done) | (simp only [hb]; rfl))⟩
     · exact wp_pure [(3, B b1 0), (7, .bool x1), (13, I p0.Op), (80, .bool (p0.Op == 11))] hF (by kernel_rfl) fun fr hF => ⟨rfl, rfl, hF.eqs (by first | (simp only [hb]; done) | (simp only [hb]; rfl))⟩
     refine (wp_if hF (b := ((p0.Op == 9) || (p0.Op == 11))) rfl (fun hb => ?_) (fun hb => ?_))
     · replace h := iteT hb h
       refine wp_seq (region_b [] [true, false, true, true, true, true, true, true, false, true, true, true]
           [.eq (B b1 1), .eq (I p0.A), .eq (.bool (p0.A == 0)), .eq (.bool (p0.A == 0)), .eq (.bool x1), .eq (.bool ((p0.A == 0) && x1)), .eq (.bool ((p0.A == 0) && x1)), .eq (B b1 3), .eq (I p0.C), .eq (.bool (p0.C == 0)), .eq (.bool (((p0.A == 0) && x1) && (p0.C == 0))), .eq (.bool (((p0.A == 0) && x1) && (p0.C == 0)))]
           [(6, .bool (((p0.A == 0) && x1) && (p0.C == 0)))] mix hF (by kernel_rfl) (by kernel_rfl) (by kernel_rfl) ⟨Pd.mono_eq, Pd.mono_eq, trivial⟩ (fun hG => ⟨np_loadBox hG hF ty3 rfl rfl (hs.bx 0 rfl) rfl rfl rfl, np_loadBox hG hF ty3 rfl rfl (hs.bx 0 rfl) rfl rfl rfl, trivial⟩) (by kernel_rfl) fun fr w11 hF hE hc => then_normal ?_)
       have hs := hs.ext hc
       have hM0 := hM0.ext hc
       have hs : Sep [] w11 S1 := Sep.pick [] hs (by decide) rfl
       obtain rfl := Option.some.inj h
       exact wp_ret (blk_ret (then_ret (ret1 rfl hF rfl ⟨_, rfl, rfl, hM0.chg⟩)))
     replace h := iteF hb h
     refine wp_seq (wp_pure [(3, B b1 0), (7, .bool x1), (13, I p0.Op), (94, .bool (p0.Op == 10))] hF (by kernel_rfl) fun fr hF => then_normal ?_)
     refine (wp_if hF (b := (p0.Op == 10)) rfl (fun hb => ?_) (fun hb => ?_))
     · replace h := iteT hb h
       obtain ⟨x12, hx12, h⟩ := bindE h
       refine wp_seq (region_b [] [true, false, false, true, true, true, true, true, false, true, true, true]
           [.eq (B b1 1), .eq (I p0.A), .eq (.bool x12), .eq (.bool x12), .eq (.bool x1), .eq (.bool (x12 && x1)), .eq (.bool (x12 && x1)), .eq (B b1 3), .eq (I p0.C), .eq (.bool (p0.C == 0)), .eq (.bool ((x12 && x1) && (p0.C == 0))), .eq (.bool ((x12 && x1) && (p0.C == 0)))]
           [(6, .bool ((x12 && x1) && (p0.C == 0)))] mix hF (by kernel_rfl) (by kernel_rfl) (by kernel_rfl) ⟨Pd.mono_eq, Pd.mono_eq, Pd.mono_eq, trivial⟩ (fun hG => ⟨np_loadBox hG hF ty3 rfl rfl (hs.bx 0 rfl) rfl rfl rfl, np_call [I p0.A] hG hF Tryz.call53 rfl rfl (fun w hC hg => (spec_l05Reg_ok p0.A hx12).mono fun e w' ⟨v, he, hv, hc⟩ => ⟨v, he, hc, hv⟩), np_loadBox hG hF ty3 rfl rfl (hs.bx 0 rfl) rfl rfl rfl, trivial⟩) (by kernel_rfl) fun fr w12 hF hE hc => then_normal ?_)
       have hs := hs.ext hc
       have hM0 := hM0.ext hc
       have hs : Sep [] w12 S1 := Sep.pick [] hs (by decide) rfl
       obtain rfl := Option.some.inj h
       exact wp_ret (blk_ret (then_ret (ret1 rfl hF rfl ⟨_, rfl, rfl, hM0.chg⟩)))
     replace h := iteF hb h
     refine wp_seq ?_
     refine wp_seq (wp_pure [(3, B b1 0), (13, I p0.Op), (107, .bool (p0.Op == 12))] hF (by kernel_rfl) fun fr hF => then_normal ?_)
     refine (wp_merge [(3, B b1 0), (107, .bool ((p0.Op == 12) || (p0.Op == 14)))] hF (b := (p0.Op == 12)) rfl (fun hb => ?_) (fun hb => ?_) fun fr hF => then_normal ?_)
     · exact wp_skip ⟨rfl, rfl, (hF.sub [(3, B b1 0), (107, .bool (p0.Op == 12))] (by kernel_rfl)).eqs (by first | (simp only [hb]; done) | (simp only [hb]; rfl))⟩
     · exact wp_pure [(3, B b1 0), (107, .bool (p0.Op == 14))] hF (by kernel_rfl) fun fr hF => ⟨rfl, rfl, hF.eqs (by first | (simp only [hb]; done) | (simp only [hb]; rfl))⟩
     refine (wp_if hF (b := ((p0.Op == 12) || (p0.Op == 14))) rfl (fun hb => ?_) (fun hb => ?_))
     · replace h := iteT hb h
       refine wp_seq (region_b [] [true, false, true, true, true, false, true, true, true, true, false, true, true, true]
           [.eq (B b1 1), .eq (I p0.A), .eq (.bool (p0.A == 0)), .eq (.bool (p0.A == 0)), .eq (B b1 2), .eq (I p0.B), .eq (.bool (p0.B == 0)), .eq (.bool ((p0.A == 0) && (p0.B == 0))), .eq (.bool ((p0.A == 0) && (p0.B == 0))), .eq (B b1 3), .eq (I p0.C), .eq (.bool (p0.C == 0)), .eq (.bool (((p0.A == 0) && (p0.B == 0)) && (p0.C == 0))), .eq (.bool (((p0.A == 0) && (p0.B == 0)) && (p0.C == 0)))]
           [(6, .bool (((p0.A == 0) && (p0.B == 0)) && (p0.C == 0)))] mix hF (by kernel_rfl) (by kernel_rfl) (by kernel_rfl) ⟨Pd.mono_eq, Pd.mono_eq, Pd.mono_eq, trivial⟩ (fun hG => ⟨np_loadBox hG hF ty3 rfl rfl (hs.bx 0 rfl) rfl rfl rfl, np_loadBox hG hF ty3 rfl rfl (hs.bx 0 rfl) rfl rfl rfl, np_loadBox hG hF ty3 rfl rfl (hs.bx 0 rfl) rfl rfl rfl, trivial⟩) (by kernel_rfl) fun fr w13 hF hE hc => then_normal ?_)
       have hs := hs.ext hc
       have hM0 := hM0.ext hc
       have hs : Sep [] w13 S1 := Sep.pick [] hs (by decide) rfl
       obtain rfl := Option.some.inj h
       exact wp_ret (blk_ret (then_ret (ret1 rfl hF rfl ⟨_, rfl, rfl, hM0.chg⟩)))
     replace h := iteF hb h
     have hs : Sep [] w2 S1 := Sep.pick [] hs (by decide) rfl
     refine (wp_skip ?_)
     refine blk_normal (then_normal ?_)
     refine wp_seq (wp_pure [(6, .bool false)] hF (by kernel_rfl) fun fr hF => then_normal ?_)
     obtain rfl := Option.some.inj h
     exact wp_ret (ret1 rfl hF rfl ⟨_, rfl, rfl, hM0.chg⟩)
   replace h := iteF hb h
   refine wp_seq (wp_pure [(3, B b1 0), (7, .bool x1), (13, I p0.Op), (62, .bool (p0.Op == 6))] hF (by kernel_rfl) fun fr hF => then_normal ?_)
   refine (wp_merge [(3, B b1 0), (7, .bool x1), (13, I p0.Op), (62, .bool ((p0.Op == 6) || (p0.Op == 13)))] hF (b := (p0.Op == 6)) rfl (fun hb => ?_) (fun hb => ?_) fun fr hF => then_normal ?_)
   · exact wp_skip ⟨rfl, rfl, (hF.sub [(3, B b1 0), (7, .bool x1), (13, I p0.Op), (62, .bool (p0.Op == 6))] (by kernel_rfl)).eqs (by first | (simp only [hb]; done) | (simp only [hb]; rfl))⟩
   · exact wp_pure [(3, B b1 0), (7, .bool x1), (13, I p0.Op), (62, .bool (p0.Op == 13))] hF (by kernel_rfl) fun fr hF => ⟨rfl, rfl, hF.eqs (by first | (simp only [hb]; done) | (simp only [hb]; rfl))⟩
   refine (wp_if hF (b := ((p0.Op == 6) || (p0.Op == 13))) rfl (fun hb => ?_) (fun hb => ?_))
   · replace h := iteT hb h
     obtain ⟨x13, hx13, h⟩ := bindE h
     refine wp_seq (region_b [] [true, false, false, true, true, false, true, true, true, true, false, true, true, true]
         [.eq (B b1 1), .eq (I p0.A), .eq (.bool x13), .eq (.bool x13), .eq (B b1 2), .eq (I p0.B), .eq (.bool (p0.B == 0)), .eq (.bool (x13 && (p0.B == 0))), .eq (.bool (x13 && (p0.B == 0))), .eq (B b1 3), .eq (I p0.C), .eq (.bool (p0.C == 0)), .eq (.bool ((x13 && (p0.B == 0)) && (p0.C == 0))), .eq (.bool ((x13 && (p0.B == 0)) && (p0.C == 0)))]
         [(6, .bool ((x13 && (p0.B == 0)) && (p0.C == 0)))] mix hF (by kernel_rfl) (by kernel_rfl) (by kernel_rfl) ⟨Pd.mono_eq, Pd.mono_eq, Pd.mono_eq, Pd.mono_eq, trivial⟩ (fun hG => ⟨np_loadBox hG hF ty3 rfl rfl (hs.bx 0 rfl) rfl rfl rfl, np_call [I p0.A] hG hF Tryz.call53 rfl rfl (fun w hC hg => (spec_l05Reg_ok p0.A hx13).mono fun e w' ⟨v, he, hv, hc⟩ => ⟨v, he, hc, hv⟩), np_loadBox hG hF ty3 rfl rfl (hs.bx 0 rfl) rfl rfl rfl, np_loadBox hG hF ty3 rfl rfl (hs.bx 0 rfl) rfl rfl rfl, trivial⟩) (by kernel_rfl) fun fr w14 hF hE hc => then_normal ?_)
     have hs := hs.ext hc
     have hM0 := hM0.ext hc
     have hs : Sep [] w14 S1 := Sep.pick [] hs (by decide) rfl
     obtain rfl := Option.some.inj h
     exact wp_ret (blk_ret (then_ret (ret1 rfl hF rfl ⟨_, rfl, rfl, hM0.chg⟩)))
   replace h := iteF hb h
   refine wp_seq ?_
   refine wp_seq (wp_pure [(3, B b1 0), (7, .bool x1), (13, I p0.Op), (80, .bool (p0.Op == 9))] hF (by kernel_rfl) fun fr hF => then_normal ?_)
   refine (wp_merge [(3, B b1 0), (7, .bool x1), (13, I p0.Op), (80, .bool ((p0.Op == 9) || (p0.Op == 11)))] hF (b := (p0.Op == 9)) rfl (fun hb => ?_) (fun hb => ?_) fun fr hF => then_normal ?_)
   · exact wp_skip ⟨rfl, rfl, (hF.sub [(3, B b1 0), (7, .bool x1), (13, I p0.Op), (80, .bool (p0.Op == 9))] (by kernel_rfl)).eqs (by first | (simp only [hb]; done) | (simp only [hb]; rfl))⟩
   · exact wp_pure [(3, B b1 0), (7, .bool x1), (13, I p0.Op), (80, .bool (p0.Op == 11))] hF (by kernel_rfl) fun fr hF => ⟨rfl, rfl, hF.eqs (by first | (simp only [hb]; done) | (simp only [hb]; rfl))⟩
   refine (wp_if hF (b := ((p0.Op == 9) || (p0.Op == 11))) rfl (fun hb => ?_) (fun hb => ?_))
   · replace h := iteT hb h
     refine wp_seq (region_b [] [true, false, true, true, true, true, true, true, false, true, true, true]
         [.eq (B b1 1), .eq (I p0.A), .eq (.bool (p0.A == 0)), .eq (.bool (p0.A == 0)), .eq (.bool x1), .eq (.bool ((p0.A == 0) && x1)), .eq (.bool ((p0.A == 0) && x1)), .eq (B b1 3), .eq (I p0.C), .eq (.bool (p0.C == 0)), .eq (.bool (((p0.A == 0) && x1) && (p0.C == 0))), .eq (.bool (((p0.A == 0) && x1) && (p0.C == 0)))]
         [(6, .bool (((p0.A == 0) && x1) && (p0.C == 0)))] mix hF (by kernel_rfl) (by kernel_rfl) (by kernel_rfl) ⟨Pd.mono_eq, Pd.mono_eq, trivial⟩ (fun hG => ⟨np_loadBox hG hF ty3 rfl rfl (hs.bx 0 rfl) rfl rfl rfl, np_loadBox hG hF ty3 rfl rfl (hs.bx 0 rfl) rfl rfl rfl, trivial⟩) (by kernel_rfl) fun fr w15 hF hE hc => then_normal ?_)
     have hs := hs.ext hc
     have hM0 := hM0.ext hc
     have hs : Sep [] w15 S1 := Sep.pick [] hs (by decide) rfl
     obtain rfl := Option.some.inj h
     exact wp_ret (blk_ret (then_ret (ret1 rfl hF rfl ⟨_, rfl, rfl, hM0.chg⟩)))
   replace h := iteF hb h
   refine wp_seq (wp_pure [(3, B b1 0), (7, .bool x1), (13, I p0.Op), (94, .bool (p0.Op == 10))] hF (by kernel_rfl) fun fr hF => then_normal ?_)
   refine (wp_if hF (b := (p0.Op == 10)) rfl (fun hb => ?_) (fun hb => ?_))
   · replace h := iteT hb h
     obtain ⟨x14, hx14, h⟩ := bindE h
     refine wp_seq (region_b [] [true, false, false, true, true, true, true, true, false, true, true, true]
         [.eq (B b1 1), .eq (I p0.A), .eq (.bool x14), .eq (.bool x14), .eq (.bool x1), .eq (.bool (x14 && x1)), .eq (.bool (x14 && x1)), .eq (B b1 3), .eq (I p0.C), .eq (.bool (p0.C == 0)), .eq (.bool ((x14 && x1) && (p0.C == 0))), .eq (.bool ((x14 && x1) && (p0.C == 0)))]
         [(6, .bool ((x14 && x1) && (p0.C == 0)))] mix hF (by kernel_rfl) (by kernel_rfl) (by kernel_rfl) ⟨Pd.mono_eq, Pd.mono_eq, Pd.mono_eq, trivial⟩ (fun hG => ⟨np_loadBox hG hF ty3 rfl rfl (hs.bx 0 rfl) rfl rfl rfl, np_call [I p0.A] hG hF Tryz.call53 rfl rfl (fun w hC hg => (spec_l05Reg_ok p0.A hx14).mono fun e w' ⟨v, he, hv, hc⟩ => ⟨v, he, hc, hv⟩), np_loadBox hG hF ty3 rfl rfl (hs.bx 0 rfl) rfl rfl rfl, trivial⟩) (by kernel_rfl) fun fr w16 hF hE hc => then_normal ?_)
     have hs := hs.ext hc
     have hM0 := hM0.ext hc
     have hs : Sep [] w16 S1 := Sep.pick [] hs (by decide) rfl
     obtain rfl := Option.some.inj h
     exact wp_ret (blk_ret (then_ret (ret1 rfl hF rfl ⟨_, rfl, rfl, hM0.chg⟩)))
   replace h := iteF hb h
   refine wp_seq ?_
   refine wp_seq (wp_pure [(3, B b1 0), (13, I p0.Op), (107, .bool (p0.Op == 12))] hF (by kernel_rfl) fun fr hF => then_normal ?_)
   refine (wp_merge [(3, B b1 0), (107, .bool ((p0.Op == 12) || (p0.Op == 14)))] hF (b := (p0.Op == 12)) rfl (fun hb => ?_) (fun hb => ?_) fun fr hF => then_normal ?_)
   · exact wp_skip ⟨rfl, rfl, (hF.sub [(3, B b1 0), (107, .bool (p0.Op == 12))] (by kernel_rfl)).eqs (by first | (simp only [hb]; done) | (simp only [hb]; rfl))⟩
   · exact wp_pure [(3, B b1 0), (107, .bool (p0.Op == 14))] hF (by kernel_rfl) fun fr hF => ⟨rfl, rfl, hF.eqs (by first | (simp only [hb]; done) | (simp only [hb]; rfl))⟩
   refine (wp_if hF (b := ((p0.Op == 12) || (p0.Op == 14))) rfl (fun hb => ?_) (fun hb => ?_))
   · replace h := iteT hb h
     refine wp_seq (region_b [] [true, false, true, true, true, false, true, true, true, true, false, true, true, true]
         [.eq (B b1 1), .eq (I p0.A), .eq (.bool (p0.A == 0)), .eq (.bool (p0.A == 0)), .eq (B b1 2), .eq (I p0.B), .eq (.bool (p0.B == 0)), .eq (.bool ((p0.A == 0) && (p0.B == 0))), .eq (.bool ((p0.A == 0) && (p0.B == 0))), .eq (B b1 3), .eq (I p0.C), .eq (.bool (p0.C == 0)), .eq (.bool (((p0.A == 0) && (p0.B == 0)) && (p0.C == 0))), .eq (.bool (((p0.A == 0) && (p0.B == 0)) && (p0.C == 0)))]
         [(6, .bool (((p0.A == 0) && (p0.B == 0)) && (p0.C == 0)))] mix hF (by kernel_rfl) (by kernel_rfl) (by kernel_rfl) ⟨Pd.mono_eq, Pd.mono_eq, Pd.mono_eq, trivial⟩ (fun hG => ⟨np_loadBox hG hF ty3 rfl rfl (hs.bx 0 rfl) rfl rfl rfl, np_loadBox hG hF ty3 rfl rfl (hs.bx 0 rfl) rfl rfl rfl, np_loadBox hG hF ty3 rfl rfl (hs.bx 0 rfl) rfl rfl rfl, trivial⟩) (by kernel_rfl) fun fr w17 hF hE hc => then_normal ?_)
     have hs := hs.ext hc
     have hM0 := hM0.ext hc
     have hs : Sep [] w17 S1 := Sep.pick [] hs (by decide) rfl
     obtain rfl := Option.some.inj h
     exact wp_ret (blk_ret (then_ret (ret1 rfl hF rfl ⟨_, rfl, rfl, hM0.chg⟩)))
   replace h := iteF hb h
   have hs : Sep [] w2 S1 := Sep.pick [] hs (by decide) rfl
   refine (wp_skip ?_)
   refine blk_normal (then_normal ?_)
   refine wp_seq (wp_pure [(6, .bool false)] hF (by kernel_rfl) fun fr hF => then_normal ?_)
   obtain rfl := Option.some.inj h
   exact wp_ret (ret1 rfl hF rfl ⟨_, rfl, rfl, hM0.chg⟩)
 replace h := iteF hb h
 refine wp_seq (wp_pure [(3, B b1 0), (7, .bool x1), (13, I p0.Op), (30, .bool (p0.Op == 7))] hF (by kernel_rfl) fun fr hF => then_normal ?_)
 refine (wp_merge [(3, B b1 0), (7, .bool x1), (13, I p0.Op), (30, .bool ((p0.Op == 7) || (p0.Op == 8)))] hF (b := (p0.Op == 7)) rfl (fun hb => ?_) (fun hb => ?_) fun fr hF => then_normal ?_)
 · exact wp_skip ⟨rfl, rfl, (hF.sub [(3, B b1 0), (7, .bool x1), (13, I p0.Op), (30, .bool (p0.Op == 7))] (by kernel_rfl)).eqs (by first | (simp only [hb]; done) | (simp only [hb]; rfl))⟩
 · exact wp_pure [(3, B b1 0), (7, .bool x1), (13, I p0.Op), (30, .bool (p0.Op == 8))] hF (by kernel_rfl) fun fr hF => ⟨rfl, rfl, hF.eqs (by first | (simp only [hb]; done) | (simp only [hb]; rfl))⟩
 refine (wp_if hF (b := ((p0.Op == 7) || (p0.Op == 8))) rfl (fun hb => ?_) (fun hb => ?_))
 · replace h := iteT hb h
   obtain ⟨x15, hx15, h⟩ := bindE h
   obtain ⟨x16, hx16, h⟩ := bindE h
   refine wp_seq (region_b [] [true, false, false, true, true, false, false, true, true, true, false, true, true, true]
       [.eq (B b1 1), .eq (I p0.A), .eq (.bool x15), .eq (.bool x15), .eq (B b1 2), .eq (I p0.B), .eq (.bool x16), .eq (.bool (x15 && x16)), .eq (.bool (x15 && x16)), .eq (B b1 3), .eq (I p0.C), .eq (.bool (p0.C == 0)), .eq (.bool ((x15 && x16) && (p0.C == 0))), .eq (.bool ((x15 && x16) && (p0.C == 0)))]
       [(6, .bool ((x15 && x16) && (p0.C == 0)))] mix hF (by kernel_rfl) (by kernel_rfl) (by kernel_rfl) ⟨Pd.mono_eq, Pd.mono_eq, Pd.mono_eq, Pd.mono_eq, Pd.mono_eq, trivial⟩ (fun hG => ⟨np_loadBox hG hF ty3 rfl rfl (hs.bx 0 rfl) rfl rfl rfl, np_call [I p0.A] hG hF Tryz.call53 rfl rfl (fun w hC hg => (spec_l05Reg_ok p0.A hx15).mono fun e w' ⟨v, he, hv, hc⟩ => ⟨v, he, hc, hv⟩), np_loadBox hG hF ty3 rfl rfl (hs.bx 0 rfl) rfl rfl rfl, np_call [I p0.B] hG hF Tryz.call53 rfl rfl (fun w hC hg => (spec_l05Reg_ok p0.B (iteT hg.2 hx16)).mono fun e w' ⟨v, he, hv, hc⟩ => ⟨v, he, hc, hv⟩), np_loadBox hG hF ty3 rfl rfl (hs.bx 0 rfl) rfl rfl rfl, trivial⟩) (by kernel_rfl) fun fr w18 hF hE hc => then_normal ?_)
   have hs := hs.ext hc
   have hM0 := hM0.ext hc
   have hs : Sep [] w18 S1 := Sep.pick [] hs (by decide) rfl
   obtain rfl := Option.some.inj h
   exact wp_ret (blk_ret (then_ret (ret1 rfl hF rfl ⟨_, rfl, rfl, hM0.chg⟩)))
 replace h := iteF hb h
 refine wp_seq (wp_pure [(3, B b1 0), (7, .bool x1), (13, I p0.Op), (47, .bool (p0.Op == 3))] hF (by kernel_rfl) fun fr hF => then_normal ?_)
 refine (wp_if hF (b := (p0.Op == 3)) rfl (fun hb => ?_) (fun hb => ?_))
 · replace h := iteT hb h
   obtain ⟨x17, hx17, h⟩ := bindE h
   obtain ⟨x18, hx18, h⟩ := bindE h
   obtain ⟨x19, hx19, h⟩ := bindE h
   refine wp_seq (region_b [] [true, false, false, true, true, false, false, true, true, true, false, false, true, true]
       [.eq (B b1 1), .eq (I p0.A), .eq (.bool x17), .eq (.bool x17), .eq (B b1 2), .eq (I p0.B), .eq (.bool x18), .eq (.bool (x17 && x18)), .eq (.bool (x17 && x18)), .eq (B b1 3), .eq (I p0.C), .eq (.bool x19), .eq (.bool ((x17 && x18) && x19)), .eq (.bool ((x17 && x18) && x19))]
       [(6, .bool ((x17 && x18) && x19))] mix hF (by kernel_rfl) (by kernel_rfl) (by kernel_rfl) ⟨Pd.mono_eq, Pd.mono_eq, Pd.mono_eq, Pd.mono_eq, Pd.mono_eq, Pd.mono_eq, trivial⟩ (fun hG => ⟨np_loadBox hG hF ty3 rfl rfl (hs.bx 0 rfl) rfl rfl rfl, np_call [I p0.A] hG hF Tryz.call53 rfl rfl (fun w hC hg => (spec_l05Reg_ok p0.A hx17).mono fun e w' ⟨v, he, hv, hc⟩ => ⟨v, he, hc, hv⟩), np_loadBox hG hF ty3 rfl rfl (hs.bx 0 rfl) rfl rfl rfl, np_call [I p0.B] hG hF Tryz.call53 rfl rfl (fun w hC hg => (spec_l05Reg_ok p0.B (iteT hg.2 hx18)).mono fun e w' ⟨v, he, hv, hc⟩ => ⟨v, he, hc, hv⟩), np_loadBox hG hF ty3 rfl rfl (hs.bx 0 rfl) rfl rfl rfl, np_call [I p0.C, I 3, I 16] hG hF Tryz.call10 rfl rfl (fun w hC hg => (spec_l01In_ok p0.C 3 16 (iteT hg.2 hx19)).mono fun e w' ⟨v, he, hv, hc⟩ => ⟨v, he, hc, hv⟩), trivial⟩) (by kernel_rfl) fun fr w19 hF hE hc => then_normal ?_)
   have hs := hs.ext hc
   have hM0 := hM0.ext hc
   have hs : Sep [] w19 S1 := Sep.pick [] hs (by decide) rfl
   obtain rfl := Option.some.inj h
   exact wp_ret (blk_ret (then_ret (ret1 rfl hF rfl ⟨_, rfl, rfl, hM0.chg⟩)))
 replace h := iteF hb h
 refine wp_seq ?_
 refine wp_seq (wp_pure [(3, B b1 0), (7, .bool x1), (13, I p0.Op), (62, .bool (p0.Op == 4))] hF (by kernel_rfl) fun fr hF => then_normal ?_)
 refine (wp_if hF (b := (p0.Op == 4)) rfl (fun hb => ?_) (fun hb => ?_))
 · replace h := iteT hb h
   refine (wp_skip (then_normal ?_))
   refine (wp_if hF (b := (p0.Op == 4)) rfl (fun hb => ?_) (fun hb => ?_))
   · replace h := iteT hb h
     obtain ⟨x20, hx20, h⟩ := bindE h
     refine wp_seq (region_b [] [true, false, false, true, true, false, true, true, true, true, false, true, true, true]
         [.eq (B b1 1), .eq (I p0.A), .eq (.bool x20), .eq (.bool x20), .eq (B b1 2), .eq (I p0.B), .eq (.bool (p0.B == 0)), .eq (.bool (x20 && (p0.B == 0))), .eq (.bool (x20 && (p0.B == 0))), .eq (B b1 3), .eq (I p0.C), .eq (.bool (p0.C == 0)), .eq (.bool ((x20 && (p0.B == 0)) && (p0.C == 0))), .eq (.bool ((x20 && (p0.B == 0)) && (p0.C == 0)))]
         [(6, .bool ((x20 && (p0.B == 0)) && (p0.C == 0)))] mix hF (by kernel_rfl) (by kernel_rfl) (by kernel_rfl) ⟨Pd.mono_eq, Pd.mono_eq, Pd.mono_eq, Pd.mono_eq, trivial⟩ (fun hG => ⟨np_loadBox hG hF ty3 rfl rfl (hs.bx 0 rfl) rfl rfl rfl, np_call [I p0.A] hG hF Tryz.call53 rfl rfl (fun w hC hg => (spec_l05Reg_ok p0.A hx20).mono fun e w' ⟨v, he, hv, hc⟩ => ⟨v, he, hc, hv⟩), np_loadBox hG hF ty3 rfl rfl (hs.bx 0 rfl) rfl rfl rfl, np_loadBox hG hF ty3 rfl rfl (hs.bx 0 rfl) rfl rfl rfl, trivial⟩) (by kernel_rfl) fun fr w20 hF hE hc => then_normal ?_)
     have hs := hs.ext hc
     have hM0 := hM0.ext hc
     have hs : Sep [] w20 S1 := Sep.pick [] hs (by decide) rfl
     obtain rfl := Option.some.inj h
     exact wp_ret (blk_ret (then_ret (ret1 rfl hF rfl ⟨_, rfl, rfl, hM0.chg⟩)))
   replace h := iteF hb h
   refine wp_seq ?_
   refine wp_seq (wp_pure [(3, B b1 0), (7, .bool x1), (13, I p0.Op), (80, .bool (p0.Op == 9))] hF (by kernel_rfl) fun fr hF => then_normal ?_)
   refine (wp_merge [(3, B b1 0), (7, .bool x1), (13, I p0.Op), (80, .bool ((p0.Op == 9) || (p0.Op == 11)))] hF (b := (p0.Op == 9)) rfl (fun hb => ?_) (fun hb => ?_) fun fr hF => then_normal ?_)
   · exact wp_skip ⟨rfl, rfl, (hF.sub [(3, B b1 0), (7, .bool x1), (13, I p0.Op), (80, .bool (p0.Op == 9))] (by kernel_rfl)).eqs (by first | (simp only [hb]; done) | (simp only [hb]; rfl))⟩
   · exact wp_pure [(3, B b1 0), (7, .bool x1), (13, I p0.Op), (80, .bool (p0.Op == 11))] hF (by kernel_rfl) fun fr hF => ⟨rfl, rfl, hF.eqs (by first | (simp only [hb]; done) | (simp only [hb]; rfl))⟩
   refine (wp_if hF (b := ((p0.Op == 9) || (p0.Op == 11))) rfl (fun hb => ?_) (fun hb => ?_))
   · replace h := iteT hb h
     refine wp_seq (region_b [] [true, false, true, true, true, true, true, true, false, true, true, true]
         [.eq (B b1 1), .eq (I p0.A), .eq (.bool (p0.A == 0)), .eq (.bool (p0.A == 0)), .eq (.bool x1), .eq (.bool ((p0.A == 0) && x1)), .eq (.bool ((p0.A == 0) && x1)), .eq (B b1 3), .eq (I p0.C), .eq (.bool (p0.C == 0)), .eq (.bool (((p0.A == 0) && x1) && (p0.C == 0))), .eq (.bool (((p0.A == 0) && x1) && (p0.C == 0)))]
         [(6, .bool (((p0.A == 0) && x1) && (p0.C == 0)))] mix hF (by kernel_rfl) (by kernel_rfl) (by kernel_rfl) ⟨Pd.mono_eq, Pd.mono_eq, trivial⟩ (fun hG => ⟨np_loadBox hG hF ty3 rfl rfl (hs.bx 0 rfl) rfl rfl rfl, np_loadBox hG hF ty3 rfl rfl (hs.bx 0 rfl) rfl rfl rfl, trivial⟩) (by kernel_rfl) fun fr w21 hF hE hc => then_normal ?_)
     have hs := hs.ext hc
     have hM0 := hM0.ext hc
     have hs : Sep [] w21 S1 := Sep.pick [] hs (by decide) rfl
     obtain rfl := Option.some.inj h
     exact wp_ret (blk_ret (then_ret (ret1 rfl hF rfl ⟨_, rfl, rfl, hM0.chg⟩)))
   replace h := iteF hb h
   refine wp_seq (wp_pure [(3, B b1 0), (7, .bool x1), (13, I p0.Op), (94, .bool (p0.Op == 10))] hF (by kernel_rfl) fun fr hF => then_normal ?_)
   refine (wp_if hF (b := (p0.Op == 10)) rfl (fun hb => ?_) (fun hb => ?_))
   · replace h := iteT hb h
     obtain ⟨x21, hx21, h⟩ := bindE h
     refine wp_seq (region_b [] [true, false, false, true, true, true, true, true, false, true, true, true]
         [.eq (B b1 1), .eq (I p0.A), .eq (.bool x21), .eq (.bool x21), .eq (.bool x1), .eq (.bool (x21 && x1)), .eq (.bool (x21 && x1)), .eq (B b1 3), .eq (I p0.C), .eq (.bool (p0.C == 0)), .eq (.bool ((x21 && x1) && (p0.C == 0))), .eq (.bool ((x21 && x1) && (p0.C == 0)))]
         [(6, .bool ((x21 && x1) && (p0.C == 0)))] mix hF (by kernel_rfl) (by kernel_rfl) (by kernel_rfl) ⟨Pd.mono_eq, Pd.mono_eq, Pd.mono_eq, trivial⟩ (fun hG => ⟨np_loadBox hG hF ty3 rfl rfl (hs.bx 0 rfl) rfl rfl rfl, np_call [I p0.A] hG hF Tryz.call53 rfl rfl (fun w hC hg => (spec_l05Reg_ok p0.A hx21).mono fun e w' ⟨v, he, hv, hc⟩ => ⟨v, he, hc, hv⟩), np_loadBox hG hF ty3 rfl rfl (hs.bx 0 rfl) rfl rfl rfl, trivial⟩) (by kernel_rfl) fun fr w22 hF hE hc => then_normal ?_)
     have hs := hs.ext hc
     have hM0 := hM0.ext hc
     have hs : Sep [] w22 S1 := Sep.pick [] hs (by decide) rfl
     obtain rfl := Option.some.inj h
     exact wp_ret (blk_ret (then_ret (ret1 rfl hF rfl ⟨_, rfl, rfl, hM0.chg⟩)))
   replace h := iteF hb h
   refine wp_seq ?_
   refine wp_seq (wp_pure [(3, B b1 0), (13, I p0.Op), (107, .bool (p0.Op == 12))] hF (by kernel_rfl) fun fr hF => then_normal ?_)
   refine (wp_merge [(3, B b1 0), (107, .bool ((p0.Op == 12) || (p0.Op == 14)))] hF (b := (p0.Op == 12)) rfl (fun hb => ?_) (fun hb => ?_) fun fr hF => then_normal ?_)
   · exact wp_skip ⟨rfl, rfl, (hF.sub [(3, B b1 0), (107, .bool (p0.Op == 12))] (by kernel_rfl)).eqs (by first | (simp only [hb]; done) | (simp only [hb]; rfl))⟩
   · exact wp_pure [(3, B b1 0), (107, .bool (p0.Op == 14))] hF (by kernel_rfl) fun fr hF => ⟨rfl, rfl, hF.eqs (by first | (simp only [hb]; done) | (simp only [hb]; rfl))⟩
   refine (wp_if hF (b := ((p0.Op == 12) || (p0.Op == 14))) rfl (fun hb => ?_) (fun hb => ?_))
   · replace h := iteT hb h
     refine wp_seq (region_b [] [true, false, true, true, true, false, true, true, true, true, false, true, true, true]
         [.eq (B b1 1), .eq (I p0.A), .eq (.bool (p0.A == 0)), .eq (.bool (p0.A == 0)), .eq (B b1 2), .eq (I p0.B), .eq (.bool (p0.B == 0)), .eq (.bool ((p0.A == 0) && (p0.B == 0))), .eq (.bool ((p0.A == 0) && (p0.B == 0))), .eq (B b1 3), .eq (I p0.C), .eq (.bool (p0.C == 0)), .eq (.bool (((p0.A == 0) && (p0.B == 0)) && (p0.C == 0))), .eq (.bool (((p0.A == 0) && (p0.B == 0)) && (p0.C == 0)))]
         [(6, .bool (((p0.A == 0) && (p0.B == 0)) && (p0.C == 0)))] mix hF (by kernel_rfl) (by kernel_rfl) (by kernel_rfl) ⟨Pd.mono_eq, Pd.mono_eq, Pd.mono_eq, trivial⟩ (fun hG => ⟨np_loadBox hG hF ty3 rfl rfl (hs.bx 0 rfl) rfl rfl rfl, np_loadBox hG hF ty3 rfl rfl (hs.bx 0 rfl) rfl rfl rfl, np_loadBox hG hF ty3 rfl rfl (hs.bx 0 rfl) rfl rfl rfl, trivial⟩) (by kernel_rfl) fun fr w23 hF hE hc => then_normal ?_)
     have hs := hs.ext hc
     have hM0 := hM0.ext hc
     have hs : Sep [] w23 S1 := Sep.pick [] hs (by decide) rfl
     obtain rfl := Option.some.inj h
     exact wp_ret (blk_ret (then_ret (ret1 rfl hF rfl ⟨_, rfl, rfl, hM0.chg⟩)))
   replace h := iteF hb h
   have hs : Sep [] w2 S1 := Sep.pick [] hs (by decide) rfl
   refine (wp_skip ?_)
   refine blk_normal (then_normal ?_)
   refine wp_seq (wp_pure [(6, .bool false)] hF (by kernel_rfl) fun fr hF => then_normal ?_)
   obtain rfl := Option.some.inj h
   exact wp_ret (ret1 rfl hF rfl ⟨_, rfl, rfl, hM0.chg⟩)
 replace h := iteF hb h
 refine wp_seq (wp_pure [(3, B b1 0), (7, .bool x1), (13, I p0.Op), (62, .bool (p0.Op == 5))] hF (by kernel_rfl) fun fr hF => then_normal ?_)
 refine (wp_if hF (b := (p0.Op == 5)) rfl (fun hb => ?_) (fun hb => ?_))
 · replace h := iteT hb h
   refine (wp_skip (then_normal ?_))
   refine (wp_if hF (b := (p0.Op == 5)) rfl (fun hb => ?_) (fun hb => ?_))
   · replace h := iteT hb h
     obtain ⟨x22, hx22, h⟩ := bindE h
     refine wp_seq (region_b [] [true, false, false, true, true, false, true, true, true, true, false, true, true, true]
         [.eq (B b1 1), .eq (I p0.A), .eq (.bool x22), .eq (.bool x22), .eq (B b1 2), .eq (I p0.B), .eq (.bool (p0.B == 0)), .eq (.bool (x22 && (p0.B == 0))), .eq (.bool (x22 && (p0.B == 0))), .eq (B b1 3), .eq (I p0.C), .eq (.bool (p0.C == 0)), .eq (.bool ((x22 && (p0.B == 0)) && (p0.C == 0))), .eq (.bool ((x22 && (p0.B == 0)) && (p0.C == 0)))]
         [(6, .bool ((x22 && (p0.B == 0)) && (p0.C == 0)))] mix hF (by kernel_rfl) (by kernel_rfl) (by kernel_rfl) ⟨Pd.mono_eq, Pd.mono_eq, Pd.mono_eq, Pd.mono_eq, trivial⟩ (fun hG => ⟨np_loadBox hG hF ty3 rfl rfl (hs.bx 0 rfl) rfl rfl rfl, np_call [I p0.A] hG hF Tryz.call53 rfl rfl (fun w hC hg => (spec_l05Reg_ok p0.A hx22).mono fun e w' ⟨v, he, hv, hc⟩ => ⟨v, he, hc, hv⟩), np_loadBox hG hF ty3 rfl rfl (hs.bx 0 rfl) rfl rfl rfl, np_loadBox hG hF ty3 rfl rfl (hs.bx 0 rfl) rfl rfl rfl, trivial⟩) (by kernel_rfl) fun fr w24 hF hE hc => then_normal ?_)
     have hs := hs.ext hc
     have hM0 := hM0.ext hc
     have hs : Sep [] w24 S1 := Sep.pick [] hs (by decide) rfl
     obtain rfl := Option.some.inj h
     exact wp_ret (blk_ret (then_ret (ret1 rfl hF rfl ⟨_, rfl, rfl, hM0.chg⟩)))
   replace h := iteF hb h
   refine wp_seq ?_
   refine wp_seq (wp_pure [(3, B b1 0), (7, .bool x1), (13, I p0.Op), (80, .bool (p0.Op == 9))] hF (by kernel_rfl) fun fr hF => then_normal ?_)
   refine (wp_merge [(3, B b1 0), (7, .bool x1), (13, I p0.Op), (80, .bool ((p0.Op == 9) || (p0.Op == 11)))] hF (b := (p0.Op == 9)) rfl (fun hb => ?_) (fun hb => ?_) fun fr hF => then_normal ?_)
   · exact wp_skip ⟨rfl, rfl, (hF.sub [(3, B b1 0), (7, .bool x1), (13, I p0.Op), (80, .bool (p0.Op == 9))] (by kernel_rfl)).eqs (by first | (simp only [hb]; done) | (simp only [hb]; rfl))⟩
   · exact wp_pure [(3, B b1 0), (7, .bool x1), (13, I p0.Op), (80, .bool (p0.Op == 11))] hF (by kernel_rfl) fun fr hF => ⟨rfl, rfl, hF.eqs (by first | (simp only [hb]; done) | (simp only [hb]; rfl))⟩
   refine (wp_if hF (b := ((p0.Op == 9) || (p0.Op == 11))) rfl (fun hb => ?_) (fun hb => ?_))
   · replace h := iteT hb h
     refine wp_seq (region_b [] [true, false, true, true, true, true, true, true, false, true, true, true]
         [.eq (B b1 1), .eq (I p0.A), .eq (.bool (p0.A == 0)), .eq (.bool (p0.A == 0)), .eq (.bool x1), .eq (.bool ((p0.A == 0) && x1)), .eq (.bool ((p0.A == 0) && x1)), .eq (B b1 3), .eq (I p0.C), .eq (.bool (p0.C == 0)), .eq (.bool (((p0.A == 0) && x1) && (p0.C == 0))), .eq (.bool (((p0.A == 0) && x1) && (p0.C == 0)))]
         [(6, .bool (((p0.A == 0) && x1) && (p0.C == 0)))] mix hF (by kernel_rfl) (by kernel_rfl) (by kernel_rfl) ⟨Pd.mono_eq, Pd.mono_eq, trivial⟩ (fun hG => ⟨np_loadBox hG hF ty3 rfl rfl (hs.bx 0 rfl) rfl rfl rfl, np_loadBox hG hF ty3 rfl rfl (hs.bx 0 rfl) rfl rfl rfl, trivial⟩) (by kernel_rfl) fun fr w25 hF hE hc => then_normal ?_)
     have hs := hs.ext hc
     have hM0 := hM0.ext hc
     have hs : Sep [] w25 S1 := Sep.pick [] hs (by decide) rfl
     obtain rfl := Option.some.inj h
     exact wp_ret (blk_ret (then_ret (ret1 rfl hF rfl ⟨_, rfl, rfl, hM0.chg⟩)))
   replace h := iteF hb h
   refine wp_seq (wp_pure [(3, B b1 0), (7, .bool x1), (13, I p0.Op), (94, .bool (p0.Op == 10))] hF (by kernel_rfl) fun fr hF => then_normal ?_)
   refine (wp_if hF (b := (p0.Op == 10)) rfl (fun hb => ?_) (fun hb => ?_))
   · replace h := iteT hb h
     obtain ⟨x23, hx23, h⟩ := bindE h
     refine wp_seq (region_b [] [true, false, false, true, true, true, true, true, false, true, true, true]
         [.eq (B b1 1), .eq (I p0.A), .eq (.bool x23), .eq (.bool x23), .eq (.bool x1), .eq (.bool (x23 && x1)), .eq (.bool (x23 && x1)), .eq (B b1 3), .eq (I p0.C), .eq (.bool (p0.C == 0)), .eq (.bool ((x23 && x1) && (p0.C == 0))), .eq (.bool ((x23 && x1) && (p0.C == 0)))]
         [(6, .bool ((x23 && x1) && (p0.C == 0)))] mix hF (by kernel_rfl) (by kernel_rfl) (by kernel_rfl) ⟨Pd.mono_eq, Pd.mono_eq, Pd.mono_eq, trivial⟩ (fun hG => ⟨np_loadBox hG hF ty3 rfl rfl (hs.bx 0 rfl) rfl rfl rfl, np_call [I p0.A] hG hF Tryz.call53 rfl rfl (fun w hC hg => (spec_l05Reg_ok p0.A hx23).mono fun e w' ⟨v, he, hv, hc⟩ => ⟨v, he, hc, hv⟩), np_loadBox hG hF ty3 rfl rfl (hs.bx 0 rfl) rfl rfl rfl, trivial⟩) (by kernel_rfl) fun fr w26 hF hE hc => then_normal ?_)
     have hs := hs.ext hc
     have hM0 := hM0.ext hc
     have hs : Sep [] w26 S1 := Sep.pick [] hs (by decide) rfl
     obtain rfl := Option.some.inj h
     exact wp_ret (blk_ret (then_ret (ret1 rfl hF rfl ⟨_, rfl, rfl, hM0.chg⟩)))
   replace h := iteF hb h
   refine wp_seq ?_
   refine wp_seq (wp_pure [(3, B b1 0), (13, I p0.Op), (107, .bool (p0.Op == 12))] hF (by kernel_rfl) fun fr hF => then_normal ?_)
   refine (wp_merge [(3, B b1 0), (107, .bool ((p0.Op == 12) || (p0.Op == 14)))] hF (b := (p0.Op == 12)) rfl (fun hb => ?_) (fun hb => ?_) fun fr hF => then_normal ?_)
   · exact wp_skip ⟨rfl, rfl, (hF.sub [(3, B b1 0), (107, .bool (p0.Op == 12))] (by kernel_rfl)).eqs (by first | (simp only [hb]; done) | (simp only [hb]; rfl))⟩
   · exact wp_pure [(3, B b1 0), (107, .bool (p0.Op == 14))] hF (by kernel_rfl) fun fr hF => ⟨rfl, rfl, hF.eqs (by first | (simp only [hb]; done) | (simp only [hb]; rfl))⟩
   refine (wp_if hF (b := ((p0.Op == 12) || (p0.Op == 14))) rfl (fun hb => ?_) (fun hb => ?_))
   · replace h := iteT hb h
     refine wp_seq (region_b [] [true, false, true, true, true, false, true, true, true, true, false, true, true, true]
         [.eq (B b1 1), .eq (I p0.A), .eq (.bool (p0.A == 0)), .eq (.bool (p0.A == 0)), .eq (B b1 2), .eq (I p0.B), .eq (.bool (p0.B == 0)), .eq (.bool ((p0.A == 0) && (p0.B == 0))), .eq (.bool ((p0.A == 0) && (p0.B == 0))), .eq (B b1 3), .eq (I p0.C), .eq (.bool (p0.C == 0)), .eq (.bool (((p0.A == 0) && (p0.B == 0)) && (p0.C == 0))), .eq (.bool (((p0.A == 0) && (p0.B == 0)) && (p0.C == 0)))]
         [(6, .bool (((p0.A == 0) && (p0.B == 0)) && (p0.C == 0)))] mix hF (by kernel_rfl) (by kernel_rfl) (by kernel_rfl) ⟨Pd.mono_eq, Pd.mono_eq, Pd.mono_eq, trivial⟩ (fun hG => ⟨np_loadBox hG hF ty3 rfl rfl (hs.bx 0 rfl) rfl rfl rfl, np_loadBox hG hF ty3 rfl rfl (hs.bx 0 rfl) rfl rfl rfl, np_loadBox hG hF ty3 rfl rfl (hs.bx 0 rfl) rfl rfl rfl, trivial⟩) (by kernel_rfl) fun fr w27 hF hE hc => then_normal ?_)
     have hs := hs.ext hc
     have hM0 := hM0.ext hc
     have hs : Sep [] w27 S1 := Sep.pick [] hs (by decide) rfl
     obtain rfl := Option.some.inj h
     exact wp_ret (blk_ret (then_ret (ret1 rfl hF rfl ⟨_, rfl, rfl, hM0.chg⟩)))
   replace h := iteF hb h
   have hs : Sep [] w2 S1 := Sep.pick [] hs (by decide) rfl
   refine (wp_skip ?_)
   refine blk_normal (then_normal ?_)
   refine wp_seq (wp_pure [(6, .bool false)] hF (by kernel_rfl) fun fr hF => then_normal ?_)
   obtain rfl := Option.some.inj h
   exact wp_ret (ret1 rfl hF rfl ⟨_, rfl, rfl, hM0.chg⟩)
 replace h := iteF hb h
 refine wp_seq (wp_pure [(3, B b1 0), (7, .bool x1), (13, I p0.Op), (62, .bool (p0.Op == 6))] hF (by kernel_rfl) fun fr hF => then_normal ?_)
 refine (wp_merge [(3, B b1 0), (7, .bool x1), (13, I p0.Op), (62, .bool ((p0.Op == 6) || (p0.Op == 13)))] hF (b := (p0.Op == 6)) rfl (fun hb => ?_) (fun hb => ?_) fun fr hF => then_normal ?_)
 · exact wp_skip ⟨rfl, rfl, (hF.sub [(3, B b1 0), (7, .bool x1), (13, I p0.Op), (62, .bool (p0.Op == 6))] (by kernel_rfl)).eqs (by first | (simp only [hb]; done) | (simp only [hb]; rfl))⟩
 · exact wp_pure [(3, B b1 0), (7, .bool x1), (13, I p0.Op), (62, .bool (p0.Op == 13))] hF (by kernel_rfl) fun fr hF => ⟨rfl, rfl, hF.eqs (by first | (simp only [hb]; done) | (simp only [hb]; rfl))⟩
 refine (wp_if hF (b := ((p0.Op == 6) || (p0.Op == 13))) rfl (fun hb => ?_) (fun hb => ?_))
 · replace h := iteT hb h
   obtain ⟨x24, hx24, h⟩ := bindE h
   refine wp_seq (region_b [] [true, false, false, true, true, false, true, true, true, true, false, true, true, true]
       [.eq (B b1 1), .eq (I p0.A), .eq (.bool x24), .eq (.bool x24), .eq (B b1 2), .eq (I p0.B), .eq (.bool (p0.B == 0)), .eq (.bool (x24 && (p0.B == 0))), .eq (.bool (x24 && (p0.B == 0))), .eq (B b1 3), .eq (I p0.C), .eq (.bool (p0.C == 0)), .eq (.bool ((x24 && (p0.B == 0)) && (p0.C == 0))), .eq (.bool ((x24 && (p0.B == 0)) && (p0.C == 0)))]
       [(6, .bool ((x24 && (p0.B == 0)) && (p0.C == 0)))] mix hF (by kernel_rfl) (by kernel_rfl) (by kernel_rfl) ⟨Pd.mono_eq, Pd.mono_eq, Pd.mono_eq, Pd.mono_eq, trivial⟩ (fun hG => ⟨np_loadBox hG hF ty3 rfl rfl (hs.bx 0 rfl) rfl rfl rfl, np_call [I p0.A] hG hF Tryz.call53 rfl rfl (fun w hC hg => (spec_l05Reg_ok p0.A hx24).mono fun e w' ⟨v, he, hv, hc⟩ => ⟨v, he, hc, hv⟩), np_loadBox hG hF ty3 rfl rfl (hs.bx 0 rfl) rfl rfl rfl, np_loadBox hG hF ty3 rfl rfl (hs.bx 0 rfl) rfl rfl rfl, trivial⟩) (by kernel_rfl) fun fr w28 hF hE hc => then_normal ?_)
   have hs := hs.ext hc
   have hM0 := hM0.ext hc
   have hs : Sep [] w28 S1 := Sep.pick [] hs (by decide) rfl
   obtain rfl := Option.some.inj h
   exact wp_ret (blk_ret (then_ret (ret1 rfl hF rfl ⟨_, rfl, rfl, hM0.chg⟩)))
 replace h := iteF hb h
 refine wp_seq ?_
 refine wp_seq (wp_pure [(3, B b1 0), (7, .bool x1), (13, I p0.Op), (80, .bool (p0.Op == 9))] hF (by kernel_rfl) fun fr hF => then_normal ?_)
 refine (wp_merge [(3, B b1 0), (7, .bool x1), (13, I p0.Op), (80, .bool ((p0.Op == 9) || (p0.Op == 11)))] hF (b := (p0.Op == 9)) rfl (fun hb => ?_) (fun hb => ?_) fun fr hF => then_normal ?_)
 · exact wp_skip ⟨rfl, rfl, (hF.sub [(3, B b1 0), (7, .bool x1), (13, I p0.Op), (80, .bool (p0.Op == 9))] (by kernel_rfl)).eqs (by first | (simp only [hb]; done) | (simp only [hb]; rfl))⟩
 · exact wp_pure [(3, B b1 0), (7, .bool x1), (13, I p0.Op), (80, .bool (p0.Op == 11))] hF (by kernel_rfl) fun fr hF => ⟨rfl, rfl, hF.eqs (by first | (simp only [hb]; done) | (simp only [hb]; rfl))⟩
 refine (wp_if hF (b := ((p0.Op == 9) || (p0.Op == 11))) rfl (fun hb => ?_) (fun hb => ?_))
 · replace h := iteT hb h
   refine wp_seq (region_b [] [true, false, true, true, true, true, true, true, false, true, true, true]
       [.eq (B b1 1), .eq (I p0.A), .eq (.bool (p0.A == 0)), .eq (.bool (p0.A == 0)), .eq (.bool x1), .eq (.bool ((p0.A == 0) && x1)), .eq (.bool ((p0.A == 0) && x1)), .eq (B b1 3), .eq (I p0.C), .eq (.bool (p0.C == 0)), .eq (.bool (((p0.A == 0) && x1) && (p0.C == 0))), .eq (.bool (((p0.A == 0) && x1) && (p0.C == 0)))]
       [(6, .bool (((p0.A == 0) && x1) && (p0.C == 0)))] mix hF (by kernel_rfl) (by kernel_rfl) (by kernel_rfl) ⟨Pd.mono_eq, Pd.mono_eq, trivial⟩ (fun hG => ⟨np_loadBox hG hF ty3 rfl rfl (hs.bx 0 rfl) rfl rfl rfl, np_loadBox hG hF ty3 rfl rfl (hs.bx 0 rfl) rfl rfl rfl, trivial⟩) (by kernel_rfl) fun fr w29 hF hE hc => then_normal ?_)
   have hs := hs.ext hc
   have hM0 := hM0.ext hc
   have hs : Sep [] w29 S1 := Sep.pick [] hs (by decide) rfl
   obtain rfl := Option.some.inj h
   exact wp_ret (blk_ret (then_ret (ret1 rfl hF rfl ⟨_, rfl, rfl, hM0.chg⟩)))
 replace h := iteF hb h
 refine wp_seq (wp_pure [(3, B b1 0), (7, .bool x1), (13, I p0.Op), (94, .bool (p0.Op == 10))] hF (by kernel_rfl) fun fr hF => then_normal ?_)
 refine (wp_if hF (b := (p0.Op == 10)) rfl (fun hb => ?_) (fun hb => ?_))
 · replace h := iteT hb h
   obtain ⟨x25, hx25, h⟩ := bindE h
   refine wp_seq (region_b [] [true, false, false, true, true, true, true, true, false, true, true, true]
       [.eq (B b1 1), .eq (I p0.A), .eq (.bool x25), .eq (.bool x25), .eq (.bool x1), .eq (.bool (x25 && x1)), .eq (.bool (x25 && x1)), .eq (B b1 3), .eq (I p0.C), .eq (.bool (p0.C == 0)), .eq (.bool ((x25 && x1) && (p0.C == 0))), .eq (.bool ((x25 && x1) && (p0.C == 0)))]
       [(6, .bool ((x25 && x1) && (p0.C == 0)))] mix hF (by kernel_rfl) (by kernel_rfl) (by kernel_rfl) ⟨Pd.mono_eq, Pd.mono_eq, Pd.mono_eq, trivial⟩ (fun hG => ⟨np_loadBox hG hF ty3 rfl rfl (hs.bx 0 rfl) rfl rfl rfl, np_call [I p0.A] hG hF Tryz.call53 rfl rfl (fun w hC hg => (spec_l05Reg_ok p0.A hx25).mono fun e w' ⟨v, he, hv, hc⟩ => ⟨v, he, hc, hv⟩), np_loadBox hG hF ty3 rfl rfl (hs.bx 0 rfl) rfl rfl rfl, trivial⟩) (by kernel_rfl) fun fr w30 hF hE hc => then_normal ?_)
   have hs := hs.ext hc
   have hM0 := hM0.ext hc
   have hs : Sep [] w30 S1 := Sep.pick [] hs (by decide) rfl
   obtain rfl := Option.some.inj h
   exact wp_ret (blk_ret (then_ret (ret1 rfl hF rfl ⟨_, rfl, rfl, hM0.chg⟩)))
 replace h := iteF hb h
 refine wp_seq ?_
 refine wp_seq (wp_pure [(3, B b1 0), (13, I p0.Op), (107, .bool (p0.Op == 12))] hF (by kernel_rfl) fun fr hF => then_normal ?_)
 refine (wp_merge [(3, B b1 0), (107, .bool ((p0.Op == 12) || (p0.Op == 14)))] hF (b := (p0.Op == 12)) rfl (fun hb => ?_) (fun hb => ?_) fun fr hF => then_normal ?_)
 · exact wp_skip ⟨rfl, rfl, (hF.sub [(3, B b1 0), (107, .bool (p0.Op == 12))] (by kernel_rfl)).eqs (by first | (simp only [hb]; done) | (simp only [hb]; rfl))⟩
 · exact wp_pure [(3, B b1 0), (107, .bool (p0.Op == 14))] hF (by kernel_rfl) fun fr hF => ⟨rfl, rfl, hF.eqs (by first | (simp only [hb]; done) | (simp only [hb]; rfl))⟩
 refine (wp_if hF (b := ((p0.Op == 12) || (p0.Op == 14))) rfl (fun hb => ?_) (fun hb => ?_))
 · replace h := iteT hb h
   refine wp_seq (region_b [] [true, false, true, true, true, false, true, true, true, true, false, true, true, true]
       [.eq (B b1 1), .eq (I p0.A), .eq (.bool (p0.A == 0)), .eq (.bool (p0.A == 0)), .eq (B b1 2), .eq (I p0.B), .eq (.bool (p0.B == 0)), .eq (.bool ((p0.A == 0) && (p0.B == 0))), .eq (.bool ((p0.A == 0) && (p0.B == 0))), .eq (B b1 3), .eq (I p0.C), .eq (.bool (p0.C == 0)), .eq (.bool (((p0.A == 0) && (p0.B == 0)) && (p0.C == 0))), .eq (.bool (((p0.A == 0) && (p0.B == 0)) && (p0.C == 0)))]
       [(6, .bool (((p0.A == 0) && (p0.B == 0)) && (p0.C == 0)))] mix hF (by kernel_rfl) (by kernel_rfl) (by kernel_rfl) ⟨Pd.mono_eq, Pd.mono_eq, Pd.mono_eq, trivial⟩ (fun hG => ⟨np_loadBox hG hF ty3 rfl rfl (hs.bx 0 rfl) rfl rfl rfl, np_loadBox hG hF ty3 rfl rfl (hs.bx 0 rfl) rfl rfl rfl, np_loadBox hG hF ty3 rfl rfl (hs.bx 0 rfl) rfl rfl rfl, trivial⟩) (by kernel_rfl) fun fr w31 hF hE hc => then_normal ?_)
   have hs := hs.ext hc
   have hM0 := hM0.ext hc
   have hs : Sep [] w31 S1 := Sep.pick [] hs (by decide) rfl
   obtain rfl := Option.some.inj h
   exact wp_ret (blk_ret (then_ret (ret1 rfl hF rfl ⟨_, rfl, rfl, hM0.chg⟩)))
 replace h := iteF hb h
 have hs : Sep [] w2 S1 := Sep.pick [] hs (by decide) rfl
 refine (wp_skip ?_)
 refine blk_normal (then_normal ?_)
 refine wp_seq (wp_pure [(6, .bool false)] hF (by kernel_rfl) fun fr hF => then_normal ?_)
 obtain rfl := Option.some.inj h
 exact wp_ret (ret1 rfl hF rfl ⟨_, rfl, rfl, hM0.chg⟩)

theorem spec_l05RegName_ok (n : Nat) (p0 : Int) {r : Str} (h : spec_l05RegName n p0 = some r) {w : World} :
   Calls Tryz.prog 52 [I p0].toArray w fun e w' => ∃ v, e = .returned v ∧ v = Str.val r ∧ Chg Non w w' := by
 unfold spec_l05RegName at h
 have hs := Sep.nil w Non
 have hM0 : Mem w Non (fun k => (False) ∧ k < w.heap.size) w Non (fun k => (False) ∧ k < w.heap.size) := Mem.start (fun _ h => h.elim) (fun _ h => h.2) (fun _ h => h.elim)
 refine enter (N := 6) Tryz.func52 rfl Tryz.ntmps52 rfl fun fr hF => ?_
 refine wp_seq (wp_pure [(0, I p0)] hF (by kernel_rfl) fun fr hF => then_normal ?_)
 refine wp_seq (wp_text' ?_)
 refine from_pure 1 [(3, I p0)] hF (by kernel_rfl) fun fr hF => ?_
 obtain ⟨x1, hx1, h⟩ := bindE h
 refine s_call [I p0] Tryz.call49 rfl rfl hF rfl (spec_FormatInt_ok n p0 hx1) fun v w1 fr hRes hF => ?_
 obtain ⟨rfl, hc⟩ := hRes
 have hs := hs.ext hc
 have hM0 := hM0.ext hc
 obtain ⟨x2, hx2, h⟩ := bindE h
 refine s_cat (s1 := (⟨[114]⟩)) (s2 := x1) rfl rfl hF rfl rfl hx2 fun fr hF => ?_
 refine from_pure 1 [(2, Str.val x2)] hF (by kernel_rfl) fun fr hF => ?_
 refine from_end rfl (then_normal ?_)
 obtain rfl := Option.some.inj h
 exact wp_ret (ret1 rfl hF rfl ⟨_, rfl, rfl, hM0.chg⟩)

theorem spec_FormatIns_ok (n : Nat) (p0 : D.Ins) (p1 : Int) (p2 : Int) {r : Str} (h : spec_FormatIns n p0 p1 p2 = some r) {w : World} :
   Calls Tryz.prog 30 [.agg #[I p0.Op, I p0.A, I p0.B, I p0.C], I p1, I p2].toArray w fun e w' => ∃ v, e = .returned v ∧ v = Str.val r ∧ Chg Non w w' := by
 unfold spec_FormatIns at h
 have hs := Sep.nil w Non
 have hM0 : Mem w Non (fun k => (False) ∧ k < w.heap.size) w Non (fun k => (False) ∧ k < w.heap.size) := Mem.start (fun _ h => h.elim) (fun _ h => h.2) (fun _ h => h.elim)
 refine enter (N := 74) Tryz.func30 rfl Tryz.ntmps30 rfl fun fr hF => ?_
 refine wp_seq (wp_text' ?_)
 refine q_box hs hM0 [I p0.Op, I p0.A, I p0.B, I p0.C] rfl rfl hF rfl rfl fun b1 w1 S1 fr hs hp hF => ?_
 have hM0 := hM0.stp hp
 have hs : Sep [BX b1 38 [I p0.Op, I p0.A, I p0.B, I p0.C]] w1 S1 := hs
 refine from_pure 1 [(1, I p1), (2, I p2), (3, B b1 0)] hF (by kernel_rfl) fun fr hF => ?_
 refine from_end rfl (then_normal ?_)
 refine wp_seq ?_
 obtain ⟨x1, hx1, h⟩ := bindE h
 obtain ⟨x2, hx2, h⟩ := bindE h
 obtain ⟨x3, hx3, h⟩ := bindE h
 refine wp_seq (region_b [] [true, false, true, true, true, false, true, true, true, false, true, true, false, true, true]
     [.eq (I p1), .eq (.bool x1), .eq (.bool (!x1)), .eq (.bool (!x1)), .eq (I p2), .eq (.bool x2), .eq (.bool (!x2)), .eq (.bool ((!x1) || (!x2))), .eq (.bool ((!x1) || (!x2))), .eq (.agg #[I p0.Op, I p0.A, I p0.B, I p0.C]), .eq (I p1), .eq (I p2), .eq (.bool x3), .eq (.bool (!x3)), .eq (.bool (((!x1) || (!x2)) || (!x3)))]
     [(3, B b1 0), (24, .bool (((!x1) || (!x2)) || (!x3)))] mix hF (by kernel_rfl) (by kernel_rfl) (by kernel_rfl) ⟨Pd.mono_eq, Pd.mono_eq, Pd.mono_eq, Pd.mono_eq, trivial⟩ (fun hG => ⟨np_call [I p1, I 2, I 8] hG hF Tryz.call10 rfl rfl (fun w hC hg => (spec_l01In_ok p1 2 8 hx1).mono fun e w' ⟨v, he, hv, hc⟩ => ⟨v, he, hc, hv⟩), np_call [I p2, I 1, I 40] hG hF Tryz.call10 rfl rfl (fun w hC hg => (spec_l01In_ok p2 1 40 (iteF hg.2 hx2)).mono fun e w' ⟨v, he, hv, hc⟩ => ⟨v, he, hc, hv⟩), np_loadBoxS hG hF ty38 rfl rfl (hs.bx 0 rfl) rfl rfl rfl rfl, np_call [.agg #[I p0.Op, I p0.A, I p0.B, I p0.C], I p1, I p2] hG hF Tryz.call32 rfl rfl (fun w hC hg => (spec_l05Ins_ok p0 p1 p2 (iteF hg.2 hx3)).mono fun e w' ⟨v, he, hv, hc⟩ => ⟨v, he, hc, hv⟩), trivial⟩) (by kernel_rfl) fun fr w2 hF hE hc => then_normal ?_)
 have hs := hs.ext hc
 have hM0 := hM0.ext hc
 refine (wp_if hF (b := (((!x1) || (!x2)) || (!x3))) rfl (fun hb => ?_) (fun hb => ?_))
 · replace h := iteT hb h
   have hs : Sep [] w2 S1 := Sep.pick [] hs (by decide) rfl
   refine wp_seq (wp_pure [(6, Str.val (⟨[]⟩))] hF (by kernel_rfl) fun fr hF => then_normal ?_)
   obtain rfl := Option.some.inj h
   exact wp_ret (then_ret (ret1 rfl hF rfl ⟨_, rfl, rfl, hM0.chg⟩))
 replace h := iteF hb h
 refine (wp_skip (then_normal ?_))
 refine wp_seq (wp_text' ?_)
 refine from_pure 1 [(3, B b1 0), (25, B b1 1)] hF (by kernel_rfl) fun fr hF => ?_
 refine s_loadBox (I p0.A) ty3 rfl rfl hF rfl (hs.bx 0 rfl) rfl rfl fun fr hF => ?_
 obtain ⟨x4, hx4, h⟩ := bindE h
 refine s_call [I p0.A] Tryz.call52 rfl rfl hF rfl (spec_l05RegName_ok n p0.A hx4) fun v w3 fr hRes hF => ?_
 obtain ⟨rfl, hc⟩ := hRes
 have hs := hs.ext hc
 have hM0 := hM0.ext hc
 refine from_pure 1 [(3, B b1 0), (7, Str.val x4)] hF (by kernel_rfl) fun fr hF => ?_
 refine from_end rfl (then_normal ?_)
 refine wp_seq (wp_text' ?_)
 refine from_pure 1 [(3, B b1 0), (7, Str.val x4), (28, B b1 2)] hF (by kernel_rfl) fun fr hF => ?_
 refine s_loadBox (I p0.B) ty3 rfl rfl hF rfl (hs.bx 0 rfl) rfl rfl fun fr hF => ?_
 obtain ⟨x5, hx5, h⟩ := bindE h
 refine s_call [I p0.B] Tryz.call49 rfl rfl hF rfl (spec_FormatInt_ok n p0.B hx5) fun v w4 fr hRes hF => ?_
 obtain ⟨rfl, hc⟩ := hRes
 have hs := hs.ext hc
 have hM0 := hM0.ext hc
 refine from_pure 1 [(3, B b1 0), (7, Str.val x4), (8, Str.val x5)] hF (by kernel_rfl) fun fr hF => ?_
 refine from_end rfl (then_normal ?_)
 refine wp_seq (wp_text' ?_)
 refine s_loadBoxS ty38 rfl rfl hF rfl (hs.bx 0 rfl) rfl rfl fun fr hF => ?_
 obtain ⟨x6, hx6, h⟩ := bindE h
 refine s_call [.agg #[I p0.Op, I p0.A, I p0.B, I p0.C]] Tryz.call27 rfl rfl hF rfl (spec_l05Word_ok p0 hx6) fun v w5 fr hRes hF => ?_
 obtain ⟨rfl, hc⟩ := hRes
 have hs := hs.ext hc
 have hM0 := hM0.ext hc
 refine q_lit (E := 9) hs hM0 [Str.val x6] (([x6] : List Str).map Flat.enc) ([x6] : List Str) rfl rfl hF [Str.val x6] rfl (fun w => by kernel_rfl) (css_flat _) rfl rfl rfl fun a1 c1 w6 S2 fr hs hp hF => ?_
 have hM0 := hM0.stp hp
 have hs : Sep [sl9 (L a1 ([x6] : List Str) c1) ([x6] : List Str), BX b1 38 [I p0.Op, I p0.A, I p0.B, I p0.C]] w6 S2 := hs
 refine from_pure 1 [(3, B b1 0), (7, Str.val x4), (8, Str.val x5), (9, L a1 ([x6] : List Str) c1)] hF (by kernel_rfl) fun fr hF => ?_
 refine from_end rfl (then_normal ?_)
 refine wp_seq ?_
 refine wp_seq (wp_text' ?_)
 refine from_pure 1 [(3, B b1 0), (7, Str.val x4), (8, Str.val x5), (9, L a1 ([x6] : List Str) c1), (34, B b1 0)] hF (by kernel_rfl) fun fr hF => ?_
 refine s_loadBox (I p0.Op) ty3 rfl rfl hF rfl (hs.bx 1 rfl) rfl rfl fun fr hF => ?_
 refine from_end rfl (then_normal ?_)
 refine (wp_block ?_)
 refine wp_seq ?_
 refine wp_seq (wp_pure [(3, B b1 0), (7, Str.val x4), (8, Str.val x5), (9, L a1 ([x6] : List Str) c1), (35, I p0.Op), (36, .bool (p0.Op == 1))] hF (by kernel_rfl) fun fr hF => then_normal ?_)
 refine (wp_merge [(3, B b1 0), (7, Str.val x4), (8, Str.val x5), (9, L a1 ([x6] : List Str) c1), (35, I p0.Op), (36, .bool ((p0.Op == 1) || (p0.Op == 10)))] hF (b := (p0.Op == 1)) rfl (fun hb => ?_) (fun hb => ?_) fun fr hF => then_normal ?_)
 · exact wp_skip ⟨rfl, rfl, (hF.sub [(3, B b1 0), (7, Str.val x4), (8, Str.val x5), (9, L a1 ([x6] : List Str) c1), (35, I p0.Op), (36, .bool (p0.Op == 1))] (by kernel_rfl)).eqs (by first | (simp only [hb]; done) | (simp only [hb]; rfl))⟩
 · exact wp_pure [(3, B b1 0), (7, Str.val x4), (8, Str.val x5), (9, L a1 ([x6] : List Str) c1), (35, I p0.Op), (36, .bool (p0.Op == 10))] hF (by kernel_rfl) fun fr hF => ⟨rfl, rfl, hF.eqs (by first | (simp only [hb]; done) | (simp only [hb]; rfl))⟩
 refine (wp_if hF (b := ((p0.Op == 1) || (p0.Op == 10))) rfl (fun hb => ?_) (fun hb => ?_))
 · replace h := iteT hb h
   have hs : Sep [sl9 (L a1 ([x6] : List Str) c1) ([x6] : List Str)] w6 S2 := Sep.pick [0] hs (by decide) rfl
   refine (wp_text' ?_)
   refine from_pure 3 [(39, L a1 ([x6] : List Str) c1), (40, Str.val x4), (41, Str.val x5)] hF (by kernel_rfl) fun fr hF => ?_
   refine q_lit (E := 9) hs hM0 [Str.val x4, Str.val x5] (([x4, x5] : List Str).map Flat.enc) ([x4, x5] : List Str) rfl rfl hF [Str.val x4, Str.val x5] rfl (fun w => by kernel_rfl) (css_flat _) rfl rfl rfl fun a2 c2 w7 S3 fr hs hp hF => ?_
   have hM0 := hM0.stp hp
   have hs : Sep [sl9 (L a2 ([x4, x5] : List Str) c2) ([x4, x5] : List Str), sl9 (L a1 ([x6] : List Str) c1) ([x6] : List Str)] w7 S3 := hs
   obtain ⟨x7, hx7, h⟩ := bindE h
   refine q_append 1 hs hM0 rfl Tryz.underlying30 el9 rfl rfl rfl hF rfl rfl (hs.rv 0 rfl) hx7 fun a3 c3 w8 S4 fr hs hp hF => ?_
   have hM0 := hM0.stp hp
   have hs : Sep [sl9 (L a2 ([x4, x5] : List Str) c2) ([x4, x5] : List Str), sl9 (L a3 x7 c3) x7] w8 S4 := hs
   have hs : Sep [sl9 (L a3 x7 c3) x7] w8 S4 := Sep.pick [1] hs (by decide) rfl
   refine from_pure 1 [(9, L a3 x7 c3)] hF (by kernel_rfl) fun fr hF => ?_
   refine from_end rfl ?_
   refine blk_normal (then_normal ?_)
   refine wp_seq (wp_text' ?_)
   refine from_pure 1 [(72, L a3 x7 c3)] hF (by kernel_rfl) fun fr hF => ?_
   obtain ⟨x8, hx8, h⟩ := bindE h
   refine s_call [L a3 x7 c3, Str.val (⟨[32]⟩)] Tryz.call13 rfl rfl hF rfl (spec_Join_ok n x7 (⟨[32]⟩) hx8 (hs.rv 0 rfl)) fun v w9 fr hRes hF => ?_
   obtain ⟨rfl, hc⟩ := hRes
   have hs := hs.ext hc
   have hM0 := hM0.ext hc
   have hs : Sep [] w9 S4 := Sep.pick [] hs (by decide) rfl
   refine from_pure 1 [(6, Str.val x8)] hF (by kernel_rfl) fun fr hF => ?_
   refine from_end rfl (then_normal ?_)
   obtain rfl := Option.some.inj h
   exact wp_ret (ret1 rfl hF rfl ⟨_, rfl, rfl, hM0.chg⟩)
 replace h := iteF hb h
 refine wp_seq ?_
 refine wp_seq (wp_pure [(3, B b1 0), (7, Str.val x4), (8, Str.val x5), (9, L a1 ([x6] : List Str) c1), (35, I p0.Op), (44, .bool (p0.Op == 2))] hF (by kernel_rfl) fun fr hF => then_normal ?_)
 refine (wp_if hF (b := (p0.Op == 2)) rfl (fun hb => ?_) (fun hb => ?_))
 · replace h := iteT hb h
   refine (wp_skip (then_normal ?_))
   refine (wp_if hF (b := (p0.Op == 2)) rfl (fun hb => ?_) (fun hb => ?_))
   · replace h := iteT hb h
     refine (wp_text' ?_)
     refine from_pure 3 [(49, L a1 ([x6] : List Str) c1), (50, Str.val x4), (51, B b1 2)] hF (by kernel_rfl) fun fr hF => ?_
     refine s_loadBox (I p0.B) ty3 rfl rfl hF rfl (hs.bx 1 rfl) rfl rfl fun fr hF => ?_
     have hs : Sep [sl9 (L a1 ([x6] : List Str) c1) ([x6] : List Str)] w6 S2 := Sep.pick [0] hs (by decide) rfl
     obtain ⟨x9, hx9, h⟩ := bindE h
     refine s_call [I p0.B] Tryz.call52 rfl rfl hF rfl (spec_l05RegName_ok n p0.B hx9) fun v w10 fr hRes hF => ?_
     obtain ⟨rfl, hc⟩ := hRes
     have hs := hs.ext hc
     have hM0 := hM0.ext hc
     refine q_lit (E := 9) hs hM0 [Str.val x4, Str.val x9] (([x4, x9] : List Str).map Flat.enc) ([x4, x9] : List Str) rfl rfl hF [Str.val x4, Str.val x9] rfl (fun w => by kernel_rfl) (css_flat _) rfl rfl rfl fun a4 c4 w11 S5 fr hs hp hF => ?_
     have hM0 := hM0.stp hp
     have hs : Sep [sl9 (L a4 ([x4, x9] : List Str) c4) ([x4, x9] : List Str), sl9 (L a1 ([x6] : List Str) c1) ([x6] : List Str)] w11 S5 := hs
     obtain ⟨x10, hx10, h⟩ := bindE h
     refine q_append 1 hs hM0 rfl Tryz.underlying30 el9 rfl rfl rfl hF rfl rfl (hs.rv 0 rfl) hx10 fun a5 c5 w12 S6 fr hs hp hF => ?_
     have hM0 := hM0.stp hp
     have hs : Sep [sl9 (L a4 ([x4, x9] : List Str) c4) ([x4, x9] : List Str), sl9 (L a5 x10 c5) x10] w12 S6 := hs
     have hs : Sep [sl9 (L a5 x10 c5) x10] w12 S6 := Sep.pick [1] hs (by decide) rfl
     refine from_pure 1 [(9, L a5 x10 c5)] hF (by kernel_rfl) fun fr hF => ?_
     refine from_end rfl ?_
     refine blk_normal (then_normal ?_)
     refine wp_seq (wp_text' ?_)
     refine from_pure 1 [(72, L a5 x10 c5)] hF (by kernel_rfl) fun fr hF => ?_
     obtain ⟨x11, hx11, h⟩ := bindE h
     refine s_call [L a5 x10 c5, Str.val (⟨[32]⟩)] Tryz.call13 rfl rfl hF rfl (spec_Join_ok n x10 (⟨[32]⟩) hx11 (hs.rv 0 rfl)) fun v w13 fr hRes hF => ?_
     obtain ⟨rfl, hc⟩ := hRes
     have hs := hs.ext hc
     have hM0 := hM0.ext hc
     have hs : Sep [] w13 S6 := Sep.pick [] hs (by decide) rfl
     refine from_pure 1 [(6, Str.val x11)] hF (by kernel_rfl) fun fr hF => ?_
     refine from_end rfl (then_normal ?_)
     obtain rfl := Option.some.inj h
     exact wp_ret (ret1 rfl hF rfl ⟨_, rfl, rfl, hM0.chg⟩)
   replace h := iteF hb h
   have hs : Sep [sl9 (L a1 ([x6] : List Str) c1) ([x6] : List Str)] w6 S2 := Sep.pick [0] hs (by decide) rfl
   refine wp_seq ?_
   refine wp_seq (wp_pure [(7, Str.val x4), (8, Str.val x5), (9, L a1 ([x6] : List Str) c1), (35, I p0.Op), (56, .bool (p0.Op == 4))] hF (by kernel_rfl) fun fr hF => then_normal ?_)
   refine (wp_if hF (b := (p0.Op == 4)) rfl (fun hb => ?_) (fun hb => ?_))
   · replace h := iteT hb h
     refine (wp_skip (then_normal ?_))
     refine (wp_if hF (b := (p0.Op == 4)) rfl (fun hb => ?_) (fun hb => ?_))
     · replace h := iteT hb h
       refine (wp_text' ?_)
       refine from_pure 2 [(61, L a1 ([x6] : List Str) c1), (62, Str.val x4)] hF (by kernel_rfl) fun fr hF => ?_
       refine q_lit (E := 9) hs hM0 [Str.val x4] (([x4] : List Str).map Flat.enc) ([x4] : List Str) rfl rfl hF [Str.val x4] rfl (fun w => by kernel_rfl) (css_flat _) rfl rfl rfl fun a6 c6 w14 S7 fr hs hp hF => ?_
       have hM0 := hM0.stp hp
       have hs : Sep [sl9 (L a6 ([x4] : List Str) c6) ([x4] : List Str), sl9 (L a1 ([x6] : List Str) c1) ([x6] : List Str)] w14 S7 := hs
       obtain ⟨x12, hx12, h⟩ := bindE h
       refine q_append 1 hs hM0 rfl Tryz.underlying30 el9 rfl rfl rfl hF rfl rfl (hs.rv 0 rfl) hx12 fun a7 c7 w15 S8 fr hs hp hF => ?_
       have hM0 := hM0.stp hp
       have hs : Sep [sl9 (L a6 ([x4] : List Str) c6) ([x4] : List Str), sl9 (L a7 x12 c7) x12] w15 S8 := hs
       have hs : Sep [sl9 (L a7 x12 c7) x12] w15 S8 := Sep.pick [1] hs (by decide) rfl
       refine from_pure 1 [(9, L a7 x12 c7)] hF (by kernel_rfl) fun fr hF => ?_
       refine from_end rfl ?_
       refine blk_normal (then_normal ?_)
       refine wp_seq (wp_text' ?_)
       refine from_pure 1 [(72, L a7 x12 c7)] hF (by kernel_rfl) fun fr hF => ?_
       obtain ⟨x13, hx13, h⟩ := bindE h
       refine s_call [L a7 x12 c7, Str.val (⟨[32]⟩)] Tryz.call13 rfl rfl hF rfl (spec_Join_ok n x12 (⟨[32]⟩) hx13 (hs.rv 0 rfl)) fun v w16 fr hRes hF => ?_
       obtain ⟨rfl, hc⟩ := hRes
       have hs := hs.ext hc
       have hM0 := hM0.ext hc
       have hs : Sep [] w16 S8 := Sep.pick [] hs (by decide) rfl
       refine from_pure 1 [(6, Str.val x13)] hF (by kernel_rfl) fun fr hF => ?_
       refine from_end rfl (then_normal ?_)
       obtain rfl := Option.some.inj h
       exact wp_ret (ret1 rfl hF rfl ⟨_, rfl, rfl, hM0.chg⟩)
     replace h := iteF hb h
     refine wp_seq ?_
     refine wp_seq (wp_pure [(8, Str.val x5), (9, L a1 ([x6] : List Str) c1), (35, I p0.Op), (65, .bool (p0.Op == 9))] hF (by kernel_rfl) fun fr hF => then_normal ?_)
     refine (wp_merge [(8, Str.val x5), (9, L a1 ([x6] : List Str) c1), (65, .bool ((p0.Op == 9) || (p0.Op == 11)))] hF (b := (p0.Op == 9)) rfl (fun hb => ?_) (fun hb => ?_) fun fr hF => then_normal ?_)
     · exact wp_skip ⟨rfl, rfl, (hF.sub [(8, Str.val x5), (9, L a1 ([x6] : List Str) c1), (65, .bool (p0.Op == 9))] (by kernel_rfl)).eqs (by first | (simp only [hb]; done) | (simp only [hb]; rfl))⟩
     · exact wp_pure [(8, Str.val x5), (9, L a1 ([x6] : List Str) c1), (65, .bool (p0.Op == 11))] hF (by kernel_rfl) fun fr hF => ⟨rfl, rfl, hF.eqs (by first | (simp only [hb]; done) | (simp only [hb]; rfl))⟩
     refine (wp_if hF (b := ((p0.Op == 9) || (p0.Op == 11))) rfl (fun hb => ?_) (fun hb => ?_))
     · replace h := iteT hb h
       refine (wp_text' ?_)
       refine from_pure 2 [(68, L a1 ([x6] : List Str) c1), (69, Str.val x5)] hF (by kernel_rfl) fun fr hF => ?_
       refine q_lit (E := 9) hs hM0 [Str.val x5] (([x5] : List Str).map Flat.enc) ([x5] : List Str) rfl rfl hF [Str.val x5] rfl (fun w => by kernel_rfl) (css_flat _) rfl rfl rfl fun a8 c8 w17 S9 fr hs hp hF => ?_
       have hM0 := hM0.stp hp
       have hs : Sep [sl9 (L a8 ([x5] : List Str) c8) ([x5] : List Str), sl9 (L a1 ([x6] : List Str) c1) ([x6] : List Str)] w17 S9 := hs
       obtain ⟨x14, hx14, h⟩ := bindE h
       refine q_append 1 hs hM0 rfl Tryz.underlying30 el9 rfl rfl rfl hF rfl rfl (hs.rv 0 rfl) hx14 fun a9 c9 w18 S10 fr hs hp hF => ?_
       have hM0 := hM0.stp hp
       have hs : Sep [sl9 (L a8 ([x5] : List Str) c8) ([x5] : List Str), sl9 (L a9 x14 c9) x14] w18 S10 := hs
       have hs : Sep [sl9 (L a9 x14 c9) x14] w18 S10 := Sep.pick [1] hs (by decide) rfl
       refine from_pure 1 [(9, L a9 x14 c9)] hF (by kernel_rfl) fun fr hF => ?_
       refine from_end rfl ?_
       refine blk_normal (then_normal ?_)
       refine wp_seq (wp_text' ?_)
       refine from_pure 1 [(72, L a9 x14 c9)] hF (by kernel_rfl) fun fr hF => ?_
       obtain ⟨x15, hx15, h⟩ := bindE h
       refine s_call [L a9 x14 c9, Str.val (⟨[32]⟩)] Tryz.call13 rfl rfl hF rfl (spec_Join_ok n x14 (⟨[32]⟩) hx15 (hs.rv 0 rfl)) fun v w19 fr hRes hF => ?_
       obtain ⟨rfl, hc⟩ := hRes
       have hs := hs.ext hc
       have hM0 := hM0.ext hc
       have hs : Sep [] w19 S10 := Sep.pick [] hs (by decide) rfl
       refine from_pure 1 [(6, Str.val x15)] hF (by kernel_rfl) fun fr hF => ?_
       refine from_end rfl (then_normal ?_)
       obtain rfl := Option.some.inj h
       exact wp_ret (ret1 rfl hF rfl ⟨_, rfl, rfl, hM0.chg⟩)
     replace h := iteF hb h
     refine (wp_skip ?_)
     refine blk_normal (then_normal ?_)
     refine wp_seq (wp_text' ?_)
     refine from_pure 1 [(72, L a1 ([x6] : List Str) c1)] hF (by kernel_rfl) fun fr hF => ?_
     obtain ⟨x16, hx16, h⟩ := bindE h
     refine s_call [L a1 ([x6] : List Str) c1, Str.val (⟨[32]⟩)] Tryz.call13 rfl rfl hF rfl (spec_Join_ok n ([x6] : List Str) (⟨[32]⟩) hx16 (hs.rv 0 rfl)) fun v w20 fr hRes hF => ?_
     obtain ⟨rfl, hc⟩ := hRes
     have hs := hs.ext hc
     have hM0 := hM0.ext hc
     have hs : Sep [] w20 S2 := Sep.pick [] hs (by decide) rfl
     refine from_pure 1 [(6, Str.val x16)] hF (by kernel_rfl) fun fr hF => ?_
     refine from_end rfl (then_normal ?_)
     obtain rfl := Option.some.inj h
     exact wp_ret (ret1 rfl hF rfl ⟨_, rfl, rfl, hM0.chg⟩)
   replace h := iteF hb h
   refine wp_seq (wp_pure [(7, Str.val x4), (8, Str.val x5), (9, L a1 ([x6] : List Str) c1), (35, I p0.Op), (56, .bool (p0.Op == 5))] hF (by kernel_rfl) fun fr hF => then_normal ?_)
   refine (wp_if hF (b := (p0.Op == 5)) rfl (fun hb => ?_) (fun hb => ?_))
   · replace h := iteT hb h
     refine (wp_skip (then_normal ?_))
     refine (wp_if hF (b := (p0.Op == 5)) rfl (fun hb => ?_) (fun hb => ?_))
     · replace h := iteT hb h
       refine (wp_text' ?_)
       refine from_pure 2 [(61, L a1 ([x6] : List Str) c1), (62, Str.val x4)] hF (by kernel_rfl) fun fr hF => ?_
       refine q_lit (E := 9) hs hM0 [Str.val x4] (([x4] : List Str).map Flat.enc) ([x4] : List Str) rfl rfl hF [Str.val x4] rfl (fun w => by kernel_rfl) (css_flat _) rfl rfl rfl fun a10 c10 w21 S11 fr hs hp hF => ?_
       have hM0 := hM0.stp hp
       have hs : Sep [sl9 (L a10 ([x4] : List Str) c10) ([x4] : List Str), sl9 (L a1 ([x6] : List Str) c1) ([x6] : List Str)] w21 S11 := hs
       obtain ⟨x17, hx17, h⟩ := bindE h
       refine q_append 1 hs hM0 rfl Tryz.underlying30 el9 rfl rfl rfl hF rfl rfl (hs.rv 0 rfl) hx17 fun a11 c11 w22 S12 fr hs hp hF => ?_
       have hM0 := hM0.stp hp
       have hs : Sep [sl9 (L a10 ([x4] : List Str) c10) ([x4] : List Str), sl9 (L a11 x17 c11) x17] w22 S12 := hs
       have hs : Sep [sl9 (L a11 x17 c11) x17] w22 S12 := Sep.pick [1] hs (by decide) rfl
       refine from_pure 1 [(9, L a11 x17 c11)] hF (by kernel_rfl) fun fr hF => ?_
       refine from_end rfl ?_
       refine blk_normal (then_normal ?_)
       refine wp_seq (wp_text' ?_)
       refine from_pure 1 [(72, L a11 x17 c11)] hF (by kernel_rfl) fun fr hF => ?_
       obtain ⟨x18, hx18, h⟩ := bindE h
       refine s_call [L a11 x17 c11, Str.val (⟨[32]⟩)] Tryz.call13 rfl rfl hF rfl (spec_Join_ok n x17 (⟨[32]⟩) hx18 (hs.rv 0 rfl)) fun v w23 fr hRes hF => ?_
       obtain ⟨rfl, hc⟩ := hRes
       have hs := hs.ext hc
       have hM0 := hM0.ext hc
       have hs : Sep [] w23 S12 := Sep.pick [] hs (by decide) rfl
       refine from_pure 1 [(6, Str.val x18)] hF (by kernel_rfl) fun fr hF => ?_
       refine from_end rfl (then_normal ?_)
       obtain rfl := Option.some.inj h
       exact wp_ret (ret1 rfl hF rfl ⟨_, rfl, rfl, hM0.chg⟩)
     replace h := iteF hb h
     refine wp_seq ?_
     refine wp_seq (wp_pure [(8, Str.val x5), (9, L a1 ([x6] : List Str) c1), (35, I p0.Op), (65, .bool (p0.Op == 9))] hF (by kernel_rfl) fun fr hF => then_normal ?_)
     refine (wp_merge [(8, Str.val x5), (9, L a1 ([x6] : List Str) c1), (65, .bool ((p0.Op == 9) || (p0.Op == 11)))] hF (b := (p0.Op == 9)) rfl (fun hb => ?_) (fun hb => ?_) fun fr hF => then_normal ?_)
     · exact wp_skip ⟨rfl, rfl, (hF.sub [(8, Str.val x5), (9, L a1 ([x6] : List Str) c1), (65, .bool (p0.Op == 9))] (by kernel_rfl)).eqs (by first | (simp only [hb]; done) | (simp only [hb]; rfl))⟩
     · exact wp_pure [(8, Str.val x5), (9, L a1 ([x6] : List Str) c1), (65, .bool (p0.Op == 11))] hF (by kernel_rfl) fun fr hF => ⟨rfl, rfl, hF.eqs (by first | (simp only [hb]; done) | (simp only [hb]; rfl))⟩
     refine (wp_if hF (b := ((p0.Op == 9) || (p0.Op == 11))) rfl (fun hb => ?_) (fun hb => ?_))
     · replace h := iteT hb h
       refine (wp_text' ?_)
       refine from_pure 2 [(68, L a1 ([x6] : List Str) c1), (69, Str.val x5)] hF (by kernel_rfl) fun fr hF => ?_
       refine q_lit (E := 9) hs hM0 [Str.val x5] (([x5] : List Str).map Flat.enc) ([x5] : List Str) rfl rfl hF [Str.val x5] rfl (fun w => by kernel_rfl) (css_flat _) rfl rfl rfl fun a12 c12 w24 S13 fr hs hp hF => ?_
       have hM0 := hM0.stp hp
       have hs : Sep [sl9 (L a12 ([x5] : List Str) c12) ([x5] : List Str), sl9 (L a1 ([x6] : List Str) c1) ([x6] : List Str)] w24 S13 := hs
       obtain ⟨x19, hx19, h⟩ := bindE h
       refine q_append 1 hs hM0 rfl Tryz.underlying30 el9 rfl rfl rfl hF rfl rfl (hs.rv 0 rfl) hx19 fun a13 c13 w25 S14 fr hs hp hF => ?_
       have hM0 := hM0.stp hp
       have hs : Sep [sl9 (L a12 ([x5] : List Str) c12) ([x5] : List Str), sl9 (L a13 x19 c13) x19] w25 S14 := hs
       have hs : Sep [sl9 (L a13 x19 c13) x19] w25 S14 := Sep.pick [1] hs (by decide) rfl
       refine from_pure 1 [(9, L a13 x19 c13)] hF (by kernel_rfl) fun fr hF => ?_
       refine from_end rfl ?_
       refine blk_normal (then_normal ?_)
       refine wp_seq (wp_text' ?_)
       refine from_pure 1 [(72, L a13 x19 c13)] hF (by kernel_rfl) fun fr hF => ?_
       obtain ⟨x20, hx20, h⟩ := bindE h
       refine s_call [L a13 x19 c13, Str.val (⟨[32]⟩)] Tryz.call13 rfl rfl hF rfl (spec_Join_ok n x19 (⟨[32]⟩) hx20 (hs.rv 0 rfl)) fun v w26 fr hRes hF => ?_
       obtain ⟨rfl, hc⟩ := hRes
       have hs := hs.ext hc
       have hM0 := hM0.ext hc
       have hs : Sep [] w26 S14 := Sep.pick [] hs (by decide) rfl
       refine from_pure 1 [(6, Str.val x20)] hF (by kernel_rfl) fun fr hF => ?_
       refine from_end rfl (then_normal ?_)
       obtain rfl := Option.some.inj h
       exact wp_ret (ret1 rfl hF rfl ⟨_, rfl, rfl, hM0.chg⟩)
     replace h := iteF hb h
     refine (wp_skip ?_)
     refine blk_normal (then_normal ?_)
     refine wp_seq (wp_text' ?_)
     refine from_pure 1 [(72, L a1 ([x6] : List Str) c1)] hF (by kernel_rfl) fun fr hF => ?_
     obtain ⟨x21, hx21, h⟩ := bindE h
     refine s_call [L a1 ([x6] : List Str) c1, Str.val (⟨[32]⟩)] Tryz.call13 rfl rfl hF rfl (spec_Join_ok n ([x6] : List Str) (⟨[32]⟩) hx21 (hs.rv 0 rfl)) fun v w27 fr hRes hF => ?_
     obtain ⟨rfl, hc⟩ := hRes
     have hs := hs.ext hc
     have hM0 := hM0.ext hc
     have hs : Sep [] w27 S2 := Sep.pick [] hs (by decide) rfl
     refine from_pure 1 [(6, Str.val x21)] hF (by kernel_rfl) fun fr hF => ?_
     refine from_end rfl (then_normal ?_)
     obtain rfl := Option.some.inj h
     exact wp_ret (ret1 rfl hF rfl ⟨_, rfl, rfl, hM0.chg⟩)
   replace h := iteF hb h
   refine wp_seq (wp_pure [(7, Str.val x4), (8, Str.val x5), (9, L a1 ([x6] : List Str) c1), (35, I p0.Op), (56, .bool (p0.Op == 6))] hF (by kernel_rfl) fun fr hF => then_normal ?_)
   refine (wp_merge [(7, Str.val x4), (8, Str.val x5), (9, L a1 ([x6] : List Str) c1), (35, I p0.Op), (56, .bool ((p0.Op == 6) || (p0.Op == 13)))] hF (b := (p0.Op == 6)) rfl (fun hb => ?_) (fun hb => ?_) fun fr hF => then_normal ?_)
   · exact wp_skip ⟨rfl, rfl, (hF.sub [(7, Str.val x4), (8, Str.val x5), (9, L a1 ([x6] : List Str) c1), (35, I p0.Op), (56, .bool (p0.Op == 6))] (by kernel_rfl)).eqs (by first | (simp only [hb]; done) | (simp only [hb]; rfl))⟩
   · exact wp_pure [(7, Str.val x4), (8, Str.val x5), (9, L a1 ([x6] : List Str) c1), (35, I p0.Op), (56, .bool (p0.Op == 13))] hF (by kernel_rfl) fun fr hF => ⟨rfl, rfl, hF.eqs (by first | (simp only [hb]; done) | (simp only [hb]; rfl))⟩
   refine (wp_if hF (b := ((p0.Op == 6) || (p0.Op == 13))) rfl (fun hb => ?_) (fun hb => ?_))
   · replace h := iteT hb h
     refine (wp_text' ?_)
     refine from_pure 2 [(61, L a1 ([x6] : List Str) c1), (62, Str.val x4)] hF (by kernel_rfl) fun fr hF => ?_
     refine q_lit (E := 9) hs hM0 [Str.val x4] (([x4] : List Str).map Flat.enc) ([x4] : List Str) rfl rfl hF [Str.val x4] rfl (fun w => by kernel_rfl) (css_flat _) rfl rfl rfl fun a14 c14 w28 S15 fr hs hp hF => ?_
     have hM0 := hM0.stp hp
     have hs : Sep [sl9 (L a14 ([x4] : List Str) c14) ([x4] : List Str), sl9 (L a1 ([x6] : List Str) c1) ([x6] : List Str)] w28 S15 := hs
     obtain ⟨x22, hx22, h⟩ := bindE h
     refine q_append 1 hs hM0 rfl Tryz.underlying30 el9 rfl rfl rfl hF rfl rfl (hs.rv 0 rfl) hx22 fun a15 c15 w29 S16 fr hs hp hF => ?_
     have hM0 := hM0.stp hp
     have hs : Sep [sl9 (L a14 ([x4] : List Str) c14) ([x4] : List Str), sl9 (L a15 x22 c15) x22] w29 S16 := hs
     have hs : Sep [sl9 (L a15 x22 c15) x22] w29 S16 := Sep.pick [1] hs (by decide) rfl
     refine from_pure 1 [(9, L a15 x22 c15)] hF (by kernel_rfl) fun fr hF => ?_
     refine from_end rfl ?_
     refine blk_normal (then_normal ?_)
     refine wp_seq (wp_text' ?_)
     refine from_pure 1 [(72, L a15 x22 c15)] hF (by kernel_rfl) fun fr hF => ?_
     obtain ⟨x23, hx23, h⟩ := bindE h
     refine s_call [L a15 x22 c15, Str.val (⟨[32]⟩)] Tryz.call13 rfl rfl hF rfl (spec_Join_ok n x22 (⟨[32]⟩) hx23 (hs.rv 0 rfl)) fun v w30 fr hRes hF => ?_
     obtain ⟨rfl, hc⟩ := hRes
     have hs := hs.ext hc
     have hM0 := hM0.ext hc
     have hs : Sep [] w30 S16 := Sep.pick [] hs (by decide) rfl
     refine from_pure 1 [(6, Str.val x23)] hF (by kernel_rfl) fun fr hF => ?_
     refine from_end rfl (then_normal ?_)
     obtain rfl := Option.some.inj h
     exact wp_ret (ret1 rfl hF rfl ⟨_, rfl, rfl, hM0.chg⟩)
   replace h := iteF hb h
   refine wp_seq ?_
   refine wp_seq (wp_pure [(8, Str.val x5), (9, L a1 ([x6] : List Str) c1), (35, I p0.Op), (65, .bool (p0.Op == 9))] hF (by kernel_rfl) fun fr hF => then_normal ?_)
   refine (wp_merge [(8, Str.val x5), (9, L a1 ([x6] : List Str) c1), (65, .bool ((p0.Op == 9) || (p0.Op == 11)))] hF (b := (p0.Op == 9)) rfl (fun hb => ?_) (fun hb => ?_) fun fr hF => then_normal ?_)
   · exact wp_skip ⟨rfl, rfl, (hF.sub [(8, Str.val x5), (9, L a1 ([x6] : List Str) c1), (65, .bool (p0.Op == 9))] (by kernel_rfl)).eqs (by first | (simp only [hb]; done) | (simp only [hb]; rfl))⟩
   · exact wp_pure [(8, Str.val x5), (9, L a1 ([x6] : List Str) c1), (65, .bool (p0.Op == 11))] hF (by kernel_rfl) fun fr hF => ⟨rfl, rfl, hF.eqs (by first | (simp only [hb]; done) | (simp only [hb]; rfl))⟩
   refine (wp_if hF (b := ((p0.Op == 9) || (p0.Op == 11))) rfl (fun hb => ?_) (fun hb => ?_))
   · replace h := iteT hb h
     refine (wp_text' ?_)
     refine from_pure 2 [(68, L a1 ([x6] : List Str) c1), (69, Str.val x5)] hF (by kernel_rfl) fun fr hF => ?_
     refine q_lit (E := 9) hs hM0 [Str.val x5] (([x5] : List Str).map Flat.enc) ([x5] : List Str) rfl rfl hF [Str.val x5] rfl (fun w => by kernel_rfl) (css_flat _) rfl rfl rfl fun a16 c16 w31 S17 fr hs hp hF => ?_
     have hM0 := hM0.stp hp
     have hs : Sep [sl9 (L a16 ([x5] : List Str) c16) ([x5] : List Str), sl9 (L a1 ([x6] : List Str) c1) ([x6] : List Str)] w31 S17 := hs
     obtain ⟨x24, hx24, h⟩ := bindE h
     refine q_append 1 hs hM0 rfl Tryz.underlying30 el9 rfl rfl rfl hF rfl rfl (hs.rv 0 rfl) hx24 fun a17 c17 w32 S18 fr hs hp hF => ?_
     have hM0 := hM0.stp hp
     have hs : Sep [sl9 (L a16 ([x5] : List Str) c16) ([x5] : List Str), sl9 (L a17 x24 c17) x24] w32 S18 := hs
     have hs : Sep [sl9 (L a17 x24 c17) x24] w32 S18 := Sep.pick [1] hs (by decide) rfl
     refine from_pure 1 [(9, L a17 x24 c17)] hF (by kernel_rfl) fun fr hF => ?_
     refine from_end rfl ?_
     refine blk_normal (then_normal ?_)
     refine wp_seq (wp_text' ?_)
     refine from_pure 1 [(72, L a17 x24 c17)] hF (by kernel_rfl) fun fr hF => ?_
     obtain ⟨x25, hx25, h⟩ := bindE h
     refine s_call [L a17 x24 c17, Str.val (⟨[32]⟩)] Tryz.call13 rfl rfl hF rfl (spec_Join_ok n x24 (⟨[32]⟩) hx25 (hs.rv 0 rfl)) fun v w33 fr hRes hF => ?_
     obtain ⟨rfl, hc⟩ := hRes
     have hs := hs.ext hc
     have hM0 := hM0.ext hc
     have hs : Sep [] w33 S18 := Sep.pick [] hs (by decide) rfl
     refine from_pure 1 [(6, Str.val x25)] hF (by kernel_rfl) fun fr hF => ?_
     refine from_end rfl (then_normal ?_)
     obtain rfl := Option.some.inj h
     exact wp_ret (ret1 rfl hF rfl ⟨_, rfl, rfl, hM0.chg⟩)
   replace h := iteF hb h
   refine (wp_skip ?_)
   refine blk_normal (then_normal ?_)
   refine wp_seq (wp_text' ?_)
   refine from_pure 1 [(72, L a1 ([x6] : List Str) c1)] hF (by kernel_rfl) fun fr hF => ?_
   obtain ⟨x26, hx26, h⟩ := bindE h
   refine s_call [L a1 ([x6] : List Str) c1, Str.val (⟨[32]⟩)] Tryz.call13 rfl rfl hF rfl (spec_Join_ok n ([x6] : List Str) (⟨[32]⟩) hx26 (hs.rv 0 rfl)) fun v w34 fr hRes hF => ?_
   obtain ⟨rfl, hc⟩ := hRes
   have hs := hs.ext hc
   have hM0 := hM0.ext hc
   have hs : Sep [] w34 S2 := Sep.pick [] hs (by decide) rfl
   refine from_pure 1 [(6, Str.val x26)] hF (by kernel_rfl) fun fr hF => ?_
   refine from_end rfl (then_normal ?_)
   obtain rfl := Option.some.inj h
   exact wp_ret (ret1 rfl hF rfl ⟨_, rfl, rfl, hM0.chg⟩)
 replace h := iteF hb h
 refine wp_seq (wp_pure [(3, B b1 0), (7, Str.val x4), (8, Str.val x5), (9, L a1 ([x6] : List Str) c1), (35, I p0.Op), (44, .bool (p0.Op == 3))] hF (by kernel_rfl) fun fr hF => then_normal ?_)
 refine (wp_if hF (b := (p0.Op == 3)) rfl (fun hb => ?_) (fun hb => ?_))
 · replace h := iteT hb h
   refine (wp_skip (then_normal ?_))
   refine (wp_if hF (b := (p0.Op == 3)) rfl (fun hb => ?_) (fun hb => ?_))
   · replace h := iteT hb h
     refine (wp_text' ?_)
     refine from_pure 3 [(49, L a1 ([x6] : List Str) c1), (50, Str.val x4), (51, B b1 2)] hF (by kernel_rfl) fun fr hF => ?_
     refine s_loadBox (I p0.B) ty3 rfl rfl hF rfl (hs.bx 1 rfl) rfl rfl fun fr hF => ?_
     have hs : Sep [sl9 (L a1 ([x6] : List Str) c1) ([x6] : List Str)] w6 S2 := Sep.pick [0] hs (by decide) rfl
     obtain ⟨x27, hx27, h⟩ := bindE h
     refine s_call [I p0.B] Tryz.call52 rfl rfl hF rfl (spec_l05RegName_ok n p0.B hx27) fun v w35 fr hRes hF => ?_
     obtain ⟨rfl, hc⟩ := hRes
     have hs := hs.ext hc
     have hM0 := hM0.ext hc
     refine q_lit (E := 9) hs hM0 [Str.val x4, Str.val x27] (([x4, x27] : List Str).map Flat.enc) ([x4, x27] : List Str) rfl rfl hF [Str.val x4, Str.val x27] rfl (fun w => by kernel_rfl) (css_flat _) rfl rfl rfl fun a18 c18 w36 S19 fr hs hp hF => ?_
     have hM0 := hM0.stp hp
     have hs : Sep [sl9 (L a18 ([x4, x27] : List Str) c18) ([x4, x27] : List Str), sl9 (L a1 ([x6] : List Str) c1) ([x6] : List Str)] w36 S19 := hs
     obtain ⟨x28, hx28, h⟩ := bindE h
     refine q_append 1 hs hM0 rfl Tryz.underlying30 el9 rfl rfl rfl hF rfl rfl (hs.rv 0 rfl) hx28 fun a19 c19 w37 S20 fr hs hp hF => ?_
     have hM0 := hM0.stp hp
     have hs : Sep [sl9 (L a18 ([x4, x27] : List Str) c18) ([x4, x27] : List Str), sl9 (L a19 x28 c19) x28] w37 S20 := hs
     have hs : Sep [sl9 (L a19 x28 c19) x28] w37 S20 := Sep.pick [1] hs (by decide) rfl
     refine from_pure 1 [(9, L a19 x28 c19)] hF (by kernel_rfl) fun fr hF => ?_
     refine from_end rfl ?_
     refine blk_normal (then_normal ?_)
     refine wp_seq (wp_text' ?_)
     refine from_pure 1 [(72, L a19 x28 c19)] hF (by kernel_rfl) fun fr hF => ?_
     obtain ⟨x29, hx29, h⟩ := bindE h
     refine s_call [L a19 x28 c19, Str.val (⟨[32]⟩)] Tryz.call13 rfl rfl hF rfl (spec_Join_ok n x28 (⟨[32]⟩) hx29 (hs.rv 0 rfl)) fun v w38 fr hRes hF => ?_
     obtain ⟨rfl, hc⟩ := hRes
     have hs := hs.ext hc
     have hM0 := hM0.ext hc
     have hs : Sep [] w38 S20 := Sep.pick [] hs (by decide) rfl
     refine from_pure 1 [(6, Str.val x29)] hF (by kernel_rfl) fun fr hF => ?_
     refine from_end rfl (then_normal ?_)
     obtain rfl := Option.some.inj h
     exact wp_ret (ret1 rfl hF rfl ⟨_, rfl, rfl, hM0.chg⟩)
   replace h := iteF hb h
   have hs : Sep [sl9 (L a1 ([x6] : List Str) c1) ([x6] : List Str)] w6 S2 := Sep.pick [0] hs (by decide) rfl
   refine wp_seq ?_
   refine wp_seq (wp_pure [(7, Str.val x4), (8, Str.val x5), (9, L a1 ([x6] : List Str) c1), (35, I p0.Op), (56, .bool (p0.Op == 4))] hF (by kernel_rfl) fun fr hF => then_normal ?_)
   refine (wp_if hF (b := (p0.Op == 4)) rfl (fun hb => ?_) (fun hb => ?_))
   · replace h := iteT hb h
     refine (wp_skip (then_normal ?_))
     refine (wp_if hF (b := (p0.Op == 4)) rfl (fun hb => ?_) (fun hb => ?_))
     · replace h := iteT hb h
       refine (wp_text' ?_)
       refine from_pure 2 [(61, L a1 ([x6] : List Str) c1), (62, Str.val x4)] hF (by kernel_rfl) fun fr hF => ?_
       refine q_lit (E := 9) hs hM0 [Str.val x4] (([x4] : List Str).map Flat.enc) ([x4] : List Str) rfl rfl hF [Str.val x4] rfl (fun w => by kernel_rfl) (css_flat _) rfl rfl rfl fun a20 c20 w39 S21 fr hs hp hF => ?_
       have hM0 := hM0.stp hp
       have hs : Sep [sl9 (L a20 ([x4] : List Str) c20) ([x4] : List Str), sl9 (L a1 ([x6] : List Str) c1) ([x6] : List Str)] w39 S21 := hs
       obtain ⟨x30, hx30, h⟩ := bindE h
       refine q_append 1 hs hM0 rfl Tryz.underlying30 el9 rfl rfl rfl hF rfl rfl (hs.rv 0 rfl) hx30 fun a21 c21 w40 S22 fr hs hp hF => ?_
       have hM0 := hM0.stp hp
       have hs : Sep [sl9 (L a20 ([x4] : List Str) c20) ([x4] : List Str), sl9 (L a21 x30 c21) x30] w40 S22 := hs
       have hs : Sep [sl9 (L a21 x30 c21) x30] w40 S22 := Sep.pick [1] hs (by decide) rfl
       refine from_pure 1 [(9, L a21 x30 c21)] hF (by kernel_rfl) fun fr hF => ?_
       refine from_end rfl ?_
       refine blk_normal (then_normal ?_)
       refine wp_seq (wp_text' ?_)
       refine from_pure 1 [(72, L a21 x30 c21)] hF (by kernel_rfl) fun fr hF => ?_
       obtain ⟨x31, hx31, h⟩ := bindE h
       refine s_call [L a21 x30 c21, Str.val (⟨[32]⟩)] Tryz.call13 rfl rfl hF rfl (spec_Join_ok n x30 (⟨[32]⟩) hx31 (hs.rv 0 rfl)) fun v w41 fr hRes hF => ?_
       obtain ⟨rfl, hc⟩ := hRes
       have hs := hs.ext hc
       have hM0 := hM0.ext hc
       have hs : Sep [] w41 S22 := Sep.pick [] hs (by decide) rfl
       refine from_pure 1 [(6, Str.val x31)] hF (by kernel_rfl) fun fr hF => ?_
       refine from_end rfl (then_normal ?_)
       obtain rfl := Option.some.inj h
       exact wp_ret (ret1 rfl hF rfl ⟨_, rfl, rfl, hM0.chg⟩)
     replace h := iteF hb h
     refine wp_seq ?_
     refine wp_seq (wp_pure [(8, Str.val x5), (9, L a1 ([x6] : List Str) c1), (35, I p0.Op), (65, .bool (p0.Op == 9))] hF (by kernel_rfl) fun fr hF => then_normal ?_)
     refine (wp_merge [(8, Str.val x5), (9, L a1 ([x6] : List Str) c1), (65, .bool ((p0.Op == 9) || (p0.Op == 11)))] hF (b := (p0.Op == 9)) rfl (fun hb => ?_) (fun hb => ?_) fun fr hF => then_normal ?_)
     · exact wp_skip ⟨rfl, rfl, (hF.sub [(8, Str.val x5), (9, L a1 ([x6] : List Str) c1), (65, .bool (p0.Op == 9))] (by kernel_rfl)).eqs (by first | (simp only [hb]; done) | (simp only [hb]; rfl))⟩
     · exact wp_pure [(8, Str.val x5), (9, L a1 ([x6] : List Str) c1), (65, .bool (p0.Op == 11))] hF (by kernel_rfl) fun fr hF => ⟨rfl, rfl, hF.eqs (by first | (simp only [hb]; done) | (simp only [hb]; rfl))⟩
     refine (wp_if hF (b := ((p0.Op == 9) || (p0.Op == 11))) rfl (fun hb => ?_) (fun hb => ?_))
     · replace h := iteT hb h
       refine (wp_text' ?_)
       refine from_pure 2 [(68, L a1 ([x6] : List Str) c1), (69, Str.val x5)] hF (by kernel_rfl) fun fr hF => ?_
       refine q_lit (E := 9) hs hM0 [Str.val x5] (([x5] : List Str).map Flat.enc) ([x5] : List Str) rfl rfl hF [Str.val x5] rfl (fun w => by kernel_rfl) (css_flat _) rfl rfl rfl fun a22 c22 w42 S23 fr hs hp hF => ?_
       have hM0 := hM0.stp hp
       have hs : Sep [sl9 (L a22 ([x5] : List Str) c22) ([x5] : List Str), sl9 (L a1 ([x6] : List Str) c1) ([x6] : List Str)] w42 S23 := hs
       obtain ⟨x32, hx32, h⟩ := bindE h
       refine q_append 1 hs hM0 rfl Tryz.underlying30 el9 rfl rfl rfl hF rfl rfl (hs.rv 0 rfl) hx32 fun a23 c23 w43 S24 fr hs hp hF => ?_
       have hM0 := hM0.stp hp
       have hs : Sep [sl9 (L a22 ([x5] : List Str) c22) ([x5] : List Str), sl9 (L a23 x32 c23) x32] w43 S24 := hs
       have hs : Sep [sl9 (L a23 x32 c23) x32] w43 S24 := Sep.pick [1] hs (by decide) rfl
       refine from_pure 1 [(9, L a23 x32 c23)] hF (by kernel_rfl) fun fr hF => ?_
       refine from_end rfl ?_
       refine blk_normal (then_normal ?_)
       refine wp_seq (wp_text' ?_)
       refine from_pure 1 [(72, L a23 x32 c23)] hF (by kernel_rfl) fun fr hF => ?_
       obtain ⟨x33, hx33, h⟩ := bindE h
       refine s_call [L a23 x32 c23, Str.val (⟨[32]⟩)] Tryz.call13 rfl rfl hF rfl (spec_Join_ok n x32 (⟨[32]⟩) hx33 (hs.rv 0 rfl)) fun v w44 fr hRes hF => ?_
       obtain ⟨rfl, hc⟩ := hRes
       have hs := hs.ext hc
       have hM0 := hM0.ext hc
       have hs : Sep [] w44 S24 := Sep.pick [] hs (by decide) rfl
       refine from_pure 1 [(6, Str.val x33)] hF (by kernel_rfl) fun fr hF => ?_
       refine from_end rfl (then_normal ?_)
       obtain rfl := Option.some.inj h
       exact wp_ret (ret1 rfl hF rfl ⟨_, rfl, rfl, hM0.chg⟩)
     replace h := iteF hb h
     refine (wp_skip ?_)
     refine blk_normal (then_normal ?_)
     refine wp_seq (wp_text' ?_)
     refine from_pure 1 [(72, L a1 ([x6] : List Str) c1)] hF (by kernel_rfl) fun fr hF => ?_
     obtain ⟨x34, hx34, h⟩ := bindE h
     refine s_call [L a1 ([x6] : List Str) c1, Str.val (⟨[32]⟩)] Tryz.call13 rfl rfl hF rfl (spec_Join_ok n ([x6] : List Str) (⟨[32]⟩) hx34 (hs.rv 0 rfl)) fun v w45 fr hRes hF => ?_
     obtain ⟨rfl, hc⟩ := hRes
     have hs := hs.ext hc
     have hM0 := hM0.ext hc
     have hs : Sep [] w45 S2 := Sep.pick [] hs (by decide) rfl
     refine from_pure 1 [(6, Str.val x34)] hF (by kernel_rfl) fun fr hF => ?_
     refine from_end rfl (then_normal ?_)
     obtain rfl := Option.some.inj h
     exact wp_ret (ret1 rfl hF rfl ⟨_, rfl, rfl, hM0.chg⟩)
   replace h := iteF hb h
   refine wp_seq (wp_pure [(7, Str.val x4), (8, Str.val x5), (9, L a1 ([x6] : List Str) c1), (35, I p0.Op), (56, .bool (p0.Op == 5))] hF (by kernel_rfl) fun fr hF => then_normal ?_)
   refine (wp_if hF (b := (p0.Op == 5)) rfl (fun hb => ?_) (fun hb => ?_))
   · replace h := iteT hb h
     refine (wp_skip (then_normal ?_))
     refine (wp_if hF (b := (p0.Op == 5)) rfl (fun hb => ?_) (fun hb => ?_))
     · replace h := iteT hb h
       refine (wp_text' ?_)
       refine from_pure 2 [(61, L a1 ([x6] : List Str) c1), (62, Str.val x4)] hF (by kernel_rfl) fun fr hF => ?_
       refine q_lit (E := 9) hs hM0 [Str.val x4] (([x4] : List Str).map Flat.enc) ([x4] : List Str) rfl rfl hF [Str.val x4] rfl (fun w => by kernel_rfl) (css_flat _) rfl rfl rfl fun a24 c24 w46 S25 fr hs hp hF => ?_
       have hM0 := hM0.stp hp
       have hs : Sep [sl9 (L a24 ([x4] : List Str) c24) ([x4] : List Str), sl9 (L a1 ([x6] : List Str) c1) ([x6] : List Str)] w46 S25 := hs
       obtain ⟨x35, hx35, h⟩ := bindE h
       refine q_append 1 hs hM0 rfl Tryz.underlying30 el9 rfl rfl rfl hF rfl rfl (hs.rv 0 rfl) hx35 fun a25 c25 w47 S26 fr hs hp hF => ?_
       have hM0 := hM0.stp hp
       have hs : Sep [sl9 (L a24 ([x4] : List Str) c24) ([x4] : List Str), sl9 (L a25 x35 c25) x35] w47 S26 := hs
       have hs : Sep [sl9 (L a25 x35 c25) x35] w47 S26 := Sep.pick [1] hs (by decide) rfl
       refine from_pure 1 [(9, L a25 x35 c25)] hF (by kernel_rfl) fun fr hF => ?_
       refine from_end rfl ?_
       refine blk_normal (then_normal ?_)
       refine wp_seq (wp_text' ?_)
       refine from_pure 1 [(72, L a25 x35 c25)] hF (by kernel_rfl) fun fr hF => ?_
       obtain ⟨x36, hx36, h⟩ := bindE h
       refine s_call [L a25 x35 c25, Str.val (⟨[32]⟩)] Tryz.call13 rfl rfl hF rfl (spec_Join_ok n x35 (⟨[32]⟩) hx36 (hs.rv 0 rfl)) fun v w48 fr hRes hF => ?_
       obtain ⟨rfl, hc⟩ := hRes
       have hs := hs.ext hc
       have hM0 := hM0.ext hc
       have hs : Sep [] w48 S26 := Sep.pick [] hs (by decide) rfl
       refine from_pure 1 [(6, Str.val x36)] hF (by kernel_rfl) fun fr hF => ?_
       refine from_end rfl (then_normal ?_)
       obtain rfl := Option.some.inj h
       exact wp_ret (ret1 rfl hF rfl ⟨_, rfl, rfl, hM0.chg⟩)
     replace h := iteF hb h
     refine wp_seq ?_
     refine wp_seq (wp_pure [(8, Str.val x5), (9, L a1 ([x6] : List Str) c1), (35, I p0.Op), (65, .bool (p0.Op == 9))] hF (by kernel_rfl) fun fr hF => then_normal ?_)
     refine (wp_merge [(8, Str.val x5), (9, L a1 ([x6] : List Str) c1), (65, .bool ((p0.Op == 9) || (p0.Op == 11)))] hF (b := (p0.Op == 9)) rfl (fun hb => ?_) (fun hb => ?_) fun fr hF => then_normal ?_)
     · exact wp_skip ⟨rfl, rfl, (hF.sub [(8, Str.val x5), (9, L a1 ([x6] : List Str) c1), (65, .bool (p0.Op == 9))] (by kernel_rfl)).eqs (by first | (simp only [hb]; done) | (simp only [hb]; rfl))⟩
     · exact wp_pure [(8, Str.val x5), (9, L a1 ([x6] : List Str) c1), (65, .bool (p0.Op == 11))] hF (by kernel_rfl) fun fr hF => ⟨rfl, rfl, hF.eqs (by first | (simp only [hb]; done) | (simp only [hb]; rfl))⟩
     refine (wp_if hF (b := ((p0.Op == 9) || (p0.Op == 11))) rfl (fun hb => ?_) (fun hb => ?_))
     · replace h := iteT hb h
       refine (wp_text' ?_)
       refine from_pure 2 [(68, L a1 ([x6] : List Str) c1), (69, Str.val x5)] hF (by kernel_rfl) fun fr hF => ?_
       refine q_lit (E := 9) hs hM0 [Str.val x5] (([x5] : List Str).map Flat.enc) ([x5] : List Str) rfl rfl hF [Str.val x5] rfl (fun w => by kernel_rfl) (css_flat _) rfl rfl rfl fun a26 c26 w49 S27 fr hs hp hF => ?_
       have hM0 := hM0.stp hp
       have hs : Sep [sl9 (L a26 ([x5] : List Str) c26) ([x5] : List Str), sl9 (L a1 ([x6] : List Str) c1) ([x6] : List Str)] w49 S27 := hs
       obtain ⟨x37, hx37, h⟩ := bindE h
       refine q_append 1 hs hM0 rfl Tryz.underlying30 el9 rfl rfl rfl hF rfl rfl (hs.rv 0 rfl) hx37 fun a27 c27 w50 S28 fr hs hp hF => ?_
       have hM0 := hM0.stp hp
       have hs : Sep [sl9 (L a26 ([x5] : List Str) c26) ([x5] : List Str), sl9 (L a27 x37 c27) x37] w50 S28 := hs
       have hs : Sep [sl9 (L a27 x37 c27) x37] w50 S28 := Sep.pick [1] hs (by decide) rfl
       refine from_pure 1 [(9, L a27 x37 c27)] hF (by kernel_rfl) fun fr hF => ?_
       refine from_end rfl ?_
       refine blk_normal (then_normal ?_)
       refine wp_seq (wp_text' ?_)
       refine from_pure 1 [(72, L a27 x37 c27)] hF (by kernel_rfl) fun fr hF => ?_
       obtain ⟨x38, hx38, h⟩ := bindE h
       refine s_call [L a27 x37 c27, Str.val (⟨[32]⟩)] Tryz.call13 rfl rfl hF rfl (spec_Join_ok n x37 (⟨[32]⟩) hx38 (hs.rv 0 rfl)) fun v w51 fr hRes hF => ?_
       obtain ⟨rfl, hc⟩ := hRes
       have hs := hs.ext hc
       have hM0 := hM0.ext hc
       have hs : Sep [] w51 S28 := Sep.pick [] hs (by decide) rfl
       refine from_pure 1 [(6, Str.val x38)] hF (by kernel_rfl) fun fr hF => ?_
       refine from_end rfl (then_normal ?_)
       obtain rfl := Option.some.inj h
       exact wp_ret (ret1 rfl hF rfl ⟨_, rfl, rfl, hM0.chg⟩)
     replace h := iteF hb h
     refine (wp_skip ?_)
     refine blk_normal (then_normal ?_)
     refine wp_seq (wp_text' ?_)
     refine from_pure 1 [(72, L a1 ([x6] : List Str) c1)] hF (by kernel_rfl) fun fr hF => ?_
     obtain ⟨x39, hx39, h⟩ := bindE h
     refine s_call [L a1 ([x6] : List Str) c1, Str.val (⟨[32]⟩)] Tryz.call13 rfl rfl hF rfl (spec_Join_ok n ([x6] : List Str) (⟨[32]⟩) hx39 (hs.rv 0 rfl)) fun v w52 fr hRes hF => ?_
     obtain ⟨rfl, hc⟩ := hRes
     have hs := hs.ext hc
     have hM0 := hM0.ext hc
     have hs : Sep [] w52 S2 := Sep.pick [] hs (by decide) rfl
     refine from_pure 1 [(6, Str.val x39)] hF (by kernel_rfl) fun fr hF => ?_
     refine from_end rfl (then_normal ?_)
     obtain rfl := Option.some.inj h
     exact wp_ret (ret1 rfl hF rfl ⟨_, rfl, rfl, hM0.chg⟩)
   replace h := iteF hb h
   refine wp_seq (wp_pure [(7, Str.val x4), (8, Str.val x5), (9, L a1 ([x6] : List Str) c1), (35, I p0.Op), (56, .bool (p0.Op == 6))] hF (by kernel_rfl) fun fr hF => then_normal ?_)
   refine (wp_merge [(7, Str.val x4), (8, Str.val x5), (9, L a1 ([x6] : List Str) c1), (35, I p0.Op), (56, .bool ((p0.Op == 6) || (p0.Op == 13)))] hF (b := (p0.Op == 6)) rfl (fun hb => ?_) (fun hb => ?_) fun fr hF => then_normal ?_)
   · exact wp_skip ⟨rfl, rfl, (hF.sub [(7, Str.val x4), (8, Str.val x5), (9, L a1 ([x6] : List Str) c1), (35, I p0.Op), (56, .bool (p0.Op == 6))] (by kernel_rfl)).eqs (by first | (simp only [hb]; done) | (simp only [hb]; rfl))⟩
   · exact wp_pure [(7, Str.val x4), (8, Str.val x5), (9, L a1 ([x6] : List Str) c1), (35, I p0.Op), (56, .bool (p0.Op == 13))] hF (by kernel_rfl) fun fr hF => ⟨rfl, rfl, hF.eqs (by first | (simp only [hb]; done) | (simp only [hb]; rfl))⟩
   refine (wp_if hF (b := ((p0.Op == 6) || (p0.Op == 13))) rfl (fun hb => ?_) (fun hb => ?_))
   · replace h := iteT hb h
     refine (wp_text' ?_)
     refine from_pure 2 [(61, L a1 ([x6] : List Str) c1), (62, Str.val x4)] hF (by kernel_rfl) fun fr hF => ?_
     refine q_lit (E := 9) hs hM0 [Str.val x4] (([x4] : List Str).map Flat.enc) ([x4] : List Str) rfl rfl hF [Str.val x4] rfl (fun w => by kernel_rfl) (css_flat _) rfl rfl rfl fun a28 c28 w53 S29 fr hs hp hF => ?_
     have hM0 := hM0.stp hp
     have hs : Sep [sl9 (L a28 ([x4] : List Str) c28) ([x4] : List Str), sl9 (L a1 ([x6] : List Str) c1) ([x6] : List Str)] w53 S29 := hs
     obtain ⟨x40, hx40, h⟩ := bindE h
     refine q_append 1 hs hM0 rfl Tryz.underlying30 el9 rfl rfl rfl hF rfl rfl (hs.rv 0 rfl) hx40 fun a29 c29 w54 S30 fr hs hp hF => ?_
     have hM0 := hM0.stp hp
     have hs : Sep [sl9 (L a28 ([x4] : List Str) c28) ([x4] : List Str), sl9 (L a29 x40 c29) x40] w54 S30 := hs
     have hs : Sep [sl9 (L a29 x40 c29) x40] w54 S30 := Sep.pick [1] hs (by decide) rfl
     refine from_pure 1 [(9, L a29 x40 c29)] hF (by kernel_rfl) fun fr hF => ?_
     refine from_end rfl ?_
     refine blk_normal (then_normal ?_)
     refine wp_seq (wp_text' ?_)
     refine from_pure 1 [(72, L a29 x40 c29)] hF (by kernel_rfl) fun fr hF => ?_
     obtain ⟨x41, hx41, h⟩ := bindE h
     refine s_call [L a29 x40 c29, Str.val (⟨[32]⟩)] Tryz.call13 rfl rfl hF rfl (spec_Join_ok n x40 (⟨[32]⟩) hx41 (hs.rv 0 rfl)) fun v w55 fr hRes hF => ?_
     obtain ⟨rfl, hc⟩ := hRes
     have hs := hs.ext hc
     have hM0 := hM0.ext hc
     have hs : Sep [] w55 S30 := Sep.pick [] hs (by decide) rfl
     refine from_pure 1 [(6, Str.val x41)] hF (by kernel_rfl) fun fr hF => ?_
     refine from_end rfl (then_normal ?_)
     obtain rfl := Option.some.inj h
     exact wp_ret (ret1 rfl hF rfl ⟨_, rfl, rfl, hM0.chg⟩)
   replace h := iteF hb h
   refine wp_seq ?_
   refine wp_seq (wp_pure [(8, Str.val x5), (9, L a1 ([x6] : List Str) c1), (35, I p0.Op), (65, .bool (p0.Op == 9))] hF (by kernel_rfl) fun fr hF => then_normal ?_)
   refine (wp_merge [(8, Str.val x5), (9, L a1 ([x6] : List Str) c1), (65, .bool ((p0.Op == 9) || (p0.Op == 11)))] hF (b := (p0.Op == 9)) rfl (fun hb => ?_) (fun hb => ?_) fun fr hF => then_normal ?_)
   · exact wp_skip ⟨rfl, rfl, (hF.sub [(8, Str.val x5), (9, L a1 ([x6] : List Str) c1), (65, .bool (p0.Op == 9))] (by kernel_rfl)).eqs (by first | (simp only [hb]; done) | (simp only [hb]; rfl))⟩
   · exact wp_pure [(8, Str.val x5), (9, L a1 ([x6] : List Str) c1), (65, .bool (p0.Op == 11))] hF (by kernel_rfl) fun fr hF => ⟨rfl, rfl, hF.eqs (by first | (simp only [hb]; done) | (simp only [hb]; rfl))⟩
   refine (wp_if hF (b := ((p0.Op == 9) || (p0.Op == 11))) rfl (fun hb => ?_) (fun hb => ?_))
   · replace h := iteT hb h
     refine (wp_text' ?_)
     refine from_pure 2 [(68, L a1 ([x6] : List Str) c1), (69, Str.val x5)] hF (by kernel_rfl) fun fr hF => ?_
     refine q_lit (E := 9) hs hM0 [Str.val x5] (([x5] : List Str).map Flat.enc) ([x5] : List Str) rfl rfl hF [Str.val x5] rfl (fun w => by kernel_rfl) (css_flat _) rfl rfl rfl fun a30 c30 w56 S31 fr hs hp hF => ?_
     have hM0 := hM0.stp hp
     have hs : Sep [sl9 (L a30 ([x5] : List Str) c30) ([x5] : List Str), sl9 (L a1 ([x6] : List Str) c1) ([x6] : List Str)] w56 S31 := hs
     obtain ⟨x42, hx42, h⟩ := bindE h
     refine q_append 1 hs hM0 rfl Tryz.underlying30 el9 rfl rfl rfl hF rfl rfl (hs.rv 0 rfl) hx42 fun a31 c31 w57 S32 fr hs hp hF => ?_
     have hM0 := hM0.stp hp
     have hs : Sep [sl9 (L a30 ([x5] : List Str) c30) ([x5] : List Str), sl9 (L a31 x42 c31) x42] w57 S32 := hs
     have hs : Sep [sl9 (L a31 x42 c31) x42] w57 S32 := Sep.pick [1] hs (by decide) rfl
     refine from_pure 1 [(9, L a31 x42 c31)] hF (by kernel_rfl) fun fr hF => ?_
     refine from_end rfl ?_
     refine blk_normal (then_normal ?_)
     refine wp_seq (wp_text' ?_)
     refine from_pure 1 [(72, L a31 x42 c31)] hF (by kernel_rfl) fun fr hF => ?_
     obtain ⟨x43, hx43, h⟩ := bindE h
     refine s_call [L a31 x42 c31, Str.val (⟨[32]⟩)] Tryz.call13 rfl rfl hF rfl (spec_Join_ok n x42 (⟨[32]⟩) hx43 (hs.rv 0 rfl)) fun v w58 fr hRes hF => ?_
     obtain ⟨rfl, hc⟩ := hRes
     have hs := hs.ext hc
     have hM0 := hM0.ext hc
     have hs : Sep [] w58 S32 := Sep.pick [] hs (by decide) rfl
     refine from_pure 1 [(6, Str.val x43)] hF (by kernel_rfl) fun fr hF => ?_
     refine from_end rfl (then_normal ?_)
     obtain rfl := Option.some.inj h
     exact wp_ret (ret1 rfl hF rfl ⟨_, rfl, rfl, hM0.chg⟩)
   replace h := iteF hb h
   refine (wp_skip ?_)
   refine blk_normal (then_normal ?_)
   refine wp_seq (wp_text' ?_)
   refine from_pure 1 [(72, L a1 ([x6] : List Str) c1)] hF (by kernel_rfl) fun fr hF => ?_
   obtain ⟨x44, hx44, h⟩ := bindE h
   refine s_call [L a1 ([x6] : List Str) c1, Str.val (⟨[32]⟩)] Tryz.call13 rfl rfl hF rfl (spec_Join_ok n ([x6] : List Str) (⟨[32]⟩) hx44 (hs.rv 0 rfl)) fun v w59 fr hRes hF => ?_
   obtain ⟨rfl, hc⟩ := hRes
   have hs := hs.ext hc
   have hM0 := hM0.ext hc
   have hs : Sep [] w59 S2 := Sep.pick [] hs (by decide) rfl
   refine from_pure 1 [(6, Str.val x44)] hF (by kernel_rfl) fun fr hF => ?_
   refine from_end rfl (then_normal ?_)
   obtain rfl := Option.some.inj h
   exact wp_ret (ret1 rfl hF rfl ⟨_, rfl, rfl, hM0.chg⟩)
 replace h := iteF hb h
 refine wp_seq (wp_pure [(3, B b1 0), (7, Str.val x4), (8, Str.val x5), (9, L a1 ([x6] : List Str) c1), (35, I p0.Op), (44, .bool (p0.Op == 7))] hF (by kernel_rfl) fun fr hF => then_normal ?_)
 refine (wp_merge [(3, B b1 0), (7, Str.val x4), (8, Str.val x5), (9, L a1 ([x6] : List Str) c1), (35, I p0.Op), (44, .bool ((p0.Op == 7) || (p0.Op == 8)))] hF (b := (p0.Op == 7)) rfl (fun hb => ?_) (fun hb => ?_) fun fr hF => then_normal ?_)
 · exact wp_skip ⟨rfl, rfl, (hF.sub [(3, B b1 0), (7, Str.val x4), (8, Str.val x5), (9, L a1 ([x6] : List Str) c1), (35, I p0.Op), (44, .bool (p0.Op == 7))] (by kernel_rfl)).eqs (by first | (simp only [hb]; done) | (simp only [hb]; rfl))⟩
 · exact wp_pure [(3, B b1 0), (7, Str.val x4), (8, Str.val x5), (9, L a1 ([x6] : List Str) c1), (35, I p0.Op), (44, .bool (p0.Op == 8))] hF (by kernel_rfl) fun fr hF => ⟨rfl, rfl, hF.eqs (by first | (simp only [hb]; done) | (simp only [hb]; rfl))⟩
 refine (wp_if hF (b := ((p0.Op == 7) || (p0.Op == 8))) rfl (fun hb => ?_) (fun hb => ?_))
 · replace h := iteT hb h
   refine (wp_text' ?_)
   refine from_pure 3 [(49, L a1 ([x6] : List Str) c1), (50, Str.val x4), (51, B b1 2)] hF (by kernel_rfl) fun fr hF => ?_
   refine s_loadBox (I p0.B) ty3 rfl rfl hF rfl (hs.bx 1 rfl) rfl rfl fun fr hF => ?_
   have hs : Sep [sl9 (L a1 ([x6] : List Str) c1) ([x6] : List Str)] w6 S2 := Sep.pick [0] hs (by decide) rfl
   obtain ⟨x45, hx45, h⟩ := bindE h
   refine s_call [I p0.B] Tryz.call52 rfl rfl hF rfl (spec_l05RegName_ok n p0.B hx45) fun v w60 fr hRes hF => ?_
   obtain ⟨rfl, hc⟩ := hRes
   have hs := hs.ext hc
   have hM0 := hM0.ext hc
   refine q_lit (E := 9) hs hM0 [Str.val x4, Str.val x45] (([x4, x45] : List Str).map Flat.enc) ([x4, x45] : List Str) rfl rfl hF [Str.val x4, Str.val x45] rfl (fun w => by kernel_rfl) (css_flat _) rfl rfl rfl fun a32 c32 w61 S33 fr hs hp hF => ?_
   have hM0 := hM0.stp hp
   have hs : Sep [sl9 (L a32 ([x4, x45] : List Str) c32) ([x4, x45] : List Str), sl9 (L a1 ([x6] : List Str) c1) ([x6] : List Str)] w61 S33 := hs
   obtain ⟨x46, hx46, h⟩ := bindE h
   refine q_append 1 hs hM0 rfl Tryz.underlying30 el9 rfl rfl rfl hF rfl rfl (hs.rv 0 rfl) hx46 fun a33 c33 w62 S34 fr hs hp hF => ?_
   have hM0 := hM0.stp hp
   have hs : Sep [sl9 (L a32 ([x4, x45] : List Str) c32) ([x4, x45] : List Str), sl9 (L a33 x46 c33) x46] w62 S34 := hs
   have hs : Sep [sl9 (L a33 x46 c33) x46] w62 S34 := Sep.pick [1] hs (by decide) rfl
   refine from_pure 1 [(9, L a33 x46 c33)] hF (by kernel_rfl) fun fr hF => ?_
   refine from_end rfl ?_
   refine blk_normal (then_normal ?_)
   refine wp_seq (wp_text' ?_)
   refine from_pure 1 [(72, L a33 x46 c33)] hF (by kernel_rfl) fun fr hF => ?_
   obtain ⟨x47, hx47, h⟩ := bindE h
   refine s_call [L a33 x46 c33, Str.val (⟨[32]⟩)] Tryz.call13 rfl rfl hF rfl (spec_Join_ok n x46 (⟨[32]⟩) hx47 (hs.rv 0 rfl)) fun v w63 fr hRes hF => ?_
   obtain ⟨rfl, hc⟩ := hRes
   have hs := hs.ext hc
   have hM0 := hM0.ext hc
   have hs : Sep [] w63 S34 := Sep.pick [] hs (by decide) rfl
   refine from_pure 1 [(6, Str.val x47)] hF (by kernel_rfl) fun fr hF => ?_
   refine from_end rfl (then_normal ?_)
   obtain rfl := Option.some.inj h
   exact wp_ret (ret1 rfl hF rfl ⟨_, rfl, rfl, hM0.chg⟩)
 replace h := iteF hb h
 have hs : Sep [sl9 (L a1 ([x6] : List Str) c1) ([x6] : List Str)] w6 S2 := Sep.pick [0] hs (by decide) rfl
 refine wp_seq ?_
 refine wp_seq (wp_pure [(7, Str.val x4), (8, Str.val x5), (9, L a1 ([x6] : List Str) c1), (35, I p0.Op), (56, .bool (p0.Op == 4))] hF (by kernel_rfl) fun fr hF => then_normal ?_)
 refine (wp_if hF (b := (p0.Op == 4)) rfl (fun hb => ?_) (fun hb => ?_))
 · replace h := iteT hb h
   refine (wp_skip (then_normal ?_))
   refine (wp_if hF (b := (p0.Op == 4)) rfl (fun hb => ?_) (fun hb => ?_))
   · replace h := iteT hb h
     refine (wp_text' ?_)
     refine from_pure 2 [(61, L a1 ([x6] : List Str) c1), (62, Str.val x4)] hF (by kernel_rfl) fun fr hF => ?_
     refine q_lit (E := 9) hs hM0 [Str.val x4] (([x4] : List Str).map Flat.enc) ([x4] : List Str) rfl rfl hF [Str.val x4] rfl (fun w => by kernel_rfl) (css_flat _) rfl rfl rfl fun a34 c34 w65 S35 fr hs hp hF => ?_
     have hM0 := hM0.stp hp
     have hs : Sep [sl9 (L a34 ([x4] : List Str) c34) ([x4] : List Str), sl9 (L a1 ([x6] : List Str) c1) ([x6] : List Str)] w65 S35 := hs
     obtain ⟨x48, hx48, h⟩ := bindE h
     refine q_append 1 hs hM0 rfl Tryz.underlying30 el9 rfl rfl rfl hF rfl rfl (hs.rv 0 rfl) hx48 fun a35 c35 w66 S36 fr hs hp hF => ?_
     have hM0 := hM0.stp hp
     have hs : Sep [sl9 (L a34 ([x4] : List Str) c34) ([x4] : List Str), sl9 (L a35 x48 c35) x48] w66 S36 := hs
     have hs : Sep [sl9 (L a35 x48 c35) x48] w66 S36 := Sep.pick [1] hs (by decide) rfl
     refine from_pure 1 [(9, L a35 x48 c35)] hF (by kernel_rfl) fun fr hF => ?_
     refine from_end rfl ?_
     refine blk_normal (then_normal ?_)
     refine wp_seq (wp_text' ?_)
     refine from_pure 1 [(72, L a35 x48 c35)] hF (by kernel_rfl) fun fr hF => ?_
     obtain ⟨x49, hx49, h⟩ := bindE h
     refine s_call [L a35 x48 c35, Str.val (⟨[32]⟩)] Tryz.call13 rfl rfl hF rfl (spec_Join_ok n x48 (⟨[32]⟩) hx49 (hs.rv 0 rfl)) fun v w67 fr hRes hF => ?_
     obtain ⟨rfl, hc⟩ := hRes
     have hs := hs.ext hc
     have hM0 := hM0.ext hc
     have hs : Sep [] w67 S36 := Sep.pick [] hs (by decide) rfl
     refine from_pure 1 [(6, Str.val x49)] hF (by kernel_rfl) fun fr hF => ?_
     refine from_end rfl (then_normal ?_)
     obtain rfl := Option.some.inj h
     exact wp_ret (ret1 rfl hF rfl ⟨_, rfl, rfl, hM0.chg⟩)
   replace h := iteF hb h
   refine wp_seq ?_
   refine wp_seq (wp_pure [(8, Str.val x5), (9, L a1 ([x6] : List Str) c1), (35, I p0.Op), (65, .bool (p0.Op == 9))] hF (by kernel_rfl) fun fr hF => then_normal ?_)
   refine (wp_merge [(8, Str.val x5), (9, L a1 ([x6] : List Str) c1), (65, .bool ((p0.Op == 9) || (p0.Op == 11)))] hF (b := (p0.Op == 9)) rfl (fun hb => ?_) (fun hb => ?_) fun fr hF => then_normal ?_)
   · exact wp_skip ⟨rfl, rfl, (hF.sub [(8, Str.val x5), (9, L a1 ([x6] : List Str) c1), (65, .bool (p0.Op == 9))] (by kernel_rfl)).eqs (by first | (simp only [hb]; done) | (simp only [hb]; rfl))⟩
   · exact wp_pure [(8, Str.val x5), (9, L a1 ([x6] : List Str) c1), (65, .bool (p0.Op == 11))] hF (by kernel_rfl) fun fr hF => ⟨rfl, rfl, hF.eqs (by first | (simp only [hb]; done) | (simp only [hb]; rfl))⟩
   refine (wp_if hF (b := ((p0.Op == 9) || (p0.Op == 11))) rfl (fun hb => ?_) (fun hb => ?_))
   · replace h := iteT hb h
     refine (wp_text' ?_)
     refine from_pure 2 [(68, L a1 ([x6] : List Str) c1), (69, Str.val x5)] hF (by kernel_rfl) fun fr hF => ?_
     refine q_lit (E := 9) hs hM0 [Str.val x5] (([x5] : List Str).map Flat.enc) ([x5] : List Str) rfl rfl hF [Str.val x5] rfl (fun w => by kernel_rfl) (css_flat _) rfl rfl rfl fun a36 c36 w68 S37 fr hs hp hF => ?_
     have hM0 := hM0.stp hp
     have hs : Sep [sl9 (L a36 ([x5] : List Str) c36) ([x5] : List Str), sl9 (L a1 ([x6] : List Str) c1) ([x6] : List Str)] w68 S37 := hs
     obtain ⟨x50, hx50, h⟩ := bindE h
     refine q_append 1 hs hM0 rfl Tryz.underlying30 el9 rfl rfl rfl hF rfl rfl (hs.rv 0 rfl) hx50 fun a37 c37 w69 S38 fr hs hp hF => ?_
     have hM0 := hM0.stp hp
     have hs : Sep [sl9 (L a36 ([x5] : List Str) c36) ([x5] : List Str), sl9 (L a37 x50 c37) x50] w69 S38 := hs
     have hs : Sep [sl9 (L a37 x50 c37) x50] w69 S38 := Sep.pick [1] hs (by decide) rfl
     refine from_pure 1 [(9, L a37 x50 c37)] hF (by kernel_rfl) fun fr hF => ?_
     refine from_end rfl ?_
     refine blk_normal (then_normal ?_)
     refine wp_seq (wp_text' ?_)
     refine from_pure 1 [(72, L a37 x50 c37)] hF (by kernel_rfl) fun fr hF => ?_
     obtain ⟨x51, hx51, h⟩ := bindE h
     refine s_call [L a37 x50 c37, Str.val (⟨[32]⟩)] Tryz.call13 rfl rfl hF rfl (spec_Join_ok n x50 (⟨[32]⟩) hx51 (hs.rv 0 rfl)) fun v w70 fr hRes hF => ?_
     obtain ⟨rfl, hc⟩ := hRes
     have hs := hs.ext hc
     have hM0 := hM0.ext hc
     have hs : Sep [] w70 S38 := Sep.pick [] hs (by decide) rfl
     refine from_pure 1 [(6, Str.val x51)] hF (by kernel_rfl) fun fr hF => ?_
     refine from_end rfl (then_normal ?_)
     obtain rfl := Option.some.inj h
     exact wp_ret (ret1 rfl hF rfl ⟨_, rfl, rfl, hM0.chg⟩)
   replace h := iteF hb h
   refine (wp_skip ?_)
   refine blk_normal (then_normal ?_)
   refine wp_seq (wp_text' ?_)
   refine from_pure 1 [(72, L a1 ([x6] : List Str) c1)] hF (by kernel_rfl) fun fr hF => ?_
   obtain ⟨x52, hx52, h⟩ := bindE h
   refine s_call [L a1 ([x6] : List Str) c1, Str.val (⟨[32]⟩)] Tryz.call13 rfl rfl hF rfl (spec_Join_ok n ([x6] : List Str) (⟨[32]⟩) hx52 (hs.rv 0 rfl)) fun v w71 fr hRes hF => ?_
   obtain ⟨rfl, hc⟩ := hRes
   have hs := hs.ext hc
   have hM0 := hM0.ext hc
   have hs : Sep [] w71 S2 := Sep.pick [] hs (by decide) rfl
   refine from_pure 1 [(6, Str.val x52)] hF (by kernel_rfl) fun fr hF => ?_
   refine from_end rfl (then_normal ?_)
   obtain rfl := Option.some.inj h
   exact wp_ret (ret1 rfl hF rfl ⟨_, rfl, rfl, hM0.chg⟩)
 replace h := iteF hb h
 refine wp_seq (wp_pure [(7, Str.val x4), (8, Str.val x5), (9, L a1 ([x6] : List Str) c1), (35, I p0.Op), (56, .bool (p0.Op == 5))] hF (by kernel_rfl) fun fr hF => then_normal ?_)
 refine (wp_if hF (b := (p0.Op == 5)) rfl (fun hb => ?_) (fun hb => ?_))
 · replace h := iteT hb h
   refine (wp_skip (then_normal ?_))
   refine (wp_if hF (b := (p0.Op == 5)) rfl (fun hb => ?_) (fun hb => ?_))
   · replace h := iteT hb h
     refine (wp_text' ?_)
     refine from_pure 2 [(61, L a1 ([x6] : List Str) c1), (62, Str.val x4)] hF (by kernel_rfl) fun fr hF => ?_
     refine q_lit (E := 9) hs hM0 [Str.val x4] (([x4] : List Str).map Flat.enc) ([x4] : List Str) rfl rfl hF [Str.val x4] rfl (fun w => by kernel_rfl) (css_flat _) rfl rfl rfl fun a38 c38 w72 S39 fr hs hp hF => ?_
     have hM0 := hM0.stp hp
     have hs : Sep [sl9 (L a38 ([x4] : List Str) c38) ([x4] : List Str), sl9 (L a1 ([x6] : List Str) c1) ([x6] : List Str)] w72 S39 := hs
     obtain ⟨x53, hx53, h⟩ := bindE h
     refine q_append 1 hs hM0 rfl Tryz.underlying30 el9 rfl rfl rfl hF rfl rfl (hs.rv 0 rfl) hx53 fun a39 c39 w73 S40 fr hs hp hF => ?_
     have hM0 := hM0.stp hp
     have hs : Sep [sl9 (L a38 ([x4] : List Str) c38) ([x4] : List Str), sl9 (L a39 x53 c39) x53] w73 S40 := hs
     have hs : Sep [sl9 (L a39 x53 c39) x53] w73 S40 := Sep.pick [1] hs (by decide) rfl
     refine from_pure 1 [(9, L a39 x53 c39)] hF (by kernel_rfl) fun fr hF => ?_
     refine from_end rfl ?_
     refine blk_normal (then_normal ?_)
     refine wp_seq (wp_text' ?_)
     refine from_pure 1 [(72, L a39 x53 c39)] hF (by kernel_rfl) fun fr hF => ?_
     obtain ⟨x54, hx54, h⟩ := bindE h
     refine s_call [L a39 x53 c39, Str.val (⟨[32]⟩)] Tryz.call13 rfl rfl hF rfl (spec_Join_ok n x53 (⟨[32]⟩) hx54 (hs.rv 0 rfl)) fun v w74 fr hRes hF => ?_
     obtain ⟨rfl, hc⟩ := hRes
     have hs := hs.ext hc
     have hM0 := hM0.ext hc
     have hs : Sep [] w74 S40 := Sep.pick [] hs (by decide) rfl
     refine from_pure 1 [(6, Str.val x54)] hF (by kernel_rfl) fun fr hF => ?_
     refine from_end rfl (then_normal ?_)
     obtain rfl := Option.some.inj h
     exact wp_ret (ret1 rfl hF rfl ⟨_, rfl, rfl, hM0.chg⟩)
   replace h := iteF hb h
   refine wp_seq ?_
   refine wp_seq (wp_pure [(8, Str.val x5), (9, L a1 ([x6] : List Str) c1), (35, I p0.Op), (65, .bool (p0.Op == 9))] hF (by kernel_rfl) fun fr hF => then_normal ?_)
   refine (wp_merge [(8, Str.val x5), (9, L a1 ([x6] : List Str) c1), (65, .bool ((p0.Op == 9) || (p0.Op == 11)))] hF (b := (p0.Op == 9)) rfl (fun hb => ?_) (fun hb => ?_) fun fr hF => then_normal ?_)
   · exact wp_skip ⟨rfl, rfl, (hF.sub [(8, Str.val x5), (9, L a1 ([x6] : List Str) c1), (65, .bool (p0.Op == 9))] (by kernel_rfl)).eqs (by first | (simp only [hb]; done) | (simp only [hb]; rfl))⟩
   · exact wp_pure [(8, Str.val x5), (9, L a1 ([x6] : List Str) c1), (65, .bool (p0.Op == 11))] hF (by kernel_rfl) fun fr hF => ⟨rfl, rfl, hF.eqs (by first | (simp only [hb]; done) | (simp only [hb]; rfl))⟩
   refine (wp_if hF (b := ((p0.Op == 9) || (p0.Op == 11))) rfl (fun hb => ?_) (fun hb => ?_))
   · replace h := iteT hb h
     refine (wp_text' ?_)
     refine from_pure 2 [(68, L a1 ([x6] : List Str) c1), (69, Str.val x5)] hF (by kernel_rfl) fun fr hF => ?_
     refine q_lit (E := 9) hs hM0 [Str.val x5] (([x5] : List Str).map Flat.enc) ([x5] : List Str) rfl rfl hF [Str.val x5] rfl (fun w => by kernel_rfl) (css_flat _) rfl rfl rfl fun a40 c40 w75 S41 fr hs hp hF => ?_
     have hM0 := hM0.stp hp
     have hs : Sep [sl9 (L a40 ([x5] : List Str) c40) ([x5] : List Str), sl9 (L a1 ([x6] : List Str) c1) ([x6] : List Str)] w75 S41 := hs
     obtain ⟨x55, hx55, h⟩ := bindE h
     refine q_append 1 hs hM0 rfl Tryz.underlying30 el9 rfl rfl rfl hF rfl rfl (hs.rv 0 rfl) hx55 fun a41 c41 w76 S42 fr hs hp hF => ?_
     have hM0 := hM0.stp hp
     have hs : Sep [sl9 (L a40 ([x5] : List Str) c40) ([x5] : List Str), sl9 (L a41 x55 c41) x55] w76 S42 := hs
     have hs : Sep [sl9 (L a41 x55 c41) x55] w76 S42 := Sep.pick [1] hs (by decide) rfl
     refine from_pure 1 [(9, L a41 x55 c41)] hF (by kernel_rfl) fun fr hF => ?_
     refine from_end rfl ?_
     refine blk_normal (then_normal ?_)
     refine wp_seq (wp_text' ?_)
     refine from_pure 1 [(72, L a41 x55 c41)] hF (by kernel_rfl) fun fr hF => ?_
     obtain ⟨x56, hx56, h⟩ := bindE h
     refine s_call [L a41 x55 c41, Str.val (⟨[32]⟩)] Tryz.call13 rfl rfl hF rfl (spec_Join_ok n x55 (⟨[32]⟩) hx56 (hs.rv 0 rfl)) fun v w77 fr hRes hF => ?_
     obtain ⟨rfl, hc⟩ := hRes
     have hs := hs.ext hc
     have hM0 := hM0.ext hc
     have hs : Sep [] w77 S42 := Sep.pick [] hs (by decide) rfl
     refine from_pure 1 [(6, Str.val x56)] hF (by kernel_rfl) fun fr hF => ?_
     refine from_end rfl (then_normal ?_)
     obtain rfl := Option.some.inj h
     exact wp_ret (ret1 rfl hF rfl ⟨_, rfl, rfl, hM0.chg⟩)
   replace h := iteF hb h
   refine (wp_skip ?_)
   refine blk_normal (then_normal ?_)
   refine wp_seq (wp_text' ?_)
   refine from_pure 1 [(72, L a1 ([x6] : List Str) c1)] hF (by kernel_rfl) fun fr hF => ?_
   obtain ⟨x57, hx57, h⟩ := bindE h
   refine s_call [L a1 ([x6] : List Str) c1, Str.val (⟨[32]⟩)] Tryz.call13 rfl rfl hF rfl (spec_Join_ok n ([x6] : List Str) (⟨[32]⟩) hx57 (hs.rv 0 rfl)) fun v w78 fr hRes hF => ?_
   obtain ⟨rfl, hc⟩ := hRes
   have hs := hs.ext hc
   have hM0 := hM0.ext hc
   have hs : Sep [] w78 S2 := Sep.pick [] hs (by decide) rfl
   refine from_pure 1 [(6, Str.val x57)] hF (by kernel_rfl) fun fr hF => ?_
   refine from_end rfl (then_normal ?_)
   obtain rfl := Option.some.inj h
   exact wp_ret (ret1 rfl hF rfl ⟨_, rfl, rfl, hM0.chg⟩)
 replace h := iteF hb h
 refine wp_seq (wp_pure [(7, Str.val x4), (8, Str.val x5), (9, L a1 ([x6] : List Str) c1), (35, I p0.Op), (56, .bool (p0.Op == 6))] hF (by kernel_rfl) fun fr hF => then_normal ?_)
 refine (wp_merge [(7, Str.val x4), (8, Str.val x5), (9, L a1 ([x6] : List Str) c1), (35, I p0.Op), (56, .bool ((p0.Op == 6) || (p0.Op == 13)))] hF (b := (p0.Op == 6)) rfl (fun hb => ?_) (fun hb => ?_) fun fr hF => then_normal ?_)
 · exact wp_skip ⟨rfl, rfl, (hF.sub [(7, Str.val x4), (8, Str.val x5), (9, L a1 ([x6] : List Str) c1), (35, I p0.Op), (56, .bool (p0.Op == 6))] (by kernel_rfl)).eqs (by first | (simp only [hb]; done) | (simp only [hb]; rfl))⟩
 · exact wp_pure [(7, Str.val x4), (8, Str.val x5), (9, L a1 ([x6] : List Str) c1), (35, I p0.Op), (56, .bool (p0.Op == 13))] hF (by kernel_rfl) fun fr hF => ⟨rfl, rfl, hF.eqs (by first | (simp only [hb]; done) | (simp only [hb]; rfl))⟩
 refine (wp_if hF (b := ((p0.Op == 6) || (p0.Op == 13))) rfl (fun hb => ?_) (fun hb => ?_))
 · replace h := iteT hb h
   refine (wp_text' ?_)
   refine from_pure 2 [(61, L a1 ([x6] : List Str) c1), (62, Str.val x4)] hF (by kernel_rfl) fun fr hF => ?_
   refine q_lit (E := 9) hs hM0 [Str.val x4] (([x4] : List Str).map Flat.enc) ([x4] : List Str) rfl rfl hF [Str.val x4] rfl (fun w => by kernel_rfl) (css_flat _) rfl rfl rfl fun a42 c42 w79 S43 fr hs hp hF => ?_
   have hM0 := hM0.stp hp
   have hs : Sep [sl9 (L a42 ([x4] : List Str) c42) ([x4] : List Str), sl9 (L a1 ([x6] : List Str) c1) ([x6] : List Str)] w79 S43 := hs
   obtain ⟨x58, hx58, h⟩ := bindE h
   refine q_append 1 hs hM0 rfl Tryz.underlying30 el9 rfl rfl rfl hF rfl rfl (hs.rv 0 rfl) hx58 fun a43 c43 w80 S44 fr hs hp hF => ?_
   have hM0 := hM0.stp hp
   have hs : Sep [sl9 (L a42 ([x4] : List Str) c42) ([x4] : List Str), sl9 (L a43 x58 c43) x58] w80 S44 := hs
   have hs : Sep [sl9 (L a43 x58 c43) x58] w80 S44 := Sep.pick [1] hs (by decide) rfl
   refine from_pure 1 [(9, L a43 x58 c43)] hF (by kernel_rfl) fun fr hF => ?_
   refine from_end rfl ?_
   refine blk_normal (then_normal ?_)
   refine wp_seq (wp_text' ?_)
   refine from_pure 1 [(72, L a43 x58 c43)] hF (by kernel_rfl) fun fr hF => ?_
   obtain ⟨x59, hx59, h⟩ := bindE h
   refine s_call [L a43 x58 c43, Str.val (⟨[32]⟩)] Tryz.call13 rfl rfl hF rfl (spec_Join_ok n x58 (⟨[32]⟩) hx59 (hs.rv 0 rfl)) fun v w81 fr hRes hF => ?_
   obtain ⟨rfl, hc⟩ := hRes
   have hs := hs.ext hc
   have hM0 := hM0.ext hc
   have hs : Sep [] w81 S44 := Sep.pick [] hs (by decide) rfl
   refine from_pure 1 [(6, Str.val x59)] hF (by kernel_rfl) fun fr hF => ?_
   refine from_end rfl (then_normal ?_)
   obtain rfl := Option.some.inj h
   exact wp_ret (ret1 rfl hF rfl ⟨_, rfl, rfl, hM0.chg⟩)
 replace h := iteF hb h
 refine wp_seq ?_
 refine wp_seq (wp_pure [(8, Str.val x5), (9, L a1 ([x6] : List Str) c1), (35, I p0.Op), (65, .bool (p0.Op == 9))] hF (by kernel_rfl) fun fr hF => then_normal ?_)
 refine (wp_merge [(8, Str.val x5), (9, L a1 ([x6] : List Str) c1), (65, .bool ((p0.Op == 9) || (p0.Op == 11)))] hF (b := (p0.Op == 9)) rfl (fun hb => ?_) (fun hb => ?_) fun fr hF => then_normal ?_)
 · exact wp_skip ⟨rfl, rfl, (hF.sub [(8, Str.val x5), (9, L a1 ([x6] : List Str) c1), (65, .bool (p0.Op == 9))] (by kernel_rfl)).eqs (by first | (simp only [hb]; done) | (simp only [hb]; rfl))⟩
 · exact wp_pure [(8, Str.val x5), (9, L a1 ([x6] : List Str) c1), (65, .bool (p0.Op == 11))] hF (by kernel_rfl) fun fr hF => ⟨rfl, rfl, hF.eqs (by first | (simp only [hb]; done) | (simp only [hb]; rfl))⟩
 refine (wp_if hF (b := ((p0.Op == 9) || (p0.Op == 11))) rfl (fun hb => ?_) (fun hb => ?_))
 · replace h := iteT hb h
   refine (wp_text' ?_)
   refine from_pure 2 [(68, L a1 ([x6] : List Str) c1), (69, Str.val x5)] hF (by kernel_rfl) fun fr hF => ?_
   refine q_lit (E := 9) hs hM0 [Str.val x5] (([x5] : List Str).map Flat.enc) ([x5] : List Str) rfl rfl hF [Str.val x5] rfl (fun w => by kernel_rfl) (css_flat _) rfl rfl rfl fun a44 c44 w82 S45 fr hs hp hF => ?_
   have hM0 := hM0.stp hp
   have hs : Sep [sl9 (L a44 ([x5] : List Str) c44) ([x5] : List Str), sl9 (L a1 ([x6] : List Str) c1) ([x6] : List Str)] w82 S45 := hs
   obtain ⟨x60, hx60, h⟩ := bindE h
   refine q_append 1 hs hM0 rfl Tryz.underlying30 el9 rfl rfl rfl hF rfl rfl (hs.rv 0 rfl) hx60 fun a45 c45 w83 S46 fr hs hp hF => ?_
   have hM0 := hM0.stp hp
   have hs : Sep [sl9 (L a44 ([x5] : List Str) c44) ([x5] : List Str), sl9 (L a45 x60 c45) x60] w83 S46 := hs
   have hs : Sep [sl9 (L a45 x60 c45) x60] w83 S46 := Sep.pick [1] hs (by decide) rfl
   refine from_pure 1 [(9, L a45 x60 c45)] hF (by kernel_rfl) fun fr hF => ?_
   refine from_end rfl ?_
   refine blk_normal (then_normal ?_)
   refine wp_seq (wp_text' ?_)
   refine from_pure 1 [(72, L a45 x60 c45)] hF (by kernel_rfl) fun fr hF => ?_
   obtain ⟨x61, hx61, h⟩ := bindE h
   refine s_call [L a45 x60 c45, Str.val (⟨[32]⟩)] Tryz.call13 rfl rfl hF rfl (spec_Join_ok n x60 (⟨[32]⟩) hx61 (hs.rv 0 rfl)) fun v w84 fr hRes hF => ?_
   obtain ⟨rfl, hc⟩ := hRes
   have hs := hs.ext hc
   have hM0 := hM0.ext hc
   have hs : Sep [] w84 S46 := Sep.pick [] hs (by decide) rfl
   refine from_pure 1 [(6, Str.val x61)] hF (by kernel_rfl) fun fr hF => ?_
   refine from_end rfl (then_normal ?_)
   obtain rfl := Option.some.inj h
   exact wp_ret (ret1 rfl hF rfl ⟨_, rfl, rfl, hM0.chg⟩)
 replace h := iteF hb h
 refine (wp_skip ?_)
 refine blk_normal (then_normal ?_)
 refine wp_seq (wp_text' ?_)
 refine from_pure 1 [(72, L a1 ([x6] : List Str) c1)] hF (by kernel_rfl) fun fr hF => ?_
 obtain ⟨x62, hx62, h⟩ := bindE h
 refine s_call [L a1 ([x6] : List Str) c1, Str.val (⟨[32]⟩)] Tryz.call13 rfl rfl hF rfl (spec_Join_ok n ([x6] : List Str) (⟨[32]⟩) hx62 (hs.rv 0 rfl)) fun v w85 fr hRes hF => ?_
 obtain ⟨rfl, hc⟩ := hRes
 have hs := hs.ext hc
 have hM0 := hM0.ext hc
 have hs : Sep [] w85 S2 := Sep.pick [] hs (by decide) rfl
 refine from_pure 1 [(6, Str.val x62)] hF (by kernel_rfl) fun fr hF => ?_
 refine from_end rfl (then_normal ?_)
 obtain rfl := Option.some.inj h
 exact wp_ret (ret1 rfl hF rfl ⟨_, rfl, rfl, hM0.chg⟩)
end Go.Proofs.YtmmhbhhcloobnaaGreatDoor
