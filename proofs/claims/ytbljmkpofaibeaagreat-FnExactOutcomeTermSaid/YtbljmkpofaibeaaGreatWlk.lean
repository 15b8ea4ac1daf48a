/- The walks, printed by a program. -/
import Derived.Test.YtbljmkpofaibeaaGreatWlkA
set_option linter.unusedVariables false
set_option maxRecDepth 100000
namespace Go.Proofs.YtbljmkpofaibeaaGreat
open Go.GL Go.Maps Go.WideMaps
theorem impl_JoinWords_ok {p0 p1 p2 p3 r} (h : impl_JoinWords p0 p1 p2 p3 = some r) : Con Tryz.prog 200 [I p0, I p1, I p2, I p3] [] [] fun (_ : Unit) => ([I r], [], []) := by
 unfold impl_JoinWords at h
 refine En Tryz.func200 rfl Tryz.ntmps200 fun _ fr w c => ?_
 refine P0 [] c fun _ c => S0 (Bd h fun x1 hx1 h => Bd h fun x2 hx2 h => S0 (rZ [(2, .eq (.bool x1)), (7, .eq (.bool x2))] [] mix c ⟨Ncl c (kN (impl_WordOk_ok hx1)) trivial Tryz.call111, Ncl c (fun hg => impl_WordOk_ok (iteF (gcF hg) hx2)) trivial Tryz.call111, trivial⟩ fun _ _ c => I0 c h (fun h => ?_) fun h => ?_))
 refine P0 [] c fun _ c => ?_
 cases h
 exact wp_ret (tr (Rt c () [] []))
 refine K0 (T0 (Fp [] 3 c fun _ c => Bd h fun x3 hx3 h => Eshl c hx3 fun _ c => ?_))
 refine Fp [] 3 c fun _ c => E0 ?_
 cases h
 exact wp_ret (Rt c () [] [])

theorem impl_shiftWord_ok {p0 p1 p2 p3 r} (h : impl_shiftWord p0 p1 p2 p3 = some r) : Con Tryz.prog 217 [I p0, I p1, I p2, I p3] [] [] fun (_ : Unit) => ([I r], [], []) := by
 unfold impl_shiftWord at h
 refine En Tryz.func217 rfl Tryz.ntmps217 fun _ fr w c => ?_
 refine P0 [] c fun _ c => S0 (P0 [] c fun _ c => I0 c h (fun h => ?_) fun h => ?_)
 refine T0 (Fp [] 3 c fun _ c => Bd h fun x1 hx1 h => Ca [] c (impl_SignedOf_ok hx1) trivial Tryz.call216 fun _ _ _ c => ?_)
 refine Fp [] 5 c fun _ c => Bd h fun x2 hx2 h => Eshr c hx2 fun _ c => ?_
 refine Bd h fun x3 hx3 h => Ca [] c (impl_WordOf_ok hx3) trivial Tryz.call215 fun _ _ _ c => ?_
 refine Fp [] 1 c fun _ c => E0 ?_
 obtain rfl := sj h
 exact wp_ret (tr (Rt c () [] []))
 refine K0 (S0 (P0 [] c fun _ c => I0 c h (fun h => ?_) fun h => ?_))
 refine P0 [] c fun _ c => ?_
 obtain rfl := sj h
 exact wp_ret (tr (Rt c () [] []))
 refine K0 (S0 (P0 [] c fun _ c => I0 c h (fun h => ?_) fun h => ?_))
 refine T0 (Fp [] 4 c fun _ c => Bd h fun x4 hx4 h => Eshl c hx4 fun _ c => ?_)
 refine Bd h fun x5 hx5 h => Ca [] c (impl_WordOf_ok hx5) trivial Tryz.call215 fun _ _ _ c => ?_
 refine Fp [] 1 c fun _ c => E0 ?_
 obtain rfl := sj h
 exact wp_ret (tr (Rt c () [] []))
 refine K0 (T0 (Fp [] 3 c fun _ c => Bd h fun x6 hx6 h => Eshr c hx6 fun _ c => ?_))
 refine Fp [] 1 c fun _ c => E0 ?_
 obtain rfl := sj h
 exact wp_ret (Rt c () [] [])

theorem impl_boolWord_ok {p0 r} (h : impl_boolWord p0 = some r) : Con Tryz.prog 218 [.bool p0] [] [] fun (_ : Unit) => ([I r], [], []) := by
 unfold impl_boolWord at h
 refine En Tryz.func218 rfl Tryz.ntmps218 fun _ fr w c => ?_
 refine P0 [] c fun _ c => S0 (P0 [] c fun _ c => I0 c h (fun h => ?_) fun h => ?_)
 refine P0 [] c fun _ c => ?_
 obtain rfl := sj h
 exact wp_ret (tr (Rt c () [] []))
 refine K0 (P0 [] c fun _ c => ?_)
 obtain rfl := sj h
 exact wp_ret (Rt c () [] [])

theorem impl_ApplyBinary_ok {p0 p1 p2 p3 r} (h : impl_ApplyBinary p0 p1 p2 p3 = some r) : Con Tryz.prog 201 [I p0, I p1, I p2, I p3] [] [] fun (_ : Unit) => ([I r], [], []) := by
 unfold impl_ApplyBinary at h
 refine En Tryz.func201 rfl Tryz.ntmps201 fun _ fr w c => ?_
 refine P0 [] c fun _ c => S0 (Bd h fun x1 hx1 h => Bd h fun x2 hx2 h => S0 (rZ [(2, .eq (.bool x1)), (7, .eq (.bool x2))] [] mix c ⟨Ncl c (kN (impl_WordOk_ok hx1)) trivial Tryz.call111, Ncl c (fun hg => impl_WordOk_ok (iteF (gcF hg) hx2)) trivial Tryz.call111, trivial⟩ fun _ _ c => I0 c h (fun h => ?_) fun h => ?_))
 refine P0 [] c fun _ c => ?_
 cases h
 exact wp_ret (tr (Rt c () [] []))
 refine K0 (S0 (P0 [] c fun _ c => wp_block (P0 [] c fun _ c => I0 c h (fun h => ?_) fun h => ?_)))
 refine T0 (Fp [] 4 c fun _ c => Bd h fun x3 hx3 h => Ca [] c (impl_WordOf_ok hx3) trivial Tryz.call215 fun _ _ _ c => ?_)
 refine Fp [] 1 c fun _ c => E0 ?_
 obtain rfl := sj h
 exact wp_ret (br (tr (Rt c () [] [])))
 refine P0 [] c fun _ c => I0 c h (fun h => ?_) fun h => ?_
 refine T0 (Fp [] 4 c fun _ c => Bd h fun x4 hx4 h => Ca [] c (impl_WordOf_ok hx4) trivial Tryz.call215 fun _ _ _ c => ?_)
 refine Fp [] 1 c fun _ c => E0 ?_
 obtain rfl := sj h
 exact wp_ret (br (tr (Rt c () [] [])))
 refine P0 [] c fun _ c => I0 c h (fun h => ?_) fun h => ?_
 refine T0 (Fp [] 4 c fun _ c => Bd h fun x5 hx5 h => Ca [] c (impl_WordOf_ok hx5) trivial Tryz.call215 fun _ _ _ c => ?_)
 refine Fp [] 1 c fun _ c => E0 ?_
 obtain rfl := sj h
 exact wp_ret (br (tr (Rt c () [] [])))
 refine P0 [] c fun _ c => I0 c h (fun h => ?_) fun h => ?_
 refine S0 (P0 [] c fun _ c => I0 c h (fun h => ?_) fun h => ?_)
 refine T0 (Fp [] 2 c fun _ c => Bd h fun x6 hx6 h => Eshl c hx6 fun _ c => ?_)
 refine Fp [] 2 c fun _ c => E0 ?_
 cases h
 exact wp_ret (tr (br (tr (Rt c () [] []))))
 refine K0 (T0 (Fp [] 2 c fun _ c => Bd h fun x7 hx7 h => Equo c hx7 fun _ c => ?_))
 refine Fp [] 1 c fun _ c => E0 ?_
 obtain rfl := sj h
 exact wp_ret (br (tr (Rt c () [] [])))
 refine P0 [] c fun _ c => I0 c h (fun h => ?_) fun h => ?_
 refine S0 (P0 [] c fun _ c => I0 c h (fun h => ?_) fun h => ?_)
 refine P0 [] c fun _ c => ?_
 obtain rfl := sj h
 exact wp_ret (tr (br (tr (Rt c () [] []))))
 refine K0 (T0 (Fp [] 2 c fun _ c => Bd h fun x8 hx8 h => Erem c hx8 fun _ c => ?_))
 refine Fp [] 1 c fun _ c => E0 ?_
 obtain rfl := sj h
 exact wp_ret (br (tr (Rt c () [] [])))
 refine P0 [] c fun _ c => I0 c h (fun h => ?_) fun h => ?_
 refine P0 [] c fun _ c => ?_
 cases h
 exact wp_ret (br (tr (Rt c () [] [])))
 refine P0 [] c fun _ c => I0 c h (fun h => ?_) fun h => ?_
 refine P0 [] c fun _ c => ?_
 cases h
 exact wp_ret (br (tr (Rt c () [] [])))
 refine P0 [] c fun _ c => I0 c h (fun h => ?_) fun h => ?_
 refine P0 [] c fun _ c => ?_
 cases h
 exact wp_ret (br (tr (Rt c () [] [])))
 refine S0 (P0 [] c fun _ c => Bd h fun rl1 hit1 h => ?_)
 have hk1 := h
 refine Jr (fun s  (_ : Unit) => ([(0, I p0), (1, I p1), (2, I p2), (3, I p3), (19, I p0), (75, .bool s)], id, [])) hit1 c (fun h => ?_) fun s1r _ _ _ hrl c => ?_
 refine I0 c h (fun h => ?_) fun h => ?_
 refine K0 (⟨_, (), (sk h), c.re [] []⟩)
 refine P0 [] c fun _ c => Mp (p0 == 12) [(75, .bool (p0 == 12))] [(75, .bool (p0 == 13))] [(75, .bool ((p0 == 12) || (p0 == 13)))] [75, 78] c fun _ c => ⟨_, (), (sk h), c.re [] []⟩
 subst hrl
 refine I0 c h (fun h => ?_) fun h => ?_
 refine T0 (Fp [] 4 c fun _ c => Bd h fun x9 hx9 h => Ca [] c (impl_shiftWord_ok hx9) trivial Tryz.call217 fun _ _ _ c => ?_)
 refine Fp [] 1 c fun _ c => E0 ?_
 obtain rfl := sj h
 exact wp_ret (br (tr (Rt c () [] [])))
 refine P0 [] c fun _ c => I0 c h (fun h => ?_) fun h => ?_
 refine T0 (Fp [] 3 c fun _ c => Bd h fun x10 hx10 h => Ca [] c (impl_boolWord_ok hx10) trivial Tryz.call218 fun _ _ _ c => ?_)
 refine Fp [] 1 c fun _ c => E0 ?_
 obtain rfl := sj h
 exact wp_ret (br (tr (Rt c () [] [])))
 refine P0 [] c fun _ c => I0 c h (fun h => ?_) fun h => ?_
 refine T0 (Fp [] 3 c fun _ c => Bd h fun x11 hx11 h => Ca [] c (impl_boolWord_ok hx11) trivial Tryz.call218 fun _ _ _ c => ?_)
 refine Fp [] 1 c fun _ c => E0 ?_
 obtain rfl := sj h
 exact wp_ret (br (tr (Rt c () [] [])))
 refine P0 [] c fun _ c => I0 c h (fun h => ?_) fun h => ?_
 refine T0 (Fp [] 2 c fun _ c => Bd h fun x12 hx12 h => Ca [] c (impl_SignedOf_ok hx12) trivial Tryz.call216 fun _ _ _ c => ?_)
 refine Fp [] 2 c fun _ c => Bd h fun x13 hx13 h => Ca [] c (impl_SignedOf_ok hx13) trivial Tryz.call216 fun _ _ _ c => ?_
 refine Fp [] 1 c fun _ c => Bd h fun x14 hx14 h => Ca [] c (impl_boolWord_ok hx14) trivial Tryz.call218 fun _ _ _ c => ?_
 refine Fp [] 1 c fun _ c => E0 ?_
 obtain rfl := sj h
 exact wp_ret (br (tr (Rt c () [] [])))
 refine K1 (bk (tn (P0 [] c fun _ c => ?_)))
 cases h
 exact wp_ret (Rt c () [] [])

theorem impl_evalNode_ok {n : Nat} : ∀ {p0 p1 ga0 gc1 gu2 r} (h : impl_evalNode n p0 p1 = some r), Con Tryz.prog 164 [tV p0 ga0 gc1, gu2] [] [lR ga0 p0.Kids gc1, MO map126 (gu2) p1] fun (_ : Unit) => ([I r], [], []) := by
 induction n with
 | zero => intro p0 p1 ga0 gc1 gu2 r h; simp [impl_evalNode] at h
 | succ n ih =>
 intro p0 p1 ga0 gc1 gu2 r h
 rw [impl_evalNode] at h
 refine En Tryz.func164 rfl Tryz.ntmps164 fun _ fr w c => ?_
 refine T0 (Ebx (tC p0 ga0 gc1) c fun b1 _ _ c => ?_)
 refine Fp [] 1 c fun _ c => E0 (S0 (P0 [(1, 0)] c fun _ c => wp_block (P0 [] c fun _ c => I0 c h (fun h => ?_) fun h => ?_)))
 refine P0 [(1, 0)] c fun _ c => ?_
 cases h
 exact wp_ret (br (tr (Rt c () [] [])))
 refine P0 [] c fun _ c => I0 c h (fun h => ?_) fun h => ?_
 refine T0 (Fp [(2, 0)] 3 c fun _ c => Bd h fun x1 hx1 h => Erg c (.f 1) hx1 fun _ c => ?_)
 refine Fp [] 1 c fun _ c => E0 ?_
 obtain rfl := sj h
 exact wp_ret (br (tr (Rt c () [] [])))
 refine P0 [] c fun _ c => I0 c h (fun h => ?_) fun h => ?_
 refine S0 (T0 (Fp [(1, 0)] 2 c fun _ c => Bd h fun x2 hx2 h => Eem c (.f 0) hx2 fun _ u1 _ c => ?_))
 obtain ⟨a1, c1, rfl, c⟩ := c.o_Term 2
 refine Fp [] 1 c fun _ c => Bd h fun x3 hx3 h => Ca [] c (ih hx3) ⟨.f 3, .f 1, trivial⟩ Tryz.call164 fun _ _ _ c => ?_
 refine Fp [] 1 c fun _ c => E0 (I0 c h (fun h => ?_) fun h => ?_)
 refine T0 (Fp [(1, 0)] 2 c fun _ c => Bd h fun x4 hx4 h => Eem c (.f 0) hx4 fun _ u2 _ c => ?_)
 obtain ⟨a2, c2, rfl, c⟩ := c.o_Term 4
 refine Fp [] 1 c fun _ c => Bd h fun x5 hx5 h => Ca [] c (ih hx5) ⟨.f 5, .f 1, trivial⟩ Tryz.call164 fun _ _ _ c => ?_
 refine Fp [] 1 c fun _ c => E0 ?_
 obtain rfl := sj h
 exact wp_ret (tr (br (tr (Rt c () [] []))))
 refine K0 (T0 (Fp [(1, 0)] 2 c fun _ c => Bd h fun x6 hx6 h => Eem c (.f 0) hx6 fun _ u3 _ c => ?_))
 obtain ⟨a3, c3, rfl, c⟩ := c.o_Term 4
 refine Fp [] 1 c fun _ c => Bd h fun x7 hx7 h => Ca [] c (ih hx7) ⟨.f 5, .f 1, trivial⟩ Tryz.call164 fun _ _ _ c => ?_
 refine Fp [] 1 c fun _ c => E0 ?_
 obtain rfl := sj h
 exact wp_ret (br (tr (Rt c () [] [])))
 refine K1 (bk (tn (T0 (Fp [(1, 0)] 2 c fun _ c => Bd h fun x8 hx8 h => Eem c (.f 0) hx8 fun _ u4 _ c => ?_))))
 obtain ⟨a4, c4, rfl, c⟩ := c.o_Term 2
 refine Fp [] 1 c fun _ c => Bd h fun x9 hx9 h => Ca [] c (ih hx9) ⟨.f 3, .f 1, trivial⟩ Tryz.call164 fun _ _ _ c => ?_
 refine Fp [] 1 c fun _ c => E0 (T0 (Fp [(1, 0)] 2 c fun _ c => Bd h fun x10 hx10 h => Eef c (.f 0) hx10 fc34_1 fun _ _ _ c => ?_))
 refine Fp [] 1 c fun _ c => E0 (S0 (P0 [(1, 0)] c fun _ c => wp_block (S0 (P0 [] c fun _ c => Mp (p0.Op == 1) [(54, .bool (p0.Op == 1))] [(54, .bool (p0.Op == 2))] [(54, .bool ((p0.Op == 1) || (p0.Op == 2)))] [54, 56] c fun _ c => I0 c h (fun h => ?_) fun h => ?_))))
 refine T0 (Fp [(1, 0)] 4 c fun _ c => Bd h fun x11 hx11 h => Ca [] c (impl_ApplyUnary_ok hx11) trivial Tryz.call197 fun _ _ _ c => ?_)
 refine Fp [] 1 c fun _ c => E0 ?_
 obtain rfl := sj h
 exact wp_ret (br (tr (Rt c () [] [])))
 refine P0 [] c fun _ c => I0 c h (fun h => ?_) fun h => ?_
 refine T0 (Fp [(3, 0), (5, 0)] 6 c fun _ c => Bd h fun x12 hx12 h => Ca [] c (impl_CutWord_ok hx12) trivial Tryz.call198 fun _ _ _ c => ?_)
 refine Fp [] 1 c fun _ c => E0 ?_
 obtain rfl := sj h
 exact wp_ret (br (tr (Rt c () [] [])))
 refine S0 (P0 [] c fun _ c => Mp (p0.Op == 20) [(71, .bool (p0.Op == 20))] [(71, .bool (p0.Op == 21))] [(71, .bool ((p0.Op == 20) || (p0.Op == 21)))] [71, 73] c fun _ c => I0 c h (fun h => ?_) fun h => ?_)
 refine T0 (Fp [(3, 0), (5, 0)] 7 c fun _ c => Bd h fun x13 hx13 h => Ca [] c (impl_WidenWord_ok hx13) trivial Tryz.call199 fun _ _ _ c => ?_)
 refine Fp [] 1 c fun _ c => E0 ?_
 obtain rfl := sj h
 exact wp_ret (br (tr (Rt c () [] [])))
 refine K1 (bk (tn (T0 (Fp [(1, 0)] 2 c fun _ c => Bd h fun x14 hx14 h => Eem c (.f 0) hx14 fun _ u5 _ c => ?_))))
 obtain ⟨a5, c5, rfl, c⟩ := c.o_Term 4
 refine Fp [] 1 c fun _ c => Bd h fun x15 hx15 h => Ca [] c (ih hx15) ⟨.f 5, .f 1, trivial⟩ Tryz.call164 fun _ _ _ c => ?_
 refine Fp [] 1 c fun _ c => E0 (S0 (P0 [(1, 0)] c fun _ c => I0 c h (fun h => ?_) fun h => ?_))
 refine T0 (Fp [(3, 0)] 4 c fun _ c => ?_)
 replace c := c.gm [BX b1 34 (tC p0 ga0 gc1)]
 refine Bd h fun x16 hx16 h => Eef c (.f 0) hx16 fc34_1 fun _ _ _ c => ?_
 refine Fp [] 1 c fun _ c => Bd h fun x17 hx17 h => Ca [] c (impl_JoinWords_ok hx17) trivial Tryz.call200 fun _ _ _ c => ?_
 refine Fp [] 1 c fun _ c => E0 ?_
 obtain rfl := sj h
 exact wp_ret (tr (Rt c () [] []))
 refine K0 (T0 (Fp [(1, 0)] 5 c fun _ c => ?_))
 replace c := c.gm [BX b1 34 (tC p0 ga0 gc1)]
 refine Bd h fun x18 hx18 h => Ca [] c (impl_ApplyBinary_ok hx18) trivial Tryz.call201 fun _ _ _ c => ?_
 refine Fp [] 1 c fun _ c => E0 ?_
 obtain rfl := sj h
 exact wp_ret (Rt c () [] [])

theorem impl_reduceUnary_ok {p0 ga0 gc1 r} (h : impl_reduceUnary p0 = some r) : Con Tryz.prog 165 [tV p0 ga0 gc1] [] [lR ga0 p0.Kids gc1] fun (i : Oh) => ([tV r i.1 i.2], [], [lR i.1 r.Kids i.2]) := by
 unfold impl_reduceUnary at h
 refine En Tryz.func165 rfl Tryz.ntmps165 fun _ fr w c => ?_
 refine T0 (Ebx (tC p0 ga0 gc1) c fun b1 _ _ c => ?_)
 refine Eal tZ c fun b2 _ _ c => ?_
 refine E0 (T0 (Fp [(1, 0)] 2 c fun _ c => Bd h fun x1 hx1 h => Eem c (.f 0) hx1 fun _ u1 _ c => ?_))
 obtain ⟨a1, c1, rfl, c⟩ := c.o_Term 1
 refine Eal tZ c fun b3 _ _ c => ?_
 refine Ess 2 (tC x1 a1 c1) c fun _ c => ?_
 refine E0 (S0 (P0 [(1, 2), (3, 0)] c fun _ c => I0 c h (fun h => ?_) fun h => ?_))
 refine T0 (Fp [(1, 2)] 2 c fun _ c => ?_)
 replace c := c.gm [BX b1 34 (tC p0 ga0 gc1), BX b2 34 tZ, BX b3 34 (tC x1 a1 c1)]
 refine Bd h fun x2 hx2 h => Eem c (.f 2) hx2 fun _ u2 _ c => ?_
 obtain ⟨a2, c2, rfl, c⟩ := c.o_Term 3
 refine Ess 1 (tC x2 a2 c2) c fun _ c => ?_
 refine E0 ?_
 obtain rfl := sj h
 exact wp_ret (tr (Rg c (a2, c2) [] [4] (.cell (α := Agg 4) kk (.b 1) .nil)))
 refine K0 (T0 (Fp [(0, 0)] 1 c fun _ c => ?_))
 replace c := c.gm [BX b1 34 (tC p0 ga0 gc1), BX b2 34 tZ, BX b3 34 (tC x1 a1 c1)]
 refine Ess 1 (tC p0 ga0 gc1) c fun _ c => ?_
 refine E0 ?_
 obtain rfl := sj h
 exact wp_ret (Rg c (ga0, gc1) [] [0] (.cell (α := Agg 4) kk (.b 1) .nil))

theorem impl_constIs_ok {p0 p1 ga0 gc1 r} (h : impl_constIs p0 p1 = some r) : Con Tryz.prog 127 [tV p0 ga0 gc1, I p1] [] [lR ga0 p0.Kids gc1] fun (_ : Unit) => ([.bool r], [], []) := by
 unfold impl_constIs at h
 refine En Tryz.func127 rfl Tryz.ntmps127 fun _ fr w c => ?_
 refine T0 (Ebx (tC p0 ga0 gc1) c fun b1 _ _ c => ?_)
 refine Fp [] 1 c fun _ c => E0 (S0 (Ry [(1, 0), (5, 0)] mix c fun _ _ c => ?_))
 cases h
 exact wp_ret (Rt c () [] [])

theorem cmp_isNaN_int__ok {p0 r} (h : cmp_isNaN_int_ p0 = some r) : Con Tryz.prog 223 [I p0] [] [] fun (_ : Unit) => ([.bool r], [], []) := by
 unfold cmp_isNaN_int_ at h
 refine En Tryz.func223 rfl Tryz.ntmps223 fun _ fr w c => ?_
 refine P0 [] c fun _ c => P0 [] c fun _ c => ?_
 cases h
 exact wp_ret (Rt c () [] [])

theorem cmp_Compare_int__ok {p0 p1 r} (h : cmp_Compare_int_ p0 p1 = some r) : Con Tryz.prog 219 [I p0, I p1] [] [] fun (_ : Unit) => ([I r], [], []) := by
 unfold cmp_Compare_int_ at h
 refine En Tryz.func219 rfl Tryz.ntmps219 fun _ fr w c => ?_
 refine P0 [] c fun _ c => T0 (Fp [] 1 c fun _ c => Bd h fun x1 hx1 h => Ca [] c (cmp_isNaN_int__ok hx1) trivial Tryz.call223 fun _ _ _ c => ?_)
 refine Fp [] 1 c fun _ c => E0 (T0 (Fp [] 1 c fun _ c => Bd h fun x2 hx2 h => Ca [] c (cmp_isNaN_int__ok hx2) trivial Tryz.call223 fun _ _ _ c => ?_))
 refine Fp [] 1 c fun _ c => E0 (S0 (P0 [] c fun _ c => I0 c h (fun h => ?_) fun h => ?_))
 refine S0 (P0 [] c fun _ c => I0 c h (fun h => ?_) fun h => ?_)
 refine P0 [] c fun _ c => ?_
 obtain rfl := sj h
 exact wp_ret (tr (tr (Rt c () [] [])))
 refine K0 (P0 [] c fun _ c => ?_)
 cases h
 exact wp_ret (tr (Rt c () [] []))
 refine K0 (S0 (P0 [] c fun _ c => I0 c h (fun h => ?_) fun h => ?_))
 refine P0 [] c fun _ c => ?_
 obtain rfl := sj h
 exact wp_ret (tr (Rt c () [] []))
 refine K0 (S0 (P0 [] c fun _ c => I0 c h (fun h => ?_) fun h => ?_))
 refine P0 [] c fun _ c => ?_
 cases h
 exact wp_ret (tr (Rt c () [] []))
 refine K0 (S0 (P0 [] c fun _ c => I0 c h (fun h => ?_) fun h => ?_))
 refine P0 [] c fun _ c => ?_
 obtain rfl := sj h
 exact wp_ret (tr (Rt c () [] []))
 refine K0 (P0 [] c fun _ c => ?_)
 obtain rfl := sj h
 exact wp_ret (Rt c () [] [])

theorem strings_Compare_ok {p0 p1 r} (h : strings_Compare p0 p1 = some r) : Con Tryz.prog 220 [Str.val p0, Str.val p1] [] [] fun (_ : Unit) => ([I r], [], []) := by
 unfold strings_Compare at h
 obtain rfl := sj h
 refine Con.lib fun w F hF => ?_
 refine (Tryz.strings_Compare ⟨p0.bytes.toArray⟩ ⟨p1.bytes.toArray⟩ w).mono ?_
 rintro e w' ⟨rfl, rfl⟩
 exact ⟨by simp, Chg.refl _ _⟩

theorem impl_CompareTerms_ok {n : Nat} : ∀ {p0 p1 ga0 gc1 ga2 gc3 r} (h : impl_CompareTerms n p0 p1 = some r), Con Tryz.prog 204 [tV p0 ga0 gc1, tV p1 ga2 gc3] [] [lR ga0 p0.Kids gc1, lR ga2 p1.Kids gc3] fun (_ : Unit) => ([I r], [], []) := by
 induction n with
 | zero => intro p0 p1 ga0 gc1 ga2 gc3 r h; simp [impl_CompareTerms] at h
 | succ n ih =>
 intro p0 p1 ga0 gc1 ga2 gc3 r h
 rw [impl_CompareTerms] at h
 refine En Tryz.func204 rfl Tryz.ntmps204 fun _ fr w c => ?_
 refine T0 (Ebx (tC p0 ga0 gc1) c fun b1 _ _ c => ?_)
 refine Ebx (tC p1 ga2 gc3) c fun b2 _ _ c => ?_
 refine Fp [] 1 c fun _ c => E0 (S0 (T0 (Fp [(1, 0), (3, 1)] 4 c fun _ c => Bd h fun x1 hx1 h => Ca [] c (cmp_Compare_int__ok hx1) trivial Tryz.call219 fun _ _ _ c => ?_)))
 refine Fp [] 1 c fun _ c => E0 (P0 [] c fun _ c => I0 c h (fun h => ?_) fun h => ?_)
 refine P0 [] c fun _ c => ?_
 obtain rfl := sj h
 exact wp_ret (tr (Rt c () [] []))
 refine K0 (S0 (T0 (Fp [(1, 0), (3, 1)] 4 c fun _ c => Bd h fun x2 hx2 h => Ca [] c (cmp_Compare_int__ok hx2) trivial Tryz.call219 fun _ _ _ c => ?_)))
 refine Fp [] 1 c fun _ c => E0 (P0 [] c fun _ c => I0 c h (fun h => ?_) fun h => ?_)
 refine P0 [] c fun _ c => ?_
 obtain rfl := sj h
 exact wp_ret (tr (Rt c () [] []))
 refine K0 (S0 (T0 (Fp [(1, 0), (3, 1)] 4 c fun _ c => Bd h fun x3 hx3 h => Ca [] c (cmp_Compare_int__ok hx3) trivial Tryz.call219 fun _ _ _ c => ?_)))
 refine Fp [] 1 c fun _ c => E0 (P0 [] c fun _ c => I0 c h (fun h => ?_) fun h => ?_)
 refine P0 [] c fun _ c => ?_
 obtain rfl := sj h
 exact wp_ret (tr (Rt c () [] []))
 refine K0 (S0 (T0 (Fp [(1, 0), (3, 1)] 4 c fun _ c => ?_)))
 replace c := c.gm [BX b1 34 (tC p0 ga0 gc1), BX b2 34 (tC p1 ga2 gc3)]
 refine Bd h fun x4 hx4 h => Ca [] c (strings_Compare_ok hx4) trivial Tryz.call220 fun _ _ _ c => ?_
 refine Fp [] 1 c fun _ c => E0 (P0 [] c fun _ c => I0 c h (fun h => ?_) fun h => ?_)
 refine P0 [] c fun _ c => ?_
 obtain rfl := sj h
 exact wp_ret (tr (Rt c () [] []))
 refine K0 (S0 (P0 [] c fun _ c => Bd h fun rl1 hit1 h => ?_))
 have hk1 := h
 refine LpR (fun s1  (_ : Unit) => ([(2, B b1 0), (3, B b2 0), (9, I s1)], id, [])) (fun s  (_ : Unit) => ([(2, B b1 0), (3, B b2 0)], id, [])) hit1 c () (c.re [0, 1] [0, 1]) (fun s1 q1 _ _ _ c h hr1 => ?_) fun s1r _ _ _ hrl c => ?_
 refine S0 (S0 (Ry [(2, 0), (8, 1)] mix c fun _ _ c => I0 c h (fun h => ?_) fun h => ?_))
 refine K0 (S0 (wp_block (Bd h fun x5 hx5 h => ?_)))
 obtain ⟨ep1, u1, c⟩ := c.elp (.f 0) hx5
 obtain ⟨a1, c1, rfl, c⟩ := c.o_Term 3
 refine Bd h fun x6 hx6 h => ?_
 obtain ⟨ep2, u2, c⟩ := c.elp (.f 1) hx6
 obtain ⟨a2, c2, rfl, c⟩ := c.o_Term 6
 refine Bd h fun x7 hx7 h => S0 (rZ [(3, .eq (.pointer (some ep1))), (4, .eq (tV x5 a1 c1)), (8, .eq (.pointer (some ep2))), (9, .eq (tV x6 a2 c2)), (10, .eq (I x7))] [(1, 0), (6, 1)] mix c ⟨Nie c 2, Nle c 2, Nie c 5, Nle c 5, Ncl c (kN (ih hx7)) ⟨.f 4, .f 7, trivial⟩ Tryz.call204, trivial⟩ fun _ _ c => P0 [] c fun _ c => I0 c h (fun h => ?_) fun h => ?_)
 refine P0 [] c fun _ c => ?_
 obtain rfl := hr1 _ (sk h)
 obtain rfl := sj hk1
 exact wp_ret (br (tr (tr (br (tr (Rt c () [] []))))))
 refine K1 (bk (tn (P1 [] c fun _ c => Nx h () (c.re [0, 1] [0, 1]))))
 refine wp_exit (te (te (be ?_)))
 obtain rfl := hr1 _ (sk h)
 exact tn ⟨_, (), rfl, c.re [0, 1] [0, 1]⟩
 subst hrl
 refine T0 (Fp [(1, 0), (4, 1)] 6 c fun _ c => Bd h fun x8 hx8 h => Ca [] c (cmp_Compare_int__ok hx8) trivial Tryz.call219 fun _ _ _ c => ?_)
 refine Fp [] 1 c fun _ c => E0 ?_
 obtain rfl := sj h
 exact wp_ret (Rt c () [] [])

theorem impl_sameTerm_ok {n p0 p1 ga0 gc1 ga2 gc3 r} (h : impl_sameTerm n p0 p1 = some r) : Con Tryz.prog 173 [tV p0 ga0 gc1, tV p1 ga2 gc3] [] [lR ga0 p0.Kids gc1, lR ga2 p1.Kids gc3] fun (_ : Unit) => ([.bool r], [], []) := by
 unfold impl_sameTerm at h
 refine En Tryz.func173 rfl Tryz.ntmps173 fun _ fr w c => ?_
 refine T0 (Ebx (tC p0 ga0 gc1) c fun b1 _ _ c => ?_)
 refine Ebx (tC p1 ga2 gc3) c fun b2 _ _ c => ?_
 refine Fp [] 1 c fun _ c => E0 (T0 (Fp [(0, 0), (1, 1)] 2 c fun _ c => Bd h fun x1 hx1 h => Ca [] c (impl_CompareTerms_ok hx1) ⟨.f 0, .f 1, trivial⟩ Tryz.call204 fun _ _ _ c => ?_))
 refine Fp [] 2 c fun _ c => E0 ?_
 cases h
 exact wp_ret (Rt c () [] [])

theorem impl_swapsKids_ok {p0 r} (h : impl_swapsKids p0 = some r) : Con Tryz.prog 203 [I p0] [] [] fun (_ : Unit) => ([.bool r], [], []) := by
 unfold impl_swapsKids at h
 refine En Tryz.func203 rfl Tryz.ntmps203 fun _ fr w c => ?_
 refine P0 [] c fun _ c => S0 (P0 [] c fun _ c => wp_block (S0 (P0 [] c fun _ c => I0 c h (fun h => ?_) fun h => ?_)))
 refine K0 (I0 c h (fun h => ?_) fun h => ?_)
 refine P0 [] c fun _ c => ?_
 obtain rfl := sj h
 exact wp_ret (br (tr (Rt c () [] [])))
 refine K1 (bk (tn (P0 [] c fun _ c => ?_)))
 obtain rfl := sj h
 exact wp_ret (Rt c () [] [])
 refine P0 [] c fun _ c => I0 c h (fun h => ?_) fun h => ?_
 refine K0 (I0 c h (fun h => ?_) fun h => ?_)
 refine P0 [] c fun _ c => ?_
 obtain rfl := sj h
 exact wp_ret (br (tr (Rt c () [] [])))
 refine K1 (bk (tn (P0 [] c fun _ c => ?_)))
 obtain rfl := sj h
 exact wp_ret (Rt c () [] [])
 refine P0 [] c fun _ c => I0 c h (fun h => ?_) fun h => ?_
 refine K0 (I0 c h (fun h => ?_) fun h => ?_)
 refine P0 [] c fun _ c => ?_
 obtain rfl := sj h
 exact wp_ret (br (tr (Rt c () [] [])))
 refine K1 (bk (tn (P0 [] c fun _ c => ?_)))
 obtain rfl := sj h
 exact wp_ret (Rt c () [] [])
 refine P0 [] c fun _ c => I0 c h (fun h => ?_) fun h => ?_
 refine K0 (I0 c h (fun h => ?_) fun h => ?_)
 refine P0 [] c fun _ c => ?_
 obtain rfl := sj h
 exact wp_ret (br (tr (Rt c () [] [])))
 refine K1 (bk (tn (P0 [] c fun _ c => ?_)))
 obtain rfl := sj h
 exact wp_ret (Rt c () [] [])
 refine P0 [] c fun _ c => Mp (p0 == 10) [(4, .bool (p0 == 10))] [(4, .bool (p0 == 14))] [(4, .bool ((p0 == 10) || (p0 == 14)))] [4, 10] c fun _ c => I0 c h (fun h => ?_) fun h => ?_
 refine P0 [] c fun _ c => ?_
 obtain rfl := sj h
 exact wp_ret (br (tr (Rt c () [] [])))
 refine K1 (bk (tn (P0 [] c fun _ c => ?_)))
 obtain rfl := sj h
 exact wp_ret (Rt c () [] [])

theorem impl_onesOf_ok {p0 r} (h : impl_onesOf p0 = some r) : Con Tryz.prog 221 [I p0] [] [] fun (_ : Unit) => ([I r], [], []) := by
 unfold impl_onesOf at h
 refine En Tryz.func221 rfl Tryz.ntmps221 fun _ fr w c => ?_
 refine P0 [] c fun _ c => T0 (Fp [] 2 c fun _ c => Bd h fun x1 hx1 h => Eshl c hx1 fun _ c => ?_)
 refine Fp [] 2 c fun _ c => E0 ?_
 cases h
 exact wp_ret (Rt c () [] [])

set_option maxHeartbeats 4000000 in
theorem impl_remake_impl_reduce_impl_reduceIf_impl_reduceCut_impl_reduceWiden_impl_reduceJoin_impl_reduceBinary_impl_reduceFirst_rec (n : Nat) : (∀ {p0 p1 p2 p3 ga0 gc1 r} (h : impl_remake n p0 p1 p2 p3 = some r), Con Tryz.prog 202 [I p0, I p1, I p2, L ga0 p3 gc1] [] [lR ga0 p3 gc1] fun (i : Oh) => ([tV r i.1 i.2], [], [lR i.1 r.Kids i.2])) ∧
    (∀ {p0 ga0 gc1 r} (h : impl_reduce n p0 = some r), Con Tryz.prog 118 [tV p0 ga0 gc1] [] [lR ga0 p0.Kids gc1] fun (i : Oh) => ([tV r i.1 i.2], [], [lR i.1 r.Kids i.2])) ∧
    (∀ {p0 ga0 gc1 r} (h : impl_reduceIf n p0 = some r), Con Tryz.prog 166 [tV p0 ga0 gc1] [] [lR ga0 p0.Kids gc1] fun (i : Oh) => ([tV r i.1 i.2], [], [lR i.1 r.Kids i.2])) ∧
    (∀ {p0 ga0 gc1 r} (h : impl_reduceCut n p0 = some r), Con Tryz.prog 167 [tV p0 ga0 gc1] [] [lR ga0 p0.Kids gc1] fun (i : Oh) => ([tV r i.1 i.2], [], [lR i.1 r.Kids i.2])) ∧
    (∀ {p0 ga0 gc1 r} (h : impl_reduceWiden n p0 = some r), Con Tryz.prog 168 [tV p0 ga0 gc1] [] [lR ga0 p0.Kids gc1] fun (i : Oh) => ([tV r i.1 i.2], [], [lR i.1 r.Kids i.2])) ∧
    (∀ {p0 ga0 gc1 r} (h : impl_reduceJoin n p0 = some r), Con Tryz.prog 169 [tV p0 ga0 gc1] [] [lR ga0 p0.Kids gc1] fun (i : Oh) => ([tV r i.1 i.2], [], [lR i.1 r.Kids i.2])) ∧
    (∀ {p0 ga0 gc1 r} (h : impl_reduceBinary n p0 = some r), Con Tryz.prog 170 [tV p0 ga0 gc1] [] [lR ga0 p0.Kids gc1] fun (i : Oh) => ([tV r i.1 i.2], [], [lR i.1 r.Kids i.2])) ∧
    (∀ {p0 p1 p2 p3 ga0 gc1 ga2 gc3 r} (h : impl_reduceFirst n p0 p1 p2 p3 = some r), Con Tryz.prog 205 [I p0, I p1, tV p2 ga0 gc1, tV p3 ga2 gc3] [] [lR ga0 p2.Kids gc1, lR ga2 p3.Kids gc3] fun (i : Oh) => ([tV r.1 i.1 i.2, .bool r.2], [], [lR i.1 r.1.Kids i.2])) := by
 induction n with
 | zero => exact ⟨by intro p0 p1 p2 p3 ga0 gc1 r h; simp [impl_remake] at h, by intro p0 ga0 gc1 r h; simp [impl_reduce] at h, by intro p0 ga0 gc1 r h; simp [impl_reduceIf] at h, by intro p0 ga0 gc1 r h; simp [impl_reduceCut] at h, by intro p0 ga0 gc1 r h; simp [impl_reduceWiden] at h, by intro p0 ga0 gc1 r h; simp [impl_reduceJoin] at h, by intro p0 ga0 gc1 r h; simp [impl_reduceBinary] at h, by intro p0 p1 p2 p3 ga0 gc1 ga2 gc3 r h; simp [impl_reduceFirst] at h⟩
 | succ n ih =>
 obtain ⟨ih0, ih1, ih2, ih3, ih4, ih5, ih6, ih7⟩ := ih
 refine ⟨?_, ?_, ?_, ?_, ?_, ?_, ?_, ?_⟩
 · intro p0 p1 p2 p3 ga0 gc1 r h
   rw [impl_remake] at h
   refine En Tryz.func202 rfl Tryz.ntmps202 fun _ fr w c => ?_
   refine T0 (Eal tZ c fun b1 _ _ c => ?_)
   refine E0 (T0 (Fp [] 5 c fun _ c => Bd h fun x1 hx1 h => Cf [] c (ih1 hx1) ⟨.f 0, trivial⟩ Tryz.call118 fun i1 _ _ c => ?_))
   refine Ess 0 (tC x1 i1.1 i1.2) c fun _ c => ?_
   refine E0 ?_
   obtain rfl := sj h
   exact wp_ret (Rg c (i1.1, i1.2) [] [1] (.cell (α := Agg 4) kk (.b 0) .nil))
 · intro p0 ga0 gc1 r h
   rw [impl_reduce] at h
   refine En Tryz.func118 rfl Tryz.ntmps118 fun _ fr w c => ?_
   refine T0 (Ebx (tC p0 ga0 gc1) c fun b1 _ _ c => ?_)
   refine Eal tZ c fun b2 _ _ c => ?_
   refine E0 (S0 (P0 [(1, 0)] c fun _ c => I0 c h (fun h => ?_) fun h => ?_))
   refine T0 (Fp [(0, 0)] 1 c fun _ c => Ess 1 (tC p0 ga0 gc1) c fun _ c => ?_)
   refine E0 ?_
   obtain rfl := sj h
   exact wp_ret (tr (Rg c (ga0, gc1) [] [0] (.cell (α := Agg 4) kk (.b 1) .nil)))
   refine K0 (P0 [] c fun _ c => S0 (P0 [(1, 0)] c fun _ c => Bd h fun rl1 hit1 h => Lp (fun s1  (_ : Unit) => ([(1, B b1 0), (2, B b2 0), (3, .bool s1.1), (12, I (len p0.Kids)), (13, I s1.2)], id, [])) (fun  (_ : Unit) => ([(1, B b1 0), (2, B b2 0), (3, .bool rl1)], id, [])) hit1 c () (c.re [0, 1] [0]) (fun s1 q1 _ _ _ c h hr1 => ?_) fun _ _ _ c => ?_))
   refine P0 [] c fun _ c => S0 (I0 c h (fun h => ?_) fun h => ?_)
   refine K0 (S0 (wp_block (P0 [] c fun _ c => Bd h fun x1 hx1 h => Bd h fun x2 hx2 h => Tq (rZ [(5, Pd.el (x1 : D.Term)), (6, Pd.rd (x1 : D.Term)), (7, .eq (.bool x2))] [(3, 0)] mix c ⟨Nid c (.f 0) (gT hx1), Nrd c 5 (atN 5), Ncd (Ψ := []) [.r 6 (fun v => RO v (x1 : D.Term))] c ⟨(atN 6), trivial⟩ trivial (fun hg _ _ ga gp => by obtain ⟨u1, _, rfl, g1, rfl⟩ := ga; obtain ⟨k1, rfl, f1⟩ := Opn.opn g1; exact ⟨_, f1, impl_isConst_ok (iteT (gcT hg) hx2)⟩) Tryz.call163, trivial⟩ fun _ _ c => bk (tn (P1 [] c fun _ c => Nx h () (c.re [0, 1] [0])))))))
   refine wp_exit (te (te (be ?_)))
   obtain rfl := hr1 _ (sk h)
   exact tn ⟨(), c.re [0, 1] [0]⟩
   refine S0 (P0 [] c fun _ c => I0 c h (fun h => ?_) fun h => ?_)
   refine Bd h fun x3 hx3 h => S0 (wp_ra mix (rM 4 [(3, .eq (I x3))] [(1, 0), (2, 0)] c (fun ow => ⟨np_tO ow (Ncl c (kN (impl_evalNode_ok hx3)) ⟨.f 0, .mn, trivial⟩ Tryz.call164), trivial⟩) fun _ _ _ _ _ c => Bd h fun x4 hx4 h => Ca [] c (impl_ConstTerm_ok hx4) trivial Tryz.call117 fun _ _ _ c => ?_))
   refine Ess 1 [I x4.Op, I x4.W, I x4.N, Str.val x4.Name, L none ([] : List D.Term) 0] c fun _ c => ?_
   refine E0 ?_
   cases h
   replace c := c.nilf (α := D.Term)
   exact wp_ret (tr (Rg c (none, 0) [] [1] (.cell (α := Agg 4) kk (.b 1) .nil)))
   refine K0 (S0 (P0 [(1, 0)] c fun _ c => wp_block (S0 (P0 [] c fun _ c => Mp (p0.Op == 1) [(34, .bool (p0.Op == 1))] [(34, .bool (p0.Op == 2))] [(34, .bool ((p0.Op == 1) || (p0.Op == 2)))] [34, 36] c fun _ c => I0 c h (fun h => ?_) fun h => ?_))))
   refine T0 (Fp [(0, 0)] 1 c fun _ c => Bd h fun x5 hx5 h => Cf [] c (impl_reduceUnary_ok hx5) ⟨.f 0, trivial⟩ Tryz.call165 fun i1 _ _ c => ?_)
   refine Ess 1 (tC x5 i1.1 i1.2) c fun _ c => ?_
   refine E0 ?_
   obtain rfl := sj h
   exact wp_ret (br (tr (Rg c (i1.1, i1.2) [] [1] (.cell (α := Agg 4) kk (.b 1) .nil))))
   refine P0 [] c fun _ c => I0 c h (fun h => ?_) fun h => ?_
   refine T0 (Fp [(0, 0)] 1 c fun _ c => Bd h fun x6 hx6 h => Cf [] c (ih2 hx6) ⟨.f 0, trivial⟩ Tryz.call166 fun i2 _ _ c => ?_)
   refine Ess 1 (tC x6 i2.1 i2.2) c fun _ c => ?_
   refine E0 ?_
   obtain rfl := sj h
   exact wp_ret (br (tr (Rg c (i2.1, i2.2) [] [1] (.cell (α := Agg 4) kk (.b 1) .nil))))
   refine P0 [] c fun _ c => I0 c h (fun h => ?_) fun h => ?_
   refine T0 (Fp [(0, 0)] 1 c fun _ c => Bd h fun x7 hx7 h => Cf [] c (ih3 hx7) ⟨.f 0, trivial⟩ Tryz.call167 fun i3 _ _ c => ?_)
   refine Ess 1 (tC x7 i3.1 i3.2) c fun _ c => ?_
   refine E0 ?_
   obtain rfl := sj h
   exact wp_ret (br (tr (Rg c (i3.1, i3.2) [] [1] (.cell (α := Agg 4) kk (.b 1) .nil))))
   refine S0 (P0 [] c fun _ c => Mp (p0.Op == 20) [(47, .bool (p0.Op == 20))] [(47, .bool (p0.Op == 21))] [(47, .bool ((p0.Op == 20) || (p0.Op == 21)))] [47, 49] c fun _ c => I0 c h (fun h => ?_) fun h => ?_)
   refine T0 (Fp [(0, 0)] 1 c fun _ c => Bd h fun x8 hx8 h => Cf [] c (ih4 hx8) ⟨.f 0, trivial⟩ Tryz.call168 fun i4 _ _ c => ?_)
   refine Ess 1 (tC x8 i4.1 i4.2) c fun _ c => ?_
   refine E0 ?_
   obtain rfl := sj h
   exact wp_ret (br (tr (Rg c (i4.1, i4.2) [] [1] (.cell (α := Agg 4) kk (.b 1) .nil))))
   refine P0 [] c fun _ c => I0 c h (fun h => ?_) fun h => ?_
   refine T0 (Fp [(0, 0)] 1 c fun _ c => Bd h fun x9 hx9 h => Cf [] c (ih5 hx9) ⟨.f 0, trivial⟩ Tryz.call169 fun i5 _ _ c => ?_)
   refine Ess 1 (tC x9 i5.1 i5.2) c fun _ c => ?_
   refine E0 ?_
   obtain rfl := sj h
   exact wp_ret (br (tr (Rg c (i5.1, i5.2) [] [1] (.cell (α := Agg 4) kk (.b 1) .nil))))
   refine K1 (bk (tn (T0 (Fp [(0, 0)] 1 c fun _ c => Bd h fun x10 hx10 h => Cf [] c (ih6 hx10) ⟨.f 0, trivial⟩ Tryz.call170 fun i6 _ _ c => ?_))))
   refine Ess 1 (tC x10 i6.1 i6.2) c fun _ c => ?_
   refine E0 ?_
   obtain rfl := sj h
   exact wp_ret (Rg c (i6.1, i6.2) [] [1] (.cell (α := Agg 4) kk (.b 1) .nil))
 · intro p0 ga0 gc1 r h
   rw [impl_reduceIf] at h
   refine En Tryz.func166 rfl Tryz.ntmps166 fun _ fr w c => ?_
   refine T0 (Ebx (tC p0 ga0 gc1) c fun b1 _ _ c => ?_)
   refine Eal tZ c fun b2 _ _ c => ?_
   refine E0 (Bd h fun x1 hx1 h => ?_)
   obtain ⟨ep1, u1, c⟩ := c.elp (.f 0) hx1
   obtain ⟨a1, c1, rfl, c⟩ := c.o_Term 2
   refine Bd h fun x2 hx2 h => ?_
   obtain ⟨ep2, u2, c⟩ := c.elp (.f 0) hx2
   obtain ⟨a2, c2, rfl, c⟩ := c.o_Term 5
   refine Bd h fun x3 hx3 h => ?_
   obtain ⟨ep3, u3, c⟩ := c.elp (.f 0) hx3
   obtain ⟨a3, c3, rfl, c⟩ := c.o_Term 8
   refine S0 (Jn (fun i : Nat × Nat × Nat => ([(1, B b1 0), (2, B b2 0), (3, B i.1 0), (4, B i.2.1 0), (5, B i.2.2 0)], fun Γ => Γ ++ [BX i.1 34 (tC x1 a1 c1), BX i.2.1 34 (tC x2 a2 c2), BX i.2.2 34 (tC x3 a3 c3)], [])) c ?_ fun i8 _ _ c => ?_)
   refine As mix c fun _ c => ?_
   replace c := Cx.frs [(1, B b1 0), (2, B b2 0)] c
   refine Dq (fun i : Nat × Nat × Nat => ([(1, B b1 0), (2, B b2 0), (3, B i.1 0), (4, B i.2.1 0), (5, B i.2.2 0)], fun Γ => Γ ++ [BX i.1 34 (tC x1 a1 c1), BX i.2.1 34 (tC x2 a2 c2), BX i.2.2 34 (tC x3 a3 c3)], [])) #[true, true, true, true, true, true, true, true, true, true, true, true, true, true, true, true, true, true] (fun i => []) c (fun i7 => ?_) fun hd10 => ?_
   obtain ⟨b33, b34, b35⟩ := i7
   refine qnE trivial fun _ _ c => ?_
   exact nN (b33, b34, b35) (c.rk (rg 5) (rg 10))
   refine Dq (fun i : Nat × Nat × Nat => ([(1, B b1 0), (2, B b2 0), (3, B i.1 0), (4, B i.2.1 0), (5, B i.2.2 0)], fun Γ => Γ ++ [BX i.1 34 (tC x1 a1 c1), BX i.2.1 34 (tC x2 a2 c2), BX i.2.2 34 tZ], [])) #[true, true, true, true, true, true, true, true, false, false, false, false, true, true, true, true, true, false] (fun i => [(8, 14, B b1 4), (9, 15, L ga0 p0.Kids gc1), (10, 16, .pointer (some ep3)), (11, 17, tV x3 a3 c3)]) c (fun i6 => ?_) fun hd9 => ?_
   obtain ⟨b30, b31, b32⟩ := i6
   refine qn [17] ⟨qP [], qP [(0, 0)], qI 7, qL 7, trivial⟩ ⟨fun _ _ c => ?_, trivial⟩
   refine op_of _ rfl rfl ?_
   refine Ess 4 (tC x3 a3 c3) c fun _ c => ?_
   refine E0 (nQ hd10 (b30, b31, b32) (c.rk (rg 5) (rg 10)))
   refine Dq (fun i : Nat × Nat × Nat => ([(1, B b1 0), (2, B b2 0), (3, B i.1 0), (4, B i.2.1 0), (5, B i.2.2 0)], fun Γ => Γ ++ [BX i.1 34 (tC x1 a1 c1), BX i.2.1 34 tZ, BX i.2.2 34 tZ], [])) #[true, true, true, true, false, false, false, false, false, false, false, false, true, true, true, true, false, false] (fun i => [(4, 10, B b1 4), (5, 11, L ga0 p0.Kids gc1), (6, 12, .pointer (some ep2)), (7, 13, tV x2 a2 c2), (8, 14, B b1 4), (9, 15, L ga0 p0.Kids gc1), (10, 16, .pointer (some ep3)), (11, 17, tV x3 a3 c3)]) c (fun i5 => ?_) fun hd8 => ?_
   obtain ⟨b27, b28, b29⟩ := i5
   refine qn [16] ⟨qP [], qP [(0, 0)], qI 4, qL 4, qP [], qP [(0, 0)], qI 7, qL 7, trivial⟩ ⟨fun _ _ c => ?_, trivial⟩
   refine op_of _ rfl rfl ?_
   refine Ess 3 (tC x2 a2 c2) c fun _ c => ?_
   refine E0 (nQ hd9 (b27, b28, b29) (c.rk (rg 5) (rg 10)))
   refine Dq (fun i : Nat × Nat × Nat => ([(1, B b1 0), (2, B b2 0), (3, B i.1 0), (4, B i.2.1 0), (5, B i.2.2 0)], fun Γ => Γ ++ [BX i.1 34 tZ, BX i.2.1 34 tZ, BX i.2.2 34 tZ], [])) #[false, false, false, false, false, false, false, false, false, false, false, false, true, true, true, false, false, false] (fun i => [(0, 6, B b1 4), (1, 7, L ga0 p0.Kids gc1), (2, 8, .pointer (some ep1)), (3, 9, tV x1 a1 c1), (4, 10, B b1 4), (5, 11, L ga0 p0.Kids gc1), (6, 12, .pointer (some ep2)), (7, 13, tV x2 a2 c2), (8, 14, B b1 4), (9, 15, L ga0 p0.Kids gc1), (10, 16, .pointer (some ep3)), (11, 17, tV x3 a3 c3)]) c (fun i4 => ?_) fun hd7 => ?_
   obtain ⟨b22, b23, b24⟩ := i4
   refine qn [15] ⟨qP [], qP [(0, 0)], qI 1, qL 1, qP [], qP [(0, 0)], qI 4, qL 4, qP [], qP [(0, 0)], qI 7, qL 7, trivial⟩ ⟨fun _ _ c => ?_, trivial⟩
   refine op_of _ rfl rfl ?_
   refine Ess 2 (tC x1 a1 c1) c fun _ c => ?_
   refine E0 (nQ hd8 (b22, b23, b24) (c.rk (rg 5) (rg 10)))
   refine Dq (fun i : Nat × Nat => ([(1, B b1 0), (2, B b2 0), (3, B i.1 0), (4, B i.2 0)], fun Γ => Γ ++ [BX i.1 34 tZ, BX i.2 34 tZ], [])) #[false, false, false, false, false, false, false, false, false, false, false, false, true, true, false, false, false, false] (fun i => [(0, 6, B b1 4), (1, 7, L ga0 p0.Kids gc1), (2, 8, .pointer (some ep1)), (3, 9, tV x1 a1 c1), (4, 10, B b1 4), (5, 11, L ga0 p0.Kids gc1), (6, 12, .pointer (some ep2)), (7, 13, tV x2 a2 c2), (8, 14, B b1 4), (9, 15, L ga0 p0.Kids gc1), (10, 16, .pointer (some ep3)), (11, 17, tV x3 a3 c3)]) c (fun i1 => ?_) fun hd4 => ?_
   obtain ⟨b10, b11⟩ := i1
   refine qn [14] ⟨qP [], qP [(0, 0)], qI 1, qL 1, qP [], qP [(0, 0)], qI 4, qL 4, qP [], qP [(0, 0)], qI 7, qL 7, trivial⟩ ⟨fun _ _ c => ?_, trivial⟩
   refine op_of _ rfl rfl ?_
   refine Eal tZ c fun b21 _ _ c => ?_
   refine E0 (nQ hd7 (b10, b11, b21) (c.rk (rg 5) (rg 10)))
   refine Dq (fun i : Nat × Nat => ([(1, B b1 0), (2, B b2 0), (3, B i.1 0), (5, B i.2 0)], fun Γ => Γ ++ [BX i.1 34 tZ, BX i.2 34 tZ], [])) #[false, false, false, false, false, false, false, false, false, false, false, false, true, false, true, false, false, false] (fun i => [(0, 6, B b1 4), (1, 7, L ga0 p0.Kids gc1), (2, 8, .pointer (some ep1)), (3, 9, tV x1 a1 c1), (4, 10, B b1 4), (5, 11, L ga0 p0.Kids gc1), (6, 12, .pointer (some ep2)), (7, 13, tV x2 a2 c2), (8, 14, B b1 4), (9, 15, L ga0 p0.Kids gc1), (10, 16, .pointer (some ep3)), (11, 17, tV x3 a3 c3)]) c (fun i2 => ?_) fun hd5 => ?_
   obtain ⟨b13, b14⟩ := i2
   refine qn [13] ⟨qP [], qP [(0, 0)], qI 1, qL 1, qP [], qP [(0, 0)], qI 4, qL 4, qP [], qP [(0, 0)], qI 7, qL 7, trivial⟩ ⟨fun _ _ c => ?_, trivial⟩
   refine op_of _ rfl rfl ?_
   refine Eal tZ c fun b25 _ _ c => ?_
   refine E0 (nQ hd7 (b13, b25, b14) (c.rk [0, 1, 2, 4, 3] (rg 10)))
   refine Dq (fun i : Nat × Nat => ([(1, B b1 0), (2, B b2 0), (4, B i.1 0), (5, B i.2 0)], fun Γ => Γ ++ [BX i.1 34 tZ, BX i.2 34 tZ], [])) #[false, false, false, false, false, false, false, false, false, false, false, false, false, true, true, false, false, false] (fun i => [(0, 6, B b1 4), (1, 7, L ga0 p0.Kids gc1), (2, 8, .pointer (some ep1)), (3, 9, tV x1 a1 c1), (4, 10, B b1 4), (5, 11, L ga0 p0.Kids gc1), (6, 12, .pointer (some ep2)), (7, 13, tV x2 a2 c2), (8, 14, B b1 4), (9, 15, L ga0 p0.Kids gc1), (10, 16, .pointer (some ep3)), (11, 17, tV x3 a3 c3)]) c (fun i3 => ?_) fun hd6 => ?_
   obtain ⟨b17, b18⟩ := i3
   refine qn [12] ⟨qP [], qP [(0, 0)], qI 1, qL 1, qP [], qP [(0, 0)], qI 4, qL 4, qP [], qP [(0, 0)], qI 7, qL 7, trivial⟩ ⟨fun _ _ c => ?_, trivial⟩
   refine op_of _ rfl rfl ?_
   refine Eal tZ c fun b26 _ _ c => ?_
   refine E0 (nQ hd7 (b26, b17, b18) (c.rk [0, 1, 4, 2, 3] (rg 10)))
   refine Dq (fun i : Nat => ([(1, B b1 0), (2, B b2 0), (3, B i 0)], fun Γ => Γ ++ [BX i 34 tZ], [])) #[false, false, false, false, false, false, false, false, false, false, false, false, true, false, false, false, false, false] (fun i => [(0, 6, B b1 4), (1, 7, L ga0 p0.Kids gc1), (2, 8, .pointer (some ep1)), (3, 9, tV x1 a1 c1), (4, 10, B b1 4), (5, 11, L ga0 p0.Kids gc1), (6, 12, .pointer (some ep2)), (7, 13, tV x2 a2 c2), (8, 14, B b1 4), (9, 15, L ga0 p0.Kids gc1), (10, 16, .pointer (some ep3)), (11, 17, tV x3 a3 c3)]) c (fun b4 => ?_) fun hd1 => ?_
   refine qn [13, 14] ⟨qP [], qP [(0, 0)], qI 1, qL 1, qP [], qP [(0, 0)], qI 4, qL 4, qP [], qP [(0, 0)], qI 7, qL 7, trivial⟩ ⟨fun _ _ c => ?_, fun _ _ c => ?_, trivial⟩
   refine op_of _ rfl rfl ?_
   refine Eal tZ c fun b9 _ _ c => ?_
   refine E0 (nQ hd4 (b4, b9) (c.rk (rg 4) (rg 10)))
   refine op_of _ rfl rfl ?_
   refine Eal tZ c fun b12 _ _ c => ?_
   refine E0 (nQ hd5 (b4, b12) (c.rk (rg 4) (rg 10)))
   refine Dq (fun i : Nat => ([(1, B b1 0), (2, B b2 0), (4, B i 0)], fun Γ => Γ ++ [BX i 34 tZ], [])) #[false, false, false, false, false, false, false, false, false, false, false, false, false, true, false, false, false, false] (fun i => [(0, 6, B b1 4), (1, 7, L ga0 p0.Kids gc1), (2, 8, .pointer (some ep1)), (3, 9, tV x1 a1 c1), (4, 10, B b1 4), (5, 11, L ga0 p0.Kids gc1), (6, 12, .pointer (some ep2)), (7, 13, tV x2 a2 c2), (8, 14, B b1 4), (9, 15, L ga0 p0.Kids gc1), (10, 16, .pointer (some ep3)), (11, 17, tV x3 a3 c3)]) c (fun b6 => ?_) fun hd2 => ?_
   refine qn [12, 14] ⟨qP [], qP [(0, 0)], qI 1, qL 1, qP [], qP [(0, 0)], qI 4, qL 4, qP [], qP [(0, 0)], qI 7, qL 7, trivial⟩ ⟨fun _ _ c => ?_, fun _ _ c => ?_, trivial⟩
   refine op_of _ rfl rfl ?_
   refine Eal tZ c fun b15 _ _ c => ?_
   refine E0 (nQ hd4 (b15, b6) (c.rk [0, 1, 3, 2] (rg 10)))
   refine op_of _ rfl rfl ?_
   refine Eal tZ c fun b16 _ _ c => ?_
   refine E0 (nQ hd6 (b6, b16) (c.rk (rg 4) (rg 10)))
   refine Dq (fun i : Nat => ([(1, B b1 0), (2, B b2 0), (5, B i 0)], fun Γ => Γ ++ [BX i 34 tZ], [])) #[false, false, false, false, false, false, false, false, false, false, false, false, false, false, true, false, false, false] (fun i => [(0, 6, B b1 4), (1, 7, L ga0 p0.Kids gc1), (2, 8, .pointer (some ep1)), (3, 9, tV x1 a1 c1), (4, 10, B b1 4), (5, 11, L ga0 p0.Kids gc1), (6, 12, .pointer (some ep2)), (7, 13, tV x2 a2 c2), (8, 14, B b1 4), (9, 15, L ga0 p0.Kids gc1), (10, 16, .pointer (some ep3)), (11, 17, tV x3 a3 c3)]) c (fun b8 => ?_) fun hd3 => ?_
   refine qn [12, 13] ⟨qP [], qP [(0, 0)], qI 1, qL 1, qP [], qP [(0, 0)], qI 4, qL 4, qP [], qP [(0, 0)], qI 7, qL 7, trivial⟩ ⟨fun _ _ c => ?_, fun _ _ c => ?_, trivial⟩
   refine op_of _ rfl rfl ?_
   refine Eal tZ c fun b19 _ _ c => ?_
   refine E0 (nQ hd5 (b19, b8) (c.rk [0, 1, 3, 2] (rg 10)))
   refine op_of _ rfl rfl ?_
   refine Eal tZ c fun b20 _ _ c => ?_
   refine E0 (nQ hd6 (b20, b8) (c.rk [0, 1, 3, 2] (rg 10)))
   refine q0 (qs := [(0, 6, B b1 4), (1, 7, L ga0 p0.Kids gc1), (2, 8, .pointer (some ep1)), (3, 9, tV x1 a1 c1), (4, 10, B b1 4), (5, 11, L ga0 p0.Kids gc1), (6, 12, .pointer (some ep2)), (7, 13, tV x2 a2 c2), (8, 14, B b1 4), (9, 15, L ga0 p0.Kids gc1), (10, 16, .pointer (some ep3)), (11, 17, tV x3 a3 c3)]) c (qn [12, 13, 14] ⟨qP [], qP [(0, 0)], qI 1, qL 1, qP [], qP [(0, 0)], qI 4, qL 4, qP [], qP [(0, 0)], qI 7, qL 7, trivial⟩ ⟨fun _ _ c => ?_, fun _ _ c => ?_, fun _ _ c => ?_, trivial⟩)
   refine op_of _ rfl rfl ?_
   refine Eal tZ c fun b3 _ _ c => ?_
   refine E0 (nQ hd1 (b3) (c.rk [0, 1, 2] (rg 10)))
   refine op_of _ rfl rfl ?_
   refine Eal tZ c fun b5 _ _ c => ?_
   refine E0 (nQ hd2 (b5) (c.rk [0, 1, 2] (rg 10)))
   refine op_of _ rfl rfl ?_
   refine Eal tZ c fun b7 _ _ c => ?_
   refine E0 (nQ hd3 (b7) (c.rk [0, 1, 2] (rg 10)))
   obtain ⟨b36, b37, b38⟩ := i8
   refine S0 (wp_block (T0 (Fp [(0, 2)] 1 c fun _ c => Bd h fun x4 hx4 h => Ca [] c (impl_constIs_ok hx4) ⟨.f 3, trivial⟩ Tryz.call127 fun _ _ _ c => ?_)))
   refine Fp [] 1 c fun _ c => E0 (I0 c h (fun h => ?_) fun h => ?_)
   refine T0 (Fp [(0, 3)] 1 c fun _ c => Ess 1 (tC x2 a2 c2) c fun _ c => ?_)
   refine E0 ?_
   obtain rfl := sj h
   exact wp_ret (br (tr (Rg c (a2, c2) [] [6] (.cell (α := Agg 4) kk (.b 1) .nil))))
   refine T0 (Fp [(0, 2)] 1 c fun _ c => Bd h fun x5 hx5 h => Ca [] c (impl_isConst_ok hx5) ⟨.f 3, trivial⟩ Tryz.call163 fun _ _ _ c => ?_)
   refine Fp [] 1 c fun _ c => E0 (I0 c h (fun h => ?_) fun h => ?_)
   refine T0 (Fp [(0, 4)] 1 c fun _ c => Ess 1 (tC x3 a3 c3) c fun _ c => ?_)
   refine E0 ?_
   obtain rfl := sj h
   exact wp_ret (br (tr (Rg c (a3, c3) [] [9] (.cell (α := Agg 4) kk (.b 1) .nil))))
   refine T0 (Fp [(0, 3), (1, 4)] 2 c fun _ c => Bd h fun x6 hx6 h => Ca [] c (impl_sameTerm_ok hx6) ⟨.f 6, .f 9, trivial⟩ Tryz.call173 fun _ _ _ c => ?_)
   refine Fp [] 1 c fun _ c => E0 (I0 c h (fun h => ?_) fun h => ?_)
   refine T0 (Fp [(0, 3)] 1 c fun _ c => Ess 1 (tC x2 a2 c2) c fun _ c => ?_)
   refine E0 ?_
   obtain rfl := sj h
   exact wp_ret (br (tr (Rg c (a2, c2) [] [6] (.cell (α := Agg 4) kk (.b 1) .nil))))
   refine P0 [(1, 2)] c fun _ c => I0 c h (fun h => ?_) fun h => ?_
   refine Bd h fun x7 hx7 h => ?_
   obtain ⟨ep4, u4, c⟩ := c.elp (.f 3) hx7
   obtain ⟨a4, c4, rfl, c⟩ := c.o_Term 11
   refine S0 (wp_ra mix (rM 9 [(4, .eq (.pointer (some ep4))), (5, .eq (tV x7 a4 c4)), (8, Pd.nw c.wd 8 (fun i : Oh => L i.1 ([x7, x3, x2] : List D.Term) i.2) (fun i => sl34 (L i.1 ([x7, x3, x2] : List D.Term) i.2) ([(tR x7 a4 c4), (tR x3 a3 c3), (tR x2 a2 c2)] : List Rw.Term)))] [(1, 0), (3, 2), (6, 4), (7, 3)] c (fun ow => ⟨np_tO ow (Nie c 10), np_tO ow (Nle c 10), Nlt c ([(tR x7 a4 c4), (tR x3 a3 c3), (tR x2 a2 c2)] : List Rw.Term), trivial⟩) fun ow _ _ hE hc cq => ?_))
   obtain ⟨i9, hi9⟩ := hE.nw 8 43
   replace c := Cx.newt c hc cq [(8, 43, _, _)] ⟨hi9, trivial⟩
   replace c := c.csl ([(tR x7 a4 c4), (tR x3 a3 c3), (tR x2 a2 c2)] : List Rw.Term) ([x7, x3, x2] : List D.Term) ⟨(Ava.mk_Term x7 (.f 12)), (Ava.mk_Term x3 (.f 9)), (Ava.mk_Term x2 (.f 6)), trivial⟩
   replace c := c.gm [BX b1 34 (tC p0 ga0 gc1), BX b2 34 tZ, BX b36 34 (tC x1 a1 c1), BX b37 34 (tC x2 a2 c2), BX b38 34 (tC x3 a3 c3), sl34 (L i9.1 ([x7, x3, x2] : List D.Term) i9.2) ([(tR x7 a4 c4), (tR x3 a3 c3), (tR x2 a2 c2)] : List Rw.Term)]
   replace c := c.fzr 5 13
   refine Bd h fun x8 hx8 h => Cf [] c (ih0 hx8) ⟨.f 14, trivial⟩ Tryz.call202 fun i10 _ _ c => ?_
   refine Ess 1 (tC x8 i10.1 i10.2) c fun _ c => ?_
   refine E0 ?_
   obtain rfl := sj h
   exact wp_ret (br (tr (Rg c (i10.1, i10.2) [] [15] (.cell (α := Agg 4) kk (.b 1) .nil))))
   refine Bd h fun x9 hx9 h => Bd h fun x10 hx10 h => S0 (rZ [(5, .eq (.bool x9)), (9, .eq (.bool x10))] [(1, 0), (4, 3), (8, 4)] mix c ⟨Ncl c (fun hg => impl_constIs_ok (iteT (gcT hg) hx9)) ⟨.f 6, trivial⟩ Tryz.call127, Ncl c (fun hg => impl_constIs_ok (iteT (gcT hg) hx10)) ⟨.f 9, trivial⟩ Tryz.call127, trivial⟩ fun _ _ c => I0 c h (fun h => ?_) fun h => ?_)
   refine T0 (Fp [(0, 2)] 1 c fun _ c => Ess 1 (tC x1 a1 c1) c fun _ c => ?_)
   refine E0 ?_
   obtain rfl := sj h
   exact wp_ret (br (tr (Rg c (a1, c1) [] [3] (.cell (α := Agg 4) kk (.b 1) .nil))))
   refine Bd h fun x11 hx11 h => Bd h fun x12 hx12 h => S0 (rZ [(5, .eq (.bool x11)), (9, .eq (.bool x12))] [(1, 0), (4, 3), (8, 4)] mix c ⟨Ncl c (fun hg => impl_constIs_ok (iteT (gcT hg) hx11)) ⟨.f 6, trivial⟩ Tryz.call127, Ncl c (fun hg => impl_constIs_ok (iteT (gcT hg) hx12)) ⟨.f 9, trivial⟩ Tryz.call127, trivial⟩ fun _ _ c => I0 c h (fun h => ?_) fun h => ?_)
   refine T0 (Fp [(0, 2)] 1 c fun _ c => Eltr 34 ([(tR x1 a1 c1)] : List Rw.Term) ([x1] : List D.Term) c ⟨(Ava.mk_Term x1 (.f 3)), trivial⟩ fun a5 c5 _ _ c => ?_)
   replace c := c.gm [BX b1 34 (tC p0 ga0 gc1), BX b2 34 tZ, BX b36 34 (tC x1 a1 c1), BX b37 34 (tC x2 a2 c2), BX b38 34 (tC x3 a3 c3), sl34 (L a5 ([x1] : List D.Term) c5) ([(tR x1 a1 c1)] : List Rw.Term)]
   replace c := c.fzr 5 10
   refine Bd h fun x13 hx13 h => Cf [] c (ih0 hx13) ⟨.f 11, trivial⟩ Tryz.call202 fun i11 _ _ c => ?_
   refine Ess 1 (tC x13 i11.1 i11.2) c fun _ c => ?_
   refine E0 ?_
   obtain rfl := sj h
   exact wp_ret (br (tr (Rg c (i11.1, i11.2) [] [12] (.cell (α := Agg 4) kk (.b 1) .nil))))
   refine K1 (bk (tn (T0 (Fp [(0, 0)] 1 c fun _ c => Ess 1 (tC p0 ga0 gc1) c fun _ c => ?_))))
   refine E0 ?_
   obtain rfl := sj h
   exact wp_ret (Rg c (ga0, gc1) [] [0] (.cell (α := Agg 4) kk (.b 1) .nil))
 · intro p0 ga0 gc1 r h
   rw [impl_reduceCut] at h
   refine En Tryz.func167 rfl Tryz.ntmps167 fun _ fr w c => ?_
   refine T0 (Ebx (tC p0 ga0 gc1) c fun b1 _ _ c => ?_)
   refine Eal tZ c fun b2 _ _ c => ?_
   refine E0 (T0 (Fp [(1, 0)] 2 c fun _ c => Bd h fun x1 hx1 h => Eem c (.f 0) hx1 fun _ u1 _ c => ?_))
   obtain ⟨a1, c1, rfl, c⟩ := c.o_Term 1
   refine Eal tZ c fun b3 _ _ c => ?_
   refine Ess 2 (tC x1 a1 c1) c fun _ c => ?_
   refine E0 (S0 (S0 (Ry [(1, 0), (5, 0), (7, 2)] mix c fun _ _ c => I0 c h (fun h => ?_) fun h => ?_)))
   refine T0 (Fp [(0, 2)] 1 c fun _ c => ?_)
   replace c := c.gm [BX b1 34 (tC p0 ga0 gc1), BX b2 34 tZ, BX b3 34 (tC x1 a1 c1)]
   refine Ess 1 (tC x1 a1 c1) c fun _ c => ?_
   refine E0 ?_
   obtain rfl := sj h
   exact wp_ret (tr (Rg c (a1, c1) [] [2] (.cell (α := Agg 4) kk (.b 1) .nil)))
   refine K0 (S0 (P0 [(1, 2)] c fun _ c => wp_block (P0 [] c fun _ c => I0 c h (fun h => ?_) fun h => ?_)))
   refine Bd h fun x2 hx2 h => ?_
   obtain ⟨ep1, u2, c⟩ := c.elp (.f 2) hx2
   obtain ⟨a2, c2, rfl, c⟩ := c.o_Term 4
   refine S0 (wp_ra mix (rM 12 [(9, .eq (.pointer (some ep1))), (10, .eq (tV x2 a2 c2)), (11, Pd.nw c.wd 11 (fun i : Oh => L i.1 ([x2] : List D.Term) i.2) (fun i => sl34 (L i.1 ([x2] : List D.Term) i.2) ([(tR x2 a2 c2)] : List Rw.Term)))] [(1, 0), (3, 0), (5, 2), (8, 2)] c (fun ow => ⟨np_tO ow (Nie c 3), np_tO ow (Nle c 3), Nlt c ([(tR x2 a2 c2)] : List Rw.Term), trivial⟩) fun ow _ _ hE hc cq => ?_))
   obtain ⟨i1, hi1⟩ := hE.nw 11 35
   replace c := Cx.newt c hc cq [(11, 35, _, _)] ⟨hi1, trivial⟩
   replace c := c.csl ([(tR x2 a2 c2)] : List Rw.Term) ([x2] : List D.Term) ⟨(Ava.mk_Term x2 (.f 5)), trivial⟩
   replace c := c.gm [BX b1 34 (tC p0 ga0 gc1), BX b2 34 tZ, BX b3 34 (tC x1 a1 c1), sl34 (L i1.1 ([x2] : List D.Term) i1.2) ([(tR x2 a2 c2)] : List Rw.Term)]
   replace c := c.fzr 3 6
   refine Bd h fun x3 hx3 h => Cf [] c (ih0 hx3) ⟨.f 7, trivial⟩ Tryz.call202 fun i2 _ _ c => ?_
   refine Ess 1 (tC x3 i2.1 i2.2) c fun _ c => ?_
   refine E0 ?_
   obtain rfl := sj h
   exact wp_ret (br (tr (Rg c (i2.1, i2.2) [] [8] (.cell (α := Agg 4) kk (.b 1) .nil))))
   refine P0 [] c fun _ c => I0 c h (fun h => ?_) fun h => ?_
   refine T0 (Fp [(1, 2)] 2 c fun _ c => ?_)
   replace c := c.gm [BX b1 34 (tC p0 ga0 gc1), BX b2 34 tZ, BX b3 34 (tC x1 a1 c1)]
   refine Bd h fun x4 hx4 h => Eem c (.f 2) hx4 fun _ u3 _ c => ?_
   obtain ⟨a3, c3, rfl, c⟩ := c.o_Term 3
   refine Eal tZ c fun b4 _ _ c => ?_
   refine Ess 3 (tC x4 a3 c3) c fun _ c => ?_
   refine E0 (S0 (P0 [(1, 0), (3, 0), (6, 3)] c fun _ c => I0 c h (fun h => ?_) fun h => ?_))
   refine T0 (Fp [(1, 0), (3, 0), (4, 3)] 5 c fun _ c => Eltr 34 ([(tR x4 a3 c3)] : List Rw.Term) ([x4] : List D.Term) c ⟨(Ava.mk_Term x4 (.f 4)), trivial⟩ fun a4 c4 _ _ c => ?_)
   replace c := c.fzr 4 5
   refine Bd h fun x5 hx5 h => Cf [] c (ih0 hx5) ⟨.f 6, trivial⟩ Tryz.call202 fun i3 _ _ c => ?_
   replace c := c.gm [BX b1 34 (tC p0 ga0 gc1), BX b2 34 tZ, BX b3 34 (tC x1 a1 c1), BX b4 34 (tC x4 a3 c3)]
   refine Ess 1 (tC x5 i3.1 i3.2) c fun _ c => ?_
   refine E0 ?_
   obtain rfl := sj h
   exact wp_ret (tr (br (tr (Rg c (i3.1, i3.2) [] [7] (.cell (α := Agg 4) kk (.b 1) .nil)))))
   refine K0 (P0 [(1, 0), (3, 3)] c fun _ c => I0 c h (fun h => ?_) fun h => ?_)
   refine Bd h fun x6 hx6 h => ?_
   obtain ⟨ep2, u4, c⟩ := c.elp (.f 2) hx6
   obtain ⟨a5, c5, rfl, c⟩ := c.o_Term 6
   refine S0 (wp_ra mix (rM 12 [(9, .eq (.pointer (some ep2))), (10, .eq (tV x6 a5 c5)), (11, Pd.nw c.wd 11 (fun i : Oh => L i.1 ([x6] : List D.Term) i.2) (fun i => sl34 (L i.1 ([x6] : List D.Term) i.2) ([(tR x6 a5 c5)] : List Rw.Term)))] [(1, 0), (3, 0), (5, 3), (8, 2)] c (fun ow => ⟨np_tO ow (Nie c 5), np_tO ow (Nle c 5), Nlt c ([(tR x6 a5 c5)] : List Rw.Term), trivial⟩) fun ow _ _ hE hc cq => ?_))
   obtain ⟨i4, hi4⟩ := hE.nw 11 74
   replace c := Cx.newt c hc cq [(11, 74, _, _)] ⟨hi4, trivial⟩
   replace c := c.csl ([(tR x6 a5 c5)] : List Rw.Term) ([x6] : List D.Term) ⟨(Ava.mk_Term x6 (.f 7)), trivial⟩
   replace c := c.fzr 4 8
   refine Bd h fun x7 hx7 h => Cf [] c (ih0 hx7) ⟨.f 9, trivial⟩ Tryz.call202 fun i5 _ _ c => ?_
   refine Ess 1 (tC x7 i5.1 i5.2) c fun _ c => ?_
   refine E0 ?_
   obtain rfl := sj h
   exact wp_ret (br (tr (Rg c (i5.1, i5.2) [] [10] (.cell (α := Agg 4) kk (.b 1) .nil))))
   refine K1 (bk (tn (T0 (Fp [(0, 0)] 1 c fun _ c => Ess 1 (tC p0 ga0 gc1) c fun _ c => ?_))))
   refine E0 ?_
   obtain rfl := sj h
   exact wp_ret (Rg c (ga0, gc1) [] [0] (.cell (α := Agg 4) kk (.b 1) .nil))
   refine S0 (P0 [] c fun _ c => Mp (x1.Op == 20) [(76, .bool (x1.Op == 20))] [(76, .bool (x1.Op == 21))] [(76, .bool ((x1.Op == 20) || (x1.Op == 21)))] [76, 78] c fun _ c => I0 c h (fun h => ?_) fun h => ?_)
   refine Bd h fun x8 hx8 h => ?_
   obtain ⟨ep3, u5, c⟩ := c.elp (.f 2) hx8
   obtain ⟨a6, c6, rfl, c⟩ := c.o_Term 4
   refine S0 (rZ [(7, .eq (.pointer (some ep3))), (9, .eq (I x8.W))] [(1, 0), (3, 0), (6, 2)] mix c ⟨Nie c 3, Nlc c 3 1, trivial⟩ fun _ _ c => I0 c h (fun h => ?_) fun h => ?_)
   refine Bd h fun x9 hx9 h => ?_
   obtain ⟨ep4, u6, c⟩ := c.elp (.f 2) hx9
   obtain ⟨a7, c7, rfl, c⟩ := c.o_Term 7
   refine S0 (wp_ra mix (rM 9 [(6, .eq (.pointer (some ep4))), (7, .eq (tV x9 a7 c7)), (8, Pd.nw c.wd 8 (fun i : Oh => L i.1 ([x9] : List D.Term) i.2) (fun i => sl34 (L i.1 ([x9] : List D.Term) i.2) ([(tR x9 a7 c7)] : List Rw.Term)))] [(1, 0), (3, 0), (5, 2)] c (fun ow => ⟨np_tO ow (Nie c 6), np_tO ow (Nle c 6), Nlt c ([(tR x9 a7 c7)] : List Rw.Term), trivial⟩) fun ow _ _ hE hc cq => ?_))
   obtain ⟨i6, hi6⟩ := hE.nw 8 98
   replace c := Cx.newt c hc cq [(8, 98, _, _)] ⟨hi6, trivial⟩
   replace c := c.csl ([(tR x9 a7 c7)] : List Rw.Term) ([x9] : List D.Term) ⟨(Ava.mk_Term x9 (.f 8)), trivial⟩
   replace c := c.gm [BX b1 34 (tC p0 ga0 gc1), BX b2 34 tZ, BX b3 34 (tC x1 a1 c1), sl34 (L i6.1 ([x9] : List D.Term) i6.2) ([(tR x9 a7 c7)] : List Rw.Term)]
   replace c := c.fzr 3 9
   refine Bd h fun x10 hx10 h => Cf [] c (ih0 hx10) ⟨.f 10, trivial⟩ Tryz.call202 fun i7 _ _ c => ?_
   refine Ess 1 (tC x10 i7.1 i7.2) c fun _ c => ?_
   refine E0 ?_
   obtain rfl := sj h
   exact wp_ret (br (tr (Rg c (i7.1, i7.2) [] [11] (.cell (α := Agg 4) kk (.b 1) .nil))))
   refine K1 (bk (tn (T0 (Fp [(0, 0)] 1 c fun _ c => ?_))))
   replace c := c.gm [BX b1 34 (tC p0 ga0 gc1), BX b2 34 tZ, BX b3 34 (tC x1 a1 c1)]
   refine Ess 1 (tC p0 ga0 gc1) c fun _ c => ?_
   refine E0 ?_
   obtain rfl := sj h
   exact wp_ret (Rg c (ga0, gc1) [] [0] (.cell (α := Agg 4) kk (.b 1) .nil))
   refine K1 (bk (tn (T0 (Fp [(0, 0)] 1 c fun _ c => ?_))))
   replace c := c.gm [BX b1 34 (tC p0 ga0 gc1), BX b2 34 tZ, BX b3 34 (tC x1 a1 c1)]
   refine Ess 1 (tC p0 ga0 gc1) c fun _ c => ?_
   refine E0 ?_
   obtain rfl := sj h
   exact wp_ret (Rg c (ga0, gc1) [] [0] (.cell (α := Agg 4) kk (.b 1) .nil))
 · intro p0 ga0 gc1 r h
   rw [impl_reduceWiden] at h
   refine En Tryz.func168 rfl Tryz.ntmps168 fun _ fr w c => ?_
   refine T0 (Ebx (tC p0 ga0 gc1) c fun b1 _ _ c => ?_)
   refine Eal tZ c fun b2 _ _ c => ?_
   refine E0 (T0 (Fp [(1, 0)] 2 c fun _ c => Bd h fun x1 hx1 h => Eem c (.f 0) hx1 fun _ u1 _ c => ?_))
   obtain ⟨a1, c1, rfl, c⟩ := c.o_Term 1
   refine Eal tZ c fun b3 _ _ c => ?_
   refine Ess 2 (tC x1 a1 c1) c fun _ c => ?_
   refine E0 (S0 (P0 [(1, 0), (3, 2)] c fun _ c => I0 c h (fun h => ?_) fun h => ?_))
   refine T0 (Fp [(0, 2)] 1 c fun _ c => ?_)
   replace c := c.gm [BX b1 34 (tC p0 ga0 gc1), BX b2 34 tZ, BX b3 34 (tC x1 a1 c1)]
   refine Ess 1 (tC x1 a1 c1) c fun _ c => ?_
   refine E0 ?_
   obtain rfl := sj h
   exact wp_ret (tr (Rg c (a1, c1) [] [2] (.cell (α := Agg 4) kk (.b 1) .nil)))
   refine K0 (S0 (P0 [(1, 2), (3, 0)] c fun _ c => I0 c h (fun h => ?_) fun h => ?_))
   refine Bd h fun x2 hx2 h => ?_
   obtain ⟨ep1, u2, c⟩ := c.elp (.f 2) hx2
   obtain ⟨a2, c2, rfl, c⟩ := c.o_Term 4
   refine S0 (wp_ra mix (rM 9 [(6, .eq (.pointer (some ep1))), (7, .eq (tV x2 a2 c2)), (8, Pd.nw c.wd 8 (fun i : Oh => L i.1 ([x2] : List D.Term) i.2) (fun i => sl34 (L i.1 ([x2] : List D.Term) i.2) ([(tR x2 a2 c2)] : List Rw.Term)))] [(1, 0), (3, 0), (5, 2)] c (fun ow => ⟨np_tO ow (Nie c 3), np_tO ow (Nle c 3), Nlt c ([(tR x2 a2 c2)] : List Rw.Term), trivial⟩) fun ow _ _ hE hc cq => ?_))
   obtain ⟨i1, hi1⟩ := hE.nw 8 27
   replace c := Cx.newt c hc cq [(8, 27, _, _)] ⟨hi1, trivial⟩
   replace c := c.csl ([(tR x2 a2 c2)] : List Rw.Term) ([x2] : List D.Term) ⟨(Ava.mk_Term x2 (.f 5)), trivial⟩
   replace c := c.gm [BX b1 34 (tC p0 ga0 gc1), BX b2 34 tZ, BX b3 34 (tC x1 a1 c1), sl34 (L i1.1 ([x2] : List D.Term) i1.2) ([(tR x2 a2 c2)] : List Rw.Term)]
   replace c := c.fzr 3 6
   refine Bd h fun x3 hx3 h => Cf [] c (ih0 hx3) ⟨.f 7, trivial⟩ Tryz.call202 fun i2 _ _ c => ?_
   refine Ess 1 (tC x3 i2.1 i2.2) c fun _ c => ?_
   refine E0 ?_
   obtain rfl := sj h
   exact wp_ret (tr (Rg c (i2.1, i2.2) [] [8] (.cell (α := Agg 4) kk (.b 1) .nil)))
   refine K0 (T0 (Fp [(0, 0)] 1 c fun _ c => ?_))
   replace c := c.gm [BX b1 34 (tC p0 ga0 gc1), BX b2 34 tZ, BX b3 34 (tC x1 a1 c1)]
   refine Ess 1 (tC p0 ga0 gc1) c fun _ c => ?_
   refine E0 ?_
   obtain rfl := sj h
   exact wp_ret (Rg c (ga0, gc1) [] [0] (.cell (α := Agg 4) kk (.b 1) .nil))
 · intro p0 ga0 gc1 r h
   rw [impl_reduceJoin] at h
   refine En Tryz.func169 rfl Tryz.ntmps169 fun _ fr w c => ?_
   refine T0 (Ebx (tC p0 ga0 gc1) c fun b1 _ _ c => ?_)
   refine Eal tZ c fun b2 _ _ c => ?_
   refine E0 (Bd h fun x1 hx1 h => ?_)
   obtain ⟨ep1, u1, c⟩ := c.elp (.f 0) hx1
   obtain ⟨a1, c1, rfl, c⟩ := c.o_Term 2
   refine Bd h fun x2 hx2 h => ?_
   obtain ⟨ep2, u2, c⟩ := c.elp (.f 0) hx2
   obtain ⟨a2, c2, rfl, c⟩ := c.o_Term 5
   refine S0 (Jn (fun i : Nat × Nat => ([(1, B b1 0), (2, B b2 0), (3, B i.1 0), (4, B i.2 0)], fun Γ => Γ ++ [BX i.1 34 (tC x1 a1 c1), BX i.2 34 (tC x2 a2 c2)], [])) c ?_ fun i4 _ _ c => ?_)
   refine As mix c fun _ c => ?_
   replace c := Cx.frs [(1, B b1 0), (2, B b2 0)] c
   refine Dq (fun i : Nat × Nat => ([(1, B b1 0), (2, B b2 0), (3, B i.1 0), (4, B i.2 0)], fun Γ => Γ ++ [BX i.1 34 (tC x1 a1 c1), BX i.2 34 (tC x2 a2 c2)], [])) #[true, true, true, true, true, true, true, true, true, true, true, true] (fun i => []) c (fun i3 => ?_) fun hd5 => ?_
   obtain ⟨b13, b14⟩ := i3
   refine qnE trivial fun _ _ c => ?_
   exact nN (b13, b14) (c.rk (rg 4) (rg 7))
   refine Dq (fun i : Nat × Nat => ([(1, B b1 0), (2, B b2 0), (3, B i.1 0), (4, B i.2 0)], fun Γ => Γ ++ [BX i.1 34 (tC x1 a1 c1), BX i.2 34 tZ], [])) #[true, true, true, true, false, false, false, false, true, true, true, false] (fun i => [(4, 9, B b1 4), (5, 10, L ga0 p0.Kids gc1), (6, 11, .pointer (some ep2)), (7, 12, tV x2 a2 c2)]) c (fun i2 => ?_) fun hd4 => ?_
   obtain ⟨b11, b12⟩ := i2
   refine qn [11] ⟨qP [], qP [(0, 0)], qI 4, qL 4, trivial⟩ ⟨fun _ _ c => ?_, trivial⟩
   refine op_of _ rfl rfl ?_
   refine Ess 3 (tC x2 a2 c2) c fun _ c => ?_
   refine E0 (nQ hd5 (b11, b12) (c.rk (rg 4) (rg 7)))
   refine Dq (fun i : Nat × Nat => ([(1, B b1 0), (2, B b2 0), (3, B i.1 0), (4, B i.2 0)], fun Γ => Γ ++ [BX i.1 34 tZ, BX i.2 34 tZ], [])) #[false, false, false, false, false, false, false, false, true, true, false, false] (fun i => [(0, 5, B b1 4), (1, 6, L ga0 p0.Kids gc1), (2, 7, .pointer (some ep1)), (3, 8, tV x1 a1 c1), (4, 9, B b1 4), (5, 10, L ga0 p0.Kids gc1), (6, 11, .pointer (some ep2)), (7, 12, tV x2 a2 c2)]) c (fun i1 => ?_) fun hd3 => ?_
   obtain ⟨b8, b9⟩ := i1
   refine qn [10] ⟨qP [], qP [(0, 0)], qI 1, qL 1, qP [], qP [(0, 0)], qI 4, qL 4, trivial⟩ ⟨fun _ _ c => ?_, trivial⟩
   refine op_of _ rfl rfl ?_
   refine Ess 2 (tC x1 a1 c1) c fun _ c => ?_
   refine E0 (nQ hd4 (b8, b9) (c.rk (rg 4) (rg 7)))
   refine Dq (fun i : Nat => ([(1, B b1 0), (2, B b2 0), (3, B i 0)], fun Γ => Γ ++ [BX i 34 tZ], [])) #[false, false, false, false, false, false, false, false, true, false, false, false] (fun i => [(0, 5, B b1 4), (1, 6, L ga0 p0.Kids gc1), (2, 7, .pointer (some ep1)), (3, 8, tV x1 a1 c1), (4, 9, B b1 4), (5, 10, L ga0 p0.Kids gc1), (6, 11, .pointer (some ep2)), (7, 12, tV x2 a2 c2)]) c (fun b4 => ?_) fun hd1 => ?_
   refine qn [9] ⟨qP [], qP [(0, 0)], qI 1, qL 1, qP [], qP [(0, 0)], qI 4, qL 4, trivial⟩ ⟨fun _ _ c => ?_, trivial⟩
   refine op_of _ rfl rfl ?_
   refine Eal tZ c fun b7 _ _ c => ?_
   refine E0 (nQ hd3 (b4, b7) (c.rk (rg 4) (rg 7)))
   refine Dq (fun i : Nat => ([(1, B b1 0), (2, B b2 0), (4, B i 0)], fun Γ => Γ ++ [BX i 34 tZ], [])) #[false, false, false, false, false, false, false, false, false, true, false, false] (fun i => [(0, 5, B b1 4), (1, 6, L ga0 p0.Kids gc1), (2, 7, .pointer (some ep1)), (3, 8, tV x1 a1 c1), (4, 9, B b1 4), (5, 10, L ga0 p0.Kids gc1), (6, 11, .pointer (some ep2)), (7, 12, tV x2 a2 c2)]) c (fun b6 => ?_) fun hd2 => ?_
   refine qn [8] ⟨qP [], qP [(0, 0)], qI 1, qL 1, qP [], qP [(0, 0)], qI 4, qL 4, trivial⟩ ⟨fun _ _ c => ?_, trivial⟩
   refine op_of _ rfl rfl ?_
   refine Eal tZ c fun b10 _ _ c => ?_
   refine E0 (nQ hd3 (b10, b6) (c.rk [0, 1, 3, 2] (rg 7)))
   refine q0 (qs := [(0, 5, B b1 4), (1, 6, L ga0 p0.Kids gc1), (2, 7, .pointer (some ep1)), (3, 8, tV x1 a1 c1), (4, 9, B b1 4), (5, 10, L ga0 p0.Kids gc1), (6, 11, .pointer (some ep2)), (7, 12, tV x2 a2 c2)]) c (qn [8, 9] ⟨qP [], qP [(0, 0)], qI 1, qL 1, qP [], qP [(0, 0)], qI 4, qL 4, trivial⟩ ⟨fun _ _ c => ?_, fun _ _ c => ?_, trivial⟩)
   refine op_of _ rfl rfl ?_
   refine Eal tZ c fun b3 _ _ c => ?_
   refine E0 (nQ hd1 (b3) (c.rk [0, 1, 2] (rg 7)))
   refine op_of _ rfl rfl ?_
   refine Eal tZ c fun b5 _ _ c => ?_
   refine E0 (nQ hd2 (b5) (c.rk [0, 1, 2] (rg 7)))
   obtain ⟨b15, b16⟩ := i4
   refine S0 (Bd h fun x3 hx3 h => Bd h fun x4 hx4 h => Bd h fun x5 hx5 h => S0 (rZ [(21, Pd.el (x3 : D.Term)), (22, Pd.rd (x3 : D.Term)), (25, Pd.el (x4 : D.Term)), (26, Pd.rd (x4 : D.Term)), (27, .eq (.bool x5))] [(1, 2), (5, 3), (10, 2), (12, 3), (14, 3), (20, 2), (24, 3)] mix c ⟨Nid c (.f 3) (gT hx3), Nrd c 21 (atN 21), Nid c (.f 6) (gT hx4), Nrd c 25 (atN 25), Ncd (Ψ := []) [.r 22 (fun v => RO v (x3 : D.Term)), .r 26 (fun v => RO v (x4 : D.Term))] c ⟨(atN 22), (atN 26), trivial⟩ trivial (fun hg _ _ ga gp => by obtain ⟨u1, _, rfl, g1, u2, _, rfl, g2, rfl⟩ := ga; obtain ⟨k1, rfl, f1⟩ := Opn.opn g1; obtain ⟨k2, rfl, f2⟩ := Opn.opn g2; exact ⟨_, (f1.join f2), impl_sameTerm_ok (iteT (gcT hg) hx5)⟩) Tryz.call173, trivial⟩ fun _ _ c => I0 c h (fun h => ?_) fun h => ?_))
   refine Bd h fun x6 hx6 h => ?_
   obtain ⟨ep3, u3, c⟩ := c.elp (.f 6) hx6
   obtain ⟨a3, c3, rfl, c⟩ := c.o_Term 8
   refine S0 (wp_ra mix (rM 9 [(6, .eq (.pointer (some ep3))), (7, .eq (tV x6 a3 c3)), (8, Pd.nw c.wd 8 (fun i : Oh => L i.1 ([x6] : List D.Term) i.2) (fun i => sl34 (L i.1 ([x6] : List D.Term) i.2) ([(tR x6 a3 c3)] : List Rw.Term)))] [(1, 0), (3, 3), (5, 3)] c (fun ow => ⟨np_tO ow (Nie c 7), np_tO ow (Nle c 7), Nlt c ([(tR x6 a3 c3)] : List Rw.Term), trivial⟩) fun ow _ _ hE hc cq => ?_))
   obtain ⟨i5, hi5⟩ := hE.nw 8 50
   replace c := Cx.newt c hc cq [(8, 50, _, _)] ⟨hi5, trivial⟩
   replace c := c.csl ([(tR x6 a3 c3)] : List Rw.Term) ([x6] : List D.Term) ⟨(Ava.mk_Term x6 (.f 9)), trivial⟩
   replace c := c.fzr 4 10
   refine Bd h fun x7 hx7 h => Cf [] c (ih0 hx7) ⟨.f 11, trivial⟩ Tryz.call202 fun i6 _ _ c => ?_
   refine Ess 1 (tC x7 i6.1 i6.2) c fun _ c => ?_
   refine E0 ?_
   obtain rfl := sj h
   exact wp_ret (tr (Rg c (i6.1, i6.2) [] [12] (.cell (α := Agg 4) kk (.b 1) .nil)))
   refine K0 (T0 (Fp [(0, 0)] 1 c fun _ c => Ess 1 (tC p0 ga0 gc1) c fun _ c => ?_))
   refine E0 ?_
   obtain rfl := sj h
   exact wp_ret (Rg c (ga0, gc1) [] [0] (.cell (α := Agg 4) kk (.b 1) .nil))
 · intro p0 ga0 gc1 r h
   rw [impl_reduceBinary] at h
   refine En Tryz.func170 rfl Tryz.ntmps170 fun _ fr w c => ?_
   refine T0 (Ebx (tC p0 ga0 gc1) c fun b1 _ _ c => ?_)
   refine Eal tZ c fun b2 _ _ c => ?_
   refine E0 (Bd h fun x1 hx1 h => ?_)
   obtain ⟨ep1, u1, c⟩ := c.elp (.f 0) hx1
   obtain ⟨a1, c1, rfl, c⟩ := c.o_Term 2
   refine Bd h fun x2 hx2 h => ?_
   obtain ⟨ep2, u2, c⟩ := c.elp (.f 0) hx2
   obtain ⟨a2, c2, rfl, c⟩ := c.o_Term 5
   refine S0 (Jn (fun i : Nat × Nat => ([(1, B b1 0), (2, B b2 0), (3, B i.1 0), (4, B i.2 0)], fun Γ => Γ ++ [BX i.1 34 (tC x1 a1 c1), BX i.2 34 (tC x2 a2 c2)], [])) c ?_ fun i4 _ _ c => ?_)
   refine As mix c fun _ c => ?_
   replace c := Cx.frs [(1, B b1 0), (2, B b2 0)] c
   refine Dq (fun i : Nat × Nat => ([(1, B b1 0), (2, B b2 0), (3, B i.1 0), (4, B i.2 0)], fun Γ => Γ ++ [BX i.1 34 (tC x1 a1 c1), BX i.2 34 (tC x2 a2 c2)], [])) #[true, true, true, true, true, true, true, true, true, true, true, true] (fun i => []) c (fun i3 => ?_) fun hd5 => ?_
   obtain ⟨b13, b14⟩ := i3
   refine qnE trivial fun _ _ c => ?_
   exact nN (b13, b14) (c.rk (rg 4) (rg 7))
   refine Dq (fun i : Nat × Nat => ([(1, B b1 0), (2, B b2 0), (3, B i.1 0), (4, B i.2 0)], fun Γ => Γ ++ [BX i.1 34 (tC x1 a1 c1), BX i.2 34 tZ], [])) #[true, true, true, true, false, false, false, false, true, true, true, false] (fun i => [(4, 12, B b1 4), (5, 13, L ga0 p0.Kids gc1), (6, 14, .pointer (some ep2)), (7, 15, tV x2 a2 c2)]) c (fun i2 => ?_) fun hd4 => ?_
   obtain ⟨b11, b12⟩ := i2
   refine qn [11] ⟨qP [], qP [(0, 0)], qI 4, qL 4, trivial⟩ ⟨fun _ _ c => ?_, trivial⟩
   refine op_of _ rfl rfl ?_
   refine Ess 3 (tC x2 a2 c2) c fun _ c => ?_
   refine E0 (nQ hd5 (b11, b12) (c.rk (rg 4) (rg 7)))
   refine Dq (fun i : Nat × Nat => ([(1, B b1 0), (2, B b2 0), (3, B i.1 0), (4, B i.2 0)], fun Γ => Γ ++ [BX i.1 34 tZ, BX i.2 34 tZ], [])) #[false, false, false, false, false, false, false, false, true, true, false, false] (fun i => [(0, 8, B b1 4), (1, 9, L ga0 p0.Kids gc1), (2, 10, .pointer (some ep1)), (3, 11, tV x1 a1 c1), (4, 12, B b1 4), (5, 13, L ga0 p0.Kids gc1), (6, 14, .pointer (some ep2)), (7, 15, tV x2 a2 c2)]) c (fun i1 => ?_) fun hd3 => ?_
   obtain ⟨b8, b9⟩ := i1
   refine qn [10] ⟨qP [], qP [(0, 0)], qI 1, qL 1, qP [], qP [(0, 0)], qI 4, qL 4, trivial⟩ ⟨fun _ _ c => ?_, trivial⟩
   refine op_of _ rfl rfl ?_
   refine Ess 2 (tC x1 a1 c1) c fun _ c => ?_
   refine E0 (nQ hd4 (b8, b9) (c.rk (rg 4) (rg 7)))
   refine Dq (fun i : Nat => ([(1, B b1 0), (2, B b2 0), (3, B i 0)], fun Γ => Γ ++ [BX i 34 tZ], [])) #[false, false, false, false, false, false, false, false, true, false, false, false] (fun i => [(0, 8, B b1 4), (1, 9, L ga0 p0.Kids gc1), (2, 10, .pointer (some ep1)), (3, 11, tV x1 a1 c1), (4, 12, B b1 4), (5, 13, L ga0 p0.Kids gc1), (6, 14, .pointer (some ep2)), (7, 15, tV x2 a2 c2)]) c (fun b4 => ?_) fun hd1 => ?_
   refine qn [9] ⟨qP [], qP [(0, 0)], qI 1, qL 1, qP [], qP [(0, 0)], qI 4, qL 4, trivial⟩ ⟨fun _ _ c => ?_, trivial⟩
   refine op_of _ rfl rfl ?_
   refine Eal tZ c fun b7 _ _ c => ?_
   refine E0 (nQ hd3 (b4, b7) (c.rk (rg 4) (rg 7)))
   refine Dq (fun i : Nat => ([(1, B b1 0), (2, B b2 0), (4, B i 0)], fun Γ => Γ ++ [BX i 34 tZ], [])) #[false, false, false, false, false, false, false, false, false, true, false, false] (fun i => [(0, 8, B b1 4), (1, 9, L ga0 p0.Kids gc1), (2, 10, .pointer (some ep1)), (3, 11, tV x1 a1 c1), (4, 12, B b1 4), (5, 13, L ga0 p0.Kids gc1), (6, 14, .pointer (some ep2)), (7, 15, tV x2 a2 c2)]) c (fun b6 => ?_) fun hd2 => ?_
   refine qn [8] ⟨qP [], qP [(0, 0)], qI 1, qL 1, qP [], qP [(0, 0)], qI 4, qL 4, trivial⟩ ⟨fun _ _ c => ?_, trivial⟩
   refine op_of _ rfl rfl ?_
   refine Eal tZ c fun b10 _ _ c => ?_
   refine E0 (nQ hd3 (b10, b6) (c.rk [0, 1, 3, 2] (rg 7)))
   refine q0 (qs := [(0, 8, B b1 4), (1, 9, L ga0 p0.Kids gc1), (2, 10, .pointer (some ep1)), (3, 11, tV x1 a1 c1), (4, 12, B b1 4), (5, 13, L ga0 p0.Kids gc1), (6, 14, .pointer (some ep2)), (7, 15, tV x2 a2 c2)]) c (qn [8, 9] ⟨qP [], qP [(0, 0)], qI 1, qL 1, qP [], qP [(0, 0)], qI 4, qL 4, trivial⟩ ⟨fun _ _ c => ?_, fun _ _ c => ?_, trivial⟩)
   refine op_of _ rfl rfl ?_
   refine Eal tZ c fun b3 _ _ c => ?_
   refine E0 (nQ hd1 (b3) (c.rk [0, 1, 2] (rg 7)))
   refine op_of _ rfl rfl ?_
   refine Eal tZ c fun b5 _ _ c => ?_
   refine E0 (nQ hd2 (b5) (c.rk [0, 1, 2] (rg 7)))
   obtain ⟨b15, b16⟩ := i4
   refine S0 (Bd h fun x3 hx3 h => Bd h fun x4 hx4 h => S0 (rZ [(2, .eq (.bool x3)), (6, .eq (I x4))] [(1, 0), (4, 2), (5, 3)] mix c ⟨Ncl c (kN (impl_swapsKids_ok hx3)) trivial Tryz.call203, Ncl c (fun hg => impl_CompareTerms_ok (iteT (gcT hg) hx4)) ⟨.f 3, .f 6, trivial⟩ Tryz.call204, trivial⟩ fun _ _ c => I0 c h (fun h => ?_) fun h => ?_))
   refine T0 (Fp [(1, 0), (3, 0), (4, 3), (5, 2)] 6 c fun _ c => Eltr 34 ([(tR x2 a2 c2), (tR x1 a1 c1)] : List Rw.Term) ([x2, x1] : List D.Term) c ⟨(Ava.mk_Term x2 (.f 6)), (Ava.mk_Term x1 (.f 3)), trivial⟩ fun a3 c3 _ _ c => ?_)
   replace c := c.fzr 4 7
   refine Bd h fun x5 hx5 h => Cf [] c (ih0 hx5) ⟨.f 8, trivial⟩ Tryz.call202 fun i5 _ _ c => ?_
   refine Ess 1 (tC x5 i5.1 i5.2) c fun _ c => ?_
   refine E0 ?_
   obtain rfl := sj h
   exact wp_ret (tr (Rg c (i5.1, i5.2) [] [9] (.cell (α := Agg 4) kk (.b 1) .nil)))
   refine K0 (S0 (T0 (Fp [(0, 2)] 1 c fun _ c => Bd h fun x6 hx6 h => Ca [] c (impl_isConst_ok hx6) ⟨.f 3, trivial⟩ Tryz.call163 fun _ _ _ c => ?_)))
   refine E0 (Bd h fun rl1 hit1 h => ?_)
   have hk1 := h
   refine Jr (fun s  (_ : Unit) => ([(1, B b1 0), (2, B b2 0), (3, B b15 0), (4, B b16 0)], id, [])) hit1 c (fun h => ?_) fun s1r _ _ _ hrl c => ?_
   refine I0 c h (fun h => ?_) fun h => ?_
   refine T0 (Fp [(1, 0), (3, 0), (4, 2), (5, 3)] 6 c fun _ c => Bd h fun x7 hx7 h => Cf [] c (ih7 hx7) ⟨.f 3, .f 6, trivial⟩ Tryz.call205 fun i6 _ _ c => ?_)
   refine Fp [] 3 c fun _ c => Eal tZ c fun b17 _ _ c => ?_
   refine Ess 4 (tC x7.1 i6.1 i6.2) c fun _ c => ?_
   refine Fp [] 1 c fun _ c => E0 (P0 [] c fun _ c => I0 c h (fun h => ?_) fun h => ?_)
   refine T0 (Fp [(0, 4)] 1 c fun _ c => Ess 1 (tC x7.1 i6.1 i6.2) c fun _ c => ?_)
   refine E0 ?_
   obtain rfl := sj h
   obtain rfl := sj hk1
   exact wp_ret (tr (Rg c (i6.1, i6.2) [] [7] (.cell (α := Agg 4) kk (.b 1) .nil)))
   refine K0 (⟨_, (), (sk h), c.re (rg 4) (rg 7)⟩)
   refine K0 (⟨_, (), (sk h), c.re (rg 4) (rg 7)⟩)
   subst hrl
   refine S0 (T0 (Fp [(0, 3)] 1 c fun _ c => Bd h fun x8 hx8 h => Ca [] c (impl_constIs_ok hx8) ⟨.f 6, trivial⟩ Tryz.call127 fun _ _ _ c => ?_))
   refine E0 (Bd h fun rl2 hit2 h => ?_)
   have hk2 := h
   refine Jr (fun s  (_ : Unit) => ([(1, B b1 0), (2, B b2 0), (3, B b15 0), (4, B b16 0)], id, [])) hit2 c (fun h => ?_) fun s2r _ _ _ hrl c => ?_
   refine I0 c h (fun h => ?_) fun h => ?_
   refine P0 [(1, 0)] c fun _ c => wp_block (S0 (P0 [] c fun _ c => Bd h fun rl3 hit3 h => ?_))
   have hk3 := h
   refine Jr (fun s  (_ : Unit) => ([(1, B b1 0), (2, B b2 0), (3, B b15 0), (4, B b16 0), (50, I p0.Op), (51, .bool s)], id, [])) hit3 c (fun h => ?_) fun s3r _ _ _ hrl c => ?_
   refine I0 c h (fun h => ?_) fun h => ?_
   refine K0 (⟨_, (), (sk h), c.re (rg 4) (rg 7)⟩)
   refine P0 [] c fun _ c => I0 c h (fun h => ?_) fun h => ?_
   refine K0 (⟨_, (), (sk h), c.re (rg 4) (rg 7)⟩)
   refine P0 [] c fun _ c => Mp (p0.Op == 12) [(51, .bool (p0.Op == 12))] [(51, .bool (p0.Op == 13))] [(51, .bool ((p0.Op == 12) || (p0.Op == 13)))] [51, 55] c fun _ c => ⟨_, (), (sk h), c.re (rg 4) (rg 7)⟩
   subst hrl
   refine I0 c h (fun h => ?_) fun h => ?_
   refine T0 (Fp [(0, 2)] 1 c fun _ c => Ess 1 (tC x1 a1 c1) c fun _ c => ?_)
   refine E0 ?_
   obtain rfl := sj h
   obtain rfl := sj hk2
   exact wp_ret (br (tr (Rg c (a1, c1) [] [3] (.cell (α := Agg 4) kk (.b 1) .nil))))
   refine P0 [] c fun _ c => I0 c h (fun h => ?_) fun h => ?_
   refine T0 (Bd h fun x9 hx9 h => Ca [] c (impl_ConstTerm_ok hx9) trivial Tryz.call117 fun _ _ _ c => ?_)
   refine Ess 1 [I x9.Op, I x9.W, I x9.N, Str.val x9.Name, L none ([] : List D.Term) 0] c fun _ c => ?_
   refine E0 ?_
   obtain rfl := sj h
   obtain rfl := sj hk2
   replace c := c.nilf (α := D.Term)
   exact wp_ret (br (tr (Rg c (none, 0) [] [7] (.cell (α := Agg 4) kk (.b 1) .nil))))
   refine K1 (bk (tn (⟨_, (), (sk h), c.re (rg 4) (rg 7)⟩)))
   refine K0 (⟨_, (), (sk h), c.re (rg 4) (rg 7)⟩)
   subst hrl
   refine S0 (T0 (Fp [(0, 2), (1, 3)] 2 c fun _ c => Bd h fun x10 hx10 h => Ca [] c (impl_sameTerm_ok hx10) ⟨.f 3, .f 6, trivial⟩ Tryz.call173 fun _ _ _ c => ?_))
   refine E0 (Bd h fun rl4 hit4 h => ?_)
   have hk4 := h
   refine Jr (fun s  (_ : Unit) => ([(1, B b1 0), (2, B b2 0), (3, B b15 0), (4, B b16 0)], id, [])) hit4 c (fun h => ?_) fun s4r _ _ _ hrl c => ?_
   refine I0 c h (fun h => ?_) fun h => ?_
   refine P0 [(1, 0)] c fun _ c => wp_block (S0 (P0 [] c fun _ c => Mp (p0.Op == 8) [(65, .bool (p0.Op == 8))] [(65, .bool (p0.Op == 9))] [(65, .bool ((p0.Op == 8) || (p0.Op == 9)))] [65, 67] c fun _ c => I0 c h (fun h => ?_) fun h => ?_))
   refine T0 (Fp [(0, 2)] 1 c fun _ c => Ess 1 (tC x1 a1 c1) c fun _ c => ?_)
   refine E0 ?_
   obtain rfl := sj h
   obtain rfl := sj hk4
   exact wp_ret (br (tr (Rg c (a1, c1) [] [3] (.cell (α := Agg 4) kk (.b 1) .nil))))
   refine S0 (P0 [] c fun _ c => Bd h fun rl5 hit5 h => ?_)
   have hk5 := h
   refine Jr (fun s  (_ : Unit) => ([(1, B b1 0), (2, B b2 0), (3, B b15 0), (4, B b16 0), (64, I p0.Op), (69, .bool s)], id, [])) hit5 c (fun h => ?_) fun s5r _ _ _ hrl c => ?_
   refine I0 c h (fun h => ?_) fun h => ?_
   refine K0 (⟨_, (), (sk h), c.re (rg 4) (rg 7)⟩)
   refine P0 [] c fun _ c => I0 c h (fun h => ?_) fun h => ?_
   refine K0 (⟨_, (), (sk h), c.re (rg 4) (rg 7)⟩)
   refine P0 [] c fun _ c => Mp (p0.Op == 15) [(69, .bool (p0.Op == 15))] [(69, .bool (p0.Op == 16))] [(69, .bool ((p0.Op == 15) || (p0.Op == 16)))] [69, 73] c fun _ c => ⟨_, (), (sk h), c.re (rg 4) (rg 7)⟩
   subst hrl
   refine I0 c h (fun h => ?_) fun h => ?_
   refine T0 (Fp [(1, 0)] 2 c fun _ c => Bd h fun x11 hx11 h => Ca [] c (impl_ConstTerm_ok hx11) trivial Tryz.call117 fun _ _ _ c => ?_)
   refine Ess 1 [I x11.Op, I x11.W, I x11.N, Str.val x11.Name, L none ([] : List D.Term) 0] c fun _ c => ?_
   refine E0 ?_
   obtain rfl := sj h
   obtain rfl := sj hk4
   replace c := c.nilf (α := D.Term)
   exact wp_ret (br (tr (Rg c (none, 0) [] [7] (.cell (α := Agg 4) kk (.b 1) .nil))))
   refine P0 [] c fun _ c => I0 c h (fun h => ?_) fun h => ?_
   refine T0 (Bd h fun x12 hx12 h => Ca [] c (impl_ConstTerm_ok hx12) trivial Tryz.call117 fun _ _ _ c => ?_)
   refine Ess 1 [I x12.Op, I x12.W, I x12.N, Str.val x12.Name, L none ([] : List D.Term) 0] c fun _ c => ?_
   refine E0 ?_
   obtain rfl := sj h
   obtain rfl := sj hk4
   replace c := c.nilf (α := D.Term)
   exact wp_ret (br (tr (Rg c (none, 0) [] [7] (.cell (α := Agg 4) kk (.b 1) .nil))))
   refine K1 (bk (tn (⟨_, (), (sk h), c.re (rg 4) (rg 7)⟩)))
   refine K0 (⟨_, (), (sk h), c.re (rg 4) (rg 7)⟩)
   subst hrl
   refine S0 (Bd h fun x13 hx13 h => Bd h fun x14 hx14 h => Bd h fun x15 hx15 h => Bd h fun x16 hx16 h => S0 (rZ [(2, .eq (.bool x13)), (10, .eq (.bool x14)), (22, Pd.el (x15 : D.Term)), (23, Pd.rd (x15 : D.Term)), (24, .eq (.bool x16))] [(1, 0), (5, 0), (9, 2), (14, 3), (16, 0), (21, 3)] mix c ⟨Ncl c (kN (impl_swapsKids_ok hx13)) trivial Tryz.call203, Ncl c (fun hg => impl_isConst_ok (iteT (gcT hg) hx14)) ⟨.f 3, trivial⟩ Tryz.call163, Nid c (.f 6) (gT hx15), Nrd c 22 (atN 22), Ncd (Ψ := []) [.r 23 (fun v => RO v (x15 : D.Term))] c ⟨(atN 23), trivial⟩ trivial (fun hg _ _ ga gp => by obtain ⟨u1, _, rfl, g1, rfl⟩ := ga; obtain ⟨k1, rfl, f1⟩ := Opn.opn g1; exact ⟨_, f1, impl_isConst_ok (iteT (gcT hg) hx16)⟩) Tryz.call163, trivial⟩ fun _ _ c => I0 c h (fun h => ?_) fun h => ?_))
   refine Bd h fun x17 hx17 h => ?_
   obtain ⟨ep3, u3, c⟩ := c.elp (.f 6) hx17
   obtain ⟨a4, c4, rfl, c⟩ := c.o_Term 8
   refine Bd h fun x18 hx18 h => S0 (rZ [(8, .eq (.pointer (some ep3))), (10, .eq (I x17.N)), (11, .eq (I x18))] [(1, 0), (3, 0), (5, 2), (7, 3)] mix c ⟨Nie c 7, Nlc c 7 2, Ncl c (kN (impl_ApplyBinary_ok hx18)) trivial Tryz.call201, trivial⟩ fun _ _ c => Bd h fun x19 hx19 h => Bd h fun x20 hx20 h => ?_)
   obtain ⟨ep4, u4, c⟩ := c.elp (.f 6) hx20
   obtain ⟨a5, c5, rfl, c⟩ := c.o_Term 11
   refine S0 (wp_ra mix (rM 13 [(7, .eq (.agg #[I x19.Op, I x19.W, I x19.N, Str.val x19.Name, L none ([] : List D.Term) 0])), (10, .eq (.pointer (some ep4))), (11, .eq (tV x20 a5 c5)), (12, Pd.nw c.wd 12 (fun i : Oh => L i.1 ([(D.Term.mk x19.Op x19.W x19.N x19.Name ([] : List D.Term)), x20] : List D.Term) i.2) (fun i => sl34 (L i.1 ([(D.Term.mk x19.Op x19.W x19.N x19.Name ([] : List D.Term)), x20] : List D.Term) i.2) ([(Rw.Term.mk x19.Op x19.W x19.N x19.Name ⟨none, List.length ([] : List D.Term), 0⟩), (tR x20 a5 c5)] : List Rw.Term)))] [(1, 0), (3, 0), (5, 0), (9, 3)] c (fun ow => ⟨np_tO ow (Ncl c (kN (impl_ConstTerm_ok hx19)) trivial Tryz.call117), np_tO ow (Nie c 10), np_tO ow (Nle c 10), Nlt c ([(Rw.Term.mk x19.Op x19.W x19.N x19.Name ⟨none, List.length ([] : List D.Term), 0⟩), (tR x20 a5 c5)] : List Rw.Term), trivial⟩) fun ow _ _ hE hc cq => ?_))
   obtain ⟨i7, hi7⟩ := hE.nw 12 130
   replace c := Cx.newt c hc cq [(12, 130, _, _)] ⟨hi7, trivial⟩
   replace c := c.csl ([(Rw.Term.mk x19.Op x19.W x19.N x19.Name ⟨none, List.length ([] : List D.Term), 0⟩), (tR x20 a5 c5)] : List Rw.Term) ([(D.Term.mk x19.Op x19.W x19.N x19.Name ([] : List D.Term)), x20] : List D.Term) ⟨(Ava.mk_Term (D.Term.mk x19.Op x19.W x19.N x19.Name ([] : List D.Term)) (.nil)), (Ava.mk_Term x20 (.f 12)), trivial⟩
   replace c := c.fzr 4 13
   refine Bd h fun x21 hx21 h => Cf [] c (ih0 hx21) ⟨.f 14, trivial⟩ Tryz.call202 fun i8 _ _ c => ?_
   refine Ess 1 (tC x21 i8.1 i8.2) c fun _ c => ?_
   refine E0 ?_
   obtain rfl := sj h
   exact wp_ret (tr (Rg c (i8.1, i8.2) [] [15] (.cell (α := Agg 4) kk (.b 1) .nil)))
   refine K0 (T0 (Fp [(0, 0)] 1 c fun _ c => Ess 1 (tC p0 ga0 gc1) c fun _ c => ?_))
   refine E0 ?_
   obtain rfl := sj h
   exact wp_ret (Rg c (ga0, gc1) [] [0] (.cell (α := Agg 4) kk (.b 1) .nil))
 · intro p0 p1 p2 p3 ga0 gc1 ga2 gc3 r h
   rw [impl_reduceFirst] at h
   refine En Tryz.func205 rfl Tryz.ntmps205 fun _ fr w c => ?_
   refine T0 (Ebx (tC p2 ga0 gc1) c fun b1 _ _ c => ?_)
   refine Ebx (tC p3 ga2 gc3) c fun b2 _ _ c => ?_
   refine Eal tZ c fun b3 _ _ c => ?_
   refine Fp [] 1 c fun _ c => E0 (T0 (Fp [(1, 0)] 2 c fun _ c => Bd h fun x1 hx1 h => Ca [] c (impl_onesOf_ok hx1) trivial Tryz.call221 fun _ _ _ c => ?_))
   refine Fp [] 1 c fun _ c => E0 (S0 (wp_block (S0 (S0 (Ry [(4, 0)] mix c fun _ _ c => Bd h fun rl1 hit1 h => ?_)))))
   have hk1 := h
   refine Jr (fun s  (_ : Unit) => ([(0, I p0), (1, I p1), (6, B b1 0), (7, B b2 0), (8, B b3 0), (10, I x1), (14, .bool s)], id, [])) hit1 c (fun h => ?_) fun s1r _ _ _ hrl c => ?_
   refine I0 c h (fun h => ?_) fun h => ?_
   refine K0 (⟨_, (), (sk h), c.re [0, 1, 2] [0, 1]⟩)
   refine S0 (Ry [(4, 0)] mix c fun _ _ c => I0 c h (fun h => ?_) fun h => ?_)
   refine K0 (⟨_, (), (sk h), c.re [0, 1, 2] [0, 1]⟩)
   refine S0 (Ry [(4, 0)] mix c fun _ _ c => I0 c h (fun h => ?_) fun h => ?_)
   refine K0 (⟨_, (), (sk h), c.re [0, 1, 2] [0, 1]⟩)
   refine S0 (Ry [(4, 0)] mix c fun _ _ c => I0 c h (fun h => ?_) fun h => ?_)
   refine K0 (⟨_, (), (sk h), c.re [0, 1, 2] [0, 1]⟩)
   refine S0 (Ry [(4, 0)] mix c fun _ _ c => I0 c h (fun h => ?_) fun h => ?_)
   refine K0 (⟨_, (), (sk h), c.re [0, 1, 2] [0, 1]⟩)
   refine Ry [(4, 0), (9, 0)] mix c fun _ _ c => ?_
   exact ⟨_, (), (sk h), c.re [0, 1, 2] [0, 1]⟩
   subst hrl
   refine I0 c h (fun h => ?_) fun h => ?_
   refine T0 (Fp [(0, 1)] 1 c fun _ c => Ess 2 (tC p3 ga2 gc3) c fun _ c => ?_)
   refine Fp [] 1 c fun _ c => E0 ?_
   cases h
   exact wp_ret (br (tr (Rg c (ga2, gc3) [] [1] (.cell (α := Agg 4) kk (.b 2) (.tmp .nil)))))
   refine S0 (S0 (Ry [(4, 0)] mix c fun _ _ c => Bd h fun rl2 hit2 h => ?_))
   have hk2 := h
   refine Jr (fun s  (_ : Unit) => ([(0, I p0), (1, I p1), (6, B b1 0), (7, B b2 0), (8, B b3 0), (10, I x1), (64, .bool s)], id, [])) hit2 c (fun h => ?_) fun s2r _ _ _ hrl c => ?_
   refine I0 c h (fun h => ?_) fun h => ?_
   refine K0 (⟨_, (), (sk h), c.re [0, 1, 2] [0, 1]⟩)
   refine Ry [(4, 0)] mix c fun _ _ c => ?_
   exact ⟨_, (), (sk h), c.re [0, 1, 2] [0, 1]⟩
   subst hrl
   refine I0 c h (fun h => ?_) fun h => ?_
   refine T0 (Fp [] 1 c fun _ c => Bd h fun x2 hx2 h => Ca [] c (impl_ConstTerm_ok hx2) trivial Tryz.call117 fun _ _ _ c => ?_)
   replace c := c.gm [BX b1 34 (tC p2 ga0 gc1), BX b2 34 (tC p3 ga2 gc3), BX b3 34 tZ]
   refine Ess 2 [I x2.Op, I x2.W, I x2.N, Str.val x2.Name, L none ([] : List D.Term) 0] c fun _ c => ?_
   refine Fp [] 1 c fun _ c => E0 ?_
   cases h
   replace c := c.nilf (α := D.Term)
   exact wp_ret (br (tr (Rg c (none, 0) [] [2] (.cell (α := Agg 4) kk (.b 2) (.tmp .nil)))))
   refine S0 (Ry [(4, 0)] mix c fun _ _ c => I0 c h (fun h => ?_) fun h => ?_)
   refine T0 (Fp [] 2 c fun _ c => Bd h fun x3 hx3 h => Ca [] c (impl_ConstTerm_ok hx3) trivial Tryz.call117 fun _ _ _ c => ?_)
   replace c := c.gm [BX b1 34 (tC p2 ga0 gc1), BX b2 34 (tC p3 ga2 gc3), BX b3 34 tZ]
   refine Ess 2 [I x3.Op, I x3.W, I x3.N, Str.val x3.Name, L none ([] : List D.Term) 0] c fun _ c => ?_
   refine Fp [] 1 c fun _ c => E0 ?_
   cases h
   replace c := c.nilf (α := D.Term)
   exact wp_ret (br (tr (Rg c (none, 0) [] [2] (.cell (α := Agg 4) kk (.b 2) (.tmp .nil)))))
   refine S0 (S0 (Ry [(4, 0)] mix c fun _ _ c => I0 c h (fun h => ?_) fun h => ?_))
   refine K0 (I0 c h (fun h => ?_) fun h => ?_)
   refine T0 (Fp [(1, 1)] 2 c fun _ c => Eltr 34 ([(tR p3 ga2 gc3)] : List Rw.Term) ([p3] : List D.Term) c ⟨(Ava.mk_Term p3 (.f 1)), trivial⟩ fun a1 c1 _ _ c => ?_)
   replace c := c.gm [BX b1 34 (tC p2 ga0 gc1), BX b2 34 (tC p3 ga2 gc3), BX b3 34 tZ, sl34 (L a1 ([p3] : List D.Term) c1) ([(tR p3 ga2 gc3)] : List Rw.Term)]
   replace c := c.fzr 3 2
   refine Bd h fun x4 hx4 h => Cf [] c (ih0 hx4) ⟨.f 3, trivial⟩ Tryz.call202 fun i1 _ _ c => ?_
   refine Ess 2 (tC x4 i1.1 i1.2) c fun _ c => ?_
   refine Fp [] 1 c fun _ c => E0 ?_
   cases h
   exact wp_ret (br (tr (Rg c (i1.1, i1.2) [] [4] (.cell (α := Agg 4) kk (.b 2) (.tmp .nil)))))
   refine K1 (bk (tn (T0 (Fp [] 1 c fun _ c => Ess 2 tZ c fun _ c => ?_))))
   refine Fp [] 1 c fun _ c => E0 ?_
   cases h
   replace c := c.nilf (α := D.Term)
   exact wp_ret (Rg c (none, 0) [] [2] (.cell (α := Agg 4) kk (.b 2) (.tmp .nil)))
   refine Ry [(4, 0), (9, 0)] mix c fun _ _ c => ?_
   refine I0 c h (fun h => ?_) fun h => ?_
   refine T0 (Fp [(1, 1)] 2 c fun _ c => Eltr 34 ([(tR p3 ga2 gc3)] : List Rw.Term) ([p3] : List D.Term) c ⟨(Ava.mk_Term p3 (.f 1)), trivial⟩ fun a2 c2 _ _ c => ?_)
   replace c := c.gm [BX b1 34 (tC p2 ga0 gc1), BX b2 34 (tC p3 ga2 gc3), BX b3 34 tZ, sl34 (L a2 ([p3] : List D.Term) c2) ([(tR p3 ga2 gc3)] : List Rw.Term)]
   replace c := c.fzr 3 2
   refine Bd h fun x5 hx5 h => Cf [] c (ih0 hx5) ⟨.f 3, trivial⟩ Tryz.call202 fun i2 _ _ c => ?_
   refine Ess 2 (tC x5 i2.1 i2.2) c fun _ c => ?_
   refine Fp [] 1 c fun _ c => E0 ?_
   cases h
   exact wp_ret (br (tr (Rg c (i2.1, i2.2) [] [4] (.cell (α := Agg 4) kk (.b 2) (.tmp .nil)))))
   refine K1 (bk (tn (T0 (Fp [] 1 c fun _ c => Ess 2 tZ c fun _ c => ?_))))
   refine Fp [] 1 c fun _ c => E0 ?_
   cases h
   replace c := c.nilf (α := D.Term)
   exact wp_ret (Rg c (none, 0) [] [2] (.cell (α := Agg 4) kk (.b 2) (.tmp .nil)))
theorem impl_remake_ok {n : Nat} : ∀ {p0 p1 p2 p3 ga0 gc1 r} (h : impl_remake n p0 p1 p2 p3 = some r), Con Tryz.prog 202 [I p0, I p1, I p2, L ga0 p3 gc1] [] [lR ga0 p3 gc1] fun (i : Oh) => ([tV r i.1 i.2], [], [lR i.1 r.Kids i.2]) := (impl_remake_impl_reduce_impl_reduceIf_impl_reduceCut_impl_reduceWiden_impl_reduceJoin_impl_reduceBinary_impl_reduceFirst_rec n).1
theorem impl_reduce_ok {n : Nat} : ∀ {p0 ga0 gc1 r} (h : impl_reduce n p0 = some r), Con Tryz.prog 118 [tV p0 ga0 gc1] [] [lR ga0 p0.Kids gc1] fun (i : Oh) => ([tV r i.1 i.2], [], [lR i.1 r.Kids i.2]) := (impl_remake_impl_reduce_impl_reduceIf_impl_reduceCut_impl_reduceWiden_impl_reduceJoin_impl_reduceBinary_impl_reduceFirst_rec n).2.1
theorem impl_reduceIf_ok {n : Nat} : ∀ {p0 ga0 gc1 r} (h : impl_reduceIf n p0 = some r), Con Tryz.prog 166 [tV p0 ga0 gc1] [] [lR ga0 p0.Kids gc1] fun (i : Oh) => ([tV r i.1 i.2], [], [lR i.1 r.Kids i.2]) := (impl_remake_impl_reduce_impl_reduceIf_impl_reduceCut_impl_reduceWiden_impl_reduceJoin_impl_reduceBinary_impl_reduceFirst_rec n).2.2.1
theorem impl_reduceCut_ok {n : Nat} : ∀ {p0 ga0 gc1 r} (h : impl_reduceCut n p0 = some r), Con Tryz.prog 167 [tV p0 ga0 gc1] [] [lR ga0 p0.Kids gc1] fun (i : Oh) => ([tV r i.1 i.2], [], [lR i.1 r.Kids i.2]) := (impl_remake_impl_reduce_impl_reduceIf_impl_reduceCut_impl_reduceWiden_impl_reduceJoin_impl_reduceBinary_impl_reduceFirst_rec n).2.2.2.1
theorem impl_reduceWiden_ok {n : Nat} : ∀ {p0 ga0 gc1 r} (h : impl_reduceWiden n p0 = some r), Con Tryz.prog 168 [tV p0 ga0 gc1] [] [lR ga0 p0.Kids gc1] fun (i : Oh) => ([tV r i.1 i.2], [], [lR i.1 r.Kids i.2]) := (impl_remake_impl_reduce_impl_reduceIf_impl_reduceCut_impl_reduceWiden_impl_reduceJoin_impl_reduceBinary_impl_reduceFirst_rec n).2.2.2.2.1
theorem impl_reduceJoin_ok {n : Nat} : ∀ {p0 ga0 gc1 r} (h : impl_reduceJoin n p0 = some r), Con Tryz.prog 169 [tV p0 ga0 gc1] [] [lR ga0 p0.Kids gc1] fun (i : Oh) => ([tV r i.1 i.2], [], [lR i.1 r.Kids i.2]) := (impl_remake_impl_reduce_impl_reduceIf_impl_reduceCut_impl_reduceWiden_impl_reduceJoin_impl_reduceBinary_impl_reduceFirst_rec n).2.2.2.2.2.1
theorem impl_reduceBinary_ok {n : Nat} : ∀ {p0 ga0 gc1 r} (h : impl_reduceBinary n p0 = some r), Con Tryz.prog 170 [tV p0 ga0 gc1] [] [lR ga0 p0.Kids gc1] fun (i : Oh) => ([tV r i.1 i.2], [], [lR i.1 r.Kids i.2]) := (impl_remake_impl_reduce_impl_reduceIf_impl_reduceCut_impl_reduceWiden_impl_reduceJoin_impl_reduceBinary_impl_reduceFirst_rec n).2.2.2.2.2.2.1
theorem impl_reduceFirst_ok {n : Nat} : ∀ {p0 p1 p2 p3 ga0 gc1 ga2 gc3 r} (h : impl_reduceFirst n p0 p1 p2 p3 = some r), Con Tryz.prog 205 [I p0, I p1, tV p2 ga0 gc1, tV p3 ga2 gc3] [] [lR ga0 p2.Kids gc1, lR ga2 p3.Kids gc3] fun (i : Oh) => ([tV r.1 i.1 i.2, .bool r.2], [], [lR i.1 r.1.Kids i.2]) := (impl_remake_impl_reduce_impl_reduceIf_impl_reduceCut_impl_reduceWiden_impl_reduceJoin_impl_reduceBinary_impl_reduceFirst_rec n).2.2.2.2.2.2.2

theorem impl_makeTerm_ok {n p0 p1 p2 p3 ga0 gc1 r} (h : impl_makeTerm n p0 p1 p2 p3 = some r) : Con Tryz.prog 67 [I p0, I p1, I p2, L ga0 p3 gc1] [] [lR ga0 p3 gc1] fun (i : Oh) => ([tV r.1 i.1 i.2, .bool r.2], [], [lR i.1 r.1.Kids i.2]) := by
 unfold impl_makeTerm at h
 refine En Tryz.func67 rfl Tryz.ntmps67 fun _ fr w c => ?_
 refine T0 (Eal tZ c fun b1 _ _ c => ?_)
 refine Fp [] 1 c fun _ c => E0 (T0 (Fp [] 5 c fun _ c => Eal tZ c fun b2 _ _ c => ?_))
 refine Ess 1 [I p0, I p1, I p2, Str.val ⟨[]⟩, L ga0 p3 gc1] c fun _ c => ?_
 refine E0 (S0 (T0 (Fp [(0, 1)] 1 c fun _ c => Bd h fun x1 hx1 h => Ca [] c (impl_TermOk_ok hx1) ⟨.f 0, trivial⟩ Tryz.call43 fun _ _ _ c => ?_)))
 refine Fp [] 1 c fun _ c => E0 (I0 c h (fun h => ?_) fun h => ?_)
 refine T0 (Fp [] 1 c fun _ c => Ess 0 tZ c fun _ c => ?_)
 refine Fp [] 1 c fun _ c => E0 ?_
 cases h
 replace c := c.nilf (α := D.Term)
 exact wp_ret (tr (Rg c (none, 0) [] [1] (.cell (α := Agg 4) kk (.b 0) (.tmp .nil))))
 refine K0 (T0 (Fp [(0, 1)] 1 c fun _ c => Bd h fun x2 hx2 h => Cf [] c (impl_reduce_ok hx2) ⟨.f 0, trivial⟩ Tryz.call118 fun i1 _ _ c => ?_))
 replace c := c.gm [BX b1 34 tZ, BX b2 34 [I p0, I p1, I p2, Str.val ⟨[]⟩, L ga0 p3 gc1]]
 refine Ess 0 (tC x2 i1.1 i1.2) c fun _ c => ?_
 refine Fp [] 1 c fun _ c => E0 ?_
 cases h
 exact wp_ret (Rg c (i1.1, i1.2) [] [1] (.cell (α := Agg 4) kk (.b 0) (.tmp .nil)))

theorem impl_allOf_ok {n p0 ga0 gc1 r} (h : impl_allOf n p0 = some r) : Con Tryz.prog 66 [L ga0 p0 gc1] [] [lR ga0 p0 gc1] fun (i : Oh) => ([tV r.1 i.1 i.2, .bool r.2], [], [lR i.1 r.1.Kids i.2]) := by
 unfold impl_allOf at h
 refine En Tryz.func66 rfl Tryz.ntmps66 fun _ fr w c => ?_
 refine T0 (Eal tZ c fun b1 _ _ c => ?_)
 refine Fp [] 1 c fun _ c => E0 (T0 (Bd h fun x1 hx1 h => Ca [] c (impl_ConstTerm_ok hx1) trivial Tryz.call117 fun _ _ _ c => ?_))
 refine Eal tZ c fun b2 _ _ c => ?_
 refine Ess 1 [I x1.Op, I x1.W, I x1.N, Str.val x1.Name, L none ([] : List D.Term) 0] c fun _ c => ?_
 refine E0 (S0 (P0 [] c fun _ c => Bd h fun rl1 hit1 h => ?_))
 have hk1 := h
 refine LpR (fun s1  (_ : Unit) => ([(0, L ga0 p0 gc1), (2, B b1 0), (4, B b2 0), (11, I (len p0)), (12, I s1)], id, [])) (fun s  (_ : Unit) => ([(0, L ga0 p0 gc1), (2, B b1 0), (4, B b2 0)], id, [])) hit1 c () (c.re [0, 1] [0]) (fun s1 q1 _ _ _ c h hr1 => ?_) fun s1r _ _ _ hrl c => ?_
 refine P0 [] c fun _ c => S0 (I0 c h (fun h => ?_) fun h => ?_)
 refine K0 (S0 (wp_block (P0 [] c fun _ c => Bd h fun x2 hx2 h => ?_)))
 obtain ⟨ep1, u1, c⟩ := c.elp (.f 0) hx2
 obtain ⟨a1, c1, rfl, c⟩ := c.o_Term 2
 refine Bd h fun x3 hx3 h => Bd h fun x4 hx4 h => S0 (rZ [(2, .eq (.pointer (some ep1))), (3, .eq (tV x2 a1 c1)), (4, .eq (.bool x3)), (9, Pd.el (x4 : D.Term)), (10, Pd.fl (I x4.W)), (11, .eq (I x4.W))] [] mix c ⟨Nie c 1, Nle c 1, Ncl c (kN (impl_TermOk_ok hx3)) ⟨.f 3, trivial⟩ Tryz.call43, Nid c (.f 0) (gF hx4), Nfa c 9 (atN 9) fc34_1, Nlf c 10 (atN 10), trivial⟩ fun _ _ c => I0 c h (fun h => ?_) fun h => ?_)
 refine T0 (Fp [] 1 c fun _ c => Ess 0 tZ c fun _ c => ?_)
 refine Fp [] 1 c fun _ c => E0 ?_
 obtain rfl := hr1 _ (sk h)
 obtain rfl := sj hk1
 replace c := c.nilf (α := D.Term)
 exact wp_ret (br (tr (tr (br (tr (Rg c (none, 0) [] [4] (.cell (α := Agg 4) kk (.b 0) (.tmp .nil))))))))
 refine K1 (bk (tn (P1 [] c fun _ c => Nx h () (c.re [0, 1] [0]))))
 refine wp_exit (te (te (be ?_)))
 obtain rfl := hr1 _ (sk h)
 exact tn ⟨_, (), rfl, c.re [0, 1] [0]⟩
 subst hrl
 refine S0 (P0 [] c fun _ c => ?_)
 replace c := c.nilf (α := D.Term)
 refine Bd h fun rl2 hit2 h => ?_
 have hk2 := h
 refine LpR (fun s2  (i : Oh) => ([(0, L ga0 p0 gc1), (2, B b1 0), (4, B b2 0), (32, I (len p0)), (33, I s2.1)], fun Γ => Γ.set 1 (BX b2 34 [I s2.2.1, I s2.2.2.1, I s2.2.2.2.1, Str.val s2.2.2.2.2.1, L i.1 s2.2.2.2.2.2 i.2]), [lR i.1 s2.2.2.2.2.2 i.2])) (fun s  (i : Oh) => ([(2, B b1 0), (4, B b2 0)], fun Γ => Γ.set 1 (BX b2 34 [I s.1, I s.2.1, I s.2.2.1, Str.val s.2.2.2.1, L i.1 s.2.2.2.2 i.2]), [lR i.1 s.2.2.2.2 i.2])) hit2 c (none, 0) (c.re [0, 1] [0, 1, 1]) (fun s2 q2 i1 _ _ c h hr2 => ?_) fun s2r k1 _ _ hrl c => ?_
 refine P0 [] c fun _ c => S0 (I0 c h (fun h => ?_) fun h => ?_)
 refine K0 (S0 (wp_block (P0 [] c fun _ c => Bd h fun x5 hx5 h => ?_)))
 obtain ⟨ep2, u2, c⟩ := c.elp (.f 0) hx5
 obtain ⟨a2, c2, rfl, c⟩ := c.o_Term 4
 refine Bd h fun x6 hx6 h => S0 (Jn (fun i : Nat × Oh => ([(0, L ga0 p0 gc1), (2, B b1 0), (4, B b2 0), (7, B i.1 0), (8, .bool x6.2), (32, I (len p0)), (33, I s2.1)], fun Γ => Γ ++ [BX i.1 34 (tC x6.1 i.2.1 i.2.2)], [lR i.2.1 x6.1.Kids i.2.2])) c ?_ fun i9 _ _ c => ?_)
 refine As mix c fun _ c => ?_
 replace c := Cx.frs [(0, L ga0 p0 gc1), (2, B b1 0), (4, B b2 0), (6, I s2.1), (32, I (len p0)), (33, I s2.1)] c
 refine Dq (fun i : Nat × Oh => ([(0, L ga0 p0 gc1), (2, B b1 0), (4, B b2 0), (7, B i.1 0), (32, I (len p0)), (33, I s2.1), (36, .tuple #[tV x6.1 i.2.1 i.2.2, .bool x6.2])], fun Γ => Γ ++ [BX i.1 34 (tC x6.1 i.2.1 i.2.2)], [lR i.2.1 x6.1.Kids i.2.2])) #[true, true, true, true, true, true, true, true, true, false, true, true, false] (fun i => [(9, 45, .bool x6.2), (12, 8, .bool x6.2)]) c (fun i8 => ?_) fun hd6 => ?_
 obtain ⟨b9, a9, c9⟩ := i8
 refine qnE ⟨qP [], qP [], trivial⟩ fun _ _ c => ?_
 exact nN (b9, a9, c9) (c.rk [0, 1, 2] (rg 7))
 refine Dq (fun i : Nat × Oh => ([(0, L ga0 p0 gc1), (2, B b1 0), (4, B b2 0), (7, B i.1 0), (32, I (len p0)), (33, I s2.1), (43, .tuple #[tV x6.1 i.2.1 i.2.2, .bool x6.2])], fun Γ => Γ ++ [BX i.1 34 tZ], [lR i.2.1 x6.1.Kids i.2.2])) #[true, true, true, true, true, true, true, false, false, false, true, false, false] (fun i => [(7, 36, .tuple #[tV x6.1 i.2.1 i.2.2, .bool x6.2]), (8, 44, tV x6.1 i.2.1 i.2.2), (9, 45, .bool x6.2)]) c (fun i6 => ?_) fun hd5 => ?_
 obtain ⟨b8, a8, c8⟩ := i6
 refine qn [11] ⟨qP [], qP [], qP [], trivial⟩ ⟨fun _ _ c => ?_, trivial⟩
 refine op_of _ rfl rfl ?_
 refine Ess 2 (tC x6.1 a8 c8) c fun _ c => ?_
 refine E0 (nQ hd6 (b8, a8, c8) (c.rk [0, 1, 2] (rg 7)))
 refine Dq (fun i : Oh => ([(0, L ga0 p0 gc1), (2, B b1 0), (4, B b2 0), (32, I (len p0)), (33, I s2.1), (43, .tuple #[tV x6.1 i.1 i.2, .bool x6.2])], id, [lR i.1 x6.1.Kids i.2])) #[true, true, true, true, true, true, true, false, false, false, false, false, false] (fun i => [(7, 36, .tuple #[tV x6.1 i.1 i.2, .bool x6.2]), (8, 44, tV x6.1 i.1 i.2), (9, 45, .bool x6.2)]) c (fun i4 => ?_) fun hd3 => ?_
 obtain ⟨a5, c5⟩ := i4
 refine qn [10] ⟨qP [], qP [], qP [], trivial⟩ ⟨fun _ _ c => ?_, trivial⟩
 refine op_of _ rfl rfl ?_
 refine Eal tZ c fun b7 _ _ c => ?_
 refine E0 (nQ hd5 (b7, a5, c5) (c.rk [0, 1, 2] (rg 7)))
 refine Dq (fun i : Nat × Ob (List Rw.Term) => ([(0, L ga0 p0 gc1), (2, B b1 0), (4, B b2 0), (7, B i.1 0), (32, I (len p0)), (33, I s2.1), (42, L i.2.1 ([(D.Term.mk s2.2.1 s2.2.2.1 s2.2.2.2.1 s2.2.2.2.2.1 s2.2.2.2.2.2), x5] : List D.Term) i.2.2.1)], fun Γ => Γ ++ [BX i.1 34 tZ, sl34 (L i.2.1 ([(D.Term.mk s2.2.1 s2.2.2.1 s2.2.2.2.1 s2.2.2.2.2.1 s2.2.2.2.2.2), x5] : List D.Term) i.2.2.1) (i.2.2.2)], [CS (i.2.2.2) ([(D.Term.mk s2.2.1 s2.2.2.1 s2.2.2.2.1 s2.2.2.2.2.1 s2.2.2.2.2.2), x5] : List D.Term)])) #[true, true, true, true, true, true, false, false, false, false, true, false, false] (fun i => []) c (fun i5 => ?_) fun hd4 => ?_
 obtain ⟨b6, a6, c6, rs2⟩ := i5
 refine qn [6] trivial ⟨fun _ _ c => ?_, trivial⟩
 refine op_of _ rfl rfl ?_
 replace c := c.fzr 3 6
 refine Cf [] c (impl_makeTerm_ok hx6) ⟨.f 7, trivial⟩ Tryz.call67 fun i7 _ _ c => ?_
 refine E0 (nQ hd5 (b6, i7.1, i7.2) (c.rk [0, 1, 2] [0, 1, 2, 3, 4, 5, 8]))
 refine Dq (fun i : Ob (List Rw.Term) => ([(0, L ga0 p0 gc1), (2, B b1 0), (4, B b2 0), (32, I (len p0)), (33, I s2.1), (42, L i.1 ([(D.Term.mk s2.2.1 s2.2.2.1 s2.2.2.2.1 s2.2.2.2.2.1 s2.2.2.2.2.2), x5] : List D.Term) i.2.1)], fun Γ => Γ ++ [sl34 (L i.1 ([(D.Term.mk s2.2.1 s2.2.2.1 s2.2.2.2.1 s2.2.2.2.2.1 s2.2.2.2.2.2), x5] : List D.Term) i.2.1) (i.2.2)], [CS (i.2.2) ([(D.Term.mk s2.2.1 s2.2.2.1 s2.2.2.2.1 s2.2.2.2.2.1 s2.2.2.2.2.2), x5] : List D.Term)])) #[true, true, true, true, true, true, false, false, false, false, false, false, false] (fun i => []) c (fun i2 => ?_) fun hd1 => ?_
 obtain ⟨a4, c4, rs1⟩ := i2
 refine qn [6, 10] trivial ⟨fun _ _ c => ?_, fun _ _ c => ?_, trivial⟩
 refine op_of _ rfl rfl ?_
 replace c := c.fzr 2 6
 refine Cf [] c (impl_makeTerm_ok hx6) ⟨.f 7, trivial⟩ Tryz.call67 fun i3 _ _ c => ?_
 refine E0 (nQ hd3 (i3.1, i3.2) (c.rk [0, 1] [0, 1, 2, 3, 4, 5, 8]))
 refine op_of _ rfl rfl ?_
 refine Eal tZ c fun b5 _ _ c => ?_
 refine E0 (nQ hd4 (b5, a4, c4, rs1) (c.rk [0, 1, 3, 2] (rg 7)))
 refine Dq (fun i : Nat => ([(0, L ga0 p0 gc1), (2, B b1 0), (4, B b2 0), (6, I s2.1), (7, B i 0), (32, I (len p0)), (33, I s2.1)], fun Γ => Γ ++ [BX i 34 tZ], [])) #[false, false, false, false, false, false, false, false, false, false, true, false, false] (fun i => [(0, 37, .agg #[I s2.2.1, I s2.2.2.1, I s2.2.2.2.1, Str.val s2.2.2.2.2.1, L i1.1 s2.2.2.2.2.2 i1.2]), (1, 38, L ga0 p0 gc1), (2, 39, I s2.1), (3, 40, .pointer (some ep2)), (4, 41, tV x5 a2 c2)]) c (fun b4 => ?_) fun hd2 => ?_
 refine qn [5] ⟨qP [(0, 1)], qP [], qP [], qI 3, qL 3, trivial⟩ ⟨fun _ _ c => ?_, trivial⟩
 refine op_of _ rfl rfl ?_
 refine Eltr 34 ([(Rw.Term.mk s2.2.1 s2.2.2.1 s2.2.2.2.1 s2.2.2.2.2.1 ⟨i1.1, List.length s2.2.2.2.2.2, i1.2⟩), (tR x5 a2 c2)] : List Rw.Term) ([(D.Term.mk s2.2.1 s2.2.2.1 s2.2.2.2.1 s2.2.2.2.2.1 s2.2.2.2.2.2), x5] : List D.Term) c ⟨(Ava.mk_Term (D.Term.mk s2.2.1 s2.2.2.1 s2.2.2.2.1 s2.2.2.2.2.1 s2.2.2.2.2.2) (.f 2)), (Ava.mk_Term x5 (.f 5)), trivial⟩ fun a7 c7 _ _ c => ?_
 refine E0 (nQ hd4 (b4, a7, c7, ([(Rw.Term.mk s2.2.1 s2.2.2.1 s2.2.2.2.1 s2.2.2.2.2.1 ⟨i1.1, List.length s2.2.2.2.2.2, i1.2⟩), (tR x5 a2 c2)] : List Rw.Term)) (c.rk (rg 4) (rg 7)))
 refine q0 (qs := [(0, 37, .agg #[I s2.2.1, I s2.2.2.1, I s2.2.2.2.1, Str.val s2.2.2.2.2.1, L i1.1 s2.2.2.2.2.2 i1.2]), (1, 38, L ga0 p0 gc1), (2, 39, I s2.1), (3, 40, .pointer (some ep2)), (4, 41, tV x5 a2 c2)]) c (qn [5, 10] ⟨qP [(0, 1)], qP [], qP [], qI 3, qL 3, trivial⟩ ⟨fun _ _ c => ?_, fun _ _ c => ?_, trivial⟩)
 refine op_of _ rfl rfl ?_
 refine Eltr 34 ([(Rw.Term.mk s2.2.1 s2.2.2.1 s2.2.2.2.1 s2.2.2.2.2.1 ⟨i1.1, List.length s2.2.2.2.2.2, i1.2⟩), (tR x5 a2 c2)] : List Rw.Term) ([(D.Term.mk s2.2.1 s2.2.2.1 s2.2.2.2.1 s2.2.2.2.2.1 s2.2.2.2.2.2), x5] : List D.Term) c ⟨(Ava.mk_Term (D.Term.mk s2.2.1 s2.2.2.1 s2.2.2.2.1 s2.2.2.2.2.1 s2.2.2.2.2.2) (.f 2)), (Ava.mk_Term x5 (.f 5)), trivial⟩ fun a3 c3 _ _ c => ?_
 refine E0 (nQ hd1 (a3, c3, ([(Rw.Term.mk s2.2.1 s2.2.2.1 s2.2.2.2.1 s2.2.2.2.2.1 ⟨i1.1, List.length s2.2.2.2.2.2, i1.2⟩), (tR x5 a2 c2)] : List Rw.Term)) (c.rk [0, 1, 2] (rg 7)))
 refine op_of _ rfl rfl ?_
 refine Eal tZ c fun b3 _ _ c => ?_
 refine E0 (nQ hd2 (b3) (c.rk [0, 1, 2] (rg 6)))
 obtain ⟨b10, a10, c10⟩ := i9
 refine S0 (P0 [] c fun _ c => I0 c h (fun h => ?_) fun h => ?_)
 refine T0 (Fp [] 1 c fun _ c => Ess 0 tZ c fun _ c => ?_)
 refine Fp [] 1 c fun _ c => E0 ?_
 obtain rfl := hr2 _ (sk h)
 obtain rfl := sj hk2
 replace c := c.nilf (α := D.Term)
 exact wp_ret (tr (br (tr (tr (br (tr (Rg c (none, 0) [] [7] (.cell (α := Agg 4) kk (.b 0) (.tmp .nil)))))))))
 refine K0 (T1 (Fp [(0, 2)] 1 c fun _ c => Ess 1 (tC x6.1 a10 c10) c fun _ c => ?_))
 refine E1 (bk (tn (P1 [] c fun _ c => Nx h (a10, c10) (c.re [0, 1] [0, 1, 6]))))
 refine wp_exit (te (te (be ?_)))
 obtain rfl := hr2 _ (sk h)
 exact tn ⟨_, (i1.1, i1.2), rfl, c.re [0, 1] [0, 1, 2]⟩
 subst hrl
 refine T0 (Fp [(0, 1)] 1 c fun _ c => Ess 0 [I s2r.1, I s2r.2.1, I s2r.2.2.1, Str.val s2r.2.2.2.1, L k1.1 s2r.2.2.2.2 k1.2] c fun _ c => ?_)
 refine Fp [] 1 c fun _ c => E0 ?_
 cases h
 exact wp_ret (Rg c (k1.1, k1.2) [] [2] (.cell (α := Agg 4) kk (.b 0) (.tmp .nil)))

theorem impl_copyTerms_impl_copyTerm_rec (n : Nat) : (∀ {p0 ga0 gc1 r} (h : impl_copyTerms n p0 = some r), Con Tryz.prog 119 [L ga0 p0 gc1] [] [lR ga0 p0 gc1] fun (i : Oh) => ([L i.1 r i.2], [OD (ownT 34) 34 (L i.1 r i.2) r], [])) ∧
    (∀ {p0 ga0 gc1 r} (h : impl_copyTerm n p0 = some r), Con Tryz.prog 68 [tV p0 ga0 gc1] [] [lR ga0 p0.Kids gc1] fun (i : Oh) => ([tV r i.1 i.2], [OD (ownT 34) 34 (L i.1 r.Kids i.2) r.Kids], [])) := by
 induction n with
 | zero => exact ⟨by intro p0 ga0 gc1 r h; simp [impl_copyTerms] at h, by intro p0 ga0 gc1 r h; simp [impl_copyTerm] at h⟩
 | succ n ih =>
 obtain ⟨ih0, ih1⟩ := ih
 refine ⟨?_, ?_⟩
 · intro p0 ga0 gc1 r h
   rw [impl_copyTerms] at h
   refine En Tryz.func119 rfl Tryz.ntmps119 fun _ fr w c => ?_
   refine P0 [] c fun _ c => S0 (P0 [] c fun _ c => I0 c h (fun h => ?_) fun h => ?_)
   refine P0 [] c fun _ c => ?_
   replace c := c.nilo (ownT 34) 34
   cases h
   exact wp_ret (tr (Rt c (none, 0) [0] []))
   refine K0 (T0 (Fp [] 2 c fun _ c => Bd h fun x1 hx1 h => Emkd 34 (⟨0, 0, 0, ⟨[]⟩, ⟨none, 0, 0⟩⟩ : Rw.Term) (fun w => ownT_zero 34 w) c hx1 fun a1 c1 _ _ c => ?_))
   refine Fp [] 1 c fun _ c => E0 (S0 (P0 [] c fun _ c => Bd h fun rl1 hit1 h => Lp (fun s1  (i : List Rw.Term) => ([(0, L ga0 p0 gc1), (3, L a1 x1 c1), (12, I (len p0)), (13, I s1.1)], fun Γ => (Γ.set 0 (sl34 (L a1 x1 c1) (i))).set 1 (HP.all (ownT 34) (i) s1.2), [])) (fun  (i : List Rw.Term) => ([(3, L a1 x1 c1)], fun Γ => (Γ.set 0 (sl34 (L a1 x1 c1) (i))).set 1 (HP.all (ownT 34) (i) rl1), [])) hit1 c ((List.replicate (List.length x1) (⟨0, 0, 0, ⟨[]⟩, ⟨none, 0, 0⟩⟩ : Rw.Term))) (c.re [0, 1] [0]) (fun s1 q1 i1 _ _ c h hr1 => ?_) fun k1 _ _ c => ?_))
   refine P0 [] c fun _ c => S0 (I0 c h (fun h => ?_) fun h => ?_)
   refine K0 (S0 (wp_block (P0 [] c fun _ c => T1 (Fp [] 4 c fun _ c => Bd h fun x2 hx2 h => Eem c (.f 0) hx2 fun _ u1 _ c => ?_))))
   obtain ⟨a2, c2, rfl, c⟩ := c.o_Term 1
   refine Bd h fun x3 hx3 h => Ca [] c (ih1 hx3) ⟨.f 2, trivial⟩ Tryz.call68 fun i2 _ _ c => ?_
   replace c := c.pack (H := ownT 34 (tR x3 i2.1 i2.2) x3) [OD (ownT 34) 34 (L i2.1 x3.Kids i2.2) x3.Kids] [2] (fun A h => ownT_mk (x := x3) (Sep.sole h))
   refine Bd h fun x4 hx4 h => Esetd 0 1 2 c hx4 fun _ _ _ c => ?_
   refine E1 (bk (tn (P1 [] c fun _ c => Nx h ((List.set i1 (s1.1).toNat (tR x3 i2.1 i2.2))) (c.re [0, 1] [0]))))
   refine wp_exit (te (te (be ?_)))
   obtain rfl := hr1 _ (sk h)
   exact tn ⟨(i1), c.re [0, 1] [0]⟩
   refine P0 [] c fun _ c => ?_
   replace c := c.odc 0 1
   obtain rfl := sj h
   obtain ⟨he1, c⟩ := c.releno 0
   replace c := c.eqs (v := L a1 x1 c1) (u := L a1 rl1 c1) 2 (by simp only [L, he1])
   exact wp_ret (Rt c (a1, c1) [0] [])
 · intro p0 ga0 gc1 r h
   rw [impl_copyTerm] at h
   refine En Tryz.func68 rfl Tryz.ntmps68 fun _ fr w c => ?_
   refine T0 (Ebx (tC p0 ga0 gc1) c fun b1 _ _ c => ?_)
   refine Eal tZ c fun b2 _ _ c => ?_
   refine E0 (T0 (Fp [(0, 0)] 1 c fun _ c => Eal tZ c fun b3 _ _ c => ?_))
   refine Ess 2 (tC p0 ga0 gc1) c fun _ c => ?_
   refine E0 (T0 (Fp [(1, 0)] 2 c fun _ c => Bd h fun x1 hx1 h => Ca [] c (ih0 hx1) ⟨.f 0, trivial⟩ Tryz.call119 fun i1 _ _ c => ?_))
   refine Fp [] 1 c fun _ c => ?_
   replace c := c.gm [BX b1 34 (tC p0 ga0 gc1), BX b2 34 tZ, BX b3 34 (tC p0 ga0 gc1), OD (ownT 34) 34 (L i1.1 x1 i1.2) x1]
   refine Esb 2 4 (L i1.1 x1 i1.2) c fun _ c => ?_
   refine E0 (T0 (Fp [(0, 2)] 1 c fun _ c => Ess 1 [I p0.Op, I p0.W, I p0.N, Str.val p0.Name, L i1.1 x1 i1.2] c fun _ c => ?_))
   refine E0 ?_
   cases h
   exact wp_ret (Rg c (i1.1, i1.2) [3] [] (.cell (α := Agg 4) kk (.b 1) .nil))
theorem impl_copyTerms_ok {n : Nat} : ∀ {p0 ga0 gc1 r} (h : impl_copyTerms n p0 = some r), Con Tryz.prog 119 [L ga0 p0 gc1] [] [lR ga0 p0 gc1] fun (i : Oh) => ([L i.1 r i.2], [OD (ownT 34) 34 (L i.1 r i.2) r], []) := (impl_copyTerms_impl_copyTerm_rec n).1
theorem impl_copyTerm_ok {n : Nat} : ∀ {p0 ga0 gc1 r} (h : impl_copyTerm n p0 = some r), Con Tryz.prog 68 [tV p0 ga0 gc1] [] [lR ga0 p0.Kids gc1] fun (i : Oh) => ([tV r i.1 i.2], [OD (ownT 34) 34 (L i.1 r.Kids i.2) r.Kids], []) := (impl_copyTerms_impl_copyTerm_rec n).2

theorem impl_OutcomeTerm_ok {n p0 p1 p2 ga0 gc1 ga2 gc3 r} (h : impl_OutcomeTerm n p0 p1 p2 = some r) : Con Tryz.prog 23 [gV p0 ga0 gc1, L ga2 p1 gc3, I p2] [] [lR ga0 p0.Code gc1, lR ga2 p1 gc3] fun (i : Oh) => ([tV r.1 i.1 i.2, .bool r.2], [OD (ownT 34) 34 (L i.1 r.1.Kids i.2) r.1.Kids], []) := by
 unfold impl_OutcomeTerm at h
 refine En Tryz.func23 rfl Tryz.ntmps23 fun _ fr w c => ?_
 refine T0 (Ebx (gC p0 ga0 gc1) c fun b1 _ _ c => ?_)
 refine Eal tZ c fun b2 _ _ c => ?_
 refine Fp [] 1 c fun _ c => E0 (S0 (Bd h fun x1 hx1 h => S0 (rZ [(1, .eq (.bool x1))] [(0, 0)] mix c ⟨Ncl c (kN (impl_ProgramOk_ok hx1)) ⟨.f 0, trivial⟩ Tryz.call63, trivial⟩ fun _ _ c => I0 c h (fun h => ?_) fun h => ?_)))
 refine T0 (Fp [] 1 c fun _ c => Ess 1 tZ c fun _ c => ?_)
 refine Fp [] 1 c fun _ c => E0 ?_
 replace c := c.nilo (ownT 34) 34
 cases h
 exact wp_ret (tr (Rg c (none, 0) [2] [] (.cell (α := Agg 4) kk (.b 1) (.tmp .nil))))
 refine K0 (S0 (P0 [] c fun _ c => Bd h fun rl1 hit1 h => ?_))
 have hk1 := h
 refine LpR (fun s1  (_ : Unit) => ([(1, L ga2 p1 gc3), (2, I p2), (3, B b1 0), (6, B b2 0), (31, L ga2 p1 gc3), (32, I (len p1)), (33, I s1)], id, [])) (fun s  (_ : Unit) => ([(1, L ga2 p1 gc3), (2, I p2), (3, B b1 0), (6, B b2 0)], id, [])) hit1 c () (c.re [0, 1] [0, 1]) (fun s1 q1 _ _ _ c h hr1 => ?_) fun s1r _ _ _ hrl c => ?_
 refine P0 [] c fun _ c => S0 (I0 c h (fun h => ?_) fun h => ?_)
 refine K0 (S0 (wp_block (T0 (Bd h fun x2 hx2 h => Eem c (.f 1) hx2 fun _ u1 _ c => ?_))))
 obtain ⟨a1, c1, a2, c2, a3, c3, a4, c4, a5, c5, a6, c6, rfl, c⟩ := c.o_Path 2
 refine Eal pZ c fun b3 _ _ c => ?_
 refine Ess 2 (pC x2 a1 c1 a2 c2 a3 c3 a4 c4 a5 c5 a6 c6) c fun _ c => ?_
 refine E0 (T0 (Fp [(0, 0), (1, 2)] 2 c fun _ c => ?_))
 replace c := c.gm [BX b1 53 (gC p0 ga0 gc1), BX b2 34 tZ, BX b3 66 (pC x2 a1 c1 a2 c2 a3 c3 a4 c4 a5 c5 a6 c6)]
 refine Bd h fun x3 hx3 h => Ca [] c (impl_PathOk_ok hx3) ⟨.f 0, .f 3, .f 4, .f 5, .f 6, .f 7, .f 8, trivial⟩ Tryz.call64 fun _ _ _ c => ?_
 refine Fp [] 1 c fun _ c => E0 (I0 c h (fun h => ?_) fun h => ?_)
 refine T0 (Fp [] 1 c fun _ c => Ess 1 tZ c fun _ c => ?_)
 refine Fp [] 1 c fun _ c => E0 ?_
 replace c := c.nilo (ownT 34) 34
 obtain rfl := hr1 _ (sk h)
 obtain rfl := sj hk1
 exact wp_ret (br (tr (tr (br (tr (Rg c (none, 0) [3] [] (.cell (α := Agg 4) kk (.b 1) (.tmp .nil))))))))
 refine K1 (bk (tn (P1 [] c fun _ c => Nx h () (c.re [0, 1] [0, 1]))))
 refine wp_exit (te (te (be ?_)))
 obtain rfl := hr1 _ (sk h)
 exact tn ⟨_, (), rfl, c.re [0, 1] [0, 1]⟩
 subst hrl
 refine Bd h fun x4 hx4 h => ?_
 obtain ⟨ep1, u2, c⟩ := c.elp (.f 1) hx4
 obtain ⟨a7, c7, a8, c8, a9, c9, a10, c10, a11, c11, a12, c12, rfl, c⟩ := c.o_Path 3
 refine Bd h fun x5 hx5 h => S0 (Jn (fun i : Nat × Oh => ([(1, L ga2 p1 gc3), (2, I p2), (3, B b1 0), (6, B b2 0), (10, B i.1 0)], fun Γ => Γ ++ [BX i.1 34 (tC x5 i.2.1 i.2.2)], [lR i.2.1 x5.Kids i.2.2])) c ?_ fun i6 _ _ c => ?_)
 refine As mix c fun _ c => ?_
 replace c := Cx.frs [(1, L ga2 p1 gc3), (2, I p2), (3, B b1 0), (6, B b2 0)] c
 refine Dq (fun i : Nat × Oh => ([(1, L ga2 p1 gc3), (2, I p2), (3, B b1 0), (6, B b2 0), (10, B i.1 0)], fun Γ => Γ ++ [BX i.1 34 (tC x5 i.2.1 i.2.2)], [lR i.2.1 x5.Kids i.2.2])) #[true, true, true, true, true, true, true, true, true, true, true] (fun i => []) c (fun i5 => ?_) fun hd4 => ?_
 obtain ⟨b8, a15, c15⟩ := i5
 refine qnE trivial fun _ _ c => ?_
 exact nN (b8, a15, c15) (c.rk [0, 1, 2] (rg 11))
 refine Dq (fun i : Nat × Oh => ([(1, L ga2 p1 gc3), (2, I p2), (3, B b1 0), (6, B b2 0), (10, B i.1 0), (51, tV x5 i.2.1 i.2.2)], fun Γ => Γ ++ [BX i.1 34 tZ], [lR i.2.1 x5.Kids i.2.2])) #[true, true, true, true, true, true, true, true, true, true, false] (fun i => []) c (fun i3 => ?_) fun hd3 => ?_
 obtain ⟨b7, a14, c14⟩ := i3
 refine qn [10] trivial ⟨fun _ _ c => ?_, trivial⟩
 refine op_of _ rfl rfl ?_
 refine Ess 2 (tC x5 a14 c14) c fun _ c => ?_
 refine E0 (nQ hd4 (b7, a14, c14) (c.rk [0, 1, 2] (rg 11)))
 refine Dq (fun i : Oh => ([(1, L ga2 p1 gc3), (2, I p2), (3, B b1 0), (6, B b2 0), (51, tV x5 i.1 i.2)], id, [lR i.1 x5.Kids i.2])) #[true, true, true, true, true, true, true, true, true, false, false] (fun i => []) c (fun i2 => ?_) fun hd1 => ?_
 obtain ⟨a13, c13⟩ := i2
 refine qn [9] trivial ⟨fun _ _ c => ?_, trivial⟩
 refine op_of _ rfl rfl ?_
 refine Eal tZ c fun b6 _ _ c => ?_
 refine E0 (nQ hd3 (b6, a13, c13) (c.rk [0, 1, 2] (rg 11)))
 refine Dq (fun i : Nat => ([(1, L ga2 p1 gc3), (2, I p2), (3, B b1 0), (6, B b2 0), (10, B i 0)], fun Γ => Γ ++ [BX i 34 tZ], [])) #[false, false, false, false, false, false, false, false, false, true, false] (fun i => [(0, 43, gV p0 ga0 gc1), (1, 44, L ga2 p1 gc3), (2, 45, L ga2 p1 gc3), (3, 46, I (len p1)), (4, 47, I (w64 ((len p1) - 1))), (5, 48, .pointer (some ep1)), (6, 49, pV x4 a7 c7 a8 c8 a9 c9 a10 c10 a11 c11 a12 c12), (7, 50, I p2)]) c (fun b5 => ?_) fun hd2 => ?_
 refine qn [8] ⟨qP [(0, 0)], qP [], qP [], qP [], qP [], qI 2, qL 2, qP [], trivial⟩ ⟨fun _ _ c => ?_, trivial⟩
 refine op_of _ rfl rfl ?_
 refine Cf [] c (impl_outcome_ok hx5) ⟨.f 0, .f 4, .f 5, .f 6, .f 7, .f 8, .f 9, trivial⟩ Tryz.call65 fun i4 _ _ c => ?_
 refine E0 (nQ hd3 (b5, i4.1, i4.2) (c.rk [0, 1, 2] (rg 11)))
 refine q0 (qs := [(0, 43, gV p0 ga0 gc1), (1, 44, L ga2 p1 gc3), (2, 45, L ga2 p1 gc3), (3, 46, I (len p1)), (4, 47, I (w64 ((len p1) - 1))), (5, 48, .pointer (some ep1)), (6, 49, pV x4 a7 c7 a8 c8 a9 c9 a10 c10 a11 c11 a12 c12), (7, 50, I p2)]) c (qn [8, 9] ⟨qP [(0, 0)], qP [], qP [], qP [], qP [], qI 2, qL 2, qP [], trivial⟩ ⟨fun _ _ c => ?_, fun _ _ c => ?_, trivial⟩)
 refine op_of _ rfl rfl ?_
 refine Cf [] c (impl_outcome_ok hx5) ⟨.f 0, .f 4, .f 5, .f 6, .f 7, .f 8, .f 9, trivial⟩ Tryz.call65 fun i1 _ _ c => ?_
 refine E0 (nQ hd1 (i1.1, i1.2) (c.rk [0, 1] (rg 11)))
 refine op_of _ rfl rfl ?_
 refine Eal tZ c fun b4 _ _ c => ?_
 refine E0 (nQ hd2 (b4) (c.rk [0, 1, 2] (rg 10)))
 obtain ⟨b9, a16, c16⟩ := i6
 refine S0 (P0 [] c fun _ c => Bd h fun rl2 hit2 h => ?_)
 have hk2 := h
 refine LpR (fun s2  (i : Oh) => ([(1, L ga2 p1 gc3), (2, I p2), (3, B b1 0), (6, B b2 0), (10, B b9 0), (11, I s2.1)], fun Γ => Γ.set 2 (BX b9 34 [I s2.2.1, I s2.2.2.1, I s2.2.2.2.1, Str.val s2.2.2.2.2.1, L i.1 s2.2.2.2.2.2 i.2]), [lR i.1 s2.2.2.2.2.2 i.2])) (fun s  (i : Oh) => ([(6, B b2 0), (10, B b9 0)], fun Γ => Γ.set 2 (BX b9 34 [I s.1, I s.2.1, I s.2.2.1, Str.val s.2.2.2.1, L i.1 s.2.2.2.2 i.2]), [lR i.1 s.2.2.2.2 i.2])) hit2 c (a16, c16) (c.re [0, 1, 2] [0, 1, 2, 3, 4, 5, 6, 7, 8, 9, 10, 10]) (fun s2 q2 i7 _ _ c h hr2 => ?_) fun s2r k1 _ _ hrl c => ?_
 refine S0 (P0 [] c fun _ c => I0 c h (fun h => ?_) fun h => ?_)
 refine K0 (S0 (wp_block (T0 (Fp [] 2 c fun _ c => Bd h fun x6 hx6 h => Eemf c (.f 1) hx6 fm_Path8 fun _ _ u3 _ c => ?_))))
 obtain ⟨a17, c17, rfl⟩ := c.sl 12
 refine Bd h fun x7 hx7 h => Cf [] c (impl_allOf_ok hx7) ⟨.f 12, trivial⟩ Tryz.call66 fun i8 _ _ c => ?_
 refine Fp [] 3 c fun _ c => Eal tZ c fun b10 _ _ c => ?_
 refine Ess 3 (tC x7.1 i8.1 i8.2) c fun _ c => ?_
 refine Fp [] 1 c fun _ c => E0 (S0 (P0 [] c fun _ c => I0 c h (fun h => ?_) fun h => ?_))
 refine T0 (Fp [] 1 c fun _ c => Ess 1 tZ c fun _ c => ?_)
 refine Fp [] 1 c fun _ c => E0 ?_
 replace c := c.nilo (ownT 34) 34
 obtain rfl := hr2 _ (sk h)
 obtain rfl := sj hk2
 exact wp_ret (tr (br (tr (tr (br (tr (Rg c (none, 0) [4] [] (.cell (α := Agg 4) kk (.b 1) (.tmp .nil)))))))))
 refine K0 (Bd h fun x8 hx8 h => ?_)
 obtain ⟨ep2, u4, c⟩ := c.elp (.f 1) hx8
 obtain ⟨a18, c18, a19, c19, a20, c20, a21, c21, a22, c22, a23, c23, rfl, c⟩ := c.o_Path 15
 refine Bd h fun x9 hx9 h => Bd h fun x10 hx10 h => S0 (Jn (fun i : Oh => ([(1, L ga2 p1 gc3), (2, I p2), (3, B b1 0), (6, B b2 0), (10, B b9 0), (11, I s2.1), (13, .bool x10.2)], fun Γ => Γ.set 2 (BX b9 34 (tC x10.1 i.1 i.2)), [lR i.1 x10.1.Kids i.2])) c ?_ fun i15 _ _ c => ?_)
 refine As mix c fun _ c => ?_
 replace c := Cx.frs [(1, L ga2 p1 gc3), (2, I p2), (3, B b1 0), (6, B b2 0), (10, B b9 0), (11, I s2.1), (12, B b10 0)] c
 refine Dq (fun i : Oh => ([(1, L ga2 p1 gc3), (2, I p2), (3, B b1 0), (6, B b2 0), (10, B b9 0), (11, I s2.1), (71, .tuple #[tV x10.1 i.1 i.2, .bool x10.2])], fun Γ => Γ.set 2 (BX b9 34 (tC x10.1 i.1 i.2)), [lR i.1 x10.1.Kids i.2])) #[true, true, true, true, true, true, true, true, true, true, true, true, true, true, true, false, true, false] (fun i => [(15, 86, .bool x10.2), (17, 13, .bool x10.2)]) c (fun i14 => ?_) fun hd8 => ?_
 obtain ⟨a28, c28⟩ := i14
 refine qnE ⟨qP [], qP [], trivial⟩ fun _ _ c => ?_
 exact nN (a28, c28) (c.rk (rg 4) (rg 23))
 refine Dq (fun i : Oh => ([(1, L ga2 p1 gc3), (2, I p2), (3, B b1 0), (6, B b2 0), (10, B b9 0), (11, I s2.1), (84, .tuple #[tV x10.1 i.1 i.2, .bool x10.2])], id, [lR i.1 x10.1.Kids i.2])) #[true, true, true, true, true, true, true, true, true, true, true, true, true, false, false, false, false, false] (fun i => [(13, 71, .tuple #[tV x10.1 i.1 i.2, .bool x10.2]), (14, 85, tV x10.1 i.1 i.2), (15, 86, .bool x10.2)]) c (fun i13 => ?_) fun hd7 => ?_
 obtain ⟨a27, c27⟩ := i13
 refine qn [16] ⟨qP [], qP [], qP [], trivial⟩ ⟨fun _ _ c => ?_, trivial⟩
 refine op_of _ rfl rfl ?_
 refine Ess 2 (tC x10.1 a27 c27) c fun _ c => ?_
 refine E0 (nQ hd8 (a27, c27) (c.rk (rg 4) (rg 23)))
 refine Dq (fun i : Ob (List Rw.Term) => ([(1, L ga2 p1 gc3), (2, I p2), (3, B b1 0), (6, B b2 0), (10, B b9 0), (11, I s2.1), (83, L i.1 ([x7.1, x9, (D.Term.mk s2.2.1 s2.2.2.1 s2.2.2.2.1 s2.2.2.2.2.1 s2.2.2.2.2.2)] : List D.Term) i.2.1)], fun Γ => Γ ++ [sl34 (L i.1 ([x7.1, x9, (D.Term.mk s2.2.1 s2.2.2.1 s2.2.2.2.1 s2.2.2.2.2.1 s2.2.2.2.2.2)] : List D.Term) i.2.1) (i.2.2)], [CS (i.2.2) ([x7.1, x9, (D.Term.mk s2.2.1 s2.2.2.1 s2.2.2.2.1 s2.2.2.2.2.1 s2.2.2.2.2.2)] : List D.Term)])) #[false, false, true, true, true, true, true, true, true, true, true, true, false, false, false, false, false, false] (fun i => [(0, 72, B b9 1), (1, 73, I s2.2.2.1)]) c (fun i11 => ?_) fun hd6 => ?_
 obtain ⟨a26, c26, rs1⟩ := i11
 refine qn [12] ⟨qP [], qP [(0, 2)], trivial⟩ ⟨fun _ _ c => ?_, trivial⟩
 refine op_of _ rfl rfl ?_
 replace c := c.fzr 4 22
 refine Cf [] c (impl_makeTerm_ok hx10) ⟨.f 23, trivial⟩ Tryz.call67 fun i12 _ _ c => ?_
 refine E0 (nQ hd7 (i12.1, i12.2) (c.rk (rg 4) [0, 1, 2, 3, 4, 5, 6, 7, 8, 9, 10, 11, 12, 13, 14, 15, 16, 17, 18, 19, 20, 21, 24]))
 refine Dq (fun i : Oh => ([(1, L ga2 p1 gc3), (2, I p2), (3, B b1 0), (6, B b2 0), (10, B b9 0), (11, I s2.1), (12, B b10 0), (81, tV x9 i.1 i.2)], id, [lR i.1 x9.Kids i.2])) #[false, false, false, true, true, true, true, true, true, true, false, false, false, false, false, false, false, false] (fun i => [(0, 72, B b9 1), (1, 73, I s2.2.2.1), (2, 74, tV x7.1 i8.1 i8.2), (10, 82, .agg #[I s2.2.1, I s2.2.2.1, I s2.2.2.2.1, Str.val s2.2.2.2.2.1, L i7.1 s2.2.2.2.2.2 i7.2])]) c (fun i10 => ?_) fun hd5 => ?_
 obtain ⟨a24, c24⟩ := i10
 refine qn [11] ⟨qP [], qP [(0, 2)], qP [(0, 3)], qP [(0, 2)], trivial⟩ ⟨fun _ _ c => ?_, trivial⟩
 refine op_of _ rfl rfl ?_
 refine Eltr 34 ([(tR x7.1 i8.1 i8.2), (tR x9 a24 c24), (Rw.Term.mk s2.2.1 s2.2.2.1 s2.2.2.2.1 s2.2.2.2.2.1 ⟨i7.1, List.length s2.2.2.2.2.2, i7.2⟩)] : List Rw.Term) ([x7.1, x9, (D.Term.mk s2.2.1 s2.2.2.1 s2.2.2.2.1 s2.2.2.2.2.1 s2.2.2.2.2.2)] : List D.Term) c ⟨(Ava.mk_Term x7.1 (.f 13)), (Ava.mk_Term x9 (.f 22)), (Ava.mk_Term (D.Term.mk s2.2.1 s2.2.2.1 s2.2.2.2.1 s2.2.2.2.2.1 s2.2.2.2.2.2) (.f 11)), trivial⟩ fun a25 c25 _ _ c => ?_
 refine E0 (nQ hd6 (a25, c25, ([(tR x7.1 i8.1 i8.2), (tR x9 a24 c24), (Rw.Term.mk s2.2.1 s2.2.2.1 s2.2.2.2.1 s2.2.2.2.2.1 ⟨i7.1, List.length s2.2.2.2.2.2, i7.2⟩)] : List Rw.Term)) (c.rk (rg 5) [0, 1, 2, 3, 4, 5, 6, 7, 8, 9, 10, 11, 12, 13, 14, 15, 16, 17, 18, 19, 20, 21, 23]))
 refine q0 (qs := [(0, 72, B b9 1), (1, 73, I s2.2.2.1), (2, 74, tV x7.1 i8.1 i8.2), (3, 75, gV p0 ga0 gc1), (4, 76, L ga2 p1 gc3), (5, 77, I s2.1), (6, 78, .pointer (some ep2)), (7, 79, pV x8 a18 c18 a19 c19 a20 c20 a21 c21 a22 c22 a23 c23), (8, 80, I p2), (10, 82, .agg #[I s2.2.1, I s2.2.2.1, I s2.2.2.2.1, Str.val s2.2.2.2.2.1, L i7.1 s2.2.2.2.2.2 i7.2])]) c (qn [9] ⟨qP [], qP [(0, 2)], qP [(0, 3)], qP [(0, 0)], qP [], qP [], qI 14, qL 14, qP [], qP [(0, 2)], trivial⟩ ⟨fun _ _ c => ?_, trivial⟩)
 refine op_of _ rfl rfl ?_
 refine Cf [] c (impl_outcome_ok hx9) ⟨.f 0, .f 16, .f 17, .f 18, .f 19, .f 20, .f 21, trivial⟩ Tryz.call65 fun i9 _ _ c => ?_
 refine E0 (nQ hd5 (i9.1, i9.2) (c.rk (rg 4) (rg 23)))
 obtain ⟨a29, c29⟩ := i15
 refine P0 [] c fun _ c => I0 c h (fun h => ?_) fun h => ?_
 refine T0 (Fp [] 1 c fun _ c => Ess 1 tZ c fun _ c => ?_)
 refine Fp [] 1 c fun _ c => E0 ?_
 replace c := c.nilo (ownT 34) 34
 obtain rfl := hr2 _ (sk h)
 obtain rfl := sj hk2
 exact wp_ret (br (tr (tr (br (tr (Rg c (none, 0) [4] [] (.cell (α := Agg 4) kk (.b 1) (.tmp .nil))))))))
 refine K1 (bk (tn (P1 [] c fun _ c => Nx h (a29, c29) (c.re [0, 1, 2] [0, 1, 2, 3, 4, 5, 6, 7, 8, 9, 10, 22]))))
 refine wp_exit (te (te (be ?_)))
 obtain rfl := hr2 _ (sk h)
 exact tn ⟨_, (i7.1, i7.2), rfl, c.re [0, 1, 2] (rg 12)⟩
 subst hrl
 refine T0 (Fp [(0, 2)] 1 c fun _ c => Bd h fun x11 hx11 h => Ca [] c (impl_copyTerm_ok hx11) ⟨.f 11, trivial⟩ Tryz.call68 fun i16 _ _ c => ?_)
 refine Ess 1 (tC x11 i16.1 i16.2) c fun _ c => ?_
 refine Fp [] 1 c fun _ c => E0 ?_
 cases h
 exact wp_ret (Rg c (i16.1, i16.2) [3] [] (.cell (α := Agg 4) kk (.b 1) (.tmp .nil)))

theorem laws_eqTermS_laws_eqTerm_rec (n : Nat) : (∀ {p0 p1 ga0 gc1 ga2 gc3 r} (h : laws_eqTermS n p0 p1 = some r), Con Tryz.prog 50 [L ga0 p0 gc1, L ga2 p1 gc3] [] [lR ga0 p0 gc1, lR ga2 p1 gc3] fun (_ : Unit) => ([.bool r], [], [])) ∧
    (∀ {p0 p1 ga0 gc1 ga2 gc3 r} (h : laws_eqTerm n p0 p1 = some r), Con Tryz.prog 12 [tV p0 ga0 gc1, tV p1 ga2 gc3] [] [lR ga0 p0.Kids gc1, lR ga2 p1.Kids gc3] fun (_ : Unit) => ([.bool r], [], [])) := by
 induction n with
 | zero => exact ⟨by intro p0 p1 ga0 gc1 ga2 gc3 r h; simp [laws_eqTermS] at h, by intro p0 p1 ga0 gc1 ga2 gc3 r h; simp [laws_eqTerm] at h⟩
 | succ n ih =>
 obtain ⟨ih0, ih1⟩ := ih
 refine ⟨?_, ?_⟩
 · intro p0 p1 ga0 gc1 ga2 gc3 r h
   rw [laws_eqTermS] at h
   refine En Tryz.func50 rfl Tryz.ntmps50 fun _ fr w c => ?_
   refine P0 [] c fun _ c => S0 (P0 [] c fun _ c => I0 c h (fun h => ?_) fun h => ?_)
   refine P0 [] c fun _ c => ?_
   obtain rfl := sj h
   exact wp_ret (tr (Rt c () [] []))
   refine K0 (S0 (P0 [] c fun _ c => Bd h fun rl1 hit1 h => ?_))
   have hk1 := h
   refine LpR (fun s1  (_ : Unit) => ([(0, L ga0 p0 gc1), (1, L ga2 p1 gc3), (5, I s1)], id, [])) (fun s  (_ : Unit) => ([], id, [])) hit1 c () (c.re [] [0, 1]) (fun s1 q1 _ _ _ c h hr1 => ?_) fun s1r _ _ _ hrl c => ?_
   refine S0 (P0 [] c fun _ c => I0 c h (fun h => ?_) fun h => ?_)
   refine K0 (S0 (wp_block (Bd h fun x1 hx1 h => ?_)))
   obtain ⟨ep1, u1, c⟩ := c.elp (.f 0) hx1
   obtain ⟨a1, c1, rfl, c⟩ := c.o_Term 3
   refine Bd h fun x2 hx2 h => ?_
   obtain ⟨ep2, u2, c⟩ := c.elp (.f 1) hx2
   obtain ⟨a2, c2, rfl, c⟩ := c.o_Term 6
   refine Bd h fun x3 hx3 h => S0 (rZ [(2, .eq (.pointer (some ep1))), (3, .eq (tV x1 a1 c1)), (6, .eq (.pointer (some ep2))), (7, .eq (tV x2 a2 c2)), (8, .eq (.bool x3))] [] mix c ⟨Nie c 2, Nle c 2, Nie c 5, Nle c 5, Ncl c (kN (ih1 hx3)) ⟨.f 4, .f 7, trivial⟩ Tryz.call12, trivial⟩ fun _ _ c => I0 c h (fun h => ?_) fun h => ?_)
   refine P0 [] c fun _ c => ?_
   obtain rfl := hr1 _ (sk h)
   obtain rfl := sj hk1
   exact wp_ret (br (tr (tr (br (tr (Rt c () [] []))))))
   refine K1 (bk (tn (P1 [] c fun _ c => Nx h () (c.re [] [0, 1]))))
   refine wp_exit (te (te (be ?_)))
   obtain rfl := hr1 _ (sk h)
   exact tn ⟨_, (), rfl, c.re [] [0, 1]⟩
   subst hrl
   refine P0 [] c fun _ c => ?_
   obtain rfl := sj h
   exact wp_ret (Rt c () [] [])
 · intro p0 p1 ga0 gc1 ga2 gc3 r h
   rw [laws_eqTerm] at h
   refine En Tryz.func12 rfl Tryz.ntmps12 fun _ fr w c => ?_
   refine T0 (Ebx (tC p0 ga0 gc1) c fun b1 _ _ c => ?_)
   refine Ebx (tC p1 ga2 gc3) c fun b2 _ _ c => ?_
   refine Fp [] 1 c fun _ c => E0 (S0 (P0 [(1, 0), (3, 1)] c fun _ c => I0 c h (fun h => ?_) fun h => ?_))
   refine P0 [] c fun _ c => ?_
   obtain rfl := sj h
   exact wp_ret (tr (Rt c () [] []))
   refine K0 (S0 (P0 [(1, 0), (3, 1)] c fun _ c => I0 c h (fun h => ?_) fun h => ?_))
   refine P0 [] c fun _ c => ?_
   obtain rfl := sj h
   exact wp_ret (tr (Rt c () [] []))
   refine K0 (S0 (P0 [(1, 0), (3, 1)] c fun _ c => I0 c h (fun h => ?_) fun h => ?_))
   refine P0 [] c fun _ c => ?_
   obtain rfl := sj h
   exact wp_ret (tr (Rt c () [] []))
   refine K0 (S0 (P0 [(1, 0), (3, 1)] c fun _ c => I0 c h (fun h => ?_) fun h => ?_))
   refine P0 [] c fun _ c => ?_
   obtain rfl := sj h
   exact wp_ret (tr (Rt c () [] []))
   refine K0 (S0 (T0 (Fp [(1, 0), (3, 1)] 4 c fun _ c => Bd h fun x1 hx1 h => Ca [] c (ih0 hx1) ⟨.f 0, .f 1, trivial⟩ Tryz.call50 fun _ _ _ c => ?_)))
   refine Fp [] 1 c fun _ c => E0 (I0 c h (fun h => ?_) fun h => ?_)
   refine P0 [] c fun _ c => ?_
   obtain rfl := sj h
   exact wp_ret (tr (Rt c () [] []))
   refine K0 (P0 [] c fun _ c => ?_)
   obtain rfl := sj h
   exact wp_ret (Rt c () [] [])
theorem laws_eqTermS_ok {n : Nat} : ∀ {p0 p1 ga0 gc1 ga2 gc3 r} (h : laws_eqTermS n p0 p1 = some r), Con Tryz.prog 50 [L ga0 p0 gc1, L ga2 p1 gc3] [] [lR ga0 p0 gc1, lR ga2 p1 gc3] fun (_ : Unit) => ([.bool r], [], []) := (laws_eqTermS_laws_eqTerm_rec n).1
theorem laws_eqTerm_ok {n : Nat} : ∀ {p0 p1 ga0 gc1 ga2 gc3 r} (h : laws_eqTerm n p0 p1 = some r), Con Tryz.prog 12 [tV p0 ga0 gc1, tV p1 ga2 gc3] [] [lR ga0 p0.Kids gc1, lR ga2 p1.Kids gc3] fun (_ : Unit) => ([.bool r], [], []) := (laws_eqTermS_laws_eqTerm_rec n).2

theorem laws_eqIns_ok {p0 p1 r} (h : laws_eqIns p0 p1 = some r) : Con Tryz.prog 120 [nV p0, nV p1] [] [] fun (_ : Unit) => ([.bool r], [], []) := by
 unfold laws_eqIns at h
 refine En Tryz.func120 rfl Tryz.ntmps120 fun _ fr w c => ?_
 refine T0 (Ebx (nC p0) c fun b1 _ _ c => ?_)
 refine Ebx (nC p1) c fun b2 _ _ c => ?_
 refine Fp [] 1 c fun _ c => E0 (S0 (P0 [(1, 0), (3, 1)] c fun _ c => I0 c h (fun h => ?_) fun h => ?_))
 refine P0 [] c fun _ c => ?_
 obtain rfl := sj h
 exact wp_ret (tr (Rt c () [] []))
 refine K0 (S0 (P0 [(1, 0), (3, 1)] c fun _ c => I0 c h (fun h => ?_) fun h => ?_))
 refine P0 [] c fun _ c => ?_
 obtain rfl := sj h
 exact wp_ret (tr (Rt c () [] []))
 refine K0 (S0 (P0 [(1, 0), (3, 1)] c fun _ c => I0 c h (fun h => ?_) fun h => ?_))
 refine P0 [] c fun _ c => ?_
 obtain rfl := sj h
 exact wp_ret (tr (Rt c () [] []))
 refine K0 (S0 (P0 [(1, 0), (3, 1)] c fun _ c => I0 c h (fun h => ?_) fun h => ?_))
 refine P0 [] c fun _ c => ?_
 obtain rfl := sj h
 exact wp_ret (tr (Rt c () [] []))
 refine K0 (P0 [] c fun _ c => ?_)
 obtain rfl := sj h
 exact wp_ret (Rt c () [] [])

theorem laws_eqInsS_ok {n p0 p1 ga0 gc1 ga2 gc3 r} (h : laws_eqInsS n p0 p1 = some r) : Con Tryz.prog 69 [L ga0 p0 gc1, L ga2 p1 gc3] [] [lR ga0 p0 gc1, lR ga2 p1 gc3] fun (_ : Unit) => ([.bool r], [], []) := by
 unfold laws_eqInsS at h
 refine En Tryz.func69 rfl Tryz.ntmps69 fun _ fr w c => ?_
 refine P0 [] c fun _ c => S0 (P0 [] c fun _ c => I0 c h (fun h => ?_) fun h => ?_)
 refine P0 [] c fun _ c => ?_
 obtain rfl := sj h
 exact wp_ret (tr (Rt c () [] []))
 refine K0 (S0 (P0 [] c fun _ c => Bd h fun rl1 hit1 h => ?_))
 have hk1 := h
 refine LpR (fun s1  (_ : Unit) => ([(0, L ga0 p0 gc1), (1, L ga2 p1 gc3), (5, I s1)], id, [])) (fun s  (_ : Unit) => ([], id, [])) hit1 c () (c.re [] [0, 1]) (fun s1 q1 _ _ _ c h hr1 => ?_) fun s1r _ _ _ hrl c => ?_
 refine S0 (P0 [] c fun _ c => I0 c h (fun h => ?_) fun h => ?_)
 refine K0 (S0 (wp_block (Bd h fun x1 hx1 h => Bd h fun x2 hx2 h => Bd h fun x3 hx3 h => S0 (rZ [(2, Pd.el (x1 : D.Ins)), (3, .eq (nV x1)), (6, Pd.el (x2 : D.Ins)), (7, .eq (nV x2)), (8, .eq (.bool x3))] [] mix c ⟨Nid c (.f 0) (kN hx1), Nld c 2 (q := x1) (atN 2), Nid c (.f 1) (kN hx2), Nld c 6 (q := x2) (atN 6), Ncl c (kN (laws_eqIns_ok hx3)) trivial Tryz.call120, trivial⟩ fun _ _ c => I0 c h (fun h => ?_) fun h => ?_))))
 refine P0 [] c fun _ c => ?_
 obtain rfl := hr1 _ (sk h)
 obtain rfl := sj hk1
 exact wp_ret (br (tr (tr (br (tr (Rt c () [] []))))))
 refine K1 (bk (tn (P1 [] c fun _ c => Nx h () (c.re [] [0, 1]))))
 refine wp_exit (te (te (be ?_)))
 obtain rfl := hr1 _ (sk h)
 exact tn ⟨_, (), rfl, c.re [] [0, 1]⟩
 subst hrl
 refine P0 [] c fun _ c => ?_
 obtain rfl := sj h
 exact wp_ret (Rt c () [] [])

theorem laws_eqProgram_ok {n p0 p1 ga0 gc1 ga2 gc3 r} (h : laws_eqProgram n p0 p1 = some r) : Con Tryz.prog 24 [gV p0 ga0 gc1, gV p1 ga2 gc3] [] [lR ga0 p0.Code gc1, lR ga2 p1.Code gc3] fun (_ : Unit) => ([.bool r], [], []) := by
 unfold laws_eqProgram at h
 refine En Tryz.func24 rfl Tryz.ntmps24 fun _ fr w c => ?_
 refine T0 (Ebx (gC p0 ga0 gc1) c fun b1 _ _ c => ?_)
 refine Ebx (gC p1 ga2 gc3) c fun b2 _ _ c => ?_
 refine Fp [] 1 c fun _ c => E0 (S0 (P0 [(1, 0), (3, 1)] c fun _ c => I0 c h (fun h => ?_) fun h => ?_))
 refine P0 [] c fun _ c => ?_
 obtain rfl := sj h
 exact wp_ret (tr (Rt c () [] []))
 refine K0 (S0 (P0 [(1, 0), (3, 1)] c fun _ c => I0 c h (fun h => ?_) fun h => ?_))
 refine P0 [] c fun _ c => ?_
 obtain rfl := sj h
 exact wp_ret (tr (Rt c () [] []))
 refine K0 (S0 (P0 [(1, 0), (3, 1)] c fun _ c => I0 c h (fun h => ?_) fun h => ?_))
 refine P0 [] c fun _ c => ?_
 obtain rfl := sj h
 exact wp_ret (tr (Rt c () [] []))
 refine K0 (S0 (T0 (Fp [(1, 0), (3, 1)] 4 c fun _ c => Bd h fun x1 hx1 h => Ca [] c (laws_eqInsS_ok hx1) ⟨.f 0, .f 1, trivial⟩ Tryz.call69 fun _ _ _ c => ?_)))
 refine Fp [] 1 c fun _ c => E0 (I0 c h (fun h => ?_) fun h => ?_)
 refine P0 [] c fun _ c => ?_
 obtain rfl := sj h
 exact wp_ret (tr (Rt c () [] []))
 refine K0 (P0 [] c fun _ c => ?_)
 obtain rfl := sj h
 exact wp_ret (Rt c () [] [])

theorem laws_eqIntS_ok {n p0 p1 ga0 gc1 ga2 gc3 r} (h : laws_eqIntS n p0 p1 = some r) : Con Tryz.prog 11 [L ga0 p0 gc1, L ga2 p1 gc3] [] [lR ga0 p0 gc1, lR ga2 p1 gc3] fun (_ : Unit) => ([.bool r], [], []) := by
 unfold laws_eqIntS at h
 refine En Tryz.func11 rfl Tryz.ntmps11 fun _ fr w c => ?_
 refine P0 [] c fun _ c => S0 (P0 [] c fun _ c => I0 c h (fun h => ?_) fun h => ?_)
 refine P0 [] c fun _ c => ?_
 obtain rfl := sj h
 exact wp_ret (tr (Rt c () [] []))
 refine K0 (S0 (P0 [] c fun _ c => Bd h fun rl1 hit1 h => ?_))
 have hk1 := h
 refine LpR (fun s1  (_ : Unit) => ([(0, L ga0 p0 gc1), (1, L ga2 p1 gc3), (5, I s1)], id, [])) (fun s  (_ : Unit) => ([], id, [])) hit1 c () (c.re [] [0, 1]) (fun s1 q1 _ _ _ c h hr1 => ?_) fun s1r _ _ _ hrl c => ?_
 refine S0 (P0 [] c fun _ c => I0 c h (fun h => ?_) fun h => ?_)
 refine K0 (S0 (wp_block (Bd h fun x1 hx1 h => Bd h fun x2 hx2 h => S0 (rZ [(2, Pd.el (x1 : Int)), (3, .eq (I x1)), (6, Pd.el (x2 : Int)), (7, .eq (I x2))] [] mix c ⟨Nid c (.f 0) (kN hx1), Nld c 2 (q := x1) (atN 2), Nid c (.f 1) (kN hx2), Nld c 6 (q := x2) (atN 6), trivial⟩ fun _ _ c => I0 c h (fun h => ?_) fun h => ?_))))
 refine P0 [] c fun _ c => ?_
 obtain rfl := hr1 _ (sk h)
 obtain rfl := sj hk1
 exact wp_ret (br (tr (tr (br (tr (Rt c () [] []))))))
 refine K1 (bk (tn (P1 [] c fun _ c => Nx h () (c.re [] [0, 1]))))
 refine wp_exit (te (te (be ?_)))
 obtain rfl := hr1 _ (sk h)
 exact tn ⟨_, (), rfl, c.re [] [0, 1]⟩
 subst hrl
 refine P0 [] c fun _ c => ?_
 obtain rfl := sj h
 exact wp_ret (Rt c () [] [])

theorem laws_eqPath_ok {n p0 p1 ga0 gc1 ga2 gc3 ga4 gc5 ga6 gc7 ga8 gc9 ga10 gc11 ga12 gc13 ga14 gc15 ga16 gc17 ga18 gc19 ga20 gc21 ga22 gc23 r} (h : laws_eqPath n p0 p1 = some r) : Con Tryz.prog 33 [pV p0 ga0 gc1 ga2 gc3 ga4 gc5 ga6 gc7 ga8 gc9 ga10 gc11, pV p1 ga12 gc13 ga14 gc15 ga16 gc17 ga18 gc19 ga20 gc21 ga22 gc23] [] [lR ga0 p0.Regs gc1, lR ga2 p0.Mem gc3, lR ga4 p0.Stack gc5, lR ga6 p0.Out gc7, lR ga8 p0.Cond gc9, lR ga10 p0.Turns gc11, lR ga12 p1.Regs gc13, lR ga14 p1.Mem gc15, lR ga16 p1.Stack gc17, lR ga18 p1.Out gc19, lR ga20 p1.Cond gc21, lR ga22 p1.Turns gc23] fun (_ : Unit) => ([.bool r], [], []) := by
 unfold laws_eqPath at h
 refine En Tryz.func33 rfl Tryz.ntmps33 fun _ fr w c => ?_
 refine T0 (Ebx (pC p0 ga0 gc1 ga2 gc3 ga4 gc5 ga6 gc7 ga8 gc9 ga10 gc11) c fun b1 _ _ c => ?_)
 refine Ebx (pC p1 ga12 gc13 ga14 gc15 ga16 gc17 ga18 gc19 ga20 gc21 ga22 gc23) c fun b2 _ _ c => ?_
 refine Fp [] 1 c fun _ c => E0 (S0 (P0 [(1, 0), (3, 1)] c fun _ c => I0 c h (fun h => ?_) fun h => ?_))
 refine P0 [] c fun _ c => ?_
 obtain rfl := sj h
 exact wp_ret (tr (Rt c () [] []))
 refine K0 (S0 (T0 (Fp [(1, 0), (3, 1)] 4 c fun _ c => Bd h fun x1 hx1 h => Ca [] c (laws_eqTermS_ok hx1) ⟨.f 0, .f 6, trivial⟩ Tryz.call50 fun _ _ _ c => ?_)))
 refine Fp [] 1 c fun _ c => E0 (I0 c h (fun h => ?_) fun h => ?_)
 refine P0 [] c fun _ c => ?_
 obtain rfl := sj h
 exact wp_ret (tr (Rt c () [] []))
 refine K0 (S0 (T0 (Fp [(1, 0), (3, 1)] 4 c fun _ c => Bd h fun x2 hx2 h => Ca [] c (laws_eqTermS_ok hx2) ⟨.f 1, .f 7, trivial⟩ Tryz.call50 fun _ _ _ c => ?_)))
 refine Fp [] 1 c fun _ c => E0 (I0 c h (fun h => ?_) fun h => ?_)
 refine P0 [] c fun _ c => ?_
 obtain rfl := sj h
 exact wp_ret (tr (Rt c () [] []))
 refine K0 (S0 (T0 (Fp [(1, 0), (3, 1)] 4 c fun _ c => Bd h fun x3 hx3 h => Ca [] c (laws_eqIntS_ok hx3) ⟨.f 2, .f 8, trivial⟩ Tryz.call11 fun _ _ _ c => ?_)))
 refine Fp [] 1 c fun _ c => E0 (I0 c h (fun h => ?_) fun h => ?_)
 refine P0 [] c fun _ c => ?_
 obtain rfl := sj h
 exact wp_ret (tr (Rt c () [] []))
 refine K0 (S0 (P0 [(1, 0), (3, 1)] c fun _ c => I0 c h (fun h => ?_) fun h => ?_))
 refine P0 [] c fun _ c => ?_
 obtain rfl := sj h
 exact wp_ret (tr (Rt c () [] []))
 refine K0 (S0 (T0 (Fp [(1, 0), (3, 1)] 4 c fun _ c => ?_)))
 replace c := c.gm [BX b1 66 (pC p0 ga0 gc1 ga2 gc3 ga4 gc5 ga6 gc7 ga8 gc9 ga10 gc11), BX b2 66 (pC p1 ga12 gc13 ga14 gc15 ga16 gc17 ga18 gc19 ga20 gc21 ga22 gc23)]
 refine Bd h fun x4 hx4 h => Ca [] c (laws_eqTermS_ok hx4) ⟨.f 3, .f 9, trivial⟩ Tryz.call50 fun _ _ _ c => ?_
 refine Fp [] 1 c fun _ c => E0 (I0 c h (fun h => ?_) fun h => ?_)
 refine P0 [] c fun _ c => ?_
 obtain rfl := sj h
 exact wp_ret (tr (Rt c () [] []))
 refine K0 (S0 (P0 [(1, 0), (3, 1)] c fun _ c => I0 c h (fun h => ?_) fun h => ?_))
 refine P0 [] c fun _ c => ?_
 obtain rfl := sj h
 exact wp_ret (tr (Rt c () [] []))
 refine K0 (S0 (P0 [(1, 0), (3, 1)] c fun _ c => I0 c h (fun h => ?_) fun h => ?_))
 refine P0 [] c fun _ c => ?_
 obtain rfl := sj h
 exact wp_ret (tr (Rt c () [] []))
 refine K0 (S0 (T0 (Fp [(1, 0), (3, 1)] 4 c fun _ c => Bd h fun x5 hx5 h => Ca [] c (laws_eqTermS_ok hx5) ⟨.f 4, .f 10, trivial⟩ Tryz.call50 fun _ _ _ c => ?_)))
 refine Fp [] 1 c fun _ c => E0 (I0 c h (fun h => ?_) fun h => ?_)
 refine P0 [] c fun _ c => ?_
 obtain rfl := sj h
 exact wp_ret (tr (Rt c () [] []))
 refine K0 (S0 (T0 (Fp [(1, 0), (3, 1)] 4 c fun _ c => Bd h fun x6 hx6 h => Ca [] c (laws_eqIntS_ok hx6) ⟨.f 5, .f 11, trivial⟩ Tryz.call11 fun _ _ _ c => ?_)))
 refine Fp [] 1 c fun _ c => E0 (I0 c h (fun h => ?_) fun h => ?_)
 refine P0 [] c fun _ c => ?_
 obtain rfl := sj h
 exact wp_ret (tr (Rt c () [] []))
 refine K0 (P0 [] c fun _ c => ?_)
 obtain rfl := sj h
 exact wp_ret (Rt c () [] [])

theorem laws_eqPathS_ok {n p0 p1 ga0 gc1 ga2 gc3 r} (h : laws_eqPathS n p0 p1 = some r) : Con Tryz.prog 25 [L ga0 p0 gc1, L ga2 p1 gc3] [] [lR ga0 p0 gc1, lR ga2 p1 gc3] fun (_ : Unit) => ([.bool r], [], []) := by
 unfold laws_eqPathS at h
 refine En Tryz.func25 rfl Tryz.ntmps25 fun _ fr w c => ?_
 refine P0 [] c fun _ c => S0 (P0 [] c fun _ c => I0 c h (fun h => ?_) fun h => ?_)
 refine P0 [] c fun _ c => ?_
 obtain rfl := sj h
 exact wp_ret (tr (Rt c () [] []))
 refine K0 (S0 (P0 [] c fun _ c => Bd h fun rl1 hit1 h => ?_))
 have hk1 := h
 refine LpR (fun s1  (_ : Unit) => ([(0, L ga0 p0 gc1), (1, L ga2 p1 gc3), (5, I s1)], id, [])) (fun s  (_ : Unit) => ([], id, [])) hit1 c () (c.re [] [0, 1]) (fun s1 q1 _ _ _ c h hr1 => ?_) fun s1r _ _ _ hrl c => ?_
 refine S0 (P0 [] c fun _ c => I0 c h (fun h => ?_) fun h => ?_)
 refine K0 (S0 (wp_block (Bd h fun x1 hx1 h => ?_)))
 obtain ⟨ep1, u1, c⟩ := c.elp (.f 0) hx1
 obtain ⟨a1, c1, a2, c2, a3, c3, a4, c4, a5, c5, a6, c6, rfl, c⟩ := c.o_Path 3
 refine Bd h fun x2 hx2 h => ?_
 obtain ⟨ep2, u2, c⟩ := c.elp (.f 1) hx2
 obtain ⟨a7, c7, a8, c8, a9, c9, a10, c10, a11, c11, a12, c12, rfl, c⟩ := c.o_Path 11
 refine Bd h fun x3 hx3 h => S0 (rZ [(2, .eq (.pointer (some ep1))), (3, .eq (pV x1 a1 c1 a2 c2 a3 c3 a4 c4 a5 c5 a6 c6)), (6, .eq (.pointer (some ep2))), (7, .eq (pV x2 a7 c7 a8 c8 a9 c9 a10 c10 a11 c11 a12 c12)), (8, .eq (.bool x3))] [] mix c ⟨Nie c 2, Nle c 2, Nie c 10, Nle c 10, Ncl c (kN (laws_eqPath_ok hx3)) ⟨.f 4, .f 5, .f 6, .f 7, .f 8, .f 9, .f 12, .f 13, .f 14, .f 15, .f 16, .f 17, trivial⟩ Tryz.call33, trivial⟩ fun _ _ c => I0 c h (fun h => ?_) fun h => ?_)
 refine P0 [] c fun _ c => ?_
 obtain rfl := hr1 _ (sk h)
 obtain rfl := sj hk1
 exact wp_ret (br (tr (tr (br (tr (Rt c () [] []))))))
 refine K1 (bk (tn (P1 [] c fun _ c => Nx h () (c.re [] [0, 1]))))
 refine wp_exit (te (te (be ?_)))
 obtain rfl := hr1 _ (sk h)
 exact tn ⟨_, (), rfl, c.re [] [0, 1]⟩
 subst hrl
 refine P0 [] c fun _ c => ?_
 obtain rfl := sj h
 exact wp_ret (Rt c () [] [])

theorem laws_markInsS_ok {n p0 p1 ga0 gc1 gn2 r} (h : laws_markInsS n p0 p1 = some r) : Con Tryz.prog 70 [.slice ga0 gn2 gc1, I p1] [sl141 (.slice ga0 gn2 gc1) p0] [] fun (_ : Unit) => ([I r.1], [sl141 (.slice ga0 gn2 gc1) r.2], []) := by
 unfold laws_markInsS at h
 refine En Tryz.func70 rfl Tryz.ntmps70 fun _ fr w c => ?_
 obtain ⟨rfl, c⟩ := c.relen 0
 refine P0 [] c fun _ c => S0 (P0 [] c fun _ c => Bd h fun rl1 hit1 h => Lp (fun s1  (_ : Unit) => ([(0, L ga0 p0 gc1), (1, I s1.1), (5, I s1.2.1)], fun Γ => Γ.set 0 (sl141 (L ga0 p0 gc1) s1.2.2), [])) (fun  (_ : Unit) => ([(1, I rl1.1)], fun Γ => Γ.set 0 (sl141 (L ga0 p0 gc1) rl1.2), [])) hit1 c () (c.re [0] []) (fun s1 q1 _ _ _ c h hr1 => ?_) fun _ _ _ c => ?_)
 refine S0 (P0 [] c fun _ c => I0 c h (fun h => ?_) fun h => ?_)
 refine K0 (S0 (wp_block (T0 (Fp [] 3 c fun _ c => Bd h fun x1 hx1 h => Bd h fun x2 hx2 h => Esf 0 (I s1.1) c hx1 hx2 fun _ _ _ _ c => ?_))))
 refine E0 (P0 [] c fun _ c => T0 (Fp [] 3 c fun _ c => Bd h fun x3 hx3 h => Bd h fun x4 hx4 h => Esf 0 (I (w64 (s1.1 + 1))) c hx3 hx4 fun _ _ _ _ c => ?_))
 refine E0 (P0 [] c fun _ c => T0 (Fp [] 3 c fun _ c => Bd h fun x5 hx5 h => Bd h fun x6 hx6 h => Esf 0 (I (w64 ((w64 (s1.1 + 1)) + 1))) c hx5 hx6 fun _ _ _ _ c => ?_))
 refine E0 (P0 [] c fun _ c => T0 (Fp [] 3 c fun _ c => Bd h fun x7 hx7 h => Bd h fun x8 hx8 h => Esf 0 (I (w64 ((w64 ((w64 (s1.1 + 1)) + 1)) + 1))) c hx7 hx8 fun _ _ _ _ c => ?_))
 refine E0 (Tq (P1 [] c fun _ c => bk (tn (P1 [] c fun _ c => Nx h () (c.re [0] [])))))
 refine wp_exit (te (te (be ?_)))
 obtain rfl := hr1 _ (sk h)
 exact tn ⟨(), c.re [0] []⟩
 refine P0 [] c fun _ c => ?_
 cases h
 exact wp_ret (Rt c () [0] [])

theorem laws_markProgram_ok {n p0 p1 ga0 gc1 gn2 r} (h : laws_markProgram n p0 p1 = some r) : Con Tryz.prog 26 [.agg #[I p0.W, I p0.Mem, I p0.In, .slice ga0 gn2 gc1], I p1] [sl141 (.slice ga0 gn2 gc1) p0.Code] [] fun (_ : Unit) => ([I r.1], [sl141 (.slice ga0 gn2 gc1) r.2.Code], []) := by
 unfold laws_markProgram at h
 refine En Tryz.func26 rfl Tryz.ntmps26 fun _ fr w c => ?_
 obtain ⟨rfl, c⟩ := c.relen 0
 refine T0 (Ebx (gC p0 ga0 gc1) c fun b1 _ _ c => ?_)
 refine Fp [] 1 c fun _ c => E0 (T0 (Fp [(1, 0)] 3 c fun _ c => Bd h fun x1 hx1 h => Ca [0] c (laws_markInsS_ok hx1) trivial Tryz.call70 fun _ _ _ c => ?_))
 refine Fp [] 1 c fun _ c => E0 (P0 [] c fun _ c => ?_)
 cases h
 exact wp_ret (Rt c () [1] [])

theorem laws_markText_ok {n p0 r} (h : laws_markText n p0 = some r) : Con Tryz.prog 103 [I p0] [] [] fun (_ : Unit) => ([Str.val r], [], []) := by
 unfold laws_markText at h
 refine En Tryz.func103 rfl Tryz.ntmps103 fun _ fr w c => ?_
 refine P0 [] c fun _ c => S0 (P0 [] c fun _ c => I0 c h (fun h => ?_) fun h => ?_)
 refine P0 [] c fun _ c => ?_
 cases h
 exact wp_ret (tr (Rt c () [] []))
 refine K0 (P0 [] c fun _ c => Bd h fun rl1 hit1 h => S0 (Lp (fun s1  (_ : Unit) => ([(0, I s1.1), (3, Str.val s1.2)], id, [])) (fun  (_ : Unit) => ([(3, Str.val rl1)], id, [])) hit1 c () (c.re [] []) (fun s1 q1 _ _ _ c h hr1 => ?_) fun _ _ _ c => ?_))
 refine S0 (P0 [] c fun _ c => I0 c h (fun h => ?_) fun h => ?_)
 refine K0 (wp_block (T0 (Fp [] 1 c fun _ c => Bd h fun x1 hx1 h => Erem c hx1 fun _ c => ?_)))
 refine Fp [] 2 c fun _ c => Elt 5 ([(Byt.mk (IntKind.u8.wrap (w64 (48 + x1))))] : List Byt) c fun a1 c1 _ _ c => ?_
 refine Ebs c (.g 0) (fun _ c => ?_) Tryz.underlying170
 refine Fp [] 1 c fun _ c => Bd h fun x2 hx2 h => Ecat c hx2 fun _ c => ?_
 refine Fp [] 1 c fun _ c => E0 (T1 (Fp [] 1 c fun _ c => Bd h fun x3 hx3 h => Equo c hx3 fun _ c => ?_))
 refine Fp [] 1 c fun _ c => E1 (bk (tn (Nx h () (c.re [] []))))
 refine wp_exit (te (te (be ?_)))
 obtain rfl := hr1 _ (sk h)
 exact tn ⟨(), c.re [] []⟩
 refine T0 (Fp [] 1 c fun _ c => Bd h fun x4 hx4 h => Ecat c hx4 fun _ c => ?_)
 refine Fp [] 1 c fun _ c => E0 ?_
 obtain rfl := sj h
 exact wp_ret (Rt c () [] [])

theorem laws_markTermS_ok {n : Nat} : ∀ {p0 p1 ga0 gc1 gn2 r} (h : laws_markTermS n p0 p1 = some r), Con Tryz.prog 51 [.slice ga0 gn2 gc1, I p1] [OD (ownT 34) 34 (.slice ga0 gn2 gc1) p0] [] fun (_ : Unit) => ([I r.1], [OD (ownT 34) 34 (.slice ga0 gn2 gc1) r.2], []) := by
 induction n with
 | zero => intro p0 p1 ga0 gc1 gn2 r h; simp [laws_markTermS] at h
 | succ n ih =>
 intro p0 p1 ga0 gc1 gn2 r h
 rw [laws_markTermS] at h
 refine En Tryz.func51 rfl Tryz.ntmps51 fun _ fr w c => ?_
 obtain ⟨rfl, c⟩ := c.releno 0
 refine P0 [] c fun _ c => S0 (P0 [] c fun _ c => Bd h fun rl1 hit1 h => Lp (fun s1  (_ : Unit) => ([(0, L ga0 p0 gc1), (1, I s1.1), (5, I s1.2.1)], fun Γ => Γ.set 0 (OD (ownT 34) 34 (L ga0 p0 gc1) s1.2.2), [])) (fun  (_ : Unit) => ([(1, I rl1.1)], fun Γ => Γ.set 0 (OD (ownT 34) 34 (L ga0 p0 gc1) rl1.2), [])) hit1 c () (c.re [0] []) (fun s1 q1 _ _ _ c h hr1 => ?_) fun _ _ _ c => ?_)
 refine S0 (P0 [] c fun _ c => I0 c h (fun h => ?_) fun h => ?_)
 refine K0 (S0 (wp_block (T0 (Fp [] 3 c fun _ c => Bd h fun x1 hx1 h => ?_))))
 obtain ⟨a1, c1, c⟩ := c.fo_Term 0 hx1
 refine Eohs 0 (I s1.1) (Rw.Term.mk s1.1 x1.W x1.N x1.Name ⟨a1, List.length x1.Kids, c1⟩) c fun _ _ _ _ c => ?_
 refine E0 (P0 [] c fun _ c => T0 (Fp [] 3 c fun _ c => Eohs 1 (I (w64 (s1.1 + 1))) (Rw.Term.mk s1.1 (w64 (s1.1 + 1)) x1.N x1.Name ⟨a1, List.length x1.Kids, c1⟩) c fun _ _ _ _ c => ?_))
 refine E0 (P0 [] c fun _ c => T0 (Fp [] 3 c fun _ c => ?_))
 replace c := c.gm [OD (ownT 34) 34 (L a1 x1.Kids c1) x1.Kids, OH (ownT 34) 34 (L ga0 p0 gc1) s1.2.1 (Rw.Term.mk s1.1 (w64 (s1.1 + 1)) x1.N x1.Name ⟨a1, List.length x1.Kids, c1⟩) s1.2.2]
 refine Eohs 1 (I (w64 ((w64 (s1.1 + 1)) + 1))) (Rw.Term.mk s1.1 (w64 (s1.1 + 1)) (w64 ((w64 (s1.1 + 1)) + 1)) x1.Name ⟨a1, List.length x1.Kids, c1⟩) c fun _ _ _ _ c => ?_
 refine E0 (P0 [] c fun _ c => T0 (Fp [] 3 c fun _ c => Bd h fun x2 hx2 h => Ca [] c (laws_markText_ok hx2) trivial Tryz.call103 fun _ _ _ c => ?_))
 refine Eohs 1 (Str.val x2) (Rw.Term.mk s1.1 (w64 (s1.1 + 1)) (w64 ((w64 (s1.1 + 1)) + 1)) x2 ⟨a1, List.length x1.Kids, c1⟩) c fun _ _ _ _ c => ?_
 refine E0 (P0 [] c fun _ c => T1 (Fp [] 2 c fun _ c => ?_))
 replace c := c.gm [OD (ownT 34) 34 (L a1 x1.Kids c1) x1.Kids, OH (ownT 34) 34 (L ga0 p0 gc1) s1.2.1 (Rw.Term.mk s1.1 (w64 (s1.1 + 1)) (w64 ((w64 (s1.1 + 1)) + 1)) x2 ⟨a1, List.length x1.Kids, c1⟩) s1.2.2]
 refine Eohl 1 (L a1 x1.Kids c1) c fun _ _ _ c => ?_
 refine Fp [] 1 c fun _ c => Bd h fun x3 hx3 h => Ca [0] c (ih hx3) trivial Tryz.call51 fun _ _ _ c => ?_
 refine Fp [] 1 c fun _ c => E1 (bk (tn (P1 [] c fun _ c => Bd h fun x4 hx4 h => ?_)))
 replace c := c.un_Term (E := 34) (v := L ga0 p0 gc1) (y := (D.Term.mk s1.1 (w64 (s1.1 + 1)) (w64 ((w64 (s1.1 + 1)) + 1)) x2 x3.2)) (b := a1) (m := List.length x1.Kids) (cp := c1) 0 1 hx4
 replace c := c.gm [OD (ownT 34) 34 (L ga0 p0 gc1) x4]
 exact Nx h () (c.re [0] [])
 refine wp_exit (te (te (be ?_)))
 obtain rfl := hr1 _ (sk h)
 exact tn ⟨(), c.re [0] []⟩
 refine P0 [] c fun _ c => ?_
 cases h
 exact wp_ret (Rt c () [0] [])

theorem laws_markIntS_ok {n p0 p1 ga0 gc1 gn2 r} (h : laws_markIntS n p0 p1 = some r) : Con Tryz.prog 15 [.slice ga0 gn2 gc1, I p1] [sl3 (.slice ga0 gn2 gc1) p0] [] fun (_ : Unit) => ([I r.1], [sl3 (.slice ga0 gn2 gc1) r.2], []) := by
 unfold laws_markIntS at h
 refine En Tryz.func15 rfl Tryz.ntmps15 fun _ fr w c => ?_
 obtain ⟨rfl, c⟩ := c.relen 0
 refine P0 [] c fun _ c => S0 (P0 [] c fun _ c => Bd h fun rl1 hit1 h => Lp (fun s1  (_ : Unit) => ([(0, L ga0 p0 gc1), (1, I s1.1), (5, I s1.2.1)], fun Γ => Γ.set 0 (sl3 (L ga0 p0 gc1) s1.2.2), [])) (fun  (_ : Unit) => ([(1, I rl1.1)], fun Γ => Γ.set 0 (sl3 (L ga0 p0 gc1) rl1.2), [])) hit1 c () (c.re [0] []) (fun s1 q1 _ _ _ c h hr1 => ?_) fun _ _ _ c => ?_)
 refine S0 (P0 [] c fun _ c => I0 c h (fun h => ?_) fun h => ?_)
 refine K0 (S0 (wp_block (T0 (Fp [] 3 c fun _ c => Bd h fun x1 hx1 h => Eset 0 c hx1 fun _ _ _ c => ?_))))
 refine E0 (Tq (P1 [] c fun _ c => bk (tn (P1 [] c fun _ c => Nx h () (c.re [0] [])))))
 refine wp_exit (te (te (be ?_)))
 obtain rfl := hr1 _ (sk h)
 exact tn ⟨(), c.re [0] []⟩
 refine P0 [] c fun _ c => ?_
 cases h
 exact wp_ret (Rt c () [0] [])

theorem laws_markPathS_ok {n p0 p1 ga0 gc1 gn2 r} (h : laws_markPathS n p0 p1 = some r) : Con Tryz.prog 27 [.slice ga0 gn2 gc1, I p1] [OD (ownP 34 3) 66 (.slice ga0 gn2 gc1) p0] [] fun (_ : Unit) => ([I r.1], [OD (ownP 34 3) 66 (.slice ga0 gn2 gc1) r.2], []) := by
 unfold laws_markPathS at h
 refine En Tryz.func27 rfl Tryz.ntmps27 fun _ fr w c => ?_
 obtain ⟨rfl, c⟩ := c.releno 0
 refine P0 [] c fun _ c => S0 (P0 [] c fun _ c => Bd h fun rl1 hit1 h => Lp (fun s1  (_ : Unit) => ([(0, L ga0 p0 gc1), (1, I s1.1), (5, I s1.2.1)], fun Γ => Γ.set 0 (OD (ownP 34 3) 66 (L ga0 p0 gc1) s1.2.2), [])) (fun  (_ : Unit) => ([(1, I rl1.1)], fun Γ => Γ.set 0 (OD (ownP 34 3) 66 (L ga0 p0 gc1) rl1.2), [])) hit1 c () (c.re [0] []) (fun s1 q1 _ _ _ c h hr1 => ?_) fun _ _ _ c => ?_)
 refine S0 (P0 [] c fun _ c => I0 c h (fun h => ?_) fun h => ?_)
 refine K0 (S0 (wp_block (T0 (Fp [] 3 c fun _ c => Bd h fun x1 hx1 h => ?_))))
 obtain ⟨a1, c1, a2, c2, a3, c3, a4, c4, a5, c5, a6, c6, c⟩ := c.fo_Path 0 hx1
 refine Eohs 0 (I s1.1) (Rw.Path.mk s1.1 ⟨a1, List.length x1.Regs, c1⟩ ⟨a2, List.length x1.Mem, c2⟩ ⟨a3, List.length x1.Stack, c3⟩ x1.In ⟨a4, List.length x1.Out, c4⟩ x1.Code x1.Steps ⟨a5, List.length x1.Cond, c5⟩ ⟨a6, List.length x1.Turns, c6⟩) c fun _ _ _ _ c => ?_
 refine E0 (P0 [] c fun _ c => T0 (Fp [] 2 c fun _ c => ?_))
 replace c := c.gm [OD (ownT 34) 34 (L a1 x1.Regs c1) x1.Regs, OD (ownT 34) 34 (L a2 x1.Mem c2) x1.Mem, sl3 (L a3 x1.Stack c3) x1.Stack, OD (ownT 34) 34 (L a4 x1.Out c4) x1.Out, OD (ownT 34) 34 (L a5 x1.Cond c5) x1.Cond, sl3 (L a6 x1.Turns c6) x1.Turns, OH (ownP 34 3) 66 (L ga0 p0 gc1) s1.2.1 (Rw.Path.mk s1.1 ⟨a1, List.length x1.Regs, c1⟩ ⟨a2, List.length x1.Mem, c2⟩ ⟨a3, List.length x1.Stack, c3⟩ x1.In ⟨a4, List.length x1.Out, c4⟩ x1.Code x1.Steps ⟨a5, List.length x1.Cond, c5⟩ ⟨a6, List.length x1.Turns, c6⟩) s1.2.2]
 refine Eohl 6 (L a1 x1.Regs c1) c fun _ _ _ c => ?_
 refine Fp [] 1 c fun _ c => ?_
 replace c := c.gm [OD (ownT 34) 34 (L a1 x1.Regs c1) x1.Regs, OD (ownT 34) 34 (L a2 x1.Mem c2) x1.Mem, sl3 (L a3 x1.Stack c3) x1.Stack, OD (ownT 34) 34 (L a4 x1.Out c4) x1.Out, OD (ownT 34) 34 (L a5 x1.Cond c5) x1.Cond, sl3 (L a6 x1.Turns c6) x1.Turns, OH (ownP 34 3) 66 (L ga0 p0 gc1) s1.2.1 (Rw.Path.mk s1.1 ⟨a1, List.length x1.Regs, c1⟩ ⟨a2, List.length x1.Mem, c2⟩ ⟨a3, List.length x1.Stack, c3⟩ x1.In ⟨a4, List.length x1.Out, c4⟩ x1.Code x1.Steps ⟨a5, List.length x1.Cond, c5⟩ ⟨a6, List.length x1.Turns, c6⟩) s1.2.2]
 refine Bd h fun x2 hx2 h => Ca [0] c (laws_markTermS_ok hx2) trivial Tryz.call51 fun _ _ _ c => ?_
 refine Fp [] 1 c fun _ c => E0 (T0 (Fp [] 2 c fun _ c => Eohl 5 (L a2 x1.Mem c2) c fun _ _ _ c => ?_))
 refine Fp [] 1 c fun _ c => ?_
 replace c := c.gm [OD (ownT 34) 34 (L a2 x1.Mem c2) x1.Mem, sl3 (L a3 x1.Stack c3) x1.Stack, OD (ownT 34) 34 (L a4 x1.Out c4) x1.Out, OD (ownT 34) 34 (L a5 x1.Cond c5) x1.Cond, sl3 (L a6 x1.Turns c6) x1.Turns, OD (ownT 34) 34 (L a1 x1.Regs c1) x2.2, OH (ownP 34 3) 66 (L ga0 p0 gc1) s1.2.1 (Rw.Path.mk s1.1 ⟨a1, List.length x1.Regs, c1⟩ ⟨a2, List.length x1.Mem, c2⟩ ⟨a3, List.length x1.Stack, c3⟩ x1.In ⟨a4, List.length x1.Out, c4⟩ x1.Code x1.Steps ⟨a5, List.length x1.Cond, c5⟩ ⟨a6, List.length x1.Turns, c6⟩) s1.2.2]
 refine Bd h fun x3 hx3 h => Ca [0] c (laws_markTermS_ok hx3) trivial Tryz.call51 fun _ _ _ c => ?_
 refine Fp [] 1 c fun _ c => E0 (T0 (Fp [] 2 c fun _ c => Eohl 5 (L a3 x1.Stack c3) c fun _ _ _ c => ?_))
 refine Fp [] 1 c fun _ c => ?_
 replace c := c.gm [sl3 (L a3 x1.Stack c3) x1.Stack, OD (ownT 34) 34 (L a4 x1.Out c4) x1.Out, OD (ownT 34) 34 (L a5 x1.Cond c5) x1.Cond, sl3 (L a6 x1.Turns c6) x1.Turns, OD (ownT 34) 34 (L a1 x1.Regs c1) x2.2, OD (ownT 34) 34 (L a2 x1.Mem c2) x3.2, OH (ownP 34 3) 66 (L ga0 p0 gc1) s1.2.1 (Rw.Path.mk s1.1 ⟨a1, List.length x1.Regs, c1⟩ ⟨a2, List.length x1.Mem, c2⟩ ⟨a3, List.length x1.Stack, c3⟩ x1.In ⟨a4, List.length x1.Out, c4⟩ x1.Code x1.Steps ⟨a5, List.length x1.Cond, c5⟩ ⟨a6, List.length x1.Turns, c6⟩) s1.2.2]
 refine Bd h fun x4 hx4 h => Ca [0] c (laws_markIntS_ok hx4) trivial Tryz.call15 fun _ _ _ c => ?_
 refine Fp [] 1 c fun _ c => E0 (T0 (Fp [] 3 c fun _ c => Eohs 5 (I x4.1) (Rw.Path.mk s1.1 ⟨a1, List.length x1.Regs, c1⟩ ⟨a2, List.length x1.Mem, c2⟩ ⟨a3, List.length x1.Stack, c3⟩ x4.1 ⟨a4, List.length x1.Out, c4⟩ x1.Code x1.Steps ⟨a5, List.length x1.Cond, c5⟩ ⟨a6, List.length x1.Turns, c6⟩) c fun _ _ _ _ c => ?_))
 refine E0 (P0 [] c fun _ c => T0 (Fp [] 2 c fun _ c => ?_))
 replace c := c.gm [OD (ownT 34) 34 (L a4 x1.Out c4) x1.Out, OD (ownT 34) 34 (L a5 x1.Cond c5) x1.Cond, sl3 (L a6 x1.Turns c6) x1.Turns, OD (ownT 34) 34 (L a1 x1.Regs c1) x2.2, OD (ownT 34) 34 (L a2 x1.Mem c2) x3.2, sl3 (L a3 x1.Stack c3) x4.2, OH (ownP 34 3) 66 (L ga0 p0 gc1) s1.2.1 (Rw.Path.mk s1.1 ⟨a1, List.length x1.Regs, c1⟩ ⟨a2, List.length x1.Mem, c2⟩ ⟨a3, List.length x1.Stack, c3⟩ x4.1 ⟨a4, List.length x1.Out, c4⟩ x1.Code x1.Steps ⟨a5, List.length x1.Cond, c5⟩ ⟨a6, List.length x1.Turns, c6⟩) s1.2.2]
 refine Eohl 6 (L a4 x1.Out c4) c fun _ _ _ c => ?_
 refine Fp [] 1 c fun _ c => ?_
 replace c := c.gm [OD (ownT 34) 34 (L a4 x1.Out c4) x1.Out, OD (ownT 34) 34 (L a5 x1.Cond c5) x1.Cond, sl3 (L a6 x1.Turns c6) x1.Turns, OD (ownT 34) 34 (L a1 x1.Regs c1) x2.2, OD (ownT 34) 34 (L a2 x1.Mem c2) x3.2, sl3 (L a3 x1.Stack c3) x4.2, OH (ownP 34 3) 66 (L ga0 p0 gc1) s1.2.1 (Rw.Path.mk s1.1 ⟨a1, List.length x1.Regs, c1⟩ ⟨a2, List.length x1.Mem, c2⟩ ⟨a3, List.length x1.Stack, c3⟩ x4.1 ⟨a4, List.length x1.Out, c4⟩ x1.Code x1.Steps ⟨a5, List.length x1.Cond, c5⟩ ⟨a6, List.length x1.Turns, c6⟩) s1.2.2]
 refine Bd h fun x5 hx5 h => Ca [0] c (laws_markTermS_ok hx5) trivial Tryz.call51 fun _ _ _ c => ?_
 refine Fp [] 1 c fun _ c => E0 (T0 (Fp [] 3 c fun _ c => Eohs 5 (I x5.1) (Rw.Path.mk s1.1 ⟨a1, List.length x1.Regs, c1⟩ ⟨a2, List.length x1.Mem, c2⟩ ⟨a3, List.length x1.Stack, c3⟩ x4.1 ⟨a4, List.length x1.Out, c4⟩ x5.1 x1.Steps ⟨a5, List.length x1.Cond, c5⟩ ⟨a6, List.length x1.Turns, c6⟩) c fun _ _ _ _ c => ?_))
 refine E0 (P0 [] c fun _ c => T0 (Fp [] 3 c fun _ c => ?_))
 replace c := c.gm [OD (ownT 34) 34 (L a5 x1.Cond c5) x1.Cond, sl3 (L a6 x1.Turns c6) x1.Turns, OD (ownT 34) 34 (L a1 x1.Regs c1) x2.2, OD (ownT 34) 34 (L a2 x1.Mem c2) x3.2, sl3 (L a3 x1.Stack c3) x4.2, OD (ownT 34) 34 (L a4 x1.Out c4) x5.2, OH (ownP 34 3) 66 (L ga0 p0 gc1) s1.2.1 (Rw.Path.mk s1.1 ⟨a1, List.length x1.Regs, c1⟩ ⟨a2, List.length x1.Mem, c2⟩ ⟨a3, List.length x1.Stack, c3⟩ x4.1 ⟨a4, List.length x1.Out, c4⟩ x5.1 x1.Steps ⟨a5, List.length x1.Cond, c5⟩ ⟨a6, List.length x1.Turns, c6⟩) s1.2.2]
 refine Eohs 6 (I (w64 (x5.1 + 1))) (Rw.Path.mk s1.1 ⟨a1, List.length x1.Regs, c1⟩ ⟨a2, List.length x1.Mem, c2⟩ ⟨a3, List.length x1.Stack, c3⟩ x4.1 ⟨a4, List.length x1.Out, c4⟩ x5.1 (w64 (x5.1 + 1)) ⟨a5, List.length x1.Cond, c5⟩ ⟨a6, List.length x1.Turns, c6⟩) c fun _ _ _ _ c => ?_
 refine E0 (P0 [] c fun _ c => T0 (Fp [] 2 c fun _ c => ?_))
 replace c := c.gm [OD (ownT 34) 34 (L a5 x1.Cond c5) x1.Cond, sl3 (L a6 x1.Turns c6) x1.Turns, OD (ownT 34) 34 (L a1 x1.Regs c1) x2.2, OD (ownT 34) 34 (L a2 x1.Mem c2) x3.2, sl3 (L a3 x1.Stack c3) x4.2, OD (ownT 34) 34 (L a4 x1.Out c4) x5.2, OH (ownP 34 3) 66 (L ga0 p0 gc1) s1.2.1 (Rw.Path.mk s1.1 ⟨a1, List.length x1.Regs, c1⟩ ⟨a2, List.length x1.Mem, c2⟩ ⟨a3, List.length x1.Stack, c3⟩ x4.1 ⟨a4, List.length x1.Out, c4⟩ x5.1 (w64 (x5.1 + 1)) ⟨a5, List.length x1.Cond, c5⟩ ⟨a6, List.length x1.Turns, c6⟩) s1.2.2]
 refine Eohl 6 (L a5 x1.Cond c5) c fun _ _ _ c => ?_
 refine Fp [] 1 c fun _ c => ?_
 replace c := c.gm [OD (ownT 34) 34 (L a5 x1.Cond c5) x1.Cond, sl3 (L a6 x1.Turns c6) x1.Turns, OD (ownT 34) 34 (L a1 x1.Regs c1) x2.2, OD (ownT 34) 34 (L a2 x1.Mem c2) x3.2, sl3 (L a3 x1.Stack c3) x4.2, OD (ownT 34) 34 (L a4 x1.Out c4) x5.2, OH (ownP 34 3) 66 (L ga0 p0 gc1) s1.2.1 (Rw.Path.mk s1.1 ⟨a1, List.length x1.Regs, c1⟩ ⟨a2, List.length x1.Mem, c2⟩ ⟨a3, List.length x1.Stack, c3⟩ x4.1 ⟨a4, List.length x1.Out, c4⟩ x5.1 (w64 (x5.1 + 1)) ⟨a5, List.length x1.Cond, c5⟩ ⟨a6, List.length x1.Turns, c6⟩) s1.2.2]
 refine Bd h fun x6 hx6 h => Ca [0] c (laws_markTermS_ok hx6) trivial Tryz.call51 fun _ _ _ c => ?_
 refine Fp [] 1 c fun _ c => E0 (T1 (Fp [] 2 c fun _ c => Eohl 5 (L a6 x1.Turns c6) c fun _ _ _ c => ?_))
 refine Fp [] 1 c fun _ c => ?_
 replace c := c.gm [sl3 (L a6 x1.Turns c6) x1.Turns, OD (ownT 34) 34 (L a1 x1.Regs c1) x2.2, OD (ownT 34) 34 (L a2 x1.Mem c2) x3.2, sl3 (L a3 x1.Stack c3) x4.2, OD (ownT 34) 34 (L a4 x1.Out c4) x5.2, OD (ownT 34) 34 (L a5 x1.Cond c5) x6.2, OH (ownP 34 3) 66 (L ga0 p0 gc1) s1.2.1 (Rw.Path.mk s1.1 ⟨a1, List.length x1.Regs, c1⟩ ⟨a2, List.length x1.Mem, c2⟩ ⟨a3, List.length x1.Stack, c3⟩ x4.1 ⟨a4, List.length x1.Out, c4⟩ x5.1 (w64 (x5.1 + 1)) ⟨a5, List.length x1.Cond, c5⟩ ⟨a6, List.length x1.Turns, c6⟩) s1.2.2]
 refine Bd h fun x7 hx7 h => Ca [0] c (laws_markIntS_ok hx7) trivial Tryz.call15 fun _ _ _ c => ?_
 refine Fp [] 1 c fun _ c => E1 (bk (tn (P1 [] c fun _ c => Bd h fun x8 hx8 h => ?_)))
 replace c := c.un_Path (ET := 34) (EI := 3) (E := 66) (v := L ga0 p0 gc1) (y := (D.Path.mk s1.1 x2.2 x3.2 x4.2 x4.1 x5.2 x5.1 (w64 (x5.1 + 1)) x6.2 x7.2)) (b0 := a1) (m0 := List.length x1.Regs) (c0 := c1) (b1 := a2) (m1 := List.length x1.Mem) (c1 := c2) (b2 := a3) (m2 := List.length x1.Stack) (c2 := c3) (b3 := a4) (m3 := List.length x1.Out) (c3 := c4) (b4 := a5) (m4 := List.length x1.Cond) (c4 := c5) (b5 := a6) (m5 := List.length x1.Turns) (c5 := c6) 5 0 1 2 3 4 6 hx8
 replace c := c.gm [OD (ownP 34 3) 66 (L ga0 p0 gc1) x8]
 exact Nx h () (c.re [0] [])
 refine wp_exit (te (te (be ?_)))
 obtain rfl := hr1 _ (sk h)
 exact tn ⟨(), c.re [0] []⟩
 refine P0 [] c fun _ c => ?_
 cases h
 exact wp_ret (Rt c () [0] [])

theorem laws_markTerm_ok {n p0 p1 ga0 gc1 gn2 r} (h : laws_markTerm n p0 p1 = some r) : Con Tryz.prog 13 [.agg #[I p0.Op, I p0.W, I p0.N, Str.val p0.Name, .slice ga0 gn2 gc1], I p1] [OD (ownT 34) 34 (.slice ga0 gn2 gc1) p0.Kids] [] fun (_ : Unit) => ([I r.1], [OD (ownT 34) 34 (.slice ga0 gn2 gc1) r.2.Kids], []) := by
 unfold laws_markTerm at h
 refine En Tryz.func13 rfl Tryz.ntmps13 fun _ fr w c => ?_
 obtain ⟨rfl, c⟩ := c.releno 0
 refine T0 (Ebx (tC p0 ga0 gc1) c fun b1 _ _ c => ?_)
 refine Fp [] 1 c fun _ c => E0 (T0 (Fp [(1, 0)] 3 c fun _ c => Bd h fun x1 hx1 h => Ca [0] c (laws_markTermS_ok hx1) trivial Tryz.call51 fun _ _ _ c => ?_))
 refine Fp [] 1 c fun _ c => E0 (P0 [] c fun _ c => ?_)
 cases h
 exact wp_ret (Rt c () [1] [])

theorem laws_heldTermS_ok {n : Nat} : ∀ {p0 p1 ga0 gc1 r} (h : laws_heldTermS n p0 p1 = some r), Con Tryz.prog 71 [L ga0 p0 gc1, I p1] [] [lR ga0 p0 gc1] fun (_ : Unit) => ([I r], [], []) := by
 induction n with
 | zero => intro p0 p1 ga0 gc1 r h; simp [laws_heldTermS] at h
 | succ n ih =>
 intro p0 p1 ga0 gc1 r h
 rw [laws_heldTermS] at h
 refine En Tryz.func71 rfl Tryz.ntmps71 fun _ fr w c => ?_
 refine P0 [] c fun _ c => S0 (P0 [] c fun _ c => Bd h fun rl1 hit1 h => ?_)
 have hk1 := h
 refine LpR (fun s1  (_ : Unit) => ([(0, L ga0 p0 gc1), (1, I s1.1), (5, I s1.2)], id, [])) (fun s  (_ : Unit) => ([(1, I s)], id, [])) hit1 c () (c.re [] [0]) (fun s1 q1 _ _ _ c h hr1 => ?_) fun s1r _ _ _ hrl c => ?_
 refine S0 (P0 [] c fun _ c => I0 c h (fun h => ?_) fun h => ?_)
 refine K0 (S0 (wp_block (S0 (T0 (Fp [] 2 c fun _ c => Bd h fun x1 hx1 h => Eef c (.f 0) hx1 fc34_0 fun _ _ _ c => ?_)))))
 refine Fp [] 2 c fun _ c => E0 (I0 c h (fun h => ?_) fun h => ?_)
 refine P0 [] c fun _ c => ?_
 obtain rfl := hr1 _ (sk h)
 obtain rfl := sj hk1
 exact wp_ret (tr (br (tr (tr (br (tr (Rt c () [] [])))))))
 refine K0 (P0 [] c fun _ c => S0 (T0 (Fp [] 2 c fun _ c => Bd h fun x2 hx2 h => Eef c (.f 0) hx2 fc34_1 fun _ _ _ c => ?_)))
 refine Fp [] 2 c fun _ c => E0 (I0 c h (fun h => ?_) fun h => ?_)
 refine P0 [] c fun _ c => ?_
 obtain rfl := hr1 _ (sk h)
 obtain rfl := sj hk1
 exact wp_ret (tr (br (tr (tr (br (tr (Rt c () [] [])))))))
 refine K0 (P0 [] c fun _ c => S0 (T0 (Fp [] 2 c fun _ c => Bd h fun x3 hx3 h => Eef c (.f 0) hx3 fc34_2 fun _ _ _ c => ?_)))
 refine Fp [] 2 c fun _ c => E0 (I0 c h (fun h => ?_) fun h => ?_)
 refine P0 [] c fun _ c => ?_
 obtain rfl := hr1 _ (sk h)
 obtain rfl := sj hk1
 exact wp_ret (tr (br (tr (tr (br (tr (Rt c () [] [])))))))
 refine K0 (P0 [] c fun _ c => S0 (Bd h fun x4 hx4 h => ?_))
 obtain ⟨ep1, u1, c⟩ := c.elp (.f 0) hx4
 obtain ⟨a1, c1, rfl, c⟩ := c.o_Term 2
 refine Bd h fun x5 hx5 h => S0 (rZ [(2, .eq (.pointer (some ep1))), (4, .eq (Str.val x4.Name)), (6, .eq (Str.val x5))] [] mix c ⟨Nie c 1, Nlc c 1 3, Ncl c (kN (laws_markText_ok hx5)) trivial Tryz.call103, trivial⟩ fun _ _ c => I0 c h (fun h => ?_) fun h => ?_)
 refine P0 [] c fun _ c => ?_
 obtain rfl := hr1 _ (sk h)
 obtain rfl := sj hk1
 exact wp_ret (tr (br (tr (tr (br (tr (Rt c () [] [])))))))
 refine K0 (P0 [] c fun _ c => T0 (Fp [] 2 c fun _ c => Bd h fun x6 hx6 h => Eemf c (.f 0) hx6 fm_Term4 fun _ _ u2 _ c => ?_))
 obtain ⟨a2, c2, rfl⟩ := c.sl 4
 refine Fp [] 1 c fun _ c => Bd h fun x7 hx7 h => Ca [] c (ih hx7) ⟨.f 4, trivial⟩ Tryz.call71 fun _ _ _ c => ?_
 refine Fp [] 1 c fun _ c => E0 (P0 [] c fun _ c => I0 c h (fun h => ?_) fun h => ?_)
 refine P0 [] c fun _ c => ?_
 obtain rfl := hr1 _ (sk h)
 obtain rfl := sj hk1
 exact wp_ret (br (tr (tr (br (tr (Rt c () [] []))))))
 refine K1 (bk (tn (P1 [] c fun _ c => Nx h () (c.re [] [0]))))
 refine wp_exit (te (te (be ?_)))
 obtain rfl := hr1 _ (sk h)
 exact tn ⟨_, (), rfl, c.re [] [0]⟩
 subst hrl
 refine P0 [] c fun _ c => ?_
 obtain rfl := sj h
 exact wp_ret (Rt c () [] [])

theorem laws_heldTerm_ok {n p0 p1 ga0 gc1 r} (h : laws_heldTerm n p0 p1 = some r) : Con Tryz.prog 28 [tV p0 ga0 gc1, I p1] [] [lR ga0 p0.Kids gc1] fun (_ : Unit) => ([I r], [], []) := by
 unfold laws_heldTerm at h
 refine En Tryz.func28 rfl Tryz.ntmps28 fun _ fr w c => ?_
 refine T0 (Ebx (tC p0 ga0 gc1) c fun b1 _ _ c => ?_)
 refine Fp [] 1 c fun _ c => E0 (T0 (Fp [(1, 0)] 3 c fun _ c => Bd h fun x1 hx1 h => Ca [] c (laws_heldTermS_ok hx1) ⟨.f 0, trivial⟩ Tryz.call71 fun _ _ _ c => ?_))
 refine Fp [] 1 c fun _ c => E0 (S0 (P0 [] c fun _ c => I0 c h (fun h => ?_) fun h => ?_))
 refine P0 [] c fun _ c => ?_
 cases h
 exact wp_ret (tr (Rt c () [] []))
 refine K0 (P0 [] c fun _ c => ?_)
 obtain rfl := sj h
 exact wp_ret (Rt c () [] [])

theorem laws_FnExactOutcomeTerm_ok {n p0 p1 p2 ga0 gc1 ga2 gc3 r} (h : laws_FnExactOutcomeTerm n p0 p1 p2 = some r) : Con Tryz.prog 4 [gV p0 ga0 gc1, L ga2 p1 gc3, I p2] [] [lR ga0 p0.Code gc1, lR ga2 p1 gc3] fun (_ : Unit) => ([.bool r], [], []) := by
 unfold laws_FnExactOutcomeTerm at h
 refine En Tryz.func4 rfl Tryz.ntmps4 fun _ fr w c => ?_
 refine T0 (Ebx (gC p0 ga0 gc1) c fun b1 _ _ c => ?_)
 refine Fp [] 1 c fun _ c => E0 (P0 [] c fun _ c => T0 (Fp [(0, 0)] 2 c fun _ c => Bd h fun x1 hx1 h => Ca [] c (laws_szProgram_ok hx1) ⟨.f 0, trivial⟩ Tryz.call18 fun _ _ _ c => ?_))
 refine Fp [] 1 c fun _ c => E0 (S0 (P0 [] c fun _ c => I0 c h (fun h => ?_) fun h => ?_))
 refine P0 [] c fun _ c => ?_
 obtain rfl := sj h
 exact wp_ret (tr (Rt c () [] []))
 refine K0 (T0 (Fp [] 2 c fun _ c => Bd h fun x2 hx2 h => Ca [] c (laws_szPathS_ok hx2) ⟨.f 1, trivial⟩ Tryz.call19 fun _ _ _ c => ?_))
 refine Fp [] 1 c fun _ c => E0 (S0 (P0 [] c fun _ c => I0 c h (fun h => ?_) fun h => ?_))
 refine P0 [] c fun _ c => ?_
 obtain rfl := sj h
 exact wp_ret (tr (Rt c () [] []))
 refine K0 (T0 (Fp [(0, 0)] 1 c fun _ c => Bd h fun x3 hx3 h => Ca [] c (laws_toProgram_ok hx3) ⟨.f 0, trivial⟩ Tryz.call21 fun i1 _ _ c => ?_))
 refine Fp [] 1 c fun _ c => Bd h fun x4 hx4 h => Ca [] c (laws_toPathS_ok hx4) ⟨.f 1, trivial⟩ Tryz.call22 fun i2 _ _ c => ?_
 refine Fp [] 1 c fun _ c => ?_
 replace c := c.gm [BX b1 45 (gC p0 ga0 gc1), sl141 (L i1.1 x3.Code i1.2) x3.Code, OD (ownP 34 3) 66 (L i2.1 x4 i2.2) x4]
 replace c := c.fz 1
 replace c := c.fzo (owns_P 34 3) 1
 refine Bd h fun x5 hx5 h => Cf [] c (spec_OutcomeTerm_ok hx5) ⟨.f 2, .f 3, trivial⟩ Tryz.call20 fun i3 _ _ c => ?_
 refine Fp [] 3 c fun _ c => Eal tZ c fun b2 _ _ c => ?_
 refine Ess 1 (tC x5.1 i3.1 i3.2) c fun _ c => ?_
 refine Fp [] 1 c fun _ c => E0 (T0 (Fp [(0, 0)] 1 c fun _ c => Bd h fun x6 hx6 h => Ca [] c (laws_toProgram_ok hx6) ⟨.f 0, trivial⟩ Tryz.call21 fun i4 _ _ c => ?_))
 refine Eal [I 0, I 0, I 0, L none ([] : List D.Ins) 0] c fun b3 _ _ c => ?_
 replace c := c.gm [BX b1 45 (gC p0 ga0 gc1), BX b2 34 (tC x5.1 i3.1 i3.2), sl141 (L i4.1 x6.Code i4.2) x6.Code, BX b3 53 [I 0, I 0, I 0, L none ([] : List D.Ins) 0]]
 refine Ess 3 (gC x6 i4.1 i4.2) c fun _ c => ?_
 refine E0 (T0 (Fp [] 1 c fun _ c => Bd h fun x7 hx7 h => Ca [] c (laws_toPathS_ok hx7) ⟨.f 1, trivial⟩ Tryz.call22 fun i5 _ _ c => ?_))
 refine Fp [] 1 c fun _ c => E0 (T0 (Fp [(0, 2)] 3 c fun _ c => Bd h fun x8 hx8 h => Ca [] c (impl_OutcomeTerm_ok hx8) ⟨.g 2, .go (owns_P 34 3) 4, trivial⟩ Tryz.call23 fun i6 _ _ c => ?_))
 refine Fp [] 3 c fun _ c => ?_
 replace c := c.gm [BX b1 45 (gC p0 ga0 gc1), BX b2 34 (tC x5.1 i3.1 i3.2), sl141 (L i4.1 x6.Code i4.2) x6.Code, BX b3 53 (gC x6 i4.1 i4.2), OD (ownP 34 3) 66 (L i5.1 x7 i5.2) x7, OD (ownT 34) 34 (L i6.1 x8.1.Kids i6.2) x8.1.Kids]
 refine Eal tZ c fun b4 _ _ c => ?_
 refine Ess 6 (tC x8.1 i6.1 i6.2) c fun _ c => ?_
 refine Fp [] 1 c fun _ c => E0 (S0 (Bd h fun x9 hx9 h => S0 (rZ [(2, .eq (.bool x9))] [(0, 3), (1, 1)] mix c ⟨Ncl c (kN (laws_eqTerm_ok hx9)) ⟨.go (owns_T 34) 5, .f 4, trivial⟩ Tryz.call12, trivial⟩ fun _ _ c => I0 c h (fun h => ?_) fun h => ?_)))
 refine P0 [] c fun _ c => ?_
 obtain rfl := sj h
 exact wp_ret (tr (Rt c () [] []))
 refine K0 (S0 (Bd h fun x10 hx10 h => Bd h fun x11 hx11 h => S0 (Jn (fun _ : Unit => ([(1, L ga2 p1 gc3), (2, I p2), (3, B b1 0), (8, B b2 0), (9, .bool x5.2), (10, B b3 0), (11, L i5.1 x7 i5.2), (12, B b4 0), (13, .bool x8.2), (62, .bool (!x11))], id, [])) c ?_ fun _ _ _ c => ?_)))
 refine As mix c fun _ c => ?_
 replace c := Cx.frs [(1, L ga2 p1 gc3), (2, I p2), (3, B b1 0), (8, B b2 0), (9, .bool x5.2), (10, B b3 0), (11, L i5.1 x7 i5.2), (12, B b4 0), (13, .bool x8.2)] c
 refine Dq (fun _ : Unit => ([(1, L ga2 p1 gc3), (2, I p2), (3, B b1 0), (8, B b2 0), (9, .bool x5.2), (10, B b3 0), (11, L i5.1 x7 i5.2), (12, B b4 0), (13, .bool x8.2), (61, .bool x11)], id, [])) #[true, true, true, true, false] (fun _ => [(4, 62, .bool (!x11))]) c (fun _ => ?_) fun hd2 => ?_
 refine qnE ⟨qP [], trivial⟩ fun _ _ c => ?_
 exact nN () (c.rk (rg 7) (rg 5))
 refine Dq (fun i : Oh => ([(1, L ga2 p1 gc3), (2, I p2), (3, B b1 0), (8, B b2 0), (9, .bool x5.2), (10, B b3 0), (11, L i5.1 x7 i5.2), (12, B b4 0), (13, .bool x8.2), (60, gV x10 i.1 i.2)], fun Γ => Γ ++ [sl141 (L i.1 x10.Code i.2) x10.Code], [])) #[false, true, true, false, false] (fun i => [(0, 58, gV x6 i4.1 i4.2)]) c (fun i8 => ?_) fun hd1 => ?_
 obtain ⟨a1, c1⟩ := i8
 refine qn [3] ⟨qP [(0, 2)], trivial⟩ ⟨fun _ _ c => ?_, trivial⟩
 refine op_of _ rfl rfl ?_
 refine Ca [] c (laws_eqProgram_ok hx11) ⟨.g 2, .g 7, trivial⟩ Tryz.call24 fun _ _ _ c => ?_
 refine E0 (nQ hd2 () (c.rk (rg 7) (rg 5)))
 refine q0 (qs := [(0, 58, gV x6 i4.1 i4.2), (1, 59, gV p0 ga0 gc1)]) c (qn [2] ⟨qP [(0, 2)], qP [(0, 0)], trivial⟩ ⟨fun _ _ c => ?_, trivial⟩)
 refine op_of _ rfl rfl ?_
 refine Ca [] c (laws_toProgram_ok hx10) ⟨.f 0, trivial⟩ Tryz.call21 fun i7 _ _ c => ?_
 refine E0 (nQ hd1 (i7.1, i7.2) (c.rk (rg 8) (rg 5)))
 refine I0 c h (fun h => ?_) fun h => ?_
 refine P0 [] c fun _ c => ?_
 obtain rfl := sj h
 exact wp_ret (tr (Rt c () [] []))
 refine K0 (S0 (T0 (Fp [] 2 c fun _ c => Bd h fun x12 hx12 h => Ca [] c (laws_toPathS_ok hx12) ⟨.f 1, trivial⟩ Tryz.call22 fun i9 _ _ c => ?_)))
 refine Bd h fun x13 hx13 h => Ca [] c (laws_eqPathS_ok hx13) ⟨.go (owns_P 34 3) 4, .go (owns_P 34 3) 7, trivial⟩ Tryz.call25 fun _ _ _ c => ?_
 refine Fp [] 1 c fun _ c => E0 (I0 c h (fun h => ?_) fun h => ?_)
 refine P0 [] c fun _ c => ?_
 obtain rfl := sj h
 exact wp_ret (tr (Rt c () [] []))
 refine K0 (P0 [] c fun _ c => T0 (Fp [(0, 2)] 2 c fun _ c => Bd h fun x14 hx14 h => Ca [2] c (laws_markProgram_ok hx14) trivial Tryz.call26 fun _ _ _ c => ?_))
 refine Fp [] 1 c fun _ c => E0 (T0 (Fp [] 2 c fun _ c => ?_))
 replace c := c.gm [BX b1 45 (gC p0 ga0 gc1), BX b2 34 (tC x5.1 i3.1 i3.2), BX b3 53 (gC x6 i4.1 i4.2), OD (ownP 34 3) 66 (L i5.1 x7 i5.2) x7, OD (ownT 34) 34 (L i6.1 x8.1.Kids i6.2) x8.1.Kids, BX b4 34 (tC x8.1 i6.1 i6.2), OD (ownP 34 3) 66 (L i9.1 x12 i9.2) x12, sl141 (L i4.1 x6.Code i4.2) x14.2.Code]
 refine Bd h fun x15 hx15 h => Ca [3] c (laws_markPathS_ok hx15) trivial Tryz.call27 fun _ _ _ c => ?_
 refine Fp [] 1 c fun _ c => E0 (S0 (Bd h fun x16 hx16 h => S0 (rZ [(5, .eq (.bool x16))] [(3, 3), (4, 1)] mix c ⟨Ncl c (fun hg => laws_eqTerm_ok (iteF (gcF hg) hx16)) ⟨.go (owns_T 34) 3, .f 4, trivial⟩ Tryz.call12, trivial⟩ fun _ _ c => I0 c h (fun h => ?_) fun h => ?_)))
 refine P0 [] c fun _ c => ?_
 obtain rfl := sj h
 exact wp_ret (tr (Rt c () [] []))
 refine K0 (P0 [] c fun _ c => T0 (Fp [(0, 3)] 2 c fun _ c => Bd h fun x17 hx17 h => Ca [3] c (laws_markTerm_ok hx17) trivial Tryz.call13 fun _ _ _ c => ?_))
 refine Fp [] 1 c fun _ c => E0 (P0 [] c fun _ c => T0 (Fp [(0, 3)] 2 c fun _ c => ?_))
 obtain ⟨he1, c⟩ := c.releno 7
 replace c := c.eqs (v := (tV x8.1 i6.1 i6.2)) (u := .agg #[I x8.1.Op, I x8.1.W, I x8.1.N, Str.val x8.1.Name, L i6.1 x17.2.Kids i6.2]) 90 (by simp only [tV, L, he1])
 replace c := c.bxe (cs := (tC x8.1 i6.1 i6.2)) (cs' := [I x8.1.Op, I x8.1.W, I x8.1.N, Str.val x8.1.Name, L i6.1 x17.2.Kids i6.2]) 3 (by simp only [tC, L, he1])
 refine Bd h fun x18 hx18 h => Ca [] c (laws_heldTerm_ok hx18) ⟨.go (owns_T 34) 7, trivial⟩ Tryz.call28 fun _ _ _ c => ?_
 refine Fp [] 1 c fun _ c => E0 (S0 (P0 [] c fun _ c => I0 c h (fun h => ?_) fun h => ?_))
 refine P0 [] c fun _ c => ?_
 obtain rfl := sj h
 exact wp_ret (tr (Rt c () [] []))
 refine K0 (S0 (P0 [] c fun _ c => I0 c h (fun h => ?_) fun h => ?_))
 refine P0 [] c fun _ c => ?_
 obtain rfl := sj h
 exact wp_ret (tr (Rt c () [] []))
 refine K0 (T0 (Fp [(0, 0)] 1 c fun _ c => ?_))
 replace c := c.gm [BX b1 45 (gC p0 ga0 gc1), BX b2 34 (tC x5.1 i3.1 i3.2), BX b3 53 (gC x6 i4.1 i4.2), BX b4 34 [I x8.1.Op, I x8.1.W, I x8.1.N, Str.val x8.1.Name, L i6.1 x17.2.Kids i6.2], OD (ownP 34 3) 66 (L i9.1 x12 i9.2) x12, sl141 (L i4.1 x6.Code i4.2) x14.2.Code, OD (ownP 34 3) 66 (L i5.1 x7 i5.2) x15.2, OD (ownT 34) 34 (L i6.1 x17.2.Kids i6.2) x17.2.Kids]
 refine Bd h fun x19 hx19 h => Ca [] c (laws_toProgram_ok hx19) ⟨.f 0, trivial⟩ Tryz.call21 fun i10 _ _ c => ?_
 refine Fp [] 1 c fun _ c => Bd h fun x20 hx20 h => Ca [] c (laws_toPathS_ok hx20) ⟨.f 1, trivial⟩ Tryz.call22 fun i11 _ _ c => ?_
 refine Fp [] 1 c fun _ c => ?_
 replace c := c.gm [BX b1 45 (gC p0 ga0 gc1), BX b2 34 (tC x5.1 i3.1 i3.2), BX b3 53 (gC x6 i4.1 i4.2), BX b4 34 [I x8.1.Op, I x8.1.W, I x8.1.N, Str.val x8.1.Name, L i6.1 x17.2.Kids i6.2], OD (ownP 34 3) 66 (L i9.1 x12 i9.2) x12, sl141 (L i4.1 x6.Code i4.2) x14.2.Code, OD (ownP 34 3) 66 (L i5.1 x7 i5.2) x15.2, OD (ownT 34) 34 (L i6.1 x17.2.Kids i6.2) x17.2.Kids, sl141 (L i10.1 x19.Code i10.2) x19.Code, OD (ownP 34 3) 66 (L i11.1 x20 i11.2) x20]
 refine Bd h fun x21 hx21 h => Ca [] c (impl_OutcomeTerm_ok hx21) ⟨.g 8, .go (owns_P 34 3) 9, trivial⟩ Tryz.call23 fun i12 _ _ c => ?_
 refine Fp [] 3 c fun _ c => Eal tZ c fun b5 _ _ c => ?_
 replace c := c.gm [BX b1 45 (gC p0 ga0 gc1), BX b2 34 (tC x5.1 i3.1 i3.2), BX b3 53 (gC x6 i4.1 i4.2), BX b4 34 [I x8.1.Op, I x8.1.W, I x8.1.N, Str.val x8.1.Name, L i6.1 x17.2.Kids i6.2], OD (ownP 34 3) 66 (L i9.1 x12 i9.2) x12, sl141 (L i4.1 x6.Code i4.2) x14.2.Code, OD (ownP 34 3) 66 (L i5.1 x7 i5.2) x15.2, OD (ownT 34) 34 (L i6.1 x17.2.Kids i6.2) x17.2.Kids, sl141 (L i10.1 x19.Code i10.2) x19.Code, OD (ownP 34 3) 66 (L i11.1 x20 i11.2) x20, OD (ownT 34) 34 (L i12.1 x21.1.Kids i12.2) x21.1.Kids, BX b5 34 tZ]
 refine Ess 11 (tC x21.1 i12.1 i12.2) c fun _ c => ?_
 refine Fp [] 1 c fun _ c => E0 (S0 (Bd h fun x22 hx22 h => S0 (rZ [(2, .eq (.bool x22))] [(0, 4), (1, 1)] mix c ⟨Ncl c (kN (laws_eqTerm_ok hx22)) ⟨.go (owns_T 34) 10, .f 4, trivial⟩ Tryz.call12, trivial⟩ fun _ _ c => I0 c h (fun h => ?_) fun h => ?_)))
 refine P0 [] c fun _ c => ?_
 obtain rfl := sj h
 exact wp_ret (tr (Rt c () [] []))
 refine K0 (P0 [] c fun _ c => T0 (Fp [(0, 3)] 2 c fun _ c => Bd h fun x23 hx23 h => Ca [] c (laws_heldTerm_ok hx23) ⟨.go (owns_T 34) 7, trivial⟩ Tryz.call28 fun _ _ _ c => ?_))
 refine Fp [] 1 c fun _ c => E0 (S0 (P0 [] c fun _ c => I0 c h (fun h => ?_) fun h => ?_))
 refine P0 [] c fun _ c => ?_
 obtain rfl := sj h
 exact wp_ret (tr (Rt c () [] []))
 refine K0 (S0 (P0 [] c fun _ c => I0 c h (fun h => ?_) fun h => ?_))
 refine P0 [] c fun _ c => ?_
 obtain rfl := sj h
 exact wp_ret (tr (Rt c () [] []))
 refine K0 (P0 [] c fun _ c => ?_)
 obtain rfl := sj h
 exact wp_ret (Rt c () [] [])
end Go.Proofs.YtbljmkpofaibeaaGreat
