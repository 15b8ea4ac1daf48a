/- The walks, printed by a program. -/
import Derived.Test.YtbljmkpofaibeaaGreatWlkA
set_option linter.unusedVariables false
set_option linter.unusedSimpArgs false
set_option maxRecDepth 100000
set_option maxHeartbeats 40000000
namespace Go.Proofs.YtbljmkpofaibeaaGreat
open Go.GL Go.Maps Go.WideMaps
theorem impl_remake_impl_reduce_impl_reduceIf_impl_reduceCut_impl_reduceWiden_impl_reduceJoin_impl_reduceBinary_impl_reduceFirst_rec (n : Nat) : (∀ {p0 p1 p2 p3 ga0 gc1 r} (h : impl_remake n p0 p1 p2 p3 = some r), Con Tryz.prog 202 [I p0, I p1, I p2, L ga0 p3 gc1] [] [lR ga0 p3 gc1] fun (i : Oh) => ([tV r i.1 i.2], [], [lR i.1 r.Kids i.2])) ∧
    (∀ {p0 ga0 gc1 r} (h : impl_reduce n p0 = some r), Con Tryz.prog 118 [tV p0 ga0 gc1] [] [lR ga0 p0.Kids gc1] fun (i : Oh) => ([tV r i.1 i.2], [], [lR i.1 r.Kids i.2])) ∧
    (∀ {p0 ga0 gc1 r} (h : impl_reduceIf n p0 = some r), Con Tryz.prog 166 [tV p0 ga0 gc1] [] [lR ga0 p0.Kids gc1] fun (i : Oh) => ([tV r i.1 i.2], [], [lR i.1 r.Kids i.2])) ∧
    (∀ {p0 ga0 gc1 r} (h : impl_reduceCut n p0 = some r), Con Tryz.prog 167 [tV p0 ga0 gc1] [] [lR ga0 p0.Kids gc1] fun (i : Oh) => ([tV r i.1 i.2], [], [lR i.1 r.Kids i.2])) ∧
    (∀ {p0 ga0 gc1 r} (h : impl_reduceWiden n p0 = some r), Con Tryz.prog 168 [tV p0 ga0 gc1] [] [lR ga0 p0.Kids gc1] fun (i : Oh) => ([tV r i.1 i.2], [], [lR i.1 r.Kids i.2])) ∧
    (∀ {p0 ga0 gc1 r} (h : impl_reduceJoin n p0 = some r), Con Tryz.prog 169 [tV p0 ga0 gc1] [] [lR ga0 p0.Kids gc1] fun (i : Oh) => ([tV r i.1 i.2], [], [lR i.1 r.Kids i.2])) ∧
    (∀ {p0 ga0 gc1 r} (h : impl_reduceBinary n p0 = some r), Con Tryz.prog 170 [tV p0 ga0 gc1] [] [lR ga0 p0.Kids gc1] fun (i : Oh) => ([tV r i.1 i.2], [], [lR i.1 r.Kids i.2])) ∧
    (∀ {p0 p1 p2 p3 ga0 gc1 ga2 gc3 r} (h : impl_reduceFirst n p0 p1 p2 p3 = some r), Con Tryz.prog 205 [I p0, I p1, tV p2 ga0 gc1, tV p3 ga2 gc3] [] [lR ga0 p2.Kids gc1, lR ga2 p3.Kids gc3] fun (i : Oh) => ([tV r.1 i.1 i.2, .bool r.2], [], [lR i.1 r.1.Kids i.2])) := by
 induction n with
 | zero => exact ⟨by intro p0 p1 p2 p3 ga0 gc1 r h; simp [impl_remake] at h, by intro p0 ga0 gc1 r h; simp [impl_reduce] at h, by intro p0 ga0 gc1 r h; simp [impl_reduceIf] at h, by intro p0 ga0 gc1 r h; simp [impl_reduceCut] at h, by intro p0 ga0 gc1 r h; simp [impl_reduceWiden] at h, by intro p0 ga0 gc1 r h; simp [impl_reduceJoin] at h, by intro p0 ga0 gc1 r h; simp [impl_reduceBinary] at h, by intro p0 p1 p2 p3 ga0 gc1 ga2 gc3 r h; simp [impl_reduceFirst] at h⟩
 | succ n ih =>
 obtain ⟨ih0, ih1, ih2, ih3, ih4, ih5, ih6, ih7⟩ := ih
 refine ⟨?_, ?_, ?_, ?_, ?_, ?_, ?_, ?_⟩
 · intro p0 p1 p2 p3 ga0 gc1 r h
   rw [impl_remake] at h
   refine En Tryz.func202 rfl Tryz.ntmps202 fun _ fr w c => ?_
   refine T0 (Eal tZ c fun b1 _ _ c => ?_)
   refine E0 (T0 (Fp [] 5 c fun _ c => Bd h fun x1 hx1 h => Cg c (ih1 hx1) ⟨.f 0, tt⟩ Tryz.call118 fun i1 _ _ c => ?_))
   refine Ess 0 (tC x1 i1.1 i1.2) c fun _ c => ?_
   refine E0 ?_
   obtain rfl := sj h
   exact wp_ret (Rg c (i1.1, i1.2) [] [1] (.cell (α := Agg 4) kk (.b 0) .nil))
 · intro p0 ga0 gc1 r h
   rw [impl_reduce] at h
   refine En Tryz.func118 rfl Tryz.ntmps118 fun _ fr w c => ?_
   refine T0 (Ebx (tC p0 ga0 gc1) c fun b1 _ _ c => ?_)
   refine Eal tZ c fun b2 _ _ c => ?_
   refine E0 (S0 (P0 [(1, 0)] c fun _ c => I0 c h (fun h => ?_) fun h => ?_))
   refine T0 (Fp [(0, 0)] 1 c fun _ c => Ess 1 (tC p0 ga0 gc1) c fun _ c => ?_)
   refine E0 ?_
   obtain rfl := sj h
   exact wp_ret (tr (Rg c (ga0, gc1) [] [0] (.cell (α := Agg 4) kk (.b 1) .nil)))
   refine K0 (P0 [] c fun _ c => S0 (P0 [(1, 0)] c fun _ c => Bd h fun rl1 hit1 h => Lp (fun s1  (_ : Unit) => ([(1, B b1 0), (2, B b2 0), (3, .bool s1.1), (12, I (len p0.Kids)), (13, I s1.2)], id, [])) (fun  (_ : Unit) => ([(1, B b1 0), (2, B b2 0), (3, .bool rl1)], id, [])) hit1 c () (c.rk [0, 1] [0]) (fun s1 q1 _ _ _ c h hr1 => ?_) fun _ _ _ c => ?_))
   refine P0 [] c fun _ c => S0 (I0 c h (fun h => ?_) fun h => ?_)
   refine K0 (S0 (wp_block (P0 [] c fun _ c => Bd h fun x1 hx1 h => Bd h fun x2 hx2 h => Tq (rZ [(5, Pd.el (x1 : D.Term)), (6, Pd.rd (x1 : D.Term)), (7, .eq (.bool x2))] [(3, 0)] mix c ⟨Nid c (.f 0) (gT hx1), Nrd c 5 (atN 5), Ncd (Ψ := []) [.r 6 (fun v => RO v (x1 : D.Term))] c ⟨(atN 6), tt⟩ tt (fun hg _ _ ga gp => by obtain ⟨u1, _, rfl, g1, rfl⟩ := ga; obtain ⟨k1, rfl, f1⟩ := Opn.opn g1; exact ⟨_, f1, impl_isConst_ok (iteT (gcT hg) hx2)⟩) Tryz.call163, tt⟩ fun _ _ c => bk (tn (P1 [] c fun _ c => Nx h () (c.rk [0, 1] [0])))))))
   refine wp_exit (te (te (be ?_)))
   obtain rfl := hr1 _ (sk h)
   exact tn ⟨(), c.rk [0, 1] [0]⟩
   refine S0 (P0 [] c fun _ c => I0 c h (fun h => ?_) fun h => ?_)
   refine Bd h fun x3 hx3 h => S0 (wp_ra mix (rM 4 [(3, .eq (I x3))] [(1, 0), (2, 0)] c (fun ow => ⟨np_tO ow (Ncl c (kN (impl_evalNode_ok hx3)) ⟨.f 0, .mn, tt⟩ Tryz.call164), tt⟩) fun _ _ _ _ _ c => Bd h fun x4 hx4 h => Cb c (impl_ConstTerm_ok hx4) tt Tryz.call117 fun _ _ _ c => ?_))
   refine Ess 1 [I x4.Op, I x4.W, I x4.N, Str.val x4.Name, L none ([] : List D.Term) 0] c fun _ c => ?_
   refine E0 ?_
   cases h
   replace c := c.nilf (α := D.Term)
   exact wp_ret (tr (Rg c (none, 0) [] [1] (.cell (α := Agg 4) kk (.b 1) .nil)))
   refine K0 (S0 (P0 [(1, 0)] c fun _ c => wp_block (S0 (P0 [] c fun _ c => Mp (p0.Op == 1) [(34, .bool (p0.Op == 1))] [(34, .bool (p0.Op == 2))] [(34, .bool ((p0.Op == 1) || (p0.Op == 2)))] [34, 36] c fun _ c => I0 c h (fun h => ?_) fun h => ?_))))
   refine T0 (Fp [(0, 0)] 1 c fun _ c => Bd h fun x5 hx5 h => Cg c (impl_reduceUnary_ok hx5) ⟨.f 0, tt⟩ Tryz.call165 fun i1 _ _ c => ?_)
   refine Ess 1 (tC x5 i1.1 i1.2) c fun _ c => ?_
   refine E0 ?_
   obtain rfl := sj h
   exact wp_ret (br (tr (Rg c (i1.1, i1.2) [] [1] (.cell (α := Agg 4) kk (.b 1) .nil))))
   refine P0 [] c fun _ c => I0 c h (fun h => ?_) fun h => ?_
   refine T0 (Fp [(0, 0)] 1 c fun _ c => Bd h fun x6 hx6 h => Cg c (ih2 hx6) ⟨.f 0, tt⟩ Tryz.call166 fun i2 _ _ c => ?_)
   refine Ess 1 (tC x6 i2.1 i2.2) c fun _ c => ?_
   refine E0 ?_
   obtain rfl := sj h
   exact wp_ret (br (tr (Rg c (i2.1, i2.2) [] [1] (.cell (α := Agg 4) kk (.b 1) .nil))))
   refine P0 [] c fun _ c => I0 c h (fun h => ?_) fun h => ?_
   refine T0 (Fp [(0, 0)] 1 c fun _ c => Bd h fun x7 hx7 h => Cg c (ih3 hx7) ⟨.f 0, tt⟩ Tryz.call167 fun i3 _ _ c => ?_)
   refine Ess 1 (tC x7 i3.1 i3.2) c fun _ c => ?_
   refine E0 ?_
   obtain rfl := sj h
   exact wp_ret (br (tr (Rg c (i3.1, i3.2) [] [1] (.cell (α := Agg 4) kk (.b 1) .nil))))
   refine S0 (P0 [] c fun _ c => Mp (p0.Op == 20) [(47, .bool (p0.Op == 20))] [(47, .bool (p0.Op == 21))] [(47, .bool ((p0.Op == 20) || (p0.Op == 21)))] [47, 49] c fun _ c => I0 c h (fun h => ?_) fun h => ?_)
   refine T0 (Fp [(0, 0)] 1 c fun _ c => Bd h fun x8 hx8 h => Cg c (ih4 hx8) ⟨.f 0, tt⟩ Tryz.call168 fun i4 _ _ c => ?_)
   refine Ess 1 (tC x8 i4.1 i4.2) c fun _ c => ?_
   refine E0 ?_
   obtain rfl := sj h
   exact wp_ret (br (tr (Rg c (i4.1, i4.2) [] [1] (.cell (α := Agg 4) kk (.b 1) .nil))))
   refine P0 [] c fun _ c => I0 c h (fun h => ?_) fun h => ?_
   refine T0 (Fp [(0, 0)] 1 c fun _ c => Bd h fun x9 hx9 h => Cg c (ih5 hx9) ⟨.f 0, tt⟩ Tryz.call169 fun i5 _ _ c => ?_)
   refine Ess 1 (tC x9 i5.1 i5.2) c fun _ c => ?_
   refine E0 ?_
   obtain rfl := sj h
   exact wp_ret (br (tr (Rg c (i5.1, i5.2) [] [1] (.cell (α := Agg 4) kk (.b 1) .nil))))
   refine K1 (bk (tn (T0 (Fp [(0, 0)] 1 c fun _ c => Bd h fun x10 hx10 h => Cg c (ih6 hx10) ⟨.f 0, tt⟩ Tryz.call170 fun i6 _ _ c => ?_))))
   refine Ess 1 (tC x10 i6.1 i6.2) c fun _ c => ?_
   refine E0 ?_
   obtain rfl := sj h
   exact wp_ret (Rg c (i6.1, i6.2) [] [1] (.cell (α := Agg 4) kk (.b 1) .nil))
 · intro p0 ga0 gc1 r h
   rw [impl_reduceIf] at h
   refine En Tryz.func166 rfl Tryz.ntmps166 fun _ fr w c => ?_
   refine T0 (Ebx (tC p0 ga0 gc1) c fun b1 _ _ c => ?_)
   refine Eal tZ c fun b2 _ _ c => ?_
   refine E0 (Bd h fun x1 hx1 h => ?_)
   obtain ⟨ep1, u1, c⟩ := c.elp (.f 0) hx1
   obtain ⟨a1, c1, rfl, c⟩ := c.o_Term 2
   refine Bd h fun x2 hx2 h => ?_
   obtain ⟨ep2, u2, c⟩ := c.elp (.f 0) hx2
   obtain ⟨a2, c2, rfl, c⟩ := c.o_Term 5
   refine Bd h fun x3 hx3 h => ?_
   obtain ⟨ep3, u3, c⟩ := c.elp (.f 0) hx3
   obtain ⟨a3, c3, rfl, c⟩ := c.o_Term 8
   refine S0 (Jn (fun i : Nat × Nat × Nat => ([(1, B b1 0), (2, B b2 0), (3, B i.1 0), (4, B i.2.1 0), (5, B i.2.2 0)], fun Γ => Γ ++ [BX i.1 34 (tC x1 a1 c1), BX i.2.1 34 (tC x2 a2 c2), BX i.2.2 34 (tC x3 a3 c3)], [])) c ?_ fun i8 _ _ c => ?_)
   refine As mix c fun _ c => ?_
   replace c := Cx.frs [(1, B b1 0), (2, B b2 0)] c
   refine Dq (fun i : Nat × Nat × Nat => ([(1, B b1 0), (2, B b2 0), (3, B i.1 0), (4, B i.2.1 0), (5, B i.2.2 0)], fun Γ => Γ ++ [BX i.1 34 (tC x1 a1 c1), BX i.2.1 34 (tC x2 a2 c2), BX i.2.2 34 (tC x3 a3 c3)], [])) (bN 18 262143) (fun i => []) c (fun i7 => ?_) fun hd10 => ?_
   obtain ⟨b33, b34, b35⟩ := i7
   refine qnE tt fun _ _ c => ?_
   exact nN (b33, b34, b35) (c.rk (rg 5) (rg 10))
   refine Dq (fun i : Nat × Nat × Nat => ([(1, B b1 0), (2, B b2 0), (3, B i.1 0), (4, B i.2.1 0), (5, B i.2.2 0)], fun Γ => Γ ++ [BX i.1 34 (tC x1 a1 c1), BX i.2.1 34 (tC x2 a2 c2), BX i.2.2 34 tZ], [])) (bN 18 127231) (fun i => [(8, 14, B b1 4), (9, 15, L ga0 p0.Kids gc1), (10, 16, .pointer (some ep3)), (11, 17, tV x3 a3 c3)]) c (fun i6 => ?_) fun hd9 => ?_
   obtain ⟨b30, b31, b32⟩ := i6
   refine qn [17] ⟨qP [], qP [(0, 0)], qI 7, qL 7, tt⟩ ⟨fun _ _ c => ?_, tt⟩
   refine op_of _ rfl rfl ?_
   refine Ess 4 (tC x3 a3 c3) c fun _ c => ?_
   refine E0 (nQ hd10 (b30, b31, b32) (c.rk (rg 5) (rg 10)))
   refine Dq (fun i : Nat × Nat × Nat => ([(1, B b1 0), (2, B b2 0), (3, B i.1 0), (4, B i.2.1 0), (5, B i.2.2 0)], fun Γ => Γ ++ [BX i.1 34 (tC x1 a1 c1), BX i.2.1 34 tZ, BX i.2.2 34 tZ], [])) (bN 18 61455) (fun i => [(4, 10, B b1 4), (5, 11, L ga0 p0.Kids gc1), (6, 12, .pointer (some ep2)), (7, 13, tV x2 a2 c2), (8, 14, B b1 4), (9, 15, L ga0 p0.Kids gc1), (10, 16, .pointer (some ep3)), (11, 17, tV x3 a3 c3)]) c (fun i5 => ?_) fun hd8 => ?_
   obtain ⟨b27, b28, b29⟩ := i5
   refine qn [16] ⟨qP [], qP [(0, 0)], qI 4, qL 4, qP [], qP [(0, 0)], qI 7, qL 7, tt⟩ ⟨fun _ _ c => ?_, tt⟩
   refine op_of _ rfl rfl ?_
   refine Ess 3 (tC x2 a2 c2) c fun _ c => ?_
   refine E0 (nQ hd9 (b27, b28, b29) (c.rk (rg 5) (rg 10)))
   refine Dq (fun i : Nat × Nat × Nat => ([(1, B b1 0), (2, B b2 0), (3, B i.1 0), (4, B i.2.1 0), (5, B i.2.2 0)], fun Γ => Γ ++ [BX i.1 34 tZ, BX i.2.1 34 tZ, BX i.2.2 34 tZ], [])) (bN 18 28672) (fun i => [(0, 6, B b1 4), (1, 7, L ga0 p0.Kids gc1), (2, 8, .pointer (some ep1)), (3, 9, tV x1 a1 c1), (4, 10, B b1 4), (5, 11, L ga0 p0.Kids gc1), (6, 12, .pointer (some ep2)), (7, 13, tV x2 a2 c2), (8, 14, B b1 4), (9, 15, L ga0 p0.Kids gc1), (10, 16, .pointer (some ep3)), (11, 17, tV x3 a3 c3)]) c (fun i4 => ?_) fun hd7 => ?_
   obtain ⟨b22, b23, b24⟩ := i4
   refine qn [15] ⟨qP [], qP [(0, 0)], qI 1, qL 1, qP [], qP [(0, 0)], qI 4, qL 4, qP [], qP [(0, 0)], qI 7, qL 7, tt⟩ ⟨fun _ _ c => ?_, tt⟩
   refine op_of _ rfl rfl ?_
   refine Ess 2 (tC x1 a1 c1) c fun _ c => ?_
   refine E0 (nQ hd8 (b22, b23, b24) (c.rk (rg 5) (rg 10)))
   refine Dq (fun i : Nat × Nat => ([(1, B b1 0), (2, B b2 0), (3, B i.1 0), (4, B i.2 0)], fun Γ => Γ ++ [BX i.1 34 tZ, BX i.2 34 tZ], [])) (bN 18 12288) (fun i => [(0, 6, B b1 4), (1, 7, L ga0 p0.Kids gc1), (2, 8, .pointer (some ep1)), (3, 9, tV x1 a1 c1), (4, 10, B b1 4), (5, 11, L ga0 p0.Kids gc1), (6, 12, .pointer (some ep2)), (7, 13, tV x2 a2 c2), (8, 14, B b1 4), (9, 15, L ga0 p0.Kids gc1), (10, 16, .pointer (some ep3)), (11, 17, tV x3 a3 c3)]) c (fun i1 => ?_) fun hd4 => ?_
   obtain ⟨b10, b11⟩ := i1
   refine qn [14] ⟨qP [], qP [(0, 0)], qI 1, qL 1, qP [], qP [(0, 0)], qI 4, qL 4, qP [], qP [(0, 0)], qI 7, qL 7, tt⟩ ⟨fun _ _ c => ?_, tt⟩
   refine op_of _ rfl rfl ?_
   refine Eal tZ c fun b21 _ _ c => ?_
   refine E0 (nQ hd7 (b10, b11, b21) (c.rk (rg 5) (rg 10)))
   refine Dq (fun i : Nat × Nat => ([(1, B b1 0), (2, B b2 0), (3, B i.1 0), (5, B i.2 0)], fun Γ => Γ ++ [BX i.1 34 tZ, BX i.2 34 tZ], [])) (bN 18 20480) (fun i => [(0, 6, B b1 4), (1, 7, L ga0 p0.Kids gc1), (2, 8, .pointer (some ep1)), (3, 9, tV x1 a1 c1), (4, 10, B b1 4), (5, 11, L ga0 p0.Kids gc1), (6, 12, .pointer (some ep2)), (7, 13, tV x2 a2 c2), (8, 14, B b1 4), (9, 15, L ga0 p0.Kids gc1), (10, 16, .pointer (some ep3)), (11, 17, tV x3 a3 c3)]) c (fun i2 => ?_) fun hd5 => ?_
   obtain ⟨b13, b14⟩ := i2
   refine qn [13] ⟨qP [], qP [(0, 0)], qI 1, qL 1, qP [], qP [(0, 0)], qI 4, qL 4, qP [], qP [(0, 0)], qI 7, qL 7, tt⟩ ⟨fun _ _ c => ?_, tt⟩
   refine op_of _ rfl rfl ?_
   refine Eal tZ c fun b25 _ _ c => ?_
   refine E0 (nQ hd7 (b13, b25, b14) (c.rk [0, 1, 2, 4, 3] (rg 10)))
   refine Dq (fun i : Nat × Nat => ([(1, B b1 0), (2, B b2 0), (4, B i.1 0), (5, B i.2 0)], fun Γ => Γ ++ [BX i.1 34 tZ, BX i.2 34 tZ], [])) (bN 18 24576) (fun i => [(0, 6, B b1 4), (1, 7, L ga0 p0.Kids gc1), (2, 8, .pointer (some ep1)), (3, 9, tV x1 a1 c1), (4, 10, B b1 4), (5, 11, L ga0 p0.Kids gc1), (6, 12, .pointer (some ep2)), (7, 13, tV x2 a2 c2), (8, 14, B b1 4), (9, 15, L ga0 p0.Kids gc1), (10, 16, .pointer (some ep3)), (11, 17, tV x3 a3 c3)]) c (fun i3 => ?_) fun hd6 => ?_
   obtain ⟨b17, b18⟩ := i3
   refine qn [12] ⟨qP [], qP [(0, 0)], qI 1, qL 1, qP [], qP [(0, 0)], qI 4, qL 4, qP [], qP [(0, 0)], qI 7, qL 7, tt⟩ ⟨fun _ _ c => ?_, tt⟩
   refine op_of _ rfl rfl ?_
   refine Eal tZ c fun b26 _ _ c => ?_
   refine E0 (nQ hd7 (b26, b17, b18) (c.rk [0, 1, 4, 2, 3] (rg 10)))
   refine Dq (fun i : Nat => ([(1, B b1 0), (2, B b2 0), (3, B i 0)], fun Γ => Γ ++ [BX i 34 tZ], [])) (bN 18 4096) (fun i => [(0, 6, B b1 4), (1, 7, L ga0 p0.Kids gc1), (2, 8, .pointer (some ep1)), (3, 9, tV x1 a1 c1), (4, 10, B b1 4), (5, 11, L ga0 p0.Kids gc1), (6, 12, .pointer (some ep2)), (7, 13, tV x2 a2 c2), (8, 14, B b1 4), (9, 15, L ga0 p0.Kids gc1), (10, 16, .pointer (some ep3)), (11, 17, tV x3 a3 c3)]) c (fun b4 => ?_) fun hd1 => ?_
   refine qn [13, 14] ⟨qP [], qP [(0, 0)], qI 1, qL 1, qP [], qP [(0, 0)], qI 4, qL 4, qP [], qP [(0, 0)], qI 7, qL 7, tt⟩ ⟨fun _ _ c => ?_, fun _ _ c => ?_, tt⟩
   refine op_of _ rfl rfl ?_
   refine Eal tZ c fun b9 _ _ c => ?_
   refine E0 (nQ hd4 (b4, b9) (c.rk (rg 4) (rg 10)))
   refine op_of _ rfl rfl ?_
   refine Eal tZ c fun b12 _ _ c => ?_
   refine E0 (nQ hd5 (b4, b12) (c.rk (rg 4) (rg 10)))
   refine Dq (fun i : Nat => ([(1, B b1 0), (2, B b2 0), (4, B i 0)], fun Γ => Γ ++ [BX i 34 tZ], [])) (bN 18 8192) (fun i => [(0, 6, B b1 4), (1, 7, L ga0 p0.Kids gc1), (2, 8, .pointer (some ep1)), (3, 9, tV x1 a1 c1), (4, 10, B b1 4), (5, 11, L ga0 p0.Kids gc1), (6, 12, .pointer (some ep2)), (7, 13, tV x2 a2 c2), (8, 14, B b1 4), (9, 15, L ga0 p0.Kids gc1), (10, 16, .pointer (some ep3)), (11, 17, tV x3 a3 c3)]) c (fun b6 => ?_) fun hd2 => ?_
   refine qn [12, 14] ⟨qP [], qP [(0, 0)], qI 1, qL 1, qP [], qP [(0, 0)], qI 4, qL 4, qP [], qP [(0, 0)], qI 7, qL 7, tt⟩ ⟨fun _ _ c => ?_, fun _ _ c => ?_, tt⟩
   refine op_of _ rfl rfl ?_
   refine Eal tZ c fun b15 _ _ c => ?_
   refine E0 (nQ hd4 (b15, b6) (c.rk [0, 1, 3, 2] (rg 10)))
   refine op_of _ rfl rfl ?_
   refine Eal tZ c fun b16 _ _ c => ?_
   refine E0 (nQ hd6 (b6, b16) (c.rk (rg 4) (rg 10)))
   refine Dq (fun i : Nat => ([(1, B b1 0), (2, B b2 0), (5, B i 0)], fun Γ => Γ ++ [BX i 34 tZ], [])) (bN 18 16384) (fun i => [(0, 6, B b1 4), (1, 7, L ga0 p0.Kids gc1), (2, 8, .pointer (some ep1)), (3, 9, tV x1 a1 c1), (4, 10, B b1 4), (5, 11, L ga0 p0.Kids gc1), (6, 12, .pointer (some ep2)), (7, 13, tV x2 a2 c2), (8, 14, B b1 4), (9, 15, L ga0 p0.Kids gc1), (10, 16, .pointer (some ep3)), (11, 17, tV x3 a3 c3)]) c (fun b8 => ?_) fun hd3 => ?_
   refine qn [12, 13] ⟨qP [], qP [(0, 0)], qI 1, qL 1, qP [], qP [(0, 0)], qI 4, qL 4, qP [], qP [(0, 0)], qI 7, qL 7, tt⟩ ⟨fun _ _ c => ?_, fun _ _ c => ?_, tt⟩
   refine op_of _ rfl rfl ?_
   refine Eal tZ c fun b19 _ _ c => ?_
   refine E0 (nQ hd5 (b19, b8) (c.rk [0, 1, 3, 2] (rg 10)))
   refine op_of _ rfl rfl ?_
   refine Eal tZ c fun b20 _ _ c => ?_
   refine E0 (nQ hd6 (b20, b8) (c.rk [0, 1, 3, 2] (rg 10)))
   refine q0 (qs := [(0, 6, B b1 4), (1, 7, L ga0 p0.Kids gc1), (2, 8, .pointer (some ep1)), (3, 9, tV x1 a1 c1), (4, 10, B b1 4), (5, 11, L ga0 p0.Kids gc1), (6, 12, .pointer (some ep2)), (7, 13, tV x2 a2 c2), (8, 14, B b1 4), (9, 15, L ga0 p0.Kids gc1), (10, 16, .pointer (some ep3)), (11, 17, tV x3 a3 c3)]) c (qn [12, 13, 14] ⟨qP [], qP [(0, 0)], qI 1, qL 1, qP [], qP [(0, 0)], qI 4, qL 4, qP [], qP [(0, 0)], qI 7, qL 7, tt⟩ ⟨fun _ _ c => ?_, fun _ _ c => ?_, fun _ _ c => ?_, tt⟩)
   refine op_of _ rfl rfl ?_
   refine Eal tZ c fun b3 _ _ c => ?_
   refine E0 (nQ hd1 (b3) (c.rk [0, 1, 2] (rg 10)))
   refine op_of _ rfl rfl ?_
   refine Eal tZ c fun b5 _ _ c => ?_
   refine E0 (nQ hd2 (b5) (c.rk [0, 1, 2] (rg 10)))
   refine op_of _ rfl rfl ?_
   refine Eal tZ c fun b7 _ _ c => ?_
   refine E0 (nQ hd3 (b7) (c.rk [0, 1, 2] (rg 10)))
   obtain ⟨b36, b37, b38⟩ := i8
   refine S0 (wp_block (T0 (Fp [(0, 2)] 1 c fun _ c => Bd h fun x4 hx4 h => Cb c (impl_constIs_ok hx4) ⟨.f 3, tt⟩ Tryz.call127 fun _ _ _ c => ?_)))
   refine Fp [] 1 c fun _ c => E0 (I0 c h (fun h => ?_) fun h => ?_)
   refine T0 (Fp [(0, 3)] 1 c fun _ c => Ess 1 (tC x2 a2 c2) c fun _ c => ?_)
   refine E0 ?_
   obtain rfl := sj h
   exact wp_ret (br (tr (Rg c (a2, c2) [] [6] (.cell (α := Agg 4) kk (.b 1) .nil))))
   refine T0 (Fp [(0, 2)] 1 c fun _ c => Bd h fun x5 hx5 h => Cb c (impl_isConst_ok hx5) ⟨.f 3, tt⟩ Tryz.call163 fun _ _ _ c => ?_)
   refine Fp [] 1 c fun _ c => E0 (I0 c h (fun h => ?_) fun h => ?_)
   refine T0 (Fp [(0, 4)] 1 c fun _ c => Ess 1 (tC x3 a3 c3) c fun _ c => ?_)
   refine E0 ?_
   obtain rfl := sj h
   exact wp_ret (br (tr (Rg c (a3, c3) [] [9] (.cell (α := Agg 4) kk (.b 1) .nil))))
   refine T0 (Fp [(0, 3), (1, 4)] 2 c fun _ c => Bd h fun x6 hx6 h => Cb c (impl_sameTerm_ok hx6) ⟨.f 6, .f 9, tt⟩ Tryz.call173 fun _ _ _ c => ?_)
   refine Fp [] 1 c fun _ c => E0 (I0 c h (fun h => ?_) fun h => ?_)
   refine T0 (Fp [(0, 3)] 1 c fun _ c => Ess 1 (tC x2 a2 c2) c fun _ c => ?_)
   refine E0 ?_
   obtain rfl := sj h
   exact wp_ret (br (tr (Rg c (a2, c2) [] [6] (.cell (α := Agg 4) kk (.b 1) .nil))))
   refine P0 [(1, 2)] c fun _ c => I0 c h (fun h => ?_) fun h => ?_
   refine Bd h fun x7 hx7 h => ?_
   obtain ⟨ep4, u4, c⟩ := c.elp (.f 3) hx7
   obtain ⟨a4, c4, rfl, c⟩ := c.o_Term 11
   refine S0 (wp_ra mix (rM 9 [(4, .eq (.pointer (some ep4))), (5, .eq (tV x7 a4 c4)), (8, Pd.nw c.wd 8 (fun i : Oh => L i.1 [x7, x3, x2] i.2) (fun i => sl34 (L i.1 [x7, x3, x2] i.2) [(tR x7 a4 c4), (tR x3 a3 c3), (tR x2 a2 c2)]))] [(1, 0), (3, 2), (6, 4), (7, 3)] c (fun ow => ⟨np_tO ow (Nie c 10), np_tO ow (Nle c 10), Nlt c [(tR x7 a4 c4), (tR x3 a3 c3), (tR x2 a2 c2)], tt⟩) fun ow _ _ hE hc cq => ?_))
   obtain ⟨i9, hi9⟩ := hE.nw 8 43
   replace c := Cx.newt c hc cq [(8, 43, _, _)] ⟨hi9, tt⟩
   replace c := c.csl [(tR x7 a4 c4), (tR x3 a3 c3), (tR x2 a2 c2)] [x7, x3, x2] ⟨(Ava.mk_Term x7 (.f 12)), (Ava.mk_Term x3 (.f 9)), (Ava.mk_Term x2 (.f 6)), tt⟩
   replace c := c.gm [BX b1 34 (tC p0 ga0 gc1), BX b2 34 tZ, BX b36 34 (tC x1 a1 c1), BX b37 34 (tC x2 a2 c2), BX b38 34 (tC x3 a3 c3), sl34 (L i9.1 [x7, x3, x2] i9.2) [(tR x7 a4 c4), (tR x3 a3 c3), (tR x2 a2 c2)]]
   replace c := c.fzr 5 13
   refine Bd h fun x8 hx8 h => Cg c (ih0 hx8) ⟨.f 14, tt⟩ Tryz.call202 fun i10 _ _ c => ?_
   refine Ess 1 (tC x8 i10.1 i10.2) c fun _ c => ?_
   refine E0 ?_
   obtain rfl := sj h
   exact wp_ret (br (tr (Rg c (i10.1, i10.2) [] [15] (.cell (α := Agg 4) kk (.b 1) .nil))))
   refine Bd h fun x9 hx9 h => Bd h fun x10 hx10 h => S0 (rZ [(5, .eq (.bool x9)), (9, .eq (.bool x10))] [(1, 0), (4, 3), (8, 4)] mix c ⟨Ncl c (fun hg => impl_constIs_ok (iteT (gcT hg) hx9)) ⟨.f 6, tt⟩ Tryz.call127, Ncl c (fun hg => impl_constIs_ok (iteT (gcT hg) hx10)) ⟨.f 9, tt⟩ Tryz.call127, tt⟩ fun _ _ c => I0 c h (fun h => ?_) fun h => ?_)
   refine T0 (Fp [(0, 2)] 1 c fun _ c => Ess 1 (tC x1 a1 c1) c fun _ c => ?_)
   refine E0 ?_
   obtain rfl := sj h
   exact wp_ret (br (tr (Rg c (a1, c1) [] [3] (.cell (α := Agg 4) kk (.b 1) .nil))))
   refine Bd h fun x11 hx11 h => Bd h fun x12 hx12 h => S0 (rZ [(5, .eq (.bool x11)), (9, .eq (.bool x12))] [(1, 0), (4, 3), (8, 4)] mix c ⟨Ncl c (fun hg => impl_constIs_ok (iteT (gcT hg) hx11)) ⟨.f 6, tt⟩ Tryz.call127, Ncl c (fun hg => impl_constIs_ok (iteT (gcT hg) hx12)) ⟨.f 9, tt⟩ Tryz.call127, tt⟩ fun _ _ c => I0 c h (fun h => ?_) fun h => ?_)
   refine T0 (Fp [(0, 2)] 1 c fun _ c => Eltr 34 [(tR x1 a1 c1)] [x1] c ⟨(Ava.mk_Term x1 (.f 3)), tt⟩ fun a5 c5 _ _ c => ?_)
   replace c := c.gm [BX b1 34 (tC p0 ga0 gc1), BX b2 34 tZ, BX b36 34 (tC x1 a1 c1), BX b37 34 (tC x2 a2 c2), BX b38 34 (tC x3 a3 c3), sl34 (L a5 [x1] c5) [(tR x1 a1 c1)]]
   replace c := c.fzr 5 10
   refine Bd h fun x13 hx13 h => Cg c (ih0 hx13) ⟨.f 11, tt⟩ Tryz.call202 fun i11 _ _ c => ?_
   refine Ess 1 (tC x13 i11.1 i11.2) c fun _ c => ?_
   refine E0 ?_
   obtain rfl := sj h
   exact wp_ret (br (tr (Rg c (i11.1, i11.2) [] [12] (.cell (α := Agg 4) kk (.b 1) .nil))))
   refine K1 (bk (tn (T0 (Fp [(0, 0)] 1 c fun _ c => Ess 1 (tC p0 ga0 gc1) c fun _ c => ?_))))
   refine E0 ?_
   obtain rfl := sj h
   exact wp_ret (Rg c (ga0, gc1) [] [0] (.cell (α := Agg 4) kk (.b 1) .nil))
 · intro p0 ga0 gc1 r h
   rw [impl_reduceCut] at h
   refine En Tryz.func167 rfl Tryz.ntmps167 fun _ fr w c => ?_
   refine T0 (Ebx (tC p0 ga0 gc1) c fun b1 _ _ c => ?_)
   refine Eal tZ c fun b2 _ _ c => ?_
   refine E0 (T0 (Fp [(1, 0)] 2 c fun _ c => Bd h fun x1 hx1 h => Eem c (.f 0) hx1 fun _ u1 _ c => ?_))
   obtain ⟨a1, c1, rfl, c⟩ := c.o_Term 1
   refine Eal tZ c fun b3 _ _ c => ?_
   refine Ess 2 (tC x1 a1 c1) c fun _ c => ?_
   refine E0 (S0 (S0 (Ry [(1, 0), (5, 0), (7, 2)] mix c fun _ _ c => I0 c h (fun h => ?_) fun h => ?_)))
   refine T0 (Fp [(0, 2)] 1 c fun _ c => ?_)
   try simp only [l1, l2, l3, l4] at c
   refine Ess 1 (tC x1 a1 c1) c fun _ c => ?_
   refine E0 ?_
   obtain rfl := sj h
   exact wp_ret (tr (Rg c (a1, c1) [] [2] (.cell (α := Agg 4) kk (.b 1) .nil)))
   refine K0 (S0 (P0 [(1, 2)] c fun _ c => wp_block (P0 [] c fun _ c => I0 c h (fun h => ?_) fun h => ?_)))
   refine Bd h fun x2 hx2 h => ?_
   obtain ⟨ep1, u2, c⟩ := c.elp (.f 2) hx2
   obtain ⟨a2, c2, rfl, c⟩ := c.o_Term 4
   refine S0 (wp_ra mix (rM 12 [(9, .eq (.pointer (some ep1))), (10, .eq (tV x2 a2 c2)), (11, Pd.nw c.wd 11 (fun i : Oh => L i.1 [x2] i.2) (fun i => sl34 (L i.1 [x2] i.2) [(tR x2 a2 c2)]))] [(1, 0), (3, 0), (5, 2), (8, 2)] c (fun ow => ⟨np_tO ow (Nie c 3), np_tO ow (Nle c 3), Nlt c [(tR x2 a2 c2)], tt⟩) fun ow _ _ hE hc cq => ?_))
   obtain ⟨i1, hi1⟩ := hE.nw 11 35
   replace c := Cx.newt c hc cq [(11, 35, _, _)] ⟨hi1, tt⟩
   replace c := c.csl [(tR x2 a2 c2)] [x2] ⟨(Ava.mk_Term x2 (.f 5)), tt⟩
   try simp only [l1, l2, l3, l4] at c
   replace c := c.fzr 3 6
   refine Bd h fun x3 hx3 h => Cg c (ih0 hx3) ⟨.f 7, tt⟩ Tryz.call202 fun i2 _ _ c => ?_
   refine Ess 1 (tC x3 i2.1 i2.2) c fun _ c => ?_
   refine E0 ?_
   obtain rfl := sj h
   exact wp_ret (br (tr (Rg c (i2.1, i2.2) [] [8] (.cell (α := Agg 4) kk (.b 1) .nil))))
   refine P0 [] c fun _ c => I0 c h (fun h => ?_) fun h => ?_
   refine T0 (Fp [(1, 2)] 2 c fun _ c => ?_)
   replace c := c.gm [BX b1 34 (tC p0 ga0 gc1), BX b2 34 tZ, BX b3 34 (tC x1 a1 c1)]
   refine Bd h fun x4 hx4 h => Eem c (.f 2) hx4 fun _ u3 _ c => ?_
   obtain ⟨a3, c3, rfl, c⟩ := c.o_Term 3
   refine Eal tZ c fun b4 _ _ c => ?_
   refine Ess 3 (tC x4 a3 c3) c fun _ c => ?_
   refine E0 (S0 (P0 [(1, 0), (3, 0), (6, 3)] c fun _ c => I0 c h (fun h => ?_) fun h => ?_))
   refine T0 (Fp [(1, 0), (3, 0), (4, 3)] 5 c fun _ c => Eltr 34 [(tR x4 a3 c3)] [x4] c ⟨(Ava.mk_Term x4 (.f 4)), tt⟩ fun a4 c4 _ _ c => ?_)
   replace c := c.fzr 4 5
   refine Bd h fun x5 hx5 h => Cg c (ih0 hx5) ⟨.f 6, tt⟩ Tryz.call202 fun i3 _ _ c => ?_
   replace c := c.gm [BX b1 34 (tC p0 ga0 gc1), BX b2 34 tZ, BX b3 34 (tC x1 a1 c1), BX b4 34 (tC x4 a3 c3)]
   refine Ess 1 (tC x5 i3.1 i3.2) c fun _ c => ?_
   refine E0 ?_
   obtain rfl := sj h
   exact wp_ret (tr (br (tr (Rg c (i3.1, i3.2) [] [7] (.cell (α := Agg 4) kk (.b 1) .nil)))))
   refine K0 (P0 [(1, 0), (3, 3)] c fun _ c => I0 c h (fun h => ?_) fun h => ?_)
   refine Bd h fun x6 hx6 h => ?_
   obtain ⟨ep2, u4, c⟩ := c.elp (.f 2) hx6
   obtain ⟨a5, c5, rfl, c⟩ := c.o_Term 6
   refine S0 (wp_ra mix (rM 12 [(9, .eq (.pointer (some ep2))), (10, .eq (tV x6 a5 c5)), (11, Pd.nw c.wd 11 (fun i : Oh => L i.1 [x6] i.2) (fun i => sl34 (L i.1 [x6] i.2) [(tR x6 a5 c5)]))] [(1, 0), (3, 0), (5, 3), (8, 2)] c (fun ow => ⟨np_tO ow (Nie c 5), np_tO ow (Nle c 5), Nlt c [(tR x6 a5 c5)], tt⟩) fun ow _ _ hE hc cq => ?_))
   obtain ⟨i4, hi4⟩ := hE.nw 11 74
   replace c := Cx.newt c hc cq [(11, 74, _, _)] ⟨hi4, tt⟩
   replace c := c.csl [(tR x6 a5 c5)] [x6] ⟨(Ava.mk_Term x6 (.f 7)), tt⟩
   replace c := c.fzr 4 8
   refine Bd h fun x7 hx7 h => Cg c (ih0 hx7) ⟨.f 9, tt⟩ Tryz.call202 fun i5 _ _ c => ?_
   refine Ess 1 (tC x7 i5.1 i5.2) c fun _ c => ?_
   refine E0 ?_
   obtain rfl := sj h
   exact wp_ret (br (tr (Rg c (i5.1, i5.2) [] [10] (.cell (α := Agg 4) kk (.b 1) .nil))))
   refine K1 (bk (tn (T0 (Fp [(0, 0)] 1 c fun _ c => Ess 1 (tC p0 ga0 gc1) c fun _ c => ?_))))
   refine E0 ?_
   obtain rfl := sj h
   exact wp_ret (Rg c (ga0, gc1) [] [0] (.cell (α := Agg 4) kk (.b 1) .nil))
   refine S0 (P0 [] c fun _ c => Mp (x1.Op == 20) [(76, .bool (x1.Op == 20))] [(76, .bool (x1.Op == 21))] [(76, .bool ((x1.Op == 20) || (x1.Op == 21)))] [76, 78] c fun _ c => I0 c h (fun h => ?_) fun h => ?_)
   refine Bd h fun x8 hx8 h => ?_
   obtain ⟨ep3, u5, c⟩ := c.elp (.f 2) hx8
   obtain ⟨a6, c6, rfl, c⟩ := c.o_Term 4
   refine S0 (rZ [(7, .eq (.pointer (some ep3))), (9, .eq (I x8.W))] [(1, 0), (3, 0), (6, 2)] mix c ⟨Nie c 3, Nlc c 3 1, tt⟩ fun _ _ c => I0 c h (fun h => ?_) fun h => ?_)
   refine Bd h fun x9 hx9 h => ?_
   obtain ⟨ep4, u6, c⟩ := c.elp (.f 2) hx9
   obtain ⟨a7, c7, rfl, c⟩ := c.o_Term 7
   refine S0 (wp_ra mix (rM 9 [(6, .eq (.pointer (some ep4))), (7, .eq (tV x9 a7 c7)), (8, Pd.nw c.wd 8 (fun i : Oh => L i.1 [x9] i.2) (fun i => sl34 (L i.1 [x9] i.2) [(tR x9 a7 c7)]))] [(1, 0), (3, 0), (5, 2)] c (fun ow => ⟨np_tO ow (Nie c 6), np_tO ow (Nle c 6), Nlt c [(tR x9 a7 c7)], tt⟩) fun ow _ _ hE hc cq => ?_))
   obtain ⟨i6, hi6⟩ := hE.nw 8 98
   replace c := Cx.newt c hc cq [(8, 98, _, _)] ⟨hi6, tt⟩
   replace c := c.csl [(tR x9 a7 c7)] [x9] ⟨(Ava.mk_Term x9 (.f 8)), tt⟩
   replace c := c.gm [BX b1 34 (tC p0 ga0 gc1), BX b2 34 tZ, BX b3 34 (tC x1 a1 c1), sl34 (L i6.1 [x9] i6.2) [(tR x9 a7 c7)]]
   replace c := c.fzr 3 9
   refine Bd h fun x10 hx10 h => Cg c (ih0 hx10) ⟨.f 10, tt⟩ Tryz.call202 fun i7 _ _ c => ?_
   refine Ess 1 (tC x10 i7.1 i7.2) c fun _ c => ?_
   refine E0 ?_
   obtain rfl := sj h
   exact wp_ret (br (tr (Rg c (i7.1, i7.2) [] [11] (.cell (α := Agg 4) kk (.b 1) .nil))))
   refine K1 (bk (tn (T0 (Fp [(0, 0)] 1 c fun _ c => ?_))))
   replace c := c.gm [BX b1 34 (tC p0 ga0 gc1), BX b2 34 tZ, BX b3 34 (tC x1 a1 c1)]
   refine Ess 1 (tC p0 ga0 gc1) c fun _ c => ?_
   refine E0 ?_
   obtain rfl := sj h
   exact wp_ret (Rg c (ga0, gc1) [] [0] (.cell (α := Agg 4) kk (.b 1) .nil))
   refine K1 (bk (tn (T0 (Fp [(0, 0)] 1 c fun _ c => ?_))))
   replace c := c.gm [BX b1 34 (tC p0 ga0 gc1), BX b2 34 tZ, BX b3 34 (tC x1 a1 c1)]
   refine Ess 1 (tC p0 ga0 gc1) c fun _ c => ?_
   refine E0 ?_
   obtain rfl := sj h
   exact wp_ret (Rg c (ga0, gc1) [] [0] (.cell (α := Agg 4) kk (.b 1) .nil))
 · intro p0 ga0 gc1 r h
   rw [impl_reduceWiden] at h
   refine En Tryz.func168 rfl Tryz.ntmps168 fun _ fr w c => ?_
   refine T0 (Ebx (tC p0 ga0 gc1) c fun b1 _ _ c => ?_)
   refine Eal tZ c fun b2 _ _ c => ?_
   refine E0 (T0 (Fp [(1, 0)] 2 c fun _ c => Bd h fun x1 hx1 h => Eem c (.f 0) hx1 fun _ u1 _ c => ?_))
   obtain ⟨a1, c1, rfl, c⟩ := c.o_Term 1
   refine Eal tZ c fun b3 _ _ c => ?_
   refine Ess 2 (tC x1 a1 c1) c fun _ c => ?_
   refine E0 (S0 (P0 [(1, 0), (3, 2)] c fun _ c => I0 c h (fun h => ?_) fun h => ?_))
   refine T0 (Fp [(0, 2)] 1 c fun _ c => ?_)
   try simp only [l1, l2, l3, l4] at c
   refine Ess 1 (tC x1 a1 c1) c fun _ c => ?_
   refine E0 ?_
   obtain rfl := sj h
   exact wp_ret (tr (Rg c (a1, c1) [] [2] (.cell (α := Agg 4) kk (.b 1) .nil)))
   refine K0 (S0 (P0 [(1, 2), (3, 0)] c fun _ c => I0 c h (fun h => ?_) fun h => ?_))
   refine Bd h fun x2 hx2 h => ?_
   obtain ⟨ep1, u2, c⟩ := c.elp (.f 2) hx2
   obtain ⟨a2, c2, rfl, c⟩ := c.o_Term 4
   refine S0 (wp_ra mix (rM 9 [(6, .eq (.pointer (some ep1))), (7, .eq (tV x2 a2 c2)), (8, Pd.nw c.wd 8 (fun i : Oh => L i.1 [x2] i.2) (fun i => sl34 (L i.1 [x2] i.2) [(tR x2 a2 c2)]))] [(1, 0), (3, 0), (5, 2)] c (fun ow => ⟨np_tO ow (Nie c 3), np_tO ow (Nle c 3), Nlt c [(tR x2 a2 c2)], tt⟩) fun ow _ _ hE hc cq => ?_))
   obtain ⟨i1, hi1⟩ := hE.nw 8 27
   replace c := Cx.newt c hc cq [(8, 27, _, _)] ⟨hi1, tt⟩
   replace c := c.csl [(tR x2 a2 c2)] [x2] ⟨(Ava.mk_Term x2 (.f 5)), tt⟩
   try simp only [l1, l2, l3, l4] at c
   replace c := c.fzr 3 6
   refine Bd h fun x3 hx3 h => Cg c (ih0 hx3) ⟨.f 7, tt⟩ Tryz.call202 fun i2 _ _ c => ?_
   refine Ess 1 (tC x3 i2.1 i2.2) c fun _ c => ?_
   refine E0 ?_
   obtain rfl := sj h
   exact wp_ret (tr (Rg c (i2.1, i2.2) [] [8] (.cell (α := Agg 4) kk (.b 1) .nil)))
   refine K0 (T0 (Fp [(0, 0)] 1 c fun _ c => ?_))
   replace c := c.gm [BX b1 34 (tC p0 ga0 gc1), BX b2 34 tZ, BX b3 34 (tC x1 a1 c1)]
   refine Ess 1 (tC p0 ga0 gc1) c fun _ c => ?_
   refine E0 ?_
   obtain rfl := sj h
   exact wp_ret (Rg c (ga0, gc1) [] [0] (.cell (α := Agg 4) kk (.b 1) .nil))
 · intro p0 ga0 gc1 r h
   rw [impl_reduceJoin] at h
   refine En Tryz.func169 rfl Tryz.ntmps169 fun _ fr w c => ?_
   refine T0 (Ebx (tC p0 ga0 gc1) c fun b1 _ _ c => ?_)
   refine Eal tZ c fun b2 _ _ c => ?_
   refine E0 (Bd h fun x1 hx1 h => ?_)
   obtain ⟨ep1, u1, c⟩ := c.elp (.f 0) hx1
   obtain ⟨a1, c1, rfl, c⟩ := c.o_Term 2
   refine Bd h fun x2 hx2 h => ?_
   obtain ⟨ep2, u2, c⟩ := c.elp (.f 0) hx2
   obtain ⟨a2, c2, rfl, c⟩ := c.o_Term 5
   refine S0 (Jn (fun i : Nat × Nat => ([(1, B b1 0), (2, B b2 0), (3, B i.1 0), (4, B i.2 0)], fun Γ => Γ ++ [BX i.1 34 (tC x1 a1 c1), BX i.2 34 (tC x2 a2 c2)], [])) c ?_ fun i4 _ _ c => ?_)
   refine As mix c fun _ c => ?_
   replace c := Cx.frs [(1, B b1 0), (2, B b2 0)] c
   refine Dq (fun i : Nat × Nat => ([(1, B b1 0), (2, B b2 0), (3, B i.1 0), (4, B i.2 0)], fun Γ => Γ ++ [BX i.1 34 (tC x1 a1 c1), BX i.2 34 (tC x2 a2 c2)], [])) (bN 12 4095) (fun i => []) c (fun i3 => ?_) fun hd5 => ?_
   obtain ⟨b13, b14⟩ := i3
   refine qnE tt fun _ _ c => ?_
   exact nN (b13, b14) (c.rk (rg 4) (rg 7))
   refine Dq (fun i : Nat × Nat => ([(1, B b1 0), (2, B b2 0), (3, B i.1 0), (4, B i.2 0)], fun Γ => Γ ++ [BX i.1 34 (tC x1 a1 c1), BX i.2 34 tZ], [])) (bN 12 1807) (fun i => [(4, 9, B b1 4), (5, 10, L ga0 p0.Kids gc1), (6, 11, .pointer (some ep2)), (7, 12, tV x2 a2 c2)]) c (fun i2 => ?_) fun hd4 => ?_
   obtain ⟨b11, b12⟩ := i2
   refine qn [11] ⟨qP [], qP [(0, 0)], qI 4, qL 4, tt⟩ ⟨fun _ _ c => ?_, tt⟩
   refine op_of _ rfl rfl ?_
   refine Ess 3 (tC x2 a2 c2) c fun _ c => ?_
   refine E0 (nQ hd5 (b11, b12) (c.rk (rg 4) (rg 7)))
   refine Dq (fun i : Nat × Nat => ([(1, B b1 0), (2, B b2 0), (3, B i.1 0), (4, B i.2 0)], fun Γ => Γ ++ [BX i.1 34 tZ, BX i.2 34 tZ], [])) (bN 12 768) (fun i => [(0, 5, B b1 4), (1, 6, L ga0 p0.Kids gc1), (2, 7, .pointer (some ep1)), (3, 8, tV x1 a1 c1), (4, 9, B b1 4), (5, 10, L ga0 p0.Kids gc1), (6, 11, .pointer (some ep2)), (7, 12, tV x2 a2 c2)]) c (fun i1 => ?_) fun hd3 => ?_
   obtain ⟨b8, b9⟩ := i1
   refine qn [10] ⟨qP [], qP [(0, 0)], qI 1, qL 1, qP [], qP [(0, 0)], qI 4, qL 4, tt⟩ ⟨fun _ _ c => ?_, tt⟩
   refine op_of _ rfl rfl ?_
   refine Ess 2 (tC x1 a1 c1) c fun _ c => ?_
   refine E0 (nQ hd4 (b8, b9) (c.rk (rg 4) (rg 7)))
   refine Dq (fun i : Nat => ([(1, B b1 0), (2, B b2 0), (3, B i 0)], fun Γ => Γ ++ [BX i 34 tZ], [])) (bN 12 256) (fun i => [(0, 5, B b1 4), (1, 6, L ga0 p0.Kids gc1), (2, 7, .pointer (some ep1)), (3, 8, tV x1 a1 c1), (4, 9, B b1 4), (5, 10, L ga0 p0.Kids gc1), (6, 11, .pointer (some ep2)), (7, 12, tV x2 a2 c2)]) c (fun b4 => ?_) fun hd1 => ?_
   refine qn [9] ⟨qP [], qP [(0, 0)], qI 1, qL 1, qP [], qP [(0, 0)], qI 4, qL 4, tt⟩ ⟨fun _ _ c => ?_, tt⟩
   refine op_of _ rfl rfl ?_
   refine Eal tZ c fun b7 _ _ c => ?_
   refine E0 (nQ hd3 (b4, b7) (c.rk (rg 4) (rg 7)))
   refine Dq (fun i : Nat => ([(1, B b1 0), (2, B b2 0), (4, B i 0)], fun Γ => Γ ++ [BX i 34 tZ], [])) (bN 12 512) (fun i => [(0, 5, B b1 4), (1, 6, L ga0 p0.Kids gc1), (2, 7, .pointer (some ep1)), (3, 8, tV x1 a1 c1), (4, 9, B b1 4), (5, 10, L ga0 p0.Kids gc1), (6, 11, .pointer (some ep2)), (7, 12, tV x2 a2 c2)]) c (fun b6 => ?_) fun hd2 => ?_
   refine qn [8] ⟨qP [], qP [(0, 0)], qI 1, qL 1, qP [], qP [(0, 0)], qI 4, qL 4, tt⟩ ⟨fun _ _ c => ?_, tt⟩
   refine op_of _ rfl rfl ?_
   refine Eal tZ c fun b10 _ _ c => ?_
   refine E0 (nQ hd3 (b10, b6) (c.rk [0, 1, 3, 2] (rg 7)))
   refine q0 (qs := [(0, 5, B b1 4), (1, 6, L ga0 p0.Kids gc1), (2, 7, .pointer (some ep1)), (3, 8, tV x1 a1 c1), (4, 9, B b1 4), (5, 10, L ga0 p0.Kids gc1), (6, 11, .pointer (some ep2)), (7, 12, tV x2 a2 c2)]) c (qn [8, 9] ⟨qP [], qP [(0, 0)], qI 1, qL 1, qP [], qP [(0, 0)], qI 4, qL 4, tt⟩ ⟨fun _ _ c => ?_, fun _ _ c => ?_, tt⟩)
   refine op_of _ rfl rfl ?_
   refine Eal tZ c fun b3 _ _ c => ?_
   refine E0 (nQ hd1 (b3) (c.rk [0, 1, 2] (rg 7)))
   refine op_of _ rfl rfl ?_
   refine Eal tZ c fun b5 _ _ c => ?_
   refine E0 (nQ hd2 (b5) (c.rk [0, 1, 2] (rg 7)))
   obtain ⟨b15, b16⟩ := i4
   refine S0 (Bd h fun x3 hx3 h => Bd h fun x4 hx4 h => Bd h fun x5 hx5 h => S0 (rZ [(21, Pd.el (x3 : D.Term)), (22, Pd.rd (x3 : D.Term)), (25, Pd.el (x4 : D.Term)), (26, Pd.rd (x4 : D.Term)), (27, .eq (.bool x5))] [(1, 2), (5, 3), (10, 2), (12, 3), (14, 3), (20, 2), (24, 3)] mix c ⟨Nid c (.f 3) (gT hx3), Nrd c 21 (atN 21), Nid c (.f 6) (gT hx4), Nrd c 25 (atN 25), Ncd (Ψ := []) [.r 22 (fun v => RO v (x3 : D.Term)), .r 26 (fun v => RO v (x4 : D.Term))] c ⟨(atN 22), (atN 26), tt⟩ tt (fun hg _ _ ga gp => by obtain ⟨u1, _, rfl, g1, u2, _, rfl, g2, rfl⟩ := ga; obtain ⟨k1, rfl, f1⟩ := Opn.opn g1; obtain ⟨k2, rfl, f2⟩ := Opn.opn g2; exact ⟨_, (f1.join f2), impl_sameTerm_ok (iteT (gcT hg) hx5)⟩) Tryz.call173, tt⟩ fun _ _ c => I0 c h (fun h => ?_) fun h => ?_))
   refine Bd h fun x6 hx6 h => ?_
   obtain ⟨ep3, u3, c⟩ := c.elp (.f 6) hx6
   obtain ⟨a3, c3, rfl, c⟩ := c.o_Term 8
   refine S0 (wp_ra mix (rM 9 [(6, .eq (.pointer (some ep3))), (7, .eq (tV x6 a3 c3)), (8, Pd.nw c.wd 8 (fun i : Oh => L i.1 [x6] i.2) (fun i => sl34 (L i.1 [x6] i.2) [(tR x6 a3 c3)]))] [(1, 0), (3, 3), (5, 3)] c (fun ow => ⟨np_tO ow (Nie c 7), np_tO ow (Nle c 7), Nlt c [(tR x6 a3 c3)], tt⟩) fun ow _ _ hE hc cq => ?_))
   obtain ⟨i5, hi5⟩ := hE.nw 8 50
   replace c := Cx.newt c hc cq [(8, 50, _, _)] ⟨hi5, tt⟩
   replace c := c.csl [(tR x6 a3 c3)] [x6] ⟨(Ava.mk_Term x6 (.f 9)), tt⟩
   replace c := c.fzr 4 10
   refine Bd h fun x7 hx7 h => Cg c (ih0 hx7) ⟨.f 11, tt⟩ Tryz.call202 fun i6 _ _ c => ?_
   refine Ess 1 (tC x7 i6.1 i6.2) c fun _ c => ?_
   refine E0 ?_
   obtain rfl := sj h
   exact wp_ret (tr (Rg c (i6.1, i6.2) [] [12] (.cell (α := Agg 4) kk (.b 1) .nil)))
   refine K0 (T0 (Fp [(0, 0)] 1 c fun _ c => Ess 1 (tC p0 ga0 gc1) c fun _ c => ?_))
   refine E0 ?_
   obtain rfl := sj h
   exact wp_ret (Rg c (ga0, gc1) [] [0] (.cell (α := Agg 4) kk (.b 1) .nil))
 · intro p0 ga0 gc1 r h
   rw [impl_reduceBinary] at h
   refine En Tryz.func170 rfl Tryz.ntmps170 fun _ fr w c => ?_
   refine T0 (Ebx (tC p0 ga0 gc1) c fun b1 _ _ c => ?_)
   refine Eal tZ c fun b2 _ _ c => ?_
   refine E0 (Bd h fun x1 hx1 h => ?_)
   obtain ⟨ep1, u1, c⟩ := c.elp (.f 0) hx1
   obtain ⟨a1, c1, rfl, c⟩ := c.o_Term 2
   refine Bd h fun x2 hx2 h => ?_
   obtain ⟨ep2, u2, c⟩ := c.elp (.f 0) hx2
   obtain ⟨a2, c2, rfl, c⟩ := c.o_Term 5
   refine S0 (Jn (fun i : Nat × Nat => ([(1, B b1 0), (2, B b2 0), (3, B i.1 0), (4, B i.2 0)], fun Γ => Γ ++ [BX i.1 34 (tC x1 a1 c1), BX i.2 34 (tC x2 a2 c2)], [])) c ?_ fun i4 _ _ c => ?_)
   refine As mix c fun _ c => ?_
   replace c := Cx.frs [(1, B b1 0), (2, B b2 0)] c
   refine Dq (fun i : Nat × Nat => ([(1, B b1 0), (2, B b2 0), (3, B i.1 0), (4, B i.2 0)], fun Γ => Γ ++ [BX i.1 34 (tC x1 a1 c1), BX i.2 34 (tC x2 a2 c2)], [])) (bN 12 4095) (fun i => []) c (fun i3 => ?_) fun hd5 => ?_
   obtain ⟨b13, b14⟩ := i3
   refine qnE tt fun _ _ c => ?_
   exact nN (b13, b14) (c.rk (rg 4) (rg 7))
   refine Dq (fun i : Nat × Nat => ([(1, B b1 0), (2, B b2 0), (3, B i.1 0), (4, B i.2 0)], fun Γ => Γ ++ [BX i.1 34 (tC x1 a1 c1), BX i.2 34 tZ], [])) (bN 12 1807) (fun i => [(4, 12, B b1 4), (5, 13, L ga0 p0.Kids gc1), (6, 14, .pointer (some ep2)), (7, 15, tV x2 a2 c2)]) c (fun i2 => ?_) fun hd4 => ?_
   obtain ⟨b11, b12⟩ := i2
   refine qn [11] ⟨qP [], qP [(0, 0)], qI 4, qL 4, tt⟩ ⟨fun _ _ c => ?_, tt⟩
   refine op_of _ rfl rfl ?_
   refine Ess 3 (tC x2 a2 c2) c fun _ c => ?_
   refine E0 (nQ hd5 (b11, b12) (c.rk (rg 4) (rg 7)))
   refine Dq (fun i : Nat × Nat => ([(1, B b1 0), (2, B b2 0), (3, B i.1 0), (4, B i.2 0)], fun Γ => Γ ++ [BX i.1 34 tZ, BX i.2 34 tZ], [])) (bN 12 768) (fun i => [(0, 8, B b1 4), (1, 9, L ga0 p0.Kids gc1), (2, 10, .pointer (some ep1)), (3, 11, tV x1 a1 c1), (4, 12, B b1 4), (5, 13, L ga0 p0.Kids gc1), (6, 14, .pointer (some ep2)), (7, 15, tV x2 a2 c2)]) c (fun i1 => ?_) fun hd3 => ?_
   obtain ⟨b8, b9⟩ := i1
   refine qn [10] ⟨qP [], qP [(0, 0)], qI 1, qL 1, qP [], qP [(0, 0)], qI 4, qL 4, tt⟩ ⟨fun _ _ c => ?_, tt⟩
   refine op_of _ rfl rfl ?_
   refine Ess 2 (tC x1 a1 c1) c fun _ c => ?_
   refine E0 (nQ hd4 (b8, b9) (c.rk (rg 4) (rg 7)))
   refine Dq (fun i : Nat => ([(1, B b1 0), (2, B b2 0), (3, B i 0)], fun Γ => Γ ++ [BX i 34 tZ], [])) (bN 12 256) (fun i => [(0, 8, B b1 4), (1, 9, L ga0 p0.Kids gc1), (2, 10, .pointer (some ep1)), (3, 11, tV x1 a1 c1), (4, 12, B b1 4), (5, 13, L ga0 p0.Kids gc1), (6, 14, .pointer (some ep2)), (7, 15, tV x2 a2 c2)]) c (fun b4 => ?_) fun hd1 => ?_
   refine qn [9] ⟨qP [], qP [(0, 0)], qI 1, qL 1, qP [], qP [(0, 0)], qI 4, qL 4, tt⟩ ⟨fun _ _ c => ?_, tt⟩
   refine op_of _ rfl rfl ?_
   refine Eal tZ c fun b7 _ _ c => ?_
   refine E0 (nQ hd3 (b4, b7) (c.rk (rg 4) (rg 7)))
   refine Dq (fun i : Nat => ([(1, B b1 0), (2, B b2 0), (4, B i 0)], fun Γ => Γ ++ [BX i 34 tZ], [])) (bN 12 512) (fun i => [(0, 8, B b1 4), (1, 9, L ga0 p0.Kids gc1), (2, 10, .pointer (some ep1)), (3, 11, tV x1 a1 c1), (4, 12, B b1 4), (5, 13, L ga0 p0.Kids gc1), (6, 14, .pointer (some ep2)), (7, 15, tV x2 a2 c2)]) c (fun b6 => ?_) fun hd2 => ?_
   refine qn [8] ⟨qP [], qP [(0, 0)], qI 1, qL 1, qP [], qP [(0, 0)], qI 4, qL 4, tt⟩ ⟨fun _ _ c => ?_, tt⟩
   refine op_of _ rfl rfl ?_
   refine Eal tZ c fun b10 _ _ c => ?_
   refine E0 (nQ hd3 (b10, b6) (c.rk [0, 1, 3, 2] (rg 7)))
   refine q0 (qs := [(0, 8, B b1 4), (1, 9, L ga0 p0.Kids gc1), (2, 10, .pointer (some ep1)), (3, 11, tV x1 a1 c1), (4, 12, B b1 4), (5, 13, L ga0 p0.Kids gc1), (6, 14, .pointer (some ep2)), (7, 15, tV x2 a2 c2)]) c (qn [8, 9] ⟨qP [], qP [(0, 0)], qI 1, qL 1, qP [], qP [(0, 0)], qI 4, qL 4, tt⟩ ⟨fun _ _ c => ?_, fun _ _ c => ?_, tt⟩)
   refine op_of _ rfl rfl ?_
   refine Eal tZ c fun b3 _ _ c => ?_
   refine E0 (nQ hd1 (b3) (c.rk [0, 1, 2] (rg 7)))
   refine op_of _ rfl rfl ?_
   refine Eal tZ c fun b5 _ _ c => ?_
   refine E0 (nQ hd2 (b5) (c.rk [0, 1, 2] (rg 7)))
   obtain ⟨b15, b16⟩ := i4
   refine S0 (Bd h fun x3 hx3 h => Bd h fun x4 hx4 h => S0 (rZ [(2, .eq (.bool x3)), (6, .eq (I x4))] [(1, 0), (4, 2), (5, 3)] mix c ⟨Ncl c (kN (impl_swapsKids_ok hx3)) tt Tryz.call203, Ncl c (fun hg => impl_CompareTerms_ok (iteT (gcT hg) hx4)) ⟨.f 3, .f 6, tt⟩ Tryz.call204, tt⟩ fun _ _ c => I0 c h (fun h => ?_) fun h => ?_))
   refine T0 (Fp [(1, 0), (3, 0), (4, 3), (5, 2)] 6 c fun _ c => Eltr 34 [(tR x2 a2 c2), (tR x1 a1 c1)] [x2, x1] c ⟨(Ava.mk_Term x2 (.f 6)), (Ava.mk_Term x1 (.f 3)), tt⟩ fun a3 c3 _ _ c => ?_)
   replace c := c.fzr 4 7
   refine Bd h fun x5 hx5 h => Cg c (ih0 hx5) ⟨.f 8, tt⟩ Tryz.call202 fun i5 _ _ c => ?_
   refine Ess 1 (tC x5 i5.1 i5.2) c fun _ c => ?_
   refine E0 ?_
   obtain rfl := sj h
   exact wp_ret (tr (Rg c (i5.1, i5.2) [] [9] (.cell (α := Agg 4) kk (.b 1) .nil)))
   refine K0 (S0 (T0 (Fp [(0, 2)] 1 c fun _ c => Bd h fun x6 hx6 h => Cb c (impl_isConst_ok hx6) ⟨.f 3, tt⟩ Tryz.call163 fun _ _ _ c => ?_)))
   refine E0 (Bd h fun rl1 hit1 h => ?_)
   have hk1 := h
   refine Jr (fun s  (_ : Unit) => ([(1, B b1 0), (2, B b2 0), (3, B b15 0), (4, B b16 0)], id, [])) hit1 c (fun h => ?_) fun s1r _ _ _ hrl c => ?_
   refine I0 c h (fun h => ?_) fun h => ?_
   refine T0 (Fp [(1, 0), (3, 0), (4, 2), (5, 3)] 6 c fun _ c => Bd h fun x7 hx7 h => Cg c (ih7 hx7) ⟨.f 3, .f 6, tt⟩ Tryz.call205 fun i6 _ _ c => ?_)
   refine Fp [] 3 c fun _ c => Eal tZ c fun b17 _ _ c => ?_
   refine Ess 4 (tC x7.1 i6.1 i6.2) c fun _ c => ?_
   refine Fp [] 1 c fun _ c => E0 (P0 [] c fun _ c => I0 c h (fun h => ?_) fun h => ?_)
   refine T0 (Fp [(0, 4)] 1 c fun _ c => Ess 1 (tC x7.1 i6.1 i6.2) c fun _ c => ?_)
   refine E0 ?_
   obtain rfl := sj h
   obtain rfl := sj hk1
   exact wp_ret (tr (Rg c (i6.1, i6.2) [] [7] (.cell (α := Agg 4) kk (.b 1) .nil)))
   refine K0 (⟨_, (), (sk h), c.rk (rg 4) (rg 7)⟩)
   refine K0 (⟨_, (), (sk h), c.rk (rg 4) (rg 7)⟩)
   subst hrl
   refine S0 (T0 (Fp [(0, 3)] 1 c fun _ c => Bd h fun x8 hx8 h => Cb c (impl_constIs_ok hx8) ⟨.f 6, tt⟩ Tryz.call127 fun _ _ _ c => ?_))
   refine E0 (Bd h fun rl2 hit2 h => ?_)
   have hk2 := h
   refine Jr (fun s  (_ : Unit) => ([(1, B b1 0), (2, B b2 0), (3, B b15 0), (4, B b16 0)], id, [])) hit2 c (fun h => ?_) fun s2r _ _ _ hrl c => ?_
   refine I0 c h (fun h => ?_) fun h => ?_
   refine P0 [(1, 0)] c fun _ c => wp_block (S0 (P0 [] c fun _ c => Bd h fun rl3 hit3 h => ?_))
   have hk3 := h
   refine Jr (fun s  (_ : Unit) => ([(1, B b1 0), (2, B b2 0), (3, B b15 0), (4, B b16 0), (50, I p0.Op), (51, .bool s)], id, [])) hit3 c (fun h => ?_) fun s3r _ _ _ hrl c => ?_
   refine I0 c h (fun h => ?_) fun h => ?_
   refine K0 (⟨_, (), (sk h), c.rk (rg 4) (rg 7)⟩)
   refine P0 [] c fun _ c => I0 c h (fun h => ?_) fun h => ?_
   refine K0 (⟨_, (), (sk h), c.rk (rg 4) (rg 7)⟩)
   refine P0 [] c fun _ c => Mp (p0.Op == 12) [(51, .bool (p0.Op == 12))] [(51, .bool (p0.Op == 13))] [(51, .bool ((p0.Op == 12) || (p0.Op == 13)))] [51, 55] c fun _ c => ⟨_, (), (sk h), c.rk (rg 4) (rg 7)⟩
   subst hrl
   refine I0 c h (fun h => ?_) fun h => ?_
   refine T0 (Fp [(0, 2)] 1 c fun _ c => Ess 1 (tC x1 a1 c1) c fun _ c => ?_)
   refine E0 ?_
   obtain rfl := sj h
   obtain rfl := sj hk2
   exact wp_ret (br (tr (Rg c (a1, c1) [] [3] (.cell (α := Agg 4) kk (.b 1) .nil))))
   refine P0 [] c fun _ c => I0 c h (fun h => ?_) fun h => ?_
   refine T0 (Bd h fun x9 hx9 h => Cb c (impl_ConstTerm_ok hx9) tt Tryz.call117 fun _ _ _ c => ?_)
   refine Ess 1 [I x9.Op, I x9.W, I x9.N, Str.val x9.Name, L none ([] : List D.Term) 0] c fun _ c => ?_
   refine E0 ?_
   obtain rfl := sj h
   obtain rfl := sj hk2
   replace c := c.nilf (α := D.Term)
   exact wp_ret (br (tr (Rg c (none, 0) [] [7] (.cell (α := Agg 4) kk (.b 1) .nil))))
   refine K1 (bk (tn (⟨_, (), (sk h), c.rk (rg 4) (rg 7)⟩)))
   refine K0 (⟨_, (), (sk h), c.rk (rg 4) (rg 7)⟩)
   subst hrl
   refine S0 (T0 (Fp [(0, 2), (1, 3)] 2 c fun _ c => Bd h fun x10 hx10 h => Cb c (impl_sameTerm_ok hx10) ⟨.f 3, .f 6, tt⟩ Tryz.call173 fun _ _ _ c => ?_))
   refine E0 (Bd h fun rl4 hit4 h => ?_)
   have hk4 := h
   refine Jr (fun s  (_ : Unit) => ([(1, B b1 0), (2, B b2 0), (3, B b15 0), (4, B b16 0)], id, [])) hit4 c (fun h => ?_) fun s4r _ _ _ hrl c => ?_
   refine I0 c h (fun h => ?_) fun h => ?_
   refine P0 [(1, 0)] c fun _ c => wp_block (S0 (P0 [] c fun _ c => Mp (p0.Op == 8) [(65, .bool (p0.Op == 8))] [(65, .bool (p0.Op == 9))] [(65, .bool ((p0.Op == 8) || (p0.Op == 9)))] [65, 67] c fun _ c => I0 c h (fun h => ?_) fun h => ?_))
   refine T0 (Fp [(0, 2)] 1 c fun _ c => Ess 1 (tC x1 a1 c1) c fun _ c => ?_)
   refine E0 ?_
   obtain rfl := sj h
   obtain rfl := sj hk4
   exact wp_ret (br (tr (Rg c (a1, c1) [] [3] (.cell (α := Agg 4) kk (.b 1) .nil))))
   refine S0 (P0 [] c fun _ c => Bd h fun rl5 hit5 h => ?_)
   have hk5 := h
   refine Jr (fun s  (_ : Unit) => ([(1, B b1 0), (2, B b2 0), (3, B b15 0), (4, B b16 0), (64, I p0.Op), (69, .bool s)], id, [])) hit5 c (fun h => ?_) fun s5r _ _ _ hrl c => ?_
   refine I0 c h (fun h => ?_) fun h => ?_
   refine K0 (⟨_, (), (sk h), c.rk (rg 4) (rg 7)⟩)
   refine P0 [] c fun _ c => I0 c h (fun h => ?_) fun h => ?_
   refine K0 (⟨_, (), (sk h), c.rk (rg 4) (rg 7)⟩)
   refine P0 [] c fun _ c => Mp (p0.Op == 15) [(69, .bool (p0.Op == 15))] [(69, .bool (p0.Op == 16))] [(69, .bool ((p0.Op == 15) || (p0.Op == 16)))] [69, 73] c fun _ c => ⟨_, (), (sk h), c.rk (rg 4) (rg 7)⟩
   subst hrl
   refine I0 c h (fun h => ?_) fun h => ?_
   refine T0 (Fp [(1, 0)] 2 c fun _ c => Bd h fun x11 hx11 h => Cb c (impl_ConstTerm_ok hx11) tt Tryz.call117 fun _ _ _ c => ?_)
   refine Ess 1 [I x11.Op, I x11.W, I x11.N, Str.val x11.Name, L none ([] : List D.Term) 0] c fun _ c => ?_
   refine E0 ?_
   obtain rfl := sj h
   obtain rfl := sj hk4
   replace c := c.nilf (α := D.Term)
   exact wp_ret (br (tr (Rg c (none, 0) [] [7] (.cell (α := Agg 4) kk (.b 1) .nil))))
   refine P0 [] c fun _ c => I0 c h (fun h => ?_) fun h => ?_
   refine T0 (Bd h fun x12 hx12 h => Cb c (impl_ConstTerm_ok hx12) tt Tryz.call117 fun _ _ _ c => ?_)
   refine Ess 1 [I x12.Op, I x12.W, I x12.N, Str.val x12.Name, L none ([] : List D.Term) 0] c fun _ c => ?_
   refine E0 ?_
   obtain rfl := sj h
   obtain rfl := sj hk4
   replace c := c.nilf (α := D.Term)
   exact wp_ret (br (tr (Rg c (none, 0) [] [7] (.cell (α := Agg 4) kk (.b 1) .nil))))
   refine K1 (bk (tn (⟨_, (), (sk h), c.rk (rg 4) (rg 7)⟩)))
   refine K0 (⟨_, (), (sk h), c.rk (rg 4) (rg 7)⟩)
   subst hrl
   refine S0 (Bd h fun x13 hx13 h => Bd h fun x14 hx14 h => Bd h fun x15 hx15 h => Bd h fun x16 hx16 h => S0 (rZ [(2, .eq (.bool x13)), (10, .eq (.bool x14)), (22, Pd.el (x15 : D.Term)), (23, Pd.rd (x15 : D.Term)), (24, .eq (.bool x16))] [(1, 0), (5, 0), (9, 2), (14, 3), (16, 0), (21, 3)] mix c ⟨Ncl c (kN (impl_swapsKids_ok hx13)) tt Tryz.call203, Ncl c (fun hg => impl_isConst_ok (iteT (gcT hg) hx14)) ⟨.f 3, tt⟩ Tryz.call163, Nid c (.f 6) (gT hx15), Nrd c 22 (atN 22), Ncd (Ψ := []) [.r 23 (fun v => RO v (x15 : D.Term))] c ⟨(atN 23), tt⟩ tt (fun hg _ _ ga gp => by obtain ⟨u1, _, rfl, g1, rfl⟩ := ga; obtain ⟨k1, rfl, f1⟩ := Opn.opn g1; exact ⟨_, f1, impl_isConst_ok (iteT (gcT hg) hx16)⟩) Tryz.call163, tt⟩ fun _ _ c => I0 c h (fun h => ?_) fun h => ?_))
   refine Bd h fun x17 hx17 h => ?_
   obtain ⟨ep3, u3, c⟩ := c.elp (.f 6) hx17
   obtain ⟨a4, c4, rfl, c⟩ := c.o_Term 8
   refine Bd h fun x18 hx18 h => S0 (rZ [(8, .eq (.pointer (some ep3))), (10, .eq (I x17.N)), (11, .eq (I x18))] [(1, 0), (3, 0), (5, 2), (7, 3)] mix c ⟨Nie c 7, Nlc c 7 2, Ncl c (kN (impl_ApplyBinary_ok hx18)) tt Tryz.call201, tt⟩ fun _ _ c => Bd h fun x19 hx19 h => Bd h fun x20 hx20 h => ?_)
   obtain ⟨ep4, u4, c⟩ := c.elp (.f 6) hx20
   obtain ⟨a5, c5, rfl, c⟩ := c.o_Term 11
   refine S0 (wp_ra mix (rM 13 [(7, .eq (.agg #[I x19.Op, I x19.W, I x19.N, Str.val x19.Name, L none ([] : List D.Term) 0])), (10, .eq (.pointer (some ep4))), (11, .eq (tV x20 a5 c5)), (12, Pd.nw c.wd 12 (fun i : Oh => L i.1 [(D.Term.mk x19.Op x19.W x19.N x19.Name ([] : List D.Term)), x20] i.2) (fun i => sl34 (L i.1 [(D.Term.mk x19.Op x19.W x19.N x19.Name ([] : List D.Term)), x20] i.2) [(Rw.Term.mk x19.Op x19.W x19.N x19.Name ⟨none, List.length ([] : List D.Term), 0⟩), (tR x20 a5 c5)]))] [(1, 0), (3, 0), (5, 0), (9, 3)] c (fun ow => ⟨np_tO ow (Ncl c (kN (impl_ConstTerm_ok hx19)) tt Tryz.call117), np_tO ow (Nie c 10), np_tO ow (Nle c 10), Nlt c [(Rw.Term.mk x19.Op x19.W x19.N x19.Name ⟨none, List.length ([] : List D.Term), 0⟩), (tR x20 a5 c5)], tt⟩) fun ow _ _ hE hc cq => ?_))
   obtain ⟨i7, hi7⟩ := hE.nw 12 130
   replace c := Cx.newt c hc cq [(12, 130, _, _)] ⟨hi7, tt⟩
   replace c := c.csl [(Rw.Term.mk x19.Op x19.W x19.N x19.Name ⟨none, List.length ([] : List D.Term), 0⟩), (tR x20 a5 c5)] [(D.Term.mk x19.Op x19.W x19.N x19.Name ([] : List D.Term)), x20] ⟨(Ava.mk_Term (D.Term.mk x19.Op x19.W x19.N x19.Name ([] : List D.Term)) (.nil)), (Ava.mk_Term x20 (.f 12)), tt⟩
   replace c := c.fzr 4 13
   refine Bd h fun x21 hx21 h => Cg c (ih0 hx21) ⟨.f 14, tt⟩ Tryz.call202 fun i8 _ _ c => ?_
   refine Ess 1 (tC x21 i8.1 i8.2) c fun _ c => ?_
   refine E0 ?_
   obtain rfl := sj h
   exact wp_ret (tr (Rg c (i8.1, i8.2) [] [15] (.cell (α := Agg 4) kk (.b 1) .nil)))
   refine K0 (T0 (Fp [(0, 0)] 1 c fun _ c => Ess 1 (tC p0 ga0 gc1) c fun _ c => ?_))
   refine E0 ?_
   obtain rfl := sj h
   exact wp_ret (Rg c (ga0, gc1) [] [0] (.cell (α := Agg 4) kk (.b 1) .nil))
 · intro p0 p1 p2 p3 ga0 gc1 ga2 gc3 r h
   rw [impl_reduceFirst] at h
   refine En Tryz.func205 rfl Tryz.ntmps205 fun _ fr w c => ?_
   refine T0 (Ebx (tC p2 ga0 gc1) c fun b1 _ _ c => ?_)
   refine Ebx (tC p3 ga2 gc3) c fun b2 _ _ c => ?_
   refine Eal tZ c fun b3 _ _ c => ?_
   refine Fp [] 1 c fun _ c => E0 (T0 (Fp [(1, 0)] 2 c fun _ c => Bd h fun x1 hx1 h => Cb c (impl_onesOf_ok hx1) tt Tryz.call221 fun _ _ _ c => ?_))
   refine Fp [] 1 c fun _ c => E0 (S0 (wp_block (S0 (S0 (Ry [(4, 0)] mix c fun _ _ c => Bd h fun rl1 hit1 h => ?_)))))
   have hk1 := h
   refine Jr (fun s  (_ : Unit) => ([(0, I p0), (1, I p1), (6, B b1 0), (7, B b2 0), (8, B b3 0), (10, I x1), (14, .bool s)], id, [])) hit1 c (fun h => ?_) fun s1r _ _ _ hrl c => ?_
   refine I0 c h (fun h => ?_) fun h => ?_
   refine K0 (⟨_, (), (sk h), c.rk [0, 1, 2] [0, 1]⟩)
   refine S0 (Ry [(4, 0)] mix c fun _ _ c => I0 c h (fun h => ?_) fun h => ?_)
   refine K0 (⟨_, (), (sk h), c.rk [0, 1, 2] [0, 1]⟩)
   refine S0 (Ry [(4, 0)] mix c fun _ _ c => I0 c h (fun h => ?_) fun h => ?_)
   refine K0 (⟨_, (), (sk h), c.rk [0, 1, 2] [0, 1]⟩)
   refine S0 (Ry [(4, 0)] mix c fun _ _ c => I0 c h (fun h => ?_) fun h => ?_)
   refine K0 (⟨_, (), (sk h), c.rk [0, 1, 2] [0, 1]⟩)
   refine S0 (Ry [(4, 0)] mix c fun _ _ c => I0 c h (fun h => ?_) fun h => ?_)
   refine K0 (⟨_, (), (sk h), c.rk [0, 1, 2] [0, 1]⟩)
   refine Ry [(4, 0), (9, 0)] mix c fun _ _ c => ?_
   exact ⟨_, (), (sk h), c.rk [0, 1, 2] [0, 1]⟩
   subst hrl
   refine I0 c h (fun h => ?_) fun h => ?_
   refine T0 (Fp [(0, 1)] 1 c fun _ c => Ess 2 (tC p3 ga2 gc3) c fun _ c => ?_)
   refine Fp [] 1 c fun _ c => E0 ?_
   cases h
   exact wp_ret (br (tr (Rg c (ga2, gc3) [] [1] (.cell (α := Agg 4) kk (.b 2) (.tmp .nil)))))
   refine S0 (S0 (Ry [(4, 0)] mix c fun _ _ c => Bd h fun rl2 hit2 h => ?_))
   have hk2 := h
   refine Jr (fun s  (_ : Unit) => ([(0, I p0), (1, I p1), (6, B b1 0), (7, B b2 0), (8, B b3 0), (10, I x1), (64, .bool s)], id, [])) hit2 c (fun h => ?_) fun s2r _ _ _ hrl c => ?_
   refine I0 c h (fun h => ?_) fun h => ?_
   refine K0 (⟨_, (), (sk h), c.rk [0, 1, 2] [0, 1]⟩)
   refine Ry [(4, 0)] mix c fun _ _ c => ?_
   exact ⟨_, (), (sk h), c.rk [0, 1, 2] [0, 1]⟩
   subst hrl
   refine I0 c h (fun h => ?_) fun h => ?_
   refine T0 (Fp [] 1 c fun _ c => Bd h fun x2 hx2 h => Cb c (impl_ConstTerm_ok hx2) tt Tryz.call117 fun _ _ _ c => ?_)
   replace c := c.gm [BX b1 34 (tC p2 ga0 gc1), BX b2 34 (tC p3 ga2 gc3), BX b3 34 tZ]
   refine Ess 2 [I x2.Op, I x2.W, I x2.N, Str.val x2.Name, L none ([] : List D.Term) 0] c fun _ c => ?_
   refine Fp [] 1 c fun _ c => E0 ?_
   cases h
   replace c := c.nilf (α := D.Term)
   exact wp_ret (br (tr (Rg c (none, 0) [] [2] (.cell (α := Agg 4) kk (.b 2) (.tmp .nil)))))
   refine S0 (Ry [(4, 0)] mix c fun _ _ c => I0 c h (fun h => ?_) fun h => ?_)
   refine T0 (Fp [] 2 c fun _ c => Bd h fun x3 hx3 h => Cb c (impl_ConstTerm_ok hx3) tt Tryz.call117 fun _ _ _ c => ?_)
   replace c := c.gm [BX b1 34 (tC p2 ga0 gc1), BX b2 34 (tC p3 ga2 gc3), BX b3 34 tZ]
   refine Ess 2 [I x3.Op, I x3.W, I x3.N, Str.val x3.Name, L none ([] : List D.Term) 0] c fun _ c => ?_
   refine Fp [] 1 c fun _ c => E0 ?_
   cases h
   replace c := c.nilf (α := D.Term)
   exact wp_ret (br (tr (Rg c (none, 0) [] [2] (.cell (α := Agg 4) kk (.b 2) (.tmp .nil)))))
   refine S0 (S0 (Ry [(4, 0)] mix c fun _ _ c => I0 c h (fun h => ?_) fun h => ?_))
   refine K0 (I0 c h (fun h => ?_) fun h => ?_)
   refine T0 (Fp [(1, 1)] 2 c fun _ c => Eltr 34 [(tR p3 ga2 gc3)] [p3] c ⟨(Ava.mk_Term p3 (.f 1)), tt⟩ fun a1 c1 _ _ c => ?_)
   replace c := c.gm [BX b1 34 (tC p2 ga0 gc1), BX b2 34 (tC p3 ga2 gc3), BX b3 34 tZ, sl34 (L a1 [p3] c1) [(tR p3 ga2 gc3)]]
   replace c := c.fzr 3 2
   refine Bd h fun x4 hx4 h => Cg c (ih0 hx4) ⟨.f 3, tt⟩ Tryz.call202 fun i1 _ _ c => ?_
   refine Ess 2 (tC x4 i1.1 i1.2) c fun _ c => ?_
   refine Fp [] 1 c fun _ c => E0 ?_
   cases h
   exact wp_ret (br (tr (Rg c (i1.1, i1.2) [] [4] (.cell (α := Agg 4) kk (.b 2) (.tmp .nil)))))
   refine K1 (bk (tn (T0 (Fp [] 1 c fun _ c => Ess 2 tZ c fun _ c => ?_))))
   refine Fp [] 1 c fun _ c => E0 ?_
   cases h
   replace c := c.nilf (α := D.Term)
   exact wp_ret (Rg c (none, 0) [] [2] (.cell (α := Agg 4) kk (.b 2) (.tmp .nil)))
   refine Ry [(4, 0), (9, 0)] mix c fun _ _ c => ?_
   refine I0 c h (fun h => ?_) fun h => ?_
   refine T0 (Fp [(1, 1)] 2 c fun _ c => Eltr 34 [(tR p3 ga2 gc3)] [p3] c ⟨(Ava.mk_Term p3 (.f 1)), tt⟩ fun a2 c2 _ _ c => ?_)
   replace c := c.gm [BX b1 34 (tC p2 ga0 gc1), BX b2 34 (tC p3 ga2 gc3), BX b3 34 tZ, sl34 (L a2 [p3] c2) [(tR p3 ga2 gc3)]]
   replace c := c.fzr 3 2
   refine Bd h fun x5 hx5 h => Cg c (ih0 hx5) ⟨.f 3, tt⟩ Tryz.call202 fun i2 _ _ c => ?_
   refine Ess 2 (tC x5 i2.1 i2.2) c fun _ c => ?_
   refine Fp [] 1 c fun _ c => E0 ?_
   cases h
   exact wp_ret (br (tr (Rg c (i2.1, i2.2) [] [4] (.cell (α := Agg 4) kk (.b 2) (.tmp .nil)))))
   refine K1 (bk (tn (T0 (Fp [] 1 c fun _ c => Ess 2 tZ c fun _ c => ?_))))
   refine Fp [] 1 c fun _ c => E0 ?_
   cases h
   replace c := c.nilf (α := D.Term)
   exact wp_ret (Rg c (none, 0) [] [2] (.cell (α := Agg 4) kk (.b 2) (.tmp .nil)))
theorem impl_remake_ok {n : Nat} : ∀ {p0 p1 p2 p3 ga0 gc1 r} (h : impl_remake n p0 p1 p2 p3 = some r), Con Tryz.prog 202 [I p0, I p1, I p2, L ga0 p3 gc1] [] [lR ga0 p3 gc1] fun (i : Oh) => ([tV r i.1 i.2], [], [lR i.1 r.Kids i.2]) := (impl_remake_impl_reduce_impl_reduceIf_impl_reduceCut_impl_reduceWiden_impl_reduceJoin_impl_reduceBinary_impl_reduceFirst_rec n).1
theorem impl_reduce_ok {n : Nat} : ∀ {p0 ga0 gc1 r} (h : impl_reduce n p0 = some r), Con Tryz.prog 118 [tV p0 ga0 gc1] [] [lR ga0 p0.Kids gc1] fun (i : Oh) => ([tV r i.1 i.2], [], [lR i.1 r.Kids i.2]) := (impl_remake_impl_reduce_impl_reduceIf_impl_reduceCut_impl_reduceWiden_impl_reduceJoin_impl_reduceBinary_impl_reduceFirst_rec n).2.1
theorem impl_reduceIf_ok {n : Nat} : ∀ {p0 ga0 gc1 r} (h : impl_reduceIf n p0 = some r), Con Tryz.prog 166 [tV p0 ga0 gc1] [] [lR ga0 p0.Kids gc1] fun (i : Oh) => ([tV r i.1 i.2], [], [lR i.1 r.Kids i.2]) := (impl_remake_impl_reduce_impl_reduceIf_impl_reduceCut_impl_reduceWiden_impl_reduceJoin_impl_reduceBinary_impl_reduceFirst_rec n).2.2.1
theorem impl_reduceCut_ok {n : Nat} : ∀ {p0 ga0 gc1 r} (h : impl_reduceCut n p0 = some r), Con Tryz.prog 167 [tV p0 ga0 gc1] [] [lR ga0 p0.Kids gc1] fun (i : Oh) => ([tV r i.1 i.2], [], [lR i.1 r.Kids i.2]) := (impl_remake_impl_reduce_impl_reduceIf_impl_reduceCut_impl_reduceWiden_impl_reduceJoin_impl_reduceBinary_impl_reduceFirst_rec n).2.2.2.1
theorem impl_reduceWiden_ok {n : Nat} : ∀ {p0 ga0 gc1 r} (h : impl_reduceWiden n p0 = some r), Con Tryz.prog 168 [tV p0 ga0 gc1] [] [lR ga0 p0.Kids gc1] fun (i : Oh) => ([tV r i.1 i.2], [], [lR i.1 r.Kids i.2]) := (impl_remake_impl_reduce_impl_reduceIf_impl_reduceCut_impl_reduceWiden_impl_reduceJoin_impl_reduceBinary_impl_reduceFirst_rec n).2.2.2.2.1
theorem impl_reduceJoin_ok {n : Nat} : ∀ {p0 ga0 gc1 r} (h : impl_reduceJoin n p0 = some r), Con Tryz.prog 169 [tV p0 ga0 gc1] [] [lR ga0 p0.Kids gc1] fun (i : Oh) => ([tV r i.1 i.2], [], [lR i.1 r.Kids i.2]) := (impl_remake_impl_reduce_impl_reduceIf_impl_reduceCut_impl_reduceWiden_impl_reduceJoin_impl_reduceBinary_impl_reduceFirst_rec n).2.2.2.2.2.1
theorem impl_reduceBinary_ok {n : Nat} : ∀ {p0 ga0 gc1 r} (h : impl_reduceBinary n p0 = some r), Con Tryz.prog 170 [tV p0 ga0 gc1] [] [lR ga0 p0.Kids gc1] fun (i : Oh) => ([tV r i.1 i.2], [], [lR i.1 r.Kids i.2]) := (impl_remake_impl_reduce_impl_reduceIf_impl_reduceCut_impl_reduceWiden_impl_reduceJoin_impl_reduceBinary_impl_reduceFirst_rec n).2.2.2.2.2.2.1
theorem impl_reduceFirst_ok {n : Nat} : ∀ {p0 p1 p2 p3 ga0 gc1 ga2 gc3 r} (h : impl_reduceFirst n p0 p1 p2 p3 = some r), Con Tryz.prog 205 [I p0, I p1, tV p2 ga0 gc1, tV p3 ga2 gc3] [] [lR ga0 p2.Kids gc1, lR ga2 p3.Kids gc3] fun (i : Oh) => ([tV r.1 i.1 i.2, .bool r.2], [], [lR i.1 r.1.Kids i.2]) := (impl_remake_impl_reduce_impl_reduceIf_impl_reduceCut_impl_reduceWiden_impl_reduceJoin_impl_reduceBinary_impl_reduceFirst_rec n).2.2.2.2.2.2.2

theorem impl_makeTerm_ok {n p0 p1 p2 p3 ga0 gc1 r} (h : impl_makeTerm n p0 p1 p2 p3 = some r) : Con Tryz.prog 67 [I p0, I p1, I p2, L ga0 p3 gc1] [] [lR ga0 p3 gc1] fun (i : Oh) => ([tV r.1 i.1 i.2, .bool r.2], [], [lR i.1 r.1.Kids i.2]) := by
 unfold impl_makeTerm at h
 refine En Tryz.func67 rfl Tryz.ntmps67 fun _ fr w c => ?_
 refine T0 (Eal tZ c fun b1 _ _ c => ?_)
 refine Fp [] 1 c fun _ c => E0 (T0 (Fp [] 5 c fun _ c => Eal tZ c fun b2 _ _ c => ?_))
 refine Ess 1 [I p0, I p1, I p2, Str.val ⟨[]⟩, L ga0 p3 gc1] c fun _ c => ?_
 refine E0 (S0 (T0 (Fp [(0, 1)] 1 c fun _ c => Bd h fun x1 hx1 h => Cb c (impl_TermOk_ok hx1) ⟨.f 0, tt⟩ Tryz.call43 fun _ _ _ c => ?_)))
 refine Fp [] 1 c fun _ c => E0 (I0 c h (fun h => ?_) fun h => ?_)
 refine T0 (Fp [] 1 c fun _ c => Ess 0 tZ c fun _ c => ?_)
 refine Fp [] 1 c fun _ c => E0 ?_
 cases h
 replace c := c.nilf (α := D.Term)
 exact wp_ret (tr (Rg c (none, 0) [] [1] (.cell (α := Agg 4) kk (.b 0) (.tmp .nil))))
 refine K0 (T0 (Fp [(0, 1)] 1 c fun _ c => Bd h fun x2 hx2 h => Cg c (impl_reduce_ok hx2) ⟨.f 0, tt⟩ Tryz.call118 fun i1 _ _ c => ?_))
 try simp only [l1, l2, l3, l4] at c
 refine Ess 0 (tC x2 i1.1 i1.2) c fun _ c => ?_
 refine Fp [] 1 c fun _ c => E0 ?_
 cases h
 exact wp_ret (Rg c (i1.1, i1.2) [] [1] (.cell (α := Agg 4) kk (.b 0) (.tmp .nil)))

theorem impl_allOf_ok {n p0 ga0 gc1 r} (h : impl_allOf n p0 = some r) : Con Tryz.prog 66 [L ga0 p0 gc1] [] [lR ga0 p0 gc1] fun (i : Oh) => ([tV r.1 i.1 i.2, .bool r.2], [], [lR i.1 r.1.Kids i.2]) := by
 unfold impl_allOf at h
 refine En Tryz.func66 rfl Tryz.ntmps66 fun _ fr w c => ?_
 refine T0 (Eal tZ c fun b1 _ _ c => ?_)
 refine Fp [] 1 c fun _ c => E0 (T0 (Bd h fun x1 hx1 h => Cb c (impl_ConstTerm_ok hx1) tt Tryz.call117 fun _ _ _ c => ?_))
 refine Eal tZ c fun b2 _ _ c => ?_
 refine Ess 1 [I x1.Op, I x1.W, I x1.N, Str.val x1.Name, L none ([] : List D.Term) 0] c fun _ c => ?_
 refine E0 (S0 (P0 [] c fun _ c => Bd h fun rl1 hit1 h => ?_))
 have hk1 := h
 refine LpR (fun s1  (_ : Unit) => ([(0, L ga0 p0 gc1), (2, B b1 0), (4, B b2 0), (11, I (len p0)), (12, I s1)], id, [])) (fun s  (_ : Unit) => ([(0, L ga0 p0 gc1), (2, B b1 0), (4, B b2 0)], id, [])) hit1 c () (c.rk [0, 1] [0]) (fun s1 q1 _ _ _ c h hr1 => ?_) fun s1r _ _ _ hrl c => ?_
 refine P0 [] c fun _ c => S0 (I0 c h (fun h => ?_) fun h => ?_)
 refine K0 (S0 (wp_block (P0 [] c fun _ c => Bd h fun x2 hx2 h => ?_)))
 obtain ⟨ep1, u1, c⟩ := c.elp (.f 0) hx2
 obtain ⟨a1, c1, rfl, c⟩ := c.o_Term 2
 refine Bd h fun x3 hx3 h => Bd h fun x4 hx4 h => S0 (rZ [(2, .eq (.pointer (some ep1))), (3, .eq (tV x2 a1 c1)), (4, .eq (.bool x3)), (9, Pd.el (x4 : D.Term)), (10, Pd.fl (I x4.W)), (11, .eq (I x4.W))] [] mix c ⟨Nie c 1, Nle c 1, Ncl c (kN (impl_TermOk_ok hx3)) ⟨.f 3, tt⟩ Tryz.call43, Nid c (.f 0) (gF hx4), Nfa c 9 (atN 9) fc34_1, Nlf c 10 (atN 10), tt⟩ fun _ _ c => I0 c h (fun h => ?_) fun h => ?_)
 refine T0 (Fp [] 1 c fun _ c => Ess 0 tZ c fun _ c => ?_)
 refine Fp [] 1 c fun _ c => E0 ?_
 obtain rfl := hr1 _ (sk h)
 obtain rfl := sj hk1
 replace c := c.nilf (α := D.Term)
 exact wp_ret (br (tr (tr (br (tr (Rg c (none, 0) [] [4] (.cell (α := Agg 4) kk (.b 0) (.tmp .nil))))))))
 refine K1 (bk (tn (P1 [] c fun _ c => Nx h () (c.rk [0, 1] [0]))))
 refine wp_exit (te (te (be ?_)))
 obtain rfl := hr1 _ (sk h)
 exact tn ⟨_, (), rfl, c.rk [0, 1] [0]⟩
 subst hrl
 refine S0 (P0 [] c fun _ c => ?_)
 replace c := c.nilf (α := D.Term)
 refine Bd h fun rl2 hit2 h => ?_
 have hk2 := h
 refine LpR (fun s2  (i : Oh) => ([(0, L ga0 p0 gc1), (2, B b1 0), (4, B b2 0), (32, I (len p0)), (33, I s2.1)], fun Γ => Γ.set 1 (BX b2 34 [I s2.2.1, I s2.2.2.1, I s2.2.2.2.1, Str.val s2.2.2.2.2.1, L i.1 s2.2.2.2.2.2 i.2]), [lR i.1 s2.2.2.2.2.2 i.2])) (fun s  (i : Oh) => ([(2, B b1 0), (4, B b2 0)], fun Γ => Γ.set 1 (BX b2 34 [I s.1, I s.2.1, I s.2.2.1, Str.val s.2.2.2.1, L i.1 s.2.2.2.2 i.2]), [lR i.1 s.2.2.2.2 i.2])) hit2 c (none, 0) (c.rk [0, 1] [0, 1, 1]) (fun s2 q2 i1 _ _ c h hr2 => ?_) fun s2r k1 _ _ hrl c => ?_
 refine P0 [] c fun _ c => S0 (I0 c h (fun h => ?_) fun h => ?_)
 refine K0 (S0 (wp_block (P0 [] c fun _ c => Bd h fun x5 hx5 h => ?_)))
 obtain ⟨ep2, u2, c⟩ := c.elp (.f 0) hx5
 obtain ⟨a2, c2, rfl, c⟩ := c.o_Term 4
 refine Bd h fun x6 hx6 h => S0 (Jn (fun i : Nat × Oh => ([(0, L ga0 p0 gc1), (2, B b1 0), (4, B b2 0), (7, B i.1 0), (8, .bool x6.2), (32, I (len p0)), (33, I s2.1)], fun Γ => Γ ++ [BX i.1 34 (tC x6.1 i.2.1 i.2.2)], [lR i.2.1 x6.1.Kids i.2.2])) c ?_ fun i9 _ _ c => ?_)
 refine As mix c fun _ c => ?_
 replace c := Cx.frs [(0, L ga0 p0 gc1), (2, B b1 0), (4, B b2 0), (6, I s2.1), (32, I (len p0)), (33, I s2.1)] c
 refine Dq (fun i : Nat × Oh => ([(0, L ga0 p0 gc1), (2, B b1 0), (4, B b2 0), (7, B i.1 0), (32, I (len p0)), (33, I s2.1), (36, .tuple #[tV x6.1 i.2.1 i.2.2, .bool x6.2])], fun Γ => Γ ++ [BX i.1 34 (tC x6.1 i.2.1 i.2.2)], [lR i.2.1 x6.1.Kids i.2.2])) (bN 13 3583) (fun i => [(9, 45, .bool x6.2), (12, 8, .bool x6.2)]) c (fun i8 => ?_) fun hd6 => ?_
 obtain ⟨b9, a9, c9⟩ := i8
 refine qnE ⟨qP [], qP [], tt⟩ fun _ _ c => ?_
 exact nN (b9, a9, c9) (c.rk [0, 1, 2] (rg 7))
 refine Dq (fun i : Nat × Oh => ([(0, L ga0 p0 gc1), (2, B b1 0), (4, B b2 0), (7, B i.1 0), (32, I (len p0)), (33, I s2.1), (43, .tuple #[tV x6.1 i.2.1 i.2.2, .bool x6.2])], fun Γ => Γ ++ [BX i.1 34 tZ], [lR i.2.1 x6.1.Kids i.2.2])) (bN 13 1151) (fun i => [(7, 36, .tuple #[tV x6.1 i.2.1 i.2.2, .bool x6.2]), (8, 44, tV x6.1 i.2.1 i.2.2), (9, 45, .bool x6.2)]) c (fun i6 => ?_) fun hd5 => ?_
 obtain ⟨b8, a8, c8⟩ := i6
 refine qn [11] ⟨qP [], qP [], qP [], tt⟩ ⟨fun _ _ c => ?_, tt⟩
 refine op_of _ rfl rfl ?_
 refine Ess 2 (tC x6.1 a8 c8) c fun _ c => ?_
 refine E0 (nQ hd6 (b8, a8, c8) (c.rk [0, 1, 2] (rg 7)))
 refine Dq (fun i : Oh => ([(0, L ga0 p0 gc1), (2, B b1 0), (4, B b2 0), (32, I (len p0)), (33, I s2.1), (43, .tuple #[tV x6.1 i.1 i.2, .bool x6.2])], id, [lR i.1 x6.1.Kids i.2])) (bN 13 127) (fun i => [(7, 36, .tuple #[tV x6.1 i.1 i.2, .bool x6.2]), (8, 44, tV x6.1 i.1 i.2), (9, 45, .bool x6.2)]) c (fun i4 => ?_) fun hd3 => ?_
 obtain ⟨a5, c5⟩ := i4
 refine qn [10] ⟨qP [], qP [], qP [], tt⟩ ⟨fun _ _ c => ?_, tt⟩
 refine op_of _ rfl rfl ?_
 refine Eal tZ c fun b7 _ _ c => ?_
 refine E0 (nQ hd5 (b7, a5, c5) (c.rk [0, 1, 2] (rg 7)))
 refine Dq (fun i : Nat × Ob (List Rw.Term) => ([(0, L ga0 p0 gc1), (2, B b1 0), (4, B b2 0), (7, B i.1 0), (32, I (len p0)), (33, I s2.1), (42, L i.2.1 [(D.Term.mk s2.2.1 s2.2.2.1 s2.2.2.2.1 s2.2.2.2.2.1 s2.2.2.2.2.2), x5] i.2.2.1)], fun Γ => Γ ++ [BX i.1 34 tZ, sl34 (L i.2.1 [(D.Term.mk s2.2.1 s2.2.2.1 s2.2.2.2.1 s2.2.2.2.2.1 s2.2.2.2.2.2), x5] i.2.2.1) (i.2.2.2)], [CS (i.2.2.2) [(D.Term.mk s2.2.1 s2.2.2.1 s2.2.2.2.1 s2.2.2.2.2.1 s2.2.2.2.2.2), x5]])) (bN 13 1087) (fun i => []) c (fun i5 => ?_) fun hd4 => ?_
 obtain ⟨b6, a6, c6, rs2⟩ := i5
 refine qn [6] tt ⟨fun _ _ c => ?_, tt⟩
 refine op_of _ rfl rfl ?_
 replace c := c.fzr 3 6
 refine Cg c (impl_makeTerm_ok hx6) ⟨.f 7, tt⟩ Tryz.call67 fun i7 _ _ c => ?_
 refine E0 (nQ hd5 (b6, i7.1, i7.2) (c.rk [0, 1, 2] [0, 1, 2, 3, 4, 5, 8]))
 refine Dq (fun i : Ob (List Rw.Term) => ([(0, L ga0 p0 gc1), (2, B b1 0), (4, B b2 0), (32, I (len p0)), (33, I s2.1), (42, L i.1 [(D.Term.mk s2.2.1 s2.2.2.1 s2.2.2.2.1 s2.2.2.2.2.1 s2.2.2.2.2.2), x5] i.2.1)], fun Γ => Γ ++ [sl34 (L i.1 [(D.Term.mk s2.2.1 s2.2.2.1 s2.2.2.2.1 s2.2.2.2.2.1 s2.2.2.2.2.2), x5] i.2.1) (i.2.2)], [CS (i.2.2) [(D.Term.mk s2.2.1 s2.2.2.1 s2.2.2.2.1 s2.2.2.2.2.1 s2.2.2.2.2.2), x5]])) (bN 13 63) (fun i => []) c (fun i2 => ?_) fun hd1 => ?_
 obtain ⟨a4, c4, rs1⟩ := i2
 refine qn [6, 10] tt ⟨fun _ _ c => ?_, fun _ _ c => ?_, tt⟩
 refine op_of _ rfl rfl ?_
 replace c := c.fzr 2 6
 refine Cg c (impl_makeTerm_ok hx6) ⟨.f 7, tt⟩ Tryz.call67 fun i3 _ _ c => ?_
 refine E0 (nQ hd3 (i3.1, i3.2) (c.rk [0, 1] [0, 1, 2, 3, 4, 5, 8]))
 refine op_of _ rfl rfl ?_
 refine Eal tZ c fun b5 _ _ c => ?_
 refine E0 (nQ hd4 (b5, a4, c4, rs1) (c.rk [0, 1, 3, 2] (rg 7)))
 refine Dq (fun i : Nat => ([(0, L ga0 p0 gc1), (2, B b1 0), (4, B b2 0), (6, I s2.1), (7, B i 0), (32, I (len p0)), (33, I s2.1)], fun Γ => Γ ++ [BX i 34 tZ], [])) (bN 13 1024) (fun i => [(0, 37, .agg #[I s2.2.1, I s2.2.2.1, I s2.2.2.2.1, Str.val s2.2.2.2.2.1, L i1.1 s2.2.2.2.2.2 i1.2]), (1, 38, L ga0 p0 gc1), (2, 39, I s2.1), (3, 40, .pointer (some ep2)), (4, 41, tV x5 a2 c2)]) c (fun b4 => ?_) fun hd2 => ?_
 refine qn [5] ⟨qP [(0, 1)], qP [], qP [], qI 3, qL 3, tt⟩ ⟨fun _ _ c => ?_, tt⟩
 refine op_of _ rfl rfl ?_
 refine Eltr 34 [(Rw.Term.mk s2.2.1 s2.2.2.1 s2.2.2.2.1 s2.2.2.2.2.1 ⟨i1.1, List.length s2.2.2.2.2.2, i1.2⟩), (tR x5 a2 c2)] [(D.Term.mk s2.2.1 s2.2.2.1 s2.2.2.2.1 s2.2.2.2.2.1 s2.2.2.2.2.2), x5] c ⟨(Ava.mk_Term (D.Term.mk s2.2.1 s2.2.2.1 s2.2.2.2.1 s2.2.2.2.2.1 s2.2.2.2.2.2) (.f 2)), (Ava.mk_Term x5 (.f 5)), tt⟩ fun a7 c7 _ _ c => ?_
 refine E0 (nQ hd4 (b4, a7, c7, [(Rw.Term.mk s2.2.1 s2.2.2.1 s2.2.2.2.1 s2.2.2.2.2.1 ⟨i1.1, List.length s2.2.2.2.2.2, i1.2⟩), (tR x5 a2 c2)]) (c.rk (rg 4) (rg 7)))
 refine q0 (qs := [(0, 37, .agg #[I s2.2.1, I s2.2.2.1, I s2.2.2.2.1, Str.val s2.2.2.2.2.1, L i1.1 s2.2.2.2.2.2 i1.2]), (1, 38, L ga0 p0 gc1), (2, 39, I s2.1), (3, 40, .pointer (some ep2)), (4, 41, tV x5 a2 c2)]) c (qn [5, 10] ⟨qP [(0, 1)], qP [], qP [], qI 3, qL 3, tt⟩ ⟨fun _ _ c => ?_, fun _ _ c => ?_, tt⟩)
 refine op_of _ rfl rfl ?_
 refine Eltr 34 [(Rw.Term.mk s2.2.1 s2.2.2.1 s2.2.2.2.1 s2.2.2.2.2.1 ⟨i1.1, List.length s2.2.2.2.2.2, i1.2⟩), (tR x5 a2 c2)] [(D.Term.mk s2.2.1 s2.2.2.1 s2.2.2.2.1 s2.2.2.2.2.1 s2.2.2.2.2.2), x5] c ⟨(Ava.mk_Term (D.Term.mk s2.2.1 s2.2.2.1 s2.2.2.2.1 s2.2.2.2.2.1 s2.2.2.2.2.2) (.f 2)), (Ava.mk_Term x5 (.f 5)), tt⟩ fun a3 c3 _ _ c => ?_
 refine E0 (nQ hd1 (a3, c3, [(Rw.Term.mk s2.2.1 s2.2.2.1 s2.2.2.2.1 s2.2.2.2.2.1 ⟨i1.1, List.length s2.2.2.2.2.2, i1.2⟩), (tR x5 a2 c2)]) (c.rk [0, 1, 2] (rg 7)))
 refine op_of _ rfl rfl ?_
 refine Eal tZ c fun b3 _ _ c => ?_
 refine E0 (nQ hd2 (b3) (c.rk [0, 1, 2] (rg 6)))
 obtain ⟨b10, a10, c10⟩ := i9
 refine S0 (P0 [] c fun _ c => I0 c h (fun h => ?_) fun h => ?_)
 refine T0 (Fp [] 1 c fun _ c => Ess 0 tZ c fun _ c => ?_)
 refine Fp [] 1 c fun _ c => E0 ?_
 obtain rfl := hr2 _ (sk h)
 obtain rfl := sj hk2
 replace c := c.nilf (α := D.Term)
 exact wp_ret (tr (br (tr (tr (br (tr (Rg c (none, 0) [] [7] (.cell (α := Agg 4) kk (.b 0) (.tmp .nil)))))))))
 refine K0 (T1 (Fp [(0, 2)] 1 c fun _ c => Ess 1 (tC x6.1 a10 c10) c fun _ c => ?_))
 refine E1 (bk (tn (P1 [] c fun _ c => Nx h (a10, c10) (c.rk [0, 1] [0, 1, 6]))))
 refine wp_exit (te (te (be ?_)))
 obtain rfl := hr2 _ (sk h)
 exact tn ⟨_, (i1.1, i1.2), rfl, c.rk [0, 1] [0, 1, 2]⟩
 subst hrl
 refine T0 (Fp [(0, 1)] 1 c fun _ c => Ess 0 [I s2r.1, I s2r.2.1, I s2r.2.2.1, Str.val s2r.2.2.2.1, L k1.1 s2r.2.2.2.2 k1.2] c fun _ c => ?_)
 refine Fp [] 1 c fun _ c => E0 ?_
 cases h
 exact wp_ret (Rg c (k1.1, k1.2) [] [2] (.cell (α := Agg 4) kk (.b 0) (.tmp .nil)))

theorem slices_Clone___impl_Term_impl_Term__ok {p0 ga0 gc1 r} (h : slices_Clone___impl_Term_impl_Term_ p0 = some r) : Con Tryz.prog 126 [L ga0 p0 gc1] [] [lR ga0 p0 gc1] fun (i : Oh) => ([L i.1 r i.2], [], [lR i.1 r i.2]) := by
 unfold slices_Clone___impl_Term_impl_Term_ at h
 refine En Tryz.func126 rfl Tryz.ntmps126 fun _ fr w c => ?_
 refine P0 [] c fun _ c => S0 (T0 (Fp [] 1 c fun _ c => Ebin (vx := L ga0 p0 gc1) (vy := .slice none 0 0) c (nil_guard _ _ _ _ _ _ _ _ _ _) (nil_eq Tryz.underlying32 ga0 _ gc1 _) fun _ c => ?_))
 refine E0 (If c (b := (Option.isNone ga0)) (fun hb => ?_) fun hb => ?_)
 obtain ⟨_, hn⟩ := c.use (.f 0)
 replace h := nil_app (nil_of hn (Option.isNone_iff_eq_none.1 hb)) h
 refine P0 [] c fun _ c => ?_
 cases h
 replace c := c.nilf (α := D.Term)
 exact wp_ret (tr (Rt c (none, 0) [] [1]))
 refine K0 (T0 (Eltr 34 ([] : List Rw.Term) ([] : List D.Term) c tt fun a1 c1 _ _ c => ?_))
 refine Fp [] 1 c fun _ c => Bd h fun x1 hx1 h => Eapr 0 1 c (.f 0) hx1 fun rm1 a2 c2 _ _ c => ?_
 refine Fp [] 1 c fun _ c => E0 ?_
 replace c := c.fzr 0 2
 obtain rfl := sj h
 exact wp_ret (Rt c (a2, c2) [] [3])

theorem slices_Clip___impl_Term_impl_Term__ok {p0 ga0 gc1 r} (h : slices_Clip___impl_Term_impl_Term_ p0 = some r) : Con Tryz.prog 174 [L ga0 p0 gc1] [] [lR ga0 p0 gc1] fun (i : Option Addr) => ([L i r (List.length r)], [], [RO (L i r (List.length r)) r]) := by
 unfold slices_Clip___impl_Term_impl_Term_ at h
 refine En Tryz.func174 rfl Tryz.ntmps174 fun _ fr w c => ?_
 refine P0 [] c fun _ c => T0 (Fp [] 5 c fun _ c => Ecl 34 c (.f 0) fun _ c => ?_)
 refine Fp [] 1 c fun _ c => E0 ?_
 obtain rfl := sj h
 exact wp_ret (Rt c (ga0) [] [1])

theorem impl_more_ok {p0 p1 ga0 gc1 ga2 gc3 r} (h : impl_more p0 p1 = some r) : Con Tryz.prog 128 [L ga0 p0 gc1, tV p1 ga2 gc3] [] [lR ga0 p0 gc1, lR ga2 p1.Kids gc3] fun (i : Oh) => ([L i.1 r i.2], [], [lR i.1 r i.2]) := by
 unfold impl_more at h
 refine En Tryz.func128 rfl Tryz.ntmps128 fun _ fr w c => ?_
 refine T0 (Ebx (tC p1 ga2 gc3) c fun b1 _ _ c => ?_)
 refine Fp [] 1 c fun _ c => E0 (Bd h fun x1 hx1 h => Bd h fun x2 hx2 h => Bd h fun x3 hx3 h => S0 (Jn (fun i : Ob (List Rw.Term) => ([(4, L i.1 x3 i.2.1)], fun Γ => Γ ++ [sl34 (L i.1 x3 i.2.1) (i.2.2)], [CS (i.2.2) x3])) c ?_ fun i10 _ _ c => ?_))
 refine As mix c fun _ c => ?_
 replace c := Cx.frs [(0, L ga0 p0 gc1), (3, B b1 0)] c
 refine Dq (fun i : Ob (List Rw.Term) => ([(10, L i.1 x3 i.2.1)], fun Γ => Γ ++ [sl34 (L i.1 x3 i.2.1) (i.2.2)], [CS (i.2.2) x3])) (bN 7 63) (fun i => [(6, 4, L i.1 x3 i.2.1)]) c (fun i9 => ?_) fun hd6 => ?_
 obtain ⟨a12, c10, rs5⟩ := i9
 refine qnE ⟨qP [], tt⟩ fun _ _ c => ?_
 exact nN (a12, c10, rs5) (c.rk [0, 1] [0, 1, 2])
 refine Dq (fun i : Option Addr × Ob (List Rw.Term) => ([(7, L i.1 x2 (List.length x2)), (9, L i.2.1 [p1] i.2.2.1)], fun Γ => Γ ++ [sl34 (L i.2.1 [p1] i.2.2.1) (i.2.2.2)], [RO (L i.1 x2 (List.length x2)) x2, CS (i.2.2.2) [p1]])) (bN 7 31) (fun i => []) c (fun i7 => ?_) fun hd5 => ?_
 obtain ⟨a9, a10, c8, rs3⟩ := i7
 refine qn [5] tt ⟨fun _ _ c => ?_, tt⟩
 refine op_of _ rfl rfl ?_
 replace c := c.fzr 1 3
 refine Eapf (ρ := Rw.Term) 34 c (.f 2) (.f 4) hx3 fun rs4 a11 c9 _ _ c => ?_
 refine E0 (nQ hd6 (a11, c9, rs4) (c.rk [0, 1] [0, 1, 5]))
 refine Dq (fun i : Option Addr => ([(3, B b1 0), (7, L i x2 (List.length x2))], id, [RO (L i x2 (List.length x2)) x2])) (bN 7 7) (fun i => [(3, 8, tV p1 ga2 gc3)]) c (fun a4 => ?_) fun hd3 => ?_
 refine qn [4] ⟨qP [(0, 0)], tt⟩ ⟨fun _ _ c => ?_, tt⟩
 refine op_of _ rfl rfl ?_
 refine Eltr 34 [(tR p1 ga2 gc3)] [p1] c ⟨(Ava.mk_Term p1 (.f 1)), tt⟩ fun a8 c7 _ _ c => ?_
 refine E0 (nQ hd5 (a4, a8, c7, [(tR p1 ga2 gc3)]) (c.rk [0, 1] (rg 4)))
 refine Dq (fun i : Ob (Ob (List Rw.Term)) => ([(6, L i.1 x1 i.2.1), (9, L i.2.2.1 [p1] i.2.2.2.1)], fun Γ => Γ ++ [sl34 (L i.2.2.1 [p1] i.2.2.2.1) (i.2.2.2.2)], [lR i.1 x1 i.2.1, CS (i.2.2.2.2) [p1]])) (bN 7 27) (fun i => []) c (fun i5 => ?_) fun hd4 => ?_
 obtain ⟨a6, c5, a7, c6, rs2⟩ := i5
 refine qn [2] tt ⟨fun _ _ c => ?_, tt⟩
 refine op_of _ rfl rfl ?_
 refine Cg c (slices_Clip___impl_Term_impl_Term__ok hx2) ⟨.f 2, tt⟩ Tryz.call174 fun i8 _ _ c => ?_
 refine E0 (nQ hd5 (i8, a7, c6, rs2) (c.rk [0, 1] [0, 1, 4, 3]))
 refine Dq (fun i : Oh => ([(3, B b1 0), (6, L i.1 x1 i.2)], id, [lR i.1 x1 i.2])) (bN 7 3) (fun i => [(3, 8, tV p1 ga2 gc3)]) c (fun i2 => ?_) fun hd1 => ?_
 obtain ⟨a1, c1⟩ := i2
 refine qn [2, 4] ⟨qP [(0, 0)], tt⟩ ⟨fun _ _ c => ?_, fun _ _ c => ?_, tt⟩
 refine op_of _ rfl rfl ?_
 refine Cg c (slices_Clip___impl_Term_impl_Term__ok hx2) ⟨.f 2, tt⟩ Tryz.call174 fun i4 _ _ c => ?_
 refine E0 (nQ hd3 (i4) (c.rk [0] [0, 1, 3]))
 refine op_of _ rfl rfl ?_
 refine Eltr 34 [(tR p1 ga2 gc3)] [p1] c ⟨(Ava.mk_Term p1 (.f 1)), tt⟩ fun a5 c4 _ _ c => ?_
 refine E0 (nQ hd4 (a1, c1, a5, c4, [(tR p1 ga2 gc3)]) (c.rk [0, 1] (rg 4)))
 refine Dq (fun i : Ob (List Rw.Term) => ([(0, L ga0 p0 gc1), (9, L i.1 [p1] i.2.1)], fun Γ => Γ ++ [sl34 (L i.1 [p1] i.2.1) (i.2.2)], [CS (i.2.2) [p1]])) (bN 7 24) (fun i => [(0, 5, L ga0 p0 gc1)]) c (fun i3 => ?_) fun hd2 => ?_
 obtain ⟨a3, c3, rs1⟩ := i3
 refine qn [1] ⟨qP [], tt⟩ ⟨fun _ _ c => ?_, tt⟩
 refine op_of _ rfl rfl ?_
 refine Cg c (slices_Clone___impl_Term_impl_Term__ok hx1) ⟨.f 0, tt⟩ Tryz.call126 fun i6 _ _ c => ?_
 refine E0 (nQ hd4 (i6.1, i6.2, a3, c3, rs1) (c.rk [0, 1] [0, 1, 3, 2]))
 refine q0 (qs := [(0, 5, L ga0 p0 gc1), (3, 8, tV p1 ga2 gc3)]) c (qn [1, 4] ⟨qP [], qP [(0, 0)], tt⟩ ⟨fun _ _ c => ?_, fun _ _ c => ?_, tt⟩)
 refine op_of _ rfl rfl ?_
 refine Cg c (slices_Clone___impl_Term_impl_Term__ok hx1) ⟨.f 0, tt⟩ Tryz.call126 fun i1 _ _ c => ?_
 refine E0 (nQ hd1 (i1.1, i1.2) (c.rk [0] [0, 1, 2]))
 refine op_of _ rfl rfl ?_
 refine Eltr 34 [(tR p1 ga2 gc3)] [p1] c ⟨(Ava.mk_Term p1 (.f 1)), tt⟩ fun a2 c2 _ _ c => ?_
 refine E0 (nQ hd2 (a2, c2, [(tR p1 ga2 gc3)]) (c.rk [0, 1] [0, 1, 2]))
 obtain ⟨a13, c11, rs6⟩ := i10
 replace c := c.fzr 1 2
 obtain rfl := sj h
 exact wp_ret (Rt c (a13, c11) [] [3])

theorem impl_mergeWords_ok {n p0 p1 p2 ga0 gc1 ga2 gc3 ga4 gc5 r} (h : impl_mergeWords n p0 p1 p2 = some r) : Con Tryz.prog 129 [tV p0 ga0 gc1, L ga2 p1 gc3, L ga4 p2 gc5] [] [lR ga0 p0.Kids gc1, lR ga2 p1 gc3, lR ga4 p2 gc5] fun (i : Oh) => ([L i.1 r.1 i.2, .bool r.2], [], [lR i.1 r.1 i.2]) := by
 unfold impl_mergeWords at h
 refine En Tryz.func129 rfl Tryz.ntmps129 fun _ fr w c => ?_
 refine T0 (Ebx (tC p0 ga0 gc1) c fun b1 _ _ c => ?_)
 refine Fp [] 2 c fun _ c => E0 (T0 (Fp [] 2 c fun _ c => Bd h fun x1 hx1 h => Emkr 34 (⟨0, 0, 0, ⟨[]⟩, ⟨none, 0, 0⟩⟩ : Rw.Term) (fun w F => rz_Term w F) c hx1 fun a1 c1 _ _ c => ?_))
 refine Fp [] 1 c fun _ c => E0 (S0 (P0 [] c fun _ c => Bd h fun rl1 hit1 h => ?_))
 have hk1 := h
 refine LpR (fun s1  (i : List Rw.Term) => ([(1, L ga2 p1 gc3), (2, L ga4 p2 gc5), (3, B b1 0), (8, L a1 x1 c1), (16, I (len p1)), (17, I s1.1)], fun Γ => Γ.set 1 (sl34 (L a1 x1 c1) (i)), [CS (i) s1.2])) (fun s  (i : List Rw.Term) => ([(8, L a1 x1 c1)], fun Γ => Γ.set 1 (sl34 (L a1 x1 c1) (i)), [CS (i) s])) hit1 c ((List.replicate (List.length x1) (⟨0, 0, 0, ⟨[]⟩, ⟨none, 0, 0⟩⟩ : Rw.Term))) (c.rk [0, 1] [0, 1, 2, 3, 3]) (fun s1 q1 i1 _ _ c h hr1 => ?_) fun s1r k1 _ _ hrl c => ?_
 refine P0 [] c fun _ c => S0 (I0 c h (fun h => ?_) fun h => ?_)
 refine K0 (S0 (wp_block (P0 [] c fun _ c => S0 (Bd h fun x2 hx2 h => ?_))))
 obtain ⟨ep1, u1, c⟩ := c.elp (.f 1) hx2
 obtain ⟨a2, c2, rfl, c⟩ := c.o_Term 6
 refine Bd h fun x3 hx3 h => ?_
 obtain ⟨ep2, u2, c⟩ := c.elp (.f 2) hx3
 obtain ⟨a3, c3, rfl, c⟩ := c.o_Term 9
 refine Bd h fun x4 hx4 h => S0 (rZ [(2, .eq (.pointer (some ep1))), (3, .eq (tV x2 a2 c2)), (6, .eq (.pointer (some ep2))), (7, .eq (tV x3 a3 c3)), (8, .eq (.bool x4))] [] mix c ⟨Nie c 5, Nle c 5, Nie c 8, Nle c 8, Ncl c (kN (impl_sameTerm_ok hx4)) ⟨.f 7, .f 10, tt⟩ Tryz.call173, tt⟩ fun _ _ c => I0 c h (fun h => ?_) fun h => ?_)
 refine T0 (Fp [] 4 c fun _ c => Bd h fun x5 hx5 h => Eem c (.f 1) hx5 fun _ u3 _ c => ?_)
 obtain ⟨a4, c4, rfl, c⟩ := c.o_Term 11
 refine Bd h fun x6 hx6 h => Esetr (q := (tR x5 a4 c4)) 1 4 c ((Ava.mk_Term x5 (.f 12))) hx6 fun _ _ _ c => ?_
 refine E0 (wp_exit (te (be ?_)))
 refine tn (P1 [] c fun _ c => Nx h ((List.set i1 (s1.1).toNat (tR x5 a4 c4))) (c.rk [0, 1] [0, 1, 2, 3, 13]))
 refine K0 (Bd h fun x7 hx7 h => ?_)
 obtain ⟨ep3, u4, c⟩ := c.elp (.f 1) hx7
 obtain ⟨a5, c5, rfl, c⟩ := c.o_Term 12
 refine Bd h fun x8 hx8 h => ?_
 obtain ⟨ep4, u5, c⟩ := c.elp (.f 1) hx8
 obtain ⟨a6, c6, rfl, c⟩ := c.o_Term 15
 refine Bd h fun x9 hx9 h => ?_
 obtain ⟨ep5, u6, c⟩ := c.elp (.f 2) hx9
 obtain ⟨a7, c7, rfl, c⟩ := c.o_Term 18
 refine Bd h fun x10 hx10 h => S0 (Jn (fun i : Nat × Oh => ([(1, L ga2 p1 gc3), (2, L ga4 p2 gc5), (3, B b1 0), (8, L a1 x1 c1), (9, I s1.1), (10, B i.1 0), (11, .bool x10.2), (16, I (len p1)), (17, I s1.1)], fun Γ => Γ ++ [BX i.1 34 (tC x10.1 i.2.1 i.2.2)], [lR i.2.1 x10.1.Kids i.2.2])) c ?_ fun i9 _ _ c => ?_)
 refine As mix c fun _ c => ?_
 replace c := Cx.frs [(1, L ga2 p1 gc3), (2, L ga4 p2 gc5), (3, B b1 0), (8, L a1 x1 c1), (9, I s1.1), (16, I (len p1)), (17, I s1.1)] c
 refine Dq (fun i : Nat × Oh => ([(1, L ga2 p1 gc3), (2, L ga4 p2 gc5), (3, B b1 0), (8, L a1 x1 c1), (9, I s1.1), (10, B i.1 0), (16, I (len p1)), (17, I s1.1), (36, .tuple #[tV x10.1 i.2.1 i.2.2, .bool x10.2])], fun Γ => Γ ++ [BX i.1 34 (tC x10.1 i.2.1 i.2.2)], [lR i.2.1 x10.1.Kids i.2.2])) (bN 22 1835007) (fun i => [(18, 54, .bool x10.2), (21, 11, .bool x10.2)]) c (fun i8 => ?_) fun hd6 => ?_
 obtain ⟨b8, a14, c14⟩ := i8
 refine qnE ⟨qP [], qP [], tt⟩ fun _ _ c => ?_
 exact nN (b8, a14, c14) (c.rk [0, 1, 2] (rg 21))
 refine Dq (fun i : Nat × Oh => ([(1, L ga2 p1 gc3), (2, L ga4 p2 gc5), (3, B b1 0), (8, L a1 x1 c1), (9, I s1.1), (10, B i.1 0), (16, I (len p1)), (17, I s1.1), (52, .tuple #[tV x10.1 i.2.1 i.2.2, .bool x10.2])], fun Γ => Γ ++ [BX i.1 34 tZ], [lR i.2.1 x10.1.Kids i.2.2])) (bN 22 589823) (fun i => [(16, 36, .tuple #[tV x10.1 i.2.1 i.2.2, .bool x10.2]), (17, 53, tV x10.1 i.2.1 i.2.2), (18, 54, .bool x10.2)]) c (fun i6 => ?_) fun hd5 => ?_
 obtain ⟨b7, a13, c13⟩ := i6
 refine qn [20] ⟨qP [], qP [], qP [], tt⟩ ⟨fun _ _ c => ?_, tt⟩
 refine op_of _ rfl rfl ?_
 try simp only [l3, l4, l5, l6] at c
 refine Ess 2 (tC x10.1 a13 c13) c fun _ c => ?_
 refine E0 (nQ hd6 (b7, a13, c13) (c.rk [0, 1, 2] (rg 21)))
 refine Dq (fun i : Oh => ([(1, L ga2 p1 gc3), (2, L ga4 p2 gc5), (3, B b1 0), (8, L a1 x1 c1), (9, I s1.1), (16, I (len p1)), (17, I s1.1), (52, .tuple #[tV x10.1 i.1 i.2, .bool x10.2])], id, [lR i.1 x10.1.Kids i.2])) (bN 22 65535) (fun i => [(16, 36, .tuple #[tV x10.1 i.1 i.2, .bool x10.2]), (17, 53, tV x10.1 i.1 i.2), (18, 54, .bool x10.2)]) c (fun i4 => ?_) fun hd3 => ?_
 obtain ⟨a10, c10⟩ := i4
 refine qn [19] ⟨qP [], qP [], qP [], tt⟩ ⟨fun _ _ c => ?_, tt⟩
 refine op_of _ rfl rfl ?_
 try simp only [l3, l4, l5, l6] at c
 refine Eal tZ c fun b6 _ _ c => ?_
 refine E0 (nQ hd5 (b6, a10, c10) (c.rk [0, 1, 2] (rg 21)))
 refine Dq (fun i : Nat × Oh => ([(1, L ga2 p1 gc3), (2, L ga4 p2 gc5), (3, B b1 0), (8, L a1 x1 c1), (9, I s1.1), (10, B i.1 0), (16, I (len p1)), (17, I s1.1), (51, L i.2.1 [p0, x8, x9] i.2.2)], fun Γ => Γ ++ [BX i.1 34 tZ, sl34 (L i.2.1 [p0, x8, x9] i.2.2) [(tR p0 ga0 gc1), (tR x8 a6 c6), (tR x9 a7 c7)]], [CS [(tR p0 ga0 gc1), (tR x8 a6 c6), (tR x9 a7 c7)] [p0, x8, x9]])) (bN 22 557024) (fun i => [(0, 37, L ga2 p1 gc3), (1, 38, I s1.1), (2, 39, .pointer (some ep3)), (3, 40, .pointer (some (ep3.add 1))), (4, 41, I x7.W)]) c (fun i5 => ?_) fun hd4 => ?_
 obtain ⟨b5, a11, c11⟩ := i5
 refine qn [15] ⟨qP [], qP [], qI 11, qP [], qC 11 1, tt⟩ ⟨fun _ _ c => ?_, tt⟩
 refine op_of _ rfl rfl ?_
 try simp only [l3, l4, l5, l6] at c
 replace c := c.fzr 3 20
 refine Cg c (impl_makeTerm_ok hx10) ⟨.f 21, tt⟩ Tryz.call67 fun i7 _ _ c => ?_
 refine E0 (nQ hd5 (b5, i7.1, i7.2) (c.rk [0, 1, 2] [0, 1, 2, 3, 4, 5, 6, 7, 8, 9, 10, 11, 12, 13, 14, 15, 16, 17, 18, 19, 22]))
 refine Dq (fun i : Oh => ([(1, L ga2 p1 gc3), (2, L ga4 p2 gc5), (3, B b1 0), (8, L a1 x1 c1), (9, I s1.1), (16, I (len p1)), (17, I s1.1), (51, L i.1 [p0, x8, x9] i.2)], fun Γ => Γ ++ [sl34 (L i.1 [p0, x8, x9] i.2) [(tR p0 ga0 gc1), (tR x8 a6 c6), (tR x9 a7 c7)]], [CS [(tR p0 ga0 gc1), (tR x8 a6 c6), (tR x9 a7 c7)] [p0, x8, x9]])) (bN 22 32736) (fun i => [(0, 37, L ga2 p1 gc3), (1, 38, I s1.1), (2, 39, .pointer (some ep3)), (3, 40, .pointer (some (ep3.add 1))), (4, 41, I x7.W)]) c (fun i2 => ?_) fun hd1 => ?_
 obtain ⟨a9, c9⟩ := i2
 refine qn [15, 19] ⟨qP [], qP [], qI 11, qP [], qC 11 1, tt⟩ ⟨fun _ _ c => ?_, fun _ _ c => ?_, tt⟩
 refine op_of _ rfl rfl ?_
 try simp only [l3, l4, l5, l6] at c
 replace c := c.fzr 2 20
 refine Cg c (impl_makeTerm_ok hx10) ⟨.f 21, tt⟩ Tryz.call67 fun i3 _ _ c => ?_
 refine E0 (nQ hd3 (i3.1, i3.2) (c.rk [0, 1] [0, 1, 2, 3, 4, 5, 6, 7, 8, 9, 10, 11, 12, 13, 14, 15, 16, 17, 18, 19, 22]))
 refine op_of _ rfl rfl ?_
 try simp only [l3, l4, l5, l6] at c
 refine Eal tZ c fun b4 _ _ c => ?_
 refine E0 (nQ hd4 (b4, a9, c9) (c.rk [0, 1, 3, 2] (rg 21)))
 refine Dq (fun i : Nat => ([(1, L ga2 p1 gc3), (2, L ga4 p2 gc5), (3, B b1 0), (8, L a1 x1 c1), (9, I s1.1), (10, B i 0), (16, I (len p1)), (17, I s1.1)], fun Γ => Γ ++ [BX i 34 tZ], [])) (bN 22 524288) (fun i => [(0, 37, L ga2 p1 gc3), (1, 38, I s1.1), (2, 39, .pointer (some ep3)), (3, 40, .pointer (some (ep3.add 1))), (4, 41, I x7.W), (5, 42, tV p0 ga0 gc1), (6, 43, L ga2 p1 gc3), (7, 44, I s1.1), (8, 45, .pointer (some ep4)), (9, 46, tV x8 a6 c6), (10, 47, L ga4 p2 gc5), (11, 48, I s1.1), (12, 49, .pointer (some ep5)), (13, 50, tV x9 a7 c7)]) c (fun b3 => ?_) fun hd2 => ?_
 refine qn [14] ⟨qP [], qP [], qI 11, qP [], qC 11 1, qP [(0, 0)], qP [], qP [], qI 14, qL 14, qP [], qP [], qI 17, qL 17, tt⟩ ⟨fun _ _ c => ?_, tt⟩
 refine op_of _ rfl rfl ?_
 try simp only [l3, l4, l5, l6] at c
 refine Eltr 34 [(tR p0 ga0 gc1), (tR x8 a6 c6), (tR x9 a7 c7)] [p0, x8, x9] c ⟨(Ava.mk_Term p0 (.f 0)), (Ava.mk_Term x8 (.f 16)), (Ava.mk_Term x9 (.f 19)), tt⟩ fun a12 c12 _ _ c => ?_
 refine E0 (nQ hd4 (b3, a12, c12) (c.rk (rg 4) (rg 21)))
 refine q0 (qs := [(0, 37, L ga2 p1 gc3), (1, 38, I s1.1), (2, 39, .pointer (some ep3)), (3, 40, .pointer (some (ep3.add 1))), (4, 41, I x7.W), (5, 42, tV p0 ga0 gc1), (6, 43, L ga2 p1 gc3), (7, 44, I s1.1), (8, 45, .pointer (some ep4)), (9, 46, tV x8 a6 c6), (10, 47, L ga4 p2 gc5), (11, 48, I s1.1), (12, 49, .pointer (some ep5)), (13, 50, tV x9 a7 c7)]) c (qn [14, 19] ⟨qP [], qP [], qI 11, qP [], qC 11 1, qP [(0, 0)], qP [], qP [], qI 14, qL 14, qP [], qP [], qI 17, qL 17, tt⟩ ⟨fun _ _ c => ?_, fun _ _ c => ?_, tt⟩)
 refine op_of _ rfl rfl ?_
 try simp only [l3, l4, l5, l6] at c
 refine Eltr 34 [(tR p0 ga0 gc1), (tR x8 a6 c6), (tR x9 a7 c7)] [p0, x8, x9] c ⟨(Ava.mk_Term p0 (.f 0)), (Ava.mk_Term x8 (.f 16)), (Ava.mk_Term x9 (.f 19)), tt⟩ fun a8 c8 _ _ c => ?_
 refine E0 (nQ hd1 (a8, c8) (c.rk [0, 1, 2] (rg 21)))
 refine op_of _ rfl rfl ?_
 try simp only [l3, l4, l5, l6] at c
 refine Eal tZ c fun b2 _ _ c => ?_
 refine E0 (nQ hd2 (b2) (c.rk [0, 1, 2] (rg 20)))
 obtain ⟨b9, a15, c15⟩ := i9
 refine S0 (P0 [] c fun _ c => I0 c h (fun h => ?_) fun h => ?_)
 refine P0 [] c fun _ c => ?_
 obtain rfl := hr1 _ (sk h)
 obtain rfl := sj hk1
 replace c := c.nilf (α := D.Term)
 exact wp_ret (tr (br (tr (tr (br (tr (Rg c (none, 0) [] [21] (.tmp (.tmp .nil)))))))))
 refine K0 (T1 (Fp [(2, 1)] 3 c fun _ c => Bd h fun x11 hx11 h => Esetr (q := (tR x10.1 a15 c15)) 1 4 c ((Ava.mk_Term x10.1 (.f 20))) hx11 fun _ _ _ c => ?_))
 refine E1 (bk (tn (P1 [] c fun _ c => Nx h ((List.set i1 (s1.1).toNat (tR x10.1 a15 c15))) (c.rk [0, 1] [0, 1, 2, 3, 21]))))
 refine wp_exit (te (te (be ?_)))
 obtain rfl := hr1 _ (sk h)
 exact tn ⟨_, (i1), rfl, c.rk [0, 1] (rg 5)⟩
 subst hrl
 refine P0 [] c fun _ c => ?_
 obtain ⟨he1, c⟩ := c.relenr 1 4
 replace c := c.eqs (v := L a1 x1 c1) (u := L a1 s1r c1) 6 (by simp only [L, he1])
 replace c := c.fzr 1 4
 cases h
 exact wp_ret (Rg c (a1, c1) [] [5] (.tmp (.tmp .nil)))

theorem slices_Clone___int_int__ok {p0 ga0 gc1 r} (h : slices_Clone___int_int_ p0 = some r) : Con Tryz.prog 48 [L ga0 p0 gc1] [] [lR ga0 p0 gc1] fun (i : Oh) => ([L i.1 r i.2], [sl3 (L i.1 r i.2) r], []) := by
 unfold slices_Clone___int_int_ at h
 refine En Tryz.func48 rfl Tryz.ntmps48 fun _ fr w c => ?_
 refine P0 [] c fun _ c => S0 (T0 (Fp [] 1 c fun _ c => Ebin (vx := L ga0 p0 gc1) (vy := .slice none 0 0) c (nil_guard _ _ _ _ _ _ _ _ _ _) (nil_eq Tryz.underlying29 ga0 _ gc1 _) fun _ c => ?_))
 refine E0 (If c (b := (Option.isNone ga0)) (fun hb => ?_) fun hb => ?_)
 obtain ⟨_, hn⟩ := c.use (.f 0)
 replace h := nil_app (nil_of hn (Option.isNone_iff_eq_none.1 hb)) h
 refine P0 [] c fun _ c => ?_
 replace c := c.nil (α := Int) 3
 cases h
 exact wp_ret (tr (Rt c (none, 0) [0] []))
 refine K0 (T0 (Elt 3 ([] : List Int) c fun a1 c1 _ _ c => ?_))
 refine Fp [] 1 c fun _ c => Bd h fun x1 hx1 h => Eap 0 c (.f 0) hx1 fun a2 c2 _ _ c => ?_
 refine Fp [] 1 c fun _ c => E0 ?_
 obtain rfl := sj h
 exact wp_ret (Rt c (a2, c2) [0] [])

theorem impl_mergePaths_ok {n p0 p1 p2 ga0 gc1 ga2 gc3 ga4 gc5 ga6 gc7 ga8 gc9 ga10 gc11 ga12 gc13 ga14 gc15 ga16 gc17 ga18 gc19 ga20 gc21 ga22 gc23 ga24 gc25 r} (h : impl_mergePaths n p0 p1 p2 = some r) : Con Tryz.prog 81 [gV p0 ga0 gc1, pV p1 ga2 gc3 ga4 gc5 ga6 gc7 ga8 gc9 ga10 gc11 ga12 gc13, pV p2 ga14 gc15 ga16 gc17 ga18 gc19 ga20 gc21 ga22 gc23 ga24 gc25] [] [lR ga0 p0.Code gc1, lR ga2 p1.Regs gc3, lR ga4 p1.Mem gc5, lR ga6 p1.Stack gc7, lR ga8 p1.Out gc9, lR ga10 p1.Cond gc11, lR ga12 p1.Turns gc13, lR ga14 p2.Regs gc15, lR ga16 p2.Mem gc17, lR ga18 p2.Stack gc19, lR ga20 p2.Out gc21, lR ga22 p2.Cond gc23, lR ga24 p2.Turns gc25] fun (i : Hp) => ([pJ r.1 i, .bool r.2], [], (pF r.1 i)) := by
 unfold impl_mergePaths at h
 refine En Tryz.func81 rfl Tryz.ntmps81 fun _ fr w c => ?_
 refine T0 (Ebx (gC p0 ga0 gc1) c fun b1 _ _ c => ?_)
 refine Ebx (pC p1 ga2 gc3 ga4 gc5 ga6 gc7 ga8 gc9 ga10 gc11 ga12 gc13) c fun b2 _ _ c => ?_
 refine Ebx (pC p2 ga14 gc15 ga16 gc17 ga18 gc19 ga20 gc21 ga22 gc23 ga24 gc25) c fun b3 _ _ c => ?_
 refine Eal pZ c fun b4 _ _ c => ?_
 refine Fp [] 1 c fun _ c => E0 (S0 (T0 (Fp [(0, 1), (1, 2)] 2 c fun _ c => Bd h fun x1 hx1 h => Cb c (impl_sameShape_ok hx1) ⟨.f 1, .f 2, .f 3, .f 4, .f 5, .f 6, .f 7, .f 8, .f 9, .f 10, .f 11, .f 12, tt⟩ Tryz.call124 fun _ _ _ c => ?_)))
 refine Fp [] 1 c fun _ c => E0 (I0 c h (fun h => ?_) fun h => ?_)
 refine T0 (Fp [] 1 c fun _ c => ?_)
 try simp only [l1, l2, l3, l4] at c
 refine Ess 3 pZ c fun _ c => ?_
 refine Fp [] 1 c fun _ c => E0 ?_
 cases h
 replace c := c.nilf (α := D.Term)
 replace c := c.nilf (α := D.Term)
 replace c := c.nilf (α := Int)
 replace c := c.nilf (α := D.Term)
 replace c := c.nilf (α := D.Term)
 replace c := c.nilf (α := Int)
 exact wp_ret (tr (Rg c (none, 0, none, 0, none, 0, none, 0, none, 0, none, 0) [] [13, 14, 15, 16, 17, 18] (.cell (α := Agg 9) kk (.b 3) (.tmp .nil))))
 refine K0 (T0 (Fp [(1, 1), (3, 2)] 4 c fun _ c => ?_))
 try simp only [l1, l2, l3, l4] at c
 refine Bd h fun x2 hx2 h => Cb c (impl_commonTerms_ok hx2) ⟨.f 5, .f 11, tt⟩ Tryz.call125 fun _ _ _ c => ?_
 refine Fp [] 1 c fun _ c => E0 (T0 (Fp [(1, 1)] 3 c fun _ c => Bd h fun x3 hx3 h => Esl 34 c (.f 5) hx3 fun u1 _ c => ?_))
 obtain ⟨a1, c1, rfl⟩ := c.sl 13
 refine Bd h fun x4 hx4 h => Cg c (impl_allOf_ok hx4) ⟨.f 13, tt⟩ Tryz.call66 fun i1 _ _ c => ?_
 refine Fp [] 3 c fun _ c => Eal tZ c fun b5 _ _ c => ?_
 refine Ess 4 (tC x4.1 i1.1 i1.2) c fun _ c => ?_
 refine Fp [] 1 c fun _ c => E0 (T0 (Fp [(1, 2)] 3 c fun _ c => Bd h fun x5 hx5 h => Esl 34 c (.f 11) hx5 fun u2 _ c => ?_))
 obtain ⟨a2, c2, rfl⟩ := c.sl 15
 refine Bd h fun x6 hx6 h => Cg c (impl_allOf_ok hx6) ⟨.f 15, tt⟩ Tryz.call66 fun i2 _ _ c => ?_
 refine Fp [] 3 c fun _ c => ?_
 try simp only [l1, l2, l3, l4] at c
 refine Eal tZ c fun b6 _ _ c => ?_
 refine Ess 5 (tC x6.1 i2.1 i2.2) c fun _ c => ?_
 refine Fp [] 1 c fun _ c => E0 (S0 (S0 (Ry [] mix c fun _ _ c => I0 c h (fun h => ?_) fun h => ?_)))
 refine T0 (Fp [] 1 c fun _ c => Ess 3 pZ c fun _ c => ?_)
 refine Fp [] 1 c fun _ c => E0 ?_
 cases h
 replace c := c.nilf (α := D.Term)
 replace c := c.nilf (α := D.Term)
 replace c := c.nilf (α := Int)
 replace c := c.nilf (α := D.Term)
 replace c := c.nilf (α := D.Term)
 replace c := c.nilf (α := Int)
 exact wp_ret (tr (Rg c (none, 0, none, 0, none, 0, none, 0, none, 0, none, 0) [] [17, 18, 19, 20, 21, 22] (.cell (α := Agg 9) kk (.b 3) (.tmp .nil))))
 refine K0 (T0 (Fp [(0, 4), (1, 5)] 2 c fun _ c => Eltr 34 [(tR x4.1 i1.1 i1.2), (tR x6.1 i2.1 i2.2)] [x4.1, x6.1] c ⟨(Ava.mk_Term x4.1 (.f 14)), (Ava.mk_Term x6.1 (.f 16)), tt⟩ fun a3 c3 _ _ c => ?_))
 try simp only [l1, l2, l3, l4] at c
 replace c := c.fzr 6 17
 refine Bd h fun x7 hx7 h => Cg c (impl_makeTerm_ok hx7) ⟨.f 18, tt⟩ Tryz.call67 fun i3 _ _ c => ?_
 refine Fp [] 3 c fun _ c => Eal tZ c fun b7 _ _ c => ?_
 refine Ess 6 (tC x7.1 i3.1 i3.2) c fun _ c => ?_
 refine Fp [] 1 c fun _ c => E0 (S0 (P0 [] c fun _ c => I0 c h (fun h => ?_) fun h => ?_))
 refine T0 (Fp [] 1 c fun _ c => ?_)
 replace c := c.gm [BX b1 53 (gC p0 ga0 gc1), BX b2 66 (pC p1 ga2 gc3 ga4 gc5 ga6 gc7 ga8 gc9 ga10 gc11 ga12 gc13), BX b3 66 (pC p2 ga14 gc15 ga16 gc17 ga18 gc19 ga20 gc21 ga22 gc23 ga24 gc25), BX b4 66 pZ, BX b5 34 (tC x4.1 i1.1 i1.2), BX b6 34 (tC x6.1 i2.1 i2.2), BX b7 34 (tC x7.1 i3.1 i3.2)]
 refine Ess 3 pZ c fun _ c => ?_
 refine Fp [] 1 c fun _ c => E0 ?_
 cases h
 replace c := c.nilf (α := D.Term)
 replace c := c.nilf (α := D.Term)
 replace c := c.nilf (α := Int)
 replace c := c.nilf (α := D.Term)
 replace c := c.nilf (α := D.Term)
 replace c := c.nilf (α := Int)
 exact wp_ret (tr (Rg c (none, 0, none, 0, none, 0, none, 0, none, 0, none, 0) [] [20, 21, 22, 23, 24, 25] (.cell (α := Agg 9) kk (.b 3) (.tmp .nil))))
 refine K0 (T0 (Fp [(0, 1)] 1 c fun _ c => ?_))
 replace c := c.gm [BX b1 53 (gC p0 ga0 gc1), BX b2 66 (pC p1 ga2 gc3 ga4 gc5 ga6 gc7 ga8 gc9 ga10 gc11 ga12 gc13), BX b3 66 (pC p2 ga14 gc15 ga16 gc17 ga18 gc19 ga20 gc21 ga22 gc23 ga24 gc25), BX b4 66 pZ, BX b5 34 (tC x4.1 i1.1 i1.2), BX b6 34 (tC x6.1 i2.1 i2.2), BX b7 34 (tC x7.1 i3.1 i3.2)]
 refine Eal pZ c fun b8 _ _ c => ?_
 refine Ess 7 (pC p1 ga2 gc3 ga4 gc5 ga6 gc7 ga8 gc9 ga10 gc11 ga12 gc13) c fun _ c => ?_
 refine E0 (T0 (Fp [(1, 1)] 3 c fun _ c => Bd h fun x8 hx8 h => Esl 34 c (.f 5) hx8 fun u3 _ c => ?_))
 obtain ⟨a4, c4, rfl⟩ := c.sl 20
 refine Bd h fun x9 hx9 h => Cg c (slices_Clone___impl_Term_impl_Term__ok hx9) ⟨.f 20, tt⟩ Tryz.call126 fun i4 _ _ c => ?_
 refine Fp [] 1 c fun _ c => ?_
 try simp only [l1, l2, l3, l4] at c
 refine Esb 7 8 (L i4.1 x9 i4.2) c fun _ c => ?_
 refine E0 (S0 (T0 (Fp [(0, 6)] 1 c fun _ c => Bd h fun x10 hx10 h => Cb c (impl_constIs_ok hx10) ⟨.f 19, tt⟩ Tryz.call127 fun _ _ _ c => ?_)))
 refine Fp [] 1 c fun _ c => E0 (Bd h fun rl1 hit1 h => ?_)
 have hk1 := h
 refine Jr (fun s  (i : Oh) => ([(3, B b1 0), (4, B b2 0), (5, B b3 0), (6, B b4 0), (9, B b5 0), (15, B b8 0)], fun Γ => Γ.set 7 (BX b8 66 [I p1.Pc, L ga2 p1.Regs gc3, L ga4 p1.Mem gc5, L ga6 p1.Stack gc7, I p1.In, L ga8 p1.Out gc9, I p1.Code, I p1.Steps, L i.1 s i.2, L ga12 p1.Turns gc13]), [lR i.1 s i.2])) hit1 c (fun h => ?_) fun s1r k1 _ _ hrl c => ?_
 refine I0 c h (fun h => ?_) fun h => ?_
 refine T1 (Fp [(1, 7), (2, 6)] 3 c fun _ c => Bd h fun x11 hx11 h => Cg c (impl_more_ok hx11) ⟨.f 21, .f 19, tt⟩ Tryz.call128 fun i5 _ _ c => ?_)
 refine Fp [] 1 c fun _ c => ?_
 try simp only [l1, l2, l3, l4] at c
 refine Esb 7 8 (L i5.1 x11 i5.2) c fun _ c => ?_
 refine E0 (⟨_, (i5.1, i5.2), (sk h), c.rk (rg 8) (rg 23)⟩)
 refine K0 (⟨_, (i4.1, i4.2), (sk h), c.rk (rg 8) [0, 1, 2, 3, 4, 5, 6, 7, 8, 9, 10, 11, 12, 13, 14, 15, 16, 17, 18, 19, 20, 21, 21]⟩)
 subst hrl
 try simp only [l3, l4, l5, l6] at c
 refine T0 (Fp [(0, 4), (2, 1), (4, 2)] 5 c fun _ c => Bd h fun x12 hx12 h => Cg c (impl_mergeWords_ok hx12) ⟨.f 14, .f 1, .f 7, tt⟩ Tryz.call129 fun i6 _ _ c => ?_)
 refine Fp [] 5 c fun _ c => E0 (T0 (Fp [(0, 4), (2, 1), (4, 2)] 5 c fun _ c => ?_))
 replace c := c.gm [BX b1 53 (gC p0 ga0 gc1), BX b2 66 (pC p1 ga2 gc3 ga4 gc5 ga6 gc7 ga8 gc9 ga10 gc11 ga12 gc13), BX b3 66 (pC p2 ga14 gc15 ga16 gc17 ga18 gc19 ga20 gc21 ga22 gc23 ga24 gc25), BX b4 66 pZ, BX b5 34 (tC x4.1 i1.1 i1.2), BX b6 34 (tC x6.1 i2.1 i2.2), BX b7 34 (tC x7.1 i3.1 i3.2), BX b8 66 [I p1.Pc, L ga2 p1.Regs gc3, L ga4 p1.Mem gc5, L ga6 p1.Stack gc7, I p1.In, L ga8 p1.Out gc9, I p1.Code, I p1.Steps, L k1.1 s1r k1.2, L ga12 p1.Turns gc13]]
 refine Bd h fun x13 hx13 h => Cg c (impl_mergeWords_ok hx13) ⟨.f 14, .f 2, .f 8, tt⟩ Tryz.call129 fun i7 _ _ c => ?_
 refine Fp [] 5 c fun _ c => E0 (T0 (Fp [(0, 4), (2, 1), (4, 2)] 5 c fun _ c => Bd h fun x14 hx14 h => Cg c (impl_mergeWords_ok hx14) ⟨.f 14, .f 4, .f 10, tt⟩ Tryz.call129 fun i8 _ _ c => ?_))
 refine Fp [] 5 c fun _ c => E0 (S0 (S0 (Ry [] mix c fun _ _ c => I0 c h (fun h => ?_) fun h => ?_)))
 refine T0 (Fp [] 1 c fun _ c => Ess 3 pZ c fun _ c => ?_)
 refine Fp [] 1 c fun _ c => E0 ?_
 cases h
 replace c := c.nilf (α := D.Term)
 replace c := c.nilf (α := D.Term)
 replace c := c.nilf (α := Int)
 replace c := c.nilf (α := D.Term)
 replace c := c.nilf (α := D.Term)
 replace c := c.nilf (α := Int)
 exact wp_ret (tr (Rg c (none, 0, none, 0, none, 0, none, 0, none, 0, none, 0) [] [26, 27, 28, 29, 30, 31] (.cell (α := Agg 9) kk (.b 3) (.tmp .nil))))
 refine K0 (T0 (Fp [] 4 c fun _ c => Esb 7 1 (L i6.1 x12.1 i6.2) c fun _ c => ?_))
 refine Fp [] 1 c fun _ c => ?_
 try simp only [l1, l2, l3, l4] at c
 refine Esb 7 2 (L i7.1 x13.1 i7.2) c fun _ c => ?_
 refine Fp [] 1 c fun _ c => Esb 7 5 (L i8.1 x14.1 i8.2) c fun _ c => ?_
 refine E0 (T0 (Fp [(1, 1), (3, 2)] 6 c fun _ c => Esb 7 7 (I (imax p1.Steps p2.Steps)) c fun _ c => ?_))
 refine E0 (P0 [] c fun _ c => Bd h fun rl2 hit2 h => S0 (Lp (fun s2  (_ : Unit) => ([(3, B b1 0), (4, B b2 0), (5, B b3 0), (6, B b4 0), (15, B b8 0), (22, I s2)], id, [])) (fun  (_ : Unit) => ([(3, B b1 0), (4, B b2 0), (6, B b4 0), (15, B b8 0), (22, I rl2)], id, [])) hit2 c () (c.rk (rg 8) (rg 26)) (fun s2 q2 _ _ _ c h hr2 => ?_) fun _ _ _ c => ?_))
 refine S0 (Bd h fun x15 hx15 h => Bd h fun x16 hx16 h => S0 (rZ [(16, Pd.el (x15 : Int)), (17, .eq (I x15)), (21, Pd.el (x16 : Int)), (22, .eq (I x16))] [(2, 1), (8, 2), (14, 1), (19, 2)] mix c ⟨Nid c (.f 6) (gT hx15), Nld c 16 (q := x15) (atN 16), Nid c (.f 12) (gT hx16), Nld c 21 (q := x16) (atN 21), tt⟩ fun _ _ c => I0 c h (fun h => ?_) fun h => ?_))
 refine K0 (wp_block (Tq (P1 [] c fun _ c => bk (tn (Nx h () (c.rk (rg 8) (rg 26)))))))
 refine wp_exit (te (te (be ?_)))
 obtain rfl := hr2 _ (sk h)
 exact tn ⟨(), c.rk (rg 8) (rg 26)⟩
 refine T0 (Fp [(1, 1)] 3 c fun _ c => ?_)
 replace c := c.gm [BX b1 53 (gC p0 ga0 gc1), BX b2 66 (pC p1 ga2 gc3 ga4 gc5 ga6 gc7 ga8 gc9 ga10 gc11 ga12 gc13), BX b3 66 (pC p2 ga14 gc15 ga16 gc17 ga18 gc19 ga20 gc21 ga22 gc23 ga24 gc25), BX b4 66 pZ, BX b5 34 (tC x4.1 i1.1 i1.2), BX b6 34 (tC x6.1 i2.1 i2.2), BX b7 34 (tC x7.1 i3.1 i3.2), BX b8 66 [I p1.Pc, L i6.1 x12.1 i6.2, L i7.1 x13.1 i7.2, L ga6 p1.Stack gc7, I p1.In, L i8.1 x14.1 i8.2, I p1.Code, I (imax p1.Steps p2.Steps), L k1.1 s1r k1.2, L ga12 p1.Turns gc13]]
 refine Bd h fun x17 hx17 h => Esl 3 c (.f 6) hx17 fun u4 _ c => ?_
 obtain ⟨a5, c5, rfl⟩ := c.sl 26
 refine Bd h fun x18 hx18 h => Cb c (slices_Clone___int_int__ok hx18) ⟨.f 26, tt⟩ Tryz.call48 fun i9 _ _ c => ?_
 refine Fp [] 1 c fun _ c => ?_
 try simp only [l1, l2, l3, l4] at c
 refine Esb 7 9 (L i9.1 x18 i9.2) c fun _ c => ?_
 refine E0 (Bd h fun x19 hx19 h => S0 (wp_ra mix (rM 4 [(3, .eq (.bool x19))] [(0, 7), (1, 0), (2, 7)] c (fun ow => ⟨np_tO ow (Ncl c (kN (impl_PathOk_ok hx19)) ⟨.f 0, .f 23, .f 24, .f 3, .f 25, .f 22, .g 8, tt⟩ Tryz.call64), tt⟩) fun _ _ _ _ _ c => Ess 3 [I p1.Pc, L i6.1 x12.1 i6.2, L i7.1 x13.1 i7.2, L ga6 p1.Stack gc7, I p1.In, L i8.1 x14.1 i8.2, I p1.Code, I (imax p1.Steps p2.Steps), L k1.1 s1r k1.2, L i9.1 x18 i9.2] c fun _ c => ?_)))
 refine Fp [] 1 c fun _ c => E0 ?_
 replace c := c.fz 8
 cases h
 exact wp_ret (Rg c (i6.1, i6.2, i7.1, i7.2, ga6, gc7, i8.1, i8.2, k1.1, k1.2, i9.1, i9.2) [] [23, 24, 3, 25, 22, 27] (.cell (α := Agg 9) kk (.b 3) (.tmp .nil)))

theorem impl_copyTerm_impl_copyTerms_rec (n : Nat) : (∀ {p0 ga0 gc1 r} (h : impl_copyTerm n p0 = some r), Con Tryz.prog 68 [tV p0 ga0 gc1] [] [lR ga0 p0.Kids gc1] fun (i : Oh) => ([tV r i.1 i.2], [OD (ownT 34) 34 (L i.1 r.Kids i.2) r.Kids], [])) ∧
    (∀ {p0 ga0 gc1 r} (h : impl_copyTerms n p0 = some r), Con Tryz.prog 119 [L ga0 p0 gc1] [] [lR ga0 p0 gc1] fun (i : Oh) => ([L i.1 r i.2], [OD (ownT 34) 34 (L i.1 r i.2) r], [])) := by
 induction n with
 | zero => exact ⟨by intro p0 ga0 gc1 r h; simp [impl_copyTerm] at h, by intro p0 ga0 gc1 r h; simp [impl_copyTerms] at h⟩
 | succ n ih =>
 obtain ⟨ih0, ih1⟩ := ih
 refine ⟨?_, ?_⟩
 · intro p0 ga0 gc1 r h
   rw [impl_copyTerm] at h
   refine En Tryz.func68 rfl Tryz.ntmps68 fun _ fr w c => ?_
   refine T0 (Ebx (tC p0 ga0 gc1) c fun b1 _ _ c => ?_)
   refine Eal tZ c fun b2 _ _ c => ?_
   refine E0 (T0 (Fp [(0, 0)] 1 c fun _ c => Eal tZ c fun b3 _ _ c => ?_))
   refine Ess 2 (tC p0 ga0 gc1) c fun _ c => ?_
   refine E0 (T0 (Fp [(1, 0)] 2 c fun _ c => Bd h fun x1 hx1 h => Cb c (ih1 hx1) ⟨.f 0, tt⟩ Tryz.call119 fun i1 _ _ c => ?_))
   refine Fp [] 1 c fun _ c => ?_
   try simp only [l1, l2, l3, l4] at c
   refine Esb 2 4 (L i1.1 x1 i1.2) c fun _ c => ?_
   refine E0 (T0 (Fp [(0, 2)] 1 c fun _ c => Ess 1 [I p0.Op, I p0.W, I p0.N, Str.val p0.Name, L i1.1 x1 i1.2] c fun _ c => ?_))
   refine E0 ?_
   cases h
   exact wp_ret (Rg c (i1.1, i1.2) [3] [] (.cell (α := Agg 4) kk (.b 1) .nil))
 · intro p0 ga0 gc1 r h
   rw [impl_copyTerms] at h
   refine En Tryz.func119 rfl Tryz.ntmps119 fun _ fr w c => ?_
   refine P0 [] c fun _ c => S0 (P0 [] c fun _ c => I0 c h (fun h => ?_) fun h => ?_)
   refine P0 [] c fun _ c => ?_
   replace c := c.nilo (ownT 34) 34
   cases h
   exact wp_ret (tr (Rt c (none, 0) [0] []))
   refine K0 (T0 (Fp [] 2 c fun _ c => Bd h fun x1 hx1 h => Emkd 34 (⟨0, 0, 0, ⟨[]⟩, ⟨none, 0, 0⟩⟩ : Rw.Term) (fun w => ownT_zero 34 w) c hx1 fun a1 c1 _ _ c => ?_))
   refine Fp [] 1 c fun _ c => E0 (S0 (P0 [] c fun _ c => Bd h fun rl1 hit1 h => Lp (fun s1  (i : List Rw.Term) => ([(0, L ga0 p0 gc1), (3, L a1 x1 c1), (12, I (len p0)), (13, I s1.1)], fun Γ => (Γ.set 0 (sl34 (L a1 x1 c1) (i))).set 1 (HP.all (ownT 34) (i) s1.2), [])) (fun  (i : List Rw.Term) => ([(3, L a1 x1 c1)], fun Γ => (Γ.set 0 (sl34 (L a1 x1 c1) (i))).set 1 (HP.all (ownT 34) (i) rl1), [])) hit1 c ((List.replicate (List.length x1) (⟨0, 0, 0, ⟨[]⟩, ⟨none, 0, 0⟩⟩ : Rw.Term))) (c.rk [0, 1] [0]) (fun s1 q1 i1 _ _ c h hr1 => ?_) fun k1 _ _ c => ?_))
   refine P0 [] c fun _ c => S0 (I0 c h (fun h => ?_) fun h => ?_)
   refine K0 (S0 (wp_block (P0 [] c fun _ c => T1 (Fp [] 4 c fun _ c => Bd h fun x2 hx2 h => Eem c (.f 0) hx2 fun _ u1 _ c => ?_))))
   obtain ⟨a2, c2, rfl, c⟩ := c.o_Term 1
   refine Bd h fun x3 hx3 h => Cb c (ih0 hx3) ⟨.f 2, tt⟩ Tryz.call68 fun i2 _ _ c => ?_
   replace c := c.pack (H := ownT 34 (tR x3 i2.1 i2.2) x3) [OD (ownT 34) 34 (L i2.1 x3.Kids i2.2) x3.Kids] [2] (fun A h => ownT_mk (x := x3) (Sep.sole h))
   refine Bd h fun x4 hx4 h => Esetd 0 1 2 c hx4 fun _ _ _ c => ?_
   refine E1 (bk (tn (P1 [] c fun _ c => Nx h ((List.set i1 (s1.1).toNat (tR x3 i2.1 i2.2))) (c.rk [0, 1] [0]))))
   refine wp_exit (te (te (be ?_)))
   obtain rfl := hr1 _ (sk h)
   exact tn ⟨(i1), c.rk [0, 1] [0]⟩
   refine P0 [] c fun _ c => ?_
   replace c := c.odc 0 1
   obtain rfl := sj h
   obtain ⟨he1, c⟩ := c.releno 0
   replace c := c.eqs (v := L a1 x1 c1) (u := L a1 rl1 c1) 2 (by simp only [L, he1])
   exact wp_ret (Rt c (a1, c1) [0] [])
theorem impl_copyTerm_ok {n : Nat} : ∀ {p0 ga0 gc1 r} (h : impl_copyTerm n p0 = some r), Con Tryz.prog 68 [tV p0 ga0 gc1] [] [lR ga0 p0.Kids gc1] fun (i : Oh) => ([tV r i.1 i.2], [OD (ownT 34) 34 (L i.1 r.Kids i.2) r.Kids], []) := (impl_copyTerm_impl_copyTerms_rec n).1
theorem impl_copyTerms_ok {n : Nat} : ∀ {p0 ga0 gc1 r} (h : impl_copyTerms n p0 = some r), Con Tryz.prog 119 [L ga0 p0 gc1] [] [lR ga0 p0 gc1] fun (i : Oh) => ([L i.1 r i.2], [OD (ownT 34) 34 (L i.1 r i.2) r], []) := (impl_copyTerm_impl_copyTerms_rec n).2

theorem impl_copyPath_ok {n p0 ga0 gc1 ga2 gc3 ga4 gc5 ga6 gc7 ga8 gc9 ga10 gc11 r} (h : impl_copyPath n p0 = some r) : Con Tryz.prog 82 [pV p0 ga0 gc1 ga2 gc3 ga4 gc5 ga6 gc7 ga8 gc9 ga10 gc11] [] [lR ga0 p0.Regs gc1, lR ga2 p0.Mem gc3, lR ga4 p0.Stack gc5, lR ga6 p0.Out gc7, lR ga8 p0.Cond gc9, lR ga10 p0.Turns gc11] fun (i : Hp) => ([pJ r i], [OD (ownT 34) 34 (L i.1 r.Regs i.2.1) r.Regs, OD (ownT 34) 34 (L i.2.2.1 r.Mem i.2.2.2.1) r.Mem, sl3 (L i.2.2.2.2.1 r.Stack i.2.2.2.2.2.1) r.Stack, OD (ownT 34) 34 (L i.2.2.2.2.2.2.1 r.Out i.2.2.2.2.2.2.2.1) r.Out, OD (ownT 34) 34 (L i.2.2.2.2.2.2.2.2.1 r.Cond i.2.2.2.2.2.2.2.2.2.1) r.Cond, sl3 (L i.2.2.2.2.2.2.2.2.2.2.1 r.Turns i.2.2.2.2.2.2.2.2.2.2.2) r.Turns], []) := by
 unfold impl_copyPath at h
 refine En Tryz.func82 rfl Tryz.ntmps82 fun _ fr w c => ?_
 refine T0 (Ebx (pC p0 ga0 gc1 ga2 gc3 ga4 gc5 ga6 gc7 ga8 gc9 ga10 gc11) c fun b1 _ _ c => ?_)
 refine Eal pZ c fun b2 _ _ c => ?_
 refine E0 (T0 (Fp [(1, 0)] 2 c fun _ c => Bd h fun x1 hx1 h => Cb c (impl_copyTerms_ok hx1) ⟨.f 0, tt⟩ Tryz.call119 fun i1 _ _ c => ?_))
 refine Fp [] 1 c fun _ c => Esb 0 1 (L i1.1 x1 i1.2) c fun _ c => ?_
 refine E0 (T0 (Fp [(1, 0)] 2 c fun _ c => Bd h fun x2 hx2 h => Cb c (impl_copyTerms_ok hx2) ⟨.f 1, tt⟩ Tryz.call119 fun i2 _ _ c => ?_))
 refine Fp [] 1 c fun _ c => ?_
 try simp only [l1, l2, l3, l4] at c
 refine Esb 0 2 (L i2.1 x2 i2.2) c fun _ c => ?_
 refine E0 (T0 (Fp [(1, 0)] 2 c fun _ c => Bd h fun x3 hx3 h => Cb c (slices_Clone___int_int__ok hx3) ⟨.f 2, tt⟩ Tryz.call48 fun i3 _ _ c => ?_))
 refine Fp [] 1 c fun _ c => Esb 0 3 (L i3.1 x3 i3.2) c fun _ c => ?_
 refine E0 (T0 (Fp [(1, 0)] 2 c fun _ c => Bd h fun x4 hx4 h => Cb c (impl_copyTerms_ok hx4) ⟨.f 3, tt⟩ Tryz.call119 fun i4 _ _ c => ?_))
 refine Fp [] 1 c fun _ c => ?_
 try simp only [l1, l2, l3, l4] at c
 refine Esb 0 5 (L i4.1 x4 i4.2) c fun _ c => ?_
 refine E0 (T0 (Fp [(1, 0)] 2 c fun _ c => Bd h fun x5 hx5 h => Cb c (impl_copyTerms_ok hx5) ⟨.f 4, tt⟩ Tryz.call119 fun i5 _ _ c => ?_))
 refine Fp [] 1 c fun _ c => Esb 0 8 (L i5.1 x5 i5.2) c fun _ c => ?_
 refine E0 (T0 (Fp [(1, 0)] 2 c fun _ c => ?_))
 try simp only [l1, l2, l3, l4] at c
 refine Bd h fun x6 hx6 h => Cb c (slices_Clone___int_int__ok hx6) ⟨.f 5, tt⟩ Tryz.call48 fun i6 _ _ c => ?_
 refine Fp [] 1 c fun _ c => Esb 0 9 (L i6.1 x6 i6.2) c fun _ c => ?_
 refine E0 (T0 (Fp [(0, 0)] 1 c fun _ c => Ess 1 [I p0.Pc, L i1.1 x1 i1.2, L i2.1 x2 i2.2, L i3.1 x3 i3.2, I p0.In, L i4.1 x4 i4.2, I p0.Code, I p0.Steps, L i5.1 x5 i5.2, L i6.1 x6 i6.2] c fun _ c => ?_))
 refine E0 ?_
 cases h
 exact wp_ret (Rg c (i1.1, i1.2, i2.1, i2.2, i3.1, i3.2, i4.1, i4.2, i5.1, i5.2, i6.1, i6.2) [2, 3, 4, 5, 6, 7] [] (.cell (α := Agg 9) kk (.b 1) .nil))

theorem impl_MergePaths_ok {n p0 p1 p2 ga0 gc1 ga2 gc3 ga4 gc5 ga6 gc7 ga8 gc9 ga10 gc11 ga12 gc13 ga14 gc15 ga16 gc17 ga18 gc19 ga20 gc21 ga22 gc23 ga24 gc25 r} (h : impl_MergePaths n p0 p1 p2 = some r) : Con Tryz.prog 32 [gV p0 ga0 gc1, pV p1 ga2 gc3 ga4 gc5 ga6 gc7 ga8 gc9 ga10 gc11 ga12 gc13, pV p2 ga14 gc15 ga16 gc17 ga18 gc19 ga20 gc21 ga22 gc23 ga24 gc25] [] [lR ga0 p0.Code gc1, lR ga2 p1.Regs gc3, lR ga4 p1.Mem gc5, lR ga6 p1.Stack gc7, lR ga8 p1.Out gc9, lR ga10 p1.Cond gc11, lR ga12 p1.Turns gc13, lR ga14 p2.Regs gc15, lR ga16 p2.Mem gc17, lR ga18 p2.Stack gc19, lR ga20 p2.Out gc21, lR ga22 p2.Cond gc23, lR ga24 p2.Turns gc25] fun (i : Hp) => ([pJ r.1 i, .bool r.2], [OD (ownT 34) 34 (L i.1 r.1.Regs i.2.1) r.1.Regs, OD (ownT 34) 34 (L i.2.2.1 r.1.Mem i.2.2.2.1) r.1.Mem, sl3 (L i.2.2.2.2.1 r.1.Stack i.2.2.2.2.2.1) r.1.Stack, OD (ownT 34) 34 (L i.2.2.2.2.2.2.1 r.1.Out i.2.2.2.2.2.2.2.1) r.1.Out, OD (ownT 34) 34 (L i.2.2.2.2.2.2.2.2.1 r.1.Cond i.2.2.2.2.2.2.2.2.2.1) r.1.Cond, sl3 (L i.2.2.2.2.2.2.2.2.2.2.1 r.1.Turns i.2.2.2.2.2.2.2.2.2.2.2) r.1.Turns], []) := by
 unfold impl_MergePaths at h
 refine En Tryz.func32 rfl Tryz.ntmps32 fun _ fr w c => ?_
 refine T0 (Ebx (gC p0 ga0 gc1) c fun b1 _ _ c => ?_)
 refine Ebx (pC p1 ga2 gc3 ga4 gc5 ga6 gc7 ga8 gc9 ga10 gc11 ga12 gc13) c fun b2 _ _ c => ?_
 refine Ebx (pC p2 ga14 gc15 ga16 gc17 ga18 gc19 ga20 gc21 ga22 gc23 ga24 gc25) c fun b3 _ _ c => ?_
 refine Eal pZ c fun b4 _ _ c => ?_
 refine Fp [] 1 c fun _ c => E0 (S0 (Bd h fun x1 hx1 h => Bd h fun x2 hx2 h => S0 (rZ [(2, .eq (.bool x1)), (7, .eq (.bool x2))] [(0, 0), (1, 1), (5, 0), (6, 2)] mix c ⟨Ncl c (kN (impl_PathOk_ok hx1)) ⟨.f 0, .f 1, .f 2, .f 3, .f 4, .f 5, .f 6, tt⟩ Tryz.call64, Ncl c (fun hg => impl_PathOk_ok (iteF (gcF hg) hx2)) ⟨.f 0, .f 7, .f 8, .f 9, .f 10, .f 11, .f 12, tt⟩ Tryz.call64, tt⟩ fun _ _ c => I0 c h (fun h => ?_) fun h => ?_)))
 refine T0 (Fp [] 1 c fun _ c => Ess 3 pZ c fun _ c => ?_)
 refine Fp [] 1 c fun _ c => E0 ?_
 replace c := c.nilo (ownT 34) 34
 replace c := c.nilo (ownT 34) 34
 replace c := c.nil (α := Int) 3
 replace c := c.nilo (ownT 34) 34
 replace c := c.nilo (ownT 34) 34
 replace c := c.nil (α := Int) 3
 cases h
 exact wp_ret (tr (Rg c (none, 0, none, 0, none, 0, none, 0, none, 0, none, 0) [4, 5, 6, 7, 8, 9] [] (.cell (α := Agg 9) kk (.b 3) (.tmp .nil))))
 refine K0 (T0 (Fp [(0, 0), (1, 1), (2, 2)] 3 c fun _ c => Bd h fun x3 hx3 h => Cg c (impl_mergePaths_ok hx3) ⟨.f 0, .f 1, .f 2, .f 3, .f 4, .f 5, .f 6, .f 7, .f 8, .f 9, .f 10, .f 11, .f 12, tt⟩ Tryz.call81 fun i1 _ _ c => ?_))
 refine Fp [] 3 c fun _ c => ?_
 try simp only [l1, l2, l3, l4] at c
 refine Eal pZ c fun b5 _ _ c => ?_
 refine Ess 4 (pM x3.1 i1) c fun _ c => ?_
 refine Fp [] 1 c fun _ c => E0 (S0 (P0 [] c fun _ c => I0 c h (fun h => ?_) fun h => ?_))
 refine T0 (Fp [] 1 c fun _ c => Ess 3 pZ c fun _ c => ?_)
 refine Fp [] 1 c fun _ c => E0 ?_
 replace c := c.nilo (ownT 34) 34
 replace c := c.nilo (ownT 34) 34
 replace c := c.nil (α := Int) 3
 replace c := c.nilo (ownT 34) 34
 replace c := c.nilo (ownT 34) 34
 replace c := c.nil (α := Int) 3
 cases h
 exact wp_ret (tr (Rg c (none, 0, none, 0, none, 0, none, 0, none, 0, none, 0) [5, 6, 7, 8, 9, 10] [] (.cell (α := Agg 9) kk (.b 3) (.tmp .nil))))
 refine K0 (T0 (Fp [(0, 4)] 1 c fun _ c => Bd h fun x4 hx4 h => Cb c (impl_copyPath_ok hx4) ⟨.f 13, .f 14, .f 15, .f 16, .f 17, .f 18, tt⟩ Tryz.call82 fun i2 _ _ c => ?_))
 try simp only [l1, l2, l3, l4] at c
 refine Ess 3 (pM x4 i2) c fun _ c => ?_
 refine Fp [] 1 c fun _ c => E0 ?_
 cases h
 exact wp_ret (Rg c (i2.1, i2.2.1, i2.2.2.1, i2.2.2.2.1, i2.2.2.2.2.1, i2.2.2.2.2.2.1, i2.2.2.2.2.2.2.1, i2.2.2.2.2.2.2.2.1, i2.2.2.2.2.2.2.2.2.1, i2.2.2.2.2.2.2.2.2.2.1, i2.2.2.2.2.2.2.2.2.2.2.1, i2.2.2.2.2.2.2.2.2.2.2.2) [5, 6, 7, 8, 9, 10] [] (.cell (α := Agg 9) kk (.b 3) (.tmp .nil)))

theorem laws_eqTerm_laws_eqTermS_rec (n : Nat) : (∀ {p0 p1 ga0 gc1 ga2 gc3 r} (h : laws_eqTerm n p0 p1 = some r), Con Tryz.prog 12 [tV p0 ga0 gc1, tV p1 ga2 gc3] [] [lR ga0 p0.Kids gc1, lR ga2 p1.Kids gc3] fun (_ : Unit) => ([.bool r], [], [])) ∧
    (∀ {p0 p1 ga0 gc1 ga2 gc3 r} (h : laws_eqTermS n p0 p1 = some r), Con Tryz.prog 50 [L ga0 p0 gc1, L ga2 p1 gc3] [] [lR ga0 p0 gc1, lR ga2 p1 gc3] fun (_ : Unit) => ([.bool r], [], [])) := by
 induction n with
 | zero => exact ⟨by intro p0 p1 ga0 gc1 ga2 gc3 r h; simp [laws_eqTerm] at h, by intro p0 p1 ga0 gc1 ga2 gc3 r h; simp [laws_eqTermS] at h⟩
 | succ n ih =>
 obtain ⟨ih0, ih1⟩ := ih
 refine ⟨?_, ?_⟩
 · intro p0 p1 ga0 gc1 ga2 gc3 r h
   rw [laws_eqTerm] at h
   refine En Tryz.func12 rfl Tryz.ntmps12 fun _ fr w c => ?_
   refine T0 (Ebx (tC p0 ga0 gc1) c fun b1 _ _ c => ?_)
   refine Ebx (tC p1 ga2 gc3) c fun b2 _ _ c => ?_
   refine Fp [] 1 c fun _ c => E0 (S0 (P0 [(1, 0), (3, 1)] c fun _ c => I0 c h (fun h => ?_) fun h => ?_))
   refine P0 [] c fun _ c => ?_
   obtain rfl := sj h
   exact wp_ret (tr (Rt c () [] []))
   refine K0 (S0 (P0 [(1, 0), (3, 1)] c fun _ c => I0 c h (fun h => ?_) fun h => ?_))
   refine P0 [] c fun _ c => ?_
   obtain rfl := sj h
   exact wp_ret (tr (Rt c () [] []))
   refine K0 (S0 (P0 [(1, 0), (3, 1)] c fun _ c => I0 c h (fun h => ?_) fun h => ?_))
   refine P0 [] c fun _ c => ?_
   obtain rfl := sj h
   exact wp_ret (tr (Rt c () [] []))
   refine K0 (S0 (P0 [(1, 0), (3, 1)] c fun _ c => I0 c h (fun h => ?_) fun h => ?_))
   refine P0 [] c fun _ c => ?_
   obtain rfl := sj h
   exact wp_ret (tr (Rt c () [] []))
   refine K0 (S0 (T0 (Fp [(1, 0), (3, 1)] 4 c fun _ c => Bd h fun x1 hx1 h => Cb c (ih1 hx1) ⟨.f 0, .f 1, tt⟩ Tryz.call50 fun _ _ _ c => ?_)))
   refine Fp [] 1 c fun _ c => E0 (I0 c h (fun h => ?_) fun h => ?_)
   refine P0 [] c fun _ c => ?_
   obtain rfl := sj h
   exact wp_ret (tr (Rt c () [] []))
   refine K0 (P0 [] c fun _ c => ?_)
   obtain rfl := sj h
   exact wp_ret (Rt c () [] [])
 · intro p0 p1 ga0 gc1 ga2 gc3 r h
   rw [laws_eqTermS] at h
   refine En Tryz.func50 rfl Tryz.ntmps50 fun _ fr w c => ?_
   refine P0 [] c fun _ c => S0 (P0 [] c fun _ c => I0 c h (fun h => ?_) fun h => ?_)
   refine P0 [] c fun _ c => ?_
   obtain rfl := sj h
   exact wp_ret (tr (Rt c () [] []))
   refine K0 (S0 (P0 [] c fun _ c => Bd h fun rl1 hit1 h => ?_))
   have hk1 := h
   refine LpR (fun s1  (_ : Unit) => ([(0, L ga0 p0 gc1), (1, L ga2 p1 gc3), (5, I s1)], id, [])) (fun s  (_ : Unit) => ([], id, [])) hit1 c () (c.rk [] [0, 1]) (fun s1 q1 _ _ _ c h hr1 => ?_) fun s1r _ _ _ hrl c => ?_
   refine S0 (P0 [] c fun _ c => I0 c h (fun h => ?_) fun h => ?_)
   refine K0 (S0 (wp_block (Bd h fun x1 hx1 h => ?_)))
   obtain ⟨ep1, u1, c⟩ := c.elp (.f 0) hx1
   obtain ⟨a1, c1, rfl, c⟩ := c.o_Term 3
   refine Bd h fun x2 hx2 h => ?_
   obtain ⟨ep2, u2, c⟩ := c.elp (.f 1) hx2
   obtain ⟨a2, c2, rfl, c⟩ := c.o_Term 6
   refine Bd h fun x3 hx3 h => S0 (rZ [(2, .eq (.pointer (some ep1))), (3, .eq (tV x1 a1 c1)), (6, .eq (.pointer (some ep2))), (7, .eq (tV x2 a2 c2)), (8, .eq (.bool x3))] [] mix c ⟨Nie c 2, Nle c 2, Nie c 5, Nle c 5, Ncl c (kN (ih0 hx3)) ⟨.f 4, .f 7, tt⟩ Tryz.call12, tt⟩ fun _ _ c => I0 c h (fun h => ?_) fun h => ?_)
   refine P0 [] c fun _ c => ?_
   obtain rfl := hr1 _ (sk h)
   obtain rfl := sj hk1
   exact wp_ret (br (tr (tr (br (tr (Rt c () [] []))))))
   refine K1 (bk (tn (P1 [] c fun _ c => Nx h () (c.rk [] [0, 1]))))
   refine wp_exit (te (te (be ?_)))
   obtain rfl := hr1 _ (sk h)
   exact tn ⟨_, (), rfl, c.rk [] [0, 1]⟩
   subst hrl
   refine P0 [] c fun _ c => ?_
   obtain rfl := sj h
   exact wp_ret (Rt c () [] [])
theorem laws_eqTerm_ok {n : Nat} : ∀ {p0 p1 ga0 gc1 ga2 gc3 r} (h : laws_eqTerm n p0 p1 = some r), Con Tryz.prog 12 [tV p0 ga0 gc1, tV p1 ga2 gc3] [] [lR ga0 p0.Kids gc1, lR ga2 p1.Kids gc3] fun (_ : Unit) => ([.bool r], [], []) := (laws_eqTerm_laws_eqTermS_rec n).1
theorem laws_eqTermS_ok {n : Nat} : ∀ {p0 p1 ga0 gc1 ga2 gc3 r} (h : laws_eqTermS n p0 p1 = some r), Con Tryz.prog 50 [L ga0 p0 gc1, L ga2 p1 gc3] [] [lR ga0 p0 gc1, lR ga2 p1 gc3] fun (_ : Unit) => ([.bool r], [], []) := (laws_eqTerm_laws_eqTermS_rec n).2

theorem laws_eqIntS_ok {n p0 p1 ga0 gc1 ga2 gc3 r} (h : laws_eqIntS n p0 p1 = some r) : Con Tryz.prog 11 [L ga0 p0 gc1, L ga2 p1 gc3] [] [lR ga0 p0 gc1, lR ga2 p1 gc3] fun (_ : Unit) => ([.bool r], [], []) := by
 unfold laws_eqIntS at h
 refine En Tryz.func11 rfl Tryz.ntmps11 fun _ fr w c => ?_
 refine P0 [] c fun _ c => S0 (P0 [] c fun _ c => I0 c h (fun h => ?_) fun h => ?_)
 refine P0 [] c fun _ c => ?_
 obtain rfl := sj h
 exact wp_ret (tr (Rt c () [] []))
 refine K0 (S0 (P0 [] c fun _ c => Bd h fun rl1 hit1 h => ?_))
 have hk1 := h
 refine LpR (fun s1  (_ : Unit) => ([(0, L ga0 p0 gc1), (1, L ga2 p1 gc3), (5, I s1)], id, [])) (fun s  (_ : Unit) => ([], id, [])) hit1 c () (c.rk [] [0, 1]) (fun s1 q1 _ _ _ c h hr1 => ?_) fun s1r _ _ _ hrl c => ?_
 refine S0 (P0 [] c fun _ c => I0 c h (fun h => ?_) fun h => ?_)
 refine K0 (S0 (wp_block (Bd h fun x1 hx1 h => Bd h fun x2 hx2 h => S0 (rZ [(2, Pd.el (x1 : Int)), (3, .eq (I x1)), (6, Pd.el (x2 : Int)), (7, .eq (I x2))] [] mix c ⟨Nid c (.f 0) (kN hx1), Nld c 2 (q := x1) (atN 2), Nid c (.f 1) (kN hx2), Nld c 6 (q := x2) (atN 6), tt⟩ fun _ _ c => I0 c h (fun h => ?_) fun h => ?_))))
 refine P0 [] c fun _ c => ?_
 obtain rfl := hr1 _ (sk h)
 obtain rfl := sj hk1
 exact wp_ret (br (tr (tr (br (tr (Rt c () [] []))))))
 refine K1 (bk (tn (P1 [] c fun _ c => Nx h () (c.rk [] [0, 1]))))
 refine wp_exit (te (te (be ?_)))
 obtain rfl := hr1 _ (sk h)
 exact tn ⟨_, (), rfl, c.rk [] [0, 1]⟩
 subst hrl
 refine P0 [] c fun _ c => ?_
 obtain rfl := sj h
 exact wp_ret (Rt c () [] [])

theorem laws_eqPath_ok {n p0 p1 ga0 gc1 ga2 gc3 ga4 gc5 ga6 gc7 ga8 gc9 ga10 gc11 ga12 gc13 ga14 gc15 ga16 gc17 ga18 gc19 ga20 gc21 ga22 gc23 r} (h : laws_eqPath n p0 p1 = some r) : Con Tryz.prog 33 [pV p0 ga0 gc1 ga2 gc3 ga4 gc5 ga6 gc7 ga8 gc9 ga10 gc11, pV p1 ga12 gc13 ga14 gc15 ga16 gc17 ga18 gc19 ga20 gc21 ga22 gc23] [] [lR ga0 p0.Regs gc1, lR ga2 p0.Mem gc3, lR ga4 p0.Stack gc5, lR ga6 p0.Out gc7, lR ga8 p0.Cond gc9, lR ga10 p0.Turns gc11, lR ga12 p1.Regs gc13, lR ga14 p1.Mem gc15, lR ga16 p1.Stack gc17, lR ga18 p1.Out gc19, lR ga20 p1.Cond gc21, lR ga22 p1.Turns gc23] fun (_ : Unit) => ([.bool r], [], []) := by
 unfold laws_eqPath at h
 refine En Tryz.func33 rfl Tryz.ntmps33 fun _ fr w c => ?_
 refine T0 (Ebx (pC p0 ga0 gc1 ga2 gc3 ga4 gc5 ga6 gc7 ga8 gc9 ga10 gc11) c fun b1 _ _ c => ?_)
 refine Ebx (pC p1 ga12 gc13 ga14 gc15 ga16 gc17 ga18 gc19 ga20 gc21 ga22 gc23) c fun b2 _ _ c => ?_
 refine Fp [] 1 c fun _ c => E0 (S0 (P0 [(1, 0), (3, 1)] c fun _ c => I0 c h (fun h => ?_) fun h => ?_))
 refine P0 [] c fun _ c => ?_
 obtain rfl := sj h
 exact wp_ret (tr (Rt c () [] []))
 refine K0 (S0 (T0 (Fp [(1, 0), (3, 1)] 4 c fun _ c => Bd h fun x1 hx1 h => Cb c (laws_eqTermS_ok hx1) ⟨.f 0, .f 6, tt⟩ Tryz.call50 fun _ _ _ c => ?_)))
 refine Fp [] 1 c fun _ c => E0 (I0 c h (fun h => ?_) fun h => ?_)
 refine P0 [] c fun _ c => ?_
 obtain rfl := sj h
 exact wp_ret (tr (Rt c () [] []))
 refine K0 (S0 (T0 (Fp [(1, 0), (3, 1)] 4 c fun _ c => Bd h fun x2 hx2 h => Cb c (laws_eqTermS_ok hx2) ⟨.f 1, .f 7, tt⟩ Tryz.call50 fun _ _ _ c => ?_)))
 refine Fp [] 1 c fun _ c => E0 (I0 c h (fun h => ?_) fun h => ?_)
 refine P0 [] c fun _ c => ?_
 obtain rfl := sj h
 exact wp_ret (tr (Rt c () [] []))
 refine K0 (S0 (T0 (Fp [(1, 0), (3, 1)] 4 c fun _ c => Bd h fun x3 hx3 h => Cb c (laws_eqIntS_ok hx3) ⟨.f 2, .f 8, tt⟩ Tryz.call11 fun _ _ _ c => ?_)))
 refine Fp [] 1 c fun _ c => E0 (I0 c h (fun h => ?_) fun h => ?_)
 refine P0 [] c fun _ c => ?_
 obtain rfl := sj h
 exact wp_ret (tr (Rt c () [] []))
 refine K0 (S0 (P0 [(1, 0), (3, 1)] c fun _ c => I0 c h (fun h => ?_) fun h => ?_))
 refine P0 [] c fun _ c => ?_
 obtain rfl := sj h
 exact wp_ret (tr (Rt c () [] []))
 refine K0 (S0 (T0 (Fp [(1, 0), (3, 1)] 4 c fun _ c => ?_)))
 try simp only [l1, l2, l3, l4] at c
 refine Bd h fun x4 hx4 h => Cb c (laws_eqTermS_ok hx4) ⟨.f 3, .f 9, tt⟩ Tryz.call50 fun _ _ _ c => ?_
 refine Fp [] 1 c fun _ c => E0 (I0 c h (fun h => ?_) fun h => ?_)
 refine P0 [] c fun _ c => ?_
 obtain rfl := sj h
 exact wp_ret (tr (Rt c () [] []))
 refine K0 (S0 (P0 [(1, 0), (3, 1)] c fun _ c => I0 c h (fun h => ?_) fun h => ?_))
 refine P0 [] c fun _ c => ?_
 obtain rfl := sj h
 exact wp_ret (tr (Rt c () [] []))
 refine K0 (S0 (P0 [(1, 0), (3, 1)] c fun _ c => I0 c h (fun h => ?_) fun h => ?_))
 refine P0 [] c fun _ c => ?_
 obtain rfl := sj h
 exact wp_ret (tr (Rt c () [] []))
 refine K0 (S0 (T0 (Fp [(1, 0), (3, 1)] 4 c fun _ c => Bd h fun x5 hx5 h => Cb c (laws_eqTermS_ok hx5) ⟨.f 4, .f 10, tt⟩ Tryz.call50 fun _ _ _ c => ?_)))
 refine Fp [] 1 c fun _ c => E0 (I0 c h (fun h => ?_) fun h => ?_)
 refine P0 [] c fun _ c => ?_
 obtain rfl := sj h
 exact wp_ret (tr (Rt c () [] []))
 refine K0 (S0 (T0 (Fp [(1, 0), (3, 1)] 4 c fun _ c => Bd h fun x6 hx6 h => Cb c (laws_eqIntS_ok hx6) ⟨.f 5, .f 11, tt⟩ Tryz.call11 fun _ _ _ c => ?_)))
 refine Fp [] 1 c fun _ c => E0 (I0 c h (fun h => ?_) fun h => ?_)
 refine P0 [] c fun _ c => ?_
 obtain rfl := sj h
 exact wp_ret (tr (Rt c () [] []))
 refine K0 (P0 [] c fun _ c => ?_)
 obtain rfl := sj h
 exact wp_ret (Rt c () [] [])

theorem laws_eqIns_ok {p0 p1 r} (h : laws_eqIns p0 p1 = some r) : Con Tryz.prog 120 [nV p0, nV p1] [] [] fun (_ : Unit) => ([.bool r], [], []) := by
 unfold laws_eqIns at h
 refine En Tryz.func120 rfl Tryz.ntmps120 fun _ fr w c => ?_
 refine T0 (Ebx (nC p0) c fun b1 _ _ c => ?_)
 refine Ebx (nC p1) c fun b2 _ _ c => ?_
 refine Fp [] 1 c fun _ c => E0 (S0 (P0 [(1, 0), (3, 1)] c fun _ c => I0 c h (fun h => ?_) fun h => ?_))
 refine P0 [] c fun _ c => ?_
 obtain rfl := sj h
 exact wp_ret (tr (Rt c () [] []))
 refine K0 (S0 (P0 [(1, 0), (3, 1)] c fun _ c => I0 c h (fun h => ?_) fun h => ?_))
 refine P0 [] c fun _ c => ?_
 obtain rfl := sj h
 exact wp_ret (tr (Rt c () [] []))
 refine K0 (S0 (P0 [(1, 0), (3, 1)] c fun _ c => I0 c h (fun h => ?_) fun h => ?_))
 refine P0 [] c fun _ c => ?_
 obtain rfl := sj h
 exact wp_ret (tr (Rt c () [] []))
 refine K0 (S0 (P0 [(1, 0), (3, 1)] c fun _ c => I0 c h (fun h => ?_) fun h => ?_))
 refine P0 [] c fun _ c => ?_
 obtain rfl := sj h
 exact wp_ret (tr (Rt c () [] []))
 refine K0 (P0 [] c fun _ c => ?_)
 obtain rfl := sj h
 exact wp_ret (Rt c () [] [])

theorem laws_eqInsS_ok {n p0 p1 ga0 gc1 ga2 gc3 r} (h : laws_eqInsS n p0 p1 = some r) : Con Tryz.prog 69 [L ga0 p0 gc1, L ga2 p1 gc3] [] [lR ga0 p0 gc1, lR ga2 p1 gc3] fun (_ : Unit) => ([.bool r], [], []) := by
 unfold laws_eqInsS at h
 refine En Tryz.func69 rfl Tryz.ntmps69 fun _ fr w c => ?_
 refine P0 [] c fun _ c => S0 (P0 [] c fun _ c => I0 c h (fun h => ?_) fun h => ?_)
 refine P0 [] c fun _ c => ?_
 obtain rfl := sj h
 exact wp_ret (tr (Rt c () [] []))
 refine K0 (S0 (P0 [] c fun _ c => Bd h fun rl1 hit1 h => ?_))
 have hk1 := h
 refine LpR (fun s1  (_ : Unit) => ([(0, L ga0 p0 gc1), (1, L ga2 p1 gc3), (5, I s1)], id, [])) (fun s  (_ : Unit) => ([], id, [])) hit1 c () (c.rk [] [0, 1]) (fun s1 q1 _ _ _ c h hr1 => ?_) fun s1r _ _ _ hrl c => ?_
 refine S0 (P0 [] c fun _ c => I0 c h (fun h => ?_) fun h => ?_)
 refine K0 (S0 (wp_block (Bd h fun x1 hx1 h => Bd h fun x2 hx2 h => Bd h fun x3 hx3 h => S0 (rZ [(2, Pd.el (x1 : D.Ins)), (3, .eq (nV x1)), (6, Pd.el (x2 : D.Ins)), (7, .eq (nV x2)), (8, .eq (.bool x3))] [] mix c ⟨Nid c (.f 0) (kN hx1), Nld c 2 (q := x1) (atN 2), Nid c (.f 1) (kN hx2), Nld c 6 (q := x2) (atN 6), Ncl c (kN (laws_eqIns_ok hx3)) tt Tryz.call120, tt⟩ fun _ _ c => I0 c h (fun h => ?_) fun h => ?_))))
 refine P0 [] c fun _ c => ?_
 obtain rfl := hr1 _ (sk h)
 obtain rfl := sj hk1
 exact wp_ret (br (tr (tr (br (tr (Rt c () [] []))))))
 refine K1 (bk (tn (P1 [] c fun _ c => Nx h () (c.rk [] [0, 1]))))
 refine wp_exit (te (te (be ?_)))
 obtain rfl := hr1 _ (sk h)
 exact tn ⟨_, (), rfl, c.rk [] [0, 1]⟩
 subst hrl
 refine P0 [] c fun _ c => ?_
 obtain rfl := sj h
 exact wp_ret (Rt c () [] [])

theorem laws_eqProgram_ok {n p0 p1 ga0 gc1 ga2 gc3 r} (h : laws_eqProgram n p0 p1 = some r) : Con Tryz.prog 24 [gV p0 ga0 gc1, gV p1 ga2 gc3] [] [lR ga0 p0.Code gc1, lR ga2 p1.Code gc3] fun (_ : Unit) => ([.bool r], [], []) := by
 unfold laws_eqProgram at h
 refine En Tryz.func24 rfl Tryz.ntmps24 fun _ fr w c => ?_
 refine T0 (Ebx (gC p0 ga0 gc1) c fun b1 _ _ c => ?_)
 refine Ebx (gC p1 ga2 gc3) c fun b2 _ _ c => ?_
 refine Fp [] 1 c fun _ c => E0 (S0 (P0 [(1, 0), (3, 1)] c fun _ c => I0 c h (fun h => ?_) fun h => ?_))
 refine P0 [] c fun _ c => ?_
 obtain rfl := sj h
 exact wp_ret (tr (Rt c () [] []))
 refine K0 (S0 (P0 [(1, 0), (3, 1)] c fun _ c => I0 c h (fun h => ?_) fun h => ?_))
 refine P0 [] c fun _ c => ?_
 obtain rfl := sj h
 exact wp_ret (tr (Rt c () [] []))
 refine K0 (S0 (P0 [(1, 0), (3, 1)] c fun _ c => I0 c h (fun h => ?_) fun h => ?_))
 refine P0 [] c fun _ c => ?_
 obtain rfl := sj h
 exact wp_ret (tr (Rt c () [] []))
 refine K0 (S0 (T0 (Fp [(1, 0), (3, 1)] 4 c fun _ c => Bd h fun x1 hx1 h => Cb c (laws_eqInsS_ok hx1) ⟨.f 0, .f 1, tt⟩ Tryz.call69 fun _ _ _ c => ?_)))
 refine Fp [] 1 c fun _ c => E0 (I0 c h (fun h => ?_) fun h => ?_)
 refine P0 [] c fun _ c => ?_
 obtain rfl := sj h
 exact wp_ret (tr (Rt c () [] []))
 refine K0 (P0 [] c fun _ c => ?_)
 obtain rfl := sj h
 exact wp_ret (Rt c () [] [])

theorem laws_markInsS_ok {n p0 p1 ga0 gc1 gn2 r} (h : laws_markInsS n p0 p1 = some r) : Con Tryz.prog 70 [.slice ga0 gn2 gc1, I p1] [sl141 (.slice ga0 gn2 gc1) p0] [] fun (_ : Unit) => ([I r.1], [sl141 (.slice ga0 gn2 gc1) r.2], []) := by
 unfold laws_markInsS at h
 refine En Tryz.func70 rfl Tryz.ntmps70 fun _ fr w c => ?_
 obtain ⟨rfl, c⟩ := c.relen 0
 refine P0 [] c fun _ c => S0 (P0 [] c fun _ c => Bd h fun rl1 hit1 h => Lp (fun s1  (_ : Unit) => ([(0, L ga0 p0 gc1), (1, I s1.1), (5, I s1.2.1)], fun Γ => Γ.set 0 (sl141 (L ga0 p0 gc1) s1.2.2), [])) (fun  (_ : Unit) => ([(1, I rl1.1)], fun Γ => Γ.set 0 (sl141 (L ga0 p0 gc1) rl1.2), [])) hit1 c () (c.rk [0] []) (fun s1 q1 _ _ _ c h hr1 => ?_) fun _ _ _ c => ?_)
 refine S0 (P0 [] c fun _ c => I0 c h (fun h => ?_) fun h => ?_)
 refine K0 (S0 (wp_block (T0 (Fp [] 3 c fun _ c => Bd h fun x1 hx1 h => Bd h fun x2 hx2 h => Esf 0 (I s1.1) c hx1 hx2 fun _ _ _ _ c => ?_))))
 refine E0 (P0 [] c fun _ c => T0 (Fp [] 3 c fun _ c => Bd h fun x3 hx3 h => Bd h fun x4 hx4 h => Esf 0 (I (w64 (s1.1 + 1))) c hx3 hx4 fun _ _ _ _ c => ?_))
 refine E0 (P0 [] c fun _ c => T0 (Fp [] 3 c fun _ c => Bd h fun x5 hx5 h => Bd h fun x6 hx6 h => Esf 0 (I (w64 ((w64 (s1.1 + 1)) + 1))) c hx5 hx6 fun _ _ _ _ c => ?_))
 refine E0 (P0 [] c fun _ c => T0 (Fp [] 3 c fun _ c => Bd h fun x7 hx7 h => Bd h fun x8 hx8 h => Esf 0 (I (w64 ((w64 ((w64 (s1.1 + 1)) + 1)) + 1))) c hx7 hx8 fun _ _ _ _ c => ?_))
 refine E0 (Tq (P1 [] c fun _ c => bk (tn (P1 [] c fun _ c => Nx h () (c.rk [0] [])))))
 refine wp_exit (te (te (be ?_)))
 obtain rfl := hr1 _ (sk h)
 exact tn ⟨(), c.rk [0] []⟩
 refine P0 [] c fun _ c => ?_
 cases h
 exact wp_ret (Rt c () [0] [])

theorem laws_markProgram_ok {n p0 p1 ga0 gc1 gn2 r} (h : laws_markProgram n p0 p1 = some r) : Con Tryz.prog 26 [.agg #[I p0.W, I p0.Mem, I p0.In, .slice ga0 gn2 gc1], I p1] [sl141 (.slice ga0 gn2 gc1) p0.Code] [] fun (_ : Unit) => ([I r.1], [sl141 (.slice ga0 gn2 gc1) r.2.Code], []) := by
 unfold laws_markProgram at h
 refine En Tryz.func26 rfl Tryz.ntmps26 fun _ fr w c => ?_
 obtain ⟨rfl, c⟩ := c.relen 0
 refine T0 (Ebx (gC p0 ga0 gc1) c fun b1 _ _ c => ?_)
 refine Fp [] 1 c fun _ c => E0 (T0 (Fp [(1, 0)] 3 c fun _ c => Bd h fun x1 hx1 h => Ca [0] c (laws_markInsS_ok hx1) tt Tryz.call70 fun _ _ _ c => ?_))
 refine Fp [] 1 c fun _ c => E0 (P0 [] c fun _ c => ?_)
 cases h
 exact wp_ret (Rt c () [1] [])

theorem laws_markText_ok {n p0 r} (h : laws_markText n p0 = some r) : Con Tryz.prog 103 [I p0] [] [] fun (_ : Unit) => ([Str.val r], [], []) := by
 unfold laws_markText at h
 refine En Tryz.func103 rfl Tryz.ntmps103 fun _ fr w c => ?_
 refine P0 [] c fun _ c => S0 (P0 [] c fun _ c => I0 c h (fun h => ?_) fun h => ?_)
 refine P0 [] c fun _ c => ?_
 cases h
 exact wp_ret (tr (Rt c () [] []))
 refine K0 (P0 [] c fun _ c => Bd h fun rl1 hit1 h => S0 (Lp (fun s1  (_ : Unit) => ([(0, I s1.1), (3, Str.val s1.2)], id, [])) (fun  (_ : Unit) => ([(3, Str.val rl1)], id, [])) hit1 c () (c.rk [] []) (fun s1 q1 _ _ _ c h hr1 => ?_) fun _ _ _ c => ?_))
 refine S0 (P0 [] c fun _ c => I0 c h (fun h => ?_) fun h => ?_)
 refine K0 (wp_block (T0 (Fp [] 1 c fun _ c => Bd h fun x1 hx1 h => Erem c hx1 fun _ c => ?_)))
 refine Fp [] 2 c fun _ c => Elt 5 ([(Byt.mk (IntKind.u8.wrap (w64 (48 + x1))))] : List Byt) c fun a1 c1 _ _ c => ?_
 refine Ebs c (.g 0) (fun _ c => ?_) Tryz.underlying170
 refine Fp [] 1 c fun _ c => Bd h fun x2 hx2 h => Ecat c hx2 fun _ c => ?_
 refine Fp [] 1 c fun _ c => E0 (T1 (Fp [] 1 c fun _ c => Bd h fun x3 hx3 h => Equo c hx3 fun _ c => ?_))
 refine Fp [] 1 c fun _ c => E1 (bk (tn (Nx h () (c.rk [] []))))
 refine wp_exit (te (te (be ?_)))
 obtain rfl := hr1 _ (sk h)
 exact tn ⟨(), c.rk [] []⟩
 refine T0 (Fp [] 1 c fun _ c => Bd h fun x4 hx4 h => Ecat c hx4 fun _ c => ?_)
 refine Fp [] 1 c fun _ c => E0 ?_
 obtain rfl := sj h
 exact wp_ret (Rt c () [] [])

theorem laws_markTermS_ok {n : Nat} : ∀ {p0 p1 ga0 gc1 gn2 r} (h : laws_markTermS n p0 p1 = some r), Con Tryz.prog 51 [.slice ga0 gn2 gc1, I p1] [OD (ownT 34) 34 (.slice ga0 gn2 gc1) p0] [] fun (_ : Unit) => ([I r.1], [OD (ownT 34) 34 (.slice ga0 gn2 gc1) r.2], []) := by
 induction n with
 | zero => intro p0 p1 ga0 gc1 gn2 r h; simp [laws_markTermS] at h
 | succ n ih =>
 intro p0 p1 ga0 gc1 gn2 r h
 rw [laws_markTermS] at h
 refine En Tryz.func51 rfl Tryz.ntmps51 fun _ fr w c => ?_
 obtain ⟨rfl, c⟩ := c.releno 0
 refine P0 [] c fun _ c => S0 (P0 [] c fun _ c => Bd h fun rl1 hit1 h => Lp (fun s1  (_ : Unit) => ([(0, L ga0 p0 gc1), (1, I s1.1), (5, I s1.2.1)], fun Γ => Γ.set 0 (OD (ownT 34) 34 (L ga0 p0 gc1) s1.2.2), [])) (fun  (_ : Unit) => ([(1, I rl1.1)], fun Γ => Γ.set 0 (OD (ownT 34) 34 (L ga0 p0 gc1) rl1.2), [])) hit1 c () (c.rk [0] []) (fun s1 q1 _ _ _ c h hr1 => ?_) fun _ _ _ c => ?_)
 refine S0 (P0 [] c fun _ c => I0 c h (fun h => ?_) fun h => ?_)
 refine K0 (S0 (wp_block (T0 (Fp [] 3 c fun _ c => Bd h fun x1 hx1 h => ?_))))
 obtain ⟨a1, c1, c⟩ := c.fo_Term 0 hx1
 refine Eohs 0 (I s1.1) (Rw.Term.mk s1.1 x1.W x1.N x1.Name ⟨a1, List.length x1.Kids, c1⟩) c fun _ _ _ _ c => ?_
 refine E0 (P0 [] c fun _ c => T0 (Fp [] 3 c fun _ c => Eohs 1 (I (w64 (s1.1 + 1))) (Rw.Term.mk s1.1 (w64 (s1.1 + 1)) x1.N x1.Name ⟨a1, List.length x1.Kids, c1⟩) c fun _ _ _ _ c => ?_))
 refine E0 (P0 [] c fun _ c => T0 (Fp [] 3 c fun _ c => ?_))
 replace c := c.gm [OD (ownT 34) 34 (L a1 x1.Kids c1) x1.Kids, OH (ownT 34) 34 (L ga0 p0 gc1) s1.2.1 (Rw.Term.mk s1.1 (w64 (s1.1 + 1)) x1.N x1.Name ⟨a1, List.length x1.Kids, c1⟩) s1.2.2]
 refine Eohs 1 (I (w64 ((w64 (s1.1 + 1)) + 1))) (Rw.Term.mk s1.1 (w64 (s1.1 + 1)) (w64 ((w64 (s1.1 + 1)) + 1)) x1.Name ⟨a1, List.length x1.Kids, c1⟩) c fun _ _ _ _ c => ?_
 refine E0 (P0 [] c fun _ c => T0 (Fp [] 3 c fun _ c => Bd h fun x2 hx2 h => Cb c (laws_markText_ok hx2) tt Tryz.call103 fun _ _ _ c => ?_))
 refine Eohs 1 (Str.val x2) (Rw.Term.mk s1.1 (w64 (s1.1 + 1)) (w64 ((w64 (s1.1 + 1)) + 1)) x2 ⟨a1, List.length x1.Kids, c1⟩) c fun _ _ _ _ c => ?_
 refine E0 (P0 [] c fun _ c => T1 (Fp [] 2 c fun _ c => ?_))
 replace c := c.gm [OD (ownT 34) 34 (L a1 x1.Kids c1) x1.Kids, OH (ownT 34) 34 (L ga0 p0 gc1) s1.2.1 (Rw.Term.mk s1.1 (w64 (s1.1 + 1)) (w64 ((w64 (s1.1 + 1)) + 1)) x2 ⟨a1, List.length x1.Kids, c1⟩) s1.2.2]
 refine Eohl 1 (L a1 x1.Kids c1) c fun _ _ _ c => ?_
 refine Fp [] 1 c fun _ c => Bd h fun x3 hx3 h => Ca [0] c (ih hx3) tt Tryz.call51 fun _ _ _ c => ?_
 refine Fp [] 1 c fun _ c => E1 (bk (tn (P1 [] c fun _ c => Bd h fun x4 hx4 h => ?_)))
 replace c := c.un_Term (E := 34) (v := L ga0 p0 gc1) (y := (D.Term.mk s1.1 (w64 (s1.1 + 1)) (w64 ((w64 (s1.1 + 1)) + 1)) x2 x3.2)) (b := a1) (m := List.length x1.Kids) (cp := c1) 0 1 hx4
 replace c := c.gm [OD (ownT 34) 34 (L ga0 p0 gc1) x4]
 exact Nx h () (c.rk [0] [])
 refine wp_exit (te (te (be ?_)))
 obtain rfl := hr1 _ (sk h)
 exact tn ⟨(), c.rk [0] []⟩
 refine P0 [] c fun _ c => ?_
 cases h
 exact wp_ret (Rt c () [0] [])

theorem laws_markIntS_ok {n p0 p1 ga0 gc1 gn2 r} (h : laws_markIntS n p0 p1 = some r) : Con Tryz.prog 15 [.slice ga0 gn2 gc1, I p1] [sl3 (.slice ga0 gn2 gc1) p0] [] fun (_ : Unit) => ([I r.1], [sl3 (.slice ga0 gn2 gc1) r.2], []) := by
 unfold laws_markIntS at h
 refine En Tryz.func15 rfl Tryz.ntmps15 fun _ fr w c => ?_
 obtain ⟨rfl, c⟩ := c.relen 0
 refine P0 [] c fun _ c => S0 (P0 [] c fun _ c => Bd h fun rl1 hit1 h => Lp (fun s1  (_ : Unit) => ([(0, L ga0 p0 gc1), (1, I s1.1), (5, I s1.2.1)], fun Γ => Γ.set 0 (sl3 (L ga0 p0 gc1) s1.2.2), [])) (fun  (_ : Unit) => ([(1, I rl1.1)], fun Γ => Γ.set 0 (sl3 (L ga0 p0 gc1) rl1.2), [])) hit1 c () (c.rk [0] []) (fun s1 q1 _ _ _ c h hr1 => ?_) fun _ _ _ c => ?_)
 refine S0 (P0 [] c fun _ c => I0 c h (fun h => ?_) fun h => ?_)
 refine K0 (S0 (wp_block (T0 (Fp [] 3 c fun _ c => Bd h fun x1 hx1 h => Eset 0 c hx1 fun _ _ _ c => ?_))))
 refine E0 (Tq (P1 [] c fun _ c => bk (tn (P1 [] c fun _ c => Nx h () (c.rk [0] [])))))
 refine wp_exit (te (te (be ?_)))
 obtain rfl := hr1 _ (sk h)
 exact tn ⟨(), c.rk [0] []⟩
 refine P0 [] c fun _ c => ?_
 cases h
 exact wp_ret (Rt c () [0] [])

theorem laws_markPath_ok {n p0 p1 ga0 gc1 ga2 gc3 ga4 gc5 ga6 gc7 ga8 gc9 ga10 gc11 gn12 gn13 gn14 gn15 gn16 gn17 r} (h : laws_markPath n p0 p1 = some r) : Con Tryz.prog 34 [.agg #[I p0.Pc, .slice ga0 gn12 gc1, .slice ga2 gn13 gc3, .slice ga4 gn14 gc5, I p0.In, .slice ga6 gn15 gc7, I p0.Code, I p0.Steps, .slice ga8 gn16 gc9, .slice ga10 gn17 gc11], I p1] [OD (ownT 34) 34 (.slice ga0 gn12 gc1) p0.Regs, OD (ownT 34) 34 (.slice ga2 gn13 gc3) p0.Mem, sl3 (.slice ga4 gn14 gc5) p0.Stack, OD (ownT 34) 34 (.slice ga6 gn15 gc7) p0.Out, OD (ownT 34) 34 (.slice ga8 gn16 gc9) p0.Cond, sl3 (.slice ga10 gn17 gc11) p0.Turns] [] fun (_ : Unit) => ([I r.1], [OD (ownT 34) 34 (.slice ga0 gn12 gc1) r.2.Regs, OD (ownT 34) 34 (.slice ga2 gn13 gc3) r.2.Mem, sl3 (.slice ga4 gn14 gc5) r.2.Stack, OD (ownT 34) 34 (.slice ga6 gn15 gc7) r.2.Out, OD (ownT 34) 34 (.slice ga8 gn16 gc9) r.2.Cond, sl3 (.slice ga10 gn17 gc11) r.2.Turns], []) := by
 unfold laws_markPath at h
 refine En Tryz.func34 rfl Tryz.ntmps34 fun _ fr w c => ?_
 obtain ⟨rfl, c⟩ := c.releno 0
 obtain ⟨rfl, c⟩ := c.releno 1
 obtain ⟨rfl, c⟩ := c.relen 2
 obtain ⟨rfl, c⟩ := c.releno 3
 obtain ⟨rfl, c⟩ := c.releno 4
 obtain ⟨rfl, c⟩ := c.relen 5
 refine T0 (Ebx (pC p0 ga0 gc1 ga2 gc3 ga4 gc5 ga6 gc7 ga8 gc9 ga10 gc11) c fun b1 _ _ c => ?_)
 refine Fp [] 1 c fun _ c => E0 (T0 (Fp [(1, 0)] 3 c fun _ c => Bd h fun x1 hx1 h => Ca [0] c (laws_markTermS_ok hx1) tt Tryz.call51 fun _ _ _ c => ?_))
 refine Fp [] 1 c fun _ c => E0 (T0 (Fp [(1, 0)] 3 c fun _ c => Bd h fun x2 hx2 h => Ca [0] c (laws_markTermS_ok hx2) tt Tryz.call51 fun _ _ _ c => ?_))
 refine Fp [] 1 c fun _ c => E0 (T0 (Fp [(1, 0)] 3 c fun _ c => ?_))
 replace c := c.gm [sl3 (L ga4 p0.Stack gc5) p0.Stack, OD (ownT 34) 34 (L ga6 p0.Out gc7) p0.Out, OD (ownT 34) 34 (L ga8 p0.Cond gc9) p0.Cond, sl3 (L ga10 p0.Turns gc11) p0.Turns, BX b1 66 (pC p0 ga0 gc1 ga2 gc3 ga4 gc5 ga6 gc7 ga8 gc9 ga10 gc11), OD (ownT 34) 34 (L ga0 p0.Regs gc1) x1.2, OD (ownT 34) 34 (L ga2 p0.Mem gc3) x2.2]
 refine Bd h fun x3 hx3 h => Ca [0] c (laws_markIntS_ok hx3) tt Tryz.call15 fun _ _ _ c => ?_
 refine Fp [] 1 c fun _ c => E0 (T0 (Fp [(1, 0)] 3 c fun _ c => Bd h fun x4 hx4 h => Ca [0] c (laws_markTermS_ok hx4) tt Tryz.call51 fun _ _ _ c => ?_))
 refine Fp [] 1 c fun _ c => E0 (T0 (Fp [(1, 0)] 3 c fun _ c => Bd h fun x5 hx5 h => Ca [0] c (laws_markTermS_ok hx5) tt Tryz.call51 fun _ _ _ c => ?_))
 refine Fp [] 1 c fun _ c => E0 (T0 (Fp [(1, 0)] 3 c fun _ c => ?_))
 replace c := c.gm [sl3 (L ga10 p0.Turns gc11) p0.Turns, BX b1 66 (pC p0 ga0 gc1 ga2 gc3 ga4 gc5 ga6 gc7 ga8 gc9 ga10 gc11), OD (ownT 34) 34 (L ga0 p0.Regs gc1) x1.2, OD (ownT 34) 34 (L ga2 p0.Mem gc3) x2.2, sl3 (L ga4 p0.Stack gc5) x3.2, OD (ownT 34) 34 (L ga6 p0.Out gc7) x4.2, OD (ownT 34) 34 (L ga8 p0.Cond gc9) x5.2]
 refine Bd h fun x6 hx6 h => Ca [0] c (laws_markIntS_ok hx6) tt Tryz.call15 fun _ _ _ c => ?_
 refine Fp [] 1 c fun _ c => E0 (P0 [] c fun _ c => ?_)
 cases h
 exact wp_ret (Rt c () [1, 2, 3, 4, 5, 6] [])

theorem laws_heldTermS_ok {n : Nat} : ∀ {p0 p1 ga0 gc1 r} (h : laws_heldTermS n p0 p1 = some r), Con Tryz.prog 71 [L ga0 p0 gc1, I p1] [] [lR ga0 p0 gc1] fun (_ : Unit) => ([I r], [], []) := by
 induction n with
 | zero => intro p0 p1 ga0 gc1 r h; simp [laws_heldTermS] at h
 | succ n ih =>
 intro p0 p1 ga0 gc1 r h
 rw [laws_heldTermS] at h
 refine En Tryz.func71 rfl Tryz.ntmps71 fun _ fr w c => ?_
 refine P0 [] c fun _ c => S0 (P0 [] c fun _ c => Bd h fun rl1 hit1 h => ?_)
 have hk1 := h
 refine LpR (fun s1  (_ : Unit) => ([(0, L ga0 p0 gc1), (1, I s1.1), (5, I s1.2)], id, [])) (fun s  (_ : Unit) => ([(1, I s)], id, [])) hit1 c () (c.rk [] [0]) (fun s1 q1 _ _ _ c h hr1 => ?_) fun s1r _ _ _ hrl c => ?_
 refine S0 (P0 [] c fun _ c => I0 c h (fun h => ?_) fun h => ?_)
 refine K0 (S0 (wp_block (S0 (T0 (Fp [] 2 c fun _ c => Bd h fun x1 hx1 h => Eef c (.f 0) hx1 fc34_0 fun _ _ _ c => ?_)))))
 refine Fp [] 2 c fun _ c => E0 (I0 c h (fun h => ?_) fun h => ?_)
 refine P0 [] c fun _ c => ?_
 obtain rfl := hr1 _ (sk h)
 obtain rfl := sj hk1
 exact wp_ret (tr (br (tr (tr (br (tr (Rt c () [] [])))))))
 refine K0 (P0 [] c fun _ c => S0 (T0 (Fp [] 2 c fun _ c => Bd h fun x2 hx2 h => Eef c (.f 0) hx2 fc34_1 fun _ _ _ c => ?_)))
 refine Fp [] 2 c fun _ c => E0 (I0 c h (fun h => ?_) fun h => ?_)
 refine P0 [] c fun _ c => ?_
 obtain rfl := hr1 _ (sk h)
 obtain rfl := sj hk1
 exact wp_ret (tr (br (tr (tr (br (tr (Rt c () [] [])))))))
 refine K0 (P0 [] c fun _ c => S0 (T0 (Fp [] 2 c fun _ c => Bd h fun x3 hx3 h => Eef c (.f 0) hx3 fc34_2 fun _ _ _ c => ?_)))
 refine Fp [] 2 c fun _ c => E0 (I0 c h (fun h => ?_) fun h => ?_)
 refine P0 [] c fun _ c => ?_
 obtain rfl := hr1 _ (sk h)
 obtain rfl := sj hk1
 exact wp_ret (tr (br (tr (tr (br (tr (Rt c () [] [])))))))
 refine K0 (P0 [] c fun _ c => S0 (Bd h fun x4 hx4 h => ?_))
 obtain ⟨ep1, u1, c⟩ := c.elp (.f 0) hx4
 obtain ⟨a1, c1, rfl, c⟩ := c.o_Term 2
 refine Bd h fun x5 hx5 h => S0 (rZ [(2, .eq (.pointer (some ep1))), (4, .eq (Str.val x4.Name)), (6, .eq (Str.val x5))] [] mix c ⟨Nie c 1, Nlc c 1 3, Ncl c (kN (laws_markText_ok hx5)) tt Tryz.call103, tt⟩ fun _ _ c => I0 c h (fun h => ?_) fun h => ?_)
 refine P0 [] c fun _ c => ?_
 obtain rfl := hr1 _ (sk h)
 obtain rfl := sj hk1
 exact wp_ret (tr (br (tr (tr (br (tr (Rt c () [] [])))))))
 refine K0 (P0 [] c fun _ c => T0 (Fp [] 2 c fun _ c => Bd h fun x6 hx6 h => Eemf c (.f 0) hx6 fm_Term4 fun _ _ u2 _ c => ?_))
 obtain ⟨a2, c2, rfl⟩ := c.sl 4
 refine Fp [] 1 c fun _ c => Bd h fun x7 hx7 h => Cb c (ih hx7) ⟨.f 4, tt⟩ Tryz.call71 fun _ _ _ c => ?_
 refine Fp [] 1 c fun _ c => E0 (P0 [] c fun _ c => I0 c h (fun h => ?_) fun h => ?_)
 refine P0 [] c fun _ c => ?_
 obtain rfl := hr1 _ (sk h)
 obtain rfl := sj hk1
 exact wp_ret (br (tr (tr (br (tr (Rt c () [] []))))))
 refine K1 (bk (tn (P1 [] c fun _ c => Nx h () (c.rk [] [0]))))
 refine wp_exit (te (te (be ?_)))
 obtain rfl := hr1 _ (sk h)
 exact tn ⟨_, (), rfl, c.rk [] [0]⟩
 subst hrl
 refine P0 [] c fun _ c => ?_
 obtain rfl := sj h
 exact wp_ret (Rt c () [] [])

theorem laws_heldIntS_ok {n p0 p1 ga0 gc1 r} (h : laws_heldIntS n p0 p1 = some r) : Con Tryz.prog 17 [L ga0 p0 gc1, I p1] [] [lR ga0 p0 gc1] fun (_ : Unit) => ([I r], [], []) := by
 unfold laws_heldIntS at h
 refine En Tryz.func17 rfl Tryz.ntmps17 fun _ fr w c => ?_
 refine P0 [] c fun _ c => S0 (P0 [] c fun _ c => Bd h fun rl1 hit1 h => ?_)
 have hk1 := h
 refine LpR (fun s1  (_ : Unit) => ([(0, L ga0 p0 gc1), (1, I s1.1), (5, I s1.2)], id, [])) (fun s  (_ : Unit) => ([(1, I s)], id, [])) hit1 c () (c.rk [] [0]) (fun s1 q1 _ _ _ c h hr1 => ?_) fun s1r _ _ _ hrl c => ?_
 refine S0 (P0 [] c fun _ c => I0 c h (fun h => ?_) fun h => ?_)
 refine K0 (S0 (wp_block (S0 (T0 (Fp [] 2 c fun _ c => Bd h fun x1 hx1 h => Eel c (.f 0) hx1 fun _ _ c => ?_)))))
 refine Fp [] 2 c fun _ c => E0 (I0 c h (fun h => ?_) fun h => ?_)
 refine P0 [] c fun _ c => ?_
 obtain rfl := hr1 _ (sk h)
 obtain rfl := sj hk1
 exact wp_ret (tr (br (tr (tr (br (tr (Rt c () [] [])))))))
 refine K0 (Tq (P1 [] c fun _ c => bk (tn (P1 [] c fun _ c => Nx h () (c.rk [] [0])))))
 refine wp_exit (te (te (be ?_)))
 obtain rfl := hr1 _ (sk h)
 exact tn ⟨_, (), rfl, c.rk [] [0]⟩
 subst hrl
 refine P0 [] c fun _ c => ?_
 obtain rfl := sj h
 exact wp_ret (Rt c () [] [])

theorem laws_heldPath_ok {n p0 p1 ga0 gc1 ga2 gc3 ga4 gc5 ga6 gc7 ga8 gc9 ga10 gc11 r} (h : laws_heldPath n p0 p1 = some r) : Con Tryz.prog 35 [pV p0 ga0 gc1 ga2 gc3 ga4 gc5 ga6 gc7 ga8 gc9 ga10 gc11, I p1] [] [lR ga0 p0.Regs gc1, lR ga2 p0.Mem gc3, lR ga4 p0.Stack gc5, lR ga6 p0.Out gc7, lR ga8 p0.Cond gc9, lR ga10 p0.Turns gc11] fun (_ : Unit) => ([I r], [], []) := by
 unfold laws_heldPath at h
 refine En Tryz.func35 rfl Tryz.ntmps35 fun _ fr w c => ?_
 refine T0 (Ebx (pC p0 ga0 gc1 ga2 gc3 ga4 gc5 ga6 gc7 ga8 gc9 ga10 gc11) c fun b1 _ _ c => ?_)
 refine Fp [] 1 c fun _ c => E0 (T0 (Fp [(1, 0)] 3 c fun _ c => Bd h fun x1 hx1 h => Cb c (laws_heldTermS_ok hx1) ⟨.f 0, tt⟩ Tryz.call71 fun _ _ _ c => ?_))
 refine Fp [] 1 c fun _ c => E0 (S0 (P0 [] c fun _ c => I0 c h (fun h => ?_) fun h => ?_))
 refine P0 [] c fun _ c => ?_
 cases h
 exact wp_ret (tr (Rt c () [] []))
 refine K0 (T0 (Fp [(1, 0)] 3 c fun _ c => Bd h fun x2 hx2 h => Cb c (laws_heldTermS_ok hx2) ⟨.f 1, tt⟩ Tryz.call71 fun _ _ _ c => ?_))
 refine Fp [] 1 c fun _ c => E0 (S0 (P0 [] c fun _ c => I0 c h (fun h => ?_) fun h => ?_))
 refine P0 [] c fun _ c => ?_
 cases h
 exact wp_ret (tr (Rt c () [] []))
 refine K0 (T0 (Fp [(1, 0)] 3 c fun _ c => Bd h fun x3 hx3 h => Cb c (laws_heldIntS_ok hx3) ⟨.f 2, tt⟩ Tryz.call17 fun _ _ _ c => ?_))
 refine Fp [] 1 c fun _ c => E0 (S0 (P0 [] c fun _ c => I0 c h (fun h => ?_) fun h => ?_))
 refine P0 [] c fun _ c => ?_
 cases h
 exact wp_ret (tr (Rt c () [] []))
 refine K0 (T0 (Fp [(1, 0)] 3 c fun _ c => Bd h fun x4 hx4 h => Cb c (laws_heldTermS_ok hx4) ⟨.f 3, tt⟩ Tryz.call71 fun _ _ _ c => ?_))
 refine Fp [] 1 c fun _ c => E0 (S0 (P0 [] c fun _ c => I0 c h (fun h => ?_) fun h => ?_))
 refine P0 [] c fun _ c => ?_
 cases h
 exact wp_ret (tr (Rt c () [] []))
 refine K0 (T0 (Fp [(1, 0)] 3 c fun _ c => ?_))
 try simp only [l1, l2, l3, l4] at c
 refine Bd h fun x5 hx5 h => Cb c (laws_heldTermS_ok hx5) ⟨.f 4, tt⟩ Tryz.call71 fun _ _ _ c => ?_
 refine Fp [] 1 c fun _ c => E0 (S0 (P0 [] c fun _ c => I0 c h (fun h => ?_) fun h => ?_))
 refine P0 [] c fun _ c => ?_
 cases h
 exact wp_ret (tr (Rt c () [] []))
 refine K0 (T0 (Fp [(1, 0)] 3 c fun _ c => Bd h fun x6 hx6 h => Cb c (laws_heldIntS_ok hx6) ⟨.f 5, tt⟩ Tryz.call17 fun _ _ _ c => ?_))
 refine Fp [] 1 c fun _ c => E0 (S0 (P0 [] c fun _ c => I0 c h (fun h => ?_) fun h => ?_))
 refine P0 [] c fun _ c => ?_
 cases h
 exact wp_ret (tr (Rt c () [] []))
 refine K0 (P0 [] c fun _ c => ?_)
 obtain rfl := sj h
 exact wp_ret (Rt c () [] [])

theorem laws_FnExactMergePaths_ok {n p0 p1 p2 ga0 gc1 ga2 gc3 ga4 gc5 ga6 gc7 ga8 gc9 ga10 gc11 ga12 gc13 ga14 gc15 ga16 gc17 ga18 gc19 ga20 gc21 ga22 gc23 ga24 gc25 r} (h : laws_FnExactMergePaths n p0 p1 p2 = some r) : Con Tryz.prog 5 [gV p0 ga0 gc1, pV p1 ga2 gc3 ga4 gc5 ga6 gc7 ga8 gc9 ga10 gc11 ga12 gc13, pV p2 ga14 gc15 ga16 gc17 ga18 gc19 ga20 gc21 ga22 gc23 ga24 gc25] [] [lR ga0 p0.Code gc1, lR ga2 p1.Regs gc3, lR ga4 p1.Mem gc5, lR ga6 p1.Stack gc7, lR ga8 p1.Out gc9, lR ga10 p1.Cond gc11, lR ga12 p1.Turns gc13, lR ga14 p2.Regs gc15, lR ga16 p2.Mem gc17, lR ga18 p2.Stack gc19, lR ga20 p2.Out gc21, lR ga22 p2.Cond gc23, lR ga24 p2.Turns gc25] fun (_ : Unit) => ([.bool r], [], []) := by
 unfold laws_FnExactMergePaths at h
 refine En Tryz.func5 rfl Tryz.ntmps5 fun _ fr w c => ?_
 refine T0 (Ebx (gC p0 ga0 gc1) c fun b1 _ _ c => ?_)
 refine Ebx (pC p1 ga2 gc3 ga4 gc5 ga6 gc7 ga8 gc9 ga10 gc11 ga12 gc13) c fun b2 _ _ c => ?_
 refine Ebx (pC p2 ga14 gc15 ga16 gc17 ga18 gc19 ga20 gc21 ga22 gc23 ga24 gc25) c fun b3 _ _ c => ?_
 refine Fp [] 1 c fun _ c => E0 (P0 [] c fun _ c => T0 (Fp [(0, 0)] 2 c fun _ c => Bd h fun x1 hx1 h => Cb c (laws_szProgram_ok hx1) ⟨.f 0, tt⟩ Tryz.call18 fun _ _ _ c => ?_))
 refine Fp [] 1 c fun _ c => E0 (S0 (P0 [] c fun _ c => I0 c h (fun h => ?_) fun h => ?_))
 refine P0 [] c fun _ c => ?_
 obtain rfl := sj h
 exact wp_ret (tr (Rt c () [] []))
 refine K0 (T0 (Fp [(0, 1)] 2 c fun _ c => Bd h fun x2 hx2 h => Cb c (laws_szPath_ok hx2) ⟨.f 1, .f 2, .f 3, .f 4, .f 5, .f 6, tt⟩ Tryz.call29 fun _ _ _ c => ?_))
 refine Fp [] 1 c fun _ c => E0 (S0 (P0 [] c fun _ c => I0 c h (fun h => ?_) fun h => ?_))
 refine P0 [] c fun _ c => ?_
 obtain rfl := sj h
 exact wp_ret (tr (Rt c () [] []))
 refine K0 (T0 (Fp [(0, 2)] 2 c fun _ c => ?_))
 try simp only [l1, l2, l3, l4] at c
 refine Bd h fun x3 hx3 h => Cb c (laws_szPath_ok hx3) ⟨.f 7, .f 8, .f 9, .f 10, .f 11, .f 12, tt⟩ Tryz.call29 fun _ _ _ c => ?_
 refine Fp [] 1 c fun _ c => E0 (S0 (P0 [] c fun _ c => I0 c h (fun h => ?_) fun h => ?_))
 refine P0 [] c fun _ c => ?_
 obtain rfl := sj h
 exact wp_ret (tr (Rt c () [] []))
 refine K0 (Bd h fun x4 hx4 h => Bd h fun x5 hx5 h => Bd h fun x6 hx6 h => Bd h fun x7 hx7 h => S0 (Jn (fun i : Nat × Hp => ([(3, B b1 0), (4, B b2 0), (5, B b3 0), (8, B i.1 0), (9, .bool x7.2)], fun Γ => Γ ++ [BX i.1 66 (pM x7.1 i.2)], (pF x7.1 i.2))) c ?_ fun i18 _ _ c => ?_))
 refine As mix c fun _ c => ?_
 replace c := Cx.frs [(3, B b1 0), (4, B b2 0), (5, B b3 0)] c
 refine Dq (fun i : Nat × Hp => ([(3, B b1 0), (4, B b2 0), (5, B b3 0), (8, B i.1 0), (35, .tuple #[pJ x7.1 i.2, .bool x7.2])], fun Γ => Γ ++ [BX i.1 66 (pM x7.1 i.2)], (pF x7.1 i.2))) (bN 13 3583) (fun i => [(9, 44, .bool x7.2), (12, 9, .bool x7.2)]) c (fun i17 => ?_) fun hd10 => ?_
 obtain ⟨b14, a55, c55, a56, c56, a57, c57, a58, c58, a59, c59, a60, c60⟩ := i17
 refine qnE ⟨qP [], qP [], tt⟩ fun _ _ c => ?_
 exact nN (b14, a55, c55, a56, c56, a57, c57, a58, c58, a59, c59, a60, c60) (c.rk (rg 4) (rg 19))
 refine Dq (fun i : Nat × Hp => ([(3, B b1 0), (4, B b2 0), (5, B b3 0), (8, B i.1 0), (42, .tuple #[pJ x7.1 i.2, .bool x7.2])], fun Γ => Γ ++ [BX i.1 66 pZ], (pF x7.1 i.2))) (bN 13 1151) (fun i => [(7, 35, .tuple #[pJ x7.1 i.2, .bool x7.2]), (8, 43, pJ x7.1 i.2), (9, 44, .bool x7.2)]) c (fun i15 => ?_) fun hd9 => ?_
 obtain ⟨b13, a49, c49, a50, c50, a51, c51, a52, c52, a53, c53, a54, c54⟩ := i15
 refine qn [11] ⟨qP [], qP [], qP [], tt⟩ ⟨fun _ _ c => ?_, tt⟩
 refine op_of _ rfl rfl ?_
 try simp only [l3, l4, l5, l6] at c
 refine Ess 3 (pC x7.1 a49 c49 a50 c50 a51 c51 a52 c52 a53 c53 a54 c54) c fun _ c => ?_
 refine E0 (nQ hd10 (b13, a49, c49, a50, c50, a51, c51, a52, c52, a53, c53, a54, c54) (c.rk (rg 4) (rg 19)))
 refine Dq (fun i : Hp => ([(3, B b1 0), (4, B b2 0), (5, B b3 0), (42, .tuple #[pJ x7.1 i, .bool x7.2])], id, (pF x7.1 i))) (bN 13 127) (fun i => [(7, 35, .tuple #[pJ x7.1 i, .bool x7.2]), (8, 43, pJ x7.1 i), (9, 44, .bool x7.2)]) c (fun i12 => ?_) fun hd7 => ?_
 obtain ⟨a30, c30, a31, c31, a32, c32, a33, c33, a34, c34, a35, c35⟩ := i12
 refine qn [10] ⟨qP [], qP [], qP [], tt⟩ ⟨fun _ _ c => ?_, tt⟩
 refine op_of _ rfl rfl ?_
 try simp only [l3, l4, l5, l6] at c
 refine Eal pZ c fun b12 _ _ c => ?_
 refine E0 (nQ hd9 (b12, a30, c30, a31, c31, a32, c32, a33, c33, a34, c34, a35, c35) (c.rk (rg 4) (rg 19)))
 refine Dq (fun i : Nat × Hq (Ob (Hp)) => ([(3, B b1 0), (4, B b2 0), (5, B b3 0), (8, B i.1 0), (37, gV x4 i.2.1 i.2.2.1), (39, pK x5 i.2.2.2), (41, pJ x6 i.2.2.2.2.2.2.2.2.2.2.2.2.2.2.2)], fun Γ => Γ ++ [BX i.1 66 pZ, sl141 (L i.2.1 x4.Code i.2.2.1) x4.Code, OD (ownT 34) 34 (L i.2.2.2.1 x5.Regs i.2.2.2.2.1) x5.Regs, OD (ownT 34) 34 (L i.2.2.2.2.2.1 x5.Mem i.2.2.2.2.2.2.1) x5.Mem, sl3 (L i.2.2.2.2.2.2.2.1 x5.Stack i.2.2.2.2.2.2.2.2.1) x5.Stack, OD (ownT 34) 34 (L i.2.2.2.2.2.2.2.2.2.1 x5.Out i.2.2.2.2.2.2.2.2.2.2.1) x5.Out, OD (ownT 34) 34 (L i.2.2.2.2.2.2.2.2.2.2.2.1 x5.Cond i.2.2.2.2.2.2.2.2.2.2.2.2.1) x5.Cond, sl3 (L i.2.2.2.2.2.2.2.2.2.2.2.2.2.1 x5.Turns i.2.2.2.2.2.2.2.2.2.2.2.2.2.2.1) x5.Turns, OD (ownT 34) 34 (L i.2.2.2.2.2.2.2.2.2.2.2.2.2.2.2.1 x6.Regs i.2.2.2.2.2.2.2.2.2.2.2.2.2.2.2.2.1) x6.Regs, OD (ownT 34) 34 (L i.2.2.2.2.2.2.2.2.2.2.2.2.2.2.2.2.2.1 x6.Mem i.2.2.2.2.2.2.2.2.2.2.2.2.2.2.2.2.2.2.1) x6.Mem, sl3 (L i.2.2.2.2.2.2.2.2.2.2.2.2.2.2.2.2.2.2.2.1 x6.Stack i.2.2.2.2.2.2.2.2.2.2.2.2.2.2.2.2.2.2.2.2.1) x6.Stack, OD (ownT 34) 34 (L i.2.2.2.2.2.2.2.2.2.2.2.2.2.2.2.2.2.2.2.2.2.1 x6.Out i.2.2.2.2.2.2.2.2.2.2.2.2.2.2.2.2.2.2.2.2.2.2.1) x6.Out, OD (ownT 34) 34 (L i.2.2.2.2.2.2.2.2.2.2.2.2.2.2.2.2.2.2.2.2.2.2.2.1 x6.Cond i.2.2.2.2.2.2.2.2.2.2.2.2.2.2.2.2.2.2.2.2.2.2.2.2.1) x6.Cond, sl3 (L i.2.2.2.2.2.2.2.2.2.2.2.2.2.2.2.2.2.2.2.2.2.2.2.2.2.1 x6.Turns i.2.2.2.2.2.2.2.2.2.2.2.2.2.2.2.2.2.2.2.2.2.2.2.2.2.2) x6.Turns], [])) (bN 13 1087) (fun i => []) c (fun i13 => ?_) fun hd8 => ?_
 obtain ⟨b11, a36, c36, a37, c37, a38, c38, a39, c39, a40, c40, a41, c41, a42, c42, a43, c43, a44, c44, a45, c45, a46, c46, a47, c47, a48, c48⟩ := i13
 refine qn [6] tt ⟨fun _ _ c => ?_, tt⟩
 refine op_of _ rfl rfl ?_
 try simp only [l3, l4, l5, l6] at c
 replace c := c.fz 4
 replace c := c.fzo (owns_T 34) 4
 replace c := c.fzo (owns_T 34) 4
 replace c := c.fz 4
 replace c := c.fzo (owns_T 34) 4
 replace c := c.fzo (owns_T 34) 4
 replace c := c.fz 4
 replace c := c.fzo (owns_T 34) 4
 replace c := c.fzo (owns_T 34) 4
 replace c := c.fz 4
 replace c := c.fzo (owns_T 34) 4
 replace c := c.fzo (owns_T 34) 4
 replace c := c.fz 4
 refine Cg c (spec_MergePaths_ok hx7) ⟨.f 13, .f 14, .f 15, .f 16, .f 17, .f 18, .f 19, .f 20, .f 21, .f 22, .f 23, .f 24, .f 25, tt⟩ Tryz.call30 fun i16 _ _ c => ?_
 refine E0 (nQ hd9 (b11, i16.1, i16.2.1, i16.2.2.1, i16.2.2.2.1, i16.2.2.2.2.1, i16.2.2.2.2.2.1, i16.2.2.2.2.2.2.1, i16.2.2.2.2.2.2.2.1, i16.2.2.2.2.2.2.2.2.1, i16.2.2.2.2.2.2.2.2.2.1, i16.2.2.2.2.2.2.2.2.2.2.1, i16.2.2.2.2.2.2.2.2.2.2.2) (c.rk (rg 4) [0, 1, 2, 3, 4, 5, 6, 7, 8, 9, 10, 11, 12, 26, 27, 28, 29, 30, 31]))
 refine Dq (fun i : Hq (Ob (Hp)) => ([(3, B b1 0), (4, B b2 0), (5, B b3 0), (37, gV x4 i.1 i.2.1), (39, pK x5 i.2.2), (41, pJ x6 i.2.2.2.2.2.2.2.2.2.2.2.2.2.2)], fun Γ => Γ ++ [sl141 (L i.1 x4.Code i.2.1) x4.Code, OD (ownT 34) 34 (L i.2.2.1 x5.Regs i.2.2.2.1) x5.Regs, OD (ownT 34) 34 (L i.2.2.2.2.1 x5.Mem i.2.2.2.2.2.1) x5.Mem, sl3 (L i.2.2.2.2.2.2.1 x5.Stack i.2.2.2.2.2.2.2.1) x5.Stack, OD (ownT 34) 34 (L i.2.2.2.2.2.2.2.2.1 x5.Out i.2.2.2.2.2.2.2.2.2.1) x5.Out, OD (ownT 34) 34 (L i.2.2.2.2.2.2.2.2.2.2.1 x5.Cond i.2.2.2.2.2.2.2.2.2.2.2.1) x5.Cond, sl3 (L i.2.2.2.2.2.2.2.2.2.2.2.2.1 x5.Turns i.2.2.2.2.2.2.2.2.2.2.2.2.2.1) x5.Turns, OD (ownT 34) 34 (L i.2.2.2.2.2.2.2.2.2.2.2.2.2.2.1 x6.Regs i.2.2.2.2.2.2.2.2.2.2.2.2.2.2.2.1) x6.Regs, OD (ownT 34) 34 (L i.2.2.2.2.2.2.2.2.2.2.2.2.2.2.2.2.1 x6.Mem i.2.2.2.2.2.2.2.2.2.2.2.2.2.2.2.2.2.1) x6.Mem, sl3 (L i.2.2.2.2.2.2.2.2.2.2.2.2.2.2.2.2.2.2.1 x6.Stack i.2.2.2.2.2.2.2.2.2.2.2.2.2.2.2.2.2.2.2.1) x6.Stack, OD (ownT 34) 34 (L i.2.2.2.2.2.2.2.2.2.2.2.2.2.2.2.2.2.2.2.2.1 x6.Out i.2.2.2.2.2.2.2.2.2.2.2.2.2.2.2.2.2.2.2.2.2.1) x6.Out, OD (ownT 34) 34 (L i.2.2.2.2.2.2.2.2.2.2.2.2.2.2.2.2.2.2.2.2.2.2.1 x6.Cond i.2.2.2.2.2.2.2.2.2.2.2.2.2.2.2.2.2.2.2.2.2.2.2.1) x6.Cond, sl3 (L i.2.2.2.2.2.2.2.2.2.2.2.2.2.2.2.2.2.2.2.2.2.2.2.2.1 x6.Turns i.2.2.2.2.2.2.2.2.2.2.2.2.2.2.2.2.2.2.2.2.2.2.2.2.2) x6.Turns], [])) (bN 13 63) (fun i => []) c (fun i8 => ?_) fun hd5 => ?_
 obtain ⟨a10, c10, a11, c11, a12, c12, a13, c13, a14, c14, a15, c15, a16, c16, a17, c17, a18, c18, a19, c19, a20, c20, a21, c21, a22, c22⟩ := i8
 refine qn [6, 10] tt ⟨fun _ _ c => ?_, fun _ _ c => ?_, tt⟩
 refine op_of _ rfl rfl ?_
 try simp only [l3, l4, l5, l6] at c
 replace c := c.fz 3
 replace c := c.fzo (owns_T 34) 3
 replace c := c.fzo (owns_T 34) 3
 replace c := c.fz 3
 replace c := c.fzo (owns_T 34) 3
 replace c := c.fzo (owns_T 34) 3
 replace c := c.fz 3
 replace c := c.fzo (owns_T 34) 3
 replace c := c.fzo (owns_T 34) 3
 replace c := c.fz 3
 replace c := c.fzo (owns_T 34) 3
 replace c := c.fzo (owns_T 34) 3
 replace c := c.fz 3
 refine Cg c (spec_MergePaths_ok hx7) ⟨.f 13, .f 14, .f 15, .f 16, .f 17, .f 18, .f 19, .f 20, .f 21, .f 22, .f 23, .f 24, .f 25, tt⟩ Tryz.call30 fun i11 _ _ c => ?_
 refine E0 (nQ hd7 (i11.1, i11.2.1, i11.2.2.1, i11.2.2.2.1, i11.2.2.2.2.1, i11.2.2.2.2.2.1, i11.2.2.2.2.2.2.1, i11.2.2.2.2.2.2.2.1, i11.2.2.2.2.2.2.2.2.1, i11.2.2.2.2.2.2.2.2.2.1, i11.2.2.2.2.2.2.2.2.2.2.1, i11.2.2.2.2.2.2.2.2.2.2.2) (c.rk [0, 1, 2] [0, 1, 2, 3, 4, 5, 6, 7, 8, 9, 10, 11, 12, 26, 27, 28, 29, 30, 31]))
 refine op_of _ rfl rfl ?_
 try simp only [l3, l4, l5, l6] at c
 refine Eal pZ c fun b10 _ _ c => ?_
 refine E0 (nQ hd8 (b10, a10, c10, a11, c11, a12, c12, a13, c13, a14, c14, a15, c15, a16, c16, a17, c17, a18, c18, a19, c19, a20, c20, a21, c21, a22, c22) (c.rk [0, 1, 2, 16, 3, 4, 5, 6, 7, 8, 9, 10, 11, 12, 13, 14, 15] (rg 13)))
 refine Dq (fun i : Nat × Ob (Hp) => ([(3, B b1 0), (4, B b2 0), (5, B b3 0), (8, B i.1 0), (37, gV x4 i.2.1 i.2.2.1), (39, pJ x5 i.2.2.2)], fun Γ => Γ ++ [BX i.1 66 pZ, sl141 (L i.2.1 x4.Code i.2.2.1) x4.Code, OD (ownT 34) 34 (L i.2.2.2.1 x5.Regs i.2.2.2.2.1) x5.Regs, OD (ownT 34) 34 (L i.2.2.2.2.2.1 x5.Mem i.2.2.2.2.2.2.1) x5.Mem, sl3 (L i.2.2.2.2.2.2.2.1 x5.Stack i.2.2.2.2.2.2.2.2.1) x5.Stack, OD (ownT 34) 34 (L i.2.2.2.2.2.2.2.2.2.1 x5.Out i.2.2.2.2.2.2.2.2.2.2.1) x5.Out, OD (ownT 34) 34 (L i.2.2.2.2.2.2.2.2.2.2.2.1 x5.Cond i.2.2.2.2.2.2.2.2.2.2.2.2.1) x5.Cond, sl3 (L i.2.2.2.2.2.2.2.2.2.2.2.2.2.1 x5.Turns i.2.2.2.2.2.2.2.2.2.2.2.2.2.2) x5.Turns], [])) (bN 13 1039) (fun i => [(4, 40, pV p2 ga14 gc15 ga16 gc17 ga18 gc19 ga20 gc21 ga22 gc23 ga24 gc25)]) c (fun i9 => ?_) fun hd6 => ?_
 obtain ⟨b9, a23, c23, a24, c24, a25, c25, a26, c26, a27, c27, a28, c28, a29, c29⟩ := i9
 refine qn [5] ⟨qP [(0, 2)], tt⟩ ⟨fun _ _ c => ?_, tt⟩
 refine op_of _ rfl rfl ?_
 try simp only [l3, l4, l5, l6] at c
 refine Cb c (laws_toPath_ok hx6) ⟨.f 7, .f 8, .f 9, .f 10, .f 11, .f 12, tt⟩ Tryz.call31 fun i14 _ _ c => ?_
 refine E0 (nQ hd8 (b9, a23, c23, a24, c24, a25, c25, a26, c26, a27, c27, a28, c28, a29, c29, i14.1, i14.2.1, i14.2.2.1, i14.2.2.2.1, i14.2.2.2.2.1, i14.2.2.2.2.2.1, i14.2.2.2.2.2.2.1, i14.2.2.2.2.2.2.2.1, i14.2.2.2.2.2.2.2.2.1, i14.2.2.2.2.2.2.2.2.2.1, i14.2.2.2.2.2.2.2.2.2.2.1, i14.2.2.2.2.2.2.2.2.2.2.2) (c.rk (rg 17) (rg 13)))
 refine Dq (fun i : Ob (Hp) => ([(3, B b1 0), (4, B b2 0), (5, B b3 0), (37, gV x4 i.1 i.2.1), (39, pJ x5 i.2.2)], fun Γ => Γ ++ [sl141 (L i.1 x4.Code i.2.1) x4.Code, OD (ownT 34) 34 (L i.2.2.1 x5.Regs i.2.2.2.1) x5.Regs, OD (ownT 34) 34 (L i.2.2.2.2.1 x5.Mem i.2.2.2.2.2.1) x5.Mem, sl3 (L i.2.2.2.2.2.2.1 x5.Stack i.2.2.2.2.2.2.2.1) x5.Stack, OD (ownT 34) 34 (L i.2.2.2.2.2.2.2.2.1 x5.Out i.2.2.2.2.2.2.2.2.2.1) x5.Out, OD (ownT 34) 34 (L i.2.2.2.2.2.2.2.2.2.2.1 x5.Cond i.2.2.2.2.2.2.2.2.2.2.2.1) x5.Cond, sl3 (L i.2.2.2.2.2.2.2.2.2.2.2.2.1 x5.Turns i.2.2.2.2.2.2.2.2.2.2.2.2.2) x5.Turns], [])) (bN 13 15) (fun i => [(4, 40, pV p2 ga14 gc15 ga16 gc17 ga18 gc19 ga20 gc21 ga22 gc23 ga24 gc25)]) c (fun i4 => ?_) fun hd3 => ?_
 obtain ⟨a2, c2, a3, c3, a4, c4, a5, c5, a6, c6, a7, c7, a8, c8⟩ := i4
 refine qn [5, 10] ⟨qP [(0, 2)], tt⟩ ⟨fun _ _ c => ?_, fun _ _ c => ?_, tt⟩
 refine op_of _ rfl rfl ?_
 try simp only [l3, l4, l5, l6] at c
 refine Cb c (laws_toPath_ok hx6) ⟨.f 7, .f 8, .f 9, .f 10, .f 11, .f 12, tt⟩ Tryz.call31 fun i7 _ _ c => ?_
 refine E0 (nQ hd5 (a2, c2, a3, c3, a4, c4, a5, c5, a6, c6, a7, c7, a8, c8, i7.1, i7.2.1, i7.2.2.1, i7.2.2.2.1, i7.2.2.2.2.1, i7.2.2.2.2.2.1, i7.2.2.2.2.2.2.1, i7.2.2.2.2.2.2.2.1, i7.2.2.2.2.2.2.2.2.1, i7.2.2.2.2.2.2.2.2.2.1, i7.2.2.2.2.2.2.2.2.2.2.1, i7.2.2.2.2.2.2.2.2.2.2.2) (c.rk (rg 16) (rg 13)))
 refine op_of _ rfl rfl ?_
 try simp only [l3, l4, l5, l6] at c
 refine Eal pZ c fun b8 _ _ c => ?_
 refine E0 (nQ hd6 (b8, a2, c2, a3, c3, a4, c4, a5, c5, a6, c6, a7, c7, a8, c8) (c.rk [0, 1, 2, 10, 3, 4, 5, 6, 7, 8, 9] (rg 13)))
 refine Dq (fun i : Nat × Oh => ([(3, B b1 0), (4, B b2 0), (5, B b3 0), (8, B i.1 0), (37, gV x4 i.2.1 i.2.2)], fun Γ => Γ ++ [BX i.1 66 pZ, sl141 (L i.2.1 x4.Code i.2.2) x4.Code], [])) (bN 13 1027) (fun i => [(2, 38, pV p1 ga2 gc3 ga4 gc5 ga6 gc7 ga8 gc9 ga10 gc11 ga12 gc13), (4, 40, pV p2 ga14 gc15 ga16 gc17 ga18 gc19 ga20 gc21 ga22 gc23 ga24 gc25)]) c (fun i5 => ?_) fun hd4 => ?_
 obtain ⟨b7, a9, c9⟩ := i5
 refine qn [3] ⟨qP [(0, 1)], qP [(0, 2)], tt⟩ ⟨fun _ _ c => ?_, tt⟩
 refine op_of _ rfl rfl ?_
 try simp only [l3, l4, l5, l6] at c
 refine Cb c (laws_toPath_ok hx5) ⟨.f 1, .f 2, .f 3, .f 4, .f 5, .f 6, tt⟩ Tryz.call31 fun i10 _ _ c => ?_
 refine E0 (nQ hd6 (b7, a9, c9, i10.1, i10.2.1, i10.2.2.1, i10.2.2.2.1, i10.2.2.2.2.1, i10.2.2.2.2.2.1, i10.2.2.2.2.2.2.1, i10.2.2.2.2.2.2.2.1, i10.2.2.2.2.2.2.2.2.1, i10.2.2.2.2.2.2.2.2.2.1, i10.2.2.2.2.2.2.2.2.2.2.1, i10.2.2.2.2.2.2.2.2.2.2.2) (c.rk (rg 11) (rg 13)))
 refine Dq (fun i : Oh => ([(3, B b1 0), (4, B b2 0), (5, B b3 0), (37, gV x4 i.1 i.2)], fun Γ => Γ ++ [sl141 (L i.1 x4.Code i.2) x4.Code], [])) (bN 13 3) (fun i => [(2, 38, pV p1 ga2 gc3 ga4 gc5 ga6 gc7 ga8 gc9 ga10 gc11 ga12 gc13), (4, 40, pV p2 ga14 gc15 ga16 gc17 ga18 gc19 ga20 gc21 ga22 gc23 ga24 gc25)]) c (fun i2 => ?_) fun hd1 => ?_
 obtain ⟨a1, c1⟩ := i2
 refine qn [3, 10] ⟨qP [(0, 1)], qP [(0, 2)], tt⟩ ⟨fun _ _ c => ?_, fun _ _ c => ?_, tt⟩
 refine op_of _ rfl rfl ?_
 try simp only [l3, l4, l5, l6] at c
 refine Cb c (laws_toPath_ok hx5) ⟨.f 1, .f 2, .f 3, .f 4, .f 5, .f 6, tt⟩ Tryz.call31 fun i3 _ _ c => ?_
 refine E0 (nQ hd3 (a1, c1, i3.1, i3.2.1, i3.2.2.1, i3.2.2.2.1, i3.2.2.2.2.1, i3.2.2.2.2.2.1, i3.2.2.2.2.2.2.1, i3.2.2.2.2.2.2.2.1, i3.2.2.2.2.2.2.2.2.1, i3.2.2.2.2.2.2.2.2.2.1, i3.2.2.2.2.2.2.2.2.2.2.1, i3.2.2.2.2.2.2.2.2.2.2.2) (c.rk (rg 10) (rg 13)))
 refine op_of _ rfl rfl ?_
 try simp only [l3, l4, l5, l6] at c
 refine Eal pZ c fun b6 _ _ c => ?_
 refine E0 (nQ hd4 (b6, a1, c1) (c.rk [0, 1, 2, 4, 3] (rg 13)))
 refine Dq (fun i : Nat => ([(3, B b1 0), (4, B b2 0), (5, B b3 0), (8, B i 0)], fun Γ => Γ ++ [BX i 66 pZ], [])) (bN 13 1024) (fun i => [(0, 36, gV p0 ga0 gc1), (2, 38, pV p1 ga2 gc3 ga4 gc5 ga6 gc7 ga8 gc9 ga10 gc11 ga12 gc13), (4, 40, pV p2 ga14 gc15 ga16 gc17 ga18 gc19 ga20 gc21 ga22 gc23 ga24 gc25)]) c (fun b5 => ?_) fun hd2 => ?_
 refine qn [1] ⟨qP [(0, 0)], qP [(0, 1)], qP [(0, 2)], tt⟩ ⟨fun _ _ c => ?_, tt⟩
 refine op_of _ rfl rfl ?_
 try simp only [l3, l4, l5, l6] at c
 refine Cb c (laws_toProgram_ok hx4) ⟨.f 0, tt⟩ Tryz.call21 fun i6 _ _ c => ?_
 refine E0 (nQ hd4 (b5, i6.1, i6.2) (c.rk (rg 5) (rg 13)))
 refine q0 (qs := [(0, 36, gV p0 ga0 gc1), (2, 38, pV p1 ga2 gc3 ga4 gc5 ga6 gc7 ga8 gc9 ga10 gc11 ga12 gc13), (4, 40, pV p2 ga14 gc15 ga16 gc17 ga18 gc19 ga20 gc21 ga22 gc23 ga24 gc25)]) c (qn [1, 10] ⟨qP [(0, 0)], qP [(0, 1)], qP [(0, 2)], tt⟩ ⟨fun _ _ c => ?_, fun _ _ c => ?_, tt⟩)
 refine op_of _ rfl rfl ?_
 try simp only [l3, l4, l5, l6] at c
 refine Cb c (laws_toProgram_ok hx4) ⟨.f 0, tt⟩ Tryz.call21 fun i1 _ _ c => ?_
 refine E0 (nQ hd1 (i1.1, i1.2) (c.rk (rg 4) (rg 13)))
 refine op_of _ rfl rfl ?_
 try simp only [l3, l4, l5, l6] at c
 refine Eal pZ c fun b4 _ _ c => ?_
 refine E0 (nQ hd2 (b4) (c.rk (rg 4) (rg 13)))
 obtain ⟨b15, a61, c61, a62, c62, a63, c63, a64, c64, a65, c65, a66, c66⟩ := i18
 refine T0 (Fp [(0, 0)] 1 c fun _ c => Bd h fun x8 hx8 h => Cb c (laws_toProgram_ok hx8) ⟨.f 0, tt⟩ Tryz.call21 fun i19 _ _ c => ?_)
 refine Eal [I 0, I 0, I 0, L none ([] : List D.Ins) 0] c fun b16 _ _ c => ?_
 refine Ess 5 (gC x8 i19.1 i19.2) c fun _ c => ?_
 refine E0 (T0 (Fp [(0, 1)] 1 c fun _ c => ?_))
 replace c := c.gm [BX b1 45 (gC p0 ga0 gc1), BX b2 63 (pC p1 ga2 gc3 ga4 gc5 ga6 gc7 ga8 gc9 ga10 gc11 ga12 gc13), BX b3 63 (pC p2 ga14 gc15 ga16 gc17 ga18 gc19 ga20 gc21 ga22 gc23 ga24 gc25), BX b15 66 (pC x7.1 a61 c61 a62 c62 a63 c63 a64 c64 a65 c65 a66 c66), sl141 (L i19.1 x8.Code i19.2) x8.Code, BX b16 53 (gC x8 i19.1 i19.2)]
 refine Bd h fun x9 hx9 h => Cb c (laws_toPath_ok hx9) ⟨.f 1, .f 2, .f 3, .f 4, .f 5, .f 6, tt⟩ Tryz.call31 fun i20 _ _ c => ?_
 refine Eal pZ c fun b17 _ _ c => ?_
 try simp only [l1, l2, l3, l4] at c
 refine Ess 12 (pM x9 i20) c fun _ c => ?_
 refine E0 (T0 (Fp [(0, 2)] 1 c fun _ c => Bd h fun x10 hx10 h => Cb c (laws_toPath_ok hx10) ⟨.f 7, .f 8, .f 9, .f 10, .f 11, .f 12, tt⟩ Tryz.call31 fun i21 _ _ c => ?_))
 try simp only [l1, l2, l3, l4] at c
 refine Eal pZ c fun b18 _ _ c => ?_
 refine Ess 19 (pM x10 i21) c fun _ c => ?_
 refine E0 (T0 (Fp [(0, 4), (1, 5), (2, 6)] 3 c fun _ c => ?_))
 try simp only [l1, l2, l3, l4] at c
 refine Bd h fun x11 hx11 h => Cb c (impl_MergePaths_ok hx11) ⟨.g 4, .go (owns_T 34) 6, .go (owns_T 34) 7, .g 8, .go (owns_T 34) 9, .go (owns_T 34) 10, .g 11, .go (owns_T 34) 13, .go (owns_T 34) 14, .g 15, .go (owns_T 34) 16, .go (owns_T 34) 17, .g 18, tt⟩ Tryz.call32 fun i22 _ _ c => ?_
 refine Fp [] 3 c fun _ c => Eal pZ c fun b19 _ _ c => ?_
 try simp only [l1, l2, l3, l4] at c
 refine Ess 26 (pM x11.1 i22) c fun _ c => ?_
 refine Fp [] 1 c fun _ c => E0 (S0 (Bd h fun x12 hx12 h => S0 (rZ [(2, .eq (.bool x12))] [(0, 7), (1, 3)] mix c ⟨Ncl c (kN (laws_eqPath_ok hx12)) ⟨.go (owns_T 34) 20, .go (owns_T 34) 21, .g 22, .go (owns_T 34) 23, .go (owns_T 34) 24, .g 25, .f 13, .f 14, .f 15, .f 16, .f 17, .f 18, tt⟩ Tryz.call33, tt⟩ fun _ _ c => I0 c h (fun h => ?_) fun h => ?_)))
 refine P0 [] c fun _ c => ?_
 obtain rfl := sj h
 exact wp_ret (tr (Rt c () [] []))
 refine K0 (S0 (Bd h fun x13 hx13 h => Bd h fun x14 hx14 h => S0 (Jn (fun _ : Unit => ([(3, B b1 0), (4, B b2 0), (5, B b3 0), (8, B b15 0), (9, .bool x7.2), (10, B b16 0), (11, B b17 0), (12, B b18 0), (13, B b19 0), (14, .bool x11.2), (71, .bool (!x14))], id, [])) c ?_ fun _ _ _ c => ?_)))
 refine As mix c fun _ c => ?_
 replace c := Cx.frs [(3, B b1 0), (4, B b2 0), (5, B b3 0), (8, B b15 0), (9, .bool x7.2), (10, B b16 0), (11, B b17 0), (12, B b18 0), (13, B b19 0), (14, .bool x11.2)] c
 refine Dq (fun _ : Unit => ([(3, B b1 0), (4, B b2 0), (5, B b3 0), (8, B b15 0), (9, .bool x7.2), (10, B b16 0), (11, B b17 0), (12, B b18 0), (13, B b19 0), (14, .bool x11.2), (70, .bool x14)], id, [])) (bN 5 15) (fun _ => [(4, 71, .bool (!x14))]) c (fun _ => ?_) fun hd12 => ?_
 refine qnE ⟨qP [], tt⟩ fun _ _ c => ?_
 exact nN () (c.rk (rg 27) (rg 19))
 refine Dq (fun i : Oh => ([(3, B b1 0), (4, B b2 0), (5, B b3 0), (8, B b15 0), (9, .bool x7.2), (10, B b16 0), (11, B b17 0), (12, B b18 0), (13, B b19 0), (14, .bool x11.2), (69, gV x13 i.1 i.2)], fun Γ => Γ ++ [sl141 (L i.1 x13.Code i.2) x13.Code], [])) (bN 5 6) (fun i => [(0, 67, gV x8 i19.1 i19.2)]) c (fun i24 => ?_) fun hd11 => ?_
 obtain ⟨a67, c67⟩ := i24
 refine qn [3] ⟨qP [(0, 4)], tt⟩ ⟨fun _ _ c => ?_, tt⟩
 refine op_of _ rfl rfl ?_
 try simp only [l3, l4, l5, l6] at c
 refine Cb c (laws_eqProgram_ok hx14) ⟨.g 4, .g 27, tt⟩ Tryz.call24 fun _ _ _ c => ?_
 refine E0 (nQ hd12 () (c.rk (rg 27) (rg 19)))
 refine q0 (qs := [(0, 67, gV x8 i19.1 i19.2), (1, 68, gV p0 ga0 gc1)]) c (qn [2] ⟨qP [(0, 4)], qP [(0, 0)], tt⟩ ⟨fun _ _ c => ?_, tt⟩)
 refine op_of _ rfl rfl ?_
 try simp only [l3, l4, l5, l6] at c
 refine Cb c (laws_toProgram_ok hx13) ⟨.f 0, tt⟩ Tryz.call21 fun i23 _ _ c => ?_
 refine E0 (nQ hd11 (i23.1, i23.2) (c.rk (rg 28) (rg 19)))
 refine I0 c h (fun h => ?_) fun h => ?_
 refine P0 [] c fun _ c => ?_
 obtain rfl := sj h
 exact wp_ret (tr (Rt c () [] []))
 refine K0 (S0 (Bd h fun x15 hx15 h => Bd h fun x16 hx16 h => S0 (Jn (fun _ : Unit => ([(3, B b1 0), (4, B b2 0), (5, B b3 0), (8, B b15 0), (9, .bool x7.2), (10, B b16 0), (11, B b17 0), (12, B b18 0), (13, B b19 0), (14, .bool x11.2), (76, .bool (!x16))], id, [])) c ?_ fun _ _ _ c => ?_)))
 refine As mix c fun _ c => ?_
 replace c := Cx.frs [(3, B b1 0), (4, B b2 0), (5, B b3 0), (8, B b15 0), (9, .bool x7.2), (10, B b16 0), (11, B b17 0), (12, B b18 0), (13, B b19 0), (14, .bool x11.2)] c
 refine Dq (fun _ : Unit => ([(3, B b1 0), (4, B b2 0), (5, B b3 0), (8, B b15 0), (9, .bool x7.2), (10, B b16 0), (11, B b17 0), (12, B b18 0), (13, B b19 0), (14, .bool x11.2), (75, .bool x16)], id, [])) (bN 5 15) (fun _ => [(4, 76, .bool (!x16))]) c (fun _ => ?_) fun hd14 => ?_
 refine qnE ⟨qP [], tt⟩ fun _ _ c => ?_
 exact nN () (c.rk (rg 27) (rg 19))
 refine Dq (fun i : Hp => ([(3, B b1 0), (4, B b2 0), (5, B b3 0), (8, B b15 0), (9, .bool x7.2), (10, B b16 0), (11, B b17 0), (12, B b18 0), (13, B b19 0), (14, .bool x11.2), (74, pJ x15 i)], fun Γ => Γ ++ [OD (ownT 34) 34 (L i.1 x15.Regs i.2.1) x15.Regs, OD (ownT 34) 34 (L i.2.2.1 x15.Mem i.2.2.2.1) x15.Mem, sl3 (L i.2.2.2.2.1 x15.Stack i.2.2.2.2.2.1) x15.Stack, OD (ownT 34) 34 (L i.2.2.2.2.2.2.1 x15.Out i.2.2.2.2.2.2.2.1) x15.Out, OD (ownT 34) 34 (L i.2.2.2.2.2.2.2.2.1 x15.Cond i.2.2.2.2.2.2.2.2.2.1) x15.Cond, sl3 (L i.2.2.2.2.2.2.2.2.2.2.1 x15.Turns i.2.2.2.2.2.2.2.2.2.2.2) x15.Turns], [])) (bN 5 6) (fun i => [(0, 72, pJ x9 i20)]) c (fun i26 => ?_) fun hd13 => ?_
 obtain ⟨a68, c68, a69, c69, a70, c70, a71, c71, a72, c72, a73, c73⟩ := i26
 refine qn [3] ⟨qP [(0, 5)], tt⟩ ⟨fun _ _ c => ?_, tt⟩
 refine op_of _ rfl rfl ?_
 try simp only [l3, l4, l5, l6] at c
 refine Cb c (laws_eqPath_ok hx16) ⟨.go (owns_T 34) 6, .go (owns_T 34) 7, .g 8, .go (owns_T 34) 9, .go (owns_T 34) 10, .g 11, .go (owns_T 34) 27, .go (owns_T 34) 28, .g 29, .go (owns_T 34) 30, .go (owns_T 34) 31, .g 32, tt⟩ Tryz.call33 fun _ _ _ c => ?_
 refine E0 (nQ hd14 () (c.rk (rg 27) (rg 19)))
 refine q0 (qs := [(0, 72, pJ x9 i20), (1, 73, pV p1 ga2 gc3 ga4 gc5 ga6 gc7 ga8 gc9 ga10 gc11 ga12 gc13)]) c (qn [2] ⟨qP [(0, 5)], qP [(0, 1)], tt⟩ ⟨fun _ _ c => ?_, tt⟩)
 refine op_of _ rfl rfl ?_
 try simp only [l3, l4, l5, l6] at c
 refine Cb c (laws_toPath_ok hx15) ⟨.f 1, .f 2, .f 3, .f 4, .f 5, .f 6, tt⟩ Tryz.call31 fun i25 _ _ c => ?_
 refine E0 (nQ hd13 (i25.1, i25.2.1, i25.2.2.1, i25.2.2.2.1, i25.2.2.2.2.1, i25.2.2.2.2.2.1, i25.2.2.2.2.2.2.1, i25.2.2.2.2.2.2.2.1, i25.2.2.2.2.2.2.2.2.1, i25.2.2.2.2.2.2.2.2.2.1, i25.2.2.2.2.2.2.2.2.2.2.1, i25.2.2.2.2.2.2.2.2.2.2.2) (c.rk (rg 33) (rg 19)))
 refine I0 c h (fun h => ?_) fun h => ?_
 refine P0 [] c fun _ c => ?_
 obtain rfl := sj h
 exact wp_ret (tr (Rt c () [] []))
 refine K0 (S0 (Bd h fun x17 hx17 h => Bd h fun x18 hx18 h => S0 (Jn (fun _ : Unit => ([(3, B b1 0), (4, B b2 0), (5, B b3 0), (8, B b15 0), (9, .bool x7.2), (10, B b16 0), (11, B b17 0), (12, B b18 0), (13, B b19 0), (14, .bool x11.2), (81, .bool (!x18))], id, [])) c ?_ fun _ _ _ c => ?_)))
 refine As mix c fun _ c => ?_
 replace c := Cx.frs [(3, B b1 0), (4, B b2 0), (5, B b3 0), (8, B b15 0), (9, .bool x7.2), (10, B b16 0), (11, B b17 0), (12, B b18 0), (13, B b19 0), (14, .bool x11.2)] c
 refine Dq (fun _ : Unit => ([(3, B b1 0), (4, B b2 0), (5, B b3 0), (8, B b15 0), (9, .bool x7.2), (10, B b16 0), (11, B b17 0), (12, B b18 0), (13, B b19 0), (14, .bool x11.2), (80, .bool x18)], id, [])) (bN 5 15) (fun _ => [(4, 81, .bool (!x18))]) c (fun _ => ?_) fun hd16 => ?_
 refine qnE ⟨qP [], tt⟩ fun _ _ c => ?_
 exact nN () (c.rk (rg 27) (rg 19))
 refine Dq (fun i : Hp => ([(3, B b1 0), (4, B b2 0), (5, B b3 0), (8, B b15 0), (9, .bool x7.2), (10, B b16 0), (11, B b17 0), (12, B b18 0), (13, B b19 0), (14, .bool x11.2), (79, pJ x17 i)], fun Γ => Γ ++ [OD (ownT 34) 34 (L i.1 x17.Regs i.2.1) x17.Regs, OD (ownT 34) 34 (L i.2.2.1 x17.Mem i.2.2.2.1) x17.Mem, sl3 (L i.2.2.2.2.1 x17.Stack i.2.2.2.2.2.1) x17.Stack, OD (ownT 34) 34 (L i.2.2.2.2.2.2.1 x17.Out i.2.2.2.2.2.2.2.1) x17.Out, OD (ownT 34) 34 (L i.2.2.2.2.2.2.2.2.1 x17.Cond i.2.2.2.2.2.2.2.2.2.1) x17.Cond, sl3 (L i.2.2.2.2.2.2.2.2.2.2.1 x17.Turns i.2.2.2.2.2.2.2.2.2.2.2) x17.Turns], [])) (bN 5 6) (fun i => [(0, 77, pJ x10 i21)]) c (fun i28 => ?_) fun hd15 => ?_
 obtain ⟨a74, c74, a75, c75, a76, c76, a77, c77, a78, c78, a79, c79⟩ := i28
 refine qn [3] ⟨qP [(0, 6)], tt⟩ ⟨fun _ _ c => ?_, tt⟩
 refine op_of _ rfl rfl ?_
 try simp only [l3, l4, l5, l6] at c
 refine Cb c (laws_eqPath_ok hx18) ⟨.go (owns_T 34) 13, .go (owns_T 34) 14, .g 15, .go (owns_T 34) 16, .go (owns_T 34) 17, .g 18, .go (owns_T 34) 27, .go (owns_T 34) 28, .g 29, .go (owns_T 34) 30, .go (owns_T 34) 31, .g 32, tt⟩ Tryz.call33 fun _ _ _ c => ?_
 refine E0 (nQ hd16 () (c.rk (rg 27) (rg 19)))
 refine q0 (qs := [(0, 77, pJ x10 i21), (1, 78, pV p2 ga14 gc15 ga16 gc17 ga18 gc19 ga20 gc21 ga22 gc23 ga24 gc25)]) c (qn [2] ⟨qP [(0, 6)], qP [(0, 2)], tt⟩ ⟨fun _ _ c => ?_, tt⟩)
 refine op_of _ rfl rfl ?_
 try simp only [l3, l4, l5, l6] at c
 refine Cb c (laws_toPath_ok hx17) ⟨.f 7, .f 8, .f 9, .f 10, .f 11, .f 12, tt⟩ Tryz.call31 fun i27 _ _ c => ?_
 refine E0 (nQ hd15 (i27.1, i27.2.1, i27.2.2.1, i27.2.2.2.1, i27.2.2.2.2.1, i27.2.2.2.2.2.1, i27.2.2.2.2.2.2.1, i27.2.2.2.2.2.2.2.1, i27.2.2.2.2.2.2.2.2.1, i27.2.2.2.2.2.2.2.2.2.1, i27.2.2.2.2.2.2.2.2.2.2.1, i27.2.2.2.2.2.2.2.2.2.2.2) (c.rk (rg 33) (rg 19)))
 refine I0 c h (fun h => ?_) fun h => ?_
 refine P0 [] c fun _ c => ?_
 obtain rfl := sj h
 exact wp_ret (tr (Rt c () [] []))
 refine K0 (P0 [] c fun _ c => T0 (Fp [(0, 4)] 2 c fun _ c => Bd h fun x19 hx19 h => Ca [4] c (laws_markProgram_ok hx19) tt Tryz.call26 fun _ _ _ c => ?_))
 refine Fp [] 1 c fun _ c => E0 (T0 (Fp [(0, 5)] 2 c fun _ c => Bd h fun x20 hx20 h => Ca [5, 6, 7, 8, 9, 10] c (laws_markPath_ok hx20) tt Tryz.call34 fun _ _ _ c => ?_))
 refine Fp [] 1 c fun _ c => E0 (T0 (Fp [(0, 6)] 2 c fun _ c => ?_))
 replace c := c.gm [BX b1 45 (gC p0 ga0 gc1), BX b2 63 (pC p1 ga2 gc3 ga4 gc5 ga6 gc7 ga8 gc9 ga10 gc11 ga12 gc13), BX b3 63 (pC p2 ga14 gc15 ga16 gc17 ga18 gc19 ga20 gc21 ga22 gc23 ga24 gc25), BX b15 66 (pC x7.1 a61 c61 a62 c62 a63 c63 a64 c64 a65 c65 a66 c66), BX b16 53 (gC x8 i19.1 i19.2), BX b17 66 (pM x9 i20), OD (ownT 34) 34 (L i21.1 x10.Regs i21.2.1) x10.Regs, OD (ownT 34) 34 (L i21.2.2.1 x10.Mem i21.2.2.2.1) x10.Mem, sl3 (L i21.2.2.2.2.1 x10.Stack i21.2.2.2.2.2.1) x10.Stack, OD (ownT 34) 34 (L i21.2.2.2.2.2.2.1 x10.Out i21.2.2.2.2.2.2.2.1) x10.Out, OD (ownT 34) 34 (L i21.2.2.2.2.2.2.2.2.1 x10.Cond i21.2.2.2.2.2.2.2.2.2.1) x10.Cond, sl3 (L i21.2.2.2.2.2.2.2.2.2.2.1 x10.Turns i21.2.2.2.2.2.2.2.2.2.2.2) x10.Turns, BX b18 66 (pM x10 i21), OD (ownT 34) 34 (L i22.1 x11.1.Regs i22.2.1) x11.1.Regs, OD (ownT 34) 34 (L i22.2.2.1 x11.1.Mem i22.2.2.2.1) x11.1.Mem, sl3 (L i22.2.2.2.2.1 x11.1.Stack i22.2.2.2.2.2.1) x11.1.Stack, OD (ownT 34) 34 (L i22.2.2.2.2.2.2.1 x11.1.Out i22.2.2.2.2.2.2.2.1) x11.1.Out, OD (ownT 34) 34 (L i22.2.2.2.2.2.2.2.2.1 x11.1.Cond i22.2.2.2.2.2.2.2.2.2.1) x11.1.Cond, sl3 (L i22.2.2.2.2.2.2.2.2.2.2.1 x11.1.Turns i22.2.2.2.2.2.2.2.2.2.2.2) x11.1.Turns, BX b19 66 (pM x11.1 i22), sl141 (L i19.1 x8.Code i19.2) x19.2.Code, OD (ownT 34) 34 (L i20.1 x9.Regs i20.2.1) x20.2.Regs, OD (ownT 34) 34 (L i20.2.2.1 x9.Mem i20.2.2.2.1) x20.2.Mem, sl3 (L i20.2.2.2.2.1 x9.Stack i20.2.2.2.2.2.1) x20.2.Stack, OD (ownT 34) 34 (L i20.2.2.2.2.2.2.1 x9.Out i20.2.2.2.2.2.2.2.1) x20.2.Out, OD (ownT 34) 34 (L i20.2.2.2.2.2.2.2.2.1 x9.Cond i20.2.2.2.2.2.2.2.2.2.1) x20.2.Cond, sl3 (L i20.2.2.2.2.2.2.2.2.2.2.1 x9.Turns i20.2.2.2.2.2.2.2.2.2.2.2) x20.2.Turns]
 refine Bd h fun x21 hx21 h => Ca [6, 7, 8, 9, 10, 11] c (laws_markPath_ok hx21) tt Tryz.call34 fun _ _ _ c => ?_
 refine Fp [] 1 c fun _ c => E0 (S0 (Bd h fun x22 hx22 h => S0 (rZ [(5, .eq (.bool x22))] [(3, 7), (4, 3)] mix c ⟨Ncl c (fun hg => laws_eqPath_ok (iteF (gcF hg) hx22)) ⟨.go (owns_T 34) 7, .go (owns_T 34) 8, .g 9, .go (owns_T 34) 10, .go (owns_T 34) 11, .g 12, .f 13, .f 14, .f 15, .f 16, .f 17, .f 18, tt⟩ Tryz.call33, tt⟩ fun _ _ c => I0 c h (fun h => ?_) fun h => ?_)))
 refine P0 [] c fun _ c => ?_
 obtain rfl := sj h
 exact wp_ret (tr (Rt c () [] []))
 refine K0 (P0 [] c fun _ c => T0 (Fp [(0, 7)] 2 c fun _ c => Bd h fun x23 hx23 h => Ca [7, 8, 9, 10, 11, 12] c (laws_markPath_ok hx23) tt Tryz.call34 fun _ _ _ c => ?_))
 refine Fp [] 1 c fun _ c => E0 (P0 [] c fun _ c => T0 (Fp [(0, 7)] 2 c fun _ c => ?_))
 replace c := c.gm [BX b1 45 (gC p0 ga0 gc1), BX b2 63 (pC p1 ga2 gc3 ga4 gc5 ga6 gc7 ga8 gc9 ga10 gc11 ga12 gc13), BX b3 63 (pC p2 ga14 gc15 ga16 gc17 ga18 gc19 ga20 gc21 ga22 gc23 ga24 gc25), BX b15 66 (pC x7.1 a61 c61 a62 c62 a63 c63 a64 c64 a65 c65 a66 c66), BX b16 53 (gC x8 i19.1 i19.2), BX b17 66 (pM x9 i20), BX b18 66 (pM x10 i21), BX b19 66 (pM x11.1 i22), sl141 (L i19.1 x8.Code i19.2) x19.2.Code, OD (ownT 34) 34 (L i20.1 x9.Regs i20.2.1) x20.2.Regs, OD (ownT 34) 34 (L i20.2.2.1 x9.Mem i20.2.2.2.1) x20.2.Mem, sl3 (L i20.2.2.2.2.1 x9.Stack i20.2.2.2.2.2.1) x20.2.Stack, OD (ownT 34) 34 (L i20.2.2.2.2.2.2.1 x9.Out i20.2.2.2.2.2.2.2.1) x20.2.Out, OD (ownT 34) 34 (L i20.2.2.2.2.2.2.2.2.1 x9.Cond i20.2.2.2.2.2.2.2.2.2.1) x20.2.Cond, sl3 (L i20.2.2.2.2.2.2.2.2.2.2.1 x9.Turns i20.2.2.2.2.2.2.2.2.2.2.2) x20.2.Turns, OD (ownT 34) 34 (L i21.1 x10.Regs i21.2.1) x21.2.Regs, OD (ownT 34) 34 (L i21.2.2.1 x10.Mem i21.2.2.2.1) x21.2.Mem, sl3 (L i21.2.2.2.2.1 x10.Stack i21.2.2.2.2.2.1) x21.2.Stack, OD (ownT 34) 34 (L i21.2.2.2.2.2.2.1 x10.Out i21.2.2.2.2.2.2.2.1) x21.2.Out, OD (ownT 34) 34 (L i21.2.2.2.2.2.2.2.2.1 x10.Cond i21.2.2.2.2.2.2.2.2.2.1) x21.2.Cond, sl3 (L i21.2.2.2.2.2.2.2.2.2.2.1 x10.Turns i21.2.2.2.2.2.2.2.2.2.2.2) x21.2.Turns, OD (ownT 34) 34 (L i22.1 x11.1.Regs i22.2.1) x23.2.Regs, OD (ownT 34) 34 (L i22.2.2.1 x11.1.Mem i22.2.2.2.1) x23.2.Mem, sl3 (L i22.2.2.2.2.1 x11.1.Stack i22.2.2.2.2.2.1) x23.2.Stack, OD (ownT 34) 34 (L i22.2.2.2.2.2.2.1 x11.1.Out i22.2.2.2.2.2.2.2.1) x23.2.Out, OD (ownT 34) 34 (L i22.2.2.2.2.2.2.2.2.1 x11.1.Cond i22.2.2.2.2.2.2.2.2.2.1) x23.2.Cond, sl3 (L i22.2.2.2.2.2.2.2.2.2.2.1 x11.1.Turns i22.2.2.2.2.2.2.2.2.2.2.2) x23.2.Turns]
 obtain ⟨he1, c⟩ := c.releno 21
 replace c := c.eqs (v := (pJ x11.1 i22)) (u := .agg #[I x11.1.Pc, L i22.1 x23.2.Regs i22.2.1, L i22.2.2.1 x11.1.Mem i22.2.2.2.1, L i22.2.2.2.2.1 x11.1.Stack i22.2.2.2.2.2.1, I x11.1.In, L i22.2.2.2.2.2.2.1 x11.1.Out i22.2.2.2.2.2.2.2.1, I x11.1.Code, I x11.1.Steps, L i22.2.2.2.2.2.2.2.2.1 x11.1.Cond i22.2.2.2.2.2.2.2.2.2.1, L i22.2.2.2.2.2.2.2.2.2.2.1 x11.1.Turns i22.2.2.2.2.2.2.2.2.2.2.2]) 107 (by simp only [pJ, pV, L, he1])
 replace c := c.bxe (cs := (pM x11.1 i22)) (cs' := [I x11.1.Pc, L i22.1 x23.2.Regs i22.2.1, L i22.2.2.1 x11.1.Mem i22.2.2.2.1, L i22.2.2.2.2.1 x11.1.Stack i22.2.2.2.2.2.1, I x11.1.In, L i22.2.2.2.2.2.2.1 x11.1.Out i22.2.2.2.2.2.2.2.1, I x11.1.Code, I x11.1.Steps, L i22.2.2.2.2.2.2.2.2.1 x11.1.Cond i22.2.2.2.2.2.2.2.2.2.1, L i22.2.2.2.2.2.2.2.2.2.2.1 x11.1.Turns i22.2.2.2.2.2.2.2.2.2.2.2]) 7 (by simp only [pC, pM, L, he1])
 obtain ⟨he2, c⟩ := c.releno 22
 replace c := c.eqs (v := .agg #[I x11.1.Pc, L i22.1 x23.2.Regs i22.2.1, L i22.2.2.1 x11.1.Mem i22.2.2.2.1, L i22.2.2.2.2.1 x11.1.Stack i22.2.2.2.2.2.1, I x11.1.In, L i22.2.2.2.2.2.2.1 x11.1.Out i22.2.2.2.2.2.2.2.1, I x11.1.Code, I x11.1.Steps, L i22.2.2.2.2.2.2.2.2.1 x11.1.Cond i22.2.2.2.2.2.2.2.2.2.1, L i22.2.2.2.2.2.2.2.2.2.2.1 x11.1.Turns i22.2.2.2.2.2.2.2.2.2.2.2]) (u := .agg #[I x11.1.Pc, L i22.1 x23.2.Regs i22.2.1, L i22.2.2.1 x23.2.Mem i22.2.2.2.1, L i22.2.2.2.2.1 x11.1.Stack i22.2.2.2.2.2.1, I x11.1.In, L i22.2.2.2.2.2.2.1 x11.1.Out i22.2.2.2.2.2.2.2.1, I x11.1.Code, I x11.1.Steps, L i22.2.2.2.2.2.2.2.2.1 x11.1.Cond i22.2.2.2.2.2.2.2.2.2.1, L i22.2.2.2.2.2.2.2.2.2.2.1 x11.1.Turns i22.2.2.2.2.2.2.2.2.2.2.2]) 107 (by simp only [L, he2])
 replace c := c.bxe (cs := [I x11.1.Pc, L i22.1 x23.2.Regs i22.2.1, L i22.2.2.1 x11.1.Mem i22.2.2.2.1, L i22.2.2.2.2.1 x11.1.Stack i22.2.2.2.2.2.1, I x11.1.In, L i22.2.2.2.2.2.2.1 x11.1.Out i22.2.2.2.2.2.2.2.1, I x11.1.Code, I x11.1.Steps, L i22.2.2.2.2.2.2.2.2.1 x11.1.Cond i22.2.2.2.2.2.2.2.2.2.1, L i22.2.2.2.2.2.2.2.2.2.2.1 x11.1.Turns i22.2.2.2.2.2.2.2.2.2.2.2]) (cs' := [I x11.1.Pc, L i22.1 x23.2.Regs i22.2.1, L i22.2.2.1 x23.2.Mem i22.2.2.2.1, L i22.2.2.2.2.1 x11.1.Stack i22.2.2.2.2.2.1, I x11.1.In, L i22.2.2.2.2.2.2.1 x11.1.Out i22.2.2.2.2.2.2.2.1, I x11.1.Code, I x11.1.Steps, L i22.2.2.2.2.2.2.2.2.1 x11.1.Cond i22.2.2.2.2.2.2.2.2.2.1, L i22.2.2.2.2.2.2.2.2.2.2.1 x11.1.Turns i22.2.2.2.2.2.2.2.2.2.2.2]) 7 (by simp only [L, he2])
 obtain ⟨he3, c⟩ := c.relen 23
 replace c := c.eqs (v := .agg #[I x11.1.Pc, L i22.1 x23.2.Regs i22.2.1, L i22.2.2.1 x23.2.Mem i22.2.2.2.1, L i22.2.2.2.2.1 x11.1.Stack i22.2.2.2.2.2.1, I x11.1.In, L i22.2.2.2.2.2.2.1 x11.1.Out i22.2.2.2.2.2.2.2.1, I x11.1.Code, I x11.1.Steps, L i22.2.2.2.2.2.2.2.2.1 x11.1.Cond i22.2.2.2.2.2.2.2.2.2.1, L i22.2.2.2.2.2.2.2.2.2.2.1 x11.1.Turns i22.2.2.2.2.2.2.2.2.2.2.2]) (u := .agg #[I x11.1.Pc, L i22.1 x23.2.Regs i22.2.1, L i22.2.2.1 x23.2.Mem i22.2.2.2.1, L i22.2.2.2.2.1 x23.2.Stack i22.2.2.2.2.2.1, I x11.1.In, L i22.2.2.2.2.2.2.1 x11.1.Out i22.2.2.2.2.2.2.2.1, I x11.1.Code, I x11.1.Steps, L i22.2.2.2.2.2.2.2.2.1 x11.1.Cond i22.2.2.2.2.2.2.2.2.2.1, L i22.2.2.2.2.2.2.2.2.2.2.1 x11.1.Turns i22.2.2.2.2.2.2.2.2.2.2.2]) 107 (by simp only [L, he3])
 replace c := c.bxe (cs := [I x11.1.Pc, L i22.1 x23.2.Regs i22.2.1, L i22.2.2.1 x23.2.Mem i22.2.2.2.1, L i22.2.2.2.2.1 x11.1.Stack i22.2.2.2.2.2.1, I x11.1.In, L i22.2.2.2.2.2.2.1 x11.1.Out i22.2.2.2.2.2.2.2.1, I x11.1.Code, I x11.1.Steps, L i22.2.2.2.2.2.2.2.2.1 x11.1.Cond i22.2.2.2.2.2.2.2.2.2.1, L i22.2.2.2.2.2.2.2.2.2.2.1 x11.1.Turns i22.2.2.2.2.2.2.2.2.2.2.2]) (cs' := [I x11.1.Pc, L i22.1 x23.2.Regs i22.2.1, L i22.2.2.1 x23.2.Mem i22.2.2.2.1, L i22.2.2.2.2.1 x23.2.Stack i22.2.2.2.2.2.1, I x11.1.In, L i22.2.2.2.2.2.2.1 x11.1.Out i22.2.2.2.2.2.2.2.1, I x11.1.Code, I x11.1.Steps, L i22.2.2.2.2.2.2.2.2.1 x11.1.Cond i22.2.2.2.2.2.2.2.2.2.1, L i22.2.2.2.2.2.2.2.2.2.2.1 x11.1.Turns i22.2.2.2.2.2.2.2.2.2.2.2]) 7 (by simp only [L, he3])
 obtain ⟨he4, c⟩ := c.releno 24
 replace c := c.eqs (v := .agg #[I x11.1.Pc, L i22.1 x23.2.Regs i22.2.1, L i22.2.2.1 x23.2.Mem i22.2.2.2.1, L i22.2.2.2.2.1 x23.2.Stack i22.2.2.2.2.2.1, I x11.1.In, L i22.2.2.2.2.2.2.1 x11.1.Out i22.2.2.2.2.2.2.2.1, I x11.1.Code, I x11.1.Steps, L i22.2.2.2.2.2.2.2.2.1 x11.1.Cond i22.2.2.2.2.2.2.2.2.2.1, L i22.2.2.2.2.2.2.2.2.2.2.1 x11.1.Turns i22.2.2.2.2.2.2.2.2.2.2.2]) (u := .agg #[I x11.1.Pc, L i22.1 x23.2.Regs i22.2.1, L i22.2.2.1 x23.2.Mem i22.2.2.2.1, L i22.2.2.2.2.1 x23.2.Stack i22.2.2.2.2.2.1, I x11.1.In, L i22.2.2.2.2.2.2.1 x23.2.Out i22.2.2.2.2.2.2.2.1, I x11.1.Code, I x11.1.Steps, L i22.2.2.2.2.2.2.2.2.1 x11.1.Cond i22.2.2.2.2.2.2.2.2.2.1, L i22.2.2.2.2.2.2.2.2.2.2.1 x11.1.Turns i22.2.2.2.2.2.2.2.2.2.2.2]) 107 (by simp only [L, he4])
 replace c := c.bxe (cs := [I x11.1.Pc, L i22.1 x23.2.Regs i22.2.1, L i22.2.2.1 x23.2.Mem i22.2.2.2.1, L i22.2.2.2.2.1 x23.2.Stack i22.2.2.2.2.2.1, I x11.1.In, L i22.2.2.2.2.2.2.1 x11.1.Out i22.2.2.2.2.2.2.2.1, I x11.1.Code, I x11.1.Steps, L i22.2.2.2.2.2.2.2.2.1 x11.1.Cond i22.2.2.2.2.2.2.2.2.2.1, L i22.2.2.2.2.2.2.2.2.2.2.1 x11.1.Turns i22.2.2.2.2.2.2.2.2.2.2.2]) (cs' := [I x11.1.Pc, L i22.1 x23.2.Regs i22.2.1, L i22.2.2.1 x23.2.Mem i22.2.2.2.1, L i22.2.2.2.2.1 x23.2.Stack i22.2.2.2.2.2.1, I x11.1.In, L i22.2.2.2.2.2.2.1 x23.2.Out i22.2.2.2.2.2.2.2.1, I x11.1.Code, I x11.1.Steps, L i22.2.2.2.2.2.2.2.2.1 x11.1.Cond i22.2.2.2.2.2.2.2.2.2.1, L i22.2.2.2.2.2.2.2.2.2.2.1 x11.1.Turns i22.2.2.2.2.2.2.2.2.2.2.2]) 7 (by simp only [L, he4])
 obtain ⟨he5, c⟩ := c.releno 25
 replace c := c.eqs (v := .agg #[I x11.1.Pc, L i22.1 x23.2.Regs i22.2.1, L i22.2.2.1 x23.2.Mem i22.2.2.2.1, L i22.2.2.2.2.1 x23.2.Stack i22.2.2.2.2.2.1, I x11.1.In, L i22.2.2.2.2.2.2.1 x23.2.Out i22.2.2.2.2.2.2.2.1, I x11.1.Code, I x11.1.Steps, L i22.2.2.2.2.2.2.2.2.1 x11.1.Cond i22.2.2.2.2.2.2.2.2.2.1, L i22.2.2.2.2.2.2.2.2.2.2.1 x11.1.Turns i22.2.2.2.2.2.2.2.2.2.2.2]) (u := .agg #[I x11.1.Pc, L i22.1 x23.2.Regs i22.2.1, L i22.2.2.1 x23.2.Mem i22.2.2.2.1, L i22.2.2.2.2.1 x23.2.Stack i22.2.2.2.2.2.1, I x11.1.In, L i22.2.2.2.2.2.2.1 x23.2.Out i22.2.2.2.2.2.2.2.1, I x11.1.Code, I x11.1.Steps, L i22.2.2.2.2.2.2.2.2.1 x23.2.Cond i22.2.2.2.2.2.2.2.2.2.1, L i22.2.2.2.2.2.2.2.2.2.2.1 x11.1.Turns i22.2.2.2.2.2.2.2.2.2.2.2]) 107 (by simp only [L, he5])
 replace c := c.bxe (cs := [I x11.1.Pc, L i22.1 x23.2.Regs i22.2.1, L i22.2.2.1 x23.2.Mem i22.2.2.2.1, L i22.2.2.2.2.1 x23.2.Stack i22.2.2.2.2.2.1, I x11.1.In, L i22.2.2.2.2.2.2.1 x23.2.Out i22.2.2.2.2.2.2.2.1, I x11.1.Code, I x11.1.Steps, L i22.2.2.2.2.2.2.2.2.1 x11.1.Cond i22.2.2.2.2.2.2.2.2.2.1, L i22.2.2.2.2.2.2.2.2.2.2.1 x11.1.Turns i22.2.2.2.2.2.2.2.2.2.2.2]) (cs' := [I x11.1.Pc, L i22.1 x23.2.Regs i22.2.1, L i22.2.2.1 x23.2.Mem i22.2.2.2.1, L i22.2.2.2.2.1 x23.2.Stack i22.2.2.2.2.2.1, I x11.1.In, L i22.2.2.2.2.2.2.1 x23.2.Out i22.2.2.2.2.2.2.2.1, I x11.1.Code, I x11.1.Steps, L i22.2.2.2.2.2.2.2.2.1 x23.2.Cond i22.2.2.2.2.2.2.2.2.2.1, L i22.2.2.2.2.2.2.2.2.2.2.1 x11.1.Turns i22.2.2.2.2.2.2.2.2.2.2.2]) 7 (by simp only [L, he5])
 obtain ⟨he6, c⟩ := c.relen 26
 replace c := c.eqs (v := .agg #[I x11.1.Pc, L i22.1 x23.2.Regs i22.2.1, L i22.2.2.1 x23.2.Mem i22.2.2.2.1, L i22.2.2.2.2.1 x23.2.Stack i22.2.2.2.2.2.1, I x11.1.In, L i22.2.2.2.2.2.2.1 x23.2.Out i22.2.2.2.2.2.2.2.1, I x11.1.Code, I x11.1.Steps, L i22.2.2.2.2.2.2.2.2.1 x23.2.Cond i22.2.2.2.2.2.2.2.2.2.1, L i22.2.2.2.2.2.2.2.2.2.2.1 x11.1.Turns i22.2.2.2.2.2.2.2.2.2.2.2]) (u := .agg #[I x11.1.Pc, L i22.1 x23.2.Regs i22.2.1, L i22.2.2.1 x23.2.Mem i22.2.2.2.1, L i22.2.2.2.2.1 x23.2.Stack i22.2.2.2.2.2.1, I x11.1.In, L i22.2.2.2.2.2.2.1 x23.2.Out i22.2.2.2.2.2.2.2.1, I x11.1.Code, I x11.1.Steps, L i22.2.2.2.2.2.2.2.2.1 x23.2.Cond i22.2.2.2.2.2.2.2.2.2.1, L i22.2.2.2.2.2.2.2.2.2.2.1 x23.2.Turns i22.2.2.2.2.2.2.2.2.2.2.2]) 107 (by simp only [L, he6])
 replace c := c.bxe (cs := [I x11.1.Pc, L i22.1 x23.2.Regs i22.2.1, L i22.2.2.1 x23.2.Mem i22.2.2.2.1, L i22.2.2.2.2.1 x23.2.Stack i22.2.2.2.2.2.1, I x11.1.In, L i22.2.2.2.2.2.2.1 x23.2.Out i22.2.2.2.2.2.2.2.1, I x11.1.Code, I x11.1.Steps, L i22.2.2.2.2.2.2.2.2.1 x23.2.Cond i22.2.2.2.2.2.2.2.2.2.1, L i22.2.2.2.2.2.2.2.2.2.2.1 x11.1.Turns i22.2.2.2.2.2.2.2.2.2.2.2]) (cs' := [I x11.1.Pc, L i22.1 x23.2.Regs i22.2.1, L i22.2.2.1 x23.2.Mem i22.2.2.2.1, L i22.2.2.2.2.1 x23.2.Stack i22.2.2.2.2.2.1, I x11.1.In, L i22.2.2.2.2.2.2.1 x23.2.Out i22.2.2.2.2.2.2.2.1, I x11.1.Code, I x11.1.Steps, L i22.2.2.2.2.2.2.2.2.1 x23.2.Cond i22.2.2.2.2.2.2.2.2.2.1, L i22.2.2.2.2.2.2.2.2.2.2.1 x23.2.Turns i22.2.2.2.2.2.2.2.2.2.2.2]) 7 (by simp only [L, he6])
 refine Bd h fun x24 hx24 h => Cb c (laws_heldPath_ok hx24) ⟨.go (owns_T 34) 21, .go (owns_T 34) 22, .g 23, .go (owns_T 34) 24, .go (owns_T 34) 25, .g 26, tt⟩ Tryz.call35 fun _ _ _ c => ?_
 refine Fp [] 1 c fun _ c => E0 (S0 (P0 [] c fun _ c => I0 c h (fun h => ?_) fun h => ?_))
 refine P0 [] c fun _ c => ?_
 obtain rfl := sj h
 exact wp_ret (tr (Rt c () [] []))
 refine K0 (S0 (P0 [] c fun _ c => I0 c h (fun h => ?_) fun h => ?_))
 refine P0 [] c fun _ c => ?_
 obtain rfl := sj h
 exact wp_ret (tr (Rt c () [] []))
 refine K0 (Bd h fun x25 hx25 h => Bd h fun x26 hx26 h => Bd h fun x27 hx27 h => Bd h fun x28 hx28 h => S0 (Jn (fun i : Nat × Hp => ([(8, B b15 0), (9, .bool x7.2), (13, B b19 0), (16, I x23.1), (18, B i.1 0), (19, .bool x28.2)], fun Γ => Γ ++ [BX i.1 66 (pM x28.1 i.2), OD (ownT 34) 34 (L i.2.1 x28.1.Regs i.2.2.1) x28.1.Regs, OD (ownT 34) 34 (L i.2.2.2.1 x28.1.Mem i.2.2.2.2.1) x28.1.Mem, sl3 (L i.2.2.2.2.2.1 x28.1.Stack i.2.2.2.2.2.2.1) x28.1.Stack, OD (ownT 34) 34 (L i.2.2.2.2.2.2.2.1 x28.1.Out i.2.2.2.2.2.2.2.2.1) x28.1.Out, OD (ownT 34) 34 (L i.2.2.2.2.2.2.2.2.2.1 x28.1.Cond i.2.2.2.2.2.2.2.2.2.2.1) x28.1.Cond, sl3 (L i.2.2.2.2.2.2.2.2.2.2.2.1 x28.1.Turns i.2.2.2.2.2.2.2.2.2.2.2.2) x28.1.Turns], [])) c ?_ fun i46 _ _ c => ?_))
 refine As mix c fun _ c => ?_
 replace c := Cx.frs [(3, B b1 0), (4, B b2 0), (5, B b3 0), (8, B b15 0), (9, .bool x7.2), (13, B b19 0), (16, I x23.1)] c
 refine Dq (fun i : Nat × Hp => ([(8, B b15 0), (9, .bool x7.2), (13, B b19 0), (16, I x23.1), (18, B i.1 0), (115, .tuple #[pJ x28.1 i.2, .bool x28.2])], fun Γ => Γ ++ [BX i.1 66 (pM x28.1 i.2), OD (ownT 34) 34 (L i.2.1 x28.1.Regs i.2.2.1) x28.1.Regs, OD (ownT 34) 34 (L i.2.2.2.1 x28.1.Mem i.2.2.2.2.1) x28.1.Mem, sl3 (L i.2.2.2.2.2.1 x28.1.Stack i.2.2.2.2.2.2.1) x28.1.Stack, OD (ownT 34) 34 (L i.2.2.2.2.2.2.2.1 x28.1.Out i.2.2.2.2.2.2.2.2.1) x28.1.Out, OD (ownT 34) 34 (L i.2.2.2.2.2.2.2.2.2.1 x28.1.Cond i.2.2.2.2.2.2.2.2.2.2.1) x28.1.Cond, sl3 (L i.2.2.2.2.2.2.2.2.2.2.2.1 x28.1.Turns i.2.2.2.2.2.2.2.2.2.2.2.2) x28.1.Turns], [])) (bN 13 3583) (fun i => [(9, 124, .bool x28.2), (12, 19, .bool x28.2)]) c (fun i45 => ?_) fun hd26 => ?_
 obtain ⟨b30, a134, c134, a135, c135, a136, c136, a137, c137, a138, c138, a139, c139⟩ := i45
 refine qnE ⟨qP [], qP [], tt⟩ fun _ _ c => ?_
 exact nN (b30, a134, c134, a135, c135, a136, c136, a137, c137, a138, c138, a139, c139) (c.rk (rg 34) (rg 19))
 refine Dq (fun i : Nat × Hp => ([(8, B b15 0), (9, .bool x7.2), (13, B b19 0), (16, I x23.1), (18, B i.1 0), (122, .tuple #[pJ x28.1 i.2, .bool x28.2])], fun Γ => Γ ++ [BX i.1 66 pZ, OD (ownT 34) 34 (L i.2.1 x28.1.Regs i.2.2.1) x28.1.Regs, OD (ownT 34) 34 (L i.2.2.2.1 x28.1.Mem i.2.2.2.2.1) x28.1.Mem, sl3 (L i.2.2.2.2.2.1 x28.1.Stack i.2.2.2.2.2.2.1) x28.1.Stack, OD (ownT 34) 34 (L i.2.2.2.2.2.2.2.1 x28.1.Out i.2.2.2.2.2.2.2.2.1) x28.1.Out, OD (ownT 34) 34 (L i.2.2.2.2.2.2.2.2.2.1 x28.1.Cond i.2.2.2.2.2.2.2.2.2.2.1) x28.1.Cond, sl3 (L i.2.2.2.2.2.2.2.2.2.2.2.1 x28.1.Turns i.2.2.2.2.2.2.2.2.2.2.2.2) x28.1.Turns], [])) (bN 13 1151) (fun i => [(7, 115, .tuple #[pJ x28.1 i.2, .bool x28.2]), (8, 123, pJ x28.1 i.2), (9, 124, .bool x28.2)]) c (fun i43 => ?_) fun hd25 => ?_
 obtain ⟨b29, a128, c128, a129, c129, a130, c130, a131, c131, a132, c132, a133, c133⟩ := i43
 refine qn [11] ⟨qP [], qP [], qP [], tt⟩ ⟨fun _ _ c => ?_, tt⟩
 refine op_of _ rfl rfl ?_
 try simp only [l3, l4, l5, l6] at c
 refine Ess 27 (pC x28.1 a128 c128 a129 c129 a130 c130 a131 c131 a132 c132 a133 c133) c fun _ c => ?_
 refine E0 (nQ hd26 (b29, a128, c128, a129, c129, a130, c130, a131, c131, a132, c132, a133, c133) (c.rk (rg 34) (rg 19)))
 refine Dq (fun i : Hp => ([(8, B b15 0), (9, .bool x7.2), (13, B b19 0), (16, I x23.1), (122, .tuple #[pJ x28.1 i, .bool x28.2])], fun Γ => Γ ++ [OD (ownT 34) 34 (L i.1 x28.1.Regs i.2.1) x28.1.Regs, OD (ownT 34) 34 (L i.2.2.1 x28.1.Mem i.2.2.2.1) x28.1.Mem, sl3 (L i.2.2.2.2.1 x28.1.Stack i.2.2.2.2.2.1) x28.1.Stack, OD (ownT 34) 34 (L i.2.2.2.2.2.2.1 x28.1.Out i.2.2.2.2.2.2.2.1) x28.1.Out, OD (ownT 34) 34 (L i.2.2.2.2.2.2.2.2.1 x28.1.Cond i.2.2.2.2.2.2.2.2.2.1) x28.1.Cond, sl3 (L i.2.2.2.2.2.2.2.2.2.2.1 x28.1.Turns i.2.2.2.2.2.2.2.2.2.2.2) x28.1.Turns], [])) (bN 13 127) (fun i => [(7, 115, .tuple #[pJ x28.1 i, .bool x28.2]), (8, 123, pJ x28.1 i), (9, 124, .bool x28.2)]) c (fun i40 => ?_) fun hd23 => ?_
 obtain ⟨a109, c109, a110, c110, a111, c111, a112, c112, a113, c113, a114, c114⟩ := i40
 refine qn [10] ⟨qP [], qP [], qP [], tt⟩ ⟨fun _ _ c => ?_, tt⟩
 refine op_of _ rfl rfl ?_
 try simp only [l3, l4, l5, l6] at c
 refine Eal pZ c fun b28 _ _ c => ?_
 refine E0 (nQ hd25 (b28, a109, c109, a110, c110, a111, c111, a112, c112, a113, c113, a114, c114) (c.rk [0, 1, 2, 3, 4, 5, 6, 7, 8, 9, 10, 11, 12, 13, 14, 15, 16, 17, 18, 19, 20, 21, 22, 23, 24, 25, 26, 33, 27, 28, 29, 30, 31, 32] (rg 19)))
 refine Dq (fun i : Nat × Hq (Ob (Hp)) => ([(8, B b15 0), (9, .bool x7.2), (13, B b19 0), (16, I x23.1), (18, B i.1 0), (117, gV x25 i.2.1 i.2.2.1), (119, pK x26 i.2.2.2), (121, pJ x27 i.2.2.2.2.2.2.2.2.2.2.2.2.2.2.2)], fun Γ => Γ ++ [BX i.1 66 pZ, sl141 (L i.2.1 x25.Code i.2.2.1) x25.Code, OD (ownT 34) 34 (L i.2.2.2.1 x26.Regs i.2.2.2.2.1) x26.Regs, OD (ownT 34) 34 (L i.2.2.2.2.2.1 x26.Mem i.2.2.2.2.2.2.1) x26.Mem, sl3 (L i.2.2.2.2.2.2.2.1 x26.Stack i.2.2.2.2.2.2.2.2.1) x26.Stack, OD (ownT 34) 34 (L i.2.2.2.2.2.2.2.2.2.1 x26.Out i.2.2.2.2.2.2.2.2.2.2.1) x26.Out, OD (ownT 34) 34 (L i.2.2.2.2.2.2.2.2.2.2.2.1 x26.Cond i.2.2.2.2.2.2.2.2.2.2.2.2.1) x26.Cond, sl3 (L i.2.2.2.2.2.2.2.2.2.2.2.2.2.1 x26.Turns i.2.2.2.2.2.2.2.2.2.2.2.2.2.2.1) x26.Turns, OD (ownT 34) 34 (L i.2.2.2.2.2.2.2.2.2.2.2.2.2.2.2.1 x27.Regs i.2.2.2.2.2.2.2.2.2.2.2.2.2.2.2.2.1) x27.Regs, OD (ownT 34) 34 (L i.2.2.2.2.2.2.2.2.2.2.2.2.2.2.2.2.2.1 x27.Mem i.2.2.2.2.2.2.2.2.2.2.2.2.2.2.2.2.2.2.1) x27.Mem, sl3 (L i.2.2.2.2.2.2.2.2.2.2.2.2.2.2.2.2.2.2.2.1 x27.Stack i.2.2.2.2.2.2.2.2.2.2.2.2.2.2.2.2.2.2.2.2.1) x27.Stack, OD (ownT 34) 34 (L i.2.2.2.2.2.2.2.2.2.2.2.2.2.2.2.2.2.2.2.2.2.1 x27.Out i.2.2.2.2.2.2.2.2.2.2.2.2.2.2.2.2.2.2.2.2.2.2.1) x27.Out, OD (ownT 34) 34 (L i.2.2.2.2.2.2.2.2.2.2.2.2.2.2.2.2.2.2.2.2.2.2.2.1 x27.Cond i.2.2.2.2.2.2.2.2.2.2.2.2.2.2.2.2.2.2.2.2.2.2.2.2.1) x27.Cond, sl3 (L i.2.2.2.2.2.2.2.2.2.2.2.2.2.2.2.2.2.2.2.2.2.2.2.2.2.1 x27.Turns i.2.2.2.2.2.2.2.2.2.2.2.2.2.2.2.2.2.2.2.2.2.2.2.2.2.2) x27.Turns], [])) (bN 13 1087) (fun i => []) c (fun i41 => ?_) fun hd24 => ?_
 obtain ⟨b27, a115, c115, a116, c116, a117, c117, a118, c118, a119, c119, a120, c120, a121, c121, a122, c122, a123, c123, a124, c124, a125, c125, a126, c126, a127, c127⟩ := i41
 refine qn [6] tt ⟨fun _ _ c => ?_, tt⟩
 refine op_of _ rfl rfl ?_
 try simp only [l3, l4, l5, l6] at c
 refine Cb c (impl_MergePaths_ok hx28) ⟨.g 28, .go (owns_T 34) 29, .go (owns_T 34) 30, .g 31, .go (owns_T 34) 32, .go (owns_T 34) 33, .g 34, .go (owns_T 34) 35, .go (owns_T 34) 36, .g 37, .go (owns_T 34) 38, .go (owns_T 34) 39, .g 40, tt⟩ Tryz.call32 fun i44 _ _ c => ?_
 refine E0 (nQ hd25 (b27, i44.1, i44.2.1, i44.2.2.1, i44.2.2.2.1, i44.2.2.2.2.1, i44.2.2.2.2.2.1, i44.2.2.2.2.2.2.1, i44.2.2.2.2.2.2.2.1, i44.2.2.2.2.2.2.2.2.1, i44.2.2.2.2.2.2.2.2.2.1, i44.2.2.2.2.2.2.2.2.2.2.1, i44.2.2.2.2.2.2.2.2.2.2.2) (c.rk [0, 1, 2, 3, 4, 5, 6, 7, 8, 9, 10, 11, 12, 13, 14, 15, 16, 17, 18, 19, 20, 21, 22, 23, 24, 25, 26, 27, 41, 42, 43, 44, 45, 46] (rg 19)))
 refine Dq (fun i : Hq (Ob (Hp)) => ([(8, B b15 0), (9, .bool x7.2), (13, B b19 0), (16, I x23.1), (117, gV x25 i.1 i.2.1), (119, pK x26 i.2.2), (121, pJ x27 i.2.2.2.2.2.2.2.2.2.2.2.2.2.2)], fun Γ => Γ ++ [sl141 (L i.1 x25.Code i.2.1) x25.Code, OD (ownT 34) 34 (L i.2.2.1 x26.Regs i.2.2.2.1) x26.Regs, OD (ownT 34) 34 (L i.2.2.2.2.1 x26.Mem i.2.2.2.2.2.1) x26.Mem, sl3 (L i.2.2.2.2.2.2.1 x26.Stack i.2.2.2.2.2.2.2.1) x26.Stack, OD (ownT 34) 34 (L i.2.2.2.2.2.2.2.2.1 x26.Out i.2.2.2.2.2.2.2.2.2.1) x26.Out, OD (ownT 34) 34 (L i.2.2.2.2.2.2.2.2.2.2.1 x26.Cond i.2.2.2.2.2.2.2.2.2.2.2.1) x26.Cond, sl3 (L i.2.2.2.2.2.2.2.2.2.2.2.2.1 x26.Turns i.2.2.2.2.2.2.2.2.2.2.2.2.2.1) x26.Turns, OD (ownT 34) 34 (L i.2.2.2.2.2.2.2.2.2.2.2.2.2.2.1 x27.Regs i.2.2.2.2.2.2.2.2.2.2.2.2.2.2.2.1) x27.Regs, OD (ownT 34) 34 (L i.2.2.2.2.2.2.2.2.2.2.2.2.2.2.2.2.1 x27.Mem i.2.2.2.2.2.2.2.2.2.2.2.2.2.2.2.2.2.1) x27.Mem, sl3 (L i.2.2.2.2.2.2.2.2.2.2.2.2.2.2.2.2.2.2.1 x27.Stack i.2.2.2.2.2.2.2.2.2.2.2.2.2.2.2.2.2.2.2.1) x27.Stack, OD (ownT 34) 34 (L i.2.2.2.2.2.2.2.2.2.2.2.2.2.2.2.2.2.2.2.2.1 x27.Out i.2.2.2.2.2.2.2.2.2.2.2.2.2.2.2.2.2.2.2.2.2.1) x27.Out, OD (ownT 34) 34 (L i.2.2.2.2.2.2.2.2.2.2.2.2.2.2.2.2.2.2.2.2.2.2.1 x27.Cond i.2.2.2.2.2.2.2.2.2.2.2.2.2.2.2.2.2.2.2.2.2.2.2.1) x27.Cond, sl3 (L i.2.2.2.2.2.2.2.2.2.2.2.2.2.2.2.2.2.2.2.2.2.2.2.2.1 x27.Turns i.2.2.2.2.2.2.2.2.2.2.2.2.2.2.2.2.2.2.2.2.2.2.2.2.2) x27.Turns], [])) (bN 13 63) (fun i => []) c (fun i36 => ?_) fun hd21 => ?_
 obtain ⟨a89, c89, a90, c90, a91, c91, a92, c92, a93, c93, a94, c94, a95, c95, a96, c96, a97, c97, a98, c98, a99, c99, a100, c100, a101, c101⟩ := i36
 refine qn [6, 10] tt ⟨fun _ _ c => ?_, fun _ _ c => ?_, tt⟩
 refine op_of _ rfl rfl ?_
 try simp only [l3, l4, l5, l6] at c
 refine Cb c (impl_MergePaths_ok hx28) ⟨.g 27, .go (owns_T 34) 28, .go (owns_T 34) 29, .g 30, .go (owns_T 34) 31, .go (owns_T 34) 32, .g 33, .go (owns_T 34) 34, .go (owns_T 34) 35, .g 36, .go (owns_T 34) 37, .go (owns_T 34) 38, .g 39, tt⟩ Tryz.call32 fun i39 _ _ c => ?_
 refine E0 (nQ hd23 (i39.1, i39.2.1, i39.2.2.1, i39.2.2.2.1, i39.2.2.2.2.1, i39.2.2.2.2.2.1, i39.2.2.2.2.2.2.1, i39.2.2.2.2.2.2.2.1, i39.2.2.2.2.2.2.2.2.1, i39.2.2.2.2.2.2.2.2.2.1, i39.2.2.2.2.2.2.2.2.2.2.1, i39.2.2.2.2.2.2.2.2.2.2.2) (c.rk [0, 1, 2, 3, 4, 5, 6, 7, 8, 9, 10, 11, 12, 13, 14, 15, 16, 17, 18, 19, 20, 21, 22, 23, 24, 25, 26, 40, 41, 42, 43, 44, 45] (rg 19)))
 refine op_of _ rfl rfl ?_
 try simp only [l3, l4, l5, l6] at c
 refine Eal pZ c fun b26 _ _ c => ?_
 refine E0 (nQ hd24 (b26, a89, c89, a90, c90, a91, c91, a92, c92, a93, c93, a94, c94, a95, c95, a96, c96, a97, c97, a98, c98, a99, c99, a100, c100, a101, c101) (c.rk [0, 1, 2, 3, 4, 5, 6, 7, 8, 9, 10, 11, 12, 13, 14, 15, 16, 17, 18, 19, 20, 21, 22, 23, 24, 25, 26, 40, 27, 28, 29, 30, 31, 32, 33, 34, 35, 36, 37, 38, 39] (rg 19)))
 refine Dq (fun i : Nat × Ob (Hp) => ([(5, B b3 0), (8, B b15 0), (9, .bool x7.2), (13, B b19 0), (16, I x23.1), (18, B i.1 0), (117, gV x25 i.2.1 i.2.2.1), (119, pJ x26 i.2.2.2)], fun Γ => Γ ++ [BX i.1 66 pZ, sl141 (L i.2.1 x25.Code i.2.2.1) x25.Code, OD (ownT 34) 34 (L i.2.2.2.1 x26.Regs i.2.2.2.2.1) x26.Regs, OD (ownT 34) 34 (L i.2.2.2.2.2.1 x26.Mem i.2.2.2.2.2.2.1) x26.Mem, sl3 (L i.2.2.2.2.2.2.2.1 x26.Stack i.2.2.2.2.2.2.2.2.1) x26.Stack, OD (ownT 34) 34 (L i.2.2.2.2.2.2.2.2.2.1 x26.Out i.2.2.2.2.2.2.2.2.2.2.1) x26.Out, OD (ownT 34) 34 (L i.2.2.2.2.2.2.2.2.2.2.2.1 x26.Cond i.2.2.2.2.2.2.2.2.2.2.2.2.1) x26.Cond, sl3 (L i.2.2.2.2.2.2.2.2.2.2.2.2.2.1 x26.Turns i.2.2.2.2.2.2.2.2.2.2.2.2.2.2) x26.Turns], [])) (bN 13 1039) (fun i => [(4, 120, pV p2 ga14 gc15 ga16 gc17 ga18 gc19 ga20 gc21 ga22 gc23 ga24 gc25)]) c (fun i37 => ?_) fun hd22 => ?_
 obtain ⟨b25, a102, c102, a103, c103, a104, c104, a105, c105, a106, c106, a107, c107, a108, c108⟩ := i37
 refine qn [5] ⟨qP [(0, 2)], tt⟩ ⟨fun _ _ c => ?_, tt⟩
 refine op_of _ rfl rfl ?_
 try simp only [l3, l4, l5, l6] at c
 refine Cb c (laws_toPath_ok hx27) ⟨.f 7, .f 8, .f 9, .f 10, .f 11, .f 12, tt⟩ Tryz.call31 fun i42 _ _ c => ?_
 refine E0 (nQ hd24 (b25, a102, c102, a103, c103, a104, c104, a105, c105, a106, c106, a107, c107, a108, c108, i42.1, i42.2.1, i42.2.2.1, i42.2.2.2.1, i42.2.2.2.2.1, i42.2.2.2.2.2.1, i42.2.2.2.2.2.2.1, i42.2.2.2.2.2.2.2.1, i42.2.2.2.2.2.2.2.2.1, i42.2.2.2.2.2.2.2.2.2.1, i42.2.2.2.2.2.2.2.2.2.2.1, i42.2.2.2.2.2.2.2.2.2.2.2) (c.rk (rg 41) (rg 19)))
 refine Dq (fun i : Ob (Hp) => ([(5, B b3 0), (8, B b15 0), (9, .bool x7.2), (13, B b19 0), (16, I x23.1), (117, gV x25 i.1 i.2.1), (119, pJ x26 i.2.2)], fun Γ => Γ ++ [sl141 (L i.1 x25.Code i.2.1) x25.Code, OD (ownT 34) 34 (L i.2.2.1 x26.Regs i.2.2.2.1) x26.Regs, OD (ownT 34) 34 (L i.2.2.2.2.1 x26.Mem i.2.2.2.2.2.1) x26.Mem, sl3 (L i.2.2.2.2.2.2.1 x26.Stack i.2.2.2.2.2.2.2.1) x26.Stack, OD (ownT 34) 34 (L i.2.2.2.2.2.2.2.2.1 x26.Out i.2.2.2.2.2.2.2.2.2.1) x26.Out, OD (ownT 34) 34 (L i.2.2.2.2.2.2.2.2.2.2.1 x26.Cond i.2.2.2.2.2.2.2.2.2.2.2.1) x26.Cond, sl3 (L i.2.2.2.2.2.2.2.2.2.2.2.2.1 x26.Turns i.2.2.2.2.2.2.2.2.2.2.2.2.2) x26.Turns], [])) (bN 13 15) (fun i => [(4, 120, pV p2 ga14 gc15 ga16 gc17 ga18 gc19 ga20 gc21 ga22 gc23 ga24 gc25)]) c (fun i32 => ?_) fun hd19 => ?_
 obtain ⟨a81, c81, a82, c82, a83, c83, a84, c84, a85, c85, a86, c86, a87, c87⟩ := i32
 refine qn [5, 10] ⟨qP [(0, 2)], tt⟩ ⟨fun _ _ c => ?_, fun _ _ c => ?_, tt⟩
 refine op_of _ rfl rfl ?_
 try simp only [l3, l4, l5, l6] at c
 refine Cb c (laws_toPath_ok hx27) ⟨.f 7, .f 8, .f 9, .f 10, .f 11, .f 12, tt⟩ Tryz.call31 fun i35 _ _ c => ?_
 refine E0 (nQ hd21 (a81, c81, a82, c82, a83, c83, a84, c84, a85, c85, a86, c86, a87, c87, i35.1, i35.2.1, i35.2.2.1, i35.2.2.2.1, i35.2.2.2.2.1, i35.2.2.2.2.2.1, i35.2.2.2.2.2.2.1, i35.2.2.2.2.2.2.2.1, i35.2.2.2.2.2.2.2.2.1, i35.2.2.2.2.2.2.2.2.2.1, i35.2.2.2.2.2.2.2.2.2.2.1, i35.2.2.2.2.2.2.2.2.2.2.2) (c.rk (rg 40) (rg 19)))
 refine op_of _ rfl rfl ?_
 try simp only [l3, l4, l5, l6] at c
 refine Eal pZ c fun b24 _ _ c => ?_
 refine E0 (nQ hd22 (b24, a81, c81, a82, c82, a83, c83, a84, c84, a85, c85, a86, c86, a87, c87) (c.rk [0, 1, 2, 3, 4, 5, 6, 7, 8, 9, 10, 11, 12, 13, 14, 15, 16, 17, 18, 19, 20, 21, 22, 23, 24, 25, 26, 34, 27, 28, 29, 30, 31, 32, 33] (rg 19)))
 refine Dq (fun i : Nat × Oh => ([(4, B b2 0), (5, B b3 0), (8, B b15 0), (9, .bool x7.2), (13, B b19 0), (16, I x23.1), (18, B i.1 0), (117, gV x25 i.2.1 i.2.2)], fun Γ => Γ ++ [BX i.1 66 pZ, sl141 (L i.2.1 x25.Code i.2.2) x25.Code], [])) (bN 13 1027) (fun i => [(2, 118, pV p1 ga2 gc3 ga4 gc5 ga6 gc7 ga8 gc9 ga10 gc11 ga12 gc13), (4, 120, pV p2 ga14 gc15 ga16 gc17 ga18 gc19 ga20 gc21 ga22 gc23 ga24 gc25)]) c (fun i33 => ?_) fun hd20 => ?_
 obtain ⟨b23, a88, c88⟩ := i33
 refine qn [3] ⟨qP [(0, 1)], qP [(0, 2)], tt⟩ ⟨fun _ _ c => ?_, tt⟩
 refine op_of _ rfl rfl ?_
 try simp only [l3, l4, l5, l6] at c
 refine Cb c (laws_toPath_ok hx26) ⟨.f 1, .f 2, .f 3, .f 4, .f 5, .f 6, tt⟩ Tryz.call31 fun i38 _ _ c => ?_
 refine E0 (nQ hd22 (b23, a88, c88, i38.1, i38.2.1, i38.2.2.1, i38.2.2.2.1, i38.2.2.2.2.1, i38.2.2.2.2.2.1, i38.2.2.2.2.2.2.1, i38.2.2.2.2.2.2.2.1, i38.2.2.2.2.2.2.2.2.1, i38.2.2.2.2.2.2.2.2.2.1, i38.2.2.2.2.2.2.2.2.2.2.1, i38.2.2.2.2.2.2.2.2.2.2.2) (c.rk (rg 35) (rg 19)))
 refine Dq (fun i : Oh => ([(4, B b2 0), (5, B b3 0), (8, B b15 0), (9, .bool x7.2), (13, B b19 0), (16, I x23.1), (117, gV x25 i.1 i.2)], fun Γ => Γ ++ [sl141 (L i.1 x25.Code i.2) x25.Code], [])) (bN 13 3) (fun i => [(2, 118, pV p1 ga2 gc3 ga4 gc5 ga6 gc7 ga8 gc9 ga10 gc11 ga12 gc13), (4, 120, pV p2 ga14 gc15 ga16 gc17 ga18 gc19 ga20 gc21 ga22 gc23 ga24 gc25)]) c (fun i30 => ?_) fun hd17 => ?_
 obtain ⟨a80, c80⟩ := i30
 refine qn [3, 10] ⟨qP [(0, 1)], qP [(0, 2)], tt⟩ ⟨fun _ _ c => ?_, fun _ _ c => ?_, tt⟩
 refine op_of _ rfl rfl ?_
 try simp only [l3, l4, l5, l6] at c
 refine Cb c (laws_toPath_ok hx26) ⟨.f 1, .f 2, .f 3, .f 4, .f 5, .f 6, tt⟩ Tryz.call31 fun i31 _ _ c => ?_
 refine E0 (nQ hd19 (a80, c80, i31.1, i31.2.1, i31.2.2.1, i31.2.2.2.1, i31.2.2.2.2.1, i31.2.2.2.2.2.1, i31.2.2.2.2.2.2.1, i31.2.2.2.2.2.2.2.1, i31.2.2.2.2.2.2.2.2.1, i31.2.2.2.2.2.2.2.2.2.1, i31.2.2.2.2.2.2.2.2.2.2.1, i31.2.2.2.2.2.2.2.2.2.2.2) (c.rk (rg 34) (rg 19)))
 refine op_of _ rfl rfl ?_
 try simp only [l3, l4, l5, l6] at c
 refine Eal pZ c fun b22 _ _ c => ?_
 refine E0 (nQ hd20 (b22, a80, c80) (c.rk [0, 1, 2, 3, 4, 5, 6, 7, 8, 9, 10, 11, 12, 13, 14, 15, 16, 17, 18, 19, 20, 21, 22, 23, 24, 25, 26, 28, 27] (rg 19)))
 refine Dq (fun i : Nat => ([(3, B b1 0), (4, B b2 0), (5, B b3 0), (8, B b15 0), (9, .bool x7.2), (13, B b19 0), (16, I x23.1), (18, B i 0)], fun Γ => Γ ++ [BX i 66 pZ], [])) (bN 13 1024) (fun i => [(0, 116, gV p0 ga0 gc1), (2, 118, pV p1 ga2 gc3 ga4 gc5 ga6 gc7 ga8 gc9 ga10 gc11 ga12 gc13), (4, 120, pV p2 ga14 gc15 ga16 gc17 ga18 gc19 ga20 gc21 ga22 gc23 ga24 gc25)]) c (fun b21 => ?_) fun hd18 => ?_
 refine qn [1] ⟨qP [(0, 0)], qP [(0, 1)], qP [(0, 2)], tt⟩ ⟨fun _ _ c => ?_, tt⟩
 refine op_of _ rfl rfl ?_
 try simp only [l3, l4, l5, l6] at c
 refine Cb c (laws_toProgram_ok hx25) ⟨.f 0, tt⟩ Tryz.call21 fun i34 _ _ c => ?_
 refine E0 (nQ hd20 (b21, i34.1, i34.2) (c.rk (rg 29) (rg 19)))
 refine q0 (qs := [(0, 116, gV p0 ga0 gc1), (2, 118, pV p1 ga2 gc3 ga4 gc5 ga6 gc7 ga8 gc9 ga10 gc11 ga12 gc13), (4, 120, pV p2 ga14 gc15 ga16 gc17 ga18 gc19 ga20 gc21 ga22 gc23 ga24 gc25)]) c (qn [1, 10] ⟨qP [(0, 0)], qP [(0, 1)], qP [(0, 2)], tt⟩ ⟨fun _ _ c => ?_, fun _ _ c => ?_, tt⟩)
 refine op_of _ rfl rfl ?_
 try simp only [l3, l4, l5, l6] at c
 refine Cb c (laws_toProgram_ok hx25) ⟨.f 0, tt⟩ Tryz.call21 fun i29 _ _ c => ?_
 refine E0 (nQ hd17 (i29.1, i29.2) (c.rk (rg 28) (rg 19)))
 refine op_of _ rfl rfl ?_
 try simp only [l3, l4, l5, l6] at c
 refine Eal pZ c fun b20 _ _ c => ?_
 refine E0 (nQ hd18 (b20) (c.rk (rg 28) (rg 19)))
 obtain ⟨b31, a140, c140, a141, c141, a142, c142, a143, c143, a144, c144, a145, c145⟩ := i46
 refine S0 (Bd h fun x29 hx29 h => S0 (rZ [(2, .eq (.bool x29))] [(0, 8), (1, 3)] mix c ⟨Ncl c (kN (laws_eqPath_ok hx29)) ⟨.go (owns_T 34) 28, .go (owns_T 34) 29, .g 30, .go (owns_T 34) 31, .go (owns_T 34) 32, .g 33, .f 13, .f 14, .f 15, .f 16, .f 17, .f 18, tt⟩ Tryz.call33, tt⟩ fun _ _ c => I0 c h (fun h => ?_) fun h => ?_))
 refine P0 [] c fun _ c => ?_
 obtain rfl := sj h
 exact wp_ret (tr (Rt c () [] []))
 refine K0 (P0 [] c fun _ c => T0 (Fp [(0, 7)] 2 c fun _ c => Bd h fun x30 hx30 h => Cb c (laws_heldPath_ok hx30) ⟨.go (owns_T 34) 21, .go (owns_T 34) 22, .g 23, .go (owns_T 34) 24, .go (owns_T 34) 25, .g 26, tt⟩ Tryz.call35 fun _ _ _ c => ?_))
 refine Fp [] 1 c fun _ c => E0 (S0 (P0 [] c fun _ c => I0 c h (fun h => ?_) fun h => ?_))
 refine P0 [] c fun _ c => ?_
 obtain rfl := sj h
 exact wp_ret (tr (Rt c () [] []))
 refine K0 (S0 (P0 [] c fun _ c => I0 c h (fun h => ?_) fun h => ?_))
 refine P0 [] c fun _ c => ?_
 obtain rfl := sj h
 exact wp_ret (tr (Rt c () [] []))
 refine K0 (P0 [] c fun _ c => ?_)
 obtain rfl := sj h
 exact wp_ret (Rt c () [] [])
end Go.Proofs.YtbljmkpofaibeaaGreat
