/- The walks, printed by a program. -/
import Derived.Test.YtbljmkpofaibeaaWlkA
set_option linter.unusedVariables false
set_option maxRecDepth 100000
namespace Go.Proofs.Ytbljmkpofaibeaa
open Go.GL Go.Maps Go.WideMaps
set_option maxHeartbeats 4000000 in
theorem impl_remake_impl_reduce_impl_reduceIf_impl_reduceCut_impl_reduceWiden_impl_reduceJoin_impl_reduceBinary_impl_reduceFirst_rec (n : Nat) : (∀ {p0 : Int} {p1 : Int} {p2 : Int} {p3 : List D.Term} {ga0 : Option Addr} {gc1 : Nat} {r : D.Term} (h : impl_remake n p0 p1 p2 p3 = some r), Con Try.prog 87 [I p0, I p1, I p2, L ga0 p3 gc1] [] [RO (L ga0 p3 gc1) p3] fun (i : Option Addr × Nat) => ([.agg #[I r.Op, I r.W, I r.N, Str.val r.Name, L i.1 r.Kids i.2]], [], [RO (L i.1 r.Kids i.2) r.Kids])) ∧
    (∀ {p0 : D.Term} {ga0 : Option Addr} {gc1 : Nat} {r : D.Term} (h : impl_reduce n p0 = some r), Con Try.prog 51 [.agg #[I p0.Op, I p0.W, I p0.N, Str.val p0.Name, L ga0 p0.Kids gc1]] [] [RO (L ga0 p0.Kids gc1) p0.Kids] fun (i : Option Addr × Nat) => ([.agg #[I r.Op, I r.W, I r.N, Str.val r.Name, L i.1 r.Kids i.2]], [], [RO (L i.1 r.Kids i.2) r.Kids])) ∧
    (∀ {p0 : D.Term} {ga0 : Option Addr} {gc1 : Nat} {r : D.Term} (h : impl_reduceIf n p0 = some r), Con Try.prog 69 [.agg #[I p0.Op, I p0.W, I p0.N, Str.val p0.Name, L ga0 p0.Kids gc1]] [] [RO (L ga0 p0.Kids gc1) p0.Kids] fun (i : Option Addr × Nat) => ([.agg #[I r.Op, I r.W, I r.N, Str.val r.Name, L i.1 r.Kids i.2]], [], [RO (L i.1 r.Kids i.2) r.Kids])) ∧
    (∀ {p0 : D.Term} {ga0 : Option Addr} {gc1 : Nat} {r : D.Term} (h : impl_reduceCut n p0 = some r), Con Try.prog 70 [.agg #[I p0.Op, I p0.W, I p0.N, Str.val p0.Name, L ga0 p0.Kids gc1]] [] [RO (L ga0 p0.Kids gc1) p0.Kids] fun (i : Option Addr × Nat) => ([.agg #[I r.Op, I r.W, I r.N, Str.val r.Name, L i.1 r.Kids i.2]], [], [RO (L i.1 r.Kids i.2) r.Kids])) ∧
    (∀ {p0 : D.Term} {ga0 : Option Addr} {gc1 : Nat} {r : D.Term} (h : impl_reduceWiden n p0 = some r), Con Try.prog 71 [.agg #[I p0.Op, I p0.W, I p0.N, Str.val p0.Name, L ga0 p0.Kids gc1]] [] [RO (L ga0 p0.Kids gc1) p0.Kids] fun (i : Option Addr × Nat) => ([.agg #[I r.Op, I r.W, I r.N, Str.val r.Name, L i.1 r.Kids i.2]], [], [RO (L i.1 r.Kids i.2) r.Kids])) ∧
    (∀ {p0 : D.Term} {ga0 : Option Addr} {gc1 : Nat} {r : D.Term} (h : impl_reduceJoin n p0 = some r), Con Try.prog 72 [.agg #[I p0.Op, I p0.W, I p0.N, Str.val p0.Name, L ga0 p0.Kids gc1]] [] [RO (L ga0 p0.Kids gc1) p0.Kids] fun (i : Option Addr × Nat) => ([.agg #[I r.Op, I r.W, I r.N, Str.val r.Name, L i.1 r.Kids i.2]], [], [RO (L i.1 r.Kids i.2) r.Kids])) ∧
    (∀ {p0 : D.Term} {ga0 : Option Addr} {gc1 : Nat} {r : D.Term} (h : impl_reduceBinary n p0 = some r), Con Try.prog 73 [.agg #[I p0.Op, I p0.W, I p0.N, Str.val p0.Name, L ga0 p0.Kids gc1]] [] [RO (L ga0 p0.Kids gc1) p0.Kids] fun (i : Option Addr × Nat) => ([.agg #[I r.Op, I r.W, I r.N, Str.val r.Name, L i.1 r.Kids i.2]], [], [RO (L i.1 r.Kids i.2) r.Kids])) ∧
    (∀ {p0 : Int} {p1 : Int} {p2 : D.Term} {p3 : D.Term} {ga0 : Option Addr} {gc1 : Nat} {ga2 : Option Addr} {gc3 : Nat} {r : D.Term × Bool} (h : impl_reduceFirst n p0 p1 p2 p3 = some r), Con Try.prog 90 [I p0, I p1, .agg #[I p2.Op, I p2.W, I p2.N, Str.val p2.Name, L ga0 p2.Kids gc1], .agg #[I p3.Op, I p3.W, I p3.N, Str.val p3.Name, L ga2 p3.Kids gc3]] [] [RO (L ga0 p2.Kids gc1) p2.Kids, RO (L ga2 p3.Kids gc3) p3.Kids] fun (i : Option Addr × Nat) => ([.agg #[I r.1.Op, I r.1.W, I r.1.N, Str.val r.1.Name, L i.1 r.1.Kids i.2], .bool r.2], [], [RO (L i.1 r.1.Kids i.2) r.1.Kids])) := by
 induction n with
 | zero => exact ⟨by intro p0 p1 p2 p3 ga0 gc1 r h; simp [impl_remake] at h, by intro p0 ga0 gc1 r h; simp [impl_reduce] at h, by intro p0 ga0 gc1 r h; simp [impl_reduceIf] at h, by intro p0 ga0 gc1 r h; simp [impl_reduceCut] at h, by intro p0 ga0 gc1 r h; simp [impl_reduceWiden] at h, by intro p0 ga0 gc1 r h; simp [impl_reduceJoin] at h, by intro p0 ga0 gc1 r h; simp [impl_reduceBinary] at h, by intro p0 p1 p2 p3 ga0 gc1 ga2 gc3 r h; simp [impl_reduceFirst] at h⟩
 | succ n ih =>
 obtain ⟨ih0, ih1, ih2, ih3, ih4, ih5, ih6, ih7⟩ := ih
 refine ⟨?_, ?_, ?_, ?_, ?_, ?_, ?_, ?_⟩
 · intro p0 p1 p2 p3 ga0 gc1 r h
   rw [impl_remake] at h
   refine En Try.func87 rfl Try.ntmps87 fun _ fr w c => ?_
   refine T0 (Eal [I 0, I 0, I 0, Str.val ⟨[]⟩, L none ([] : List D.Term) 0] c fun b1 _ _ c => ?_)
   refine E0 (T0 (Fp [] 5 c fun _ c => Bd h fun x1 hx1 h => Cf [] c (ih1 hx1) ⟨.f 0, trivial⟩ Try.call51 fun i1 _ _ c => ?_))
   refine Ess 0 [I x1.Op, I x1.W, I x1.N, Str.val x1.Name, L i1.1 x1.Kids i1.2] c fun _ c => ?_
   refine E0 ?_
   obtain rfl := sj h
   exact wp_ret (Rg c (i1.1, i1.2) [] [1] (.cell (α := Agg 4) ⟨by kernel_rfl, by kernel_rfl⟩ (.b 0) .nil))
 · intro p0 ga0 gc1 r h
   rw [impl_reduce] at h
   refine En Try.func51 rfl Try.ntmps51 fun _ fr w c => ?_
   refine T0 (Ebx [I p0.Op, I p0.W, I p0.N, Str.val p0.Name, L ga0 p0.Kids gc1] c fun b1 _ _ c => ?_)
   refine Eal [I 0, I 0, I 0, Str.val ⟨[]⟩, L none ([] : List D.Term) 0] c fun b2 _ _ c => ?_
   refine E0 (S0 (P0 [(1, 0)] c fun _ c => I0 c h (fun h => ?_) fun h => ?_))
   refine T0 (Fp [(0, 0)] 1 c fun _ c => Ess 1 [I p0.Op, I p0.W, I p0.N, Str.val p0.Name, L ga0 p0.Kids gc1] c fun _ c => ?_)
   refine E0 ?_
   obtain rfl := sj h
   exact wp_ret (tr (Rg c (ga0, gc1) [] [0] (.cell (α := Agg 4) ⟨by kernel_rfl, by kernel_rfl⟩ (.b 1) .nil)))
   refine K0 (P0 [] c fun _ c => S0 (P0 [(1, 0)] c fun _ c => Bd h fun rl1 hit1 h => Lp (fun s1  (_ : Unit) => ([(1, B b1 0), (2, B b2 0), (3, .bool s1.1), (12, I (len p0.Kids)), (13, I s1.2)], id, [])) (fun  (_ : Unit) => ([(1, B b1 0), (2, B b2 0), (3, .bool rl1)], id, [])) hit1 c () (c.re [0, 1] [0]) (fun s1 q1 _ _ _ c h hr1 => ?_) fun _ _ _ c => ?_))
   refine P0 [] c fun _ c => S0 (I0 c h (fun h => ?_) fun h => ?_)
   refine K0 (S0 (wp_block (P0 [] c fun _ c => Bd h fun x1 hx1 h => Bd h fun x2 hx2 h => Tq (rZ [(5, Pd.el (x1 : D.Term)), (6, Pd.rd (x1 : D.Term)), (7, .eq (.bool x2))] [(3, 0)] mix c ⟨Nid c (.f 0) (gT hx1), Nrd c 5 (atN 5), Ncd (Ψ := []) [.r 6 (fun v => RO v (x1 : D.Term))] c ⟨(atN 6), trivial⟩ trivial (fun hg _ _ ga gp => by obtain ⟨u1, _, rfl, g1, rfl⟩ := ga; obtain ⟨k1, rfl, f1⟩ := Opn.opn g1; exact ⟨_, f1, impl_isConst_ok (iteT (gcT hg) hx2)⟩) Try.call66, trivial⟩ fun _ _ c => bk (tn (P1 [] c fun _ c => Nx h () (c.re [0, 1] [0])))))))
   refine wp_exit (te (te (be ?_)))
   obtain rfl := hr1 _ (Option.some.inj h).symm
   exact tn ⟨(), c.re [0, 1] [0]⟩
   refine S0 (P0 [] c fun _ c => I0 c h (fun h => ?_) fun h => ?_)
   refine Bd h fun x3 hx3 h => S0 (wp_ra mix (rM 4 [(3, .eq (I x3))] [(1, 0), (2, 0)] c (fun ow => ⟨np_tO ow (Ncl c (kN (impl_evalNode_ok hx3)) ⟨.f 0, .mn, trivial⟩ Try.call67), trivial⟩) fun _ _ _ _ _ c => Bd h fun x4 hx4 h => Ca [] c (impl_ConstTerm_ok hx4) trivial Try.call37 fun _ _ _ c => ?_))
   refine Ess 1 [I x4.Op, I x4.W, I x4.N, Str.val x4.Name, L none ([] : List D.Term) 0] c fun _ c => ?_
   refine E0 ?_
   cases h
   replace c := c.nilf (α := D.Term)
   exact wp_ret (tr (Rg c (none, 0) [] [1] (.cell (α := Agg 4) ⟨by kernel_rfl, by kernel_rfl⟩ (.b 1) .nil)))
   refine K0 (S0 (P0 [(1, 0)] c fun _ c => wp_block (S0 (P0 [] c fun _ c => Mp (p0.Op == 1) [(34, .bool (p0.Op == 1))] [(34, .bool (p0.Op == 2))] [(34, .bool ((p0.Op == 1) || (p0.Op == 2)))] [34, 36] c fun _ c => I0 c h (fun h => ?_) fun h => ?_))))
   refine T0 (Fp [(0, 0)] 1 c fun _ c => Bd h fun x5 hx5 h => Cf [] c (impl_reduceUnary_ok hx5) ⟨.f 0, trivial⟩ Try.call68 fun i1 _ _ c => ?_)
   refine Ess 1 [I x5.Op, I x5.W, I x5.N, Str.val x5.Name, L i1.1 x5.Kids i1.2] c fun _ c => ?_
   refine E0 ?_
   obtain rfl := sj h
   exact wp_ret (br (tr (Rg c (i1.1, i1.2) [] [1] (.cell (α := Agg 4) ⟨by kernel_rfl, by kernel_rfl⟩ (.b 1) .nil))))
   refine P0 [] c fun _ c => I0 c h (fun h => ?_) fun h => ?_
   refine T0 (Fp [(0, 0)] 1 c fun _ c => Bd h fun x6 hx6 h => Cf [] c (ih2 hx6) ⟨.f 0, trivial⟩ Try.call69 fun i2 _ _ c => ?_)
   refine Ess 1 [I x6.Op, I x6.W, I x6.N, Str.val x6.Name, L i2.1 x6.Kids i2.2] c fun _ c => ?_
   refine E0 ?_
   obtain rfl := sj h
   exact wp_ret (br (tr (Rg c (i2.1, i2.2) [] [1] (.cell (α := Agg 4) ⟨by kernel_rfl, by kernel_rfl⟩ (.b 1) .nil))))
   refine P0 [] c fun _ c => I0 c h (fun h => ?_) fun h => ?_
   refine T0 (Fp [(0, 0)] 1 c fun _ c => Bd h fun x7 hx7 h => Cf [] c (ih3 hx7) ⟨.f 0, trivial⟩ Try.call70 fun i3 _ _ c => ?_)
   refine Ess 1 [I x7.Op, I x7.W, I x7.N, Str.val x7.Name, L i3.1 x7.Kids i3.2] c fun _ c => ?_
   refine E0 ?_
   obtain rfl := sj h
   exact wp_ret (br (tr (Rg c (i3.1, i3.2) [] [1] (.cell (α := Agg 4) ⟨by kernel_rfl, by kernel_rfl⟩ (.b 1) .nil))))
   refine S0 (P0 [] c fun _ c => Mp (p0.Op == 20) [(47, .bool (p0.Op == 20))] [(47, .bool (p0.Op == 21))] [(47, .bool ((p0.Op == 20) || (p0.Op == 21)))] [47, 49] c fun _ c => I0 c h (fun h => ?_) fun h => ?_)
   refine T0 (Fp [(0, 0)] 1 c fun _ c => Bd h fun x8 hx8 h => Cf [] c (ih4 hx8) ⟨.f 0, trivial⟩ Try.call71 fun i4 _ _ c => ?_)
   refine Ess 1 [I x8.Op, I x8.W, I x8.N, Str.val x8.Name, L i4.1 x8.Kids i4.2] c fun _ c => ?_
   refine E0 ?_
   obtain rfl := sj h
   exact wp_ret (br (tr (Rg c (i4.1, i4.2) [] [1] (.cell (α := Agg 4) ⟨by kernel_rfl, by kernel_rfl⟩ (.b 1) .nil))))
   refine P0 [] c fun _ c => I0 c h (fun h => ?_) fun h => ?_
   refine T0 (Fp [(0, 0)] 1 c fun _ c => Bd h fun x9 hx9 h => Cf [] c (ih5 hx9) ⟨.f 0, trivial⟩ Try.call72 fun i5 _ _ c => ?_)
   refine Ess 1 [I x9.Op, I x9.W, I x9.N, Str.val x9.Name, L i5.1 x9.Kids i5.2] c fun _ c => ?_
   refine E0 ?_
   obtain rfl := sj h
   exact wp_ret (br (tr (Rg c (i5.1, i5.2) [] [1] (.cell (α := Agg 4) ⟨by kernel_rfl, by kernel_rfl⟩ (.b 1) .nil))))
   refine K1 (bk (tn (T0 (Fp [(0, 0)] 1 c fun _ c => Bd h fun x10 hx10 h => Cf [] c (ih6 hx10) ⟨.f 0, trivial⟩ Try.call73 fun i6 _ _ c => ?_))))
   refine Ess 1 [I x10.Op, I x10.W, I x10.N, Str.val x10.Name, L i6.1 x10.Kids i6.2] c fun _ c => ?_
   refine E0 ?_
   obtain rfl := sj h
   exact wp_ret (Rg c (i6.1, i6.2) [] [1] (.cell (α := Agg 4) ⟨by kernel_rfl, by kernel_rfl⟩ (.b 1) .nil))
 · intro p0 ga0 gc1 r h
   rw [impl_reduceIf] at h
   refine En Try.func69 rfl Try.ntmps69 fun _ fr w c => ?_
   refine T0 (Ebx [I p0.Op, I p0.W, I p0.N, Str.val p0.Name, L ga0 p0.Kids gc1] c fun b1 _ _ c => ?_)
   refine Eal [I 0, I 0, I 0, Str.val ⟨[]⟩, L none ([] : List D.Term) 0] c fun b2 _ _ c => ?_
   refine E0 (Bd h fun x1 hx1 h => ?_)
   obtain ⟨ep1, u1, c⟩ := c.elp (.f 0) hx1
   obtain ⟨a1, c1, rfl, c⟩ := c.o_Term 2
   refine Bd h fun x2 hx2 h => ?_
   obtain ⟨ep2, u2, c⟩ := c.elp (.f 0) hx2
   obtain ⟨a2, c2, rfl, c⟩ := c.o_Term 5
   refine Bd h fun x3 hx3 h => ?_
   obtain ⟨ep3, u3, c⟩ := c.elp (.f 0) hx3
   obtain ⟨a3, c3, rfl, c⟩ := c.o_Term 8
   refine S0 (Jn (fun i : Nat × Nat × Nat => ([(1, B b1 0), (2, B b2 0), (3, B i.1 0), (4, B i.2.1 0), (5, B i.2.2 0)], fun Γ => Γ ++ [BX i.1 29 [I x1.Op, I x1.W, I x1.N, Str.val x1.Name, L a1 x1.Kids c1], BX i.2.1 29 [I x2.Op, I x2.W, I x2.N, Str.val x2.Name, L a2 x2.Kids c2], BX i.2.2 29 [I x3.Op, I x3.W, I x3.N, Str.val x3.Name, L a3 x3.Kids c3]], [])) c ?_ fun i8 _ _ c => ?_)
   refine As mix c fun _ c => ?_
   replace c := Cx.frs [(1, B b1 0), (2, B b2 0)] c
   refine Dq (fun i : Nat × Nat × Nat => ([(1, B b1 0), (2, B b2 0), (3, B i.1 0), (4, B i.2.1 0), (5, B i.2.2 0)], fun Γ => Γ ++ [BX i.1 29 [I x1.Op, I x1.W, I x1.N, Str.val x1.Name, L a1 x1.Kids c1], BX i.2.1 29 [I x2.Op, I x2.W, I x2.N, Str.val x2.Name, L a2 x2.Kids c2], BX i.2.2 29 [I x3.Op, I x3.W, I x3.N, Str.val x3.Name, L a3 x3.Kids c3]], [])) #[true, true, true, true, true, true, true, true, true, true, true, true, true, true, true, true, true, true] (fun i => []) c (fun i7 => ?_) fun hd10 => ?_
   obtain ⟨b33, b34, b35⟩ := i7
   refine qnE trivial fun _ _ c => ?_
   exact nN (b33, b34, b35) (c.rk (rg 5) (rg 10))
   refine Dq (fun i : Nat × Nat × Nat => ([(1, B b1 0), (2, B b2 0), (3, B i.1 0), (4, B i.2.1 0), (5, B i.2.2 0)], fun Γ => Γ ++ [BX i.1 29 [I x1.Op, I x1.W, I x1.N, Str.val x1.Name, L a1 x1.Kids c1], BX i.2.1 29 [I x2.Op, I x2.W, I x2.N, Str.val x2.Name, L a2 x2.Kids c2], BX i.2.2 29 [I 0, I 0, I 0, Str.val ⟨[]⟩, L none ([] : List D.Term) 0]], [])) #[true, true, true, true, true, true, true, true, false, false, false, false, true, true, true, true, true, false] (fun i => [(8, 14, B b1 4), (9, 15, L ga0 p0.Kids gc1), (10, 16, .pointer (some ep3)), (11, 17, .agg #[I x3.Op, I x3.W, I x3.N, Str.val x3.Name, L a3 x3.Kids c3])]) c (fun i6 => ?_) fun hd9 => ?_
   obtain ⟨b30, b31, b32⟩ := i6
   refine qn [17] ⟨qP [], qP [(0, 0)], qI 7, qL 7, trivial⟩ ⟨fun _ _ c => ?_, trivial⟩
   refine op_of _ rfl rfl ?_
   refine Ess 4 [I x3.Op, I x3.W, I x3.N, Str.val x3.Name, L a3 x3.Kids c3] c fun _ c => ?_
   refine E0 (nQ hd10 (b30, b31, b32) (c.rk (rg 5) (rg 10)))
   refine Dq (fun i : Nat × Nat × Nat => ([(1, B b1 0), (2, B b2 0), (3, B i.1 0), (4, B i.2.1 0), (5, B i.2.2 0)], fun Γ => Γ ++ [BX i.1 29 [I x1.Op, I x1.W, I x1.N, Str.val x1.Name, L a1 x1.Kids c1], BX i.2.1 29 [I 0, I 0, I 0, Str.val ⟨[]⟩, L none ([] : List D.Term) 0], BX i.2.2 29 [I 0, I 0, I 0, Str.val ⟨[]⟩, L none ([] : List D.Term) 0]], [])) #[true, true, true, true, false, false, false, false, false, false, false, false, true, true, true, true, false, false] (fun i => [(4, 10, B b1 4), (5, 11, L ga0 p0.Kids gc1), (6, 12, .pointer (some ep2)), (7, 13, .agg #[I x2.Op, I x2.W, I x2.N, Str.val x2.Name, L a2 x2.Kids c2]), (8, 14, B b1 4), (9, 15, L ga0 p0.Kids gc1), (10, 16, .pointer (some ep3)), (11, 17, .agg #[I x3.Op, I x3.W, I x3.N, Str.val x3.Name, L a3 x3.Kids c3])]) c (fun i5 => ?_) fun hd8 => ?_
   obtain ⟨b27, b28, b29⟩ := i5
   refine qn [16] ⟨qP [], qP [(0, 0)], qI 4, qL 4, qP [], qP [(0, 0)], qI 7, qL 7, trivial⟩ ⟨fun _ _ c => ?_, trivial⟩
   refine op_of _ rfl rfl ?_
   refine Ess 3 [I x2.Op, I x2.W, I x2.N, Str.val x2.Name, L a2 x2.Kids c2] c fun _ c => ?_
   refine E0 (nQ hd9 (b27, b28, b29) (c.rk (rg 5) (rg 10)))
   refine Dq (fun i : Nat × Nat × Nat => ([(1, B b1 0), (2, B b2 0), (3, B i.1 0), (4, B i.2.1 0), (5, B i.2.2 0)], fun Γ => Γ ++ [BX i.1 29 [I 0, I 0, I 0, Str.val ⟨[]⟩, L none ([] : List D.Term) 0], BX i.2.1 29 [I 0, I 0, I 0, Str.val ⟨[]⟩, L none ([] : List D.Term) 0], BX i.2.2 29 [I 0, I 0, I 0, Str.val ⟨[]⟩, L none ([] : List D.Term) 0]], [])) #[false, false, false, false, false, false, false, false, false, false, false, false, true, true, true, false, false, false] (fun i => [(0, 6, B b1 4), (1, 7, L ga0 p0.Kids gc1), (2, 8, .pointer (some ep1)), (3, 9, .agg #[I x1.Op, I x1.W, I x1.N, Str.val x1.Name, L a1 x1.Kids c1]), (4, 10, B b1 4), (5, 11, L ga0 p0.Kids gc1), (6, 12, .pointer (some ep2)), (7, 13, .agg #[I x2.Op, I x2.W, I x2.N, Str.val x2.Name, L a2 x2.Kids c2]), (8, 14, B b1 4), (9, 15, L ga0 p0.Kids gc1), (10, 16, .pointer (some ep3)), (11, 17, .agg #[I x3.Op, I x3.W, I x3.N, Str.val x3.Name, L a3 x3.Kids c3])]) c (fun i4 => ?_) fun hd7 => ?_
   obtain ⟨b22, b23, b24⟩ := i4
   refine qn [15] ⟨qP [], qP [(0, 0)], qI 1, qL 1, qP [], qP [(0, 0)], qI 4, qL 4, qP [], qP [(0, 0)], qI 7, qL 7, trivial⟩ ⟨fun _ _ c => ?_, trivial⟩
   refine op_of _ rfl rfl ?_
   refine Ess 2 [I x1.Op, I x1.W, I x1.N, Str.val x1.Name, L a1 x1.Kids c1] c fun _ c => ?_
   refine E0 (nQ hd8 (b22, b23, b24) (c.rk (rg 5) (rg 10)))
   refine Dq (fun i : Nat × Nat => ([(1, B b1 0), (2, B b2 0), (3, B i.1 0), (4, B i.2 0)], fun Γ => Γ ++ [BX i.1 29 [I 0, I 0, I 0, Str.val ⟨[]⟩, L none ([] : List D.Term) 0], BX i.2 29 [I 0, I 0, I 0, Str.val ⟨[]⟩, L none ([] : List D.Term) 0]], [])) #[false, false, false, false, false, false, false, false, false, false, false, false, true, true, false, false, false, false] (fun i => [(0, 6, B b1 4), (1, 7, L ga0 p0.Kids gc1), (2, 8, .pointer (some ep1)), (3, 9, .agg #[I x1.Op, I x1.W, I x1.N, Str.val x1.Name, L a1 x1.Kids c1]), (4, 10, B b1 4), (5, 11, L ga0 p0.Kids gc1), (6, 12, .pointer (some ep2)), (7, 13, .agg #[I x2.Op, I x2.W, I x2.N, Str.val x2.Name, L a2 x2.Kids c2]), (8, 14, B b1 4), (9, 15, L ga0 p0.Kids gc1), (10, 16, .pointer (some ep3)), (11, 17, .agg #[I x3.Op, I x3.W, I x3.N, Str.val x3.Name, L a3 x3.Kids c3])]) c (fun i1 => ?_) fun hd4 => ?_
   obtain ⟨b10, b11⟩ := i1
   refine qn [14] ⟨qP [], qP [(0, 0)], qI 1, qL 1, qP [], qP [(0, 0)], qI 4, qL 4, qP [], qP [(0, 0)], qI 7, qL 7, trivial⟩ ⟨fun _ _ c => ?_, trivial⟩
   refine op_of _ rfl rfl ?_
   refine Eal [I 0, I 0, I 0, Str.val ⟨[]⟩, L none ([] : List D.Term) 0] c fun b21 _ _ c => ?_
   refine E0 (nQ hd7 (b10, b11, b21) (c.rk (rg 5) (rg 10)))
   refine Dq (fun i : Nat × Nat => ([(1, B b1 0), (2, B b2 0), (3, B i.1 0), (5, B i.2 0)], fun Γ => Γ ++ [BX i.1 29 [I 0, I 0, I 0, Str.val ⟨[]⟩, L none ([] : List D.Term) 0], BX i.2 29 [I 0, I 0, I 0, Str.val ⟨[]⟩, L none ([] : List D.Term) 0]], [])) #[false, false, false, false, false, false, false, false, false, false, false, false, true, false, true, false, false, false] (fun i => [(0, 6, B b1 4), (1, 7, L ga0 p0.Kids gc1), (2, 8, .pointer (some ep1)), (3, 9, .agg #[I x1.Op, I x1.W, I x1.N, Str.val x1.Name, L a1 x1.Kids c1]), (4, 10, B b1 4), (5, 11, L ga0 p0.Kids gc1), (6, 12, .pointer (some ep2)), (7, 13, .agg #[I x2.Op, I x2.W, I x2.N, Str.val x2.Name, L a2 x2.Kids c2]), (8, 14, B b1 4), (9, 15, L ga0 p0.Kids gc1), (10, 16, .pointer (some ep3)), (11, 17, .agg #[I x3.Op, I x3.W, I x3.N, Str.val x3.Name, L a3 x3.Kids c3])]) c (fun i2 => ?_) fun hd5 => ?_
   obtain ⟨b13, b14⟩ := i2
   refine qn [13] ⟨qP [], qP [(0, 0)], qI 1, qL 1, qP [], qP [(0, 0)], qI 4, qL 4, qP [], qP [(0, 0)], qI 7, qL 7, trivial⟩ ⟨fun _ _ c => ?_, trivial⟩
   refine op_of _ rfl rfl ?_
   refine Eal [I 0, I 0, I 0, Str.val ⟨[]⟩, L none ([] : List D.Term) 0] c fun b25 _ _ c => ?_
   refine E0 (nQ hd7 (b13, b25, b14) (c.rk [0, 1, 2, 4, 3] (rg 10)))
   refine Dq (fun i : Nat × Nat => ([(1, B b1 0), (2, B b2 0), (4, B i.1 0), (5, B i.2 0)], fun Γ => Γ ++ [BX i.1 29 [I 0, I 0, I 0, Str.val ⟨[]⟩, L none ([] : List D.Term) 0], BX i.2 29 [I 0, I 0, I 0, Str.val ⟨[]⟩, L none ([] : List D.Term) 0]], [])) #[false, false, false, false, false, false, false, false, false, false, false, false, false, true, true, false, false, false] (fun i => [(0, 6, B b1 4), (1, 7, L ga0 p0.Kids gc1), (2, 8, .pointer (some ep1)), (3, 9, .agg #[I x1.Op, I x1.W, I x1.N, Str.val x1.Name, L a1 x1.Kids c1]), (4, 10, B b1 4), (5, 11, L ga0 p0.Kids gc1), (6, 12, .pointer (some ep2)), (7, 13, .agg #[I x2.Op, I x2.W, I x2.N, Str.val x2.Name, L a2 x2.Kids c2]), (8, 14, B b1 4), (9, 15, L ga0 p0.Kids gc1), (10, 16, .pointer (some ep3)), (11, 17, .agg #[I x3.Op, I x3.W, I x3.N, Str.val x3.Name, L a3 x3.Kids c3])]) c (fun i3 => ?_) fun hd6 => ?_
   obtain ⟨b17, b18⟩ := i3
   refine qn [12] ⟨qP [], qP [(0, 0)], qI 1, qL 1, qP [], qP [(0, 0)], qI 4, qL 4, qP [], qP [(0, 0)], qI 7, qL 7, trivial⟩ ⟨fun _ _ c => ?_, trivial⟩
   refine op_of _ rfl rfl ?_
   refine Eal [I 0, I 0, I 0, Str.val ⟨[]⟩, L none ([] : List D.Term) 0] c fun b26 _ _ c => ?_
   refine E0 (nQ hd7 (b26, b17, b18) (c.rk [0, 1, 4, 2, 3] (rg 10)))
   refine Dq (fun i : Nat => ([(1, B b1 0), (2, B b2 0), (3, B i 0)], fun Γ => Γ ++ [BX i 29 [I 0, I 0, I 0, Str.val ⟨[]⟩, L none ([] : List D.Term) 0]], [])) #[false, false, false, false, false, false, false, false, false, false, false, false, true, false, false, false, false, false] (fun i => [(0, 6, B b1 4), (1, 7, L ga0 p0.Kids gc1), (2, 8, .pointer (some ep1)), (3, 9, .agg #[I x1.Op, I x1.W, I x1.N, Str.val x1.Name, L a1 x1.Kids c1]), (4, 10, B b1 4), (5, 11, L ga0 p0.Kids gc1), (6, 12, .pointer (some ep2)), (7, 13, .agg #[I x2.Op, I x2.W, I x2.N, Str.val x2.Name, L a2 x2.Kids c2]), (8, 14, B b1 4), (9, 15, L ga0 p0.Kids gc1), (10, 16, .pointer (some ep3)), (11, 17, .agg #[I x3.Op, I x3.W, I x3.N, Str.val x3.Name, L a3 x3.Kids c3])]) c (fun b4 => ?_) fun hd1 => ?_
   refine qn [13, 14] ⟨qP [], qP [(0, 0)], qI 1, qL 1, qP [], qP [(0, 0)], qI 4, qL 4, qP [], qP [(0, 0)], qI 7, qL 7, trivial⟩ ⟨fun _ _ c => ?_, fun _ _ c => ?_, trivial⟩
   refine op_of _ rfl rfl ?_
   refine Eal [I 0, I 0, I 0, Str.val ⟨[]⟩, L none ([] : List D.Term) 0] c fun b9 _ _ c => ?_
   refine E0 (nQ hd4 (b4, b9) (c.rk (rg 4) (rg 10)))
   refine op_of _ rfl rfl ?_
   refine Eal [I 0, I 0, I 0, Str.val ⟨[]⟩, L none ([] : List D.Term) 0] c fun b12 _ _ c => ?_
   refine E0 (nQ hd5 (b4, b12) (c.rk (rg 4) (rg 10)))
   refine Dq (fun i : Nat => ([(1, B b1 0), (2, B b2 0), (4, B i 0)], fun Γ => Γ ++ [BX i 29 [I 0, I 0, I 0, Str.val ⟨[]⟩, L none ([] : List D.Term) 0]], [])) #[false, false, false, false, false, false, false, false, false, false, false, false, false, true, false, false, false, false] (fun i => [(0, 6, B b1 4), (1, 7, L ga0 p0.Kids gc1), (2, 8, .pointer (some ep1)), (3, 9, .agg #[I x1.Op, I x1.W, I x1.N, Str.val x1.Name, L a1 x1.Kids c1]), (4, 10, B b1 4), (5, 11, L ga0 p0.Kids gc1), (6, 12, .pointer (some ep2)), (7, 13, .agg #[I x2.Op, I x2.W, I x2.N, Str.val x2.Name, L a2 x2.Kids c2]), (8, 14, B b1 4), (9, 15, L ga0 p0.Kids gc1), (10, 16, .pointer (some ep3)), (11, 17, .agg #[I x3.Op, I x3.W, I x3.N, Str.val x3.Name, L a3 x3.Kids c3])]) c (fun b6 => ?_) fun hd2 => ?_
   refine qn [12, 14] ⟨qP [], qP [(0, 0)], qI 1, qL 1, qP [], qP [(0, 0)], qI 4, qL 4, qP [], qP [(0, 0)], qI 7, qL 7, trivial⟩ ⟨fun _ _ c => ?_, fun _ _ c => ?_, trivial⟩
   refine op_of _ rfl rfl ?_
   refine Eal [I 0, I 0, I 0, Str.val ⟨[]⟩, L none ([] : List D.Term) 0] c fun b15 _ _ c => ?_
   refine E0 (nQ hd4 (b15, b6) (c.rk [0, 1, 3, 2] (rg 10)))
   refine op_of _ rfl rfl ?_
   refine Eal [I 0, I 0, I 0, Str.val ⟨[]⟩, L none ([] : List D.Term) 0] c fun b16 _ _ c => ?_
   refine E0 (nQ hd6 (b6, b16) (c.rk (rg 4) (rg 10)))
   refine Dq (fun i : Nat => ([(1, B b1 0), (2, B b2 0), (5, B i 0)], fun Γ => Γ ++ [BX i 29 [I 0, I 0, I 0, Str.val ⟨[]⟩, L none ([] : List D.Term) 0]], [])) #[false, false, false, false, false, false, false, false, false, false, false, false, false, false, true, false, false, false] (fun i => [(0, 6, B b1 4), (1, 7, L ga0 p0.Kids gc1), (2, 8, .pointer (some ep1)), (3, 9, .agg #[I x1.Op, I x1.W, I x1.N, Str.val x1.Name, L a1 x1.Kids c1]), (4, 10, B b1 4), (5, 11, L ga0 p0.Kids gc1), (6, 12, .pointer (some ep2)), (7, 13, .agg #[I x2.Op, I x2.W, I x2.N, Str.val x2.Name, L a2 x2.Kids c2]), (8, 14, B b1 4), (9, 15, L ga0 p0.Kids gc1), (10, 16, .pointer (some ep3)), (11, 17, .agg #[I x3.Op, I x3.W, I x3.N, Str.val x3.Name, L a3 x3.Kids c3])]) c (fun b8 => ?_) fun hd3 => ?_
   refine qn [12, 13] ⟨qP [], qP [(0, 0)], qI 1, qL 1, qP [], qP [(0, 0)], qI 4, qL 4, qP [], qP [(0, 0)], qI 7, qL 7, trivial⟩ ⟨fun _ _ c => ?_, fun _ _ c => ?_, trivial⟩
   refine op_of _ rfl rfl ?_
   refine Eal [I 0, I 0, I 0, Str.val ⟨[]⟩, L none ([] : List D.Term) 0] c fun b19 _ _ c => ?_
   refine E0 (nQ hd5 (b19, b8) (c.rk [0, 1, 3, 2] (rg 10)))
   refine op_of _ rfl rfl ?_
   refine Eal [I 0, I 0, I 0, Str.val ⟨[]⟩, L none ([] : List D.Term) 0] c fun b20 _ _ c => ?_
   refine E0 (nQ hd6 (b20, b8) (c.rk [0, 1, 3, 2] (rg 10)))
   refine q0 (qs := [(0, 6, B b1 4), (1, 7, L ga0 p0.Kids gc1), (2, 8, .pointer (some ep1)), (3, 9, .agg #[I x1.Op, I x1.W, I x1.N, Str.val x1.Name, L a1 x1.Kids c1]), (4, 10, B b1 4), (5, 11, L ga0 p0.Kids gc1), (6, 12, .pointer (some ep2)), (7, 13, .agg #[I x2.Op, I x2.W, I x2.N, Str.val x2.Name, L a2 x2.Kids c2]), (8, 14, B b1 4), (9, 15, L ga0 p0.Kids gc1), (10, 16, .pointer (some ep3)), (11, 17, .agg #[I x3.Op, I x3.W, I x3.N, Str.val x3.Name, L a3 x3.Kids c3])]) c (qn [12, 13, 14] ⟨qP [], qP [(0, 0)], qI 1, qL 1, qP [], qP [(0, 0)], qI 4, qL 4, qP [], qP [(0, 0)], qI 7, qL 7, trivial⟩ ⟨fun _ _ c => ?_, fun _ _ c => ?_, fun _ _ c => ?_, trivial⟩)
   refine op_of _ rfl rfl ?_
   refine Eal [I 0, I 0, I 0, Str.val ⟨[]⟩, L none ([] : List D.Term) 0] c fun b3 _ _ c => ?_
   refine E0 (nQ hd1 (b3) (c.rk [0, 1, 2] (rg 10)))
   refine op_of _ rfl rfl ?_
   refine Eal [I 0, I 0, I 0, Str.val ⟨[]⟩, L none ([] : List D.Term) 0] c fun b5 _ _ c => ?_
   refine E0 (nQ hd2 (b5) (c.rk [0, 1, 2] (rg 10)))
   refine op_of _ rfl rfl ?_
   refine Eal [I 0, I 0, I 0, Str.val ⟨[]⟩, L none ([] : List D.Term) 0] c fun b7 _ _ c => ?_
   refine E0 (nQ hd3 (b7) (c.rk [0, 1, 2] (rg 10)))
   obtain ⟨b36, b37, b38⟩ := i8
   refine S0 (wp_block (T0 (Fp [(0, 2)] 1 c fun _ c => Bd h fun x4 hx4 h => Ca [] c (impl_constIs_ok hx4) ⟨.f 3, trivial⟩ Try.call85 fun _ _ _ c => ?_)))
   refine Fp [] 1 c fun _ c => E0 (I0 c h (fun h => ?_) fun h => ?_)
   refine T0 (Fp [(0, 3)] 1 c fun _ c => Ess 1 [I x2.Op, I x2.W, I x2.N, Str.val x2.Name, L a2 x2.Kids c2] c fun _ c => ?_)
   refine E0 ?_
   obtain rfl := sj h
   exact wp_ret (br (tr (Rg c (a2, c2) [] [6] (.cell (α := Agg 4) ⟨by kernel_rfl, by kernel_rfl⟩ (.b 1) .nil))))
   refine T0 (Fp [(0, 2)] 1 c fun _ c => Bd h fun x5 hx5 h => Ca [] c (impl_isConst_ok hx5) ⟨.f 3, trivial⟩ Try.call66 fun _ _ _ c => ?_)
   refine Fp [] 1 c fun _ c => E0 (I0 c h (fun h => ?_) fun h => ?_)
   refine T0 (Fp [(0, 4)] 1 c fun _ c => Ess 1 [I x3.Op, I x3.W, I x3.N, Str.val x3.Name, L a3 x3.Kids c3] c fun _ c => ?_)
   refine E0 ?_
   obtain rfl := sj h
   exact wp_ret (br (tr (Rg c (a3, c3) [] [9] (.cell (α := Agg 4) ⟨by kernel_rfl, by kernel_rfl⟩ (.b 1) .nil))))
   refine T0 (Fp [(0, 3), (1, 4)] 2 c fun _ c => Bd h fun x6 hx6 h => Ca [] c (impl_sameTerm_ok hx6) ⟨.f 6, .f 9, trivial⟩ Try.call86 fun _ _ _ c => ?_)
   refine Fp [] 1 c fun _ c => E0 (I0 c h (fun h => ?_) fun h => ?_)
   refine T0 (Fp [(0, 3)] 1 c fun _ c => Ess 1 [I x2.Op, I x2.W, I x2.N, Str.val x2.Name, L a2 x2.Kids c2] c fun _ c => ?_)
   refine E0 ?_
   obtain rfl := sj h
   exact wp_ret (br (tr (Rg c (a2, c2) [] [6] (.cell (α := Agg 4) ⟨by kernel_rfl, by kernel_rfl⟩ (.b 1) .nil))))
   refine P0 [(1, 2)] c fun _ c => I0 c h (fun h => ?_) fun h => ?_
   refine Bd h fun x7 hx7 h => ?_
   obtain ⟨ep4, u4, c⟩ := c.elp (.f 3) hx7
   obtain ⟨a4, c4, rfl, c⟩ := c.o_Term 11
   refine S0 (wp_ra mix (rM 9 [(4, .eq (.pointer (some ep4))), (5, .eq (.agg #[I x7.Op, I x7.W, I x7.N, Str.val x7.Name, L a4 x7.Kids c4])), (8, Pd.nw c.wd 8 (fun i : Option Addr × Nat => L i.1 ([x7, x3, x2] : List D.Term) i.2) (fun i => sl29 (L i.1 ([x7, x3, x2] : List D.Term) i.2) ([(Rw.Term.mk x7.Op x7.W x7.N x7.Name ⟨a4, List.length x7.Kids, c4⟩), (Rw.Term.mk x3.Op x3.W x3.N x3.Name ⟨a3, List.length x3.Kids, c3⟩), (Rw.Term.mk x2.Op x2.W x2.N x2.Name ⟨a2, List.length x2.Kids, c2⟩)] : List Rw.Term)))] [(1, 0), (3, 2), (6, 4), (7, 3)] c (fun ow => ⟨np_tO ow (Nie c 10), np_tO ow (Nle c 10), Nlt c ([(Rw.Term.mk x7.Op x7.W x7.N x7.Name ⟨a4, List.length x7.Kids, c4⟩), (Rw.Term.mk x3.Op x3.W x3.N x3.Name ⟨a3, List.length x3.Kids, c3⟩), (Rw.Term.mk x2.Op x2.W x2.N x2.Name ⟨a2, List.length x2.Kids, c2⟩)] : List Rw.Term), trivial⟩) fun ow _ _ hE hc cq => ?_))
   obtain ⟨i9, hi9⟩ := hE.nw 8 43
   replace c := Cx.newt c hc cq [(8, 43, _, _)] ⟨hi9, trivial⟩
   replace c := c.csl ([(Rw.Term.mk x7.Op x7.W x7.N x7.Name ⟨a4, List.length x7.Kids, c4⟩), (Rw.Term.mk x3.Op x3.W x3.N x3.Name ⟨a3, List.length x3.Kids, c3⟩), (Rw.Term.mk x2.Op x2.W x2.N x2.Name ⟨a2, List.length x2.Kids, c2⟩)] : List Rw.Term) ([x7, x3, x2] : List D.Term) ⟨(Ava.mk_Term x7 (.f 12)), (Ava.mk_Term x3 (.f 9)), (Ava.mk_Term x2 (.f 6)), trivial⟩
   replace c := c.gm [BX b1 29 [I p0.Op, I p0.W, I p0.N, Str.val p0.Name, L ga0 p0.Kids gc1], BX b2 29 [I 0, I 0, I 0, Str.val ⟨[]⟩, L none ([] : List D.Term) 0], BX b36 29 [I x1.Op, I x1.W, I x1.N, Str.val x1.Name, L a1 x1.Kids c1], BX b37 29 [I x2.Op, I x2.W, I x2.N, Str.val x2.Name, L a2 x2.Kids c2], BX b38 29 [I x3.Op, I x3.W, I x3.N, Str.val x3.Name, L a3 x3.Kids c3], sl29 (L i9.1 ([x7, x3, x2] : List D.Term) i9.2) ([(Rw.Term.mk x7.Op x7.W x7.N x7.Name ⟨a4, List.length x7.Kids, c4⟩), (Rw.Term.mk x3.Op x3.W x3.N x3.Name ⟨a3, List.length x3.Kids, c3⟩), (Rw.Term.mk x2.Op x2.W x2.N x2.Name ⟨a2, List.length x2.Kids, c2⟩)] : List Rw.Term)]
   replace c := c.fzr 5 13
   refine Bd h fun x8 hx8 h => Cf [] c (ih0 hx8) ⟨.f 14, trivial⟩ Try.call87 fun i10 _ _ c => ?_
   refine Ess 1 [I x8.Op, I x8.W, I x8.N, Str.val x8.Name, L i10.1 x8.Kids i10.2] c fun _ c => ?_
   refine E0 ?_
   obtain rfl := sj h
   exact wp_ret (br (tr (Rg c (i10.1, i10.2) [] [15] (.cell (α := Agg 4) ⟨by kernel_rfl, by kernel_rfl⟩ (.b 1) .nil))))
   refine Bd h fun x9 hx9 h => Bd h fun x10 hx10 h => S0 (rZ [(5, .eq (.bool x9)), (9, .eq (.bool x10))] [(1, 0), (4, 3), (8, 4)] mix c ⟨Ncl c (fun hg => impl_constIs_ok (iteT (gcT hg) hx9)) ⟨.f 6, trivial⟩ Try.call85, Ncl c (fun hg => impl_constIs_ok (iteT (gcT hg) hx10)) ⟨.f 9, trivial⟩ Try.call85, trivial⟩ fun _ _ c => I0 c h (fun h => ?_) fun h => ?_)
   refine T0 (Fp [(0, 2)] 1 c fun _ c => Ess 1 [I x1.Op, I x1.W, I x1.N, Str.val x1.Name, L a1 x1.Kids c1] c fun _ c => ?_)
   refine E0 ?_
   obtain rfl := sj h
   exact wp_ret (br (tr (Rg c (a1, c1) [] [3] (.cell (α := Agg 4) ⟨by kernel_rfl, by kernel_rfl⟩ (.b 1) .nil))))
   refine Bd h fun x11 hx11 h => Bd h fun x12 hx12 h => S0 (rZ [(5, .eq (.bool x11)), (9, .eq (.bool x12))] [(1, 0), (4, 3), (8, 4)] mix c ⟨Ncl c (fun hg => impl_constIs_ok (iteT (gcT hg) hx11)) ⟨.f 6, trivial⟩ Try.call85, Ncl c (fun hg => impl_constIs_ok (iteT (gcT hg) hx12)) ⟨.f 9, trivial⟩ Try.call85, trivial⟩ fun _ _ c => I0 c h (fun h => ?_) fun h => ?_)
   refine T0 (Fp [(0, 2)] 1 c fun _ c => Eltr 29 ([(Rw.Term.mk x1.Op x1.W x1.N x1.Name ⟨a1, List.length x1.Kids, c1⟩)] : List Rw.Term) ([x1] : List D.Term) c ⟨(Ava.mk_Term x1 (.f 3)), trivial⟩ fun a5 c5 _ _ c => ?_)
   replace c := c.gm [BX b1 29 [I p0.Op, I p0.W, I p0.N, Str.val p0.Name, L ga0 p0.Kids gc1], BX b2 29 [I 0, I 0, I 0, Str.val ⟨[]⟩, L none ([] : List D.Term) 0], BX b36 29 [I x1.Op, I x1.W, I x1.N, Str.val x1.Name, L a1 x1.Kids c1], BX b37 29 [I x2.Op, I x2.W, I x2.N, Str.val x2.Name, L a2 x2.Kids c2], BX b38 29 [I x3.Op, I x3.W, I x3.N, Str.val x3.Name, L a3 x3.Kids c3], sl29 (L a5 ([x1] : List D.Term) c5) ([(Rw.Term.mk x1.Op x1.W x1.N x1.Name ⟨a1, List.length x1.Kids, c1⟩)] : List Rw.Term)]
   replace c := c.fzr 5 10
   refine Bd h fun x13 hx13 h => Cf [] c (ih0 hx13) ⟨.f 11, trivial⟩ Try.call87 fun i11 _ _ c => ?_
   refine Ess 1 [I x13.Op, I x13.W, I x13.N, Str.val x13.Name, L i11.1 x13.Kids i11.2] c fun _ c => ?_
   refine E0 ?_
   obtain rfl := sj h
   exact wp_ret (br (tr (Rg c (i11.1, i11.2) [] [12] (.cell (α := Agg 4) ⟨by kernel_rfl, by kernel_rfl⟩ (.b 1) .nil))))
   refine K1 (bk (tn (T0 (Fp [(0, 0)] 1 c fun _ c => Ess 1 [I p0.Op, I p0.W, I p0.N, Str.val p0.Name, L ga0 p0.Kids gc1] c fun _ c => ?_))))
   refine E0 ?_
   obtain rfl := sj h
   exact wp_ret (Rg c (ga0, gc1) [] [0] (.cell (α := Agg 4) ⟨by kernel_rfl, by kernel_rfl⟩ (.b 1) .nil))
 · intro p0 ga0 gc1 r h
   rw [impl_reduceCut] at h
   refine En Try.func70 rfl Try.ntmps70 fun _ fr w c => ?_
   refine T0 (Ebx [I p0.Op, I p0.W, I p0.N, Str.val p0.Name, L ga0 p0.Kids gc1] c fun b1 _ _ c => ?_)
   refine Eal [I 0, I 0, I 0, Str.val ⟨[]⟩, L none ([] : List D.Term) 0] c fun b2 _ _ c => ?_
   refine E0 (T0 (Fp [(1, 0)] 2 c fun _ c => Bd h fun x1 hx1 h => Eem c (.f 0) hx1 fun _ u1 _ c => ?_))
   obtain ⟨a1, c1, rfl, c⟩ := c.o_Term 1
   refine Eal [I 0, I 0, I 0, Str.val ⟨[]⟩, L none ([] : List D.Term) 0] c fun b3 _ _ c => ?_
   refine Ess 2 [I x1.Op, I x1.W, I x1.N, Str.val x1.Name, L a1 x1.Kids c1] c fun _ c => ?_
   refine E0 (S0 (S0 (Ry [(1, 0), (5, 0), (7, 2)] mix c fun _ _ c => I0 c h (fun h => ?_) fun h => ?_)))
   refine T0 (Fp [(0, 2)] 1 c fun _ c => ?_)
   replace c := c.gm [BX b1 29 [I p0.Op, I p0.W, I p0.N, Str.val p0.Name, L ga0 p0.Kids gc1], BX b2 29 [I 0, I 0, I 0, Str.val ⟨[]⟩, L none ([] : List D.Term) 0], BX b3 29 [I x1.Op, I x1.W, I x1.N, Str.val x1.Name, L a1 x1.Kids c1]]
   refine Ess 1 [I x1.Op, I x1.W, I x1.N, Str.val x1.Name, L a1 x1.Kids c1] c fun _ c => ?_
   refine E0 ?_
   obtain rfl := sj h
   exact wp_ret (tr (Rg c (a1, c1) [] [2] (.cell (α := Agg 4) ⟨by kernel_rfl, by kernel_rfl⟩ (.b 1) .nil)))
   refine K0 (S0 (P0 [(1, 2)] c fun _ c => wp_block (P0 [] c fun _ c => I0 c h (fun h => ?_) fun h => ?_)))
   refine Bd h fun x2 hx2 h => ?_
   obtain ⟨ep1, u2, c⟩ := c.elp (.f 2) hx2
   obtain ⟨a2, c2, rfl, c⟩ := c.o_Term 4
   refine S0 (wp_ra mix (rM 12 [(9, .eq (.pointer (some ep1))), (10, .eq (.agg #[I x2.Op, I x2.W, I x2.N, Str.val x2.Name, L a2 x2.Kids c2])), (11, Pd.nw c.wd 11 (fun i : Option Addr × Nat => L i.1 ([x2] : List D.Term) i.2) (fun i => sl29 (L i.1 ([x2] : List D.Term) i.2) ([(Rw.Term.mk x2.Op x2.W x2.N x2.Name ⟨a2, List.length x2.Kids, c2⟩)] : List Rw.Term)))] [(1, 0), (3, 0), (5, 2), (8, 2)] c (fun ow => ⟨np_tO ow (Nie c 3), np_tO ow (Nle c 3), Nlt c ([(Rw.Term.mk x2.Op x2.W x2.N x2.Name ⟨a2, List.length x2.Kids, c2⟩)] : List Rw.Term), trivial⟩) fun ow _ _ hE hc cq => ?_))
   obtain ⟨i1, hi1⟩ := hE.nw 11 35
   replace c := Cx.newt c hc cq [(11, 35, _, _)] ⟨hi1, trivial⟩
   replace c := c.csl ([(Rw.Term.mk x2.Op x2.W x2.N x2.Name ⟨a2, List.length x2.Kids, c2⟩)] : List Rw.Term) ([x2] : List D.Term) ⟨(Ava.mk_Term x2 (.f 5)), trivial⟩
   replace c := c.gm [BX b1 29 [I p0.Op, I p0.W, I p0.N, Str.val p0.Name, L ga0 p0.Kids gc1], BX b2 29 [I 0, I 0, I 0, Str.val ⟨[]⟩, L none ([] : List D.Term) 0], BX b3 29 [I x1.Op, I x1.W, I x1.N, Str.val x1.Name, L a1 x1.Kids c1], sl29 (L i1.1 ([x2] : List D.Term) i1.2) ([(Rw.Term.mk x2.Op x2.W x2.N x2.Name ⟨a2, List.length x2.Kids, c2⟩)] : List Rw.Term)]
   replace c := c.fzr 3 6
   refine Bd h fun x3 hx3 h => Cf [] c (ih0 hx3) ⟨.f 7, trivial⟩ Try.call87 fun i2 _ _ c => ?_
   refine Ess 1 [I x3.Op, I x3.W, I x3.N, Str.val x3.Name, L i2.1 x3.Kids i2.2] c fun _ c => ?_
   refine E0 ?_
   obtain rfl := sj h
   exact wp_ret (br (tr (Rg c (i2.1, i2.2) [] [8] (.cell (α := Agg 4) ⟨by kernel_rfl, by kernel_rfl⟩ (.b 1) .nil))))
   refine P0 [] c fun _ c => I0 c h (fun h => ?_) fun h => ?_
   refine T0 (Fp [(1, 2)] 2 c fun _ c => ?_)
   replace c := c.gm [BX b1 29 [I p0.Op, I p0.W, I p0.N, Str.val p0.Name, L ga0 p0.Kids gc1], BX b2 29 [I 0, I 0, I 0, Str.val ⟨[]⟩, L none ([] : List D.Term) 0], BX b3 29 [I x1.Op, I x1.W, I x1.N, Str.val x1.Name, L a1 x1.Kids c1]]
   refine Bd h fun x4 hx4 h => Eem c (.f 2) hx4 fun _ u3 _ c => ?_
   obtain ⟨a3, c3, rfl, c⟩ := c.o_Term 3
   refine Eal [I 0, I 0, I 0, Str.val ⟨[]⟩, L none ([] : List D.Term) 0] c fun b4 _ _ c => ?_
   refine Ess 3 [I x4.Op, I x4.W, I x4.N, Str.val x4.Name, L a3 x4.Kids c3] c fun _ c => ?_
   refine E0 (S0 (P0 [(1, 0), (3, 0), (6, 3)] c fun _ c => I0 c h (fun h => ?_) fun h => ?_))
   refine T0 (Fp [(1, 0), (3, 0), (4, 3)] 5 c fun _ c => Eltr 29 ([(Rw.Term.mk x4.Op x4.W x4.N x4.Name ⟨a3, List.length x4.Kids, c3⟩)] : List Rw.Term) ([x4] : List D.Term) c ⟨(Ava.mk_Term x4 (.f 4)), trivial⟩ fun a4 c4 _ _ c => ?_)
   replace c := c.fzr 4 5
   refine Bd h fun x5 hx5 h => Cf [] c (ih0 hx5) ⟨.f 6, trivial⟩ Try.call87 fun i3 _ _ c => ?_
   replace c := c.gm [BX b1 29 [I p0.Op, I p0.W, I p0.N, Str.val p0.Name, L ga0 p0.Kids gc1], BX b2 29 [I 0, I 0, I 0, Str.val ⟨[]⟩, L none ([] : List D.Term) 0], BX b3 29 [I x1.Op, I x1.W, I x1.N, Str.val x1.Name, L a1 x1.Kids c1], BX b4 29 [I x4.Op, I x4.W, I x4.N, Str.val x4.Name, L a3 x4.Kids c3]]
   refine Ess 1 [I x5.Op, I x5.W, I x5.N, Str.val x5.Name, L i3.1 x5.Kids i3.2] c fun _ c => ?_
   refine E0 ?_
   obtain rfl := sj h
   exact wp_ret (tr (br (tr (Rg c (i3.1, i3.2) [] [7] (.cell (α := Agg 4) ⟨by kernel_rfl, by kernel_rfl⟩ (.b 1) .nil)))))
   refine K0 (P0 [(1, 0), (3, 3)] c fun _ c => I0 c h (fun h => ?_) fun h => ?_)
   refine Bd h fun x6 hx6 h => ?_
   obtain ⟨ep2, u4, c⟩ := c.elp (.f 2) hx6
   obtain ⟨a5, c5, rfl, c⟩ := c.o_Term 6
   refine S0 (wp_ra mix (rM 12 [(9, .eq (.pointer (some ep2))), (10, .eq (.agg #[I x6.Op, I x6.W, I x6.N, Str.val x6.Name, L a5 x6.Kids c5])), (11, Pd.nw c.wd 11 (fun i : Option Addr × Nat => L i.1 ([x6] : List D.Term) i.2) (fun i => sl29 (L i.1 ([x6] : List D.Term) i.2) ([(Rw.Term.mk x6.Op x6.W x6.N x6.Name ⟨a5, List.length x6.Kids, c5⟩)] : List Rw.Term)))] [(1, 0), (3, 0), (5, 3), (8, 2)] c (fun ow => ⟨np_tO ow (Nie c 5), np_tO ow (Nle c 5), Nlt c ([(Rw.Term.mk x6.Op x6.W x6.N x6.Name ⟨a5, List.length x6.Kids, c5⟩)] : List Rw.Term), trivial⟩) fun ow _ _ hE hc cq => ?_))
   obtain ⟨i4, hi4⟩ := hE.nw 11 74
   replace c := Cx.newt c hc cq [(11, 74, _, _)] ⟨hi4, trivial⟩
   replace c := c.csl ([(Rw.Term.mk x6.Op x6.W x6.N x6.Name ⟨a5, List.length x6.Kids, c5⟩)] : List Rw.Term) ([x6] : List D.Term) ⟨(Ava.mk_Term x6 (.f 7)), trivial⟩
   replace c := c.fzr 4 8
   refine Bd h fun x7 hx7 h => Cf [] c (ih0 hx7) ⟨.f 9, trivial⟩ Try.call87 fun i5 _ _ c => ?_
   refine Ess 1 [I x7.Op, I x7.W, I x7.N, Str.val x7.Name, L i5.1 x7.Kids i5.2] c fun _ c => ?_
   refine E0 ?_
   obtain rfl := sj h
   exact wp_ret (br (tr (Rg c (i5.1, i5.2) [] [10] (.cell (α := Agg 4) ⟨by kernel_rfl, by kernel_rfl⟩ (.b 1) .nil))))
   refine K1 (bk (tn (T0 (Fp [(0, 0)] 1 c fun _ c => Ess 1 [I p0.Op, I p0.W, I p0.N, Str.val p0.Name, L ga0 p0.Kids gc1] c fun _ c => ?_))))
   refine E0 ?_
   obtain rfl := sj h
   exact wp_ret (Rg c (ga0, gc1) [] [0] (.cell (α := Agg 4) ⟨by kernel_rfl, by kernel_rfl⟩ (.b 1) .nil))
   refine S0 (P0 [] c fun _ c => Mp (x1.Op == 20) [(76, .bool (x1.Op == 20))] [(76, .bool (x1.Op == 21))] [(76, .bool ((x1.Op == 20) || (x1.Op == 21)))] [76, 78] c fun _ c => I0 c h (fun h => ?_) fun h => ?_)
   refine Bd h fun x8 hx8 h => ?_
   obtain ⟨ep3, u5, c⟩ := c.elp (.f 2) hx8
   obtain ⟨a6, c6, rfl, c⟩ := c.o_Term 4
   refine S0 (rZ [(7, .eq (.pointer (some ep3))), (9, .eq (I x8.W))] [(1, 0), (3, 0), (6, 2)] mix c ⟨Nie c 3, Nlc c 3 1, trivial⟩ fun _ _ c => I0 c h (fun h => ?_) fun h => ?_)
   refine Bd h fun x9 hx9 h => ?_
   obtain ⟨ep4, u6, c⟩ := c.elp (.f 2) hx9
   obtain ⟨a7, c7, rfl, c⟩ := c.o_Term 7
   refine S0 (wp_ra mix (rM 9 [(6, .eq (.pointer (some ep4))), (7, .eq (.agg #[I x9.Op, I x9.W, I x9.N, Str.val x9.Name, L a7 x9.Kids c7])), (8, Pd.nw c.wd 8 (fun i : Option Addr × Nat => L i.1 ([x9] : List D.Term) i.2) (fun i => sl29 (L i.1 ([x9] : List D.Term) i.2) ([(Rw.Term.mk x9.Op x9.W x9.N x9.Name ⟨a7, List.length x9.Kids, c7⟩)] : List Rw.Term)))] [(1, 0), (3, 0), (5, 2)] c (fun ow => ⟨np_tO ow (Nie c 6), np_tO ow (Nle c 6), Nlt c ([(Rw.Term.mk x9.Op x9.W x9.N x9.Name ⟨a7, List.length x9.Kids, c7⟩)] : List Rw.Term), trivial⟩) fun ow _ _ hE hc cq => ?_))
   obtain ⟨i6, hi6⟩ := hE.nw 8 98
   replace c := Cx.newt c hc cq [(8, 98, _, _)] ⟨hi6, trivial⟩
   replace c := c.csl ([(Rw.Term.mk x9.Op x9.W x9.N x9.Name ⟨a7, List.length x9.Kids, c7⟩)] : List Rw.Term) ([x9] : List D.Term) ⟨(Ava.mk_Term x9 (.f 8)), trivial⟩
   replace c := c.gm [BX b1 29 [I p0.Op, I p0.W, I p0.N, Str.val p0.Name, L ga0 p0.Kids gc1], BX b2 29 [I 0, I 0, I 0, Str.val ⟨[]⟩, L none ([] : List D.Term) 0], BX b3 29 [I x1.Op, I x1.W, I x1.N, Str.val x1.Name, L a1 x1.Kids c1], sl29 (L i6.1 ([x9] : List D.Term) i6.2) ([(Rw.Term.mk x9.Op x9.W x9.N x9.Name ⟨a7, List.length x9.Kids, c7⟩)] : List Rw.Term)]
   replace c := c.fzr 3 9
   refine Bd h fun x10 hx10 h => Cf [] c (ih0 hx10) ⟨.f 10, trivial⟩ Try.call87 fun i7 _ _ c => ?_
   refine Ess 1 [I x10.Op, I x10.W, I x10.N, Str.val x10.Name, L i7.1 x10.Kids i7.2] c fun _ c => ?_
   refine E0 ?_
   obtain rfl := sj h
   exact wp_ret (br (tr (Rg c (i7.1, i7.2) [] [11] (.cell (α := Agg 4) ⟨by kernel_rfl, by kernel_rfl⟩ (.b 1) .nil))))
   refine K1 (bk (tn (T0 (Fp [(0, 0)] 1 c fun _ c => ?_))))
   replace c := c.gm [BX b1 29 [I p0.Op, I p0.W, I p0.N, Str.val p0.Name, L ga0 p0.Kids gc1], BX b2 29 [I 0, I 0, I 0, Str.val ⟨[]⟩, L none ([] : List D.Term) 0], BX b3 29 [I x1.Op, I x1.W, I x1.N, Str.val x1.Name, L a1 x1.Kids c1]]
   refine Ess 1 [I p0.Op, I p0.W, I p0.N, Str.val p0.Name, L ga0 p0.Kids gc1] c fun _ c => ?_
   refine E0 ?_
   obtain rfl := sj h
   exact wp_ret (Rg c (ga0, gc1) [] [0] (.cell (α := Agg 4) ⟨by kernel_rfl, by kernel_rfl⟩ (.b 1) .nil))
   refine K1 (bk (tn (T0 (Fp [(0, 0)] 1 c fun _ c => ?_))))
   replace c := c.gm [BX b1 29 [I p0.Op, I p0.W, I p0.N, Str.val p0.Name, L ga0 p0.Kids gc1], BX b2 29 [I 0, I 0, I 0, Str.val ⟨[]⟩, L none ([] : List D.Term) 0], BX b3 29 [I x1.Op, I x1.W, I x1.N, Str.val x1.Name, L a1 x1.Kids c1]]
   refine Ess 1 [I p0.Op, I p0.W, I p0.N, Str.val p0.Name, L ga0 p0.Kids gc1] c fun _ c => ?_
   refine E0 ?_
   obtain rfl := sj h
   exact wp_ret (Rg c (ga0, gc1) [] [0] (.cell (α := Agg 4) ⟨by kernel_rfl, by kernel_rfl⟩ (.b 1) .nil))
 · intro p0 ga0 gc1 r h
   rw [impl_reduceWiden] at h
   refine En Try.func71 rfl Try.ntmps71 fun _ fr w c => ?_
   refine T0 (Ebx [I p0.Op, I p0.W, I p0.N, Str.val p0.Name, L ga0 p0.Kids gc1] c fun b1 _ _ c => ?_)
   refine Eal [I 0, I 0, I 0, Str.val ⟨[]⟩, L none ([] : List D.Term) 0] c fun b2 _ _ c => ?_
   refine E0 (T0 (Fp [(1, 0)] 2 c fun _ c => Bd h fun x1 hx1 h => Eem c (.f 0) hx1 fun _ u1 _ c => ?_))
   obtain ⟨a1, c1, rfl, c⟩ := c.o_Term 1
   refine Eal [I 0, I 0, I 0, Str.val ⟨[]⟩, L none ([] : List D.Term) 0] c fun b3 _ _ c => ?_
   refine Ess 2 [I x1.Op, I x1.W, I x1.N, Str.val x1.Name, L a1 x1.Kids c1] c fun _ c => ?_
   refine E0 (S0 (P0 [(1, 0), (3, 2)] c fun _ c => I0 c h (fun h => ?_) fun h => ?_))
   refine T0 (Fp [(0, 2)] 1 c fun _ c => ?_)
   replace c := c.gm [BX b1 29 [I p0.Op, I p0.W, I p0.N, Str.val p0.Name, L ga0 p0.Kids gc1], BX b2 29 [I 0, I 0, I 0, Str.val ⟨[]⟩, L none ([] : List D.Term) 0], BX b3 29 [I x1.Op, I x1.W, I x1.N, Str.val x1.Name, L a1 x1.Kids c1]]
   refine Ess 1 [I x1.Op, I x1.W, I x1.N, Str.val x1.Name, L a1 x1.Kids c1] c fun _ c => ?_
   refine E0 ?_
   obtain rfl := sj h
   exact wp_ret (tr (Rg c (a1, c1) [] [2] (.cell (α := Agg 4) ⟨by kernel_rfl, by kernel_rfl⟩ (.b 1) .nil)))
   refine K0 (S0 (P0 [(1, 2), (3, 0)] c fun _ c => I0 c h (fun h => ?_) fun h => ?_))
   refine Bd h fun x2 hx2 h => ?_
   obtain ⟨ep1, u2, c⟩ := c.elp (.f 2) hx2
   obtain ⟨a2, c2, rfl, c⟩ := c.o_Term 4
   refine S0 (wp_ra mix (rM 9 [(6, .eq (.pointer (some ep1))), (7, .eq (.agg #[I x2.Op, I x2.W, I x2.N, Str.val x2.Name, L a2 x2.Kids c2])), (8, Pd.nw c.wd 8 (fun i : Option Addr × Nat => L i.1 ([x2] : List D.Term) i.2) (fun i => sl29 (L i.1 ([x2] : List D.Term) i.2) ([(Rw.Term.mk x2.Op x2.W x2.N x2.Name ⟨a2, List.length x2.Kids, c2⟩)] : List Rw.Term)))] [(1, 0), (3, 0), (5, 2)] c (fun ow => ⟨np_tO ow (Nie c 3), np_tO ow (Nle c 3), Nlt c ([(Rw.Term.mk x2.Op x2.W x2.N x2.Name ⟨a2, List.length x2.Kids, c2⟩)] : List Rw.Term), trivial⟩) fun ow _ _ hE hc cq => ?_))
   obtain ⟨i1, hi1⟩ := hE.nw 8 27
   replace c := Cx.newt c hc cq [(8, 27, _, _)] ⟨hi1, trivial⟩
   replace c := c.csl ([(Rw.Term.mk x2.Op x2.W x2.N x2.Name ⟨a2, List.length x2.Kids, c2⟩)] : List Rw.Term) ([x2] : List D.Term) ⟨(Ava.mk_Term x2 (.f 5)), trivial⟩
   replace c := c.gm [BX b1 29 [I p0.Op, I p0.W, I p0.N, Str.val p0.Name, L ga0 p0.Kids gc1], BX b2 29 [I 0, I 0, I 0, Str.val ⟨[]⟩, L none ([] : List D.Term) 0], BX b3 29 [I x1.Op, I x1.W, I x1.N, Str.val x1.Name, L a1 x1.Kids c1], sl29 (L i1.1 ([x2] : List D.Term) i1.2) ([(Rw.Term.mk x2.Op x2.W x2.N x2.Name ⟨a2, List.length x2.Kids, c2⟩)] : List Rw.Term)]
   replace c := c.fzr 3 6
   refine Bd h fun x3 hx3 h => Cf [] c (ih0 hx3) ⟨.f 7, trivial⟩ Try.call87 fun i2 _ _ c => ?_
   refine Ess 1 [I x3.Op, I x3.W, I x3.N, Str.val x3.Name, L i2.1 x3.Kids i2.2] c fun _ c => ?_
   refine E0 ?_
   obtain rfl := sj h
   exact wp_ret (tr (Rg c (i2.1, i2.2) [] [8] (.cell (α := Agg 4) ⟨by kernel_rfl, by kernel_rfl⟩ (.b 1) .nil)))
   refine K0 (T0 (Fp [(0, 0)] 1 c fun _ c => ?_))
   replace c := c.gm [BX b1 29 [I p0.Op, I p0.W, I p0.N, Str.val p0.Name, L ga0 p0.Kids gc1], BX b2 29 [I 0, I 0, I 0, Str.val ⟨[]⟩, L none ([] : List D.Term) 0], BX b3 29 [I x1.Op, I x1.W, I x1.N, Str.val x1.Name, L a1 x1.Kids c1]]
   refine Ess 1 [I p0.Op, I p0.W, I p0.N, Str.val p0.Name, L ga0 p0.Kids gc1] c fun _ c => ?_
   refine E0 ?_
   obtain rfl := sj h
   exact wp_ret (Rg c (ga0, gc1) [] [0] (.cell (α := Agg 4) ⟨by kernel_rfl, by kernel_rfl⟩ (.b 1) .nil))
 · intro p0 ga0 gc1 r h
   rw [impl_reduceJoin] at h
   refine En Try.func72 rfl Try.ntmps72 fun _ fr w c => ?_
   refine T0 (Ebx [I p0.Op, I p0.W, I p0.N, Str.val p0.Name, L ga0 p0.Kids gc1] c fun b1 _ _ c => ?_)
   refine Eal [I 0, I 0, I 0, Str.val ⟨[]⟩, L none ([] : List D.Term) 0] c fun b2 _ _ c => ?_
   refine E0 (Bd h fun x1 hx1 h => ?_)
   obtain ⟨ep1, u1, c⟩ := c.elp (.f 0) hx1
   obtain ⟨a1, c1, rfl, c⟩ := c.o_Term 2
   refine Bd h fun x2 hx2 h => ?_
   obtain ⟨ep2, u2, c⟩ := c.elp (.f 0) hx2
   obtain ⟨a2, c2, rfl, c⟩ := c.o_Term 5
   refine S0 (Jn (fun i : Nat × Nat => ([(1, B b1 0), (2, B b2 0), (3, B i.1 0), (4, B i.2 0)], fun Γ => Γ ++ [BX i.1 29 [I x1.Op, I x1.W, I x1.N, Str.val x1.Name, L a1 x1.Kids c1], BX i.2 29 [I x2.Op, I x2.W, I x2.N, Str.val x2.Name, L a2 x2.Kids c2]], [])) c ?_ fun i4 _ _ c => ?_)
   refine As mix c fun _ c => ?_
   replace c := Cx.frs [(1, B b1 0), (2, B b2 0)] c
   refine Dq (fun i : Nat × Nat => ([(1, B b1 0), (2, B b2 0), (3, B i.1 0), (4, B i.2 0)], fun Γ => Γ ++ [BX i.1 29 [I x1.Op, I x1.W, I x1.N, Str.val x1.Name, L a1 x1.Kids c1], BX i.2 29 [I x2.Op, I x2.W, I x2.N, Str.val x2.Name, L a2 x2.Kids c2]], [])) #[true, true, true, true, true, true, true, true, true, true, true, true] (fun i => []) c (fun i3 => ?_) fun hd5 => ?_
   obtain ⟨b13, b14⟩ := i3
   refine qnE trivial fun _ _ c => ?_
   exact nN (b13, b14) (c.rk (rg 4) (rg 7))
   refine Dq (fun i : Nat × Nat => ([(1, B b1 0), (2, B b2 0), (3, B i.1 0), (4, B i.2 0)], fun Γ => Γ ++ [BX i.1 29 [I x1.Op, I x1.W, I x1.N, Str.val x1.Name, L a1 x1.Kids c1], BX i.2 29 [I 0, I 0, I 0, Str.val ⟨[]⟩, L none ([] : List D.Term) 0]], [])) #[true, true, true, true, false, false, false, false, true, true, true, false] (fun i => [(4, 9, B b1 4), (5, 10, L ga0 p0.Kids gc1), (6, 11, .pointer (some ep2)), (7, 12, .agg #[I x2.Op, I x2.W, I x2.N, Str.val x2.Name, L a2 x2.Kids c2])]) c (fun i2 => ?_) fun hd4 => ?_
   obtain ⟨b11, b12⟩ := i2
   refine qn [11] ⟨qP [], qP [(0, 0)], qI 4, qL 4, trivial⟩ ⟨fun _ _ c => ?_, trivial⟩
   refine op_of _ rfl rfl ?_
   refine Ess 3 [I x2.Op, I x2.W, I x2.N, Str.val x2.Name, L a2 x2.Kids c2] c fun _ c => ?_
   refine E0 (nQ hd5 (b11, b12) (c.rk (rg 4) (rg 7)))
   refine Dq (fun i : Nat × Nat => ([(1, B b1 0), (2, B b2 0), (3, B i.1 0), (4, B i.2 0)], fun Γ => Γ ++ [BX i.1 29 [I 0, I 0, I 0, Str.val ⟨[]⟩, L none ([] : List D.Term) 0], BX i.2 29 [I 0, I 0, I 0, Str.val ⟨[]⟩, L none ([] : List D.Term) 0]], [])) #[false, false, false, false, false, false, false, false, true, true, false, false] (fun i => [(0, 5, B b1 4), (1, 6, L ga0 p0.Kids gc1), (2, 7, .pointer (some ep1)), (3, 8, .agg #[I x1.Op, I x1.W, I x1.N, Str.val x1.Name, L a1 x1.Kids c1]), (4, 9, B b1 4), (5, 10, L ga0 p0.Kids gc1), (6, 11, .pointer (some ep2)), (7, 12, .agg #[I x2.Op, I x2.W, I x2.N, Str.val x2.Name, L a2 x2.Kids c2])]) c (fun i1 => ?_) fun hd3 => ?_
   obtain ⟨b8, b9⟩ := i1
   refine qn [10] ⟨qP [], qP [(0, 0)], qI 1, qL 1, qP [], qP [(0, 0)], qI 4, qL 4, trivial⟩ ⟨fun _ _ c => ?_, trivial⟩
   refine op_of _ rfl rfl ?_
   refine Ess 2 [I x1.Op, I x1.W, I x1.N, Str.val x1.Name, L a1 x1.Kids c1] c fun _ c => ?_
   refine E0 (nQ hd4 (b8, b9) (c.rk (rg 4) (rg 7)))
   refine Dq (fun i : Nat => ([(1, B b1 0), (2, B b2 0), (3, B i 0)], fun Γ => Γ ++ [BX i 29 [I 0, I 0, I 0, Str.val ⟨[]⟩, L none ([] : List D.Term) 0]], [])) #[false, false, false, false, false, false, false, false, true, false, false, false] (fun i => [(0, 5, B b1 4), (1, 6, L ga0 p0.Kids gc1), (2, 7, .pointer (some ep1)), (3, 8, .agg #[I x1.Op, I x1.W, I x1.N, Str.val x1.Name, L a1 x1.Kids c1]), (4, 9, B b1 4), (5, 10, L ga0 p0.Kids gc1), (6, 11, .pointer (some ep2)), (7, 12, .agg #[I x2.Op, I x2.W, I x2.N, Str.val x2.Name, L a2 x2.Kids c2])]) c (fun b4 => ?_) fun hd1 => ?_
   refine qn [9] ⟨qP [], qP [(0, 0)], qI 1, qL 1, qP [], qP [(0, 0)], qI 4, qL 4, trivial⟩ ⟨fun _ _ c => ?_, trivial⟩
   refine op_of _ rfl rfl ?_
   refine Eal [I 0, I 0, I 0, Str.val ⟨[]⟩, L none ([] : List D.Term) 0] c fun b7 _ _ c => ?_
   refine E0 (nQ hd3 (b4, b7) (c.rk (rg 4) (rg 7)))
   refine Dq (fun i : Nat => ([(1, B b1 0), (2, B b2 0), (4, B i 0)], fun Γ => Γ ++ [BX i 29 [I 0, I 0, I 0, Str.val ⟨[]⟩, L none ([] : List D.Term) 0]], [])) #[false, false, false, false, false, false, false, false, false, true, false, false] (fun i => [(0, 5, B b1 4), (1, 6, L ga0 p0.Kids gc1), (2, 7, .pointer (some ep1)), (3, 8, .agg #[I x1.Op, I x1.W, I x1.N, Str.val x1.Name, L a1 x1.Kids c1]), (4, 9, B b1 4), (5, 10, L ga0 p0.Kids gc1), (6, 11, .pointer (some ep2)), (7, 12, .agg #[I x2.Op, I x2.W, I x2.N, Str.val x2.Name, L a2 x2.Kids c2])]) c (fun b6 => ?_) fun hd2 => ?_
   refine qn [8] ⟨qP [], qP [(0, 0)], qI 1, qL 1, qP [], qP [(0, 0)], qI 4, qL 4, trivial⟩ ⟨fun _ _ c => ?_, trivial⟩
   refine op_of _ rfl rfl ?_
   refine Eal [I 0, I 0, I 0, Str.val ⟨[]⟩, L none ([] : List D.Term) 0] c fun b10 _ _ c => ?_
   refine E0 (nQ hd3 (b10, b6) (c.rk [0, 1, 3, 2] (rg 7)))
   refine q0 (qs := [(0, 5, B b1 4), (1, 6, L ga0 p0.Kids gc1), (2, 7, .pointer (some ep1)), (3, 8, .agg #[I x1.Op, I x1.W, I x1.N, Str.val x1.Name, L a1 x1.Kids c1]), (4, 9, B b1 4), (5, 10, L ga0 p0.Kids gc1), (6, 11, .pointer (some ep2)), (7, 12, .agg #[I x2.Op, I x2.W, I x2.N, Str.val x2.Name, L a2 x2.Kids c2])]) c (qn [8, 9] ⟨qP [], qP [(0, 0)], qI 1, qL 1, qP [], qP [(0, 0)], qI 4, qL 4, trivial⟩ ⟨fun _ _ c => ?_, fun _ _ c => ?_, trivial⟩)
   refine op_of _ rfl rfl ?_
   refine Eal [I 0, I 0, I 0, Str.val ⟨[]⟩, L none ([] : List D.Term) 0] c fun b3 _ _ c => ?_
   refine E0 (nQ hd1 (b3) (c.rk [0, 1, 2] (rg 7)))
   refine op_of _ rfl rfl ?_
   refine Eal [I 0, I 0, I 0, Str.val ⟨[]⟩, L none ([] : List D.Term) 0] c fun b5 _ _ c => ?_
   refine E0 (nQ hd2 (b5) (c.rk [0, 1, 2] (rg 7)))
   obtain ⟨b15, b16⟩ := i4
   refine S0 (Bd h fun x3 hx3 h => Bd h fun x4 hx4 h => Bd h fun x5 hx5 h => S0 (rZ [(21, Pd.el (x3 : D.Term)), (22, Pd.rd (x3 : D.Term)), (25, Pd.el (x4 : D.Term)), (26, Pd.rd (x4 : D.Term)), (27, .eq (.bool x5))] [(1, 2), (5, 3), (10, 2), (12, 3), (14, 3), (20, 2), (24, 3)] mix c ⟨Nid c (.f 3) (gT hx3), Nrd c 21 (atN 21), Nid c (.f 6) (gT hx4), Nrd c 25 (atN 25), Ncd (Ψ := []) [.r 22 (fun v => RO v (x3 : D.Term)), .r 26 (fun v => RO v (x4 : D.Term))] c ⟨(atN 22), (atN 26), trivial⟩ trivial (fun hg _ _ ga gp => by obtain ⟨u1, _, rfl, g1, u2, _, rfl, g2, rfl⟩ := ga; obtain ⟨k1, rfl, f1⟩ := Opn.opn g1; obtain ⟨k2, rfl, f2⟩ := Opn.opn g2; exact ⟨_, (f1.join f2), impl_sameTerm_ok (iteT (gcT hg) hx5)⟩) Try.call86, trivial⟩ fun _ _ c => I0 c h (fun h => ?_) fun h => ?_))
   refine Bd h fun x6 hx6 h => ?_
   obtain ⟨ep3, u3, c⟩ := c.elp (.f 6) hx6
   obtain ⟨a3, c3, rfl, c⟩ := c.o_Term 8
   refine S0 (wp_ra mix (rM 9 [(6, .eq (.pointer (some ep3))), (7, .eq (.agg #[I x6.Op, I x6.W, I x6.N, Str.val x6.Name, L a3 x6.Kids c3])), (8, Pd.nw c.wd 8 (fun i : Option Addr × Nat => L i.1 ([x6] : List D.Term) i.2) (fun i => sl29 (L i.1 ([x6] : List D.Term) i.2) ([(Rw.Term.mk x6.Op x6.W x6.N x6.Name ⟨a3, List.length x6.Kids, c3⟩)] : List Rw.Term)))] [(1, 0), (3, 3), (5, 3)] c (fun ow => ⟨np_tO ow (Nie c 7), np_tO ow (Nle c 7), Nlt c ([(Rw.Term.mk x6.Op x6.W x6.N x6.Name ⟨a3, List.length x6.Kids, c3⟩)] : List Rw.Term), trivial⟩) fun ow _ _ hE hc cq => ?_))
   obtain ⟨i5, hi5⟩ := hE.nw 8 50
   replace c := Cx.newt c hc cq [(8, 50, _, _)] ⟨hi5, trivial⟩
   replace c := c.csl ([(Rw.Term.mk x6.Op x6.W x6.N x6.Name ⟨a3, List.length x6.Kids, c3⟩)] : List Rw.Term) ([x6] : List D.Term) ⟨(Ava.mk_Term x6 (.f 9)), trivial⟩
   replace c := c.fzr 4 10
   refine Bd h fun x7 hx7 h => Cf [] c (ih0 hx7) ⟨.f 11, trivial⟩ Try.call87 fun i6 _ _ c => ?_
   refine Ess 1 [I x7.Op, I x7.W, I x7.N, Str.val x7.Name, L i6.1 x7.Kids i6.2] c fun _ c => ?_
   refine E0 ?_
   obtain rfl := sj h
   exact wp_ret (tr (Rg c (i6.1, i6.2) [] [12] (.cell (α := Agg 4) ⟨by kernel_rfl, by kernel_rfl⟩ (.b 1) .nil)))
   refine K0 (T0 (Fp [(0, 0)] 1 c fun _ c => Ess 1 [I p0.Op, I p0.W, I p0.N, Str.val p0.Name, L ga0 p0.Kids gc1] c fun _ c => ?_))
   refine E0 ?_
   obtain rfl := sj h
   exact wp_ret (Rg c (ga0, gc1) [] [0] (.cell (α := Agg 4) ⟨by kernel_rfl, by kernel_rfl⟩ (.b 1) .nil))
 · intro p0 ga0 gc1 r h
   rw [impl_reduceBinary] at h
   refine En Try.func73 rfl Try.ntmps73 fun _ fr w c => ?_
   refine T0 (Ebx [I p0.Op, I p0.W, I p0.N, Str.val p0.Name, L ga0 p0.Kids gc1] c fun b1 _ _ c => ?_)
   refine Eal [I 0, I 0, I 0, Str.val ⟨[]⟩, L none ([] : List D.Term) 0] c fun b2 _ _ c => ?_
   refine E0 (Bd h fun x1 hx1 h => ?_)
   obtain ⟨ep1, u1, c⟩ := c.elp (.f 0) hx1
   obtain ⟨a1, c1, rfl, c⟩ := c.o_Term 2
   refine Bd h fun x2 hx2 h => ?_
   obtain ⟨ep2, u2, c⟩ := c.elp (.f 0) hx2
   obtain ⟨a2, c2, rfl, c⟩ := c.o_Term 5
   refine S0 (Jn (fun i : Nat × Nat => ([(1, B b1 0), (2, B b2 0), (3, B i.1 0), (4, B i.2 0)], fun Γ => Γ ++ [BX i.1 29 [I x1.Op, I x1.W, I x1.N, Str.val x1.Name, L a1 x1.Kids c1], BX i.2 29 [I x2.Op, I x2.W, I x2.N, Str.val x2.Name, L a2 x2.Kids c2]], [])) c ?_ fun i4 _ _ c => ?_)
   refine As mix c fun _ c => ?_
   replace c := Cx.frs [(1, B b1 0), (2, B b2 0)] c
   refine Dq (fun i : Nat × Nat => ([(1, B b1 0), (2, B b2 0), (3, B i.1 0), (4, B i.2 0)], fun Γ => Γ ++ [BX i.1 29 [I x1.Op, I x1.W, I x1.N, Str.val x1.Name, L a1 x1.Kids c1], BX i.2 29 [I x2.Op, I x2.W, I x2.N, Str.val x2.Name, L a2 x2.Kids c2]], [])) #[true, true, true, true, true, true, true, true, true, true, true, true] (fun i => []) c (fun i3 => ?_) fun hd5 => ?_
   obtain ⟨b13, b14⟩ := i3
   refine qnE trivial fun _ _ c => ?_
   exact nN (b13, b14) (c.rk (rg 4) (rg 7))
   refine Dq (fun i : Nat × Nat => ([(1, B b1 0), (2, B b2 0), (3, B i.1 0), (4, B i.2 0)], fun Γ => Γ ++ [BX i.1 29 [I x1.Op, I x1.W, I x1.N, Str.val x1.Name, L a1 x1.Kids c1], BX i.2 29 [I 0, I 0, I 0, Str.val ⟨[]⟩, L none ([] : List D.Term) 0]], [])) #[true, true, true, true, false, false, false, false, true, true, true, false] (fun i => [(4, 12, B b1 4), (5, 13, L ga0 p0.Kids gc1), (6, 14, .pointer (some ep2)), (7, 15, .agg #[I x2.Op, I x2.W, I x2.N, Str.val x2.Name, L a2 x2.Kids c2])]) c (fun i2 => ?_) fun hd4 => ?_
   obtain ⟨b11, b12⟩ := i2
   refine qn [11] ⟨qP [], qP [(0, 0)], qI 4, qL 4, trivial⟩ ⟨fun _ _ c => ?_, trivial⟩
   refine op_of _ rfl rfl ?_
   refine Ess 3 [I x2.Op, I x2.W, I x2.N, Str.val x2.Name, L a2 x2.Kids c2] c fun _ c => ?_
   refine E0 (nQ hd5 (b11, b12) (c.rk (rg 4) (rg 7)))
   refine Dq (fun i : Nat × Nat => ([(1, B b1 0), (2, B b2 0), (3, B i.1 0), (4, B i.2 0)], fun Γ => Γ ++ [BX i.1 29 [I 0, I 0, I 0, Str.val ⟨[]⟩, L none ([] : List D.Term) 0], BX i.2 29 [I 0, I 0, I 0, Str.val ⟨[]⟩, L none ([] : List D.Term) 0]], [])) #[false, false, false, false, false, false, false, false, true, true, false, false] (fun i => [(0, 8, B b1 4), (1, 9, L ga0 p0.Kids gc1), (2, 10, .pointer (some ep1)), (3, 11, .agg #[I x1.Op, I x1.W, I x1.N, Str.val x1.Name, L a1 x1.Kids c1]), (4, 12, B b1 4), (5, 13, L ga0 p0.Kids gc1), (6, 14, .pointer (some ep2)), (7, 15, .agg #[I x2.Op, I x2.W, I x2.N, Str.val x2.Name, L a2 x2.Kids c2])]) c (fun i1 => ?_) fun hd3 => ?_
   obtain ⟨b8, b9⟩ := i1
   refine qn [10] ⟨qP [], qP [(0, 0)], qI 1, qL 1, qP [], qP [(0, 0)], qI 4, qL 4, trivial⟩ ⟨fun _ _ c => ?_, trivial⟩
   refine op_of _ rfl rfl ?_
   refine Ess 2 [I x1.Op, I x1.W, I x1.N, Str.val x1.Name, L a1 x1.Kids c1] c fun _ c => ?_
   refine E0 (nQ hd4 (b8, b9) (c.rk (rg 4) (rg 7)))
   refine Dq (fun i : Nat => ([(1, B b1 0), (2, B b2 0), (3, B i 0)], fun Γ => Γ ++ [BX i 29 [I 0, I 0, I 0, Str.val ⟨[]⟩, L none ([] : List D.Term) 0]], [])) #[false, false, false, false, false, false, false, false, true, false, false, false] (fun i => [(0, 8, B b1 4), (1, 9, L ga0 p0.Kids gc1), (2, 10, .pointer (some ep1)), (3, 11, .agg #[I x1.Op, I x1.W, I x1.N, Str.val x1.Name, L a1 x1.Kids c1]), (4, 12, B b1 4), (5, 13, L ga0 p0.Kids gc1), (6, 14, .pointer (some ep2)), (7, 15, .agg #[I x2.Op, I x2.W, I x2.N, Str.val x2.Name, L a2 x2.Kids c2])]) c (fun b4 => ?_) fun hd1 => ?_
   refine qn [9] ⟨qP [], qP [(0, 0)], qI 1, qL 1, qP [], qP [(0, 0)], qI 4, qL 4, trivial⟩ ⟨fun _ _ c => ?_, trivial⟩
   refine op_of _ rfl rfl ?_
   refine Eal [I 0, I 0, I 0, Str.val ⟨[]⟩, L none ([] : List D.Term) 0] c fun b7 _ _ c => ?_
   refine E0 (nQ hd3 (b4, b7) (c.rk (rg 4) (rg 7)))
   refine Dq (fun i : Nat => ([(1, B b1 0), (2, B b2 0), (4, B i 0)], fun Γ => Γ ++ [BX i 29 [I 0, I 0, I 0, Str.val ⟨[]⟩, L none ([] : List D.Term) 0]], [])) #[false, false, false, false, false, false, false, false, false, true, false, false] (fun i => [(0, 8, B b1 4), (1, 9, L ga0 p0.Kids gc1), (2, 10, .pointer (some ep1)), (3, 11, .agg #[I x1.Op, I x1.W, I x1.N, Str.val x1.Name, L a1 x1.Kids c1]), (4, 12, B b1 4), (5, 13, L ga0 p0.Kids gc1), (6, 14, .pointer (some ep2)), (7, 15, .agg #[I x2.Op, I x2.W, I x2.N, Str.val x2.Name, L a2 x2.Kids c2])]) c (fun b6 => ?_) fun hd2 => ?_
   refine qn [8] ⟨qP [], qP [(0, 0)], qI 1, qL 1, qP [], qP [(0, 0)], qI 4, qL 4, trivial⟩ ⟨fun _ _ c => ?_, trivial⟩
   refine op_of _ rfl rfl ?_
   refine Eal [I 0, I 0, I 0, Str.val ⟨[]⟩, L none ([] : List D.Term) 0] c fun b10 _ _ c => ?_
   refine E0 (nQ hd3 (b10, b6) (c.rk [0, 1, 3, 2] (rg 7)))
   refine q0 (qs := [(0, 8, B b1 4), (1, 9, L ga0 p0.Kids gc1), (2, 10, .pointer (some ep1)), (3, 11, .agg #[I x1.Op, I x1.W, I x1.N, Str.val x1.Name, L a1 x1.Kids c1]), (4, 12, B b1 4), (5, 13, L ga0 p0.Kids gc1), (6, 14, .pointer (some ep2)), (7, 15, .agg #[I x2.Op, I x2.W, I x2.N, Str.val x2.Name, L a2 x2.Kids c2])]) c (qn [8, 9] ⟨qP [], qP [(0, 0)], qI 1, qL 1, qP [], qP [(0, 0)], qI 4, qL 4, trivial⟩ ⟨fun _ _ c => ?_, fun _ _ c => ?_, trivial⟩)
   refine op_of _ rfl rfl ?_
   refine Eal [I 0, I 0, I 0, Str.val ⟨[]⟩, L none ([] : List D.Term) 0] c fun b3 _ _ c => ?_
   refine E0 (nQ hd1 (b3) (c.rk [0, 1, 2] (rg 7)))
   refine op_of _ rfl rfl ?_
   refine Eal [I 0, I 0, I 0, Str.val ⟨[]⟩, L none ([] : List D.Term) 0] c fun b5 _ _ c => ?_
   refine E0 (nQ hd2 (b5) (c.rk [0, 1, 2] (rg 7)))
   obtain ⟨b15, b16⟩ := i4
   refine S0 (Bd h fun x3 hx3 h => Bd h fun x4 hx4 h => S0 (rZ [(2, .eq (.bool x3)), (6, .eq (I x4))] [(1, 0), (4, 2), (5, 3)] mix c ⟨Ncl c (kN (impl_swapsKids_ok hx3)) trivial Try.call88, Ncl c (fun hg => impl_CompareTerms_ok (iteT (gcT hg) hx4)) ⟨.f 3, .f 6, trivial⟩ Try.call89, trivial⟩ fun _ _ c => I0 c h (fun h => ?_) fun h => ?_))
   refine T0 (Fp [(1, 0), (3, 0), (4, 3), (5, 2)] 6 c fun _ c => Eltr 29 ([(Rw.Term.mk x2.Op x2.W x2.N x2.Name ⟨a2, List.length x2.Kids, c2⟩), (Rw.Term.mk x1.Op x1.W x1.N x1.Name ⟨a1, List.length x1.Kids, c1⟩)] : List Rw.Term) ([x2, x1] : List D.Term) c ⟨(Ava.mk_Term x2 (.f 6)), (Ava.mk_Term x1 (.f 3)), trivial⟩ fun a3 c3 _ _ c => ?_)
   replace c := c.fzr 4 7
   refine Bd h fun x5 hx5 h => Cf [] c (ih0 hx5) ⟨.f 8, trivial⟩ Try.call87 fun i5 _ _ c => ?_
   refine Ess 1 [I x5.Op, I x5.W, I x5.N, Str.val x5.Name, L i5.1 x5.Kids i5.2] c fun _ c => ?_
   refine E0 ?_
   obtain rfl := sj h
   exact wp_ret (tr (Rg c (i5.1, i5.2) [] [9] (.cell (α := Agg 4) ⟨by kernel_rfl, by kernel_rfl⟩ (.b 1) .nil)))
   refine K0 (S0 (T0 (Fp [(0, 2)] 1 c fun _ c => Bd h fun x6 hx6 h => Ca [] c (impl_isConst_ok hx6) ⟨.f 3, trivial⟩ Try.call66 fun _ _ _ c => ?_)))
   refine E0 (Bd h fun rl1 hit1 h => ?_)
   have hk1 := h
   refine Jr (fun s  (_ : Unit) => ([(1, B b1 0), (2, B b2 0), (3, B b15 0), (4, B b16 0)], id, [])) hit1 c (fun h => ?_) fun s1r _ _ _ hrl c => ?_
   refine I0 c h (fun h => ?_) fun h => ?_
   refine T0 (Fp [(1, 0), (3, 0), (4, 2), (5, 3)] 6 c fun _ c => Bd h fun x7 hx7 h => Cf [] c (ih7 hx7) ⟨.f 3, .f 6, trivial⟩ Try.call90 fun i6 _ _ c => ?_)
   refine Fp [] 3 c fun _ c => Eal [I 0, I 0, I 0, Str.val ⟨[]⟩, L none ([] : List D.Term) 0] c fun b17 _ _ c => ?_
   refine Ess 4 [I x7.1.Op, I x7.1.W, I x7.1.N, Str.val x7.1.Name, L i6.1 x7.1.Kids i6.2] c fun _ c => ?_
   refine Fp [] 1 c fun _ c => E0 (P0 [] c fun _ c => I0 c h (fun h => ?_) fun h => ?_)
   refine T0 (Fp [(0, 4)] 1 c fun _ c => Ess 1 [I x7.1.Op, I x7.1.W, I x7.1.N, Str.val x7.1.Name, L i6.1 x7.1.Kids i6.2] c fun _ c => ?_)
   refine E0 ?_
   obtain rfl := sj h
   obtain rfl := Option.some.inj hk1
   exact wp_ret (tr (Rg c (i6.1, i6.2) [] [7] (.cell (α := Agg 4) ⟨by kernel_rfl, by kernel_rfl⟩ (.b 1) .nil)))
   refine K0 (⟨_, (), (Option.some.inj h).symm, c.re (rg 4) (rg 7)⟩)
   refine K0 (⟨_, (), (Option.some.inj h).symm, c.re (rg 4) (rg 7)⟩)
   subst hrl
   refine S0 (T0 (Fp [(0, 3)] 1 c fun _ c => Bd h fun x8 hx8 h => Ca [] c (impl_constIs_ok hx8) ⟨.f 6, trivial⟩ Try.call85 fun _ _ _ c => ?_))
   refine E0 (Bd h fun rl2 hit2 h => ?_)
   have hk2 := h
   refine Jr (fun s  (_ : Unit) => ([(1, B b1 0), (2, B b2 0), (3, B b15 0), (4, B b16 0)], id, [])) hit2 c (fun h => ?_) fun s2r _ _ _ hrl c => ?_
   refine I0 c h (fun h => ?_) fun h => ?_
   refine P0 [(1, 0)] c fun _ c => wp_block (S0 (P0 [] c fun _ c => Bd h fun rl3 hit3 h => ?_))
   have hk3 := h
   refine Jr (fun s  (_ : Unit) => ([(1, B b1 0), (2, B b2 0), (3, B b15 0), (4, B b16 0), (50, I p0.Op), (51, .bool s)], id, [])) hit3 c (fun h => ?_) fun s3r _ _ _ hrl c => ?_
   refine I0 c h (fun h => ?_) fun h => ?_
   refine K0 (⟨_, (), (Option.some.inj h).symm, c.re (rg 4) (rg 7)⟩)
   refine P0 [] c fun _ c => I0 c h (fun h => ?_) fun h => ?_
   refine K0 (⟨_, (), (Option.some.inj h).symm, c.re (rg 4) (rg 7)⟩)
   refine P0 [] c fun _ c => Mp (p0.Op == 12) [(51, .bool (p0.Op == 12))] [(51, .bool (p0.Op == 13))] [(51, .bool ((p0.Op == 12) || (p0.Op == 13)))] [51, 55] c fun _ c => ⟨_, (), (Option.some.inj h).symm, c.re (rg 4) (rg 7)⟩
   subst hrl
   refine I0 c h (fun h => ?_) fun h => ?_
   refine T0 (Fp [(0, 2)] 1 c fun _ c => Ess 1 [I x1.Op, I x1.W, I x1.N, Str.val x1.Name, L a1 x1.Kids c1] c fun _ c => ?_)
   refine E0 ?_
   obtain rfl := sj h
   obtain rfl := Option.some.inj hk2
   exact wp_ret (br (tr (Rg c (a1, c1) [] [3] (.cell (α := Agg 4) ⟨by kernel_rfl, by kernel_rfl⟩ (.b 1) .nil))))
   refine P0 [] c fun _ c => I0 c h (fun h => ?_) fun h => ?_
   refine T0 (Bd h fun x9 hx9 h => Ca [] c (impl_ConstTerm_ok hx9) trivial Try.call37 fun _ _ _ c => ?_)
   refine Ess 1 [I x9.Op, I x9.W, I x9.N, Str.val x9.Name, L none ([] : List D.Term) 0] c fun _ c => ?_
   refine E0 ?_
   obtain rfl := sj h
   obtain rfl := Option.some.inj hk2
   replace c := c.nilf (α := D.Term)
   exact wp_ret (br (tr (Rg c (none, 0) [] [7] (.cell (α := Agg 4) ⟨by kernel_rfl, by kernel_rfl⟩ (.b 1) .nil))))
   refine K1 (bk (tn (⟨_, (), (Option.some.inj h).symm, c.re (rg 4) (rg 7)⟩)))
   refine K0 (⟨_, (), (Option.some.inj h).symm, c.re (rg 4) (rg 7)⟩)
   subst hrl
   refine S0 (T0 (Fp [(0, 2), (1, 3)] 2 c fun _ c => Bd h fun x10 hx10 h => Ca [] c (impl_sameTerm_ok hx10) ⟨.f 3, .f 6, trivial⟩ Try.call86 fun _ _ _ c => ?_))
   refine E0 (Bd h fun rl4 hit4 h => ?_)
   have hk4 := h
   refine Jr (fun s  (_ : Unit) => ([(1, B b1 0), (2, B b2 0), (3, B b15 0), (4, B b16 0)], id, [])) hit4 c (fun h => ?_) fun s4r _ _ _ hrl c => ?_
   refine I0 c h (fun h => ?_) fun h => ?_
   refine P0 [(1, 0)] c fun _ c => wp_block (S0 (P0 [] c fun _ c => Mp (p0.Op == 8) [(65, .bool (p0.Op == 8))] [(65, .bool (p0.Op == 9))] [(65, .bool ((p0.Op == 8) || (p0.Op == 9)))] [65, 67] c fun _ c => I0 c h (fun h => ?_) fun h => ?_))
   refine T0 (Fp [(0, 2)] 1 c fun _ c => Ess 1 [I x1.Op, I x1.W, I x1.N, Str.val x1.Name, L a1 x1.Kids c1] c fun _ c => ?_)
   refine E0 ?_
   obtain rfl := sj h
   obtain rfl := Option.some.inj hk4
   exact wp_ret (br (tr (Rg c (a1, c1) [] [3] (.cell (α := Agg 4) ⟨by kernel_rfl, by kernel_rfl⟩ (.b 1) .nil))))
   refine S0 (P0 [] c fun _ c => Bd h fun rl5 hit5 h => ?_)
   have hk5 := h
   refine Jr (fun s  (_ : Unit) => ([(1, B b1 0), (2, B b2 0), (3, B b15 0), (4, B b16 0), (64, I p0.Op), (69, .bool s)], id, [])) hit5 c (fun h => ?_) fun s5r _ _ _ hrl c => ?_
   refine I0 c h (fun h => ?_) fun h => ?_
   refine K0 (⟨_, (), (Option.some.inj h).symm, c.re (rg 4) (rg 7)⟩)
   refine P0 [] c fun _ c => I0 c h (fun h => ?_) fun h => ?_
   refine K0 (⟨_, (), (Option.some.inj h).symm, c.re (rg 4) (rg 7)⟩)
   refine P0 [] c fun _ c => Mp (p0.Op == 15) [(69, .bool (p0.Op == 15))] [(69, .bool (p0.Op == 16))] [(69, .bool ((p0.Op == 15) || (p0.Op == 16)))] [69, 73] c fun _ c => ⟨_, (), (Option.some.inj h).symm, c.re (rg 4) (rg 7)⟩
   subst hrl
   refine I0 c h (fun h => ?_) fun h => ?_
   refine T0 (Fp [(1, 0)] 2 c fun _ c => Bd h fun x11 hx11 h => Ca [] c (impl_ConstTerm_ok hx11) trivial Try.call37 fun _ _ _ c => ?_)
   refine Ess 1 [I x11.Op, I x11.W, I x11.N, Str.val x11.Name, L none ([] : List D.Term) 0] c fun _ c => ?_
   refine E0 ?_
   obtain rfl := sj h
   obtain rfl := Option.some.inj hk4
   replace c := c.nilf (α := D.Term)
   exact wp_ret (br (tr (Rg c (none, 0) [] [7] (.cell (α := Agg 4) ⟨by kernel_rfl, by kernel_rfl⟩ (.b 1) .nil))))
   refine P0 [] c fun _ c => I0 c h (fun h => ?_) fun h => ?_
   refine T0 (Bd h fun x12 hx12 h => Ca [] c (impl_ConstTerm_ok hx12) trivial Try.call37 fun _ _ _ c => ?_)
   refine Ess 1 [I x12.Op, I x12.W, I x12.N, Str.val x12.Name, L none ([] : List D.Term) 0] c fun _ c => ?_
   refine E0 ?_
   obtain rfl := sj h
   obtain rfl := Option.some.inj hk4
   replace c := c.nilf (α := D.Term)
   exact wp_ret (br (tr (Rg c (none, 0) [] [7] (.cell (α := Agg 4) ⟨by kernel_rfl, by kernel_rfl⟩ (.b 1) .nil))))
   refine K1 (bk (tn (⟨_, (), (Option.some.inj h).symm, c.re (rg 4) (rg 7)⟩)))
   refine K0 (⟨_, (), (Option.some.inj h).symm, c.re (rg 4) (rg 7)⟩)
   subst hrl
   refine S0 (Bd h fun x13 hx13 h => Bd h fun x14 hx14 h => Bd h fun x15 hx15 h => Bd h fun x16 hx16 h => S0 (rZ [(2, .eq (.bool x13)), (10, .eq (.bool x14)), (22, Pd.el (x15 : D.Term)), (23, Pd.rd (x15 : D.Term)), (24, .eq (.bool x16))] [(1, 0), (5, 0), (9, 2), (14, 3), (16, 0), (21, 3)] mix c ⟨Ncl c (kN (impl_swapsKids_ok hx13)) trivial Try.call88, Ncl c (fun hg => impl_isConst_ok (iteT (gcT hg) hx14)) ⟨.f 3, trivial⟩ Try.call66, Nid c (.f 6) (gT hx15), Nrd c 22 (atN 22), Ncd (Ψ := []) [.r 23 (fun v => RO v (x15 : D.Term))] c ⟨(atN 23), trivial⟩ trivial (fun hg _ _ ga gp => by obtain ⟨u1, _, rfl, g1, rfl⟩ := ga; obtain ⟨k1, rfl, f1⟩ := Opn.opn g1; exact ⟨_, f1, impl_isConst_ok (iteT (gcT hg) hx16)⟩) Try.call66, trivial⟩ fun _ _ c => I0 c h (fun h => ?_) fun h => ?_))
   refine Bd h fun x17 hx17 h => ?_
   obtain ⟨ep3, u3, c⟩ := c.elp (.f 6) hx17
   obtain ⟨a4, c4, rfl, c⟩ := c.o_Term 8
   refine Bd h fun x18 hx18 h => S0 (rZ [(8, .eq (.pointer (some ep3))), (10, .eq (I x17.N)), (11, .eq (I x18))] [(1, 0), (3, 0), (5, 2), (7, 3)] mix c ⟨Nie c 7, Nlc c 7 2, Ncl c (kN (impl_ApplyBinary_ok hx18)) trivial Try.call84, trivial⟩ fun _ _ c => Bd h fun x19 hx19 h => Bd h fun x20 hx20 h => ?_)
   obtain ⟨ep4, u4, c⟩ := c.elp (.f 6) hx20
   obtain ⟨a5, c5, rfl, c⟩ := c.o_Term 11
   refine S0 (wp_ra mix (rM 13 [(7, .eq (.agg #[I x19.Op, I x19.W, I x19.N, Str.val x19.Name, L none ([] : List D.Term) 0])), (10, .eq (.pointer (some ep4))), (11, .eq (.agg #[I x20.Op, I x20.W, I x20.N, Str.val x20.Name, L a5 x20.Kids c5])), (12, Pd.nw c.wd 12 (fun i : Option Addr × Nat => L i.1 ([(D.Term.mk x19.Op x19.W x19.N x19.Name ([] : List D.Term)), x20] : List D.Term) i.2) (fun i => sl29 (L i.1 ([(D.Term.mk x19.Op x19.W x19.N x19.Name ([] : List D.Term)), x20] : List D.Term) i.2) ([(Rw.Term.mk x19.Op x19.W x19.N x19.Name ⟨none, List.length ([] : List D.Term), 0⟩), (Rw.Term.mk x20.Op x20.W x20.N x20.Name ⟨a5, List.length x20.Kids, c5⟩)] : List Rw.Term)))] [(1, 0), (3, 0), (5, 0), (9, 3)] c (fun ow => ⟨np_tO ow (Ncl c (kN (impl_ConstTerm_ok hx19)) trivial Try.call37), np_tO ow (Nie c 10), np_tO ow (Nle c 10), Nlt c ([(Rw.Term.mk x19.Op x19.W x19.N x19.Name ⟨none, List.length ([] : List D.Term), 0⟩), (Rw.Term.mk x20.Op x20.W x20.N x20.Name ⟨a5, List.length x20.Kids, c5⟩)] : List Rw.Term), trivial⟩) fun ow _ _ hE hc cq => ?_))
   obtain ⟨i7, hi7⟩ := hE.nw 12 130
   replace c := Cx.newt c hc cq [(12, 130, _, _)] ⟨hi7, trivial⟩
   replace c := c.csl ([(Rw.Term.mk x19.Op x19.W x19.N x19.Name ⟨none, List.length ([] : List D.Term), 0⟩), (Rw.Term.mk x20.Op x20.W x20.N x20.Name ⟨a5, List.length x20.Kids, c5⟩)] : List Rw.Term) ([(D.Term.mk x19.Op x19.W x19.N x19.Name ([] : List D.Term)), x20] : List D.Term) ⟨(Ava.mk_Term (D.Term.mk x19.Op x19.W x19.N x19.Name ([] : List D.Term)) (.nil)), (Ava.mk_Term x20 (.f 12)), trivial⟩
   replace c := c.fzr 4 13
   refine Bd h fun x21 hx21 h => Cf [] c (ih0 hx21) ⟨.f 14, trivial⟩ Try.call87 fun i8 _ _ c => ?_
   refine Ess 1 [I x21.Op, I x21.W, I x21.N, Str.val x21.Name, L i8.1 x21.Kids i8.2] c fun _ c => ?_
   refine E0 ?_
   obtain rfl := sj h
   exact wp_ret (tr (Rg c (i8.1, i8.2) [] [15] (.cell (α := Agg 4) ⟨by kernel_rfl, by kernel_rfl⟩ (.b 1) .nil)))
   refine K0 (T0 (Fp [(0, 0)] 1 c fun _ c => Ess 1 [I p0.Op, I p0.W, I p0.N, Str.val p0.Name, L ga0 p0.Kids gc1] c fun _ c => ?_))
   refine E0 ?_
   obtain rfl := sj h
   exact wp_ret (Rg c (ga0, gc1) [] [0] (.cell (α := Agg 4) ⟨by kernel_rfl, by kernel_rfl⟩ (.b 1) .nil))
 · intro p0 p1 p2 p3 ga0 gc1 ga2 gc3 r h
   rw [impl_reduceFirst] at h
   refine En Try.func90 rfl Try.ntmps90 fun _ fr w c => ?_
   refine T0 (Ebx [I p2.Op, I p2.W, I p2.N, Str.val p2.Name, L ga0 p2.Kids gc1] c fun b1 _ _ c => ?_)
   refine Ebx [I p3.Op, I p3.W, I p3.N, Str.val p3.Name, L ga2 p3.Kids gc3] c fun b2 _ _ c => ?_
   refine Eal [I 0, I 0, I 0, Str.val ⟨[]⟩, L none ([] : List D.Term) 0] c fun b3 _ _ c => ?_
   refine Fp [] 1 c fun _ c => E0 (T0 (Fp [(1, 0)] 2 c fun _ c => Bd h fun x1 hx1 h => Ca [] c (impl_onesOf_ok hx1) trivial Try.call97 fun _ _ _ c => ?_))
   refine Fp [] 1 c fun _ c => E0 (S0 (wp_block (S0 (S0 (Ry [(4, 0)] mix c fun _ _ c => Bd h fun rl1 hit1 h => ?_)))))
   have hk1 := h
   refine Jr (fun s  (_ : Unit) => ([(0, I p0), (1, I p1), (6, B b1 0), (7, B b2 0), (8, B b3 0), (10, I x1), (14, .bool s)], id, [])) hit1 c (fun h => ?_) fun s1r _ _ _ hrl c => ?_
   refine I0 c h (fun h => ?_) fun h => ?_
   refine K0 (⟨_, (), (Option.some.inj h).symm, c.re [0, 1, 2] [0, 1]⟩)
   refine S0 (Ry [(4, 0)] mix c fun _ _ c => I0 c h (fun h => ?_) fun h => ?_)
   refine K0 (⟨_, (), (Option.some.inj h).symm, c.re [0, 1, 2] [0, 1]⟩)
   refine S0 (Ry [(4, 0)] mix c fun _ _ c => I0 c h (fun h => ?_) fun h => ?_)
   refine K0 (⟨_, (), (Option.some.inj h).symm, c.re [0, 1, 2] [0, 1]⟩)
   refine S0 (Ry [(4, 0)] mix c fun _ _ c => I0 c h (fun h => ?_) fun h => ?_)
   refine K0 (⟨_, (), (Option.some.inj h).symm, c.re [0, 1, 2] [0, 1]⟩)
   refine S0 (Ry [(4, 0)] mix c fun _ _ c => I0 c h (fun h => ?_) fun h => ?_)
   refine K0 (⟨_, (), (Option.some.inj h).symm, c.re [0, 1, 2] [0, 1]⟩)
   refine Ry [(4, 0), (9, 0)] mix c fun _ _ c => ?_
   exact ⟨_, (), (Option.some.inj h).symm, c.re [0, 1, 2] [0, 1]⟩
   subst hrl
   refine I0 c h (fun h => ?_) fun h => ?_
   refine T0 (Fp [(0, 1)] 1 c fun _ c => Ess 2 [I p3.Op, I p3.W, I p3.N, Str.val p3.Name, L ga2 p3.Kids gc3] c fun _ c => ?_)
   refine Fp [] 1 c fun _ c => E0 ?_
   cases h
   exact wp_ret (br (tr (Rg c (ga2, gc3) [] [1] (.cell (α := Agg 4) ⟨by kernel_rfl, by kernel_rfl⟩ (.b 2) (.tmp .nil)))))
   refine S0 (S0 (Ry [(4, 0)] mix c fun _ _ c => Bd h fun rl2 hit2 h => ?_))
   have hk2 := h
   refine Jr (fun s  (_ : Unit) => ([(0, I p0), (1, I p1), (6, B b1 0), (7, B b2 0), (8, B b3 0), (10, I x1), (64, .bool s)], id, [])) hit2 c (fun h => ?_) fun s2r _ _ _ hrl c => ?_
   refine I0 c h (fun h => ?_) fun h => ?_
   refine K0 (⟨_, (), (Option.some.inj h).symm, c.re [0, 1, 2] [0, 1]⟩)
   refine Ry [(4, 0)] mix c fun _ _ c => ?_
   exact ⟨_, (), (Option.some.inj h).symm, c.re [0, 1, 2] [0, 1]⟩
   subst hrl
   refine I0 c h (fun h => ?_) fun h => ?_
   refine T0 (Fp [] 1 c fun _ c => Bd h fun x2 hx2 h => Ca [] c (impl_ConstTerm_ok hx2) trivial Try.call37 fun _ _ _ c => ?_)
   replace c := c.gm [BX b1 29 [I p2.Op, I p2.W, I p2.N, Str.val p2.Name, L ga0 p2.Kids gc1], BX b2 29 [I p3.Op, I p3.W, I p3.N, Str.val p3.Name, L ga2 p3.Kids gc3], BX b3 29 [I 0, I 0, I 0, Str.val ⟨[]⟩, L none ([] : List D.Term) 0]]
   refine Ess 2 [I x2.Op, I x2.W, I x2.N, Str.val x2.Name, L none ([] : List D.Term) 0] c fun _ c => ?_
   refine Fp [] 1 c fun _ c => E0 ?_
   cases h
   replace c := c.nilf (α := D.Term)
   exact wp_ret (br (tr (Rg c (none, 0) [] [2] (.cell (α := Agg 4) ⟨by kernel_rfl, by kernel_rfl⟩ (.b 2) (.tmp .nil)))))
   refine S0 (Ry [(4, 0)] mix c fun _ _ c => I0 c h (fun h => ?_) fun h => ?_)
   refine T0 (Fp [] 2 c fun _ c => Bd h fun x3 hx3 h => Ca [] c (impl_ConstTerm_ok hx3) trivial Try.call37 fun _ _ _ c => ?_)
   replace c := c.gm [BX b1 29 [I p2.Op, I p2.W, I p2.N, Str.val p2.Name, L ga0 p2.Kids gc1], BX b2 29 [I p3.Op, I p3.W, I p3.N, Str.val p3.Name, L ga2 p3.Kids gc3], BX b3 29 [I 0, I 0, I 0, Str.val ⟨[]⟩, L none ([] : List D.Term) 0]]
   refine Ess 2 [I x3.Op, I x3.W, I x3.N, Str.val x3.Name, L none ([] : List D.Term) 0] c fun _ c => ?_
   refine Fp [] 1 c fun _ c => E0 ?_
   cases h
   replace c := c.nilf (α := D.Term)
   exact wp_ret (br (tr (Rg c (none, 0) [] [2] (.cell (α := Agg 4) ⟨by kernel_rfl, by kernel_rfl⟩ (.b 2) (.tmp .nil)))))
   refine S0 (S0 (Ry [(4, 0)] mix c fun _ _ c => I0 c h (fun h => ?_) fun h => ?_))
   refine K0 (I0 c h (fun h => ?_) fun h => ?_)
   refine T0 (Fp [(1, 1)] 2 c fun _ c => Eltr 29 ([(Rw.Term.mk p3.Op p3.W p3.N p3.Name ⟨ga2, List.length p3.Kids, gc3⟩)] : List Rw.Term) ([p3] : List D.Term) c ⟨(Ava.mk_Term p3 (.f 1)), trivial⟩ fun a1 c1 _ _ c => ?_)
   replace c := c.gm [BX b1 29 [I p2.Op, I p2.W, I p2.N, Str.val p2.Name, L ga0 p2.Kids gc1], BX b2 29 [I p3.Op, I p3.W, I p3.N, Str.val p3.Name, L ga2 p3.Kids gc3], BX b3 29 [I 0, I 0, I 0, Str.val ⟨[]⟩, L none ([] : List D.Term) 0], sl29 (L a1 ([p3] : List D.Term) c1) ([(Rw.Term.mk p3.Op p3.W p3.N p3.Name ⟨ga2, List.length p3.Kids, gc3⟩)] : List Rw.Term)]
   replace c := c.fzr 3 2
   refine Bd h fun x4 hx4 h => Cf [] c (ih0 hx4) ⟨.f 3, trivial⟩ Try.call87 fun i1 _ _ c => ?_
   refine Ess 2 [I x4.Op, I x4.W, I x4.N, Str.val x4.Name, L i1.1 x4.Kids i1.2] c fun _ c => ?_
   refine Fp [] 1 c fun _ c => E0 ?_
   cases h
   exact wp_ret (br (tr (Rg c (i1.1, i1.2) [] [4] (.cell (α := Agg 4) ⟨by kernel_rfl, by kernel_rfl⟩ (.b 2) (.tmp .nil)))))
   refine K1 (bk (tn (T0 (Fp [] 1 c fun _ c => Ess 2 [I 0, I 0, I 0, Str.val ⟨[]⟩, L none ([] : List D.Term) 0] c fun _ c => ?_))))
   refine Fp [] 1 c fun _ c => E0 ?_
   cases h
   replace c := c.nilf (α := D.Term)
   exact wp_ret (Rg c (none, 0) [] [2] (.cell (α := Agg 4) ⟨by kernel_rfl, by kernel_rfl⟩ (.b 2) (.tmp .nil)))
   refine Ry [(4, 0), (9, 0)] mix c fun _ _ c => ?_
   refine I0 c h (fun h => ?_) fun h => ?_
   refine T0 (Fp [(1, 1)] 2 c fun _ c => Eltr 29 ([(Rw.Term.mk p3.Op p3.W p3.N p3.Name ⟨ga2, List.length p3.Kids, gc3⟩)] : List Rw.Term) ([p3] : List D.Term) c ⟨(Ava.mk_Term p3 (.f 1)), trivial⟩ fun a2 c2 _ _ c => ?_)
   replace c := c.gm [BX b1 29 [I p2.Op, I p2.W, I p2.N, Str.val p2.Name, L ga0 p2.Kids gc1], BX b2 29 [I p3.Op, I p3.W, I p3.N, Str.val p3.Name, L ga2 p3.Kids gc3], BX b3 29 [I 0, I 0, I 0, Str.val ⟨[]⟩, L none ([] : List D.Term) 0], sl29 (L a2 ([p3] : List D.Term) c2) ([(Rw.Term.mk p3.Op p3.W p3.N p3.Name ⟨ga2, List.length p3.Kids, gc3⟩)] : List Rw.Term)]
   replace c := c.fzr 3 2
   refine Bd h fun x5 hx5 h => Cf [] c (ih0 hx5) ⟨.f 3, trivial⟩ Try.call87 fun i2 _ _ c => ?_
   refine Ess 2 [I x5.Op, I x5.W, I x5.N, Str.val x5.Name, L i2.1 x5.Kids i2.2] c fun _ c => ?_
   refine Fp [] 1 c fun _ c => E0 ?_
   cases h
   exact wp_ret (br (tr (Rg c (i2.1, i2.2) [] [4] (.cell (α := Agg 4) ⟨by kernel_rfl, by kernel_rfl⟩ (.b 2) (.tmp .nil)))))
   refine K1 (bk (tn (T0 (Fp [] 1 c fun _ c => Ess 2 [I 0, I 0, I 0, Str.val ⟨[]⟩, L none ([] : List D.Term) 0] c fun _ c => ?_))))
   refine Fp [] 1 c fun _ c => E0 ?_
   cases h
   replace c := c.nilf (α := D.Term)
   exact wp_ret (Rg c (none, 0) [] [2] (.cell (α := Agg 4) ⟨by kernel_rfl, by kernel_rfl⟩ (.b 2) (.tmp .nil)))
theorem impl_remake_ok {n : Nat} : ∀ {p0 : Int} {p1 : Int} {p2 : Int} {p3 : List D.Term} {ga0 : Option Addr} {gc1 : Nat} {r : D.Term} (h : impl_remake n p0 p1 p2 p3 = some r), Con Try.prog 87 [I p0, I p1, I p2, L ga0 p3 gc1] [] [RO (L ga0 p3 gc1) p3] fun (i : Option Addr × Nat) => ([.agg #[I r.Op, I r.W, I r.N, Str.val r.Name, L i.1 r.Kids i.2]], [], [RO (L i.1 r.Kids i.2) r.Kids]) := (impl_remake_impl_reduce_impl_reduceIf_impl_reduceCut_impl_reduceWiden_impl_reduceJoin_impl_reduceBinary_impl_reduceFirst_rec n).1
theorem impl_reduce_ok {n : Nat} : ∀ {p0 : D.Term} {ga0 : Option Addr} {gc1 : Nat} {r : D.Term} (h : impl_reduce n p0 = some r), Con Try.prog 51 [.agg #[I p0.Op, I p0.W, I p0.N, Str.val p0.Name, L ga0 p0.Kids gc1]] [] [RO (L ga0 p0.Kids gc1) p0.Kids] fun (i : Option Addr × Nat) => ([.agg #[I r.Op, I r.W, I r.N, Str.val r.Name, L i.1 r.Kids i.2]], [], [RO (L i.1 r.Kids i.2) r.Kids]) := (impl_remake_impl_reduce_impl_reduceIf_impl_reduceCut_impl_reduceWiden_impl_reduceJoin_impl_reduceBinary_impl_reduceFirst_rec n).2.1
theorem impl_reduceIf_ok {n : Nat} : ∀ {p0 : D.Term} {ga0 : Option Addr} {gc1 : Nat} {r : D.Term} (h : impl_reduceIf n p0 = some r), Con Try.prog 69 [.agg #[I p0.Op, I p0.W, I p0.N, Str.val p0.Name, L ga0 p0.Kids gc1]] [] [RO (L ga0 p0.Kids gc1) p0.Kids] fun (i : Option Addr × Nat) => ([.agg #[I r.Op, I r.W, I r.N, Str.val r.Name, L i.1 r.Kids i.2]], [], [RO (L i.1 r.Kids i.2) r.Kids]) := (impl_remake_impl_reduce_impl_reduceIf_impl_reduceCut_impl_reduceWiden_impl_reduceJoin_impl_reduceBinary_impl_reduceFirst_rec n).2.2.1
theorem impl_reduceCut_ok {n : Nat} : ∀ {p0 : D.Term} {ga0 : Option Addr} {gc1 : Nat} {r : D.Term} (h : impl_reduceCut n p0 = some r), Con Try.prog 70 [.agg #[I p0.Op, I p0.W, I p0.N, Str.val p0.Name, L ga0 p0.Kids gc1]] [] [RO (L ga0 p0.Kids gc1) p0.Kids] fun (i : Option Addr × Nat) => ([.agg #[I r.Op, I r.W, I r.N, Str.val r.Name, L i.1 r.Kids i.2]], [], [RO (L i.1 r.Kids i.2) r.Kids]) := (impl_remake_impl_reduce_impl_reduceIf_impl_reduceCut_impl_reduceWiden_impl_reduceJoin_impl_reduceBinary_impl_reduceFirst_rec n).2.2.2.1
theorem impl_reduceWiden_ok {n : Nat} : ∀ {p0 : D.Term} {ga0 : Option Addr} {gc1 : Nat} {r : D.Term} (h : impl_reduceWiden n p0 = some r), Con Try.prog 71 [.agg #[I p0.Op, I p0.W, I p0.N, Str.val p0.Name, L ga0 p0.Kids gc1]] [] [RO (L ga0 p0.Kids gc1) p0.Kids] fun (i : Option Addr × Nat) => ([.agg #[I r.Op, I r.W, I r.N, Str.val r.Name, L i.1 r.Kids i.2]], [], [RO (L i.1 r.Kids i.2) r.Kids]) := (impl_remake_impl_reduce_impl_reduceIf_impl_reduceCut_impl_reduceWiden_impl_reduceJoin_impl_reduceBinary_impl_reduceFirst_rec n).2.2.2.2.1
theorem impl_reduceJoin_ok {n : Nat} : ∀ {p0 : D.Term} {ga0 : Option Addr} {gc1 : Nat} {r : D.Term} (h : impl_reduceJoin n p0 = some r), Con Try.prog 72 [.agg #[I p0.Op, I p0.W, I p0.N, Str.val p0.Name, L ga0 p0.Kids gc1]] [] [RO (L ga0 p0.Kids gc1) p0.Kids] fun (i : Option Addr × Nat) => ([.agg #[I r.Op, I r.W, I r.N, Str.val r.Name, L i.1 r.Kids i.2]], [], [RO (L i.1 r.Kids i.2) r.Kids]) := (impl_remake_impl_reduce_impl_reduceIf_impl_reduceCut_impl_reduceWiden_impl_reduceJoin_impl_reduceBinary_impl_reduceFirst_rec n).2.2.2.2.2.1
theorem impl_reduceBinary_ok {n : Nat} : ∀ {p0 : D.Term} {ga0 : Option Addr} {gc1 : Nat} {r : D.Term} (h : impl_reduceBinary n p0 = some r), Con Try.prog 73 [.agg #[I p0.Op, I p0.W, I p0.N, Str.val p0.Name, L ga0 p0.Kids gc1]] [] [RO (L ga0 p0.Kids gc1) p0.Kids] fun (i : Option Addr × Nat) => ([.agg #[I r.Op, I r.W, I r.N, Str.val r.Name, L i.1 r.Kids i.2]], [], [RO (L i.1 r.Kids i.2) r.Kids]) := (impl_remake_impl_reduce_impl_reduceIf_impl_reduceCut_impl_reduceWiden_impl_reduceJoin_impl_reduceBinary_impl_reduceFirst_rec n).2.2.2.2.2.2.1
theorem impl_reduceFirst_ok {n : Nat} : ∀ {p0 : Int} {p1 : Int} {p2 : D.Term} {p3 : D.Term} {ga0 : Option Addr} {gc1 : Nat} {ga2 : Option Addr} {gc3 : Nat} {r : D.Term × Bool} (h : impl_reduceFirst n p0 p1 p2 p3 = some r), Con Try.prog 90 [I p0, I p1, .agg #[I p2.Op, I p2.W, I p2.N, Str.val p2.Name, L ga0 p2.Kids gc1], .agg #[I p3.Op, I p3.W, I p3.N, Str.val p3.Name, L ga2 p3.Kids gc3]] [] [RO (L ga0 p2.Kids gc1) p2.Kids, RO (L ga2 p3.Kids gc3) p3.Kids] fun (i : Option Addr × Nat) => ([.agg #[I r.1.Op, I r.1.W, I r.1.N, Str.val r.1.Name, L i.1 r.1.Kids i.2], .bool r.2], [], [RO (L i.1 r.1.Kids i.2) r.1.Kids]) := (impl_remake_impl_reduce_impl_reduceIf_impl_reduceCut_impl_reduceWiden_impl_reduceJoin_impl_reduceBinary_impl_reduceFirst_rec n).2.2.2.2.2.2.2

theorem impl_makeTerm_ok {n : Nat} {p0 : Int} {p1 : Int} {p2 : Int} {p3 : List D.Term} {ga0 : Option Addr} {gc1 : Nat} {r : D.Term × Bool} (h : impl_makeTerm n p0 p1 p2 p3 = some r) : Con Try.prog 39 [I p0, I p1, I p2, L ga0 p3 gc1] [] [RO (L ga0 p3 gc1) p3] fun (i : Option Addr × Nat) => ([.agg #[I r.1.Op, I r.1.W, I r.1.N, Str.val r.1.Name, L i.1 r.1.Kids i.2], .bool r.2], [], [RO (L i.1 r.1.Kids i.2) r.1.Kids]) := by
 unfold impl_makeTerm at h
 refine En Try.func39 rfl Try.ntmps39 fun _ fr w c => ?_
 refine T0 (Eal [I 0, I 0, I 0, Str.val ⟨[]⟩, L none ([] : List D.Term) 0] c fun b1 _ _ c => ?_)
 refine Fp [] 1 c fun _ c => E0 (T0 (Fp [] 5 c fun _ c => Eal [I 0, I 0, I 0, Str.val ⟨[]⟩, L none ([] : List D.Term) 0] c fun b2 _ _ c => ?_))
 refine Ess 1 [I p0, I p1, I p2, Str.val ⟨[]⟩, L ga0 p3 gc1] c fun _ c => ?_
 refine E0 (S0 (T0 (Fp [(0, 1)] 1 c fun _ c => Bd h fun x1 hx1 h => Ca [] c (impl_TermOk_ok hx1) ⟨.f 0, trivial⟩ Try.call38 fun _ _ _ c => ?_)))
 refine Fp [] 1 c fun _ c => E0 (I0 c h (fun h => ?_) fun h => ?_)
 refine T0 (Fp [] 1 c fun _ c => Ess 0 [I 0, I 0, I 0, Str.val ⟨[]⟩, L none ([] : List D.Term) 0] c fun _ c => ?_)
 refine Fp [] 1 c fun _ c => E0 ?_
 cases h
 replace c := c.nilf (α := D.Term)
 exact wp_ret (tr (Rg c (none, 0) [] [1] (.cell (α := Agg 4) ⟨by kernel_rfl, by kernel_rfl⟩ (.b 0) (.tmp .nil))))
 refine K0 (T0 (Fp [(0, 1)] 1 c fun _ c => Bd h fun x2 hx2 h => Cf [] c (impl_reduce_ok hx2) ⟨.f 0, trivial⟩ Try.call51 fun i1 _ _ c => ?_))
 replace c := c.gm [BX b1 29 [I 0, I 0, I 0, Str.val ⟨[]⟩, L none ([] : List D.Term) 0], BX b2 29 [I p0, I p1, I p2, Str.val ⟨[]⟩, L ga0 p3 gc1]]
 refine Ess 0 [I x2.Op, I x2.W, I x2.N, Str.val x2.Name, L i1.1 x2.Kids i1.2] c fun _ c => ?_
 refine Fp [] 1 c fun _ c => E0 ?_
 cases h
 exact wp_ret (Rg c (i1.1, i1.2) [] [1] (.cell (α := Agg 4) ⟨by kernel_rfl, by kernel_rfl⟩ (.b 0) (.tmp .nil)))

theorem impl_allOf_ok {n : Nat} {p0 : List D.Term} {ga0 : Option Addr} {gc1 : Nat} {r : D.Term × Bool} (h : impl_allOf n p0 = some r) : Con Try.prog 29 [L ga0 p0 gc1] [] [RO (L ga0 p0 gc1) p0] fun (i : Option Addr × Nat) => ([.agg #[I r.1.Op, I r.1.W, I r.1.N, Str.val r.1.Name, L i.1 r.1.Kids i.2], .bool r.2], [], [RO (L i.1 r.1.Kids i.2) r.1.Kids]) := by
 unfold impl_allOf at h
 refine En Try.func29 rfl Try.ntmps29 fun _ fr w c => ?_
 refine T0 (Eal [I 0, I 0, I 0, Str.val ⟨[]⟩, L none ([] : List D.Term) 0] c fun b1 _ _ c => ?_)
 refine Fp [] 1 c fun _ c => E0 (T0 (Bd h fun x1 hx1 h => Ca [] c (impl_ConstTerm_ok hx1) trivial Try.call37 fun _ _ _ c => ?_))
 refine Eal [I 0, I 0, I 0, Str.val ⟨[]⟩, L none ([] : List D.Term) 0] c fun b2 _ _ c => ?_
 refine Ess 1 [I x1.Op, I x1.W, I x1.N, Str.val x1.Name, L none ([] : List D.Term) 0] c fun _ c => ?_
 refine E0 (S0 (P0 [] c fun _ c => Bd h fun rl1 hit1 h => ?_))
 have hk1 := h
 refine LpR (fun s1  (_ : Unit) => ([(0, L ga0 p0 gc1), (2, B b1 0), (4, B b2 0), (11, I (len p0)), (12, I s1)], id, [])) (fun s  (_ : Unit) => ([(0, L ga0 p0 gc1), (2, B b1 0), (4, B b2 0)], id, [])) hit1 c () (c.re [0, 1] [0]) (fun s1 q1 _ _ _ c h hr1 => ?_) fun s1r _ _ _ hrl c => ?_
 refine P0 [] c fun _ c => S0 (I0 c h (fun h => ?_) fun h => ?_)
 refine K0 (S0 (wp_block (P0 [] c fun _ c => Bd h fun x2 hx2 h => ?_)))
 obtain ⟨ep1, u1, c⟩ := c.elp (.f 0) hx2
 obtain ⟨a1, c1, rfl, c⟩ := c.o_Term 2
 refine Bd h fun x3 hx3 h => Bd h fun x4 hx4 h => S0 (rZ [(2, .eq (.pointer (some ep1))), (3, .eq (.agg #[I x2.Op, I x2.W, I x2.N, Str.val x2.Name, L a1 x2.Kids c1])), (4, .eq (.bool x3)), (9, Pd.el (x4 : D.Term)), (10, Pd.fl (I x4.W)), (11, .eq (I x4.W))] [] mix c ⟨Nie c 1, Nle c 1, Ncl c (kN (impl_TermOk_ok hx3)) ⟨.f 3, trivial⟩ Try.call38, Nid c (.f 0) (gF hx4), Nfa c 9 (atN 9) fc29_1, Nlf c 10 (atN 10), trivial⟩ fun _ _ c => I0 c h (fun h => ?_) fun h => ?_)
 refine T0 (Fp [] 1 c fun _ c => Ess 0 [I 0, I 0, I 0, Str.val ⟨[]⟩, L none ([] : List D.Term) 0] c fun _ c => ?_)
 refine Fp [] 1 c fun _ c => E0 ?_
 obtain rfl := hr1 _ (Option.some.inj h).symm
 obtain rfl := Option.some.inj hk1
 replace c := c.nilf (α := D.Term)
 exact wp_ret (br (tr (tr (br (tr (Rg c (none, 0) [] [4] (.cell (α := Agg 4) ⟨by kernel_rfl, by kernel_rfl⟩ (.b 0) (.tmp .nil))))))))
 refine K1 (bk (tn (P1 [] c fun _ c => Nx h () (c.re [0, 1] [0]))))
 refine wp_exit (te (te (be ?_)))
 obtain rfl := hr1 _ (Option.some.inj h).symm
 exact tn ⟨_, (), rfl, c.re [0, 1] [0]⟩
 subst hrl
 refine S0 (P0 [] c fun _ c => ?_)
 replace c := c.nilf (α := D.Term)
 refine Bd h fun rl2 hit2 h => ?_
 have hk2 := h
 refine LpR (fun s2  (i : Option Addr × Nat) => ([(0, L ga0 p0 gc1), (2, B b1 0), (4, B b2 0), (32, I (len p0)), (33, I s2.1)], fun Γ => Γ.set 1 (BX b2 29 [I s2.2.1, I s2.2.2.1, I s2.2.2.2.1, Str.val s2.2.2.2.2.1, L i.1 s2.2.2.2.2.2 i.2]), [RO (L i.1 s2.2.2.2.2.2 i.2) s2.2.2.2.2.2])) (fun s  (i : Option Addr × Nat) => ([(2, B b1 0), (4, B b2 0)], fun Γ => Γ.set 1 (BX b2 29 [I s.1, I s.2.1, I s.2.2.1, Str.val s.2.2.2.1, L i.1 s.2.2.2.2 i.2]), [RO (L i.1 s.2.2.2.2 i.2) s.2.2.2.2])) hit2 c (none, 0) (c.re [0, 1] [0, 1, 1]) (fun s2 q2 i1 _ _ c h hr2 => ?_) fun s2r k1 _ _ hrl c => ?_
 refine P0 [] c fun _ c => S0 (I0 c h (fun h => ?_) fun h => ?_)
 refine K0 (S0 (wp_block (P0 [] c fun _ c => Bd h fun x5 hx5 h => ?_)))
 obtain ⟨ep2, u2, c⟩ := c.elp (.f 0) hx5
 obtain ⟨a2, c2, rfl, c⟩ := c.o_Term 4
 refine Bd h fun x6 hx6 h => S0 (Jn (fun i : Nat × Option Addr × Nat => ([(0, L ga0 p0 gc1), (2, B b1 0), (4, B b2 0), (7, B i.1 0), (8, .bool x6.2), (32, I (len p0)), (33, I s2.1)], fun Γ => Γ ++ [BX i.1 29 [I x6.1.Op, I x6.1.W, I x6.1.N, Str.val x6.1.Name, L i.2.1 x6.1.Kids i.2.2]], [RO (L i.2.1 x6.1.Kids i.2.2) x6.1.Kids])) c ?_ fun i9 _ _ c => ?_)
 refine As mix c fun _ c => ?_
 replace c := Cx.frs [(0, L ga0 p0 gc1), (2, B b1 0), (4, B b2 0), (6, I s2.1), (32, I (len p0)), (33, I s2.1)] c
 refine Dq (fun i : Nat × Option Addr × Nat => ([(0, L ga0 p0 gc1), (2, B b1 0), (4, B b2 0), (7, B i.1 0), (32, I (len p0)), (33, I s2.1), (36, .tuple #[.agg #[I x6.1.Op, I x6.1.W, I x6.1.N, Str.val x6.1.Name, L i.2.1 x6.1.Kids i.2.2], .bool x6.2])], fun Γ => Γ ++ [BX i.1 29 [I x6.1.Op, I x6.1.W, I x6.1.N, Str.val x6.1.Name, L i.2.1 x6.1.Kids i.2.2]], [RO (L i.2.1 x6.1.Kids i.2.2) x6.1.Kids])) #[true, true, true, true, true, true, true, true, true, false, true, true, false] (fun i => [(9, 45, .bool x6.2), (12, 8, .bool x6.2)]) c (fun i8 => ?_) fun hd6 => ?_
 obtain ⟨b9, a9, c9⟩ := i8
 refine qnE ⟨qP [], qP [], trivial⟩ fun _ _ c => ?_
 exact nN (b9, a9, c9) (c.rk [0, 1, 2] (rg 7))
 refine Dq (fun i : Nat × Option Addr × Nat => ([(0, L ga0 p0 gc1), (2, B b1 0), (4, B b2 0), (7, B i.1 0), (32, I (len p0)), (33, I s2.1), (43, .tuple #[.agg #[I x6.1.Op, I x6.1.W, I x6.1.N, Str.val x6.1.Name, L i.2.1 x6.1.Kids i.2.2], .bool x6.2])], fun Γ => Γ ++ [BX i.1 29 [I 0, I 0, I 0, Str.val ⟨[]⟩, L none ([] : List D.Term) 0]], [RO (L i.2.1 x6.1.Kids i.2.2) x6.1.Kids])) #[true, true, true, true, true, true, true, false, false, false, true, false, false] (fun i => [(7, 36, .tuple #[.agg #[I x6.1.Op, I x6.1.W, I x6.1.N, Str.val x6.1.Name, L i.2.1 x6.1.Kids i.2.2], .bool x6.2]), (8, 44, .agg #[I x6.1.Op, I x6.1.W, I x6.1.N, Str.val x6.1.Name, L i.2.1 x6.1.Kids i.2.2]), (9, 45, .bool x6.2)]) c (fun i6 => ?_) fun hd5 => ?_
 obtain ⟨b8, a8, c8⟩ := i6
 refine qn [11] ⟨qP [], qP [], qP [], trivial⟩ ⟨fun _ _ c => ?_, trivial⟩
 refine op_of _ rfl rfl ?_
 refine Ess 2 [I x6.1.Op, I x6.1.W, I x6.1.N, Str.val x6.1.Name, L a8 x6.1.Kids c8] c fun _ c => ?_
 refine E0 (nQ hd6 (b8, a8, c8) (c.rk [0, 1, 2] (rg 7)))
 refine Dq (fun i : Option Addr × Nat => ([(0, L ga0 p0 gc1), (2, B b1 0), (4, B b2 0), (32, I (len p0)), (33, I s2.1), (43, .tuple #[.agg #[I x6.1.Op, I x6.1.W, I x6.1.N, Str.val x6.1.Name, L i.1 x6.1.Kids i.2], .bool x6.2])], id, [RO (L i.1 x6.1.Kids i.2) x6.1.Kids])) #[true, true, true, true, true, true, true, false, false, false, false, false, false] (fun i => [(7, 36, .tuple #[.agg #[I x6.1.Op, I x6.1.W, I x6.1.N, Str.val x6.1.Name, L i.1 x6.1.Kids i.2], .bool x6.2]), (8, 44, .agg #[I x6.1.Op, I x6.1.W, I x6.1.N, Str.val x6.1.Name, L i.1 x6.1.Kids i.2]), (9, 45, .bool x6.2)]) c (fun i4 => ?_) fun hd3 => ?_
 obtain ⟨a5, c5⟩ := i4
 refine qn [10] ⟨qP [], qP [], qP [], trivial⟩ ⟨fun _ _ c => ?_, trivial⟩
 refine op_of _ rfl rfl ?_
 refine Eal [I 0, I 0, I 0, Str.val ⟨[]⟩, L none ([] : List D.Term) 0] c fun b7 _ _ c => ?_
 refine E0 (nQ hd5 (b7, a5, c5) (c.rk [0, 1, 2] (rg 7)))
 refine Dq (fun i : Nat × Option Addr × Nat × List Rw.Term => ([(0, L ga0 p0 gc1), (2, B b1 0), (4, B b2 0), (7, B i.1 0), (32, I (len p0)), (33, I s2.1), (42, L i.2.1 ([(D.Term.mk s2.2.1 s2.2.2.1 s2.2.2.2.1 s2.2.2.2.2.1 s2.2.2.2.2.2), x5] : List D.Term) i.2.2.1)], fun Γ => Γ ++ [BX i.1 29 [I 0, I 0, I 0, Str.val ⟨[]⟩, L none ([] : List D.Term) 0], sl29 (L i.2.1 ([(D.Term.mk s2.2.1 s2.2.2.1 s2.2.2.2.1 s2.2.2.2.2.1 s2.2.2.2.2.2), x5] : List D.Term) i.2.2.1) (i.2.2.2)], [CS (i.2.2.2) ([(D.Term.mk s2.2.1 s2.2.2.1 s2.2.2.2.1 s2.2.2.2.2.1 s2.2.2.2.2.2), x5] : List D.Term)])) #[true, true, true, true, true, true, false, false, false, false, true, false, false] (fun i => []) c (fun i5 => ?_) fun hd4 => ?_
 obtain ⟨b6, a6, c6, rs2⟩ := i5
 refine qn [6] trivial ⟨fun _ _ c => ?_, trivial⟩
 refine op_of _ rfl rfl ?_
 replace c := c.fzr 3 6
 refine Cf [] c (impl_makeTerm_ok hx6) ⟨.f 7, trivial⟩ Try.call39 fun i7 _ _ c => ?_
 refine E0 (nQ hd5 (b6, i7.1, i7.2) (c.rk [0, 1, 2] [0, 1, 2, 3, 4, 5, 8]))
 refine Dq (fun i : Option Addr × Nat × List Rw.Term => ([(0, L ga0 p0 gc1), (2, B b1 0), (4, B b2 0), (32, I (len p0)), (33, I s2.1), (42, L i.1 ([(D.Term.mk s2.2.1 s2.2.2.1 s2.2.2.2.1 s2.2.2.2.2.1 s2.2.2.2.2.2), x5] : List D.Term) i.2.1)], fun Γ => Γ ++ [sl29 (L i.1 ([(D.Term.mk s2.2.1 s2.2.2.1 s2.2.2.2.1 s2.2.2.2.2.1 s2.2.2.2.2.2), x5] : List D.Term) i.2.1) (i.2.2)], [CS (i.2.2) ([(D.Term.mk s2.2.1 s2.2.2.1 s2.2.2.2.1 s2.2.2.2.2.1 s2.2.2.2.2.2), x5] : List D.Term)])) #[true, true, true, true, true, true, false, false, false, false, false, false, false] (fun i => []) c (fun i2 => ?_) fun hd1 => ?_
 obtain ⟨a4, c4, rs1⟩ := i2
 refine qn [6, 10] trivial ⟨fun _ _ c => ?_, fun _ _ c => ?_, trivial⟩
 refine op_of _ rfl rfl ?_
 replace c := c.fzr 2 6
 refine Cf [] c (impl_makeTerm_ok hx6) ⟨.f 7, trivial⟩ Try.call39 fun i3 _ _ c => ?_
 refine E0 (nQ hd3 (i3.1, i3.2) (c.rk [0, 1] [0, 1, 2, 3, 4, 5, 8]))
 refine op_of _ rfl rfl ?_
 refine Eal [I 0, I 0, I 0, Str.val ⟨[]⟩, L none ([] : List D.Term) 0] c fun b5 _ _ c => ?_
 refine E0 (nQ hd4 (b5, a4, c4, rs1) (c.rk [0, 1, 3, 2] (rg 7)))
 refine Dq (fun i : Nat => ([(0, L ga0 p0 gc1), (2, B b1 0), (4, B b2 0), (6, I s2.1), (7, B i 0), (32, I (len p0)), (33, I s2.1)], fun Γ => Γ ++ [BX i 29 [I 0, I 0, I 0, Str.val ⟨[]⟩, L none ([] : List D.Term) 0]], [])) #[false, false, false, false, false, false, false, false, false, false, true, false, false] (fun i => [(0, 37, .agg #[I s2.2.1, I s2.2.2.1, I s2.2.2.2.1, Str.val s2.2.2.2.2.1, L i1.1 s2.2.2.2.2.2 i1.2]), (1, 38, L ga0 p0 gc1), (2, 39, I s2.1), (3, 40, .pointer (some ep2)), (4, 41, .agg #[I x5.Op, I x5.W, I x5.N, Str.val x5.Name, L a2 x5.Kids c2])]) c (fun b4 => ?_) fun hd2 => ?_
 refine qn [5] ⟨qP [(0, 1)], qP [], qP [], qI 3, qL 3, trivial⟩ ⟨fun _ _ c => ?_, trivial⟩
 refine op_of _ rfl rfl ?_
 refine Eltr 29 ([(Rw.Term.mk s2.2.1 s2.2.2.1 s2.2.2.2.1 s2.2.2.2.2.1 ⟨i1.1, List.length s2.2.2.2.2.2, i1.2⟩), (Rw.Term.mk x5.Op x5.W x5.N x5.Name ⟨a2, List.length x5.Kids, c2⟩)] : List Rw.Term) ([(D.Term.mk s2.2.1 s2.2.2.1 s2.2.2.2.1 s2.2.2.2.2.1 s2.2.2.2.2.2), x5] : List D.Term) c ⟨(Ava.mk_Term (D.Term.mk s2.2.1 s2.2.2.1 s2.2.2.2.1 s2.2.2.2.2.1 s2.2.2.2.2.2) (.f 2)), (Ava.mk_Term x5 (.f 5)), trivial⟩ fun a7 c7 _ _ c => ?_
 refine E0 (nQ hd4 (b4, a7, c7, ([(Rw.Term.mk s2.2.1 s2.2.2.1 s2.2.2.2.1 s2.2.2.2.2.1 ⟨i1.1, List.length s2.2.2.2.2.2, i1.2⟩), (Rw.Term.mk x5.Op x5.W x5.N x5.Name ⟨a2, List.length x5.Kids, c2⟩)] : List Rw.Term)) (c.rk (rg 4) (rg 7)))
 refine q0 (qs := [(0, 37, .agg #[I s2.2.1, I s2.2.2.1, I s2.2.2.2.1, Str.val s2.2.2.2.2.1, L i1.1 s2.2.2.2.2.2 i1.2]), (1, 38, L ga0 p0 gc1), (2, 39, I s2.1), (3, 40, .pointer (some ep2)), (4, 41, .agg #[I x5.Op, I x5.W, I x5.N, Str.val x5.Name, L a2 x5.Kids c2])]) c (qn [5, 10] ⟨qP [(0, 1)], qP [], qP [], qI 3, qL 3, trivial⟩ ⟨fun _ _ c => ?_, fun _ _ c => ?_, trivial⟩)
 refine op_of _ rfl rfl ?_
 refine Eltr 29 ([(Rw.Term.mk s2.2.1 s2.2.2.1 s2.2.2.2.1 s2.2.2.2.2.1 ⟨i1.1, List.length s2.2.2.2.2.2, i1.2⟩), (Rw.Term.mk x5.Op x5.W x5.N x5.Name ⟨a2, List.length x5.Kids, c2⟩)] : List Rw.Term) ([(D.Term.mk s2.2.1 s2.2.2.1 s2.2.2.2.1 s2.2.2.2.2.1 s2.2.2.2.2.2), x5] : List D.Term) c ⟨(Ava.mk_Term (D.Term.mk s2.2.1 s2.2.2.1 s2.2.2.2.1 s2.2.2.2.2.1 s2.2.2.2.2.2) (.f 2)), (Ava.mk_Term x5 (.f 5)), trivial⟩ fun a3 c3 _ _ c => ?_
 refine E0 (nQ hd1 (a3, c3, ([(Rw.Term.mk s2.2.1 s2.2.2.1 s2.2.2.2.1 s2.2.2.2.2.1 ⟨i1.1, List.length s2.2.2.2.2.2, i1.2⟩), (Rw.Term.mk x5.Op x5.W x5.N x5.Name ⟨a2, List.length x5.Kids, c2⟩)] : List Rw.Term)) (c.rk [0, 1, 2] (rg 7)))
 refine op_of _ rfl rfl ?_
 refine Eal [I 0, I 0, I 0, Str.val ⟨[]⟩, L none ([] : List D.Term) 0] c fun b3 _ _ c => ?_
 refine E0 (nQ hd2 (b3) (c.rk [0, 1, 2] (rg 6)))
 obtain ⟨b10, a10, c10⟩ := i9
 refine S0 (P0 [] c fun _ c => I0 c h (fun h => ?_) fun h => ?_)
 refine T0 (Fp [] 1 c fun _ c => Ess 0 [I 0, I 0, I 0, Str.val ⟨[]⟩, L none ([] : List D.Term) 0] c fun _ c => ?_)
 refine Fp [] 1 c fun _ c => E0 ?_
 obtain rfl := hr2 _ (Option.some.inj h).symm
 obtain rfl := Option.some.inj hk2
 replace c := c.nilf (α := D.Term)
 exact wp_ret (tr (br (tr (tr (br (tr (Rg c (none, 0) [] [7] (.cell (α := Agg 4) ⟨by kernel_rfl, by kernel_rfl⟩ (.b 0) (.tmp .nil)))))))))
 refine K0 (T1 (Fp [(0, 2)] 1 c fun _ c => Ess 1 [I x6.1.Op, I x6.1.W, I x6.1.N, Str.val x6.1.Name, L a10 x6.1.Kids c10] c fun _ c => ?_))
 refine E1 (bk (tn (P1 [] c fun _ c => Nx h (a10, c10) (c.re [0, 1] [0, 1, 6]))))
 refine wp_exit (te (te (be ?_)))
 obtain rfl := hr2 _ (Option.some.inj h).symm
 exact tn ⟨_, (i1.1, i1.2), rfl, c.re [0, 1] [0, 1, 2]⟩
 subst hrl
 refine T0 (Fp [(0, 1)] 1 c fun _ c => Ess 0 [I s2r.1, I s2r.2.1, I s2r.2.2.1, Str.val s2r.2.2.2.1, L k1.1 s2r.2.2.2.2 k1.2] c fun _ c => ?_)
 refine Fp [] 1 c fun _ c => E0 ?_
 cases h
 exact wp_ret (Rg c (k1.1, k1.2) [] [2] (.cell (α := Agg 4) ⟨by kernel_rfl, by kernel_rfl⟩ (.b 0) (.tmp .nil)))

theorem impl_copyTerms_impl_copyTerm_rec (n : Nat) : (∀ {p0 : List D.Term} {ga0 : Option Addr} {gc1 : Nat} {r : (List D.Term)} (h : impl_copyTerms n p0 = some r), Con Try.prog 40 [L ga0 p0 gc1] [] [RO (L ga0 p0 gc1) p0] fun (i : Option Addr × Nat) => ([L i.1 r i.2], [OD (ownT 29) 29 (L i.1 r i.2) r], [])) ∧
    (∀ {p0 : D.Term} {ga0 : Option Addr} {gc1 : Nat} {r : D.Term} (h : impl_copyTerm n p0 = some r), Con Try.prog 30 [.agg #[I p0.Op, I p0.W, I p0.N, Str.val p0.Name, L ga0 p0.Kids gc1]] [] [RO (L ga0 p0.Kids gc1) p0.Kids] fun (i : Option Addr × Nat) => ([.agg #[I r.Op, I r.W, I r.N, Str.val r.Name, L i.1 r.Kids i.2]], [OD (ownT 29) 29 (L i.1 r.Kids i.2) r.Kids], [])) := by
 induction n with
 | zero => exact ⟨by intro p0 ga0 gc1 r h; simp [impl_copyTerms] at h, by intro p0 ga0 gc1 r h; simp [impl_copyTerm] at h⟩
 | succ n ih =>
 obtain ⟨ih0, ih1⟩ := ih
 refine ⟨?_, ?_⟩
 · intro p0 ga0 gc1 r h
   rw [impl_copyTerms] at h
   refine En Try.func40 rfl Try.ntmps40 fun _ fr w c => ?_
   refine P0 [] c fun _ c => S0 (P0 [] c fun _ c => I0 c h (fun h => ?_) fun h => ?_)
   refine P0 [] c fun _ c => ?_
   replace c := c.nilo (ownT 29) 29
   cases h
   exact wp_ret (tr (Rt c (none, 0) [0] []))
   refine K0 (T0 (Fp [] 2 c fun _ c => Bd h fun x1 hx1 h => Emkd 29 (⟨0, 0, 0, ⟨[]⟩, ⟨none, 0, 0⟩⟩ : Rw.Term) (fun w => ownT_zero 29 w) c hx1 fun a1 c1 _ _ c => ?_))
   refine Fp [] 1 c fun _ c => E0 (S0 (P0 [] c fun _ c => Bd h fun rl1 hit1 h => Lp (fun s1  (i : List Rw.Term) => ([(0, L ga0 p0 gc1), (3, L a1 x1 c1), (12, I (len p0)), (13, I s1.1)], fun Γ => (Γ.set 0 (sl29 (L a1 x1 c1) (i))).set 1 (HP.all (ownT 29) (i) s1.2), [])) (fun  (i : List Rw.Term) => ([(3, L a1 x1 c1)], fun Γ => (Γ.set 0 (sl29 (L a1 x1 c1) (i))).set 1 (HP.all (ownT 29) (i) rl1), [])) hit1 c ((List.replicate (List.length x1) (⟨0, 0, 0, ⟨[]⟩, ⟨none, 0, 0⟩⟩ : Rw.Term))) (c.re [0, 1] [0]) (fun s1 q1 i1 _ _ c h hr1 => ?_) fun k1 _ _ c => ?_))
   refine P0 [] c fun _ c => S0 (I0 c h (fun h => ?_) fun h => ?_)
   refine K0 (S0 (wp_block (P0 [] c fun _ c => T1 (Fp [] 4 c fun _ c => Bd h fun x2 hx2 h => Eem c (.f 0) hx2 fun _ u1 _ c => ?_))))
   obtain ⟨a2, c2, rfl, c⟩ := c.o_Term 1
   refine Bd h fun x3 hx3 h => Ca [] c (ih1 hx3) ⟨.f 2, trivial⟩ Try.call30 fun i2 _ _ c => ?_
   replace c := c.pack (H := ownT 29 (Rw.Term.mk x3.Op x3.W x3.N x3.Name ⟨i2.1, List.length x3.Kids, i2.2⟩) x3) [OD (ownT 29) 29 (L i2.1 x3.Kids i2.2) x3.Kids] [2] (fun A h => ownT_mk (x := x3) (Sep.sole h))
   refine Bd h fun x4 hx4 h => Esetd 0 1 2 c hx4 fun _ _ _ c => ?_
   refine E1 (bk (tn (P1 [] c fun _ c => Nx h ((List.set i1 (s1.1).toNat (Rw.Term.mk x3.Op x3.W x3.N x3.Name ⟨i2.1, List.length x3.Kids, i2.2⟩))) (c.re [0, 1] [0]))))
   refine wp_exit (te (te (be ?_)))
   obtain rfl := hr1 _ (Option.some.inj h).symm
   exact tn ⟨(i1), c.re [0, 1] [0]⟩
   refine P0 [] c fun _ c => ?_
   replace c := c.odc 0 1
   obtain rfl := sj h
   obtain ⟨he1, c⟩ := c.releno 0
   replace c := c.eqs (v := L a1 x1 c1) (u := L a1 rl1 c1) 2 (by simp only [L, he1])
   exact wp_ret (Rt c (a1, c1) [0] [])
 · intro p0 ga0 gc1 r h
   rw [impl_copyTerm] at h
   refine En Try.func30 rfl Try.ntmps30 fun _ fr w c => ?_
   refine T0 (Ebx [I p0.Op, I p0.W, I p0.N, Str.val p0.Name, L ga0 p0.Kids gc1] c fun b1 _ _ c => ?_)
   refine Eal [I 0, I 0, I 0, Str.val ⟨[]⟩, L none ([] : List D.Term) 0] c fun b2 _ _ c => ?_
   refine E0 (T0 (Fp [(0, 0)] 1 c fun _ c => Eal [I 0, I 0, I 0, Str.val ⟨[]⟩, L none ([] : List D.Term) 0] c fun b3 _ _ c => ?_))
   refine Ess 2 [I p0.Op, I p0.W, I p0.N, Str.val p0.Name, L ga0 p0.Kids gc1] c fun _ c => ?_
   refine E0 (T0 (Fp [(1, 0)] 2 c fun _ c => Bd h fun x1 hx1 h => Ca [] c (ih0 hx1) ⟨.f 0, trivial⟩ Try.call40 fun i1 _ _ c => ?_))
   refine Fp [] 1 c fun _ c => ?_
   replace c := c.gm [BX b1 29 [I p0.Op, I p0.W, I p0.N, Str.val p0.Name, L ga0 p0.Kids gc1], BX b2 29 [I 0, I 0, I 0, Str.val ⟨[]⟩, L none ([] : List D.Term) 0], BX b3 29 [I p0.Op, I p0.W, I p0.N, Str.val p0.Name, L ga0 p0.Kids gc1], OD (ownT 29) 29 (L i1.1 x1 i1.2) x1]
   refine Esb 2 4 (L i1.1 x1 i1.2) c fun _ c => ?_
   refine E0 (T0 (Fp [(0, 2)] 1 c fun _ c => Ess 1 [I p0.Op, I p0.W, I p0.N, Str.val p0.Name, L i1.1 x1 i1.2] c fun _ c => ?_))
   refine E0 ?_
   cases h
   exact wp_ret (Rg c (i1.1, i1.2) [3] [] (.cell (α := Agg 4) ⟨by kernel_rfl, by kernel_rfl⟩ (.b 1) .nil))
theorem impl_copyTerms_ok {n : Nat} : ∀ {p0 : List D.Term} {ga0 : Option Addr} {gc1 : Nat} {r : (List D.Term)} (h : impl_copyTerms n p0 = some r), Con Try.prog 40 [L ga0 p0 gc1] [] [RO (L ga0 p0 gc1) p0] fun (i : Option Addr × Nat) => ([L i.1 r i.2], [OD (ownT 29) 29 (L i.1 r i.2) r], []) := (impl_copyTerms_impl_copyTerm_rec n).1
theorem impl_copyTerm_ok {n : Nat} : ∀ {p0 : D.Term} {ga0 : Option Addr} {gc1 : Nat} {r : D.Term} (h : impl_copyTerm n p0 = some r), Con Try.prog 30 [.agg #[I p0.Op, I p0.W, I p0.N, Str.val p0.Name, L ga0 p0.Kids gc1]] [] [RO (L ga0 p0.Kids gc1) p0.Kids] fun (i : Option Addr × Nat) => ([.agg #[I r.Op, I r.W, I r.N, Str.val r.Name, L i.1 r.Kids i.2]], [OD (ownT 29) 29 (L i.1 r.Kids i.2) r.Kids], []) := (impl_copyTerms_impl_copyTerm_rec n).2

theorem impl_AllOf_ok {n : Nat} {p0 : List D.Term} {ga0 : Option Addr} {gc1 : Nat} {r : D.Term × Bool} (h : impl_AllOf n p0 = some r) : Con Try.prog 18 [L ga0 p0 gc1] [] [RO (L ga0 p0 gc1) p0] fun (i : Option Addr × Nat) => ([.agg #[I r.1.Op, I r.1.W, I r.1.N, Str.val r.1.Name, L i.1 r.1.Kids i.2], .bool r.2], [OD (ownT 29) 29 (L i.1 r.1.Kids i.2) r.1.Kids], []) := by
 unfold impl_AllOf at h
 refine En Try.func18 rfl Try.ntmps18 fun _ fr w c => ?_
 refine T0 (Eal [I 0, I 0, I 0, Str.val ⟨[]⟩, L none ([] : List D.Term) 0] c fun b1 _ _ c => ?_)
 refine Fp [] 1 c fun _ c => E0 (T0 (Fp [] 1 c fun _ c => Bd h fun x1 hx1 h => Cf [] c (impl_allOf_ok hx1) ⟨.f 0, trivial⟩ Try.call29 fun i1 _ _ c => ?_))
 refine Fp [] 3 c fun _ c => Eal [I 0, I 0, I 0, Str.val ⟨[]⟩, L none ([] : List D.Term) 0] c fun b2 _ _ c => ?_
 refine Ess 1 [I x1.1.Op, I x1.1.W, I x1.1.N, Str.val x1.1.Name, L i1.1 x1.1.Kids i1.2] c fun _ c => ?_
 refine Fp [] 1 c fun _ c => E0 (S0 (P0 [] c fun _ c => I0 c h (fun h => ?_) fun h => ?_))
 refine T0 (Fp [] 1 c fun _ c => Ess 0 [I 0, I 0, I 0, Str.val ⟨[]⟩, L none ([] : List D.Term) 0] c fun _ c => ?_)
 refine Fp [] 1 c fun _ c => E0 ?_
 replace c := c.nilo (ownT 29) 29
 cases h
 exact wp_ret (tr (Rg c (none, 0) [2] [] (.cell (α := Agg 4) ⟨by kernel_rfl, by kernel_rfl⟩ (.b 0) (.tmp .nil))))
 refine K0 (T0 (Fp [(0, 1)] 1 c fun _ c => Bd h fun x2 hx2 h => Ca [] c (impl_copyTerm_ok hx2) ⟨.f 1, trivial⟩ Try.call30 fun i2 _ _ c => ?_))
 replace c := c.gm [BX b1 29 [I 0, I 0, I 0, Str.val ⟨[]⟩, L none ([] : List D.Term) 0], BX b2 29 [I x1.1.Op, I x1.1.W, I x1.1.N, Str.val x1.1.Name, L i1.1 x1.1.Kids i1.2], OD (ownT 29) 29 (L i2.1 x2.Kids i2.2) x2.Kids]
 refine Ess 0 [I x2.Op, I x2.W, I x2.N, Str.val x2.Name, L i2.1 x2.Kids i2.2] c fun _ c => ?_
 refine Fp [] 1 c fun _ c => E0 ?_
 cases h
 exact wp_ret (Rg c (i2.1, i2.2) [2] [] (.cell (α := Agg 4) ⟨by kernel_rfl, by kernel_rfl⟩ (.b 0) (.tmp .nil)))

theorem impl_PathTerm_ok {n : Nat} {p0 : D.Path} {ga0 : Option Addr} {gc1 : Nat} {ga2 : Option Addr} {gc3 : Nat} {ga4 : Option Addr} {gc5 : Nat} {ga6 : Option Addr} {gc7 : Nat} {ga8 : Option Addr} {gc9 : Nat} {ga10 : Option Addr} {gc11 : Nat} {r : D.Term × Bool} (h : impl_PathTerm n p0 = some r) : Con Try.prog 7 [.agg #[I p0.Pc, L ga0 p0.Regs gc1, L ga2 p0.Mem gc3, L ga4 p0.Stack gc5, I p0.In, L ga6 p0.Out gc7, I p0.Code, I p0.Steps, L ga8 p0.Cond gc9, L ga10 p0.Turns gc11]] [] [RO (L ga0 p0.Regs gc1) p0.Regs, RO (L ga2 p0.Mem gc3) p0.Mem, RO (L ga4 p0.Stack gc5) p0.Stack, RO (L ga6 p0.Out gc7) p0.Out, RO (L ga8 p0.Cond gc9) p0.Cond, RO (L ga10 p0.Turns gc11) p0.Turns] fun (i : Option Addr × Nat) => ([.agg #[I r.1.Op, I r.1.W, I r.1.N, Str.val r.1.Name, L i.1 r.1.Kids i.2], .bool r.2], [OD (ownT 29) 29 (L i.1 r.1.Kids i.2) r.1.Kids], []) := by
 unfold impl_PathTerm at h
 refine En Try.func7 rfl Try.ntmps7 fun _ fr w c => ?_
 refine T0 (Ebx [I p0.Pc, L ga0 p0.Regs gc1, L ga2 p0.Mem gc3, L ga4 p0.Stack gc5, I p0.In, L ga6 p0.Out gc7, I p0.Code, I p0.Steps, L ga8 p0.Cond gc9, L ga10 p0.Turns gc11] c fun b1 _ _ c => ?_)
 refine Eal [I 0, I 0, I 0, Str.val ⟨[]⟩, L none ([] : List D.Term) 0] c fun b2 _ _ c => ?_
 refine Fp [] 1 c fun _ c => E0 (T0 (Fp [(1, 0)] 2 c fun _ c => Bd h fun x1 hx1 h => Ca [] c (impl_AllOf_ok hx1) ⟨.f 4, trivial⟩ Try.call18 fun i1 _ _ c => ?_))
 refine Fp [] 2 c fun _ c => Ess 1 [I x1.1.Op, I x1.1.W, I x1.1.N, Str.val x1.1.Name, L i1.1 x1.1.Kids i1.2] c fun _ c => ?_
 refine Fp [] 1 c fun _ c => E0 ?_
 cases h
 exact wp_ret (Rg c (i1.1, i1.2) [2] [] (.cell (α := Agg 4) ⟨by kernel_rfl, by kernel_rfl⟩ (.b 1) (.tmp .nil)))

theorem laws_eqTermS_laws_eqTerm_rec (n : Nat) : (∀ {p0 : List D.Term} {p1 : List D.Term} {ga0 : Option Addr} {gc1 : Nat} {ga2 : Option Addr} {gc3 : Nat} {r : Bool} (h : laws_eqTermS n p0 p1 = some r), Con Try.prog 19 [L ga0 p0 gc1, L ga2 p1 gc3] [] [RO (L ga0 p0 gc1) p0, RO (L ga2 p1 gc3) p1] fun (_ : Unit) => ([.bool r], [], [])) ∧
    (∀ {p0 : D.Term} {p1 : D.Term} {ga0 : Option Addr} {gc1 : Nat} {ga2 : Option Addr} {gc3 : Nat} {r : Bool} (h : laws_eqTerm n p0 p1 = some r), Con Try.prog 8 [.agg #[I p0.Op, I p0.W, I p0.N, Str.val p0.Name, L ga0 p0.Kids gc1], .agg #[I p1.Op, I p1.W, I p1.N, Str.val p1.Name, L ga2 p1.Kids gc3]] [] [RO (L ga0 p0.Kids gc1) p0.Kids, RO (L ga2 p1.Kids gc3) p1.Kids] fun (_ : Unit) => ([.bool r], [], [])) := by
 induction n with
 | zero => exact ⟨by intro p0 p1 ga0 gc1 ga2 gc3 r h; simp [laws_eqTermS] at h, by intro p0 p1 ga0 gc1 ga2 gc3 r h; simp [laws_eqTerm] at h⟩
 | succ n ih =>
 obtain ⟨ih0, ih1⟩ := ih
 refine ⟨?_, ?_⟩
 · intro p0 p1 ga0 gc1 ga2 gc3 r h
   rw [laws_eqTermS] at h
   refine En Try.func19 rfl Try.ntmps19 fun _ fr w c => ?_
   refine P0 [] c fun _ c => S0 (P0 [] c fun _ c => I0 c h (fun h => ?_) fun h => ?_)
   refine P0 [] c fun _ c => ?_
   obtain rfl := sj h
   exact wp_ret (tr (Rt c () [] []))
   refine K0 (S0 (P0 [] c fun _ c => Bd h fun rl1 hit1 h => ?_))
   have hk1 := h
   refine LpR (fun s1  (_ : Unit) => ([(0, L ga0 p0 gc1), (1, L ga2 p1 gc3), (5, I s1)], id, [])) (fun s  (_ : Unit) => ([], id, [])) hit1 c () (c.re [] [0, 1]) (fun s1 q1 _ _ _ c h hr1 => ?_) fun s1r _ _ _ hrl c => ?_
   refine S0 (P0 [] c fun _ c => I0 c h (fun h => ?_) fun h => ?_)
   refine K0 (S0 (wp_block (Bd h fun x1 hx1 h => ?_)))
   obtain ⟨ep1, u1, c⟩ := c.elp (.f 0) hx1
   obtain ⟨a1, c1, rfl, c⟩ := c.o_Term 3
   refine Bd h fun x2 hx2 h => ?_
   obtain ⟨ep2, u2, c⟩ := c.elp (.f 1) hx2
   obtain ⟨a2, c2, rfl, c⟩ := c.o_Term 6
   refine Bd h fun x3 hx3 h => S0 (rZ [(2, .eq (.pointer (some ep1))), (3, .eq (.agg #[I x1.Op, I x1.W, I x1.N, Str.val x1.Name, L a1 x1.Kids c1])), (6, .eq (.pointer (some ep2))), (7, .eq (.agg #[I x2.Op, I x2.W, I x2.N, Str.val x2.Name, L a2 x2.Kids c2])), (8, .eq (.bool x3))] [] mix c ⟨Nie c 2, Nle c 2, Nie c 5, Nle c 5, Ncl c (kN (ih1 hx3)) ⟨.f 4, .f 7, trivial⟩ Try.call8, trivial⟩ fun _ _ c => I0 c h (fun h => ?_) fun h => ?_)
   refine P0 [] c fun _ c => ?_
   obtain rfl := hr1 _ (Option.some.inj h).symm
   obtain rfl := Option.some.inj hk1
   exact wp_ret (br (tr (tr (br (tr (Rt c () [] []))))))
   refine K1 (bk (tn (P1 [] c fun _ c => Nx h () (c.re [] [0, 1]))))
   refine wp_exit (te (te (be ?_)))
   obtain rfl := hr1 _ (Option.some.inj h).symm
   exact tn ⟨_, (), rfl, c.re [] [0, 1]⟩
   subst hrl
   refine P0 [] c fun _ c => ?_
   obtain rfl := sj h
   exact wp_ret (Rt c () [] [])
 · intro p0 p1 ga0 gc1 ga2 gc3 r h
   rw [laws_eqTerm] at h
   refine En Try.func8 rfl Try.ntmps8 fun _ fr w c => ?_
   refine T0 (Ebx [I p0.Op, I p0.W, I p0.N, Str.val p0.Name, L ga0 p0.Kids gc1] c fun b1 _ _ c => ?_)
   refine Ebx [I p1.Op, I p1.W, I p1.N, Str.val p1.Name, L ga2 p1.Kids gc3] c fun b2 _ _ c => ?_
   refine Fp [] 1 c fun _ c => E0 (S0 (P0 [(1, 0), (3, 1)] c fun _ c => I0 c h (fun h => ?_) fun h => ?_))
   refine P0 [] c fun _ c => ?_
   obtain rfl := sj h
   exact wp_ret (tr (Rt c () [] []))
   refine K0 (S0 (P0 [(1, 0), (3, 1)] c fun _ c => I0 c h (fun h => ?_) fun h => ?_))
   refine P0 [] c fun _ c => ?_
   obtain rfl := sj h
   exact wp_ret (tr (Rt c () [] []))
   refine K0 (S0 (P0 [(1, 0), (3, 1)] c fun _ c => I0 c h (fun h => ?_) fun h => ?_))
   refine P0 [] c fun _ c => ?_
   obtain rfl := sj h
   exact wp_ret (tr (Rt c () [] []))
   refine K0 (S0 (P0 [(1, 0), (3, 1)] c fun _ c => I0 c h (fun h => ?_) fun h => ?_))
   refine P0 [] c fun _ c => ?_
   obtain rfl := sj h
   exact wp_ret (tr (Rt c () [] []))
   refine K0 (S0 (T0 (Fp [(1, 0), (3, 1)] 4 c fun _ c => Bd h fun x1 hx1 h => Ca [] c (ih0 hx1) ⟨.f 0, .f 1, trivial⟩ Try.call19 fun _ _ _ c => ?_)))
   refine Fp [] 1 c fun _ c => E0 (I0 c h (fun h => ?_) fun h => ?_)
   refine P0 [] c fun _ c => ?_
   obtain rfl := sj h
   exact wp_ret (tr (Rt c () [] []))
   refine K0 (P0 [] c fun _ c => ?_)
   obtain rfl := sj h
   exact wp_ret (Rt c () [] [])
theorem laws_eqTermS_ok {n : Nat} : ∀ {p0 : List D.Term} {p1 : List D.Term} {ga0 : Option Addr} {gc1 : Nat} {ga2 : Option Addr} {gc3 : Nat} {r : Bool} (h : laws_eqTermS n p0 p1 = some r), Con Try.prog 19 [L ga0 p0 gc1, L ga2 p1 gc3] [] [RO (L ga0 p0 gc1) p0, RO (L ga2 p1 gc3) p1] fun (_ : Unit) => ([.bool r], [], []) := (laws_eqTermS_laws_eqTerm_rec n).1
theorem laws_eqTerm_ok {n : Nat} : ∀ {p0 : D.Term} {p1 : D.Term} {ga0 : Option Addr} {gc1 : Nat} {ga2 : Option Addr} {gc3 : Nat} {r : Bool} (h : laws_eqTerm n p0 p1 = some r), Con Try.prog 8 [.agg #[I p0.Op, I p0.W, I p0.N, Str.val p0.Name, L ga0 p0.Kids gc1], .agg #[I p1.Op, I p1.W, I p1.N, Str.val p1.Name, L ga2 p1.Kids gc3]] [] [RO (L ga0 p0.Kids gc1) p0.Kids, RO (L ga2 p1.Kids gc3) p1.Kids] fun (_ : Unit) => ([.bool r], [], []) := (laws_eqTermS_laws_eqTerm_rec n).2

theorem laws_eqIntS_ok {n : Nat} {p0 : List Int} {p1 : List Int} {ga0 : Option Addr} {gc1 : Nat} {ga2 : Option Addr} {gc3 : Nat} {r : Bool} (h : laws_eqIntS n p0 p1 = some r) : Con Try.prog 20 [L ga0 p0 gc1, L ga2 p1 gc3] [] [RO (L ga0 p0 gc1) p0, RO (L ga2 p1 gc3) p1] fun (_ : Unit) => ([.bool r], [], []) := by
 unfold laws_eqIntS at h
 refine En Try.func20 rfl Try.ntmps20 fun _ fr w c => ?_
 refine P0 [] c fun _ c => S0 (P0 [] c fun _ c => I0 c h (fun h => ?_) fun h => ?_)
 refine P0 [] c fun _ c => ?_
 obtain rfl := sj h
 exact wp_ret (tr (Rt c () [] []))
 refine K0 (S0 (P0 [] c fun _ c => Bd h fun rl1 hit1 h => ?_))
 have hk1 := h
 refine LpR (fun s1  (_ : Unit) => ([(0, L ga0 p0 gc1), (1, L ga2 p1 gc3), (5, I s1)], id, [])) (fun s  (_ : Unit) => ([], id, [])) hit1 c () (c.re [] [0, 1]) (fun s1 q1 _ _ _ c h hr1 => ?_) fun s1r _ _ _ hrl c => ?_
 refine S0 (P0 [] c fun _ c => I0 c h (fun h => ?_) fun h => ?_)
 refine K0 (S0 (wp_block (Bd h fun x1 hx1 h => Bd h fun x2 hx2 h => S0 (rZ [(2, Pd.el (x1 : Int)), (3, .eq (I x1)), (6, Pd.el (x2 : Int)), (7, .eq (I x2))] [] mix c ⟨Nid c (.f 0) (kN hx1), Nld c 2 (q := x1) (atN 2), Nid c (.f 1) (kN hx2), Nld c 6 (q := x2) (atN 6), trivial⟩ fun _ _ c => I0 c h (fun h => ?_) fun h => ?_))))
 refine P0 [] c fun _ c => ?_
 obtain rfl := hr1 _ (Option.some.inj h).symm
 obtain rfl := Option.some.inj hk1
 exact wp_ret (br (tr (tr (br (tr (Rt c () [] []))))))
 refine K1 (bk (tn (P1 [] c fun _ c => Nx h () (c.re [] [0, 1]))))
 refine wp_exit (te (te (be ?_)))
 obtain rfl := hr1 _ (Option.some.inj h).symm
 exact tn ⟨_, (), rfl, c.re [] [0, 1]⟩
 subst hrl
 refine P0 [] c fun _ c => ?_
 obtain rfl := sj h
 exact wp_ret (Rt c () [] [])

theorem laws_eqPath_ok {n : Nat} {p0 : D.Path} {p1 : D.Path} {ga0 : Option Addr} {gc1 : Nat} {ga2 : Option Addr} {gc3 : Nat} {ga4 : Option Addr} {gc5 : Nat} {ga6 : Option Addr} {gc7 : Nat} {ga8 : Option Addr} {gc9 : Nat} {ga10 : Option Addr} {gc11 : Nat} {ga12 : Option Addr} {gc13 : Nat} {ga14 : Option Addr} {gc15 : Nat} {ga16 : Option Addr} {gc17 : Nat} {ga18 : Option Addr} {gc19 : Nat} {ga20 : Option Addr} {gc21 : Nat} {ga22 : Option Addr} {gc23 : Nat} {r : Bool} (h : laws_eqPath n p0 p1 = some r) : Con Try.prog 9 [.agg #[I p0.Pc, L ga0 p0.Regs gc1, L ga2 p0.Mem gc3, L ga4 p0.Stack gc5, I p0.In, L ga6 p0.Out gc7, I p0.Code, I p0.Steps, L ga8 p0.Cond gc9, L ga10 p0.Turns gc11], .agg #[I p1.Pc, L ga12 p1.Regs gc13, L ga14 p1.Mem gc15, L ga16 p1.Stack gc17, I p1.In, L ga18 p1.Out gc19, I p1.Code, I p1.Steps, L ga20 p1.Cond gc21, L ga22 p1.Turns gc23]] [] [RO (L ga0 p0.Regs gc1) p0.Regs, RO (L ga2 p0.Mem gc3) p0.Mem, RO (L ga4 p0.Stack gc5) p0.Stack, RO (L ga6 p0.Out gc7) p0.Out, RO (L ga8 p0.Cond gc9) p0.Cond, RO (L ga10 p0.Turns gc11) p0.Turns, RO (L ga12 p1.Regs gc13) p1.Regs, RO (L ga14 p1.Mem gc15) p1.Mem, RO (L ga16 p1.Stack gc17) p1.Stack, RO (L ga18 p1.Out gc19) p1.Out, RO (L ga20 p1.Cond gc21) p1.Cond, RO (L ga22 p1.Turns gc23) p1.Turns] fun (_ : Unit) => ([.bool r], [], []) := by
 unfold laws_eqPath at h
 refine En Try.func9 rfl Try.ntmps9 fun _ fr w c => ?_
 refine T0 (Ebx [I p0.Pc, L ga0 p0.Regs gc1, L ga2 p0.Mem gc3, L ga4 p0.Stack gc5, I p0.In, L ga6 p0.Out gc7, I p0.Code, I p0.Steps, L ga8 p0.Cond gc9, L ga10 p0.Turns gc11] c fun b1 _ _ c => ?_)
 refine Ebx [I p1.Pc, L ga12 p1.Regs gc13, L ga14 p1.Mem gc15, L ga16 p1.Stack gc17, I p1.In, L ga18 p1.Out gc19, I p1.Code, I p1.Steps, L ga20 p1.Cond gc21, L ga22 p1.Turns gc23] c fun b2 _ _ c => ?_
 refine Fp [] 1 c fun _ c => E0 (S0 (P0 [(1, 0), (3, 1)] c fun _ c => I0 c h (fun h => ?_) fun h => ?_))
 refine P0 [] c fun _ c => ?_
 obtain rfl := sj h
 exact wp_ret (tr (Rt c () [] []))
 refine K0 (S0 (T0 (Fp [(1, 0), (3, 1)] 4 c fun _ c => Bd h fun x1 hx1 h => Ca [] c (laws_eqTermS_ok hx1) ⟨.f 0, .f 6, trivial⟩ Try.call19 fun _ _ _ c => ?_)))
 refine Fp [] 1 c fun _ c => E0 (I0 c h (fun h => ?_) fun h => ?_)
 refine P0 [] c fun _ c => ?_
 obtain rfl := sj h
 exact wp_ret (tr (Rt c () [] []))
 refine K0 (S0 (T0 (Fp [(1, 0), (3, 1)] 4 c fun _ c => Bd h fun x2 hx2 h => Ca [] c (laws_eqTermS_ok hx2) ⟨.f 1, .f 7, trivial⟩ Try.call19 fun _ _ _ c => ?_)))
 refine Fp [] 1 c fun _ c => E0 (I0 c h (fun h => ?_) fun h => ?_)
 refine P0 [] c fun _ c => ?_
 obtain rfl := sj h
 exact wp_ret (tr (Rt c () [] []))
 refine K0 (S0 (T0 (Fp [(1, 0), (3, 1)] 4 c fun _ c => Bd h fun x3 hx3 h => Ca [] c (laws_eqIntS_ok hx3) ⟨.f 2, .f 8, trivial⟩ Try.call20 fun _ _ _ c => ?_)))
 refine Fp [] 1 c fun _ c => E0 (I0 c h (fun h => ?_) fun h => ?_)
 refine P0 [] c fun _ c => ?_
 obtain rfl := sj h
 exact wp_ret (tr (Rt c () [] []))
 refine K0 (S0 (P0 [(1, 0), (3, 1)] c fun _ c => I0 c h (fun h => ?_) fun h => ?_))
 refine P0 [] c fun _ c => ?_
 obtain rfl := sj h
 exact wp_ret (tr (Rt c () [] []))
 refine K0 (S0 (T0 (Fp [(1, 0), (3, 1)] 4 c fun _ c => ?_)))
 replace c := c.gm [BX b1 33 [I p0.Pc, L ga0 p0.Regs gc1, L ga2 p0.Mem gc3, L ga4 p0.Stack gc5, I p0.In, L ga6 p0.Out gc7, I p0.Code, I p0.Steps, L ga8 p0.Cond gc9, L ga10 p0.Turns gc11], BX b2 33 [I p1.Pc, L ga12 p1.Regs gc13, L ga14 p1.Mem gc15, L ga16 p1.Stack gc17, I p1.In, L ga18 p1.Out gc19, I p1.Code, I p1.Steps, L ga20 p1.Cond gc21, L ga22 p1.Turns gc23]]
 refine Bd h fun x4 hx4 h => Ca [] c (laws_eqTermS_ok hx4) ⟨.f 3, .f 9, trivial⟩ Try.call19 fun _ _ _ c => ?_
 refine Fp [] 1 c fun _ c => E0 (I0 c h (fun h => ?_) fun h => ?_)
 refine P0 [] c fun _ c => ?_
 obtain rfl := sj h
 exact wp_ret (tr (Rt c () [] []))
 refine K0 (S0 (P0 [(1, 0), (3, 1)] c fun _ c => I0 c h (fun h => ?_) fun h => ?_))
 refine P0 [] c fun _ c => ?_
 obtain rfl := sj h
 exact wp_ret (tr (Rt c () [] []))
 refine K0 (S0 (P0 [(1, 0), (3, 1)] c fun _ c => I0 c h (fun h => ?_) fun h => ?_))
 refine P0 [] c fun _ c => ?_
 obtain rfl := sj h
 exact wp_ret (tr (Rt c () [] []))
 refine K0 (S0 (T0 (Fp [(1, 0), (3, 1)] 4 c fun _ c => Bd h fun x5 hx5 h => Ca [] c (laws_eqTermS_ok hx5) ⟨.f 4, .f 10, trivial⟩ Try.call19 fun _ _ _ c => ?_)))
 refine Fp [] 1 c fun _ c => E0 (I0 c h (fun h => ?_) fun h => ?_)
 refine P0 [] c fun _ c => ?_
 obtain rfl := sj h
 exact wp_ret (tr (Rt c () [] []))
 refine K0 (S0 (T0 (Fp [(1, 0), (3, 1)] 4 c fun _ c => Bd h fun x6 hx6 h => Ca [] c (laws_eqIntS_ok hx6) ⟨.f 5, .f 11, trivial⟩ Try.call20 fun _ _ _ c => ?_)))
 refine Fp [] 1 c fun _ c => E0 (I0 c h (fun h => ?_) fun h => ?_)
 refine P0 [] c fun _ c => ?_
 obtain rfl := sj h
 exact wp_ret (tr (Rt c () [] []))
 refine K0 (P0 [] c fun _ c => ?_)
 obtain rfl := sj h
 exact wp_ret (Rt c () [] [])

theorem laws_markText_ok {n : Nat} {p0 : Int} {r : Str} (h : laws_markText n p0 = some r) : Con Try.prog 31 [I p0] [] [] fun (_ : Unit) => ([Str.val r], [], []) := by
 unfold laws_markText at h
 refine En Try.func31 rfl Try.ntmps31 fun _ fr w c => ?_
 refine P0 [] c fun _ c => S0 (P0 [] c fun _ c => I0 c h (fun h => ?_) fun h => ?_)
 refine P0 [] c fun _ c => ?_
 cases h
 exact wp_ret (tr (Rt c () [] []))
 refine K0 (P0 [] c fun _ c => Bd h fun rl1 hit1 h => S0 (Lp (fun s1  (_ : Unit) => ([(0, I s1.1), (3, Str.val s1.2)], id, [])) (fun  (_ : Unit) => ([(3, Str.val rl1)], id, [])) hit1 c () (c.re [] []) (fun s1 q1 _ _ _ c h hr1 => ?_) fun _ _ _ c => ?_))
 refine S0 (P0 [] c fun _ c => I0 c h (fun h => ?_) fun h => ?_)
 refine K0 (wp_block (T0 (Fp [] 1 c fun _ c => Bd h fun x1 hx1 h => Erem c hx1 fun _ c => ?_)))
 refine Fp [] 2 c fun _ c => Elt 5 ([(Byt.mk (IntKind.u8.wrap (w64 (48 + x1))))] : List Byt) c fun a1 c1 _ _ c => ?_
 refine Ebs c (.g 0) (fun _ c => ?_) Try.underlying64
 refine Fp [] 1 c fun _ c => Bd h fun x2 hx2 h => Ecat c hx2 fun _ c => ?_
 refine Fp [] 1 c fun _ c => E0 (T1 (Fp [] 1 c fun _ c => Bd h fun x3 hx3 h => Equo c hx3 fun _ c => ?_))
 refine Fp [] 1 c fun _ c => E1 (bk (tn (Nx h () (c.re [] []))))
 refine wp_exit (te (te (be ?_)))
 obtain rfl := hr1 _ (Option.some.inj h).symm
 exact tn ⟨(), c.re [] []⟩
 refine T0 (Fp [] 1 c fun _ c => Bd h fun x4 hx4 h => Ecat c hx4 fun _ c => ?_)
 refine Fp [] 1 c fun _ c => E0 ?_
 obtain rfl := sj h
 exact wp_ret (Rt c () [] [])

theorem laws_markTermS_ok {n : Nat} : ∀ {p0 : List D.Term} {p1 : Int} {ga0 : Option Addr} {gc1 : Nat} {gn2 : Nat} {r : Int × (List D.Term)} (h : laws_markTermS n p0 p1 = some r), Con Try.prog 21 [.slice ga0 gn2 gc1, I p1] [OD (ownT 29) 29 (.slice ga0 gn2 gc1) p0] [] fun (_ : Unit) => ([I r.1], [OD (ownT 29) 29 (.slice ga0 gn2 gc1) r.2], []) := by
 induction n with
 | zero => intro p0 p1 ga0 gc1 gn2 r h; simp [laws_markTermS] at h
 | succ n ih =>
 intro p0 p1 ga0 gc1 gn2 r h
 rw [laws_markTermS] at h
 refine En Try.func21 rfl Try.ntmps21 fun _ fr w c => ?_
 obtain ⟨rfl, c⟩ := c.releno 0
 refine P0 [] c fun _ c => S0 (P0 [] c fun _ c => Bd h fun rl1 hit1 h => Lp (fun s1  (_ : Unit) => ([(0, L ga0 p0 gc1), (1, I s1.1), (5, I s1.2.1)], fun Γ => Γ.set 0 (OD (ownT 29) 29 (L ga0 p0 gc1) s1.2.2), [])) (fun  (_ : Unit) => ([(1, I rl1.1)], fun Γ => Γ.set 0 (OD (ownT 29) 29 (L ga0 p0 gc1) rl1.2), [])) hit1 c () (c.re [0] []) (fun s1 q1 _ _ _ c h hr1 => ?_) fun _ _ _ c => ?_)
 refine S0 (P0 [] c fun _ c => I0 c h (fun h => ?_) fun h => ?_)
 refine K0 (S0 (wp_block (T0 (Fp [] 3 c fun _ c => Bd h fun x1 hx1 h => ?_))))
 obtain ⟨a1, c1, c⟩ := c.fo_Term 0 hx1
 refine Eohs 0 (I s1.1) (Rw.Term.mk s1.1 x1.W x1.N x1.Name ⟨a1, List.length x1.Kids, c1⟩) c fun _ _ _ _ c => ?_
 refine E0 (P0 [] c fun _ c => T0 (Fp [] 3 c fun _ c => Eohs 1 (I (w64 (s1.1 + 1))) (Rw.Term.mk s1.1 (w64 (s1.1 + 1)) x1.N x1.Name ⟨a1, List.length x1.Kids, c1⟩) c fun _ _ _ _ c => ?_))
 refine E0 (P0 [] c fun _ c => T0 (Fp [] 3 c fun _ c => ?_))
 replace c := c.gm [OD (ownT 29) 29 (L a1 x1.Kids c1) x1.Kids, OH (ownT 29) 29 (L ga0 p0 gc1) s1.2.1 (Rw.Term.mk s1.1 (w64 (s1.1 + 1)) x1.N x1.Name ⟨a1, List.length x1.Kids, c1⟩) s1.2.2]
 refine Eohs 1 (I (w64 ((w64 (s1.1 + 1)) + 1))) (Rw.Term.mk s1.1 (w64 (s1.1 + 1)) (w64 ((w64 (s1.1 + 1)) + 1)) x1.Name ⟨a1, List.length x1.Kids, c1⟩) c fun _ _ _ _ c => ?_
 refine E0 (P0 [] c fun _ c => T0 (Fp [] 3 c fun _ c => Bd h fun x2 hx2 h => Ca [] c (laws_markText_ok hx2) trivial Try.call31 fun _ _ _ c => ?_))
 refine Eohs 1 (Str.val x2) (Rw.Term.mk s1.1 (w64 (s1.1 + 1)) (w64 ((w64 (s1.1 + 1)) + 1)) x2 ⟨a1, List.length x1.Kids, c1⟩) c fun _ _ _ _ c => ?_
 refine E0 (P0 [] c fun _ c => T1 (Fp [] 2 c fun _ c => ?_))
 replace c := c.gm [OD (ownT 29) 29 (L a1 x1.Kids c1) x1.Kids, OH (ownT 29) 29 (L ga0 p0 gc1) s1.2.1 (Rw.Term.mk s1.1 (w64 (s1.1 + 1)) (w64 ((w64 (s1.1 + 1)) + 1)) x2 ⟨a1, List.length x1.Kids, c1⟩) s1.2.2]
 refine Eohl 1 (L a1 x1.Kids c1) c fun _ _ _ c => ?_
 refine Fp [] 1 c fun _ c => Bd h fun x3 hx3 h => Ca [0] c (ih hx3) trivial Try.call21 fun _ _ _ c => ?_
 refine Fp [] 1 c fun _ c => E1 (bk (tn (P1 [] c fun _ c => Bd h fun x4 hx4 h => ?_)))
 replace c := c.un_Term (E := 29) (v := L ga0 p0 gc1) (y := (D.Term.mk s1.1 (w64 (s1.1 + 1)) (w64 ((w64 (s1.1 + 1)) + 1)) x2 x3.2)) (b := a1) (m := List.length x1.Kids) (cp := c1) 0 1 hx4
 replace c := c.gm [OD (ownT 29) 29 (L ga0 p0 gc1) x4]
 exact Nx h () (c.re [0] [])
 refine wp_exit (te (te (be ?_)))
 obtain rfl := hr1 _ (Option.some.inj h).symm
 exact tn ⟨(), c.re [0] []⟩
 refine P0 [] c fun _ c => ?_
 cases h
 exact wp_ret (Rt c () [0] [])

theorem laws_markIntS_ok {n : Nat} {p0 : List Int} {p1 : Int} {ga0 : Option Addr} {gc1 : Nat} {gn2 : Nat} {r : Int × (List Int)} (h : laws_markIntS n p0 p1 = some r) : Con Try.prog 22 [.slice ga0 gn2 gc1, I p1] [sl3 (.slice ga0 gn2 gc1) p0] [] fun (_ : Unit) => ([I r.1], [sl3 (.slice ga0 gn2 gc1) r.2], []) := by
 unfold laws_markIntS at h
 refine En Try.func22 rfl Try.ntmps22 fun _ fr w c => ?_
 obtain ⟨rfl, c⟩ := c.relen 0
 refine P0 [] c fun _ c => S0 (P0 [] c fun _ c => Bd h fun rl1 hit1 h => Lp (fun s1  (_ : Unit) => ([(0, L ga0 p0 gc1), (1, I s1.1), (5, I s1.2.1)], fun Γ => Γ.set 0 (sl3 (L ga0 p0 gc1) s1.2.2), [])) (fun  (_ : Unit) => ([(1, I rl1.1)], fun Γ => Γ.set 0 (sl3 (L ga0 p0 gc1) rl1.2), [])) hit1 c () (c.re [0] []) (fun s1 q1 _ _ _ c h hr1 => ?_) fun _ _ _ c => ?_)
 refine S0 (P0 [] c fun _ c => I0 c h (fun h => ?_) fun h => ?_)
 refine K0 (S0 (wp_block (T0 (Fp [] 3 c fun _ c => Bd h fun x1 hx1 h => Eset 0 c hx1 fun _ _ _ c => ?_))))
 refine E0 (Tq (P1 [] c fun _ c => bk (tn (P1 [] c fun _ c => Nx h () (c.re [0] [])))))
 refine wp_exit (te (te (be ?_)))
 obtain rfl := hr1 _ (Option.some.inj h).symm
 exact tn ⟨(), c.re [0] []⟩
 refine P0 [] c fun _ c => ?_
 cases h
 exact wp_ret (Rt c () [0] [])

theorem laws_markPath_ok {n : Nat} {p0 : D.Path} {p1 : Int} {ga0 : Option Addr} {gc1 : Nat} {ga2 : Option Addr} {gc3 : Nat} {ga4 : Option Addr} {gc5 : Nat} {ga6 : Option Addr} {gc7 : Nat} {ga8 : Option Addr} {gc9 : Nat} {ga10 : Option Addr} {gc11 : Nat} {gn12 : Nat} {gn13 : Nat} {gn14 : Nat} {gn15 : Nat} {gn16 : Nat} {gn17 : Nat} {r : Int × D.Path} (h : laws_markPath n p0 p1 = some r) : Con Try.prog 10 [.agg #[I p0.Pc, .slice ga0 gn12 gc1, .slice ga2 gn13 gc3, .slice ga4 gn14 gc5, I p0.In, .slice ga6 gn15 gc7, I p0.Code, I p0.Steps, .slice ga8 gn16 gc9, .slice ga10 gn17 gc11], I p1] [OD (ownT 29) 29 (.slice ga0 gn12 gc1) p0.Regs, OD (ownT 29) 29 (.slice ga2 gn13 gc3) p0.Mem, sl3 (.slice ga4 gn14 gc5) p0.Stack, OD (ownT 29) 29 (.slice ga6 gn15 gc7) p0.Out, OD (ownT 29) 29 (.slice ga8 gn16 gc9) p0.Cond, sl3 (.slice ga10 gn17 gc11) p0.Turns] [] fun (_ : Unit) => ([I r.1], [OD (ownT 29) 29 (.slice ga0 gn12 gc1) r.2.Regs, OD (ownT 29) 29 (.slice ga2 gn13 gc3) r.2.Mem, sl3 (.slice ga4 gn14 gc5) r.2.Stack, OD (ownT 29) 29 (.slice ga6 gn15 gc7) r.2.Out, OD (ownT 29) 29 (.slice ga8 gn16 gc9) r.2.Cond, sl3 (.slice ga10 gn17 gc11) r.2.Turns], []) := by
 unfold laws_markPath at h
 refine En Try.func10 rfl Try.ntmps10 fun _ fr w c => ?_
 obtain ⟨rfl, c⟩ := c.releno 0
 obtain ⟨rfl, c⟩ := c.releno 1
 obtain ⟨rfl, c⟩ := c.relen 2
 obtain ⟨rfl, c⟩ := c.releno 3
 obtain ⟨rfl, c⟩ := c.releno 4
 obtain ⟨rfl, c⟩ := c.relen 5
 refine T0 (Ebx [I p0.Pc, L ga0 p0.Regs gc1, L ga2 p0.Mem gc3, L ga4 p0.Stack gc5, I p0.In, L ga6 p0.Out gc7, I p0.Code, I p0.Steps, L ga8 p0.Cond gc9, L ga10 p0.Turns gc11] c fun b1 _ _ c => ?_)
 refine Fp [] 1 c fun _ c => E0 (T0 (Fp [(1, 0)] 3 c fun _ c => Bd h fun x1 hx1 h => Ca [0] c (laws_markTermS_ok hx1) trivial Try.call21 fun _ _ _ c => ?_))
 refine Fp [] 1 c fun _ c => E0 (T0 (Fp [(1, 0)] 3 c fun _ c => Bd h fun x2 hx2 h => Ca [0] c (laws_markTermS_ok hx2) trivial Try.call21 fun _ _ _ c => ?_))
 refine Fp [] 1 c fun _ c => E0 (T0 (Fp [(1, 0)] 3 c fun _ c => ?_))
 replace c := c.gm [sl3 (L ga4 p0.Stack gc5) p0.Stack, OD (ownT 29) 29 (L ga6 p0.Out gc7) p0.Out, OD (ownT 29) 29 (L ga8 p0.Cond gc9) p0.Cond, sl3 (L ga10 p0.Turns gc11) p0.Turns, BX b1 33 [I p0.Pc, L ga0 p0.Regs gc1, L ga2 p0.Mem gc3, L ga4 p0.Stack gc5, I p0.In, L ga6 p0.Out gc7, I p0.Code, I p0.Steps, L ga8 p0.Cond gc9, L ga10 p0.Turns gc11], OD (ownT 29) 29 (L ga0 p0.Regs gc1) x1.2, OD (ownT 29) 29 (L ga2 p0.Mem gc3) x2.2]
 refine Bd h fun x3 hx3 h => Ca [0] c (laws_markIntS_ok hx3) trivial Try.call22 fun _ _ _ c => ?_
 refine Fp [] 1 c fun _ c => E0 (T0 (Fp [(1, 0)] 3 c fun _ c => Bd h fun x4 hx4 h => Ca [0] c (laws_markTermS_ok hx4) trivial Try.call21 fun _ _ _ c => ?_))
 refine Fp [] 1 c fun _ c => E0 (T0 (Fp [(1, 0)] 3 c fun _ c => Bd h fun x5 hx5 h => Ca [0] c (laws_markTermS_ok hx5) trivial Try.call21 fun _ _ _ c => ?_))
 refine Fp [] 1 c fun _ c => E0 (T0 (Fp [(1, 0)] 3 c fun _ c => ?_))
 replace c := c.gm [sl3 (L ga10 p0.Turns gc11) p0.Turns, BX b1 33 [I p0.Pc, L ga0 p0.Regs gc1, L ga2 p0.Mem gc3, L ga4 p0.Stack gc5, I p0.In, L ga6 p0.Out gc7, I p0.Code, I p0.Steps, L ga8 p0.Cond gc9, L ga10 p0.Turns gc11], OD (ownT 29) 29 (L ga0 p0.Regs gc1) x1.2, OD (ownT 29) 29 (L ga2 p0.Mem gc3) x2.2, sl3 (L ga4 p0.Stack gc5) x3.2, OD (ownT 29) 29 (L ga6 p0.Out gc7) x4.2, OD (ownT 29) 29 (L ga8 p0.Cond gc9) x5.2]
 refine Bd h fun x6 hx6 h => Ca [0] c (laws_markIntS_ok hx6) trivial Try.call22 fun _ _ _ c => ?_
 refine Fp [] 1 c fun _ c => E0 (P0 [] c fun _ c => ?_)
 cases h
 exact wp_ret (Rt c () [1, 2, 3, 4, 5, 6] [])

theorem laws_markTerm_ok {n : Nat} {p0 : D.Term} {p1 : Int} {ga0 : Option Addr} {gc1 : Nat} {gn2 : Nat} {r : Int × D.Term} (h : laws_markTerm n p0 p1 = some r) : Con Try.prog 11 [.agg #[I p0.Op, I p0.W, I p0.N, Str.val p0.Name, .slice ga0 gn2 gc1], I p1] [OD (ownT 29) 29 (.slice ga0 gn2 gc1) p0.Kids] [] fun (_ : Unit) => ([I r.1], [OD (ownT 29) 29 (.slice ga0 gn2 gc1) r.2.Kids], []) := by
 unfold laws_markTerm at h
 refine En Try.func11 rfl Try.ntmps11 fun _ fr w c => ?_
 obtain ⟨rfl, c⟩ := c.releno 0
 refine T0 (Ebx [I p0.Op, I p0.W, I p0.N, Str.val p0.Name, L ga0 p0.Kids gc1] c fun b1 _ _ c => ?_)
 refine Fp [] 1 c fun _ c => E0 (T0 (Fp [(1, 0)] 3 c fun _ c => Bd h fun x1 hx1 h => Ca [0] c (laws_markTermS_ok hx1) trivial Try.call21 fun _ _ _ c => ?_))
 refine Fp [] 1 c fun _ c => E0 (P0 [] c fun _ c => ?_)
 cases h
 exact wp_ret (Rt c () [1] [])

theorem laws_heldTermS_ok {n : Nat} : ∀ {p0 : List D.Term} {p1 : Int} {ga0 : Option Addr} {gc1 : Nat} {r : Int} (h : laws_heldTermS n p0 p1 = some r), Con Try.prog 23 [L ga0 p0 gc1, I p1] [] [RO (L ga0 p0 gc1) p0] fun (_ : Unit) => ([I r], [], []) := by
 induction n with
 | zero => intro p0 p1 ga0 gc1 r h; simp [laws_heldTermS] at h
 | succ n ih =>
 intro p0 p1 ga0 gc1 r h
 rw [laws_heldTermS] at h
 refine En Try.func23 rfl Try.ntmps23 fun _ fr w c => ?_
 refine P0 [] c fun _ c => S0 (P0 [] c fun _ c => Bd h fun rl1 hit1 h => ?_)
 have hk1 := h
 refine LpR (fun s1  (_ : Unit) => ([(0, L ga0 p0 gc1), (1, I s1.1), (5, I s1.2)], id, [])) (fun s  (_ : Unit) => ([(1, I s)], id, [])) hit1 c () (c.re [] [0]) (fun s1 q1 _ _ _ c h hr1 => ?_) fun s1r _ _ _ hrl c => ?_
 refine S0 (P0 [] c fun _ c => I0 c h (fun h => ?_) fun h => ?_)
 refine K0 (S0 (wp_block (S0 (T0 (Fp [] 2 c fun _ c => Bd h fun x1 hx1 h => Eef c (.f 0) hx1 fc29_0 fun _ _ _ c => ?_)))))
 refine Fp [] 2 c fun _ c => E0 (I0 c h (fun h => ?_) fun h => ?_)
 refine P0 [] c fun _ c => ?_
 obtain rfl := hr1 _ (Option.some.inj h).symm
 obtain rfl := Option.some.inj hk1
 exact wp_ret (tr (br (tr (tr (br (tr (Rt c () [] [])))))))
 refine K0 (P0 [] c fun _ c => S0 (T0 (Fp [] 2 c fun _ c => Bd h fun x2 hx2 h => Eef c (.f 0) hx2 fc29_1 fun _ _ _ c => ?_)))
 refine Fp [] 2 c fun _ c => E0 (I0 c h (fun h => ?_) fun h => ?_)
 refine P0 [] c fun _ c => ?_
 obtain rfl := hr1 _ (Option.some.inj h).symm
 obtain rfl := Option.some.inj hk1
 exact wp_ret (tr (br (tr (tr (br (tr (Rt c () [] [])))))))
 refine K0 (P0 [] c fun _ c => S0 (T0 (Fp [] 2 c fun _ c => Bd h fun x3 hx3 h => Eef c (.f 0) hx3 fc29_2 fun _ _ _ c => ?_)))
 refine Fp [] 2 c fun _ c => E0 (I0 c h (fun h => ?_) fun h => ?_)
 refine P0 [] c fun _ c => ?_
 obtain rfl := hr1 _ (Option.some.inj h).symm
 obtain rfl := Option.some.inj hk1
 exact wp_ret (tr (br (tr (tr (br (tr (Rt c () [] [])))))))
 refine K0 (P0 [] c fun _ c => S0 (Bd h fun x4 hx4 h => ?_))
 obtain ⟨ep1, u1, c⟩ := c.elp (.f 0) hx4
 obtain ⟨a1, c1, rfl, c⟩ := c.o_Term 2
 refine Bd h fun x5 hx5 h => S0 (rZ [(2, .eq (.pointer (some ep1))), (4, .eq (Str.val x4.Name)), (6, .eq (Str.val x5))] [] mix c ⟨Nie c 1, Nlc c 1 3, Ncl c (kN (laws_markText_ok hx5)) trivial Try.call31, trivial⟩ fun _ _ c => I0 c h (fun h => ?_) fun h => ?_)
 refine P0 [] c fun _ c => ?_
 obtain rfl := hr1 _ (Option.some.inj h).symm
 obtain rfl := Option.some.inj hk1
 exact wp_ret (tr (br (tr (tr (br (tr (Rt c () [] [])))))))
 refine K0 (P0 [] c fun _ c => T0 (Fp [] 2 c fun _ c => Bd h fun x6 hx6 h => Eemf c (.f 0) hx6 fm_Term4 fun _ _ u2 _ c => ?_))
 obtain ⟨a2, c2, rfl⟩ := c.sl 4
 refine Fp [] 1 c fun _ c => Bd h fun x7 hx7 h => Ca [] c (ih hx7) ⟨.f 4, trivial⟩ Try.call23 fun _ _ _ c => ?_
 refine Fp [] 1 c fun _ c => E0 (P0 [] c fun _ c => I0 c h (fun h => ?_) fun h => ?_)
 refine P0 [] c fun _ c => ?_
 obtain rfl := hr1 _ (Option.some.inj h).symm
 obtain rfl := Option.some.inj hk1
 exact wp_ret (br (tr (tr (br (tr (Rt c () [] []))))))
 refine K1 (bk (tn (P1 [] c fun _ c => Nx h () (c.re [] [0]))))
 refine wp_exit (te (te (be ?_)))
 obtain rfl := hr1 _ (Option.some.inj h).symm
 exact tn ⟨_, (), rfl, c.re [] [0]⟩
 subst hrl
 refine P0 [] c fun _ c => ?_
 obtain rfl := sj h
 exact wp_ret (Rt c () [] [])

theorem laws_heldTerm_ok {n : Nat} {p0 : D.Term} {p1 : Int} {ga0 : Option Addr} {gc1 : Nat} {r : Int} (h : laws_heldTerm n p0 p1 = some r) : Con Try.prog 12 [.agg #[I p0.Op, I p0.W, I p0.N, Str.val p0.Name, L ga0 p0.Kids gc1], I p1] [] [RO (L ga0 p0.Kids gc1) p0.Kids] fun (_ : Unit) => ([I r], [], []) := by
 unfold laws_heldTerm at h
 refine En Try.func12 rfl Try.ntmps12 fun _ fr w c => ?_
 refine T0 (Ebx [I p0.Op, I p0.W, I p0.N, Str.val p0.Name, L ga0 p0.Kids gc1] c fun b1 _ _ c => ?_)
 refine Fp [] 1 c fun _ c => E0 (T0 (Fp [(1, 0)] 3 c fun _ c => Bd h fun x1 hx1 h => Ca [] c (laws_heldTermS_ok hx1) ⟨.f 0, trivial⟩ Try.call23 fun _ _ _ c => ?_))
 refine Fp [] 1 c fun _ c => E0 (S0 (P0 [] c fun _ c => I0 c h (fun h => ?_) fun h => ?_))
 refine P0 [] c fun _ c => ?_
 cases h
 exact wp_ret (tr (Rt c () [] []))
 refine K0 (P0 [] c fun _ c => ?_)
 obtain rfl := sj h
 exact wp_ret (Rt c () [] [])

theorem laws_FnExactPathTerm_ok {n : Nat} {p0 : D.Path} {ga0 : Option Addr} {gc1 : Nat} {ga2 : Option Addr} {gc3 : Nat} {ga4 : Option Addr} {gc5 : Nat} {ga6 : Option Addr} {gc7 : Nat} {ga8 : Option Addr} {gc9 : Nat} {ga10 : Option Addr} {gc11 : Nat} {r : Bool} (h : laws_FnExactPathTerm n p0 = some r) : Con Try.prog 3 [.agg #[I p0.Pc, L ga0 p0.Regs gc1, L ga2 p0.Mem gc3, L ga4 p0.Stack gc5, I p0.In, L ga6 p0.Out gc7, I p0.Code, I p0.Steps, L ga8 p0.Cond gc9, L ga10 p0.Turns gc11]] [] [RO (L ga0 p0.Regs gc1) p0.Regs, RO (L ga2 p0.Mem gc3) p0.Mem, RO (L ga4 p0.Stack gc5) p0.Stack, RO (L ga6 p0.Out gc7) p0.Out, RO (L ga8 p0.Cond gc9) p0.Cond, RO (L ga10 p0.Turns gc11) p0.Turns] fun (_ : Unit) => ([.bool r], [], []) := by
 unfold laws_FnExactPathTerm at h
 refine En Try.func3 rfl Try.ntmps3 fun _ fr w c => ?_
 refine T0 (Ebx [I p0.Pc, L ga0 p0.Regs gc1, L ga2 p0.Mem gc3, L ga4 p0.Stack gc5, I p0.In, L ga6 p0.Out gc7, I p0.Code, I p0.Steps, L ga8 p0.Cond gc9, L ga10 p0.Turns gc11] c fun b1 _ _ c => ?_)
 refine Fp [] 1 c fun _ c => E0 (P0 [] c fun _ c => T0 (Fp [(0, 0)] 2 c fun _ c => Bd h fun x1 hx1 h => Ca [] c (laws_szPath_ok hx1) ⟨.f 0, .f 1, .f 2, .f 3, .f 4, .f 5, trivial⟩ Try.call4 fun _ _ _ c => ?_))
 refine Fp [] 1 c fun _ c => E0 (S0 (P0 [] c fun _ c => I0 c h (fun h => ?_) fun h => ?_))
 refine P0 [] c fun _ c => ?_
 obtain rfl := sj h
 exact wp_ret (tr (Rt c () [] []))
 refine K0 (T0 (Fp [(0, 0)] 1 c fun _ c => Bd h fun x2 hx2 h => Ca [] c (laws_toPath_ok hx2) ⟨.f 0, .f 1, .f 2, .f 3, .f 4, .f 5, trivial⟩ Try.call6 fun i1 _ _ c => ?_))
 replace c := c.gm [BX b1 25 [I p0.Pc, L ga0 p0.Regs gc1, L ga2 p0.Mem gc3, L ga4 p0.Stack gc5, I p0.In, L ga6 p0.Out gc7, I p0.Code, I p0.Steps, L ga8 p0.Cond gc9, L ga10 p0.Turns gc11], OD (ownT 29) 29 (L i1.1 x2.Regs i1.2.1) x2.Regs, OD (ownT 29) 29 (L i1.2.2.1 x2.Mem i1.2.2.2.1) x2.Mem, sl3 (L i1.2.2.2.2.1 x2.Stack i1.2.2.2.2.2.1) x2.Stack, OD (ownT 29) 29 (L i1.2.2.2.2.2.2.1 x2.Out i1.2.2.2.2.2.2.2.1) x2.Out, OD (ownT 29) 29 (L i1.2.2.2.2.2.2.2.2.1 x2.Cond i1.2.2.2.2.2.2.2.2.2.1) x2.Cond, sl3 (L i1.2.2.2.2.2.2.2.2.2.2.1 x2.Turns i1.2.2.2.2.2.2.2.2.2.2.2) x2.Turns]
 replace c := c.fzo (owns_T 29) 1
 replace c := c.fzo (owns_T 29) 1
 replace c := c.fz 1
 replace c := c.fzo (owns_T 29) 1
 replace c := c.fzo (owns_T 29) 1
 replace c := c.fz 1
 refine Bd h fun x3 hx3 h => Cf [] c (spec_PathTerm_ok hx3) ⟨.f 6, .f 7, .f 8, .f 9, .f 10, .f 11, trivial⟩ Try.call5 fun i2 _ _ c => ?_
 refine Fp [] 3 c fun _ c => Eal [I 0, I 0, I 0, Str.val ⟨[]⟩, L none ([] : List D.Term) 0] c fun b2 _ _ c => ?_
 refine Ess 1 [I x3.1.Op, I x3.1.W, I x3.1.N, Str.val x3.1.Name, L i2.1 x3.1.Kids i2.2] c fun _ c => ?_
 refine Fp [] 1 c fun _ c => E0 (T0 (Fp [(0, 0)] 1 c fun _ c => Bd h fun x4 hx4 h => Ca [] c (laws_toPath_ok hx4) ⟨.f 0, .f 1, .f 2, .f 3, .f 4, .f 5, trivial⟩ Try.call6 fun i3 _ _ c => ?_))
 replace c := c.gm [BX b1 25 [I p0.Pc, L ga0 p0.Regs gc1, L ga2 p0.Mem gc3, L ga4 p0.Stack gc5, I p0.In, L ga6 p0.Out gc7, I p0.Code, I p0.Steps, L ga8 p0.Cond gc9, L ga10 p0.Turns gc11], BX b2 29 [I x3.1.Op, I x3.1.W, I x3.1.N, Str.val x3.1.Name, L i2.1 x3.1.Kids i2.2], OD (ownT 29) 29 (L i3.1 x4.Regs i3.2.1) x4.Regs, OD (ownT 29) 29 (L i3.2.2.1 x4.Mem i3.2.2.2.1) x4.Mem, sl3 (L i3.2.2.2.2.1 x4.Stack i3.2.2.2.2.2.1) x4.Stack, OD (ownT 29) 29 (L i3.2.2.2.2.2.2.1 x4.Out i3.2.2.2.2.2.2.2.1) x4.Out, OD (ownT 29) 29 (L i3.2.2.2.2.2.2.2.2.1 x4.Cond i3.2.2.2.2.2.2.2.2.2.1) x4.Cond, sl3 (L i3.2.2.2.2.2.2.2.2.2.2.1 x4.Turns i3.2.2.2.2.2.2.2.2.2.2.2) x4.Turns]
 refine Eal [I 0, L none ([] : List D.Term) 0, L none ([] : List D.Term) 0, L none ([] : List Int) 0, I 0, L none ([] : List D.Term) 0, I 0, I 0, L none ([] : List D.Term) 0, L none ([] : List Int) 0] c fun b3 _ _ c => ?_
 refine Ess 8 [I x4.Pc, L i3.1 x4.Regs i3.2.1, L i3.2.2.1 x4.Mem i3.2.2.2.1, L i3.2.2.2.2.1 x4.Stack i3.2.2.2.2.2.1, I x4.In, L i3.2.2.2.2.2.2.1 x4.Out i3.2.2.2.2.2.2.2.1, I x4.Code, I x4.Steps, L i3.2.2.2.2.2.2.2.2.1 x4.Cond i3.2.2.2.2.2.2.2.2.2.1, L i3.2.2.2.2.2.2.2.2.2.2.1 x4.Turns i3.2.2.2.2.2.2.2.2.2.2.2] c fun _ c => ?_
 refine E0 (T0 (Fp [(0, 2)] 1 c fun _ c => ?_))
 replace c := c.gm [BX b1 25 [I p0.Pc, L ga0 p0.Regs gc1, L ga2 p0.Mem gc3, L ga4 p0.Stack gc5, I p0.In, L ga6 p0.Out gc7, I p0.Code, I p0.Steps, L ga8 p0.Cond gc9, L ga10 p0.Turns gc11], BX b2 29 [I x3.1.Op, I x3.1.W, I x3.1.N, Str.val x3.1.Name, L i2.1 x3.1.Kids i2.2], OD (ownT 29) 29 (L i3.1 x4.Regs i3.2.1) x4.Regs, OD (ownT 29) 29 (L i3.2.2.1 x4.Mem i3.2.2.2.1) x4.Mem, sl3 (L i3.2.2.2.2.1 x4.Stack i3.2.2.2.2.2.1) x4.Stack, OD (ownT 29) 29 (L i3.2.2.2.2.2.2.1 x4.Out i3.2.2.2.2.2.2.2.1) x4.Out, OD (ownT 29) 29 (L i3.2.2.2.2.2.2.2.2.1 x4.Cond i3.2.2.2.2.2.2.2.2.2.1) x4.Cond, sl3 (L i3.2.2.2.2.2.2.2.2.2.2.1 x4.Turns i3.2.2.2.2.2.2.2.2.2.2.2) x4.Turns, BX b3 33 [I x4.Pc, L i3.1 x4.Regs i3.2.1, L i3.2.2.1 x4.Mem i3.2.2.2.1, L i3.2.2.2.2.1 x4.Stack i3.2.2.2.2.2.1, I x4.In, L i3.2.2.2.2.2.2.1 x4.Out i3.2.2.2.2.2.2.2.1, I x4.Code, I x4.Steps, L i3.2.2.2.2.2.2.2.2.1 x4.Cond i3.2.2.2.2.2.2.2.2.2.1, L i3.2.2.2.2.2.2.2.2.2.2.1 x4.Turns i3.2.2.2.2.2.2.2.2.2.2.2]]
 refine Bd h fun x5 hx5 h => Ca [] c (impl_PathTerm_ok hx5) ⟨.go (owns_T 29) 2, .go (owns_T 29) 3, .g 4, .go (owns_T 29) 5, .go (owns_T 29) 6, .g 7, trivial⟩ Try.call7 fun i4 _ _ c => ?_
 refine Fp [] 3 c fun _ c => Eal [I 0, I 0, I 0, Str.val ⟨[]⟩, L none ([] : List D.Term) 0] c fun b4 _ _ c => ?_
 replace c := c.gm [BX b1 25 [I p0.Pc, L ga0 p0.Regs gc1, L ga2 p0.Mem gc3, L ga4 p0.Stack gc5, I p0.In, L ga6 p0.Out gc7, I p0.Code, I p0.Steps, L ga8 p0.Cond gc9, L ga10 p0.Turns gc11], BX b2 29 [I x3.1.Op, I x3.1.W, I x3.1.N, Str.val x3.1.Name, L i2.1 x3.1.Kids i2.2], OD (ownT 29) 29 (L i3.1 x4.Regs i3.2.1) x4.Regs, OD (ownT 29) 29 (L i3.2.2.1 x4.Mem i3.2.2.2.1) x4.Mem, sl3 (L i3.2.2.2.2.1 x4.Stack i3.2.2.2.2.2.1) x4.Stack, OD (ownT 29) 29 (L i3.2.2.2.2.2.2.1 x4.Out i3.2.2.2.2.2.2.2.1) x4.Out, OD (ownT 29) 29 (L i3.2.2.2.2.2.2.2.2.1 x4.Cond i3.2.2.2.2.2.2.2.2.2.1) x4.Cond, sl3 (L i3.2.2.2.2.2.2.2.2.2.2.1 x4.Turns i3.2.2.2.2.2.2.2.2.2.2.2) x4.Turns, BX b3 33 [I x4.Pc, L i3.1 x4.Regs i3.2.1, L i3.2.2.1 x4.Mem i3.2.2.2.1, L i3.2.2.2.2.1 x4.Stack i3.2.2.2.2.2.1, I x4.In, L i3.2.2.2.2.2.2.1 x4.Out i3.2.2.2.2.2.2.2.1, I x4.Code, I x4.Steps, L i3.2.2.2.2.2.2.2.2.1 x4.Cond i3.2.2.2.2.2.2.2.2.2.1, L i3.2.2.2.2.2.2.2.2.2.2.1 x4.Turns i3.2.2.2.2.2.2.2.2.2.2.2], OD (ownT 29) 29 (L i4.1 x5.1.Kids i4.2) x5.1.Kids, BX b4 29 [I 0, I 0, I 0, Str.val ⟨[]⟩, L none ([] : List D.Term) 0]]
 refine Ess 10 [I x5.1.Op, I x5.1.W, I x5.1.N, Str.val x5.1.Name, L i4.1 x5.1.Kids i4.2] c fun _ c => ?_
 refine Fp [] 1 c fun _ c => E0 (S0 (Bd h fun x6 hx6 h => S0 (rZ [(2, .eq (.bool x6))] [(0, 3), (1, 1)] mix c ⟨Ncl c (kN (laws_eqTerm_ok hx6)) ⟨.go (owns_T 29) 9, .f 12, trivial⟩ Try.call8, trivial⟩ fun _ _ c => I0 c h (fun h => ?_) fun h => ?_)))
 refine P0 [] c fun _ c => ?_
 obtain rfl := sj h
 exact wp_ret (tr (Rt c () [] []))
 refine K0 (S0 (Bd h fun x7 hx7 h => Bd h fun x8 hx8 h => S0 (Jn (fun _ : Unit => ([(1, B b1 0), (4, B b2 0), (5, .bool x3.2), (6, B b3 0), (7, B b4 0), (8, .bool x5.2), (45, .bool (!x8))], id, [])) c ?_ fun _ _ _ c => ?_)))
 refine As mix c fun _ c => ?_
 replace c := Cx.frs [(1, B b1 0), (4, B b2 0), (5, .bool x3.2), (6, B b3 0), (7, B b4 0), (8, .bool x5.2)] c
 refine Dq (fun _ : Unit => ([(1, B b1 0), (4, B b2 0), (5, .bool x3.2), (6, B b3 0), (7, B b4 0), (8, .bool x5.2), (44, .bool x8)], id, [])) #[true, true, true, true, false] (fun _ => [(4, 45, .bool (!x8))]) c (fun _ => ?_) fun hd2 => ?_
 refine qnE ⟨qP [], trivial⟩ fun _ _ c => ?_
 exact nN () (c.rk (rg 11) (rg 13))
 refine Dq (fun i : Option Addr × Nat × Option Addr × Nat × Option Addr × Nat × Option Addr × Nat × Option Addr × Nat × Option Addr × Nat => ([(1, B b1 0), (4, B b2 0), (5, .bool x3.2), (6, B b3 0), (7, B b4 0), (8, .bool x5.2), (43, .agg #[I x7.Pc, L i.1 x7.Regs i.2.1, L i.2.2.1 x7.Mem i.2.2.2.1, L i.2.2.2.2.1 x7.Stack i.2.2.2.2.2.1, I x7.In, L i.2.2.2.2.2.2.1 x7.Out i.2.2.2.2.2.2.2.1, I x7.Code, I x7.Steps, L i.2.2.2.2.2.2.2.2.1 x7.Cond i.2.2.2.2.2.2.2.2.2.1, L i.2.2.2.2.2.2.2.2.2.2.1 x7.Turns i.2.2.2.2.2.2.2.2.2.2.2])], fun Γ => Γ ++ [OD (ownT 29) 29 (L i.1 x7.Regs i.2.1) x7.Regs, OD (ownT 29) 29 (L i.2.2.1 x7.Mem i.2.2.2.1) x7.Mem, sl3 (L i.2.2.2.2.1 x7.Stack i.2.2.2.2.2.1) x7.Stack, OD (ownT 29) 29 (L i.2.2.2.2.2.2.1 x7.Out i.2.2.2.2.2.2.2.1) x7.Out, OD (ownT 29) 29 (L i.2.2.2.2.2.2.2.2.1 x7.Cond i.2.2.2.2.2.2.2.2.2.1) x7.Cond, sl3 (L i.2.2.2.2.2.2.2.2.2.2.1 x7.Turns i.2.2.2.2.2.2.2.2.2.2.2) x7.Turns], [])) #[false, true, true, false, false] (fun i => [(0, 41, .agg #[I x4.Pc, L i3.1 x4.Regs i3.2.1, L i3.2.2.1 x4.Mem i3.2.2.2.1, L i3.2.2.2.2.1 x4.Stack i3.2.2.2.2.2.1, I x4.In, L i3.2.2.2.2.2.2.1 x4.Out i3.2.2.2.2.2.2.2.1, I x4.Code, I x4.Steps, L i3.2.2.2.2.2.2.2.2.1 x4.Cond i3.2.2.2.2.2.2.2.2.2.1, L i3.2.2.2.2.2.2.2.2.2.2.1 x4.Turns i3.2.2.2.2.2.2.2.2.2.2.2])]) c (fun i6 => ?_) fun hd1 => ?_
 obtain ⟨a1, c1, a2, c2, a3, c3, a4, c4, a5, c5, a6, c6⟩ := i6
 refine qn [3] ⟨qP [(0, 2)], trivial⟩ ⟨fun _ _ c => ?_, trivial⟩
 refine op_of _ rfl rfl ?_
 refine Ca [] c (laws_eqPath_ok hx8) ⟨.go (owns_T 29) 2, .go (owns_T 29) 3, .g 4, .go (owns_T 29) 5, .go (owns_T 29) 6, .g 7, .go (owns_T 29) 11, .go (owns_T 29) 12, .g 13, .go (owns_T 29) 14, .go (owns_T 29) 15, .g 16, trivial⟩ Try.call9 fun _ _ _ c => ?_
 refine E0 (nQ hd2 () (c.rk (rg 11) (rg 13)))
 refine q0 (qs := [(0, 41, .agg #[I x4.Pc, L i3.1 x4.Regs i3.2.1, L i3.2.2.1 x4.Mem i3.2.2.2.1, L i3.2.2.2.2.1 x4.Stack i3.2.2.2.2.2.1, I x4.In, L i3.2.2.2.2.2.2.1 x4.Out i3.2.2.2.2.2.2.2.1, I x4.Code, I x4.Steps, L i3.2.2.2.2.2.2.2.2.1 x4.Cond i3.2.2.2.2.2.2.2.2.2.1, L i3.2.2.2.2.2.2.2.2.2.2.1 x4.Turns i3.2.2.2.2.2.2.2.2.2.2.2]), (1, 42, .agg #[I p0.Pc, L ga0 p0.Regs gc1, L ga2 p0.Mem gc3, L ga4 p0.Stack gc5, I p0.In, L ga6 p0.Out gc7, I p0.Code, I p0.Steps, L ga8 p0.Cond gc9, L ga10 p0.Turns gc11])]) c (qn [2] ⟨qP [(0, 2)], qP [(0, 0)], trivial⟩ ⟨fun _ _ c => ?_, trivial⟩)
 refine op_of _ rfl rfl ?_
 refine Ca [] c (laws_toPath_ok hx7) ⟨.f 0, .f 1, .f 2, .f 3, .f 4, .f 5, trivial⟩ Try.call6 fun i5 _ _ c => ?_
 refine E0 (nQ hd1 (i5.1, i5.2.1, i5.2.2.1, i5.2.2.2.1, i5.2.2.2.2.1, i5.2.2.2.2.2.1, i5.2.2.2.2.2.2.1, i5.2.2.2.2.2.2.2.1, i5.2.2.2.2.2.2.2.2.1, i5.2.2.2.2.2.2.2.2.2.1, i5.2.2.2.2.2.2.2.2.2.2.1, i5.2.2.2.2.2.2.2.2.2.2.2) (c.rk (rg 17) (rg 13)))
 refine I0 c h (fun h => ?_) fun h => ?_
 refine P0 [] c fun _ c => ?_
 obtain rfl := sj h
 exact wp_ret (tr (Rt c () [] []))
 refine K0 (P0 [] c fun _ c => T0 (Fp [(0, 2)] 2 c fun _ c => Bd h fun x9 hx9 h => Ca [2, 3, 4, 5, 6, 7] c (laws_markPath_ok hx9) trivial Try.call10 fun _ _ _ c => ?_))
 refine Fp [] 1 c fun _ c => E0 (S0 (Bd h fun x10 hx10 h => S0 (rZ [(5, .eq (.bool x10))] [(3, 3), (4, 1)] mix c ⟨Ncl c (fun hg => laws_eqTerm_ok (iteF (gcF hg) hx10)) ⟨.go (owns_T 29) 3, .f 12, trivial⟩ Try.call8, trivial⟩ fun _ _ c => I0 c h (fun h => ?_) fun h => ?_)))
 refine P0 [] c fun _ c => ?_
 obtain rfl := sj h
 exact wp_ret (tr (Rt c () [] []))
 refine K0 (P0 [] c fun _ c => T0 (Fp [(0, 3)] 2 c fun _ c => Bd h fun x11 hx11 h => Ca [3] c (laws_markTerm_ok hx11) trivial Try.call11 fun _ _ _ c => ?_))
 refine Fp [] 1 c fun _ c => E0 (P0 [] c fun _ c => T0 (Fp [(0, 3)] 2 c fun _ c => ?_))
 replace c := c.gm [BX b1 25 [I p0.Pc, L ga0 p0.Regs gc1, L ga2 p0.Mem gc3, L ga4 p0.Stack gc5, I p0.In, L ga6 p0.Out gc7, I p0.Code, I p0.Steps, L ga8 p0.Cond gc9, L ga10 p0.Turns gc11], BX b2 29 [I x3.1.Op, I x3.1.W, I x3.1.N, Str.val x3.1.Name, L i2.1 x3.1.Kids i2.2], BX b3 33 [I x4.Pc, L i3.1 x4.Regs i3.2.1, L i3.2.2.1 x4.Mem i3.2.2.2.1, L i3.2.2.2.2.1 x4.Stack i3.2.2.2.2.2.1, I x4.In, L i3.2.2.2.2.2.2.1 x4.Out i3.2.2.2.2.2.2.2.1, I x4.Code, I x4.Steps, L i3.2.2.2.2.2.2.2.2.1 x4.Cond i3.2.2.2.2.2.2.2.2.2.1, L i3.2.2.2.2.2.2.2.2.2.2.1 x4.Turns i3.2.2.2.2.2.2.2.2.2.2.2], BX b4 29 [I x5.1.Op, I x5.1.W, I x5.1.N, Str.val x5.1.Name, L i4.1 x5.1.Kids i4.2], OD (ownT 29) 29 (L i3.1 x4.Regs i3.2.1) x9.2.Regs, OD (ownT 29) 29 (L i3.2.2.1 x4.Mem i3.2.2.2.1) x9.2.Mem, sl3 (L i3.2.2.2.2.1 x4.Stack i3.2.2.2.2.2.1) x9.2.Stack, OD (ownT 29) 29 (L i3.2.2.2.2.2.2.1 x4.Out i3.2.2.2.2.2.2.2.1) x9.2.Out, OD (ownT 29) 29 (L i3.2.2.2.2.2.2.2.2.1 x4.Cond i3.2.2.2.2.2.2.2.2.2.1) x9.2.Cond, sl3 (L i3.2.2.2.2.2.2.2.2.2.2.1 x4.Turns i3.2.2.2.2.2.2.2.2.2.2.2) x9.2.Turns, OD (ownT 29) 29 (L i4.1 x5.1.Kids i4.2) x11.2.Kids]
 obtain ⟨he1, c⟩ := c.releno 10
 replace c := c.eqs (v := .agg #[I x5.1.Op, I x5.1.W, I x5.1.N, Str.val x5.1.Name, L i4.1 x5.1.Kids i4.2]) (u := .agg #[I x5.1.Op, I x5.1.W, I x5.1.N, Str.val x5.1.Name, L i4.1 x11.2.Kids i4.2]) 65 (by simp only [L, he1])
 replace c := c.bxe (cs := [I x5.1.Op, I x5.1.W, I x5.1.N, Str.val x5.1.Name, L i4.1 x5.1.Kids i4.2]) (cs' := [I x5.1.Op, I x5.1.W, I x5.1.N, Str.val x5.1.Name, L i4.1 x11.2.Kids i4.2]) 3 (by simp only [L, he1])
 refine Bd h fun x12 hx12 h => Ca [] c (laws_heldTerm_ok hx12) ⟨.go (owns_T 29) 10, trivial⟩ Try.call12 fun _ _ _ c => ?_
 refine Fp [] 1 c fun _ c => E0 (S0 (P0 [] c fun _ c => I0 c h (fun h => ?_) fun h => ?_))
 refine P0 [] c fun _ c => ?_
 obtain rfl := sj h
 exact wp_ret (tr (Rt c () [] []))
 refine K0 (S0 (P0 [] c fun _ c => I0 c h (fun h => ?_) fun h => ?_))
 refine P0 [] c fun _ c => ?_
 obtain rfl := sj h
 exact wp_ret (tr (Rt c () [] []))
 refine K0 (T0 (Fp [(0, 0)] 1 c fun _ c => Bd h fun x13 hx13 h => Ca [] c (laws_toPath_ok hx13) ⟨.f 0, .f 1, .f 2, .f 3, .f 4, .f 5, trivial⟩ Try.call6 fun i7 _ _ c => ?_))
 replace c := c.gm [BX b1 25 [I p0.Pc, L ga0 p0.Regs gc1, L ga2 p0.Mem gc3, L ga4 p0.Stack gc5, I p0.In, L ga6 p0.Out gc7, I p0.Code, I p0.Steps, L ga8 p0.Cond gc9, L ga10 p0.Turns gc11], BX b2 29 [I x3.1.Op, I x3.1.W, I x3.1.N, Str.val x3.1.Name, L i2.1 x3.1.Kids i2.2], BX b3 33 [I x4.Pc, L i3.1 x4.Regs i3.2.1, L i3.2.2.1 x4.Mem i3.2.2.2.1, L i3.2.2.2.2.1 x4.Stack i3.2.2.2.2.2.1, I x4.In, L i3.2.2.2.2.2.2.1 x4.Out i3.2.2.2.2.2.2.2.1, I x4.Code, I x4.Steps, L i3.2.2.2.2.2.2.2.2.1 x4.Cond i3.2.2.2.2.2.2.2.2.2.1, L i3.2.2.2.2.2.2.2.2.2.2.1 x4.Turns i3.2.2.2.2.2.2.2.2.2.2.2], BX b4 29 [I x5.1.Op, I x5.1.W, I x5.1.N, Str.val x5.1.Name, L i4.1 x11.2.Kids i4.2], OD (ownT 29) 29 (L i3.1 x4.Regs i3.2.1) x9.2.Regs, OD (ownT 29) 29 (L i3.2.2.1 x4.Mem i3.2.2.2.1) x9.2.Mem, sl3 (L i3.2.2.2.2.1 x4.Stack i3.2.2.2.2.2.1) x9.2.Stack, OD (ownT 29) 29 (L i3.2.2.2.2.2.2.1 x4.Out i3.2.2.2.2.2.2.2.1) x9.2.Out, OD (ownT 29) 29 (L i3.2.2.2.2.2.2.2.2.1 x4.Cond i3.2.2.2.2.2.2.2.2.2.1) x9.2.Cond, sl3 (L i3.2.2.2.2.2.2.2.2.2.2.1 x4.Turns i3.2.2.2.2.2.2.2.2.2.2.2) x9.2.Turns, OD (ownT 29) 29 (L i4.1 x11.2.Kids i4.2) x11.2.Kids, OD (ownT 29) 29 (L i7.1 x13.Regs i7.2.1) x13.Regs, OD (ownT 29) 29 (L i7.2.2.1 x13.Mem i7.2.2.2.1) x13.Mem, sl3 (L i7.2.2.2.2.1 x13.Stack i7.2.2.2.2.2.1) x13.Stack, OD (ownT 29) 29 (L i7.2.2.2.2.2.2.1 x13.Out i7.2.2.2.2.2.2.2.1) x13.Out, OD (ownT 29) 29 (L i7.2.2.2.2.2.2.2.2.1 x13.Cond i7.2.2.2.2.2.2.2.2.2.1) x13.Cond, sl3 (L i7.2.2.2.2.2.2.2.2.2.2.1 x13.Turns i7.2.2.2.2.2.2.2.2.2.2.2) x13.Turns]
 refine Bd h fun x14 hx14 h => Ca [] c (impl_PathTerm_ok hx14) ⟨.go (owns_T 29) 11, .go (owns_T 29) 12, .g 13, .go (owns_T 29) 14, .go (owns_T 29) 15, .g 16, trivial⟩ Try.call7 fun i8 _ _ c => ?_
 refine Fp [] 3 c fun _ c => Eal [I 0, I 0, I 0, Str.val ⟨[]⟩, L none ([] : List D.Term) 0] c fun b5 _ _ c => ?_
 replace c := c.gm [BX b1 25 [I p0.Pc, L ga0 p0.Regs gc1, L ga2 p0.Mem gc3, L ga4 p0.Stack gc5, I p0.In, L ga6 p0.Out gc7, I p0.Code, I p0.Steps, L ga8 p0.Cond gc9, L ga10 p0.Turns gc11], BX b2 29 [I x3.1.Op, I x3.1.W, I x3.1.N, Str.val x3.1.Name, L i2.1 x3.1.Kids i2.2], BX b3 33 [I x4.Pc, L i3.1 x4.Regs i3.2.1, L i3.2.2.1 x4.Mem i3.2.2.2.1, L i3.2.2.2.2.1 x4.Stack i3.2.2.2.2.2.1, I x4.In, L i3.2.2.2.2.2.2.1 x4.Out i3.2.2.2.2.2.2.2.1, I x4.Code, I x4.Steps, L i3.2.2.2.2.2.2.2.2.1 x4.Cond i3.2.2.2.2.2.2.2.2.2.1, L i3.2.2.2.2.2.2.2.2.2.2.1 x4.Turns i3.2.2.2.2.2.2.2.2.2.2.2], BX b4 29 [I x5.1.Op, I x5.1.W, I x5.1.N, Str.val x5.1.Name, L i4.1 x11.2.Kids i4.2], OD (ownT 29) 29 (L i3.1 x4.Regs i3.2.1) x9.2.Regs, OD (ownT 29) 29 (L i3.2.2.1 x4.Mem i3.2.2.2.1) x9.2.Mem, sl3 (L i3.2.2.2.2.1 x4.Stack i3.2.2.2.2.2.1) x9.2.Stack, OD (ownT 29) 29 (L i3.2.2.2.2.2.2.1 x4.Out i3.2.2.2.2.2.2.2.1) x9.2.Out, OD (ownT 29) 29 (L i3.2.2.2.2.2.2.2.2.1 x4.Cond i3.2.2.2.2.2.2.2.2.2.1) x9.2.Cond, sl3 (L i3.2.2.2.2.2.2.2.2.2.2.1 x4.Turns i3.2.2.2.2.2.2.2.2.2.2.2) x9.2.Turns, OD (ownT 29) 29 (L i4.1 x11.2.Kids i4.2) x11.2.Kids, OD (ownT 29) 29 (L i7.1 x13.Regs i7.2.1) x13.Regs, OD (ownT 29) 29 (L i7.2.2.1 x13.Mem i7.2.2.2.1) x13.Mem, sl3 (L i7.2.2.2.2.1 x13.Stack i7.2.2.2.2.2.1) x13.Stack, OD (ownT 29) 29 (L i7.2.2.2.2.2.2.1 x13.Out i7.2.2.2.2.2.2.2.1) x13.Out, OD (ownT 29) 29 (L i7.2.2.2.2.2.2.2.2.1 x13.Cond i7.2.2.2.2.2.2.2.2.2.1) x13.Cond, sl3 (L i7.2.2.2.2.2.2.2.2.2.2.1 x13.Turns i7.2.2.2.2.2.2.2.2.2.2.2) x13.Turns, OD (ownT 29) 29 (L i8.1 x14.1.Kids i8.2) x14.1.Kids, BX b5 29 [I 0, I 0, I 0, Str.val ⟨[]⟩, L none ([] : List D.Term) 0]]
 refine Ess 18 [I x14.1.Op, I x14.1.W, I x14.1.N, Str.val x14.1.Name, L i8.1 x14.1.Kids i8.2] c fun _ c => ?_
 refine Fp [] 1 c fun _ c => E0 (S0 (Bd h fun x15 hx15 h => S0 (rZ [(2, .eq (.bool x15))] [(0, 4), (1, 1)] mix c ⟨Ncl c (kN (laws_eqTerm_ok hx15)) ⟨.go (owns_T 29) 17, .f 12, trivial⟩ Try.call8, trivial⟩ fun _ _ c => I0 c h (fun h => ?_) fun h => ?_)))
 refine P0 [] c fun _ c => ?_
 obtain rfl := sj h
 exact wp_ret (tr (Rt c () [] []))
 refine K0 (P0 [] c fun _ c => T0 (Fp [(0, 3)] 2 c fun _ c => Bd h fun x16 hx16 h => Ca [] c (laws_heldTerm_ok hx16) ⟨.go (owns_T 29) 10, trivial⟩ Try.call12 fun _ _ _ c => ?_))
 refine Fp [] 1 c fun _ c => E0 (S0 (P0 [] c fun _ c => I0 c h (fun h => ?_) fun h => ?_))
 refine P0 [] c fun _ c => ?_
 obtain rfl := sj h
 exact wp_ret (tr (Rt c () [] []))
 refine K0 (S0 (P0 [] c fun _ c => I0 c h (fun h => ?_) fun h => ?_))
 refine P0 [] c fun _ c => ?_
 obtain rfl := sj h
 exact wp_ret (tr (Rt c () [] []))
 refine K0 (P0 [] c fun _ c => ?_)
 obtain rfl := sj h
 exact wp_ret (Rt c () [] [])
end Go.Proofs.Ytbljmkpofaibeaa
