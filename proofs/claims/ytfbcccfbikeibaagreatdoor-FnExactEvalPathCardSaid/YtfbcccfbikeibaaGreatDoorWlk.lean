/- The walks, printed by a program. -/
import Derived.Test.YtfbcccfbikeibaaGreatDoorWlkA
set_option linter.unusedVariables false
set_option maxRecDepth 100000
namespace Go.Proofs.YtfbcccfbikeibaaGreatDoor
open Go.GL Go.Maps Go.WideMaps
theorem impl_ApplyBinary_ok {p0 : Int} {p1 : Int} {p2 : Int} {p3 : Int} {r : Int} (h : impl_ApplyBinary p0 p1 p2 p3 = some r) : Con Tryz.prog 92 [I p0, I p1, I p2, I p3] [] [] fun (_ : Unit) => ([I r], [], []) := by
 unfold impl_ApplyBinary at h
 refine En Tryz.func92 rfl Tryz.ntmps92 fun _ fr w c => ?_
 refine P0 [] c fun _ c => S0 (Bd h fun x1 hx1 h => Bd h fun x2 hx2 h => S0 (rZ [(2, .eq (.bool x1)), (7, .eq (.bool x2))] [] mix c ⟨Ncl c (kN (impl_WordOk_ok hx1)) trivial Tryz.call79, Ncl c (fun hg => impl_WordOk_ok (iteF (gcF hg) hx2)) trivial Tryz.call79, trivial⟩ fun _ _ c => I0 c h (fun h => ?_) fun h => ?_))
 refine P0 [] c fun _ c => ?_
 cases h
 exact wp_ret (tr (Rt c () [] []))
 refine K0 (S0 (P0 [] c fun _ c => wp_block (P0 [] c fun _ c => I0 c h (fun h => ?_) fun h => ?_)))
 refine T0 (Fp [] 4 c fun _ c => Bd h fun x3 hx3 h => Ca [] c (impl_WordOf_ok hx3) trivial Tryz.call112 fun _ _ _ c => ?_)
 refine Fp [] 1 c fun _ c => E0 ?_
 obtain rfl := sj h
 exact wp_ret (br (tr (Rt c () [] [])))
 refine P0 [] c fun _ c => I0 c h (fun h => ?_) fun h => ?_
 refine T0 (Fp [] 4 c fun _ c => Bd h fun x4 hx4 h => Ca [] c (impl_WordOf_ok hx4) trivial Tryz.call112 fun _ _ _ c => ?_)
 refine Fp [] 1 c fun _ c => E0 ?_
 obtain rfl := sj h
 exact wp_ret (br (tr (Rt c () [] [])))
 refine P0 [] c fun _ c => I0 c h (fun h => ?_) fun h => ?_
 refine T0 (Fp [] 4 c fun _ c => Bd h fun x5 hx5 h => Ca [] c (impl_WordOf_ok hx5) trivial Tryz.call112 fun _ _ _ c => ?_)
 refine Fp [] 1 c fun _ c => E0 ?_
 obtain rfl := sj h
 exact wp_ret (br (tr (Rt c () [] [])))
 refine P0 [] c fun _ c => I0 c h (fun h => ?_) fun h => ?_
 refine S0 (P0 [] c fun _ c => I0 c h (fun h => ?_) fun h => ?_)
 refine T0 (Fp [] 2 c fun _ c => Bd h fun x6 hx6 h => Eshl c hx6 fun _ c => ?_)
 refine Fp [] 2 c fun _ c => E0 ?_
 cases h
 exact wp_ret (tr (br (tr (Rt c () [] []))))
 refine K0 (T0 (Fp [] 2 c fun _ c => Bd h fun x7 hx7 h => Equo c hx7 fun _ c => ?_))
 refine Fp [] 1 c fun _ c => E0 ?_
 obtain rfl := sj h
 exact wp_ret (br (tr (Rt c () [] [])))
 refine P0 [] c fun _ c => I0 c h (fun h => ?_) fun h => ?_
 refine S0 (P0 [] c fun _ c => I0 c h (fun h => ?_) fun h => ?_)
 refine P0 [] c fun _ c => ?_
 obtain rfl := sj h
 exact wp_ret (tr (br (tr (Rt c () [] []))))
 refine K0 (T0 (Fp [] 2 c fun _ c => Bd h fun x8 hx8 h => Erem c hx8 fun _ c => ?_))
 refine Fp [] 1 c fun _ c => E0 ?_
 obtain rfl := sj h
 exact wp_ret (br (tr (Rt c () [] [])))
 refine P0 [] c fun _ c => I0 c h (fun h => ?_) fun h => ?_
 refine P0 [] c fun _ c => ?_
 cases h
 exact wp_ret (br (tr (Rt c () [] [])))
 refine P0 [] c fun _ c => I0 c h (fun h => ?_) fun h => ?_
 refine P0 [] c fun _ c => ?_
 cases h
 exact wp_ret (br (tr (Rt c () [] [])))
 refine P0 [] c fun _ c => I0 c h (fun h => ?_) fun h => ?_
 refine P0 [] c fun _ c => ?_
 cases h
 exact wp_ret (br (tr (Rt c () [] [])))
 refine S0 (P0 [] c fun _ c => I0 c h (fun h => ?_) fun h => ?_)
 refine K0 (I0 c h (fun h => ?_) fun h => ?_)
 refine T0 (Fp [] 4 c fun _ c => Bd h fun x9 hx9 h => Ca [] c (impl_shiftWord_ok hx9) trivial Tryz.call114 fun _ _ _ c => ?_)
 refine Fp [] 1 c fun _ c => E0 ?_
 obtain rfl := sj h
 exact wp_ret (br (tr (Rt c () [] [])))
 refine P0 [] c fun _ c => I0 c h (fun h => ?_) fun h => ?_
 refine T0 (Fp [] 3 c fun _ c => Bd h fun x10 hx10 h => Ca [] c (impl_boolWord_ok hx10) trivial Tryz.call115 fun _ _ _ c => ?_)
 refine Fp [] 1 c fun _ c => E0 ?_
 obtain rfl := sj h
 exact wp_ret (br (tr (Rt c () [] [])))
 refine P0 [] c fun _ c => I0 c h (fun h => ?_) fun h => ?_
 refine T0 (Fp [] 3 c fun _ c => Bd h fun x11 hx11 h => Ca [] c (impl_boolWord_ok hx11) trivial Tryz.call115 fun _ _ _ c => ?_)
 refine Fp [] 1 c fun _ c => E0 ?_
 obtain rfl := sj h
 exact wp_ret (br (tr (Rt c () [] [])))
 refine P0 [] c fun _ c => I0 c h (fun h => ?_) fun h => ?_
 refine T0 (Fp [] 2 c fun _ c => Bd h fun x12 hx12 h => Ca [] c (impl_SignedOf_ok hx12) trivial Tryz.call113 fun _ _ _ c => ?_)
 refine Fp [] 2 c fun _ c => Bd h fun x13 hx13 h => Ca [] c (impl_SignedOf_ok hx13) trivial Tryz.call113 fun _ _ _ c => ?_
 refine Fp [] 1 c fun _ c => Bd h fun x14 hx14 h => Ca [] c (impl_boolWord_ok hx14) trivial Tryz.call115 fun _ _ _ c => ?_
 refine Fp [] 1 c fun _ c => E0 ?_
 obtain rfl := sj h
 exact wp_ret (br (tr (Rt c () [] [])))
 refine K1 (bk (tn (P0 [] c fun _ c => ?_)))
 cases h
 exact wp_ret (Rt c () [] [])
 refine P0 [] c fun _ c => Mp (p0 == 12) [(75, .bool (p0 == 12))] [(75, .bool (p0 == 13))] [(75, .bool ((p0 == 12) || (p0 == 13)))] [75, 78] c fun _ c => I0 c h (fun h => ?_) fun h => ?_
 refine T0 (Fp [] 4 c fun _ c => Bd h fun x15 hx15 h => Ca [] c (impl_shiftWord_ok hx15) trivial Tryz.call114 fun _ _ _ c => ?_)
 refine Fp [] 1 c fun _ c => E0 ?_
 obtain rfl := sj h
 exact wp_ret (br (tr (Rt c () [] [])))
 refine P0 [] c fun _ c => I0 c h (fun h => ?_) fun h => ?_
 refine T0 (Fp [] 3 c fun _ c => Bd h fun x16 hx16 h => Ca [] c (impl_boolWord_ok hx16) trivial Tryz.call115 fun _ _ _ c => ?_)
 refine Fp [] 1 c fun _ c => E0 ?_
 obtain rfl := sj h
 exact wp_ret (br (tr (Rt c () [] [])))
 refine P0 [] c fun _ c => I0 c h (fun h => ?_) fun h => ?_
 refine T0 (Fp [] 3 c fun _ c => Bd h fun x17 hx17 h => Ca [] c (impl_boolWord_ok hx17) trivial Tryz.call115 fun _ _ _ c => ?_)
 refine Fp [] 1 c fun _ c => E0 ?_
 obtain rfl := sj h
 exact wp_ret (br (tr (Rt c () [] [])))
 refine P0 [] c fun _ c => I0 c h (fun h => ?_) fun h => ?_
 refine T0 (Fp [] 2 c fun _ c => Bd h fun x18 hx18 h => Ca [] c (impl_SignedOf_ok hx18) trivial Tryz.call113 fun _ _ _ c => ?_)
 refine Fp [] 2 c fun _ c => Bd h fun x19 hx19 h => Ca [] c (impl_SignedOf_ok hx19) trivial Tryz.call113 fun _ _ _ c => ?_
 refine Fp [] 1 c fun _ c => Bd h fun x20 hx20 h => Ca [] c (impl_boolWord_ok hx20) trivial Tryz.call115 fun _ _ _ c => ?_
 refine Fp [] 1 c fun _ c => E0 ?_
 obtain rfl := sj h
 exact wp_ret (br (tr (Rt c () [] [])))
 refine K1 (bk (tn (P0 [] c fun _ c => ?_)))
 cases h
 exact wp_ret (Rt c () [] [])

theorem impl_evalNode_ok {n : Nat} : ∀ {p0 : D.Term} {p1 : Option (List (Str × Int))} {ga0 : Option Addr} {gc1 : Nat} {gu2 : Value} {r : Int} (h : impl_evalNode n p0 p1 = some r), Con Tryz.prog 69 [.agg #[I p0.Op, I p0.W, I p0.N, Str.val p0.Name, L ga0 p0.Kids gc1], gu2] [] [RO (L ga0 p0.Kids gc1) p0.Kids, MO map102 (gu2) p1] fun (_ : Unit) => ([I r], [], []) := by
 induction n with
 | zero => intro p0 p1 ga0 gc1 gu2 r h; simp [impl_evalNode] at h
 | succ n ih =>
 intro p0 p1 ga0 gc1 gu2 r h
 rw [impl_evalNode] at h
 refine En Tryz.func69 rfl Tryz.ntmps69 fun _ fr w c => ?_
 refine T0 (Ebx [I p0.Op, I p0.W, I p0.N, Str.val p0.Name, L ga0 p0.Kids gc1] c fun b1 _ _ c => ?_)
 refine Fp [] 1 c fun _ c => E0 (S0 (P0 [(1, 0)] c fun _ c => wp_block (P0 [] c fun _ c => I0 c h (fun h => ?_) fun h => ?_)))
 refine P0 [(1, 0)] c fun _ c => ?_
 cases h
 exact wp_ret (br (tr (Rt c () [] [])))
 refine P0 [] c fun _ c => I0 c h (fun h => ?_) fun h => ?_
 refine T0 (Fp [(2, 0)] 3 c fun _ c => Bd h fun x1 hx1 h => Erg c (.f 1) hx1 fun _ c => ?_)
 refine Fp [] 1 c fun _ c => E0 ?_
 obtain rfl := sj h
 exact wp_ret (br (tr (Rt c () [] [])))
 refine P0 [] c fun _ c => I0 c h (fun h => ?_) fun h => ?_
 refine S0 (T0 (Fp [(1, 0)] 2 c fun _ c => Bd h fun x2 hx2 h => Eem c (.f 0) hx2 fun _ u1 _ c => ?_))
 obtain ⟨a1, c1, rfl, c⟩ := c.o_Term 2
 refine Fp [] 1 c fun _ c => Bd h fun x3 hx3 h => Ca [] c (ih hx3) ⟨.f 3, .f 1, trivial⟩ Tryz.call69 fun _ _ _ c => ?_
 refine Fp [] 1 c fun _ c => E0 (I0 c h (fun h => ?_) fun h => ?_)
 refine T0 (Fp [(1, 0)] 2 c fun _ c => Bd h fun x4 hx4 h => Eem c (.f 0) hx4 fun _ u2 _ c => ?_)
 obtain ⟨a2, c2, rfl, c⟩ := c.o_Term 4
 refine Fp [] 1 c fun _ c => Bd h fun x5 hx5 h => Ca [] c (ih hx5) ⟨.f 5, .f 1, trivial⟩ Tryz.call69 fun _ _ _ c => ?_
 refine Fp [] 1 c fun _ c => E0 ?_
 obtain rfl := sj h
 exact wp_ret (tr (br (tr (Rt c () [] []))))
 refine K0 (T0 (Fp [(1, 0)] 2 c fun _ c => Bd h fun x6 hx6 h => Eem c (.f 0) hx6 fun _ u3 _ c => ?_))
 obtain ⟨a3, c3, rfl, c⟩ := c.o_Term 4
 refine Fp [] 1 c fun _ c => Bd h fun x7 hx7 h => Ca [] c (ih hx7) ⟨.f 5, .f 1, trivial⟩ Tryz.call69 fun _ _ _ c => ?_
 refine Fp [] 1 c fun _ c => E0 ?_
 obtain rfl := sj h
 exact wp_ret (br (tr (Rt c () [] [])))
 refine K1 (bk (tn (T0 (Fp [(1, 0)] 2 c fun _ c => Bd h fun x8 hx8 h => Eem c (.f 0) hx8 fun _ u4 _ c => ?_))))
 obtain ⟨a4, c4, rfl, c⟩ := c.o_Term 2
 refine Fp [] 1 c fun _ c => Bd h fun x9 hx9 h => Ca [] c (ih hx9) ⟨.f 3, .f 1, trivial⟩ Tryz.call69 fun _ _ _ c => ?_
 refine Fp [] 1 c fun _ c => E0 (T0 (Fp [(1, 0)] 2 c fun _ c => Bd h fun x10 hx10 h => Eef c (.f 0) hx10 fc75_1 fun _ _ _ c => ?_))
 refine Fp [] 1 c fun _ c => E0 (S0 (P0 [(1, 0)] c fun _ c => wp_block (S0 (P0 [] c fun _ c => Mp (p0.Op == 1) [(54, .bool (p0.Op == 1))] [(54, .bool (p0.Op == 2))] [(54, .bool ((p0.Op == 1) || (p0.Op == 2)))] [54, 56] c fun _ c => I0 c h (fun h => ?_) fun h => ?_))))
 refine T0 (Fp [(1, 0)] 4 c fun _ c => Bd h fun x11 hx11 h => Ca [] c (impl_ApplyUnary_ok hx11) trivial Tryz.call88 fun _ _ _ c => ?_)
 refine Fp [] 1 c fun _ c => E0 ?_
 obtain rfl := sj h
 exact wp_ret (br (tr (Rt c () [] [])))
 refine P0 [] c fun _ c => I0 c h (fun h => ?_) fun h => ?_
 refine T0 (Fp [(3, 0), (5, 0)] 6 c fun _ c => Bd h fun x12 hx12 h => Ca [] c (impl_CutWord_ok hx12) trivial Tryz.call89 fun _ _ _ c => ?_)
 refine Fp [] 1 c fun _ c => E0 ?_
 obtain rfl := sj h
 exact wp_ret (br (tr (Rt c () [] [])))
 refine S0 (P0 [] c fun _ c => Mp (p0.Op == 20) [(71, .bool (p0.Op == 20))] [(71, .bool (p0.Op == 21))] [(71, .bool ((p0.Op == 20) || (p0.Op == 21)))] [71, 73] c fun _ c => I0 c h (fun h => ?_) fun h => ?_)
 refine T0 (Fp [(3, 0), (5, 0)] 7 c fun _ c => Bd h fun x13 hx13 h => Ca [] c (impl_WidenWord_ok hx13) trivial Tryz.call90 fun _ _ _ c => ?_)
 refine Fp [] 1 c fun _ c => E0 ?_
 obtain rfl := sj h
 exact wp_ret (br (tr (Rt c () [] [])))
 refine K1 (bk (tn (T0 (Fp [(1, 0)] 2 c fun _ c => Bd h fun x14 hx14 h => Eem c (.f 0) hx14 fun _ u5 _ c => ?_))))
 obtain ⟨a5, c5, rfl, c⟩ := c.o_Term 4
 refine Fp [] 1 c fun _ c => Bd h fun x15 hx15 h => Ca [] c (ih hx15) ⟨.f 5, .f 1, trivial⟩ Tryz.call69 fun _ _ _ c => ?_
 refine Fp [] 1 c fun _ c => E0 (S0 (P0 [(1, 0)] c fun _ c => I0 c h (fun h => ?_) fun h => ?_))
 refine T0 (Fp [(3, 0)] 4 c fun _ c => ?_)
 replace c := c.gm [BX b1 75 [I p0.Op, I p0.W, I p0.N, Str.val p0.Name, L ga0 p0.Kids gc1]]
 refine Bd h fun x16 hx16 h => Eef c (.f 0) hx16 fc75_1 fun _ _ _ c => ?_
 refine Fp [] 1 c fun _ c => Bd h fun x17 hx17 h => Ca [] c (impl_JoinWords_ok hx17) trivial Tryz.call91 fun _ _ _ c => ?_
 refine Fp [] 1 c fun _ c => E0 ?_
 obtain rfl := sj h
 exact wp_ret (tr (Rt c () [] []))
 refine K0 (T0 (Fp [(1, 0)] 5 c fun _ c => ?_))
 replace c := c.gm [BX b1 75 [I p0.Op, I p0.W, I p0.N, Str.val p0.Name, L ga0 p0.Kids gc1]]
 refine Bd h fun x18 hx18 h => Ca [] c (impl_ApplyBinary_ok hx18) trivial Tryz.call92 fun _ _ _ c => ?_
 refine Fp [] 1 c fun _ c => E0 ?_
 obtain rfl := sj h
 exact wp_ret (Rt c () [] [])

theorem impl_EvalTerm_ok {n : Nat} {p0 : D.Term} {p1 : List D.Value} {ga0 : Option Addr} {gc1 : Nat} {ga2 : Option Addr} {gc3 : Nat} {r : Int × Bool} (h : impl_EvalTerm n p0 p1 = some r) : Con Tryz.prog 43 [.agg #[I p0.Op, I p0.W, I p0.N, Str.val p0.Name, L ga0 p0.Kids gc1], L ga2 p1 gc3] [] [RO (L ga0 p0.Kids gc1) p0.Kids, RO (L ga2 p1 gc3) p1] fun (_ : Unit) => ([I r.1, .bool r.2], [], []) := by
 unfold impl_EvalTerm at h
 refine En Tryz.func43 rfl Tryz.ntmps43 fun _ fr w c => ?_
 refine T0 (Ebx [I p0.Op, I p0.W, I p0.N, Str.val p0.Name, L ga0 p0.Kids gc1] c fun b1 _ _ c => ?_)
 refine Fp [] 2 c fun _ c => E0 (S0 (Bd h fun x1 hx1 h => Bd h fun x2 hx2 h => S0 (rZ [(1, .eq (.bool x1)), (5, .eq (.bool x2))] [(0, 0)] mix c ⟨Ncl c (kN (impl_TermOk_ok hx1)) ⟨.f 0, trivial⟩ Tryz.call66, Ncl c (fun hg => impl_ValuesOk_ok (iteF (gcF hg) hx2)) ⟨.f 1, trivial⟩ Tryz.call67, trivial⟩ fun _ _ c => I0 c h (fun h => ?_) fun h => ?_)))
 refine P0 [] c fun _ c => ?_
 cases h
 exact wp_ret (tr (Rg c () [] [] (.tmp (.tmp .nil))))
 refine K0 (T0 (Emm map102 c fun b2 _ _ c => ?_))
 refine Fp [] 1 c fun _ c => E0 (T0 (Emm map102 c fun b3 _ _ c => ?_))
 refine Fp [] 1 c fun _ c => E0 (S0 (P0 [] c fun _ c => Bd h fun rl1 hit1 h => Lp (fun s1  (_ : Unit) => ([(2, B b1 0), (6, .map (some b2)), (7, .map (some b3)), (24, L ga2 p1 gc3), (25, I (len p1)), (26, I s1.1)], fun Γ => (Γ.set 1 (MP map102 b2 s1.2.1)).set 2 (MP map102 b3 s1.2.2), [])) (fun  (_ : Unit) => ([(2, B b1 0), (6, .map (some b2)), (7, .map (some b3))], fun Γ => (Γ.set 1 (MP map102 b2 rl1.1)).set 2 (MP map102 b3 rl1.2), [])) hit1 c () (c.re [0, 1, 2] [0, 1]) (fun s1 q1 _ _ _ c h hr1 => ?_) fun _ _ _ c => ?_))
 refine P0 [] c fun _ c => S0 (I0 c h (fun h => ?_) fun h => ?_)
 refine K0 (S0 (wp_block (T0 (Bd h fun x3 hx3 h => Eel c (.f 1) hx3 fun _ _ c => ?_))))
 refine Eal [Str.val ⟨[]⟩, I 0, I 0] c fun b4 _ _ c => ?_
 refine Ess 3 [Str.val x3.Name, I x3.W, I x3.N] c fun _ c => ?_
 refine E0 (T0 (Fp [(2, 1), (4, 1)] 5 c fun _ c => ?_))
 replace c := c.gm [BX b1 75 [I p0.Op, I p0.W, I p0.N, Str.val p0.Name, L ga0 p0.Kids gc1], MP map102 b2 s1.2.1, MP map102 b3 s1.2.2, BX b4 89 [Str.val x3.Name, I x3.W, I x3.N]]
 refine Bd h fun x4 hx4 h => Emp 1 c hx4 fun _ c => ?_
 refine E0 (T1 (Fp [(2, 1), (4, 1)] 5 c fun _ c => Bd h fun x5 hx5 h => Emp 2 c hx5 fun _ c => ?_))
 refine E1 (bk (tn (P1 [] c fun _ c => Nx h () (c.re [0, 1, 2] [0, 1]))))
 refine wp_exit (te (te (be ?_)))
 obtain rfl := hr1 _ (Option.some.inj h).symm
 exact tn ⟨(), c.re [0, 1, 2] [0, 1]⟩
 refine S0 (T0 (Fp [(0, 0)] 1 c fun _ c => Bd h fun x6 hx6 h => Ca [] c (impl_VarsOf_ok hx6) ⟨.f 0, trivial⟩ Tryz.call68 fun i1 _ _ c => ?_))
 refine Fp [] 2 c fun _ c => E0 (Bd h fun rl2 hit2 h => ?_)
 have hk2 := h
 refine LpR (fun s2  (_ : Unit) => ([(2, B b1 0), (6, .map (some b2)), (7, .map (some b3)), (42, L i1.1 x6 i1.2), (43, I (len x6)), (44, I s2)], id, [])) (fun s  (_ : Unit) => ([(2, B b1 0), (6, .map (some b2))], id, [])) hit2 c () (c.re (rg 4) [0, 1]) (fun s2 q2 _ _ _ c h hr2 => ?_) fun s2r _ _ _ hrl c => ?_
 refine P0 [] c fun _ c => S0 (I0 c h (fun h => ?_) fun h => ?_)
 refine K0 (S0 (wp_block (T0 (Bd h fun x7 hx7 h => Eel c (.g 3) hx7 fun _ _ c => ?_))))
 refine Eal [Str.val ⟨[]⟩, I 0, I 0] c fun b5 _ _ c => ?_
 replace c := c.gm [BX b1 75 [I p0.Op, I p0.W, I p0.N, Str.val p0.Name, L ga0 p0.Kids gc1], MP map102 b2 rl1.1, MP map102 b3 rl1.2, sl89 (L i1.1 x6 i1.2) x6, BX b5 89 [Str.val ⟨[]⟩, I 0, I 0]]
 refine Ess 4 [Str.val x7.Name, I x7.W, I x7.N] c fun _ c => ?_
 refine E0 (T0 (Fp [(2, 1)] 3 c fun _ c => Bd h fun x8 hx8 h => Emg2 2 c hx8 fun _ c => ?_))
 refine Fp [] 5 c fun _ c => E0 (S0 (Ry [(5, 1)] mix c fun _ _ c => I0 c h (fun h => ?_) fun h => ?_))
 refine P0 [] c fun _ c => ?_
 obtain rfl := hr2 _ (Option.some.inj h).symm
 obtain rfl := Option.some.inj hk2
 exact wp_ret (br (tr (tr (br (tr (Rg c () [] [] (.tmp (.tmp .nil))))))))
 refine K1 (bk (tn (P1 [] c fun _ c => Nx h () (c.re (rg 4) [0, 1]))))
 refine wp_exit (te (te (be ?_)))
 obtain rfl := hr2 _ (Option.some.inj h).symm
 exact tn ⟨_, (), rfl, c.re (rg 4) [0, 1]⟩
 subst hrl
 refine T0 (Fp [(0, 0)] 2 c fun _ c => Bd h fun x9 hx9 h => Ca [] c (impl_evalNode_ok hx9) ⟨.f 0, .mp 1, trivial⟩ Tryz.call69 fun _ _ _ c => ?_)
 refine Fp [] 2 c fun _ c => E0 ?_
 cases h
 exact wp_ret (Rg c () [] [] (.tmp (.tmp .nil)))

theorem impl_HoldsPath_ok {n : Nat} {p0 : D.Program} {p1 : D.Path} {p2 : List Int} {ga0 : Option Addr} {gc1 : Nat} {ga2 : Option Addr} {gc3 : Nat} {ga4 : Option Addr} {gc5 : Nat} {ga6 : Option Addr} {gc7 : Nat} {ga8 : Option Addr} {gc9 : Nat} {ga10 : Option Addr} {gc11 : Nat} {ga12 : Option Addr} {gc13 : Nat} {ga14 : Option Addr} {gc15 : Nat} {r : Bool} (h : impl_HoldsPath n p0 p1 p2 = some r) : Con Tryz.prog 12 [.agg #[I p0.W, I p0.Mem, I p0.In, L ga0 p0.Code gc1], .agg #[I p1.Pc, L ga2 p1.Regs gc3, L ga4 p1.Mem gc5, L ga6 p1.Stack gc7, I p1.In, L ga8 p1.Out gc9, I p1.Code, I p1.Steps, L ga10 p1.Cond gc11, L ga12 p1.Turns gc13], L ga14 p2 gc15] [] [RO (L ga0 p0.Code gc1) p0.Code, RO (L ga2 p1.Regs gc3) p1.Regs, RO (L ga4 p1.Mem gc5) p1.Mem, RO (L ga6 p1.Stack gc7) p1.Stack, RO (L ga8 p1.Out gc9) p1.Out, RO (L ga10 p1.Cond gc11) p1.Cond, RO (L ga12 p1.Turns gc13) p1.Turns, RO (L ga14 p2 gc15) p2, TBf Tryz.prog] fun (_ : Unit) => ([.bool r], [], []) := by
 unfold impl_HoldsPath at h
 refine En Tryz.func12 rfl Tryz.ntmps12 fun _ fr w c => ?_
 refine T0 (Ebx [I p0.W, I p0.Mem, I p0.In, L ga0 p0.Code gc1] c fun b1 _ _ c => ?_)
 refine Ebx [I p1.Pc, L ga2 p1.Regs gc3, L ga4 p1.Mem gc5, L ga6 p1.Stack gc7, I p1.In, L ga8 p1.Out gc9, I p1.Code, I p1.Steps, L ga10 p1.Cond gc11, L ga12 p1.Turns gc13] c fun b2 _ _ c => ?_
 refine Fp [] 1 c fun _ c => E0 (S0 (Bd h fun x1 hx1 h => Bd h fun x2 hx2 h => S0 (rZ [(2, .eq (.bool x1)), (7, .eq (.bool x2))] [(0, 0), (1, 1), (5, 0)] mix c ⟨Ncl c (kN (impl_PathOk_ok hx1)) ⟨.f 0, .f 1, .f 2, .f 3, .f 4, .f 5, .f 6, trivial⟩ Tryz.call40, Ncl c (fun hg => impl_InputsOk_ok (iteF (gcF hg) hx2)) ⟨.f 0, .f 7, trivial⟩ Tryz.call41, trivial⟩ fun _ _ c => I0 c h (fun h => ?_) fun h => ?_)))
 refine P0 [] c fun _ c => ?_
 obtain rfl := sj h
 exact wp_ret (tr (Rt c () [] []))
 refine K0 (T0 (Fp [(0, 0)] 2 c fun _ c => Bd h fun x3 hx3 h => Ca [] c (impl_inputValues_ok hx3) ⟨.f 0, .f 7, .f 8, trivial⟩ Tryz.call42 fun i1 _ _ c => ?_))
 refine Fp [] 1 c fun _ c => E0 (S0 (P0 [(1, 1)] c fun _ c => Bd h fun rl1 hit1 h => ?_))
 have hk1 := h
 refine LpR (fun s1  (_ : Unit) => ([(4, B b2 0), (7, L i1.1 x3 i1.2), (26, I (len p1.Cond)), (27, I s1)], id, [])) (fun s  (_ : Unit) => ([], id, [])) hit1 c () (c.re [0, 1, 2] (rg 9)) (fun s1 q1 _ _ _ c h hr1 => ?_) fun s1r _ _ _ hrl c => ?_
 refine P0 [] c fun _ c => S0 (I0 c h (fun h => ?_) fun h => ?_)
 refine K0 (S0 (wp_block (P0 [] c fun _ c => T0 (Fp [(1, 1)] 3 c fun _ c => Bd h fun x4 hx4 h => Eem c (.f 5) hx4 fun _ u1 _ c => ?_))))
 obtain ⟨a1, c1, rfl, c⟩ := c.o_Term 9
 refine Fp [] 1 c fun _ c => Bd h fun x5 hx5 h => Ca [] c (impl_EvalTerm_ok hx5) ⟨.f 10, .g 2, trivial⟩ Tryz.call43 fun _ _ _ c => ?_
 refine Fp [] 5 c fun _ c => E0 (S0 (Ry [] mix c fun _ _ c => I0 c h (fun h => ?_) fun h => ?_))
 refine P0 [] c fun _ c => ?_
 obtain rfl := hr1 _ (Option.some.inj h).symm
 obtain rfl := Option.some.inj hk1
 exact wp_ret (br (tr (tr (br (tr (Rt c () [] []))))))
 refine K1 (bk (tn (P1 [] c fun _ c => Nx h () (c.re [0, 1, 2] (rg 9)))))
 refine wp_exit (te (te (be ?_)))
 obtain rfl := hr1 _ (Option.some.inj h).symm
 exact tn ⟨_, (), rfl, c.re [0, 1, 2] (rg 9)⟩
 subst hrl
 refine P0 [] c fun _ c => ?_
 obtain rfl := sj h
 exact wp_ret (Rt c () [] [])

theorem impl_evalTerms_ok {n : Nat} {p0 : List D.Term} {p1 : List D.Value} {ga0 : Option Addr} {gc1 : Nat} {ga2 : Option Addr} {gc3 : Nat} {r : (List Int) × Bool} (h : impl_evalTerms n p0 p1 = some r) : Con Tryz.prog 48 [L ga0 p0 gc1, L ga2 p1 gc3] [] [RO (L ga0 p0 gc1) p0, RO (L ga2 p1 gc3) p1] fun (i : Option Addr × Nat) => ([L i.1 r.1 i.2, .bool r.2], [sl3 (L i.1 r.1 i.2) r.1], []) := by
 unfold impl_evalTerms at h
 refine En Tryz.func48 rfl Tryz.ntmps48 fun _ fr w c => ?_
 refine P0 [] c fun _ c => T0 (Fp [] 2 c fun _ c => Bd h fun x1 hx1 h => Emk 3 c hx1 fun a1 c1 _ _ c => ?_)
 refine Fp [] 1 c fun _ c => E0 (S0 (P0 [] c fun _ c => Bd h fun rl1 hit1 h => ?_))
 have hk1 := h
 refine LpR (fun s1  (_ : Unit) => ([(0, L ga0 p0 gc1), (1, L ga2 p1 gc3), (6, L a1 x1 c1), (14, I (len p0)), (15, I s1.1)], fun Γ => Γ.set 0 (sl3 (L a1 x1 c1) s1.2), [])) (fun s  (_ : Unit) => ([(6, L a1 x1 c1)], fun Γ => Γ.set 0 (sl3 (L a1 x1 c1) s), [])) hit1 c () (c.re [0] [0, 1]) (fun s1 q1 _ _ _ c h hr1 => ?_) fun s1r _ _ _ hrl c => ?_
 refine P0 [] c fun _ c => S0 (I0 c h (fun h => ?_) fun h => ?_)
 refine K0 (S0 (wp_block (P0 [] c fun _ c => T0 (Fp [] 2 c fun _ c => Bd h fun x2 hx2 h => Eem c (.f 0) hx2 fun _ u1 _ c => ?_))))
 obtain ⟨a2, c2, rfl, c⟩ := c.o_Term 2
 refine Fp [] 1 c fun _ c => Bd h fun x3 hx3 h => Ca [] c (impl_EvalTerm_ok hx3) ⟨.f 3, .f 1, trivial⟩ Tryz.call43 fun _ _ _ c => ?_
 refine Fp [] 5 c fun _ c => E0 (S0 (P0 [] c fun _ c => I0 c h (fun h => ?_) fun h => ?_))
 refine P0 [] c fun _ c => ?_
 replace c := c.nil (α := Int) 3
 obtain rfl := hr1 _ (Option.some.inj h).symm
 obtain rfl := Option.some.inj hk1
 exact wp_ret (tr (br (tr (tr (br (tr (Rg c (none, 0) [1] [] (.tmp (.tmp .nil)))))))))
 refine K0 (T1 (Fp [] 3 c fun _ c => Bd h fun x4 hx4 h => Eset 0 c hx4 fun _ _ _ c => ?_))
 refine E1 (bk (tn (P1 [] c fun _ c => Nx h () (c.re [0] [0, 1]))))
 refine wp_exit (te (te (be ?_)))
 obtain rfl := hr1 _ (Option.some.inj h).symm
 exact tn ⟨_, (), rfl, c.re [0] [0, 1]⟩
 subst hrl
 refine P0 [] c fun _ c => ?_
 cases h
 obtain ⟨he1, c⟩ := c.relen 0
 replace c := c.eqs (v := L a1 x1 c1) (u := L a1 s1r c1) 4 (by simp only [L, he1])
 exact wp_ret (Rg c (a1, c1) [0] [] (.tmp (.tmp .nil)))

theorem slices_Clone___int_int__ok {p0 : List Int} {ga0 : Option Addr} {gc1 : Nat} {r : (List Int)} (h : slices_Clone___int_int_ p0 = some r) : Con Tryz.prog 49 [L ga0 p0 gc1] [] [RO (L ga0 p0 gc1) p0] fun (i : Option Addr × Nat) => ([L i.1 r i.2], [sl3 (L i.1 r i.2) r], []) := by
 unfold slices_Clone___int_int_ at h
 refine En Tryz.func49 rfl Tryz.ntmps49 fun _ fr w c => ?_
 refine P0 [] c fun _ c => S0 (T0 (Fp [] 1 c fun _ c => Ebin (vx := L ga0 p0 gc1) (vy := .slice none 0 0) c (nil_guard _ _ _ _ _ _ _ _ _ _) (nil_eq Tryz.underlying26 ga0 _ gc1 _) fun _ c => ?_))
 refine E0 (If c (b := (Option.isNone ga0)) (fun hb => ?_) fun hb => ?_)
 obtain ⟨_, hn⟩ := c.use (.f 0)
 replace h := nil_app (nil_of hn (Option.isNone_iff_eq_none.1 hb)) h
 refine P0 [] c fun _ c => ?_
 replace c := c.nil (α := Int) 3
 cases h
 exact wp_ret (tr (Rt c (none, 0) [0] []))
 refine K0 (T0 (Elt 3 ([] : List Int) c fun a1 c1 _ _ c => ?_))
 refine Fp [] 1 c fun _ c => Bd h fun x1 hx1 h => Eap 0 c (.f 0) hx1 fun a2 c2 _ _ c => ?_
 refine Fp [] 1 c fun _ c => E0 ?_
 obtain rfl := sj h
 exact wp_ret (Rt c (a2, c2) [0] [])

theorem impl_EvalPath_ok {n : Nat} {p0 : D.Program} {p1 : D.Path} {p2 : List Int} {ga0 : Option Addr} {gc1 : Nat} {ga2 : Option Addr} {gc3 : Nat} {ga4 : Option Addr} {gc5 : Nat} {ga6 : Option Addr} {gc7 : Nat} {ga8 : Option Addr} {gc9 : Nat} {ga10 : Option Addr} {gc11 : Nat} {ga12 : Option Addr} {gc13 : Nat} {ga14 : Option Addr} {gc15 : Nat} {r : D.State × Bool} (h : impl_EvalPath n p0 p1 p2 = some r) : Con Tryz.prog 26 [.agg #[I p0.W, I p0.Mem, I p0.In, L ga0 p0.Code gc1], .agg #[I p1.Pc, L ga2 p1.Regs gc3, L ga4 p1.Mem gc5, L ga6 p1.Stack gc7, I p1.In, L ga8 p1.Out gc9, I p1.Code, I p1.Steps, L ga10 p1.Cond gc11, L ga12 p1.Turns gc13], L ga14 p2 gc15] [] [RO (L ga0 p0.Code gc1) p0.Code, RO (L ga2 p1.Regs gc3) p1.Regs, RO (L ga4 p1.Mem gc5) p1.Mem, RO (L ga6 p1.Stack gc7) p1.Stack, RO (L ga8 p1.Out gc9) p1.Out, RO (L ga10 p1.Cond gc11) p1.Cond, RO (L ga12 p1.Turns gc13) p1.Turns, RO (L ga14 p2 gc15) p2, TBf Tryz.prog] fun (i : Option Addr × Nat × Option Addr × Nat × Option Addr × Nat × Option Addr × Nat) => ([.agg #[I r.1.Pc, L i.1 r.1.Regs i.2.1, L i.2.2.1 r.1.Mem i.2.2.2.1, L i.2.2.2.2.1 r.1.Stack i.2.2.2.2.2.1, I r.1.In, L i.2.2.2.2.2.2.1 r.1.Out i.2.2.2.2.2.2.2, I r.1.Code, I r.1.Steps], .bool r.2], [sl3 (L i.1 r.1.Regs i.2.1) r.1.Regs, sl3 (L i.2.2.1 r.1.Mem i.2.2.2.1) r.1.Mem, sl3 (L i.2.2.2.2.1 r.1.Stack i.2.2.2.2.2.1) r.1.Stack, sl3 (L i.2.2.2.2.2.2.1 r.1.Out i.2.2.2.2.2.2.2) r.1.Out], []) := by
 unfold impl_EvalPath at h
 refine En Tryz.func26 rfl Tryz.ntmps26 fun _ fr w c => ?_
 refine T0 (Ebx [I p0.W, I p0.Mem, I p0.In, L ga0 p0.Code gc1] c fun b1 _ _ c => ?_)
 refine Ebx [I p1.Pc, L ga2 p1.Regs gc3, L ga4 p1.Mem gc5, L ga6 p1.Stack gc7, I p1.In, L ga8 p1.Out gc9, I p1.Code, I p1.Steps, L ga10 p1.Cond gc11, L ga12 p1.Turns gc13] c fun b2 _ _ c => ?_
 refine Eal [I 0, L none ([] : List Int) 0, L none ([] : List Int) 0, L none ([] : List Int) 0, I 0, L none ([] : List Int) 0, I 0, I 0] c fun b3 _ _ c => ?_
 refine Fp [] 1 c fun _ c => E0 (S0 (T0 (Fp [(0, 0), (1, 1)] 3 c fun _ c => Bd h fun x1 hx1 h => Ca [] c (impl_HoldsPath_ok hx1) ⟨.f 0, .f 1, .f 2, .f 3, .f 4, .f 5, .f 6, .f 7, .f 8, trivial⟩ Tryz.call12 fun _ _ _ c => ?_)))
 refine Fp [] 1 c fun _ c => E0 (I0 c h (fun h => ?_) fun h => ?_)
 refine T0 (Fp [] 1 c fun _ c => Ess 2 [I 0, L none ([] : List Int) 0, L none ([] : List Int) 0, L none ([] : List Int) 0, I 0, L none ([] : List Int) 0, I 0, I 0] c fun _ c => ?_)
 refine Fp [] 1 c fun _ c => E0 ?_
 replace c := c.nil (α := Int) 3
 replace c := c.nil (α := Int) 3
 replace c := c.nil (α := Int) 3
 replace c := c.nil (α := Int) 3
 cases h
 exact wp_ret (tr (Rg c (none, 0, none, 0, none, 0, none, 0) [3, 4, 5, 6] [] (.cell (α := Agg 7) ⟨by kernel_rfl, by kernel_rfl⟩ (.b 2) (.tmp .nil))))
 refine K0 (T0 (Fp [(0, 0)] 2 c fun _ c => Bd h fun x2 hx2 h => Ca [] c (impl_inputValues_ok hx2) ⟨.f 0, .f 7, .f 8, trivial⟩ Tryz.call42 fun i1 _ _ c => ?_))
 refine Fp [] 1 c fun _ c => E0 (T0 (Fp [(1, 1)] 3 c fun _ c => ?_))
 replace c := c.gm [BX b1 34 [I p0.W, I p0.Mem, I p0.In, L ga0 p0.Code gc1], BX b2 38 [I p1.Pc, L ga2 p1.Regs gc3, L ga4 p1.Mem gc5, L ga6 p1.Stack gc7, I p1.In, L ga8 p1.Out gc9, I p1.Code, I p1.Steps, L ga10 p1.Cond gc11, L ga12 p1.Turns gc13], BX b3 56 [I 0, L none ([] : List Int) 0, L none ([] : List Int) 0, L none ([] : List Int) 0, I 0, L none ([] : List Int) 0, I 0, I 0], sl89 (L i1.1 x2 i1.2) x2]
 refine Bd h fun x3 hx3 h => Ca [] c (impl_evalTerms_ok hx3) ⟨.f 1, .g 3, trivial⟩ Tryz.call48 fun i2 _ _ c => ?_
 refine Fp [] 5 c fun _ c => E0 (T0 (Fp [(1, 1)] 3 c fun _ c => Bd h fun x4 hx4 h => Ca [] c (impl_evalTerms_ok hx4) ⟨.f 2, .g 3, trivial⟩ Tryz.call48 fun i3 _ _ c => ?_))
 refine Fp [] 5 c fun _ c => E0 (T0 (Fp [(1, 1)] 3 c fun _ c => Bd h fun x5 hx5 h => Ca [] c (impl_evalTerms_ok hx5) ⟨.f 4, .g 3, trivial⟩ Tryz.call48 fun i4 _ _ c => ?_))
 refine Fp [] 5 c fun _ c => E0 (S0 (S0 (Ry [] mix c fun _ _ c => I0 c h (fun h => ?_) fun h => ?_)))
 refine T0 (Fp [] 1 c fun _ c => ?_)
 replace c := c.gm [BX b1 34 [I p0.W, I p0.Mem, I p0.In, L ga0 p0.Code gc1], BX b2 38 [I p1.Pc, L ga2 p1.Regs gc3, L ga4 p1.Mem gc5, L ga6 p1.Stack gc7, I p1.In, L ga8 p1.Out gc9, I p1.Code, I p1.Steps, L ga10 p1.Cond gc11, L ga12 p1.Turns gc13], BX b3 56 [I 0, L none ([] : List Int) 0, L none ([] : List Int) 0, L none ([] : List Int) 0, I 0, L none ([] : List Int) 0, I 0, I 0], sl89 (L i1.1 x2 i1.2) x2, sl3 (L i2.1 x3.1 i2.2) x3.1, sl3 (L i3.1 x4.1 i3.2) x4.1, sl3 (L i4.1 x5.1 i4.2) x5.1]
 refine Ess 2 [I 0, L none ([] : List Int) 0, L none ([] : List Int) 0, L none ([] : List Int) 0, I 0, L none ([] : List Int) 0, I 0, I 0] c fun _ c => ?_
 refine Fp [] 1 c fun _ c => E0 ?_
 replace c := c.nil (α := Int) 3
 replace c := c.nil (α := Int) 3
 replace c := c.nil (α := Int) 3
 replace c := c.nil (α := Int) 3
 cases h
 exact wp_ret (tr (Rg c (none, 0, none, 0, none, 0, none, 0) [7, 8, 9, 10] [] (.cell (α := Agg 7) ⟨by kernel_rfl, by kernel_rfl⟩ (.b 2) (.tmp .nil))))
 refine K0 (Bd h fun x6 hx6 h => S0 (wp_ra mix (rM 14 [(6, Pd.nw c.wd 6 (fun i : Option Addr × Nat => L i.1 x6 i.2) (fun i => HP.sep [sl3 (L i.1 x6 i.2) x6]))] [(1, 1), (5, 1), (8, 1), (11, 1), (13, 1)] c (fun ow => ⟨Ncn c (kN (slices_Clone___int_int__ok hx6)) ⟨.f 3, trivial⟩ Tryz.call49, trivial⟩) fun ow _ _ hE hc c1 => ?_)))
 obtain ⟨i5, hi5⟩ := hE.nw 6 62
 replace c := Cx.newt c hc c1 [(6, 62, _, _)] ⟨hi5, trivial⟩
 replace c := c.flat 7
 refine Fp [] 1 c fun _ c => ?_
 replace c := c.gm [BX b1 34 [I p0.W, I p0.Mem, I p0.In, L ga0 p0.Code gc1], BX b2 38 [I p1.Pc, L ga2 p1.Regs gc3, L ga4 p1.Mem gc5, L ga6 p1.Stack gc7, I p1.In, L ga8 p1.Out gc9, I p1.Code, I p1.Steps, L ga10 p1.Cond gc11, L ga12 p1.Turns gc13], BX b3 56 [I 0, L none ([] : List Int) 0, L none ([] : List Int) 0, L none ([] : List Int) 0, I 0, L none ([] : List Int) 0, I 0, I 0], sl89 (L i1.1 x2 i1.2) x2, sl3 (L i2.1 x3.1 i2.2) x3.1, sl3 (L i3.1 x4.1 i3.2) x4.1, sl3 (L i4.1 x5.1 i4.2) x5.1, sl3 (L i5.1 x6 i5.2) x6]
 refine Ess 2 [I p1.Pc, L i2.1 x3.1 i2.2, L i3.1 x4.1 i3.2, L i5.1 x6 i5.2, I p1.In, L i4.1 x5.1 i4.2, I p1.Code, I p1.Steps] c fun _ c => ?_
 refine Fp [] 1 c fun _ c => E0 ?_
 cases h
 exact wp_ret (Rg c (i2.1, i2.2, i3.1, i3.2, i5.1, i5.2, i4.1, i4.2) [4, 5, 7, 6] [] (.cell (α := Agg 7) ⟨by kernel_rfl, by kernel_rfl⟩ (.b 2) (.tmp .nil)))

theorem laws_eqIntS_ok {n : Nat} {p0 : List Int} {p1 : List Int} {ga0 : Option Addr} {gc1 : Nat} {ga2 : Option Addr} {gc3 : Nat} {r : Bool} (h : laws_eqIntS n p0 p1 = some r) : Con Tryz.prog 15 [L ga0 p0 gc1, L ga2 p1 gc3] [] [RO (L ga0 p0 gc1) p0, RO (L ga2 p1 gc3) p1] fun (_ : Unit) => ([.bool r], [], []) := by
 unfold laws_eqIntS at h
 refine En Tryz.func15 rfl Tryz.ntmps15 fun _ fr w c => ?_
 refine P0 [] c fun _ c => S0 (P0 [] c fun _ c => I0 c h (fun h => ?_) fun h => ?_)
 refine P0 [] c fun _ c => ?_
 obtain rfl := sj h
 exact wp_ret (tr (Rt c () [] []))
 refine K0 (S0 (P0 [] c fun _ c => Bd h fun rl1 hit1 h => ?_))
 have hk1 := h
 refine LpR (fun s1  (_ : Unit) => ([(0, L ga0 p0 gc1), (1, L ga2 p1 gc3), (5, I s1)], id, [])) (fun s  (_ : Unit) => ([], id, [])) hit1 c () (c.re [] [0, 1]) (fun s1 q1 _ _ _ c h hr1 => ?_) fun s1r _ _ _ hrl c => ?_
 refine S0 (P0 [] c fun _ c => I0 c h (fun h => ?_) fun h => ?_)
 refine K0 (S0 (wp_block (Bd h fun x1 hx1 h => Bd h fun x2 hx2 h => S0 (rZ [(2, Pd.el (x1 : Int)), (3, .eq (I x1)), (6, Pd.el (x2 : Int)), (7, .eq (I x2))] [] mix c ⟨Nid c (.f 0) (kN hx1), Nld c 2 (q := x1) (atN 2), Nid c (.f 1) (kN hx2), Nld c 6 (q := x2) (atN 6), trivial⟩ fun _ _ c => I0 c h (fun h => ?_) fun h => ?_))))
 refine P0 [] c fun _ c => ?_
 obtain rfl := hr1 _ (Option.some.inj h).symm
 obtain rfl := Option.some.inj hk1
 exact wp_ret (br (tr (tr (br (tr (Rt c () [] []))))))
 refine K1 (bk (tn (P1 [] c fun _ c => Nx h () (c.re [] [0, 1]))))
 refine wp_exit (te (te (be ?_)))
 obtain rfl := hr1 _ (Option.some.inj h).symm
 exact tn ⟨_, (), rfl, c.re [] [0, 1]⟩
 subst hrl
 refine P0 [] c fun _ c => ?_
 obtain rfl := sj h
 exact wp_ret (Rt c () [] [])

theorem laws_eqState_ok {n : Nat} {p0 : D.State} {p1 : D.State} {ga0 : Option Addr} {gc1 : Nat} {ga2 : Option Addr} {gc3 : Nat} {ga4 : Option Addr} {gc5 : Nat} {ga6 : Option Addr} {gc7 : Nat} {ga8 : Option Addr} {gc9 : Nat} {ga10 : Option Addr} {gc11 : Nat} {ga12 : Option Addr} {gc13 : Nat} {ga14 : Option Addr} {gc15 : Nat} {r : Bool} (h : laws_eqState n p0 p1 = some r) : Con Tryz.prog 27 [.agg #[I p0.Pc, L ga0 p0.Regs gc1, L ga2 p0.Mem gc3, L ga4 p0.Stack gc5, I p0.In, L ga6 p0.Out gc7, I p0.Code, I p0.Steps], .agg #[I p1.Pc, L ga8 p1.Regs gc9, L ga10 p1.Mem gc11, L ga12 p1.Stack gc13, I p1.In, L ga14 p1.Out gc15, I p1.Code, I p1.Steps]] [] [RO (L ga0 p0.Regs gc1) p0.Regs, RO (L ga2 p0.Mem gc3) p0.Mem, RO (L ga4 p0.Stack gc5) p0.Stack, RO (L ga6 p0.Out gc7) p0.Out, RO (L ga8 p1.Regs gc9) p1.Regs, RO (L ga10 p1.Mem gc11) p1.Mem, RO (L ga12 p1.Stack gc13) p1.Stack, RO (L ga14 p1.Out gc15) p1.Out] fun (_ : Unit) => ([.bool r], [], []) := by
 unfold laws_eqState at h
 refine En Tryz.func27 rfl Tryz.ntmps27 fun _ fr w c => ?_
 refine T0 (Ebx [I p0.Pc, L ga0 p0.Regs gc1, L ga2 p0.Mem gc3, L ga4 p0.Stack gc5, I p0.In, L ga6 p0.Out gc7, I p0.Code, I p0.Steps] c fun b1 _ _ c => ?_)
 refine Ebx [I p1.Pc, L ga8 p1.Regs gc9, L ga10 p1.Mem gc11, L ga12 p1.Stack gc13, I p1.In, L ga14 p1.Out gc15, I p1.Code, I p1.Steps] c fun b2 _ _ c => ?_
 refine Fp [] 1 c fun _ c => E0 (S0 (P0 [(1, 0), (3, 1)] c fun _ c => I0 c h (fun h => ?_) fun h => ?_))
 refine P0 [] c fun _ c => ?_
 obtain rfl := sj h
 exact wp_ret (tr (Rt c () [] []))
 refine K0 (S0 (T0 (Fp [(1, 0), (3, 1)] 4 c fun _ c => Bd h fun x1 hx1 h => Ca [] c (laws_eqIntS_ok hx1) ⟨.f 0, .f 4, trivial⟩ Tryz.call15 fun _ _ _ c => ?_)))
 refine Fp [] 1 c fun _ c => E0 (I0 c h (fun h => ?_) fun h => ?_)
 refine P0 [] c fun _ c => ?_
 obtain rfl := sj h
 exact wp_ret (tr (Rt c () [] []))
 refine K0 (S0 (T0 (Fp [(1, 0), (3, 1)] 4 c fun _ c => Bd h fun x2 hx2 h => Ca [] c (laws_eqIntS_ok hx2) ⟨.f 1, .f 5, trivial⟩ Tryz.call15 fun _ _ _ c => ?_)))
 refine Fp [] 1 c fun _ c => E0 (I0 c h (fun h => ?_) fun h => ?_)
 refine P0 [] c fun _ c => ?_
 obtain rfl := sj h
 exact wp_ret (tr (Rt c () [] []))
 refine K0 (S0 (T0 (Fp [(1, 0), (3, 1)] 4 c fun _ c => Bd h fun x3 hx3 h => Ca [] c (laws_eqIntS_ok hx3) ⟨.f 2, .f 6, trivial⟩ Tryz.call15 fun _ _ _ c => ?_)))
 refine Fp [] 1 c fun _ c => E0 (I0 c h (fun h => ?_) fun h => ?_)
 refine P0 [] c fun _ c => ?_
 obtain rfl := sj h
 exact wp_ret (tr (Rt c () [] []))
 refine K0 (S0 (P0 [(1, 0), (3, 1)] c fun _ c => I0 c h (fun h => ?_) fun h => ?_))
 refine P0 [] c fun _ c => ?_
 obtain rfl := sj h
 exact wp_ret (tr (Rt c () [] []))
 refine K0 (S0 (T0 (Fp [(1, 0), (3, 1)] 4 c fun _ c => ?_)))
 replace c := c.gm [BX b1 56 [I p0.Pc, L ga0 p0.Regs gc1, L ga2 p0.Mem gc3, L ga4 p0.Stack gc5, I p0.In, L ga6 p0.Out gc7, I p0.Code, I p0.Steps], BX b2 56 [I p1.Pc, L ga8 p1.Regs gc9, L ga10 p1.Mem gc11, L ga12 p1.Stack gc13, I p1.In, L ga14 p1.Out gc15, I p1.Code, I p1.Steps]]
 refine Bd h fun x4 hx4 h => Ca [] c (laws_eqIntS_ok hx4) ⟨.f 3, .f 7, trivial⟩ Tryz.call15 fun _ _ _ c => ?_
 refine Fp [] 1 c fun _ c => E0 (I0 c h (fun h => ?_) fun h => ?_)
 refine P0 [] c fun _ c => ?_
 obtain rfl := sj h
 exact wp_ret (tr (Rt c () [] []))
 refine K0 (S0 (P0 [(1, 0), (3, 1)] c fun _ c => I0 c h (fun h => ?_) fun h => ?_))
 refine P0 [] c fun _ c => ?_
 obtain rfl := sj h
 exact wp_ret (tr (Rt c () [] []))
 refine K0 (S0 (P0 [(1, 0), (3, 1)] c fun _ c => I0 c h (fun h => ?_) fun h => ?_))
 refine P0 [] c fun _ c => ?_
 obtain rfl := sj h
 exact wp_ret (tr (Rt c () [] []))
 refine K0 (P0 [] c fun _ c => ?_)
 obtain rfl := sj h
 exact wp_ret (Rt c () [] [])

theorem laws_eqIns_ok {p0 : D.Ins} {p1 : D.Ins} {r : Bool} (h : laws_eqIns p0 p1 = some r) : Con Tryz.prog 70 [.agg #[I p0.Op, I p0.A, I p0.B, I p0.C], .agg #[I p1.Op, I p1.A, I p1.B, I p1.C]] [] [] fun (_ : Unit) => ([.bool r], [], []) := by
 unfold laws_eqIns at h
 refine En Tryz.func70 rfl Tryz.ntmps70 fun _ fr w c => ?_
 refine T0 (Ebx [I p0.Op, I p0.A, I p0.B, I p0.C] c fun b1 _ _ c => ?_)
 refine Ebx [I p1.Op, I p1.A, I p1.B, I p1.C] c fun b2 _ _ c => ?_
 refine Fp [] 1 c fun _ c => E0 (S0 (P0 [(1, 0), (3, 1)] c fun _ c => I0 c h (fun h => ?_) fun h => ?_))
 refine P0 [] c fun _ c => ?_
 obtain rfl := sj h
 exact wp_ret (tr (Rt c () [] []))
 refine K0 (S0 (P0 [(1, 0), (3, 1)] c fun _ c => I0 c h (fun h => ?_) fun h => ?_))
 refine P0 [] c fun _ c => ?_
 obtain rfl := sj h
 exact wp_ret (tr (Rt c () [] []))
 refine K0 (S0 (P0 [(1, 0), (3, 1)] c fun _ c => I0 c h (fun h => ?_) fun h => ?_))
 refine P0 [] c fun _ c => ?_
 obtain rfl := sj h
 exact wp_ret (tr (Rt c () [] []))
 refine K0 (S0 (P0 [(1, 0), (3, 1)] c fun _ c => I0 c h (fun h => ?_) fun h => ?_))
 refine P0 [] c fun _ c => ?_
 obtain rfl := sj h
 exact wp_ret (tr (Rt c () [] []))
 refine K0 (P0 [] c fun _ c => ?_)
 obtain rfl := sj h
 exact wp_ret (Rt c () [] [])

theorem laws_eqInsS_ok {n : Nat} {p0 : List D.Ins} {p1 : List D.Ins} {ga0 : Option Addr} {gc1 : Nat} {ga2 : Option Addr} {gc3 : Nat} {r : Bool} (h : laws_eqInsS n p0 p1 = some r) : Con Tryz.prog 44 [L ga0 p0 gc1, L ga2 p1 gc3] [] [RO (L ga0 p0 gc1) p0, RO (L ga2 p1 gc3) p1] fun (_ : Unit) => ([.bool r], [], []) := by
 unfold laws_eqInsS at h
 refine En Tryz.func44 rfl Tryz.ntmps44 fun _ fr w c => ?_
 refine P0 [] c fun _ c => S0 (P0 [] c fun _ c => I0 c h (fun h => ?_) fun h => ?_)
 refine P0 [] c fun _ c => ?_
 obtain rfl := sj h
 exact wp_ret (tr (Rt c () [] []))
 refine K0 (S0 (P0 [] c fun _ c => Bd h fun rl1 hit1 h => ?_))
 have hk1 := h
 refine LpR (fun s1  (_ : Unit) => ([(0, L ga0 p0 gc1), (1, L ga2 p1 gc3), (5, I s1)], id, [])) (fun s  (_ : Unit) => ([], id, [])) hit1 c () (c.re [] [0, 1]) (fun s1 q1 _ _ _ c h hr1 => ?_) fun s1r _ _ _ hrl c => ?_
 refine S0 (P0 [] c fun _ c => I0 c h (fun h => ?_) fun h => ?_)
 refine K0 (S0 (wp_block (Bd h fun x1 hx1 h => Bd h fun x2 hx2 h => Bd h fun x3 hx3 h => S0 (rZ [(2, Pd.el (x1 : D.Ins)), (3, .eq (.agg #[I x1.Op, I x1.A, I x1.B, I x1.C])), (6, Pd.el (x2 : D.Ins)), (7, .eq (.agg #[I x2.Op, I x2.A, I x2.B, I x2.C])), (8, .eq (.bool x3))] [] mix c ⟨Nid c (.f 0) (kN hx1), Nld c 2 (q := x1) (atN 2), Nid c (.f 1) (kN hx2), Nld c 6 (q := x2) (atN 6), Ncl c (kN (laws_eqIns_ok hx3)) trivial Tryz.call70, trivial⟩ fun _ _ c => I0 c h (fun h => ?_) fun h => ?_))))
 refine P0 [] c fun _ c => ?_
 obtain rfl := hr1 _ (Option.some.inj h).symm
 obtain rfl := Option.some.inj hk1
 exact wp_ret (br (tr (tr (br (tr (Rt c () [] []))))))
 refine K1 (bk (tn (P1 [] c fun _ c => Nx h () (c.re [] [0, 1]))))
 refine wp_exit (te (te (be ?_)))
 obtain rfl := hr1 _ (Option.some.inj h).symm
 exact tn ⟨_, (), rfl, c.re [] [0, 1]⟩
 subst hrl
 refine P0 [] c fun _ c => ?_
 obtain rfl := sj h
 exact wp_ret (Rt c () [] [])

theorem laws_eqProgram_ok {n : Nat} {p0 : D.Program} {p1 : D.Program} {ga0 : Option Addr} {gc1 : Nat} {ga2 : Option Addr} {gc3 : Nat} {r : Bool} (h : laws_eqProgram n p0 p1 = some r) : Con Tryz.prog 13 [.agg #[I p0.W, I p0.Mem, I p0.In, L ga0 p0.Code gc1], .agg #[I p1.W, I p1.Mem, I p1.In, L ga2 p1.Code gc3]] [] [RO (L ga0 p0.Code gc1) p0.Code, RO (L ga2 p1.Code gc3) p1.Code] fun (_ : Unit) => ([.bool r], [], []) := by
 unfold laws_eqProgram at h
 refine En Tryz.func13 rfl Tryz.ntmps13 fun _ fr w c => ?_
 refine T0 (Ebx [I p0.W, I p0.Mem, I p0.In, L ga0 p0.Code gc1] c fun b1 _ _ c => ?_)
 refine Ebx [I p1.W, I p1.Mem, I p1.In, L ga2 p1.Code gc3] c fun b2 _ _ c => ?_
 refine Fp [] 1 c fun _ c => E0 (S0 (P0 [(1, 0), (3, 1)] c fun _ c => I0 c h (fun h => ?_) fun h => ?_))
 refine P0 [] c fun _ c => ?_
 obtain rfl := sj h
 exact wp_ret (tr (Rt c () [] []))
 refine K0 (S0 (P0 [(1, 0), (3, 1)] c fun _ c => I0 c h (fun h => ?_) fun h => ?_))
 refine P0 [] c fun _ c => ?_
 obtain rfl := sj h
 exact wp_ret (tr (Rt c () [] []))
 refine K0 (S0 (P0 [(1, 0), (3, 1)] c fun _ c => I0 c h (fun h => ?_) fun h => ?_))
 refine P0 [] c fun _ c => ?_
 obtain rfl := sj h
 exact wp_ret (tr (Rt c () [] []))
 refine K0 (S0 (T0 (Fp [(1, 0), (3, 1)] 4 c fun _ c => Bd h fun x1 hx1 h => Ca [] c (laws_eqInsS_ok hx1) ⟨.f 0, .f 1, trivial⟩ Tryz.call44 fun _ _ _ c => ?_)))
 refine Fp [] 1 c fun _ c => E0 (I0 c h (fun h => ?_) fun h => ?_)
 refine P0 [] c fun _ c => ?_
 obtain rfl := sj h
 exact wp_ret (tr (Rt c () [] []))
 refine K0 (P0 [] c fun _ c => ?_)
 obtain rfl := sj h
 exact wp_ret (Rt c () [] [])

theorem laws_eqTerm_laws_eqTermS_rec (n : Nat) : (∀ {p0 : D.Term} {p1 : D.Term} {ga0 : Option Addr} {gc1 : Nat} {ga2 : Option Addr} {gc3 : Nat} {r : Bool} (h : laws_eqTerm n p0 p1 = some r), Con Tryz.prog 71 [.agg #[I p0.Op, I p0.W, I p0.N, Str.val p0.Name, L ga0 p0.Kids gc1], .agg #[I p1.Op, I p1.W, I p1.N, Str.val p1.Name, L ga2 p1.Kids gc3]] [] [RO (L ga0 p0.Kids gc1) p0.Kids, RO (L ga2 p1.Kids gc3) p1.Kids] fun (_ : Unit) => ([.bool r], [], [])) ∧
    (∀ {p0 : List D.Term} {p1 : List D.Term} {ga0 : Option Addr} {gc1 : Nat} {ga2 : Option Addr} {gc3 : Nat} {r : Bool} (h : laws_eqTermS n p0 p1 = some r), Con Tryz.prog 45 [L ga0 p0 gc1, L ga2 p1 gc3] [] [RO (L ga0 p0 gc1) p0, RO (L ga2 p1 gc3) p1] fun (_ : Unit) => ([.bool r], [], [])) := by
 induction n with
 | zero => exact ⟨by intro p0 p1 ga0 gc1 ga2 gc3 r h; simp [laws_eqTerm] at h, by intro p0 p1 ga0 gc1 ga2 gc3 r h; simp [laws_eqTermS] at h⟩
 | succ n ih =>
 obtain ⟨ih0, ih1⟩ := ih
 refine ⟨?_, ?_⟩
 · intro p0 p1 ga0 gc1 ga2 gc3 r h
   rw [laws_eqTerm] at h
   refine En Tryz.func71 rfl Tryz.ntmps71 fun _ fr w c => ?_
   refine T0 (Ebx [I p0.Op, I p0.W, I p0.N, Str.val p0.Name, L ga0 p0.Kids gc1] c fun b1 _ _ c => ?_)
   refine Ebx [I p1.Op, I p1.W, I p1.N, Str.val p1.Name, L ga2 p1.Kids gc3] c fun b2 _ _ c => ?_
   refine Fp [] 1 c fun _ c => E0 (S0 (P0 [(1, 0), (3, 1)] c fun _ c => I0 c h (fun h => ?_) fun h => ?_))
   refine P0 [] c fun _ c => ?_
   obtain rfl := sj h
   exact wp_ret (tr (Rt c () [] []))
   refine K0 (S0 (P0 [(1, 0), (3, 1)] c fun _ c => I0 c h (fun h => ?_) fun h => ?_))
   refine P0 [] c fun _ c => ?_
   obtain rfl := sj h
   exact wp_ret (tr (Rt c () [] []))
   refine K0 (S0 (P0 [(1, 0), (3, 1)] c fun _ c => I0 c h (fun h => ?_) fun h => ?_))
   refine P0 [] c fun _ c => ?_
   obtain rfl := sj h
   exact wp_ret (tr (Rt c () [] []))
   refine K0 (S0 (P0 [(1, 0), (3, 1)] c fun _ c => I0 c h (fun h => ?_) fun h => ?_))
   refine P0 [] c fun _ c => ?_
   obtain rfl := sj h
   exact wp_ret (tr (Rt c () [] []))
   refine K0 (S0 (T0 (Fp [(1, 0), (3, 1)] 4 c fun _ c => Bd h fun x1 hx1 h => Ca [] c (ih1 hx1) ⟨.f 0, .f 1, trivial⟩ Tryz.call45 fun _ _ _ c => ?_)))
   refine Fp [] 1 c fun _ c => E0 (I0 c h (fun h => ?_) fun h => ?_)
   refine P0 [] c fun _ c => ?_
   obtain rfl := sj h
   exact wp_ret (tr (Rt c () [] []))
   refine K0 (P0 [] c fun _ c => ?_)
   obtain rfl := sj h
   exact wp_ret (Rt c () [] [])
 · intro p0 p1 ga0 gc1 ga2 gc3 r h
   rw [laws_eqTermS] at h
   refine En Tryz.func45 rfl Tryz.ntmps45 fun _ fr w c => ?_
   refine P0 [] c fun _ c => S0 (P0 [] c fun _ c => I0 c h (fun h => ?_) fun h => ?_)
   refine P0 [] c fun _ c => ?_
   obtain rfl := sj h
   exact wp_ret (tr (Rt c () [] []))
   refine K0 (S0 (P0 [] c fun _ c => Bd h fun rl1 hit1 h => ?_))
   have hk1 := h
   refine LpR (fun s1  (_ : Unit) => ([(0, L ga0 p0 gc1), (1, L ga2 p1 gc3), (5, I s1)], id, [])) (fun s  (_ : Unit) => ([], id, [])) hit1 c () (c.re [] [0, 1]) (fun s1 q1 _ _ _ c h hr1 => ?_) fun s1r _ _ _ hrl c => ?_
   refine S0 (P0 [] c fun _ c => I0 c h (fun h => ?_) fun h => ?_)
   refine K0 (S0 (wp_block (Bd h fun x1 hx1 h => ?_)))
   obtain ⟨ep1, u1, c⟩ := c.elp (.f 0) hx1
   obtain ⟨a1, c1, rfl, c⟩ := c.o_Term 3
   refine Bd h fun x2 hx2 h => ?_
   obtain ⟨ep2, u2, c⟩ := c.elp (.f 1) hx2
   obtain ⟨a2, c2, rfl, c⟩ := c.o_Term 6
   refine Bd h fun x3 hx3 h => S0 (rZ [(2, .eq (.pointer (some ep1))), (3, .eq (.agg #[I x1.Op, I x1.W, I x1.N, Str.val x1.Name, L a1 x1.Kids c1])), (6, .eq (.pointer (some ep2))), (7, .eq (.agg #[I x2.Op, I x2.W, I x2.N, Str.val x2.Name, L a2 x2.Kids c2])), (8, .eq (.bool x3))] [] mix c ⟨Nie c 2, Nle c 2, Nie c 5, Nle c 5, Ncl c (kN (ih0 hx3)) ⟨.f 4, .f 7, trivial⟩ Tryz.call71, trivial⟩ fun _ _ c => I0 c h (fun h => ?_) fun h => ?_)
   refine P0 [] c fun _ c => ?_
   obtain rfl := hr1 _ (Option.some.inj h).symm
   obtain rfl := Option.some.inj hk1
   exact wp_ret (br (tr (tr (br (tr (Rt c () [] []))))))
   refine K1 (bk (tn (P1 [] c fun _ c => Nx h () (c.re [] [0, 1]))))
   refine wp_exit (te (te (be ?_)))
   obtain rfl := hr1 _ (Option.some.inj h).symm
   exact tn ⟨_, (), rfl, c.re [] [0, 1]⟩
   subst hrl
   refine P0 [] c fun _ c => ?_
   obtain rfl := sj h
   exact wp_ret (Rt c () [] [])
theorem laws_eqTerm_ok {n : Nat} : ∀ {p0 : D.Term} {p1 : D.Term} {ga0 : Option Addr} {gc1 : Nat} {ga2 : Option Addr} {gc3 : Nat} {r : Bool} (h : laws_eqTerm n p0 p1 = some r), Con Tryz.prog 71 [.agg #[I p0.Op, I p0.W, I p0.N, Str.val p0.Name, L ga0 p0.Kids gc1], .agg #[I p1.Op, I p1.W, I p1.N, Str.val p1.Name, L ga2 p1.Kids gc3]] [] [RO (L ga0 p0.Kids gc1) p0.Kids, RO (L ga2 p1.Kids gc3) p1.Kids] fun (_ : Unit) => ([.bool r], [], []) := (laws_eqTerm_laws_eqTermS_rec n).1
theorem laws_eqTermS_ok {n : Nat} : ∀ {p0 : List D.Term} {p1 : List D.Term} {ga0 : Option Addr} {gc1 : Nat} {ga2 : Option Addr} {gc3 : Nat} {r : Bool} (h : laws_eqTermS n p0 p1 = some r), Con Tryz.prog 45 [L ga0 p0 gc1, L ga2 p1 gc3] [] [RO (L ga0 p0 gc1) p0, RO (L ga2 p1 gc3) p1] fun (_ : Unit) => ([.bool r], [], []) := (laws_eqTerm_laws_eqTermS_rec n).2

theorem laws_eqPath_ok {n : Nat} {p0 : D.Path} {p1 : D.Path} {ga0 : Option Addr} {gc1 : Nat} {ga2 : Option Addr} {gc3 : Nat} {ga4 : Option Addr} {gc5 : Nat} {ga6 : Option Addr} {gc7 : Nat} {ga8 : Option Addr} {gc9 : Nat} {ga10 : Option Addr} {gc11 : Nat} {ga12 : Option Addr} {gc13 : Nat} {ga14 : Option Addr} {gc15 : Nat} {ga16 : Option Addr} {gc17 : Nat} {ga18 : Option Addr} {gc19 : Nat} {ga20 : Option Addr} {gc21 : Nat} {ga22 : Option Addr} {gc23 : Nat} {r : Bool} (h : laws_eqPath n p0 p1 = some r) : Con Tryz.prog 14 [.agg #[I p0.Pc, L ga0 p0.Regs gc1, L ga2 p0.Mem gc3, L ga4 p0.Stack gc5, I p0.In, L ga6 p0.Out gc7, I p0.Code, I p0.Steps, L ga8 p0.Cond gc9, L ga10 p0.Turns gc11], .agg #[I p1.Pc, L ga12 p1.Regs gc13, L ga14 p1.Mem gc15, L ga16 p1.Stack gc17, I p1.In, L ga18 p1.Out gc19, I p1.Code, I p1.Steps, L ga20 p1.Cond gc21, L ga22 p1.Turns gc23]] [] [RO (L ga0 p0.Regs gc1) p0.Regs, RO (L ga2 p0.Mem gc3) p0.Mem, RO (L ga4 p0.Stack gc5) p0.Stack, RO (L ga6 p0.Out gc7) p0.Out, RO (L ga8 p0.Cond gc9) p0.Cond, RO (L ga10 p0.Turns gc11) p0.Turns, RO (L ga12 p1.Regs gc13) p1.Regs, RO (L ga14 p1.Mem gc15) p1.Mem, RO (L ga16 p1.Stack gc17) p1.Stack, RO (L ga18 p1.Out gc19) p1.Out, RO (L ga20 p1.Cond gc21) p1.Cond, RO (L ga22 p1.Turns gc23) p1.Turns] fun (_ : Unit) => ([.bool r], [], []) := by
 unfold laws_eqPath at h
 refine En Tryz.func14 rfl Tryz.ntmps14 fun _ fr w c => ?_
 refine T0 (Ebx [I p0.Pc, L ga0 p0.Regs gc1, L ga2 p0.Mem gc3, L ga4 p0.Stack gc5, I p0.In, L ga6 p0.Out gc7, I p0.Code, I p0.Steps, L ga8 p0.Cond gc9, L ga10 p0.Turns gc11] c fun b1 _ _ c => ?_)
 refine Ebx [I p1.Pc, L ga12 p1.Regs gc13, L ga14 p1.Mem gc15, L ga16 p1.Stack gc17, I p1.In, L ga18 p1.Out gc19, I p1.Code, I p1.Steps, L ga20 p1.Cond gc21, L ga22 p1.Turns gc23] c fun b2 _ _ c => ?_
 refine Fp [] 1 c fun _ c => E0 (S0 (P0 [(1, 0), (3, 1)] c fun _ c => I0 c h (fun h => ?_) fun h => ?_))
 refine P0 [] c fun _ c => ?_
 obtain rfl := sj h
 exact wp_ret (tr (Rt c () [] []))
 refine K0 (S0 (T0 (Fp [(1, 0), (3, 1)] 4 c fun _ c => Bd h fun x1 hx1 h => Ca [] c (laws_eqTermS_ok hx1) ⟨.f 0, .f 6, trivial⟩ Tryz.call45 fun _ _ _ c => ?_)))
 refine Fp [] 1 c fun _ c => E0 (I0 c h (fun h => ?_) fun h => ?_)
 refine P0 [] c fun _ c => ?_
 obtain rfl := sj h
 exact wp_ret (tr (Rt c () [] []))
 refine K0 (S0 (T0 (Fp [(1, 0), (3, 1)] 4 c fun _ c => Bd h fun x2 hx2 h => Ca [] c (laws_eqTermS_ok hx2) ⟨.f 1, .f 7, trivial⟩ Tryz.call45 fun _ _ _ c => ?_)))
 refine Fp [] 1 c fun _ c => E0 (I0 c h (fun h => ?_) fun h => ?_)
 refine P0 [] c fun _ c => ?_
 obtain rfl := sj h
 exact wp_ret (tr (Rt c () [] []))
 refine K0 (S0 (T0 (Fp [(1, 0), (3, 1)] 4 c fun _ c => Bd h fun x3 hx3 h => Ca [] c (laws_eqIntS_ok hx3) ⟨.f 2, .f 8, trivial⟩ Tryz.call15 fun _ _ _ c => ?_)))
 refine Fp [] 1 c fun _ c => E0 (I0 c h (fun h => ?_) fun h => ?_)
 refine P0 [] c fun _ c => ?_
 obtain rfl := sj h
 exact wp_ret (tr (Rt c () [] []))
 refine K0 (S0 (P0 [(1, 0), (3, 1)] c fun _ c => I0 c h (fun h => ?_) fun h => ?_))
 refine P0 [] c fun _ c => ?_
 obtain rfl := sj h
 exact wp_ret (tr (Rt c () [] []))
 refine K0 (S0 (T0 (Fp [(1, 0), (3, 1)] 4 c fun _ c => ?_)))
 replace c := c.gm [BX b1 38 [I p0.Pc, L ga0 p0.Regs gc1, L ga2 p0.Mem gc3, L ga4 p0.Stack gc5, I p0.In, L ga6 p0.Out gc7, I p0.Code, I p0.Steps, L ga8 p0.Cond gc9, L ga10 p0.Turns gc11], BX b2 38 [I p1.Pc, L ga12 p1.Regs gc13, L ga14 p1.Mem gc15, L ga16 p1.Stack gc17, I p1.In, L ga18 p1.Out gc19, I p1.Code, I p1.Steps, L ga20 p1.Cond gc21, L ga22 p1.Turns gc23]]
 refine Bd h fun x4 hx4 h => Ca [] c (laws_eqTermS_ok hx4) ⟨.f 3, .f 9, trivial⟩ Tryz.call45 fun _ _ _ c => ?_
 refine Fp [] 1 c fun _ c => E0 (I0 c h (fun h => ?_) fun h => ?_)
 refine P0 [] c fun _ c => ?_
 obtain rfl := sj h
 exact wp_ret (tr (Rt c () [] []))
 refine K0 (S0 (P0 [(1, 0), (3, 1)] c fun _ c => I0 c h (fun h => ?_) fun h => ?_))
 refine P0 [] c fun _ c => ?_
 obtain rfl := sj h
 exact wp_ret (tr (Rt c () [] []))
 refine K0 (S0 (P0 [(1, 0), (3, 1)] c fun _ c => I0 c h (fun h => ?_) fun h => ?_))
 refine P0 [] c fun _ c => ?_
 obtain rfl := sj h
 exact wp_ret (tr (Rt c () [] []))
 refine K0 (S0 (T0 (Fp [(1, 0), (3, 1)] 4 c fun _ c => Bd h fun x5 hx5 h => Ca [] c (laws_eqTermS_ok hx5) ⟨.f 4, .f 10, trivial⟩ Tryz.call45 fun _ _ _ c => ?_)))
 refine Fp [] 1 c fun _ c => E0 (I0 c h (fun h => ?_) fun h => ?_)
 refine P0 [] c fun _ c => ?_
 obtain rfl := sj h
 exact wp_ret (tr (Rt c () [] []))
 refine K0 (S0 (T0 (Fp [(1, 0), (3, 1)] 4 c fun _ c => Bd h fun x6 hx6 h => Ca [] c (laws_eqIntS_ok hx6) ⟨.f 5, .f 11, trivial⟩ Tryz.call15 fun _ _ _ c => ?_)))
 refine Fp [] 1 c fun _ c => E0 (I0 c h (fun h => ?_) fun h => ?_)
 refine P0 [] c fun _ c => ?_
 obtain rfl := sj h
 exact wp_ret (tr (Rt c () [] []))
 refine K0 (P0 [] c fun _ c => ?_)
 obtain rfl := sj h
 exact wp_ret (Rt c () [] [])

theorem laws_markInsS_ok {n : Nat} {p0 : List D.Ins} {p1 : Int} {ga0 : Option Addr} {gc1 : Nat} {gn2 : Nat} {r : Int × (List D.Ins)} (h : laws_markInsS n p0 p1 = some r) : Con Tryz.prog 46 [.slice ga0 gn2 gc1, I p1] [sl91 (.slice ga0 gn2 gc1) p0] [] fun (_ : Unit) => ([I r.1], [sl91 (.slice ga0 gn2 gc1) r.2], []) := by
 unfold laws_markInsS at h
 refine En Tryz.func46 rfl Tryz.ntmps46 fun _ fr w c => ?_
 obtain ⟨rfl, c⟩ := c.relen 0
 refine P0 [] c fun _ c => S0 (P0 [] c fun _ c => Bd h fun rl1 hit1 h => Lp (fun s1  (_ : Unit) => ([(0, L ga0 p0 gc1), (1, I s1.1), (5, I s1.2.1)], fun Γ => Γ.set 0 (sl91 (L ga0 p0 gc1) s1.2.2), [])) (fun  (_ : Unit) => ([(1, I rl1.1)], fun Γ => Γ.set 0 (sl91 (L ga0 p0 gc1) rl1.2), [])) hit1 c () (c.re [0] []) (fun s1 q1 _ _ _ c h hr1 => ?_) fun _ _ _ c => ?_)
 refine S0 (P0 [] c fun _ c => I0 c h (fun h => ?_) fun h => ?_)
 refine K0 (S0 (wp_block (T0 (Fp [] 3 c fun _ c => Bd h fun x1 hx1 h => Bd h fun x2 hx2 h => Esf 0 (I s1.1) c hx1 hx2 fun _ _ _ _ c => ?_))))
 refine E0 (P0 [] c fun _ c => T0 (Fp [] 3 c fun _ c => Bd h fun x3 hx3 h => Bd h fun x4 hx4 h => Esf 0 (I (w64 (s1.1 + 1))) c hx3 hx4 fun _ _ _ _ c => ?_))
 refine E0 (P0 [] c fun _ c => T0 (Fp [] 3 c fun _ c => Bd h fun x5 hx5 h => Bd h fun x6 hx6 h => Esf 0 (I (w64 ((w64 (s1.1 + 1)) + 1))) c hx5 hx6 fun _ _ _ _ c => ?_))
 refine E0 (P0 [] c fun _ c => T0 (Fp [] 3 c fun _ c => Bd h fun x7 hx7 h => Bd h fun x8 hx8 h => Esf 0 (I (w64 ((w64 ((w64 (s1.1 + 1)) + 1)) + 1))) c hx7 hx8 fun _ _ _ _ c => ?_))
 refine E0 (Tq (P1 [] c fun _ c => bk (tn (P1 [] c fun _ c => Nx h () (c.re [0] [])))))
 refine wp_exit (te (te (be ?_)))
 obtain rfl := hr1 _ (Option.some.inj h).symm
 exact tn ⟨(), c.re [0] []⟩
 refine P0 [] c fun _ c => ?_
 cases h
 exact wp_ret (Rt c () [0] [])

theorem laws_markProgram_ok {n : Nat} {p0 : D.Program} {p1 : Int} {ga0 : Option Addr} {gc1 : Nat} {gn2 : Nat} {r : Int × D.Program} (h : laws_markProgram n p0 p1 = some r) : Con Tryz.prog 21 [.agg #[I p0.W, I p0.Mem, I p0.In, .slice ga0 gn2 gc1], I p1] [sl91 (.slice ga0 gn2 gc1) p0.Code] [] fun (_ : Unit) => ([I r.1], [sl91 (.slice ga0 gn2 gc1) r.2.Code], []) := by
 unfold laws_markProgram at h
 refine En Tryz.func21 rfl Tryz.ntmps21 fun _ fr w c => ?_
 obtain ⟨rfl, c⟩ := c.relen 0
 refine T0 (Ebx [I p0.W, I p0.Mem, I p0.In, L ga0 p0.Code gc1] c fun b1 _ _ c => ?_)
 refine Fp [] 1 c fun _ c => E0 (T0 (Fp [(1, 0)] 3 c fun _ c => Bd h fun x1 hx1 h => Ca [0] c (laws_markInsS_ok hx1) trivial Tryz.call46 fun _ _ _ c => ?_))
 refine Fp [] 1 c fun _ c => E0 (P0 [] c fun _ c => ?_)
 cases h
 exact wp_ret (Rt c () [1] [])

theorem laws_markText_ok {n : Nat} {p0 : Int} {r : Str} (h : laws_markText n p0 = some r) : Con Tryz.prog 72 [I p0] [] [] fun (_ : Unit) => ([Str.val r], [], []) := by
 unfold laws_markText at h
 refine En Tryz.func72 rfl Tryz.ntmps72 fun _ fr w c => ?_
 refine P0 [] c fun _ c => S0 (P0 [] c fun _ c => I0 c h (fun h => ?_) fun h => ?_)
 refine P0 [] c fun _ c => ?_
 cases h
 exact wp_ret (tr (Rt c () [] []))
 refine K0 (P0 [] c fun _ c => Bd h fun rl1 hit1 h => S0 (Lp (fun s1  (_ : Unit) => ([(0, I s1.1), (3, Str.val s1.2)], id, [])) (fun  (_ : Unit) => ([(3, Str.val rl1)], id, [])) hit1 c () (c.re [] []) (fun s1 q1 _ _ _ c h hr1 => ?_) fun _ _ _ c => ?_))
 refine S0 (P0 [] c fun _ c => I0 c h (fun h => ?_) fun h => ?_)
 refine K0 (wp_block (T0 (Fp [] 1 c fun _ c => Bd h fun x1 hx1 h => Erem c hx1 fun _ c => ?_)))
 refine Fp [] 2 c fun _ c => Elt 5 ([(Byt.mk (IntKind.u8.wrap (w64 (48 + x1))))] : List Byt) c fun a1 c1 _ _ c => ?_
 refine Ebs c (.g 0) (fun _ c => ?_) Tryz.underlying111
 refine Fp [] 1 c fun _ c => Bd h fun x2 hx2 h => Ecat c hx2 fun _ c => ?_
 refine Fp [] 1 c fun _ c => E0 (T1 (Fp [] 1 c fun _ c => Bd h fun x3 hx3 h => Equo c hx3 fun _ c => ?_))
 refine Fp [] 1 c fun _ c => E1 (bk (tn (Nx h () (c.re [] []))))
 refine wp_exit (te (te (be ?_)))
 obtain rfl := hr1 _ (Option.some.inj h).symm
 exact tn ⟨(), c.re [] []⟩
 refine T0 (Fp [] 1 c fun _ c => Bd h fun x4 hx4 h => Ecat c hx4 fun _ c => ?_)
 refine Fp [] 1 c fun _ c => E0 ?_
 obtain rfl := sj h
 exact wp_ret (Rt c () [] [])

theorem laws_markTermS_ok {n : Nat} : ∀ {p0 : List D.Term} {p1 : Int} {ga0 : Option Addr} {gc1 : Nat} {gn2 : Nat} {r : Int × (List D.Term)} (h : laws_markTermS n p0 p1 = some r), Con Tryz.prog 47 [.slice ga0 gn2 gc1, I p1] [OD (ownT 75) 75 (.slice ga0 gn2 gc1) p0] [] fun (_ : Unit) => ([I r.1], [OD (ownT 75) 75 (.slice ga0 gn2 gc1) r.2], []) := by
 induction n with
 | zero => intro p0 p1 ga0 gc1 gn2 r h; simp [laws_markTermS] at h
 | succ n ih =>
 intro p0 p1 ga0 gc1 gn2 r h
 rw [laws_markTermS] at h
 refine En Tryz.func47 rfl Tryz.ntmps47 fun _ fr w c => ?_
 obtain ⟨rfl, c⟩ := c.releno 0
 refine P0 [] c fun _ c => S0 (P0 [] c fun _ c => Bd h fun rl1 hit1 h => Lp (fun s1  (_ : Unit) => ([(0, L ga0 p0 gc1), (1, I s1.1), (5, I s1.2.1)], fun Γ => Γ.set 0 (OD (ownT 75) 75 (L ga0 p0 gc1) s1.2.2), [])) (fun  (_ : Unit) => ([(1, I rl1.1)], fun Γ => Γ.set 0 (OD (ownT 75) 75 (L ga0 p0 gc1) rl1.2), [])) hit1 c () (c.re [0] []) (fun s1 q1 _ _ _ c h hr1 => ?_) fun _ _ _ c => ?_)
 refine S0 (P0 [] c fun _ c => I0 c h (fun h => ?_) fun h => ?_)
 refine K0 (S0 (wp_block (T0 (Fp [] 3 c fun _ c => Bd h fun x1 hx1 h => ?_))))
 obtain ⟨a1, c1, c⟩ := c.fo_Term 0 hx1
 refine Eohs 0 (I s1.1) (Rw.Term.mk s1.1 x1.W x1.N x1.Name ⟨a1, List.length x1.Kids, c1⟩) c fun _ _ _ _ c => ?_
 refine E0 (P0 [] c fun _ c => T0 (Fp [] 3 c fun _ c => Eohs 1 (I (w64 (s1.1 + 1))) (Rw.Term.mk s1.1 (w64 (s1.1 + 1)) x1.N x1.Name ⟨a1, List.length x1.Kids, c1⟩) c fun _ _ _ _ c => ?_))
 refine E0 (P0 [] c fun _ c => T0 (Fp [] 3 c fun _ c => ?_))
 replace c := c.gm [OD (ownT 75) 75 (L a1 x1.Kids c1) x1.Kids, OH (ownT 75) 75 (L ga0 p0 gc1) s1.2.1 (Rw.Term.mk s1.1 (w64 (s1.1 + 1)) x1.N x1.Name ⟨a1, List.length x1.Kids, c1⟩) s1.2.2]
 refine Eohs 1 (I (w64 ((w64 (s1.1 + 1)) + 1))) (Rw.Term.mk s1.1 (w64 (s1.1 + 1)) (w64 ((w64 (s1.1 + 1)) + 1)) x1.Name ⟨a1, List.length x1.Kids, c1⟩) c fun _ _ _ _ c => ?_
 refine E0 (P0 [] c fun _ c => T0 (Fp [] 3 c fun _ c => Bd h fun x2 hx2 h => Ca [] c (laws_markText_ok hx2) trivial Tryz.call72 fun _ _ _ c => ?_))
 refine Eohs 1 (Str.val x2) (Rw.Term.mk s1.1 (w64 (s1.1 + 1)) (w64 ((w64 (s1.1 + 1)) + 1)) x2 ⟨a1, List.length x1.Kids, c1⟩) c fun _ _ _ _ c => ?_
 refine E0 (P0 [] c fun _ c => T1 (Fp [] 2 c fun _ c => ?_))
 replace c := c.gm [OD (ownT 75) 75 (L a1 x1.Kids c1) x1.Kids, OH (ownT 75) 75 (L ga0 p0 gc1) s1.2.1 (Rw.Term.mk s1.1 (w64 (s1.1 + 1)) (w64 ((w64 (s1.1 + 1)) + 1)) x2 ⟨a1, List.length x1.Kids, c1⟩) s1.2.2]
 refine Eohl 1 (L a1 x1.Kids c1) c fun _ _ _ c => ?_
 refine Fp [] 1 c fun _ c => Bd h fun x3 hx3 h => Ca [0] c (ih hx3) trivial Tryz.call47 fun _ _ _ c => ?_
 refine Fp [] 1 c fun _ c => E1 (bk (tn (P1 [] c fun _ c => Bd h fun x4 hx4 h => ?_)))
 replace c := c.un_Term (E := 75) (v := L ga0 p0 gc1) (y := (D.Term.mk s1.1 (w64 (s1.1 + 1)) (w64 ((w64 (s1.1 + 1)) + 1)) x2 x3.2)) (b := a1) (m := List.length x1.Kids) (cp := c1) 0 1 hx4
 replace c := c.gm [OD (ownT 75) 75 (L ga0 p0 gc1) x4]
 exact Nx h () (c.re [0] [])
 refine wp_exit (te (te (be ?_)))
 obtain rfl := hr1 _ (Option.some.inj h).symm
 exact tn ⟨(), c.re [0] []⟩
 refine P0 [] c fun _ c => ?_
 cases h
 exact wp_ret (Rt c () [0] [])

theorem laws_markIntS_ok {n : Nat} {p0 : List Int} {p1 : Int} {ga0 : Option Addr} {gc1 : Nat} {gn2 : Nat} {r : Int × (List Int)} (h : laws_markIntS n p0 p1 = some r) : Con Tryz.prog 23 [.slice ga0 gn2 gc1, I p1] [sl3 (.slice ga0 gn2 gc1) p0] [] fun (_ : Unit) => ([I r.1], [sl3 (.slice ga0 gn2 gc1) r.2], []) := by
 unfold laws_markIntS at h
 refine En Tryz.func23 rfl Tryz.ntmps23 fun _ fr w c => ?_
 obtain ⟨rfl, c⟩ := c.relen 0
 refine P0 [] c fun _ c => S0 (P0 [] c fun _ c => Bd h fun rl1 hit1 h => Lp (fun s1  (_ : Unit) => ([(0, L ga0 p0 gc1), (1, I s1.1), (5, I s1.2.1)], fun Γ => Γ.set 0 (sl3 (L ga0 p0 gc1) s1.2.2), [])) (fun  (_ : Unit) => ([(1, I rl1.1)], fun Γ => Γ.set 0 (sl3 (L ga0 p0 gc1) rl1.2), [])) hit1 c () (c.re [0] []) (fun s1 q1 _ _ _ c h hr1 => ?_) fun _ _ _ c => ?_)
 refine S0 (P0 [] c fun _ c => I0 c h (fun h => ?_) fun h => ?_)
 refine K0 (S0 (wp_block (T0 (Fp [] 3 c fun _ c => Bd h fun x1 hx1 h => Eset 0 c hx1 fun _ _ _ c => ?_))))
 refine E0 (Tq (P1 [] c fun _ c => bk (tn (P1 [] c fun _ c => Nx h () (c.re [0] [])))))
 refine wp_exit (te (te (be ?_)))
 obtain rfl := hr1 _ (Option.some.inj h).symm
 exact tn ⟨(), c.re [0] []⟩
 refine P0 [] c fun _ c => ?_
 cases h
 exact wp_ret (Rt c () [0] [])

theorem laws_markPath_ok {n : Nat} {p0 : D.Path} {p1 : Int} {ga0 : Option Addr} {gc1 : Nat} {ga2 : Option Addr} {gc3 : Nat} {ga4 : Option Addr} {gc5 : Nat} {ga6 : Option Addr} {gc7 : Nat} {ga8 : Option Addr} {gc9 : Nat} {ga10 : Option Addr} {gc11 : Nat} {gn12 : Nat} {gn13 : Nat} {gn14 : Nat} {gn15 : Nat} {gn16 : Nat} {gn17 : Nat} {r : Int × D.Path} (h : laws_markPath n p0 p1 = some r) : Con Tryz.prog 28 [.agg #[I p0.Pc, .slice ga0 gn12 gc1, .slice ga2 gn13 gc3, .slice ga4 gn14 gc5, I p0.In, .slice ga6 gn15 gc7, I p0.Code, I p0.Steps, .slice ga8 gn16 gc9, .slice ga10 gn17 gc11], I p1] [OD (ownT 75) 75 (.slice ga0 gn12 gc1) p0.Regs, OD (ownT 75) 75 (.slice ga2 gn13 gc3) p0.Mem, sl3 (.slice ga4 gn14 gc5) p0.Stack, OD (ownT 75) 75 (.slice ga6 gn15 gc7) p0.Out, OD (ownT 75) 75 (.slice ga8 gn16 gc9) p0.Cond, sl3 (.slice ga10 gn17 gc11) p0.Turns] [] fun (_ : Unit) => ([I r.1], [OD (ownT 75) 75 (.slice ga0 gn12 gc1) r.2.Regs, OD (ownT 75) 75 (.slice ga2 gn13 gc3) r.2.Mem, sl3 (.slice ga4 gn14 gc5) r.2.Stack, OD (ownT 75) 75 (.slice ga6 gn15 gc7) r.2.Out, OD (ownT 75) 75 (.slice ga8 gn16 gc9) r.2.Cond, sl3 (.slice ga10 gn17 gc11) r.2.Turns], []) := by
 unfold laws_markPath at h
 refine En Tryz.func28 rfl Tryz.ntmps28 fun _ fr w c => ?_
 obtain ⟨rfl, c⟩ := c.releno 0
 obtain ⟨rfl, c⟩ := c.releno 1
 obtain ⟨rfl, c⟩ := c.relen 2
 obtain ⟨rfl, c⟩ := c.releno 3
 obtain ⟨rfl, c⟩ := c.releno 4
 obtain ⟨rfl, c⟩ := c.relen 5
 refine T0 (Ebx [I p0.Pc, L ga0 p0.Regs gc1, L ga2 p0.Mem gc3, L ga4 p0.Stack gc5, I p0.In, L ga6 p0.Out gc7, I p0.Code, I p0.Steps, L ga8 p0.Cond gc9, L ga10 p0.Turns gc11] c fun b1 _ _ c => ?_)
 refine Fp [] 1 c fun _ c => E0 (T0 (Fp [(1, 0)] 3 c fun _ c => Bd h fun x1 hx1 h => Ca [0] c (laws_markTermS_ok hx1) trivial Tryz.call47 fun _ _ _ c => ?_))
 refine Fp [] 1 c fun _ c => E0 (T0 (Fp [(1, 0)] 3 c fun _ c => Bd h fun x2 hx2 h => Ca [0] c (laws_markTermS_ok hx2) trivial Tryz.call47 fun _ _ _ c => ?_))
 refine Fp [] 1 c fun _ c => E0 (T0 (Fp [(1, 0)] 3 c fun _ c => ?_))
 replace c := c.gm [sl3 (L ga4 p0.Stack gc5) p0.Stack, OD (ownT 75) 75 (L ga6 p0.Out gc7) p0.Out, OD (ownT 75) 75 (L ga8 p0.Cond gc9) p0.Cond, sl3 (L ga10 p0.Turns gc11) p0.Turns, BX b1 38 [I p0.Pc, L ga0 p0.Regs gc1, L ga2 p0.Mem gc3, L ga4 p0.Stack gc5, I p0.In, L ga6 p0.Out gc7, I p0.Code, I p0.Steps, L ga8 p0.Cond gc9, L ga10 p0.Turns gc11], OD (ownT 75) 75 (L ga0 p0.Regs gc1) x1.2, OD (ownT 75) 75 (L ga2 p0.Mem gc3) x2.2]
 refine Bd h fun x3 hx3 h => Ca [0] c (laws_markIntS_ok hx3) trivial Tryz.call23 fun _ _ _ c => ?_
 refine Fp [] 1 c fun _ c => E0 (T0 (Fp [(1, 0)] 3 c fun _ c => Bd h fun x4 hx4 h => Ca [0] c (laws_markTermS_ok hx4) trivial Tryz.call47 fun _ _ _ c => ?_))
 refine Fp [] 1 c fun _ c => E0 (T0 (Fp [(1, 0)] 3 c fun _ c => Bd h fun x5 hx5 h => Ca [0] c (laws_markTermS_ok hx5) trivial Tryz.call47 fun _ _ _ c => ?_))
 refine Fp [] 1 c fun _ c => E0 (T0 (Fp [(1, 0)] 3 c fun _ c => ?_))
 replace c := c.gm [sl3 (L ga10 p0.Turns gc11) p0.Turns, BX b1 38 [I p0.Pc, L ga0 p0.Regs gc1, L ga2 p0.Mem gc3, L ga4 p0.Stack gc5, I p0.In, L ga6 p0.Out gc7, I p0.Code, I p0.Steps, L ga8 p0.Cond gc9, L ga10 p0.Turns gc11], OD (ownT 75) 75 (L ga0 p0.Regs gc1) x1.2, OD (ownT 75) 75 (L ga2 p0.Mem gc3) x2.2, sl3 (L ga4 p0.Stack gc5) x3.2, OD (ownT 75) 75 (L ga6 p0.Out gc7) x4.2, OD (ownT 75) 75 (L ga8 p0.Cond gc9) x5.2]
 refine Bd h fun x6 hx6 h => Ca [0] c (laws_markIntS_ok hx6) trivial Tryz.call23 fun _ _ _ c => ?_
 refine Fp [] 1 c fun _ c => E0 (P0 [] c fun _ c => ?_)
 cases h
 exact wp_ret (Rt c () [1, 2, 3, 4, 5, 6] [])

theorem laws_markState_ok {n : Nat} {p0 : D.State} {p1 : Int} {ga0 : Option Addr} {gc1 : Nat} {ga2 : Option Addr} {gc3 : Nat} {ga4 : Option Addr} {gc5 : Nat} {ga6 : Option Addr} {gc7 : Nat} {gn8 : Nat} {gn9 : Nat} {gn10 : Nat} {gn11 : Nat} {r : Int × D.State} (h : laws_markState n p0 p1 = some r) : Con Tryz.prog 29 [.agg #[I p0.Pc, .slice ga0 gn8 gc1, .slice ga2 gn9 gc3, .slice ga4 gn10 gc5, I p0.In, .slice ga6 gn11 gc7, I p0.Code, I p0.Steps], I p1] [sl3 (.slice ga0 gn8 gc1) p0.Regs, sl3 (.slice ga2 gn9 gc3) p0.Mem, sl3 (.slice ga4 gn10 gc5) p0.Stack, sl3 (.slice ga6 gn11 gc7) p0.Out] [] fun (_ : Unit) => ([I r.1], [sl3 (.slice ga0 gn8 gc1) r.2.Regs, sl3 (.slice ga2 gn9 gc3) r.2.Mem, sl3 (.slice ga4 gn10 gc5) r.2.Stack, sl3 (.slice ga6 gn11 gc7) r.2.Out], []) := by
 unfold laws_markState at h
 refine En Tryz.func29 rfl Tryz.ntmps29 fun _ fr w c => ?_
 obtain ⟨rfl, c⟩ := c.relen 0
 obtain ⟨rfl, c⟩ := c.relen 1
 obtain ⟨rfl, c⟩ := c.relen 2
 obtain ⟨rfl, c⟩ := c.relen 3
 refine T0 (Ebx [I p0.Pc, L ga0 p0.Regs gc1, L ga2 p0.Mem gc3, L ga4 p0.Stack gc5, I p0.In, L ga6 p0.Out gc7, I p0.Code, I p0.Steps] c fun b1 _ _ c => ?_)
 refine Fp [] 1 c fun _ c => E0 (T0 (Fp [(1, 0)] 3 c fun _ c => Bd h fun x1 hx1 h => Ca [0] c (laws_markIntS_ok hx1) trivial Tryz.call23 fun _ _ _ c => ?_))
 refine Fp [] 1 c fun _ c => E0 (T0 (Fp [(1, 0)] 3 c fun _ c => Bd h fun x2 hx2 h => Ca [0] c (laws_markIntS_ok hx2) trivial Tryz.call23 fun _ _ _ c => ?_))
 refine Fp [] 1 c fun _ c => E0 (T0 (Fp [(1, 0)] 3 c fun _ c => Bd h fun x3 hx3 h => Ca [0] c (laws_markIntS_ok hx3) trivial Tryz.call23 fun _ _ _ c => ?_))
 refine Fp [] 1 c fun _ c => E0 (T0 (Fp [(1, 0)] 3 c fun _ c => Bd h fun x4 hx4 h => Ca [0] c (laws_markIntS_ok hx4) trivial Tryz.call23 fun _ _ _ c => ?_))
 refine Fp [] 1 c fun _ c => E0 (P0 [] c fun _ c => ?_)
 cases h
 exact wp_ret (Rt c () [1, 2, 3, 4] [])

theorem laws_heldIntS_ok {n : Nat} {p0 : List Int} {p1 : Int} {ga0 : Option Addr} {gc1 : Nat} {r : Int} (h : laws_heldIntS n p0 p1 = some r) : Con Tryz.prog 24 [L ga0 p0 gc1, I p1] [] [RO (L ga0 p0 gc1) p0] fun (_ : Unit) => ([I r], [], []) := by
 unfold laws_heldIntS at h
 refine En Tryz.func24 rfl Tryz.ntmps24 fun _ fr w c => ?_
 refine P0 [] c fun _ c => S0 (P0 [] c fun _ c => Bd h fun rl1 hit1 h => ?_)
 have hk1 := h
 refine LpR (fun s1  (_ : Unit) => ([(0, L ga0 p0 gc1), (1, I s1.1), (5, I s1.2)], id, [])) (fun s  (_ : Unit) => ([(1, I s)], id, [])) hit1 c () (c.re [] [0]) (fun s1 q1 _ _ _ c h hr1 => ?_) fun s1r _ _ _ hrl c => ?_
 refine S0 (P0 [] c fun _ c => I0 c h (fun h => ?_) fun h => ?_)
 refine K0 (S0 (wp_block (S0 (T0 (Fp [] 2 c fun _ c => Bd h fun x1 hx1 h => Eel c (.f 0) hx1 fun _ _ c => ?_)))))
 refine Fp [] 2 c fun _ c => E0 (I0 c h (fun h => ?_) fun h => ?_)
 refine P0 [] c fun _ c => ?_
 obtain rfl := hr1 _ (Option.some.inj h).symm
 obtain rfl := Option.some.inj hk1
 exact wp_ret (tr (br (tr (tr (br (tr (Rt c () [] [])))))))
 refine K0 (Tq (P1 [] c fun _ c => bk (tn (P1 [] c fun _ c => Nx h () (c.re [] [0])))))
 refine wp_exit (te (te (be ?_)))
 obtain rfl := hr1 _ (Option.some.inj h).symm
 exact tn ⟨_, (), rfl, c.re [] [0]⟩
 subst hrl
 refine P0 [] c fun _ c => ?_
 obtain rfl := sj h
 exact wp_ret (Rt c () [] [])

theorem laws_heldState_ok {n : Nat} {p0 : D.State} {p1 : Int} {ga0 : Option Addr} {gc1 : Nat} {ga2 : Option Addr} {gc3 : Nat} {ga4 : Option Addr} {gc5 : Nat} {ga6 : Option Addr} {gc7 : Nat} {r : Int} (h : laws_heldState n p0 p1 = some r) : Con Tryz.prog 30 [.agg #[I p0.Pc, L ga0 p0.Regs gc1, L ga2 p0.Mem gc3, L ga4 p0.Stack gc5, I p0.In, L ga6 p0.Out gc7, I p0.Code, I p0.Steps], I p1] [] [RO (L ga0 p0.Regs gc1) p0.Regs, RO (L ga2 p0.Mem gc3) p0.Mem, RO (L ga4 p0.Stack gc5) p0.Stack, RO (L ga6 p0.Out gc7) p0.Out] fun (_ : Unit) => ([I r], [], []) := by
 unfold laws_heldState at h
 refine En Tryz.func30 rfl Tryz.ntmps30 fun _ fr w c => ?_
 refine T0 (Ebx [I p0.Pc, L ga0 p0.Regs gc1, L ga2 p0.Mem gc3, L ga4 p0.Stack gc5, I p0.In, L ga6 p0.Out gc7, I p0.Code, I p0.Steps] c fun b1 _ _ c => ?_)
 refine Fp [] 1 c fun _ c => E0 (T0 (Fp [(1, 0)] 3 c fun _ c => Bd h fun x1 hx1 h => Ca [] c (laws_heldIntS_ok hx1) ⟨.f 0, trivial⟩ Tryz.call24 fun _ _ _ c => ?_))
 refine Fp [] 1 c fun _ c => E0 (S0 (P0 [] c fun _ c => I0 c h (fun h => ?_) fun h => ?_))
 refine P0 [] c fun _ c => ?_
 cases h
 exact wp_ret (tr (Rt c () [] []))
 refine K0 (T0 (Fp [(1, 0)] 3 c fun _ c => Bd h fun x2 hx2 h => Ca [] c (laws_heldIntS_ok hx2) ⟨.f 1, trivial⟩ Tryz.call24 fun _ _ _ c => ?_))
 refine Fp [] 1 c fun _ c => E0 (S0 (P0 [] c fun _ c => I0 c h (fun h => ?_) fun h => ?_))
 refine P0 [] c fun _ c => ?_
 cases h
 exact wp_ret (tr (Rt c () [] []))
 refine K0 (T0 (Fp [(1, 0)] 3 c fun _ c => Bd h fun x3 hx3 h => Ca [] c (laws_heldIntS_ok hx3) ⟨.f 2, trivial⟩ Tryz.call24 fun _ _ _ c => ?_))
 refine Fp [] 1 c fun _ c => E0 (S0 (P0 [] c fun _ c => I0 c h (fun h => ?_) fun h => ?_))
 refine P0 [] c fun _ c => ?_
 cases h
 exact wp_ret (tr (Rt c () [] []))
 refine K0 (T0 (Fp [(1, 0)] 3 c fun _ c => Bd h fun x4 hx4 h => Ca [] c (laws_heldIntS_ok hx4) ⟨.f 3, trivial⟩ Tryz.call24 fun _ _ _ c => ?_))
 refine Fp [] 1 c fun _ c => E0 (S0 (P0 [] c fun _ c => I0 c h (fun h => ?_) fun h => ?_))
 refine P0 [] c fun _ c => ?_
 cases h
 exact wp_ret (tr (Rt c () [] []))
 refine K0 (P0 [] c fun _ c => ?_)
 obtain rfl := sj h
 exact wp_ret (Rt c () [] [])

set_option maxHeartbeats 4000000 in
theorem laws_FnExactEvalPath_ok {n : Nat} {p0 : D.Program} {p1 : D.Path} {p2 : List Int} {ga0 : Option Addr} {gc1 : Nat} {ga2 : Option Addr} {gc3 : Nat} {ga4 : Option Addr} {gc5 : Nat} {ga6 : Option Addr} {gc7 : Nat} {ga8 : Option Addr} {gc9 : Nat} {ga10 : Option Addr} {gc11 : Nat} {ga12 : Option Addr} {gc13 : Nat} {ga14 : Option Addr} {gc15 : Nat} {r : Bool} (h : laws_FnExactEvalPath n p0 p1 p2 = some r) : Con Tryz.prog 5 [.agg #[I p0.W, I p0.Mem, I p0.In, L ga0 p0.Code gc1], .agg #[I p1.Pc, L ga2 p1.Regs gc3, L ga4 p1.Mem gc5, L ga6 p1.Stack gc7, I p1.In, L ga8 p1.Out gc9, I p1.Code, I p1.Steps, L ga10 p1.Cond gc11, L ga12 p1.Turns gc13], L ga14 p2 gc15] [] [RO (L ga0 p0.Code gc1) p0.Code, RO (L ga2 p1.Regs gc3) p1.Regs, RO (L ga4 p1.Mem gc5) p1.Mem, RO (L ga6 p1.Stack gc7) p1.Stack, RO (L ga8 p1.Out gc9) p1.Out, RO (L ga10 p1.Cond gc11) p1.Cond, RO (L ga12 p1.Turns gc13) p1.Turns, RO (L ga14 p2 gc15) p2, TBf Tryz.prog] fun (_ : Unit) => ([.bool r], [], []) := by
 unfold laws_FnExactEvalPath at h
 refine En Tryz.func5 rfl Tryz.ntmps5 fun _ fr w c => ?_
 refine T0 (Ebx [I p0.W, I p0.Mem, I p0.In, L ga0 p0.Code gc1] c fun b1 _ _ c => ?_)
 refine Ebx [I p1.Pc, L ga2 p1.Regs gc3, L ga4 p1.Mem gc5, L ga6 p1.Stack gc7, I p1.In, L ga8 p1.Out gc9, I p1.Code, I p1.Steps, L ga10 p1.Cond gc11, L ga12 p1.Turns gc13] c fun b2 _ _ c => ?_
 refine Fp [] 1 c fun _ c => E0 (S0 (P0 [] c fun _ c => I0 c h (fun h => ?_) fun h => ?_))
 refine P0 [] c fun _ c => ?_
 obtain rfl := sj h
 exact wp_ret (tr (Rt c () [] []))
 refine K0 (P0 [] c fun _ c => T0 (Fp [(0, 0)] 2 c fun _ c => Bd h fun x1 hx1 h => Ca [] c (laws_szProgram_ok hx1) ⟨.f 0, trivial⟩ Tryz.call6 fun _ _ _ c => ?_))
 refine Fp [] 1 c fun _ c => E0 (S0 (P0 [] c fun _ c => I0 c h (fun h => ?_) fun h => ?_))
 refine P0 [] c fun _ c => ?_
 obtain rfl := sj h
 exact wp_ret (tr (Rt c () [] []))
 refine K0 (T0 (Fp [(0, 1)] 2 c fun _ c => Bd h fun x2 hx2 h => Ca [] c (laws_szPath_ok hx2) ⟨.f 1, .f 2, .f 3, .f 4, .f 5, .f 6, trivial⟩ Tryz.call7 fun _ _ _ c => ?_))
 refine Fp [] 1 c fun _ c => E0 (S0 (P0 [] c fun _ c => I0 c h (fun h => ?_) fun h => ?_))
 refine P0 [] c fun _ c => ?_
 obtain rfl := sj h
 exact wp_ret (tr (Rt c () [] []))
 refine K0 (Bd h fun x3 hx3 h => Bd h fun x4 hx4 h => Bd h fun x5 hx5 h => Bd h fun x6 hx6 h => S0 (Jn (fun i : Nat × Option Addr × Nat × Option Addr × Nat × Option Addr × Nat × Option Addr × Nat => ([(2, L ga14 p2 gc15), (3, B b1 0), (4, B b2 0), (8, B i.1 0), (9, .bool x6.2)], fun Γ => Γ ++ [BX i.1 56 [I x6.1.Pc, L i.2.1 x6.1.Regs i.2.2.1, L i.2.2.2.1 x6.1.Mem i.2.2.2.2.1, L i.2.2.2.2.2.1 x6.1.Stack i.2.2.2.2.2.2.1, I x6.1.In, L i.2.2.2.2.2.2.2.1 x6.1.Out i.2.2.2.2.2.2.2.2, I x6.1.Code, I x6.1.Steps], sl3 (L i.2.1 x6.1.Regs i.2.2.1) x6.1.Regs, sl3 (L i.2.2.2.1 x6.1.Mem i.2.2.2.2.1) x6.1.Mem, sl3 (L i.2.2.2.2.2.1 x6.1.Stack i.2.2.2.2.2.2.1) x6.1.Stack, sl3 (L i.2.2.2.2.2.2.2.1 x6.1.Out i.2.2.2.2.2.2.2.2) x6.1.Out], [])) c ?_ fun i23 _ _ c => ?_))
 refine As mix c fun _ c => ?_
 refine At 12 [4] [(2, L ga14 p2 gc15), (3, B b1 0), (4, B b2 0), (38, L ga14 p2 gc15)] c (hQ := fun _ _ _ _ _ h => nomatch h.1) fun _ c => ?_
 refine Dg (fun i : Nat × Option Addr × Nat × Option Addr × Nat × Option Addr × Nat × Option Addr × Nat => ([(2, L ga14 p2 gc15), (3, B b1 0), (4, B b2 0), (8, B i.1 0), (42, .bool x6.2)], fun Γ => Γ ++ [BX i.1 56 [I x6.1.Pc, L i.2.1 x6.1.Regs i.2.2.1, L i.2.2.2.1 x6.1.Mem i.2.2.2.2.1, L i.2.2.2.2.2.1 x6.1.Stack i.2.2.2.2.2.2.1, I x6.1.In, L i.2.2.2.2.2.2.2.1 x6.1.Out i.2.2.2.2.2.2.2.2, I x6.1.Code, I x6.1.Steps], sl3 (L i.2.1 x6.1.Regs i.2.2.1) x6.1.Regs, sl3 (L i.2.2.2.1 x6.1.Mem i.2.2.2.2.1) x6.1.Mem, sl3 (L i.2.2.2.2.2.1 x6.1.Stack i.2.2.2.2.2.2.1) x6.1.Stack, sl3 (L i.2.2.2.2.2.2.2.1 x6.1.Out i.2.2.2.2.2.2.2.2) x6.1.Out], [])) 1 #[true, true, true, true, true, true, true, true, true, true, true, true, false] c (fun i22 _ _ c => ?_) fun hd16 => ?_
 obtain ⟨b28, a43, c43, a44, c44, a45, c45, a46, c46⟩ := i22
 refine any_node (fuel := 0) [12] (by kernel_rfl) (by simp) ⟨?_, trivial⟩
 refine op_of _ rfl rfl ?_
 refine Fp [] 1 c fun _ c => E0 (any_leaf (by kernel_rfl) ?_)
 exact nN (b28, a43, c43, a44, c44, a45, c45, a46, c46) (c.rk (rg 7) (rg 9))
 refine Dg (fun i : Nat × Option Addr × Nat × Option Addr × Nat × Option Addr × Nat × Option Addr × Nat => ([(2, L ga14 p2 gc15), (3, B b1 0), (4, B b2 0), (8, B i.1 0), (41, .agg #[I x6.1.Pc, L i.2.1 x6.1.Regs i.2.2.1, L i.2.2.2.1 x6.1.Mem i.2.2.2.2.1, L i.2.2.2.2.2.1 x6.1.Stack i.2.2.2.2.2.2.1, I x6.1.In, L i.2.2.2.2.2.2.2.1 x6.1.Out i.2.2.2.2.2.2.2.2, I x6.1.Code, I x6.1.Steps]), (42, .bool x6.2)], fun Γ => Γ ++ [BX i.1 56 [I 0, L none ([] : List Int) 0, L none ([] : List Int) 0, L none ([] : List Int) 0, I 0, L none ([] : List Int) 0, I 0, I 0], sl3 (L i.2.1 x6.1.Regs i.2.2.1) x6.1.Regs, sl3 (L i.2.2.2.1 x6.1.Mem i.2.2.2.2.1) x6.1.Mem, sl3 (L i.2.2.2.2.2.1 x6.1.Stack i.2.2.2.2.2.2.1) x6.1.Stack, sl3 (L i.2.2.2.2.2.2.2.1 x6.1.Out i.2.2.2.2.2.2.2.2) x6.1.Out], [])) 2 #[true, true, true, true, true, true, true, true, true, true, true, false, false] c (fun i21 _ _ c => ?_) fun hd15 => ?_
 obtain ⟨b27, a39, c39, a40, c40, a41, c41, a42, c42⟩ := i21
 refine any_node (fuel := 1) [11] (by kernel_rfl) (by simp) ⟨?_, trivial⟩
 refine op_of _ rfl rfl ?_
 refine Ess 2 [I x6.1.Pc, L a39 x6.1.Regs c39, L a40 x6.1.Mem c40, L a41 x6.1.Stack c41, I x6.1.In, L a42 x6.1.Out c42, I x6.1.Code, I x6.1.Steps] c fun _ c => ?_
 refine E0 (Nd hd16 (b27, a39, c39, a40, c40, a41, c41, a42, c42) (c.rk (rg 7) (rg 9)))
 refine Dg (fun i : Option Addr × Nat × Option Addr × Nat × Option Addr × Nat × Option Addr × Nat => ([(2, L ga14 p2 gc15), (3, B b1 0), (4, B b2 0), (41, .agg #[I x6.1.Pc, L i.1 x6.1.Regs i.2.1, L i.2.2.1 x6.1.Mem i.2.2.2.1, L i.2.2.2.2.1 x6.1.Stack i.2.2.2.2.2.1, I x6.1.In, L i.2.2.2.2.2.2.1 x6.1.Out i.2.2.2.2.2.2.2, I x6.1.Code, I x6.1.Steps]), (42, .bool x6.2)], fun Γ => Γ ++ [sl3 (L i.1 x6.1.Regs i.2.1) x6.1.Regs, sl3 (L i.2.2.1 x6.1.Mem i.2.2.2.1) x6.1.Mem, sl3 (L i.2.2.2.2.1 x6.1.Stack i.2.2.2.2.2.1) x6.1.Stack, sl3 (L i.2.2.2.2.2.2.1 x6.1.Out i.2.2.2.2.2.2.2) x6.1.Out], [])) 3 #[true, true, true, true, true, true, true, true, true, true, false, false, false] c (fun i9 _ _ c => ?_) fun hd7 => ?_
 obtain ⟨a3, c3, a4, c4, a5, c5, a6, c6⟩ := i9
 refine any_node (fuel := 2) [10] (by kernel_rfl) (by simp) ⟨?_, trivial⟩
 refine op_of _ rfl rfl ?_
 refine Eal [I 0, L none ([] : List Int) 0, L none ([] : List Int) 0, L none ([] : List Int) 0, I 0, L none ([] : List Int) 0, I 0, I 0] c fun b26 _ _ c => ?_
 refine E0 (Nd hd15 (b26, a3, c3, a4, c4, a5, c5, a6, c6) (c.rk [0, 1, 6, 2, 3, 4, 5] (rg 9)))
 refine Dg (fun i : Nat × Option Addr × Nat × Option Addr × Nat × Option Addr × Nat × Option Addr × Nat => ([(2, L ga14 p2 gc15), (3, B b1 0), (4, B b2 0), (8, B i.1 0), (33, .tuple #[.agg #[I x6.1.Pc, L i.2.1 x6.1.Regs i.2.2.1, L i.2.2.2.1 x6.1.Mem i.2.2.2.2.1, L i.2.2.2.2.2.1 x6.1.Stack i.2.2.2.2.2.2.1, I x6.1.In, L i.2.2.2.2.2.2.2.1 x6.1.Out i.2.2.2.2.2.2.2.2, I x6.1.Code, I x6.1.Steps], .bool x6.2]), (41, .agg #[I x6.1.Pc, L i.2.1 x6.1.Regs i.2.2.1, L i.2.2.2.1 x6.1.Mem i.2.2.2.2.1, L i.2.2.2.2.2.1 x6.1.Stack i.2.2.2.2.2.2.1, I x6.1.In, L i.2.2.2.2.2.2.2.1 x6.1.Out i.2.2.2.2.2.2.2.2, I x6.1.Code, I x6.1.Steps])], fun Γ => Γ ++ [BX i.1 56 [I 0, L none ([] : List Int) 0, L none ([] : List Int) 0, L none ([] : List Int) 0, I 0, L none ([] : List Int) 0, I 0, I 0], sl3 (L i.2.1 x6.1.Regs i.2.2.1) x6.1.Regs, sl3 (L i.2.2.2.1 x6.1.Mem i.2.2.2.2.1) x6.1.Mem, sl3 (L i.2.2.2.2.2.1 x6.1.Stack i.2.2.2.2.2.2.1) x6.1.Stack, sl3 (L i.2.2.2.2.2.2.2.1 x6.1.Out i.2.2.2.2.2.2.2.2) x6.1.Out], [])) 3 #[true, true, true, true, true, true, true, true, true, false, true, false, false] c (fun i10 _ _ c => ?_) fun hd8 => ?_
 obtain ⟨b13, a7, c7, a8, c8, a9, c9, a10, c10⟩ := i10
 refine any_node (fuel := 2) [9, 11] (by kernel_rfl) (by simp) ⟨?_, ?_, trivial⟩
 refine op_of _ rfl rfl ?_
 refine Fp [] 1 c fun _ c => E0 (Nd hd15 (b13, a7, c7, a8, c8, a9, c9, a10, c10) (c.rk (rg 7) (rg 9)))
 refine op_of _ rfl rfl ?_
 refine Ess 2 [I x6.1.Pc, L a7 x6.1.Regs c7, L a8 x6.1.Mem c8, L a9 x6.1.Stack c9, I x6.1.In, L a10 x6.1.Out c10, I x6.1.Code, I x6.1.Steps] c fun _ c => ?_
 refine E0 (any_node (fuel := 1) [9] (by kernel_rfl) (by simp) ⟨?_, trivial⟩)
 refine op_of _ rfl rfl ?_
 refine Fp [] 1 c fun _ c => E0 (Nd hd16 (b13, a7, c7, a8, c8, a9, c9, a10, c10) (c.rk (rg 7) (rg 9)))
 refine Dg (fun i : Nat × Option Addr × Nat × Option Addr × Nat × Option Addr × Nat × Option Addr × Nat => ([(2, L ga14 p2 gc15), (3, B b1 0), (4, B b2 0), (8, B i.1 0), (33, .tuple #[.agg #[I x6.1.Pc, L i.2.1 x6.1.Regs i.2.2.1, L i.2.2.2.1 x6.1.Mem i.2.2.2.2.1, L i.2.2.2.2.2.1 x6.1.Stack i.2.2.2.2.2.2.1, I x6.1.In, L i.2.2.2.2.2.2.2.1 x6.1.Out i.2.2.2.2.2.2.2.2, I x6.1.Code, I x6.1.Steps], .bool x6.2]), (42, .bool x6.2)], fun Γ => Γ ++ [BX i.1 56 [I 0, L none ([] : List Int) 0, L none ([] : List Int) 0, L none ([] : List Int) 0, I 0, L none ([] : List Int) 0, I 0, I 0], sl3 (L i.2.1 x6.1.Regs i.2.2.1) x6.1.Regs, sl3 (L i.2.2.2.1 x6.1.Mem i.2.2.2.2.1) x6.1.Mem, sl3 (L i.2.2.2.2.2.1 x6.1.Stack i.2.2.2.2.2.2.1) x6.1.Stack, sl3 (L i.2.2.2.2.2.2.2.1 x6.1.Out i.2.2.2.2.2.2.2.2) x6.1.Out], [])) 3 #[true, true, true, true, true, true, true, true, false, true, true, false, false] c (fun i11 _ _ c => ?_) fun hd9 => ?_
 obtain ⟨b15, a11, c11, a12, c12, a13, c13, a14, c14⟩ := i11
 refine any_node (fuel := 2) [8] (by kernel_rfl) (by simp) ⟨?_, trivial⟩
 refine op_of _ rfl rfl ?_
 refine Fp [] 1 c fun _ c => E0 (Nd hd15 (b15, a11, c11, a12, c12, a13, c13, a14, c14) (c.rk (rg 7) (rg 9)))
 refine Dg (fun i : Nat × Option Addr × Nat × Option Addr × Nat × Option Addr × Nat × Option Addr × Nat => ([(2, L ga14 p2 gc15), (3, B b1 0), (4, B b2 0), (8, B i.1 0), (33, .tuple #[.agg #[I x6.1.Pc, L i.2.1 x6.1.Regs i.2.2.1, L i.2.2.2.1 x6.1.Mem i.2.2.2.2.1, L i.2.2.2.2.2.1 x6.1.Stack i.2.2.2.2.2.2.1, I x6.1.In, L i.2.2.2.2.2.2.2.1 x6.1.Out i.2.2.2.2.2.2.2.2, I x6.1.Code, I x6.1.Steps], .bool x6.2])], fun Γ => Γ ++ [BX i.1 56 [I 0, L none ([] : List Int) 0, L none ([] : List Int) 0, L none ([] : List Int) 0, I 0, L none ([] : List Int) 0, I 0, I 0], sl3 (L i.2.1 x6.1.Regs i.2.2.1) x6.1.Regs, sl3 (L i.2.2.2.1 x6.1.Mem i.2.2.2.2.1) x6.1.Mem, sl3 (L i.2.2.2.2.2.1 x6.1.Stack i.2.2.2.2.2.2.1) x6.1.Stack, sl3 (L i.2.2.2.2.2.2.2.1 x6.1.Out i.2.2.2.2.2.2.2.2) x6.1.Out], [])) 4 #[true, true, true, true, true, true, true, true, false, false, true, false, false] c (fun i12 _ _ c => ?_) fun hd10 => ?_
 obtain ⟨b17, a15, c15, a16, c16, a17, c17, a18, c18⟩ := i12
 refine any_node (fuel := 3) [8, 9] (by kernel_rfl) (by simp) ⟨?_, ?_, trivial⟩
 refine op_of _ rfl rfl ?_
 refine Fp [] 1 c fun _ c => E0 (Nd hd8 (b17, a15, c15, a16, c16, a17, c17, a18, c18) (c.rk (rg 7) (rg 9)))
 refine op_of _ rfl rfl ?_
 refine Fp [] 1 c fun _ c => E0 (Nd hd9 (b17, a15, c15, a16, c16, a17, c17, a18, c18) (c.rk (rg 7) (rg 9)))
 refine Dg (fun i : Nat × Option Addr × Nat × Option Addr × Nat × Option Addr × Nat × Option Addr × Nat => ([(2, L ga14 p2 gc15), (3, B b1 0), (4, B b2 0), (8, B i.1 0), (40, .tuple #[.agg #[I x6.1.Pc, L i.2.1 x6.1.Regs i.2.2.1, L i.2.2.2.1 x6.1.Mem i.2.2.2.2.1, L i.2.2.2.2.2.1 x6.1.Stack i.2.2.2.2.2.2.1, I x6.1.In, L i.2.2.2.2.2.2.2.1 x6.1.Out i.2.2.2.2.2.2.2.2, I x6.1.Code, I x6.1.Steps], .bool x6.2])], fun Γ => Γ ++ [BX i.1 56 [I 0, L none ([] : List Int) 0, L none ([] : List Int) 0, L none ([] : List Int) 0, I 0, L none ([] : List Int) 0, I 0, I 0], sl3 (L i.2.1 x6.1.Regs i.2.2.1) x6.1.Regs, sl3 (L i.2.2.2.1 x6.1.Mem i.2.2.2.2.1) x6.1.Mem, sl3 (L i.2.2.2.2.2.1 x6.1.Stack i.2.2.2.2.2.2.1) x6.1.Stack, sl3 (L i.2.2.2.2.2.2.2.1 x6.1.Out i.2.2.2.2.2.2.2.2) x6.1.Out], [])) 5 #[true, true, true, true, true, true, true, false, false, false, true, false, false] c (fun i13 _ _ c => ?_) fun hd11 => ?_
 obtain ⟨b19, a19, c19, a20, c20, a21, c21, a22, c22⟩ := i13
 refine any_node (fuel := 4) [7] (by kernel_rfl) (by simp) ⟨?_, trivial⟩
 refine op_of _ rfl rfl ?_
 refine Fp [] 1 c fun _ c => E0 (Nd hd10 (b19, a19, c19, a20, c20, a21, c21, a22, c22) (c.rk (rg 7) (rg 9)))
 refine Dg (fun i : Nat × Option Addr × Nat × Option Addr × Nat × Option Addr × Nat × Option Addr × Nat × Option Addr × Nat × Option Addr × Nat × Option Addr × Nat × Option Addr × Nat => ([(2, L ga14 p2 gc15), (3, B b1 0), (4, B b2 0), (8, B i.1 0), (35, .agg #[I x3.W, I x3.Mem, I x3.In, L i.2.1 x3.Code i.2.2.1]), (37, .agg #[I x4.Pc, L i.2.2.2.1 x4.Regs i.2.2.2.2.1, L i.2.2.2.2.2.1 x4.Mem i.2.2.2.2.2.2.1, L i.2.2.2.2.2.2.2.1 x4.Stack i.2.2.2.2.2.2.2.2.1, I x4.In, L i.2.2.2.2.2.2.2.2.2.1 x4.Out i.2.2.2.2.2.2.2.2.2.2.1, I x4.Code, I x4.Steps, L i.2.2.2.2.2.2.2.2.2.2.2.1 x4.Cond i.2.2.2.2.2.2.2.2.2.2.2.2.1, L i.2.2.2.2.2.2.2.2.2.2.2.2.2.1 x4.Turns i.2.2.2.2.2.2.2.2.2.2.2.2.2.2.1]), (39, L i.2.2.2.2.2.2.2.2.2.2.2.2.2.2.2.1 x5 i.2.2.2.2.2.2.2.2.2.2.2.2.2.2.2.2)], fun Γ => Γ ++ [BX i.1 56 [I 0, L none ([] : List Int) 0, L none ([] : List Int) 0, L none ([] : List Int) 0, I 0, L none ([] : List Int) 0, I 0, I 0], sl91 (L i.2.1 x3.Code i.2.2.1) x3.Code, OD (ownT 75) 75 (L i.2.2.2.1 x4.Regs i.2.2.2.2.1) x4.Regs, OD (ownT 75) 75 (L i.2.2.2.2.2.1 x4.Mem i.2.2.2.2.2.2.1) x4.Mem, sl3 (L i.2.2.2.2.2.2.2.1 x4.Stack i.2.2.2.2.2.2.2.2.1) x4.Stack, OD (ownT 75) 75 (L i.2.2.2.2.2.2.2.2.2.1 x4.Out i.2.2.2.2.2.2.2.2.2.2.1) x4.Out, OD (ownT 75) 75 (L i.2.2.2.2.2.2.2.2.2.2.2.1 x4.Cond i.2.2.2.2.2.2.2.2.2.2.2.2.1) x4.Cond, sl3 (L i.2.2.2.2.2.2.2.2.2.2.2.2.2.1 x4.Turns i.2.2.2.2.2.2.2.2.2.2.2.2.2.2.1) x4.Turns, sl3 (L i.2.2.2.2.2.2.2.2.2.2.2.2.2.2.2.1 x5 i.2.2.2.2.2.2.2.2.2.2.2.2.2.2.2.2) x5], [])) 6 #[true, true, true, true, true, true, false, false, false, false, true, false, false] c (fun i14 _ _ c => ?_) fun hd12 => ?_
 obtain ⟨b21, a23, c23, a24, c24, a25, c25, a26, c26, a27, c27, a28, c28, a29, c29, a30, c30⟩ := i14
 refine any_node (fuel := 5) [6] (by kernel_rfl) (by simp) ⟨?_, trivial⟩
 refine op_of _ rfl rfl ?_
 refine Ca [] c (spec_EvalPath_ok hx6) ⟨.g 3, .go (owns_T 75) 4, .go (owns_T 75) 5, .g 6, .go (owns_T 75) 7, .go (owns_T 75) 8, .g 9, .g 10, trivial⟩ Tryz.call25 fun i20 _ _ c => ?_
 refine E0 (Nd hd11 (b21, i20.1, i20.2.1, i20.2.2.1, i20.2.2.2.1, i20.2.2.2.2.1, i20.2.2.2.2.2.1, i20.2.2.2.2.2.2.1, i20.2.2.2.2.2.2.2) (c.rk [0, 1, 2, 11, 12, 13, 14] (rg 9)))
 refine Dg (fun i : Nat × Option Addr × Nat × Option Addr × Nat × Option Addr × Nat × Option Addr × Nat × Option Addr × Nat × Option Addr × Nat × Option Addr × Nat => ([(2, L ga14 p2 gc15), (3, B b1 0), (4, B b2 0), (8, B i.1 0), (35, .agg #[I x3.W, I x3.Mem, I x3.In, L i.2.1 x3.Code i.2.2.1]), (37, .agg #[I x4.Pc, L i.2.2.2.1 x4.Regs i.2.2.2.2.1, L i.2.2.2.2.2.1 x4.Mem i.2.2.2.2.2.2.1, L i.2.2.2.2.2.2.2.1 x4.Stack i.2.2.2.2.2.2.2.2.1, I x4.In, L i.2.2.2.2.2.2.2.2.2.1 x4.Out i.2.2.2.2.2.2.2.2.2.2.1, I x4.Code, I x4.Steps, L i.2.2.2.2.2.2.2.2.2.2.2.1 x4.Cond i.2.2.2.2.2.2.2.2.2.2.2.2.1, L i.2.2.2.2.2.2.2.2.2.2.2.2.2.1 x4.Turns i.2.2.2.2.2.2.2.2.2.2.2.2.2.2]), (38, L ga14 p2 gc15)], fun Γ => Γ ++ [BX i.1 56 [I 0, L none ([] : List Int) 0, L none ([] : List Int) 0, L none ([] : List Int) 0, I 0, L none ([] : List Int) 0, I 0, I 0], sl91 (L i.2.1 x3.Code i.2.2.1) x3.Code, OD (ownT 75) 75 (L i.2.2.2.1 x4.Regs i.2.2.2.2.1) x4.Regs, OD (ownT 75) 75 (L i.2.2.2.2.2.1 x4.Mem i.2.2.2.2.2.2.1) x4.Mem, sl3 (L i.2.2.2.2.2.2.2.1 x4.Stack i.2.2.2.2.2.2.2.2.1) x4.Stack, OD (ownT 75) 75 (L i.2.2.2.2.2.2.2.2.2.1 x4.Out i.2.2.2.2.2.2.2.2.2.2.1) x4.Out, OD (ownT 75) 75 (L i.2.2.2.2.2.2.2.2.2.2.2.1 x4.Cond i.2.2.2.2.2.2.2.2.2.2.2.2.1) x4.Cond, sl3 (L i.2.2.2.2.2.2.2.2.2.2.2.2.2.1 x4.Turns i.2.2.2.2.2.2.2.2.2.2.2.2.2.2) x4.Turns], [])) 7 #[true, true, true, true, true, false, false, false, false, false, true, false, false] c (fun i15 _ _ c => ?_) fun hd13 => ?_
 obtain ⟨b23, a31, c31, a32, c32, a33, c33, a34, c34, a35, c35, a36, c36, a37, c37⟩ := i15
 refine any_node (fuel := 6) [5] (by kernel_rfl) (by simp) ⟨?_, trivial⟩
 refine op_of _ rfl rfl ?_
 refine Ca [] c (laws_toIntS_ok hx5) ⟨.f 7, trivial⟩ Tryz.call11 fun i19 _ _ c => ?_
 refine E0 (Nd hd12 (b23, a31, c31, a32, c32, a33, c33, a34, c34, a35, c35, a36, c36, a37, c37, i19.1, i19.2) (c.rk (rg 11) (rg 9)))
 refine Dg (fun i : Nat × Option Addr × Nat => ([(2, L ga14 p2 gc15), (3, B b1 0), (4, B b2 0), (8, B i.1 0), (35, .agg #[I x3.W, I x3.Mem, I x3.In, L i.2.1 x3.Code i.2.2]), (36, .agg #[I p1.Pc, L ga2 p1.Regs gc3, L ga4 p1.Mem gc5, L ga6 p1.Stack gc7, I p1.In, L ga8 p1.Out gc9, I p1.Code, I p1.Steps, L ga10 p1.Cond gc11, L ga12 p1.Turns gc13]), (38, L ga14 p2 gc15)], fun Γ => Γ ++ [BX i.1 56 [I 0, L none ([] : List Int) 0, L none ([] : List Int) 0, L none ([] : List Int) 0, I 0, L none ([] : List Int) 0, I 0, I 0], sl91 (L i.2.1 x3.Code i.2.2) x3.Code], [])) 8 #[true, true, true, false, true, false, false, false, false, false, true, false, false] c (fun i16 _ _ c => ?_) fun hd14 => ?_
 obtain ⟨b25, a38, c38⟩ := i16
 refine any_node (fuel := 7) [3] (by kernel_rfl) (by simp) ⟨?_, trivial⟩
 refine op_of _ rfl rfl ?_
 refine Ca [] c (laws_toPath_ok hx4) ⟨.f 1, .f 2, .f 3, .f 4, .f 5, .f 6, trivial⟩ Tryz.call10 fun i18 _ _ c => ?_
 refine E0 (Nd hd13 (b25, a38, c38, i18.1, i18.2.1, i18.2.2.1, i18.2.2.2.1, i18.2.2.2.2.1, i18.2.2.2.2.2.1, i18.2.2.2.2.2.2.1, i18.2.2.2.2.2.2.2.1, i18.2.2.2.2.2.2.2.2.1, i18.2.2.2.2.2.2.2.2.2.1, i18.2.2.2.2.2.2.2.2.2.2.1, i18.2.2.2.2.2.2.2.2.2.2.2) (c.rk (rg 10) (rg 9)))
 refine Dg (fun i : Option Addr × Nat => ([(2, L ga14 p2 gc15), (3, B b1 0), (4, B b2 0), (35, .agg #[I x3.W, I x3.Mem, I x3.In, L i.1 x3.Code i.2]), (36, .agg #[I p1.Pc, L ga2 p1.Regs gc3, L ga4 p1.Mem gc5, L ga6 p1.Stack gc7, I p1.In, L ga8 p1.Out gc9, I p1.Code, I p1.Steps, L ga10 p1.Cond gc11, L ga12 p1.Turns gc13]), (38, L ga14 p2 gc15)], fun Γ => Γ ++ [sl91 (L i.1 x3.Code i.2) x3.Code], [])) 9 #[true, true, true, false, true, false, false, false, false, false, false, false, false] c (fun i2 _ _ c => ?_) fun hd1 => ?_
 obtain ⟨a1, c1⟩ := i2
 refine any_node (fuel := 8) [3, 10] (by kernel_rfl) (by simp) ⟨?_, ?_, trivial⟩
 refine op_of _ rfl rfl ?_
 refine Ca [] c (laws_toPath_ok hx4) ⟨.f 1, .f 2, .f 3, .f 4, .f 5, .f 6, trivial⟩ Tryz.call10 fun i6 _ _ c => ?_
 refine E0 (any_node (fuel := 7) [5, 10] (by kernel_rfl) (by simp) ⟨?_, ?_, trivial⟩)
 refine op_of _ rfl rfl ?_
 refine Ca [] c (laws_toIntS_ok hx5) ⟨.f 7, trivial⟩ Tryz.call11 fun i7 _ _ c => ?_
 refine E0 (any_node (fuel := 6) [6, 10] (by kernel_rfl) (by simp) ⟨?_, ?_, trivial⟩)
 refine op_of _ rfl rfl ?_
 replace c := c.gm [BX b1 24 [I p0.W, I p0.Mem, I p0.In, L ga0 p0.Code gc1], BX b2 28 [I p1.Pc, L ga2 p1.Regs gc3, L ga4 p1.Mem gc5, L ga6 p1.Stack gc7, I p1.In, L ga8 p1.Out gc9, I p1.Code, I p1.Steps, L ga10 p1.Cond gc11, L ga12 p1.Turns gc13], sl91 (L a1 x3.Code c1) x3.Code, OD (ownT 75) 75 (L i6.1 x4.Regs i6.2.1) x4.Regs, OD (ownT 75) 75 (L i6.2.2.1 x4.Mem i6.2.2.2.1) x4.Mem, sl3 (L i6.2.2.2.2.1 x4.Stack i6.2.2.2.2.2.1) x4.Stack, OD (ownT 75) 75 (L i6.2.2.2.2.2.2.1 x4.Out i6.2.2.2.2.2.2.2.1) x4.Out, OD (ownT 75) 75 (L i6.2.2.2.2.2.2.2.2.1 x4.Cond i6.2.2.2.2.2.2.2.2.2.1) x4.Cond, sl3 (L i6.2.2.2.2.2.2.2.2.2.2.1 x4.Turns i6.2.2.2.2.2.2.2.2.2.2.2) x4.Turns, sl3 (L i7.1 x5 i7.2) x5]
 refine Ca [] c (spec_EvalPath_ok hx6) ⟨.g 2, .go (owns_T 75) 3, .go (owns_T 75) 4, .g 5, .go (owns_T 75) 6, .go (owns_T 75) 7, .g 8, .g 9, trivial⟩ Tryz.call25 fun i8 _ _ c => ?_
 refine E0 (any_node (fuel := 5) [7, 10] (by kernel_rfl) (by simp) ⟨?_, ?_, trivial⟩)
 refine op_of _ rfl rfl ?_
 refine Fp [] 1 c fun _ c => E0 (any_node (fuel := 4) [8, 9, 10] (by kernel_rfl) (by simp) ⟨?_, ?_, ?_, trivial⟩)
 refine op_of _ rfl rfl ?_
 refine Fp [] 1 c fun _ c => E0 (any_node (fuel := 3) [9, 10] (by kernel_rfl) (by simp) ⟨?_, ?_, trivial⟩)
 refine op_of _ rfl rfl ?_
 refine Fp [] 1 c fun _ c => E0 (Nd hd7 (i8.1, i8.2.1, i8.2.2.1, i8.2.2.2.1, i8.2.2.2.2.1, i8.2.2.2.2.2.1, i8.2.2.2.2.2.2.1, i8.2.2.2.2.2.2.2) (c.rk [0, 1, 10, 11, 12, 13] (rg 9)))
 refine op_of _ rfl rfl ?_
 refine Eal [I 0, L none ([] : List Int) 0, L none ([] : List Int) 0, L none ([] : List Int) 0, I 0, L none ([] : List Int) 0, I 0, I 0] c fun b12 _ _ c => ?_
 refine E0 (Nd hd8 (b12, i8.1, i8.2.1, i8.2.2.1, i8.2.2.2.1, i8.2.2.2.2.1, i8.2.2.2.2.2.1, i8.2.2.2.2.2.2.1, i8.2.2.2.2.2.2.2) (c.rk [0, 1, 14, 10, 11, 12, 13] (rg 9)))
 refine op_of _ rfl rfl ?_
 refine Fp [] 1 c fun _ c => E0 (any_node (fuel := 3) [8, 10] (by kernel_rfl) (by simp) ⟨?_, ?_, trivial⟩)
 refine op_of _ rfl rfl ?_
 refine Fp [] 1 c fun _ c => E0 (Nd hd7 (i8.1, i8.2.1, i8.2.2.1, i8.2.2.2.1, i8.2.2.2.2.1, i8.2.2.2.2.2.1, i8.2.2.2.2.2.2.1, i8.2.2.2.2.2.2.2) (c.rk [0, 1, 10, 11, 12, 13] (rg 9)))
 refine op_of _ rfl rfl ?_
 refine Eal [I 0, L none ([] : List Int) 0, L none ([] : List Int) 0, L none ([] : List Int) 0, I 0, L none ([] : List Int) 0, I 0, I 0] c fun b14 _ _ c => ?_
 refine E0 (Nd hd9 (b14, i8.1, i8.2.1, i8.2.2.1, i8.2.2.2.1, i8.2.2.2.2.1, i8.2.2.2.2.2.1, i8.2.2.2.2.2.2.1, i8.2.2.2.2.2.2.2) (c.rk [0, 1, 14, 10, 11, 12, 13] (rg 9)))
 refine op_of _ rfl rfl ?_
 refine Eal [I 0, L none ([] : List Int) 0, L none ([] : List Int) 0, L none ([] : List Int) 0, I 0, L none ([] : List Int) 0, I 0, I 0] c fun b16 _ _ c => ?_
 refine E0 (Nd hd10 (b16, i8.1, i8.2.1, i8.2.2.1, i8.2.2.2.1, i8.2.2.2.2.1, i8.2.2.2.2.2.1, i8.2.2.2.2.2.2.1, i8.2.2.2.2.2.2.2) (c.rk [0, 1, 14, 10, 11, 12, 13] (rg 9)))
 refine op_of _ rfl rfl ?_
 refine Eal [I 0, L none ([] : List Int) 0, L none ([] : List Int) 0, L none ([] : List Int) 0, I 0, L none ([] : List Int) 0, I 0, I 0] c fun b18 _ _ c => ?_
 refine E0 (Nd hd11 (b18, i8.1, i8.2.1, i8.2.2.1, i8.2.2.2.1, i8.2.2.2.2.1, i8.2.2.2.2.2.1, i8.2.2.2.2.2.2.1, i8.2.2.2.2.2.2.2) (c.rk [0, 1, 14, 10, 11, 12, 13] (rg 9)))
 refine op_of _ rfl rfl ?_
 replace c := c.gm [BX b1 24 [I p0.W, I p0.Mem, I p0.In, L ga0 p0.Code gc1], BX b2 28 [I p1.Pc, L ga2 p1.Regs gc3, L ga4 p1.Mem gc5, L ga6 p1.Stack gc7, I p1.In, L ga8 p1.Out gc9, I p1.Code, I p1.Steps, L ga10 p1.Cond gc11, L ga12 p1.Turns gc13], sl91 (L a1 x3.Code c1) x3.Code, OD (ownT 75) 75 (L i6.1 x4.Regs i6.2.1) x4.Regs, OD (ownT 75) 75 (L i6.2.2.1 x4.Mem i6.2.2.2.1) x4.Mem, sl3 (L i6.2.2.2.2.1 x4.Stack i6.2.2.2.2.2.1) x4.Stack, OD (ownT 75) 75 (L i6.2.2.2.2.2.2.1 x4.Out i6.2.2.2.2.2.2.2.1) x4.Out, OD (ownT 75) 75 (L i6.2.2.2.2.2.2.2.2.1 x4.Cond i6.2.2.2.2.2.2.2.2.2.1) x4.Cond, sl3 (L i6.2.2.2.2.2.2.2.2.2.2.1 x4.Turns i6.2.2.2.2.2.2.2.2.2.2.2) x4.Turns, sl3 (L i7.1 x5 i7.2) x5]
 refine Eal [I 0, L none ([] : List Int) 0, L none ([] : List Int) 0, L none ([] : List Int) 0, I 0, L none ([] : List Int) 0, I 0, I 0] c fun b20 _ _ c => ?_
 refine E0 (Nd hd12 (b20, a1, c1, i6.1, i6.2.1, i6.2.2.1, i6.2.2.2.1, i6.2.2.2.2.1, i6.2.2.2.2.2.1, i6.2.2.2.2.2.2.1, i6.2.2.2.2.2.2.2.1, i6.2.2.2.2.2.2.2.2.1, i6.2.2.2.2.2.2.2.2.2.1, i6.2.2.2.2.2.2.2.2.2.2.1, i6.2.2.2.2.2.2.2.2.2.2.2, i7.1, i7.2) (c.rk [0, 1, 10, 2, 3, 4, 5, 6, 7, 8, 9] (rg 9)))
 refine op_of _ rfl rfl ?_
 refine Eal [I 0, L none ([] : List Int) 0, L none ([] : List Int) 0, L none ([] : List Int) 0, I 0, L none ([] : List Int) 0, I 0, I 0] c fun b22 _ _ c => ?_
 refine E0 (Nd hd13 (b22, a1, c1, i6.1, i6.2.1, i6.2.2.1, i6.2.2.2.1, i6.2.2.2.2.1, i6.2.2.2.2.2.1, i6.2.2.2.2.2.2.1, i6.2.2.2.2.2.2.2.1, i6.2.2.2.2.2.2.2.2.1, i6.2.2.2.2.2.2.2.2.2.1, i6.2.2.2.2.2.2.2.2.2.2.1, i6.2.2.2.2.2.2.2.2.2.2.2) (c.rk [0, 1, 9, 2, 3, 4, 5, 6, 7, 8] (rg 9)))
 refine op_of _ rfl rfl ?_
 refine Eal [I 0, L none ([] : List Int) 0, L none ([] : List Int) 0, L none ([] : List Int) 0, I 0, L none ([] : List Int) 0, I 0, I 0] c fun b24 _ _ c => ?_
 refine E0 (Nd hd14 (b24, a1, c1) (c.rk [0, 1, 3, 2] (rg 9)))
 refine Dg (fun i : Nat × Option Addr × Nat => ([(2, L ga14 p2 gc15), (3, B b1 0), (4, B b2 0), (8, B i.1 0), (35, .agg #[I x3.W, I x3.Mem, I x3.In, L i.2.1 x3.Code i.2.2]), (38, L ga14 p2 gc15)], fun Γ => Γ ++ [BX i.1 56 [I 0, L none ([] : List Int) 0, L none ([] : List Int) 0, L none ([] : List Int) 0, I 0, L none ([] : List Int) 0, I 0, I 0], sl91 (L i.2.1 x3.Code i.2.2) x3.Code], [])) 9 #[true, true, false, false, true, false, false, false, false, false, true, false, false] c (fun i3 _ _ c => ?_) fun hd2 => ?_
 obtain ⟨b4, a2, c2⟩ := i3
 refine any_node (fuel := 8) [2] (by kernel_rfl) (by simp) ⟨?_, trivial⟩
 refine op_of _ rfl rfl ?_
 refine Fp [(0, 1)] 1 c fun _ c => E0 (Nd hd14 (b4, a2, c2) (c.rk (rg 4) (rg 9)))
 refine Dg (fun i : Nat => ([(2, L ga14 p2 gc15), (3, B b1 0), (4, B b2 0), (8, B i 0), (34, .agg #[I p0.W, I p0.Mem, I p0.In, L ga0 p0.Code gc1]), (36, .agg #[I p1.Pc, L ga2 p1.Regs gc3, L ga4 p1.Mem gc5, L ga6 p1.Stack gc7, I p1.In, L ga8 p1.Out gc9, I p1.Code, I p1.Steps, L ga10 p1.Cond gc11, L ga12 p1.Turns gc13]), (38, L ga14 p2 gc15)], fun Γ => Γ ++ [BX i 56 [I 0, L none ([] : List Int) 0, L none ([] : List Int) 0, L none ([] : List Int) 0, I 0, L none ([] : List Int) 0, I 0, I 0]], [])) 9 #[true, false, true, false, true, false, false, false, false, false, true, false, false] c (fun b11 _ _ c => ?_) fun hd6 => ?_
 refine any_node (fuel := 8) [1] (by kernel_rfl) (by simp) ⟨?_, trivial⟩
 refine op_of _ rfl rfl ?_
 refine Ca [] c (laws_toProgram_ok hx3) ⟨.f 0, trivial⟩ Tryz.call9 fun i17 _ _ c => ?_
 refine E0 (Nd hd14 (b11, i17.1, i17.2) (c.rk (rg 4) (rg 9)))
 refine Dg (fun _ : Unit => ([(2, L ga14 p2 gc15), (3, B b1 0), (4, B b2 0), (34, .agg #[I p0.W, I p0.Mem, I p0.In, L ga0 p0.Code gc1]), (36, .agg #[I p1.Pc, L ga2 p1.Regs gc3, L ga4 p1.Mem gc5, L ga6 p1.Stack gc7, I p1.In, L ga8 p1.Out gc9, I p1.Code, I p1.Steps, L ga10 p1.Cond gc11, L ga12 p1.Turns gc13]), (38, L ga14 p2 gc15)], id, [])) 10 #[true, false, true, false, true, false, false, false, false, false, false, false, false] c (fun _ _ _ c => ?_) fun hd3 => ?_
 refine any_node (fuel := 9) [1, 10] (by kernel_rfl) (by simp) ⟨?_, ?_, trivial⟩
 refine op_of _ rfl rfl ?_
 refine Ca [] c (laws_toProgram_ok hx3) ⟨.f 0, trivial⟩ Tryz.call9 fun i4 _ _ c => ?_
 refine E0 (Nd hd1 (i4.1, i4.2) (c.rk [0, 1, 2] (rg 9)))
 refine op_of _ rfl rfl ?_
 refine Eal [I 0, L none ([] : List Int) 0, L none ([] : List Int) 0, L none ([] : List Int) 0, I 0, L none ([] : List Int) 0, I 0, I 0] c fun b10 _ _ c => ?_
 refine E0 (Nd hd6 (b10) (c.rk [0, 1, 2] (rg 9)))
 refine Dg (fun i : Nat => ([(2, L ga14 p2 gc15), (3, B b1 0), (4, B b2 0), (8, B i 0), (34, .agg #[I p0.W, I p0.Mem, I p0.In, L ga0 p0.Code gc1]), (38, L ga14 p2 gc15)], fun Γ => Γ ++ [BX i 56 [I 0, L none ([] : List Int) 0, L none ([] : List Int) 0, L none ([] : List Int) 0, I 0, L none ([] : List Int) 0, I 0, I 0]], [])) 10 #[true, false, false, false, true, false, false, false, false, false, true, false, false] c (fun b6 _ _ c => ?_) fun hd4 => ?_
 refine any_node (fuel := 9) [1, 2] (by kernel_rfl) (by simp) ⟨?_, ?_, trivial⟩
 refine op_of _ rfl rfl ?_
 refine Ca [] c (laws_toProgram_ok hx3) ⟨.f 0, trivial⟩ Tryz.call9 fun i5 _ _ c => ?_
 refine E0 (Nd hd2 (b6, i5.1, i5.2) (c.rk (rg 4) (rg 9)))
 refine op_of _ rfl rfl ?_
 refine Fp [(0, 1)] 1 c fun _ c => E0 (Nd hd6 (b6) (c.rk [0, 1, 2] (rg 9)))
 refine Dg (fun i : Nat => ([(2, L ga14 p2 gc15), (3, B b1 0), (4, B b2 0), (8, B i 0), (36, .agg #[I p1.Pc, L ga2 p1.Regs gc3, L ga4 p1.Mem gc5, L ga6 p1.Stack gc7, I p1.In, L ga8 p1.Out gc9, I p1.Code, I p1.Steps, L ga10 p1.Cond gc11, L ga12 p1.Turns gc13]), (38, L ga14 p2 gc15)], fun Γ => Γ ++ [BX i 56 [I 0, L none ([] : List Int) 0, L none ([] : List Int) 0, L none ([] : List Int) 0, I 0, L none ([] : List Int) 0, I 0, I 0]], [])) 10 #[false, false, true, false, true, false, false, false, false, false, true, false, false] c (fun b8 _ _ c => ?_) fun hd5 => ?_
 refine any_node (fuel := 9) [0] (by kernel_rfl) (by simp) ⟨?_, trivial⟩
 refine op_of _ rfl rfl ?_
 refine Fp [(0, 0)] 1 c fun _ c => E0 (Nd hd6 (b8) (c.rk [0, 1, 2] (rg 9)))
 refine any_node (fuel := 11) [0, 2, 10] (by kernel_rfl) (by simp) ⟨?_, ?_, ?_, trivial⟩
 refine op_of _ rfl rfl ?_
 refine Fp [(0, 0)] 1 c fun _ c => E0 (any_node (fuel := 10) [1, 2, 10] (by kernel_rfl) (by simp) ⟨?_, ?_, ?_, trivial⟩)
 refine op_of _ rfl rfl ?_
 refine Ca [] c (laws_toProgram_ok hx3) ⟨.f 0, trivial⟩ Tryz.call9 fun i1 _ _ c => ?_
 refine E0 (any_node (fuel := 9) [2, 10] (by kernel_rfl) (by simp) ⟨?_, ?_, trivial⟩)
 refine op_of _ rfl rfl ?_
 refine Fp [(0, 1)] 1 c fun _ c => E0 (Nd hd1 (i1.1, i1.2) (c.rk [0, 1, 2] (rg 9)))
 refine op_of _ rfl rfl ?_
 replace c := c.gm [BX b1 24 [I p0.W, I p0.Mem, I p0.In, L ga0 p0.Code gc1], BX b2 28 [I p1.Pc, L ga2 p1.Regs gc3, L ga4 p1.Mem gc5, L ga6 p1.Stack gc7, I p1.In, L ga8 p1.Out gc9, I p1.Code, I p1.Steps, L ga10 p1.Cond gc11, L ga12 p1.Turns gc13], sl91 (L i1.1 x3.Code i1.2) x3.Code]
 refine Eal [I 0, L none ([] : List Int) 0, L none ([] : List Int) 0, L none ([] : List Int) 0, I 0, L none ([] : List Int) 0, I 0, I 0] c fun b3 _ _ c => ?_
 refine E0 (Nd hd2 (b3, i1.1, i1.2) (c.rk [0, 1, 3, 2] (rg 9)))
 refine op_of _ rfl rfl ?_
 refine Fp [(0, 1)] 1 c fun _ c => E0 (Nd hd3 () (c.rk [0, 1] (rg 9)))
 refine op_of _ rfl rfl ?_
 refine Eal [I 0, L none ([] : List Int) 0, L none ([] : List Int) 0, L none ([] : List Int) 0, I 0, L none ([] : List Int) 0, I 0, I 0] c fun b5 _ _ c => ?_
 refine E0 (Nd hd4 (b5) (c.rk [0, 1, 2] (rg 9)))
 refine op_of _ rfl rfl ?_
 refine Fp [(0, 1)] 1 c fun _ c => E0 (any_node (fuel := 10) [0, 10] (by kernel_rfl) (by simp) ⟨?_, ?_, trivial⟩)
 refine op_of _ rfl rfl ?_
 refine Fp [(0, 0)] 1 c fun _ c => E0 (Nd hd3 () (c.rk [0, 1] (rg 9)))
 refine op_of _ rfl rfl ?_
 refine Eal [I 0, L none ([] : List Int) 0, L none ([] : List Int) 0, L none ([] : List Int) 0, I 0, L none ([] : List Int) 0, I 0, I 0] c fun b7 _ _ c => ?_
 refine E0 (Nd hd5 (b7) (c.rk [0, 1, 2] (rg 9)))
 refine op_of _ rfl rfl ?_
 refine Eal [I 0, L none ([] : List Int) 0, L none ([] : List Int) 0, L none ([] : List Int) 0, I 0, L none ([] : List Int) 0, I 0, I 0] c fun b9 _ _ c => ?_
 refine E0 (any_node (fuel := 10) [0, 2] (by kernel_rfl) (by simp) ⟨?_, ?_, trivial⟩)
 refine op_of _ rfl rfl ?_
 refine Fp [(0, 0)] 1 c fun _ c => E0 (Nd hd4 (b9) (c.rk [0, 1, 2] (rg 9)))
 refine op_of _ rfl rfl ?_
 refine Fp [(0, 1)] 1 c fun _ c => E0 (Nd hd5 (b9) (c.rk [0, 1, 2] (rg 9)))
 obtain ⟨b29, a47, c47, a48, c48, a49, c49, a50, c50⟩ := i23
 refine T0 (Fp [(0, 0)] 1 c fun _ c => Bd h fun x7 hx7 h => Ca [] c (laws_toProgram_ok hx7) ⟨.f 0, trivial⟩ Tryz.call9 fun i24 _ _ c => ?_)
 refine Eal [I 0, I 0, I 0, L none ([] : List D.Ins) 0] c fun b30 _ _ c => ?_
 replace c := c.gm [BX b1 24 [I p0.W, I p0.Mem, I p0.In, L ga0 p0.Code gc1], BX b2 28 [I p1.Pc, L ga2 p1.Regs gc3, L ga4 p1.Mem gc5, L ga6 p1.Stack gc7, I p1.In, L ga8 p1.Out gc9, I p1.Code, I p1.Steps, L ga10 p1.Cond gc11, L ga12 p1.Turns gc13], BX b29 56 [I x6.1.Pc, L a47 x6.1.Regs c47, L a48 x6.1.Mem c48, L a49 x6.1.Stack c49, I x6.1.In, L a50 x6.1.Out c50, I x6.1.Code, I x6.1.Steps], sl3 (L a47 x6.1.Regs c47) x6.1.Regs, sl3 (L a48 x6.1.Mem c48) x6.1.Mem, sl3 (L a49 x6.1.Stack c49) x6.1.Stack, sl3 (L a50 x6.1.Out c50) x6.1.Out, sl91 (L i24.1 x7.Code i24.2) x7.Code, BX b30 34 [I 0, I 0, I 0, L none ([] : List D.Ins) 0]]
 refine Ess 8 [I x7.W, I x7.Mem, I x7.In, L i24.1 x7.Code i24.2] c fun _ c => ?_
 refine E0 (T0 (Fp [(0, 1)] 1 c fun _ c => Bd h fun x8 hx8 h => Ca [] c (laws_toPath_ok hx8) ⟨.f 1, .f 2, .f 3, .f 4, .f 5, .f 6, trivial⟩ Tryz.call10 fun i25 _ _ c => ?_))
 replace c := c.gm [BX b1 24 [I p0.W, I p0.Mem, I p0.In, L ga0 p0.Code gc1], BX b2 28 [I p1.Pc, L ga2 p1.Regs gc3, L ga4 p1.Mem gc5, L ga6 p1.Stack gc7, I p1.In, L ga8 p1.Out gc9, I p1.Code, I p1.Steps, L ga10 p1.Cond gc11, L ga12 p1.Turns gc13], BX b29 56 [I x6.1.Pc, L a47 x6.1.Regs c47, L a48 x6.1.Mem c48, L a49 x6.1.Stack c49, I x6.1.In, L a50 x6.1.Out c50, I x6.1.Code, I x6.1.Steps], sl3 (L a47 x6.1.Regs c47) x6.1.Regs, sl3 (L a48 x6.1.Mem c48) x6.1.Mem, sl3 (L a49 x6.1.Stack c49) x6.1.Stack, sl3 (L a50 x6.1.Out c50) x6.1.Out, sl91 (L i24.1 x7.Code i24.2) x7.Code, BX b30 34 [I x7.W, I x7.Mem, I x7.In, L i24.1 x7.Code i24.2], OD (ownT 75) 75 (L i25.1 x8.Regs i25.2.1) x8.Regs, OD (ownT 75) 75 (L i25.2.2.1 x8.Mem i25.2.2.2.1) x8.Mem, sl3 (L i25.2.2.2.2.1 x8.Stack i25.2.2.2.2.2.1) x8.Stack, OD (ownT 75) 75 (L i25.2.2.2.2.2.2.1 x8.Out i25.2.2.2.2.2.2.2.1) x8.Out, OD (ownT 75) 75 (L i25.2.2.2.2.2.2.2.2.1 x8.Cond i25.2.2.2.2.2.2.2.2.2.1) x8.Cond, sl3 (L i25.2.2.2.2.2.2.2.2.2.2.1 x8.Turns i25.2.2.2.2.2.2.2.2.2.2.2) x8.Turns]
 refine Eal [I 0, L none ([] : List D.Term) 0, L none ([] : List D.Term) 0, L none ([] : List Int) 0, I 0, L none ([] : List D.Term) 0, I 0, I 0, L none ([] : List D.Term) 0, L none ([] : List Int) 0] c fun b31 _ _ c => ?_
 refine Ess 15 [I x8.Pc, L i25.1 x8.Regs i25.2.1, L i25.2.2.1 x8.Mem i25.2.2.2.1, L i25.2.2.2.2.1 x8.Stack i25.2.2.2.2.2.1, I x8.In, L i25.2.2.2.2.2.2.1 x8.Out i25.2.2.2.2.2.2.2.1, I x8.Code, I x8.Steps, L i25.2.2.2.2.2.2.2.2.1 x8.Cond i25.2.2.2.2.2.2.2.2.2.1, L i25.2.2.2.2.2.2.2.2.2.2.1 x8.Turns i25.2.2.2.2.2.2.2.2.2.2.2] c fun _ c => ?_
 refine E0 (T0 (Fp [] 1 c fun _ c => ?_))
 replace c := c.gm [BX b1 24 [I p0.W, I p0.Mem, I p0.In, L ga0 p0.Code gc1], BX b2 28 [I p1.Pc, L ga2 p1.Regs gc3, L ga4 p1.Mem gc5, L ga6 p1.Stack gc7, I p1.In, L ga8 p1.Out gc9, I p1.Code, I p1.Steps, L ga10 p1.Cond gc11, L ga12 p1.Turns gc13], BX b29 56 [I x6.1.Pc, L a47 x6.1.Regs c47, L a48 x6.1.Mem c48, L a49 x6.1.Stack c49, I x6.1.In, L a50 x6.1.Out c50, I x6.1.Code, I x6.1.Steps], sl3 (L a47 x6.1.Regs c47) x6.1.Regs, sl3 (L a48 x6.1.Mem c48) x6.1.Mem, sl3 (L a49 x6.1.Stack c49) x6.1.Stack, sl3 (L a50 x6.1.Out c50) x6.1.Out, sl91 (L i24.1 x7.Code i24.2) x7.Code, BX b30 34 [I x7.W, I x7.Mem, I x7.In, L i24.1 x7.Code i24.2], OD (ownT 75) 75 (L i25.1 x8.Regs i25.2.1) x8.Regs, OD (ownT 75) 75 (L i25.2.2.1 x8.Mem i25.2.2.2.1) x8.Mem, sl3 (L i25.2.2.2.2.1 x8.Stack i25.2.2.2.2.2.1) x8.Stack, OD (ownT 75) 75 (L i25.2.2.2.2.2.2.1 x8.Out i25.2.2.2.2.2.2.2.1) x8.Out, OD (ownT 75) 75 (L i25.2.2.2.2.2.2.2.2.1 x8.Cond i25.2.2.2.2.2.2.2.2.2.1) x8.Cond, sl3 (L i25.2.2.2.2.2.2.2.2.2.2.1 x8.Turns i25.2.2.2.2.2.2.2.2.2.2.2) x8.Turns, BX b31 38 [I x8.Pc, L i25.1 x8.Regs i25.2.1, L i25.2.2.1 x8.Mem i25.2.2.2.1, L i25.2.2.2.2.1 x8.Stack i25.2.2.2.2.2.1, I x8.In, L i25.2.2.2.2.2.2.1 x8.Out i25.2.2.2.2.2.2.2.1, I x8.Code, I x8.Steps, L i25.2.2.2.2.2.2.2.2.1 x8.Cond i25.2.2.2.2.2.2.2.2.2.1, L i25.2.2.2.2.2.2.2.2.2.2.1 x8.Turns i25.2.2.2.2.2.2.2.2.2.2.2]]
 refine Bd h fun x9 hx9 h => Ca [] c (laws_toIntS_ok hx9) ⟨.f 7, trivial⟩ Tryz.call11 fun i26 _ _ c => ?_
 refine Fp [] 1 c fun _ c => E0 (T0 (Fp [(0, 3), (1, 4)] 3 c fun _ c => Bd h fun x10 hx10 h => Ca [] c (impl_EvalPath_ok hx10) ⟨.g 7, .go (owns_T 75) 9, .go (owns_T 75) 10, .g 11, .go (owns_T 75) 12, .go (owns_T 75) 13, .g 14, .g 16, .f 8, trivial⟩ Tryz.call26 fun i27 _ _ c => ?_))
 refine Fp [] 3 c fun _ c => ?_
 replace c := c.gm [BX b1 24 [I p0.W, I p0.Mem, I p0.In, L ga0 p0.Code gc1], BX b2 28 [I p1.Pc, L ga2 p1.Regs gc3, L ga4 p1.Mem gc5, L ga6 p1.Stack gc7, I p1.In, L ga8 p1.Out gc9, I p1.Code, I p1.Steps, L ga10 p1.Cond gc11, L ga12 p1.Turns gc13], BX b29 56 [I x6.1.Pc, L a47 x6.1.Regs c47, L a48 x6.1.Mem c48, L a49 x6.1.Stack c49, I x6.1.In, L a50 x6.1.Out c50, I x6.1.Code, I x6.1.Steps], sl3 (L a47 x6.1.Regs c47) x6.1.Regs, sl3 (L a48 x6.1.Mem c48) x6.1.Mem, sl3 (L a49 x6.1.Stack c49) x6.1.Stack, sl3 (L a50 x6.1.Out c50) x6.1.Out, sl91 (L i24.1 x7.Code i24.2) x7.Code, BX b30 34 [I x7.W, I x7.Mem, I x7.In, L i24.1 x7.Code i24.2], OD (ownT 75) 75 (L i25.1 x8.Regs i25.2.1) x8.Regs, OD (ownT 75) 75 (L i25.2.2.1 x8.Mem i25.2.2.2.1) x8.Mem, sl3 (L i25.2.2.2.2.1 x8.Stack i25.2.2.2.2.2.1) x8.Stack, OD (ownT 75) 75 (L i25.2.2.2.2.2.2.1 x8.Out i25.2.2.2.2.2.2.2.1) x8.Out, OD (ownT 75) 75 (L i25.2.2.2.2.2.2.2.2.1 x8.Cond i25.2.2.2.2.2.2.2.2.2.1) x8.Cond, sl3 (L i25.2.2.2.2.2.2.2.2.2.2.1 x8.Turns i25.2.2.2.2.2.2.2.2.2.2.2) x8.Turns, BX b31 38 [I x8.Pc, L i25.1 x8.Regs i25.2.1, L i25.2.2.1 x8.Mem i25.2.2.2.1, L i25.2.2.2.2.1 x8.Stack i25.2.2.2.2.2.1, I x8.In, L i25.2.2.2.2.2.2.1 x8.Out i25.2.2.2.2.2.2.2.1, I x8.Code, I x8.Steps, L i25.2.2.2.2.2.2.2.2.1 x8.Cond i25.2.2.2.2.2.2.2.2.2.1, L i25.2.2.2.2.2.2.2.2.2.2.1 x8.Turns i25.2.2.2.2.2.2.2.2.2.2.2], sl3 (L i26.1 x9 i26.2) x9, sl3 (L i27.1 x10.1.Regs i27.2.1) x10.1.Regs, sl3 (L i27.2.2.1 x10.1.Mem i27.2.2.2.1) x10.1.Mem, sl3 (L i27.2.2.2.2.1 x10.1.Stack i27.2.2.2.2.2.1) x10.1.Stack, sl3 (L i27.2.2.2.2.2.2.1 x10.1.Out i27.2.2.2.2.2.2.2) x10.1.Out]
 refine Eal [I 0, L none ([] : List Int) 0, L none ([] : List Int) 0, L none ([] : List Int) 0, I 0, L none ([] : List Int) 0, I 0, I 0] c fun b32 _ _ c => ?_
 refine Ess 21 [I x10.1.Pc, L i27.1 x10.1.Regs i27.2.1, L i27.2.2.1 x10.1.Mem i27.2.2.2.1, L i27.2.2.2.2.1 x10.1.Stack i27.2.2.2.2.2.1, I x10.1.In, L i27.2.2.2.2.2.2.1 x10.1.Out i27.2.2.2.2.2.2.2, I x10.1.Code, I x10.1.Steps] c fun _ c => ?_
 refine Fp [] 1 c fun _ c => E0 (S0 (Bd h fun x11 hx11 h => S0 (rZ [(2, .eq (.bool x11))] [(0, 5), (1, 2)] mix c ⟨Ncl c (kN (laws_eqState_ok hx11)) ⟨.g 17, .g 18, .g 19, .g 20, .g 3, .g 4, .g 5, .g 6, trivial⟩ Tryz.call27, trivial⟩ fun _ _ c => I0 c h (fun h => ?_) fun h => ?_)))
 refine P0 [] c fun _ c => ?_
 obtain rfl := sj h
 exact wp_ret (tr (Rt c () [] []))
 refine K0 (S0 (Bd h fun x12 hx12 h => Bd h fun x13 hx13 h => S0 (Jn (fun _ : Unit => ([(2, L ga14 p2 gc15), (3, B b1 0), (4, B b2 0), (8, B b29 0), (9, .bool x6.2), (10, B b30 0), (11, B b31 0), (12, L i26.1 x9 i26.2), (13, B b32 0), (14, .bool x10.2), (69, .bool (!x13))], id, [])) c ?_ fun _ _ _ c => ?_)))
 refine As mix c fun _ c => ?_
 refine Dg (fun i : Option Addr × Nat => ([(2, L ga14 p2 gc15), (3, B b1 0), (4, B b2 0), (8, B b29 0), (9, .bool x6.2), (10, B b30 0), (11, B b31 0), (12, L i26.1 x9 i26.2), (13, B b32 0), (14, .bool x10.2), (65, .agg #[I x7.W, I x7.Mem, I x7.In, L i24.1 x7.Code i24.2]), (67, .agg #[I x12.W, I x12.Mem, I x12.In, L i.1 x12.Code i.2])], fun Γ => Γ ++ [sl91 (L i.1 x12.Code i.2) x12.Code], [])) 2 #[true, true, true, false, false] c (fun i29 _ _ c => ?_) fun hd18 => ?_
 obtain ⟨a51, c51⟩ := i29
 refine any_node (fuel := 1) [3] (by kernel_rfl) (by simp) ⟨?_, trivial⟩
 refine op_of _ rfl rfl ?_
 refine Ca [] c (laws_eqProgram_ok hx13) ⟨.g 7, .g 22, trivial⟩ Tryz.call13 fun _ _ _ c => ?_
 refine E0 (any_node (fuel := 0) [4] (by kernel_rfl) (by simp) ⟨?_, trivial⟩)
 refine op_of _ rfl rfl ?_
 refine Fp [] 1 c fun _ c => E0 (any_leaf (by kernel_rfl) ?_)
 exact nN () (c.rk (rg 22) (rg 9))
 refine Dg (fun _ : Unit => ([(2, L ga14 p2 gc15), (3, B b1 0), (4, B b2 0), (8, B b29 0), (9, .bool x6.2), (10, B b30 0), (11, B b31 0), (12, L i26.1 x9 i26.2), (13, B b32 0), (14, .bool x10.2), (65, .agg #[I x7.W, I x7.Mem, I x7.In, L i24.1 x7.Code i24.2]), (66, .agg #[I p0.W, I p0.Mem, I p0.In, L ga0 p0.Code gc1])], id, [])) 3 #[true, true, false, false, false] c (fun _ _ _ c => ?_) fun hd17 => ?_
 refine any_node (fuel := 2) [2] (by kernel_rfl) (by simp) ⟨?_, trivial⟩
 refine op_of _ rfl rfl ?_
 refine Ca [] c (laws_toProgram_ok hx12) ⟨.f 0, trivial⟩ Tryz.call9 fun i30 _ _ c => ?_
 refine E0 (Nd hd18 (i30.1, i30.2) (c.rk (rg 23) (rg 9)))
 refine any_node (fuel := 4) [0, 1] (by kernel_rfl) (by simp) ⟨?_, ?_, trivial⟩
 refine op_of _ rfl rfl ?_
 refine Fp [(0, 3)] 1 c fun _ c => E0 (any_node (fuel := 3) [1] (by kernel_rfl) (by simp) ⟨?_, trivial⟩)
 refine op_of _ rfl rfl ?_
 refine Fp [(0, 0)] 1 c fun _ c => E0 (Nd hd17 () (c.rk (rg 22) (rg 9)))
 refine op_of _ rfl rfl ?_
 refine Fp [(0, 0)] 1 c fun _ c => E0 (any_node (fuel := 3) [0, 2] (by kernel_rfl) (by simp) ⟨?_, ?_, trivial⟩)
 refine op_of _ rfl rfl ?_
 refine Fp [(0, 3)] 1 c fun _ c => E0 (Nd hd17 () (c.rk (rg 22) (rg 9)))
 refine op_of _ rfl rfl ?_
 replace c := c.gm [BX b1 24 [I p0.W, I p0.Mem, I p0.In, L ga0 p0.Code gc1], BX b2 28 [I p1.Pc, L ga2 p1.Regs gc3, L ga4 p1.Mem gc5, L ga6 p1.Stack gc7, I p1.In, L ga8 p1.Out gc9, I p1.Code, I p1.Steps, L ga10 p1.Cond gc11, L ga12 p1.Turns gc13], BX b29 56 [I x6.1.Pc, L a47 x6.1.Regs c47, L a48 x6.1.Mem c48, L a49 x6.1.Stack c49, I x6.1.In, L a50 x6.1.Out c50, I x6.1.Code, I x6.1.Steps], sl3 (L a47 x6.1.Regs c47) x6.1.Regs, sl3 (L a48 x6.1.Mem c48) x6.1.Mem, sl3 (L a49 x6.1.Stack c49) x6.1.Stack, sl3 (L a50 x6.1.Out c50) x6.1.Out, sl91 (L i24.1 x7.Code i24.2) x7.Code, BX b30 34 [I x7.W, I x7.Mem, I x7.In, L i24.1 x7.Code i24.2], OD (ownT 75) 75 (L i25.1 x8.Regs i25.2.1) x8.Regs, OD (ownT 75) 75 (L i25.2.2.1 x8.Mem i25.2.2.2.1) x8.Mem, sl3 (L i25.2.2.2.2.1 x8.Stack i25.2.2.2.2.2.1) x8.Stack, OD (ownT 75) 75 (L i25.2.2.2.2.2.2.1 x8.Out i25.2.2.2.2.2.2.2.1) x8.Out, OD (ownT 75) 75 (L i25.2.2.2.2.2.2.2.2.1 x8.Cond i25.2.2.2.2.2.2.2.2.2.1) x8.Cond, sl3 (L i25.2.2.2.2.2.2.2.2.2.2.1 x8.Turns i25.2.2.2.2.2.2.2.2.2.2.2) x8.Turns, BX b31 38 [I x8.Pc, L i25.1 x8.Regs i25.2.1, L i25.2.2.1 x8.Mem i25.2.2.2.1, L i25.2.2.2.2.1 x8.Stack i25.2.2.2.2.2.1, I x8.In, L i25.2.2.2.2.2.2.1 x8.Out i25.2.2.2.2.2.2.2.1, I x8.Code, I x8.Steps, L i25.2.2.2.2.2.2.2.2.1 x8.Cond i25.2.2.2.2.2.2.2.2.2.1, L i25.2.2.2.2.2.2.2.2.2.2.1 x8.Turns i25.2.2.2.2.2.2.2.2.2.2.2], sl3 (L i26.1 x9 i26.2) x9, sl3 (L i27.1 x10.1.Regs i27.2.1) x10.1.Regs, sl3 (L i27.2.2.1 x10.1.Mem i27.2.2.2.1) x10.1.Mem, sl3 (L i27.2.2.2.2.1 x10.1.Stack i27.2.2.2.2.2.1) x10.1.Stack, sl3 (L i27.2.2.2.2.2.2.1 x10.1.Out i27.2.2.2.2.2.2.2) x10.1.Out, BX b32 56 [I x10.1.Pc, L i27.1 x10.1.Regs i27.2.1, L i27.2.2.1 x10.1.Mem i27.2.2.2.1, L i27.2.2.2.2.1 x10.1.Stack i27.2.2.2.2.2.1, I x10.1.In, L i27.2.2.2.2.2.2.1 x10.1.Out i27.2.2.2.2.2.2.2, I x10.1.Code, I x10.1.Steps]]
 refine Ca [] c (laws_toProgram_ok hx12) ⟨.f 0, trivial⟩ Tryz.call9 fun i28 _ _ c => ?_
 refine E0 (any_node (fuel := 2) [0] (by kernel_rfl) (by simp) ⟨?_, trivial⟩)
 refine op_of _ rfl rfl ?_
 refine Fp [(0, 3)] 1 c fun _ c => E0 (Nd hd18 (i28.1, i28.2) (c.rk (rg 23) (rg 9)))
 refine I0 c h (fun h => ?_) fun h => ?_
 refine P0 [] c fun _ c => ?_
 obtain rfl := sj h
 exact wp_ret (tr (Rt c () [] []))
 refine K0 (S0 (Bd h fun x14 hx14 h => Bd h fun x15 hx15 h => S0 (Jn (fun _ : Unit => ([(2, L ga14 p2 gc15), (3, B b1 0), (4, B b2 0), (8, B b29 0), (9, .bool x6.2), (10, B b30 0), (11, B b31 0), (12, L i26.1 x9 i26.2), (13, B b32 0), (14, .bool x10.2), (74, .bool (!x15))], id, [])) c ?_ fun _ _ _ c => ?_)))
 refine As mix c fun _ c => ?_
 refine Dg (fun i : Option Addr × Nat × Option Addr × Nat × Option Addr × Nat × Option Addr × Nat × Option Addr × Nat × Option Addr × Nat => ([(2, L ga14 p2 gc15), (3, B b1 0), (4, B b2 0), (8, B b29 0), (9, .bool x6.2), (10, B b30 0), (11, B b31 0), (12, L i26.1 x9 i26.2), (13, B b32 0), (14, .bool x10.2), (70, .agg #[I x8.Pc, L i25.1 x8.Regs i25.2.1, L i25.2.2.1 x8.Mem i25.2.2.2.1, L i25.2.2.2.2.1 x8.Stack i25.2.2.2.2.2.1, I x8.In, L i25.2.2.2.2.2.2.1 x8.Out i25.2.2.2.2.2.2.2.1, I x8.Code, I x8.Steps, L i25.2.2.2.2.2.2.2.2.1 x8.Cond i25.2.2.2.2.2.2.2.2.2.1, L i25.2.2.2.2.2.2.2.2.2.2.1 x8.Turns i25.2.2.2.2.2.2.2.2.2.2.2]), (72, .agg #[I x14.Pc, L i.1 x14.Regs i.2.1, L i.2.2.1 x14.Mem i.2.2.2.1, L i.2.2.2.2.1 x14.Stack i.2.2.2.2.2.1, I x14.In, L i.2.2.2.2.2.2.1 x14.Out i.2.2.2.2.2.2.2.1, I x14.Code, I x14.Steps, L i.2.2.2.2.2.2.2.2.1 x14.Cond i.2.2.2.2.2.2.2.2.2.1, L i.2.2.2.2.2.2.2.2.2.2.1 x14.Turns i.2.2.2.2.2.2.2.2.2.2.2])], fun Γ => Γ ++ [OD (ownT 75) 75 (L i.1 x14.Regs i.2.1) x14.Regs, OD (ownT 75) 75 (L i.2.2.1 x14.Mem i.2.2.2.1) x14.Mem, sl3 (L i.2.2.2.2.1 x14.Stack i.2.2.2.2.2.1) x14.Stack, OD (ownT 75) 75 (L i.2.2.2.2.2.2.1 x14.Out i.2.2.2.2.2.2.2.1) x14.Out, OD (ownT 75) 75 (L i.2.2.2.2.2.2.2.2.1 x14.Cond i.2.2.2.2.2.2.2.2.2.1) x14.Cond, sl3 (L i.2.2.2.2.2.2.2.2.2.2.1 x14.Turns i.2.2.2.2.2.2.2.2.2.2.2) x14.Turns], [])) 2 #[true, true, true, false, false] c (fun i32 _ _ c => ?_) fun hd20 => ?_
 obtain ⟨a52, c52, a53, c53, a54, c54, a55, c55, a56, c56, a57, c57⟩ := i32
 refine any_node (fuel := 1) [3] (by kernel_rfl) (by simp) ⟨?_, trivial⟩
 refine op_of _ rfl rfl ?_
 refine Ca [] c (laws_eqPath_ok hx15) ⟨.go (owns_T 75) 9, .go (owns_T 75) 10, .g 11, .go (owns_T 75) 12, .go (owns_T 75) 13, .g 14, .go (owns_T 75) 22, .go (owns_T 75) 23, .g 24, .go (owns_T 75) 25, .go (owns_T 75) 26, .g 27, trivial⟩ Tryz.call14 fun _ _ _ c => ?_
 refine E0 (any_node (fuel := 0) [4] (by kernel_rfl) (by simp) ⟨?_, trivial⟩)
 refine op_of _ rfl rfl ?_
 refine Fp [] 1 c fun _ c => E0 (any_leaf (by kernel_rfl) ?_)
 exact nN () (c.rk (rg 22) (rg 9))
 refine Dg (fun _ : Unit => ([(2, L ga14 p2 gc15), (3, B b1 0), (4, B b2 0), (8, B b29 0), (9, .bool x6.2), (10, B b30 0), (11, B b31 0), (12, L i26.1 x9 i26.2), (13, B b32 0), (14, .bool x10.2), (70, .agg #[I x8.Pc, L i25.1 x8.Regs i25.2.1, L i25.2.2.1 x8.Mem i25.2.2.2.1, L i25.2.2.2.2.1 x8.Stack i25.2.2.2.2.2.1, I x8.In, L i25.2.2.2.2.2.2.1 x8.Out i25.2.2.2.2.2.2.2.1, I x8.Code, I x8.Steps, L i25.2.2.2.2.2.2.2.2.1 x8.Cond i25.2.2.2.2.2.2.2.2.2.1, L i25.2.2.2.2.2.2.2.2.2.2.1 x8.Turns i25.2.2.2.2.2.2.2.2.2.2.2]), (71, .agg #[I p1.Pc, L ga2 p1.Regs gc3, L ga4 p1.Mem gc5, L ga6 p1.Stack gc7, I p1.In, L ga8 p1.Out gc9, I p1.Code, I p1.Steps, L ga10 p1.Cond gc11, L ga12 p1.Turns gc13])], id, [])) 3 #[true, true, false, false, false] c (fun _ _ _ c => ?_) fun hd19 => ?_
 refine any_node (fuel := 2) [2] (by kernel_rfl) (by simp) ⟨?_, trivial⟩
 refine op_of _ rfl rfl ?_
 refine Ca [] c (laws_toPath_ok hx14) ⟨.f 1, .f 2, .f 3, .f 4, .f 5, .f 6, trivial⟩ Tryz.call10 fun i33 _ _ c => ?_
 refine E0 (Nd hd20 (i33.1, i33.2.1, i33.2.2.1, i33.2.2.2.1, i33.2.2.2.2.1, i33.2.2.2.2.2.1, i33.2.2.2.2.2.2.1, i33.2.2.2.2.2.2.2.1, i33.2.2.2.2.2.2.2.2.1, i33.2.2.2.2.2.2.2.2.2.1, i33.2.2.2.2.2.2.2.2.2.2.1, i33.2.2.2.2.2.2.2.2.2.2.2) (c.rk (rg 28) (rg 9)))
 refine any_node (fuel := 4) [0, 1] (by kernel_rfl) (by simp) ⟨?_, ?_, trivial⟩
 refine op_of _ rfl rfl ?_
 refine Fp [(0, 4)] 1 c fun _ c => E0 (any_node (fuel := 3) [1] (by kernel_rfl) (by simp) ⟨?_, trivial⟩)
 refine op_of _ rfl rfl ?_
 refine Fp [(0, 1)] 1 c fun _ c => E0 (Nd hd19 () (c.rk (rg 22) (rg 9)))
 refine op_of _ rfl rfl ?_
 refine Fp [(0, 1)] 1 c fun _ c => E0 (any_node (fuel := 3) [0, 2] (by kernel_rfl) (by simp) ⟨?_, ?_, trivial⟩)
 refine op_of _ rfl rfl ?_
 refine Fp [(0, 4)] 1 c fun _ c => E0 (Nd hd19 () (c.rk (rg 22) (rg 9)))
 refine op_of _ rfl rfl ?_
 refine Ca [] c (laws_toPath_ok hx14) ⟨.f 1, .f 2, .f 3, .f 4, .f 5, .f 6, trivial⟩ Tryz.call10 fun i31 _ _ c => ?_
 refine E0 (any_node (fuel := 2) [0] (by kernel_rfl) (by simp) ⟨?_, trivial⟩)
 refine op_of _ rfl rfl ?_
 refine Fp [(0, 4)] 1 c fun _ c => E0 (Nd hd20 (i31.1, i31.2.1, i31.2.2.1, i31.2.2.2.1, i31.2.2.2.2.1, i31.2.2.2.2.2.1, i31.2.2.2.2.2.2.1, i31.2.2.2.2.2.2.2.1, i31.2.2.2.2.2.2.2.2.1, i31.2.2.2.2.2.2.2.2.2.1, i31.2.2.2.2.2.2.2.2.2.2.1, i31.2.2.2.2.2.2.2.2.2.2.2) (c.rk (rg 28) (rg 9)))
 refine I0 c h (fun h => ?_) fun h => ?_
 refine P0 [] c fun _ c => ?_
 obtain rfl := sj h
 exact wp_ret (tr (Rt c () [] []))
 refine K0 (S0 (T0 (Fp [] 2 c fun _ c => Bd h fun x16 hx16 h => Ca [] c (laws_toIntS_ok hx16) ⟨.f 7, trivial⟩ Tryz.call11 fun i34 _ _ c => ?_)))
 refine Bd h fun x17 hx17 h => Ca [] c (laws_eqIntS_ok hx17) ⟨.g 16, .g 22, trivial⟩ Tryz.call15 fun _ _ _ c => ?_
 refine Fp [] 1 c fun _ c => E0 (I0 c h (fun h => ?_) fun h => ?_)
 refine P0 [] c fun _ c => ?_
 obtain rfl := sj h
 exact wp_ret (tr (Rt c () [] []))
 refine K0 (P0 [] c fun _ c => T0 (Fp [(0, 3)] 2 c fun _ c => ?_))
 replace c := c.gm [BX b1 24 [I p0.W, I p0.Mem, I p0.In, L ga0 p0.Code gc1], BX b2 28 [I p1.Pc, L ga2 p1.Regs gc3, L ga4 p1.Mem gc5, L ga6 p1.Stack gc7, I p1.In, L ga8 p1.Out gc9, I p1.Code, I p1.Steps, L ga10 p1.Cond gc11, L ga12 p1.Turns gc13], BX b29 56 [I x6.1.Pc, L a47 x6.1.Regs c47, L a48 x6.1.Mem c48, L a49 x6.1.Stack c49, I x6.1.In, L a50 x6.1.Out c50, I x6.1.Code, I x6.1.Steps], sl3 (L a47 x6.1.Regs c47) x6.1.Regs, sl3 (L a48 x6.1.Mem c48) x6.1.Mem, sl3 (L a49 x6.1.Stack c49) x6.1.Stack, sl3 (L a50 x6.1.Out c50) x6.1.Out, sl91 (L i24.1 x7.Code i24.2) x7.Code, BX b30 34 [I x7.W, I x7.Mem, I x7.In, L i24.1 x7.Code i24.2], OD (ownT 75) 75 (L i25.1 x8.Regs i25.2.1) x8.Regs, OD (ownT 75) 75 (L i25.2.2.1 x8.Mem i25.2.2.2.1) x8.Mem, sl3 (L i25.2.2.2.2.1 x8.Stack i25.2.2.2.2.2.1) x8.Stack, OD (ownT 75) 75 (L i25.2.2.2.2.2.2.1 x8.Out i25.2.2.2.2.2.2.2.1) x8.Out, OD (ownT 75) 75 (L i25.2.2.2.2.2.2.2.2.1 x8.Cond i25.2.2.2.2.2.2.2.2.2.1) x8.Cond, sl3 (L i25.2.2.2.2.2.2.2.2.2.2.1 x8.Turns i25.2.2.2.2.2.2.2.2.2.2.2) x8.Turns, BX b31 38 [I x8.Pc, L i25.1 x8.Regs i25.2.1, L i25.2.2.1 x8.Mem i25.2.2.2.1, L i25.2.2.2.2.1 x8.Stack i25.2.2.2.2.2.1, I x8.In, L i25.2.2.2.2.2.2.1 x8.Out i25.2.2.2.2.2.2.2.1, I x8.Code, I x8.Steps, L i25.2.2.2.2.2.2.2.2.1 x8.Cond i25.2.2.2.2.2.2.2.2.2.1, L i25.2.2.2.2.2.2.2.2.2.2.1 x8.Turns i25.2.2.2.2.2.2.2.2.2.2.2], sl3 (L i26.1 x9 i26.2) x9, sl3 (L i27.1 x10.1.Regs i27.2.1) x10.1.Regs, sl3 (L i27.2.2.1 x10.1.Mem i27.2.2.2.1) x10.1.Mem, sl3 (L i27.2.2.2.2.1 x10.1.Stack i27.2.2.2.2.2.1) x10.1.Stack, sl3 (L i27.2.2.2.2.2.2.1 x10.1.Out i27.2.2.2.2.2.2.2) x10.1.Out, BX b32 56 [I x10.1.Pc, L i27.1 x10.1.Regs i27.2.1, L i27.2.2.1 x10.1.Mem i27.2.2.2.1, L i27.2.2.2.2.1 x10.1.Stack i27.2.2.2.2.2.1, I x10.1.In, L i27.2.2.2.2.2.2.1 x10.1.Out i27.2.2.2.2.2.2.2, I x10.1.Code, I x10.1.Steps], sl3 (L i34.1 x16 i34.2) x16]
 refine Bd h fun x18 hx18 h => Ca [7] c (laws_markProgram_ok hx18) trivial Tryz.call21 fun _ _ _ c => ?_
 refine Fp [] 1 c fun _ c => E0 (T0 (Fp [(0, 4)] 2 c fun _ c => Bd h fun x19 hx19 h => Ca [8, 9, 10, 11, 12, 13] c (laws_markPath_ok hx19) trivial Tryz.call28 fun _ _ _ c => ?_))
 refine Fp [] 1 c fun _ c => E0 (T0 (Fp [] 2 c fun _ c => ?_))
 replace c := c.gm [BX b1 24 [I p0.W, I p0.Mem, I p0.In, L ga0 p0.Code gc1], BX b2 28 [I p1.Pc, L ga2 p1.Regs gc3, L ga4 p1.Mem gc5, L ga6 p1.Stack gc7, I p1.In, L ga8 p1.Out gc9, I p1.Code, I p1.Steps, L ga10 p1.Cond gc11, L ga12 p1.Turns gc13], BX b29 56 [I x6.1.Pc, L a47 x6.1.Regs c47, L a48 x6.1.Mem c48, L a49 x6.1.Stack c49, I x6.1.In, L a50 x6.1.Out c50, I x6.1.Code, I x6.1.Steps], sl3 (L a47 x6.1.Regs c47) x6.1.Regs, sl3 (L a48 x6.1.Mem c48) x6.1.Mem, sl3 (L a49 x6.1.Stack c49) x6.1.Stack, sl3 (L a50 x6.1.Out c50) x6.1.Out, BX b30 34 [I x7.W, I x7.Mem, I x7.In, L i24.1 x7.Code i24.2], BX b31 38 [I x8.Pc, L i25.1 x8.Regs i25.2.1, L i25.2.2.1 x8.Mem i25.2.2.2.1, L i25.2.2.2.2.1 x8.Stack i25.2.2.2.2.2.1, I x8.In, L i25.2.2.2.2.2.2.1 x8.Out i25.2.2.2.2.2.2.2.1, I x8.Code, I x8.Steps, L i25.2.2.2.2.2.2.2.2.1 x8.Cond i25.2.2.2.2.2.2.2.2.2.1, L i25.2.2.2.2.2.2.2.2.2.2.1 x8.Turns i25.2.2.2.2.2.2.2.2.2.2.2], sl3 (L i26.1 x9 i26.2) x9, sl3 (L i27.1 x10.1.Regs i27.2.1) x10.1.Regs, sl3 (L i27.2.2.1 x10.1.Mem i27.2.2.2.1) x10.1.Mem, sl3 (L i27.2.2.2.2.1 x10.1.Stack i27.2.2.2.2.2.1) x10.1.Stack, sl3 (L i27.2.2.2.2.2.2.1 x10.1.Out i27.2.2.2.2.2.2.2) x10.1.Out, BX b32 56 [I x10.1.Pc, L i27.1 x10.1.Regs i27.2.1, L i27.2.2.1 x10.1.Mem i27.2.2.2.1, L i27.2.2.2.2.1 x10.1.Stack i27.2.2.2.2.2.1, I x10.1.In, L i27.2.2.2.2.2.2.1 x10.1.Out i27.2.2.2.2.2.2.2, I x10.1.Code, I x10.1.Steps], sl3 (L i34.1 x16 i34.2) x16, sl91 (L i24.1 x7.Code i24.2) x18.2.Code, OD (ownT 75) 75 (L i25.1 x8.Regs i25.2.1) x19.2.Regs, OD (ownT 75) 75 (L i25.2.2.1 x8.Mem i25.2.2.2.1) x19.2.Mem, sl3 (L i25.2.2.2.2.1 x8.Stack i25.2.2.2.2.2.1) x19.2.Stack, OD (ownT 75) 75 (L i25.2.2.2.2.2.2.1 x8.Out i25.2.2.2.2.2.2.2.1) x19.2.Out, OD (ownT 75) 75 (L i25.2.2.2.2.2.2.2.2.1 x8.Cond i25.2.2.2.2.2.2.2.2.2.1) x19.2.Cond, sl3 (L i25.2.2.2.2.2.2.2.2.2.2.1 x8.Turns i25.2.2.2.2.2.2.2.2.2.2.2) x19.2.Turns]
 refine Bd h fun x20 hx20 h => Ca [9] c (laws_markIntS_ok hx20) trivial Tryz.call23 fun _ _ _ c => ?_
 refine Fp [] 1 c fun _ c => E0 (S0 (Bd h fun x21 hx21 h => S0 (rZ [(5, .eq (.bool x21))] [(3, 5), (4, 2)] mix c ⟨Ncl c (fun hg => laws_eqState_ok (iteF (gcF hg) hx21)) ⟨.g 9, .g 10, .g 11, .g 12, .g 3, .g 4, .g 5, .g 6, trivial⟩ Tryz.call27, trivial⟩ fun _ _ c => I0 c h (fun h => ?_) fun h => ?_)))
 refine P0 [] c fun _ c => ?_
 obtain rfl := sj h
 exact wp_ret (tr (Rt c () [] []))
 refine K0 (P0 [] c fun _ c => T0 (Fp [(0, 5)] 2 c fun _ c => Bd h fun x22 hx22 h => Ca [9, 10, 11, 12] c (laws_markState_ok hx22) trivial Tryz.call29 fun _ _ _ c => ?_))
 refine Fp [] 1 c fun _ c => E0 (P0 [] c fun _ c => T0 (Fp [(0, 5)] 2 c fun _ c => ?_))
 replace c := c.gm [BX b1 24 [I p0.W, I p0.Mem, I p0.In, L ga0 p0.Code gc1], BX b2 28 [I p1.Pc, L ga2 p1.Regs gc3, L ga4 p1.Mem gc5, L ga6 p1.Stack gc7, I p1.In, L ga8 p1.Out gc9, I p1.Code, I p1.Steps, L ga10 p1.Cond gc11, L ga12 p1.Turns gc13], BX b29 56 [I x6.1.Pc, L a47 x6.1.Regs c47, L a48 x6.1.Mem c48, L a49 x6.1.Stack c49, I x6.1.In, L a50 x6.1.Out c50, I x6.1.Code, I x6.1.Steps], sl3 (L a47 x6.1.Regs c47) x6.1.Regs, sl3 (L a48 x6.1.Mem c48) x6.1.Mem, sl3 (L a49 x6.1.Stack c49) x6.1.Stack, sl3 (L a50 x6.1.Out c50) x6.1.Out, BX b30 34 [I x7.W, I x7.Mem, I x7.In, L i24.1 x7.Code i24.2], BX b31 38 [I x8.Pc, L i25.1 x8.Regs i25.2.1, L i25.2.2.1 x8.Mem i25.2.2.2.1, L i25.2.2.2.2.1 x8.Stack i25.2.2.2.2.2.1, I x8.In, L i25.2.2.2.2.2.2.1 x8.Out i25.2.2.2.2.2.2.2.1, I x8.Code, I x8.Steps, L i25.2.2.2.2.2.2.2.2.1 x8.Cond i25.2.2.2.2.2.2.2.2.2.1, L i25.2.2.2.2.2.2.2.2.2.2.1 x8.Turns i25.2.2.2.2.2.2.2.2.2.2.2], BX b32 56 [I x10.1.Pc, L i27.1 x10.1.Regs i27.2.1, L i27.2.2.1 x10.1.Mem i27.2.2.2.1, L i27.2.2.2.2.1 x10.1.Stack i27.2.2.2.2.2.1, I x10.1.In, L i27.2.2.2.2.2.2.1 x10.1.Out i27.2.2.2.2.2.2.2, I x10.1.Code, I x10.1.Steps], sl3 (L i34.1 x16 i34.2) x16, sl91 (L i24.1 x7.Code i24.2) x18.2.Code, OD (ownT 75) 75 (L i25.1 x8.Regs i25.2.1) x19.2.Regs, OD (ownT 75) 75 (L i25.2.2.1 x8.Mem i25.2.2.2.1) x19.2.Mem, sl3 (L i25.2.2.2.2.1 x8.Stack i25.2.2.2.2.2.1) x19.2.Stack, OD (ownT 75) 75 (L i25.2.2.2.2.2.2.1 x8.Out i25.2.2.2.2.2.2.2.1) x19.2.Out, OD (ownT 75) 75 (L i25.2.2.2.2.2.2.2.2.1 x8.Cond i25.2.2.2.2.2.2.2.2.2.1) x19.2.Cond, sl3 (L i25.2.2.2.2.2.2.2.2.2.2.1 x8.Turns i25.2.2.2.2.2.2.2.2.2.2.2) x19.2.Turns, sl3 (L i26.1 x9 i26.2) x20.2, sl3 (L i27.1 x10.1.Regs i27.2.1) x22.2.Regs, sl3 (L i27.2.2.1 x10.1.Mem i27.2.2.2.1) x22.2.Mem, sl3 (L i27.2.2.2.2.1 x10.1.Stack i27.2.2.2.2.2.1) x22.2.Stack, sl3 (L i27.2.2.2.2.2.2.1 x10.1.Out i27.2.2.2.2.2.2.2) x22.2.Out]
 obtain ⟨he1, c⟩ := c.relen 19
 replace c := c.eqs (v := .agg #[I x10.1.Pc, L i27.1 x10.1.Regs i27.2.1, L i27.2.2.1 x10.1.Mem i27.2.2.2.1, L i27.2.2.2.2.1 x10.1.Stack i27.2.2.2.2.2.1, I x10.1.In, L i27.2.2.2.2.2.2.1 x10.1.Out i27.2.2.2.2.2.2.2, I x10.1.Code, I x10.1.Steps]) (u := .agg #[I x10.1.Pc, L i27.1 x22.2.Regs i27.2.1, L i27.2.2.1 x10.1.Mem i27.2.2.2.1, L i27.2.2.2.2.1 x10.1.Stack i27.2.2.2.2.2.1, I x10.1.In, L i27.2.2.2.2.2.2.1 x10.1.Out i27.2.2.2.2.2.2.2, I x10.1.Code, I x10.1.Steps]) 105 (by simp only [L, he1])
 replace c := c.bxe (cs := [I x10.1.Pc, L i27.1 x10.1.Regs i27.2.1, L i27.2.2.1 x10.1.Mem i27.2.2.2.1, L i27.2.2.2.2.1 x10.1.Stack i27.2.2.2.2.2.1, I x10.1.In, L i27.2.2.2.2.2.2.1 x10.1.Out i27.2.2.2.2.2.2.2, I x10.1.Code, I x10.1.Steps]) (cs' := [I x10.1.Pc, L i27.1 x22.2.Regs i27.2.1, L i27.2.2.1 x10.1.Mem i27.2.2.2.1, L i27.2.2.2.2.1 x10.1.Stack i27.2.2.2.2.2.1, I x10.1.In, L i27.2.2.2.2.2.2.1 x10.1.Out i27.2.2.2.2.2.2.2, I x10.1.Code, I x10.1.Steps]) 9 (by simp only [L, he1])
 obtain ⟨he2, c⟩ := c.relen 20
 replace c := c.eqs (v := .agg #[I x10.1.Pc, L i27.1 x22.2.Regs i27.2.1, L i27.2.2.1 x10.1.Mem i27.2.2.2.1, L i27.2.2.2.2.1 x10.1.Stack i27.2.2.2.2.2.1, I x10.1.In, L i27.2.2.2.2.2.2.1 x10.1.Out i27.2.2.2.2.2.2.2, I x10.1.Code, I x10.1.Steps]) (u := .agg #[I x10.1.Pc, L i27.1 x22.2.Regs i27.2.1, L i27.2.2.1 x22.2.Mem i27.2.2.2.1, L i27.2.2.2.2.1 x10.1.Stack i27.2.2.2.2.2.1, I x10.1.In, L i27.2.2.2.2.2.2.1 x10.1.Out i27.2.2.2.2.2.2.2, I x10.1.Code, I x10.1.Steps]) 105 (by simp only [L, he2])
 replace c := c.bxe (cs := [I x10.1.Pc, L i27.1 x22.2.Regs i27.2.1, L i27.2.2.1 x10.1.Mem i27.2.2.2.1, L i27.2.2.2.2.1 x10.1.Stack i27.2.2.2.2.2.1, I x10.1.In, L i27.2.2.2.2.2.2.1 x10.1.Out i27.2.2.2.2.2.2.2, I x10.1.Code, I x10.1.Steps]) (cs' := [I x10.1.Pc, L i27.1 x22.2.Regs i27.2.1, L i27.2.2.1 x22.2.Mem i27.2.2.2.1, L i27.2.2.2.2.1 x10.1.Stack i27.2.2.2.2.2.1, I x10.1.In, L i27.2.2.2.2.2.2.1 x10.1.Out i27.2.2.2.2.2.2.2, I x10.1.Code, I x10.1.Steps]) 9 (by simp only [L, he2])
 obtain ⟨he3, c⟩ := c.relen 21
 replace c := c.eqs (v := .agg #[I x10.1.Pc, L i27.1 x22.2.Regs i27.2.1, L i27.2.2.1 x22.2.Mem i27.2.2.2.1, L i27.2.2.2.2.1 x10.1.Stack i27.2.2.2.2.2.1, I x10.1.In, L i27.2.2.2.2.2.2.1 x10.1.Out i27.2.2.2.2.2.2.2, I x10.1.Code, I x10.1.Steps]) (u := .agg #[I x10.1.Pc, L i27.1 x22.2.Regs i27.2.1, L i27.2.2.1 x22.2.Mem i27.2.2.2.1, L i27.2.2.2.2.1 x22.2.Stack i27.2.2.2.2.2.1, I x10.1.In, L i27.2.2.2.2.2.2.1 x10.1.Out i27.2.2.2.2.2.2.2, I x10.1.Code, I x10.1.Steps]) 105 (by simp only [L, he3])
 replace c := c.bxe (cs := [I x10.1.Pc, L i27.1 x22.2.Regs i27.2.1, L i27.2.2.1 x22.2.Mem i27.2.2.2.1, L i27.2.2.2.2.1 x10.1.Stack i27.2.2.2.2.2.1, I x10.1.In, L i27.2.2.2.2.2.2.1 x10.1.Out i27.2.2.2.2.2.2.2, I x10.1.Code, I x10.1.Steps]) (cs' := [I x10.1.Pc, L i27.1 x22.2.Regs i27.2.1, L i27.2.2.1 x22.2.Mem i27.2.2.2.1, L i27.2.2.2.2.1 x22.2.Stack i27.2.2.2.2.2.1, I x10.1.In, L i27.2.2.2.2.2.2.1 x10.1.Out i27.2.2.2.2.2.2.2, I x10.1.Code, I x10.1.Steps]) 9 (by simp only [L, he3])
 obtain ⟨he4, c⟩ := c.relen 22
 replace c := c.eqs (v := .agg #[I x10.1.Pc, L i27.1 x22.2.Regs i27.2.1, L i27.2.2.1 x22.2.Mem i27.2.2.2.1, L i27.2.2.2.2.1 x22.2.Stack i27.2.2.2.2.2.1, I x10.1.In, L i27.2.2.2.2.2.2.1 x10.1.Out i27.2.2.2.2.2.2.2, I x10.1.Code, I x10.1.Steps]) (u := .agg #[I x10.1.Pc, L i27.1 x22.2.Regs i27.2.1, L i27.2.2.1 x22.2.Mem i27.2.2.2.1, L i27.2.2.2.2.1 x22.2.Stack i27.2.2.2.2.2.1, I x10.1.In, L i27.2.2.2.2.2.2.1 x22.2.Out i27.2.2.2.2.2.2.2, I x10.1.Code, I x10.1.Steps]) 105 (by simp only [L, he4])
 replace c := c.bxe (cs := [I x10.1.Pc, L i27.1 x22.2.Regs i27.2.1, L i27.2.2.1 x22.2.Mem i27.2.2.2.1, L i27.2.2.2.2.1 x22.2.Stack i27.2.2.2.2.2.1, I x10.1.In, L i27.2.2.2.2.2.2.1 x10.1.Out i27.2.2.2.2.2.2.2, I x10.1.Code, I x10.1.Steps]) (cs' := [I x10.1.Pc, L i27.1 x22.2.Regs i27.2.1, L i27.2.2.1 x22.2.Mem i27.2.2.2.1, L i27.2.2.2.2.1 x22.2.Stack i27.2.2.2.2.2.1, I x10.1.In, L i27.2.2.2.2.2.2.1 x22.2.Out i27.2.2.2.2.2.2.2, I x10.1.Code, I x10.1.Steps]) 9 (by simp only [L, he4])
 refine Bd h fun x23 hx23 h => Ca [] c (laws_heldState_ok hx23) ⟨.g 19, .g 20, .g 21, .g 22, trivial⟩ Tryz.call30 fun _ _ _ c => ?_
 refine Fp [] 1 c fun _ c => E0 (S0 (P0 [] c fun _ c => I0 c h (fun h => ?_) fun h => ?_))
 refine P0 [] c fun _ c => ?_
 obtain rfl := sj h
 exact wp_ret (tr (Rt c () [] []))
 refine K0 (S0 (P0 [] c fun _ c => I0 c h (fun h => ?_) fun h => ?_))
 refine P0 [] c fun _ c => ?_
 obtain rfl := sj h
 exact wp_ret (tr (Rt c () [] []))
 refine K0 (Bd h fun x24 hx24 h => Bd h fun x25 hx25 h => Bd h fun x26 hx26 h => Bd h fun x27 hx27 h => S0 (Jn (fun i : Nat × Option Addr × Nat × Option Addr × Nat × Option Addr × Nat × Option Addr × Nat => ([(8, B b29 0), (9, .bool x6.2), (13, B b32 0), (16, I x22.1), (18, B i.1 0), (19, .bool x27.2)], fun Γ => Γ ++ [BX i.1 56 [I x27.1.Pc, L i.2.1 x27.1.Regs i.2.2.1, L i.2.2.2.1 x27.1.Mem i.2.2.2.2.1, L i.2.2.2.2.2.1 x27.1.Stack i.2.2.2.2.2.2.1, I x27.1.In, L i.2.2.2.2.2.2.2.1 x27.1.Out i.2.2.2.2.2.2.2.2, I x27.1.Code, I x27.1.Steps], sl3 (L i.2.1 x27.1.Regs i.2.2.1) x27.1.Regs, sl3 (L i.2.2.2.1 x27.1.Mem i.2.2.2.2.1) x27.1.Mem, sl3 (L i.2.2.2.2.2.1 x27.1.Stack i.2.2.2.2.2.2.1) x27.1.Stack, sl3 (L i.2.2.2.2.2.2.2.1 x27.1.Out i.2.2.2.2.2.2.2.2) x27.1.Out], [])) c ?_ fun i57 _ _ c => ?_))
 refine As mix c fun _ c => ?_
 refine At 12 [4] [(3, B b1 0), (4, B b2 0), (8, B b29 0), (9, .bool x6.2), (13, B b32 0), (16, I x22.1), (118, L ga14 p2 gc15)] c (hQ := fun _ _ _ _ _ h => nomatch h.1) fun _ c => ?_
 refine Dg (fun i : Nat × Option Addr × Nat × Option Addr × Nat × Option Addr × Nat × Option Addr × Nat => ([(8, B b29 0), (9, .bool x6.2), (13, B b32 0), (16, I x22.1), (18, B i.1 0), (122, .bool x27.2)], fun Γ => Γ ++ [BX i.1 56 [I x27.1.Pc, L i.2.1 x27.1.Regs i.2.2.1, L i.2.2.2.1 x27.1.Mem i.2.2.2.2.1, L i.2.2.2.2.2.1 x27.1.Stack i.2.2.2.2.2.2.1, I x27.1.In, L i.2.2.2.2.2.2.2.1 x27.1.Out i.2.2.2.2.2.2.2.2, I x27.1.Code, I x27.1.Steps], sl3 (L i.2.1 x27.1.Regs i.2.2.1) x27.1.Regs, sl3 (L i.2.2.2.1 x27.1.Mem i.2.2.2.2.1) x27.1.Mem, sl3 (L i.2.2.2.2.2.1 x27.1.Stack i.2.2.2.2.2.2.1) x27.1.Stack, sl3 (L i.2.2.2.2.2.2.2.1 x27.1.Out i.2.2.2.2.2.2.2.2) x27.1.Out], [])) 1 #[true, true, true, true, true, true, true, true, true, true, true, true, false] c (fun i56 _ _ c => ?_) fun hd36 => ?_
 obtain ⟨b58, a100, c100, a101, c101, a102, c102, a103, c103⟩ := i56
 refine any_node (fuel := 0) [12] (by kernel_rfl) (by simp) ⟨?_, trivial⟩
 refine op_of _ rfl rfl ?_
 refine Fp [] 1 c fun _ c => E0 (any_leaf (by kernel_rfl) ?_)
 exact nN (b58, a100, c100, a101, c101, a102, c102, a103, c103) (c.rk (rg 28) (rg 9))
 refine Dg (fun i : Nat × Option Addr × Nat × Option Addr × Nat × Option Addr × Nat × Option Addr × Nat => ([(8, B b29 0), (9, .bool x6.2), (13, B b32 0), (16, I x22.1), (18, B i.1 0), (121, .agg #[I x27.1.Pc, L i.2.1 x27.1.Regs i.2.2.1, L i.2.2.2.1 x27.1.Mem i.2.2.2.2.1, L i.2.2.2.2.2.1 x27.1.Stack i.2.2.2.2.2.2.1, I x27.1.In, L i.2.2.2.2.2.2.2.1 x27.1.Out i.2.2.2.2.2.2.2.2, I x27.1.Code, I x27.1.Steps]), (122, .bool x27.2)], fun Γ => Γ ++ [BX i.1 56 [I 0, L none ([] : List Int) 0, L none ([] : List Int) 0, L none ([] : List Int) 0, I 0, L none ([] : List Int) 0, I 0, I 0], sl3 (L i.2.1 x27.1.Regs i.2.2.1) x27.1.Regs, sl3 (L i.2.2.2.1 x27.1.Mem i.2.2.2.2.1) x27.1.Mem, sl3 (L i.2.2.2.2.2.1 x27.1.Stack i.2.2.2.2.2.2.1) x27.1.Stack, sl3 (L i.2.2.2.2.2.2.2.1 x27.1.Out i.2.2.2.2.2.2.2.2) x27.1.Out], [])) 2 #[true, true, true, true, true, true, true, true, true, true, true, false, false] c (fun i55 _ _ c => ?_) fun hd35 => ?_
 obtain ⟨b57, a96, c96, a97, c97, a98, c98, a99, c99⟩ := i55
 refine any_node (fuel := 1) [11] (by kernel_rfl) (by simp) ⟨?_, trivial⟩
 refine op_of _ rfl rfl ?_
 refine Ess 23 [I x27.1.Pc, L a96 x27.1.Regs c96, L a97 x27.1.Mem c97, L a98 x27.1.Stack c98, I x27.1.In, L a99 x27.1.Out c99, I x27.1.Code, I x27.1.Steps] c fun _ c => ?_
 refine E0 (Nd hd36 (b57, a96, c96, a97, c97, a98, c98, a99, c99) (c.rk (rg 28) (rg 9)))
 refine Dg (fun i : Option Addr × Nat × Option Addr × Nat × Option Addr × Nat × Option Addr × Nat => ([(8, B b29 0), (9, .bool x6.2), (13, B b32 0), (16, I x22.1), (121, .agg #[I x27.1.Pc, L i.1 x27.1.Regs i.2.1, L i.2.2.1 x27.1.Mem i.2.2.2.1, L i.2.2.2.2.1 x27.1.Stack i.2.2.2.2.2.1, I x27.1.In, L i.2.2.2.2.2.2.1 x27.1.Out i.2.2.2.2.2.2.2, I x27.1.Code, I x27.1.Steps]), (122, .bool x27.2)], fun Γ => Γ ++ [sl3 (L i.1 x27.1.Regs i.2.1) x27.1.Regs, sl3 (L i.2.2.1 x27.1.Mem i.2.2.2.1) x27.1.Mem, sl3 (L i.2.2.2.2.1 x27.1.Stack i.2.2.2.2.2.1) x27.1.Stack, sl3 (L i.2.2.2.2.2.2.1 x27.1.Out i.2.2.2.2.2.2.2) x27.1.Out], [])) 3 #[true, true, true, true, true, true, true, true, true, true, false, false, false] c (fun i43 _ _ c => ?_) fun hd27 => ?_
 obtain ⟨a60, c60, a61, c61, a62, c62, a63, c63⟩ := i43
 refine any_node (fuel := 2) [10] (by kernel_rfl) (by simp) ⟨?_, trivial⟩
 refine op_of _ rfl rfl ?_
 refine Eal [I 0, L none ([] : List Int) 0, L none ([] : List Int) 0, L none ([] : List Int) 0, I 0, L none ([] : List Int) 0, I 0, I 0] c fun b56 _ _ c => ?_
 refine E0 (Nd hd35 (b56, a60, c60, a61, c61, a62, c62, a63, c63) (c.rk [0, 1, 2, 3, 4, 5, 6, 7, 8, 9, 10, 11, 12, 13, 14, 15, 16, 17, 18, 19, 20, 21, 22, 27, 23, 24, 25, 26] (rg 9)))
 refine Dg (fun i : Nat × Option Addr × Nat × Option Addr × Nat × Option Addr × Nat × Option Addr × Nat => ([(8, B b29 0), (9, .bool x6.2), (13, B b32 0), (16, I x22.1), (18, B i.1 0), (113, .tuple #[.agg #[I x27.1.Pc, L i.2.1 x27.1.Regs i.2.2.1, L i.2.2.2.1 x27.1.Mem i.2.2.2.2.1, L i.2.2.2.2.2.1 x27.1.Stack i.2.2.2.2.2.2.1, I x27.1.In, L i.2.2.2.2.2.2.2.1 x27.1.Out i.2.2.2.2.2.2.2.2, I x27.1.Code, I x27.1.Steps], .bool x27.2]), (121, .agg #[I x27.1.Pc, L i.2.1 x27.1.Regs i.2.2.1, L i.2.2.2.1 x27.1.Mem i.2.2.2.2.1, L i.2.2.2.2.2.1 x27.1.Stack i.2.2.2.2.2.2.1, I x27.1.In, L i.2.2.2.2.2.2.2.1 x27.1.Out i.2.2.2.2.2.2.2.2, I x27.1.Code, I x27.1.Steps])], fun Γ => Γ ++ [BX i.1 56 [I 0, L none ([] : List Int) 0, L none ([] : List Int) 0, L none ([] : List Int) 0, I 0, L none ([] : List Int) 0, I 0, I 0], sl3 (L i.2.1 x27.1.Regs i.2.2.1) x27.1.Regs, sl3 (L i.2.2.2.1 x27.1.Mem i.2.2.2.2.1) x27.1.Mem, sl3 (L i.2.2.2.2.2.1 x27.1.Stack i.2.2.2.2.2.2.1) x27.1.Stack, sl3 (L i.2.2.2.2.2.2.2.1 x27.1.Out i.2.2.2.2.2.2.2.2) x27.1.Out], [])) 3 #[true, true, true, true, true, true, true, true, true, false, true, false, false] c (fun i44 _ _ c => ?_) fun hd28 => ?_
 obtain ⟨b43, a64, c64, a65, c65, a66, c66, a67, c67⟩ := i44
 refine any_node (fuel := 2) [9, 11] (by kernel_rfl) (by simp) ⟨?_, ?_, trivial⟩
 refine op_of _ rfl rfl ?_
 refine Fp [] 1 c fun _ c => E0 (Nd hd35 (b43, a64, c64, a65, c65, a66, c66, a67, c67) (c.rk (rg 28) (rg 9)))
 refine op_of _ rfl rfl ?_
 refine Ess 23 [I x27.1.Pc, L a64 x27.1.Regs c64, L a65 x27.1.Mem c65, L a66 x27.1.Stack c66, I x27.1.In, L a67 x27.1.Out c67, I x27.1.Code, I x27.1.Steps] c fun _ c => ?_
 refine E0 (any_node (fuel := 1) [9] (by kernel_rfl) (by simp) ⟨?_, trivial⟩)
 refine op_of _ rfl rfl ?_
 refine Fp [] 1 c fun _ c => E0 (Nd hd36 (b43, a64, c64, a65, c65, a66, c66, a67, c67) (c.rk (rg 28) (rg 9)))
 refine Dg (fun i : Nat × Option Addr × Nat × Option Addr × Nat × Option Addr × Nat × Option Addr × Nat => ([(8, B b29 0), (9, .bool x6.2), (13, B b32 0), (16, I x22.1), (18, B i.1 0), (113, .tuple #[.agg #[I x27.1.Pc, L i.2.1 x27.1.Regs i.2.2.1, L i.2.2.2.1 x27.1.Mem i.2.2.2.2.1, L i.2.2.2.2.2.1 x27.1.Stack i.2.2.2.2.2.2.1, I x27.1.In, L i.2.2.2.2.2.2.2.1 x27.1.Out i.2.2.2.2.2.2.2.2, I x27.1.Code, I x27.1.Steps], .bool x27.2]), (122, .bool x27.2)], fun Γ => Γ ++ [BX i.1 56 [I 0, L none ([] : List Int) 0, L none ([] : List Int) 0, L none ([] : List Int) 0, I 0, L none ([] : List Int) 0, I 0, I 0], sl3 (L i.2.1 x27.1.Regs i.2.2.1) x27.1.Regs, sl3 (L i.2.2.2.1 x27.1.Mem i.2.2.2.2.1) x27.1.Mem, sl3 (L i.2.2.2.2.2.1 x27.1.Stack i.2.2.2.2.2.2.1) x27.1.Stack, sl3 (L i.2.2.2.2.2.2.2.1 x27.1.Out i.2.2.2.2.2.2.2.2) x27.1.Out], [])) 3 #[true, true, true, true, true, true, true, true, false, true, true, false, false] c (fun i45 _ _ c => ?_) fun hd29 => ?_
 obtain ⟨b45, a68, c68, a69, c69, a70, c70, a71, c71⟩ := i45
 refine any_node (fuel := 2) [8] (by kernel_rfl) (by simp) ⟨?_, trivial⟩
 refine op_of _ rfl rfl ?_
 refine Fp [] 1 c fun _ c => E0 (Nd hd35 (b45, a68, c68, a69, c69, a70, c70, a71, c71) (c.rk (rg 28) (rg 9)))
 refine Dg (fun i : Nat × Option Addr × Nat × Option Addr × Nat × Option Addr × Nat × Option Addr × Nat => ([(8, B b29 0), (9, .bool x6.2), (13, B b32 0), (16, I x22.1), (18, B i.1 0), (113, .tuple #[.agg #[I x27.1.Pc, L i.2.1 x27.1.Regs i.2.2.1, L i.2.2.2.1 x27.1.Mem i.2.2.2.2.1, L i.2.2.2.2.2.1 x27.1.Stack i.2.2.2.2.2.2.1, I x27.1.In, L i.2.2.2.2.2.2.2.1 x27.1.Out i.2.2.2.2.2.2.2.2, I x27.1.Code, I x27.1.Steps], .bool x27.2])], fun Γ => Γ ++ [BX i.1 56 [I 0, L none ([] : List Int) 0, L none ([] : List Int) 0, L none ([] : List Int) 0, I 0, L none ([] : List Int) 0, I 0, I 0], sl3 (L i.2.1 x27.1.Regs i.2.2.1) x27.1.Regs, sl3 (L i.2.2.2.1 x27.1.Mem i.2.2.2.2.1) x27.1.Mem, sl3 (L i.2.2.2.2.2.1 x27.1.Stack i.2.2.2.2.2.2.1) x27.1.Stack, sl3 (L i.2.2.2.2.2.2.2.1 x27.1.Out i.2.2.2.2.2.2.2.2) x27.1.Out], [])) 4 #[true, true, true, true, true, true, true, true, false, false, true, false, false] c (fun i46 _ _ c => ?_) fun hd30 => ?_
 obtain ⟨b47, a72, c72, a73, c73, a74, c74, a75, c75⟩ := i46
 refine any_node (fuel := 3) [8, 9] (by kernel_rfl) (by simp) ⟨?_, ?_, trivial⟩
 refine op_of _ rfl rfl ?_
 refine Fp [] 1 c fun _ c => E0 (Nd hd28 (b47, a72, c72, a73, c73, a74, c74, a75, c75) (c.rk (rg 28) (rg 9)))
 refine op_of _ rfl rfl ?_
 refine Fp [] 1 c fun _ c => E0 (Nd hd29 (b47, a72, c72, a73, c73, a74, c74, a75, c75) (c.rk (rg 28) (rg 9)))
 refine Dg (fun i : Nat × Option Addr × Nat × Option Addr × Nat × Option Addr × Nat × Option Addr × Nat => ([(8, B b29 0), (9, .bool x6.2), (13, B b32 0), (16, I x22.1), (18, B i.1 0), (120, .tuple #[.agg #[I x27.1.Pc, L i.2.1 x27.1.Regs i.2.2.1, L i.2.2.2.1 x27.1.Mem i.2.2.2.2.1, L i.2.2.2.2.2.1 x27.1.Stack i.2.2.2.2.2.2.1, I x27.1.In, L i.2.2.2.2.2.2.2.1 x27.1.Out i.2.2.2.2.2.2.2.2, I x27.1.Code, I x27.1.Steps], .bool x27.2])], fun Γ => Γ ++ [BX i.1 56 [I 0, L none ([] : List Int) 0, L none ([] : List Int) 0, L none ([] : List Int) 0, I 0, L none ([] : List Int) 0, I 0, I 0], sl3 (L i.2.1 x27.1.Regs i.2.2.1) x27.1.Regs, sl3 (L i.2.2.2.1 x27.1.Mem i.2.2.2.2.1) x27.1.Mem, sl3 (L i.2.2.2.2.2.1 x27.1.Stack i.2.2.2.2.2.2.1) x27.1.Stack, sl3 (L i.2.2.2.2.2.2.2.1 x27.1.Out i.2.2.2.2.2.2.2.2) x27.1.Out], [])) 5 #[true, true, true, true, true, true, true, false, false, false, true, false, false] c (fun i47 _ _ c => ?_) fun hd31 => ?_
 obtain ⟨b49, a76, c76, a77, c77, a78, c78, a79, c79⟩ := i47
 refine any_node (fuel := 4) [7] (by kernel_rfl) (by simp) ⟨?_, trivial⟩
 refine op_of _ rfl rfl ?_
 refine Fp [] 1 c fun _ c => E0 (Nd hd30 (b49, a76, c76, a77, c77, a78, c78, a79, c79) (c.rk (rg 28) (rg 9)))
 refine Dg (fun i : Nat × Option Addr × Nat × Option Addr × Nat × Option Addr × Nat × Option Addr × Nat × Option Addr × Nat × Option Addr × Nat × Option Addr × Nat × Option Addr × Nat => ([(8, B b29 0), (9, .bool x6.2), (13, B b32 0), (16, I x22.1), (18, B i.1 0), (115, .agg #[I x24.W, I x24.Mem, I x24.In, L i.2.1 x24.Code i.2.2.1]), (117, .agg #[I x25.Pc, L i.2.2.2.1 x25.Regs i.2.2.2.2.1, L i.2.2.2.2.2.1 x25.Mem i.2.2.2.2.2.2.1, L i.2.2.2.2.2.2.2.1 x25.Stack i.2.2.2.2.2.2.2.2.1, I x25.In, L i.2.2.2.2.2.2.2.2.2.1 x25.Out i.2.2.2.2.2.2.2.2.2.2.1, I x25.Code, I x25.Steps, L i.2.2.2.2.2.2.2.2.2.2.2.1 x25.Cond i.2.2.2.2.2.2.2.2.2.2.2.2.1, L i.2.2.2.2.2.2.2.2.2.2.2.2.2.1 x25.Turns i.2.2.2.2.2.2.2.2.2.2.2.2.2.2.1]), (119, L i.2.2.2.2.2.2.2.2.2.2.2.2.2.2.2.1 x26 i.2.2.2.2.2.2.2.2.2.2.2.2.2.2.2.2)], fun Γ => Γ ++ [BX i.1 56 [I 0, L none ([] : List Int) 0, L none ([] : List Int) 0, L none ([] : List Int) 0, I 0, L none ([] : List Int) 0, I 0, I 0], sl91 (L i.2.1 x24.Code i.2.2.1) x24.Code, OD (ownT 75) 75 (L i.2.2.2.1 x25.Regs i.2.2.2.2.1) x25.Regs, OD (ownT 75) 75 (L i.2.2.2.2.2.1 x25.Mem i.2.2.2.2.2.2.1) x25.Mem, sl3 (L i.2.2.2.2.2.2.2.1 x25.Stack i.2.2.2.2.2.2.2.2.1) x25.Stack, OD (ownT 75) 75 (L i.2.2.2.2.2.2.2.2.2.1 x25.Out i.2.2.2.2.2.2.2.2.2.2.1) x25.Out, OD (ownT 75) 75 (L i.2.2.2.2.2.2.2.2.2.2.2.1 x25.Cond i.2.2.2.2.2.2.2.2.2.2.2.2.1) x25.Cond, sl3 (L i.2.2.2.2.2.2.2.2.2.2.2.2.2.1 x25.Turns i.2.2.2.2.2.2.2.2.2.2.2.2.2.2.1) x25.Turns, sl3 (L i.2.2.2.2.2.2.2.2.2.2.2.2.2.2.2.1 x26 i.2.2.2.2.2.2.2.2.2.2.2.2.2.2.2.2) x26], [])) 6 #[true, true, true, true, true, true, false, false, false, false, true, false, false] c (fun i48 _ _ c => ?_) fun hd32 => ?_
 obtain ⟨b51, a80, c80, a81, c81, a82, c82, a83, c83, a84, c84, a85, c85, a86, c86, a87, c87⟩ := i48
 refine any_node (fuel := 5) [6] (by kernel_rfl) (by simp) ⟨?_, trivial⟩
 refine op_of _ rfl rfl ?_
 refine Ca [] c (impl_EvalPath_ok hx27) ⟨.g 24, .go (owns_T 75) 25, .go (owns_T 75) 26, .g 27, .go (owns_T 75) 28, .go (owns_T 75) 29, .g 30, .g 31, .f 8, trivial⟩ Tryz.call26 fun i54 _ _ c => ?_
 refine E0 (Nd hd31 (b51, i54.1, i54.2.1, i54.2.2.1, i54.2.2.2.1, i54.2.2.2.2.1, i54.2.2.2.2.2.1, i54.2.2.2.2.2.2.1, i54.2.2.2.2.2.2.2) (c.rk [0, 1, 2, 3, 4, 5, 6, 7, 8, 9, 10, 11, 12, 13, 14, 15, 16, 17, 18, 19, 20, 21, 22, 23, 32, 33, 34, 35] (rg 9)))
 refine Dg (fun i : Nat × Option Addr × Nat × Option Addr × Nat × Option Addr × Nat × Option Addr × Nat × Option Addr × Nat × Option Addr × Nat × Option Addr × Nat => ([(8, B b29 0), (9, .bool x6.2), (13, B b32 0), (16, I x22.1), (18, B i.1 0), (115, .agg #[I x24.W, I x24.Mem, I x24.In, L i.2.1 x24.Code i.2.2.1]), (117, .agg #[I x25.Pc, L i.2.2.2.1 x25.Regs i.2.2.2.2.1, L i.2.2.2.2.2.1 x25.Mem i.2.2.2.2.2.2.1, L i.2.2.2.2.2.2.2.1 x25.Stack i.2.2.2.2.2.2.2.2.1, I x25.In, L i.2.2.2.2.2.2.2.2.2.1 x25.Out i.2.2.2.2.2.2.2.2.2.2.1, I x25.Code, I x25.Steps, L i.2.2.2.2.2.2.2.2.2.2.2.1 x25.Cond i.2.2.2.2.2.2.2.2.2.2.2.2.1, L i.2.2.2.2.2.2.2.2.2.2.2.2.2.1 x25.Turns i.2.2.2.2.2.2.2.2.2.2.2.2.2.2]), (118, L ga14 p2 gc15)], fun Γ => Γ ++ [BX i.1 56 [I 0, L none ([] : List Int) 0, L none ([] : List Int) 0, L none ([] : List Int) 0, I 0, L none ([] : List Int) 0, I 0, I 0], sl91 (L i.2.1 x24.Code i.2.2.1) x24.Code, OD (ownT 75) 75 (L i.2.2.2.1 x25.Regs i.2.2.2.2.1) x25.Regs, OD (ownT 75) 75 (L i.2.2.2.2.2.1 x25.Mem i.2.2.2.2.2.2.1) x25.Mem, sl3 (L i.2.2.2.2.2.2.2.1 x25.Stack i.2.2.2.2.2.2.2.2.1) x25.Stack, OD (ownT 75) 75 (L i.2.2.2.2.2.2.2.2.2.1 x25.Out i.2.2.2.2.2.2.2.2.2.2.1) x25.Out, OD (ownT 75) 75 (L i.2.2.2.2.2.2.2.2.2.2.2.1 x25.Cond i.2.2.2.2.2.2.2.2.2.2.2.2.1) x25.Cond, sl3 (L i.2.2.2.2.2.2.2.2.2.2.2.2.2.1 x25.Turns i.2.2.2.2.2.2.2.2.2.2.2.2.2.2) x25.Turns], [])) 7 #[true, true, true, true, true, false, false, false, false, false, true, false, false] c (fun i49 _ _ c => ?_) fun hd33 => ?_
 obtain ⟨b53, a88, c88, a89, c89, a90, c90, a91, c91, a92, c92, a93, c93, a94, c94⟩ := i49
 refine any_node (fuel := 6) [5] (by kernel_rfl) (by simp) ⟨?_, trivial⟩
 refine op_of _ rfl rfl ?_
 refine Ca [] c (laws_toIntS_ok hx26) ⟨.f 7, trivial⟩ Tryz.call11 fun i53 _ _ c => ?_
 refine E0 (Nd hd32 (b53, a88, c88, a89, c89, a90, c90, a91, c91, a92, c92, a93, c93, a94, c94, i53.1, i53.2) (c.rk (rg 32) (rg 9)))
 refine Dg (fun i : Nat × Option Addr × Nat => ([(8, B b29 0), (9, .bool x6.2), (13, B b32 0), (16, I x22.1), (18, B i.1 0), (115, .agg #[I x24.W, I x24.Mem, I x24.In, L i.2.1 x24.Code i.2.2]), (116, .agg #[I p1.Pc, L ga2 p1.Regs gc3, L ga4 p1.Mem gc5, L ga6 p1.Stack gc7, I p1.In, L ga8 p1.Out gc9, I p1.Code, I p1.Steps, L ga10 p1.Cond gc11, L ga12 p1.Turns gc13]), (118, L ga14 p2 gc15)], fun Γ => Γ ++ [BX i.1 56 [I 0, L none ([] : List Int) 0, L none ([] : List Int) 0, L none ([] : List Int) 0, I 0, L none ([] : List Int) 0, I 0, I 0], sl91 (L i.2.1 x24.Code i.2.2) x24.Code], [])) 8 #[true, true, true, false, true, false, false, false, false, false, true, false, false] c (fun i50 _ _ c => ?_) fun hd34 => ?_
 obtain ⟨b55, a95, c95⟩ := i50
 refine any_node (fuel := 7) [3] (by kernel_rfl) (by simp) ⟨?_, trivial⟩
 refine op_of _ rfl rfl ?_
 refine Ca [] c (laws_toPath_ok hx25) ⟨.f 1, .f 2, .f 3, .f 4, .f 5, .f 6, trivial⟩ Tryz.call10 fun i52 _ _ c => ?_
 refine E0 (Nd hd33 (b55, a95, c95, i52.1, i52.2.1, i52.2.2.1, i52.2.2.2.1, i52.2.2.2.2.1, i52.2.2.2.2.2.1, i52.2.2.2.2.2.2.1, i52.2.2.2.2.2.2.2.1, i52.2.2.2.2.2.2.2.2.1, i52.2.2.2.2.2.2.2.2.2.1, i52.2.2.2.2.2.2.2.2.2.2.1, i52.2.2.2.2.2.2.2.2.2.2.2) (c.rk (rg 31) (rg 9)))
 refine Dg (fun i : Option Addr × Nat => ([(8, B b29 0), (9, .bool x6.2), (13, B b32 0), (16, I x22.1), (115, .agg #[I x24.W, I x24.Mem, I x24.In, L i.1 x24.Code i.2]), (116, .agg #[I p1.Pc, L ga2 p1.Regs gc3, L ga4 p1.Mem gc5, L ga6 p1.Stack gc7, I p1.In, L ga8 p1.Out gc9, I p1.Code, I p1.Steps, L ga10 p1.Cond gc11, L ga12 p1.Turns gc13]), (118, L ga14 p2 gc15)], fun Γ => Γ ++ [sl91 (L i.1 x24.Code i.2) x24.Code], [])) 9 #[true, true, true, false, true, false, false, false, false, false, false, false, false] c (fun i36 _ _ c => ?_) fun hd21 => ?_
 obtain ⟨a58, c58⟩ := i36
 refine any_node (fuel := 8) [3, 10] (by kernel_rfl) (by simp) ⟨?_, ?_, trivial⟩
 refine op_of _ rfl rfl ?_
 refine Ca [] c (laws_toPath_ok hx25) ⟨.f 1, .f 2, .f 3, .f 4, .f 5, .f 6, trivial⟩ Tryz.call10 fun i40 _ _ c => ?_
 refine E0 (any_node (fuel := 7) [5, 10] (by kernel_rfl) (by simp) ⟨?_, ?_, trivial⟩)
 refine op_of _ rfl rfl ?_
 refine Ca [] c (laws_toIntS_ok hx26) ⟨.f 7, trivial⟩ Tryz.call11 fun i41 _ _ c => ?_
 refine E0 (any_node (fuel := 6) [6, 10] (by kernel_rfl) (by simp) ⟨?_, ?_, trivial⟩)
 refine op_of _ rfl rfl ?_
 replace c := c.gm [BX b1 24 [I p0.W, I p0.Mem, I p0.In, L ga0 p0.Code gc1], BX b2 28 [I p1.Pc, L ga2 p1.Regs gc3, L ga4 p1.Mem gc5, L ga6 p1.Stack gc7, I p1.In, L ga8 p1.Out gc9, I p1.Code, I p1.Steps, L ga10 p1.Cond gc11, L ga12 p1.Turns gc13], BX b29 56 [I x6.1.Pc, L a47 x6.1.Regs c47, L a48 x6.1.Mem c48, L a49 x6.1.Stack c49, I x6.1.In, L a50 x6.1.Out c50, I x6.1.Code, I x6.1.Steps], sl3 (L a47 x6.1.Regs c47) x6.1.Regs, sl3 (L a48 x6.1.Mem c48) x6.1.Mem, sl3 (L a49 x6.1.Stack c49) x6.1.Stack, sl3 (L a50 x6.1.Out c50) x6.1.Out, BX b30 34 [I x7.W, I x7.Mem, I x7.In, L i24.1 x7.Code i24.2], BX b31 38 [I x8.Pc, L i25.1 x8.Regs i25.2.1, L i25.2.2.1 x8.Mem i25.2.2.2.1, L i25.2.2.2.2.1 x8.Stack i25.2.2.2.2.2.1, I x8.In, L i25.2.2.2.2.2.2.1 x8.Out i25.2.2.2.2.2.2.2.1, I x8.Code, I x8.Steps, L i25.2.2.2.2.2.2.2.2.1 x8.Cond i25.2.2.2.2.2.2.2.2.2.1, L i25.2.2.2.2.2.2.2.2.2.2.1 x8.Turns i25.2.2.2.2.2.2.2.2.2.2.2], BX b32 56 [I x10.1.Pc, L i27.1 x22.2.Regs i27.2.1, L i27.2.2.1 x22.2.Mem i27.2.2.2.1, L i27.2.2.2.2.1 x22.2.Stack i27.2.2.2.2.2.1, I x10.1.In, L i27.2.2.2.2.2.2.1 x22.2.Out i27.2.2.2.2.2.2.2, I x10.1.Code, I x10.1.Steps], sl3 (L i34.1 x16 i34.2) x16, sl91 (L i24.1 x7.Code i24.2) x18.2.Code, OD (ownT 75) 75 (L i25.1 x8.Regs i25.2.1) x19.2.Regs, OD (ownT 75) 75 (L i25.2.2.1 x8.Mem i25.2.2.2.1) x19.2.Mem, sl3 (L i25.2.2.2.2.1 x8.Stack i25.2.2.2.2.2.1) x19.2.Stack, OD (ownT 75) 75 (L i25.2.2.2.2.2.2.1 x8.Out i25.2.2.2.2.2.2.2.1) x19.2.Out, OD (ownT 75) 75 (L i25.2.2.2.2.2.2.2.2.1 x8.Cond i25.2.2.2.2.2.2.2.2.2.1) x19.2.Cond, sl3 (L i25.2.2.2.2.2.2.2.2.2.2.1 x8.Turns i25.2.2.2.2.2.2.2.2.2.2.2) x19.2.Turns, sl3 (L i26.1 x9 i26.2) x20.2, sl3 (L i27.1 x22.2.Regs i27.2.1) x22.2.Regs, sl3 (L i27.2.2.1 x22.2.Mem i27.2.2.2.1) x22.2.Mem, sl3 (L i27.2.2.2.2.1 x22.2.Stack i27.2.2.2.2.2.1) x22.2.Stack, sl3 (L i27.2.2.2.2.2.2.1 x22.2.Out i27.2.2.2.2.2.2.2) x22.2.Out, sl91 (L a58 x24.Code c58) x24.Code, OD (ownT 75) 75 (L i40.1 x25.Regs i40.2.1) x25.Regs, OD (ownT 75) 75 (L i40.2.2.1 x25.Mem i40.2.2.2.1) x25.Mem, sl3 (L i40.2.2.2.2.1 x25.Stack i40.2.2.2.2.2.1) x25.Stack, OD (ownT 75) 75 (L i40.2.2.2.2.2.2.1 x25.Out i40.2.2.2.2.2.2.2.1) x25.Out, OD (ownT 75) 75 (L i40.2.2.2.2.2.2.2.2.1 x25.Cond i40.2.2.2.2.2.2.2.2.2.1) x25.Cond, sl3 (L i40.2.2.2.2.2.2.2.2.2.2.1 x25.Turns i40.2.2.2.2.2.2.2.2.2.2.2) x25.Turns, sl3 (L i41.1 x26 i41.2) x26]
 refine Ca [] c (impl_EvalPath_ok hx27) ⟨.g 23, .go (owns_T 75) 24, .go (owns_T 75) 25, .g 26, .go (owns_T 75) 27, .go (owns_T 75) 28, .g 29, .g 30, .f 8, trivial⟩ Tryz.call26 fun i42 _ _ c => ?_
 refine E0 (any_node (fuel := 5) [7, 10] (by kernel_rfl) (by simp) ⟨?_, ?_, trivial⟩)
 refine op_of _ rfl rfl ?_
 refine Fp [] 1 c fun _ c => E0 (any_node (fuel := 4) [8, 9, 10] (by kernel_rfl) (by simp) ⟨?_, ?_, ?_, trivial⟩)
 refine op_of _ rfl rfl ?_
 refine Fp [] 1 c fun _ c => E0 (any_node (fuel := 3) [9, 10] (by kernel_rfl) (by simp) ⟨?_, ?_, trivial⟩)
 refine op_of _ rfl rfl ?_
 refine Fp [] 1 c fun _ c => E0 (Nd hd27 (i42.1, i42.2.1, i42.2.2.1, i42.2.2.2.1, i42.2.2.2.2.1, i42.2.2.2.2.2.1, i42.2.2.2.2.2.2.1, i42.2.2.2.2.2.2.2) (c.rk [0, 1, 2, 3, 4, 5, 6, 7, 8, 9, 10, 11, 12, 13, 14, 15, 16, 17, 18, 19, 20, 21, 22, 31, 32, 33, 34] (rg 9)))
 refine op_of _ rfl rfl ?_
 refine Eal [I 0, L none ([] : List Int) 0, L none ([] : List Int) 0, L none ([] : List Int) 0, I 0, L none ([] : List Int) 0, I 0, I 0] c fun b42 _ _ c => ?_
 refine E0 (Nd hd28 (b42, i42.1, i42.2.1, i42.2.2.1, i42.2.2.2.1, i42.2.2.2.2.1, i42.2.2.2.2.2.1, i42.2.2.2.2.2.2.1, i42.2.2.2.2.2.2.2) (c.rk [0, 1, 2, 3, 4, 5, 6, 7, 8, 9, 10, 11, 12, 13, 14, 15, 16, 17, 18, 19, 20, 21, 22, 35, 31, 32, 33, 34] (rg 9)))
 refine op_of _ rfl rfl ?_
 refine Fp [] 1 c fun _ c => E0 (any_node (fuel := 3) [8, 10] (by kernel_rfl) (by simp) ⟨?_, ?_, trivial⟩)
 refine op_of _ rfl rfl ?_
 refine Fp [] 1 c fun _ c => E0 (Nd hd27 (i42.1, i42.2.1, i42.2.2.1, i42.2.2.2.1, i42.2.2.2.2.1, i42.2.2.2.2.2.1, i42.2.2.2.2.2.2.1, i42.2.2.2.2.2.2.2) (c.rk [0, 1, 2, 3, 4, 5, 6, 7, 8, 9, 10, 11, 12, 13, 14, 15, 16, 17, 18, 19, 20, 21, 22, 31, 32, 33, 34] (rg 9)))
 refine op_of _ rfl rfl ?_
 refine Eal [I 0, L none ([] : List Int) 0, L none ([] : List Int) 0, L none ([] : List Int) 0, I 0, L none ([] : List Int) 0, I 0, I 0] c fun b44 _ _ c => ?_
 refine E0 (Nd hd29 (b44, i42.1, i42.2.1, i42.2.2.1, i42.2.2.2.1, i42.2.2.2.2.1, i42.2.2.2.2.2.1, i42.2.2.2.2.2.2.1, i42.2.2.2.2.2.2.2) (c.rk [0, 1, 2, 3, 4, 5, 6, 7, 8, 9, 10, 11, 12, 13, 14, 15, 16, 17, 18, 19, 20, 21, 22, 35, 31, 32, 33, 34] (rg 9)))
 refine op_of _ rfl rfl ?_
 refine Eal [I 0, L none ([] : List Int) 0, L none ([] : List Int) 0, L none ([] : List Int) 0, I 0, L none ([] : List Int) 0, I 0, I 0] c fun b46 _ _ c => ?_
 refine E0 (Nd hd30 (b46, i42.1, i42.2.1, i42.2.2.1, i42.2.2.2.1, i42.2.2.2.2.1, i42.2.2.2.2.2.1, i42.2.2.2.2.2.2.1, i42.2.2.2.2.2.2.2) (c.rk [0, 1, 2, 3, 4, 5, 6, 7, 8, 9, 10, 11, 12, 13, 14, 15, 16, 17, 18, 19, 20, 21, 22, 35, 31, 32, 33, 34] (rg 9)))
 refine op_of _ rfl rfl ?_
 refine Eal [I 0, L none ([] : List Int) 0, L none ([] : List Int) 0, L none ([] : List Int) 0, I 0, L none ([] : List Int) 0, I 0, I 0] c fun b48 _ _ c => ?_
 refine E0 (Nd hd31 (b48, i42.1, i42.2.1, i42.2.2.1, i42.2.2.2.1, i42.2.2.2.2.1, i42.2.2.2.2.2.1, i42.2.2.2.2.2.2.1, i42.2.2.2.2.2.2.2) (c.rk [0, 1, 2, 3, 4, 5, 6, 7, 8, 9, 10, 11, 12, 13, 14, 15, 16, 17, 18, 19, 20, 21, 22, 35, 31, 32, 33, 34] (rg 9)))
 refine op_of _ rfl rfl ?_
 replace c := c.gm [BX b1 24 [I p0.W, I p0.Mem, I p0.In, L ga0 p0.Code gc1], BX b2 28 [I p1.Pc, L ga2 p1.Regs gc3, L ga4 p1.Mem gc5, L ga6 p1.Stack gc7, I p1.In, L ga8 p1.Out gc9, I p1.Code, I p1.Steps, L ga10 p1.Cond gc11, L ga12 p1.Turns gc13], BX b29 56 [I x6.1.Pc, L a47 x6.1.Regs c47, L a48 x6.1.Mem c48, L a49 x6.1.Stack c49, I x6.1.In, L a50 x6.1.Out c50, I x6.1.Code, I x6.1.Steps], sl3 (L a47 x6.1.Regs c47) x6.1.Regs, sl3 (L a48 x6.1.Mem c48) x6.1.Mem, sl3 (L a49 x6.1.Stack c49) x6.1.Stack, sl3 (L a50 x6.1.Out c50) x6.1.Out, BX b30 34 [I x7.W, I x7.Mem, I x7.In, L i24.1 x7.Code i24.2], BX b31 38 [I x8.Pc, L i25.1 x8.Regs i25.2.1, L i25.2.2.1 x8.Mem i25.2.2.2.1, L i25.2.2.2.2.1 x8.Stack i25.2.2.2.2.2.1, I x8.In, L i25.2.2.2.2.2.2.1 x8.Out i25.2.2.2.2.2.2.2.1, I x8.Code, I x8.Steps, L i25.2.2.2.2.2.2.2.2.1 x8.Cond i25.2.2.2.2.2.2.2.2.2.1, L i25.2.2.2.2.2.2.2.2.2.2.1 x8.Turns i25.2.2.2.2.2.2.2.2.2.2.2], BX b32 56 [I x10.1.Pc, L i27.1 x22.2.Regs i27.2.1, L i27.2.2.1 x22.2.Mem i27.2.2.2.1, L i27.2.2.2.2.1 x22.2.Stack i27.2.2.2.2.2.1, I x10.1.In, L i27.2.2.2.2.2.2.1 x22.2.Out i27.2.2.2.2.2.2.2, I x10.1.Code, I x10.1.Steps], sl3 (L i34.1 x16 i34.2) x16, sl91 (L i24.1 x7.Code i24.2) x18.2.Code, OD (ownT 75) 75 (L i25.1 x8.Regs i25.2.1) x19.2.Regs, OD (ownT 75) 75 (L i25.2.2.1 x8.Mem i25.2.2.2.1) x19.2.Mem, sl3 (L i25.2.2.2.2.1 x8.Stack i25.2.2.2.2.2.1) x19.2.Stack, OD (ownT 75) 75 (L i25.2.2.2.2.2.2.1 x8.Out i25.2.2.2.2.2.2.2.1) x19.2.Out, OD (ownT 75) 75 (L i25.2.2.2.2.2.2.2.2.1 x8.Cond i25.2.2.2.2.2.2.2.2.2.1) x19.2.Cond, sl3 (L i25.2.2.2.2.2.2.2.2.2.2.1 x8.Turns i25.2.2.2.2.2.2.2.2.2.2.2) x19.2.Turns, sl3 (L i26.1 x9 i26.2) x20.2, sl3 (L i27.1 x22.2.Regs i27.2.1) x22.2.Regs, sl3 (L i27.2.2.1 x22.2.Mem i27.2.2.2.1) x22.2.Mem, sl3 (L i27.2.2.2.2.1 x22.2.Stack i27.2.2.2.2.2.1) x22.2.Stack, sl3 (L i27.2.2.2.2.2.2.1 x22.2.Out i27.2.2.2.2.2.2.2) x22.2.Out, sl91 (L a58 x24.Code c58) x24.Code, OD (ownT 75) 75 (L i40.1 x25.Regs i40.2.1) x25.Regs, OD (ownT 75) 75 (L i40.2.2.1 x25.Mem i40.2.2.2.1) x25.Mem, sl3 (L i40.2.2.2.2.1 x25.Stack i40.2.2.2.2.2.1) x25.Stack, OD (ownT 75) 75 (L i40.2.2.2.2.2.2.1 x25.Out i40.2.2.2.2.2.2.2.1) x25.Out, OD (ownT 75) 75 (L i40.2.2.2.2.2.2.2.2.1 x25.Cond i40.2.2.2.2.2.2.2.2.2.1) x25.Cond, sl3 (L i40.2.2.2.2.2.2.2.2.2.2.1 x25.Turns i40.2.2.2.2.2.2.2.2.2.2.2) x25.Turns, sl3 (L i41.1 x26 i41.2) x26]
 refine Eal [I 0, L none ([] : List Int) 0, L none ([] : List Int) 0, L none ([] : List Int) 0, I 0, L none ([] : List Int) 0, I 0, I 0] c fun b50 _ _ c => ?_
 refine E0 (Nd hd32 (b50, a58, c58, i40.1, i40.2.1, i40.2.2.1, i40.2.2.2.1, i40.2.2.2.2.1, i40.2.2.2.2.2.1, i40.2.2.2.2.2.2.1, i40.2.2.2.2.2.2.2.1, i40.2.2.2.2.2.2.2.2.1, i40.2.2.2.2.2.2.2.2.2.1, i40.2.2.2.2.2.2.2.2.2.2.1, i40.2.2.2.2.2.2.2.2.2.2.2, i41.1, i41.2) (c.rk [0, 1, 2, 3, 4, 5, 6, 7, 8, 9, 10, 11, 12, 13, 14, 15, 16, 17, 18, 19, 20, 21, 22, 31, 23, 24, 25, 26, 27, 28, 29, 30] (rg 9)))
 refine op_of _ rfl rfl ?_
 refine Eal [I 0, L none ([] : List Int) 0, L none ([] : List Int) 0, L none ([] : List Int) 0, I 0, L none ([] : List Int) 0, I 0, I 0] c fun b52 _ _ c => ?_
 refine E0 (Nd hd33 (b52, a58, c58, i40.1, i40.2.1, i40.2.2.1, i40.2.2.2.1, i40.2.2.2.2.1, i40.2.2.2.2.2.1, i40.2.2.2.2.2.2.1, i40.2.2.2.2.2.2.2.1, i40.2.2.2.2.2.2.2.2.1, i40.2.2.2.2.2.2.2.2.2.1, i40.2.2.2.2.2.2.2.2.2.2.1, i40.2.2.2.2.2.2.2.2.2.2.2) (c.rk [0, 1, 2, 3, 4, 5, 6, 7, 8, 9, 10, 11, 12, 13, 14, 15, 16, 17, 18, 19, 20, 21, 22, 30, 23, 24, 25, 26, 27, 28, 29] (rg 9)))
 refine op_of _ rfl rfl ?_
 refine Eal [I 0, L none ([] : List Int) 0, L none ([] : List Int) 0, L none ([] : List Int) 0, I 0, L none ([] : List Int) 0, I 0, I 0] c fun b54 _ _ c => ?_
 refine E0 (Nd hd34 (b54, a58, c58) (c.rk [0, 1, 2, 3, 4, 5, 6, 7, 8, 9, 10, 11, 12, 13, 14, 15, 16, 17, 18, 19, 20, 21, 22, 24, 23] (rg 9)))
 refine Dg (fun i : Nat × Option Addr × Nat => ([(4, B b2 0), (8, B b29 0), (9, .bool x6.2), (13, B b32 0), (16, I x22.1), (18, B i.1 0), (115, .agg #[I x24.W, I x24.Mem, I x24.In, L i.2.1 x24.Code i.2.2]), (118, L ga14 p2 gc15)], fun Γ => Γ ++ [BX i.1 56 [I 0, L none ([] : List Int) 0, L none ([] : List Int) 0, L none ([] : List Int) 0, I 0, L none ([] : List Int) 0, I 0, I 0], sl91 (L i.2.1 x24.Code i.2.2) x24.Code], [])) 9 #[true, true, false, false, true, false, false, false, false, false, true, false, false] c (fun i37 _ _ c => ?_) fun hd22 => ?_
 obtain ⟨b34, a59, c59⟩ := i37
 refine any_node (fuel := 8) [2] (by kernel_rfl) (by simp) ⟨?_, trivial⟩
 refine op_of _ rfl rfl ?_
 refine Fp [(0, 1)] 1 c fun _ c => E0 (Nd hd34 (b34, a59, c59) (c.rk (rg 25) (rg 9)))
 refine Dg (fun i : Nat => ([(8, B b29 0), (9, .bool x6.2), (13, B b32 0), (16, I x22.1), (18, B i 0), (114, .agg #[I p0.W, I p0.Mem, I p0.In, L ga0 p0.Code gc1]), (116, .agg #[I p1.Pc, L ga2 p1.Regs gc3, L ga4 p1.Mem gc5, L ga6 p1.Stack gc7, I p1.In, L ga8 p1.Out gc9, I p1.Code, I p1.Steps, L ga10 p1.Cond gc11, L ga12 p1.Turns gc13]), (118, L ga14 p2 gc15)], fun Γ => Γ ++ [BX i 56 [I 0, L none ([] : List Int) 0, L none ([] : List Int) 0, L none ([] : List Int) 0, I 0, L none ([] : List Int) 0, I 0, I 0]], [])) 9 #[true, false, true, false, true, false, false, false, false, false, true, false, false] c (fun b41 _ _ c => ?_) fun hd26 => ?_
 refine any_node (fuel := 8) [1] (by kernel_rfl) (by simp) ⟨?_, trivial⟩
 refine op_of _ rfl rfl ?_
 refine Ca [] c (laws_toProgram_ok hx24) ⟨.f 0, trivial⟩ Tryz.call9 fun i51 _ _ c => ?_
 refine E0 (Nd hd34 (b41, i51.1, i51.2) (c.rk (rg 25) (rg 9)))
 refine Dg (fun _ : Unit => ([(8, B b29 0), (9, .bool x6.2), (13, B b32 0), (16, I x22.1), (114, .agg #[I p0.W, I p0.Mem, I p0.In, L ga0 p0.Code gc1]), (116, .agg #[I p1.Pc, L ga2 p1.Regs gc3, L ga4 p1.Mem gc5, L ga6 p1.Stack gc7, I p1.In, L ga8 p1.Out gc9, I p1.Code, I p1.Steps, L ga10 p1.Cond gc11, L ga12 p1.Turns gc13]), (118, L ga14 p2 gc15)], id, [])) 10 #[true, false, true, false, true, false, false, false, false, false, false, false, false] c (fun _ _ _ c => ?_) fun hd23 => ?_
 refine any_node (fuel := 9) [1, 10] (by kernel_rfl) (by simp) ⟨?_, ?_, trivial⟩
 refine op_of _ rfl rfl ?_
 refine Ca [] c (laws_toProgram_ok hx24) ⟨.f 0, trivial⟩ Tryz.call9 fun i38 _ _ c => ?_
 refine E0 (Nd hd21 (i38.1, i38.2) (c.rk (rg 24) (rg 9)))
 refine op_of _ rfl rfl ?_
 refine Eal [I 0, L none ([] : List Int) 0, L none ([] : List Int) 0, L none ([] : List Int) 0, I 0, L none ([] : List Int) 0, I 0, I 0] c fun b40 _ _ c => ?_
 refine E0 (Nd hd26 (b40) (c.rk (rg 24) (rg 9)))
 refine Dg (fun i : Nat => ([(4, B b2 0), (8, B b29 0), (9, .bool x6.2), (13, B b32 0), (16, I x22.1), (18, B i 0), (114, .agg #[I p0.W, I p0.Mem, I p0.In, L ga0 p0.Code gc1]), (118, L ga14 p2 gc15)], fun Γ => Γ ++ [BX i 56 [I 0, L none ([] : List Int) 0, L none ([] : List Int) 0, L none ([] : List Int) 0, I 0, L none ([] : List Int) 0, I 0, I 0]], [])) 10 #[true, false, false, false, true, false, false, false, false, false, true, false, false] c (fun b36 _ _ c => ?_) fun hd24 => ?_
 refine any_node (fuel := 9) [1, 2] (by kernel_rfl) (by simp) ⟨?_, ?_, trivial⟩
 refine op_of _ rfl rfl ?_
 refine Ca [] c (laws_toProgram_ok hx24) ⟨.f 0, trivial⟩ Tryz.call9 fun i39 _ _ c => ?_
 refine E0 (Nd hd22 (b36, i39.1, i39.2) (c.rk (rg 25) (rg 9)))
 refine op_of _ rfl rfl ?_
 refine Fp [(0, 1)] 1 c fun _ c => E0 (Nd hd26 (b36) (c.rk (rg 24) (rg 9)))
 refine Dg (fun i : Nat => ([(3, B b1 0), (8, B b29 0), (9, .bool x6.2), (13, B b32 0), (16, I x22.1), (18, B i 0), (116, .agg #[I p1.Pc, L ga2 p1.Regs gc3, L ga4 p1.Mem gc5, L ga6 p1.Stack gc7, I p1.In, L ga8 p1.Out gc9, I p1.Code, I p1.Steps, L ga10 p1.Cond gc11, L ga12 p1.Turns gc13]), (118, L ga14 p2 gc15)], fun Γ => Γ ++ [BX i 56 [I 0, L none ([] : List Int) 0, L none ([] : List Int) 0, L none ([] : List Int) 0, I 0, L none ([] : List Int) 0, I 0, I 0]], [])) 10 #[false, false, true, false, true, false, false, false, false, false, true, false, false] c (fun b38 _ _ c => ?_) fun hd25 => ?_
 refine any_node (fuel := 9) [0] (by kernel_rfl) (by simp) ⟨?_, trivial⟩
 refine op_of _ rfl rfl ?_
 refine Fp [(0, 0)] 1 c fun _ c => E0 (Nd hd26 (b38) (c.rk (rg 24) (rg 9)))
 refine any_node (fuel := 11) [0, 2, 10] (by kernel_rfl) (by simp) ⟨?_, ?_, ?_, trivial⟩
 refine op_of _ rfl rfl ?_
 refine Fp [(0, 0)] 1 c fun _ c => E0 (any_node (fuel := 10) [1, 2, 10] (by kernel_rfl) (by simp) ⟨?_, ?_, ?_, trivial⟩)
 refine op_of _ rfl rfl ?_
 refine Ca [] c (laws_toProgram_ok hx24) ⟨.f 0, trivial⟩ Tryz.call9 fun i35 _ _ c => ?_
 refine E0 (any_node (fuel := 9) [2, 10] (by kernel_rfl) (by simp) ⟨?_, ?_, trivial⟩)
 refine op_of _ rfl rfl ?_
 refine Fp [(0, 1)] 1 c fun _ c => E0 (Nd hd21 (i35.1, i35.2) (c.rk (rg 24) (rg 9)))
 refine op_of _ rfl rfl ?_
 replace c := c.gm [BX b1 24 [I p0.W, I p0.Mem, I p0.In, L ga0 p0.Code gc1], BX b2 28 [I p1.Pc, L ga2 p1.Regs gc3, L ga4 p1.Mem gc5, L ga6 p1.Stack gc7, I p1.In, L ga8 p1.Out gc9, I p1.Code, I p1.Steps, L ga10 p1.Cond gc11, L ga12 p1.Turns gc13], BX b29 56 [I x6.1.Pc, L a47 x6.1.Regs c47, L a48 x6.1.Mem c48, L a49 x6.1.Stack c49, I x6.1.In, L a50 x6.1.Out c50, I x6.1.Code, I x6.1.Steps], sl3 (L a47 x6.1.Regs c47) x6.1.Regs, sl3 (L a48 x6.1.Mem c48) x6.1.Mem, sl3 (L a49 x6.1.Stack c49) x6.1.Stack, sl3 (L a50 x6.1.Out c50) x6.1.Out, BX b30 34 [I x7.W, I x7.Mem, I x7.In, L i24.1 x7.Code i24.2], BX b31 38 [I x8.Pc, L i25.1 x8.Regs i25.2.1, L i25.2.2.1 x8.Mem i25.2.2.2.1, L i25.2.2.2.2.1 x8.Stack i25.2.2.2.2.2.1, I x8.In, L i25.2.2.2.2.2.2.1 x8.Out i25.2.2.2.2.2.2.2.1, I x8.Code, I x8.Steps, L i25.2.2.2.2.2.2.2.2.1 x8.Cond i25.2.2.2.2.2.2.2.2.2.1, L i25.2.2.2.2.2.2.2.2.2.2.1 x8.Turns i25.2.2.2.2.2.2.2.2.2.2.2], BX b32 56 [I x10.1.Pc, L i27.1 x22.2.Regs i27.2.1, L i27.2.2.1 x22.2.Mem i27.2.2.2.1, L i27.2.2.2.2.1 x22.2.Stack i27.2.2.2.2.2.1, I x10.1.In, L i27.2.2.2.2.2.2.1 x22.2.Out i27.2.2.2.2.2.2.2, I x10.1.Code, I x10.1.Steps], sl3 (L i34.1 x16 i34.2) x16, sl91 (L i24.1 x7.Code i24.2) x18.2.Code, OD (ownT 75) 75 (L i25.1 x8.Regs i25.2.1) x19.2.Regs, OD (ownT 75) 75 (L i25.2.2.1 x8.Mem i25.2.2.2.1) x19.2.Mem, sl3 (L i25.2.2.2.2.1 x8.Stack i25.2.2.2.2.2.1) x19.2.Stack, OD (ownT 75) 75 (L i25.2.2.2.2.2.2.1 x8.Out i25.2.2.2.2.2.2.2.1) x19.2.Out, OD (ownT 75) 75 (L i25.2.2.2.2.2.2.2.2.1 x8.Cond i25.2.2.2.2.2.2.2.2.2.1) x19.2.Cond, sl3 (L i25.2.2.2.2.2.2.2.2.2.2.1 x8.Turns i25.2.2.2.2.2.2.2.2.2.2.2) x19.2.Turns, sl3 (L i26.1 x9 i26.2) x20.2, sl3 (L i27.1 x22.2.Regs i27.2.1) x22.2.Regs, sl3 (L i27.2.2.1 x22.2.Mem i27.2.2.2.1) x22.2.Mem, sl3 (L i27.2.2.2.2.1 x22.2.Stack i27.2.2.2.2.2.1) x22.2.Stack, sl3 (L i27.2.2.2.2.2.2.1 x22.2.Out i27.2.2.2.2.2.2.2) x22.2.Out, sl91 (L i35.1 x24.Code i35.2) x24.Code]
 refine Eal [I 0, L none ([] : List Int) 0, L none ([] : List Int) 0, L none ([] : List Int) 0, I 0, L none ([] : List Int) 0, I 0, I 0] c fun b33 _ _ c => ?_
 refine E0 (Nd hd22 (b33, i35.1, i35.2) (c.rk [0, 1, 2, 3, 4, 5, 6, 7, 8, 9, 10, 11, 12, 13, 14, 15, 16, 17, 18, 19, 20, 21, 22, 24, 23] (rg 9)))
 refine op_of _ rfl rfl ?_
 refine Fp [(0, 1)] 1 c fun _ c => E0 (Nd hd23 () (c.rk (rg 23) (rg 9)))
 refine op_of _ rfl rfl ?_
 refine Eal [I 0, L none ([] : List Int) 0, L none ([] : List Int) 0, L none ([] : List Int) 0, I 0, L none ([] : List Int) 0, I 0, I 0] c fun b35 _ _ c => ?_
 refine E0 (Nd hd24 (b35) (c.rk (rg 24) (rg 9)))
 refine op_of _ rfl rfl ?_
 refine Fp [(0, 1)] 1 c fun _ c => E0 (any_node (fuel := 10) [0, 10] (by kernel_rfl) (by simp) ⟨?_, ?_, trivial⟩)
 refine op_of _ rfl rfl ?_
 refine Fp [(0, 0)] 1 c fun _ c => E0 (Nd hd23 () (c.rk (rg 23) (rg 9)))
 refine op_of _ rfl rfl ?_
 refine Eal [I 0, L none ([] : List Int) 0, L none ([] : List Int) 0, L none ([] : List Int) 0, I 0, L none ([] : List Int) 0, I 0, I 0] c fun b37 _ _ c => ?_
 refine E0 (Nd hd25 (b37) (c.rk (rg 24) (rg 9)))
 refine op_of _ rfl rfl ?_
 refine Eal [I 0, L none ([] : List Int) 0, L none ([] : List Int) 0, L none ([] : List Int) 0, I 0, L none ([] : List Int) 0, I 0, I 0] c fun b39 _ _ c => ?_
 refine E0 (any_node (fuel := 10) [0, 2] (by kernel_rfl) (by simp) ⟨?_, ?_, trivial⟩)
 refine op_of _ rfl rfl ?_
 refine Fp [(0, 0)] 1 c fun _ c => E0 (Nd hd24 (b39) (c.rk (rg 24) (rg 9)))
 refine op_of _ rfl rfl ?_
 refine Fp [(0, 1)] 1 c fun _ c => E0 (Nd hd25 (b39) (c.rk (rg 24) (rg 9)))
 obtain ⟨b59, a104, c104, a105, c105, a106, c106, a107, c107⟩ := i57
 refine S0 (Bd h fun x28 hx28 h => S0 (rZ [(2, .eq (.bool x28))] [(0, 6), (1, 2)] mix c ⟨Ncl c (kN (laws_eqState_ok hx28)) ⟨.g 24, .g 25, .g 26, .g 27, .g 3, .g 4, .g 5, .g 6, trivial⟩ Tryz.call27, trivial⟩ fun _ _ c => I0 c h (fun h => ?_) fun h => ?_))
 refine P0 [] c fun _ c => ?_
 obtain rfl := sj h
 exact wp_ret (tr (Rt c () [] []))
 refine K0 (P0 [] c fun _ c => T0 (Fp [(0, 5)] 2 c fun _ c => Bd h fun x29 hx29 h => Ca [] c (laws_heldState_ok hx29) ⟨.g 19, .g 20, .g 21, .g 22, trivial⟩ Tryz.call30 fun _ _ _ c => ?_))
 refine Fp [] 1 c fun _ c => E0 (S0 (P0 [] c fun _ c => I0 c h (fun h => ?_) fun h => ?_))
 refine P0 [] c fun _ c => ?_
 obtain rfl := sj h
 exact wp_ret (tr (Rt c () [] []))
 refine K0 (S0 (P0 [] c fun _ c => I0 c h (fun h => ?_) fun h => ?_))
 refine P0 [] c fun _ c => ?_
 obtain rfl := sj h
 exact wp_ret (tr (Rt c () [] []))
 refine K0 (P0 [] c fun _ c => ?_)
 obtain rfl := sj h
 exact wp_ret (Rt c () [] [])
end Go.Proofs.YtfbcccfbikeibaaGreatDoor
