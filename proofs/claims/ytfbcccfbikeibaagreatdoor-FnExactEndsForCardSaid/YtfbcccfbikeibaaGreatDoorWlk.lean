/- The walks, printed by a program. -/
import Derived.Test.YtfbcccfbikeibaaGreatDoorWlkA
set_option linter.unusedVariables false
set_option maxRecDepth 100000
namespace Go.Proofs.YtfbcccfbikeibaaGreatDoor
open Go.GL Go.Maps Go.WideMaps
theorem impl_shiftWord_ok {p0 : Int} {p1 : Int} {p2 : Int} {p3 : Int} {r : Int} (h : impl_shiftWord p0 p1 p2 p3 = some r) : Con Tryz.prog 114 [I p0, I p1, I p2, I p3] [] [] fun (_ : Unit) => ([I r], [], []) := by
 unfold impl_shiftWord at h
 refine En Tryz.func114 rfl Tryz.ntmps114 fun _ fr w c => ?_
 refine P0 [] c fun _ c => S0 (P0 [] c fun _ c => I0 c h (fun h => ?_) fun h => ?_)
 refine T0 (Fp [] 3 c fun _ c => Bd h fun x1 hx1 h => Ca [] c (impl_SignedOf_ok hx1) trivial Tryz.call113 fun _ _ _ c => ?_)
 refine Fp [] 5 c fun _ c => Bd h fun x2 hx2 h => Eshr c hx2 fun _ c => ?_
 refine Bd h fun x3 hx3 h => Ca [] c (impl_WordOf_ok hx3) trivial Tryz.call112 fun _ _ _ c => ?_
 refine Fp [] 1 c fun _ c => E0 ?_
 obtain rfl := sj h
 exact wp_ret (tr (Rt c () [] []))
 refine K0 (S0 (P0 [] c fun _ c => I0 c h (fun h => ?_) fun h => ?_))
 refine P0 [] c fun _ c => ?_
 obtain rfl := sj h
 exact wp_ret (tr (Rt c () [] []))
 refine K0 (S0 (P0 [] c fun _ c => I0 c h (fun h => ?_) fun h => ?_))
 refine T0 (Fp [] 4 c fun _ c => Bd h fun x4 hx4 h => Eshl c hx4 fun _ c => ?_)
 refine Bd h fun x5 hx5 h => Ca [] c (impl_WordOf_ok hx5) trivial Tryz.call112 fun _ _ _ c => ?_
 refine Fp [] 1 c fun _ c => E0 ?_
 obtain rfl := sj h
 exact wp_ret (tr (Rt c () [] []))
 refine K0 (T0 (Fp [] 3 c fun _ c => Bd h fun x6 hx6 h => Eshr c hx6 fun _ c => ?_))
 refine Fp [] 1 c fun _ c => E0 ?_
 obtain rfl := sj h
 exact wp_ret (Rt c () [] [])

theorem impl_boolWord_ok {p0 : Bool} {r : Int} (h : impl_boolWord p0 = some r) : Con Tryz.prog 115 [.bool p0] [] [] fun (_ : Unit) => ([I r], [], []) := by
 unfold impl_boolWord at h
 refine En Tryz.func115 rfl Tryz.ntmps115 fun _ fr w c => ?_
 refine P0 [] c fun _ c => S0 (P0 [] c fun _ c => I0 c h (fun h => ?_) fun h => ?_)
 refine P0 [] c fun _ c => ?_
 obtain rfl := sj h
 exact wp_ret (tr (Rt c () [] []))
 refine K0 (P0 [] c fun _ c => ?_)
 obtain rfl := sj h
 exact wp_ret (Rt c () [] [])

theorem impl_ApplyBinary_ok {p0 : Int} {p1 : Int} {p2 : Int} {p3 : Int} {r : Int} (h : impl_ApplyBinary p0 p1 p2 p3 = some r) : Con Tryz.prog 92 [I p0, I p1, I p2, I p3] [] [] fun (_ : Unit) => ([I r], [], []) := by
 unfold impl_ApplyBinary at h
 refine En Tryz.func92 rfl Tryz.ntmps92 fun _ fr w c => ?_
 refine P0 [] c fun _ c => S0 (Bd h fun x1 hx1 h => Bd h fun x2 hx2 h => S0 (rZ [(2, .eq (.bool x1)), (7, .eq (.bool x2))] [] mix c ⟨Ncl c (kN (impl_WordOk_ok hx1)) trivial Tryz.call79, Ncl c (fun hg => impl_WordOk_ok (iteF (gcF hg) hx2)) trivial Tryz.call79, trivial⟩ fun _ _ c => I0 c h (fun h => ?_) fun h => ?_))
 refine P0 [] c fun _ c => ?_
 cases h
 exact wp_ret (tr (Rt c () [] []))
 refine K0 (S0 (P0 [] c fun _ c => wp_block (P0 [] c fun _ c => I0 c h (fun h => ?_) fun h => ?_)))
 refine T0 (Fp [] 4 c fun _ c => Bd h fun x3 hx3 h => Ca [] c (impl_WordOf_ok hx3) trivial Tryz.call112 fun _ _ _ c => ?_)
 refine Fp [] 1 c fun _ c => E0 ?_
 obtain rfl := sj h
 exact wp_ret (br (tr (Rt c () [] [])))
 refine P0 [] c fun _ c => I0 c h (fun h => ?_) fun h => ?_
 refine T0 (Fp [] 4 c fun _ c => Bd h fun x4 hx4 h => Ca [] c (impl_WordOf_ok hx4) trivial Tryz.call112 fun _ _ _ c => ?_)
 refine Fp [] 1 c fun _ c => E0 ?_
 obtain rfl := sj h
 exact wp_ret (br (tr (Rt c () [] [])))
 refine P0 [] c fun _ c => I0 c h (fun h => ?_) fun h => ?_
 refine T0 (Fp [] 4 c fun _ c => Bd h fun x5 hx5 h => Ca [] c (impl_WordOf_ok hx5) trivial Tryz.call112 fun _ _ _ c => ?_)
 refine Fp [] 1 c fun _ c => E0 ?_
 obtain rfl := sj h
 exact wp_ret (br (tr (Rt c () [] [])))
 refine P0 [] c fun _ c => I0 c h (fun h => ?_) fun h => ?_
 refine S0 (P0 [] c fun _ c => I0 c h (fun h => ?_) fun h => ?_)
 refine T0 (Fp [] 2 c fun _ c => Bd h fun x6 hx6 h => Eshl c hx6 fun _ c => ?_)
 refine Fp [] 2 c fun _ c => E0 ?_
 cases h
 exact wp_ret (tr (br (tr (Rt c () [] []))))
 refine K0 (T0 (Fp [] 2 c fun _ c => Bd h fun x7 hx7 h => Equo c hx7 fun _ c => ?_))
 refine Fp [] 1 c fun _ c => E0 ?_
 obtain rfl := sj h
 exact wp_ret (br (tr (Rt c () [] [])))
 refine P0 [] c fun _ c => I0 c h (fun h => ?_) fun h => ?_
 refine S0 (P0 [] c fun _ c => I0 c h (fun h => ?_) fun h => ?_)
 refine P0 [] c fun _ c => ?_
 obtain rfl := sj h
 exact wp_ret (tr (br (tr (Rt c () [] []))))
 refine K0 (T0 (Fp [] 2 c fun _ c => Bd h fun x8 hx8 h => Erem c hx8 fun _ c => ?_))
 refine Fp [] 1 c fun _ c => E0 ?_
 obtain rfl := sj h
 exact wp_ret (br (tr (Rt c () [] [])))
 refine P0 [] c fun _ c => I0 c h (fun h => ?_) fun h => ?_
 refine P0 [] c fun _ c => ?_
 cases h
 exact wp_ret (br (tr (Rt c () [] [])))
 refine P0 [] c fun _ c => I0 c h (fun h => ?_) fun h => ?_
 refine P0 [] c fun _ c => ?_
 cases h
 exact wp_ret (br (tr (Rt c () [] [])))
 refine P0 [] c fun _ c => I0 c h (fun h => ?_) fun h => ?_
 refine P0 [] c fun _ c => ?_
 cases h
 exact wp_ret (br (tr (Rt c () [] [])))
 refine S0 (P0 [] c fun _ c => I0 c h (fun h => ?_) fun h => ?_)
 refine K0 (I0 c h (fun h => ?_) fun h => ?_)
 refine T0 (Fp [] 4 c fun _ c => Bd h fun x9 hx9 h => Ca [] c (impl_shiftWord_ok hx9) trivial Tryz.call114 fun _ _ _ c => ?_)
 refine Fp [] 1 c fun _ c => E0 ?_
 obtain rfl := sj h
 exact wp_ret (br (tr (Rt c () [] [])))
 refine P0 [] c fun _ c => I0 c h (fun h => ?_) fun h => ?_
 refine T0 (Fp [] 3 c fun _ c => Bd h fun x10 hx10 h => Ca [] c (impl_boolWord_ok hx10) trivial Tryz.call115 fun _ _ _ c => ?_)
 refine Fp [] 1 c fun _ c => E0 ?_
 obtain rfl := sj h
 exact wp_ret (br (tr (Rt c () [] [])))
 refine P0 [] c fun _ c => I0 c h (fun h => ?_) fun h => ?_
 refine T0 (Fp [] 3 c fun _ c => Bd h fun x11 hx11 h => Ca [] c (impl_boolWord_ok hx11) trivial Tryz.call115 fun _ _ _ c => ?_)
 refine Fp [] 1 c fun _ c => E0 ?_
 obtain rfl := sj h
 exact wp_ret (br (tr (Rt c () [] [])))
 refine P0 [] c fun _ c => I0 c h (fun h => ?_) fun h => ?_
 refine T0 (Fp [] 2 c fun _ c => Bd h fun x12 hx12 h => Ca [] c (impl_SignedOf_ok hx12) trivial Tryz.call113 fun _ _ _ c => ?_)
 refine Fp [] 2 c fun _ c => Bd h fun x13 hx13 h => Ca [] c (impl_SignedOf_ok hx13) trivial Tryz.call113 fun _ _ _ c => ?_
 refine Fp [] 1 c fun _ c => Bd h fun x14 hx14 h => Ca [] c (impl_boolWord_ok hx14) trivial Tryz.call115 fun _ _ _ c => ?_
 refine Fp [] 1 c fun _ c => E0 ?_
 obtain rfl := sj h
 exact wp_ret (br (tr (Rt c () [] [])))
 refine K1 (bk (tn (P0 [] c fun _ c => ?_)))
 cases h
 exact wp_ret (Rt c () [] [])
 refine P0 [] c fun _ c => Mp (p0 == 12) [(75, .bool (p0 == 12))] [(75, .bool (p0 == 13))] [(75, .bool ((p0 == 12) || (p0 == 13)))] [75, 78] c fun _ c => I0 c h (fun h => ?_) fun h => ?_
 refine T0 (Fp [] 4 c fun _ c => Bd h fun x15 hx15 h => Ca [] c (impl_shiftWord_ok hx15) trivial Tryz.call114 fun _ _ _ c => ?_)
 refine Fp [] 1 c fun _ c => E0 ?_
 obtain rfl := sj h
 exact wp_ret (br (tr (Rt c () [] [])))
 refine P0 [] c fun _ c => I0 c h (fun h => ?_) fun h => ?_
 refine T0 (Fp [] 3 c fun _ c => Bd h fun x16 hx16 h => Ca [] c (impl_boolWord_ok hx16) trivial Tryz.call115 fun _ _ _ c => ?_)
 refine Fp [] 1 c fun _ c => E0 ?_
 obtain rfl := sj h
 exact wp_ret (br (tr (Rt c () [] [])))
 refine P0 [] c fun _ c => I0 c h (fun h => ?_) fun h => ?_
 refine T0 (Fp [] 3 c fun _ c => Bd h fun x17 hx17 h => Ca [] c (impl_boolWord_ok hx17) trivial Tryz.call115 fun _ _ _ c => ?_)
 refine Fp [] 1 c fun _ c => E0 ?_
 obtain rfl := sj h
 exact wp_ret (br (tr (Rt c () [] [])))
 refine P0 [] c fun _ c => I0 c h (fun h => ?_) fun h => ?_
 refine T0 (Fp [] 2 c fun _ c => Bd h fun x18 hx18 h => Ca [] c (impl_SignedOf_ok hx18) trivial Tryz.call113 fun _ _ _ c => ?_)
 refine Fp [] 2 c fun _ c => Bd h fun x19 hx19 h => Ca [] c (impl_SignedOf_ok hx19) trivial Tryz.call113 fun _ _ _ c => ?_
 refine Fp [] 1 c fun _ c => Bd h fun x20 hx20 h => Ca [] c (impl_boolWord_ok hx20) trivial Tryz.call115 fun _ _ _ c => ?_
 refine Fp [] 1 c fun _ c => E0 ?_
 obtain rfl := sj h
 exact wp_ret (br (tr (Rt c () [] [])))
 refine K1 (bk (tn (P0 [] c fun _ c => ?_)))
 cases h
 exact wp_ret (Rt c () [] [])

theorem impl_evalNode_ok {n : Nat} : ∀ {p0 : D.Term} {p1 : Option (List (Str × Int))} {ga0 : Option Addr} {gc1 : Nat} {gu2 : Value} {r : Int} (h : impl_evalNode n p0 p1 = some r), Con Tryz.prog 69 [.agg #[I p0.Op, I p0.W, I p0.N, Str.val p0.Name, L ga0 p0.Kids gc1], gu2] [] [RO (L ga0 p0.Kids gc1) p0.Kids, MO map102 (gu2) p1] fun (_ : Unit) => ([I r], [], []) := by
 induction n with
 | zero => intro p0 p1 ga0 gc1 gu2 r h; simp [impl_evalNode] at h
 | succ n ih =>
 intro p0 p1 ga0 gc1 gu2 r h
 rw [impl_evalNode] at h
 refine En Tryz.func69 rfl Tryz.ntmps69 fun _ fr w c => ?_
 refine T0 (Ebx [I p0.Op, I p0.W, I p0.N, Str.val p0.Name, L ga0 p0.Kids gc1] c fun b1 _ _ c => ?_)
 refine Fp [] 1 c fun _ c => E0 (S0 (P0 [(1, 0)] c fun _ c => wp_block (P0 [] c fun _ c => I0 c h (fun h => ?_) fun h => ?_)))
 refine P0 [(1, 0)] c fun _ c => ?_
 cases h
 exact wp_ret (br (tr (Rt c () [] [])))
 refine P0 [] c fun _ c => I0 c h (fun h => ?_) fun h => ?_
 refine T0 (Fp [(2, 0)] 3 c fun _ c => Bd h fun x1 hx1 h => Erg c (.f 1) hx1 fun _ c => ?_)
 refine Fp [] 1 c fun _ c => E0 ?_
 obtain rfl := sj h
 exact wp_ret (br (tr (Rt c () [] [])))
 refine P0 [] c fun _ c => I0 c h (fun h => ?_) fun h => ?_
 refine S0 (T0 (Fp [(1, 0)] 2 c fun _ c => Bd h fun x2 hx2 h => Eem c (.f 0) hx2 fun _ u1 _ c => ?_))
 obtain ⟨a1, c1, rfl, c⟩ := c.o_Term 2
 refine Fp [] 1 c fun _ c => Bd h fun x3 hx3 h => Ca [] c (ih hx3) ⟨.f 3, .f 1, trivial⟩ Tryz.call69 fun _ _ _ c => ?_
 refine Fp [] 1 c fun _ c => E0 (I0 c h (fun h => ?_) fun h => ?_)
 refine T0 (Fp [(1, 0)] 2 c fun _ c => Bd h fun x4 hx4 h => Eem c (.f 0) hx4 fun _ u2 _ c => ?_)
 obtain ⟨a2, c2, rfl, c⟩ := c.o_Term 4
 refine Fp [] 1 c fun _ c => Bd h fun x5 hx5 h => Ca [] c (ih hx5) ⟨.f 5, .f 1, trivial⟩ Tryz.call69 fun _ _ _ c => ?_
 refine Fp [] 1 c fun _ c => E0 ?_
 obtain rfl := sj h
 exact wp_ret (tr (br (tr (Rt c () [] []))))
 refine K0 (T0 (Fp [(1, 0)] 2 c fun _ c => Bd h fun x6 hx6 h => Eem c (.f 0) hx6 fun _ u3 _ c => ?_))
 obtain ⟨a3, c3, rfl, c⟩ := c.o_Term 4
 refine Fp [] 1 c fun _ c => Bd h fun x7 hx7 h => Ca [] c (ih hx7) ⟨.f 5, .f 1, trivial⟩ Tryz.call69 fun _ _ _ c => ?_
 refine Fp [] 1 c fun _ c => E0 ?_
 obtain rfl := sj h
 exact wp_ret (br (tr (Rt c () [] [])))
 refine K1 (bk (tn (T0 (Fp [(1, 0)] 2 c fun _ c => Bd h fun x8 hx8 h => Eem c (.f 0) hx8 fun _ u4 _ c => ?_))))
 obtain ⟨a4, c4, rfl, c⟩ := c.o_Term 2
 refine Fp [] 1 c fun _ c => Bd h fun x9 hx9 h => Ca [] c (ih hx9) ⟨.f 3, .f 1, trivial⟩ Tryz.call69 fun _ _ _ c => ?_
 refine Fp [] 1 c fun _ c => E0 (T0 (Fp [(1, 0)] 2 c fun _ c => Bd h fun x10 hx10 h => Eef c (.f 0) hx10 fc75_1 fun _ _ _ c => ?_))
 refine Fp [] 1 c fun _ c => E0 (S0 (P0 [(1, 0)] c fun _ c => wp_block (S0 (P0 [] c fun _ c => Mp (p0.Op == 1) [(54, .bool (p0.Op == 1))] [(54, .bool (p0.Op == 2))] [(54, .bool ((p0.Op == 1) || (p0.Op == 2)))] [54, 56] c fun _ c => I0 c h (fun h => ?_) fun h => ?_))))
 refine T0 (Fp [(1, 0)] 4 c fun _ c => Bd h fun x11 hx11 h => Ca [] c (impl_ApplyUnary_ok hx11) trivial Tryz.call88 fun _ _ _ c => ?_)
 refine Fp [] 1 c fun _ c => E0 ?_
 obtain rfl := sj h
 exact wp_ret (br (tr (Rt c () [] [])))
 refine P0 [] c fun _ c => I0 c h (fun h => ?_) fun h => ?_
 refine T0 (Fp [(3, 0), (5, 0)] 6 c fun _ c => Bd h fun x12 hx12 h => Ca [] c (impl_CutWord_ok hx12) trivial Tryz.call89 fun _ _ _ c => ?_)
 refine Fp [] 1 c fun _ c => E0 ?_
 obtain rfl := sj h
 exact wp_ret (br (tr (Rt c () [] [])))
 refine S0 (P0 [] c fun _ c => Mp (p0.Op == 20) [(71, .bool (p0.Op == 20))] [(71, .bool (p0.Op == 21))] [(71, .bool ((p0.Op == 20) || (p0.Op == 21)))] [71, 73] c fun _ c => I0 c h (fun h => ?_) fun h => ?_)
 refine T0 (Fp [(3, 0), (5, 0)] 7 c fun _ c => Bd h fun x13 hx13 h => Ca [] c (impl_WidenWord_ok hx13) trivial Tryz.call90 fun _ _ _ c => ?_)
 refine Fp [] 1 c fun _ c => E0 ?_
 obtain rfl := sj h
 exact wp_ret (br (tr (Rt c () [] [])))
 refine K1 (bk (tn (T0 (Fp [(1, 0)] 2 c fun _ c => Bd h fun x14 hx14 h => Eem c (.f 0) hx14 fun _ u5 _ c => ?_))))
 obtain ⟨a5, c5, rfl, c⟩ := c.o_Term 4
 refine Fp [] 1 c fun _ c => Bd h fun x15 hx15 h => Ca [] c (ih hx15) ⟨.f 5, .f 1, trivial⟩ Tryz.call69 fun _ _ _ c => ?_
 refine Fp [] 1 c fun _ c => E0 (S0 (P0 [(1, 0)] c fun _ c => I0 c h (fun h => ?_) fun h => ?_))
 refine T0 (Fp [(3, 0)] 4 c fun _ c => ?_)
 replace c := c.gm [BX b1 75 [I p0.Op, I p0.W, I p0.N, Str.val p0.Name, L ga0 p0.Kids gc1]]
 refine Bd h fun x16 hx16 h => Eef c (.f 0) hx16 fc75_1 fun _ _ _ c => ?_
 refine Fp [] 1 c fun _ c => Bd h fun x17 hx17 h => Ca [] c (impl_JoinWords_ok hx17) trivial Tryz.call91 fun _ _ _ c => ?_
 refine Fp [] 1 c fun _ c => E0 ?_
 obtain rfl := sj h
 exact wp_ret (tr (Rt c () [] []))
 refine K0 (T0 (Fp [(1, 0)] 5 c fun _ c => ?_))
 replace c := c.gm [BX b1 75 [I p0.Op, I p0.W, I p0.N, Str.val p0.Name, L ga0 p0.Kids gc1]]
 refine Bd h fun x18 hx18 h => Ca [] c (impl_ApplyBinary_ok hx18) trivial Tryz.call92 fun _ _ _ c => ?_
 refine Fp [] 1 c fun _ c => E0 ?_
 obtain rfl := sj h
 exact wp_ret (Rt c () [] [])

theorem impl_EvalTerm_ok {n : Nat} {p0 : D.Term} {p1 : List D.Value} {ga0 : Option Addr} {gc1 : Nat} {ga2 : Option Addr} {gc3 : Nat} {r : Int × Bool} (h : impl_EvalTerm n p0 p1 = some r) : Con Tryz.prog 43 [.agg #[I p0.Op, I p0.W, I p0.N, Str.val p0.Name, L ga0 p0.Kids gc1], L ga2 p1 gc3] [] [RO (L ga0 p0.Kids gc1) p0.Kids, RO (L ga2 p1 gc3) p1] fun (_ : Unit) => ([I r.1, .bool r.2], [], []) := by
 unfold impl_EvalTerm at h
 refine En Tryz.func43 rfl Tryz.ntmps43 fun _ fr w c => ?_
 refine T0 (Ebx [I p0.Op, I p0.W, I p0.N, Str.val p0.Name, L ga0 p0.Kids gc1] c fun b1 _ _ c => ?_)
 refine Fp [] 2 c fun _ c => E0 (S0 (Bd h fun x1 hx1 h => Bd h fun x2 hx2 h => S0 (rZ [(1, .eq (.bool x1)), (5, .eq (.bool x2))] [(0, 0)] mix c ⟨Ncl c (kN (impl_TermOk_ok hx1)) ⟨.f 0, trivial⟩ Tryz.call66, Ncl c (fun hg => impl_ValuesOk_ok (iteF (gcF hg) hx2)) ⟨.f 1, trivial⟩ Tryz.call67, trivial⟩ fun _ _ c => I0 c h (fun h => ?_) fun h => ?_)))
 refine P0 [] c fun _ c => ?_
 cases h
 exact wp_ret (tr (Rg c () [] [] (.tmp (.tmp .nil))))
 refine K0 (T0 (Emm map102 c fun b2 _ _ c => ?_))
 refine Fp [] 1 c fun _ c => E0 (T0 (Emm map102 c fun b3 _ _ c => ?_))
 refine Fp [] 1 c fun _ c => E0 (S0 (P0 [] c fun _ c => Bd h fun rl1 hit1 h => Lp (fun s1  (_ : Unit) => ([(2, B b1 0), (6, .map (some b2)), (7, .map (some b3)), (24, L ga2 p1 gc3), (25, I (len p1)), (26, I s1.1)], fun Γ => (Γ.set 1 (MP map102 b2 s1.2.1)).set 2 (MP map102 b3 s1.2.2), [])) (fun  (_ : Unit) => ([(2, B b1 0), (6, .map (some b2)), (7, .map (some b3))], fun Γ => (Γ.set 1 (MP map102 b2 rl1.1)).set 2 (MP map102 b3 rl1.2), [])) hit1 c () (c.re [0, 1, 2] [0, 1]) (fun s1 q1 _ _ _ c h hr1 => ?_) fun _ _ _ c => ?_))
 refine P0 [] c fun _ c => S0 (I0 c h (fun h => ?_) fun h => ?_)
 refine K0 (S0 (wp_block (T0 (Bd h fun x3 hx3 h => Eel c (.f 1) hx3 fun _ _ c => ?_))))
 refine Eal [Str.val ⟨[]⟩, I 0, I 0] c fun b4 _ _ c => ?_
 refine Ess 3 [Str.val x3.Name, I x3.W, I x3.N] c fun _ c => ?_
 refine E0 (T0 (Fp [(2, 1), (4, 1)] 5 c fun _ c => ?_))
 replace c := c.gm [BX b1 75 [I p0.Op, I p0.W, I p0.N, Str.val p0.Name, L ga0 p0.Kids gc1], MP map102 b2 s1.2.1, MP map102 b3 s1.2.2, BX b4 89 [Str.val x3.Name, I x3.W, I x3.N]]
 refine Bd h fun x4 hx4 h => Emp 1 c hx4 fun _ c => ?_
 refine E0 (T1 (Fp [(2, 1), (4, 1)] 5 c fun _ c => Bd h fun x5 hx5 h => Emp 2 c hx5 fun _ c => ?_))
 refine E1 (bk (tn (P1 [] c fun _ c => Nx h () (c.re [0, 1, 2] [0, 1]))))
 refine wp_exit (te (te (be ?_)))
 obtain rfl := hr1 _ (Option.some.inj h).symm
 exact tn ⟨(), c.re [0, 1, 2] [0, 1]⟩
 refine S0 (T0 (Fp [(0, 0)] 1 c fun _ c => Bd h fun x6 hx6 h => Ca [] c (impl_VarsOf_ok hx6) ⟨.f 0, trivial⟩ Tryz.call68 fun i1 _ _ c => ?_))
 refine Fp [] 2 c fun _ c => E0 (Bd h fun rl2 hit2 h => ?_)
 have hk2 := h
 refine LpR (fun s2  (_ : Unit) => ([(2, B b1 0), (6, .map (some b2)), (7, .map (some b3)), (42, L i1.1 x6 i1.2), (43, I (len x6)), (44, I s2)], id, [])) (fun s  (_ : Unit) => ([(2, B b1 0), (6, .map (some b2))], id, [])) hit2 c () (c.re (rg 4) [0, 1]) (fun s2 q2 _ _ _ c h hr2 => ?_) fun s2r _ _ _ hrl c => ?_
 refine P0 [] c fun _ c => S0 (I0 c h (fun h => ?_) fun h => ?_)
 refine K0 (S0 (wp_block (T0 (Bd h fun x7 hx7 h => Eel c (.g 3) hx7 fun _ _ c => ?_))))
 refine Eal [Str.val ⟨[]⟩, I 0, I 0] c fun b5 _ _ c => ?_
 replace c := c.gm [BX b1 75 [I p0.Op, I p0.W, I p0.N, Str.val p0.Name, L ga0 p0.Kids gc1], MP map102 b2 rl1.1, MP map102 b3 rl1.2, sl89 (L i1.1 x6 i1.2) x6, BX b5 89 [Str.val ⟨[]⟩, I 0, I 0]]
 refine Ess 4 [Str.val x7.Name, I x7.W, I x7.N] c fun _ c => ?_
 refine E0 (T0 (Fp [(2, 1)] 3 c fun _ c => Bd h fun x8 hx8 h => Emg2 2 c hx8 fun _ c => ?_))
 refine Fp [] 5 c fun _ c => E0 (S0 (Ry [(5, 1)] mix c fun _ _ c => I0 c h (fun h => ?_) fun h => ?_))
 refine P0 [] c fun _ c => ?_
 obtain rfl := hr2 _ (Option.some.inj h).symm
 obtain rfl := Option.some.inj hk2
 exact wp_ret (br (tr (tr (br (tr (Rg c () [] [] (.tmp (.tmp .nil))))))))
 refine K1 (bk (tn (P1 [] c fun _ c => Nx h () (c.re (rg 4) [0, 1]))))
 refine wp_exit (te (te (be ?_)))
 obtain rfl := hr2 _ (Option.some.inj h).symm
 exact tn ⟨_, (), rfl, c.re (rg 4) [0, 1]⟩
 subst hrl
 refine T0 (Fp [(0, 0)] 2 c fun _ c => Bd h fun x9 hx9 h => Ca [] c (impl_evalNode_ok hx9) ⟨.f 0, .mp 1, trivial⟩ Tryz.call69 fun _ _ _ c => ?_)
 refine Fp [] 2 c fun _ c => E0 ?_
 cases h
 exact wp_ret (Rg c () [] [] (.tmp (.tmp .nil)))

theorem impl_HoldsPath_ok {n : Nat} {p0 : D.Program} {p1 : D.Path} {p2 : List Int} {ga0 : Option Addr} {gc1 : Nat} {ga2 : Option Addr} {gc3 : Nat} {ga4 : Option Addr} {gc5 : Nat} {ga6 : Option Addr} {gc7 : Nat} {ga8 : Option Addr} {gc9 : Nat} {ga10 : Option Addr} {gc11 : Nat} {ga12 : Option Addr} {gc13 : Nat} {ga14 : Option Addr} {gc15 : Nat} {r : Bool} (h : impl_HoldsPath n p0 p1 p2 = some r) : Con Tryz.prog 12 [.agg #[I p0.W, I p0.Mem, I p0.In, L ga0 p0.Code gc1], .agg #[I p1.Pc, L ga2 p1.Regs gc3, L ga4 p1.Mem gc5, L ga6 p1.Stack gc7, I p1.In, L ga8 p1.Out gc9, I p1.Code, I p1.Steps, L ga10 p1.Cond gc11, L ga12 p1.Turns gc13], L ga14 p2 gc15] [] [RO (L ga0 p0.Code gc1) p0.Code, RO (L ga2 p1.Regs gc3) p1.Regs, RO (L ga4 p1.Mem gc5) p1.Mem, RO (L ga6 p1.Stack gc7) p1.Stack, RO (L ga8 p1.Out gc9) p1.Out, RO (L ga10 p1.Cond gc11) p1.Cond, RO (L ga12 p1.Turns gc13) p1.Turns, RO (L ga14 p2 gc15) p2, TBf Tryz.prog] fun (_ : Unit) => ([.bool r], [], []) := by
 unfold impl_HoldsPath at h
 refine En Tryz.func12 rfl Tryz.ntmps12 fun _ fr w c => ?_
 refine T0 (Ebx [I p0.W, I p0.Mem, I p0.In, L ga0 p0.Code gc1] c fun b1 _ _ c => ?_)
 refine Ebx [I p1.Pc, L ga2 p1.Regs gc3, L ga4 p1.Mem gc5, L ga6 p1.Stack gc7, I p1.In, L ga8 p1.Out gc9, I p1.Code, I p1.Steps, L ga10 p1.Cond gc11, L ga12 p1.Turns gc13] c fun b2 _ _ c => ?_
 refine Fp [] 1 c fun _ c => E0 (S0 (Bd h fun x1 hx1 h => Bd h fun x2 hx2 h => S0 (rZ [(2, .eq (.bool x1)), (7, .eq (.bool x2))] [(0, 0), (1, 1), (5, 0)] mix c ⟨Ncl c (kN (impl_PathOk_ok hx1)) ⟨.f 0, .f 1, .f 2, .f 3, .f 4, .f 5, .f 6, trivial⟩ Tryz.call40, Ncl c (fun hg => impl_InputsOk_ok (iteF (gcF hg) hx2)) ⟨.f 0, .f 7, trivial⟩ Tryz.call41, trivial⟩ fun _ _ c => I0 c h (fun h => ?_) fun h => ?_)))
 refine P0 [] c fun _ c => ?_
 obtain rfl := sj h
 exact wp_ret (tr (Rt c () [] []))
 refine K0 (T0 (Fp [(0, 0)] 2 c fun _ c => Bd h fun x3 hx3 h => Ca [] c (impl_inputValues_ok hx3) ⟨.f 0, .f 7, .f 8, trivial⟩ Tryz.call42 fun i1 _ _ c => ?_))
 refine Fp [] 1 c fun _ c => E0 (S0 (P0 [(1, 1)] c fun _ c => Bd h fun rl1 hit1 h => ?_))
 have hk1 := h
 refine LpR (fun s1  (_ : Unit) => ([(4, B b2 0), (7, L i1.1 x3 i1.2), (26, I (len p1.Cond)), (27, I s1)], id, [])) (fun s  (_ : Unit) => ([], id, [])) hit1 c () (c.re [0, 1, 2] (rg 9)) (fun s1 q1 _ _ _ c h hr1 => ?_) fun s1r _ _ _ hrl c => ?_
 refine P0 [] c fun _ c => S0 (I0 c h (fun h => ?_) fun h => ?_)
 refine K0 (S0 (wp_block (P0 [] c fun _ c => T0 (Fp [(1, 1)] 3 c fun _ c => Bd h fun x4 hx4 h => Eem c (.f 5) hx4 fun _ u1 _ c => ?_))))
 obtain ⟨a1, c1, rfl, c⟩ := c.o_Term 9
 refine Fp [] 1 c fun _ c => Bd h fun x5 hx5 h => Ca [] c (impl_EvalTerm_ok hx5) ⟨.f 10, .g 2, trivial⟩ Tryz.call43 fun _ _ _ c => ?_
 refine Fp [] 5 c fun _ c => E0 (S0 (Ry [] mix c fun _ _ c => I0 c h (fun h => ?_) fun h => ?_))
 refine P0 [] c fun _ c => ?_
 obtain rfl := hr1 _ (Option.some.inj h).symm
 obtain rfl := Option.some.inj hk1
 exact wp_ret (br (tr (tr (br (tr (Rt c () [] []))))))
 refine K1 (bk (tn (P1 [] c fun _ c => Nx h () (c.re [0, 1, 2] (rg 9)))))
 refine wp_exit (te (te (be ?_)))
 obtain rfl := hr1 _ (Option.some.inj h).symm
 exact tn ⟨_, (), rfl, c.re [0, 1, 2] (rg 9)⟩
 subst hrl
 refine P0 [] c fun _ c => ?_
 obtain rfl := sj h
 exact wp_ret (Rt c () [] [])

theorem impl_EndsFor_ok {n : Nat} {p0 : D.Program} {p1 : List D.Path} {p2 : List Int} {ga0 : Option Addr} {gc1 : Nat} {ga2 : Option Addr} {gc3 : Nat} {ga4 : Option Addr} {gc5 : Nat} {r : (List Int)} (h : impl_EndsFor n p0 p1 p2 = some r) : Con Tryz.prog 19 [.agg #[I p0.W, I p0.Mem, I p0.In, L ga0 p0.Code gc1], L ga2 p1 gc3, L ga4 p2 gc5] [] [RO (L ga0 p0.Code gc1) p0.Code, RO (L ga2 p1 gc3) p1, RO (L ga4 p2 gc5) p2, TBf Tryz.prog] fun (i : Option Addr × Nat) => ([L i.1 r i.2], [sl3 (L i.1 r i.2) r], []) := by
 unfold impl_EndsFor at h
 refine En Tryz.func19 rfl Tryz.ntmps19 fun _ fr w c => ?_
 refine T0 (Ebx [I p0.W, I p0.Mem, I p0.In, L ga0 p0.Code gc1] c fun b1 _ _ c => ?_)
 refine Fp [] 1 c fun _ c => E0 (P0 [] c fun _ c => S0 (P0 [] c fun _ c => ?_))
 replace c := c.nil (α := Int) 3
 refine Bd h fun rl1 hit1 h => Lp (fun s1  (i : Option Addr × Nat) => ([(2, L ga4 p2 gc5), (3, B b1 0), (7, L i.1 s1.2 i.2), (10, L ga2 p1 gc3), (11, I (len p1)), (12, I s1.1)], fun Γ => Γ.set 1 (sl3 (L i.1 s1.2 i.2) s1.2), [])) (fun  (i : Option Addr × Nat) => ([(7, L i.1 rl1 i.2)], fun Γ => Γ.set 1 (sl3 (L i.1 rl1 i.2) rl1), [])) hit1 c (none, 0) (c.re [0, 1] (rg 4)) (fun s1 q1 i1 _ _ c h hr1 => ?_) fun k1 _ _ c => ?_
 refine P0 [] c fun _ c => S0 (I0 c h (fun h => ?_) fun h => ?_)
 refine K0 (S0 (wp_block (T0 (Fp [] 1 c fun _ c => Bd h fun x1 hx1 h => Eem c (.f 1) hx1 fun _ u1 _ c => ?_))))
 obtain ⟨a1, c1, a2, c2, a3, c3, a4, c4, a5, c5, a6, c6, rfl, c⟩ := c.o_Path 4
 refine Eal [I 0, L none ([] : List D.Term) 0, L none ([] : List D.Term) 0, L none ([] : List Int) 0, I 0, L none ([] : List D.Term) 0, I 0, I 0, L none ([] : List D.Term) 0, L none ([] : List Int) 0] c fun b2 _ _ c => ?_
 refine Fp [] 1 c fun _ c => Ess 2 [I x1.Pc, L a1 x1.Regs c1, L a2 x1.Mem c2, L a3 x1.Stack c3, I x1.In, L a4 x1.Out c4, I x1.Code, I x1.Steps, L a5 x1.Cond c5, L a6 x1.Turns c6] c fun _ c => ?_
 refine E0 (T0 (Fp [(0, 0), (1, 1)] 3 c fun _ c => Bd h fun x2 hx2 h => Ca [] c (impl_HoldsPath_ok hx2) ⟨.f 0, .f 5, .f 6, .f 7, .f 8, .f 9, .f 10, .f 2, .f 3, trivial⟩ Tryz.call12 fun _ _ _ c => ?_))
 refine E0 (I0 c h (fun h => ?_) fun h => ?_)
 refine T1 (Fp [] 2 c fun _ c => ?_)
 replace c := c.gm [BX b1 34 [I p0.W, I p0.Mem, I p0.In, L ga0 p0.Code gc1], sl3 (L i1.1 s1.2 i1.2) s1.2, BX b2 38 [I x1.Pc, L a1 x1.Regs c1, L a2 x1.Mem c2, L a3 x1.Stack c3, I x1.In, L a4 x1.Out c4, I x1.Code, I x1.Steps, L a5 x1.Cond c5, L a6 x1.Turns c6]]
 refine Elt 3 ([s1.1] : List Int) c fun a7 c7 _ _ c => ?_
 refine Bd h fun x3 hx3 h => Eap 1 c (.g 3) hx3 fun a8 c8 _ _ c => ?_
 refine Fp [] 1 c fun _ c => E1 (bk (tn (P1 [] c fun _ c => Nx h (a8, c8) (c.re [0, 1] (rg 4)))))
 refine K1 (bk (tn (P1 [] c fun _ c => Nx h (i1.1, i1.2) (c.re [0, 1] (rg 4)))))
 refine wp_exit (te (te (be ?_)))
 obtain rfl := hr1 _ (Option.some.inj h).symm
 exact tn ⟨(i1.1, i1.2), c.re [0, 1] (rg 4)⟩
 refine P0 [] c fun _ c => ?_
 obtain rfl := sj h
 exact wp_ret (Rt c (k1.1, k1.2) [1] [])

theorem laws_eqIntS_ok {n : Nat} {p0 : List Int} {p1 : List Int} {ga0 : Option Addr} {gc1 : Nat} {ga2 : Option Addr} {gc3 : Nat} {r : Bool} (h : laws_eqIntS n p0 p1 = some r) : Con Tryz.prog 15 [L ga0 p0 gc1, L ga2 p1 gc3] [] [RO (L ga0 p0 gc1) p0, RO (L ga2 p1 gc3) p1] fun (_ : Unit) => ([.bool r], [], []) := by
 unfold laws_eqIntS at h
 refine En Tryz.func15 rfl Tryz.ntmps15 fun _ fr w c => ?_
 refine P0 [] c fun _ c => S0 (P0 [] c fun _ c => I0 c h (fun h => ?_) fun h => ?_)
 refine P0 [] c fun _ c => ?_
 obtain rfl := sj h
 exact wp_ret (tr (Rt c () [] []))
 refine K0 (S0 (P0 [] c fun _ c => Bd h fun rl1 hit1 h => ?_))
 have hk1 := h
 refine LpR (fun s1  (_ : Unit) => ([(0, L ga0 p0 gc1), (1, L ga2 p1 gc3), (5, I s1)], id, [])) (fun s  (_ : Unit) => ([], id, [])) hit1 c () (c.re [] [0, 1]) (fun s1 q1 _ _ _ c h hr1 => ?_) fun s1r _ _ _ hrl c => ?_
 refine S0 (P0 [] c fun _ c => I0 c h (fun h => ?_) fun h => ?_)
 refine K0 (S0 (wp_block (Bd h fun x1 hx1 h => Bd h fun x2 hx2 h => S0 (rZ [(2, Pd.el (x1 : Int)), (3, .eq (I x1)), (6, Pd.el (x2 : Int)), (7, .eq (I x2))] [] mix c ⟨Nid c (.f 0) (kN hx1), Nld c 2 (q := x1) (atN 2), Nid c (.f 1) (kN hx2), Nld c 6 (q := x2) (atN 6), trivial⟩ fun _ _ c => I0 c h (fun h => ?_) fun h => ?_))))
 refine P0 [] c fun _ c => ?_
 obtain rfl := hr1 _ (Option.some.inj h).symm
 obtain rfl := Option.some.inj hk1
 exact wp_ret (br (tr (tr (br (tr (Rt c () [] []))))))
 refine K1 (bk (tn (P1 [] c fun _ c => Nx h () (c.re [] [0, 1]))))
 refine wp_exit (te (te (be ?_)))
 obtain rfl := hr1 _ (Option.some.inj h).symm
 exact tn ⟨_, (), rfl, c.re [] [0, 1]⟩
 subst hrl
 refine P0 [] c fun _ c => ?_
 obtain rfl := sj h
 exact wp_ret (Rt c () [] [])

theorem laws_eqIns_ok {p0 : D.Ins} {p1 : D.Ins} {r : Bool} (h : laws_eqIns p0 p1 = some r) : Con Tryz.prog 70 [.agg #[I p0.Op, I p0.A, I p0.B, I p0.C], .agg #[I p1.Op, I p1.A, I p1.B, I p1.C]] [] [] fun (_ : Unit) => ([.bool r], [], []) := by
 unfold laws_eqIns at h
 refine En Tryz.func70 rfl Tryz.ntmps70 fun _ fr w c => ?_
 refine T0 (Ebx [I p0.Op, I p0.A, I p0.B, I p0.C] c fun b1 _ _ c => ?_)
 refine Ebx [I p1.Op, I p1.A, I p1.B, I p1.C] c fun b2 _ _ c => ?_
 refine Fp [] 1 c fun _ c => E0 (S0 (P0 [(1, 0), (3, 1)] c fun _ c => I0 c h (fun h => ?_) fun h => ?_))
 refine P0 [] c fun _ c => ?_
 obtain rfl := sj h
 exact wp_ret (tr (Rt c () [] []))
 refine K0 (S0 (P0 [(1, 0), (3, 1)] c fun _ c => I0 c h (fun h => ?_) fun h => ?_))
 refine P0 [] c fun _ c => ?_
 obtain rfl := sj h
 exact wp_ret (tr (Rt c () [] []))
 refine K0 (S0 (P0 [(1, 0), (3, 1)] c fun _ c => I0 c h (fun h => ?_) fun h => ?_))
 refine P0 [] c fun _ c => ?_
 obtain rfl := sj h
 exact wp_ret (tr (Rt c () [] []))
 refine K0 (S0 (P0 [(1, 0), (3, 1)] c fun _ c => I0 c h (fun h => ?_) fun h => ?_))
 refine P0 [] c fun _ c => ?_
 obtain rfl := sj h
 exact wp_ret (tr (Rt c () [] []))
 refine K0 (P0 [] c fun _ c => ?_)
 obtain rfl := sj h
 exact wp_ret (Rt c () [] [])

theorem laws_eqInsS_ok {n : Nat} {p0 : List D.Ins} {p1 : List D.Ins} {ga0 : Option Addr} {gc1 : Nat} {ga2 : Option Addr} {gc3 : Nat} {r : Bool} (h : laws_eqInsS n p0 p1 = some r) : Con Tryz.prog 44 [L ga0 p0 gc1, L ga2 p1 gc3] [] [RO (L ga0 p0 gc1) p0, RO (L ga2 p1 gc3) p1] fun (_ : Unit) => ([.bool r], [], []) := by
 unfold laws_eqInsS at h
 refine En Tryz.func44 rfl Tryz.ntmps44 fun _ fr w c => ?_
 refine P0 [] c fun _ c => S0 (P0 [] c fun _ c => I0 c h (fun h => ?_) fun h => ?_)
 refine P0 [] c fun _ c => ?_
 obtain rfl := sj h
 exact wp_ret (tr (Rt c () [] []))
 refine K0 (S0 (P0 [] c fun _ c => Bd h fun rl1 hit1 h => ?_))
 have hk1 := h
 refine LpR (fun s1  (_ : Unit) => ([(0, L ga0 p0 gc1), (1, L ga2 p1 gc3), (5, I s1)], id, [])) (fun s  (_ : Unit) => ([], id, [])) hit1 c () (c.re [] [0, 1]) (fun s1 q1 _ _ _ c h hr1 => ?_) fun s1r _ _ _ hrl c => ?_
 refine S0 (P0 [] c fun _ c => I0 c h (fun h => ?_) fun h => ?_)
 refine K0 (S0 (wp_block (Bd h fun x1 hx1 h => Bd h fun x2 hx2 h => Bd h fun x3 hx3 h => S0 (rZ [(2, Pd.el (x1 : D.Ins)), (3, .eq (.agg #[I x1.Op, I x1.A, I x1.B, I x1.C])), (6, Pd.el (x2 : D.Ins)), (7, .eq (.agg #[I x2.Op, I x2.A, I x2.B, I x2.C])), (8, .eq (.bool x3))] [] mix c ⟨Nid c (.f 0) (kN hx1), Nld c 2 (q := x1) (atN 2), Nid c (.f 1) (kN hx2), Nld c 6 (q := x2) (atN 6), Ncl c (kN (laws_eqIns_ok hx3)) trivial Tryz.call70, trivial⟩ fun _ _ c => I0 c h (fun h => ?_) fun h => ?_))))
 refine P0 [] c fun _ c => ?_
 obtain rfl := hr1 _ (Option.some.inj h).symm
 obtain rfl := Option.some.inj hk1
 exact wp_ret (br (tr (tr (br (tr (Rt c () [] []))))))
 refine K1 (bk (tn (P1 [] c fun _ c => Nx h () (c.re [] [0, 1]))))
 refine wp_exit (te (te (be ?_)))
 obtain rfl := hr1 _ (Option.some.inj h).symm
 exact tn ⟨_, (), rfl, c.re [] [0, 1]⟩
 subst hrl
 refine P0 [] c fun _ c => ?_
 obtain rfl := sj h
 exact wp_ret (Rt c () [] [])

theorem laws_eqProgram_ok {n : Nat} {p0 : D.Program} {p1 : D.Program} {ga0 : Option Addr} {gc1 : Nat} {ga2 : Option Addr} {gc3 : Nat} {r : Bool} (h : laws_eqProgram n p0 p1 = some r) : Con Tryz.prog 13 [.agg #[I p0.W, I p0.Mem, I p0.In, L ga0 p0.Code gc1], .agg #[I p1.W, I p1.Mem, I p1.In, L ga2 p1.Code gc3]] [] [RO (L ga0 p0.Code gc1) p0.Code, RO (L ga2 p1.Code gc3) p1.Code] fun (_ : Unit) => ([.bool r], [], []) := by
 unfold laws_eqProgram at h
 refine En Tryz.func13 rfl Tryz.ntmps13 fun _ fr w c => ?_
 refine T0 (Ebx [I p0.W, I p0.Mem, I p0.In, L ga0 p0.Code gc1] c fun b1 _ _ c => ?_)
 refine Ebx [I p1.W, I p1.Mem, I p1.In, L ga2 p1.Code gc3] c fun b2 _ _ c => ?_
 refine Fp [] 1 c fun _ c => E0 (S0 (P0 [(1, 0), (3, 1)] c fun _ c => I0 c h (fun h => ?_) fun h => ?_))
 refine P0 [] c fun _ c => ?_
 obtain rfl := sj h
 exact wp_ret (tr (Rt c () [] []))
 refine K0 (S0 (P0 [(1, 0), (3, 1)] c fun _ c => I0 c h (fun h => ?_) fun h => ?_))
 refine P0 [] c fun _ c => ?_
 obtain rfl := sj h
 exact wp_ret (tr (Rt c () [] []))
 refine K0 (S0 (P0 [(1, 0), (3, 1)] c fun _ c => I0 c h (fun h => ?_) fun h => ?_))
 refine P0 [] c fun _ c => ?_
 obtain rfl := sj h
 exact wp_ret (tr (Rt c () [] []))
 refine K0 (S0 (T0 (Fp [(1, 0), (3, 1)] 4 c fun _ c => Bd h fun x1 hx1 h => Ca [] c (laws_eqInsS_ok hx1) ⟨.f 0, .f 1, trivial⟩ Tryz.call44 fun _ _ _ c => ?_)))
 refine Fp [] 1 c fun _ c => E0 (I0 c h (fun h => ?_) fun h => ?_)
 refine P0 [] c fun _ c => ?_
 obtain rfl := sj h
 exact wp_ret (tr (Rt c () [] []))
 refine K0 (P0 [] c fun _ c => ?_)
 obtain rfl := sj h
 exact wp_ret (Rt c () [] [])

theorem laws_eqTerm_laws_eqTermS_rec (n : Nat) : (∀ {p0 : D.Term} {p1 : D.Term} {ga0 : Option Addr} {gc1 : Nat} {ga2 : Option Addr} {gc3 : Nat} {r : Bool} (h : laws_eqTerm n p0 p1 = some r), Con Tryz.prog 71 [.agg #[I p0.Op, I p0.W, I p0.N, Str.val p0.Name, L ga0 p0.Kids gc1], .agg #[I p1.Op, I p1.W, I p1.N, Str.val p1.Name, L ga2 p1.Kids gc3]] [] [RO (L ga0 p0.Kids gc1) p0.Kids, RO (L ga2 p1.Kids gc3) p1.Kids] fun (_ : Unit) => ([.bool r], [], [])) ∧
    (∀ {p0 : List D.Term} {p1 : List D.Term} {ga0 : Option Addr} {gc1 : Nat} {ga2 : Option Addr} {gc3 : Nat} {r : Bool} (h : laws_eqTermS n p0 p1 = some r), Con Tryz.prog 45 [L ga0 p0 gc1, L ga2 p1 gc3] [] [RO (L ga0 p0 gc1) p0, RO (L ga2 p1 gc3) p1] fun (_ : Unit) => ([.bool r], [], [])) := by
 induction n with
 | zero => exact ⟨by intro p0 p1 ga0 gc1 ga2 gc3 r h; simp [laws_eqTerm] at h, by intro p0 p1 ga0 gc1 ga2 gc3 r h; simp [laws_eqTermS] at h⟩
 | succ n ih =>
 obtain ⟨ih0, ih1⟩ := ih
 refine ⟨?_, ?_⟩
 · intro p0 p1 ga0 gc1 ga2 gc3 r h
   rw [laws_eqTerm] at h
   refine En Tryz.func71 rfl Tryz.ntmps71 fun _ fr w c => ?_
   refine T0 (Ebx [I p0.Op, I p0.W, I p0.N, Str.val p0.Name, L ga0 p0.Kids gc1] c fun b1 _ _ c => ?_)
   refine Ebx [I p1.Op, I p1.W, I p1.N, Str.val p1.Name, L ga2 p1.Kids gc3] c fun b2 _ _ c => ?_
   refine Fp [] 1 c fun _ c => E0 (S0 (P0 [(1, 0), (3, 1)] c fun _ c => I0 c h (fun h => ?_) fun h => ?_))
   refine P0 [] c fun _ c => ?_
   obtain rfl := sj h
   exact wp_ret (tr (Rt c () [] []))
   refine K0 (S0 (P0 [(1, 0), (3, 1)] c fun _ c => I0 c h (fun h => ?_) fun h => ?_))
   refine P0 [] c fun _ c => ?_
   obtain rfl := sj h
   exact wp_ret (tr (Rt c () [] []))
   refine K0 (S0 (P0 [(1, 0), (3, 1)] c fun _ c => I0 c h (fun h => ?_) fun h => ?_))
   refine P0 [] c fun _ c => ?_
   obtain rfl := sj h
   exact wp_ret (tr (Rt c () [] []))
   refine K0 (S0 (P0 [(1, 0), (3, 1)] c fun _ c => I0 c h (fun h => ?_) fun h => ?_))
   refine P0 [] c fun _ c => ?_
   obtain rfl := sj h
   exact wp_ret (tr (Rt c () [] []))
   refine K0 (S0 (T0 (Fp [(1, 0), (3, 1)] 4 c fun _ c => Bd h fun x1 hx1 h => Ca [] c (ih1 hx1) ⟨.f 0, .f 1, trivial⟩ Tryz.call45 fun _ _ _ c => ?_)))
   refine Fp [] 1 c fun _ c => E0 (I0 c h (fun h => ?_) fun h => ?_)
   refine P0 [] c fun _ c => ?_
   obtain rfl := sj h
   exact wp_ret (tr (Rt c () [] []))
   refine K0 (P0 [] c fun _ c => ?_)
   obtain rfl := sj h
   exact wp_ret (Rt c () [] [])
 · intro p0 p1 ga0 gc1 ga2 gc3 r h
   rw [laws_eqTermS] at h
   refine En Tryz.func45 rfl Tryz.ntmps45 fun _ fr w c => ?_
   refine P0 [] c fun _ c => S0 (P0 [] c fun _ c => I0 c h (fun h => ?_) fun h => ?_)
   refine P0 [] c fun _ c => ?_
   obtain rfl := sj h
   exact wp_ret (tr (Rt c () [] []))
   refine K0 (S0 (P0 [] c fun _ c => Bd h fun rl1 hit1 h => ?_))
   have hk1 := h
   refine LpR (fun s1  (_ : Unit) => ([(0, L ga0 p0 gc1), (1, L ga2 p1 gc3), (5, I s1)], id, [])) (fun s  (_ : Unit) => ([], id, [])) hit1 c () (c.re [] [0, 1]) (fun s1 q1 _ _ _ c h hr1 => ?_) fun s1r _ _ _ hrl c => ?_
   refine S0 (P0 [] c fun _ c => I0 c h (fun h => ?_) fun h => ?_)
   refine K0 (S0 (wp_block (Bd h fun x1 hx1 h => ?_)))
   obtain ⟨ep1, u1, c⟩ := c.elp (.f 0) hx1
   obtain ⟨a1, c1, rfl, c⟩ := c.o_Term 3
   refine Bd h fun x2 hx2 h => ?_
   obtain ⟨ep2, u2, c⟩ := c.elp (.f 1) hx2
   obtain ⟨a2, c2, rfl, c⟩ := c.o_Term 6
   refine Bd h fun x3 hx3 h => S0 (rZ [(2, .eq (.pointer (some ep1))), (3, .eq (.agg #[I x1.Op, I x1.W, I x1.N, Str.val x1.Name, L a1 x1.Kids c1])), (6, .eq (.pointer (some ep2))), (7, .eq (.agg #[I x2.Op, I x2.W, I x2.N, Str.val x2.Name, L a2 x2.Kids c2])), (8, .eq (.bool x3))] [] mix c ⟨Nie c 2, Nle c 2, Nie c 5, Nle c 5, Ncl c (kN (ih0 hx3)) ⟨.f 4, .f 7, trivial⟩ Tryz.call71, trivial⟩ fun _ _ c => I0 c h (fun h => ?_) fun h => ?_)
   refine P0 [] c fun _ c => ?_
   obtain rfl := hr1 _ (Option.some.inj h).symm
   obtain rfl := Option.some.inj hk1
   exact wp_ret (br (tr (tr (br (tr (Rt c () [] []))))))
   refine K1 (bk (tn (P1 [] c fun _ c => Nx h () (c.re [] [0, 1]))))
   refine wp_exit (te (te (be ?_)))
   obtain rfl := hr1 _ (Option.some.inj h).symm
   exact tn ⟨_, (), rfl, c.re [] [0, 1]⟩
   subst hrl
   refine P0 [] c fun _ c => ?_
   obtain rfl := sj h
   exact wp_ret (Rt c () [] [])
theorem laws_eqTerm_ok {n : Nat} : ∀ {p0 : D.Term} {p1 : D.Term} {ga0 : Option Addr} {gc1 : Nat} {ga2 : Option Addr} {gc3 : Nat} {r : Bool} (h : laws_eqTerm n p0 p1 = some r), Con Tryz.prog 71 [.agg #[I p0.Op, I p0.W, I p0.N, Str.val p0.Name, L ga0 p0.Kids gc1], .agg #[I p1.Op, I p1.W, I p1.N, Str.val p1.Name, L ga2 p1.Kids gc3]] [] [RO (L ga0 p0.Kids gc1) p0.Kids, RO (L ga2 p1.Kids gc3) p1.Kids] fun (_ : Unit) => ([.bool r], [], []) := (laws_eqTerm_laws_eqTermS_rec n).1
theorem laws_eqTermS_ok {n : Nat} : ∀ {p0 : List D.Term} {p1 : List D.Term} {ga0 : Option Addr} {gc1 : Nat} {ga2 : Option Addr} {gc3 : Nat} {r : Bool} (h : laws_eqTermS n p0 p1 = some r), Con Tryz.prog 45 [L ga0 p0 gc1, L ga2 p1 gc3] [] [RO (L ga0 p0 gc1) p0, RO (L ga2 p1 gc3) p1] fun (_ : Unit) => ([.bool r], [], []) := (laws_eqTerm_laws_eqTermS_rec n).2

theorem laws_eqPath_ok {n : Nat} {p0 : D.Path} {p1 : D.Path} {ga0 : Option Addr} {gc1 : Nat} {ga2 : Option Addr} {gc3 : Nat} {ga4 : Option Addr} {gc5 : Nat} {ga6 : Option Addr} {gc7 : Nat} {ga8 : Option Addr} {gc9 : Nat} {ga10 : Option Addr} {gc11 : Nat} {ga12 : Option Addr} {gc13 : Nat} {ga14 : Option Addr} {gc15 : Nat} {ga16 : Option Addr} {gc17 : Nat} {ga18 : Option Addr} {gc19 : Nat} {ga20 : Option Addr} {gc21 : Nat} {ga22 : Option Addr} {gc23 : Nat} {r : Bool} (h : laws_eqPath n p0 p1 = some r) : Con Tryz.prog 14 [.agg #[I p0.Pc, L ga0 p0.Regs gc1, L ga2 p0.Mem gc3, L ga4 p0.Stack gc5, I p0.In, L ga6 p0.Out gc7, I p0.Code, I p0.Steps, L ga8 p0.Cond gc9, L ga10 p0.Turns gc11], .agg #[I p1.Pc, L ga12 p1.Regs gc13, L ga14 p1.Mem gc15, L ga16 p1.Stack gc17, I p1.In, L ga18 p1.Out gc19, I p1.Code, I p1.Steps, L ga20 p1.Cond gc21, L ga22 p1.Turns gc23]] [] [RO (L ga0 p0.Regs gc1) p0.Regs, RO (L ga2 p0.Mem gc3) p0.Mem, RO (L ga4 p0.Stack gc5) p0.Stack, RO (L ga6 p0.Out gc7) p0.Out, RO (L ga8 p0.Cond gc9) p0.Cond, RO (L ga10 p0.Turns gc11) p0.Turns, RO (L ga12 p1.Regs gc13) p1.Regs, RO (L ga14 p1.Mem gc15) p1.Mem, RO (L ga16 p1.Stack gc17) p1.Stack, RO (L ga18 p1.Out gc19) p1.Out, RO (L ga20 p1.Cond gc21) p1.Cond, RO (L ga22 p1.Turns gc23) p1.Turns] fun (_ : Unit) => ([.bool r], [], []) := by
 unfold laws_eqPath at h
 refine En Tryz.func14 rfl Tryz.ntmps14 fun _ fr w c => ?_
 refine T0 (Ebx [I p0.Pc, L ga0 p0.Regs gc1, L ga2 p0.Mem gc3, L ga4 p0.Stack gc5, I p0.In, L ga6 p0.Out gc7, I p0.Code, I p0.Steps, L ga8 p0.Cond gc9, L ga10 p0.Turns gc11] c fun b1 _ _ c => ?_)
 refine Ebx [I p1.Pc, L ga12 p1.Regs gc13, L ga14 p1.Mem gc15, L ga16 p1.Stack gc17, I p1.In, L ga18 p1.Out gc19, I p1.Code, I p1.Steps, L ga20 p1.Cond gc21, L ga22 p1.Turns gc23] c fun b2 _ _ c => ?_
 refine Fp [] 1 c fun _ c => E0 (S0 (P0 [(1, 0), (3, 1)] c fun _ c => I0 c h (fun h => ?_) fun h => ?_))
 refine P0 [] c fun _ c => ?_
 obtain rfl := sj h
 exact wp_ret (tr (Rt c () [] []))
 refine K0 (S0 (T0 (Fp [(1, 0), (3, 1)] 4 c fun _ c => Bd h fun x1 hx1 h => Ca [] c (laws_eqTermS_ok hx1) ⟨.f 0, .f 6, trivial⟩ Tryz.call45 fun _ _ _ c => ?_)))
 refine Fp [] 1 c fun _ c => E0 (I0 c h (fun h => ?_) fun h => ?_)
 refine P0 [] c fun _ c => ?_
 obtain rfl := sj h
 exact wp_ret (tr (Rt c () [] []))
 refine K0 (S0 (T0 (Fp [(1, 0), (3, 1)] 4 c fun _ c => Bd h fun x2 hx2 h => Ca [] c (laws_eqTermS_ok hx2) ⟨.f 1, .f 7, trivial⟩ Tryz.call45 fun _ _ _ c => ?_)))
 refine Fp [] 1 c fun _ c => E0 (I0 c h (fun h => ?_) fun h => ?_)
 refine P0 [] c fun _ c => ?_
 obtain rfl := sj h
 exact wp_ret (tr (Rt c () [] []))
 refine K0 (S0 (T0 (Fp [(1, 0), (3, 1)] 4 c fun _ c => Bd h fun x3 hx3 h => Ca [] c (laws_eqIntS_ok hx3) ⟨.f 2, .f 8, trivial⟩ Tryz.call15 fun _ _ _ c => ?_)))
 refine Fp [] 1 c fun _ c => E0 (I0 c h (fun h => ?_) fun h => ?_)
 refine P0 [] c fun _ c => ?_
 obtain rfl := sj h
 exact wp_ret (tr (Rt c () [] []))
 refine K0 (S0 (P0 [(1, 0), (3, 1)] c fun _ c => I0 c h (fun h => ?_) fun h => ?_))
 refine P0 [] c fun _ c => ?_
 obtain rfl := sj h
 exact wp_ret (tr (Rt c () [] []))
 refine K0 (S0 (T0 (Fp [(1, 0), (3, 1)] 4 c fun _ c => ?_)))
 replace c := c.gm [BX b1 38 [I p0.Pc, L ga0 p0.Regs gc1, L ga2 p0.Mem gc3, L ga4 p0.Stack gc5, I p0.In, L ga6 p0.Out gc7, I p0.Code, I p0.Steps, L ga8 p0.Cond gc9, L ga10 p0.Turns gc11], BX b2 38 [I p1.Pc, L ga12 p1.Regs gc13, L ga14 p1.Mem gc15, L ga16 p1.Stack gc17, I p1.In, L ga18 p1.Out gc19, I p1.Code, I p1.Steps, L ga20 p1.Cond gc21, L ga22 p1.Turns gc23]]
 refine Bd h fun x4 hx4 h => Ca [] c (laws_eqTermS_ok hx4) ⟨.f 3, .f 9, trivial⟩ Tryz.call45 fun _ _ _ c => ?_
 refine Fp [] 1 c fun _ c => E0 (I0 c h (fun h => ?_) fun h => ?_)
 refine P0 [] c fun _ c => ?_
 obtain rfl := sj h
 exact wp_ret (tr (Rt c () [] []))
 refine K0 (S0 (P0 [(1, 0), (3, 1)] c fun _ c => I0 c h (fun h => ?_) fun h => ?_))
 refine P0 [] c fun _ c => ?_
 obtain rfl := sj h
 exact wp_ret (tr (Rt c () [] []))
 refine K0 (S0 (P0 [(1, 0), (3, 1)] c fun _ c => I0 c h (fun h => ?_) fun h => ?_))
 refine P0 [] c fun _ c => ?_
 obtain rfl := sj h
 exact wp_ret (tr (Rt c () [] []))
 refine K0 (S0 (T0 (Fp [(1, 0), (3, 1)] 4 c fun _ c => Bd h fun x5 hx5 h => Ca [] c (laws_eqTermS_ok hx5) ⟨.f 4, .f 10, trivial⟩ Tryz.call45 fun _ _ _ c => ?_)))
 refine Fp [] 1 c fun _ c => E0 (I0 c h (fun h => ?_) fun h => ?_)
 refine P0 [] c fun _ c => ?_
 obtain rfl := sj h
 exact wp_ret (tr (Rt c () [] []))
 refine K0 (S0 (T0 (Fp [(1, 0), (3, 1)] 4 c fun _ c => Bd h fun x6 hx6 h => Ca [] c (laws_eqIntS_ok hx6) ⟨.f 5, .f 11, trivial⟩ Tryz.call15 fun _ _ _ c => ?_)))
 refine Fp [] 1 c fun _ c => E0 (I0 c h (fun h => ?_) fun h => ?_)
 refine P0 [] c fun _ c => ?_
 obtain rfl := sj h
 exact wp_ret (tr (Rt c () [] []))
 refine K0 (P0 [] c fun _ c => ?_)
 obtain rfl := sj h
 exact wp_ret (Rt c () [] [])

theorem laws_eqPathS_ok {n : Nat} {p0 : List D.Path} {p1 : List D.Path} {ga0 : Option Addr} {gc1 : Nat} {ga2 : Option Addr} {gc3 : Nat} {r : Bool} (h : laws_eqPathS n p0 p1 = some r) : Con Tryz.prog 20 [L ga0 p0 gc1, L ga2 p1 gc3] [] [RO (L ga0 p0 gc1) p0, RO (L ga2 p1 gc3) p1] fun (_ : Unit) => ([.bool r], [], []) := by
 unfold laws_eqPathS at h
 refine En Tryz.func20 rfl Tryz.ntmps20 fun _ fr w c => ?_
 refine P0 [] c fun _ c => S0 (P0 [] c fun _ c => I0 c h (fun h => ?_) fun h => ?_)
 refine P0 [] c fun _ c => ?_
 obtain rfl := sj h
 exact wp_ret (tr (Rt c () [] []))
 refine K0 (S0 (P0 [] c fun _ c => Bd h fun rl1 hit1 h => ?_))
 have hk1 := h
 refine LpR (fun s1  (_ : Unit) => ([(0, L ga0 p0 gc1), (1, L ga2 p1 gc3), (5, I s1)], id, [])) (fun s  (_ : Unit) => ([], id, [])) hit1 c () (c.re [] [0, 1]) (fun s1 q1 _ _ _ c h hr1 => ?_) fun s1r _ _ _ hrl c => ?_
 refine S0 (P0 [] c fun _ c => I0 c h (fun h => ?_) fun h => ?_)
 refine K0 (S0 (wp_block (Bd h fun x1 hx1 h => ?_)))
 obtain ⟨ep1, u1, c⟩ := c.elp (.f 0) hx1
 obtain ⟨a1, c1, a2, c2, a3, c3, a4, c4, a5, c5, a6, c6, rfl, c⟩ := c.o_Path 3
 refine Bd h fun x2 hx2 h => ?_
 obtain ⟨ep2, u2, c⟩ := c.elp (.f 1) hx2
 obtain ⟨a7, c7, a8, c8, a9, c9, a10, c10, a11, c11, a12, c12, rfl, c⟩ := c.o_Path 11
 refine Bd h fun x3 hx3 h => S0 (rZ [(2, .eq (.pointer (some ep1))), (3, .eq (.agg #[I x1.Pc, L a1 x1.Regs c1, L a2 x1.Mem c2, L a3 x1.Stack c3, I x1.In, L a4 x1.Out c4, I x1.Code, I x1.Steps, L a5 x1.Cond c5, L a6 x1.Turns c6])), (6, .eq (.pointer (some ep2))), (7, .eq (.agg #[I x2.Pc, L a7 x2.Regs c7, L a8 x2.Mem c8, L a9 x2.Stack c9, I x2.In, L a10 x2.Out c10, I x2.Code, I x2.Steps, L a11 x2.Cond c11, L a12 x2.Turns c12])), (8, .eq (.bool x3))] [] mix c ⟨Nie c 2, Nle c 2, Nie c 10, Nle c 10, Ncl c (kN (laws_eqPath_ok hx3)) ⟨.f 4, .f 5, .f 6, .f 7, .f 8, .f 9, .f 12, .f 13, .f 14, .f 15, .f 16, .f 17, trivial⟩ Tryz.call14, trivial⟩ fun _ _ c => I0 c h (fun h => ?_) fun h => ?_)
 refine P0 [] c fun _ c => ?_
 obtain rfl := hr1 _ (Option.some.inj h).symm
 obtain rfl := Option.some.inj hk1
 exact wp_ret (br (tr (tr (br (tr (Rt c () [] []))))))
 refine K1 (bk (tn (P1 [] c fun _ c => Nx h () (c.re [] [0, 1]))))
 refine wp_exit (te (te (be ?_)))
 obtain rfl := hr1 _ (Option.some.inj h).symm
 exact tn ⟨_, (), rfl, c.re [] [0, 1]⟩
 subst hrl
 refine P0 [] c fun _ c => ?_
 obtain rfl := sj h
 exact wp_ret (Rt c () [] [])

theorem laws_markInsS_ok {n : Nat} {p0 : List D.Ins} {p1 : Int} {ga0 : Option Addr} {gc1 : Nat} {gn2 : Nat} {r : Int × (List D.Ins)} (h : laws_markInsS n p0 p1 = some r) : Con Tryz.prog 46 [.slice ga0 gn2 gc1, I p1] [sl91 (.slice ga0 gn2 gc1) p0] [] fun (_ : Unit) => ([I r.1], [sl91 (.slice ga0 gn2 gc1) r.2], []) := by
 unfold laws_markInsS at h
 refine En Tryz.func46 rfl Tryz.ntmps46 fun _ fr w c => ?_
 obtain ⟨rfl, c⟩ := c.relen 0
 refine P0 [] c fun _ c => S0 (P0 [] c fun _ c => Bd h fun rl1 hit1 h => Lp (fun s1  (_ : Unit) => ([(0, L ga0 p0 gc1), (1, I s1.1), (5, I s1.2.1)], fun Γ => Γ.set 0 (sl91 (L ga0 p0 gc1) s1.2.2), [])) (fun  (_ : Unit) => ([(1, I rl1.1)], fun Γ => Γ.set 0 (sl91 (L ga0 p0 gc1) rl1.2), [])) hit1 c () (c.re [0] []) (fun s1 q1 _ _ _ c h hr1 => ?_) fun _ _ _ c => ?_)
 refine S0 (P0 [] c fun _ c => I0 c h (fun h => ?_) fun h => ?_)
 refine K0 (S0 (wp_block (T0 (Fp [] 3 c fun _ c => Bd h fun x1 hx1 h => Bd h fun x2 hx2 h => Esf 0 (I s1.1) c hx1 hx2 fun _ _ _ _ c => ?_))))
 refine E0 (P0 [] c fun _ c => T0 (Fp [] 3 c fun _ c => Bd h fun x3 hx3 h => Bd h fun x4 hx4 h => Esf 0 (I (w64 (s1.1 + 1))) c hx3 hx4 fun _ _ _ _ c => ?_))
 refine E0 (P0 [] c fun _ c => T0 (Fp [] 3 c fun _ c => Bd h fun x5 hx5 h => Bd h fun x6 hx6 h => Esf 0 (I (w64 ((w64 (s1.1 + 1)) + 1))) c hx5 hx6 fun _ _ _ _ c => ?_))
 refine E0 (P0 [] c fun _ c => T0 (Fp [] 3 c fun _ c => Bd h fun x7 hx7 h => Bd h fun x8 hx8 h => Esf 0 (I (w64 ((w64 ((w64 (s1.1 + 1)) + 1)) + 1))) c hx7 hx8 fun _ _ _ _ c => ?_))
 refine E0 (Tq (P1 [] c fun _ c => bk (tn (P1 [] c fun _ c => Nx h () (c.re [0] [])))))
 refine wp_exit (te (te (be ?_)))
 obtain rfl := hr1 _ (Option.some.inj h).symm
 exact tn ⟨(), c.re [0] []⟩
 refine P0 [] c fun _ c => ?_
 cases h
 exact wp_ret (Rt c () [0] [])

theorem laws_markProgram_ok {n : Nat} {p0 : D.Program} {p1 : Int} {ga0 : Option Addr} {gc1 : Nat} {gn2 : Nat} {r : Int × D.Program} (h : laws_markProgram n p0 p1 = some r) : Con Tryz.prog 21 [.agg #[I p0.W, I p0.Mem, I p0.In, .slice ga0 gn2 gc1], I p1] [sl91 (.slice ga0 gn2 gc1) p0.Code] [] fun (_ : Unit) => ([I r.1], [sl91 (.slice ga0 gn2 gc1) r.2.Code], []) := by
 unfold laws_markProgram at h
 refine En Tryz.func21 rfl Tryz.ntmps21 fun _ fr w c => ?_
 obtain ⟨rfl, c⟩ := c.relen 0
 refine T0 (Ebx [I p0.W, I p0.Mem, I p0.In, L ga0 p0.Code gc1] c fun b1 _ _ c => ?_)
 refine Fp [] 1 c fun _ c => E0 (T0 (Fp [(1, 0)] 3 c fun _ c => Bd h fun x1 hx1 h => Ca [0] c (laws_markInsS_ok hx1) trivial Tryz.call46 fun _ _ _ c => ?_))
 refine Fp [] 1 c fun _ c => E0 (P0 [] c fun _ c => ?_)
 cases h
 exact wp_ret (Rt c () [1] [])

theorem laws_markText_ok {n : Nat} {p0 : Int} {r : Str} (h : laws_markText n p0 = some r) : Con Tryz.prog 72 [I p0] [] [] fun (_ : Unit) => ([Str.val r], [], []) := by
 unfold laws_markText at h
 refine En Tryz.func72 rfl Tryz.ntmps72 fun _ fr w c => ?_
 refine P0 [] c fun _ c => S0 (P0 [] c fun _ c => I0 c h (fun h => ?_) fun h => ?_)
 refine P0 [] c fun _ c => ?_
 cases h
 exact wp_ret (tr (Rt c () [] []))
 refine K0 (P0 [] c fun _ c => Bd h fun rl1 hit1 h => S0 (Lp (fun s1  (_ : Unit) => ([(0, I s1.1), (3, Str.val s1.2)], id, [])) (fun  (_ : Unit) => ([(3, Str.val rl1)], id, [])) hit1 c () (c.re [] []) (fun s1 q1 _ _ _ c h hr1 => ?_) fun _ _ _ c => ?_))
 refine S0 (P0 [] c fun _ c => I0 c h (fun h => ?_) fun h => ?_)
 refine K0 (wp_block (T0 (Fp [] 1 c fun _ c => Bd h fun x1 hx1 h => Erem c hx1 fun _ c => ?_)))
 refine Fp [] 2 c fun _ c => Elt 5 ([(Byt.mk (IntKind.u8.wrap (w64 (48 + x1))))] : List Byt) c fun a1 c1 _ _ c => ?_
 refine Ebs c (.g 0) (fun _ c => ?_) Tryz.underlying111
 refine Fp [] 1 c fun _ c => Bd h fun x2 hx2 h => Ecat c hx2 fun _ c => ?_
 refine Fp [] 1 c fun _ c => E0 (T1 (Fp [] 1 c fun _ c => Bd h fun x3 hx3 h => Equo c hx3 fun _ c => ?_))
 refine Fp [] 1 c fun _ c => E1 (bk (tn (Nx h () (c.re [] []))))
 refine wp_exit (te (te (be ?_)))
 obtain rfl := hr1 _ (Option.some.inj h).symm
 exact tn ⟨(), c.re [] []⟩
 refine T0 (Fp [] 1 c fun _ c => Bd h fun x4 hx4 h => Ecat c hx4 fun _ c => ?_)
 refine Fp [] 1 c fun _ c => E0 ?_
 obtain rfl := sj h
 exact wp_ret (Rt c () [] [])

theorem laws_markTermS_ok {n : Nat} : ∀ {p0 : List D.Term} {p1 : Int} {ga0 : Option Addr} {gc1 : Nat} {gn2 : Nat} {r : Int × (List D.Term)} (h : laws_markTermS n p0 p1 = some r), Con Tryz.prog 47 [.slice ga0 gn2 gc1, I p1] [OD (ownT 75) 75 (.slice ga0 gn2 gc1) p0] [] fun (_ : Unit) => ([I r.1], [OD (ownT 75) 75 (.slice ga0 gn2 gc1) r.2], []) := by
 induction n with
 | zero => intro p0 p1 ga0 gc1 gn2 r h; simp [laws_markTermS] at h
 | succ n ih =>
 intro p0 p1 ga0 gc1 gn2 r h
 rw [laws_markTermS] at h
 refine En Tryz.func47 rfl Tryz.ntmps47 fun _ fr w c => ?_
 obtain ⟨rfl, c⟩ := c.releno 0
 refine P0 [] c fun _ c => S0 (P0 [] c fun _ c => Bd h fun rl1 hit1 h => Lp (fun s1  (_ : Unit) => ([(0, L ga0 p0 gc1), (1, I s1.1), (5, I s1.2.1)], fun Γ => Γ.set 0 (OD (ownT 75) 75 (L ga0 p0 gc1) s1.2.2), [])) (fun  (_ : Unit) => ([(1, I rl1.1)], fun Γ => Γ.set 0 (OD (ownT 75) 75 (L ga0 p0 gc1) rl1.2), [])) hit1 c () (c.re [0] []) (fun s1 q1 _ _ _ c h hr1 => ?_) fun _ _ _ c => ?_)
 refine S0 (P0 [] c fun _ c => I0 c h (fun h => ?_) fun h => ?_)
 refine K0 (S0 (wp_block (T0 (Fp [] 3 c fun _ c => Bd h fun x1 hx1 h => ?_))))
 obtain ⟨a1, c1, c⟩ := c.fo_Term 0 hx1
 refine Eohs 0 (I s1.1) (Rw.Term.mk s1.1 x1.W x1.N x1.Name ⟨a1, List.length x1.Kids, c1⟩) c fun _ _ _ _ c => ?_
 refine E0 (P0 [] c fun _ c => T0 (Fp [] 3 c fun _ c => Eohs 1 (I (w64 (s1.1 + 1))) (Rw.Term.mk s1.1 (w64 (s1.1 + 1)) x1.N x1.Name ⟨a1, List.length x1.Kids, c1⟩) c fun _ _ _ _ c => ?_))
 refine E0 (P0 [] c fun _ c => T0 (Fp [] 3 c fun _ c => ?_))
 replace c := c.gm [OD (ownT 75) 75 (L a1 x1.Kids c1) x1.Kids, OH (ownT 75) 75 (L ga0 p0 gc1) s1.2.1 (Rw.Term.mk s1.1 (w64 (s1.1 + 1)) x1.N x1.Name ⟨a1, List.length x1.Kids, c1⟩) s1.2.2]
 refine Eohs 1 (I (w64 ((w64 (s1.1 + 1)) + 1))) (Rw.Term.mk s1.1 (w64 (s1.1 + 1)) (w64 ((w64 (s1.1 + 1)) + 1)) x1.Name ⟨a1, List.length x1.Kids, c1⟩) c fun _ _ _ _ c => ?_
 refine E0 (P0 [] c fun _ c => T0 (Fp [] 3 c fun _ c => Bd h fun x2 hx2 h => Ca [] c (laws_markText_ok hx2) trivial Tryz.call72 fun _ _ _ c => ?_))
 refine Eohs 1 (Str.val x2) (Rw.Term.mk s1.1 (w64 (s1.1 + 1)) (w64 ((w64 (s1.1 + 1)) + 1)) x2 ⟨a1, List.length x1.Kids, c1⟩) c fun _ _ _ _ c => ?_
 refine E0 (P0 [] c fun _ c => T1 (Fp [] 2 c fun _ c => ?_))
 replace c := c.gm [OD (ownT 75) 75 (L a1 x1.Kids c1) x1.Kids, OH (ownT 75) 75 (L ga0 p0 gc1) s1.2.1 (Rw.Term.mk s1.1 (w64 (s1.1 + 1)) (w64 ((w64 (s1.1 + 1)) + 1)) x2 ⟨a1, List.length x1.Kids, c1⟩) s1.2.2]
 refine Eohl 1 (L a1 x1.Kids c1) c fun _ _ _ c => ?_
 refine Fp [] 1 c fun _ c => Bd h fun x3 hx3 h => Ca [0] c (ih hx3) trivial Tryz.call47 fun _ _ _ c => ?_
 refine Fp [] 1 c fun _ c => E1 (bk (tn (P1 [] c fun _ c => Bd h fun x4 hx4 h => ?_)))
 replace c := c.un_Term (E := 75) (v := L ga0 p0 gc1) (y := (D.Term.mk s1.1 (w64 (s1.1 + 1)) (w64 ((w64 (s1.1 + 1)) + 1)) x2 x3.2)) (b := a1) (m := List.length x1.Kids) (cp := c1) 0 1 hx4
 replace c := c.gm [OD (ownT 75) 75 (L ga0 p0 gc1) x4]
 exact Nx h () (c.re [0] [])
 refine wp_exit (te (te (be ?_)))
 obtain rfl := hr1 _ (Option.some.inj h).symm
 exact tn ⟨(), c.re [0] []⟩
 refine P0 [] c fun _ c => ?_
 cases h
 exact wp_ret (Rt c () [0] [])

theorem laws_markIntS_ok {n : Nat} {p0 : List Int} {p1 : Int} {ga0 : Option Addr} {gc1 : Nat} {gn2 : Nat} {r : Int × (List Int)} (h : laws_markIntS n p0 p1 = some r) : Con Tryz.prog 23 [.slice ga0 gn2 gc1, I p1] [sl3 (.slice ga0 gn2 gc1) p0] [] fun (_ : Unit) => ([I r.1], [sl3 (.slice ga0 gn2 gc1) r.2], []) := by
 unfold laws_markIntS at h
 refine En Tryz.func23 rfl Tryz.ntmps23 fun _ fr w c => ?_
 obtain ⟨rfl, c⟩ := c.relen 0
 refine P0 [] c fun _ c => S0 (P0 [] c fun _ c => Bd h fun rl1 hit1 h => Lp (fun s1  (_ : Unit) => ([(0, L ga0 p0 gc1), (1, I s1.1), (5, I s1.2.1)], fun Γ => Γ.set 0 (sl3 (L ga0 p0 gc1) s1.2.2), [])) (fun  (_ : Unit) => ([(1, I rl1.1)], fun Γ => Γ.set 0 (sl3 (L ga0 p0 gc1) rl1.2), [])) hit1 c () (c.re [0] []) (fun s1 q1 _ _ _ c h hr1 => ?_) fun _ _ _ c => ?_)
 refine S0 (P0 [] c fun _ c => I0 c h (fun h => ?_) fun h => ?_)
 refine K0 (S0 (wp_block (T0 (Fp [] 3 c fun _ c => Bd h fun x1 hx1 h => Eset 0 c hx1 fun _ _ _ c => ?_))))
 refine E0 (Tq (P1 [] c fun _ c => bk (tn (P1 [] c fun _ c => Nx h () (c.re [0] [])))))
 refine wp_exit (te (te (be ?_)))
 obtain rfl := hr1 _ (Option.some.inj h).symm
 exact tn ⟨(), c.re [0] []⟩
 refine P0 [] c fun _ c => ?_
 cases h
 exact wp_ret (Rt c () [0] [])

theorem laws_markPathS_ok {n : Nat} {p0 : List D.Path} {p1 : Int} {ga0 : Option Addr} {gc1 : Nat} {gn2 : Nat} {r : Int × (List D.Path)} (h : laws_markPathS n p0 p1 = some r) : Con Tryz.prog 22 [.slice ga0 gn2 gc1, I p1] [OD (ownP 75 3) 38 (.slice ga0 gn2 gc1) p0] [] fun (_ : Unit) => ([I r.1], [OD (ownP 75 3) 38 (.slice ga0 gn2 gc1) r.2], []) := by
 unfold laws_markPathS at h
 refine En Tryz.func22 rfl Tryz.ntmps22 fun _ fr w c => ?_
 obtain ⟨rfl, c⟩ := c.releno 0
 refine P0 [] c fun _ c => S0 (P0 [] c fun _ c => Bd h fun rl1 hit1 h => Lp (fun s1  (_ : Unit) => ([(0, L ga0 p0 gc1), (1, I s1.1), (5, I s1.2.1)], fun Γ => Γ.set 0 (OD (ownP 75 3) 38 (L ga0 p0 gc1) s1.2.2), [])) (fun  (_ : Unit) => ([(1, I rl1.1)], fun Γ => Γ.set 0 (OD (ownP 75 3) 38 (L ga0 p0 gc1) rl1.2), [])) hit1 c () (c.re [0] []) (fun s1 q1 _ _ _ c h hr1 => ?_) fun _ _ _ c => ?_)
 refine S0 (P0 [] c fun _ c => I0 c h (fun h => ?_) fun h => ?_)
 refine K0 (S0 (wp_block (T0 (Fp [] 3 c fun _ c => Bd h fun x1 hx1 h => ?_))))
 obtain ⟨a1, c1, a2, c2, a3, c3, a4, c4, a5, c5, a6, c6, c⟩ := c.fo_Path 0 hx1
 refine Eohs 0 (I s1.1) (Rw.Path.mk s1.1 ⟨a1, List.length x1.Regs, c1⟩ ⟨a2, List.length x1.Mem, c2⟩ ⟨a3, List.length x1.Stack, c3⟩ x1.In ⟨a4, List.length x1.Out, c4⟩ x1.Code x1.Steps ⟨a5, List.length x1.Cond, c5⟩ ⟨a6, List.length x1.Turns, c6⟩) c fun _ _ _ _ c => ?_
 refine E0 (P0 [] c fun _ c => T0 (Fp [] 2 c fun _ c => ?_))
 replace c := c.gm [OD (ownT 75) 75 (L a1 x1.Regs c1) x1.Regs, OD (ownT 75) 75 (L a2 x1.Mem c2) x1.Mem, sl3 (L a3 x1.Stack c3) x1.Stack, OD (ownT 75) 75 (L a4 x1.Out c4) x1.Out, OD (ownT 75) 75 (L a5 x1.Cond c5) x1.Cond, sl3 (L a6 x1.Turns c6) x1.Turns, OH (ownP 75 3) 38 (L ga0 p0 gc1) s1.2.1 (Rw.Path.mk s1.1 ⟨a1, List.length x1.Regs, c1⟩ ⟨a2, List.length x1.Mem, c2⟩ ⟨a3, List.length x1.Stack, c3⟩ x1.In ⟨a4, List.length x1.Out, c4⟩ x1.Code x1.Steps ⟨a5, List.length x1.Cond, c5⟩ ⟨a6, List.length x1.Turns, c6⟩) s1.2.2]
 refine Eohl 6 (L a1 x1.Regs c1) c fun _ _ _ c => ?_
 refine Fp [] 1 c fun _ c => ?_
 replace c := c.gm [OD (ownT 75) 75 (L a1 x1.Regs c1) x1.Regs, OD (ownT 75) 75 (L a2 x1.Mem c2) x1.Mem, sl3 (L a3 x1.Stack c3) x1.Stack, OD (ownT 75) 75 (L a4 x1.Out c4) x1.Out, OD (ownT 75) 75 (L a5 x1.Cond c5) x1.Cond, sl3 (L a6 x1.Turns c6) x1.Turns, OH (ownP 75 3) 38 (L ga0 p0 gc1) s1.2.1 (Rw.Path.mk s1.1 ⟨a1, List.length x1.Regs, c1⟩ ⟨a2, List.length x1.Mem, c2⟩ ⟨a3, List.length x1.Stack, c3⟩ x1.In ⟨a4, List.length x1.Out, c4⟩ x1.Code x1.Steps ⟨a5, List.length x1.Cond, c5⟩ ⟨a6, List.length x1.Turns, c6⟩) s1.2.2]
 refine Bd h fun x2 hx2 h => Ca [0] c (laws_markTermS_ok hx2) trivial Tryz.call47 fun _ _ _ c => ?_
 refine Fp [] 1 c fun _ c => E0 (T0 (Fp [] 2 c fun _ c => Eohl 5 (L a2 x1.Mem c2) c fun _ _ _ c => ?_))
 refine Fp [] 1 c fun _ c => ?_
 replace c := c.gm [OD (ownT 75) 75 (L a2 x1.Mem c2) x1.Mem, sl3 (L a3 x1.Stack c3) x1.Stack, OD (ownT 75) 75 (L a4 x1.Out c4) x1.Out, OD (ownT 75) 75 (L a5 x1.Cond c5) x1.Cond, sl3 (L a6 x1.Turns c6) x1.Turns, OD (ownT 75) 75 (L a1 x1.Regs c1) x2.2, OH (ownP 75 3) 38 (L ga0 p0 gc1) s1.2.1 (Rw.Path.mk s1.1 ⟨a1, List.length x1.Regs, c1⟩ ⟨a2, List.length x1.Mem, c2⟩ ⟨a3, List.length x1.Stack, c3⟩ x1.In ⟨a4, List.length x1.Out, c4⟩ x1.Code x1.Steps ⟨a5, List.length x1.Cond, c5⟩ ⟨a6, List.length x1.Turns, c6⟩) s1.2.2]
 refine Bd h fun x3 hx3 h => Ca [0] c (laws_markTermS_ok hx3) trivial Tryz.call47 fun _ _ _ c => ?_
 refine Fp [] 1 c fun _ c => E0 (T0 (Fp [] 2 c fun _ c => Eohl 5 (L a3 x1.Stack c3) c fun _ _ _ c => ?_))
 refine Fp [] 1 c fun _ c => ?_
 replace c := c.gm [sl3 (L a3 x1.Stack c3) x1.Stack, OD (ownT 75) 75 (L a4 x1.Out c4) x1.Out, OD (ownT 75) 75 (L a5 x1.Cond c5) x1.Cond, sl3 (L a6 x1.Turns c6) x1.Turns, OD (ownT 75) 75 (L a1 x1.Regs c1) x2.2, OD (ownT 75) 75 (L a2 x1.Mem c2) x3.2, OH (ownP 75 3) 38 (L ga0 p0 gc1) s1.2.1 (Rw.Path.mk s1.1 ⟨a1, List.length x1.Regs, c1⟩ ⟨a2, List.length x1.Mem, c2⟩ ⟨a3, List.length x1.Stack, c3⟩ x1.In ⟨a4, List.length x1.Out, c4⟩ x1.Code x1.Steps ⟨a5, List.length x1.Cond, c5⟩ ⟨a6, List.length x1.Turns, c6⟩) s1.2.2]
 refine Bd h fun x4 hx4 h => Ca [0] c (laws_markIntS_ok hx4) trivial Tryz.call23 fun _ _ _ c => ?_
 refine Fp [] 1 c fun _ c => E0 (T0 (Fp [] 3 c fun _ c => Eohs 5 (I x4.1) (Rw.Path.mk s1.1 ⟨a1, List.length x1.Regs, c1⟩ ⟨a2, List.length x1.Mem, c2⟩ ⟨a3, List.length x1.Stack, c3⟩ x4.1 ⟨a4, List.length x1.Out, c4⟩ x1.Code x1.Steps ⟨a5, List.length x1.Cond, c5⟩ ⟨a6, List.length x1.Turns, c6⟩) c fun _ _ _ _ c => ?_))
 refine E0 (P0 [] c fun _ c => T0 (Fp [] 2 c fun _ c => ?_))
 replace c := c.gm [OD (ownT 75) 75 (L a4 x1.Out c4) x1.Out, OD (ownT 75) 75 (L a5 x1.Cond c5) x1.Cond, sl3 (L a6 x1.Turns c6) x1.Turns, OD (ownT 75) 75 (L a1 x1.Regs c1) x2.2, OD (ownT 75) 75 (L a2 x1.Mem c2) x3.2, sl3 (L a3 x1.Stack c3) x4.2, OH (ownP 75 3) 38 (L ga0 p0 gc1) s1.2.1 (Rw.Path.mk s1.1 ⟨a1, List.length x1.Regs, c1⟩ ⟨a2, List.length x1.Mem, c2⟩ ⟨a3, List.length x1.Stack, c3⟩ x4.1 ⟨a4, List.length x1.Out, c4⟩ x1.Code x1.Steps ⟨a5, List.length x1.Cond, c5⟩ ⟨a6, List.length x1.Turns, c6⟩) s1.2.2]
 refine Eohl 6 (L a4 x1.Out c4) c fun _ _ _ c => ?_
 refine Fp [] 1 c fun _ c => ?_
 replace c := c.gm [OD (ownT 75) 75 (L a4 x1.Out c4) x1.Out, OD (ownT 75) 75 (L a5 x1.Cond c5) x1.Cond, sl3 (L a6 x1.Turns c6) x1.Turns, OD (ownT 75) 75 (L a1 x1.Regs c1) x2.2, OD (ownT 75) 75 (L a2 x1.Mem c2) x3.2, sl3 (L a3 x1.Stack c3) x4.2, OH (ownP 75 3) 38 (L ga0 p0 gc1) s1.2.1 (Rw.Path.mk s1.1 ⟨a1, List.length x1.Regs, c1⟩ ⟨a2, List.length x1.Mem, c2⟩ ⟨a3, List.length x1.Stack, c3⟩ x4.1 ⟨a4, List.length x1.Out, c4⟩ x1.Code x1.Steps ⟨a5, List.length x1.Cond, c5⟩ ⟨a6, List.length x1.Turns, c6⟩) s1.2.2]
 refine Bd h fun x5 hx5 h => Ca [0] c (laws_markTermS_ok hx5) trivial Tryz.call47 fun _ _ _ c => ?_
 refine Fp [] 1 c fun _ c => E0 (T0 (Fp [] 3 c fun _ c => Eohs 5 (I x5.1) (Rw.Path.mk s1.1 ⟨a1, List.length x1.Regs, c1⟩ ⟨a2, List.length x1.Mem, c2⟩ ⟨a3, List.length x1.Stack, c3⟩ x4.1 ⟨a4, List.length x1.Out, c4⟩ x5.1 x1.Steps ⟨a5, List.length x1.Cond, c5⟩ ⟨a6, List.length x1.Turns, c6⟩) c fun _ _ _ _ c => ?_))
 refine E0 (P0 [] c fun _ c => T0 (Fp [] 3 c fun _ c => ?_))
 replace c := c.gm [OD (ownT 75) 75 (L a5 x1.Cond c5) x1.Cond, sl3 (L a6 x1.Turns c6) x1.Turns, OD (ownT 75) 75 (L a1 x1.Regs c1) x2.2, OD (ownT 75) 75 (L a2 x1.Mem c2) x3.2, sl3 (L a3 x1.Stack c3) x4.2, OD (ownT 75) 75 (L a4 x1.Out c4) x5.2, OH (ownP 75 3) 38 (L ga0 p0 gc1) s1.2.1 (Rw.Path.mk s1.1 ⟨a1, List.length x1.Regs, c1⟩ ⟨a2, List.length x1.Mem, c2⟩ ⟨a3, List.length x1.Stack, c3⟩ x4.1 ⟨a4, List.length x1.Out, c4⟩ x5.1 x1.Steps ⟨a5, List.length x1.Cond, c5⟩ ⟨a6, List.length x1.Turns, c6⟩) s1.2.2]
 refine Eohs 6 (I (w64 (x5.1 + 1))) (Rw.Path.mk s1.1 ⟨a1, List.length x1.Regs, c1⟩ ⟨a2, List.length x1.Mem, c2⟩ ⟨a3, List.length x1.Stack, c3⟩ x4.1 ⟨a4, List.length x1.Out, c4⟩ x5.1 (w64 (x5.1 + 1)) ⟨a5, List.length x1.Cond, c5⟩ ⟨a6, List.length x1.Turns, c6⟩) c fun _ _ _ _ c => ?_
 refine E0 (P0 [] c fun _ c => T0 (Fp [] 2 c fun _ c => ?_))
 replace c := c.gm [OD (ownT 75) 75 (L a5 x1.Cond c5) x1.Cond, sl3 (L a6 x1.Turns c6) x1.Turns, OD (ownT 75) 75 (L a1 x1.Regs c1) x2.2, OD (ownT 75) 75 (L a2 x1.Mem c2) x3.2, sl3 (L a3 x1.Stack c3) x4.2, OD (ownT 75) 75 (L a4 x1.Out c4) x5.2, OH (ownP 75 3) 38 (L ga0 p0 gc1) s1.2.1 (Rw.Path.mk s1.1 ⟨a1, List.length x1.Regs, c1⟩ ⟨a2, List.length x1.Mem, c2⟩ ⟨a3, List.length x1.Stack, c3⟩ x4.1 ⟨a4, List.length x1.Out, c4⟩ x5.1 (w64 (x5.1 + 1)) ⟨a5, List.length x1.Cond, c5⟩ ⟨a6, List.length x1.Turns, c6⟩) s1.2.2]
 refine Eohl 6 (L a5 x1.Cond c5) c fun _ _ _ c => ?_
 refine Fp [] 1 c fun _ c => ?_
 replace c := c.gm [OD (ownT 75) 75 (L a5 x1.Cond c5) x1.Cond, sl3 (L a6 x1.Turns c6) x1.Turns, OD (ownT 75) 75 (L a1 x1.Regs c1) x2.2, OD (ownT 75) 75 (L a2 x1.Mem c2) x3.2, sl3 (L a3 x1.Stack c3) x4.2, OD (ownT 75) 75 (L a4 x1.Out c4) x5.2, OH (ownP 75 3) 38 (L ga0 p0 gc1) s1.2.1 (Rw.Path.mk s1.1 ⟨a1, List.length x1.Regs, c1⟩ ⟨a2, List.length x1.Mem, c2⟩ ⟨a3, List.length x1.Stack, c3⟩ x4.1 ⟨a4, List.length x1.Out, c4⟩ x5.1 (w64 (x5.1 + 1)) ⟨a5, List.length x1.Cond, c5⟩ ⟨a6, List.length x1.Turns, c6⟩) s1.2.2]
 refine Bd h fun x6 hx6 h => Ca [0] c (laws_markTermS_ok hx6) trivial Tryz.call47 fun _ _ _ c => ?_
 refine Fp [] 1 c fun _ c => E0 (T1 (Fp [] 2 c fun _ c => Eohl 5 (L a6 x1.Turns c6) c fun _ _ _ c => ?_))
 refine Fp [] 1 c fun _ c => ?_
 replace c := c.gm [sl3 (L a6 x1.Turns c6) x1.Turns, OD (ownT 75) 75 (L a1 x1.Regs c1) x2.2, OD (ownT 75) 75 (L a2 x1.Mem c2) x3.2, sl3 (L a3 x1.Stack c3) x4.2, OD (ownT 75) 75 (L a4 x1.Out c4) x5.2, OD (ownT 75) 75 (L a5 x1.Cond c5) x6.2, OH (ownP 75 3) 38 (L ga0 p0 gc1) s1.2.1 (Rw.Path.mk s1.1 ⟨a1, List.length x1.Regs, c1⟩ ⟨a2, List.length x1.Mem, c2⟩ ⟨a3, List.length x1.Stack, c3⟩ x4.1 ⟨a4, List.length x1.Out, c4⟩ x5.1 (w64 (x5.1 + 1)) ⟨a5, List.length x1.Cond, c5⟩ ⟨a6, List.length x1.Turns, c6⟩) s1.2.2]
 refine Bd h fun x7 hx7 h => Ca [0] c (laws_markIntS_ok hx7) trivial Tryz.call23 fun _ _ _ c => ?_
 refine Fp [] 1 c fun _ c => E1 (bk (tn (P1 [] c fun _ c => Bd h fun x8 hx8 h => ?_)))
 replace c := c.un_Path (ET := 75) (EI := 3) (E := 38) (v := L ga0 p0 gc1) (y := (D.Path.mk s1.1 x2.2 x3.2 x4.2 x4.1 x5.2 x5.1 (w64 (x5.1 + 1)) x6.2 x7.2)) (b0 := a1) (m0 := List.length x1.Regs) (c0 := c1) (b1 := a2) (m1 := List.length x1.Mem) (c1 := c2) (b2 := a3) (m2 := List.length x1.Stack) (c2 := c3) (b3 := a4) (m3 := List.length x1.Out) (c3 := c4) (b4 := a5) (m4 := List.length x1.Cond) (c4 := c5) (b5 := a6) (m5 := List.length x1.Turns) (c5 := c6) 5 0 1 2 3 4 6 hx8
 replace c := c.gm [OD (ownP 75 3) 38 (L ga0 p0 gc1) x8]
 exact Nx h () (c.re [0] [])
 refine wp_exit (te (te (be ?_)))
 obtain rfl := hr1 _ (Option.some.inj h).symm
 exact tn ⟨(), c.re [0] []⟩
 refine P0 [] c fun _ c => ?_
 cases h
 exact wp_ret (Rt c () [0] [])

theorem laws_heldIntS_ok {n : Nat} {p0 : List Int} {p1 : Int} {ga0 : Option Addr} {gc1 : Nat} {r : Int} (h : laws_heldIntS n p0 p1 = some r) : Con Tryz.prog 24 [L ga0 p0 gc1, I p1] [] [RO (L ga0 p0 gc1) p0] fun (_ : Unit) => ([I r], [], []) := by
 unfold laws_heldIntS at h
 refine En Tryz.func24 rfl Tryz.ntmps24 fun _ fr w c => ?_
 refine P0 [] c fun _ c => S0 (P0 [] c fun _ c => Bd h fun rl1 hit1 h => ?_)
 have hk1 := h
 refine LpR (fun s1  (_ : Unit) => ([(0, L ga0 p0 gc1), (1, I s1.1), (5, I s1.2)], id, [])) (fun s  (_ : Unit) => ([(1, I s)], id, [])) hit1 c () (c.re [] [0]) (fun s1 q1 _ _ _ c h hr1 => ?_) fun s1r _ _ _ hrl c => ?_
 refine S0 (P0 [] c fun _ c => I0 c h (fun h => ?_) fun h => ?_)
 refine K0 (S0 (wp_block (S0 (T0 (Fp [] 2 c fun _ c => Bd h fun x1 hx1 h => Eel c (.f 0) hx1 fun _ _ c => ?_)))))
 refine Fp [] 2 c fun _ c => E0 (I0 c h (fun h => ?_) fun h => ?_)
 refine P0 [] c fun _ c => ?_
 obtain rfl := hr1 _ (Option.some.inj h).symm
 obtain rfl := Option.some.inj hk1
 exact wp_ret (tr (br (tr (tr (br (tr (Rt c () [] [])))))))
 refine K0 (Tq (P1 [] c fun _ c => bk (tn (P1 [] c fun _ c => Nx h () (c.re [] [0])))))
 refine wp_exit (te (te (be ?_)))
 obtain rfl := hr1 _ (Option.some.inj h).symm
 exact tn ⟨_, (), rfl, c.re [] [0]⟩
 subst hrl
 refine P0 [] c fun _ c => ?_
 obtain rfl := sj h
 exact wp_ret (Rt c () [] [])

theorem laws_FnExactEndsFor_ok {n : Nat} {p0 : D.Program} {p1 : List D.Path} {p2 : List Int} {ga0 : Option Addr} {gc1 : Nat} {ga2 : Option Addr} {gc3 : Nat} {ga4 : Option Addr} {gc5 : Nat} {r : Bool} (h : laws_FnExactEndsFor n p0 p1 p2 = some r) : Con Tryz.prog 4 [.agg #[I p0.W, I p0.Mem, I p0.In, L ga0 p0.Code gc1], L ga2 p1 gc3, L ga4 p2 gc5] [] [RO (L ga0 p0.Code gc1) p0.Code, RO (L ga2 p1 gc3) p1, RO (L ga4 p2 gc5) p2, TBf Tryz.prog] fun (_ : Unit) => ([.bool r], [], []) := by
 unfold laws_FnExactEndsFor at h
 refine En Tryz.func4 rfl Tryz.ntmps4 fun _ fr w c => ?_
 refine T0 (Ebx [I p0.W, I p0.Mem, I p0.In, L ga0 p0.Code gc1] c fun b1 _ _ c => ?_)
 refine Fp [] 1 c fun _ c => E0 (S0 (P0 [] c fun _ c => I0 c h (fun h => ?_) fun h => ?_))
 refine P0 [] c fun _ c => ?_
 obtain rfl := sj h
 exact wp_ret (tr (Rt c () [] []))
 refine K0 (P0 [] c fun _ c => T0 (Fp [(0, 0)] 2 c fun _ c => Bd h fun x1 hx1 h => Ca [] c (laws_szProgram_ok hx1) ⟨.f 0, trivial⟩ Tryz.call6 fun _ _ _ c => ?_))
 refine Fp [] 1 c fun _ c => E0 (S0 (P0 [] c fun _ c => I0 c h (fun h => ?_) fun h => ?_))
 refine P0 [] c fun _ c => ?_
 obtain rfl := sj h
 exact wp_ret (tr (Rt c () [] []))
 refine K0 (T0 (Fp [] 2 c fun _ c => Bd h fun x2 hx2 h => Ca [] c (laws_szPathS_ok hx2) ⟨.f 1, trivial⟩ Tryz.call16 fun _ _ _ c => ?_))
 refine Fp [] 1 c fun _ c => E0 (S0 (P0 [] c fun _ c => I0 c h (fun h => ?_) fun h => ?_))
 refine P0 [] c fun _ c => ?_
 obtain rfl := sj h
 exact wp_ret (tr (Rt c () [] []))
 refine K0 (T0 (Fp [(0, 0)] 1 c fun _ c => Bd h fun x3 hx3 h => Ca [] c (laws_toProgram_ok hx3) ⟨.f 0, trivial⟩ Tryz.call9 fun i1 _ _ c => ?_))
 refine Fp [] 1 c fun _ c => Bd h fun x4 hx4 h => Ca [] c (laws_toPathS_ok hx4) ⟨.f 1, trivial⟩ Tryz.call18 fun i2 _ _ c => ?_
 refine Fp [] 1 c fun _ c => ?_
 replace c := c.gm [BX b1 24 [I p0.W, I p0.Mem, I p0.In, L ga0 p0.Code gc1], sl91 (L i1.1 x3.Code i1.2) x3.Code, OD (ownP 75 3) 38 (L i2.1 x4 i2.2) x4]
 refine Bd h fun x5 hx5 h => Ca [] c (laws_toIntS_ok hx5) ⟨.f 2, trivial⟩ Tryz.call11 fun i3 _ _ c => ?_
 refine Bd h fun x6 hx6 h => Ca [] c (spec_EndsFor_ok hx6) ⟨.g 1, .go (owns_P 75 3) 2, .g 3, trivial⟩ Tryz.call17 fun i4 _ _ c => ?_
 refine Fp [] 1 c fun _ c => E0 (T0 (Fp [(0, 0)] 1 c fun _ c => Bd h fun x7 hx7 h => Ca [] c (laws_toProgram_ok hx7) ⟨.f 0, trivial⟩ Tryz.call9 fun i5 _ _ c => ?_))
 replace c := c.gm [BX b1 24 [I p0.W, I p0.Mem, I p0.In, L ga0 p0.Code gc1], sl91 (L i1.1 x3.Code i1.2) x3.Code, OD (ownP 75 3) 38 (L i2.1 x4 i2.2) x4, sl3 (L i3.1 x5 i3.2) x5, sl3 (L i4.1 x6 i4.2) x6, sl91 (L i5.1 x7.Code i5.2) x7.Code]
 refine Eal [I 0, I 0, I 0, L none ([] : List D.Ins) 0] c fun b2 _ _ c => ?_
 refine Ess 6 [I x7.W, I x7.Mem, I x7.In, L i5.1 x7.Code i5.2] c fun _ c => ?_
 refine E0 (T0 (Fp [] 1 c fun _ c => Bd h fun x8 hx8 h => Ca [] c (laws_toPathS_ok hx8) ⟨.f 1, trivial⟩ Tryz.call18 fun i6 _ _ c => ?_))
 refine Fp [] 1 c fun _ c => E0 (T0 (Fp [] 1 c fun _ c => ?_))
 replace c := c.gm [BX b1 24 [I p0.W, I p0.Mem, I p0.In, L ga0 p0.Code gc1], sl91 (L i1.1 x3.Code i1.2) x3.Code, OD (ownP 75 3) 38 (L i2.1 x4 i2.2) x4, sl3 (L i3.1 x5 i3.2) x5, sl3 (L i4.1 x6 i4.2) x6, sl91 (L i5.1 x7.Code i5.2) x7.Code, BX b2 34 [I x7.W, I x7.Mem, I x7.In, L i5.1 x7.Code i5.2], OD (ownP 75 3) 38 (L i6.1 x8 i6.2) x8]
 refine Bd h fun x9 hx9 h => Ca [] c (laws_toIntS_ok hx9) ⟨.f 2, trivial⟩ Tryz.call11 fun i7 _ _ c => ?_
 refine Fp [] 1 c fun _ c => E0 (T0 (Fp [(0, 1)] 3 c fun _ c => Bd h fun x10 hx10 h => Ca [] c (impl_EndsFor_ok hx10) ⟨.g 5, .go (owns_P 75 3) 7, .g 8, .f 3, trivial⟩ Tryz.call19 fun i8 _ _ c => ?_))
 refine Fp [] 1 c fun _ c => E0 (S0 (T0 (Fp [] 2 c fun _ c => ?_)))
 replace c := c.gm [BX b1 24 [I p0.W, I p0.Mem, I p0.In, L ga0 p0.Code gc1], sl91 (L i1.1 x3.Code i1.2) x3.Code, OD (ownP 75 3) 38 (L i2.1 x4 i2.2) x4, sl3 (L i3.1 x5 i3.2) x5, sl3 (L i4.1 x6 i4.2) x6, sl91 (L i5.1 x7.Code i5.2) x7.Code, BX b2 34 [I x7.W, I x7.Mem, I x7.In, L i5.1 x7.Code i5.2], OD (ownP 75 3) 38 (L i6.1 x8 i6.2) x8, sl3 (L i7.1 x9 i7.2) x9, sl3 (L i8.1 x10 i8.2) x10]
 refine Bd h fun x11 hx11 h => Ca [] c (laws_eqIntS_ok hx11) ⟨.g 9, .g 4, trivial⟩ Tryz.call15 fun _ _ _ c => ?_
 refine Fp [] 1 c fun _ c => E0 (I0 c h (fun h => ?_) fun h => ?_)
 refine P0 [] c fun _ c => ?_
 obtain rfl := sj h
 exact wp_ret (tr (Rt c () [] []))
 refine K0 (S0 (Bd h fun x12 hx12 h => Bd h fun x13 hx13 h => S0 (Jn (fun _ : Unit => ([(1, L ga2 p1 gc3), (2, L ga4 p2 gc5), (3, B b1 0), (8, L i4.1 x6 i4.2), (9, B b2 0), (10, L i6.1 x8 i6.2), (11, L i7.1 x9 i7.2), (12, L i8.1 x10 i8.2), (55, .bool (!x13))], id, [])) c ?_ fun _ _ _ c => ?_)))
 refine As mix c fun _ c => ?_
 refine Dg (fun i : Option Addr × Nat => ([(1, L ga2 p1 gc3), (2, L ga4 p2 gc5), (3, B b1 0), (8, L i4.1 x6 i4.2), (9, B b2 0), (10, L i6.1 x8 i6.2), (11, L i7.1 x9 i7.2), (12, L i8.1 x10 i8.2), (51, .agg #[I x7.W, I x7.Mem, I x7.In, L i5.1 x7.Code i5.2]), (53, .agg #[I x12.W, I x12.Mem, I x12.In, L i.1 x12.Code i.2])], fun Γ => Γ ++ [sl91 (L i.1 x12.Code i.2) x12.Code], [])) 2 #[true, true, true, false, false] c (fun i10 _ _ c => ?_) fun hd2 => ?_
 obtain ⟨a1, c1⟩ := i10
 refine any_node (fuel := 1) [3] (by kernel_rfl) (by simp) ⟨?_, trivial⟩
 refine op_of _ rfl rfl ?_
 refine Ca [] c (laws_eqProgram_ok hx13) ⟨.g 5, .g 10, trivial⟩ Tryz.call13 fun _ _ _ c => ?_
 refine E0 (any_node (fuel := 0) [4] (by kernel_rfl) (by simp) ⟨?_, trivial⟩)
 refine op_of _ rfl rfl ?_
 refine Fp [] 1 c fun _ c => E0 (any_leaf (by kernel_rfl) ?_)
 exact nN () (c.rk (rg 10) (rg 4))
 refine Dg (fun _ : Unit => ([(1, L ga2 p1 gc3), (2, L ga4 p2 gc5), (3, B b1 0), (8, L i4.1 x6 i4.2), (9, B b2 0), (10, L i6.1 x8 i6.2), (11, L i7.1 x9 i7.2), (12, L i8.1 x10 i8.2), (51, .agg #[I x7.W, I x7.Mem, I x7.In, L i5.1 x7.Code i5.2]), (52, .agg #[I p0.W, I p0.Mem, I p0.In, L ga0 p0.Code gc1])], id, [])) 3 #[true, true, false, false, false] c (fun _ _ _ c => ?_) fun hd1 => ?_
 refine any_node (fuel := 2) [2] (by kernel_rfl) (by simp) ⟨?_, trivial⟩
 refine op_of _ rfl rfl ?_
 refine Ca [] c (laws_toProgram_ok hx12) ⟨.f 0, trivial⟩ Tryz.call9 fun i11 _ _ c => ?_
 refine E0 (Nd hd2 (i11.1, i11.2) (c.rk (rg 11) (rg 4)))
 refine any_node (fuel := 4) [0, 1] (by kernel_rfl) (by simp) ⟨?_, ?_, trivial⟩
 refine op_of _ rfl rfl ?_
 refine Fp [(0, 1)] 1 c fun _ c => E0 (any_node (fuel := 3) [1] (by kernel_rfl) (by simp) ⟨?_, trivial⟩)
 refine op_of _ rfl rfl ?_
 refine Fp [(0, 0)] 1 c fun _ c => E0 (Nd hd1 () (c.rk (rg 10) (rg 4)))
 refine op_of _ rfl rfl ?_
 refine Fp [(0, 0)] 1 c fun _ c => E0 (any_node (fuel := 3) [0, 2] (by kernel_rfl) (by simp) ⟨?_, ?_, trivial⟩)
 refine op_of _ rfl rfl ?_
 refine Fp [(0, 1)] 1 c fun _ c => E0 (Nd hd1 () (c.rk (rg 10) (rg 4)))
 refine op_of _ rfl rfl ?_
 refine Ca [] c (laws_toProgram_ok hx12) ⟨.f 0, trivial⟩ Tryz.call9 fun i9 _ _ c => ?_
 refine E0 (any_node (fuel := 2) [0] (by kernel_rfl) (by simp) ⟨?_, trivial⟩)
 refine op_of _ rfl rfl ?_
 refine Fp [(0, 1)] 1 c fun _ c => E0 (Nd hd2 (i9.1, i9.2) (c.rk (rg 11) (rg 4)))
 refine I0 c h (fun h => ?_) fun h => ?_
 refine P0 [] c fun _ c => ?_
 obtain rfl := sj h
 exact wp_ret (tr (Rt c () [] []))
 refine K0 (S0 (T0 (Fp [] 2 c fun _ c => Bd h fun x14 hx14 h => Ca [] c (laws_toPathS_ok hx14) ⟨.f 1, trivial⟩ Tryz.call18 fun i12 _ _ c => ?_)))
 refine Bd h fun x15 hx15 h => Ca [] c (laws_eqPathS_ok hx15) ⟨.go (owns_P 75 3) 7, .go (owns_P 75 3) 10, trivial⟩ Tryz.call20 fun _ _ _ c => ?_
 refine Fp [] 1 c fun _ c => E0 (I0 c h (fun h => ?_) fun h => ?_)
 refine P0 [] c fun _ c => ?_
 obtain rfl := sj h
 exact wp_ret (tr (Rt c () [] []))
 refine K0 (S0 (T0 (Fp [] 2 c fun _ c => ?_)))
 replace c := c.gm [BX b1 24 [I p0.W, I p0.Mem, I p0.In, L ga0 p0.Code gc1], sl91 (L i1.1 x3.Code i1.2) x3.Code, OD (ownP 75 3) 38 (L i2.1 x4 i2.2) x4, sl3 (L i3.1 x5 i3.2) x5, sl3 (L i4.1 x6 i4.2) x6, sl91 (L i5.1 x7.Code i5.2) x7.Code, BX b2 34 [I x7.W, I x7.Mem, I x7.In, L i5.1 x7.Code i5.2], OD (ownP 75 3) 38 (L i6.1 x8 i6.2) x8, sl3 (L i7.1 x9 i7.2) x9, sl3 (L i8.1 x10 i8.2) x10, OD (ownP 75 3) 38 (L i12.1 x14 i12.2) x14]
 refine Bd h fun x16 hx16 h => Ca [] c (laws_toIntS_ok hx16) ⟨.f 2, trivial⟩ Tryz.call11 fun i13 _ _ c => ?_
 refine Bd h fun x17 hx17 h => Ca [] c (laws_eqIntS_ok hx17) ⟨.g 8, .g 11, trivial⟩ Tryz.call15 fun _ _ _ c => ?_
 refine Fp [] 1 c fun _ c => E0 (I0 c h (fun h => ?_) fun h => ?_)
 refine P0 [] c fun _ c => ?_
 obtain rfl := sj h
 exact wp_ret (tr (Rt c () [] []))
 refine K0 (P0 [] c fun _ c => T0 (Fp [(0, 1)] 2 c fun _ c => ?_))
 replace c := c.gm [BX b1 24 [I p0.W, I p0.Mem, I p0.In, L ga0 p0.Code gc1], sl91 (L i1.1 x3.Code i1.2) x3.Code, OD (ownP 75 3) 38 (L i2.1 x4 i2.2) x4, sl3 (L i3.1 x5 i3.2) x5, sl3 (L i4.1 x6 i4.2) x6, sl91 (L i5.1 x7.Code i5.2) x7.Code, BX b2 34 [I x7.W, I x7.Mem, I x7.In, L i5.1 x7.Code i5.2], OD (ownP 75 3) 38 (L i6.1 x8 i6.2) x8, sl3 (L i7.1 x9 i7.2) x9, sl3 (L i8.1 x10 i8.2) x10, OD (ownP 75 3) 38 (L i12.1 x14 i12.2) x14, sl3 (L i13.1 x16 i13.2) x16]
 refine Bd h fun x18 hx18 h => Ca [5] c (laws_markProgram_ok hx18) trivial Tryz.call21 fun _ _ _ c => ?_
 refine Fp [] 1 c fun _ c => E0 (T0 (Fp [] 2 c fun _ c => Bd h fun x19 hx19 h => Ca [6] c (laws_markPathS_ok hx19) trivial Tryz.call22 fun _ _ _ c => ?_))
 refine Fp [] 1 c fun _ c => E0 (T0 (Fp [] 2 c fun _ c => ?_))
 replace c := c.gm [BX b1 24 [I p0.W, I p0.Mem, I p0.In, L ga0 p0.Code gc1], sl91 (L i1.1 x3.Code i1.2) x3.Code, OD (ownP 75 3) 38 (L i2.1 x4 i2.2) x4, sl3 (L i3.1 x5 i3.2) x5, sl3 (L i4.1 x6 i4.2) x6, BX b2 34 [I x7.W, I x7.Mem, I x7.In, L i5.1 x7.Code i5.2], sl3 (L i7.1 x9 i7.2) x9, sl3 (L i8.1 x10 i8.2) x10, OD (ownP 75 3) 38 (L i12.1 x14 i12.2) x14, sl3 (L i13.1 x16 i13.2) x16, sl91 (L i5.1 x7.Code i5.2) x18.2.Code, OD (ownP 75 3) 38 (L i6.1 x8 i6.2) x19.2]
 refine Bd h fun x20 hx20 h => Ca [6] c (laws_markIntS_ok hx20) trivial Tryz.call23 fun _ _ _ c => ?_
 refine Fp [] 1 c fun _ c => E0 (S0 (Bd h fun x21 hx21 h => S0 (rZ [(5, .eq (.bool x21))] [] mix c ⟨Ncl c (fun hg => laws_eqIntS_ok (iteF (gcF hg) hx21)) ⟨.g 6, .g 4, trivial⟩ Tryz.call15, trivial⟩ fun _ _ c => I0 c h (fun h => ?_) fun h => ?_)))
 refine P0 [] c fun _ c => ?_
 obtain rfl := sj h
 exact wp_ret (tr (Rt c () [] []))
 refine K0 (P0 [] c fun _ c => T0 (Fp [] 2 c fun _ c => Bd h fun x22 hx22 h => Ca [6] c (laws_markIntS_ok hx22) trivial Tryz.call23 fun _ _ _ c => ?_))
 refine Fp [] 1 c fun _ c => E0 (P0 [] c fun _ c => T0 (Fp [] 2 c fun _ c => ?_))
 replace c := c.gm [BX b1 24 [I p0.W, I p0.Mem, I p0.In, L ga0 p0.Code gc1], sl91 (L i1.1 x3.Code i1.2) x3.Code, OD (ownP 75 3) 38 (L i2.1 x4 i2.2) x4, sl3 (L i3.1 x5 i3.2) x5, sl3 (L i4.1 x6 i4.2) x6, BX b2 34 [I x7.W, I x7.Mem, I x7.In, L i5.1 x7.Code i5.2], OD (ownP 75 3) 38 (L i12.1 x14 i12.2) x14, sl3 (L i13.1 x16 i13.2) x16, sl91 (L i5.1 x7.Code i5.2) x18.2.Code, OD (ownP 75 3) 38 (L i6.1 x8 i6.2) x19.2, sl3 (L i7.1 x9 i7.2) x20.2, sl3 (L i8.1 x10 i8.2) x22.2]
 obtain ⟨he1, c⟩ := c.relen 11
 replace c := c.eqs (v := L i8.1 x10 i8.2) (u := L i8.1 x22.2 i8.2) 12 (by simp only [L, he1])
 replace c := c.eqs (v := L i8.1 x10 i8.2) (u := L i8.1 x22.2 i8.2) 86 (by simp only [L, he1])
 refine Bd h fun x23 hx23 h => Ca [] c (laws_heldIntS_ok hx23) ⟨.g 11, trivial⟩ Tryz.call24 fun _ _ _ c => ?_
 refine Fp [] 1 c fun _ c => E0 (S0 (P0 [] c fun _ c => I0 c h (fun h => ?_) fun h => ?_))
 refine P0 [] c fun _ c => ?_
 obtain rfl := sj h
 exact wp_ret (tr (Rt c () [] []))
 refine K0 (S0 (P0 [] c fun _ c => I0 c h (fun h => ?_) fun h => ?_))
 refine P0 [] c fun _ c => ?_
 obtain rfl := sj h
 exact wp_ret (tr (Rt c () [] []))
 refine K0 (T0 (Fp [(0, 0)] 1 c fun _ c => Bd h fun x24 hx24 h => Ca [] c (laws_toProgram_ok hx24) ⟨.f 0, trivial⟩ Tryz.call9 fun i14 _ _ c => ?_))
 refine Fp [] 1 c fun _ c => ?_
 replace c := c.gm [BX b1 24 [I p0.W, I p0.Mem, I p0.In, L ga0 p0.Code gc1], sl91 (L i1.1 x3.Code i1.2) x3.Code, OD (ownP 75 3) 38 (L i2.1 x4 i2.2) x4, sl3 (L i3.1 x5 i3.2) x5, sl3 (L i4.1 x6 i4.2) x6, BX b2 34 [I x7.W, I x7.Mem, I x7.In, L i5.1 x7.Code i5.2], OD (ownP 75 3) 38 (L i12.1 x14 i12.2) x14, sl3 (L i13.1 x16 i13.2) x16, sl91 (L i5.1 x7.Code i5.2) x18.2.Code, OD (ownP 75 3) 38 (L i6.1 x8 i6.2) x19.2, sl3 (L i7.1 x9 i7.2) x20.2, sl3 (L i8.1 x22.2 i8.2) x22.2, sl91 (L i14.1 x24.Code i14.2) x24.Code]
 refine Bd h fun x25 hx25 h => Ca [] c (laws_toPathS_ok hx25) ⟨.f 1, trivial⟩ Tryz.call18 fun i15 _ _ c => ?_
 refine Fp [] 1 c fun _ c => Bd h fun x26 hx26 h => Ca [] c (laws_toIntS_ok hx26) ⟨.f 2, trivial⟩ Tryz.call11 fun i16 _ _ c => ?_
 replace c := c.gm [BX b1 24 [I p0.W, I p0.Mem, I p0.In, L ga0 p0.Code gc1], sl91 (L i1.1 x3.Code i1.2) x3.Code, OD (ownP 75 3) 38 (L i2.1 x4 i2.2) x4, sl3 (L i3.1 x5 i3.2) x5, sl3 (L i4.1 x6 i4.2) x6, BX b2 34 [I x7.W, I x7.Mem, I x7.In, L i5.1 x7.Code i5.2], OD (ownP 75 3) 38 (L i12.1 x14 i12.2) x14, sl3 (L i13.1 x16 i13.2) x16, sl91 (L i5.1 x7.Code i5.2) x18.2.Code, OD (ownP 75 3) 38 (L i6.1 x8 i6.2) x19.2, sl3 (L i7.1 x9 i7.2) x20.2, sl3 (L i8.1 x22.2 i8.2) x22.2, sl91 (L i14.1 x24.Code i14.2) x24.Code, OD (ownP 75 3) 38 (L i15.1 x25 i15.2) x25, sl3 (L i16.1 x26 i16.2) x26]
 refine Bd h fun x27 hx27 h => Ca [] c (impl_EndsFor_ok hx27) ⟨.g 12, .go (owns_P 75 3) 13, .g 14, .f 3, trivial⟩ Tryz.call19 fun i17 _ _ c => ?_
 refine Fp [] 1 c fun _ c => E0 (S0 (T0 (Fp [] 2 c fun _ c => Bd h fun x28 hx28 h => Ca [] c (laws_eqIntS_ok hx28) ⟨.g 15, .g 4, trivial⟩ Tryz.call15 fun _ _ _ c => ?_)))
 refine Fp [] 1 c fun _ c => E0 (I0 c h (fun h => ?_) fun h => ?_)
 refine P0 [] c fun _ c => ?_
 obtain rfl := sj h
 exact wp_ret (tr (Rt c () [] []))
 refine K0 (P0 [] c fun _ c => T0 (Fp [] 2 c fun _ c => ?_))
 replace c := c.gm [BX b1 24 [I p0.W, I p0.Mem, I p0.In, L ga0 p0.Code gc1], sl91 (L i1.1 x3.Code i1.2) x3.Code, OD (ownP 75 3) 38 (L i2.1 x4 i2.2) x4, sl3 (L i3.1 x5 i3.2) x5, sl3 (L i4.1 x6 i4.2) x6, BX b2 34 [I x7.W, I x7.Mem, I x7.In, L i5.1 x7.Code i5.2], OD (ownP 75 3) 38 (L i12.1 x14 i12.2) x14, sl3 (L i13.1 x16 i13.2) x16, sl91 (L i5.1 x7.Code i5.2) x18.2.Code, OD (ownP 75 3) 38 (L i6.1 x8 i6.2) x19.2, sl3 (L i7.1 x9 i7.2) x20.2, sl3 (L i8.1 x22.2 i8.2) x22.2, sl91 (L i14.1 x24.Code i14.2) x24.Code, OD (ownP 75 3) 38 (L i15.1 x25 i15.2) x25, sl3 (L i16.1 x26 i16.2) x26, sl3 (L i17.1 x27 i17.2) x27]
 refine Bd h fun x29 hx29 h => Ca [] c (laws_heldIntS_ok hx29) ⟨.g 11, trivial⟩ Tryz.call24 fun _ _ _ c => ?_
 refine Fp [] 1 c fun _ c => E0 (S0 (P0 [] c fun _ c => I0 c h (fun h => ?_) fun h => ?_))
 refine P0 [] c fun _ c => ?_
 obtain rfl := sj h
 exact wp_ret (tr (Rt c () [] []))
 refine K0 (S0 (P0 [] c fun _ c => I0 c h (fun h => ?_) fun h => ?_))
 refine P0 [] c fun _ c => ?_
 obtain rfl := sj h
 exact wp_ret (tr (Rt c () [] []))
 refine K0 (P0 [] c fun _ c => ?_)
 obtain rfl := sj h
 exact wp_ret (Rt c () [] [])
end Go.Proofs.YtfbcccfbikeibaaGreatDoor
