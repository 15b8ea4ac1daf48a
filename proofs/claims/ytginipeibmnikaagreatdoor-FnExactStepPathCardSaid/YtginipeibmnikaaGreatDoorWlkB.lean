/- The walks, printed by a program. -/
import Derived.Test.YtginipeibmnikaaGreatDoorWlkA
set_option linter.unusedVariables false
set_option linter.unusedSimpArgs false
set_option maxRecDepth 100000
set_option maxHeartbeats 40000000
namespace Go.Proofs.YtginipeibmnikaaGreatDoor
open Go.GL Go.Maps Go.WideMaps Tryz
variable {n:Nat} {ga0 ga2 ga4 ga5 ga6 ga7 ga8 ga9 ga10 ga11 ga12 ga13 ga14 ga16:Option Addr} {gc1 gc3 gc5 gc6 gc7 gc8 gc9 gc10 gc11 gc12 gc13 gc14 gc15 gc17:Nat}
theorem Ze6 {p0 p1 r} (h:ZaZ n p0 p1 = some r):Cl 28 [gV p0 ga0 gc1,pV p1 ga2 gc3 ga4 gc5 ga6 gc7 ga8 gc9 ga10 gc11 ga12 gc13] [lR ga0 p0.Code gc1,lR ga2 p1.Regs gc3,lR ga4 p1.Mem gc5,lR ga6 p1.Stack gc7,lR ga8 p1.Out gc9,lR ga10 p1.Cond gc11,lR ga12 p1.Turns gc13] r:=by
 unfold ZaZ at h
 refine En func28 rfl ntmps28 fun _ fr w c=>?_
 refine T0 (Ebx (gC p0 ga0 gc1) c fun b1 _ _ c=>?_)
 refine Ebx (pC p1 ga2 gc3 ga4 gc5 ga6 gc7 ga8 gc9 ga10 gc11 ga12 gc13) c fun b2 _ _ c=>?_
 refine Fp [] 1 c fun _ c=>E0 (S0 (S0 (Ry [(1,1),(5,1)] mix c fun _ _ c=>I0 c h (fun h=>?_) fun h=>?_)))
 refine P0 [] c fun _ c=>?_
 cases h
 replace c:=c.nilf (α:=D.Path)
 exact wp_ret (tr (Rt c (none,0) [] [7]))
 refine K0 (T0 (Fp [(0,1)] 1 c fun _ c=>Bd h fun x1 hx1 h=>Cg c (Xq hx1) ⟨.f 1,.f 2,.f 3,.f 4,.f 5,.f 6,tt⟩ call51 fun i1 _ _ c=>?_))
 replace c:=c.ng
 refine Ess 1 (pC x1 i1.1 i1.2.1 i1.p3 i1.p4 i1.p6 i1.p7 i1.p8 i1.p9 i1.p11 i1.p12 i1.p14 i1.q15) c fun _ c=>?_
 refine E0 (S0 (P0 [(1,1),(3,0)] c fun _ c=>I0 c h (fun h=>?_) fun h=>?_))
 refine T0 (Fp [] 1 c fun _ c=>Esb 1 6 (I 2) c fun _ c=>?_)
 refine E0 (T0 (Fp [(0,1)] 1 c fun _ c=>?_))
 replace c:=c.fzr 2 7
 replace c:=c.fzr 2 8
 replace c:=c.fz 2
 replace c:=c.fzr 2 9
 replace c:=c.fzr 2 10
 replace c:=c.fz 2
 refine Eltr 29 ([(Rw.Path.mk x1.Pc (hd i1.1 x1.Regs i1.2.1) (hd i1.p3 x1.Mem i1.p4) (hd i1.p6 x1.Stack i1.p7) x1.In (hd i1.p8 x1.Out i1.p9) 2 x1.Steps (hd i1.p11 x1.Cond i1.p12) (hd i1.p14 x1.Turns i1.q15))]:List Rw.Path) ([(D.Path.mk x1.Pc x1.Regs x1.Mem x1.Stack x1.In x1.Out 2 x1.Steps x1.Cond x1.Turns)]:List D.Path) c ⟨(Ava.mk_Path (D.Path.mk x1.Pc x1.Regs x1.Mem x1.Stack x1.In x1.Out 2 x1.Steps x1.Cond x1.Turns) (.f 11) (.f 12) (.f 13) (.f 14) (.f 15) (.f 16)),tt⟩ fun a1 c1 _ _ c=>?_
 refine Fp [] 1 c fun _ c=>E0 ?_
 replace c:=c.fzr 2 17
 cases h
 exact wp_ret (tr (Rt c (a1,c1) [] [18]))
 refine K0 (T0 (Fp [(1,1)] 4 c fun _ c=>Esb 1 7 (I (w64 (x1.Steps + 1))) c fun _ c=>?_))
 refine E0 (T0 (Fp [(0,1)] 1 c fun _ c=>?_))
 replace c:=c.fzr 2 7
 replace c:=c.fzr 2 8
 replace c:=c.fz 2
 replace c:=c.fzr 2 9
 replace c:=c.fzr 2 10
 replace c:=c.fz 2
 refine Bd h fun x2 hx2 h=>Cg c (Xq hx2) ⟨.f 11,.f 12,.f 13,.f 14,.f 15,.f 16,tt⟩ call51 fun i2 _ _ c=>?_
 replace c:=c.nf
 refine Eal pZ c fun b3 _ _ c=>?_
 refine Ess 8 (pC x2 i2.1 i2.2.1 i2.p3 i2.p4 i2.p6 i2.p7 i2.p8 i2.p9 i2.p11 i2.p12 i2.p14 i2.q15) c fun _ c=>?_
 refine E0 (T0 (Fp [] 1 c fun _ c=>?_))
 replace c:=c.ng
 refine Esb 8 6 (I 9) c fun _ c=>?_
 refine E0 (T0 (Fp [(1,0),(3,1)] 4 c fun _ c=>Bd h fun x3 hx3 h=>Eel c (.f 0) hx3 fun _ _ c=>?_))
 refine Eal [I 0,I 0,I 0,I 0] c fun b4 _ _ c=>?_
 replace c:=c.ng
 refine Ess 9 (nC x3) c fun _ c=>?_
 refine E0 (T0 (Fp [] 1 c fun _ c=>Ebx [.bool false] c fun b5 _ _ c=>?_))
 refine Fp [] 1 c fun _ c=>E0 (T0 (Fp [(1,0),(2,1),(3,3)] 4 c fun _ c=>?_))
 replace c:=c.ng
 refine Bd h fun x4 hx4 h=>Cf [10] c (Zcp (ga5:=i1.p3) (gc6:=i1.p4) (ga7:=i1.p6) (gc8:=i1.p7) (ga9:=i1.p8) (gc10:=i1.p9) (ga11:=i1.p11) (gc12:=i1.p12) (ga13:=i1.p14) (gc14:=i1.q15) hx4) ⟨.f 0,.f 11,tt⟩ call52 fun i3 _ _ c=>?_
 refine Fp [] 3 c fun _ c=>Eal tZ c fun b6 _ _ c=>?_
 replace c:=c.nf
 refine Ess 11 (tC x4.1 i3.1 i3.2) c fun _ c=>?_
 refine Fp [] 1 c fun _ c=>E0 (S0 (P0 [(3,4)] c fun _ c=>I0 c h (fun h=>?_) fun h=>?_))
 refine T0 (Fp [(0,2)] 1 c fun _ c=>?_)
 replace c:=c.fzr 2 17
 replace c:=c.fzr 2 18
 replace c:=c.fz 2
 replace c:=c.fzr 2 19
 replace c:=c.fzr 2 20
 replace c:=c.fz 2
 refine Eltr 29 ([(Rw.Path.mk x2.Pc (hd i2.1 x2.Regs i2.2.1) (hd i2.p3 x2.Mem i2.p4) (hd i2.p6 x2.Stack i2.p7) x2.In (hd i2.p8 x2.Out i2.p9) 9 x2.Steps (hd i2.p11 x2.Cond i2.p12) (hd i2.p14 x2.Turns i2.q15))]:List Rw.Path) ([(D.Path.mk x2.Pc x2.Regs x2.Mem x2.Stack x2.In x2.Out 9 x2.Steps x2.Cond x2.Turns)]:List D.Path) c ⟨(Ava.mk_Path (D.Path.mk x2.Pc x2.Regs x2.Mem x2.Stack x2.In x2.Out 9 x2.Steps x2.Cond x2.Turns) (.f 22) (.f 23) (.f 24) (.f 25) (.f 26) (.f 27)),tt⟩ fun a2 c2 _ _ c=>?_
 refine Fp [] 1 c fun _ c=>E0 ?_
 replace c:=c.fzr 6 28
 cases h
 exact wp_ret (tr (Rt c (a2,c2) [] [29]))
 refine K0 (S0 (Bd h fun x5 hx5 h=>S0 (rZ [(4,.eq (.bool x5))] [(3,5)] mix c ⟨Ncl c (fun hg=>Y6 (iteF (gcF hg) hx5)) ⟨.f 21,tt⟩ call53,tt⟩ fun _ _ c=>I0 c h (fun h=>?_) fun h=>?_)))
 refine T0 (Fp [(1,0),(2,1),(3,3)] 4 c fun _ c=>Bd h fun x6 hx6 h=>Cf [10] c (XK hx6) ⟨.f 0,.f 11,.f 12,.f 13,.f 14,.f 15,.f 16,tt⟩ call54 fun i4 _ _ c=>?_)
 replace c:=c.nf
 refine Eal pZ c fun b7 _ _ c=>?_
 refine Ess 12 (pM x6.1 i4) c fun _ c=>?_
 refine E0 (S0 (P0 [(3,5)] c fun _ c=>I0 c h (fun h=>?_) fun h=>?_))
 refine T0 (Fp [(0,2)] 1 c fun _ c=>?_)
 replace c:=c.ng
 replace c:=c.fzr 2 17
 replace c:=c.fzr 2 18
 replace c:=c.fz 2
 replace c:=c.fzr 2 19
 replace c:=c.fzr 2 20
 replace c:=c.fz 2
 refine Eltr 29 ([(Rw.Path.mk x2.Pc (hd i2.1 x2.Regs i2.2.1) (hd i2.p3 x2.Mem i2.p4) (hd i2.p6 x2.Stack i2.p7) x2.In (hd i2.p8 x2.Out i2.p9) 9 x2.Steps (hd i2.p11 x2.Cond i2.p12) (hd i2.p14 x2.Turns i2.q15))]:List Rw.Path) ([(D.Path.mk x2.Pc x2.Regs x2.Mem x2.Stack x2.In x2.Out 9 x2.Steps x2.Cond x2.Turns)]:List D.Path) c ⟨(Ava.mk_Path (D.Path.mk x2.Pc x2.Regs x2.Mem x2.Stack x2.In x2.Out 9 x2.Steps x2.Cond x2.Turns) (.f 28) (.f 29) (.f 30) (.f 31) (.f 32) (.f 33)),tt⟩ fun a3 c3 _ _ c=>?_
 refine Fp [] 1 c fun _ c=>E0 ?_
 replace c:=c.fzr 7 34
 cases h
 exact wp_ret (tr (tr (Rt c (a3,c3) [] [35])))
 refine K0 (T0 (Fp [(0,6)] 1 c fun _ c=>?_))
 replace c:=c.nf
 refine Bd h fun x7 hx7 h=>Cg c (Xq hx7) ⟨.f 22,.f 23,.f 24,.f 25,.f 26,.f 27,tt⟩ call51 fun i5 _ _ c=>?_
 replace c:=c.fzr 13 28
 replace c:=c.fzr 13 29
 replace c:=c.fz 13
 replace c:=c.fzr 13 30
 replace c:=c.fzr 13 31
 replace c:=c.fz 13
 refine Eltr 29 ([(Rw.Path.mk x7.Pc (hd i5.1 x7.Regs i5.2.1) (hd i5.p3 x7.Mem i5.p4) (hd i5.p6 x7.Stack i5.p7) x7.In (hd i5.p8 x7.Out i5.p9) x7.Code x7.Steps (hd i5.p11 x7.Cond i5.p12) (hd i5.p14 x7.Turns i5.q15))]:List Rw.Path) ([x7]:List D.Path) c ⟨(Ava.mk_Path x7 (.f 32) (.f 33) (.f 34) (.f 35) (.f 36) (.f 37)),tt⟩ fun a4 c4 _ _ c=>?_
 refine Fp [] 1 c fun _ c=>E0 ?_
 replace c:=c.fzr 13 38
 cases h
 exact wp_ret (tr (Rt c (a4,c4) [] [39]))
 refine K0 (S0 (T0 (Fp [(0,5)] 1 c fun _ c=>Bd h fun x8 hx8 h=>Cb c (Y6 hx8) ⟨.f 21,tt⟩ call53 fun _ _ _ c=>?_)))
 refine E0 (I0 c h (fun h=>?_) fun h=>?_)
 refine T0 (Fp [(0,1),(1,3)] 2 c fun _ c=>?_)
 replace c:=c.nf
 refine Bd h fun x9 hx9 h=>Cg c (ZcH hx9) ⟨.f 11,.f 12,.f 13,.f 14,.f 15,.f 16,tt⟩ call55 fun i6 _ _ c=>?_
 refine Eltr 29 ([(Rw.Path.mk x9.Pc (hd i6.1 x9.Regs i6.2.1) (hd i6.p2 x9.Mem i6.p3) (hd i6.p4 x9.Stack i6.p5) x9.In (hd i6.p6 x9.Out i6.p7) x9.Code x9.Steps (hd i6.p8 x9.Cond i6.p9) (hd i6.p10 x9.Turns i6.q11))]:List Rw.Path) ([x9]:List D.Path) c ⟨(Ava.mk_Path x9 (.f 22) (.f 23) (.f 24) (.f 25) (.f 26) (.f 27)),tt⟩ fun a5 c5 _ _ c=>?_
 refine Fp [] 1 c fun _ c=>E0 ?_
 replace c:=c.fzr 12 28
 cases h
 exact wp_ret (tr (Rt c (a5,c5) [] [29]))
 refine K0 (T0 (Fp [(1,5)] 2 c fun _ c=>?_))
 replace c:=c.nf
 refine Eltr 75 [(tR x4.1 i3.1 i3.2)] [x4.1] c ⟨(Ava.mk_Term x4.1 (.f 21)),tt⟩ fun a6 c6 _ _ c=>?_
 replace c:=c.fzr 12 22
 refine Bd h fun x10 hx10 h=>Cf [10] c (Zn hx10) ⟨.f 23,tt⟩ call56 fun i7 _ _ c=>?_
 replace c:=c.nf
 refine Eal tZ c fun b8 _ _ c=>?_
 refine Ess 12 (tC x10.1 i7.1 i7.2) c fun _ c=>?_
 refine E0 (S0 (S0 (Ry [(3,5),(6,1),(12,1)] mix c fun _ _ c=>I0 c h (fun h=>?_) fun h=>?_)))
 refine T0 (Fp [(0,2)] 1 c fun _ c=>?_)
 replace c:=c.ng
 replace c:=c.fzr 2 17
 replace c:=c.fzr 2 18
 replace c:=c.fz 2
 replace c:=c.fzr 2 19
 replace c:=c.fzr 2 20
 replace c:=c.fz 2
 refine Eltr 29 ([(Rw.Path.mk x2.Pc (hd i2.1 x2.Regs i2.2.1) (hd i2.p3 x2.Mem i2.p4) (hd i2.p6 x2.Stack i2.p7) x2.In (hd i2.p8 x2.Out i2.p9) 9 x2.Steps (hd i2.p11 x2.Cond i2.p12) (hd i2.p14 x2.Turns i2.q15))]:List Rw.Path) ([(D.Path.mk x2.Pc x2.Regs x2.Mem x2.Stack x2.In x2.Out 9 x2.Steps x2.Cond x2.Turns)]:List D.Path) c ⟨(Ava.mk_Path (D.Path.mk x2.Pc x2.Regs x2.Mem x2.Stack x2.In x2.Out 9 x2.Steps x2.Cond x2.Turns) (.f 25) (.f 26) (.f 27) (.f 28) (.f 29) (.f 30)),tt⟩ fun a7 c7 _ _ c=>?_
 refine Fp [] 1 c fun _ c=>E0 ?_
 replace c:=c.fzr 7 31
 cases h
 exact wp_ret (tr (Rt c (a7,c7) [] [32]))
 refine K0 (Bd h fun x11 hx11 h=>Bd h fun x12 hx12 h=>S0 (Jn (fun i:Nat × Hp=>([(3,B b2 0),(5,B b3 0),(6,B b4 0),(7,B b5 0),(8,B b6 0),(12,B i.1 0)],fun Γ=>(Γ.set 11 (BX b5 79 [.bool x12.2.bad])) ++ [BX i.1 29 (pM x12.1 i.2)],(pF x12.1 i.2))) c ?_ fun i17 _ _ c=>?_))
 refine As mix c fun _ c=>?_
 replace c:=Cx.frs [(2,B b1 0),(3,B b2 0),(5,B b3 0),(6,B b4 0),(7,B b5 0),(8,B b6 0),(11,B b8 0)] c
 refine Dq (fun i:Nat × Hp=>([(3,B b2 0),(5,B b3 0),(6,B b4 0),(7,B b5 0),(8,B b6 0),(12,B i.1 0)],fun Γ=>(Γ.set 11 (BX b5 79 [.bool x12.2.bad])) ++ [BX i.1 29 (pM x12.1 i.2)],(pF x12.1 i.2))) (bN 9 511) (fun i=>[]) c (fun i16=>?_) fun hd6=>?_
 obtain ⟨b15,a32,c32,a33,c33,a34,c34,a35,c35,a36,c36,a37,c37⟩:=i16
 refine qnE tt fun _ _ c=>?_
 exact nN (b15,a32,c32,a33,c33,a34,c34,a35,c35,a36,c36,a37,c37) (c.rk (rg 14) (rg 31))
 refine Dq (fun i:Nat × Hp=>([(3,B b2 0),(5,B b3 0),(6,B b4 0),(7,B b5 0),(8,B b6 0),(12,B i.1 0),(115,pJ x12.1 i.2)],fun Γ=>(Γ.set 11 (BX b5 79 [.bool x12.2.bad])) ++ [BX i.1 29 pZ],(pF x12.1 i.2))) (bN 9 255) (fun i=>[]) c (fun i14=>?_) fun hd5=>?_
 obtain ⟨b14,a26,c26,a27,c27,a28,c28,a29,c29,a30,c30,a31,c31⟩:=i14
 refine qn [8] tt ⟨fun _ _ c=>?_,tt⟩
 refine Zf _ rfl rfl ?_
 try simp only [l3,l4,l5,l6] at c
 refine Ess 13 (pC x12.1 a26 c26 a27 c27 a28 c28 a29 c29 a30 c30 a31 c31) c fun _ c=>?_
 refine E0 (nQ hd6 (b14,a26,c26,a27,c27,a28,c28,a29,c29,a30,c30,a31,c31) (c.rk (rg 14) (rg 31)))
 refine Dq (fun i:Hp=>([(3,B b2 0),(5,B b3 0),(6,B b4 0),(7,B b5 0),(8,B b6 0),(115,pJ x12.1 i)],fun Γ=>Γ.set 11 (BX b5 79 [.bool x12.2.bad]),(pF x12.1 i))) (bN 9 127) (fun i=>[]) c (fun i11=>?_) fun hd3=>?_
 obtain ⟨a14,c14,a15,c15,a16,c16,a17,c17,a18,c18,a19,c19⟩:=i11
 refine qn [7] tt ⟨fun _ _ c=>?_,tt⟩
 refine Zf _ rfl rfl ?_
 try simp only [l3,l4,l5,l6] at c
 refine Eal pZ c fun b13 _ _ c=>?_
 refine E0 (nQ hd5 (b13,a14,c14,a15,c15,a16,c16,a17,c17,a18,c18,a19,c19) (c.rk (rg 14) (rg 31)))
 refine Dq (fun i:Nat × Hp=>([(2,B b1 0),(3,B b2 0),(5,B b3 0),(6,B b4 0),(7,B b5 0),(8,B b6 0),(12,B i.1 0),(113,pJ x11 i.2)],fun Γ=>Γ ++ [BX i.1 29 pZ],(pF x11 i.2))) (bN 9 156) (fun i=>[(0,109,B b5 0),(1,110,gV p0 ga0 gc1),(5,114,nV x3)]) c (fun i12=>?_) fun hd4=>?_
 obtain ⟨b12,a20,c20,a21,c21,a22,c22,a23,c23,a24,c24,a25,c25⟩:=i12
 refine qn [6] ⟨qP [],qP [(0,0)],qP [(0,3)],tt⟩ ⟨fun _ _ c=>?_,tt⟩
 refine Zf _ rfl rfl ?_
 try simp only [l3,l4,l5,l6] at c
 refine Cf [11] c (XK hx12) ⟨.f 0,.f 25,.f 26,.f 27,.f 28,.f 29,.f 30,tt⟩ call54 fun i15 _ _ c=>?_
 refine E0 (nQ hd5 (b12,i15.1,i15.2.1,i15.p2,i15.p3,i15.p4,i15.p5,i15.p6,i15.p7,i15.p8,i15.p9,i15.p10,i15.q11) (c.rk [0,1,2,3,4,5,6,7,8,9,10,13,11,12] [0,1,2,3,4,5,6,7,8,9,10,11,12,13,14,15,16,17,18,19,20,21,22,23,24,31,32,33,34,35,36]))
 refine Dq (fun i:Hp=>([(2,B b1 0),(3,B b2 0),(5,B b3 0),(6,B b4 0),(7,B b5 0),(8,B b6 0),(113,pJ x11 i)],id,(pF x11 i))) (bN 9 28) (fun i=>[(0,109,B b5 0),(1,110,gV p0 ga0 gc1),(5,114,nV x3)]) c (fun i9=>?_) fun hd1=>?_
 obtain ⟨a8,c8,a9,c9,a10,c10,a11,c11,a12,c12,a13,c13⟩:=i9
 refine qn [6,7] ⟨qP [],qP [(0,0)],qP [(0,3)],tt⟩ ⟨fun _ _ c=>?_,fun _ _ c=>?_,tt⟩
 refine Zf _ rfl rfl ?_
 try simp only [l3,l4,l5,l6] at c
 refine Cf [11] c (XK hx12) ⟨.f 0,.f 25,.f 26,.f 27,.f 28,.f 29,.f 30,tt⟩ call54 fun i10 _ _ c=>?_
 refine E0 (nQ hd3 (i10.1,i10.2.1,i10.p2,i10.p3,i10.p4,i10.p5,i10.p6,i10.p7,i10.p8,i10.p9,i10.p10,i10.q11) (c.rk [0,1,2,3,4,5,6,7,8,9,10,12,11] [0,1,2,3,4,5,6,7,8,9,10,11,12,13,14,15,16,17,18,19,20,21,22,23,24,31,32,33,34,35,36]))
 refine Zf _ rfl rfl ?_
 try simp only [l3,l4,l5,l6] at c
 refine Eal pZ c fun b11 _ _ c=>?_
 refine E0 (nQ hd4 (b11,a8,c8,a9,c9,a10,c10,a11,c11,a12,c12,a13,c13) (c.rk (rg 14) (rg 31)))
 refine Dq (fun i:Nat=>([(2,B b1 0),(3,B b2 0),(5,B b3 0),(6,B b4 0),(7,B b5 0),(8,B b6 0),(11,B b8 0),(12,B i 0)],fun Γ=>Γ ++ [BX i 29 pZ],[])) (bN 9 128) (fun i=>[(0,109,B b5 0),(1,110,gV p0 ga0 gc1),(2,111,.agg #[I x1.Pc,L i1.1 x1.Regs i1.2.1,L i1.p3 x1.Mem i1.p4,L i1.p6 x1.Stack i1.p7,I x1.In,L i1.p8 x1.Out i1.p9,I x1.Code,I (w64 (x1.Steps + 1)),L i1.p11 x1.Cond i1.p12,L i1.p14 x1.Turns i1.q15]),(3,112,tV x10.1 i7.1 i7.2),(5,114,nV x3)]) c (fun b10=>?_) fun hd2=>?_
 refine qn [4] ⟨qP [],qP [(0,0)],qP [(0,1)],qP [(0,6)],qP [(0,3)],tt⟩ ⟨fun _ _ c=>?_,tt⟩
 refine Zf _ rfl rfl ?_
 try simp only [l3,l4,l5,l6] at c
 refine Cg c (Zb4 hx11) ⟨.f 11,.f 12,.f 13,.f 14,.f 15,.f 16,.f 24,tt⟩ call57 fun i13 _ _ c=>?_
 refine E0 (nQ hd4 (b10,i13.1,i13.2.1,i13.p2,i13.p3,i13.p4,i13.p5,i13.p6,i13.p7,i13.p8,i13.p9,i13.p10,i13.q11) (c.rk (rg 14) (rg 31)))
 refine q0 (qs:=[(0,109,B b5 0),(1,110,gV p0 ga0 gc1),(2,111,.agg #[I x1.Pc,L i1.1 x1.Regs i1.2.1,L i1.p3 x1.Mem i1.p4,L i1.p6 x1.Stack i1.p7,I x1.In,L i1.p8 x1.Out i1.p9,I x1.Code,I (w64 (x1.Steps + 1)),L i1.p11 x1.Cond i1.p12,L i1.p14 x1.Turns i1.q15]),(3,112,tV x10.1 i7.1 i7.2),(5,114,nV x3)]) c (qn [4,7] ⟨qP [],qP [(0,0)],qP [(0,1)],qP [(0,6)],qP [(0,3)],tt⟩ ⟨fun _ _ c=>?_,fun _ _ c=>?_,tt⟩)
 refine Zf _ rfl rfl ?_
 try simp only [l3,l4,l5,l6] at c
 replace c:=c.nf
 refine Cg c (Zb4 hx11) ⟨.f 11,.f 12,.f 13,.f 14,.f 15,.f 16,.f 24,tt⟩ call57 fun i8 _ _ c=>?_
 refine E0 (nQ hd1 (i8.1,i8.2.1,i8.p2,i8.p3,i8.p4,i8.p5,i8.p6,i8.p7,i8.p8,i8.p9,i8.p10,i8.q11) (c.rk (rg 13) (rg 31)))
 refine Zf _ rfl rfl ?_
 try simp only [l3,l4,l5,l6] at c
 replace c:=c.nf
 refine Eal pZ c fun b9 _ _ c=>?_
 refine E0 (nQ hd2 (b9) (c.rk (rg 14) (rg 25)))
 obtain ⟨b16,a38,c38,a39,c39,a40,c40,a41,c41,a42,c42,a43,c43⟩:=i17
 refine S0 (P0 [(3,5)] c fun _ c=>I0 c h (fun h=>?_) fun h=>?_)
 refine T0 (Fp [(0,2)] 1 c fun _ c=>?_)
 replace c:=c.fzr 2 17
 replace c:=c.fzr 2 18
 replace c:=c.fz 2
 replace c:=c.fzr 2 19
 replace c:=c.fzr 2 20
 replace c:=c.fz 2
 refine Eltr 29 ([(Rw.Path.mk x2.Pc (hd i2.1 x2.Regs i2.2.1) (hd i2.p3 x2.Mem i2.p4) (hd i2.p6 x2.Stack i2.p7) x2.In (hd i2.p8 x2.Out i2.p9) 9 x2.Steps (hd i2.p11 x2.Cond i2.p12) (hd i2.p14 x2.Turns i2.q15))]:List Rw.Path) ([(D.Path.mk x2.Pc x2.Regs x2.Mem x2.Stack x2.In x2.Out 9 x2.Steps x2.Cond x2.Turns)]:List D.Path) c ⟨(Ava.mk_Path (D.Path.mk x2.Pc x2.Regs x2.Mem x2.Stack x2.In x2.Out 9 x2.Steps x2.Cond x2.Turns) (.f 31) (.f 32) (.f 33) (.f 34) (.f 35) (.f 36)),tt⟩ fun a44 c44 _ _ c=>?_
 refine Fp [] 1 c fun _ c=>E0 ?_
 replace c:=c.fzr 8 37
 cases h
 exact wp_ret (tr (Rt c (a44,c44) [] [38]))
 refine K0 (Bd h fun x13 hx13 h=>Bd h fun x14 hx14 h=>Bd h fun x15 hx15 h=>S0 (Jn (fun i:Ob (List Rw.Path)=>([(4,L i.1 ([x14,x15]:List D.Path) i.2.1)],fun Γ=>Γ ++ [sl29 (L i.1 ([x14,x15]:List D.Path) i.2.1) (i.q2)],[CS (i.q2) ([x14,x15]:List D.Path)])) c ?_ fun i25 _ _ c=>?_))
 refine As mix c fun _ c=>?_
 replace c:=Cx.frs [(3,B b2 0),(6,B b4 0),(8,B b6 0),(12,B b16 0)] c
 refine Dq (fun i:Ob (List Rw.Path)=>([(129,L i.1 ([x14,x15]:List D.Path) i.2.1)],fun Γ=>Γ ++ [sl29 (L i.1 ([x14,x15]:List D.Path) i.2.1) (i.q2)],[CS (i.q2) ([x14,x15]:List D.Path)])) (bN 9 255) (fun i=>[(8,4,L i.1 ([x14,x15]:List D.Path) i.2.1)]) c (fun i24=>?_) fun hd10=>?_
 obtain ⟨a70,c70,rs5⟩:=i24
 refine qnE ⟨qP [],tt⟩ fun _ _ c=>?_
 exact nN (a70,c70,rs5) (c.rk (rg 15) (rg 32))
 refine Dq (fun i:Hq (Ob (List Rw.Term × Ob (List Rw.Term × Ob (Ob (List Rw.Term × Ob (List Rw.Term × Oh))))))=>([(126,pK x14 i),(128,pV x15 i.p12 i.p13 i.p15 i.p16 i.p18 i.p19 i.p20 i.p21 i.p23 i.p24 i.p26 i.q27)],fun Γ=>Γ ++ [sl75 (L i.p12 x15.Regs i.p13) (i.p14),sl75 (L i.p15 x15.Mem i.p16) (i.p17),sl3 (L i.p18 x15.Stack i.p19) x15.Stack,sl75 (L i.p20 x15.Out i.p21) (i.p22),sl75 (L i.p23 x15.Cond i.p24) (i.p25),sl3 (L i.p26 x15.Turns i.q27) x15.Turns],[lR i.1 x14.Regs i.2.1,lR i.p2 x14.Mem i.p3,lR i.p4 x14.Stack i.p5,lR i.p6 x14.Out i.p7,lR i.p8 x14.Cond i.p9,lR i.p10 x14.Turns i.p11,CS (i.p14) x15.Regs,CS (i.p17) x15.Mem,CS (i.p22) x15.Out,CS (i.p25) x15.Cond])) (bN 9 127) (fun i=>[]) c (fun i23=>?_) fun hd9=>?_
 obtain ⟨a57,c57,a58,c58,a59,c59,a60,c60,a61,c61,a62,c62,a63,c63,rs1,a64,c64,rs2,a65,c65,a66,c66,rs3,a67,c67,rs4,a68,c68⟩:=i23
 refine qn [7] tt ⟨fun _ _ c=>?_,tt⟩
 refine Zf _ rfl rfl ?_
 try simp only [l3,l4,l5,l6] at c
 replace c:=c.fzr 14 37
 replace c:=c.fzr 14 38
 replace c:=c.fz 14
 replace c:=c.fzr 14 39
 replace c:=c.fzr 14 40
 replace c:=c.fz 14
 refine Eltr 29 ([(Rw.Path.mk x14.Pc (hd a57 x14.Regs c57) (hd a58 x14.Mem c58) (hd a59 x14.Stack c59) x14.In (hd a60 x14.Out c60) x14.Code x14.Steps (hd a61 x14.Cond c61) (hd a62 x14.Turns c62)),(Rw.Path.mk x15.Pc (hd a63 x15.Regs c63) (hd a64 x15.Mem c64) (hd a65 x15.Stack c65) x15.In (hd a66 x15.Out c66) x15.Code x15.Steps (hd a67 x15.Cond c67) (hd a68 x15.Turns c68))]:List Rw.Path) ([x14,x15]:List D.Path) c ⟨(Ava.mk_Path x14 (.f 31) (.f 32) (.f 33) (.f 34) (.f 35) (.f 36)),(Ava.mk_Path x15 (.f 41) (.f 42) (.f 43) (.f 44) (.f 45) (.f 46)),tt⟩ fun a69 c69 _ _ c=>?_
 refine E0 (nQ hd10 (a69,c69,([(Rw.Path.mk x14.Pc (hd a57 x14.Regs c57) (hd a58 x14.Mem c58) (hd a59 x14.Stack c59) x14.In (hd a60 x14.Out c60) x14.Code x14.Steps (hd a61 x14.Cond c61) (hd a62 x14.Turns c62)),(Rw.Path.mk x15.Pc (hd a63 x15.Regs c63) (hd a64 x15.Mem c64) (hd a65 x15.Stack c65) x15.In (hd a66 x15.Out c66) x15.Code x15.Steps (hd a67 x15.Cond c67) (hd a68 x15.Turns c68))]:List Rw.Path)) (c.rk (rg 15) [0,1,2,3,4,5,6,7,8,9,10,11,12,13,14,15,16,17,18,19,20,21,22,23,24,25,26,27,28,29,30,47]))
 refine Dq (fun i:Hp=>([(12,B b16 0),(126,pJ x14 i)],id,(pF x14 i))) (bN 9 31) (fun i=>[(5,127,pV x12.1 a38 c38 a39 c39 a40 c40 a41 c41 a42 c42 a43 c43)]) c (fun i21=>?_) fun hd8=>?_
 obtain ⟨a51,c51,a52,c52,a53,c53,a54,c54,a55,c55,a56,c56⟩:=i21
 refine qn [6] ⟨qP [(0,7)],tt⟩ ⟨fun _ _ c=>?_,tt⟩
 refine Zf _ rfl rfl ?_
 try simp only [l3,l4,l5,l6] at c
 refine Cg c (Xq hx15) ⟨.f 25,.f 26,.f 27,.f 28,.f 29,.f 30,tt⟩ call51 fun i22 _ _ c=>?_
 refine E0 (nQ hd9 (a51,c51,a52,c52,a53,c53,a54,c54,a55,c55,a56,c56,i22.1,i22.2.1,i22.p2,i22.p3,i22.p4,i22.p5,i22.p6,i22.p7,i22.p8,i22.p9,i22.p10,i22.p11,i22.p12,i22.p13,i22.p14,i22.q15) (c.rk (rg 20) (rg 41)))
 refine Dq (fun i:Hp=>([(6,B b4 0),(12,B b16 0),(124,pJ x13 i)],id,(pF x13 i))) (bN 9 7) (fun i=>[(3,125,nV x3),(5,127,pV x12.1 a38 c38 a39 c39 a40 c40 a41 c41 a42 c42 a43 c43)]) c (fun i19=>?_) fun hd7=>?_
 obtain ⟨a45,c45,a46,c46,a47,c47,a48,c48,a49,c49,a50,c50⟩:=i19
 refine qn [4] ⟨qP [(0,3)],qP [(0,7)],tt⟩ ⟨fun _ _ c=>?_,tt⟩
 refine Zf _ rfl rfl ?_
 try simp only [l3,l4,l5,l6] at c
 refine Cg c (ZcH hx14) ⟨.f 31,.f 32,.f 33,.f 34,.f 35,.f 36,tt⟩ call55 fun i20 _ _ c=>?_
 refine E0 (nQ hd8 (i20.1,i20.2.1,i20.p2,i20.p3,i20.p4,i20.p5,i20.p6,i20.p7,i20.p8,i20.p9,i20.p10,i20.q11) (c.rk (rg 14) [0,1,2,3,4,5,6,7,8,9,10,11,12,13,14,15,16,17,18,19,20,21,22,23,24,25,26,27,28,29,30,37,38,39,40,41,42]))
 refine q0 (qs:=[(0,122,.agg #[I x1.Pc,L i1.1 x1.Regs i1.2.1,L i1.p3 x1.Mem i1.p4,L i1.p6 x1.Stack i1.p7,I x1.In,L i1.p8 x1.Out i1.p9,I x1.Code,I (w64 (x1.Steps + 1)),L i1.p11 x1.Cond i1.p12,L i1.p14 x1.Turns i1.q15]),(1,123,tV x4.1 i3.1 i3.2),(3,125,nV x3),(5,127,pV x12.1 a38 c38 a39 c39 a40 c40 a41 c41 a42 c42 a43 c43)]) c (qn [2] ⟨qP [(0,1)],qP [(0,4)],qP [(0,3)],qP [(0,7)],tt⟩ ⟨fun _ _ c=>?_,tt⟩)
 refine Zf _ rfl rfl ?_
 try simp only [l3,l4,l5,l6] at c
 refine Cg c (Zb4 hx13) ⟨.f 11,.f 12,.f 13,.f 14,.f 15,.f 16,.f 21,tt⟩ call57 fun i18 _ _ c=>?_
 refine E0 (nQ hd7 (i18.1,i18.2.1,i18.p2,i18.p3,i18.p4,i18.p5,i18.p6,i18.p7,i18.p8,i18.p9,i18.p10,i18.q11) (c.rk (rg 14) (rg 37)))
 obtain ⟨a71,c71,rs6⟩:=i25
 replace c:=c.fzr 14 31
 cases h
 exact wp_ret (Rt c (a71,c71) [] [32])
theorem Zec {p0 p1 r} (h:Za1 n p0 p1 = some r):Cl 18 [gV p0 ga0 gc1,pV p1 ga2 gc3 ga4 gc5 ga6 gc7 ga8 gc9 ga10 gc11 ga12 gc13] [lR ga0 p0.Code gc1,lR ga2 p1.Regs gc3,lR ga4 p1.Mem gc5,lR ga6 p1.Stack gc7,lR ga8 p1.Out gc9,lR ga10 p1.Cond gc11,lR ga12 p1.Turns gc13] r:=by
 unfold Za1 at h
 refine En func18 rfl ntmps18 fun _ fr w c=>?_
 refine T0 (Ebx (gC p0 ga0 gc1) c fun b1 _ _ c=>?_)
 refine Ebx (pC p1 ga2 gc3 ga4 gc5 ga6 gc7 ga8 gc9 ga10 gc11 ga12 gc13) c fun b2 _ _ c=>?_
 refine Fp [] 1 c fun _ c=>E0 (S0 (T0 (Fp [(0,0),(1,1)] 2 c fun _ c=>Bd h fun x1 hx1 h=>Cb c (ZeN hx1) ⟨.f 0,.f 1,.f 2,.f 3,.f 4,.f 5,.f 6,tt⟩ call43 fun _ _ _ c=>?_)))
 refine Fp [] 1 c fun _ c=>E0 (I0 c h (fun h=>?_) fun h=>?_)
 refine P0 [] c fun _ c=>?_
 cases h
 replace c:=c.nilf (α:=D.Path)
 exact wp_ret (tr (Rt c (none,0) [] [7]))
 refine K0 (T0 (Fp [(0,0),(1,1)] 2 c fun _ c=>Bd h fun x2 hx2 h=>Cg c (Ze6 hx2) ⟨.f 0,.f 1,.f 2,.f 3,.f 4,.f 5,.f 6,tt⟩ call28 fun i1 _ _ c=>?_))
 refine Fp [] 1 c fun _ c=>E0 ?_
 obtain rfl:=sj h
 exact wp_ret (Rt c (i1.1,i1.2) [] [7])
theorem Ze9 {p0 p1 r} (h:ZbD p0 p1 = some r):C0 59 [I p0,I p1] [] (.bool r):=by
 unfold ZbD at h
 refine En func59 rfl ntmps59 fun _ fr w c=>?_
 refine P0 [] c fun _ c=>S0 (Ry [] mix c fun _ _ c=>?_)
 exact rE
theorem YY {p0 r} (h:ZF p0 = some r):C0 82 [I p0] [] (.bool r):=by
 unfold ZF at h
 refine En func82 rfl ntmps82 fun _ fr w c=>?_
 refine P0 [] c fun _ c=>S0 (Ry [] mix c fun _ _ c=>?_)
 exact rE
theorem Ya {p0 p1 r} (h:ZW p0 p1 = some r):C0 60 [I p0,I p1] [] (.bool r):=by
 unfold ZW at h
 refine En func60 rfl ntmps60 fun _ fr w c=>?_
 refine P0 [] c fun _ c=>Bd h fun x1 hx1 h=>Bd h fun x2 hx2 h=>S0 (rZ [(1,.eq (.bool x1)),(10,.eq (I x2))] [] mix c ⟨Ncl c (kN (YY hx1)) tt call82,Nshl c (gT hx2),tt⟩ fun _ _ c=>?_)
 exact rE
theorem Xz {p0 r} (h:Xo p0 = some r):C0 83 [I p0] [] (.bool r):=by
 unfold Xo at h
 refine En func83 rfl ntmps83 fun _ fr w c=>?_
 refine P0 [] c fun _ c=>S0 (Ry [] mix c fun _ _ c=>?_)
 exact rE
theorem Zdo {p0 r} (h:XP p0 = some r):C0 84 [I p0] [] (.bool r):=by
 unfold XP at h
 refine En func84 rfl ntmps84 fun _ fr w c=>?_
 refine P0 [] c fun _ c=>S0 (Ry [] mix c fun _ _ c=>?_)
 exact rE
theorem ZfK {p0 p1 p2 r} (h:ZaF p0 p1 p2 = some r):C0 61 [nV p0,I p1,I p2] [] (.bool r):=by
 unfold ZaF at h
 refine En func61 rfl ntmps61 fun _ fr w c=>?_
 refine T0 (Ebx (nC p0) c fun b1 _ _ c=>?_)
 refine Fp [] 1 c fun _ c=>E0 (S0 (Ry [(1,0),(5,0)] mix c fun _ _ c=>S0 (P0 [(1,0)] c fun _ c=>I0 c h (fun h=>?_) fun h=>?_)))
 refine Bd h fun x1 hx1 h=>Bd h fun x2 hx2 h=>Bd h fun x3 hx3 h=>S0 (rZ [(2,.eq (.bool x1)),(6,.eq (.bool x2)),(11,.eq (.bool x3))] [(1,0),(5,0),(10,0)] mix c ⟨Ncl c (kN (Xz hx1)) tt call83,Ncl c (fun hg=>Xz (iteT (gcT hg) hx2)) tt call83,Ncl c (fun hg=>Zdo (iteT (gcT hg) hx3)) tt call84,tt⟩ fun _ _ c=>?_)
 exact rE
 refine K0 (S0 (P0 [(1,0)] c fun _ c=>I0 c h (fun h=>P0 [] c fun _ c=>rE) fun h=>?_))
 refine K0 (S0 (P0 [(1,0)] c fun _ c=>wp_block (P0 [] c fun _ c=>I0 c h (fun h=>?_) fun h=>?_)))
 refine Bd h fun x4 hx4 h=>Bd h fun x5 hx5 h=>S0 (rZ [(2,.eq (.bool x4)),(7,.eq (.bool x5))] [(1,0),(6,0)] mix c ⟨Ncl c (kN (Xz hx4)) tt call83,Ncl c (fun hg=>Ya (iteT (gcT hg) hx5)) tt call60,tt⟩ fun _ _ c=>?_)
 exact rE
 refine S0 (P0 [] c fun _ c=>Bd h fun rl1 hit1 h=>?_)
 have hk1:=h
 refine Jr (fun s  (_:Unit)=>([(3,B b1 0),(7,.bool ((decide (p0.B ≥ 0)) && (decide (p0.B ≤ p2)))),(37,I p0.Op),(49,.bool s)],id,[])) hit1 c (fun h=>?_) fun s1r _ _ _ hrl c=>?_
 refine I0 c h (fun h=>?_) fun h=>?_
 refine K0 (⟨_,(),(sk h),c.rk [0] []⟩)
 refine P0 [] c fun _ c=>Mp (p0.Op == 7) [(49,.bool (p0.Op == 7))] [(49,.bool (p0.Op == 8))] [(49,.bool ((p0.Op == 7) || (p0.Op == 8)))] [49,52] c fun _ c=>⟨_,(),(sk h),c.rk [0] []⟩
 subst hrl
 refine I0 c h (fun h=>?_) fun h=>?_
 refine Bd h fun x6 hx6 h=>Bd h fun x7 hx7 h=>S0 (rZ [(2,.eq (.bool x6)),(6,.eq (.bool x7))] [(1,0),(5,0)] mix c ⟨Ncl c (kN (Xz hx6)) tt call83,Ncl c (fun hg=>Xz (iteT (gcT hg) hx7)) tt call83,tt⟩ fun _ _ c=>?_)
 exact rE
 refine S0 (P0 [] c fun _ c=>Bd h fun rl2 hit2 h=>?_)
 have hk2:=h
 refine Jr (fun s  (_:Unit)=>([(3,B b1 0),(7,.bool ((decide (p0.B ≥ 0)) && (decide (p0.B ≤ p2)))),(37,I p0.Op),(61,.bool s)],id,[])) hit2 c (fun h=>?_) fun s2r _ _ _ hrl c=>?_
 refine I0 c h (fun h=>?_) fun h=>?_
 refine K0 (⟨_,(),(sk h),c.rk [0] []⟩)
 refine P0 [] c fun _ c=>I0 c h (fun h=>?_) fun h=>?_
 refine K0 (⟨_,(),(sk h),c.rk [0] []⟩)
 refine P0 [] c fun _ c=>Mp (p0.Op == 6) [(61,.bool (p0.Op == 6))] [(61,.bool (p0.Op == 13))] [(61,.bool ((p0.Op == 6) || (p0.Op == 13)))] [61,65] c fun _ c=>⟨_,(),(sk h),c.rk [0] []⟩
 subst hrl
 refine I0 c h (fun h=>?_) fun h=>?_
 refine Bd h fun x8 hx8 h=>S0 (rZ [(2,.eq (.bool x8))] [(1,0),(5,0)] mix c ⟨Ncl c (kN (Xz hx8)) tt call83,tt⟩ fun _ _ c=>?_)
 exact rE
 refine S0 (P0 [] c fun _ c=>Mp (p0.Op == 9) [(74,.bool (p0.Op == 9))] [(74,.bool (p0.Op == 11))] [(74,.bool ((p0.Op == 9) || (p0.Op == 11)))] [74,76] c fun _ c=>I0 c h (fun h=>?_) fun h=>?_)
 refine S0 (Ry [(1,0)] mix c fun _ _ c=>?_)
 exact rE
 refine P0 [] c fun _ c=>I0 c h (fun h=>?_) fun h=>?_
 refine Bd h fun x9 hx9 h=>S0 (rZ [(2,.eq (.bool x9))] [(1,0)] mix c ⟨Ncl c (kN (Xz hx9)) tt call83,tt⟩ fun _ _ c=>?_)
 exact rE
 refine S0 (P0 [] c fun _ c=>Mp (p0.Op == 12) [(91,.bool (p0.Op == 12))] [(91,.bool (p0.Op == 14))] [(91,.bool ((p0.Op == 12) || (p0.Op == 14)))] [91,93] c fun _ c=>I0 c h (fun h=>?_) fun h=>K1 (bk (tn (P0 [] c fun _ c=>rE))))
 refine S0 (Ry [(1,0),(5,0)] mix c fun _ _ c=>?_)
 exact rE
theorem ZdO {p0 r} (h:Zaf n p0 = some r):C0 30 [gV p0 ga0 gc1] [lR ga0 p0.Code gc1] (.bool r):=by
 unfold Zaf at h
 refine En func30 rfl ntmps30 fun _ fr w c=>?_
 refine T0 (Ebx (gC p0 ga0 gc1) c fun b1 _ _ c=>?_)
 refine Fp [] 1 c fun _ c=>E0 (S0 (Bd h fun x1 hx1 h=>Bd h fun x2 hx2 h=>S0 (rZ [(5,.eq (.bool x1)),(22,.eq (.bool x2))] [(1,0),(3,0),(9,0),(14,0),(19,0),(21,0)] mix c ⟨Ncl c (kN (Ze9 hx1)) tt call59,Ncl c (fun hg=>Ya (iteF (gcF hg) hx2)) tt call60,tt⟩ fun _ _ c=>I0 c h (fun h=>?_) fun h=>?_)))
 exact P0 [] c fun _ c=>rE
 refine K0 (S0 (S0 (Ry [(1,0),(5,0)] mix c fun _ _ c=>I0 c h (fun h=>?_) fun h=>?_)))
 exact P0 [] c fun _ c=>rE
 refine K0 (S0 (P0 [(1,0)] c fun _ c=>Bd h fun rl1 hit1 h=>?_))
 have hk1:=h
 refine LpR (fun s1  (_:Unit)=>([(1,B b1 0),(39,L ga0 p0.Code gc1),(40,I (len p0.Code)),(41,I s1)],id,[])) (fun s  (_:Unit)=>([],id,[])) hit1 c () (c.rk [0] [0]) (fun s1 q1 _ _ _ c h hr1=>?_) fun s1r _ _ _ hrl c=>?_
 refine P0 [] c fun _ c=>S0 (I0 c h (fun h=>?_) fun h=>?_)
 refine K0 (S0 (wp_block (T0 (Bd h fun x3 hx3 h=>Eel c (.f 0) hx3 fun _ _ c=>?_))))
 refine Eal [I 0,I 0,I 0,I 0] c fun b2 _ _ c=>?_
 refine Ess 1 (nC x3) c fun _ c=>?_
 refine E0 (T0 (Fp [(0,1),(2,0),(4,0)] 6 c fun _ c=>Bd h fun x4 hx4 h=>Cb c (ZfK hx4) tt call61 fun _ _ _ c=>?_))
 refine Fp [] 1 c fun _ c=>E0 (I0 c h (fun h=>?_) fun h=>?_)
 refine P0 [] c fun _ c=>?_
 obtain rfl:=hr1 _ (sk h)
 obtain rfl:=sj hk1
 exact wp_ret (br (tr (tr (br (tr (Rt c () [] []))))))
 refine K1 (bk (tn (P1 [] c fun _ c=>Nx h () (c.rk [0] [0]))))
 refine wp_exit (te (te (be ?_)))
 obtain rfl:=hr1 _ (sk h)
 exact tn ⟨_,(),rfl,c.rk [0] [0]⟩
 subst hrl
 exact P0 [] c fun _ c=>rE
theorem ZcA {p0 p1 r} (h:XG p0 p1 = some r):C0 71 [gV p0 ga0 gc1,I p1] [lR ga0 p0.Code gc1] (.bool r):=by
 unfold XG at h
 refine En func71 rfl ntmps71 fun _ fr w c=>?_
 refine T0 (Ebx (gC p0 ga0 gc1) c fun b1 _ _ c=>?_)
 refine Fp [] 1 c fun _ c=>E0 (S0 (Ry [(5,0)] mix c fun _ _ c=>?_))
 exact rE
theorem Zf9 {p0 r} (h:Zbo p0 = some r):C0 31 [I p0] [] (.bool r):=by
 unfold Zbo at h
 refine En func31 rfl ntmps31 fun _ fr w c=>?_
 refine P0 [] c fun _ c=>S0 (Ry [] mix c fun _ _ c=>?_)
 exact rE
theorem Ze2 {p0 r} (h:ZaY n p0 = some r):C0 32 [L ga0 p0 gc1] [lR ga0 p0 gc1] (.bool r):=by
 unfold ZaY at h
 refine En func32 rfl ntmps32 fun _ fr w c=>?_
 refine P0 [] c fun _ c=>S0 (P0 [] c fun _ c=>Bd h fun rl1 hit1 h=>?_)
 have hk1:=h
 refine LpR (fun s1  (_:Unit)=>([(5,L ga0 p0 gc1),(6,I (len p0)),(7,I s1)],id,[])) (fun s  (_:Unit)=>([],id,[])) hit1 c () (c.rk [] [0]) (fun s1 q1 _ _ _ c h hr1=>?_) fun s1r _ _ _ hrl c=>?_
 refine P0 [] c fun _ c=>S0 (I0 c h (fun h=>?_) fun h=>?_)
 refine K0 (S0 (wp_block (T0 (Bd h fun x1 hx1 h=>Eel c (.f 0) hx1 fun _ _ c=>?_))))
 refine Fp [] 1 c fun _ c=>E0 (S0 (Ry [] mix c fun _ _ c=>I0 c h (fun h=>?_) fun h=>?_))
 refine P0 [] c fun _ c=>?_
 obtain rfl:=hr1 _ (sk h)
 obtain rfl:=sj hk1
 exact wp_ret (br (tr (tr (br (tr (Rt c () [] []))))))
 refine K1 (bk (tn (P1 [] c fun _ c=>Nx h () (c.rk [] [0]))))
 refine wp_exit (te (te (be ?_)))
 obtain rfl:=hr1 _ (sk h)
 exact tn ⟨_,(),rfl,c.rk [] [0]⟩
 subst hrl
 exact P0 [] c fun _ c=>rE
theorem Zea {p0 r} (h:YM p0 = some r):C0 119 [I p0] [] (I r):=by
 unfold YM at h
 refine En func119 rfl ntmps119 fun _ fr w c=>?_
 refine P0 [] c fun _ c=>S0 (wp_block (S0 (Ry [] mix c fun _ _ c=>I0 c h (fun h=>?_) fun h=>?_)))
 exact P0 [] c fun _ c=>rE
 refine S0 (Ry [] mix c fun _ _ c=>I0 c h (fun h=>?_) fun h=>?_)
 exact P0 [] c fun _ c=>rE
 refine S0 (Ry [] mix c fun _ _ c=>I0 c h (fun h=>?_) fun h=>?_)
 exact P0 [] c fun _ c=>rE
 exact P0 [] c fun _ c=>I0 c h (fun h=>P0 [] c fun _ c=>rE) fun h=>K1 (bk (tn (P0 [] c fun _ c=>rE)))
theorem Zd6 {p0 r} (h:Zaa p0 = some r):C0 120 [tV p0 ga0 gc1] [lR ga0 p0.Kids gc1] (.bool r):=by
 unfold Zaa at h
 refine En func120 rfl ntmps120 fun _ fr w c=>?_
 refine T0 (Ebx (tC p0 ga0 gc1) c fun b1 _ _ c=>?_)
 refine Fp [] 1 c fun _ c=>E0 (P0 [(1,0)] c fun _ c=>S0 (wp_block (S0 (Ry [(1,0),(5,0)] mix c fun _ _ c=>I0 c h (fun h=>?_) fun h=>?_))))
 exact P0 [] c fun _ c=>rE
 refine S0 (Ry [(1,0),(5,0)] mix c fun _ _ c=>I0 c h (fun h=>?_) fun h=>?_)
 refine Bd h fun x1 hx1 h=>?_
 obtain ⟨ep1,u1,c⟩:=c.elp (.f 0) hx1
 obtain ⟨a1,c1,rfl,c⟩:=c.o_Term 2
 refine S0 (rZ [(1,.eq (.pointer (some ep1))),(3,.eq (I x1.W))] [(5,0)] mix c ⟨Nie c 1,Nlc c 1 1,tt⟩ fun _ _ c=>?_)
 exact rE
 refine S0 (Ry [(1,0),(5,0)] mix c fun _ _ c=>I0 c h (fun h=>?_) fun h=>?_)
 refine Bd h fun x2 hx2 h=>?_
 obtain ⟨ep2,u2,c⟩:=c.elp (.f 0) hx2
 obtain ⟨a2,c2,rfl,c⟩:=c.o_Term 2
 refine Bd h fun x3 hx3 h=>S0 (rZ [(1,.eq (.pointer (some ep2))),(3,.eq (I x2.W)),(9,Pd.el (x3:D.Term)),(10,Pd.fl (I x3.W)),(11,.eq (I x3.W))] [(5,0),(13,0)] mix c ⟨Nie c 1,Nlc c 1 1,Nid c (.f 0) (gT hx3),Nfa c 9 (atN 9) ZbA,Nlf c 10 (atN 10),tt⟩ fun _ _ c=>?_)
 exact rE
 refine S0 (Ry [(1,0),(5,0)] mix c fun _ _ c=>I0 c h (fun h=>?_) fun h=>?_)
 refine Bd h fun x4 hx4 h=>?_
 obtain ⟨ep3,u3,c⟩:=c.elp (.f 0) hx4
 obtain ⟨a3,c3,rfl,c⟩:=c.o_Term 2
 refine Bd h fun x5 hx5 h=>?_
 obtain ⟨ep4,u4,c⟩:=c.elp (.f 0) hx5
 obtain ⟨a4,c4,rfl,c⟩:=c.o_Term 5
 refine S0 (rZ [(1,.eq (.pointer (some ep3))),(3,.eq (I x4.W)),(5,.eq (.pointer (some ep4))),(7,.eq (I x5.W))] [(11,0)] mix c ⟨Nie c 1,Nlc c 1 1,Nie c 4,Nlc c 4 1,tt⟩ fun _ _ c=>?_)
 exact rE
 refine P0 [(1,0)] c fun _ c=>I0 c h (fun h=>?_) fun h=>?_
 refine Bd h fun x6 hx6 h=>?_
 obtain ⟨ep5,u5,c⟩:=c.elp (.f 0) hx6
 obtain ⟨a5,c5,rfl,c⟩:=c.o_Term 2
 refine Bd h fun x7 hx7 h=>Bd h fun x8 hx8 h=>S0 (rZ [(1,.eq (.pointer (some ep5))),(3,.eq (I x6.W)),(7,Pd.el (x7:D.Term)),(8,Pd.fl (I x7.W)),(9,.eq (I x7.W)),(16,Pd.el (x8:D.Term)),(17,Pd.fl (I x8.W)),(18,.eq (I x8.W))] [(11,0),(20,0)] mix c ⟨Nie c 1,Nlc c 1 1,Nid c (.f 0) (gT hx7),Nfa c 7 (atN 7) ZbA,Nlf c 8 (atN 8),Nid c (.f 0) (gT hx8),Nfa c 16 (atN 16) ZbA,Nlf c 17 (atN 17),tt⟩ fun _ _ c=>?_)
 exact rE
 refine P0 [(1,0)] c fun _ c=>I0 c h (fun h=>?_) fun h=>?_
 refine Bd h fun x9 hx9 h=>?_
 obtain ⟨ep6,u6,c⟩:=c.elp (.f 0) hx9
 obtain ⟨a6,c6,rfl,c⟩:=c.o_Term 2
 refine Bd h fun x10 hx10 h=>?_
 obtain ⟨ep7,u7,c⟩:=c.elp (.f 0) hx10
 obtain ⟨a7,c7,rfl,c⟩:=c.o_Term 5
 refine S0 (rZ [(1,.eq (.pointer (some ep6))),(3,.eq (I x9.W)),(5,.eq (.pointer (some ep7))),(7,.eq (I x10.W))] [(10,0)] mix c ⟨Nie c 1,Nlc c 1 1,Nie c 4,Nlc c 4 1,tt⟩ fun _ _ c=>?_)
 exact rE
 refine P0 [(1,0)] c fun _ c=>I0 c h (fun h=>?_) fun h=>?_
 refine Bd h fun x11 hx11 h=>S0 (rZ [(7,Pd.el (x11:D.Term)),(8,Pd.fl (I x11.W)),(9,.eq (I x11.W))] [(1,0),(5,0),(11,0)] mix c ⟨Nid c (.f 0) (gT hx11),Nfa c 7 (atN 7) ZbA,Nlf c 8 (atN 8),tt⟩ fun _ _ c=>?_)
 exact rE
 refine K1 (bk (tn (Bd h fun x12 hx12 h=>?_)))
 obtain ⟨ep8,u8,c⟩:=c.elp (.f 0) hx12
 obtain ⟨a8,c8,rfl,c⟩:=c.o_Term 2
 refine S0 (rZ [(1,.eq (.pointer (some ep8))),(3,.eq (I x12.W))] [(5,0)] mix c ⟨Nie c 1,Nlc c 1 1,tt⟩ fun _ _ c=>?_)
 exact rE
theorem ZcY {p0 r} (h:ZaN n p0 = some r):C0 123 [Str.val p0] [] (.bool r):=by
 unfold ZaN at h
 refine En func123 rfl ntmps123 fun _ fr w c=>?_
 refine P0 [] c fun _ c=>S0 (S0 (Ry [] mix c fun _ _ c=>I0 c h (fun h=>?_) fun h=>?_))
 exact P0 [] c fun _ c=>rE
 refine K0 (S0 (P0 [] c fun _ c=>Bd h fun rl1 hit1 h=>?_))
 have hk1:=h
 refine LpR (fun s1  (_:Unit)=>([(0,Str.val p0),(3,I s1)],id,[])) (fun s  (_:Unit)=>([],id,[])) hit1 c () (c.rk [] []) (fun s1 q1 _ _ _ c h hr1=>?_) fun s1r _ _ _ hrl c=>?_
 refine S0 (P0 [] c fun _ c=>I0 c h (fun h=>?_) fun h=>?_)
 refine K0 (S0 (wp_block (Bd h fun x1 hx1 h=>Bd h fun x2 hx2 h=>S0 (rZ [(2,.eq (.int .u8 x1)),(7,.eq (.int .u8 x2))] [] mix c ⟨Nix c (kN hx1),Nix c (gT hx2),tt⟩ fun _ _ c=>Bd h fun x3 hx3 h=>Bd h fun x4 hx4 h=>S0 (rZ [(2,.eq (.int .u8 x3)),(7,.eq (.int .u8 x4))] [] mix c ⟨Nix c (kN hx3),Nix c (gT hx4),tt⟩ fun _ _ c=>S0 (Ry [] mix c fun _ _ c=>I0 c h (fun h=>?_) fun h=>?_))))))
 refine P0 [] c fun _ c=>?_
 obtain rfl:=hr1 _ (sk h)
 obtain rfl:=sj hk1
 exact wp_ret (br (tr (tr (br (tr (Rt c () [] []))))))
 refine K1 (bk (tn (P1 [] c fun _ c=>Nx h () (c.rk [] []))))
 refine wp_exit (te (te (be ?_)))
 obtain rfl:=hr1 _ (sk h)
 exact tn ⟨_,(),rfl,c.rk [] []⟩
 subst hrl
 exact P0 [] c fun _ c=>rE
theorem ZbQ {p0 p1 gb0 gu1 r} (h:Y4 n p0 p1 = some r):Con prog 121 [B gb0 0,tV p1 ga2 gc3] [BX gb0 124 [I p0.count,gu1],OM map122 (gu1) p0.widths] [lR ga2 p1.Kids gc3] fun (i:Value)=>([.bool r.1],[BX gb0 124 [I r.2.count,i],OM map122 (i) r.2.widths],[]):=by
 unfold Y4 at h
 refine En func121 rfl ntmps121 fun _ fr w c=>?_
 refine T0 (Ebx (tC p1 ga2 gc3) c fun b1 _ _ c=>?_)
 refine Fp [] 1 c fun _ c=>E0 (S0 (T0 (Fp [(1,1)] 2 c fun _ c=>Bd h fun x1 hx1 h=>Cb c (ZcY hx1) tt call123 fun _ _ _ c=>?_)))
 refine Fp [] 1 c fun _ c=>E0 (I0 c h (fun h=>?_) fun h=>?_)
 refine P0 [] c fun _ c=>?_
 cases h
 exact wp_ret (tr (Rt c (gu1) [0,1] []))
 refine K0 (S0 (T0 (Fp [(3,0)] 4 c fun _ c=>Enm 1 c fun _ c=>?_)))
 refine E0 (If c (b:=(Option.isNone p0.widths)) (fun hb=>?_) fun hb=>?_)
 replace h:=iteT hb h
 obtain rfl:=c.nom 1 hb
 replace c:=c.dp [1]
 refine T1 (Fp [] 1 c fun _ c=>Emm map122 c fun b2 _ _ c=>?_)
 refine Fp [] 2 c fun _ c=>Esb 0 1 (.map (some b2)) c fun _ c=>?_
 refine E0 (S0 (Bd h fun x2 hx2 h=>S0 (rZ [(6,.eq (.tuple #[I x2.1,.bool x2.2]))] [(3,0),(5,1)] mix c ⟨Nmg2 2 c (kN hx2),tt⟩ fun _ _ c=>P0 [] c fun _ c=>I0 c h (fun h=>?_) fun h=>?_)))
 refine P0 [(2,1)] c fun _ c=>?_
 replace c:=c.om 2
 cases h
 exact wp_ret (tr (Rt c (.map (some b2)) [0,2] []))
 refine K0 (S0 (YU mix (rM 8 [] [(3,0),(5,1),(7,1)] c (fun ow=>tt) fun _ _ _ _ _ c=>Bd h fun x3 hx3 h=>Emp 2 c hx3 fun _ c=>?_)))
 refine E0 (P0 [] c fun _ c=>?_)
 replace c:=c.om 2
 cases h
 exact wp_ret (Rt c (.map (some b2)) [0,2] [])
 replace h:=iteF hb h
 obtain ⟨b3,rfl,c⟩:=c.som 1 hb
 refine K0 (S0 (Bd h fun x4 hx4 h=>S0 (rZ [(6,.eq (.tuple #[I x4.1,.bool x4.2]))] [(3,0),(5,1)] mix c ⟨Nmg2 1 c (kN hx4),tt⟩ fun _ _ c=>P0 [] c fun _ c=>I0 c h (fun h=>?_) fun h=>?_)))
 refine P0 [(2,1)] c fun _ c=>?_
 replace c:=c.om 1
 cases h
 exact wp_ret (tr (Rt c (.map (some b3)) [0,1] []))
 refine K0 (S0 (YU mix (rM 8 [] [(3,0),(5,1),(7,1)] c (fun ow=>tt) fun _ _ _ _ _ c=>Bd h fun x5 hx5 h=>Emp 1 c hx5 fun _ c=>?_)))
 refine E0 (P0 [] c fun _ c=>?_)
 replace c:=c.om 1
 cases h
 exact wp_ret (Rt c (.map (some b3)) [0,1] [])
theorem Zc2 {n:Nat}:∀ {p0 p1 gb0 gu1 ga2 gc3 r} (h:ZC n p0 p1 = some r),Con prog 103 [B gb0 0,tV p1 ga2 gc3] [BX gb0 124 [I p0.count,gu1],OM map122 (gu1) p0.widths] [lR ga2 p1.Kids gc3] fun (i:Value)=>([.bool r.1],[BX gb0 124 [I r.2.count,i],OM map122 (i) r.2.widths],[]):=by
 induction n with
 | zero=>intro p0 p1 gb0 gu1 ga2 gc3 r h; simp [ZC] at h
 | succ n ih=>
 intro p0 p1 gb0 gu1 ga2 gc3 r h
 rw [ZC] at h
 refine En func103 rfl ntmps103 fun _ fr w c=>?_
 refine T0 (Ebx (tC p1 ga2 gc3) c fun b1 _ _ c=>?_)
 refine Fp [] 1 c fun _ c=>E0 (T0 (Fp [(3,0)] 7 c fun _ c=>Esb 0 0 (I (w64 (p0.count + 1))) c fun _ c=>?_))
 refine E0 (S0 (Bd h fun x1 hx1 h=>Bd h fun x2 hx2 h=>S0 (rZ [(8,.eq (.bool x1)),(17,.eq (I x2))] [(3,0),(7,1),(13,1),(16,1)] mix c ⟨Ncl c (fun hg=>YY (iteF (gcF hg) hx1)) tt call82,Ncl c (fun hg=>Zea (iteF (gcF hg) hx2)) tt call119,tt⟩ fun _ _ c=>I0 c h (fun h=>?_) fun h=>?_)))
 refine P0 [] c fun _ c=>?_
 cases h
 exact wp_ret (tr (Rt c (gu1) [0,1] []))
 refine K0 (S0 (P0 [(1,1)] c fun _ c=>Bd h fun rl1 hit1 h=>?_))
 have hk1:=h
 refine LpR (fun s1  (_:Unit)=>([(0,B gb0 0),(3,B b1 0),(36,I (len p1.Kids)),(37,I s1)],id,[])) (fun s  (_:Unit)=>([(0,B gb0 0),(3,B b1 0)],id,[])) hit1 c () (c.rk [0,1,2] [0]) (fun s1 q1 _ _ _ c h hr1=>?_) fun s1r _ _ _ hrl c=>?_
 refine P0 [] c fun _ c=>S0 (I0 c h (fun h=>?_) fun h=>?_)
 refine K0 (S0 (wp_block (P0 [] c fun _ c=>T0 (Fp [(1,1)] 3 c fun _ c=>Bd h fun x3 hx3 h=>Eef c (.f 0) hx3 ZbA fun _ _ _ c=>?_))))
 refine Bd h fun x4 hx4 h=>Cb c (YY hx4) tt call82 fun _ _ _ c=>?_
 refine Fp [] 1 c fun _ c=>E0 (I0 c h (fun h=>?_) fun h=>?_)
 refine P0 [] c fun _ c=>?_
 obtain rfl:=hr1 _ (sk h)
 obtain rfl:=sj hk1
 exact wp_ret (br (tr (tr (br (tr (Rt c (gu1) [0,1] []))))))
 refine K1 (bk (tn (P1 [] c fun _ c=>Nx h () (c.rk [0,1,2] [0]))))
 refine wp_exit (te (te (be ?_)))
 obtain rfl:=hr1 _ (sk h)
 exact tn ⟨_,(),rfl,c.rk [0,1,2] [0]⟩
 subst hrl
 refine S0 (T0 (Fp [(0,1)] 1 c fun _ c=>Bd h fun x5 hx5 h=>Cb c (Zd6 hx5) ⟨.f 0,tt⟩ call120 fun _ _ _ c=>?_))
 refine Fp [] 1 c fun _ c=>E0 (I0 c h (fun h=>?_) fun h=>?_)
 refine P0 [] c fun _ c=>?_
 cases h
 exact wp_ret (tr (Rt c (gu1) [0,1] []))
 refine K0 (S0 (Bd h fun x6 hx6 h=>S0 (rZ [(8,.eq (.bool x6))] [(1,1),(5,1),(7,1)] mix c ⟨Ncl c (fun hg=>Ya (iteT (gcT hg) hx6)) tt call60,tt⟩ fun _ _ c=>I0 c h (fun h=>?_) fun h=>?_)))
 refine P0 [] c fun _ c=>?_
 cases h
 exact wp_ret (tr (Rt c (gu1) [0,1] []))
 refine K0 (S0 (S0 (Ry [(1,1),(5,1),(10,1)] mix c fun _ _ c=>I0 c h (fun h=>?_) fun h=>?_)))
 refine P0 [] c fun _ c=>?_
 cases h
 exact wp_ret (tr (Rt c (gu1) [0,1] []))
 refine K0 (S0 (P0 [(1,1)] c fun _ c=>I0 c h (fun h=>?_) fun h=>?_))
 refine P0 [(1,1)] c fun _ c=>I0 c h (fun h=>?_) fun h=>?_
 refine P0 [] c fun _ c=>?_
 cases h
 exact wp_ret (tr (Rt c (gu1) [0,1] []))
 refine K0 (S0 (P0 [(1,1)] c fun _ c=>Bd h fun rl2 hit2 h=>?_))
 have hk2:=h
 refine LpR (fun s2  (i:Value)=>([(0,B gb0 0),(3,B b1 0),(88,I (len p1.Kids)),(89,I s2.1)],fun Γ=>(Γ.set 0 (BX gb0 124 [I s2.2.1,i])).set 1 (OM map122 (i) s2.q2),[])) (fun s  (i:Value)=>([],fun Γ=>(Γ.set 0 (BX gb0 124 [I s.1,i])).set 1 (OM map122 (i) s.2),[])) hit2 c (gu1) (c.rk [0,1,2] [0]) (fun s2 q2 i1 _ _ c h hr2=>?_) fun s2r k1 _ _ hrl c=>?_
 refine P0 [] c fun _ c=>S0 (I0 c h (fun h=>?_) fun h=>?_)
 refine K0 (S0 (wp_block (P0 [] c fun _ c=>T0 (Fp [(2,1)] 4 c fun _ c=>Bd h fun x7 hx7 h=>Eem c (.f 0) hx7 fun _ u1 _ c=>?_))))
 obtain ⟨a1,c1,rfl,c⟩:=c.o_Term 1
 refine Bd h fun x8 hx8 h=>Ca [0,1] c (ih hx8) ⟨.f 2,tt⟩ call103 fun i2 _ _ c=>?_
 refine Fp [] 1 c fun _ c=>E0 (I0 c h (fun h=>?_) fun h=>?_)
 refine P0 [] c fun _ c=>?_
 obtain rfl:=hr2 _ (sk h)
 obtain rfl:=sj hk2
 exact wp_ret (br (tr (tr (br (tr (Rt c (i2) [1,2] []))))))
 refine K1 (bk (tn (P1 [] c fun _ c=>Nx h (i2) (c.rk [1,2,0] [0]))))
 refine wp_exit (te (te (be ?_)))
 obtain rfl:=hr2 _ (sk h)
 exact tn ⟨_,(i1),rfl,c.rk [0,1,2] [0]⟩
 subst hrl
 refine P0 [] c fun _ c=>?_
 cases h
 exact wp_ret (Rt c (k1) [0,1] [])
 refine T0 (Fp [(1,1)] 2 c fun _ c=>Bd h fun x9 hx9 h=>Ca [0,1] c (ZbQ hx9) ⟨.f 0,tt⟩ call121 fun i3 _ _ c=>?_)
 refine Fp [] 1 c fun _ c=>E0 (I0 c h (fun h=>?_) fun h=>?_)
 refine P0 [] c fun _ c=>?_
 cases h
 exact wp_ret (tr (Rt c (i3) [1,2] []))
 refine K0 (S0 (P0 [(1,0)] c fun _ c=>Bd h fun rl3 hit3 h=>?_))
 have hk3:=h
 refine LpR (fun s3  (i:Value)=>([(0,B gb0 0),(3,B b1 0),(88,I (len p1.Kids)),(89,I s3.1)],fun Γ=>(Γ.set 1 (BX gb0 124 [I s3.2.1,i])).set 2 (OM map122 (i) s3.q2),[])) (fun s  (i:Value)=>([],fun Γ=>(Γ.set 1 (BX gb0 124 [I s.1,i])).set 2 (OM map122 (i) s.2),[])) hit3 c (i3) (c.rk [0,1,2] [0]) (fun s3 q3 i4 _ _ c h hr3=>?_) fun s3r k2 _ _ hrl c=>?_
 refine P0 [] c fun _ c=>S0 (I0 c h (fun h=>?_) fun h=>?_)
 refine K0 (S0 (wp_block (P0 [] c fun _ c=>T0 (Fp [(2,0)] 4 c fun _ c=>Bd h fun x10 hx10 h=>Eem c (.f 0) hx10 fun _ u2 _ c=>?_))))
 obtain ⟨a2,c2,rfl,c⟩:=c.o_Term 1
 replace c:=c.nf
 refine Bd h fun x11 hx11 h=>Ca [1,2] c (ih hx11) ⟨.f 2,tt⟩ call103 fun i5 _ _ c=>?_
 refine Fp [] 1 c fun _ c=>E0 (I0 c h (fun h=>?_) fun h=>?_)
 refine P0 [] c fun _ c=>?_
 obtain rfl:=hr3 _ (sk h)
 obtain rfl:=sj hk3
 exact wp_ret (br (tr (tr (br (tr (Rt c (i5) [1,2] []))))))
 refine K1 (bk (tn (P1 [] c fun _ c=>Nx h (i5) (c.rk [0,1,2] [0]))))
 refine wp_exit (te (te (be ?_)))
 obtain rfl:=hr3 _ (sk h)
 exact tn ⟨_,(i4),rfl,c.rk [0,1,2] [0]⟩
 subst hrl
 refine P0 [] c fun _ c=>?_
 cases h
 exact wp_ret (Rt c (k2) [1,2] [])
theorem ZcX {p0 r} (h:XY n p0 = some r):C0 88 [tV p0 ga0 gc1] [lR ga0 p0.Kids gc1] (.bool r):=by
 unfold XY at h
 refine En func88 rfl ntmps88 fun _ fr w c=>?_
 refine T0 (Ebx (tC p0 ga0 gc1) c fun b1 _ _ c=>?_)
 refine Fp [] 1 c fun _ c=>E0 (T0 (Eal [I 0,.map none] c fun b2 _ _ c=>?_))
 refine E0 (T0 (Fp [(0,0)] 1 c fun _ c=>?_))
 replace c:=c.nilm map122
 refine Bd h fun x1 hx1 h=>Ca [1,2] c (Zc2 hx1) ⟨.f 0,tt⟩ call103 fun i1 _ _ c=>?_
 exact Fp [] 1 c fun _ c=>E0 rE
theorem ZaA {p0 p1 r} (h:Xr n p0 p1 = some r):C0 72 [I p0,L ga0 p1 gc1] [lR ga0 p1 gc1] (.bool r):=by
 unfold Xr at h
 refine En func72 rfl ntmps72 fun _ fr w c=>?_
 refine P0 [] c fun _ c=>S0 (P0 [] c fun _ c=>Bd h fun rl1 hit1 h=>?_)
 have hk1:=h
 refine LpR (fun s1  (_:Unit)=>([(0,I p0),(1,L ga0 p1 gc1),(7,I (len p1)),(8,I s1)],id,[])) (fun s  (_:Unit)=>([],id,[])) hit1 c () (c.rk [] [0]) (fun s1 q1 _ _ _ c h hr1=>?_) fun s1r _ _ _ hrl c=>?_
 refine P0 [] c fun _ c=>S0 (I0 c h (fun h=>?_) fun h=>?_)
 refine K0 (S0 (wp_block (P0 [] c fun _ c=>Bd h fun x1 hx1 h=>?_)))
 obtain ⟨ep1,u1,c⟩:=c.elp (.f 0) hx1
 obtain ⟨a1,c1,rfl,c⟩:=c.o_Term 2
 refine Bd h fun x2 hx2 h=>Bd h fun x3 hx3 h=>S0 (rZ [(2,.eq (.pointer (some ep1))),(4,.eq (I x1.W)),(10,Pd.el (x2:D.Term)),(11,Pd.rd (x2:D.Term)),(12,.eq (.bool x3))] [] mix c ⟨Nie c 1,Nlc c 1 1,Nid c (.f 0) (gF hx2),Nrd c 10 (atN 10),Ncd (Ψ:=[]) [.r 11 (fun v=>RO v (x2:D.Term))] c ⟨(atN 11),tt⟩ tt (fun hg _ _ ga gp=>by obtain ⟨u1,_,rfl,g1,rfl⟩:=ga; obtain ⟨k1,rfl,f1⟩:=Opn.opn g1; exact ⟨_,f1,ZcX (iteF (gcF hg) hx3)⟩) call88,tt⟩ fun _ _ c=>I0 c h (fun h=>?_) fun h=>?_)
 refine P0 [] c fun _ c=>?_
 obtain rfl:=hr1 _ (sk h)
 obtain rfl:=sj hk1
 exact wp_ret (br (tr (tr (br (tr (Rt c () [] []))))))
 refine K1 (bk (tn (P1 [] c fun _ c=>Nx h () (c.rk [] [0]))))
 refine wp_exit (te (te (be ?_)))
 obtain rfl:=hr1 _ (sk h)
 exact tn ⟨_,(),rfl,c.rk [] [0]⟩
 subst hrl
 exact P0 [] c fun _ c=>rE
theorem ZfA {p0 p1 r} (h:Zbx n p0 p1 = some r):C0 45 [gV p0 ga0 gc1,pV p1 ga2 gc3 ga4 gc5 ga6 gc7 ga8 gc9 ga10 gc11 ga12 gc13] [lR ga0 p0.Code gc1,lR ga2 p1.Regs gc3,lR ga4 p1.Mem gc5,lR ga6 p1.Stack gc7,lR ga8 p1.Out gc9,lR ga10 p1.Cond gc11,lR ga12 p1.Turns gc13] (.bool r):=by
 unfold Zbx at h
 refine En func45 rfl ntmps45 fun _ fr w c=>?_
 refine T0 (Ebx (gC p0 ga0 gc1) c fun b1 _ _ c=>?_)
 refine Ebx (pC p1 ga2 gc3 ga4 gc5 ga6 gc7 ga8 gc9 ga10 gc11 ga12 gc13) c fun b2 _ _ c=>?_
 refine Fp [] 1 c fun _ c=>E0 (S0 (Bd h fun x1 hx1 h=>Bd h fun x2 hx2 h=>S0 (rZ [(1,.eq (.bool x1)),(7,.eq (.bool x2))] [(0,0),(4,0),(6,1),(12,1),(18,1),(21,0)] mix c ⟨Ncl c (kN (ZdO hx1)) ⟨.f 0,tt⟩ call30,Ncl c (fun hg=>ZcA (iteF (gcF hg) hx2)) ⟨.f 0,tt⟩ call71,tt⟩ fun _ _ c=>I0 c h (fun h=>?_) fun h=>?_)))
 exact P0 [] c fun _ c=>rE
 refine K0 (S0 (S0 (Ry [(1,1),(6,1),(11,1),(13,0),(18,1)] mix c fun _ _ c=>I0 c h (fun h=>?_) fun h=>?_)))
 exact P0 [] c fun _ c=>rE
 refine K0 (S0 (P0 [(1,1)] c fun _ c=>Bd h fun rl1 hit1 h=>?_))
 have hk1:=h
 refine LpR (fun s1  (_:Unit)=>([(2,B b1 0),(3,B b2 0),(54,L ga6 p1.Stack gc7),(55,I (len p1.Stack)),(56,I s1)],id,[])) (fun s  (_:Unit)=>([(2,B b1 0),(3,B b2 0)],id,[])) hit1 c () (c.rk [0,1] (rg 7)) (fun s1 q1 _ _ _ c h hr1=>?_) fun s1r _ _ _ hrl c=>?_
 refine P0 [] c fun _ c=>S0 (I0 c h (fun h=>?_) fun h=>?_)
 refine K0 (S0 (wp_block (T0 (Bd h fun x3 hx3 h=>Eel c (.f 3) hx3 fun _ _ c=>?_))))
 refine Fp [] 1 c fun _ c=>E0 (T0 (Fp [(0,0)] 2 c fun _ c=>Bd h fun x4 hx4 h=>Cb c (ZcA hx4) ⟨.f 0,tt⟩ call71 fun _ _ _ c=>?_))
 refine Fp [] 1 c fun _ c=>E0 (I0 c h (fun h=>?_) fun h=>?_)
 refine P0 [] c fun _ c=>?_
 obtain rfl:=hr1 _ (sk h)
 obtain rfl:=sj hk1
 exact wp_ret (br (tr (tr (br (tr (Rt c () [] []))))))
 refine K1 (bk (tn (P1 [] c fun _ c=>Nx h () (c.rk [0,1] (rg 7)))))
 refine wp_exit (te (te (be ?_)))
 obtain rfl:=hr1 _ (sk h)
 exact tn ⟨_,(),rfl,c.rk [0,1] (rg 7)⟩
 subst hrl
 refine S0 (Bd h fun x5 hx5 h=>S0 (rZ [(11,.eq (.bool x5))] [(1,1),(5,1),(10,1)] mix c ⟨Ncl c (fun hg=>Zf9 (iteF (gcF hg) hx5)) tt call31,tt⟩ fun _ _ c=>I0 c h (fun h=>?_) fun h=>?_))
 exact P0 [] c fun _ c=>rE
 refine K0 (S0 (Bd h fun x6 hx6 h=>S0 (rZ [(13,.eq (.bool x6))] [(1,1),(6,1),(12,1)] mix c ⟨Ncl c (fun hg=>Ze2 (iteF (gcF hg) hx6)) ⟨.f 6,tt⟩ call32,tt⟩ fun _ _ c=>I0 c h (fun h=>?_) fun h=>?_)))
 exact P0 [] c fun _ c=>rE
 refine K0 (Bd h fun x7 hx7 h=>Bd h fun x8 hx8 h=>Bd h fun x9 hx9 h=>Bd h fun x10 hx10 h=>S0 (rZ [(4,.eq (.bool x7)),(10,.eq (.bool x8)),(17,.eq (.bool x9)),(22,.eq (.bool x10))] [(1,0),(3,1),(7,0),(9,1),(14,0),(16,1),(21,1)] mix c ⟨Ncl c (kN (ZaA hx7)) ⟨.f 1,tt⟩ call72,Ncl c (fun hg=>ZaA (iteT (gcT hg) hx8)) ⟨.f 2,tt⟩ call72,Ncl c (fun hg=>ZaA (iteT (gcT hg) hx9)) ⟨.f 4,tt⟩ call72,Ncl c (fun hg=>ZaA (iteT (gcT hg) hx10)) ⟨.f 5,tt⟩ call72,tt⟩ fun _ _ c=>?_))
 exact rE
theorem ZfJ {p0 p1 p2 r} (h:ZbO p0 p1 p2 = some r):C0 73 [gV p0 ga0 gc1,pV p1 ga2 gc3 ga4 gc5 ga6 gc7 ga8 gc9 ga10 gc11 ga12 gc13,nV p2] [lR ga0 p0.Code gc1,lR ga2 p1.Regs gc3,lR ga4 p1.Mem gc5,lR ga6 p1.Stack gc7,lR ga8 p1.Out gc9,lR ga10 p1.Cond gc11,lR ga12 p1.Turns gc13] (I r):=by
 unfold ZbO at h
 refine En func73 rfl ntmps73 fun _ fr w c=>?_
 refine T0 (Ebx (gC p0 ga0 gc1) c fun b1 _ _ c=>?_)
 refine Ebx (pC p1 ga2 gc3 ga4 gc5 ga6 gc7 ga8 gc9 ga10 gc11 ga12 gc13) c fun b2 _ _ c=>?_
 refine Ebx (nC p2) c fun b3 _ _ c=>?_
 refine Fp [] 1 c fun _ c=>E0 (S0 (wp_block (S0 (Ry [(1,2),(5,1),(7,0)] mix c fun _ _ c=>I0 c h (fun h=>?_) fun h=>?_))))
 exact P0 [] c fun _ c=>rE
 refine S0 (Ry [(1,2),(5,1)] mix c fun _ _ c=>I0 c h (fun h=>?_) fun h=>?_)
 exact P0 [] c fun _ c=>rE
 refine S0 (Ry [(1,2),(5,1)] mix c fun _ _ c=>I0 c h (fun h=>?_) fun h=>?_)
 exact P0 [] c fun _ c=>rE
 refine S0 (Ry [(1,2),(5,1)] mix c fun _ _ c=>I0 c h (fun h=>?_) fun h=>?_)
 exact P0 [] c fun _ c=>rE
 exact K1 (bk (tn (P0 [] c fun _ c=>rE)))
theorem ZI {p0 p1 r} (h:ZO p0 p1 = some r):Con prog 85 [I p0,I p1] [] [] fun (_:Unit)=>([.agg #[I r.Op,I r.W,I r.N,Str.val r.Name,L0]],[],[]):=by
 unfold ZO at h
 refine En func85 rfl ntmps85 fun _ fr w c=>?_
 refine T0 (Eal tZ c fun b1 _ _ c=>?_)
 refine E0 (S0 (T0 (Fp [] 2 c fun _ c=>Bd h fun x1 hx1 h=>Cb c (Ya hx1) tt call60 fun _ _ _ c=>?_)))
 refine Fp [] 1 c fun _ c=>E0 (I0 c h (fun h=>?_) fun h=>?_)
 refine T0 (Fp [] 1 c fun _ c=>Ess 0 tZ c fun _ c=>?_)
 refine E0 ?_
 cases h
 exact wp_ret (tr (Rg c () [] [] (.cell (α:=Agg 4) kk (.b 0) .nil)))
 refine K0 (T0 (Fp [] 3 c fun _ c=>Ess 0 [I 0,I p0,I p1,Str.val ⟨[]⟩,L0] c fun _ c=>?_))
 refine E0 ?_
 cases h
 exact wp_ret (Rg c () [] [] (.cell (α:=Agg 4) kk (.b 0) .nil))
theorem YE {p0 r} (h:Zb p0 = some r):C0 93 [tV p0 ga0 gc1] [lR ga0 p0.Kids gc1] (.bool r):=by
 unfold Zb at h
 refine En func93 rfl ntmps93 fun _ fr w c=>?_
 refine T0 (Ebx (tC p0 ga0 gc1) c fun b1 _ _ c=>?_)
 exact Fp [] 1 c fun _ c=>E0 (P0 [(1,0)] c fun _ c=>rE)
theorem Xn {p0 p1 r} (h:YH p0 p1 = some r):C0 159 [I p0,I p1] [] (I r):=by
 unfold YH at h
 refine En func159 rfl ntmps159 fun _ fr w c=>?_
 refine P0 [] c fun _ c=>S0 (T0 (Fp [] 1 c fun _ c=>Bd h fun x1 hx1 h=>Cb c (YY hx1) tt call82 fun _ _ _ c=>?_))
 refine Fp [] 1 c fun _ c=>E0 (I0 c h (fun h=>P0 [] c fun _ c=>rE) fun h=>?_)
 refine K0 (T0 (Fp [] 3 c fun _ c=>Bd h fun x2 hx2 h=>Eshl c hx2 fun _ c=>?_))
 exact Fp [] 3 c fun _ c=>E0 rE
theorem Zdy {p0 p1 p2 r} (h:XM p0 p1 p2 = some r):C0 143 [I p0,I p1,I p2] [] (I r):=by
 unfold XM at h
 refine En func143 rfl ntmps143 fun _ fr w c=>?_
 refine P0 [] c fun _ c=>S0 (T0 (Fp [] 2 c fun _ c=>Bd h fun x1 hx1 h=>Cb c (Ya hx1) tt call60 fun _ _ _ c=>?_))
 refine Fp [] 1 c fun _ c=>E0 (I0 c h (fun h=>P0 [] c fun _ c=>rE) fun h=>?_)
 refine K0 (S0 (P0 [] c fun _ c=>wp_block (P0 [] c fun _ c=>I0 c h (fun h=>?_) fun h=>?_)))
 refine T0 (Fp [] 2 c fun _ c=>Bd h fun x2 hx2 h=>Eshl c hx2 fun _ c=>?_)
 exact Fp [] 4 c fun _ c=>E0 rE
 refine P0 [] c fun _ c=>I0 c h (fun h=>?_) fun h=>K1 (bk (tn (P0 [] c fun _ c=>rE)))
 refine T0 (Fp [] 3 c fun _ c=>Bd h fun x3 hx3 h=>Cb c (Xn hx3) tt call159 fun _ _ _ c=>?_)
 exact Fp [] 1 c fun _ c=>E0 rE
theorem Ze7 {p0 p1 p2 p3 r} (h:ZaW p0 p1 p2 p3 = some r):C0 144 [I p0,I p1,I p2,I p3] [] (I r):=by
 unfold ZaW at h
 refine En func144 rfl ntmps144 fun _ fr w c=>?_
 refine P0 [] c fun _ c=>S0 (Bd h fun x1 hx1 h=>S0 (rZ [(2,.eq (.bool x1))] [] mix c ⟨Ncl c (kN (Ya hx1)) tt call60,tt⟩ fun _ _ c=>I0 c h (fun h=>?_) fun h=>?_))
 exact P0 [] c fun _ c=>rE
 refine K0 (T0 (Fp [] 3 c fun _ c=>Bd h fun x2 hx2 h=>Eshr c hx2 fun _ c=>?_))
 refine Fp [] 2 c fun _ c=>Bd h fun x3 hx3 h=>Eshl c hx3 fun _ c=>?_
 exact Fp [] 3 c fun _ c=>E0 rE
theorem Zax {p0 p1 r} (h:YN p0 p1 = some r):C0 160 [I p0,I p1] [] (I r):=by
 unfold YN at h
 refine En func160 rfl ntmps160 fun _ fr w c=>?_
 refine P0 [] c fun _ c=>S0 (T0 (Fp [] 2 c fun _ c=>Bd h fun x1 hx1 h=>Cb c (Ya hx1) tt call60 fun _ _ _ c=>?_))
 refine Fp [] 1 c fun _ c=>E0 (I0 c h (fun h=>P0 [] c fun _ c=>rE) fun h=>?_)
 refine K0 (S0 (T0 (Fp [] 4 c fun _ c=>Bd h fun x2 hx2 h=>Eshr c hx2 fun _ c=>?_)))
 refine Fp [] 1 c fun _ c=>E0 (I0 c h (fun h=>P0 [] c fun _ c=>rE) fun h=>?_)
 refine K0 (T0 (Fp [] 3 c fun _ c=>Bd h fun x3 hx3 h=>Eshl c hx3 fun _ c=>?_))
 exact Fp [] 2 c fun _ c=>E0 rE
theorem Zd2 {p0 p1 p2 p3 r} (h:Zah p0 p1 p2 p3 = some r):C0 145 [I p0,I p1,I p2,.bool p3] [] (I r):=by
 unfold Zah at h
 refine En func145 rfl ntmps145 fun _ fr w c=>?_
 refine P0 [] c fun _ c=>S0 (Bd h fun x1 hx1 h=>Bd h fun x2 hx2 h=>S0 (rZ [(2,.eq (.bool x1)),(6,.eq (.bool x2))] [] mix c ⟨Ncl c (kN (Ya hx1)) tt call60,Ncl c (fun hg=>YY (iteF (gcF hg) hx2)) tt call82,tt⟩ fun _ _ c=>I0 c h (fun h=>?_) fun h=>?_))
 exact P0 [] c fun _ c=>rE
 refine K0 (S0 (P0 [] c fun _ c=>I0 c h (fun h=>?_) fun h=>K0 (P0 [] c fun _ c=>rE)))
 refine T0 (Fp [] 3 c fun _ c=>Bd h fun x3 hx3 h=>Cb c (Zax hx3) tt call160 fun _ _ _ c=>?_)
 refine Bd h fun x4 hx4 h=>Cb c (Xn hx4) tt call159 fun _ _ _ c=>?_
 exact Fp [] 1 c fun _ c=>E0 rE
theorem ZdK {p0 p1 p2 p3 r} (h:Zac p0 p1 p2 p3 = some r):C0 146 [I p0,I p1,I p2,I p3] [] (I r):=by
 unfold Zac at h
 refine En func146 rfl ntmps146 fun _ fr w c=>?_
 refine P0 [] c fun _ c=>S0 (Bd h fun x1 hx1 h=>Bd h fun x2 hx2 h=>S0 (rZ [(2,.eq (.bool x1)),(7,.eq (.bool x2))] [] mix c ⟨Ncl c (kN (Ya hx1)) tt call60,Ncl c (fun hg=>Ya (iteF (gcF hg) hx2)) tt call60,tt⟩ fun _ _ c=>I0 c h (fun h=>?_) fun h=>?_))
 exact P0 [] c fun _ c=>rE
 refine K0 (T0 (Fp [] 3 c fun _ c=>Bd h fun x3 hx3 h=>Eshl c hx3 fun _ c=>?_))
 exact Fp [] 3 c fun _ c=>E0 rE
theorem Zd5 {p0 p1 p2 p3 r} (h:ZaU p0 p1 p2 p3 = some r):C0 161 [I p0,I p1,I p2,I p3] [] (I r):=by
 unfold ZaU at h
 refine En func161 rfl ntmps161 fun _ fr w c=>?_
 refine P0 [] c fun _ c=>S0 (P0 [] c fun _ c=>I0 c h (fun h=>?_) fun h=>?_)
 refine T0 (Fp [] 3 c fun _ c=>Bd h fun x1 hx1 h=>Cb c (Zax hx1) tt call160 fun _ _ _ c=>?_)
 refine Fp [] 5 c fun _ c=>Bd h fun x2 hx2 h=>Eshr c hx2 fun _ c=>?_
 refine Bd h fun x3 hx3 h=>Cb c (Xn hx3) tt call159 fun _ _ _ c=>?_
 exact Fp [] 1 c fun _ c=>E0 rE
 refine K0 (S0 (P0 [] c fun _ c=>I0 c h (fun h=>P0 [] c fun _ c=>rE) fun h=>?_))
 refine K0 (S0 (P0 [] c fun _ c=>I0 c h (fun h=>?_) fun h=>?_))
 refine T0 (Fp [] 4 c fun _ c=>Bd h fun x4 hx4 h=>Eshl c hx4 fun _ c=>?_)
 refine Bd h fun x5 hx5 h=>Cb c (Xn hx5) tt call159 fun _ _ _ c=>?_
 exact Fp [] 1 c fun _ c=>E0 rE
 refine K0 (T0 (Fp [] 3 c fun _ c=>Bd h fun x6 hx6 h=>Eshr c hx6 fun _ c=>?_))
 exact Fp [] 1 c fun _ c=>E0 rE
theorem Zbg {p0 r} (h:XR p0 = some r):C0 162 [.bool p0] [] (I r):=by
 unfold XR at h
 refine En func162 rfl ntmps162 fun _ fr w c=>?_
 exact P0 [] c fun _ c=>S0 (P0 [] c fun _ c=>I0 c h (fun h=>P0 [] c fun _ c=>rE) fun h=>K0 (P0 [] c fun _ c=>rE))
theorem ZbC {p0 p1 p2 p3 r} (h:Xh p0 p1 p2 p3 = some r):C0 147 [I p0,I p1,I p2,I p3] [] (I r):=by
 unfold Xh at h
 refine En func147 rfl ntmps147 fun _ fr w c=>?_
 refine P0 [] c fun _ c=>S0 (Bd h fun x1 hx1 h=>Bd h fun x2 hx2 h=>S0 (rZ [(2,.eq (.bool x1)),(7,.eq (.bool x2))] [] mix c ⟨Ncl c (kN (Ya hx1)) tt call60,Ncl c (fun hg=>Ya (iteF (gcF hg) hx2)) tt call60,tt⟩ fun _ _ c=>I0 c h (fun h=>?_) fun h=>?_))
 exact P0 [] c fun _ c=>rE
 refine K0 (S0 (P0 [] c fun _ c=>wp_block (P0 [] c fun _ c=>I0 c h (fun h=>?_) fun h=>?_)))
 refine T0 (Fp [] 4 c fun _ c=>Bd h fun x3 hx3 h=>Cb c (Xn hx3) tt call159 fun _ _ _ c=>?_)
 exact Fp [] 1 c fun _ c=>E0 rE
 refine P0 [] c fun _ c=>I0 c h (fun h=>?_) fun h=>?_
 refine T0 (Fp [] 4 c fun _ c=>Bd h fun x4 hx4 h=>Cb c (Xn hx4) tt call159 fun _ _ _ c=>?_)
 exact Fp [] 1 c fun _ c=>E0 rE
 refine P0 [] c fun _ c=>I0 c h (fun h=>?_) fun h=>?_
 refine T0 (Fp [] 4 c fun _ c=>Bd h fun x5 hx5 h=>Cb c (Xn hx5) tt call159 fun _ _ _ c=>?_)
 exact Fp [] 1 c fun _ c=>E0 rE
 refine P0 [] c fun _ c=>I0 c h (fun h=>?_) fun h=>?_
 refine S0 (P0 [] c fun _ c=>I0 c h (fun h=>?_) fun h=>?_)
 refine T0 (Fp [] 2 c fun _ c=>Bd h fun x6 hx6 h=>Eshl c hx6 fun _ c=>?_)
 exact Fp [] 2 c fun _ c=>E0 rE
 refine K0 (T0 (Fp [] 2 c fun _ c=>Bd h fun x7 hx7 h=>Equo c hx7 fun _ c=>?_))
 exact Fp [] 1 c fun _ c=>E0 rE
 refine P0 [] c fun _ c=>I0 c h (fun h=>?_) fun h=>?_
 refine S0 (P0 [] c fun _ c=>I0 c h (fun h=>P0 [] c fun _ c=>rE) fun h=>?_)
 refine K0 (T0 (Fp [] 2 c fun _ c=>Bd h fun x8 hx8 h=>Erem c hx8 fun _ c=>?_))
 exact Fp [] 1 c fun _ c=>E0 rE
 refine P0 [] c fun _ c=>I0 c h (fun h=>P0 [] c fun _ c=>rE) fun h=>?_
 refine P0 [] c fun _ c=>I0 c h (fun h=>P0 [] c fun _ c=>rE) fun h=>?_
 refine P0 [] c fun _ c=>I0 c h (fun h=>P0 [] c fun _ c=>rE) fun h=>?_
 refine S0 (P0 [] c fun _ c=>Bd h fun rl1 hit1 h=>?_)
 have hk1:=h
 refine Jr (fun s  (_:Unit)=>([(0,I p0),(1,I p1),(2,I p2),(3,I p3),(19,I p0),(75,.bool s)],id,[])) hit1 c (fun h=>?_) fun s1r _ _ _ hrl c=>?_
 refine I0 c h (fun h=>?_) fun h=>?_
 refine K0 (⟨_,(),(sk h),c.rk [] []⟩)
 refine P0 [] c fun _ c=>Mp (p0 == 12) [(75,.bool (p0 == 12))] [(75,.bool (p0 == 13))] [(75,.bool ((p0 == 12) || (p0 == 13)))] [75,78] c fun _ c=>⟨_,(),(sk h),c.rk [] []⟩
 subst hrl
 refine I0 c h (fun h=>?_) fun h=>?_
 refine T0 (Fp [] 4 c fun _ c=>Bd h fun x9 hx9 h=>Cb c (Zd5 hx9) tt call161 fun _ _ _ c=>?_)
 exact Fp [] 1 c fun _ c=>E0 rE
 refine P0 [] c fun _ c=>I0 c h (fun h=>?_) fun h=>?_
 refine T0 (Fp [] 3 c fun _ c=>Bd h fun x10 hx10 h=>Cb c (Zbg hx10) tt call162 fun _ _ _ c=>?_)
 exact Fp [] 1 c fun _ c=>E0 rE
 refine P0 [] c fun _ c=>I0 c h (fun h=>?_) fun h=>?_
 refine T0 (Fp [] 3 c fun _ c=>Bd h fun x11 hx11 h=>Cb c (Zbg hx11) tt call162 fun _ _ _ c=>?_)
 exact Fp [] 1 c fun _ c=>E0 rE
 refine P0 [] c fun _ c=>I0 c h (fun h=>?_) fun h=>K1 (bk (tn (P0 [] c fun _ c=>rE)))
 refine T0 (Fp [] 2 c fun _ c=>Bd h fun x12 hx12 h=>Cb c (Zax hx12) tt call160 fun _ _ _ c=>?_)
 refine Fp [] 2 c fun _ c=>Bd h fun x13 hx13 h=>Cb c (Zax hx13) tt call160 fun _ _ _ c=>?_
 refine Fp [] 1 c fun _ c=>Bd h fun x14 hx14 h=>Cb c (Zbg hx14) tt call162 fun _ _ _ c=>?_
 exact Fp [] 1 c fun _ c=>E0 rE
theorem ZdW {n:Nat}:∀ {p0 p1 ga0 gc1 gu2 r} (h:Zz n p0 p1 = some r),C0 126 [tV p0 ga0 gc1,gu2] [lR ga0 p0.Kids gc1,MO map122 (gu2) p1] (I r):=by
 induction n with
 | zero=>intro p0 p1 ga0 gc1 gu2 r h; simp [Zz] at h
 | succ n ih=>
 intro p0 p1 ga0 gc1 gu2 r h
 rw [Zz] at h
 refine En func126 rfl ntmps126 fun _ fr w c=>?_
 refine T0 (Ebx (tC p0 ga0 gc1) c fun b1 _ _ c=>?_)
 refine Fp [] 1 c fun _ c=>E0 (S0 (P0 [(1,0)] c fun _ c=>wp_block (P0 [] c fun _ c=>I0 c h (fun h=>P0 [(1,0)] c fun _ c=>rE) fun h=>?_)))
 refine P0 [] c fun _ c=>I0 c h (fun h=>?_) fun h=>?_
 refine T0 (Fp [(2,0)] 3 c fun _ c=>Bd h fun x1 hx1 h=>Erg c (.f 1) hx1 fun _ c=>?_)
 exact Fp [] 1 c fun _ c=>E0 rE
 refine P0 [] c fun _ c=>I0 c h (fun h=>?_) fun h=>?_
 refine S0 (T0 (Fp [(1,0)] 2 c fun _ c=>Bd h fun x2 hx2 h=>Eem c (.f 0) hx2 fun _ u1 _ c=>?_))
 obtain ⟨a1,c1,rfl,c⟩:=c.o_Term 2
 refine Fp [] 1 c fun _ c=>Bd h fun x3 hx3 h=>Cb c (ih hx3) ⟨.f 3,.f 1,tt⟩ call126 fun _ _ _ c=>?_
 refine Fp [] 1 c fun _ c=>E0 (I0 c h (fun h=>?_) fun h=>?_)
 refine T0 (Fp [(1,0)] 2 c fun _ c=>Bd h fun x4 hx4 h=>Eem c (.f 0) hx4 fun _ u2 _ c=>?_)
 obtain ⟨a2,c2,rfl,c⟩:=c.o_Term 4
 refine Fp [] 1 c fun _ c=>Bd h fun x5 hx5 h=>Cb c (ih hx5) ⟨.f 5,.f 1,tt⟩ call126 fun _ _ _ c=>?_
 exact Fp [] 1 c fun _ c=>E0 rE
 refine K0 (T0 (Fp [(1,0)] 2 c fun _ c=>Bd h fun x6 hx6 h=>Eem c (.f 0) hx6 fun _ u3 _ c=>?_))
 obtain ⟨a3,c3,rfl,c⟩:=c.o_Term 4
 refine Fp [] 1 c fun _ c=>Bd h fun x7 hx7 h=>Cb c (ih hx7) ⟨.f 5,.f 1,tt⟩ call126 fun _ _ _ c=>?_
 exact Fp [] 1 c fun _ c=>E0 rE
 refine K1 (bk (tn (T0 (Fp [(1,0)] 2 c fun _ c=>Bd h fun x8 hx8 h=>Eem c (.f 0) hx8 fun _ u4 _ c=>?_))))
 obtain ⟨a4,c4,rfl,c⟩:=c.o_Term 2
 refine Fp [] 1 c fun _ c=>Bd h fun x9 hx9 h=>Cb c (ih hx9) ⟨.f 3,.f 1,tt⟩ call126 fun _ _ _ c=>?_
 refine Fp [] 1 c fun _ c=>E0 (T0 (Fp [(1,0)] 2 c fun _ c=>Bd h fun x10 hx10 h=>Eef c (.f 0) hx10 ZbA fun _ _ _ c=>?_))
 refine Fp [] 1 c fun _ c=>E0 (S0 (P0 [(1,0)] c fun _ c=>wp_block (S0 (P0 [] c fun _ c=>Mp (p0.Op == 1) [(54,.bool (p0.Op == 1))] [(54,.bool (p0.Op == 2))] [(54,.bool ((p0.Op == 1) || (p0.Op == 2)))] [54,56] c fun _ c=>I0 c h (fun h=>?_) fun h=>?_))))
 refine T0 (Fp [(1,0)] 4 c fun _ c=>Bd h fun x11 hx11 h=>Cb c (Zdy hx11) tt call143 fun _ _ _ c=>?_)
 exact Fp [] 1 c fun _ c=>E0 rE
 refine P0 [] c fun _ c=>I0 c h (fun h=>?_) fun h=>?_
 refine T0 (Fp [(3,0),(5,0)] 6 c fun _ c=>Bd h fun x12 hx12 h=>Cb c (Ze7 hx12) tt call144 fun _ _ _ c=>?_)
 exact Fp [] 1 c fun _ c=>E0 rE
 refine S0 (P0 [] c fun _ c=>Mp (p0.Op == 20) [(71,.bool (p0.Op == 20))] [(71,.bool (p0.Op == 21))] [(71,.bool ((p0.Op == 20) || (p0.Op == 21)))] [71,73] c fun _ c=>I0 c h (fun h=>?_) fun h=>?_)
 refine T0 (Fp [(3,0),(5,0)] 7 c fun _ c=>Bd h fun x13 hx13 h=>Cb c (Zd2 hx13) tt call145 fun _ _ _ c=>?_)
 exact Fp [] 1 c fun _ c=>E0 rE
 refine K1 (bk (tn (T0 (Fp [(1,0)] 2 c fun _ c=>Bd h fun x14 hx14 h=>Eem c (.f 0) hx14 fun _ u5 _ c=>?_))))
 obtain ⟨a5,c5,rfl,c⟩:=c.o_Term 4
 refine Fp [] 1 c fun _ c=>Bd h fun x15 hx15 h=>Cb c (ih hx15) ⟨.f 5,.f 1,tt⟩ call126 fun _ _ _ c=>?_
 refine Fp [] 1 c fun _ c=>E0 (S0 (P0 [(1,0)] c fun _ c=>I0 c h (fun h=>?_) fun h=>?_))
 refine T0 (Fp [(3,0)] 4 c fun _ c=>?_)
 replace c:=c.ng
 refine Bd h fun x16 hx16 h=>Eef c (.f 0) hx16 ZbA fun _ _ _ c=>?_
 refine Fp [] 1 c fun _ c=>Bd h fun x17 hx17 h=>Cb c (ZdK hx17) tt call146 fun _ _ _ c=>?_
 exact Fp [] 1 c fun _ c=>E0 rE
 refine K0 (T0 (Fp [(1,0)] 5 c fun _ c=>?_))
 replace c:=c.ng
 refine Bd h fun x18 hx18 h=>Cb c (ZbC hx18) tt call147 fun _ _ _ c=>?_
 exact Fp [] 1 c fun _ c=>E0 rE
theorem Zdk {p0 r} (h:Xf p0 = some r):Ct 127 [tV p0 ga0 gc1] [lR ga0 p0.Kids gc1] r:=by
 unfold Xf at h
 refine En func127 rfl ntmps127 fun _ fr w c=>?_
 refine T0 (Ebx (tC p0 ga0 gc1) c fun b1 _ _ c=>?_)
 refine Eal tZ c fun b2 _ _ c=>?_
 refine E0 (T0 (Fp [(1,0)] 2 c fun _ c=>Bd h fun x1 hx1 h=>Eem c (.f 0) hx1 fun _ u1 _ c=>?_))
 obtain ⟨a1,c1,rfl,c⟩:=c.o_Term 1
 refine Eal tZ c fun b3 _ _ c=>?_
 refine Ess 2 (tC x1 a1 c1) c fun _ c=>?_
 refine E0 (S0 (P0 [(1,2),(3,0)] c fun _ c=>I0 c h (fun h=>?_) fun h=>?_))
 refine T0 (Fp [(1,2)] 2 c fun _ c=>?_)
 replace c:=c.ng
 refine Bd h fun x2 hx2 h=>Eem c (.f 2) hx2 fun _ u2 _ c=>?_
 obtain ⟨a2,c2,rfl,c⟩:=c.o_Term 3
 refine Ess 1 (tC x2 a2 c2) c fun _ c=>?_
 refine E0 ?_
 obtain rfl:=sj h
 exact wp_ret (tr (Rg c (a2,c2) [] [4] (.cell (α:=Agg 4) kk (.b 1) .nil)))
 refine K0 (T0 (Fp [(0,0)] 1 c fun _ c=>?_))
 replace c:=c.ng
 refine Ess 1 (tC p0 ga0 gc1) c fun _ c=>?_
 refine E0 ?_
 obtain rfl:=sj h
 exact wp_ret (Rg c (ga0,gc1) [] [0] (.cell (α:=Agg 4) kk (.b 1) .nil))
theorem YW {p0 p1 r} (h:Zp p0 p1 = some r):C0 90 [tV p0 ga0 gc1,I p1] [lR ga0 p0.Kids gc1] (.bool r):=by
 unfold Zp at h
 refine En func90 rfl ntmps90 fun _ fr w c=>?_
 refine T0 (Ebx (tC p0 ga0 gc1) c fun b1 _ _ c=>?_)
 refine Fp [] 1 c fun _ c=>E0 (S0 (Ry [(1,0),(5,0)] mix c fun _ _ c=>?_))
 exact rE
theorem ZbV {p0 r} (h:Zal p0 = some r):C0 170 [I p0] [] (.bool r):=by
 unfold Zal at h
 refine En func170 rfl ntmps170 fun _ fr w c=>?_
 exact P0 [] c fun _ c=>P0 [] c fun _ c=>rE
theorem X3 {p0 p1 r} (h:Y1 p0 p1 = some r):C0 163 [I p0,I p1] [] (I r):=by
 unfold Y1 at h
 refine En func163 rfl ntmps163 fun _ fr w c=>?_
 refine P0 [] c fun _ c=>T0 (Fp [] 1 c fun _ c=>Bd h fun x1 hx1 h=>Cb c (ZbV hx1) tt call170 fun _ _ _ c=>?_)
 refine Fp [] 1 c fun _ c=>E0 (T0 (Fp [] 1 c fun _ c=>Bd h fun x2 hx2 h=>Cb c (ZbV hx2) tt call170 fun _ _ _ c=>?_))
 exact Fp [] 1 c fun _ c=>E0 (S0 (P0 [] c fun _ c=>I0 c h (fun h=>S0 (P0 [] c fun _ c=>I0 c h (fun h=>P0 [] c fun _ c=>rE) fun h=>K0 (P0 [] c fun _ c=>rE))) fun h=>K0 (S0 (P0 [] c fun _ c=>I0 c h (fun h=>P0 [] c fun _ c=>rE) fun h=>K0 (S0 (P0 [] c fun _ c=>I0 c h (fun h=>P0 [] c fun _ c=>rE) fun h=>K0 (S0 (P0 [] c fun _ c=>I0 c h (fun h=>P0 [] c fun _ c=>rE) fun h=>K0 (P0 [] c fun _ c=>rE)))))))))
theorem Zdw {p0 p1 r} (h:GL.strings_Compare p0 p1 = some r):C0 164 [Str.val p0,Str.val p1] [] (I r):=by
 unfold GL.strings_Compare at h
 obtain rfl:=sj h
 refine Con.lib fun w F hF=>?_
 refine (Tryz.strings_Compare ⟨p0.bytes.toArray⟩ ⟨p1.bytes.toArray⟩ w).mono ?_
 rintro e w' ⟨rfl,rfl⟩
 exact ⟨by simp,Chg.refl _ _⟩
theorem Zbq {n:Nat}:∀ {p0 p1 ga0 gc1 ga2 gc3 r} (h:ZH n p0 p1 = some r),C0 151 [tV p0 ga0 gc1,tV p1 ga2 gc3] [lR ga0 p0.Kids gc1,lR ga2 p1.Kids gc3] (I r):=by
 induction n with
 | zero=>intro p0 p1 ga0 gc1 ga2 gc3 r h; simp [ZH] at h
 | succ n ih=>
 intro p0 p1 ga0 gc1 ga2 gc3 r h
 rw [ZH] at h
 refine En func151 rfl ntmps151 fun _ fr w c=>?_
 refine T0 (Ebx (tC p0 ga0 gc1) c fun b1 _ _ c=>?_)
 refine Ebx (tC p1 ga2 gc3) c fun b2 _ _ c=>?_
 refine Fp [] 1 c fun _ c=>E0 (S0 (T0 (Fp [(1,0),(3,1)] 4 c fun _ c=>Bd h fun x1 hx1 h=>Cb c (X3 hx1) tt call163 fun _ _ _ c=>?_)))
 refine Fp [] 1 c fun _ c=>E0 (P0 [] c fun _ c=>I0 c h (fun h=>P0 [] c fun _ c=>rE) fun h=>?_)
 refine K0 (S0 (T0 (Fp [(1,0),(3,1)] 4 c fun _ c=>Bd h fun x2 hx2 h=>Cb c (X3 hx2) tt call163 fun _ _ _ c=>?_)))
 refine Fp [] 1 c fun _ c=>E0 (P0 [] c fun _ c=>I0 c h (fun h=>P0 [] c fun _ c=>rE) fun h=>?_)
 refine K0 (S0 (T0 (Fp [(1,0),(3,1)] 4 c fun _ c=>Bd h fun x3 hx3 h=>Cb c (X3 hx3) tt call163 fun _ _ _ c=>?_)))
 refine Fp [] 1 c fun _ c=>E0 (P0 [] c fun _ c=>I0 c h (fun h=>P0 [] c fun _ c=>rE) fun h=>?_)
 refine K0 (S0 (T0 (Fp [(1,0),(3,1)] 4 c fun _ c=>?_)))
 replace c:=c.ng
 refine Bd h fun x4 hx4 h=>Cb c (Zdw hx4) tt call164 fun _ _ _ c=>?_
 refine Fp [] 1 c fun _ c=>E0 (P0 [] c fun _ c=>I0 c h (fun h=>P0 [] c fun _ c=>rE) fun h=>?_)
 refine K0 (S0 (P0 [] c fun _ c=>Bd h fun rl1 hit1 h=>?_))
 have hk1:=h
 refine LpR (fun s1  (_:Unit)=>([(2,B b1 0),(3,B b2 0),(9,I s1)],id,[])) (fun s  (_:Unit)=>([(2,B b1 0),(3,B b2 0)],id,[])) hit1 c () (c.rk [0,1] [0,1]) (fun s1 q1 _ _ _ c h hr1=>?_) fun s1r _ _ _ hrl c=>?_
 refine S0 (S0 (Ry [(2,0),(8,1)] mix c fun _ _ c=>I0 c h (fun h=>?_) fun h=>?_))
 refine K0 (S0 (wp_block (Bd h fun x5 hx5 h=>?_)))
 obtain ⟨ep1,u1,c⟩:=c.elp (.f 0) hx5
 obtain ⟨a1,c1,rfl,c⟩:=c.o_Term 3
 refine Bd h fun x6 hx6 h=>?_
 obtain ⟨ep2,u2,c⟩:=c.elp (.f 1) hx6
 obtain ⟨a2,c2,rfl,c⟩:=c.o_Term 6
 refine Bd h fun x7 hx7 h=>S0 (rZ [(3,.eq (.pointer (some ep1))),(4,.eq (tV x5 a1 c1)),(8,.eq (.pointer (some ep2))),(9,.eq (tV x6 a2 c2)),(10,.eq (I x7))] [(1,0),(6,1)] mix c ⟨Nie c 2,Nle c 2,Nie c 5,Nle c 5,Ncl c (kN (ih hx7)) ⟨.f 4,.f 7,tt⟩ call151,tt⟩ fun _ _ c=>P0 [] c fun _ c=>I0 c h (fun h=>?_) fun h=>?_)
 refine P0 [] c fun _ c=>?_
 obtain rfl:=hr1 _ (sk h)
 obtain rfl:=sj hk1
 exact wp_ret (br (tr (tr (br (tr (Rt c () [] []))))))
 refine K1 (bk (tn (P1 [] c fun _ c=>Nx h () (c.rk [0,1] [0,1]))))
 refine wp_exit (te (te (be ?_)))
 obtain rfl:=hr1 _ (sk h)
 exact tn ⟨_,(),rfl,c.rk [0,1] [0,1]⟩
 subst hrl
 refine T0 (Fp [(1,0),(4,1)] 6 c fun _ c=>Bd h fun x8 hx8 h=>Cb c (X3 hx8) tt call163 fun _ _ _ c=>?_)
 exact Fp [] 1 c fun _ c=>E0 rE
theorem Zbd {p0 p1 r} (h:Ye n p0 p1 = some r):C0 148 [tV p0 ga0 gc1,tV p1 ga2 gc3] [lR ga0 p0.Kids gc1,lR ga2 p1.Kids gc3] (.bool r):=by
 unfold Ye at h
 refine En func148 rfl ntmps148 fun _ fr w c=>?_
 refine T0 (Ebx (tC p0 ga0 gc1) c fun b1 _ _ c=>?_)
 refine Ebx (tC p1 ga2 gc3) c fun b2 _ _ c=>?_
 refine Fp [] 1 c fun _ c=>E0 (T0 (Fp [(0,0),(1,1)] 2 c fun _ c=>Bd h fun x1 hx1 h=>Cb c (Zbq hx1) ⟨.f 0,.f 1,tt⟩ call151 fun _ _ _ c=>?_))
 exact Fp [] 2 c fun _ c=>E0 rE
theorem ZbT {p0 r} (h:Zc p0 = some r):C0 150 [I p0] [] (.bool r):=by
 unfold Zc at h
 refine En func150 rfl ntmps150 fun _ fr w c=>?_
 exact P0 [] c fun _ c=>S0 (P0 [] c fun _ c=>wp_block (S0 (P0 [] c fun _ c=>I0 c h (fun h=>K0 (I0 c h (fun h=>P0 [] c fun _ c=>rE) fun h=>K1 (bk (tn (P0 [] c fun _ c=>rE))))) fun h=>P0 [] c fun _ c=>I0 c h (fun h=>K0 (I0 c h (fun h=>P0 [] c fun _ c=>rE) fun h=>K1 (bk (tn (P0 [] c fun _ c=>rE))))) fun h=>P0 [] c fun _ c=>I0 c h (fun h=>K0 (I0 c h (fun h=>P0 [] c fun _ c=>rE) fun h=>K1 (bk (tn (P0 [] c fun _ c=>rE))))) fun h=>P0 [] c fun _ c=>I0 c h (fun h=>K0 (I0 c h (fun h=>P0 [] c fun _ c=>rE) fun h=>K1 (bk (tn (P0 [] c fun _ c=>rE))))) fun h=>P0 [] c fun _ c=>Mp (p0 == 10) [(4,.bool (p0 == 10))] [(4,.bool (p0 == 14))] [(4,.bool ((p0 == 10) || (p0 == 14)))] [4,10] c fun _ c=>I0 c h (fun h=>P0 [] c fun _ c=>rE) fun h=>K1 (bk (tn (P0 [] c fun _ c=>rE))))))
theorem ZeP {p0 r} (h:Zbr p0 = some r):C0 165 [I p0] [] (I r):=by
 unfold Zbr at h
 refine En func165 rfl ntmps165 fun _ fr w c=>?_
 refine P0 [] c fun _ c=>T0 (Fp [] 2 c fun _ c=>Bd h fun x1 hx1 h=>Eshl c hx1 fun _ c=>?_)
 exact Fp [] 2 c fun _ c=>E0 rE
theorem Z6 (n:Nat):(∀ {p0 p1 p2 p3 ga0 gc1 r} (h:Zo n p0 p1 p2 p3 = some r),Ct 149 [I p0,I p1,I p2,L ga0 p3 gc1] [lR ga0 p3 gc1] r) ∧
    (∀ {p0 ga0 gc1 r} (h:ZA n p0 = some r),Ct 110 [tV p0 ga0 gc1] [lR ga0 p0.Kids gc1] r) ∧
    (∀ {p0 ga0 gc1 r} (h:Yd n p0 = some r),Ct 128 [tV p0 ga0 gc1] [lR ga0 p0.Kids gc1] r) ∧
    (∀ {p0 ga0 gc1 r} (h:ZU n p0 = some r),Ct 129 [tV p0 ga0 gc1] [lR ga0 p0.Kids gc1] r) ∧
    (∀ {p0 ga0 gc1 r} (h:Yy n p0 = some r),Ct 130 [tV p0 ga0 gc1] [lR ga0 p0.Kids gc1] r) ∧
    (∀ {p0 ga0 gc1 r} (h:Yw n p0 = some r),Ct 131 [tV p0 ga0 gc1] [lR ga0 p0.Kids gc1] r) ∧
    (∀ {p0 ga0 gc1 r} (h:Za n p0 = some r),Ct 132 [tV p0 ga0 gc1] [lR ga0 p0.Kids gc1] r) ∧
    (∀ {p0 p1 p2 p3 ga0 gc1 ga2 gc3 r} (h:Zx n p0 p1 p2 p3 = some r),Con prog 152 [I p0,I p1,tV p2 ga0 gc1,tV p3 ga2 gc3] [] [lR ga0 p2.Kids gc1,lR ga2 p3.Kids gc3] fun (i:Oh)=>([tV r.1 i.1 i.2,.bool r.2],[],[lR i.1 r.1.Kids i.2])):=by
 induction n with
 | zero=>exact ⟨by intro p0 p1 p2 p3 ga0 gc1 r h; simp [Zo] at h,by intro p0 ga0 gc1 r h; simp [ZA] at h,by intro p0 ga0 gc1 r h; simp [Yd] at h,by intro p0 ga0 gc1 r h; simp [ZU] at h,by intro p0 ga0 gc1 r h; simp [Yy] at h,by intro p0 ga0 gc1 r h; simp [Yw] at h,by intro p0 ga0 gc1 r h; simp [Za] at h,by intro p0 p1 p2 p3 ga0 gc1 ga2 gc3 r h; simp [Zx] at h⟩
 | succ n ih=>
 obtain ⟨ih0,ih1,ih2,ih3,ih4,ih5,ih6,ih7⟩:=ih
 refine ⟨?_,?_,?_,?_,?_,?_,?_,?_⟩
 · intro p0 p1 p2 p3 ga0 gc1 r h
   rw [Zo] at h
   refine En func149 rfl ntmps149 fun _ fr w c=>?_
   refine T0 (Eal tZ c fun b1 _ _ c=>?_)
   refine E0 (T0 (Fp [] 5 c fun _ c=>Bd h fun x1 hx1 h=>Cg c (ih1 hx1) ⟨.f 0,tt⟩ call110 fun i1 _ _ c=>?_))
   refine Ess 0 (tC x1 i1.1 i1.2) c fun _ c=>?_
   refine E0 ?_
   obtain rfl:=sj h
   exact wp_ret (Rg c (i1.1,i1.2) [] [1] (.cell (α:=Agg 4) kk (.b 0) .nil))
 · intro p0 ga0 gc1 r h
   rw [ZA] at h
   refine En func110 rfl ntmps110 fun _ fr w c=>?_
   refine T0 (Ebx (tC p0 ga0 gc1) c fun b1 _ _ c=>?_)
   refine Eal tZ c fun b2 _ _ c=>?_
   refine E0 (S0 (P0 [(1,0)] c fun _ c=>I0 c h (fun h=>?_) fun h=>?_))
   refine T0 (Fp [(0,0)] 1 c fun _ c=>Ess 1 (tC p0 ga0 gc1) c fun _ c=>?_)
   refine E0 ?_
   obtain rfl:=sj h
   exact wp_ret (tr (Rg c (ga0,gc1) [] [0] (.cell (α:=Agg 4) kk (.b 1) .nil)))
   refine K0 (P0 [] c fun _ c=>S0 (P0 [(1,0)] c fun _ c=>Bd h fun rl1 hit1 h=>Lp (fun s1  (_:Unit)=>([(1,B b1 0),(2,B b2 0),(3,.bool s1.1),(12,I (len p0.Kids)),(13,I s1.2)],id,[])) (fun  (_:Unit)=>([(1,B b1 0),(2,B b2 0),(3,.bool rl1)],id,[])) hit1 c () (c.rk [0,1] [0]) (fun s1 q1 _ _ _ c h hr1=>?_) fun _ _ _ c=>?_))
   refine P0 [] c fun _ c=>S0 (I0 c h (fun h=>?_) fun h=>?_)
   refine K0 (S0 (wp_block (P0 [] c fun _ c=>Bd h fun x1 hx1 h=>Bd h fun x2 hx2 h=>Tq (rZ [(5,Pd.el (x1:D.Term)),(6,Pd.rd (x1:D.Term)),(7,.eq (.bool x2))] [(3,0)] mix c ⟨Nid c (.f 0) (gT hx1),Nrd c 5 (atN 5),Ncd (Ψ:=[]) [.r 6 (fun v=>RO v (x1:D.Term))] c ⟨(atN 6),tt⟩ tt (fun hg _ _ ga gp=>by obtain ⟨u1,_,rfl,g1,rfl⟩:=ga; obtain ⟨k1,rfl,f1⟩:=Opn.opn g1; exact ⟨_,f1,YE (iteT (gcT hg) hx2)⟩) call93,tt⟩ fun _ _ c=>bk (tn (P1 [] c fun _ c=>Nx h () (c.rk [0,1] [0])))))))
   refine wp_exit (te (te (be ?_)))
   obtain rfl:=hr1 _ (sk h)
   exact tn ⟨(),c.rk [0,1] [0]⟩
   refine S0 (P0 [] c fun _ c=>I0 c h (fun h=>?_) fun h=>?_)
   refine Bd h fun x3 hx3 h=>S0 (YU mix (rM 4 [(3,.eq (I x3))] [(1,0),(2,0)] c (fun ow=>⟨ZN ow (Ncl c (kN (ZdW hx3)) ⟨.f 0,.mn,tt⟩ call126),tt⟩) fun _ _ _ _ _ c=>Bd h fun x4 hx4 h=>Cb c (ZI hx4) tt call85 fun _ _ _ c=>?_))
   refine Ess 1 [I x4.Op,I x4.W,I x4.N,Str.val x4.Name,L0] c fun _ c=>?_
   refine E0 ?_
   cases h
   replace c:=c.nilf (α:=D.Term)
   exact wp_ret (tr (Rg c (none,0) [] [1] (.cell (α:=Agg 4) kk (.b 1) .nil)))
   refine K0 (S0 (P0 [(1,0)] c fun _ c=>wp_block (S0 (P0 [] c fun _ c=>Mp (p0.Op == 1) [(34,.bool (p0.Op == 1))] [(34,.bool (p0.Op == 2))] [(34,.bool ((p0.Op == 1) || (p0.Op == 2)))] [34,36] c fun _ c=>I0 c h (fun h=>?_) fun h=>?_))))
   refine T0 (Fp [(0,0)] 1 c fun _ c=>Bd h fun x5 hx5 h=>Cg c (Zdk hx5) ⟨.f 0,tt⟩ call127 fun i1 _ _ c=>?_)
   refine Ess 1 (tC x5 i1.1 i1.2) c fun _ c=>?_
   refine E0 ?_
   obtain rfl:=sj h
   exact wp_ret (br (tr (Rg c (i1.1,i1.2) [] [1] (.cell (α:=Agg 4) kk (.b 1) .nil))))
   refine P0 [] c fun _ c=>I0 c h (fun h=>?_) fun h=>?_
   refine T0 (Fp [(0,0)] 1 c fun _ c=>Bd h fun x6 hx6 h=>Cg c (ih2 hx6) ⟨.f 0,tt⟩ call128 fun i2 _ _ c=>?_)
   refine Ess 1 (tC x6 i2.1 i2.2) c fun _ c=>?_
   refine E0 ?_
   obtain rfl:=sj h
   exact wp_ret (br (tr (Rg c (i2.1,i2.2) [] [1] (.cell (α:=Agg 4) kk (.b 1) .nil))))
   refine P0 [] c fun _ c=>I0 c h (fun h=>?_) fun h=>?_
   refine T0 (Fp [(0,0)] 1 c fun _ c=>Bd h fun x7 hx7 h=>Cg c (ih3 hx7) ⟨.f 0,tt⟩ call129 fun i3 _ _ c=>?_)
   refine Ess 1 (tC x7 i3.1 i3.2) c fun _ c=>?_
   refine E0 ?_
   obtain rfl:=sj h
   exact wp_ret (br (tr (Rg c (i3.1,i3.2) [] [1] (.cell (α:=Agg 4) kk (.b 1) .nil))))
   refine S0 (P0 [] c fun _ c=>Mp (p0.Op == 20) [(47,.bool (p0.Op == 20))] [(47,.bool (p0.Op == 21))] [(47,.bool ((p0.Op == 20) || (p0.Op == 21)))] [47,49] c fun _ c=>I0 c h (fun h=>?_) fun h=>?_)
   refine T0 (Fp [(0,0)] 1 c fun _ c=>Bd h fun x8 hx8 h=>Cg c (ih4 hx8) ⟨.f 0,tt⟩ call130 fun i4 _ _ c=>?_)
   refine Ess 1 (tC x8 i4.1 i4.2) c fun _ c=>?_
   refine E0 ?_
   obtain rfl:=sj h
   exact wp_ret (br (tr (Rg c (i4.1,i4.2) [] [1] (.cell (α:=Agg 4) kk (.b 1) .nil))))
   refine P0 [] c fun _ c=>I0 c h (fun h=>?_) fun h=>?_
   refine T0 (Fp [(0,0)] 1 c fun _ c=>Bd h fun x9 hx9 h=>Cg c (ih5 hx9) ⟨.f 0,tt⟩ call131 fun i5 _ _ c=>?_)
   refine Ess 1 (tC x9 i5.1 i5.2) c fun _ c=>?_
   refine E0 ?_
   obtain rfl:=sj h
   exact wp_ret (br (tr (Rg c (i5.1,i5.2) [] [1] (.cell (α:=Agg 4) kk (.b 1) .nil))))
   refine K1 (bk (tn (T0 (Fp [(0,0)] 1 c fun _ c=>Bd h fun x10 hx10 h=>Cg c (ih6 hx10) ⟨.f 0,tt⟩ call132 fun i6 _ _ c=>?_))))
   refine Ess 1 (tC x10 i6.1 i6.2) c fun _ c=>?_
   refine E0 ?_
   obtain rfl:=sj h
   exact wp_ret (Rg c (i6.1,i6.2) [] [1] (.cell (α:=Agg 4) kk (.b 1) .nil))
 · intro p0 ga0 gc1 r h
   rw [Yd] at h
   refine En func128 rfl ntmps128 fun _ fr w c=>?_
   refine T0 (Ebx (tC p0 ga0 gc1) c fun b1 _ _ c=>?_)
   refine Eal tZ c fun b2 _ _ c=>?_
   refine E0 (Bd h fun x1 hx1 h=>?_)
   obtain ⟨ep1,u1,c⟩:=c.elp (.f 0) hx1
   obtain ⟨a1,c1,rfl,c⟩:=c.o_Term 2
   refine Bd h fun x2 hx2 h=>?_
   obtain ⟨ep2,u2,c⟩:=c.elp (.f 0) hx2
   obtain ⟨a2,c2,rfl,c⟩:=c.o_Term 5
   refine Bd h fun x3 hx3 h=>?_
   obtain ⟨ep3,u3,c⟩:=c.elp (.f 0) hx3
   obtain ⟨a3,c3,rfl,c⟩:=c.o_Term 8
   refine S0 (Jn (fun i:Nat × Nat × Nat=>([(1,B b1 0),(2,B b2 0),(3,B i.1 0),(4,B i.2.1 0),(5,B i.q2 0)],fun Γ=>Γ ++ [BX i.1 75 (tC x1 a1 c1),BX i.2.1 75 (tC x2 a2 c2),BX i.q2 75 (tC x3 a3 c3)],[])) c ?_ fun i8 _ _ c=>?_)
   refine As mix c fun _ c=>?_
   replace c:=Cx.frs [(1,B b1 0),(2,B b2 0)] c
   refine Dq (fun i:Nat × Nat × Nat=>([(1,B b1 0),(2,B b2 0),(3,B i.1 0),(4,B i.2.1 0),(5,B i.q2 0)],fun Γ=>Γ ++ [BX i.1 75 (tC x1 a1 c1),BX i.2.1 75 (tC x2 a2 c2),BX i.q2 75 (tC x3 a3 c3)],[])) (bN 18 262143) (fun i=>[]) c (fun i7=>?_) fun hd10=>?_
   obtain ⟨b33,b34,b35⟩:=i7
   refine qnE tt fun _ _ c=>?_
   exact nN (b33,b34,b35) (c.rk (rg 5) (rg 10))
   refine Dq (fun i:Nat × Nat × Nat=>([(1,B b1 0),(2,B b2 0),(3,B i.1 0),(4,B i.2.1 0),(5,B i.q2 0)],fun Γ=>Γ ++ [BX i.1 75 (tC x1 a1 c1),BX i.2.1 75 (tC x2 a2 c2),BX i.q2 75 tZ],[])) (bN 18 127231) (fun i=>[(8,14,B b1 4),(9,15,L ga0 p0.Kids gc1),(10,16,.pointer (some ep3)),(11,17,tV x3 a3 c3)]) c (fun i6=>?_) fun hd9=>?_
   obtain ⟨b30,b31,b32⟩:=i6
   refine qn [17] ⟨qP [],qP [(0,0)],qI 7,qL 7,tt⟩ ⟨fun _ _ c=>?_,tt⟩
   refine Zf _ rfl rfl ?_
   refine Ess 4 (tC x3 a3 c3) c fun _ c=>?_
   refine E0 (nQ hd10 (b30,b31,b32) (c.rk (rg 5) (rg 10)))
   refine Dq (fun i:Nat × Nat × Nat=>([(1,B b1 0),(2,B b2 0),(3,B i.1 0),(4,B i.2.1 0),(5,B i.q2 0)],fun Γ=>Γ ++ [BX i.1 75 (tC x1 a1 c1),BX i.2.1 75 tZ,BX i.q2 75 tZ],[])) (bN 18 61455) (fun i=>[(4,10,B b1 4),(5,11,L ga0 p0.Kids gc1),(6,12,.pointer (some ep2)),(7,13,tV x2 a2 c2),(8,14,B b1 4),(9,15,L ga0 p0.Kids gc1),(10,16,.pointer (some ep3)),(11,17,tV x3 a3 c3)]) c (fun i5=>?_) fun hd8=>?_
   obtain ⟨b27,b28,b29⟩:=i5
   refine qn [16] ⟨qP [],qP [(0,0)],qI 4,qL 4,qP [],qP [(0,0)],qI 7,qL 7,tt⟩ ⟨fun _ _ c=>?_,tt⟩
   refine Zf _ rfl rfl ?_
   refine Ess 3 (tC x2 a2 c2) c fun _ c=>?_
   refine E0 (nQ hd9 (b27,b28,b29) (c.rk (rg 5) (rg 10)))
   refine Dq (fun i:Nat × Nat × Nat=>([(1,B b1 0),(2,B b2 0),(3,B i.1 0),(4,B i.2.1 0),(5,B i.q2 0)],fun Γ=>Γ ++ [BX i.1 75 tZ,BX i.2.1 75 tZ,BX i.q2 75 tZ],[])) (bN 18 28672) (fun i=>[(0,6,B b1 4),(1,7,L ga0 p0.Kids gc1),(2,8,.pointer (some ep1)),(3,9,tV x1 a1 c1),(4,10,B b1 4),(5,11,L ga0 p0.Kids gc1),(6,12,.pointer (some ep2)),(7,13,tV x2 a2 c2),(8,14,B b1 4),(9,15,L ga0 p0.Kids gc1),(10,16,.pointer (some ep3)),(11,17,tV x3 a3 c3)]) c (fun i4=>?_) fun hd7=>?_
   obtain ⟨b22,b23,b24⟩:=i4
   refine qn [15] ⟨qP [],qP [(0,0)],qI 1,qL 1,qP [],qP [(0,0)],qI 4,qL 4,qP [],qP [(0,0)],qI 7,qL 7,tt⟩ ⟨fun _ _ c=>?_,tt⟩
   refine Zf _ rfl rfl ?_
   refine Ess 2 (tC x1 a1 c1) c fun _ c=>?_
   refine E0 (nQ hd8 (b22,b23,b24) (c.rk (rg 5) (rg 10)))
   refine Dq (fun i:Nat × Nat=>([(1,B b1 0),(2,B b2 0),(3,B i.1 0),(4,B i.2 0)],fun Γ=>Γ ++ [BX i.1 75 tZ,BX i.2 75 tZ],[])) (bN 18 12288) (fun i=>[(0,6,B b1 4),(1,7,L ga0 p0.Kids gc1),(2,8,.pointer (some ep1)),(3,9,tV x1 a1 c1),(4,10,B b1 4),(5,11,L ga0 p0.Kids gc1),(6,12,.pointer (some ep2)),(7,13,tV x2 a2 c2),(8,14,B b1 4),(9,15,L ga0 p0.Kids gc1),(10,16,.pointer (some ep3)),(11,17,tV x3 a3 c3)]) c (fun i1=>?_) fun hd4=>?_
   obtain ⟨b10,b11⟩:=i1
   refine qn [14] ⟨qP [],qP [(0,0)],qI 1,qL 1,qP [],qP [(0,0)],qI 4,qL 4,qP [],qP [(0,0)],qI 7,qL 7,tt⟩ ⟨fun _ _ c=>?_,tt⟩
   refine Zf _ rfl rfl ?_
   refine Eal tZ c fun b21 _ _ c=>?_
   refine E0 (nQ hd7 (b10,b11,b21) (c.rk (rg 5) (rg 10)))
   refine Dq (fun i:Nat × Nat=>([(1,B b1 0),(2,B b2 0),(3,B i.1 0),(5,B i.2 0)],fun Γ=>Γ ++ [BX i.1 75 tZ,BX i.2 75 tZ],[])) (bN 18 20480) (fun i=>[(0,6,B b1 4),(1,7,L ga0 p0.Kids gc1),(2,8,.pointer (some ep1)),(3,9,tV x1 a1 c1),(4,10,B b1 4),(5,11,L ga0 p0.Kids gc1),(6,12,.pointer (some ep2)),(7,13,tV x2 a2 c2),(8,14,B b1 4),(9,15,L ga0 p0.Kids gc1),(10,16,.pointer (some ep3)),(11,17,tV x3 a3 c3)]) c (fun i2=>?_) fun hd5=>?_
   obtain ⟨b13,b14⟩:=i2
   refine qn [13] ⟨qP [],qP [(0,0)],qI 1,qL 1,qP [],qP [(0,0)],qI 4,qL 4,qP [],qP [(0,0)],qI 7,qL 7,tt⟩ ⟨fun _ _ c=>?_,tt⟩
   refine Zf _ rfl rfl ?_
   refine Eal tZ c fun b25 _ _ c=>?_
   refine E0 (nQ hd7 (b13,b25,b14) (c.rk [0,1,2,4,3] (rg 10)))
   refine Dq (fun i:Nat × Nat=>([(1,B b1 0),(2,B b2 0),(4,B i.1 0),(5,B i.2 0)],fun Γ=>Γ ++ [BX i.1 75 tZ,BX i.2 75 tZ],[])) (bN 18 24576) (fun i=>[(0,6,B b1 4),(1,7,L ga0 p0.Kids gc1),(2,8,.pointer (some ep1)),(3,9,tV x1 a1 c1),(4,10,B b1 4),(5,11,L ga0 p0.Kids gc1),(6,12,.pointer (some ep2)),(7,13,tV x2 a2 c2),(8,14,B b1 4),(9,15,L ga0 p0.Kids gc1),(10,16,.pointer (some ep3)),(11,17,tV x3 a3 c3)]) c (fun i3=>?_) fun hd6=>?_
   obtain ⟨b17,b18⟩:=i3
   refine qn [12] ⟨qP [],qP [(0,0)],qI 1,qL 1,qP [],qP [(0,0)],qI 4,qL 4,qP [],qP [(0,0)],qI 7,qL 7,tt⟩ ⟨fun _ _ c=>?_,tt⟩
   refine Zf _ rfl rfl ?_
   refine Eal tZ c fun b26 _ _ c=>?_
   refine E0 (nQ hd7 (b26,b17,b18) (c.rk [0,1,4,2,3] (rg 10)))
   refine Dq (fun i:Nat=>([(1,B b1 0),(2,B b2 0),(3,B i 0)],fun Γ=>Γ ++ [BX i 75 tZ],[])) (bN 18 4096) (fun i=>[(0,6,B b1 4),(1,7,L ga0 p0.Kids gc1),(2,8,.pointer (some ep1)),(3,9,tV x1 a1 c1),(4,10,B b1 4),(5,11,L ga0 p0.Kids gc1),(6,12,.pointer (some ep2)),(7,13,tV x2 a2 c2),(8,14,B b1 4),(9,15,L ga0 p0.Kids gc1),(10,16,.pointer (some ep3)),(11,17,tV x3 a3 c3)]) c (fun b4=>?_) fun hd1=>?_
   refine qn [13,14] ⟨qP [],qP [(0,0)],qI 1,qL 1,qP [],qP [(0,0)],qI 4,qL 4,qP [],qP [(0,0)],qI 7,qL 7,tt⟩ ⟨fun _ _ c=>?_,fun _ _ c=>?_,tt⟩
   refine Zf _ rfl rfl ?_
   refine Eal tZ c fun b9 _ _ c=>?_
   refine E0 (nQ hd4 (b4,b9) (c.rk (rg 4) (rg 10)))
   refine Zf _ rfl rfl ?_
   refine Eal tZ c fun b12 _ _ c=>?_
   refine E0 (nQ hd5 (b4,b12) (c.rk (rg 4) (rg 10)))
   refine Dq (fun i:Nat=>([(1,B b1 0),(2,B b2 0),(4,B i 0)],fun Γ=>Γ ++ [BX i 75 tZ],[])) (bN 18 8192) (fun i=>[(0,6,B b1 4),(1,7,L ga0 p0.Kids gc1),(2,8,.pointer (some ep1)),(3,9,tV x1 a1 c1),(4,10,B b1 4),(5,11,L ga0 p0.Kids gc1),(6,12,.pointer (some ep2)),(7,13,tV x2 a2 c2),(8,14,B b1 4),(9,15,L ga0 p0.Kids gc1),(10,16,.pointer (some ep3)),(11,17,tV x3 a3 c3)]) c (fun b6=>?_) fun hd2=>?_
   refine qn [12,14] ⟨qP [],qP [(0,0)],qI 1,qL 1,qP [],qP [(0,0)],qI 4,qL 4,qP [],qP [(0,0)],qI 7,qL 7,tt⟩ ⟨fun _ _ c=>?_,fun _ _ c=>?_,tt⟩
   refine Zf _ rfl rfl ?_
   refine Eal tZ c fun b15 _ _ c=>?_
   refine E0 (nQ hd4 (b15,b6) (c.rk [0,1,3,2] (rg 10)))
   refine Zf _ rfl rfl ?_
   refine Eal tZ c fun b16 _ _ c=>?_
   refine E0 (nQ hd6 (b6,b16) (c.rk (rg 4) (rg 10)))
   refine Dq (fun i:Nat=>([(1,B b1 0),(2,B b2 0),(5,B i 0)],fun Γ=>Γ ++ [BX i 75 tZ],[])) (bN 18 16384) (fun i=>[(0,6,B b1 4),(1,7,L ga0 p0.Kids gc1),(2,8,.pointer (some ep1)),(3,9,tV x1 a1 c1),(4,10,B b1 4),(5,11,L ga0 p0.Kids gc1),(6,12,.pointer (some ep2)),(7,13,tV x2 a2 c2),(8,14,B b1 4),(9,15,L ga0 p0.Kids gc1),(10,16,.pointer (some ep3)),(11,17,tV x3 a3 c3)]) c (fun b8=>?_) fun hd3=>?_
   refine qn [12,13] ⟨qP [],qP [(0,0)],qI 1,qL 1,qP [],qP [(0,0)],qI 4,qL 4,qP [],qP [(0,0)],qI 7,qL 7,tt⟩ ⟨fun _ _ c=>?_,fun _ _ c=>?_,tt⟩
   refine Zf _ rfl rfl ?_
   refine Eal tZ c fun b19 _ _ c=>?_
   refine E0 (nQ hd5 (b19,b8) (c.rk [0,1,3,2] (rg 10)))
   refine Zf _ rfl rfl ?_
   refine Eal tZ c fun b20 _ _ c=>?_
   refine E0 (nQ hd6 (b20,b8) (c.rk [0,1,3,2] (rg 10)))
   refine q0 (qs:=[(0,6,B b1 4),(1,7,L ga0 p0.Kids gc1),(2,8,.pointer (some ep1)),(3,9,tV x1 a1 c1),(4,10,B b1 4),(5,11,L ga0 p0.Kids gc1),(6,12,.pointer (some ep2)),(7,13,tV x2 a2 c2),(8,14,B b1 4),(9,15,L ga0 p0.Kids gc1),(10,16,.pointer (some ep3)),(11,17,tV x3 a3 c3)]) c (qn [12,13,14] ⟨qP [],qP [(0,0)],qI 1,qL 1,qP [],qP [(0,0)],qI 4,qL 4,qP [],qP [(0,0)],qI 7,qL 7,tt⟩ ⟨fun _ _ c=>?_,fun _ _ c=>?_,fun _ _ c=>?_,tt⟩)
   refine Zf _ rfl rfl ?_
   refine Eal tZ c fun b3 _ _ c=>?_
   refine E0 (nQ hd1 (b3) (c.rk [0,1,2] (rg 10)))
   refine Zf _ rfl rfl ?_
   refine Eal tZ c fun b5 _ _ c=>?_
   refine E0 (nQ hd2 (b5) (c.rk [0,1,2] (rg 10)))
   refine Zf _ rfl rfl ?_
   refine Eal tZ c fun b7 _ _ c=>?_
   refine E0 (nQ hd3 (b7) (c.rk [0,1,2] (rg 10)))
   obtain ⟨b36,b37,b38⟩:=i8
   refine S0 (wp_block (T0 (Fp [(0,2)] 1 c fun _ c=>Bd h fun x4 hx4 h=>Cb c (YW hx4) ⟨.f 3,tt⟩ call90 fun _ _ _ c=>?_)))
   refine Fp [] 1 c fun _ c=>E0 (I0 c h (fun h=>?_) fun h=>?_)
   refine T0 (Fp [(0,3)] 1 c fun _ c=>Ess 1 (tC x2 a2 c2) c fun _ c=>?_)
   refine E0 ?_
   obtain rfl:=sj h
   exact wp_ret (br (tr (Rg c (a2,c2) [] [6] (.cell (α:=Agg 4) kk (.b 1) .nil))))
   refine T0 (Fp [(0,2)] 1 c fun _ c=>Bd h fun x5 hx5 h=>Cb c (YE hx5) ⟨.f 3,tt⟩ call93 fun _ _ _ c=>?_)
   refine Fp [] 1 c fun _ c=>E0 (I0 c h (fun h=>?_) fun h=>?_)
   refine T0 (Fp [(0,4)] 1 c fun _ c=>Ess 1 (tC x3 a3 c3) c fun _ c=>?_)
   refine E0 ?_
   obtain rfl:=sj h
   exact wp_ret (br (tr (Rg c (a3,c3) [] [9] (.cell (α:=Agg 4) kk (.b 1) .nil))))
   refine T0 (Fp [(0,3),(1,4)] 2 c fun _ c=>Bd h fun x6 hx6 h=>Cb c (Zbd hx6) ⟨.f 6,.f 9,tt⟩ call148 fun _ _ _ c=>?_)
   refine Fp [] 1 c fun _ c=>E0 (I0 c h (fun h=>?_) fun h=>?_)
   refine T0 (Fp [(0,3)] 1 c fun _ c=>Ess 1 (tC x2 a2 c2) c fun _ c=>?_)
   refine E0 ?_
   obtain rfl:=sj h
   exact wp_ret (br (tr (Rg c (a2,c2) [] [6] (.cell (α:=Agg 4) kk (.b 1) .nil))))
   refine P0 [(1,2)] c fun _ c=>I0 c h (fun h=>?_) fun h=>?_
   refine Bd h fun x7 hx7 h=>?_
   obtain ⟨ep4,u4,c⟩:=c.elp (.f 3) hx7
   obtain ⟨a4,c4,rfl,c⟩:=c.o_Term 11
   refine S0 (YU mix (rM 9 [(4,.eq (.pointer (some ep4))),(5,.eq (tV x7 a4 c4)),(8,Pd.nw c.wd 8 (fun i:Oh=>L i.1 [x7,x3,x2] i.2) (fun i=>sl75 (L i.1 [x7,x3,x2] i.2) [(tR x7 a4 c4),(tR x3 a3 c3),(tR x2 a2 c2)]))] [(1,0),(3,2),(6,4),(7,3)] c (fun ow=>⟨ZN ow (Nie c 10),ZN ow (Nle c 10),Nlt c [(tR x7 a4 c4),(tR x3 a3 c3),(tR x2 a2 c2)],tt⟩) fun ow _ _ hE hc cq=>?_))
   obtain ⟨i9,hi9⟩:=hE.nw 8 43
   replace c:=Cx.newt c hc cq [(8,43,_,_)] ⟨hi9,tt⟩
   replace c:=c.csl [(tR x7 a4 c4),(tR x3 a3 c3),(tR x2 a2 c2)] [x7,x3,x2] ⟨(Ava.mk_Term x7 (.f 12)),(Ava.mk_Term x3 (.f 9)),(Ava.mk_Term x2 (.f 6)),tt⟩
   replace c:=c.nf
   replace c:=c.fzr 5 13
   refine Bd h fun x8 hx8 h=>Cg c (ih0 hx8) ⟨.f 14,tt⟩ call149 fun i10 _ _ c=>?_
   refine Ess 1 (tC x8 i10.1 i10.2) c fun _ c=>?_
   refine E0 ?_
   obtain rfl:=sj h
   exact wp_ret (br (tr (Rg c (i10.1,i10.2) [] [15] (.cell (α:=Agg 4) kk (.b 1) .nil))))
   refine Bd h fun x9 hx9 h=>Bd h fun x10 hx10 h=>S0 (rZ [(5,.eq (.bool x9)),(9,.eq (.bool x10))] [(1,0),(4,3),(8,4)] mix c ⟨Ncl c (fun hg=>YW (iteT (gcT hg) hx9)) ⟨.f 6,tt⟩ call90,Ncl c (fun hg=>YW (iteT (gcT hg) hx10)) ⟨.f 9,tt⟩ call90,tt⟩ fun _ _ c=>I0 c h (fun h=>?_) fun h=>?_)
   refine T0 (Fp [(0,2)] 1 c fun _ c=>Ess 1 (tC x1 a1 c1) c fun _ c=>?_)
   refine E0 ?_
   obtain rfl:=sj h
   exact wp_ret (br (tr (Rg c (a1,c1) [] [3] (.cell (α:=Agg 4) kk (.b 1) .nil))))
   refine Bd h fun x11 hx11 h=>Bd h fun x12 hx12 h=>S0 (rZ [(5,.eq (.bool x11)),(9,.eq (.bool x12))] [(1,0),(4,3),(8,4)] mix c ⟨Ncl c (fun hg=>YW (iteT (gcT hg) hx11)) ⟨.f 6,tt⟩ call90,Ncl c (fun hg=>YW (iteT (gcT hg) hx12)) ⟨.f 9,tt⟩ call90,tt⟩ fun _ _ c=>I0 c h (fun h=>?_) fun h=>?_)
   refine T0 (Fp [(0,2)] 1 c fun _ c=>Eltr 75 [(tR x1 a1 c1)] [x1] c ⟨(Ava.mk_Term x1 (.f 3)),tt⟩ fun a5 c5 _ _ c=>?_)
   replace c:=c.nf
   replace c:=c.fzr 5 10
   refine Bd h fun x13 hx13 h=>Cg c (ih0 hx13) ⟨.f 11,tt⟩ call149 fun i11 _ _ c=>?_
   refine Ess 1 (tC x13 i11.1 i11.2) c fun _ c=>?_
   refine E0 ?_
   obtain rfl:=sj h
   exact wp_ret (br (tr (Rg c (i11.1,i11.2) [] [12] (.cell (α:=Agg 4) kk (.b 1) .nil))))
   refine K1 (bk (tn (T0 (Fp [(0,0)] 1 c fun _ c=>Ess 1 (tC p0 ga0 gc1) c fun _ c=>?_))))
   refine E0 ?_
   obtain rfl:=sj h
   exact wp_ret (Rg c (ga0,gc1) [] [0] (.cell (α:=Agg 4) kk (.b 1) .nil))
 · intro p0 ga0 gc1 r h
   rw [ZU] at h
   refine En func129 rfl ntmps129 fun _ fr w c=>?_
   refine T0 (Ebx (tC p0 ga0 gc1) c fun b1 _ _ c=>?_)
   refine Eal tZ c fun b2 _ _ c=>?_
   refine E0 (T0 (Fp [(1,0)] 2 c fun _ c=>Bd h fun x1 hx1 h=>Eem c (.f 0) hx1 fun _ u1 _ c=>?_))
   obtain ⟨a1,c1,rfl,c⟩:=c.o_Term 1
   refine Eal tZ c fun b3 _ _ c=>?_
   refine Ess 2 (tC x1 a1 c1) c fun _ c=>?_
   refine E0 (S0 (S0 (Ry [(1,0),(5,0),(7,2)] mix c fun _ _ c=>I0 c h (fun h=>?_) fun h=>?_)))
   refine T0 (Fp [(0,2)] 1 c fun _ c=>?_)
   replace c:=c.ng
   refine Ess 1 (tC x1 a1 c1) c fun _ c=>?_
   refine E0 ?_
   obtain rfl:=sj h
   exact wp_ret (tr (Rg c (a1,c1) [] [2] (.cell (α:=Agg 4) kk (.b 1) .nil)))
   refine K0 (S0 (P0 [(1,2)] c fun _ c=>wp_block (P0 [] c fun _ c=>I0 c h (fun h=>?_) fun h=>?_)))
   refine Bd h fun x2 hx2 h=>?_
   obtain ⟨ep1,u2,c⟩:=c.elp (.f 2) hx2
   obtain ⟨a2,c2,rfl,c⟩:=c.o_Term 4
   refine S0 (YU mix (rM 12 [(9,.eq (.pointer (some ep1))),(10,.eq (tV x2 a2 c2)),(11,Pd.nw c.wd 11 (fun i:Oh=>L i.1 [x2] i.2) (fun i=>sl75 (L i.1 [x2] i.2) [(tR x2 a2 c2)]))] [(1,0),(3,0),(5,2),(8,2)] c (fun ow=>⟨ZN ow (Nie c 3),ZN ow (Nle c 3),Nlt c [(tR x2 a2 c2)],tt⟩) fun ow _ _ hE hc cq=>?_))
   obtain ⟨i1,hi1⟩:=hE.nw 11 35
   replace c:=Cx.newt c hc cq [(11,35,_,_)] ⟨hi1,tt⟩
   replace c:=c.csl [(tR x2 a2 c2)] [x2] ⟨(Ava.mk_Term x2 (.f 5)),tt⟩
   replace c:=c.ng
   replace c:=c.fzr 3 6
   refine Bd h fun x3 hx3 h=>Cg c (ih0 hx3) ⟨.f 7,tt⟩ call149 fun i2 _ _ c=>?_
   refine Ess 1 (tC x3 i2.1 i2.2) c fun _ c=>?_
   refine E0 ?_
   obtain rfl:=sj h
   exact wp_ret (br (tr (Rg c (i2.1,i2.2) [] [8] (.cell (α:=Agg 4) kk (.b 1) .nil))))
   refine P0 [] c fun _ c=>I0 c h (fun h=>?_) fun h=>?_
   refine T0 (Fp [(1,2)] 2 c fun _ c=>?_)
   replace c:=c.nf
   refine Bd h fun x4 hx4 h=>Eem c (.f 2) hx4 fun _ u3 _ c=>?_
   obtain ⟨a3,c3,rfl,c⟩:=c.o_Term 3
   refine Eal tZ c fun b4 _ _ c=>?_
   refine Ess 3 (tC x4 a3 c3) c fun _ c=>?_
   refine E0 (S0 (P0 [(1,0),(3,0),(6,3)] c fun _ c=>I0 c h (fun h=>?_) fun h=>?_))
   refine T0 (Fp [(1,0),(3,0),(4,3)] 5 c fun _ c=>Eltr 75 [(tR x4 a3 c3)] [x4] c ⟨(Ava.mk_Term x4 (.f 4)),tt⟩ fun a4 c4 _ _ c=>?_)
   replace c:=c.fzr 4 5
   refine Bd h fun x5 hx5 h=>Cg c (ih0 hx5) ⟨.f 6,tt⟩ call149 fun i3 _ _ c=>?_
   replace c:=c.nf
   refine Ess 1 (tC x5 i3.1 i3.2) c fun _ c=>?_
   refine E0 ?_
   obtain rfl:=sj h
   exact wp_ret (tr (br (tr (Rg c (i3.1,i3.2) [] [7] (.cell (α:=Agg 4) kk (.b 1) .nil)))))
   refine K0 (P0 [(1,0),(3,3)] c fun _ c=>I0 c h (fun h=>?_) fun h=>?_)
   refine Bd h fun x6 hx6 h=>?_
   obtain ⟨ep2,u4,c⟩:=c.elp (.f 2) hx6
   obtain ⟨a5,c5,rfl,c⟩:=c.o_Term 6
   refine S0 (YU mix (rM 12 [(9,.eq (.pointer (some ep2))),(10,.eq (tV x6 a5 c5)),(11,Pd.nw c.wd 11 (fun i:Oh=>L i.1 [x6] i.2) (fun i=>sl75 (L i.1 [x6] i.2) [(tR x6 a5 c5)]))] [(1,0),(3,0),(5,3),(8,2)] c (fun ow=>⟨ZN ow (Nie c 5),ZN ow (Nle c 5),Nlt c [(tR x6 a5 c5)],tt⟩) fun ow _ _ hE hc cq=>?_))
   obtain ⟨i4,hi4⟩:=hE.nw 11 74
   replace c:=Cx.newt c hc cq [(11,74,_,_)] ⟨hi4,tt⟩
   replace c:=c.csl [(tR x6 a5 c5)] [x6] ⟨(Ava.mk_Term x6 (.f 7)),tt⟩
   replace c:=c.fzr 4 8
   refine Bd h fun x7 hx7 h=>Cg c (ih0 hx7) ⟨.f 9,tt⟩ call149 fun i5 _ _ c=>?_
   refine Ess 1 (tC x7 i5.1 i5.2) c fun _ c=>?_
   refine E0 ?_
   obtain rfl:=sj h
   exact wp_ret (br (tr (Rg c (i5.1,i5.2) [] [10] (.cell (α:=Agg 4) kk (.b 1) .nil))))
   refine K1 (bk (tn (T0 (Fp [(0,0)] 1 c fun _ c=>Ess 1 (tC p0 ga0 gc1) c fun _ c=>?_))))
   refine E0 ?_
   obtain rfl:=sj h
   exact wp_ret (Rg c (ga0,gc1) [] [0] (.cell (α:=Agg 4) kk (.b 1) .nil))
   refine S0 (P0 [] c fun _ c=>Mp (x1.Op == 20) [(76,.bool (x1.Op == 20))] [(76,.bool (x1.Op == 21))] [(76,.bool ((x1.Op == 20) || (x1.Op == 21)))] [76,78] c fun _ c=>I0 c h (fun h=>?_) fun h=>?_)
   refine Bd h fun x8 hx8 h=>?_
   obtain ⟨ep3,u5,c⟩:=c.elp (.f 2) hx8
   obtain ⟨a6,c6,rfl,c⟩:=c.o_Term 4
   refine S0 (rZ [(7,.eq (.pointer (some ep3))),(9,.eq (I x8.W))] [(1,0),(3,0),(6,2)] mix c ⟨Nie c 3,Nlc c 3 1,tt⟩ fun _ _ c=>I0 c h (fun h=>?_) fun h=>?_)
   refine Bd h fun x9 hx9 h=>?_
   obtain ⟨ep4,u6,c⟩:=c.elp (.f 2) hx9
   obtain ⟨a7,c7,rfl,c⟩:=c.o_Term 7
   refine S0 (YU mix (rM 9 [(6,.eq (.pointer (some ep4))),(7,.eq (tV x9 a7 c7)),(8,Pd.nw c.wd 8 (fun i:Oh=>L i.1 [x9] i.2) (fun i=>sl75 (L i.1 [x9] i.2) [(tR x9 a7 c7)]))] [(1,0),(3,0),(5,2)] c (fun ow=>⟨ZN ow (Nie c 6),ZN ow (Nle c 6),Nlt c [(tR x9 a7 c7)],tt⟩) fun ow _ _ hE hc cq=>?_))
   obtain ⟨i6,hi6⟩:=hE.nw 8 98
   replace c:=Cx.newt c hc cq [(8,98,_,_)] ⟨hi6,tt⟩
   replace c:=c.csl [(tR x9 a7 c7)] [x9] ⟨(Ava.mk_Term x9 (.f 8)),tt⟩
   replace c:=c.nf
   replace c:=c.fzr 3 9
   refine Bd h fun x10 hx10 h=>Cg c (ih0 hx10) ⟨.f 10,tt⟩ call149 fun i7 _ _ c=>?_
   refine Ess 1 (tC x10 i7.1 i7.2) c fun _ c=>?_
   refine E0 ?_
   obtain rfl:=sj h
   exact wp_ret (br (tr (Rg c (i7.1,i7.2) [] [11] (.cell (α:=Agg 4) kk (.b 1) .nil))))
   refine K1 (bk (tn (T0 (Fp [(0,0)] 1 c fun _ c=>?_))))
   replace c:=c.nf
   refine Ess 1 (tC p0 ga0 gc1) c fun _ c=>?_
   refine E0 ?_
   obtain rfl:=sj h
   exact wp_ret (Rg c (ga0,gc1) [] [0] (.cell (α:=Agg 4) kk (.b 1) .nil))
   refine K1 (bk (tn (T0 (Fp [(0,0)] 1 c fun _ c=>?_))))
   replace c:=c.nf
   refine Ess 1 (tC p0 ga0 gc1) c fun _ c=>?_
   refine E0 ?_
   obtain rfl:=sj h
   exact wp_ret (Rg c (ga0,gc1) [] [0] (.cell (α:=Agg 4) kk (.b 1) .nil))
 · intro p0 ga0 gc1 r h
   rw [Yy] at h
   refine En func130 rfl ntmps130 fun _ fr w c=>?_
   refine T0 (Ebx (tC p0 ga0 gc1) c fun b1 _ _ c=>?_)
   refine Eal tZ c fun b2 _ _ c=>?_
   refine E0 (T0 (Fp [(1,0)] 2 c fun _ c=>Bd h fun x1 hx1 h=>Eem c (.f 0) hx1 fun _ u1 _ c=>?_))
   obtain ⟨a1,c1,rfl,c⟩:=c.o_Term 1
   refine Eal tZ c fun b3 _ _ c=>?_
   refine Ess 2 (tC x1 a1 c1) c fun _ c=>?_
   refine E0 (S0 (P0 [(1,0),(3,2)] c fun _ c=>I0 c h (fun h=>?_) fun h=>?_))
   refine T0 (Fp [(0,2)] 1 c fun _ c=>?_)
   replace c:=c.ng
   refine Ess 1 (tC x1 a1 c1) c fun _ c=>?_
   refine E0 ?_
   obtain rfl:=sj h
   exact wp_ret (tr (Rg c (a1,c1) [] [2] (.cell (α:=Agg 4) kk (.b 1) .nil)))
   refine K0 (S0 (P0 [(1,2),(3,0)] c fun _ c=>I0 c h (fun h=>?_) fun h=>?_))
   refine Bd h fun x2 hx2 h=>?_
   obtain ⟨ep1,u2,c⟩:=c.elp (.f 2) hx2
   obtain ⟨a2,c2,rfl,c⟩:=c.o_Term 4
   refine S0 (YU mix (rM 9 [(6,.eq (.pointer (some ep1))),(7,.eq (tV x2 a2 c2)),(8,Pd.nw c.wd 8 (fun i:Oh=>L i.1 [x2] i.2) (fun i=>sl75 (L i.1 [x2] i.2) [(tR x2 a2 c2)]))] [(1,0),(3,0),(5,2)] c (fun ow=>⟨ZN ow (Nie c 3),ZN ow (Nle c 3),Nlt c [(tR x2 a2 c2)],tt⟩) fun ow _ _ hE hc cq=>?_))
   obtain ⟨i1,hi1⟩:=hE.nw 8 27
   replace c:=Cx.newt c hc cq [(8,27,_,_)] ⟨hi1,tt⟩
   replace c:=c.csl [(tR x2 a2 c2)] [x2] ⟨(Ava.mk_Term x2 (.f 5)),tt⟩
   replace c:=c.ng
   replace c:=c.fzr 3 6
   refine Bd h fun x3 hx3 h=>Cg c (ih0 hx3) ⟨.f 7,tt⟩ call149 fun i2 _ _ c=>?_
   refine Ess 1 (tC x3 i2.1 i2.2) c fun _ c=>?_
   refine E0 ?_
   obtain rfl:=sj h
   exact wp_ret (tr (Rg c (i2.1,i2.2) [] [8] (.cell (α:=Agg 4) kk (.b 1) .nil)))
   refine K0 (T0 (Fp [(0,0)] 1 c fun _ c=>?_))
   replace c:=c.nf
   refine Ess 1 (tC p0 ga0 gc1) c fun _ c=>?_
   refine E0 ?_
   obtain rfl:=sj h
   exact wp_ret (Rg c (ga0,gc1) [] [0] (.cell (α:=Agg 4) kk (.b 1) .nil))
 · intro p0 ga0 gc1 r h
   rw [Yw] at h
   refine En func131 rfl ntmps131 fun _ fr w c=>?_
   refine T0 (Ebx (tC p0 ga0 gc1) c fun b1 _ _ c=>?_)
   refine Eal tZ c fun b2 _ _ c=>?_
   refine E0 (Bd h fun x1 hx1 h=>?_)
   obtain ⟨ep1,u1,c⟩:=c.elp (.f 0) hx1
   obtain ⟨a1,c1,rfl,c⟩:=c.o_Term 2
   refine Bd h fun x2 hx2 h=>?_
   obtain ⟨ep2,u2,c⟩:=c.elp (.f 0) hx2
   obtain ⟨a2,c2,rfl,c⟩:=c.o_Term 5
   refine S0 (Jn (fun i:Nat × Nat=>([(1,B b1 0),(2,B b2 0),(3,B i.1 0),(4,B i.2 0)],fun Γ=>Γ ++ [BX i.1 75 (tC x1 a1 c1),BX i.2 75 (tC x2 a2 c2)],[])) c ?_ fun i4 _ _ c=>?_)
   refine As mix c fun _ c=>?_
   replace c:=Cx.frs [(1,B b1 0),(2,B b2 0)] c
   refine Dq (fun i:Nat × Nat=>([(1,B b1 0),(2,B b2 0),(3,B i.1 0),(4,B i.2 0)],fun Γ=>Γ ++ [BX i.1 75 (tC x1 a1 c1),BX i.2 75 (tC x2 a2 c2)],[])) (bN 12 4095) (fun i=>[]) c (fun i3=>?_) fun hd5=>?_
   obtain ⟨b13,b14⟩:=i3
   refine qnE tt fun _ _ c=>?_
   exact nN (b13,b14) (c.rk (rg 4) (rg 7))
   refine Dq (fun i:Nat × Nat=>([(1,B b1 0),(2,B b2 0),(3,B i.1 0),(4,B i.2 0)],fun Γ=>Γ ++ [BX i.1 75 (tC x1 a1 c1),BX i.2 75 tZ],[])) (bN 12 1807) (fun i=>[(4,9,B b1 4),(5,10,L ga0 p0.Kids gc1),(6,11,.pointer (some ep2)),(7,12,tV x2 a2 c2)]) c (fun i2=>?_) fun hd4=>?_
   obtain ⟨b11,b12⟩:=i2
   refine qn [11] ⟨qP [],qP [(0,0)],qI 4,qL 4,tt⟩ ⟨fun _ _ c=>?_,tt⟩
   refine Zf _ rfl rfl ?_
   refine Ess 3 (tC x2 a2 c2) c fun _ c=>?_
   refine E0 (nQ hd5 (b11,b12) (c.rk (rg 4) (rg 7)))
   refine Dq (fun i:Nat × Nat=>([(1,B b1 0),(2,B b2 0),(3,B i.1 0),(4,B i.2 0)],fun Γ=>Γ ++ [BX i.1 75 tZ,BX i.2 75 tZ],[])) (bN 12 768) (fun i=>[(0,5,B b1 4),(1,6,L ga0 p0.Kids gc1),(2,7,.pointer (some ep1)),(3,8,tV x1 a1 c1),(4,9,B b1 4),(5,10,L ga0 p0.Kids gc1),(6,11,.pointer (some ep2)),(7,12,tV x2 a2 c2)]) c (fun i1=>?_) fun hd3=>?_
   obtain ⟨b8,b9⟩:=i1
   refine qn [10] ⟨qP [],qP [(0,0)],qI 1,qL 1,qP [],qP [(0,0)],qI 4,qL 4,tt⟩ ⟨fun _ _ c=>?_,tt⟩
   refine Zf _ rfl rfl ?_
   refine Ess 2 (tC x1 a1 c1) c fun _ c=>?_
   refine E0 (nQ hd4 (b8,b9) (c.rk (rg 4) (rg 7)))
   refine Dq (fun i:Nat=>([(1,B b1 0),(2,B b2 0),(3,B i 0)],fun Γ=>Γ ++ [BX i 75 tZ],[])) (bN 12 256) (fun i=>[(0,5,B b1 4),(1,6,L ga0 p0.Kids gc1),(2,7,.pointer (some ep1)),(3,8,tV x1 a1 c1),(4,9,B b1 4),(5,10,L ga0 p0.Kids gc1),(6,11,.pointer (some ep2)),(7,12,tV x2 a2 c2)]) c (fun b4=>?_) fun hd1=>?_
   refine qn [9] ⟨qP [],qP [(0,0)],qI 1,qL 1,qP [],qP [(0,0)],qI 4,qL 4,tt⟩ ⟨fun _ _ c=>?_,tt⟩
   refine Zf _ rfl rfl ?_
   refine Eal tZ c fun b7 _ _ c=>?_
   refine E0 (nQ hd3 (b4,b7) (c.rk (rg 4) (rg 7)))
   refine Dq (fun i:Nat=>([(1,B b1 0),(2,B b2 0),(4,B i 0)],fun Γ=>Γ ++ [BX i 75 tZ],[])) (bN 12 512) (fun i=>[(0,5,B b1 4),(1,6,L ga0 p0.Kids gc1),(2,7,.pointer (some ep1)),(3,8,tV x1 a1 c1),(4,9,B b1 4),(5,10,L ga0 p0.Kids gc1),(6,11,.pointer (some ep2)),(7,12,tV x2 a2 c2)]) c (fun b6=>?_) fun hd2=>?_
   refine qn [8] ⟨qP [],qP [(0,0)],qI 1,qL 1,qP [],qP [(0,0)],qI 4,qL 4,tt⟩ ⟨fun _ _ c=>?_,tt⟩
   refine Zf _ rfl rfl ?_
   refine Eal tZ c fun b10 _ _ c=>?_
   refine E0 (nQ hd3 (b10,b6) (c.rk [0,1,3,2] (rg 7)))
   refine q0 (qs:=[(0,5,B b1 4),(1,6,L ga0 p0.Kids gc1),(2,7,.pointer (some ep1)),(3,8,tV x1 a1 c1),(4,9,B b1 4),(5,10,L ga0 p0.Kids gc1),(6,11,.pointer (some ep2)),(7,12,tV x2 a2 c2)]) c (qn [8,9] ⟨qP [],qP [(0,0)],qI 1,qL 1,qP [],qP [(0,0)],qI 4,qL 4,tt⟩ ⟨fun _ _ c=>?_,fun _ _ c=>?_,tt⟩)
   refine Zf _ rfl rfl ?_
   refine Eal tZ c fun b3 _ _ c=>?_
   refine E0 (nQ hd1 (b3) (c.rk [0,1,2] (rg 7)))
   refine Zf _ rfl rfl ?_
   refine Eal tZ c fun b5 _ _ c=>?_
   refine E0 (nQ hd2 (b5) (c.rk [0,1,2] (rg 7)))
   obtain ⟨b15,b16⟩:=i4
   refine S0 (Bd h fun x3 hx3 h=>Bd h fun x4 hx4 h=>Bd h fun x5 hx5 h=>S0 (rZ [(21,Pd.el (x3:D.Term)),(22,Pd.rd (x3:D.Term)),(25,Pd.el (x4:D.Term)),(26,Pd.rd (x4:D.Term)),(27,.eq (.bool x5))] [(1,2),(5,3),(10,2),(12,3),(14,3),(20,2),(24,3)] mix c ⟨Nid c (.f 3) (gT hx3),Nrd c 21 (atN 21),Nid c (.f 6) (gT hx4),Nrd c 25 (atN 25),Ncd (Ψ:=[]) [.r 22 (fun v=>RO v (x3:D.Term)),.r 26 (fun v=>RO v (x4:D.Term))] c ⟨(atN 22),(atN 26),tt⟩ tt (fun hg _ _ ga gp=>by obtain ⟨u1,_,rfl,g1,u2,_,rfl,g2,rfl⟩:=ga; obtain ⟨k1,rfl,f1⟩:=Opn.opn g1; obtain ⟨k2,rfl,f2⟩:=Opn.opn g2; exact ⟨_,(f1.join f2),Zbd (iteT (gcT hg) hx5)⟩) call148,tt⟩ fun _ _ c=>I0 c h (fun h=>?_) fun h=>?_))
   refine Bd h fun x6 hx6 h=>?_
   obtain ⟨ep3,u3,c⟩:=c.elp (.f 6) hx6
   obtain ⟨a3,c3,rfl,c⟩:=c.o_Term 8
   refine S0 (YU mix (rM 9 [(6,.eq (.pointer (some ep3))),(7,.eq (tV x6 a3 c3)),(8,Pd.nw c.wd 8 (fun i:Oh=>L i.1 [x6] i.2) (fun i=>sl75 (L i.1 [x6] i.2) [(tR x6 a3 c3)]))] [(1,0),(3,3),(5,3)] c (fun ow=>⟨ZN ow (Nie c 7),ZN ow (Nle c 7),Nlt c [(tR x6 a3 c3)],tt⟩) fun ow _ _ hE hc cq=>?_))
   obtain ⟨i5,hi5⟩:=hE.nw 8 50
   replace c:=Cx.newt c hc cq [(8,50,_,_)] ⟨hi5,tt⟩
   replace c:=c.csl [(tR x6 a3 c3)] [x6] ⟨(Ava.mk_Term x6 (.f 9)),tt⟩
   replace c:=c.fzr 4 10
   refine Bd h fun x7 hx7 h=>Cg c (ih0 hx7) ⟨.f 11,tt⟩ call149 fun i6 _ _ c=>?_
   refine Ess 1 (tC x7 i6.1 i6.2) c fun _ c=>?_
   refine E0 ?_
   obtain rfl:=sj h
   exact wp_ret (tr (Rg c (i6.1,i6.2) [] [12] (.cell (α:=Agg 4) kk (.b 1) .nil)))
   refine K0 (T0 (Fp [(0,0)] 1 c fun _ c=>Ess 1 (tC p0 ga0 gc1) c fun _ c=>?_))
   refine E0 ?_
   obtain rfl:=sj h
   exact wp_ret (Rg c (ga0,gc1) [] [0] (.cell (α:=Agg 4) kk (.b 1) .nil))
 · intro p0 ga0 gc1 r h
   rw [Za] at h
   refine En func132 rfl ntmps132 fun _ fr w c=>?_
   refine T0 (Ebx (tC p0 ga0 gc1) c fun b1 _ _ c=>?_)
   refine Eal tZ c fun b2 _ _ c=>?_
   refine E0 (Bd h fun x1 hx1 h=>?_)
   obtain ⟨ep1,u1,c⟩:=c.elp (.f 0) hx1
   obtain ⟨a1,c1,rfl,c⟩:=c.o_Term 2
   refine Bd h fun x2 hx2 h=>?_
   obtain ⟨ep2,u2,c⟩:=c.elp (.f 0) hx2
   obtain ⟨a2,c2,rfl,c⟩:=c.o_Term 5
   refine S0 (Jn (fun i:Nat × Nat=>([(1,B b1 0),(2,B b2 0),(3,B i.1 0),(4,B i.2 0)],fun Γ=>Γ ++ [BX i.1 75 (tC x1 a1 c1),BX i.2 75 (tC x2 a2 c2)],[])) c ?_ fun i4 _ _ c=>?_)
   refine As mix c fun _ c=>?_
   replace c:=Cx.frs [(1,B b1 0),(2,B b2 0)] c
   refine Dq (fun i:Nat × Nat=>([(1,B b1 0),(2,B b2 0),(3,B i.1 0),(4,B i.2 0)],fun Γ=>Γ ++ [BX i.1 75 (tC x1 a1 c1),BX i.2 75 (tC x2 a2 c2)],[])) (bN 12 4095) (fun i=>[]) c (fun i3=>?_) fun hd5=>?_
   obtain ⟨b13,b14⟩:=i3
   refine qnE tt fun _ _ c=>?_
   exact nN (b13,b14) (c.rk (rg 4) (rg 7))
   refine Dq (fun i:Nat × Nat=>([(1,B b1 0),(2,B b2 0),(3,B i.1 0),(4,B i.2 0)],fun Γ=>Γ ++ [BX i.1 75 (tC x1 a1 c1),BX i.2 75 tZ],[])) (bN 12 1807) (fun i=>[(4,12,B b1 4),(5,13,L ga0 p0.Kids gc1),(6,14,.pointer (some ep2)),(7,15,tV x2 a2 c2)]) c (fun i2=>?_) fun hd4=>?_
   obtain ⟨b11,b12⟩:=i2
   refine qn [11] ⟨qP [],qP [(0,0)],qI 4,qL 4,tt⟩ ⟨fun _ _ c=>?_,tt⟩
   refine Zf _ rfl rfl ?_
   refine Ess 3 (tC x2 a2 c2) c fun _ c=>?_
   refine E0 (nQ hd5 (b11,b12) (c.rk (rg 4) (rg 7)))
   refine Dq (fun i:Nat × Nat=>([(1,B b1 0),(2,B b2 0),(3,B i.1 0),(4,B i.2 0)],fun Γ=>Γ ++ [BX i.1 75 tZ,BX i.2 75 tZ],[])) (bN 12 768) (fun i=>[(0,8,B b1 4),(1,9,L ga0 p0.Kids gc1),(2,10,.pointer (some ep1)),(3,11,tV x1 a1 c1),(4,12,B b1 4),(5,13,L ga0 p0.Kids gc1),(6,14,.pointer (some ep2)),(7,15,tV x2 a2 c2)]) c (fun i1=>?_) fun hd3=>?_
   obtain ⟨b8,b9⟩:=i1
   refine qn [10] ⟨qP [],qP [(0,0)],qI 1,qL 1,qP [],qP [(0,0)],qI 4,qL 4,tt⟩ ⟨fun _ _ c=>?_,tt⟩
   refine Zf _ rfl rfl ?_
   refine Ess 2 (tC x1 a1 c1) c fun _ c=>?_
   refine E0 (nQ hd4 (b8,b9) (c.rk (rg 4) (rg 7)))
   refine Dq (fun i:Nat=>([(1,B b1 0),(2,B b2 0),(3,B i 0)],fun Γ=>Γ ++ [BX i 75 tZ],[])) (bN 12 256) (fun i=>[(0,8,B b1 4),(1,9,L ga0 p0.Kids gc1),(2,10,.pointer (some ep1)),(3,11,tV x1 a1 c1),(4,12,B b1 4),(5,13,L ga0 p0.Kids gc1),(6,14,.pointer (some ep2)),(7,15,tV x2 a2 c2)]) c (fun b4=>?_) fun hd1=>?_
   refine qn [9] ⟨qP [],qP [(0,0)],qI 1,qL 1,qP [],qP [(0,0)],qI 4,qL 4,tt⟩ ⟨fun _ _ c=>?_,tt⟩
   refine Zf _ rfl rfl ?_
   refine Eal tZ c fun b7 _ _ c=>?_
   refine E0 (nQ hd3 (b4,b7) (c.rk (rg 4) (rg 7)))
   refine Dq (fun i:Nat=>([(1,B b1 0),(2,B b2 0),(4,B i 0)],fun Γ=>Γ ++ [BX i 75 tZ],[])) (bN 12 512) (fun i=>[(0,8,B b1 4),(1,9,L ga0 p0.Kids gc1),(2,10,.pointer (some ep1)),(3,11,tV x1 a1 c1),(4,12,B b1 4),(5,13,L ga0 p0.Kids gc1),(6,14,.pointer (some ep2)),(7,15,tV x2 a2 c2)]) c (fun b6=>?_) fun hd2=>?_
   refine qn [8] ⟨qP [],qP [(0,0)],qI 1,qL 1,qP [],qP [(0,0)],qI 4,qL 4,tt⟩ ⟨fun _ _ c=>?_,tt⟩
   refine Zf _ rfl rfl ?_
   refine Eal tZ c fun b10 _ _ c=>?_
   refine E0 (nQ hd3 (b10,b6) (c.rk [0,1,3,2] (rg 7)))
   refine q0 (qs:=[(0,8,B b1 4),(1,9,L ga0 p0.Kids gc1),(2,10,.pointer (some ep1)),(3,11,tV x1 a1 c1),(4,12,B b1 4),(5,13,L ga0 p0.Kids gc1),(6,14,.pointer (some ep2)),(7,15,tV x2 a2 c2)]) c (qn [8,9] ⟨qP [],qP [(0,0)],qI 1,qL 1,qP [],qP [(0,0)],qI 4,qL 4,tt⟩ ⟨fun _ _ c=>?_,fun _ _ c=>?_,tt⟩)
   refine Zf _ rfl rfl ?_
   refine Eal tZ c fun b3 _ _ c=>?_
   refine E0 (nQ hd1 (b3) (c.rk [0,1,2] (rg 7)))
   refine Zf _ rfl rfl ?_
   refine Eal tZ c fun b5 _ _ c=>?_
   refine E0 (nQ hd2 (b5) (c.rk [0,1,2] (rg 7)))
   obtain ⟨b15,b16⟩:=i4
   refine S0 (Bd h fun x3 hx3 h=>Bd h fun x4 hx4 h=>S0 (rZ [(2,.eq (.bool x3)),(6,.eq (I x4))] [(1,0),(4,2),(5,3)] mix c ⟨Ncl c (kN (ZbT hx3)) tt call150,Ncl c (fun hg=>Zbq (iteT (gcT hg) hx4)) ⟨.f 3,.f 6,tt⟩ call151,tt⟩ fun _ _ c=>I0 c h (fun h=>?_) fun h=>?_))
   refine T0 (Fp [(1,0),(3,0),(4,3),(5,2)] 6 c fun _ c=>Eltr 75 [(tR x2 a2 c2),(tR x1 a1 c1)] [x2,x1] c ⟨(Ava.mk_Term x2 (.f 6)),(Ava.mk_Term x1 (.f 3)),tt⟩ fun a3 c3 _ _ c=>?_)
   replace c:=c.fzr 4 7
   refine Bd h fun x5 hx5 h=>Cg c (ih0 hx5) ⟨.f 8,tt⟩ call149 fun i5 _ _ c=>?_
   refine Ess 1 (tC x5 i5.1 i5.2) c fun _ c=>?_
   refine E0 ?_
   obtain rfl:=sj h
   exact wp_ret (tr (Rg c (i5.1,i5.2) [] [9] (.cell (α:=Agg 4) kk (.b 1) .nil)))
   refine K0 (S0 (T0 (Fp [(0,2)] 1 c fun _ c=>Bd h fun x6 hx6 h=>Cb c (YE hx6) ⟨.f 3,tt⟩ call93 fun _ _ _ c=>?_)))
   refine E0 (Bd h fun rl1 hit1 h=>?_)
   have hk1:=h
   refine Jr (fun s  (_:Unit)=>([(1,B b1 0),(2,B b2 0),(3,B b15 0),(4,B b16 0)],id,[])) hit1 c (fun h=>?_) fun s1r _ _ _ hrl c=>?_
   refine I0 c h (fun h=>?_) fun h=>?_
   refine T0 (Fp [(1,0),(3,0),(4,2),(5,3)] 6 c fun _ c=>Bd h fun x7 hx7 h=>Cg c (ih7 hx7) ⟨.f 3,.f 6,tt⟩ call152 fun i6 _ _ c=>?_)
   refine Fp [] 3 c fun _ c=>Eal tZ c fun b17 _ _ c=>?_
   refine Ess 4 (tC x7.1 i6.1 i6.2) c fun _ c=>?_
   refine Fp [] 1 c fun _ c=>E0 (P0 [] c fun _ c=>I0 c h (fun h=>?_) fun h=>?_)
   refine T0 (Fp [(0,4)] 1 c fun _ c=>Ess 1 (tC x7.1 i6.1 i6.2) c fun _ c=>?_)
   refine E0 ?_
   obtain rfl:=sj h
   obtain rfl:=sj hk1
   exact wp_ret (tr (Rg c (i6.1,i6.2) [] [7] (.cell (α:=Agg 4) kk (.b 1) .nil)))
   refine K0 (⟨_,(),(sk h),c.rk (rg 4) (rg 7)⟩)
   refine K0 (⟨_,(),(sk h),c.rk (rg 4) (rg 7)⟩)
   subst hrl
   refine S0 (T0 (Fp [(0,3)] 1 c fun _ c=>Bd h fun x8 hx8 h=>Cb c (YW hx8) ⟨.f 6,tt⟩ call90 fun _ _ _ c=>?_))
   refine E0 (Bd h fun rl2 hit2 h=>?_)
   have hk2:=h
   refine Jr (fun s  (_:Unit)=>([(1,B b1 0),(2,B b2 0),(3,B b15 0),(4,B b16 0)],id,[])) hit2 c (fun h=>?_) fun s2r _ _ _ hrl c=>?_
   refine I0 c h (fun h=>?_) fun h=>?_
   refine P0 [(1,0)] c fun _ c=>wp_block (S0 (P0 [] c fun _ c=>Bd h fun rl3 hit3 h=>?_))
   have hk3:=h
   refine Jr (fun s  (_:Unit)=>([(1,B b1 0),(2,B b2 0),(3,B b15 0),(4,B b16 0),(50,I p0.Op),(51,.bool s)],id,[])) hit3 c (fun h=>?_) fun s3r _ _ _ hrl c=>?_
   refine I0 c h (fun h=>?_) fun h=>?_
   refine K0 (⟨_,(),(sk h),c.rk (rg 4) (rg 7)⟩)
   refine P0 [] c fun _ c=>I0 c h (fun h=>?_) fun h=>?_
   refine K0 (⟨_,(),(sk h),c.rk (rg 4) (rg 7)⟩)
   refine P0 [] c fun _ c=>Mp (p0.Op == 12) [(51,.bool (p0.Op == 12))] [(51,.bool (p0.Op == 13))] [(51,.bool ((p0.Op == 12) || (p0.Op == 13)))] [51,55] c fun _ c=>⟨_,(),(sk h),c.rk (rg 4) (rg 7)⟩
   subst hrl
   refine I0 c h (fun h=>?_) fun h=>?_
   refine T0 (Fp [(0,2)] 1 c fun _ c=>Ess 1 (tC x1 a1 c1) c fun _ c=>?_)
   refine E0 ?_
   obtain rfl:=sj h
   obtain rfl:=sj hk2
   exact wp_ret (br (tr (Rg c (a1,c1) [] [3] (.cell (α:=Agg 4) kk (.b 1) .nil))))
   refine P0 [] c fun _ c=>I0 c h (fun h=>?_) fun h=>?_
   refine T0 (Bd h fun x9 hx9 h=>Cb c (ZI hx9) tt call85 fun _ _ _ c=>?_)
   refine Ess 1 [I x9.Op,I x9.W,I x9.N,Str.val x9.Name,L0] c fun _ c=>?_
   refine E0 ?_
   obtain rfl:=sj h
   obtain rfl:=sj hk2
   replace c:=c.nilf (α:=D.Term)
   exact wp_ret (br (tr (Rg c (none,0) [] [7] (.cell (α:=Agg 4) kk (.b 1) .nil))))
   refine K1 (bk (tn (⟨_,(),(sk h),c.rk (rg 4) (rg 7)⟩)))
   refine K0 (⟨_,(),(sk h),c.rk (rg 4) (rg 7)⟩)
   subst hrl
   refine S0 (T0 (Fp [(0,2),(1,3)] 2 c fun _ c=>Bd h fun x10 hx10 h=>Cb c (Zbd hx10) ⟨.f 3,.f 6,tt⟩ call148 fun _ _ _ c=>?_))
   refine E0 (Bd h fun rl4 hit4 h=>?_)
   have hk4:=h
   refine Jr (fun s  (_:Unit)=>([(1,B b1 0),(2,B b2 0),(3,B b15 0),(4,B b16 0)],id,[])) hit4 c (fun h=>?_) fun s4r _ _ _ hrl c=>?_
   refine I0 c h (fun h=>?_) fun h=>?_
   refine P0 [(1,0)] c fun _ c=>wp_block (S0 (P0 [] c fun _ c=>Mp (p0.Op == 8) [(65,.bool (p0.Op == 8))] [(65,.bool (p0.Op == 9))] [(65,.bool ((p0.Op == 8) || (p0.Op == 9)))] [65,67] c fun _ c=>I0 c h (fun h=>?_) fun h=>?_))
   refine T0 (Fp [(0,2)] 1 c fun _ c=>Ess 1 (tC x1 a1 c1) c fun _ c=>?_)
   refine E0 ?_
   obtain rfl:=sj h
   obtain rfl:=sj hk4
   exact wp_ret (br (tr (Rg c (a1,c1) [] [3] (.cell (α:=Agg 4) kk (.b 1) .nil))))
   refine S0 (P0 [] c fun _ c=>Bd h fun rl5 hit5 h=>?_)
   have hk5:=h
   refine Jr (fun s  (_:Unit)=>([(1,B b1 0),(2,B b2 0),(3,B b15 0),(4,B b16 0),(64,I p0.Op),(69,.bool s)],id,[])) hit5 c (fun h=>?_) fun s5r _ _ _ hrl c=>?_
   refine I0 c h (fun h=>?_) fun h=>?_
   refine K0 (⟨_,(),(sk h),c.rk (rg 4) (rg 7)⟩)
   refine P0 [] c fun _ c=>I0 c h (fun h=>?_) fun h=>?_
   refine K0 (⟨_,(),(sk h),c.rk (rg 4) (rg 7)⟩)
   refine P0 [] c fun _ c=>Mp (p0.Op == 15) [(69,.bool (p0.Op == 15))] [(69,.bool (p0.Op == 16))] [(69,.bool ((p0.Op == 15) || (p0.Op == 16)))] [69,73] c fun _ c=>⟨_,(),(sk h),c.rk (rg 4) (rg 7)⟩
   subst hrl
   refine I0 c h (fun h=>?_) fun h=>?_
   refine T0 (Fp [(1,0)] 2 c fun _ c=>Bd h fun x11 hx11 h=>Cb c (ZI hx11) tt call85 fun _ _ _ c=>?_)
   refine Ess 1 [I x11.Op,I x11.W,I x11.N,Str.val x11.Name,L0] c fun _ c=>?_
   refine E0 ?_
   obtain rfl:=sj h
   obtain rfl:=sj hk4
   replace c:=c.nilf (α:=D.Term)
   exact wp_ret (br (tr (Rg c (none,0) [] [7] (.cell (α:=Agg 4) kk (.b 1) .nil))))
   refine P0 [] c fun _ c=>I0 c h (fun h=>?_) fun h=>?_
   refine T0 (Bd h fun x12 hx12 h=>Cb c (ZI hx12) tt call85 fun _ _ _ c=>?_)
   refine Ess 1 [I x12.Op,I x12.W,I x12.N,Str.val x12.Name,L0] c fun _ c=>?_
   refine E0 ?_
   obtain rfl:=sj h
   obtain rfl:=sj hk4
   replace c:=c.nilf (α:=D.Term)
   exact wp_ret (br (tr (Rg c (none,0) [] [7] (.cell (α:=Agg 4) kk (.b 1) .nil))))
   refine K1 (bk (tn (⟨_,(),(sk h),c.rk (rg 4) (rg 7)⟩)))
   refine K0 (⟨_,(),(sk h),c.rk (rg 4) (rg 7)⟩)
   subst hrl
   refine S0 (Bd h fun x13 hx13 h=>Bd h fun x14 hx14 h=>Bd h fun x15 hx15 h=>Bd h fun x16 hx16 h=>S0 (rZ [(2,.eq (.bool x13)),(10,.eq (.bool x14)),(22,Pd.el (x15:D.Term)),(23,Pd.rd (x15:D.Term)),(24,.eq (.bool x16))] [(1,0),(5,0),(9,2),(14,3),(16,0),(21,3)] mix c ⟨Ncl c (kN (ZbT hx13)) tt call150,Ncl c (fun hg=>YE (iteT (gcT hg) hx14)) ⟨.f 3,tt⟩ call93,Nid c (.f 6) (gT hx15),Nrd c 22 (atN 22),Ncd (Ψ:=[]) [.r 23 (fun v=>RO v (x15:D.Term))] c ⟨(atN 23),tt⟩ tt (fun hg _ _ ga gp=>by obtain ⟨u1,_,rfl,g1,rfl⟩:=ga; obtain ⟨k1,rfl,f1⟩:=Opn.opn g1; exact ⟨_,f1,YE (iteT (gcT hg) hx16)⟩) call93,tt⟩ fun _ _ c=>I0 c h (fun h=>?_) fun h=>?_))
   refine Bd h fun x17 hx17 h=>?_
   obtain ⟨ep3,u3,c⟩:=c.elp (.f 6) hx17
   obtain ⟨a4,c4,rfl,c⟩:=c.o_Term 8
   refine Bd h fun x18 hx18 h=>S0 (rZ [(8,.eq (.pointer (some ep3))),(10,.eq (I x17.N)),(11,.eq (I x18))] [(1,0),(3,0),(5,2),(7,3)] mix c ⟨Nie c 7,Nlc c 7 2,Ncl c (kN (ZbC hx18)) tt call147,tt⟩ fun _ _ c=>Bd h fun x19 hx19 h=>Bd h fun x20 hx20 h=>?_)
   obtain ⟨ep4,u4,c⟩:=c.elp (.f 6) hx20
   obtain ⟨a5,c5,rfl,c⟩:=c.o_Term 11
   refine S0 (YU mix (rM 13 [(7,.eq (.agg #[I x19.Op,I x19.W,I x19.N,Str.val x19.Name,L0])),(10,.eq (.pointer (some ep4))),(11,.eq (tV x20 a5 c5)),(12,Pd.nw c.wd 12 (fun i:Oh=>L i.1 [(t0 x19),x20] i.2) (fun i=>sl75 (L i.1 [(t0 x19),x20] i.2) [(u0 x19),(tR x20 a5 c5)]))] [(1,0),(3,0),(5,0),(9,3)] c (fun ow=>⟨ZN ow (Ncl c (kN (ZI hx19)) tt call85),ZN ow (Nie c 10),ZN ow (Nle c 10),Nlt c [(u0 x19),(tR x20 a5 c5)],tt⟩) fun ow _ _ hE hc cq=>?_))
   obtain ⟨i7,hi7⟩:=hE.nw 12 130
   replace c:=Cx.newt c hc cq [(12,130,_,_)] ⟨hi7,tt⟩
   replace c:=c.csl [(u0 x19),(tR x20 a5 c5)] [(t0 x19),x20] ⟨(Ava.mk_Term (t0 x19) (.nil)),(Ava.mk_Term x20 (.f 12)),tt⟩
   replace c:=c.fzr 4 13
   refine Bd h fun x21 hx21 h=>Cg c (ih0 hx21) ⟨.f 14,tt⟩ call149 fun i8 _ _ c=>?_
   refine Ess 1 (tC x21 i8.1 i8.2) c fun _ c=>?_
   refine E0 ?_
   obtain rfl:=sj h
   exact wp_ret (tr (Rg c (i8.1,i8.2) [] [15] (.cell (α:=Agg 4) kk (.b 1) .nil)))
   refine K0 (T0 (Fp [(0,0)] 1 c fun _ c=>Ess 1 (tC p0 ga0 gc1) c fun _ c=>?_))
   refine E0 ?_
   obtain rfl:=sj h
   exact wp_ret (Rg c (ga0,gc1) [] [0] (.cell (α:=Agg 4) kk (.b 1) .nil))
 · intro p0 p1 p2 p3 ga0 gc1 ga2 gc3 r h
   rw [Zx] at h
   refine En func152 rfl ntmps152 fun _ fr w c=>?_
   refine T0 (Ebx (tC p2 ga0 gc1) c fun b1 _ _ c=>?_)
   refine Ebx (tC p3 ga2 gc3) c fun b2 _ _ c=>?_
   refine Eal tZ c fun b3 _ _ c=>?_
   refine Fp [] 1 c fun _ c=>E0 (T0 (Fp [(1,0)] 2 c fun _ c=>Bd h fun x1 hx1 h=>Cb c (ZeP hx1) tt call165 fun _ _ _ c=>?_))
   refine Fp [] 1 c fun _ c=>E0 (S0 (wp_block (S0 (S0 (Ry [(4,0)] mix c fun _ _ c=>Bd h fun rl1 hit1 h=>?_)))))
   have hk1:=h
   refine Jr (fun s  (_:Unit)=>([(0,I p0),(1,I p1),(6,B b1 0),(7,B b2 0),(8,B b3 0),(10,I x1),(14,.bool s)],id,[])) hit1 c (fun h=>?_) fun s1r _ _ _ hrl c=>?_
   refine I0 c h (fun h=>?_) fun h=>?_
   refine K0 (⟨_,(),(sk h),c.rk [0,1,2] [0,1]⟩)
   refine S0 (Ry [(4,0)] mix c fun _ _ c=>I0 c h (fun h=>?_) fun h=>?_)
   refine K0 (⟨_,(),(sk h),c.rk [0,1,2] [0,1]⟩)
   refine S0 (Ry [(4,0)] mix c fun _ _ c=>I0 c h (fun h=>?_) fun h=>?_)
   refine K0 (⟨_,(),(sk h),c.rk [0,1,2] [0,1]⟩)
   refine S0 (Ry [(4,0)] mix c fun _ _ c=>I0 c h (fun h=>?_) fun h=>?_)
   refine K0 (⟨_,(),(sk h),c.rk [0,1,2] [0,1]⟩)
   refine S0 (Ry [(4,0)] mix c fun _ _ c=>I0 c h (fun h=>?_) fun h=>?_)
   refine K0 (⟨_,(),(sk h),c.rk [0,1,2] [0,1]⟩)
   refine Ry [(4,0),(9,0)] mix c fun _ _ c=>?_
   exact ⟨_,(),(sk h),c.rk [0,1,2] [0,1]⟩
   subst hrl
   refine I0 c h (fun h=>?_) fun h=>?_
   refine T0 (Fp [(0,1)] 1 c fun _ c=>Ess 2 (tC p3 ga2 gc3) c fun _ c=>?_)
   refine Fp [] 1 c fun _ c=>E0 ?_
   cases h
   exact wp_ret (br (tr (Rg c (ga2,gc3) [] [1] (.cell (α:=Agg 4) kk (.b 2) (.tmp .nil)))))
   refine S0 (S0 (Ry [(4,0)] mix c fun _ _ c=>Bd h fun rl2 hit2 h=>?_))
   have hk2:=h
   refine Jr (fun s  (_:Unit)=>([(0,I p0),(1,I p1),(6,B b1 0),(7,B b2 0),(8,B b3 0),(10,I x1),(64,.bool s)],id,[])) hit2 c (fun h=>?_) fun s2r _ _ _ hrl c=>?_
   refine I0 c h (fun h=>?_) fun h=>?_
   refine K0 (⟨_,(),(sk h),c.rk [0,1,2] [0,1]⟩)
   refine Ry [(4,0)] mix c fun _ _ c=>?_
   exact ⟨_,(),(sk h),c.rk [0,1,2] [0,1]⟩
   subst hrl
   refine I0 c h (fun h=>?_) fun h=>?_
   refine T0 (Fp [] 1 c fun _ c=>Bd h fun x2 hx2 h=>Cb c (ZI hx2) tt call85 fun _ _ _ c=>?_)
   replace c:=c.nf
   refine Ess 2 [I x2.Op,I x2.W,I x2.N,Str.val x2.Name,L0] c fun _ c=>?_
   refine Fp [] 1 c fun _ c=>E0 ?_
   cases h
   replace c:=c.nilf (α:=D.Term)
   exact wp_ret (br (tr (Rg c (none,0) [] [2] (.cell (α:=Agg 4) kk (.b 2) (.tmp .nil)))))
   refine S0 (Ry [(4,0)] mix c fun _ _ c=>I0 c h (fun h=>?_) fun h=>?_)
   refine T0 (Fp [] 2 c fun _ c=>Bd h fun x3 hx3 h=>Cb c (ZI hx3) tt call85 fun _ _ _ c=>?_)
   replace c:=c.nf
   refine Ess 2 [I x3.Op,I x3.W,I x3.N,Str.val x3.Name,L0] c fun _ c=>?_
   refine Fp [] 1 c fun _ c=>E0 ?_
   cases h
   replace c:=c.nilf (α:=D.Term)
   exact wp_ret (br (tr (Rg c (none,0) [] [2] (.cell (α:=Agg 4) kk (.b 2) (.tmp .nil)))))
   refine S0 (S0 (Ry [(4,0)] mix c fun _ _ c=>I0 c h (fun h=>?_) fun h=>?_))
   refine K0 (I0 c h (fun h=>?_) fun h=>?_)
   refine T0 (Fp [(1,1)] 2 c fun _ c=>Eltr 75 [(tR p3 ga2 gc3)] [p3] c ⟨(Ava.mk_Term p3 (.f 1)),tt⟩ fun a1 c1 _ _ c=>?_)
   replace c:=c.nf
   replace c:=c.fzr 3 2
   refine Bd h fun x4 hx4 h=>Cg c (ih0 hx4) ⟨.f 3,tt⟩ call149 fun i1 _ _ c=>?_
   refine Ess 2 (tC x4 i1.1 i1.2) c fun _ c=>?_
   refine Fp [] 1 c fun _ c=>E0 ?_
   cases h
   exact wp_ret (br (tr (Rg c (i1.1,i1.2) [] [4] (.cell (α:=Agg 4) kk (.b 2) (.tmp .nil)))))
   refine K1 (bk (tn (T0 (Fp [] 1 c fun _ c=>Ess 2 tZ c fun _ c=>?_))))
   refine Fp [] 1 c fun _ c=>E0 ?_
   cases h
   replace c:=c.nilf (α:=D.Term)
   exact wp_ret (Rg c (none,0) [] [2] (.cell (α:=Agg 4) kk (.b 2) (.tmp .nil)))
   refine Ry [(4,0),(9,0)] mix c fun _ _ c=>?_
   refine I0 c h (fun h=>?_) fun h=>?_
   refine T0 (Fp [(1,1)] 2 c fun _ c=>Eltr 75 [(tR p3 ga2 gc3)] [p3] c ⟨(Ava.mk_Term p3 (.f 1)),tt⟩ fun a2 c2 _ _ c=>?_)
   replace c:=c.nf
   replace c:=c.fzr 3 2
   refine Bd h fun x5 hx5 h=>Cg c (ih0 hx5) ⟨.f 3,tt⟩ call149 fun i2 _ _ c=>?_
   refine Ess 2 (tC x5 i2.1 i2.2) c fun _ c=>?_
   refine Fp [] 1 c fun _ c=>E0 ?_
   cases h
   exact wp_ret (br (tr (Rg c (i2.1,i2.2) [] [4] (.cell (α:=Agg 4) kk (.b 2) (.tmp .nil)))))
   refine K1 (bk (tn (T0 (Fp [] 1 c fun _ c=>Ess 2 tZ c fun _ c=>?_))))
   refine Fp [] 1 c fun _ c=>E0 ?_
   cases h
   replace c:=c.nilf (α:=D.Term)
   exact wp_ret (Rg c (none,0) [] [2] (.cell (α:=Agg 4) kk (.b 2) (.tmp .nil)))
theorem ZeX {n:Nat}:∀ {p0 ga0 gc1 r} (h:ZA n p0 = some r),Ct 110 [tV p0 ga0 gc1] [lR ga0 p0.Kids gc1] r:=(Z6 n).2.1
theorem ZM {p0 p1 p2 p3 r} (h:ZK n p0 p1 p2 p3 = some r):Con prog 94 [I p0,I p1,I p2,L ga0 p3 gc1] [] [lR ga0 p3 gc1] fun (i:Oh)=>([tV r.1 i.1 i.2,.bool r.2],[],[lR i.1 r.1.Kids i.2]):=by
 unfold ZK at h
 refine En func94 rfl ntmps94 fun _ fr w c=>?_
 refine T0 (Eal tZ c fun b1 _ _ c=>?_)
 refine Fp [] 1 c fun _ c=>E0 (T0 (Fp [] 5 c fun _ c=>Eal tZ c fun b2 _ _ c=>?_))
 refine Ess 1 [I p0,I p1,I p2,Str.val ⟨[]⟩,L ga0 p3 gc1] c fun _ c=>?_
 refine E0 (S0 (T0 (Fp [(0,1)] 1 c fun _ c=>Bd h fun x1 hx1 h=>Cb c (ZcX hx1) ⟨.f 0,tt⟩ call88 fun _ _ _ c=>?_)))
 refine Fp [] 1 c fun _ c=>E0 (I0 c h (fun h=>?_) fun h=>?_)
 refine T0 (Fp [] 1 c fun _ c=>Ess 0 tZ c fun _ c=>?_)
 refine Fp [] 1 c fun _ c=>E0 ?_
 cases h
 replace c:=c.nilf (α:=D.Term)
 exact wp_ret (tr (Rg c (none,0) [] [1] (.cell (α:=Agg 4) kk (.b 0) (.tmp .nil))))
 refine K0 (T0 (Fp [(0,1)] 1 c fun _ c=>Bd h fun x2 hx2 h=>Cg c (ZeX hx2) ⟨.f 0,tt⟩ call110 fun i1 _ _ c=>?_))
 replace c:=c.ng
 refine Ess 0 (tC x2 i1.1 i1.2) c fun _ c=>?_
 refine Fp [] 1 c fun _ c=>E0 ?_
 cases h
 exact wp_ret (Rg c (i1.1,i1.2) [] [1] (.cell (α:=Agg 4) kk (.b 0) (.tmp .nil)))
theorem ZdX {p0 p1 p2 r} (h:Za6 n p0 p1 p2 = some r):Con prog 89 [gV p0 ga0 gc1,pV p1 ga2 gc3 ga4 gc5 ga6 gc7 ga8 gc9 ga10 gc11 ga12 gc13,nV p2] [] [lR ga0 p0.Code gc1,lR ga2 p1.Regs gc3] fun (i:Oh)=>([tV r.1 i.1 i.2,.bool r.2.1,.bool r.2.2],[],[lR i.1 r.1.Kids i.2]):=by
 unfold Za6 at h
 refine En func89 rfl ntmps89 fun _ fr w c=>?_
 refine T0 (Ebx (gC p0 ga0 gc1) c fun b1 _ _ c=>?_)
 refine Ebx (pC p1 ga2 gc3 ga4 gc5 ga6 gc7 ga8 gc9 ga10 gc11 ga12 gc13) c fun b2 _ _ c=>?_
 refine Ebx (nC p2) c fun b3 _ _ c=>?_
 refine Eal tZ c fun b4 _ _ c=>?_
 refine Fp [] 2 c fun _ c=>E0 (T0 (Fp [(1,0)] 2 c fun _ c=>Bd h fun x1 hx1 h=>Cb c (ZI hx1) tt call85 fun _ _ _ c=>?_))
 replace c:=c.ng
 refine Eal tZ c fun b5 _ _ c=>?_
 refine Ess 4 [I x1.Op,I x1.W,I x1.N,Str.val x1.Name,L0] c fun _ c=>?_
 refine E0 (P0 [(1,2)] c fun _ c=>S0 (P0 [(1,2)] c fun _ c=>Bd h fun rl1 hit1 h=>?_))
 have hk1:=h
 refine Jr (fun s  (_:Unit)=>([(3,B b1 0),(4,B b2 0),(6,B b4 0),(10,I s)],id,[])) hit1 c (fun h=>?_) fun s1r _ _ _ hrl c=>?_
 refine wp_block (S0 (P0 [] c fun _ c=>Mp (p2.Op == 10) [(20,.bool (p2.Op == 10))] [(20,.bool (p2.Op == 13))] [(20,.bool ((p2.Op == 10) || (p2.Op == 13)))] [20,22] c fun _ c=>I0 c h (fun h=>?_) fun h=>?_))
 refine Bd h fun x2 hx2 h=>?_
 obtain ⟨ep1,u1,c⟩:=c.elp (.f 1) hx2
 obtain ⟨a1,c1,rfl,c⟩:=c.o_Term 3
 refine Bd h fun x3 hx3 h=>S0 (Jn (fun i:Oh=>([(6,B b4 0),(8,.bool x3.2)],fun Γ=>Γ.set 3 (BX b4 75 (tC x3.1 i.1 i.2)),[lR i.1 x3.1.Kids i.2])) c ?_ fun i5 _ _ c=>?_)
 refine As mix c fun _ c=>?_
 replace c:=Cx.frs [(4,B b2 0),(5,B b3 0),(6,B b4 0),(9,B b5 0)] c
 refine Dq (fun i:Oh=>([(6,B b4 0),(23,.tuple #[tV x3.1 i.1 i.2,.bool x3.2])],fun Γ=>Γ.set 3 (BX b4 75 (tC x3.1 i.1 i.2)),[lR i.1 x3.1.Kids i.2])) (bN 14 6143) (fun i=>[(11,34,.bool x3.2),(13,8,.bool x3.2)]) c (fun i4=>?_) fun hd3=>?_
 obtain ⟨a5,c5⟩:=i4
 refine qnE ⟨qP [],qP [],tt⟩ fun _ _ c=>?_
 exact nN (a5,c5) (c.rk (rg 5) (rg 6))
 refine Dq (fun i:Oh=>([(6,B b4 0),(32,.tuple #[tV x3.1 i.1 i.2,.bool x3.2])],id,[lR i.1 x3.1.Kids i.2])) (bN 14 511) (fun i=>[(9,23,.tuple #[tV x3.1 i.1 i.2,.bool x3.2]),(10,33,tV x3.1 i.1 i.2),(11,34,.bool x3.2)]) c (fun i3=>?_) fun hd2=>?_
 obtain ⟨a4,c4⟩:=i3
 refine qn [12] ⟨qP [],qP [],qP [],tt⟩ ⟨fun _ _ c=>?_,tt⟩
 refine Zf _ rfl rfl ?_
 refine Ess 3 (tC x3.1 a4 c4) c fun _ c=>?_
 refine E0 (nQ hd3 (a4,c4) (c.rk (rg 5) (rg 6)))
 refine Dq (fun i:Oh=>([(6,B b4 0),(31,L i.1 [(t0 x1),x2] i.2)],fun Γ=>Γ ++ [sl75 (L i.1 [(t0 x1),x2] i.2) [(u0 x1),(tR x2 a1 c1)]],[CS [(u0 x1),(tR x2 a1 c1)] [(t0 x1),x2]])) (bN 14 255) (fun i=>[]) c (fun i1=>?_) fun hd1=>?_
 obtain ⟨a3,c3⟩:=i1
 refine qn [8] tt ⟨fun _ _ c=>?_,tt⟩
 refine Zf _ rfl rfl ?_
 replace c:=c.fzr 5 5
 refine Cg c (ZM hx3) ⟨.f 6,tt⟩ call94 fun i2 _ _ c=>?_
 refine E0 (nQ hd2 (i2.1,i2.2) (c.rk (rg 5) [0,1,2,3,4,7]))
 refine q0 (qs:=[(0,24,.agg #[I x1.Op,I x1.W,I x1.N,Str.val x1.Name,L0]),(1,25,B b2 1),(2,26,L ga2 p1.Regs gc3),(3,27,B b3 1),(4,28,I p2.A),(5,29,.pointer (some ep1)),(6,30,tV x2 a1 c1)]) c (qn [7] ⟨qP [(0,4)],qP [],qP [(0,1)],qP [],qP [(0,2)],qI 2,qL 2,tt⟩ ⟨fun _ _ c=>?_,tt⟩)
 refine Zf _ rfl rfl ?_
 refine Eltr 75 [(u0 x1),(tR x2 a1 c1)] [(t0 x1),x2] c ⟨(Ava.mk_Term (t0 x1) (.nil)),(Ava.mk_Term x2 (.f 4)),tt⟩ fun a2 c2 _ _ c=>?_
 refine E0 (nQ hd1 (a2,c2) (c.rk (rg 6) (rg 6)))
 obtain ⟨a6,c6⟩:=i5
 refine T0 (Fp [(0,3)] 2 c fun _ c=>Ess 3 (tC x3.1 a6 c6) c fun _ c=>?_)
 refine Fp [] 2 c fun _ c=>E0 ?_
 obtain rfl:=sj h
 obtain rfl:=sj hk1
 exact wp_ret (br (tr (Rg c (a6,c6) [] [5] (.cell (α:=Agg 4) kk (.b 3) (.tmp (.tmp .nil))))))
 refine P0 [] c fun _ c=>I0 c h (fun h=>?_) fun h=>?_
 refine S0 (S0 (Ry [(1,2),(5,2)] mix c fun _ _ c=>I0 c h (fun h=>?_) fun h=>?_))
 refine T0 (Fp [] 1 c fun _ c=>Ess 3 tZ c fun _ c=>?_)
 refine Fp [] 2 c fun _ c=>E0 ?_
 obtain rfl:=sj h
 obtain rfl:=sj hk1
 replace c:=c.nilf (α:=D.Term)
 exact wp_ret (tr (br (tr (Rg c (none,0) [] [2] (.cell (α:=Agg 4) kk (.b 3) (.tmp (.tmp .nil)))))))
 refine K0 (Bd h fun x4 hx4 h=>?_)
 obtain ⟨ep2,u2,c⟩:=c.elp (.f 1) hx4
 obtain ⟨a7,c7,rfl,c⟩:=c.o_Term 3
 refine Bd h fun x5 hx5 h=>S0 (Jn (fun i:Oh=>([(6,B b4 0),(8,.bool x5.2)],fun Γ=>Γ.set 3 (BX b4 75 (tC x5.1 i.1 i.2)),[lR i.1 x5.1.Kids i.2])) c ?_ fun i10 _ _ c=>?_)
 refine As mix c fun _ c=>?_
 replace c:=Cx.frs [(4,B b2 0),(5,B b3 0),(6,B b4 0),(9,B b5 0)] c
 refine Dq (fun i:Oh=>([(6,B b4 0),(48,.tuple #[tV x5.1 i.1 i.2,.bool x5.2])],fun Γ=>Γ.set 3 (BX b4 75 (tC x5.1 i.1 i.2)),[lR i.1 x5.1.Kids i.2])) (bN 14 6143) (fun i=>[(11,59,.bool x5.2),(13,8,.bool x5.2)]) c (fun i9=>?_) fun hd6=>?_
 obtain ⟨a11,c11⟩:=i9
 refine qnE ⟨qP [],qP [],tt⟩ fun _ _ c=>?_
 exact nN (a11,c11) (c.rk (rg 5) (rg 6))
 refine Dq (fun i:Oh=>([(6,B b4 0),(57,.tuple #[tV x5.1 i.1 i.2,.bool x5.2])],id,[lR i.1 x5.1.Kids i.2])) (bN 14 511) (fun i=>[(9,48,.tuple #[tV x5.1 i.1 i.2,.bool x5.2]),(10,58,tV x5.1 i.1 i.2),(11,59,.bool x5.2)]) c (fun i8=>?_) fun hd5=>?_
 obtain ⟨a10,c10⟩:=i8
 refine qn [12] ⟨qP [],qP [],qP [],tt⟩ ⟨fun _ _ c=>?_,tt⟩
 refine Zf _ rfl rfl ?_
 refine Ess 3 (tC x5.1 a10 c10) c fun _ c=>?_
 refine E0 (nQ hd6 (a10,c10) (c.rk (rg 5) (rg 6)))
 refine Dq (fun i:Oh=>([(6,B b4 0),(56,L i.1 [(t0 x1),x4] i.2)],fun Γ=>Γ ++ [sl75 (L i.1 [(t0 x1),x4] i.2) [(u0 x1),(tR x4 a7 c7)]],[CS [(u0 x1),(tR x4 a7 c7)] [(t0 x1),x4]])) (bN 14 255) (fun i=>[]) c (fun i6=>?_) fun hd4=>?_
 obtain ⟨a9,c9⟩:=i6
 refine qn [8] tt ⟨fun _ _ c=>?_,tt⟩
 refine Zf _ rfl rfl ?_
 replace c:=c.fzr 5 5
 refine Cg c (ZM hx5) ⟨.f 6,tt⟩ call94 fun i7 _ _ c=>?_
 refine E0 (nQ hd5 (i7.1,i7.2) (c.rk (rg 5) [0,1,2,3,4,7]))
 refine q0 (qs:=[(0,49,.agg #[I x1.Op,I x1.W,I x1.N,Str.val x1.Name,L0]),(1,50,B b2 1),(2,51,L ga2 p1.Regs gc3),(3,52,B b3 2),(4,53,I p2.B),(5,54,.pointer (some ep2)),(6,55,tV x4 a7 c7)]) c (qn [7] ⟨qP [(0,4)],qP [],qP [(0,1)],qP [],qP [(0,2)],qI 2,qL 2,tt⟩ ⟨fun _ _ c=>?_,tt⟩)
 refine Zf _ rfl rfl ?_
 refine Eltr 75 [(u0 x1),(tR x4 a7 c7)] [(t0 x1),x4] c ⟨(Ava.mk_Term (t0 x1) (.nil)),(Ava.mk_Term x4 (.f 4)),tt⟩ fun a8 c8 _ _ c=>?_
 refine E0 (nQ hd4 (a8,c8) (c.rk (rg 6) (rg 6)))
 obtain ⟨a12,c12⟩:=i10
 refine T0 (Fp [(0,3)] 2 c fun _ c=>Ess 3 (tC x5.1 a12 c12) c fun _ c=>?_)
 refine Fp [] 2 c fun _ c=>E0 ?_
 obtain rfl:=sj h
 obtain rfl:=sj hk1
 exact wp_ret (br (tr (Rg c (a12,c12) [] [5] (.cell (α:=Agg 4) kk (.b 3) (.tmp (.tmp .nil))))))
 refine P0 [] c fun _ c=>I0 c h (fun h=>?_) fun h=>?_
 refine Tq (P1 [(1,2)] c fun _ c=>bk (tn (⟨_,(),(sk h),c.rk (rg 5) [0,1]⟩)))
 refine P0 [] c fun _ c=>I0 c h (fun h=>?_) fun h=>?_
 refine K1 (bk (tn (⟨_,(),(sk h),c.rk (rg 5) [0,1]⟩)))
 refine T0 (Fp [] 1 c fun _ c=>Ess 3 tZ c fun _ c=>?_)
 refine Fp [] 2 c fun _ c=>E0 ?_
 obtain rfl:=sj h
 obtain rfl:=sj hk1
 replace c:=c.nilf (α:=D.Term)
 exact wp_ret (br (tr (Rg c (none,0) [] [2] (.cell (α:=Agg 4) kk (.b 3) (.tmp (.tmp .nil))))))
 subst hrl
 refine Bd h fun x6 hx6 h=>?_
 obtain ⟨ep3,u3,c⟩:=c.elp (.f 1) hx6
 obtain ⟨a13,c13,rfl,c⟩:=c.o_Term 3
 refine Bd h fun x7 hx7 h=>Bd h fun x8 hx8 h=>S0 (Jn (fun i:Nat × Oh=>([(6,B b4 0),(8,.bool x8.2),(11,B i.1 0)],fun Γ=>Γ ++ [BX i.1 75 (tC x8.1 i.2.1 i.q2)],[lR i.2.1 x8.1.Kids i.q2])) c ?_ fun i18 _ _ c=>?_)
 refine As mix c fun _ c=>?_
 replace c:=Cx.frs [(3,B b1 0),(4,B b2 0),(6,B b4 0),(10,I s1r)] c
 refine Dq (fun i:Nat × Oh=>([(6,B b4 0),(11,B i.1 0),(68,.tuple #[tV x8.1 i.2.1 i.q2,.bool x8.2])],fun Γ=>Γ ++ [BX i.1 75 (tC x8.1 i.2.1 i.q2)],[lR i.2.1 x8.1.Kids i.q2])) (bN 18 114687) (fun i=>[(14,82,.bool x8.2),(17,8,.bool x8.2)]) c (fun i17=>?_) fun hd14=>?_
 obtain ⟨b14,a20,c20⟩:=i17
 refine qnE ⟨qP [],qP [],tt⟩ fun _ _ c=>?_
 exact nN (b14,a20,c20) (c.rk (rg 6) (rg 6))
 refine Dq (fun i:Nat × Oh=>([(6,B b4 0),(11,B i.1 0),(80,.tuple #[tV x8.1 i.2.1 i.q2,.bool x8.2])],fun Γ=>Γ ++ [BX i.1 75 tZ],[lR i.2.1 x8.1.Kids i.q2])) (bN 18 36863) (fun i=>[(12,68,.tuple #[tV x8.1 i.2.1 i.q2,.bool x8.2]),(13,81,tV x8.1 i.2.1 i.q2),(14,82,.bool x8.2)]) c (fun i15=>?_) fun hd13=>?_
 obtain ⟨b13,a19,c19⟩:=i15
 refine qn [16] ⟨qP [],qP [],qP [],tt⟩ ⟨fun _ _ c=>?_,tt⟩
 refine Zf _ rfl rfl ?_
 refine Ess 5 (tC x8.1 a19 c19) c fun _ c=>?_
 refine E0 (nQ hd14 (b13,a19,c19) (c.rk (rg 6) (rg 6)))
 refine Dq (fun i:Oh=>([(6,B b4 0),(80,.tuple #[tV x8.1 i.1 i.2,.bool x8.2])],id,[lR i.1 x8.1.Kids i.2])) (bN 18 4095) (fun i=>[(12,68,.tuple #[tV x8.1 i.1 i.2,.bool x8.2]),(13,81,tV x8.1 i.1 i.2),(14,82,.bool x8.2)]) c (fun i13=>?_) fun hd11=>?_
 obtain ⟨a16,c16⟩:=i13
 refine qn [15] ⟨qP [],qP [],qP [],tt⟩ ⟨fun _ _ c=>?_,tt⟩
 refine Zf _ rfl rfl ?_
 refine Eal tZ c fun b12 _ _ c=>?_
 refine E0 (nQ hd13 (b12,a16,c16) (c.rk (rg 6) (rg 6)))
 refine Dq (fun i:Nat × Oh=>([(6,B b4 0),(11,B i.1 0),(79,L i.2.1 [x6,(t0 x7)] i.q2)],fun Γ=>Γ ++ [BX i.1 75 tZ,sl75 (L i.2.1 [x6,(t0 x7)] i.q2) [(tR x6 a13 c13),(u0 x7)]],[CS [(tR x6 a13 c13),(u0 x7)] [x6,(t0 x7)]])) (bN 18 34815) (fun i=>[]) c (fun i14=>?_) fun hd12=>?_
 obtain ⟨b11,a17,c17⟩:=i14
 refine qn [11] tt ⟨fun _ _ c=>?_,tt⟩
 refine Zf _ rfl rfl ?_
 replace c:=c.fzr 6 5
 refine Cg c (ZM hx8) ⟨.f 6,tt⟩ call94 fun i16 _ _ c=>?_
 refine E0 (nQ hd13 (b11,i16.1,i16.2) (c.rk (rg 6) [0,1,2,3,4,7]))
 refine Dq (fun i:Oh=>([(6,B b4 0),(79,L i.1 [x6,(t0 x7)] i.2)],fun Γ=>Γ ++ [sl75 (L i.1 [x6,(t0 x7)] i.2) [(tR x6 a13 c13),(u0 x7)]],[CS [(tR x6 a13 c13),(u0 x7)] [x6,(t0 x7)]])) (bN 18 2047) (fun i=>[]) c (fun i11=>?_) fun hd9=>?_
 obtain ⟨a15,c15⟩:=i11
 refine qn [11,15] tt ⟨fun _ _ c=>?_,fun _ _ c=>?_,tt⟩
 refine Zf _ rfl rfl ?_
 replace c:=c.fzr 5 5
 refine Cg c (ZM hx8) ⟨.f 6,tt⟩ call94 fun i12 _ _ c=>?_
 refine E0 (nQ hd11 (i12.1,i12.2) (c.rk (rg 5) [0,1,2,3,4,7]))
 refine Zf _ rfl rfl ?_
 refine Eal tZ c fun b10 _ _ c=>?_
 refine E0 (nQ hd12 (b10,a15,c15) (c.rk [0,1,2,3,4,6,5] (rg 6)))
 refine Dq (fun i:Nat=>([(4,B b2 0),(6,B b4 0),(10,I s1r),(11,B i 0),(78,.agg #[I x7.Op,I x7.W,I x7.N,Str.val x7.Name,L0])],fun Γ=>Γ ++ [BX i 75 tZ],[])) (bN 18 33760) (fun i=>[(0,69,B b2 1),(1,70,L ga2 p1.Regs gc3),(2,71,I s1r),(3,72,.pointer (some ep3)),(4,73,tV x6 a13 c13)]) c (fun b9=>?_) fun hd10=>?_
 refine qn [10] ⟨qP [],qP [(0,1)],qP [],qI 2,qL 2,tt⟩ ⟨fun _ _ c=>?_,tt⟩
 refine Zf _ rfl rfl ?_
 refine Eltr 75 [(tR x6 a13 c13),(u0 x7)] [x6,(t0 x7)] c ⟨(Ava.mk_Term x6 (.f 4)),(Ava.mk_Term (t0 x7) (.nil)),tt⟩ fun a18 c18 _ _ c=>?_
 refine E0 (nQ hd12 (b9,a18,c18) (c.rk (rg 7) (rg 6)))
 refine Dq (fun _:Unit=>([(4,B b2 0),(6,B b4 0),(10,I s1r),(78,.agg #[I x7.Op,I x7.W,I x7.N,Str.val x7.Name,L0])],id,[])) (bN 18 992) (fun _=>[(0,69,B b2 1),(1,70,L ga2 p1.Regs gc3),(2,71,I s1r),(3,72,.pointer (some ep3)),(4,73,tV x6 a13 c13)]) c (fun _=>?_) fun hd7=>?_
 refine qn [10,15] ⟨qP [],qP [(0,1)],qP [],qI 2,qL 2,tt⟩ ⟨fun _ _ c=>?_,fun _ _ c=>?_,tt⟩
 refine Zf _ rfl rfl ?_
 refine Eltr 75 [(tR x6 a13 c13),(u0 x7)] [x6,(t0 x7)] c ⟨(Ava.mk_Term x6 (.f 4)),(Ava.mk_Term (t0 x7) (.nil)),tt⟩ fun a14 c14 _ _ c=>?_
 refine E0 (nQ hd9 (a14,c14) (c.rk (rg 6) (rg 6)))
 refine Zf _ rfl rfl ?_
 refine Eal tZ c fun b8 _ _ c=>?_
 refine E0 (nQ hd10 (b8) (c.rk (rg 6) (rg 5)))
 refine Dq (fun i:Nat=>([(3,B b1 0),(4,B b2 0),(6,B b4 0),(10,I s1r),(11,B i 0)],fun Γ=>Γ ++ [BX i 75 tZ],[])) (bN 18 32768) (fun i=>[(0,69,B b2 1),(1,70,L ga2 p1.Regs gc3),(2,71,I s1r),(3,72,.pointer (some ep3)),(4,73,tV x6 a13 c13),(5,74,B b1 0),(6,75,I p0.W),(7,76,B b1 1),(8,77,I p0.Mem)]) c (fun b7=>?_) fun hd8=>?_
 refine qn [9] ⟨qP [],qP [(0,1)],qP [],qI 2,qL 2,qP [],qP [(0,0)],qP [],qP [(0,0)],tt⟩ ⟨fun _ _ c=>?_,tt⟩
 refine Zf _ rfl rfl ?_
 refine Cb c (ZI hx7) tt call85 fun _ _ _ c=>?_
 refine E0 (nQ hd10 (b7) (c.rk (rg 6) (rg 5)))
 refine q0 (qs:=[(0,69,B b2 1),(1,70,L ga2 p1.Regs gc3),(2,71,I s1r),(3,72,.pointer (some ep3)),(4,73,tV x6 a13 c13),(5,74,B b1 0),(6,75,I p0.W),(7,76,B b1 1),(8,77,I p0.Mem)]) c (qn [9,15] ⟨qP [],qP [(0,1)],qP [],qI 2,qL 2,qP [],qP [(0,0)],qP [],qP [(0,0)],tt⟩ ⟨fun _ _ c=>?_,fun _ _ c=>?_,tt⟩)
 refine Zf _ rfl rfl ?_
 refine Cb c (ZI hx7) tt call85 fun _ _ _ c=>?_
 refine E0 (nQ hd7 () (c.rk (rg 5) (rg 5)))
 refine Zf _ rfl rfl ?_
 refine Eal tZ c fun b6 _ _ c=>?_
 refine E0 (nQ hd8 (b6) (c.rk (rg 6) (rg 5)))
 obtain ⟨b15,a21,c21⟩:=i18
 refine S0 (P0 [] c fun _ c=>I0 c h (fun h=>?_) fun h=>?_)
 refine T0 (Fp [] 1 c fun _ c=>Ess 3 tZ c fun _ c=>?_)
 refine Fp [] 2 c fun _ c=>E0 ?_
 cases h
 replace c:=c.nilf (α:=D.Term)
 exact wp_ret (tr (Rg c (none,0) [] [6] (.cell (α:=Agg 4) kk (.b 3) (.tmp (.tmp .nil)))))
 refine K0 (T0 (Fp [(0,5)] 1 c fun _ c=>Eltr 75 [(tR x8.1 a21 c21)] [x8.1] c ⟨(Ava.mk_Term x8.1 (.f 5)),tt⟩ fun a22 c22 _ _ c=>?_))
 replace c:=c.fzr 6 6
 refine Bd h fun x9 hx9 h=>Cg c (ZM hx9) ⟨.f 7,tt⟩ call94 fun i19 _ _ c=>?_
 refine Fp [] 3 c fun _ c=>Ess 3 (tC x9.1 i19.1 i19.2) c fun _ c=>?_
 refine Fp [] 1 c fun _ c=>E0 (T0 (Fp [(0,3)] 2 c fun _ c=>?_))
 replace c:=c.nf
 refine Ess 3 (tC x9.1 i19.1 i19.2) c fun _ c=>?_
 refine Fp [] 2 c fun _ c=>E0 ?_
 cases h
 exact wp_ret (Rg c (i19.1,i19.2) [] [8] (.cell (α:=Agg 4) kk (.b 3) (.tmp (.tmp .nil))))
theorem Zdn {p0 p1 r} (h:Zbh p0 p1 = some r):Con prog 91 [pV p0 ga0 gc1 ga2 gc3 ga4 gc5 ga6 gc7 ga8 gc9 ga10 gc11,nV p1] [] [lR ga0 p0.Regs gc1,lR ga2 p0.Mem gc3,lR ga4 p0.Stack gc5,lR ga6 p0.Out gc7,lR ga8 p0.Cond gc9,lR ga10 p0.Turns gc11] fun (i:Hp)=>([pJ r i],[],(pF r i)):=by
 unfold Zbh at h
 refine En func91 rfl ntmps91 fun _ fr w c=>?_
 refine T0 (Ebx (pC p0 ga0 gc1 ga2 gc3 ga4 gc5 ga6 gc7 ga8 gc9 ga10 gc11) c fun b1 _ _ c=>?_)
 refine Ebx (nC p1) c fun b2 _ _ c=>?_
 refine Eal pZ c fun b3 _ _ c=>?_
 refine E0 (S0 (P0 [(1,1)] c fun _ c=>wp_block (P0 [] c fun _ c=>I0 c h (fun h=>?_) fun h=>?_)))
 refine T1 (Fp [(1,1)] 3 c fun _ c=>Esb 0 0 (I p1.B) c fun _ c=>?_)
 refine E1 (bk (tn (T0 (Fp [(0,0)] 1 c fun _ c=>Ess 2 [I p1.B,L ga0 p0.Regs gc1,L ga2 p0.Mem gc3,L ga4 p0.Stack gc5,I p0.In,L ga6 p0.Out gc7,I p0.Code,I p0.Steps,L ga8 p0.Cond gc9,L ga10 p0.Turns gc11] c fun _ c=>?_))))
 refine E0 ?_
 cases h
 exact wp_ret (Rg c (ga0,gc1,ga2,gc3,ga4,gc5,ga6,gc7,ga8,gc9,ga10,gc11) [] (rg 6) (.cell (α:=Agg 9) kk (.b 2) .nil))
 refine P0 [] c fun _ c=>I0 c h (fun h=>?_) fun h=>?_
 refine T1 (Fp [] 1 c fun _ c=>Esb 0 6 (I 8) c fun _ c=>?_)
 refine E1 (bk (tn (T0 (Fp [(0,0)] 1 c fun _ c=>Ess 2 [I p0.Pc,L ga0 p0.Regs gc1,L ga2 p0.Mem gc3,L ga4 p0.Stack gc5,I p0.In,L ga6 p0.Out gc7,I 8,I p0.Steps,L ga8 p0.Cond gc9,L ga10 p0.Turns gc11] c fun _ c=>?_))))
 refine E0 ?_
 cases h
 exact wp_ret (Rg c (ga0,gc1,ga2,gc3,ga4,gc5,ga6,gc7,ga8,gc9,ga10,gc11) [] (rg 6) (.cell (α:=Agg 9) kk (.b 2) .nil))
 refine P0 [] c fun _ c=>I0 c h (fun h=>?_) fun h=>?_
 refine T1 (Fp [] 1 c fun _ c=>Esb 0 6 (I 6) c fun _ c=>?_)
 refine E1 (bk (tn (T0 (Fp [(0,0)] 1 c fun _ c=>Ess 2 [I p0.Pc,L ga0 p0.Regs gc1,L ga2 p0.Mem gc3,L ga4 p0.Stack gc5,I p0.In,L ga6 p0.Out gc7,I 6,I p0.Steps,L ga8 p0.Cond gc9,L ga10 p0.Turns gc11] c fun _ c=>?_))))
 refine E0 ?_
 cases h
 exact wp_ret (Rg c (ga0,gc1,ga2,gc3,ga4,gc5,ga6,gc7,ga8,gc9,ga10,gc11) [] (rg 6) (.cell (α:=Agg 9) kk (.b 2) .nil))
 refine T1 (Fp [] 1 c fun _ c=>Esb 0 6 (I 5) c fun _ c=>?_)
 refine E1 (bk (tn (T0 (Fp [(0,0)] 1 c fun _ c=>Ess 2 [I p0.Pc,L ga0 p0.Regs gc1,L ga2 p0.Mem gc3,L ga4 p0.Stack gc5,I p0.In,L ga6 p0.Out gc7,I 5,I p0.Steps,L ga8 p0.Cond gc9,L ga10 p0.Turns gc11] c fun _ c=>?_))))
 refine E0 ?_
 cases h
 exact wp_ret (Rg c (ga0,gc1,ga2,gc3,ga4,gc5,ga6,gc7,ga8,gc9,ga10,gc11) [] (rg 6) (.cell (α:=Agg 9) kk (.b 2) .nil))
theorem Yk {p0 r} (h:Z8 p0 = some r):Con prog 112 [L ga0 p0 gc1] [] [lR ga0 p0 gc1] fun (i:Ob (List Rw.Term))=>([L i.1 r i.2.1],[sl75 (L i.1 r i.2.1) (i.q2)],[CS i.q2 r]):=by
 unfold Z8 at h
 refine En func112 rfl ntmps112 fun _ fr w c=>?_
 refine P0 [] c fun _ c=>S0 (T0 (Fp [] 1 c fun _ c=>Ebin (vx:=L ga0 p0 gc1) (vy:=.slice none 0 0) c (ZfX _ _ _ _ _ _ _ _ _ _) (nil_eq Tryz.underlying27 ga0 _ gc1 _) fun _ c=>?_))
 refine E0 (If c (b:=(Option.isNone ga0)) (fun hb=>?_) fun hb=>?_)
 obtain ⟨_,hn⟩:=c.use (.f 0)
 replace h:=ZiB (Zkd hn (Zni.1 hb)) h
 refine P0 [] c fun _ c=>?_
 replace c:=(c.nil (α:=Rw.Term) 75).csn (ρ:=Rw.Term) (α:=D.Term)
 cases h
 exact wp_ret (tr (Rt c (none,0,([]:List Rw.Term)) [0] [1]))
 refine K0 (T0 (Eltr 75 ([]:List Rw.Term) ([]:List D.Term) c tt fun a1 c1 _ _ c=>?_))
 refine Fp [] 1 c fun _ c=>Bd h fun x1 hx1 h=>Eapr 0 1 c (.f 0) hx1 fun rm1 a2 c2 _ _ c=>?_
 refine Fp [] 1 c fun _ c=>E0 ?_
 obtain rfl:=sj h
 exact wp_ret (Rt c (a2,c2,(([]:List Rw.Term) ++ rm1)) [0] [2])
theorem Zam {p0 p1 p2 r} (h:XQ p0 p1 p2 = some r):Cl 104 [L ga0 p0 gc1,I p1,tV p2 ga2 gc3] [lR ga0 p0 gc1,lR ga2 p2.Kids gc3] r:=by
 unfold XQ at h
 refine En func104 rfl ntmps104 fun _ fr w c=>?_
 refine T0 (Ebx (tC p2 ga2 gc3) c fun b1 _ _ c=>?_)
 refine Fp [] 1 c fun _ c=>E0 (T0 (Fp [] 1 c fun _ c=>Bd h fun x1 hx1 h=>Cg c (Yk hx1) ⟨.f 0,tt⟩ call112 fun i1 _ _ c=>?_))
 refine Fp [] 1 c fun _ c=>E0 (T0 (Fp [(2,0)] 3 c fun _ c=>Bd h fun x2 hx2 h=>Esetr (q:=(tR p2 ga2 gc3)) 1 2 c ((Ava.mk_Term p2 (.f 1))) hx2 fun _ _ _ c=>?_))
 refine E0 (P0 [] c fun _ c=>?_)
 obtain ⟨he1,c⟩:=c.relenr 1 3
 replace c:=c.eqs (v:=L i1.1 x1 i1.2.1) (u:=L i1.1 x2 i1.2.1) 6 (by simp only [L,he1])
 replace c:=c.fzr 1 3
 obtain rfl:=sj h
 exact wp_ret (Rt c (i1.1,i1.2.1) [] [4])
theorem X0 {p0 p1 r} (h:X7 p0 p1 = some r):C0 122 [I p0,I p1] [] (I r):=by
 unfold X7 at h
 refine En func122 rfl ntmps122 fun _ fr w c=>?_
 refine P0 [] c fun _ c=>S0 (Bd h fun x1 hx1 h=>S0 (rZ [(1,.eq (.bool x1))] [] mix c ⟨Ncl c (kN (YY hx1)) tt call82,tt⟩ fun _ _ c=>I0 c h (fun h=>?_) fun h=>?_))
 exact P0 [] c fun _ c=>rE
 exact K0 (S0 (P0 [] c fun _ c=>I0 c h (fun h=>P0 [] c fun _ c=>rE) fun h=>K0 (P0 [] c fun _ c=>rE)))
theorem Zes {p0 p1 p2 p3 r} (h:Za5 n p0 p1 p2 p3 = some r):Con prog 105 [gV p0 ga0 gc1,I p1,tV p2 ga2 gc3,tV p3 ga4 gc5] [] [lR ga0 p0.Code gc1,lR ga2 p2.Kids gc3,lR ga4 p3.Kids gc5] fun (i:Oh)=>([tV r.1 i.1 i.2,.bool r.2],[],[lR i.1 r.1.Kids i.2]):=by
 unfold Za5 at h
 refine En func105 rfl ntmps105 fun _ fr w c=>?_
 refine T0 (Ebx (gC p0 ga0 gc1) c fun b1 _ _ c=>?_)
 refine Ebx (tC p2 ga2 gc3) c fun b2 _ _ c=>?_
 refine Ebx (tC p3 ga4 gc5) c fun b3 _ _ c=>?_
 refine Eal tZ c fun b4 _ _ c=>?_
 refine Fp [] 1 c fun _ c=>E0 (Bd h fun x1 hx1 h=>Bd h fun x2 hx2 h=>S0 (Jn (fun i:Nat × Oh=>([(1,I p1),(4,B b1 0),(8,B b4 0),(10,B i.1 0),(11,.bool x2.2)],fun Γ=>Γ ++ [BX i.1 75 (tC x2.1 i.2.1 i.q2)],[lR i.2.1 x2.1.Kids i.q2])) c ?_ fun i10 _ _ c=>?_))
 refine As mix c fun _ c=>?_
 replace c:=Cx.frs [(1,I p1),(4,B b1 0),(6,B b2 0),(7,B b3 0),(8,B b4 0)] c
 refine Dq (fun i:Nat × Oh=>([(1,I p1),(4,B b1 0),(8,B b4 0),(10,B i.1 0),(12,.tuple #[tV x2.1 i.2.1 i.q2,.bool x2.2])],fun Γ=>Γ ++ [BX i.1 75 (tC x2.1 i.2.1 i.q2)],[lR i.2.1 x2.1.Kids i.q2])) (bN 15 14335) (fun i=>[(11,23,.bool x2.2),(14,11,.bool x2.2)]) c (fun i9=>?_) fun hd10=>?_
 obtain ⟨b15,a11,c11⟩:=i9
 refine qnE ⟨qP [],qP [],tt⟩ fun _ _ c=>?_
 exact nN (b15,a11,c11) (c.rk (rg 5) (rg 4))
 refine Dq (fun i:Nat × Oh=>([(1,I p1),(4,B b1 0),(8,B b4 0),(10,B i.1 0),(21,.tuple #[tV x2.1 i.2.1 i.q2,.bool x2.2])],fun Γ=>Γ ++ [BX i.1 75 tZ],[lR i.2.1 x2.1.Kids i.q2])) (bN 15 4607) (fun i=>[(9,12,.tuple #[tV x2.1 i.2.1 i.q2,.bool x2.2]),(10,22,tV x2.1 i.2.1 i.q2),(11,23,.bool x2.2)]) c (fun i7=>?_) fun hd9=>?_
 obtain ⟨b14,a10,c10⟩:=i7
 refine qn [13] ⟨qP [],qP [],qP [],tt⟩ ⟨fun _ _ c=>?_,tt⟩
 refine Zf _ rfl rfl ?_
 refine Ess 4 (tC x2.1 a10 c10) c fun _ c=>?_
 refine E0 (nQ hd10 (b14,a10,c10) (c.rk (rg 5) (rg 4)))
 refine Dq (fun i:Oh=>([(1,I p1),(4,B b1 0),(8,B b4 0),(21,.tuple #[tV x2.1 i.1 i.2,.bool x2.2])],id,[lR i.1 x2.1.Kids i.2])) (bN 15 511) (fun i=>[(9,12,.tuple #[tV x2.1 i.1 i.2,.bool x2.2]),(10,22,tV x2.1 i.1 i.2),(11,23,.bool x2.2)]) c (fun i5=>?_) fun hd7=>?_
 obtain ⟨a7,c7⟩:=i5
 refine qn [12] ⟨qP [],qP [],qP [],tt⟩ ⟨fun _ _ c=>?_,tt⟩
 refine Zf _ rfl rfl ?_
 refine Eal tZ c fun b13 _ _ c=>?_
 refine E0 (nQ hd9 (b13,a7,c7) (c.rk (rg 5) (rg 4)))
 refine Dq (fun i:Nat × Ob (List Rw.Term)=>([(1,I p1),(4,B b1 0),(8,B b4 0),(10,B i.1 0),(17,I x1),(20,L i.2.1 [p2,p3] i.p2)],fun Γ=>Γ ++ [BX i.1 75 tZ,sl75 (L i.2.1 [p2,p3] i.p2) (i.q3)],[CS (i.q3) [p2,p3]])) (bN 15 4350) (fun i=>[(0,13,I p1)]) c (fun i6=>?_) fun hd8=>?_
 obtain ⟨b12,a8,c8,rs4⟩:=i6
 refine qn [8] ⟨qP [],tt⟩ ⟨fun _ _ c=>?_,tt⟩
 refine Zf _ rfl rfl ?_
 replace c:=c.fzr 5 3
 refine Cg c (ZM hx2) ⟨.f 4,tt⟩ call94 fun i8 _ _ c=>?_
 refine E0 (nQ hd9 (b12,i8.1,i8.2) (c.rk (rg 5) [0,1,2,5]))
 refine Dq (fun i:Ob (List Rw.Term)=>([(1,I p1),(4,B b1 0),(8,B b4 0),(17,I x1),(20,L i.1 [p2,p3] i.2.1)],fun Γ=>Γ ++ [sl75 (L i.1 [p2,p3] i.2.1) (i.q2)],[CS (i.q2) [p2,p3]])) (bN 15 254) (fun i=>[(0,13,I p1)]) c (fun i2=>?_) fun hd4=>?_
 obtain ⟨a4,c4,rs2⟩:=i2
 refine qn [8,12] ⟨qP [],tt⟩ ⟨fun _ _ c=>?_,fun _ _ c=>?_,tt⟩
 refine Zf _ rfl rfl ?_
 replace c:=c.fzr 4 3
 refine Cg c (ZM hx2) ⟨.f 4,tt⟩ call94 fun i4 _ _ c=>?_
 refine E0 (nQ hd7 (i4.1,i4.2) (c.rk (rg 4) [0,1,2,5]))
 refine Zf _ rfl rfl ?_
 refine Eal tZ c fun b11 _ _ c=>?_
 refine E0 (nQ hd8 (b11,a4,c4,rs2) (c.rk [0,1,2,3,5,4] (rg 4)))
 refine Dq (fun i:Nat=>([(1,I p1),(4,B b1 0),(6,B b2 0),(7,B b3 0),(8,B b4 0),(10,B i 0),(17,I x1)],fun Γ=>Γ ++ [BX i 75 tZ],[])) (bN 15 4126) (fun i=>[(0,13,I p1),(5,18,tV p2 ga2 gc3),(6,19,tV p3 ga4 gc5)]) c (fun b8=>?_) fun hd5=>?_
 refine qn [7] ⟨qP [],qP [(0,1)],qP [(0,2)],tt⟩ ⟨fun _ _ c=>?_,tt⟩
 refine Zf _ rfl rfl ?_
 refine Eltr 75 [(tR p2 ga2 gc3),(tR p3 ga4 gc5)] [p2,p3] c ⟨(Ava.mk_Term p2 (.f 1)),(Ava.mk_Term p3 (.f 2)),tt⟩ fun a9 c9 _ _ c=>?_
 refine E0 (nQ hd8 (b8,a9,c9,[(tR p2 ga2 gc3),(tR p3 ga4 gc5)]) (c.rk (rg 6) (rg 4)))
 refine Dq (fun i:Nat × Ob (List Rw.Term)=>([(1,I p1),(4,B b1 0),(8,B b4 0),(10,B i.1 0),(20,L i.2.1 [p2,p3] i.p2)],fun Γ=>Γ ++ [BX i.1 75 tZ,sl75 (L i.2.1 [p2,p3] i.p2) (i.q3)],[CS (i.q3) [p2,p3]])) (bN 15 4320) (fun i=>[(0,13,I p1),(1,14,I p1),(2,15,B b1 0),(3,16,I p0.W)]) c (fun i3=>?_) fun hd6=>?_
 obtain ⟨b10,a5,c5,rs3⟩:=i3
 refine qn [4] ⟨qP [],qP [],qP [],qP [(0,0)],tt⟩ ⟨fun _ _ c=>?_,tt⟩
 refine Zf _ rfl rfl ?_
 refine Cb c (X0 hx1) tt call122 fun _ _ _ c=>?_
 refine E0 (nQ hd8 (b10,a5,c5,rs3) (c.rk (rg 6) (rg 4)))
 refine Dq (fun _:Unit=>([(1,I p1),(4,B b1 0),(6,B b2 0),(7,B b3 0),(8,B b4 0),(17,I x1)],id,[])) (bN 15 30) (fun _=>[(0,13,I p1),(5,18,tV p2 ga2 gc3),(6,19,tV p3 ga4 gc5)]) c (fun _=>?_) fun hd1=>?_
 refine qn [7,12] ⟨qP [],qP [(0,1)],qP [(0,2)],tt⟩ ⟨fun _ _ c=>?_,fun _ _ c=>?_,tt⟩
 refine Zf _ rfl rfl ?_
 refine Eltr 75 [(tR p2 ga2 gc3),(tR p3 ga4 gc5)] [p2,p3] c ⟨(Ava.mk_Term p2 (.f 1)),(Ava.mk_Term p3 (.f 2)),tt⟩ fun a3 c3 _ _ c=>?_
 refine E0 (nQ hd4 (a3,c3,[(tR p2 ga2 gc3),(tR p3 ga4 gc5)]) (c.rk (rg 5) (rg 4)))
 refine Zf _ rfl rfl ?_
 refine Eal tZ c fun b7 _ _ c=>?_
 refine E0 (nQ hd5 (b7) (c.rk (rg 5) [0,1,2]))
 refine Dq (fun i:Ob (List Rw.Term)=>([(1,I p1),(4,B b1 0),(8,B b4 0),(20,L i.1 [p2,p3] i.2.1)],fun Γ=>Γ ++ [sl75 (L i.1 [p2,p3] i.2.1) (i.q2)],[CS (i.q2) [p2,p3]])) (bN 15 224) (fun i=>[(0,13,I p1),(1,14,I p1),(2,15,B b1 0),(3,16,I p0.W)]) c (fun i1=>?_) fun hd2=>?_
 obtain ⟨a2,c2,rs1⟩:=i1
 refine qn [4,12] ⟨qP [],qP [],qP [],qP [(0,0)],tt⟩ ⟨fun _ _ c=>?_,fun _ _ c=>?_,tt⟩
 refine Zf _ rfl rfl ?_
 refine Cb c (X0 hx1) tt call122 fun _ _ _ c=>?_
 refine E0 (nQ hd4 (a2,c2,rs1) (c.rk (rg 5) (rg 4)))
 refine Zf _ rfl rfl ?_
 refine Eal tZ c fun b9 _ _ c=>?_
 refine E0 (nQ hd6 (b9,a2,c2,rs1) (c.rk [0,1,2,3,5,4] (rg 4)))
 refine Dq (fun i:Nat=>([(1,I p1),(4,B b1 0),(6,B b2 0),(7,B b3 0),(8,B b4 0),(10,B i 0)],fun Γ=>Γ ++ [BX i 75 tZ],[])) (bN 15 4096) (fun i=>[(0,13,I p1),(1,14,I p1),(2,15,B b1 0),(3,16,I p0.W),(5,18,tV p2 ga2 gc3),(6,19,tV p3 ga4 gc5)]) c (fun b6=>?_) fun hd3=>?_
 refine qn [4,7] ⟨qP [],qP [],qP [],qP [(0,0)],qP [(0,1)],qP [(0,2)],tt⟩ ⟨fun _ _ c=>?_,fun _ _ c=>?_,tt⟩
 refine Zf _ rfl rfl ?_
 refine Cb c (X0 hx1) tt call122 fun _ _ _ c=>?_
 refine E0 (nQ hd5 (b6) (c.rk (rg 5) [0,1,2]))
 refine Zf _ rfl rfl ?_
 refine Eltr 75 [(tR p2 ga2 gc3),(tR p3 ga4 gc5)] [p2,p3] c ⟨(Ava.mk_Term p2 (.f 1)),(Ava.mk_Term p3 (.f 2)),tt⟩ fun a6 c6 _ _ c=>?_
 refine E0 (nQ hd6 (b6,a6,c6,[(tR p2 ga2 gc3),(tR p3 ga4 gc5)]) (c.rk (rg 6) (rg 4)))
 refine q0 (qs:=[(0,13,I p1),(1,14,I p1),(2,15,B b1 0),(3,16,I p0.W),(5,18,tV p2 ga2 gc3),(6,19,tV p3 ga4 gc5)]) c (qn [4,7,12] ⟨qP [],qP [],qP [],qP [(0,0)],qP [(0,1)],qP [(0,2)],tt⟩ ⟨fun _ _ c=>?_,fun _ _ c=>?_,fun _ _ c=>?_,tt⟩)
 refine Zf _ rfl rfl ?_
 refine Cb c (X0 hx1) tt call122 fun _ _ _ c=>?_
 refine E0 (nQ hd1 () (c.rk (rg 4) [0,1,2]))
 refine Zf _ rfl rfl ?_
 refine Eltr 75 [(tR p2 ga2 gc3),(tR p3 ga4 gc5)] [p2,p3] c ⟨(Ava.mk_Term p2 (.f 1)),(Ava.mk_Term p3 (.f 2)),tt⟩ fun a1 c1 _ _ c=>?_
 refine E0 (nQ hd2 (a1,c1,[(tR p2 ga2 gc3),(tR p3 ga4 gc5)]) (c.rk (rg 5) (rg 4)))
 refine Zf _ rfl rfl ?_
 refine Eal tZ c fun b5 _ _ c=>?_
 refine E0 (nQ hd3 (b5) (c.rk (rg 5) [0,1,2]))
 obtain ⟨b16,a12,c12⟩:=i10
 refine S0 (S0 (Ry [] mix c fun _ _ c=>I0 c h (fun h=>?_) fun h=>?_))
 refine T0 (Fp [(0,4)] 2 c fun _ c=>Ess 3 (tC x2.1 a12 c12) c fun _ c=>?_)
 refine Fp [] 1 c fun _ c=>E0 ?_
 cases h
 exact wp_ret (tr (Rg c (a12,c12) [] [3] (.cell (α:=Agg 4) kk (.b 3) (.tmp .nil))))
 refine K0 (T0 (Fp [(1,0),(2,4)] 3 c fun _ c=>Eltr 75 [(tR x2.1 a12 c12)] [x2.1] c ⟨(Ava.mk_Term x2.1 (.f 3)),tt⟩ fun a13 c13 _ _ c=>?_))
 replace c:=c.fzr 5 4
 refine Bd h fun x3 hx3 h=>Cg c (ZM hx3) ⟨.f 5,tt⟩ call94 fun i11 _ _ c=>?_
 refine Fp [] 2 c fun _ c=>Ess 3 (tC x3.1 i11.1 i11.2) c fun _ c=>?_
 refine Fp [] 1 c fun _ c=>E0 ?_
 cases h
 exact wp_ret (Rg c (i11.1,i11.2) [] [6] (.cell (α:=Agg 4) kk (.b 3) (.tmp .nil)))
theorem ZeA {p0 r} (h:GL.strconv_Itoa p0 = some r):C0 124 [I p0] [TBf prog] (Str.val r):=by
 unfold GL.strconv_Itoa at h
 split at h
 · rename_i hl
   obtain rfl:=sj h
   refine Con.lib fun w F hF=>?_
   have tb:TB prog "internal/strconv.uint64pow10" .u64 Lib.pow10Tab w F:=hF _ (ZmX.2 rfl)
   refine (Tryz.strconv_Itoa p0 hl.1 hl.2 w tb.tab).mono ?_
   rintro e w' ⟨rfl,k,os,rfl⟩
   exact ⟨rfl,ZkI w k os⟩
 · cases h
theorem ZdF {p0 r} (h:YP p0 = some r):C0 107 [I p0] [TBf prog] (Str.val r):=by
 unfold YP at h
 refine En func107 rfl ntmps107 fun _ fr w c=>?_
 refine P0 [] c fun _ c=>T0 (Fp [] 1 c fun _ c=>Bd h fun x1 hx1 h=>Cb c (ZeA hx1) ⟨.f 0,tt⟩ call124 fun _ _ _ c=>?_)
 exact Fp [] 1 c fun _ c=>E0 rE
theorem Ze5 {p0 p1 r} (h:XE n p0 p1 = some r):Con prog 106 [I p0,Str.val p1] [] [] fun (_:Unit)=>([.agg #[I r.Op,I r.W,I r.N,Str.val r.Name,L0]],[],[]):=by
 unfold XE at h
 refine En func106 rfl ntmps106 fun _ fr w c=>?_
 refine T0 (Eal tZ c fun b1 _ _ c=>?_)
 refine E0 (S0 (Bd h fun x1 hx1 h=>Bd h fun x2 hx2 h=>S0 (rZ [(1,.eq (.bool x1)),(5,.eq (.bool x2))] [] mix c ⟨Ncl c (kN (YY hx1)) tt call82,Ncl c (fun hg=>ZcY (iteF (gcF hg) hx2)) tt call123,tt⟩ fun _ _ c=>I0 c h (fun h=>?_) fun h=>?_)))
 refine T0 (Fp [] 1 c fun _ c=>Ess 0 tZ c fun _ c=>?_)
 refine E0 ?_
 cases h
 exact wp_ret (tr (Rg c () [] [] (.cell (α:=Agg 4) kk (.b 0) .nil)))
 refine K0 (T0 (Fp [] 3 c fun _ c=>Ess 0 [I 22,I p0,I 0,Str.val p1,L0] c fun _ c=>?_))
 refine E0 ?_
 cases h
 exact wp_ret (Rg c () [] [] (.cell (α:=Agg 4) kk (.b 0) .nil))
theorem YV {p0 r} (h:ZY p0 = some r):Con prog 111 [L ga0 p0 gc1] [] [lR ga0 p0 gc1] fun (i:Option Addr)=>([L i r (List.length r)],[],[RO (L i r (List.length r)) r]):=by
 unfold ZY at h
 refine En func111 rfl ntmps111 fun _ fr w c=>?_
 refine P0 [] c fun _ c=>T0 (Fp [] 5 c fun _ c=>Ecl 75 c (.f 0) fun _ c=>?_)
 refine Fp [] 1 c fun _ c=>E0 ?_
 obtain rfl:=sj h
 exact wp_ret (Rt c (ga0) [] [1])
theorem Zc1 {p0 p1 r} (h:Zbb p0 p1 = some r):Cl 95 [L ga0 p0 gc1,tV p1 ga2 gc3] [lR ga0 p0 gc1,lR ga2 p1.Kids gc3] r:=by
 unfold Zbb at h
 refine En func95 rfl ntmps95 fun _ fr w c=>?_
 refine T0 (Ebx (tC p1 ga2 gc3) c fun b1 _ _ c=>?_)
 refine Fp [] 1 c fun _ c=>E0 (Bd h fun x1 hx1 h=>Bd h fun x2 hx2 h=>Bd h fun x3 hx3 h=>S0 (Jn (fun i:Ob (List Rw.Term)=>([(4,L i.1 x3 i.2.1)],fun Γ=>Γ ++ [sl75 (L i.1 x3 i.2.1) (i.q2)],[CS (i.q2) x3])) c ?_ fun i10 _ _ c=>?_))
 refine As mix c fun _ c=>?_
 replace c:=Cx.frs [(0,L ga0 p0 gc1),(3,B b1 0)] c
 refine Dq (fun i:Ob (List Rw.Term)=>([(10,L i.1 x3 i.2.1)],fun Γ=>Γ ++ [sl75 (L i.1 x3 i.2.1) (i.q2)],[CS (i.q2) x3])) (bN 7 63) (fun i=>[(6,4,L i.1 x3 i.2.1)]) c (fun i9=>?_) fun hd6=>?_
 obtain ⟨a12,c10,rs7⟩:=i9
 refine qnE ⟨qP [],tt⟩ fun _ _ c=>?_
 exact nN (a12,c10,rs7) (c.rk [0,1] [0,1,2])
 refine Dq (fun i:Option Addr × Ob (List Rw.Term)=>([(7,L i.1 x2 (List.length x2)),(9,L i.2.1 [p1] i.p2)],fun Γ=>Γ ++ [sl75 (L i.2.1 [p1] i.p2) (i.q3)],[RO (L i.1 x2 (List.length x2)) x2,CS (i.q3) [p1]])) (bN 7 31) (fun i=>[]) c (fun i7=>?_) fun hd5=>?_
 obtain ⟨a9,a10,c8,rs5⟩:=i7
 refine qn [5] tt ⟨fun _ _ c=>?_,tt⟩
 refine Zf _ rfl rfl ?_
 replace c:=c.fzr 1 3
 refine Eapf (ρ:=Rw.Term) 75 c (.f 2) (.f 4) hx3 fun rs6 a11 c9 _ _ c=>?_
 refine E0 (nQ hd6 (a11,c9,rs6) (c.rk [0,1] [0,1,5]))
 refine Dq (fun i:Option Addr=>([(3,B b1 0),(7,L i x2 (List.length x2))],id,[RO (L i x2 (List.length x2)) x2])) (bN 7 7) (fun i=>[(3,8,tV p1 ga2 gc3)]) c (fun a4=>?_) fun hd3=>?_
 refine qn [4] ⟨qP [(0,0)],tt⟩ ⟨fun _ _ c=>?_,tt⟩
 refine Zf _ rfl rfl ?_
 refine Eltr 75 [(tR p1 ga2 gc3)] [p1] c ⟨(Ava.mk_Term p1 (.f 1)),tt⟩ fun a8 c7 _ _ c=>?_
 refine E0 (nQ hd5 (a4,a8,c7,[(tR p1 ga2 gc3)]) (c.rk [0,1] (rg 4)))
 refine Dq (fun i:Ob (List Rw.Term × Ob (List Rw.Term))=>([(6,L i.1 x1 i.2.1),(9,L i.p3 [p1] i.p4)],fun Γ=>Γ ++ [sl75 (L i.1 x1 i.2.1) (i.p2),sl75 (L i.p3 [p1] i.p4) (i.q5)],[CS (i.p2) x1,CS (i.q5) [p1]])) (bN 7 27) (fun i=>[]) c (fun i5=>?_) fun hd4=>?_
 obtain ⟨a6,c5,rs3,a7,c6,rs4⟩:=i5
 refine qn [2] tt ⟨fun _ _ c=>?_,tt⟩
 refine Zf _ rfl rfl ?_
 replace c:=c.fzr 1 2
 refine Cg c (YV hx2) ⟨.f 4,tt⟩ call111 fun i8 _ _ c=>?_
 refine E0 (nQ hd5 (i8,a7,c6,rs4) (c.rk [0,1] [0,1,5,3]))
 refine Dq (fun i:Ob (List Rw.Term)=>([(3,B b1 0),(6,L i.1 x1 i.2.1)],fun Γ=>Γ ++ [sl75 (L i.1 x1 i.2.1) (i.q2)],[CS (i.q2) x1])) (bN 7 3) (fun i=>[(3,8,tV p1 ga2 gc3)]) c (fun i2=>?_) fun hd1=>?_
 obtain ⟨a1,c1,rs1⟩:=i2
 refine qn [2,4] ⟨qP [(0,0)],tt⟩ ⟨fun _ _ c=>?_,fun _ _ c=>?_,tt⟩
 refine Zf _ rfl rfl ?_
 replace c:=c.fzr 1 2
 refine Cg c (YV hx2) ⟨.f 3,tt⟩ call111 fun i4 _ _ c=>?_
 refine E0 (nQ hd3 (i4) (c.rk [0] [0,1,4]))
 refine Zf _ rfl rfl ?_
 refine Eltr 75 [(tR p1 ga2 gc3)] [p1] c ⟨(Ava.mk_Term p1 (.f 1)),tt⟩ fun a5 c4 _ _ c=>?_
 refine E0 (nQ hd4 (a1,c1,rs1,a5,c4,[(tR p1 ga2 gc3)]) (c.rk [0,1,2] (rg 4)))
 refine Dq (fun i:Ob (List Rw.Term)=>([(0,L ga0 p0 gc1),(9,L i.1 [p1] i.2.1)],fun Γ=>Γ ++ [sl75 (L i.1 [p1] i.2.1) (i.q2)],[CS (i.q2) [p1]])) (bN 7 24) (fun i=>[(0,5,L ga0 p0 gc1)]) c (fun i3=>?_) fun hd2=>?_
 obtain ⟨a3,c3,rs2⟩:=i3
 refine qn [1] ⟨qP [],tt⟩ ⟨fun _ _ c=>?_,tt⟩
 refine Zf _ rfl rfl ?_
 refine Cg c (Yk hx1) ⟨.f 0,tt⟩ call112 fun i6 _ _ c=>?_
 refine E0 (nQ hd4 (i6.1,i6.2.1,i6.q2,a3,c3,rs2) (c.rk [0,2,1] [0,1,3,2]))
 refine q0 (qs:=[(0,5,L ga0 p0 gc1),(3,8,tV p1 ga2 gc3)]) c (qn [1,4] ⟨qP [],qP [(0,0)],tt⟩ ⟨fun _ _ c=>?_,fun _ _ c=>?_,tt⟩)
 refine Zf _ rfl rfl ?_
 refine Cg c (Yk hx1) ⟨.f 0,tt⟩ call112 fun i1 _ _ c=>?_
 refine E0 (nQ hd1 (i1.1,i1.2.1,i1.q2) (c.rk [0,1] [0,1,2]))
 refine Zf _ rfl rfl ?_
 refine Eltr 75 [(tR p1 ga2 gc3)] [p1] c ⟨(Ava.mk_Term p1 (.f 1)),tt⟩ fun a2 c2 _ _ c=>?_
 refine E0 (nQ hd2 (a2,c2,[(tR p1 ga2 gc3)]) (c.rk [0,1] [0,1,2]))
 obtain ⟨a13,c11,rs8⟩:=i10
 replace c:=c.fzr 1 2
 obtain rfl:=sj h
 exact wp_ret (Rt c (a13,c11) [] [3])
theorem ZaT {p0 p1 p2 p3 p4 r} (h:XA n p0 p1 p2 p3 p4 = some r):Con prog 125 [gV p0 ga0 gc1,I p1,tV p2 ga2 gc3,tV p3 ga4 gc5,tV p4 ga6 gc7] [] [lR ga0 p0.Code gc1,lR ga2 p2.Kids gc3,lR ga4 p3.Kids gc5,lR ga6 p4.Kids gc7] fun (i:Oh)=>([tV r.1 i.1 i.2,.bool r.2],[],[lR i.1 r.1.Kids i.2]):=by
 unfold XA at h
 refine En func125 rfl ntmps125 fun _ fr w c=>?_
 refine T0 (Ebx (gC p0 ga0 gc1) c fun b1 _ _ c=>?_)
 refine Ebx (tC p2 ga2 gc3) c fun b2 _ _ c=>?_
 refine Ebx (tC p3 ga4 gc5) c fun b3 _ _ c=>?_
 refine Ebx (tC p4 ga6 gc7) c fun b4 _ _ c=>?_
 refine Eal tZ c fun b5 _ _ c=>?_
 refine Fp [] 1 c fun _ c=>E0 (Bd h fun x1 hx1 h=>Bd h fun x2 hx2 h=>S0 (Jn (fun i:Nat × Oh=>([(5,B b1 0),(8,B b3 0),(9,B b4 0),(10,B b5 0),(12,B i.1 0),(13,.bool x2.2)],fun Γ=>Γ ++ [BX i.1 75 (tC x2.1 i.2.1 i.q2)],[lR i.2.1 x2.1.Kids i.q2])) c ?_ fun i8 _ _ c=>?_))
 refine As mix c fun _ c=>?_
 replace c:=Cx.frs [(1,I p1),(5,B b1 0),(7,B b2 0),(8,B b3 0),(9,B b4 0),(10,B b5 0)] c
 refine Dq (fun i:Nat × Oh=>([(5,B b1 0),(8,B b3 0),(9,B b4 0),(10,B b5 0),(12,B i.1 0),(14,.tuple #[tV x2.1 i.2.1 i.q2,.bool x2.2])],fun Γ=>Γ ++ [BX i.1 75 (tC x2.1 i.2.1 i.q2)],[lR i.2.1 x2.1.Kids i.q2])) (bN 13 3583) (fun i=>[(9,23,.bool x2.2),(12,13,.bool x2.2)]) c (fun i7=>?_) fun hd8=>?_
 obtain ⟨b14,a7,c7⟩:=i7
 refine qnE ⟨qP [],qP [],tt⟩ fun _ _ c=>?_
 exact nN (b14,a7,c7) (c.rk (rg 6) (rg 5))
 refine Dq (fun i:Nat × Oh=>([(5,B b1 0),(8,B b3 0),(9,B b4 0),(10,B b5 0),(12,B i.1 0),(21,.tuple #[tV x2.1 i.2.1 i.q2,.bool x2.2])],fun Γ=>Γ ++ [BX i.1 75 tZ],[lR i.2.1 x2.1.Kids i.q2])) (bN 13 1151) (fun i=>[(7,14,.tuple #[tV x2.1 i.2.1 i.q2,.bool x2.2]),(8,22,tV x2.1 i.2.1 i.q2),(9,23,.bool x2.2)]) c (fun i5=>?_) fun hd7=>?_
 obtain ⟨b13,a6,c6⟩:=i5
 refine qn [11] ⟨qP [],qP [],qP [],tt⟩ ⟨fun _ _ c=>?_,tt⟩
 refine Zf _ rfl rfl ?_
 refine Ess 5 (tC x2.1 a6 c6) c fun _ c=>?_
 refine E0 (nQ hd8 (b13,a6,c6) (c.rk (rg 6) (rg 5)))
 refine Dq (fun i:Oh=>([(5,B b1 0),(8,B b3 0),(9,B b4 0),(10,B b5 0),(21,.tuple #[tV x2.1 i.1 i.2,.bool x2.2])],id,[lR i.1 x2.1.Kids i.2])) (bN 13 127) (fun i=>[(7,14,.tuple #[tV x2.1 i.1 i.2,.bool x2.2]),(8,22,tV x2.1 i.1 i.2),(9,23,.bool x2.2)]) c (fun i3=>?_) fun hd5=>?_
 obtain ⟨a3,c3⟩:=i3
 refine qn [10] ⟨qP [],qP [],qP [],tt⟩ ⟨fun _ _ c=>?_,tt⟩
 refine Zf _ rfl rfl ?_
 refine Eal tZ c fun b12 _ _ c=>?_
 refine E0 (nQ hd7 (b12,a3,c3) (c.rk (rg 6) (rg 5)))
 refine Dq (fun i:Nat × Ob (List Rw.Term)=>([(5,B b1 0),(8,B b3 0),(9,B b4 0),(10,B b5 0),(12,B i.1 0),(20,L i.2.1 [(t0 x1),p2] i.p2)],fun Γ=>Γ ++ [BX i.1 75 tZ,sl75 (L i.2.1 [(t0 x1),p2] i.p2) (i.q3)],[CS (i.q3) [(t0 x1),p2]])) (bN 13 1087) (fun i=>[]) c (fun i4=>?_) fun hd6=>?_
 obtain ⟨b11,a4,c4,rs2⟩:=i4
 refine qn [6] tt ⟨fun _ _ c=>?_,tt⟩
 refine Zf _ rfl rfl ?_
 replace c:=c.fzr 6 4
 refine Cg c (ZM hx2) ⟨.f 5,tt⟩ call94 fun i6 _ _ c=>?_
 refine E0 (nQ hd7 (b11,i6.1,i6.2) (c.rk (rg 6) [0,1,2,3,6]))
 refine Dq (fun i:Ob (List Rw.Term)=>([(5,B b1 0),(8,B b3 0),(9,B b4 0),(10,B b5 0),(20,L i.1 [(t0 x1),p2] i.2.1)],fun Γ=>Γ ++ [sl75 (L i.1 [(t0 x1),p2] i.2.1) (i.q2)],[CS (i.q2) [(t0 x1),p2]])) (bN 13 63) (fun i=>[]) c (fun i1=>?_) fun hd3=>?_
 obtain ⟨a2,c2,rs1⟩:=i1
 refine qn [6,10] tt ⟨fun _ _ c=>?_,fun _ _ c=>?_,tt⟩
 refine Zf _ rfl rfl ?_
 replace c:=c.fzr 5 4
 refine Cg c (ZM hx2) ⟨.f 5,tt⟩ call94 fun i2 _ _ c=>?_
 refine E0 (nQ hd5 (i2.1,i2.2) (c.rk (rg 5) [0,1,2,3,6]))
 refine Zf _ rfl rfl ?_
 refine Eal tZ c fun b10 _ _ c=>?_
 refine E0 (nQ hd6 (b10,a2,c2,rs1) (c.rk [0,1,2,3,4,6,5] (rg 5)))
 refine Dq (fun i:Nat=>([(5,B b1 0),(7,B b2 0),(8,B b3 0),(9,B b4 0),(10,B b5 0),(12,B i 0),(18,.agg #[I x1.Op,I x1.W,I x1.N,Str.val x1.Name,L0])],fun Γ=>Γ ++ [BX i 75 tZ],[])) (bN 13 1039) (fun i=>[(4,19,tV p2 ga2 gc3)]) c (fun b9=>?_) fun hd4=>?_
 refine qn [5] ⟨qP [(0,1)],tt⟩ ⟨fun _ _ c=>?_,tt⟩
 refine Zf _ rfl rfl ?_
 refine Eltr 75 [(u0 x1),(tR p2 ga2 gc3)] [(t0 x1),p2] c ⟨(Ava.mk_Term (t0 x1) (.nil)),(Ava.mk_Term p2 (.f 1)),tt⟩ fun a5 c5 _ _ c=>?_
 refine E0 (nQ hd6 (b9,a5,c5,[(u0 x1),(tR p2 ga2 gc3)]) (c.rk (rg 7) (rg 5)))
 refine Dq (fun _:Unit=>([(5,B b1 0),(7,B b2 0),(8,B b3 0),(9,B b4 0),(10,B b5 0),(18,.agg #[I x1.Op,I x1.W,I x1.N,Str.val x1.Name,L0])],id,[])) (bN 13 15) (fun _=>[(4,19,tV p2 ga2 gc3)]) c (fun _=>?_) fun hd1=>?_
 refine qn [5,10] ⟨qP [(0,1)],tt⟩ ⟨fun _ _ c=>?_,fun _ _ c=>?_,tt⟩
 refine Zf _ rfl rfl ?_
 refine Eltr 75 [(u0 x1),(tR p2 ga2 gc3)] [(t0 x1),p2] c ⟨(Ava.mk_Term (t0 x1) (.nil)),(Ava.mk_Term p2 (.f 1)),tt⟩ fun a1 c1 _ _ c=>?_
 refine E0 (nQ hd3 (a1,c1,[(u0 x1),(tR p2 ga2 gc3)]) (c.rk (rg 6) (rg 5)))
 refine Zf _ rfl rfl ?_
 refine Eal tZ c fun b8 _ _ c=>?_
 refine E0 (nQ hd4 (b8) (c.rk (rg 6) (rg 4)))
 refine Dq (fun i:Nat=>([(1,I p1),(5,B b1 0),(7,B b2 0),(8,B b3 0),(9,B b4 0),(10,B b5 0),(12,B i 0)],fun Γ=>Γ ++ [BX i 75 tZ],[])) (bN 13 1024) (fun i=>[(0,15,B b1 0),(1,16,I p0.W),(2,17,I p1),(4,19,tV p2 ga2 gc3)]) c (fun b7=>?_) fun hd2=>?_
 refine qn [3] ⟨qP [],qP [(0,0)],qP [],qP [(0,1)],tt⟩ ⟨fun _ _ c=>?_,tt⟩
 refine Zf _ rfl rfl ?_
 refine Cb c (ZI hx1) tt call85 fun _ _ _ c=>?_
 refine E0 (nQ hd4 (b7) (c.rk (rg 6) (rg 4)))
 refine q0 (qs:=[(0,15,B b1 0),(1,16,I p0.W),(2,17,I p1),(4,19,tV p2 ga2 gc3)]) c (qn [3,10] ⟨qP [],qP [(0,0)],qP [],qP [(0,1)],tt⟩ ⟨fun _ _ c=>?_,fun _ _ c=>?_,tt⟩)
 refine Zf _ rfl rfl ?_
 replace c:=c.ng
 refine Cb c (ZI hx1) tt call85 fun _ _ _ c=>?_
 refine E0 (nQ hd1 () (c.rk (rg 5) (rg 4)))
 refine Zf _ rfl rfl ?_
 replace c:=c.nf
 refine Eal tZ c fun b6 _ _ c=>?_
 refine E0 (nQ hd2 (b6) (c.rk (rg 6) (rg 4)))
 obtain ⟨b15,a8,c8⟩:=i8
 refine S0 (P0 [] c fun _ c=>I0 c h (fun h=>?_) fun h=>?_)
 refine T0 (Fp [] 1 c fun _ c=>Ess 4 tZ c fun _ c=>?_)
 refine Fp [] 1 c fun _ c=>E0 ?_
 cases h
 replace c:=c.nilf (α:=D.Term)
 exact wp_ret (tr (Rg c (none,0) [] [5] (.cell (α:=Agg 4) kk (.b 4) (.tmp .nil))))
 refine K0 (T0 (Fp [(1,0),(2,5),(3,2),(4,3)] 5 c fun _ c=>Eltr 75 [(tR x2.1 a8 c8),(tR p3 ga4 gc5),(tR p4 ga6 gc7)] [x2.1,p3,p4] c ⟨(Ava.mk_Term x2.1 (.f 4)),(Ava.mk_Term p3 (.f 2)),(Ava.mk_Term p4 (.f 3)),tt⟩ fun a9 c9 _ _ c=>?_))
 replace c:=c.fzr 6 5
 refine Bd h fun x3 hx3 h=>Cg c (ZM hx3) ⟨.f 6,tt⟩ call94 fun i9 _ _ c=>?_
 refine Fp [] 2 c fun _ c=>Ess 4 (tC x3.1 i9.1 i9.2) c fun _ c=>?_
 refine Fp [] 1 c fun _ c=>E0 ?_
 cases h
 exact wp_ret (Rg c (i9.1,i9.2) [] [7] (.cell (α:=Agg 4) kk (.b 4) (.tmp .nil)))
theorem Zfl {p0 p1 p2 r} (h:Zbt n p0 p1 p2 = some r):Con prog 108 [gV p0 ga0 gc1,pV p1 ga2 gc3 ga4 gc5 ga6 gc7 ga8 gc9 ga10 gc11 ga12 gc13,tV p2 ga14 gc15] [] [lR ga0 p0.Code gc1,lR ga4 p1.Mem gc5,lR ga14 p2.Kids gc15] fun (i:Oh)=>([tV r.1 i.1 i.2,.bool r.2],[],[lR i.1 r.1.Kids i.2]):=by
 unfold Zbt at h
 refine En func108 rfl ntmps108 fun _ fr w c=>?_
 refine T0 (Ebx (gC p0 ga0 gc1) c fun b1 _ _ c=>?_)
 refine Ebx (pC p1 ga2 gc3 ga4 gc5 ga6 gc7 ga8 gc9 ga10 gc11 ga12 gc13) c fun b2 _ _ c=>?_
 refine Ebx (tC p2 ga14 gc15) c fun b3 _ _ c=>?_
 refine Eal tZ c fun b4 _ _ c=>?_
 refine Fp [] 1 c fun _ c=>E0 (S0 (T0 (Fp [(0,2)] 1 c fun _ c=>Bd h fun x1 hx1 h=>Cb c (YE hx1) ⟨.f 2,tt⟩ call93 fun _ _ _ c=>?_)))
 refine E0 (I0 c h (fun h=>?_) fun h=>?_)
 refine T0 (Fp [(1,1),(3,2)] 4 c fun _ c=>?_)
 replace c:=c.ng
 refine Bd h fun x2 hx2 h=>Eem c (.f 1) hx2 fun _ u1 _ c=>?_
 obtain ⟨a1,c1,rfl,c⟩:=c.o_Term 3
 refine Ess 3 (tC x2 a1 c1) c fun _ c=>?_
 refine Fp [] 1 c fun _ c=>E0 ?_
 cases h
 exact wp_ret (tr (Rg c (a1,c1) [] [4] (.cell (α:=Agg 4) kk (.b 3) (.tmp .nil))))
 refine K0 (T0 (Fp [(1,1),(3,0)] 5 c fun _ c=>?_))
 replace c:=c.ng
 refine Bd h fun x3 hx3 h=>Eem c (.f 1) hx3 fun _ u2 _ c=>?_
 obtain ⟨a2,c2,rfl,c⟩:=c.o_Term 3
 refine Eal tZ c fun b5 _ _ c=>?_
 refine Ess 4 (tC x3 a2 c2) c fun _ c=>?_
 refine E0 (S0 (P0 [(1,0)] c fun _ c=>Bd h fun rl1 hit1 h=>?_))
 have hk1:=h
 refine LpR (fun s1  (i:Oh)=>([(3,B b1 0),(4,B b2 0),(5,B b3 0),(6,B b4 0),(8,B b5 0),(9,I s1.1)],fun Γ=>Γ.set 4 (BX b5 75 [I s1.2.1,I s1.p2,I s1.p3,Str.val s1.p4,L i.1 s1.q5 i.2]),[lR i.1 s1.q5 i.2])) (fun s  (i:Oh)=>([(6,B b4 0),(8,B b5 0)],fun Γ=>Γ.set 4 (BX b5 75 [I s.1,I s.2.1,I s.p2,Str.val s.p3,L i.1 s.q4 i.2]),[lR i.1 s.q4 i.2])) hit1 c (a2,c2) (c.rk (rg 5) [0,1,2,3,4,4]) (fun s1 q1 i1 _ _ c h hr1=>?_) fun s1r k1 _ _ hrl c=>?_
 refine S0 (P0 [] c fun _ c=>I0 c h (fun h=>?_) fun h=>?_)
 refine K0 (S0 (wp_block (Bd h fun x4 hx4 h=>?_)))
 obtain ⟨ep1,u3,c⟩:=c.elp (.f 1) hx4
 obtain ⟨a3,c3,rfl,c⟩:=c.o_Term 7
 refine Bd h fun x5 hx5 h=>S0 (Jn (fun i:Nat × Oh=>([(3,B b1 0),(4,B b2 0),(5,B b3 0),(6,B b4 0),(8,B b5 0),(9,I s1.1),(10,B i.1 0),(11,.bool x5.2)],fun Γ=>Γ ++ [BX i.1 75 (tC x5.1 i.2.1 i.q2)],[lR i.2.1 x5.1.Kids i.q2])) c ?_ fun i7 _ _ c=>?_)
 refine As mix c fun _ c=>?_
 replace c:=Cx.frs [(3,B b1 0),(4,B b2 0),(5,B b3 0),(6,B b4 0),(8,B b5 0),(9,I s1.1)] c
 refine Dq (fun i:Nat × Oh=>([(3,B b1 0),(4,B b2 0),(5,B b3 0),(6,B b4 0),(8,B b5 0),(9,I s1.1),(10,B i.1 0),(34,.tuple #[tV x5.1 i.2.1 i.q2,.bool x5.2])],fun Γ=>Γ ++ [BX i.1 75 (tC x5.1 i.2.1 i.q2)],[lR i.2.1 x5.1.Kids i.q2])) (bN 16 28671) (fun i=>[(12,46,.bool x5.2),(15,11,.bool x5.2)]) c (fun i6=>?_) fun hd4=>?_
 obtain ⟨b10,a6,c6⟩:=i6
 refine qnE ⟨qP [],qP [],tt⟩ fun _ _ c=>?_
 exact nN (b10,a6,c6) (c.rk (rg 6) (rg 10))
 refine Dq (fun i:Nat × Oh=>([(3,B b1 0),(4,B b2 0),(5,B b3 0),(6,B b4 0),(8,B b5 0),(9,I s1.1),(10,B i.1 0),(44,.tuple #[tV x5.1 i.2.1 i.q2,.bool x5.2])],fun Γ=>Γ ++ [BX i.1 75 tZ],[lR i.2.1 x5.1.Kids i.q2])) (bN 16 9215) (fun i=>[(10,34,.tuple #[tV x5.1 i.2.1 i.q2,.bool x5.2]),(11,45,tV x5.1 i.2.1 i.q2),(12,46,.bool x5.2)]) c (fun i4=>?_) fun hd3=>?_
 obtain ⟨b9,a5,c5⟩:=i4
 refine qn [14] ⟨qP [],qP [],qP [],tt⟩ ⟨fun _ _ c=>?_,tt⟩
 refine Zf _ rfl rfl ?_
 refine Ess 5 (tC x5.1 a5 c5) c fun _ c=>?_
 refine E0 (nQ hd4 (b9,a5,c5) (c.rk (rg 6) (rg 10)))
 refine Dq (fun i:Oh=>([(3,B b1 0),(4,B b2 0),(5,B b3 0),(6,B b4 0),(8,B b5 0),(9,I s1.1),(44,.tuple #[tV x5.1 i.1 i.2,.bool x5.2])],id,[lR i.1 x5.1.Kids i.2])) (bN 16 1023) (fun i=>[(10,34,.tuple #[tV x5.1 i.1 i.2,.bool x5.2]),(11,45,tV x5.1 i.1 i.2),(12,46,.bool x5.2)]) c (fun i3=>?_) fun hd1=>?_
 obtain ⟨a4,c4⟩:=i3
 refine qn [13] ⟨qP [],qP [],qP [],tt⟩ ⟨fun _ _ c=>?_,tt⟩
 refine Zf _ rfl rfl ?_
 refine Eal tZ c fun b8 _ _ c=>?_
 refine E0 (nQ hd3 (b8,a4,c4) (c.rk (rg 6) (rg 10)))
 refine Dq (fun i:Nat=>([(3,B b1 0),(4,B b2 0),(5,B b3 0),(6,B b4 0),(8,B b5 0),(9,I s1.1),(10,B i 0)],fun Γ=>Γ ++ [BX i 75 tZ],[])) (bN 16 8192) (fun i=>[(0,35,gV p0 ga0 gc1),(1,36,I s1.1),(2,37,tV p2 ga14 gc15),(3,38,B b2 2),(4,39,L ga4 p1.Mem gc5),(5,40,I s1.1),(6,41,.pointer (some ep1)),(7,42,tV x4 a3 c3),(8,43,.agg #[I s1.2.1,I s1.p2,I s1.p3,Str.val s1.p4,L i1.1 s1.q5 i1.2])]) c (fun b7=>?_) fun hd2=>?_
 refine qn [9] ⟨qP [(0,0)],qP [],qP [(0,2)],qP [],qP [(0,1)],qP [],qI 6,qL 6,qP [(0,4)],tt⟩ ⟨fun _ _ c=>?_,tt⟩
 refine Zf _ rfl rfl ?_
 refine Cg c (ZaT hx5) ⟨.f 0,.f 2,.f 8,.f 5,tt⟩ call125 fun i5 _ _ c=>?_
 refine E0 (nQ hd3 (b7,i5.1,i5.2) (c.rk (rg 6) (rg 10)))
 refine q0 (qs:=[(0,35,gV p0 ga0 gc1),(1,36,I s1.1),(2,37,tV p2 ga14 gc15),(3,38,B b2 2),(4,39,L ga4 p1.Mem gc5),(5,40,I s1.1),(6,41,.pointer (some ep1)),(7,42,tV x4 a3 c3),(8,43,.agg #[I s1.2.1,I s1.p2,I s1.p3,Str.val s1.p4,L i1.1 s1.q5 i1.2])]) c (qn [9,13] ⟨qP [(0,0)],qP [],qP [(0,2)],qP [],qP [(0,1)],qP [],qI 6,qL 6,qP [(0,4)],tt⟩ ⟨fun _ _ c=>?_,fun _ _ c=>?_,tt⟩)
 refine Zf _ rfl rfl ?_
 refine Cg c (ZaT hx5) ⟨.f 0,.f 2,.f 8,.f 5,tt⟩ call125 fun i2 _ _ c=>?_
 refine E0 (nQ hd1 (i2.1,i2.2) (c.rk (rg 5) (rg 10)))
 refine Zf _ rfl rfl ?_
 refine Eal tZ c fun b6 _ _ c=>?_
 refine E0 (nQ hd2 (b6) (c.rk (rg 6) (rg 9)))
 obtain ⟨b11,a7,c7⟩:=i7
 refine S0 (P0 [] c fun _ c=>I0 c h (fun h=>?_) fun h=>?_)
 refine T0 (Fp [] 1 c fun _ c=>Ess 3 tZ c fun _ c=>?_)
 refine Fp [] 1 c fun _ c=>E0 ?_
 obtain rfl:=hr1 _ (sk h)
 obtain rfl:=sj hk1
 replace c:=c.nilf (α:=D.Term)
 exact wp_ret (tr (br (tr (tr (br (tr (Rg c (none,0) [] [10] (.cell (α:=Agg 4) kk (.b 3) (.tmp .nil)))))))))
 refine K0 (T1 (Fp [(0,5)] 1 c fun _ c=>Ess 4 (tC x5.1 a7 c7) c fun _ c=>?_))
 refine E1 (bk (tn (P1 [] c fun _ c=>Nx h (a7,c7) (c.rk (rg 5) [0,1,2,3,4,9]))))
 refine wp_exit (te (te (be ?_)))
 obtain rfl:=hr1 _ (sk h)
 exact tn ⟨_,(i1.1,i1.2),rfl,c.rk (rg 5) (rg 6)⟩
 subst hrl
 refine T0 (Fp [(0,4)] 1 c fun _ c=>Ess 3 [I s1r.1,I s1r.2.1,I s1r.p2,Str.val s1r.p3,L k1.1 s1r.q4 k1.2] c fun _ c=>?_)
 refine Fp [] 1 c fun _ c=>E0 ?_
 cases h
 exact wp_ret (Rg c (k1.1,k1.2) [] [5] (.cell (α:=Agg 4) kk (.b 3) (.tmp .nil)))
theorem ZeM {p0 p1 p2 p3 r} (h:Zby n p0 p1 p2 p3 = some r):Con prog 109 [gV p0 ga0 gc1,pV p1 ga2 gc3 ga4 gc5 ga6 gc7 ga8 gc9 ga10 gc11 ga12 gc13,tV p2 ga14 gc15,tV p3 ga16 gc17] [] [lR ga0 p0.Code gc1,lR ga4 p1.Mem gc5,lR ga14 p2.Kids gc15,lR ga16 p3.Kids gc17] fun (i:Oh)=>([L i.1 r.1 i.2,.bool r.2],[],[lR i.1 r.1 i.2]):=by
 unfold Zby at h
 refine En func109 rfl ntmps109 fun _ fr w c=>?_
 refine T0 (Ebx (gC p0 ga0 gc1) c fun b1 _ _ c=>?_)
 refine Ebx (pC p1 ga2 gc3 ga4 gc5 ga6 gc7 ga8 gc9 ga10 gc11 ga12 gc13) c fun b2 _ _ c=>?_
 refine Ebx (tC p2 ga14 gc15) c fun b3 _ _ c=>?_
 refine Ebx (tC p3 ga16 gc17) c fun b4 _ _ c=>?_
 refine Fp [] 2 c fun _ c=>E0 (S0 (T0 (Fp [(0,2)] 1 c fun _ c=>Bd h fun x1 hx1 h=>Cb c (YE hx1) ⟨.f 2,tt⟩ call93 fun _ _ _ c=>?_)))
 refine E0 (I0 c h (fun h=>?_) fun h=>?_)
 refine T0 (Fp [(1,1),(3,2),(4,3)] 5 c fun _ c=>?_)
 replace c:=c.ng
 refine Bd h fun x2 hx2 h=>Cg c (Zam hx2) ⟨.f 1,.f 3,tt⟩ call104 fun i1 _ _ c=>?_
 refine Fp [] 2 c fun _ c=>E0 ?_
 cases h
 exact wp_ret (tr (Rg c (i1.1,i1.2) [] [4] (.tmp (.tmp .nil))))
 refine K0 (T0 (Fp [(1,0)] 2 c fun _ c=>?_))
 replace c:=c.ng
 refine Bd h fun x3 hx3 h=>Emkr 75 (⟨0,0,0,⟨[]⟩,⟨none,0,0⟩⟩ : Rw.Term) (fun w F=>Zlj w F) c hx3 fun a1 c1 _ _ c=>?_
 refine Fp [] 1 c fun _ c=>E0 (S0 (P0 [] c fun _ c=>Bd h fun rl1 hit1 h=>?_))
 have hk1:=h
 refine LpR (fun s1  (i:List Rw.Term)=>([(4,B b1 0),(5,B b2 0),(6,B b3 0),(7,B b4 0),(10,L a1 x3 c1),(26,I (len x3)),(27,I s1.1)],fun Γ=>Γ.set 4 (sl75 (L a1 x3 c1) (i)),[CS (i) s1.2])) (fun s  (i:List Rw.Term)=>([(10,L a1 x3 c1)],fun Γ=>Γ.set 4 (sl75 (L a1 x3 c1) (i)),[CS (i) s])) hit1 c ((List.replicate (List.length x3) (⟨0,0,0,⟨[]⟩,⟨none,0,0⟩⟩ : Rw.Term))) (c.rk (rg 5) [0,1,2,3,4,4]) (fun s1 q1 i2 _ _ c h hr1=>?_) fun s1r k1 _ _ hrl c=>?_
 refine P0 [] c fun _ c=>S0 (I0 c h (fun h=>?_) fun h=>?_)
 refine K0 (S0 (wp_block (P0 [] c fun _ c=>Bd h fun x4 hx4 h=>?_)))
 obtain ⟨ep1,u1,c⟩:=c.elp (.f 1) hx4
 obtain ⟨a2,c2,rfl,c⟩:=c.o_Term 7
 refine Bd h fun x5 hx5 h=>S0 (Jn (fun i:Nat × Oh=>([(4,B b1 0),(5,B b2 0),(6,B b3 0),(7,B b4 0),(10,L a1 x3 c1),(11,I s1.1),(12,B i.1 0),(13,.bool x5.2),(26,I (len x3)),(27,I s1.1)],fun Γ=>Γ ++ [BX i.1 75 (tC x5.1 i.2.1 i.q2)],[lR i.2.1 x5.1.Kids i.q2])) c ?_ fun i8 _ _ c=>?_)
 refine As mix c fun _ c=>?_
 replace c:=Cx.frs [(4,B b1 0),(5,B b2 0),(6,B b3 0),(7,B b4 0),(10,L a1 x3 c1),(11,I s1.1),(26,I (len x3)),(27,I s1.1)] c
 refine Dq (fun i:Nat × Oh=>([(4,B b1 0),(5,B b2 0),(6,B b3 0),(7,B b4 0),(10,L a1 x3 c1),(11,I s1.1),(12,B i.1 0),(26,I (len x3)),(27,I s1.1),(30,.tuple #[tV x5.1 i.2.1 i.q2,.bool x5.2])],fun Γ=>Γ ++ [BX i.1 75 (tC x5.1 i.2.1 i.q2)],[lR i.2.1 x5.1.Kids i.q2])) (bN 16 28671) (fun i=>[(12,42,.bool x5.2),(15,13,.bool x5.2)]) c (fun i7=>?_) fun hd4=>?_
 obtain ⟨b9,a5,c5⟩:=i7
 refine qnE ⟨qP [],qP [],tt⟩ fun _ _ c=>?_
 exact nN (b9,a5,c5) (c.rk (rg 6) (rg 10))
 refine Dq (fun i:Nat × Oh=>([(4,B b1 0),(5,B b2 0),(6,B b3 0),(7,B b4 0),(10,L a1 x3 c1),(11,I s1.1),(12,B i.1 0),(26,I (len x3)),(27,I s1.1),(40,.tuple #[tV x5.1 i.2.1 i.q2,.bool x5.2])],fun Γ=>Γ ++ [BX i.1 75 tZ],[lR i.2.1 x5.1.Kids i.q2])) (bN 16 9215) (fun i=>[(10,30,.tuple #[tV x5.1 i.2.1 i.q2,.bool x5.2]),(11,41,tV x5.1 i.2.1 i.q2),(12,42,.bool x5.2)]) c (fun i5=>?_) fun hd3=>?_
 obtain ⟨b8,a4,c4⟩:=i5
 refine qn [14] ⟨qP [],qP [],qP [],tt⟩ ⟨fun _ _ c=>?_,tt⟩
 refine Zf _ rfl rfl ?_
 refine Ess 5 (tC x5.1 a4 c4) c fun _ c=>?_
 refine E0 (nQ hd4 (b8,a4,c4) (c.rk (rg 6) (rg 10)))
 refine Dq (fun i:Oh=>([(4,B b1 0),(5,B b2 0),(6,B b3 0),(7,B b4 0),(10,L a1 x3 c1),(11,I s1.1),(26,I (len x3)),(27,I s1.1),(40,.tuple #[tV x5.1 i.1 i.2,.bool x5.2])],id,[lR i.1 x5.1.Kids i.2])) (bN 16 1023) (fun i=>[(10,30,.tuple #[tV x5.1 i.1 i.2,.bool x5.2]),(11,41,tV x5.1 i.1 i.2),(12,42,.bool x5.2)]) c (fun i4=>?_) fun hd1=>?_
 obtain ⟨a3,c3⟩:=i4
 refine qn [13] ⟨qP [],qP [],qP [],tt⟩ ⟨fun _ _ c=>?_,tt⟩
 refine Zf _ rfl rfl ?_
 refine Eal tZ c fun b7 _ _ c=>?_
 refine E0 (nQ hd3 (b7,a3,c3) (c.rk (rg 6) (rg 10)))
 refine Dq (fun i:Nat=>([(4,B b1 0),(5,B b2 0),(6,B b3 0),(7,B b4 0),(10,L a1 x3 c1),(11,I s1.1),(12,B i 0),(26,I (len x3)),(27,I s1.1)],fun Γ=>Γ ++ [BX i 75 tZ],[])) (bN 16 8192) (fun i=>[(0,31,gV p0 ga0 gc1),(1,32,I s1.1),(2,33,tV p2 ga14 gc15),(3,34,tV p3 ga16 gc17),(4,35,B b2 2),(5,36,L ga4 p1.Mem gc5),(6,37,I s1.1),(7,38,.pointer (some ep1)),(8,39,tV x4 a2 c2)]) c (fun b6=>?_) fun hd2=>?_
 refine qn [9] ⟨qP [(0,0)],qP [],qP [(0,2)],qP [(0,3)],qP [],qP [(0,1)],qP [],qI 6,qL 6,tt⟩ ⟨fun _ _ c=>?_,tt⟩
 refine Zf _ rfl rfl ?_
 refine Cg c (ZaT hx5) ⟨.f 0,.f 2,.f 3,.f 8,tt⟩ call125 fun i6 _ _ c=>?_
 refine E0 (nQ hd3 (b6,i6.1,i6.2) (c.rk (rg 6) (rg 10)))
 refine q0 (qs:=[(0,31,gV p0 ga0 gc1),(1,32,I s1.1),(2,33,tV p2 ga14 gc15),(3,34,tV p3 ga16 gc17),(4,35,B b2 2),(5,36,L ga4 p1.Mem gc5),(6,37,I s1.1),(7,38,.pointer (some ep1)),(8,39,tV x4 a2 c2)]) c (qn [9,13] ⟨qP [(0,0)],qP [],qP [(0,2)],qP [(0,3)],qP [],qP [(0,1)],qP [],qI 6,qL 6,tt⟩ ⟨fun _ _ c=>?_,fun _ _ c=>?_,tt⟩)
 refine Zf _ rfl rfl ?_
 refine Cg c (ZaT hx5) ⟨.f 0,.f 2,.f 3,.f 8,tt⟩ call125 fun i3 _ _ c=>?_
 refine E0 (nQ hd1 (i3.1,i3.2) (c.rk (rg 5) (rg 10)))
 refine Zf _ rfl rfl ?_
 refine Eal tZ c fun b5 _ _ c=>?_
 refine E0 (nQ hd2 (b5) (c.rk (rg 6) (rg 9)))
 obtain ⟨b10,a6,c6⟩:=i8
 refine S0 (P0 [] c fun _ c=>I0 c h (fun h=>?_) fun h=>?_)
 refine P0 [] c fun _ c=>?_
 obtain rfl:=hr1 _ (sk h)
 obtain rfl:=sj hk1
 replace c:=c.nilf (α:=D.Term)
 exact wp_ret (tr (br (tr (tr (br (tr (Rg c (none,0) [] [10] (.tmp (.tmp .nil)))))))))
 refine K0 (T1 (Fp [(2,4)] 3 c fun _ c=>Bd h fun x6 hx6 h=>Esetr (q:=(tR x5.1 a6 c6)) 4 5 c ((Ava.mk_Term x5.1 (.f 9))) hx6 fun _ _ _ c=>?_))
 refine E1 (bk (tn (P1 [] c fun _ c=>Nx h ((List.set i2 (s1.1).toNat (tR x5.1 a6 c6))) (c.rk (rg 5) [0,1,2,3,4,10]))))
 refine wp_exit (te (te (be ?_)))
 obtain rfl:=hr1 _ (sk h)
 exact tn ⟨_,(i2),rfl,c.rk (rg 5) (rg 6)⟩
 subst hrl
 refine P0 [] c fun _ c=>?_
 obtain ⟨he1,c⟩:=c.relenr 4 5
 replace c:=c.eqs (v:=L a1 x3 c1) (u:=L a1 s1r c1) 8 (by simp only [L,he1])
 replace c:=c.fzr 4 5
 cases h
 exact wp_ret (Rg c (a1,c1) [] [6] (.tmp (.tmp .nil)))
theorem YA {p0 r} (h:Z7 p0 = some r):Con prog 64 [L ga0 p0 gc1] [] [lR ga0 p0 gc1] fun (i:Oh)=>([L i.1 r i.2],[sl3 (L i.1 r i.2) r],[]):=by
 unfold Z7 at h
 refine En func64 rfl ntmps64 fun _ fr w c=>?_
 refine P0 [] c fun _ c=>S0 (T0 (Fp [] 1 c fun _ c=>Ebin (vx:=L ga0 p0 gc1) (vy:=.slice none 0 0) c (ZfX _ _ _ _ _ _ _ _ _ _) (nil_eq Tryz.underlying25 ga0 _ gc1 _) fun _ c=>?_))
 refine E0 (If c (b:=(Option.isNone ga0)) (fun hb=>?_) fun hb=>?_)
 obtain ⟨_,hn⟩:=c.use (.f 0)
 replace h:=ZiB (Zkd hn (Zni.1 hb)) h
 refine P0 [] c fun _ c=>?_
 replace c:=c.nil (α:=Int) 3
 cases h
 exact wp_ret (tr (Rt c (none,0) [0] []))
 refine K0 (T0 (Elt 3 ([]:List Int) c fun a1 c1 _ _ c=>?_))
 refine Fp [] 1 c fun _ c=>Bd h fun x1 hx1 h=>Eap 0 c (.f 0) hx1 fun a2 c2 _ _ c=>?_
 refine Fp [] 1 c fun _ c=>E0 ?_
 obtain rfl:=sj h
 exact wp_ret (Rt c (a2,c2) [0] [])
theorem Zcz {p0 p1 r} (h:Zbf p0 p1 = some r):Con prog 96 [L ga0 p0 gc1,I p1] [] [lR ga0 p0 gc1] fun (i:Oh)=>([L i.1 r i.2],[sl3 (L i.1 r i.2) r],[]):=by
 unfold Zbf at h
 refine En func96 rfl ntmps96 fun _ fr w c=>?_
 refine P0 [] c fun _ c=>T0 (Fp [] 1 c fun _ c=>Bd h fun x1 hx1 h=>Cb c (YA hx1) ⟨.f 0,tt⟩ call64 fun i1 _ _ c=>?_)
 refine Fp [] 1 c fun _ c=>Elt 3 ([p1]:List Int) c fun a1 c1 _ _ c=>?_
 refine Bd h fun x2 hx2 h=>Eap 0 c (.g 1) hx2 fun a2 c2 _ _ c=>?_
 refine Fp [] 1 c fun _ c=>E0 ?_
 obtain rfl:=sj h
 exact wp_ret (Rt c (a2,c2) [0] [])
theorem Zfr {p0 p1 p2 r} (h:ZaJ n p0 p1 p2 = some r):Con prog 92 [gV p0 ga0 gc1,pV p1 ga2 gc3 ga4 gc5 ga6 gc7 ga8 gc9 ga10 gc11 ga12 gc13,nV p2] [] [lR ga0 p0.Code gc1,lR ga2 p1.Regs gc3,lR ga4 p1.Mem gc5,lR ga6 p1.Stack gc7,lR ga8 p1.Out gc9,lR ga10 p1.Cond gc11,lR ga12 p1.Turns gc13,TBf prog] fun (i:Hp)=>([pJ r.1 i,.bool r.2],[],(pF r.1 i)):=by
 unfold ZaJ at h
 refine En func92 rfl ntmps92 fun _ fr w c=>?_
 refine T0 (Ebx (gC p0 ga0 gc1) c fun b1 _ _ c=>?_)
 refine Ebx (pC p1 ga2 gc3 ga4 gc5 ga6 gc7 ga8 gc9 ga10 gc11 ga12 gc13) c fun b2 _ _ c=>?_
 refine Ebx (nC p2) c fun b3 _ _ c=>?_
 refine Eal pZ c fun b4 _ _ c=>?_
 refine Fp [] 1 c fun _ c=>E0 (P0 [] c fun _ c=>T0 (Eal tZ c fun b5 _ _ c=>?_))
 refine E0 (P0 [(1,1)] c fun _ c=>S0 (P0 [(1,2)] c fun _ c=>wp_block (P0 [] c fun _ c=>I0 c h (fun h=>?_) fun h=>?_)))
 refine Bd h fun x1 hx1 h=>YU mix (rM 9 [(8,.eq (.agg #[I x1.Op,I x1.W,I x1.N,Str.val x1.Name,L0]))] [(1,1),(3,2),(5,0),(7,2)] c (fun ow=>⟨ZN ow (Ncl c (kN (ZI hx1)) tt call85),tt⟩) fun _ _ _ _ _ c=>?_)
 replace c:=c.ng
 refine Bd h fun x2 hx2 h=>Cg c (Zam hx2) ⟨.f 1,.nil,tt⟩ call104 fun i1 _ _ c=>?_
 refine Fp [] 1 c fun _ c=>Esb 1 1 (L i1.1 x2 i1.2) c fun _ c=>?_
 refine E1 (bk (tn (T0 (Fp [] 2 c fun _ c=>Esb 1 0 (I (w64 (p1.Pc + 1))) c fun _ c=>?_))))
 refine E0 (T0 (Fp [(0,1)] 2 c fun _ c=>Ess 3 [I (w64 (p1.Pc + 1)),L i1.1 x2 i1.2,L ga4 p1.Mem gc5,L ga6 p1.Stack gc7,I p1.In,L ga8 p1.Out gc9,I p1.Code,I p1.Steps,L ga10 p1.Cond gc11,L ga12 p1.Turns gc13] c fun _ c=>?_))
 refine Fp [] 1 c fun _ c=>E0 ?_
 cases h
 exact wp_ret (Rg c (i1.1,i1.2,ga4,gc5,ga6,gc7,ga8,gc9,ga10,gc11,ga12,gc13) [] [8,2,3,4,5,6] (.cell (α:=Agg 9) kk (.b 3) (.tmp .nil)))
 refine P0 [] c fun _ c=>I0 c h (fun h=>?_) fun h=>?_
 refine Bd h fun x3 hx3 h=>?_
 obtain ⟨ep1,u1,c⟩:=c.elp (.f 1) hx3
 obtain ⟨a1,c1,rfl,c⟩:=c.o_Term 9
 refine YU mix (rM 10 [(8,.eq (.pointer (some ep1))),(9,.eq (tV x3 a1 c1))] [(1,1),(3,2),(5,1),(7,2)] c (fun ow=>⟨ZN ow (Nie c 8),ZN ow (Nle c 8),tt⟩) fun _ _ _ _ _ c=>?_)
 replace c:=c.ng
 refine Bd h fun x4 hx4 h=>Cg c (Zam hx4) ⟨.f 1,.f 10,tt⟩ call104 fun i2 _ _ c=>?_
 refine Fp [] 1 c fun _ c=>Esb 1 1 (L i2.1 x4 i2.2) c fun _ c=>?_
 refine E1 (bk (tn (T0 (Fp [] 2 c fun _ c=>Esb 1 0 (I (w64 (p1.Pc + 1))) c fun _ c=>?_))))
 refine E0 (T0 (Fp [(0,1)] 2 c fun _ c=>Ess 3 [I (w64 (p1.Pc + 1)),L i2.1 x4 i2.2,L ga4 p1.Mem gc5,L ga6 p1.Stack gc7,I p1.In,L ga8 p1.Out gc9,I p1.Code,I p1.Steps,L ga10 p1.Cond gc11,L ga12 p1.Turns gc13] c fun _ c=>?_))
 refine Fp [] 1 c fun _ c=>E0 ?_
 cases h
 exact wp_ret (Rg c (i2.1,i2.2,ga4,gc5,ga6,gc7,ga8,gc9,ga10,gc11,ga12,gc13) [] [11,2,3,4,5,6] (.cell (α:=Agg 9) kk (.b 3) (.tmp .nil)))
 refine P0 [] c fun _ c=>I0 c h (fun h=>?_) fun h=>?_
 refine Bd h fun x5 hx5 h=>?_
 obtain ⟨ep2,u2,c⟩:=c.elp (.f 1) hx5
 obtain ⟨a2,c2,rfl,c⟩:=c.o_Term 9
 refine Bd h fun x6 hx6 h=>?_
 obtain ⟨ep3,u3,c⟩:=c.elp (.f 1) hx6
 obtain ⟨a3,c3,rfl,c⟩:=c.o_Term 12
 refine Bd h fun x7 hx7 h=>S0 (Jn (fun i:Oh=>([(4,B b2 0),(5,B b3 0),(6,B b4 0),(8,.bool x7.2),(9,B b5 0),(10,I (w64 (p1.Pc + 1)))],fun Γ=>Γ.set 4 (BX b5 75 (tC x7.1 i.1 i.2)),[lR i.1 x7.1.Kids i.2])) c ?_ fun i6 _ _ c=>?_)
 refine As mix c fun _ c=>?_
 replace c:=Cx.frs [(3,B b1 0),(4,B b2 0),(5,B b3 0),(6,B b4 0),(9,B b5 0),(10,I (w64 (p1.Pc + 1)))] c
 refine Dq (fun i:Oh=>([(4,B b2 0),(5,B b3 0),(6,B b4 0),(9,B b5 0),(10,I (w64 (p1.Pc + 1))),(45,.tuple #[tV x7.1 i.1 i.2,.bool x7.2])],fun Γ=>Γ.set 4 (BX b5 75 (tC x7.1 i.1 i.2)),[lR i.1 x7.1.Kids i.2])) (bN 21 786431) (fun i=>[(18,63,.bool x7.2),(20,8,.bool x7.2)]) c (fun i5=>?_) fun hd2=>?_
 obtain ⟨a5,c5⟩:=i5
 refine qnE ⟨qP [],qP [],tt⟩ fun _ _ c=>?_
 exact nN (a5,c5) (c.rk (rg 5) (rg 15))
 refine Dq (fun i:Oh=>([(4,B b2 0),(5,B b3 0),(6,B b4 0),(9,B b5 0),(10,I (w64 (p1.Pc + 1))),(61,.tuple #[tV x7.1 i.1 i.2,.bool x7.2])],id,[lR i.1 x7.1.Kids i.2])) (bN 21 65535) (fun i=>[(16,45,.tuple #[tV x7.1 i.1 i.2,.bool x7.2]),(17,62,tV x7.1 i.1 i.2),(18,63,.bool x7.2)]) c (fun i4=>?_) fun hd1=>?_
 obtain ⟨a4,c4⟩:=i4
 refine qn [19] ⟨qP [],qP [],qP [],tt⟩ ⟨fun _ _ c=>?_,tt⟩
 refine Zf _ rfl rfl ?_
 try simp only [l3,l4,l5,l6] at c
 refine Ess 4 (tC x7.1 a4 c4) c fun _ c=>?_
 refine E0 (nQ hd2 (a4,c4) (c.rk (rg 5) (rg 15)))
 refine q0 (qs:=[(0,46,gV p0 ga0 gc1),(1,47,B b3 3),(2,48,I p2.C),(3,49,B b2 1),(4,50,L ga2 p1.Regs gc3),(5,51,B b3 1),(6,52,I p2.A),(7,53,.pointer (some ep2)),(8,54,tV x5 a2 c2),(9,55,B b2 1),(10,56,L ga2 p1.Regs gc3),(11,57,B b3 2),(12,58,I p2.B),(13,59,.pointer (some ep3)),(14,60,tV x6 a3 c3)]) c (qn [15] ⟨qP [(0,0)],qP [],qP [(0,2)],qP [],qP [(0,1)],qP [],qP [(0,2)],qI 8,qL 8,qP [],qP [(0,1)],qP [],qP [(0,2)],qI 11,qL 11,tt⟩ ⟨fun _ _ c=>?_,tt⟩)
 refine Zf _ rfl rfl ?_
 try simp only [l3,l4,l5,l6] at c
 replace c:=c.ng
 refine Cg c (Zes hx7) ⟨.f 0,.f 10,.f 13,tt⟩ call105 fun i3 _ _ c=>?_
 refine E0 (nQ hd1 (i3.1,i3.2) (c.rk (rg 5) (rg 15)))
 obtain ⟨a6,c6⟩:=i6
 refine T1 (Fp [(1,1),(3,2),(4,4)] 5 c fun _ c=>Bd h fun x8 hx8 h=>Cg c (Zam hx8) ⟨.f 1,.f 14,tt⟩ call104 fun i7 _ _ c=>?_)
 refine Fp [] 1 c fun _ c=>Esb 1 1 (L i7.1 x8 i7.2) c fun _ c=>?_
 refine E1 (bk (tn (T0 (Fp [] 2 c fun _ c=>Esb 1 0 (I (w64 (p1.Pc + 1))) c fun _ c=>?_))))
 refine E0 (T0 (Fp [(0,1)] 2 c fun _ c=>Ess 3 [I (w64 (p1.Pc + 1)),L i7.1 x8 i7.2,L ga4 p1.Mem gc5,L ga6 p1.Stack gc7,I p1.In,L ga8 p1.Out gc9,I p1.Code,I p1.Steps,L ga10 p1.Cond gc11,L ga12 p1.Turns gc13] c fun _ c=>?_))
 refine Fp [] 1 c fun _ c=>E0 ?_
 cases h
 exact wp_ret (Rg c (i7.1,i7.2,ga4,gc5,ga6,gc7,ga8,gc9,ga10,gc11,ga12,gc13) [] [15,2,3,4,5,6] (.cell (α:=Agg 9) kk (.b 3) (.tmp .nil)))
 refine P0 [] c fun _ c=>I0 c h (fun h=>?_) fun h=>?_
 refine Bd h fun x9 hx9 h=>?_
 obtain ⟨ep4,u4,c⟩:=c.elp (.f 1) hx9
 obtain ⟨a7,c7,rfl,c⟩:=c.o_Term 9
 refine Bd h fun x10 hx10 h=>S0 (Jn (fun i:Oh=>([(4,B b2 0),(5,B b3 0),(6,B b4 0),(8,.bool x10.2),(9,B b5 0),(10,I (w64 (p1.Pc + 1)))],fun Γ=>Γ.set 4 (BX b5 75 (tC x10.1 i.1 i.2)),[lR i.1 x10.1.Kids i.2])) c ?_ fun i12 _ _ c=>?_)
 refine As mix c fun _ c=>?_
 replace c:=Cx.frs [(3,B b1 0),(4,B b2 0),(5,B b3 0),(6,B b4 0),(9,B b5 0),(10,I (w64 (p1.Pc + 1)))] c
 refine Dq (fun i:Oh=>([(4,B b2 0),(5,B b3 0),(6,B b4 0),(9,B b5 0),(10,I (w64 (p1.Pc + 1))),(73,.tuple #[tV x10.1 i.1 i.2,.bool x10.2])],fun Γ=>Γ.set 4 (BX b5 75 (tC x10.1 i.1 i.2)),[lR i.1 x10.1.Kids i.2])) (bN 15 12287) (fun i=>[(12,85,.bool x10.2),(14,8,.bool x10.2)]) c (fun i11=>?_) fun hd5=>?_
 obtain ⟨a11,c11⟩:=i11
 refine qnE ⟨qP [],qP [],tt⟩ fun _ _ c=>?_
 exact nN (a11,c11) (c.rk (rg 5) (rg 12))
 refine Dq (fun i:Oh=>([(4,B b2 0),(5,B b3 0),(6,B b4 0),(9,B b5 0),(10,I (w64 (p1.Pc + 1))),(83,.tuple #[tV x10.1 i.1 i.2,.bool x10.2])],id,[lR i.1 x10.1.Kids i.2])) (bN 15 1023) (fun i=>[(10,73,.tuple #[tV x10.1 i.1 i.2,.bool x10.2]),(11,84,tV x10.1 i.1 i.2),(12,85,.bool x10.2)]) c (fun i10=>?_) fun hd4=>?_
 obtain ⟨a10,c10⟩:=i10
 refine qn [13] ⟨qP [],qP [],qP [],tt⟩ ⟨fun _ _ c=>?_,tt⟩
 refine Zf _ rfl rfl ?_
 try simp only [l3,l4,l5,l6] at c
 refine Ess 4 (tC x10.1 a10 c10) c fun _ c=>?_
 refine E0 (nQ hd5 (a10,c10) (c.rk (rg 5) (rg 12)))
 refine Dq (fun i:Oh=>([(3,B b1 0),(4,B b2 0),(5,B b3 0),(6,B b4 0),(9,B b5 0),(10,I (w64 (p1.Pc + 1))),(82,L i.1 [x9] i.2)],fun Γ=>Γ ++ [sl75 (L i.1 [x9] i.2) [(tR x9 a7 c7)]],[CS [(tR x9 a7 c7)] [x9]])) (bN 15 508) (fun i=>[(0,74,B b1 0),(1,75,I p0.W)]) c (fun i8=>?_) fun hd3=>?_
 obtain ⟨a9,c9⟩:=i8
 refine qn [9] ⟨qP [],qP [(0,0)],tt⟩ ⟨fun _ _ c=>?_,tt⟩
 refine Zf _ rfl rfl ?_
 try simp only [l3,l4,l5,l6] at c
 replace c:=c.fzr 5 11
 refine Cg c (ZM hx10) ⟨.f 12,tt⟩ call94 fun i9 _ _ c=>?_
 refine E0 (nQ hd4 (i9.1,i9.2) (c.rk (rg 5) [0,1,2,3,4,5,6,7,8,9,10,13]))
 refine q0 (qs:=[(0,74,B b1 0),(1,75,I p0.W),(2,76,B b2 1),(3,77,L ga2 p1.Regs gc3),(4,78,B b3 1),(5,79,I p2.A),(6,80,.pointer (some ep4)),(7,81,tV x9 a7 c7)]) c (qn [8] ⟨qP [],qP [(0,0)],qP [],qP [(0,1)],qP [],qP [(0,2)],qI 8,qL 8,tt⟩ ⟨fun _ _ c=>?_,tt⟩)
 refine Zf _ rfl rfl ?_
 replace c:=c.nf
 refine Eltr 75 [(tR x9 a7 c7)] [x9] c ⟨(Ava.mk_Term x9 (.f 10)),tt⟩ fun a8 c8 _ _ c=>?_
 refine E0 (nQ hd3 (a8,c8) (c.rk (rg 6) (rg 12)))
 obtain ⟨a12,c12⟩:=i12
 refine T1 (Fp [(1,1),(3,2),(4,4)] 5 c fun _ c=>Bd h fun x11 hx11 h=>Cg c (Zam hx11) ⟨.f 1,.f 11,tt⟩ call104 fun i13 _ _ c=>?_)
 refine Fp [] 1 c fun _ c=>Esb 1 1 (L i13.1 x11 i13.2) c fun _ c=>?_
 refine E1 (bk (tn (T0 (Fp [] 2 c fun _ c=>Esb 1 0 (I (w64 (p1.Pc + 1))) c fun _ c=>?_))))
 refine E0 (T0 (Fp [(0,1)] 2 c fun _ c=>Ess 3 [I (w64 (p1.Pc + 1)),L i13.1 x11 i13.2,L ga4 p1.Mem gc5,L ga6 p1.Stack gc7,I p1.In,L ga8 p1.Out gc9,I p1.Code,I p1.Steps,L ga10 p1.Cond gc11,L ga12 p1.Turns gc13] c fun _ c=>?_))
 refine Fp [] 1 c fun _ c=>E0 ?_
 cases h
 exact wp_ret (Rg c (i13.1,i13.2,ga4,gc5,ga6,gc7,ga8,gc9,ga10,gc11,ga12,gc13) [] [12,2,3,4,5,6] (.cell (α:=Agg 9) kk (.b 3) (.tmp .nil)))
 refine P0 [] c fun _ c=>I0 c h (fun h=>?_) fun h=>?_
 refine Bd h fun x12 hx12 h=>Bd h fun x13 hx13 h=>Bd h fun x14 hx14 h=>S0 (YU mix (rM 11 [(8,.eq (Str.val x12)),(9,.eq (Str.val x13)),(10,.eq (.agg #[I x14.Op,I x14.W,I x14.N,Str.val x14.Name,L0]))] [(1,1),(3,2),(5,0),(7,1)] c (fun ow=>⟨ZN ow (Ncl c (kN (ZdF hx12)) ⟨.f 7,tt⟩ call107),ZN ow (Ncat c (kN hx13)),ZN ow (Ncl c (kN (Ze5 hx14)) tt call106),tt⟩) fun _ _ _ _ _ c=>?_))
 replace c:=c.nf
 refine Bd h fun x15 hx15 h=>Cg c (Zam hx15) ⟨.f 1,.nil,tt⟩ call104 fun i14 _ _ c=>?_
 refine Fp [] 1 c fun _ c=>Esb 1 1 (L i14.1 x15 i14.2) c fun _ c=>?_
 refine E0 (T1 (Fp [(1,1)] 4 c fun _ c=>Esb 1 4 (I (w64 (p1.In + 1))) c fun _ c=>?_))
 refine E1 (bk (tn (T0 (Fp [] 2 c fun _ c=>Esb 1 0 (I (w64 (p1.Pc + 1))) c fun _ c=>?_))))
 refine E0 (T0 (Fp [(0,1)] 2 c fun _ c=>Ess 3 [I (w64 (p1.Pc + 1)),L i14.1 x15 i14.2,L ga4 p1.Mem gc5,L ga6 p1.Stack gc7,I (w64 (p1.In + 1)),L ga8 p1.Out gc9,I p1.Code,I p1.Steps,L ga10 p1.Cond gc11,L ga12 p1.Turns gc13] c fun _ c=>?_))
 refine Fp [] 1 c fun _ c=>E0 ?_
 cases h
 exact wp_ret (Rg c (i14.1,i14.2,ga4,gc5,ga6,gc7,ga8,gc9,ga10,gc11,ga12,gc13) [] [8,2,3,4,5,6] (.cell (α:=Agg 9) kk (.b 3) (.tmp .nil)))
 refine P0 [] c fun _ c=>I0 c h (fun h=>?_) fun h=>?_
 refine Bd h fun x16 hx16 h=>?_
 obtain ⟨ep5,u5,c⟩:=c.elp (.f 1) hx16
 obtain ⟨a13,c13,rfl,c⟩:=c.o_Term 9
 refine YU mix (rM 8 [(6,.eq (.pointer (some ep5))),(7,.eq (tV x16 a13 c13))] [(1,1),(3,1),(5,2)] c (fun ow=>⟨ZN ow (Nie c 8),ZN ow (Nle c 8),tt⟩) fun _ _ _ _ _ c=>?_)
 replace c:=c.nf
 refine Bd h fun x17 hx17 h=>Cg c (Zc1 hx17) ⟨.f 4,.f 10,tt⟩ call95 fun i15 _ _ c=>?_
 refine Fp [] 1 c fun _ c=>Esb 1 5 (L i15.1 x17 i15.2) c fun _ c=>?_
 refine E1 (bk (tn (T0 (Fp [] 2 c fun _ c=>Esb 1 0 (I (w64 (p1.Pc + 1))) c fun _ c=>?_))))
 refine E0 (T0 (Fp [(0,1)] 2 c fun _ c=>Ess 3 [I (w64 (p1.Pc + 1)),L ga2 p1.Regs gc3,L ga4 p1.Mem gc5,L ga6 p1.Stack gc7,I p1.In,L i15.1 x17 i15.2,I p1.Code,I p1.Steps,L ga10 p1.Cond gc11,L ga12 p1.Turns gc13] c fun _ c=>?_))
 refine Fp [] 1 c fun _ c=>E0 ?_
 cases h
 exact wp_ret (Rg c (ga2,gc3,ga4,gc5,ga6,gc7,i15.1,i15.2,ga10,gc11,ga12,gc13) [] [1,2,3,11,5,6] (.cell (α:=Agg 9) kk (.b 3) (.tmp .nil)))
 refine P0 [] c fun _ c=>I0 c h (fun h=>?_) fun h=>?_
 refine Bd h fun x18 hx18 h=>?_
 obtain ⟨ep6,u6,c⟩:=c.elp (.f 1) hx18
 obtain ⟨a14,c14,rfl,c⟩:=c.o_Term 9
 refine Bd h fun x19 hx19 h=>S0 (Jn (fun i:Oh=>([(4,B b2 0),(5,B b3 0),(6,B b4 0),(8,.bool x19.2),(9,B b5 0),(10,I (w64 (p1.Pc + 1)))],fun Γ=>Γ.set 4 (BX b5 75 (tC x19.1 i.1 i.2)),[lR i.1 x19.1.Kids i.2])) c ?_ fun i19 _ _ c=>?_)
 refine As mix c fun _ c=>?_
 replace c:=Cx.frs [(3,B b1 0),(4,B b2 0),(5,B b3 0),(6,B b4 0),(9,B b5 0),(10,I (w64 (p1.Pc + 1)))] c
 refine Dq (fun i:Oh=>([(4,B b2 0),(5,B b3 0),(6,B b4 0),(9,B b5 0),(10,I (w64 (p1.Pc + 1))),(126,.tuple #[tV x19.1 i.1 i.2,.bool x19.2])],fun Γ=>Γ.set 4 (BX b5 75 (tC x19.1 i.1 i.2)),[lR i.1 x19.1.Kids i.2])) (bN 14 6143) (fun i=>[(11,137,.bool x19.2),(13,8,.bool x19.2)]) c (fun i18=>?_) fun hd7=>?_
 obtain ⟨a16,c16⟩:=i18
 refine qnE ⟨qP [],qP [],tt⟩ fun _ _ c=>?_
 exact nN (a16,c16) (c.rk (rg 5) (rg 12))
 refine Dq (fun i:Oh=>([(4,B b2 0),(5,B b3 0),(6,B b4 0),(9,B b5 0),(10,I (w64 (p1.Pc + 1))),(135,.tuple #[tV x19.1 i.1 i.2,.bool x19.2])],id,[lR i.1 x19.1.Kids i.2])) (bN 14 511) (fun i=>[(9,126,.tuple #[tV x19.1 i.1 i.2,.bool x19.2]),(10,136,tV x19.1 i.1 i.2),(11,137,.bool x19.2)]) c (fun i17=>?_) fun hd6=>?_
 obtain ⟨a15,c15⟩:=i17
 refine qn [12] ⟨qP [],qP [],qP [],tt⟩ ⟨fun _ _ c=>?_,tt⟩
 refine Zf _ rfl rfl ?_
 try simp only [l3,l4,l5,l6] at c
 refine Ess 4 (tC x19.1 a15 c15) c fun _ c=>?_
 refine E0 (nQ hd7 (a15,c15) (c.rk (rg 5) (rg 12)))
 refine q0 (qs:=[(0,127,gV p0 ga0 gc1),(1,128,pV p1 ga2 gc3 ga4 gc5 ga6 gc7 ga8 gc9 ga10 gc11 ga12 gc13),(2,129,B b2 1),(3,130,L ga2 p1.Regs gc3),(4,131,B b3 2),(5,132,I p2.B),(6,133,.pointer (some ep6)),(7,134,tV x18 a14 c14)]) c (qn [8] ⟨qP [(0,0)],qP [(0,1)],qP [],qP [(0,1)],qP [],qP [(0,2)],qI 8,qL 8,tt⟩ ⟨fun _ _ c=>?_,tt⟩)
 refine Zf _ rfl rfl ?_
 replace c:=c.nf
 refine Cg c (Zfl (ga2:=ga2) (gc3:=gc3) (ga6:=ga6) (gc7:=gc7) (ga8:=ga8) (gc9:=gc9) (ga10:=ga10) (gc11:=gc11) (ga12:=ga12) (gc13:=gc13) hx19) ⟨.f 0,.f 2,.f 10,tt⟩ call108 fun i16 _ _ c=>?_
 refine E0 (nQ hd6 (i16.1,i16.2) (c.rk (rg 5) (rg 12)))
 obtain ⟨a17,c17⟩:=i19
 refine T1 (Fp [(1,1),(3,2),(4,4)] 5 c fun _ c=>Bd h fun x20 hx20 h=>Cg c (Zam hx20) ⟨.f 1,.f 11,tt⟩ call104 fun i20 _ _ c=>?_)
 refine Fp [] 1 c fun _ c=>Esb 1 1 (L i20.1 x20 i20.2) c fun _ c=>?_
 refine E1 (bk (tn (T0 (Fp [] 2 c fun _ c=>Esb 1 0 (I (w64 (p1.Pc + 1))) c fun _ c=>?_))))
 refine E0 (T0 (Fp [(0,1)] 2 c fun _ c=>Ess 3 [I (w64 (p1.Pc + 1)),L i20.1 x20 i20.2,L ga4 p1.Mem gc5,L ga6 p1.Stack gc7,I p1.In,L ga8 p1.Out gc9,I p1.Code,I p1.Steps,L ga10 p1.Cond gc11,L ga12 p1.Turns gc13] c fun _ c=>?_))
 refine Fp [] 1 c fun _ c=>E0 ?_
 cases h
 exact wp_ret (Rg c (i20.1,i20.2,ga4,gc5,ga6,gc7,ga8,gc9,ga10,gc11,ga12,gc13) [] [12,2,3,4,5,6] (.cell (α:=Agg 9) kk (.b 3) (.tmp .nil)))
 refine P0 [] c fun _ c=>I0 c h (fun h=>?_) fun h=>?_
 refine Bd h fun x21 hx21 h=>?_
 obtain ⟨ep7,u7,c⟩:=c.elp (.f 1) hx21
 obtain ⟨a18,c18,rfl,c⟩:=c.o_Term 9
 refine Bd h fun x22 hx22 h=>?_
 obtain ⟨ep8,u8,c⟩:=c.elp (.f 1) hx22
 obtain ⟨a19,c19,rfl,c⟩:=c.o_Term 12
 refine Bd h fun x23 hx23 h=>Tq (Jn (fun i:Oh=>([(4,B b2 0),(6,B b4 0),(8,.bool x23.2),(10,I (w64 (p1.Pc + 1)))],fun Γ=>Γ.set 1 (BX b2 29 [I p1.Pc,L ga2 p1.Regs gc3,L i.1 x23.1 i.2,L ga6 p1.Stack gc7,I p1.In,L ga8 p1.Out gc9,I p1.Code,I p1.Steps,L ga10 p1.Cond gc11,L ga12 p1.Turns gc13]),[lR i.1 x23.1 i.2])) c ?_ fun i24 _ _ c=>?_)
 refine As mix c fun _ c=>?_
 replace c:=Cx.frs [(3,B b1 0),(4,B b2 0),(5,B b3 0),(6,B b4 0),(10,I (w64 (p1.Pc + 1)))] c
 refine Dq (fun i:Oh=>([(4,B b2 0),(6,B b4 0),(10,I (w64 (p1.Pc + 1))),(147,.tuple #[L i.1 x23.1 i.2,.bool x23.2])],fun Γ=>Γ.set 1 (BX b2 29 [I p1.Pc,L ga2 p1.Regs gc3,L i.1 x23.1 i.2,L ga6 p1.Stack gc7,I p1.In,L ga8 p1.Out gc9,I p1.Code,I p1.Steps,L ga10 p1.Cond gc11,L ga12 p1.Turns gc13]),[lR i.1 x23.1 i.2])) (bN 21 917503) (fun i=>[(17,164,.bool x23.2),(20,8,.bool x23.2)]) c (fun i23=>?_) fun hd9=>?_
 obtain ⟨a21,c21⟩:=i23
 refine qnE ⟨qP [],qP [],tt⟩ fun _ _ c=>?_
 exact nN (a21,c21) (c.rk (rg 5) (rg 15))
 refine Dq (fun i:Oh=>([(4,B b2 0),(6,B b4 0),(10,I (w64 (p1.Pc + 1))),(162,.tuple #[L i.1 x23.1 i.2,.bool x23.2])],id,[lR i.1 x23.1 i.2])) (bN 21 32767) (fun i=>[(15,147,.tuple #[L i.1 x23.1 i.2,.bool x23.2]),(16,163,L i.1 x23.1 i.2),(17,164,.bool x23.2),(18,165,B b2 2)]) c (fun i22=>?_) fun hd8=>?_
 obtain ⟨a20,c20⟩:=i22
 refine qn [19] ⟨qP [],qP [],qP [],qP [],tt⟩ ⟨fun _ _ c=>?_,tt⟩
 refine Zf _ rfl rfl ?_
 try simp only [l3,l4,l5,l6] at c
 refine Esb 1 2 (L a20 x23.1 c20) c fun _ c=>?_
 refine E0 (nQ hd9 (a20,c20) (c.rk (rg 5) (rg 15)))
 refine q0 (qs:=[(0,148,gV p0 ga0 gc1),(1,149,pV p1 ga2 gc3 ga4 gc5 ga6 gc7 ga8 gc9 ga10 gc11 ga12 gc13),(2,150,B b2 1),(3,151,L ga2 p1.Regs gc3),(4,152,B b3 1),(5,153,I p2.A),(6,154,.pointer (some ep7)),(7,155,tV x21 a18 c18),(8,156,B b2 1),(9,157,L ga2 p1.Regs gc3),(10,158,B b3 2),(11,159,I p2.B),(12,160,.pointer (some ep8)),(13,161,tV x22 a19 c19)]) c (qn [14] ⟨qP [(0,0)],qP [(0,1)],qP [],qP [(0,1)],qP [],qP [(0,2)],qI 8,qL 8,qP [],qP [(0,1)],qP [],qP [(0,2)],qI 11,qL 11,tt⟩ ⟨fun _ _ c=>?_,tt⟩)
 refine Zf _ rfl rfl ?_
 try simp only [l3,l4,l5,l6] at c
 replace c:=c.nf
 refine Cg c (ZeM (ga2:=ga2) (gc3:=gc3) (ga6:=ga6) (gc7:=gc7) (ga8:=ga8) (gc9:=gc9) (ga10:=ga10) (gc11:=gc11) (ga12:=ga12) (gc13:=gc13) hx23) ⟨.f 0,.f 2,.f 10,.f 13,tt⟩ call109 fun i21 _ _ c=>?_
 refine E0 (nQ hd8 (i21.1,i21.2) (c.rk (rg 5) (rg 15)))
 obtain ⟨a22,c22⟩:=i24
 refine bk (tn (T0 (Fp [] 2 c fun _ c=>Esb 1 0 (I (w64 (p1.Pc + 1))) c fun _ c=>?_)))
 refine E0 (T0 (Fp [(0,1)] 2 c fun _ c=>Ess 3 [I (w64 (p1.Pc + 1)),L ga2 p1.Regs gc3,L a22 x23.1 c22,L ga6 p1.Stack gc7,I p1.In,L ga8 p1.Out gc9,I p1.Code,I p1.Steps,L ga10 p1.Cond gc11,L ga12 p1.Turns gc13] c fun _ c=>?_))
 refine Fp [] 1 c fun _ c=>E0 ?_
 cases h
 exact wp_ret (Rg c (ga2,gc3,a22,c22,ga6,gc7,ga8,gc9,ga10,gc11,ga12,gc13) [] [1,14,3,4,5,6] (.cell (α:=Agg 9) kk (.b 3) (.tmp .nil)))
 refine P0 [] c fun _ c=>I0 c h (fun h=>?_) fun h=>?_
 refine Tq (P1 [(1,2)] c fun _ c=>bk (tn (T0 (Fp [] 2 c fun _ c=>?_))))
 replace c:=c.nf
 refine Esb 1 0 (I p2.B) c fun _ c=>?_
 refine E0 (T0 (Fp [(0,1)] 2 c fun _ c=>Ess 3 [I p2.B,L ga2 p1.Regs gc3,L ga4 p1.Mem gc5,L ga6 p1.Stack gc7,I p1.In,L ga8 p1.Out gc9,I p1.Code,I p1.Steps,L ga10 p1.Cond gc11,L ga12 p1.Turns gc13] c fun _ c=>?_))
 refine Fp [] 1 c fun _ c=>E0 ?_
 cases h
 exact wp_ret (Rg c (ga2,gc3,ga4,gc5,ga6,gc7,ga8,gc9,ga10,gc11,ga12,gc13) [] [1,2,3,4,5,6] (.cell (α:=Agg 9) kk (.b 3) (.tmp .nil)))
 refine P0 [] c fun _ c=>I0 c h (fun h=>?_) fun h=>?_
 refine T0 (Fp [(1,1)] 3 c fun _ c=>?_)
 replace c:=c.nf
 refine Bd h fun x24 hx24 h=>Cb c (Zcz hx24) ⟨.f 3,tt⟩ call96 fun i25 _ _ c=>?_
 refine Fp [] 1 c fun _ c=>Esb 1 3 (L i25.1 x24 i25.2) c fun _ c=>?_
 refine E0 (Tq (P1 [(1,2)] c fun _ c=>bk (tn (T0 (Fp [] 2 c fun _ c=>Esb 1 0 (I p2.B) c fun _ c=>?_)))))
 refine E0 (T0 (Fp [(0,1)] 2 c fun _ c=>?_))
 replace c:=c.ng
 refine Ess 3 [I p2.B,L ga2 p1.Regs gc3,L ga4 p1.Mem gc5,L i25.1 x24 i25.2,I p1.In,L ga8 p1.Out gc9,I p1.Code,I p1.Steps,L ga10 p1.Cond gc11,L ga12 p1.Turns gc13] c fun _ c=>?_
 refine Fp [] 1 c fun _ c=>E0 ?_
 replace c:=c.fz 5
 cases h
 exact wp_ret (Rg c (ga2,gc3,ga4,gc5,i25.1,i25.2,ga8,gc9,ga10,gc11,ga12,gc13) [] [1,2,8,4,5,6] (.cell (α:=Agg 9) kk (.b 3) (.tmp .nil)))
 refine P0 [] c fun _ c=>I0 c h (fun h=>?_) fun h=>?_
 refine T0 (Fp [(1,1),(3,1)] 6 c fun _ c=>?_)
 replace c:=c.nf
 refine Bd h fun x25 hx25 h=>Eel c (.f 3) hx25 fun _ _ c=>?_
 refine Fp [] 1 c fun _ c=>E0 (T1 (Fp [(1,1),(3,1)] 6 c fun _ c=>Bd h fun x26 hx26 h=>Esl 3 c (.f 3) hx26 fun u9 _ c=>?_))
 obtain ⟨a23,c23,rfl⟩:=c.sl 8
 refine Bd h fun x27 hx27 h=>Cb c (YA hx27) ⟨.f 8,tt⟩ call64 fun i26 _ _ c=>?_
 refine Fp [] 1 c fun _ c=>Esb 1 3 (L i26.1 x27 i26.2) c fun _ c=>?_
 refine E1 (bk (tn (T0 (Fp [] 2 c fun _ c=>?_))))
 replace c:=c.ng
 refine Esb 1 0 (I x25) c fun _ c=>?_
 refine E0 (T0 (Fp [(0,1)] 2 c fun _ c=>Ess 3 [I x25,L ga2 p1.Regs gc3,L ga4 p1.Mem gc5,L i26.1 x27 i26.2,I p1.In,L ga8 p1.Out gc9,I p1.Code,I p1.Steps,L ga10 p1.Cond gc11,L ga12 p1.Turns gc13] c fun _ c=>?_))
 refine Fp [] 1 c fun _ c=>E0 ?_
 replace c:=c.fz 5
 cases h
 exact wp_ret (Rg c (ga2,gc3,ga4,gc5,i26.1,i26.2,ga8,gc9,ga10,gc11,ga12,gc13) [] [1,2,9,4,5,6] (.cell (α:=Agg 9) kk (.b 3) (.tmp .nil)))
 refine P0 [] c fun _ c=>I0 c h (fun h=>?_) fun h=>?_
 refine T0 (Fp [] 1 c fun _ c=>?_)
 replace c:=c.nf
 refine Esb 1 6 (I 1) c fun _ c=>?_
 refine E0 (T0 (Fp [(0,1)] 1 c fun _ c=>Ess 3 [I p1.Pc,L ga2 p1.Regs gc3,L ga4 p1.Mem gc5,L ga6 p1.Stack gc7,I p1.In,L ga8 p1.Out gc9,I 1,I p1.Steps,L ga10 p1.Cond gc11,L ga12 p1.Turns gc13] c fun _ c=>?_))
 refine Fp [] 1 c fun _ c=>E0 ?_
 cases h
 exact wp_ret (br (tr (Rg c (ga2,gc3,ga4,gc5,ga6,gc7,ga8,gc9,ga10,gc11,ga12,gc13) [] [1,2,3,4,5,6] (.cell (α:=Agg 9) kk (.b 3) (.tmp .nil)))))
 refine K1 (bk (tn (T0 (Fp [] 2 c fun _ c=>?_))))
 replace c:=c.nf
 refine Esb 1 0 (I (w64 (p1.Pc + 1))) c fun _ c=>?_
 refine E0 (T0 (Fp [(0,1)] 2 c fun _ c=>Ess 3 [I (w64 (p1.Pc + 1)),L ga2 p1.Regs gc3,L ga4 p1.Mem gc5,L ga6 p1.Stack gc7,I p1.In,L ga8 p1.Out gc9,I p1.Code,I p1.Steps,L ga10 p1.Cond gc11,L ga12 p1.Turns gc13] c fun _ c=>?_))
 refine Fp [] 1 c fun _ c=>E0 ?_
 cases h
 exact wp_ret (Rg c (ga2,gc3,ga4,gc5,ga6,gc7,ga8,gc9,ga10,gc11,ga12,gc13) [] [1,2,3,4,5,6] (.cell (α:=Agg 9) kk (.b 3) (.tmp .nil)))
end Go.Proofs.YtginipeibmnikaaGreatDoor
