/- The walks, printed by a program. -/
import Derived.Test.YthbfkjiiibfomaaGreatDoorWlkA
set_option linter.unusedVariables false
set_option linter.unusedSimpArgs false
set_option maxRecDepth 100000
set_option maxHeartbeats 40000000
namespace Go.Proofs.YthbfkjiiibfomaaGreatDoor
open Go.GL Go.Maps Go.WideMaps Tryz
variable {n:Nat} {ga0 ga2 ga4 ga5 ga6 ga7 ga8 ga9 ga10 ga11 ga12 ga13 ga14:Option Addr} {gc1 gc3 gc5 gc6 gc7 gc8 gc9 gc10 gc11 gc12 gc13 gc14 gc15:Nat}
theorem ZeK {p0 p1 r} (h:XI n p0 p1 = some r):Cl 20 [gV p0 ga0 gc1,pV p1 ga2 gc3 ga4 gc5 ga6 gc7 ga8 gc9 ga10 gc11 ga12 gc13] [lR ga0 p0.Code gc1,lR ga2 p1.Regs gc3,lR ga4 p1.Mem gc5,lR ga6 p1.Stack gc7,lR ga8 p1.Out gc9,lR ga10 p1.Cond gc11,lR ga12 p1.Turns gc13] r:=by
 unfold XI at h
 refine En func20 rfl ntmps20 fun _ fr w c=>?_
 refine T0 (Ebx (gC p0 ga0 gc1) c fun b1 _ _ c=>?_)
 refine Ebx (pC p1 ga2 gc3 ga4 gc5 ga6 gc7 ga8 gc9 ga10 gc11 ga12 gc13) c fun b2 _ _ c=>?_
 refine Fp [] 1 c fun _ c=>E0 (S0 (S0 (Ry [(1,1),(5,1)] mix c fun _ _ c=>I0 c h (fun h=>?_) fun h=>?_)))
 refine P0 [] c fun _ c=>?_
 cases h
 replace c:=c.nilf (α:=D.Path)
 exact wp_ret (tr (Rt c (none,0) [] [7]))
 refine K0 (T0 (Fp [(0,1)] 1 c fun _ c=>Bd h fun x1 hx1 h=>Cg c (Xo hx1) ⟨.f 1,.f 2,.f 3,.f 4,.f 5,.f 6,tt⟩ call36 fun i1 _ _ c=>?_))
 replace c:=c.ng
 refine Ess 1 (pC x1 i1.1 i1.2.1 i1.p3 i1.p4 i1.p6 i1.p7 i1.p8 i1.p9 i1.p11 i1.p12 i1.p14 i1.q15) c fun _ c=>?_
 refine E0 (S0 (P0 [(1,1),(3,0)] c fun _ c=>I0 c h (fun h=>?_) fun h=>?_))
 refine T0 (Fp [] 1 c fun _ c=>Esb 1 6 (I 2) c fun _ c=>?_)
 refine E0 (T0 (Fp [(0,1)] 1 c fun _ c=>?_))
 replace c:=c.fzr 2 7
 replace c:=c.fzr 2 8
 replace c:=c.fz 2
 replace c:=c.fzr 2 9
 replace c:=c.fzr 2 10
 replace c:=c.fz 2
 refine Eltr 29 ([(Rw.Path.mk x1.Pc (hd i1.1 x1.Regs i1.2.1) (hd i1.p3 x1.Mem i1.p4) (hd i1.p6 x1.Stack i1.p7) x1.In (hd i1.p8 x1.Out i1.p9) 2 x1.Steps (hd i1.p11 x1.Cond i1.p12) (hd i1.p14 x1.Turns i1.q15))]:List Rw.Path) ([(D.Path.mk x1.Pc x1.Regs x1.Mem x1.Stack x1.In x1.Out 2 x1.Steps x1.Cond x1.Turns)]:List D.Path) c ⟨(Ava.mk_Path (D.Path.mk x1.Pc x1.Regs x1.Mem x1.Stack x1.In x1.Out 2 x1.Steps x1.Cond x1.Turns) (.f 11) (.f 12) (.f 13) (.f 14) (.f 15) (.f 16)),tt⟩ fun a1 c1 _ _ c=>?_
 refine Fp [] 1 c fun _ c=>E0 ?_
 replace c:=c.fzr 2 17
 cases h
 exact wp_ret (tr (Rt c (a1,c1) [] [18]))
 refine K0 (T0 (Fp [(1,1)] 4 c fun _ c=>Esb 1 7 (I (w64 (x1.Steps + 1))) c fun _ c=>?_))
 refine E0 (T0 (Fp [(0,1)] 1 c fun _ c=>?_))
 replace c:=c.fzr 2 7
 replace c:=c.fzr 2 8
 replace c:=c.fz 2
 replace c:=c.fzr 2 9
 replace c:=c.fzr 2 10
 replace c:=c.fz 2
 refine Bd h fun x2 hx2 h=>Cg c (Xo hx2) ⟨.f 11,.f 12,.f 13,.f 14,.f 15,.f 16,tt⟩ call36 fun i2 _ _ c=>?_
 replace c:=c.nf
 refine Eal pZ c fun b3 _ _ c=>?_
 refine Ess 8 (pC x2 i2.1 i2.2.1 i2.p3 i2.p4 i2.p6 i2.p7 i2.p8 i2.p9 i2.p11 i2.p12 i2.p14 i2.q15) c fun _ c=>?_
 refine E0 (T0 (Fp [] 1 c fun _ c=>?_))
 replace c:=c.ng
 refine Esb 8 6 (I 9) c fun _ c=>?_
 refine E0 (T0 (Fp [(1,0),(3,1)] 4 c fun _ c=>Bd h fun x3 hx3 h=>Eel c (.f 0) hx3 fun _ _ c=>?_))
 refine Eal [I 0,I 0,I 0,I 0] c fun b4 _ _ c=>?_
 replace c:=c.ng
 refine Ess 9 (nC x3) c fun _ c=>?_
 refine E0 (T0 (Fp [] 1 c fun _ c=>Ebx [.bool false] c fun b5 _ _ c=>?_))
 refine Fp [] 1 c fun _ c=>E0 (T0 (Fp [(1,0),(2,1),(3,3)] 4 c fun _ c=>?_))
 replace c:=c.ng
 refine Bd h fun x4 hx4 h=>Cf [10] c (Zck (ga5:=i1.p3) (gc6:=i1.p4) (ga7:=i1.p6) (gc8:=i1.p7) (ga9:=i1.p8) (gc10:=i1.p9) (ga11:=i1.p11) (gc12:=i1.p12) (ga13:=i1.p14) (gc14:=i1.q15) hx4) ⟨.f 0,.f 11,tt⟩ call37 fun i3 _ _ c=>?_
 refine Fp [] 3 c fun _ c=>Eal tZ c fun b6 _ _ c=>?_
 replace c:=c.nf
 refine Ess 11 (tC x4.1 i3.1 i3.2) c fun _ c=>?_
 refine Fp [] 1 c fun _ c=>E0 (S0 (P0 [(3,4)] c fun _ c=>I0 c h (fun h=>?_) fun h=>?_))
 refine T0 (Fp [(0,2)] 1 c fun _ c=>?_)
 replace c:=c.fzr 2 17
 replace c:=c.fzr 2 18
 replace c:=c.fz 2
 replace c:=c.fzr 2 19
 replace c:=c.fzr 2 20
 replace c:=c.fz 2
 refine Eltr 29 ([(Rw.Path.mk x2.Pc (hd i2.1 x2.Regs i2.2.1) (hd i2.p3 x2.Mem i2.p4) (hd i2.p6 x2.Stack i2.p7) x2.In (hd i2.p8 x2.Out i2.p9) 9 x2.Steps (hd i2.p11 x2.Cond i2.p12) (hd i2.p14 x2.Turns i2.q15))]:List Rw.Path) ([(D.Path.mk x2.Pc x2.Regs x2.Mem x2.Stack x2.In x2.Out 9 x2.Steps x2.Cond x2.Turns)]:List D.Path) c ⟨(Ava.mk_Path (D.Path.mk x2.Pc x2.Regs x2.Mem x2.Stack x2.In x2.Out 9 x2.Steps x2.Cond x2.Turns) (.f 22) (.f 23) (.f 24) (.f 25) (.f 26) (.f 27)),tt⟩ fun a2 c2 _ _ c=>?_
 refine Fp [] 1 c fun _ c=>E0 ?_
 replace c:=c.fzr 6 28
 cases h
 exact wp_ret (tr (Rt c (a2,c2) [] [29]))
 refine K0 (S0 (Bd h fun x5 hx5 h=>S0 (rZ [(4,.eq (.bool x5))] [(3,5)] mix c ⟨Ncl c (fun hg=>YA (iteF (gcF hg) hx5)) ⟨.f 21,tt⟩ call38,tt⟩ fun _ _ c=>I0 c h (fun h=>?_) fun h=>?_)))
 refine T0 (Fp [(1,0),(2,1),(3,3)] 4 c fun _ c=>Bd h fun x6 hx6 h=>Cf [10] c (XH hx6) ⟨.f 0,.f 11,.f 12,.f 13,.f 14,.f 15,.f 16,tt⟩ call39 fun i4 _ _ c=>?_)
 replace c:=c.nf
 refine Eal pZ c fun b7 _ _ c=>?_
 refine Ess 12 (pM x6.1 i4) c fun _ c=>?_
 refine E0 (S0 (P0 [(3,5)] c fun _ c=>I0 c h (fun h=>?_) fun h=>?_))
 refine T0 (Fp [(0,2)] 1 c fun _ c=>?_)
 replace c:=c.ng
 replace c:=c.fzr 2 17
 replace c:=c.fzr 2 18
 replace c:=c.fz 2
 replace c:=c.fzr 2 19
 replace c:=c.fzr 2 20
 replace c:=c.fz 2
 refine Eltr 29 ([(Rw.Path.mk x2.Pc (hd i2.1 x2.Regs i2.2.1) (hd i2.p3 x2.Mem i2.p4) (hd i2.p6 x2.Stack i2.p7) x2.In (hd i2.p8 x2.Out i2.p9) 9 x2.Steps (hd i2.p11 x2.Cond i2.p12) (hd i2.p14 x2.Turns i2.q15))]:List Rw.Path) ([(D.Path.mk x2.Pc x2.Regs x2.Mem x2.Stack x2.In x2.Out 9 x2.Steps x2.Cond x2.Turns)]:List D.Path) c ⟨(Ava.mk_Path (D.Path.mk x2.Pc x2.Regs x2.Mem x2.Stack x2.In x2.Out 9 x2.Steps x2.Cond x2.Turns) (.f 28) (.f 29) (.f 30) (.f 31) (.f 32) (.f 33)),tt⟩ fun a3 c3 _ _ c=>?_
 refine Fp [] 1 c fun _ c=>E0 ?_
 replace c:=c.fzr 7 34
 cases h
 exact wp_ret (tr (tr (Rt c (a3,c3) [] [35])))
 refine K0 (T0 (Fp [(0,6)] 1 c fun _ c=>?_))
 replace c:=c.nf
 refine Bd h fun x7 hx7 h=>Cg c (Xo hx7) ⟨.f 22,.f 23,.f 24,.f 25,.f 26,.f 27,tt⟩ call36 fun i5 _ _ c=>?_
 replace c:=c.fzr 13 28
 replace c:=c.fzr 13 29
 replace c:=c.fz 13
 replace c:=c.fzr 13 30
 replace c:=c.fzr 13 31
 replace c:=c.fz 13
 refine Eltr 29 ([(Rw.Path.mk x7.Pc (hd i5.1 x7.Regs i5.2.1) (hd i5.p3 x7.Mem i5.p4) (hd i5.p6 x7.Stack i5.p7) x7.In (hd i5.p8 x7.Out i5.p9) x7.Code x7.Steps (hd i5.p11 x7.Cond i5.p12) (hd i5.p14 x7.Turns i5.q15))]:List Rw.Path) ([x7]:List D.Path) c ⟨(Ava.mk_Path x7 (.f 32) (.f 33) (.f 34) (.f 35) (.f 36) (.f 37)),tt⟩ fun a4 c4 _ _ c=>?_
 refine Fp [] 1 c fun _ c=>E0 ?_
 replace c:=c.fzr 13 38
 cases h
 exact wp_ret (tr (Rt c (a4,c4) [] [39]))
 refine K0 (S0 (T0 (Fp [(0,5)] 1 c fun _ c=>Bd h fun x8 hx8 h=>Cb c (YA hx8) ⟨.f 21,tt⟩ call38 fun _ _ _ c=>?_)))
 refine E0 (I0 c h (fun h=>?_) fun h=>?_)
 refine T0 (Fp [(0,1),(1,3)] 2 c fun _ c=>?_)
 replace c:=c.nf
 refine Bd h fun x9 hx9 h=>Cg c (ZcS hx9) ⟨.f 11,.f 12,.f 13,.f 14,.f 15,.f 16,tt⟩ call40 fun i6 _ _ c=>?_
 refine Eltr 29 ([(Rw.Path.mk x9.Pc (hd i6.1 x9.Regs i6.2.1) (hd i6.p2 x9.Mem i6.p3) (hd i6.p4 x9.Stack i6.p5) x9.In (hd i6.p6 x9.Out i6.p7) x9.Code x9.Steps (hd i6.p8 x9.Cond i6.p9) (hd i6.p10 x9.Turns i6.q11))]:List Rw.Path) ([x9]:List D.Path) c ⟨(Ava.mk_Path x9 (.f 22) (.f 23) (.f 24) (.f 25) (.f 26) (.f 27)),tt⟩ fun a5 c5 _ _ c=>?_
 refine Fp [] 1 c fun _ c=>E0 ?_
 replace c:=c.fzr 12 28
 cases h
 exact wp_ret (tr (Rt c (a5,c5) [] [29]))
 refine K0 (T0 (Fp [(1,5)] 2 c fun _ c=>?_))
 replace c:=c.nf
 refine Eltr 62 [(tR x4.1 i3.1 i3.2)] [x4.1] c ⟨(Ava.mk_Term x4.1 (.f 21)),tt⟩ fun a6 c6 _ _ c=>?_
 replace c:=c.fzr 12 22
 refine Bd h fun x10 hx10 h=>Cf [10] c (Zo hx10) ⟨.f 23,tt⟩ call41 fun i7 _ _ c=>?_
 replace c:=c.nf
 refine Eal tZ c fun b8 _ _ c=>?_
 refine Ess 12 (tC x10.1 i7.1 i7.2) c fun _ c=>?_
 refine E0 (S0 (S0 (Ry [(3,5),(6,1),(12,1)] mix c fun _ _ c=>I0 c h (fun h=>?_) fun h=>?_)))
 refine T0 (Fp [(0,2)] 1 c fun _ c=>?_)
 replace c:=c.ng
 replace c:=c.fzr 2 17
 replace c:=c.fzr 2 18
 replace c:=c.fz 2
 replace c:=c.fzr 2 19
 replace c:=c.fzr 2 20
 replace c:=c.fz 2
 refine Eltr 29 ([(Rw.Path.mk x2.Pc (hd i2.1 x2.Regs i2.2.1) (hd i2.p3 x2.Mem i2.p4) (hd i2.p6 x2.Stack i2.p7) x2.In (hd i2.p8 x2.Out i2.p9) 9 x2.Steps (hd i2.p11 x2.Cond i2.p12) (hd i2.p14 x2.Turns i2.q15))]:List Rw.Path) ([(D.Path.mk x2.Pc x2.Regs x2.Mem x2.Stack x2.In x2.Out 9 x2.Steps x2.Cond x2.Turns)]:List D.Path) c ⟨(Ava.mk_Path (D.Path.mk x2.Pc x2.Regs x2.Mem x2.Stack x2.In x2.Out 9 x2.Steps x2.Cond x2.Turns) (.f 25) (.f 26) (.f 27) (.f 28) (.f 29) (.f 30)),tt⟩ fun a7 c7 _ _ c=>?_
 refine Fp [] 1 c fun _ c=>E0 ?_
 replace c:=c.fzr 7 31
 cases h
 exact wp_ret (tr (Rt c (a7,c7) [] [32]))
 refine K0 (Bd h fun x11 hx11 h=>Bd h fun x12 hx12 h=>S0 (Jn (fun i:Nat × Hp=>([(3,B b2 0),(5,B b3 0),(6,B b4 0),(7,B b5 0),(8,B b6 0),(12,B i.1 0)],fun Γ=>(Γ.set 11 (BX b5 68 [.bool x12.2.bad])) ++ [BX i.1 29 (pM x12.1 i.2)],(pF x12.1 i.2))) c ?_ fun i17 _ _ c=>?_))
 refine As mix c fun _ c=>?_
 replace c:=Cx.frs [(2,B b1 0),(3,B b2 0),(5,B b3 0),(6,B b4 0),(7,B b5 0),(8,B b6 0),(11,B b8 0)] c
 refine Dq (fun i:Nat × Hp=>([(3,B b2 0),(5,B b3 0),(6,B b4 0),(7,B b5 0),(8,B b6 0),(12,B i.1 0)],fun Γ=>(Γ.set 11 (BX b5 68 [.bool x12.2.bad])) ++ [BX i.1 29 (pM x12.1 i.2)],(pF x12.1 i.2))) (bN 9 511) (fun i=>[]) c (fun i16=>?_) fun hd6=>?_
 obtain ⟨b15,a32,c32,a33,c33,a34,c34,a35,c35,a36,c36,a37,c37⟩:=i16
 refine qnE tt fun _ _ c=>?_
 exact nN (b15,a32,c32,a33,c33,a34,c34,a35,c35,a36,c36,a37,c37) (c.rk (rg 14) (rg 31))
 refine Dq (fun i:Nat × Hp=>([(3,B b2 0),(5,B b3 0),(6,B b4 0),(7,B b5 0),(8,B b6 0),(12,B i.1 0),(115,pJ x12.1 i.2)],fun Γ=>(Γ.set 11 (BX b5 68 [.bool x12.2.bad])) ++ [BX i.1 29 pZ],(pF x12.1 i.2))) (bN 9 255) (fun i=>[]) c (fun i14=>?_) fun hd5=>?_
 obtain ⟨b14,a26,c26,a27,c27,a28,c28,a29,c29,a30,c30,a31,c31⟩:=i14
 refine qn [8] tt ⟨fun _ _ c=>?_,tt⟩
 refine Zf _ rfl rfl ?_
 try simp only [l3,l4,l5,l6] at c
 refine Ess 13 (pC x12.1 a26 c26 a27 c27 a28 c28 a29 c29 a30 c30 a31 c31) c fun _ c=>?_
 refine E0 (nQ hd6 (b14,a26,c26,a27,c27,a28,c28,a29,c29,a30,c30,a31,c31) (c.rk (rg 14) (rg 31)))
 refine Dq (fun i:Hp=>([(3,B b2 0),(5,B b3 0),(6,B b4 0),(7,B b5 0),(8,B b6 0),(115,pJ x12.1 i)],fun Γ=>Γ.set 11 (BX b5 68 [.bool x12.2.bad]),(pF x12.1 i))) (bN 9 127) (fun i=>[]) c (fun i11=>?_) fun hd3=>?_
 obtain ⟨a14,c14,a15,c15,a16,c16,a17,c17,a18,c18,a19,c19⟩:=i11
 refine qn [7] tt ⟨fun _ _ c=>?_,tt⟩
 refine Zf _ rfl rfl ?_
 try simp only [l3,l4,l5,l6] at c
 refine Eal pZ c fun b13 _ _ c=>?_
 refine E0 (nQ hd5 (b13,a14,c14,a15,c15,a16,c16,a17,c17,a18,c18,a19,c19) (c.rk (rg 14) (rg 31)))
 refine Dq (fun i:Nat × Hp=>([(2,B b1 0),(3,B b2 0),(5,B b3 0),(6,B b4 0),(7,B b5 0),(8,B b6 0),(12,B i.1 0),(113,pJ x11 i.2)],fun Γ=>Γ ++ [BX i.1 29 pZ],(pF x11 i.2))) (bN 9 156) (fun i=>[(0,109,B b5 0),(1,110,gV p0 ga0 gc1),(5,114,nV x3)]) c (fun i12=>?_) fun hd4=>?_
 obtain ⟨b12,a20,c20,a21,c21,a22,c22,a23,c23,a24,c24,a25,c25⟩:=i12
 refine qn [6] ⟨qP [],qP [(0,0)],qP [(0,3)],tt⟩ ⟨fun _ _ c=>?_,tt⟩
 refine Zf _ rfl rfl ?_
 try simp only [l3,l4,l5,l6] at c
 refine Cf [11] c (XH hx12) ⟨.f 0,.f 25,.f 26,.f 27,.f 28,.f 29,.f 30,tt⟩ call39 fun i15 _ _ c=>?_
 refine E0 (nQ hd5 (b12,i15.1,i15.2.1,i15.p2,i15.p3,i15.p4,i15.p5,i15.p6,i15.p7,i15.p8,i15.p9,i15.p10,i15.q11) (c.rk [0,1,2,3,4,5,6,7,8,9,10,13,11,12] [0,1,2,3,4,5,6,7,8,9,10,11,12,13,14,15,16,17,18,19,20,21,22,23,24,31,32,33,34,35,36]))
 refine Dq (fun i:Hp=>([(2,B b1 0),(3,B b2 0),(5,B b3 0),(6,B b4 0),(7,B b5 0),(8,B b6 0),(113,pJ x11 i)],id,(pF x11 i))) (bN 9 28) (fun i=>[(0,109,B b5 0),(1,110,gV p0 ga0 gc1),(5,114,nV x3)]) c (fun i9=>?_) fun hd1=>?_
 obtain ⟨a8,c8,a9,c9,a10,c10,a11,c11,a12,c12,a13,c13⟩:=i9
 refine qn [6,7] ⟨qP [],qP [(0,0)],qP [(0,3)],tt⟩ ⟨fun _ _ c=>?_,fun _ _ c=>?_,tt⟩
 refine Zf _ rfl rfl ?_
 try simp only [l3,l4,l5,l6] at c
 refine Cf [11] c (XH hx12) ⟨.f 0,.f 25,.f 26,.f 27,.f 28,.f 29,.f 30,tt⟩ call39 fun i10 _ _ c=>?_
 refine E0 (nQ hd3 (i10.1,i10.2.1,i10.p2,i10.p3,i10.p4,i10.p5,i10.p6,i10.p7,i10.p8,i10.p9,i10.p10,i10.q11) (c.rk [0,1,2,3,4,5,6,7,8,9,10,12,11] [0,1,2,3,4,5,6,7,8,9,10,11,12,13,14,15,16,17,18,19,20,21,22,23,24,31,32,33,34,35,36]))
 refine Zf _ rfl rfl ?_
 try simp only [l3,l4,l5,l6] at c
 refine Eal pZ c fun b11 _ _ c=>?_
 refine E0 (nQ hd4 (b11,a8,c8,a9,c9,a10,c10,a11,c11,a12,c12,a13,c13) (c.rk (rg 14) (rg 31)))
 refine Dq (fun i:Nat=>([(2,B b1 0),(3,B b2 0),(5,B b3 0),(6,B b4 0),(7,B b5 0),(8,B b6 0),(11,B b8 0),(12,B i 0)],fun Γ=>Γ ++ [BX i 29 pZ],[])) (bN 9 128) (fun i=>[(0,109,B b5 0),(1,110,gV p0 ga0 gc1),(2,111,.agg #[I x1.Pc,L i1.1 x1.Regs i1.2.1,L i1.p3 x1.Mem i1.p4,L i1.p6 x1.Stack i1.p7,I x1.In,L i1.p8 x1.Out i1.p9,I x1.Code,I (w64 (x1.Steps + 1)),L i1.p11 x1.Cond i1.p12,L i1.p14 x1.Turns i1.q15]),(3,112,tV x10.1 i7.1 i7.2),(5,114,nV x3)]) c (fun b10=>?_) fun hd2=>?_
 refine qn [4] ⟨qP [],qP [(0,0)],qP [(0,1)],qP [(0,6)],qP [(0,3)],tt⟩ ⟨fun _ _ c=>?_,tt⟩
 refine Zf _ rfl rfl ?_
 try simp only [l3,l4,l5,l6] at c
 refine Cg c (Zb1 hx11) ⟨.f 11,.f 12,.f 13,.f 14,.f 15,.f 16,.f 24,tt⟩ call42 fun i13 _ _ c=>?_
 refine E0 (nQ hd4 (b10,i13.1,i13.2.1,i13.p2,i13.p3,i13.p4,i13.p5,i13.p6,i13.p7,i13.p8,i13.p9,i13.p10,i13.q11) (c.rk (rg 14) (rg 31)))
 refine q0 (qs:=[(0,109,B b5 0),(1,110,gV p0 ga0 gc1),(2,111,.agg #[I x1.Pc,L i1.1 x1.Regs i1.2.1,L i1.p3 x1.Mem i1.p4,L i1.p6 x1.Stack i1.p7,I x1.In,L i1.p8 x1.Out i1.p9,I x1.Code,I (w64 (x1.Steps + 1)),L i1.p11 x1.Cond i1.p12,L i1.p14 x1.Turns i1.q15]),(3,112,tV x10.1 i7.1 i7.2),(5,114,nV x3)]) c (qn [4,7] ⟨qP [],qP [(0,0)],qP [(0,1)],qP [(0,6)],qP [(0,3)],tt⟩ ⟨fun _ _ c=>?_,fun _ _ c=>?_,tt⟩)
 refine Zf _ rfl rfl ?_
 try simp only [l3,l4,l5,l6] at c
 replace c:=c.nf
 refine Cg c (Zb1 hx11) ⟨.f 11,.f 12,.f 13,.f 14,.f 15,.f 16,.f 24,tt⟩ call42 fun i8 _ _ c=>?_
 refine E0 (nQ hd1 (i8.1,i8.2.1,i8.p2,i8.p3,i8.p4,i8.p5,i8.p6,i8.p7,i8.p8,i8.p9,i8.p10,i8.q11) (c.rk (rg 13) (rg 31)))
 refine Zf _ rfl rfl ?_
 try simp only [l3,l4,l5,l6] at c
 replace c:=c.nf
 refine Eal pZ c fun b9 _ _ c=>?_
 refine E0 (nQ hd2 (b9) (c.rk (rg 14) (rg 25)))
 obtain ⟨b16,a38,c38,a39,c39,a40,c40,a41,c41,a42,c42,a43,c43⟩:=i17
 refine S0 (P0 [(3,5)] c fun _ c=>I0 c h (fun h=>?_) fun h=>?_)
 refine T0 (Fp [(0,2)] 1 c fun _ c=>?_)
 replace c:=c.fzr 2 17
 replace c:=c.fzr 2 18
 replace c:=c.fz 2
 replace c:=c.fzr 2 19
 replace c:=c.fzr 2 20
 replace c:=c.fz 2
 refine Eltr 29 ([(Rw.Path.mk x2.Pc (hd i2.1 x2.Regs i2.2.1) (hd i2.p3 x2.Mem i2.p4) (hd i2.p6 x2.Stack i2.p7) x2.In (hd i2.p8 x2.Out i2.p9) 9 x2.Steps (hd i2.p11 x2.Cond i2.p12) (hd i2.p14 x2.Turns i2.q15))]:List Rw.Path) ([(D.Path.mk x2.Pc x2.Regs x2.Mem x2.Stack x2.In x2.Out 9 x2.Steps x2.Cond x2.Turns)]:List D.Path) c ⟨(Ava.mk_Path (D.Path.mk x2.Pc x2.Regs x2.Mem x2.Stack x2.In x2.Out 9 x2.Steps x2.Cond x2.Turns) (.f 31) (.f 32) (.f 33) (.f 34) (.f 35) (.f 36)),tt⟩ fun a44 c44 _ _ c=>?_
 refine Fp [] 1 c fun _ c=>E0 ?_
 replace c:=c.fzr 8 37
 cases h
 exact wp_ret (tr (Rt c (a44,c44) [] [38]))
 refine K0 (Bd h fun x13 hx13 h=>Bd h fun x14 hx14 h=>Bd h fun x15 hx15 h=>S0 (Jn (fun i:Ob (List Rw.Path)=>([(4,L i.1 ([x14,x15]:List D.Path) i.2.1)],fun Γ=>Γ ++ [sl29 (L i.1 ([x14,x15]:List D.Path) i.2.1) (i.q2)],[CS (i.q2) ([x14,x15]:List D.Path)])) c ?_ fun i25 _ _ c=>?_))
 refine As mix c fun _ c=>?_
 replace c:=Cx.frs [(3,B b2 0),(6,B b4 0),(8,B b6 0),(12,B b16 0)] c
 refine Dq (fun i:Ob (List Rw.Path)=>([(129,L i.1 ([x14,x15]:List D.Path) i.2.1)],fun Γ=>Γ ++ [sl29 (L i.1 ([x14,x15]:List D.Path) i.2.1) (i.q2)],[CS (i.q2) ([x14,x15]:List D.Path)])) (bN 9 255) (fun i=>[(8,4,L i.1 ([x14,x15]:List D.Path) i.2.1)]) c (fun i24=>?_) fun hd10=>?_
 obtain ⟨a70,c70,rs5⟩:=i24
 refine qnE ⟨qP [],tt⟩ fun _ _ c=>?_
 exact nN (a70,c70,rs5) (c.rk (rg 15) (rg 32))
 refine Dq (fun i:Hq (Ob (List Rw.Term × Ob (List Rw.Term × Ob (Ob (List Rw.Term × Ob (List Rw.Term × Oh))))))=>([(126,pK x14 i),(128,pV x15 i.p12 i.p13 i.p15 i.p16 i.p18 i.p19 i.p20 i.p21 i.p23 i.p24 i.p26 i.q27)],fun Γ=>Γ ++ [sl62 (L i.p12 x15.Regs i.p13) (i.p14),sl62 (L i.p15 x15.Mem i.p16) (i.p17),sl3 (L i.p18 x15.Stack i.p19) x15.Stack,sl62 (L i.p20 x15.Out i.p21) (i.p22),sl62 (L i.p23 x15.Cond i.p24) (i.p25),sl3 (L i.p26 x15.Turns i.q27) x15.Turns],[lR i.1 x14.Regs i.2.1,lR i.p2 x14.Mem i.p3,lR i.p4 x14.Stack i.p5,lR i.p6 x14.Out i.p7,lR i.p8 x14.Cond i.p9,lR i.p10 x14.Turns i.p11,CS (i.p14) x15.Regs,CS (i.p17) x15.Mem,CS (i.p22) x15.Out,CS (i.p25) x15.Cond])) (bN 9 127) (fun i=>[]) c (fun i23=>?_) fun hd9=>?_
 obtain ⟨a57,c57,a58,c58,a59,c59,a60,c60,a61,c61,a62,c62,a63,c63,rs1,a64,c64,rs2,a65,c65,a66,c66,rs3,a67,c67,rs4,a68,c68⟩:=i23
 refine qn [7] tt ⟨fun _ _ c=>?_,tt⟩
 refine Zf _ rfl rfl ?_
 try simp only [l3,l4,l5,l6] at c
 replace c:=c.fzr 14 37
 replace c:=c.fzr 14 38
 replace c:=c.fz 14
 replace c:=c.fzr 14 39
 replace c:=c.fzr 14 40
 replace c:=c.fz 14
 refine Eltr 29 ([(Rw.Path.mk x14.Pc (hd a57 x14.Regs c57) (hd a58 x14.Mem c58) (hd a59 x14.Stack c59) x14.In (hd a60 x14.Out c60) x14.Code x14.Steps (hd a61 x14.Cond c61) (hd a62 x14.Turns c62)),(Rw.Path.mk x15.Pc (hd a63 x15.Regs c63) (hd a64 x15.Mem c64) (hd a65 x15.Stack c65) x15.In (hd a66 x15.Out c66) x15.Code x15.Steps (hd a67 x15.Cond c67) (hd a68 x15.Turns c68))]:List Rw.Path) ([x14,x15]:List D.Path) c ⟨(Ava.mk_Path x14 (.f 31) (.f 32) (.f 33) (.f 34) (.f 35) (.f 36)),(Ava.mk_Path x15 (.f 41) (.f 42) (.f 43) (.f 44) (.f 45) (.f 46)),tt⟩ fun a69 c69 _ _ c=>?_
 refine E0 (nQ hd10 (a69,c69,([(Rw.Path.mk x14.Pc (hd a57 x14.Regs c57) (hd a58 x14.Mem c58) (hd a59 x14.Stack c59) x14.In (hd a60 x14.Out c60) x14.Code x14.Steps (hd a61 x14.Cond c61) (hd a62 x14.Turns c62)),(Rw.Path.mk x15.Pc (hd a63 x15.Regs c63) (hd a64 x15.Mem c64) (hd a65 x15.Stack c65) x15.In (hd a66 x15.Out c66) x15.Code x15.Steps (hd a67 x15.Cond c67) (hd a68 x15.Turns c68))]:List Rw.Path)) (c.rk (rg 15) [0,1,2,3,4,5,6,7,8,9,10,11,12,13,14,15,16,17,18,19,20,21,22,23,24,25,26,27,28,29,30,47]))
 refine Dq (fun i:Hp=>([(12,B b16 0),(126,pJ x14 i)],id,(pF x14 i))) (bN 9 31) (fun i=>[(5,127,pV x12.1 a38 c38 a39 c39 a40 c40 a41 c41 a42 c42 a43 c43)]) c (fun i21=>?_) fun hd8=>?_
 obtain ⟨a51,c51,a52,c52,a53,c53,a54,c54,a55,c55,a56,c56⟩:=i21
 refine qn [6] ⟨qP [(0,7)],tt⟩ ⟨fun _ _ c=>?_,tt⟩
 refine Zf _ rfl rfl ?_
 try simp only [l3,l4,l5,l6] at c
 refine Cg c (Xo hx15) ⟨.f 25,.f 26,.f 27,.f 28,.f 29,.f 30,tt⟩ call36 fun i22 _ _ c=>?_
 refine E0 (nQ hd9 (a51,c51,a52,c52,a53,c53,a54,c54,a55,c55,a56,c56,i22.1,i22.2.1,i22.p2,i22.p3,i22.p4,i22.p5,i22.p6,i22.p7,i22.p8,i22.p9,i22.p10,i22.p11,i22.p12,i22.p13,i22.p14,i22.q15) (c.rk (rg 20) (rg 41)))
 refine Dq (fun i:Hp=>([(6,B b4 0),(12,B b16 0),(124,pJ x13 i)],id,(pF x13 i))) (bN 9 7) (fun i=>[(3,125,nV x3),(5,127,pV x12.1 a38 c38 a39 c39 a40 c40 a41 c41 a42 c42 a43 c43)]) c (fun i19=>?_) fun hd7=>?_
 obtain ⟨a45,c45,a46,c46,a47,c47,a48,c48,a49,c49,a50,c50⟩:=i19
 refine qn [4] ⟨qP [(0,3)],qP [(0,7)],tt⟩ ⟨fun _ _ c=>?_,tt⟩
 refine Zf _ rfl rfl ?_
 try simp only [l3,l4,l5,l6] at c
 refine Cg c (ZcS hx14) ⟨.f 31,.f 32,.f 33,.f 34,.f 35,.f 36,tt⟩ call40 fun i20 _ _ c=>?_
 refine E0 (nQ hd8 (i20.1,i20.2.1,i20.p2,i20.p3,i20.p4,i20.p5,i20.p6,i20.p7,i20.p8,i20.p9,i20.p10,i20.q11) (c.rk (rg 14) [0,1,2,3,4,5,6,7,8,9,10,11,12,13,14,15,16,17,18,19,20,21,22,23,24,25,26,27,28,29,30,37,38,39,40,41,42]))
 refine q0 (qs:=[(0,122,.agg #[I x1.Pc,L i1.1 x1.Regs i1.2.1,L i1.p3 x1.Mem i1.p4,L i1.p6 x1.Stack i1.p7,I x1.In,L i1.p8 x1.Out i1.p9,I x1.Code,I (w64 (x1.Steps + 1)),L i1.p11 x1.Cond i1.p12,L i1.p14 x1.Turns i1.q15]),(1,123,tV x4.1 i3.1 i3.2),(3,125,nV x3),(5,127,pV x12.1 a38 c38 a39 c39 a40 c40 a41 c41 a42 c42 a43 c43)]) c (qn [2] ⟨qP [(0,1)],qP [(0,4)],qP [(0,3)],qP [(0,7)],tt⟩ ⟨fun _ _ c=>?_,tt⟩)
 refine Zf _ rfl rfl ?_
 try simp only [l3,l4,l5,l6] at c
 refine Cg c (Zb1 hx13) ⟨.f 11,.f 12,.f 13,.f 14,.f 15,.f 16,.f 21,tt⟩ call42 fun i18 _ _ c=>?_
 refine E0 (nQ hd7 (i18.1,i18.2.1,i18.p2,i18.p3,i18.p4,i18.p5,i18.p6,i18.p7,i18.p8,i18.p9,i18.p10,i18.q11) (c.rk (rg 14) (rg 37)))
 obtain ⟨a71,c71,rs6⟩:=i25
 replace c:=c.fzr 14 31
 cases h
 exact wp_ret (Rt c (a71,c71) [] [32])
theorem Zav {p0 p1 r} (h:Xc n p0 p1 = some r):C0 66 [L ga0 p0 gc1,I p1] [lR ga0 p0 gc1] (.bool r):=by
 unfold Xc at h
 refine En func66 rfl ntmps66 fun _ fr w c=>?_
 refine P0 [] c fun _ c=>S0 (P0 [] c fun _ c=>Bd h fun rl1 hit1 h=>?_)
 have hk1:=h
 refine LpR (fun s1  (_:Unit)=>([(1,I p1),(7,L ga0 p0 gc1),(8,I (len p0)),(9,I s1)],id,[])) (fun s  (_:Unit)=>([],id,[])) hit1 c () (c.rk [] [0]) (fun s1 q1 _ _ _ c h hr1=>?_) fun s1r _ _ _ hrl c=>?_
 refine P0 [] c fun _ c=>S0 (I0 c h (fun h=>?_) fun h=>?_)
 refine K0 (S0 (wp_block (T0 (Bd h fun x1 hx1 h=>Eem c (.f 0) hx1 fun _ u1 _ c=>?_))))
 obtain ⟨a1,c1,rfl,c⟩:=c.o_Term 1
 refine Eal tZ c fun b1 _ _ c=>?_
 refine Ess 0 (tC x1 a1 c1) c fun _ c=>?_
 refine E0 (Bd h fun x2 hx2 h=>S0 (rZ [(1,.eq (.bool x2))] [(0,0),(5,0)] mix c ⟨Ncl c (kN (ZcK hx2)) ⟨.f 2,tt⟩ call84,tt⟩ fun _ _ c=>I0 c h (fun h=>?_) fun h=>?_))
 refine P0 [] c fun _ c=>?_
 obtain rfl:=hr1 _ (sk h)
 obtain rfl:=sj hk1
 exact wp_ret (br (tr (tr (br (tr (Rt c () [] []))))))
 refine K1 (bk (tn (P1 [] c fun _ c=>Nx h () (c.rk [] [0]))))
 refine wp_exit (te (te (be ?_)))
 obtain rfl:=hr1 _ (sk h)
 exact tn ⟨_,(),rfl,c.rk [] [0]⟩
 subst hrl
 exact P0 [] c fun _ c=>rE
theorem ZfB {p0 p1 r} (h:Zbv n p0 p1 = some r):C0 43 [gV p0 ga0 gc1,pV p1 ga2 gc3 ga4 gc5 ga6 gc7 ga8 gc9 ga10 gc11 ga12 gc13] [lR ga0 p0.Code gc1,lR ga2 p1.Regs gc3,lR ga4 p1.Mem gc5,lR ga6 p1.Stack gc7,lR ga8 p1.Out gc9,lR ga10 p1.Cond gc11,lR ga12 p1.Turns gc13] (.bool r):=by
 unfold Zbv at h
 refine En func43 rfl ntmps43 fun _ fr w c=>?_
 refine T0 (Ebx (gC p0 ga0 gc1) c fun b1 _ _ c=>?_)
 refine Ebx (pC p1 ga2 gc3 ga4 gc5 ga6 gc7 ga8 gc9 ga10 gc11 ga12 gc13) c fun b2 _ _ c=>?_
 refine Fp [] 1 c fun _ c=>E0 (S0 (Bd h fun x1 hx1 h=>Bd h fun x2 hx2 h=>Bd h fun x3 hx3 h=>Bd h fun x4 hx4 h=>Bd h fun x5 hx5 h=>S0 (rZ [(1,.eq (.bool x1)),(9,.eq (.bool x2)),(37,.eq (.bool x3)),(49,.eq (.bool x4)),(55,.eq (.bool x5))] [(0,0),(5,1),(7,0),(14,1),(20,1),(23,0),(28,1),(34,1),(36,0),(42,1),(48,1),(54,1),(60,1),(66,1)] mix c ⟨Ncl c (kN (ZaT hx1)) ⟨.f 0,tt⟩ call33,Ncl c (fun hg=>Zt (iteF (gcF hg) hx2)) tt call18,Ncl c (fun hg=>Zt (iteF (gcF hg) hx3)) tt call18,Ncl c (fun hg=>Zt (iteF (gcF hg) hx4)) tt call18,Ncl c (fun hg=>Zt (iteF (gcF hg) hx5)) tt call18,tt⟩ fun _ _ c=>I0 c h (fun h=>?_) fun h=>?_)))
 exact P0 [] c fun _ c=>rE
 refine K0 (S0 (P0 [(1,1)] c fun _ c=>Bd h fun rl1 hit1 h=>?_))
 have hk1:=h
 refine LpR (fun s1  (_:Unit)=>([(2,B b1 0),(3,B b2 0),(80,L ga6 p1.Stack gc7),(81,I (len p1.Stack)),(82,I s1)],id,[])) (fun s  (_:Unit)=>([(2,B b1 0),(3,B b2 0)],id,[])) hit1 c () (c.rk [0,1] (rg 7)) (fun s1 q1 _ _ _ c h hr1=>?_) fun s1r _ _ _ hrl c=>?_
 refine P0 [] c fun _ c=>S0 (I0 c h (fun h=>?_) fun h=>?_)
 refine K0 (S0 (wp_block (T0 (Bd h fun x6 hx6 h=>Eel c (.f 3) hx6 fun _ _ c=>?_))))
 refine Fp [] 1 c fun _ c=>E0 (T0 (Fp [(2,0)] 4 c fun _ c=>Bd h fun x7 hx7 h=>Cb c (Zt hx7) tt call18 fun _ _ _ c=>?_))
 refine Fp [] 1 c fun _ c=>E0 (I0 c h (fun h=>?_) fun h=>?_)
 refine P0 [] c fun _ c=>?_
 obtain rfl:=hr1 _ (sk h)
 obtain rfl:=sj hk1
 exact wp_ret (br (tr (tr (br (tr (Rt c () [] []))))))
 refine K1 (bk (tn (P1 [] c fun _ c=>Nx h () (c.rk [0,1] (rg 7)))))
 refine wp_exit (te (te (be ?_)))
 obtain rfl:=hr1 _ (sk h)
 exact tn ⟨_,(),rfl,c.rk [0,1] (rg 7)⟩
 subst hrl
 refine S0 (P0 [(1,1)] c fun _ c=>Bd h fun rl2 hit2 h=>?_)
 have hk2:=h
 refine LpR (fun s2  (_:Unit)=>([(2,B b1 0),(3,B b2 0),(94,L ga12 p1.Turns gc13),(95,I (len p1.Turns)),(96,I s2)],id,[])) (fun s  (_:Unit)=>([(2,B b1 0),(3,B b2 0)],id,[])) hit2 c () (c.rk [0,1] (rg 7)) (fun s2 q2 _ _ _ c h hr2=>?_) fun s2r _ _ _ hrl c=>?_
 refine P0 [] c fun _ c=>S0 (I0 c h (fun h=>?_) fun h=>?_)
 refine K0 (S0 (wp_block (T0 (Bd h fun x8 hx8 h=>Eel c (.f 6) hx8 fun _ _ c=>?_))))
 refine Fp [] 1 c fun _ c=>E0 (T0 (Fp [] 1 c fun _ c=>Bd h fun x9 hx9 h=>Cb c (Zt hx9) tt call18 fun _ _ _ c=>?_))
 refine Fp [] 1 c fun _ c=>E0 (I0 c h (fun h=>?_) fun h=>?_)
 refine P0 [] c fun _ c=>?_
 obtain rfl:=hr2 _ (sk h)
 obtain rfl:=sj hk2
 exact wp_ret (br (tr (tr (br (tr (Rt c () [] []))))))
 refine K1 (bk (tn (P1 [] c fun _ c=>Nx h () (c.rk [0,1] (rg 7)))))
 refine wp_exit (te (te (be ?_)))
 obtain rfl:=hr2 _ (sk h)
 exact tn ⟨_,(),rfl,c.rk [0,1] (rg 7)⟩
 subst hrl
 refine Bd h fun x10 hx10 h=>Bd h fun x11 hx11 h=>Bd h fun x12 hx12 h=>Bd h fun x13 hx13 h=>S0 (rZ [(4,.eq (.bool x10)),(10,.eq (.bool x11)),(17,.eq (.bool x12)),(22,.eq (.bool x13))] [(1,1),(3,0),(7,1),(9,0),(14,1),(16,0),(21,1)] mix c ⟨Ncl c (kN (Zav hx10)) ⟨.f 1,tt⟩ call66,Ncl c (fun hg=>Zav (iteT (gcT hg) hx11)) ⟨.f 2,tt⟩ call66,Ncl c (fun hg=>Zav (iteT (gcT hg) hx12)) ⟨.f 4,tt⟩ call66,Ncl c (fun hg=>Zav (iteT (gcT hg) hx13)) ⟨.f 5,tt⟩ call66,tt⟩ fun _ _ c=>?_)
 exact rE
theorem ZdA {p0 p1 r} (h:Zaj n p0 p1 = some r):Con prog 45 [gV p0 ga0 gc1,L ga2 p1 gc3] [] [lR ga0 p0.Code gc1,lR ga2 p1 gc3] fun (i:Oh)=>([L i.1 r i.2],[sl87 (L i.1 r i.2) r],[]):=by
 unfold Zaj at h
 refine En func45 rfl ntmps45 fun _ fr w c=>?_
 refine T0 (Ebx (gC p0 ga0 gc1) c fun b1 _ _ c=>?_)
 refine Fp [] 1 c fun _ c=>E0 (T0 (Elt 87 ([]:List D.Value) c fun a1 c1 _ _ c=>?_))
 refine Fp [] 1 c fun _ c=>E0 (S0 (P0 [] c fun _ c=>Bd h fun rl1 hit1 h=>Lp (fun s1  (i:Oh)=>([(2,B b1 0),(5,L i.1 s1.2 i.2),(9,L ga2 p1 gc3),(10,I (len p1)),(11,I s1.1)],fun Γ=>Γ.set 1 (sl87 (L i.1 s1.2 i.2) s1.2),[])) (fun  (i:Oh)=>([(5,L i.1 rl1 i.2)],fun Γ=>Γ.set 1 (sl87 (L i.1 rl1 i.2) rl1),[])) hit1 c (a1,c1) (c.rk [0,1] [0,1]) (fun s1 q1 i1 _ _ c h hr1=>?_) fun k1 _ _ c=>?_))
 refine P0 [] c fun _ c=>S0 (I0 c h (fun h=>?_) fun h=>?_)
 refine K0 (S0 (wp_block (T0 (Fp [] 1 c fun _ c=>Bd h fun x1 hx1 h=>Eel c (.f 1) hx1 fun _ _ c=>?_))))
 refine Fp [] 2 c fun _ c=>E0 (Bd h fun x2 hx2 h=>Bd h fun x3 hx3 h=>YH mix (rM 9 [(2,.eq (Str.val x2)),(3,.eq (Str.val x3)),(8,Pd.nw c.wd 8 (fun i:Oh=>L i.1 ([(D.Value.mk x3 p0.W x1)]:List D.Value) i.2) (fun i=>SL 87 (L i.1 ([(D.Value.mk x3 p0.W x1)]:List D.Value) i.2) ([(D.Value.mk x3 p0.W x1)]:List D.Value)))] [(5,0)] c (fun ow=>⟨ZG ow (Ncl c (kN (Zca hx2)) tt call68),ZG ow (Ncat c (kN hx3)),Nlt c ([(D.Value.mk x3 p0.W x1)]:List D.Value),tt⟩) fun ow _ _ hE hc cq=>?_))
 obtain ⟨i2,hi2⟩:=hE.nw 8 24
 replace c:=Cx.newt c hc cq [(8,24,_,_)] ⟨hi2,tt⟩
 refine Bd h fun x4 hx4 h=>Eap 1 c (.g 2) hx4 fun a2 c2 _ _ c=>?_
 refine Fp [] 1 c fun _ c=>E1 (bk (tn (P1 [] c fun _ c=>Nx h (a2,c2) (c.rk [0,1] [0,1]))))
 refine wp_exit (te (te (be ?_)))
 obtain rfl:=hr1 _ (sk h)
 exact tn ⟨(i1.1,i1.2),c.rk [0,1] [0,1]⟩
 refine P0 [] c fun _ c=>?_
 obtain rfl:=sj h
 exact wp_ret (Rt c (k1.1,k1.2) [1] [])
theorem ZeA {p0 p1 r} (h:Zaw n p0 p1 = some r):C0 86 [L ga0 p0 gc1,Str.val p1] [lR ga0 p0 gc1] (I r):=by
 unfold Zaw at h
 refine En func86 rfl ntmps86 fun _ fr w c=>?_
 refine P0 [] c fun _ c=>S0 (P0 [] c fun _ c=>Bd h fun rl1 hit1 h=>?_)
 have hk1:=h
 refine LpR (fun s1  (_:Unit)=>([(1,Str.val p1),(7,L ga0 p0 gc1),(8,I (len p0)),(9,I s1)],id,[])) (fun s  (_:Unit)=>([],id,[])) hit1 c () (c.rk [] [0]) (fun s1 q1 _ _ _ c h hr1=>?_) fun s1r _ _ _ hrl c=>?_
 refine P0 [] c fun _ c=>S0 (I0 c h (fun h=>?_) fun h=>?_)
 refine K0 (S0 (wp_block (T0 (Fp [] 1 c fun _ c=>Bd h fun x1 hx1 h=>Eel c (.f 0) hx1 fun _ _ c=>?_))))
 refine Eal [Str.val ⟨[]⟩,I 0,I 0] c fun b1 _ _ c=>?_
 refine Fp [] 1 c fun _ c=>Ess 0 (vC x1) c fun _ c=>?_
 refine E0 (P0 [(1,0)] c fun _ c=>I0 c h (fun h=>?_) fun h=>?_)
 refine P0 [] c fun _ c=>?_
 obtain rfl:=hr1 _ (sk h)
 obtain rfl:=sj hk1
 exact wp_ret (br (tr (tr (br (tr (Rt c () [] []))))))
 refine K1 (bk (tn (P1 [] c fun _ c=>Nx h () (c.rk [] [0]))))
 refine wp_exit (te (te (be ?_)))
 obtain rfl:=hr1 _ (sk h)
 exact tn ⟨_,(),rfl,c.rk [] [0]⟩
 subst hrl
 exact P0 [] c fun _ c=>rE
theorem ZeJ {n:Nat}:∀ {p0 p1 ga0 gc1 ga2 gc3 r} (h:ZP n p0 p1 = some r),Con prog 67 [tV p0 ga0 gc1,L ga2 p1 gc3] [] [lR ga0 p0.Kids gc1,lR ga2 p1 gc3] fun (_:Unit)=>([I r.1,.bool r.2],[],[]):=by
 induction n with
 | zero=>intro p0 p1 ga0 gc1 ga2 gc3 r h; simp [ZP] at h
 | succ n ih=>
 intro p0 p1 ga0 gc1 ga2 gc3 r h
 rw [ZP] at h
 refine En func67 rfl ntmps67 fun _ fr w c=>?_
 refine T0 (Ebx (tC p0 ga0 gc1) c fun b1 _ _ c=>?_)
 refine Fp [] 2 c fun _ c=>E0 (S0 (P0 [(1,0)] c fun _ c=>I0 c h (fun h=>?_) fun h=>?_))
 refine P0 [(1,0)] c fun _ c=>?_
 cases h
 exact wp_ret (tr (Rg c () [] [] (.tmp (.tmp .nil))))
 refine K0 (S0 (P0 [(1,0)] c fun _ c=>I0 c h (fun h=>?_) fun h=>?_))
 refine T0 (Fp [(2,0)] 3 c fun _ c=>Bd h fun x1 hx1 h=>Cb c (ZeA hx1) ⟨.f 1,tt⟩ call86 fun _ _ _ c=>?_)
 refine Fp [] 1 c fun _ c=>E0 (S0 (Bd h fun x2 hx2 h=>S0 (rZ [(5,Pd.el (x2:D.Value)),(6,Pd.fl (I x2.W)),(7,.eq (I x2.W))] [(9,0)] mix c ⟨Nid c (.f 1) (gF hx2),Nfa c 5 (atN 5) Zlw,Nlf c 6 (atN 6),tt⟩ fun _ _ c=>I0 c h (fun h=>?_) fun h=>?_)))
 refine P0 [] c fun _ c=>?_
 cases h
 exact wp_ret (tr (tr (Rg c () [] [] (.tmp (.tmp .nil)))))
 refine K0 (T0 (Fp [] 2 c fun _ c=>Bd h fun x3 hx3 h=>Eef c (.f 1) hx3 ZmI fun _ _ _ c=>?_))
 refine Fp [] 2 c fun _ c=>E0 ?_
 cases h
 exact wp_ret (tr (Rg c () [] [] (.tmp (.tmp .nil))))
 refine K0 (T0 (Elt 3 ([]:List Int) c fun a1 c1 _ _ c=>?_))
 refine Fp [] 1 c fun _ c=>E0 (S0 (P0 [(1,0)] c fun _ c=>Bd h fun rl1 hit1 h=>?_))
 have hk1:=h
 refine LpR (fun s1  (i:Oh)=>([(1,L ga2 p1 gc3),(2,B b1 0),(7,L i.1 s1.2 i.2),(43,L ga0 p0.Kids gc1),(44,I (len p0.Kids)),(45,I s1.1)],fun Γ=>Γ.set 1 (sl3 (L i.1 s1.2 i.2) s1.2),[])) (fun s  (i:Oh)=>([(2,B b1 0),(7,L i.1 s i.2)],fun Γ=>Γ.set 1 (sl3 (L i.1 s i.2) s),[])) hit1 c (a1,c1) (c.rk [0,1] [0,1]) (fun s1 q1 i1 _ _ c h hr1=>?_) fun s1r k1 _ _ hrl c=>?_
 refine P0 [] c fun _ c=>S0 (I0 c h (fun h=>?_) fun h=>?_)
 refine K0 (S0 (wp_block (T0 (Bd h fun x4 hx4 h=>Eem c (.f 0) hx4 fun _ u1 _ c=>?_))))
 obtain ⟨a2,c2,rfl,c⟩:=c.o_Term 2
 refine Eal tZ c fun b2 _ _ c=>?_
 refine Ess 2 (tC x4 a2 c2) c fun _ c=>?_
 refine E0 (T0 (Fp [(0,1)] 2 c fun _ c=>?_))
 replace c:=c.nf
 refine Bd h fun x5 hx5 h=>Cb c (ih hx5) ⟨.f 3,.f 1,tt⟩ call67 fun _ _ _ c=>?_
 refine Fp [] 5 c fun _ c=>E0 (S0 (P0 [] c fun _ c=>I0 c h (fun h=>?_) fun h=>?_))
 refine P0 [] c fun _ c=>?_
 obtain rfl:=hr1 _ (sk h)
 obtain rfl:=sj hk1
 exact wp_ret (tr (br (tr (tr (br (tr (Rg c () [] [] (.tmp (.tmp .nil)))))))))
 refine K0 (T1 (Fp [] 2 c fun _ c=>Elt 3 ([x5.1]:List Int) c fun a3 c3 _ _ c=>?_))
 refine Bd h fun x6 hx6 h=>Eap 1 c (.g 3) hx6 fun a4 c4 _ _ c=>?_
 refine Fp [] 1 c fun _ c=>E1 (bk (tn (P1 [] c fun _ c=>Nx h (a4,c4) (c.rk [0,1] [0,1]))))
 refine wp_exit (te (te (be ?_)))
 obtain rfl:=hr1 _ (sk h)
 exact tn ⟨_,(i1.1,i1.2),rfl,c.rk [0,1] [0,1]⟩
 subst hrl
 refine T0 (Fp [(0,0)] 2 c fun _ c=>Bd h fun x7 hx7 h=>Cb c (Zc1 hx7) ⟨.f 0,.g 1,tt⟩ call87 fun _ _ _ c=>?_)
 refine Fp [] 2 c fun _ c=>E0 ?_
 cases h
 exact wp_ret (Rg c () [] [] (.tmp (.tmp .nil)))
theorem Zec {p0 p1 r} (h:Za2 n p0 p1 = some r):Con prog 44 [L ga0 p0 gc1,L ga2 p1 gc3] [] [lR ga0 p0 gc1,lR ga2 p1 gc3] fun (i:Oh)=>([L i.1 r.1 i.2,.bool r.2],[sl3 (L i.1 r.1 i.2) r.1],[]):=by
 unfold Za2 at h
 refine En func44 rfl ntmps44 fun _ fr w c=>?_
 refine P0 [] c fun _ c=>T0 (Elt 3 ([]:List Int) c fun a1 c1 _ _ c=>?_)
 refine Fp [] 1 c fun _ c=>E0 (S0 (P0 [] c fun _ c=>Bd h fun rl1 hit1 h=>?_))
 have hk1:=h
 refine LpR (fun s1  (i:Oh)=>([(1,L ga2 p1 gc3),(6,L i.1 s1.2 i.2),(12,L ga0 p0 gc1),(13,I (len p0)),(14,I s1.1)],fun Γ=>Γ.set 0 (sl3 (L i.1 s1.2 i.2) s1.2),[])) (fun s  (i:Oh)=>([(6,L i.1 s i.2)],fun Γ=>Γ.set 0 (sl3 (L i.1 s i.2) s),[])) hit1 c (a1,c1) (c.rk [0] [0,1]) (fun s1 q1 i1 _ _ c h hr1=>?_) fun s1r k1 _ _ hrl c=>?_
 refine P0 [] c fun _ c=>S0 (I0 c h (fun h=>?_) fun h=>?_)
 refine K0 (S0 (wp_block (T0 (Bd h fun x1 hx1 h=>Eem c (.f 0) hx1 fun _ u1 _ c=>?_))))
 obtain ⟨a2,c2,rfl,c⟩:=c.o_Term 2
 refine Eal tZ c fun b1 _ _ c=>?_
 refine Ess 1 (tC x1 a2 c2) c fun _ c=>?_
 refine E0 (T0 (Fp [(0,0)] 2 c fun _ c=>Bd h fun x2 hx2 h=>Cb c (ZeJ hx2) ⟨.f 3,.f 1,tt⟩ call67 fun _ _ _ c=>?_))
 refine Fp [] 5 c fun _ c=>E0 (S0 (P0 [] c fun _ c=>I0 c h (fun h=>?_) fun h=>?_))
 refine P0 [] c fun _ c=>?_
 replace c:=c.nil (α:=Int) 3
 obtain rfl:=hr1 _ (sk h)
 obtain rfl:=sj hk1
 exact wp_ret (tr (br (tr (tr (br (tr (Rg c (none,0) [2] [] (.tmp (.tmp .nil)))))))))
 refine K0 (T1 (Fp [] 2 c fun _ c=>?_))
 replace c:=c.nf
 refine Elt 3 ([x2.1]:List Int) c fun a3 c3 _ _ c=>?_
 refine Bd h fun x3 hx3 h=>Eap 0 c (.g 2) hx3 fun a4 c4 _ _ c=>?_
 refine Fp [] 1 c fun _ c=>E1 (bk (tn (P1 [] c fun _ c=>Nx h (a4,c4) (c.rk [0] [0,1]))))
 refine wp_exit (te (te (be ?_)))
 obtain rfl:=hr1 _ (sk h)
 exact tn ⟨_,(i1.1,i1.2),rfl,c.rk [0] [0,1]⟩
 subst hrl
 refine P0 [] c fun _ c=>?_
 cases h
 exact wp_ret (Rg c (k1.1,k1.2) [0] [] (.tmp (.tmp .nil)))
theorem ZdK {p0 p1 p2 r} (h:Z5 n p0 p1 p2 = some r):C0 21 [gV p0 ga0 gc1,pV p1 ga2 gc3 ga4 gc5 ga6 gc7 ga8 gc9 ga10 gc11 ga12 gc13,L ga14 p2 gc15] [lR ga0 p0.Code gc1,lR ga2 p1.Regs gc3,lR ga4 p1.Mem gc5,lR ga6 p1.Stack gc7,lR ga8 p1.Out gc9,lR ga10 p1.Cond gc11,lR ga12 p1.Turns gc13,lR ga14 p2 gc15] (.bool r):=by
 unfold Z5 at h
 refine En func21 rfl ntmps21 fun _ fr w c=>?_
 refine T0 (Ebx (gC p0 ga0 gc1) c fun b1 _ _ c=>?_)
 refine Ebx (pC p1 ga2 gc3 ga4 gc5 ga6 gc7 ga8 gc9 ga10 gc11 ga12 gc13) c fun b2 _ _ c=>?_
 refine Fp [] 1 c fun _ c=>E0 (S0 (Bd h fun x1 hx1 h=>Bd h fun x2 hx2 h=>S0 (rZ [(2,.eq (.bool x1)),(7,.eq (.bool x2))] [(0,0),(1,1),(5,0)] mix c ⟨Ncl c (kN (ZfB hx1)) ⟨.f 0,.f 1,.f 2,.f 3,.f 4,.f 5,.f 6,tt⟩ call43,Ncl c (fun hg=>Zcy (iteF (gcF hg) hx2)) ⟨.f 0,.f 7,tt⟩ call17,tt⟩ fun _ _ c=>I0 c h (fun h=>?_) fun h=>?_)))
 exact P0 [] c fun _ c=>rE
 refine K0 (Bd h fun x3 hx3 h=>Bd h fun x4 hx4 h=>S0 (Jn (fun i:Oh=>([(7,L i.1 x4.1 i.2),(8,.bool x4.2)],fun Γ=>Γ ++ [sl3 (L i.1 x4.1 i.2) x4.1],[])) c ?_ fun i5 _ _ c=>?_))
 refine As mix c fun _ c=>?_
 replace c:=Cx.frs [(2,L ga14 p2 gc15),(3,B b1 0),(4,B b2 0)] c
 refine Dq (fun i:Oh=>([(27,.tuple #[L i.1 x4.1 i.2,.bool x4.2])],fun Γ=>Γ ++ [sl3 (L i.1 x4.1 i.2) x4.1],[])) (bN 11 63) (fun i=>[(6,21,.tuple #[L i.1 x4.1 i.2,.bool x4.2]),(7,28,L i.1 x4.1 i.2),(8,29,.bool x4.2),(9,7,L i.1 x4.1 i.2),(10,8,.bool x4.2)]) c (fun i4=>?_) fun hd2=>?_
 obtain ⟨a2,c2⟩:=i4
 refine qnE ⟨qP [],qP [],qP [],qP [],qP [],tt⟩ fun _ _ c=>?_
 exact nN (a2,c2) (c.rk [0,1,2] (rg 8))
 refine Dq (fun i:Oh=>([(4,B b2 0),(26,L i.1 x3 i.2)],fun Γ=>Γ ++ [sl87 (L i.1 x3 i.2) x3],[])) (bN 11 28) (fun i=>[(0,22,B b2 8),(1,23,L ga10 p1.Cond gc11)]) c (fun i2=>?_) fun hd1=>?_
 obtain ⟨a1,c1⟩:=i2
 refine qn [5] ⟨qP [],qP [(0,1)],tt⟩ ⟨fun _ _ c=>?_,tt⟩
 refine Zf _ rfl rfl ?_
 refine Cb c (Zec hx4) ⟨.f 5,.g 2,tt⟩ call44 fun i3 _ _ c=>?_
 refine E0 (nQ hd2 (i3.1,i3.2) (c.rk [0,1,3] (rg 8)))
 refine q0 (qs:=[(0,22,B b2 8),(1,23,L ga10 p1.Cond gc11),(2,24,gV p0 ga0 gc1),(3,25,L ga14 p2 gc15)]) c (qn [4] ⟨qP [],qP [(0,1)],qP [(0,0)],qP [],tt⟩ ⟨fun _ _ c=>?_,tt⟩)
 refine Zf _ rfl rfl ?_
 refine Cb c (ZdA hx3) ⟨.f 0,.f 7,tt⟩ call45 fun i1 _ _ c=>?_
 refine E0 (nQ hd1 (i1.1,i1.2) (c.rk [0,1,2] (rg 8)))
 obtain ⟨a3,c3⟩:=i5
 refine S0 (P0 [] c fun _ c=>Bd h fun rl1 hit1 h=>Lp (fun s1  (_:Unit)=>([(8,.bool s1.1),(30,L a3 x4.1 c3),(31,I (len x4.1)),(32,I s1.2)],id,[])) (fun  (_:Unit)=>([(8,.bool rl1)],id,[])) hit1 c () (c.rk [0,1,2] (rg 8)) (fun s1 q1 _ _ _ c h hr1=>?_) fun _ _ _ c=>?_)
 refine P0 [] c fun _ c=>S0 (I0 c h (fun h=>?_) fun h=>?_)
 refine K0 (S0 (wp_block (T0 (Bd h fun x5 hx5 h=>Eel c (.g 2) hx5 fun _ _ c=>?_))))
 refine Fp [] 1 c fun _ c=>E0 (Tq (Ry [] mix c fun _ _ c=>bk (tn (P1 [] c fun _ c=>Nx h () (c.rk [0,1,2] (rg 8))))))
 refine wp_exit (te (te (be ?_)))
 obtain rfl:=hr1 _ (sk h)
 exact tn ⟨(),c.rk [0,1,2] (rg 8)⟩
 exact P0 [] c fun _ c=>rE
theorem ZeF {p0 p1 p2 r} (h:ZaX n p0 p1 p2 = some r):Con prog 5 [gV p0 ga0 gc1,L ga2 p1 gc3,I p2] [] [lR ga0 p0.Code gc1,lR ga2 p1 gc3] fun (i:Hp)=>([pJ r.1 i,.bool r.2],[],(pF r.1 i)):=by
 unfold ZaX at h
 refine En func5 rfl ntmps5 fun _ fr w c=>?_
 refine T0 (Ebx (gC p0 ga0 gc1) c fun b1 _ _ c=>?_)
 refine Eal pZ c fun b2 _ _ c=>?_
 refine Fp [] 1 c fun _ c=>E0 (S0 (Bd h fun x1 hx1 h=>Bd h fun x2 hx2 h=>S0 (rZ [(2,.eq (.bool x1)),(6,.eq (.bool x2))] [(0,0)] mix c ⟨Ncl c (kN (Zcy hx1)) ⟨.f 0,.f 1,tt⟩ call17,Ncl c (fun hg=>Zt (iteF (gcF hg) hx2)) tt call18,tt⟩ fun _ _ c=>I0 c h (fun h=>?_) fun h=>?_)))
 refine T0 (Fp [] 1 c fun _ c=>Ess 1 pZ c fun _ c=>?_)
 refine Fp [] 1 c fun _ c=>E0 ?_
 cases h
 replace c:=c.nilf (α:=D.Term)
 replace c:=c.nilf (α:=D.Term)
 replace c:=c.nilf (α:=Int)
 replace c:=c.nilf (α:=D.Term)
 replace c:=c.nilf (α:=D.Term)
 replace c:=c.nilf (α:=Int)
 exact wp_ret (tr (Rg c (none,0,none,0,none,0,none,0,none,0,none,0) [] [2,3,4,5,6,7] (.cell (α:=Agg 9) kk (.b 1) (.tmp .nil))))
 refine K0 (T0 (Fp [(0,0)] 1 c fun _ c=>Bd h fun x3 hx3 h=>Cg c (ZdG hx3) ⟨.f 0,tt⟩ call19 fun i1 _ _ c=>?_))
 refine Eal pZ c fun b3 _ _ c=>?_
 refine Ess 2 (pM x3 i1) c fun _ c=>?_
 refine E0 (S0 (P0 [] c fun _ c=>Bd h fun rl1 hit1 h=>Lp (fun s1  (i:Hp)=>([(1,L ga2 p1 gc3),(2,I p2),(3,B b1 0),(6,B b2 0),(8,B b3 0),(9,I s1.1)],fun Γ=>Γ.set 2 (BX b3 29 [I s1.2.1,L i.1 s1.p2 i.2.1,L i.p2 s1.p3 i.p3,L i.p4 s1.p4 i.p5,I s1.p5,L i.p6 s1.p6 i.p7,I s1.p7,I s1.p8,L i.p8 s1.p9 i.p9,L i.p10 s1.q10 i.q11]),[lR i.1 s1.p2 i.2.1,lR i.p2 s1.p3 i.p3,lR i.p4 s1.p4 i.p5,lR i.p6 s1.p6 i.p7,lR i.p8 s1.p9 i.p9,lR i.p10 s1.q10 i.q11])) (fun  (i:Hp)=>([(6,B b2 0),(8,B b3 0)],fun Γ=>Γ.set 2 (BX b3 29 [I rl1.1,L i.1 rl1.2.1 i.2.1,L i.p2 rl1.p2 i.p3,L i.p4 rl1.p3 i.p5,I rl1.p4,L i.p6 rl1.p5 i.p7,I rl1.p6,I rl1.p7,L i.p8 rl1.p8 i.p9,L i.p10 rl1.q9 i.q11]),[lR i.1 rl1.2.1 i.2.1,lR i.p2 rl1.p2 i.p3,lR i.p4 rl1.p3 i.p5,lR i.p6 rl1.p5 i.p7,lR i.p8 rl1.p8 i.p9,lR i.p10 rl1.q9 i.q11])) hit1 c (i1.1,i1.2.1,i1.p2,i1.p3,i1.p4,i1.p5,i1.p6,i1.p7,i1.p8,i1.p9,i1.p10,i1.q11) (c.rk [0,1,2] [0,1,2,3,4,5,6,7,2,3,4,5,6,7]) (fun s1 q1 i2 _ _ c h hr1=>?_) fun k1 _ _ c=>?_))
 refine S0 (P0 [] c fun _ c=>I0 c h (fun h=>?_) fun h=>?_)
 refine K0 (S0 (wp_block (P0 [] c fun _ c=>T0 (Fp [(0,0),(1,2)] 2 c fun _ c=>?_))))
 replace c:=c.nf
 refine Bd h fun x4 hx4 h=>Cg c (ZeK hx4) ⟨.f 0,.f 8,.f 9,.f 10,.f 11,.f 12,.f 13,tt⟩ call20 fun i3 _ _ c=>?_
 refine Fp [] 1 c fun _ c=>E0 (S0 (P0 [] c fun _ c=>Bd h fun rl2 hit2 h=>Lp (fun s2  (_:Unit)=>([(1,L ga2 p1 gc3),(2,I p2),(3,B b1 0),(6,B b2 0),(8,B b3 0),(9,I s1.1),(10,I s2.1),(11,L i3.1 x4 i3.2),(34,L i3.1 x4 i3.2),(35,I (len x4)),(36,I s2.2)],id,[])) (fun  (_:Unit)=>([(1,L ga2 p1 gc3),(2,I p2),(3,B b1 0),(6,B b2 0),(8,B b3 0),(9,I s1.1),(10,I rl2),(11,L i3.1 x4 i3.2)],id,[])) hit2 c () (c.rk [0,1,2] (rg 15)) (fun s2 q2 _ _ _ c h hr2=>?_) fun _ _ _ c=>?_))
 refine P0 [] c fun _ c=>S0 (I0 c h (fun h=>?_) fun h=>?_)
 refine K0 (S0 (wp_block (T0 (Fp [] 1 c fun _ c=>Bd h fun x5 hx5 h=>Eem c (.f 14) hx5 fun _ u1 _ c=>?_))))
 obtain ⟨a1,c1,a2,c2,a3,c3,a4,c4,a5,c5,a6,c6,rfl,c⟩:=c.o_Path 15
 refine Eal pZ c fun b4 _ _ c=>?_
 refine Fp [] 1 c fun _ c=>Ess 3 (pC x5 a1 c1 a2 c2 a3 c3 a4 c4 a5 c5 a6 c6) c fun _ c=>?_
 refine E0 (Bd h fun x6 hx6 h=>S0 (rZ [(6,.eq (.bool x6))] [(3,0),(4,3)] mix c ⟨Ncl c (fun hg=>ZdK (iteT (gcT hg) hx6)) ⟨.f 0,.f 16,.f 17,.f 18,.f 19,.f 20,.f 21,.f 1,tt⟩ call21,tt⟩ fun _ _ c=>Tq (Mp ((decide (s2.1 < 0)) && x6) [(10,I s2.2)] [(10,I s2.1)] [(10,I (cond ((decide (s2.1 < 0)) && x6) s2.2 s2.1))] [10,49] c fun _ c=>bk (tn (P1 [] c fun _ c=>Nx h () (c.rk [0,1,2] (rg 15)))))))
 refine wp_exit (te (te (be ?_)))
 obtain rfl:=hr2 _ (sk h)
 exact tn ⟨(),c.rk [0,1,2] (rg 15)⟩
 refine S0 (P0 [] c fun _ c=>I0 c h (fun h=>?_) fun h=>?_)
 refine wp_exit (te (bn (te (te (be ?_)))))
 obtain rfl:=hr1 _ (sk h)
 exact tn ⟨(i2.1,i2.2.1,i2.p2,i2.p3,i2.p4,i2.p5,i2.p6,i2.p7,i2.p8,i2.p9,i2.p10,i2.q11),c.rk [0,1,2] (rg 14)⟩
 refine K0 (T1 (Fp [] 2 c fun _ c=>Bd h fun x7 hx7 h=>Eem c (.f 14) hx7 fun _ u2 _ c=>?_))
 obtain ⟨a7,c7,a8,c8,a9,c9,a10,c10,a11,c11,a12,c12,rfl,c⟩:=c.o_Path 15
 refine Ess 2 (pC x7 a7 c7 a8 c8 a9 c9 a10 c10 a11 c11 a12 c12) c fun _ c=>?_
 refine E1 (bk (tn (P1 [] c fun _ c=>Nx h (a7,c7,a8,c8,a9,c9,a10,c10,a11,c11,a12,c12) (c.rk [0,1,2] [0,1,2,3,4,5,6,7,16,17,18,19,20,21]))))
 refine wp_exit (te (te (be ?_)))
 obtain rfl:=hr1 _ (sk h)
 exact tn ⟨(i2.1,i2.2.1,i2.p2,i2.p3,i2.p4,i2.p5,i2.p6,i2.p7,i2.p8,i2.p9,i2.p10,i2.q11),c.rk [0,1,2] (rg 14)⟩
 refine T0 (Fp [(0,2)] 1 c fun _ c=>?_)
 replace c:=c.nf
 refine Ess 1 [I rl1.1,L k1.1 rl1.2.1 k1.2.1,L k1.p2 rl1.p2 k1.p3,L k1.p4 rl1.p3 k1.p5,I rl1.p4,L k1.p6 rl1.p5 k1.p7,I rl1.p6,I rl1.p7,L k1.p8 rl1.p8 k1.p9,L k1.p10 rl1.q9 k1.q11] c fun _ c=>?_
 refine Fp [] 1 c fun _ c=>E0 ?_
 cases h
 exact wp_ret (Rg c (k1.1,k1.2.1,k1.p2,k1.p3,k1.p4,k1.p5,k1.p6,k1.p7,k1.p8,k1.p9,k1.p10,k1.q11) [] [8,9,10,11,12,13] (.cell (α:=Agg 9) kk (.b 1) (.tmp .nil)))
theorem ZeE {p0 p1 r} (h:ZbB p0 p1 = some r):C0 69 [I p0,I p1] [] (.bool r):=by
 unfold ZbB at h
 refine En func69 rfl ntmps69 fun _ fr w c=>?_
 refine P0 [] c fun _ c=>S0 (Ry [] mix c fun _ _ c=>?_)
 exact rE
theorem YV {p0 r} (h:ZH p0 = some r):C0 88 [I p0] [] (.bool r):=by
 unfold ZH at h
 refine En func88 rfl ntmps88 fun _ fr w c=>?_
 refine P0 [] c fun _ c=>S0 (Ry [] mix c fun _ _ c=>?_)
 exact rE
theorem Yc {p0 p1 r} (h:ZX p0 p1 = some r):C0 70 [I p0,I p1] [] (.bool r):=by
 unfold ZX at h
 refine En func70 rfl ntmps70 fun _ fr w c=>?_
 refine P0 [] c fun _ c=>Bd h fun x1 hx1 h=>Bd h fun x2 hx2 h=>S0 (rZ [(1,.eq (.bool x1)),(10,.eq (I x2))] [] mix c ⟨Ncl c (kN (YV hx1)) tt call88,Nshl c (gT hx2),tt⟩ fun _ _ c=>?_)
 exact rE
theorem Xy {p0 r} (h:Xi p0 = some r):C0 89 [I p0] [] (.bool r):=by
 unfold Xi at h
 refine En func89 rfl ntmps89 fun _ fr w c=>?_
 refine P0 [] c fun _ c=>S0 (Ry [] mix c fun _ _ c=>?_)
 exact rE
theorem Zdr {p0 r} (h:XQ p0 = some r):C0 90 [I p0] [] (.bool r):=by
 unfold XQ at h
 refine En func90 rfl ntmps90 fun _ fr w c=>?_
 refine P0 [] c fun _ c=>S0 (Ry [] mix c fun _ _ c=>?_)
 exact rE
theorem ZfI {p0 p1 p2 r} (h:ZaE p0 p1 p2 = some r):C0 71 [nV p0,I p1,I p2] [] (.bool r):=by
 unfold ZaE at h
 refine En func71 rfl ntmps71 fun _ fr w c=>?_
 refine T0 (Ebx (nC p0) c fun b1 _ _ c=>?_)
 refine Fp [] 1 c fun _ c=>E0 (S0 (Ry [(1,0),(5,0)] mix c fun _ _ c=>S0 (P0 [(1,0)] c fun _ c=>I0 c h (fun h=>?_) fun h=>?_)))
 refine Bd h fun x1 hx1 h=>Bd h fun x2 hx2 h=>Bd h fun x3 hx3 h=>S0 (rZ [(2,.eq (.bool x1)),(6,.eq (.bool x2)),(11,.eq (.bool x3))] [(1,0),(5,0),(10,0)] mix c ⟨Ncl c (kN (Xy hx1)) tt call89,Ncl c (fun hg=>Xy (iteT (gcT hg) hx2)) tt call89,Ncl c (fun hg=>Zdr (iteT (gcT hg) hx3)) tt call90,tt⟩ fun _ _ c=>?_)
 exact rE
 refine K0 (S0 (P0 [(1,0)] c fun _ c=>I0 c h (fun h=>P0 [] c fun _ c=>rE) fun h=>?_))
 refine K0 (S0 (P0 [(1,0)] c fun _ c=>wp_block (P0 [] c fun _ c=>I0 c h (fun h=>?_) fun h=>?_)))
 refine Bd h fun x4 hx4 h=>Bd h fun x5 hx5 h=>S0 (rZ [(2,.eq (.bool x4)),(7,.eq (.bool x5))] [(1,0),(6,0)] mix c ⟨Ncl c (kN (Xy hx4)) tt call89,Ncl c (fun hg=>Yc (iteT (gcT hg) hx5)) tt call70,tt⟩ fun _ _ c=>?_)
 exact rE
 refine S0 (P0 [] c fun _ c=>Bd h fun rl1 hit1 h=>?_)
 have hk1:=h
 refine Jr (fun s  (_:Unit)=>([(3,B b1 0),(7,.bool ((decide (p0.B ≥ 0)) && (decide (p0.B ≤ p2)))),(37,I p0.Op),(49,.bool s)],id,[])) hit1 c (fun h=>?_) fun s1r _ _ _ hrl c=>?_
 refine I0 c h (fun h=>?_) fun h=>?_
 refine K0 (⟨_,(),(sk h),c.rk [0] []⟩)
 refine P0 [] c fun _ c=>Mp (p0.Op == 7) [(49,.bool (p0.Op == 7))] [(49,.bool (p0.Op == 8))] [(49,.bool ((p0.Op == 7) || (p0.Op == 8)))] [49,52] c fun _ c=>⟨_,(),(sk h),c.rk [0] []⟩
 subst hrl
 refine I0 c h (fun h=>?_) fun h=>?_
 refine Bd h fun x6 hx6 h=>Bd h fun x7 hx7 h=>S0 (rZ [(2,.eq (.bool x6)),(6,.eq (.bool x7))] [(1,0),(5,0)] mix c ⟨Ncl c (kN (Xy hx6)) tt call89,Ncl c (fun hg=>Xy (iteT (gcT hg) hx7)) tt call89,tt⟩ fun _ _ c=>?_)
 exact rE
 refine S0 (P0 [] c fun _ c=>Bd h fun rl2 hit2 h=>?_)
 have hk2:=h
 refine Jr (fun s  (_:Unit)=>([(3,B b1 0),(7,.bool ((decide (p0.B ≥ 0)) && (decide (p0.B ≤ p2)))),(37,I p0.Op),(61,.bool s)],id,[])) hit2 c (fun h=>?_) fun s2r _ _ _ hrl c=>?_
 refine I0 c h (fun h=>?_) fun h=>?_
 refine K0 (⟨_,(),(sk h),c.rk [0] []⟩)
 refine P0 [] c fun _ c=>I0 c h (fun h=>?_) fun h=>?_
 refine K0 (⟨_,(),(sk h),c.rk [0] []⟩)
 refine P0 [] c fun _ c=>Mp (p0.Op == 6) [(61,.bool (p0.Op == 6))] [(61,.bool (p0.Op == 13))] [(61,.bool ((p0.Op == 6) || (p0.Op == 13)))] [61,65] c fun _ c=>⟨_,(),(sk h),c.rk [0] []⟩
 subst hrl
 refine I0 c h (fun h=>?_) fun h=>?_
 refine Bd h fun x8 hx8 h=>S0 (rZ [(2,.eq (.bool x8))] [(1,0),(5,0)] mix c ⟨Ncl c (kN (Xy hx8)) tt call89,tt⟩ fun _ _ c=>?_)
 exact rE
 refine S0 (P0 [] c fun _ c=>Mp (p0.Op == 9) [(74,.bool (p0.Op == 9))] [(74,.bool (p0.Op == 11))] [(74,.bool ((p0.Op == 9) || (p0.Op == 11)))] [74,76] c fun _ c=>I0 c h (fun h=>?_) fun h=>?_)
 refine S0 (Ry [(1,0)] mix c fun _ _ c=>?_)
 exact rE
 refine P0 [] c fun _ c=>I0 c h (fun h=>?_) fun h=>?_
 refine Bd h fun x9 hx9 h=>S0 (rZ [(2,.eq (.bool x9))] [(1,0)] mix c ⟨Ncl c (kN (Xy hx9)) tt call89,tt⟩ fun _ _ c=>?_)
 exact rE
 refine S0 (P0 [] c fun _ c=>Mp (p0.Op == 12) [(91,.bool (p0.Op == 12))] [(91,.bool (p0.Op == 14))] [(91,.bool ((p0.Op == 12) || (p0.Op == 14)))] [91,93] c fun _ c=>I0 c h (fun h=>?_) fun h=>K1 (bk (tn (P0 [] c fun _ c=>rE))))
 refine S0 (Ry [(1,0),(5,0)] mix c fun _ _ c=>?_)
 exact rE
theorem Zd9 {p0 r} (h:Zao n p0 = some r):C0 47 [gV p0 ga0 gc1] [lR ga0 p0.Code gc1] (.bool r):=by
 unfold Zao at h
 refine En func47 rfl ntmps47 fun _ fr w c=>?_
 refine T0 (Ebx (gC p0 ga0 gc1) c fun b1 _ _ c=>?_)
 refine Fp [] 1 c fun _ c=>E0 (S0 (Bd h fun x1 hx1 h=>Bd h fun x2 hx2 h=>S0 (rZ [(5,.eq (.bool x1)),(22,.eq (.bool x2))] [(1,0),(3,0),(9,0),(14,0),(19,0),(21,0)] mix c ⟨Ncl c (kN (ZeE hx1)) tt call69,Ncl c (fun hg=>Yc (iteF (gcF hg) hx2)) tt call70,tt⟩ fun _ _ c=>I0 c h (fun h=>?_) fun h=>?_)))
 exact P0 [] c fun _ c=>rE
 refine K0 (S0 (S0 (Ry [(1,0),(5,0)] mix c fun _ _ c=>I0 c h (fun h=>?_) fun h=>?_)))
 exact P0 [] c fun _ c=>rE
 refine K0 (S0 (P0 [(1,0)] c fun _ c=>Bd h fun rl1 hit1 h=>?_))
 have hk1:=h
 refine LpR (fun s1  (_:Unit)=>([(1,B b1 0),(39,L ga0 p0.Code gc1),(40,I (len p0.Code)),(41,I s1)],id,[])) (fun s  (_:Unit)=>([],id,[])) hit1 c () (c.rk [0] [0]) (fun s1 q1 _ _ _ c h hr1=>?_) fun s1r _ _ _ hrl c=>?_
 refine P0 [] c fun _ c=>S0 (I0 c h (fun h=>?_) fun h=>?_)
 refine K0 (S0 (wp_block (T0 (Bd h fun x3 hx3 h=>Eel c (.f 0) hx3 fun _ _ c=>?_))))
 refine Eal [I 0,I 0,I 0,I 0] c fun b2 _ _ c=>?_
 refine Ess 1 (nC x3) c fun _ c=>?_
 refine E0 (T0 (Fp [(0,1),(2,0),(4,0)] 6 c fun _ c=>Bd h fun x4 hx4 h=>Cb c (ZfI hx4) tt call71 fun _ _ _ c=>?_))
 refine Fp [] 1 c fun _ c=>E0 (I0 c h (fun h=>?_) fun h=>?_)
 refine P0 [] c fun _ c=>?_
 obtain rfl:=hr1 _ (sk h)
 obtain rfl:=sj hk1
 exact wp_ret (br (tr (tr (br (tr (Rt c () [] []))))))
 refine K1 (bk (tn (P1 [] c fun _ c=>Nx h () (c.rk [0] [0]))))
 refine wp_exit (te (te (be ?_)))
 obtain rfl:=hr1 _ (sk h)
 exact tn ⟨_,(),rfl,c.rk [0] [0]⟩
 subst hrl
 exact P0 [] c fun _ c=>rE
theorem Ze6 {p0 p1 r} (h:ZaN n p0 p1 = some r):C0 48 [I p0,L ga0 p1 gc1] [lR ga0 p1 gc1] (.bool r):=by
 unfold ZaN at h
 refine En func48 rfl ntmps48 fun _ fr w c=>?_
 refine P0 [] c fun _ c=>S0 (P0 [] c fun _ c=>Bd h fun rl1 hit1 h=>?_)
 have hk1:=h
 refine LpR (fun s1  (_:Unit)=>([(0,I p0),(7,L ga0 p1 gc1),(8,I (len p1)),(9,I s1)],id,[])) (fun s  (_:Unit)=>([],id,[])) hit1 c () (c.rk [] [0]) (fun s1 q1 _ _ _ c h hr1=>?_) fun s1r _ _ _ hrl c=>?_
 refine P0 [] c fun _ c=>S0 (I0 c h (fun h=>?_) fun h=>?_)
 refine K0 (S0 (wp_block (T0 (Bd h fun x1 hx1 h=>Eel c (.f 0) hx1 fun _ _ c=>?_))))
 refine Fp [] 1 c fun _ c=>E0 (T0 (Fp [] 2 c fun _ c=>Bd h fun x2 hx2 h=>Cb c (Yc hx2) tt call70 fun _ _ _ c=>?_))
 refine Fp [] 1 c fun _ c=>E0 (I0 c h (fun h=>?_) fun h=>?_)
 refine P0 [] c fun _ c=>?_
 obtain rfl:=hr1 _ (sk h)
 obtain rfl:=sj hk1
 exact wp_ret (br (tr (tr (br (tr (Rt c () [] []))))))
 refine K1 (bk (tn (P1 [] c fun _ c=>Nx h () (c.rk [] [0]))))
 refine wp_exit (te (te (be ?_)))
 obtain rfl:=hr1 _ (sk h)
 exact tn ⟨_,(),rfl,c.rk [] [0]⟩
 subst hrl
 exact P0 [] c fun _ c=>rE
theorem ZdZ {p0 p1 r} (h:Za6 n p0 p1 = some r):C0 23 [gV p0 ga0 gc1,L ga2 p1 gc3] [lR ga0 p0.Code gc1,lR ga2 p1 gc3] (.bool r):=by
 unfold Za6 at h
 refine En func23 rfl ntmps23 fun _ fr w c=>?_
 refine T0 (Ebx (gC p0 ga0 gc1) c fun b1 _ _ c=>?_)
 refine Fp [] 1 c fun _ c=>E0 (Bd h fun x1 hx1 h=>Bd h fun x2 hx2 h=>S0 (rZ [(1,.eq (.bool x1)),(13,.eq (.bool x2))] [(0,0),(6,0),(11,0)] mix c ⟨Ncl c (kN (Zd9 hx1)) ⟨.f 0,tt⟩ call47,Ncl c (fun hg=>Ze6 (iteT (gcT hg) hx2)) ⟨.f 1,tt⟩ call48,tt⟩ fun _ _ c=>?_))
 exact rE
theorem ZeY {p0 r} (h:Zcc p0 = some r):C0 24 [I p0] [] (.bool r):=by
 unfold Zcc at h
 refine En func24 rfl ntmps24 fun _ fr w c=>?_
 refine P0 [] c fun _ c=>S0 (Ry [] mix c fun _ _ c=>?_)
 exact rE
theorem Ze5 {p0 r} (h:GL.strconv_Itoa p0 = some r):C0 91 [I p0] [TBf prog] (Str.val r):=by
 unfold GL.strconv_Itoa at h
 split at h
 · rename_i hl
   obtain rfl:=sj h
   refine Con.lib fun w F hF=>?_
   have tb:TB prog "internal/strconv.uint64pow10" .u64 Lib.pow10Tab w F:=hF _ (Zn0.2 rfl)
   refine (Tryz.strconv_Itoa p0 hl.1 hl.2 w tb.tab).mono ?_
   rintro e w' ⟨rfl,k,os,rfl⟩
   exact ⟨rfl,ZkV w k os⟩
 · cases h
theorem Zcd {p0 r} (h:Yk p0 = some r):C0 73 [I p0] [TBf prog] (Str.val r):=by
 unfold Yk at h
 refine En func73 rfl ntmps73 fun _ fr w c=>?_
 refine P0 [] c fun _ c=>T0 (Fp [] 1 c fun _ c=>Bd h fun x1 hx1 h=>Cb c (Ze5 hx1) ⟨.f 0,tt⟩ call91 fun _ _ _ c=>?_)
 exact Fp [] 1 c fun _ c=>E0 rE
theorem Zdl {p0 p1 r} (h:X5 n p0 p1 = some r):Con prog 51 [gV p0 ga0 gc1,L ga2 p1 gc3] [] [lR ga0 p0.Code gc1,lR ga2 p1 gc3,TBf prog] fun (i:Oh)=>([L i.1 r i.2],[sl87 (L i.1 r i.2) r],[]):=by
 unfold X5 at h
 refine En func51 rfl ntmps51 fun _ fr w c=>?_
 refine T0 (Ebx (gC p0 ga0 gc1) c fun b1 _ _ c=>?_)
 refine Fp [] 1 c fun _ c=>E0 (T0 (Fp [] 2 c fun _ c=>Bd h fun x1 hx1 h=>Emk 87 c hx1 fun a1 c1 _ _ c=>?_))
 refine Fp [] 1 c fun _ c=>E0 (S0 (P0 [] c fun _ c=>Bd h fun rl1 hit1 h=>Lp (fun s1  (_:Unit)=>([(2,B b1 0),(5,L a1 x1 c1),(11,L ga2 p1 gc3),(12,I (len p1)),(13,I s1.1)],fun Γ=>Γ.set 1 (sl87 (L a1 x1 c1) s1.2),[])) (fun  (_:Unit)=>([(5,L a1 x1 c1)],fun Γ=>Γ.set 1 (sl87 (L a1 x1 c1) rl1),[])) hit1 c () (c.rk [0,1] [0,1,2]) (fun s1 q1 _ _ _ c h hr1=>?_) fun _ _ _ c=>?_))
 refine P0 [] c fun _ c=>S0 (I0 c h (fun h=>?_) fun h=>?_)
 refine K0 (S0 (wp_block (T0 (Fp [] 1 c fun _ c=>Bd h fun x2 hx2 h=>Eel c (.f 1) hx2 fun _ _ c=>?_))))
 refine Fp [] 2 c fun _ c=>E0 (Bd h fun x3 hx3 h=>Bd h fun x4 hx4 h=>YH mix (rM 9 [(3,.eq (Str.val x3)),(4,.eq (Str.val x4))] [(6,0)] c (fun ow=>⟨ZG ow (Ncl c (kN (Zcd hx3)) ⟨.f 2,tt⟩ call73),ZG ow (Ncat c (kN hx4)),tt⟩) fun _ _ _ _ _ c=>?_))
 refine Bd h fun x5 hx5 h=>Eset 1 c hx5 fun _ _ _ c=>?_
 refine E1 (bk (tn (P1 [] c fun _ c=>Nx h () (c.rk [0,1] [0,1,2]))))
 refine wp_exit (te (te (be ?_)))
 obtain rfl:=hr1 _ (sk h)
 exact tn ⟨(),c.rk [0,1] [0,1,2]⟩
 refine P0 [] c fun _ c=>?_
 obtain rfl:=sj h
 obtain ⟨he1,c⟩:=c.relen 1
 replace c:=c.eqs (v:=L a1 x1 c1) (u:=L a1 rl1 c1) 4 (by simp only [L,he1])
 exact wp_ret (Rt c (a1,c1) [1] [])
theorem ZA {p0 p1 r} (h:Z4 p0 p1 = some r):Con prog 74 [I p0,I p1] [] [] fun (_:Unit)=>([.agg #[I r.Op,I r.W,I r.N,Str.val r.Name,L0]],[],[]):=by
 unfold Z4 at h
 refine En func74 rfl ntmps74 fun _ fr w c=>?_
 refine T0 (Eal tZ c fun b1 _ _ c=>?_)
 refine E0 (S0 (T0 (Fp [] 2 c fun _ c=>Bd h fun x1 hx1 h=>Cb c (Yc hx1) tt call70 fun _ _ _ c=>?_)))
 refine Fp [] 1 c fun _ c=>E0 (I0 c h (fun h=>?_) fun h=>?_)
 refine T0 (Fp [] 1 c fun _ c=>Ess 0 tZ c fun _ c=>?_)
 refine E0 ?_
 cases h
 exact wp_ret (tr (Rg c () [] [] (.cell (α:=Agg 4) kk (.b 0) .nil)))
 refine K0 (T0 (Fp [] 3 c fun _ c=>Ess 0 [I 0,I p0,I p1,Str.val ⟨[]⟩,L0] c fun _ c=>?_))
 refine E0 ?_
 cases h
 exact wp_ret (Rg c () [] [] (.cell (α:=Agg 4) kk (.b 0) .nil))
theorem Zd6 {p0 r} (h:Zak n p0 = some r):Con prog 52 [gV p0 ga0 gc1] [] [lR ga0 p0.Code gc1] fun (i:Hp)=>([pJ r i],[OD (ownT 62) 62 (L i.1 r.Regs i.2.1) r.Regs,OD (ownT 62) 62 (L i.p2 r.Mem i.p3) r.Mem,sl3 (L i.p4 r.Stack i.p5) r.Stack,OD (ownT 62) 62 (L i.p6 r.Out i.p7) r.Out,OD (ownT 62) 62 (L i.p8 r.Cond i.p9) r.Cond,sl3 (L i.p10 r.Turns i.q11) r.Turns],[]):=by
 unfold Zak at h
 refine En func52 rfl ntmps52 fun _ fr w c=>?_
 refine T0 (Ebx (gC p0 ga0 gc1) c fun b1 _ _ c=>?_)
 refine Eal pZ c fun b2 _ _ c=>?_
 refine E0 (Bd h fun x1 hx1 h=>Bd h fun x2 hx2 h=>S0 (Jn (fun i:Nat × Ob Oh=>([(1,B b1 0),(2,B b2 0),(3,B i.1 0)],fun Γ=>Γ ++ [BX i.1 29 [I 0,L i.2.1 x1 i.p2,L i.p3 x2 i.q4,L none ([]:List Int) 0,I 0,L0,I 0,I 0,L0,L none ([]:List Int) 0],sl62 (L i.2.1 x1 i.p2) (List.replicate (List.length x1) (⟨0,0,0,⟨[]⟩,⟨none,0,0⟩⟩ : Rw.Term)),HP.all (ownT 62) (List.replicate (List.length x1) (⟨0,0,0,⟨[]⟩,⟨none,0,0⟩⟩ : Rw.Term)) x1,sl62 (L i.p3 x2 i.q4) (List.replicate (List.length x2) (⟨0,0,0,⟨[]⟩,⟨none,0,0⟩⟩ : Rw.Term)),HP.all (ownT 62) (List.replicate (List.length x2) (⟨0,0,0,⟨[]⟩,⟨none,0,0⟩⟩ : Rw.Term)) x2],[])) c ?_ fun i8 _ _ c=>?_))
 refine As mix c fun _ c=>?_
 replace c:=Cx.frs [(1,B b1 0),(2,B b2 0)] c
 refine Dq (fun i:Nat × Ob Oh=>([(1,B b1 0),(2,B b2 0),(3,B i.1 0)],fun Γ=>Γ ++ [BX i.1 29 [I 0,L i.2.1 x1 i.p2,L i.p3 x2 i.q4,L none ([]:List Int) 0,I 0,L0,I 0,I 0,L0,L none ([]:List Int) 0],sl62 (L i.2.1 x1 i.p2) (List.replicate (List.length x1) (⟨0,0,0,⟨[]⟩,⟨none,0,0⟩⟩ : Rw.Term)),HP.all (ownT 62) (List.replicate (List.length x1) (⟨0,0,0,⟨[]⟩,⟨none,0,0⟩⟩ : Rw.Term)) x1,sl62 (L i.p3 x2 i.q4) (List.replicate (List.length x2) (⟨0,0,0,⟨[]⟩,⟨none,0,0⟩⟩ : Rw.Term)),HP.all (ownT 62) (List.replicate (List.length x2) (⟨0,0,0,⟨[]⟩,⟨none,0,0⟩⟩ : Rw.Term)) x2],[])) (bN 7 127) (fun i=>[]) c (fun i7=>?_) fun hd8=>?_
 obtain ⟨b11,a17,c17,a18,c18⟩:=i7
 refine qnE tt fun _ _ c=>?_
 exact nN (b11,a17,c17,a18,c18) (c.rk (rg 7) [0])
 refine Dq (fun i:Nat × Ob Oh=>([(1,B b1 0),(2,B b2 0),(3,B i.1 0),(6,L i.2.1 x1 i.p2),(9,L i.p3 x2 i.q4)],fun Γ=>Γ ++ [BX i.1 29 pZ,sl62 (L i.2.1 x1 i.p2) (List.replicate (List.length x1) (⟨0,0,0,⟨[]⟩,⟨none,0,0⟩⟩ : Rw.Term)),HP.all (ownT 62) (List.replicate (List.length x1) (⟨0,0,0,⟨[]⟩,⟨none,0,0⟩⟩ : Rw.Term)) x1,sl62 (L i.p3 x2 i.q4) (List.replicate (List.length x2) (⟨0,0,0,⟨[]⟩,⟨none,0,0⟩⟩ : Rw.Term)),HP.all (ownT 62) (List.replicate (List.length x2) (⟨0,0,0,⟨[]⟩,⟨none,0,0⟩⟩ : Rw.Term)) x2],[])) (bN 7 47) (fun i=>[(4,10,.agg #[I 0,L i.2.1 x1 i.p2,L i.p3 x2 i.q4,L none ([]:List Int) 0,I 0,L0,I 0,I 0,L0,L none ([]:List Int) 0])]) c (fun i6=>?_) fun hd7=>?_
 obtain ⟨b10,a13,c13,a14,c14⟩:=i6
 refine qn [6] ⟨qP [],tt⟩ ⟨fun _ _ c=>?_,tt⟩
 refine Zf _ rfl rfl ?_
 refine Ess 2 [I 0,L a13 x1 c13,L a14 x2 c14,L none ([]:List Int) 0,I 0,L0,I 0,I 0,L0,L none ([]:List Int) 0] c fun _ c=>?_
 refine E0 (nQ hd8 (b10,a13,c13,a14,c14) (c.rk (rg 7) [0]))
 refine Dq (fun i:Ob Oh=>([(1,B b1 0),(2,B b2 0),(6,L i.1 x1 i.2.1),(9,L i.p2 x2 i.q3)],fun Γ=>Γ ++ [sl62 (L i.1 x1 i.2.1) (List.replicate (List.length x1) (⟨0,0,0,⟨[]⟩,⟨none,0,0⟩⟩ : Rw.Term)),HP.all (ownT 62) (List.replicate (List.length x1) (⟨0,0,0,⟨[]⟩,⟨none,0,0⟩⟩ : Rw.Term)) x1,sl62 (L i.p2 x2 i.q3) (List.replicate (List.length x2) (⟨0,0,0,⟨[]⟩,⟨none,0,0⟩⟩ : Rw.Term)),HP.all (ownT 62) (List.replicate (List.length x2) (⟨0,0,0,⟨[]⟩,⟨none,0,0⟩⟩ : Rw.Term)) x2],[])) (bN 7 15) (fun i=>[(4,10,.agg #[I 0,L i.1 x1 i.2.1,L i.p2 x2 i.q3,L none ([]:List Int) 0,I 0,L0,I 0,I 0,L0,L none ([]:List Int) 0])]) c (fun i3=>?_) fun hd4=>?_
 obtain ⟨a6,c6,a7,c7⟩:=i3
 refine qn [5] ⟨qP [],tt⟩ ⟨fun _ _ c=>?_,tt⟩
 refine Zf _ rfl rfl ?_
 refine Eal pZ c fun b9 _ _ c=>?_
 refine E0 (nQ hd7 (b9,a6,c6,a7,c7) (c.rk [0,1,6,2,3,4,5] [0]))
 refine Dq (fun i:Nat × Oh=>([(1,B b1 0),(2,B b2 0),(3,B i.1 0),(6,L i.2.1 x1 i.q2)],fun Γ=>Γ ++ [BX i.1 29 pZ,sl62 (L i.2.1 x1 i.q2) (List.replicate (List.length x1) (⟨0,0,0,⟨[]⟩,⟨none,0,0⟩⟩ : Rw.Term)),HP.all (ownT 62) (List.replicate (List.length x1) (⟨0,0,0,⟨[]⟩,⟨none,0,0⟩⟩ : Rw.Term)) x1],[])) (bN 7 33) (fun i=>[(1,7,B b1 1),(2,8,I p0.Mem)]) c (fun i4=>?_) fun hd5=>?_
 obtain ⟨b6,a8,c8⟩:=i4
 refine qn [3] ⟨qP [],qP [(0,0)],tt⟩ ⟨fun _ _ c=>?_,tt⟩
 refine Zf _ rfl rfl ?_
 refine Emkd 62 (⟨0,0,0,⟨[]⟩,⟨none,0,0⟩⟩ : Rw.Term) (fun w=>Zay 62 w) c hx2 fun a15 c15 _ _ c=>?_
 refine E0 (nQ hd7 (b6,a8,c8,a15,c15) (c.rk (rg 7) [0]))
 refine Dq (fun i:Nat × Oh=>([(1,B b1 0),(2,B b2 0),(3,B i.1 0),(9,L i.2.1 x2 i.q2)],fun Γ=>Γ ++ [BX i.1 29 pZ,sl62 (L i.2.1 x2 i.q2) (List.replicate (List.length x2) (⟨0,0,0,⟨[]⟩,⟨none,0,0⟩⟩ : Rw.Term)),HP.all (ownT 62) (List.replicate (List.length x2) (⟨0,0,0,⟨[]⟩,⟨none,0,0⟩⟩ : Rw.Term)) x2],[])) (bN 7 46) (fun i=>[]) c (fun i5=>?_) fun hd6=>?_
 obtain ⟨b8,a10,c10⟩:=i5
 refine qn [0] tt ⟨fun _ _ c=>?_,tt⟩
 refine Zf _ rfl rfl ?_
 refine Emkd 62 (⟨0,0,0,⟨[]⟩,⟨none,0,0⟩⟩ : Rw.Term) (fun w=>Zay 62 w) c hx1 fun a16 c16 _ _ c=>?_
 refine E0 (nQ hd7 (b8,a16,c16,a10,c10) (c.rk [0,1,2,5,6,3,4] [0]))
 refine Dq (fun i:Oh=>([(1,B b1 0),(2,B b2 0),(6,L i.1 x1 i.2)],fun Γ=>Γ ++ [sl62 (L i.1 x1 i.2) (List.replicate (List.length x1) (⟨0,0,0,⟨[]⟩,⟨none,0,0⟩⟩ : Rw.Term)),HP.all (ownT 62) (List.replicate (List.length x1) (⟨0,0,0,⟨[]⟩,⟨none,0,0⟩⟩ : Rw.Term)) x1],[])) (bN 7 1) (fun i=>[(1,7,B b1 1),(2,8,I p0.Mem)]) c (fun i1=>?_) fun hd1=>?_
 obtain ⟨a2,c2⟩:=i1
 refine qn [3,5] ⟨qP [],qP [(0,0)],tt⟩ ⟨fun _ _ c=>?_,fun _ _ c=>?_,tt⟩
 refine Zf _ rfl rfl ?_
 refine Emkd 62 (⟨0,0,0,⟨[]⟩,⟨none,0,0⟩⟩ : Rw.Term) (fun w=>Zay 62 w) c hx2 fun a5 c5 _ _ c=>?_
 refine E0 (nQ hd4 (a2,c2,a5,c5) (c.rk (rg 6) [0]))
 refine Zf _ rfl rfl ?_
 refine Eal pZ c fun b5 _ _ c=>?_
 refine E0 (nQ hd5 (b5,a2,c2) (c.rk [0,1,4,2,3] [0]))
 refine Dq (fun i:Oh=>([(1,B b1 0),(2,B b2 0),(9,L i.1 x2 i.2)],fun Γ=>Γ ++ [sl62 (L i.1 x2 i.2) (List.replicate (List.length x2) (⟨0,0,0,⟨[]⟩,⟨none,0,0⟩⟩ : Rw.Term)),HP.all (ownT 62) (List.replicate (List.length x2) (⟨0,0,0,⟨[]⟩,⟨none,0,0⟩⟩ : Rw.Term)) x2],[])) (bN 7 14) (fun i=>[]) c (fun i2=>?_) fun hd2=>?_
 obtain ⟨a4,c4⟩:=i2
 refine qn [0,5] tt ⟨fun _ _ c=>?_,fun _ _ c=>?_,tt⟩
 refine Zf _ rfl rfl ?_
 refine Emkd 62 (⟨0,0,0,⟨[]⟩,⟨none,0,0⟩⟩ : Rw.Term) (fun w=>Zay 62 w) c hx1 fun a9 c9 _ _ c=>?_
 refine E0 (nQ hd4 (a9,c9,a4,c4) (c.rk [0,1,4,5,2,3] [0]))
 refine Zf _ rfl rfl ?_
 refine Eal pZ c fun b7 _ _ c=>?_
 refine E0 (nQ hd6 (b7,a4,c4) (c.rk [0,1,4,2,3] [0]))
 refine Dq (fun i:Nat=>([(1,B b1 0),(2,B b2 0),(3,B i 0)],fun Γ=>Γ ++ [BX i 29 pZ],[])) (bN 7 32) (fun i=>[(1,7,B b1 1),(2,8,I p0.Mem)]) c (fun b4=>?_) fun hd3=>?_
 refine qn [0,3] ⟨qP [],qP [(0,0)],tt⟩ ⟨fun _ _ c=>?_,fun _ _ c=>?_,tt⟩
 refine Zf _ rfl rfl ?_
 refine Emkd 62 (⟨0,0,0,⟨[]⟩,⟨none,0,0⟩⟩ : Rw.Term) (fun w=>Zay 62 w) c hx1 fun a11 c11 _ _ c=>?_
 refine E0 (nQ hd5 (b4,a11,c11) (c.rk (rg 5) [0]))
 refine Zf _ rfl rfl ?_
 refine Emkd 62 (⟨0,0,0,⟨[]⟩,⟨none,0,0⟩⟩ : Rw.Term) (fun w=>Zay 62 w) c hx2 fun a12 c12 _ _ c=>?_
 refine E0 (nQ hd6 (b4,a12,c12) (c.rk (rg 5) [0]))
 refine q0 (qs:=[(1,7,B b1 1),(2,8,I p0.Mem)]) c (qn [0,3,5] ⟨qP [],qP [(0,0)],tt⟩ ⟨fun _ _ c=>?_,fun _ _ c=>?_,fun _ _ c=>?_,tt⟩)
 refine Zf _ rfl rfl ?_
 refine Emkd 62 (⟨0,0,0,⟨[]⟩,⟨none,0,0⟩⟩ : Rw.Term) (fun w=>Zay 62 w) c hx1 fun a1 c1 _ _ c=>?_
 refine E0 (nQ hd1 (a1,c1) (c.rk (rg 4) [0]))
 refine Zf _ rfl rfl ?_
 refine Emkd 62 (⟨0,0,0,⟨[]⟩,⟨none,0,0⟩⟩ : Rw.Term) (fun w=>Zay 62 w) c hx2 fun a3 c3 _ _ c=>?_
 refine E0 (nQ hd2 (a3,c3) (c.rk (rg 4) [0]))
 refine Zf _ rfl rfl ?_
 refine Eal pZ c fun b3 _ _ c=>?_
 refine E0 (nQ hd3 (b3) (c.rk [0,1,2] [0]))
 obtain ⟨b12,a19,c19,a20,c20⟩:=i8
 refine S0 (P0 [(1,2)] c fun _ c=>Bd h fun rl1 hit1 h=>Lp (fun s1  (i:List Rw.Term)=>([(1,B b1 0),(2,B b2 0),(3,B b12 0),(13,I (len x1)),(14,I s1.1)],fun Γ=>(Γ.set 3 (sl62 (L a19 x1 c19) (i))).set 4 (HP.all (ownT 62) (i) s1.2),[])) (fun  (i:List Rw.Term)=>([(1,B b1 0),(2,B b2 0),(3,B b12 0)],fun Γ=>(Γ.set 3 (sl62 (L a19 x1 c19) (i))).set 4 (HP.all (ownT 62) (i) rl1),[])) hit1 c ((List.replicate (List.length x1) (⟨0,0,0,⟨[]⟩,⟨none,0,0⟩⟩ : Rw.Term))) (c.rk (rg 7) [0]) (fun s1 q1 i9 _ _ c h hr1=>?_) fun k1 _ _ c=>?_)
 refine P0 [] c fun _ c=>S0 (I0 c h (fun h=>?_) fun h=>?_)
 refine K0 (S0 (wp_block (P0 [] c fun _ c=>Bd h fun x3 hx3 h=>YH mix (rM 6 [(5,.eq (.agg #[I x3.Op,I x3.W,I x3.N,Str.val x3.Name,L0]))] [(1,2),(4,0)] c (fun ow=>⟨ZG ow (Ncl c (kN (ZA hx3)) tt call74),tt⟩) fun _ _ _ _ _ c=>?_))))
 replace c:=c.nilo (ownT 62) 62
 replace c:=c.pack (H:=ownT 62 (u0 x3) (t0 x3)) [OD (ownT 62) 62 (L0) ([]:List D.Term)] [7] (fun A h=>ZeN (x:=(t0 x3)) (Sep.sole h))
 refine Bd h fun x4 hx4 h=>Esetd 3 4 7 c hx4 fun _ _ _ c=>?_
 refine E1 (bk (tn (P1 [] c fun _ c=>Nx h ((List.set i9 (s1.1).toNat (u0 x3))) (c.rk [0,1,2,3,6,4,5] [0]))))
 refine wp_exit (te (te (be ?_)))
 obtain rfl:=hr1 _ (sk h)
 exact tn ⟨(i9),c.rk (rg 7) [0]⟩
 refine S0 (P0 [(1,2)] c fun _ c=>Bd h fun rl2 hit2 h=>Lp (fun s2  (i:List Rw.Term)=>([(1,B b1 0),(2,B b2 0),(3,B b12 0),(27,I (len x2)),(28,I s2.1)],fun Γ=>(Γ.set 5 (sl62 (L a20 x2 c20) (i))).set 6 (HP.all (ownT 62) (i) s2.2),[])) (fun  (i:List Rw.Term)=>([(2,B b2 0),(3,B b12 0)],fun Γ=>(Γ.set 5 (sl62 (L a20 x2 c20) (i))).set 6 (HP.all (ownT 62) (i) rl2),[])) hit2 c ((List.replicate (List.length x2) (⟨0,0,0,⟨[]⟩,⟨none,0,0⟩⟩ : Rw.Term))) (c.rk (rg 7) [0]) (fun s2 q2 i10 _ _ c h hr2=>?_) fun k2 _ _ c=>?_)
 refine P0 [] c fun _ c=>S0 (I0 c h (fun h=>?_) fun h=>?_)
 refine K0 (S0 (wp_block (P0 [] c fun _ c=>Bd h fun x5 hx5 h=>YH mix (rM 6 [(5,.eq (.agg #[I x5.Op,I x5.W,I x5.N,Str.val x5.Name,L0]))] [(1,2),(4,0)] c (fun ow=>⟨ZG ow (Ncl c (kN (ZA hx5)) tt call74),tt⟩) fun _ _ _ _ _ c=>?_))))
 replace c:=c.nilo (ownT 62) 62
 replace c:=c.pack (H:=ownT 62 (u0 x5) (t0 x5)) [OD (ownT 62) 62 (L0) ([]:List D.Term)] [7] (fun A h=>ZeN (x:=(t0 x5)) (Sep.sole h))
 refine Bd h fun x6 hx6 h=>Esetd 5 6 7 c hx6 fun _ _ _ c=>?_
 refine E1 (bk (tn (P1 [] c fun _ c=>Nx h ((List.set i10 (s2.1).toNat (u0 x5))) (c.rk (rg 7) [0]))))
 refine wp_exit (te (te (be ?_)))
 obtain rfl:=hr2 _ (sk h)
 exact tn ⟨(i10),c.rk (rg 7) [0]⟩
 refine T0 (Fp [(0,2)] 1 c fun _ c=>Ess 1 [I 0,L a19 x1 c19,L a20 x2 c20,L none ([]:List Int) 0,I 0,L0,I 0,I 0,L0,L none ([]:List Int) 0] c fun _ c=>?_)
 refine E0 ?_
 replace c:=c.odc 3 4
 replace c:=c.odc 3 4
 replace c:=c.nil (α:=Int) 3
 replace c:=c.nilo (ownT 62) 62
 replace c:=c.nilo (ownT 62) 62
 replace c:=c.nil (α:=Int) 3
 cases h
 replace c:=c.nf
 obtain ⟨he1,c⟩:=c.releno 3
 replace c:=c.bxe (cs:=[I 0,L a19 x1 c19,L a20 x2 c20,L none ([]:List Int) 0,I 0,L0,I 0,I 0,L0,L none ([]:List Int) 0]) (cs':=[I 0,L a19 rl1 c19,L a20 x2 c20,L none ([]:List Int) 0,I 0,L0,I 0,I 0,L0,L none ([]:List Int) 0]) 1 (by simp only [L,he1])
 replace c:=c.bxe (cs:=[I 0,L a19 x1 c19,L a20 x2 c20,L none ([]:List Int) 0,I 0,L0,I 0,I 0,L0,L none ([]:List Int) 0]) (cs':=[I 0,L a19 rl1 c19,L a20 x2 c20,L none ([]:List Int) 0,I 0,L0,I 0,I 0,L0,L none ([]:List Int) 0]) 2 (by simp only [L,he1])
 obtain ⟨he2,c⟩:=c.releno 4
 replace c:=c.bxe (cs:=[I 0,L a19 rl1 c19,L a20 x2 c20,L none ([]:List Int) 0,I 0,L0,I 0,I 0,L0,L none ([]:List Int) 0]) (cs':=[I 0,L a19 rl1 c19,L a20 rl2 c20,L none ([]:List Int) 0,I 0,L0,I 0,I 0,L0,L none ([]:List Int) 0]) 1 (by simp only [L,he2])
 replace c:=c.bxe (cs:=[I 0,L a19 rl1 c19,L a20 x2 c20,L none ([]:List Int) 0,I 0,L0,I 0,I 0,L0,L none ([]:List Int) 0]) (cs':=[I 0,L a19 rl1 c19,L a20 rl2 c20,L none ([]:List Int) 0,I 0,L0,I 0,I 0,L0,L none ([]:List Int) 0]) 2 (by simp only [L,he2])
 exact wp_ret (Rg c (a19,c19,a20,c20,none,0,none,0,none,0,none,0) [3,4,5,6,7,8] [] (.cell (α:=Agg 9) kk (.b 1) .nil))
theorem ZfK {p0 p1 p2 r} (h:ZbJ p0 p1 p2 = some r):C0 75 [gV p0 ga0 gc1,pV p1 ga2 gc3 ga4 gc5 ga6 gc7 ga8 gc9 ga10 gc11 ga12 gc13,nV p2] [lR ga0 p0.Code gc1,lR ga2 p1.Regs gc3,lR ga4 p1.Mem gc5,lR ga6 p1.Stack gc7,lR ga8 p1.Out gc9,lR ga10 p1.Cond gc11,lR ga12 p1.Turns gc13] (I r):=by
 unfold ZbJ at h
 refine En func75 rfl ntmps75 fun _ fr w c=>?_
 refine T0 (Ebx (gC p0 ga0 gc1) c fun b1 _ _ c=>?_)
 refine Ebx (pC p1 ga2 gc3 ga4 gc5 ga6 gc7 ga8 gc9 ga10 gc11 ga12 gc13) c fun b2 _ _ c=>?_
 refine Ebx (nC p2) c fun b3 _ _ c=>?_
 refine Fp [] 1 c fun _ c=>E0 (S0 (wp_block (S0 (Ry [(1,2),(5,1),(7,0)] mix c fun _ _ c=>I0 c h (fun h=>?_) fun h=>?_))))
 exact P0 [] c fun _ c=>rE
 refine S0 (Ry [(1,2),(5,1)] mix c fun _ _ c=>I0 c h (fun h=>?_) fun h=>?_)
 exact P0 [] c fun _ c=>rE
 refine S0 (Ry [(1,2),(5,1)] mix c fun _ _ c=>I0 c h (fun h=>?_) fun h=>?_)
 exact P0 [] c fun _ c=>rE
 refine S0 (Ry [(1,2),(5,1)] mix c fun _ _ c=>I0 c h (fun h=>?_) fun h=>?_)
 exact P0 [] c fun _ c=>rE
 exact K1 (bk (tn (P0 [] c fun _ c=>rE)))
theorem Zeq {p0 r} (h:YP p0 = some r):C0 151 [I p0] [] (I r):=by
 unfold YP at h
 refine En func151 rfl ntmps151 fun _ fr w c=>?_
 refine P0 [] c fun _ c=>S0 (wp_block (S0 (Ry [] mix c fun _ _ c=>I0 c h (fun h=>?_) fun h=>?_)))
 exact P0 [] c fun _ c=>rE
 refine S0 (Ry [] mix c fun _ _ c=>I0 c h (fun h=>?_) fun h=>?_)
 exact P0 [] c fun _ c=>rE
 refine S0 (Ry [] mix c fun _ _ c=>I0 c h (fun h=>?_) fun h=>?_)
 exact P0 [] c fun _ c=>rE
 exact P0 [] c fun _ c=>I0 c h (fun h=>P0 [] c fun _ c=>rE) fun h=>K1 (bk (tn (P0 [] c fun _ c=>rE)))
theorem Zd3 {p0 r} (h:Zar p0 = some r):C0 152 [tV p0 ga0 gc1] [lR ga0 p0.Kids gc1] (.bool r):=by
 unfold Zar at h
 refine En func152 rfl ntmps152 fun _ fr w c=>?_
 refine T0 (Ebx (tC p0 ga0 gc1) c fun b1 _ _ c=>?_)
 refine Fp [] 1 c fun _ c=>E0 (P0 [(1,0)] c fun _ c=>S0 (wp_block (S0 (Ry [(1,0),(5,0)] mix c fun _ _ c=>I0 c h (fun h=>?_) fun h=>?_))))
 exact P0 [] c fun _ c=>rE
 refine S0 (Ry [(1,0),(5,0)] mix c fun _ _ c=>I0 c h (fun h=>?_) fun h=>?_)
 refine Bd h fun x1 hx1 h=>?_
 obtain ⟨ep1,u1,c⟩:=c.elp (.f 0) hx1
 obtain ⟨a1,c1,rfl,c⟩:=c.o_Term 2
 refine S0 (rZ [(1,.eq (.pointer (some ep1))),(3,.eq (I x1.W))] [(5,0)] mix c ⟨Nie c 1,Nlc c 1 1,tt⟩ fun _ _ c=>?_)
 exact rE
 refine S0 (Ry [(1,0),(5,0)] mix c fun _ _ c=>I0 c h (fun h=>?_) fun h=>?_)
 refine Bd h fun x2 hx2 h=>?_
 obtain ⟨ep2,u2,c⟩:=c.elp (.f 0) hx2
 obtain ⟨a2,c2,rfl,c⟩:=c.o_Term 2
 refine Bd h fun x3 hx3 h=>S0 (rZ [(1,.eq (.pointer (some ep2))),(3,.eq (I x2.W)),(9,Pd.el (x3:D.Term)),(10,Pd.fl (I x3.W)),(11,.eq (I x3.W))] [(5,0),(13,0)] mix c ⟨Nie c 1,Nlc c 1 1,Nid c (.f 0) (gT hx3),Nfa c 9 (atN 9) Zb3,Nlf c 10 (atN 10),tt⟩ fun _ _ c=>?_)
 exact rE
 refine S0 (Ry [(1,0),(5,0)] mix c fun _ _ c=>I0 c h (fun h=>?_) fun h=>?_)
 refine Bd h fun x4 hx4 h=>?_
 obtain ⟨ep3,u3,c⟩:=c.elp (.f 0) hx4
 obtain ⟨a3,c3,rfl,c⟩:=c.o_Term 2
 refine Bd h fun x5 hx5 h=>?_
 obtain ⟨ep4,u4,c⟩:=c.elp (.f 0) hx5
 obtain ⟨a4,c4,rfl,c⟩:=c.o_Term 5
 refine S0 (rZ [(1,.eq (.pointer (some ep3))),(3,.eq (I x4.W)),(5,.eq (.pointer (some ep4))),(7,.eq (I x5.W))] [(11,0)] mix c ⟨Nie c 1,Nlc c 1 1,Nie c 4,Nlc c 4 1,tt⟩ fun _ _ c=>?_)
 exact rE
 refine P0 [(1,0)] c fun _ c=>I0 c h (fun h=>?_) fun h=>?_
 refine Bd h fun x6 hx6 h=>?_
 obtain ⟨ep5,u5,c⟩:=c.elp (.f 0) hx6
 obtain ⟨a5,c5,rfl,c⟩:=c.o_Term 2
 refine Bd h fun x7 hx7 h=>Bd h fun x8 hx8 h=>S0 (rZ [(1,.eq (.pointer (some ep5))),(3,.eq (I x6.W)),(7,Pd.el (x7:D.Term)),(8,Pd.fl (I x7.W)),(9,.eq (I x7.W)),(16,Pd.el (x8:D.Term)),(17,Pd.fl (I x8.W)),(18,.eq (I x8.W))] [(11,0),(20,0)] mix c ⟨Nie c 1,Nlc c 1 1,Nid c (.f 0) (gT hx7),Nfa c 7 (atN 7) Zb3,Nlf c 8 (atN 8),Nid c (.f 0) (gT hx8),Nfa c 16 (atN 16) Zb3,Nlf c 17 (atN 17),tt⟩ fun _ _ c=>?_)
 exact rE
 refine P0 [(1,0)] c fun _ c=>I0 c h (fun h=>?_) fun h=>?_
 refine Bd h fun x9 hx9 h=>?_
 obtain ⟨ep6,u6,c⟩:=c.elp (.f 0) hx9
 obtain ⟨a6,c6,rfl,c⟩:=c.o_Term 2
 refine Bd h fun x10 hx10 h=>?_
 obtain ⟨ep7,u7,c⟩:=c.elp (.f 0) hx10
 obtain ⟨a7,c7,rfl,c⟩:=c.o_Term 5
 refine S0 (rZ [(1,.eq (.pointer (some ep6))),(3,.eq (I x9.W)),(5,.eq (.pointer (some ep7))),(7,.eq (I x10.W))] [(10,0)] mix c ⟨Nie c 1,Nlc c 1 1,Nie c 4,Nlc c 4 1,tt⟩ fun _ _ c=>?_)
 exact rE
 refine P0 [(1,0)] c fun _ c=>I0 c h (fun h=>?_) fun h=>?_
 refine Bd h fun x11 hx11 h=>S0 (rZ [(7,Pd.el (x11:D.Term)),(8,Pd.fl (I x11.W)),(9,.eq (I x11.W))] [(1,0),(5,0),(11,0)] mix c ⟨Nid c (.f 0) (gT hx11),Nfa c 7 (atN 7) Zb3,Nlf c 8 (atN 8),tt⟩ fun _ _ c=>?_)
 exact rE
 refine K1 (bk (tn (Bd h fun x12 hx12 h=>?_)))
 obtain ⟨ep8,u8,c⟩:=c.elp (.f 0) hx12
 obtain ⟨a8,c8,rfl,c⟩:=c.o_Term 2
 refine S0 (rZ [(1,.eq (.pointer (some ep8))),(3,.eq (I x12.W))] [(5,0)] mix c ⟨Nie c 1,Nlc c 1 1,tt⟩ fun _ _ c=>?_)
 exact rE
theorem ZcI {p0 r} (h:ZaM n p0 = some r):C0 136 [Str.val p0] [] (.bool r):=by
 unfold ZaM at h
 refine En func136 rfl ntmps136 fun _ fr w c=>?_
 refine P0 [] c fun _ c=>S0 (S0 (Ry [] mix c fun _ _ c=>I0 c h (fun h=>?_) fun h=>?_))
 exact P0 [] c fun _ c=>rE
 refine K0 (S0 (P0 [] c fun _ c=>Bd h fun rl1 hit1 h=>?_))
 have hk1:=h
 refine LpR (fun s1  (_:Unit)=>([(0,Str.val p0),(3,I s1)],id,[])) (fun s  (_:Unit)=>([],id,[])) hit1 c () (c.rk [] []) (fun s1 q1 _ _ _ c h hr1=>?_) fun s1r _ _ _ hrl c=>?_
 refine S0 (P0 [] c fun _ c=>I0 c h (fun h=>?_) fun h=>?_)
 refine K0 (S0 (wp_block (Bd h fun x1 hx1 h=>Bd h fun x2 hx2 h=>S0 (rZ [(2,.eq (.int .u8 x1)),(7,.eq (.int .u8 x2))] [] mix c ⟨Nix c (kN hx1),Nix c (gT hx2),tt⟩ fun _ _ c=>Bd h fun x3 hx3 h=>Bd h fun x4 hx4 h=>S0 (rZ [(2,.eq (.int .u8 x3)),(7,.eq (.int .u8 x4))] [] mix c ⟨Nix c (kN hx3),Nix c (gT hx4),tt⟩ fun _ _ c=>S0 (Ry [] mix c fun _ _ c=>I0 c h (fun h=>?_) fun h=>?_))))))
 refine P0 [] c fun _ c=>?_
 obtain rfl:=hr1 _ (sk h)
 obtain rfl:=sj hk1
 exact wp_ret (br (tr (tr (br (tr (Rt c () [] []))))))
 refine K1 (bk (tn (P1 [] c fun _ c=>Nx h () (c.rk [] []))))
 refine wp_exit (te (te (be ?_)))
 obtain rfl:=hr1 _ (sk h)
 exact tn ⟨_,(),rfl,c.rk [] []⟩
 subst hrl
 exact P0 [] c fun _ c=>rE
theorem ZbN {p0 p1 gb0 gu1 r} (h:Y6 n p0 p1 = some r):Con prog 153 [B gb0 0,tV p1 ga2 gc3] [BX gb0 137 [I p0.count,gu1],OM map85 (gu1) p0.widths] [lR ga2 p1.Kids gc3] fun (i:Value)=>([.bool r.1],[BX gb0 137 [I r.2.count,i],OM map85 (i) r.2.widths],[]):=by
 unfold Y6 at h
 refine En func153 rfl ntmps153 fun _ fr w c=>?_
 refine T0 (Ebx (tC p1 ga2 gc3) c fun b1 _ _ c=>?_)
 refine Fp [] 1 c fun _ c=>E0 (S0 (T0 (Fp [(1,1)] 2 c fun _ c=>Bd h fun x1 hx1 h=>Cb c (ZcI hx1) tt call136 fun _ _ _ c=>?_)))
 refine Fp [] 1 c fun _ c=>E0 (I0 c h (fun h=>?_) fun h=>?_)
 refine P0 [] c fun _ c=>?_
 cases h
 exact wp_ret (tr (Rt c (gu1) [0,1] []))
 refine K0 (S0 (T0 (Fp [(3,0)] 4 c fun _ c=>Enm 1 c fun _ c=>?_)))
 refine E0 (If c (b:=(Option.isNone p0.widths)) (fun hb=>?_) fun hb=>?_)
 replace h:=iteT hb h
 obtain rfl:=c.nom 1 hb
 replace c:=c.dp [1]
 refine T1 (Fp [] 1 c fun _ c=>Emm map85 c fun b2 _ _ c=>?_)
 refine Fp [] 2 c fun _ c=>Esb 0 1 (.map (some b2)) c fun _ c=>?_
 refine E0 (S0 (Bd h fun x2 hx2 h=>S0 (rZ [(6,.eq (.tuple #[I x2.1,.bool x2.2]))] [(3,0),(5,1)] mix c ⟨Nmg2 2 c (kN hx2),tt⟩ fun _ _ c=>P0 [] c fun _ c=>I0 c h (fun h=>?_) fun h=>?_)))
 refine P0 [(2,1)] c fun _ c=>?_
 replace c:=c.om 2
 cases h
 exact wp_ret (tr (Rt c (.map (some b2)) [0,2] []))
 refine K0 (S0 (YH mix (rM 8 [] [(3,0),(5,1),(7,1)] c (fun ow=>tt) fun _ _ _ _ _ c=>Bd h fun x3 hx3 h=>Emp 2 c hx3 fun _ c=>?_)))
 refine E0 (P0 [] c fun _ c=>?_)
 replace c:=c.om 2
 cases h
 exact wp_ret (Rt c (.map (some b2)) [0,2] [])
 replace h:=iteF hb h
 obtain ⟨b3,rfl,c⟩:=c.som 1 hb
 refine K0 (S0 (Bd h fun x4 hx4 h=>S0 (rZ [(6,.eq (.tuple #[I x4.1,.bool x4.2]))] [(3,0),(5,1)] mix c ⟨Nmg2 1 c (kN hx4),tt⟩ fun _ _ c=>P0 [] c fun _ c=>I0 c h (fun h=>?_) fun h=>?_)))
 refine P0 [(2,1)] c fun _ c=>?_
 replace c:=c.om 1
 cases h
 exact wp_ret (tr (Rt c (.map (some b3)) [0,1] []))
 refine K0 (S0 (YH mix (rM 8 [] [(3,0),(5,1),(7,1)] c (fun ow=>tt) fun _ _ _ _ _ c=>Bd h fun x5 hx5 h=>Emp 1 c hx5 fun _ c=>?_)))
 refine E0 (P0 [] c fun _ c=>?_)
 replace c:=c.om 1
 cases h
 exact wp_ret (Rt c (.map (some b3)) [0,1] [])
theorem ZcC {n:Nat}:∀ {p0 p1 gb0 gu1 ga2 gc3 r} (h:ZF n p0 p1 = some r),Con prog 138 [B gb0 0,tV p1 ga2 gc3] [BX gb0 137 [I p0.count,gu1],OM map85 (gu1) p0.widths] [lR ga2 p1.Kids gc3] fun (i:Value)=>([.bool r.1],[BX gb0 137 [I r.2.count,i],OM map85 (i) r.2.widths],[]):=by
 induction n with
 | zero=>intro p0 p1 gb0 gu1 ga2 gc3 r h; simp [ZF] at h
 | succ n ih=>
 intro p0 p1 gb0 gu1 ga2 gc3 r h
 rw [ZF] at h
 refine En func138 rfl ntmps138 fun _ fr w c=>?_
 refine T0 (Ebx (tC p1 ga2 gc3) c fun b1 _ _ c=>?_)
 refine Fp [] 1 c fun _ c=>E0 (T0 (Fp [(3,0)] 7 c fun _ c=>Esb 0 0 (I (w64 (p0.count + 1))) c fun _ c=>?_))
 refine E0 (S0 (Bd h fun x1 hx1 h=>Bd h fun x2 hx2 h=>S0 (rZ [(8,.eq (.bool x1)),(17,.eq (I x2))] [(3,0),(7,1),(13,1),(16,1)] mix c ⟨Ncl c (fun hg=>YV (iteF (gcF hg) hx1)) tt call88,Ncl c (fun hg=>Zeq (iteF (gcF hg) hx2)) tt call151,tt⟩ fun _ _ c=>I0 c h (fun h=>?_) fun h=>?_)))
 refine P0 [] c fun _ c=>?_
 cases h
 exact wp_ret (tr (Rt c (gu1) [0,1] []))
 refine K0 (S0 (P0 [(1,1)] c fun _ c=>Bd h fun rl1 hit1 h=>?_))
 have hk1:=h
 refine LpR (fun s1  (_:Unit)=>([(0,B gb0 0),(3,B b1 0),(36,I (len p1.Kids)),(37,I s1)],id,[])) (fun s  (_:Unit)=>([(0,B gb0 0),(3,B b1 0)],id,[])) hit1 c () (c.rk [0,1,2] [0]) (fun s1 q1 _ _ _ c h hr1=>?_) fun s1r _ _ _ hrl c=>?_
 refine P0 [] c fun _ c=>S0 (I0 c h (fun h=>?_) fun h=>?_)
 refine K0 (S0 (wp_block (P0 [] c fun _ c=>T0 (Fp [(1,1)] 3 c fun _ c=>Bd h fun x3 hx3 h=>Eef c (.f 0) hx3 Zb3 fun _ _ _ c=>?_))))
 refine Bd h fun x4 hx4 h=>Cb c (YV hx4) tt call88 fun _ _ _ c=>?_
 refine Fp [] 1 c fun _ c=>E0 (I0 c h (fun h=>?_) fun h=>?_)
 refine P0 [] c fun _ c=>?_
 obtain rfl:=hr1 _ (sk h)
 obtain rfl:=sj hk1
 exact wp_ret (br (tr (tr (br (tr (Rt c (gu1) [0,1] []))))))
 refine K1 (bk (tn (P1 [] c fun _ c=>Nx h () (c.rk [0,1,2] [0]))))
 refine wp_exit (te (te (be ?_)))
 obtain rfl:=hr1 _ (sk h)
 exact tn ⟨_,(),rfl,c.rk [0,1,2] [0]⟩
 subst hrl
 refine S0 (T0 (Fp [(0,1)] 1 c fun _ c=>Bd h fun x5 hx5 h=>Cb c (Zd3 hx5) ⟨.f 0,tt⟩ call152 fun _ _ _ c=>?_))
 refine Fp [] 1 c fun _ c=>E0 (I0 c h (fun h=>?_) fun h=>?_)
 refine P0 [] c fun _ c=>?_
 cases h
 exact wp_ret (tr (Rt c (gu1) [0,1] []))
 refine K0 (S0 (Bd h fun x6 hx6 h=>S0 (rZ [(8,.eq (.bool x6))] [(1,1),(5,1),(7,1)] mix c ⟨Ncl c (fun hg=>Yc (iteT (gcT hg) hx6)) tt call70,tt⟩ fun _ _ c=>I0 c h (fun h=>?_) fun h=>?_)))
 refine P0 [] c fun _ c=>?_
 cases h
 exact wp_ret (tr (Rt c (gu1) [0,1] []))
 refine K0 (S0 (S0 (Ry [(1,1),(5,1),(10,1)] mix c fun _ _ c=>I0 c h (fun h=>?_) fun h=>?_)))
 refine P0 [] c fun _ c=>?_
 cases h
 exact wp_ret (tr (Rt c (gu1) [0,1] []))
 refine K0 (S0 (P0 [(1,1)] c fun _ c=>I0 c h (fun h=>?_) fun h=>?_))
 refine P0 [(1,1)] c fun _ c=>I0 c h (fun h=>?_) fun h=>?_
 refine P0 [] c fun _ c=>?_
 cases h
 exact wp_ret (tr (Rt c (gu1) [0,1] []))
 refine K0 (S0 (P0 [(1,1)] c fun _ c=>Bd h fun rl2 hit2 h=>?_))
 have hk2:=h
 refine LpR (fun s2  (i:Value)=>([(0,B gb0 0),(3,B b1 0),(88,I (len p1.Kids)),(89,I s2.1)],fun Γ=>(Γ.set 0 (BX gb0 137 [I s2.2.1,i])).set 1 (OM map85 (i) s2.q2),[])) (fun s  (i:Value)=>([],fun Γ=>(Γ.set 0 (BX gb0 137 [I s.1,i])).set 1 (OM map85 (i) s.2),[])) hit2 c (gu1) (c.rk [0,1,2] [0]) (fun s2 q2 i1 _ _ c h hr2=>?_) fun s2r k1 _ _ hrl c=>?_
 refine P0 [] c fun _ c=>S0 (I0 c h (fun h=>?_) fun h=>?_)
 refine K0 (S0 (wp_block (P0 [] c fun _ c=>T0 (Fp [(2,1)] 4 c fun _ c=>Bd h fun x7 hx7 h=>Eem c (.f 0) hx7 fun _ u1 _ c=>?_))))
 obtain ⟨a1,c1,rfl,c⟩:=c.o_Term 1
 refine Bd h fun x8 hx8 h=>Ca [0,1] c (ih hx8) ⟨.f 2,tt⟩ call138 fun i2 _ _ c=>?_
 refine Fp [] 1 c fun _ c=>E0 (I0 c h (fun h=>?_) fun h=>?_)
 refine P0 [] c fun _ c=>?_
 obtain rfl:=hr2 _ (sk h)
 obtain rfl:=sj hk2
 exact wp_ret (br (tr (tr (br (tr (Rt c (i2) [1,2] []))))))
 refine K1 (bk (tn (P1 [] c fun _ c=>Nx h (i2) (c.rk [1,2,0] [0]))))
 refine wp_exit (te (te (be ?_)))
 obtain rfl:=hr2 _ (sk h)
 exact tn ⟨_,(i1),rfl,c.rk [0,1,2] [0]⟩
 subst hrl
 refine P0 [] c fun _ c=>?_
 cases h
 exact wp_ret (Rt c (k1) [0,1] [])
 refine T0 (Fp [(1,1)] 2 c fun _ c=>Bd h fun x9 hx9 h=>Ca [0,1] c (ZbN hx9) ⟨.f 0,tt⟩ call153 fun i3 _ _ c=>?_)
 refine Fp [] 1 c fun _ c=>E0 (I0 c h (fun h=>?_) fun h=>?_)
 refine P0 [] c fun _ c=>?_
 cases h
 exact wp_ret (tr (Rt c (i3) [1,2] []))
 refine K0 (S0 (P0 [(1,0)] c fun _ c=>Bd h fun rl3 hit3 h=>?_))
 have hk3:=h
 refine LpR (fun s3  (i:Value)=>([(0,B gb0 0),(3,B b1 0),(88,I (len p1.Kids)),(89,I s3.1)],fun Γ=>(Γ.set 1 (BX gb0 137 [I s3.2.1,i])).set 2 (OM map85 (i) s3.q2),[])) (fun s  (i:Value)=>([],fun Γ=>(Γ.set 1 (BX gb0 137 [I s.1,i])).set 2 (OM map85 (i) s.2),[])) hit3 c (i3) (c.rk [0,1,2] [0]) (fun s3 q3 i4 _ _ c h hr3=>?_) fun s3r k2 _ _ hrl c=>?_
 refine P0 [] c fun _ c=>S0 (I0 c h (fun h=>?_) fun h=>?_)
 refine K0 (S0 (wp_block (P0 [] c fun _ c=>T0 (Fp [(2,0)] 4 c fun _ c=>Bd h fun x10 hx10 h=>Eem c (.f 0) hx10 fun _ u2 _ c=>?_))))
 obtain ⟨a2,c2,rfl,c⟩:=c.o_Term 1
 replace c:=c.nf
 refine Bd h fun x11 hx11 h=>Ca [1,2] c (ih hx11) ⟨.f 2,tt⟩ call138 fun i5 _ _ c=>?_
 refine Fp [] 1 c fun _ c=>E0 (I0 c h (fun h=>?_) fun h=>?_)
 refine P0 [] c fun _ c=>?_
 obtain rfl:=hr3 _ (sk h)
 obtain rfl:=sj hk3
 exact wp_ret (br (tr (tr (br (tr (Rt c (i5) [1,2] []))))))
 refine K1 (bk (tn (P1 [] c fun _ c=>Nx h (i5) (c.rk [0,1,2] [0]))))
 refine wp_exit (te (te (be ?_)))
 obtain rfl:=hr3 _ (sk h)
 exact tn ⟨_,(i4),rfl,c.rk [0,1,2] [0]⟩
 subst hrl
 refine P0 [] c fun _ c=>?_
 cases h
 exact wp_ret (Rt c (k2) [1,2] [])
theorem Zfj {p0 r} (h:Zbq n p0 = some r):C0 122 [tV p0 ga0 gc1] [lR ga0 p0.Kids gc1] (.bool r):=by
 unfold Zbq at h
 refine En func122 rfl ntmps122 fun _ fr w c=>?_
 refine T0 (Ebx (tC p0 ga0 gc1) c fun b1 _ _ c=>?_)
 refine Fp [] 1 c fun _ c=>E0 (T0 (Eal [I 0,.map none] c fun b2 _ _ c=>?_))
 refine E0 (T0 (Fp [(0,0)] 1 c fun _ c=>?_))
 replace c:=c.nilm map85
 refine Bd h fun x1 hx1 h=>Ca [1,2] c (ZcC hx1) ⟨.f 0,tt⟩ call138 fun i1 _ _ c=>?_
 exact Fp [] 1 c fun _ c=>E0 rE
theorem YJ {p0 r} (h:Zb p0 = some r):C0 96 [tV p0 ga0 gc1] [lR ga0 p0.Kids gc1] (.bool r):=by
 unfold Zb at h
 refine En func96 rfl ntmps96 fun _ fr w c=>?_
 refine T0 (Ebx (tC p0 ga0 gc1) c fun b1 _ _ c=>?_)
 exact Fp [] 1 c fun _ c=>E0 (P0 [(1,0)] c fun _ c=>rE)
theorem Xj {p0 p1 r} (h:YI p0 p1 = some r):C0 100 [I p0,I p1] [] (I r):=by
 unfold YI at h
 refine En func100 rfl ntmps100 fun _ fr w c=>?_
 refine P0 [] c fun _ c=>S0 (T0 (Fp [] 1 c fun _ c=>Bd h fun x1 hx1 h=>Cb c (YV hx1) tt call88 fun _ _ _ c=>?_))
 refine Fp [] 1 c fun _ c=>E0 (I0 c h (fun h=>P0 [] c fun _ c=>rE) fun h=>?_)
 refine K0 (T0 (Fp [] 3 c fun _ c=>Bd h fun x2 hx2 h=>Eshl c hx2 fun _ c=>?_))
 exact Fp [] 3 c fun _ c=>E0 rE
theorem Zdt {p0 p1 p2 r} (h:YY p0 p1 p2 = some r):C0 77 [I p0,I p1,I p2] [] (I r):=by
 unfold YY at h
 refine En func77 rfl ntmps77 fun _ fr w c=>?_
 refine P0 [] c fun _ c=>S0 (T0 (Fp [] 2 c fun _ c=>Bd h fun x1 hx1 h=>Cb c (Yc hx1) tt call70 fun _ _ _ c=>?_))
 refine Fp [] 1 c fun _ c=>E0 (I0 c h (fun h=>P0 [] c fun _ c=>rE) fun h=>?_)
 refine K0 (S0 (P0 [] c fun _ c=>wp_block (P0 [] c fun _ c=>I0 c h (fun h=>?_) fun h=>?_)))
 refine T0 (Fp [] 2 c fun _ c=>Bd h fun x2 hx2 h=>Eshl c hx2 fun _ c=>?_)
 exact Fp [] 4 c fun _ c=>E0 rE
 refine P0 [] c fun _ c=>I0 c h (fun h=>?_) fun h=>K1 (bk (tn (P0 [] c fun _ c=>rE)))
 refine T0 (Fp [] 3 c fun _ c=>Bd h fun x3 hx3 h=>Cb c (Xj hx3) tt call100 fun _ _ _ c=>?_)
 exact Fp [] 1 c fun _ c=>E0 rE
theorem Ze9 {p0 p1 p2 p3 r} (h:ZaW p0 p1 p2 p3 = some r):C0 78 [I p0,I p1,I p2,I p3] [] (I r):=by
 unfold ZaW at h
 refine En func78 rfl ntmps78 fun _ fr w c=>?_
 refine P0 [] c fun _ c=>S0 (Bd h fun x1 hx1 h=>S0 (rZ [(2,.eq (.bool x1))] [] mix c ⟨Ncl c (kN (Yc hx1)) tt call70,tt⟩ fun _ _ c=>I0 c h (fun h=>?_) fun h=>?_))
 exact P0 [] c fun _ c=>rE
 refine K0 (T0 (Fp [] 3 c fun _ c=>Bd h fun x2 hx2 h=>Eshr c hx2 fun _ c=>?_))
 refine Fp [] 2 c fun _ c=>Bd h fun x3 hx3 h=>Eshl c hx3 fun _ c=>?_
 exact Fp [] 3 c fun _ c=>E0 rE
theorem Zat {p0 p1 r} (h:YQ p0 p1 = some r):C0 101 [I p0,I p1] [] (I r):=by
 unfold YQ at h
 refine En func101 rfl ntmps101 fun _ fr w c=>?_
 refine P0 [] c fun _ c=>S0 (T0 (Fp [] 2 c fun _ c=>Bd h fun x1 hx1 h=>Cb c (Yc hx1) tt call70 fun _ _ _ c=>?_))
 refine Fp [] 1 c fun _ c=>E0 (I0 c h (fun h=>P0 [] c fun _ c=>rE) fun h=>?_)
 refine K0 (S0 (T0 (Fp [] 4 c fun _ c=>Bd h fun x2 hx2 h=>Eshr c hx2 fun _ c=>?_)))
 refine Fp [] 1 c fun _ c=>E0 (I0 c h (fun h=>P0 [] c fun _ c=>rE) fun h=>?_)
 refine K0 (T0 (Fp [] 3 c fun _ c=>Bd h fun x3 hx3 h=>Eshl c hx3 fun _ c=>?_))
 exact Fp [] 2 c fun _ c=>E0 rE
theorem ZdP {p0 p1 p2 p3 r} (h:Zag p0 p1 p2 p3 = some r):C0 79 [I p0,I p1,I p2,.bool p3] [] (I r):=by
 unfold Zag at h
 refine En func79 rfl ntmps79 fun _ fr w c=>?_
 refine P0 [] c fun _ c=>S0 (Bd h fun x1 hx1 h=>Bd h fun x2 hx2 h=>S0 (rZ [(2,.eq (.bool x1)),(6,.eq (.bool x2))] [] mix c ⟨Ncl c (kN (Yc hx1)) tt call70,Ncl c (fun hg=>YV (iteF (gcF hg) hx2)) tt call88,tt⟩ fun _ _ c=>I0 c h (fun h=>?_) fun h=>?_))
 exact P0 [] c fun _ c=>rE
 refine K0 (S0 (P0 [] c fun _ c=>I0 c h (fun h=>?_) fun h=>K0 (P0 [] c fun _ c=>rE)))
 refine T0 (Fp [] 3 c fun _ c=>Bd h fun x3 hx3 h=>Cb c (Zat hx3) tt call101 fun _ _ _ c=>?_)
 refine Bd h fun x4 hx4 h=>Cb c (Xj hx4) tt call100 fun _ _ _ c=>?_
 exact Fp [] 1 c fun _ c=>E0 rE
theorem Zd8 {p0 p1 p2 p3 r} (h:Zah p0 p1 p2 p3 = some r):C0 80 [I p0,I p1,I p2,I p3] [] (I r):=by
 unfold Zah at h
 refine En func80 rfl ntmps80 fun _ fr w c=>?_
 refine P0 [] c fun _ c=>S0 (Bd h fun x1 hx1 h=>Bd h fun x2 hx2 h=>S0 (rZ [(2,.eq (.bool x1)),(7,.eq (.bool x2))] [] mix c ⟨Ncl c (kN (Yc hx1)) tt call70,Ncl c (fun hg=>Yc (iteF (gcF hg) hx2)) tt call70,tt⟩ fun _ _ c=>I0 c h (fun h=>?_) fun h=>?_))
 exact P0 [] c fun _ c=>rE
 refine K0 (T0 (Fp [] 3 c fun _ c=>Bd h fun x3 hx3 h=>Eshl c hx3 fun _ c=>?_))
 exact Fp [] 3 c fun _ c=>E0 rE
theorem ZdI {p0 p1 p2 p3 r} (h:ZaU p0 p1 p2 p3 = some r):C0 102 [I p0,I p1,I p2,I p3] [] (I r):=by
 unfold ZaU at h
 refine En func102 rfl ntmps102 fun _ fr w c=>?_
 refine P0 [] c fun _ c=>S0 (P0 [] c fun _ c=>I0 c h (fun h=>?_) fun h=>?_)
 refine T0 (Fp [] 3 c fun _ c=>Bd h fun x1 hx1 h=>Cb c (Zat hx1) tt call101 fun _ _ _ c=>?_)
 refine Fp [] 5 c fun _ c=>Bd h fun x2 hx2 h=>Eshr c hx2 fun _ c=>?_
 refine Bd h fun x3 hx3 h=>Cb c (Xj hx3) tt call100 fun _ _ _ c=>?_
 exact Fp [] 1 c fun _ c=>E0 rE
 refine K0 (S0 (P0 [] c fun _ c=>I0 c h (fun h=>P0 [] c fun _ c=>rE) fun h=>?_))
 refine K0 (S0 (P0 [] c fun _ c=>I0 c h (fun h=>?_) fun h=>?_))
 refine T0 (Fp [] 4 c fun _ c=>Bd h fun x4 hx4 h=>Eshl c hx4 fun _ c=>?_)
 refine Bd h fun x5 hx5 h=>Cb c (Xj hx5) tt call100 fun _ _ _ c=>?_
 exact Fp [] 1 c fun _ c=>E0 rE
 refine K0 (T0 (Fp [] 3 c fun _ c=>Bd h fun x6 hx6 h=>Eshr c hx6 fun _ c=>?_))
 exact Fp [] 1 c fun _ c=>E0 rE
theorem Zbc {p0 r} (h:XV p0 = some r):C0 103 [.bool p0] [] (I r):=by
 unfold XV at h
 refine En func103 rfl ntmps103 fun _ fr w c=>?_
 exact P0 [] c fun _ c=>S0 (P0 [] c fun _ c=>I0 c h (fun h=>P0 [] c fun _ c=>rE) fun h=>K0 (P0 [] c fun _ c=>rE))
theorem Zb5 {p0 p1 p2 p3 r} (h:Xf p0 p1 p2 p3 = some r):C0 81 [I p0,I p1,I p2,I p3] [] (I r):=by
 unfold Xf at h
 refine En func81 rfl ntmps81 fun _ fr w c=>?_
 refine P0 [] c fun _ c=>S0 (Bd h fun x1 hx1 h=>Bd h fun x2 hx2 h=>S0 (rZ [(2,.eq (.bool x1)),(7,.eq (.bool x2))] [] mix c ⟨Ncl c (kN (Yc hx1)) tt call70,Ncl c (fun hg=>Yc (iteF (gcF hg) hx2)) tt call70,tt⟩ fun _ _ c=>I0 c h (fun h=>?_) fun h=>?_))
 exact P0 [] c fun _ c=>rE
 refine K0 (S0 (P0 [] c fun _ c=>wp_block (P0 [] c fun _ c=>I0 c h (fun h=>?_) fun h=>?_)))
 refine T0 (Fp [] 4 c fun _ c=>Bd h fun x3 hx3 h=>Cb c (Xj hx3) tt call100 fun _ _ _ c=>?_)
 exact Fp [] 1 c fun _ c=>E0 rE
 refine P0 [] c fun _ c=>I0 c h (fun h=>?_) fun h=>?_
 refine T0 (Fp [] 4 c fun _ c=>Bd h fun x4 hx4 h=>Cb c (Xj hx4) tt call100 fun _ _ _ c=>?_)
 exact Fp [] 1 c fun _ c=>E0 rE
 refine P0 [] c fun _ c=>I0 c h (fun h=>?_) fun h=>?_
 refine T0 (Fp [] 4 c fun _ c=>Bd h fun x5 hx5 h=>Cb c (Xj hx5) tt call100 fun _ _ _ c=>?_)
 exact Fp [] 1 c fun _ c=>E0 rE
 refine P0 [] c fun _ c=>I0 c h (fun h=>?_) fun h=>?_
 refine S0 (P0 [] c fun _ c=>I0 c h (fun h=>?_) fun h=>?_)
 refine T0 (Fp [] 2 c fun _ c=>Bd h fun x6 hx6 h=>Eshl c hx6 fun _ c=>?_)
 exact Fp [] 2 c fun _ c=>E0 rE
 refine K0 (T0 (Fp [] 2 c fun _ c=>Bd h fun x7 hx7 h=>Equo c hx7 fun _ c=>?_))
 exact Fp [] 1 c fun _ c=>E0 rE
 refine P0 [] c fun _ c=>I0 c h (fun h=>?_) fun h=>?_
 refine S0 (P0 [] c fun _ c=>I0 c h (fun h=>P0 [] c fun _ c=>rE) fun h=>?_)
 refine K0 (T0 (Fp [] 2 c fun _ c=>Bd h fun x8 hx8 h=>Erem c hx8 fun _ c=>?_))
 exact Fp [] 1 c fun _ c=>E0 rE
 refine P0 [] c fun _ c=>I0 c h (fun h=>P0 [] c fun _ c=>rE) fun h=>?_
 refine P0 [] c fun _ c=>I0 c h (fun h=>P0 [] c fun _ c=>rE) fun h=>?_
 refine P0 [] c fun _ c=>I0 c h (fun h=>P0 [] c fun _ c=>rE) fun h=>?_
 refine S0 (P0 [] c fun _ c=>Bd h fun rl1 hit1 h=>?_)
 have hk1:=h
 refine Jr (fun s  (_:Unit)=>([(0,I p0),(1,I p1),(2,I p2),(3,I p3),(19,I p0),(75,.bool s)],id,[])) hit1 c (fun h=>?_) fun s1r _ _ _ hrl c=>?_
 refine I0 c h (fun h=>?_) fun h=>?_
 refine K0 (⟨_,(),(sk h),c.rk [] []⟩)
 refine P0 [] c fun _ c=>Mp (p0 == 12) [(75,.bool (p0 == 12))] [(75,.bool (p0 == 13))] [(75,.bool ((p0 == 12) || (p0 == 13)))] [75,78] c fun _ c=>⟨_,(),(sk h),c.rk [] []⟩
 subst hrl
 refine I0 c h (fun h=>?_) fun h=>?_
 refine T0 (Fp [] 4 c fun _ c=>Bd h fun x9 hx9 h=>Cb c (ZdI hx9) tt call102 fun _ _ _ c=>?_)
 exact Fp [] 1 c fun _ c=>E0 rE
 refine P0 [] c fun _ c=>I0 c h (fun h=>?_) fun h=>?_
 refine T0 (Fp [] 3 c fun _ c=>Bd h fun x10 hx10 h=>Cb c (Zbc hx10) tt call103 fun _ _ _ c=>?_)
 exact Fp [] 1 c fun _ c=>E0 rE
 refine P0 [] c fun _ c=>I0 c h (fun h=>?_) fun h=>?_
 refine T0 (Fp [] 3 c fun _ c=>Bd h fun x11 hx11 h=>Cb c (Zbc hx11) tt call103 fun _ _ _ c=>?_)
 exact Fp [] 1 c fun _ c=>E0 rE
 refine P0 [] c fun _ c=>I0 c h (fun h=>?_) fun h=>K1 (bk (tn (P0 [] c fun _ c=>rE)))
 refine T0 (Fp [] 2 c fun _ c=>Bd h fun x12 hx12 h=>Cb c (Zat hx12) tt call101 fun _ _ _ c=>?_)
 refine Fp [] 2 c fun _ c=>Bd h fun x13 hx13 h=>Cb c (Zat hx13) tt call101 fun _ _ _ c=>?_
 refine Fp [] 1 c fun _ c=>Bd h fun x14 hx14 h=>Cb c (Zbc hx14) tt call103 fun _ _ _ c=>?_
 exact Fp [] 1 c fun _ c=>E0 rE
theorem Zcm {n:Nat}:∀ {p0 p1 ga0 gc1 gu2 r} (h:Zi n p0 p1 = some r),C0 54 [tV p0 ga0 gc1,gu2] [lR ga0 p0.Kids gc1,MO map85 (gu2) p1] (I r):=by
 induction n with
 | zero=>intro p0 p1 ga0 gc1 gu2 r h; simp [Zi] at h
 | succ n ih=>
 intro p0 p1 ga0 gc1 gu2 r h
 rw [Zi] at h
 refine En func54 rfl ntmps54 fun _ fr w c=>?_
 refine T0 (Ebx (tC p0 ga0 gc1) c fun b1 _ _ c=>?_)
 refine Fp [] 1 c fun _ c=>E0 (S0 (P0 [(1,0)] c fun _ c=>wp_block (P0 [] c fun _ c=>I0 c h (fun h=>P0 [(1,0)] c fun _ c=>rE) fun h=>?_)))
 refine P0 [] c fun _ c=>I0 c h (fun h=>?_) fun h=>?_
 refine T0 (Fp [(2,0)] 3 c fun _ c=>Bd h fun x1 hx1 h=>Erg c (.f 1) hx1 fun _ c=>?_)
 exact Fp [] 1 c fun _ c=>E0 rE
 refine P0 [] c fun _ c=>I0 c h (fun h=>?_) fun h=>?_
 refine S0 (T0 (Fp [(1,0)] 2 c fun _ c=>Bd h fun x2 hx2 h=>Eem c (.f 0) hx2 fun _ u1 _ c=>?_))
 obtain ⟨a1,c1,rfl,c⟩:=c.o_Term 2
 refine Fp [] 1 c fun _ c=>Bd h fun x3 hx3 h=>Cb c (ih hx3) ⟨.f 3,.f 1,tt⟩ call54 fun _ _ _ c=>?_
 refine Fp [] 1 c fun _ c=>E0 (I0 c h (fun h=>?_) fun h=>?_)
 refine T0 (Fp [(1,0)] 2 c fun _ c=>Bd h fun x4 hx4 h=>Eem c (.f 0) hx4 fun _ u2 _ c=>?_)
 obtain ⟨a2,c2,rfl,c⟩:=c.o_Term 4
 refine Fp [] 1 c fun _ c=>Bd h fun x5 hx5 h=>Cb c (ih hx5) ⟨.f 5,.f 1,tt⟩ call54 fun _ _ _ c=>?_
 exact Fp [] 1 c fun _ c=>E0 rE
 refine K0 (T0 (Fp [(1,0)] 2 c fun _ c=>Bd h fun x6 hx6 h=>Eem c (.f 0) hx6 fun _ u3 _ c=>?_))
 obtain ⟨a3,c3,rfl,c⟩:=c.o_Term 4
 refine Fp [] 1 c fun _ c=>Bd h fun x7 hx7 h=>Cb c (ih hx7) ⟨.f 5,.f 1,tt⟩ call54 fun _ _ _ c=>?_
 exact Fp [] 1 c fun _ c=>E0 rE
 refine K1 (bk (tn (T0 (Fp [(1,0)] 2 c fun _ c=>Bd h fun x8 hx8 h=>Eem c (.f 0) hx8 fun _ u4 _ c=>?_))))
 obtain ⟨a4,c4,rfl,c⟩:=c.o_Term 2
 refine Fp [] 1 c fun _ c=>Bd h fun x9 hx9 h=>Cb c (ih hx9) ⟨.f 3,.f 1,tt⟩ call54 fun _ _ _ c=>?_
 refine Fp [] 1 c fun _ c=>E0 (T0 (Fp [(1,0)] 2 c fun _ c=>Bd h fun x10 hx10 h=>Eef c (.f 0) hx10 Zb3 fun _ _ _ c=>?_))
 refine Fp [] 1 c fun _ c=>E0 (S0 (P0 [(1,0)] c fun _ c=>wp_block (S0 (P0 [] c fun _ c=>Mp (p0.Op == 1) [(54,.bool (p0.Op == 1))] [(54,.bool (p0.Op == 2))] [(54,.bool ((p0.Op == 1) || (p0.Op == 2)))] [54,56] c fun _ c=>I0 c h (fun h=>?_) fun h=>?_))))
 refine T0 (Fp [(1,0)] 4 c fun _ c=>Bd h fun x11 hx11 h=>Cb c (Zdt hx11) tt call77 fun _ _ _ c=>?_)
 exact Fp [] 1 c fun _ c=>E0 rE
 refine P0 [] c fun _ c=>I0 c h (fun h=>?_) fun h=>?_
 refine T0 (Fp [(3,0),(5,0)] 6 c fun _ c=>Bd h fun x12 hx12 h=>Cb c (Ze9 hx12) tt call78 fun _ _ _ c=>?_)
 exact Fp [] 1 c fun _ c=>E0 rE
 refine S0 (P0 [] c fun _ c=>Mp (p0.Op == 20) [(71,.bool (p0.Op == 20))] [(71,.bool (p0.Op == 21))] [(71,.bool ((p0.Op == 20) || (p0.Op == 21)))] [71,73] c fun _ c=>I0 c h (fun h=>?_) fun h=>?_)
 refine T0 (Fp [(3,0),(5,0)] 7 c fun _ c=>Bd h fun x13 hx13 h=>Cb c (ZdP hx13) tt call79 fun _ _ _ c=>?_)
 exact Fp [] 1 c fun _ c=>E0 rE
 refine K1 (bk (tn (T0 (Fp [(1,0)] 2 c fun _ c=>Bd h fun x14 hx14 h=>Eem c (.f 0) hx14 fun _ u5 _ c=>?_))))
 obtain ⟨a5,c5,rfl,c⟩:=c.o_Term 4
 refine Fp [] 1 c fun _ c=>Bd h fun x15 hx15 h=>Cb c (ih hx15) ⟨.f 5,.f 1,tt⟩ call54 fun _ _ _ c=>?_
 refine Fp [] 1 c fun _ c=>E0 (S0 (P0 [(1,0)] c fun _ c=>I0 c h (fun h=>?_) fun h=>?_))
 refine T0 (Fp [(3,0)] 4 c fun _ c=>?_)
 replace c:=c.ng
 refine Bd h fun x16 hx16 h=>Eef c (.f 0) hx16 Zb3 fun _ _ _ c=>?_
 refine Fp [] 1 c fun _ c=>Bd h fun x17 hx17 h=>Cb c (Zd8 hx17) tt call80 fun _ _ _ c=>?_
 exact Fp [] 1 c fun _ c=>E0 rE
 refine K0 (T0 (Fp [(1,0)] 5 c fun _ c=>?_))
 replace c:=c.ng
 refine Bd h fun x18 hx18 h=>Cb c (Zb5 hx18) tt call81 fun _ _ _ c=>?_
 exact Fp [] 1 c fun _ c=>E0 rE
theorem Zdm {p0 r} (h:Y2 p0 = some r):Ct 139 [tV p0 ga0 gc1] [lR ga0 p0.Kids gc1] r:=by
 unfold Y2 at h
 refine En func139 rfl ntmps139 fun _ fr w c=>?_
 refine T0 (Ebx (tC p0 ga0 gc1) c fun b1 _ _ c=>?_)
 refine Eal tZ c fun b2 _ _ c=>?_
 refine E0 (T0 (Fp [(1,0)] 2 c fun _ c=>Bd h fun x1 hx1 h=>Eem c (.f 0) hx1 fun _ u1 _ c=>?_))
 obtain ⟨a1,c1,rfl,c⟩:=c.o_Term 1
 refine Eal tZ c fun b3 _ _ c=>?_
 refine Ess 2 (tC x1 a1 c1) c fun _ c=>?_
 refine E0 (S0 (P0 [(1,2),(3,0)] c fun _ c=>I0 c h (fun h=>?_) fun h=>?_))
 refine T0 (Fp [(1,2)] 2 c fun _ c=>?_)
 replace c:=c.ng
 refine Bd h fun x2 hx2 h=>Eem c (.f 2) hx2 fun _ u2 _ c=>?_
 obtain ⟨a2,c2,rfl,c⟩:=c.o_Term 3
 refine Ess 1 (tC x2 a2 c2) c fun _ c=>?_
 refine E0 ?_
 obtain rfl:=sj h
 exact wp_ret (tr (Rg c (a2,c2) [] [4] (.cell (α:=Agg 4) kk (.b 1) .nil)))
 refine K0 (T0 (Fp [(0,0)] 1 c fun _ c=>?_))
 replace c:=c.ng
 refine Ess 1 (tC p0 ga0 gc1) c fun _ c=>?_
 refine E0 ?_
 obtain rfl:=sj h
 exact wp_ret (Rg c (ga0,gc1) [] [0] (.cell (α:=Agg 4) kk (.b 1) .nil))
theorem YX {p0 p1 r} (h:Zp p0 p1 = some r):C0 93 [tV p0 ga0 gc1,I p1] [lR ga0 p0.Kids gc1] (.bool r):=by
 unfold Zp at h
 refine En func93 rfl ntmps93 fun _ fr w c=>?_
 refine T0 (Ebx (tC p0 ga0 gc1) c fun b1 _ _ c=>?_)
 refine Fp [] 1 c fun _ c=>E0 (S0 (Ry [(1,0),(5,0)] mix c fun _ _ c=>?_))
 exact rE
theorem ZbV {p0 r} (h:Zas p0 = some r):C0 169 [I p0] [] (.bool r):=by
 unfold Zas at h
 refine En func169 rfl ntmps169 fun _ fr w c=>?_
 exact P0 [] c fun _ c=>P0 [] c fun _ c=>rE
theorem Xz {p0 p1 r} (h:Y4 p0 p1 = some r):C0 164 [I p0,I p1] [] (I r):=by
 unfold Y4 at h
 refine En func164 rfl ntmps164 fun _ fr w c=>?_
 refine P0 [] c fun _ c=>T0 (Fp [] 1 c fun _ c=>Bd h fun x1 hx1 h=>Cb c (ZbV hx1) tt call169 fun _ _ _ c=>?_)
 refine Fp [] 1 c fun _ c=>E0 (T0 (Fp [] 1 c fun _ c=>Bd h fun x2 hx2 h=>Cb c (ZbV hx2) tt call169 fun _ _ _ c=>?_))
 exact Fp [] 1 c fun _ c=>E0 (S0 (P0 [] c fun _ c=>I0 c h (fun h=>S0 (P0 [] c fun _ c=>I0 c h (fun h=>P0 [] c fun _ c=>rE) fun h=>K0 (P0 [] c fun _ c=>rE))) fun h=>K0 (S0 (P0 [] c fun _ c=>I0 c h (fun h=>P0 [] c fun _ c=>rE) fun h=>K0 (S0 (P0 [] c fun _ c=>I0 c h (fun h=>P0 [] c fun _ c=>rE) fun h=>K0 (S0 (P0 [] c fun _ c=>I0 c h (fun h=>P0 [] c fun _ c=>rE) fun h=>K0 (P0 [] c fun _ c=>rE)))))))))
theorem Zdw {p0 p1 r} (h:GL.strings_Compare p0 p1 = some r):C0 165 [Str.val p0,Str.val p1] [] (I r):=by
 unfold GL.strings_Compare at h
 obtain rfl:=sj h
 refine Con.lib fun w F hF=>?_
 refine (Tryz.strings_Compare ⟨p0.bytes.toArray⟩ ⟨p1.bytes.toArray⟩ w).mono ?_
 rintro e w' ⟨rfl,rfl⟩
 exact ⟨by simp,Chg.refl _ _⟩
theorem Zbo {n:Nat}:∀ {p0 p1 ga0 gc1 ga2 gc3 r} (h:ZI n p0 p1 = some r),C0 157 [tV p0 ga0 gc1,tV p1 ga2 gc3] [lR ga0 p0.Kids gc1,lR ga2 p1.Kids gc3] (I r):=by
 induction n with
 | zero=>intro p0 p1 ga0 gc1 ga2 gc3 r h; simp [ZI] at h
 | succ n ih=>
 intro p0 p1 ga0 gc1 ga2 gc3 r h
 rw [ZI] at h
 refine En func157 rfl ntmps157 fun _ fr w c=>?_
 refine T0 (Ebx (tC p0 ga0 gc1) c fun b1 _ _ c=>?_)
 refine Ebx (tC p1 ga2 gc3) c fun b2 _ _ c=>?_
 refine Fp [] 1 c fun _ c=>E0 (S0 (T0 (Fp [(1,0),(3,1)] 4 c fun _ c=>Bd h fun x1 hx1 h=>Cb c (Xz hx1) tt call164 fun _ _ _ c=>?_)))
 refine Fp [] 1 c fun _ c=>E0 (P0 [] c fun _ c=>I0 c h (fun h=>P0 [] c fun _ c=>rE) fun h=>?_)
 refine K0 (S0 (T0 (Fp [(1,0),(3,1)] 4 c fun _ c=>Bd h fun x2 hx2 h=>Cb c (Xz hx2) tt call164 fun _ _ _ c=>?_)))
 refine Fp [] 1 c fun _ c=>E0 (P0 [] c fun _ c=>I0 c h (fun h=>P0 [] c fun _ c=>rE) fun h=>?_)
 refine K0 (S0 (T0 (Fp [(1,0),(3,1)] 4 c fun _ c=>Bd h fun x3 hx3 h=>Cb c (Xz hx3) tt call164 fun _ _ _ c=>?_)))
 refine Fp [] 1 c fun _ c=>E0 (P0 [] c fun _ c=>I0 c h (fun h=>P0 [] c fun _ c=>rE) fun h=>?_)
 refine K0 (S0 (T0 (Fp [(1,0),(3,1)] 4 c fun _ c=>?_)))
 replace c:=c.ng
 refine Bd h fun x4 hx4 h=>Cb c (Zdw hx4) tt call165 fun _ _ _ c=>?_
 refine Fp [] 1 c fun _ c=>E0 (P0 [] c fun _ c=>I0 c h (fun h=>P0 [] c fun _ c=>rE) fun h=>?_)
 refine K0 (S0 (P0 [] c fun _ c=>Bd h fun rl1 hit1 h=>?_))
 have hk1:=h
 refine LpR (fun s1  (_:Unit)=>([(2,B b1 0),(3,B b2 0),(9,I s1)],id,[])) (fun s  (_:Unit)=>([(2,B b1 0),(3,B b2 0)],id,[])) hit1 c () (c.rk [0,1] [0,1]) (fun s1 q1 _ _ _ c h hr1=>?_) fun s1r _ _ _ hrl c=>?_
 refine S0 (S0 (Ry [(2,0),(8,1)] mix c fun _ _ c=>I0 c h (fun h=>?_) fun h=>?_))
 refine K0 (S0 (wp_block (Bd h fun x5 hx5 h=>?_)))
 obtain ⟨ep1,u1,c⟩:=c.elp (.f 0) hx5
 obtain ⟨a1,c1,rfl,c⟩:=c.o_Term 3
 refine Bd h fun x6 hx6 h=>?_
 obtain ⟨ep2,u2,c⟩:=c.elp (.f 1) hx6
 obtain ⟨a2,c2,rfl,c⟩:=c.o_Term 6
 refine Bd h fun x7 hx7 h=>S0 (rZ [(3,.eq (.pointer (some ep1))),(4,.eq (tV x5 a1 c1)),(8,.eq (.pointer (some ep2))),(9,.eq (tV x6 a2 c2)),(10,.eq (I x7))] [(1,0),(6,1)] mix c ⟨Nie c 2,Nle c 2,Nie c 5,Nle c 5,Ncl c (kN (ih hx7)) ⟨.f 4,.f 7,tt⟩ call157,tt⟩ fun _ _ c=>P0 [] c fun _ c=>I0 c h (fun h=>?_) fun h=>?_)
 refine P0 [] c fun _ c=>?_
 obtain rfl:=hr1 _ (sk h)
 obtain rfl:=sj hk1
 exact wp_ret (br (tr (tr (br (tr (Rt c () [] []))))))
 refine K1 (bk (tn (P1 [] c fun _ c=>Nx h () (c.rk [0,1] [0,1]))))
 refine wp_exit (te (te (be ?_)))
 obtain rfl:=hr1 _ (sk h)
 exact tn ⟨_,(),rfl,c.rk [0,1] [0,1]⟩
 subst hrl
 refine T0 (Fp [(1,0),(4,1)] 6 c fun _ c=>Bd h fun x8 hx8 h=>Cb c (Xz hx8) tt call164 fun _ _ _ c=>?_)
 exact Fp [] 1 c fun _ c=>E0 rE
theorem Zbd {p0 p1 r} (h:Yl n p0 p1 = some r):C0 154 [tV p0 ga0 gc1,tV p1 ga2 gc3] [lR ga0 p0.Kids gc1,lR ga2 p1.Kids gc3] (.bool r):=by
 unfold Yl at h
 refine En func154 rfl ntmps154 fun _ fr w c=>?_
 refine T0 (Ebx (tC p0 ga0 gc1) c fun b1 _ _ c=>?_)
 refine Ebx (tC p1 ga2 gc3) c fun b2 _ _ c=>?_
 refine Fp [] 1 c fun _ c=>E0 (T0 (Fp [(0,0),(1,1)] 2 c fun _ c=>Bd h fun x1 hx1 h=>Cb c (Zbo hx1) ⟨.f 0,.f 1,tt⟩ call157 fun _ _ _ c=>?_))
 exact Fp [] 2 c fun _ c=>E0 rE
theorem ZbZ {p0 r} (h:Zc p0 = some r):C0 156 [I p0] [] (.bool r):=by
 unfold Zc at h
 refine En func156 rfl ntmps156 fun _ fr w c=>?_
 exact P0 [] c fun _ c=>S0 (P0 [] c fun _ c=>wp_block (S0 (P0 [] c fun _ c=>I0 c h (fun h=>K0 (I0 c h (fun h=>P0 [] c fun _ c=>rE) fun h=>K1 (bk (tn (P0 [] c fun _ c=>rE))))) fun h=>P0 [] c fun _ c=>I0 c h (fun h=>K0 (I0 c h (fun h=>P0 [] c fun _ c=>rE) fun h=>K1 (bk (tn (P0 [] c fun _ c=>rE))))) fun h=>P0 [] c fun _ c=>I0 c h (fun h=>K0 (I0 c h (fun h=>P0 [] c fun _ c=>rE) fun h=>K1 (bk (tn (P0 [] c fun _ c=>rE))))) fun h=>P0 [] c fun _ c=>I0 c h (fun h=>K0 (I0 c h (fun h=>P0 [] c fun _ c=>rE) fun h=>K1 (bk (tn (P0 [] c fun _ c=>rE))))) fun h=>P0 [] c fun _ c=>Mp (p0 == 10) [(4,.bool (p0 == 10))] [(4,.bool (p0 == 14))] [(4,.bool ((p0 == 10) || (p0 == 14)))] [4,10] c fun _ c=>I0 c h (fun h=>P0 [] c fun _ c=>rE) fun h=>K1 (bk (tn (P0 [] c fun _ c=>rE))))))
theorem Zfq {p0 r} (h:Zbm p0 = some r):C0 166 [I p0] [] (I r):=by
 unfold Zbm at h
 refine En func166 rfl ntmps166 fun _ fr w c=>?_
 refine P0 [] c fun _ c=>T0 (Fp [] 2 c fun _ c=>Bd h fun x1 hx1 h=>Eshl c hx1 fun _ c=>?_)
 exact Fp [] 2 c fun _ c=>E0 rE
theorem Z8 (n:Nat):(∀ {p0 p1 p2 p3 ga0 gc1 r} (h:Zn n p0 p1 p2 p3 = some r),Ct 155 [I p0,I p1,I p2,L ga0 p3 gc1] [lR ga0 p3 gc1] r) ∧
    (∀ {p0 ga0 gc1 r} (h:Z6 n p0 = some r),Ct 123 [tV p0 ga0 gc1] [lR ga0 p0.Kids gc1] r) ∧
    (∀ {p0 ga0 gc1 r} (h:ZQ n p0 = some r),Ct 140 [tV p0 ga0 gc1] [lR ga0 p0.Kids gc1] r) ∧
    (∀ {p0 ga0 gc1 r} (h:ZM n p0 = some r),Ct 141 [tV p0 ga0 gc1] [lR ga0 p0.Kids gc1] r) ∧
    (∀ {p0 ga0 gc1 r} (h:Yd n p0 = some r),Ct 142 [tV p0 ga0 gc1] [lR ga0 p0.Kids gc1] r) ∧
    (∀ {p0 ga0 gc1 r} (h:Ya n p0 = some r),Ct 143 [tV p0 ga0 gc1] [lR ga0 p0.Kids gc1] r) ∧
    (∀ {p0 ga0 gc1 r} (h:Za n p0 = some r),Ct 144 [tV p0 ga0 gc1] [lR ga0 p0.Kids gc1] r) ∧
    (∀ {p0 p1 p2 p3 ga0 gc1 ga2 gc3 r} (h:Zv n p0 p1 p2 p3 = some r),Con prog 158 [I p0,I p1,tV p2 ga0 gc1,tV p3 ga2 gc3] [] [lR ga0 p2.Kids gc1,lR ga2 p3.Kids gc3] fun (i:Oh)=>([tV r.1 i.1 i.2,.bool r.2],[],[lR i.1 r.1.Kids i.2])):=by
 induction n with
 | zero=>exact ⟨by intro p0 p1 p2 p3 ga0 gc1 r h; simp [Zn] at h,by intro p0 ga0 gc1 r h; simp [Z6] at h,by intro p0 ga0 gc1 r h; simp [ZQ] at h,by intro p0 ga0 gc1 r h; simp [ZM] at h,by intro p0 ga0 gc1 r h; simp [Yd] at h,by intro p0 ga0 gc1 r h; simp [Ya] at h,by intro p0 ga0 gc1 r h; simp [Za] at h,by intro p0 p1 p2 p3 ga0 gc1 ga2 gc3 r h; simp [Zv] at h⟩
 | succ n ih=>
 obtain ⟨ih0,ih1,ih2,ih3,ih4,ih5,ih6,ih7⟩:=ih
 refine ⟨?_,?_,?_,?_,?_,?_,?_,?_⟩
 · intro p0 p1 p2 p3 ga0 gc1 r h
   rw [Zn] at h
   refine En func155 rfl ntmps155 fun _ fr w c=>?_
   refine T0 (Eal tZ c fun b1 _ _ c=>?_)
   refine E0 (T0 (Fp [] 5 c fun _ c=>Bd h fun x1 hx1 h=>Cg c (ih1 hx1) ⟨.f 0,tt⟩ call123 fun i1 _ _ c=>?_))
   refine Ess 0 (tC x1 i1.1 i1.2) c fun _ c=>?_
   refine E0 ?_
   obtain rfl:=sj h
   exact wp_ret (Rg c (i1.1,i1.2) [] [1] (.cell (α:=Agg 4) kk (.b 0) .nil))
 · intro p0 ga0 gc1 r h
   rw [Z6] at h
   refine En func123 rfl ntmps123 fun _ fr w c=>?_
   refine T0 (Ebx (tC p0 ga0 gc1) c fun b1 _ _ c=>?_)
   refine Eal tZ c fun b2 _ _ c=>?_
   refine E0 (S0 (P0 [(1,0)] c fun _ c=>I0 c h (fun h=>?_) fun h=>?_))
   refine T0 (Fp [(0,0)] 1 c fun _ c=>Ess 1 (tC p0 ga0 gc1) c fun _ c=>?_)
   refine E0 ?_
   obtain rfl:=sj h
   exact wp_ret (tr (Rg c (ga0,gc1) [] [0] (.cell (α:=Agg 4) kk (.b 1) .nil)))
   refine K0 (P0 [] c fun _ c=>S0 (P0 [(1,0)] c fun _ c=>Bd h fun rl1 hit1 h=>Lp (fun s1  (_:Unit)=>([(1,B b1 0),(2,B b2 0),(3,.bool s1.1),(12,I (len p0.Kids)),(13,I s1.2)],id,[])) (fun  (_:Unit)=>([(1,B b1 0),(2,B b2 0),(3,.bool rl1)],id,[])) hit1 c () (c.rk [0,1] [0]) (fun s1 q1 _ _ _ c h hr1=>?_) fun _ _ _ c=>?_))
   refine P0 [] c fun _ c=>S0 (I0 c h (fun h=>?_) fun h=>?_)
   refine K0 (S0 (wp_block (P0 [] c fun _ c=>Bd h fun x1 hx1 h=>Bd h fun x2 hx2 h=>Tq (rZ [(5,Pd.el (x1:D.Term)),(6,Pd.rd (x1:D.Term)),(7,.eq (.bool x2))] [(3,0)] mix c ⟨Nid c (.f 0) (gT hx1),Nrd c 5 (atN 5),Ncd (Ψ:=[]) [.r 6 (fun v=>RO v (x1:D.Term))] c ⟨(atN 6),tt⟩ tt (fun hg _ _ ga gp=>by obtain ⟨u1,_,rfl,g1,rfl⟩:=ga; obtain ⟨k1,rfl,f1⟩:=Opn.opn g1; exact ⟨_,f1,YJ (iteT (gcT hg) hx2)⟩) call96,tt⟩ fun _ _ c=>bk (tn (P1 [] c fun _ c=>Nx h () (c.rk [0,1] [0])))))))
   refine wp_exit (te (te (be ?_)))
   obtain rfl:=hr1 _ (sk h)
   exact tn ⟨(),c.rk [0,1] [0]⟩
   refine S0 (P0 [] c fun _ c=>I0 c h (fun h=>?_) fun h=>?_)
   refine Bd h fun x3 hx3 h=>S0 (YH mix (rM 4 [(3,.eq (I x3))] [(1,0),(2,0)] c (fun ow=>⟨ZG ow (Ncl c (kN (Zcm hx3)) ⟨.f 0,.mn,tt⟩ call54),tt⟩) fun _ _ _ _ _ c=>Bd h fun x4 hx4 h=>Cb c (ZA hx4) tt call74 fun _ _ _ c=>?_))
   refine Ess 1 [I x4.Op,I x4.W,I x4.N,Str.val x4.Name,L0] c fun _ c=>?_
   refine E0 ?_
   cases h
   replace c:=c.nilf (α:=D.Term)
   exact wp_ret (tr (Rg c (none,0) [] [1] (.cell (α:=Agg 4) kk (.b 1) .nil)))
   refine K0 (S0 (P0 [(1,0)] c fun _ c=>wp_block (S0 (P0 [] c fun _ c=>Mp (p0.Op == 1) [(34,.bool (p0.Op == 1))] [(34,.bool (p0.Op == 2))] [(34,.bool ((p0.Op == 1) || (p0.Op == 2)))] [34,36] c fun _ c=>I0 c h (fun h=>?_) fun h=>?_))))
   refine T0 (Fp [(0,0)] 1 c fun _ c=>Bd h fun x5 hx5 h=>Cg c (Zdm hx5) ⟨.f 0,tt⟩ call139 fun i1 _ _ c=>?_)
   refine Ess 1 (tC x5 i1.1 i1.2) c fun _ c=>?_
   refine E0 ?_
   obtain rfl:=sj h
   exact wp_ret (br (tr (Rg c (i1.1,i1.2) [] [1] (.cell (α:=Agg 4) kk (.b 1) .nil))))
   refine P0 [] c fun _ c=>I0 c h (fun h=>?_) fun h=>?_
   refine T0 (Fp [(0,0)] 1 c fun _ c=>Bd h fun x6 hx6 h=>Cg c (ih2 hx6) ⟨.f 0,tt⟩ call140 fun i2 _ _ c=>?_)
   refine Ess 1 (tC x6 i2.1 i2.2) c fun _ c=>?_
   refine E0 ?_
   obtain rfl:=sj h
   exact wp_ret (br (tr (Rg c (i2.1,i2.2) [] [1] (.cell (α:=Agg 4) kk (.b 1) .nil))))
   refine P0 [] c fun _ c=>I0 c h (fun h=>?_) fun h=>?_
   refine T0 (Fp [(0,0)] 1 c fun _ c=>Bd h fun x7 hx7 h=>Cg c (ih3 hx7) ⟨.f 0,tt⟩ call141 fun i3 _ _ c=>?_)
   refine Ess 1 (tC x7 i3.1 i3.2) c fun _ c=>?_
   refine E0 ?_
   obtain rfl:=sj h
   exact wp_ret (br (tr (Rg c (i3.1,i3.2) [] [1] (.cell (α:=Agg 4) kk (.b 1) .nil))))
   refine S0 (P0 [] c fun _ c=>Mp (p0.Op == 20) [(47,.bool (p0.Op == 20))] [(47,.bool (p0.Op == 21))] [(47,.bool ((p0.Op == 20) || (p0.Op == 21)))] [47,49] c fun _ c=>I0 c h (fun h=>?_) fun h=>?_)
   refine T0 (Fp [(0,0)] 1 c fun _ c=>Bd h fun x8 hx8 h=>Cg c (ih4 hx8) ⟨.f 0,tt⟩ call142 fun i4 _ _ c=>?_)
   refine Ess 1 (tC x8 i4.1 i4.2) c fun _ c=>?_
   refine E0 ?_
   obtain rfl:=sj h
   exact wp_ret (br (tr (Rg c (i4.1,i4.2) [] [1] (.cell (α:=Agg 4) kk (.b 1) .nil))))
   refine P0 [] c fun _ c=>I0 c h (fun h=>?_) fun h=>?_
   refine T0 (Fp [(0,0)] 1 c fun _ c=>Bd h fun x9 hx9 h=>Cg c (ih5 hx9) ⟨.f 0,tt⟩ call143 fun i5 _ _ c=>?_)
   refine Ess 1 (tC x9 i5.1 i5.2) c fun _ c=>?_
   refine E0 ?_
   obtain rfl:=sj h
   exact wp_ret (br (tr (Rg c (i5.1,i5.2) [] [1] (.cell (α:=Agg 4) kk (.b 1) .nil))))
   refine K1 (bk (tn (T0 (Fp [(0,0)] 1 c fun _ c=>Bd h fun x10 hx10 h=>Cg c (ih6 hx10) ⟨.f 0,tt⟩ call144 fun i6 _ _ c=>?_))))
   refine Ess 1 (tC x10 i6.1 i6.2) c fun _ c=>?_
   refine E0 ?_
   obtain rfl:=sj h
   exact wp_ret (Rg c (i6.1,i6.2) [] [1] (.cell (α:=Agg 4) kk (.b 1) .nil))
 · intro p0 ga0 gc1 r h
   rw [ZQ] at h
   refine En func140 rfl ntmps140 fun _ fr w c=>?_
   refine T0 (Ebx (tC p0 ga0 gc1) c fun b1 _ _ c=>?_)
   refine Eal tZ c fun b2 _ _ c=>?_
   refine E0 (Bd h fun x1 hx1 h=>?_)
   obtain ⟨ep1,u1,c⟩:=c.elp (.f 0) hx1
   obtain ⟨a1,c1,rfl,c⟩:=c.o_Term 2
   refine Bd h fun x2 hx2 h=>?_
   obtain ⟨ep2,u2,c⟩:=c.elp (.f 0) hx2
   obtain ⟨a2,c2,rfl,c⟩:=c.o_Term 5
   refine Bd h fun x3 hx3 h=>?_
   obtain ⟨ep3,u3,c⟩:=c.elp (.f 0) hx3
   obtain ⟨a3,c3,rfl,c⟩:=c.o_Term 8
   refine S0 (Jn (fun i:Nat × Nat × Nat=>([(1,B b1 0),(2,B b2 0),(3,B i.1 0),(4,B i.2.1 0),(5,B i.q2 0)],fun Γ=>Γ ++ [BX i.1 62 (tC x1 a1 c1),BX i.2.1 62 (tC x2 a2 c2),BX i.q2 62 (tC x3 a3 c3)],[])) c ?_ fun i8 _ _ c=>?_)
   refine As mix c fun _ c=>?_
   replace c:=Cx.frs [(1,B b1 0),(2,B b2 0)] c
   refine Dq (fun i:Nat × Nat × Nat=>([(1,B b1 0),(2,B b2 0),(3,B i.1 0),(4,B i.2.1 0),(5,B i.q2 0)],fun Γ=>Γ ++ [BX i.1 62 (tC x1 a1 c1),BX i.2.1 62 (tC x2 a2 c2),BX i.q2 62 (tC x3 a3 c3)],[])) (bN 18 262143) (fun i=>[]) c (fun i7=>?_) fun hd10=>?_
   obtain ⟨b33,b34,b35⟩:=i7
   refine qnE tt fun _ _ c=>?_
   exact nN (b33,b34,b35) (c.rk (rg 5) (rg 10))
   refine Dq (fun i:Nat × Nat × Nat=>([(1,B b1 0),(2,B b2 0),(3,B i.1 0),(4,B i.2.1 0),(5,B i.q2 0)],fun Γ=>Γ ++ [BX i.1 62 (tC x1 a1 c1),BX i.2.1 62 (tC x2 a2 c2),BX i.q2 62 tZ],[])) (bN 18 127231) (fun i=>[(8,14,B b1 4),(9,15,L ga0 p0.Kids gc1),(10,16,.pointer (some ep3)),(11,17,tV x3 a3 c3)]) c (fun i6=>?_) fun hd9=>?_
   obtain ⟨b30,b31,b32⟩:=i6
   refine qn [17] ⟨qP [],qP [(0,0)],qI 7,qL 7,tt⟩ ⟨fun _ _ c=>?_,tt⟩
   refine Zf _ rfl rfl ?_
   refine Ess 4 (tC x3 a3 c3) c fun _ c=>?_
   refine E0 (nQ hd10 (b30,b31,b32) (c.rk (rg 5) (rg 10)))
   refine Dq (fun i:Nat × Nat × Nat=>([(1,B b1 0),(2,B b2 0),(3,B i.1 0),(4,B i.2.1 0),(5,B i.q2 0)],fun Γ=>Γ ++ [BX i.1 62 (tC x1 a1 c1),BX i.2.1 62 tZ,BX i.q2 62 tZ],[])) (bN 18 61455) (fun i=>[(4,10,B b1 4),(5,11,L ga0 p0.Kids gc1),(6,12,.pointer (some ep2)),(7,13,tV x2 a2 c2),(8,14,B b1 4),(9,15,L ga0 p0.Kids gc1),(10,16,.pointer (some ep3)),(11,17,tV x3 a3 c3)]) c (fun i5=>?_) fun hd8=>?_
   obtain ⟨b27,b28,b29⟩:=i5
   refine qn [16] ⟨qP [],qP [(0,0)],qI 4,qL 4,qP [],qP [(0,0)],qI 7,qL 7,tt⟩ ⟨fun _ _ c=>?_,tt⟩
   refine Zf _ rfl rfl ?_
   refine Ess 3 (tC x2 a2 c2) c fun _ c=>?_
   refine E0 (nQ hd9 (b27,b28,b29) (c.rk (rg 5) (rg 10)))
   refine Dq (fun i:Nat × Nat × Nat=>([(1,B b1 0),(2,B b2 0),(3,B i.1 0),(4,B i.2.1 0),(5,B i.q2 0)],fun Γ=>Γ ++ [BX i.1 62 tZ,BX i.2.1 62 tZ,BX i.q2 62 tZ],[])) (bN 18 28672) (fun i=>[(0,6,B b1 4),(1,7,L ga0 p0.Kids gc1),(2,8,.pointer (some ep1)),(3,9,tV x1 a1 c1),(4,10,B b1 4),(5,11,L ga0 p0.Kids gc1),(6,12,.pointer (some ep2)),(7,13,tV x2 a2 c2),(8,14,B b1 4),(9,15,L ga0 p0.Kids gc1),(10,16,.pointer (some ep3)),(11,17,tV x3 a3 c3)]) c (fun i4=>?_) fun hd7=>?_
   obtain ⟨b22,b23,b24⟩:=i4
   refine qn [15] ⟨qP [],qP [(0,0)],qI 1,qL 1,qP [],qP [(0,0)],qI 4,qL 4,qP [],qP [(0,0)],qI 7,qL 7,tt⟩ ⟨fun _ _ c=>?_,tt⟩
   refine Zf _ rfl rfl ?_
   refine Ess 2 (tC x1 a1 c1) c fun _ c=>?_
   refine E0 (nQ hd8 (b22,b23,b24) (c.rk (rg 5) (rg 10)))
   refine Dq (fun i:Nat × Nat=>([(1,B b1 0),(2,B b2 0),(3,B i.1 0),(4,B i.2 0)],fun Γ=>Γ ++ [BX i.1 62 tZ,BX i.2 62 tZ],[])) (bN 18 12288) (fun i=>[(0,6,B b1 4),(1,7,L ga0 p0.Kids gc1),(2,8,.pointer (some ep1)),(3,9,tV x1 a1 c1),(4,10,B b1 4),(5,11,L ga0 p0.Kids gc1),(6,12,.pointer (some ep2)),(7,13,tV x2 a2 c2),(8,14,B b1 4),(9,15,L ga0 p0.Kids gc1),(10,16,.pointer (some ep3)),(11,17,tV x3 a3 c3)]) c (fun i1=>?_) fun hd4=>?_
   obtain ⟨b10,b11⟩:=i1
   refine qn [14] ⟨qP [],qP [(0,0)],qI 1,qL 1,qP [],qP [(0,0)],qI 4,qL 4,qP [],qP [(0,0)],qI 7,qL 7,tt⟩ ⟨fun _ _ c=>?_,tt⟩
   refine Zf _ rfl rfl ?_
   refine Eal tZ c fun b21 _ _ c=>?_
   refine E0 (nQ hd7 (b10,b11,b21) (c.rk (rg 5) (rg 10)))
   refine Dq (fun i:Nat × Nat=>([(1,B b1 0),(2,B b2 0),(3,B i.1 0),(5,B i.2 0)],fun Γ=>Γ ++ [BX i.1 62 tZ,BX i.2 62 tZ],[])) (bN 18 20480) (fun i=>[(0,6,B b1 4),(1,7,L ga0 p0.Kids gc1),(2,8,.pointer (some ep1)),(3,9,tV x1 a1 c1),(4,10,B b1 4),(5,11,L ga0 p0.Kids gc1),(6,12,.pointer (some ep2)),(7,13,tV x2 a2 c2),(8,14,B b1 4),(9,15,L ga0 p0.Kids gc1),(10,16,.pointer (some ep3)),(11,17,tV x3 a3 c3)]) c (fun i2=>?_) fun hd5=>?_
   obtain ⟨b13,b14⟩:=i2
   refine qn [13] ⟨qP [],qP [(0,0)],qI 1,qL 1,qP [],qP [(0,0)],qI 4,qL 4,qP [],qP [(0,0)],qI 7,qL 7,tt⟩ ⟨fun _ _ c=>?_,tt⟩
   refine Zf _ rfl rfl ?_
   refine Eal tZ c fun b25 _ _ c=>?_
   refine E0 (nQ hd7 (b13,b25,b14) (c.rk [0,1,2,4,3] (rg 10)))
   refine Dq (fun i:Nat × Nat=>([(1,B b1 0),(2,B b2 0),(4,B i.1 0),(5,B i.2 0)],fun Γ=>Γ ++ [BX i.1 62 tZ,BX i.2 62 tZ],[])) (bN 18 24576) (fun i=>[(0,6,B b1 4),(1,7,L ga0 p0.Kids gc1),(2,8,.pointer (some ep1)),(3,9,tV x1 a1 c1),(4,10,B b1 4),(5,11,L ga0 p0.Kids gc1),(6,12,.pointer (some ep2)),(7,13,tV x2 a2 c2),(8,14,B b1 4),(9,15,L ga0 p0.Kids gc1),(10,16,.pointer (some ep3)),(11,17,tV x3 a3 c3)]) c (fun i3=>?_) fun hd6=>?_
   obtain ⟨b17,b18⟩:=i3
   refine qn [12] ⟨qP [],qP [(0,0)],qI 1,qL 1,qP [],qP [(0,0)],qI 4,qL 4,qP [],qP [(0,0)],qI 7,qL 7,tt⟩ ⟨fun _ _ c=>?_,tt⟩
   refine Zf _ rfl rfl ?_
   refine Eal tZ c fun b26 _ _ c=>?_
   refine E0 (nQ hd7 (b26,b17,b18) (c.rk [0,1,4,2,3] (rg 10)))
   refine Dq (fun i:Nat=>([(1,B b1 0),(2,B b2 0),(3,B i 0)],fun Γ=>Γ ++ [BX i 62 tZ],[])) (bN 18 4096) (fun i=>[(0,6,B b1 4),(1,7,L ga0 p0.Kids gc1),(2,8,.pointer (some ep1)),(3,9,tV x1 a1 c1),(4,10,B b1 4),(5,11,L ga0 p0.Kids gc1),(6,12,.pointer (some ep2)),(7,13,tV x2 a2 c2),(8,14,B b1 4),(9,15,L ga0 p0.Kids gc1),(10,16,.pointer (some ep3)),(11,17,tV x3 a3 c3)]) c (fun b4=>?_) fun hd1=>?_
   refine qn [13,14] ⟨qP [],qP [(0,0)],qI 1,qL 1,qP [],qP [(0,0)],qI 4,qL 4,qP [],qP [(0,0)],qI 7,qL 7,tt⟩ ⟨fun _ _ c=>?_,fun _ _ c=>?_,tt⟩
   refine Zf _ rfl rfl ?_
   refine Eal tZ c fun b9 _ _ c=>?_
   refine E0 (nQ hd4 (b4,b9) (c.rk (rg 4) (rg 10)))
   refine Zf _ rfl rfl ?_
   refine Eal tZ c fun b12 _ _ c=>?_
   refine E0 (nQ hd5 (b4,b12) (c.rk (rg 4) (rg 10)))
   refine Dq (fun i:Nat=>([(1,B b1 0),(2,B b2 0),(4,B i 0)],fun Γ=>Γ ++ [BX i 62 tZ],[])) (bN 18 8192) (fun i=>[(0,6,B b1 4),(1,7,L ga0 p0.Kids gc1),(2,8,.pointer (some ep1)),(3,9,tV x1 a1 c1),(4,10,B b1 4),(5,11,L ga0 p0.Kids gc1),(6,12,.pointer (some ep2)),(7,13,tV x2 a2 c2),(8,14,B b1 4),(9,15,L ga0 p0.Kids gc1),(10,16,.pointer (some ep3)),(11,17,tV x3 a3 c3)]) c (fun b6=>?_) fun hd2=>?_
   refine qn [12,14] ⟨qP [],qP [(0,0)],qI 1,qL 1,qP [],qP [(0,0)],qI 4,qL 4,qP [],qP [(0,0)],qI 7,qL 7,tt⟩ ⟨fun _ _ c=>?_,fun _ _ c=>?_,tt⟩
   refine Zf _ rfl rfl ?_
   refine Eal tZ c fun b15 _ _ c=>?_
   refine E0 (nQ hd4 (b15,b6) (c.rk [0,1,3,2] (rg 10)))
   refine Zf _ rfl rfl ?_
   refine Eal tZ c fun b16 _ _ c=>?_
   refine E0 (nQ hd6 (b6,b16) (c.rk (rg 4) (rg 10)))
   refine Dq (fun i:Nat=>([(1,B b1 0),(2,B b2 0),(5,B i 0)],fun Γ=>Γ ++ [BX i 62 tZ],[])) (bN 18 16384) (fun i=>[(0,6,B b1 4),(1,7,L ga0 p0.Kids gc1),(2,8,.pointer (some ep1)),(3,9,tV x1 a1 c1),(4,10,B b1 4),(5,11,L ga0 p0.Kids gc1),(6,12,.pointer (some ep2)),(7,13,tV x2 a2 c2),(8,14,B b1 4),(9,15,L ga0 p0.Kids gc1),(10,16,.pointer (some ep3)),(11,17,tV x3 a3 c3)]) c (fun b8=>?_) fun hd3=>?_
   refine qn [12,13] ⟨qP [],qP [(0,0)],qI 1,qL 1,qP [],qP [(0,0)],qI 4,qL 4,qP [],qP [(0,0)],qI 7,qL 7,tt⟩ ⟨fun _ _ c=>?_,fun _ _ c=>?_,tt⟩
   refine Zf _ rfl rfl ?_
   refine Eal tZ c fun b19 _ _ c=>?_
   refine E0 (nQ hd5 (b19,b8) (c.rk [0,1,3,2] (rg 10)))
   refine Zf _ rfl rfl ?_
   refine Eal tZ c fun b20 _ _ c=>?_
   refine E0 (nQ hd6 (b20,b8) (c.rk [0,1,3,2] (rg 10)))
   refine q0 (qs:=[(0,6,B b1 4),(1,7,L ga0 p0.Kids gc1),(2,8,.pointer (some ep1)),(3,9,tV x1 a1 c1),(4,10,B b1 4),(5,11,L ga0 p0.Kids gc1),(6,12,.pointer (some ep2)),(7,13,tV x2 a2 c2),(8,14,B b1 4),(9,15,L ga0 p0.Kids gc1),(10,16,.pointer (some ep3)),(11,17,tV x3 a3 c3)]) c (qn [12,13,14] ⟨qP [],qP [(0,0)],qI 1,qL 1,qP [],qP [(0,0)],qI 4,qL 4,qP [],qP [(0,0)],qI 7,qL 7,tt⟩ ⟨fun _ _ c=>?_,fun _ _ c=>?_,fun _ _ c=>?_,tt⟩)
   refine Zf _ rfl rfl ?_
   refine Eal tZ c fun b3 _ _ c=>?_
   refine E0 (nQ hd1 (b3) (c.rk [0,1,2] (rg 10)))
   refine Zf _ rfl rfl ?_
   refine Eal tZ c fun b5 _ _ c=>?_
   refine E0 (nQ hd2 (b5) (c.rk [0,1,2] (rg 10)))
   refine Zf _ rfl rfl ?_
   refine Eal tZ c fun b7 _ _ c=>?_
   refine E0 (nQ hd3 (b7) (c.rk [0,1,2] (rg 10)))
   obtain ⟨b36,b37,b38⟩:=i8
   refine S0 (wp_block (T0 (Fp [(0,2)] 1 c fun _ c=>Bd h fun x4 hx4 h=>Cb c (YX hx4) ⟨.f 3,tt⟩ call93 fun _ _ _ c=>?_)))
   refine Fp [] 1 c fun _ c=>E0 (I0 c h (fun h=>?_) fun h=>?_)
   refine T0 (Fp [(0,3)] 1 c fun _ c=>Ess 1 (tC x2 a2 c2) c fun _ c=>?_)
   refine E0 ?_
   obtain rfl:=sj h
   exact wp_ret (br (tr (Rg c (a2,c2) [] [6] (.cell (α:=Agg 4) kk (.b 1) .nil))))
   refine T0 (Fp [(0,2)] 1 c fun _ c=>Bd h fun x5 hx5 h=>Cb c (YJ hx5) ⟨.f 3,tt⟩ call96 fun _ _ _ c=>?_)
   refine Fp [] 1 c fun _ c=>E0 (I0 c h (fun h=>?_) fun h=>?_)
   refine T0 (Fp [(0,4)] 1 c fun _ c=>Ess 1 (tC x3 a3 c3) c fun _ c=>?_)
   refine E0 ?_
   obtain rfl:=sj h
   exact wp_ret (br (tr (Rg c (a3,c3) [] [9] (.cell (α:=Agg 4) kk (.b 1) .nil))))
   refine T0 (Fp [(0,3),(1,4)] 2 c fun _ c=>Bd h fun x6 hx6 h=>Cb c (Zbd hx6) ⟨.f 6,.f 9,tt⟩ call154 fun _ _ _ c=>?_)
   refine Fp [] 1 c fun _ c=>E0 (I0 c h (fun h=>?_) fun h=>?_)
   refine T0 (Fp [(0,3)] 1 c fun _ c=>Ess 1 (tC x2 a2 c2) c fun _ c=>?_)
   refine E0 ?_
   obtain rfl:=sj h
   exact wp_ret (br (tr (Rg c (a2,c2) [] [6] (.cell (α:=Agg 4) kk (.b 1) .nil))))
   refine P0 [(1,2)] c fun _ c=>I0 c h (fun h=>?_) fun h=>?_
   refine Bd h fun x7 hx7 h=>?_
   obtain ⟨ep4,u4,c⟩:=c.elp (.f 3) hx7
   obtain ⟨a4,c4,rfl,c⟩:=c.o_Term 11
   refine S0 (YH mix (rM 9 [(4,.eq (.pointer (some ep4))),(5,.eq (tV x7 a4 c4)),(8,Pd.nw c.wd 8 (fun i:Oh=>L i.1 [x7,x3,x2] i.2) (fun i=>sl62 (L i.1 [x7,x3,x2] i.2) [(tR x7 a4 c4),(tR x3 a3 c3),(tR x2 a2 c2)]))] [(1,0),(3,2),(6,4),(7,3)] c (fun ow=>⟨ZG ow (Nie c 10),ZG ow (Nle c 10),Nlt c [(tR x7 a4 c4),(tR x3 a3 c3),(tR x2 a2 c2)],tt⟩) fun ow _ _ hE hc cq=>?_))
   obtain ⟨i9,hi9⟩:=hE.nw 8 43
   replace c:=Cx.newt c hc cq [(8,43,_,_)] ⟨hi9,tt⟩
   replace c:=c.csl [(tR x7 a4 c4),(tR x3 a3 c3),(tR x2 a2 c2)] [x7,x3,x2] ⟨(Ava.mk_Term x7 (.f 12)),(Ava.mk_Term x3 (.f 9)),(Ava.mk_Term x2 (.f 6)),tt⟩
   replace c:=c.nf
   replace c:=c.fzr 5 13
   refine Bd h fun x8 hx8 h=>Cg c (ih0 hx8) ⟨.f 14,tt⟩ call155 fun i10 _ _ c=>?_
   refine Ess 1 (tC x8 i10.1 i10.2) c fun _ c=>?_
   refine E0 ?_
   obtain rfl:=sj h
   exact wp_ret (br (tr (Rg c (i10.1,i10.2) [] [15] (.cell (α:=Agg 4) kk (.b 1) .nil))))
   refine Bd h fun x9 hx9 h=>Bd h fun x10 hx10 h=>S0 (rZ [(5,.eq (.bool x9)),(9,.eq (.bool x10))] [(1,0),(4,3),(8,4)] mix c ⟨Ncl c (fun hg=>YX (iteT (gcT hg) hx9)) ⟨.f 6,tt⟩ call93,Ncl c (fun hg=>YX (iteT (gcT hg) hx10)) ⟨.f 9,tt⟩ call93,tt⟩ fun _ _ c=>I0 c h (fun h=>?_) fun h=>?_)
   refine T0 (Fp [(0,2)] 1 c fun _ c=>Ess 1 (tC x1 a1 c1) c fun _ c=>?_)
   refine E0 ?_
   obtain rfl:=sj h
   exact wp_ret (br (tr (Rg c (a1,c1) [] [3] (.cell (α:=Agg 4) kk (.b 1) .nil))))
   refine Bd h fun x11 hx11 h=>Bd h fun x12 hx12 h=>S0 (rZ [(5,.eq (.bool x11)),(9,.eq (.bool x12))] [(1,0),(4,3),(8,4)] mix c ⟨Ncl c (fun hg=>YX (iteT (gcT hg) hx11)) ⟨.f 6,tt⟩ call93,Ncl c (fun hg=>YX (iteT (gcT hg) hx12)) ⟨.f 9,tt⟩ call93,tt⟩ fun _ _ c=>I0 c h (fun h=>?_) fun h=>?_)
   refine T0 (Fp [(0,2)] 1 c fun _ c=>Eltr 62 [(tR x1 a1 c1)] [x1] c ⟨(Ava.mk_Term x1 (.f 3)),tt⟩ fun a5 c5 _ _ c=>?_)
   replace c:=c.nf
   replace c:=c.fzr 5 10
   refine Bd h fun x13 hx13 h=>Cg c (ih0 hx13) ⟨.f 11,tt⟩ call155 fun i11 _ _ c=>?_
   refine Ess 1 (tC x13 i11.1 i11.2) c fun _ c=>?_
   refine E0 ?_
   obtain rfl:=sj h
   exact wp_ret (br (tr (Rg c (i11.1,i11.2) [] [12] (.cell (α:=Agg 4) kk (.b 1) .nil))))
   refine K1 (bk (tn (T0 (Fp [(0,0)] 1 c fun _ c=>Ess 1 (tC p0 ga0 gc1) c fun _ c=>?_))))
   refine E0 ?_
   obtain rfl:=sj h
   exact wp_ret (Rg c (ga0,gc1) [] [0] (.cell (α:=Agg 4) kk (.b 1) .nil))
 · intro p0 ga0 gc1 r h
   rw [ZM] at h
   refine En func141 rfl ntmps141 fun _ fr w c=>?_
   refine T0 (Ebx (tC p0 ga0 gc1) c fun b1 _ _ c=>?_)
   refine Eal tZ c fun b2 _ _ c=>?_
   refine E0 (T0 (Fp [(1,0)] 2 c fun _ c=>Bd h fun x1 hx1 h=>Eem c (.f 0) hx1 fun _ u1 _ c=>?_))
   obtain ⟨a1,c1,rfl,c⟩:=c.o_Term 1
   refine Eal tZ c fun b3 _ _ c=>?_
   refine Ess 2 (tC x1 a1 c1) c fun _ c=>?_
   refine E0 (S0 (S0 (Ry [(1,0),(5,0),(7,2)] mix c fun _ _ c=>I0 c h (fun h=>?_) fun h=>?_)))
   refine T0 (Fp [(0,2)] 1 c fun _ c=>?_)
   replace c:=c.ng
   refine Ess 1 (tC x1 a1 c1) c fun _ c=>?_
   refine E0 ?_
   obtain rfl:=sj h
   exact wp_ret (tr (Rg c (a1,c1) [] [2] (.cell (α:=Agg 4) kk (.b 1) .nil)))
   refine K0 (S0 (P0 [(1,2)] c fun _ c=>wp_block (P0 [] c fun _ c=>I0 c h (fun h=>?_) fun h=>?_)))
   refine Bd h fun x2 hx2 h=>?_
   obtain ⟨ep1,u2,c⟩:=c.elp (.f 2) hx2
   obtain ⟨a2,c2,rfl,c⟩:=c.o_Term 4
   refine S0 (YH mix (rM 12 [(9,.eq (.pointer (some ep1))),(10,.eq (tV x2 a2 c2)),(11,Pd.nw c.wd 11 (fun i:Oh=>L i.1 [x2] i.2) (fun i=>sl62 (L i.1 [x2] i.2) [(tR x2 a2 c2)]))] [(1,0),(3,0),(5,2),(8,2)] c (fun ow=>⟨ZG ow (Nie c 3),ZG ow (Nle c 3),Nlt c [(tR x2 a2 c2)],tt⟩) fun ow _ _ hE hc cq=>?_))
   obtain ⟨i1,hi1⟩:=hE.nw 11 35
   replace c:=Cx.newt c hc cq [(11,35,_,_)] ⟨hi1,tt⟩
   replace c:=c.csl [(tR x2 a2 c2)] [x2] ⟨(Ava.mk_Term x2 (.f 5)),tt⟩
   replace c:=c.ng
   replace c:=c.fzr 3 6
   refine Bd h fun x3 hx3 h=>Cg c (ih0 hx3) ⟨.f 7,tt⟩ call155 fun i2 _ _ c=>?_
   refine Ess 1 (tC x3 i2.1 i2.2) c fun _ c=>?_
   refine E0 ?_
   obtain rfl:=sj h
   exact wp_ret (br (tr (Rg c (i2.1,i2.2) [] [8] (.cell (α:=Agg 4) kk (.b 1) .nil))))
   refine P0 [] c fun _ c=>I0 c h (fun h=>?_) fun h=>?_
   refine T0 (Fp [(1,2)] 2 c fun _ c=>?_)
   replace c:=c.nf
   refine Bd h fun x4 hx4 h=>Eem c (.f 2) hx4 fun _ u3 _ c=>?_
   obtain ⟨a3,c3,rfl,c⟩:=c.o_Term 3
   refine Eal tZ c fun b4 _ _ c=>?_
   refine Ess 3 (tC x4 a3 c3) c fun _ c=>?_
   refine E0 (S0 (P0 [(1,0),(3,0),(6,3)] c fun _ c=>I0 c h (fun h=>?_) fun h=>?_))
   refine T0 (Fp [(1,0),(3,0),(4,3)] 5 c fun _ c=>Eltr 62 [(tR x4 a3 c3)] [x4] c ⟨(Ava.mk_Term x4 (.f 4)),tt⟩ fun a4 c4 _ _ c=>?_)
   replace c:=c.fzr 4 5
   refine Bd h fun x5 hx5 h=>Cg c (ih0 hx5) ⟨.f 6,tt⟩ call155 fun i3 _ _ c=>?_
   replace c:=c.nf
   refine Ess 1 (tC x5 i3.1 i3.2) c fun _ c=>?_
   refine E0 ?_
   obtain rfl:=sj h
   exact wp_ret (tr (br (tr (Rg c (i3.1,i3.2) [] [7] (.cell (α:=Agg 4) kk (.b 1) .nil)))))
   refine K0 (P0 [(1,0),(3,3)] c fun _ c=>I0 c h (fun h=>?_) fun h=>?_)
   refine Bd h fun x6 hx6 h=>?_
   obtain ⟨ep2,u4,c⟩:=c.elp (.f 2) hx6
   obtain ⟨a5,c5,rfl,c⟩:=c.o_Term 6
   refine S0 (YH mix (rM 12 [(9,.eq (.pointer (some ep2))),(10,.eq (tV x6 a5 c5)),(11,Pd.nw c.wd 11 (fun i:Oh=>L i.1 [x6] i.2) (fun i=>sl62 (L i.1 [x6] i.2) [(tR x6 a5 c5)]))] [(1,0),(3,0),(5,3),(8,2)] c (fun ow=>⟨ZG ow (Nie c 5),ZG ow (Nle c 5),Nlt c [(tR x6 a5 c5)],tt⟩) fun ow _ _ hE hc cq=>?_))
   obtain ⟨i4,hi4⟩:=hE.nw 11 74
   replace c:=Cx.newt c hc cq [(11,74,_,_)] ⟨hi4,tt⟩
   replace c:=c.csl [(tR x6 a5 c5)] [x6] ⟨(Ava.mk_Term x6 (.f 7)),tt⟩
   replace c:=c.fzr 4 8
   refine Bd h fun x7 hx7 h=>Cg c (ih0 hx7) ⟨.f 9,tt⟩ call155 fun i5 _ _ c=>?_
   refine Ess 1 (tC x7 i5.1 i5.2) c fun _ c=>?_
   refine E0 ?_
   obtain rfl:=sj h
   exact wp_ret (br (tr (Rg c (i5.1,i5.2) [] [10] (.cell (α:=Agg 4) kk (.b 1) .nil))))
   refine K1 (bk (tn (T0 (Fp [(0,0)] 1 c fun _ c=>Ess 1 (tC p0 ga0 gc1) c fun _ c=>?_))))
   refine E0 ?_
   obtain rfl:=sj h
   exact wp_ret (Rg c (ga0,gc1) [] [0] (.cell (α:=Agg 4) kk (.b 1) .nil))
   refine S0 (P0 [] c fun _ c=>Mp (x1.Op == 20) [(76,.bool (x1.Op == 20))] [(76,.bool (x1.Op == 21))] [(76,.bool ((x1.Op == 20) || (x1.Op == 21)))] [76,78] c fun _ c=>I0 c h (fun h=>?_) fun h=>?_)
   refine Bd h fun x8 hx8 h=>?_
   obtain ⟨ep3,u5,c⟩:=c.elp (.f 2) hx8
   obtain ⟨a6,c6,rfl,c⟩:=c.o_Term 4
   refine S0 (rZ [(7,.eq (.pointer (some ep3))),(9,.eq (I x8.W))] [(1,0),(3,0),(6,2)] mix c ⟨Nie c 3,Nlc c 3 1,tt⟩ fun _ _ c=>I0 c h (fun h=>?_) fun h=>?_)
   refine Bd h fun x9 hx9 h=>?_
   obtain ⟨ep4,u6,c⟩:=c.elp (.f 2) hx9
   obtain ⟨a7,c7,rfl,c⟩:=c.o_Term 7
   refine S0 (YH mix (rM 9 [(6,.eq (.pointer (some ep4))),(7,.eq (tV x9 a7 c7)),(8,Pd.nw c.wd 8 (fun i:Oh=>L i.1 [x9] i.2) (fun i=>sl62 (L i.1 [x9] i.2) [(tR x9 a7 c7)]))] [(1,0),(3,0),(5,2)] c (fun ow=>⟨ZG ow (Nie c 6),ZG ow (Nle c 6),Nlt c [(tR x9 a7 c7)],tt⟩) fun ow _ _ hE hc cq=>?_))
   obtain ⟨i6,hi6⟩:=hE.nw 8 98
   replace c:=Cx.newt c hc cq [(8,98,_,_)] ⟨hi6,tt⟩
   replace c:=c.csl [(tR x9 a7 c7)] [x9] ⟨(Ava.mk_Term x9 (.f 8)),tt⟩
   replace c:=c.nf
   replace c:=c.fzr 3 9
   refine Bd h fun x10 hx10 h=>Cg c (ih0 hx10) ⟨.f 10,tt⟩ call155 fun i7 _ _ c=>?_
   refine Ess 1 (tC x10 i7.1 i7.2) c fun _ c=>?_
   refine E0 ?_
   obtain rfl:=sj h
   exact wp_ret (br (tr (Rg c (i7.1,i7.2) [] [11] (.cell (α:=Agg 4) kk (.b 1) .nil))))
   refine K1 (bk (tn (T0 (Fp [(0,0)] 1 c fun _ c=>?_))))
   replace c:=c.nf
   refine Ess 1 (tC p0 ga0 gc1) c fun _ c=>?_
   refine E0 ?_
   obtain rfl:=sj h
   exact wp_ret (Rg c (ga0,gc1) [] [0] (.cell (α:=Agg 4) kk (.b 1) .nil))
   refine K1 (bk (tn (T0 (Fp [(0,0)] 1 c fun _ c=>?_))))
   replace c:=c.nf
   refine Ess 1 (tC p0 ga0 gc1) c fun _ c=>?_
   refine E0 ?_
   obtain rfl:=sj h
   exact wp_ret (Rg c (ga0,gc1) [] [0] (.cell (α:=Agg 4) kk (.b 1) .nil))
 · intro p0 ga0 gc1 r h
   rw [Yd] at h
   refine En func142 rfl ntmps142 fun _ fr w c=>?_
   refine T0 (Ebx (tC p0 ga0 gc1) c fun b1 _ _ c=>?_)
   refine Eal tZ c fun b2 _ _ c=>?_
   refine E0 (T0 (Fp [(1,0)] 2 c fun _ c=>Bd h fun x1 hx1 h=>Eem c (.f 0) hx1 fun _ u1 _ c=>?_))
   obtain ⟨a1,c1,rfl,c⟩:=c.o_Term 1
   refine Eal tZ c fun b3 _ _ c=>?_
   refine Ess 2 (tC x1 a1 c1) c fun _ c=>?_
   refine E0 (S0 (P0 [(1,0),(3,2)] c fun _ c=>I0 c h (fun h=>?_) fun h=>?_))
   refine T0 (Fp [(0,2)] 1 c fun _ c=>?_)
   replace c:=c.ng
   refine Ess 1 (tC x1 a1 c1) c fun _ c=>?_
   refine E0 ?_
   obtain rfl:=sj h
   exact wp_ret (tr (Rg c (a1,c1) [] [2] (.cell (α:=Agg 4) kk (.b 1) .nil)))
   refine K0 (S0 (P0 [(1,2),(3,0)] c fun _ c=>I0 c h (fun h=>?_) fun h=>?_))
   refine Bd h fun x2 hx2 h=>?_
   obtain ⟨ep1,u2,c⟩:=c.elp (.f 2) hx2
   obtain ⟨a2,c2,rfl,c⟩:=c.o_Term 4
   refine S0 (YH mix (rM 9 [(6,.eq (.pointer (some ep1))),(7,.eq (tV x2 a2 c2)),(8,Pd.nw c.wd 8 (fun i:Oh=>L i.1 [x2] i.2) (fun i=>sl62 (L i.1 [x2] i.2) [(tR x2 a2 c2)]))] [(1,0),(3,0),(5,2)] c (fun ow=>⟨ZG ow (Nie c 3),ZG ow (Nle c 3),Nlt c [(tR x2 a2 c2)],tt⟩) fun ow _ _ hE hc cq=>?_))
   obtain ⟨i1,hi1⟩:=hE.nw 8 27
   replace c:=Cx.newt c hc cq [(8,27,_,_)] ⟨hi1,tt⟩
   replace c:=c.csl [(tR x2 a2 c2)] [x2] ⟨(Ava.mk_Term x2 (.f 5)),tt⟩
   replace c:=c.ng
   replace c:=c.fzr 3 6
   refine Bd h fun x3 hx3 h=>Cg c (ih0 hx3) ⟨.f 7,tt⟩ call155 fun i2 _ _ c=>?_
   refine Ess 1 (tC x3 i2.1 i2.2) c fun _ c=>?_
   refine E0 ?_
   obtain rfl:=sj h
   exact wp_ret (tr (Rg c (i2.1,i2.2) [] [8] (.cell (α:=Agg 4) kk (.b 1) .nil)))
   refine K0 (T0 (Fp [(0,0)] 1 c fun _ c=>?_))
   replace c:=c.nf
   refine Ess 1 (tC p0 ga0 gc1) c fun _ c=>?_
   refine E0 ?_
   obtain rfl:=sj h
   exact wp_ret (Rg c (ga0,gc1) [] [0] (.cell (α:=Agg 4) kk (.b 1) .nil))
 · intro p0 ga0 gc1 r h
   rw [Ya] at h
   refine En func143 rfl ntmps143 fun _ fr w c=>?_
   refine T0 (Ebx (tC p0 ga0 gc1) c fun b1 _ _ c=>?_)
   refine Eal tZ c fun b2 _ _ c=>?_
   refine E0 (Bd h fun x1 hx1 h=>?_)
   obtain ⟨ep1,u1,c⟩:=c.elp (.f 0) hx1
   obtain ⟨a1,c1,rfl,c⟩:=c.o_Term 2
   refine Bd h fun x2 hx2 h=>?_
   obtain ⟨ep2,u2,c⟩:=c.elp (.f 0) hx2
   obtain ⟨a2,c2,rfl,c⟩:=c.o_Term 5
   refine S0 (Jn (fun i:Nat × Nat=>([(1,B b1 0),(2,B b2 0),(3,B i.1 0),(4,B i.2 0)],fun Γ=>Γ ++ [BX i.1 62 (tC x1 a1 c1),BX i.2 62 (tC x2 a2 c2)],[])) c ?_ fun i4 _ _ c=>?_)
   refine As mix c fun _ c=>?_
   replace c:=Cx.frs [(1,B b1 0),(2,B b2 0)] c
   refine Dq (fun i:Nat × Nat=>([(1,B b1 0),(2,B b2 0),(3,B i.1 0),(4,B i.2 0)],fun Γ=>Γ ++ [BX i.1 62 (tC x1 a1 c1),BX i.2 62 (tC x2 a2 c2)],[])) (bN 12 4095) (fun i=>[]) c (fun i3=>?_) fun hd5=>?_
   obtain ⟨b13,b14⟩:=i3
   refine qnE tt fun _ _ c=>?_
   exact nN (b13,b14) (c.rk (rg 4) (rg 7))
   refine Dq (fun i:Nat × Nat=>([(1,B b1 0),(2,B b2 0),(3,B i.1 0),(4,B i.2 0)],fun Γ=>Γ ++ [BX i.1 62 (tC x1 a1 c1),BX i.2 62 tZ],[])) (bN 12 1807) (fun i=>[(4,9,B b1 4),(5,10,L ga0 p0.Kids gc1),(6,11,.pointer (some ep2)),(7,12,tV x2 a2 c2)]) c (fun i2=>?_) fun hd4=>?_
   obtain ⟨b11,b12⟩:=i2
   refine qn [11] ⟨qP [],qP [(0,0)],qI 4,qL 4,tt⟩ ⟨fun _ _ c=>?_,tt⟩
   refine Zf _ rfl rfl ?_
   refine Ess 3 (tC x2 a2 c2) c fun _ c=>?_
   refine E0 (nQ hd5 (b11,b12) (c.rk (rg 4) (rg 7)))
   refine Dq (fun i:Nat × Nat=>([(1,B b1 0),(2,B b2 0),(3,B i.1 0),(4,B i.2 0)],fun Γ=>Γ ++ [BX i.1 62 tZ,BX i.2 62 tZ],[])) (bN 12 768) (fun i=>[(0,5,B b1 4),(1,6,L ga0 p0.Kids gc1),(2,7,.pointer (some ep1)),(3,8,tV x1 a1 c1),(4,9,B b1 4),(5,10,L ga0 p0.Kids gc1),(6,11,.pointer (some ep2)),(7,12,tV x2 a2 c2)]) c (fun i1=>?_) fun hd3=>?_
   obtain ⟨b8,b9⟩:=i1
   refine qn [10] ⟨qP [],qP [(0,0)],qI 1,qL 1,qP [],qP [(0,0)],qI 4,qL 4,tt⟩ ⟨fun _ _ c=>?_,tt⟩
   refine Zf _ rfl rfl ?_
   refine Ess 2 (tC x1 a1 c1) c fun _ c=>?_
   refine E0 (nQ hd4 (b8,b9) (c.rk (rg 4) (rg 7)))
   refine Dq (fun i:Nat=>([(1,B b1 0),(2,B b2 0),(3,B i 0)],fun Γ=>Γ ++ [BX i 62 tZ],[])) (bN 12 256) (fun i=>[(0,5,B b1 4),(1,6,L ga0 p0.Kids gc1),(2,7,.pointer (some ep1)),(3,8,tV x1 a1 c1),(4,9,B b1 4),(5,10,L ga0 p0.Kids gc1),(6,11,.pointer (some ep2)),(7,12,tV x2 a2 c2)]) c (fun b4=>?_) fun hd1=>?_
   refine qn [9] ⟨qP [],qP [(0,0)],qI 1,qL 1,qP [],qP [(0,0)],qI 4,qL 4,tt⟩ ⟨fun _ _ c=>?_,tt⟩
   refine Zf _ rfl rfl ?_
   refine Eal tZ c fun b7 _ _ c=>?_
   refine E0 (nQ hd3 (b4,b7) (c.rk (rg 4) (rg 7)))
   refine Dq (fun i:Nat=>([(1,B b1 0),(2,B b2 0),(4,B i 0)],fun Γ=>Γ ++ [BX i 62 tZ],[])) (bN 12 512) (fun i=>[(0,5,B b1 4),(1,6,L ga0 p0.Kids gc1),(2,7,.pointer (some ep1)),(3,8,tV x1 a1 c1),(4,9,B b1 4),(5,10,L ga0 p0.Kids gc1),(6,11,.pointer (some ep2)),(7,12,tV x2 a2 c2)]) c (fun b6=>?_) fun hd2=>?_
   refine qn [8] ⟨qP [],qP [(0,0)],qI 1,qL 1,qP [],qP [(0,0)],qI 4,qL 4,tt⟩ ⟨fun _ _ c=>?_,tt⟩
   refine Zf _ rfl rfl ?_
   refine Eal tZ c fun b10 _ _ c=>?_
   refine E0 (nQ hd3 (b10,b6) (c.rk [0,1,3,2] (rg 7)))
   refine q0 (qs:=[(0,5,B b1 4),(1,6,L ga0 p0.Kids gc1),(2,7,.pointer (some ep1)),(3,8,tV x1 a1 c1),(4,9,B b1 4),(5,10,L ga0 p0.Kids gc1),(6,11,.pointer (some ep2)),(7,12,tV x2 a2 c2)]) c (qn [8,9] ⟨qP [],qP [(0,0)],qI 1,qL 1,qP [],qP [(0,0)],qI 4,qL 4,tt⟩ ⟨fun _ _ c=>?_,fun _ _ c=>?_,tt⟩)
   refine Zf _ rfl rfl ?_
   refine Eal tZ c fun b3 _ _ c=>?_
   refine E0 (nQ hd1 (b3) (c.rk [0,1,2] (rg 7)))
   refine Zf _ rfl rfl ?_
   refine Eal tZ c fun b5 _ _ c=>?_
   refine E0 (nQ hd2 (b5) (c.rk [0,1,2] (rg 7)))
   obtain ⟨b15,b16⟩:=i4
   refine S0 (Bd h fun x3 hx3 h=>Bd h fun x4 hx4 h=>Bd h fun x5 hx5 h=>S0 (rZ [(21,Pd.el (x3:D.Term)),(22,Pd.rd (x3:D.Term)),(25,Pd.el (x4:D.Term)),(26,Pd.rd (x4:D.Term)),(27,.eq (.bool x5))] [(1,2),(5,3),(10,2),(12,3),(14,3),(20,2),(24,3)] mix c ⟨Nid c (.f 3) (gT hx3),Nrd c 21 (atN 21),Nid c (.f 6) (gT hx4),Nrd c 25 (atN 25),Ncd (Ψ:=[]) [.r 22 (fun v=>RO v (x3:D.Term)),.r 26 (fun v=>RO v (x4:D.Term))] c ⟨(atN 22),(atN 26),tt⟩ tt (fun hg _ _ ga gp=>by obtain ⟨u1,_,rfl,g1,u2,_,rfl,g2,rfl⟩:=ga; obtain ⟨k1,rfl,f1⟩:=Opn.opn g1; obtain ⟨k2,rfl,f2⟩:=Opn.opn g2; exact ⟨_,(f1.join f2),Zbd (iteT (gcT hg) hx5)⟩) call154,tt⟩ fun _ _ c=>I0 c h (fun h=>?_) fun h=>?_))
   refine Bd h fun x6 hx6 h=>?_
   obtain ⟨ep3,u3,c⟩:=c.elp (.f 6) hx6
   obtain ⟨a3,c3,rfl,c⟩:=c.o_Term 8
   refine S0 (YH mix (rM 9 [(6,.eq (.pointer (some ep3))),(7,.eq (tV x6 a3 c3)),(8,Pd.nw c.wd 8 (fun i:Oh=>L i.1 [x6] i.2) (fun i=>sl62 (L i.1 [x6] i.2) [(tR x6 a3 c3)]))] [(1,0),(3,3),(5,3)] c (fun ow=>⟨ZG ow (Nie c 7),ZG ow (Nle c 7),Nlt c [(tR x6 a3 c3)],tt⟩) fun ow _ _ hE hc cq=>?_))
   obtain ⟨i5,hi5⟩:=hE.nw 8 50
   replace c:=Cx.newt c hc cq [(8,50,_,_)] ⟨hi5,tt⟩
   replace c:=c.csl [(tR x6 a3 c3)] [x6] ⟨(Ava.mk_Term x6 (.f 9)),tt⟩
   replace c:=c.fzr 4 10
   refine Bd h fun x7 hx7 h=>Cg c (ih0 hx7) ⟨.f 11,tt⟩ call155 fun i6 _ _ c=>?_
   refine Ess 1 (tC x7 i6.1 i6.2) c fun _ c=>?_
   refine E0 ?_
   obtain rfl:=sj h
   exact wp_ret (tr (Rg c (i6.1,i6.2) [] [12] (.cell (α:=Agg 4) kk (.b 1) .nil)))
   refine K0 (T0 (Fp [(0,0)] 1 c fun _ c=>Ess 1 (tC p0 ga0 gc1) c fun _ c=>?_))
   refine E0 ?_
   obtain rfl:=sj h
   exact wp_ret (Rg c (ga0,gc1) [] [0] (.cell (α:=Agg 4) kk (.b 1) .nil))
 · intro p0 ga0 gc1 r h
   rw [Za] at h
   refine En func144 rfl ntmps144 fun _ fr w c=>?_
   refine T0 (Ebx (tC p0 ga0 gc1) c fun b1 _ _ c=>?_)
   refine Eal tZ c fun b2 _ _ c=>?_
   refine E0 (Bd h fun x1 hx1 h=>?_)
   obtain ⟨ep1,u1,c⟩:=c.elp (.f 0) hx1
   obtain ⟨a1,c1,rfl,c⟩:=c.o_Term 2
   refine Bd h fun x2 hx2 h=>?_
   obtain ⟨ep2,u2,c⟩:=c.elp (.f 0) hx2
   obtain ⟨a2,c2,rfl,c⟩:=c.o_Term 5
   refine S0 (Jn (fun i:Nat × Nat=>([(1,B b1 0),(2,B b2 0),(3,B i.1 0),(4,B i.2 0)],fun Γ=>Γ ++ [BX i.1 62 (tC x1 a1 c1),BX i.2 62 (tC x2 a2 c2)],[])) c ?_ fun i4 _ _ c=>?_)
   refine As mix c fun _ c=>?_
   replace c:=Cx.frs [(1,B b1 0),(2,B b2 0)] c
   refine Dq (fun i:Nat × Nat=>([(1,B b1 0),(2,B b2 0),(3,B i.1 0),(4,B i.2 0)],fun Γ=>Γ ++ [BX i.1 62 (tC x1 a1 c1),BX i.2 62 (tC x2 a2 c2)],[])) (bN 12 4095) (fun i=>[]) c (fun i3=>?_) fun hd5=>?_
   obtain ⟨b13,b14⟩:=i3
   refine qnE tt fun _ _ c=>?_
   exact nN (b13,b14) (c.rk (rg 4) (rg 7))
   refine Dq (fun i:Nat × Nat=>([(1,B b1 0),(2,B b2 0),(3,B i.1 0),(4,B i.2 0)],fun Γ=>Γ ++ [BX i.1 62 (tC x1 a1 c1),BX i.2 62 tZ],[])) (bN 12 1807) (fun i=>[(4,12,B b1 4),(5,13,L ga0 p0.Kids gc1),(6,14,.pointer (some ep2)),(7,15,tV x2 a2 c2)]) c (fun i2=>?_) fun hd4=>?_
   obtain ⟨b11,b12⟩:=i2
   refine qn [11] ⟨qP [],qP [(0,0)],qI 4,qL 4,tt⟩ ⟨fun _ _ c=>?_,tt⟩
   refine Zf _ rfl rfl ?_
   refine Ess 3 (tC x2 a2 c2) c fun _ c=>?_
   refine E0 (nQ hd5 (b11,b12) (c.rk (rg 4) (rg 7)))
   refine Dq (fun i:Nat × Nat=>([(1,B b1 0),(2,B b2 0),(3,B i.1 0),(4,B i.2 0)],fun Γ=>Γ ++ [BX i.1 62 tZ,BX i.2 62 tZ],[])) (bN 12 768) (fun i=>[(0,8,B b1 4),(1,9,L ga0 p0.Kids gc1),(2,10,.pointer (some ep1)),(3,11,tV x1 a1 c1),(4,12,B b1 4),(5,13,L ga0 p0.Kids gc1),(6,14,.pointer (some ep2)),(7,15,tV x2 a2 c2)]) c (fun i1=>?_) fun hd3=>?_
   obtain ⟨b8,b9⟩:=i1
   refine qn [10] ⟨qP [],qP [(0,0)],qI 1,qL 1,qP [],qP [(0,0)],qI 4,qL 4,tt⟩ ⟨fun _ _ c=>?_,tt⟩
   refine Zf _ rfl rfl ?_
   refine Ess 2 (tC x1 a1 c1) c fun _ c=>?_
   refine E0 (nQ hd4 (b8,b9) (c.rk (rg 4) (rg 7)))
   refine Dq (fun i:Nat=>([(1,B b1 0),(2,B b2 0),(3,B i 0)],fun Γ=>Γ ++ [BX i 62 tZ],[])) (bN 12 256) (fun i=>[(0,8,B b1 4),(1,9,L ga0 p0.Kids gc1),(2,10,.pointer (some ep1)),(3,11,tV x1 a1 c1),(4,12,B b1 4),(5,13,L ga0 p0.Kids gc1),(6,14,.pointer (some ep2)),(7,15,tV x2 a2 c2)]) c (fun b4=>?_) fun hd1=>?_
   refine qn [9] ⟨qP [],qP [(0,0)],qI 1,qL 1,qP [],qP [(0,0)],qI 4,qL 4,tt⟩ ⟨fun _ _ c=>?_,tt⟩
   refine Zf _ rfl rfl ?_
   refine Eal tZ c fun b7 _ _ c=>?_
   refine E0 (nQ hd3 (b4,b7) (c.rk (rg 4) (rg 7)))
   refine Dq (fun i:Nat=>([(1,B b1 0),(2,B b2 0),(4,B i 0)],fun Γ=>Γ ++ [BX i 62 tZ],[])) (bN 12 512) (fun i=>[(0,8,B b1 4),(1,9,L ga0 p0.Kids gc1),(2,10,.pointer (some ep1)),(3,11,tV x1 a1 c1),(4,12,B b1 4),(5,13,L ga0 p0.Kids gc1),(6,14,.pointer (some ep2)),(7,15,tV x2 a2 c2)]) c (fun b6=>?_) fun hd2=>?_
   refine qn [8] ⟨qP [],qP [(0,0)],qI 1,qL 1,qP [],qP [(0,0)],qI 4,qL 4,tt⟩ ⟨fun _ _ c=>?_,tt⟩
   refine Zf _ rfl rfl ?_
   refine Eal tZ c fun b10 _ _ c=>?_
   refine E0 (nQ hd3 (b10,b6) (c.rk [0,1,3,2] (rg 7)))
   refine q0 (qs:=[(0,8,B b1 4),(1,9,L ga0 p0.Kids gc1),(2,10,.pointer (some ep1)),(3,11,tV x1 a1 c1),(4,12,B b1 4),(5,13,L ga0 p0.Kids gc1),(6,14,.pointer (some ep2)),(7,15,tV x2 a2 c2)]) c (qn [8,9] ⟨qP [],qP [(0,0)],qI 1,qL 1,qP [],qP [(0,0)],qI 4,qL 4,tt⟩ ⟨fun _ _ c=>?_,fun _ _ c=>?_,tt⟩)
   refine Zf _ rfl rfl ?_
   refine Eal tZ c fun b3 _ _ c=>?_
   refine E0 (nQ hd1 (b3) (c.rk [0,1,2] (rg 7)))
   refine Zf _ rfl rfl ?_
   refine Eal tZ c fun b5 _ _ c=>?_
   refine E0 (nQ hd2 (b5) (c.rk [0,1,2] (rg 7)))
   obtain ⟨b15,b16⟩:=i4
   refine S0 (Bd h fun x3 hx3 h=>Bd h fun x4 hx4 h=>S0 (rZ [(2,.eq (.bool x3)),(6,.eq (I x4))] [(1,0),(4,2),(5,3)] mix c ⟨Ncl c (kN (ZbZ hx3)) tt call156,Ncl c (fun hg=>Zbo (iteT (gcT hg) hx4)) ⟨.f 3,.f 6,tt⟩ call157,tt⟩ fun _ _ c=>I0 c h (fun h=>?_) fun h=>?_))
   refine T0 (Fp [(1,0),(3,0),(4,3),(5,2)] 6 c fun _ c=>Eltr 62 [(tR x2 a2 c2),(tR x1 a1 c1)] [x2,x1] c ⟨(Ava.mk_Term x2 (.f 6)),(Ava.mk_Term x1 (.f 3)),tt⟩ fun a3 c3 _ _ c=>?_)
   replace c:=c.fzr 4 7
   refine Bd h fun x5 hx5 h=>Cg c (ih0 hx5) ⟨.f 8,tt⟩ call155 fun i5 _ _ c=>?_
   refine Ess 1 (tC x5 i5.1 i5.2) c fun _ c=>?_
   refine E0 ?_
   obtain rfl:=sj h
   exact wp_ret (tr (Rg c (i5.1,i5.2) [] [9] (.cell (α:=Agg 4) kk (.b 1) .nil)))
   refine K0 (S0 (T0 (Fp [(0,2)] 1 c fun _ c=>Bd h fun x6 hx6 h=>Cb c (YJ hx6) ⟨.f 3,tt⟩ call96 fun _ _ _ c=>?_)))
   refine E0 (Bd h fun rl1 hit1 h=>?_)
   have hk1:=h
   refine Jr (fun s  (_:Unit)=>([(1,B b1 0),(2,B b2 0),(3,B b15 0),(4,B b16 0)],id,[])) hit1 c (fun h=>?_) fun s1r _ _ _ hrl c=>?_
   refine I0 c h (fun h=>?_) fun h=>?_
   refine T0 (Fp [(1,0),(3,0),(4,2),(5,3)] 6 c fun _ c=>Bd h fun x7 hx7 h=>Cg c (ih7 hx7) ⟨.f 3,.f 6,tt⟩ call158 fun i6 _ _ c=>?_)
   refine Fp [] 3 c fun _ c=>Eal tZ c fun b17 _ _ c=>?_
   refine Ess 4 (tC x7.1 i6.1 i6.2) c fun _ c=>?_
   refine Fp [] 1 c fun _ c=>E0 (P0 [] c fun _ c=>I0 c h (fun h=>?_) fun h=>?_)
   refine T0 (Fp [(0,4)] 1 c fun _ c=>Ess 1 (tC x7.1 i6.1 i6.2) c fun _ c=>?_)
   refine E0 ?_
   obtain rfl:=sj h
   obtain rfl:=sj hk1
   exact wp_ret (tr (Rg c (i6.1,i6.2) [] [7] (.cell (α:=Agg 4) kk (.b 1) .nil)))
   refine K0 (⟨_,(),(sk h),c.rk (rg 4) (rg 7)⟩)
   refine K0 (⟨_,(),(sk h),c.rk (rg 4) (rg 7)⟩)
   subst hrl
   refine S0 (T0 (Fp [(0,3)] 1 c fun _ c=>Bd h fun x8 hx8 h=>Cb c (YX hx8) ⟨.f 6,tt⟩ call93 fun _ _ _ c=>?_))
   refine E0 (Bd h fun rl2 hit2 h=>?_)
   have hk2:=h
   refine Jr (fun s  (_:Unit)=>([(1,B b1 0),(2,B b2 0),(3,B b15 0),(4,B b16 0)],id,[])) hit2 c (fun h=>?_) fun s2r _ _ _ hrl c=>?_
   refine I0 c h (fun h=>?_) fun h=>?_
   refine P0 [(1,0)] c fun _ c=>wp_block (S0 (P0 [] c fun _ c=>Bd h fun rl3 hit3 h=>?_))
   have hk3:=h
   refine Jr (fun s  (_:Unit)=>([(1,B b1 0),(2,B b2 0),(3,B b15 0),(4,B b16 0),(50,I p0.Op),(51,.bool s)],id,[])) hit3 c (fun h=>?_) fun s3r _ _ _ hrl c=>?_
   refine I0 c h (fun h=>?_) fun h=>?_
   refine K0 (⟨_,(),(sk h),c.rk (rg 4) (rg 7)⟩)
   refine P0 [] c fun _ c=>I0 c h (fun h=>?_) fun h=>?_
   refine K0 (⟨_,(),(sk h),c.rk (rg 4) (rg 7)⟩)
   refine P0 [] c fun _ c=>Mp (p0.Op == 12) [(51,.bool (p0.Op == 12))] [(51,.bool (p0.Op == 13))] [(51,.bool ((p0.Op == 12) || (p0.Op == 13)))] [51,55] c fun _ c=>⟨_,(),(sk h),c.rk (rg 4) (rg 7)⟩
   subst hrl
   refine I0 c h (fun h=>?_) fun h=>?_
   refine T0 (Fp [(0,2)] 1 c fun _ c=>Ess 1 (tC x1 a1 c1) c fun _ c=>?_)
   refine E0 ?_
   obtain rfl:=sj h
   obtain rfl:=sj hk2
   exact wp_ret (br (tr (Rg c (a1,c1) [] [3] (.cell (α:=Agg 4) kk (.b 1) .nil))))
   refine P0 [] c fun _ c=>I0 c h (fun h=>?_) fun h=>?_
   refine T0 (Bd h fun x9 hx9 h=>Cb c (ZA hx9) tt call74 fun _ _ _ c=>?_)
   refine Ess 1 [I x9.Op,I x9.W,I x9.N,Str.val x9.Name,L0] c fun _ c=>?_
   refine E0 ?_
   obtain rfl:=sj h
   obtain rfl:=sj hk2
   replace c:=c.nilf (α:=D.Term)
   exact wp_ret (br (tr (Rg c (none,0) [] [7] (.cell (α:=Agg 4) kk (.b 1) .nil))))
   refine K1 (bk (tn (⟨_,(),(sk h),c.rk (rg 4) (rg 7)⟩)))
   refine K0 (⟨_,(),(sk h),c.rk (rg 4) (rg 7)⟩)
   subst hrl
   refine S0 (T0 (Fp [(0,2),(1,3)] 2 c fun _ c=>Bd h fun x10 hx10 h=>Cb c (Zbd hx10) ⟨.f 3,.f 6,tt⟩ call154 fun _ _ _ c=>?_))
   refine E0 (Bd h fun rl4 hit4 h=>?_)
   have hk4:=h
   refine Jr (fun s  (_:Unit)=>([(1,B b1 0),(2,B b2 0),(3,B b15 0),(4,B b16 0)],id,[])) hit4 c (fun h=>?_) fun s4r _ _ _ hrl c=>?_
   refine I0 c h (fun h=>?_) fun h=>?_
   refine P0 [(1,0)] c fun _ c=>wp_block (S0 (P0 [] c fun _ c=>Mp (p0.Op == 8) [(65,.bool (p0.Op == 8))] [(65,.bool (p0.Op == 9))] [(65,.bool ((p0.Op == 8) || (p0.Op == 9)))] [65,67] c fun _ c=>I0 c h (fun h=>?_) fun h=>?_))
   refine T0 (Fp [(0,2)] 1 c fun _ c=>Ess 1 (tC x1 a1 c1) c fun _ c=>?_)
   refine E0 ?_
   obtain rfl:=sj h
   obtain rfl:=sj hk4
   exact wp_ret (br (tr (Rg c (a1,c1) [] [3] (.cell (α:=Agg 4) kk (.b 1) .nil))))
   refine S0 (P0 [] c fun _ c=>Bd h fun rl5 hit5 h=>?_)
   have hk5:=h
   refine Jr (fun s  (_:Unit)=>([(1,B b1 0),(2,B b2 0),(3,B b15 0),(4,B b16 0),(64,I p0.Op),(69,.bool s)],id,[])) hit5 c (fun h=>?_) fun s5r _ _ _ hrl c=>?_
   refine I0 c h (fun h=>?_) fun h=>?_
   refine K0 (⟨_,(),(sk h),c.rk (rg 4) (rg 7)⟩)
   refine P0 [] c fun _ c=>I0 c h (fun h=>?_) fun h=>?_
   refine K0 (⟨_,(),(sk h),c.rk (rg 4) (rg 7)⟩)
   refine P0 [] c fun _ c=>Mp (p0.Op == 15) [(69,.bool (p0.Op == 15))] [(69,.bool (p0.Op == 16))] [(69,.bool ((p0.Op == 15) || (p0.Op == 16)))] [69,73] c fun _ c=>⟨_,(),(sk h),c.rk (rg 4) (rg 7)⟩
   subst hrl
   refine I0 c h (fun h=>?_) fun h=>?_
   refine T0 (Fp [(1,0)] 2 c fun _ c=>Bd h fun x11 hx11 h=>Cb c (ZA hx11) tt call74 fun _ _ _ c=>?_)
   refine Ess 1 [I x11.Op,I x11.W,I x11.N,Str.val x11.Name,L0] c fun _ c=>?_
   refine E0 ?_
   obtain rfl:=sj h
   obtain rfl:=sj hk4
   replace c:=c.nilf (α:=D.Term)
   exact wp_ret (br (tr (Rg c (none,0) [] [7] (.cell (α:=Agg 4) kk (.b 1) .nil))))
   refine P0 [] c fun _ c=>I0 c h (fun h=>?_) fun h=>?_
   refine T0 (Bd h fun x12 hx12 h=>Cb c (ZA hx12) tt call74 fun _ _ _ c=>?_)
   refine Ess 1 [I x12.Op,I x12.W,I x12.N,Str.val x12.Name,L0] c fun _ c=>?_
   refine E0 ?_
   obtain rfl:=sj h
   obtain rfl:=sj hk4
   replace c:=c.nilf (α:=D.Term)
   exact wp_ret (br (tr (Rg c (none,0) [] [7] (.cell (α:=Agg 4) kk (.b 1) .nil))))
   refine K1 (bk (tn (⟨_,(),(sk h),c.rk (rg 4) (rg 7)⟩)))
   refine K0 (⟨_,(),(sk h),c.rk (rg 4) (rg 7)⟩)
   subst hrl
   refine S0 (Bd h fun x13 hx13 h=>Bd h fun x14 hx14 h=>Bd h fun x15 hx15 h=>Bd h fun x16 hx16 h=>S0 (rZ [(2,.eq (.bool x13)),(10,.eq (.bool x14)),(22,Pd.el (x15:D.Term)),(23,Pd.rd (x15:D.Term)),(24,.eq (.bool x16))] [(1,0),(5,0),(9,2),(14,3),(16,0),(21,3)] mix c ⟨Ncl c (kN (ZbZ hx13)) tt call156,Ncl c (fun hg=>YJ (iteT (gcT hg) hx14)) ⟨.f 3,tt⟩ call96,Nid c (.f 6) (gT hx15),Nrd c 22 (atN 22),Ncd (Ψ:=[]) [.r 23 (fun v=>RO v (x15:D.Term))] c ⟨(atN 23),tt⟩ tt (fun hg _ _ ga gp=>by obtain ⟨u1,_,rfl,g1,rfl⟩:=ga; obtain ⟨k1,rfl,f1⟩:=Opn.opn g1; exact ⟨_,f1,YJ (iteT (gcT hg) hx16)⟩) call96,tt⟩ fun _ _ c=>I0 c h (fun h=>?_) fun h=>?_))
   refine Bd h fun x17 hx17 h=>?_
   obtain ⟨ep3,u3,c⟩:=c.elp (.f 6) hx17
   obtain ⟨a4,c4,rfl,c⟩:=c.o_Term 8
   refine Bd h fun x18 hx18 h=>S0 (rZ [(8,.eq (.pointer (some ep3))),(10,.eq (I x17.N)),(11,.eq (I x18))] [(1,0),(3,0),(5,2),(7,3)] mix c ⟨Nie c 7,Nlc c 7 2,Ncl c (kN (Zb5 hx18)) tt call81,tt⟩ fun _ _ c=>Bd h fun x19 hx19 h=>Bd h fun x20 hx20 h=>?_)
   obtain ⟨ep4,u4,c⟩:=c.elp (.f 6) hx20
   obtain ⟨a5,c5,rfl,c⟩:=c.o_Term 11
   refine S0 (YH mix (rM 13 [(7,.eq (.agg #[I x19.Op,I x19.W,I x19.N,Str.val x19.Name,L0])),(10,.eq (.pointer (some ep4))),(11,.eq (tV x20 a5 c5)),(12,Pd.nw c.wd 12 (fun i:Oh=>L i.1 [(t0 x19),x20] i.2) (fun i=>sl62 (L i.1 [(t0 x19),x20] i.2) [(u0 x19),(tR x20 a5 c5)]))] [(1,0),(3,0),(5,0),(9,3)] c (fun ow=>⟨ZG ow (Ncl c (kN (ZA hx19)) tt call74),ZG ow (Nie c 10),ZG ow (Nle c 10),Nlt c [(u0 x19),(tR x20 a5 c5)],tt⟩) fun ow _ _ hE hc cq=>?_))
   obtain ⟨i7,hi7⟩:=hE.nw 12 130
   replace c:=Cx.newt c hc cq [(12,130,_,_)] ⟨hi7,tt⟩
   replace c:=c.csl [(u0 x19),(tR x20 a5 c5)] [(t0 x19),x20] ⟨(Ava.mk_Term (t0 x19) (.nil)),(Ava.mk_Term x20 (.f 12)),tt⟩
   replace c:=c.fzr 4 13
   refine Bd h fun x21 hx21 h=>Cg c (ih0 hx21) ⟨.f 14,tt⟩ call155 fun i8 _ _ c=>?_
   refine Ess 1 (tC x21 i8.1 i8.2) c fun _ c=>?_
   refine E0 ?_
   obtain rfl:=sj h
   exact wp_ret (tr (Rg c (i8.1,i8.2) [] [15] (.cell (α:=Agg 4) kk (.b 1) .nil)))
   refine K0 (T0 (Fp [(0,0)] 1 c fun _ c=>Ess 1 (tC p0 ga0 gc1) c fun _ c=>?_))
   refine E0 ?_
   obtain rfl:=sj h
   exact wp_ret (Rg c (ga0,gc1) [] [0] (.cell (α:=Agg 4) kk (.b 1) .nil))
 · intro p0 p1 p2 p3 ga0 gc1 ga2 gc3 r h
   rw [Zv] at h
   refine En func158 rfl ntmps158 fun _ fr w c=>?_
   refine T0 (Ebx (tC p2 ga0 gc1) c fun b1 _ _ c=>?_)
   refine Ebx (tC p3 ga2 gc3) c fun b2 _ _ c=>?_
   refine Eal tZ c fun b3 _ _ c=>?_
   refine Fp [] 1 c fun _ c=>E0 (T0 (Fp [(1,0)] 2 c fun _ c=>Bd h fun x1 hx1 h=>Cb c (Zfq hx1) tt call166 fun _ _ _ c=>?_))
   refine Fp [] 1 c fun _ c=>E0 (S0 (wp_block (S0 (S0 (Ry [(4,0)] mix c fun _ _ c=>Bd h fun rl1 hit1 h=>?_)))))
   have hk1:=h
   refine Jr (fun s  (_:Unit)=>([(0,I p0),(1,I p1),(6,B b1 0),(7,B b2 0),(8,B b3 0),(10,I x1),(14,.bool s)],id,[])) hit1 c (fun h=>?_) fun s1r _ _ _ hrl c=>?_
   refine I0 c h (fun h=>?_) fun h=>?_
   refine K0 (⟨_,(),(sk h),c.rk [0,1,2] [0,1]⟩)
   refine S0 (Ry [(4,0)] mix c fun _ _ c=>I0 c h (fun h=>?_) fun h=>?_)
   refine K0 (⟨_,(),(sk h),c.rk [0,1,2] [0,1]⟩)
   refine S0 (Ry [(4,0)] mix c fun _ _ c=>I0 c h (fun h=>?_) fun h=>?_)
   refine K0 (⟨_,(),(sk h),c.rk [0,1,2] [0,1]⟩)
   refine S0 (Ry [(4,0)] mix c fun _ _ c=>I0 c h (fun h=>?_) fun h=>?_)
   refine K0 (⟨_,(),(sk h),c.rk [0,1,2] [0,1]⟩)
   refine S0 (Ry [(4,0)] mix c fun _ _ c=>I0 c h (fun h=>?_) fun h=>?_)
   refine K0 (⟨_,(),(sk h),c.rk [0,1,2] [0,1]⟩)
   refine Ry [(4,0),(9,0)] mix c fun _ _ c=>?_
   exact ⟨_,(),(sk h),c.rk [0,1,2] [0,1]⟩
   subst hrl
   refine I0 c h (fun h=>?_) fun h=>?_
   refine T0 (Fp [(0,1)] 1 c fun _ c=>Ess 2 (tC p3 ga2 gc3) c fun _ c=>?_)
   refine Fp [] 1 c fun _ c=>E0 ?_
   cases h
   exact wp_ret (br (tr (Rg c (ga2,gc3) [] [1] (.cell (α:=Agg 4) kk (.b 2) (.tmp .nil)))))
   refine S0 (S0 (Ry [(4,0)] mix c fun _ _ c=>Bd h fun rl2 hit2 h=>?_))
   have hk2:=h
   refine Jr (fun s  (_:Unit)=>([(0,I p0),(1,I p1),(6,B b1 0),(7,B b2 0),(8,B b3 0),(10,I x1),(64,.bool s)],id,[])) hit2 c (fun h=>?_) fun s2r _ _ _ hrl c=>?_
   refine I0 c h (fun h=>?_) fun h=>?_
   refine K0 (⟨_,(),(sk h),c.rk [0,1,2] [0,1]⟩)
   refine Ry [(4,0)] mix c fun _ _ c=>?_
   exact ⟨_,(),(sk h),c.rk [0,1,2] [0,1]⟩
   subst hrl
   refine I0 c h (fun h=>?_) fun h=>?_
   refine T0 (Fp [] 1 c fun _ c=>Bd h fun x2 hx2 h=>Cb c (ZA hx2) tt call74 fun _ _ _ c=>?_)
   replace c:=c.nf
   refine Ess 2 [I x2.Op,I x2.W,I x2.N,Str.val x2.Name,L0] c fun _ c=>?_
   refine Fp [] 1 c fun _ c=>E0 ?_
   cases h
   replace c:=c.nilf (α:=D.Term)
   exact wp_ret (br (tr (Rg c (none,0) [] [2] (.cell (α:=Agg 4) kk (.b 2) (.tmp .nil)))))
   refine S0 (Ry [(4,0)] mix c fun _ _ c=>I0 c h (fun h=>?_) fun h=>?_)
   refine T0 (Fp [] 2 c fun _ c=>Bd h fun x3 hx3 h=>Cb c (ZA hx3) tt call74 fun _ _ _ c=>?_)
   replace c:=c.nf
   refine Ess 2 [I x3.Op,I x3.W,I x3.N,Str.val x3.Name,L0] c fun _ c=>?_
   refine Fp [] 1 c fun _ c=>E0 ?_
   cases h
   replace c:=c.nilf (α:=D.Term)
   exact wp_ret (br (tr (Rg c (none,0) [] [2] (.cell (α:=Agg 4) kk (.b 2) (.tmp .nil)))))
   refine S0 (S0 (Ry [(4,0)] mix c fun _ _ c=>I0 c h (fun h=>?_) fun h=>?_))
   refine K0 (I0 c h (fun h=>?_) fun h=>?_)
   refine T0 (Fp [(1,1)] 2 c fun _ c=>Eltr 62 [(tR p3 ga2 gc3)] [p3] c ⟨(Ava.mk_Term p3 (.f 1)),tt⟩ fun a1 c1 _ _ c=>?_)
   replace c:=c.nf
   replace c:=c.fzr 3 2
   refine Bd h fun x4 hx4 h=>Cg c (ih0 hx4) ⟨.f 3,tt⟩ call155 fun i1 _ _ c=>?_
   refine Ess 2 (tC x4 i1.1 i1.2) c fun _ c=>?_
   refine Fp [] 1 c fun _ c=>E0 ?_
   cases h
   exact wp_ret (br (tr (Rg c (i1.1,i1.2) [] [4] (.cell (α:=Agg 4) kk (.b 2) (.tmp .nil)))))
   refine K1 (bk (tn (T0 (Fp [] 1 c fun _ c=>Ess 2 tZ c fun _ c=>?_))))
   refine Fp [] 1 c fun _ c=>E0 ?_
   cases h
   replace c:=c.nilf (α:=D.Term)
   exact wp_ret (Rg c (none,0) [] [2] (.cell (α:=Agg 4) kk (.b 2) (.tmp .nil)))
   refine Ry [(4,0),(9,0)] mix c fun _ _ c=>?_
   refine I0 c h (fun h=>?_) fun h=>?_
   refine T0 (Fp [(1,1)] 2 c fun _ c=>Eltr 62 [(tR p3 ga2 gc3)] [p3] c ⟨(Ava.mk_Term p3 (.f 1)),tt⟩ fun a2 c2 _ _ c=>?_)
   replace c:=c.nf
   replace c:=c.fzr 3 2
   refine Bd h fun x5 hx5 h=>Cg c (ih0 hx5) ⟨.f 3,tt⟩ call155 fun i2 _ _ c=>?_
   refine Ess 2 (tC x5 i2.1 i2.2) c fun _ c=>?_
   refine Fp [] 1 c fun _ c=>E0 ?_
   cases h
   exact wp_ret (br (tr (Rg c (i2.1,i2.2) [] [4] (.cell (α:=Agg 4) kk (.b 2) (.tmp .nil)))))
   refine K1 (bk (tn (T0 (Fp [] 1 c fun _ c=>Ess 2 tZ c fun _ c=>?_))))
   refine Fp [] 1 c fun _ c=>E0 ?_
   cases h
   replace c:=c.nilf (α:=D.Term)
   exact wp_ret (Rg c (none,0) [] [2] (.cell (α:=Agg 4) kk (.b 2) (.tmp .nil)))
theorem Zfi {n:Nat}:∀ {p0 ga0 gc1 r} (h:Z6 n p0 = some r),Ct 123 [tV p0 ga0 gc1] [lR ga0 p0.Kids gc1] r:=(Z8 n).2.1
theorem ZO {p0 p1 p2 p3 r} (h:ZK n p0 p1 p2 p3 = some r):Con prog 97 [I p0,I p1,I p2,L ga0 p3 gc1] [] [lR ga0 p3 gc1] fun (i:Oh)=>([tV r.1 i.1 i.2,.bool r.2],[],[lR i.1 r.1.Kids i.2]):=by
 unfold ZK at h
 refine En func97 rfl ntmps97 fun _ fr w c=>?_
 refine T0 (Eal tZ c fun b1 _ _ c=>?_)
 refine Fp [] 1 c fun _ c=>E0 (T0 (Fp [] 5 c fun _ c=>Eal tZ c fun b2 _ _ c=>?_))
 refine Ess 1 [I p0,I p1,I p2,Str.val ⟨[]⟩,L ga0 p3 gc1] c fun _ c=>?_
 refine E0 (S0 (T0 (Fp [(0,1)] 1 c fun _ c=>Bd h fun x1 hx1 h=>Cb c (Zfj hx1) ⟨.f 0,tt⟩ call122 fun _ _ _ c=>?_)))
 refine Fp [] 1 c fun _ c=>E0 (I0 c h (fun h=>?_) fun h=>?_)
 refine T0 (Fp [] 1 c fun _ c=>Ess 0 tZ c fun _ c=>?_)
 refine Fp [] 1 c fun _ c=>E0 ?_
 cases h
 replace c:=c.nilf (α:=D.Term)
 exact wp_ret (tr (Rg c (none,0) [] [1] (.cell (α:=Agg 4) kk (.b 0) (.tmp .nil))))
 refine K0 (T0 (Fp [(0,1)] 1 c fun _ c=>Bd h fun x2 hx2 h=>Cg c (Zfi hx2) ⟨.f 0,tt⟩ call123 fun i1 _ _ c=>?_))
 replace c:=c.ng
 refine Ess 0 (tC x2 i1.1 i1.2) c fun _ c=>?_
 refine Fp [] 1 c fun _ c=>E0 ?_
 cases h
 exact wp_ret (Rg c (i1.1,i1.2) [] [1] (.cell (α:=Agg 4) kk (.b 0) (.tmp .nil)))
theorem Zev {p0 p1 p2 r} (h:Zaz n p0 p1 p2 = some r):Con prog 92 [gV p0 ga0 gc1,pV p1 ga2 gc3 ga4 gc5 ga6 gc7 ga8 gc9 ga10 gc11 ga12 gc13,nV p2] [] [lR ga0 p0.Code gc1,lR ga2 p1.Regs gc3] fun (i:Oh)=>([tV r.1 i.1 i.2,.bool r.2.1,.bool r.2.2],[],[lR i.1 r.1.Kids i.2]):=by
 unfold Zaz at h
 refine En func92 rfl ntmps92 fun _ fr w c=>?_
 refine T0 (Ebx (gC p0 ga0 gc1) c fun b1 _ _ c=>?_)
 refine Ebx (pC p1 ga2 gc3 ga4 gc5 ga6 gc7 ga8 gc9 ga10 gc11 ga12 gc13) c fun b2 _ _ c=>?_
 refine Ebx (nC p2) c fun b3 _ _ c=>?_
 refine Eal tZ c fun b4 _ _ c=>?_
 refine Fp [] 2 c fun _ c=>E0 (T0 (Fp [(1,0)] 2 c fun _ c=>Bd h fun x1 hx1 h=>Cb c (ZA hx1) tt call74 fun _ _ _ c=>?_))
 replace c:=c.ng
 refine Eal tZ c fun b5 _ _ c=>?_
 refine Ess 4 [I x1.Op,I x1.W,I x1.N,Str.val x1.Name,L0] c fun _ c=>?_
 refine E0 (P0 [(1,2)] c fun _ c=>S0 (P0 [(1,2)] c fun _ c=>Bd h fun rl1 hit1 h=>?_))
 have hk1:=h
 refine Jr (fun s  (_:Unit)=>([(3,B b1 0),(4,B b2 0),(6,B b4 0),(10,I s)],id,[])) hit1 c (fun h=>?_) fun s1r _ _ _ hrl c=>?_
 refine wp_block (S0 (P0 [] c fun _ c=>Mp (p2.Op == 10) [(20,.bool (p2.Op == 10))] [(20,.bool (p2.Op == 13))] [(20,.bool ((p2.Op == 10) || (p2.Op == 13)))] [20,22] c fun _ c=>I0 c h (fun h=>?_) fun h=>?_))
 refine Bd h fun x2 hx2 h=>?_
 obtain ⟨ep1,u1,c⟩:=c.elp (.f 1) hx2
 obtain ⟨a1,c1,rfl,c⟩:=c.o_Term 3
 refine Bd h fun x3 hx3 h=>S0 (Jn (fun i:Oh=>([(6,B b4 0),(8,.bool x3.2)],fun Γ=>Γ.set 3 (BX b4 62 (tC x3.1 i.1 i.2)),[lR i.1 x3.1.Kids i.2])) c ?_ fun i5 _ _ c=>?_)
 refine As mix c fun _ c=>?_
 replace c:=Cx.frs [(4,B b2 0),(5,B b3 0),(6,B b4 0),(9,B b5 0)] c
 refine Dq (fun i:Oh=>([(6,B b4 0),(23,.tuple #[tV x3.1 i.1 i.2,.bool x3.2])],fun Γ=>Γ.set 3 (BX b4 62 (tC x3.1 i.1 i.2)),[lR i.1 x3.1.Kids i.2])) (bN 14 6143) (fun i=>[(11,34,.bool x3.2),(13,8,.bool x3.2)]) c (fun i4=>?_) fun hd3=>?_
 obtain ⟨a5,c5⟩:=i4
 refine qnE ⟨qP [],qP [],tt⟩ fun _ _ c=>?_
 exact nN (a5,c5) (c.rk (rg 5) (rg 6))
 refine Dq (fun i:Oh=>([(6,B b4 0),(32,.tuple #[tV x3.1 i.1 i.2,.bool x3.2])],id,[lR i.1 x3.1.Kids i.2])) (bN 14 511) (fun i=>[(9,23,.tuple #[tV x3.1 i.1 i.2,.bool x3.2]),(10,33,tV x3.1 i.1 i.2),(11,34,.bool x3.2)]) c (fun i3=>?_) fun hd2=>?_
 obtain ⟨a4,c4⟩:=i3
 refine qn [12] ⟨qP [],qP [],qP [],tt⟩ ⟨fun _ _ c=>?_,tt⟩
 refine Zf _ rfl rfl ?_
 refine Ess 3 (tC x3.1 a4 c4) c fun _ c=>?_
 refine E0 (nQ hd3 (a4,c4) (c.rk (rg 5) (rg 6)))
 refine Dq (fun i:Oh=>([(6,B b4 0),(31,L i.1 [(t0 x1),x2] i.2)],fun Γ=>Γ ++ [sl62 (L i.1 [(t0 x1),x2] i.2) [(u0 x1),(tR x2 a1 c1)]],[CS [(u0 x1),(tR x2 a1 c1)] [(t0 x1),x2]])) (bN 14 255) (fun i=>[]) c (fun i1=>?_) fun hd1=>?_
 obtain ⟨a3,c3⟩:=i1
 refine qn [8] tt ⟨fun _ _ c=>?_,tt⟩
 refine Zf _ rfl rfl ?_
 replace c:=c.fzr 5 5
 refine Cg c (ZO hx3) ⟨.f 6,tt⟩ call97 fun i2 _ _ c=>?_
 refine E0 (nQ hd2 (i2.1,i2.2) (c.rk (rg 5) [0,1,2,3,4,7]))
 refine q0 (qs:=[(0,24,.agg #[I x1.Op,I x1.W,I x1.N,Str.val x1.Name,L0]),(1,25,B b2 1),(2,26,L ga2 p1.Regs gc3),(3,27,B b3 1),(4,28,I p2.A),(5,29,.pointer (some ep1)),(6,30,tV x2 a1 c1)]) c (qn [7] ⟨qP [(0,4)],qP [],qP [(0,1)],qP [],qP [(0,2)],qI 2,qL 2,tt⟩ ⟨fun _ _ c=>?_,tt⟩)
 refine Zf _ rfl rfl ?_
 refine Eltr 62 [(u0 x1),(tR x2 a1 c1)] [(t0 x1),x2] c ⟨(Ava.mk_Term (t0 x1) (.nil)),(Ava.mk_Term x2 (.f 4)),tt⟩ fun a2 c2 _ _ c=>?_
 refine E0 (nQ hd1 (a2,c2) (c.rk (rg 6) (rg 6)))
 obtain ⟨a6,c6⟩:=i5
 refine T0 (Fp [(0,3)] 2 c fun _ c=>Ess 3 (tC x3.1 a6 c6) c fun _ c=>?_)
 refine Fp [] 2 c fun _ c=>E0 ?_
 obtain rfl:=sj h
 obtain rfl:=sj hk1
 exact wp_ret (br (tr (Rg c (a6,c6) [] [5] (.cell (α:=Agg 4) kk (.b 3) (.tmp (.tmp .nil))))))
 refine P0 [] c fun _ c=>I0 c h (fun h=>?_) fun h=>?_
 refine S0 (S0 (Ry [(1,2),(5,2)] mix c fun _ _ c=>I0 c h (fun h=>?_) fun h=>?_))
 refine T0 (Fp [] 1 c fun _ c=>Ess 3 tZ c fun _ c=>?_)
 refine Fp [] 2 c fun _ c=>E0 ?_
 obtain rfl:=sj h
 obtain rfl:=sj hk1
 replace c:=c.nilf (α:=D.Term)
 exact wp_ret (tr (br (tr (Rg c (none,0) [] [2] (.cell (α:=Agg 4) kk (.b 3) (.tmp (.tmp .nil)))))))
 refine K0 (Bd h fun x4 hx4 h=>?_)
 obtain ⟨ep2,u2,c⟩:=c.elp (.f 1) hx4
 obtain ⟨a7,c7,rfl,c⟩:=c.o_Term 3
 refine Bd h fun x5 hx5 h=>S0 (Jn (fun i:Oh=>([(6,B b4 0),(8,.bool x5.2)],fun Γ=>Γ.set 3 (BX b4 62 (tC x5.1 i.1 i.2)),[lR i.1 x5.1.Kids i.2])) c ?_ fun i10 _ _ c=>?_)
 refine As mix c fun _ c=>?_
 replace c:=Cx.frs [(4,B b2 0),(5,B b3 0),(6,B b4 0),(9,B b5 0)] c
 refine Dq (fun i:Oh=>([(6,B b4 0),(48,.tuple #[tV x5.1 i.1 i.2,.bool x5.2])],fun Γ=>Γ.set 3 (BX b4 62 (tC x5.1 i.1 i.2)),[lR i.1 x5.1.Kids i.2])) (bN 14 6143) (fun i=>[(11,59,.bool x5.2),(13,8,.bool x5.2)]) c (fun i9=>?_) fun hd6=>?_
 obtain ⟨a11,c11⟩:=i9
 refine qnE ⟨qP [],qP [],tt⟩ fun _ _ c=>?_
 exact nN (a11,c11) (c.rk (rg 5) (rg 6))
 refine Dq (fun i:Oh=>([(6,B b4 0),(57,.tuple #[tV x5.1 i.1 i.2,.bool x5.2])],id,[lR i.1 x5.1.Kids i.2])) (bN 14 511) (fun i=>[(9,48,.tuple #[tV x5.1 i.1 i.2,.bool x5.2]),(10,58,tV x5.1 i.1 i.2),(11,59,.bool x5.2)]) c (fun i8=>?_) fun hd5=>?_
 obtain ⟨a10,c10⟩:=i8
 refine qn [12] ⟨qP [],qP [],qP [],tt⟩ ⟨fun _ _ c=>?_,tt⟩
 refine Zf _ rfl rfl ?_
 refine Ess 3 (tC x5.1 a10 c10) c fun _ c=>?_
 refine E0 (nQ hd6 (a10,c10) (c.rk (rg 5) (rg 6)))
 refine Dq (fun i:Oh=>([(6,B b4 0),(56,L i.1 [(t0 x1),x4] i.2)],fun Γ=>Γ ++ [sl62 (L i.1 [(t0 x1),x4] i.2) [(u0 x1),(tR x4 a7 c7)]],[CS [(u0 x1),(tR x4 a7 c7)] [(t0 x1),x4]])) (bN 14 255) (fun i=>[]) c (fun i6=>?_) fun hd4=>?_
 obtain ⟨a9,c9⟩:=i6
 refine qn [8] tt ⟨fun _ _ c=>?_,tt⟩
 refine Zf _ rfl rfl ?_
 replace c:=c.fzr 5 5
 refine Cg c (ZO hx5) ⟨.f 6,tt⟩ call97 fun i7 _ _ c=>?_
 refine E0 (nQ hd5 (i7.1,i7.2) (c.rk (rg 5) [0,1,2,3,4,7]))
 refine q0 (qs:=[(0,49,.agg #[I x1.Op,I x1.W,I x1.N,Str.val x1.Name,L0]),(1,50,B b2 1),(2,51,L ga2 p1.Regs gc3),(3,52,B b3 2),(4,53,I p2.B),(5,54,.pointer (some ep2)),(6,55,tV x4 a7 c7)]) c (qn [7] ⟨qP [(0,4)],qP [],qP [(0,1)],qP [],qP [(0,2)],qI 2,qL 2,tt⟩ ⟨fun _ _ c=>?_,tt⟩)
 refine Zf _ rfl rfl ?_
 refine Eltr 62 [(u0 x1),(tR x4 a7 c7)] [(t0 x1),x4] c ⟨(Ava.mk_Term (t0 x1) (.nil)),(Ava.mk_Term x4 (.f 4)),tt⟩ fun a8 c8 _ _ c=>?_
 refine E0 (nQ hd4 (a8,c8) (c.rk (rg 6) (rg 6)))
 obtain ⟨a12,c12⟩:=i10
 refine T0 (Fp [(0,3)] 2 c fun _ c=>Ess 3 (tC x5.1 a12 c12) c fun _ c=>?_)
 refine Fp [] 2 c fun _ c=>E0 ?_
 obtain rfl:=sj h
 obtain rfl:=sj hk1
 exact wp_ret (br (tr (Rg c (a12,c12) [] [5] (.cell (α:=Agg 4) kk (.b 3) (.tmp (.tmp .nil))))))
 refine P0 [] c fun _ c=>I0 c h (fun h=>?_) fun h=>?_
 refine Tq (P1 [(1,2)] c fun _ c=>bk (tn (⟨_,(),(sk h),c.rk (rg 5) [0,1]⟩)))
 refine P0 [] c fun _ c=>I0 c h (fun h=>?_) fun h=>?_
 refine K1 (bk (tn (⟨_,(),(sk h),c.rk (rg 5) [0,1]⟩)))
 refine T0 (Fp [] 1 c fun _ c=>Ess 3 tZ c fun _ c=>?_)
 refine Fp [] 2 c fun _ c=>E0 ?_
 obtain rfl:=sj h
 obtain rfl:=sj hk1
 replace c:=c.nilf (α:=D.Term)
 exact wp_ret (br (tr (Rg c (none,0) [] [2] (.cell (α:=Agg 4) kk (.b 3) (.tmp (.tmp .nil))))))
 subst hrl
 refine Bd h fun x6 hx6 h=>?_
 obtain ⟨ep3,u3,c⟩:=c.elp (.f 1) hx6
 obtain ⟨a13,c13,rfl,c⟩:=c.o_Term 3
 refine Bd h fun x7 hx7 h=>Bd h fun x8 hx8 h=>S0 (Jn (fun i:Nat × Oh=>([(6,B b4 0),(8,.bool x8.2),(11,B i.1 0)],fun Γ=>Γ ++ [BX i.1 62 (tC x8.1 i.2.1 i.q2)],[lR i.2.1 x8.1.Kids i.q2])) c ?_ fun i18 _ _ c=>?_)
 refine As mix c fun _ c=>?_
 replace c:=Cx.frs [(3,B b1 0),(4,B b2 0),(6,B b4 0),(10,I s1r)] c
 refine Dq (fun i:Nat × Oh=>([(6,B b4 0),(11,B i.1 0),(68,.tuple #[tV x8.1 i.2.1 i.q2,.bool x8.2])],fun Γ=>Γ ++ [BX i.1 62 (tC x8.1 i.2.1 i.q2)],[lR i.2.1 x8.1.Kids i.q2])) (bN 18 114687) (fun i=>[(14,82,.bool x8.2),(17,8,.bool x8.2)]) c (fun i17=>?_) fun hd14=>?_
 obtain ⟨b14,a20,c20⟩:=i17
 refine qnE ⟨qP [],qP [],tt⟩ fun _ _ c=>?_
 exact nN (b14,a20,c20) (c.rk (rg 6) (rg 6))
 refine Dq (fun i:Nat × Oh=>([(6,B b4 0),(11,B i.1 0),(80,.tuple #[tV x8.1 i.2.1 i.q2,.bool x8.2])],fun Γ=>Γ ++ [BX i.1 62 tZ],[lR i.2.1 x8.1.Kids i.q2])) (bN 18 36863) (fun i=>[(12,68,.tuple #[tV x8.1 i.2.1 i.q2,.bool x8.2]),(13,81,tV x8.1 i.2.1 i.q2),(14,82,.bool x8.2)]) c (fun i15=>?_) fun hd13=>?_
 obtain ⟨b13,a19,c19⟩:=i15
 refine qn [16] ⟨qP [],qP [],qP [],tt⟩ ⟨fun _ _ c=>?_,tt⟩
 refine Zf _ rfl rfl ?_
 refine Ess 5 (tC x8.1 a19 c19) c fun _ c=>?_
 refine E0 (nQ hd14 (b13,a19,c19) (c.rk (rg 6) (rg 6)))
 refine Dq (fun i:Oh=>([(6,B b4 0),(80,.tuple #[tV x8.1 i.1 i.2,.bool x8.2])],id,[lR i.1 x8.1.Kids i.2])) (bN 18 4095) (fun i=>[(12,68,.tuple #[tV x8.1 i.1 i.2,.bool x8.2]),(13,81,tV x8.1 i.1 i.2),(14,82,.bool x8.2)]) c (fun i13=>?_) fun hd11=>?_
 obtain ⟨a16,c16⟩:=i13
 refine qn [15] ⟨qP [],qP [],qP [],tt⟩ ⟨fun _ _ c=>?_,tt⟩
 refine Zf _ rfl rfl ?_
 refine Eal tZ c fun b12 _ _ c=>?_
 refine E0 (nQ hd13 (b12,a16,c16) (c.rk (rg 6) (rg 6)))
 refine Dq (fun i:Nat × Oh=>([(6,B b4 0),(11,B i.1 0),(79,L i.2.1 [x6,(t0 x7)] i.q2)],fun Γ=>Γ ++ [BX i.1 62 tZ,sl62 (L i.2.1 [x6,(t0 x7)] i.q2) [(tR x6 a13 c13),(u0 x7)]],[CS [(tR x6 a13 c13),(u0 x7)] [x6,(t0 x7)]])) (bN 18 34815) (fun i=>[]) c (fun i14=>?_) fun hd12=>?_
 obtain ⟨b11,a17,c17⟩:=i14
 refine qn [11] tt ⟨fun _ _ c=>?_,tt⟩
 refine Zf _ rfl rfl ?_
 replace c:=c.fzr 6 5
 refine Cg c (ZO hx8) ⟨.f 6,tt⟩ call97 fun i16 _ _ c=>?_
 refine E0 (nQ hd13 (b11,i16.1,i16.2) (c.rk (rg 6) [0,1,2,3,4,7]))
 refine Dq (fun i:Oh=>([(6,B b4 0),(79,L i.1 [x6,(t0 x7)] i.2)],fun Γ=>Γ ++ [sl62 (L i.1 [x6,(t0 x7)] i.2) [(tR x6 a13 c13),(u0 x7)]],[CS [(tR x6 a13 c13),(u0 x7)] [x6,(t0 x7)]])) (bN 18 2047) (fun i=>[]) c (fun i11=>?_) fun hd9=>?_
 obtain ⟨a15,c15⟩:=i11
 refine qn [11,15] tt ⟨fun _ _ c=>?_,fun _ _ c=>?_,tt⟩
 refine Zf _ rfl rfl ?_
 replace c:=c.fzr 5 5
 refine Cg c (ZO hx8) ⟨.f 6,tt⟩ call97 fun i12 _ _ c=>?_
 refine E0 (nQ hd11 (i12.1,i12.2) (c.rk (rg 5) [0,1,2,3,4,7]))
 refine Zf _ rfl rfl ?_
 refine Eal tZ c fun b10 _ _ c=>?_
 refine E0 (nQ hd12 (b10,a15,c15) (c.rk [0,1,2,3,4,6,5] (rg 6)))
 refine Dq (fun i:Nat=>([(4,B b2 0),(6,B b4 0),(10,I s1r),(11,B i 0),(78,.agg #[I x7.Op,I x7.W,I x7.N,Str.val x7.Name,L0])],fun Γ=>Γ ++ [BX i 62 tZ],[])) (bN 18 33760) (fun i=>[(0,69,B b2 1),(1,70,L ga2 p1.Regs gc3),(2,71,I s1r),(3,72,.pointer (some ep3)),(4,73,tV x6 a13 c13)]) c (fun b9=>?_) fun hd10=>?_
 refine qn [10] ⟨qP [],qP [(0,1)],qP [],qI 2,qL 2,tt⟩ ⟨fun _ _ c=>?_,tt⟩
 refine Zf _ rfl rfl ?_
 refine Eltr 62 [(tR x6 a13 c13),(u0 x7)] [x6,(t0 x7)] c ⟨(Ava.mk_Term x6 (.f 4)),(Ava.mk_Term (t0 x7) (.nil)),tt⟩ fun a18 c18 _ _ c=>?_
 refine E0 (nQ hd12 (b9,a18,c18) (c.rk (rg 7) (rg 6)))
 refine Dq (fun _:Unit=>([(4,B b2 0),(6,B b4 0),(10,I s1r),(78,.agg #[I x7.Op,I x7.W,I x7.N,Str.val x7.Name,L0])],id,[])) (bN 18 992) (fun _=>[(0,69,B b2 1),(1,70,L ga2 p1.Regs gc3),(2,71,I s1r),(3,72,.pointer (some ep3)),(4,73,tV x6 a13 c13)]) c (fun _=>?_) fun hd7=>?_
 refine qn [10,15] ⟨qP [],qP [(0,1)],qP [],qI 2,qL 2,tt⟩ ⟨fun _ _ c=>?_,fun _ _ c=>?_,tt⟩
 refine Zf _ rfl rfl ?_
 refine Eltr 62 [(tR x6 a13 c13),(u0 x7)] [x6,(t0 x7)] c ⟨(Ava.mk_Term x6 (.f 4)),(Ava.mk_Term (t0 x7) (.nil)),tt⟩ fun a14 c14 _ _ c=>?_
 refine E0 (nQ hd9 (a14,c14) (c.rk (rg 6) (rg 6)))
 refine Zf _ rfl rfl ?_
 refine Eal tZ c fun b8 _ _ c=>?_
 refine E0 (nQ hd10 (b8) (c.rk (rg 6) (rg 5)))
 refine Dq (fun i:Nat=>([(3,B b1 0),(4,B b2 0),(6,B b4 0),(10,I s1r),(11,B i 0)],fun Γ=>Γ ++ [BX i 62 tZ],[])) (bN 18 32768) (fun i=>[(0,69,B b2 1),(1,70,L ga2 p1.Regs gc3),(2,71,I s1r),(3,72,.pointer (some ep3)),(4,73,tV x6 a13 c13),(5,74,B b1 0),(6,75,I p0.W),(7,76,B b1 1),(8,77,I p0.Mem)]) c (fun b7=>?_) fun hd8=>?_
 refine qn [9] ⟨qP [],qP [(0,1)],qP [],qI 2,qL 2,qP [],qP [(0,0)],qP [],qP [(0,0)],tt⟩ ⟨fun _ _ c=>?_,tt⟩
 refine Zf _ rfl rfl ?_
 refine Cb c (ZA hx7) tt call74 fun _ _ _ c=>?_
 refine E0 (nQ hd10 (b7) (c.rk (rg 6) (rg 5)))
 refine q0 (qs:=[(0,69,B b2 1),(1,70,L ga2 p1.Regs gc3),(2,71,I s1r),(3,72,.pointer (some ep3)),(4,73,tV x6 a13 c13),(5,74,B b1 0),(6,75,I p0.W),(7,76,B b1 1),(8,77,I p0.Mem)]) c (qn [9,15] ⟨qP [],qP [(0,1)],qP [],qI 2,qL 2,qP [],qP [(0,0)],qP [],qP [(0,0)],tt⟩ ⟨fun _ _ c=>?_,fun _ _ c=>?_,tt⟩)
 refine Zf _ rfl rfl ?_
 refine Cb c (ZA hx7) tt call74 fun _ _ _ c=>?_
 refine E0 (nQ hd7 () (c.rk (rg 5) (rg 5)))
 refine Zf _ rfl rfl ?_
 refine Eal tZ c fun b6 _ _ c=>?_
 refine E0 (nQ hd8 (b6) (c.rk (rg 6) (rg 5)))
 obtain ⟨b15,a21,c21⟩:=i18
 refine S0 (P0 [] c fun _ c=>I0 c h (fun h=>?_) fun h=>?_)
 refine T0 (Fp [] 1 c fun _ c=>Ess 3 tZ c fun _ c=>?_)
 refine Fp [] 2 c fun _ c=>E0 ?_
 cases h
 replace c:=c.nilf (α:=D.Term)
 exact wp_ret (tr (Rg c (none,0) [] [6] (.cell (α:=Agg 4) kk (.b 3) (.tmp (.tmp .nil)))))
 refine K0 (T0 (Fp [(0,5)] 1 c fun _ c=>Eltr 62 [(tR x8.1 a21 c21)] [x8.1] c ⟨(Ava.mk_Term x8.1 (.f 5)),tt⟩ fun a22 c22 _ _ c=>?_))
 replace c:=c.fzr 6 6
 refine Bd h fun x9 hx9 h=>Cg c (ZO hx9) ⟨.f 7,tt⟩ call97 fun i19 _ _ c=>?_
 refine Fp [] 3 c fun _ c=>Ess 3 (tC x9.1 i19.1 i19.2) c fun _ c=>?_
 refine Fp [] 1 c fun _ c=>E0 (T0 (Fp [(0,3)] 2 c fun _ c=>?_))
 replace c:=c.nf
 refine Ess 3 (tC x9.1 i19.1 i19.2) c fun _ c=>?_
 refine Fp [] 2 c fun _ c=>E0 ?_
 cases h
 exact wp_ret (Rg c (i19.1,i19.2) [] [8] (.cell (α:=Agg 4) kk (.b 3) (.tmp (.tmp .nil))))
theorem Zdp {p0 p1 r} (h:Zbb p0 p1 = some r):Con prog 94 [pV p0 ga0 gc1 ga2 gc3 ga4 gc5 ga6 gc7 ga8 gc9 ga10 gc11,nV p1] [] [lR ga0 p0.Regs gc1,lR ga2 p0.Mem gc3,lR ga4 p0.Stack gc5,lR ga6 p0.Out gc7,lR ga8 p0.Cond gc9,lR ga10 p0.Turns gc11] fun (i:Hp)=>([pJ r i],[],(pF r i)):=by
 unfold Zbb at h
 refine En func94 rfl ntmps94 fun _ fr w c=>?_
 refine T0 (Ebx (pC p0 ga0 gc1 ga2 gc3 ga4 gc5 ga6 gc7 ga8 gc9 ga10 gc11) c fun b1 _ _ c=>?_)
 refine Ebx (nC p1) c fun b2 _ _ c=>?_
 refine Eal pZ c fun b3 _ _ c=>?_
 refine E0 (S0 (P0 [(1,1)] c fun _ c=>wp_block (P0 [] c fun _ c=>I0 c h (fun h=>?_) fun h=>?_)))
 refine T1 (Fp [(1,1)] 3 c fun _ c=>Esb 0 0 (I p1.B) c fun _ c=>?_)
 refine E1 (bk (tn (T0 (Fp [(0,0)] 1 c fun _ c=>Ess 2 [I p1.B,L ga0 p0.Regs gc1,L ga2 p0.Mem gc3,L ga4 p0.Stack gc5,I p0.In,L ga6 p0.Out gc7,I p0.Code,I p0.Steps,L ga8 p0.Cond gc9,L ga10 p0.Turns gc11] c fun _ c=>?_))))
 refine E0 ?_
 cases h
 exact wp_ret (Rg c (ga0,gc1,ga2,gc3,ga4,gc5,ga6,gc7,ga8,gc9,ga10,gc11) [] (rg 6) (.cell (α:=Agg 9) kk (.b 2) .nil))
 refine P0 [] c fun _ c=>I0 c h (fun h=>?_) fun h=>?_
 refine T1 (Fp [] 1 c fun _ c=>Esb 0 6 (I 8) c fun _ c=>?_)
 refine E1 (bk (tn (T0 (Fp [(0,0)] 1 c fun _ c=>Ess 2 [I p0.Pc,L ga0 p0.Regs gc1,L ga2 p0.Mem gc3,L ga4 p0.Stack gc5,I p0.In,L ga6 p0.Out gc7,I 8,I p0.Steps,L ga8 p0.Cond gc9,L ga10 p0.Turns gc11] c fun _ c=>?_))))
 refine E0 ?_
 cases h
 exact wp_ret (Rg c (ga0,gc1,ga2,gc3,ga4,gc5,ga6,gc7,ga8,gc9,ga10,gc11) [] (rg 6) (.cell (α:=Agg 9) kk (.b 2) .nil))
 refine P0 [] c fun _ c=>I0 c h (fun h=>?_) fun h=>?_
 refine T1 (Fp [] 1 c fun _ c=>Esb 0 6 (I 6) c fun _ c=>?_)
 refine E1 (bk (tn (T0 (Fp [(0,0)] 1 c fun _ c=>Ess 2 [I p0.Pc,L ga0 p0.Regs gc1,L ga2 p0.Mem gc3,L ga4 p0.Stack gc5,I p0.In,L ga6 p0.Out gc7,I 6,I p0.Steps,L ga8 p0.Cond gc9,L ga10 p0.Turns gc11] c fun _ c=>?_))))
 refine E0 ?_
 cases h
 exact wp_ret (Rg c (ga0,gc1,ga2,gc3,ga4,gc5,ga6,gc7,ga8,gc9,ga10,gc11) [] (rg 6) (.cell (α:=Agg 9) kk (.b 2) .nil))
 refine T1 (Fp [] 1 c fun _ c=>Esb 0 6 (I 5) c fun _ c=>?_)
 refine E1 (bk (tn (T0 (Fp [(0,0)] 1 c fun _ c=>Ess 2 [I p0.Pc,L ga0 p0.Regs gc1,L ga2 p0.Mem gc3,L ga4 p0.Stack gc5,I p0.In,L ga6 p0.Out gc7,I 5,I p0.Steps,L ga8 p0.Cond gc9,L ga10 p0.Turns gc11] c fun _ c=>?_))))
 refine E0 ?_
 cases h
 exact wp_ret (Rg c (ga0,gc1,ga2,gc3,ga4,gc5,ga6,gc7,ga8,gc9,ga10,gc11) [] (rg 6) (.cell (α:=Agg 9) kk (.b 2) .nil))
theorem Yu {p0 r} (h:ZC p0 = some r):Con prog 125 [L ga0 p0 gc1] [] [lR ga0 p0 gc1] fun (i:Ob (List Rw.Term))=>([L i.1 r i.2.1],[sl62 (L i.1 r i.2.1) (i.q2)],[CS i.q2 r]):=by
 unfold ZC at h
 refine En func125 rfl ntmps125 fun _ fr w c=>?_
 refine P0 [] c fun _ c=>S0 (T0 (Fp [] 1 c fun _ c=>Ebin (vx:=L ga0 p0 gc1) (vy:=.slice none 0 0) c (ZfY _ _ _ _ _ _ _ _ _ _) (nil_eq Tryz.underlying27 ga0 _ gc1 _) fun _ c=>?_))
 refine E0 (If c (b:=(Option.isNone ga0)) (fun hb=>?_) fun hb=>?_)
 obtain ⟨_,hn⟩:=c.use (.f 0)
 replace h:=ZiL (Zku hn (ZnL.1 hb)) h
 refine P0 [] c fun _ c=>?_
 replace c:=(c.nil (α:=Rw.Term) 62).csn (ρ:=Rw.Term) (α:=D.Term)
 cases h
 exact wp_ret (tr (Rt c (none,0,([]:List Rw.Term)) [0] [1]))
 refine K0 (T0 (Eltr 62 ([]:List Rw.Term) ([]:List D.Term) c tt fun a1 c1 _ _ c=>?_))
 refine Fp [] 1 c fun _ c=>Bd h fun x1 hx1 h=>Eapr 0 1 c (.f 0) hx1 fun rm1 a2 c2 _ _ c=>?_
 refine Fp [] 1 c fun _ c=>E0 ?_
 obtain rfl:=sj h
 exact wp_ret (Rt c (a2,c2,(([]:List Rw.Term) ++ rm1)) [0] [2])
theorem Zaf {p0 p1 p2 r} (h:XP p0 p1 p2 = some r):Cl 117 [L ga0 p0 gc1,I p1,tV p2 ga2 gc3] [lR ga0 p0 gc1,lR ga2 p2.Kids gc3] r:=by
 unfold XP at h
 refine En func117 rfl ntmps117 fun _ fr w c=>?_
 refine T0 (Ebx (tC p2 ga2 gc3) c fun b1 _ _ c=>?_)
 refine Fp [] 1 c fun _ c=>E0 (T0 (Fp [] 1 c fun _ c=>Bd h fun x1 hx1 h=>Cg c (Yu hx1) ⟨.f 0,tt⟩ call125 fun i1 _ _ c=>?_))
 refine Fp [] 1 c fun _ c=>E0 (T0 (Fp [(2,0)] 3 c fun _ c=>Bd h fun x2 hx2 h=>Esetr (q:=(tR p2 ga2 gc3)) 1 2 c ((Ava.mk_Term p2 (.f 1))) hx2 fun _ _ _ c=>?_))
 refine E0 (P0 [] c fun _ c=>?_)
 obtain ⟨he1,c⟩:=c.relenr 1 3
 replace c:=c.eqs (v:=L i1.1 x1 i1.2.1) (u:=L i1.1 x2 i1.2.1) 6 (by simp only [L,he1])
 replace c:=c.fzr 1 3
 obtain rfl:=sj h
 exact wp_ret (Rt c (i1.1,i1.2.1) [] [4])
theorem X3 {p0 p1 r} (h:X9 p0 p1 = some r):C0 135 [I p0,I p1] [] (I r):=by
 unfold X9 at h
 refine En func135 rfl ntmps135 fun _ fr w c=>?_
 refine P0 [] c fun _ c=>S0 (Bd h fun x1 hx1 h=>S0 (rZ [(1,.eq (.bool x1))] [] mix c ⟨Ncl c (kN (YV hx1)) tt call88,tt⟩ fun _ _ c=>I0 c h (fun h=>?_) fun h=>?_))
 exact P0 [] c fun _ c=>rE
 exact K0 (S0 (P0 [] c fun _ c=>I0 c h (fun h=>P0 [] c fun _ c=>rE) fun h=>K0 (P0 [] c fun _ c=>rE)))
theorem Zeo {p0 p1 p2 p3 r} (h:ZaB n p0 p1 p2 p3 = some r):Con prog 118 [gV p0 ga0 gc1,I p1,tV p2 ga2 gc3,tV p3 ga4 gc5] [] [lR ga0 p0.Code gc1,lR ga2 p2.Kids gc3,lR ga4 p3.Kids gc5] fun (i:Oh)=>([tV r.1 i.1 i.2,.bool r.2],[],[lR i.1 r.1.Kids i.2]):=by
 unfold ZaB at h
 refine En func118 rfl ntmps118 fun _ fr w c=>?_
 refine T0 (Ebx (gC p0 ga0 gc1) c fun b1 _ _ c=>?_)
 refine Ebx (tC p2 ga2 gc3) c fun b2 _ _ c=>?_
 refine Ebx (tC p3 ga4 gc5) c fun b3 _ _ c=>?_
 refine Eal tZ c fun b4 _ _ c=>?_
 refine Fp [] 1 c fun _ c=>E0 (Bd h fun x1 hx1 h=>Bd h fun x2 hx2 h=>S0 (Jn (fun i:Nat × Oh=>([(1,I p1),(4,B b1 0),(8,B b4 0),(10,B i.1 0),(11,.bool x2.2)],fun Γ=>Γ ++ [BX i.1 62 (tC x2.1 i.2.1 i.q2)],[lR i.2.1 x2.1.Kids i.q2])) c ?_ fun i10 _ _ c=>?_))
 refine As mix c fun _ c=>?_
 replace c:=Cx.frs [(1,I p1),(4,B b1 0),(6,B b2 0),(7,B b3 0),(8,B b4 0)] c
 refine Dq (fun i:Nat × Oh=>([(1,I p1),(4,B b1 0),(8,B b4 0),(10,B i.1 0),(12,.tuple #[tV x2.1 i.2.1 i.q2,.bool x2.2])],fun Γ=>Γ ++ [BX i.1 62 (tC x2.1 i.2.1 i.q2)],[lR i.2.1 x2.1.Kids i.q2])) (bN 15 14335) (fun i=>[(11,23,.bool x2.2),(14,11,.bool x2.2)]) c (fun i9=>?_) fun hd10=>?_
 obtain ⟨b15,a11,c11⟩:=i9
 refine qnE ⟨qP [],qP [],tt⟩ fun _ _ c=>?_
 exact nN (b15,a11,c11) (c.rk (rg 5) (rg 4))
 refine Dq (fun i:Nat × Oh=>([(1,I p1),(4,B b1 0),(8,B b4 0),(10,B i.1 0),(21,.tuple #[tV x2.1 i.2.1 i.q2,.bool x2.2])],fun Γ=>Γ ++ [BX i.1 62 tZ],[lR i.2.1 x2.1.Kids i.q2])) (bN 15 4607) (fun i=>[(9,12,.tuple #[tV x2.1 i.2.1 i.q2,.bool x2.2]),(10,22,tV x2.1 i.2.1 i.q2),(11,23,.bool x2.2)]) c (fun i7=>?_) fun hd9=>?_
 obtain ⟨b14,a10,c10⟩:=i7
 refine qn [13] ⟨qP [],qP [],qP [],tt⟩ ⟨fun _ _ c=>?_,tt⟩
 refine Zf _ rfl rfl ?_
 refine Ess 4 (tC x2.1 a10 c10) c fun _ c=>?_
 refine E0 (nQ hd10 (b14,a10,c10) (c.rk (rg 5) (rg 4)))
 refine Dq (fun i:Oh=>([(1,I p1),(4,B b1 0),(8,B b4 0),(21,.tuple #[tV x2.1 i.1 i.2,.bool x2.2])],id,[lR i.1 x2.1.Kids i.2])) (bN 15 511) (fun i=>[(9,12,.tuple #[tV x2.1 i.1 i.2,.bool x2.2]),(10,22,tV x2.1 i.1 i.2),(11,23,.bool x2.2)]) c (fun i5=>?_) fun hd7=>?_
 obtain ⟨a7,c7⟩:=i5
 refine qn [12] ⟨qP [],qP [],qP [],tt⟩ ⟨fun _ _ c=>?_,tt⟩
 refine Zf _ rfl rfl ?_
 refine Eal tZ c fun b13 _ _ c=>?_
 refine E0 (nQ hd9 (b13,a7,c7) (c.rk (rg 5) (rg 4)))
 refine Dq (fun i:Nat × Ob (List Rw.Term)=>([(1,I p1),(4,B b1 0),(8,B b4 0),(10,B i.1 0),(17,I x1),(20,L i.2.1 [p2,p3] i.p2)],fun Γ=>Γ ++ [BX i.1 62 tZ,sl62 (L i.2.1 [p2,p3] i.p2) (i.q3)],[CS (i.q3) [p2,p3]])) (bN 15 4350) (fun i=>[(0,13,I p1)]) c (fun i6=>?_) fun hd8=>?_
 obtain ⟨b12,a8,c8,rs4⟩:=i6
 refine qn [8] ⟨qP [],tt⟩ ⟨fun _ _ c=>?_,tt⟩
 refine Zf _ rfl rfl ?_
 replace c:=c.fzr 5 3
 refine Cg c (ZO hx2) ⟨.f 4,tt⟩ call97 fun i8 _ _ c=>?_
 refine E0 (nQ hd9 (b12,i8.1,i8.2) (c.rk (rg 5) [0,1,2,5]))
 refine Dq (fun i:Ob (List Rw.Term)=>([(1,I p1),(4,B b1 0),(8,B b4 0),(17,I x1),(20,L i.1 [p2,p3] i.2.1)],fun Γ=>Γ ++ [sl62 (L i.1 [p2,p3] i.2.1) (i.q2)],[CS (i.q2) [p2,p3]])) (bN 15 254) (fun i=>[(0,13,I p1)]) c (fun i2=>?_) fun hd4=>?_
 obtain ⟨a4,c4,rs2⟩:=i2
 refine qn [8,12] ⟨qP [],tt⟩ ⟨fun _ _ c=>?_,fun _ _ c=>?_,tt⟩
 refine Zf _ rfl rfl ?_
 replace c:=c.fzr 4 3
 refine Cg c (ZO hx2) ⟨.f 4,tt⟩ call97 fun i4 _ _ c=>?_
 refine E0 (nQ hd7 (i4.1,i4.2) (c.rk (rg 4) [0,1,2,5]))
 refine Zf _ rfl rfl ?_
 refine Eal tZ c fun b11 _ _ c=>?_
 refine E0 (nQ hd8 (b11,a4,c4,rs2) (c.rk [0,1,2,3,5,4] (rg 4)))
 refine Dq (fun i:Nat=>([(1,I p1),(4,B b1 0),(6,B b2 0),(7,B b3 0),(8,B b4 0),(10,B i 0),(17,I x1)],fun Γ=>Γ ++ [BX i 62 tZ],[])) (bN 15 4126) (fun i=>[(0,13,I p1),(5,18,tV p2 ga2 gc3),(6,19,tV p3 ga4 gc5)]) c (fun b8=>?_) fun hd5=>?_
 refine qn [7] ⟨qP [],qP [(0,1)],qP [(0,2)],tt⟩ ⟨fun _ _ c=>?_,tt⟩
 refine Zf _ rfl rfl ?_
 refine Eltr 62 [(tR p2 ga2 gc3),(tR p3 ga4 gc5)] [p2,p3] c ⟨(Ava.mk_Term p2 (.f 1)),(Ava.mk_Term p3 (.f 2)),tt⟩ fun a9 c9 _ _ c=>?_
 refine E0 (nQ hd8 (b8,a9,c9,[(tR p2 ga2 gc3),(tR p3 ga4 gc5)]) (c.rk (rg 6) (rg 4)))
 refine Dq (fun i:Nat × Ob (List Rw.Term)=>([(1,I p1),(4,B b1 0),(8,B b4 0),(10,B i.1 0),(20,L i.2.1 [p2,p3] i.p2)],fun Γ=>Γ ++ [BX i.1 62 tZ,sl62 (L i.2.1 [p2,p3] i.p2) (i.q3)],[CS (i.q3) [p2,p3]])) (bN 15 4320) (fun i=>[(0,13,I p1),(1,14,I p1),(2,15,B b1 0),(3,16,I p0.W)]) c (fun i3=>?_) fun hd6=>?_
 obtain ⟨b10,a5,c5,rs3⟩:=i3
 refine qn [4] ⟨qP [],qP [],qP [],qP [(0,0)],tt⟩ ⟨fun _ _ c=>?_,tt⟩
 refine Zf _ rfl rfl ?_
 refine Cb c (X3 hx1) tt call135 fun _ _ _ c=>?_
 refine E0 (nQ hd8 (b10,a5,c5,rs3) (c.rk (rg 6) (rg 4)))
 refine Dq (fun _:Unit=>([(1,I p1),(4,B b1 0),(6,B b2 0),(7,B b3 0),(8,B b4 0),(17,I x1)],id,[])) (bN 15 30) (fun _=>[(0,13,I p1),(5,18,tV p2 ga2 gc3),(6,19,tV p3 ga4 gc5)]) c (fun _=>?_) fun hd1=>?_
 refine qn [7,12] ⟨qP [],qP [(0,1)],qP [(0,2)],tt⟩ ⟨fun _ _ c=>?_,fun _ _ c=>?_,tt⟩
 refine Zf _ rfl rfl ?_
 refine Eltr 62 [(tR p2 ga2 gc3),(tR p3 ga4 gc5)] [p2,p3] c ⟨(Ava.mk_Term p2 (.f 1)),(Ava.mk_Term p3 (.f 2)),tt⟩ fun a3 c3 _ _ c=>?_
 refine E0 (nQ hd4 (a3,c3,[(tR p2 ga2 gc3),(tR p3 ga4 gc5)]) (c.rk (rg 5) (rg 4)))
 refine Zf _ rfl rfl ?_
 refine Eal tZ c fun b7 _ _ c=>?_
 refine E0 (nQ hd5 (b7) (c.rk (rg 5) [0,1,2]))
 refine Dq (fun i:Ob (List Rw.Term)=>([(1,I p1),(4,B b1 0),(8,B b4 0),(20,L i.1 [p2,p3] i.2.1)],fun Γ=>Γ ++ [sl62 (L i.1 [p2,p3] i.2.1) (i.q2)],[CS (i.q2) [p2,p3]])) (bN 15 224) (fun i=>[(0,13,I p1),(1,14,I p1),(2,15,B b1 0),(3,16,I p0.W)]) c (fun i1=>?_) fun hd2=>?_
 obtain ⟨a2,c2,rs1⟩:=i1
 refine qn [4,12] ⟨qP [],qP [],qP [],qP [(0,0)],tt⟩ ⟨fun _ _ c=>?_,fun _ _ c=>?_,tt⟩
 refine Zf _ rfl rfl ?_
 refine Cb c (X3 hx1) tt call135 fun _ _ _ c=>?_
 refine E0 (nQ hd4 (a2,c2,rs1) (c.rk (rg 5) (rg 4)))
 refine Zf _ rfl rfl ?_
 refine Eal tZ c fun b9 _ _ c=>?_
 refine E0 (nQ hd6 (b9,a2,c2,rs1) (c.rk [0,1,2,3,5,4] (rg 4)))
 refine Dq (fun i:Nat=>([(1,I p1),(4,B b1 0),(6,B b2 0),(7,B b3 0),(8,B b4 0),(10,B i 0)],fun Γ=>Γ ++ [BX i 62 tZ],[])) (bN 15 4096) (fun i=>[(0,13,I p1),(1,14,I p1),(2,15,B b1 0),(3,16,I p0.W),(5,18,tV p2 ga2 gc3),(6,19,tV p3 ga4 gc5)]) c (fun b6=>?_) fun hd3=>?_
 refine qn [4,7] ⟨qP [],qP [],qP [],qP [(0,0)],qP [(0,1)],qP [(0,2)],tt⟩ ⟨fun _ _ c=>?_,fun _ _ c=>?_,tt⟩
 refine Zf _ rfl rfl ?_
 refine Cb c (X3 hx1) tt call135 fun _ _ _ c=>?_
 refine E0 (nQ hd5 (b6) (c.rk (rg 5) [0,1,2]))
 refine Zf _ rfl rfl ?_
 refine Eltr 62 [(tR p2 ga2 gc3),(tR p3 ga4 gc5)] [p2,p3] c ⟨(Ava.mk_Term p2 (.f 1)),(Ava.mk_Term p3 (.f 2)),tt⟩ fun a6 c6 _ _ c=>?_
 refine E0 (nQ hd6 (b6,a6,c6,[(tR p2 ga2 gc3),(tR p3 ga4 gc5)]) (c.rk (rg 6) (rg 4)))
 refine q0 (qs:=[(0,13,I p1),(1,14,I p1),(2,15,B b1 0),(3,16,I p0.W),(5,18,tV p2 ga2 gc3),(6,19,tV p3 ga4 gc5)]) c (qn [4,7,12] ⟨qP [],qP [],qP [],qP [(0,0)],qP [(0,1)],qP [(0,2)],tt⟩ ⟨fun _ _ c=>?_,fun _ _ c=>?_,fun _ _ c=>?_,tt⟩)
 refine Zf _ rfl rfl ?_
 refine Cb c (X3 hx1) tt call135 fun _ _ _ c=>?_
 refine E0 (nQ hd1 () (c.rk (rg 4) [0,1,2]))
 refine Zf _ rfl rfl ?_
 refine Eltr 62 [(tR p2 ga2 gc3),(tR p3 ga4 gc5)] [p2,p3] c ⟨(Ava.mk_Term p2 (.f 1)),(Ava.mk_Term p3 (.f 2)),tt⟩ fun a1 c1 _ _ c=>?_
 refine E0 (nQ hd2 (a1,c1,[(tR p2 ga2 gc3),(tR p3 ga4 gc5)]) (c.rk (rg 5) (rg 4)))
 refine Zf _ rfl rfl ?_
 refine Eal tZ c fun b5 _ _ c=>?_
 refine E0 (nQ hd3 (b5) (c.rk (rg 5) [0,1,2]))
 obtain ⟨b16,a12,c12⟩:=i10
 refine S0 (S0 (Ry [] mix c fun _ _ c=>I0 c h (fun h=>?_) fun h=>?_))
 refine T0 (Fp [(0,4)] 2 c fun _ c=>Ess 3 (tC x2.1 a12 c12) c fun _ c=>?_)
 refine Fp [] 1 c fun _ c=>E0 ?_
 cases h
 exact wp_ret (tr (Rg c (a12,c12) [] [3] (.cell (α:=Agg 4) kk (.b 3) (.tmp .nil))))
 refine K0 (T0 (Fp [(1,0),(2,4)] 3 c fun _ c=>Eltr 62 [(tR x2.1 a12 c12)] [x2.1] c ⟨(Ava.mk_Term x2.1 (.f 3)),tt⟩ fun a13 c13 _ _ c=>?_))
 replace c:=c.fzr 5 4
 refine Bd h fun x3 hx3 h=>Cg c (ZO hx3) ⟨.f 5,tt⟩ call97 fun i11 _ _ c=>?_
 refine Fp [] 2 c fun _ c=>Ess 3 (tC x3.1 i11.1 i11.2) c fun _ c=>?_
 refine Fp [] 1 c fun _ c=>E0 ?_
 cases h
 exact wp_ret (Rg c (i11.1,i11.2) [] [6] (.cell (α:=Agg 4) kk (.b 3) (.tmp .nil)))
theorem ZeG {p0 p1 r} (h:XL n p0 p1 = some r):Con prog 119 [I p0,Str.val p1] [] [] fun (_:Unit)=>([.agg #[I r.Op,I r.W,I r.N,Str.val r.Name,L0]],[],[]):=by
 unfold XL at h
 refine En func119 rfl ntmps119 fun _ fr w c=>?_
 refine T0 (Eal tZ c fun b1 _ _ c=>?_)
 refine E0 (S0 (Bd h fun x1 hx1 h=>Bd h fun x2 hx2 h=>S0 (rZ [(1,.eq (.bool x1)),(5,.eq (.bool x2))] [] mix c ⟨Ncl c (kN (YV hx1)) tt call88,Ncl c (fun hg=>ZcI (iteF (gcF hg) hx2)) tt call136,tt⟩ fun _ _ c=>I0 c h (fun h=>?_) fun h=>?_)))
 refine T0 (Fp [] 1 c fun _ c=>Ess 0 tZ c fun _ c=>?_)
 refine E0 ?_
 cases h
 exact wp_ret (tr (Rg c () [] [] (.cell (α:=Agg 4) kk (.b 0) .nil)))
 refine K0 (T0 (Fp [] 3 c fun _ c=>Ess 0 [I 22,I p0,I 0,Str.val p1,L0] c fun _ c=>?_))
 refine E0 ?_
 cases h
 exact wp_ret (Rg c () [] [] (.cell (α:=Agg 4) kk (.b 0) .nil))
theorem YU {p0 r} (h:Ye p0 = some r):Con prog 124 [L ga0 p0 gc1] [] [lR ga0 p0 gc1] fun (i:Option Addr)=>([L i r (List.length r)],[],[RO (L i r (List.length r)) r]):=by
 unfold Ye at h
 refine En func124 rfl ntmps124 fun _ fr w c=>?_
 refine P0 [] c fun _ c=>T0 (Fp [] 5 c fun _ c=>Ecl 62 c (.f 0) fun _ c=>?_)
 refine Fp [] 1 c fun _ c=>E0 ?_
 obtain rfl:=sj h
 exact wp_ret (Rt c (ga0) [] [1])
theorem ZcB {p0 p1 r} (h:Zbh p0 p1 = some r):Cl 98 [L ga0 p0 gc1,tV p1 ga2 gc3] [lR ga0 p0 gc1,lR ga2 p1.Kids gc3] r:=by
 unfold Zbh at h
 refine En func98 rfl ntmps98 fun _ fr w c=>?_
 refine T0 (Ebx (tC p1 ga2 gc3) c fun b1 _ _ c=>?_)
 refine Fp [] 1 c fun _ c=>E0 (Bd h fun x1 hx1 h=>Bd h fun x2 hx2 h=>Bd h fun x3 hx3 h=>S0 (Jn (fun i:Ob (List Rw.Term)=>([(4,L i.1 x3 i.2.1)],fun Γ=>Γ ++ [sl62 (L i.1 x3 i.2.1) (i.q2)],[CS (i.q2) x3])) c ?_ fun i10 _ _ c=>?_))
 refine As mix c fun _ c=>?_
 replace c:=Cx.frs [(0,L ga0 p0 gc1),(3,B b1 0)] c
 refine Dq (fun i:Ob (List Rw.Term)=>([(10,L i.1 x3 i.2.1)],fun Γ=>Γ ++ [sl62 (L i.1 x3 i.2.1) (i.q2)],[CS (i.q2) x3])) (bN 7 63) (fun i=>[(6,4,L i.1 x3 i.2.1)]) c (fun i9=>?_) fun hd6=>?_
 obtain ⟨a12,c10,rs7⟩:=i9
 refine qnE ⟨qP [],tt⟩ fun _ _ c=>?_
 exact nN (a12,c10,rs7) (c.rk [0,1] [0,1,2])
 refine Dq (fun i:Option Addr × Ob (List Rw.Term)=>([(7,L i.1 x2 (List.length x2)),(9,L i.2.1 [p1] i.p2)],fun Γ=>Γ ++ [sl62 (L i.2.1 [p1] i.p2) (i.q3)],[RO (L i.1 x2 (List.length x2)) x2,CS (i.q3) [p1]])) (bN 7 31) (fun i=>[]) c (fun i7=>?_) fun hd5=>?_
 obtain ⟨a9,a10,c8,rs5⟩:=i7
 refine qn [5] tt ⟨fun _ _ c=>?_,tt⟩
 refine Zf _ rfl rfl ?_
 replace c:=c.fzr 1 3
 refine Eapf (ρ:=Rw.Term) 62 c (.f 2) (.f 4) hx3 fun rs6 a11 c9 _ _ c=>?_
 refine E0 (nQ hd6 (a11,c9,rs6) (c.rk [0,1] [0,1,5]))
 refine Dq (fun i:Option Addr=>([(3,B b1 0),(7,L i x2 (List.length x2))],id,[RO (L i x2 (List.length x2)) x2])) (bN 7 7) (fun i=>[(3,8,tV p1 ga2 gc3)]) c (fun a4=>?_) fun hd3=>?_
 refine qn [4] ⟨qP [(0,0)],tt⟩ ⟨fun _ _ c=>?_,tt⟩
 refine Zf _ rfl rfl ?_
 refine Eltr 62 [(tR p1 ga2 gc3)] [p1] c ⟨(Ava.mk_Term p1 (.f 1)),tt⟩ fun a8 c7 _ _ c=>?_
 refine E0 (nQ hd5 (a4,a8,c7,[(tR p1 ga2 gc3)]) (c.rk [0,1] (rg 4)))
 refine Dq (fun i:Ob (List Rw.Term × Ob (List Rw.Term))=>([(6,L i.1 x1 i.2.1),(9,L i.p3 [p1] i.p4)],fun Γ=>Γ ++ [sl62 (L i.1 x1 i.2.1) (i.p2),sl62 (L i.p3 [p1] i.p4) (i.q5)],[CS (i.p2) x1,CS (i.q5) [p1]])) (bN 7 27) (fun i=>[]) c (fun i5=>?_) fun hd4=>?_
 obtain ⟨a6,c5,rs3,a7,c6,rs4⟩:=i5
 refine qn [2] tt ⟨fun _ _ c=>?_,tt⟩
 refine Zf _ rfl rfl ?_
 replace c:=c.fzr 1 2
 refine Cg c (YU hx2) ⟨.f 4,tt⟩ call124 fun i8 _ _ c=>?_
 refine E0 (nQ hd5 (i8,a7,c6,rs4) (c.rk [0,1] [0,1,5,3]))
 refine Dq (fun i:Ob (List Rw.Term)=>([(3,B b1 0),(6,L i.1 x1 i.2.1)],fun Γ=>Γ ++ [sl62 (L i.1 x1 i.2.1) (i.q2)],[CS (i.q2) x1])) (bN 7 3) (fun i=>[(3,8,tV p1 ga2 gc3)]) c (fun i2=>?_) fun hd1=>?_
 obtain ⟨a1,c1,rs1⟩:=i2
 refine qn [2,4] ⟨qP [(0,0)],tt⟩ ⟨fun _ _ c=>?_,fun _ _ c=>?_,tt⟩
 refine Zf _ rfl rfl ?_
 replace c:=c.fzr 1 2
 refine Cg c (YU hx2) ⟨.f 3,tt⟩ call124 fun i4 _ _ c=>?_
 refine E0 (nQ hd3 (i4) (c.rk [0] [0,1,4]))
 refine Zf _ rfl rfl ?_
 refine Eltr 62 [(tR p1 ga2 gc3)] [p1] c ⟨(Ava.mk_Term p1 (.f 1)),tt⟩ fun a5 c4 _ _ c=>?_
 refine E0 (nQ hd4 (a1,c1,rs1,a5,c4,[(tR p1 ga2 gc3)]) (c.rk [0,1,2] (rg 4)))
 refine Dq (fun i:Ob (List Rw.Term)=>([(0,L ga0 p0 gc1),(9,L i.1 [p1] i.2.1)],fun Γ=>Γ ++ [sl62 (L i.1 [p1] i.2.1) (i.q2)],[CS (i.q2) [p1]])) (bN 7 24) (fun i=>[(0,5,L ga0 p0 gc1)]) c (fun i3=>?_) fun hd2=>?_
 obtain ⟨a3,c3,rs2⟩:=i3
 refine qn [1] ⟨qP [],tt⟩ ⟨fun _ _ c=>?_,tt⟩
 refine Zf _ rfl rfl ?_
 refine Cg c (Yu hx1) ⟨.f 0,tt⟩ call125 fun i6 _ _ c=>?_
 refine E0 (nQ hd4 (i6.1,i6.2.1,i6.q2,a3,c3,rs2) (c.rk [0,2,1] [0,1,3,2]))
 refine q0 (qs:=[(0,5,L ga0 p0 gc1),(3,8,tV p1 ga2 gc3)]) c (qn [1,4] ⟨qP [],qP [(0,0)],tt⟩ ⟨fun _ _ c=>?_,fun _ _ c=>?_,tt⟩)
 refine Zf _ rfl rfl ?_
 refine Cg c (Yu hx1) ⟨.f 0,tt⟩ call125 fun i1 _ _ c=>?_
 refine E0 (nQ hd1 (i1.1,i1.2.1,i1.q2) (c.rk [0,1] [0,1,2]))
 refine Zf _ rfl rfl ?_
 refine Eltr 62 [(tR p1 ga2 gc3)] [p1] c ⟨(Ava.mk_Term p1 (.f 1)),tt⟩ fun a2 c2 _ _ c=>?_
 refine E0 (nQ hd2 (a2,c2,[(tR p1 ga2 gc3)]) (c.rk [0,1] [0,1,2]))
 obtain ⟨a13,c11,rs8⟩:=i10
 replace c:=c.fzr 1 2
 obtain rfl:=sj h
 exact wp_ret (Rt c (a13,c11) [] [3])
theorem ZaQ {p0 p1 p2 p3 p4 r} (h:XD n p0 p1 p2 p3 p4 = some r):Con prog 137 [gV p0 ga0 gc1,I p1,tV p2 ga2 gc3,tV p3 ga4 gc5,tV p4 ga6 gc7] [] [lR ga0 p0.Code gc1,lR ga2 p2.Kids gc3,lR ga4 p3.Kids gc5,lR ga6 p4.Kids gc7] fun (i:Oh)=>([tV r.1 i.1 i.2,.bool r.2],[],[lR i.1 r.1.Kids i.2]):=by
 unfold XD at h
 refine En func137 rfl ntmps137 fun _ fr w c=>?_
 refine T0 (Ebx (gC p0 ga0 gc1) c fun b1 _ _ c=>?_)
 refine Ebx (tC p2 ga2 gc3) c fun b2 _ _ c=>?_
 refine Ebx (tC p3 ga4 gc5) c fun b3 _ _ c=>?_
 refine Ebx (tC p4 ga6 gc7) c fun b4 _ _ c=>?_
 refine Eal tZ c fun b5 _ _ c=>?_
 refine Fp [] 1 c fun _ c=>E0 (Bd h fun x1 hx1 h=>Bd h fun x2 hx2 h=>S0 (Jn (fun i:Nat × Oh=>([(5,B b1 0),(8,B b3 0),(9,B b4 0),(10,B b5 0),(12,B i.1 0),(13,.bool x2.2)],fun Γ=>Γ ++ [BX i.1 62 (tC x2.1 i.2.1 i.q2)],[lR i.2.1 x2.1.Kids i.q2])) c ?_ fun i8 _ _ c=>?_))
 refine As mix c fun _ c=>?_
 replace c:=Cx.frs [(1,I p1),(5,B b1 0),(7,B b2 0),(8,B b3 0),(9,B b4 0),(10,B b5 0)] c
 refine Dq (fun i:Nat × Oh=>([(5,B b1 0),(8,B b3 0),(9,B b4 0),(10,B b5 0),(12,B i.1 0),(14,.tuple #[tV x2.1 i.2.1 i.q2,.bool x2.2])],fun Γ=>Γ ++ [BX i.1 62 (tC x2.1 i.2.1 i.q2)],[lR i.2.1 x2.1.Kids i.q2])) (bN 13 3583) (fun i=>[(9,23,.bool x2.2),(12,13,.bool x2.2)]) c (fun i7=>?_) fun hd8=>?_
 obtain ⟨b14,a7,c7⟩:=i7
 refine qnE ⟨qP [],qP [],tt⟩ fun _ _ c=>?_
 exact nN (b14,a7,c7) (c.rk (rg 6) (rg 5))
 refine Dq (fun i:Nat × Oh=>([(5,B b1 0),(8,B b3 0),(9,B b4 0),(10,B b5 0),(12,B i.1 0),(21,.tuple #[tV x2.1 i.2.1 i.q2,.bool x2.2])],fun Γ=>Γ ++ [BX i.1 62 tZ],[lR i.2.1 x2.1.Kids i.q2])) (bN 13 1151) (fun i=>[(7,14,.tuple #[tV x2.1 i.2.1 i.q2,.bool x2.2]),(8,22,tV x2.1 i.2.1 i.q2),(9,23,.bool x2.2)]) c (fun i5=>?_) fun hd7=>?_
 obtain ⟨b13,a6,c6⟩:=i5
 refine qn [11] ⟨qP [],qP [],qP [],tt⟩ ⟨fun _ _ c=>?_,tt⟩
 refine Zf _ rfl rfl ?_
 refine Ess 5 (tC x2.1 a6 c6) c fun _ c=>?_
 refine E0 (nQ hd8 (b13,a6,c6) (c.rk (rg 6) (rg 5)))
 refine Dq (fun i:Oh=>([(5,B b1 0),(8,B b3 0),(9,B b4 0),(10,B b5 0),(21,.tuple #[tV x2.1 i.1 i.2,.bool x2.2])],id,[lR i.1 x2.1.Kids i.2])) (bN 13 127) (fun i=>[(7,14,.tuple #[tV x2.1 i.1 i.2,.bool x2.2]),(8,22,tV x2.1 i.1 i.2),(9,23,.bool x2.2)]) c (fun i3=>?_) fun hd5=>?_
 obtain ⟨a3,c3⟩:=i3
 refine qn [10] ⟨qP [],qP [],qP [],tt⟩ ⟨fun _ _ c=>?_,tt⟩
 refine Zf _ rfl rfl ?_
 refine Eal tZ c fun b12 _ _ c=>?_
 refine E0 (nQ hd7 (b12,a3,c3) (c.rk (rg 6) (rg 5)))
 refine Dq (fun i:Nat × Ob (List Rw.Term)=>([(5,B b1 0),(8,B b3 0),(9,B b4 0),(10,B b5 0),(12,B i.1 0),(20,L i.2.1 [(t0 x1),p2] i.p2)],fun Γ=>Γ ++ [BX i.1 62 tZ,sl62 (L i.2.1 [(t0 x1),p2] i.p2) (i.q3)],[CS (i.q3) [(t0 x1),p2]])) (bN 13 1087) (fun i=>[]) c (fun i4=>?_) fun hd6=>?_
 obtain ⟨b11,a4,c4,rs2⟩:=i4
 refine qn [6] tt ⟨fun _ _ c=>?_,tt⟩
 refine Zf _ rfl rfl ?_
 replace c:=c.fzr 6 4
 refine Cg c (ZO hx2) ⟨.f 5,tt⟩ call97 fun i6 _ _ c=>?_
 refine E0 (nQ hd7 (b11,i6.1,i6.2) (c.rk (rg 6) [0,1,2,3,6]))
 refine Dq (fun i:Ob (List Rw.Term)=>([(5,B b1 0),(8,B b3 0),(9,B b4 0),(10,B b5 0),(20,L i.1 [(t0 x1),p2] i.2.1)],fun Γ=>Γ ++ [sl62 (L i.1 [(t0 x1),p2] i.2.1) (i.q2)],[CS (i.q2) [(t0 x1),p2]])) (bN 13 63) (fun i=>[]) c (fun i1=>?_) fun hd3=>?_
 obtain ⟨a2,c2,rs1⟩:=i1
 refine qn [6,10] tt ⟨fun _ _ c=>?_,fun _ _ c=>?_,tt⟩
 refine Zf _ rfl rfl ?_
 replace c:=c.fzr 5 4
 refine Cg c (ZO hx2) ⟨.f 5,tt⟩ call97 fun i2 _ _ c=>?_
 refine E0 (nQ hd5 (i2.1,i2.2) (c.rk (rg 5) [0,1,2,3,6]))
 refine Zf _ rfl rfl ?_
 refine Eal tZ c fun b10 _ _ c=>?_
 refine E0 (nQ hd6 (b10,a2,c2,rs1) (c.rk [0,1,2,3,4,6,5] (rg 5)))
 refine Dq (fun i:Nat=>([(5,B b1 0),(7,B b2 0),(8,B b3 0),(9,B b4 0),(10,B b5 0),(12,B i 0),(18,.agg #[I x1.Op,I x1.W,I x1.N,Str.val x1.Name,L0])],fun Γ=>Γ ++ [BX i 62 tZ],[])) (bN 13 1039) (fun i=>[(4,19,tV p2 ga2 gc3)]) c (fun b9=>?_) fun hd4=>?_
 refine qn [5] ⟨qP [(0,1)],tt⟩ ⟨fun _ _ c=>?_,tt⟩
 refine Zf _ rfl rfl ?_
 refine Eltr 62 [(u0 x1),(tR p2 ga2 gc3)] [(t0 x1),p2] c ⟨(Ava.mk_Term (t0 x1) (.nil)),(Ava.mk_Term p2 (.f 1)),tt⟩ fun a5 c5 _ _ c=>?_
 refine E0 (nQ hd6 (b9,a5,c5,[(u0 x1),(tR p2 ga2 gc3)]) (c.rk (rg 7) (rg 5)))
 refine Dq (fun _:Unit=>([(5,B b1 0),(7,B b2 0),(8,B b3 0),(9,B b4 0),(10,B b5 0),(18,.agg #[I x1.Op,I x1.W,I x1.N,Str.val x1.Name,L0])],id,[])) (bN 13 15) (fun _=>[(4,19,tV p2 ga2 gc3)]) c (fun _=>?_) fun hd1=>?_
 refine qn [5,10] ⟨qP [(0,1)],tt⟩ ⟨fun _ _ c=>?_,fun _ _ c=>?_,tt⟩
 refine Zf _ rfl rfl ?_
 refine Eltr 62 [(u0 x1),(tR p2 ga2 gc3)] [(t0 x1),p2] c ⟨(Ava.mk_Term (t0 x1) (.nil)),(Ava.mk_Term p2 (.f 1)),tt⟩ fun a1 c1 _ _ c=>?_
 refine E0 (nQ hd3 (a1,c1,[(u0 x1),(tR p2 ga2 gc3)]) (c.rk (rg 6) (rg 5)))
 refine Zf _ rfl rfl ?_
 refine Eal tZ c fun b8 _ _ c=>?_
 refine E0 (nQ hd4 (b8) (c.rk (rg 6) (rg 4)))
 refine Dq (fun i:Nat=>([(1,I p1),(5,B b1 0),(7,B b2 0),(8,B b3 0),(9,B b4 0),(10,B b5 0),(12,B i 0)],fun Γ=>Γ ++ [BX i 62 tZ],[])) (bN 13 1024) (fun i=>[(0,15,B b1 0),(1,16,I p0.W),(2,17,I p1),(4,19,tV p2 ga2 gc3)]) c (fun b7=>?_) fun hd2=>?_
 refine qn [3] ⟨qP [],qP [(0,0)],qP [],qP [(0,1)],tt⟩ ⟨fun _ _ c=>?_,tt⟩
 refine Zf _ rfl rfl ?_
 refine Cb c (ZA hx1) tt call74 fun _ _ _ c=>?_
 refine E0 (nQ hd4 (b7) (c.rk (rg 6) (rg 4)))
 refine q0 (qs:=[(0,15,B b1 0),(1,16,I p0.W),(2,17,I p1),(4,19,tV p2 ga2 gc3)]) c (qn [3,10] ⟨qP [],qP [(0,0)],qP [],qP [(0,1)],tt⟩ ⟨fun _ _ c=>?_,fun _ _ c=>?_,tt⟩)
 refine Zf _ rfl rfl ?_
 replace c:=c.ng
 refine Cb c (ZA hx1) tt call74 fun _ _ _ c=>?_
 refine E0 (nQ hd1 () (c.rk (rg 5) (rg 4)))
 refine Zf _ rfl rfl ?_
 replace c:=c.nf
 refine Eal tZ c fun b6 _ _ c=>?_
 refine E0 (nQ hd2 (b6) (c.rk (rg 6) (rg 4)))
 obtain ⟨b15,a8,c8⟩:=i8
 refine S0 (P0 [] c fun _ c=>I0 c h (fun h=>?_) fun h=>?_)
 refine T0 (Fp [] 1 c fun _ c=>Ess 4 tZ c fun _ c=>?_)
 refine Fp [] 1 c fun _ c=>E0 ?_
 cases h
 replace c:=c.nilf (α:=D.Term)
 exact wp_ret (tr (Rg c (none,0) [] [5] (.cell (α:=Agg 4) kk (.b 4) (.tmp .nil))))
 refine K0 (T0 (Fp [(1,0),(2,5),(3,2),(4,3)] 5 c fun _ c=>Eltr 62 [(tR x2.1 a8 c8),(tR p3 ga4 gc5),(tR p4 ga6 gc7)] [x2.1,p3,p4] c ⟨(Ava.mk_Term x2.1 (.f 4)),(Ava.mk_Term p3 (.f 2)),(Ava.mk_Term p4 (.f 3)),tt⟩ fun a9 c9 _ _ c=>?_))
 replace c:=c.fzr 6 5
 refine Bd h fun x3 hx3 h=>Cg c (ZO hx3) ⟨.f 6,tt⟩ call97 fun i9 _ _ c=>?_
 refine Fp [] 2 c fun _ c=>Ess 4 (tC x3.1 i9.1 i9.2) c fun _ c=>?_
 refine Fp [] 1 c fun _ c=>E0 ?_
 cases h
 exact wp_ret (Rg c (i9.1,i9.2) [] [7] (.cell (α:=Agg 4) kk (.b 4) (.tmp .nil)))
end Go.Proofs.YthbfkjiiibfomaaGreatDoor
