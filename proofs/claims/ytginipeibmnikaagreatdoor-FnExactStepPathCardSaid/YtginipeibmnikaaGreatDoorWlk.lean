/- The walks, printed by a program. -/
import Derived.Test.YtginipeibmnikaaGreatDoorWlkB
set_option linter.unusedVariables false
set_option linter.unusedSimpArgs false
set_option maxRecDepth 100000
set_option maxHeartbeats 40000000
namespace Go.Proofs.YtginipeibmnikaaGreatDoor
open Go.GL Go.Maps Go.WideMaps Tryz
variable {n:Nat} {ga0 ga2 ga4 ga6 ga8 ga10 ga12 ga14 ga16 ga18 ga20 ga22:Option Addr} {gc1 gc3 gc5 gc7 gc9 gc11 gc13 gc15 gc17 gc19 gc21 gc23:Nat}
theorem Zf7 {p0 p1 p2 r} (h:Zb3 n p0 p1 p2 = some r):Cl 74 [gV p0 ga0 gc1,pV p1 ga2 gc3 ga4 gc5 ga6 gc7 ga8 gc9 ga10 gc11 ga12 gc13,nV p2] [lR ga0 p0.Code gc1,lR ga2 p1.Regs gc3,lR ga4 p1.Mem gc5,lR ga6 p1.Stack gc7,lR ga8 p1.Out gc9,lR ga10 p1.Cond gc11,lR ga12 p1.Turns gc13,TBf prog] r:=by
 unfold Zb3 at h
 refine En func74 rfl ntmps74 fun _ fr w c=>?_
 refine T0 (Ebx (gC p0 ga0 gc1) c fun b1 _ _ c=>?_)
 refine Ebx (pC p1 ga2 gc3 ga4 gc5 ga6 gc7 ga8 gc9 ga10 gc11 ga12 gc13) c fun b2 _ _ c=>?_
 refine Ebx (nC p2) c fun b3 _ _ c=>?_
 refine Fp [] 1 c fun _ c=>E0 (T0 (Fp [(0,1)] 1 c fun _ c=>Eal pZ c fun b4 _ _ c=>?_))
 refine Ess 3 (pC p1 ga2 gc3 ga4 gc5 ga6 gc7 ga8 gc9 ga10 gc11 ga12 gc13) c fun _ c=>?_
 refine E0 (T0 (Fp [] 1 c fun _ c=>?_))
 replace c:=c.ng
 refine Esb 3 6 (I 9) c fun _ c=>?_
 refine E0 (T0 (Fp [(0,0),(1,1),(2,2)] 3 c fun _ c=>Bd h fun x1 hx1 h=>Cg c (ZdX (ga4:=ga4) (gc5:=gc5) (ga6:=ga6) (gc7:=gc7) (ga8:=ga8) (gc9:=gc9) (ga10:=ga10) (gc11:=gc11) (ga12:=ga12) (gc13:=gc13) hx1) ⟨.f 0,.f 1,tt⟩ call89 fun i1 _ _ c=>?_))
 refine Fp [] 4 c fun _ c=>Eal tZ c fun b5 _ _ c=>?_
 refine Ess 4 (tC x1.1 i1.1 i1.2) c fun _ c=>?_
 refine Fp [] 2 c fun _ c=>E0 (S0 (P0 [] c fun _ c=>I0 c h (fun h=>?_) fun h=>?_))
 refine T0 (Fp [(0,3)] 1 c fun _ c=>Eltr 29 ([(Rw.Path.mk p1.Pc (hd ga2 p1.Regs gc3) (hd ga4 p1.Mem gc5) (hd ga6 p1.Stack gc7) p1.In (hd ga8 p1.Out gc9) 9 p1.Steps (hd ga10 p1.Cond gc11) (hd ga12 p1.Turns gc13))]:List Rw.Path) ([(D.Path.mk p1.Pc p1.Regs p1.Mem p1.Stack p1.In p1.Out 9 p1.Steps p1.Cond p1.Turns)]:List D.Path) c ⟨(Ava.mk_Path (D.Path.mk p1.Pc p1.Regs p1.Mem p1.Stack p1.In p1.Out 9 p1.Steps p1.Cond p1.Turns) (.f 1) (.f 2) (.f 3) (.f 4) (.f 5) (.f 6)),tt⟩ fun a1 c1 _ _ c=>?_)
 refine Fp [] 1 c fun _ c=>E0 ?_
 replace c:=c.fzr 5 9
 cases h
 exact wp_ret (tr (Rt c (a1,c1) [] [10]))
 refine K0 (S0 (Bd h fun x2 hx2 h=>S0 (rZ [(3,.eq (.bool x2))] [(2,4)] mix c ⟨Ncl c (fun hg=>YW (iteT (gcT hg) hx2)) ⟨.f 8,tt⟩ call90,tt⟩ fun _ _ c=>I0 c h (fun h=>?_) fun h=>?_)))
 refine T0 (Fp [(0,1),(1,2)] 2 c fun _ c=>Bd h fun x3 hx3 h=>Cg c (Zdn hx3) ⟨.f 1,.f 2,.f 3,.f 4,.f 5,.f 6,tt⟩ call91 fun i2 _ _ c=>?_)
 replace c:=c.nf
 refine Eltr 29 ([(Rw.Path.mk x3.Pc (hd i2.1 x3.Regs i2.2.1) (hd i2.p2 x3.Mem i2.p3) (hd i2.p4 x3.Stack i2.p5) x3.In (hd i2.p6 x3.Out i2.p7) x3.Code x3.Steps (hd i2.p8 x3.Cond i2.p9) (hd i2.p10 x3.Turns i2.q11))]:List Rw.Path) ([x3]:List D.Path) c ⟨(Ava.mk_Path x3 (.f 9) (.f 10) (.f 11) (.f 12) (.f 13) (.f 14)),tt⟩ fun a2 c2 _ _ c=>?_
 refine Fp [] 1 c fun _ c=>E0 ?_
 replace c:=c.fzr 5 15
 cases h
 exact wp_ret (tr (Rt c (a2,c2) [] [16]))
 refine K0 (T0 (Fp [(0,0),(1,1),(2,2)] 3 c fun _ c=>Bd h fun x4 hx4 h=>Cg c (Zfr hx4) ⟨.f 0,.f 1,.f 2,.f 3,.f 4,.f 5,.f 6,.f 7,tt⟩ call92 fun i3 _ _ c=>?_))
 refine Fp [] 3 c fun _ c=>?_
 replace c:=c.nf
 refine Eal pZ c fun b6 _ _ c=>?_
 refine Ess 5 (pM x4.1 i3) c fun _ c=>?_
 refine Fp [] 1 c fun _ c=>E0 (S0 (P0 [] c fun _ c=>I0 c h (fun h=>?_) fun h=>?_))
 refine T0 (Fp [(0,3)] 1 c fun _ c=>Eltr 29 ([(Rw.Path.mk p1.Pc (hd ga2 p1.Regs gc3) (hd ga4 p1.Mem gc5) (hd ga6 p1.Stack gc7) p1.In (hd ga8 p1.Out gc9) 9 p1.Steps (hd ga10 p1.Cond gc11) (hd ga12 p1.Turns gc13))]:List Rw.Path) ([(D.Path.mk p1.Pc p1.Regs p1.Mem p1.Stack p1.In p1.Out 9 p1.Steps p1.Cond p1.Turns)]:List D.Path) c ⟨(Ava.mk_Path (D.Path.mk p1.Pc p1.Regs p1.Mem p1.Stack p1.In p1.Out 9 p1.Steps p1.Cond p1.Turns) (.f 1) (.f 2) (.f 3) (.f 4) (.f 5) (.f 6)),tt⟩ fun a3 c3 _ _ c=>?_)
 refine Fp [] 1 c fun _ c=>E0 ?_
 replace c:=c.fzr 6 15
 cases h
 exact wp_ret (tr (Rt c (a3,c3) [] [16]))
 refine K0 (S0 (Bd h fun x5 hx5 h=>S0 (rZ [(4,.eq (.bool x5))] [(3,4)] mix c ⟨Ncl c (fun hg=>YE (iteF (gcF hg) hx5)) ⟨.f 8,tt⟩ call93,tt⟩ fun _ _ c=>I0 c h (fun h=>?_) fun h=>?_)))
 refine T0 (Fp [(0,5)] 1 c fun _ c=>Eltr 29 ([(Rw.Path.mk x4.1.Pc (hd i3.1 x4.1.Regs i3.2.1) (hd i3.p2 x4.1.Mem i3.p3) (hd i3.p4 x4.1.Stack i3.p5) x4.1.In (hd i3.p6 x4.1.Out i3.p7) x4.1.Code x4.1.Steps (hd i3.p8 x4.1.Cond i3.p9) (hd i3.p10 x4.1.Turns i3.q11))]:List Rw.Path) ([x4.1]:List D.Path) c ⟨(Ava.mk_Path x4.1 (.f 9) (.f 10) (.f 11) (.f 12) (.f 13) (.f 14)),tt⟩ fun a4 c4 _ _ c=>?_)
 refine Fp [] 1 c fun _ c=>E0 ?_
 replace c:=c.fzr 6 15
 cases h
 exact wp_ret (tr (Rt c (a4,c4) [] [16]))
 refine K0 (T0 (Fp [(0,4)] 1 c fun _ c=>Eltr 75 [(tR x1.1 i1.1 i1.2)] [x1.1] c ⟨(Ava.mk_Term x1.1 (.f 8)),tt⟩ fun a5 c5 _ _ c=>?_))
 replace c:=c.nf
 replace c:=c.fzr 6 15
 refine Bd h fun x6 hx6 h=>Cg c (ZM hx6) ⟨.f 16,tt⟩ call94 fun i4 _ _ c=>?_
 refine Fp [] 3 c fun _ c=>Eal tZ c fun b7 _ _ c=>?_
 refine Ess 6 (tC x6.1 i4.1 i4.2) c fun _ c=>?_
 refine Fp [] 1 c fun _ c=>E0 (S0 (S0 (Ry [(4,1),(10,1)] mix c fun _ _ c=>I0 c h (fun h=>?_) fun h=>?_)))
 refine T0 (Fp [(0,3)] 1 c fun _ c=>?_)
 replace c:=c.nf
 refine Eltr 29 ([(Rw.Path.mk p1.Pc (hd ga2 p1.Regs gc3) (hd ga4 p1.Mem gc5) (hd ga6 p1.Stack gc7) p1.In (hd ga8 p1.Out gc9) 9 p1.Steps (hd ga10 p1.Cond gc11) (hd ga12 p1.Turns gc13))]:List Rw.Path) ([(D.Path.mk p1.Pc p1.Regs p1.Mem p1.Stack p1.In p1.Out 9 p1.Steps p1.Cond p1.Turns)]:List D.Path) c ⟨(Ava.mk_Path (D.Path.mk p1.Pc p1.Regs p1.Mem p1.Stack p1.In p1.Out 9 p1.Steps p1.Cond p1.Turns) (.f 1) (.f 2) (.f 3) (.f 4) (.f 5) (.f 6)),tt⟩ fun a6 c6 _ _ c=>?_
 refine Fp [] 1 c fun _ c=>E0 ?_
 replace c:=c.fzr 7 18
 cases h
 exact wp_ret (tr (Rt c (a6,c6) [] [19]))
 refine K0 (T0 (Fp [(0,1),(1,2)] 2 c fun _ c=>?_))
 replace c:=c.nf
 refine Bd h fun x7 hx7 h=>Cg c (Zdn hx7) ⟨.f 1,.f 2,.f 3,.f 4,.f 5,.f 6,tt⟩ call91 fun i5 _ _ c=>?_
 refine Eal pZ c fun b8 _ _ c=>?_
 refine Ess 7 (pM x7 i5) c fun _ c=>?_
 refine E0 (T0 (Fp [(1,1),(2,4)] 3 c fun _ c=>?_))
 replace c:=c.ng
 refine Bd h fun x8 hx8 h=>Cg c (Zc1 hx8) ⟨.f 5,.f 8,tt⟩ call95 fun i6 _ _ c=>?_
 refine Fp [] 1 c fun _ c=>Esb 7 8 (L i6.1 x8 i6.2) c fun _ c=>?_
 refine E0 (T0 (Fp [(1,1)] 2 c fun _ c=>Bd h fun x9 hx9 h=>Cb c (Zcz hx9) ⟨.f 6,tt⟩ call96 fun i7 _ _ c=>?_))
 refine Fp [] 1 c fun _ c=>?_
 replace c:=c.ng
 refine Esb 7 9 (L i7.1 x9 i7.2) c fun _ c=>?_
 refine E0 (T0 (Fp [(1,1),(2,6)] 3 c fun _ c=>Bd h fun x10 hx10 h=>Cg c (Zc1 hx10) ⟨.f 5,.f 17,tt⟩ call95 fun i8 _ _ c=>?_))
 refine Fp [] 1 c fun _ c=>?_
 replace c:=c.ng
 refine Esb 5 8 (L i8.1 x10 i8.2) c fun _ c=>?_
 refine E0 (T0 (Fp [(1,1)] 2 c fun _ c=>Bd h fun x11 hx11 h=>Cb c (Zcz hx11) ⟨.f 6,tt⟩ call96 fun i9 _ _ c=>?_))
 refine Fp [] 1 c fun _ c=>?_
 replace c:=c.ng
 refine Esb 5 9 (L i9.1 x11 i9.2) c fun _ c=>?_
 refine E0 (T0 (Fp [(0,7),(1,5)] 2 c fun _ c=>?_))
 replace c:=c.fz 8
 replace c:=c.fz 8
 refine Eltr 29 ([(Rw.Path.mk x7.Pc (hd i5.1 x7.Regs i5.2.1) (hd i5.p2 x7.Mem i5.p3) (hd i5.p4 x7.Stack i5.p5) x7.In (hd i5.p6 x7.Out i5.p7) x7.Code x7.Steps (hd i6.1 x8 i6.2) (hd i7.1 x9 i7.2)),(Rw.Path.mk x4.1.Pc (hd i3.1 x4.1.Regs i3.2.1) (hd i3.p2 x4.1.Mem i3.p3) (hd i3.p4 x4.1.Stack i3.p5) x4.1.In (hd i3.p6 x4.1.Out i3.p7) x4.1.Code x4.1.Steps (hd i8.1 x10 i8.2) (hd i9.1 x11 i9.2))]:List Rw.Path) ([(D.Path.mk x7.Pc x7.Regs x7.Mem x7.Stack x7.In x7.Out x7.Code x7.Steps x8 x9),(D.Path.mk x4.1.Pc x4.1.Regs x4.1.Mem x4.1.Stack x4.1.In x4.1.Out x4.1.Code x4.1.Steps x10 x11)]:List D.Path) c ⟨(Ava.mk_Path (D.Path.mk x7.Pc x7.Regs x7.Mem x7.Stack x7.In x7.Out x7.Code x7.Steps x8 x9) (.f 18) (.f 19) (.f 20) (.f 21) (.f 24) (.f 26)),(Ava.mk_Path (D.Path.mk x4.1.Pc x4.1.Regs x4.1.Mem x4.1.Stack x4.1.In x4.1.Out x4.1.Code x4.1.Steps x10 x11) (.f 9) (.f 10) (.f 11) (.f 12) (.f 25) (.f 27)),tt⟩ fun a7 c7 _ _ c=>?_
 refine Fp [] 1 c fun _ c=>E0 ?_
 replace c:=c.fzr 8 28
 cases h
 exact wp_ret (Rt c (a7,c7) [] [29])
theorem Zf8 {p0 p1 r} (h:Zb1 n p0 p1 = some r):Cl 47 [gV p0 ga0 gc1,pV p1 ga2 gc3 ga4 gc5 ga6 gc7 ga8 gc9 ga10 gc11 ga12 gc13] [lR ga0 p0.Code gc1,lR ga2 p1.Regs gc3,lR ga4 p1.Mem gc5,lR ga6 p1.Stack gc7,lR ga8 p1.Out gc9,lR ga10 p1.Cond gc11,lR ga12 p1.Turns gc13,TBf prog] r:=by
 unfold Zb1 at h
 refine En func47 rfl ntmps47 fun _ fr w c=>?_
 refine T0 (Ebx (gC p0 ga0 gc1) c fun b1 _ _ c=>?_)
 refine Ebx (pC p1 ga2 gc3 ga4 gc5 ga6 gc7 ga8 gc9 ga10 gc11 ga12 gc13) c fun b2 _ _ c=>?_
 refine Fp [] 1 c fun _ c=>E0 (S0 (S0 (Ry [(1,1),(5,1)] mix c fun _ _ c=>I0 c h (fun h=>?_) fun h=>?_)))
 refine P0 [] c fun _ c=>?_
 cases h
 replace c:=c.nilf (α:=D.Path)
 exact wp_ret (tr (Rt c (none,0) [] [8]))
 refine K0 (S0 (P0 [(1,1),(3,0)] c fun _ c=>I0 c h (fun h=>?_) fun h=>?_))
 refine T0 (Fp [] 1 c fun _ c=>Esb 1 6 (I 2) c fun _ c=>?_)
 refine E0 (T0 (Fp [(0,1)] 1 c fun _ c=>Eltr 29 ([(Rw.Path.mk p1.Pc (hd ga2 p1.Regs gc3) (hd ga4 p1.Mem gc5) (hd ga6 p1.Stack gc7) p1.In (hd ga8 p1.Out gc9) 2 p1.Steps (hd ga10 p1.Cond gc11) (hd ga12 p1.Turns gc13))]:List Rw.Path) ([(D.Path.mk p1.Pc p1.Regs p1.Mem p1.Stack p1.In p1.Out 2 p1.Steps p1.Cond p1.Turns)]:List D.Path) c ⟨(Ava.mk_Path (D.Path.mk p1.Pc p1.Regs p1.Mem p1.Stack p1.In p1.Out 2 p1.Steps p1.Cond p1.Turns) (.f 1) (.f 2) (.f 3) (.f 4) (.f 5) (.f 6)),tt⟩ fun a1 c1 _ _ c=>?_))
 refine Fp [] 1 c fun _ c=>E0 ?_
 replace c:=c.fzr 2 8
 cases h
 exact wp_ret (tr (Rt c (a1,c1) [] [9]))
 refine K0 (T0 (Fp [(1,1)] 4 c fun _ c=>Esb 1 7 (I (w64 (p1.Steps + 1))) c fun _ c=>?_))
 refine E0 (T0 (Fp [(1,0),(3,1)] 4 c fun _ c=>Bd h fun x1 hx1 h=>Eel c (.f 0) hx1 fun _ _ c=>?_))
 refine Eal [I 0,I 0,I 0,I 0] c fun b3 _ _ c=>?_
 refine Ess 2 (nC x1) c fun _ c=>?_
 refine E0 (S0 (T0 (Fp [(0,0),(1,1),(2,2)] 3 c fun _ c=>?_)))
 replace c:=c.nf
 refine Bd h fun x2 hx2 h=>Cb c (ZfJ hx2) ⟨.f 0,.f 1,.f 2,.f 3,.f 4,.f 5,.f 6,tt⟩ call73 fun _ _ _ c=>?_
 refine Fp [] 1 c fun _ c=>E0 (P0 [] c fun _ c=>I0 c h (fun h=>?_) fun h=>?_)
 refine T0 (Fp [] 2 c fun _ c=>Esb 1 6 (I x2) c fun _ c=>?_)
 refine E0 (T0 (Fp [(0,1)] 1 c fun _ c=>Eltr 29 ([(Rw.Path.mk p1.Pc (hd ga2 p1.Regs gc3) (hd ga4 p1.Mem gc5) (hd ga6 p1.Stack gc7) p1.In (hd ga8 p1.Out gc9) x2 (w64 (p1.Steps + 1)) (hd ga10 p1.Cond gc11) (hd ga12 p1.Turns gc13))]:List Rw.Path) ([(D.Path.mk p1.Pc p1.Regs p1.Mem p1.Stack p1.In p1.Out x2 (w64 (p1.Steps + 1)) p1.Cond p1.Turns)]:List D.Path) c ⟨(Ava.mk_Path (D.Path.mk p1.Pc p1.Regs p1.Mem p1.Stack p1.In p1.Out x2 (w64 (p1.Steps + 1)) p1.Cond p1.Turns) (.f 1) (.f 2) (.f 3) (.f 4) (.f 5) (.f 6)),tt⟩ fun a2 c2 _ _ c=>?_))
 refine Fp [] 1 c fun _ c=>E0 ?_
 replace c:=c.fzr 3 8
 cases h
 exact wp_ret (tr (Rt c (a2,c2) [] [9]))
 refine K0 (T0 (Fp [(0,0),(1,1),(2,2)] 3 c fun _ c=>Bd h fun x3 hx3 h=>Cg c (Zf7 hx3) ⟨.f 0,.f 1,.f 2,.f 3,.f 4,.f 5,.f 6,.f 7,tt⟩ call74 fun i1 _ _ c=>?_))
 refine Fp [] 1 c fun _ c=>E0 ?_
 obtain rfl:=sj h
 exact wp_ret (Rt c (i1.1,i1.2) [] [8])
theorem ZaV (n:Nat):(∀ {p0 ga0 gc1 r} (h:Xx n p0 = some r),Con prog 86 [tV p0 ga0 gc1] [] [lR ga0 p0.Kids gc1] fun (i:Oh)=>([tV r i.1 i.2],[OD (ownT 75) 75 (L i.1 r.Kids i.2) r.Kids],[])) ∧
    (∀ {p0 ga0 gc1 r} (h:Yb n p0 = some r),Con prog 63 [L ga0 p0 gc1] [] [lR ga0 p0 gc1] fun (i:Oh)=>([L i.1 r i.2],[OD (ownT 75) 75 (L i.1 r i.2) r],[])):=by
 induction n with
 | zero=>exact ⟨by intro p0 ga0 gc1 r h; simp [Xx] at h,by intro p0 ga0 gc1 r h; simp [Yb] at h⟩
 | succ n ih=>
 obtain ⟨ih0,ih1⟩:=ih
 refine ⟨?_,?_⟩
 · intro p0 ga0 gc1 r h
   rw [Xx] at h
   refine En func86 rfl ntmps86 fun _ fr w c=>?_
   refine T0 (Ebx (tC p0 ga0 gc1) c fun b1 _ _ c=>?_)
   refine Eal tZ c fun b2 _ _ c=>?_
   refine E0 (T0 (Fp [(0,0)] 1 c fun _ c=>Eal tZ c fun b3 _ _ c=>?_))
   refine Ess 2 (tC p0 ga0 gc1) c fun _ c=>?_
   refine E0 (T0 (Fp [(1,0)] 2 c fun _ c=>Bd h fun x1 hx1 h=>Cb c (ih1 hx1) ⟨.f 0,tt⟩ call63 fun i1 _ _ c=>?_))
   refine Fp [] 1 c fun _ c=>?_
   replace c:=c.ng
   refine Esb 2 4 (L i1.1 x1 i1.2) c fun _ c=>?_
   refine E0 (T0 (Fp [(0,2)] 1 c fun _ c=>Ess 1 [I p0.Op,I p0.W,I p0.N,Str.val p0.Name,L i1.1 x1 i1.2] c fun _ c=>?_))
   refine E0 ?_
   cases h
   exact wp_ret (Rg c (i1.1,i1.2) [3] [] (.cell (α:=Agg 4) kk (.b 1) .nil))
 · intro p0 ga0 gc1 r h
   rw [Yb] at h
   refine En func63 rfl ntmps63 fun _ fr w c=>?_
   refine P0 [] c fun _ c=>S0 (P0 [] c fun _ c=>I0 c h (fun h=>?_) fun h=>?_)
   refine P0 [] c fun _ c=>?_
   replace c:=c.nilo (ownT 75) 75
   cases h
   exact wp_ret (tr (Rt c (none,0) [0] []))
   refine K0 (T0 (Fp [] 2 c fun _ c=>Bd h fun x1 hx1 h=>Emkd 75 (⟨0,0,0,⟨[]⟩,⟨none,0,0⟩⟩ : Rw.Term) (fun w=>Zgh 75 w) c hx1 fun a1 c1 _ _ c=>?_))
   refine Fp [] 1 c fun _ c=>E0 (S0 (P0 [] c fun _ c=>Bd h fun rl1 hit1 h=>Lp (fun s1  (i:List Rw.Term)=>([(0,L ga0 p0 gc1),(3,L a1 x1 c1),(12,I (len p0)),(13,I s1.1)],fun Γ=>(Γ.set 0 (sl75 (L a1 x1 c1) (i))).set 1 (HP.all (ownT 75) (i) s1.2),[])) (fun  (i:List Rw.Term)=>([(3,L a1 x1 c1)],fun Γ=>(Γ.set 0 (sl75 (L a1 x1 c1) (i))).set 1 (HP.all (ownT 75) (i) rl1),[])) hit1 c ((List.replicate (List.length x1) (⟨0,0,0,⟨[]⟩,⟨none,0,0⟩⟩ : Rw.Term))) (c.rk [0,1] [0]) (fun s1 q1 i1 _ _ c h hr1=>?_) fun k1 _ _ c=>?_))
   refine P0 [] c fun _ c=>S0 (I0 c h (fun h=>?_) fun h=>?_)
   refine K0 (S0 (wp_block (P0 [] c fun _ c=>T1 (Fp [] 4 c fun _ c=>Bd h fun x2 hx2 h=>Eem c (.f 0) hx2 fun _ u1 _ c=>?_))))
   obtain ⟨a2,c2,rfl,c⟩:=c.o_Term 1
   refine Bd h fun x3 hx3 h=>Cb c (ih0 hx3) ⟨.f 2,tt⟩ call86 fun i2 _ _ c=>?_
   replace c:=c.pack (H:=ownT 75 (tR x3 i2.1 i2.2) x3) [OD (ownT 75) 75 (L i2.1 x3.Kids i2.2) x3.Kids] [2] (fun A h=>ZgD (x:=x3) (Sep.sole h))
   refine Bd h fun x4 hx4 h=>Esetd 0 1 2 c hx4 fun _ _ _ c=>?_
   refine E1 (bk (tn (P1 [] c fun _ c=>Nx h ((List.set i1 (s1.1).toNat (tR x3 i2.1 i2.2))) (c.rk [0,1] [0]))))
   refine wp_exit (te (te (be ?_)))
   obtain rfl:=hr1 _ (sk h)
   exact tn ⟨(i1),c.rk [0,1] [0]⟩
   refine P0 [] c fun _ c=>?_
   replace c:=c.odc 0 1
   obtain rfl:=sj h
   obtain ⟨he1,c⟩:=c.releno 0
   replace c:=c.eqs (v:=L a1 x1 c1) (u:=L a1 rl1 c1) 2 (by simp only [L,he1])
   exact wp_ret (Rt c (a1,c1) [0] [])
theorem XV {n:Nat}:∀ {p0 ga0 gc1 r} (h:Yb n p0 = some r),Con prog 63 [L ga0 p0 gc1] [] [lR ga0 p0 gc1] fun (i:Oh)=>([L i.1 r i.2],[OD (ownT 75) 75 (L i.1 r i.2) r],[]):=(ZaV n).2
theorem ZdY {p0 r} (h:XU n p0 = some r):Con prog 34 [pV p0 ga0 gc1 ga2 gc3 ga4 gc5 ga6 gc7 ga8 gc9 ga10 gc11] [] [lR ga0 p0.Regs gc1,lR ga2 p0.Mem gc3,lR ga4 p0.Stack gc5,lR ga6 p0.Out gc7,lR ga8 p0.Cond gc9,lR ga10 p0.Turns gc11] fun (i:Hp)=>([pJ r i],[OD (ownT 75) 75 (L i.1 r.Regs i.2.1) r.Regs,OD (ownT 75) 75 (L i.p2 r.Mem i.p3) r.Mem,sl3 (L i.p4 r.Stack i.p5) r.Stack,OD (ownT 75) 75 (L i.p6 r.Out i.p7) r.Out,OD (ownT 75) 75 (L i.p8 r.Cond i.p9) r.Cond,sl3 (L i.p10 r.Turns i.q11) r.Turns],[]):=by
 unfold XU at h
 refine En func34 rfl ntmps34 fun _ fr w c=>?_
 refine T0 (Ebx (pC p0 ga0 gc1 ga2 gc3 ga4 gc5 ga6 gc7 ga8 gc9 ga10 gc11) c fun b1 _ _ c=>?_)
 refine Eal pZ c fun b2 _ _ c=>?_
 refine E0 (T0 (Fp [(1,0)] 2 c fun _ c=>Bd h fun x1 hx1 h=>Cb c (XV hx1) ⟨.f 0,tt⟩ call63 fun i1 _ _ c=>?_))
 refine Fp [] 1 c fun _ c=>Esb 0 1 (L i1.1 x1 i1.2) c fun _ c=>?_
 refine E0 (T0 (Fp [(1,0)] 2 c fun _ c=>Bd h fun x2 hx2 h=>Cb c (XV hx2) ⟨.f 1,tt⟩ call63 fun i2 _ _ c=>?_))
 refine Fp [] 1 c fun _ c=>?_
 replace c:=c.ng
 refine Esb 0 2 (L i2.1 x2 i2.2) c fun _ c=>?_
 refine E0 (T0 (Fp [(1,0)] 2 c fun _ c=>Bd h fun x3 hx3 h=>Cb c (YA hx3) ⟨.f 2,tt⟩ call64 fun i3 _ _ c=>?_))
 refine Fp [] 1 c fun _ c=>Esb 0 3 (L i3.1 x3 i3.2) c fun _ c=>?_
 refine E0 (T0 (Fp [(1,0)] 2 c fun _ c=>Bd h fun x4 hx4 h=>Cb c (XV hx4) ⟨.f 3,tt⟩ call63 fun i4 _ _ c=>?_))
 refine Fp [] 1 c fun _ c=>?_
 replace c:=c.ng
 refine Esb 0 5 (L i4.1 x4 i4.2) c fun _ c=>?_
 refine E0 (T0 (Fp [(1,0)] 2 c fun _ c=>Bd h fun x5 hx5 h=>Cb c (XV hx5) ⟨.f 4,tt⟩ call63 fun i5 _ _ c=>?_))
 refine Fp [] 1 c fun _ c=>Esb 0 8 (L i5.1 x5 i5.2) c fun _ c=>?_
 refine E0 (T0 (Fp [(1,0)] 2 c fun _ c=>?_))
 replace c:=c.ng
 refine Bd h fun x6 hx6 h=>Cb c (YA hx6) ⟨.f 5,tt⟩ call64 fun i6 _ _ c=>?_
 refine Fp [] 1 c fun _ c=>Esb 0 9 (L i6.1 x6 i6.2) c fun _ c=>?_
 refine E0 (T0 (Fp [(0,0)] 1 c fun _ c=>Ess 1 [I p0.Pc,L i1.1 x1 i1.2,L i2.1 x2 i2.2,L i3.1 x3 i3.2,I p0.In,L i4.1 x4 i4.2,I p0.Code,I p0.Steps,L i5.1 x5 i5.2,L i6.1 x6 i6.2] c fun _ c=>?_))
 refine E0 ?_
 cases h
 exact wp_ret (Rg c (i1.1,i1.2,i2.1,i2.2,i3.1,i3.2,i4.1,i4.2,i5.1,i5.2,i6.1,i6.2) [2,3,4,5,6,7] [] (.cell (α:=Agg 9) kk (.b 1) .nil))
theorem ZdE {p0 r} (h:Zap n p0 = some r):Con prog 46 [L ga0 p0 gc1] [] [lR ga0 p0 gc1] fun (i:Oh)=>([L i.1 r i.2],[OD (ownP 75 3) 29 (L i.1 r i.2) r],[]):=by
 unfold Zap at h
 refine En func46 rfl ntmps46 fun _ fr w c=>?_
 refine P0 [] c fun _ c=>T0 (Fp [] 2 c fun _ c=>Bd h fun x1 hx1 h=>Emkd 29 (⟨0,⟨none,0,0⟩,⟨none,0,0⟩,⟨none,0,0⟩,0,⟨none,0,0⟩,0,0,⟨none,0,0⟩,⟨none,0,0⟩⟩ : Rw.Path) (fun w=>Zjb 75 3 w) c hx1 fun a1 c1 _ _ c=>?_)
 refine Fp [] 1 c fun _ c=>E0 (S0 (P0 [] c fun _ c=>Bd h fun rl1 hit1 h=>Lp (fun s1  (i:List Rw.Path)=>([(0,L ga0 p0 gc1),(3,L a1 x1 c1),(9,I (len p0)),(10,I s1.1)],fun Γ=>(Γ.set 0 (sl29 (L a1 x1 c1) (i))).set 1 (HP.all (ownP 75 3) (i) s1.2),[])) (fun  (i:List Rw.Path)=>([(3,L a1 x1 c1)],fun Γ=>(Γ.set 0 (sl29 (L a1 x1 c1) (i))).set 1 (HP.all (ownP 75 3) (i) rl1),[])) hit1 c ((List.replicate (List.length x1) (⟨0,⟨none,0,0⟩,⟨none,0,0⟩,⟨none,0,0⟩,0,⟨none,0,0⟩,0,0,⟨none,0,0⟩,⟨none,0,0⟩⟩ : Rw.Path))) (c.rk [0,1] [0]) (fun s1 q1 i1 _ _ c h hr1=>?_) fun k1 _ _ c=>?_))
 refine P0 [] c fun _ c=>S0 (I0 c h (fun h=>?_) fun h=>?_)
 refine K0 (S0 (wp_block (P0 [] c fun _ c=>T1 (Fp [] 4 c fun _ c=>Bd h fun x2 hx2 h=>Eem c (.f 0) hx2 fun _ u1 _ c=>?_))))
 obtain ⟨a2,c2,a3,c3,a4,c4,a5,c5,a6,c6,a7,c7,rfl,c⟩:=c.o_Path 1
 refine Bd h fun x3 hx3 h=>Cb c (ZdY hx3) ⟨.f 2,.f 3,.f 4,.f 5,.f 6,.f 7,tt⟩ call34 fun i2 _ _ c=>?_
 replace c:=c.nf
 replace c:=c.pack (H:=ownP 75 3 (Rw.Path.mk x3.Pc (hd i2.1 x3.Regs i2.2.1) (hd i2.p2 x3.Mem i2.p3) (hd i2.p4 x3.Stack i2.p5) x3.In (hd i2.p6 x3.Out i2.p7) x3.Code x3.Steps (hd i2.p8 x3.Cond i2.p9) (hd i2.p10 x3.Turns i2.q11)) x3) [OD (ownT 75) 75 (L i2.1 x3.Regs i2.2.1) x3.Regs,OD (ownT 75) 75 (L i2.p2 x3.Mem i2.p3) x3.Mem,sl3 (L i2.p4 x3.Stack i2.p5) x3.Stack,OD (ownT 75) 75 (L i2.p6 x3.Out i2.p7) x3.Out,OD (ownT 75) 75 (L i2.p8 x3.Cond i2.p9) x3.Cond,sl3 (L i2.p10 x3.Turns i2.q11) x3.Turns] [2,3,4,5,6,7] (fun A h=>Zg3 (x:=x3) h)
 refine Bd h fun x4 hx4 h=>Esetd 0 1 2 c hx4 fun _ _ _ c=>?_
 refine E1 (bk (tn (P1 [] c fun _ c=>Nx h ((List.set i1 (s1.1).toNat (Rw.Path.mk x3.Pc (hd i2.1 x3.Regs i2.2.1) (hd i2.p2 x3.Mem i2.p3) (hd i2.p4 x3.Stack i2.p5) x3.In (hd i2.p6 x3.Out i2.p7) x3.Code x3.Steps (hd i2.p8 x3.Cond i2.p9) (hd i2.p10 x3.Turns i2.q11)))) (c.rk [0,1] [0]))))
 refine wp_exit (te (te (be ?_)))
 obtain rfl:=hr1 _ (sk h)
 exact tn ⟨(i1),c.rk [0,1] [0]⟩
 refine P0 [] c fun _ c=>?_
 replace c:=c.odc 0 1
 obtain rfl:=sj h
 obtain ⟨he1,c⟩:=c.releno 0
 replace c:=c.eqs (v:=L a1 x1 c1) (u:=L a1 rl1 c1) 2 (by simp only [L,he1])
 exact wp_ret (Rt c (a1,c1) [0] [])
theorem Zci {p0 p1 r} (h:XT n p0 p1 = some r):Con prog 20 [gV p0 ga0 gc1,pV p1 ga2 gc3 ga4 gc5 ga6 gc7 ga8 gc9 ga10 gc11 ga12 gc13] [] [lR ga0 p0.Code gc1,lR ga2 p1.Regs gc3,lR ga4 p1.Mem gc5,lR ga6 p1.Stack gc7,lR ga8 p1.Out gc9,lR ga10 p1.Cond gc11,lR ga12 p1.Turns gc13,TBf prog] fun (i:Oh)=>([L i.1 r i.2],[OD (ownP 75 3) 29 (L i.1 r i.2) r],[]):=by
 unfold XT at h
 refine En func20 rfl ntmps20 fun _ fr w c=>?_
 refine T0 (Ebx (gC p0 ga0 gc1) c fun b1 _ _ c=>?_)
 refine Ebx (pC p1 ga2 gc3 ga4 gc5 ga6 gc7 ga8 gc9 ga10 gc11 ga12 gc13) c fun b2 _ _ c=>?_
 refine Fp [] 1 c fun _ c=>E0 (S0 (T0 (Fp [(0,0),(1,1)] 2 c fun _ c=>Bd h fun x1 hx1 h=>Cb c (ZfA hx1) ⟨.f 0,.f 1,.f 2,.f 3,.f 4,.f 5,.f 6,tt⟩ call45 fun _ _ _ c=>?_)))
 refine Fp [] 1 c fun _ c=>E0 (I0 c h (fun h=>?_) fun h=>?_)
 refine P0 [] c fun _ c=>?_
 replace c:=c.nilo (ownP 75 3) 29
 cases h
 exact wp_ret (tr (Rt c (none,0) [2] []))
 refine K0 (T0 (Fp [(0,0),(1,1)] 2 c fun _ c=>Bd h fun x2 hx2 h=>Cg c (Zf8 hx2) ⟨.f 0,.f 1,.f 2,.f 3,.f 4,.f 5,.f 6,.f 7,tt⟩ call47 fun i1 _ _ c=>?_))
 refine Bd h fun x3 hx3 h=>Cb c (ZdE hx3) ⟨.f 8,tt⟩ call46 fun i2 _ _ c=>?_
 refine Fp [] 1 c fun _ c=>E0 ?_
 obtain rfl:=sj h
 exact wp_ret (Rt c (i2.1,i2.2) [2] [])
theorem Zb8 (n:Nat):(∀ {p0 p1 ga0 gc1 ga2 gc3 r} (h:Zaj n p0 p1 = some r),C0 65 [tV p0 ga0 gc1,tV p1 ga2 gc3] [lR ga0 p0.Kids gc1,lR ga2 p1.Kids gc3] (.bool r)) ∧
    (∀ {p0 p1 ga0 gc1 ga2 gc3 r} (h:Yu n p0 p1 = some r),C0 35 [L ga0 p0 gc1,L ga2 p1 gc3] [lR ga0 p0 gc1,lR ga2 p1 gc3] (.bool r)):=by
 induction n with
 | zero=>exact ⟨by intro p0 p1 ga0 gc1 ga2 gc3 r h; simp [Zaj] at h,by intro p0 p1 ga0 gc1 ga2 gc3 r h; simp [Yu] at h⟩
 | succ n ih=>
 obtain ⟨ih0,ih1⟩:=ih
 refine ⟨?_,?_⟩
 · intro p0 p1 ga0 gc1 ga2 gc3 r h
   rw [Zaj] at h
   refine En func65 rfl ntmps65 fun _ fr w c=>?_
   refine T0 (Ebx (tC p0 ga0 gc1) c fun b1 _ _ c=>?_)
   refine Ebx (tC p1 ga2 gc3) c fun b2 _ _ c=>?_
   refine Fp [] 1 c fun _ c=>E0 (S0 (P0 [(1,0),(3,1)] c fun _ c=>I0 c h (fun h=>P0 [] c fun _ c=>rE) fun h=>?_))
   refine K0 (S0 (P0 [(1,0),(3,1)] c fun _ c=>I0 c h (fun h=>P0 [] c fun _ c=>rE) fun h=>?_))
   refine K0 (S0 (P0 [(1,0),(3,1)] c fun _ c=>I0 c h (fun h=>P0 [] c fun _ c=>rE) fun h=>?_))
   refine K0 (S0 (P0 [(1,0),(3,1)] c fun _ c=>I0 c h (fun h=>P0 [] c fun _ c=>rE) fun h=>?_))
   refine K0 (S0 (T0 (Fp [(1,0),(3,1)] 4 c fun _ c=>Bd h fun x1 hx1 h=>Cb c (ih1 hx1) ⟨.f 0,.f 1,tt⟩ call35 fun _ _ _ c=>?_)))
   exact Fp [] 1 c fun _ c=>E0 (I0 c h (fun h=>P0 [] c fun _ c=>rE) fun h=>K0 (P0 [] c fun _ c=>rE))
 · intro p0 p1 ga0 gc1 ga2 gc3 r h
   rw [Yu] at h
   refine En func35 rfl ntmps35 fun _ fr w c=>?_
   refine P0 [] c fun _ c=>S0 (P0 [] c fun _ c=>I0 c h (fun h=>P0 [] c fun _ c=>rE) fun h=>?_)
   refine K0 (S0 (P0 [] c fun _ c=>Bd h fun rl1 hit1 h=>?_))
   have hk1:=h
   refine LpR (fun s1  (_:Unit)=>([(0,L ga0 p0 gc1),(1,L ga2 p1 gc3),(5,I s1)],id,[])) (fun s  (_:Unit)=>([],id,[])) hit1 c () (c.rk [] [0,1]) (fun s1 q1 _ _ _ c h hr1=>?_) fun s1r _ _ _ hrl c=>?_
   refine S0 (P0 [] c fun _ c=>I0 c h (fun h=>?_) fun h=>?_)
   refine K0 (S0 (wp_block (Bd h fun x1 hx1 h=>?_)))
   obtain ⟨ep1,u1,c⟩:=c.elp (.f 0) hx1
   obtain ⟨a1,c1,rfl,c⟩:=c.o_Term 3
   refine Bd h fun x2 hx2 h=>?_
   obtain ⟨ep2,u2,c⟩:=c.elp (.f 1) hx2
   obtain ⟨a2,c2,rfl,c⟩:=c.o_Term 6
   refine Bd h fun x3 hx3 h=>S0 (rZ [(2,.eq (.pointer (some ep1))),(3,.eq (tV x1 a1 c1)),(6,.eq (.pointer (some ep2))),(7,.eq (tV x2 a2 c2)),(8,.eq (.bool x3))] [] mix c ⟨Nie c 2,Nle c 2,Nie c 5,Nle c 5,Ncl c (kN (ih0 hx3)) ⟨.f 4,.f 7,tt⟩ call65,tt⟩ fun _ _ c=>I0 c h (fun h=>?_) fun h=>?_)
   refine P0 [] c fun _ c=>?_
   obtain rfl:=hr1 _ (sk h)
   obtain rfl:=sj hk1
   exact wp_ret (br (tr (tr (br (tr (Rt c () [] []))))))
   refine K1 (bk (tn (P1 [] c fun _ c=>Nx h () (c.rk [] [0,1]))))
   refine wp_exit (te (te (be ?_)))
   obtain rfl:=hr1 _ (sk h)
   exact tn ⟨_,(),rfl,c.rk [] [0,1]⟩
   subst hrl
   exact P0 [] c fun _ c=>rE
theorem ZaC {n:Nat}:∀ {p0 p1 ga0 gc1 ga2 gc3 r} (h:Yu n p0 p1 = some r),C0 35 [L ga0 p0 gc1,L ga2 p1 gc3] [lR ga0 p0 gc1,lR ga2 p1 gc3] (.bool r):=(Zb8 n).2
theorem ZcE {p0 p1 r} (h:Zbv n p0 p1 = some r):C0 12 [L ga0 p0 gc1,L ga2 p1 gc3] [lR ga0 p0 gc1,lR ga2 p1 gc3] (.bool r):=by
 unfold Zbv at h
 refine En func12 rfl ntmps12 fun _ fr w c=>?_
 refine P0 [] c fun _ c=>S0 (P0 [] c fun _ c=>I0 c h (fun h=>P0 [] c fun _ c=>rE) fun h=>?_)
 refine K0 (S0 (P0 [] c fun _ c=>Bd h fun rl1 hit1 h=>?_))
 have hk1:=h
 refine LpR (fun s1  (_:Unit)=>([(0,L ga0 p0 gc1),(1,L ga2 p1 gc3),(5,I s1)],id,[])) (fun s  (_:Unit)=>([],id,[])) hit1 c () (c.rk [] [0,1]) (fun s1 q1 _ _ _ c h hr1=>?_) fun s1r _ _ _ hrl c=>?_
 refine S0 (P0 [] c fun _ c=>I0 c h (fun h=>?_) fun h=>?_)
 refine K0 (S0 (wp_block (Bd h fun x1 hx1 h=>Bd h fun x2 hx2 h=>S0 (rZ [(2,Pd.el (x1:Int)),(3,.eq (I x1)),(6,Pd.el (x2:Int)),(7,.eq (I x2))] [] mix c ⟨Nid c (.f 0) (kN hx1),Nld c 2 (q:=x1) (atN 2),Nid c (.f 1) (kN hx2),Nld c 6 (q:=x2) (atN 6),tt⟩ fun _ _ c=>I0 c h (fun h=>?_) fun h=>?_))))
 refine P0 [] c fun _ c=>?_
 obtain rfl:=hr1 _ (sk h)
 obtain rfl:=sj hk1
 exact wp_ret (br (tr (tr (br (tr (Rt c () [] []))))))
 refine K1 (bk (tn (P1 [] c fun _ c=>Nx h () (c.rk [] [0,1]))))
 refine wp_exit (te (te (be ?_)))
 obtain rfl:=hr1 _ (sk h)
 exact tn ⟨_,(),rfl,c.rk [] [0,1]⟩
 subst hrl
 exact P0 [] c fun _ c=>rE
theorem ZcR {p0 p1 r} (h:Zak n p0 p1 = some r):C0 10 [pV p0 ga0 gc1 ga2 gc3 ga4 gc5 ga6 gc7 ga8 gc9 ga10 gc11,pV p1 ga12 gc13 ga14 gc15 ga16 gc17 ga18 gc19 ga20 gc21 ga22 gc23] [lR ga0 p0.Regs gc1,lR ga2 p0.Mem gc3,lR ga4 p0.Stack gc5,lR ga6 p0.Out gc7,lR ga8 p0.Cond gc9,lR ga10 p0.Turns gc11,lR ga12 p1.Regs gc13,lR ga14 p1.Mem gc15,lR ga16 p1.Stack gc17,lR ga18 p1.Out gc19,lR ga20 p1.Cond gc21,lR ga22 p1.Turns gc23] (.bool r):=by
 unfold Zak at h
 refine En func10 rfl ntmps10 fun _ fr w c=>?_
 refine T0 (Ebx (pC p0 ga0 gc1 ga2 gc3 ga4 gc5 ga6 gc7 ga8 gc9 ga10 gc11) c fun b1 _ _ c=>?_)
 refine Ebx (pC p1 ga12 gc13 ga14 gc15 ga16 gc17 ga18 gc19 ga20 gc21 ga22 gc23) c fun b2 _ _ c=>?_
 refine Fp [] 1 c fun _ c=>E0 (S0 (P0 [(1,0),(3,1)] c fun _ c=>I0 c h (fun h=>P0 [] c fun _ c=>rE) fun h=>?_))
 refine K0 (S0 (T0 (Fp [(1,0),(3,1)] 4 c fun _ c=>Bd h fun x1 hx1 h=>Cb c (ZaC hx1) ⟨.f 0,.f 6,tt⟩ call35 fun _ _ _ c=>?_)))
 refine Fp [] 1 c fun _ c=>E0 (I0 c h (fun h=>P0 [] c fun _ c=>rE) fun h=>?_)
 refine K0 (S0 (T0 (Fp [(1,0),(3,1)] 4 c fun _ c=>Bd h fun x2 hx2 h=>Cb c (ZaC hx2) ⟨.f 1,.f 7,tt⟩ call35 fun _ _ _ c=>?_)))
 refine Fp [] 1 c fun _ c=>E0 (I0 c h (fun h=>P0 [] c fun _ c=>rE) fun h=>?_)
 refine K0 (S0 (T0 (Fp [(1,0),(3,1)] 4 c fun _ c=>Bd h fun x3 hx3 h=>Cb c (ZcE hx3) ⟨.f 2,.f 8,tt⟩ call12 fun _ _ _ c=>?_)))
 refine Fp [] 1 c fun _ c=>E0 (I0 c h (fun h=>P0 [] c fun _ c=>rE) fun h=>?_)
 refine K0 (S0 (P0 [(1,0),(3,1)] c fun _ c=>I0 c h (fun h=>P0 [] c fun _ c=>rE) fun h=>?_))
 refine K0 (S0 (T0 (Fp [(1,0),(3,1)] 4 c fun _ c=>?_)))
 replace c:=c.ng
 refine Bd h fun x4 hx4 h=>Cb c (ZaC hx4) ⟨.f 3,.f 9,tt⟩ call35 fun _ _ _ c=>?_
 refine Fp [] 1 c fun _ c=>E0 (I0 c h (fun h=>P0 [] c fun _ c=>rE) fun h=>?_)
 refine K0 (S0 (P0 [(1,0),(3,1)] c fun _ c=>I0 c h (fun h=>P0 [] c fun _ c=>rE) fun h=>?_))
 refine K0 (S0 (P0 [(1,0),(3,1)] c fun _ c=>I0 c h (fun h=>P0 [] c fun _ c=>rE) fun h=>?_))
 refine K0 (S0 (T0 (Fp [(1,0),(3,1)] 4 c fun _ c=>Bd h fun x5 hx5 h=>Cb c (ZaC hx5) ⟨.f 4,.f 10,tt⟩ call35 fun _ _ _ c=>?_)))
 refine Fp [] 1 c fun _ c=>E0 (I0 c h (fun h=>P0 [] c fun _ c=>rE) fun h=>?_)
 refine K0 (S0 (T0 (Fp [(1,0),(3,1)] 4 c fun _ c=>Bd h fun x6 hx6 h=>Cb c (ZcE hx6) ⟨.f 5,.f 11,tt⟩ call12 fun _ _ _ c=>?_)))
 exact Fp [] 1 c fun _ c=>E0 (I0 c h (fun h=>P0 [] c fun _ c=>rE) fun h=>K0 (P0 [] c fun _ c=>rE))
theorem Zb6 {p0 p1 r} (h:XL n p0 p1 = some r):C0 21 [L ga0 p0 gc1,L ga2 p1 gc3] [lR ga0 p0 gc1,lR ga2 p1 gc3] (.bool r):=by
 unfold XL at h
 refine En func21 rfl ntmps21 fun _ fr w c=>?_
 refine P0 [] c fun _ c=>S0 (P0 [] c fun _ c=>I0 c h (fun h=>P0 [] c fun _ c=>rE) fun h=>?_)
 refine K0 (S0 (P0 [] c fun _ c=>Bd h fun rl1 hit1 h=>?_))
 have hk1:=h
 refine LpR (fun s1  (_:Unit)=>([(0,L ga0 p0 gc1),(1,L ga2 p1 gc3),(5,I s1)],id,[])) (fun s  (_:Unit)=>([],id,[])) hit1 c () (c.rk [] [0,1]) (fun s1 q1 _ _ _ c h hr1=>?_) fun s1r _ _ _ hrl c=>?_
 refine S0 (P0 [] c fun _ c=>I0 c h (fun h=>?_) fun h=>?_)
 refine K0 (S0 (wp_block (Bd h fun x1 hx1 h=>?_)))
 obtain ⟨ep1,u1,c⟩:=c.elp (.f 0) hx1
 obtain ⟨a1,c1,a2,c2,a3,c3,a4,c4,a5,c5,a6,c6,rfl,c⟩:=c.o_Path 3
 refine Bd h fun x2 hx2 h=>?_
 obtain ⟨ep2,u2,c⟩:=c.elp (.f 1) hx2
 obtain ⟨a7,c7,a8,c8,a9,c9,a10,c10,a11,c11,a12,c12,rfl,c⟩:=c.o_Path 11
 refine Bd h fun x3 hx3 h=>S0 (rZ [(2,.eq (.pointer (some ep1))),(3,.eq (pV x1 a1 c1 a2 c2 a3 c3 a4 c4 a5 c5 a6 c6)),(6,.eq (.pointer (some ep2))),(7,.eq (pV x2 a7 c7 a8 c8 a9 c9 a10 c10 a11 c11 a12 c12)),(8,.eq (.bool x3))] [] mix c ⟨Nie c 2,Nle c 2,Nie c 10,Nle c 10,Ncl c (kN (ZcR hx3)) ⟨.f 4,.f 5,.f 6,.f 7,.f 8,.f 9,.f 12,.f 13,.f 14,.f 15,.f 16,.f 17,tt⟩ call10,tt⟩ fun _ _ c=>I0 c h (fun h=>?_) fun h=>?_)
 refine P0 [] c fun _ c=>?_
 obtain rfl:=hr1 _ (sk h)
 obtain rfl:=sj hk1
 exact wp_ret (br (tr (tr (br (tr (Rt c () [] []))))))
 refine K1 (bk (tn (P1 [] c fun _ c=>Nx h () (c.rk [] [0,1]))))
 refine wp_exit (te (te (be ?_)))
 obtain rfl:=hr1 _ (sk h)
 exact tn ⟨_,(),rfl,c.rk [] [0,1]⟩
 subst hrl
 exact P0 [] c fun _ c=>rE
theorem ZfF {p0 p1 r} (h:ZbL p0 p1 = some r):C0 66 [nV p0,nV p1] [] (.bool r):=by
 unfold ZbL at h
 refine En func66 rfl ntmps66 fun _ fr w c=>?_
 refine T0 (Ebx (nC p0) c fun b1 _ _ c=>?_)
 refine Ebx (nC p1) c fun b2 _ _ c=>?_
 exact Fp [] 1 c fun _ c=>E0 (S0 (P0 [(1,0),(3,1)] c fun _ c=>I0 c h (fun h=>P0 [] c fun _ c=>rE) fun h=>K0 (S0 (P0 [(1,0),(3,1)] c fun _ c=>I0 c h (fun h=>P0 [] c fun _ c=>rE) fun h=>K0 (S0 (P0 [(1,0),(3,1)] c fun _ c=>I0 c h (fun h=>P0 [] c fun _ c=>rE) fun h=>K0 (S0 (P0 [(1,0),(3,1)] c fun _ c=>I0 c h (fun h=>P0 [] c fun _ c=>rE) fun h=>K0 (P0 [] c fun _ c=>rE)))))))))
theorem Zfw {p0 p1 r} (h:Zbu n p0 p1 = some r):C0 36 [L ga0 p0 gc1,L ga2 p1 gc3] [lR ga0 p0 gc1,lR ga2 p1 gc3] (.bool r):=by
 unfold Zbu at h
 refine En func36 rfl ntmps36 fun _ fr w c=>?_
 refine P0 [] c fun _ c=>S0 (P0 [] c fun _ c=>I0 c h (fun h=>P0 [] c fun _ c=>rE) fun h=>?_)
 refine K0 (S0 (P0 [] c fun _ c=>Bd h fun rl1 hit1 h=>?_))
 have hk1:=h
 refine LpR (fun s1  (_:Unit)=>([(0,L ga0 p0 gc1),(1,L ga2 p1 gc3),(5,I s1)],id,[])) (fun s  (_:Unit)=>([],id,[])) hit1 c () (c.rk [] [0,1]) (fun s1 q1 _ _ _ c h hr1=>?_) fun s1r _ _ _ hrl c=>?_
 refine S0 (P0 [] c fun _ c=>I0 c h (fun h=>?_) fun h=>?_)
 refine K0 (S0 (wp_block (Bd h fun x1 hx1 h=>Bd h fun x2 hx2 h=>Bd h fun x3 hx3 h=>S0 (rZ [(2,Pd.el (x1:D.Ins)),(3,.eq (nV x1)),(6,Pd.el (x2:D.Ins)),(7,.eq (nV x2)),(8,.eq (.bool x3))] [] mix c ⟨Nid c (.f 0) (kN hx1),Nld c 2 (q:=x1) (atN 2),Nid c (.f 1) (kN hx2),Nld c 6 (q:=x2) (atN 6),Ncl c (kN (ZfF hx3)) tt call66,tt⟩ fun _ _ c=>I0 c h (fun h=>?_) fun h=>?_))))
 refine P0 [] c fun _ c=>?_
 obtain rfl:=hr1 _ (sk h)
 obtain rfl:=sj hk1
 exact wp_ret (br (tr (tr (br (tr (Rt c () [] []))))))
 refine K1 (bk (tn (P1 [] c fun _ c=>Nx h () (c.rk [] [0,1]))))
 refine wp_exit (te (te (be ?_)))
 obtain rfl:=hr1 _ (sk h)
 exact tn ⟨_,(),rfl,c.rk [] [0,1]⟩
 subst hrl
 exact P0 [] c fun _ c=>rE
theorem ZdP {p0 p1 r} (h:Zag n p0 p1 = some r):C0 11 [gV p0 ga0 gc1,gV p1 ga2 gc3] [lR ga0 p0.Code gc1,lR ga2 p1.Code gc3] (.bool r):=by
 unfold Zag at h
 refine En func11 rfl ntmps11 fun _ fr w c=>?_
 refine T0 (Ebx (gC p0 ga0 gc1) c fun b1 _ _ c=>?_)
 refine Ebx (gC p1 ga2 gc3) c fun b2 _ _ c=>?_
 refine Fp [] 1 c fun _ c=>E0 (S0 (P0 [(1,0),(3,1)] c fun _ c=>I0 c h (fun h=>P0 [] c fun _ c=>rE) fun h=>?_))
 refine K0 (S0 (P0 [(1,0),(3,1)] c fun _ c=>I0 c h (fun h=>P0 [] c fun _ c=>rE) fun h=>?_))
 refine K0 (S0 (P0 [(1,0),(3,1)] c fun _ c=>I0 c h (fun h=>P0 [] c fun _ c=>rE) fun h=>?_))
 refine K0 (S0 (T0 (Fp [(1,0),(3,1)] 4 c fun _ c=>Bd h fun x1 hx1 h=>Cb c (Zfw hx1) ⟨.f 0,.f 1,tt⟩ call36 fun _ _ _ c=>?_)))
 exact Fp [] 1 c fun _ c=>E0 (I0 c h (fun h=>P0 [] c fun _ c=>rE) fun h=>K0 (P0 [] c fun _ c=>rE))
theorem ZdZ {p0 p1 gn2 r} (h:Za3 n p0 p1 = some r):Con prog 37 [.slice ga0 gn2 gc1,I p1] [sl72 (.slice ga0 gn2 gc1) p0] [] fun (_:Unit)=>([I r.1],[sl72 (.slice ga0 gn2 gc1) r.2],[]):=by
 unfold Za3 at h
 refine En func37 rfl ntmps37 fun _ fr w c=>?_
 obtain ⟨rfl,c⟩:=c.relen 0
 refine P0 [] c fun _ c=>S0 (P0 [] c fun _ c=>Bd h fun rl1 hit1 h=>Lp (fun s1  (_:Unit)=>([(0,L ga0 p0 gc1),(1,I s1.1),(5,I s1.2.1)],fun Γ=>Γ.set 0 (sl72 (L ga0 p0 gc1) s1.q2),[])) (fun  (_:Unit)=>([(1,I rl1.1)],fun Γ=>Γ.set 0 (sl72 (L ga0 p0 gc1) rl1.2),[])) hit1 c () (c.rk [0] []) (fun s1 q1 _ _ _ c h hr1=>?_) fun _ _ _ c=>?_)
 refine S0 (P0 [] c fun _ c=>I0 c h (fun h=>?_) fun h=>?_)
 refine K0 (S0 (wp_block (T0 (Fp [] 3 c fun _ c=>Bd h fun x1 hx1 h=>Bd h fun x2 hx2 h=>Esf 0 (I s1.1) c hx1 hx2 fun _ _ _ _ c=>?_))))
 refine E0 (P0 [] c fun _ c=>T0 (Fp [] 3 c fun _ c=>Bd h fun x3 hx3 h=>Bd h fun x4 hx4 h=>Esf 0 (I (w64 (s1.1 + 1))) c hx3 hx4 fun _ _ _ _ c=>?_))
 refine E0 (P0 [] c fun _ c=>T0 (Fp [] 3 c fun _ c=>Bd h fun x5 hx5 h=>Bd h fun x6 hx6 h=>Esf 0 (I (w64 ((w64 (s1.1 + 1)) + 1))) c hx5 hx6 fun _ _ _ _ c=>?_))
 refine E0 (P0 [] c fun _ c=>T0 (Fp [] 3 c fun _ c=>Bd h fun x7 hx7 h=>Bd h fun x8 hx8 h=>Esf 0 (I (w64 ((w64 ((w64 (s1.1 + 1)) + 1)) + 1))) c hx7 hx8 fun _ _ _ _ c=>?_))
 refine E0 (Tq (P1 [] c fun _ c=>bk (tn (P1 [] c fun _ c=>Nx h () (c.rk [0] [])))))
 refine wp_exit (te (te (be ?_)))
 obtain rfl:=hr1 _ (sk h)
 exact tn ⟨(),c.rk [0] []⟩
 refine P0 [] c fun _ c=>?_
 cases h
 exact wp_ret (Rt c () [0] [])
theorem Zdl {p0 p1 gn2 r} (h:X8 n p0 p1 = some r):Con prog 13 [.agg #[I p0.W,I p0.Mem,I p0.In,.slice ga0 gn2 gc1],I p1] [sl72 (.slice ga0 gn2 gc1) p0.Code] [] fun (_:Unit)=>([I r.1],[sl72 (.slice ga0 gn2 gc1) r.2.Code],[]):=by
 unfold X8 at h
 refine En func13 rfl ntmps13 fun _ fr w c=>?_
 obtain ⟨rfl,c⟩:=c.relen 0
 refine T0 (Ebx (gC p0 ga0 gc1) c fun b1 _ _ c=>?_)
 refine Fp [] 1 c fun _ c=>E0 (T0 (Fp [(1,0)] 3 c fun _ c=>Bd h fun x1 hx1 h=>Ca [0] c (ZdZ hx1) tt call37 fun _ _ _ c=>?_))
 refine Fp [] 1 c fun _ c=>E0 (P0 [] c fun _ c=>?_)
 cases h
 exact wp_ret (Rt c () [1] [])
theorem Zcv {p0 r} (h:Yc n p0 = some r):C0 67 [I p0] [] (Str.val r):=by
 unfold Yc at h
 refine En func67 rfl ntmps67 fun _ fr w c=>?_
 refine P0 [] c fun _ c=>S0 (P0 [] c fun _ c=>I0 c h (fun h=>P0 [] c fun _ c=>rE) fun h=>?_)
 refine K0 (P0 [] c fun _ c=>Bd h fun rl1 hit1 h=>S0 (Lp (fun s1  (_:Unit)=>([(0,I s1.1),(3,Str.val s1.2)],id,[])) (fun  (_:Unit)=>([(3,Str.val rl1)],id,[])) hit1 c () (c.rk [] []) (fun s1 q1 _ _ _ c h hr1=>?_) fun _ _ _ c=>?_))
 refine S0 (P0 [] c fun _ c=>I0 c h (fun h=>?_) fun h=>?_)
 refine K0 (wp_block (T0 (Fp [] 1 c fun _ c=>Bd h fun x1 hx1 h=>Erem c hx1 fun _ c=>?_)))
 refine Fp [] 2 c fun _ c=>Elt 5 ([(Byt.mk (IntKind.u8.wrap (w64 (48 + x1))))]:List Byt) c fun a1 c1 _ _ c=>?_
 refine Ebs c (.g 0) (fun _ c=>?_) Tryz.underlying109
 refine Fp [] 1 c fun _ c=>Bd h fun x2 hx2 h=>Ecat c hx2 fun _ c=>?_
 refine Fp [] 1 c fun _ c=>E0 (T1 (Fp [] 1 c fun _ c=>Bd h fun x3 hx3 h=>Equo c hx3 fun _ c=>?_))
 refine Fp [] 1 c fun _ c=>E1 (bk (tn (Nx h () (c.rk [] []))))
 refine wp_exit (te (te (be ?_)))
 obtain rfl:=hr1 _ (sk h)
 exact tn ⟨(),c.rk [] []⟩
 refine T0 (Fp [] 1 c fun _ c=>Bd h fun x4 hx4 h=>Ecat c hx4 fun _ c=>?_)
 exact Fp [] 1 c fun _ c=>E0 rE
theorem Yt {n:Nat}:∀ {p0 p1 ga0 gc1 gn2 r} (h:Z4 n p0 p1 = some r),Con prog 38 [.slice ga0 gn2 gc1,I p1] [OD (ownT 75) 75 (.slice ga0 gn2 gc1) p0] [] fun (_:Unit)=>([I r.1],[OD (ownT 75) 75 (.slice ga0 gn2 gc1) r.2],[]):=by
 induction n with
 | zero=>intro p0 p1 ga0 gc1 gn2 r h; simp [Z4] at h
 | succ n ih=>
 intro p0 p1 ga0 gc1 gn2 r h
 rw [Z4] at h
 refine En func38 rfl ntmps38 fun _ fr w c=>?_
 obtain ⟨rfl,c⟩:=c.releno 0
 refine P0 [] c fun _ c=>S0 (P0 [] c fun _ c=>Bd h fun rl1 hit1 h=>Lp (fun s1  (_:Unit)=>([(0,L ga0 p0 gc1),(1,I s1.1),(5,I s1.2.1)],fun Γ=>Γ.set 0 (OD (ownT 75) 75 (L ga0 p0 gc1) s1.q2),[])) (fun  (_:Unit)=>([(1,I rl1.1)],fun Γ=>Γ.set 0 (OD (ownT 75) 75 (L ga0 p0 gc1) rl1.2),[])) hit1 c () (c.rk [0] []) (fun s1 q1 _ _ _ c h hr1=>?_) fun _ _ _ c=>?_)
 refine S0 (P0 [] c fun _ c=>I0 c h (fun h=>?_) fun h=>?_)
 refine K0 (S0 (wp_block (T0 (Fp [] 3 c fun _ c=>Bd h fun x1 hx1 h=>?_))))
 obtain ⟨a1,c1,c⟩:=c.fo_Term 0 hx1
 refine Eohs 0 (I s1.1) (Rw.Term.mk s1.1 x1.W x1.N x1.Name (hd a1 x1.Kids c1)) c fun _ _ _ _ c=>?_
 refine E0 (P0 [] c fun _ c=>T0 (Fp [] 3 c fun _ c=>Eohs 1 (I (w64 (s1.1 + 1))) (Rw.Term.mk s1.1 (w64 (s1.1 + 1)) x1.N x1.Name (hd a1 x1.Kids c1)) c fun _ _ _ _ c=>?_))
 refine E0 (P0 [] c fun _ c=>T0 (Fp [] 3 c fun _ c=>?_))
 replace c:=c.nf
 refine Eohs 1 (I (w64 ((w64 (s1.1 + 1)) + 1))) (Rw.Term.mk s1.1 (w64 (s1.1 + 1)) (w64 ((w64 (s1.1 + 1)) + 1)) x1.Name (hd a1 x1.Kids c1)) c fun _ _ _ _ c=>?_
 refine E0 (P0 [] c fun _ c=>T0 (Fp [] 3 c fun _ c=>Bd h fun x2 hx2 h=>Cb c (Zcv hx2) tt call67 fun _ _ _ c=>?_))
 refine Eohs 1 (Str.val x2) (Rw.Term.mk s1.1 (w64 (s1.1 + 1)) (w64 ((w64 (s1.1 + 1)) + 1)) x2 (hd a1 x1.Kids c1)) c fun _ _ _ _ c=>?_
 refine E0 (P0 [] c fun _ c=>T1 (Fp [] 2 c fun _ c=>?_))
 replace c:=c.nf
 refine Eohl 1 (L a1 x1.Kids c1) c fun _ _ _ c=>?_
 refine Fp [] 1 c fun _ c=>Bd h fun x3 hx3 h=>Ca [0] c (ih hx3) tt call38 fun _ _ _ c=>?_
 refine Fp [] 1 c fun _ c=>E1 (bk (tn (P1 [] c fun _ c=>Bd h fun x4 hx4 h=>?_)))
 replace c:=c.un_Term (E:=75) (v:=L ga0 p0 gc1) (y:=(D.Term.mk s1.1 (w64 (s1.1 + 1)) (w64 ((w64 (s1.1 + 1)) + 1)) x2 x3.2)) (b:=a1) (m:=List.length x1.Kids) (cp:=c1) 0 1 hx4
 replace c:=c.nf
 exact Nx h () (c.rk [0] [])
 refine wp_exit (te (te (be ?_)))
 obtain rfl:=hr1 _ (sk h)
 exact tn ⟨(),c.rk [0] []⟩
 refine P0 [] c fun _ c=>?_
 cases h
 exact wp_ret (Rt c () [0] [])
theorem Zaw {p0 p1 gn2 r} (h:Y7 n p0 p1 = some r):Con prog 14 [.slice ga0 gn2 gc1,I p1] [sl3 (.slice ga0 gn2 gc1) p0] [] fun (_:Unit)=>([I r.1],[sl3 (.slice ga0 gn2 gc1) r.2],[]):=by
 unfold Y7 at h
 refine En func14 rfl ntmps14 fun _ fr w c=>?_
 obtain ⟨rfl,c⟩:=c.relen 0
 refine P0 [] c fun _ c=>S0 (P0 [] c fun _ c=>Bd h fun rl1 hit1 h=>Lp (fun s1  (_:Unit)=>([(0,L ga0 p0 gc1),(1,I s1.1),(5,I s1.2.1)],fun Γ=>Γ.set 0 (sl3 (L ga0 p0 gc1) s1.q2),[])) (fun  (_:Unit)=>([(1,I rl1.1)],fun Γ=>Γ.set 0 (sl3 (L ga0 p0 gc1) rl1.2),[])) hit1 c () (c.rk [0] []) (fun s1 q1 _ _ _ c h hr1=>?_) fun _ _ _ c=>?_)
 refine S0 (P0 [] c fun _ c=>I0 c h (fun h=>?_) fun h=>?_)
 refine K0 (S0 (wp_block (T0 (Fp [] 3 c fun _ c=>Bd h fun x1 hx1 h=>Eset 0 c hx1 fun _ _ _ c=>?_))))
 refine E0 (Tq (P1 [] c fun _ c=>bk (tn (P1 [] c fun _ c=>Nx h () (c.rk [0] [])))))
 refine wp_exit (te (te (be ?_)))
 obtain rfl:=hr1 _ (sk h)
 exact tn ⟨(),c.rk [0] []⟩
 refine P0 [] c fun _ c=>?_
 cases h
 exact wp_ret (Rt c () [0] [])
theorem Zeg {p0 p1 gn12 gn13 gn14 gn15 gn16 gn17 r} (h:Za4 n p0 p1 = some r):Con prog 15 [.agg #[I p0.Pc,.slice ga0 gn12 gc1,.slice ga2 gn13 gc3,.slice ga4 gn14 gc5,I p0.In,.slice ga6 gn15 gc7,I p0.Code,I p0.Steps,.slice ga8 gn16 gc9,.slice ga10 gn17 gc11],I p1] [OD (ownT 75) 75 (.slice ga0 gn12 gc1) p0.Regs,OD (ownT 75) 75 (.slice ga2 gn13 gc3) p0.Mem,sl3 (.slice ga4 gn14 gc5) p0.Stack,OD (ownT 75) 75 (.slice ga6 gn15 gc7) p0.Out,OD (ownT 75) 75 (.slice ga8 gn16 gc9) p0.Cond,sl3 (.slice ga10 gn17 gc11) p0.Turns] [] fun (_:Unit)=>([I r.1],[OD (ownT 75) 75 (.slice ga0 gn12 gc1) r.2.Regs,OD (ownT 75) 75 (.slice ga2 gn13 gc3) r.2.Mem,sl3 (.slice ga4 gn14 gc5) r.2.Stack,OD (ownT 75) 75 (.slice ga6 gn15 gc7) r.2.Out,OD (ownT 75) 75 (.slice ga8 gn16 gc9) r.2.Cond,sl3 (.slice ga10 gn17 gc11) r.2.Turns],[]):=by
 unfold Za4 at h
 refine En func15 rfl ntmps15 fun _ fr w c=>?_
 obtain ⟨rfl,c⟩:=c.releno 0
 obtain ⟨rfl,c⟩:=c.releno 1
 obtain ⟨rfl,c⟩:=c.relen 2
 obtain ⟨rfl,c⟩:=c.releno 3
 obtain ⟨rfl,c⟩:=c.releno 4
 obtain ⟨rfl,c⟩:=c.relen 5
 refine T0 (Ebx (pC p0 ga0 gc1 ga2 gc3 ga4 gc5 ga6 gc7 ga8 gc9 ga10 gc11) c fun b1 _ _ c=>?_)
 refine Fp [] 1 c fun _ c=>E0 (T0 (Fp [(1,0)] 3 c fun _ c=>Bd h fun x1 hx1 h=>Ca [0] c (Yt hx1) tt call38 fun _ _ _ c=>?_))
 refine Fp [] 1 c fun _ c=>E0 (T0 (Fp [(1,0)] 3 c fun _ c=>Bd h fun x2 hx2 h=>Ca [0] c (Yt hx2) tt call38 fun _ _ _ c=>?_))
 refine Fp [] 1 c fun _ c=>E0 (T0 (Fp [(1,0)] 3 c fun _ c=>?_))
 replace c:=c.nf
 refine Bd h fun x3 hx3 h=>Ca [0] c (Zaw hx3) tt call14 fun _ _ _ c=>?_
 refine Fp [] 1 c fun _ c=>E0 (T0 (Fp [(1,0)] 3 c fun _ c=>Bd h fun x4 hx4 h=>Ca [0] c (Yt hx4) tt call38 fun _ _ _ c=>?_))
 refine Fp [] 1 c fun _ c=>E0 (T0 (Fp [(1,0)] 3 c fun _ c=>Bd h fun x5 hx5 h=>Ca [0] c (Yt hx5) tt call38 fun _ _ _ c=>?_))
 refine Fp [] 1 c fun _ c=>E0 (T0 (Fp [(1,0)] 3 c fun _ c=>?_))
 replace c:=c.nf
 refine Bd h fun x6 hx6 h=>Ca [0] c (Zaw hx6) tt call14 fun _ _ _ c=>?_
 refine Fp [] 1 c fun _ c=>E0 (P0 [] c fun _ c=>?_)
 cases h
 exact wp_ret (Rt c () [1,2,3,4,5,6] [])
theorem ZdT {p0 p1 gn2 r} (h:Zae n p0 p1 = some r):Con prog 22 [.slice ga0 gn2 gc1,I p1] [OD (ownP 75 3) 29 (.slice ga0 gn2 gc1) p0] [] fun (_:Unit)=>([I r.1],[OD (ownP 75 3) 29 (.slice ga0 gn2 gc1) r.2],[]):=by
 unfold Zae at h
 refine En func22 rfl ntmps22 fun _ fr w c=>?_
 obtain ⟨rfl,c⟩:=c.releno 0
 refine P0 [] c fun _ c=>S0 (P0 [] c fun _ c=>Bd h fun rl1 hit1 h=>Lp (fun s1  (_:Unit)=>([(0,L ga0 p0 gc1),(1,I s1.1),(5,I s1.2.1)],fun Γ=>Γ.set 0 (OD (ownP 75 3) 29 (L ga0 p0 gc1) s1.q2),[])) (fun  (_:Unit)=>([(1,I rl1.1)],fun Γ=>Γ.set 0 (OD (ownP 75 3) 29 (L ga0 p0 gc1) rl1.2),[])) hit1 c () (c.rk [0] []) (fun s1 q1 _ _ _ c h hr1=>?_) fun _ _ _ c=>?_)
 refine S0 (P0 [] c fun _ c=>I0 c h (fun h=>?_) fun h=>?_)
 refine K0 (S0 (wp_block (T0 (Fp [] 3 c fun _ c=>Bd h fun x1 hx1 h=>?_))))
 obtain ⟨a1,c1,a2,c2,a3,c3,a4,c4,a5,c5,a6,c6,c⟩:=c.fo_Path 0 hx1
 refine Eohs 0 (I s1.1) (Rw.Path.mk s1.1 (hd a1 x1.Regs c1) (hd a2 x1.Mem c2) (hd a3 x1.Stack c3) x1.In (hd a4 x1.Out c4) x1.Code x1.Steps (hd a5 x1.Cond c5) (hd a6 x1.Turns c6)) c fun _ _ _ _ c=>?_
 refine E0 (P0 [] c fun _ c=>T0 (Fp [] 2 c fun _ c=>?_))
 replace c:=c.nf
 refine Eohl 6 (L a1 x1.Regs c1) c fun _ _ _ c=>?_
 refine Fp [] 1 c fun _ c=>?_
 replace c:=c.nf
 refine Bd h fun x2 hx2 h=>Ca [0] c (Yt hx2) tt call38 fun _ _ _ c=>?_
 refine Fp [] 1 c fun _ c=>E0 (T0 (Fp [] 2 c fun _ c=>Eohl 5 (L a2 x1.Mem c2) c fun _ _ _ c=>?_))
 refine Fp [] 1 c fun _ c=>?_
 replace c:=c.nf
 refine Bd h fun x3 hx3 h=>Ca [0] c (Yt hx3) tt call38 fun _ _ _ c=>?_
 refine Fp [] 1 c fun _ c=>E0 (T0 (Fp [] 2 c fun _ c=>Eohl 5 (L a3 x1.Stack c3) c fun _ _ _ c=>?_))
 refine Fp [] 1 c fun _ c=>?_
 replace c:=c.nf
 refine Bd h fun x4 hx4 h=>Ca [0] c (Zaw hx4) tt call14 fun _ _ _ c=>?_
 refine Fp [] 1 c fun _ c=>E0 (T0 (Fp [] 3 c fun _ c=>Eohs 5 (I x4.1) (Rw.Path.mk s1.1 (hd a1 x1.Regs c1) (hd a2 x1.Mem c2) (hd a3 x1.Stack c3) x4.1 (hd a4 x1.Out c4) x1.Code x1.Steps (hd a5 x1.Cond c5) (hd a6 x1.Turns c6)) c fun _ _ _ _ c=>?_))
 refine E0 (P0 [] c fun _ c=>T0 (Fp [] 2 c fun _ c=>?_))
 replace c:=c.nf
 refine Eohl 6 (L a4 x1.Out c4) c fun _ _ _ c=>?_
 refine Fp [] 1 c fun _ c=>?_
 replace c:=c.nf
 refine Bd h fun x5 hx5 h=>Ca [0] c (Yt hx5) tt call38 fun _ _ _ c=>?_
 refine Fp [] 1 c fun _ c=>E0 (T0 (Fp [] 3 c fun _ c=>Eohs 5 (I x5.1) (Rw.Path.mk s1.1 (hd a1 x1.Regs c1) (hd a2 x1.Mem c2) (hd a3 x1.Stack c3) x4.1 (hd a4 x1.Out c4) x5.1 x1.Steps (hd a5 x1.Cond c5) (hd a6 x1.Turns c6)) c fun _ _ _ _ c=>?_))
 refine E0 (P0 [] c fun _ c=>T0 (Fp [] 3 c fun _ c=>?_))
 replace c:=c.nf
 refine Eohs 6 (I (w64 (x5.1 + 1))) (Rw.Path.mk s1.1 (hd a1 x1.Regs c1) (hd a2 x1.Mem c2) (hd a3 x1.Stack c3) x4.1 (hd a4 x1.Out c4) x5.1 (w64 (x5.1 + 1)) (hd a5 x1.Cond c5) (hd a6 x1.Turns c6)) c fun _ _ _ _ c=>?_
 refine E0 (P0 [] c fun _ c=>T0 (Fp [] 2 c fun _ c=>?_))
 replace c:=c.nf
 refine Eohl 6 (L a5 x1.Cond c5) c fun _ _ _ c=>?_
 refine Fp [] 1 c fun _ c=>?_
 replace c:=c.nf
 refine Bd h fun x6 hx6 h=>Ca [0] c (Yt hx6) tt call38 fun _ _ _ c=>?_
 refine Fp [] 1 c fun _ c=>E0 (T1 (Fp [] 2 c fun _ c=>Eohl 5 (L a6 x1.Turns c6) c fun _ _ _ c=>?_))
 refine Fp [] 1 c fun _ c=>?_
 replace c:=c.nf
 refine Bd h fun x7 hx7 h=>Ca [0] c (Zaw hx7) tt call14 fun _ _ _ c=>?_
 refine Fp [] 1 c fun _ c=>E1 (bk (tn (P1 [] c fun _ c=>Bd h fun x8 hx8 h=>?_)))
 replace c:=c.un_Path (ET:=75) (EI:=3) (E:=29) (v:=L ga0 p0 gc1) (y:=(D.Path.mk s1.1 x2.2 x3.2 x4.2 x4.1 x5.2 x5.1 (w64 (x5.1 + 1)) x6.2 x7.2)) (b0:=a1) (m0:=List.length x1.Regs) (c0:=c1) (b1:=a2) (m1:=List.length x1.Mem) (c1:=c2) (b2:=a3) (m2:=List.length x1.Stack) (c2:=c3) (b3:=a4) (m3:=List.length x1.Out) (c3:=c4) (b4:=a5) (m4:=List.length x1.Cond) (c4:=c5) (b5:=a6) (m5:=List.length x1.Turns) (c5:=c6) 5 0 1 2 3 4 6 hx8
 replace c:=c.nf
 exact Nx h () (c.rk [0] [])
 refine wp_exit (te (te (be ?_)))
 obtain rfl:=hr1 _ (sk h)
 exact tn ⟨(),c.rk [0] []⟩
 refine P0 [] c fun _ c=>?_
 cases h
 exact wp_ret (Rt c () [0] [])
theorem XW {n:Nat}:∀ {p0 p1 ga0 gc1 r} (h:Zy n p0 p1 = some r),C0 39 [L ga0 p0 gc1,I p1] [lR ga0 p0 gc1] (I r):=by
 induction n with
 | zero=>intro p0 p1 ga0 gc1 r h; simp [Zy] at h
 | succ n ih=>
 intro p0 p1 ga0 gc1 r h
 rw [Zy] at h
 refine En func39 rfl ntmps39 fun _ fr w c=>?_
 refine P0 [] c fun _ c=>S0 (P0 [] c fun _ c=>Bd h fun rl1 hit1 h=>?_)
 have hk1:=h
 refine LpR (fun s1  (_:Unit)=>([(0,L ga0 p0 gc1),(1,I s1.1),(5,I s1.2)],id,[])) (fun s  (_:Unit)=>([(1,I s)],id,[])) hit1 c () (c.rk [] [0]) (fun s1 q1 _ _ _ c h hr1=>?_) fun s1r _ _ _ hrl c=>?_
 refine S0 (P0 [] c fun _ c=>I0 c h (fun h=>?_) fun h=>?_)
 refine K0 (S0 (wp_block (S0 (T0 (Fp [] 2 c fun _ c=>Bd h fun x1 hx1 h=>Eef c (.f 0) hx1 Zke fun _ _ _ c=>?_)))))
 refine Fp [] 2 c fun _ c=>E0 (I0 c h (fun h=>?_) fun h=>?_)
 refine P0 [] c fun _ c=>?_
 obtain rfl:=hr1 _ (sk h)
 obtain rfl:=sj hk1
 exact wp_ret (tr (br (tr (tr (br (tr (Rt c () [] [])))))))
 refine K0 (P0 [] c fun _ c=>S0 (T0 (Fp [] 2 c fun _ c=>Bd h fun x2 hx2 h=>Eef c (.f 0) hx2 ZbA fun _ _ _ c=>?_)))
 refine Fp [] 2 c fun _ c=>E0 (I0 c h (fun h=>?_) fun h=>?_)
 refine P0 [] c fun _ c=>?_
 obtain rfl:=hr1 _ (sk h)
 obtain rfl:=sj hk1
 exact wp_ret (tr (br (tr (tr (br (tr (Rt c () [] [])))))))
 refine K0 (P0 [] c fun _ c=>S0 (T0 (Fp [] 2 c fun _ c=>Bd h fun x3 hx3 h=>Eef c (.f 0) hx3 Zmh fun _ _ _ c=>?_)))
 refine Fp [] 2 c fun _ c=>E0 (I0 c h (fun h=>?_) fun h=>?_)
 refine P0 [] c fun _ c=>?_
 obtain rfl:=hr1 _ (sk h)
 obtain rfl:=sj hk1
 exact wp_ret (tr (br (tr (tr (br (tr (Rt c () [] [])))))))
 refine K0 (P0 [] c fun _ c=>S0 (Bd h fun x4 hx4 h=>?_))
 obtain ⟨ep1,u1,c⟩:=c.elp (.f 0) hx4
 obtain ⟨a1,c1,rfl,c⟩:=c.o_Term 2
 refine Bd h fun x5 hx5 h=>S0 (rZ [(2,.eq (.pointer (some ep1))),(4,.eq (Str.val x4.Name)),(6,.eq (Str.val x5))] [] mix c ⟨Nie c 1,Nlc c 1 3,Ncl c (kN (Zcv hx5)) tt call67,tt⟩ fun _ _ c=>I0 c h (fun h=>?_) fun h=>?_)
 refine P0 [] c fun _ c=>?_
 obtain rfl:=hr1 _ (sk h)
 obtain rfl:=sj hk1
 exact wp_ret (tr (br (tr (tr (br (tr (Rt c () [] [])))))))
 refine K0 (P0 [] c fun _ c=>T0 (Fp [] 2 c fun _ c=>Bd h fun x6 hx6 h=>Eemf c (.f 0) hx6 Zhx fun _ _ u2 _ c=>?_))
 obtain ⟨a2,c2,rfl⟩:=c.sl 4
 refine Fp [] 1 c fun _ c=>Bd h fun x7 hx7 h=>Cb c (ih hx7) ⟨.f 4,tt⟩ call39 fun _ _ _ c=>?_
 refine Fp [] 1 c fun _ c=>E0 (P0 [] c fun _ c=>I0 c h (fun h=>?_) fun h=>?_)
 refine P0 [] c fun _ c=>?_
 obtain rfl:=hr1 _ (sk h)
 obtain rfl:=sj hk1
 exact wp_ret (br (tr (tr (br (tr (Rt c () [] []))))))
 refine K1 (bk (tn (P1 [] c fun _ c=>Nx h () (c.rk [] [0]))))
 refine wp_exit (te (te (be ?_)))
 obtain rfl:=hr1 _ (sk h)
 exact tn ⟨_,(),rfl,c.rk [] [0]⟩
 subst hrl
 exact P0 [] c fun _ c=>rE
theorem Zcj {p0 p1 r} (h:Yn n p0 p1 = some r):C0 40 [L ga0 p0 gc1,I p1] [lR ga0 p0 gc1] (I r):=by
 unfold Yn at h
 refine En func40 rfl ntmps40 fun _ fr w c=>?_
 refine P0 [] c fun _ c=>S0 (P0 [] c fun _ c=>Bd h fun rl1 hit1 h=>?_)
 have hk1:=h
 refine LpR (fun s1  (_:Unit)=>([(0,L ga0 p0 gc1),(1,I s1.1),(5,I s1.2)],id,[])) (fun s  (_:Unit)=>([(1,I s)],id,[])) hit1 c () (c.rk [] [0]) (fun s1 q1 _ _ _ c h hr1=>?_) fun s1r _ _ _ hrl c=>?_
 refine S0 (P0 [] c fun _ c=>I0 c h (fun h=>?_) fun h=>?_)
 refine K0 (S0 (wp_block (S0 (T0 (Fp [] 2 c fun _ c=>Bd h fun x1 hx1 h=>Eel c (.f 0) hx1 fun _ _ c=>?_)))))
 refine Fp [] 2 c fun _ c=>E0 (I0 c h (fun h=>?_) fun h=>?_)
 refine P0 [] c fun _ c=>?_
 obtain rfl:=hr1 _ (sk h)
 obtain rfl:=sj hk1
 exact wp_ret (tr (br (tr (tr (br (tr (Rt c () [] [])))))))
 refine K0 (Tq (P1 [] c fun _ c=>bk (tn (P1 [] c fun _ c=>Nx h () (c.rk [] [0])))))
 refine wp_exit (te (te (be ?_)))
 obtain rfl:=hr1 _ (sk h)
 exact tn ⟨_,(),rfl,c.rk [] [0]⟩
 subst hrl
 exact P0 [] c fun _ c=>rE
theorem Zcc {p0 p1 r} (h:Xp n p0 p1 = some r):C0 23 [L ga0 p0 gc1,I p1] [lR ga0 p0 gc1] (I r):=by
 unfold Xp at h
 refine En func23 rfl ntmps23 fun _ fr w c=>?_
 refine P0 [] c fun _ c=>S0 (P0 [] c fun _ c=>Bd h fun rl1 hit1 h=>?_)
 have hk1:=h
 refine LpR (fun s1  (_:Unit)=>([(0,L ga0 p0 gc1),(1,I s1.1),(5,I s1.2)],id,[])) (fun s  (_:Unit)=>([(1,I s)],id,[])) hit1 c () (c.rk [] [0]) (fun s1 q1 _ _ _ c h hr1=>?_) fun s1r _ _ _ hrl c=>?_
 refine S0 (P0 [] c fun _ c=>I0 c h (fun h=>?_) fun h=>?_)
 refine K0 (S0 (wp_block (S0 (T0 (Fp [] 2 c fun _ c=>Bd h fun x1 hx1 h=>Eef c (.f 0) hx1 Zml fun _ _ _ c=>?_)))))
 refine Fp [] 2 c fun _ c=>E0 (I0 c h (fun h=>?_) fun h=>?_)
 refine P0 [] c fun _ c=>?_
 obtain rfl:=hr1 _ (sk h)
 obtain rfl:=sj hk1
 exact wp_ret (tr (br (tr (tr (br (tr (Rt c () [] [])))))))
 refine K0 (P0 [] c fun _ c=>T0 (Fp [] 2 c fun _ c=>Bd h fun x2 hx2 h=>Eemf c (.f 0) hx2 Zkt fun _ _ u1 _ c=>?_))
 obtain ⟨a1,c1,rfl⟩:=c.sl 1
 refine Fp [] 1 c fun _ c=>Bd h fun x3 hx3 h=>Cb c (XW hx3) ⟨.f 1,tt⟩ call39 fun _ _ _ c=>?_
 refine Fp [] 1 c fun _ c=>E0 (S0 (P0 [] c fun _ c=>I0 c h (fun h=>?_) fun h=>?_))
 refine P0 [] c fun _ c=>?_
 obtain rfl:=hr1 _ (sk h)
 obtain rfl:=sj hk1
 exact wp_ret (tr (br (tr (tr (br (tr (Rt c () [] [])))))))
 refine K0 (T0 (Fp [] 2 c fun _ c=>Bd h fun x4 hx4 h=>Eemf c (.f 0) hx4 ZjS fun _ _ u2 _ c=>?_))
 obtain ⟨a2,c2,rfl⟩:=c.sl 2
 refine Fp [] 1 c fun _ c=>Bd h fun x5 hx5 h=>Cb c (XW hx5) ⟨.f 2,tt⟩ call39 fun _ _ _ c=>?_
 refine Fp [] 1 c fun _ c=>E0 (S0 (P0 [] c fun _ c=>I0 c h (fun h=>?_) fun h=>?_))
 refine P0 [] c fun _ c=>?_
 obtain rfl:=hr1 _ (sk h)
 obtain rfl:=sj hk1
 exact wp_ret (tr (br (tr (tr (br (tr (Rt c () [] [])))))))
 refine K0 (T0 (Fp [] 2 c fun _ c=>Bd h fun x6 hx6 h=>Eemf c (.f 0) hx6 Zkw fun _ _ u3 _ c=>?_))
 obtain ⟨a3,c3,rfl⟩:=c.sl 3
 refine Fp [] 1 c fun _ c=>Bd h fun x7 hx7 h=>Cb c (Zcj hx7) ⟨.f 3,tt⟩ call40 fun _ _ _ c=>?_
 refine Fp [] 1 c fun _ c=>E0 (S0 (P0 [] c fun _ c=>I0 c h (fun h=>?_) fun h=>?_))
 refine P0 [] c fun _ c=>?_
 obtain rfl:=hr1 _ (sk h)
 obtain rfl:=sj hk1
 exact wp_ret (tr (br (tr (tr (br (tr (Rt c () [] [])))))))
 refine K0 (S0 (T0 (Fp [] 2 c fun _ c=>Bd h fun x8 hx8 h=>Eef c (.f 0) hx8 Zme fun _ _ _ c=>?_)))
 refine Fp [] 2 c fun _ c=>E0 (I0 c h (fun h=>?_) fun h=>?_)
 refine P0 [] c fun _ c=>?_
 obtain rfl:=hr1 _ (sk h)
 obtain rfl:=sj hk1
 exact wp_ret (tr (br (tr (tr (br (tr (Rt c () [] [])))))))
 refine K0 (P0 [] c fun _ c=>T0 (Fp [] 2 c fun _ c=>Bd h fun x9 hx9 h=>Eemf c (.f 0) hx9 ZjU fun _ _ u4 _ c=>?_))
 obtain ⟨a4,c4,rfl⟩:=c.sl 4
 refine Fp [] 1 c fun _ c=>Bd h fun x10 hx10 h=>Cb c (XW hx10) ⟨.f 4,tt⟩ call39 fun _ _ _ c=>?_
 refine Fp [] 1 c fun _ c=>E0 (S0 (P0 [] c fun _ c=>I0 c h (fun h=>?_) fun h=>?_))
 refine P0 [] c fun _ c=>?_
 obtain rfl:=hr1 _ (sk h)
 obtain rfl:=sj hk1
 exact wp_ret (tr (br (tr (tr (br (tr (Rt c () [] [])))))))
 refine K0 (S0 (T0 (Fp [] 2 c fun _ c=>Bd h fun x11 hx11 h=>Eef c (.f 0) hx11 Zmb fun _ _ _ c=>?_)))
 refine Fp [] 2 c fun _ c=>E0 (I0 c h (fun h=>?_) fun h=>?_)
 refine P0 [] c fun _ c=>?_
 obtain rfl:=hr1 _ (sk h)
 obtain rfl:=sj hk1
 exact wp_ret (tr (br (tr (tr (br (tr (Rt c () [] [])))))))
 refine K0 (P0 [] c fun _ c=>S0 (T0 (Fp [] 2 c fun _ c=>Bd h fun x12 hx12 h=>Eef c (.f 0) hx12 Zmi fun _ _ _ c=>?_)))
 refine Fp [] 2 c fun _ c=>E0 (I0 c h (fun h=>?_) fun h=>?_)
 refine P0 [] c fun _ c=>?_
 obtain rfl:=hr1 _ (sk h)
 obtain rfl:=sj hk1
 exact wp_ret (tr (br (tr (tr (br (tr (Rt c () [] [])))))))
 refine K0 (P0 [] c fun _ c=>T0 (Fp [] 2 c fun _ c=>Bd h fun x13 hx13 h=>Eemf c (.f 0) hx13 ZkD fun _ _ u5 _ c=>?_))
 obtain ⟨a5,c5,rfl⟩:=c.sl 5
 refine Fp [] 1 c fun _ c=>Bd h fun x14 hx14 h=>Cb c (XW hx14) ⟨.f 5,tt⟩ call39 fun _ _ _ c=>?_
 refine Fp [] 1 c fun _ c=>E0 (S0 (P0 [] c fun _ c=>I0 c h (fun h=>?_) fun h=>?_))
 refine P0 [] c fun _ c=>?_
 obtain rfl:=hr1 _ (sk h)
 obtain rfl:=sj hk1
 exact wp_ret (tr (br (tr (tr (br (tr (Rt c () [] [])))))))
 refine K0 (T0 (Fp [] 2 c fun _ c=>?_))
 replace c:=c.nf
 refine Bd h fun x15 hx15 h=>Eemf c (.f 0) hx15 ZjO fun _ _ u6 _ c=>?_
 obtain ⟨a6,c6,rfl⟩:=c.sl 6
 refine Fp [] 1 c fun _ c=>Bd h fun x16 hx16 h=>Cb c (Zcj hx16) ⟨.f 6,tt⟩ call40 fun _ _ _ c=>?_
 refine Fp [] 1 c fun _ c=>E0 (P0 [] c fun _ c=>I0 c h (fun h=>?_) fun h=>?_)
 refine P0 [] c fun _ c=>?_
 obtain rfl:=hr1 _ (sk h)
 obtain rfl:=sj hk1
 exact wp_ret (br (tr (tr (br (tr (Rt c () [] []))))))
 refine K1 (bk (tn (P1 [] c fun _ c=>Nx h () (c.rk [] [0]))))
 refine wp_exit (te (te (be ?_)))
 obtain rfl:=hr1 _ (sk h)
 exact tn ⟨_,(),rfl,c.rk [] [0]⟩
 subst hrl
 exact P0 [] c fun _ c=>rE
theorem Zcu {p0 p1 r} (h:Xw n p0 p1 = some r):C0 4 [gV p0 ga0 gc1,pV p1 ga2 gc3 ga4 gc5 ga6 gc7 ga8 gc9 ga10 gc11 ga12 gc13] [lR ga0 p0.Code gc1,lR ga2 p1.Regs gc3,lR ga4 p1.Mem gc5,lR ga6 p1.Stack gc7,lR ga8 p1.Out gc9,lR ga10 p1.Cond gc11,lR ga12 p1.Turns gc13,TBf prog] (.bool r):=by
 unfold Xw at h
 refine En func4 rfl ntmps4 fun _ fr w c=>?_
 refine T0 (Ebx (gC p0 ga0 gc1) c fun b1 _ _ c=>?_)
 refine Ebx (pC p1 ga2 gc3 ga4 gc5 ga6 gc7 ga8 gc9 ga10 gc11 ga12 gc13) c fun b2 _ _ c=>?_
 refine Fp [] 1 c fun _ c=>E0 (P0 [] c fun _ c=>T0 (Fp [(0,0)] 2 c fun _ c=>Bd h fun x1 hx1 h=>Cb c (ZdM hx1) ⟨.f 0,tt⟩ call5 fun _ _ _ c=>?_))
 refine Fp [] 1 c fun _ c=>E0 (S0 (P0 [] c fun _ c=>I0 c h (fun h=>P0 [] c fun _ c=>rE) fun h=>?_))
 replace c:=c.ng
 refine K0 (T0 (Fp [(0,1)] 2 c fun _ c=>Bd h fun x2 hx2 h=>Cb c (ZeW hx2) ⟨.f 1,.f 2,.f 3,.f 4,.f 5,.f 6,tt⟩ call17 fun _ _ _ c=>?_))
 refine Fp [] 1 c fun _ c=>E0 (S0 (P0 [] c fun _ c=>I0 c h (fun h=>P0 [] c fun _ c=>rE) fun h=>?_))
 replace c:=c.ng
 refine K0 (Bd h fun x3 hx3 h=>S0 (YU mix (rM 3 [(1,Pd.nw c.wd 1 (fun i:Oh=>(gV x3 i.1 i.2)) (fun i=>HP.sep [sl72 (L i.1 x3.Code i.2) x3.Code]))] [(0,0),(2,1)] c (fun ow=>⟨Ncn c (kN (XX hx3)) ⟨.f 0,tt⟩ call7,tt⟩) fun ow _ _ hE hc cq=>?_)))
 obtain ⟨i1,hi1⟩:=hE.nw 1 25
 replace c:=Cx.newt c hc cq [(1,25,_,_)] ⟨hi1,tt⟩
 replace c:=c.flat 2
 replace c:=c.ng
 refine Bd h fun x4 hx4 h=>Cb c (Zba hx4) ⟨.f 1,.f 2,.f 3,.f 4,.f 5,.f 6,tt⟩ call19 fun i2 _ _ c=>?_
 replace c:=c.ng
 replace c:=c.fz 2
 replace c:=c.fzo (Xb 75) 2
 replace c:=c.fzo (Xb 75) 2
 replace c:=c.fz 2
 replace c:=c.fzo (Xb 75) 2
 replace c:=c.fzo (Xb 75) 2
 replace c:=c.fz 2
 replace c:=c.ng
 refine Bd h fun x5 hx5 h=>Cg c (Zec hx5) ⟨.f 8,.f 9,.f 10,.f 11,.f 12,.f 13,.f 14,tt⟩ call18 fun i3 _ _ c=>?_
 replace c:=c.ng
 refine Fp [] 1 c fun _ c=>E0 (T0 (Fp [(0,0)] 1 c fun _ c=>Bd h fun x6 hx6 h=>Cb c (XX hx6) ⟨.f 0,tt⟩ call7 fun i4 _ _ c=>?_))
 refine Eal [I 0,I 0,I 0,L none ([]:List D.Ins) 0] c fun b3 _ _ c=>?_
 refine Ess 3 (gC x6 i4.1 i4.2) c fun _ c=>?_
 replace c:=c.ng
 refine E0 (T0 (Fp [(0,1)] 1 c fun _ c=>Bd h fun x7 hx7 h=>Cb c (Zba hx7) ⟨.f 1,.f 2,.f 3,.f 4,.f 5,.f 6,tt⟩ call19 fun i5 _ _ c=>?_))
 replace c:=c.ng
 refine Eal pZ c fun b4 _ _ c=>?_
 refine Ess 10 (pM x7 i5) c fun _ c=>?_
 refine E0 (T0 (Fp [(0,2),(1,3)] 2 c fun _ c=>?_))
 replace c:=c.ng
 refine Bd h fun x8 hx8 h=>Cb c (Zci hx8) ⟨.g 2,.go (Xb 75) 4,.go (Xb 75) 5,.g 6,.go (Xb 75) 7,.go (Xb 75) 8,.g 9,.f 7,tt⟩ call20 fun i6 _ _ c=>?_
 replace c:=c.ng
 refine Fp [] 1 c fun _ c=>E0 (S0 (T0 (Fp [] 2 c fun _ c=>Bd h fun x9 hx9 h=>Cb c (Zb6 hx9) ⟨.go (Zfu 75 3) 11,.f 15,tt⟩ call21 fun _ _ _ c=>?_)))
 refine Fp [] 1 c fun _ c=>E0 (I0 c h (fun h=>P0 [] c fun _ c=>rE) fun h=>?_)
 replace c:=c.ng
 refine K0 (S0 (Bd h fun x10 hx10 h=>Bd h fun x11 hx11 h=>S0 (Jn (fun _:Unit=>([(2,B b1 0),(3,B b2 0),(6,L i3.1 x5 i3.2),(7,B b3 0),(8,B b4 0),(9,L i6.1 x8 i6.2),(44,.bool (!x11))],id,[])) c ?_ fun _ _ _ c=>?_)))
 refine As mix c fun _ c=>?_
 replace c:=Cx.frs [(2,B b1 0),(3,B b2 0),(6,L i3.1 x5 i3.2),(7,B b3 0),(8,B b4 0),(9,L i6.1 x8 i6.2)] c
 refine Dq (fun _:Unit=>([(2,B b1 0),(3,B b2 0),(6,L i3.1 x5 i3.2),(7,B b3 0),(8,B b4 0),(9,L i6.1 x8 i6.2),(43,.bool x11)],id,[])) (bN 5 15) (fun _=>[(4,44,.bool (!x11))]) c (fun _=>?_) fun hd2=>?_
 refine qnE ⟨qP [],tt⟩ fun _ _ c=>?_
 exact nN () (c.rk (rg 12) (rg 16))
 refine Dq (fun i:Oh=>([(2,B b1 0),(3,B b2 0),(6,L i3.1 x5 i3.2),(7,B b3 0),(8,B b4 0),(9,L i6.1 x8 i6.2),(42,gV x10 i.1 i.2)],fun Γ=>Γ ++ [sl72 (L i.1 x10.Code i.2) x10.Code],[])) (bN 5 6) (fun i=>[(0,40,gV x6 i4.1 i4.2)]) c (fun i8=>?_) fun hd1=>?_
 obtain ⟨a1,c1⟩:=i8
 refine qn [3] ⟨qP [(0,2)],tt⟩ ⟨fun _ _ c=>?_,tt⟩
 refine Zf _ rfl rfl ?_
 replace c:=c.ng
 refine Cb c (ZdP hx11) ⟨.g 2,.g 12,tt⟩ call11 fun _ _ _ c=>?_
 refine E0 (nQ hd2 () (c.rk (rg 12) (rg 16)))
 refine q0 (qs:=[(0,40,gV x6 i4.1 i4.2),(1,41,gV p0 ga0 gc1)]) c (qn [2] ⟨qP [(0,2)],qP [(0,0)],tt⟩ ⟨fun _ _ c=>?_,tt⟩)
 refine Zf _ rfl rfl ?_
 replace c:=c.ng
 replace c:=c.ng
 refine Cb c (XX hx10) ⟨.f 0,tt⟩ call7 fun i7 _ _ c=>?_
 refine E0 (nQ hd1 (i7.1,i7.2) (c.rk (rg 13) (rg 16)))
 refine I0 c h (fun h=>P0 [] c fun _ c=>rE) fun h=>?_
 replace c:=c.ng
 refine K0 (S0 (Bd h fun x12 hx12 h=>Bd h fun x13 hx13 h=>S0 (Jn (fun _:Unit=>([(2,B b1 0),(3,B b2 0),(6,L i3.1 x5 i3.2),(7,B b3 0),(8,B b4 0),(9,L i6.1 x8 i6.2),(49,.bool (!x13))],id,[])) c ?_ fun _ _ _ c=>?_)))
 refine As mix c fun _ c=>?_
 replace c:=Cx.frs [(2,B b1 0),(3,B b2 0),(6,L i3.1 x5 i3.2),(7,B b3 0),(8,B b4 0),(9,L i6.1 x8 i6.2)] c
 refine Dq (fun _:Unit=>([(2,B b1 0),(3,B b2 0),(6,L i3.1 x5 i3.2),(7,B b3 0),(8,B b4 0),(9,L i6.1 x8 i6.2),(48,.bool x13)],id,[])) (bN 5 15) (fun _=>[(4,49,.bool (!x13))]) c (fun _=>?_) fun hd4=>?_
 refine qnE ⟨qP [],tt⟩ fun _ _ c=>?_
 exact nN () (c.rk (rg 12) (rg 16))
 refine Dq (fun i:Hp=>([(2,B b1 0),(3,B b2 0),(6,L i3.1 x5 i3.2),(7,B b3 0),(8,B b4 0),(9,L i6.1 x8 i6.2),(47,pJ x12 i)],fun Γ=>Γ ++ [OD (ownT 75) 75 (L i.1 x12.Regs i.2.1) x12.Regs,OD (ownT 75) 75 (L i.p2 x12.Mem i.p3) x12.Mem,sl3 (L i.p4 x12.Stack i.p5) x12.Stack,OD (ownT 75) 75 (L i.p6 x12.Out i.p7) x12.Out,OD (ownT 75) 75 (L i.p8 x12.Cond i.p9) x12.Cond,sl3 (L i.p10 x12.Turns i.q11) x12.Turns],[])) (bN 5 6) (fun i=>[(0,45,pJ x7 i5)]) c (fun i10=>?_) fun hd3=>?_
 obtain ⟨a2,c2,a3,c3,a4,c4,a5,c5,a6,c6,a7,c7⟩:=i10
 refine qn [3] ⟨qP [(0,3)],tt⟩ ⟨fun _ _ c=>?_,tt⟩
 refine Zf _ rfl rfl ?_
 replace c:=c.ng
 refine Cb c (ZcR hx13) ⟨.go (Xb 75) 4,.go (Xb 75) 5,.g 6,.go (Xb 75) 7,.go (Xb 75) 8,.g 9,.go (Xb 75) 12,.go (Xb 75) 13,.g 14,.go (Xb 75) 15,.go (Xb 75) 16,.g 17,tt⟩ call10 fun _ _ _ c=>?_
 refine E0 (nQ hd4 () (c.rk (rg 12) (rg 16)))
 refine q0 (qs:=[(0,45,pJ x7 i5),(1,46,pV p1 ga2 gc3 ga4 gc5 ga6 gc7 ga8 gc9 ga10 gc11 ga12 gc13)]) c (qn [2] ⟨qP [(0,3)],qP [(0,1)],tt⟩ ⟨fun _ _ c=>?_,tt⟩)
 refine Zf _ rfl rfl ?_
 replace c:=c.ng
 refine Cb c (Zba hx12) ⟨.f 1,.f 2,.f 3,.f 4,.f 5,.f 6,tt⟩ call19 fun i9 _ _ c=>?_
 refine E0 (nQ hd3 (i9.1,i9.2.1,i9.p2,i9.p3,i9.p4,i9.p5,i9.p6,i9.p7,i9.p8,i9.p9,i9.p10,i9.q11) (c.rk (rg 18) (rg 16)))
 refine I0 c h (fun h=>P0 [] c fun _ c=>rE) fun h=>?_
 replace c:=c.ng
 refine K0 (P0 [] c fun _ c=>T0 (Fp [(0,2)] 2 c fun _ c=>Bd h fun x14 hx14 h=>Ca [2] c (Zdl hx14) tt call13 fun _ _ _ c=>?_))
 replace c:=c.ng
 refine Fp [] 1 c fun _ c=>E0 (T0 (Fp [(0,3)] 2 c fun _ c=>Bd h fun x15 hx15 h=>Ca [3,4,5,6,7,8] c (Zeg hx15) tt call15 fun _ _ _ c=>?_))
 replace c:=c.ng
 refine Fp [] 1 c fun _ c=>E0 (S0 (Bd h fun x16 hx16 h=>S0 (rZ [(5,.eq (.bool x16))] [] mix c ⟨Ncl c (fun hg=>Zb6 (iteF (gcF hg) hx16)) ⟨.go (Zfu 75 3) 4,.f 15,tt⟩ call21,tt⟩ fun _ _ c=>I0 c h (fun h=>?_) fun h=>?_)))
 exact P0 [] c fun _ c=>rE
 refine K0 (P0 [] c fun _ c=>T0 (Fp [] 2 c fun _ c=>?_))
 replace c:=c.ng
 refine Bd h fun x17 hx17 h=>Ca [4] c (ZdT hx17) tt call22 fun _ _ _ c=>?_
 refine Fp [] 1 c fun _ c=>E0 (P0 [] c fun _ c=>T0 (Fp [] 2 c fun _ c=>?_))
 obtain ⟨he1,c⟩:=c.releno 11
 replace c:=c.eqs (v:=L i6.1 x8 i6.2) (u:=L i6.1 x17.2 i6.2) 9 (by simp only [L,he1])
 replace c:=c.eqs (v:=L i6.1 x8 i6.2) (u:=L i6.1 x17.2 i6.2) 67 (by simp only [L,he1])
 replace c:=c.ng
 refine Bd h fun x18 hx18 h=>Cb c (Zcc hx18) ⟨.go (Zfu 75 3) 11,tt⟩ call23 fun _ _ _ c=>?_
 refine Fp [] 1 c fun _ c=>E0 (S0 (P0 [] c fun _ c=>I0 c h (fun h=>P0 [] c fun _ c=>rE) fun h=>?_))
 refine K0 (S0 (P0 [] c fun _ c=>I0 c h (fun h=>P0 [] c fun _ c=>rE) fun h=>?_))
 replace c:=c.ng
 refine K0 (Bd h fun x19 hx19 h=>S0 (YU mix (rM 3 [(1,Pd.nw c.wd 1 (fun i:Oh=>(gV x19 i.1 i.2)) (fun i=>HP.sep [sl72 (L i.1 x19.Code i.2) x19.Code]))] [(0,0),(2,1)] c (fun ow=>⟨Ncn c (kN (XX hx19)) ⟨.f 0,tt⟩ call7,tt⟩) fun ow _ _ hE hc cq=>?_)))
 obtain ⟨i11,hi11⟩:=hE.nw 1 76
 replace c:=Cx.newt c hc cq [(1,76,_,_)] ⟨hi11,tt⟩
 replace c:=c.flat 12
 replace c:=c.ng
 refine Bd h fun x20 hx20 h=>Cb c (Zba hx20) ⟨.f 1,.f 2,.f 3,.f 4,.f 5,.f 6,tt⟩ call19 fun i12 _ _ c=>?_
 replace c:=c.ng
 refine Bd h fun x21 hx21 h=>Cb c (Zci hx21) ⟨.g 12,.go (Xb 75) 13,.go (Xb 75) 14,.g 15,.go (Xb 75) 16,.go (Xb 75) 17,.g 18,.f 7,tt⟩ call20 fun i13 _ _ c=>?_
 refine Fp [] 1 c fun _ c=>E0 (S0 (T0 (Fp [] 2 c fun _ c=>?_)))
 replace c:=c.ng
 refine Bd h fun x22 hx22 h=>Cb c (Zb6 hx22) ⟨.go (Zfu 75 3) 19,.f 15,tt⟩ call21 fun _ _ _ c=>?_
 refine Fp [] 1 c fun _ c=>E0 (I0 c h (fun h=>P0 [] c fun _ c=>rE) fun h=>?_)
 replace c:=c.ng
 refine K0 (P0 [] c fun _ c=>T0 (Fp [] 2 c fun _ c=>Bd h fun x23 hx23 h=>Cb c (Zcc hx23) ⟨.go (Zfu 75 3) 11,tt⟩ call23 fun _ _ _ c=>?_))
 exact Fp [] 1 c fun _ c=>E0 (S0 (P0 [] c fun _ c=>I0 c h (fun h=>P0 [] c fun _ c=>rE) fun h=>K0 (S0 (P0 [] c fun _ c=>I0 c h (fun h=>P0 [] c fun _ c=>rE) fun h=>K0 (P0 [] c fun _ c=>rE)))))
end Go.Proofs.YtginipeibmnikaaGreatDoor
