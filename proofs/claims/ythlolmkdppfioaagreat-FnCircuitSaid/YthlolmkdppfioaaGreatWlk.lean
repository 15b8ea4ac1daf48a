/- The walks, printed by a program. -/
import Derived.Test.YthlolmkdppfioaaGreatWlkA
set_option linter.unusedVariables false
set_option linter.unusedSimpArgs false
set_option maxRecDepth 100000
set_option maxHeartbeats 40000000
namespace Go.Proofs.YthlolmkdppfioaaGreat
open Go.GL Go.Maps Go.WideMaps Tryz
variable {n:Nat} {ga0 ga1 ga2 ga4 ga6:Option Addr} {gc1 gc2 gc3 gc5 gc7:Nat}
theorem Zan {p0 p1 p2 p3 gb0 gn3 r} (h:ZJ n p0 p1 p2 p3 = some r):Con prog 85 [B gb0 0,I p1,L ga4 p2 gc5,L ga6 p3 gc7] [BX gb0 81 [I p0.c.Inputs,.slice ga1 gn3 gc2,.bool p0.full],sl84 (.slice ga1 gn3 gc2) p0.c.Gates] [lR ga4 p2 gc5,lR ga6 p3 gc7] fun (i:Ob Oh)=>([L i.1 r.1 i.2.1],[BX gb0 81 [I r.2.c.Inputs,L i.p2 r.2.c.Gates i.q3,.bool r.2.full],sl84 (L i.p2 r.2.c.Gates i.q3) r.2.c.Gates],[lR i.1 r.1 i.2.1]):=by
 unfold ZJ at h
 refine En func85 rfl ntmps85 fun _ fr w c=>?_
 obtain ⟨rfl,c⟩:=c.relen 1
 refine P0 [] c fun _ c=>T0 (Elt 3 ([]:List Int) c fun a1 c1 _ _ c=>?_)
 refine Fp [] 1 c fun _ c=>E0 (S0 (P0 [] c fun _ c=>wp_block (P0 [] c fun _ c=>I0 c h (fun h=>?_) fun h=>?_)))
 refine T1 (Fp [] 3 c fun _ c=>Bd h fun x1 hx1 h=>Ca [0,1] c (Yn hx1) ⟨.f 0,.f 1,tt⟩ call131 fun i1 _ _ c=>?_)
 refine Fp [] 4 c fun _ c=>E1 (bk (tn (P0 [] c fun _ c=>?_)))
 replace c:=c.fz 1
 cases h
 exact wp_ret (Rt c (i1.1,i1.2.1,i1.p2,i1.q3) [1,2] [2])
 refine P0 [] c fun _ c=>I0 c h (fun h=>?_) fun h=>?_
 refine T1 (Fp [] 3 c fun _ c=>Bd h fun x2 hx2 h=>Cb c (XP hx2) ⟨.f 1,tt⟩ call82 fun i2 _ _ c=>?_)
 refine Bd h fun x3 hx3 h=>Ca [0,1] c (Yn hx3) ⟨.f 0,.g 1,tt⟩ call131 fun i3 _ _ c=>?_
 refine Fp [] 4 c fun _ c=>E1 (bk (tn (P0 [] c fun _ c=>?_)))
 replace c:=c.fz 2
 cases h
 exact wp_ret (Rt c (i3.1,i3.2.1,i3.p2,i3.q3) [2,3] [2])
 refine P0 [] c fun _ c=>I0 c h (fun h=>?_) fun h=>?_
 refine T1 (Fp [] 3 c fun _ c=>Bd h fun x4 hx4 h=>Ca [0,1] c (Zbv hx4) ⟨.f 0,.f 1,tt⟩ call132 fun i4 _ _ c=>?_)
 refine Fp [] 1 c fun _ c=>E1 (bk (tn (P0 [] c fun _ c=>?_)))
 replace c:=c.fz 1
 cases h
 exact wp_ret (Rt c (i4.1,i4.2.1,i4.p2,i4.q3) [1,2] [2])
 refine P0 [] c fun _ c=>I0 c h (fun h=>?_) fun h=>?_
 refine T1 (Fp [] 3 c fun _ c=>Bd h fun x5 hx5 h=>Ca [0,1] c (XV hx5) ⟨.f 0,.f 1,tt⟩ call133 fun i5 _ _ c=>?_)
 refine Fp [] 4 c fun _ c=>E1 (bk (tn (P0 [] c fun _ c=>?_)))
 replace c:=c.fz 1
 cases h
 exact wp_ret (Rt c (i5.1,i5.2.1,i5.p4,i5.q5) [2,3] [2])
 refine P0 [] c fun _ c=>I0 c h (fun h=>?_) fun h=>?_
 refine T1 (Fp [] 3 c fun _ c=>Bd h fun x6 hx6 h=>Ca [0,1] c (XV hx6) ⟨.f 0,.f 1,tt⟩ call133 fun i6 _ _ c=>?_)
 refine Fp [] 4 c fun _ c=>E1 (bk (tn (P0 [] c fun _ c=>?_)))
 replace c:=c.fz 2
 cases h
 exact wp_ret (Rt c (i6.p2,i6.p3,i6.p4,i6.q5) [2,3] [2])
 refine S0 (P0 [] c fun _ c=>I0 c h (fun h=>?_) fun h=>?_)
 refine K0 (I0 c h (fun h=>?_) fun h=>?_)
 refine P0 [] c fun _ c=>Bd h fun rl1 hit1 h=>Tq (Lp (fun s1  (i:Ob Oh)=>([(0,B gb0 0),(1,I p1),(2,L ga4 p2 gc5),(3,L ga6 p3 gc7),(9,L i.p2 s1.2.1 i.q3),(65,I (len p2)),(66,I s1.1)],fun Γ=>((Γ.set 0 (BX gb0 81 [I s1.p2,L i.1 s1.q4 i.2.1,.bool s1.p3])).set 1 (sl84 (L i.1 s1.q4 i.2.1) s1.q4)).set 2 (sl3 (L i.p2 s1.2.1 i.q3) s1.2.1),[])) (fun  (i:Ob Oh)=>([(9,L i.p2 rl1.1 i.q3)],fun Γ=>((Γ.set 0 (BX gb0 81 [I rl1.2.1,L i.1 rl1.q3 i.2.1,.bool rl1.p2])).set 1 (sl84 (L i.1 rl1.q3 i.2.1) rl1.q3)).set 2 (sl3 (L i.p2 rl1.1 i.q3) rl1.1),[])) hit1 c (ga1,gc2,a1,c1) (c.rk [0,1,2] [0,1]) (fun s1 q1 i7 _ _ c h hr1=>?_) fun k1 _ _ c=>?_)
 refine P0 [] c fun _ c=>S0 (I0 c h (fun h=>?_) fun h=>?_)
 refine K0 (S0 (wp_block (P0 [] c fun _ c=>P0 [] c fun _ c=>S0 (P0 [] c fun _ c=>wp_block (P0 [] c fun _ c=>I0 c h (fun h=>?_) fun h=>?_)))))
 refine Bd h fun x7 hx7 h=>Bd h fun x8 hx8 h=>Z9 mix (rM 9 [(3,Pd.el (x7:Int)),(4,.eq (I x7)),(7,Pd.el (x8:Int)),(8,.eq (I x8))] [] c (fun ow=>⟨Zc ow (Nid c (.f 0) (kN hx7)),Zc ow (Nld c 3 (q:=x7) (atM 3 (p:=.el (x7:Int)))),Zc ow (Nid c (.f 1) (kN hx8)),Zc ow (Nld c 7 (q:=x8) (atM 7 (p:=.el (x8:Int)))),tt⟩) fun _ _ _ _ _ c=>?_)
 refine Bd h fun x9 hx9 h=>Ca [0,1] c (Zp hx9) tt call129 fun i8 _ _ c=>?_
 refine Fp [] 1 c fun _ c=>E1 (bk (tn (T1 (Fp [] 2 c fun _ c=>Elt 3 ([x9.1]:List Int) c fun a2 c2 _ _ c=>?_))))
 refine Bd h fun x10 hx10 h=>Eap 0 c (.g 3) hx10 fun a3 c3 _ _ c=>?_
 refine Fp [] 1 c fun _ c=>E1 (bk (tn (P1 [] c fun _ c=>Nx h (i8.1,i8.2,a3,c3) (c.rk [1,2,0] [0,1]))))
 refine P0 [] c fun _ c=>I0 c h (fun h=>?_) fun h=>?_
 refine Bd h fun x11 hx11 h=>Bd h fun x12 hx12 h=>Z9 mix (rM 9 [(3,Pd.el (x11:Int)),(4,.eq (I x11)),(7,Pd.el (x12:Int)),(8,.eq (I x12))] [] c (fun ow=>⟨Zc ow (Nid c (.f 0) (kN hx11)),Zc ow (Nld c 3 (q:=x11) (atM 3 (p:=.el (x11:Int)))),Zc ow (Nid c (.f 1) (kN hx12)),Zc ow (Nld c 7 (q:=x12) (atM 7 (p:=.el (x12:Int)))),tt⟩) fun _ _ _ _ _ c=>?_)
 refine Bd h fun x13 hx13 h=>Ca [0,1] c (ZQ hx13) tt call130 fun i9 _ _ c=>?_
 refine Fp [] 1 c fun _ c=>E1 (bk (tn (T1 (Fp [] 2 c fun _ c=>Elt 3 ([x13.1]:List Int) c fun a4 c4 _ _ c=>?_))))
 refine Bd h fun x14 hx14 h=>Eap 0 c (.g 3) hx14 fun a5 c5 _ _ c=>?_
 refine Fp [] 1 c fun _ c=>E1 (bk (tn (P1 [] c fun _ c=>Nx h (i9.1,i9.2,a5,c5) (c.rk [1,2,0] [0,1]))))
 refine Bd h fun x15 hx15 h=>Bd h fun x16 hx16 h=>Z9 mix (rM 9 [(3,Pd.el (x15:Int)),(4,.eq (I x15)),(7,Pd.el (x16:Int)),(8,.eq (I x16))] [] c (fun ow=>⟨Zc ow (Nid c (.f 0) (kN hx15)),Zc ow (Nld c 3 (q:=x15) (atM 3 (p:=.el (x15:Int)))),Zc ow (Nid c (.f 1) (kN hx16)),Zc ow (Nld c 7 (q:=x16) (atM 7 (p:=.el (x16:Int)))),tt⟩) fun _ _ _ _ _ c=>?_)
 refine Bd h fun x17 hx17 h=>Ca [0,1] c (ZF hx17) tt call134 fun i10 _ _ c=>?_
 refine Fp [] 1 c fun _ c=>E1 (bk (tn (T1 (Fp [] 2 c fun _ c=>Elt 3 ([x17.1]:List Int) c fun a6 c6 _ _ c=>?_))))
 refine Bd h fun x18 hx18 h=>Eap 0 c (.g 3) hx18 fun a7 c7 _ _ c=>?_
 refine Fp [] 1 c fun _ c=>E1 (bk (tn (P1 [] c fun _ c=>Nx h (i10.1,i10.2,a7,c7) (c.rk [1,2,0] [0,1]))))
 refine wp_exit (te (te (be ?_)))
 obtain rfl:=hr1 _ (sk h)
 exact tn ⟨(i7.1,i7.2.1,i7.p2,i7.q3),c.rk [0,1,2] [0,1]⟩
 refine bk (tn (P0 [] c fun _ c=>?_))
 replace c:=c.fz 2
 cases h
 exact wp_ret (Rt c (k1.p2,k1.q3,k1.1,k1.2.1) [0,1] [2])
 refine S0 (P0 [] c fun _ c=>I0 c h (fun h=>?_) fun h=>?_)
 refine K0 (I0 c h (fun h=>?_) fun h=>?_)
 refine T1 (Fp [] 4 c fun _ c=>Bd h fun x19 hx19 h=>Cf [0,1] c (Y2 hx19) ⟨.f 0,.f 1,tt⟩ call135 fun i11 _ _ c=>?_)
 refine Fp [] 1 c fun _ c=>E1 (bk (tn (P0 [] c fun _ c=>?_)))
 cases h
 exact wp_ret (Rt c (i11.1,i11.2.1,i11.p2,i11.q3) [1,2] [2])
 refine P0 [] c fun _ c=>I0 c h (fun h=>?_) fun h=>?_
 refine P0 [] c fun _ c=>S0 (P0 [] c fun _ c=>Bd h fun rl2 hit2 h=>Lp (fun s2  (i:Oh)=>([(0,B gb0 0),(2,L ga4 p2 gc5),(3,L ga6 p3 gc7),(12,I s2.1),(121,I (len p2)),(122,I s2.2.1)],fun Γ=>(Γ.set 0 (BX gb0 81 [I s2.p2,L i.1 s2.q4 i.2,.bool s2.p3])).set 1 (sl84 (L i.1 s2.q4 i.2) s2.q4),[])) (fun  (i:Oh)=>([(12,I rl2.1)],fun Γ=>(Γ.set 0 (BX gb0 81 [I rl2.2.1,L i.1 rl2.q3 i.2,.bool rl2.p2])).set 1 (sl84 (L i.1 rl2.q3 i.2) rl2.q3),[])) hit2 c (ga1,gc2) (c.rk [0,1,2] [0,1]) (fun s2 q2 i12 _ _ c h hr2=>?_) fun k2 _ _ c=>?_)
 refine P0 [] c fun _ c=>S0 (I0 c h (fun h=>?_) fun h=>?_)
 refine K0 (S0 (wp_block (P0 [] c fun _ c=>Bd h fun x20 hx20 h=>Bd h fun x21 hx21 h=>S0 (Z9 mix (rM 9 [(3,Pd.el (x20:Int)),(4,.eq (I x20)),(7,Pd.el (x21:Int)),(8,.eq (I x21))] [] c (fun ow=>⟨Zc ow (Nid c (.f 0) (kN hx20)),Zc ow (Nld c 3 (q:=x20) (atM 3 (p:=.el (x20:Int)))),Zc ow (Nid c (.f 1) (kN hx21)),Zc ow (Nld c 7 (q:=x21) (atM 7 (p:=.el (x21:Int)))),tt⟩) fun _ _ _ _ _ c=>Bd h fun x22 hx22 h=>Ca [0,1] c (ZF hx22) tt call134 fun i13 _ _ c=>?_)))))
 refine Fp [] 1 c fun _ c=>E0 (T1 (Fp [] 4 c fun _ c=>Bd h fun x23 hx23 h=>Ca [1,2] c (Zp hx23) tt call129 fun i14 _ _ c=>?_))
 refine Fp [] 1 c fun _ c=>E1 (bk (tn (P1 [] c fun _ c=>Nx h (i14.1,i14.2) (c.rk [1,2,0] [0,1]))))
 refine wp_exit (te (te (be ?_)))
 obtain rfl:=hr2 _ (sk h)
 exact tn ⟨(i12.1,i12.2),c.rk [0,1,2] [0,1]⟩
 refine T1 (Fp [] 1 c fun _ c=>Elt 3 ([rl2.1]:List Int) c fun a8 c8 _ _ c=>?_)
 refine Fp [] 1 c fun _ c=>E1 (bk (tn (P0 [] c fun _ c=>?_)))
 replace c:=c.fz 3
 cases h
 exact wp_ret (Rt c (a8,c8,k2.1,k2.2) [0,1] [2])
 refine P0 [] c fun _ c=>I0 c h (fun h=>?_) fun h=>?_
 refine T1 (Fp [] 3 c fun _ c=>Bd h fun x24 hx24 h=>Ca [0,1] c (ZB hx24) ⟨.f 0,.f 1,tt⟩ call136 fun i15 _ _ c=>?_)
 refine Elt 3 ([x24.1]:List Int) c fun a9 c9 _ _ c=>?_
 refine Fp [] 1 c fun _ c=>E1 (bk (tn (P0 [] c fun _ c=>?_)))
 replace c:=c.fz 3
 cases h
 exact wp_ret (Rt c (a9,c9,i15.1,i15.2) [1,2] [2])
 refine P0 [] c fun _ c=>I0 c h (fun h=>?_) fun h=>?_
 refine T1 (Fp [] 2 c fun _ c=>Bd h fun x25 hx25 h=>Cb c (Yk hx25) ⟨.f 0,tt⟩ call137 fun i16 _ _ c=>?_)
 refine Fp [] 1 c fun _ c=>Bd h fun x26 hx26 h=>Cb c (Yk hx26) ⟨.f 1,tt⟩ call137 fun i17 _ _ c=>?_
 refine Bd h fun x27 hx27 h=>Ca [0,1] c (ZB hx27) ⟨.g 1,.g 2,tt⟩ call136 fun i18 _ _ c=>?_
 refine Elt 3 ([x27.1]:List Int) c fun a10 c10 _ _ c=>?_
 refine Fp [] 1 c fun _ c=>E1 (bk (tn (P0 [] c fun _ c=>?_)))
 replace c:=c.fz 5
 cases h
 exact wp_ret (Rt c (a10,c10,i18.1,i18.2) [3,4] [2])
 refine K1 (bk (tn (P0 [] c fun _ c=>?_)))
 replace c:=c.fz 2
 cases h
 exact wp_ret (Rt c (a1,c1,ga1,gc2) [0,1] [2])
 refine P0 [] c fun _ c=>Mp (p1 == 12) [(109,.bool (p1 == 12))] [(109,.bool (p1 == 13))] [(109,.bool ((p1 == 12) || (p1 == 13)))] [109,112] c fun _ c=>I0 c h (fun h=>?_) fun h=>?_
 refine T1 (Fp [] 4 c fun _ c=>Bd h fun x28 hx28 h=>Cf [0,1] c (Y2 hx28) ⟨.f 0,.f 1,tt⟩ call135 fun i19 _ _ c=>?_)
 refine Fp [] 1 c fun _ c=>E1 (bk (tn (P0 [] c fun _ c=>?_)))
 cases h
 exact wp_ret (Rt c (i19.1,i19.2.1,i19.p2,i19.q3) [1,2] [2])
 refine P0 [] c fun _ c=>I0 c h (fun h=>?_) fun h=>?_
 refine P0 [] c fun _ c=>S0 (P0 [] c fun _ c=>Bd h fun rl3 hit3 h=>Lp (fun s3  (i:Oh)=>([(0,B gb0 0),(2,L ga4 p2 gc5),(3,L ga6 p3 gc7),(12,I s3.1),(121,I (len p2)),(122,I s3.2.1)],fun Γ=>(Γ.set 0 (BX gb0 81 [I s3.p2,L i.1 s3.q4 i.2,.bool s3.p3])).set 1 (sl84 (L i.1 s3.q4 i.2) s3.q4),[])) (fun  (i:Oh)=>([(12,I rl3.1)],fun Γ=>(Γ.set 0 (BX gb0 81 [I rl3.2.1,L i.1 rl3.q3 i.2,.bool rl3.p2])).set 1 (sl84 (L i.1 rl3.q3 i.2) rl3.q3),[])) hit3 c (ga1,gc2) (c.rk [0,1,2] [0,1]) (fun s3 q3 i20 _ _ c h hr3=>?_) fun k3 _ _ c=>?_)
 refine P0 [] c fun _ c=>S0 (I0 c h (fun h=>?_) fun h=>?_)
 refine K0 (S0 (wp_block (P0 [] c fun _ c=>Bd h fun x29 hx29 h=>Bd h fun x30 hx30 h=>S0 (Z9 mix (rM 9 [(3,Pd.el (x29:Int)),(4,.eq (I x29)),(7,Pd.el (x30:Int)),(8,.eq (I x30))] [] c (fun ow=>⟨Zc ow (Nid c (.f 0) (kN hx29)),Zc ow (Nld c 3 (q:=x29) (atM 3 (p:=.el (x29:Int)))),Zc ow (Nid c (.f 1) (kN hx30)),Zc ow (Nld c 7 (q:=x30) (atM 7 (p:=.el (x30:Int)))),tt⟩) fun _ _ _ _ _ c=>Bd h fun x31 hx31 h=>Ca [0,1] c (ZF hx31) tt call134 fun i21 _ _ c=>?_)))))
 refine Fp [] 1 c fun _ c=>E0 (T1 (Fp [] 4 c fun _ c=>Bd h fun x32 hx32 h=>Ca [1,2] c (Zp hx32) tt call129 fun i22 _ _ c=>?_))
 refine Fp [] 1 c fun _ c=>E1 (bk (tn (P1 [] c fun _ c=>Nx h (i22.1,i22.2) (c.rk [1,2,0] [0,1]))))
 refine wp_exit (te (te (be ?_)))
 obtain rfl:=hr3 _ (sk h)
 exact tn ⟨(i20.1,i20.2),c.rk [0,1,2] [0,1]⟩
 refine T1 (Fp [] 1 c fun _ c=>Elt 3 ([rl3.1]:List Int) c fun a11 c11 _ _ c=>?_)
 refine Fp [] 1 c fun _ c=>E1 (bk (tn (P0 [] c fun _ c=>?_)))
 replace c:=c.fz 3
 cases h
 exact wp_ret (Rt c (a11,c11,k3.1,k3.2) [0,1] [2])
 refine P0 [] c fun _ c=>I0 c h (fun h=>?_) fun h=>?_
 refine T1 (Fp [] 3 c fun _ c=>Bd h fun x33 hx33 h=>Ca [0,1] c (ZB hx33) ⟨.f 0,.f 1,tt⟩ call136 fun i23 _ _ c=>?_)
 refine Elt 3 ([x33.1]:List Int) c fun a12 c12 _ _ c=>?_
 refine Fp [] 1 c fun _ c=>E1 (bk (tn (P0 [] c fun _ c=>?_)))
 replace c:=c.fz 3
 cases h
 exact wp_ret (Rt c (a12,c12,i23.1,i23.2) [1,2] [2])
 refine P0 [] c fun _ c=>I0 c h (fun h=>?_) fun h=>?_
 refine T1 (Fp [] 2 c fun _ c=>Bd h fun x34 hx34 h=>Cb c (Yk hx34) ⟨.f 0,tt⟩ call137 fun i24 _ _ c=>?_)
 refine Fp [] 1 c fun _ c=>Bd h fun x35 hx35 h=>Cb c (Yk hx35) ⟨.f 1,tt⟩ call137 fun i25 _ _ c=>?_
 refine Bd h fun x36 hx36 h=>Ca [0,1] c (ZB hx36) ⟨.g 1,.g 2,tt⟩ call136 fun i26 _ _ c=>?_
 refine Elt 3 ([x36.1]:List Int) c fun a13 c13 _ _ c=>?_
 refine Fp [] 1 c fun _ c=>E1 (bk (tn (P0 [] c fun _ c=>?_)))
 replace c:=c.fz 5
 cases h
 exact wp_ret (Rt c (a13,c13,i26.1,i26.2) [3,4] [2])
 refine K1 (bk (tn (P0 [] c fun _ c=>?_)))
 replace c:=c.fz 2
 cases h
 exact wp_ret (Rt c (a1,c1,ga1,gc2) [0,1] [2])
 refine P0 [] c fun _ c=>Mp (p1 == 9) [(60,.bool (p1 == 9))] [(60,.bool (p1 == 10))] [(60,.bool ((p1 == 9) || (p1 == 10)))] [60,63] c fun _ c=>I0 c h (fun h=>?_) fun h=>?_
 refine P0 [] c fun _ c=>Bd h fun rl4 hit4 h=>Tq (Lp (fun s4  (i:Ob Oh)=>([(0,B gb0 0),(1,I p1),(2,L ga4 p2 gc5),(3,L ga6 p3 gc7),(9,L i.p2 s4.2.1 i.q3),(65,I (len p2)),(66,I s4.1)],fun Γ=>((Γ.set 0 (BX gb0 81 [I s4.p2,L i.1 s4.q4 i.2.1,.bool s4.p3])).set 1 (sl84 (L i.1 s4.q4 i.2.1) s4.q4)).set 2 (sl3 (L i.p2 s4.2.1 i.q3) s4.2.1),[])) (fun  (i:Ob Oh)=>([(9,L i.p2 rl4.1 i.q3)],fun Γ=>((Γ.set 0 (BX gb0 81 [I rl4.2.1,L i.1 rl4.q3 i.2.1,.bool rl4.p2])).set 1 (sl84 (L i.1 rl4.q3 i.2.1) rl4.q3)).set 2 (sl3 (L i.p2 rl4.1 i.q3) rl4.1),[])) hit4 c (ga1,gc2,a1,c1) (c.rk [0,1,2] [0,1]) (fun s4 q4 i27 _ _ c h hr4=>?_) fun k4 _ _ c=>?_)
 refine P0 [] c fun _ c=>S0 (I0 c h (fun h=>?_) fun h=>?_)
 refine K0 (S0 (wp_block (P0 [] c fun _ c=>P0 [] c fun _ c=>S0 (P0 [] c fun _ c=>wp_block (P0 [] c fun _ c=>I0 c h (fun h=>?_) fun h=>?_)))))
 refine Bd h fun x37 hx37 h=>Bd h fun x38 hx38 h=>Z9 mix (rM 9 [(3,Pd.el (x37:Int)),(4,.eq (I x37)),(7,Pd.el (x38:Int)),(8,.eq (I x38))] [] c (fun ow=>⟨Zc ow (Nid c (.f 0) (kN hx37)),Zc ow (Nld c 3 (q:=x37) (atM 3 (p:=.el (x37:Int)))),Zc ow (Nid c (.f 1) (kN hx38)),Zc ow (Nld c 7 (q:=x38) (atM 7 (p:=.el (x38:Int)))),tt⟩) fun _ _ _ _ _ c=>?_)
 refine Bd h fun x39 hx39 h=>Ca [0,1] c (Zp hx39) tt call129 fun i28 _ _ c=>?_
 refine Fp [] 1 c fun _ c=>E1 (bk (tn (T1 (Fp [] 2 c fun _ c=>Elt 3 ([x39.1]:List Int) c fun a14 c14 _ _ c=>?_))))
 refine Bd h fun x40 hx40 h=>Eap 0 c (.g 3) hx40 fun a15 c15 _ _ c=>?_
 refine Fp [] 1 c fun _ c=>E1 (bk (tn (P1 [] c fun _ c=>Nx h (i28.1,i28.2,a15,c15) (c.rk [1,2,0] [0,1]))))
 refine P0 [] c fun _ c=>I0 c h (fun h=>?_) fun h=>?_
 refine Bd h fun x41 hx41 h=>Bd h fun x42 hx42 h=>Z9 mix (rM 9 [(3,Pd.el (x41:Int)),(4,.eq (I x41)),(7,Pd.el (x42:Int)),(8,.eq (I x42))] [] c (fun ow=>⟨Zc ow (Nid c (.f 0) (kN hx41)),Zc ow (Nld c 3 (q:=x41) (atM 3 (p:=.el (x41:Int)))),Zc ow (Nid c (.f 1) (kN hx42)),Zc ow (Nld c 7 (q:=x42) (atM 7 (p:=.el (x42:Int)))),tt⟩) fun _ _ _ _ _ c=>?_)
 refine Bd h fun x43 hx43 h=>Ca [0,1] c (ZQ hx43) tt call130 fun i29 _ _ c=>?_
 refine Fp [] 1 c fun _ c=>E1 (bk (tn (T1 (Fp [] 2 c fun _ c=>Elt 3 ([x43.1]:List Int) c fun a16 c16 _ _ c=>?_))))
 refine Bd h fun x44 hx44 h=>Eap 0 c (.g 3) hx44 fun a17 c17 _ _ c=>?_
 refine Fp [] 1 c fun _ c=>E1 (bk (tn (P1 [] c fun _ c=>Nx h (i29.1,i29.2,a17,c17) (c.rk [1,2,0] [0,1]))))
 refine Bd h fun x45 hx45 h=>Bd h fun x46 hx46 h=>Z9 mix (rM 9 [(3,Pd.el (x45:Int)),(4,.eq (I x45)),(7,Pd.el (x46:Int)),(8,.eq (I x46))] [] c (fun ow=>⟨Zc ow (Nid c (.f 0) (kN hx45)),Zc ow (Nld c 3 (q:=x45) (atM 3 (p:=.el (x45:Int)))),Zc ow (Nid c (.f 1) (kN hx46)),Zc ow (Nld c 7 (q:=x46) (atM 7 (p:=.el (x46:Int)))),tt⟩) fun _ _ _ _ _ c=>?_)
 refine Bd h fun x47 hx47 h=>Ca [0,1] c (ZF hx47) tt call134 fun i30 _ _ c=>?_
 refine Fp [] 1 c fun _ c=>E1 (bk (tn (T1 (Fp [] 2 c fun _ c=>Elt 3 ([x47.1]:List Int) c fun a18 c18 _ _ c=>?_))))
 refine Bd h fun x48 hx48 h=>Eap 0 c (.g 3) hx48 fun a19 c19 _ _ c=>?_
 refine Fp [] 1 c fun _ c=>E1 (bk (tn (P1 [] c fun _ c=>Nx h (i30.1,i30.2,a19,c19) (c.rk [1,2,0] [0,1]))))
 refine wp_exit (te (te (be ?_)))
 obtain rfl:=hr4 _ (sk h)
 exact tn ⟨(i27.1,i27.2.1,i27.p2,i27.q3),c.rk [0,1,2] [0,1]⟩
 refine bk (tn (P0 [] c fun _ c=>?_))
 replace c:=c.fz 2
 cases h
 exact wp_ret (Rt c (k4.p2,k4.q3,k4.1,k4.2.1) [0,1] [2])
 refine S0 (P0 [] c fun _ c=>I0 c h (fun h=>?_) fun h=>?_)
 refine K0 (I0 c h (fun h=>?_) fun h=>?_)
 refine T1 (Fp [] 4 c fun _ c=>Bd h fun x49 hx49 h=>Cf [0,1] c (Y2 hx49) ⟨.f 0,.f 1,tt⟩ call135 fun i31 _ _ c=>?_)
 refine Fp [] 1 c fun _ c=>E1 (bk (tn (P0 [] c fun _ c=>?_)))
 cases h
 exact wp_ret (Rt c (i31.1,i31.2.1,i31.p2,i31.q3) [1,2] [2])
 refine P0 [] c fun _ c=>I0 c h (fun h=>?_) fun h=>?_
 refine P0 [] c fun _ c=>S0 (P0 [] c fun _ c=>Bd h fun rl5 hit5 h=>Lp (fun s5  (i:Oh)=>([(0,B gb0 0),(2,L ga4 p2 gc5),(3,L ga6 p3 gc7),(12,I s5.1),(121,I (len p2)),(122,I s5.2.1)],fun Γ=>(Γ.set 0 (BX gb0 81 [I s5.p2,L i.1 s5.q4 i.2,.bool s5.p3])).set 1 (sl84 (L i.1 s5.q4 i.2) s5.q4),[])) (fun  (i:Oh)=>([(12,I rl5.1)],fun Γ=>(Γ.set 0 (BX gb0 81 [I rl5.2.1,L i.1 rl5.q3 i.2,.bool rl5.p2])).set 1 (sl84 (L i.1 rl5.q3 i.2) rl5.q3),[])) hit5 c (ga1,gc2) (c.rk [0,1,2] [0,1]) (fun s5 q5 i32 _ _ c h hr5=>?_) fun k5 _ _ c=>?_)
 refine P0 [] c fun _ c=>S0 (I0 c h (fun h=>?_) fun h=>?_)
 refine K0 (S0 (wp_block (P0 [] c fun _ c=>Bd h fun x50 hx50 h=>Bd h fun x51 hx51 h=>S0 (Z9 mix (rM 9 [(3,Pd.el (x50:Int)),(4,.eq (I x50)),(7,Pd.el (x51:Int)),(8,.eq (I x51))] [] c (fun ow=>⟨Zc ow (Nid c (.f 0) (kN hx50)),Zc ow (Nld c 3 (q:=x50) (atM 3 (p:=.el (x50:Int)))),Zc ow (Nid c (.f 1) (kN hx51)),Zc ow (Nld c 7 (q:=x51) (atM 7 (p:=.el (x51:Int)))),tt⟩) fun _ _ _ _ _ c=>Bd h fun x52 hx52 h=>Ca [0,1] c (ZF hx52) tt call134 fun i33 _ _ c=>?_)))))
 refine Fp [] 1 c fun _ c=>E0 (T1 (Fp [] 4 c fun _ c=>Bd h fun x53 hx53 h=>Ca [1,2] c (Zp hx53) tt call129 fun i34 _ _ c=>?_))
 refine Fp [] 1 c fun _ c=>E1 (bk (tn (P1 [] c fun _ c=>Nx h (i34.1,i34.2) (c.rk [1,2,0] [0,1]))))
 refine wp_exit (te (te (be ?_)))
 obtain rfl:=hr5 _ (sk h)
 exact tn ⟨(i32.1,i32.2),c.rk [0,1,2] [0,1]⟩
 refine T1 (Fp [] 1 c fun _ c=>Elt 3 ([rl5.1]:List Int) c fun a20 c20 _ _ c=>?_)
 refine Fp [] 1 c fun _ c=>E1 (bk (tn (P0 [] c fun _ c=>?_)))
 replace c:=c.fz 3
 cases h
 exact wp_ret (Rt c (a20,c20,k5.1,k5.2) [0,1] [2])
 refine P0 [] c fun _ c=>I0 c h (fun h=>?_) fun h=>?_
 refine T1 (Fp [] 3 c fun _ c=>Bd h fun x54 hx54 h=>Ca [0,1] c (ZB hx54) ⟨.f 0,.f 1,tt⟩ call136 fun i35 _ _ c=>?_)
 refine Elt 3 ([x54.1]:List Int) c fun a21 c21 _ _ c=>?_
 refine Fp [] 1 c fun _ c=>E1 (bk (tn (P0 [] c fun _ c=>?_)))
 replace c:=c.fz 3
 cases h
 exact wp_ret (Rt c (a21,c21,i35.1,i35.2) [1,2] [2])
 refine P0 [] c fun _ c=>I0 c h (fun h=>?_) fun h=>?_
 refine T1 (Fp [] 2 c fun _ c=>Bd h fun x55 hx55 h=>Cb c (Yk hx55) ⟨.f 0,tt⟩ call137 fun i36 _ _ c=>?_)
 refine Fp [] 1 c fun _ c=>Bd h fun x56 hx56 h=>Cb c (Yk hx56) ⟨.f 1,tt⟩ call137 fun i37 _ _ c=>?_
 refine Bd h fun x57 hx57 h=>Ca [0,1] c (ZB hx57) ⟨.g 1,.g 2,tt⟩ call136 fun i38 _ _ c=>?_
 refine Elt 3 ([x57.1]:List Int) c fun a22 c22 _ _ c=>?_
 refine Fp [] 1 c fun _ c=>E1 (bk (tn (P0 [] c fun _ c=>?_)))
 replace c:=c.fz 5
 cases h
 exact wp_ret (Rt c (a22,c22,i38.1,i38.2) [3,4] [2])
 refine K1 (bk (tn (P0 [] c fun _ c=>?_)))
 replace c:=c.fz 2
 cases h
 exact wp_ret (Rt c (a1,c1,ga1,gc2) [0,1] [2])
 refine P0 [] c fun _ c=>Mp (p1 == 12) [(109,.bool (p1 == 12))] [(109,.bool (p1 == 13))] [(109,.bool ((p1 == 12) || (p1 == 13)))] [109,112] c fun _ c=>I0 c h (fun h=>?_) fun h=>?_
 refine T1 (Fp [] 4 c fun _ c=>Bd h fun x58 hx58 h=>Cf [0,1] c (Y2 hx58) ⟨.f 0,.f 1,tt⟩ call135 fun i39 _ _ c=>?_)
 refine Fp [] 1 c fun _ c=>E1 (bk (tn (P0 [] c fun _ c=>?_)))
 cases h
 exact wp_ret (Rt c (i39.1,i39.2.1,i39.p2,i39.q3) [1,2] [2])
 refine P0 [] c fun _ c=>I0 c h (fun h=>?_) fun h=>?_
 refine P0 [] c fun _ c=>S0 (P0 [] c fun _ c=>Bd h fun rl6 hit6 h=>Lp (fun s6  (i:Oh)=>([(0,B gb0 0),(2,L ga4 p2 gc5),(3,L ga6 p3 gc7),(12,I s6.1),(121,I (len p2)),(122,I s6.2.1)],fun Γ=>(Γ.set 0 (BX gb0 81 [I s6.p2,L i.1 s6.q4 i.2,.bool s6.p3])).set 1 (sl84 (L i.1 s6.q4 i.2) s6.q4),[])) (fun  (i:Oh)=>([(12,I rl6.1)],fun Γ=>(Γ.set 0 (BX gb0 81 [I rl6.2.1,L i.1 rl6.q3 i.2,.bool rl6.p2])).set 1 (sl84 (L i.1 rl6.q3 i.2) rl6.q3),[])) hit6 c (ga1,gc2) (c.rk [0,1,2] [0,1]) (fun s6 q6 i40 _ _ c h hr6=>?_) fun k6 _ _ c=>?_)
 refine P0 [] c fun _ c=>S0 (I0 c h (fun h=>?_) fun h=>?_)
 refine K0 (S0 (wp_block (P0 [] c fun _ c=>Bd h fun x59 hx59 h=>Bd h fun x60 hx60 h=>S0 (Z9 mix (rM 9 [(3,Pd.el (x59:Int)),(4,.eq (I x59)),(7,Pd.el (x60:Int)),(8,.eq (I x60))] [] c (fun ow=>⟨Zc ow (Nid c (.f 0) (kN hx59)),Zc ow (Nld c 3 (q:=x59) (atM 3 (p:=.el (x59:Int)))),Zc ow (Nid c (.f 1) (kN hx60)),Zc ow (Nld c 7 (q:=x60) (atM 7 (p:=.el (x60:Int)))),tt⟩) fun _ _ _ _ _ c=>Bd h fun x61 hx61 h=>Ca [0,1] c (ZF hx61) tt call134 fun i41 _ _ c=>?_)))))
 refine Fp [] 1 c fun _ c=>E0 (T1 (Fp [] 4 c fun _ c=>Bd h fun x62 hx62 h=>Ca [1,2] c (Zp hx62) tt call129 fun i42 _ _ c=>?_))
 refine Fp [] 1 c fun _ c=>E1 (bk (tn (P1 [] c fun _ c=>Nx h (i42.1,i42.2) (c.rk [1,2,0] [0,1]))))
 refine wp_exit (te (te (be ?_)))
 obtain rfl:=hr6 _ (sk h)
 exact tn ⟨(i40.1,i40.2),c.rk [0,1,2] [0,1]⟩
 refine T1 (Fp [] 1 c fun _ c=>Elt 3 ([rl6.1]:List Int) c fun a23 c23 _ _ c=>?_)
 refine Fp [] 1 c fun _ c=>E1 (bk (tn (P0 [] c fun _ c=>?_)))
 replace c:=c.fz 3
 cases h
 exact wp_ret (Rt c (a23,c23,k6.1,k6.2) [0,1] [2])
 refine P0 [] c fun _ c=>I0 c h (fun h=>?_) fun h=>?_
 refine T1 (Fp [] 3 c fun _ c=>Bd h fun x63 hx63 h=>Ca [0,1] c (ZB hx63) ⟨.f 0,.f 1,tt⟩ call136 fun i43 _ _ c=>?_)
 refine Elt 3 ([x63.1]:List Int) c fun a24 c24 _ _ c=>?_
 refine Fp [] 1 c fun _ c=>E1 (bk (tn (P0 [] c fun _ c=>?_)))
 replace c:=c.fz 3
 cases h
 exact wp_ret (Rt c (a24,c24,i43.1,i43.2) [1,2] [2])
 refine P0 [] c fun _ c=>I0 c h (fun h=>?_) fun h=>?_
 refine T1 (Fp [] 2 c fun _ c=>Bd h fun x64 hx64 h=>Cb c (Yk hx64) ⟨.f 0,tt⟩ call137 fun i44 _ _ c=>?_)
 refine Fp [] 1 c fun _ c=>Bd h fun x65 hx65 h=>Cb c (Yk hx65) ⟨.f 1,tt⟩ call137 fun i45 _ _ c=>?_
 refine Bd h fun x66 hx66 h=>Ca [0,1] c (ZB hx66) ⟨.g 1,.g 2,tt⟩ call136 fun i46 _ _ c=>?_
 refine Elt 3 ([x66.1]:List Int) c fun a25 c25 _ _ c=>?_
 refine Fp [] 1 c fun _ c=>E1 (bk (tn (P0 [] c fun _ c=>?_)))
 replace c:=c.fz 5
 cases h
 exact wp_ret (Rt c (a25,c25,i46.1,i46.2) [3,4] [2])
 refine K1 (bk (tn (P0 [] c fun _ c=>?_)))
 replace c:=c.fz 2
 cases h
 exact wp_ret (Rt c (a1,c1,ga1,gc2) [0,1] [2])
theorem Zbi {n:Nat}:∀ {p0 p1 p2 gb0 ga1 gc2 gn3 ga4 gc5 ga6 gc7 r} (h:ZG n p0 p1 p2 = some r),Con prog 41 [B gb0 0,tV p1 ga4 gc5,L ga6 p2 gc7] [BX gb0 81 [I p0.c.Inputs,.slice ga1 gn3 gc2,.bool p0.full],sl84 (.slice ga1 gn3 gc2) p0.c.Gates] [lR ga4 p1.Kids gc5,lR ga6 p2 gc7] fun (i:Ob Oh)=>([L i.1 r.1 i.2.1],[BX gb0 81 [I r.2.c.Inputs,L i.p2 r.2.c.Gates i.q3,.bool r.2.full],sl84 (L i.p2 r.2.c.Gates i.q3) r.2.c.Gates],[lR i.1 r.1 i.2.1]):=by
 induction n with
 | zero=>intro p0 p1 p2 gb0 ga1 gc2 gn3 ga4 gc5 ga6 gc7 r h; simp [ZG] at h
 | succ n ih=>
 intro p0 p1 p2 gb0 ga1 gc2 gn3 ga4 gc5 ga6 gc7 r h
 rw [ZG] at h
 refine En func41 rfl ntmps41 fun _ fr w c=>?_
 obtain ⟨rfl,c⟩:=c.relen 1
 refine T0 (Ebx (tC p1 ga4 gc5) c fun b1 _ _ c=>?_)
 refine Fp [] 1 c fun _ c=>E0 (S0 (P0 [(1,1)] c fun _ c=>I0 c h (fun h=>?_) fun h=>?_))
 refine T0 (Fp [(1,1),(3,1)] 4 c fun _ c=>Bd h fun x1 hx1 h=>Cb c (Zbs hx1) tt call81 fun i1 _ _ c=>?_)
 refine Fp [] 1 c fun _ c=>E0 ?_
 replace c:=c.fz 3
 cases h
 exact wp_ret (tr (Rt c (i1.1,i1.2,ga1,gc2) [0,1] [2]))
 refine K0 (S0 (P0 [(1,1)] c fun _ c=>I0 c h (fun h=>?_) fun h=>?_))
 refine P0 [] c fun _ c=>S0 (P0 [] c fun _ c=>Bd h fun rl1 hit1 h=>Lp (fun s1  (_:Unit)=>([(4,B b1 0),(7,I s1.1),(30,L ga6 p2 gc7),(31,I (len p2)),(32,I s1.2)],id,[])) (fun  (_:Unit)=>([(4,B b1 0),(7,I rl1)],id,[])) hit1 c () (c.rk [0,1,2] [0,1]) (fun s1 q1 _ _ _ c h hr1=>?_) fun _ _ _ c=>?_)
 refine P0 [] c fun _ c=>S0 (I0 c h (fun h=>?_) fun h=>?_)
 refine K0 (S0 (wp_block (T0 (Bd h fun x2 hx2 h=>Eel c (.f 1) hx2 fun _ _ c=>?_))))
 refine Eal [Str.val ⟨[]⟩,I 0,I 0] c fun b2 _ _ c=>?_
 refine Ess 3 (vC x2) c fun _ c=>?_
 refine E0 (P0 [(2,2)] c fun _ c=>P0 [(1,2),(3,1)] c fun _ c=>I0 c h (fun h=>?_) fun h=>?_)
 refine wp_exit (bn (te (te (be ?_))))
 obtain rfl:=hr1 _ (sk h)
 exact tn ⟨(),c.rk [0,1,2] [0,1]⟩
 refine K1 (bk (tn (P1 [] c fun _ c=>Nx h () (c.rk [0,1,2] [0,1]))))
 refine wp_exit (te (te (be ?_)))
 obtain rfl:=hr1 _ (sk h)
 exact tn ⟨(),c.rk [0,1,2] [0,1]⟩
 refine T0 (Elt 3 ([]:List Int) c fun a1 c1 _ _ c=>?_)
 refine Fp [] 1 c fun _ c=>E0 (S0 (P0 [] c fun _ c=>Bd h fun rl2 hit2 h=>Lp (fun s2  (i:Oh)=>([(4,B b1 0),(7,I rl1),(10,L i.1 s2.2 i.2),(11,I s2.1)],fun Γ=>Γ.set 3 (sl3 (L i.1 s2.2 i.2) s2.2),[])) (fun  (i:Oh)=>([(10,L i.1 rl2 i.2)],fun Γ=>Γ.set 3 (sl3 (L i.1 rl2 i.2) rl2),[])) hit2 c (a1,c1) (c.rk (rg 4) [0,1]) (fun s2 q2 i2 _ _ c h hr2=>?_) fun k1 _ _ c=>?_))
 refine S0 (P0 [(2,1)] c fun _ c=>I0 c h (fun h=>?_) fun h=>?_)
 refine K0 (S0 (wp_block (T1 (Fp [] 4 c fun _ c=>Elt 3 ([(w64 (rl1 - s2.1))]:List Int) c fun a2 c2 _ _ c=>?_))))
 refine Bd h fun x3 hx3 h=>Eap 3 c (.g 4) hx3 fun a3 c3 _ _ c=>?_
 refine Fp [] 1 c fun _ c=>E1 (bk (tn (P1 [] c fun _ c=>Nx h (a3,c3) (c.rk (rg 4) [0,1]))))
 refine wp_exit (te (te (be ?_)))
 obtain rfl:=hr2 _ (sk h)
 exact tn ⟨(i2.1,i2.2),c.rk (rg 4) [0,1]⟩
 refine P0 [] c fun _ c=>?_
 replace c:=c.fz 3
 cases h
 exact wp_ret (tr (Rt c (k1.1,k1.2,ga1,gc2) [0,1] [2]))
 refine K0 (T0 (Eltr 27 ([]:List Hd) ([]:List (List Int)) c tt fun a4 c4 _ _ c=>?_))
 refine Fp [] 1 c fun _ c=>E0 (S0 (P0 [(1,1)] c fun _ c=>Bd h fun rl3 hit3 h=>Lp (fun s3  (i:List Hd × Ob Oh)=>([(0,B gb0 0),(2,L ga6 p2 gc7),(4,B b1 0),(12,L i.p3 s3.2.1 i.q4),(62,L ga4 p1.Kids gc5),(63,I (len p1.Kids)),(64,I s3.1)],fun Γ=>((Γ.set 0 (BX gb0 81 [I s3.p2,L i.2.1 s3.q4 i.p2,.bool s3.p3])).set 1 (sl84 (L i.2.1 s3.q4 i.p2) s3.q4)).set 3 (sl27 (L i.p3 s3.2.1 i.q4) (i.1)),[CS (i.1) s3.2.1])) (fun  (i:List Hd × Ob Oh)=>([(0,B gb0 0),(4,B b1 0),(12,L i.p3 rl3.1 i.q4)],fun Γ=>((Γ.set 0 (BX gb0 81 [I rl3.2.1,L i.2.1 rl3.q3 i.p2,.bool rl3.p2])).set 1 (sl84 (L i.2.1 rl3.q3 i.p2) rl3.q3)).set 3 (sl27 (L i.p3 rl3.1 i.q4) (i.1)),[CS (i.1) rl3.1])) hit3 c (([]:List Hd),ga1,gc2,a4,c4) (c.rk (rg 4) [0,1,2,2]) (fun s3 q3 i3 _ _ c h hr3=>?_) fun k2 _ _ c=>?_))
 refine P0 [] c fun _ c=>S0 (I0 c h (fun h=>?_) fun h=>?_)
 refine K0 (S0 (wp_block (T0 (Bd h fun x4 hx4 h=>Eem c (.f 0) hx4 fun _ u1 _ c=>?_))))
 obtain ⟨a5,c5,rfl,c⟩:=c.o_Term 4
 refine Eal tZ c fun b3 _ _ c=>?_
 refine Ess 4 (tC x4 a5 c5) c fun _ c=>?_
 refine E0 (T1 (Fp [(2,2)] 4 c fun _ c=>?_))
 replace c:=c.nf
 refine Bd h fun x5 hx5 h=>Cf [0,1] c (ih hx5) ⟨.f 5,.f 1,tt⟩ call41 fun i4 _ _ c=>?_
 refine Eltr 27 ([(hd i4.1 x5.1 i4.2.1)]:List Hd) ([x5.1]:List (List Int)) c ⟨.f 6,tt⟩ fun a6 c6 _ _ c=>?_
 replace c:=c.fzr 5 7
 refine Bd h fun x6 hx6 h=>Eapr 1 3 c (.f 8) hx6 fun rm1 a7 c7 _ _ c=>?_
 refine Fp [] 1 c fun _ c=>E1 (bk (tn (P1 [] c fun _ c=>Nx h ((i3.1 ++ rm1),i4.p2,i4.q3,a7,c7) (c.rk [3,4,0,1] [0,1,2,9]))))
 refine wp_exit (te (te (be ?_)))
 obtain rfl:=hr3 _ (sk h)
 exact tn ⟨(i3.1,i3.2.1,i3.p2,i3.p3,i3.q4),c.rk (rg 4) (rg 4)⟩
 refine T0 (Fp [] 1 c fun _ c=>Bd h fun x7 hx7 h=>Eemr 3 3 c hx7 fun _ u2 _ c=>?_)
 obtain ⟨a8,c8,rfl⟩:=c.sl 4
 refine Fp [] 1 c fun _ c=>E0 (S0 (P0 [(1,1)] c fun _ c=>wp_block (P0 [] c fun _ c=>I0 c h (fun h=>?_) fun h=>?_)))
 refine T0 (Fp [] 1 c fun _ c=>Bd h fun x8 hx8 h=>Cb c (XP hx8) ⟨.f 4,tt⟩ call82 fun i5 _ _ c=>?_)
 refine Fp [] 1 c fun _ c=>E0 ?_
 replace c:=c.fz 4
 cases h
 exact wp_ret (br (tr (Rt c (i5.1,i5.2,k2.2.1,k2.p2) [0,1] [5])))
 refine P0 [] c fun _ c=>I0 c h (fun h=>?_) fun h=>?_
 refine T1 (Fp [(1,1)] 2 c fun _ c=>Bd h fun x9 hx9 h=>Cb c (Zbs hx9) tt call81 fun i6 _ _ c=>?_)
 refine Fp [] 1 c fun _ c=>?_
 replace c:=c.fz 4
 refine Eltr 27 ([(hd i6.1 x9 i6.2),(hd a8 x7 c8)]:List Hd) ([x9,x7]:List (List Int)) c ⟨.f 5,.f 4,tt⟩ fun a9 c9 _ _ c=>?_
 refine Fp [] 1 c fun _ c=>E1 (bk (tn (P0 [(1,1)] c fun _ c=>S0 (P0 [] c fun _ c=>Mp (p1.Op == 2) [(18,I 4)] [(18,I p1.Op)] [(18,I (cond (p1.Op == 2) 4 p1.Op))] [18] c fun _ c=>S0 (T0 (Fp [] 1 c fun _ c=>Bd h fun x10 hx10 h=>Eemr 4 6 c hx10 fun _ u3 _ c=>?_))))))
 obtain ⟨a10,c10,rfl⟩:=c.sl 7
 refine Fp [] 2 c fun _ c=>E0 (I0 c h (fun h=>?_) fun h=>?_)
 refine T0 (Fp [] 3 c fun _ c=>Esb 0 2 (.bool true) c fun _ c=>?_)
 refine E0 (T0 (Fp [(1,1)] 2 c fun _ c=>?_))
 replace c:=c.nf
 refine Bd h fun x11 hx11 h=>Cb c (Y6 hx11) tt call84 fun i7 _ _ c=>?_
 refine Fp [] 1 c fun _ c=>E0 ?_
 replace c:=c.fz 5
 cases h
 exact wp_ret (tr (Rt c (i7.1,i7.2,k2.2.1,k2.p2) [0,1] [8]))
 refine K0 (Bd h fun x12 hx12 h=>?_)
 obtain ⟨ep1,u4,he1,c⟩:=c.elo 4 6 hx12
 obtain ⟨a11,c11,rfl⟩:=c.sl 8
 refine Bd h fun x13 hx13 h=>?_
 obtain ⟨ep2,u5,he2,c⟩:=c.elo 4 6 hx13
 obtain ⟨a12,c12,rfl⟩:=c.sl 9
 refine S0 (Z9 mix (rM 8 [(3,.eq (.pointer (some ep1))),(4,.eq (L a11 x12 c11)),(6,.eq (.pointer (some ep2))),(7,.eq (L a12 x13 c12))] [] c (fun ow=>⟨Zc ow (NieW c he1),Zc ow (NleW c he1),Zc ow (NieW c he2),Zc ow (NleW c he2),tt⟩) fun _ _ _ _ _ c=>Bd h fun x14 hx14 h=>Cf [0,1] c (Zan hx14) ⟨.f 8,.f 9,tt⟩ call85 fun i8 _ _ c=>?_))
 refine Fp [] 1 c fun _ c=>E0 ?_
 cases h
 exact wp_ret (Rt c (i8.1,i8.2.1,i8.p2,i8.q3) [3,4] [10])
 refine P0 [] c fun _ c=>I0 c h (fun h=>?_) fun h=>?_
 refine T0 (Elt 3 ([]:List Int) c fun a13 c13 _ _ c=>?_)
 refine Fp [] 1 c fun _ c=>E0 (S0 (P0 [] c fun _ c=>Bd h fun rl4 hit4 h=>Lp (fun s4  (i:Ob Oh)=>([(0,B gb0 0),(4,B b1 0),(12,L k2.p3 rl3.1 k2.q4),(15,L a8 x7 c8),(16,L i.p2 s4.2.1 i.q3),(17,I s4.1)],fun Γ=>((Γ.set 0 (BX gb0 81 [I s4.p2,L i.1 s4.q4 i.2.1,.bool s4.p3])).set 1 (sl84 (L i.1 s4.q4 i.2.1) s4.q4)).set 4 (sl3 (L i.p2 s4.2.1 i.q3) s4.2.1),[])) (fun  (i:Ob Oh)=>([(16,L i.p2 rl4.1 i.q3)],fun Γ=>((Γ.set 0 (BX gb0 81 [I rl4.2.1,L i.1 rl4.q3 i.2.1,.bool rl4.p2])).set 1 (sl84 (L i.1 rl4.q3 i.2.1) rl4.q3)).set 4 (sl3 (L i.p2 rl4.1 i.q3) rl4.1),[])) hit4 c (k2.2.1,k2.p2,a13,c13) (c.rk (rg 5) (rg 5)) (fun s4 q4 i9 _ _ c h hr4=>?_) fun k3 _ _ c=>?_))
 refine S0 (P0 [(2,1)] c fun _ c=>I0 c h (fun h=>?_) fun h=>?_)
 refine K0 (S0 (wp_block (Z9 mix ?_)))
 refine Rh 0 ?_
 refine Bd h fun x15 hx15 h=>Bd h fun x16 hx16 h=>?_
 obtain ⟨ep3,u6,he3,c⟩:=c.elo 3 3 hx16
 obtain ⟨a14,c14,rfl⟩:=c.sl 5
 refine Bd h fun x17 hx17 h=>Bd h fun x18 hx18 h=>?_
 obtain ⟨ep4,u7,he4,c⟩:=c.elo 3 3 hx18
 obtain ⟨a15,c15,rfl⟩:=c.sl 6
 refine Bd h fun x19 hx19 h=>rM 17 [(3,Pd.el (x15:Int)),(4,.eq (I x15)),(6,.eq (.pointer (some ep3))),(7,.eq (L a14 x16 c14)),(9,Pd.el (x17:Int)),(10,.eq (I x17)),(12,.eq (.pointer (some ep4))),(13,.eq (L a15 x18 c15)),(15,Pd.el (x19:Int)),(16,.eq (I x19))] [] c (fun ow=>⟨Zc ow (Nid c (.f 4) (kN hx15)),Zc ow (Nld c 3 (q:=x15) (atM 3 (p:=.el (x15:Int)))),Zc ow (NieW c he3),Zc ow (NleW c he3),Zc ow (Nid c (.f 5) (kN hx17)),Zc ow (Nld c 9 (q:=x17) (atM 9 (p:=.el (x17:Int)))),Zc ow (NieW c he4),Zc ow (NleW c he4),Zc ow (Nid c (.f 6) (kN hx19)),Zc ow (Nld c 15 (q:=x19) (atM 15 (p:=.el (x19:Int)))),tt⟩) fun _ _ _ _ _ c=>?_
 refine Bd h fun x20 hx20 h=>Ca [0,1] c (ZM hx20) tt call83 fun i10 _ _ c=>?_
 refine Elt 3 ([x20.1]:List Int) c fun a16 c16 _ _ c=>?_
 replace c:=c.nf
 refine Bd h fun x21 hx21 h=>Eap 2 c (.g 5) hx21 fun a17 c17 _ _ c=>?_
 refine Fp [] 1 c fun _ c=>E1 (bk (tn (P1 [] c fun _ c=>Nx h (i10.1,i10.2,a17,c17) (c.rk [3,4,0,1,2] (rg 5)))))
 refine wp_exit (te (te (be ?_)))
 obtain rfl:=hr4 _ (sk h)
 exact tn ⟨(i9.1,i9.2.1,i9.p2,i9.q3),c.rk (rg 5) (rg 5)⟩
 refine P0 [] c fun _ c=>?_
 replace c:=c.fz 4
 cases h
 exact wp_ret (br (tr (Rt c (k3.p2,k3.q3,k3.1,k3.2.1) [0,1] [5])))
 refine P0 [] c fun _ c=>I0 c h (fun h=>?_) fun h=>?_
 refine T0 (Elt 3 ([]:List Int) c fun a18 c18 _ _ c=>?_)
 refine Fp [] 1 c fun _ c=>Bd h fun x22 hx22 h=>Eemr 3 3 c hx22 fun _ u8 _ c=>?_
 obtain ⟨a19,c19,rfl⟩:=c.sl 5
 refine Bd h fun x23 hx23 h=>Eap 4 c (.f 5) hx23 fun a20 c20 _ _ c=>?_
 refine Fp [] 1 c fun _ c=>Bd h fun x24 hx24 h=>Eap 4 c (.f 4) hx24 fun a21 c21 _ _ c=>?_
 refine Fp [] 1 c fun _ c=>E0 ?_
 replace c:=c.fz 4
 cases h
 exact wp_ret (br (tr (Rt c (a21,c21,k2.2.1,k2.p2) [0,1] [6])))
 refine P0 [] c fun _ c=>I0 c h (fun h=>?_) fun h=>?_
 refine T0 (Fp [(2,1),(4,1),(6,1)] 8 c fun _ c=>Bd h fun x25 hx25 h=>Esl 3 c (.f 4) hx25 fun u9 _ c=>?_)
 obtain ⟨a22,c22,rfl⟩:=c.sl 5
 refine Fp [] 1 c fun _ c=>E0 ?_
 cases h
 exact wp_ret (br (tr (Rt c (a22,c22,k2.2.1,k2.p2) [0,1] [5])))
 refine P0 [] c fun _ c=>I0 c h (fun h=>?_) fun h=>?_
 refine Bd h fun x26 hx26 h=>S0 (Z9 mix (rM 8 [(0,Pd.l0),(2,Pd.nw c.wd 2 (fun i:Oh=>L i.1 x26 i.2) (fun i=>SL 3 (L i.1 x26 i.2) x26))] [(4,1)] c (fun ow=>⟨Zc ow (Nl0 3 c),Nap0 c 0 (atM 0 (p:=.l0)) (.f 4) (kN hx26),tt⟩) fun ow _ _ hE hc cq=>?_))
 obtain ⟨i11,hi11⟩:=hE.nw 2 146
 replace c:=Cx.newt c hc cq [(2,146,_,_)] ⟨hi11,tt⟩
 refine Bd h fun x27 hx27 h=>Cb c (Y6 hx27) tt call84 fun i12 _ _ c=>?_
 replace c:=c.nf
 refine Bd h fun x28 hx28 h=>Eap 4 c (.g 5) hx28 fun a23 c23 _ _ c=>?_
 refine Fp [] 1 c fun _ c=>E0 ?_
 replace c:=c.fz 4
 cases h
 exact wp_ret (br (tr (Rt c (a23,c23,k2.2.1,k2.p2) [0,1] [5])))
 refine P0 [] c fun _ c=>I0 c h (fun h=>?_) fun h=>?_
 refine Bd h fun x29 hx29 h=>Bd h fun x30 hx30 h=>S0 (Z9 mix (rM 14 [(0,Pd.l0),(2,Pd.nw c.wd 2 (fun i:Oh=>L i.1 x29 i.2) (fun i=>SL 3 (L i.1 x29 i.2) x29)),(12,Pd.el (x30:Int)),(13,.eq (I x30))] [(4,1)] c (fun ow=>⟨Zc ow (Nl0 3 c),Nap0 c 0 (atM 0 (p:=.l0)) (.f 4) (kN hx29),Zc ow (Nid c (.f 4) (kN hx30)),Zc ow (Nld c 12 (q:=x30) (atM 12 (p:=.el (x30:Int)))),tt⟩) fun ow _ _ hE hc cq=>?_))
 obtain ⟨i13,hi13⟩:=hE.nw 2 158
 replace c:=Cx.newt c hc cq [(2,158,_,_)] ⟨hi13,tt⟩
 refine Bd h fun x31 hx31 h=>Cb c (Y6 hx31) tt call84 fun i14 _ _ c=>?_
 replace c:=c.nf
 refine Bd h fun x32 hx32 h=>Eap 4 c (.g 5) hx32 fun a24 c24 _ _ c=>?_
 refine Fp [] 1 c fun _ c=>E0 ?_
 replace c:=c.fz 4
 cases h
 exact wp_ret (br (tr (Rt c (a24,c24,k2.2.1,k2.p2) [0,1] [5])))
 refine K1 (bk (tn (P0 [(1,1)] c fun _ c=>S0 (P0 [] c fun _ c=>Mp (p1.Op == 2) [(18,I 4)] [(18,I p1.Op)] [(18,I (cond (p1.Op == 2) 4 p1.Op))] [18] c fun _ c=>S0 (T0 (Fp [] 1 c fun _ c=>Bd h fun x33 hx33 h=>Eemr 3 3 c hx33 fun _ u10 _ c=>?_))))))
 obtain ⟨a25,c25,rfl⟩:=c.sl 5
 refine Fp [] 2 c fun _ c=>E0 (I0 c h (fun h=>?_) fun h=>?_)
 refine T0 (Fp [] 3 c fun _ c=>Esb 0 2 (.bool true) c fun _ c=>?_)
 refine E0 (T0 (Fp [(1,1)] 2 c fun _ c=>Bd h fun x34 hx34 h=>Cb c (Y6 hx34) tt call84 fun i15 _ _ c=>?_))
 refine Fp [] 1 c fun _ c=>E0 ?_
 replace c:=c.fz 4
 cases h
 exact wp_ret (tr (Rt c (i15.1,i15.2,k2.2.1,k2.p2) [0,1] [6]))
 refine K0 (Bd h fun x35 hx35 h=>?_)
 obtain ⟨ep5,u11,he5,c⟩:=c.elo 3 3 hx35
 obtain ⟨a26,c26,rfl⟩:=c.sl 6
 refine Bd h fun x36 hx36 h=>?_
 obtain ⟨ep6,u12,he6,c⟩:=c.elo 3 3 hx36
 obtain ⟨a27,c27,rfl⟩:=c.sl 7
 refine S0 (Z9 mix (rM 8 [(3,.eq (.pointer (some ep5))),(4,.eq (L a26 x35 c26)),(6,.eq (.pointer (some ep6))),(7,.eq (L a27 x36 c27))] [] c (fun ow=>⟨Zc ow (NieW c he5),Zc ow (NleW c he5),Zc ow (NieW c he6),Zc ow (NleW c he6),tt⟩) fun _ _ _ _ _ c=>Bd h fun x37 hx37 h=>Cf [0,1] c (Zan hx37) ⟨.f 6,.f 7,tt⟩ call85 fun i16 _ _ c=>?_))
 refine Fp [] 1 c fun _ c=>E0 ?_
 cases h
 exact wp_ret (Rt c (i16.1,i16.2.1,i16.p2,i16.q3) [2,3] [8])
theorem Zcv {p0 r} (h:Xo n p0 = some r):Con prog 13 [tV p0 ga0 gc1] [] [lR ga0 p0.Kids gc1] fun (i:Ob Oh)=>([.agg #[I r.1.Inputs,L i.1 r.1.Gates i.2.1],L i.p2 r.2.1 i.q3,.bool r.2.2],[sl84 (L i.1 r.1.Gates i.2.1) r.1.Gates,sl3 (L i.p2 r.2.1 i.q3) r.2.1],[]):=by
 unfold Xo at h
 refine En func13 rfl ntmps13 fun _ fr w c=>?_
 refine T0 (Ebx (tC p0 ga0 gc1) c fun b1 _ _ c=>?_)
 refine Eal [I 0,L none ([]:List D.Gate) 0] c fun b2 _ _ c=>?_
 refine Fp [] 2 c fun _ c=>E0 (T0 (Fp [(0,0)] 1 c fun _ c=>Bd h fun x1 hx1 h=>Cg c (ZbC hx1) ⟨.f 0,tt⟩ call16 fun i1 _ _ c=>?_))
 refine Fp [] 1 c fun _ c=>E0 (S0 (Bd h fun x2 hx2 h=>Bd h fun x3 hx3 h=>S0 (rZ [(1,.eq (.bool x2)),(5,.eq (I x3))] [(0,0)] mix c ⟨Ncl c (kN (Za6 hx2)) ⟨.f 0,tt⟩ call24,Ncl c (fun hg=>Zbt (iteF (gcF hg) hx3)) ⟨.f 1,tt⟩ call25,tt⟩ fun _ _ c=>I0 c h (fun h=>?_) fun h=>?_)))
 refine T0 (Fp [] 1 c fun _ c=>Ess 1 [I 0,L none ([]:List D.Gate) 0] c fun _ c=>?_)
 refine Fp [] 2 c fun _ c=>E0 ?_
 replace c:=c.nil (α:=D.Gate) 84
 replace c:=c.nil (α:=Int) 3
 cases h
 exact wp_ret (tr (Rg c (none,0,none,0) [2,3] [] (.cell (α:=Agg 1) kk (.b 1) (.tmp (.tmp .nil)))))
 refine K0 (T0 (Fp [] 1 c fun _ c=>Bd h fun x4 hx4 h=>Cb c (Zbt hx4) ⟨.f 1,tt⟩ call25 fun _ _ _ c=>?_))
 refine Fp [] 1 c fun _ c=>Bd h fun x5 hx5 h=>Cb c (Zd3 hx5) ⟨.nil,tt⟩ call40 fun i2 _ _ c=>?_
 refine Fp [] 1 c fun _ c=>E0 (T0 (Fp [(1,0)] 3 c fun _ c=>?_))
 replace c:=c.ng
 refine Bd h fun x6 hx6 h=>Cf [2,3] c (Zbi hx6) ⟨.f 0,.f 1,tt⟩ call41 fun i3 _ _ c=>?_
 refine Fp [] 1 c fun _ c=>E0 (S0 (P0 [(3,2)] c fun _ c=>I0 c h (fun h=>?_) fun h=>?_))
 refine T0 (Fp [] 1 c fun _ c=>Ess 1 [I 0,L none ([]:List D.Gate) 0] c fun _ c=>?_)
 refine Fp [] 2 c fun _ c=>E0 ?_
 replace c:=c.nil (α:=D.Gate) 84
 replace c:=c.nil (α:=Int) 3
 cases h
 exact wp_ret (tr (Rg c (none,0,none,0) [4,5] [] (.cell (α:=Agg 1) kk (.b 1) (.tmp (.tmp .nil)))))
 refine K0 (Bd h fun x7 hx7 h=>S0 (Z9 mix (rM 7 [(4,Pd.l0),(6,Pd.nw c.wd 6 (fun i:Oh=>L i.1 x7 i.2) (fun i=>SL 3 (L i.1 x7 i.2) x7))] [(3,2)] c (fun ow=>⟨Zc ow (Nl0 3 c),Nap0 c 4 (atM 4 (p:=.l0)) (.f 2) (kN hx7),tt⟩) fun ow _ _ hE hc cq=>?_)))
 obtain ⟨i4,hi4⟩:=hE.nw 6 38
 replace c:=Cx.newt c hc cq [(6,38,_,_)] ⟨hi4,tt⟩
 refine Ess 1 [I x6.2.c.Inputs,L i3.p2 x6.2.c.Gates i3.q3] c fun _ c=>?_
 refine Fp [] 2 c fun _ c=>E0 ?_
 cases h
 exact wp_ret (Rg c (i3.p2,i3.q3,i4.1,i4.2) [3,4] [] (.cell (α:=Agg 1) kk (.b 1) (.tmp (.tmp .nil))))
theorem ZaF {p0 p1 r} (h:ZW p0 p1 = some r):C0 42 [I p0,I p1] [] (.bool r):=by
 unfold ZW at h
 refine En func42 rfl ntmps42 fun _ fr w c=>?_
 refine P0 [] c fun _ c=>S0 (Ry [] mix c fun _ _ c=>?_)
 exact rE
theorem ZaA {p0 r} (h:YQ n p0 = some r):C0 14 [.agg #[I p0.Inputs,L ga0 p0.Gates gc1]] [lR ga0 p0.Gates gc1] (.bool r):=by
 unfold YQ at h
 refine En func14 rfl ntmps14 fun _ fr w c=>?_
 refine T0 (Ebx [I p0.Inputs,L ga0 p0.Gates gc1] c fun b1 _ _ c=>?_)
 refine Fp [] 1 c fun _ c=>E0 (S0 (S0 (Ry [(1,0),(5,0),(10,0)] mix c fun _ _ c=>I0 c h (fun h=>?_) fun h=>?_)))
 exact P0 [] c fun _ c=>rE
 refine K0 (T0 (Emm map82 c fun b2 _ _ c=>?_))
 refine Fp [] 1 c fun _ c=>E0 (S0 (P0 [(1,0)] c fun _ c=>Bd h fun rl1 hit1 h=>?_))
 have hk1:=h
 refine LpR (fun s1  (_:Unit)=>([(1,B b1 0),(3,.map (some b2)),(23,L ga0 p0.Gates gc1),(24,I (len p0.Gates)),(25,I s1.1)],fun Γ=>Γ.set 1 (MP map82 b2 s1.2),[])) (fun s  (_:Unit)=>([],fun Γ=>Γ.set 1 (MP map82 b2 s),[])) hit1 c () (c.rk [0,1] [0]) (fun s1 q1 _ _ _ c h hr1=>?_) fun s1r _ _ _ hrl c=>?_
 refine P0 [] c fun _ c=>S0 (I0 c h (fun h=>?_) fun h=>?_)
 refine K0 (S0 (wp_block (T0 (Fp [] 1 c fun _ c=>Bd h fun x1 hx1 h=>Eel c (.f 0) hx1 fun _ _ c=>?_))))
 refine Eal [I 0,I 0] c fun b3 _ _ c=>?_
 refine Fp [] 1 c fun _ c=>Ess 2 [I x1.A,I x1.B] c fun _ c=>?_
 refine E0 (P0 [(1,0)] c fun _ c=>S0 (Bd h fun x2 hx2 h=>Bd h fun x3 hx3 h=>Bd h fun x4 hx4 h=>S0 (rZ [(3,.eq (.bool x2)),(9,.eq (.bool x3)),(15,.eq (.bool x4))] [(1,1),(7,1),(14,1)] mix c ⟨Ncl c (kN (ZaF hx2)) tt call42,Ncl c (fun hg=>ZaF (iteF (gcF hg) hx3)) tt call42,Nmg 1 c (gF hx4),tt⟩ fun _ _ c=>I0 c h (fun h=>?_) fun h=>?_)))
 refine P0 [] c fun _ c=>?_
 obtain rfl:=hr1 _ (sk h)
 obtain rfl:=sj hk1
 exact wp_ret (tr (br (tr (tr (br (tr (Rt c () [] [])))))))
 refine K0 (S0 (Bd h fun x5 hx5 h=>Bd h fun x6 hx6 h=>Bd h fun x7 hx7 h=>S0 (rZ [(2,.eq (I x5)),(7,.eq (I x6)),(10,.eq (I x7))] [(1,1),(6,1),(9,1)] mix c ⟨Ncl c (kN (X9 hx5)) tt call43,Ncl c (fun hg=>X9 (iteF (gcF hg) hx6)) tt call43,Ncl c (fun hg=>X9 (iteF (gcF hg) hx7)) tt call43,tt⟩ fun _ _ c=>I0 c h (fun h=>?_) fun h=>?_)))
 refine P0 [] c fun _ c=>?_
 obtain rfl:=hr1 _ (sk h)
 obtain rfl:=sj hk1
 exact wp_ret (tr (br (tr (tr (br (tr (Rt c () [] [])))))))
 refine K0 (T1 (Fp [(1,1)] 2 c fun _ c=>Bd h fun x8 hx8 h=>Empb 1 c hx8 fun _ c=>?_))
 refine E1 (bk (tn (P1 [] c fun _ c=>Nx h () (c.rk [0,1] [0]))))
 refine wp_exit (te (te (be ?_)))
 obtain rfl:=hr1 _ (sk h)
 exact tn ⟨_,(),rfl,c.rk [0,1] [0]⟩
 subst hrl
 exact P0 [] c fun _ c=>rE
theorem Zce {p0 p1 p2 r} (h:Xf n p0 p1 p2 = some r):Con prog 15 [L ga0 p0 gc1,I p1,L ga2 p2 gc3] [] [lR ga0 p0 gc1,lR ga2 p2 gc3] fun (i:Oh)=>([L i.1 r i.2],[sl45 (L i.1 r i.2) r],[]):=by
 unfold Xf at h
 refine En func15 rfl ntmps15 fun _ fr w c=>?_
 refine P0 [] c fun _ c=>T0 (Fp [] 2 c fun _ c=>Bd h fun x1 hx1 h=>Cg c (ZaK hx1) ⟨.f 0,tt⟩ call23 fun i1 _ _ c=>?_)
 refine Fp [] 1 c fun _ c=>E0 (T0 (Elt 45 ([]:List D.Value) c fun a1 c1 _ _ c=>?_))
 refine Fp [] 1 c fun _ c=>E0 (S0 (P0 [] c fun _ c=>Bd h fun rl1 hit1 h=>Lp (fun s1  (i:Oh)=>([(7,B i1.1 0),(8,L i.1 s1.2.1 i.2),(15,L ga2 p2 gc3),(16,I (len p2)),(17,I s1.1)],fun Γ=>(Γ.set 0 (BX i1.1 102 [L i1.2.1 x1.b i1.q2,I s1.p2,I s1.q3])).set 1 (sl45 (L i.1 s1.2.1 i.2) s1.2.1),[])) (fun  (i:Oh)=>([(8,L i.1 rl1.1 i.2)],fun Γ=>(Γ.set 0 (BX i1.1 102 [L i1.2.1 x1.b i1.q2,I rl1.2.1,I rl1.q2])).set 1 (sl45 (L i.1 rl1.1 i.2) rl1.1),[])) hit1 c (a1,c1) (c.rk [0,1] [0,1,2]) (fun s1 q1 i2 _ _ c h hr1=>?_) fun k1 _ _ c=>?_))
 refine P0 [] c fun _ c=>S0 (I0 c h (fun h=>?_) fun h=>?_)
 refine K0 (S0 (wp_block (T0 (Bd h fun x2 hx2 h=>Eel c (.f 1) hx2 fun _ _ c=>?_))))
 refine Eal [Str.val ⟨[]⟩,I 0,I 0] c fun b1 _ _ c=>?_
 refine Ess 2 (vC x2) c fun _ c=>?_
 refine E0 (Bd h fun x3 hx3 h=>Bd h fun x4 hx4 h=>S0 (Jn (fun _:Unit=>([(7,B i1.1 0),(8,L i2.1 s1.2.1 i2.2),(10,B b1 0),(15,L ga2 p2 gc3),(16,I (len p2)),(17,I s1.1)],fun Γ=>(Γ.set 0 (BX i1.1 102 [L i1.2.1 x1.b i1.q2,I x3.2.i,I x3.2.h])).set 2 (BX b1 45 [Str.val x2.Name,I x2.W,I (band x3.1 (w64 (x4 - 1)))]),[])) c ?_ fun _ _ _ c=>?_))
 refine As mix c fun _ c=>?_
 replace c:=Cx.frs [(7,B i1.1 0),(8,L i2.1 s1.2.1 i2.2),(10,B b1 0),(15,L ga2 p2 gc3),(16,I (len p2)),(17,I s1.1)] c
 refine Dq (fun _:Unit=>([(7,B i1.1 0),(8,L i2.1 s1.2.1 i2.2),(10,B b1 0),(15,L ga2 p2 gc3),(16,I (len p2)),(17,I s1.1)],fun Γ=>(Γ.set 0 (BX i1.1 102 [L i1.2.1 x1.b i1.q2,I x3.2.i,I x3.2.h])).set 2 (BX b1 45 [Str.val x2.Name,I x2.W,I (band x3.1 (w64 (x4 - 1)))]),[])) (bN 9 511) (fun _=>[]) c (fun _=>?_) fun hd4=>?_
 refine qnE tt fun _ _ c=>?_
 exact nN () (c.rk [0,1,2] [0,1,2])
 refine Dq (fun _:Unit=>([(7,B i1.1 0),(8,L i2.1 s1.2.1 i2.2),(10,B b1 0),(15,L ga2 p2 gc3),(16,I (len p2)),(17,I s1.1),(22,I x3.1),(25,I x4)],fun Γ=>Γ.set 0 (BX i1.1 102 [L i1.2.1 x1.b i1.q2,I x3.2.i,I x3.2.h]),[])) (bN 9 31) (fun _=>[(5,26,I (w64 (x4 - 1))),(6,27,I (band x3.1 (w64 (x4 - 1)))),(7,28,B b1 2)]) c (fun _=>?_) fun hd3=>?_
 refine qn [8] ⟨qP [],qP [],qP [],tt⟩ ⟨fun _ _ c=>?_,tt⟩
 refine Ye _ rfl rfl ?_
 refine Esb 2 2 (I (band x3.1 (w64 (x4 - 1)))) c fun _ c=>?_
 refine E0 (nQ hd4 () (c.rk [0,1,2] [0,1,2]))
 refine Dq (fun _:Unit=>([(7,B i1.1 0),(8,L i2.1 s1.2.1 i2.2),(10,B b1 0),(15,L ga2 p2 gc3),(16,I (len p2)),(17,I s1.1),(22,I x3.1)],fun Γ=>Γ.set 0 (BX i1.1 102 [L i1.2.1 x1.b i1.q2,I x3.2.i,I x3.2.h]),[])) (bN 9 3) (fun _=>[(2,23,B b1 1),(3,24,I x2.W)]) c (fun _=>?_) fun hd1=>?_
 refine qn [4] ⟨qP [],qP [(0,1)],tt⟩ ⟨fun _ _ c=>?_,tt⟩
 refine Ye _ rfl rfl ?_
 refine Eshl c hx4 fun _ c=>?_
 refine E0 (nQ hd3 () (c.rk [0,1,2] [0,1,2]))
 refine Dq (fun _:Unit=>([(7,B i1.1 0),(8,L i2.1 s1.2.1 i2.2),(10,B b1 0),(15,L ga2 p2 gc3),(16,I (len p2)),(17,I s1.1),(25,I x4)],id,[])) (bN 9 28) (fun _=>[(0,21,B i1.1 0),(5,26,I (w64 (x4 - 1)))]) c (fun _=>?_) fun hd2=>?_
 refine qn [1] ⟨qP [],qP [],tt⟩ ⟨fun _ _ c=>?_,tt⟩
 refine Ye _ rfl rfl ?_
 refine Ca [0] c (Zq hx3) ⟨.f 2,tt⟩ call44 fun _ _ _ c=>?_
 refine E0 (nQ hd3 () (c.rk [2,0,1] [0,1,2]))
 refine q0 (qs:=[(0,21,B i1.1 0),(2,23,B b1 1),(3,24,I x2.W)]) c (qn [1,4] ⟨qP [],qP [],qP [(0,1)],tt⟩ ⟨fun _ _ c=>?_,fun _ _ c=>?_,tt⟩)
 refine Ye _ rfl rfl ?_
 refine Ca [0] c (Zq hx3) ⟨.f 2,tt⟩ call44 fun _ _ _ c=>?_
 refine E0 (nQ hd1 () (c.rk [2,0,1] [0,1,2]))
 refine Ye _ rfl rfl ?_
 refine Eshl c hx4 fun _ c=>?_
 refine E0 (nQ hd2 () (c.rk [0,1,2] [0,1,2]))
 refine T1 (Fp [(1,1)] 2 c fun _ c=>Elt 45 ([(D.Value.mk x2.Name x2.W (band x3.1 (w64 (x4 - 1))))]:List D.Value) c fun a2 c2 _ _ c=>?_)
 refine Bd h fun x5 hx5 h=>Eap 1 c (.g 3) hx5 fun a3 c3 _ _ c=>?_
 refine Fp [] 1 c fun _ c=>E1 (bk (tn (P1 [] c fun _ c=>Nx h (a3,c3) (c.rk [0,1] [0,1,2]))))
 refine wp_exit (te (te (be ?_)))
 obtain rfl:=hr1 _ (sk h)
 exact tn ⟨(i2.1,i2.2),c.rk [0,1] [0,1,2]⟩
 refine P0 [] c fun _ c=>?_
 cases h
 exact wp_ret (Rt c (k1.1,k1.2) [1] [])
theorem ZcJ {p0 r} (h:XE n p0 = some r):C0 46 [L ga0 p0 gc1] [lR ga0 p0 gc1] (.bool r):=by
 unfold XE at h
 refine En func46 rfl ntmps46 fun _ fr w c=>?_
 refine P0 [] c fun _ c=>S0 (P0 [] c fun _ c=>Bd h fun rl1 hit1 h=>?_)
 have hk1:=h
 refine LpR (fun s1  (_:Unit)=>([(0,L ga0 p0 gc1),(5,L ga0 p0 gc1),(6,I (len p0)),(7,I s1)],id,[])) (fun s  (_:Unit)=>([(0,L ga0 p0 gc1)],id,[])) hit1 c () (c.rk [] [0]) (fun s1 q1 _ _ _ c h hr1=>?_) fun s1r _ _ _ hrl c=>?_
 refine P0 [] c fun _ c=>S0 (I0 c h (fun h=>?_) fun h=>?_)
 refine K0 (S0 (wp_block (T0 (Fp [] 1 c fun _ c=>Bd h fun x1 hx1 h=>Eel c (.f 0) hx1 fun _ _ c=>?_))))
 refine Eal [Str.val ⟨[]⟩,I 0,I 0] c fun b1 _ _ c=>?_
 refine Fp [] 1 c fun _ c=>Ess 0 (vC x1) c fun _ c=>?_
 refine E0 (Bd h fun x2 hx2 h=>Bd h fun x3 hx3 h=>Bd h fun x4 hx4 h=>S0 (rZ [(2,.eq (.bool x2)),(9,.eq (.bool x3)),(19,Pd.el (x4:D.Value)),(20,Pd.fl (Str.val x4.Name)),(21,.eq (Str.val x4.Name))] [(1,0),(6,0),(8,0),(23,0)] mix c ⟨Ncl c (kN (ZbG hx2)) tt call86,Ncl c (fun hg=>ZY (iteF (gcF hg) hx3)) tt call33,Nid c (.f 0) (fun hg=>(iteF (gcF (g':=12) (gU 15 hg)) (iteT (gcT (g':=15) hg) hx4))),Nfa c 19 (atN 19) Zg7,Nlf c 20 (atN 20),tt⟩ fun _ _ c=>I0 c h (fun h=>?_) fun h=>?_))
 refine P0 [] c fun _ c=>?_
 obtain rfl:=hr1 _ (sk h)
 obtain rfl:=sj hk1
 exact wp_ret (br (tr (tr (br (tr (Rt c () [] []))))))
 refine K1 (bk (tn (P1 [] c fun _ c=>Nx h () (c.rk [] [0]))))
 refine wp_exit (te (te (be ?_)))
 obtain rfl:=hr1 _ (sk h)
 exact tn ⟨_,(),rfl,c.rk [] [0]⟩
 subst hrl
 exact P0 [] c fun _ c=>rE
theorem Zdi {p0 p1 r} (h:X5 n p0 p1 = some r):C0 62 [L ga0 p0 gc1,Str.val p1] [lR ga0 p0 gc1] (I r):=by
 unfold X5 at h
 refine En func62 rfl ntmps62 fun _ fr w c=>?_
 refine P0 [] c fun _ c=>S0 (P0 [] c fun _ c=>Bd h fun rl1 hit1 h=>?_)
 have hk1:=h
 refine LpR (fun s1  (_:Unit)=>([(1,Str.val p1),(7,L ga0 p0 gc1),(8,I (len p0)),(9,I s1)],id,[])) (fun s  (_:Unit)=>([],id,[])) hit1 c () (c.rk [] [0]) (fun s1 q1 _ _ _ c h hr1=>?_) fun s1r _ _ _ hrl c=>?_
 refine P0 [] c fun _ c=>S0 (I0 c h (fun h=>?_) fun h=>?_)
 refine K0 (S0 (wp_block (T0 (Fp [] 1 c fun _ c=>Bd h fun x1 hx1 h=>Eel c (.f 0) hx1 fun _ _ c=>?_))))
 refine Eal [Str.val ⟨[]⟩,I 0,I 0] c fun b1 _ _ c=>?_
 refine Fp [] 1 c fun _ c=>Ess 0 (vC x1) c fun _ c=>?_
 refine E0 (P0 [(1,0)] c fun _ c=>I0 c h (fun h=>?_) fun h=>?_)
 refine P0 [] c fun _ c=>?_
 obtain rfl:=hr1 _ (sk h)
 obtain rfl:=sj hk1
 exact wp_ret (br (tr (tr (br (tr (Rt c () [] []))))))
 refine K1 (bk (tn (P1 [] c fun _ c=>Nx h () (c.rk [] [0]))))
 refine wp_exit (te (te (be ?_)))
 obtain rfl:=hr1 _ (sk h)
 exact tn ⟨_,(),rfl,c.rk [] [0]⟩
 subst hrl
 exact P0 [] c fun _ c=>rE
theorem Yz {p0 p1 r} (h:ZP p0 p1 = some r):C0 146 [I p0,I p1] [] (I r):=by
 unfold ZP at h
 refine En func146 rfl ntmps146 fun _ fr w c=>?_
 refine P0 [] c fun _ c=>S0 (T0 (Fp [] 1 c fun _ c=>Bd h fun x1 hx1 h=>Cb c (Zt hx1) tt call51 fun _ _ _ c=>?_))
 refine Fp [] 1 c fun _ c=>E0 (I0 c h (fun h=>P0 [] c fun _ c=>rE) fun h=>?_)
 refine K0 (T0 (Fp [] 2 c fun _ c=>Bd h fun x2 hx2 h=>Eshl c hx2 fun _ c=>?_))
 exact Fp [] 3 c fun _ c=>E0 rE
theorem Zcf {p0 p1 p2 r} (h:Y4 p0 p1 p2 = some r):C0 101 [I p0,I p1,I p2] [] (I r):=by
 unfold Y4 at h
 refine En func101 rfl ntmps101 fun _ fr w c=>?_
 refine P0 [] c fun _ c=>S0 (wp_block (T0 (Fp [] 2 c fun _ c=>Bd h fun x1 hx1 h=>Cb c (ZY hx1) tt call33 fun _ _ _ c=>?_)))
 refine Fp [] 2 c fun _ c=>E0 (I0 c h (fun h=>P0 [] c fun _ c=>rE) fun h=>?_)
 refine P0 [] c fun _ c=>I0 c h (fun h=>?_) fun h=>?_
 refine T0 (Fp [] 1 c fun _ c=>Bd h fun x2 hx2 h=>Eshl c hx2 fun _ c=>?_)
 exact Fp [] 4 c fun _ c=>E0 rE
 refine P0 [] c fun _ c=>I0 c h (fun h=>?_) fun h=>K1 (bk (tn (P0 [] c fun _ c=>rE)))
 refine T0 (Fp [] 3 c fun _ c=>Bd h fun x3 hx3 h=>Cb c (Yz hx3) tt call146 fun _ _ _ c=>?_)
 exact Fp [] 1 c fun _ c=>E0 rE
theorem X6 {p0 p1 r} (h:Yw p0 p1 = some r):C0 147 [I p0,I p1] [] (I r):=by
 unfold Yw at h
 refine En func147 rfl ntmps147 fun _ fr w c=>?_
 refine P0 [] c fun _ c=>S0 (T0 (Fp [] 2 c fun _ c=>Bd h fun x1 hx1 h=>Cb c (ZY hx1) tt call33 fun _ _ _ c=>?_))
 refine Fp [] 1 c fun _ c=>E0 (I0 c h (fun h=>P0 [] c fun _ c=>rE) fun h=>?_)
 refine K0 (S0 (T0 (Fp [] 3 c fun _ c=>Bd h fun x2 hx2 h=>Eshr c hx2 fun _ c=>?_)))
 refine Fp [] 1 c fun _ c=>E0 (I0 c h (fun h=>?_) fun h=>K0 (P0 [] c fun _ c=>rE))
 refine T0 (Fp [] 2 c fun _ c=>Bd h fun x3 hx3 h=>Eshl c hx3 fun _ c=>?_)
 exact Fp [] 2 c fun _ c=>E0 rE
theorem Zad {p0 r} (h:YB p0 = some r):C0 98 [.bool p0] [] (I r):=by
 unfold YB at h
 refine En func98 rfl ntmps98 fun _ fr w c=>?_
 exact P0 [] c fun _ c=>S0 (P0 [] c fun _ c=>I0 c h (fun h=>P0 [] c fun _ c=>rE) fun h=>K0 (P0 [] c fun _ c=>rE))
theorem Zca {p0 p1 p2 p3 r} (h:YS p0 p1 p2 p3 = some r):C0 102 [I p0,I p1,I p2,I p3] [] (I r):=by
 unfold YS at h
 refine En func102 rfl ntmps102 fun _ fr w c=>?_
 refine P0 [] c fun _ c=>S0 (Bd h fun x1 hx1 h=>Bd h fun x2 hx2 h=>S0 (rZ [(2,.eq (.bool x1)),(7,.eq (.bool x2))] [] mix c ⟨Ncl c (kN (ZY hx1)) tt call33,Ncl c (fun hg=>ZY (iteF (gcF hg) hx2)) tt call33,tt⟩ fun _ _ c=>I0 c h (fun h=>?_) fun h=>?_))
 exact P0 [] c fun _ c=>rE
 refine K0 (S0 (P0 [] c fun _ c=>wp_block (P0 [] c fun _ c=>I0 c h (fun h=>?_) fun h=>?_)))
 refine T0 (Fp [] 4 c fun _ c=>Bd h fun x3 hx3 h=>Cb c (Yz hx3) tt call146 fun _ _ _ c=>?_)
 exact Fp [] 1 c fun _ c=>E0 rE
 refine P0 [] c fun _ c=>I0 c h (fun h=>?_) fun h=>?_
 refine T0 (Fp [] 4 c fun _ c=>Bd h fun x4 hx4 h=>Cb c (Yz hx4) tt call146 fun _ _ _ c=>?_)
 exact Fp [] 1 c fun _ c=>E0 rE
 refine P0 [] c fun _ c=>I0 c h (fun h=>?_) fun h=>?_
 refine T0 (Fp [] 4 c fun _ c=>Bd h fun x5 hx5 h=>Cb c (Yz hx5) tt call146 fun _ _ _ c=>?_)
 exact Fp [] 1 c fun _ c=>E0 rE
 refine P0 [] c fun _ c=>I0 c h (fun h=>?_) fun h=>?_
 refine S0 (P0 [] c fun _ c=>I0 c h (fun h=>?_) fun h=>?_)
 refine T0 (Fp [] 1 c fun _ c=>Bd h fun x6 hx6 h=>Eshl c hx6 fun _ c=>?_)
 exact Fp [] 2 c fun _ c=>E0 rE
 refine K0 (T0 (Fp [] 2 c fun _ c=>Bd h fun x7 hx7 h=>Equo c hx7 fun _ c=>?_))
 exact Fp [] 1 c fun _ c=>E0 rE
 refine P0 [] c fun _ c=>I0 c h (fun h=>?_) fun h=>?_
 refine S0 (P0 [] c fun _ c=>I0 c h (fun h=>P0 [] c fun _ c=>rE) fun h=>?_)
 refine K0 (T0 (Fp [] 2 c fun _ c=>Bd h fun x8 hx8 h=>Erem c hx8 fun _ c=>?_))
 exact Fp [] 1 c fun _ c=>E0 rE
 refine P0 [] c fun _ c=>I0 c h (fun h=>P0 [] c fun _ c=>rE) fun h=>?_
 refine P0 [] c fun _ c=>I0 c h (fun h=>P0 [] c fun _ c=>rE) fun h=>?_
 refine P0 [] c fun _ c=>I0 c h (fun h=>P0 [] c fun _ c=>rE) fun h=>?_
 refine P0 [] c fun _ c=>I0 c h (fun h=>?_) fun h=>?_
 refine S0 (P0 [] c fun _ c=>I0 c h (fun h=>P0 [] c fun _ c=>rE) fun h=>?_)
 refine K0 (T0 (Fp [] 3 c fun _ c=>Bd h fun x9 hx9 h=>Eshl c hx9 fun _ c=>?_))
 refine Bd h fun x10 hx10 h=>Cb c (Yz hx10) tt call146 fun _ _ _ c=>?_
 exact Fp [] 1 c fun _ c=>E0 rE
 refine P0 [] c fun _ c=>I0 c h (fun h=>?_) fun h=>?_
 refine S0 (P0 [] c fun _ c=>I0 c h (fun h=>P0 [] c fun _ c=>rE) fun h=>?_)
 refine K0 (T0 (Fp [] 2 c fun _ c=>Bd h fun x11 hx11 h=>Eshr c hx11 fun _ c=>?_))
 exact Fp [] 1 c fun _ c=>E0 rE
 refine P0 [] c fun _ c=>I0 c h (fun h=>?_) fun h=>?_
 refine S0 (P0 [] c fun _ c=>Mp (decide (p3 ≥ p1)) [(3,I (w64 (p1 - 1)))] [(3,I p3)] [(3,I (cond (decide (p3 ≥ p1)) (w64 (p1 - 1)) p3))] [3,97,98] c fun _ c=>T0 (Fp [] 3 c fun _ c=>Bd h fun x12 hx12 h=>Cb c (X6 hx12) tt call147 fun _ _ _ c=>?_))
 refine Fp [] 1 c fun _ c=>Bd h fun x13 hx13 h=>Eshr c hx13 fun _ c=>?_
 refine Bd h fun x14 hx14 h=>Cb c (Yz hx14) tt call146 fun _ _ _ c=>?_
 exact Fp [] 1 c fun _ c=>E0 rE
 refine P0 [] c fun _ c=>I0 c h (fun h=>?_) fun h=>?_
 refine T0 (Fp [] 3 c fun _ c=>Bd h fun x15 hx15 h=>Cb c (Zad hx15) tt call98 fun _ _ _ c=>?_)
 exact Fp [] 1 c fun _ c=>E0 rE
 refine P0 [] c fun _ c=>I0 c h (fun h=>?_) fun h=>?_
 refine T0 (Fp [] 3 c fun _ c=>Bd h fun x16 hx16 h=>Cb c (Zad hx16) tt call98 fun _ _ _ c=>?_)
 exact Fp [] 1 c fun _ c=>E0 rE
 refine P0 [] c fun _ c=>I0 c h (fun h=>?_) fun h=>K1 (bk (tn (P0 [] c fun _ c=>rE)))
 refine T0 (Fp [] 2 c fun _ c=>Bd h fun x17 hx17 h=>Cb c (X6 hx17) tt call147 fun _ _ _ c=>?_)
 refine Fp [] 2 c fun _ c=>Bd h fun x18 hx18 h=>Cb c (X6 hx18) tt call147 fun _ _ _ c=>?_
 refine Fp [] 1 c fun _ c=>Bd h fun x19 hx19 h=>Cb c (Zad hx19) tt call98 fun _ _ _ c=>?_
 exact Fp [] 1 c fun _ c=>E0 rE
theorem ZcG {p0 p1 p2 p3 r} (h:Xu p0 p1 p2 p3 = some r):C0 103 [I p0,I p1,I p2,I p3] [] (I r):=by
 unfold Xu at h
 refine En func103 rfl ntmps103 fun _ fr w c=>?_
 refine P0 [] c fun _ c=>S0 (Bd h fun x1 hx1 h=>Bd h fun x2 hx2 h=>S0 (rZ [(2,.eq (.bool x1)),(7,.eq (.bool x2))] [] mix c ⟨Ncl c (kN (ZY hx1)) tt call33,Ncl c (fun hg=>ZY (iteF (gcF hg) hx2)) tt call33,tt⟩ fun _ _ c=>I0 c h (fun h=>?_) fun h=>?_))
 exact P0 [] c fun _ c=>rE
 refine K0 (T0 (Fp [] 2 c fun _ c=>Bd h fun x3 hx3 h=>Eshl c hx3 fun _ c=>?_))
 exact Fp [] 3 c fun _ c=>E0 rE
theorem Zdo {p0 p1 p2 p3 r} (h:XU p0 p1 p2 p3 = some r):C0 104 [I p0,I p1,I p2,I p3] [] (I r):=by
 unfold XU at h
 refine En func104 rfl ntmps104 fun _ fr w c=>?_
 refine P0 [] c fun _ c=>S0 (Bd h fun x1 hx1 h=>S0 (rZ [(2,.eq (.bool x1))] [] mix c ⟨Ncl c (kN (ZY hx1)) tt call33,tt⟩ fun _ _ c=>I0 c h (fun h=>?_) fun h=>?_))
 exact P0 [] c fun _ c=>rE
 refine K0 (T0 (Fp [] 3 c fun _ c=>Bd h fun x2 hx2 h=>Eshr c hx2 fun _ c=>?_))
 refine Bd h fun x3 hx3 h=>Cb c (Yz hx3) tt call146 fun _ _ _ c=>?_
 exact Fp [] 1 c fun _ c=>E0 rE
theorem Zc4 {p0 p1 p2 p3 r} (h:YF p0 p1 p2 p3 = some r):C0 105 [I p0,I p1,I p2,.bool p3] [] (I r):=by
 unfold YF at h
 refine En func105 rfl ntmps105 fun _ fr w c=>?_
 refine P0 [] c fun _ c=>S0 (Bd h fun x1 hx1 h=>S0 (rZ [(2,.eq (.bool x1))] [] mix c ⟨Ncl c (kN (ZY hx1)) tt call33,tt⟩ fun _ _ c=>I0 c h (fun h=>?_) fun h=>?_))
 exact P0 [] c fun _ c=>rE
 refine K0 (S0 (P0 [] c fun _ c=>I0 c h (fun h=>?_) fun h=>K0 (P0 [] c fun _ c=>rE)))
 refine T0 (Fp [] 3 c fun _ c=>Bd h fun x2 hx2 h=>Cb c (X6 hx2) tt call147 fun _ _ _ c=>?_)
 refine Bd h fun x3 hx3 h=>Cb c (Yz hx3) tt call146 fun _ _ _ c=>?_
 exact Fp [] 1 c fun _ c=>E0 rE
theorem ZcZ {p0 p1 r} (h:XC p0 p1 = some r):C0 63 [tV p0 ga0 gc1,L ga2 p1 gc3] [lR ga0 p0.Kids gc1,lR ga2 p1 gc3] (I r):=by
 unfold XC at h
 refine En func63 rfl ntmps63 fun _ fr w c=>?_
 refine T0 (Ebx (tC p0 ga0 gc1) c fun b1 _ _ c=>?_)
 refine Fp [] 1 c fun _ c=>E0 (S0 (wp_block (T0 (Fp [(1,0)] 2 c fun _ c=>Bd h fun x1 hx1 h=>Cb c (Zt hx1) tt call51 fun _ _ _ c=>?_))))
 refine Fp [] 1 c fun _ c=>E0 (I0 c h (fun h=>?_) fun h=>?_)
 refine Bd h fun x2 hx2 h=>Bd h fun x3 hx3 h=>S0 (rZ [(5,Pd.el (x2:Int)),(6,.eq (I x2)),(7,.eq (I x3))] [(1,0),(3,0)] mix c ⟨Nid c (.f 1) (kN hx2),Nld c 5 (q:=x2) (atN 5),Ncl c (kN (Zcf hx3)) tt call101,tt⟩ fun _ _ c=>?_)
 exact rE
 refine T0 (Fp [(1,0)] 2 c fun _ c=>Bd h fun x4 hx4 h=>Cb c (Zt hx4) tt call51 fun _ _ _ c=>?_)
 refine Fp [] 1 c fun _ c=>E0 (I0 c h (fun h=>?_) fun h=>?_)
 refine Bd h fun x5 hx5 h=>?_
 obtain ⟨ep1,u1,c⟩:=c.elp (.f 0) hx5
 obtain ⟨a1,c1,rfl,c⟩:=c.o_Term 3
 refine Bd h fun x6 hx6 h=>Bd h fun x7 hx7 h=>Bd h fun x8 hx8 h=>S0 (rZ [(4,.eq (.pointer (some ep1))),(6,.eq (I x5.W)),(8,Pd.el (x6:Int)),(9,.eq (I x6)),(11,Pd.el (x7:Int)),(12,.eq (I x7)),(13,.eq (I x8))] [(1,0),(3,0)] mix c ⟨Nie c 2,Nlc c 2 1,Nid c (.f 1) (kN hx6),Nld c 8 (q:=x6) (atN 8),Nid c (.f 1) (kN hx7),Nld c 11 (q:=x7) (atN 11),Ncl c (kN (Zca hx8)) tt call102,tt⟩ fun _ _ c=>?_)
 exact rE
 refine P0 [(1,0)] c fun _ c=>I0 c h (fun h=>?_) fun h=>?_
 refine S0 (T0 (Fp [] 1 c fun _ c=>Bd h fun x9 hx9 h=>Eel c (.f 1) hx9 fun _ _ c=>?_))
 refine Fp [] 1 c fun _ c=>E0 (I0 c h (fun h=>?_) fun h=>?_)
 refine T0 (Fp [] 1 c fun _ c=>Bd h fun x10 hx10 h=>Eel c (.f 1) hx10 fun _ _ c=>?_)
 exact Fp [] 1 c fun _ c=>E0 rE
 refine K0 (T0 (Fp [] 1 c fun _ c=>Bd h fun x11 hx11 h=>Eel c (.f 1) hx11 fun _ _ c=>?_))
 exact Fp [] 1 c fun _ c=>E0 rE
 refine P0 [(1,0)] c fun _ c=>I0 c h (fun h=>?_) fun h=>?_
 refine Bd h fun x12 hx12 h=>?_
 obtain ⟨ep2,u2,c⟩:=c.elp (.f 0) hx12
 obtain ⟨a2,c2,rfl,c⟩:=c.o_Term 3
 refine Bd h fun x13 hx13 h=>Bd h fun x14 hx14 h=>?_
 obtain ⟨ep3,u3,c⟩:=c.elp (.f 0) hx14
 obtain ⟨a3,c3,rfl,c⟩:=c.o_Term 6
 refine Bd h fun x15 hx15 h=>Bd h fun x16 hx16 h=>S0 (rZ [(2,.eq (.pointer (some ep2))),(4,.eq (I x12.W)),(6,Pd.el (x13:Int)),(7,.eq (I x13)),(10,.eq (.pointer (some ep3))),(12,.eq (I x14.W)),(14,Pd.el (x15:Int)),(15,.eq (I x15)),(16,.eq (I x16))] [(1,0),(9,0)] mix c ⟨Nie c 2,Nlc c 2 1,Nid c (.f 1) (kN hx13),Nld c 6 (q:=x13) (atN 6),Nie c 5,Nlc c 5 1,Nid c (.f 1) (kN hx15),Nld c 14 (q:=x15) (atN 14),Ncl c (kN (ZcG hx16)) tt call103,tt⟩ fun _ _ c=>?_)
 exact rE
 refine P0 [(1,0)] c fun _ c=>I0 c h (fun h=>?_) fun h=>?_
 refine Bd h fun x17 hx17 h=>?_
 obtain ⟨ep4,u4,c⟩:=c.elp (.f 0) hx17
 obtain ⟨a4,c4,rfl,c⟩:=c.o_Term 3
 refine Bd h fun x18 hx18 h=>Bd h fun x19 hx19 h=>S0 (rZ [(2,.eq (.pointer (some ep4))),(4,.eq (I x17.W)),(6,Pd.el (x18:Int)),(7,.eq (I x18)),(12,.eq (I x19))] [(1,0),(9,0),(11,0)] mix c ⟨Nie c 2,Nlc c 2 1,Nid c (.f 1) (kN hx18),Nld c 6 (q:=x18) (atN 6),Ncl c (kN (Zdo hx19)) tt call104,tt⟩ fun _ _ c=>?_)
 exact rE
 refine K1 (bk (tn (Bd h fun x20 hx20 h=>?_)))
 obtain ⟨ep5,u5,c⟩:=c.elp (.f 0) hx20
 obtain ⟨a5,c5,rfl,c⟩:=c.o_Term 3
 refine Bd h fun x21 hx21 h=>Bd h fun x22 hx22 h=>S0 (rZ [(2,.eq (.pointer (some ep5))),(4,.eq (I x20.W)),(6,Pd.el (x21:Int)),(7,.eq (I x21)),(13,.eq (I x22))] [(1,0),(9,0),(11,0)] mix c ⟨Nie c 2,Nlc c 2 1,Nid c (.f 1) (kN hx21),Nld c 6 (q:=x21) (atN 6),Ncl c (kN (Zc4 hx22)) tt call105,tt⟩ fun _ _ c=>?_)
 exact rE
theorem Zdn {n:Nat}:∀ {p0 p1 ga0 gc1 ga2 gc3 r} (h:Yx n p0 p1 = some r),Con prog 26 [tV p0 ga0 gc1,L ga2 p1 gc3] [] [lR ga0 p0.Kids gc1,lR ga2 p1 gc3] fun (_:Unit)=>([I r.1,.bool r.2],[],[]):=by
 induction n with
 | zero=>intro p0 p1 ga0 gc1 ga2 gc3 r h; simp [Yx] at h
 | succ n ih=>
 intro p0 p1 ga0 gc1 ga2 gc3 r h
 rw [Yx] at h
 refine En func26 rfl ntmps26 fun _ fr w c=>?_
 refine T0 (Ebx (tC p0 ga0 gc1) c fun b1 _ _ c=>?_)
 refine Fp [] 2 c fun _ c=>E0 (S0 (P0 [(1,0)] c fun _ c=>I0 c h (fun h=>?_) fun h=>?_))
 refine P0 [(1,0)] c fun _ c=>?_
 cases h
 exact wp_ret (tr (Rg c () [] [] (.tmp (.tmp .nil))))
 refine K0 (S0 (P0 [(1,0)] c fun _ c=>I0 c h (fun h=>?_) fun h=>?_))
 refine T0 (Fp [(2,0)] 3 c fun _ c=>Bd h fun x1 hx1 h=>Cb c (Zdi hx1) ⟨.f 1,tt⟩ call62 fun _ _ _ c=>?_)
 refine Fp [] 1 c fun _ c=>E0 (S0 (Bd h fun x2 hx2 h=>S0 (rZ [(5,Pd.el (x2:D.Value)),(6,Pd.fl (I x2.W)),(7,.eq (I x2.W))] [(9,0)] mix c ⟨Nid c (.f 1) (gF hx2),Nfa c 5 (atN 5) ZiP,Nlf c 6 (atN 6),tt⟩ fun _ _ c=>I0 c h (fun h=>?_) fun h=>?_)))
 refine P0 [] c fun _ c=>?_
 cases h
 exact wp_ret (tr (tr (Rg c () [] [] (.tmp (.tmp .nil)))))
 refine K0 (T0 (Fp [] 2 c fun _ c=>Bd h fun x3 hx3 h=>Eef c (.f 1) hx3 ZkM fun _ _ _ c=>?_))
 refine Fp [] 2 c fun _ c=>E0 ?_
 cases h
 exact wp_ret (tr (Rg c () [] [] (.tmp (.tmp .nil))))
 refine K0 (T0 (Elt 3 ([]:List Int) c fun a1 c1 _ _ c=>?_))
 refine Fp [] 1 c fun _ c=>E0 (S0 (P0 [(1,0)] c fun _ c=>Bd h fun rl1 hit1 h=>?_))
 have hk1:=h
 refine LpR (fun s1  (i:Oh)=>([(1,L ga2 p1 gc3),(2,B b1 0),(7,L i.1 s1.2 i.2),(43,L ga0 p0.Kids gc1),(44,I (len p0.Kids)),(45,I s1.1)],fun Γ=>Γ.set 1 (sl3 (L i.1 s1.2 i.2) s1.2),[])) (fun s  (i:Oh)=>([(2,B b1 0),(7,L i.1 s i.2)],fun Γ=>Γ.set 1 (sl3 (L i.1 s i.2) s),[])) hit1 c (a1,c1) (c.rk [0,1] [0,1]) (fun s1 q1 i1 _ _ c h hr1=>?_) fun s1r k1 _ _ hrl c=>?_
 refine P0 [] c fun _ c=>S0 (I0 c h (fun h=>?_) fun h=>?_)
 refine K0 (S0 (wp_block (T0 (Bd h fun x4 hx4 h=>Eem c (.f 0) hx4 fun _ u1 _ c=>?_))))
 obtain ⟨a2,c2,rfl,c⟩:=c.o_Term 2
 refine Eal tZ c fun b2 _ _ c=>?_
 refine Ess 2 (tC x4 a2 c2) c fun _ c=>?_
 refine E0 (T0 (Fp [(0,1)] 2 c fun _ c=>?_))
 replace c:=c.nf
 refine Bd h fun x5 hx5 h=>Cb c (ih hx5) ⟨.f 3,.f 1,tt⟩ call26 fun _ _ _ c=>?_
 refine Fp [] 5 c fun _ c=>E0 (S0 (P0 [] c fun _ c=>I0 c h (fun h=>?_) fun h=>?_))
 refine P0 [] c fun _ c=>?_
 obtain rfl:=hr1 _ (sk h)
 obtain rfl:=sj hk1
 exact wp_ret (tr (br (tr (tr (br (tr (Rg c () [] [] (.tmp (.tmp .nil)))))))))
 refine K0 (T1 (Fp [] 2 c fun _ c=>Elt 3 ([x5.1]:List Int) c fun a3 c3 _ _ c=>?_))
 refine Bd h fun x6 hx6 h=>Eap 1 c (.g 3) hx6 fun a4 c4 _ _ c=>?_
 refine Fp [] 1 c fun _ c=>E1 (bk (tn (P1 [] c fun _ c=>Nx h (a4,c4) (c.rk [0,1] [0,1]))))
 refine wp_exit (te (te (be ?_)))
 obtain rfl:=hr1 _ (sk h)
 exact tn ⟨_,(i1.1,i1.2),rfl,c.rk [0,1] [0,1]⟩
 subst hrl
 refine T0 (Fp [(0,0)] 2 c fun _ c=>Bd h fun x7 hx7 h=>Cb c (ZcZ hx7) ⟨.f 0,.g 1,tt⟩ call63 fun _ _ _ c=>?_)
 refine Fp [] 2 c fun _ c=>E0 ?_
 cases h
 exact wp_ret (Rg c () [] [] (.tmp (.tmp .nil)))
theorem ZcL {p0 p1 r} (h:XD n p0 p1 = some r):Con prog 17 [tV p0 ga0 gc1,L ga2 p1 gc3] [] [lR ga0 p0.Kids gc1,lR ga2 p1 gc3] fun (_:Unit)=>([I r.1,.bool r.2],[],[]):=by
 unfold XD at h
 refine En func17 rfl ntmps17 fun _ fr w c=>?_
 refine T0 (Ebx (tC p0 ga0 gc1) c fun b1 _ _ c=>?_)
 refine Fp [] 2 c fun _ c=>E0 (S0 (Bd h fun x1 hx1 h=>Bd h fun x2 hx2 h=>S0 (rZ [(1,.eq (.bool x1)),(5,.eq (.bool x2))] [(0,0)] mix c ⟨Ncl c (kN (Za6 hx1)) ⟨.f 0,tt⟩ call24,Ncl c (fun hg=>ZcJ (iteF (gcF hg) hx2)) ⟨.f 1,tt⟩ call46,tt⟩ fun _ _ c=>I0 c h (fun h=>?_) fun h=>?_)))
 refine P0 [] c fun _ c=>?_
 cases h
 exact wp_ret (tr (Rg c () [] [] (.tmp (.tmp .nil))))
 refine K0 (T0 (Fp [(0,0)] 2 c fun _ c=>Bd h fun x3 hx3 h=>Cb c (Zdn hx3) ⟨.f 0,.f 1,tt⟩ call26 fun _ _ _ c=>?_))
 refine Fp [] 4 c fun _ c=>E0 ?_
 cases h
 exact wp_ret (Rg c () [] [] (.tmp (.tmp .nil)))
theorem Zbr {p0 p1 r} (h:X4 p0 p1 = some r):C0 47 [L ga0 p0 gc1,I p1] [lR ga0 p0 gc1] (.bool r):=by
 unfold X4 at h
 refine En func47 rfl ntmps47 fun _ fr w c=>?_
 refine P0 [] c fun _ c=>S0 (P0 [] c fun _ c=>I0 c h (fun h=>?_) fun h=>?_)
 refine T0 (Fp [] 4 c fun _ c=>Bd h fun x1 hx1 h=>Eel c (.f 0) hx1 fun _ _ c=>?_)
 exact Fp [] 2 c fun _ c=>E0 rE
 refine K0 (T0 (Fp [] 3 c fun _ c=>Bd h fun x2 hx2 h=>Eel c (.f 0) hx2 fun _ _ c=>?_))
 exact Fp [] 1 c fun _ c=>E0 rE
theorem ZbY {p0 p1 r} (h:YV n p0 p1 = some r):Con prog 19 [.agg #[I p0.Inputs,L ga0 p0.Gates gc1],L ga2 p1 gc3] [] [lR ga0 p0.Gates gc1,lR ga2 p1 gc3] fun (i:Oh)=>([L i.1 r i.2],[sl4 (L i.1 r i.2) r],[]):=by
 unfold YV at h
 refine En func19 rfl ntmps19 fun _ fr w c=>?_
 refine T0 (Ebx [I p0.Inputs,L ga0 p0.Gates gc1] c fun b1 _ _ c=>?_)
 refine Fp [] 1 c fun _ c=>E0 (S0 (Bd h fun x1 hx1 h=>S0 (rZ [(1,.eq (.bool x1))] [(0,0),(7,0)] mix c ⟨Ncl c (kN (ZaA hx1)) ⟨.f 0,tt⟩ call14,tt⟩ fun _ _ c=>I0 c h (fun h=>?_) fun h=>?_)))
 refine P0 [] c fun _ c=>?_
 replace c:=c.nil (α:=Bool) 4
 cases h
 exact wp_ret (tr (Rt c (none,0) [1] []))
 refine K0 (T0 (Elt 4 ([true]:List Bool) c fun a1 c1 _ _ c=>?_))
 refine Fp [] 1 c fun _ c=>E0 (T0 (Fp [] 2 c fun _ c=>Bd h fun x2 hx2 h=>Eap 1 c (.f 1) hx2 fun a2 c2 _ _ c=>?_))
 refine Fp [] 1 c fun _ c=>E0 (S0 (P0 [(1,0)] c fun _ c=>Bd h fun rl1 hit1 h=>Lp (fun s1  (i:Oh)=>([(5,L i.1 s1.2 i.2),(23,L ga0 p0.Gates gc1),(24,I (len p0.Gates)),(25,I s1.1)],fun Γ=>Γ.set 1 (sl4 (L i.1 s1.2 i.2) s1.2),[])) (fun  (i:Oh)=>([(5,L i.1 rl1 i.2)],fun Γ=>Γ.set 1 (sl4 (L i.1 rl1 i.2) rl1),[])) hit1 c (a2,c2) (c.rk [0,1] [0,1]) (fun s1 q1 i1 _ _ c h hr1=>?_) fun k1 _ _ c=>?_))
 refine P0 [] c fun _ c=>S0 (I0 c h (fun h=>?_) fun h=>?_)
 refine K0 (S0 (wp_block (T0 (Bd h fun x3 hx3 h=>Eel c (.f 0) hx3 fun _ _ c=>?_))))
 refine Eal [I 0,I 0] c fun b2 _ _ c=>?_
 refine Ess 2 [I x3.A,I x3.B] c fun _ c=>?_
 refine E0 (T1 (Fp [] 1 c fun _ c=>Fp [] 1 c fun _ c=>Fp [] 1 c fun _ c=>Fp [(3,1)] 1 c fun _ c=>?_))
 replace c:=c.nf
 refine Bd h fun x4 hx4 h=>Cb c (Zbr hx4) ⟨.g 1,tt⟩ call47 fun _ _ _ c=>?_
 refine Fp [] 1 c fun _ c=>?_
 rcases ZbM (b:=x4) h with ⟨hg1,h⟩ | ⟨hg1,h⟩
 replace c:=c.eqs (v:=.bool x4) (u:=.bool true) 34 (by rw [hg1])
 refine Gt c ?_
 dsimp only [List.set]
 refine Fp [] 1 c fun _ c=>Gt c ?_
 dsimp only [List.set]
 refine Fp [] 1 c fun _ c=>Gt c ?_
 dsimp only [List.set]
 refine Fp [(8,1)] 1 c fun _ c=>Gt c ?_
 dsimp only [List.set]
 refine Bd h fun x5 hx5 h=>Cb c (Zbr hx5) ⟨.g 1,tt⟩ call47 fun _ _ _ c=>?_
 refine Epk (b:=true) (v:=.bool x5) c fun _ c=>Elt 4 ([x5]:List Bool) c fun a3 c3 _ _ c=>?_
 refine Bd h fun x6 hx6 h=>Eap 1 c (.g 3) hx6 fun a4 c4 _ _ c=>?_
 refine Fp [] 1 c fun _ c=>E1 (bk (tn (P1 [] c fun _ c=>Nx h (a4,c4) (c.rk [0,1] [0,1]))))
 replace c:=c.eqs (v:=.bool x4) (u:=.bool false) 34 (by rw [hg1])
 refine Gs c fun _ c=>Gs c fun _ c=>Gs c fun _ c=>Gs c fun _ c=>Epk (b:=false) (v:=.bool false) c fun _ c=>Elt 4 ([false]:List Bool) c fun a5 c5 _ _ c=>?_
 refine Bd h fun x7 hx7 h=>Eap 1 c (.g 3) hx7 fun a6 c6 _ _ c=>?_
 refine Fp [] 1 c fun _ c=>E1 (bk (tn (P1 [] c fun _ c=>Nx h (a6,c6) (c.rk [0,1] [0,1]))))
 refine wp_exit (te (te (be ?_)))
 obtain rfl:=hr1 _ (sk h)
 exact tn ⟨(i1.1,i1.2),c.rk [0,1] [0,1]⟩
 refine P0 [] c fun _ c=>?_
 obtain rfl:=sj h
 exact wp_ret (Rt c (k1.1,k1.2) [1] [])
theorem Zff {p0 p1 r} (h:Zbc n p0 p1 = some r):C0 18 [L ga0 p0 gc1,L ga2 p1 gc3] [lR ga0 p0 gc1,lR ga2 p1 gc3] (I r):=by
 unfold Zbc at h
 refine En func18 rfl ntmps18 fun _ fr w c=>?_
 refine P0 [] c fun _ c=>P0 [] c fun _ c=>S0 (P0 [] c fun _ c=>Bd h fun rl1 hit1 h=>?_)
 have hk1:=h
 refine LpR (fun s1  (_:Unit)=>([(0,L ga0 p0 gc1),(5,I s1.1),(9,L ga2 p1 gc3),(10,I (len p1)),(11,I s1.2)],id,[])) (fun s  (_:Unit)=>([(5,I s)],id,[])) hit1 c () (c.rk [] [0,1]) (fun s1 q1 _ _ _ c h hr1=>?_) fun s1r _ _ _ hrl c=>?_
 refine P0 [] c fun _ c=>S0 (I0 c h (fun h=>?_) fun h=>?_)
 refine K0 (S0 (wp_block (T0 (Fp [] 1 c fun _ c=>Bd h fun x1 hx1 h=>Eel c (.f 1) hx1 fun _ _ c=>?_))))
 refine Fp [] 2 c fun _ c=>E0 (P0 [] c fun _ c=>S0 (P0 [] c fun _ c=>Mp (decide (x1 < 0)) [(8,I (w64 (0 - x1)))] [(8,I x1)] [(8,I (cond (decide (x1 < 0)) (w64 (0 - x1)) x1))] [8,19,20] c fun _ c=>S0 (S0 (Ry [] mix c fun _ _ c=>I0 c h (fun h=>?_) fun h=>?_))))
 refine P0 [] c fun _ c=>?_
 obtain rfl:=hr1 _ (sk h)
 obtain rfl:=sj hk1
 exact wp_ret (tr (br (tr (tr (br (tr (Rt c () [] [])))))))
 refine K0 (T0 (Fp [] 3 c fun _ c=>Bd h fun x2 hx2 h=>Eel c (.f 0) hx2 fun _ _ c=>?_))
 refine Fp [] 3 c fun _ c=>E0 (I0 c h (fun h=>?_) fun h=>?_)
 refine T1 (Fp [] 2 c fun _ c=>Bd h fun x3 hx3 h=>Eshl c hx3 fun _ c=>?_)
 refine Fp [] 2 c fun _ c=>E1 (bk (tn (P1 [] c fun _ c=>Nx h () (c.rk [] [0,1]))))
 refine K1 (bk (tn (P1 [] c fun _ c=>Nx h () (c.rk [] [0,1]))))
 refine wp_exit (te (te (be ?_)))
 obtain rfl:=hr1 _ (sk h)
 exact tn ⟨_,(),rfl,c.rk [] [0,1]⟩
 subst hrl
 exact P0 [] c fun _ c=>rE
theorem ZcE {p0 r} (h:XO n p0 = some r):C0 4 [L ga0 p0 gc1] [lR ga0 p0 gc1] (.bool r):=by
 unfold XO at h
 refine En func4 rfl ntmps4 fun _ fr w c=>?_
 refine P0 [] c fun _ c=>S0 (P0 [] c fun _ c=>I0 c h (fun h=>P0 [] c fun _ c=>rE) fun h=>?_)
 refine K0 (T0 (Fp [] 2 c fun _ c=>Bd h fun x1 hx1 h=>Cb c (ZcX hx1) ⟨.f 0,tt⟩ call11 fun _ _ _ c=>?_))
 replace c:=c.ng
 refine Bd h fun x2 hx2 h=>Cg c (ZcM hx2) ⟨.f 0,tt⟩ call6 fun i1 _ _ c=>?_
 refine Eal tZ c fun b1 _ _ c=>?_
 refine Ess 0 (tC x2 i1.1 i1.2) c fun _ c=>?_
 replace c:=c.ng
 refine E0 (T0 (Fp [(0,0)] 1 c fun _ c=>Bd h fun x3 hx3 h=>Cb c (Zcs hx3) ⟨.f 1,tt⟩ call12 fun i2 _ _ c=>?_))
 refine Fp [] 4 c fun _ c=>?_
 replace c:=c.ng
 refine Eal [I 0,L none ([]:List D.Gate) 0] c fun b2 _ _ c=>?_
 refine Ess 3 [I x3.1.Inputs,L i2.1 x3.1.Gates i2.2.1] c fun _ c=>?_
 replace c:=c.ng
 refine Fp [] 2 c fun _ c=>E0 (T0 (Fp [(0,0)] 1 c fun _ c=>Bd h fun x4 hx4 h=>Cb c (Zcv hx4) ⟨.f 1,tt⟩ call13 fun i3 _ _ c=>?_))
 refine Fp [] 4 c fun _ c=>?_
 replace c:=c.ng
 refine Eal [I 0,L none ([]:List D.Gate) 0] c fun b3 _ _ c=>?_
 refine Ess 6 [I x4.1.Inputs,L i3.1 x4.1.Gates i3.2.1] c fun _ c=>?_
 refine Fp [] 2 c fun _ c=>E0 (S0 (P0 [] c fun _ c=>I0 c h (fun h=>P0 [] c fun _ c=>rE) fun h=>?_))
 refine K0 (S0 (P0 [] c fun _ c=>I0 c h (fun h=>P0 [] c fun _ c=>rE) fun h=>?_))
 replace c:=c.ng
 refine K0 (S0 (Bd h fun x5 hx5 h=>S0 (rZ [(1,.eq (.bool x5))] [(0,1),(7,0)] mix c ⟨Ncl c (kN (ZaA hx5)) ⟨.g 1,tt⟩ call14,tt⟩ fun _ _ c=>I0 c h (fun h=>?_) fun h=>?_)))
 exact P0 [] c fun _ c=>rE
 refine K0 (S0 (P0 [] c fun _ c=>Bd h fun rl1 hit1 h=>?_))
 have hk1:=h
 refine LpR (fun s1  (_:Unit)=>([(0,L ga0 p0 gc1),(3,B b1 0),(4,B b2 0),(5,L i2.p2 x3.2.1 i2.q3),(10,I s1)],id,[])) (fun s  (_:Unit)=>([],id,[])) hit1 c () (c.rk (rg 7) [0,1]) (fun s1 q1 _ _ _ c h hr1=>?_) fun s1r _ _ _ hrl c=>?_
 refine S0 (P0 [] c fun _ c=>I0 c h (fun h=>?_) fun h=>?_)
 replace c:=c.ng
 refine K0 (S0 (wp_block (T0 (Fp [(3,0)] 4 c fun _ c=>Bd h fun x6 hx6 h=>Cg c (ZbC hx6) ⟨.f 1,tt⟩ call16 fun i4 _ _ c=>?_))))
 replace c:=c.ng
 refine Bd h fun x7 hx7 h=>Cb c (Zce hx7) ⟨.f 0,.f 2,tt⟩ call15 fun i5 _ _ c=>?_
 refine Fp [] 1 c fun _ c=>E0 (T0 (Elt 4 ([]:List Bool) c fun a1 c1 _ _ c=>?_))
 refine Fp [] 1 c fun _ c=>E0 (S0 (P0 [] c fun _ c=>Bd h fun rl2 hit2 h=>Lp (fun s2  (i:Oh)=>([(0,L ga0 p0 gc1),(3,B b1 0),(4,B b2 0),(5,L i2.p2 x3.2.1 i2.q3),(10,I s1),(11,L i5.1 x7 i5.2),(12,L i.1 s2.2 i.2),(63,L i5.1 x7 i5.2),(64,I (len x7)),(65,I s2.1)],fun Γ=>Γ.set 8 (sl4 (L i.1 s2.2 i.2) s2.2),[])) (fun  (i:Oh)=>([(0,L ga0 p0 gc1),(3,B b1 0),(4,B b2 0),(5,L i2.p2 x3.2.1 i2.q3),(10,I s1),(11,L i5.1 x7 i5.2),(12,L i.1 rl2 i.2)],fun Γ=>Γ.set 8 (sl4 (L i.1 rl2 i.2) rl2),[])) hit2 c (a1,c1) (c.rk (rg 9) [0,1,2]) (fun s2 q2 i6 _ _ c h hr2=>?_) fun k1 _ _ c=>?_))
 refine P0 [] c fun _ c=>S0 (I0 c h (fun h=>?_) fun h=>?_)
 refine K0 (S0 (wp_block (T0 ?_)))
 replace c:=c.ng
 refine Bd h fun x8 hx8 h=>Eel c (.g 7) hx8 fun _ _ c=>?_
 refine Eal [Str.val ⟨[]⟩,I 0,I 0] c fun b4 _ _ c=>?_
 replace c:=c.ng
 refine Ess 9 (vC x8) c fun _ c=>?_
 refine E0 (P0 [(1,3)] c fun _ c=>Bd h fun rl3 hit3 h=>Tq (Lp (fun s3  (i:Oh)=>([(0,L ga0 p0 gc1),(3,B b1 0),(4,B b2 0),(5,L i2.p2 x3.2.1 i2.q3),(10,I s1),(11,L i5.1 x7 i5.2),(12,L i.1 s3.2 i.2),(14,B b4 0),(15,I s3.1),(63,L i5.1 x7 i5.2),(64,I (len x7)),(65,I s2.1)],fun Γ=>Γ.set 8 (sl4 (L i.1 s3.2 i.2) s3.2),[])) (fun  (i:Oh)=>([(0,L ga0 p0 gc1),(3,B b1 0),(4,B b2 0),(5,L i2.p2 x3.2.1 i2.q3),(10,I s1),(11,L i5.1 x7 i5.2),(12,L i.1 rl3 i.2),(63,L i5.1 x7 i5.2),(64,I (len x7)),(65,I s2.1)],fun Γ=>Γ.set 8 (sl4 (L i.1 rl3 i.2) rl3),[])) hit3 c (i6.1,i6.2) (c.rk (rg 10) [0,1,2]) (fun s3 q3 i7 _ _ c h hr3=>?_) fun k2 _ _ c=>?_))
 refine S0 (P0 [] c fun _ c=>I0 c h (fun h=>?_) fun h=>?_)
 refine K0 (S0 (wp_block (T1 (Fp [(2,3)] 4 c fun _ c=>Bd h fun x9 hx9 h=>Eshr c hx9 fun _ c=>?_))))
 refine Fp [] 2 c fun _ c=>Elt 4 ([((band x9 1) == 1)]:List Bool) c fun a2 c2 _ _ c=>?_
 replace c:=c.ng
 refine Bd h fun x10 hx10 h=>Eap 8 c (.g 10) hx10 fun a3 c3 _ _ c=>?_
 refine Fp [] 1 c fun _ c=>E1 (bk (tn (P1 [] c fun _ c=>Nx h (a3,c3) (c.rk (rg 10) [0,1,2]))))
 refine wp_exit (te (te (be ?_)))
 obtain rfl:=hr3 _ (sk h)
 exact tn ⟨(i7.1,i7.2),c.rk (rg 10) [0,1,2]⟩
 refine bk (tn (P1 [] c fun _ c=>Nx h (k2.1,k2.2) (c.rk (rg 9) [0,1,2])))
 refine wp_exit (te (te (be ?_)))
 obtain rfl:=hr2 _ (sk h)
 exact tn ⟨(i6.1,i6.2),c.rk (rg 9) [0,1,2]⟩
 refine T0 (Fp [(0,0)] 2 c fun _ c=>?_)
 replace c:=c.ng
 refine Bd h fun x11 hx11 h=>Cb c (ZcL hx11) ⟨.f 1,.g 7,tt⟩ call17 fun _ _ _ c=>?_
 refine Fp [] 5 c fun _ c=>E0 (T0 (Fp [] 1 c fun _ c=>Fp [] 1 c fun _ c=>Fp [] 1 c fun _ c=>?_))
 rcases ZbM (b:=(!x11.2)) h with ⟨hg1,h⟩ | ⟨hg1,h⟩
 replace c:=c.eqs (v:=.bool (!x11.2)) (u:=.bool true) 94 (by rw [hg1])
 refine Gs c fun _ c=>Gs c fun _ c=>Gs c fun _ c=>Gs c fun _ c=>Gs c fun _ c=>Gs c fun _ c=>Gs c fun _ c=>Epk (b:=true) (v:=.bool true) c fun _ c=>E0 (I0 c h (fun h=>?_) fun h=>?_)
 refine P0 [] c fun _ c=>?_
 obtain rfl:=hr1 _ (sk h)
 obtain rfl:=sj hk1
 exact wp_ret (br (tr (tr (br (tr (Rt c () [] []))))))
 refine K1 (bk (tn (P1 [] c fun _ c=>Nx h () (c.rk (rg 7) [0,1]))))
 replace c:=c.eqs (v:=.bool (!x11.2)) (u:=.bool false) 94 (by rw [hg1])
 refine Gt c ?_
 dsimp only [List.set]
 refine Fp [(3,1)] 1 c fun _ c=>Gt c ?_
 dsimp only [List.set]
 refine Fp [] 1 c fun _ c=>Gt c ?_
 dsimp only [List.set]
 replace c:=c.ng
 refine Bd h fun x12 hx12 h=>Cb c (ZbY hx12) ⟨.g 1,.g 8,tt⟩ call19 fun i8 _ _ c=>?_
 refine Gt c ?_
 dsimp only [List.set]
 refine Fp [] 1 c fun _ c=>Gt c ?_
 dsimp only [List.set]
 replace c:=c.ng
 refine Bd h fun x13 hx13 h=>Cb c (Zff hx13) ⟨.g 9,.g 2,tt⟩ call18 fun _ _ _ c=>?_
 refine Gt c ?_
 dsimp only [List.set]
 refine Fp [] 1 c fun _ c=>Gt c ?_
 dsimp only [List.set]
 refine Fp [] 1 c fun _ c=>Epk (b:=false) (v:=.bool (x13 != x11.1)) c fun _ c=>E0 (I0 c h (fun h=>?_) fun h=>?_)
 refine P0 [] c fun _ c=>?_
 obtain rfl:=hr1 _ (sk h)
 obtain rfl:=sj hk1
 exact wp_ret (br (tr (tr (br (tr (Rt c () [] []))))))
 refine K1 (bk (tn (P1 [] c fun _ c=>Nx h () (c.rk (rg 7) [0,1]))))
 refine wp_exit (te (te (be ?_)))
 obtain rfl:=hr1 _ (sk h)
 exact tn ⟨_,(),rfl,c.rk (rg 7) [0,1]⟩
 subst hrl
 exact P0 [] c fun _ c=>rE
end Go.Proofs.YthlolmkdppfioaaGreat
