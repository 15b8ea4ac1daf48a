/- The walks, printed by a program. -/
import Derived.Test.YtgpcokpcbjloiaaGreatWlkA
set_option linter.unusedVariables false
set_option linter.unusedSimpArgs false
set_option maxRecDepth 100000
set_option maxHeartbeats 40000000
namespace Go.Proofs.YtgpcokpcbjloiaaGreat
open Go.GL Go.Maps Go.WideMaps Tryz
variable {n:Nat} {ga0 ga1 ga2 ga3 ga4 ga5 ga6 ga7 ga8 ga10 ga12:Option Addr} {gc1 gc2 gc3 gc4 gc5 gc6 gc7 gc8 gc9 gc11 gc13:Nat}
theorem Zay {p0 p1 p2 p3 gb0 gb3 gn4 r} (h:Yo n p0 p1 p2 p3 = some r):Con prog 125 [B gb0 0,I p1,L ga5 p2 gc6,L ga7 p3 gc8] [BX gb0 113 [I p0.c.Inputs,.slice ga1 gn4 gc2,.map (some gb3),.bool p0.full],sl88 (.slice ga1 gn4 gc2) p0.c.Gates,MP map111 gb3 p0.line] [lR ga5 p2 gc6,lR ga7 p3 gc8] fun (i:Ob Oh)=>([L i.1 r.1 i.2.1],[sl3 (L i.1 r.1 i.2.1) r.1,BX gb0 113 [I r.2.c.Inputs,L i.p2 r.2.c.Gates i.q3,.map (some gb3),.bool r.2.full],sl88 (L i.p2 r.2.c.Gates i.q3) r.2.c.Gates,MP map111 gb3 r.2.line],[]):=by
 unfold Yo at h
 refine En func125 rfl ntmps125 fun _ fr w c=>?_
 obtain ⟨rfl,c⟩:=c.relen 1
 refine P0 [] c fun _ c=>P0 [] c fun _ c=>P0 [] c fun _ c=>S0 (P0 [] c fun _ c=>I0 c h (fun h=>?_) fun h=>?_)
 refine T1 (Fp [] 3 c fun _ c=>Bd h fun x1 hx1 h=>Eel c (.f 0) hx1 fun _ _ c=>?_)
 refine Fp [] 1 c fun _ c=>E0 (T0 (Fp [] 1 c fun _ c=>Bd h fun x2 hx2 h=>Cb c (Zz hx2) ⟨.f 0,tt⟩ call62 fun i1 _ _ c=>?_))
 refine Fp [] 1 c fun _ c=>E0 (P0 [] c fun _ c=>Bd h fun rl1 hit1 h=>S0 (Lp (fun s1  (i:Ob Oh)=>([(0,B gb0 0),(1,I p1),(3,L ga7 p3 gc8),(9,I (len p2)),(10,I x1),(11,L i.p2 s1.2.1 i.q3),(12,I s1.1)],fun Γ=>(((Γ.set 0 (BX gb0 113 [I s1.p2,L i.1 s1.p4 i.2.1,.map (some gb3),.bool s1.p3])).set 1 (sl88 (L i.1 s1.p4 i.2.1) s1.p4)).set 2 (MP map111 gb3 s1.q5)).set 3 (sl3 (L i.p2 s1.2.1 i.q3) s1.2.1),[])) (fun  (i:Ob Oh)=>([(0,B gb0 0),(3,L ga7 p3 gc8),(9,I (len p2)),(10,I x1),(11,L i.p2 rl1.2.1 i.q3),(12,I rl1.1)],fun Γ=>(((Γ.set 0 (BX gb0 113 [I rl1.p2,L i.1 rl1.p4 i.2.1,.map (some gb3),.bool rl1.p3])).set 1 (sl88 (L i.1 rl1.p4 i.2.1) rl1.p4)).set 2 (MP map111 gb3 rl1.q5)).set 3 (sl3 (L i.p2 rl1.2.1 i.q3) rl1.2.1),[])) hit1 c (ga1,gc2,i1.1,i1.2) (c.rk (rg 4) [0,1]) (fun s1 q1 i2 _ _ c h hr1=>?_) fun k1 _ _ c=>?_))
 refine S0 (Bd h fun x3 hx3 h=>S0 (rZ [(6,.eq (I x3))] [] mix c ⟨Nshl c (gT hx3),tt⟩ fun _ _ c=>I0 c h (fun h=>?_) fun h=>?_))
 refine K0 (S0 (wp_block (T0 (Fp [] 1 c fun _ c=>Bd h fun x4 hx4 h=>Cb c (Zz hx4) ⟨.g 3,tt⟩ call62 fun i3 _ _ c=>?_))))
 refine Fp [] 1 c fun _ c=>E0 (P0 [] c fun _ c=>Bd h fun rl2 hit2 h=>Tq (Lp (fun s2  (i:Oh)=>([(0,B gb0 0),(1,I p1),(3,L ga7 p3 gc8),(9,I (len p2)),(10,I x1),(11,L i2.p2 s1.2.1 i2.q3),(12,I s1.1),(13,L i3.1 x4 i3.2),(45,I (len s1.2.1)),(46,I s2.1)],fun Γ=>(((Γ.set 0 (BX gb0 113 [I s2.p2,L i.1 s2.p4 i.2,.map (some gb3),.bool s2.p3])).set 1 (sl88 (L i.1 s2.p4 i.2) s2.p4)).set 2 (MP map111 gb3 s2.q5)).set 3 (sl3 (L i2.p2 s1.2.1 i2.q3) s2.2.1),[])) (fun  (i:Oh)=>([(0,B gb0 0),(1,I p1),(3,L ga7 p3 gc8),(9,I (len p2)),(10,I x1),(11,L i2.p2 s1.2.1 i2.q3),(12,I s1.1)],fun Γ=>(((Γ.set 0 (BX gb0 113 [I rl2.2.1,L i.1 rl2.p3 i.2,.map (some gb3),.bool rl2.p2])).set 1 (sl88 (L i.1 rl2.p3 i.2) rl2.p3)).set 2 (MP map111 gb3 rl2.q4)).set 3 (sl3 (L i2.p2 s1.2.1 i2.q3) rl2.1),[])) hit2 c (i2.1,i2.2.1) (c.rk (rg 5) [0,1]) (fun s2 q2 i4 _ _ c h hr2=>?_) fun k2 _ _ c=>?_))
 refine P0 [] c fun _ c=>S0 (I0 c h (fun h=>?_) fun h=>?_)
 refine K0 (S0 (wp_block (P0 [] c fun _ c=>T0 (Fp [] 3 c fun _ c=>Bd h fun x5 hx5 h=>Eshl c hx5 fun _ c=>?_))))
 refine Fp [] 2 c fun _ c=>E0 (S0 (P0 [] c fun _ c=>I0 c h (fun h=>?_) fun h=>?_))
 refine T1 (Fp [] 3 c fun _ c=>Bd h fun x6 hx6 h=>Eshl c hx6 fun _ c=>?_)
 refine Fp [] 2 c fun _ c=>E0 (P0 [] c fun _ c=>S0 (S0 (Ry [] mix c fun _ _ c=>I0 c h (fun h=>?_) fun h=>?_)))
 refine T1 (Fp [] 2 c fun _ c=>Bd h fun x7 hx7 h=>Eel c (.g 4) hx7 fun _ _ c=>?_)
 refine Fp [] 1 c fun _ c=>E0 (ZI mix ?_)
 refine Rh 1 ?_
 refine Rh 0 ?_
 refine Bd h fun x8 hx8 h=>Bd h fun x9 hx9 h=>rM 12 [(5,Pd.el (x8:Int)),(6,.eq (I x8)),(10,Pd.el (x9:Int)),(11,.eq (I x9))] [] c (fun ow=>⟨Zd ow (Nid c (.f 1) (kN hx8)),Zd ow (Nld c 5 (q:=x8) (atM 5 (p:=.el (x8:Int)))),Zd ow (Nid c (.g 4) (kN hx9)),Zd ow (Nld c 10 (q:=x9) (atM 10 (p:=.el (x9:Int)))),tt⟩) fun _ _ _ _ _ c=>?_
 refine Bd h fun x10 hx10 h=>Ca [0,1,2] c (Zv hx10) tt call97 fun i5 _ _ c=>?_
 refine Bd h fun x11 hx11 h=>Eset 0 c hx11 fun _ _ _ c=>?_
 refine E1 (bk (tn (P1 [] c fun _ c=>Nx h (i5.1,i5.2) (c.rk [2,3,4,0,1] [0,1]))))
 refine K0 (ZI mix ?_)
 refine Rh 1 ?_
 refine Rh 0 ?_
 refine Bd h fun x12 hx12 h=>Bd h fun x13 hx13 h=>rM 12 [(5,Pd.el (x12:Int)),(6,.eq (I x12)),(10,Pd.el (x13:Int)),(11,.eq (I x13))] [] c (fun ow=>⟨Zd ow (Nid c (.f 1) (kN hx12)),Zd ow (Nld c 5 (q:=x12) (atM 5 (p:=.el (x12:Int)))),Zd ow (Nid c (.g 4) (kN hx13)),Zd ow (Nld c 10 (q:=x13) (atM 10 (p:=.el (x13:Int)))),tt⟩) fun _ _ _ _ _ c=>?_
 refine Bd h fun x14 hx14 h=>Ca [0,1,2] c (Zv hx14) tt call97 fun i6 _ _ c=>?_
 refine Bd h fun x15 hx15 h=>Eset 0 c hx15 fun _ _ _ c=>?_
 refine E1 (bk (tn (P1 [] c fun _ c=>Nx h (i6.1,i6.2) (c.rk [2,3,4,0,1] [0,1]))))
 refine K0 (P0 [] c fun _ c=>S0 (S0 (Ry [] mix c fun _ _ c=>I0 c h (fun h=>?_) fun h=>?_)))
 refine T1 (Fp [] 2 c fun _ c=>Bd h fun x16 hx16 h=>Eel c (.g 4) hx16 fun _ _ c=>?_)
 refine Fp [] 1 c fun _ c=>E0 (ZI mix ?_)
 refine Rh 1 ?_
 refine Rh 0 ?_
 refine Bd h fun x17 hx17 h=>Bd h fun x18 hx18 h=>rM 12 [(5,Pd.el (x17:Int)),(6,.eq (I x17)),(10,Pd.el (x18:Int)),(11,.eq (I x18))] [] c (fun ow=>⟨Zd ow (Nid c (.f 1) (kN hx17)),Zd ow (Nld c 5 (q:=x17) (atM 5 (p:=.el (x17:Int)))),Zd ow (Nid c (.g 4) (kN hx18)),Zd ow (Nld c 10 (q:=x18) (atM 10 (p:=.el (x18:Int)))),tt⟩) fun _ _ _ _ _ c=>?_
 refine Bd h fun x19 hx19 h=>Ca [0,1,2] c (Zv hx19) tt call97 fun i7 _ _ c=>?_
 refine Bd h fun x20 hx20 h=>Eset 0 c hx20 fun _ _ _ c=>?_
 refine E1 (bk (tn (P1 [] c fun _ c=>Nx h (i7.1,i7.2) (c.rk [2,3,4,0,1] [0,1]))))
 refine K0 (ZI mix ?_)
 refine Rh 1 ?_
 refine Rh 0 ?_
 refine Bd h fun x21 hx21 h=>Bd h fun x22 hx22 h=>rM 12 [(5,Pd.el (x21:Int)),(6,.eq (I x21)),(10,Pd.el (x22:Int)),(11,.eq (I x22))] [] c (fun ow=>⟨Zd ow (Nid c (.f 1) (kN hx21)),Zd ow (Nld c 5 (q:=x21) (atM 5 (p:=.el (x21:Int)))),Zd ow (Nid c (.g 4) (kN hx22)),Zd ow (Nld c 10 (q:=x22) (atM 10 (p:=.el (x22:Int)))),tt⟩) fun _ _ _ _ _ c=>?_
 refine Bd h fun x23 hx23 h=>Ca [0,1,2] c (Zv hx23) tt call97 fun i8 _ _ c=>?_
 refine Bd h fun x24 hx24 h=>Eset 0 c hx24 fun _ _ _ c=>?_
 refine E1 (bk (tn (P1 [] c fun _ c=>Nx h (i8.1,i8.2) (c.rk [2,3,4,0,1] [0,1]))))
 refine wp_exit (te (te (be ?_)))
 obtain rfl:=hr2 _ (sk h)
 exact tn ⟨(i4.1,i4.2),c.rk (rg 5) [0,1]⟩
 refine bk (tn (P1 [] c fun _ c=>?_))
 obtain ⟨he1,c⟩:=c.relen 3
 replace c:=c.eqs (v:=L i2.p2 s1.2.1 i2.q3) (u:=L i2.p2 rl2.1 i2.q3) 11 (by simp only [L,he1])
 exact Nx h (k2.1,k2.2,i2.p2,i2.q3) (c.rk (rg 4) [0,1])
 refine wp_exit (te (te (be ?_)))
 obtain rfl:=hr1 _ (sk h)
 exact tn ⟨(i2.1,i2.2.1,i2.p2,i2.q3),c.rk (rg 4) [0,1]⟩
 refine S0 (P0 [] c fun _ c=>I0 c h (fun h=>?_) fun h=>?_)
 refine P0 [] c fun _ c=>Bd h fun rl3 hit3 h=>S0 (Lp (fun s3  (i:Oh)=>([(0,B gb0 0),(3,L ga7 p3 gc8),(9,I (len p2)),(10,I x1),(11,L k1.p2 rl1.2.1 k1.q3),(12,I s3.1),(17,I s3.2.1)],fun Γ=>((Γ.set 0 (BX gb0 113 [I s3.p2,L i.1 s3.p4 i.2,.map (some gb3),.bool s3.p3])).set 1 (sl88 (L i.1 s3.p4 i.2) s3.p4)).set 2 (MP map111 gb3 s3.q5),[])) (fun  (i:Oh)=>([(0,B gb0 0),(10,I x1),(11,L k1.p2 rl1.2.1 k1.q3),(17,I rl3.1)],fun Γ=>((Γ.set 0 (BX gb0 113 [I rl3.2.1,L i.1 rl3.p3 i.2,.map (some gb3),.bool rl3.p2])).set 1 (sl88 (L i.1 rl3.p3 i.2) rl3.p3)).set 2 (MP map111 gb3 rl3.q4),[])) hit3 c (k1.1,k1.2.1) (c.rk (rg 4) [0,1]) (fun s3 q3 i9 _ _ c h hr3=>?_) fun k3 _ _ c=>?_)
 refine S0 (P0 [] c fun _ c=>I0 c h (fun h=>?_) fun h=>?_)
 refine K0 (S0 (wp_block (T1 (Fp [] 4 c fun _ c=>Bd h fun x25 hx25 h=>Eel c (.f 1) hx25 fun _ _ c=>?_))))
 refine Bd h fun x26 hx26 h=>Ca [0,1,2] c (Yp hx26) tt call130 fun i10 _ _ c=>?_
 refine Fp [] 1 c fun _ c=>E1 (bk (tn (P1 [] c fun _ c=>Nx h (i10.1,i10.2) (c.rk [1,2,3,0] [0,1]))))
 refine wp_exit (te (te (be ?_)))
 obtain rfl:=hr3 _ (sk h)
 exact tn ⟨(i9.1,i9.2),c.rk (rg 4) [0,1]⟩
 refine P0 [] c fun _ c=>Bd h fun rl4 hit4 h=>Lp (fun s4  (i:Oh)=>([(0,B gb0 0),(10,I x1),(11,L k1.p2 rl1.2.1 k1.q3),(17,I rl3.1),(104,I (len rl1.2.1)),(105,I s4.1)],fun Γ=>(((Γ.set 0 (BX gb0 113 [I s4.p2,L i.1 s4.p4 i.2,.map (some gb3),.bool s4.p3])).set 1 (sl88 (L i.1 s4.p4 i.2) s4.p4)).set 2 (MP map111 gb3 s4.q5)).set 3 (sl3 (L k1.p2 rl1.2.1 k1.q3) s4.2.1),[])) (fun  (i:Oh)=>([(11,L k1.p2 rl1.2.1 k1.q3)],fun Γ=>(((Γ.set 0 (BX gb0 113 [I rl4.2.1,L i.1 rl4.p3 i.2,.map (some gb3),.bool rl4.p2])).set 1 (sl88 (L i.1 rl4.p3 i.2) rl4.p3)).set 2 (MP map111 gb3 rl4.q4)).set 3 (sl3 (L k1.p2 rl1.2.1 k1.q3) rl4.1),[])) hit4 c (k3.1,k3.2) (c.rk (rg 4) [0,1]) (fun s4 q4 i11 _ _ c h hr4=>?_) fun k4 _ _ c=>?_
 refine P0 [] c fun _ c=>S0 (I0 c h (fun h=>?_) fun h=>?_)
 refine K0 (S0 (wp_block (P0 [] c fun _ c=>T1 (Fp [] 7 c fun _ c=>Bd h fun x27 hx27 h=>Eel c (.g 3) hx27 fun _ _ c=>?_))))
 refine Bd h fun x28 hx28 h=>Ca [0,1,2] c (Zv hx28) tt call97 fun i12 _ _ c=>?_
 refine Bd h fun x29 hx29 h=>Eset 0 c hx29 fun _ _ _ c=>?_
 refine E1 (bk (tn (P1 [] c fun _ c=>Nx h (i12.1,i12.2) (c.rk [1,2,3,0] [0,1]))))
 refine wp_exit (te (te (be ?_)))
 obtain rfl:=hr4 _ (sk h)
 exact tn ⟨(i11.1,i11.2),c.rk (rg 4) [0,1]⟩
 refine P0 [] c fun _ c=>?_
 cases h
 obtain ⟨he2,c⟩:=c.relen 3
 replace c:=c.eqs (v:=L k1.p2 rl1.2.1 k1.q3) (u:=L k1.p2 rl4.1 k1.q3) 8 (by simp only [L,he2])
 exact wp_ret (Rt c (k1.p2,k1.q3,k4.1,k4.2) [3,0,1,2] [])
 refine K0 (P0 [] c fun _ c=>?_)
 cases h
 exact wp_ret (Rt c (k1.p2,k1.q3,k1.1,k1.2.1) [3,0,1,2] [])
 refine K0 (T0 (Fp [] 1 c fun _ c=>Bd h fun x30 hx30 h=>Cb c (Zz hx30) ⟨.f 0,tt⟩ call62 fun i13 _ _ c=>?_))
 refine Fp [] 1 c fun _ c=>E0 (P0 [] c fun _ c=>Bd h fun rl5 hit5 h=>S0 (Lp (fun s5  (i:Ob Oh)=>([(0,B gb0 0),(1,I p1),(3,L ga7 p3 gc8),(9,I (len p2)),(10,I (-1)),(11,L i.p2 s5.2.1 i.q3),(12,I s5.1)],fun Γ=>(((Γ.set 0 (BX gb0 113 [I s5.p2,L i.1 s5.p4 i.2.1,.map (some gb3),.bool s5.p3])).set 1 (sl88 (L i.1 s5.p4 i.2.1) s5.p4)).set 2 (MP map111 gb3 s5.q5)).set 3 (sl3 (L i.p2 s5.2.1 i.q3) s5.2.1),[])) (fun  (i:Ob Oh)=>([(0,B gb0 0),(3,L ga7 p3 gc8),(9,I (len p2)),(10,I (-1)),(11,L i.p2 rl5.2.1 i.q3),(12,I rl5.1)],fun Γ=>(((Γ.set 0 (BX gb0 113 [I rl5.p2,L i.1 rl5.p4 i.2.1,.map (some gb3),.bool rl5.p3])).set 1 (sl88 (L i.1 rl5.p4 i.2.1) rl5.p4)).set 2 (MP map111 gb3 rl5.q5)).set 3 (sl3 (L i.p2 rl5.2.1 i.q3) rl5.2.1),[])) hit5 c (ga1,gc2,i13.1,i13.2) (c.rk (rg 4) [0,1]) (fun s5 q5 i14 _ _ c h hr5=>?_) fun k5 _ _ c=>?_))
 refine S0 (Bd h fun x31 hx31 h=>S0 (rZ [(6,.eq (I x31))] [] mix c ⟨Nshl c (gT hx31),tt⟩ fun _ _ c=>I0 c h (fun h=>?_) fun h=>?_))
 refine K0 (S0 (wp_block (T0 (Fp [] 1 c fun _ c=>Bd h fun x32 hx32 h=>Cb c (Zz hx32) ⟨.g 3,tt⟩ call62 fun i15 _ _ c=>?_))))
 refine Fp [] 1 c fun _ c=>E0 (P0 [] c fun _ c=>Bd h fun rl6 hit6 h=>Tq (Lp (fun s6  (i:Oh)=>([(0,B gb0 0),(1,I p1),(3,L ga7 p3 gc8),(9,I (len p2)),(10,I (-1)),(11,L i14.p2 s5.2.1 i14.q3),(12,I s5.1),(13,L i15.1 x32 i15.2),(45,I (len s5.2.1)),(46,I s6.1)],fun Γ=>(((Γ.set 0 (BX gb0 113 [I s6.p2,L i.1 s6.p4 i.2,.map (some gb3),.bool s6.p3])).set 1 (sl88 (L i.1 s6.p4 i.2) s6.p4)).set 2 (MP map111 gb3 s6.q5)).set 3 (sl3 (L i14.p2 s5.2.1 i14.q3) s6.2.1),[])) (fun  (i:Oh)=>([(0,B gb0 0),(1,I p1),(3,L ga7 p3 gc8),(9,I (len p2)),(10,I (-1)),(11,L i14.p2 s5.2.1 i14.q3),(12,I s5.1)],fun Γ=>(((Γ.set 0 (BX gb0 113 [I rl6.2.1,L i.1 rl6.p3 i.2,.map (some gb3),.bool rl6.p2])).set 1 (sl88 (L i.1 rl6.p3 i.2) rl6.p3)).set 2 (MP map111 gb3 rl6.q4)).set 3 (sl3 (L i14.p2 s5.2.1 i14.q3) rl6.1),[])) hit6 c (i14.1,i14.2.1) (c.rk (rg 5) [0,1]) (fun s6 q6 i16 _ _ c h hr6=>?_) fun k6 _ _ c=>?_))
 refine P0 [] c fun _ c=>S0 (I0 c h (fun h=>?_) fun h=>?_)
 refine K0 (S0 (wp_block (P0 [] c fun _ c=>T0 (Fp [] 3 c fun _ c=>Bd h fun x33 hx33 h=>Eshl c hx33 fun _ c=>?_))))
 refine Fp [] 2 c fun _ c=>E0 (S0 (P0 [] c fun _ c=>I0 c h (fun h=>?_) fun h=>?_))
 refine T1 (Fp [] 3 c fun _ c=>Bd h fun x34 hx34 h=>Eshl c hx34 fun _ c=>?_)
 refine Fp [] 2 c fun _ c=>E0 (P0 [] c fun _ c=>S0 (S0 (Ry [] mix c fun _ _ c=>I0 c h (fun h=>?_) fun h=>?_)))
 refine T1 (Fp [] 2 c fun _ c=>Bd h fun x35 hx35 h=>Eel c (.g 4) hx35 fun _ _ c=>?_)
 refine Fp [] 1 c fun _ c=>E0 (ZI mix ?_)
 refine Rh 1 ?_
 refine Rh 0 ?_
 refine Bd h fun x36 hx36 h=>Bd h fun x37 hx37 h=>rM 12 [(5,Pd.el (x36:Int)),(6,.eq (I x36)),(10,Pd.el (x37:Int)),(11,.eq (I x37))] [] c (fun ow=>⟨Zd ow (Nid c (.f 1) (kN hx36)),Zd ow (Nld c 5 (q:=x36) (atM 5 (p:=.el (x36:Int)))),Zd ow (Nid c (.g 4) (kN hx37)),Zd ow (Nld c 10 (q:=x37) (atM 10 (p:=.el (x37:Int)))),tt⟩) fun _ _ _ _ _ c=>?_
 refine Bd h fun x38 hx38 h=>Ca [0,1,2] c (Zv hx38) tt call97 fun i17 _ _ c=>?_
 refine Bd h fun x39 hx39 h=>Eset 0 c hx39 fun _ _ _ c=>?_
 refine E1 (bk (tn (P1 [] c fun _ c=>Nx h (i17.1,i17.2) (c.rk [2,3,4,0,1] [0,1]))))
 refine K0 (ZI mix ?_)
 refine Rh 1 ?_
 refine Rh 0 ?_
 refine Bd h fun x40 hx40 h=>Bd h fun x41 hx41 h=>rM 12 [(5,Pd.el (x40:Int)),(6,.eq (I x40)),(10,Pd.el (x41:Int)),(11,.eq (I x41))] [] c (fun ow=>⟨Zd ow (Nid c (.f 1) (kN hx40)),Zd ow (Nld c 5 (q:=x40) (atM 5 (p:=.el (x40:Int)))),Zd ow (Nid c (.g 4) (kN hx41)),Zd ow (Nld c 10 (q:=x41) (atM 10 (p:=.el (x41:Int)))),tt⟩) fun _ _ _ _ _ c=>?_
 refine Bd h fun x42 hx42 h=>Ca [0,1,2] c (Zv hx42) tt call97 fun i18 _ _ c=>?_
 refine Bd h fun x43 hx43 h=>Eset 0 c hx43 fun _ _ _ c=>?_
 refine E1 (bk (tn (P1 [] c fun _ c=>Nx h (i18.1,i18.2) (c.rk [2,3,4,0,1] [0,1]))))
 refine K0 (P0 [] c fun _ c=>S0 (S0 (Ry [] mix c fun _ _ c=>I0 c h (fun h=>?_) fun h=>?_)))
 refine T1 (Fp [] 2 c fun _ c=>Bd h fun x44 hx44 h=>Eel c (.g 4) hx44 fun _ _ c=>?_)
 refine Fp [] 1 c fun _ c=>E0 (ZI mix ?_)
 refine Rh 1 ?_
 refine Rh 0 ?_
 refine Bd h fun x45 hx45 h=>Bd h fun x46 hx46 h=>rM 12 [(5,Pd.el (x45:Int)),(6,.eq (I x45)),(10,Pd.el (x46:Int)),(11,.eq (I x46))] [] c (fun ow=>⟨Zd ow (Nid c (.f 1) (kN hx45)),Zd ow (Nld c 5 (q:=x45) (atM 5 (p:=.el (x45:Int)))),Zd ow (Nid c (.g 4) (kN hx46)),Zd ow (Nld c 10 (q:=x46) (atM 10 (p:=.el (x46:Int)))),tt⟩) fun _ _ _ _ _ c=>?_
 refine Bd h fun x47 hx47 h=>Ca [0,1,2] c (Zv hx47) tt call97 fun i19 _ _ c=>?_
 refine Bd h fun x48 hx48 h=>Eset 0 c hx48 fun _ _ _ c=>?_
 refine E1 (bk (tn (P1 [] c fun _ c=>Nx h (i19.1,i19.2) (c.rk [2,3,4,0,1] [0,1]))))
 refine K0 (ZI mix ?_)
 refine Rh 1 ?_
 refine Rh 0 ?_
 refine Bd h fun x49 hx49 h=>Bd h fun x50 hx50 h=>rM 12 [(5,Pd.el (x49:Int)),(6,.eq (I x49)),(10,Pd.el (x50:Int)),(11,.eq (I x50))] [] c (fun ow=>⟨Zd ow (Nid c (.f 1) (kN hx49)),Zd ow (Nld c 5 (q:=x49) (atM 5 (p:=.el (x49:Int)))),Zd ow (Nid c (.g 4) (kN hx50)),Zd ow (Nld c 10 (q:=x50) (atM 10 (p:=.el (x50:Int)))),tt⟩) fun _ _ _ _ _ c=>?_
 refine Bd h fun x51 hx51 h=>Ca [0,1,2] c (Zv hx51) tt call97 fun i20 _ _ c=>?_
 refine Bd h fun x52 hx52 h=>Eset 0 c hx52 fun _ _ _ c=>?_
 refine E1 (bk (tn (P1 [] c fun _ c=>Nx h (i20.1,i20.2) (c.rk [2,3,4,0,1] [0,1]))))
 refine wp_exit (te (te (be ?_)))
 obtain rfl:=hr6 _ (sk h)
 exact tn ⟨(i16.1,i16.2),c.rk (rg 5) [0,1]⟩
 refine bk (tn (P1 [] c fun _ c=>?_))
 obtain ⟨he3,c⟩:=c.relen 3
 replace c:=c.eqs (v:=L i14.p2 s5.2.1 i14.q3) (u:=L i14.p2 rl6.1 i14.q3) 11 (by simp only [L,he3])
 exact Nx h (k6.1,k6.2,i14.p2,i14.q3) (c.rk (rg 4) [0,1])
 refine wp_exit (te (te (be ?_)))
 obtain rfl:=hr5 _ (sk h)
 exact tn ⟨(i14.1,i14.2.1,i14.p2,i14.q3),c.rk (rg 4) [0,1]⟩
 refine S0 (P0 [] c fun _ c=>I0 c h (fun h=>?_) fun h=>?_)
 refine P0 [] c fun _ c=>Bd h fun rl7 hit7 h=>S0 (Lp (fun s7  (i:Oh)=>([(0,B gb0 0),(3,L ga7 p3 gc8),(9,I (len p2)),(10,I (-1)),(11,L k5.p2 rl5.2.1 k5.q3),(12,I s7.1),(17,I s7.2.1)],fun Γ=>((Γ.set 0 (BX gb0 113 [I s7.p2,L i.1 s7.p4 i.2,.map (some gb3),.bool s7.p3])).set 1 (sl88 (L i.1 s7.p4 i.2) s7.p4)).set 2 (MP map111 gb3 s7.q5),[])) (fun  (i:Oh)=>([(0,B gb0 0),(10,I (-1)),(11,L k5.p2 rl5.2.1 k5.q3),(17,I rl7.1)],fun Γ=>((Γ.set 0 (BX gb0 113 [I rl7.2.1,L i.1 rl7.p3 i.2,.map (some gb3),.bool rl7.p2])).set 1 (sl88 (L i.1 rl7.p3 i.2) rl7.p3)).set 2 (MP map111 gb3 rl7.q4),[])) hit7 c (k5.1,k5.2.1) (c.rk (rg 4) [0,1]) (fun s7 q7 i21 _ _ c h hr7=>?_) fun k7 _ _ c=>?_)
 refine S0 (P0 [] c fun _ c=>I0 c h (fun h=>?_) fun h=>?_)
 refine K0 (S0 (wp_block (T1 (Fp [] 4 c fun _ c=>Bd h fun x53 hx53 h=>Eel c (.f 1) hx53 fun _ _ c=>?_))))
 refine Bd h fun x54 hx54 h=>Ca [0,1,2] c (Yp hx54) tt call130 fun i22 _ _ c=>?_
 refine Fp [] 1 c fun _ c=>E1 (bk (tn (P1 [] c fun _ c=>Nx h (i22.1,i22.2) (c.rk [1,2,3,0] [0,1]))))
 refine wp_exit (te (te (be ?_)))
 obtain rfl:=hr7 _ (sk h)
 exact tn ⟨(i21.1,i21.2),c.rk (rg 4) [0,1]⟩
 refine P0 [] c fun _ c=>Bd h fun rl8 hit8 h=>Lp (fun s8  (i:Oh)=>([(0,B gb0 0),(10,I (-1)),(11,L k5.p2 rl5.2.1 k5.q3),(17,I rl7.1),(104,I (len rl5.2.1)),(105,I s8.1)],fun Γ=>(((Γ.set 0 (BX gb0 113 [I s8.p2,L i.1 s8.p4 i.2,.map (some gb3),.bool s8.p3])).set 1 (sl88 (L i.1 s8.p4 i.2) s8.p4)).set 2 (MP map111 gb3 s8.q5)).set 3 (sl3 (L k5.p2 rl5.2.1 k5.q3) s8.2.1),[])) (fun  (i:Oh)=>([(11,L k5.p2 rl5.2.1 k5.q3)],fun Γ=>(((Γ.set 0 (BX gb0 113 [I rl8.2.1,L i.1 rl8.p3 i.2,.map (some gb3),.bool rl8.p2])).set 1 (sl88 (L i.1 rl8.p3 i.2) rl8.p3)).set 2 (MP map111 gb3 rl8.q4)).set 3 (sl3 (L k5.p2 rl5.2.1 k5.q3) rl8.1),[])) hit8 c (k7.1,k7.2) (c.rk (rg 4) [0,1]) (fun s8 q8 i23 _ _ c h hr8=>?_) fun k8 _ _ c=>?_
 refine P0 [] c fun _ c=>S0 (I0 c h (fun h=>?_) fun h=>?_)
 refine K0 (S0 (wp_block (P0 [] c fun _ c=>T1 (Fp [] 7 c fun _ c=>Bd h fun x55 hx55 h=>Eel c (.g 3) hx55 fun _ _ c=>?_))))
 refine Bd h fun x56 hx56 h=>Ca [0,1,2] c (Zv hx56) tt call97 fun i24 _ _ c=>?_
 refine Bd h fun x57 hx57 h=>Eset 0 c hx57 fun _ _ _ c=>?_
 refine E1 (bk (tn (P1 [] c fun _ c=>Nx h (i24.1,i24.2) (c.rk [1,2,3,0] [0,1]))))
 refine wp_exit (te (te (be ?_)))
 obtain rfl:=hr8 _ (sk h)
 exact tn ⟨(i23.1,i23.2),c.rk (rg 4) [0,1]⟩
 refine P0 [] c fun _ c=>?_
 cases h
 obtain ⟨he4,c⟩:=c.relen 3
 replace c:=c.eqs (v:=L k5.p2 rl5.2.1 k5.q3) (u:=L k5.p2 rl8.1 k5.q3) 8 (by simp only [L,he4])
 exact wp_ret (Rt c (k5.p2,k5.q3,k8.1,k8.2) [3,0,1,2] [])
 refine K0 (P0 [] c fun _ c=>?_)
 cases h
 exact wp_ret (Rt c (k5.p2,k5.q3,k5.1,k5.2.1) [3,0,1,2] [])
theorem Zax {p0 p1 p2 gb0 gb3 gn4 r} (h:Y8 n p0 p1 p2 = some r):Con prog 126 [B gb0 0,L ga5 p1 gc6,L ga7 p2 gc8] [BX gb0 113 [I p0.c.Inputs,.slice ga1 gn4 gc2,.map (some gb3),.bool p0.full],sl88 (.slice ga1 gn4 gc2) p0.c.Gates,MP map111 gb3 p0.line] [lR ga5 p1 gc6,lR ga7 p2 gc8] fun (i:Oh)=>([I r.1],[BX gb0 113 [I r.2.c.Inputs,L i.1 r.2.c.Gates i.2,.map (some gb3),.bool r.2.full],sl88 (L i.1 r.2.c.Gates i.2) r.2.c.Gates,MP map111 gb3 r.2.line],[]):=by
 unfold Y8 at h
 refine En func126 rfl ntmps126 fun _ fr w c=>?_
 obtain ⟨rfl,c⟩:=c.relen 1
 refine P0 [] c fun _ c=>P0 [] c fun _ c=>S0 (P0 [] c fun _ c=>Bd h fun rl1 hit1 h=>Lp (fun s1  (i:Oh)=>([(0,B gb0 0),(1,L ga5 p1 gc6),(2,L ga7 p2 gc8),(7,I s1.1),(11,I (len p1)),(12,I s1.2.1)],fun Γ=>((Γ.set 0 (BX gb0 113 [I s1.p2,L i.1 s1.p4 i.2,.map (some gb3),.bool s1.p3])).set 1 (sl88 (L i.1 s1.p4 i.2) s1.p4)).set 2 (MP map111 gb3 s1.q5),[])) (fun  (i:Oh)=>([(7,I rl1.1)],fun Γ=>((Γ.set 0 (BX gb0 113 [I rl1.2.1,L i.1 rl1.p3 i.2,.map (some gb3),.bool rl1.p2])).set 1 (sl88 (L i.1 rl1.p3 i.2) rl1.p3)).set 2 (MP map111 gb3 rl1.q4),[])) hit1 c (ga1,gc2) (c.rk [0,1,2] [0,1]) (fun s1 q1 i1 _ _ c h hr1=>?_) fun k1 _ _ c=>?_)
 refine P0 [] c fun _ c=>S0 (I0 c h (fun h=>?_) fun h=>?_)
 refine K0 (S0 (wp_block (P0 [] c fun _ c=>Bd h fun x1 hx1 h=>Bd h fun x2 hx2 h=>S0 (ZI mix (rM 9 [(3,Pd.el (x1:Int)),(4,.eq (I x1)),(7,Pd.el (x2:Int)),(8,.eq (I x2))] [] c (fun ow=>⟨Zd ow (Nid c (.f 0) (kN hx1)),Zd ow (Nld c 3 (q:=x1) (atM 3 (p:=.el (x1:Int)))),Zd ow (Nid c (.f 1) (kN hx2)),Zd ow (Nld c 7 (q:=x2) (atM 7 (p:=.el (x2:Int)))),tt⟩) fun _ _ _ _ _ c=>Bd h fun x3 hx3 h=>Ca [0,1,2] c (YL hx3) tt call131 fun i2 _ _ c=>?_)))))
 refine Fp [] 1 c fun _ c=>E0 (T1 (Fp [] 4 c fun _ c=>Bd h fun x4 hx4 h=>Ca [0,1,2] c (ZA hx4) tt call129 fun i3 _ _ c=>?_))
 refine Fp [] 1 c fun _ c=>E1 (bk (tn (P1 [] c fun _ c=>Nx h (i3.1,i3.2) (c.rk [0,1,2] [0,1]))))
 refine wp_exit (te (te (be ?_)))
 obtain rfl:=hr1 _ (sk h)
 exact tn ⟨(i1.1,i1.2),c.rk [0,1,2] [0,1]⟩
 refine P0 [] c fun _ c=>?_
 cases h
 exact wp_ret (Rt c (k1.1,k1.2) [0,1,2] [])
theorem Xh {p0 p1 p2 gb0 gb3 gn4 r} (h:Yj n p0 p1 p2 = some r):Con prog 127 [B gb0 0,L ga5 p1 gc6,L ga7 p2 gc8] [BX gb0 113 [I p0.c.Inputs,.slice ga1 gn4 gc2,.map (some gb3),.bool p0.full],sl88 (.slice ga1 gn4 gc2) p0.c.Gates,MP map111 gb3 p0.line] [lR ga5 p1 gc6,lR ga7 p2 gc8] fun (i:Oh)=>([I r.1],[BX gb0 113 [I r.2.c.Inputs,L i.1 r.2.c.Gates i.2,.map (some gb3),.bool r.2.full],sl88 (L i.1 r.2.c.Gates i.2) r.2.c.Gates,MP map111 gb3 r.2.line],[]):=by
 unfold Yj at h
 refine En func127 rfl ntmps127 fun _ fr w c=>?_
 obtain ⟨rfl,c⟩:=c.relen 1
 refine P0 [] c fun _ c=>T0 (Fp [] 3 c fun _ c=>Bd h fun x1 hx1 h=>Cb c (XA hx1) ⟨.f 1,tt⟩ call95 fun i1 _ _ c=>?_)
 refine Bd h fun x2 hx2 h=>Ca [0,1,2] c (YK hx2) ⟨.f 0,.g 0,tt⟩ call122 fun i2 _ _ c=>?_
 refine Fp [] 5 c fun _ c=>E0 (P0 [] c fun _ c=>?_)
 cases h
 exact wp_ret (Rt c (i2.p2,i2.q3) [2,3,4] [])
theorem Xz {p0 r} (h:Y2 p0 = some r):Con prog 128 [L ga0 p0 gc1] [] [lR ga0 p0 gc1] fun (i:Oh)=>([L i.1 r i.2],[sl3 (L i.1 r i.2) r],[]):=by
 unfold Y2 at h
 refine En func128 rfl ntmps128 fun _ fr w c=>?_
 refine P0 [] c fun _ c=>T0 (Fp [] 1 c fun _ c=>Bd h fun x1 hx1 h=>Cb c (Zz hx1) ⟨.f 0,tt⟩ call62 fun i1 _ _ c=>?_)
 refine Fp [] 1 c fun _ c=>E0 (T0 (Fp [] 8 c fun _ c=>Bd h fun x2 hx2 h=>Eel c (.g 0) hx2 fun _ _ c=>?_))
 refine Fp [] 1 c fun _ c=>Bd h fun x3 hx3 h=>Eset 0 c hx3 fun _ _ _ c=>?_
 refine E0 (P0 [] c fun _ c=>?_)
 obtain rfl:=sj h
 obtain ⟨he1,c⟩:=c.relen 0
 replace c:=c.eqs (v:=L i1.1 x1 i1.2) (u:=L i1.1 x3 i1.2) 2 (by simp only [L,he1])
 exact wp_ret (Rt c (i1.1,i1.2) [0] [])
theorem Zag {p0 p1 p2 p3 gb0 gb3 gn4 r} (h:ZF n p0 p1 p2 p3 = some r):Con prog 96 [B gb0 0,I p1,L ga5 p2 gc6,L ga7 p3 gc8] [BX gb0 113 [I p0.c.Inputs,.slice ga1 gn4 gc2,.map (some gb3),.bool p0.full],sl88 (.slice ga1 gn4 gc2) p0.c.Gates,MP map111 gb3 p0.line] [lR ga5 p2 gc6,lR ga7 p3 gc8] fun (i:Ob Oh)=>([L i.1 r.1 i.2.1],[sl3 (L i.1 r.1 i.2.1) r.1,BX gb0 113 [I r.2.c.Inputs,L i.p2 r.2.c.Gates i.q3,.map (some gb3),.bool r.2.full],sl88 (L i.p2 r.2.c.Gates i.q3) r.2.c.Gates,MP map111 gb3 r.2.line],[]):=by
 unfold ZF at h
 refine En func96 rfl ntmps96 fun _ fr w c=>?_
 obtain ⟨rfl,c⟩:=c.relen 1
 refine P0 [] c fun _ c=>S0 (P0 [] c fun _ c=>wp_block (P0 [] c fun _ c=>I0 c h (fun h=>?_) fun h=>?_))
 refine T0 (Fp [] 3 c fun _ c=>Bd h fun x1 hx1 h=>Ca [0,1,2] c (YK hx1) ⟨.f 0,.f 1,tt⟩ call122 fun i1 _ _ c=>?_)
 refine Fp [] 5 c fun _ c=>E0 (P0 [] c fun _ c=>?_)
 cases h
 exact wp_ret (br (tr (Rt c (i1.1,i1.2.1,i1.p2,i1.q3) (rg 4) [])))
 refine P0 [] c fun _ c=>I0 c h (fun h=>?_) fun h=>?_
 refine T0 (Fp [] 3 c fun _ c=>Bd h fun x2 hx2 h=>Cb c (XA hx2) ⟨.f 1,tt⟩ call95 fun i2 _ _ c=>?_)
 refine Bd h fun x3 hx3 h=>Ca [0,1,2] c (YK hx3) ⟨.f 0,.g 0,tt⟩ call122 fun i3 _ _ c=>?_
 refine Fp [] 5 c fun _ c=>E0 (P0 [] c fun _ c=>?_)
 cases h
 exact wp_ret (br (tr (Rt c (i3.1,i3.2.1,i3.p2,i3.q3) [1,2,3,4] [])))
 refine P0 [] c fun _ c=>I0 c h (fun h=>?_) fun h=>?_
 refine T0 (Fp [] 3 c fun _ c=>Bd h fun x4 hx4 h=>Ca [0,1,2] c (Zbz hx4) ⟨.f 0,.f 1,tt⟩ call123 fun i4 _ _ c=>?_)
 refine Fp [] 1 c fun _ c=>E0 ?_
 cases h
 exact wp_ret (br (tr (Rt c (i4.1,i4.2.1,i4.p2,i4.q3) (rg 4) [])))
 refine P0 [] c fun _ c=>I0 c h (fun h=>?_) fun h=>?_
 refine T0 (Fp [] 3 c fun _ c=>Bd h fun x5 hx5 h=>Ca [0,1,2] c (Zar hx5) ⟨.f 0,.f 1,tt⟩ call124 fun i5 _ _ c=>?_)
 refine Fp [] 5 c fun _ c=>E0 (P0 [] c fun _ c=>?_)
 cases h
 exact wp_ret (br (tr (Rt c (i5.1,i5.2.1,i5.p4,i5.q5) [0,2,3,4] [])))
 refine P0 [] c fun _ c=>I0 c h (fun h=>?_) fun h=>?_
 refine T0 (Fp [] 3 c fun _ c=>Bd h fun x6 hx6 h=>Ca [0,1,2] c (Zar hx6) ⟨.f 0,.f 1,tt⟩ call124 fun i6 _ _ c=>?_)
 refine Fp [] 5 c fun _ c=>E0 (P0 [] c fun _ c=>?_)
 cases h
 exact wp_ret (br (tr (Rt c (i6.p2,i6.p3,i6.p4,i6.q5) [1,2,3,4] [])))
 refine S0 (P0 [] c fun _ c=>I0 c h (fun h=>?_) fun h=>?_)
 refine K0 (I0 c h (fun h=>?_) fun h=>?_)
 refine T0 (Fp [] 4 c fun _ c=>Bd h fun x7 hx7 h=>Ca [0,1,2] c (Zay hx7) ⟨.f 0,.f 1,tt⟩ call125 fun i7 _ _ c=>?_)
 refine Fp [] 1 c fun _ c=>E0 ?_
 cases h
 exact wp_ret (br (tr (Rt c (i7.1,i7.2.1,i7.p2,i7.q3) (rg 4) [])))
 refine P0 [] c fun _ c=>I0 c h (fun h=>?_) fun h=>?_
 refine T0 (Fp [] 3 c fun _ c=>Bd h fun x8 hx8 h=>Ca [0,1,2] c (Zax hx8) ⟨.f 0,.f 1,tt⟩ call126 fun i8 _ _ c=>?_)
 refine Elt 3 ([x8.1]:List Int) c fun a1 c1 _ _ c=>?_
 refine Fp [] 1 c fun _ c=>E0 ?_
 cases h
 exact wp_ret (br (tr (Rt c (a1,c1,i8.1,i8.2) [3,0,1,2] [])))
 refine P0 [] c fun _ c=>I0 c h (fun h=>?_) fun h=>?_
 refine T0 (Fp [] 3 c fun _ c=>Bd h fun x9 hx9 h=>Ca [0,1,2] c (Xh hx9) ⟨.f 0,.f 1,tt⟩ call127 fun i9 _ _ c=>?_)
 refine Elt 3 ([x9.1]:List Int) c fun a2 c2 _ _ c=>?_
 refine Fp [] 1 c fun _ c=>E0 ?_
 cases h
 exact wp_ret (br (tr (Rt c (a2,c2,i9.1,i9.2) [3,0,1,2] [])))
 refine P0 [] c fun _ c=>I0 c h (fun h=>?_) fun h=>?_
 refine T0 (Fp [] 2 c fun _ c=>Bd h fun x10 hx10 h=>Cb c (Xz hx10) ⟨.f 0,tt⟩ call128 fun i10 _ _ c=>?_)
 refine Fp [] 1 c fun _ c=>Bd h fun x11 hx11 h=>Cb c (Xz hx11) ⟨.f 1,tt⟩ call128 fun i11 _ _ c=>?_
 refine Bd h fun x12 hx12 h=>Ca [0,1,2] c (Xh hx12) ⟨.g 0,.g 1,tt⟩ call127 fun i12 _ _ c=>?_
 refine Elt 3 ([x12.1]:List Int) c fun a3 c3 _ _ c=>?_
 refine Fp [] 1 c fun _ c=>E0 ?_
 cases h
 exact wp_ret (br (tr (Rt c (a3,c3,i12.1,i12.2) [5,2,3,4] [])))
 refine K1 (bk (tn (T0 (Fp [] 2 c fun _ c=>Bd h fun x13 hx13 h=>Emk 3 c hx13 fun a4 c4 _ _ c=>?_))))
 refine Fp [] 1 c fun _ c=>E0 (S0 (P0 [] c fun _ c=>Bd h fun rl1 hit1 h=>Lp (fun s1  (i:Oh)=>([(0,B gb0 0),(1,I p1),(2,L ga5 p2 gc6),(3,L ga7 p3 gc8),(17,L a4 x13 c4),(103,I (len p2)),(104,I s1.1)],fun Γ=>(((Γ.set 0 (BX gb0 113 [I s1.p2,L i.1 s1.p4 i.2,.map (some gb3),.bool s1.p3])).set 1 (sl88 (L i.1 s1.p4 i.2) s1.p4)).set 2 (MP map111 gb3 s1.q5)).set 3 (sl3 (L a4 x13 c4) s1.2.1),[])) (fun  (i:Oh)=>([(17,L a4 x13 c4)],fun Γ=>(((Γ.set 0 (BX gb0 113 [I rl1.2.1,L i.1 rl1.p3 i.2,.map (some gb3),.bool rl1.p2])).set 1 (sl88 (L i.1 rl1.p3 i.2) rl1.p3)).set 2 (MP map111 gb3 rl1.q4)).set 3 (sl3 (L a4 x13 c4) rl1.1),[])) hit1 c (ga1,gc2) (c.rk (rg 4) [0,1]) (fun s1 q1 i13 _ _ c h hr1=>?_) fun k1 _ _ c=>?_))
 refine P0 [] c fun _ c=>S0 (I0 c h (fun h=>?_) fun h=>?_)
 refine K0 (S0 (wp_block (P0 [] c fun _ c=>P0 [] c fun _ c=>wp_block (P0 [] c fun _ c=>I0 c h (fun h=>?_) fun h=>?_))))
 refine ZI mix ?_
 refine Rh 1 ?_
 refine Rh 0 ?_
 refine Bd h fun x14 hx14 h=>Bd h fun x15 hx15 h=>rM 11 [(5,Pd.el (x14:Int)),(6,.eq (I x14)),(9,Pd.el (x15:Int)),(10,.eq (I x15))] [] c (fun ow=>⟨Zd ow (Nid c (.f 0) (kN hx14)),Zd ow (Nld c 5 (q:=x14) (atM 5 (p:=.el (x14:Int)))),Zd ow (Nid c (.f 1) (kN hx15)),Zd ow (Nld c 9 (q:=x15) (atM 9 (p:=.el (x15:Int)))),tt⟩) fun _ _ _ _ _ c=>?_
 refine Bd h fun x16 hx16 h=>Ca [0,1,2] c (ZA hx16) tt call129 fun i14 _ _ c=>?_
 refine Bd h fun x17 hx17 h=>Eset 0 c hx17 fun _ _ _ c=>?_
 refine E1 (bk (bk (tn (P1 [] c fun _ c=>Nx h (i14.1,i14.2) (c.rk [1,2,3,0] [0,1])))))
 refine P0 [] c fun _ c=>I0 c h (fun h=>?_) fun h=>?_
 refine ZI mix ?_
 refine Rh 1 ?_
 refine Rh 0 ?_
 refine Bd h fun x18 hx18 h=>Bd h fun x19 hx19 h=>rM 11 [(5,Pd.el (x18:Int)),(6,.eq (I x18)),(9,Pd.el (x19:Int)),(10,.eq (I x19))] [] c (fun ow=>⟨Zd ow (Nid c (.f 0) (kN hx18)),Zd ow (Nld c 5 (q:=x18) (atM 5 (p:=.el (x18:Int)))),Zd ow (Nid c (.f 1) (kN hx19)),Zd ow (Nld c 9 (q:=x19) (atM 9 (p:=.el (x19:Int)))),tt⟩) fun _ _ _ _ _ c=>?_
 refine Bd h fun x20 hx20 h=>Ca [0,1,2] c (Yp hx20) tt call130 fun i15 _ _ c=>?_
 refine Bd h fun x21 hx21 h=>Eset 0 c hx21 fun _ _ _ c=>?_
 refine E1 (bk (bk (tn (P1 [] c fun _ c=>Nx h (i15.1,i15.2) (c.rk [1,2,3,0] [0,1])))))
 refine ZI mix ?_
 refine Rh 1 ?_
 refine Rh 0 ?_
 refine Bd h fun x22 hx22 h=>Bd h fun x23 hx23 h=>rM 11 [(5,Pd.el (x22:Int)),(6,.eq (I x22)),(9,Pd.el (x23:Int)),(10,.eq (I x23))] [] c (fun ow=>⟨Zd ow (Nid c (.f 0) (kN hx22)),Zd ow (Nld c 5 (q:=x22) (atM 5 (p:=.el (x22:Int)))),Zd ow (Nid c (.f 1) (kN hx23)),Zd ow (Nld c 9 (q:=x23) (atM 9 (p:=.el (x23:Int)))),tt⟩) fun _ _ _ _ _ c=>?_
 refine Bd h fun x24 hx24 h=>Ca [0,1,2] c (YL hx24) tt call131 fun i16 _ _ c=>?_
 refine Bd h fun x25 hx25 h=>Eset 0 c hx25 fun _ _ _ c=>?_
 refine E1 (bk (bk (tn (P1 [] c fun _ c=>Nx h (i16.1,i16.2) (c.rk [1,2,3,0] [0,1])))))
 refine wp_exit (te (te (be ?_)))
 obtain rfl:=hr1 _ (sk h)
 exact tn ⟨(i13.1,i13.2),c.rk (rg 4) [0,1]⟩
 refine P0 [] c fun _ c=>?_
 cases h
 obtain ⟨he1,c⟩:=c.relen 3
 replace c:=c.eqs (v:=L a4 x13 c4) (u:=L a4 rl1.1 c4) 8 (by simp only [L,he1])
 exact wp_ret (Rt c (a4,c4,k1.1,k1.2) [3,0,1,2] [])
 refine P0 [] c fun _ c=>Mp (p1 == 12) [(67,.bool (p1 == 12))] [(67,.bool (p1 == 13))] [(67,.bool ((p1 == 12) || (p1 == 13)))] [67,70] c fun _ c=>I0 c h (fun h=>?_) fun h=>?_
 refine T0 (Fp [] 4 c fun _ c=>Bd h fun x26 hx26 h=>Ca [0,1,2] c (Zay hx26) ⟨.f 0,.f 1,tt⟩ call125 fun i17 _ _ c=>?_)
 refine Fp [] 1 c fun _ c=>E0 ?_
 cases h
 exact wp_ret (br (tr (Rt c (i17.1,i17.2.1,i17.p2,i17.q3) (rg 4) [])))
 refine P0 [] c fun _ c=>I0 c h (fun h=>?_) fun h=>?_
 refine T0 (Fp [] 3 c fun _ c=>Bd h fun x27 hx27 h=>Ca [0,1,2] c (Zax hx27) ⟨.f 0,.f 1,tt⟩ call126 fun i18 _ _ c=>?_)
 refine Elt 3 ([x27.1]:List Int) c fun a5 c5 _ _ c=>?_
 refine Fp [] 1 c fun _ c=>E0 ?_
 cases h
 exact wp_ret (br (tr (Rt c (a5,c5,i18.1,i18.2) [3,0,1,2] [])))
 refine P0 [] c fun _ c=>I0 c h (fun h=>?_) fun h=>?_
 refine T0 (Fp [] 3 c fun _ c=>Bd h fun x28 hx28 h=>Ca [0,1,2] c (Xh hx28) ⟨.f 0,.f 1,tt⟩ call127 fun i19 _ _ c=>?_)
 refine Elt 3 ([x28.1]:List Int) c fun a6 c6 _ _ c=>?_
 refine Fp [] 1 c fun _ c=>E0 ?_
 cases h
 exact wp_ret (br (tr (Rt c (a6,c6,i19.1,i19.2) [3,0,1,2] [])))
 refine P0 [] c fun _ c=>I0 c h (fun h=>?_) fun h=>?_
 refine T0 (Fp [] 2 c fun _ c=>Bd h fun x29 hx29 h=>Cb c (Xz hx29) ⟨.f 0,tt⟩ call128 fun i20 _ _ c=>?_)
 refine Fp [] 1 c fun _ c=>Bd h fun x30 hx30 h=>Cb c (Xz hx30) ⟨.f 1,tt⟩ call128 fun i21 _ _ c=>?_
 refine Bd h fun x31 hx31 h=>Ca [0,1,2] c (Xh hx31) ⟨.g 0,.g 1,tt⟩ call127 fun i22 _ _ c=>?_
 refine Elt 3 ([x31.1]:List Int) c fun a7 c7 _ _ c=>?_
 refine Fp [] 1 c fun _ c=>E0 ?_
 cases h
 exact wp_ret (br (tr (Rt c (a7,c7,i22.1,i22.2) [5,2,3,4] [])))
 refine K1 (bk (tn (T0 (Fp [] 2 c fun _ c=>Bd h fun x32 hx32 h=>Emk 3 c hx32 fun a8 c8 _ _ c=>?_))))
 refine Fp [] 1 c fun _ c=>E0 (S0 (P0 [] c fun _ c=>Bd h fun rl2 hit2 h=>Lp (fun s2  (i:Oh)=>([(0,B gb0 0),(1,I p1),(2,L ga5 p2 gc6),(3,L ga7 p3 gc8),(17,L a8 x32 c8),(103,I (len p2)),(104,I s2.1)],fun Γ=>(((Γ.set 0 (BX gb0 113 [I s2.p2,L i.1 s2.p4 i.2,.map (some gb3),.bool s2.p3])).set 1 (sl88 (L i.1 s2.p4 i.2) s2.p4)).set 2 (MP map111 gb3 s2.q5)).set 3 (sl3 (L a8 x32 c8) s2.2.1),[])) (fun  (i:Oh)=>([(17,L a8 x32 c8)],fun Γ=>(((Γ.set 0 (BX gb0 113 [I rl2.2.1,L i.1 rl2.p3 i.2,.map (some gb3),.bool rl2.p2])).set 1 (sl88 (L i.1 rl2.p3 i.2) rl2.p3)).set 2 (MP map111 gb3 rl2.q4)).set 3 (sl3 (L a8 x32 c8) rl2.1),[])) hit2 c (ga1,gc2) (c.rk (rg 4) [0,1]) (fun s2 q2 i23 _ _ c h hr2=>?_) fun k2 _ _ c=>?_))
 refine P0 [] c fun _ c=>S0 (I0 c h (fun h=>?_) fun h=>?_)
 refine K0 (S0 (wp_block (P0 [] c fun _ c=>P0 [] c fun _ c=>wp_block (P0 [] c fun _ c=>I0 c h (fun h=>?_) fun h=>?_))))
 refine ZI mix ?_
 refine Rh 1 ?_
 refine Rh 0 ?_
 refine Bd h fun x33 hx33 h=>Bd h fun x34 hx34 h=>rM 11 [(5,Pd.el (x33:Int)),(6,.eq (I x33)),(9,Pd.el (x34:Int)),(10,.eq (I x34))] [] c (fun ow=>⟨Zd ow (Nid c (.f 0) (kN hx33)),Zd ow (Nld c 5 (q:=x33) (atM 5 (p:=.el (x33:Int)))),Zd ow (Nid c (.f 1) (kN hx34)),Zd ow (Nld c 9 (q:=x34) (atM 9 (p:=.el (x34:Int)))),tt⟩) fun _ _ _ _ _ c=>?_
 refine Bd h fun x35 hx35 h=>Ca [0,1,2] c (ZA hx35) tt call129 fun i24 _ _ c=>?_
 refine Bd h fun x36 hx36 h=>Eset 0 c hx36 fun _ _ _ c=>?_
 refine E1 (bk (bk (tn (P1 [] c fun _ c=>Nx h (i24.1,i24.2) (c.rk [1,2,3,0] [0,1])))))
 refine P0 [] c fun _ c=>I0 c h (fun h=>?_) fun h=>?_
 refine ZI mix ?_
 refine Rh 1 ?_
 refine Rh 0 ?_
 refine Bd h fun x37 hx37 h=>Bd h fun x38 hx38 h=>rM 11 [(5,Pd.el (x37:Int)),(6,.eq (I x37)),(9,Pd.el (x38:Int)),(10,.eq (I x38))] [] c (fun ow=>⟨Zd ow (Nid c (.f 0) (kN hx37)),Zd ow (Nld c 5 (q:=x37) (atM 5 (p:=.el (x37:Int)))),Zd ow (Nid c (.f 1) (kN hx38)),Zd ow (Nld c 9 (q:=x38) (atM 9 (p:=.el (x38:Int)))),tt⟩) fun _ _ _ _ _ c=>?_
 refine Bd h fun x39 hx39 h=>Ca [0,1,2] c (Yp hx39) tt call130 fun i25 _ _ c=>?_
 refine Bd h fun x40 hx40 h=>Eset 0 c hx40 fun _ _ _ c=>?_
 refine E1 (bk (bk (tn (P1 [] c fun _ c=>Nx h (i25.1,i25.2) (c.rk [1,2,3,0] [0,1])))))
 refine ZI mix ?_
 refine Rh 1 ?_
 refine Rh 0 ?_
 refine Bd h fun x41 hx41 h=>Bd h fun x42 hx42 h=>rM 11 [(5,Pd.el (x41:Int)),(6,.eq (I x41)),(9,Pd.el (x42:Int)),(10,.eq (I x42))] [] c (fun ow=>⟨Zd ow (Nid c (.f 0) (kN hx41)),Zd ow (Nld c 5 (q:=x41) (atM 5 (p:=.el (x41:Int)))),Zd ow (Nid c (.f 1) (kN hx42)),Zd ow (Nld c 9 (q:=x42) (atM 9 (p:=.el (x42:Int)))),tt⟩) fun _ _ _ _ _ c=>?_
 refine Bd h fun x43 hx43 h=>Ca [0,1,2] c (YL hx43) tt call131 fun i26 _ _ c=>?_
 refine Bd h fun x44 hx44 h=>Eset 0 c hx44 fun _ _ _ c=>?_
 refine E1 (bk (bk (tn (P1 [] c fun _ c=>Nx h (i26.1,i26.2) (c.rk [1,2,3,0] [0,1])))))
 refine wp_exit (te (te (be ?_)))
 obtain rfl:=hr2 _ (sk h)
 exact tn ⟨(i23.1,i23.2),c.rk (rg 4) [0,1]⟩
 refine P0 [] c fun _ c=>?_
 cases h
 obtain ⟨he2,c⟩:=c.relen 3
 replace c:=c.eqs (v:=L a8 x32 c8) (u:=L a8 rl2.1 c8) 8 (by simp only [L,he2])
 exact wp_ret (Rt c (a8,c8,k2.1,k2.2) [3,0,1,2] [])
theorem ZbO {n:Nat}:∀ {p0 p1 p2 gb0 ga1 gc2 gb3 gn4 ga5 gc6 gu7 r} (h:ZN n p0 p1 p2 = some r),Con prog 61 [B gb0 0,tV p1 ga5 gc6,gu7] [BX gb0 113 [I p0.c.Inputs,.slice ga1 gn4 gc2,.map (some gb3),.bool p0.full],sl88 (.slice ga1 gn4 gc2) p0.c.Gates,MP map111 gb3 p0.line] [lR ga5 p1.Kids gc6,MV map107 (gu7) p2] fun (i:Ob Oh)=>([L i.1 r.1 i.2.1],[TL 3 (.slice i.1 (List.length r.1) i.2.1) r.1,BX gb0 113 [I r.2.c.Inputs,L i.p2 r.2.c.Gates i.q3,.map (some gb3),.bool r.2.full],sl88 (L i.p2 r.2.c.Gates i.q3) r.2.c.Gates,MP map111 gb3 r.2.line],[]):=by
 induction n with
 | zero=>intro p0 p1 p2 gb0 ga1 gc2 gb3 gn4 ga5 gc6 gu7 r h; simp [ZN] at h
 | succ n ih=>
 intro p0 p1 p2 gb0 ga1 gc2 gb3 gn4 ga5 gc6 gu7 r h
 rw [ZN] at h
 refine En func61 rfl ntmps61 fun _ fr w c=>?_
 obtain ⟨rfl,c⟩:=c.relen 1
 refine T0 (Ebx (tC p1 ga5 gc6) c fun b1 _ _ c=>?_)
 refine Fp [] 1 c fun _ c=>E0 (S0 (P0 [(1,1)] c fun _ c=>wp_block (P0 [] c fun _ c=>I0 c h (fun h=>?_) fun h=>?_)))
 refine T0 (Fp [(1,1),(3,1)] 4 c fun _ c=>Bd h fun x1 hx1 h=>Cb c (XT hx1) tt call94 fun i1 _ _ c=>?_)
 refine Fp [] 1 c fun _ c=>E0 ?_
 replace c:=c.toT 4
 cases h
 exact wp_ret (br (tr (Rt c (i1.1,i1.2,ga1,gc2) [4,0,1,2] [])))
 refine P0 [] c fun _ c=>I0 c h (fun h=>?_) fun h=>?_
 refine T0 (Fp [(2,1)] 3 c fun _ c=>Bd h fun x2 hx2 h=>Erv c (.f 1) hx2 fun u1 _ c=>?_)
 obtain ⟨a1,c1,rfl⟩:=c.sl 2
 refine Bd h fun x3 hx3 h=>Cb c (Zz hx3) ⟨.f 2,tt⟩ call62 fun i2 _ _ c=>?_
 refine Fp [] 1 c fun _ c=>E0 ?_
 replace c:=c.toT 4
 cases h
 exact wp_ret (br (tr (Rt c (i2.1,i2.2,ga1,gc2) [4,0,1,2] [])))
 refine K1 (bk (tn (T0 (Fp [(1,1)] 3 c fun _ c=>Bd h fun x4 hx4 h=>Emkd 47 (⟨none,0,0⟩ : Hd) (fun w=>ZfP 3 w) c hx4 fun a2 c2 _ _ c=>?_))))
 refine Fp [] 1 c fun _ c=>E0 (S0 (P0 [(1,1)] c fun _ c=>Bd h fun rl1 hit1 h=>Lp (fun s1  (i:List Hd × Oh)=>([(0,B gb0 0),(2,gu7),(4,B b1 0),(7,L a2 x4 c2),(35,I (len p1.Kids)),(36,I s1.1)],fun Γ=>((((Γ.set 0 (BX gb0 113 [I s1.2.1,L i.2.1 s1.p3 i.q2,.map (some gb3),.bool s1.p2])).set 1 (sl88 (L i.2.1 s1.p3 i.q2) s1.p3)).set 2 (MP map111 gb3 s1.p4)).set 4 (sl47 (L a2 x4 c2) (i.1))).set 5 (HP.all (ownL 3) (i.1) s1.q5),[])) (fun  (i:List Hd × Oh)=>([(0,B gb0 0),(4,B b1 0),(7,L a2 x4 c2)],fun Γ=>((((Γ.set 0 (BX gb0 113 [I rl1.1,L i.2.1 rl1.p2 i.q2,.map (some gb3),.bool rl1.2.1])).set 1 (sl88 (L i.2.1 rl1.p2 i.q2) rl1.p2)).set 2 (MP map111 gb3 rl1.p3)).set 4 (sl47 (L a2 x4 c2) (i.1))).set 5 (HP.all (ownL 3) (i.1) rl1.q4),[])) hit1 c ((List.replicate (List.length x4) (⟨none,0,0⟩ : Hd)),ga1,gc2) (c.rk (rg 6) [0,1]) (fun s1 q1 i3 _ _ c h hr1=>?_) fun k1 _ _ c=>?_))
 refine P0 [] c fun _ c=>S0 (I0 c h (fun h=>?_) fun h=>?_)
 refine K0 (S0 (wp_block (P0 [] c fun _ c=>T1 (Fp [(4,1)] 6 c fun _ c=>Bd h fun x5 hx5 h=>Eem c (.f 0) hx5 fun _ u2 _ c=>?_))))
 obtain ⟨a3,c3,rfl,c⟩:=c.o_Term 2
 refine Fp [] 1 c fun _ c=>?_
 replace c:=c.nf
 refine Bd h fun x6 hx6 h=>Ca [0,1,2] c (ih hx6) ⟨.f 3,.f 1,tt⟩ call61 fun i4 _ _ c=>?_
 refine Bd h fun x7 hx7 h=>Esetd (q:=((hd i4.1 x6.1 i4.2.1):Hd)) (own:=(ownL 3)) 1 2 3 c hx7 fun _ _ _ c=>?_
 refine E1 (bk (tn (P1 [] c fun _ c=>Nx h ((List.set i3.1 (s1.1).toNat ((hd i4.1 x6.1 i4.2.1):Hd)),i4.p2,i4.q3) (c.rk [2,3,4,0,1,5] [0,1]))))
 refine wp_exit (te (te (be ?_)))
 obtain rfl:=hr1 _ (sk h)
 exact tn ⟨(i3.1,i3.2.1,i3.q2),c.rk (rg 6) [0,1]⟩
 refine T0 (Fp [] 1 c fun _ c=>Bd h fun x8 hx8 h=>Eall 4 5 c hx8 fun _ a4 c4 _ hr1 c=>?_)
 refine Fp [] 1 c fun _ c=>E0 (S0 (P0 [(1,1)] c fun _ c=>wp_block (P0 [] c fun _ c=>I0 c h (fun h=>?_) fun h=>?_)))
 refine T0 (Fp [] 1 c fun _ c=>?_)
 replace c:=c.nf
 refine Bd h fun x9 hx9 h=>Cb c (XA hx9) ⟨.ae 5 hr1 hx8,tt⟩ call95 fun i5 _ _ c=>?_
 refine Fp [] 1 c fun _ c=>E0 ?_
 replace c:=c.toT 6
 cases h
 exact wp_ret (br (tr (Rt c (i5.1,i5.2,k1.2.1,k1.q2) [6,0,1,2] [])))
 refine P0 [] c fun _ c=>I0 c h (fun h=>?_) fun h=>?_
 refine T0 (Fp [(2,1)] 3 c fun _ c=>?_)
 replace c:=c.nf
 refine Bd h fun x10 hx10 h=>Cb c (XT hx10) tt call94 fun i6 _ _ c=>?_
 refine Fp [] 1 c fun _ c=>Bd h fun x11 hx11 h=>Ca [0,1,2] c (Zag hx11) ⟨.g 3,.ae 2 hr1 hx8,tt⟩ call96 fun i7 _ _ c=>?_
 refine Fp [] 1 c fun _ c=>E0 ?_
 replace c:=c.toT 4
 cases h
 exact wp_ret (br (tr (Rt c (i7.1,i7.2.1,i7.p2,i7.q3) [4,5,6,7] [])))
 refine P0 [] c fun _ c=>I0 c h (fun h=>?_) fun h=>?_
 refine T0 (Fp [(1,1)] 2 c fun _ c=>?_)
 replace c:=c.nf
 refine Bd h fun x12 hx12 h=>Emk 3 c hx12 fun a5 c5 _ _ c=>?_
 refine Fp [] 1 c fun _ c=>E0 (S0 (P0 [] c fun _ c=>?_))
 obtain ⟨he1,c⟩:=c.relend 4 5
 replace c:=c.eqs (v:=L a2 x4 c2) (u:=L a2 rl1.q4 c2) 7 (by simp only [L,he1])
 replace c:=c.fza 4 5 hr1 hx8
 refine Bd h fun rl2 hit2 h=>Lp (fun s2  (i:Oh)=>([(0,B gb0 0),(7,L a2 rl1.q4 c2),(9,L a4 x8 c4),(10,L a5 x12 c5),(74,I (len x12)),(75,I s2.1)],fun Γ=>(((Γ.set 0 (BX gb0 113 [I s2.p2,L i.1 s2.p4 i.2,.map (some gb3),.bool s2.p3])).set 1 (sl88 (L i.1 s2.p4 i.2) s2.p4)).set 2 (MP map111 gb3 s2.q5)).set 4 (sl3 (L a5 x12 c5) s2.2.1),[])) (fun  (i:Oh)=>([(10,L a5 x12 c5)],fun Γ=>(((Γ.set 0 (BX gb0 113 [I rl2.2.1,L i.1 rl2.p3 i.2,.map (some gb3),.bool rl2.p2])).set 1 (sl88 (L i.1 rl2.p3 i.2) rl2.p3)).set 2 (MP map111 gb3 rl2.q4)).set 4 (sl3 (L a5 x12 c5) rl2.1),[])) hit2 c (k1.2.1,k1.q2) (c.rk (rg 5) (rg 4)) (fun s2 q2 i8 _ _ c h hr2=>?_) fun k2 _ _ c=>?_
 refine P0 [] c fun _ c=>S0 (I0 c h (fun h=>?_) fun h=>?_)
 refine K0 (S0 (wp_block (P0 [] c fun _ c=>ZI mix ?_)))
 refine Rh 1 ?_
 refine Rh 0 ?_
 refine Bd h fun x13 hx13 h=>Bd h fun x14 hx14 h=>?_
 obtain ⟨ep1,u3,c⟩:=c.elp (.f 2) hx14
 obtain ⟨a6,c6,rfl⟩:=c.sl 5
 refine Bd h fun x15 hx15 h=>Bd h fun x16 hx16 h=>?_
 obtain ⟨ep2,u4,c⟩:=c.elp (.f 2) hx16
 obtain ⟨a7,c7,rfl⟩:=c.sl 7
 refine Bd h fun x17 hx17 h=>rM 18 [(4,Pd.el (x13:Int)),(5,.eq (I x13)),(7,.eq (.pointer (some ep1))),(8,.eq (L a6 x14 c6)),(10,Pd.el (x15:Int)),(11,.eq (I x15)),(13,.eq (.pointer (some ep2))),(14,.eq (L a7 x16 c7)),(16,Pd.el (x17:Int)),(17,.eq (I x17))] [] c (fun ow=>⟨Zd ow (Nid c (.f 3) (kN hx13)),Zd ow (Nld c 4 (q:=x13) (atM 4 (p:=.el (x13:Int)))),Zd ow (Nie c 4),Zd ow (Nle c 4),Zd ow (Nid c (.f 5) (kN hx15)),Zd ow (Nld c 10 (q:=x15) (atM 10 (p:=.el (x15:Int)))),Zd ow (Nie c 6),Zd ow (Nle c 6),Zd ow (Nid c (.f 7) (kN hx17)),Zd ow (Nld c 16 (q:=x17) (atM 16 (p:=.el (x17:Int)))),tt⟩) fun _ _ _ _ _ c=>?_
 refine Bd h fun x18 hx18 h=>Ca [0,1,2] c (Zv hx18) tt call97 fun i9 _ _ c=>?_
 refine Bd h fun x19 hx19 h=>Eset 1 c hx19 fun _ _ _ c=>?_
 refine E1 (bk (tn (P1 [] c fun _ c=>Nx h (i9.1,i9.2) (c.rk [2,3,4,0,1] (rg 4)))))
 refine wp_exit (te (te (be ?_)))
 obtain rfl:=hr2 _ (sk h)
 exact tn ⟨(i8.1,i8.2),c.rk (rg 5) (rg 4)⟩
 refine P0 [] c fun _ c=>?_
 replace c:=c.toT 4
 cases h
 obtain ⟨he2,c⟩:=c.relent 4
 replace c:=c.eqs (v:=L a5 x12 c5) (u:=L a5 rl2.1 c5) 6 (by simp only [L,he2])
 exact wp_ret (br (tr (Rt c (a5,c5,k2.1,k2.2) [4,0,1,2] [])))
 refine P0 [] c fun _ c=>I0 c h (fun h=>?_) fun h=>?_
 refine T0 (Fp [] 1 c fun _ c=>?_)
 replace c:=c.nf
 refine Bd h fun x20 hx20 h=>Eall 4 5 c hx20 fun _ a8 c8 _ hr2 c=>?_
 refine Fp [] 1 c fun _ c=>?_
 replace c:=c.tk2 5 hr2 hx20 hr1 hx8
 refine Bd h fun x21 hx21 h=>Eapt 5 c (.f 2) hx21 fun a9 c9 _ _ c=>?_
 refine Fp [] 1 c fun _ c=>E0 ?_
 cases h
 exact wp_ret (br (tr (Rt c (a9,c9,k1.2.1,k1.q2) [5,0,1,2] [])))
 refine P0 [] c fun _ c=>I0 c h (fun h=>?_) fun h=>?_
 refine T0 (Fp [(2,1),(4,1),(6,1)] 8 c fun _ c=>?_)
 replace c:=c.nf
 replace c:=c.tka 5 hr1 hx8
 refine Bd h fun x22 hx22 h=>Ecutt 5 c hx22 fun a10 c10 _ c=>?_
 refine Fp [] 1 c fun _ c=>E0 ?_
 cases h
 exact wp_ret (br (tr (Rt c (a10,c10,k1.2.1,k1.q2) [5,0,1,2] [])))
 refine S0 (P0 [] c fun _ c=>Mp (p1.Op == 20) [(118,.bool (p1.Op == 20))] [(118,.bool (p1.Op == 21))] [(118,.bool ((p1.Op == 20) || (p1.Op == 21)))] [118,120] c fun _ c=>I0 c h (fun h=>?_) fun h=>?_)
 refine P0 [] c fun _ c=>S0 (P0 [(1,1)] c fun _ c=>I0 c h (fun h=>?_) fun h=>?_)
 refine T1 (Fp [] 4 c fun _ c=>?_)
 replace c:=c.nf
 refine Bd h fun x23 hx23 h=>Eel c (.ae 5 hr1 hx8) hx23 fun _ _ c=>?_
 refine Fp [] 1 c fun _ c=>E0 ?_
 replace c:=c.tka 5 hr1 hx8
 refine Bd h fun rl3 hit3 h=>S0 (Lp (fun s3  (i:Oh)=>([(4,B b1 0),(9,L i.1 s3 i.2),(12,I x23)],fun Γ=>Γ.set 5 (TL 3 (.slice i.1 (List.length s3) i.2) s3),[])) (fun  (i:Oh)=>([(9,L i.1 rl3 i.2)],fun Γ=>Γ.set 5 (TL 3 (.slice i.1 (List.length rl3) i.2) rl3),[])) hit3 c (a4,c4) (c.rk (rg 6) [0,1]) (fun s3 q3 i10 _ _ c h hr3=>?_) fun k3 _ _ c=>?_)
 refine S0 (P0 [(3,1)] c fun _ c=>I0 c h (fun h=>?_) fun h=>?_)
 refine K0 (wp_block (T1 (Fp [] 2 c fun _ c=>Elt 3 ([x23]:List Int) c fun a11 c11 _ _ c=>?_)))
 refine Bd h fun x24 hx24 h=>Eapt 5 c (.g 6) hx24 fun a12 c12 _ _ c=>?_
 refine Fp [] 1 c fun _ c=>E1 (bk (tn (Nx h (a12,c12) (c.rk (rg 6) [0,1]))))
 refine wp_exit (te (te (be ?_)))
 obtain rfl:=hr3 _ (sk h)
 exact tn ⟨(i10.1,i10.2),c.rk (rg 6) [0,1]⟩
 refine P0 [] c fun _ c=>?_
 cases h
 exact wp_ret (br (tr (Rt c (k3.1,k3.2,k1.2.1,k1.q2) [5,0,1,2] [])))
 refine K0 ?_
 replace c:=c.tka 5 hr1 hx8
 refine Bd h fun rl4 hit4 h=>S0 (Lp (fun s4  (i:Oh)=>([(4,B b1 0),(9,L i.1 s4 i.2),(12,I (-1))],fun Γ=>Γ.set 5 (TL 3 (.slice i.1 (List.length s4) i.2) s4),[])) (fun  (i:Oh)=>([(9,L i.1 rl4 i.2)],fun Γ=>Γ.set 5 (TL 3 (.slice i.1 (List.length rl4) i.2) rl4),[])) hit4 c (a4,c4) (c.rk (rg 6) [0,1]) (fun s4 q4 i11 _ _ c h hr4=>?_) fun k4 _ _ c=>?_)
 refine S0 (P0 [(3,1)] c fun _ c=>I0 c h (fun h=>?_) fun h=>?_)
 refine K0 (wp_block (T1 (Fp [] 2 c fun _ c=>?_)))
 replace c:=c.nf
 refine Elt 3 ([(-1)]:List Int) c fun a13 c13 _ _ c=>?_
 refine Bd h fun x25 hx25 h=>Eapt 5 c (.g 6) hx25 fun a14 c14 _ _ c=>?_
 refine Fp [] 1 c fun _ c=>E1 (bk (tn (Nx h (a14,c14) (c.rk (rg 6) [0,1]))))
 refine wp_exit (te (te (be ?_)))
 obtain rfl:=hr4 _ (sk h)
 exact tn ⟨(i11.1,i11.2),c.rk (rg 6) [0,1]⟩
 refine P0 [] c fun _ c=>?_
 cases h
 exact wp_ret (br (tr (Rt c (k4.1,k4.2,k1.2.1,k1.q2) [5,0,1,2] [])))
 refine K1 (bk (tn ?_))
 obtain ⟨he3,c⟩:=c.relend 4 5
 replace c:=c.eqs (v:=L a2 x4 c2) (u:=L a2 rl1.q4 c2) 7 (by simp only [L,he3])
 replace c:=c.fza 4 5 hr1 hx8
 refine Bd h fun x26 hx26 h=>?_
 obtain ⟨ep3,u5,c⟩:=c.elp (.f 2) hx26
 obtain ⟨a15,c15,rfl⟩:=c.sl 5
 refine S0 (ZI mix (rM 7 [(5,.eq (.pointer (some ep3))),(6,.eq (L a15 x26 c15))] [(2,1)] c (fun ow=>⟨Zd ow (Nie c 4),Zd ow (Nle c 4),tt⟩) fun _ _ _ _ _ c=>Bd h fun x27 hx27 h=>Ca [0,1,2] c (Zag hx27) ⟨.f 3,.f 5,tt⟩ call96 fun i12 _ _ c=>?_))
 refine Fp [] 1 c fun _ c=>E0 ?_
 replace c:=c.toT 1
 cases h
 exact wp_ret (Rt c (i12.1,i12.2.1,i12.p2,i12.q3) [1,2,3,4] [])
theorem Zd1 {p0 r} (h:XM n p0 = some r):Con prog 29 [tV p0 ga0 gc1] [] [lR ga0 p0.Kids gc1] fun (i:Ob Oh)=>([.agg #[I r.1.Inputs,L i.1 r.1.Gates i.2.1],L i.p2 r.2.1 i.q3,.bool r.2.2],[sl88 (L i.1 r.1.Gates i.2.1) r.1.Gates,sl3 (L i.p2 r.2.1 i.q3) r.2.1],[]):=by
 unfold XM at h
 refine En func29 rfl ntmps29 fun _ fr w c=>?_
 refine T0 (Ebx (tC p0 ga0 gc1) c fun b1 _ _ c=>?_)
 refine Eal [I 0,L none ([]:List D.Gate) 0] c fun b2 _ _ c=>?_
 refine Fp [] 2 c fun _ c=>E0 (S0 (Bd h fun x1 hx1 h=>Bd h fun x2 hx2 h=>S0 (rZ [(1,.eq (.bool x1)),(5,.eq (.bool x2))] [(0,0),(4,0)] mix c ⟨Ncl c (kN (Zaq hx1)) ⟨.f 0,tt⟩ call27,Ncl c (fun hg=>Zef (iteF (gcF hg) hx2)) ⟨.f 0,tt⟩ call58,tt⟩ fun _ _ c=>I0 c h (fun h=>?_) fun h=>?_)))
 refine T0 (Fp [] 1 c fun _ c=>Ess 1 [I 0,L none ([]:List D.Gate) 0] c fun _ c=>?_)
 refine Fp [] 2 c fun _ c=>E0 ?_
 replace c:=c.nil (α:=D.Gate) 88
 replace c:=c.nil (α:=Int) 3
 cases h
 exact wp_ret (tr (Rg c (none,0,none,0) [2,3] [] (.cell (α:=Agg 1) kk (.b 1) (.tmp (.tmp .nil)))))
 refine K0 (T0 (Emmd map107 (ownL 3) c fun b3 _ _ c=>?_))
 refine Fp [] 1 c fun _ c=>E0 (P0 [] c fun _ c=>S0 (T0 (Fp [(0,0)] 1 c fun _ c=>Bd h fun x3 hx3 h=>Cb c (Zcc hx3) ⟨.f 0,tt⟩ call59 fun i1 _ _ c=>?_)))
 refine Fp [] 2 c fun _ c=>E0 (Bd h fun rl1 hit1 h=>Lp (fun s1  (_:Unit)=>([(1,B b1 0),(2,B b2 0),(5,.map (some b3)),(6,I s1.1),(23,L i1.1 x3 i1.2),(24,I (len x3)),(25,I s1.2.1)],fun Γ=>Γ.set 2 (MD map107 (ownL 3) b3 s1.q2),[])) (fun  (_:Unit)=>([(1,B b1 0),(2,B b2 0),(5,.map (some b3)),(6,I rl1.1)],fun Γ=>Γ.set 2 (MD map107 (ownL 3) b3 rl1.2),[])) hit1 c () (c.rk (rg 4) [0]) (fun s1 q1 _ _ _ c h hr1=>?_) fun _ _ _ c=>?_)
 refine P0 [] c fun _ c=>S0 (I0 c h (fun h=>?_) fun h=>?_)
 refine K0 (S0 (wp_block (T0 (Bd h fun x4 hx4 h=>Eel c (.g 3) hx4 fun _ _ c=>?_))))
 refine Eal [Str.val ⟨[]⟩,I 0,I 0] c fun b4 _ _ c=>?_
 replace c:=c.nf
 refine Ess 4 (vC x4) c fun _ c=>?_
 refine E0 (T0 (Fp [(1,2)] 2 c fun _ c=>Bd h fun x5 hx5 h=>Emk 3 c hx5 fun a1 c1 _ _ c=>?_))
 refine Fp [] 1 c fun _ c=>E0 (S0 (P0 [(1,2)] c fun _ c=>Bd h fun rl2 hit2 h=>Lp (fun s2  (_:Unit)=>([(1,B b1 0),(2,B b2 0),(5,.map (some b3)),(6,I s2.1),(8,B b4 0),(9,L a1 x5 c1),(10,I s2.2.1),(23,L i1.1 x3 i1.2),(24,I (len x3)),(25,I s1.2.1)],fun Γ=>Γ.set 5 (sl3 (L a1 x5 c1) s2.q2),[])) (fun  (_:Unit)=>([(1,B b1 0),(2,B b2 0),(5,.map (some b3)),(6,I rl2.1),(8,B b4 0),(9,L a1 x5 c1),(23,L i1.1 x3 i1.2),(24,I (len x3)),(25,I s1.2.1)],fun Γ=>Γ.set 5 (sl3 (L a1 x5 c1) rl2.2),[])) hit2 c () (c.rk (rg 6) [0]) (fun s2 q2 _ _ _ c h hr2=>?_) fun _ _ _ c=>?_))
 refine S0 (P0 [] c fun _ c=>I0 c h (fun h=>?_) fun h=>?_)
 refine K0 (S0 (wp_block (T0 (Fp [] 4 c fun _ c=>Bd h fun x6 hx6 h=>Eset 5 c hx6 fun _ _ _ c=>?_))))
 refine E0 (Tq (P1 [] c fun _ c=>bk (tn (P1 [] c fun _ c=>Nx h () (c.rk (rg 6) [0])))))
 refine wp_exit (te (te (be ?_)))
 obtain rfl:=hr2 _ (sk h)
 exact tn ⟨(),c.rk (rg 6) [0]⟩
 refine T1 (Fp [(2,2)] 4 c fun _ c=>?_)
 obtain ⟨he1,c⟩:=c.relen 5
 replace c:=c.eqs (v:=L a1 x5 c1) (u:=L a1 rl2.2 c1) 49 (by simp only [L,he1])
 replace c:=c.toT 5
 refine Bd h fun x7 hx7 h=>Emd (r:=(hd a1 rl2.2 c1)) 2 5 c hx7 fun _ c=>?_
 refine E1 (bk (tn (P1 [] c fun _ c=>Nx h () (c.rk [0,1,4,2] [0]))))
 refine wp_exit (te (te (be ?_)))
 obtain rfl:=hr1 _ (sk h)
 exact tn ⟨(),c.rk (rg 4) [0]⟩
 refine S0 (P0 [] c fun _ c=>I0 c h (fun h=>?_) fun h=>?_)
 refine T0 (Fp [] 1 c fun _ c=>Ess 1 [I 0,L none ([]:List D.Gate) 0] c fun _ c=>?_)
 refine Fp [] 2 c fun _ c=>E0 ?_
 replace c:=c.nil (α:=D.Gate) 88
 replace c:=c.nil (α:=Int) 3
 cases h
 exact wp_ret (tr (Rg c (none,0,none,0) [4,5] [] (.cell (α:=Agg 1) kk (.b 1) (.tmp (.tmp .nil)))))
 refine K0 (T0 (Fp [] 2 c fun _ c=>Bd h fun x8 hx8 h=>Cb c (ZcG hx8) ⟨.nil,tt⟩ call60 fun i2 _ _ c=>?_))
 refine Fp [] 1 c fun _ c=>E0 (T0 (Fp [(1,0)] 3 c fun _ c=>?_))
 replace c:=c.nf
 refine Bd h fun x9 hx9 h=>Ca [4,5,6] c (ZbO hx9) ⟨.f 0,.md (ZhV 3) 2,tt⟩ call61 fun i3 _ _ c=>?_
 refine Fp [] 1 c fun _ c=>E0 (S0 (P0 [(3,2)] c fun _ c=>I0 c h (fun h=>?_) fun h=>?_))
 refine T0 (Fp [] 1 c fun _ c=>Ess 1 [I 0,L none ([]:List D.Gate) 0] c fun _ c=>?_)
 refine Fp [] 2 c fun _ c=>E0 ?_
 replace c:=c.nil (α:=D.Gate) 88
 replace c:=c.nil (α:=Int) 3
 cases h
 exact wp_ret (tr (Rg c (none,0,none,0) [8,9] [] (.cell (α:=Agg 1) kk (.b 1) (.tmp (.tmp .nil)))))
 refine K0 (Bd h fun x10 hx10 h=>S0 (ZI mix (rM 6 [(5,Pd.nw c.wd 5 (fun i:Oh=>L i.1 x10 i.2) (fun i=>HP.sep [sl3 (L i.1 x10 i.2) x10]))] [(3,2)] c (fun ow=>⟨Ncn c (kN (Zz hx10)) ⟨.gt 4,tt⟩ call62,tt⟩) fun ow _ _ hE hc cq=>?_)))
 obtain ⟨i4,hi4⟩:=hE.nw 5 71
 replace c:=Cx.newt c hc cq [(5,71,_,_)] ⟨hi4,tt⟩
 replace c:=c.flat 8
 refine Ess 1 [I x9.2.c.Inputs,L i3.p2 x9.2.c.Gates i3.q3] c fun _ c=>?_
 refine Fp [] 2 c fun _ c=>E0 ?_
 cases h
 exact wp_ret (Rg c (i3.p2,i3.q3,i4.1,i4.2) [6,8] [] (.cell (α:=Agg 1) kk (.b 1) (.tmp (.tmp .nil))))
theorem X9 {p0 p1 r} (h:ZJ p0 p1 = some r):C0 64 [I p0,I p1] [] (.bool r):=by
 unfold ZJ at h
 refine En func64 rfl ntmps64 fun _ fr w c=>?_
 refine P0 [] c fun _ c=>S0 (Ry [] mix c fun _ _ c=>?_)
 exact rE
theorem Zdi {p0 r} (h:XB n p0 = some r):C0 63 [.agg #[I p0.Inputs,L ga0 p0.Gates gc1]] [lR ga0 p0.Gates gc1] (.bool r):=by
 unfold XB at h
 refine En func63 rfl ntmps63 fun _ fr w c=>?_
 refine T0 (Ebx [I p0.Inputs,L ga0 p0.Gates gc1] c fun b1 _ _ c=>?_)
 refine Fp [] 1 c fun _ c=>E0 (S0 (S0 (Ry [(1,0),(5,0),(10,0)] mix c fun _ _ c=>I0 c h (fun h=>?_) fun h=>?_)))
 exact P0 [] c fun _ c=>rE
 refine K0 (T0 (Emm map138 c fun b2 _ _ c=>?_))
 refine Fp [] 1 c fun _ c=>E0 (S0 (P0 [(1,0)] c fun _ c=>Bd h fun rl1 hit1 h=>?_))
 have hk1:=h
 refine LpR (fun s1  (_:Unit)=>([(1,B b1 0),(3,.map (some b2)),(23,L ga0 p0.Gates gc1),(24,I (len p0.Gates)),(25,I s1.1)],fun Γ=>Γ.set 1 (MP map138 b2 s1.2),[])) (fun s  (_:Unit)=>([],fun Γ=>Γ.set 1 (MP map138 b2 s),[])) hit1 c () (c.rk [0,1] [0]) (fun s1 q1 _ _ _ c h hr1=>?_) fun s1r _ _ _ hrl c=>?_
 refine P0 [] c fun _ c=>S0 (I0 c h (fun h=>?_) fun h=>?_)
 refine K0 (S0 (wp_block (T0 (Fp [] 1 c fun _ c=>Bd h fun x1 hx1 h=>Eel c (.f 0) hx1 fun _ _ c=>?_))))
 refine Eal [I 0,I 0] c fun b3 _ _ c=>?_
 refine Fp [] 1 c fun _ c=>Ess 2 [I x1.A,I x1.B] c fun _ c=>?_
 refine E0 (P0 [(1,0)] c fun _ c=>S0 (Bd h fun x2 hx2 h=>Bd h fun x3 hx3 h=>Bd h fun x4 hx4 h=>S0 (rZ [(3,.eq (.bool x2)),(9,.eq (.bool x3)),(15,.eq (.bool x4))] [(1,1),(7,1),(14,1)] mix c ⟨Ncl c (kN (X9 hx2)) tt call64,Ncl c (fun hg=>X9 (iteF (gcF hg) hx3)) tt call64,Nmg 1 c (gF hx4),tt⟩ fun _ _ c=>I0 c h (fun h=>?_) fun h=>?_)))
 refine P0 [] c fun _ c=>?_
 obtain rfl:=hr1 _ (sk h)
 obtain rfl:=sj hk1
 exact wp_ret (tr (br (tr (tr (br (tr (Rt c () [] [])))))))
 refine K0 (S0 (Bd h fun x5 hx5 h=>Bd h fun x6 hx6 h=>Bd h fun x7 hx7 h=>S0 (rZ [(2,.eq (I x5)),(7,.eq (I x6)),(10,.eq (I x7))] [(1,1),(6,1),(9,1)] mix c ⟨Ncl c (kN (Yu hx5)) tt call98,Ncl c (fun hg=>Yu (iteF (gcF hg) hx6)) tt call98,Ncl c (fun hg=>Yu (iteF (gcF hg) hx7)) tt call98,tt⟩ fun _ _ c=>I0 c h (fun h=>?_) fun h=>?_)))
 refine P0 [] c fun _ c=>?_
 obtain rfl:=hr1 _ (sk h)
 obtain rfl:=sj hk1
 exact wp_ret (tr (br (tr (tr (br (tr (Rt c () [] [])))))))
 refine K0 (T1 (Fp [(1,1)] 2 c fun _ c=>Bd h fun x8 hx8 h=>Empb 1 c hx8 fun _ c=>?_))
 refine E1 (bk (tn (P1 [] c fun _ c=>Nx h () (c.rk [0,1] [0]))))
 refine wp_exit (te (te (be ?_)))
 obtain rfl:=hr1 _ (sk h)
 exact tn ⟨_,(),rfl,c.rk [0,1] [0]⟩
 subst hrl
 exact P0 [] c fun _ c=>rE
theorem Zae {p0 p1 r} (h:Yn n p0 p1 = some r):C0 72 [L ga0 p0 gc1,I p1] [lR ga0 p0 gc1] (.bool r):=by
 unfold Yn at h
 refine En func72 rfl ntmps72 fun _ fr w c=>?_
 refine P0 [] c fun _ c=>S0 (P0 [] c fun _ c=>Bd h fun rl1 hit1 h=>?_)
 have hk1:=h
 refine LpR (fun s1  (_:Unit)=>([(1,I p1),(7,L ga0 p0 gc1),(8,I (len p0)),(9,I s1)],id,[])) (fun s  (_:Unit)=>([],id,[])) hit1 c () (c.rk [] [0]) (fun s1 q1 _ _ _ c h hr1=>?_) fun s1r _ _ _ hrl c=>?_
 refine P0 [] c fun _ c=>S0 (I0 c h (fun h=>?_) fun h=>?_)
 refine K0 (S0 (wp_block (T0 (Bd h fun x1 hx1 h=>Eel c (.f 0) hx1 fun _ _ c=>?_))))
 refine Fp [] 1 c fun _ c=>E0 (T0 (Fp [] 2 c fun _ c=>Bd h fun x2 hx2 h=>Cb c (X9 hx2) tt call64 fun _ _ _ c=>?_))
 refine Fp [] 1 c fun _ c=>E0 (I0 c h (fun h=>?_) fun h=>?_)
 refine P0 [] c fun _ c=>?_
 obtain rfl:=hr1 _ (sk h)
 obtain rfl:=sj hk1
 exact wp_ret (br (tr (tr (br (tr (Rt c () [] []))))))
 refine K1 (bk (tn (P1 [] c fun _ c=>Nx h () (c.rk [] [0]))))
 refine wp_exit (te (te (be ?_)))
 obtain rfl:=hr1 _ (sk h)
 exact tn ⟨_,(),rfl,c.rk [] [0]⟩
 subst hrl
 exact P0 [] c fun _ c=>rE
theorem ZcV {p0 r} (h:ZaR p0 = some r):C0 143 [.int .u64 p0] [] (I r):=by
 unfold ZaR at h
 refine En func143 rfl ntmps143 fun _ fr w c=>?_
 refine P0 [] c fun _ c=>S0 (P0 [] c fun _ c=>I0 c h (fun h=>?_) fun h=>?_)
 refine T0 (Fp [] 1 c fun _ c=>Bd h fun x1 hx1 h=>Eshk c hx1 fun _ c=>?_)
 refine Fp [] 1 c fun _ c=>E0 (P1 [] c fun _ c=>S0 (P0 [] c fun _ c=>I0 c h (fun h=>?_) fun h=>?_))
 refine T0 (Fp [] 1 c fun _ c=>Bd h fun x2 hx2 h=>Eshk c hx2 fun _ c=>?_)
 refine Fp [] 1 c fun _ c=>E0 (P1 [] c fun _ c=>S0 (P0 [] c fun _ c=>I0 c h (fun h=>?_) fun h=>?_))
 refine T0 (Fp [] 1 c fun _ c=>Bd h fun x3 hx3 h=>Eshk c hx3 fun _ c=>?_)
 refine Fp [] 1 c fun _ c=>E0 (P1 [] c fun _ c=>T0 (Fp [] 3 c fun _ c=>Bd h fun x4 hx4 h=>Eix (kd:=.u8) c hx4 fun _ c=>?_))
 exact Fp [] 3 c fun _ c=>E0 rE
 refine K0 (T0 (Fp [] 3 c fun _ c=>Bd h fun x5 hx5 h=>Eix (kd:=.u8) c hx5 fun _ c=>?_))
 exact Fp [] 3 c fun _ c=>E0 rE
 refine K0 (S0 (P0 [] c fun _ c=>I0 c h (fun h=>?_) fun h=>?_))
 refine T0 (Fp [] 1 c fun _ c=>Bd h fun x6 hx6 h=>Eshk c hx6 fun _ c=>?_)
 refine Fp [] 1 c fun _ c=>E0 (P1 [] c fun _ c=>T0 (Fp [] 3 c fun _ c=>Bd h fun x7 hx7 h=>Eix (kd:=.u8) c hx7 fun _ c=>?_))
 exact Fp [] 3 c fun _ c=>E0 rE
 refine K0 (T0 (Fp [] 3 c fun _ c=>Bd h fun x8 hx8 h=>Eix (kd:=.u8) c hx8 fun _ c=>?_))
 exact Fp [] 3 c fun _ c=>E0 rE
 refine K0 (S0 (P0 [] c fun _ c=>I0 c h (fun h=>?_) fun h=>?_))
 refine T0 (Fp [] 1 c fun _ c=>Bd h fun x9 hx9 h=>Eshk c hx9 fun _ c=>?_)
 refine Fp [] 1 c fun _ c=>E0 (P1 [] c fun _ c=>S0 (P0 [] c fun _ c=>I0 c h (fun h=>?_) fun h=>?_))
 refine T0 (Fp [] 1 c fun _ c=>Bd h fun x10 hx10 h=>Eshk c hx10 fun _ c=>?_)
 refine Fp [] 1 c fun _ c=>E0 (P1 [] c fun _ c=>T0 (Fp [] 3 c fun _ c=>Bd h fun x11 hx11 h=>Eix (kd:=.u8) c hx11 fun _ c=>?_))
 exact Fp [] 3 c fun _ c=>E0 rE
 refine K0 (T0 (Fp [] 3 c fun _ c=>Bd h fun x12 hx12 h=>Eix (kd:=.u8) c hx12 fun _ c=>?_))
 exact Fp [] 3 c fun _ c=>E0 rE
 refine K0 (S0 (P0 [] c fun _ c=>I0 c h (fun h=>?_) fun h=>?_))
 refine T0 (Fp [] 1 c fun _ c=>Bd h fun x13 hx13 h=>Eshk c hx13 fun _ c=>?_)
 refine Fp [] 1 c fun _ c=>E0 (P1 [] c fun _ c=>T0 (Fp [] 3 c fun _ c=>Bd h fun x14 hx14 h=>Eix (kd:=.u8) c hx14 fun _ c=>?_))
 exact Fp [] 3 c fun _ c=>E0 rE
 refine K0 (T0 (Fp [] 3 c fun _ c=>Bd h fun x15 hx15 h=>Eix (kd:=.u8) c hx15 fun _ c=>?_))
 exact Fp [] 3 c fun _ c=>E0 rE
theorem ZdI {p0 r} (h:XZ p0 = some r):C0 120 [.int .u64 p0] [] (I r):=by
 unfold XZ at h
 refine En func120 rfl ntmps120 fun _ fr w c=>?_
 refine P0 [] c fun _ c=>S0 (I0 c h (fun h=>?_) fun h=>?_)
 cases h
 refine K0 (T0 (Fp [] 1 c fun _ c=>Bd h fun x1 hx1 h=>Cb c (ZcV hx1) tt call143 fun _ _ _ c=>?_))
 exact Fp [] 1 c fun _ c=>E0 rE
theorem Zbw {p0 r} (h:Xn p0 = some r):C0 133 [I p0] [] (.bool r):=by
 unfold Xn at h
 refine En func133 rfl ntmps133 fun _ fr w c=>?_
 exact P0 [] c fun _ c=>P0 [] c fun _ c=>rE
theorem ZaW {p0 p1 r} (h:YR p0 p1 = some r):C0 101 [I p0,I p1] [] (I r):=by
 unfold YR at h
 refine En func101 rfl ntmps101 fun _ fr w c=>?_
 refine P0 [] c fun _ c=>T0 (Fp [] 1 c fun _ c=>Bd h fun x1 hx1 h=>Cb c (Zbw hx1) tt call133 fun _ _ _ c=>?_)
 refine Fp [] 1 c fun _ c=>E0 (T0 (Fp [] 1 c fun _ c=>Bd h fun x2 hx2 h=>Cb c (Zbw hx2) tt call133 fun _ _ _ c=>?_))
 exact Fp [] 1 c fun _ c=>E0 (S0 (P0 [] c fun _ c=>I0 c h (fun h=>S0 (P0 [] c fun _ c=>I0 c h (fun h=>P0 [] c fun _ c=>rE) fun h=>K0 (P0 [] c fun _ c=>rE))) fun h=>K0 (S0 (P0 [] c fun _ c=>I0 c h (fun h=>P0 [] c fun _ c=>rE) fun h=>K0 (S0 (P0 [] c fun _ c=>I0 c h (fun h=>P0 [] c fun _ c=>rE) fun h=>K0 (S0 (P0 [] c fun _ c=>I0 c h (fun h=>P0 [] c fun _ c=>rE) fun h=>K0 (P0 [] c fun _ c=>rE)))))))))
theorem Zci {p0 p1 r} (h:Yv p0 p1 = some r):C0 100 [I p0,I p1] [] (I r):=by
 unfold Yv at h
 refine En func100 rfl ntmps100 fun _ fr w c=>?_
 refine P0 [] c fun _ c=>S0 (T0 (Fp [] 1 c fun _ c=>Bd h fun x1 hx1 h=>Cb c (Yu hx1) tt call98 fun _ _ _ c=>?_))
 refine Fp [] 1 c fun _ c=>Bd h fun x2 hx2 h=>Cb c (Yu hx2) tt call98 fun _ _ _ c=>?_
 refine Bd h fun x3 hx3 h=>Cb c (ZaW hx3) tt call101 fun _ _ _ c=>?_
 refine Fp [] 1 c fun _ c=>E0 (P0 [] c fun _ c=>I0 c h (fun h=>P0 [] c fun _ c=>rE) fun h=>?_)
 refine K0 (T0 (Fp [] 2 c fun _ c=>Bd h fun x4 hx4 h=>Cb c (ZaW hx4) tt call101 fun _ _ _ c=>?_))
 exact Fp [] 1 c fun _ c=>E0 rE
theorem ZaO {p0 gn2 r} (h:Z4 n p0 = some r):Con prog 102 [.slice ga0 gn2 gc1] [sl3 (.slice ga0 gn2 gc1) p0] [] fun (i:Oh)=>([L i.1 r i.2],[sl3 (L i.1 r i.2) r],[]):=by
 unfold Z4 at h
 refine En func102 rfl ntmps102 fun _ fr w c=>?_
 obtain ⟨rfl,c⟩:=c.relen 0
 refine P0 [] c fun _ c=>S0 (P0 [] c fun _ c=>I0 c h (fun h=>?_) fun h=>?_)
 refine P0 [] c fun _ c=>?_
 obtain rfl:=sj h
 exact wp_ret (tr (Rt c (ga0,gc1) [0] []))
 refine K0 (S0 (P0 [] c fun _ c=>Bd h fun rl1 hit1 h=>?_))
 have hk1:=h
 refine LpR (fun s1  (_:Unit)=>([(0,L ga0 p0 gc1),(3,I s1)],id,[])) (fun s  (_:Unit)=>([(0,L ga0 p0 gc1)],id,[])) hit1 c () (c.rk [0] []) (fun s1 q1 _ _ _ c h hr1=>?_) fun s1r _ _ _ hrl c=>?_
 refine S0 (P0 [] c fun _ c=>I0 c h (fun h=>?_) fun h=>?_)
 refine K0 (S0 (wp_block (Bd h fun x1 hx1 h=>Bd h fun x2 hx2 h=>S0 (rZ [(2,Pd.el (x1:Int)),(3,.eq (I x1)),(7,Pd.el (x2:Int)),(8,.eq (I x2))] [] mix c ⟨Nid c (.g 0) (kN hx1),Nld c 2 (q:=x1) (atN 2),Nid c (.g 0) (kN hx2),Nld c 7 (q:=x2) (atN 7),tt⟩ fun _ _ c=>I0 c h (fun h=>?_) fun h=>?_))))
 cases h
 refine K1 (bk (tn (P1 [] c fun _ c=>Nx h () (c.rk [0] []))))
 refine wp_exit (te (te (be ?_)))
 obtain rfl:=hr1 _ (sk h)
 exact tn ⟨_,(),rfl,c.rk [0] []⟩
 subst hrl
 refine P0 [] c fun _ c=>?_
 obtain rfl:=sj h
 exact wp_ret (Rt c (ga0,gc1) [0] [])
theorem ZbG {p0 p1 r} (h:Yt n p0 p1 = some r):C0 103 [L ga0 p0 gc1,I p1] [lR ga0 p0 gc1] (.bool r):=by
 unfold Yt at h
 refine En func103 rfl ntmps103 fun _ fr w c=>?_
 refine P0 [] c fun _ c=>S0 (T0 (Fp [] 2 c fun _ c=>Bd h fun x1 hx1 h=>Cb c (Zae hx1) ⟨.f 0,tt⟩ call72 fun _ _ _ c=>?_))
 refine Fp [] 1 c fun _ c=>E0 (I0 c h (fun h=>P0 [] c fun _ c=>rE) fun h=>?_)
 refine K0 (S0 (P0 [] c fun _ c=>Bd h fun rl1 hit1 h=>?_))
 have hk1:=h
 refine LpR (fun s1  (_:Unit)=>([(0,L ga0 p0 gc1),(5,I s1)],id,[])) (fun s  (_:Unit)=>([],id,[])) hit1 c () (c.rk [] [0]) (fun s1 q1 _ _ _ c h hr1=>?_) fun s1r _ _ _ hrl c=>?_
 refine S0 (P0 [] c fun _ c=>I0 c h (fun h=>?_) fun h=>?_)
 refine K0 (S0 (wp_block (Bd h fun x2 hx2 h=>Bd h fun x3 hx3 h=>Bd h fun x4 hx4 h=>Bd h fun x5 hx5 h=>S0 (rZ [(3,Pd.el (x2:Int)),(4,.eq (I x2)),(5,.eq (I x3)),(8,Pd.el (x4:Int)),(9,.eq (I x4)),(10,.eq (I x5))] [] mix c ⟨Nid c (.f 0) (kN hx2),Nld c 3 (q:=x2) (atN 3),Ncl c (kN (Yu hx3)) tt call98,Nid c (.f 0) (kN hx4),Nld c 8 (q:=x4) (atN 8),Ncl c (kN (Yu hx5)) tt call98,tt⟩ fun _ _ c=>I0 c h (fun h=>?_) fun h=>?_))))
 refine P0 [] c fun _ c=>?_
 obtain rfl:=hr1 _ (sk h)
 obtain rfl:=sj hk1
 exact wp_ret (br (tr (tr (br (tr (Rt c () [] []))))))
 refine K1 (bk (tn (P1 [] c fun _ c=>Nx h () (c.rk [] [0]))))
 refine wp_exit (te (te (be ?_)))
 obtain rfl:=hr1 _ (sk h)
 exact tn ⟨_,(),rfl,c.rk [] [0]⟩
 subst hrl
 exact P0 [] c fun _ c=>rE
theorem YI {p0 p1 p2 gn2 r} (h:Zi n p0 p1 p2 = some r):Con prog 144 [.slice ga0 gn2 gc1,I p1,I p2,.func (.func 100) #[] #[]] [sl3 (.slice ga0 gn2 gc1) p0] [] fun (_:Unit)=>([],[sl3 (.slice ga0 gn2 gc1) r],[]):=by
 unfold Zi at h
 refine En func144 rfl ntmps144 fun _ fr w c=>?_
 obtain ⟨rfl,c⟩:=c.relen 0
 refine P0 [] c fun _ c=>Bd h fun rl1 hit1 h=>Tq (Lp (fun s1  (_:Unit)=>([(0,L ga0 p0 gc1),(1,I p1),(2,I p2),(3,.func (.func 100) #[] #[]),(8,I s1.1)],fun Γ=>Γ.set 0 (sl3 (L ga0 p0 gc1) s1.2),[])) (fun  (_:Unit)=>([],fun Γ=>Γ.set 0 (sl3 (L ga0 p0 gc1) rl1),[])) hit1 c () (c.rk [0] []) (fun s1 q1 _ _ _ c h hr1=>?_) fun _ _ _ c=>?_)
 refine S0 (P0 [] c fun _ c=>I0 c h (fun h=>?_) fun h=>?_)
 refine K0 (S0 (wp_block (P0 [] c fun _ c=>Bd h fun rl2 hit2 h=>Tq (Lp (fun s2  (_:Unit)=>([(0,L ga0 p0 gc1),(1,I p1),(2,I p2),(3,.func (.func 100) #[] #[]),(8,I s1.1),(9,I s2.1)],fun Γ=>Γ.set 0 (sl3 (L ga0 p0 gc1) s2.2),[])) (fun  (_:Unit)=>([(0,L ga0 p0 gc1),(1,I p1),(2,I p2),(3,.func (.func 100) #[] #[]),(8,I s1.1)],fun Γ=>Γ.set 0 (sl3 (L ga0 p0 gc1) rl2),[])) hit2 c () (c.rk [0] []) (fun s2 q2 _ _ _ c h hr2=>?_) fun _ _ _ c=>?_))))
 refine S0 (Bd h fun x1 hx1 h=>Bd h fun x2 hx2 h=>Bd h fun x3 hx3 h=>S0 (rZ [(7,Pd.el (x1:Int)),(8,.eq (I x1)),(12,Pd.el (x2:Int)),(13,.eq (I x2)),(14,.eq (I x3))] [] mix c ⟨Nid c (.g 0) (gT hx1),Nld c 7 (q:=x1) (atN 7),Nid c (.g 0) (gT hx2),Nld c 12 (q:=x2) (atN 12),NclV c (fun hg=>Zci (iteT (gcT hg) hx3)) tt call100,tt⟩ fun _ _ c=>I0 c h (fun h=>?_) fun h=>?_))
 refine K0 (S0 (wp_block (ZI mix ?_)))
 refine Rhs [2,3,4] c 15 ?_
 refine Bd h fun x4 hx4 h=>Bd h fun x5 hx5 h=>rM 14 [(8,Pd.el (x4:Int)),(9,.eq (I x4)),(12,Pd.el (x5:Int)),(13,.eq (I x5))] [] c (fun ow=>⟨Zd ow (Nid c (.g 0) (kN hx4)),Zd ow (Nld c 8 (q:=x4) (atM 8 (p:=.el (x4:Int)))),Zd ow (Nid c (.g 0) (kN hx5)),Zd ow (Nld c 12 (q:=x5) (atM 12 (p:=.el (x5:Int)))),tt⟩) fun _ _ _ _ _ c=>?_
 refine Bd h fun x6 hx6 h=>Eset 0 c hx6 fun _ _ _ c=>?_
 refine Bd h fun x7 hx7 h=>Eset 0 c hx7 fun _ _ _ c=>?_
 refine E1 (bk (tn (P1 [] c fun _ c=>Nx h () (c.rk [0] []))))
 refine wp_exit (te (te (be ?_)))
 obtain rfl:=hr2 _ (sk h)
 exact tn ⟨(),c.rk [0] []⟩
 refine bk (tn (P1 [] c fun _ c=>Nx h () (c.rk [0] [])))
 refine wp_exit (te (te (be ?_)))
 obtain rfl:=hr1 _ (sk h)
 exact tn ⟨(),c.rk [0] []⟩
 obtain rfl:=sj h
 exact (Zcb (Rg c () [0] [] .nil))
theorem Xb {p0 p1 p2 p3 gn2 r} (h:Zw n p0 p1 p2 p3 = some r):Con prog 132 [.slice ga0 gn2 gc1,I p1,I p2,I p3,.func (.func 100) #[] #[]] [sl3 (.slice ga0 gn2 gc1) p0] [] fun (_:Unit)=>([],[sl3 (.slice ga0 gn2 gc1) r],[]):=by
 unfold Zw at h
 refine En func132 rfl ntmps132 fun _ fr w c=>?_
 obtain ⟨rfl,c⟩:=c.relen 0
 refine P0 [] c fun _ c=>P0 [] c fun _ c=>Bd h fun rl1 hit1 h=>?_
 have hk1:=h
 refine Tq (LpR (fun s1  (_:Unit)=>([(0,L ga0 p0 gc1),(1,I s1.1),(2,I s1.2.1),(3,I s1.p2),(4,.func (.func 100) #[] #[]),(10,.bool s1.p3),(11,.bool s1.q4)],id,[])) (fun s  (_:Unit)=>([],id,[])) hit1 c () (c.rk [0] []) (fun s1 q1 _ _ _ c h hr1=>?_) fun s1r _ _ _ hrl c=>?_)
 refine wp_block (P0 [] c fun _ c=>S0 (P0 [] c fun _ c=>I0 c h (fun h=>?_) fun h=>?_))
 refine T0 (Fp [] 4 c fun _ c=>Bd h fun x1 hx1 h=>Ca [0] c (YI hx1) tt call144 fun _ _ _ c=>?_)
 refine E0 ?_
 obtain rfl:=hr1 _ (sk h)
 obtain rfl:=sj hk1
 exact wp_ret (tr (br (tr (br (tr (Rg c () [0] [] .nil))))))
 refine K0 (S0 (P0 [] c fun _ c=>I0 c h (fun h=>?_) fun h=>?_))
 cases h
 refine K0 (S0 (P0 [] c fun _ c=>I0 c h (fun h=>?_) fun h=>?_))
 cases h
 cases h
 subst hrl
 obtain rfl:=sj h
 exact (Zcb (Rg c () [0] [] .nil))
theorem Xa {p0 gn2 r} (h:Zh n p0 = some r):Con prog 99 [.slice ga0 gn2 gc1,.func (.func 100) #[] #[]] [sl3 (.slice ga0 gn2 gc1) p0] [] fun (_:Unit)=>([],[sl3 (.slice ga0 gn2 gc1) r],[]):=by
 unfold Zh at h
 refine En func99 rfl ntmps99 fun _ fr w c=>?_
 obtain ⟨rfl,c⟩:=c.relen 0
 refine P0 [] c fun _ c=>T1 (Fp [] 4 c fun _ c=>Bd h fun x1 hx1 h=>Cb c (ZdI hx1) tt call120 fun _ _ _ c=>?_)
 refine Fp [] 1 c fun _ c=>Bd h fun x2 hx2 h=>Ca [0] c (Xb hx2) tt call132 fun _ _ _ c=>?_
 refine E1 ?_
 obtain rfl:=sj h
 exact (Zcb (Rg c () [0] [] .nil))
theorem ZcJ {p0 r} (h:ZY n p0 = some r):Con prog 66 [L ga0 p0 gc1] [] [lR ga0 p0 gc1] fun (i:Oh)=>([L i.1 r.1 i.2,.bool r.2],[sl3 (L i.1 r.1 i.2) r.1],[]):=by
 unfold ZY at h
 refine En func66 rfl ntmps66 fun _ fr w c=>?_
 refine P0 [] c fun _ c=>S0 (T0 (Fp [] 1 c fun _ c=>Bd h fun x1 hx1 h=>Cb c (Zae hx1) ⟨.f 0,tt⟩ call72 fun _ _ _ c=>?_))
 refine Fp [] 1 c fun _ c=>E0 (I0 c h (fun h=>?_) fun h=>?_)
 refine P0 [] c fun _ c=>?_
 replace c:=c.nil (α:=Int) 3
 cases h
 exact wp_ret (tr (Rg c (none,0) [0] [] (.tmp (.tmp .nil))))
 refine K0 (T0 (Fp [] 1 c fun _ c=>Bd h fun x2 hx2 h=>Cb c (Zz hx2) ⟨.f 0,tt⟩ call62 fun i1 _ _ c=>?_))
 refine Fp [] 1 c fun _ c=>E0 (T0 (Fp [] 1 c fun _ c=>Bd h fun x3 hx3 h=>Ca [0] c (Xa hx3) tt call99 fun _ _ _ c=>?_))
 refine E0 (T0 (Fp [] 1 c fun _ c=>Bd h fun x4 hx4 h=>Ca [0] c (ZaO hx4) tt call102 fun i2 _ _ c=>?_))
 refine Fp [] 1 c fun _ c=>E0 (S0 (T0 (Fp [] 1 c fun _ c=>Bd h fun x5 hx5 h=>Cb c (ZbG hx5) ⟨.g 0,tt⟩ call103 fun _ _ _ c=>?_)))
 refine Fp [] 1 c fun _ c=>E0 (I0 c h (fun h=>?_) fun h=>?_)
 refine P0 [] c fun _ c=>?_
 replace c:=c.nil (α:=Int) 3
 cases h
 exact wp_ret (tr (Rg c (none,0) [1] [] (.tmp (.tmp .nil))))
 refine K0 (P0 [] c fun _ c=>?_)
 cases h
 exact wp_ret (Rg c (i2.1,i2.2) [0] [] (.tmp (.tmp .nil)))
theorem Zbr {p0 p1 r} (h:XH n p0 p1 = some r):Con prog 30 [.agg #[I p0.Inputs,L ga0 p0.Gates gc1],I p1] [] [lR ga0 p0.Gates gc1] fun (i:Ob (List Hd))=>([.agg #[I r.1.Vars,L i.1 r.1.Clauses i.2.1],.bool r.2],[sl47 (L i.1 r.1.Clauses i.2.1) (i.q2)],[CS i.q2 r.1.Clauses]):=by
 unfold XH at h
 refine En func30 rfl ntmps30 fun _ fr w c=>?_
 refine T0 (Ebx [I p0.Inputs,L ga0 p0.Gates gc1] c fun b1 _ _ c=>?_)
 refine Eal [I 0,L none ([]:List (List Int)) 0] c fun b2 _ _ c=>?_
 refine Fp [] 1 c fun _ c=>E0 (S0 (Bd h fun x1 hx1 h=>Bd h fun x2 hx2 h=>Bd h fun x3 hx3 h=>S0 (rZ [(1,.eq (.bool x1)),(6,.eq (I x2)),(7,.eq (.bool x3))] [(0,0),(5,0)] mix c ⟨Ncl c (kN (Zdi hx1)) ⟨.f 0,tt⟩ call63,Ncl c (fun hg=>Zad (iteF (gcF hg) hx2)) ⟨.f 0,tt⟩ call65,Ncl c (fun hg=>X9 (iteF (gcF hg) hx3)) tt call64,tt⟩ fun _ _ c=>I0 c h (fun h=>?_) fun h=>?_)))
 refine T0 (Fp [] 1 c fun _ c=>Ess 1 [I 0,L none ([]:List (List Int)) 0] c fun _ c=>?_)
 refine Fp [] 1 c fun _ c=>E0 ?_
 replace c:=(c.nil (α:=Hd) 47).csn (ρ:=Hd) (α:=List Int)
 cases h
 exact wp_ret (tr (Rg c (none,0,([]:List Hd)) [2] [1] (.cell (α:=Agg 1) kk (.b 1) (.tmp .nil))))
 refine K0 (T0 (Fp [(0,0)] 1 c fun _ c=>Bd h fun x4 hx4 h=>Cb c (Zad hx4) ⟨.f 0,tt⟩ call65 fun _ _ _ c=>?_))
 refine Elt 3 ([1]:List Int) c fun a1 c1 _ _ c=>?_
 replace c:=c.fz 2
 refine Eltr 47 ([⟨a1,List.length ([1]:List Int),c1⟩]:List Hd) ([([1]:List Int)]:List (List Int)) c ⟨.f 1,tt⟩ fun a2 c2 _ _ c=>?_
 refine Fp [] 1 c fun _ c=>?_
 replace c:=c.nf
 refine Eal [I 0,L none ([]:List (List Int)) 0] c fun b3 _ _ c=>?_
 refine Ess 3 [I x4,L a2 ([([1]:List Int)]:List (List Int)) c2] c fun _ c=>?_
 refine E0 (S0 (P0 [(1,0)] c fun _ c=>Bd h fun rl1 hit1 h=>Lp (fun s1  (i:List Hd × Oh)=>([(1,I p1),(2,B b1 0),(4,B b2 0),(6,B b3 0),(31,L ga0 p0.Gates gc1),(32,I (len p0.Gates)),(33,I s1.1)],fun Γ=>(Γ.set 2 (sl47 (L i.2.1 s1.2 i.q2) (i.1))).set 3 (BX b3 52 [I x4,L i.2.1 s1.2 i.q2]),[CS (i.1) s1.2])) (fun  (i:List Hd × Oh)=>([(1,I p1),(4,B b2 0),(6,B b3 0)],fun Γ=>(Γ.set 2 (sl47 (L i.2.1 rl1 i.q2) (i.1))).set 3 (BX b3 52 [I x4,L i.2.1 rl1 i.q2]),[CS (i.1) rl1])) hit1 c (([⟨a1,List.length ([1]:List Int),c1⟩]:List Hd),a2,c2) (c.rk (rg 4) [0,1,2,2]) (fun s1 q1 i1 _ _ c h hr1=>?_) fun k1 _ _ c=>?_))
 refine P0 [] c fun _ c=>S0 (I0 c h (fun h=>?_) fun h=>?_)
 refine K0 (S0 (wp_block (T0 (Fp [] 1 c fun _ c=>Bd h fun x5 hx5 h=>Eel c (.f 0) hx5 fun _ _ c=>?_))))
 refine Eal [I 0,I 0] c fun b4 _ _ c=>?_
 refine Fp [] 1 c fun _ c=>Ess 4 [I x5.A,I x5.B] c fun _ c=>?_
 refine E0 (P0 [(1,0)] c fun _ c=>T0 (Fp [(3,3)] 4 c fun _ c=>Elt 3 ([(w64 (0 - (w64 ((w64 (2 + p0.Inputs)) + s1.1)))),x5.A]:List Int) c fun a3 c3 _ _ c=>?_))
 refine Fp [(8,3)] 4 c fun _ c=>?_
 replace c:=c.nf
 refine Elt 3 ([(w64 (0 - (w64 ((w64 (2 + p0.Inputs)) + s1.1)))),x5.B]:List Int) c fun a4 c4 _ _ c=>?_
 refine Fp [(12,3),(15,3)] 7 c fun _ c=>Elt 3 ([(w64 ((w64 (2 + p0.Inputs)) + s1.1)),(w64 (0 - x5.A)),(w64 (0 - x5.B))]:List Int) c fun a5 c5 _ _ c=>?_
 replace c:=c.fz 5
 replace c:=c.fz 5
 replace c:=c.fz 5
 refine Eltr 47 ([⟨a3,List.length ([(w64 (0 - (w64 ((w64 (2 + p0.Inputs)) + s1.1)))),x5.A]:List Int),c3⟩,⟨a4,List.length ([(w64 (0 - (w64 ((w64 (2 + p0.Inputs)) + s1.1)))),x5.B]:List Int),c4⟩,⟨a5,List.length ([(w64 ((w64 (2 + p0.Inputs)) + s1.1)),(w64 (0 - x5.A)),(w64 (0 - x5.B))]:List Int),c5⟩]:List Hd) ([([(w64 (0 - (w64 ((w64 (2 + p0.Inputs)) + s1.1)))),x5.A]:List Int),([(w64 (0 - (w64 ((w64 (2 + p0.Inputs)) + s1.1)))),x5.B]:List Int),([(w64 ((w64 (2 + p0.Inputs)) + s1.1)),(w64 (0 - x5.A)),(w64 (0 - x5.B))]:List Int)]:List (List Int)) c ⟨.f 4,.f 5,.f 6,tt⟩ fun a6 c6 _ _ c=>?_
 refine Fp [] 2 c fun _ c=>E0 (Bd h fun rl2 hit2 h=>Tq (Lp (fun s2  (i:List Hd × Oh)=>([(1,I p1),(2,B b1 0),(4,B b2 0),(6,B b3 0),(31,L ga0 p0.Gates gc1),(32,I (len p0.Gates)),(33,I s1.1),(61,L a6 ([([(w64 (0 - (w64 ((w64 (2 + p0.Inputs)) + s1.1)))),x5.A]:List Int),([(w64 (0 - (w64 ((w64 (2 + p0.Inputs)) + s1.1)))),x5.B]:List Int),([(w64 ((w64 (2 + p0.Inputs)) + s1.1)),(w64 (0 - x5.A)),(w64 (0 - x5.B))]:List Int)]:List (List Int)) c6),(62,I (len ([([(w64 (0 - (w64 ((w64 (2 + p0.Inputs)) + s1.1)))),x5.A]:List Int),([(w64 (0 - (w64 ((w64 (2 + p0.Inputs)) + s1.1)))),x5.B]:List Int),([(w64 ((w64 (2 + p0.Inputs)) + s1.1)),(w64 (0 - x5.A)),(w64 (0 - x5.B))]:List Int)]:List (List Int)))),(63,I s2.1)],fun Γ=>(Γ.set 2 (sl47 (L i.2.1 s2.2 i.q2) (i.1))).set 3 (BX b3 52 [I x4,L i.2.1 s2.2 i.q2]),[CS (i.1) s2.2])) (fun  (i:List Hd × Oh)=>([(1,I p1),(2,B b1 0),(4,B b2 0),(6,B b3 0),(31,L ga0 p0.Gates gc1),(32,I (len p0.Gates)),(33,I s1.1)],fun Γ=>(Γ.set 2 (sl47 (L i.2.1 rl2 i.q2) (i.1))).set 3 (BX b3 52 [I x4,L i.2.1 rl2 i.q2]),[CS (i.1) rl2])) hit2 c (i1.1,i1.2.1,i1.q2) (c.rk (rg 6) [0,1,2,3,4,5,6,7,3]) (fun s2 q2 i2 _ _ c h hr2=>?_) fun k2 _ _ c=>?_))
 refine P0 [] c fun _ c=>S0 (I0 c h (fun h=>?_) fun h=>?_)
 refine K0 (S0 (wp_block (T0 ?_)))
 replace c:=c.nf
 refine Bd h fun x6 hx6 h=>Eemr 5 7 c hx6 fun _ u1 _ c=>?_
 obtain ⟨a7,c7,rfl⟩:=c.sl 9
 refine Fp [] 1 c fun _ c=>E0 (T0 (Fp [] 1 c fun _ c=>Bd h fun x7 hx7 h=>Cb c (ZcJ hx7) ⟨.f 9,tt⟩ call66 fun i3 _ _ c=>?_))
 refine Fp [] 5 c fun _ c=>E0 (T1 (Fp [(1,2)] 3 c fun _ c=>?_))
 replace c:=c.fz 6
 refine Eltr 47 ([(hd i3.1 x7.1 i3.2)]:List Hd) ([x7.1]:List (List Int)) c ⟨.f 10,tt⟩ fun a8 c8 _ _ c=>?_
 replace c:=c.nf
 replace c:=c.fzr 6 11
 refine Bd h fun x8 hx8 h=>Eapr 2 8 c (.f 12) hx8 fun rm1 a9 c9 _ _ c=>?_
 refine Fp [] 1 c fun _ c=>Esb 3 1 (L a9 x8 c9) c fun _ c=>?_
 refine E1 (bk (tn (P1 [] c fun _ c=>Nx h ((i2.1 ++ rm1),a9,c9) (c.rk (rg 6) [0,1,2,3,4,5,6,7,13]))))
 refine wp_exit (te (te (be ?_)))
 obtain rfl:=hr2 _ (sk h)
 exact tn ⟨(i2.1,i2.2.1,i2.q2),c.rk (rg 6) (rg 9)⟩
 refine bk (tn (P1 [] c fun _ c=>Nx h (k2.1,k2.2.1,k2.q2) (c.rk (rg 4) [0,1,2,8])))
 refine wp_exit (te (te (be ?_)))
 obtain rfl:=hr1 _ (sk h)
 exact tn ⟨(i1.1,i1.2.1,i1.q2),c.rk (rg 4) (rg 4)⟩
 refine T0 (Fp [(1,2)] 3 c fun _ c=>Elt 3 ([p1]:List Int) c fun a10 c10 _ _ c=>?_)
 replace c:=c.fz 4
 refine Eltr 47 ([⟨a10,List.length ([p1]:List Int),c10⟩]:List Hd) ([([p1]:List Int)]:List (List Int)) c ⟨.f 4,tt⟩ fun a11 c11 _ _ c=>?_
 replace c:=c.fzr 4 5
 refine Bd h fun x9 hx9 h=>Eapr 2 3 c (.f 6) hx9 fun rm2 a12 c12 _ _ c=>?_
 refine Fp [] 1 c fun _ c=>?_
 replace c:=c.nf
 refine Esb 3 1 (L a12 x9 c12) c fun _ c=>?_
 refine E0 (T0 (Fp [(0,2)] 1 c fun _ c=>Ess 1 [I x4,L a12 x9 c12] c fun _ c=>?_))
 refine Fp [] 1 c fun _ c=>E0 ?_
 cases h
 exact wp_ret (Rg c (a12,c12,(k1.1 ++ rm2)) [2] [7] (.cell (α:=Agg 1) kk (.b 1) (.tmp .nil)))
theorem Zdg {p0 r} (h:YT n p0 = some r):C0 71 [.agg #[I p0.Vars,L ga0 p0.Clauses gc1]] [lR ga0 p0.Clauses gc1] (.bool r):=by
 unfold YT at h
 refine En func71 rfl ntmps71 fun _ fr w c=>?_
 refine T0 (Ebx [I p0.Vars,L ga0 p0.Clauses gc1] c fun b1 _ _ c=>?_)
 refine Fp [] 1 c fun _ c=>E0 (S0 (S0 (Ry [(1,0),(5,0),(10,0)] mix c fun _ _ c=>I0 c h (fun h=>?_) fun h=>?_)))
 exact P0 [] c fun _ c=>rE
 refine K0 (S0 (P0 [(1,0)] c fun _ c=>Bd h fun rl1 hit1 h=>?_))
 have hk1:=h
 refine LpR (fun s1  (_:Unit)=>([(1,B b1 0),(20,L ga0 p0.Clauses gc1),(21,I (len p0.Clauses)),(22,I s1)],id,[])) (fun s  (_:Unit)=>([],id,[])) hit1 c () (c.rk [0] [0]) (fun s1 q1 _ _ _ c h hr1=>?_) fun s1r _ _ _ hrl c=>?_
 refine P0 [] c fun _ c=>S0 (I0 c h (fun h=>?_) fun h=>?_)
 refine K0 (S0 (wp_block (T0 (Bd h fun x1 hx1 h=>Eem c (.f 0) hx1 fun _ u1 _ c=>?_))))
 obtain ⟨a1,c1,rfl⟩:=c.sl 1
 refine Fp [] 1 c fun _ c=>E0 (T0 (Fp [(2,0)] 3 c fun _ c=>Bd h fun x2 hx2 h=>Cb c (ZbG hx2) ⟨.f 1,tt⟩ call103 fun _ _ _ c=>?_))
 refine Fp [] 1 c fun _ c=>E0 (I0 c h (fun h=>?_) fun h=>?_)
 refine P0 [] c fun _ c=>?_
 obtain rfl:=hr1 _ (sk h)
 obtain rfl:=sj hk1
 exact wp_ret (br (tr (tr (br (tr (Rt c () [] []))))))
 refine K1 (bk (tn (P1 [] c fun _ c=>Nx h () (c.rk [0] [0]))))
 refine wp_exit (te (te (be ?_)))
 obtain rfl:=hr1 _ (sk h)
 exact tn ⟨_,(),rfl,c.rk [0] [0]⟩
 subst hrl
 exact P0 [] c fun _ c=>rE
theorem Zd2 {p0 r} (h:XN n p0 = some r):Con prog 31 [.agg #[I p0.Vars,L ga0 p0.Clauses gc1]] [] [lR ga0 p0.Clauses gc1] fun (i:Nat × Ob Oh)=>([B i.1 0],[],[FX i.1 118 [I r.f.Vars,L i.2.1 r.f.Clauses i.p2,L i.p3 r.occ i.q4],lR i.2.1 r.f.Clauses i.p2,lR i.p3 r.occ i.q4]):=by
 unfold XN at h
 refine En func31 rfl ntmps31 fun _ fr w c=>?_
 refine T0 (Ebx [I p0.Vars,L ga0 p0.Clauses gc1] c fun b1 _ _ c=>?_)
 refine Fp [] 1 c fun _ c=>E0 (Bd h fun x1 hx1 h=>S0 (Jn (fun i:Nat × Oh=>([(1,B b1 0),(3,B i.1 0)],fun Γ=>Γ ++ [BX i.1 118 [I p0.Vars,L ga0 p0.Clauses gc1,L i.2.1 x1 i.q2],sl47 (L i.2.1 x1 i.q2) (List.replicate (List.length x1) (⟨none,0,0⟩ : Hd)),HP.all (ownL 3) (List.replicate (List.length x1) (⟨none,0,0⟩ : Hd)) x1],[])) c ?_ fun i3 _ _ c=>?_))
 refine As mix c fun _ c=>?_
 replace c:=Cx.frs [(1,B b1 0)] c
 refine Dq (fun i:Nat × Oh=>([(1,B b1 0),(15,B i.1 0)],fun Γ=>Γ ++ [BX i.1 118 [I p0.Vars,L ga0 p0.Clauses gc1,L i.2.1 x1 i.q2],sl47 (L i.2.1 x1 i.q2) (List.replicate (List.length x1) (⟨none,0,0⟩ : Hd)),HP.all (ownL 3) (List.replicate (List.length x1) (⟨none,0,0⟩ : Hd)) x1],[])) (bN 9 255) (fun i=>[(8,3,B i.1 0)]) c (fun i2=>?_) fun hd2=>?_
 obtain ⟨b3,a3,c3⟩:=i2
 refine qnE ⟨qP [],tt⟩ fun _ _ c=>?_
 exact nN (b3,a3,c3) (c.rk (rg 4) [0])
 refine Dq (fun i:Oh=>([(1,B b1 0),(13,L i.1 x1 i.2)],fun Γ=>Γ ++ [sl47 (L i.1 x1 i.2) (List.replicate (List.length x1) (⟨none,0,0⟩ : Hd)),HP.all (ownL 3) (List.replicate (List.length x1) (⟨none,0,0⟩ : Hd)) x1],[])) (bN 9 62) (fun i=>[(0,8,.agg #[I p0.Vars,L ga0 p0.Clauses gc1]),(6,14,.agg #[I p0.Vars,L ga0 p0.Clauses gc1,L i.1 x1 i.2])]) c (fun i1=>?_) fun hd1=>?_
 obtain ⟨a2,c2⟩:=i1
 refine qn [7] ⟨qP [(0,0)],qP [],tt⟩ ⟨fun _ _ c=>?_,tt⟩
 refine X8 _ rfl rfl ?_
 refine Ebx [I p0.Vars,L ga0 p0.Clauses gc1,L a2 x1 c2] c fun b2 _ _ c=>?_
 refine E0 (nQ hd2 (b2,a2,c2) (c.rk [0,3,1,2] [0]))
 refine q0 (qs:=[(0,8,.agg #[I p0.Vars,L ga0 p0.Clauses gc1]),(1,9,B b1 0),(2,10,I p0.Vars),(3,11,I (w64 (2 * p0.Vars))),(4,12,I (w64 ((w64 (2 * p0.Vars)) + 1)))]) c (qn [5] ⟨qP [(0,0)],qP [],qP [(0,0)],qP [],qP [],tt⟩ ⟨fun _ _ c=>?_,tt⟩)
 refine X8 _ rfl rfl ?_
 refine Emkd 47 (⟨none,0,0⟩ : Hd) (fun w=>ZfP 3 w) c hx1 fun a1 c1 _ _ c=>?_
 refine E0 (nQ hd1 (a1,c1) (c.rk [0,1,2] [0]))
 obtain ⟨b4,a4,c4⟩:=i3
 refine S0 (P0 [(1,0)] c fun _ c=>Bd h fun rl1 hit1 h=>Lp (fun s1  (i:List Hd)=>([(1,B b1 0),(3,B b4 0),(17,L ga0 p0.Clauses gc1),(18,I (len p0.Clauses)),(19,I s1.1)],fun Γ=>(Γ.set 2 (sl47 (L a4 x1 c4) (i))).set 3 (HP.all (ownL 3) (i) s1.2),[])) (fun  (i:List Hd)=>([(3,B b4 0)],fun Γ=>(Γ.set 2 (sl47 (L a4 x1 c4) (i))).set 3 (HP.all (ownL 3) (i) rl1),[])) hit1 c ((List.replicate (List.length x1) (⟨none,0,0⟩ : Hd))) (c.rk (rg 4) [0]) (fun s1 q1 i4 _ _ c h hr1=>?_) fun k1 _ _ c=>?_)
 refine P0 [] c fun _ c=>S0 (I0 c h (fun h=>?_) fun h=>?_)
 refine K0 (S0 (wp_block (T0 (Fp [] 1 c fun _ c=>Bd h fun x2 hx2 h=>Eem c (.f 0) hx2 fun _ u1 _ c=>?_))))
 obtain ⟨a5,c5,rfl⟩:=c.sl 1
 refine Fp [] 2 c fun _ c=>E0 (P0 [] c fun _ c=>Bd h fun rl2 hit2 h=>Tq (Lp (fun s2  (i:List Hd)=>([(1,B b1 0),(3,B b4 0),(4,I s1.1),(17,L ga0 p0.Clauses gc1),(18,I (len p0.Clauses)),(19,I s1.1),(24,L a5 x2 c5),(25,I (len x2)),(26,I s2.1)],fun Γ=>(Γ.set 2 (sl47 (L a4 x1 c4) (i))).set 3 (HP.all (ownL 3) (i) s2.2),[])) (fun  (i:List Hd)=>([(1,B b1 0),(3,B b4 0),(17,L ga0 p0.Clauses gc1),(18,I (len p0.Clauses)),(19,I s1.1)],fun Γ=>(Γ.set 2 (sl47 (L a4 x1 c4) (i))).set 3 (HP.all (ownL 3) (i) rl2),[])) hit2 c (i4) (c.rk (rg 4) [0,1]) (fun s2 q2 i5 _ _ c h hr2=>?_) fun k2 _ _ c=>?_))
 refine P0 [] c fun _ c=>S0 (I0 c h (fun h=>?_) fun h=>?_)
 refine K0 (S0 (wp_block (T0 (Bd h fun x3 hx3 h=>Eel c (.f 1) hx3 fun _ _ c=>?_))))
 refine Fp [] 1 c fun _ c=>E0 (Bd h fun x4 hx4 h=>?_)
 obtain ⟨a6,c6,p1,hr1,hl1,he1⟩:=c.fc0 2 3 hx4
 refine Bd h fun x5 hx5 h=>Bd h fun x6 hx6 h=>Tq (Jn (fun i:List Hd=>([(1,B b1 0),(3,B b4 0),(4,I s1.1),(17,L ga0 p0.Clauses gc1),(18,I (len p0.Clauses)),(19,I s1.1),(24,L a5 x2 c5),(25,I (len x2)),(26,I s2.1)],fun Γ=>(Γ.set 2 (sl47 (L a4 x1 c4) (i))).set 3 (HP.all (ownL 3) (i) x6),[])) c ?_ fun rs2 _ _ c=>?_)
 refine As mix c fun _ c=>?_
 replace c:=Cx.frs [(1,B b1 0),(3,B b4 0),(4,I s1.1),(7,I x3),(17,L ga0 p0.Clauses gc1),(18,I (len p0.Clauses)),(19,I s1.1),(24,L a5 x2 c5),(25,I (len x2)),(26,I s2.1)] c
 refine Dq (fun i:List Hd=>([(1,B b1 0),(3,B b4 0),(4,I s1.1),(17,L ga0 p0.Clauses gc1),(18,I (len p0.Clauses)),(19,I s1.1),(24,L a5 x2 c5),(25,I (len x2)),(26,I s2.1)],fun Γ=>(Γ.set 2 (sl47 (L a4 x1 c4) (i))).set 3 (HP.all (ownL 3) (i) x6),[])) (bN 23 8388607) (fun i=>[]) c (fun rs1=>?_) fun hd5=>?_
 refine qnE tt fun _ _ c=>?_
 exact nN (rs1) (c.rk (rg 4) [0,1])
 refine Dq (fun i:Oh=>([(1,B b1 0),(3,B b4 0),(4,I s1.1),(7,I x3),(17,L ga0 p0.Clauses gc1),(18,I (len p0.Clauses)),(19,I s1.1),(24,L a5 x2 c5),(25,I (len x2)),(26,I s2.1),(50,L i.1 x5 i.2)],fun Γ=>(Γ.set 3 (HP.but (ownL 3) ((w64 (x3 + p0.Vars))).toNat i5 s2.2)) ++ [TL 3 (.slice i.1 (List.length x5) i.2) x5],[])) (bN 23 2096896) (fun i=>[(0,30,B b4 0),(1,31,B b4 0),(2,32,B b4 2),(3,33,L a4 x1 c4),(4,34,I x3),(5,35,B b1 0),(6,36,I p0.Vars),(7,37,I (w64 (x3 + p0.Vars))),(21,51,.pointer (some p1))]) c (fun i7=>?_) fun hd4=>?_
 obtain ⟨a10,c10⟩:=i7
 refine qn [22] ⟨qP [],qP [],qP [],qP [(0,1)],qP [],qP [],qP [(0,0)],qP [],qIo he1,tt⟩ ⟨fun _ _ c=>?_,tt⟩
 refine X8 _ rfl rfl ?_
 refine Efst 2 3 4 c he1 hl1 hx6 fun _ _ c=>?_
 refine E0 (nQ hd5 ((List.set i5 ((w64 (x3 + p0.Vars))).toNat ((hd a10 x5 c10):Hd))) (c.rk (rg 4) [0,1]))
 refine Dq (fun i:Oh=>([(1,B b1 0),(3,B b4 0),(4,I s1.1),(7,I x3),(17,L ga0 p0.Clauses gc1),(18,I (len p0.Clauses)),(19,I s1.1),(24,L a5 x2 c5),(25,I (len x2)),(26,I s2.1),(49,L i.1 ([s1.1]:List Int) i.2)],fun Γ=>Γ ++ [sl3 (L i.1 ([s1.1]:List Int) i.2) ([s1.1]:List Int)],[])) (bN 23 786432) (fun i=>[(0,30,B b4 0),(1,31,B b4 0),(2,32,B b4 2),(3,33,L a4 x1 c4),(4,34,I x3),(5,35,B b1 0),(6,36,I p0.Vars),(7,37,I (w64 (x3 + p0.Vars))),(8,38,B b4 0),(9,39,B b4 0),(10,40,B b4 2),(11,41,L a4 x1 c4),(12,42,I x3),(13,43,B b1 0),(14,44,I p0.Vars),(15,45,I (w64 (x3 + p0.Vars))),(16,46,.pointer (some p1)),(17,47,L a6 x4 c6)]) c (fun i6=>?_) fun hd3=>?_
 obtain ⟨a8,c8⟩:=i6
 refine qn [20] ⟨qP [],qP [],qP [],qP [(0,1)],qP [],qP [],qP [(0,0)],qP [],qP [],qP [],qP [],qP [(0,1)],qP [],qP [],qP [(0,0)],qP [],qIo he1,qLh 2 he1 hr1,tt⟩ ⟨fun _ _ c=>?_,tt⟩
 refine X8 _ rfl rfl ?_
 refine Efap 3 3 c hx4 hr1 hx5 fun a9 c9 _ _ c=>?_
 refine E0 (nQ hd4 (a9,c9) (c.rk [0,1,2,4,5] [0,1]))
 refine q0 (qs:=[(0,30,B b4 0),(1,31,B b4 0),(2,32,B b4 2),(3,33,L a4 x1 c4),(4,34,I x3),(5,35,B b1 0),(6,36,I p0.Vars),(7,37,I (w64 (x3 + p0.Vars))),(8,38,B b4 0),(9,39,B b4 0),(10,40,B b4 2),(11,41,L a4 x1 c4),(12,42,I x3),(13,43,B b1 0),(14,44,I p0.Vars),(15,45,I (w64 (x3 + p0.Vars))),(16,46,.pointer (some p1)),(17,47,L a6 x4 c6),(18,48,I s1.1)]) c (qn [19] ⟨qP [],qP [],qP [],qP [(0,1)],qP [],qP [],qP [(0,0)],qP [],qP [],qP [],qP [],qP [(0,1)],qP [],qP [],qP [(0,0)],qP [],qIo he1,qLh 2 he1 hr1,qP [],tt⟩ ⟨fun _ _ c=>?_,tt⟩)
 refine X8 _ rfl rfl ?_
 refine Elt 3 ([s1.1]:List Int) c fun a7 c7 _ _ c=>?_
 refine E0 (nQ hd3 (a7,c7) (c.rk (rg 5) [0,1]))
 refine bk (tn (P1 [] c fun _ c=>Nx h (rs2) (c.rk (rg 4) [0,1])))
 refine wp_exit (te (te (be ?_)))
 obtain rfl:=hr2 _ (sk h)
 exact tn ⟨(i5),c.rk (rg 4) [0,1]⟩
 refine bk (tn (P1 [] c fun _ c=>Nx h (k2) (c.rk (rg 4) [0])))
 refine wp_exit (te (te (be ?_)))
 obtain rfl:=hr1 _ (sk h)
 exact tn ⟨(i4),c.rk (rg 4) [0]⟩
 refine P0 [] c fun _ c=>?_
 obtain ⟨he2,c⟩:=c.relend 2 3
 replace c:=c.bxe (cs:=[I p0.Vars,L ga0 p0.Clauses gc1,L a4 x1 c4]) (cs':=[I p0.Vars,L ga0 p0.Clauses gc1,L a4 rl1 c4]) 1 (by simp only [L,he2])
 replace c:=c.fzd (ZhV 3) 2 3
 replace c:=c.fzb 1
 cases h
 exact wp_ret (Rt c (b4,ga0,gc1,a4,c4) [] [2,0,1])
theorem Xx {p0 p1 gb0 gn5 gn6 r} (h:Z9 p0 p1 = some r):Con prog 104 [B gb0 0,I p1] [BX gb0 142 [.slice ga1 gn5 gc2,.slice ga3 gn6 gc4],sl3 (.slice ga1 gn5 gc2) p0.val,sl3 (.slice ga3 gn6 gc4) p0.queue] [] fun (i:Ob Oh)=>([.bool r.1],[BX gb0 142 [L i.1 r.2.val i.2.1,L i.p2 r.2.queue i.q3],sl3 (L i.1 r.2.val i.2.1) r.2.val,sl3 (L i.p2 r.2.queue i.q3) r.2.queue],[]):=by
 unfold Z9 at h
 refine En func104 rfl ntmps104 fun _ fr w c=>?_
 obtain ⟨rfl,c⟩:=c.relen 1
 obtain ⟨rfl,c⟩:=c.relen 2
 refine P0 [] c fun _ c=>P0 [] c fun _ c=>S0 (P0 [] c fun _ c=>Mp (decide (p1 < 0)) [(5,I (w64 (0 - p1))),(6,I (-1))] [(5,I p1),(6,I 1)] [(5,I (cond (decide (p1 < 0)) (w64 (0 - p1)) p1)),(6,I (cond (decide (p1 < 0)) (-1) 1))] [5,6,10,11] c fun _ c=>S0 (T0 (Fp [(3,0)] 5 c fun _ c=>Bd h fun x1 hx1 h=>Eel c (.g 1) hx1 fun _ _ c=>?_)))
 refine Fp [] 1 c fun _ c=>E0 (I0 c h (fun h=>?_) fun h=>?_)
 refine T0 (Fp [(3,0)] 5 c fun _ c=>Bd h fun x2 hx2 h=>Eel c (.g 1) hx2 fun _ _ c=>?_)
 refine Fp [] 3 c fun _ c=>E0 ?_
 cases h
 exact wp_ret (tr (Rt c (ga1,gc2,ga3,gc4) [0,1,2] []))
 refine K0 (T0 (Fp [(3,0)] 6 c fun _ c=>Bd h fun x3 hx3 h=>Eset 1 c hx3 fun _ _ _ c=>?_))
 refine E0 (T0 (Fp [(4,0)] 6 c fun _ c=>Elt 3 ([p1]:List Int) c fun a1 c1 _ _ c=>?_))
 refine Bd h fun x4 hx4 h=>Eap 2 c (.g 3) hx4 fun a2 c2 _ _ c=>?_
 refine Fp [] 2 c fun _ c=>Esb 0 1 (L a2 x4 c2) c fun _ c=>?_
 refine E0 (P0 [] c fun _ c=>?_)
 cases h
 obtain ⟨he1,c⟩:=c.relen 1
 replace c:=c.bxe (cs:=[L ga1 p0.val gc2,L a2 x4 c2]) (cs':=[L ga1 x3 gc2,L a2 x4 c2]) 0 (by simp only [L,he1])
 exact wp_ret (Rt c (ga1,gc2,a2,c2) [0,1,2] [])
theorem Zaj {p0 p1 gb0 gn5 gn6 r} (h:Zp n p0 p1 = some r):Con prog 105 [B gb0 0,L ga7 p1 gc8] [BX gb0 142 [.slice ga1 gn5 gc2,.slice ga3 gn6 gc4],sl3 (.slice ga1 gn5 gc2) p0.val,sl3 (.slice ga3 gn6 gc4) p0.queue] [lR ga7 p1 gc8] fun (i:Ob Oh)=>([.bool r.1],[BX gb0 142 [L i.1 r.2.val i.2.1,L i.p2 r.2.queue i.q3],sl3 (L i.1 r.2.val i.2.1) r.2.val,sl3 (L i.p2 r.2.queue i.q3) r.2.queue],[]):=by
 unfold Zp at h
 refine En func105 rfl ntmps105 fun _ fr w c=>?_
 obtain ⟨rfl,c⟩:=c.relen 1
 obtain ⟨rfl,c⟩:=c.relen 2
 refine P0 [] c fun _ c=>P0 [] c fun _ c=>S0 (P0 [] c fun _ c=>Bd h fun rl1 hit1 h=>?_)
 have hk1:=h
 refine LpR (fun s1  (_:Unit)=>([(0,B gb0 0),(5,I s1.1),(6,I s1.2.1),(10,L ga7 p1 gc8),(11,I (len p1)),(12,I s1.q2)],id,[])) (fun s  (_:Unit)=>([(0,B gb0 0),(5,I s.1),(6,I s.2)],id,[])) hit1 c () (c.rk [0,1,2] [0]) (fun s1 q1 _ _ _ c h hr1=>?_) fun s1r _ _ _ hrl c=>?_
 refine P0 [] c fun _ c=>S0 (I0 c h (fun h=>?_) fun h=>?_)
 refine K0 (S0 (wp_block (T0 (Bd h fun x1 hx1 h=>Eel c (.f 0) hx1 fun _ _ c=>?_))))
 refine Fp [] 1 c fun _ c=>E0 (Bd h fun x2 hx2 h=>Bd h fun x3 hx3 h=>S0 (rZ [(5,.eq (I x2)),(6,Pd.el (x3:Int)),(7,.eq (I x3))] [(3,0)] mix c ⟨Ncl c (kN (Yu hx2)) tt call98,Nid c (.g 1) (kN hx3),Nld c 6 (q:=x3) (atN 6),tt⟩ fun _ _ c=>P0 [] c fun _ c=>I0 c h (fun h=>?_) fun h=>?_))
 refine P0 [] c fun _ c=>Tq (P1 [] c fun _ c=>bk (tn (P1 [] c fun _ c=>Nx h () (c.rk [0,1,2] [0]))))
 refine P0 [] c fun _ c=>I0 c h (fun h=>?_) fun h=>?_
 refine P0 [] c fun _ c=>?_
 obtain rfl:=hr1 _ (sk h)
 obtain rfl:=sj hk1
 exact wp_ret (br (tr (tr (br (tr (Rt c (ga1,gc2,ga3,gc4) [0,1,2] []))))))
 refine K1 (bk (tn (P1 [] c fun _ c=>Nx h () (c.rk [0,1,2] [0]))))
 refine wp_exit (te (te (be ?_)))
 obtain rfl:=hr1 _ (sk h)
 exact tn ⟨_,(),rfl,c.rk [0,1,2] [0]⟩
 subst hrl
 refine S0 (P0 [] c fun _ c=>I0 c h (fun h=>?_) fun h=>?_)
 refine P0 [] c fun _ c=>?_
 cases h
 exact wp_ret (tr (Rt c (ga1,gc2,ga3,gc4) [0,1,2] []))
 refine K0 (S0 (P0 [] c fun _ c=>I0 c h (fun h=>?_) fun h=>?_))
 refine T0 (Fp [] 2 c fun _ c=>Bd h fun x4 hx4 h=>Ca [0,1,2] c (Xx hx4) tt call104 fun i1 _ _ c=>?_)
 refine Fp [] 1 c fun _ c=>E0 ?_
 cases h
 exact wp_ret (tr (Rt c (i1.1,i1.2.1,i1.p2,i1.q3) [0,1,2] []))
 refine K0 (P0 [] c fun _ c=>?_)
 cases h
 exact wp_ret (Rt c (ga1,gc2,ga3,gc4) [0,1,2] [])
theorem ZaE {p0 p1 gb0 gb5 gn10 gn11 r} (h:Yb n p0 p1 = some r):Con prog 106 [B gb0 0,B gb5 0] [BX gb5 142 [.slice ga6 gn10 gc7,.slice ga8 gn11 gc9],sl3 (.slice ga6 gn10 gc7) p1.val,sl3 (.slice ga8 gn11 gc9) p1.queue] [FX gb0 118 [I p0.f.Vars,L ga1 p0.f.Clauses gc2,L ga3 p0.occ gc4],lR ga1 p0.f.Clauses gc2,lR ga3 p0.occ gc4] fun (i:Ob Oh)=>([.bool r.1],[BX gb5 142 [L i.1 r.2.val i.2.1,L i.p2 r.2.queue i.q3],sl3 (L i.1 r.2.val i.2.1) r.2.val,sl3 (L i.p2 r.2.queue i.q3) r.2.queue],[]):=by
 unfold Yb at h
 refine En func106 rfl ntmps106 fun _ fr w c=>?_
 obtain ⟨rfl,c⟩:=c.relen 1
 obtain ⟨rfl,c⟩:=c.relen 2
 refine P0 [] c fun _ c=>Bd h fun rl1 hit1 h=>?_
 have hk1:=h
 refine S0 (LpR (fun s1  (i:Ob Oh)=>([(0,B gb0 0),(1,B gb5 0)],fun Γ=>((Γ.set 0 (BX gb5 142 [L i.1 s1.1 i.2.1,L i.p2 s1.2 i.q3])).set 1 (sl3 (L i.1 s1.1 i.2.1) s1.1)).set 2 (sl3 (L i.p2 s1.2 i.q3) s1.2),[])) (fun s  (i:Ob Oh)=>([],fun Γ=>((Γ.set 0 (BX gb5 142 [L i.1 s.1 i.2.1,L i.p2 s.2 i.q3])).set 1 (sl3 (L i.1 s.1 i.2.1) s.1)).set 2 (sl3 (L i.p2 s.2 i.q3) s.2),[])) hit1 c (ga6,gc7,ga8,gc9) (c.rk [0,1,2] [0,1,2]) (fun s1 q1 i1 _ _ c h hr1=>?_) fun s1r k1 _ _ hrl c=>?_)
 refine S0 (P0 [(3,0)] c fun _ c=>I0 c h (fun h=>?_) fun h=>?_)
 refine K0 (wp_block (Bd h fun x1 hx1 h=>S0 (rZ [(10,Pd.el (x1:Int)),(11,.eq (I x1))] [(3,0),(7,0)] mix c ⟨Nid c (.g 2) (kN hx1),Nld c 10 (q:=x1) (atN 10),tt⟩ fun _ _ c=>S0 (ZI mix (Rh 0 ?_)))))
 refine rM 11 [] [(4,0),(8,0)] c (fun ow=>tt) fun _ _ _ _ _ c=>?_
 refine Bd h fun x2 hx2 h=>Efr 2 c hx2 fun c1 _ _ c=>?_
 refine Fp [] 2 c fun _ c=>Esb 0 1 (L i1.p2 x2 c1) c fun _ c=>?_
 refine E0 (Bd h fun x3 hx3 h=>?_)
 obtain ⟨ep1,u1,c⟩:=c.elp (.f 2) hx3
 obtain ⟨a1,c2,rfl⟩:=c.sl 4
 refine S0 (rZ [(11,.eq (.pointer (some ep1))),(12,.eq (L a1 x3 c2))] [(3,1),(8,1)] mix c ⟨Nie c 3,Nle c 3,tt⟩ fun _ _ c=>Bd h fun rl2 hit2 h=>?_)
 have hk2:=h
 refine Tq (LpR (fun s2  (i:Ob Oh)=>([(0,B gb0 0),(1,B gb5 0),(52,L a1 x3 c2),(53,I (len x3)),(54,I s2.1)],fun Γ=>((Γ.set 0 (BX gb5 142 [L i.1 s2.2.1 i.2.1,L i.p2 s2.q2 i.q3])).set 1 (sl3 (L i.1 s2.2.1 i.2.1) s2.2.1)).set 2 (sl3 (L i.p2 s2.q2 i.q3) s2.q2),[])) (fun s  (i:Ob Oh)=>([(0,B gb0 0),(1,B gb5 0)],fun Γ=>((Γ.set 0 (BX gb5 142 [L i.1 s.1 i.2.1,L i.p2 s.2 i.q3])).set 1 (sl3 (L i.1 s.1 i.2.1) s.1)).set 2 (sl3 (L i.p2 s.2 i.q3) s.2),[])) hit2 c (i1.1,i1.2.1,i1.p2,c1) (c.rk [0,1,2] (rg 5)) (fun s2 q2 i2 _ _ c h hr2=>?_) fun s2r k2 _ _ hrl c=>?_)
 refine P0 [] c fun _ c=>S0 (I0 c h (fun h=>?_) fun h=>?_)
 refine K0 (S0 (wp_block (T0 (Bd h fun x4 hx4 h=>Eel c (.f 4) hx4 fun _ _ c=>?_))))
 refine Fp [] 1 c fun _ c=>E0 (T0 (Fp [(5,1)] 7 c fun _ c=>Bd h fun x5 hx5 h=>Eem c (.f 1) hx5 fun _ u2 _ c=>?_))
 obtain ⟨a2,c3,rfl⟩:=c.sl 5
 refine Bd h fun x6 hx6 h=>Ca [0,1,2] c (Zaj hx6) ⟨.f 5,tt⟩ call105 fun i3 _ _ c=>?_
 refine Fp [] 1 c fun _ c=>E0 (I0 c h (fun h=>?_) fun h=>?_)
 refine P0 [] c fun _ c=>?_
 obtain rfl:=hr2 _ (sk h)
 obtain rfl:=hr1 _ (sk hk2)
 obtain rfl:=sj hk1
 exact wp_ret (br (tr (tr (br (tr (br (tr (br (tr (Rt c (i3.1,i3.2.1,i3.p2,i3.q3) [0,1,2] []))))))))))
 refine K1 (bk (tn (P1 [] c fun _ c=>Nx h (i3.1,i3.2.1,i3.p2,i3.q3) (c.rk [0,1,2] (rg 5)))))
 refine wp_exit (te (te (be ?_)))
 obtain rfl:=hr2 _ (sk h)
 exact tn ⟨_,(i2.1,i2.2.1,i2.p2,i2.q3),rfl,c.rk [0,1,2] (rg 5)⟩
 subst hrl
 refine bk (tn (Nx h (k2.1,k2.2.1,k2.p2,k2.q3) (c.rk [0,1,2] [0,1,2])))
 refine wp_exit (te (te (be ?_)))
 obtain rfl:=hr1 _ (sk h)
 exact tn ⟨_,(i1.1,i1.2.1,i1.p2,i1.q3),rfl,c.rk [0,1,2] [0,1,2]⟩
 subst hrl
 refine P0 [] c fun _ c=>?_
 cases h
 exact wp_ret (Rt c (k1.1,k1.2.1,k1.p2,k1.q3) [0,1,2] [])
theorem Zch {p0 p1 gb0 r} (h:YH n p0 p1 = some r):Con prog 67 [B gb0 0,L ga5 p1 gc6] [] [FX gb0 118 [I p0.f.Vars,L ga1 p0.f.Clauses gc2,L ga3 p0.occ gc4],lR ga1 p0.f.Clauses gc2,lR ga3 p0.occ gc4,lR ga5 p1 gc6] fun (i:Nat × Ob Oh)=>([oP r.2 i.1,.bool r.2],[HP.on r.2 [BX i.1 142 [L i.2.1 r.1.val i.p2,L i.p3 r.1.queue i.q4],sl3 (L i.2.1 r.1.val i.p2) r.1.val,sl3 (L i.p3 r.1.queue i.q4) r.1.queue]],[]):=by
 unfold YH at h
 refine En func67 rfl ntmps67 fun _ fr w c=>?_
 refine P0 [] c fun _ c=>T0 (Fp [(4,0)] 6 c fun _ c=>Bd h fun x1 hx1 h=>Emk 3 c hx1 fun a1 c1 _ _ c=>?_)
 refine Fp [] 1 c fun _ c=>Ebx [L a1 x1 c1,L none ([]:List Int) 0] c fun b1 _ _ c=>?_
 refine Fp [] 1 c fun _ c=>E0 (S0 (P0 [] c fun _ c=>?_))
 replace c:=c.nil (α:=Int) 3
 refine Bd h fun rl1 hit1 h=>?_
 have hk1:=h
 refine LpR (fun s1  (i:Ob Oh)=>([(0,B gb0 0),(6,B b1 0),(20,L ga5 p1 gc6),(21,I (len p1)),(22,I s1.1)],fun Γ=>((Γ.set 0 (sl3 (L i.1 s1.2.1 i.2.1) s1.2.1)).set 1 (BX b1 142 [L i.1 s1.2.1 i.2.1,L i.p2 s1.q2 i.q3])).set 2 (sl3 (L i.p2 s1.q2 i.q3) s1.q2),[])) (fun s  (i:Ob Oh)=>([(0,B gb0 0),(6,B b1 0)],fun Γ=>((Γ.set 0 (sl3 (L i.1 s.1 i.2.1) s.1)).set 1 (BX b1 142 [L i.1 s.1 i.2.1,L i.p2 s.2 i.q3])).set 2 (sl3 (L i.p2 s.2 i.q3) s.2),[])) hit1 c (a1,c1,none,0) (c.rk [0,1,2] (rg 4)) (fun s1 q1 i1 _ _ c h hr1=>?_) fun s1r k1 _ _ hrl c=>?_
 refine P0 [] c fun _ c=>S0 (I0 c h (fun h=>?_) fun h=>?_)
 refine K0 (S0 (wp_block (T0 (Bd h fun x2 hx2 h=>Eel c (.f 3) hx2 fun _ _ c=>?_))))
 refine Fp [] 1 c fun _ c=>E0 (T0 (Fp [] 2 c fun _ c=>Bd h fun x3 hx3 h=>Ca [1,0,2] c (Xx hx3) tt call104 fun i2 _ _ c=>?_))
 refine Fp [] 1 c fun _ c=>E0 (I0 c h (fun h=>?_) fun h=>?_)
 refine P0 [] c fun _ c=>?_
 obtain rfl:=hr1 _ (sk h)
 obtain rfl:=sj hk1
 replace c:=c.onf
 exact wp_ret (br (tr (tr (br (tr (Rg c (0,none,0,none,0) [3] [] (.tmp (.tmp .nil))))))))
 refine K1 (bk (tn (P1 [] c fun _ c=>Nx h (i2.1,i2.2.1,i2.p2,i2.q3) (c.rk [1,0,2] (rg 4)))))
 refine wp_exit (te (te (be ?_)))
 obtain rfl:=hr1 _ (sk h)
 exact tn ⟨_,(i1.1,i1.2.1,i1.p2,i1.q3),rfl,c.rk [0,1,2] (rg 4)⟩
 subst hrl
 refine S0 (P0 [(4,1)] c fun _ c=>Bd h fun rl2 hit2 h=>?_)
 have hk2:=h
 refine LpR (fun s2  (i:Ob Oh)=>([(0,B gb0 0),(6,B b1 0),(35,L ga1 p0.f.Clauses gc2),(36,I (len p0.f.Clauses)),(37,I s2.1)],fun Γ=>((Γ.set 0 (sl3 (L i.1 s2.2.1 i.2.1) s2.2.1)).set 1 (BX b1 142 [L i.1 s2.2.1 i.2.1,L i.p2 s2.q2 i.q3])).set 2 (sl3 (L i.p2 s2.q2 i.q3) s2.q2),[])) (fun s  (i:Ob Oh)=>([(0,B gb0 0),(6,B b1 0)],fun Γ=>((Γ.set 0 (sl3 (L i.1 s.1 i.2.1) s.1)).set 1 (BX b1 142 [L i.1 s.1 i.2.1,L i.p2 s.2 i.q3])).set 2 (sl3 (L i.p2 s.2 i.q3) s.2),[])) hit2 c (k1.1,k1.2.1,k1.p2,k1.q3) (c.rk [0,1,2] (rg 4)) (fun s2 q2 i3 _ _ c h hr2=>?_) fun s2r k2 _ _ hrl c=>?_
 refine P0 [] c fun _ c=>S0 (I0 c h (fun h=>?_) fun h=>?_)
 refine K0 (S0 (wp_block (T0 (Bd h fun x4 hx4 h=>Eem c (.f 1) hx4 fun _ u1 _ c=>?_))))
 obtain ⟨a2,c2,rfl⟩:=c.sl 4
 refine Fp [] 1 c fun _ c=>E0 (T0 (Fp [] 2 c fun _ c=>Bd h fun x5 hx5 h=>Ca [1,0,2] c (Zaj hx5) ⟨.f 4,tt⟩ call105 fun i4 _ _ c=>?_))
 refine Fp [] 1 c fun _ c=>E0 (I0 c h (fun h=>?_) fun h=>?_)
 refine P0 [] c fun _ c=>?_
 obtain rfl:=hr2 _ (sk h)
 obtain rfl:=sj hk2
 replace c:=c.onf
 exact wp_ret (br (tr (tr (br (tr (Rg c (0,none,0,none,0) [3] [] (.tmp (.tmp .nil))))))))
 refine K1 (bk (tn (P1 [] c fun _ c=>Nx h (i4.1,i4.2.1,i4.p2,i4.q3) (c.rk [1,0,2] (rg 4)))))
 refine wp_exit (te (te (be ?_)))
 obtain rfl:=hr2 _ (sk h)
 exact tn ⟨_,(i3.1,i3.2.1,i3.p2,i3.q3),rfl,c.rk [0,1,2] (rg 4)⟩
 subst hrl
 refine S0 (T0 (Fp [] 2 c fun _ c=>Bd h fun x6 hx6 h=>Ca [1,0,2] c (ZaE hx6) ⟨.f 0,.f 1,.f 2,tt⟩ call106 fun i5 _ _ c=>?_))
 refine Fp [] 1 c fun _ c=>E0 (I0 c h (fun h=>?_) fun h=>?_)
 refine P0 [] c fun _ c=>?_
 cases h
 replace c:=c.onf
 exact wp_ret (tr (Rg c (0,none,0,none,0) [3] [] (.tmp (.tmp .nil))))
 refine K0 (P0 [] c fun _ c=>?_)
 cases h
 replace c:=c.onp [BX b1 142 [L i5.1 x6.2.val i5.2.1,L i5.p2 x6.2.queue i5.q3],sl3 (L i5.1 x6.2.val i5.2.1) x6.2.val,sl3 (L i5.p2 x6.2.queue i5.q3) x6.2.queue] [0,1,2]
 exact wp_ret (Rg c (b1,i5.1,i5.2.1,i5.p2,i5.q3) [0] [] (.tmp (.tmp .nil)))
theorem ZaT {p0 gb0 r} (h:ZW n p0 = some r):C0 107 [B gb0 0] [FX gb0 142 [L ga1 p0.val gc2,L ga3 p0.queue gc4],lR ga1 p0.val gc2,lR ga3 p0.queue gc4] (I r):=by
 unfold ZW at h
 refine En func107 rfl ntmps107 fun _ fr w c=>?_
 refine P0 [] c fun _ c=>S0 (P0 [] c fun _ c=>Bd h fun rl1 hit1 h=>?_)
 have hk1:=h
 refine LpR (fun s1  (_:Unit)=>([(0,B gb0 0),(3,I s1)],id,[])) (fun s  (_:Unit)=>([],id,[])) hit1 c () (c.rk [] [0,1,2]) (fun s1 q1 _ _ _ c h hr1=>?_) fun s1r _ _ _ hrl c=>?_
 refine S0 (P0 [(4,0)] c fun _ c=>I0 c h (fun h=>?_) fun h=>?_)
 refine K0 (S0 (wp_block (T0 (Fp [(3,0)] 5 c fun _ c=>Bd h fun x1 hx1 h=>Eel c (.f 1) hx1 fun _ _ c=>?_))))
 refine Fp [] 1 c fun _ c=>E0 (I0 c h (fun h=>?_) fun h=>?_)
 refine P0 [] c fun _ c=>?_
 obtain rfl:=hr1 _ (sk h)
 obtain rfl:=sj hk1
 exact wp_ret (br (tr (tr (br (tr (Rt c () [] []))))))
 refine K1 (bk (tn (P1 [] c fun _ c=>Nx h () (c.rk [] [0,1,2]))))
 refine wp_exit (te (te (be ?_)))
 obtain rfl:=hr1 _ (sk h)
 exact tn ⟨_,(),rfl,c.rk [] [0,1,2]⟩
 subst hrl
 exact P0 [] c fun _ c=>rE
theorem ZbX {p0 p1 p2 gb0 gb5 r} (h:Zy n p0 p1 p2 = some r):Con prog 108 [B gb0 0,B gb5 0,I p2] [] [FX gb0 118 [I p0.f.Vars,L ga1 p0.f.Clauses gc2,L ga3 p0.occ gc4],lR ga1 p0.f.Clauses gc2,lR ga3 p0.occ gc4,FX gb5 142 [L ga6 p1.val gc7,L ga8 p1.queue gc9],lR ga6 p1.val gc7,lR ga8 p1.queue gc9] fun (i:Nat × Ob Oh)=>([oP r.2 i.1,.bool r.2],[HP.on r.2 [BX i.1 142 [L i.2.1 r.1.val i.p2,L i.p3 r.1.queue i.q4],sl3 (L i.2.1 r.1.val i.p2) r.1.val,sl3 (L i.p3 r.1.queue i.q4) r.1.queue]],[]):=by
 unfold Zy at h
 refine En func108 rfl ntmps108 fun _ fr w c=>?_
 refine P0 [] c fun _ c=>T0 (Fp [(3,1)] 4 c fun _ c=>Bd h fun x1 hx1 h=>Cb c (Zz hx1) ⟨.f 4,tt⟩ call62 fun i1 _ _ c=>?_)
 refine Fp [] 1 c fun _ c=>Ebx [L i1.1 x1 i1.2,L none ([]:List Int) 0] c fun b1 _ _ c=>?_
 refine Fp [] 1 c fun _ c=>E0 (S0 (T0 (Fp [] 1 c fun _ c=>Fp [] 1 c fun _ c=>?_)))
 replace c:=c.nil (α:=Int) 3
 refine Bd h fun x2 hx2 h=>Ca [1,0,2] c (Xx hx2) tt call104 fun i2 _ _ c=>?_
 refine Fp [] 1 c fun _ c=>Fp [] 1 c fun _ c=>?_
 rcases ZdH (b:=(!x2.1)) h with ⟨hg1,h⟩ | ⟨hg1,h⟩
 replace c:=c.eqs (v:=.bool (!x2.1)) (u:=.bool true) 20 (by rw [hg1])
 refine Gs c fun _ c=>Gs c fun _ c=>Gs c fun _ c=>Gs c fun _ c=>Epk (b:=true) (v:=.bool true) c fun _ c=>E0 (I0 c h (fun h=>?_) fun h=>?_)
 refine P0 [] c fun _ c=>?_
 cases h
 replace c:=c.onf
 exact wp_ret (tr (Rg c (0,none,0,none,0) [3] [] (.tmp (.tmp .nil))))
 refine K0 (P0 [] c fun _ c=>?_)
 cases h
 replace c:=c.onp [BX b1 142 [L i2.1 x2.2.val i2.2.1,L i2.p2 x2.2.queue i2.q3],sl3 (L i2.1 x2.2.val i2.2.1) x2.2.val,sl3 (L i2.p2 x2.2.queue i2.q3) x2.2.queue] [0,1,2]
 exact wp_ret (Rg c (b1,i2.1,i2.2.1,i2.p2,i2.q3) [0] [] (.tmp (.tmp .nil)))
 replace c:=c.eqs (v:=.bool (!x2.1)) (u:=.bool false) 20 (by rw [hg1])
 refine Gt c ?_
 dsimp only [List.set]
 refine Fp [] 1 c fun _ c=>Gt c ?_
 dsimp only [List.set]
 refine Fp [] 1 c fun _ c=>Gt c ?_
 dsimp only [List.set]
 refine Bd h fun x3 hx3 h=>Ca [0,1,2] c (ZaE hx3) ⟨.f 0,.f 1,.f 2,tt⟩ call106 fun i3 _ _ c=>?_
 refine Gt c ?_
 dsimp only [List.set]
 refine Fp [] 1 c fun _ c=>Epk (b:=false) (v:=.bool (!x3.1)) c fun _ c=>E0 (I0 c h (fun h=>?_) fun h=>?_)
 refine P0 [] c fun _ c=>?_
 cases h
 replace c:=c.onf
 exact wp_ret (tr (Rg c (0,none,0,none,0) [3] [] (.tmp (.tmp .nil))))
 refine K0 (P0 [] c fun _ c=>?_)
 cases h
 replace c:=c.onp [BX b1 142 [L i3.1 x3.2.val i3.2.1,L i3.p2 x3.2.queue i3.q3],sl3 (L i3.1 x3.2.val i3.2.1) x3.2.val,sl3 (L i3.p2 x3.2.queue i3.q3) x3.2.queue] [0,1,2]
 exact wp_ret (Rg c (b1,i3.1,i3.2.1,i3.p2,i3.q3) [0] [] (.tmp (.tmp .nil)))
theorem Zcy {n:Nat}:∀ {p0 p1 gb0 ga1 gc2 gb3 ga4 gc5 ga6 gc7 gn8 gb9 ga10 gc11 ga12 gc13 r} (h:ZU n p0 p1 = some r),Con prog 68 [B gb0 0,B gb9 0] [BX gb0 123 [B gb3 0,I p0.limit,I p0.splits,.slice ga1 gn8 gc2],sl4 (.slice ga1 gn8 gc2) p0.model] [FX gb3 118 [I p0.s.f.Vars,L ga4 p0.s.f.Clauses gc5,L ga6 p0.s.occ gc7],lR ga4 p0.s.f.Clauses gc5,lR ga6 p0.s.occ gc7,FX gb9 142 [L ga10 p1.val gc11,L ga12 p1.queue gc13],lR ga10 p1.val gc11,lR ga12 p1.queue gc13] fun (i:Oh)=>([I r.1],[BX gb0 123 [B gb3 0,I r.2.limit,I r.2.splits,L i.1 r.2.model i.2],sl4 (L i.1 r.2.model i.2) r.2.model],[]):=by
 induction n with
 | zero=>intro p0 p1 gb0 ga1 gc2 gb3 ga4 gc5 ga6 gc7 gn8 gb9 ga10 gc11 ga12 gc13 r h; simp [ZU] at h
 | succ n ih=>
 intro p0 p1 gb0 ga1 gc2 gb3 ga4 gc5 ga6 gc7 gn8 gb9 ga10 gc11 ga12 gc13 r h
 rw [ZU] at h
 refine En func68 rfl ntmps68 fun _ fr w c=>?_
 obtain ⟨rfl,c⟩:=c.relen 1
 refine P0 [] c fun _ c=>T0 (Fp [] 1 c fun _ c=>Bd h fun x1 hx1 h=>Cb c (ZaT hx1) ⟨.f 3,.f 4,.f 5,tt⟩ call107 fun _ _ _ c=>?_)
 refine Fp [] 1 c fun _ c=>E0 (S0 (P0 [] c fun _ c=>I0 c h (fun h=>?_) fun h=>?_))
 refine T0 (Fp [(4,0),(8,1)] 9 c fun _ c=>Bd h fun x2 hx2 h=>Emk 4 c hx2 fun a1 c1 _ _ c=>?_)
 refine Fp [] 2 c fun _ c=>Esb 0 3 (L a1 x2 c1) c fun _ c=>?_
 refine E0 (S0 (P0 [(3,0)] c fun _ c=>Bd h fun rl1 hit1 h=>Lp (fun s1  (_:Unit)=>([(0,B gb0 0),(1,B gb9 0),(32,I (len x2)),(33,I s1.1)],fun Γ=>Γ.set 2 (sl4 (L a1 x2 c1) s1.2),[])) (fun  (_:Unit)=>([],fun Γ=>Γ.set 2 (sl4 (L a1 x2 c1) rl1),[])) hit1 c () (c.rk [0,1,2] (rg 6)) (fun s1 q1 _ _ _ c h hr1=>?_) fun _ _ _ c=>?_))
 refine P0 [] c fun _ c=>S0 (I0 c h (fun h=>?_) fun h=>?_)
 refine K0 (S0 (wp_block (P0 [] c fun _ c=>Bd h fun x3 hx3 h=>ZI mix (rM 14 [(11,Pd.el (x3:Int)),(12,.eq (I x3))] [(3,0),(8,2)] c (fun ow=>⟨Zd ow (Nid c (.f 4) (kN hx3)),Zd ow (Nld c 11 (q:=x3) (atM 11 (p:=.el (x3:Int)))),tt⟩) fun _ _ _ _ _ c=>?_))))
 refine Bd h fun x4 hx4 h=>Eset 2 c hx4 fun _ _ _ c=>?_
 refine E1 (bk (tn (P1 [] c fun _ c=>Nx h () (c.rk [0,1,2] (rg 6)))))
 refine wp_exit (te (te (be ?_)))
 obtain rfl:=hr1 _ (sk h)
 exact tn ⟨(),c.rk [0,1,2] (rg 6)⟩
 refine P0 [] c fun _ c=>?_
 cases h
 obtain ⟨he1,c⟩:=c.relen 2
 replace c:=c.bxe (cs:=[B gb3 0,I p0.limit,I p0.splits,L a1 x2 c1]) (cs':=[B gb3 0,I p0.limit,I p0.splits,L a1 rl1 c1]) 0 (by simp only [L,he1])
 exact wp_ret (tr (Rt c (a1,c1) [0,2] []))
 refine K0 (S0 (S0 (Ry [(3,0),(7,0)] mix c fun _ _ c=>I0 c h (fun h=>?_) fun h=>?_)))
 refine P0 [] c fun _ c=>?_
 cases h
 exact wp_ret (tr (Rt c (ga1,gc2) [0,1] []))
 refine K0 (T0 (Fp [(3,0)] 7 c fun _ c=>Esb 0 2 (I (w64 (p0.splits + 1))) c fun _ c=>?_))
 refine E0 (S0 (T0 (Fp [] 3 c fun _ c=>Ebu (v:=.agg #[I (w64 (0 - x1)),I x1]) #[(0,I (w64 (0 - x1))),(1,I x1)] c fun _ c=>?_)))
 refine Fp [] 1 c fun _ c=>E0 (Bd h fun rl2 hit2 h=>?_)
 have hk2:=h
 refine LpR (fun s2  (i:Oh)=>([(0,B gb0 0),(1,B gb9 0),(71,.agg #[I (w64 (0 - x1)),I x1]),(72,I s2.1)],fun Γ=>(Γ.set 0 (BX gb0 123 [B gb3 0,I s2.2.1,I s2.p2,L i.1 s2.q3 i.2])).set 1 (sl4 (L i.1 s2.q3 i.2) s2.q3),[])) (fun s  (i:Oh)=>([],fun Γ=>(Γ.set 0 (BX gb0 123 [B gb3 0,I s.1,I s.2.1,L i.1 s.q2 i.2])).set 1 (sl4 (L i.1 s.q2 i.2) s.q2),[])) hit2 c (ga1,gc2) (c.rk [0,1] (rg 6)) (fun s2 q2 i1 _ _ c h hr2=>?_) fun s2r k1 _ _ hrl c=>?_
 refine P0 [] c fun _ c=>S0 (I0 c h (fun h=>?_) fun h=>?_)
 refine K0 (S0 (wp_block (T0 (Bd h fun x5 hx5 h=>Eai c hx5 fun _ c=>?_))))
 refine Fp [] 1 c fun _ c=>E0 (T0 (Fp [(3,0)] 6 c fun _ c=>Bd h fun x6 hx6 h=>Cb c (ZbX hx6) ⟨.f 0,.f 1,.f 2,.f 3,.f 4,.f 5,tt⟩ call108 fun i2 _ _ c=>?_))
 refine Fp [] 5 c fun _ c=>E0 (S0 (P0 [] c fun _ c=>Ih c h (fun hb h=>?_) fun hb h=>?_))
 replace c:=c.dp [2]
 refine wp_exit (te (be ?_))
 refine tn (P1 [] c fun _ c=>Nx h (i1.1,i1.2) (c.rk [0,1] (rg 6)))
 replace c:=c.opn 2 (bT hb)
 replace c:=c.eqs (v:=oP x6.2 i2.1) (u:=B i2.1 0) 9 (by rw [(bT hb)]; rfl)
 refine K0 (T0 (Fp [] 2 c fun _ c=>Bd h fun x7 hx7 h=>Ca [0,1] c (ih hx7) ⟨.f 0,.f 1,.f 2,.b 0,.g 1,.g 2,tt⟩ call68 fun i3 _ _ c=>?_))
 refine Fp [] 1 c fun _ c=>E0 (P0 [] c fun _ c=>I0 c h (fun h=>?_) fun h=>?_)
 refine P0 [] c fun _ c=>?_
 obtain rfl:=hr2 _ (sk h)
 obtain rfl:=sj hk2
 exact wp_ret (br (tr (tr (br (tr (Rt c (i3.1,i3.2) [3,4] []))))))
 refine K1 (bk (tn (P1 [] c fun _ c=>Nx h (i3.1,i3.2) (c.rk [3,4] (rg 6)))))
 refine wp_exit (te (te (be ?_)))
 obtain rfl:=hr2 _ (sk h)
 exact tn ⟨_,(i1.1,i1.2),rfl,c.rk [0,1] (rg 6)⟩
 subst hrl
 refine P0 [] c fun _ c=>?_
 cases h
 exact wp_ret (Rt c (k1.1,k1.2) [0,1] [])
theorem ZbY {p0 p1 p2 gb0 r} (h:X0 n p0 p1 p2 = some r):Con prog 32 [B gb0 0,L ga5 p1 gc6,I p2] [] [FX gb0 118 [I p0.f.Vars,L ga1 p0.f.Clauses gc2,L ga3 p0.occ gc4],lR ga1 p0.f.Clauses gc2,lR ga3 p0.occ gc4,lR ga5 p1 gc6] fun (i:Oh)=>([I r.1,L i.1 r.2.1 i.2,I r.2.2],[sl4 (L i.1 r.2.1 i.2) r.2.1],[]):=by
 unfold X0 at h
 refine En func32 rfl ntmps32 fun _ fr w c=>?_
 refine P0 [] c fun _ c=>T0 (Fp [] 2 c fun _ c=>Bd h fun x1 hx1 h=>Cb c (Zch hx1) ⟨.f 0,.f 1,.f 2,.f 3,tt⟩ call67 fun i1 _ _ c=>?_)
 refine Fp [] 5 c fun _ c=>E0 (S0 (P0 [] c fun _ c=>Ih c h (fun hb h=>?_) fun hb h=>?_))
 replace c:=c.dp [0]
 refine P0 [] c fun _ c=>?_
 replace c:=c.nil (α:=Bool) 4
 cases h
 exact wp_ret (tr (Rg c (none,0) [0] [] (.tmp (.tmp (.tmp .nil)))))
 replace c:=c.opn 0 (bT hb)
 replace c:=c.eqs (v:=oP x1.2 i1.1) (u:=B i1.1 0) 9 (by rw [(bT hb)]; rfl)
 refine K0 (T0 (Fp [] 3 c fun _ c=>Eal [.pointer none,I 0,I 0,L none ([]:List Bool) 0] c fun b1 _ _ c=>?_))
 refine Ess 3 [B gb0 0,I p2,I 0,L none ([]:List Bool) 0] c fun _ c=>?_
 refine E0 (T0 (Fp [] 1 c fun _ c=>?_))
 replace c:=c.nil (α:=Bool) 4
 refine Bd h fun x2 hx2 h=>Ca [3,4] c (Zcy hx2) ⟨.f 0,.f 1,.f 2,.b 0,.g 1,.g 2,tt⟩ call68 fun i2 _ _ c=>?_
 refine Fp [] 1 c fun _ c=>E0 (S0 (Ry [(2,1),(4,1)] mix c fun _ _ c=>?_))
 cases h
 exact wp_ret (Rg c (i2.1,i2.2) [4] [] (.tmp (.tmp (.tmp .nil))))
theorem Ze0 {p0 p1 p2 r} (h:ZaG n p0 p1 p2 = some r):Con prog 37 [.agg #[I p0.Vars,L ga0 p0.Clauses gc1],L ga2 p1 gc3,I p2] [] [lR ga0 p0.Clauses gc1,lR ga2 p1 gc3] fun (i:Oh)=>([I r.1,L i.1 r.2.1 i.2,I r.2.2],[sl4 (L i.1 r.2.1 i.2) r.2.1],[]):=by
 unfold ZaG at h
 refine En func37 rfl ntmps37 fun _ fr w c=>?_
 refine T0 (Ebx [I p0.Vars,L ga0 p0.Clauses gc1] c fun b1 _ _ c=>?_)
 refine Fp [] 3 c fun _ c=>E0 (S0 (Bd h fun x1 hx1 h=>Bd h fun x2 hx2 h=>Bd h fun x3 hx3 h=>S0 (rZ [(1,.eq (.bool x1)),(7,.eq (.bool x2)),(12,.eq (.bool x3))] [(0,0),(6,0)] mix c ⟨Ncl c (kN (Zdg hx1)) ⟨.f 0,tt⟩ call71,Ncl c (fun hg=>Zae (iteF (gcF hg) hx2)) ⟨.f 1,tt⟩ call72,Ncl c (fun hg=>ZaP (iteF (gcF hg) hx3)) tt call28,tt⟩ fun _ _ c=>I0 c h (fun h=>?_) fun h=>?_)))
 refine P0 [] c fun _ c=>?_
 replace c:=c.nil (α:=Bool) 4
 cases h
 exact wp_ret (tr (Rg c (none,0) [1] [] (.tmp (.tmp (.tmp .nil)))))
 refine K0 (T0 (Fp [(0,0)] 1 c fun _ c=>Bd h fun x4 hx4 h=>Cg c (Zd2 hx4) ⟨.f 0,tt⟩ call31 fun i1 _ _ c=>?_))
 refine Fp [] 2 c fun _ c=>Bd h fun x5 hx5 h=>Cb c (ZbY hx5) ⟨.f 2,.f 3,.f 4,.f 1,tt⟩ call32 fun i2 _ _ c=>?_
 refine Fp [] 6 c fun _ c=>E0 ?_
 cases h
 exact wp_ret (Rg c (i2.1,i2.2) [1] [] (.tmp (.tmp (.tmp .nil))))
theorem ZdK {p0 r} (h:Xi p0 = some r):C0 70 [.bool p0] [] (I r):=by
 unfold Xi at h
 refine En func70 rfl ntmps70 fun _ fr w c=>?_
 exact P0 [] c fun _ c=>S0 (P0 [] c fun _ c=>I0 c h (fun h=>P0 [] c fun _ c=>rE) fun h=>K0 (P0 [] c fun _ c=>rE))
theorem ZdT {p0 p1 r} (h:Zaa n p0 p1 = some r):Con prog 38 [tV p0 ga0 gc1,L ga2 p1 gc3] [] [lR ga0 p0.Kids gc1,lR ga2 p1 gc3] fun (i:Oh)=>([L i.1 r i.2],[sl72 (L i.1 r i.2) r],[]):=by
 unfold Zaa at h
 refine En func38 rfl ntmps38 fun _ fr w c=>?_
 refine T0 (Ebx (tC p0 ga0 gc1) c fun b1 _ _ c=>?_)
 refine Fp [] 1 c fun _ c=>E0 (T0 (Fp [(0,0)] 1 c fun _ c=>Bd h fun x1 hx1 h=>Cb c (Zcc hx1) ⟨.f 0,tt⟩ call59 fun i1 _ _ c=>?_))
 refine Fp [] 1 c fun _ c=>E0 (P0 [] c fun _ c=>S0 (P0 [] c fun _ c=>Bd h fun rl1 hit1 h=>Lp (fun s1  (_:Unit)=>([(1,L ga2 p1 gc3),(5,L i1.1 x1 i1.2),(6,I s1.1),(12,I (len x1)),(13,I s1.2.1)],fun Γ=>Γ.set 1 (sl72 (L i1.1 x1 i1.2) s1.q2),[])) (fun  (_:Unit)=>([(5,L i1.1 x1 i1.2)],fun Γ=>Γ.set 1 (sl72 (L i1.1 x1 i1.2) rl1),[])) hit1 c () (c.rk [0,1] [0,1]) (fun s1 q1 _ _ _ c h hr1=>?_) fun _ _ _ c=>?_))
 refine P0 [] c fun _ c=>S0 (I0 c h (fun h=>?_) fun h=>?_)
 refine K0 (S0 (wp_block (P0 [] c fun _ c=>P0 [] c fun _ c=>Bd h fun rl2 hit2 h=>Tq (Lp (fun s2  (_:Unit)=>([(1,L ga2 p1 gc3),(5,L i1.1 x1 i1.2),(6,I s2.1),(7,I s1.2.1),(8,I s2.2.1),(12,I (len x1)),(13,I s1.2.1)],fun Γ=>Γ.set 1 (sl72 (L i1.1 x1 i1.2) s2.q2),[])) (fun  (_:Unit)=>([(1,L ga2 p1 gc3),(5,L i1.1 x1 i1.2),(6,I rl2.1),(12,I (len x1)),(13,I s1.2.1)],fun Γ=>Γ.set 1 (sl72 (L i1.1 x1 i1.2) rl2.2),[])) hit2 c () (c.rk [0,1] [0,1]) (fun s2 q2 _ _ _ c h hr2=>?_) fun _ _ _ c=>?_))))
 refine S0 (T0 (Fp [] 3 c fun _ c=>Bd h fun x2 hx2 h=>Eef c (.g 1) hx2 Zis fun _ _ _ c=>?_))
 refine Fp [] 1 c fun _ c=>E0 (I0 c h (fun h=>?_) fun h=>?_)
 refine K0 (S0 (wp_block (Bd h fun x3 hx3 h=>Bd h fun x4 hx4 h=>Bd h fun x5 hx5 h=>S0 (ZI mix (rM 15 [(4,Pd.el (x3:D.Value)),(5,Pd.fl (I x3.N)),(6,.eq (I x3.N)),(11,Pd.el (x4:Bool)),(12,.eq (.bool x4)),(13,.eq (I x5))] [] c (fun ow=>⟨Zd ow (Nid c (.g 1) (kN hx3)),Zd ow (Nfa c 4 (atM 4 (p:=.el (x3:D.Value))) Zlf),Zd ow (Nlf c 5 (atM 5 (p:=.fl (I x3.N)))),Zd ow (Nid c (.f 1) (kN hx4)),Zd ow (Nld c 11 (q:=x4) (atM 11 (p:=.el (x4:Bool)))),Zd ow (Ncl c (kN (ZdK hx5)) tt call70),tt⟩) fun _ _ _ _ _ c=>Bd h fun x6 hx6 h=>Bd h fun x7 hx7 h=>Esf 1 (I (w64 ((w64 (2 * x3.N)) + x5))) c hx6 hx7 fun _ _ _ _ c=>?_)))))
 refine E0 (Tq (P1 [] c fun _ c=>bk (tn (P1 [] c fun _ c=>Nx h () (c.rk [0,1] [0,1])))))
 refine wp_exit (te (te (be ?_)))
 obtain rfl:=hr2 _ (sk h)
 exact tn ⟨(),c.rk [0,1] [0,1]⟩
 refine bk (tn (P1 [] c fun _ c=>Nx h () (c.rk [0,1] [0,1])))
 refine wp_exit (te (te (be ?_)))
 obtain rfl:=hr1 _ (sk h)
 exact tn ⟨(),c.rk [0,1] [0,1]⟩
 refine P0 [] c fun _ c=>?_
 obtain rfl:=sj h
 obtain ⟨he1,c⟩:=c.relen 1
 replace c:=c.eqs (v:=L i1.1 x1 i1.2) (u:=L i1.1 rl1 i1.2) 4 (by simp only [L,he1])
 exact wp_ret (Rt c (i1.1,i1.2) [1] [])
theorem Zdr {p0 p1 r} (h:Xo n p0 p1 = some r):Con prog 12 [tV p0 ga0 gc1,I p1] [] [lR ga0 p0.Kids gc1] fun (i:Oh)=>([I r.1,L i.1 r.2 i.2],[sl72 (L i.1 r.2 i.2) r.2],[]):=by
 unfold Xo at h
 refine En func12 rfl ntmps12 fun _ fr w c=>?_
 refine T0 (Ebx (tC p0 ga0 gc1) c fun b1 _ _ c=>?_)
 refine Fp [] 2 c fun _ c=>E0 (S0 (Bd h fun x1 hx1 h=>Bd h fun x2 hx2 h=>S0 (rZ [(1,.eq (.bool x1)),(10,.eq (.bool x2))] [(0,0),(5,0)] mix c ⟨Ncl c (kN (Zaq hx1)) ⟨.f 0,tt⟩ call27,Ncl c (fun hg=>ZaP (iteF (gcF hg) hx2)) tt call28,tt⟩ fun _ _ c=>I0 c h (fun h=>?_) fun h=>?_)))
 refine P0 [] c fun _ c=>?_
 replace c:=c.nil (α:=D.Value) 72
 cases h
 exact wp_ret (tr (Rg c (none,0) [1] [] (.tmp (.tmp .nil))))
 refine K0 (T0 (Fp [(0,0)] 1 c fun _ c=>Bd h fun x3 hx3 h=>Cb c (Zd1 hx3) ⟨.f 0,tt⟩ call29 fun i1 _ _ c=>?_))
 refine Fp [] 4 c fun _ c=>Eal [I 0,L none ([]:List D.Gate) 0] c fun b2 _ _ c=>?_
 refine Ess 3 [I x3.1.Inputs,L i1.1 x3.1.Gates i1.2.1] c fun _ c=>?_
 refine Fp [] 2 c fun _ c=>E0 (S0 (P0 [] c fun _ c=>I0 c h (fun h=>?_) fun h=>?_))
 refine P0 [] c fun _ c=>?_
 replace c:=c.nil (α:=D.Value) 72
 cases h
 exact wp_ret (tr (Rg c (none,0) [4] [] (.tmp (.tmp .nil))))
 refine K0 ?_
 replace c:=c.fz 1
 replace c:=c.fz 1
 refine Bd h fun x4 hx4 h=>?_
 obtain ⟨ep1,c⟩:=c.eli (.f 2) hx4
 refine Bd h fun x5 hx5 h=>S0 (Jn (fun i:Nat × Ob (List Hd)=>([(1,I p1),(2,B b1 0),(8,.bool x5.2),(9,B i.1 0)],fun Γ=>Γ ++ [BX i.1 52 [I x5.1.Vars,L i.2.1 x5.1.Clauses i.p2],sl47 (L i.2.1 x5.1.Clauses i.p2) (i.q3)],[CS (i.q3) x5.1.Clauses])) c ?_ fun i7 _ _ c=>?_)
 refine As mix c fun _ c=>?_
 replace c:=Cx.frs [(1,I p1),(2,B b1 0),(6,B b2 0),(7,L i1.p2 x3.2.1 i1.q3)] c
 refine Dq (fun i:Nat × Ob (List Hd)=>([(1,I p1),(2,B b1 0),(9,B i.1 0),(34,.tuple #[.agg #[I x5.1.Vars,L i.2.1 x5.1.Clauses i.p2],.bool x5.2])],fun Γ=>Γ ++ [BX i.1 52 [I x5.1.Vars,L i.2.1 x5.1.Clauses i.p2],sl47 (L i.2.1 x5.1.Clauses i.p2) (i.q3)],[CS (i.q3) x5.1.Clauses])) (bN 11 895) (fun i=>[(7,41,.bool x5.2),(10,8,.bool x5.2)]) c (fun i6=>?_) fun hd4=>?_
 obtain ⟨b7,a3,c3,rs3⟩:=i6
 refine qnE ⟨qP [],qP [],tt⟩ fun _ _ c=>?_
 exact nN (b7,a3,c3,rs3) (c.rk (rg 4) (rg 5))
 refine Dq (fun i:Nat × Ob (List Hd)=>([(1,I p1),(2,B b1 0),(9,B i.1 0),(39,.tuple #[.agg #[I x5.1.Vars,L i.2.1 x5.1.Clauses i.p2],.bool x5.2])],fun Γ=>Γ ++ [BX i.1 52 [I 0,L none ([]:List (List Int)) 0],sl47 (L i.2.1 x5.1.Clauses i.p2) (i.q3)],[CS (i.q3) x5.1.Clauses])) (bN 11 287) (fun i=>[(5,34,.tuple #[.agg #[I x5.1.Vars,L i.2.1 x5.1.Clauses i.p2],.bool x5.2]),(6,40,.agg #[I x5.1.Vars,L i.2.1 x5.1.Clauses i.p2]),(7,41,.bool x5.2)]) c (fun i4=>?_) fun hd3=>?_
 obtain ⟨b6,a2,c2,rs2⟩:=i4
 refine qn [9] ⟨qP [],qP [],qP [],tt⟩ ⟨fun _ _ c=>?_,tt⟩
 refine X8 _ rfl rfl ?_
 refine Ess 2 [I x5.1.Vars,L a2 x5.1.Clauses c2] c fun _ c=>?_
 refine E0 (nQ hd4 (b6,a2,c2,rs2) (c.rk (rg 4) (rg 5)))
 refine Dq (fun i:Ob (List Hd)=>([(1,I p1),(2,B b1 0),(39,.tuple #[.agg #[I x5.1.Vars,L i.1 x5.1.Clauses i.2.1],.bool x5.2])],fun Γ=>Γ ++ [sl47 (L i.1 x5.1.Clauses i.2.1) (i.q2)],[CS (i.q2) x5.1.Clauses])) (bN 11 31) (fun i=>[(5,34,.tuple #[.agg #[I x5.1.Vars,L i.1 x5.1.Clauses i.2.1],.bool x5.2]),(6,40,.agg #[I x5.1.Vars,L i.1 x5.1.Clauses i.2.1]),(7,41,.bool x5.2)]) c (fun i3=>?_) fun hd1=>?_
 obtain ⟨a1,c1,rs1⟩:=i3
 refine qn [8] ⟨qP [],qP [],qP [],tt⟩ ⟨fun _ _ c=>?_,tt⟩
 refine X8 _ rfl rfl ?_
 refine Eal [I 0,L none ([]:List (List Int)) 0] c fun b5 _ _ c=>?_
 refine E0 (nQ hd3 (b5,a1,c1,rs1) (c.rk [0,1,3,2] (rg 5)))
 refine Dq (fun i:Nat=>([(1,I p1),(2,B b1 0),(6,B b2 0),(7,L i1.p2 x3.2.1 i1.q3),(9,B i 0)],fun Γ=>Γ ++ [BX i 52 [I 0,L none ([]:List (List Int)) 0]],[])) (bN 11 256) (fun i=>[(0,35,.agg #[I x3.1.Inputs,L i1.1 x3.1.Gates i1.2.1]),(1,36,L i1.p2 x3.2.1 i1.q3),(2,37,.pointer (some ep1)),(3,38,I x4)]) c (fun b4=>?_) fun hd2=>?_
 refine qn [4] ⟨qP [(0,1)],qP [],qI 3,qL 3,tt⟩ ⟨fun _ _ c=>?_,tt⟩
 refine X8 _ rfl rfl ?_
 refine Cg c (Zbr hx5) ⟨.f 1,tt⟩ call30 fun i5 _ _ c=>?_
 refine E0 (nQ hd3 (b4,i5.1,i5.2.1,i5.q2) (c.rk (rg 4) (rg 5)))
 refine q0 (qs:=[(0,35,.agg #[I x3.1.Inputs,L i1.1 x3.1.Gates i1.2.1]),(1,36,L i1.p2 x3.2.1 i1.q3),(2,37,.pointer (some ep1)),(3,38,I x4)]) c (qn [4,8] ⟨qP [(0,1)],qP [],qI 3,qL 3,tt⟩ ⟨fun _ _ c=>?_,fun _ _ c=>?_,tt⟩)
 refine X8 _ rfl rfl ?_
 refine Cg c (Zbr hx5) ⟨.f 1,tt⟩ call30 fun i2 _ _ c=>?_
 refine E0 (nQ hd1 (i2.1,i2.2.1,i2.q2) (c.rk [0,1,2] (rg 5)))
 refine X8 _ rfl rfl ?_
 refine Eal [I 0,L none ([]:List (List Int)) 0] c fun b3 _ _ c=>?_
 refine E0 (nQ hd2 (b3) (c.rk [0,1,2] (rg 4)))
 obtain ⟨b8,a4,c4,rs4⟩:=i7
 refine S0 (P0 [] c fun _ c=>I0 c h (fun h=>?_) fun h=>?_)
 refine P0 [] c fun _ c=>?_
 replace c:=c.nil (α:=D.Value) 72
 cases h
 exact wp_ret (tr (Rg c (none,0) [4] [] (.tmp (.tmp .nil))))
 refine K0 (T0 (Fp [(0,2)] 2 c fun _ c=>Bd h fun x6 hx6 h=>Cb c (Ze0 hx6) ⟨.gr 3 4,.nil,tt⟩ call37 fun i8 _ _ c=>?_))
 refine Fp [] 7 c fun _ c=>E0 (S0 (P0 [] c fun _ c=>I0 c h (fun h=>?_) fun h=>?_))
 refine P0 [] c fun _ c=>?_
 replace c:=c.nil (α:=D.Value) 72
 cases h
 exact wp_ret (tr (Rg c (none,0) [5] [] (.tmp (.tmp .nil))))
 refine K0 (T0 (Fp [(0,0)] 2 c fun _ c=>Bd h fun x7 hx7 h=>Cb c (ZdT hx7) ⟨.f 0,.g 4,tt⟩ call38 fun i9 _ _ c=>?_))
 refine Fp [] 2 c fun _ c=>E0 ?_
 cases h
 exact wp_ret (Rg c (i9.1,i9.2) [5] [] (.tmp (.tmp .nil)))
theorem Zbt {p0 p1 r} (h:Xl n p0 p1 = some r):Con prog 18 [tV p0 ga0 gc1,I p1] [] [lR ga0 p0.Kids gc1] fun (i:Oh)=>([I r.1,L i.1 r.2 i.2],[sl72 (L i.1 r.2 i.2) r.2],[]):=by
 unfold Xl at h
 refine En func18 rfl ntmps18 fun _ fr w c=>?_
 refine T0 (Ebx (tC p0 ga0 gc1) c fun b1 _ _ c=>?_)
 refine Fp [] 2 c fun _ c=>E0 (S0 (Bd h fun x1 hx1 h=>Bd h fun x2 hx2 h=>S0 (rZ [(1,.eq (.bool x1)),(10,.eq (.bool x2))] [(0,0),(5,0)] mix c ⟨Ncl c (kN (Zaq hx1)) ⟨.f 0,tt⟩ call27,Ncl c (fun hg=>ZaP (iteF (gcF hg) hx2)) tt call28,tt⟩ fun _ _ c=>I0 c h (fun h=>?_) fun h=>?_)))
 refine P0 [] c fun _ c=>?_
 replace c:=c.nil (α:=D.Value) 72
 cases h
 exact wp_ret (tr (Rg c (none,0) [1] [] (.tmp (.tmp .nil))))
 refine K0 (T0 (Fp [(0,0)] 1 c fun _ c=>Eltr 30 [(tR p0 ga0 gc1)] [p0] c ⟨(Ava.mk_Term p0 (.f 0)),tt⟩ fun a1 c1 _ _ c=>?_))
 refine Fp [] 2 c fun _ c=>Bd h fun x3 hx3 h=>Cb c (Zdr hx3) ⟨.gr 1 1,tt⟩ call12 fun i1 _ _ c=>?_
 refine Fp [] 5 c fun _ c=>E0 (S0 (P0 [] c fun _ c=>wp_block (P0 [] c fun _ c=>I0 c h (fun h=>?_) fun h=>?_)))
 refine P0 [] c fun _ c=>?_
 replace c:=c.nil (α:=D.Value) 72
 cases h
 exact wp_ret (br (tr (Rg c (none,0) [3] [] (.tmp (.tmp .nil)))))
 refine P0 [] c fun _ c=>I0 c h (fun h=>?_) fun h=>?_
 refine P0 [] c fun _ c=>?_
 cases h
 exact wp_ret (br (tr (Rg c (i1.1,i1.2) [2] [] (.tmp (.tmp .nil)))))
 refine K1 (bk (tn (P0 [] c fun _ c=>?_)))
 replace c:=c.nil (α:=D.Value) 72
 cases h
 exact wp_ret (Rg c (none,0) [3] [] (.tmp (.tmp .nil)))
theorem Zec {p0 p1 r} (h:Zav p0 p1 = some r):C0 39 [vV p0,vV p1] [] (.bool r):=by
 unfold Zav at h
 refine En func39 rfl ntmps39 fun _ fr w c=>?_
 refine T0 (Ebx (vC p0) c fun b1 _ _ c=>?_)
 refine Ebx (vC p1) c fun b2 _ _ c=>?_
 exact Fp [] 1 c fun _ c=>E0 (S0 (P0 [(1,0),(3,1)] c fun _ c=>I0 c h (fun h=>P0 [] c fun _ c=>rE) fun h=>K0 (S0 (P0 [(1,0),(3,1)] c fun _ c=>I0 c h (fun h=>P0 [] c fun _ c=>rE) fun h=>K0 (S0 (P0 [(1,0),(3,1)] c fun _ c=>I0 c h (fun h=>P0 [] c fun _ c=>rE) fun h=>K0 (P0 [] c fun _ c=>rE)))))))
theorem Za0 {p0 p1 r} (h:Xj n p0 p1 = some r):C0 13 [L ga0 p0 gc1,L ga2 p1 gc3] [lR ga0 p0 gc1,lR ga2 p1 gc3] (.bool r):=by
 unfold Xj at h
 refine En func13 rfl ntmps13 fun _ fr w c=>?_
 refine P0 [] c fun _ c=>S0 (P0 [] c fun _ c=>I0 c h (fun h=>P0 [] c fun _ c=>rE) fun h=>?_)
 refine K0 (S0 (P0 [] c fun _ c=>Bd h fun rl1 hit1 h=>?_))
 have hk1:=h
 refine LpR (fun s1  (_:Unit)=>([(0,L ga0 p0 gc1),(1,L ga2 p1 gc3),(5,I s1)],id,[])) (fun s  (_:Unit)=>([],id,[])) hit1 c () (c.rk [] [0,1]) (fun s1 q1 _ _ _ c h hr1=>?_) fun s1r _ _ _ hrl c=>?_
 refine S0 (P0 [] c fun _ c=>I0 c h (fun h=>?_) fun h=>?_)
 refine K0 (S0 (wp_block (Bd h fun x1 hx1 h=>Bd h fun x2 hx2 h=>Bd h fun x3 hx3 h=>S0 (rZ [(2,Pd.el (x1:D.Value)),(3,.eq (vV x1)),(6,Pd.el (x2:D.Value)),(7,.eq (vV x2)),(8,.eq (.bool x3))] [] mix c ⟨Nid c (.f 0) (kN hx1),Nld c 2 (q:=x1) (atN 2),Nid c (.f 1) (kN hx2),Nld c 6 (q:=x2) (atN 6),Ncl c (kN (Zec hx3)) tt call39,tt⟩ fun _ _ c=>I0 c h (fun h=>?_) fun h=>?_))))
 refine P0 [] c fun _ c=>?_
 obtain rfl:=hr1 _ (sk h)
 obtain rfl:=sj hk1
 exact wp_ret (br (tr (tr (br (tr (Rt c () [] []))))))
 refine K1 (bk (tn (P1 [] c fun _ c=>Nx h () (c.rk [] [0,1]))))
 refine wp_exit (te (te (be ?_)))
 obtain rfl:=hr1 _ (sk h)
 exact tn ⟨_,(),rfl,c.rk [] [0,1]⟩
 subst hrl
 exact P0 [] c fun _ c=>rE
theorem ZaQ (n:Nat):(∀ {p0 p1 ga0 gc1 ga2 gc3 r} (h:XQ n p0 p1 = some r),C0 34 [L ga0 p0 gc1,L ga2 p1 gc3] [lR ga0 p0 gc1,lR ga2 p1 gc3] (.bool r)) ∧
    (∀ {p0 p1 ga0 gc1 ga2 gc3 r} (h:Xd n p0 p1 = some r),C0 10 [tV p0 ga0 gc1,tV p1 ga2 gc3] [lR ga0 p0.Kids gc1,lR ga2 p1.Kids gc3] (.bool r)):=by
 induction n with
 | zero=>exact ⟨by intro p0 p1 ga0 gc1 ga2 gc3 r h; simp [XQ] at h,by intro p0 p1 ga0 gc1 ga2 gc3 r h; simp [Xd] at h⟩
 | succ n ih=>
 obtain ⟨ih0,ih1⟩:=ih
 refine ⟨?_,?_⟩
 · intro p0 p1 ga0 gc1 ga2 gc3 r h
   rw [XQ] at h
   refine En func34 rfl ntmps34 fun _ fr w c=>?_
   refine P0 [] c fun _ c=>S0 (P0 [] c fun _ c=>I0 c h (fun h=>P0 [] c fun _ c=>rE) fun h=>?_)
   refine K0 (S0 (P0 [] c fun _ c=>Bd h fun rl1 hit1 h=>?_))
   have hk1:=h
   refine LpR (fun s1  (_:Unit)=>([(0,L ga0 p0 gc1),(1,L ga2 p1 gc3),(5,I s1)],id,[])) (fun s  (_:Unit)=>([],id,[])) hit1 c () (c.rk [] [0,1]) (fun s1 q1 _ _ _ c h hr1=>?_) fun s1r _ _ _ hrl c=>?_
   refine S0 (P0 [] c fun _ c=>I0 c h (fun h=>?_) fun h=>?_)
   refine K0 (S0 (wp_block (Bd h fun x1 hx1 h=>?_)))
   obtain ⟨ep1,u1,c⟩:=c.elp (.f 0) hx1
   obtain ⟨a1,c1,rfl,c⟩:=c.o_Term 3
   refine Bd h fun x2 hx2 h=>?_
   obtain ⟨ep2,u2,c⟩:=c.elp (.f 1) hx2
   obtain ⟨a2,c2,rfl,c⟩:=c.o_Term 6
   refine Bd h fun x3 hx3 h=>S0 (rZ [(2,.eq (.pointer (some ep1))),(3,.eq (tV x1 a1 c1)),(6,.eq (.pointer (some ep2))),(7,.eq (tV x2 a2 c2)),(8,.eq (.bool x3))] [] mix c ⟨Nie c 2,Nle c 2,Nie c 5,Nle c 5,Ncl c (kN (ih1 hx3)) ⟨.f 4,.f 7,tt⟩ call10,tt⟩ fun _ _ c=>I0 c h (fun h=>?_) fun h=>?_)
   refine P0 [] c fun _ c=>?_
   obtain rfl:=hr1 _ (sk h)
   obtain rfl:=sj hk1
   exact wp_ret (br (tr (tr (br (tr (Rt c () [] []))))))
   refine K1 (bk (tn (P1 [] c fun _ c=>Nx h () (c.rk [] [0,1]))))
   refine wp_exit (te (te (be ?_)))
   obtain rfl:=hr1 _ (sk h)
   exact tn ⟨_,(),rfl,c.rk [] [0,1]⟩
   subst hrl
   exact P0 [] c fun _ c=>rE
 · intro p0 p1 ga0 gc1 ga2 gc3 r h
   rw [Xd] at h
   refine En func10 rfl ntmps10 fun _ fr w c=>?_
   refine T0 (Ebx (tC p0 ga0 gc1) c fun b1 _ _ c=>?_)
   refine Ebx (tC p1 ga2 gc3) c fun b2 _ _ c=>?_
   refine Fp [] 1 c fun _ c=>E0 (S0 (P0 [(1,0),(3,1)] c fun _ c=>I0 c h (fun h=>P0 [] c fun _ c=>rE) fun h=>?_))
   refine K0 (S0 (P0 [(1,0),(3,1)] c fun _ c=>I0 c h (fun h=>P0 [] c fun _ c=>rE) fun h=>?_))
   refine K0 (S0 (P0 [(1,0),(3,1)] c fun _ c=>I0 c h (fun h=>P0 [] c fun _ c=>rE) fun h=>?_))
   refine K0 (S0 (P0 [(1,0),(3,1)] c fun _ c=>I0 c h (fun h=>P0 [] c fun _ c=>rE) fun h=>?_))
   refine K0 (S0 (T0 (Fp [(1,0),(3,1)] 4 c fun _ c=>Bd h fun x1 hx1 h=>Cb c (ih0 hx1) ⟨.f 0,.f 1,tt⟩ call34 fun _ _ _ c=>?_)))
   exact Fp [] 1 c fun _ c=>E0 (I0 c h (fun h=>P0 [] c fun _ c=>rE) fun h=>K0 (P0 [] c fun _ c=>rE))
theorem ZeI {n:Nat}:∀ {p0 p1 ga0 gc1 ga2 gc3 r} (h:Xd n p0 p1 = some r),C0 10 [tV p0 ga0 gc1,tV p1 ga2 gc3] [lR ga0 p0.Kids gc1,lR ga2 p1.Kids gc3] (.bool r):=(ZaQ n).2
theorem Za4 {p0 r} (h:Yf n p0 = some r):C0 41 [I p0] [] (Str.val r):=by
 unfold Yf at h
 refine En func41 rfl ntmps41 fun _ fr w c=>?_
 refine P0 [] c fun _ c=>S0 (P0 [] c fun _ c=>I0 c h (fun h=>P0 [] c fun _ c=>rE) fun h=>?_)
 refine K0 (P0 [] c fun _ c=>Bd h fun rl1 hit1 h=>S0 (Lp (fun s1  (_:Unit)=>([(0,I s1.1),(3,Str.val s1.2)],id,[])) (fun  (_:Unit)=>([(3,Str.val rl1)],id,[])) hit1 c () (c.rk [] []) (fun s1 q1 _ _ _ c h hr1=>?_) fun _ _ _ c=>?_))
 refine S0 (P0 [] c fun _ c=>I0 c h (fun h=>?_) fun h=>?_)
 refine K0 (wp_block (T0 (Fp [] 1 c fun _ c=>Bd h fun x1 hx1 h=>Erem c hx1 fun _ c=>?_)))
 refine Fp [] 2 c fun _ c=>Elt 5 ([(Byt.mk (IntKind.u8.wrap (w64 (48 + x1))))]:List Byt) c fun a1 c1 _ _ c=>?_
 refine Ebs c (.g 0) (fun _ c=>?_) Tryz.underlying125
 refine Fp [] 1 c fun _ c=>Bd h fun x2 hx2 h=>Ecat c hx2 fun _ c=>?_
 refine Fp [] 1 c fun _ c=>E0 (T1 (Fp [] 1 c fun _ c=>Bd h fun x3 hx3 h=>Equo c hx3 fun _ c=>?_))
 refine Fp [] 1 c fun _ c=>E1 (bk (tn (Nx h () (c.rk [] []))))
 refine wp_exit (te (te (be ?_)))
 obtain rfl:=hr1 _ (sk h)
 exact tn ⟨(),c.rk [] []⟩
 refine T0 (Fp [] 1 c fun _ c=>Bd h fun x4 hx4 h=>Ecat c hx4 fun _ c=>?_)
 exact Fp [] 1 c fun _ c=>E0 rE
theorem ZcW {n:Nat}:∀ {p0 p1 ga0 gc1 gn2 r} (h:Yz n p0 p1 = some r),Con prog 40 [.slice ga0 gn2 gc1,I p1] [OD (ownT 30) 30 (.slice ga0 gn2 gc1) p0] [] fun (_:Unit)=>([I r.1],[OD (ownT 30) 30 (.slice ga0 gn2 gc1) r.2],[]):=by
 induction n with
 | zero=>intro p0 p1 ga0 gc1 gn2 r h; simp [Yz] at h
 | succ n ih=>
 intro p0 p1 ga0 gc1 gn2 r h
 rw [Yz] at h
 refine En func40 rfl ntmps40 fun _ fr w c=>?_
 obtain ⟨rfl,c⟩:=c.releno 0
 refine P0 [] c fun _ c=>S0 (P0 [] c fun _ c=>Bd h fun rl1 hit1 h=>Lp (fun s1  (_:Unit)=>([(0,L ga0 p0 gc1),(1,I s1.1),(5,I s1.2.1)],fun Γ=>Γ.set 0 (OD (ownT 30) 30 (L ga0 p0 gc1) s1.q2),[])) (fun  (_:Unit)=>([(1,I rl1.1)],fun Γ=>Γ.set 0 (OD (ownT 30) 30 (L ga0 p0 gc1) rl1.2),[])) hit1 c () (c.rk [0] []) (fun s1 q1 _ _ _ c h hr1=>?_) fun _ _ _ c=>?_)
 refine S0 (P0 [] c fun _ c=>I0 c h (fun h=>?_) fun h=>?_)
 refine K0 (S0 (wp_block (T0 (Fp [] 3 c fun _ c=>Bd h fun x1 hx1 h=>?_))))
 obtain ⟨a1,c1,c⟩:=c.fo_Term 0 hx1
 refine Eohs 0 (I s1.1) (Rw.Term.mk s1.1 x1.W x1.N x1.Name (hd a1 x1.Kids c1)) c fun _ _ _ _ c=>?_
 refine E0 (P0 [] c fun _ c=>T0 (Fp [] 3 c fun _ c=>Eohs 1 (I (w64 (s1.1 + 1))) (Rw.Term.mk s1.1 (w64 (s1.1 + 1)) x1.N x1.Name (hd a1 x1.Kids c1)) c fun _ _ _ _ c=>?_))
 refine E0 (P0 [] c fun _ c=>T0 (Fp [] 3 c fun _ c=>?_))
 replace c:=c.nf
 refine Eohs 1 (I (w64 ((w64 (s1.1 + 1)) + 1))) (Rw.Term.mk s1.1 (w64 (s1.1 + 1)) (w64 ((w64 (s1.1 + 1)) + 1)) x1.Name (hd a1 x1.Kids c1)) c fun _ _ _ _ c=>?_
 refine E0 (P0 [] c fun _ c=>T0 (Fp [] 3 c fun _ c=>Bd h fun x2 hx2 h=>Cb c (Za4 hx2) tt call41 fun _ _ _ c=>?_))
 refine Eohs 1 (Str.val x2) (Rw.Term.mk s1.1 (w64 (s1.1 + 1)) (w64 ((w64 (s1.1 + 1)) + 1)) x2 (hd a1 x1.Kids c1)) c fun _ _ _ _ c=>?_
 refine E0 (P0 [] c fun _ c=>T1 (Fp [] 2 c fun _ c=>?_))
 replace c:=c.nf
 refine Eohl 1 (L a1 x1.Kids c1) c fun _ _ _ c=>?_
 refine Fp [] 1 c fun _ c=>Bd h fun x3 hx3 h=>Ca [0] c (ih hx3) tt call40 fun _ _ _ c=>?_
 refine Fp [] 1 c fun _ c=>E1 (bk (tn (P1 [] c fun _ c=>Bd h fun x4 hx4 h=>?_)))
 replace c:=c.un_Term (E:=30) (v:=L ga0 p0 gc1) (y:=(D.Term.mk s1.1 (w64 (s1.1 + 1)) (w64 ((w64 (s1.1 + 1)) + 1)) x2 x3.2)) (b:=a1) (m:=List.length x1.Kids) (cp:=c1) 0 1 hx4
 replace c:=c.nf
 exact Nx h () (c.rk [0] [])
 refine wp_exit (te (te (be ?_)))
 obtain rfl:=hr1 _ (sk h)
 exact tn ⟨(),c.rk [0] []⟩
 refine P0 [] c fun _ c=>?_
 cases h
 exact wp_ret (Rt c () [0] [])
theorem ZdG {p0 p1 gn2 r} (h:Zab n p0 p1 = some r):Con prog 14 [.agg #[I p0.Op,I p0.W,I p0.N,Str.val p0.Name,.slice ga0 gn2 gc1],I p1] [OD (ownT 30) 30 (.slice ga0 gn2 gc1) p0.Kids] [] fun (_:Unit)=>([I r.1],[OD (ownT 30) 30 (.slice ga0 gn2 gc1) r.2.Kids],[]):=by
 unfold Zab at h
 refine En func14 rfl ntmps14 fun _ fr w c=>?_
 obtain ⟨rfl,c⟩:=c.releno 0
 refine T0 (Ebx (tC p0 ga0 gc1) c fun b1 _ _ c=>?_)
 refine Fp [] 1 c fun _ c=>E0 (T0 (Fp [(1,0)] 3 c fun _ c=>Bd h fun x1 hx1 h=>Ca [0] c (ZcW hx1) tt call40 fun _ _ _ c=>?_))
 refine Fp [] 1 c fun _ c=>E0 (P0 [] c fun _ c=>?_)
 cases h
 exact wp_ret (Rt c () [1] [])
theorem ZcU {p0 p1 gn2 r} (h:X7 n p0 p1 = some r):Con prog 15 [.slice ga0 gn2 gc1,I p1] [sl72 (.slice ga0 gn2 gc1) p0] [] fun (_:Unit)=>([I r.1],[sl72 (.slice ga0 gn2 gc1) r.2],[]):=by
 unfold X7 at h
 refine En func15 rfl ntmps15 fun _ fr w c=>?_
 obtain ⟨rfl,c⟩:=c.relen 0
 refine P0 [] c fun _ c=>S0 (P0 [] c fun _ c=>Bd h fun rl1 hit1 h=>Lp (fun s1  (_:Unit)=>([(0,L ga0 p0 gc1),(1,I s1.1),(5,I s1.2.1)],fun Γ=>Γ.set 0 (sl72 (L ga0 p0 gc1) s1.q2),[])) (fun  (_:Unit)=>([(1,I rl1.1)],fun Γ=>Γ.set 0 (sl72 (L ga0 p0 gc1) rl1.2),[])) hit1 c () (c.rk [0] []) (fun s1 q1 _ _ _ c h hr1=>?_) fun _ _ _ c=>?_)
 refine S0 (P0 [] c fun _ c=>I0 c h (fun h=>?_) fun h=>?_)
 refine K0 (S0 (wp_block (T0 (Fp [] 3 c fun _ c=>Bd h fun x1 hx1 h=>Cb c (Za4 hx1) tt call41 fun _ _ _ c=>?_))))
 refine Bd h fun x2 hx2 h=>Bd h fun x3 hx3 h=>Esf 0 (Str.val x1) c hx2 hx3 fun _ _ _ _ c=>?_
 refine E0 (P0 [] c fun _ c=>T0 (Fp [] 3 c fun _ c=>Bd h fun x4 hx4 h=>Bd h fun x5 hx5 h=>Esf 0 (I (w64 (s1.1 + 1))) c hx4 hx5 fun _ _ _ _ c=>?_))
 refine E0 (P0 [] c fun _ c=>T0 (Fp [] 3 c fun _ c=>Bd h fun x6 hx6 h=>Bd h fun x7 hx7 h=>Esf 0 (I (w64 ((w64 (s1.1 + 1)) + 1))) c hx6 hx7 fun _ _ _ _ c=>?_))
 refine E0 (Tq (P1 [] c fun _ c=>bk (tn (P1 [] c fun _ c=>Nx h () (c.rk [0] [])))))
 refine wp_exit (te (te (be ?_)))
 obtain rfl:=hr1 _ (sk h)
 exact tn ⟨(),c.rk [0] []⟩
 refine P0 [] c fun _ c=>?_
 cases h
 exact wp_ret (Rt c () [0] [])
theorem Zbk {p0 p1 r} (h:Xc n p0 p1 = some r):C0 16 [L ga0 p0 gc1,I p1] [lR ga0 p0 gc1] (I r):=by
 unfold Xc at h
 refine En func16 rfl ntmps16 fun _ fr w c=>?_
 refine P0 [] c fun _ c=>S0 (P0 [] c fun _ c=>Bd h fun rl1 hit1 h=>?_)
 have hk1:=h
 refine LpR (fun s1  (_:Unit)=>([(0,L ga0 p0 gc1),(1,I s1.1),(5,I s1.2)],id,[])) (fun s  (_:Unit)=>([(1,I s)],id,[])) hit1 c () (c.rk [] [0]) (fun s1 q1 _ _ _ c h hr1=>?_) fun s1r _ _ _ hrl c=>?_
 refine S0 (P0 [] c fun _ c=>I0 c h (fun h=>?_) fun h=>?_)
 refine K0 (S0 (wp_block (S0 (Bd h fun x1 hx1 h=>Bd h fun x2 hx2 h=>S0 (rZ [(2,Pd.el (x1:D.Value)),(3,Pd.fl (Str.val x1.Name)),(4,.eq (Str.val x1.Name)),(6,.eq (Str.val x2))] [] mix c ⟨Nid c (.f 0) (kN hx1),Nfa c 2 (atN 2) ZhO,Nlf c 3 (atN 3),Ncl c (kN (Za4 hx2)) tt call41,tt⟩ fun _ _ c=>I0 c h (fun h=>?_) fun h=>?_)))))
 refine P0 [] c fun _ c=>?_
 obtain rfl:=hr1 _ (sk h)
 obtain rfl:=sj hk1
 exact wp_ret (tr (br (tr (tr (br (tr (Rt c () [] [])))))))
 refine K0 (P0 [] c fun _ c=>S0 (T0 (Fp [] 2 c fun _ c=>Bd h fun x3 hx3 h=>Eef c (.f 0) hx3 Zis fun _ _ _ c=>?_)))
 refine Fp [] 2 c fun _ c=>E0 (I0 c h (fun h=>?_) fun h=>?_)
 refine P0 [] c fun _ c=>?_
 obtain rfl:=hr1 _ (sk h)
 obtain rfl:=sj hk1
 exact wp_ret (tr (br (tr (tr (br (tr (Rt c () [] [])))))))
 refine K0 (P0 [] c fun _ c=>S0 (T0 (Fp [] 2 c fun _ c=>Bd h fun x4 hx4 h=>Eef c (.f 0) hx4 Zlf fun _ _ _ c=>?_)))
 refine Fp [] 2 c fun _ c=>E0 (I0 c h (fun h=>?_) fun h=>?_)
 refine P0 [] c fun _ c=>?_
 obtain rfl:=hr1 _ (sk h)
 obtain rfl:=sj hk1
 exact wp_ret (tr (br (tr (tr (br (tr (Rt c () [] [])))))))
 refine K0 (Tq (P1 [] c fun _ c=>bk (tn (P1 [] c fun _ c=>Nx h () (c.rk [] [0])))))
 refine wp_exit (te (te (be ?_)))
 obtain rfl:=hr1 _ (sk h)
 exact tn ⟨_,(),rfl,c.rk [] [0]⟩
 subst hrl
 exact P0 [] c fun _ c=>rE
theorem Zby {p0 p1 r} (h:YZ n p0 p1 = some r):C0 5 [tV p0 ga0 gc1,I p1] [lR ga0 p0.Kids gc1] (.bool r):=by
 unfold YZ at h
 refine En func5 rfl ntmps5 fun _ fr w c=>?_
 refine T0 (Ebx (tC p0 ga0 gc1) c fun b1 _ _ c=>?_)
 refine Fp [] 1 c fun _ c=>E0 (P0 [] c fun _ c=>T0 (Fp [(0,0)] 2 c fun _ c=>Bd h fun x1 hx1 h=>Cb c (Zfd hx1) ⟨.f 0,tt⟩ call6 fun _ _ _ c=>?_))
 refine Fp [] 1 c fun _ c=>E0 (S0 (P0 [] c fun _ c=>I0 c h (fun h=>P0 [] c fun _ c=>rE) fun h=>?_))
 replace c:=c.ng
 refine K0 (T0 (Fp [(0,0)] 1 c fun _ c=>Bd h fun x2 hx2 h=>Cb c (Zao hx2) ⟨.f 0,tt⟩ call8 fun i1 _ _ c=>?_))
 replace c:=c.ng
 refine Fp [] 1 c fun _ c=>Bd h fun x3 hx3 h=>Cb c (Zdc hx3) ⟨.go (Ze4 30) 1,tt⟩ call17 fun i2 _ _ c=>?_
 replace c:=c.ng
 refine Fp [] 5 c fun _ c=>E0 (T0 (Fp [(0,0)] 1 c fun _ c=>Bd h fun x4 hx4 h=>Cb c (Zao hx4) ⟨.f 0,tt⟩ call8 fun i3 _ _ c=>?_))
 replace c:=c.ng
 refine Eal tZ c fun b2 _ _ c=>?_
 refine Ess 4 (tC x4 i3.1 i3.2) c fun _ c=>?_
 replace c:=c.ng
 refine E0 (T0 (Fp [(0,1)] 2 c fun _ c=>Bd h fun x5 hx5 h=>Cb c (Zbt hx5) ⟨.go (Ze4 30) 3,tt⟩ call18 fun i4 _ _ c=>?_))
 replace c:=c.ng
 refine Fp [] 5 c fun _ c=>E0 (S0 (Bd h fun x6 hx6 h=>S0 (rZ [(6,.eq (.bool x6))] [] mix c ⟨Ncl c (fun hg=>Za0 (iteF (gcF hg) hx6)) ⟨.g 5,.g 2,tt⟩ call13,tt⟩ fun _ _ c=>I0 c h (fun h=>?_) fun h=>?_)))
 exact P0 [] c fun _ c=>rE
 replace c:=c.ng
 refine K0 (S0 (Bd h fun x7 hx7 h=>Bd h fun x8 hx8 h=>S0 (Jn (fun _:Unit=>([(1,I p1),(2,B b1 0),(6,I x3.1),(7,L i2.1 x3.2 i2.2),(8,B b2 0),(9,I x5.1),(10,L i4.1 x5.2 i4.2),(49,.bool (!x8))],id,[])) c ?_ fun _ _ _ c=>?_)))
 refine As mix c fun _ c=>?_
 replace c:=Cx.frs [(1,I p1),(2,B b1 0),(6,I x3.1),(7,L i2.1 x3.2 i2.2),(8,B b2 0),(9,I x5.1),(10,L i4.1 x5.2 i4.2)] c
 refine Dq (fun _:Unit=>([(1,I p1),(2,B b1 0),(6,I x3.1),(7,L i2.1 x3.2 i2.2),(8,B b2 0),(9,I x5.1),(10,L i4.1 x5.2 i4.2),(48,.bool x8)],id,[])) (bN 5 15) (fun _=>[(4,49,.bool (!x8))]) c (fun _=>?_) fun hd2=>?_
 refine qnE ⟨qP [],tt⟩ fun _ _ c=>?_
 exact nN () (c.rk (rg 6) [0])
 refine Dq (fun i:Oh=>([(1,I p1),(2,B b1 0),(6,I x3.1),(7,L i2.1 x3.2 i2.2),(8,B b2 0),(9,I x5.1),(10,L i4.1 x5.2 i4.2),(47,tV x7 i.1 i.2)],fun Γ=>Γ ++ [OD (ownT 30) 30 (L i.1 x7.Kids i.2) x7.Kids],[])) (bN 5 6) (fun i=>[(0,45,tV x4 i3.1 i3.2)]) c (fun i6=>?_) fun hd1=>?_
 obtain ⟨a1,c1⟩:=i6
 refine qn [3] ⟨qP [(0,1)],tt⟩ ⟨fun _ _ c=>?_,tt⟩
 refine X8 _ rfl rfl ?_
 replace c:=c.ng
 refine Cb c (ZeI hx8) ⟨.go (Ze4 30) 3,.go (Ze4 30) 6,tt⟩ call10 fun _ _ _ c=>?_
 refine E0 (nQ hd2 () (c.rk (rg 6) [0]))
 refine q0 (qs:=[(0,45,tV x4 i3.1 i3.2),(1,46,tV p0 ga0 gc1)]) c (qn [2] ⟨qP [(0,1)],qP [(0,0)],tt⟩ ⟨fun _ _ c=>?_,tt⟩)
 refine X8 _ rfl rfl ?_
 replace c:=c.ng
 refine Cb c (Zao hx7) ⟨.f 0,tt⟩ call8 fun i5 _ _ c=>?_
 refine E0 (nQ hd1 (i5.1,i5.2) (c.rk (rg 7) [0]))
 refine I0 c h (fun h=>P0 [] c fun _ c=>rE) fun h=>?_
 replace c:=c.ng
 refine K0 (P0 [] c fun _ c=>T0 (Fp [(0,1)] 2 c fun _ c=>Bd h fun x9 hx9 h=>Ca [3] c (ZdG hx9) tt call14 fun _ _ _ c=>?_))
 replace c:=c.ng
 refine Fp [] 1 c fun _ c=>E0 (S0 (Bd h fun x10 hx10 h=>S0 (rZ [(10,.eq (.bool x10))] [] mix c ⟨Ncl c (fun hg=>Za0 (iteF (gcF hg) hx10)) ⟨.g 4,.g 2,tt⟩ call13,tt⟩ fun _ _ c=>I0 c h (fun h=>?_) fun h=>?_)))
 exact P0 [] c fun _ c=>rE
 replace c:=c.ng
 refine K0 (P0 [] c fun _ c=>T0 (Fp [] 2 c fun _ c=>Bd h fun x11 hx11 h=>Ca [4] c (ZcU hx11) tt call15 fun _ _ _ c=>?_))
 refine Fp [] 1 c fun _ c=>E0 (P0 [] c fun _ c=>T0 (Fp [] 2 c fun _ c=>?_))
 obtain ⟨he1,c⟩:=c.relen 5
 replace c:=c.eqs (v:=L i4.1 x5.2 i4.2) (u:=L i4.1 x11.2 i4.2) 10 (by simp only [L,he1])
 replace c:=c.eqs (v:=L i4.1 x5.2 i4.2) (u:=L i4.1 x11.2 i4.2) 69 (by simp only [L,he1])
 replace c:=c.ng
 refine Bd h fun x12 hx12 h=>Cb c (Zbk hx12) ⟨.g 5,tt⟩ call16 fun _ _ _ c=>?_
 refine Fp [] 1 c fun _ c=>E0 (S0 (P0 [] c fun _ c=>I0 c h (fun h=>P0 [] c fun _ c=>rE) fun h=>?_))
 refine K0 (S0 (P0 [] c fun _ c=>I0 c h (fun h=>P0 [] c fun _ c=>rE) fun h=>?_))
 refine K0 (T0 (Fp [(0,0)] 1 c fun _ c=>?_))
 replace c:=c.ng
 refine Bd h fun x13 hx13 h=>Cb c (Zao hx13) ⟨.f 0,tt⟩ call8 fun i7 _ _ c=>?_
 replace c:=c.ng
 refine Fp [] 1 c fun _ c=>Bd h fun x14 hx14 h=>Cb c (Zbt hx14) ⟨.go (Ze4 30) 6,tt⟩ call18 fun i8 _ _ c=>?_
 replace c:=c.ng
 refine Fp [] 5 c fun _ c=>E0 (S0 (Bd h fun x15 hx15 h=>S0 (rZ [(6,.eq (.bool x15))] [] mix c ⟨Ncl c (fun hg=>Za0 (iteF (gcF hg) hx15)) ⟨.g 7,.g 2,tt⟩ call13,tt⟩ fun _ _ c=>I0 c h (fun h=>?_) fun h=>?_)))
 exact P0 [] c fun _ c=>rE
 replace c:=c.ng
 refine K0 (P0 [] c fun _ c=>T0 (Fp [] 2 c fun _ c=>Bd h fun x16 hx16 h=>Cb c (Zbk hx16) ⟨.g 5,tt⟩ call16 fun _ _ _ c=>?_))
 exact Fp [] 1 c fun _ c=>E0 (S0 (P0 [] c fun _ c=>I0 c h (fun h=>P0 [] c fun _ c=>rE) fun h=>K0 (S0 (P0 [] c fun _ c=>I0 c h (fun h=>P0 [] c fun _ c=>rE) fun h=>K0 (P0 [] c fun _ c=>rE)))))
end Go.Proofs.YtgpcokpcbjloiaaGreat
