/- The walks, printed by a program. -/
import Derived.Test.YthbfkjiiibfomaaGreatDoorWlkB
set_option linter.unusedVariables false
set_option linter.unusedSimpArgs false
set_option maxRecDepth 100000
set_option maxHeartbeats 40000000
namespace Go.Proofs.YthbfkjiiibfomaaGreatDoor
open Go.GL Go.Maps Go.WideMaps Tryz
variable {n:Nat} {ga0 ga2 ga4 ga6 ga8 ga10 ga12 ga14 ga16 ga18 ga20 ga22:Option Addr} {gc1 gc3 gc5 gc7 gc9 gc11 gc13 gc15 gc17 gc19 gc21 gc23:Nat}
theorem Zfa {p0 p1 p2 r} (h:Zbn n p0 p1 p2 = some r):Con prog 120 [gV p0 ga0 gc1,pV p1 ga2 gc3 ga4 gc5 ga6 gc7 ga8 gc9 ga10 gc11 ga12 gc13,tV p2 ga14 gc15] [] [lR ga0 p0.Code gc1,lR ga4 p1.Mem gc5,lR ga14 p2.Kids gc15] fun (i:Oh)=>([tV r.1 i.1 i.2,.bool r.2],[],[lR i.1 r.1.Kids i.2]):=by
 unfold Zbn at h
 refine En func120 rfl ntmps120 fun _ fr w c=>?_
 refine T0 (Ebx (gC p0 ga0 gc1) c fun b1 _ _ c=>?_)
 refine Ebx (pC p1 ga2 gc3 ga4 gc5 ga6 gc7 ga8 gc9 ga10 gc11 ga12 gc13) c fun b2 _ _ c=>?_
 refine Ebx (tC p2 ga14 gc15) c fun b3 _ _ c=>?_
 refine Eal tZ c fun b4 _ _ c=>?_
 refine Fp [] 1 c fun _ c=>E0 (S0 (T0 (Fp [(0,2)] 1 c fun _ c=>Bd h fun x1 hx1 h=>Cb c (YJ hx1) ⟨.f 2,tt⟩ call96 fun _ _ _ c=>?_)))
 refine E0 (I0 c h (fun h=>?_) fun h=>?_)
 refine T0 (Fp [(1,1),(3,2)] 4 c fun _ c=>?_)
 replace c:=c.ng
 refine Bd h fun x2 hx2 h=>Eem c (.f 1) hx2 fun _ u1 _ c=>?_
 obtain ⟨a1,c1,rfl,c⟩:=c.o_Term 3
 refine Ess 3 (tC x2 a1 c1) c fun _ c=>?_
 refine Fp [] 1 c fun _ c=>E0 ?_
 cases h
 exact wp_ret (tr (Rg c (a1,c1) [] [4] (.cell (α:=Agg 4) kk (.b 3) (.tmp .nil))))
 refine K0 (T0 (Fp [(1,1),(3,0)] 5 c fun _ c=>?_))
 replace c:=c.ng
 refine Bd h fun x3 hx3 h=>Eem c (.f 1) hx3 fun _ u2 _ c=>?_
 obtain ⟨a2,c2,rfl,c⟩:=c.o_Term 3
 refine Eal tZ c fun b5 _ _ c=>?_
 refine Ess 4 (tC x3 a2 c2) c fun _ c=>?_
 refine E0 (S0 (P0 [(1,0)] c fun _ c=>Bd h fun rl1 hit1 h=>?_))
 have hk1:=h
 refine LpR (fun s1  (i:Oh)=>([(3,B b1 0),(4,B b2 0),(5,B b3 0),(6,B b4 0),(8,B b5 0),(9,I s1.1)],fun Γ=>Γ.set 4 (BX b5 62 [I s1.2.1,I s1.p2,I s1.p3,Str.val s1.p4,L i.1 s1.q5 i.2]),[lR i.1 s1.q5 i.2])) (fun s  (i:Oh)=>([(6,B b4 0),(8,B b5 0)],fun Γ=>Γ.set 4 (BX b5 62 [I s.1,I s.2.1,I s.p2,Str.val s.p3,L i.1 s.q4 i.2]),[lR i.1 s.q4 i.2])) hit1 c (a2,c2) (c.rk (rg 5) [0,1,2,3,4,4]) (fun s1 q1 i1 _ _ c h hr1=>?_) fun s1r k1 _ _ hrl c=>?_
 refine S0 (P0 [] c fun _ c=>I0 c h (fun h=>?_) fun h=>?_)
 refine K0 (S0 (wp_block (Bd h fun x4 hx4 h=>?_)))
 obtain ⟨ep1,u3,c⟩:=c.elp (.f 1) hx4
 obtain ⟨a3,c3,rfl,c⟩:=c.o_Term 7
 refine Bd h fun x5 hx5 h=>S0 (Jn (fun i:Nat × Oh=>([(3,B b1 0),(4,B b2 0),(5,B b3 0),(6,B b4 0),(8,B b5 0),(9,I s1.1),(10,B i.1 0),(11,.bool x5.2)],fun Γ=>Γ ++ [BX i.1 62 (tC x5.1 i.2.1 i.q2)],[lR i.2.1 x5.1.Kids i.q2])) c ?_ fun i7 _ _ c=>?_)
 refine As mix c fun _ c=>?_
 replace c:=Cx.frs [(3,B b1 0),(4,B b2 0),(5,B b3 0),(6,B b4 0),(8,B b5 0),(9,I s1.1)] c
 refine Dq (fun i:Nat × Oh=>([(3,B b1 0),(4,B b2 0),(5,B b3 0),(6,B b4 0),(8,B b5 0),(9,I s1.1),(10,B i.1 0),(34,.tuple #[tV x5.1 i.2.1 i.q2,.bool x5.2])],fun Γ=>Γ ++ [BX i.1 62 (tC x5.1 i.2.1 i.q2)],[lR i.2.1 x5.1.Kids i.q2])) (bN 16 28671) (fun i=>[(12,46,.bool x5.2),(15,11,.bool x5.2)]) c (fun i6=>?_) fun hd4=>?_
 obtain ⟨b10,a6,c6⟩:=i6
 refine qnE ⟨qP [],qP [],tt⟩ fun _ _ c=>?_
 exact nN (b10,a6,c6) (c.rk (rg 6) (rg 10))
 refine Dq (fun i:Nat × Oh=>([(3,B b1 0),(4,B b2 0),(5,B b3 0),(6,B b4 0),(8,B b5 0),(9,I s1.1),(10,B i.1 0),(44,.tuple #[tV x5.1 i.2.1 i.q2,.bool x5.2])],fun Γ=>Γ ++ [BX i.1 62 tZ],[lR i.2.1 x5.1.Kids i.q2])) (bN 16 9215) (fun i=>[(10,34,.tuple #[tV x5.1 i.2.1 i.q2,.bool x5.2]),(11,45,tV x5.1 i.2.1 i.q2),(12,46,.bool x5.2)]) c (fun i4=>?_) fun hd3=>?_
 obtain ⟨b9,a5,c5⟩:=i4
 refine qn [14] ⟨qP [],qP [],qP [],tt⟩ ⟨fun _ _ c=>?_,tt⟩
 refine Zf _ rfl rfl ?_
 refine Ess 5 (tC x5.1 a5 c5) c fun _ c=>?_
 refine E0 (nQ hd4 (b9,a5,c5) (c.rk (rg 6) (rg 10)))
 refine Dq (fun i:Oh=>([(3,B b1 0),(4,B b2 0),(5,B b3 0),(6,B b4 0),(8,B b5 0),(9,I s1.1),(44,.tuple #[tV x5.1 i.1 i.2,.bool x5.2])],id,[lR i.1 x5.1.Kids i.2])) (bN 16 1023) (fun i=>[(10,34,.tuple #[tV x5.1 i.1 i.2,.bool x5.2]),(11,45,tV x5.1 i.1 i.2),(12,46,.bool x5.2)]) c (fun i3=>?_) fun hd1=>?_
 obtain ⟨a4,c4⟩:=i3
 refine qn [13] ⟨qP [],qP [],qP [],tt⟩ ⟨fun _ _ c=>?_,tt⟩
 refine Zf _ rfl rfl ?_
 refine Eal tZ c fun b8 _ _ c=>?_
 refine E0 (nQ hd3 (b8,a4,c4) (c.rk (rg 6) (rg 10)))
 refine Dq (fun i:Nat=>([(3,B b1 0),(4,B b2 0),(5,B b3 0),(6,B b4 0),(8,B b5 0),(9,I s1.1),(10,B i 0)],fun Γ=>Γ ++ [BX i 62 tZ],[])) (bN 16 8192) (fun i=>[(0,35,gV p0 ga0 gc1),(1,36,I s1.1),(2,37,tV p2 ga14 gc15),(3,38,B b2 2),(4,39,L ga4 p1.Mem gc5),(5,40,I s1.1),(6,41,.pointer (some ep1)),(7,42,tV x4 a3 c3),(8,43,.agg #[I s1.2.1,I s1.p2,I s1.p3,Str.val s1.p4,L i1.1 s1.q5 i1.2])]) c (fun b7=>?_) fun hd2=>?_
 refine qn [9] ⟨qP [(0,0)],qP [],qP [(0,2)],qP [],qP [(0,1)],qP [],qI 6,qL 6,qP [(0,4)],tt⟩ ⟨fun _ _ c=>?_,tt⟩
 refine Zf _ rfl rfl ?_
 refine Cg c (ZaQ hx5) ⟨.f 0,.f 2,.f 8,.f 5,tt⟩ call137 fun i5 _ _ c=>?_
 refine E0 (nQ hd3 (b7,i5.1,i5.2) (c.rk (rg 6) (rg 10)))
 refine q0 (qs:=[(0,35,gV p0 ga0 gc1),(1,36,I s1.1),(2,37,tV p2 ga14 gc15),(3,38,B b2 2),(4,39,L ga4 p1.Mem gc5),(5,40,I s1.1),(6,41,.pointer (some ep1)),(7,42,tV x4 a3 c3),(8,43,.agg #[I s1.2.1,I s1.p2,I s1.p3,Str.val s1.p4,L i1.1 s1.q5 i1.2])]) c (qn [9,13] ⟨qP [(0,0)],qP [],qP [(0,2)],qP [],qP [(0,1)],qP [],qI 6,qL 6,qP [(0,4)],tt⟩ ⟨fun _ _ c=>?_,fun _ _ c=>?_,tt⟩)
 refine Zf _ rfl rfl ?_
 refine Cg c (ZaQ hx5) ⟨.f 0,.f 2,.f 8,.f 5,tt⟩ call137 fun i2 _ _ c=>?_
 refine E0 (nQ hd1 (i2.1,i2.2) (c.rk (rg 5) (rg 10)))
 refine Zf _ rfl rfl ?_
 refine Eal tZ c fun b6 _ _ c=>?_
 refine E0 (nQ hd2 (b6) (c.rk (rg 6) (rg 9)))
 obtain ⟨b11,a7,c7⟩:=i7
 refine S0 (P0 [] c fun _ c=>I0 c h (fun h=>?_) fun h=>?_)
 refine T0 (Fp [] 1 c fun _ c=>Ess 3 tZ c fun _ c=>?_)
 refine Fp [] 1 c fun _ c=>E0 ?_
 obtain rfl:=hr1 _ (sk h)
 obtain rfl:=sj hk1
 replace c:=c.nilf (α:=D.Term)
 exact wp_ret (tr (br (tr (tr (br (tr (Rg c (none,0) [] [10] (.cell (α:=Agg 4) kk (.b 3) (.tmp .nil)))))))))
 refine K0 (T1 (Fp [(0,5)] 1 c fun _ c=>Ess 4 (tC x5.1 a7 c7) c fun _ c=>?_))
 refine E1 (bk (tn (P1 [] c fun _ c=>Nx h (a7,c7) (c.rk (rg 5) [0,1,2,3,4,9]))))
 refine wp_exit (te (te (be ?_)))
 obtain rfl:=hr1 _ (sk h)
 exact tn ⟨_,(i1.1,i1.2),rfl,c.rk (rg 5) (rg 6)⟩
 subst hrl
 refine T0 (Fp [(0,4)] 1 c fun _ c=>Ess 3 [I s1r.1,I s1r.2.1,I s1r.p2,Str.val s1r.p3,L k1.1 s1r.q4 k1.2] c fun _ c=>?_)
 refine Fp [] 1 c fun _ c=>E0 ?_
 cases h
 exact wp_ret (Rg c (k1.1,k1.2) [] [5] (.cell (α:=Agg 4) kk (.b 3) (.tmp .nil)))
theorem Zf5 {p0 p1 p2 p3 r} (h:Zbs n p0 p1 p2 p3 = some r):Con prog 121 [gV p0 ga0 gc1,pV p1 ga2 gc3 ga4 gc5 ga6 gc7 ga8 gc9 ga10 gc11 ga12 gc13,tV p2 ga14 gc15,tV p3 ga16 gc17] [] [lR ga0 p0.Code gc1,lR ga4 p1.Mem gc5,lR ga14 p2.Kids gc15,lR ga16 p3.Kids gc17] fun (i:Oh)=>([L i.1 r.1 i.2,.bool r.2],[],[lR i.1 r.1 i.2]):=by
 unfold Zbs at h
 refine En func121 rfl ntmps121 fun _ fr w c=>?_
 refine T0 (Ebx (gC p0 ga0 gc1) c fun b1 _ _ c=>?_)
 refine Ebx (pC p1 ga2 gc3 ga4 gc5 ga6 gc7 ga8 gc9 ga10 gc11 ga12 gc13) c fun b2 _ _ c=>?_
 refine Ebx (tC p2 ga14 gc15) c fun b3 _ _ c=>?_
 refine Ebx (tC p3 ga16 gc17) c fun b4 _ _ c=>?_
 refine Fp [] 2 c fun _ c=>E0 (S0 (T0 (Fp [(0,2)] 1 c fun _ c=>Bd h fun x1 hx1 h=>Cb c (YJ hx1) ⟨.f 2,tt⟩ call96 fun _ _ _ c=>?_)))
 refine E0 (I0 c h (fun h=>?_) fun h=>?_)
 refine T0 (Fp [(1,1),(3,2),(4,3)] 5 c fun _ c=>?_)
 replace c:=c.ng
 refine Bd h fun x2 hx2 h=>Cg c (Zaf hx2) ⟨.f 1,.f 3,tt⟩ call117 fun i1 _ _ c=>?_
 refine Fp [] 2 c fun _ c=>E0 ?_
 cases h
 exact wp_ret (tr (Rg c (i1.1,i1.2) [] [4] (.tmp (.tmp .nil))))
 refine K0 (T0 (Fp [(1,0)] 2 c fun _ c=>?_))
 replace c:=c.ng
 refine Bd h fun x3 hx3 h=>Emkr 62 (⟨0,0,0,⟨[]⟩,⟨none,0,0⟩⟩ : Rw.Term) (fun w F=>ZlK w F) c hx3 fun a1 c1 _ _ c=>?_
 refine Fp [] 1 c fun _ c=>E0 (S0 (P0 [] c fun _ c=>Bd h fun rl1 hit1 h=>?_))
 have hk1:=h
 refine LpR (fun s1  (i:List Rw.Term)=>([(4,B b1 0),(5,B b2 0),(6,B b3 0),(7,B b4 0),(10,L a1 x3 c1),(26,I (len x3)),(27,I s1.1)],fun Γ=>Γ.set 4 (sl62 (L a1 x3 c1) (i)),[CS (i) s1.2])) (fun s  (i:List Rw.Term)=>([(10,L a1 x3 c1)],fun Γ=>Γ.set 4 (sl62 (L a1 x3 c1) (i)),[CS (i) s])) hit1 c ((List.replicate (List.length x3) (⟨0,0,0,⟨[]⟩,⟨none,0,0⟩⟩ : Rw.Term))) (c.rk (rg 5) [0,1,2,3,4,4]) (fun s1 q1 i2 _ _ c h hr1=>?_) fun s1r k1 _ _ hrl c=>?_
 refine P0 [] c fun _ c=>S0 (I0 c h (fun h=>?_) fun h=>?_)
 refine K0 (S0 (wp_block (P0 [] c fun _ c=>Bd h fun x4 hx4 h=>?_)))
 obtain ⟨ep1,u1,c⟩:=c.elp (.f 1) hx4
 obtain ⟨a2,c2,rfl,c⟩:=c.o_Term 7
 refine Bd h fun x5 hx5 h=>S0 (Jn (fun i:Nat × Oh=>([(4,B b1 0),(5,B b2 0),(6,B b3 0),(7,B b4 0),(10,L a1 x3 c1),(11,I s1.1),(12,B i.1 0),(13,.bool x5.2),(26,I (len x3)),(27,I s1.1)],fun Γ=>Γ ++ [BX i.1 62 (tC x5.1 i.2.1 i.q2)],[lR i.2.1 x5.1.Kids i.q2])) c ?_ fun i8 _ _ c=>?_)
 refine As mix c fun _ c=>?_
 replace c:=Cx.frs [(4,B b1 0),(5,B b2 0),(6,B b3 0),(7,B b4 0),(10,L a1 x3 c1),(11,I s1.1),(26,I (len x3)),(27,I s1.1)] c
 refine Dq (fun i:Nat × Oh=>([(4,B b1 0),(5,B b2 0),(6,B b3 0),(7,B b4 0),(10,L a1 x3 c1),(11,I s1.1),(12,B i.1 0),(26,I (len x3)),(27,I s1.1),(30,.tuple #[tV x5.1 i.2.1 i.q2,.bool x5.2])],fun Γ=>Γ ++ [BX i.1 62 (tC x5.1 i.2.1 i.q2)],[lR i.2.1 x5.1.Kids i.q2])) (bN 16 28671) (fun i=>[(12,42,.bool x5.2),(15,13,.bool x5.2)]) c (fun i7=>?_) fun hd4=>?_
 obtain ⟨b9,a5,c5⟩:=i7
 refine qnE ⟨qP [],qP [],tt⟩ fun _ _ c=>?_
 exact nN (b9,a5,c5) (c.rk (rg 6) (rg 10))
 refine Dq (fun i:Nat × Oh=>([(4,B b1 0),(5,B b2 0),(6,B b3 0),(7,B b4 0),(10,L a1 x3 c1),(11,I s1.1),(12,B i.1 0),(26,I (len x3)),(27,I s1.1),(40,.tuple #[tV x5.1 i.2.1 i.q2,.bool x5.2])],fun Γ=>Γ ++ [BX i.1 62 tZ],[lR i.2.1 x5.1.Kids i.q2])) (bN 16 9215) (fun i=>[(10,30,.tuple #[tV x5.1 i.2.1 i.q2,.bool x5.2]),(11,41,tV x5.1 i.2.1 i.q2),(12,42,.bool x5.2)]) c (fun i5=>?_) fun hd3=>?_
 obtain ⟨b8,a4,c4⟩:=i5
 refine qn [14] ⟨qP [],qP [],qP [],tt⟩ ⟨fun _ _ c=>?_,tt⟩
 refine Zf _ rfl rfl ?_
 refine Ess 5 (tC x5.1 a4 c4) c fun _ c=>?_
 refine E0 (nQ hd4 (b8,a4,c4) (c.rk (rg 6) (rg 10)))
 refine Dq (fun i:Oh=>([(4,B b1 0),(5,B b2 0),(6,B b3 0),(7,B b4 0),(10,L a1 x3 c1),(11,I s1.1),(26,I (len x3)),(27,I s1.1),(40,.tuple #[tV x5.1 i.1 i.2,.bool x5.2])],id,[lR i.1 x5.1.Kids i.2])) (bN 16 1023) (fun i=>[(10,30,.tuple #[tV x5.1 i.1 i.2,.bool x5.2]),(11,41,tV x5.1 i.1 i.2),(12,42,.bool x5.2)]) c (fun i4=>?_) fun hd1=>?_
 obtain ⟨a3,c3⟩:=i4
 refine qn [13] ⟨qP [],qP [],qP [],tt⟩ ⟨fun _ _ c=>?_,tt⟩
 refine Zf _ rfl rfl ?_
 refine Eal tZ c fun b7 _ _ c=>?_
 refine E0 (nQ hd3 (b7,a3,c3) (c.rk (rg 6) (rg 10)))
 refine Dq (fun i:Nat=>([(4,B b1 0),(5,B b2 0),(6,B b3 0),(7,B b4 0),(10,L a1 x3 c1),(11,I s1.1),(12,B i 0),(26,I (len x3)),(27,I s1.1)],fun Γ=>Γ ++ [BX i 62 tZ],[])) (bN 16 8192) (fun i=>[(0,31,gV p0 ga0 gc1),(1,32,I s1.1),(2,33,tV p2 ga14 gc15),(3,34,tV p3 ga16 gc17),(4,35,B b2 2),(5,36,L ga4 p1.Mem gc5),(6,37,I s1.1),(7,38,.pointer (some ep1)),(8,39,tV x4 a2 c2)]) c (fun b6=>?_) fun hd2=>?_
 refine qn [9] ⟨qP [(0,0)],qP [],qP [(0,2)],qP [(0,3)],qP [],qP [(0,1)],qP [],qI 6,qL 6,tt⟩ ⟨fun _ _ c=>?_,tt⟩
 refine Zf _ rfl rfl ?_
 refine Cg c (ZaQ hx5) ⟨.f 0,.f 2,.f 3,.f 8,tt⟩ call137 fun i6 _ _ c=>?_
 refine E0 (nQ hd3 (b6,i6.1,i6.2) (c.rk (rg 6) (rg 10)))
 refine q0 (qs:=[(0,31,gV p0 ga0 gc1),(1,32,I s1.1),(2,33,tV p2 ga14 gc15),(3,34,tV p3 ga16 gc17),(4,35,B b2 2),(5,36,L ga4 p1.Mem gc5),(6,37,I s1.1),(7,38,.pointer (some ep1)),(8,39,tV x4 a2 c2)]) c (qn [9,13] ⟨qP [(0,0)],qP [],qP [(0,2)],qP [(0,3)],qP [],qP [(0,1)],qP [],qI 6,qL 6,tt⟩ ⟨fun _ _ c=>?_,fun _ _ c=>?_,tt⟩)
 refine Zf _ rfl rfl ?_
 refine Cg c (ZaQ hx5) ⟨.f 0,.f 2,.f 3,.f 8,tt⟩ call137 fun i3 _ _ c=>?_
 refine E0 (nQ hd1 (i3.1,i3.2) (c.rk (rg 5) (rg 10)))
 refine Zf _ rfl rfl ?_
 refine Eal tZ c fun b5 _ _ c=>?_
 refine E0 (nQ hd2 (b5) (c.rk (rg 6) (rg 9)))
 obtain ⟨b10,a6,c6⟩:=i8
 refine S0 (P0 [] c fun _ c=>I0 c h (fun h=>?_) fun h=>?_)
 refine P0 [] c fun _ c=>?_
 obtain rfl:=hr1 _ (sk h)
 obtain rfl:=sj hk1
 replace c:=c.nilf (α:=D.Term)
 exact wp_ret (tr (br (tr (tr (br (tr (Rg c (none,0) [] [10] (.tmp (.tmp .nil)))))))))
 refine K0 (T1 (Fp [(2,4)] 3 c fun _ c=>Bd h fun x6 hx6 h=>Esetr (q:=(tR x5.1 a6 c6)) 4 5 c ((Ava.mk_Term x5.1 (.f 9))) hx6 fun _ _ _ c=>?_))
 refine E1 (bk (tn (P1 [] c fun _ c=>Nx h ((List.set i2 (s1.1).toNat (tR x5.1 a6 c6))) (c.rk (rg 5) [0,1,2,3,4,10]))))
 refine wp_exit (te (te (be ?_)))
 obtain rfl:=hr1 _ (sk h)
 exact tn ⟨_,(i2),rfl,c.rk (rg 5) (rg 6)⟩
 subst hrl
 refine P0 [] c fun _ c=>?_
 obtain ⟨he1,c⟩:=c.relenr 4 5
 replace c:=c.eqs (v:=L a1 x3 c1) (u:=L a1 s1r c1) 8 (by simp only [L,he1])
 replace c:=c.fzr 4 5
 cases h
 exact wp_ret (Rg c (a1,c1) [] [6] (.tmp (.tmp .nil)))
theorem YE {p0 r} (h:ZE p0 = some r):Con prog 50 [L ga0 p0 gc1] [] [lR ga0 p0 gc1] fun (i:Oh)=>([L i.1 r i.2],[sl3 (L i.1 r i.2) r],[]):=by
 unfold ZE at h
 refine En func50 rfl ntmps50 fun _ fr w c=>?_
 refine P0 [] c fun _ c=>S0 (T0 (Fp [] 1 c fun _ c=>Ebin (vx:=L ga0 p0 gc1) (vy:=.slice none 0 0) c (ZfY _ _ _ _ _ _ _ _ _ _) (nil_eq Tryz.underlying25 ga0 _ gc1 _) fun _ c=>?_))
 refine E0 (If c (b:=(Option.isNone ga0)) (fun hb=>?_) fun hb=>?_)
 obtain ⟨_,hn⟩:=c.use (.f 0)
 replace h:=ZiL (Zku hn (ZnL.1 hb)) h
 refine P0 [] c fun _ c=>?_
 replace c:=c.nil (α:=Int) 3
 cases h
 exact wp_ret (tr (Rt c (none,0) [0] []))
 refine K0 (T0 (Elt 3 ([]:List Int) c fun a1 c1 _ _ c=>?_))
 refine Fp [] 1 c fun _ c=>Bd h fun x1 hx1 h=>Eap 0 c (.f 0) hx1 fun a2 c2 _ _ c=>?_
 refine Fp [] 1 c fun _ c=>E0 ?_
 obtain rfl:=sj h
 exact wp_ret (Rt c (a2,c2) [0] [])
theorem Zc4 {p0 p1 r} (h:Zbe p0 p1 = some r):Con prog 99 [L ga0 p0 gc1,I p1] [] [lR ga0 p0 gc1] fun (i:Oh)=>([L i.1 r i.2],[sl3 (L i.1 r i.2) r],[]):=by
 unfold Zbe at h
 refine En func99 rfl ntmps99 fun _ fr w c=>?_
 refine P0 [] c fun _ c=>T0 (Fp [] 1 c fun _ c=>Bd h fun x1 hx1 h=>Cb c (YE hx1) ⟨.f 0,tt⟩ call50 fun i1 _ _ c=>?_)
 refine Fp [] 1 c fun _ c=>Elt 3 ([p1]:List Int) c fun a1 c1 _ _ c=>?_
 refine Bd h fun x2 hx2 h=>Eap 0 c (.g 1) hx2 fun a2 c2 _ _ c=>?_
 refine Fp [] 1 c fun _ c=>E0 ?_
 obtain rfl:=sj h
 exact wp_ret (Rt c (a2,c2) [0] [])
theorem Zft {p0 p1 p2 r} (h:ZaF n p0 p1 p2 = some r):Con prog 95 [gV p0 ga0 gc1,pV p1 ga2 gc3 ga4 gc5 ga6 gc7 ga8 gc9 ga10 gc11 ga12 gc13,nV p2] [] [lR ga0 p0.Code gc1,lR ga2 p1.Regs gc3,lR ga4 p1.Mem gc5,lR ga6 p1.Stack gc7,lR ga8 p1.Out gc9,lR ga10 p1.Cond gc11,lR ga12 p1.Turns gc13,TBf prog] fun (i:Hp)=>([pJ r.1 i,.bool r.2],[],(pF r.1 i)):=by
 unfold ZaF at h
 refine En func95 rfl ntmps95 fun _ fr w c=>?_
 refine T0 (Ebx (gC p0 ga0 gc1) c fun b1 _ _ c=>?_)
 refine Ebx (pC p1 ga2 gc3 ga4 gc5 ga6 gc7 ga8 gc9 ga10 gc11 ga12 gc13) c fun b2 _ _ c=>?_
 refine Ebx (nC p2) c fun b3 _ _ c=>?_
 refine Eal pZ c fun b4 _ _ c=>?_
 refine Fp [] 1 c fun _ c=>E0 (P0 [] c fun _ c=>T0 (Eal tZ c fun b5 _ _ c=>?_))
 refine E0 (P0 [(1,1)] c fun _ c=>S0 (P0 [(1,2)] c fun _ c=>wp_block (P0 [] c fun _ c=>I0 c h (fun h=>?_) fun h=>?_)))
 refine Bd h fun x1 hx1 h=>YH mix (rM 9 [(8,.eq (.agg #[I x1.Op,I x1.W,I x1.N,Str.val x1.Name,L0]))] [(1,1),(3,2),(5,0),(7,2)] c (fun ow=>⟨ZG ow (Ncl c (kN (ZA hx1)) tt call74),tt⟩) fun _ _ _ _ _ c=>?_)
 replace c:=c.ng
 refine Bd h fun x2 hx2 h=>Cg c (Zaf hx2) ⟨.f 1,.nil,tt⟩ call117 fun i1 _ _ c=>?_
 refine Fp [] 1 c fun _ c=>Esb 1 1 (L i1.1 x2 i1.2) c fun _ c=>?_
 refine E1 (bk (tn (T0 (Fp [] 2 c fun _ c=>Esb 1 0 (I (w64 (p1.Pc + 1))) c fun _ c=>?_))))
 refine E0 (T0 (Fp [(0,1)] 2 c fun _ c=>Ess 3 [I (w64 (p1.Pc + 1)),L i1.1 x2 i1.2,L ga4 p1.Mem gc5,L ga6 p1.Stack gc7,I p1.In,L ga8 p1.Out gc9,I p1.Code,I p1.Steps,L ga10 p1.Cond gc11,L ga12 p1.Turns gc13] c fun _ c=>?_))
 refine Fp [] 1 c fun _ c=>E0 ?_
 cases h
 exact wp_ret (Rg c (i1.1,i1.2,ga4,gc5,ga6,gc7,ga8,gc9,ga10,gc11,ga12,gc13) [] [8,2,3,4,5,6] (.cell (α:=Agg 9) kk (.b 3) (.tmp .nil)))
 refine P0 [] c fun _ c=>I0 c h (fun h=>?_) fun h=>?_
 refine Bd h fun x3 hx3 h=>?_
 obtain ⟨ep1,u1,c⟩:=c.elp (.f 1) hx3
 obtain ⟨a1,c1,rfl,c⟩:=c.o_Term 9
 refine YH mix (rM 10 [(8,.eq (.pointer (some ep1))),(9,.eq (tV x3 a1 c1))] [(1,1),(3,2),(5,1),(7,2)] c (fun ow=>⟨ZG ow (Nie c 8),ZG ow (Nle c 8),tt⟩) fun _ _ _ _ _ c=>?_)
 replace c:=c.ng
 refine Bd h fun x4 hx4 h=>Cg c (Zaf hx4) ⟨.f 1,.f 10,tt⟩ call117 fun i2 _ _ c=>?_
 refine Fp [] 1 c fun _ c=>Esb 1 1 (L i2.1 x4 i2.2) c fun _ c=>?_
 refine E1 (bk (tn (T0 (Fp [] 2 c fun _ c=>Esb 1 0 (I (w64 (p1.Pc + 1))) c fun _ c=>?_))))
 refine E0 (T0 (Fp [(0,1)] 2 c fun _ c=>Ess 3 [I (w64 (p1.Pc + 1)),L i2.1 x4 i2.2,L ga4 p1.Mem gc5,L ga6 p1.Stack gc7,I p1.In,L ga8 p1.Out gc9,I p1.Code,I p1.Steps,L ga10 p1.Cond gc11,L ga12 p1.Turns gc13] c fun _ c=>?_))
 refine Fp [] 1 c fun _ c=>E0 ?_
 cases h
 exact wp_ret (Rg c (i2.1,i2.2,ga4,gc5,ga6,gc7,ga8,gc9,ga10,gc11,ga12,gc13) [] [11,2,3,4,5,6] (.cell (α:=Agg 9) kk (.b 3) (.tmp .nil)))
 refine P0 [] c fun _ c=>I0 c h (fun h=>?_) fun h=>?_
 refine Bd h fun x5 hx5 h=>?_
 obtain ⟨ep2,u2,c⟩:=c.elp (.f 1) hx5
 obtain ⟨a2,c2,rfl,c⟩:=c.o_Term 9
 refine Bd h fun x6 hx6 h=>?_
 obtain ⟨ep3,u3,c⟩:=c.elp (.f 1) hx6
 obtain ⟨a3,c3,rfl,c⟩:=c.o_Term 12
 refine Bd h fun x7 hx7 h=>S0 (Jn (fun i:Oh=>([(4,B b2 0),(5,B b3 0),(6,B b4 0),(8,.bool x7.2),(9,B b5 0),(10,I (w64 (p1.Pc + 1)))],fun Γ=>Γ.set 4 (BX b5 62 (tC x7.1 i.1 i.2)),[lR i.1 x7.1.Kids i.2])) c ?_ fun i6 _ _ c=>?_)
 refine As mix c fun _ c=>?_
 replace c:=Cx.frs [(3,B b1 0),(4,B b2 0),(5,B b3 0),(6,B b4 0),(9,B b5 0),(10,I (w64 (p1.Pc + 1)))] c
 refine Dq (fun i:Oh=>([(4,B b2 0),(5,B b3 0),(6,B b4 0),(9,B b5 0),(10,I (w64 (p1.Pc + 1))),(45,.tuple #[tV x7.1 i.1 i.2,.bool x7.2])],fun Γ=>Γ.set 4 (BX b5 62 (tC x7.1 i.1 i.2)),[lR i.1 x7.1.Kids i.2])) (bN 21 786431) (fun i=>[(18,63,.bool x7.2),(20,8,.bool x7.2)]) c (fun i5=>?_) fun hd2=>?_
 obtain ⟨a5,c5⟩:=i5
 refine qnE ⟨qP [],qP [],tt⟩ fun _ _ c=>?_
 exact nN (a5,c5) (c.rk (rg 5) (rg 15))
 refine Dq (fun i:Oh=>([(4,B b2 0),(5,B b3 0),(6,B b4 0),(9,B b5 0),(10,I (w64 (p1.Pc + 1))),(61,.tuple #[tV x7.1 i.1 i.2,.bool x7.2])],id,[lR i.1 x7.1.Kids i.2])) (bN 21 65535) (fun i=>[(16,45,.tuple #[tV x7.1 i.1 i.2,.bool x7.2]),(17,62,tV x7.1 i.1 i.2),(18,63,.bool x7.2)]) c (fun i4=>?_) fun hd1=>?_
 obtain ⟨a4,c4⟩:=i4
 refine qn [19] ⟨qP [],qP [],qP [],tt⟩ ⟨fun _ _ c=>?_,tt⟩
 refine Zf _ rfl rfl ?_
 try simp only [l3,l4,l5,l6] at c
 refine Ess 4 (tC x7.1 a4 c4) c fun _ c=>?_
 refine E0 (nQ hd2 (a4,c4) (c.rk (rg 5) (rg 15)))
 refine q0 (qs:=[(0,46,gV p0 ga0 gc1),(1,47,B b3 3),(2,48,I p2.C),(3,49,B b2 1),(4,50,L ga2 p1.Regs gc3),(5,51,B b3 1),(6,52,I p2.A),(7,53,.pointer (some ep2)),(8,54,tV x5 a2 c2),(9,55,B b2 1),(10,56,L ga2 p1.Regs gc3),(11,57,B b3 2),(12,58,I p2.B),(13,59,.pointer (some ep3)),(14,60,tV x6 a3 c3)]) c (qn [15] ⟨qP [(0,0)],qP [],qP [(0,2)],qP [],qP [(0,1)],qP [],qP [(0,2)],qI 8,qL 8,qP [],qP [(0,1)],qP [],qP [(0,2)],qI 11,qL 11,tt⟩ ⟨fun _ _ c=>?_,tt⟩)
 refine Zf _ rfl rfl ?_
 try simp only [l3,l4,l5,l6] at c
 replace c:=c.ng
 refine Cg c (Zeo hx7) ⟨.f 0,.f 10,.f 13,tt⟩ call118 fun i3 _ _ c=>?_
 refine E0 (nQ hd1 (i3.1,i3.2) (c.rk (rg 5) (rg 15)))
 obtain ⟨a6,c6⟩:=i6
 refine T1 (Fp [(1,1),(3,2),(4,4)] 5 c fun _ c=>Bd h fun x8 hx8 h=>Cg c (Zaf hx8) ⟨.f 1,.f 14,tt⟩ call117 fun i7 _ _ c=>?_)
 refine Fp [] 1 c fun _ c=>Esb 1 1 (L i7.1 x8 i7.2) c fun _ c=>?_
 refine E1 (bk (tn (T0 (Fp [] 2 c fun _ c=>Esb 1 0 (I (w64 (p1.Pc + 1))) c fun _ c=>?_))))
 refine E0 (T0 (Fp [(0,1)] 2 c fun _ c=>Ess 3 [I (w64 (p1.Pc + 1)),L i7.1 x8 i7.2,L ga4 p1.Mem gc5,L ga6 p1.Stack gc7,I p1.In,L ga8 p1.Out gc9,I p1.Code,I p1.Steps,L ga10 p1.Cond gc11,L ga12 p1.Turns gc13] c fun _ c=>?_))
 refine Fp [] 1 c fun _ c=>E0 ?_
 cases h
 exact wp_ret (Rg c (i7.1,i7.2,ga4,gc5,ga6,gc7,ga8,gc9,ga10,gc11,ga12,gc13) [] [15,2,3,4,5,6] (.cell (α:=Agg 9) kk (.b 3) (.tmp .nil)))
 refine P0 [] c fun _ c=>I0 c h (fun h=>?_) fun h=>?_
 refine Bd h fun x9 hx9 h=>?_
 obtain ⟨ep4,u4,c⟩:=c.elp (.f 1) hx9
 obtain ⟨a7,c7,rfl,c⟩:=c.o_Term 9
 refine Bd h fun x10 hx10 h=>S0 (Jn (fun i:Oh=>([(4,B b2 0),(5,B b3 0),(6,B b4 0),(8,.bool x10.2),(9,B b5 0),(10,I (w64 (p1.Pc + 1)))],fun Γ=>Γ.set 4 (BX b5 62 (tC x10.1 i.1 i.2)),[lR i.1 x10.1.Kids i.2])) c ?_ fun i12 _ _ c=>?_)
 refine As mix c fun _ c=>?_
 replace c:=Cx.frs [(3,B b1 0),(4,B b2 0),(5,B b3 0),(6,B b4 0),(9,B b5 0),(10,I (w64 (p1.Pc + 1)))] c
 refine Dq (fun i:Oh=>([(4,B b2 0),(5,B b3 0),(6,B b4 0),(9,B b5 0),(10,I (w64 (p1.Pc + 1))),(73,.tuple #[tV x10.1 i.1 i.2,.bool x10.2])],fun Γ=>Γ.set 4 (BX b5 62 (tC x10.1 i.1 i.2)),[lR i.1 x10.1.Kids i.2])) (bN 15 12287) (fun i=>[(12,85,.bool x10.2),(14,8,.bool x10.2)]) c (fun i11=>?_) fun hd5=>?_
 obtain ⟨a11,c11⟩:=i11
 refine qnE ⟨qP [],qP [],tt⟩ fun _ _ c=>?_
 exact nN (a11,c11) (c.rk (rg 5) (rg 12))
 refine Dq (fun i:Oh=>([(4,B b2 0),(5,B b3 0),(6,B b4 0),(9,B b5 0),(10,I (w64 (p1.Pc + 1))),(83,.tuple #[tV x10.1 i.1 i.2,.bool x10.2])],id,[lR i.1 x10.1.Kids i.2])) (bN 15 1023) (fun i=>[(10,73,.tuple #[tV x10.1 i.1 i.2,.bool x10.2]),(11,84,tV x10.1 i.1 i.2),(12,85,.bool x10.2)]) c (fun i10=>?_) fun hd4=>?_
 obtain ⟨a10,c10⟩:=i10
 refine qn [13] ⟨qP [],qP [],qP [],tt⟩ ⟨fun _ _ c=>?_,tt⟩
 refine Zf _ rfl rfl ?_
 try simp only [l3,l4,l5,l6] at c
 refine Ess 4 (tC x10.1 a10 c10) c fun _ c=>?_
 refine E0 (nQ hd5 (a10,c10) (c.rk (rg 5) (rg 12)))
 refine Dq (fun i:Oh=>([(3,B b1 0),(4,B b2 0),(5,B b3 0),(6,B b4 0),(9,B b5 0),(10,I (w64 (p1.Pc + 1))),(82,L i.1 [x9] i.2)],fun Γ=>Γ ++ [sl62 (L i.1 [x9] i.2) [(tR x9 a7 c7)]],[CS [(tR x9 a7 c7)] [x9]])) (bN 15 508) (fun i=>[(0,74,B b1 0),(1,75,I p0.W)]) c (fun i8=>?_) fun hd3=>?_
 obtain ⟨a9,c9⟩:=i8
 refine qn [9] ⟨qP [],qP [(0,0)],tt⟩ ⟨fun _ _ c=>?_,tt⟩
 refine Zf _ rfl rfl ?_
 try simp only [l3,l4,l5,l6] at c
 replace c:=c.fzr 5 11
 refine Cg c (ZO hx10) ⟨.f 12,tt⟩ call97 fun i9 _ _ c=>?_
 refine E0 (nQ hd4 (i9.1,i9.2) (c.rk (rg 5) [0,1,2,3,4,5,6,7,8,9,10,13]))
 refine q0 (qs:=[(0,74,B b1 0),(1,75,I p0.W),(2,76,B b2 1),(3,77,L ga2 p1.Regs gc3),(4,78,B b3 1),(5,79,I p2.A),(6,80,.pointer (some ep4)),(7,81,tV x9 a7 c7)]) c (qn [8] ⟨qP [],qP [(0,0)],qP [],qP [(0,1)],qP [],qP [(0,2)],qI 8,qL 8,tt⟩ ⟨fun _ _ c=>?_,tt⟩)
 refine Zf _ rfl rfl ?_
 replace c:=c.nf
 refine Eltr 62 [(tR x9 a7 c7)] [x9] c ⟨(Ava.mk_Term x9 (.f 10)),tt⟩ fun a8 c8 _ _ c=>?_
 refine E0 (nQ hd3 (a8,c8) (c.rk (rg 6) (rg 12)))
 obtain ⟨a12,c12⟩:=i12
 refine T1 (Fp [(1,1),(3,2),(4,4)] 5 c fun _ c=>Bd h fun x11 hx11 h=>Cg c (Zaf hx11) ⟨.f 1,.f 11,tt⟩ call117 fun i13 _ _ c=>?_)
 refine Fp [] 1 c fun _ c=>Esb 1 1 (L i13.1 x11 i13.2) c fun _ c=>?_
 refine E1 (bk (tn (T0 (Fp [] 2 c fun _ c=>Esb 1 0 (I (w64 (p1.Pc + 1))) c fun _ c=>?_))))
 refine E0 (T0 (Fp [(0,1)] 2 c fun _ c=>Ess 3 [I (w64 (p1.Pc + 1)),L i13.1 x11 i13.2,L ga4 p1.Mem gc5,L ga6 p1.Stack gc7,I p1.In,L ga8 p1.Out gc9,I p1.Code,I p1.Steps,L ga10 p1.Cond gc11,L ga12 p1.Turns gc13] c fun _ c=>?_))
 refine Fp [] 1 c fun _ c=>E0 ?_
 cases h
 exact wp_ret (Rg c (i13.1,i13.2,ga4,gc5,ga6,gc7,ga8,gc9,ga10,gc11,ga12,gc13) [] [12,2,3,4,5,6] (.cell (α:=Agg 9) kk (.b 3) (.tmp .nil)))
 refine P0 [] c fun _ c=>I0 c h (fun h=>?_) fun h=>?_
 refine Bd h fun x12 hx12 h=>Bd h fun x13 hx13 h=>Bd h fun x14 hx14 h=>S0 (YH mix (rM 11 [(8,.eq (Str.val x12)),(9,.eq (Str.val x13)),(10,.eq (.agg #[I x14.Op,I x14.W,I x14.N,Str.val x14.Name,L0]))] [(1,1),(3,2),(5,0),(7,1)] c (fun ow=>⟨ZG ow (Ncl c (kN (Zcd hx12)) ⟨.f 7,tt⟩ call73),ZG ow (Ncat c (kN hx13)),ZG ow (Ncl c (kN (ZeG hx14)) tt call119),tt⟩) fun _ _ _ _ _ c=>?_))
 replace c:=c.nf
 refine Bd h fun x15 hx15 h=>Cg c (Zaf hx15) ⟨.f 1,.nil,tt⟩ call117 fun i14 _ _ c=>?_
 refine Fp [] 1 c fun _ c=>Esb 1 1 (L i14.1 x15 i14.2) c fun _ c=>?_
 refine E0 (T1 (Fp [(1,1)] 4 c fun _ c=>Esb 1 4 (I (w64 (p1.In + 1))) c fun _ c=>?_))
 refine E1 (bk (tn (T0 (Fp [] 2 c fun _ c=>Esb 1 0 (I (w64 (p1.Pc + 1))) c fun _ c=>?_))))
 refine E0 (T0 (Fp [(0,1)] 2 c fun _ c=>Ess 3 [I (w64 (p1.Pc + 1)),L i14.1 x15 i14.2,L ga4 p1.Mem gc5,L ga6 p1.Stack gc7,I (w64 (p1.In + 1)),L ga8 p1.Out gc9,I p1.Code,I p1.Steps,L ga10 p1.Cond gc11,L ga12 p1.Turns gc13] c fun _ c=>?_))
 refine Fp [] 1 c fun _ c=>E0 ?_
 cases h
 exact wp_ret (Rg c (i14.1,i14.2,ga4,gc5,ga6,gc7,ga8,gc9,ga10,gc11,ga12,gc13) [] [8,2,3,4,5,6] (.cell (α:=Agg 9) kk (.b 3) (.tmp .nil)))
 refine P0 [] c fun _ c=>I0 c h (fun h=>?_) fun h=>?_
 refine Bd h fun x16 hx16 h=>?_
 obtain ⟨ep5,u5,c⟩:=c.elp (.f 1) hx16
 obtain ⟨a13,c13,rfl,c⟩:=c.o_Term 9
 refine YH mix (rM 8 [(6,.eq (.pointer (some ep5))),(7,.eq (tV x16 a13 c13))] [(1,1),(3,1),(5,2)] c (fun ow=>⟨ZG ow (Nie c 8),ZG ow (Nle c 8),tt⟩) fun _ _ _ _ _ c=>?_)
 replace c:=c.nf
 refine Bd h fun x17 hx17 h=>Cg c (ZcB hx17) ⟨.f 4,.f 10,tt⟩ call98 fun i15 _ _ c=>?_
 refine Fp [] 1 c fun _ c=>Esb 1 5 (L i15.1 x17 i15.2) c fun _ c=>?_
 refine E1 (bk (tn (T0 (Fp [] 2 c fun _ c=>Esb 1 0 (I (w64 (p1.Pc + 1))) c fun _ c=>?_))))
 refine E0 (T0 (Fp [(0,1)] 2 c fun _ c=>Ess 3 [I (w64 (p1.Pc + 1)),L ga2 p1.Regs gc3,L ga4 p1.Mem gc5,L ga6 p1.Stack gc7,I p1.In,L i15.1 x17 i15.2,I p1.Code,I p1.Steps,L ga10 p1.Cond gc11,L ga12 p1.Turns gc13] c fun _ c=>?_))
 refine Fp [] 1 c fun _ c=>E0 ?_
 cases h
 exact wp_ret (Rg c (ga2,gc3,ga4,gc5,ga6,gc7,i15.1,i15.2,ga10,gc11,ga12,gc13) [] [1,2,3,11,5,6] (.cell (α:=Agg 9) kk (.b 3) (.tmp .nil)))
 refine P0 [] c fun _ c=>I0 c h (fun h=>?_) fun h=>?_
 refine Bd h fun x18 hx18 h=>?_
 obtain ⟨ep6,u6,c⟩:=c.elp (.f 1) hx18
 obtain ⟨a14,c14,rfl,c⟩:=c.o_Term 9
 refine Bd h fun x19 hx19 h=>S0 (Jn (fun i:Oh=>([(4,B b2 0),(5,B b3 0),(6,B b4 0),(8,.bool x19.2),(9,B b5 0),(10,I (w64 (p1.Pc + 1)))],fun Γ=>Γ.set 4 (BX b5 62 (tC x19.1 i.1 i.2)),[lR i.1 x19.1.Kids i.2])) c ?_ fun i19 _ _ c=>?_)
 refine As mix c fun _ c=>?_
 replace c:=Cx.frs [(3,B b1 0),(4,B b2 0),(5,B b3 0),(6,B b4 0),(9,B b5 0),(10,I (w64 (p1.Pc + 1)))] c
 refine Dq (fun i:Oh=>([(4,B b2 0),(5,B b3 0),(6,B b4 0),(9,B b5 0),(10,I (w64 (p1.Pc + 1))),(126,.tuple #[tV x19.1 i.1 i.2,.bool x19.2])],fun Γ=>Γ.set 4 (BX b5 62 (tC x19.1 i.1 i.2)),[lR i.1 x19.1.Kids i.2])) (bN 14 6143) (fun i=>[(11,137,.bool x19.2),(13,8,.bool x19.2)]) c (fun i18=>?_) fun hd7=>?_
 obtain ⟨a16,c16⟩:=i18
 refine qnE ⟨qP [],qP [],tt⟩ fun _ _ c=>?_
 exact nN (a16,c16) (c.rk (rg 5) (rg 12))
 refine Dq (fun i:Oh=>([(4,B b2 0),(5,B b3 0),(6,B b4 0),(9,B b5 0),(10,I (w64 (p1.Pc + 1))),(135,.tuple #[tV x19.1 i.1 i.2,.bool x19.2])],id,[lR i.1 x19.1.Kids i.2])) (bN 14 511) (fun i=>[(9,126,.tuple #[tV x19.1 i.1 i.2,.bool x19.2]),(10,136,tV x19.1 i.1 i.2),(11,137,.bool x19.2)]) c (fun i17=>?_) fun hd6=>?_
 obtain ⟨a15,c15⟩:=i17
 refine qn [12] ⟨qP [],qP [],qP [],tt⟩ ⟨fun _ _ c=>?_,tt⟩
 refine Zf _ rfl rfl ?_
 try simp only [l3,l4,l5,l6] at c
 refine Ess 4 (tC x19.1 a15 c15) c fun _ c=>?_
 refine E0 (nQ hd7 (a15,c15) (c.rk (rg 5) (rg 12)))
 refine q0 (qs:=[(0,127,gV p0 ga0 gc1),(1,128,pV p1 ga2 gc3 ga4 gc5 ga6 gc7 ga8 gc9 ga10 gc11 ga12 gc13),(2,129,B b2 1),(3,130,L ga2 p1.Regs gc3),(4,131,B b3 2),(5,132,I p2.B),(6,133,.pointer (some ep6)),(7,134,tV x18 a14 c14)]) c (qn [8] ⟨qP [(0,0)],qP [(0,1)],qP [],qP [(0,1)],qP [],qP [(0,2)],qI 8,qL 8,tt⟩ ⟨fun _ _ c=>?_,tt⟩)
 refine Zf _ rfl rfl ?_
 replace c:=c.nf
 refine Cg c (Zfa (ga2:=ga2) (gc3:=gc3) (ga6:=ga6) (gc7:=gc7) (ga8:=ga8) (gc9:=gc9) (ga10:=ga10) (gc11:=gc11) (ga12:=ga12) (gc13:=gc13) hx19) ⟨.f 0,.f 2,.f 10,tt⟩ call120 fun i16 _ _ c=>?_
 refine E0 (nQ hd6 (i16.1,i16.2) (c.rk (rg 5) (rg 12)))
 obtain ⟨a17,c17⟩:=i19
 refine T1 (Fp [(1,1),(3,2),(4,4)] 5 c fun _ c=>Bd h fun x20 hx20 h=>Cg c (Zaf hx20) ⟨.f 1,.f 11,tt⟩ call117 fun i20 _ _ c=>?_)
 refine Fp [] 1 c fun _ c=>Esb 1 1 (L i20.1 x20 i20.2) c fun _ c=>?_
 refine E1 (bk (tn (T0 (Fp [] 2 c fun _ c=>Esb 1 0 (I (w64 (p1.Pc + 1))) c fun _ c=>?_))))
 refine E0 (T0 (Fp [(0,1)] 2 c fun _ c=>Ess 3 [I (w64 (p1.Pc + 1)),L i20.1 x20 i20.2,L ga4 p1.Mem gc5,L ga6 p1.Stack gc7,I p1.In,L ga8 p1.Out gc9,I p1.Code,I p1.Steps,L ga10 p1.Cond gc11,L ga12 p1.Turns gc13] c fun _ c=>?_))
 refine Fp [] 1 c fun _ c=>E0 ?_
 cases h
 exact wp_ret (Rg c (i20.1,i20.2,ga4,gc5,ga6,gc7,ga8,gc9,ga10,gc11,ga12,gc13) [] [12,2,3,4,5,6] (.cell (α:=Agg 9) kk (.b 3) (.tmp .nil)))
 refine P0 [] c fun _ c=>I0 c h (fun h=>?_) fun h=>?_
 refine Bd h fun x21 hx21 h=>?_
 obtain ⟨ep7,u7,c⟩:=c.elp (.f 1) hx21
 obtain ⟨a18,c18,rfl,c⟩:=c.o_Term 9
 refine Bd h fun x22 hx22 h=>?_
 obtain ⟨ep8,u8,c⟩:=c.elp (.f 1) hx22
 obtain ⟨a19,c19,rfl,c⟩:=c.o_Term 12
 refine Bd h fun x23 hx23 h=>Tq (Jn (fun i:Oh=>([(4,B b2 0),(6,B b4 0),(8,.bool x23.2),(10,I (w64 (p1.Pc + 1)))],fun Γ=>Γ.set 1 (BX b2 29 [I p1.Pc,L ga2 p1.Regs gc3,L i.1 x23.1 i.2,L ga6 p1.Stack gc7,I p1.In,L ga8 p1.Out gc9,I p1.Code,I p1.Steps,L ga10 p1.Cond gc11,L ga12 p1.Turns gc13]),[lR i.1 x23.1 i.2])) c ?_ fun i24 _ _ c=>?_)
 refine As mix c fun _ c=>?_
 replace c:=Cx.frs [(3,B b1 0),(4,B b2 0),(5,B b3 0),(6,B b4 0),(10,I (w64 (p1.Pc + 1)))] c
 refine Dq (fun i:Oh=>([(4,B b2 0),(6,B b4 0),(10,I (w64 (p1.Pc + 1))),(147,.tuple #[L i.1 x23.1 i.2,.bool x23.2])],fun Γ=>Γ.set 1 (BX b2 29 [I p1.Pc,L ga2 p1.Regs gc3,L i.1 x23.1 i.2,L ga6 p1.Stack gc7,I p1.In,L ga8 p1.Out gc9,I p1.Code,I p1.Steps,L ga10 p1.Cond gc11,L ga12 p1.Turns gc13]),[lR i.1 x23.1 i.2])) (bN 21 917503) (fun i=>[(17,164,.bool x23.2),(20,8,.bool x23.2)]) c (fun i23=>?_) fun hd9=>?_
 obtain ⟨a21,c21⟩:=i23
 refine qnE ⟨qP [],qP [],tt⟩ fun _ _ c=>?_
 exact nN (a21,c21) (c.rk (rg 5) (rg 15))
 refine Dq (fun i:Oh=>([(4,B b2 0),(6,B b4 0),(10,I (w64 (p1.Pc + 1))),(162,.tuple #[L i.1 x23.1 i.2,.bool x23.2])],id,[lR i.1 x23.1 i.2])) (bN 21 32767) (fun i=>[(15,147,.tuple #[L i.1 x23.1 i.2,.bool x23.2]),(16,163,L i.1 x23.1 i.2),(17,164,.bool x23.2),(18,165,B b2 2)]) c (fun i22=>?_) fun hd8=>?_
 obtain ⟨a20,c20⟩:=i22
 refine qn [19] ⟨qP [],qP [],qP [],qP [],tt⟩ ⟨fun _ _ c=>?_,tt⟩
 refine Zf _ rfl rfl ?_
 try simp only [l3,l4,l5,l6] at c
 refine Esb 1 2 (L a20 x23.1 c20) c fun _ c=>?_
 refine E0 (nQ hd9 (a20,c20) (c.rk (rg 5) (rg 15)))
 refine q0 (qs:=[(0,148,gV p0 ga0 gc1),(1,149,pV p1 ga2 gc3 ga4 gc5 ga6 gc7 ga8 gc9 ga10 gc11 ga12 gc13),(2,150,B b2 1),(3,151,L ga2 p1.Regs gc3),(4,152,B b3 1),(5,153,I p2.A),(6,154,.pointer (some ep7)),(7,155,tV x21 a18 c18),(8,156,B b2 1),(9,157,L ga2 p1.Regs gc3),(10,158,B b3 2),(11,159,I p2.B),(12,160,.pointer (some ep8)),(13,161,tV x22 a19 c19)]) c (qn [14] ⟨qP [(0,0)],qP [(0,1)],qP [],qP [(0,1)],qP [],qP [(0,2)],qI 8,qL 8,qP [],qP [(0,1)],qP [],qP [(0,2)],qI 11,qL 11,tt⟩ ⟨fun _ _ c=>?_,tt⟩)
 refine Zf _ rfl rfl ?_
 try simp only [l3,l4,l5,l6] at c
 replace c:=c.nf
 refine Cg c (Zf5 (ga2:=ga2) (gc3:=gc3) (ga6:=ga6) (gc7:=gc7) (ga8:=ga8) (gc9:=gc9) (ga10:=ga10) (gc11:=gc11) (ga12:=ga12) (gc13:=gc13) hx23) ⟨.f 0,.f 2,.f 10,.f 13,tt⟩ call121 fun i21 _ _ c=>?_
 refine E0 (nQ hd8 (i21.1,i21.2) (c.rk (rg 5) (rg 15)))
 obtain ⟨a22,c22⟩:=i24
 refine bk (tn (T0 (Fp [] 2 c fun _ c=>Esb 1 0 (I (w64 (p1.Pc + 1))) c fun _ c=>?_)))
 refine E0 (T0 (Fp [(0,1)] 2 c fun _ c=>Ess 3 [I (w64 (p1.Pc + 1)),L ga2 p1.Regs gc3,L a22 x23.1 c22,L ga6 p1.Stack gc7,I p1.In,L ga8 p1.Out gc9,I p1.Code,I p1.Steps,L ga10 p1.Cond gc11,L ga12 p1.Turns gc13] c fun _ c=>?_))
 refine Fp [] 1 c fun _ c=>E0 ?_
 cases h
 exact wp_ret (Rg c (ga2,gc3,a22,c22,ga6,gc7,ga8,gc9,ga10,gc11,ga12,gc13) [] [1,14,3,4,5,6] (.cell (α:=Agg 9) kk (.b 3) (.tmp .nil)))
 refine P0 [] c fun _ c=>I0 c h (fun h=>?_) fun h=>?_
 refine Tq (P1 [(1,2)] c fun _ c=>bk (tn (T0 (Fp [] 2 c fun _ c=>?_))))
 replace c:=c.nf
 refine Esb 1 0 (I p2.B) c fun _ c=>?_
 refine E0 (T0 (Fp [(0,1)] 2 c fun _ c=>Ess 3 [I p2.B,L ga2 p1.Regs gc3,L ga4 p1.Mem gc5,L ga6 p1.Stack gc7,I p1.In,L ga8 p1.Out gc9,I p1.Code,I p1.Steps,L ga10 p1.Cond gc11,L ga12 p1.Turns gc13] c fun _ c=>?_))
 refine Fp [] 1 c fun _ c=>E0 ?_
 cases h
 exact wp_ret (Rg c (ga2,gc3,ga4,gc5,ga6,gc7,ga8,gc9,ga10,gc11,ga12,gc13) [] [1,2,3,4,5,6] (.cell (α:=Agg 9) kk (.b 3) (.tmp .nil)))
 refine P0 [] c fun _ c=>I0 c h (fun h=>?_) fun h=>?_
 refine T0 (Fp [(1,1)] 3 c fun _ c=>?_)
 replace c:=c.nf
 refine Bd h fun x24 hx24 h=>Cb c (Zc4 hx24) ⟨.f 3,tt⟩ call99 fun i25 _ _ c=>?_
 refine Fp [] 1 c fun _ c=>Esb 1 3 (L i25.1 x24 i25.2) c fun _ c=>?_
 refine E0 (Tq (P1 [(1,2)] c fun _ c=>bk (tn (T0 (Fp [] 2 c fun _ c=>Esb 1 0 (I p2.B) c fun _ c=>?_)))))
 refine E0 (T0 (Fp [(0,1)] 2 c fun _ c=>?_))
 replace c:=c.ng
 refine Ess 3 [I p2.B,L ga2 p1.Regs gc3,L ga4 p1.Mem gc5,L i25.1 x24 i25.2,I p1.In,L ga8 p1.Out gc9,I p1.Code,I p1.Steps,L ga10 p1.Cond gc11,L ga12 p1.Turns gc13] c fun _ c=>?_
 refine Fp [] 1 c fun _ c=>E0 ?_
 replace c:=c.fz 5
 cases h
 exact wp_ret (Rg c (ga2,gc3,ga4,gc5,i25.1,i25.2,ga8,gc9,ga10,gc11,ga12,gc13) [] [1,2,8,4,5,6] (.cell (α:=Agg 9) kk (.b 3) (.tmp .nil)))
 refine P0 [] c fun _ c=>I0 c h (fun h=>?_) fun h=>?_
 refine T0 (Fp [(1,1),(3,1)] 6 c fun _ c=>?_)
 replace c:=c.nf
 refine Bd h fun x25 hx25 h=>Eel c (.f 3) hx25 fun _ _ c=>?_
 refine Fp [] 1 c fun _ c=>E0 (T1 (Fp [(1,1),(3,1)] 6 c fun _ c=>Bd h fun x26 hx26 h=>Esl 3 c (.f 3) hx26 fun u9 _ c=>?_))
 obtain ⟨a23,c23,rfl⟩:=c.sl 8
 refine Bd h fun x27 hx27 h=>Cb c (YE hx27) ⟨.f 8,tt⟩ call50 fun i26 _ _ c=>?_
 refine Fp [] 1 c fun _ c=>Esb 1 3 (L i26.1 x27 i26.2) c fun _ c=>?_
 refine E1 (bk (tn (T0 (Fp [] 2 c fun _ c=>?_))))
 replace c:=c.ng
 refine Esb 1 0 (I x25) c fun _ c=>?_
 refine E0 (T0 (Fp [(0,1)] 2 c fun _ c=>Ess 3 [I x25,L ga2 p1.Regs gc3,L ga4 p1.Mem gc5,L i26.1 x27 i26.2,I p1.In,L ga8 p1.Out gc9,I p1.Code,I p1.Steps,L ga10 p1.Cond gc11,L ga12 p1.Turns gc13] c fun _ c=>?_))
 refine Fp [] 1 c fun _ c=>E0 ?_
 replace c:=c.fz 5
 cases h
 exact wp_ret (Rg c (ga2,gc3,ga4,gc5,i26.1,i26.2,ga8,gc9,ga10,gc11,ga12,gc13) [] [1,2,9,4,5,6] (.cell (α:=Agg 9) kk (.b 3) (.tmp .nil)))
 refine P0 [] c fun _ c=>I0 c h (fun h=>?_) fun h=>?_
 refine T0 (Fp [] 1 c fun _ c=>?_)
 replace c:=c.nf
 refine Esb 1 6 (I 1) c fun _ c=>?_
 refine E0 (T0 (Fp [(0,1)] 1 c fun _ c=>Ess 3 [I p1.Pc,L ga2 p1.Regs gc3,L ga4 p1.Mem gc5,L ga6 p1.Stack gc7,I p1.In,L ga8 p1.Out gc9,I 1,I p1.Steps,L ga10 p1.Cond gc11,L ga12 p1.Turns gc13] c fun _ c=>?_))
 refine Fp [] 1 c fun _ c=>E0 ?_
 cases h
 exact wp_ret (br (tr (Rg c (ga2,gc3,ga4,gc5,ga6,gc7,ga8,gc9,ga10,gc11,ga12,gc13) [] [1,2,3,4,5,6] (.cell (α:=Agg 9) kk (.b 3) (.tmp .nil)))))
 refine K1 (bk (tn (T0 (Fp [] 2 c fun _ c=>?_))))
 replace c:=c.nf
 refine Esb 1 0 (I (w64 (p1.Pc + 1))) c fun _ c=>?_
 refine E0 (T0 (Fp [(0,1)] 2 c fun _ c=>Ess 3 [I (w64 (p1.Pc + 1)),L ga2 p1.Regs gc3,L ga4 p1.Mem gc5,L ga6 p1.Stack gc7,I p1.In,L ga8 p1.Out gc9,I p1.Code,I p1.Steps,L ga10 p1.Cond gc11,L ga12 p1.Turns gc13] c fun _ c=>?_))
 refine Fp [] 1 c fun _ c=>E0 ?_
 cases h
 exact wp_ret (Rg c (ga2,gc3,ga4,gc5,ga6,gc7,ga8,gc9,ga10,gc11,ga12,gc13) [] [1,2,3,4,5,6] (.cell (α:=Agg 9) kk (.b 3) (.tmp .nil)))
theorem ZfH {p0 p1 p2 r} (h:Zbx n p0 p1 p2 = some r):Cl 76 [gV p0 ga0 gc1,pV p1 ga2 gc3 ga4 gc5 ga6 gc7 ga8 gc9 ga10 gc11 ga12 gc13,nV p2] [lR ga0 p0.Code gc1,lR ga2 p1.Regs gc3,lR ga4 p1.Mem gc5,lR ga6 p1.Stack gc7,lR ga8 p1.Out gc9,lR ga10 p1.Cond gc11,lR ga12 p1.Turns gc13,TBf prog] r:=by
 unfold Zbx at h
 refine En func76 rfl ntmps76 fun _ fr w c=>?_
 refine T0 (Ebx (gC p0 ga0 gc1) c fun b1 _ _ c=>?_)
 refine Ebx (pC p1 ga2 gc3 ga4 gc5 ga6 gc7 ga8 gc9 ga10 gc11 ga12 gc13) c fun b2 _ _ c=>?_
 refine Ebx (nC p2) c fun b3 _ _ c=>?_
 refine Fp [] 1 c fun _ c=>E0 (T0 (Fp [(0,1)] 1 c fun _ c=>Eal pZ c fun b4 _ _ c=>?_))
 refine Ess 3 (pC p1 ga2 gc3 ga4 gc5 ga6 gc7 ga8 gc9 ga10 gc11 ga12 gc13) c fun _ c=>?_
 refine E0 (T0 (Fp [] 1 c fun _ c=>?_))
 replace c:=c.ng
 refine Esb 3 6 (I 9) c fun _ c=>?_
 refine E0 (T0 (Fp [(0,0),(1,1),(2,2)] 3 c fun _ c=>Bd h fun x1 hx1 h=>Cg c (Zev (ga4:=ga4) (gc5:=gc5) (ga6:=ga6) (gc7:=gc7) (ga8:=ga8) (gc9:=gc9) (ga10:=ga10) (gc11:=gc11) (ga12:=ga12) (gc13:=gc13) hx1) ⟨.f 0,.f 1,tt⟩ call92 fun i1 _ _ c=>?_))
 refine Fp [] 4 c fun _ c=>Eal tZ c fun b5 _ _ c=>?_
 refine Ess 4 (tC x1.1 i1.1 i1.2) c fun _ c=>?_
 refine Fp [] 2 c fun _ c=>E0 (S0 (P0 [] c fun _ c=>I0 c h (fun h=>?_) fun h=>?_))
 refine T0 (Fp [(0,3)] 1 c fun _ c=>Eltr 29 ([(Rw.Path.mk p1.Pc (hd ga2 p1.Regs gc3) (hd ga4 p1.Mem gc5) (hd ga6 p1.Stack gc7) p1.In (hd ga8 p1.Out gc9) 9 p1.Steps (hd ga10 p1.Cond gc11) (hd ga12 p1.Turns gc13))]:List Rw.Path) ([(D.Path.mk p1.Pc p1.Regs p1.Mem p1.Stack p1.In p1.Out 9 p1.Steps p1.Cond p1.Turns)]:List D.Path) c ⟨(Ava.mk_Path (D.Path.mk p1.Pc p1.Regs p1.Mem p1.Stack p1.In p1.Out 9 p1.Steps p1.Cond p1.Turns) (.f 1) (.f 2) (.f 3) (.f 4) (.f 5) (.f 6)),tt⟩ fun a1 c1 _ _ c=>?_)
 refine Fp [] 1 c fun _ c=>E0 ?_
 replace c:=c.fzr 5 9
 cases h
 exact wp_ret (tr (Rt c (a1,c1) [] [10]))
 refine K0 (S0 (Bd h fun x2 hx2 h=>S0 (rZ [(3,.eq (.bool x2))] [(2,4)] mix c ⟨Ncl c (fun hg=>YX (iteT (gcT hg) hx2)) ⟨.f 8,tt⟩ call93,tt⟩ fun _ _ c=>I0 c h (fun h=>?_) fun h=>?_)))
 refine T0 (Fp [(0,1),(1,2)] 2 c fun _ c=>Bd h fun x3 hx3 h=>Cg c (Zdp hx3) ⟨.f 1,.f 2,.f 3,.f 4,.f 5,.f 6,tt⟩ call94 fun i2 _ _ c=>?_)
 replace c:=c.nf
 refine Eltr 29 ([(Rw.Path.mk x3.Pc (hd i2.1 x3.Regs i2.2.1) (hd i2.p2 x3.Mem i2.p3) (hd i2.p4 x3.Stack i2.p5) x3.In (hd i2.p6 x3.Out i2.p7) x3.Code x3.Steps (hd i2.p8 x3.Cond i2.p9) (hd i2.p10 x3.Turns i2.q11))]:List Rw.Path) ([x3]:List D.Path) c ⟨(Ava.mk_Path x3 (.f 9) (.f 10) (.f 11) (.f 12) (.f 13) (.f 14)),tt⟩ fun a2 c2 _ _ c=>?_
 refine Fp [] 1 c fun _ c=>E0 ?_
 replace c:=c.fzr 5 15
 cases h
 exact wp_ret (tr (Rt c (a2,c2) [] [16]))
 refine K0 (T0 (Fp [(0,0),(1,1),(2,2)] 3 c fun _ c=>Bd h fun x4 hx4 h=>Cg c (Zft hx4) ⟨.f 0,.f 1,.f 2,.f 3,.f 4,.f 5,.f 6,.f 7,tt⟩ call95 fun i3 _ _ c=>?_))
 refine Fp [] 3 c fun _ c=>?_
 replace c:=c.nf
 refine Eal pZ c fun b6 _ _ c=>?_
 refine Ess 5 (pM x4.1 i3) c fun _ c=>?_
 refine Fp [] 1 c fun _ c=>E0 (S0 (P0 [] c fun _ c=>I0 c h (fun h=>?_) fun h=>?_))
 refine T0 (Fp [(0,3)] 1 c fun _ c=>Eltr 29 ([(Rw.Path.mk p1.Pc (hd ga2 p1.Regs gc3) (hd ga4 p1.Mem gc5) (hd ga6 p1.Stack gc7) p1.In (hd ga8 p1.Out gc9) 9 p1.Steps (hd ga10 p1.Cond gc11) (hd ga12 p1.Turns gc13))]:List Rw.Path) ([(D.Path.mk p1.Pc p1.Regs p1.Mem p1.Stack p1.In p1.Out 9 p1.Steps p1.Cond p1.Turns)]:List D.Path) c ⟨(Ava.mk_Path (D.Path.mk p1.Pc p1.Regs p1.Mem p1.Stack p1.In p1.Out 9 p1.Steps p1.Cond p1.Turns) (.f 1) (.f 2) (.f 3) (.f 4) (.f 5) (.f 6)),tt⟩ fun a3 c3 _ _ c=>?_)
 refine Fp [] 1 c fun _ c=>E0 ?_
 replace c:=c.fzr 6 15
 cases h
 exact wp_ret (tr (Rt c (a3,c3) [] [16]))
 refine K0 (S0 (Bd h fun x5 hx5 h=>S0 (rZ [(4,.eq (.bool x5))] [(3,4)] mix c ⟨Ncl c (fun hg=>YJ (iteF (gcF hg) hx5)) ⟨.f 8,tt⟩ call96,tt⟩ fun _ _ c=>I0 c h (fun h=>?_) fun h=>?_)))
 refine T0 (Fp [(0,5)] 1 c fun _ c=>Eltr 29 ([(Rw.Path.mk x4.1.Pc (hd i3.1 x4.1.Regs i3.2.1) (hd i3.p2 x4.1.Mem i3.p3) (hd i3.p4 x4.1.Stack i3.p5) x4.1.In (hd i3.p6 x4.1.Out i3.p7) x4.1.Code x4.1.Steps (hd i3.p8 x4.1.Cond i3.p9) (hd i3.p10 x4.1.Turns i3.q11))]:List Rw.Path) ([x4.1]:List D.Path) c ⟨(Ava.mk_Path x4.1 (.f 9) (.f 10) (.f 11) (.f 12) (.f 13) (.f 14)),tt⟩ fun a4 c4 _ _ c=>?_)
 refine Fp [] 1 c fun _ c=>E0 ?_
 replace c:=c.fzr 6 15
 cases h
 exact wp_ret (tr (Rt c (a4,c4) [] [16]))
 refine K0 (T0 (Fp [(0,4)] 1 c fun _ c=>Eltr 62 [(tR x1.1 i1.1 i1.2)] [x1.1] c ⟨(Ava.mk_Term x1.1 (.f 8)),tt⟩ fun a5 c5 _ _ c=>?_))
 replace c:=c.nf
 replace c:=c.fzr 6 15
 refine Bd h fun x6 hx6 h=>Cg c (ZO hx6) ⟨.f 16,tt⟩ call97 fun i4 _ _ c=>?_
 refine Fp [] 3 c fun _ c=>Eal tZ c fun b7 _ _ c=>?_
 refine Ess 6 (tC x6.1 i4.1 i4.2) c fun _ c=>?_
 refine Fp [] 1 c fun _ c=>E0 (S0 (S0 (Ry [(4,1),(10,1)] mix c fun _ _ c=>I0 c h (fun h=>?_) fun h=>?_)))
 refine T0 (Fp [(0,3)] 1 c fun _ c=>?_)
 replace c:=c.nf
 refine Eltr 29 ([(Rw.Path.mk p1.Pc (hd ga2 p1.Regs gc3) (hd ga4 p1.Mem gc5) (hd ga6 p1.Stack gc7) p1.In (hd ga8 p1.Out gc9) 9 p1.Steps (hd ga10 p1.Cond gc11) (hd ga12 p1.Turns gc13))]:List Rw.Path) ([(D.Path.mk p1.Pc p1.Regs p1.Mem p1.Stack p1.In p1.Out 9 p1.Steps p1.Cond p1.Turns)]:List D.Path) c ⟨(Ava.mk_Path (D.Path.mk p1.Pc p1.Regs p1.Mem p1.Stack p1.In p1.Out 9 p1.Steps p1.Cond p1.Turns) (.f 1) (.f 2) (.f 3) (.f 4) (.f 5) (.f 6)),tt⟩ fun a6 c6 _ _ c=>?_
 refine Fp [] 1 c fun _ c=>E0 ?_
 replace c:=c.fzr 7 18
 cases h
 exact wp_ret (tr (Rt c (a6,c6) [] [19]))
 refine K0 (T0 (Fp [(0,1),(1,2)] 2 c fun _ c=>?_))
 replace c:=c.nf
 refine Bd h fun x7 hx7 h=>Cg c (Zdp hx7) ⟨.f 1,.f 2,.f 3,.f 4,.f 5,.f 6,tt⟩ call94 fun i5 _ _ c=>?_
 refine Eal pZ c fun b8 _ _ c=>?_
 refine Ess 7 (pM x7 i5) c fun _ c=>?_
 refine E0 (T0 (Fp [(1,1),(2,4)] 3 c fun _ c=>?_))
 replace c:=c.ng
 refine Bd h fun x8 hx8 h=>Cg c (ZcB hx8) ⟨.f 5,.f 8,tt⟩ call98 fun i6 _ _ c=>?_
 refine Fp [] 1 c fun _ c=>Esb 7 8 (L i6.1 x8 i6.2) c fun _ c=>?_
 refine E0 (T0 (Fp [(1,1)] 2 c fun _ c=>Bd h fun x9 hx9 h=>Cb c (Zc4 hx9) ⟨.f 6,tt⟩ call99 fun i7 _ _ c=>?_))
 refine Fp [] 1 c fun _ c=>?_
 replace c:=c.ng
 refine Esb 7 9 (L i7.1 x9 i7.2) c fun _ c=>?_
 refine E0 (T0 (Fp [(1,1),(2,6)] 3 c fun _ c=>Bd h fun x10 hx10 h=>Cg c (ZcB hx10) ⟨.f 5,.f 17,tt⟩ call98 fun i8 _ _ c=>?_))
 refine Fp [] 1 c fun _ c=>?_
 replace c:=c.ng
 refine Esb 5 8 (L i8.1 x10 i8.2) c fun _ c=>?_
 refine E0 (T0 (Fp [(1,1)] 2 c fun _ c=>Bd h fun x11 hx11 h=>Cb c (Zc4 hx11) ⟨.f 6,tt⟩ call99 fun i9 _ _ c=>?_))
 refine Fp [] 1 c fun _ c=>?_
 replace c:=c.ng
 refine Esb 5 9 (L i9.1 x11 i9.2) c fun _ c=>?_
 refine E0 (T0 (Fp [(0,7),(1,5)] 2 c fun _ c=>?_))
 replace c:=c.fz 8
 replace c:=c.fz 8
 refine Eltr 29 ([(Rw.Path.mk x7.Pc (hd i5.1 x7.Regs i5.2.1) (hd i5.p2 x7.Mem i5.p3) (hd i5.p4 x7.Stack i5.p5) x7.In (hd i5.p6 x7.Out i5.p7) x7.Code x7.Steps (hd i6.1 x8 i6.2) (hd i7.1 x9 i7.2)),(Rw.Path.mk x4.1.Pc (hd i3.1 x4.1.Regs i3.2.1) (hd i3.p2 x4.1.Mem i3.p3) (hd i3.p4 x4.1.Stack i3.p5) x4.1.In (hd i3.p6 x4.1.Out i3.p7) x4.1.Code x4.1.Steps (hd i8.1 x10 i8.2) (hd i9.1 x11 i9.2))]:List Rw.Path) ([(D.Path.mk x7.Pc x7.Regs x7.Mem x7.Stack x7.In x7.Out x7.Code x7.Steps x8 x9),(D.Path.mk x4.1.Pc x4.1.Regs x4.1.Mem x4.1.Stack x4.1.In x4.1.Out x4.1.Code x4.1.Steps x10 x11)]:List D.Path) c ⟨(Ava.mk_Path (D.Path.mk x7.Pc x7.Regs x7.Mem x7.Stack x7.In x7.Out x7.Code x7.Steps x8 x9) (.f 18) (.f 19) (.f 20) (.f 21) (.f 24) (.f 26)),(Ava.mk_Path (D.Path.mk x4.1.Pc x4.1.Regs x4.1.Mem x4.1.Stack x4.1.In x4.1.Out x4.1.Code x4.1.Steps x10 x11) (.f 9) (.f 10) (.f 11) (.f 12) (.f 25) (.f 27)),tt⟩ fun a7 c7 _ _ c=>?_
 refine Fp [] 1 c fun _ c=>E0 ?_
 replace c:=c.fzr 8 28
 cases h
 exact wp_ret (Rt c (a7,c7) [] [29])
theorem Zf8 {p0 p1 r} (h:Zal n p0 p1 = some r):Cl 53 [gV p0 ga0 gc1,pV p1 ga2 gc3 ga4 gc5 ga6 gc7 ga8 gc9 ga10 gc11 ga12 gc13] [lR ga0 p0.Code gc1,lR ga2 p1.Regs gc3,lR ga4 p1.Mem gc5,lR ga6 p1.Stack gc7,lR ga8 p1.Out gc9,lR ga10 p1.Cond gc11,lR ga12 p1.Turns gc13,TBf prog] r:=by
 unfold Zal at h
 refine En func53 rfl ntmps53 fun _ fr w c=>?_
 refine T0 (Ebx (gC p0 ga0 gc1) c fun b1 _ _ c=>?_)
 refine Ebx (pC p1 ga2 gc3 ga4 gc5 ga6 gc7 ga8 gc9 ga10 gc11 ga12 gc13) c fun b2 _ _ c=>?_
 refine Fp [] 1 c fun _ c=>E0 (S0 (S0 (Ry [(1,1),(5,1)] mix c fun _ _ c=>I0 c h (fun h=>?_) fun h=>?_)))
 refine P0 [] c fun _ c=>?_
 cases h
 replace c:=c.nilf (α:=D.Path)
 exact wp_ret (tr (Rt c (none,0) [] [8]))
 refine K0 (S0 (P0 [(1,1),(3,0)] c fun _ c=>I0 c h (fun h=>?_) fun h=>?_))
 refine T0 (Fp [] 1 c fun _ c=>Esb 1 6 (I 2) c fun _ c=>?_)
 refine E0 (T0 (Fp [(0,1)] 1 c fun _ c=>Eltr 29 ([(Rw.Path.mk p1.Pc (hd ga2 p1.Regs gc3) (hd ga4 p1.Mem gc5) (hd ga6 p1.Stack gc7) p1.In (hd ga8 p1.Out gc9) 2 p1.Steps (hd ga10 p1.Cond gc11) (hd ga12 p1.Turns gc13))]:List Rw.Path) ([(D.Path.mk p1.Pc p1.Regs p1.Mem p1.Stack p1.In p1.Out 2 p1.Steps p1.Cond p1.Turns)]:List D.Path) c ⟨(Ava.mk_Path (D.Path.mk p1.Pc p1.Regs p1.Mem p1.Stack p1.In p1.Out 2 p1.Steps p1.Cond p1.Turns) (.f 1) (.f 2) (.f 3) (.f 4) (.f 5) (.f 6)),tt⟩ fun a1 c1 _ _ c=>?_))
 refine Fp [] 1 c fun _ c=>E0 ?_
 replace c:=c.fzr 2 8
 cases h
 exact wp_ret (tr (Rt c (a1,c1) [] [9]))
 refine K0 (T0 (Fp [(1,1)] 4 c fun _ c=>Esb 1 7 (I (w64 (p1.Steps + 1))) c fun _ c=>?_))
 refine E0 (T0 (Fp [(1,0),(3,1)] 4 c fun _ c=>Bd h fun x1 hx1 h=>Eel c (.f 0) hx1 fun _ _ c=>?_))
 refine Eal [I 0,I 0,I 0,I 0] c fun b3 _ _ c=>?_
 refine Ess 2 (nC x1) c fun _ c=>?_
 refine E0 (S0 (T0 (Fp [(0,0),(1,1),(2,2)] 3 c fun _ c=>?_)))
 replace c:=c.nf
 refine Bd h fun x2 hx2 h=>Cb c (ZfK hx2) ⟨.f 0,.f 1,.f 2,.f 3,.f 4,.f 5,.f 6,tt⟩ call75 fun _ _ _ c=>?_
 refine Fp [] 1 c fun _ c=>E0 (P0 [] c fun _ c=>I0 c h (fun h=>?_) fun h=>?_)
 refine T0 (Fp [] 2 c fun _ c=>Esb 1 6 (I x2) c fun _ c=>?_)
 refine E0 (T0 (Fp [(0,1)] 1 c fun _ c=>Eltr 29 ([(Rw.Path.mk p1.Pc (hd ga2 p1.Regs gc3) (hd ga4 p1.Mem gc5) (hd ga6 p1.Stack gc7) p1.In (hd ga8 p1.Out gc9) x2 (w64 (p1.Steps + 1)) (hd ga10 p1.Cond gc11) (hd ga12 p1.Turns gc13))]:List Rw.Path) ([(D.Path.mk p1.Pc p1.Regs p1.Mem p1.Stack p1.In p1.Out x2 (w64 (p1.Steps + 1)) p1.Cond p1.Turns)]:List D.Path) c ⟨(Ava.mk_Path (D.Path.mk p1.Pc p1.Regs p1.Mem p1.Stack p1.In p1.Out x2 (w64 (p1.Steps + 1)) p1.Cond p1.Turns) (.f 1) (.f 2) (.f 3) (.f 4) (.f 5) (.f 6)),tt⟩ fun a2 c2 _ _ c=>?_))
 refine Fp [] 1 c fun _ c=>E0 ?_
 replace c:=c.fzr 3 8
 cases h
 exact wp_ret (tr (Rt c (a2,c2) [] [9]))
 refine K0 (T0 (Fp [(0,0),(1,1),(2,2)] 3 c fun _ c=>Bd h fun x3 hx3 h=>Cg c (ZfH hx3) ⟨.f 0,.f 1,.f 2,.f 3,.f 4,.f 5,.f 6,.f 7,tt⟩ call76 fun i1 _ _ c=>?_))
 refine Fp [] 1 c fun _ c=>E0 ?_
 obtain rfl:=sj h
 exact wp_ret (Rt c (i1.1,i1.2) [] [8])
theorem ZeB {p0 p1 p2 r} (h:Zb7 n p0 p1 p2 = some r):Con prog 26 [gV p0 ga0 gc1,L ga2 p1 gc3,I p2] [] [lR ga0 p0.Code gc1,lR ga2 p1 gc3,TBf prog] fun (i:Hp)=>([pJ r i],[],(pF r i)):=by
 unfold Zb7 at h
 refine En func26 rfl ntmps26 fun _ fr w c=>?_
 refine T0 (Ebx (gC p0 ga0 gc1) c fun b1 _ _ c=>?_)
 refine Eal pZ c fun b2 _ _ c=>?_
 refine E0 (T0 (Emm map85 c fun b3 _ _ c=>?_))
 refine Fp [] 1 c fun _ c=>E0 (S0 (T0 (Fp [(0,0)] 2 c fun _ c=>Bd h fun x1 hx1 h=>Cb c (Zdl hx1) ⟨.f 0,.f 1,.f 2,tt⟩ call51 fun i1 _ _ c=>?_)))
 refine Fp [] 2 c fun _ c=>E0 (Bd h fun rl1 hit1 h=>Lp (fun s1  (_:Unit)=>([(2,I p2),(3,B b1 0),(6,B b2 0),(7,.map (some b3)),(16,L i1.1 x1 i1.2),(17,I (len x1)),(18,I s1.1)],fun Γ=>Γ.set 2 (MP map85 b3 s1.2),[])) (fun  (_:Unit)=>([(2,I p2),(3,B b1 0),(6,B b2 0),(7,.map (some b3))],fun Γ=>Γ.set 2 (MP map85 b3 rl1),[])) hit1 c () (c.rk (rg 4) [0,1,2]) (fun s1 q1 _ _ _ c h hr1=>?_) fun _ _ _ c=>?_)
 refine P0 [] c fun _ c=>S0 (I0 c h (fun h=>?_) fun h=>?_)
 refine K0 (S0 (wp_block (T0 (Bd h fun x2 hx2 h=>Eel c (.g 3) hx2 fun _ _ c=>?_))))
 refine Eal [Str.val ⟨[]⟩,I 0,I 0] c fun b4 _ _ c=>?_
 replace c:=c.nf
 refine Ess 4 (vC x2) c fun _ c=>?_
 refine E0 (T1 (Fp [(2,2),(4,2)] 5 c fun _ c=>Bd h fun x3 hx3 h=>Emp 2 c hx3 fun _ c=>?_))
 refine E1 (bk (tn (P1 [] c fun _ c=>Nx h () (c.rk (rg 4) [0,1,2]))))
 refine wp_exit (te (te (be ?_)))
 obtain rfl:=hr1 _ (sk h)
 exact tn ⟨(),c.rk (rg 4) [0,1,2]⟩
 refine T0 (Fp [(0,0)] 1 c fun _ c=>Bd h fun x4 hx4 h=>Cb c (Zd6 hx4) ⟨.f 0,tt⟩ call52 fun i2 _ _ c=>?_)
 replace c:=c.nf
 refine Eal pZ c fun b5 _ _ c=>?_
 refine Ess 10 (pM x4 i2) c fun _ c=>?_
 refine E0 (S0 (P0 [] c fun _ c=>?_))
 replace c:=c.fzo (Xa 62) 4
 replace c:=c.fzo (Xa 62) 4
 replace c:=c.fz 4
 replace c:=c.fzo (Xa 62) 4
 replace c:=c.fzo (Xa 62) 4
 replace c:=c.fz 4
 refine Bd h fun rl2 hit2 h=>?_
 have hk2:=h
 refine LpR (fun s2  (i:Hp)=>([(2,I p2),(3,B b1 0),(6,B b2 0),(7,.map (some b3)),(10,B b5 0),(11,I s2.1)],fun Γ=>Γ.set 4 (BX b5 29 [I s2.2.1,L i.1 s2.p2 i.2.1,L i.p2 s2.p3 i.p3,L i.p4 s2.p4 i.p5,I s2.p5,L i.p6 s2.p6 i.p7,I s2.p7,I s2.p8,L i.p8 s2.p9 i.p9,L i.p10 s2.q10 i.q11]),[lR i.1 s2.p2 i.2.1,lR i.p2 s2.p3 i.p3,lR i.p4 s2.p4 i.p5,lR i.p6 s2.p6 i.p7,lR i.p8 s2.p9 i.p9,lR i.p10 s2.q10 i.q11])) (fun s  (i:Hp)=>([(6,B b2 0),(10,B b5 0)],fun Γ=>Γ.set 4 (BX b5 29 [I s.1,L i.1 s.2.1 i.2.1,L i.p2 s.p2 i.p3,L i.p4 s.p3 i.p5,I s.p4,L i.p6 s.p5 i.p7,I s.p6,I s.p7,L i.p8 s.p8 i.p9,L i.p10 s.q9 i.q11]),[lR i.1 s.2.1 i.2.1,lR i.p2 s.p2 i.p3,lR i.p4 s.p3 i.p5,lR i.p6 s.p5 i.p7,lR i.p8 s.p8 i.p9,lR i.p10 s.q9 i.q11])) hit2 c (i2.1,i2.2.1,i2.p2,i2.p3,i2.p4,i2.p5,i2.p6,i2.p7,i2.p8,i2.p9,i2.p10,i2.q11) (c.rk (rg 5) [0,1,2,3,4,5,6,7,8,3,4,5,6,7,8]) (fun s2 q2 i3 _ _ c h hr2=>?_) fun s2r k1 _ _ hrl c=>?_
 refine S0 (P0 [] c fun _ c=>I0 c h (fun h=>?_) fun h=>?_)
 refine K0 (S0 (wp_block (T0 (Fp [(0,0),(1,2)] 2 c fun _ c=>Bd h fun x5 hx5 h=>Cg c (Zf8 hx5) ⟨.f 0,.f 9,.f 10,.f 11,.f 12,.f 13,.f 14,.f 2,tt⟩ call53 fun i4 _ _ c=>?_))))
 refine Fp [] 1 c fun _ c=>E0 (wp_block (P0 [] c fun _ c=>I0 c h (fun h=>?_) fun h=>?_))
 refine T0 (Fp [(0,2)] 1 c fun _ c=>Ess 1 [I s2.2.1,L i3.1 s2.p2 i3.2.1,L i3.p2 s2.p3 i3.p3,L i3.p4 s2.p4 i3.p5,I s2.p5,L i3.p6 s2.p6 i3.p7,I s2.p7,I s2.p8,L i3.p8 s2.p9 i3.p9,L i3.p10 s2.q10 i3.q11] c fun _ c=>?_)
 refine E0 ?_
 obtain rfl:=hr2 _ (sk h)
 obtain rfl:=sj hk2
 exact wp_ret (br (br (tr (tr (br (tr (Rg c (i3.1,i3.2.1,i3.p2,i3.p3,i3.p4,i3.p5,i3.p6,i3.p7,i3.p8,i3.p9,i3.p10,i3.q11) [] [9,10,11,12,13,14] (.cell (α:=Agg 9) kk (.b 1) .nil))))))))
 refine Bd h fun x6 hx6 h=>Bd h fun x7 hx7 h=>Bd h fun x8 hx8 h=>S0 (rZ [(5,Pd.el (x6:D.Path)),(6,Pd.el (x6.Cond:List D.Term)),(7,Pd.rd (x6.Cond:List D.Term)),(11,Pd.el (x7:D.Term)),(12,Pd.rd (x7:D.Term)),(14,.eq (I x8))] [(9,2)] mix c ⟨Nid c (.f 15) (gT hx6),NfaS c 5 (atN 5) ZkA,Nrd c 6 (atN 6),NixR c 7 (atN 7) (gT hx7),Nrd c 11 (atN 11),Ncd (Ψ:=[MO map85 (.map (some b3)) (some rl1)]) [.r 12 (fun v=>RO v (x7:D.Term)),.v (.map (some b3))] c ⟨(atN 12),tt,tt⟩ ⟨.mp 2,tt⟩ (fun hg _ _ ga gp=>by obtain ⟨u1,_,rfl,g1,_,rfl,rfl⟩:=ga; obtain ⟨k1,rfl,f1⟩:=Opn.opn g1; exact ⟨_,(f1.join (gp.pick [0] rfl)),Zcm (iteT (gcT hg) hx8)⟩) call54,tt⟩ fun _ _ c=>I0 c h (fun h=>?_) fun h=>?_)
 refine T1 (Fp [] 1 c fun _ c=>Bd h fun x9 hx9 h=>Eem c (.f 15) hx9 fun _ u1 _ c=>?_)
 obtain ⟨a1,c1,a2,c2,a3,c3,a4,c4,a5,c5,a6,c6,rfl,c⟩:=c.o_Path 16
 refine Ess 4 (pC x9 a1 c1 a2 c2 a3 c3 a4 c4 a5 c5 a6 c6) c fun _ c=>?_
 refine E1 (bk (bk (tn (P1 [] c fun _ c=>Nx h (a1,c1,a2,c2,a3,c3,a4,c4,a5,c5,a6,c6) (c.rk (rg 5) [0,1,2,3,4,5,6,7,8,17,18,19,20,21,22])))))
 refine T1 (Fp [] 1 c fun _ c=>Bd h fun x10 hx10 h=>Eem c (.f 15) hx10 fun _ u2 _ c=>?_)
 obtain ⟨a7,c7,a8,c8,a9,c9,a10,c10,a11,c11,a12,c12,rfl,c⟩:=c.o_Path 16
 refine Ess 4 (pC x10 a7 c7 a8 c8 a9 c9 a10 c10 a11 c11 a12 c12) c fun _ c=>?_
 refine E1 (bk (bk (tn (P1 [] c fun _ c=>Nx h (a7,c7,a8,c8,a9,c9,a10,c10,a11,c11,a12,c12) (c.rk (rg 5) [0,1,2,3,4,5,6,7,8,17,18,19,20,21,22])))))
 refine wp_exit (te (te (be ?_)))
 obtain rfl:=hr2 _ (sk h)
 exact tn ⟨_,(i3.1,i3.2.1,i3.p2,i3.p3,i3.p4,i3.p5,i3.p6,i3.p7,i3.p8,i3.p9,i3.p10,i3.q11),rfl,c.rk (rg 5) (rg 15)⟩
 subst hrl
 try simp only [l3,l4,l5,l6] at c
 refine T0 (Fp [(0,2)] 1 c fun _ c=>Ess 1 [I s2r.1,L k1.1 s2r.2.1 k1.2.1,L k1.p2 s2r.p2 k1.p3,L k1.p4 s2r.p3 k1.p5,I s2r.p4,L k1.p6 s2r.p5 k1.p7,I s2r.p6,I s2r.p7,L k1.p8 s2r.p8 k1.p9,L k1.p10 s2r.q9 k1.q11] c fun _ c=>?_)
 refine E0 ?_
 cases h
 exact wp_ret (Rg c (k1.1,k1.2.1,k1.p2,k1.p3,k1.p4,k1.p5,k1.p6,k1.p7,k1.p8,k1.p9,k1.p10,k1.q11) [] [9,10,11,12,13,14] (.cell (α:=Agg 9) kk (.b 1) .nil))
theorem ZaP (n:Nat):(∀ {p0 ga0 gc1 r} (h:Xx n p0 = some r),Con prog 72 [tV p0 ga0 gc1] [] [lR ga0 p0.Kids gc1] fun (i:Oh)=>([tV r i.1 i.2],[OD (ownT 62) 62 (L i.1 r.Kids i.2) r.Kids],[])) ∧
    (∀ {p0 ga0 gc1 r} (h:Yh n p0 = some r),Con prog 49 [L ga0 p0 gc1] [] [lR ga0 p0 gc1] fun (i:Oh)=>([L i.1 r i.2],[OD (ownT 62) 62 (L i.1 r i.2) r],[])):=by
 induction n with
 | zero=>exact ⟨by intro p0 ga0 gc1 r h; simp [Xx] at h,by intro p0 ga0 gc1 r h; simp [Yh] at h⟩
 | succ n ih=>
 obtain ⟨ih0,ih1⟩:=ih
 refine ⟨?_,?_⟩
 · intro p0 ga0 gc1 r h
   rw [Xx] at h
   refine En func72 rfl ntmps72 fun _ fr w c=>?_
   refine T0 (Ebx (tC p0 ga0 gc1) c fun b1 _ _ c=>?_)
   refine Eal tZ c fun b2 _ _ c=>?_
   refine E0 (T0 (Fp [(0,0)] 1 c fun _ c=>Eal tZ c fun b3 _ _ c=>?_))
   refine Ess 2 (tC p0 ga0 gc1) c fun _ c=>?_
   refine E0 (T0 (Fp [(1,0)] 2 c fun _ c=>Bd h fun x1 hx1 h=>Cb c (ih1 hx1) ⟨.f 0,tt⟩ call49 fun i1 _ _ c=>?_))
   refine Fp [] 1 c fun _ c=>?_
   replace c:=c.ng
   refine Esb 2 4 (L i1.1 x1 i1.2) c fun _ c=>?_
   refine E0 (T0 (Fp [(0,2)] 1 c fun _ c=>Ess 1 [I p0.Op,I p0.W,I p0.N,Str.val p0.Name,L i1.1 x1 i1.2] c fun _ c=>?_))
   refine E0 ?_
   cases h
   exact wp_ret (Rg c (i1.1,i1.2) [3] [] (.cell (α:=Agg 4) kk (.b 1) .nil))
 · intro p0 ga0 gc1 r h
   rw [Yh] at h
   refine En func49 rfl ntmps49 fun _ fr w c=>?_
   refine P0 [] c fun _ c=>S0 (P0 [] c fun _ c=>I0 c h (fun h=>?_) fun h=>?_)
   refine P0 [] c fun _ c=>?_
   replace c:=c.nilo (ownT 62) 62
   cases h
   exact wp_ret (tr (Rt c (none,0) [0] []))
   refine K0 (T0 (Fp [] 2 c fun _ c=>Bd h fun x1 hx1 h=>Emkd 62 (⟨0,0,0,⟨[]⟩,⟨none,0,0⟩⟩ : Rw.Term) (fun w=>Zay 62 w) c hx1 fun a1 c1 _ _ c=>?_))
   refine Fp [] 1 c fun _ c=>E0 (S0 (P0 [] c fun _ c=>Bd h fun rl1 hit1 h=>Lp (fun s1  (i:List Rw.Term)=>([(0,L ga0 p0 gc1),(3,L a1 x1 c1),(12,I (len p0)),(13,I s1.1)],fun Γ=>(Γ.set 0 (sl62 (L a1 x1 c1) (i))).set 1 (HP.all (ownT 62) (i) s1.2),[])) (fun  (i:List Rw.Term)=>([(3,L a1 x1 c1)],fun Γ=>(Γ.set 0 (sl62 (L a1 x1 c1) (i))).set 1 (HP.all (ownT 62) (i) rl1),[])) hit1 c ((List.replicate (List.length x1) (⟨0,0,0,⟨[]⟩,⟨none,0,0⟩⟩ : Rw.Term))) (c.rk [0,1] [0]) (fun s1 q1 i1 _ _ c h hr1=>?_) fun k1 _ _ c=>?_))
   refine P0 [] c fun _ c=>S0 (I0 c h (fun h=>?_) fun h=>?_)
   refine K0 (S0 (wp_block (P0 [] c fun _ c=>T1 (Fp [] 4 c fun _ c=>Bd h fun x2 hx2 h=>Eem c (.f 0) hx2 fun _ u1 _ c=>?_))))
   obtain ⟨a2,c2,rfl,c⟩:=c.o_Term 1
   refine Bd h fun x3 hx3 h=>Cb c (ih0 hx3) ⟨.f 2,tt⟩ call72 fun i2 _ _ c=>?_
   replace c:=c.pack (H:=ownT 62 (tR x3 i2.1 i2.2) x3) [OD (ownT 62) 62 (L i2.1 x3.Kids i2.2) x3.Kids] [2] (fun A h=>ZeN (x:=x3) (Sep.sole h))
   refine Bd h fun x4 hx4 h=>Esetd 0 1 2 c hx4 fun _ _ _ c=>?_
   refine E1 (bk (tn (P1 [] c fun _ c=>Nx h ((List.set i1 (s1.1).toNat (tR x3 i2.1 i2.2))) (c.rk [0,1] [0]))))
   refine wp_exit (te (te (be ?_)))
   obtain rfl:=hr1 _ (sk h)
   exact tn ⟨(i1),c.rk [0,1] [0]⟩
   refine P0 [] c fun _ c=>?_
   replace c:=c.odc 0 1
   obtain rfl:=sj h
   obtain ⟨he1,c⟩:=c.releno 0
   replace c:=c.eqs (v:=L a1 x1 c1) (u:=L a1 rl1 c1) 2 (by simp only [L,he1])
   exact wp_ret (Rt c (a1,c1) [0] [])
theorem Zaa {n:Nat}:∀ {p0 ga0 gc1 r} (h:Yh n p0 = some r),Con prog 49 [L ga0 p0 gc1] [] [lR ga0 p0 gc1] fun (i:Oh)=>([L i.1 r i.2],[OD (ownT 62) 62 (L i.1 r i.2) r],[]):=(ZaP n).2
theorem Zep {p0 r} (h:XX n p0 = some r):Con prog 25 [pV p0 ga0 gc1 ga2 gc3 ga4 gc5 ga6 gc7 ga8 gc9 ga10 gc11] [] [lR ga0 p0.Regs gc1,lR ga2 p0.Mem gc3,lR ga4 p0.Stack gc5,lR ga6 p0.Out gc7,lR ga8 p0.Cond gc9,lR ga10 p0.Turns gc11] fun (i:Hp)=>([pJ r i],[OD (ownT 62) 62 (L i.1 r.Regs i.2.1) r.Regs,OD (ownT 62) 62 (L i.p2 r.Mem i.p3) r.Mem,sl3 (L i.p4 r.Stack i.p5) r.Stack,OD (ownT 62) 62 (L i.p6 r.Out i.p7) r.Out,OD (ownT 62) 62 (L i.p8 r.Cond i.p9) r.Cond,sl3 (L i.p10 r.Turns i.q11) r.Turns],[]):=by
 unfold XX at h
 refine En func25 rfl ntmps25 fun _ fr w c=>?_
 refine T0 (Ebx (pC p0 ga0 gc1 ga2 gc3 ga4 gc5 ga6 gc7 ga8 gc9 ga10 gc11) c fun b1 _ _ c=>?_)
 refine Eal pZ c fun b2 _ _ c=>?_
 refine E0 (T0 (Fp [(1,0)] 2 c fun _ c=>Bd h fun x1 hx1 h=>Cb c (Zaa hx1) ⟨.f 0,tt⟩ call49 fun i1 _ _ c=>?_))
 refine Fp [] 1 c fun _ c=>Esb 0 1 (L i1.1 x1 i1.2) c fun _ c=>?_
 refine E0 (T0 (Fp [(1,0)] 2 c fun _ c=>Bd h fun x2 hx2 h=>Cb c (Zaa hx2) ⟨.f 1,tt⟩ call49 fun i2 _ _ c=>?_))
 refine Fp [] 1 c fun _ c=>?_
 replace c:=c.ng
 refine Esb 0 2 (L i2.1 x2 i2.2) c fun _ c=>?_
 refine E0 (T0 (Fp [(1,0)] 2 c fun _ c=>Bd h fun x3 hx3 h=>Cb c (YE hx3) ⟨.f 2,tt⟩ call50 fun i3 _ _ c=>?_))
 refine Fp [] 1 c fun _ c=>Esb 0 3 (L i3.1 x3 i3.2) c fun _ c=>?_
 refine E0 (T0 (Fp [(1,0)] 2 c fun _ c=>Bd h fun x4 hx4 h=>Cb c (Zaa hx4) ⟨.f 3,tt⟩ call49 fun i4 _ _ c=>?_))
 refine Fp [] 1 c fun _ c=>?_
 replace c:=c.ng
 refine Esb 0 5 (L i4.1 x4 i4.2) c fun _ c=>?_
 refine E0 (T0 (Fp [(1,0)] 2 c fun _ c=>Bd h fun x5 hx5 h=>Cb c (Zaa hx5) ⟨.f 4,tt⟩ call49 fun i5 _ _ c=>?_))
 refine Fp [] 1 c fun _ c=>Esb 0 8 (L i5.1 x5 i5.2) c fun _ c=>?_
 refine E0 (T0 (Fp [(1,0)] 2 c fun _ c=>?_))
 replace c:=c.ng
 refine Bd h fun x6 hx6 h=>Cb c (YE hx6) ⟨.f 5,tt⟩ call50 fun i6 _ _ c=>?_
 refine Fp [] 1 c fun _ c=>Esb 0 9 (L i6.1 x6 i6.2) c fun _ c=>?_
 refine E0 (T0 (Fp [(0,0)] 1 c fun _ c=>Ess 1 [I p0.Pc,L i1.1 x1 i1.2,L i2.1 x2 i2.2,L i3.1 x3 i3.2,I p0.In,L i4.1 x4 i4.2,I p0.Code,I p0.Steps,L i5.1 x5 i5.2,L i6.1 x6 i6.2] c fun _ c=>?_))
 refine E0 ?_
 cases h
 exact wp_ret (Rg c (i1.1,i1.2,i2.1,i2.2,i3.1,i3.2,i4.1,i4.2,i5.1,i5.2,i6.1,i6.2) [2,3,4,5,6,7] [] (.cell (α:=Agg 9) kk (.b 1) .nil))
theorem ZcF {p0 p1 p2 r} (h:Zau n p0 p1 p2 = some r):Con prog 8 [gV p0 ga0 gc1,L ga2 p1 gc3,I p2] [] [lR ga0 p0.Code gc1,lR ga2 p1 gc3,TBf prog] fun (i:Hp)=>([pJ r.1 i,.bool r.2],[OD (ownT 62) 62 (L i.1 r.1.Regs i.2.1) r.1.Regs,OD (ownT 62) 62 (L i.p2 r.1.Mem i.p3) r.1.Mem,sl3 (L i.p4 r.1.Stack i.p5) r.1.Stack,OD (ownT 62) 62 (L i.p6 r.1.Out i.p7) r.1.Out,OD (ownT 62) 62 (L i.p8 r.1.Cond i.p9) r.1.Cond,sl3 (L i.p10 r.1.Turns i.q11) r.1.Turns],[]):=by
 unfold Zau at h
 refine En func8 rfl ntmps8 fun _ fr w c=>?_
 refine T0 (Ebx (gC p0 ga0 gc1) c fun b1 _ _ c=>?_)
 refine Eal pZ c fun b2 _ _ c=>?_
 refine Fp [] 1 c fun _ c=>E0 (S0 (Bd h fun x1 hx1 h=>Bd h fun x2 hx2 h=>S0 (rZ [(2,.eq (.bool x1)),(6,.eq (.bool x2))] [(0,0)] mix c ⟨Ncl c (kN (ZdZ hx1)) ⟨.f 0,.f 1,tt⟩ call23,Ncl c (fun hg=>ZeY (iteF (gcF hg) hx2)) tt call24,tt⟩ fun _ _ c=>I0 c h (fun h=>?_) fun h=>?_)))
 refine T0 (Fp [] 1 c fun _ c=>Ess 1 pZ c fun _ c=>?_)
 refine Fp [] 1 c fun _ c=>E0 ?_
 replace c:=c.nilo (ownT 62) 62
 replace c:=c.nilo (ownT 62) 62
 replace c:=c.nil (α:=Int) 3
 replace c:=c.nilo (ownT 62) 62
 replace c:=c.nilo (ownT 62) 62
 replace c:=c.nil (α:=Int) 3
 cases h
 exact wp_ret (tr (Rg c (none,0,none,0,none,0,none,0,none,0,none,0) [2,3,4,5,6,7] [] (.cell (α:=Agg 9) kk (.b 1) (.tmp .nil))))
 refine K0 (T0 (Fp [(0,0)] 3 c fun _ c=>Bd h fun x3 hx3 h=>Cg c (ZeB hx3) ⟨.f 0,.f 1,.f 2,tt⟩ call26 fun i1 _ _ c=>?_))
 refine Bd h fun x4 hx4 h=>Cb c (Zep hx4) ⟨.f 3,.f 4,.f 5,.f 6,.f 7,.f 8,tt⟩ call25 fun i2 _ _ c=>?_
 replace c:=c.ng
 refine Ess 1 (pM x4 i2) c fun _ c=>?_
 refine Fp [] 1 c fun _ c=>E0 ?_
 cases h
 exact wp_ret (Rg c (i2.1,i2.2.1,i2.p2,i2.p3,i2.p4,i2.p5,i2.p6,i2.p7,i2.p8,i2.p9,i2.p10,i2.q11) [2,3,4,5,6,7] [] (.cell (α:=Agg 9) kk (.b 1) (.tmp .nil)))
theorem Zb2 (n:Nat):(∀ {p0 p1 ga0 gc1 ga2 gc3 r} (h:Zae n p0 p1 = some r),C0 55 [tV p0 ga0 gc1,tV p1 ga2 gc3] [lR ga0 p0.Kids gc1,lR ga2 p1.Kids gc3] (.bool r)) ∧
    (∀ {p0 p1 ga0 gc1 ga2 gc3 r} (h:Y0 n p0 p1 = some r),C0 27 [L ga0 p0 gc1,L ga2 p1 gc3] [lR ga0 p0 gc1,lR ga2 p1 gc3] (.bool r)):=by
 induction n with
 | zero=>exact ⟨by intro p0 p1 ga0 gc1 ga2 gc3 r h; simp [Zae] at h,by intro p0 p1 ga0 gc1 ga2 gc3 r h; simp [Y0] at h⟩
 | succ n ih=>
 obtain ⟨ih0,ih1⟩:=ih
 refine ⟨?_,?_⟩
 · intro p0 p1 ga0 gc1 ga2 gc3 r h
   rw [Zae] at h
   refine En func55 rfl ntmps55 fun _ fr w c=>?_
   refine T0 (Ebx (tC p0 ga0 gc1) c fun b1 _ _ c=>?_)
   refine Ebx (tC p1 ga2 gc3) c fun b2 _ _ c=>?_
   refine Fp [] 1 c fun _ c=>E0 (S0 (P0 [(1,0),(3,1)] c fun _ c=>I0 c h (fun h=>P0 [] c fun _ c=>rE) fun h=>?_))
   refine K0 (S0 (P0 [(1,0),(3,1)] c fun _ c=>I0 c h (fun h=>P0 [] c fun _ c=>rE) fun h=>?_))
   refine K0 (S0 (P0 [(1,0),(3,1)] c fun _ c=>I0 c h (fun h=>P0 [] c fun _ c=>rE) fun h=>?_))
   refine K0 (S0 (P0 [(1,0),(3,1)] c fun _ c=>I0 c h (fun h=>P0 [] c fun _ c=>rE) fun h=>?_))
   refine K0 (S0 (T0 (Fp [(1,0),(3,1)] 4 c fun _ c=>Bd h fun x1 hx1 h=>Cb c (ih1 hx1) ⟨.f 0,.f 1,tt⟩ call27 fun _ _ _ c=>?_)))
   exact Fp [] 1 c fun _ c=>E0 (I0 c h (fun h=>P0 [] c fun _ c=>rE) fun h=>K0 (P0 [] c fun _ c=>rE))
 · intro p0 p1 ga0 gc1 ga2 gc3 r h
   rw [Y0] at h
   refine En func27 rfl ntmps27 fun _ fr w c=>?_
   refine P0 [] c fun _ c=>S0 (P0 [] c fun _ c=>I0 c h (fun h=>P0 [] c fun _ c=>rE) fun h=>?_)
   refine K0 (S0 (P0 [] c fun _ c=>Bd h fun rl1 hit1 h=>?_))
   have hk1:=h
   refine LpR (fun s1  (_:Unit)=>([(0,L ga0 p0 gc1),(1,L ga2 p1 gc3),(5,I s1)],id,[])) (fun s  (_:Unit)=>([],id,[])) hit1 c () (c.rk [] [0,1]) (fun s1 q1 _ _ _ c h hr1=>?_) fun s1r _ _ _ hrl c=>?_
   refine S0 (P0 [] c fun _ c=>I0 c h (fun h=>?_) fun h=>?_)
   refine K0 (S0 (wp_block (Bd h fun x1 hx1 h=>?_)))
   obtain ⟨ep1,u1,c⟩:=c.elp (.f 0) hx1
   obtain ⟨a1,c1,rfl,c⟩:=c.o_Term 3
   refine Bd h fun x2 hx2 h=>?_
   obtain ⟨ep2,u2,c⟩:=c.elp (.f 1) hx2
   obtain ⟨a2,c2,rfl,c⟩:=c.o_Term 6
   refine Bd h fun x3 hx3 h=>S0 (rZ [(2,.eq (.pointer (some ep1))),(3,.eq (tV x1 a1 c1)),(6,.eq (.pointer (some ep2))),(7,.eq (tV x2 a2 c2)),(8,.eq (.bool x3))] [] mix c ⟨Nie c 2,Nle c 2,Nie c 5,Nle c 5,Ncl c (kN (ih0 hx3)) ⟨.f 4,.f 7,tt⟩ call55,tt⟩ fun _ _ c=>I0 c h (fun h=>?_) fun h=>?_)
   refine P0 [] c fun _ c=>?_
   obtain rfl:=hr1 _ (sk h)
   obtain rfl:=sj hk1
   exact wp_ret (br (tr (tr (br (tr (Rt c () [] []))))))
   refine K1 (bk (tn (P1 [] c fun _ c=>Nx h () (c.rk [] [0,1]))))
   refine wp_exit (te (te (be ?_)))
   obtain rfl:=hr1 _ (sk h)
   exact tn ⟨_,(),rfl,c.rk [] [0,1]⟩
   subst hrl
   exact P0 [] c fun _ c=>rE
theorem ZaD {n:Nat}:∀ {p0 p1 ga0 gc1 ga2 gc3 r} (h:Y0 n p0 p1 = some r),C0 27 [L ga0 p0 gc1,L ga2 p1 gc3] [lR ga0 p0 gc1,lR ga2 p1 gc3] (.bool r):=(Zb2 n).2
theorem ZbR {p0 p1 r} (h:ZaG n p0 p1 = some r):C0 11 [L ga0 p0 gc1,L ga2 p1 gc3] [lR ga0 p0 gc1,lR ga2 p1 gc3] (.bool r):=by
 unfold ZaG at h
 refine En func11 rfl ntmps11 fun _ fr w c=>?_
 refine P0 [] c fun _ c=>S0 (P0 [] c fun _ c=>I0 c h (fun h=>P0 [] c fun _ c=>rE) fun h=>?_)
 refine K0 (S0 (P0 [] c fun _ c=>Bd h fun rl1 hit1 h=>?_))
 have hk1:=h
 refine LpR (fun s1  (_:Unit)=>([(0,L ga0 p0 gc1),(1,L ga2 p1 gc3),(5,I s1)],id,[])) (fun s  (_:Unit)=>([],id,[])) hit1 c () (c.rk [] [0,1]) (fun s1 q1 _ _ _ c h hr1=>?_) fun s1r _ _ _ hrl c=>?_
 refine S0 (P0 [] c fun _ c=>I0 c h (fun h=>?_) fun h=>?_)
 refine K0 (S0 (wp_block (Bd h fun x1 hx1 h=>Bd h fun x2 hx2 h=>S0 (rZ [(2,Pd.el (x1:Int)),(3,.eq (I x1)),(6,Pd.el (x2:Int)),(7,.eq (I x2))] [] mix c ⟨Nid c (.f 0) (kN hx1),Nld c 2 (q:=x1) (atN 2),Nid c (.f 1) (kN hx2),Nld c 6 (q:=x2) (atN 6),tt⟩ fun _ _ c=>I0 c h (fun h=>?_) fun h=>?_))))
 refine P0 [] c fun _ c=>?_
 obtain rfl:=hr1 _ (sk h)
 obtain rfl:=sj hk1
 exact wp_ret (br (tr (tr (br (tr (Rt c () [] []))))))
 refine K1 (bk (tn (P1 [] c fun _ c=>Nx h () (c.rk [] [0,1]))))
 refine wp_exit (te (te (be ?_)))
 obtain rfl:=hr1 _ (sk h)
 exact tn ⟨_,(),rfl,c.rk [] [0,1]⟩
 subst hrl
 exact P0 [] c fun _ c=>rE
theorem ZbO {p0 p1 r} (h:Zad n p0 p1 = some r):C0 9 [pV p0 ga0 gc1 ga2 gc3 ga4 gc5 ga6 gc7 ga8 gc9 ga10 gc11,pV p1 ga12 gc13 ga14 gc15 ga16 gc17 ga18 gc19 ga20 gc21 ga22 gc23] [lR ga0 p0.Regs gc1,lR ga2 p0.Mem gc3,lR ga4 p0.Stack gc5,lR ga6 p0.Out gc7,lR ga8 p0.Cond gc9,lR ga10 p0.Turns gc11,lR ga12 p1.Regs gc13,lR ga14 p1.Mem gc15,lR ga16 p1.Stack gc17,lR ga18 p1.Out gc19,lR ga20 p1.Cond gc21,lR ga22 p1.Turns gc23] (.bool r):=by
 unfold Zad at h
 refine En func9 rfl ntmps9 fun _ fr w c=>?_
 refine T0 (Ebx (pC p0 ga0 gc1 ga2 gc3 ga4 gc5 ga6 gc7 ga8 gc9 ga10 gc11) c fun b1 _ _ c=>?_)
 refine Ebx (pC p1 ga12 gc13 ga14 gc15 ga16 gc17 ga18 gc19 ga20 gc21 ga22 gc23) c fun b2 _ _ c=>?_
 refine Fp [] 1 c fun _ c=>E0 (S0 (P0 [(1,0),(3,1)] c fun _ c=>I0 c h (fun h=>P0 [] c fun _ c=>rE) fun h=>?_))
 refine K0 (S0 (T0 (Fp [(1,0),(3,1)] 4 c fun _ c=>Bd h fun x1 hx1 h=>Cb c (ZaD hx1) ⟨.f 0,.f 6,tt⟩ call27 fun _ _ _ c=>?_)))
 refine Fp [] 1 c fun _ c=>E0 (I0 c h (fun h=>P0 [] c fun _ c=>rE) fun h=>?_)
 refine K0 (S0 (T0 (Fp [(1,0),(3,1)] 4 c fun _ c=>Bd h fun x2 hx2 h=>Cb c (ZaD hx2) ⟨.f 1,.f 7,tt⟩ call27 fun _ _ _ c=>?_)))
 refine Fp [] 1 c fun _ c=>E0 (I0 c h (fun h=>P0 [] c fun _ c=>rE) fun h=>?_)
 refine K0 (S0 (T0 (Fp [(1,0),(3,1)] 4 c fun _ c=>Bd h fun x3 hx3 h=>Cb c (ZbR hx3) ⟨.f 2,.f 8,tt⟩ call11 fun _ _ _ c=>?_)))
 refine Fp [] 1 c fun _ c=>E0 (I0 c h (fun h=>P0 [] c fun _ c=>rE) fun h=>?_)
 refine K0 (S0 (P0 [(1,0),(3,1)] c fun _ c=>I0 c h (fun h=>P0 [] c fun _ c=>rE) fun h=>?_))
 refine K0 (S0 (T0 (Fp [(1,0),(3,1)] 4 c fun _ c=>?_)))
 replace c:=c.ng
 refine Bd h fun x4 hx4 h=>Cb c (ZaD hx4) ⟨.f 3,.f 9,tt⟩ call27 fun _ _ _ c=>?_
 refine Fp [] 1 c fun _ c=>E0 (I0 c h (fun h=>P0 [] c fun _ c=>rE) fun h=>?_)
 refine K0 (S0 (P0 [(1,0),(3,1)] c fun _ c=>I0 c h (fun h=>P0 [] c fun _ c=>rE) fun h=>?_))
 refine K0 (S0 (P0 [(1,0),(3,1)] c fun _ c=>I0 c h (fun h=>P0 [] c fun _ c=>rE) fun h=>?_))
 refine K0 (S0 (T0 (Fp [(1,0),(3,1)] 4 c fun _ c=>Bd h fun x5 hx5 h=>Cb c (ZaD hx5) ⟨.f 4,.f 10,tt⟩ call27 fun _ _ _ c=>?_)))
 refine Fp [] 1 c fun _ c=>E0 (I0 c h (fun h=>P0 [] c fun _ c=>rE) fun h=>?_)
 refine K0 (S0 (T0 (Fp [(1,0),(3,1)] 4 c fun _ c=>Bd h fun x6 hx6 h=>Cb c (ZbR hx6) ⟨.f 5,.f 11,tt⟩ call11 fun _ _ _ c=>?_)))
 exact Fp [] 1 c fun _ c=>E0 (I0 c h (fun h=>P0 [] c fun _ c=>rE) fun h=>K0 (P0 [] c fun _ c=>rE))
theorem ZfO {p0 p1 r} (h:ZbL p0 p1 = some r):C0 56 [nV p0,nV p1] [] (.bool r):=by
 unfold ZbL at h
 refine En func56 rfl ntmps56 fun _ fr w c=>?_
 refine T0 (Ebx (nC p0) c fun b1 _ _ c=>?_)
 refine Ebx (nC p1) c fun b2 _ _ c=>?_
 exact Fp [] 1 c fun _ c=>E0 (S0 (P0 [(1,0),(3,1)] c fun _ c=>I0 c h (fun h=>P0 [] c fun _ c=>rE) fun h=>K0 (S0 (P0 [(1,0),(3,1)] c fun _ c=>I0 c h (fun h=>P0 [] c fun _ c=>rE) fun h=>K0 (S0 (P0 [(1,0),(3,1)] c fun _ c=>I0 c h (fun h=>P0 [] c fun _ c=>rE) fun h=>K0 (S0 (P0 [(1,0),(3,1)] c fun _ c=>I0 c h (fun h=>P0 [] c fun _ c=>rE) fun h=>K0 (P0 [] c fun _ c=>rE)))))))))
theorem ZfG {p0 p1 r} (h:Zbt n p0 p1 = some r):C0 28 [L ga0 p0 gc1,L ga2 p1 gc3] [lR ga0 p0 gc1,lR ga2 p1 gc3] (.bool r):=by
 unfold Zbt at h
 refine En func28 rfl ntmps28 fun _ fr w c=>?_
 refine P0 [] c fun _ c=>S0 (P0 [] c fun _ c=>I0 c h (fun h=>P0 [] c fun _ c=>rE) fun h=>?_)
 refine K0 (S0 (P0 [] c fun _ c=>Bd h fun rl1 hit1 h=>?_))
 have hk1:=h
 refine LpR (fun s1  (_:Unit)=>([(0,L ga0 p0 gc1),(1,L ga2 p1 gc3),(5,I s1)],id,[])) (fun s  (_:Unit)=>([],id,[])) hit1 c () (c.rk [] [0,1]) (fun s1 q1 _ _ _ c h hr1=>?_) fun s1r _ _ _ hrl c=>?_
 refine S0 (P0 [] c fun _ c=>I0 c h (fun h=>?_) fun h=>?_)
 refine K0 (S0 (wp_block (Bd h fun x1 hx1 h=>Bd h fun x2 hx2 h=>Bd h fun x3 hx3 h=>S0 (rZ [(2,Pd.el (x1:D.Ins)),(3,.eq (nV x1)),(6,Pd.el (x2:D.Ins)),(7,.eq (nV x2)),(8,.eq (.bool x3))] [] mix c ⟨Nid c (.f 0) (kN hx1),Nld c 2 (q:=x1) (atN 2),Nid c (.f 1) (kN hx2),Nld c 6 (q:=x2) (atN 6),Ncl c (kN (ZfO hx3)) tt call56,tt⟩ fun _ _ c=>I0 c h (fun h=>?_) fun h=>?_))))
 refine P0 [] c fun _ c=>?_
 obtain rfl:=hr1 _ (sk h)
 obtain rfl:=sj hk1
 exact wp_ret (br (tr (tr (br (tr (Rt c () [] []))))))
 refine K1 (bk (tn (P1 [] c fun _ c=>Nx h () (c.rk [] [0,1]))))
 refine wp_exit (te (te (be ?_)))
 obtain rfl:=hr1 _ (sk h)
 exact tn ⟨_,(),rfl,c.rk [] [0,1]⟩
 subst hrl
 exact P0 [] c fun _ c=>rE
theorem ZdN {p0 p1 r} (h:Zan n p0 p1 = some r):C0 10 [gV p0 ga0 gc1,gV p1 ga2 gc3] [lR ga0 p0.Code gc1,lR ga2 p1.Code gc3] (.bool r):=by
 unfold Zan at h
 refine En func10 rfl ntmps10 fun _ fr w c=>?_
 refine T0 (Ebx (gC p0 ga0 gc1) c fun b1 _ _ c=>?_)
 refine Ebx (gC p1 ga2 gc3) c fun b2 _ _ c=>?_
 refine Fp [] 1 c fun _ c=>E0 (S0 (P0 [(1,0),(3,1)] c fun _ c=>I0 c h (fun h=>P0 [] c fun _ c=>rE) fun h=>?_))
 refine K0 (S0 (P0 [(1,0),(3,1)] c fun _ c=>I0 c h (fun h=>P0 [] c fun _ c=>rE) fun h=>?_))
 refine K0 (S0 (P0 [(1,0),(3,1)] c fun _ c=>I0 c h (fun h=>P0 [] c fun _ c=>rE) fun h=>?_))
 refine K0 (S0 (T0 (Fp [(1,0),(3,1)] 4 c fun _ c=>Bd h fun x1 hx1 h=>Cb c (ZfG hx1) ⟨.f 0,.f 1,tt⟩ call28 fun _ _ _ c=>?_)))
 exact Fp [] 1 c fun _ c=>E0 (I0 c h (fun h=>P0 [] c fun _ c=>rE) fun h=>K0 (P0 [] c fun _ c=>rE))
theorem Zei {p0 p1 gn2 r} (h:Za1 n p0 p1 = some r):Con prog 29 [.slice ga0 gn2 gc1,I p1] [sl65 (.slice ga0 gn2 gc1) p0] [] fun (_:Unit)=>([I r.1],[sl65 (.slice ga0 gn2 gc1) r.2],[]):=by
 unfold Za1 at h
 refine En func29 rfl ntmps29 fun _ fr w c=>?_
 obtain ⟨rfl,c⟩:=c.relen 0
 refine P0 [] c fun _ c=>S0 (P0 [] c fun _ c=>Bd h fun rl1 hit1 h=>Lp (fun s1  (_:Unit)=>([(0,L ga0 p0 gc1),(1,I s1.1),(5,I s1.2.1)],fun Γ=>Γ.set 0 (sl65 (L ga0 p0 gc1) s1.q2),[])) (fun  (_:Unit)=>([(1,I rl1.1)],fun Γ=>Γ.set 0 (sl65 (L ga0 p0 gc1) rl1.2),[])) hit1 c () (c.rk [0] []) (fun s1 q1 _ _ _ c h hr1=>?_) fun _ _ _ c=>?_)
 refine S0 (P0 [] c fun _ c=>I0 c h (fun h=>?_) fun h=>?_)
 refine K0 (S0 (wp_block (T0 (Fp [] 3 c fun _ c=>Bd h fun x1 hx1 h=>Bd h fun x2 hx2 h=>Esf 0 (I s1.1) c hx1 hx2 fun _ _ _ _ c=>?_))))
 refine E0 (P0 [] c fun _ c=>T0 (Fp [] 3 c fun _ c=>Bd h fun x3 hx3 h=>Bd h fun x4 hx4 h=>Esf 0 (I (w64 (s1.1 + 1))) c hx3 hx4 fun _ _ _ _ c=>?_))
 refine E0 (P0 [] c fun _ c=>T0 (Fp [] 3 c fun _ c=>Bd h fun x5 hx5 h=>Bd h fun x6 hx6 h=>Esf 0 (I (w64 ((w64 (s1.1 + 1)) + 1))) c hx5 hx6 fun _ _ _ _ c=>?_))
 refine E0 (P0 [] c fun _ c=>T0 (Fp [] 3 c fun _ c=>Bd h fun x7 hx7 h=>Bd h fun x8 hx8 h=>Esf 0 (I (w64 ((w64 ((w64 (s1.1 + 1)) + 1)) + 1))) c hx7 hx8 fun _ _ _ _ c=>?_))
 refine E0 (Tq (P1 [] c fun _ c=>bk (tn (P1 [] c fun _ c=>Nx h () (c.rk [0] [])))))
 refine wp_exit (te (te (be ?_)))
 obtain rfl:=hr1 _ (sk h)
 exact tn ⟨(),c.rk [0] []⟩
 refine P0 [] c fun _ c=>?_
 cases h
 exact wp_ret (Rt c () [0] [])
theorem Zdn {p0 p1 gn2 r} (h:XA n p0 p1 = some r):Con prog 12 [.agg #[I p0.W,I p0.Mem,I p0.In,.slice ga0 gn2 gc1],I p1] [sl65 (.slice ga0 gn2 gc1) p0.Code] [] fun (_:Unit)=>([I r.1],[sl65 (.slice ga0 gn2 gc1) r.2.Code],[]):=by
 unfold XA at h
 refine En func12 rfl ntmps12 fun _ fr w c=>?_
 obtain ⟨rfl,c⟩:=c.relen 0
 refine T0 (Ebx (gC p0 ga0 gc1) c fun b1 _ _ c=>?_)
 refine Fp [] 1 c fun _ c=>E0 (T0 (Fp [(1,0)] 3 c fun _ c=>Bd h fun x1 hx1 h=>Ca [0] c (Zei hx1) tt call29 fun _ _ _ c=>?_))
 refine Fp [] 1 c fun _ c=>E0 (P0 [] c fun _ c=>?_)
 cases h
 exact wp_ret (Rt c () [1] [])
theorem Zbf {p0 p1 gn2 r} (h:Xv n p0 p1 = some r):Con prog 13 [.slice ga0 gn2 gc1,I p1] [sl3 (.slice ga0 gn2 gc1) p0] [] fun (_:Unit)=>([I r.1],[sl3 (.slice ga0 gn2 gc1) r.2],[]):=by
 unfold Xv at h
 refine En func13 rfl ntmps13 fun _ fr w c=>?_
 obtain ⟨rfl,c⟩:=c.relen 0
 refine P0 [] c fun _ c=>S0 (P0 [] c fun _ c=>Bd h fun rl1 hit1 h=>Lp (fun s1  (_:Unit)=>([(0,L ga0 p0 gc1),(1,I s1.1),(5,I s1.2.1)],fun Γ=>Γ.set 0 (sl3 (L ga0 p0 gc1) s1.q2),[])) (fun  (_:Unit)=>([(1,I rl1.1)],fun Γ=>Γ.set 0 (sl3 (L ga0 p0 gc1) rl1.2),[])) hit1 c () (c.rk [0] []) (fun s1 q1 _ _ _ c h hr1=>?_) fun _ _ _ c=>?_)
 refine S0 (P0 [] c fun _ c=>I0 c h (fun h=>?_) fun h=>?_)
 refine K0 (S0 (wp_block (T0 (Fp [] 3 c fun _ c=>Bd h fun x1 hx1 h=>Eset 0 c hx1 fun _ _ _ c=>?_))))
 refine E0 (Tq (P1 [] c fun _ c=>bk (tn (P1 [] c fun _ c=>Nx h () (c.rk [0] [])))))
 refine wp_exit (te (te (be ?_)))
 obtain rfl:=hr1 _ (sk h)
 exact tn ⟨(),c.rk [0] []⟩
 refine P0 [] c fun _ c=>?_
 cases h
 exact wp_ret (Rt c () [0] [])
theorem Zcq {p0 r} (h:Y9 n p0 = some r):C0 57 [I p0] [] (Str.val r):=by
 unfold Y9 at h
 refine En func57 rfl ntmps57 fun _ fr w c=>?_
 refine P0 [] c fun _ c=>S0 (P0 [] c fun _ c=>I0 c h (fun h=>P0 [] c fun _ c=>rE) fun h=>?_)
 refine K0 (P0 [] c fun _ c=>Bd h fun rl1 hit1 h=>S0 (Lp (fun s1  (_:Unit)=>([(0,I s1.1),(3,Str.val s1.2)],id,[])) (fun  (_:Unit)=>([(3,Str.val rl1)],id,[])) hit1 c () (c.rk [] []) (fun s1 q1 _ _ _ c h hr1=>?_) fun _ _ _ c=>?_))
 refine S0 (P0 [] c fun _ c=>I0 c h (fun h=>?_) fun h=>?_)
 refine K0 (wp_block (T0 (Fp [] 1 c fun _ c=>Bd h fun x1 hx1 h=>Erem c hx1 fun _ c=>?_)))
 refine Fp [] 2 c fun _ c=>Elt 5 ([(Byt.mk (IntKind.u8.wrap (w64 (48 + x1))))]:List Byt) c fun a1 c1 _ _ c=>?_
 refine Ebs c (.g 0) (fun _ c=>?_) Tryz.underlying108
 refine Fp [] 1 c fun _ c=>Bd h fun x2 hx2 h=>Ecat c hx2 fun _ c=>?_
 refine Fp [] 1 c fun _ c=>E0 (T1 (Fp [] 1 c fun _ c=>Bd h fun x3 hx3 h=>Equo c hx3 fun _ c=>?_))
 refine Fp [] 1 c fun _ c=>E1 (bk (tn (Nx h () (c.rk [] []))))
 refine wp_exit (te (te (be ?_)))
 obtain rfl:=hr1 _ (sk h)
 exact tn ⟨(),c.rk [] []⟩
 refine T0 (Fp [] 1 c fun _ c=>Bd h fun x4 hx4 h=>Ecat c hx4 fun _ c=>?_)
 exact Fp [] 1 c fun _ c=>E0 rE
theorem XY {n:Nat}:∀ {p0 p1 ga0 gc1 gn2 r} (h:Yg n p0 p1 = some r),Con prog 30 [.slice ga0 gn2 gc1,I p1] [OD (ownT 62) 62 (.slice ga0 gn2 gc1) p0] [] fun (_:Unit)=>([I r.1],[OD (ownT 62) 62 (.slice ga0 gn2 gc1) r.2],[]):=by
 induction n with
 | zero=>intro p0 p1 ga0 gc1 gn2 r h; simp [Yg] at h
 | succ n ih=>
 intro p0 p1 ga0 gc1 gn2 r h
 rw [Yg] at h
 refine En func30 rfl ntmps30 fun _ fr w c=>?_
 obtain ⟨rfl,c⟩:=c.releno 0
 refine P0 [] c fun _ c=>S0 (P0 [] c fun _ c=>Bd h fun rl1 hit1 h=>Lp (fun s1  (_:Unit)=>([(0,L ga0 p0 gc1),(1,I s1.1),(5,I s1.2.1)],fun Γ=>Γ.set 0 (OD (ownT 62) 62 (L ga0 p0 gc1) s1.q2),[])) (fun  (_:Unit)=>([(1,I rl1.1)],fun Γ=>Γ.set 0 (OD (ownT 62) 62 (L ga0 p0 gc1) rl1.2),[])) hit1 c () (c.rk [0] []) (fun s1 q1 _ _ _ c h hr1=>?_) fun _ _ _ c=>?_)
 refine S0 (P0 [] c fun _ c=>I0 c h (fun h=>?_) fun h=>?_)
 refine K0 (S0 (wp_block (T0 (Fp [] 3 c fun _ c=>Bd h fun x1 hx1 h=>?_))))
 obtain ⟨a1,c1,c⟩:=c.fo_Term 0 hx1
 refine Eohs 0 (I s1.1) (Rw.Term.mk s1.1 x1.W x1.N x1.Name (hd a1 x1.Kids c1)) c fun _ _ _ _ c=>?_
 refine E0 (P0 [] c fun _ c=>T0 (Fp [] 3 c fun _ c=>Eohs 1 (I (w64 (s1.1 + 1))) (Rw.Term.mk s1.1 (w64 (s1.1 + 1)) x1.N x1.Name (hd a1 x1.Kids c1)) c fun _ _ _ _ c=>?_))
 refine E0 (P0 [] c fun _ c=>T0 (Fp [] 3 c fun _ c=>?_))
 replace c:=c.nf
 refine Eohs 1 (I (w64 ((w64 (s1.1 + 1)) + 1))) (Rw.Term.mk s1.1 (w64 (s1.1 + 1)) (w64 ((w64 (s1.1 + 1)) + 1)) x1.Name (hd a1 x1.Kids c1)) c fun _ _ _ _ c=>?_
 refine E0 (P0 [] c fun _ c=>T0 (Fp [] 3 c fun _ c=>Bd h fun x2 hx2 h=>Cb c (Zcq hx2) tt call57 fun _ _ _ c=>?_))
 refine Eohs 1 (Str.val x2) (Rw.Term.mk s1.1 (w64 (s1.1 + 1)) (w64 ((w64 (s1.1 + 1)) + 1)) x2 (hd a1 x1.Kids c1)) c fun _ _ _ _ c=>?_
 refine E0 (P0 [] c fun _ c=>T1 (Fp [] 2 c fun _ c=>?_))
 replace c:=c.nf
 refine Eohl 1 (L a1 x1.Kids c1) c fun _ _ _ c=>?_
 refine Fp [] 1 c fun _ c=>Bd h fun x3 hx3 h=>Ca [0] c (ih hx3) tt call30 fun _ _ _ c=>?_
 refine Fp [] 1 c fun _ c=>E1 (bk (tn (P1 [] c fun _ c=>Bd h fun x4 hx4 h=>?_)))
 replace c:=c.un_Term (E:=62) (v:=L ga0 p0 gc1) (y:=(D.Term.mk s1.1 (w64 (s1.1 + 1)) (w64 ((w64 (s1.1 + 1)) + 1)) x2 x3.2)) (b:=a1) (m:=List.length x1.Kids) (cp:=c1) 0 1 hx4
 replace c:=c.nf
 exact Nx h () (c.rk [0] [])
 refine wp_exit (te (te (be ?_)))
 obtain rfl:=hr1 _ (sk h)
 exact tn ⟨(),c.rk [0] []⟩
 refine P0 [] c fun _ c=>?_
 cases h
 exact wp_ret (Rt c () [0] [])
theorem Zek {p0 p1 gn12 gn13 gn14 gn15 gn16 gn17 r} (h:Za8 n p0 p1 = some r):Con prog 14 [.agg #[I p0.Pc,.slice ga0 gn12 gc1,.slice ga2 gn13 gc3,.slice ga4 gn14 gc5,I p0.In,.slice ga6 gn15 gc7,I p0.Code,I p0.Steps,.slice ga8 gn16 gc9,.slice ga10 gn17 gc11],I p1] [OD (ownT 62) 62 (.slice ga0 gn12 gc1) p0.Regs,OD (ownT 62) 62 (.slice ga2 gn13 gc3) p0.Mem,sl3 (.slice ga4 gn14 gc5) p0.Stack,OD (ownT 62) 62 (.slice ga6 gn15 gc7) p0.Out,OD (ownT 62) 62 (.slice ga8 gn16 gc9) p0.Cond,sl3 (.slice ga10 gn17 gc11) p0.Turns] [] fun (_:Unit)=>([I r.1],[OD (ownT 62) 62 (.slice ga0 gn12 gc1) r.2.Regs,OD (ownT 62) 62 (.slice ga2 gn13 gc3) r.2.Mem,sl3 (.slice ga4 gn14 gc5) r.2.Stack,OD (ownT 62) 62 (.slice ga6 gn15 gc7) r.2.Out,OD (ownT 62) 62 (.slice ga8 gn16 gc9) r.2.Cond,sl3 (.slice ga10 gn17 gc11) r.2.Turns],[]):=by
 unfold Za8 at h
 refine En func14 rfl ntmps14 fun _ fr w c=>?_
 obtain ⟨rfl,c⟩:=c.releno 0
 obtain ⟨rfl,c⟩:=c.releno 1
 obtain ⟨rfl,c⟩:=c.relen 2
 obtain ⟨rfl,c⟩:=c.releno 3
 obtain ⟨rfl,c⟩:=c.releno 4
 obtain ⟨rfl,c⟩:=c.relen 5
 refine T0 (Ebx (pC p0 ga0 gc1 ga2 gc3 ga4 gc5 ga6 gc7 ga8 gc9 ga10 gc11) c fun b1 _ _ c=>?_)
 refine Fp [] 1 c fun _ c=>E0 (T0 (Fp [(1,0)] 3 c fun _ c=>Bd h fun x1 hx1 h=>Ca [0] c (XY hx1) tt call30 fun _ _ _ c=>?_))
 refine Fp [] 1 c fun _ c=>E0 (T0 (Fp [(1,0)] 3 c fun _ c=>Bd h fun x2 hx2 h=>Ca [0] c (XY hx2) tt call30 fun _ _ _ c=>?_))
 refine Fp [] 1 c fun _ c=>E0 (T0 (Fp [(1,0)] 3 c fun _ c=>?_))
 replace c:=c.nf
 refine Bd h fun x3 hx3 h=>Ca [0] c (Zbf hx3) tt call13 fun _ _ _ c=>?_
 refine Fp [] 1 c fun _ c=>E0 (T0 (Fp [(1,0)] 3 c fun _ c=>Bd h fun x4 hx4 h=>Ca [0] c (XY hx4) tt call30 fun _ _ _ c=>?_))
 refine Fp [] 1 c fun _ c=>E0 (T0 (Fp [(1,0)] 3 c fun _ c=>Bd h fun x5 hx5 h=>Ca [0] c (XY hx5) tt call30 fun _ _ _ c=>?_))
 refine Fp [] 1 c fun _ c=>E0 (T0 (Fp [(1,0)] 3 c fun _ c=>?_))
 replace c:=c.nf
 refine Bd h fun x6 hx6 h=>Ca [0] c (Zbf hx6) tt call13 fun _ _ _ c=>?_
 refine Fp [] 1 c fun _ c=>E0 (P0 [] c fun _ c=>?_)
 cases h
 exact wp_ret (Rt c () [1,2,3,4,5,6] [])
theorem Zab {n:Nat}:∀ {p0 p1 ga0 gc1 r} (h:ZW n p0 p1 = some r),C0 31 [L ga0 p0 gc1,I p1] [lR ga0 p0 gc1] (I r):=by
 induction n with
 | zero=>intro p0 p1 ga0 gc1 r h; simp [ZW] at h
 | succ n ih=>
 intro p0 p1 ga0 gc1 r h
 rw [ZW] at h
 refine En func31 rfl ntmps31 fun _ fr w c=>?_
 refine P0 [] c fun _ c=>S0 (P0 [] c fun _ c=>Bd h fun rl1 hit1 h=>?_)
 have hk1:=h
 refine LpR (fun s1  (_:Unit)=>([(0,L ga0 p0 gc1),(1,I s1.1),(5,I s1.2)],id,[])) (fun s  (_:Unit)=>([(1,I s)],id,[])) hit1 c () (c.rk [] [0]) (fun s1 q1 _ _ _ c h hr1=>?_) fun s1r _ _ _ hrl c=>?_
 refine S0 (P0 [] c fun _ c=>I0 c h (fun h=>?_) fun h=>?_)
 refine K0 (S0 (wp_block (S0 (T0 (Fp [] 2 c fun _ c=>Bd h fun x1 hx1 h=>Eef c (.f 0) hx1 ZkR fun _ _ _ c=>?_)))))
 refine Fp [] 2 c fun _ c=>E0 (I0 c h (fun h=>?_) fun h=>?_)
 refine P0 [] c fun _ c=>?_
 obtain rfl:=hr1 _ (sk h)
 obtain rfl:=sj hk1
 exact wp_ret (tr (br (tr (tr (br (tr (Rt c () [] [])))))))
 refine K0 (P0 [] c fun _ c=>S0 (T0 (Fp [] 2 c fun _ c=>Bd h fun x2 hx2 h=>Eef c (.f 0) hx2 Zb3 fun _ _ _ c=>?_)))
 refine Fp [] 2 c fun _ c=>E0 (I0 c h (fun h=>?_) fun h=>?_)
 refine P0 [] c fun _ c=>?_
 obtain rfl:=hr1 _ (sk h)
 obtain rfl:=sj hk1
 exact wp_ret (tr (br (tr (tr (br (tr (Rt c () [] [])))))))
 refine K0 (P0 [] c fun _ c=>S0 (T0 (Fp [] 2 c fun _ c=>Bd h fun x3 hx3 h=>Eef c (.f 0) hx3 ZmK fun _ _ _ c=>?_)))
 refine Fp [] 2 c fun _ c=>E0 (I0 c h (fun h=>?_) fun h=>?_)
 refine P0 [] c fun _ c=>?_
 obtain rfl:=hr1 _ (sk h)
 obtain rfl:=sj hk1
 exact wp_ret (tr (br (tr (tr (br (tr (Rt c () [] [])))))))
 refine K0 (P0 [] c fun _ c=>S0 (Bd h fun x4 hx4 h=>?_))
 obtain ⟨ep1,u1,c⟩:=c.elp (.f 0) hx4
 obtain ⟨a1,c1,rfl,c⟩:=c.o_Term 2
 refine Bd h fun x5 hx5 h=>S0 (rZ [(2,.eq (.pointer (some ep1))),(4,.eq (Str.val x4.Name)),(6,.eq (Str.val x5))] [] mix c ⟨Nie c 1,Nlc c 1 3,Ncl c (kN (Zcq hx5)) tt call57,tt⟩ fun _ _ c=>I0 c h (fun h=>?_) fun h=>?_)
 refine P0 [] c fun _ c=>?_
 obtain rfl:=hr1 _ (sk h)
 obtain rfl:=sj hk1
 exact wp_ret (tr (br (tr (tr (br (tr (Rt c () [] [])))))))
 refine K0 (P0 [] c fun _ c=>T0 (Fp [] 2 c fun _ c=>Bd h fun x6 hx6 h=>Eemf c (.f 0) hx6 ZgV fun _ _ u2 _ c=>?_))
 obtain ⟨a2,c2,rfl⟩:=c.sl 4
 refine Fp [] 1 c fun _ c=>Bd h fun x7 hx7 h=>Cb c (ih hx7) ⟨.f 4,tt⟩ call31 fun _ _ _ c=>?_
 refine Fp [] 1 c fun _ c=>E0 (P0 [] c fun _ c=>I0 c h (fun h=>?_) fun h=>?_)
 refine P0 [] c fun _ c=>?_
 obtain rfl:=hr1 _ (sk h)
 obtain rfl:=sj hk1
 exact wp_ret (br (tr (tr (br (tr (Rt c () [] []))))))
 refine K1 (bk (tn (P1 [] c fun _ c=>Nx h () (c.rk [] [0]))))
 refine wp_exit (te (te (be ?_)))
 obtain rfl:=hr1 _ (sk h)
 exact tn ⟨_,(),rfl,c.rk [] [0]⟩
 subst hrl
 exact P0 [] c fun _ c=>rE
theorem Zcw {p0 p1 r} (h:XT n p0 p1 = some r):C0 32 [L ga0 p0 gc1,I p1] [lR ga0 p0 gc1] (I r):=by
 unfold XT at h
 refine En func32 rfl ntmps32 fun _ fr w c=>?_
 refine P0 [] c fun _ c=>S0 (P0 [] c fun _ c=>Bd h fun rl1 hit1 h=>?_)
 have hk1:=h
 refine LpR (fun s1  (_:Unit)=>([(0,L ga0 p0 gc1),(1,I s1.1),(5,I s1.2)],id,[])) (fun s  (_:Unit)=>([(1,I s)],id,[])) hit1 c () (c.rk [] [0]) (fun s1 q1 _ _ _ c h hr1=>?_) fun s1r _ _ _ hrl c=>?_
 refine S0 (P0 [] c fun _ c=>I0 c h (fun h=>?_) fun h=>?_)
 refine K0 (S0 (wp_block (S0 (T0 (Fp [] 2 c fun _ c=>Bd h fun x1 hx1 h=>Eel c (.f 0) hx1 fun _ _ c=>?_)))))
 refine Fp [] 2 c fun _ c=>E0 (I0 c h (fun h=>?_) fun h=>?_)
 refine P0 [] c fun _ c=>?_
 obtain rfl:=hr1 _ (sk h)
 obtain rfl:=sj hk1
 exact wp_ret (tr (br (tr (tr (br (tr (Rt c () [] [])))))))
 refine K0 (Tq (P1 [] c fun _ c=>bk (tn (P1 [] c fun _ c=>Nx h () (c.rk [] [0])))))
 refine wp_exit (te (te (be ?_)))
 obtain rfl:=hr1 _ (sk h)
 exact tn ⟨_,(),rfl,c.rk [] [0]⟩
 subst hrl
 exact P0 [] c fun _ c=>rE
theorem Zcs {p0 p1 r} (h:XU n p0 p1 = some r):C0 15 [pV p0 ga0 gc1 ga2 gc3 ga4 gc5 ga6 gc7 ga8 gc9 ga10 gc11,I p1] [lR ga0 p0.Regs gc1,lR ga2 p0.Mem gc3,lR ga4 p0.Stack gc5,lR ga6 p0.Out gc7,lR ga8 p0.Cond gc9,lR ga10 p0.Turns gc11] (I r):=by
 unfold XU at h
 refine En func15 rfl ntmps15 fun _ fr w c=>?_
 refine T0 (Ebx (pC p0 ga0 gc1 ga2 gc3 ga4 gc5 ga6 gc7 ga8 gc9 ga10 gc11) c fun b1 _ _ c=>?_)
 refine Fp [] 1 c fun _ c=>E0 (T0 (Fp [(1,0)] 3 c fun _ c=>Bd h fun x1 hx1 h=>Cb c (Zab hx1) ⟨.f 0,tt⟩ call31 fun _ _ _ c=>?_))
 refine Fp [] 1 c fun _ c=>E0 (S0 (P0 [] c fun _ c=>I0 c h (fun h=>P0 [] c fun _ c=>rE) fun h=>?_))
 refine K0 (T0 (Fp [(1,0)] 3 c fun _ c=>Bd h fun x2 hx2 h=>Cb c (Zab hx2) ⟨.f 1,tt⟩ call31 fun _ _ _ c=>?_))
 refine Fp [] 1 c fun _ c=>E0 (S0 (P0 [] c fun _ c=>I0 c h (fun h=>P0 [] c fun _ c=>rE) fun h=>?_))
 refine K0 (T0 (Fp [(1,0)] 3 c fun _ c=>Bd h fun x3 hx3 h=>Cb c (Zcw hx3) ⟨.f 2,tt⟩ call32 fun _ _ _ c=>?_))
 refine Fp [] 1 c fun _ c=>E0 (S0 (P0 [] c fun _ c=>I0 c h (fun h=>P0 [] c fun _ c=>rE) fun h=>?_))
 refine K0 (T0 (Fp [(1,0)] 3 c fun _ c=>Bd h fun x4 hx4 h=>Cb c (Zab hx4) ⟨.f 3,tt⟩ call31 fun _ _ _ c=>?_))
 refine Fp [] 1 c fun _ c=>E0 (S0 (P0 [] c fun _ c=>I0 c h (fun h=>P0 [] c fun _ c=>rE) fun h=>?_))
 refine K0 (T0 (Fp [(1,0)] 3 c fun _ c=>?_))
 replace c:=c.ng
 refine Bd h fun x5 hx5 h=>Cb c (Zab hx5) ⟨.f 4,tt⟩ call31 fun _ _ _ c=>?_
 refine Fp [] 1 c fun _ c=>E0 (S0 (P0 [] c fun _ c=>I0 c h (fun h=>P0 [] c fun _ c=>rE) fun h=>?_))
 refine K0 (T0 (Fp [(1,0)] 3 c fun _ c=>Bd h fun x6 hx6 h=>Cb c (Zcw hx6) ⟨.f 5,tt⟩ call32 fun _ _ _ c=>?_))
 exact Fp [] 1 c fun _ c=>E0 (S0 (P0 [] c fun _ c=>I0 c h (fun h=>P0 [] c fun _ c=>rE) fun h=>K0 (P0 [] c fun _ c=>rE)))
theorem Zc5 {p0 p1 p2 r} (h:X0 n p0 p1 p2 = some r):C0 3 [gV p0 ga0 gc1,L ga2 p1 gc3,I p2] [lR ga0 p0.Code gc1,lR ga2 p1 gc3,TBf prog] (.bool r):=by
 unfold X0 at h
 refine En func3 rfl ntmps3 fun _ fr w c=>?_
 refine T0 (Ebx (gC p0 ga0 gc1) c fun b1 _ _ c=>?_)
 refine Fp [] 1 c fun _ c=>E0 (S0 (P0 [] c fun _ c=>I0 c h (fun h=>P0 [] c fun _ c=>rE) fun h=>?_))
 refine K0 (P0 [] c fun _ c=>T0 (Fp [(0,0)] 2 c fun _ c=>Bd h fun x1 hx1 h=>Cb c (Zd4 hx1) ⟨.f 0,tt⟩ call4 fun _ _ _ c=>?_))
 refine Fp [] 1 c fun _ c=>E0 (S0 (P0 [] c fun _ c=>I0 c h (fun h=>P0 [] c fun _ c=>rE) fun h=>?_))
 replace c:=c.ng
 refine K0 (T0 (Fp [(0,0)] 1 c fun _ c=>Bd h fun x2 hx2 h=>Cb c (XZ hx2) ⟨.f 0,tt⟩ call6 fun i1 _ _ c=>?_))
 replace c:=c.ng
 refine Fp [] 1 c fun _ c=>Bd h fun x3 hx3 h=>Cb c (ZaZ hx3) ⟨.f 1,tt⟩ call7 fun i2 _ _ c=>?_
 refine Fp [] 1 c fun _ c=>?_
 replace c:=c.fz 1
 replace c:=c.fz 1
 replace c:=c.ng
 refine Bd h fun x4 hx4 h=>Cg c (ZeF hx4) ⟨.f 3,.f 4,tt⟩ call5 fun i3 _ _ c=>?_
 refine Fp [] 3 c fun _ c=>?_
 replace c:=c.ng
 refine Eal pZ c fun b2 _ _ c=>?_
 refine Ess 1 (pM x4.1 i3) c fun _ c=>?_
 replace c:=c.ng
 refine Fp [] 1 c fun _ c=>E0 (T0 (Fp [(0,0)] 1 c fun _ c=>Bd h fun x5 hx5 h=>Cb c (XZ hx5) ⟨.f 0,tt⟩ call6 fun i4 _ _ c=>?_))
 refine Eal [I 0,I 0,I 0,L none ([]:List D.Ins) 0] c fun b3 _ _ c=>?_
 refine Ess 3 (gC x5 i4.1 i4.2) c fun _ c=>?_
 refine E0 (T0 (Fp [] 1 c fun _ c=>?_))
 replace c:=c.ng
 refine Bd h fun x6 hx6 h=>Cb c (ZaZ hx6) ⟨.f 1,tt⟩ call7 fun i5 _ _ c=>?_
 replace c:=c.ng
 refine Fp [] 1 c fun _ c=>E0 (T0 (Fp [(0,2)] 3 c fun _ c=>Bd h fun x7 hx7 h=>Cb c (ZcF hx7) ⟨.g 2,.g 4,.f 2,tt⟩ call8 fun i6 _ _ c=>?_))
 refine Fp [] 3 c fun _ c=>?_
 replace c:=c.ng
 refine Eal pZ c fun b4 _ _ c=>?_
 refine Ess 11 (pM x7.1 i6) c fun _ c=>?_
 replace c:=c.ng
 refine Fp [] 1 c fun _ c=>E0 (S0 (Bd h fun x8 hx8 h=>S0 (rZ [(2,.eq (.bool x8))] [(0,3),(1,1)] mix c ⟨Ncl c (kN (ZbO hx8)) ⟨.go (Xa 62) 5,.go (Xa 62) 6,.g 7,.go (Xa 62) 8,.go (Xa 62) 9,.g 10,.f 5,.f 6,.f 7,.f 8,.f 9,.f 10,tt⟩ call9,tt⟩ fun _ _ c=>I0 c h (fun h=>?_) fun h=>?_)))
 exact P0 [] c fun _ c=>rE
 replace c:=c.ng
 refine K0 (S0 (Bd h fun x9 hx9 h=>Bd h fun x10 hx10 h=>S0 (Jn (fun _:Unit=>([(1,L ga2 p1 gc3),(2,I p2),(3,B b1 0),(8,B b2 0),(9,.bool x4.2),(10,B b3 0),(11,L i5.1 x6 i5.2),(12,B b4 0),(13,.bool x7.2),(60,.bool (!x10))],id,[])) c ?_ fun _ _ _ c=>?_)))
 refine As mix c fun _ c=>?_
 replace c:=Cx.frs [(1,L ga2 p1 gc3),(2,I p2),(3,B b1 0),(8,B b2 0),(9,.bool x4.2),(10,B b3 0),(11,L i5.1 x6 i5.2),(12,B b4 0),(13,.bool x7.2)] c
 refine Dq (fun _:Unit=>([(1,L ga2 p1 gc3),(2,I p2),(3,B b1 0),(8,B b2 0),(9,.bool x4.2),(10,B b3 0),(11,L i5.1 x6 i5.2),(12,B b4 0),(13,.bool x7.2),(59,.bool x10)],id,[])) (bN 5 15) (fun _=>[(4,60,.bool (!x10))]) c (fun _=>?_) fun hd2=>?_
 refine qnE ⟨qP [],tt⟩ fun _ _ c=>?_
 exact nN () (c.rk (rg 12) (rg 11))
 refine Dq (fun i:Oh=>([(1,L ga2 p1 gc3),(2,I p2),(3,B b1 0),(8,B b2 0),(9,.bool x4.2),(10,B b3 0),(11,L i5.1 x6 i5.2),(12,B b4 0),(13,.bool x7.2),(58,gV x9 i.1 i.2)],fun Γ=>Γ ++ [sl65 (L i.1 x9.Code i.2) x9.Code],[])) (bN 5 6) (fun i=>[(0,56,gV x5 i4.1 i4.2)]) c (fun i8=>?_) fun hd1=>?_
 obtain ⟨a1,c1⟩:=i8
 refine qn [3] ⟨qP [(0,2)],tt⟩ ⟨fun _ _ c=>?_,tt⟩
 refine Zf _ rfl rfl ?_
 replace c:=c.ng
 refine Cb c (ZdN hx10) ⟨.g 2,.g 12,tt⟩ call10 fun _ _ _ c=>?_
 refine E0 (nQ hd2 () (c.rk (rg 12) (rg 11)))
 refine q0 (qs:=[(0,56,gV x5 i4.1 i4.2),(1,57,gV p0 ga0 gc1)]) c (qn [2] ⟨qP [(0,2)],qP [(0,0)],tt⟩ ⟨fun _ _ c=>?_,tt⟩)
 refine Zf _ rfl rfl ?_
 replace c:=c.ng
 refine Cb c (XZ hx9) ⟨.f 0,tt⟩ call6 fun i7 _ _ c=>?_
 refine E0 (nQ hd1 (i7.1,i7.2) (c.rk (rg 13) (rg 11)))
 refine I0 c h (fun h=>P0 [] c fun _ c=>rE) fun h=>?_
 replace c:=c.ng
 refine K0 (S0 (T0 (Fp [] 2 c fun _ c=>Bd h fun x11 hx11 h=>Cb c (ZaZ hx11) ⟨.f 1,tt⟩ call7 fun i9 _ _ c=>?_)))
 replace c:=c.ng
 refine Bd h fun x12 hx12 h=>Cb c (ZbR hx12) ⟨.g 4,.g 12,tt⟩ call11 fun _ _ _ c=>?_
 refine Fp [] 1 c fun _ c=>E0 (I0 c h (fun h=>P0 [] c fun _ c=>rE) fun h=>?_)
 refine K0 (P0 [] c fun _ c=>T0 (Fp [(0,2)] 2 c fun _ c=>?_))
 replace c:=c.ng
 refine Bd h fun x13 hx13 h=>Ca [2] c (Zdn hx13) tt call12 fun _ _ _ c=>?_
 replace c:=c.ng
 refine Fp [] 1 c fun _ c=>E0 (T0 (Fp [] 2 c fun _ c=>Bd h fun x14 hx14 h=>Ca [3] c (Zbf hx14) tt call13 fun _ _ _ c=>?_))
 replace c:=c.ng
 refine Fp [] 1 c fun _ c=>E0 (S0 (Bd h fun x15 hx15 h=>S0 (rZ [(5,.eq (.bool x15))] [(3,3),(4,1)] mix c ⟨Ncl c (fun hg=>ZbO (iteF (gcF hg) hx15)) ⟨.go (Xa 62) 3,.go (Xa 62) 4,.g 5,.go (Xa 62) 6,.go (Xa 62) 7,.g 8,.f 5,.f 6,.f 7,.f 8,.f 9,.f 10,tt⟩ call9,tt⟩ fun _ _ c=>I0 c h (fun h=>?_) fun h=>?_)))
 exact P0 [] c fun _ c=>rE
 refine K0 (P0 [] c fun _ c=>T0 (Fp [(0,3)] 2 c fun _ c=>?_))
 replace c:=c.ng
 refine Bd h fun x16 hx16 h=>Ca [3,4,5,6,7,8] c (Zek hx16) tt call14 fun _ _ _ c=>?_
 refine Fp [] 1 c fun _ c=>E0 (P0 [] c fun _ c=>T0 (Fp [(0,3)] 2 c fun _ c=>?_))
 obtain ⟨he1,c⟩:=c.releno 7
 replace c:=c.eqs (v:=(pJ x7.1 i6)) (u:=.agg #[I x7.1.Pc,L i6.1 x16.2.Regs i6.2.1,L i6.p2 x7.1.Mem i6.p3,L i6.p4 x7.1.Stack i6.p5,I x7.1.In,L i6.p6 x7.1.Out i6.p7,I x7.1.Code,I x7.1.Steps,L i6.p8 x7.1.Cond i6.p9,L i6.p10 x7.1.Turns i6.q11]) 88 (by simp only [pJ,pV,L,he1])
 replace c:=c.bxe (cs:=(pM x7.1 i6)) (cs':=[I x7.1.Pc,L i6.1 x16.2.Regs i6.2.1,L i6.p2 x7.1.Mem i6.p3,L i6.p4 x7.1.Stack i6.p5,I x7.1.In,L i6.p6 x7.1.Out i6.p7,I x7.1.Code,I x7.1.Steps,L i6.p8 x7.1.Cond i6.p9,L i6.p10 x7.1.Turns i6.q11]) 3 (by simp only [pC,pM,L,he1])
 obtain ⟨he2,c⟩:=c.releno 8
 replace c:=c.eqs (v:=.agg #[I x7.1.Pc,L i6.1 x16.2.Regs i6.2.1,L i6.p2 x7.1.Mem i6.p3,L i6.p4 x7.1.Stack i6.p5,I x7.1.In,L i6.p6 x7.1.Out i6.p7,I x7.1.Code,I x7.1.Steps,L i6.p8 x7.1.Cond i6.p9,L i6.p10 x7.1.Turns i6.q11]) (u:=.agg #[I x7.1.Pc,L i6.1 x16.2.Regs i6.2.1,L i6.p2 x16.2.Mem i6.p3,L i6.p4 x7.1.Stack i6.p5,I x7.1.In,L i6.p6 x7.1.Out i6.p7,I x7.1.Code,I x7.1.Steps,L i6.p8 x7.1.Cond i6.p9,L i6.p10 x7.1.Turns i6.q11]) 88 (by simp only [L,he2])
 replace c:=c.bxe (cs:=[I x7.1.Pc,L i6.1 x16.2.Regs i6.2.1,L i6.p2 x7.1.Mem i6.p3,L i6.p4 x7.1.Stack i6.p5,I x7.1.In,L i6.p6 x7.1.Out i6.p7,I x7.1.Code,I x7.1.Steps,L i6.p8 x7.1.Cond i6.p9,L i6.p10 x7.1.Turns i6.q11]) (cs':=[I x7.1.Pc,L i6.1 x16.2.Regs i6.2.1,L i6.p2 x16.2.Mem i6.p3,L i6.p4 x7.1.Stack i6.p5,I x7.1.In,L i6.p6 x7.1.Out i6.p7,I x7.1.Code,I x7.1.Steps,L i6.p8 x7.1.Cond i6.p9,L i6.p10 x7.1.Turns i6.q11]) 3 (by simp only [L,he2])
 obtain ⟨he3,c⟩:=c.relen 9
 replace c:=c.eqs (v:=.agg #[I x7.1.Pc,L i6.1 x16.2.Regs i6.2.1,L i6.p2 x16.2.Mem i6.p3,L i6.p4 x7.1.Stack i6.p5,I x7.1.In,L i6.p6 x7.1.Out i6.p7,I x7.1.Code,I x7.1.Steps,L i6.p8 x7.1.Cond i6.p9,L i6.p10 x7.1.Turns i6.q11]) (u:=.agg #[I x7.1.Pc,L i6.1 x16.2.Regs i6.2.1,L i6.p2 x16.2.Mem i6.p3,L i6.p4 x16.2.Stack i6.p5,I x7.1.In,L i6.p6 x7.1.Out i6.p7,I x7.1.Code,I x7.1.Steps,L i6.p8 x7.1.Cond i6.p9,L i6.p10 x7.1.Turns i6.q11]) 88 (by simp only [L,he3])
 replace c:=c.bxe (cs:=[I x7.1.Pc,L i6.1 x16.2.Regs i6.2.1,L i6.p2 x16.2.Mem i6.p3,L i6.p4 x7.1.Stack i6.p5,I x7.1.In,L i6.p6 x7.1.Out i6.p7,I x7.1.Code,I x7.1.Steps,L i6.p8 x7.1.Cond i6.p9,L i6.p10 x7.1.Turns i6.q11]) (cs':=[I x7.1.Pc,L i6.1 x16.2.Regs i6.2.1,L i6.p2 x16.2.Mem i6.p3,L i6.p4 x16.2.Stack i6.p5,I x7.1.In,L i6.p6 x7.1.Out i6.p7,I x7.1.Code,I x7.1.Steps,L i6.p8 x7.1.Cond i6.p9,L i6.p10 x7.1.Turns i6.q11]) 3 (by simp only [L,he3])
 obtain ⟨he4,c⟩:=c.releno 10
 replace c:=c.eqs (v:=.agg #[I x7.1.Pc,L i6.1 x16.2.Regs i6.2.1,L i6.p2 x16.2.Mem i6.p3,L i6.p4 x16.2.Stack i6.p5,I x7.1.In,L i6.p6 x7.1.Out i6.p7,I x7.1.Code,I x7.1.Steps,L i6.p8 x7.1.Cond i6.p9,L i6.p10 x7.1.Turns i6.q11]) (u:=.agg #[I x7.1.Pc,L i6.1 x16.2.Regs i6.2.1,L i6.p2 x16.2.Mem i6.p3,L i6.p4 x16.2.Stack i6.p5,I x7.1.In,L i6.p6 x16.2.Out i6.p7,I x7.1.Code,I x7.1.Steps,L i6.p8 x7.1.Cond i6.p9,L i6.p10 x7.1.Turns i6.q11]) 88 (by simp only [L,he4])
 replace c:=c.bxe (cs:=[I x7.1.Pc,L i6.1 x16.2.Regs i6.2.1,L i6.p2 x16.2.Mem i6.p3,L i6.p4 x16.2.Stack i6.p5,I x7.1.In,L i6.p6 x7.1.Out i6.p7,I x7.1.Code,I x7.1.Steps,L i6.p8 x7.1.Cond i6.p9,L i6.p10 x7.1.Turns i6.q11]) (cs':=[I x7.1.Pc,L i6.1 x16.2.Regs i6.2.1,L i6.p2 x16.2.Mem i6.p3,L i6.p4 x16.2.Stack i6.p5,I x7.1.In,L i6.p6 x16.2.Out i6.p7,I x7.1.Code,I x7.1.Steps,L i6.p8 x7.1.Cond i6.p9,L i6.p10 x7.1.Turns i6.q11]) 3 (by simp only [L,he4])
 obtain ⟨he5,c⟩:=c.releno 11
 replace c:=c.eqs (v:=.agg #[I x7.1.Pc,L i6.1 x16.2.Regs i6.2.1,L i6.p2 x16.2.Mem i6.p3,L i6.p4 x16.2.Stack i6.p5,I x7.1.In,L i6.p6 x16.2.Out i6.p7,I x7.1.Code,I x7.1.Steps,L i6.p8 x7.1.Cond i6.p9,L i6.p10 x7.1.Turns i6.q11]) (u:=.agg #[I x7.1.Pc,L i6.1 x16.2.Regs i6.2.1,L i6.p2 x16.2.Mem i6.p3,L i6.p4 x16.2.Stack i6.p5,I x7.1.In,L i6.p6 x16.2.Out i6.p7,I x7.1.Code,I x7.1.Steps,L i6.p8 x16.2.Cond i6.p9,L i6.p10 x7.1.Turns i6.q11]) 88 (by simp only [L,he5])
 replace c:=c.bxe (cs:=[I x7.1.Pc,L i6.1 x16.2.Regs i6.2.1,L i6.p2 x16.2.Mem i6.p3,L i6.p4 x16.2.Stack i6.p5,I x7.1.In,L i6.p6 x16.2.Out i6.p7,I x7.1.Code,I x7.1.Steps,L i6.p8 x7.1.Cond i6.p9,L i6.p10 x7.1.Turns i6.q11]) (cs':=[I x7.1.Pc,L i6.1 x16.2.Regs i6.2.1,L i6.p2 x16.2.Mem i6.p3,L i6.p4 x16.2.Stack i6.p5,I x7.1.In,L i6.p6 x16.2.Out i6.p7,I x7.1.Code,I x7.1.Steps,L i6.p8 x16.2.Cond i6.p9,L i6.p10 x7.1.Turns i6.q11]) 3 (by simp only [L,he5])
 obtain ⟨he6,c⟩:=c.relen 12
 replace c:=c.eqs (v:=.agg #[I x7.1.Pc,L i6.1 x16.2.Regs i6.2.1,L i6.p2 x16.2.Mem i6.p3,L i6.p4 x16.2.Stack i6.p5,I x7.1.In,L i6.p6 x16.2.Out i6.p7,I x7.1.Code,I x7.1.Steps,L i6.p8 x16.2.Cond i6.p9,L i6.p10 x7.1.Turns i6.q11]) (u:=.agg #[I x7.1.Pc,L i6.1 x16.2.Regs i6.2.1,L i6.p2 x16.2.Mem i6.p3,L i6.p4 x16.2.Stack i6.p5,I x7.1.In,L i6.p6 x16.2.Out i6.p7,I x7.1.Code,I x7.1.Steps,L i6.p8 x16.2.Cond i6.p9,L i6.p10 x16.2.Turns i6.q11]) 88 (by simp only [L,he6])
 replace c:=c.bxe (cs:=[I x7.1.Pc,L i6.1 x16.2.Regs i6.2.1,L i6.p2 x16.2.Mem i6.p3,L i6.p4 x16.2.Stack i6.p5,I x7.1.In,L i6.p6 x16.2.Out i6.p7,I x7.1.Code,I x7.1.Steps,L i6.p8 x16.2.Cond i6.p9,L i6.p10 x7.1.Turns i6.q11]) (cs':=[I x7.1.Pc,L i6.1 x16.2.Regs i6.2.1,L i6.p2 x16.2.Mem i6.p3,L i6.p4 x16.2.Stack i6.p5,I x7.1.In,L i6.p6 x16.2.Out i6.p7,I x7.1.Code,I x7.1.Steps,L i6.p8 x16.2.Cond i6.p9,L i6.p10 x16.2.Turns i6.q11]) 3 (by simp only [L,he6])
 replace c:=c.ng
 refine Bd h fun x17 hx17 h=>Cb c (Zcs hx17) ⟨.go (Xa 62) 7,.go (Xa 62) 8,.g 9,.go (Xa 62) 10,.go (Xa 62) 11,.g 12,tt⟩ call15 fun _ _ _ c=>?_
 refine Fp [] 1 c fun _ c=>E0 (S0 (P0 [] c fun _ c=>I0 c h (fun h=>P0 [] c fun _ c=>rE) fun h=>?_))
 refine K0 (S0 (P0 [] c fun _ c=>I0 c h (fun h=>P0 [] c fun _ c=>rE) fun h=>?_))
 refine K0 (T0 (Fp [(0,0)] 1 c fun _ c=>?_))
 replace c:=c.ng
 refine Bd h fun x18 hx18 h=>Cb c (XZ hx18) ⟨.f 0,tt⟩ call6 fun i10 _ _ c=>?_
 replace c:=c.ng
 refine Fp [] 1 c fun _ c=>Bd h fun x19 hx19 h=>Cb c (ZaZ hx19) ⟨.f 1,tt⟩ call7 fun i11 _ _ c=>?_
 refine Fp [] 1 c fun _ c=>?_
 replace c:=c.ng
 refine Bd h fun x20 hx20 h=>Cb c (ZcF hx20) ⟨.g 13,.g 14,.f 2,tt⟩ call8 fun i12 _ _ c=>?_
 refine Fp [] 3 c fun _ c=>Eal pZ c fun b5 _ _ c=>?_
 replace c:=c.ng
 refine Ess 21 (pM x20.1 i12) c fun _ c=>?_
 replace c:=c.ng
 refine Fp [] 1 c fun _ c=>E0 (S0 (Bd h fun x21 hx21 h=>S0 (rZ [(2,.eq (.bool x21))] [(0,4),(1,1)] mix c ⟨Ncl c (kN (ZbO hx21)) ⟨.go (Xa 62) 15,.go (Xa 62) 16,.g 17,.go (Xa 62) 18,.go (Xa 62) 19,.g 20,.f 5,.f 6,.f 7,.f 8,.f 9,.f 10,tt⟩ call9,tt⟩ fun _ _ c=>I0 c h (fun h=>?_) fun h=>?_)))
 exact P0 [] c fun _ c=>rE
 replace c:=c.ng
 refine K0 (P0 [] c fun _ c=>T0 (Fp [(0,3)] 2 c fun _ c=>Bd h fun x22 hx22 h=>Cb c (Zcs hx22) ⟨.go (Xa 62) 7,.go (Xa 62) 8,.g 9,.go (Xa 62) 10,.go (Xa 62) 11,.g 12,tt⟩ call15 fun _ _ _ c=>?_))
 exact Fp [] 1 c fun _ c=>E0 (S0 (P0 [] c fun _ c=>I0 c h (fun h=>P0 [] c fun _ c=>rE) fun h=>K0 (S0 (P0 [] c fun _ c=>I0 c h (fun h=>P0 [] c fun _ c=>rE) fun h=>K0 (P0 [] c fun _ c=>rE)))))
end Go.Proofs.YthbfkjiiibfomaaGreatDoor
