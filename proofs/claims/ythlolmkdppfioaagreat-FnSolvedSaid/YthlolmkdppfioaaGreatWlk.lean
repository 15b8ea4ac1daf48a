/- The walks, printed by a program. -/
import Derived.Test.YthlolmkdppfioaaGreatWlkA
set_option linter.unusedVariables false
set_option linter.unusedSimpArgs false
set_option maxRecDepth 100000
set_option maxHeartbeats 40000000
namespace Go.Proofs.YthlolmkdppfioaaGreat
open Go.GL Go.Maps Go.WideMaps Tryz
variable {n:Nat} {ga0 ga1 ga2 ga3 ga4 ga5 ga6 ga7 ga8 ga10 ga12:Option Addr} {gc1 gc2 gc3 gc4 gc5 gc6 gc7 gc8 gc9 gc11 gc13:Nat}
theorem ZaN {p0 p1 r} (h:Xo n p0 p1 = some r):Con prog 30 [.agg #[I p0.Inputs,L ga0 p0.Gates gc1],I p1] [] [lR ga0 p0.Gates gc1] fun (i:Ob (List Hd))=>([.agg #[I r.1.Vars,L i.1 r.1.Clauses i.2.1],.bool r.2],[sl27 (L i.1 r.1.Clauses i.2.1) (i.q2)],[CS i.q2 r.1.Clauses]):=by
 unfold Xo at h
 refine En func30 rfl ntmps30 fun _ fr w c=>?_
 refine T0 (Ebx [I p0.Inputs,L ga0 p0.Gates gc1] c fun b1 _ _ c=>?_)
 refine Eal [I 0,L none ([]:List (List Int)) 0] c fun b2 _ _ c=>?_
 refine Fp [] 1 c fun _ c=>E0 (S0 (Bd h fun x1 hx1 h=>Bd h fun x2 hx2 h=>Bd h fun x3 hx3 h=>S0 (rZ [(1,.eq (.bool x1)),(6,.eq (I x2)),(7,.eq (.bool x3))] [(0,0),(5,0)] mix c ⟨Ncl c (kN (ZcG hx1)) ⟨.f 0,tt⟩ call14,Ncl c (fun hg=>XG (iteF (gcF hg) hx2)) ⟨.f 0,tt⟩ call65,Ncl c (fun hg=>Xl (iteF (gcF hg) hx3)) tt call42,tt⟩ fun _ _ c=>I0 c h (fun h=>?_) fun h=>?_)))
 refine T0 (Fp [] 1 c fun _ c=>Ess 1 [I 0,L none ([]:List (List Int)) 0] c fun _ c=>?_)
 refine Fp [] 1 c fun _ c=>E0 ?_
 replace c:=(c.nil (α:=Hd) 27).csn (ρ:=Hd) (α:=List Int)
 cases h
 exact wp_ret (tr (Rg c (none,0,([]:List Hd)) [2] [1] (.cell (α:=Agg 1) kk (.b 1) (.tmp .nil))))
 refine K0 (T0 (Fp [(0,0)] 1 c fun _ c=>Bd h fun x4 hx4 h=>Cb c (XG hx4) ⟨.f 0,tt⟩ call65 fun _ _ _ c=>?_))
 refine Elt 3 ([1]:List Int) c fun a1 c1 _ _ c=>?_
 replace c:=c.fz 2
 refine Eltr 27 ([⟨a1,List.length ([1]:List Int),c1⟩]:List Hd) ([([1]:List Int)]:List (List Int)) c ⟨.f 1,tt⟩ fun a2 c2 _ _ c=>?_
 refine Fp [] 1 c fun _ c=>?_
 replace c:=c.nf
 refine Eal [I 0,L none ([]:List (List Int)) 0] c fun b3 _ _ c=>?_
 refine Ess 3 [I x4,L a2 ([([1]:List Int)]:List (List Int)) c2] c fun _ c=>?_
 refine E0 (S0 (P0 [(1,0)] c fun _ c=>Bd h fun rl1 hit1 h=>Lp (fun s1  (i:List Hd × Oh)=>([(1,I p1),(2,B b1 0),(4,B b2 0),(6,B b3 0),(31,L ga0 p0.Gates gc1),(32,I (len p0.Gates)),(33,I s1.1)],fun Γ=>(Γ.set 2 (sl27 (L i.2.1 s1.2 i.q2) (i.1))).set 3 (BX b3 61 [I x4,L i.2.1 s1.2 i.q2]),[CS (i.1) s1.2])) (fun  (i:List Hd × Oh)=>([(1,I p1),(4,B b2 0),(6,B b3 0)],fun Γ=>(Γ.set 2 (sl27 (L i.2.1 rl1 i.q2) (i.1))).set 3 (BX b3 61 [I x4,L i.2.1 rl1 i.q2]),[CS (i.1) rl1])) hit1 c (([⟨a1,List.length ([1]:List Int),c1⟩]:List Hd),a2,c2) (c.rk (rg 4) [0,1,2,2]) (fun s1 q1 i1 _ _ c h hr1=>?_) fun k1 _ _ c=>?_))
 refine P0 [] c fun _ c=>S0 (I0 c h (fun h=>?_) fun h=>?_)
 refine K0 (S0 (wp_block (T0 (Fp [] 1 c fun _ c=>Bd h fun x5 hx5 h=>Eel c (.f 0) hx5 fun _ _ c=>?_))))
 refine Eal [I 0,I 0] c fun b4 _ _ c=>?_
 refine Fp [] 1 c fun _ c=>Ess 4 [I x5.A,I x5.B] c fun _ c=>?_
 refine E0 (P0 [(1,0)] c fun _ c=>T0 (Fp [(3,3)] 4 c fun _ c=>Elt 3 ([(w64 (0 - (w64 ((w64 (2 + p0.Inputs)) + s1.1)))),x5.A]:List Int) c fun a3 c3 _ _ c=>?_))
 refine Fp [(8,3)] 4 c fun _ c=>?_
 replace c:=c.nf
 refine Elt 3 ([(w64 (0 - (w64 ((w64 (2 + p0.Inputs)) + s1.1)))),x5.B]:List Int) c fun a4 c4 _ _ c=>?_
 refine Fp [(12,3),(15,3)] 7 c fun _ c=>Elt 3 ([(w64 ((w64 (2 + p0.Inputs)) + s1.1)),(w64 (0 - x5.A)),(w64 (0 - x5.B))]:List Int) c fun a5 c5 _ _ c=>?_
 replace c:=c.fz 5
 replace c:=c.fz 5
 replace c:=c.fz 5
 refine Eltr 27 ([⟨a3,List.length ([(w64 (0 - (w64 ((w64 (2 + p0.Inputs)) + s1.1)))),x5.A]:List Int),c3⟩,⟨a4,List.length ([(w64 (0 - (w64 ((w64 (2 + p0.Inputs)) + s1.1)))),x5.B]:List Int),c4⟩,⟨a5,List.length ([(w64 ((w64 (2 + p0.Inputs)) + s1.1)),(w64 (0 - x5.A)),(w64 (0 - x5.B))]:List Int),c5⟩]:List Hd) ([([(w64 (0 - (w64 ((w64 (2 + p0.Inputs)) + s1.1)))),x5.A]:List Int),([(w64 (0 - (w64 ((w64 (2 + p0.Inputs)) + s1.1)))),x5.B]:List Int),([(w64 ((w64 (2 + p0.Inputs)) + s1.1)),(w64 (0 - x5.A)),(w64 (0 - x5.B))]:List Int)]:List (List Int)) c ⟨.f 4,.f 5,.f 6,tt⟩ fun a6 c6 _ _ c=>?_
 refine Fp [] 2 c fun _ c=>E0 (Bd h fun rl2 hit2 h=>Tq (Lp (fun s2  (i:List Hd × Oh)=>([(1,I p1),(2,B b1 0),(4,B b2 0),(6,B b3 0),(31,L ga0 p0.Gates gc1),(32,I (len p0.Gates)),(33,I s1.1),(61,L a6 ([([(w64 (0 - (w64 ((w64 (2 + p0.Inputs)) + s1.1)))),x5.A]:List Int),([(w64 (0 - (w64 ((w64 (2 + p0.Inputs)) + s1.1)))),x5.B]:List Int),([(w64 ((w64 (2 + p0.Inputs)) + s1.1)),(w64 (0 - x5.A)),(w64 (0 - x5.B))]:List Int)]:List (List Int)) c6),(62,I (len ([([(w64 (0 - (w64 ((w64 (2 + p0.Inputs)) + s1.1)))),x5.A]:List Int),([(w64 (0 - (w64 ((w64 (2 + p0.Inputs)) + s1.1)))),x5.B]:List Int),([(w64 ((w64 (2 + p0.Inputs)) + s1.1)),(w64 (0 - x5.A)),(w64 (0 - x5.B))]:List Int)]:List (List Int)))),(63,I s2.1)],fun Γ=>(Γ.set 2 (sl27 (L i.2.1 s2.2 i.q2) (i.1))).set 3 (BX b3 61 [I x4,L i.2.1 s2.2 i.q2]),[CS (i.1) s2.2])) (fun  (i:List Hd × Oh)=>([(1,I p1),(2,B b1 0),(4,B b2 0),(6,B b3 0),(31,L ga0 p0.Gates gc1),(32,I (len p0.Gates)),(33,I s1.1)],fun Γ=>(Γ.set 2 (sl27 (L i.2.1 rl2 i.q2) (i.1))).set 3 (BX b3 61 [I x4,L i.2.1 rl2 i.q2]),[CS (i.1) rl2])) hit2 c (i1.1,i1.2.1,i1.q2) (c.rk (rg 6) [0,1,2,3,4,5,6,7,3]) (fun s2 q2 i2 _ _ c h hr2=>?_) fun k2 _ _ c=>?_))
 refine P0 [] c fun _ c=>S0 (I0 c h (fun h=>?_) fun h=>?_)
 refine K0 (S0 (wp_block (T0 ?_)))
 replace c:=c.nf
 refine Bd h fun x6 hx6 h=>Eemr 5 7 c hx6 fun _ u1 _ c=>?_
 obtain ⟨a7,c7,rfl⟩:=c.sl 9
 refine Fp [] 1 c fun _ c=>E0 (T0 (Fp [] 1 c fun _ c=>Bd h fun x7 hx7 h=>Cb c (Zcz hx7) ⟨.f 9,tt⟩ call66 fun i3 _ _ c=>?_))
 refine Fp [] 5 c fun _ c=>E0 (T1 (Fp [(1,2)] 3 c fun _ c=>?_))
 replace c:=c.fz 6
 refine Eltr 27 ([(hd i3.1 x7.1 i3.2)]:List Hd) ([x7.1]:List (List Int)) c ⟨.f 10,tt⟩ fun a8 c8 _ _ c=>?_
 replace c:=c.nf
 replace c:=c.fzr 6 11
 refine Bd h fun x8 hx8 h=>Eapr 2 8 c (.f 12) hx8 fun rm1 a9 c9 _ _ c=>?_
 refine Fp [] 1 c fun _ c=>Esb 3 1 (L a9 x8 c9) c fun _ c=>?_
 refine E1 (bk (tn (P1 [] c fun _ c=>Nx h ((i2.1 ++ rm1),a9,c9) (c.rk (rg 6) [0,1,2,3,4,5,6,7,13]))))
 refine wp_exit (te (te (be ?_)))
 obtain rfl:=hr2 _ (sk h)
 exact tn ⟨(i2.1,i2.2.1,i2.q2),c.rk (rg 6) (rg 9)⟩
 refine bk (tn (P1 [] c fun _ c=>Nx h (k2.1,k2.2.1,k2.q2) (c.rk (rg 4) [0,1,2,8])))
 refine wp_exit (te (te (be ?_)))
 obtain rfl:=hr1 _ (sk h)
 exact tn ⟨(i1.1,i1.2.1,i1.q2),c.rk (rg 4) (rg 4)⟩
 refine T0 (Fp [(1,2)] 3 c fun _ c=>Elt 3 ([p1]:List Int) c fun a10 c10 _ _ c=>?_)
 replace c:=c.fz 4
 refine Eltr 27 ([⟨a10,List.length ([p1]:List Int),c10⟩]:List Hd) ([([p1]:List Int)]:List (List Int)) c ⟨.f 4,tt⟩ fun a11 c11 _ _ c=>?_
 replace c:=c.fzr 4 5
 refine Bd h fun x9 hx9 h=>Eapr 2 3 c (.f 6) hx9 fun rm2 a12 c12 _ _ c=>?_
 refine Fp [] 1 c fun _ c=>?_
 replace c:=c.nf
 refine Esb 3 1 (L a12 x9 c12) c fun _ c=>?_
 refine E0 (T0 (Fp [(0,2)] 1 c fun _ c=>Ess 1 [I x4,L a12 x9 c12] c fun _ c=>?_))
 refine Fp [] 1 c fun _ c=>E0 ?_
 cases h
 exact wp_ret (Rg c (a12,c12,(k1.1 ++ rm2)) [2] [7] (.cell (α:=Agg 1) kk (.b 1) (.tmp .nil)))
theorem ZcY {p0 r} (h:YF n p0 = some r):C0 67 [.agg #[I p0.Vars,L ga0 p0.Clauses gc1]] [lR ga0 p0.Clauses gc1] (.bool r):=by
 unfold YF at h
 refine En func67 rfl ntmps67 fun _ fr w c=>?_
 refine T0 (Ebx [I p0.Vars,L ga0 p0.Clauses gc1] c fun b1 _ _ c=>?_)
 refine Fp [] 1 c fun _ c=>E0 (S0 (S0 (Ry [(1,0),(5,0),(10,0)] mix c fun _ _ c=>I0 c h (fun h=>?_) fun h=>?_)))
 exact P0 [] c fun _ c=>rE
 refine K0 (S0 (P0 [(1,0)] c fun _ c=>Bd h fun rl1 hit1 h=>?_))
 have hk1:=h
 refine LpR (fun s1  (_:Unit)=>([(1,B b1 0),(20,L ga0 p0.Clauses gc1),(21,I (len p0.Clauses)),(22,I s1)],id,[])) (fun s  (_:Unit)=>([],id,[])) hit1 c () (c.rk [0] [0]) (fun s1 q1 _ _ _ c h hr1=>?_) fun s1r _ _ _ hrl c=>?_
 refine P0 [] c fun _ c=>S0 (I0 c h (fun h=>?_) fun h=>?_)
 refine K0 (S0 (wp_block (T0 (Bd h fun x1 hx1 h=>Eem c (.f 0) hx1 fun _ u1 _ c=>?_))))
 obtain ⟨a1,c1,rfl⟩:=c.sl 1
 refine Fp [] 1 c fun _ c=>E0 (T0 (Fp [(2,0)] 3 c fun _ c=>Bd h fun x2 hx2 h=>Cb c (Zbl hx2) ⟨.f 1,tt⟩ call115 fun _ _ _ c=>?_))
 refine Fp [] 1 c fun _ c=>E0 (I0 c h (fun h=>?_) fun h=>?_)
 refine P0 [] c fun _ c=>?_
 obtain rfl:=hr1 _ (sk h)
 obtain rfl:=sj hk1
 exact wp_ret (br (tr (tr (br (tr (Rt c () [] []))))))
 refine K1 (bk (tn (P1 [] c fun _ c=>Nx h () (c.rk [0] [0]))))
 refine wp_exit (te (te (be ?_)))
 obtain rfl:=hr1 _ (sk h)
 exact tn ⟨_,(),rfl,c.rk [0] [0]⟩
 subst hrl
 exact P0 [] c fun _ c=>rE
theorem ZcN {p0 r} (h:Xq n p0 = some r):Con prog 48 [.agg #[I p0.Vars,L ga0 p0.Clauses gc1]] [] [lR ga0 p0.Clauses gc1] fun (i:Nat × Ob Oh)=>([B i.1 0],[],[FX i.1 127 [I r.f.Vars,L i.2.1 r.f.Clauses i.p2,L i.p3 r.occ i.q4],lR i.2.1 r.f.Clauses i.p2,lR i.p3 r.occ i.q4]):=by
 unfold Xq at h
 refine En func48 rfl ntmps48 fun _ fr w c=>?_
 refine T0 (Ebx [I p0.Vars,L ga0 p0.Clauses gc1] c fun b1 _ _ c=>?_)
 refine Fp [] 1 c fun _ c=>E0 (Bd h fun x1 hx1 h=>S0 (Jn (fun i:Nat × Oh=>([(1,B b1 0),(3,B i.1 0)],fun Γ=>Γ ++ [BX i.1 127 [I p0.Vars,L ga0 p0.Clauses gc1,L i.2.1 x1 i.q2],sl27 (L i.2.1 x1 i.q2) (List.replicate (List.length x1) (⟨none,0,0⟩ : Hd)),HP.all (ownL 3) (List.replicate (List.length x1) (⟨none,0,0⟩ : Hd)) x1],[])) c ?_ fun i3 _ _ c=>?_))
 refine As mix c fun _ c=>?_
 replace c:=Cx.frs [(1,B b1 0)] c
 refine Dq (fun i:Nat × Oh=>([(1,B b1 0),(15,B i.1 0)],fun Γ=>Γ ++ [BX i.1 127 [I p0.Vars,L ga0 p0.Clauses gc1,L i.2.1 x1 i.q2],sl27 (L i.2.1 x1 i.q2) (List.replicate (List.length x1) (⟨none,0,0⟩ : Hd)),HP.all (ownL 3) (List.replicate (List.length x1) (⟨none,0,0⟩ : Hd)) x1],[])) (bN 9 255) (fun i=>[(8,3,B i.1 0)]) c (fun i2=>?_) fun hd2=>?_
 obtain ⟨b3,a3,c3⟩:=i2
 refine qnE ⟨qP [],tt⟩ fun _ _ c=>?_
 exact nN (b3,a3,c3) (c.rk (rg 4) [0])
 refine Dq (fun i:Oh=>([(1,B b1 0),(13,L i.1 x1 i.2)],fun Γ=>Γ ++ [sl27 (L i.1 x1 i.2) (List.replicate (List.length x1) (⟨none,0,0⟩ : Hd)),HP.all (ownL 3) (List.replicate (List.length x1) (⟨none,0,0⟩ : Hd)) x1],[])) (bN 9 62) (fun i=>[(0,8,.agg #[I p0.Vars,L ga0 p0.Clauses gc1]),(6,14,.agg #[I p0.Vars,L ga0 p0.Clauses gc1,L i.1 x1 i.2])]) c (fun i1=>?_) fun hd1=>?_
 obtain ⟨a2,c2⟩:=i1
 refine qn [7] ⟨qP [(0,0)],qP [],tt⟩ ⟨fun _ _ c=>?_,tt⟩
 refine ZM _ rfl rfl ?_
 refine Ebx [I p0.Vars,L ga0 p0.Clauses gc1,L a2 x1 c2] c fun b2 _ _ c=>?_
 refine E0 (nQ hd2 (b2,a2,c2) (c.rk [0,3,1,2] [0]))
 refine q0 (qs:=[(0,8,.agg #[I p0.Vars,L ga0 p0.Clauses gc1]),(1,9,B b1 0),(2,10,I p0.Vars),(3,11,I (w64 (2 * p0.Vars))),(4,12,I (w64 ((w64 (2 * p0.Vars)) + 1)))]) c (qn [5] ⟨qP [(0,0)],qP [],qP [(0,0)],qP [],qP [],tt⟩ ⟨fun _ _ c=>?_,tt⟩)
 refine ZM _ rfl rfl ?_
 refine Emkd 27 (⟨none,0,0⟩ : Hd) (fun w=>ZeX 3 w) c hx1 fun a1 c1 _ _ c=>?_
 refine E0 (nQ hd1 (a1,c1) (c.rk [0,1,2] [0]))
 obtain ⟨b4,a4,c4⟩:=i3
 refine S0 (P0 [(1,0)] c fun _ c=>Bd h fun rl1 hit1 h=>Lp (fun s1  (i:List Hd)=>([(1,B b1 0),(3,B b4 0),(17,L ga0 p0.Clauses gc1),(18,I (len p0.Clauses)),(19,I s1.1)],fun Γ=>(Γ.set 2 (sl27 (L a4 x1 c4) (i))).set 3 (HP.all (ownL 3) (i) s1.2),[])) (fun  (i:List Hd)=>([(3,B b4 0)],fun Γ=>(Γ.set 2 (sl27 (L a4 x1 c4) (i))).set 3 (HP.all (ownL 3) (i) rl1),[])) hit1 c ((List.replicate (List.length x1) (⟨none,0,0⟩ : Hd))) (c.rk (rg 4) [0]) (fun s1 q1 i4 _ _ c h hr1=>?_) fun k1 _ _ c=>?_)
 refine P0 [] c fun _ c=>S0 (I0 c h (fun h=>?_) fun h=>?_)
 refine K0 (S0 (wp_block (T0 (Fp [] 1 c fun _ c=>Bd h fun x2 hx2 h=>Eem c (.f 0) hx2 fun _ u1 _ c=>?_))))
 obtain ⟨a5,c5,rfl⟩:=c.sl 1
 refine Fp [] 2 c fun _ c=>E0 (P0 [] c fun _ c=>Bd h fun rl2 hit2 h=>Tq (Lp (fun s2  (i:List Hd)=>([(1,B b1 0),(3,B b4 0),(4,I s1.1),(17,L ga0 p0.Clauses gc1),(18,I (len p0.Clauses)),(19,I s1.1),(24,L a5 x2 c5),(25,I (len x2)),(26,I s2.1)],fun Γ=>(Γ.set 2 (sl27 (L a4 x1 c4) (i))).set 3 (HP.all (ownL 3) (i) s2.2),[])) (fun  (i:List Hd)=>([(1,B b1 0),(3,B b4 0),(17,L ga0 p0.Clauses gc1),(18,I (len p0.Clauses)),(19,I s1.1)],fun Γ=>(Γ.set 2 (sl27 (L a4 x1 c4) (i))).set 3 (HP.all (ownL 3) (i) rl2),[])) hit2 c (i4) (c.rk (rg 4) [0,1]) (fun s2 q2 i5 _ _ c h hr2=>?_) fun k2 _ _ c=>?_))
 refine P0 [] c fun _ c=>S0 (I0 c h (fun h=>?_) fun h=>?_)
 refine K0 (S0 (wp_block (T0 (Bd h fun x3 hx3 h=>Eel c (.f 1) hx3 fun _ _ c=>?_))))
 refine Fp [] 1 c fun _ c=>E0 (Bd h fun x4 hx4 h=>?_)
 obtain ⟨a6,c6,p1,hr1,hl1,he1⟩:=c.fc0 2 3 hx4
 refine Bd h fun x5 hx5 h=>Bd h fun x6 hx6 h=>Tq (Jn (fun i:List Hd=>([(1,B b1 0),(3,B b4 0),(4,I s1.1),(17,L ga0 p0.Clauses gc1),(18,I (len p0.Clauses)),(19,I s1.1),(24,L a5 x2 c5),(25,I (len x2)),(26,I s2.1)],fun Γ=>(Γ.set 2 (sl27 (L a4 x1 c4) (i))).set 3 (HP.all (ownL 3) (i) x6),[])) c ?_ fun rs2 _ _ c=>?_)
 refine As mix c fun _ c=>?_
 replace c:=Cx.frs [(1,B b1 0),(3,B b4 0),(4,I s1.1),(7,I x3),(17,L ga0 p0.Clauses gc1),(18,I (len p0.Clauses)),(19,I s1.1),(24,L a5 x2 c5),(25,I (len x2)),(26,I s2.1)] c
 refine Dq (fun i:List Hd=>([(1,B b1 0),(3,B b4 0),(4,I s1.1),(17,L ga0 p0.Clauses gc1),(18,I (len p0.Clauses)),(19,I s1.1),(24,L a5 x2 c5),(25,I (len x2)),(26,I s2.1)],fun Γ=>(Γ.set 2 (sl27 (L a4 x1 c4) (i))).set 3 (HP.all (ownL 3) (i) x6),[])) (bN 23 8388607) (fun i=>[]) c (fun rs1=>?_) fun hd5=>?_
 refine qnE tt fun _ _ c=>?_
 exact nN (rs1) (c.rk (rg 4) [0,1])
 refine Dq (fun i:Oh=>([(1,B b1 0),(3,B b4 0),(4,I s1.1),(7,I x3),(17,L ga0 p0.Clauses gc1),(18,I (len p0.Clauses)),(19,I s1.1),(24,L a5 x2 c5),(25,I (len x2)),(26,I s2.1),(50,L i.1 x5 i.2)],fun Γ=>(Γ.set 3 (HP.but (ownL 3) ((w64 (x3 + p0.Vars))).toNat i5 s2.2)) ++ [TL 3 (.slice i.1 (List.length x5) i.2) x5],[])) (bN 23 2096896) (fun i=>[(0,30,B b4 0),(1,31,B b4 0),(2,32,B b4 2),(3,33,L a4 x1 c4),(4,34,I x3),(5,35,B b1 0),(6,36,I p0.Vars),(7,37,I (w64 (x3 + p0.Vars))),(21,51,.pointer (some p1))]) c (fun i7=>?_) fun hd4=>?_
 obtain ⟨a10,c10⟩:=i7
 refine qn [22] ⟨qP [],qP [],qP [],qP [(0,1)],qP [],qP [],qP [(0,0)],qP [],qIo he1,tt⟩ ⟨fun _ _ c=>?_,tt⟩
 refine ZM _ rfl rfl ?_
 refine Efst 2 3 4 c he1 hl1 hx6 fun _ _ c=>?_
 refine E0 (nQ hd5 ((List.set i5 ((w64 (x3 + p0.Vars))).toNat ((hd a10 x5 c10):Hd))) (c.rk (rg 4) [0,1]))
 refine Dq (fun i:Oh=>([(1,B b1 0),(3,B b4 0),(4,I s1.1),(7,I x3),(17,L ga0 p0.Clauses gc1),(18,I (len p0.Clauses)),(19,I s1.1),(24,L a5 x2 c5),(25,I (len x2)),(26,I s2.1),(49,L i.1 ([s1.1]:List Int) i.2)],fun Γ=>Γ ++ [sl3 (L i.1 ([s1.1]:List Int) i.2) ([s1.1]:List Int)],[])) (bN 23 786432) (fun i=>[(0,30,B b4 0),(1,31,B b4 0),(2,32,B b4 2),(3,33,L a4 x1 c4),(4,34,I x3),(5,35,B b1 0),(6,36,I p0.Vars),(7,37,I (w64 (x3 + p0.Vars))),(8,38,B b4 0),(9,39,B b4 0),(10,40,B b4 2),(11,41,L a4 x1 c4),(12,42,I x3),(13,43,B b1 0),(14,44,I p0.Vars),(15,45,I (w64 (x3 + p0.Vars))),(16,46,.pointer (some p1)),(17,47,L a6 x4 c6)]) c (fun i6=>?_) fun hd3=>?_
 obtain ⟨a8,c8⟩:=i6
 refine qn [20] ⟨qP [],qP [],qP [],qP [(0,1)],qP [],qP [],qP [(0,0)],qP [],qP [],qP [],qP [],qP [(0,1)],qP [],qP [],qP [(0,0)],qP [],qIo he1,qLh 2 he1 hr1,tt⟩ ⟨fun _ _ c=>?_,tt⟩
 refine ZM _ rfl rfl ?_
 refine Efap 3 3 c hx4 hr1 hx5 fun a9 c9 _ _ c=>?_
 refine E0 (nQ hd4 (a9,c9) (c.rk [0,1,2,4,5] [0,1]))
 refine q0 (qs:=[(0,30,B b4 0),(1,31,B b4 0),(2,32,B b4 2),(3,33,L a4 x1 c4),(4,34,I x3),(5,35,B b1 0),(6,36,I p0.Vars),(7,37,I (w64 (x3 + p0.Vars))),(8,38,B b4 0),(9,39,B b4 0),(10,40,B b4 2),(11,41,L a4 x1 c4),(12,42,I x3),(13,43,B b1 0),(14,44,I p0.Vars),(15,45,I (w64 (x3 + p0.Vars))),(16,46,.pointer (some p1)),(17,47,L a6 x4 c6),(18,48,I s1.1)]) c (qn [19] ⟨qP [],qP [],qP [],qP [(0,1)],qP [],qP [],qP [(0,0)],qP [],qP [],qP [],qP [],qP [(0,1)],qP [],qP [],qP [(0,0)],qP [],qIo he1,qLh 2 he1 hr1,qP [],tt⟩ ⟨fun _ _ c=>?_,tt⟩)
 refine ZM _ rfl rfl ?_
 refine Elt 3 ([s1.1]:List Int) c fun a7 c7 _ _ c=>?_
 refine E0 (nQ hd3 (a7,c7) (c.rk (rg 5) [0,1]))
 refine bk (tn (P1 [] c fun _ c=>Nx h (rs2) (c.rk (rg 4) [0,1])))
 refine wp_exit (te (te (be ?_)))
 obtain rfl:=hr2 _ (sk h)
 exact tn ⟨(i5),c.rk (rg 4) [0,1]⟩
 refine bk (tn (P1 [] c fun _ c=>Nx h (k2) (c.rk (rg 4) [0])))
 refine wp_exit (te (te (be ?_)))
 obtain rfl:=hr1 _ (sk h)
 exact tn ⟨(i4),c.rk (rg 4) [0]⟩
 refine P0 [] c fun _ c=>?_
 obtain ⟨he2,c⟩:=c.relend 2 3
 replace c:=c.bxe (cs:=[I p0.Vars,L ga0 p0.Clauses gc1,L a4 x1 c4]) (cs':=[I p0.Vars,L ga0 p0.Clauses gc1,L a4 rl1 c4]) 1 (by simp only [L,he2])
 replace c:=c.fzd (Zh2 3) 2 3
 replace c:=c.fzb 1
 cases h
 exact wp_ret (Rt c (b4,ga0,gc1,a4,c4) [] [2,0,1])
theorem Xb {p0 p1 gb0 gn5 gn6 r} (h:Z4 p0 p1 = some r):Con prog 138 [B gb0 0,I p1] [BX gb0 163 [.slice ga1 gn5 gc2,.slice ga3 gn6 gc4],sl3 (.slice ga1 gn5 gc2) p0.val,sl3 (.slice ga3 gn6 gc4) p0.queue] [] fun (i:Ob Oh)=>([.bool r.1],[BX gb0 163 [L i.1 r.2.val i.2.1,L i.p2 r.2.queue i.q3],sl3 (L i.1 r.2.val i.2.1) r.2.val,sl3 (L i.p2 r.2.queue i.q3) r.2.queue],[]):=by
 unfold Z4 at h
 refine En func138 rfl ntmps138 fun _ fr w c=>?_
 obtain ⟨rfl,c⟩:=c.relen 1
 obtain ⟨rfl,c⟩:=c.relen 2
 refine P0 [] c fun _ c=>P0 [] c fun _ c=>S0 (P0 [] c fun _ c=>Mp (decide (p1 < 0)) [(5,I (w64 (0 - p1))),(6,I (-1))] [(5,I p1),(6,I 1)] [(5,I (cond (decide (p1 < 0)) (w64 (0 - p1)) p1)),(6,I (cond (decide (p1 < 0)) (-1) 1))] [5,6,10,11] c fun _ c=>S0 (T0 (Fp [(3,0)] 5 c fun _ c=>Bd h fun x1 hx1 h=>Eel c (.g 1) hx1 fun _ _ c=>?_)))
 refine Fp [] 1 c fun _ c=>E0 (I0 c h (fun h=>?_) fun h=>?_)
 refine T0 (Fp [(3,0)] 5 c fun _ c=>Bd h fun x2 hx2 h=>Eel c (.g 1) hx2 fun _ _ c=>?_)
 refine Fp [] 3 c fun _ c=>E0 ?_
 cases h
 exact wp_ret (tr (Rt c (ga1,gc2,ga3,gc4) [0,1,2] []))
 refine K0 (T0 (Fp [(3,0)] 6 c fun _ c=>Bd h fun x3 hx3 h=>Eset 1 c hx3 fun _ _ _ c=>?_))
 refine E0 (T0 (Fp [(4,0)] 6 c fun _ c=>Elt 3 ([p1]:List Int) c fun a1 c1 _ _ c=>?_))
 refine Bd h fun x4 hx4 h=>Eap 2 c (.g 3) hx4 fun a2 c2 _ _ c=>?_
 refine Fp [] 2 c fun _ c=>Esb 0 1 (L a2 x4 c2) c fun _ c=>?_
 refine E0 (P0 [] c fun _ c=>?_)
 cases h
 obtain ⟨he1,c⟩:=c.relen 1
 replace c:=c.bxe (cs:=[L ga1 p0.val gc2,L a2 x4 c2]) (cs':=[L ga1 x3 gc2,L a2 x4 c2]) 0 (by simp only [L,he1])
 exact wp_ret (Rt c (ga1,gc2,a2,c2) [0,1,2] [])
theorem XN {p0 p1 gb0 gn5 gn6 r} (h:Zm n p0 p1 = some r):Con prog 139 [B gb0 0,L ga7 p1 gc8] [BX gb0 163 [.slice ga1 gn5 gc2,.slice ga3 gn6 gc4],sl3 (.slice ga1 gn5 gc2) p0.val,sl3 (.slice ga3 gn6 gc4) p0.queue] [lR ga7 p1 gc8] fun (i:Ob Oh)=>([.bool r.1],[BX gb0 163 [L i.1 r.2.val i.2.1,L i.p2 r.2.queue i.q3],sl3 (L i.1 r.2.val i.2.1) r.2.val,sl3 (L i.p2 r.2.queue i.q3) r.2.queue],[]):=by
 unfold Zm at h
 refine En func139 rfl ntmps139 fun _ fr w c=>?_
 obtain ⟨rfl,c⟩:=c.relen 1
 obtain ⟨rfl,c⟩:=c.relen 2
 refine P0 [] c fun _ c=>P0 [] c fun _ c=>S0 (P0 [] c fun _ c=>Bd h fun rl1 hit1 h=>?_)
 have hk1:=h
 refine LpR (fun s1  (_:Unit)=>([(0,B gb0 0),(5,I s1.1),(6,I s1.2.1),(10,L ga7 p1 gc8),(11,I (len p1)),(12,I s1.q2)],id,[])) (fun s  (_:Unit)=>([(0,B gb0 0),(5,I s.1),(6,I s.2)],id,[])) hit1 c () (c.rk [0,1,2] [0]) (fun s1 q1 _ _ _ c h hr1=>?_) fun s1r _ _ _ hrl c=>?_
 refine P0 [] c fun _ c=>S0 (I0 c h (fun h=>?_) fun h=>?_)
 refine K0 (S0 (wp_block (T0 (Bd h fun x1 hx1 h=>Eel c (.f 0) hx1 fun _ _ c=>?_))))
 refine Fp [] 1 c fun _ c=>E0 (Bd h fun x2 hx2 h=>Bd h fun x3 hx3 h=>S0 (rZ [(5,.eq (I x2)),(6,Pd.el (x3:Int)),(7,.eq (I x3))] [(3,0)] mix c ⟨Ncl c (kN (Yh hx2)) tt call43,Nid c (.g 1) (kN hx3),Nld c 6 (q:=x3) (atN 6),tt⟩ fun _ _ c=>P0 [] c fun _ c=>I0 c h (fun h=>?_) fun h=>?_))
 refine P0 [] c fun _ c=>Tq (P1 [] c fun _ c=>bk (tn (P1 [] c fun _ c=>Nx h () (c.rk [0,1,2] [0]))))
 refine P0 [] c fun _ c=>I0 c h (fun h=>?_) fun h=>?_
 refine P0 [] c fun _ c=>?_
 obtain rfl:=hr1 _ (sk h)
 obtain rfl:=sj hk1
 exact wp_ret (br (tr (tr (br (tr (Rt c (ga1,gc2,ga3,gc4) [0,1,2] []))))))
 refine K1 (bk (tn (P1 [] c fun _ c=>Nx h () (c.rk [0,1,2] [0]))))
 refine wp_exit (te (te (be ?_)))
 obtain rfl:=hr1 _ (sk h)
 exact tn ⟨_,(),rfl,c.rk [0,1,2] [0]⟩
 subst hrl
 refine S0 (P0 [] c fun _ c=>I0 c h (fun h=>?_) fun h=>?_)
 refine P0 [] c fun _ c=>?_
 cases h
 exact wp_ret (tr (Rt c (ga1,gc2,ga3,gc4) [0,1,2] []))
 refine K0 (S0 (P0 [] c fun _ c=>I0 c h (fun h=>?_) fun h=>?_))
 refine T0 (Fp [] 2 c fun _ c=>Bd h fun x4 hx4 h=>Ca [0,1,2] c (Xb hx4) tt call138 fun i1 _ _ c=>?_)
 refine Fp [] 1 c fun _ c=>E0 ?_
 cases h
 exact wp_ret (tr (Rt c (i1.1,i1.2.1,i1.p2,i1.q3) [0,1,2] []))
 refine K0 (P0 [] c fun _ c=>?_)
 cases h
 exact wp_ret (Rt c (ga1,gc2,ga3,gc4) [0,1,2] [])
theorem Zap {p0 p1 gb0 gb5 gn10 gn11 r} (h:ZK n p0 p1 = some r):Con prog 140 [B gb0 0,B gb5 0] [BX gb5 163 [.slice ga6 gn10 gc7,.slice ga8 gn11 gc9],sl3 (.slice ga6 gn10 gc7) p1.val,sl3 (.slice ga8 gn11 gc9) p1.queue] [FX gb0 127 [I p0.f.Vars,L ga1 p0.f.Clauses gc2,L ga3 p0.occ gc4],lR ga1 p0.f.Clauses gc2,lR ga3 p0.occ gc4] fun (i:Ob Oh)=>([.bool r.1],[BX gb5 163 [L i.1 r.2.val i.2.1,L i.p2 r.2.queue i.q3],sl3 (L i.1 r.2.val i.2.1) r.2.val,sl3 (L i.p2 r.2.queue i.q3) r.2.queue],[]):=by
 unfold ZK at h
 refine En func140 rfl ntmps140 fun _ fr w c=>?_
 obtain ⟨rfl,c⟩:=c.relen 1
 obtain ⟨rfl,c⟩:=c.relen 2
 refine P0 [] c fun _ c=>Bd h fun rl1 hit1 h=>?_
 have hk1:=h
 refine S0 (LpR (fun s1  (i:Ob Oh)=>([(0,B gb0 0),(1,B gb5 0)],fun Γ=>((Γ.set 0 (BX gb5 163 [L i.1 s1.1 i.2.1,L i.p2 s1.2 i.q3])).set 1 (sl3 (L i.1 s1.1 i.2.1) s1.1)).set 2 (sl3 (L i.p2 s1.2 i.q3) s1.2),[])) (fun s  (i:Ob Oh)=>([],fun Γ=>((Γ.set 0 (BX gb5 163 [L i.1 s.1 i.2.1,L i.p2 s.2 i.q3])).set 1 (sl3 (L i.1 s.1 i.2.1) s.1)).set 2 (sl3 (L i.p2 s.2 i.q3) s.2),[])) hit1 c (ga6,gc7,ga8,gc9) (c.rk [0,1,2] [0,1,2]) (fun s1 q1 i1 _ _ c h hr1=>?_) fun s1r k1 _ _ hrl c=>?_)
 refine S0 (P0 [(3,0)] c fun _ c=>I0 c h (fun h=>?_) fun h=>?_)
 refine K0 (wp_block (Bd h fun x1 hx1 h=>S0 (rZ [(10,Pd.el (x1:Int)),(11,.eq (I x1))] [(3,0),(7,0)] mix c ⟨Nid c (.g 2) (kN hx1),Nld c 10 (q:=x1) (atN 10),tt⟩ fun _ _ c=>S0 (Yj mix (Rh 0 ?_)))))
 refine rM 11 [] [(4,0),(8,0)] c (fun ow=>tt) fun _ _ _ _ _ c=>?_
 refine Bd h fun x2 hx2 h=>Efr 2 c hx2 fun c1 _ _ c=>?_
 refine Fp [] 2 c fun _ c=>Esb 0 1 (L i1.p2 x2 c1) c fun _ c=>?_
 refine E0 (Bd h fun x3 hx3 h=>?_)
 obtain ⟨ep1,u1,c⟩:=c.elp (.f 2) hx3
 obtain ⟨a1,c2,rfl⟩:=c.sl 4
 refine S0 (rZ [(11,.eq (.pointer (some ep1))),(12,.eq (L a1 x3 c2))] [(3,1),(8,1)] mix c ⟨Nie c 3,Nle c 3,tt⟩ fun _ _ c=>Bd h fun rl2 hit2 h=>?_)
 have hk2:=h
 refine Tq (LpR (fun s2  (i:Ob Oh)=>([(0,B gb0 0),(1,B gb5 0),(52,L a1 x3 c2),(53,I (len x3)),(54,I s2.1)],fun Γ=>((Γ.set 0 (BX gb5 163 [L i.1 s2.2.1 i.2.1,L i.p2 s2.q2 i.q3])).set 1 (sl3 (L i.1 s2.2.1 i.2.1) s2.2.1)).set 2 (sl3 (L i.p2 s2.q2 i.q3) s2.q2),[])) (fun s  (i:Ob Oh)=>([(0,B gb0 0),(1,B gb5 0)],fun Γ=>((Γ.set 0 (BX gb5 163 [L i.1 s.1 i.2.1,L i.p2 s.2 i.q3])).set 1 (sl3 (L i.1 s.1 i.2.1) s.1)).set 2 (sl3 (L i.p2 s.2 i.q3) s.2),[])) hit2 c (i1.1,i1.2.1,i1.p2,c1) (c.rk [0,1,2] (rg 5)) (fun s2 q2 i2 _ _ c h hr2=>?_) fun s2r k2 _ _ hrl c=>?_)
 refine P0 [] c fun _ c=>S0 (I0 c h (fun h=>?_) fun h=>?_)
 refine K0 (S0 (wp_block (T0 (Bd h fun x4 hx4 h=>Eel c (.f 4) hx4 fun _ _ c=>?_))))
 refine Fp [] 1 c fun _ c=>E0 (T0 (Fp [(5,1)] 7 c fun _ c=>Bd h fun x5 hx5 h=>Eem c (.f 1) hx5 fun _ u2 _ c=>?_))
 obtain ⟨a2,c3,rfl⟩:=c.sl 5
 refine Bd h fun x6 hx6 h=>Ca [0,1,2] c (XN hx6) ⟨.f 5,tt⟩ call139 fun i3 _ _ c=>?_
 refine Fp [] 1 c fun _ c=>E0 (I0 c h (fun h=>?_) fun h=>?_)
 refine P0 [] c fun _ c=>?_
 obtain rfl:=hr2 _ (sk h)
 obtain rfl:=hr1 _ (sk hk2)
 obtain rfl:=sj hk1
 exact wp_ret (br (tr (tr (br (tr (br (tr (br (tr (Rt c (i3.1,i3.2.1,i3.p2,i3.q3) [0,1,2] []))))))))))
 refine K1 (bk (tn (P1 [] c fun _ c=>Nx h (i3.1,i3.2.1,i3.p2,i3.q3) (c.rk [0,1,2] (rg 5)))))
 refine wp_exit (te (te (be ?_)))
 obtain rfl:=hr2 _ (sk h)
 exact tn ⟨_,(i2.1,i2.2.1,i2.p2,i2.q3),rfl,c.rk [0,1,2] (rg 5)⟩
 subst hrl
 refine bk (tn (Nx h (k2.1,k2.2.1,k2.p2,k2.q3) (c.rk [0,1,2] [0,1,2])))
 refine wp_exit (te (te (be ?_)))
 obtain rfl:=hr1 _ (sk h)
 exact tn ⟨_,(i1.1,i1.2.1,i1.p2,i1.q3),rfl,c.rk [0,1,2] [0,1,2]⟩
 subst hrl
 refine P0 [] c fun _ c=>?_
 cases h
 exact wp_ret (Rt c (k1.1,k1.2.1,k1.p2,k1.q3) [0,1,2] [])
theorem ZbI {p0 p1 gb0 r} (h:Y0 n p0 p1 = some r):Con prog 87 [B gb0 0,L ga5 p1 gc6] [] [FX gb0 127 [I p0.f.Vars,L ga1 p0.f.Clauses gc2,L ga3 p0.occ gc4],lR ga1 p0.f.Clauses gc2,lR ga3 p0.occ gc4,lR ga5 p1 gc6] fun (i:Nat × Ob Oh)=>([oP r.2 i.1,.bool r.2],[HP.on r.2 [BX i.1 163 [L i.2.1 r.1.val i.p2,L i.p3 r.1.queue i.q4],sl3 (L i.2.1 r.1.val i.p2) r.1.val,sl3 (L i.p3 r.1.queue i.q4) r.1.queue]],[]):=by
 unfold Y0 at h
 refine En func87 rfl ntmps87 fun _ fr w c=>?_
 refine P0 [] c fun _ c=>T0 (Fp [(4,0)] 6 c fun _ c=>Bd h fun x1 hx1 h=>Emk 3 c hx1 fun a1 c1 _ _ c=>?_)
 refine Fp [] 1 c fun _ c=>Ebx [L a1 x1 c1,L none ([]:List Int) 0] c fun b1 _ _ c=>?_
 refine Fp [] 1 c fun _ c=>E0 (S0 (P0 [] c fun _ c=>?_))
 replace c:=c.nil (α:=Int) 3
 refine Bd h fun rl1 hit1 h=>?_
 have hk1:=h
 refine LpR (fun s1  (i:Ob Oh)=>([(0,B gb0 0),(6,B b1 0),(20,L ga5 p1 gc6),(21,I (len p1)),(22,I s1.1)],fun Γ=>((Γ.set 0 (sl3 (L i.1 s1.2.1 i.2.1) s1.2.1)).set 1 (BX b1 163 [L i.1 s1.2.1 i.2.1,L i.p2 s1.q2 i.q3])).set 2 (sl3 (L i.p2 s1.q2 i.q3) s1.q2),[])) (fun s  (i:Ob Oh)=>([(0,B gb0 0),(6,B b1 0)],fun Γ=>((Γ.set 0 (sl3 (L i.1 s.1 i.2.1) s.1)).set 1 (BX b1 163 [L i.1 s.1 i.2.1,L i.p2 s.2 i.q3])).set 2 (sl3 (L i.p2 s.2 i.q3) s.2),[])) hit1 c (a1,c1,none,0) (c.rk [0,1,2] (rg 4)) (fun s1 q1 i1 _ _ c h hr1=>?_) fun s1r k1 _ _ hrl c=>?_
 refine P0 [] c fun _ c=>S0 (I0 c h (fun h=>?_) fun h=>?_)
 refine K0 (S0 (wp_block (T0 (Bd h fun x2 hx2 h=>Eel c (.f 3) hx2 fun _ _ c=>?_))))
 refine Fp [] 1 c fun _ c=>E0 (T0 (Fp [] 2 c fun _ c=>Bd h fun x3 hx3 h=>Ca [1,0,2] c (Xb hx3) tt call138 fun i2 _ _ c=>?_))
 refine Fp [] 1 c fun _ c=>E0 (I0 c h (fun h=>?_) fun h=>?_)
 refine P0 [] c fun _ c=>?_
 obtain rfl:=hr1 _ (sk h)
 obtain rfl:=sj hk1
 replace c:=c.onf
 exact wp_ret (br (tr (tr (br (tr (Rg c (0,none,0,none,0) [3] [] (.tmp (.tmp .nil))))))))
 refine K1 (bk (tn (P1 [] c fun _ c=>Nx h (i2.1,i2.2.1,i2.p2,i2.q3) (c.rk [1,0,2] (rg 4)))))
 refine wp_exit (te (te (be ?_)))
 obtain rfl:=hr1 _ (sk h)
 exact tn ⟨_,(i1.1,i1.2.1,i1.p2,i1.q3),rfl,c.rk [0,1,2] (rg 4)⟩
 subst hrl
 refine S0 (P0 [(4,1)] c fun _ c=>Bd h fun rl2 hit2 h=>?_)
 have hk2:=h
 refine LpR (fun s2  (i:Ob Oh)=>([(0,B gb0 0),(6,B b1 0),(35,L ga1 p0.f.Clauses gc2),(36,I (len p0.f.Clauses)),(37,I s2.1)],fun Γ=>((Γ.set 0 (sl3 (L i.1 s2.2.1 i.2.1) s2.2.1)).set 1 (BX b1 163 [L i.1 s2.2.1 i.2.1,L i.p2 s2.q2 i.q3])).set 2 (sl3 (L i.p2 s2.q2 i.q3) s2.q2),[])) (fun s  (i:Ob Oh)=>([(0,B gb0 0),(6,B b1 0)],fun Γ=>((Γ.set 0 (sl3 (L i.1 s.1 i.2.1) s.1)).set 1 (BX b1 163 [L i.1 s.1 i.2.1,L i.p2 s.2 i.q3])).set 2 (sl3 (L i.p2 s.2 i.q3) s.2),[])) hit2 c (k1.1,k1.2.1,k1.p2,k1.q3) (c.rk [0,1,2] (rg 4)) (fun s2 q2 i3 _ _ c h hr2=>?_) fun s2r k2 _ _ hrl c=>?_
 refine P0 [] c fun _ c=>S0 (I0 c h (fun h=>?_) fun h=>?_)
 refine K0 (S0 (wp_block (T0 (Bd h fun x4 hx4 h=>Eem c (.f 1) hx4 fun _ u1 _ c=>?_))))
 obtain ⟨a2,c2,rfl⟩:=c.sl 4
 refine Fp [] 1 c fun _ c=>E0 (T0 (Fp [] 2 c fun _ c=>Bd h fun x5 hx5 h=>Ca [1,0,2] c (XN hx5) ⟨.f 4,tt⟩ call139 fun i4 _ _ c=>?_))
 refine Fp [] 1 c fun _ c=>E0 (I0 c h (fun h=>?_) fun h=>?_)
 refine P0 [] c fun _ c=>?_
 obtain rfl:=hr2 _ (sk h)
 obtain rfl:=sj hk2
 replace c:=c.onf
 exact wp_ret (br (tr (tr (br (tr (Rg c (0,none,0,none,0) [3] [] (.tmp (.tmp .nil))))))))
 refine K1 (bk (tn (P1 [] c fun _ c=>Nx h (i4.1,i4.2.1,i4.p2,i4.q3) (c.rk [1,0,2] (rg 4)))))
 refine wp_exit (te (te (be ?_)))
 obtain rfl:=hr2 _ (sk h)
 exact tn ⟨_,(i3.1,i3.2.1,i3.p2,i3.q3),rfl,c.rk [0,1,2] (rg 4)⟩
 subst hrl
 refine S0 (T0 (Fp [] 2 c fun _ c=>Bd h fun x6 hx6 h=>Ca [1,0,2] c (Zap hx6) ⟨.f 0,.f 1,.f 2,tt⟩ call140 fun i5 _ _ c=>?_))
 refine Fp [] 1 c fun _ c=>E0 (I0 c h (fun h=>?_) fun h=>?_)
 refine P0 [] c fun _ c=>?_
 cases h
 replace c:=c.onf
 exact wp_ret (tr (Rg c (0,none,0,none,0) [3] [] (.tmp (.tmp .nil))))
 refine K0 (P0 [] c fun _ c=>?_)
 cases h
 replace c:=c.onp [BX b1 163 [L i5.1 x6.2.val i5.2.1,L i5.p2 x6.2.queue i5.q3],sl3 (L i5.1 x6.2.val i5.2.1) x6.2.val,sl3 (L i5.p2 x6.2.queue i5.q3) x6.2.queue] [0,1,2]
 exact wp_ret (Rg c (b1,i5.1,i5.2.1,i5.p2,i5.q3) [0] [] (.tmp (.tmp .nil)))
theorem Zaw {p0 gb0 r} (h:ZI n p0 = some r):C0 141 [B gb0 0] [FX gb0 163 [L ga1 p0.val gc2,L ga3 p0.queue gc4],lR ga1 p0.val gc2,lR ga3 p0.queue gc4] (I r):=by
 unfold ZI at h
 refine En func141 rfl ntmps141 fun _ fr w c=>?_
 refine P0 [] c fun _ c=>S0 (P0 [] c fun _ c=>Bd h fun rl1 hit1 h=>?_)
 have hk1:=h
 refine LpR (fun s1  (_:Unit)=>([(0,B gb0 0),(3,I s1)],id,[])) (fun s  (_:Unit)=>([],id,[])) hit1 c () (c.rk [] [0,1,2]) (fun s1 q1 _ _ _ c h hr1=>?_) fun s1r _ _ _ hrl c=>?_
 refine S0 (P0 [(4,0)] c fun _ c=>I0 c h (fun h=>?_) fun h=>?_)
 refine K0 (S0 (wp_block (T0 (Fp [(3,0)] 5 c fun _ c=>Bd h fun x1 hx1 h=>Eel c (.f 1) hx1 fun _ _ c=>?_))))
 refine Fp [] 1 c fun _ c=>E0 (I0 c h (fun h=>?_) fun h=>?_)
 refine P0 [] c fun _ c=>?_
 obtain rfl:=hr1 _ (sk h)
 obtain rfl:=sj hk1
 exact wp_ret (br (tr (tr (br (tr (Rt c () [] []))))))
 refine K1 (bk (tn (P1 [] c fun _ c=>Nx h () (c.rk [] [0,1,2]))))
 refine wp_exit (te (te (be ?_)))
 obtain rfl:=hr1 _ (sk h)
 exact tn ⟨_,(),rfl,c.rk [] [0,1,2]⟩
 subst hrl
 exact P0 [] c fun _ c=>rE
theorem Zb2 {p0 p1 p2 gb0 gb5 r} (h:Zr n p0 p1 p2 = some r):Con prog 142 [B gb0 0,B gb5 0,I p2] [] [FX gb0 127 [I p0.f.Vars,L ga1 p0.f.Clauses gc2,L ga3 p0.occ gc4],lR ga1 p0.f.Clauses gc2,lR ga3 p0.occ gc4,FX gb5 163 [L ga6 p1.val gc7,L ga8 p1.queue gc9],lR ga6 p1.val gc7,lR ga8 p1.queue gc9] fun (i:Nat × Ob Oh)=>([oP r.2 i.1,.bool r.2],[HP.on r.2 [BX i.1 163 [L i.2.1 r.1.val i.p2,L i.p3 r.1.queue i.q4],sl3 (L i.2.1 r.1.val i.p2) r.1.val,sl3 (L i.p3 r.1.queue i.q4) r.1.queue]],[]):=by
 unfold Zr at h
 refine En func142 rfl ntmps142 fun _ fr w c=>?_
 refine P0 [] c fun _ c=>T0 (Fp [(3,1)] 4 c fun _ c=>Bd h fun x1 hx1 h=>Cb c (Zt hx1) ⟨.f 4,tt⟩ call39 fun i1 _ _ c=>?_)
 refine Fp [] 1 c fun _ c=>Ebx [L i1.1 x1 i1.2,L none ([]:List Int) 0] c fun b1 _ _ c=>?_
 refine Fp [] 1 c fun _ c=>E0 (S0 (T0 (Fp [] 1 c fun _ c=>Fp [] 1 c fun _ c=>?_)))
 replace c:=c.nil (α:=Int) 3
 refine Bd h fun x2 hx2 h=>Ca [1,0,2] c (Xb hx2) tt call138 fun i2 _ _ c=>?_
 refine Fp [] 1 c fun _ c=>Fp [] 1 c fun _ c=>?_
 rcases Zcj (b:=(!x2.1)) h with ⟨hg1,h⟩ | ⟨hg1,h⟩
 replace c:=c.eqs (v:=.bool (!x2.1)) (u:=.bool true) 20 (by rw [hg1])
 refine Gs c fun _ c=>Gs c fun _ c=>Gs c fun _ c=>Gs c fun _ c=>Epk (b:=true) (v:=.bool true) c fun _ c=>E0 (I0 c h (fun h=>?_) fun h=>?_)
 refine P0 [] c fun _ c=>?_
 cases h
 replace c:=c.onf
 exact wp_ret (tr (Rg c (0,none,0,none,0) [3] [] (.tmp (.tmp .nil))))
 refine K0 (P0 [] c fun _ c=>?_)
 cases h
 replace c:=c.onp [BX b1 163 [L i2.1 x2.2.val i2.2.1,L i2.p2 x2.2.queue i2.q3],sl3 (L i2.1 x2.2.val i2.2.1) x2.2.val,sl3 (L i2.p2 x2.2.queue i2.q3) x2.2.queue] [0,1,2]
 exact wp_ret (Rg c (b1,i2.1,i2.2.1,i2.p2,i2.q3) [0] [] (.tmp (.tmp .nil)))
 replace c:=c.eqs (v:=.bool (!x2.1)) (u:=.bool false) 20 (by rw [hg1])
 refine Gt c ?_
 dsimp only [List.set]
 refine Fp [] 1 c fun _ c=>Gt c ?_
 dsimp only [List.set]
 refine Fp [] 1 c fun _ c=>Gt c ?_
 dsimp only [List.set]
 refine Bd h fun x3 hx3 h=>Ca [0,1,2] c (Zap hx3) ⟨.f 0,.f 1,.f 2,tt⟩ call140 fun i3 _ _ c=>?_
 refine Gt c ?_
 dsimp only [List.set]
 refine Fp [] 1 c fun _ c=>Epk (b:=false) (v:=.bool (!x3.1)) c fun _ c=>E0 (I0 c h (fun h=>?_) fun h=>?_)
 refine P0 [] c fun _ c=>?_
 cases h
 replace c:=c.onf
 exact wp_ret (tr (Rg c (0,none,0,none,0) [3] [] (.tmp (.tmp .nil))))
 refine K0 (P0 [] c fun _ c=>?_)
 cases h
 replace c:=c.onp [BX b1 163 [L i3.1 x3.2.val i3.2.1,L i3.p2 x3.2.queue i3.q3],sl3 (L i3.1 x3.2.val i3.2.1) x3.2.val,sl3 (L i3.p2 x3.2.queue i3.q3) x3.2.queue] [0,1,2]
 exact wp_ret (Rg c (b1,i3.1,i3.2.1,i3.p2,i3.q3) [0] [] (.tmp (.tmp .nil)))
theorem ZbA {n:Nat}:∀ {p0 p1 gb0 ga1 gc2 gb3 ga4 gc5 ga6 gc7 gn8 gb9 ga10 gc11 ga12 gc13 r} (h:ZH n p0 p1 = some r),Con prog 88 [B gb0 0,B gb9 0] [BX gb0 132 [B gb3 0,I p0.limit,I p0.splits,.slice ga1 gn8 gc2],sl4 (.slice ga1 gn8 gc2) p0.model] [FX gb3 127 [I p0.s.f.Vars,L ga4 p0.s.f.Clauses gc5,L ga6 p0.s.occ gc7],lR ga4 p0.s.f.Clauses gc5,lR ga6 p0.s.occ gc7,FX gb9 163 [L ga10 p1.val gc11,L ga12 p1.queue gc13],lR ga10 p1.val gc11,lR ga12 p1.queue gc13] fun (i:Oh)=>([I r.1],[BX gb0 132 [B gb3 0,I r.2.limit,I r.2.splits,L i.1 r.2.model i.2],sl4 (L i.1 r.2.model i.2) r.2.model],[]):=by
 induction n with
 | zero=>intro p0 p1 gb0 ga1 gc2 gb3 ga4 gc5 ga6 gc7 gn8 gb9 ga10 gc11 ga12 gc13 r h; simp [ZH] at h
 | succ n ih=>
 intro p0 p1 gb0 ga1 gc2 gb3 ga4 gc5 ga6 gc7 gn8 gb9 ga10 gc11 ga12 gc13 r h
 rw [ZH] at h
 refine En func88 rfl ntmps88 fun _ fr w c=>?_
 obtain ⟨rfl,c⟩:=c.relen 1
 refine P0 [] c fun _ c=>T0 (Fp [] 1 c fun _ c=>Bd h fun x1 hx1 h=>Cb c (Zaw hx1) ⟨.f 3,.f 4,.f 5,tt⟩ call141 fun _ _ _ c=>?_)
 refine Fp [] 1 c fun _ c=>E0 (S0 (P0 [] c fun _ c=>I0 c h (fun h=>?_) fun h=>?_))
 refine T0 (Fp [(4,0),(8,1)] 9 c fun _ c=>Bd h fun x2 hx2 h=>Emk 4 c hx2 fun a1 c1 _ _ c=>?_)
 refine Fp [] 2 c fun _ c=>Esb 0 3 (L a1 x2 c1) c fun _ c=>?_
 refine E0 (S0 (P0 [(3,0)] c fun _ c=>Bd h fun rl1 hit1 h=>Lp (fun s1  (_:Unit)=>([(0,B gb0 0),(1,B gb9 0),(32,I (len x2)),(33,I s1.1)],fun Γ=>Γ.set 2 (sl4 (L a1 x2 c1) s1.2),[])) (fun  (_:Unit)=>([],fun Γ=>Γ.set 2 (sl4 (L a1 x2 c1) rl1),[])) hit1 c () (c.rk [0,1,2] (rg 6)) (fun s1 q1 _ _ _ c h hr1=>?_) fun _ _ _ c=>?_))
 refine P0 [] c fun _ c=>S0 (I0 c h (fun h=>?_) fun h=>?_)
 refine K0 (S0 (wp_block (P0 [] c fun _ c=>Bd h fun x3 hx3 h=>Yj mix (rM 14 [(11,Pd.el (x3:Int)),(12,.eq (I x3))] [(3,0),(8,2)] c (fun ow=>⟨Zj ow (Nid c (.f 4) (kN hx3)),Zj ow (Nld c 11 (q:=x3) (atM 11 (p:=.el (x3:Int)))),tt⟩) fun _ _ _ _ _ c=>?_))))
 refine Bd h fun x4 hx4 h=>Eset 2 c hx4 fun _ _ _ c=>?_
 refine E1 (bk (tn (P1 [] c fun _ c=>Nx h () (c.rk [0,1,2] (rg 6)))))
 refine wp_exit (te (te (be ?_)))
 obtain rfl:=hr1 _ (sk h)
 exact tn ⟨(),c.rk [0,1,2] (rg 6)⟩
 refine P0 [] c fun _ c=>?_
 cases h
 obtain ⟨he1,c⟩:=c.relen 2
 replace c:=c.bxe (cs:=[B gb3 0,I p0.limit,I p0.splits,L a1 x2 c1]) (cs':=[B gb3 0,I p0.limit,I p0.splits,L a1 rl1 c1]) 0 (by simp only [L,he1])
 exact wp_ret (tr (Rt c (a1,c1) [0,2] []))
 refine K0 (S0 (S0 (Ry [(3,0),(7,0)] mix c fun _ _ c=>I0 c h (fun h=>?_) fun h=>?_)))
 refine P0 [] c fun _ c=>?_
 cases h
 exact wp_ret (tr (Rt c (ga1,gc2) [0,1] []))
 refine K0 (T0 (Fp [(3,0)] 7 c fun _ c=>Esb 0 2 (I (w64 (p0.splits + 1))) c fun _ c=>?_))
 refine E0 (S0 (T0 (Fp [] 3 c fun _ c=>Ebu (v:=.agg #[I (w64 (0 - x1)),I x1]) #[(0,I (w64 (0 - x1))),(1,I x1)] c fun _ c=>?_)))
 refine Fp [] 1 c fun _ c=>E0 (Bd h fun rl2 hit2 h=>?_)
 have hk2:=h
 refine LpR (fun s2  (i:Oh)=>([(0,B gb0 0),(1,B gb9 0),(71,.agg #[I (w64 (0 - x1)),I x1]),(72,I s2.1)],fun Γ=>(Γ.set 0 (BX gb0 132 [B gb3 0,I s2.2.1,I s2.p2,L i.1 s2.q3 i.2])).set 1 (sl4 (L i.1 s2.q3 i.2) s2.q3),[])) (fun s  (i:Oh)=>([],fun Γ=>(Γ.set 0 (BX gb0 132 [B gb3 0,I s.1,I s.2.1,L i.1 s.q2 i.2])).set 1 (sl4 (L i.1 s.q2 i.2) s.q2),[])) hit2 c (ga1,gc2) (c.rk [0,1] (rg 6)) (fun s2 q2 i1 _ _ c h hr2=>?_) fun s2r k1 _ _ hrl c=>?_
 refine P0 [] c fun _ c=>S0 (I0 c h (fun h=>?_) fun h=>?_)
 refine K0 (S0 (wp_block (T0 (Bd h fun x5 hx5 h=>Eai c hx5 fun _ c=>?_))))
 refine Fp [] 1 c fun _ c=>E0 (T0 (Fp [(3,0)] 6 c fun _ c=>Bd h fun x6 hx6 h=>Cb c (Zb2 hx6) ⟨.f 0,.f 1,.f 2,.f 3,.f 4,.f 5,tt⟩ call142 fun i2 _ _ c=>?_))
 refine Fp [] 5 c fun _ c=>E0 (S0 (P0 [] c fun _ c=>Ih c h (fun hb h=>?_) fun hb h=>?_))
 replace c:=c.dp [2]
 refine wp_exit (te (be ?_))
 refine tn (P1 [] c fun _ c=>Nx h (i1.1,i1.2) (c.rk [0,1] (rg 6)))
 replace c:=c.opn 2 (bT hb)
 replace c:=c.eqs (v:=oP x6.2 i2.1) (u:=B i2.1 0) 9 (by rw [(bT hb)]; rfl)
 refine K0 (T0 (Fp [] 2 c fun _ c=>Bd h fun x7 hx7 h=>Ca [0,1] c (ih hx7) ⟨.f 0,.f 1,.f 2,.b 0,.g 1,.g 2,tt⟩ call88 fun i3 _ _ c=>?_))
 refine Fp [] 1 c fun _ c=>E0 (P0 [] c fun _ c=>I0 c h (fun h=>?_) fun h=>?_)
 refine P0 [] c fun _ c=>?_
 obtain rfl:=hr2 _ (sk h)
 obtain rfl:=sj hk2
 exact wp_ret (br (tr (tr (br (tr (Rt c (i3.1,i3.2) [3,4] []))))))
 refine K1 (bk (tn (P1 [] c fun _ c=>Nx h (i3.1,i3.2) (c.rk [3,4] (rg 6)))))
 refine wp_exit (te (te (be ?_)))
 obtain rfl:=hr2 _ (sk h)
 exact tn ⟨_,(i1.1,i1.2),rfl,c.rk [0,1] (rg 6)⟩
 subst hrl
 refine P0 [] c fun _ c=>?_
 cases h
 exact wp_ret (Rt c (k1.1,k1.2) [0,1] [])
theorem Zb3 {p0 p1 p2 gb0 r} (h:YY n p0 p1 p2 = some r):Con prog 49 [B gb0 0,L ga5 p1 gc6,I p2] [] [FX gb0 127 [I p0.f.Vars,L ga1 p0.f.Clauses gc2,L ga3 p0.occ gc4],lR ga1 p0.f.Clauses gc2,lR ga3 p0.occ gc4,lR ga5 p1 gc6] fun (i:Oh)=>([I r.1,L i.1 r.2.1 i.2,I r.2.2],[sl4 (L i.1 r.2.1 i.2) r.2.1],[]):=by
 unfold YY at h
 refine En func49 rfl ntmps49 fun _ fr w c=>?_
 refine P0 [] c fun _ c=>T0 (Fp [] 2 c fun _ c=>Bd h fun x1 hx1 h=>Cb c (ZbI hx1) ⟨.f 0,.f 1,.f 2,.f 3,tt⟩ call87 fun i1 _ _ c=>?_)
 refine Fp [] 5 c fun _ c=>E0 (S0 (P0 [] c fun _ c=>Ih c h (fun hb h=>?_) fun hb h=>?_))
 replace c:=c.dp [0]
 refine P0 [] c fun _ c=>?_
 replace c:=c.nil (α:=Bool) 4
 cases h
 exact wp_ret (tr (Rg c (none,0) [0] [] (.tmp (.tmp (.tmp .nil)))))
 replace c:=c.opn 0 (bT hb)
 replace c:=c.eqs (v:=oP x1.2 i1.1) (u:=B i1.1 0) 9 (by rw [(bT hb)]; rfl)
 refine K0 (T0 (Fp [] 3 c fun _ c=>Eal [.pointer none,I 0,I 0,L none ([]:List Bool) 0] c fun b1 _ _ c=>?_))
 refine Ess 3 [B gb0 0,I p2,I 0,L none ([]:List Bool) 0] c fun _ c=>?_
 refine E0 (T0 (Fp [] 1 c fun _ c=>?_))
 replace c:=c.nil (α:=Bool) 4
 refine Bd h fun x2 hx2 h=>Ca [3,4] c (ZbA hx2) ⟨.f 0,.f 1,.f 2,.b 0,.g 1,.g 2,tt⟩ call88 fun i2 _ _ c=>?_
 refine Fp [] 1 c fun _ c=>E0 (S0 (Ry [(2,1),(4,1)] mix c fun _ _ c=>?_))
 cases h
 exact wp_ret (Rg c (i2.1,i2.2) [4] [] (.tmp (.tmp (.tmp .nil))))
theorem Zed {p0 p1 p2 r} (h:Zaq n p0 p1 p2 = some r):Con prog 31 [.agg #[I p0.Vars,L ga0 p0.Clauses gc1],L ga2 p1 gc3,I p2] [] [lR ga0 p0.Clauses gc1,lR ga2 p1 gc3] fun (i:Oh)=>([I r.1,L i.1 r.2.1 i.2,I r.2.2],[sl4 (L i.1 r.2.1 i.2) r.2.1],[]):=by
 unfold Zaq at h
 refine En func31 rfl ntmps31 fun _ fr w c=>?_
 refine T0 (Ebx [I p0.Vars,L ga0 p0.Clauses gc1] c fun b1 _ _ c=>?_)
 refine Fp [] 3 c fun _ c=>E0 (S0 (Bd h fun x1 hx1 h=>Bd h fun x2 hx2 h=>Bd h fun x3 hx3 h=>S0 (rZ [(1,.eq (.bool x1)),(7,.eq (.bool x2)),(12,.eq (.bool x3))] [(0,0),(6,0)] mix c ⟨Ncl c (kN (ZcY hx1)) ⟨.f 0,tt⟩ call67,Ncl c (fun hg=>XI (iteF (gcF hg) hx2)) ⟨.f 1,tt⟩ call68,Ncl c (fun hg=>Zav (iteF (gcF hg) hx3)) tt call29,tt⟩ fun _ _ c=>I0 c h (fun h=>?_) fun h=>?_)))
 refine P0 [] c fun _ c=>?_
 replace c:=c.nil (α:=Bool) 4
 cases h
 exact wp_ret (tr (Rg c (none,0) [1] [] (.tmp (.tmp (.tmp .nil)))))
 refine K0 (T0 (Fp [(0,0)] 1 c fun _ c=>Bd h fun x4 hx4 h=>Cg c (ZcN hx4) ⟨.f 0,tt⟩ call48 fun i1 _ _ c=>?_))
 refine Fp [] 2 c fun _ c=>Bd h fun x5 hx5 h=>Cb c (Zb3 hx5) ⟨.f 2,.f 3,.f 4,.f 1,tt⟩ call49 fun i2 _ _ c=>?_
 refine Fp [] 6 c fun _ c=>E0 ?_
 cases h
 exact wp_ret (Rg c (i2.1,i2.2) [1] [] (.tmp (.tmp (.tmp .nil))))
theorem Zd0 {p0 r} (h:YP p0 = some r):C0 69 [.bool p0] [] (I r):=by
 unfold YP at h
 refine En func69 rfl ntmps69 fun _ fr w c=>?_
 exact P0 [] c fun _ c=>S0 (P0 [] c fun _ c=>I0 c h (fun h=>P0 [] c fun _ c=>rE) fun h=>K0 (P0 [] c fun _ c=>rE))
theorem Zd4 {p0 p1 r} (h:XB n p0 p1 = some r):Con prog 32 [tV p0 ga0 gc1,L ga2 p1 gc3] [] [lR ga0 p0.Kids gc1,lR ga2 p1 gc3] fun (i:Oh)=>([L i.1 r i.2],[sl45 (L i.1 r i.2) r],[]):=by
 unfold XB at h
 refine En func32 rfl ntmps32 fun _ fr w c=>?_
 refine T0 (Ebx (tC p0 ga0 gc1) c fun b1 _ _ c=>?_)
 refine Fp [] 1 c fun _ c=>E0 (T0 (Fp [(0,0)] 1 c fun _ c=>Bd h fun x1 hx1 h=>Cb c (Zb8 hx1) ⟨.f 0,tt⟩ call36 fun i1 _ _ c=>?_))
 refine Fp [] 1 c fun _ c=>E0 (P0 [] c fun _ c=>S0 (P0 [] c fun _ c=>Bd h fun rl1 hit1 h=>Lp (fun s1  (_:Unit)=>([(1,L ga2 p1 gc3),(5,L i1.1 x1 i1.2),(6,I s1.1),(12,I (len x1)),(13,I s1.2.1)],fun Γ=>Γ.set 1 (sl45 (L i1.1 x1 i1.2) s1.q2),[])) (fun  (_:Unit)=>([(5,L i1.1 x1 i1.2)],fun Γ=>Γ.set 1 (sl45 (L i1.1 x1 i1.2) rl1),[])) hit1 c () (c.rk [0,1] [0,1]) (fun s1 q1 _ _ _ c h hr1=>?_) fun _ _ _ c=>?_))
 refine P0 [] c fun _ c=>S0 (I0 c h (fun h=>?_) fun h=>?_)
 refine K0 (S0 (wp_block (P0 [] c fun _ c=>P0 [] c fun _ c=>Bd h fun rl2 hit2 h=>Tq (Lp (fun s2  (_:Unit)=>([(1,L ga2 p1 gc3),(5,L i1.1 x1 i1.2),(6,I s2.1),(7,I s1.2.1),(8,I s2.2.1),(12,I (len x1)),(13,I s1.2.1)],fun Γ=>Γ.set 1 (sl45 (L i1.1 x1 i1.2) s2.q2),[])) (fun  (_:Unit)=>([(1,L ga2 p1 gc3),(5,L i1.1 x1 i1.2),(6,I rl2.1),(12,I (len x1)),(13,I s1.2.1)],fun Γ=>Γ.set 1 (sl45 (L i1.1 x1 i1.2) rl2.2),[])) hit2 c () (c.rk [0,1] [0,1]) (fun s2 q2 _ _ _ c h hr2=>?_) fun _ _ _ c=>?_))))
 refine S0 (T0 (Fp [] 3 c fun _ c=>Bd h fun x2 hx2 h=>Eef c (.g 1) hx2 Zdw fun _ _ _ c=>?_))
 refine Fp [] 1 c fun _ c=>E0 (I0 c h (fun h=>?_) fun h=>?_)
 refine K0 (S0 (wp_block (Bd h fun x3 hx3 h=>Bd h fun x4 hx4 h=>Bd h fun x5 hx5 h=>S0 (Yj mix (rM 15 [(4,Pd.el (x3:D.Value)),(5,Pd.fl (I x3.N)),(6,.eq (I x3.N)),(11,Pd.el (x4:Bool)),(12,.eq (.bool x4)),(13,.eq (I x5))] [] c (fun ow=>⟨Zj ow (Nid c (.g 1) (kN hx3)),Zj ow (Nfa c 4 (atM 4 (p:=.el (x3:D.Value))) Zdo),Zj ow (Nlf c 5 (atM 5 (p:=.fl (I x3.N)))),Zj ow (Nid c (.f 1) (kN hx4)),Zj ow (Nld c 11 (q:=x4) (atM 11 (p:=.el (x4:Bool)))),Zj ow (Ncl c (kN (Zd0 hx5)) tt call69),tt⟩) fun _ _ _ _ _ c=>Bd h fun x6 hx6 h=>Bd h fun x7 hx7 h=>Esf 1 (I (w64 ((w64 (2 * x3.N)) + x5))) c hx6 hx7 fun _ _ _ _ c=>?_)))))
 refine E0 (Tq (P1 [] c fun _ c=>bk (tn (P1 [] c fun _ c=>Nx h () (c.rk [0,1] [0,1])))))
 refine wp_exit (te (te (be ?_)))
 obtain rfl:=hr2 _ (sk h)
 exact tn ⟨(),c.rk [0,1] [0,1]⟩
 refine bk (tn (P1 [] c fun _ c=>Nx h () (c.rk [0,1] [0,1])))
 refine wp_exit (te (te (be ?_)))
 obtain rfl:=hr1 _ (sk h)
 exact tn ⟨(),c.rk [0,1] [0,1]⟩
 refine P0 [] c fun _ c=>?_
 obtain rfl:=sj h
 obtain ⟨he1,c⟩:=c.relen 1
 replace c:=c.eqs (v:=L i1.1 x1 i1.2) (u:=L i1.1 rl1 i1.2) 4 (by simp only [L,he1])
 exact wp_ret (Rt c (i1.1,i1.2) [1] [])
theorem ZaI {p0 p1 r} (h:YQ n p0 p1 = some r):Con prog 8 [tV p0 ga0 gc1,I p1] [] [lR ga0 p0.Kids gc1] fun (i:Oh)=>([I r.1,L i.1 r.2 i.2],[sl45 (L i.1 r.2 i.2) r.2],[]):=by
 unfold YQ at h
 refine En func8 rfl ntmps8 fun _ fr w c=>?_
 refine T0 (Ebx (tC p0 ga0 gc1) c fun b1 _ _ c=>?_)
 refine Fp [] 2 c fun _ c=>E0 (S0 (Bd h fun x1 hx1 h=>Bd h fun x2 hx2 h=>S0 (rZ [(1,.eq (.bool x1)),(10,.eq (.bool x2))] [(0,0),(5,0)] mix c ⟨Ncl c (kN (XU hx1)) ⟨.f 0,tt⟩ call28,Ncl c (fun hg=>Zav (iteF (gcF hg) hx2)) tt call29,tt⟩ fun _ _ c=>I0 c h (fun h=>?_) fun h=>?_)))
 refine P0 [] c fun _ c=>?_
 replace c:=c.nil (α:=D.Value) 45
 cases h
 exact wp_ret (tr (Rg c (none,0) [1] [] (.tmp (.tmp .nil))))
 refine K0 (T0 (Fp [(0,0)] 1 c fun _ c=>Bd h fun x3 hx3 h=>Cb c (ZcH hx3) ⟨.f 0,tt⟩ call12 fun i1 _ _ c=>?_))
 refine Fp [] 4 c fun _ c=>Eal [I 0,L none ([]:List D.Gate) 0] c fun b2 _ _ c=>?_
 refine Ess 3 [I x3.1.Inputs,L i1.1 x3.1.Gates i1.2.1] c fun _ c=>?_
 refine Fp [] 2 c fun _ c=>E0 (S0 (P0 [] c fun _ c=>I0 c h (fun h=>?_) fun h=>?_))
 refine P0 [] c fun _ c=>?_
 replace c:=c.nil (α:=D.Value) 45
 cases h
 exact wp_ret (tr (Rg c (none,0) [4] [] (.tmp (.tmp .nil))))
 refine K0 ?_
 replace c:=c.fz 1
 replace c:=c.fz 1
 refine Bd h fun x4 hx4 h=>?_
 obtain ⟨ep1,c⟩:=c.eli (.f 2) hx4
 refine Bd h fun x5 hx5 h=>S0 (Jn (fun i:Nat × Ob (List Hd)=>([(1,I p1),(2,B b1 0),(8,.bool x5.2),(9,B i.1 0)],fun Γ=>Γ ++ [BX i.1 61 [I x5.1.Vars,L i.2.1 x5.1.Clauses i.p2],sl27 (L i.2.1 x5.1.Clauses i.p2) (i.q3)],[CS (i.q3) x5.1.Clauses])) c ?_ fun i7 _ _ c=>?_)
 refine As mix c fun _ c=>?_
 replace c:=Cx.frs [(1,I p1),(2,B b1 0),(6,B b2 0),(7,L i1.p2 x3.2.1 i1.q3)] c
 refine Dq (fun i:Nat × Ob (List Hd)=>([(1,I p1),(2,B b1 0),(9,B i.1 0),(34,.tuple #[.agg #[I x5.1.Vars,L i.2.1 x5.1.Clauses i.p2],.bool x5.2])],fun Γ=>Γ ++ [BX i.1 61 [I x5.1.Vars,L i.2.1 x5.1.Clauses i.p2],sl27 (L i.2.1 x5.1.Clauses i.p2) (i.q3)],[CS (i.q3) x5.1.Clauses])) (bN 11 895) (fun i=>[(7,41,.bool x5.2),(10,8,.bool x5.2)]) c (fun i6=>?_) fun hd4=>?_
 obtain ⟨b7,a3,c3,rs3⟩:=i6
 refine qnE ⟨qP [],qP [],tt⟩ fun _ _ c=>?_
 exact nN (b7,a3,c3,rs3) (c.rk (rg 4) (rg 5))
 refine Dq (fun i:Nat × Ob (List Hd)=>([(1,I p1),(2,B b1 0),(9,B i.1 0),(39,.tuple #[.agg #[I x5.1.Vars,L i.2.1 x5.1.Clauses i.p2],.bool x5.2])],fun Γ=>Γ ++ [BX i.1 61 [I 0,L none ([]:List (List Int)) 0],sl27 (L i.2.1 x5.1.Clauses i.p2) (i.q3)],[CS (i.q3) x5.1.Clauses])) (bN 11 287) (fun i=>[(5,34,.tuple #[.agg #[I x5.1.Vars,L i.2.1 x5.1.Clauses i.p2],.bool x5.2]),(6,40,.agg #[I x5.1.Vars,L i.2.1 x5.1.Clauses i.p2]),(7,41,.bool x5.2)]) c (fun i4=>?_) fun hd3=>?_
 obtain ⟨b6,a2,c2,rs2⟩:=i4
 refine qn [9] ⟨qP [],qP [],qP [],tt⟩ ⟨fun _ _ c=>?_,tt⟩
 refine ZM _ rfl rfl ?_
 refine Ess 2 [I x5.1.Vars,L a2 x5.1.Clauses c2] c fun _ c=>?_
 refine E0 (nQ hd4 (b6,a2,c2,rs2) (c.rk (rg 4) (rg 5)))
 refine Dq (fun i:Ob (List Hd)=>([(1,I p1),(2,B b1 0),(39,.tuple #[.agg #[I x5.1.Vars,L i.1 x5.1.Clauses i.2.1],.bool x5.2])],fun Γ=>Γ ++ [sl27 (L i.1 x5.1.Clauses i.2.1) (i.q2)],[CS (i.q2) x5.1.Clauses])) (bN 11 31) (fun i=>[(5,34,.tuple #[.agg #[I x5.1.Vars,L i.1 x5.1.Clauses i.2.1],.bool x5.2]),(6,40,.agg #[I x5.1.Vars,L i.1 x5.1.Clauses i.2.1]),(7,41,.bool x5.2)]) c (fun i3=>?_) fun hd1=>?_
 obtain ⟨a1,c1,rs1⟩:=i3
 refine qn [8] ⟨qP [],qP [],qP [],tt⟩ ⟨fun _ _ c=>?_,tt⟩
 refine ZM _ rfl rfl ?_
 refine Eal [I 0,L none ([]:List (List Int)) 0] c fun b5 _ _ c=>?_
 refine E0 (nQ hd3 (b5,a1,c1,rs1) (c.rk [0,1,3,2] (rg 5)))
 refine Dq (fun i:Nat=>([(1,I p1),(2,B b1 0),(6,B b2 0),(7,L i1.p2 x3.2.1 i1.q3),(9,B i 0)],fun Γ=>Γ ++ [BX i 61 [I 0,L none ([]:List (List Int)) 0]],[])) (bN 11 256) (fun i=>[(0,35,.agg #[I x3.1.Inputs,L i1.1 x3.1.Gates i1.2.1]),(1,36,L i1.p2 x3.2.1 i1.q3),(2,37,.pointer (some ep1)),(3,38,I x4)]) c (fun b4=>?_) fun hd2=>?_
 refine qn [4] ⟨qP [(0,1)],qP [],qI 3,qL 3,tt⟩ ⟨fun _ _ c=>?_,tt⟩
 refine ZM _ rfl rfl ?_
 refine Cg c (ZaN hx5) ⟨.f 1,tt⟩ call30 fun i5 _ _ c=>?_
 refine E0 (nQ hd3 (b4,i5.1,i5.2.1,i5.q2) (c.rk (rg 4) (rg 5)))
 refine q0 (qs:=[(0,35,.agg #[I x3.1.Inputs,L i1.1 x3.1.Gates i1.2.1]),(1,36,L i1.p2 x3.2.1 i1.q3),(2,37,.pointer (some ep1)),(3,38,I x4)]) c (qn [4,8] ⟨qP [(0,1)],qP [],qI 3,qL 3,tt⟩ ⟨fun _ _ c=>?_,fun _ _ c=>?_,tt⟩)
 refine ZM _ rfl rfl ?_
 refine Cg c (ZaN hx5) ⟨.f 1,tt⟩ call30 fun i2 _ _ c=>?_
 refine E0 (nQ hd1 (i2.1,i2.2.1,i2.q2) (c.rk [0,1,2] (rg 5)))
 refine ZM _ rfl rfl ?_
 refine Eal [I 0,L none ([]:List (List Int)) 0] c fun b3 _ _ c=>?_
 refine E0 (nQ hd2 (b3) (c.rk [0,1,2] (rg 4)))
 obtain ⟨b8,a4,c4,rs4⟩:=i7
 refine S0 (P0 [] c fun _ c=>I0 c h (fun h=>?_) fun h=>?_)
 refine P0 [] c fun _ c=>?_
 replace c:=c.nil (α:=D.Value) 45
 cases h
 exact wp_ret (tr (Rg c (none,0) [4] [] (.tmp (.tmp .nil))))
 refine K0 (T0 (Fp [(0,2)] 2 c fun _ c=>Bd h fun x6 hx6 h=>Cb c (Zed hx6) ⟨.gr 3 4,.nil,tt⟩ call31 fun i8 _ _ c=>?_))
 refine Fp [] 7 c fun _ c=>E0 (S0 (P0 [] c fun _ c=>I0 c h (fun h=>?_) fun h=>?_))
 refine P0 [] c fun _ c=>?_
 replace c:=c.nil (α:=D.Value) 45
 cases h
 exact wp_ret (tr (Rg c (none,0) [5] [] (.tmp (.tmp .nil))))
 refine K0 (T0 (Fp [(0,0)] 2 c fun _ c=>Bd h fun x7 hx7 h=>Cb c (Zd4 hx7) ⟨.f 0,.g 4,tt⟩ call32 fun i9 _ _ c=>?_))
 refine Fp [] 2 c fun _ c=>E0 ?_
 cases h
 exact wp_ret (Rg c (i9.1,i9.2) [5] [] (.tmp (.tmp .nil)))
theorem ZcX {p0 p1 r} (h:XT n p0 p1 = some r):Con prog 9 [tV p0 ga0 gc1,I p1] [] [lR ga0 p0.Kids gc1] fun (i:Oh)=>([I r.1,L i.1 r.2 i.2],[sl45 (L i.1 r.2 i.2) r.2],[]):=by
 unfold XT at h
 refine En func9 rfl ntmps9 fun _ fr w c=>?_
 refine T0 (Ebx (tC p0 ga0 gc1) c fun b1 _ _ c=>?_)
 refine Fp [] 2 c fun _ c=>E0 (S0 (Bd h fun x1 hx1 h=>Bd h fun x2 hx2 h=>S0 (rZ [(1,.eq (.bool x1)),(10,.eq (.bool x2))] [(0,0),(5,0)] mix c ⟨Ncl c (kN (XU hx1)) ⟨.f 0,tt⟩ call28,Ncl c (fun hg=>Zav (iteF (gcF hg) hx2)) tt call29,tt⟩ fun _ _ c=>I0 c h (fun h=>?_) fun h=>?_)))
 refine P0 [] c fun _ c=>?_
 replace c:=c.nil (α:=D.Value) 45
 cases h
 exact wp_ret (tr (Rg c (none,0) [1] [] (.tmp (.tmp .nil))))
 refine K0 (T0 (Fp [(0,0)] 1 c fun _ c=>Eltr 25 [(tR p0 ga0 gc1)] [p0] c ⟨(Ava.mk_Term p0 (.f 0)),tt⟩ fun a1 c1 _ _ c=>?_))
 refine Fp [] 2 c fun _ c=>Bd h fun x3 hx3 h=>Cb c (ZaI hx3) ⟨.gr 1 1,tt⟩ call8 fun i1 _ _ c=>?_
 refine Fp [] 5 c fun _ c=>E0 (S0 (P0 [] c fun _ c=>wp_block (P0 [] c fun _ c=>I0 c h (fun h=>?_) fun h=>?_)))
 refine P0 [] c fun _ c=>?_
 replace c:=c.nil (α:=D.Value) 45
 cases h
 exact wp_ret (br (tr (Rg c (none,0) [3] [] (.tmp (.tmp .nil)))))
 refine P0 [] c fun _ c=>I0 c h (fun h=>?_) fun h=>?_
 refine P0 [] c fun _ c=>?_
 cases h
 exact wp_ret (br (tr (Rg c (i1.1,i1.2) [2] [] (.tmp (.tmp .nil)))))
 refine K1 (bk (tn (P0 [] c fun _ c=>?_)))
 replace c:=c.nil (α:=D.Value) 45
 cases h
 exact wp_ret (Rg c (none,0) [3] [] (.tmp (.tmp .nil)))
theorem ZbJ {p0 p1 p2 p3 r} (h:YX n p0 p1 p2 p3 = some r):C0 10 [tV p0 ga0 gc1,I p1,L ga2 p2 gc3,I p3] [lR ga0 p0.Kids gc1,lR ga2 p2 gc3] (.bool r):=by
 unfold YX at h
 refine En func10 rfl ntmps10 fun _ fr w c=>?_
 refine T0 (Ebx (tC p0 ga0 gc1) c fun b1 _ _ c=>?_)
 refine Fp [] 1 c fun _ c=>E0 (S0 (P0 [] c fun _ c=>I0 c h (fun h=>P0 [] c fun _ c=>rE) fun h=>?_))
 refine K0 (S0 (S0 (Ry [] mix c fun _ _ c=>I0 c h (fun h=>?_) fun h=>?_)))
 refine S0 (Ry [] mix c fun _ _ c=>?_)
 exact rE
 refine K0 (P0 [] c fun _ c=>S0 (T0 (Fp [(0,0)] 1 c fun _ c=>Bd h fun x1 hx1 h=>Cb c (ZaE hx1) ⟨.f 0,tt⟩ call16 fun i1 _ _ c=>?_)))
 refine Fp [] 2 c fun _ c=>E0 (Bd h fun rl1 hit1 h=>?_)
 have hk1:=h
 refine LpR (fun s1  (_:Unit)=>([(2,L ga2 p2 gc3),(3,I p3),(4,B b1 0),(9,I s1.1),(32,L i1.1 x1 i1.2),(33,I (len x1)),(34,I s1.2)],id,[])) (fun s  (_:Unit)=>([(2,L ga2 p2 gc3),(3,I p3),(4,B b1 0),(9,I s)],id,[])) hit1 c () (c.rk [0,1] [0,1]) (fun s1 q1 _ _ _ c h hr1=>?_) fun s1r _ _ _ hrl c=>?_
 refine P0 [] c fun _ c=>S0 (I0 c h (fun h=>?_) fun h=>?_)
 refine K0 (S0 (wp_block (T0 (Fp [] 1 c fun _ c=>Bd h fun x2 hx2 h=>Eel c (.g 1) hx2 fun _ _ c=>?_))))
 refine Eal [Str.val ⟨[]⟩,I 0,I 0] c fun b2 _ _ c=>?_
 refine Fp [] 1 c fun _ c=>Ess 2 (vC x2) c fun _ c=>?_
 refine E0 (S0 (Bd h fun x3 hx3 h=>Bd h fun x4 hx4 h=>Bd h fun x5 hx5 h=>Bd h fun x6 hx6 h=>Bd h fun x7 hx7 h=>S0 (rZ [(7,Pd.el (x3:D.Value)),(8,Pd.fl (Str.val x3.Name)),(9,.eq (Str.val x3.Name)),(17,Pd.el (x4:D.Value)),(18,Pd.fl (I x4.W)),(19,.eq (I x4.W)),(27,Pd.el (x5:D.Value)),(28,Pd.fl (I x5.W)),(29,.eq (I x5.W)),(32,Pd.el (x6:D.Value)),(33,Pd.fl (I x6.N)),(34,.eq (I x6.N)),(35,.eq (.bool x7))] [(11,1),(21,1)] mix c ⟨Nid c (.f 1) (gF hx3),Nfa c 7 (atN 7) ZhD,Nlf c 8 (atN 8),Nid c (.f 1) (gF hx4),Nfa c 17 (atN 17) Zdw,Nlf c 18 (atN 18),Nid c (.f 1) (gF hx5),Nfa c 27 (atN 27) Zdw,Nlf c 28 (atN 28),Nid c (.f 1) (gF hx6),Nfa c 32 (atN 32) Zdo,Nlf c 33 (atN 33),Ncl c (fun hg=>ZY (iteF (gcF hg) hx7)) tt call33,tt⟩ fun _ _ c=>I0 c h (fun h=>?_) fun h=>?_)))
 refine P0 [] c fun _ c=>?_
 obtain rfl:=hr1 _ (sk h)
 obtain rfl:=sj hk1
 exact wp_ret (tr (br (tr (tr (br (tr (Rt c () [] [])))))))
 refine K0 (Bd h fun x8 hx8 h=>Bd h fun x9 hx9 h=>Tq (rZ [(3,.eq (I x8)),(6,Pd.el (x9:D.Value)),(7,Pd.fl (I x9.N)),(8,.eq (I x9.N))] [(2,1)] mix c ⟨Nshl c (kN hx8),Nid c (.f 1) (kN hx9),Nfa c 6 (atN 6) Zdo,Nlf c 7 (atN 7),tt⟩ fun _ _ c=>bk (tn (P1 [] c fun _ c=>Nx h () (c.rk [0,1] [0,1])))))
 refine wp_exit (te (te (be ?_)))
 obtain rfl:=hr1 _ (sk h)
 exact tn ⟨_,(),rfl,c.rk [0,1] [0,1]⟩
 subst hrl
 refine T0 (Fp [] 1 c fun _ c=>Fp [] 1 c fun _ c=>Fp [] 1 c fun _ c=>Fp [] 1 c fun _ c=>?_)
 rcases Zcj (b:=(s1r == p3)) h with ⟨hg1,h⟩ | ⟨hg1,h⟩
 replace c:=c.eqs (v:=.bool (s1r == p3)) (u:=.bool true) 91 (by rw [hg1])
 refine Gt c ?_
 dsimp only [List.set]
 refine Fp [] 1 c fun _ c=>Gt c ?_
 dsimp only [List.set]
 refine Fp [] 1 c fun _ c=>Gt c ?_
 dsimp only [List.set]
 refine Fp [(6,0)] 1 c fun _ c=>Gt c ?_
 dsimp only [List.set]
 refine Bd h fun x10 hx10 h=>Cb c (ZaE hx10) ⟨.f 0,tt⟩ call16 fun i2 _ _ c=>?_
 refine Gt c ?_
 dsimp only [List.set]
 refine Fp [] 1 c fun _ c=>Gt c ?_
 dsimp only [List.set]
 exact Fp [] 1 c fun _ c=>Epk (b:=true) (v:=.bool ((len p2) == (len x10))) c fun _ c=>Fp [] 1 c fun _ c=>E0 rE
 replace c:=c.eqs (v:=.bool (s1r == p3)) (u:=.bool false) 91 (by rw [hg1])
 exact Gs c fun _ c=>Gs c fun _ c=>Gs c fun _ c=>Gs c fun _ c=>Gs c fun _ c=>Gs c fun _ c=>Epk (b:=false) (v:=.bool false) c fun _ c=>Fp [] 1 c fun _ c=>E0 rE
theorem Zdu {p0 r} (h:Zaj n p0 = some r):C0 3 [L ga0 p0 gc1] [lR ga0 p0 gc1] (.bool r):=by
 unfold Zaj at h
 refine En func3 rfl ntmps3 fun _ fr w c=>?_
 refine P0 [] c fun _ c=>S0 (P0 [] c fun _ c=>I0 c h (fun h=>P0 [] c fun _ c=>rE) fun h=>?_)
 refine K0 (T0 (Fp [] 1 c fun _ c=>Bd h fun x1 hx1 h=>Cg c (Zd3 hx1) ⟨.f 0,tt⟩ call6 fun i1 _ _ c=>?_))
 refine Eal tZ c fun b1 _ _ c=>?_
 refine Ess 0 (tC x1 i1.1 i1.2) c fun _ c=>?_
 replace c:=c.ng
 refine E0 (T0 (Fp [(0,0)] 1 c fun _ c=>Bd h fun x2 hx2 h=>Cg c (ZdG hx2) ⟨.f 1,tt⟩ call7 fun i2 _ _ c=>?_))
 refine Fp [] 1 c fun _ c=>E0 (S0 (P0 [] c fun _ c=>I0 c h (fun h=>P0 [] c fun _ c=>rE) fun h=>?_))
 refine K0 (P0 [] c fun _ c=>P0 [] c fun _ c=>S0 (P0 [] c fun _ c=>Bd h fun rl1 hit1 h=>Lp (fun s1  (_:Unit)=>([(3,B b1 0),(5,I s1.1),(6,I s1.2.1),(23,L i2.1 x2 i2.2),(24,I (len x2)),(25,I s1.q2)],id,[])) (fun  (_:Unit)=>([(3,B b1 0),(5,I rl1.1),(6,I rl1.2)],id,[])) hit1 c () (c.rk [0] [0,1,2]) (fun s1 q1 _ _ _ c h hr1=>?_) fun _ _ _ c=>?_))
 refine P0 [] c fun _ c=>S0 (I0 c h (fun h=>?_) fun h=>?_)
 refine K0 (S0 (wp_block (T0 (Fp [] 1 c fun _ c=>Bd h fun x3 hx3 h=>Eel c (.f 2) hx3 fun _ _ c=>?_))))
 refine Fp [] 2 c fun _ c=>E0 (S0 (S0 (Ry [] mix c fun _ _ c=>Mp ((x3 == 1) && (decide (s1.1 < 0))) [(5,I s1.q2)] [(5,I s1.1)] [(5,I (cond ((x3 == 1) && (decide (s1.1 < 0))) s1.q2 s1.1))] [5,36] c fun _ c=>S0 (Ry [] mix c fun _ _ c=>Tq (Mp ((x3 == 0) && (decide (s1.2.1 < 0))) [(6,I s1.q2)] [(6,I s1.2.1)] [(6,I (cond ((x3 == 0) && (decide (s1.2.1 < 0))) s1.q2 s1.2.1))] [6,43] c fun _ c=>bk (tn (P1 [] c fun _ c=>Nx h () (c.rk [0] [0,1,2]))))))))
 refine wp_exit (te (te (be ?_)))
 obtain rfl:=hr1 _ (sk h)
 exact tn ⟨(),c.rk [0] [0,1,2]⟩
 refine T0 (Fp [(0,0)] 1 c fun _ c=>Bd h fun x4 hx4 h=>Cb c (ZaI hx4) ⟨.f 1,tt⟩ call8 fun i3 _ _ c=>?_)
 refine Fp [] 5 c fun _ c=>E0 (T0 (Fp [(0,0)] 1 c fun _ c=>?_))
 replace c:=c.ng
 refine Bd h fun x5 hx5 h=>Cb c (ZcX hx5) ⟨.f 1,tt⟩ call9 fun i4 _ _ c=>?_
 replace c:=c.ng
 refine Fp [] 5 c fun _ c=>E0 (Bd h fun x6 hx6 h=>Bd h fun x7 hx7 h=>S0 (rZ [(4,.eq (.bool x6)),(21,.eq (.bool x7))] [(0,0),(18,0)] mix c ⟨Ncl c (kN (ZbJ hx6)) ⟨.f 1,.g 1,tt⟩ call10,Ncl c (fun hg=>ZbJ ((iteT (gcT (g':=5) (gU 8 (gU 14 (gU 17 hg)))) (iteF (gcF (g':=8) (gU 14 (gU 17 hg))) (iteT (gcT (g':=14) (gU 17 hg)) (iteF (gcF (g':=17) hg) hx7)))))) ⟨.f 1,.g 2,tt⟩ call10,tt⟩ fun _ _ c=>?_))
 exact rE
end Go.Proofs.YthlolmkdppfioaaGreat
