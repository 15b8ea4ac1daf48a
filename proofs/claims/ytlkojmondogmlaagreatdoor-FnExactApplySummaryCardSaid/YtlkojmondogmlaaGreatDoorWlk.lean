/- The walks, printed by a program. -/
import Derived.Test.YtlkojmondogmlaaGreatDoorWlkA
set_option linter.unusedVariables false
set_option linter.unusedSimpArgs false
set_option maxRecDepth 100000
set_option maxHeartbeats 40000000
namespace Go.Proofs.YtlkojmondogmlaaGreatDoor
open Go.GL Go.Maps Go.WideMaps Tryz
variable {n:Nat} {ga0 ga2 ga4 ga6 ga8 ga10 ga12 ga14 ga16 ga18 ga20 ga22 ga24:Option Addr} {gc1 gc3 gc5 gc7 gc9 gc11 gc13 gc15 gc17 gc19 gc21 gc23 gc25:Nat}
theorem Zd9 {p0 r} (h:Zaf p0 = some r):C0 103 [tV p0 ga0 gc1] [lR ga0 p0.Kids gc1] (.bool r):=by
 unfold Zaf at h
 refine En func103 rfl ntmps103 fun _ fr w c=>?_
 refine T0 (Ebx (tC p0 ga0 gc1) c fun b1 _ _ c=>?_)
 refine Fp [] 1 c fun _ c=>E0 (P0 [(1,0)] c fun _ c=>S0 (wp_block (S0 (Ry [(1,0),(5,0)] mix c fun _ _ c=>I0 c h (fun h=>?_) fun h=>?_))))
 exact P0 [] c fun _ c=>rE
 refine S0 (Ry [(1,0),(5,0)] mix c fun _ _ c=>I0 c h (fun h=>?_) fun h=>?_)
 refine Bd h fun x1 hx1 h=>?_
 obtain ⟨ep1,u1,c⟩:=c.elp (.f 0) hx1
 obtain ⟨a1,c1,rfl,c⟩:=c.o_Term 2
 refine S0 (rZ [(1,.eq (.pointer (some ep1))),(3,.eq (I x1.W))] [(5,0)] mix c ⟨Nie c 1,Nlc c 1 1,tt⟩ fun _ _ c=>?_)
 exact rE
 refine S0 (Ry [(1,0),(5,0)] mix c fun _ _ c=>I0 c h (fun h=>?_) fun h=>?_)
 refine Bd h fun x2 hx2 h=>?_
 obtain ⟨ep2,u2,c⟩:=c.elp (.f 0) hx2
 obtain ⟨a2,c2,rfl,c⟩:=c.o_Term 2
 refine Bd h fun x3 hx3 h=>S0 (rZ [(1,.eq (.pointer (some ep2))),(3,.eq (I x2.W)),(9,Pd.el (x3:D.Term)),(10,Pd.fl (I x3.W)),(11,.eq (I x3.W))] [(5,0),(13,0)] mix c ⟨Nie c 1,Nlc c 1 1,Nid c (.f 0) (gT hx3),Nfa c 9 (atN 9) Zbr,Nlf c 10 (atN 10),tt⟩ fun _ _ c=>?_)
 exact rE
 refine S0 (Ry [(1,0),(5,0)] mix c fun _ _ c=>I0 c h (fun h=>?_) fun h=>?_)
 refine Bd h fun x4 hx4 h=>?_
 obtain ⟨ep3,u3,c⟩:=c.elp (.f 0) hx4
 obtain ⟨a3,c3,rfl,c⟩:=c.o_Term 2
 refine Bd h fun x5 hx5 h=>?_
 obtain ⟨ep4,u4,c⟩:=c.elp (.f 0) hx5
 obtain ⟨a4,c4,rfl,c⟩:=c.o_Term 5
 refine S0 (rZ [(1,.eq (.pointer (some ep3))),(3,.eq (I x4.W)),(5,.eq (.pointer (some ep4))),(7,.eq (I x5.W))] [(11,0)] mix c ⟨Nie c 1,Nlc c 1 1,Nie c 4,Nlc c 4 1,tt⟩ fun _ _ c=>?_)
 exact rE
 refine P0 [(1,0)] c fun _ c=>I0 c h (fun h=>?_) fun h=>?_
 refine Bd h fun x6 hx6 h=>?_
 obtain ⟨ep5,u5,c⟩:=c.elp (.f 0) hx6
 obtain ⟨a5,c5,rfl,c⟩:=c.o_Term 2
 refine Bd h fun x7 hx7 h=>Bd h fun x8 hx8 h=>S0 (rZ [(1,.eq (.pointer (some ep5))),(3,.eq (I x6.W)),(7,Pd.el (x7:D.Term)),(8,Pd.fl (I x7.W)),(9,.eq (I x7.W)),(16,Pd.el (x8:D.Term)),(17,Pd.fl (I x8.W)),(18,.eq (I x8.W))] [(11,0),(20,0)] mix c ⟨Nie c 1,Nlc c 1 1,Nid c (.f 0) (gT hx7),Nfa c 7 (atN 7) Zbr,Nlf c 8 (atN 8),Nid c (.f 0) (gT hx8),Nfa c 16 (atN 16) Zbr,Nlf c 17 (atN 17),tt⟩ fun _ _ c=>?_)
 exact rE
 refine P0 [(1,0)] c fun _ c=>I0 c h (fun h=>?_) fun h=>?_
 refine Bd h fun x9 hx9 h=>?_
 obtain ⟨ep6,u6,c⟩:=c.elp (.f 0) hx9
 obtain ⟨a6,c6,rfl,c⟩:=c.o_Term 2
 refine Bd h fun x10 hx10 h=>?_
 obtain ⟨ep7,u7,c⟩:=c.elp (.f 0) hx10
 obtain ⟨a7,c7,rfl,c⟩:=c.o_Term 5
 refine S0 (rZ [(1,.eq (.pointer (some ep6))),(3,.eq (I x9.W)),(5,.eq (.pointer (some ep7))),(7,.eq (I x10.W))] [(10,0)] mix c ⟨Nie c 1,Nlc c 1 1,Nie c 4,Nlc c 4 1,tt⟩ fun _ _ c=>?_)
 exact rE
 refine P0 [(1,0)] c fun _ c=>I0 c h (fun h=>?_) fun h=>?_
 refine Bd h fun x11 hx11 h=>S0 (rZ [(7,Pd.el (x11:D.Term)),(8,Pd.fl (I x11.W)),(9,.eq (I x11.W))] [(1,0),(5,0),(11,0)] mix c ⟨Nid c (.f 0) (gT hx11),Nfa c 7 (atN 7) Zbr,Nlf c 8 (atN 8),tt⟩ fun _ _ c=>?_)
 exact rE
 refine K1 (bk (tn (Bd h fun x12 hx12 h=>?_)))
 obtain ⟨ep8,u8,c⟩:=c.elp (.f 0) hx12
 obtain ⟨a8,c8,rfl,c⟩:=c.o_Term 2
 refine S0 (rZ [(1,.eq (.pointer (some ep8))),(3,.eq (I x12.W))] [(5,0)] mix c ⟨Nie c 1,Nlc c 1 1,tt⟩ fun _ _ c=>?_)
 exact rE
theorem ZeW {p0 r} (h:Zbb n p0 = some r):C0 124 [Str.val p0] [] (.bool r):=by
 unfold Zbb at h
 refine En func124 rfl ntmps124 fun _ fr w c=>?_
 refine P0 [] c fun _ c=>S0 (S0 (Ry [] mix c fun _ _ c=>I0 c h (fun h=>?_) fun h=>?_))
 exact P0 [] c fun _ c=>rE
 refine K0 (S0 (P0 [] c fun _ c=>Bd h fun rl1 hit1 h=>?_))
 have hk1:=h
 refine LpR (fun s1  (_:Unit)=>([(0,Str.val p0),(3,I s1)],id,[])) (fun s  (_:Unit)=>([],id,[])) hit1 c () (c.rk [] []) (fun s1 q1 _ _ _ c h hr1=>?_) fun s1r _ _ _ hrl c=>?_
 refine S0 (P0 [] c fun _ c=>I0 c h (fun h=>?_) fun h=>?_)
 refine K0 (S0 (wp_block (Bd h fun x1 hx1 h=>Bd h fun x2 hx2 h=>S0 (rZ [(2,.eq (.int .u8 x1)),(7,.eq (.int .u8 x2))] [] mix c ⟨Nix c (kN hx1),Nix c (gT hx2),tt⟩ fun _ _ c=>Bd h fun x3 hx3 h=>Bd h fun x4 hx4 h=>S0 (rZ [(2,.eq (.int .u8 x3)),(7,.eq (.int .u8 x4))] [] mix c ⟨Nix c (kN hx3),Nix c (gT hx4),tt⟩ fun _ _ c=>S0 (Ry [] mix c fun _ _ c=>I0 c h (fun h=>?_) fun h=>?_))))))
 refine P0 [] c fun _ c=>?_
 obtain rfl:=hr1 _ (sk h)
 obtain rfl:=sj hk1
 exact wp_ret (br (tr (tr (br (tr (Rt c () [] []))))))
 refine K1 (bk (tn (P1 [] c fun _ c=>Nx h () (c.rk [] []))))
 refine wp_exit (te (te (be ?_)))
 obtain rfl:=hr1 _ (sk h)
 exact tn ⟨_,(),rfl,c.rk [] []⟩
 subst hrl
 exact P0 [] c fun _ c=>rE
theorem Zb8 {p0 p1 gb0 gu1 r} (h:Yw n p0 p1 = some r):Con prog 104 [B gb0 0,tV p1 ga2 gc3] [BX gb0 115 [I p0.count,gu1],OM map113 (gu1) p0.widths] [lR ga2 p1.Kids gc3] fun (i:Value)=>([.bool r.1],[BX gb0 115 [I r.2.count,i],OM map113 (i) r.2.widths],[]):=by
 unfold Yw at h
 refine En func104 rfl ntmps104 fun _ fr w c=>?_
 refine T0 (Ebx (tC p1 ga2 gc3) c fun b1 _ _ c=>?_)
 refine Fp [] 1 c fun _ c=>E0 (S0 (T0 (Fp [(1,1)] 2 c fun _ c=>Bd h fun x1 hx1 h=>Cb c (ZeW hx1) tt call124 fun _ _ _ c=>?_)))
 refine Fp [] 1 c fun _ c=>E0 (I0 c h (fun h=>?_) fun h=>?_)
 refine P0 [] c fun _ c=>?_
 cases h
 exact wp_ret (tr (Rt c (gu1) [0,1] []))
 refine K0 (S0 (T0 (Fp [(3,0)] 4 c fun _ c=>Enm 1 c fun _ c=>?_)))
 refine E0 (If c (b:=(Option.isNone p0.widths)) (fun hb=>?_) fun hb=>?_)
 replace h:=iteT hb h
 obtain rfl:=c.nom 1 hb
 replace c:=c.dp [1]
 refine T1 (Fp [] 1 c fun _ c=>Emm map113 c fun b2 _ _ c=>?_)
 refine Fp [] 2 c fun _ c=>Esb 0 1 (.map (some b2)) c fun _ c=>?_
 refine E0 (S0 (Bd h fun x2 hx2 h=>S0 (rZ [(6,.eq (.tuple #[I x2.1,.bool x2.2]))] [(3,0),(5,1)] mix c ⟨Nmg2 2 c (kN hx2),tt⟩ fun _ _ c=>P0 [] c fun _ c=>I0 c h (fun h=>?_) fun h=>?_)))
 refine P0 [(2,1)] c fun _ c=>?_
 replace c:=c.om 2
 cases h
 exact wp_ret (tr (Rt c (.map (some b2)) [0,2] []))
 refine K0 (S0 (Zav mix (rM 8 [] [(3,0),(5,1),(7,1)] c (fun ow=>tt) fun _ _ _ _ _ c=>Bd h fun x3 hx3 h=>Emp 2 c hx3 fun _ c=>?_)))
 refine E0 (P0 [] c fun _ c=>?_)
 replace c:=c.om 2
 cases h
 exact wp_ret (Rt c (.map (some b2)) [0,2] [])
 replace h:=iteF hb h
 obtain ⟨b3,rfl,c⟩:=c.som 1 hb
 refine K0 (S0 (Bd h fun x4 hx4 h=>S0 (rZ [(6,.eq (.tuple #[I x4.1,.bool x4.2]))] [(3,0),(5,1)] mix c ⟨Nmg2 1 c (kN hx4),tt⟩ fun _ _ c=>P0 [] c fun _ c=>I0 c h (fun h=>?_) fun h=>?_)))
 refine P0 [(2,1)] c fun _ c=>?_
 replace c:=c.om 1
 cases h
 exact wp_ret (tr (Rt c (.map (some b3)) [0,1] []))
 refine K0 (S0 (Zav mix (rM 8 [] [(3,0),(5,1),(7,1)] c (fun ow=>tt) fun _ _ _ _ _ c=>Bd h fun x5 hx5 h=>Emp 1 c hx5 fun _ c=>?_)))
 refine E0 (P0 [] c fun _ c=>?_)
 replace c:=c.om 1
 cases h
 exact wp_ret (Rt c (.map (some b3)) [0,1] [])
theorem Zcj {n:Nat}:∀ {p0 p1 gb0 gu1 ga2 gc3 r} (h:Z9 n p0 p1 = some r),Con prog 93 [B gb0 0,tV p1 ga2 gc3] [BX gb0 115 [I p0.count,gu1],OM map113 (gu1) p0.widths] [lR ga2 p1.Kids gc3] fun (i:Value)=>([.bool r.1],[BX gb0 115 [I r.2.count,i],OM map113 (i) r.2.widths],[]):=by
 induction n with
 | zero=>intro p0 p1 gb0 gu1 ga2 gc3 r h; simp [Z9] at h
 | succ n ih=>
 intro p0 p1 gb0 gu1 ga2 gc3 r h
 rw [Z9] at h
 refine En func93 rfl ntmps93 fun _ fr w c=>?_
 refine T0 (Ebx (tC p1 ga2 gc3) c fun b1 _ _ c=>?_)
 refine Fp [] 1 c fun _ c=>E0 (T0 (Fp [(3,0)] 7 c fun _ c=>Esb 0 0 (I (w64 (p0.count + 1))) c fun _ c=>?_))
 refine E0 (S0 (Bd h fun x1 hx1 h=>Bd h fun x2 hx2 h=>S0 (rZ [(8,.eq (.bool x1)),(17,.eq (I x2))] [(3,0),(7,1),(13,1),(16,1)] mix c ⟨Ncl c (fun hg=>XM (iteF (gcF hg) hx1)) tt call90,Ncl c (fun hg=>ZdS (iteF (gcF hg) hx2)) tt call102,tt⟩ fun _ _ c=>I0 c h (fun h=>?_) fun h=>?_)))
 refine P0 [] c fun _ c=>?_
 cases h
 exact wp_ret (tr (Rt c (gu1) [0,1] []))
 refine K0 (S0 (P0 [(1,1)] c fun _ c=>Bd h fun rl1 hit1 h=>?_))
 have hk1:=h
 refine LpR (fun s1  (_:Unit)=>([(0,B gb0 0),(3,B b1 0),(36,I (len p1.Kids)),(37,I s1)],id,[])) (fun s  (_:Unit)=>([(0,B gb0 0),(3,B b1 0)],id,[])) hit1 c () (c.rk [0,1,2] [0]) (fun s1 q1 _ _ _ c h hr1=>?_) fun s1r _ _ _ hrl c=>?_
 refine P0 [] c fun _ c=>S0 (I0 c h (fun h=>?_) fun h=>?_)
 refine K0 (S0 (wp_block (P0 [] c fun _ c=>T0 (Fp [(1,1)] 3 c fun _ c=>Bd h fun x3 hx3 h=>Eef c (.f 0) hx3 Zbr fun _ _ _ c=>?_))))
 refine Bd h fun x4 hx4 h=>Cb c (XM hx4) tt call90 fun _ _ _ c=>?_
 refine Fp [] 1 c fun _ c=>E0 (I0 c h (fun h=>?_) fun h=>?_)
 refine P0 [] c fun _ c=>?_
 obtain rfl:=hr1 _ (sk h)
 obtain rfl:=sj hk1
 exact wp_ret (br (tr (tr (br (tr (Rt c (gu1) [0,1] []))))))
 refine K1 (bk (tn (P1 [] c fun _ c=>Nx h () (c.rk [0,1,2] [0]))))
 refine wp_exit (te (te (be ?_)))
 obtain rfl:=hr1 _ (sk h)
 exact tn ⟨_,(),rfl,c.rk [0,1,2] [0]⟩
 subst hrl
 refine S0 (T0 (Fp [(0,1)] 1 c fun _ c=>Bd h fun x5 hx5 h=>Cb c (Zd9 hx5) ⟨.f 0,tt⟩ call103 fun _ _ _ c=>?_))
 refine Fp [] 1 c fun _ c=>E0 (I0 c h (fun h=>?_) fun h=>?_)
 refine P0 [] c fun _ c=>?_
 cases h
 exact wp_ret (tr (Rt c (gu1) [0,1] []))
 refine K0 (S0 (Bd h fun x6 hx6 h=>S0 (rZ [(8,.eq (.bool x6))] [(1,1),(5,1),(7,1)] mix c ⟨Ncl c (fun hg=>ZT (iteT (gcT hg) hx6)) tt call79,tt⟩ fun _ _ c=>I0 c h (fun h=>?_) fun h=>?_)))
 refine P0 [] c fun _ c=>?_
 cases h
 exact wp_ret (tr (Rt c (gu1) [0,1] []))
 refine K0 (S0 (S0 (Ry [(1,1),(5,1),(10,1)] mix c fun _ _ c=>I0 c h (fun h=>?_) fun h=>?_)))
 refine P0 [] c fun _ c=>?_
 cases h
 exact wp_ret (tr (Rt c (gu1) [0,1] []))
 refine K0 (S0 (P0 [(1,1)] c fun _ c=>I0 c h (fun h=>?_) fun h=>?_))
 refine P0 [(1,1)] c fun _ c=>I0 c h (fun h=>?_) fun h=>?_
 refine P0 [] c fun _ c=>?_
 cases h
 exact wp_ret (tr (Rt c (gu1) [0,1] []))
 refine K0 (S0 (P0 [(1,1)] c fun _ c=>Bd h fun rl2 hit2 h=>?_))
 have hk2:=h
 refine LpR (fun s2  (i:Value)=>([(0,B gb0 0),(3,B b1 0),(88,I (len p1.Kids)),(89,I s2.1)],fun Γ=>(Γ.set 0 (BX gb0 115 [I s2.2.1,i])).set 1 (OM map113 (i) s2.q2),[])) (fun s  (i:Value)=>([],fun Γ=>(Γ.set 0 (BX gb0 115 [I s.1,i])).set 1 (OM map113 (i) s.2),[])) hit2 c (gu1) (c.rk [0,1,2] [0]) (fun s2 q2 i1 _ _ c h hr2=>?_) fun s2r k1 _ _ hrl c=>?_
 refine P0 [] c fun _ c=>S0 (I0 c h (fun h=>?_) fun h=>?_)
 refine K0 (S0 (wp_block (P0 [] c fun _ c=>T0 (Fp [(2,1)] 4 c fun _ c=>Bd h fun x7 hx7 h=>Eem c (.f 0) hx7 fun _ u1 _ c=>?_))))
 obtain ⟨a1,c1,rfl,c⟩:=c.o_Term 1
 refine Bd h fun x8 hx8 h=>Ca [0,1] c (ih hx8) ⟨.f 2,tt⟩ call93 fun i2 _ _ c=>?_
 refine Fp [] 1 c fun _ c=>E0 (I0 c h (fun h=>?_) fun h=>?_)
 refine P0 [] c fun _ c=>?_
 obtain rfl:=hr2 _ (sk h)
 obtain rfl:=sj hk2
 exact wp_ret (br (tr (tr (br (tr (Rt c (i2) [1,2] []))))))
 refine K1 (bk (tn (P1 [] c fun _ c=>Nx h (i2) (c.rk [1,2,0] [0]))))
 refine wp_exit (te (te (be ?_)))
 obtain rfl:=hr2 _ (sk h)
 exact tn ⟨_,(i1),rfl,c.rk [0,1,2] [0]⟩
 subst hrl
 refine P0 [] c fun _ c=>?_
 cases h
 exact wp_ret (Rt c (k1) [0,1] [])
 refine T0 (Fp [(1,1)] 2 c fun _ c=>Bd h fun x9 hx9 h=>Ca [0,1] c (Zb8 hx9) ⟨.f 0,tt⟩ call104 fun i3 _ _ c=>?_)
 refine Fp [] 1 c fun _ c=>E0 (I0 c h (fun h=>?_) fun h=>?_)
 refine P0 [] c fun _ c=>?_
 cases h
 exact wp_ret (tr (Rt c (i3) [1,2] []))
 refine K0 (S0 (P0 [(1,0)] c fun _ c=>Bd h fun rl3 hit3 h=>?_))
 have hk3:=h
 refine LpR (fun s3  (i:Value)=>([(0,B gb0 0),(3,B b1 0),(88,I (len p1.Kids)),(89,I s3.1)],fun Γ=>(Γ.set 1 (BX gb0 115 [I s3.2.1,i])).set 2 (OM map113 (i) s3.q2),[])) (fun s  (i:Value)=>([],fun Γ=>(Γ.set 1 (BX gb0 115 [I s.1,i])).set 2 (OM map113 (i) s.2),[])) hit3 c (i3) (c.rk [0,1,2] [0]) (fun s3 q3 i4 _ _ c h hr3=>?_) fun s3r k2 _ _ hrl c=>?_
 refine P0 [] c fun _ c=>S0 (I0 c h (fun h=>?_) fun h=>?_)
 refine K0 (S0 (wp_block (P0 [] c fun _ c=>T0 (Fp [(2,0)] 4 c fun _ c=>Bd h fun x10 hx10 h=>Eem c (.f 0) hx10 fun _ u2 _ c=>?_))))
 obtain ⟨a2,c2,rfl,c⟩:=c.o_Term 1
 replace c:=c.nf
 refine Bd h fun x11 hx11 h=>Ca [1,2] c (ih hx11) ⟨.f 2,tt⟩ call93 fun i5 _ _ c=>?_
 refine Fp [] 1 c fun _ c=>E0 (I0 c h (fun h=>?_) fun h=>?_)
 refine P0 [] c fun _ c=>?_
 obtain rfl:=hr3 _ (sk h)
 obtain rfl:=sj hk3
 exact wp_ret (br (tr (tr (br (tr (Rt c (i5) [1,2] []))))))
 refine K1 (bk (tn (P1 [] c fun _ c=>Nx h (i5) (c.rk [0,1,2] [0]))))
 refine wp_exit (te (te (be ?_)))
 obtain rfl:=hr3 _ (sk h)
 exact tn ⟨_,(i4),rfl,c.rk [0,1,2] [0]⟩
 subst hrl
 refine P0 [] c fun _ c=>?_
 cases h
 exact wp_ret (Rt c (k2) [1,2] [])
theorem Zc0 {p0 r} (h:XA n p0 = some r):C0 81 [tV p0 ga0 gc1] [lR ga0 p0.Kids gc1] (.bool r):=by
 unfold XA at h
 refine En func81 rfl ntmps81 fun _ fr w c=>?_
 refine T0 (Ebx (tC p0 ga0 gc1) c fun b1 _ _ c=>?_)
 refine Fp [] 1 c fun _ c=>E0 (T0 (Eal [I 0,.map none] c fun b2 _ _ c=>?_))
 refine E0 (T0 (Fp [(0,0)] 1 c fun _ c=>?_))
 replace c:=c.nilm map113
 refine Bd h fun x1 hx1 h=>Ca [1,2] c (Zcj hx1) ⟨.f 0,tt⟩ call93 fun i1 _ _ c=>?_
 exact Fp [] 1 c fun _ c=>E0 rE
theorem Za9 {p0 p1 r} (h:Xj n p0 p1 = some r):C0 63 [I p0,L ga0 p1 gc1] [lR ga0 p1 gc1] (.bool r):=by
 unfold Xj at h
 refine En func63 rfl ntmps63 fun _ fr w c=>?_
 refine P0 [] c fun _ c=>S0 (P0 [] c fun _ c=>Bd h fun rl1 hit1 h=>?_)
 have hk1:=h
 refine LpR (fun s1  (_:Unit)=>([(0,I p0),(1,L ga0 p1 gc1),(7,I (len p1)),(8,I s1)],id,[])) (fun s  (_:Unit)=>([],id,[])) hit1 c () (c.rk [] [0]) (fun s1 q1 _ _ _ c h hr1=>?_) fun s1r _ _ _ hrl c=>?_
 refine P0 [] c fun _ c=>S0 (I0 c h (fun h=>?_) fun h=>?_)
 refine K0 (S0 (wp_block (P0 [] c fun _ c=>Bd h fun x1 hx1 h=>?_)))
 obtain ⟨ep1,u1,c⟩:=c.elp (.f 0) hx1
 obtain ⟨a1,c1,rfl,c⟩:=c.o_Term 2
 refine Bd h fun x2 hx2 h=>Bd h fun x3 hx3 h=>S0 (rZ [(2,.eq (.pointer (some ep1))),(4,.eq (I x1.W)),(10,Pd.el (x2:D.Term)),(11,Pd.rd (x2:D.Term)),(12,.eq (.bool x3))] [] mix c ⟨Nie c 1,Nlc c 1 1,Nid c (.f 0) (gF hx2),Nrd c 10 (atN 10),Ncd (Ψ:=[]) [.r 11 (fun v=>RO v (x2:D.Term))] c ⟨(atN 11),tt⟩ tt (fun hg _ _ ga gp=>by obtain ⟨u1,_,rfl,g1,rfl⟩:=ga; obtain ⟨k1,rfl,f1⟩:=Opn.opn g1; exact ⟨_,f1,Zc0 (iteF (gcF hg) hx3)⟩) call81,tt⟩ fun _ _ c=>I0 c h (fun h=>?_) fun h=>?_)
 refine P0 [] c fun _ c=>?_
 obtain rfl:=hr1 _ (sk h)
 obtain rfl:=sj hk1
 exact wp_ret (br (tr (tr (br (tr (Rt c () [] []))))))
 refine K1 (bk (tn (P1 [] c fun _ c=>Nx h () (c.rk [] [0]))))
 refine wp_exit (te (te (be ?_)))
 obtain rfl:=hr1 _ (sk h)
 exact tn ⟨_,(),rfl,c.rk [] [0]⟩
 subst hrl
 exact P0 [] c fun _ c=>rE
theorem Zb5 {p0 p1 r} (h:Xp n p0 p1 = some r):C0 46 [gV p0 ga0 gc1,pV p1 ga2 gc3 ga4 gc5 ga6 gc7 ga8 gc9 ga10 gc11 ga12 gc13] [lR ga0 p0.Code gc1,lR ga2 p1.Regs gc3,lR ga4 p1.Mem gc5,lR ga6 p1.Stack gc7,lR ga8 p1.Out gc9,lR ga10 p1.Cond gc11,lR ga12 p1.Turns gc13] (.bool r):=by
 unfold Xp at h
 refine En func46 rfl ntmps46 fun _ fr w c=>?_
 refine T0 (Ebx (gC p0 ga0 gc1) c fun b1 _ _ c=>?_)
 refine Ebx (pC p1 ga2 gc3 ga4 gc5 ga6 gc7 ga8 gc9 ga10 gc11 ga12 gc13) c fun b2 _ _ c=>?_
 refine Fp [] 1 c fun _ c=>E0 (S0 (Bd h fun x1 hx1 h=>Bd h fun x2 hx2 h=>S0 (rZ [(1,.eq (.bool x1)),(7,.eq (.bool x2))] [(0,0),(4,0),(6,1),(12,1),(18,1),(21,0)] mix c ⟨Ncl c (kN (Zdy hx1)) ⟨.f 0,tt⟩ call59,Ncl c (fun hg=>Zco (iteF (gcF hg) hx2)) ⟨.f 0,tt⟩ call60,tt⟩ fun _ _ c=>I0 c h (fun h=>?_) fun h=>?_)))
 exact P0 [] c fun _ c=>rE
 refine K0 (S0 (S0 (Ry [(1,1),(6,1),(11,1),(13,0),(18,1)] mix c fun _ _ c=>I0 c h (fun h=>?_) fun h=>?_)))
 exact P0 [] c fun _ c=>rE
 refine K0 (S0 (P0 [(1,1)] c fun _ c=>Bd h fun rl1 hit1 h=>?_))
 have hk1:=h
 refine LpR (fun s1  (_:Unit)=>([(2,B b1 0),(3,B b2 0),(54,L ga6 p1.Stack gc7),(55,I (len p1.Stack)),(56,I s1)],id,[])) (fun s  (_:Unit)=>([(2,B b1 0),(3,B b2 0)],id,[])) hit1 c () (c.rk [0,1] (rg 7)) (fun s1 q1 _ _ _ c h hr1=>?_) fun s1r _ _ _ hrl c=>?_
 refine P0 [] c fun _ c=>S0 (I0 c h (fun h=>?_) fun h=>?_)
 refine K0 (S0 (wp_block (T0 (Bd h fun x3 hx3 h=>Eel c (.f 3) hx3 fun _ _ c=>?_))))
 refine Fp [] 1 c fun _ c=>E0 (T0 (Fp [(0,0)] 2 c fun _ c=>Bd h fun x4 hx4 h=>Cb c (Zco hx4) ⟨.f 0,tt⟩ call60 fun _ _ _ c=>?_))
 refine Fp [] 1 c fun _ c=>E0 (I0 c h (fun h=>?_) fun h=>?_)
 refine P0 [] c fun _ c=>?_
 obtain rfl:=hr1 _ (sk h)
 obtain rfl:=sj hk1
 exact wp_ret (br (tr (tr (br (tr (Rt c () [] []))))))
 refine K1 (bk (tn (P1 [] c fun _ c=>Nx h () (c.rk [0,1] (rg 7)))))
 refine wp_exit (te (te (be ?_)))
 obtain rfl:=hr1 _ (sk h)
 exact tn ⟨_,(),rfl,c.rk [0,1] (rg 7)⟩
 subst hrl
 refine S0 (Bd h fun x5 hx5 h=>S0 (rZ [(11,.eq (.bool x5))] [(1,1),(5,1),(10,1)] mix c ⟨Ncl c (fun hg=>Ze7 (iteF (gcF hg) hx5)) tt call61,tt⟩ fun _ _ c=>I0 c h (fun h=>?_) fun h=>?_))
 exact P0 [] c fun _ c=>rE
 refine K0 (S0 (Bd h fun x6 hx6 h=>S0 (rZ [(13,.eq (.bool x6))] [(1,1),(6,1),(12,1)] mix c ⟨Ncl c (fun hg=>Zej (iteF (gcF hg) hx6)) ⟨.f 6,tt⟩ call62,tt⟩ fun _ _ c=>I0 c h (fun h=>?_) fun h=>?_)))
 exact P0 [] c fun _ c=>rE
 refine K0 (Bd h fun x7 hx7 h=>Bd h fun x8 hx8 h=>Bd h fun x9 hx9 h=>Bd h fun x10 hx10 h=>S0 (rZ [(4,.eq (.bool x7)),(10,.eq (.bool x8)),(17,.eq (.bool x9)),(22,.eq (.bool x10))] [(1,0),(3,1),(7,0),(9,1),(14,0),(16,1),(21,1)] mix c ⟨Ncl c (kN (Za9 hx7)) ⟨.f 1,tt⟩ call63,Ncl c (fun hg=>Za9 (iteT (gcT hg) hx8)) ⟨.f 2,tt⟩ call63,Ncl c (fun hg=>Za9 (iteT (gcT hg) hx9)) ⟨.f 4,tt⟩ call63,Ncl c (fun hg=>Za9 (iteT (gcT hg) hx10)) ⟨.f 5,tt⟩ call63,tt⟩ fun _ _ c=>?_))
 exact rE
theorem Zfj {p0 p1 r} (h:Zce p0 p1 = some r):C0 47 [gV p0 ga0 gc1,pV p1 ga2 gc3 ga4 gc5 ga6 gc7 ga8 gc9 ga10 gc11 ga12 gc13] [lR ga0 p0.Code gc1,lR ga2 p1.Regs gc3,lR ga4 p1.Mem gc5,lR ga6 p1.Stack gc7,lR ga8 p1.Out gc9,lR ga10 p1.Cond gc11,lR ga12 p1.Turns gc13] (I r):=by
 unfold Zce at h
 refine En func47 rfl ntmps47 fun _ fr w c=>?_
 refine T0 (Ebx (gC p0 ga0 gc1) c fun b1 _ _ c=>?_)
 refine Ebx (pC p1 ga2 gc3 ga4 gc5 ga6 gc7 ga8 gc9 ga10 gc11 ga12 gc13) c fun b2 _ _ c=>?_
 refine Fp [] 1 c fun _ c=>E0 (S0 (S0 (Ry [(1,1),(5,1),(7,0)] mix c fun _ _ c=>I0 c h (fun h=>?_) fun h=>?_)))
 exact P0 [] c fun _ c=>rE
 refine K0 (T0 (Fp [(1,0),(3,1)] 4 c fun _ c=>Bd h fun x1 hx1 h=>Eef c (.f 0) hx1 Zjn fun _ _ _ c=>?_))
 exact Fp [] 1 c fun _ c=>E0 rE
theorem Zem {p0 r} (h:GL.strconv_Itoa p0 = some r):C0 82 [I p0] [TBf prog] (Str.val r):=by
 unfold GL.strconv_Itoa at h
 split at h
 · rename_i hl
   obtain rfl:=sj h
   refine Con.lib fun w F hF=>?_
   have tb:TB prog "internal/strconv.uint64pow10" .u64 Lib.pow10Tab w F:=hF _ (Zm7.2 rfl)
   refine (Tryz.strconv_Itoa p0 hl.1 hl.2 w tb.tab).mono ?_
   rintro e w' ⟨rfl,k,os,rfl⟩
   exact ⟨rfl,Zju w k os⟩
 · cases h
theorem ZbD {p0 r} (h:YO p0 = some r):C0 64 [I p0] [TBf prog] (Str.val r):=by
 unfold YO at h
 refine En func64 rfl ntmps64 fun _ fr w c=>?_
 refine P0 [] c fun _ c=>T0 (Fp [] 1 c fun _ c=>Bd h fun x1 hx1 h=>Cb c (Zem hx1) ⟨.f 0,tt⟩ call82 fun _ _ _ c=>?_)
 exact Fp [] 1 c fun _ c=>E0 rE
theorem ZcT {n:Nat}:∀ {p0 p1 ga0 gc1 gu2 r} (h:ZH n p0 p1 = some r),Ct 83 [tV p0 ga0 gc1,gu2] [lR ga0 p0.Kids gc1,MV map98 (gu2) p1] r:=by
 induction n with
 | zero=>intro p0 p1 ga0 gc1 gu2 r h; simp [ZH] at h
 | succ n ih=>
 intro p0 p1 ga0 gc1 gu2 r h
 rw [ZH] at h
 refine En func83 rfl ntmps83 fun _ fr w c=>?_
 refine T0 (Ebx (tC p0 ga0 gc1) c fun b1 _ _ c=>?_)
 refine Eal tZ c fun b2 _ _ c=>?_
 refine E0 (S0 (P0 [(1,0)] c fun _ c=>I0 c h (fun h=>?_) fun h=>?_))
 refine S0 (T0 (Fp [(2,0)] 3 c fun _ c=>Bd h fun x1 hx1 h=>Erv2 c (.f 1) hx1 (fun u1 _ c=>?_) (hzz:=fun w F=>ZfO w F)))
 obtain ⟨a1,c1,rfl,c⟩:=c.o_Term 2
 refine Fp [] 3 c fun _ c=>Eal tZ c fun b3 _ _ c=>?_
 refine Ess 2 (tC x1.1 a1 c1) c fun _ c=>?_
 refine Fp [] 1 c fun _ c=>E0 (P0 [] c fun _ c=>I0 c h (fun h=>?_) fun h=>?_)
 refine T0 (Fp [(0,2)] 1 c fun _ c=>?_)
 replace c:=c.ng
 refine Ess 1 (tC x1.1 a1 c1) c fun _ c=>?_
 refine E0 ?_
 cases h
 exact wp_ret (tr (tr (Rg c (a1,c1) [] [3] (.cell (α:=Agg 4) kk (.b 1) .nil))))
 refine K0 (T0 (Fp [(0,0)] 1 c fun _ c=>?_))
 replace c:=c.ng
 refine Ess 1 (tC p0 ga0 gc1) c fun _ c=>?_
 refine E0 ?_
 obtain rfl:=sj h
 exact wp_ret (tr (Rg c (ga0,gc1) [] [0] (.cell (α:=Agg 4) kk (.b 1) .nil)))
 refine K0 (T0 (Fp [(0,0)] 1 c fun _ c=>Eal tZ c fun b4 _ _ c=>?_))
 refine Ess 2 (tC p0 ga0 gc1) c fun _ c=>?_
 refine E0 (T0 (Fp [] 1 c fun _ c=>Esb 2 4 (L0) c fun _ c=>?_))
 refine E0 (S0 (P0 [(1,0)] c fun _ c=>?_))
 replace c:=(c.nil (α:=Rw.Term) 79).csn (ρ:=Rw.Term) (α:=D.Term)
 refine Bd h fun rl1 hit1 h=>Lp (fun s1  (i:List Rw.Term × Oh)=>([(1,gu2),(2,B b1 0),(4,B b2 0),(7,B b4 0),(26,I (len p0.Kids)),(27,I s1.1)],fun Γ=>(Γ.set 2 (BX b4 79 [I p0.Op,I p0.W,I p0.N,Str.val p0.Name,L i.2.1 s1.2 i.q2])).set 3 (sl79 (L i.2.1 s1.2 i.q2) (i.1)),[CS (i.1) s1.2])) (fun  (i:List Rw.Term × Oh)=>([(4,B b2 0),(7,B b4 0)],fun Γ=>(Γ.set 2 (BX b4 79 [I p0.Op,I p0.W,I p0.N,Str.val p0.Name,L i.2.1 rl1 i.q2])).set 3 (sl79 (L i.2.1 rl1 i.q2) (i.1)),[CS (i.1) rl1])) hit1 c (([]:List Rw.Term),none,0) (c.rk (rg 4) [0,1,2,2]) (fun s1 q1 i1 _ _ c h hr1=>?_) fun k1 _ _ c=>?_
 refine P0 [] c fun _ c=>S0 (I0 c h (fun h=>?_) fun h=>?_)
 refine K0 (S0 (wp_block (P0 [] c fun _ c=>Bd h fun x2 hx2 h=>Bd h fun x3 hx3 h=>Bd h fun x4 hx4 h=>As mix c fun _ c=>?_)))
 refine At 9 [0,2,4,7] [(1,gu2),(2,B b1 0),(4,B b2 0),(7,B b4 0),(26,I (len p0.Kids)),(27,I s1.1),(30,B b4 4),(32,B b1 4),(34,I s1.1),(37,gu2)] c fun _ c=>?_
 refine Za (fuel:=8) [1,3] (by kernel_rfl) (by simp) ⟨?_,?_,tt⟩
 refine Zc _ rfl rfl ?_
 refine Fp [(0,2)] 1 c fun _ c=>E0 (Za (fuel:=7) [3] (by kernel_rfl) (by simp) ⟨?_,tt⟩)
 refine Zc _ rfl rfl ?_
 refine Fp [(0,0)] 1 c fun _ c=>E0 (Za (fuel:=6) [5] (by kernel_rfl) (by simp) ⟨?_,tt⟩)
 refine Zc _ rfl rfl ?_
 replace c:=c.nf
 refine Eia c (.f 0) hx2 (fun ad1 _ c=>?_) Tryz.underlying40
 refine E0 (Za (fuel:=5) [6] (by kernel_rfl) (by simp) ⟨?_,tt⟩)
 refine Zc _ rfl rfl ?_
 refine Ele 4 c fun u2 _ c=>?_
 obtain ⟨a2,c2,rfl,c⟩:=c.o_Term 5
 refine E0 (Za (fuel:=4) [8] (by kernel_rfl) (by simp) ⟨?_,tt⟩)
 refine Zc _ rfl rfl ?_
 refine Cg c (ih hx3) ⟨.f 6,.f 1,tt⟩ call83 fun i2 _ _ c=>?_
 refine E0 (Za (fuel:=3) [9] (by kernel_rfl) (by simp) ⟨?_,tt⟩)
 refine Zc _ rfl rfl ?_
 refine Eltr 79 [(tR x3 i2.1 i2.2)] [x3] c ⟨(Ava.mk_Term x3 (.f 7)),tt⟩ fun a3 c3 _ _ c=>?_
 refine E0 (Za (fuel:=2) [10] (by kernel_rfl) (by simp) ⟨?_,tt⟩)
 refine Zc _ rfl rfl ?_
 replace c:=c.fzr 4 8
 refine Eapr 3 3 c (.f 9) hx4 fun rm1 a4 c4 _ _ c=>?_
 refine E0 (Za (fuel:=1) [11] (by kernel_rfl) (by simp) ⟨?_,tt⟩)
 refine Zc _ rfl rfl ?_
 refine Fp [] 1 c fun _ c=>E0 (Za (fuel:=0) [12] (by kernel_rfl) (by simp) ⟨?_,tt⟩)
 refine Zc _ rfl rfl ?_
 replace c:=c.nf
 refine Esb 2 4 (L a4 x4 c4) c fun _ c=>?_
 refine E0 (ZJ (by kernel_rfl) ?_)
 refine bk (tn (P1 [] c fun _ c=>Nx h ((i1.1 ++ rm1),a4,c4) (c.rk (rg 4) [0,1,2,10])))
 refine Zc _ rfl rfl ?_
 refine Fp [(0,0)] 1 c fun _ c=>E0 (Za (fuel:=7) [1,5] (by kernel_rfl) (by simp) ⟨?_,?_,tt⟩)
 refine Zc _ rfl rfl ?_
 refine Fp [(0,2)] 1 c fun _ c=>E0 (Za (fuel:=6) [5] (by kernel_rfl) (by simp) ⟨?_,tt⟩)
 refine Zc _ rfl rfl ?_
 replace c:=c.nf
 refine Eia c (.f 0) hx2 (fun ad2 _ c=>?_) Tryz.underlying40
 refine E0 (Za (fuel:=5) [6] (by kernel_rfl) (by simp) ⟨?_,tt⟩)
 refine Zc _ rfl rfl ?_
 refine Ele 4 c fun u3 _ c=>?_
 obtain ⟨a5,c5,rfl,c⟩:=c.o_Term 5
 refine E0 (Za (fuel:=4) [8] (by kernel_rfl) (by simp) ⟨?_,tt⟩)
 refine Zc _ rfl rfl ?_
 refine Cg c (ih hx3) ⟨.f 6,.f 1,tt⟩ call83 fun i3 _ _ c=>?_
 refine E0 (Za (fuel:=3) [9] (by kernel_rfl) (by simp) ⟨?_,tt⟩)
 refine Zc _ rfl rfl ?_
 refine Eltr 79 [(tR x3 i3.1 i3.2)] [x3] c ⟨(Ava.mk_Term x3 (.f 7)),tt⟩ fun a6 c6 _ _ c=>?_
 refine E0 (Za (fuel:=2) [10] (by kernel_rfl) (by simp) ⟨?_,tt⟩)
 refine Zc _ rfl rfl ?_
 replace c:=c.fzr 4 8
 refine Eapr 3 3 c (.f 9) hx4 fun rm2 a7 c7 _ _ c=>?_
 refine E0 (Za (fuel:=1) [11] (by kernel_rfl) (by simp) ⟨?_,tt⟩)
 refine Zc _ rfl rfl ?_
 refine Fp [] 1 c fun _ c=>E0 (Za (fuel:=0) [12] (by kernel_rfl) (by simp) ⟨?_,tt⟩)
 refine Zc _ rfl rfl ?_
 replace c:=c.nf
 refine Esb 2 4 (L a7 x4 c7) c fun _ c=>?_
 refine E0 (ZJ (by kernel_rfl) ?_)
 refine bk (tn (P1 [] c fun _ c=>Nx h ((i1.1 ++ rm2),a7,c7) (c.rk (rg 4) [0,1,2,10])))
 refine Zc _ rfl rfl ?_
 replace c:=c.nf
 refine Eia c (.f 0) hx2 (fun ad3 _ c=>?_) Tryz.underlying40
 refine E0 (Za (fuel:=6) [1,6] (by kernel_rfl) (by simp) ⟨?_,?_,tt⟩)
 refine Zc _ rfl rfl ?_
 refine Fp [(0,2)] 1 c fun _ c=>E0 (Za (fuel:=5) [6] (by kernel_rfl) (by simp) ⟨?_,tt⟩)
 refine Zc _ rfl rfl ?_
 refine Ele 4 c fun u4 _ c=>?_
 obtain ⟨a8,c8,rfl,c⟩:=c.o_Term 5
 refine E0 (Za (fuel:=4) [8] (by kernel_rfl) (by simp) ⟨?_,tt⟩)
 refine Zc _ rfl rfl ?_
 refine Cg c (ih hx3) ⟨.f 6,.f 1,tt⟩ call83 fun i4 _ _ c=>?_
 refine E0 (Za (fuel:=3) [9] (by kernel_rfl) (by simp) ⟨?_,tt⟩)
 refine Zc _ rfl rfl ?_
 refine Eltr 79 [(tR x3 i4.1 i4.2)] [x3] c ⟨(Ava.mk_Term x3 (.f 7)),tt⟩ fun a9 c9 _ _ c=>?_
 refine E0 (Za (fuel:=2) [10] (by kernel_rfl) (by simp) ⟨?_,tt⟩)
 refine Zc _ rfl rfl ?_
 replace c:=c.fzr 4 8
 refine Eapr 3 3 c (.f 9) hx4 fun rm3 a10 c10 _ _ c=>?_
 refine E0 (Za (fuel:=1) [11] (by kernel_rfl) (by simp) ⟨?_,tt⟩)
 refine Zc _ rfl rfl ?_
 refine Fp [] 1 c fun _ c=>E0 (Za (fuel:=0) [12] (by kernel_rfl) (by simp) ⟨?_,tt⟩)
 refine Zc _ rfl rfl ?_
 replace c:=c.nf
 refine Esb 2 4 (L a10 x4 c10) c fun _ c=>?_
 refine E0 (ZJ (by kernel_rfl) ?_)
 refine bk (tn (P1 [] c fun _ c=>Nx h ((i1.1 ++ rm3),a10,c10) (c.rk (rg 4) [0,1,2,10])))
 refine Zc _ rfl rfl ?_
 refine Ele 4 c fun u5 _ c=>?_
 obtain ⟨a11,c11,rfl,c⟩:=c.o_Term 5
 refine E0 (Za (fuel:=5) [1,8] (by kernel_rfl) (by simp) ⟨?_,?_,tt⟩)
 refine Zc _ rfl rfl ?_
 refine Fp [(0,2)] 1 c fun _ c=>E0 (Za (fuel:=4) [8] (by kernel_rfl) (by simp) ⟨?_,tt⟩)
 refine Zc _ rfl rfl ?_
 refine Cg c (ih hx3) ⟨.f 6,.f 1,tt⟩ call83 fun i5 _ _ c=>?_
 refine E0 (Za (fuel:=3) [9] (by kernel_rfl) (by simp) ⟨?_,tt⟩)
 refine Zc _ rfl rfl ?_
 refine Eltr 79 [(tR x3 i5.1 i5.2)] [x3] c ⟨(Ava.mk_Term x3 (.f 7)),tt⟩ fun a12 c12 _ _ c=>?_
 refine E0 (Za (fuel:=2) [10] (by kernel_rfl) (by simp) ⟨?_,tt⟩)
 refine Zc _ rfl rfl ?_
 replace c:=c.fzr 4 8
 refine Eapr 3 3 c (.f 9) hx4 fun rm4 a13 c13 _ _ c=>?_
 refine E0 (Za (fuel:=1) [11] (by kernel_rfl) (by simp) ⟨?_,tt⟩)
 refine Zc _ rfl rfl ?_
 refine Fp [] 1 c fun _ c=>E0 (Za (fuel:=0) [12] (by kernel_rfl) (by simp) ⟨?_,tt⟩)
 refine Zc _ rfl rfl ?_
 replace c:=c.nf
 refine Esb 2 4 (L a13 x4 c13) c fun _ c=>?_
 refine E0 (ZJ (by kernel_rfl) ?_)
 refine bk (tn (P1 [] c fun _ c=>Nx h ((i1.1 ++ rm4),a13,c13) (c.rk (rg 4) [0,1,2,10])))
 refine Zc _ rfl rfl ?_
 refine Cg c (ih hx3) ⟨.f 6,.f 1,tt⟩ call83 fun i6 _ _ c=>?_
 refine E0 (Za (fuel:=4) [1,9] (by kernel_rfl) (by simp) ⟨?_,?_,tt⟩)
 refine Zc _ rfl rfl ?_
 refine Fp [(0,2)] 1 c fun _ c=>E0 (Za (fuel:=3) [9] (by kernel_rfl) (by simp) ⟨?_,tt⟩)
 refine Zc _ rfl rfl ?_
 refine Eltr 79 [(tR x3 i6.1 i6.2)] [x3] c ⟨(Ava.mk_Term x3 (.f 7)),tt⟩ fun a14 c14 _ _ c=>?_
 refine E0 (Za (fuel:=2) [10] (by kernel_rfl) (by simp) ⟨?_,tt⟩)
 refine Zc _ rfl rfl ?_
 replace c:=c.fzr 4 8
 refine Eapr 3 3 c (.f 9) hx4 fun rm5 a15 c15 _ _ c=>?_
 refine E0 (Za (fuel:=1) [11] (by kernel_rfl) (by simp) ⟨?_,tt⟩)
 refine Zc _ rfl rfl ?_
 refine Fp [] 1 c fun _ c=>E0 (Za (fuel:=0) [12] (by kernel_rfl) (by simp) ⟨?_,tt⟩)
 refine Zc _ rfl rfl ?_
 replace c:=c.nf
 refine Esb 2 4 (L a15 x4 c15) c fun _ c=>?_
 refine E0 (ZJ (by kernel_rfl) ?_)
 refine bk (tn (P1 [] c fun _ c=>Nx h ((i1.1 ++ rm5),a15,c15) (c.rk (rg 4) [0,1,2,10])))
 refine Zc _ rfl rfl ?_
 refine Eltr 79 [(tR x3 i6.1 i6.2)] [x3] c ⟨(Ava.mk_Term x3 (.f 7)),tt⟩ fun a16 c16 _ _ c=>?_
 refine E0 (Za (fuel:=3) [1] (by kernel_rfl) (by simp) ⟨?_,tt⟩)
 refine Zc _ rfl rfl ?_
 refine Fp [(0,2)] 1 c fun _ c=>E0 (Za (fuel:=2) [10] (by kernel_rfl) (by simp) ⟨?_,tt⟩)
 refine Zc _ rfl rfl ?_
 replace c:=c.fzr 4 8
 refine Eapr 3 3 c (.f 9) hx4 fun rm6 a17 c17 _ _ c=>?_
 refine E0 (Za (fuel:=1) [11] (by kernel_rfl) (by simp) ⟨?_,tt⟩)
 refine Zc _ rfl rfl ?_
 refine Fp [] 1 c fun _ c=>E0 (Za (fuel:=0) [12] (by kernel_rfl) (by simp) ⟨?_,tt⟩)
 refine Zc _ rfl rfl ?_
 replace c:=c.nf
 refine Esb 2 4 (L a17 x4 c17) c fun _ c=>?_
 refine E0 (ZJ (by kernel_rfl) ?_)
 refine bk (tn (P1 [] c fun _ c=>Nx h ((i1.1 ++ rm6),a17,c17) (c.rk (rg 4) [0,1,2,10])))
 refine wp_exit (te (te (be ?_)))
 obtain rfl:=hr1 _ (sk h)
 exact tn ⟨(i1.1,i1.2.1,i1.q2),c.rk (rg 4) (rg 4)⟩
 refine T0 (Fp [(0,2)] 1 c fun _ c=>?_)
 replace c:=c.nf
 refine Ess 1 [I p0.Op,I p0.W,I p0.N,Str.val p0.Name,L k1.2.1 rl1 k1.q2] c fun _ c=>?_
 refine E0 ?_
 replace c:=c.fzr 3 3
 cases h
 exact wp_ret (Rg c (k1.2.1,k1.q2) [] [4] (.cell (α:=Agg 4) kk (.b 1) .nil))
theorem XJ {p0 r} (h:Zd p0 = some r):C0 106 [tV p0 ga0 gc1] [lR ga0 p0.Kids gc1] (.bool r):=by
 unfold Zd at h
 refine En func106 rfl ntmps106 fun _ fr w c=>?_
 refine T0 (Ebx (tC p0 ga0 gc1) c fun b1 _ _ c=>?_)
 exact Fp [] 1 c fun _ c=>E0 (P0 [(1,0)] c fun _ c=>rE)
theorem Xh {p0 p1 r} (h:Y9 p0 p1 = some r):C0 149 [I p0,I p1] [] (I r):=by
 unfold Y9 at h
 refine En func149 rfl ntmps149 fun _ fr w c=>?_
 refine P0 [] c fun _ c=>S0 (T0 (Fp [] 1 c fun _ c=>Bd h fun x1 hx1 h=>Cb c (XM hx1) tt call90 fun _ _ _ c=>?_))
 refine Fp [] 1 c fun _ c=>E0 (I0 c h (fun h=>P0 [] c fun _ c=>rE) fun h=>?_)
 refine K0 (T0 (Fp [] 3 c fun _ c=>Bd h fun x2 hx2 h=>Eshl c hx2 fun _ c=>?_))
 exact Fp [] 3 c fun _ c=>E0 rE
theorem Zde {p0 p1 p2 r} (h:XL p0 p1 p2 = some r):C0 129 [I p0,I p1,I p2] [] (I r):=by
 unfold XL at h
 refine En func129 rfl ntmps129 fun _ fr w c=>?_
 refine P0 [] c fun _ c=>S0 (T0 (Fp [] 2 c fun _ c=>Bd h fun x1 hx1 h=>Cb c (ZT hx1) tt call79 fun _ _ _ c=>?_))
 refine Fp [] 1 c fun _ c=>E0 (I0 c h (fun h=>P0 [] c fun _ c=>rE) fun h=>?_)
 refine K0 (S0 (P0 [] c fun _ c=>wp_block (P0 [] c fun _ c=>I0 c h (fun h=>?_) fun h=>?_)))
 refine T0 (Fp [] 2 c fun _ c=>Bd h fun x2 hx2 h=>Eshl c hx2 fun _ c=>?_)
 exact Fp [] 4 c fun _ c=>E0 rE
 refine P0 [] c fun _ c=>I0 c h (fun h=>?_) fun h=>K1 (bk (tn (P0 [] c fun _ c=>rE)))
 refine T0 (Fp [] 3 c fun _ c=>Bd h fun x3 hx3 h=>Cb c (Xh hx3) tt call149 fun _ _ _ c=>?_)
 exact Fp [] 1 c fun _ c=>E0 rE
theorem Zei {p0 p1 p2 p3 r} (h:ZaL p0 p1 p2 p3 = some r):C0 130 [I p0,I p1,I p2,I p3] [] (I r):=by
 unfold ZaL at h
 refine En func130 rfl ntmps130 fun _ fr w c=>?_
 refine P0 [] c fun _ c=>S0 (Bd h fun x1 hx1 h=>S0 (rZ [(2,.eq (.bool x1))] [] mix c ⟨Ncl c (kN (ZT hx1)) tt call79,tt⟩ fun _ _ c=>I0 c h (fun h=>?_) fun h=>?_))
 exact P0 [] c fun _ c=>rE
 refine K0 (T0 (Fp [] 3 c fun _ c=>Bd h fun x2 hx2 h=>Eshr c hx2 fun _ c=>?_))
 refine Fp [] 2 c fun _ c=>Bd h fun x3 hx3 h=>Eshl c hx3 fun _ c=>?_
 exact Fp [] 3 c fun _ c=>E0 rE
theorem Zaq {p0 p1 r} (h:YF p0 p1 = some r):C0 150 [I p0,I p1] [] (I r):=by
 unfold YF at h
 refine En func150 rfl ntmps150 fun _ fr w c=>?_
 refine P0 [] c fun _ c=>S0 (T0 (Fp [] 2 c fun _ c=>Bd h fun x1 hx1 h=>Cb c (ZT hx1) tt call79 fun _ _ _ c=>?_))
 refine Fp [] 1 c fun _ c=>E0 (I0 c h (fun h=>P0 [] c fun _ c=>rE) fun h=>?_)
 refine K0 (S0 (T0 (Fp [] 4 c fun _ c=>Bd h fun x2 hx2 h=>Eshr c hx2 fun _ c=>?_)))
 refine Fp [] 1 c fun _ c=>E0 (I0 c h (fun h=>P0 [] c fun _ c=>rE) fun h=>?_)
 refine K0 (T0 (Fp [] 3 c fun _ c=>Bd h fun x3 hx3 h=>Eshl c hx3 fun _ c=>?_))
 exact Fp [] 2 c fun _ c=>E0 rE
theorem Zdv {p0 p1 p2 p3 r} (h:Zan p0 p1 p2 p3 = some r):C0 131 [I p0,I p1,I p2,.bool p3] [] (I r):=by
 unfold Zan at h
 refine En func131 rfl ntmps131 fun _ fr w c=>?_
 refine P0 [] c fun _ c=>S0 (Bd h fun x1 hx1 h=>Bd h fun x2 hx2 h=>S0 (rZ [(2,.eq (.bool x1)),(6,.eq (.bool x2))] [] mix c ⟨Ncl c (kN (ZT hx1)) tt call79,Ncl c (fun hg=>XM (iteF (gcF hg) hx2)) tt call90,tt⟩ fun _ _ c=>I0 c h (fun h=>?_) fun h=>?_))
 exact P0 [] c fun _ c=>rE
 refine K0 (S0 (P0 [] c fun _ c=>I0 c h (fun h=>?_) fun h=>K0 (P0 [] c fun _ c=>rE)))
 refine T0 (Fp [] 3 c fun _ c=>Bd h fun x3 hx3 h=>Cb c (Zaq hx3) tt call150 fun _ _ _ c=>?_)
 refine Bd h fun x4 hx4 h=>Cb c (Xh hx4) tt call149 fun _ _ _ c=>?_
 exact Fp [] 1 c fun _ c=>E0 rE
theorem Zdl {p0 p1 p2 p3 r} (h:Zaa p0 p1 p2 p3 = some r):C0 132 [I p0,I p1,I p2,I p3] [] (I r):=by
 unfold Zaa at h
 refine En func132 rfl ntmps132 fun _ fr w c=>?_
 refine P0 [] c fun _ c=>S0 (Bd h fun x1 hx1 h=>Bd h fun x2 hx2 h=>S0 (rZ [(2,.eq (.bool x1)),(7,.eq (.bool x2))] [] mix c ⟨Ncl c (kN (ZT hx1)) tt call79,Ncl c (fun hg=>ZT (iteF (gcF hg) hx2)) tt call79,tt⟩ fun _ _ c=>I0 c h (fun h=>?_) fun h=>?_))
 exact P0 [] c fun _ c=>rE
 refine K0 (T0 (Fp [] 3 c fun _ c=>Bd h fun x3 hx3 h=>Eshl c hx3 fun _ c=>?_))
 exact Fp [] 3 c fun _ c=>E0 rE
theorem Zdu {p0 p1 p2 p3 r} (h:ZaJ p0 p1 p2 p3 = some r):C0 151 [I p0,I p1,I p2,I p3] [] (I r):=by
 unfold ZaJ at h
 refine En func151 rfl ntmps151 fun _ fr w c=>?_
 refine P0 [] c fun _ c=>S0 (P0 [] c fun _ c=>I0 c h (fun h=>?_) fun h=>?_)
 refine T0 (Fp [] 3 c fun _ c=>Bd h fun x1 hx1 h=>Cb c (Zaq hx1) tt call150 fun _ _ _ c=>?_)
 refine Fp [] 5 c fun _ c=>Bd h fun x2 hx2 h=>Eshr c hx2 fun _ c=>?_
 refine Bd h fun x3 hx3 h=>Cb c (Xh hx3) tt call149 fun _ _ _ c=>?_
 exact Fp [] 1 c fun _ c=>E0 rE
 refine K0 (S0 (P0 [] c fun _ c=>I0 c h (fun h=>P0 [] c fun _ c=>rE) fun h=>?_))
 refine K0 (S0 (P0 [] c fun _ c=>I0 c h (fun h=>?_) fun h=>?_))
 refine T0 (Fp [] 4 c fun _ c=>Bd h fun x4 hx4 h=>Eshl c hx4 fun _ c=>?_)
 refine Bd h fun x5 hx5 h=>Cb c (Xh hx5) tt call149 fun _ _ _ c=>?_
 exact Fp [] 1 c fun _ c=>E0 rE
 refine K0 (T0 (Fp [] 3 c fun _ c=>Bd h fun x6 hx6 h=>Eshr c hx6 fun _ c=>?_))
 exact Fp [] 1 c fun _ c=>E0 rE
theorem ZaR {p0 r} (h:XT p0 = some r):C0 152 [.bool p0] [] (I r):=by
 unfold XT at h
 refine En func152 rfl ntmps152 fun _ fr w c=>?_
 exact P0 [] c fun _ c=>S0 (P0 [] c fun _ c=>I0 c h (fun h=>P0 [] c fun _ c=>rE) fun h=>K0 (P0 [] c fun _ c=>rE))
theorem Zbs {p0 p1 p2 p3 r} (h:Xb p0 p1 p2 p3 = some r):C0 133 [I p0,I p1,I p2,I p3] [] (I r):=by
 unfold Xb at h
 refine En func133 rfl ntmps133 fun _ fr w c=>?_
 refine P0 [] c fun _ c=>S0 (Bd h fun x1 hx1 h=>Bd h fun x2 hx2 h=>S0 (rZ [(2,.eq (.bool x1)),(7,.eq (.bool x2))] [] mix c ⟨Ncl c (kN (ZT hx1)) tt call79,Ncl c (fun hg=>ZT (iteF (gcF hg) hx2)) tt call79,tt⟩ fun _ _ c=>I0 c h (fun h=>?_) fun h=>?_))
 exact P0 [] c fun _ c=>rE
 refine K0 (S0 (P0 [] c fun _ c=>wp_block (P0 [] c fun _ c=>I0 c h (fun h=>?_) fun h=>?_)))
 refine T0 (Fp [] 4 c fun _ c=>Bd h fun x3 hx3 h=>Cb c (Xh hx3) tt call149 fun _ _ _ c=>?_)
 exact Fp [] 1 c fun _ c=>E0 rE
 refine P0 [] c fun _ c=>I0 c h (fun h=>?_) fun h=>?_
 refine T0 (Fp [] 4 c fun _ c=>Bd h fun x4 hx4 h=>Cb c (Xh hx4) tt call149 fun _ _ _ c=>?_)
 exact Fp [] 1 c fun _ c=>E0 rE
 refine P0 [] c fun _ c=>I0 c h (fun h=>?_) fun h=>?_
 refine T0 (Fp [] 4 c fun _ c=>Bd h fun x5 hx5 h=>Cb c (Xh hx5) tt call149 fun _ _ _ c=>?_)
 exact Fp [] 1 c fun _ c=>E0 rE
 refine P0 [] c fun _ c=>I0 c h (fun h=>?_) fun h=>?_
 refine S0 (P0 [] c fun _ c=>I0 c h (fun h=>?_) fun h=>?_)
 refine T0 (Fp [] 2 c fun _ c=>Bd h fun x6 hx6 h=>Eshl c hx6 fun _ c=>?_)
 exact Fp [] 2 c fun _ c=>E0 rE
 refine K0 (T0 (Fp [] 2 c fun _ c=>Bd h fun x7 hx7 h=>Equo c hx7 fun _ c=>?_))
 exact Fp [] 1 c fun _ c=>E0 rE
 refine P0 [] c fun _ c=>I0 c h (fun h=>?_) fun h=>?_
 refine S0 (P0 [] c fun _ c=>I0 c h (fun h=>P0 [] c fun _ c=>rE) fun h=>?_)
 refine K0 (T0 (Fp [] 2 c fun _ c=>Bd h fun x8 hx8 h=>Erem c hx8 fun _ c=>?_))
 exact Fp [] 1 c fun _ c=>E0 rE
 refine P0 [] c fun _ c=>I0 c h (fun h=>P0 [] c fun _ c=>rE) fun h=>?_
 refine P0 [] c fun _ c=>I0 c h (fun h=>P0 [] c fun _ c=>rE) fun h=>?_
 refine P0 [] c fun _ c=>I0 c h (fun h=>P0 [] c fun _ c=>rE) fun h=>?_
 refine S0 (P0 [] c fun _ c=>Bd h fun rl1 hit1 h=>?_)
 have hk1:=h
 refine Jr (fun s  (_:Unit)=>([(0,I p0),(1,I p1),(2,I p2),(3,I p3),(19,I p0),(75,.bool s)],id,[])) hit1 c (fun h=>?_) fun s1r _ _ _ hrl c=>?_
 refine I0 c h (fun h=>?_) fun h=>?_
 refine K0 (⟨_,(),(sk h),c.rk [] []⟩)
 refine P0 [] c fun _ c=>Mp (p0 == 12) [(75,.bool (p0 == 12))] [(75,.bool (p0 == 13))] [(75,.bool ((p0 == 12) || (p0 == 13)))] [75,78] c fun _ c=>⟨_,(),(sk h),c.rk [] []⟩
 subst hrl
 refine I0 c h (fun h=>?_) fun h=>?_
 refine T0 (Fp [] 4 c fun _ c=>Bd h fun x9 hx9 h=>Cb c (Zdu hx9) tt call151 fun _ _ _ c=>?_)
 exact Fp [] 1 c fun _ c=>E0 rE
 refine P0 [] c fun _ c=>I0 c h (fun h=>?_) fun h=>?_
 refine T0 (Fp [] 3 c fun _ c=>Bd h fun x10 hx10 h=>Cb c (ZaR hx10) tt call152 fun _ _ _ c=>?_)
 exact Fp [] 1 c fun _ c=>E0 rE
 refine P0 [] c fun _ c=>I0 c h (fun h=>?_) fun h=>?_
 refine T0 (Fp [] 3 c fun _ c=>Bd h fun x11 hx11 h=>Cb c (ZaR hx11) tt call152 fun _ _ _ c=>?_)
 exact Fp [] 1 c fun _ c=>E0 rE
 refine P0 [] c fun _ c=>I0 c h (fun h=>?_) fun h=>K1 (bk (tn (P0 [] c fun _ c=>rE)))
 refine T0 (Fp [] 2 c fun _ c=>Bd h fun x12 hx12 h=>Cb c (Zaq hx12) tt call150 fun _ _ _ c=>?_)
 refine Fp [] 2 c fun _ c=>Bd h fun x13 hx13 h=>Cb c (Zaq hx13) tt call150 fun _ _ _ c=>?_
 refine Fp [] 1 c fun _ c=>Bd h fun x14 hx14 h=>Cb c (ZaR hx14) tt call152 fun _ _ _ c=>?_
 exact Fp [] 1 c fun _ c=>E0 rE
theorem ZdY {n:Nat}:∀ {p0 p1 ga0 gc1 gu2 r} (h:Zy n p0 p1 = some r),C0 108 [tV p0 ga0 gc1,gu2] [lR ga0 p0.Kids gc1,MO map113 (gu2) p1] (I r):=by
 induction n with
 | zero=>intro p0 p1 ga0 gc1 gu2 r h; simp [Zy] at h
 | succ n ih=>
 intro p0 p1 ga0 gc1 gu2 r h
 rw [Zy] at h
 refine En func108 rfl ntmps108 fun _ fr w c=>?_
 refine T0 (Ebx (tC p0 ga0 gc1) c fun b1 _ _ c=>?_)
 refine Fp [] 1 c fun _ c=>E0 (S0 (P0 [(1,0)] c fun _ c=>wp_block (P0 [] c fun _ c=>I0 c h (fun h=>P0 [(1,0)] c fun _ c=>rE) fun h=>?_)))
 refine P0 [] c fun _ c=>I0 c h (fun h=>?_) fun h=>?_
 refine T0 (Fp [(2,0)] 3 c fun _ c=>Bd h fun x1 hx1 h=>Erg c (.f 1) hx1 fun _ c=>?_)
 exact Fp [] 1 c fun _ c=>E0 rE
 refine P0 [] c fun _ c=>I0 c h (fun h=>?_) fun h=>?_
 refine S0 (T0 (Fp [(1,0)] 2 c fun _ c=>Bd h fun x2 hx2 h=>Eem c (.f 0) hx2 fun _ u1 _ c=>?_))
 obtain ⟨a1,c1,rfl,c⟩:=c.o_Term 2
 refine Fp [] 1 c fun _ c=>Bd h fun x3 hx3 h=>Cb c (ih hx3) ⟨.f 3,.f 1,tt⟩ call108 fun _ _ _ c=>?_
 refine Fp [] 1 c fun _ c=>E0 (I0 c h (fun h=>?_) fun h=>?_)
 refine T0 (Fp [(1,0)] 2 c fun _ c=>Bd h fun x4 hx4 h=>Eem c (.f 0) hx4 fun _ u2 _ c=>?_)
 obtain ⟨a2,c2,rfl,c⟩:=c.o_Term 4
 refine Fp [] 1 c fun _ c=>Bd h fun x5 hx5 h=>Cb c (ih hx5) ⟨.f 5,.f 1,tt⟩ call108 fun _ _ _ c=>?_
 exact Fp [] 1 c fun _ c=>E0 rE
 refine K0 (T0 (Fp [(1,0)] 2 c fun _ c=>Bd h fun x6 hx6 h=>Eem c (.f 0) hx6 fun _ u3 _ c=>?_))
 obtain ⟨a3,c3,rfl,c⟩:=c.o_Term 4
 refine Fp [] 1 c fun _ c=>Bd h fun x7 hx7 h=>Cb c (ih hx7) ⟨.f 5,.f 1,tt⟩ call108 fun _ _ _ c=>?_
 exact Fp [] 1 c fun _ c=>E0 rE
 refine K1 (bk (tn (T0 (Fp [(1,0)] 2 c fun _ c=>Bd h fun x8 hx8 h=>Eem c (.f 0) hx8 fun _ u4 _ c=>?_))))
 obtain ⟨a4,c4,rfl,c⟩:=c.o_Term 2
 refine Fp [] 1 c fun _ c=>Bd h fun x9 hx9 h=>Cb c (ih hx9) ⟨.f 3,.f 1,tt⟩ call108 fun _ _ _ c=>?_
 refine Fp [] 1 c fun _ c=>E0 (T0 (Fp [(1,0)] 2 c fun _ c=>Bd h fun x10 hx10 h=>Eef c (.f 0) hx10 Zbr fun _ _ _ c=>?_))
 refine Fp [] 1 c fun _ c=>E0 (S0 (P0 [(1,0)] c fun _ c=>wp_block (S0 (P0 [] c fun _ c=>Mp (p0.Op == 1) [(54,.bool (p0.Op == 1))] [(54,.bool (p0.Op == 2))] [(54,.bool ((p0.Op == 1) || (p0.Op == 2)))] [54,56] c fun _ c=>I0 c h (fun h=>?_) fun h=>?_))))
 refine T0 (Fp [(1,0)] 4 c fun _ c=>Bd h fun x11 hx11 h=>Cb c (Zde hx11) tt call129 fun _ _ _ c=>?_)
 exact Fp [] 1 c fun _ c=>E0 rE
 refine P0 [] c fun _ c=>I0 c h (fun h=>?_) fun h=>?_
 refine T0 (Fp [(3,0),(5,0)] 6 c fun _ c=>Bd h fun x12 hx12 h=>Cb c (Zei hx12) tt call130 fun _ _ _ c=>?_)
 exact Fp [] 1 c fun _ c=>E0 rE
 refine S0 (P0 [] c fun _ c=>Mp (p0.Op == 20) [(71,.bool (p0.Op == 20))] [(71,.bool (p0.Op == 21))] [(71,.bool ((p0.Op == 20) || (p0.Op == 21)))] [71,73] c fun _ c=>I0 c h (fun h=>?_) fun h=>?_)
 refine T0 (Fp [(3,0),(5,0)] 7 c fun _ c=>Bd h fun x13 hx13 h=>Cb c (Zdv hx13) tt call131 fun _ _ _ c=>?_)
 exact Fp [] 1 c fun _ c=>E0 rE
 refine K1 (bk (tn (T0 (Fp [(1,0)] 2 c fun _ c=>Bd h fun x14 hx14 h=>Eem c (.f 0) hx14 fun _ u5 _ c=>?_))))
 obtain ⟨a5,c5,rfl,c⟩:=c.o_Term 4
 refine Fp [] 1 c fun _ c=>Bd h fun x15 hx15 h=>Cb c (ih hx15) ⟨.f 5,.f 1,tt⟩ call108 fun _ _ _ c=>?_
 refine Fp [] 1 c fun _ c=>E0 (S0 (P0 [(1,0)] c fun _ c=>I0 c h (fun h=>?_) fun h=>?_))
 refine T0 (Fp [(3,0)] 4 c fun _ c=>?_)
 replace c:=c.ng
 refine Bd h fun x16 hx16 h=>Eef c (.f 0) hx16 Zbr fun _ _ _ c=>?_
 refine Fp [] 1 c fun _ c=>Bd h fun x17 hx17 h=>Cb c (Zdl hx17) tt call132 fun _ _ _ c=>?_
 exact Fp [] 1 c fun _ c=>E0 rE
 refine K0 (T0 (Fp [(1,0)] 5 c fun _ c=>?_))
 replace c:=c.ng
 refine Bd h fun x18 hx18 h=>Cb c (Zbs hx18) tt call133 fun _ _ _ c=>?_
 exact Fp [] 1 c fun _ c=>E0 rE
theorem Y3 {p0 p1 r} (h:Yh p0 p1 = some r):Con prog 107 [I p0,I p1] [] [] fun (_:Unit)=>([.agg #[I r.Op,I r.W,I r.N,Str.val r.Name,L0]],[],[]):=by
 unfold Yh at h
 refine En func107 rfl ntmps107 fun _ fr w c=>?_
 refine T0 (Eal tZ c fun b1 _ _ c=>?_)
 refine E0 (S0 (T0 (Fp [] 2 c fun _ c=>Bd h fun x1 hx1 h=>Cb c (ZT hx1) tt call79 fun _ _ _ c=>?_)))
 refine Fp [] 1 c fun _ c=>E0 (I0 c h (fun h=>?_) fun h=>?_)
 refine T0 (Fp [] 1 c fun _ c=>Ess 0 tZ c fun _ c=>?_)
 refine E0 ?_
 cases h
 exact wp_ret (tr (Rg c () [] [] (.cell (α:=Agg 4) kk (.b 0) .nil)))
 refine K0 (T0 (Fp [] 3 c fun _ c=>Ess 0 [I 0,I p0,I p1,Str.val ⟨[]⟩,L0] c fun _ c=>?_))
 refine E0 ?_
 cases h
 exact wp_ret (Rg c () [] [] (.cell (α:=Agg 4) kk (.b 0) .nil))
theorem ZcS {p0 r} (h:Xa p0 = some r):Ct 109 [tV p0 ga0 gc1] [lR ga0 p0.Kids gc1] r:=by
 unfold Xa at h
 refine En func109 rfl ntmps109 fun _ fr w c=>?_
 refine T0 (Ebx (tC p0 ga0 gc1) c fun b1 _ _ c=>?_)
 refine Eal tZ c fun b2 _ _ c=>?_
 refine E0 (T0 (Fp [(1,0)] 2 c fun _ c=>Bd h fun x1 hx1 h=>Eem c (.f 0) hx1 fun _ u1 _ c=>?_))
 obtain ⟨a1,c1,rfl,c⟩:=c.o_Term 1
 refine Eal tZ c fun b3 _ _ c=>?_
 refine Ess 2 (tC x1 a1 c1) c fun _ c=>?_
 refine E0 (S0 (P0 [(1,2),(3,0)] c fun _ c=>I0 c h (fun h=>?_) fun h=>?_))
 refine T0 (Fp [(1,2)] 2 c fun _ c=>?_)
 replace c:=c.ng
 refine Bd h fun x2 hx2 h=>Eem c (.f 2) hx2 fun _ u2 _ c=>?_
 obtain ⟨a2,c2,rfl,c⟩:=c.o_Term 3
 refine Ess 1 (tC x2 a2 c2) c fun _ c=>?_
 refine E0 ?_
 obtain rfl:=sj h
 exact wp_ret (tr (Rg c (a2,c2) [] [4] (.cell (α:=Agg 4) kk (.b 1) .nil)))
 refine K0 (T0 (Fp [(0,0)] 1 c fun _ c=>?_))
 replace c:=c.ng
 refine Ess 1 (tC p0 ga0 gc1) c fun _ c=>?_
 refine E0 ?_
 obtain rfl:=sj h
 exact wp_ret (Rg c (ga0,gc1) [] [0] (.cell (α:=Agg 4) kk (.b 1) .nil))
theorem Y8 {p0 p1 r} (h:Zn p0 p1 = some r):C0 66 [tV p0 ga0 gc1,I p1] [lR ga0 p0.Kids gc1] (.bool r):=by
 unfold Zn at h
 refine En func66 rfl ntmps66 fun _ fr w c=>?_
 refine T0 (Ebx (tC p0 ga0 gc1) c fun b1 _ _ c=>?_)
 refine Fp [] 1 c fun _ c=>E0 (S0 (Ry [(1,0),(5,0)] mix c fun _ _ c=>?_))
 exact rE
theorem ZbM {p0 r} (h:Zak p0 = some r):C0 158 [I p0] [] (.bool r):=by
 unfold Zak at h
 refine En func158 rfl ntmps158 fun _ fr w c=>?_
 exact P0 [] c fun _ c=>P0 [] c fun _ c=>rE
theorem Xz {p0 p1 r} (h:Yt p0 p1 = some r):C0 153 [I p0,I p1] [] (I r):=by
 unfold Yt at h
 refine En func153 rfl ntmps153 fun _ fr w c=>?_
 refine P0 [] c fun _ c=>T0 (Fp [] 1 c fun _ c=>Bd h fun x1 hx1 h=>Cb c (ZbM hx1) tt call158 fun _ _ _ c=>?_)
 refine Fp [] 1 c fun _ c=>E0 (T0 (Fp [] 1 c fun _ c=>Bd h fun x2 hx2 h=>Cb c (ZbM hx2) tt call158 fun _ _ _ c=>?_))
 exact Fp [] 1 c fun _ c=>E0 (S0 (P0 [] c fun _ c=>I0 c h (fun h=>S0 (P0 [] c fun _ c=>I0 c h (fun h=>P0 [] c fun _ c=>rE) fun h=>K0 (P0 [] c fun _ c=>rE))) fun h=>K0 (S0 (P0 [] c fun _ c=>I0 c h (fun h=>P0 [] c fun _ c=>rE) fun h=>K0 (S0 (P0 [] c fun _ c=>I0 c h (fun h=>P0 [] c fun _ c=>rE) fun h=>K0 (S0 (P0 [] c fun _ c=>I0 c h (fun h=>P0 [] c fun _ c=>rE) fun h=>K0 (P0 [] c fun _ c=>rE)))))))))
theorem Zdc {p0 p1 r} (h:GL.strings_Compare p0 p1 = some r):C0 154 [Str.val p0,Str.val p1] [] (I r):=by
 unfold GL.strings_Compare at h
 obtain rfl:=sj h
 refine Con.lib fun w F hF=>?_
 refine (Tryz.strings_Compare ⟨p0.bytes.toArray⟩ ⟨p1.bytes.toArray⟩ w).mono ?_
 rintro e w' ⟨rfl,rfl⟩
 exact ⟨by simp,Chg.refl _ _⟩
theorem Zbc {n:Nat}:∀ {p0 p1 ga0 gc1 ga2 gc3 r} (h:ZC n p0 p1 = some r),C0 137 [tV p0 ga0 gc1,tV p1 ga2 gc3] [lR ga0 p0.Kids gc1,lR ga2 p1.Kids gc3] (I r):=by
 induction n with
 | zero=>intro p0 p1 ga0 gc1 ga2 gc3 r h; simp [ZC] at h
 | succ n ih=>
 intro p0 p1 ga0 gc1 ga2 gc3 r h
 rw [ZC] at h
 refine En func137 rfl ntmps137 fun _ fr w c=>?_
 refine T0 (Ebx (tC p0 ga0 gc1) c fun b1 _ _ c=>?_)
 refine Ebx (tC p1 ga2 gc3) c fun b2 _ _ c=>?_
 refine Fp [] 1 c fun _ c=>E0 (S0 (T0 (Fp [(1,0),(3,1)] 4 c fun _ c=>Bd h fun x1 hx1 h=>Cb c (Xz hx1) tt call153 fun _ _ _ c=>?_)))
 refine Fp [] 1 c fun _ c=>E0 (P0 [] c fun _ c=>I0 c h (fun h=>P0 [] c fun _ c=>rE) fun h=>?_)
 refine K0 (S0 (T0 (Fp [(1,0),(3,1)] 4 c fun _ c=>Bd h fun x2 hx2 h=>Cb c (Xz hx2) tt call153 fun _ _ _ c=>?_)))
 refine Fp [] 1 c fun _ c=>E0 (P0 [] c fun _ c=>I0 c h (fun h=>P0 [] c fun _ c=>rE) fun h=>?_)
 refine K0 (S0 (T0 (Fp [(1,0),(3,1)] 4 c fun _ c=>Bd h fun x3 hx3 h=>Cb c (Xz hx3) tt call153 fun _ _ _ c=>?_)))
 refine Fp [] 1 c fun _ c=>E0 (P0 [] c fun _ c=>I0 c h (fun h=>P0 [] c fun _ c=>rE) fun h=>?_)
 refine K0 (S0 (T0 (Fp [(1,0),(3,1)] 4 c fun _ c=>?_)))
 replace c:=c.ng
 refine Bd h fun x4 hx4 h=>Cb c (Zdc hx4) tt call154 fun _ _ _ c=>?_
 refine Fp [] 1 c fun _ c=>E0 (P0 [] c fun _ c=>I0 c h (fun h=>P0 [] c fun _ c=>rE) fun h=>?_)
 refine K0 (S0 (P0 [] c fun _ c=>Bd h fun rl1 hit1 h=>?_))
 have hk1:=h
 refine LpR (fun s1  (_:Unit)=>([(2,B b1 0),(3,B b2 0),(9,I s1)],id,[])) (fun s  (_:Unit)=>([(2,B b1 0),(3,B b2 0)],id,[])) hit1 c () (c.rk [0,1] [0,1]) (fun s1 q1 _ _ _ c h hr1=>?_) fun s1r _ _ _ hrl c=>?_
 refine S0 (S0 (Ry [(2,0),(8,1)] mix c fun _ _ c=>I0 c h (fun h=>?_) fun h=>?_))
 refine K0 (S0 (wp_block (Bd h fun x5 hx5 h=>?_)))
 obtain ⟨ep1,u1,c⟩:=c.elp (.f 0) hx5
 obtain ⟨a1,c1,rfl,c⟩:=c.o_Term 3
 refine Bd h fun x6 hx6 h=>?_
 obtain ⟨ep2,u2,c⟩:=c.elp (.f 1) hx6
 obtain ⟨a2,c2,rfl,c⟩:=c.o_Term 6
 refine Bd h fun x7 hx7 h=>S0 (rZ [(3,.eq (.pointer (some ep1))),(4,.eq (tV x5 a1 c1)),(8,.eq (.pointer (some ep2))),(9,.eq (tV x6 a2 c2)),(10,.eq (I x7))] [(1,0),(6,1)] mix c ⟨Nie c 2,Nle c 2,Nie c 5,Nle c 5,Ncl c (kN (ih hx7)) ⟨.f 4,.f 7,tt⟩ call137,tt⟩ fun _ _ c=>P0 [] c fun _ c=>I0 c h (fun h=>?_) fun h=>?_)
 refine P0 [] c fun _ c=>?_
 obtain rfl:=hr1 _ (sk h)
 obtain rfl:=sj hk1
 exact wp_ret (br (tr (tr (br (tr (Rt c () [] []))))))
 refine K1 (bk (tn (P1 [] c fun _ c=>Nx h () (c.rk [0,1] [0,1]))))
 refine wp_exit (te (te (be ?_)))
 obtain rfl:=hr1 _ (sk h)
 exact tn ⟨_,(),rfl,c.rk [0,1] [0,1]⟩
 subst hrl
 refine T0 (Fp [(1,0),(4,1)] 6 c fun _ c=>Bd h fun x8 hx8 h=>Cb c (Xz hx8) tt call153 fun _ _ _ c=>?_)
 exact Fp [] 1 c fun _ c=>E0 rE
theorem ZaS {p0 p1 r} (h:ZX n p0 p1 = some r):C0 134 [tV p0 ga0 gc1,tV p1 ga2 gc3] [lR ga0 p0.Kids gc1,lR ga2 p1.Kids gc3] (.bool r):=by
 unfold ZX at h
 refine En func134 rfl ntmps134 fun _ fr w c=>?_
 refine T0 (Ebx (tC p0 ga0 gc1) c fun b1 _ _ c=>?_)
 refine Ebx (tC p1 ga2 gc3) c fun b2 _ _ c=>?_
 refine Fp [] 1 c fun _ c=>E0 (T0 (Fp [(0,0),(1,1)] 2 c fun _ c=>Bd h fun x1 hx1 h=>Cb c (Zbc hx1) ⟨.f 0,.f 1,tt⟩ call137 fun _ _ _ c=>?_))
 exact Fp [] 2 c fun _ c=>E0 rE
theorem ZbH {p0 r} (h:Ze p0 = some r):C0 136 [I p0] [] (.bool r):=by
 unfold Ze at h
 refine En func136 rfl ntmps136 fun _ fr w c=>?_
 exact P0 [] c fun _ c=>S0 (P0 [] c fun _ c=>wp_block (S0 (P0 [] c fun _ c=>I0 c h (fun h=>K0 (I0 c h (fun h=>P0 [] c fun _ c=>rE) fun h=>K1 (bk (tn (P0 [] c fun _ c=>rE))))) fun h=>P0 [] c fun _ c=>I0 c h (fun h=>K0 (I0 c h (fun h=>P0 [] c fun _ c=>rE) fun h=>K1 (bk (tn (P0 [] c fun _ c=>rE))))) fun h=>P0 [] c fun _ c=>I0 c h (fun h=>K0 (I0 c h (fun h=>P0 [] c fun _ c=>rE) fun h=>K1 (bk (tn (P0 [] c fun _ c=>rE))))) fun h=>P0 [] c fun _ c=>I0 c h (fun h=>K0 (I0 c h (fun h=>P0 [] c fun _ c=>rE) fun h=>K1 (bk (tn (P0 [] c fun _ c=>rE))))) fun h=>P0 [] c fun _ c=>Mp (p0 == 10) [(4,.bool (p0 == 10))] [(4,.bool (p0 == 14))] [(4,.bool ((p0 == 10) || (p0 == 14)))] [4,10] c fun _ c=>I0 c h (fun h=>P0 [] c fun _ c=>rE) fun h=>K1 (bk (tn (P0 [] c fun _ c=>rE))))))
theorem Zfe {p0 r} (h:Zbh p0 = some r):C0 155 [I p0] [] (I r):=by
 unfold Zbh at h
 refine En func155 rfl ntmps155 fun _ fr w c=>?_
 refine P0 [] c fun _ c=>T0 (Fp [] 2 c fun _ c=>Bd h fun x1 hx1 h=>Eshl c hx1 fun _ c=>?_)
 exact Fp [] 2 c fun _ c=>E0 rE
theorem Z7 (n:Nat):(∀ {p0 p1 p2 p3 ga0 gc1 r} (h:Zo n p0 p1 p2 p3 = some r),Ct 135 [I p0,I p1,I p2,L ga0 p3 gc1] [lR ga0 p3 gc1] r) ∧
    (∀ {p0 ga0 gc1 r} (h:ZI n p0 = some r),Ct 95 [tV p0 ga0 gc1] [lR ga0 p0.Kids gc1] r) ∧
    (∀ {p0 ga0 gc1 r} (h:ZW n p0 = some r),Ct 110 [tV p0 ga0 gc1] [lR ga0 p0.Kids gc1] r) ∧
    (∀ {p0 ga0 gc1 r} (h:ZM n p0 = some r),Ct 111 [tV p0 ga0 gc1] [lR ga0 p0.Kids gc1] r) ∧
    (∀ {p0 ga0 gc1 r} (h:Yx n p0 = some r),Ct 112 [tV p0 ga0 gc1] [lR ga0 p0.Kids gc1] r) ∧
    (∀ {p0 ga0 gc1 r} (h:Yp n p0 = some r),Ct 113 [tV p0 ga0 gc1] [lR ga0 p0.Kids gc1] r) ∧
    (∀ {p0 ga0 gc1 r} (h:Zb n p0 = some r),Ct 114 [tV p0 ga0 gc1] [lR ga0 p0.Kids gc1] r) ∧
    (∀ {p0 p1 p2 p3 ga0 gc1 ga2 gc3 r} (h:Zw n p0 p1 p2 p3 = some r),Con prog 138 [I p0,I p1,tV p2 ga0 gc1,tV p3 ga2 gc3] [] [lR ga0 p2.Kids gc1,lR ga2 p3.Kids gc3] fun (i:Oh)=>([tV r.1 i.1 i.2,.bool r.2],[],[lR i.1 r.1.Kids i.2])):=by
 induction n with
 | zero=>exact ⟨by intro p0 p1 p2 p3 ga0 gc1 r h; simp [Zo] at h,by intro p0 ga0 gc1 r h; simp [ZI] at h,by intro p0 ga0 gc1 r h; simp [ZW] at h,by intro p0 ga0 gc1 r h; simp [ZM] at h,by intro p0 ga0 gc1 r h; simp [Yx] at h,by intro p0 ga0 gc1 r h; simp [Yp] at h,by intro p0 ga0 gc1 r h; simp [Zb] at h,by intro p0 p1 p2 p3 ga0 gc1 ga2 gc3 r h; simp [Zw] at h⟩
 | succ n ih=>
 obtain ⟨ih0,ih1,ih2,ih3,ih4,ih5,ih6,ih7⟩:=ih
 refine ⟨?_,?_,?_,?_,?_,?_,?_,?_⟩
 · intro p0 p1 p2 p3 ga0 gc1 r h
   rw [Zo] at h
   refine En func135 rfl ntmps135 fun _ fr w c=>?_
   refine T0 (Eal tZ c fun b1 _ _ c=>?_)
   refine E0 (T0 (Fp [] 5 c fun _ c=>Bd h fun x1 hx1 h=>Cg c (ih1 hx1) ⟨.f 0,tt⟩ call95 fun i1 _ _ c=>?_))
   refine Ess 0 (tC x1 i1.1 i1.2) c fun _ c=>?_
   refine E0 ?_
   obtain rfl:=sj h
   exact wp_ret (Rg c (i1.1,i1.2) [] [1] (.cell (α:=Agg 4) kk (.b 0) .nil))
 · intro p0 ga0 gc1 r h
   rw [ZI] at h
   refine En func95 rfl ntmps95 fun _ fr w c=>?_
   refine T0 (Ebx (tC p0 ga0 gc1) c fun b1 _ _ c=>?_)
   refine Eal tZ c fun b2 _ _ c=>?_
   refine E0 (S0 (P0 [(1,0)] c fun _ c=>I0 c h (fun h=>?_) fun h=>?_))
   refine T0 (Fp [(0,0)] 1 c fun _ c=>Ess 1 (tC p0 ga0 gc1) c fun _ c=>?_)
   refine E0 ?_
   obtain rfl:=sj h
   exact wp_ret (tr (Rg c (ga0,gc1) [] [0] (.cell (α:=Agg 4) kk (.b 1) .nil)))
   refine K0 (P0 [] c fun _ c=>S0 (P0 [(1,0)] c fun _ c=>Bd h fun rl1 hit1 h=>Lp (fun s1  (_:Unit)=>([(1,B b1 0),(2,B b2 0),(3,.bool s1.1),(12,I (len p0.Kids)),(13,I s1.2)],id,[])) (fun  (_:Unit)=>([(1,B b1 0),(2,B b2 0),(3,.bool rl1)],id,[])) hit1 c () (c.rk [0,1] [0]) (fun s1 q1 _ _ _ c h hr1=>?_) fun _ _ _ c=>?_))
   refine P0 [] c fun _ c=>S0 (I0 c h (fun h=>?_) fun h=>?_)
   refine K0 (S0 (wp_block (P0 [] c fun _ c=>Bd h fun x1 hx1 h=>Bd h fun x2 hx2 h=>Tq (rZ [(5,Pd.el (x1:D.Term)),(6,Pd.rd (x1:D.Term)),(7,.eq (.bool x2))] [(3,0)] mix c ⟨Nid c (.f 0) (gT hx1),Nrd c 5 (atN 5),Ncd (Ψ:=[]) [.r 6 (fun v=>RO v (x1:D.Term))] c ⟨(atN 6),tt⟩ tt (fun hg _ _ ga gp=>by obtain ⟨u1,_,rfl,g1,rfl⟩:=ga; obtain ⟨k1,rfl,f1⟩:=Opn.opn g1; exact ⟨_,f1,XJ (iteT (gcT hg) hx2)⟩) call106,tt⟩ fun _ _ c=>bk (tn (P1 [] c fun _ c=>Nx h () (c.rk [0,1] [0])))))))
   refine wp_exit (te (te (be ?_)))
   obtain rfl:=hr1 _ (sk h)
   exact tn ⟨(),c.rk [0,1] [0]⟩
   refine S0 (P0 [] c fun _ c=>I0 c h (fun h=>?_) fun h=>?_)
   refine Bd h fun x3 hx3 h=>S0 (Zav mix (rM 4 [(3,.eq (I x3))] [(1,0),(2,0)] c (fun ow=>⟨Yc ow (Ncl c (kN (ZdY hx3)) ⟨.f 0,.mn,tt⟩ call108),tt⟩) fun _ _ _ _ _ c=>Bd h fun x4 hx4 h=>Cb c (Y3 hx4) tt call107 fun _ _ _ c=>?_))
   refine Ess 1 [I x4.Op,I x4.W,I x4.N,Str.val x4.Name,L0] c fun _ c=>?_
   refine E0 ?_
   cases h
   replace c:=c.nilf (α:=D.Term)
   exact wp_ret (tr (Rg c (none,0) [] [1] (.cell (α:=Agg 4) kk (.b 1) .nil)))
   refine K0 (S0 (P0 [(1,0)] c fun _ c=>wp_block (S0 (P0 [] c fun _ c=>Mp (p0.Op == 1) [(34,.bool (p0.Op == 1))] [(34,.bool (p0.Op == 2))] [(34,.bool ((p0.Op == 1) || (p0.Op == 2)))] [34,36] c fun _ c=>I0 c h (fun h=>?_) fun h=>?_))))
   refine T0 (Fp [(0,0)] 1 c fun _ c=>Bd h fun x5 hx5 h=>Cg c (ZcS hx5) ⟨.f 0,tt⟩ call109 fun i1 _ _ c=>?_)
   refine Ess 1 (tC x5 i1.1 i1.2) c fun _ c=>?_
   refine E0 ?_
   obtain rfl:=sj h
   exact wp_ret (br (tr (Rg c (i1.1,i1.2) [] [1] (.cell (α:=Agg 4) kk (.b 1) .nil))))
   refine P0 [] c fun _ c=>I0 c h (fun h=>?_) fun h=>?_
   refine T0 (Fp [(0,0)] 1 c fun _ c=>Bd h fun x6 hx6 h=>Cg c (ih2 hx6) ⟨.f 0,tt⟩ call110 fun i2 _ _ c=>?_)
   refine Ess 1 (tC x6 i2.1 i2.2) c fun _ c=>?_
   refine E0 ?_
   obtain rfl:=sj h
   exact wp_ret (br (tr (Rg c (i2.1,i2.2) [] [1] (.cell (α:=Agg 4) kk (.b 1) .nil))))
   refine P0 [] c fun _ c=>I0 c h (fun h=>?_) fun h=>?_
   refine T0 (Fp [(0,0)] 1 c fun _ c=>Bd h fun x7 hx7 h=>Cg c (ih3 hx7) ⟨.f 0,tt⟩ call111 fun i3 _ _ c=>?_)
   refine Ess 1 (tC x7 i3.1 i3.2) c fun _ c=>?_
   refine E0 ?_
   obtain rfl:=sj h
   exact wp_ret (br (tr (Rg c (i3.1,i3.2) [] [1] (.cell (α:=Agg 4) kk (.b 1) .nil))))
   refine S0 (P0 [] c fun _ c=>Mp (p0.Op == 20) [(47,.bool (p0.Op == 20))] [(47,.bool (p0.Op == 21))] [(47,.bool ((p0.Op == 20) || (p0.Op == 21)))] [47,49] c fun _ c=>I0 c h (fun h=>?_) fun h=>?_)
   refine T0 (Fp [(0,0)] 1 c fun _ c=>Bd h fun x8 hx8 h=>Cg c (ih4 hx8) ⟨.f 0,tt⟩ call112 fun i4 _ _ c=>?_)
   refine Ess 1 (tC x8 i4.1 i4.2) c fun _ c=>?_
   refine E0 ?_
   obtain rfl:=sj h
   exact wp_ret (br (tr (Rg c (i4.1,i4.2) [] [1] (.cell (α:=Agg 4) kk (.b 1) .nil))))
   refine P0 [] c fun _ c=>I0 c h (fun h=>?_) fun h=>?_
   refine T0 (Fp [(0,0)] 1 c fun _ c=>Bd h fun x9 hx9 h=>Cg c (ih5 hx9) ⟨.f 0,tt⟩ call113 fun i5 _ _ c=>?_)
   refine Ess 1 (tC x9 i5.1 i5.2) c fun _ c=>?_
   refine E0 ?_
   obtain rfl:=sj h
   exact wp_ret (br (tr (Rg c (i5.1,i5.2) [] [1] (.cell (α:=Agg 4) kk (.b 1) .nil))))
   refine K1 (bk (tn (T0 (Fp [(0,0)] 1 c fun _ c=>Bd h fun x10 hx10 h=>Cg c (ih6 hx10) ⟨.f 0,tt⟩ call114 fun i6 _ _ c=>?_))))
   refine Ess 1 (tC x10 i6.1 i6.2) c fun _ c=>?_
   refine E0 ?_
   obtain rfl:=sj h
   exact wp_ret (Rg c (i6.1,i6.2) [] [1] (.cell (α:=Agg 4) kk (.b 1) .nil))
 · intro p0 ga0 gc1 r h
   rw [ZW] at h
   refine En func110 rfl ntmps110 fun _ fr w c=>?_
   refine T0 (Ebx (tC p0 ga0 gc1) c fun b1 _ _ c=>?_)
   refine Eal tZ c fun b2 _ _ c=>?_
   refine E0 (Bd h fun x1 hx1 h=>?_)
   obtain ⟨ep1,u1,c⟩:=c.elp (.f 0) hx1
   obtain ⟨a1,c1,rfl,c⟩:=c.o_Term 2
   refine Bd h fun x2 hx2 h=>?_
   obtain ⟨ep2,u2,c⟩:=c.elp (.f 0) hx2
   obtain ⟨a2,c2,rfl,c⟩:=c.o_Term 5
   refine Bd h fun x3 hx3 h=>?_
   obtain ⟨ep3,u3,c⟩:=c.elp (.f 0) hx3
   obtain ⟨a3,c3,rfl,c⟩:=c.o_Term 8
   refine S0 (Jn (fun i:Nat × Nat × Nat=>([(1,B b1 0),(2,B b2 0),(3,B i.1 0),(4,B i.2.1 0),(5,B i.q2 0)],fun Γ=>Γ ++ [BX i.1 79 (tC x1 a1 c1),BX i.2.1 79 (tC x2 a2 c2),BX i.q2 79 (tC x3 a3 c3)],[])) c ?_ fun i8 _ _ c=>?_)
   refine As mix c fun _ c=>?_
   replace c:=Cx.frs [(1,B b1 0),(2,B b2 0)] c
   refine Dq (fun i:Nat × Nat × Nat=>([(1,B b1 0),(2,B b2 0),(3,B i.1 0),(4,B i.2.1 0),(5,B i.q2 0)],fun Γ=>Γ ++ [BX i.1 79 (tC x1 a1 c1),BX i.2.1 79 (tC x2 a2 c2),BX i.q2 79 (tC x3 a3 c3)],[])) (bN 18 262143) (fun i=>[]) c (fun i7=>?_) fun hd10=>?_
   obtain ⟨b33,b34,b35⟩:=i7
   refine qnE tt fun _ _ c=>?_
   exact nN (b33,b34,b35) (c.rk (rg 5) (rg 10))
   refine Dq (fun i:Nat × Nat × Nat=>([(1,B b1 0),(2,B b2 0),(3,B i.1 0),(4,B i.2.1 0),(5,B i.q2 0)],fun Γ=>Γ ++ [BX i.1 79 (tC x1 a1 c1),BX i.2.1 79 (tC x2 a2 c2),BX i.q2 79 tZ],[])) (bN 18 127231) (fun i=>[(8,14,B b1 4),(9,15,L ga0 p0.Kids gc1),(10,16,.pointer (some ep3)),(11,17,tV x3 a3 c3)]) c (fun i6=>?_) fun hd9=>?_
   obtain ⟨b30,b31,b32⟩:=i6
   refine qn [17] ⟨qP [],qP [(0,0)],qI 7,qL 7,tt⟩ ⟨fun _ _ c=>?_,tt⟩
   refine Zc _ rfl rfl ?_
   refine Ess 4 (tC x3 a3 c3) c fun _ c=>?_
   refine E0 (nQ hd10 (b30,b31,b32) (c.rk (rg 5) (rg 10)))
   refine Dq (fun i:Nat × Nat × Nat=>([(1,B b1 0),(2,B b2 0),(3,B i.1 0),(4,B i.2.1 0),(5,B i.q2 0)],fun Γ=>Γ ++ [BX i.1 79 (tC x1 a1 c1),BX i.2.1 79 tZ,BX i.q2 79 tZ],[])) (bN 18 61455) (fun i=>[(4,10,B b1 4),(5,11,L ga0 p0.Kids gc1),(6,12,.pointer (some ep2)),(7,13,tV x2 a2 c2),(8,14,B b1 4),(9,15,L ga0 p0.Kids gc1),(10,16,.pointer (some ep3)),(11,17,tV x3 a3 c3)]) c (fun i5=>?_) fun hd8=>?_
   obtain ⟨b27,b28,b29⟩:=i5
   refine qn [16] ⟨qP [],qP [(0,0)],qI 4,qL 4,qP [],qP [(0,0)],qI 7,qL 7,tt⟩ ⟨fun _ _ c=>?_,tt⟩
   refine Zc _ rfl rfl ?_
   refine Ess 3 (tC x2 a2 c2) c fun _ c=>?_
   refine E0 (nQ hd9 (b27,b28,b29) (c.rk (rg 5) (rg 10)))
   refine Dq (fun i:Nat × Nat × Nat=>([(1,B b1 0),(2,B b2 0),(3,B i.1 0),(4,B i.2.1 0),(5,B i.q2 0)],fun Γ=>Γ ++ [BX i.1 79 tZ,BX i.2.1 79 tZ,BX i.q2 79 tZ],[])) (bN 18 28672) (fun i=>[(0,6,B b1 4),(1,7,L ga0 p0.Kids gc1),(2,8,.pointer (some ep1)),(3,9,tV x1 a1 c1),(4,10,B b1 4),(5,11,L ga0 p0.Kids gc1),(6,12,.pointer (some ep2)),(7,13,tV x2 a2 c2),(8,14,B b1 4),(9,15,L ga0 p0.Kids gc1),(10,16,.pointer (some ep3)),(11,17,tV x3 a3 c3)]) c (fun i4=>?_) fun hd7=>?_
   obtain ⟨b22,b23,b24⟩:=i4
   refine qn [15] ⟨qP [],qP [(0,0)],qI 1,qL 1,qP [],qP [(0,0)],qI 4,qL 4,qP [],qP [(0,0)],qI 7,qL 7,tt⟩ ⟨fun _ _ c=>?_,tt⟩
   refine Zc _ rfl rfl ?_
   refine Ess 2 (tC x1 a1 c1) c fun _ c=>?_
   refine E0 (nQ hd8 (b22,b23,b24) (c.rk (rg 5) (rg 10)))
   refine Dq (fun i:Nat × Nat=>([(1,B b1 0),(2,B b2 0),(3,B i.1 0),(4,B i.2 0)],fun Γ=>Γ ++ [BX i.1 79 tZ,BX i.2 79 tZ],[])) (bN 18 12288) (fun i=>[(0,6,B b1 4),(1,7,L ga0 p0.Kids gc1),(2,8,.pointer (some ep1)),(3,9,tV x1 a1 c1),(4,10,B b1 4),(5,11,L ga0 p0.Kids gc1),(6,12,.pointer (some ep2)),(7,13,tV x2 a2 c2),(8,14,B b1 4),(9,15,L ga0 p0.Kids gc1),(10,16,.pointer (some ep3)),(11,17,tV x3 a3 c3)]) c (fun i1=>?_) fun hd4=>?_
   obtain ⟨b10,b11⟩:=i1
   refine qn [14] ⟨qP [],qP [(0,0)],qI 1,qL 1,qP [],qP [(0,0)],qI 4,qL 4,qP [],qP [(0,0)],qI 7,qL 7,tt⟩ ⟨fun _ _ c=>?_,tt⟩
   refine Zc _ rfl rfl ?_
   refine Eal tZ c fun b21 _ _ c=>?_
   refine E0 (nQ hd7 (b10,b11,b21) (c.rk (rg 5) (rg 10)))
   refine Dq (fun i:Nat × Nat=>([(1,B b1 0),(2,B b2 0),(3,B i.1 0),(5,B i.2 0)],fun Γ=>Γ ++ [BX i.1 79 tZ,BX i.2 79 tZ],[])) (bN 18 20480) (fun i=>[(0,6,B b1 4),(1,7,L ga0 p0.Kids gc1),(2,8,.pointer (some ep1)),(3,9,tV x1 a1 c1),(4,10,B b1 4),(5,11,L ga0 p0.Kids gc1),(6,12,.pointer (some ep2)),(7,13,tV x2 a2 c2),(8,14,B b1 4),(9,15,L ga0 p0.Kids gc1),(10,16,.pointer (some ep3)),(11,17,tV x3 a3 c3)]) c (fun i2=>?_) fun hd5=>?_
   obtain ⟨b13,b14⟩:=i2
   refine qn [13] ⟨qP [],qP [(0,0)],qI 1,qL 1,qP [],qP [(0,0)],qI 4,qL 4,qP [],qP [(0,0)],qI 7,qL 7,tt⟩ ⟨fun _ _ c=>?_,tt⟩
   refine Zc _ rfl rfl ?_
   refine Eal tZ c fun b25 _ _ c=>?_
   refine E0 (nQ hd7 (b13,b25,b14) (c.rk [0,1,2,4,3] (rg 10)))
   refine Dq (fun i:Nat × Nat=>([(1,B b1 0),(2,B b2 0),(4,B i.1 0),(5,B i.2 0)],fun Γ=>Γ ++ [BX i.1 79 tZ,BX i.2 79 tZ],[])) (bN 18 24576) (fun i=>[(0,6,B b1 4),(1,7,L ga0 p0.Kids gc1),(2,8,.pointer (some ep1)),(3,9,tV x1 a1 c1),(4,10,B b1 4),(5,11,L ga0 p0.Kids gc1),(6,12,.pointer (some ep2)),(7,13,tV x2 a2 c2),(8,14,B b1 4),(9,15,L ga0 p0.Kids gc1),(10,16,.pointer (some ep3)),(11,17,tV x3 a3 c3)]) c (fun i3=>?_) fun hd6=>?_
   obtain ⟨b17,b18⟩:=i3
   refine qn [12] ⟨qP [],qP [(0,0)],qI 1,qL 1,qP [],qP [(0,0)],qI 4,qL 4,qP [],qP [(0,0)],qI 7,qL 7,tt⟩ ⟨fun _ _ c=>?_,tt⟩
   refine Zc _ rfl rfl ?_
   refine Eal tZ c fun b26 _ _ c=>?_
   refine E0 (nQ hd7 (b26,b17,b18) (c.rk [0,1,4,2,3] (rg 10)))
   refine Dq (fun i:Nat=>([(1,B b1 0),(2,B b2 0),(3,B i 0)],fun Γ=>Γ ++ [BX i 79 tZ],[])) (bN 18 4096) (fun i=>[(0,6,B b1 4),(1,7,L ga0 p0.Kids gc1),(2,8,.pointer (some ep1)),(3,9,tV x1 a1 c1),(4,10,B b1 4),(5,11,L ga0 p0.Kids gc1),(6,12,.pointer (some ep2)),(7,13,tV x2 a2 c2),(8,14,B b1 4),(9,15,L ga0 p0.Kids gc1),(10,16,.pointer (some ep3)),(11,17,tV x3 a3 c3)]) c (fun b4=>?_) fun hd1=>?_
   refine qn [13,14] ⟨qP [],qP [(0,0)],qI 1,qL 1,qP [],qP [(0,0)],qI 4,qL 4,qP [],qP [(0,0)],qI 7,qL 7,tt⟩ ⟨fun _ _ c=>?_,fun _ _ c=>?_,tt⟩
   refine Zc _ rfl rfl ?_
   refine Eal tZ c fun b9 _ _ c=>?_
   refine E0 (nQ hd4 (b4,b9) (c.rk (rg 4) (rg 10)))
   refine Zc _ rfl rfl ?_
   refine Eal tZ c fun b12 _ _ c=>?_
   refine E0 (nQ hd5 (b4,b12) (c.rk (rg 4) (rg 10)))
   refine Dq (fun i:Nat=>([(1,B b1 0),(2,B b2 0),(4,B i 0)],fun Γ=>Γ ++ [BX i 79 tZ],[])) (bN 18 8192) (fun i=>[(0,6,B b1 4),(1,7,L ga0 p0.Kids gc1),(2,8,.pointer (some ep1)),(3,9,tV x1 a1 c1),(4,10,B b1 4),(5,11,L ga0 p0.Kids gc1),(6,12,.pointer (some ep2)),(7,13,tV x2 a2 c2),(8,14,B b1 4),(9,15,L ga0 p0.Kids gc1),(10,16,.pointer (some ep3)),(11,17,tV x3 a3 c3)]) c (fun b6=>?_) fun hd2=>?_
   refine qn [12,14] ⟨qP [],qP [(0,0)],qI 1,qL 1,qP [],qP [(0,0)],qI 4,qL 4,qP [],qP [(0,0)],qI 7,qL 7,tt⟩ ⟨fun _ _ c=>?_,fun _ _ c=>?_,tt⟩
   refine Zc _ rfl rfl ?_
   refine Eal tZ c fun b15 _ _ c=>?_
   refine E0 (nQ hd4 (b15,b6) (c.rk [0,1,3,2] (rg 10)))
   refine Zc _ rfl rfl ?_
   refine Eal tZ c fun b16 _ _ c=>?_
   refine E0 (nQ hd6 (b6,b16) (c.rk (rg 4) (rg 10)))
   refine Dq (fun i:Nat=>([(1,B b1 0),(2,B b2 0),(5,B i 0)],fun Γ=>Γ ++ [BX i 79 tZ],[])) (bN 18 16384) (fun i=>[(0,6,B b1 4),(1,7,L ga0 p0.Kids gc1),(2,8,.pointer (some ep1)),(3,9,tV x1 a1 c1),(4,10,B b1 4),(5,11,L ga0 p0.Kids gc1),(6,12,.pointer (some ep2)),(7,13,tV x2 a2 c2),(8,14,B b1 4),(9,15,L ga0 p0.Kids gc1),(10,16,.pointer (some ep3)),(11,17,tV x3 a3 c3)]) c (fun b8=>?_) fun hd3=>?_
   refine qn [12,13] ⟨qP [],qP [(0,0)],qI 1,qL 1,qP [],qP [(0,0)],qI 4,qL 4,qP [],qP [(0,0)],qI 7,qL 7,tt⟩ ⟨fun _ _ c=>?_,fun _ _ c=>?_,tt⟩
   refine Zc _ rfl rfl ?_
   refine Eal tZ c fun b19 _ _ c=>?_
   refine E0 (nQ hd5 (b19,b8) (c.rk [0,1,3,2] (rg 10)))
   refine Zc _ rfl rfl ?_
   refine Eal tZ c fun b20 _ _ c=>?_
   refine E0 (nQ hd6 (b20,b8) (c.rk [0,1,3,2] (rg 10)))
   refine q0 (qs:=[(0,6,B b1 4),(1,7,L ga0 p0.Kids gc1),(2,8,.pointer (some ep1)),(3,9,tV x1 a1 c1),(4,10,B b1 4),(5,11,L ga0 p0.Kids gc1),(6,12,.pointer (some ep2)),(7,13,tV x2 a2 c2),(8,14,B b1 4),(9,15,L ga0 p0.Kids gc1),(10,16,.pointer (some ep3)),(11,17,tV x3 a3 c3)]) c (qn [12,13,14] ⟨qP [],qP [(0,0)],qI 1,qL 1,qP [],qP [(0,0)],qI 4,qL 4,qP [],qP [(0,0)],qI 7,qL 7,tt⟩ ⟨fun _ _ c=>?_,fun _ _ c=>?_,fun _ _ c=>?_,tt⟩)
   refine Zc _ rfl rfl ?_
   refine Eal tZ c fun b3 _ _ c=>?_
   refine E0 (nQ hd1 (b3) (c.rk [0,1,2] (rg 10)))
   refine Zc _ rfl rfl ?_
   refine Eal tZ c fun b5 _ _ c=>?_
   refine E0 (nQ hd2 (b5) (c.rk [0,1,2] (rg 10)))
   refine Zc _ rfl rfl ?_
   refine Eal tZ c fun b7 _ _ c=>?_
   refine E0 (nQ hd3 (b7) (c.rk [0,1,2] (rg 10)))
   obtain ⟨b36,b37,b38⟩:=i8
   refine S0 (wp_block (T0 (Fp [(0,2)] 1 c fun _ c=>Bd h fun x4 hx4 h=>Cb c (Y8 hx4) ⟨.f 3,tt⟩ call66 fun _ _ _ c=>?_)))
   refine Fp [] 1 c fun _ c=>E0 (I0 c h (fun h=>?_) fun h=>?_)
   refine T0 (Fp [(0,3)] 1 c fun _ c=>Ess 1 (tC x2 a2 c2) c fun _ c=>?_)
   refine E0 ?_
   obtain rfl:=sj h
   exact wp_ret (br (tr (Rg c (a2,c2) [] [6] (.cell (α:=Agg 4) kk (.b 1) .nil))))
   refine T0 (Fp [(0,2)] 1 c fun _ c=>Bd h fun x5 hx5 h=>Cb c (XJ hx5) ⟨.f 3,tt⟩ call106 fun _ _ _ c=>?_)
   refine Fp [] 1 c fun _ c=>E0 (I0 c h (fun h=>?_) fun h=>?_)
   refine T0 (Fp [(0,4)] 1 c fun _ c=>Ess 1 (tC x3 a3 c3) c fun _ c=>?_)
   refine E0 ?_
   obtain rfl:=sj h
   exact wp_ret (br (tr (Rg c (a3,c3) [] [9] (.cell (α:=Agg 4) kk (.b 1) .nil))))
   refine T0 (Fp [(0,3),(1,4)] 2 c fun _ c=>Bd h fun x6 hx6 h=>Cb c (ZaS hx6) ⟨.f 6,.f 9,tt⟩ call134 fun _ _ _ c=>?_)
   refine Fp [] 1 c fun _ c=>E0 (I0 c h (fun h=>?_) fun h=>?_)
   refine T0 (Fp [(0,3)] 1 c fun _ c=>Ess 1 (tC x2 a2 c2) c fun _ c=>?_)
   refine E0 ?_
   obtain rfl:=sj h
   exact wp_ret (br (tr (Rg c (a2,c2) [] [6] (.cell (α:=Agg 4) kk (.b 1) .nil))))
   refine P0 [(1,2)] c fun _ c=>I0 c h (fun h=>?_) fun h=>?_
   refine Bd h fun x7 hx7 h=>?_
   obtain ⟨ep4,u4,c⟩:=c.elp (.f 3) hx7
   obtain ⟨a4,c4,rfl,c⟩:=c.o_Term 11
   refine S0 (Zav mix (rM 9 [(4,.eq (.pointer (some ep4))),(5,.eq (tV x7 a4 c4)),(8,Pd.nw c.wd 8 (fun i:Oh=>L i.1 [x7,x3,x2] i.2) (fun i=>sl79 (L i.1 [x7,x3,x2] i.2) [(tR x7 a4 c4),(tR x3 a3 c3),(tR x2 a2 c2)]))] [(1,0),(3,2),(6,4),(7,3)] c (fun ow=>⟨Yc ow (Nie c 10),Yc ow (Nle c 10),Nlt c [(tR x7 a4 c4),(tR x3 a3 c3),(tR x2 a2 c2)],tt⟩) fun ow _ _ hE hc cq=>?_))
   obtain ⟨i9,hi9⟩:=hE.nw 8 43
   replace c:=Cx.newt c hc cq [(8,43,_,_)] ⟨hi9,tt⟩
   replace c:=c.csl [(tR x7 a4 c4),(tR x3 a3 c3),(tR x2 a2 c2)] [x7,x3,x2] ⟨(Ava.mk_Term x7 (.f 12)),(Ava.mk_Term x3 (.f 9)),(Ava.mk_Term x2 (.f 6)),tt⟩
   replace c:=c.nf
   replace c:=c.fzr 5 13
   refine Bd h fun x8 hx8 h=>Cg c (ih0 hx8) ⟨.f 14,tt⟩ call135 fun i10 _ _ c=>?_
   refine Ess 1 (tC x8 i10.1 i10.2) c fun _ c=>?_
   refine E0 ?_
   obtain rfl:=sj h
   exact wp_ret (br (tr (Rg c (i10.1,i10.2) [] [15] (.cell (α:=Agg 4) kk (.b 1) .nil))))
   refine Bd h fun x9 hx9 h=>Bd h fun x10 hx10 h=>S0 (rZ [(5,.eq (.bool x9)),(9,.eq (.bool x10))] [(1,0),(4,3),(8,4)] mix c ⟨Ncl c (fun hg=>Y8 (iteT (gcT hg) hx9)) ⟨.f 6,tt⟩ call66,Ncl c (fun hg=>Y8 (iteT (gcT hg) hx10)) ⟨.f 9,tt⟩ call66,tt⟩ fun _ _ c=>I0 c h (fun h=>?_) fun h=>?_)
   refine T0 (Fp [(0,2)] 1 c fun _ c=>Ess 1 (tC x1 a1 c1) c fun _ c=>?_)
   refine E0 ?_
   obtain rfl:=sj h
   exact wp_ret (br (tr (Rg c (a1,c1) [] [3] (.cell (α:=Agg 4) kk (.b 1) .nil))))
   refine Bd h fun x11 hx11 h=>Bd h fun x12 hx12 h=>S0 (rZ [(5,.eq (.bool x11)),(9,.eq (.bool x12))] [(1,0),(4,3),(8,4)] mix c ⟨Ncl c (fun hg=>Y8 (iteT (gcT hg) hx11)) ⟨.f 6,tt⟩ call66,Ncl c (fun hg=>Y8 (iteT (gcT hg) hx12)) ⟨.f 9,tt⟩ call66,tt⟩ fun _ _ c=>I0 c h (fun h=>?_) fun h=>?_)
   refine T0 (Fp [(0,2)] 1 c fun _ c=>Eltr 79 [(tR x1 a1 c1)] [x1] c ⟨(Ava.mk_Term x1 (.f 3)),tt⟩ fun a5 c5 _ _ c=>?_)
   replace c:=c.nf
   replace c:=c.fzr 5 10
   refine Bd h fun x13 hx13 h=>Cg c (ih0 hx13) ⟨.f 11,tt⟩ call135 fun i11 _ _ c=>?_
   refine Ess 1 (tC x13 i11.1 i11.2) c fun _ c=>?_
   refine E0 ?_
   obtain rfl:=sj h
   exact wp_ret (br (tr (Rg c (i11.1,i11.2) [] [12] (.cell (α:=Agg 4) kk (.b 1) .nil))))
   refine K1 (bk (tn (T0 (Fp [(0,0)] 1 c fun _ c=>Ess 1 (tC p0 ga0 gc1) c fun _ c=>?_))))
   refine E0 ?_
   obtain rfl:=sj h
   exact wp_ret (Rg c (ga0,gc1) [] [0] (.cell (α:=Agg 4) kk (.b 1) .nil))
 · intro p0 ga0 gc1 r h
   rw [ZM] at h
   refine En func111 rfl ntmps111 fun _ fr w c=>?_
   refine T0 (Ebx (tC p0 ga0 gc1) c fun b1 _ _ c=>?_)
   refine Eal tZ c fun b2 _ _ c=>?_
   refine E0 (T0 (Fp [(1,0)] 2 c fun _ c=>Bd h fun x1 hx1 h=>Eem c (.f 0) hx1 fun _ u1 _ c=>?_))
   obtain ⟨a1,c1,rfl,c⟩:=c.o_Term 1
   refine Eal tZ c fun b3 _ _ c=>?_
   refine Ess 2 (tC x1 a1 c1) c fun _ c=>?_
   refine E0 (S0 (S0 (Ry [(1,0),(5,0),(7,2)] mix c fun _ _ c=>I0 c h (fun h=>?_) fun h=>?_)))
   refine T0 (Fp [(0,2)] 1 c fun _ c=>?_)
   replace c:=c.ng
   refine Ess 1 (tC x1 a1 c1) c fun _ c=>?_
   refine E0 ?_
   obtain rfl:=sj h
   exact wp_ret (tr (Rg c (a1,c1) [] [2] (.cell (α:=Agg 4) kk (.b 1) .nil)))
   refine K0 (S0 (P0 [(1,2)] c fun _ c=>wp_block (P0 [] c fun _ c=>I0 c h (fun h=>?_) fun h=>?_)))
   refine Bd h fun x2 hx2 h=>?_
   obtain ⟨ep1,u2,c⟩:=c.elp (.f 2) hx2
   obtain ⟨a2,c2,rfl,c⟩:=c.o_Term 4
   refine S0 (Zav mix (rM 12 [(9,.eq (.pointer (some ep1))),(10,.eq (tV x2 a2 c2)),(11,Pd.nw c.wd 11 (fun i:Oh=>L i.1 [x2] i.2) (fun i=>sl79 (L i.1 [x2] i.2) [(tR x2 a2 c2)]))] [(1,0),(3,0),(5,2),(8,2)] c (fun ow=>⟨Yc ow (Nie c 3),Yc ow (Nle c 3),Nlt c [(tR x2 a2 c2)],tt⟩) fun ow _ _ hE hc cq=>?_))
   obtain ⟨i1,hi1⟩:=hE.nw 11 35
   replace c:=Cx.newt c hc cq [(11,35,_,_)] ⟨hi1,tt⟩
   replace c:=c.csl [(tR x2 a2 c2)] [x2] ⟨(Ava.mk_Term x2 (.f 5)),tt⟩
   replace c:=c.ng
   replace c:=c.fzr 3 6
   refine Bd h fun x3 hx3 h=>Cg c (ih0 hx3) ⟨.f 7,tt⟩ call135 fun i2 _ _ c=>?_
   refine Ess 1 (tC x3 i2.1 i2.2) c fun _ c=>?_
   refine E0 ?_
   obtain rfl:=sj h
   exact wp_ret (br (tr (Rg c (i2.1,i2.2) [] [8] (.cell (α:=Agg 4) kk (.b 1) .nil))))
   refine P0 [] c fun _ c=>I0 c h (fun h=>?_) fun h=>?_
   refine T0 (Fp [(1,2)] 2 c fun _ c=>?_)
   replace c:=c.nf
   refine Bd h fun x4 hx4 h=>Eem c (.f 2) hx4 fun _ u3 _ c=>?_
   obtain ⟨a3,c3,rfl,c⟩:=c.o_Term 3
   refine Eal tZ c fun b4 _ _ c=>?_
   refine Ess 3 (tC x4 a3 c3) c fun _ c=>?_
   refine E0 (S0 (P0 [(1,0),(3,0),(6,3)] c fun _ c=>I0 c h (fun h=>?_) fun h=>?_))
   refine T0 (Fp [(1,0),(3,0),(4,3)] 5 c fun _ c=>Eltr 79 [(tR x4 a3 c3)] [x4] c ⟨(Ava.mk_Term x4 (.f 4)),tt⟩ fun a4 c4 _ _ c=>?_)
   replace c:=c.fzr 4 5
   refine Bd h fun x5 hx5 h=>Cg c (ih0 hx5) ⟨.f 6,tt⟩ call135 fun i3 _ _ c=>?_
   replace c:=c.nf
   refine Ess 1 (tC x5 i3.1 i3.2) c fun _ c=>?_
   refine E0 ?_
   obtain rfl:=sj h
   exact wp_ret (tr (br (tr (Rg c (i3.1,i3.2) [] [7] (.cell (α:=Agg 4) kk (.b 1) .nil)))))
   refine K0 (P0 [(1,0),(3,3)] c fun _ c=>I0 c h (fun h=>?_) fun h=>?_)
   refine Bd h fun x6 hx6 h=>?_
   obtain ⟨ep2,u4,c⟩:=c.elp (.f 2) hx6
   obtain ⟨a5,c5,rfl,c⟩:=c.o_Term 6
   refine S0 (Zav mix (rM 12 [(9,.eq (.pointer (some ep2))),(10,.eq (tV x6 a5 c5)),(11,Pd.nw c.wd 11 (fun i:Oh=>L i.1 [x6] i.2) (fun i=>sl79 (L i.1 [x6] i.2) [(tR x6 a5 c5)]))] [(1,0),(3,0),(5,3),(8,2)] c (fun ow=>⟨Yc ow (Nie c 5),Yc ow (Nle c 5),Nlt c [(tR x6 a5 c5)],tt⟩) fun ow _ _ hE hc cq=>?_))
   obtain ⟨i4,hi4⟩:=hE.nw 11 74
   replace c:=Cx.newt c hc cq [(11,74,_,_)] ⟨hi4,tt⟩
   replace c:=c.csl [(tR x6 a5 c5)] [x6] ⟨(Ava.mk_Term x6 (.f 7)),tt⟩
   replace c:=c.fzr 4 8
   refine Bd h fun x7 hx7 h=>Cg c (ih0 hx7) ⟨.f 9,tt⟩ call135 fun i5 _ _ c=>?_
   refine Ess 1 (tC x7 i5.1 i5.2) c fun _ c=>?_
   refine E0 ?_
   obtain rfl:=sj h
   exact wp_ret (br (tr (Rg c (i5.1,i5.2) [] [10] (.cell (α:=Agg 4) kk (.b 1) .nil))))
   refine K1 (bk (tn (T0 (Fp [(0,0)] 1 c fun _ c=>Ess 1 (tC p0 ga0 gc1) c fun _ c=>?_))))
   refine E0 ?_
   obtain rfl:=sj h
   exact wp_ret (Rg c (ga0,gc1) [] [0] (.cell (α:=Agg 4) kk (.b 1) .nil))
   refine S0 (P0 [] c fun _ c=>Mp (x1.Op == 20) [(76,.bool (x1.Op == 20))] [(76,.bool (x1.Op == 21))] [(76,.bool ((x1.Op == 20) || (x1.Op == 21)))] [76,78] c fun _ c=>I0 c h (fun h=>?_) fun h=>?_)
   refine Bd h fun x8 hx8 h=>?_
   obtain ⟨ep3,u5,c⟩:=c.elp (.f 2) hx8
   obtain ⟨a6,c6,rfl,c⟩:=c.o_Term 4
   refine S0 (rZ [(7,.eq (.pointer (some ep3))),(9,.eq (I x8.W))] [(1,0),(3,0),(6,2)] mix c ⟨Nie c 3,Nlc c 3 1,tt⟩ fun _ _ c=>I0 c h (fun h=>?_) fun h=>?_)
   refine Bd h fun x9 hx9 h=>?_
   obtain ⟨ep4,u6,c⟩:=c.elp (.f 2) hx9
   obtain ⟨a7,c7,rfl,c⟩:=c.o_Term 7
   refine S0 (Zav mix (rM 9 [(6,.eq (.pointer (some ep4))),(7,.eq (tV x9 a7 c7)),(8,Pd.nw c.wd 8 (fun i:Oh=>L i.1 [x9] i.2) (fun i=>sl79 (L i.1 [x9] i.2) [(tR x9 a7 c7)]))] [(1,0),(3,0),(5,2)] c (fun ow=>⟨Yc ow (Nie c 6),Yc ow (Nle c 6),Nlt c [(tR x9 a7 c7)],tt⟩) fun ow _ _ hE hc cq=>?_))
   obtain ⟨i6,hi6⟩:=hE.nw 8 98
   replace c:=Cx.newt c hc cq [(8,98,_,_)] ⟨hi6,tt⟩
   replace c:=c.csl [(tR x9 a7 c7)] [x9] ⟨(Ava.mk_Term x9 (.f 8)),tt⟩
   replace c:=c.nf
   replace c:=c.fzr 3 9
   refine Bd h fun x10 hx10 h=>Cg c (ih0 hx10) ⟨.f 10,tt⟩ call135 fun i7 _ _ c=>?_
   refine Ess 1 (tC x10 i7.1 i7.2) c fun _ c=>?_
   refine E0 ?_
   obtain rfl:=sj h
   exact wp_ret (br (tr (Rg c (i7.1,i7.2) [] [11] (.cell (α:=Agg 4) kk (.b 1) .nil))))
   refine K1 (bk (tn (T0 (Fp [(0,0)] 1 c fun _ c=>?_))))
   replace c:=c.nf
   refine Ess 1 (tC p0 ga0 gc1) c fun _ c=>?_
   refine E0 ?_
   obtain rfl:=sj h
   exact wp_ret (Rg c (ga0,gc1) [] [0] (.cell (α:=Agg 4) kk (.b 1) .nil))
   refine K1 (bk (tn (T0 (Fp [(0,0)] 1 c fun _ c=>?_))))
   replace c:=c.nf
   refine Ess 1 (tC p0 ga0 gc1) c fun _ c=>?_
   refine E0 ?_
   obtain rfl:=sj h
   exact wp_ret (Rg c (ga0,gc1) [] [0] (.cell (α:=Agg 4) kk (.b 1) .nil))
 · intro p0 ga0 gc1 r h
   rw [Yx] at h
   refine En func112 rfl ntmps112 fun _ fr w c=>?_
   refine T0 (Ebx (tC p0 ga0 gc1) c fun b1 _ _ c=>?_)
   refine Eal tZ c fun b2 _ _ c=>?_
   refine E0 (T0 (Fp [(1,0)] 2 c fun _ c=>Bd h fun x1 hx1 h=>Eem c (.f 0) hx1 fun _ u1 _ c=>?_))
   obtain ⟨a1,c1,rfl,c⟩:=c.o_Term 1
   refine Eal tZ c fun b3 _ _ c=>?_
   refine Ess 2 (tC x1 a1 c1) c fun _ c=>?_
   refine E0 (S0 (P0 [(1,0),(3,2)] c fun _ c=>I0 c h (fun h=>?_) fun h=>?_))
   refine T0 (Fp [(0,2)] 1 c fun _ c=>?_)
   replace c:=c.ng
   refine Ess 1 (tC x1 a1 c1) c fun _ c=>?_
   refine E0 ?_
   obtain rfl:=sj h
   exact wp_ret (tr (Rg c (a1,c1) [] [2] (.cell (α:=Agg 4) kk (.b 1) .nil)))
   refine K0 (S0 (P0 [(1,2),(3,0)] c fun _ c=>I0 c h (fun h=>?_) fun h=>?_))
   refine Bd h fun x2 hx2 h=>?_
   obtain ⟨ep1,u2,c⟩:=c.elp (.f 2) hx2
   obtain ⟨a2,c2,rfl,c⟩:=c.o_Term 4
   refine S0 (Zav mix (rM 9 [(6,.eq (.pointer (some ep1))),(7,.eq (tV x2 a2 c2)),(8,Pd.nw c.wd 8 (fun i:Oh=>L i.1 [x2] i.2) (fun i=>sl79 (L i.1 [x2] i.2) [(tR x2 a2 c2)]))] [(1,0),(3,0),(5,2)] c (fun ow=>⟨Yc ow (Nie c 3),Yc ow (Nle c 3),Nlt c [(tR x2 a2 c2)],tt⟩) fun ow _ _ hE hc cq=>?_))
   obtain ⟨i1,hi1⟩:=hE.nw 8 27
   replace c:=Cx.newt c hc cq [(8,27,_,_)] ⟨hi1,tt⟩
   replace c:=c.csl [(tR x2 a2 c2)] [x2] ⟨(Ava.mk_Term x2 (.f 5)),tt⟩
   replace c:=c.ng
   replace c:=c.fzr 3 6
   refine Bd h fun x3 hx3 h=>Cg c (ih0 hx3) ⟨.f 7,tt⟩ call135 fun i2 _ _ c=>?_
   refine Ess 1 (tC x3 i2.1 i2.2) c fun _ c=>?_
   refine E0 ?_
   obtain rfl:=sj h
   exact wp_ret (tr (Rg c (i2.1,i2.2) [] [8] (.cell (α:=Agg 4) kk (.b 1) .nil)))
   refine K0 (T0 (Fp [(0,0)] 1 c fun _ c=>?_))
   replace c:=c.nf
   refine Ess 1 (tC p0 ga0 gc1) c fun _ c=>?_
   refine E0 ?_
   obtain rfl:=sj h
   exact wp_ret (Rg c (ga0,gc1) [] [0] (.cell (α:=Agg 4) kk (.b 1) .nil))
 · intro p0 ga0 gc1 r h
   rw [Yp] at h
   refine En func113 rfl ntmps113 fun _ fr w c=>?_
   refine T0 (Ebx (tC p0 ga0 gc1) c fun b1 _ _ c=>?_)
   refine Eal tZ c fun b2 _ _ c=>?_
   refine E0 (Bd h fun x1 hx1 h=>?_)
   obtain ⟨ep1,u1,c⟩:=c.elp (.f 0) hx1
   obtain ⟨a1,c1,rfl,c⟩:=c.o_Term 2
   refine Bd h fun x2 hx2 h=>?_
   obtain ⟨ep2,u2,c⟩:=c.elp (.f 0) hx2
   obtain ⟨a2,c2,rfl,c⟩:=c.o_Term 5
   refine S0 (Jn (fun i:Nat × Nat=>([(1,B b1 0),(2,B b2 0),(3,B i.1 0),(4,B i.2 0)],fun Γ=>Γ ++ [BX i.1 79 (tC x1 a1 c1),BX i.2 79 (tC x2 a2 c2)],[])) c ?_ fun i4 _ _ c=>?_)
   refine As mix c fun _ c=>?_
   replace c:=Cx.frs [(1,B b1 0),(2,B b2 0)] c
   refine Dq (fun i:Nat × Nat=>([(1,B b1 0),(2,B b2 0),(3,B i.1 0),(4,B i.2 0)],fun Γ=>Γ ++ [BX i.1 79 (tC x1 a1 c1),BX i.2 79 (tC x2 a2 c2)],[])) (bN 12 4095) (fun i=>[]) c (fun i3=>?_) fun hd5=>?_
   obtain ⟨b13,b14⟩:=i3
   refine qnE tt fun _ _ c=>?_
   exact nN (b13,b14) (c.rk (rg 4) (rg 7))
   refine Dq (fun i:Nat × Nat=>([(1,B b1 0),(2,B b2 0),(3,B i.1 0),(4,B i.2 0)],fun Γ=>Γ ++ [BX i.1 79 (tC x1 a1 c1),BX i.2 79 tZ],[])) (bN 12 1807) (fun i=>[(4,9,B b1 4),(5,10,L ga0 p0.Kids gc1),(6,11,.pointer (some ep2)),(7,12,tV x2 a2 c2)]) c (fun i2=>?_) fun hd4=>?_
   obtain ⟨b11,b12⟩:=i2
   refine qn [11] ⟨qP [],qP [(0,0)],qI 4,qL 4,tt⟩ ⟨fun _ _ c=>?_,tt⟩
   refine Zc _ rfl rfl ?_
   refine Ess 3 (tC x2 a2 c2) c fun _ c=>?_
   refine E0 (nQ hd5 (b11,b12) (c.rk (rg 4) (rg 7)))
   refine Dq (fun i:Nat × Nat=>([(1,B b1 0),(2,B b2 0),(3,B i.1 0),(4,B i.2 0)],fun Γ=>Γ ++ [BX i.1 79 tZ,BX i.2 79 tZ],[])) (bN 12 768) (fun i=>[(0,5,B b1 4),(1,6,L ga0 p0.Kids gc1),(2,7,.pointer (some ep1)),(3,8,tV x1 a1 c1),(4,9,B b1 4),(5,10,L ga0 p0.Kids gc1),(6,11,.pointer (some ep2)),(7,12,tV x2 a2 c2)]) c (fun i1=>?_) fun hd3=>?_
   obtain ⟨b8,b9⟩:=i1
   refine qn [10] ⟨qP [],qP [(0,0)],qI 1,qL 1,qP [],qP [(0,0)],qI 4,qL 4,tt⟩ ⟨fun _ _ c=>?_,tt⟩
   refine Zc _ rfl rfl ?_
   refine Ess 2 (tC x1 a1 c1) c fun _ c=>?_
   refine E0 (nQ hd4 (b8,b9) (c.rk (rg 4) (rg 7)))
   refine Dq (fun i:Nat=>([(1,B b1 0),(2,B b2 0),(3,B i 0)],fun Γ=>Γ ++ [BX i 79 tZ],[])) (bN 12 256) (fun i=>[(0,5,B b1 4),(1,6,L ga0 p0.Kids gc1),(2,7,.pointer (some ep1)),(3,8,tV x1 a1 c1),(4,9,B b1 4),(5,10,L ga0 p0.Kids gc1),(6,11,.pointer (some ep2)),(7,12,tV x2 a2 c2)]) c (fun b4=>?_) fun hd1=>?_
   refine qn [9] ⟨qP [],qP [(0,0)],qI 1,qL 1,qP [],qP [(0,0)],qI 4,qL 4,tt⟩ ⟨fun _ _ c=>?_,tt⟩
   refine Zc _ rfl rfl ?_
   refine Eal tZ c fun b7 _ _ c=>?_
   refine E0 (nQ hd3 (b4,b7) (c.rk (rg 4) (rg 7)))
   refine Dq (fun i:Nat=>([(1,B b1 0),(2,B b2 0),(4,B i 0)],fun Γ=>Γ ++ [BX i 79 tZ],[])) (bN 12 512) (fun i=>[(0,5,B b1 4),(1,6,L ga0 p0.Kids gc1),(2,7,.pointer (some ep1)),(3,8,tV x1 a1 c1),(4,9,B b1 4),(5,10,L ga0 p0.Kids gc1),(6,11,.pointer (some ep2)),(7,12,tV x2 a2 c2)]) c (fun b6=>?_) fun hd2=>?_
   refine qn [8] ⟨qP [],qP [(0,0)],qI 1,qL 1,qP [],qP [(0,0)],qI 4,qL 4,tt⟩ ⟨fun _ _ c=>?_,tt⟩
   refine Zc _ rfl rfl ?_
   refine Eal tZ c fun b10 _ _ c=>?_
   refine E0 (nQ hd3 (b10,b6) (c.rk [0,1,3,2] (rg 7)))
   refine q0 (qs:=[(0,5,B b1 4),(1,6,L ga0 p0.Kids gc1),(2,7,.pointer (some ep1)),(3,8,tV x1 a1 c1),(4,9,B b1 4),(5,10,L ga0 p0.Kids gc1),(6,11,.pointer (some ep2)),(7,12,tV x2 a2 c2)]) c (qn [8,9] ⟨qP [],qP [(0,0)],qI 1,qL 1,qP [],qP [(0,0)],qI 4,qL 4,tt⟩ ⟨fun _ _ c=>?_,fun _ _ c=>?_,tt⟩)
   refine Zc _ rfl rfl ?_
   refine Eal tZ c fun b3 _ _ c=>?_
   refine E0 (nQ hd1 (b3) (c.rk [0,1,2] (rg 7)))
   refine Zc _ rfl rfl ?_
   refine Eal tZ c fun b5 _ _ c=>?_
   refine E0 (nQ hd2 (b5) (c.rk [0,1,2] (rg 7)))
   obtain ⟨b15,b16⟩:=i4
   refine S0 (Bd h fun x3 hx3 h=>Bd h fun x4 hx4 h=>Bd h fun x5 hx5 h=>S0 (rZ [(21,Pd.el (x3:D.Term)),(22,Pd.rd (x3:D.Term)),(25,Pd.el (x4:D.Term)),(26,Pd.rd (x4:D.Term)),(27,.eq (.bool x5))] [(1,2),(5,3),(10,2),(12,3),(14,3),(20,2),(24,3)] mix c ⟨Nid c (.f 3) (gT hx3),Nrd c 21 (atN 21),Nid c (.f 6) (gT hx4),Nrd c 25 (atN 25),Ncd (Ψ:=[]) [.r 22 (fun v=>RO v (x3:D.Term)),.r 26 (fun v=>RO v (x4:D.Term))] c ⟨(atN 22),(atN 26),tt⟩ tt (fun hg _ _ ga gp=>by obtain ⟨u1,_,rfl,g1,u2,_,rfl,g2,rfl⟩:=ga; obtain ⟨k1,rfl,f1⟩:=Opn.opn g1; obtain ⟨k2,rfl,f2⟩:=Opn.opn g2; exact ⟨_,(f1.join f2),ZaS (iteT (gcT hg) hx5)⟩) call134,tt⟩ fun _ _ c=>I0 c h (fun h=>?_) fun h=>?_))
   refine Bd h fun x6 hx6 h=>?_
   obtain ⟨ep3,u3,c⟩:=c.elp (.f 6) hx6
   obtain ⟨a3,c3,rfl,c⟩:=c.o_Term 8
   refine S0 (Zav mix (rM 9 [(6,.eq (.pointer (some ep3))),(7,.eq (tV x6 a3 c3)),(8,Pd.nw c.wd 8 (fun i:Oh=>L i.1 [x6] i.2) (fun i=>sl79 (L i.1 [x6] i.2) [(tR x6 a3 c3)]))] [(1,0),(3,3),(5,3)] c (fun ow=>⟨Yc ow (Nie c 7),Yc ow (Nle c 7),Nlt c [(tR x6 a3 c3)],tt⟩) fun ow _ _ hE hc cq=>?_))
   obtain ⟨i5,hi5⟩:=hE.nw 8 50
   replace c:=Cx.newt c hc cq [(8,50,_,_)] ⟨hi5,tt⟩
   replace c:=c.csl [(tR x6 a3 c3)] [x6] ⟨(Ava.mk_Term x6 (.f 9)),tt⟩
   replace c:=c.fzr 4 10
   refine Bd h fun x7 hx7 h=>Cg c (ih0 hx7) ⟨.f 11,tt⟩ call135 fun i6 _ _ c=>?_
   refine Ess 1 (tC x7 i6.1 i6.2) c fun _ c=>?_
   refine E0 ?_
   obtain rfl:=sj h
   exact wp_ret (tr (Rg c (i6.1,i6.2) [] [12] (.cell (α:=Agg 4) kk (.b 1) .nil)))
   refine K0 (T0 (Fp [(0,0)] 1 c fun _ c=>Ess 1 (tC p0 ga0 gc1) c fun _ c=>?_))
   refine E0 ?_
   obtain rfl:=sj h
   exact wp_ret (Rg c (ga0,gc1) [] [0] (.cell (α:=Agg 4) kk (.b 1) .nil))
 · intro p0 ga0 gc1 r h
   rw [Zb] at h
   refine En func114 rfl ntmps114 fun _ fr w c=>?_
   refine T0 (Ebx (tC p0 ga0 gc1) c fun b1 _ _ c=>?_)
   refine Eal tZ c fun b2 _ _ c=>?_
   refine E0 (Bd h fun x1 hx1 h=>?_)
   obtain ⟨ep1,u1,c⟩:=c.elp (.f 0) hx1
   obtain ⟨a1,c1,rfl,c⟩:=c.o_Term 2
   refine Bd h fun x2 hx2 h=>?_
   obtain ⟨ep2,u2,c⟩:=c.elp (.f 0) hx2
   obtain ⟨a2,c2,rfl,c⟩:=c.o_Term 5
   refine S0 (Jn (fun i:Nat × Nat=>([(1,B b1 0),(2,B b2 0),(3,B i.1 0),(4,B i.2 0)],fun Γ=>Γ ++ [BX i.1 79 (tC x1 a1 c1),BX i.2 79 (tC x2 a2 c2)],[])) c ?_ fun i4 _ _ c=>?_)
   refine As mix c fun _ c=>?_
   replace c:=Cx.frs [(1,B b1 0),(2,B b2 0)] c
   refine Dq (fun i:Nat × Nat=>([(1,B b1 0),(2,B b2 0),(3,B i.1 0),(4,B i.2 0)],fun Γ=>Γ ++ [BX i.1 79 (tC x1 a1 c1),BX i.2 79 (tC x2 a2 c2)],[])) (bN 12 4095) (fun i=>[]) c (fun i3=>?_) fun hd5=>?_
   obtain ⟨b13,b14⟩:=i3
   refine qnE tt fun _ _ c=>?_
   exact nN (b13,b14) (c.rk (rg 4) (rg 7))
   refine Dq (fun i:Nat × Nat=>([(1,B b1 0),(2,B b2 0),(3,B i.1 0),(4,B i.2 0)],fun Γ=>Γ ++ [BX i.1 79 (tC x1 a1 c1),BX i.2 79 tZ],[])) (bN 12 1807) (fun i=>[(4,12,B b1 4),(5,13,L ga0 p0.Kids gc1),(6,14,.pointer (some ep2)),(7,15,tV x2 a2 c2)]) c (fun i2=>?_) fun hd4=>?_
   obtain ⟨b11,b12⟩:=i2
   refine qn [11] ⟨qP [],qP [(0,0)],qI 4,qL 4,tt⟩ ⟨fun _ _ c=>?_,tt⟩
   refine Zc _ rfl rfl ?_
   refine Ess 3 (tC x2 a2 c2) c fun _ c=>?_
   refine E0 (nQ hd5 (b11,b12) (c.rk (rg 4) (rg 7)))
   refine Dq (fun i:Nat × Nat=>([(1,B b1 0),(2,B b2 0),(3,B i.1 0),(4,B i.2 0)],fun Γ=>Γ ++ [BX i.1 79 tZ,BX i.2 79 tZ],[])) (bN 12 768) (fun i=>[(0,8,B b1 4),(1,9,L ga0 p0.Kids gc1),(2,10,.pointer (some ep1)),(3,11,tV x1 a1 c1),(4,12,B b1 4),(5,13,L ga0 p0.Kids gc1),(6,14,.pointer (some ep2)),(7,15,tV x2 a2 c2)]) c (fun i1=>?_) fun hd3=>?_
   obtain ⟨b8,b9⟩:=i1
   refine qn [10] ⟨qP [],qP [(0,0)],qI 1,qL 1,qP [],qP [(0,0)],qI 4,qL 4,tt⟩ ⟨fun _ _ c=>?_,tt⟩
   refine Zc _ rfl rfl ?_
   refine Ess 2 (tC x1 a1 c1) c fun _ c=>?_
   refine E0 (nQ hd4 (b8,b9) (c.rk (rg 4) (rg 7)))
   refine Dq (fun i:Nat=>([(1,B b1 0),(2,B b2 0),(3,B i 0)],fun Γ=>Γ ++ [BX i 79 tZ],[])) (bN 12 256) (fun i=>[(0,8,B b1 4),(1,9,L ga0 p0.Kids gc1),(2,10,.pointer (some ep1)),(3,11,tV x1 a1 c1),(4,12,B b1 4),(5,13,L ga0 p0.Kids gc1),(6,14,.pointer (some ep2)),(7,15,tV x2 a2 c2)]) c (fun b4=>?_) fun hd1=>?_
   refine qn [9] ⟨qP [],qP [(0,0)],qI 1,qL 1,qP [],qP [(0,0)],qI 4,qL 4,tt⟩ ⟨fun _ _ c=>?_,tt⟩
   refine Zc _ rfl rfl ?_
   refine Eal tZ c fun b7 _ _ c=>?_
   refine E0 (nQ hd3 (b4,b7) (c.rk (rg 4) (rg 7)))
   refine Dq (fun i:Nat=>([(1,B b1 0),(2,B b2 0),(4,B i 0)],fun Γ=>Γ ++ [BX i 79 tZ],[])) (bN 12 512) (fun i=>[(0,8,B b1 4),(1,9,L ga0 p0.Kids gc1),(2,10,.pointer (some ep1)),(3,11,tV x1 a1 c1),(4,12,B b1 4),(5,13,L ga0 p0.Kids gc1),(6,14,.pointer (some ep2)),(7,15,tV x2 a2 c2)]) c (fun b6=>?_) fun hd2=>?_
   refine qn [8] ⟨qP [],qP [(0,0)],qI 1,qL 1,qP [],qP [(0,0)],qI 4,qL 4,tt⟩ ⟨fun _ _ c=>?_,tt⟩
   refine Zc _ rfl rfl ?_
   refine Eal tZ c fun b10 _ _ c=>?_
   refine E0 (nQ hd3 (b10,b6) (c.rk [0,1,3,2] (rg 7)))
   refine q0 (qs:=[(0,8,B b1 4),(1,9,L ga0 p0.Kids gc1),(2,10,.pointer (some ep1)),(3,11,tV x1 a1 c1),(4,12,B b1 4),(5,13,L ga0 p0.Kids gc1),(6,14,.pointer (some ep2)),(7,15,tV x2 a2 c2)]) c (qn [8,9] ⟨qP [],qP [(0,0)],qI 1,qL 1,qP [],qP [(0,0)],qI 4,qL 4,tt⟩ ⟨fun _ _ c=>?_,fun _ _ c=>?_,tt⟩)
   refine Zc _ rfl rfl ?_
   refine Eal tZ c fun b3 _ _ c=>?_
   refine E0 (nQ hd1 (b3) (c.rk [0,1,2] (rg 7)))
   refine Zc _ rfl rfl ?_
   refine Eal tZ c fun b5 _ _ c=>?_
   refine E0 (nQ hd2 (b5) (c.rk [0,1,2] (rg 7)))
   obtain ⟨b15,b16⟩:=i4
   refine S0 (Bd h fun x3 hx3 h=>Bd h fun x4 hx4 h=>S0 (rZ [(2,.eq (.bool x3)),(6,.eq (I x4))] [(1,0),(4,2),(5,3)] mix c ⟨Ncl c (kN (ZbH hx3)) tt call136,Ncl c (fun hg=>Zbc (iteT (gcT hg) hx4)) ⟨.f 3,.f 6,tt⟩ call137,tt⟩ fun _ _ c=>I0 c h (fun h=>?_) fun h=>?_))
   refine T0 (Fp [(1,0),(3,0),(4,3),(5,2)] 6 c fun _ c=>Eltr 79 [(tR x2 a2 c2),(tR x1 a1 c1)] [x2,x1] c ⟨(Ava.mk_Term x2 (.f 6)),(Ava.mk_Term x1 (.f 3)),tt⟩ fun a3 c3 _ _ c=>?_)
   replace c:=c.fzr 4 7
   refine Bd h fun x5 hx5 h=>Cg c (ih0 hx5) ⟨.f 8,tt⟩ call135 fun i5 _ _ c=>?_
   refine Ess 1 (tC x5 i5.1 i5.2) c fun _ c=>?_
   refine E0 ?_
   obtain rfl:=sj h
   exact wp_ret (tr (Rg c (i5.1,i5.2) [] [9] (.cell (α:=Agg 4) kk (.b 1) .nil)))
   refine K0 (S0 (T0 (Fp [(0,2)] 1 c fun _ c=>Bd h fun x6 hx6 h=>Cb c (XJ hx6) ⟨.f 3,tt⟩ call106 fun _ _ _ c=>?_)))
   refine E0 (Bd h fun rl1 hit1 h=>?_)
   have hk1:=h
   refine Jr (fun s  (_:Unit)=>([(1,B b1 0),(2,B b2 0),(3,B b15 0),(4,B b16 0)],id,[])) hit1 c (fun h=>?_) fun s1r _ _ _ hrl c=>?_
   refine I0 c h (fun h=>?_) fun h=>?_
   refine T0 (Fp [(1,0),(3,0),(4,2),(5,3)] 6 c fun _ c=>Bd h fun x7 hx7 h=>Cg c (ih7 hx7) ⟨.f 3,.f 6,tt⟩ call138 fun i6 _ _ c=>?_)
   refine Fp [] 3 c fun _ c=>Eal tZ c fun b17 _ _ c=>?_
   refine Ess 4 (tC x7.1 i6.1 i6.2) c fun _ c=>?_
   refine Fp [] 1 c fun _ c=>E0 (P0 [] c fun _ c=>I0 c h (fun h=>?_) fun h=>?_)
   refine T0 (Fp [(0,4)] 1 c fun _ c=>Ess 1 (tC x7.1 i6.1 i6.2) c fun _ c=>?_)
   refine E0 ?_
   obtain rfl:=sj h
   obtain rfl:=sj hk1
   exact wp_ret (tr (Rg c (i6.1,i6.2) [] [7] (.cell (α:=Agg 4) kk (.b 1) .nil)))
   refine K0 (⟨_,(),(sk h),c.rk (rg 4) (rg 7)⟩)
   refine K0 (⟨_,(),(sk h),c.rk (rg 4) (rg 7)⟩)
   subst hrl
   refine S0 (T0 (Fp [(0,3)] 1 c fun _ c=>Bd h fun x8 hx8 h=>Cb c (Y8 hx8) ⟨.f 6,tt⟩ call66 fun _ _ _ c=>?_))
   refine E0 (Bd h fun rl2 hit2 h=>?_)
   have hk2:=h
   refine Jr (fun s  (_:Unit)=>([(1,B b1 0),(2,B b2 0),(3,B b15 0),(4,B b16 0)],id,[])) hit2 c (fun h=>?_) fun s2r _ _ _ hrl c=>?_
   refine I0 c h (fun h=>?_) fun h=>?_
   refine P0 [(1,0)] c fun _ c=>wp_block (S0 (P0 [] c fun _ c=>Bd h fun rl3 hit3 h=>?_))
   have hk3:=h
   refine Jr (fun s  (_:Unit)=>([(1,B b1 0),(2,B b2 0),(3,B b15 0),(4,B b16 0),(50,I p0.Op),(51,.bool s)],id,[])) hit3 c (fun h=>?_) fun s3r _ _ _ hrl c=>?_
   refine I0 c h (fun h=>?_) fun h=>?_
   refine K0 (⟨_,(),(sk h),c.rk (rg 4) (rg 7)⟩)
   refine P0 [] c fun _ c=>I0 c h (fun h=>?_) fun h=>?_
   refine K0 (⟨_,(),(sk h),c.rk (rg 4) (rg 7)⟩)
   refine P0 [] c fun _ c=>Mp (p0.Op == 12) [(51,.bool (p0.Op == 12))] [(51,.bool (p0.Op == 13))] [(51,.bool ((p0.Op == 12) || (p0.Op == 13)))] [51,55] c fun _ c=>⟨_,(),(sk h),c.rk (rg 4) (rg 7)⟩
   subst hrl
   refine I0 c h (fun h=>?_) fun h=>?_
   refine T0 (Fp [(0,2)] 1 c fun _ c=>Ess 1 (tC x1 a1 c1) c fun _ c=>?_)
   refine E0 ?_
   obtain rfl:=sj h
   obtain rfl:=sj hk2
   exact wp_ret (br (tr (Rg c (a1,c1) [] [3] (.cell (α:=Agg 4) kk (.b 1) .nil))))
   refine P0 [] c fun _ c=>I0 c h (fun h=>?_) fun h=>?_
   refine T0 (Bd h fun x9 hx9 h=>Cb c (Y3 hx9) tt call107 fun _ _ _ c=>?_)
   refine Ess 1 [I x9.Op,I x9.W,I x9.N,Str.val x9.Name,L0] c fun _ c=>?_
   refine E0 ?_
   obtain rfl:=sj h
   obtain rfl:=sj hk2
   replace c:=c.nilf (α:=D.Term)
   exact wp_ret (br (tr (Rg c (none,0) [] [7] (.cell (α:=Agg 4) kk (.b 1) .nil))))
   refine K1 (bk (tn (⟨_,(),(sk h),c.rk (rg 4) (rg 7)⟩)))
   refine K0 (⟨_,(),(sk h),c.rk (rg 4) (rg 7)⟩)
   subst hrl
   refine S0 (T0 (Fp [(0,2),(1,3)] 2 c fun _ c=>Bd h fun x10 hx10 h=>Cb c (ZaS hx10) ⟨.f 3,.f 6,tt⟩ call134 fun _ _ _ c=>?_))
   refine E0 (Bd h fun rl4 hit4 h=>?_)
   have hk4:=h
   refine Jr (fun s  (_:Unit)=>([(1,B b1 0),(2,B b2 0),(3,B b15 0),(4,B b16 0)],id,[])) hit4 c (fun h=>?_) fun s4r _ _ _ hrl c=>?_
   refine I0 c h (fun h=>?_) fun h=>?_
   refine P0 [(1,0)] c fun _ c=>wp_block (S0 (P0 [] c fun _ c=>Mp (p0.Op == 8) [(65,.bool (p0.Op == 8))] [(65,.bool (p0.Op == 9))] [(65,.bool ((p0.Op == 8) || (p0.Op == 9)))] [65,67] c fun _ c=>I0 c h (fun h=>?_) fun h=>?_))
   refine T0 (Fp [(0,2)] 1 c fun _ c=>Ess 1 (tC x1 a1 c1) c fun _ c=>?_)
   refine E0 ?_
   obtain rfl:=sj h
   obtain rfl:=sj hk4
   exact wp_ret (br (tr (Rg c (a1,c1) [] [3] (.cell (α:=Agg 4) kk (.b 1) .nil))))
   refine S0 (P0 [] c fun _ c=>Bd h fun rl5 hit5 h=>?_)
   have hk5:=h
   refine Jr (fun s  (_:Unit)=>([(1,B b1 0),(2,B b2 0),(3,B b15 0),(4,B b16 0),(64,I p0.Op),(69,.bool s)],id,[])) hit5 c (fun h=>?_) fun s5r _ _ _ hrl c=>?_
   refine I0 c h (fun h=>?_) fun h=>?_
   refine K0 (⟨_,(),(sk h),c.rk (rg 4) (rg 7)⟩)
   refine P0 [] c fun _ c=>I0 c h (fun h=>?_) fun h=>?_
   refine K0 (⟨_,(),(sk h),c.rk (rg 4) (rg 7)⟩)
   refine P0 [] c fun _ c=>Mp (p0.Op == 15) [(69,.bool (p0.Op == 15))] [(69,.bool (p0.Op == 16))] [(69,.bool ((p0.Op == 15) || (p0.Op == 16)))] [69,73] c fun _ c=>⟨_,(),(sk h),c.rk (rg 4) (rg 7)⟩
   subst hrl
   refine I0 c h (fun h=>?_) fun h=>?_
   refine T0 (Fp [(1,0)] 2 c fun _ c=>Bd h fun x11 hx11 h=>Cb c (Y3 hx11) tt call107 fun _ _ _ c=>?_)
   refine Ess 1 [I x11.Op,I x11.W,I x11.N,Str.val x11.Name,L0] c fun _ c=>?_
   refine E0 ?_
   obtain rfl:=sj h
   obtain rfl:=sj hk4
   replace c:=c.nilf (α:=D.Term)
   exact wp_ret (br (tr (Rg c (none,0) [] [7] (.cell (α:=Agg 4) kk (.b 1) .nil))))
   refine P0 [] c fun _ c=>I0 c h (fun h=>?_) fun h=>?_
   refine T0 (Bd h fun x12 hx12 h=>Cb c (Y3 hx12) tt call107 fun _ _ _ c=>?_)
   refine Ess 1 [I x12.Op,I x12.W,I x12.N,Str.val x12.Name,L0] c fun _ c=>?_
   refine E0 ?_
   obtain rfl:=sj h
   obtain rfl:=sj hk4
   replace c:=c.nilf (α:=D.Term)
   exact wp_ret (br (tr (Rg c (none,0) [] [7] (.cell (α:=Agg 4) kk (.b 1) .nil))))
   refine K1 (bk (tn (⟨_,(),(sk h),c.rk (rg 4) (rg 7)⟩)))
   refine K0 (⟨_,(),(sk h),c.rk (rg 4) (rg 7)⟩)
   subst hrl
   refine S0 (Bd h fun x13 hx13 h=>Bd h fun x14 hx14 h=>Bd h fun x15 hx15 h=>Bd h fun x16 hx16 h=>S0 (rZ [(2,.eq (.bool x13)),(10,.eq (.bool x14)),(22,Pd.el (x15:D.Term)),(23,Pd.rd (x15:D.Term)),(24,.eq (.bool x16))] [(1,0),(5,0),(9,2),(14,3),(16,0),(21,3)] mix c ⟨Ncl c (kN (ZbH hx13)) tt call136,Ncl c (fun hg=>XJ (iteT (gcT hg) hx14)) ⟨.f 3,tt⟩ call106,Nid c (.f 6) (gT hx15),Nrd c 22 (atN 22),Ncd (Ψ:=[]) [.r 23 (fun v=>RO v (x15:D.Term))] c ⟨(atN 23),tt⟩ tt (fun hg _ _ ga gp=>by obtain ⟨u1,_,rfl,g1,rfl⟩:=ga; obtain ⟨k1,rfl,f1⟩:=Opn.opn g1; exact ⟨_,f1,XJ (iteT (gcT hg) hx16)⟩) call106,tt⟩ fun _ _ c=>I0 c h (fun h=>?_) fun h=>?_))
   refine Bd h fun x17 hx17 h=>?_
   obtain ⟨ep3,u3,c⟩:=c.elp (.f 6) hx17
   obtain ⟨a4,c4,rfl,c⟩:=c.o_Term 8
   refine Bd h fun x18 hx18 h=>S0 (rZ [(8,.eq (.pointer (some ep3))),(10,.eq (I x17.N)),(11,.eq (I x18))] [(1,0),(3,0),(5,2),(7,3)] mix c ⟨Nie c 7,Nlc c 7 2,Ncl c (kN (Zbs hx18)) tt call133,tt⟩ fun _ _ c=>Bd h fun x19 hx19 h=>Bd h fun x20 hx20 h=>?_)
   obtain ⟨ep4,u4,c⟩:=c.elp (.f 6) hx20
   obtain ⟨a5,c5,rfl,c⟩:=c.o_Term 11
   refine S0 (Zav mix (rM 13 [(7,.eq (.agg #[I x19.Op,I x19.W,I x19.N,Str.val x19.Name,L0])),(10,.eq (.pointer (some ep4))),(11,.eq (tV x20 a5 c5)),(12,Pd.nw c.wd 12 (fun i:Oh=>L i.1 [(t0 x19),x20] i.2) (fun i=>sl79 (L i.1 [(t0 x19),x20] i.2) [(u0 x19),(tR x20 a5 c5)]))] [(1,0),(3,0),(5,0),(9,3)] c (fun ow=>⟨Yc ow (Ncl c (kN (Y3 hx19)) tt call107),Yc ow (Nie c 10),Yc ow (Nle c 10),Nlt c [(u0 x19),(tR x20 a5 c5)],tt⟩) fun ow _ _ hE hc cq=>?_))
   obtain ⟨i7,hi7⟩:=hE.nw 12 130
   replace c:=Cx.newt c hc cq [(12,130,_,_)] ⟨hi7,tt⟩
   replace c:=c.csl [(u0 x19),(tR x20 a5 c5)] [(t0 x19),x20] ⟨(Ava.mk_Term (t0 x19) (.nil)),(Ava.mk_Term x20 (.f 12)),tt⟩
   replace c:=c.fzr 4 13
   refine Bd h fun x21 hx21 h=>Cg c (ih0 hx21) ⟨.f 14,tt⟩ call135 fun i8 _ _ c=>?_
   refine Ess 1 (tC x21 i8.1 i8.2) c fun _ c=>?_
   refine E0 ?_
   obtain rfl:=sj h
   exact wp_ret (tr (Rg c (i8.1,i8.2) [] [15] (.cell (α:=Agg 4) kk (.b 1) .nil)))
   refine K0 (T0 (Fp [(0,0)] 1 c fun _ c=>Ess 1 (tC p0 ga0 gc1) c fun _ c=>?_))
   refine E0 ?_
   obtain rfl:=sj h
   exact wp_ret (Rg c (ga0,gc1) [] [0] (.cell (α:=Agg 4) kk (.b 1) .nil))
 · intro p0 p1 p2 p3 ga0 gc1 ga2 gc3 r h
   rw [Zw] at h
   refine En func138 rfl ntmps138 fun _ fr w c=>?_
   refine T0 (Ebx (tC p2 ga0 gc1) c fun b1 _ _ c=>?_)
   refine Ebx (tC p3 ga2 gc3) c fun b2 _ _ c=>?_
   refine Eal tZ c fun b3 _ _ c=>?_
   refine Fp [] 1 c fun _ c=>E0 (T0 (Fp [(1,0)] 2 c fun _ c=>Bd h fun x1 hx1 h=>Cb c (Zfe hx1) tt call155 fun _ _ _ c=>?_))
   refine Fp [] 1 c fun _ c=>E0 (S0 (wp_block (S0 (S0 (Ry [(4,0)] mix c fun _ _ c=>Bd h fun rl1 hit1 h=>?_)))))
   have hk1:=h
   refine Jr (fun s  (_:Unit)=>([(0,I p0),(1,I p1),(6,B b1 0),(7,B b2 0),(8,B b3 0),(10,I x1),(14,.bool s)],id,[])) hit1 c (fun h=>?_) fun s1r _ _ _ hrl c=>?_
   refine I0 c h (fun h=>?_) fun h=>?_
   refine K0 (⟨_,(),(sk h),c.rk [0,1,2] [0,1]⟩)
   refine S0 (Ry [(4,0)] mix c fun _ _ c=>I0 c h (fun h=>?_) fun h=>?_)
   refine K0 (⟨_,(),(sk h),c.rk [0,1,2] [0,1]⟩)
   refine S0 (Ry [(4,0)] mix c fun _ _ c=>I0 c h (fun h=>?_) fun h=>?_)
   refine K0 (⟨_,(),(sk h),c.rk [0,1,2] [0,1]⟩)
   refine S0 (Ry [(4,0)] mix c fun _ _ c=>I0 c h (fun h=>?_) fun h=>?_)
   refine K0 (⟨_,(),(sk h),c.rk [0,1,2] [0,1]⟩)
   refine S0 (Ry [(4,0)] mix c fun _ _ c=>I0 c h (fun h=>?_) fun h=>?_)
   refine K0 (⟨_,(),(sk h),c.rk [0,1,2] [0,1]⟩)
   refine Ry [(4,0),(9,0)] mix c fun _ _ c=>?_
   exact ⟨_,(),(sk h),c.rk [0,1,2] [0,1]⟩
   subst hrl
   refine I0 c h (fun h=>?_) fun h=>?_
   refine T0 (Fp [(0,1)] 1 c fun _ c=>Ess 2 (tC p3 ga2 gc3) c fun _ c=>?_)
   refine Fp [] 1 c fun _ c=>E0 ?_
   cases h
   exact wp_ret (br (tr (Rg c (ga2,gc3) [] [1] (.cell (α:=Agg 4) kk (.b 2) (.tmp .nil)))))
   refine S0 (S0 (Ry [(4,0)] mix c fun _ _ c=>Bd h fun rl2 hit2 h=>?_))
   have hk2:=h
   refine Jr (fun s  (_:Unit)=>([(0,I p0),(1,I p1),(6,B b1 0),(7,B b2 0),(8,B b3 0),(10,I x1),(64,.bool s)],id,[])) hit2 c (fun h=>?_) fun s2r _ _ _ hrl c=>?_
   refine I0 c h (fun h=>?_) fun h=>?_
   refine K0 (⟨_,(),(sk h),c.rk [0,1,2] [0,1]⟩)
   refine Ry [(4,0)] mix c fun _ _ c=>?_
   exact ⟨_,(),(sk h),c.rk [0,1,2] [0,1]⟩
   subst hrl
   refine I0 c h (fun h=>?_) fun h=>?_
   refine T0 (Fp [] 1 c fun _ c=>Bd h fun x2 hx2 h=>Cb c (Y3 hx2) tt call107 fun _ _ _ c=>?_)
   replace c:=c.nf
   refine Ess 2 [I x2.Op,I x2.W,I x2.N,Str.val x2.Name,L0] c fun _ c=>?_
   refine Fp [] 1 c fun _ c=>E0 ?_
   cases h
   replace c:=c.nilf (α:=D.Term)
   exact wp_ret (br (tr (Rg c (none,0) [] [2] (.cell (α:=Agg 4) kk (.b 2) (.tmp .nil)))))
   refine S0 (Ry [(4,0)] mix c fun _ _ c=>I0 c h (fun h=>?_) fun h=>?_)
   refine T0 (Fp [] 2 c fun _ c=>Bd h fun x3 hx3 h=>Cb c (Y3 hx3) tt call107 fun _ _ _ c=>?_)
   replace c:=c.nf
   refine Ess 2 [I x3.Op,I x3.W,I x3.N,Str.val x3.Name,L0] c fun _ c=>?_
   refine Fp [] 1 c fun _ c=>E0 ?_
   cases h
   replace c:=c.nilf (α:=D.Term)
   exact wp_ret (br (tr (Rg c (none,0) [] [2] (.cell (α:=Agg 4) kk (.b 2) (.tmp .nil)))))
   refine S0 (S0 (Ry [(4,0)] mix c fun _ _ c=>I0 c h (fun h=>?_) fun h=>?_))
   refine K0 (I0 c h (fun h=>?_) fun h=>?_)
   refine T0 (Fp [(1,1)] 2 c fun _ c=>Eltr 79 [(tR p3 ga2 gc3)] [p3] c ⟨(Ava.mk_Term p3 (.f 1)),tt⟩ fun a1 c1 _ _ c=>?_)
   replace c:=c.nf
   replace c:=c.fzr 3 2
   refine Bd h fun x4 hx4 h=>Cg c (ih0 hx4) ⟨.f 3,tt⟩ call135 fun i1 _ _ c=>?_
   refine Ess 2 (tC x4 i1.1 i1.2) c fun _ c=>?_
   refine Fp [] 1 c fun _ c=>E0 ?_
   cases h
   exact wp_ret (br (tr (Rg c (i1.1,i1.2) [] [4] (.cell (α:=Agg 4) kk (.b 2) (.tmp .nil)))))
   refine K1 (bk (tn (T0 (Fp [] 1 c fun _ c=>Ess 2 tZ c fun _ c=>?_))))
   refine Fp [] 1 c fun _ c=>E0 ?_
   cases h
   replace c:=c.nilf (α:=D.Term)
   exact wp_ret (Rg c (none,0) [] [2] (.cell (α:=Agg 4) kk (.b 2) (.tmp .nil)))
   refine Ry [(4,0),(9,0)] mix c fun _ _ c=>?_
   refine I0 c h (fun h=>?_) fun h=>?_
   refine T0 (Fp [(1,1)] 2 c fun _ c=>Eltr 79 [(tR p3 ga2 gc3)] [p3] c ⟨(Ava.mk_Term p3 (.f 1)),tt⟩ fun a2 c2 _ _ c=>?_)
   replace c:=c.nf
   replace c:=c.fzr 3 2
   refine Bd h fun x5 hx5 h=>Cg c (ih0 hx5) ⟨.f 3,tt⟩ call135 fun i2 _ _ c=>?_
   refine Ess 2 (tC x5 i2.1 i2.2) c fun _ c=>?_
   refine Fp [] 1 c fun _ c=>E0 ?_
   cases h
   exact wp_ret (br (tr (Rg c (i2.1,i2.2) [] [4] (.cell (α:=Agg 4) kk (.b 2) (.tmp .nil)))))
   refine K1 (bk (tn (T0 (Fp [] 1 c fun _ c=>Ess 2 tZ c fun _ c=>?_))))
   refine Fp [] 1 c fun _ c=>E0 ?_
   cases h
   replace c:=c.nilf (α:=D.Term)
   exact wp_ret (Rg c (none,0) [] [2] (.cell (α:=Agg 4) kk (.b 2) (.tmp .nil)))
theorem Ze5 {n:Nat}:∀ {p0 ga0 gc1 r} (h:ZI n p0 = some r),Ct 95 [tV p0 ga0 gc1] [lR ga0 p0.Kids gc1] r:=(Z7 n).2.1
theorem ZcD {n:Nat}:∀ {p0 ga0 gc1 r} (h:ZA n p0 = some r),Ct 84 [tV p0 ga0 gc1] [lR ga0 p0.Kids gc1] r:=by
 induction n with
 | zero=>intro p0 ga0 gc1 r h; simp [ZA] at h
 | succ n ih=>
 intro p0 ga0 gc1 r h
 rw [ZA] at h
 refine En func84 rfl ntmps84 fun _ fr w c=>?_
 refine T0 (Ebx (tC p0 ga0 gc1) c fun b1 _ _ c=>?_)
 refine Eal tZ c fun b2 _ _ c=>?_
 refine E0 (S0 (P0 [(1,0)] c fun _ c=>I0 c h (fun h=>?_) fun h=>?_))
 refine T0 (Fp [(0,0)] 1 c fun _ c=>Ess 1 (tC p0 ga0 gc1) c fun _ c=>?_)
 refine E0 ?_
 obtain rfl:=sj h
 exact wp_ret (tr (Rg c (ga0,gc1) [] [0] (.cell (α:=Agg 4) kk (.b 1) .nil)))
 refine K0 (T0 (Fp [(0,0)] 1 c fun _ c=>Eal tZ c fun b3 _ _ c=>?_))
 refine Ess 2 (tC p0 ga0 gc1) c fun _ c=>?_
 refine E0 (T0 (Fp [(1,0)] 3 c fun _ c=>Bd h fun x1 hx1 h=>Emkr 79 (⟨0,0,0,⟨[]⟩,⟨none,0,0⟩⟩ : Rw.Term) (fun w F=>ZfO w F) c hx1 fun a1 c1 _ _ c=>?_))
 refine Fp [] 1 c fun _ c=>?_
 replace c:=c.ng
 refine Esb 2 4 (L a1 x1 c1) c fun _ c=>?_
 refine E0 (S0 (P0 [(1,0)] c fun _ c=>Bd h fun rl1 hit1 h=>Lp (fun s1  (i:List Rw.Term)=>([(1,B b1 0),(2,B b2 0),(3,B b3 0),(18,I (len p0.Kids)),(19,I s1.1)],fun Γ=>Γ.set 3 (sl79 (L a1 x1 c1) (i)),[CS (i) s1.2])) (fun  (i:List Rw.Term)=>([(2,B b2 0),(3,B b3 0)],fun Γ=>Γ.set 3 (sl79 (L a1 x1 c1) (i)),[CS (i) rl1])) hit1 c ((List.replicate (List.length x1) (⟨0,0,0,⟨[]⟩,⟨none,0,0⟩⟩ : Rw.Term))) (c.rk (rg 4) [0,1,1]) (fun s1 q1 i1 _ _ c h hr1=>?_) fun k1 _ _ c=>?_))
 refine P0 [] c fun _ c=>S0 (I0 c h (fun h=>?_) fun h=>?_)
 refine K0 (S0 (wp_block (P0 [] c fun _ c=>Bd h fun x2 hx2 h=>?_)))
 obtain ⟨ep1,u1,c⟩:=c.elp (.f 0) hx2
 obtain ⟨a2,c2,rfl,c⟩:=c.o_Term 4
 refine Bd h fun x3 hx3 h=>?_
 obtain ⟨ep2,he1⟩:=c.epo 3 2 hx3
 refine Bd h fun x4 hx4 h=>Bd h fun x5 hx5 h=>Tq (Jn (fun i:List Rw.Term=>([(1,B b1 0),(2,B b2 0),(3,B b3 0),(18,I (len p0.Kids)),(19,I s1.1)],fun Γ=>Γ.set 3 (sl79 (L a1 x1 c1) (i)),[CS (i) x5])) c ?_ fun rs2 _ _ c=>?_)
 refine As mix c fun _ c=>?_
 replace c:=Cx.frs [(1,B b1 0),(2,B b2 0),(3,B b3 0),(4,I s1.1),(18,I (len p0.Kids)),(19,I s1.1)] c
 refine Dq (fun i:List Rw.Term=>([(1,B b1 0),(2,B b2 0),(3,B b3 0),(18,I (len p0.Kids)),(19,I s1.1)],fun Γ=>Γ.set 3 (sl79 (L a1 x1 c1) (i)),[CS (i) x5])) (bN 11 2047) (fun i=>[]) c (fun rs1=>?_) fun hd2=>?_
 refine qnE tt fun _ _ c=>?_
 exact nN (rs1) (c.rk (rg 4) (rg 7))
 refine Dq (fun i:Oh=>([(1,B b1 0),(2,B b2 0),(3,B b3 0),(4,I s1.1),(18,I (len p0.Kids)),(19,I s1.1),(30,tV x4 i.1 i.2)],id,[lR i.1 x4.Kids i.2])) (bN 11 504) (fun i=>[(0,22,B b3 4),(1,23,L a1 x1 c1),(2,24,I s1.1),(9,31,.pointer (some ep2))]) c (fun i3=>?_) fun hd1=>?_
 obtain ⟨a3,c3⟩:=i3
 refine qn [10] ⟨qP [],qP [(0,2)],qP [],qIo he1,tt⟩ ⟨fun _ _ c=>?_,tt⟩
 refine Zc _ rfl rfl ?_
 refine Esetp (q:=(tR x4 a3 c3)) 3 2 c he1 ((Ava.mk_Term x4 (.f 6))) hx5 fun _ _ c=>?_
 refine E0 (nQ hd2 ((List.set i1 (s1.1).toNat (tR x4 a3 c3))) (c.rk (rg 4) [0,1,2,3,4,5,7]))
 refine q0 (qs:=[(0,22,B b3 4),(1,23,L a1 x1 c1),(2,24,I s1.1),(3,25,B b1 4),(4,26,L ga0 p0.Kids gc1),(5,27,I s1.1),(6,28,.pointer (some ep1)),(7,29,tV x2 a2 c2)]) c (qn [8] ⟨qP [],qP [(0,2)],qP [],qP [],qP [(0,0)],qP [],qI 3,qL 3,tt⟩ ⟨fun _ _ c=>?_,tt⟩)
 refine Zc _ rfl rfl ?_
 refine Cg c (ih hx4) ⟨.f 5,tt⟩ call84 fun i2 _ _ c=>?_
 refine E0 (nQ hd1 (i2.1,i2.2) (c.rk (rg 4) (rg 7)))
 refine bk (tn (P1 [] c fun _ c=>Nx h (rs2) (c.rk (rg 4) [0,1,6])))
 refine wp_exit (te (te (be ?_)))
 obtain rfl:=hr1 _ (sk h)
 exact tn ⟨(i1),c.rk (rg 4) [0,1,2]⟩
 refine T0 (Fp [(0,2)] 1 c fun _ c=>?_)
 obtain ⟨he2,c⟩:=c.relenr 3 2
 replace c:=c.eqs (v:=.agg #[I p0.Op,I p0.W,I p0.N,Str.val p0.Name,L a1 x1 c1]) (u:=.agg #[I p0.Op,I p0.W,I p0.N,Str.val p0.Name,L a1 rl1 c1]) 33 (by simp only [L,he2])
 replace c:=c.bxe (cs:=[I p0.Op,I p0.W,I p0.N,Str.val p0.Name,L a1 x1 c1]) (cs':=[I p0.Op,I p0.W,I p0.N,Str.val p0.Name,L a1 rl1 c1]) 2 (by simp only [L,he2])
 replace c:=c.fzr 3 2
 refine Bd h fun x6 hx6 h=>Cg c (Ze5 hx6) ⟨.f 3,tt⟩ call95 fun i4 _ _ c=>?_
 refine Ess 1 (tC x6 i4.1 i4.2) c fun _ c=>?_
 refine E0 ?_
 obtain rfl:=sj h
 exact wp_ret (Rg c (i4.1,i4.2) [] [4] (.cell (α:=Agg 4) kk (.b 1) .nil))
theorem ZaT {p0 p1 gu2 r} (h:Xw n p0 p1 = some r):Con prog 65 [L ga0 p0 gc1,gu2] [] [lR ga0 p0 gc1,MV map98 (gu2) p1] fun (i:Oh)=>([L i.1 r.1 i.2,.bool r.2],[],[lR i.1 r.1 i.2]):=by
 unfold Xw at h
 refine En func65 rfl ntmps65 fun _ fr w c=>?_
 refine P0 [] c fun _ c=>T0 (Fp [] 2 c fun _ c=>Bd h fun x1 hx1 h=>Emkr 79 (⟨0,0,0,⟨[]⟩,⟨none,0,0⟩⟩ : Rw.Term) (fun w F=>ZfO w F) c hx1 fun a1 c1 _ _ c=>?_)
 refine Fp [] 1 c fun _ c=>E0 (S0 (P0 [] c fun _ c=>Bd h fun rl1 hit1 h=>?_))
 have hk1:=h
 refine LpR (fun s1  (i:List Rw.Term)=>([(0,L ga0 p0 gc1),(1,gu2),(6,L a1 x1 c1),(13,I (len p0)),(14,I s1.1)],fun Γ=>Γ.set 0 (sl79 (L a1 x1 c1) (i)),[CS (i) s1.2])) (fun s  (i:List Rw.Term)=>([(6,L a1 x1 c1)],fun Γ=>Γ.set 0 (sl79 (L a1 x1 c1) (i)),[CS (i) s])) hit1 c ((List.replicate (List.length x1) (⟨0,0,0,⟨[]⟩,⟨none,0,0⟩⟩ : Rw.Term))) (c.rk [0] [0,1,2,2]) (fun s1 q1 i1 _ _ c h hr1=>?_) fun s1r k1 _ _ hrl c=>?_
 refine P0 [] c fun _ c=>S0 (I0 c h (fun h=>?_) fun h=>?_)
 refine K0 (S0 (wp_block (P0 [] c fun _ c=>T0 (Fp [] 2 c fun _ c=>Bd h fun x2 hx2 h=>Eem c (.f 0) hx2 fun _ u1 _ c=>?_))))
 obtain ⟨a2,c2,rfl,c⟩:=c.o_Term 4
 refine Fp [] 1 c fun _ c=>Bd h fun x3 hx3 h=>Cg c (ZcT hx3) ⟨.f 5,.f 1,tt⟩ call83 fun i2 _ _ c=>?_
 refine Eal tZ c fun b1 _ _ c=>?_
 refine Ess 1 (tC x3 i2.1 i2.2) c fun _ c=>?_
 refine E0 (S0 (T0 (Fp [(0,0)] 1 c fun _ c=>?_)))
 replace c:=c.nf
 refine Bd h fun x4 hx4 h=>Cb c (Zc0 hx4) ⟨.f 6,tt⟩ call81 fun _ _ _ c=>?_
 refine Fp [] 1 c fun _ c=>E0 (I0 c h (fun h=>?_) fun h=>?_)
 refine P0 [] c fun _ c=>?_
 obtain rfl:=hr1 _ (sk h)
 obtain rfl:=sj hk1
 replace c:=c.nilf (α:=D.Term)
 exact wp_ret (tr (br (tr (tr (br (tr (Rg c (none,0) [] [7] (.tmp (.tmp .nil)))))))))
 refine K0 (T1 (Fp [(2,0)] 3 c fun _ c=>Bd h fun x5 hx5 h=>Cg c (ZcD hx5) ⟨.f 6,tt⟩ call84 fun i3 _ _ c=>?_))
 refine Bd h fun x6 hx6 h=>Esetr (q:=(tR x5 i3.1 i3.2)) 0 3 c ((Ava.mk_Term x5 (.f 7))) hx6 fun _ _ _ c=>?_
 refine E1 (bk (tn (P1 [] c fun _ c=>Nx h ((List.set i1 (s1.1).toNat (tR x5 i3.1 i3.2))) (c.rk [0] [0,1,2,8]))))
 refine wp_exit (te (te (be ?_)))
 obtain rfl:=hr1 _ (sk h)
 exact tn ⟨_,(i1),rfl,c.rk [0] (rg 4)⟩
 subst hrl
 refine P0 [] c fun _ c=>?_
 obtain ⟨he1,c⟩:=c.relenr 0 3
 replace c:=c.eqs (v:=L a1 x1 c1) (u:=L a1 s1r c1) 4 (by simp only [L,he1])
 replace c:=c.fzr 0 3
 cases h
 exact wp_ret (Rg c (a1,c1) [] [4] (.tmp (.tmp .nil)))
theorem YH {p0 r} (h:ZE p0 = some r):Con prog 86 [L ga0 p0 gc1] [] [lR ga0 p0 gc1] fun (i:Ob (List Rw.Term))=>([L i.1 r i.2.1],[sl79 (L i.1 r i.2.1) (i.q2)],[CS i.q2 r]):=by
 unfold ZE at h
 refine En func86 rfl ntmps86 fun _ fr w c=>?_
 refine P0 [] c fun _ c=>S0 (T0 (Fp [] 1 c fun _ c=>Ebin (vx:=L ga0 p0 gc1) (vy:=.slice none 0 0) c (ZfA _ _ _ _ _ _ _ _ _ _) (nil_eq Tryz.underlying40 ga0 _ gc1 _) fun _ c=>?_))
 refine E0 (If c (b:=(Option.isNone ga0)) (fun hb=>?_) fun hb=>?_)
 obtain ⟨_,hn⟩:=c.use (.f 0)
 replace h:=ZhT (ZjL hn (Zmc.1 hb)) h
 refine P0 [] c fun _ c=>?_
 replace c:=(c.nil (α:=Rw.Term) 79).csn (ρ:=Rw.Term) (α:=D.Term)
 cases h
 exact wp_ret (tr (Rt c (none,0,([]:List Rw.Term)) [0] [1]))
 refine K0 (T0 (Eltr 79 ([]:List Rw.Term) ([]:List D.Term) c tt fun a1 c1 _ _ c=>?_))
 refine Fp [] 1 c fun _ c=>Bd h fun x1 hx1 h=>Eapr 0 1 c (.f 0) hx1 fun rm1 a2 c2 _ _ c=>?_
 refine Fp [] 1 c fun _ c=>E0 ?_
 obtain rfl:=sj h
 exact wp_ret (Rt c (a2,c2,(([]:List Rw.Term) ++ rm1)) [0] [2])
theorem YQ {p0 r} (h:ZP p0 = some r):Con prog 85 [L ga0 p0 gc1] [] [lR ga0 p0 gc1] fun (i:Option Addr)=>([L i r (List.length r)],[],[RO (L i r (List.length r)) r]):=by
 unfold ZP at h
 refine En func85 rfl ntmps85 fun _ fr w c=>?_
 refine P0 [] c fun _ c=>T0 (Fp [] 5 c fun _ c=>Ecl 79 c (.f 0) fun _ c=>?_)
 refine Fp [] 1 c fun _ c=>E0 ?_
 obtain rfl:=sj h
 exact wp_ret (Rt c (ga0) [] [1])
theorem ZfJ {p0 p1 r} (h:ZaX p0 p1 = some r):Cl 67 [L ga0 p0 gc1,tV p1 ga2 gc3] [lR ga0 p0 gc1,lR ga2 p1.Kids gc3] r:=by
 unfold ZaX at h
 refine En func67 rfl ntmps67 fun _ fr w c=>?_
 refine T0 (Ebx (tC p1 ga2 gc3) c fun b1 _ _ c=>?_)
 refine Fp [] 1 c fun _ c=>E0 (Bd h fun x1 hx1 h=>Bd h fun x2 hx2 h=>Bd h fun x3 hx3 h=>S0 (Jn (fun i:Ob (List Rw.Term)=>([(4,L i.1 x3 i.2.1)],fun Γ=>Γ ++ [sl79 (L i.1 x3 i.2.1) (i.q2)],[CS (i.q2) x3])) c ?_ fun i10 _ _ c=>?_))
 refine As mix c fun _ c=>?_
 replace c:=Cx.frs [(0,L ga0 p0 gc1),(3,B b1 0)] c
 refine Dq (fun i:Ob (List Rw.Term)=>([(10,L i.1 x3 i.2.1)],fun Γ=>Γ ++ [sl79 (L i.1 x3 i.2.1) (i.q2)],[CS (i.q2) x3])) (bN 7 63) (fun i=>[(6,4,L i.1 x3 i.2.1)]) c (fun i9=>?_) fun hd6=>?_
 obtain ⟨a12,c10,rs7⟩:=i9
 refine qnE ⟨qP [],tt⟩ fun _ _ c=>?_
 exact nN (a12,c10,rs7) (c.rk [0,1] [0,1,2])
 refine Dq (fun i:Option Addr × Ob (List Rw.Term)=>([(7,L i.1 x2 (List.length x2)),(9,L i.2.1 [p1] i.p2)],fun Γ=>Γ ++ [sl79 (L i.2.1 [p1] i.p2) (i.q3)],[RO (L i.1 x2 (List.length x2)) x2,CS (i.q3) [p1]])) (bN 7 31) (fun i=>[]) c (fun i7=>?_) fun hd5=>?_
 obtain ⟨a9,a10,c8,rs5⟩:=i7
 refine qn [5] tt ⟨fun _ _ c=>?_,tt⟩
 refine Zc _ rfl rfl ?_
 replace c:=c.fzr 1 3
 refine Eapf (ρ:=Rw.Term) 79 c (.f 2) (.f 4) hx3 fun rs6 a11 c9 _ _ c=>?_
 refine E0 (nQ hd6 (a11,c9,rs6) (c.rk [0,1] [0,1,5]))
 refine Dq (fun i:Option Addr=>([(3,B b1 0),(7,L i x2 (List.length x2))],id,[RO (L i x2 (List.length x2)) x2])) (bN 7 7) (fun i=>[(3,8,tV p1 ga2 gc3)]) c (fun a4=>?_) fun hd3=>?_
 refine qn [4] ⟨qP [(0,0)],tt⟩ ⟨fun _ _ c=>?_,tt⟩
 refine Zc _ rfl rfl ?_
 refine Eltr 79 [(tR p1 ga2 gc3)] [p1] c ⟨(Ava.mk_Term p1 (.f 1)),tt⟩ fun a8 c7 _ _ c=>?_
 refine E0 (nQ hd5 (a4,a8,c7,[(tR p1 ga2 gc3)]) (c.rk [0,1] (rg 4)))
 refine Dq (fun i:Ob (List Rw.Term × Ob (List Rw.Term))=>([(6,L i.1 x1 i.2.1),(9,L i.p3 [p1] i.p4)],fun Γ=>Γ ++ [sl79 (L i.1 x1 i.2.1) (i.p2),sl79 (L i.p3 [p1] i.p4) (i.q5)],[CS (i.p2) x1,CS (i.q5) [p1]])) (bN 7 27) (fun i=>[]) c (fun i5=>?_) fun hd4=>?_
 obtain ⟨a6,c5,rs3,a7,c6,rs4⟩:=i5
 refine qn [2] tt ⟨fun _ _ c=>?_,tt⟩
 refine Zc _ rfl rfl ?_
 replace c:=c.fzr 1 2
 refine Cg c (YQ hx2) ⟨.f 4,tt⟩ call85 fun i8 _ _ c=>?_
 refine E0 (nQ hd5 (i8,a7,c6,rs4) (c.rk [0,1] [0,1,5,3]))
 refine Dq (fun i:Ob (List Rw.Term)=>([(3,B b1 0),(6,L i.1 x1 i.2.1)],fun Γ=>Γ ++ [sl79 (L i.1 x1 i.2.1) (i.q2)],[CS (i.q2) x1])) (bN 7 3) (fun i=>[(3,8,tV p1 ga2 gc3)]) c (fun i2=>?_) fun hd1=>?_
 obtain ⟨a1,c1,rs1⟩:=i2
 refine qn [2,4] ⟨qP [(0,0)],tt⟩ ⟨fun _ _ c=>?_,fun _ _ c=>?_,tt⟩
 refine Zc _ rfl rfl ?_
 replace c:=c.fzr 1 2
 refine Cg c (YQ hx2) ⟨.f 3,tt⟩ call85 fun i4 _ _ c=>?_
 refine E0 (nQ hd3 (i4) (c.rk [0] [0,1,4]))
 refine Zc _ rfl rfl ?_
 refine Eltr 79 [(tR p1 ga2 gc3)] [p1] c ⟨(Ava.mk_Term p1 (.f 1)),tt⟩ fun a5 c4 _ _ c=>?_
 refine E0 (nQ hd4 (a1,c1,rs1,a5,c4,[(tR p1 ga2 gc3)]) (c.rk [0,1,2] (rg 4)))
 refine Dq (fun i:Ob (List Rw.Term)=>([(0,L ga0 p0 gc1),(9,L i.1 [p1] i.2.1)],fun Γ=>Γ ++ [sl79 (L i.1 [p1] i.2.1) (i.q2)],[CS (i.q2) [p1]])) (bN 7 24) (fun i=>[(0,5,L ga0 p0 gc1)]) c (fun i3=>?_) fun hd2=>?_
 obtain ⟨a3,c3,rs2⟩:=i3
 refine qn [1] ⟨qP [],tt⟩ ⟨fun _ _ c=>?_,tt⟩
 refine Zc _ rfl rfl ?_
 refine Cg c (YH hx1) ⟨.f 0,tt⟩ call86 fun i6 _ _ c=>?_
 refine E0 (nQ hd4 (i6.1,i6.2.1,i6.q2,a3,c3,rs2) (c.rk [0,2,1] [0,1,3,2]))
 refine q0 (qs:=[(0,5,L ga0 p0 gc1),(3,8,tV p1 ga2 gc3)]) c (qn [1,4] ⟨qP [],qP [(0,0)],tt⟩ ⟨fun _ _ c=>?_,fun _ _ c=>?_,tt⟩)
 refine Zc _ rfl rfl ?_
 refine Cg c (YH hx1) ⟨.f 0,tt⟩ call86 fun i1 _ _ c=>?_
 refine E0 (nQ hd1 (i1.1,i1.2.1,i1.q2) (c.rk [0,1] [0,1,2]))
 refine Zc _ rfl rfl ?_
 refine Eltr 79 [(tR p1 ga2 gc3)] [p1] c ⟨(Ava.mk_Term p1 (.f 1)),tt⟩ fun a2 c2 _ _ c=>?_
 refine E0 (nQ hd2 (a2,c2,[(tR p1 ga2 gc3)]) (c.rk [0,1] [0,1,2]))
 obtain ⟨a13,c11,rs8⟩:=i10
 replace c:=c.fzr 1 2
 obtain rfl:=sj h
 exact wp_ret (Rt c (a13,c11) [] [3])
theorem Xd {p0 r} (h:ZK p0 = some r):Con prog 70 [L ga0 p0 gc1] [] [lR ga0 p0 gc1] fun (i:Oh)=>([L i.1 r i.2],[sl3 (L i.1 r i.2) r],[]):=by
 unfold ZK at h
 refine En func70 rfl ntmps70 fun _ fr w c=>?_
 refine P0 [] c fun _ c=>S0 (T0 (Fp [] 1 c fun _ c=>Ebin (vx:=L ga0 p0 gc1) (vy:=.slice none 0 0) c (ZfA _ _ _ _ _ _ _ _ _ _) (nil_eq Tryz.underlying26 ga0 _ gc1 _) fun _ c=>?_))
 refine E0 (If c (b:=(Option.isNone ga0)) (fun hb=>?_) fun hb=>?_)
 obtain ⟨_,hn⟩:=c.use (.f 0)
 replace h:=ZhT (ZjL hn (Zmc.1 hb)) h
 refine P0 [] c fun _ c=>?_
 replace c:=c.nil (α:=Int) 3
 cases h
 exact wp_ret (tr (Rt c (none,0) [0] []))
 refine K0 (T0 (Elt 3 ([]:List Int) c fun a1 c1 _ _ c=>?_))
 refine Fp [] 1 c fun _ c=>Bd h fun x1 hx1 h=>Eap 0 c (.f 0) hx1 fun a2 c2 _ _ c=>?_
 refine Fp [] 1 c fun _ c=>E0 ?_
 obtain rfl:=sj h
 exact wp_ret (Rt c (a2,c2) [0] [])
theorem Zds {p0 p1 r} (h:ZaC p0 p1 = some r):Con prog 68 [L ga0 p0 gc1,I p1] [] [lR ga0 p0 gc1] fun (i:Oh)=>([L i.1 r i.2],[sl3 (L i.1 r i.2) r],[]):=by
 unfold ZaC at h
 refine En func68 rfl ntmps68 fun _ fr w c=>?_
 refine P0 [] c fun _ c=>T0 (Fp [] 1 c fun _ c=>Bd h fun x1 hx1 h=>Cb c (Xd hx1) ⟨.f 0,tt⟩ call70 fun i1 _ _ c=>?_)
 refine Fp [] 1 c fun _ c=>Elt 3 ([p1]:List Int) c fun a1 c1 _ _ c=>?_
 refine Bd h fun x2 hx2 h=>Eap 0 c (.g 1) hx2 fun a2 c2 _ _ c=>?_
 refine Fp [] 1 c fun _ c=>E0 ?_
 obtain rfl:=sj h
 exact wp_ret (Rt c (a2,c2) [0] [])
theorem Zfm {p0 p1 p2 r} (h:ZaQ n p0 p1 p2 = some r):Con prog 48 [gV p0 ga0 gc1,pV p1 ga2 gc3 ga4 gc5 ga6 gc7 ga8 gc9 ga10 gc11 ga12 gc13,pV p2 ga14 gc15 ga16 gc17 ga18 gc19 ga20 gc21 ga22 gc23 ga24 gc25] [] [lR ga0 p0.Code gc1,lR ga2 p1.Regs gc3,lR ga4 p1.Mem gc5,lR ga6 p1.Stack gc7,lR ga8 p1.Out gc9,lR ga10 p1.Cond gc11,lR ga12 p1.Turns gc13,lR ga14 p2.Regs gc15,lR ga16 p2.Mem gc17,lR ga18 p2.Stack gc19,lR ga20 p2.Out gc21,lR ga22 p2.Cond gc23,lR ga24 p2.Turns gc25,TBf prog] fun (i:Hp)=>([pJ r.1 i,.bool r.2.1,.bool r.2.2],[],(pF r.1 i)):=by
 unfold ZaQ at h
 refine En func48 rfl ntmps48 fun _ fr w c=>?_
 refine T0 (Ebx (gC p0 ga0 gc1) c fun b1 _ _ c=>?_)
 refine Ebx (pC p1 ga2 gc3 ga4 gc5 ga6 gc7 ga8 gc9 ga10 gc11 ga12 gc13) c fun b2 _ _ c=>?_
 refine Ebx (pC p2 ga14 gc15 ga16 gc17 ga18 gc19 ga20 gc21 ga22 gc23 ga24 gc25) c fun b3 _ _ c=>?_
 refine Eal pZ c fun b4 _ _ c=>?_
 refine Fp [] 2 c fun _ c=>E0 (T0 (Emm map98 c fun b5 _ _ c=>?_))
 replace c:=c.cmn Str Rw.Term D.Term
 refine Fp [] 1 c fun _ c=>E0 (S0 (P0 [(1,1)] c fun _ c=>Bd h fun rl1 hit1 h=>Lp (fun s1  (i:List (Str × Rw.Term))=>([(4,B b2 0),(5,B b3 0),(6,B b4 0),(9,.map (some b5)),(23,I (len p1.Regs)),(24,I s1.1)],fun Γ=>Γ.set 4 (MP map98 b5 (i)),[CMF (i) s1.2])) (fun  (i:List (Str × Rw.Term))=>([(4,B b2 0),(5,B b3 0),(6,B b4 0),(9,.map (some b5))],fun Γ=>Γ.set 4 (MP map98 b5 (i)),[CMF (i) rl1])) hit1 c (([]:List (Str × Rw.Term))) (c.rk (rg 5) [0,1,2,3,4,5,6,7,8,9,10,11,12,13,14,14]) (fun s1 q1 i1 _ _ c h hr1=>?_) fun k1 _ _ c=>?_))
 refine P0 [] c fun _ c=>S0 (I0 c h (fun h=>?_) fun h=>?_)
 refine K0 (S0 (wp_block (P0 [] c fun _ c=>Bd h fun x1 hx1 h=>Bd h fun x2 hx2 h=>Bd h fun x3 hx3 h=>?_)))
 obtain ⟨ep1,u1,c⟩:=c.elp (.f 1) hx3
 obtain ⟨a1,c1,rfl,c⟩:=c.o_Term 17
 refine Zav mix (rM 9 [(2,.eq (Str.val x1)),(3,.eq (Str.val x2)),(7,.eq (.pointer (some ep1))),(8,.eq (tV x3 a1 c1))] [(5,1)] c (fun ow=>⟨Yc ow (Ncl c (kN (ZbD hx1)) ⟨.f 13,tt⟩ call64),Yc ow (Ncat c (kN hx2)),Yc ow (Nie c 16),Yc ow (Nle c 16),tt⟩) fun _ _ _ _ _ c=>?_)
 replace c:=c.nf
 refine Bd h fun x4 hx4 h=>Emr (r:=(tR x3 a1 c1)) 4 15 c ((Ava.mk_Term x3 (.f 18))) hx4 fun _ c=>?_
 refine E1 (bk (tn (P1 [] c fun _ c=>Nx h (((x2,(tR x3 a1 c1)) :: i1)) (c.rk (rg 5) [0,1,2,3,4,5,6,7,8,9,10,11,12,13,14,19]))))
 refine wp_exit (te (te (be ?_)))
 obtain rfl:=hr1 _ (sk h)
 exact tn ⟨(i1),c.rk (rg 5) (rg 16)⟩
 refine S0 (P0 [(1,1)] c fun _ c=>Bd h fun rl2 hit2 h=>Lp (fun s2  (i:List (Str × Rw.Term))=>([(4,B b2 0),(5,B b3 0),(6,B b4 0),(9,.map (some b5)),(39,I (len p1.Mem)),(40,I s2.1)],fun Γ=>Γ.set 4 (MP map98 b5 (i)),[CMF (i) s2.2])) (fun  (i:List (Str × Rw.Term))=>([(4,B b2 0),(5,B b3 0),(6,B b4 0),(9,.map (some b5))],fun Γ=>Γ.set 4 (MP map98 b5 (i)),[CMF (i) rl2])) hit2 c (k1) (c.rk (rg 5) [0,1,2,3,4,5,6,7,8,9,10,11,12,13,14,15,15]) (fun s2 q2 i2 _ _ c h hr2=>?_) fun k2 _ _ c=>?_)
 refine P0 [] c fun _ c=>S0 (I0 c h (fun h=>?_) fun h=>?_)
 refine K0 (S0 (wp_block (P0 [] c fun _ c=>Bd h fun x5 hx5 h=>Bd h fun x6 hx6 h=>Bd h fun x7 hx7 h=>?_)))
 obtain ⟨ep2,u2,c⟩:=c.elp (.f 2) hx7
 obtain ⟨a2,c2,rfl,c⟩:=c.o_Term 18
 refine Zav mix (rM 9 [(2,.eq (Str.val x5)),(3,.eq (Str.val x6)),(7,.eq (.pointer (some ep2))),(8,.eq (tV x7 a2 c2))] [(5,1)] c (fun ow=>⟨Yc ow (Ncl c (kN (ZbD hx5)) ⟨.f 13,tt⟩ call64),Yc ow (Ncat c (kN hx6)),Yc ow (Nie c 17),Yc ow (Nle c 17),tt⟩) fun _ _ _ _ _ c=>?_)
 replace c:=c.nf
 refine Bd h fun x8 hx8 h=>Emr (r:=(tR x7 a2 c2)) 4 16 c ((Ava.mk_Term x7 (.f 19))) hx8 fun _ c=>?_
 refine E1 (bk (tn (P1 [] c fun _ c=>Nx h (((x6,(tR x7 a2 c2)) :: i2)) (c.rk (rg 5) [0,1,2,3,4,5,6,7,8,9,10,11,12,13,14,15,20]))))
 refine wp_exit (te (te (be ?_)))
 obtain rfl:=hr2 _ (sk h)
 exact tn ⟨(i2),c.rk (rg 5) (rg 17)⟩
 refine T0 (Fp [(1,2)] 3 c fun _ c=>?_)
 replace c:=c.nf
 replace c:=c.fzm 4 16
 refine Bd h fun x9 hx9 h=>Cg c (ZaT hx9) ⟨.f 11,.f 17,tt⟩ call65 fun i3 _ _ c=>?_
 refine Fp [] 5 c fun _ c=>E0 (T0 (Fp [(1,2)] 3 c fun _ c=>Bd h fun x10 hx10 h=>Cg c (ZaT hx10) ⟨.f 7,.f 17,tt⟩ call65 fun i4 _ _ c=>?_))
 refine Fp [] 5 c fun _ c=>E0 (T0 (Fp [(1,2)] 3 c fun _ c=>Bd h fun x11 hx11 h=>Cg c (ZaT hx11) ⟨.f 8,.f 17,tt⟩ call65 fun i5 _ _ c=>?_))
 refine Fp [] 5 c fun _ c=>E0 (S0 (S0 (Ry [] mix c fun _ _ c=>I0 c h (fun h=>?_) fun h=>?_)))
 refine T0 (Fp [] 1 c fun _ c=>Ess 3 pZ c fun _ c=>?_)
 refine Fp [] 2 c fun _ c=>E0 ?_
 cases h
 replace c:=c.nilf (α:=D.Term)
 replace c:=c.nilf (α:=D.Term)
 replace c:=c.nilf (α:=Int)
 replace c:=c.nilf (α:=D.Term)
 replace c:=c.nilf (α:=D.Term)
 replace c:=c.nilf (α:=Int)
 replace c:=c.ng
 exact wp_ret (tr (Rg c (none,0,none,0,none,0,none,0,none,0,none,0) [] [21,22,23,24,25,26] (.cell (α:=Agg 9) kk (.b 3) (.tmp (.tmp .nil)))))
 refine K0 (T0 (Fp [(1,1),(6,1),(8,1),(10,1)] 12 c fun _ c=>Ess 3 [I (w64 (p1.Pc + 1)),L i4.1 x10.1 i4.2,L i5.1 x11.1 i5.2,L ga6 p1.Stack gc7,I p1.In,L ga8 p1.Out gc9,I 0,I 0,L0,L none ([]:List Int) 0] c fun _ c=>?_))
 refine E0 (S0 (Jn (fun _:Unit=>([(4,B b2 0),(5,B b3 0),(6,B b4 0),(12,L i3.1 x9.1 i3.2)],fun Γ=>Γ.set 3 (BX b4 42 [I (w64 (p1.Pc + 1)),L i4.1 x10.1 i4.2,L i5.1 x11.1 i5.2,L ga6 p1.Stack gc7,I p1.In,L ga8 p1.Out gc9,I 0,I 0,L ga10 p1.Cond gc11,L ga12 p1.Turns gc13]),[])) c ?_ fun _ _ _ c=>?_))
 refine As mix c fun _ c=>?_
 replace c:=Cx.frs [(4,B b2 0),(5,B b3 0),(6,B b4 0),(12,L i3.1 x9.1 i3.2)] c
 refine Dq (fun _:Unit=>([(4,B b2 0),(5,B b3 0),(6,B b4 0),(12,L i3.1 x9.1 i3.2)],fun Γ=>Γ.set 3 (BX b4 42 [I (w64 (p1.Pc + 1)),L i4.1 x10.1 i4.2,L i5.1 x11.1 i5.2,L ga6 p1.Stack gc7,I p1.In,L ga8 p1.Out gc9,I 0,I 0,L ga10 p1.Cond gc11,L ga12 p1.Turns gc13]),[])) (bN 8 255) (fun _=>[]) c (fun _=>?_) fun hd2=>?_
 refine qnE tt fun _ _ c=>?_
 exact nN () (c.rk (rg 4) (rg 21))
 refine Dq (fun _:Unit=>([(4,B b2 0),(5,B b3 0),(6,B b4 0),(12,L i3.1 x9.1 i3.2)],fun Γ=>Γ.set 3 (BX b4 42 [I (w64 (p1.Pc + 1)),L i4.1 x10.1 i4.2,L i5.1 x11.1 i5.2,L ga6 p1.Stack gc7,I p1.In,L ga8 p1.Out gc9,I 0,I 0,L ga10 p1.Cond gc11,L none ([]:List Int) 0]),[])) (bN 8 51) (fun _=>[(2,99,B b2 9),(3,100,L ga12 p1.Turns gc13),(6,102,B b4 9)]) c (fun _=>?_) fun hd1=>?_
 refine qn [7] ⟨qP [],qP [(0,1)],qP [],tt⟩ ⟨fun _ _ c=>?_,tt⟩
 refine Zc _ rfl rfl ?_
 try simp only [l3,l4,l5,l6] at c
 refine Esb 3 9 (L ga12 p1.Turns gc13) c fun _ c=>?_
 refine E0 (nQ hd2 () (c.rk (rg 4) (rg 21)))
 refine q0 (qs:=[(0,97,B b2 8),(1,98,L ga10 p1.Cond gc11),(2,99,B b2 9),(3,100,L ga12 p1.Turns gc13),(4,101,B b4 8)]) c (qn [5] ⟨qP [],qP [(0,1)],qP [],qP [(0,1)],qP [],tt⟩ ⟨fun _ _ c=>?_,tt⟩)
 refine Zc _ rfl rfl ?_
 try simp only [l3,l4,l5,l6] at c
 refine Esb 3 8 (L ga10 p1.Cond gc11) c fun _ c=>?_
 refine E0 (nQ hd1 () (c.rk (rg 4) (rg 21)))
 refine S0 (P0 [] c fun _ c=>Bd h fun rl3 hit3 h=>?_)
 have hk3:=h
 refine LpR (fun s3  (i:Ob Oh)=>([(4,B b2 0),(5,B b3 0),(6,B b4 0),(103,L i3.1 x9.1 i3.2),(104,I (len x9.1)),(105,I s3.1)],fun Γ=>Γ.set 3 (BX b4 42 [I (w64 (p1.Pc + 1)),L i4.1 x10.1 i4.2,L i5.1 x11.1 i5.2,L ga6 p1.Stack gc7,I p1.In,L ga8 p1.Out gc9,I 0,I 0,L i.1 s3.2.1 i.2.1,L i.p2 s3.q2 i.q3]),[lR i.1 s3.2.1 i.2.1,lR i.p2 s3.q2 i.q3])) (fun s  (i:Ob Oh)=>([(4,B b2 0),(5,B b3 0),(6,B b4 0)],fun Γ=>Γ.set 3 (BX b4 42 [I (w64 (p1.Pc + 1)),L i4.1 x10.1 i4.2,L i5.1 x11.1 i5.2,L ga6 p1.Stack gc7,I p1.In,L ga8 p1.Out gc9,I 0,I 0,L i.1 s.1 i.2.1,L i.p2 s.2 i.q3]),[lR i.1 s.1 i.2.1,lR i.p2 s.2 i.q3])) hit3 c (ga10,gc11,ga12,gc13) (c.rk (rg 4) [0,1,2,3,4,5,6,7,8,9,10,11,12,13,14,15,16,17,18,19,20,5,6]) (fun s3 q3 i6 _ _ c h hr3=>?_) fun s3r k3 _ _ hrl c=>?_
 refine P0 [] c fun _ c=>S0 (I0 c h (fun h=>?_) fun h=>?_)
 refine K0 (S0 (wp_block (T0 (Fp [] 1 c fun _ c=>Bd h fun x12 hx12 h=>Eem c (.f 18) hx12 fun _ u3 _ c=>?_))))
 obtain ⟨a3,c3,rfl,c⟩:=c.o_Term 23
 refine Eal tZ c fun b6 _ _ c=>?_
 refine Fp [] 1 c fun _ c=>Ess 4 (tC x12 a3 c3) c fun _ c=>?_
 refine E0 (S0 (T0 (Fp [(0,4)] 1 c fun _ c=>Bd h fun x13 hx13 h=>Cb c (Y8 hx13) ⟨.f 24,tt⟩ call66 fun _ _ _ c=>?_)))
 refine E0 (I0 c h (fun h=>?_) fun h=>?_)
 refine T0 (Fp [] 1 c fun _ c=>Ess 3 pZ c fun _ c=>?_)
 refine Fp [] 2 c fun _ c=>E0 ?_
 obtain rfl:=hr3 _ (sk h)
 obtain rfl:=sj hk3
 replace c:=c.nilf (α:=D.Term)
 replace c:=c.nilf (α:=D.Term)
 replace c:=c.nilf (α:=Int)
 replace c:=c.nilf (α:=D.Term)
 replace c:=c.nilf (α:=D.Term)
 replace c:=c.nilf (α:=Int)
 replace c:=c.ng
 exact wp_ret (tr (br (tr (tr (br (tr (Rg c (none,0,none,0,none,0,none,0,none,0,none,0) [] [25,26,27,28,29,30] (.cell (α:=Agg 9) kk (.b 3) (.tmp (.tmp .nil))))))))))
 refine K0 (T0 (Fp [(0,4)] 1 c fun _ c=>Bd h fun x14 hx14 h=>Cb c (Y8 hx14) ⟨.f 24,tt⟩ call66 fun _ _ _ c=>?_))
 refine Fp [] 1 c fun _ c=>E0 (I0 c h (fun h=>?_) fun h=>?_)
 refine T0 (Fp [(1,3),(2,4)] 3 c fun _ c=>?_)
 replace c:=c.nf
 refine Bd h fun x15 hx15 h=>Cg c (ZfJ hx15) ⟨.f 21,.f 24,tt⟩ call67 fun i7 _ _ c=>?_
 refine Fp [] 1 c fun _ c=>Esb 3 8 (L i7.1 x15 i7.2) c fun _ c=>?_
 refine E0 (Bd h fun x16 hx16 h=>Zav mix (rM 7 [(5,Pd.el (x16:Int)),(6,.eq (I x16))] [(1,3),(3,2)] c (fun ow=>⟨Yc ow (Nid c (.f 12) (kN hx16)),Yc ow (Nld c 5 (q:=x16) (atM 5 (p:=.el (x16:Int)))),tt⟩) fun _ _ _ _ _ c=>?_))
 refine Bd h fun x17 hx17 h=>Cb c (Zds hx17) ⟨.f 22,tt⟩ call68 fun i8 _ _ c=>?_
 refine Fp [] 1 c fun _ c=>?_
 replace c:=c.ng
 refine Esb 3 9 (L i8.1 x17 i8.2) c fun _ c=>?_
 refine E1 (bk (tn (P1 [] c fun _ c=>?_)))
 replace c:=c.fz 5
 exact Nx h (i7.1,i7.2,i8.1,i8.2) (c.rk (rg 4) [0,1,2,3,4,5,6,7,8,9,10,11,12,13,14,15,16,17,18,19,20,25,26])
 refine K1 (bk (tn (P1 [] c fun _ c=>Nx h (i6.1,i6.2.1,i6.p2,i6.q3) (c.rk (rg 4) (rg 23)))))
 refine wp_exit (te (te (be ?_)))
 obtain rfl:=hr3 _ (sk h)
 exact tn ⟨_,(i6.1,i6.2.1,i6.p2,i6.q3),rfl,c.rk (rg 4) (rg 23)⟩
 subst hrl
 try simp only [l3,l4,l5,l6] at c
 refine T0 (Fp [(1,1),(3,2)] 7 c fun _ c=>Esb 3 7 (I (w64 ((w64 (p1.Steps + p2.Steps)) + 2))) c fun _ c=>?_)
 refine E0 (S0 (P0 [(1,2)] c fun _ c=>I0 c h (fun h=>?_) fun h=>?_))
 refine S0 (Jn (fun _:Unit=>([(4,B b2 0),(5,B b3 0),(6,B b4 0)],fun Γ=>Γ.set 3 (BX b4 42 [I p2.Pc,L i4.1 x10.1 i4.2,L i5.1 x11.1 i5.2,L ga6 p1.Stack gc7,I p1.In,L ga8 p1.Out gc9,I p2.Code,I (w64 ((w64 (p1.Steps + p2.Steps)) + 2)),L k3.1 s3r.1 k3.2.1,L k3.p2 s3r.2 k3.q3]),[])) c ?_ fun _ _ _ c=>?_)
 refine As mix c fun _ c=>?_
 replace c:=Cx.frs [(4,B b2 0),(5,B b3 0),(6,B b4 0)] c
 refine Dq (fun _:Unit=>([(4,B b2 0),(5,B b3 0),(6,B b4 0)],fun Γ=>Γ.set 3 (BX b4 42 [I p2.Pc,L i4.1 x10.1 i4.2,L i5.1 x11.1 i5.2,L ga6 p1.Stack gc7,I p1.In,L ga8 p1.Out gc9,I p2.Code,I (w64 ((w64 (p1.Steps + p2.Steps)) + 2)),L k3.1 s3r.1 k3.2.1,L k3.p2 s3r.2 k3.q3]),[])) (bN 8 255) (fun _=>[]) c (fun _=>?_) fun hd4=>?_
 refine qnE tt fun _ _ c=>?_
 exact nN () (c.rk (rg 4) (rg 23))
 refine Dq (fun _:Unit=>([(4,B b2 0),(5,B b3 0),(6,B b4 0)],fun Γ=>Γ.set 3 (BX b4 42 [I p2.Pc,L i4.1 x10.1 i4.2,L i5.1 x11.1 i5.2,L ga6 p1.Stack gc7,I p1.In,L ga8 p1.Out gc9,I 0,I (w64 ((w64 (p1.Steps + p2.Steps)) + 2)),L k3.1 s3r.1 k3.2.1,L k3.p2 s3r.2 k3.q3]),[])) (bN 8 51) (fun _=>[(2,143,B b3 6),(3,144,I p2.Code),(6,146,B b4 6)]) c (fun _=>?_) fun hd3=>?_
 refine qn [7] ⟨qP [],qP [(0,2)],qP [],tt⟩ ⟨fun _ _ c=>?_,tt⟩
 refine Zc _ rfl rfl ?_
 try simp only [l3,l4,l5,l6] at c
 refine Esb 3 6 (I p2.Code) c fun _ c=>?_
 refine E0 (nQ hd4 () (c.rk (rg 4) (rg 23)))
 refine q0 (qs:=[(0,141,B b3 0),(1,142,I p2.Pc),(2,143,B b3 6),(3,144,I p2.Code),(4,145,B b4 0)]) c (qn [5] ⟨qP [],qP [(0,2)],qP [],qP [(0,2)],qP [],tt⟩ ⟨fun _ _ c=>?_,tt⟩)
 refine Zc _ rfl rfl ?_
 try simp only [l3,l4,l5,l6] at c
 refine Esb 3 0 (I p2.Pc) c fun _ c=>?_
 refine E0 (nQ hd3 () (c.rk (rg 4) (rg 23)))
 refine T0 (Fp [(1,1),(3,1)] 5 c fun _ c=>Bd h fun x18 hx18 h=>Cb c (Zds hx18) ⟨.f 3,tt⟩ call68 fun i9 _ _ c=>?_)
 refine Fp [] 1 c fun _ c=>Esb 3 3 (L i9.1 x18 i9.2) c fun _ c=>?_
 refine E0 (T1 (Fp [(1,1),(3,2)] 7 c fun _ c=>Esb 3 7 (I (w64 ((w64 (p1.Steps + p2.Steps)) + 1))) c fun _ c=>?_))
 refine E0 (T0 (Fp [(0,3)] 1 c fun _ c=>Ess 3 [I p2.Pc,L i4.1 x10.1 i4.2,L i5.1 x11.1 i5.2,L i9.1 x18 i9.2,I p1.In,L ga8 p1.Out gc9,I p2.Code,I (w64 ((w64 (p1.Steps + p2.Steps)) + 1)),L k3.1 s3r.1 k3.2.1,L k3.p2 s3r.2 k3.q3] c fun _ c=>?_))
 refine Fp [] 2 c fun _ c=>E0 ?_
 replace c:=c.fz 4
 cases h
 exact wp_ret (Rg c (i4.1,i4.2,i5.1,i5.2,i9.1,i9.2,ga8,gc9,k3.1,k3.2.1,k3.p2,k3.q3) [] [19,20,23,4,21,22] (.cell (α:=Agg 9) kk (.b 3) (.tmp (.tmp .nil))))
 refine K0 (T0 (Fp [(0,3)] 1 c fun _ c=>Ess 3 [I (w64 (p1.Pc + 1)),L i4.1 x10.1 i4.2,L i5.1 x11.1 i5.2,L ga6 p1.Stack gc7,I p1.In,L ga8 p1.Out gc9,I 0,I (w64 ((w64 (p1.Steps + p2.Steps)) + 2)),L k3.1 s3r.1 k3.2.1,L k3.p2 s3r.2 k3.q3] c fun _ c=>?_))
 refine Fp [] 2 c fun _ c=>E0 ?_
 cases h
 exact wp_ret (Rg c (i4.1,i4.2,i5.1,i5.2,ga6,gc7,ga8,gc9,k3.1,k3.2.1,k3.p2,k3.q3) [] [19,20,3,4,21,22] (.cell (α:=Agg 9) kk (.b 3) (.tmp (.tmp .nil))))
theorem Zcz {p0 p1 p2 r} (h:XW n p0 p1 p2 = some r):Con prog 27 [gV p0 ga0 gc1,pV p1 ga2 gc3 ga4 gc5 ga6 gc7 ga8 gc9 ga10 gc11 ga12 gc13,L ga14 p2 gc15] [] [lR ga0 p0.Code gc1,lR ga2 p1.Regs gc3,lR ga4 p1.Mem gc5,lR ga6 p1.Stack gc7,lR ga8 p1.Out gc9,lR ga10 p1.Cond gc11,lR ga12 p1.Turns gc13,lR ga14 p2 gc15,TBf prog] fun (i:Oh)=>([L i.1 r.1 i.2,.bool r.2],[],[lR i.1 r.1 i.2]):=by
 unfold XW at h
 refine En func27 rfl ntmps27 fun _ fr w c=>?_
 refine T0 (Ebx (gC p0 ga0 gc1) c fun b1 _ _ c=>?_)
 refine Ebx (pC p1 ga2 gc3 ga4 gc5 ga6 gc7 ga8 gc9 ga10 gc11 ga12 gc13) c fun b2 _ _ c=>?_
 refine Fp [] 2 c fun _ c=>E0 (S0 (Bd h fun x1 hx1 h=>Bd h fun x2 hx2 h=>S0 (rZ [(2,.eq (.bool x1)),(7,.eq (I x2))] [(0,0),(1,1),(5,0),(6,1),(12,1)] mix c ⟨Ncl c (kN (Zb5 hx1)) ⟨.f 0,.f 1,.f 2,.f 3,.f 4,.f 5,.f 6,tt⟩ call46,Ncl c (fun hg=>Zfj (iteF (gcF hg) hx2)) ⟨.f 0,.f 1,.f 2,.f 3,.f 4,.f 5,.f 6,tt⟩ call47,tt⟩ fun _ _ c=>I0 c h (fun h=>?_) fun h=>?_)))
 refine P0 [] c fun _ c=>?_
 cases h
 replace c:=c.nilf (α:=D.Path)
 exact wp_ret (tr (Rg c (none,0) [] [9] (.tmp (.tmp .nil))))
 refine K0 (S0 (P0 [] c fun _ c=>Bd h fun rl1 hit1 h=>?_))
 have hk1:=h
 refine LpR (fun s1  (_:Unit)=>([(2,L ga14 p2 gc15),(3,B b1 0),(4,B b2 0),(32,L ga14 p2 gc15),(33,I (len p2)),(34,I s1)],id,[])) (fun s  (_:Unit)=>([(2,L ga14 p2 gc15),(3,B b1 0),(4,B b2 0)],id,[])) hit1 c () (c.rk [0,1] (rg 9)) (fun s1 q1 _ _ _ c h hr1=>?_) fun s1r _ _ _ hrl c=>?_
 refine P0 [] c fun _ c=>S0 (I0 c h (fun h=>?_) fun h=>?_)
 refine K0 (S0 (wp_block (T0 (Bd h fun x3 hx3 h=>Eem c (.f 7) hx3 fun _ u1 _ c=>?_))))
 obtain ⟨a1,c1,a2,c2,a3,c3,a4,c4,a5,c5,a6,c6,rfl,c⟩:=c.o_Path 9
 refine Eal pZ c fun b3 _ _ c=>?_
 refine Ess 2 (pC x3 a1 c1 a2 c2 a3 c3 a4 c4 a5 c5 a6 c6) c fun _ c=>?_
 refine E0 (Bd h fun x4 hx4 h=>S0 (rZ [(2,.eq (.bool x4))] [(0,0),(1,2),(6,2),(9,2)] mix c ⟨Ncl c (kN (Zb5 hx4)) ⟨.f 0,.f 10,.f 11,.f 12,.f 13,.f 14,.f 15,tt⟩ call46,tt⟩ fun _ _ c=>I0 c h (fun h=>?_) fun h=>?_))
 refine P0 [] c fun _ c=>?_
 obtain rfl:=hr1 _ (sk h)
 obtain rfl:=sj hk1
 replace c:=c.nilf (α:=D.Path)
 exact wp_ret (br (tr (tr (br (tr (Rg c (none,0) [] [16] (.tmp (.tmp .nil))))))))
 refine K1 (bk (tn (P1 [] c fun _ c=>Nx h () (c.rk [0,1] (rg 9)))))
 refine wp_exit (te (te (be ?_)))
 obtain rfl:=hr1 _ (sk h)
 exact tn ⟨_,(),rfl,c.rk [0,1] (rg 9)⟩
 subst hrl
 refine P0 [] c fun _ c=>S0 (P0 [] c fun _ c=>?_)
 replace c:=(c.nil (α:=Rw.Path) 42).csn (ρ:=Rw.Path) (α:=D.Path)
 refine Bd h fun rl2 hit2 h=>?_
 have hk2:=h
 refine LpR (fun s2  (i:List Rw.Path × Oh)=>([(3,B b1 0),(4,B b2 0),(10,L i.2.1 s2.2 i.q2),(52,L ga14 p2 gc15),(53,I (len p2)),(54,I s2.1)],fun Γ=>Γ.set 2 (sl42 (L i.2.1 s2.2 i.q2) (i.1)),[CS (i.1) s2.2])) (fun s  (i:List Rw.Path × Oh)=>([(10,L i.2.1 s i.q2)],fun Γ=>Γ.set 2 (sl42 (L i.2.1 s i.q2) (i.1)),[CS (i.1) s])) hit2 c (([]:List Rw.Path),none,0) (c.rk [0,1,2] [0,1,2,3,4,5,6,7,8,9,9]) (fun s2 q2 i1 _ _ c h hr2=>?_) fun s2r k1 _ _ hrl c=>?_
 refine P0 [] c fun _ c=>S0 (I0 c h (fun h=>?_) fun h=>?_)
 refine K0 (S0 (wp_block (T0 (Bd h fun x5 hx5 h=>Eem c (.f 7) hx5 fun _ u2 _ c=>?_))))
 obtain ⟨a7,c7,a8,c8,a9,c9,a10,c10,a11,c11,a12,c12,rfl,c⟩:=c.o_Path 11
 refine Eal pZ c fun b4 _ _ c=>?_
 refine Ess 3 (pC x5 a7 c7 a8 c8 a9 c9 a10 c10 a11 c11 a12 c12) c fun _ c=>?_
 refine E0 (T0 (Fp [(0,0),(1,1),(2,2)] 3 c fun _ c=>?_))
 replace c:=c.nf
 refine Bd h fun x6 hx6 h=>Cg c (Zfm hx6) ⟨.f 0,.f 1,.f 2,.f 3,.f 4,.f 5,.f 6,.f 12,.f 13,.f 14,.f 15,.f 16,.f 17,.f 8,tt⟩ call48 fun i2 _ _ c=>?_
 refine Fp [] 4 c fun _ c=>Eal pZ c fun b5 _ _ c=>?_
 refine Ess 4 (pM x6.1 i2) c fun _ c=>?_
 refine Fp [] 2 c fun _ c=>E0 (S0 (Bd h fun x7 hx7 h=>S0 (rZ [(8,.eq (.bool x7))] [(6,0),(7,3)] mix c ⟨Ncl c (fun hg=>Zb5 ((iteF (gcF (g':=2) (gU 5 hg)) (iteT (gcT (g':=5) hg) hx7)))) ⟨.f 0,.f 18,.f 19,.f 20,.f 21,.f 22,.f 23,tt⟩ call46,tt⟩ fun _ _ c=>I0 c h (fun h=>?_) fun h=>?_)))
 refine P0 [] c fun _ c=>?_
 obtain rfl:=hr2 _ (sk h)
 obtain rfl:=sj hk2
 replace c:=c.nilf (α:=D.Path)
 exact wp_ret (tr (br (tr (tr (br (tr (Rg c (none,0) [] [24] (.tmp (.tmp .nil)))))))))
 refine K0 (P0 [] c fun _ c=>I0 c h (fun h=>?_) fun h=>?_)
 refine T1 (Fp [(1,3)] 2 c fun _ c=>Eltr 42 ([(Rw.Path.mk x6.1.Pc (hd i2.1 x6.1.Regs i2.2.1) (hd i2.p2 x6.1.Mem i2.p3) (hd i2.p4 x6.1.Stack i2.p5) x6.1.In (hd i2.p6 x6.1.Out i2.p7) x6.1.Code x6.1.Steps (hd i2.p8 x6.1.Cond i2.p9) (hd i2.p10 x6.1.Turns i2.q11))]:List Rw.Path) ([x6.1]:List D.Path) c ⟨(Ava.mk_Path x6.1 (.f 18) (.f 19) (.f 20) (.f 21) (.f 22) (.f 23)),tt⟩ fun a13 c13 _ _ c=>?_)
 replace c:=c.ng
 replace c:=c.fzr 5 24
 refine Bd h fun x8 hx8 h=>Eapr 2 10 c (.f 25) hx8 fun rm1 a14 c14 _ _ c=>?_
 refine Fp [] 1 c fun _ c=>E1 (bk (tn (P1 [] c fun _ c=>Nx h ((i1.1 ++ rm1),a14,c14) (c.rk [0,1,2] [0,1,2,3,4,5,6,7,8,9,26]))))
 refine K1 (bk (tn (P1 [] c fun _ c=>Nx h (i1.1,i1.2.1,i1.q2) (c.rk [0,1,2] (rg 11)))))
 refine wp_exit (te (te (be ?_)))
 obtain rfl:=hr2 _ (sk h)
 exact tn ⟨_,(i1.1,i1.2.1,i1.q2),rfl,c.rk [0,1,2] (rg 11)⟩
 subst hrl
 try simp only [l3,l4,l5,l6] at c
 refine P0 [] c fun _ c=>?_
 replace c:=c.fzr 2 10
 cases h
 exact wp_ret (Rg c (k1.2.1,k1.q2) [] [11] (.tmp (.tmp .nil)))
theorem ZaI (n:Nat):(∀ {p0 ga0 gc1 r} (h:Xx n p0 = some r),Con prog 87 [tV p0 ga0 gc1] [] [lR ga0 p0.Kids gc1] fun (i:Oh)=>([tV r i.1 i.2],[OD (ownT 79) 79 (L i.1 r.Kids i.2) r.Kids],[])) ∧
    (∀ {p0 ga0 gc1 r} (h:ZU n p0 = some r),Con prog 69 [L ga0 p0 gc1] [] [lR ga0 p0 gc1] fun (i:Oh)=>([L i.1 r i.2],[OD (ownT 79) 79 (L i.1 r i.2) r],[])):=by
 induction n with
 | zero=>exact ⟨by intro p0 ga0 gc1 r h; simp [Xx] at h,by intro p0 ga0 gc1 r h; simp [ZU] at h⟩
 | succ n ih=>
 obtain ⟨ih0,ih1⟩:=ih
 refine ⟨?_,?_⟩
 · intro p0 ga0 gc1 r h
   rw [Xx] at h
   refine En func87 rfl ntmps87 fun _ fr w c=>?_
   refine T0 (Ebx (tC p0 ga0 gc1) c fun b1 _ _ c=>?_)
   refine Eal tZ c fun b2 _ _ c=>?_
   refine E0 (T0 (Fp [(0,0)] 1 c fun _ c=>Eal tZ c fun b3 _ _ c=>?_))
   refine Ess 2 (tC p0 ga0 gc1) c fun _ c=>?_
   refine E0 (T0 (Fp [(1,0)] 2 c fun _ c=>Bd h fun x1 hx1 h=>Cb c (ih1 hx1) ⟨.f 0,tt⟩ call69 fun i1 _ _ c=>?_))
   refine Fp [] 1 c fun _ c=>?_
   replace c:=c.ng
   refine Esb 2 4 (L i1.1 x1 i1.2) c fun _ c=>?_
   refine E0 (T0 (Fp [(0,2)] 1 c fun _ c=>Ess 1 [I p0.Op,I p0.W,I p0.N,Str.val p0.Name,L i1.1 x1 i1.2] c fun _ c=>?_))
   refine E0 ?_
   cases h
   exact wp_ret (Rg c (i1.1,i1.2) [3] [] (.cell (α:=Agg 4) kk (.b 1) .nil))
 · intro p0 ga0 gc1 r h
   rw [ZU] at h
   refine En func69 rfl ntmps69 fun _ fr w c=>?_
   refine P0 [] c fun _ c=>S0 (P0 [] c fun _ c=>I0 c h (fun h=>?_) fun h=>?_)
   refine P0 [] c fun _ c=>?_
   replace c:=c.nilo (ownT 79) 79
   cases h
   exact wp_ret (tr (Rt c (none,0) [0] []))
   refine K0 (T0 (Fp [] 2 c fun _ c=>Bd h fun x1 hx1 h=>Emkd 79 (⟨0,0,0,⟨[]⟩,⟨none,0,0⟩⟩ : Rw.Term) (fun w=>Zfx 79 w) c hx1 fun a1 c1 _ _ c=>?_))
   refine Fp [] 1 c fun _ c=>E0 (S0 (P0 [] c fun _ c=>Bd h fun rl1 hit1 h=>Lp (fun s1  (i:List Rw.Term)=>([(0,L ga0 p0 gc1),(3,L a1 x1 c1),(12,I (len p0)),(13,I s1.1)],fun Γ=>(Γ.set 0 (sl79 (L a1 x1 c1) (i))).set 1 (HP.all (ownT 79) (i) s1.2),[])) (fun  (i:List Rw.Term)=>([(3,L a1 x1 c1)],fun Γ=>(Γ.set 0 (sl79 (L a1 x1 c1) (i))).set 1 (HP.all (ownT 79) (i) rl1),[])) hit1 c ((List.replicate (List.length x1) (⟨0,0,0,⟨[]⟩,⟨none,0,0⟩⟩ : Rw.Term))) (c.rk [0,1] [0]) (fun s1 q1 i1 _ _ c h hr1=>?_) fun k1 _ _ c=>?_))
   refine P0 [] c fun _ c=>S0 (I0 c h (fun h=>?_) fun h=>?_)
   refine K0 (S0 (wp_block (P0 [] c fun _ c=>T1 (Fp [] 4 c fun _ c=>Bd h fun x2 hx2 h=>Eem c (.f 0) hx2 fun _ u1 _ c=>?_))))
   obtain ⟨a2,c2,rfl,c⟩:=c.o_Term 1
   refine Bd h fun x3 hx3 h=>Cb c (ih0 hx3) ⟨.f 2,tt⟩ call87 fun i2 _ _ c=>?_
   replace c:=c.pack (H:=ownT 79 (tR x3 i2.1 i2.2) x3) [OD (ownT 79) 79 (L i2.1 x3.Kids i2.2) x3.Kids] [2] (fun A h=>ZfW (x:=x3) (Sep.sole h))
   refine Bd h fun x4 hx4 h=>Esetd 0 1 2 c hx4 fun _ _ _ c=>?_
   refine E1 (bk (tn (P1 [] c fun _ c=>Nx h ((List.set i1 (s1.1).toNat (tR x3 i2.1 i2.2))) (c.rk [0,1] [0]))))
   refine wp_exit (te (te (be ?_)))
   obtain rfl:=hr1 _ (sk h)
   exact tn ⟨(i1),c.rk [0,1] [0]⟩
   refine P0 [] c fun _ c=>?_
   replace c:=c.odc 0 1
   obtain rfl:=sj h
   obtain ⟨he1,c⟩:=c.releno 0
   replace c:=c.eqs (v:=L a1 x1 c1) (u:=L a1 rl1 c1) 2 (by simp only [L,he1])
   exact wp_ret (Rt c (a1,c1) [0] [])
theorem XX {n:Nat}:∀ {p0 ga0 gc1 r} (h:ZU n p0 = some r),Con prog 69 [L ga0 p0 gc1] [] [lR ga0 p0 gc1] fun (i:Oh)=>([L i.1 r i.2],[OD (ownT 79) 79 (L i.1 r i.2) r],[]):=(ZaI n).2
theorem ZdG {p0 r} (h:XO n p0 = some r):Con prog 49 [pV p0 ga0 gc1 ga2 gc3 ga4 gc5 ga6 gc7 ga8 gc9 ga10 gc11] [] [lR ga0 p0.Regs gc1,lR ga2 p0.Mem gc3,lR ga4 p0.Stack gc5,lR ga6 p0.Out gc7,lR ga8 p0.Cond gc9,lR ga10 p0.Turns gc11] fun (i:Hp)=>([pJ r i],[OD (ownT 79) 79 (L i.1 r.Regs i.2.1) r.Regs,OD (ownT 79) 79 (L i.p2 r.Mem i.p3) r.Mem,sl3 (L i.p4 r.Stack i.p5) r.Stack,OD (ownT 79) 79 (L i.p6 r.Out i.p7) r.Out,OD (ownT 79) 79 (L i.p8 r.Cond i.p9) r.Cond,sl3 (L i.p10 r.Turns i.q11) r.Turns],[]):=by
 unfold XO at h
 refine En func49 rfl ntmps49 fun _ fr w c=>?_
 refine T0 (Ebx (pC p0 ga0 gc1 ga2 gc3 ga4 gc5 ga6 gc7 ga8 gc9 ga10 gc11) c fun b1 _ _ c=>?_)
 refine Eal pZ c fun b2 _ _ c=>?_
 refine E0 (T0 (Fp [(1,0)] 2 c fun _ c=>Bd h fun x1 hx1 h=>Cb c (XX hx1) ⟨.f 0,tt⟩ call69 fun i1 _ _ c=>?_))
 refine Fp [] 1 c fun _ c=>Esb 0 1 (L i1.1 x1 i1.2) c fun _ c=>?_
 refine E0 (T0 (Fp [(1,0)] 2 c fun _ c=>Bd h fun x2 hx2 h=>Cb c (XX hx2) ⟨.f 1,tt⟩ call69 fun i2 _ _ c=>?_))
 refine Fp [] 1 c fun _ c=>?_
 replace c:=c.ng
 refine Esb 0 2 (L i2.1 x2 i2.2) c fun _ c=>?_
 refine E0 (T0 (Fp [(1,0)] 2 c fun _ c=>Bd h fun x3 hx3 h=>Cb c (Xd hx3) ⟨.f 2,tt⟩ call70 fun i3 _ _ c=>?_))
 refine Fp [] 1 c fun _ c=>Esb 0 3 (L i3.1 x3 i3.2) c fun _ c=>?_
 refine E0 (T0 (Fp [(1,0)] 2 c fun _ c=>Bd h fun x4 hx4 h=>Cb c (XX hx4) ⟨.f 3,tt⟩ call69 fun i4 _ _ c=>?_))
 refine Fp [] 1 c fun _ c=>?_
 replace c:=c.ng
 refine Esb 0 5 (L i4.1 x4 i4.2) c fun _ c=>?_
 refine E0 (T0 (Fp [(1,0)] 2 c fun _ c=>Bd h fun x5 hx5 h=>Cb c (XX hx5) ⟨.f 4,tt⟩ call69 fun i5 _ _ c=>?_))
 refine Fp [] 1 c fun _ c=>Esb 0 8 (L i5.1 x5 i5.2) c fun _ c=>?_
 refine E0 (T0 (Fp [(1,0)] 2 c fun _ c=>?_))
 replace c:=c.ng
 refine Bd h fun x6 hx6 h=>Cb c (Xd hx6) ⟨.f 5,tt⟩ call70 fun i6 _ _ c=>?_
 refine Fp [] 1 c fun _ c=>Esb 0 9 (L i6.1 x6 i6.2) c fun _ c=>?_
 refine E0 (T0 (Fp [(0,0)] 1 c fun _ c=>Ess 1 [I p0.Pc,L i1.1 x1 i1.2,L i2.1 x2 i2.2,L i3.1 x3 i3.2,I p0.In,L i4.1 x4 i4.2,I p0.Code,I p0.Steps,L i5.1 x5 i5.2,L i6.1 x6 i6.2] c fun _ c=>?_))
 refine E0 ?_
 cases h
 exact wp_ret (Rg c (i1.1,i1.2,i2.1,i2.2,i3.1,i3.2,i4.1,i4.2,i5.1,i5.2,i6.1,i6.2) [2,3,4,5,6,7] [] (.cell (α:=Agg 9) kk (.b 1) .nil))
theorem Zdn {p0 r} (h:Zab n p0 = some r):Con prog 28 [L ga0 p0 gc1] [] [lR ga0 p0 gc1] fun (i:Oh)=>([L i.1 r i.2],[OD (ownP 79 3) 42 (L i.1 r i.2) r],[]):=by
 unfold Zab at h
 refine En func28 rfl ntmps28 fun _ fr w c=>?_
 refine P0 [] c fun _ c=>T0 (Fp [] 2 c fun _ c=>Bd h fun x1 hx1 h=>Emkd 42 (⟨0,⟨none,0,0⟩,⟨none,0,0⟩,⟨none,0,0⟩,0,⟨none,0,0⟩,0,0,⟨none,0,0⟩,⟨none,0,0⟩⟩ : Rw.Path) (fun w=>Zfu 79 3 w) c hx1 fun a1 c1 _ _ c=>?_)
 refine Fp [] 1 c fun _ c=>E0 (S0 (P0 [] c fun _ c=>Bd h fun rl1 hit1 h=>Lp (fun s1  (i:List Rw.Path)=>([(0,L ga0 p0 gc1),(3,L a1 x1 c1),(9,I (len p0)),(10,I s1.1)],fun Γ=>(Γ.set 0 (sl42 (L a1 x1 c1) (i))).set 1 (HP.all (ownP 79 3) (i) s1.2),[])) (fun  (i:List Rw.Path)=>([(3,L a1 x1 c1)],fun Γ=>(Γ.set 0 (sl42 (L a1 x1 c1) (i))).set 1 (HP.all (ownP 79 3) (i) rl1),[])) hit1 c ((List.replicate (List.length x1) (⟨0,⟨none,0,0⟩,⟨none,0,0⟩,⟨none,0,0⟩,0,⟨none,0,0⟩,0,0,⟨none,0,0⟩,⟨none,0,0⟩⟩ : Rw.Path))) (c.rk [0,1] [0]) (fun s1 q1 i1 _ _ c h hr1=>?_) fun k1 _ _ c=>?_))
 refine P0 [] c fun _ c=>S0 (I0 c h (fun h=>?_) fun h=>?_)
 refine K0 (S0 (wp_block (P0 [] c fun _ c=>T1 (Fp [] 4 c fun _ c=>Bd h fun x2 hx2 h=>Eem c (.f 0) hx2 fun _ u1 _ c=>?_))))
 obtain ⟨a2,c2,a3,c3,a4,c4,a5,c5,a6,c6,a7,c7,rfl,c⟩:=c.o_Path 1
 refine Bd h fun x3 hx3 h=>Cb c (ZdG hx3) ⟨.f 2,.f 3,.f 4,.f 5,.f 6,.f 7,tt⟩ call49 fun i2 _ _ c=>?_
 replace c:=c.nf
 replace c:=c.pack (H:=ownP 79 3 (Rw.Path.mk x3.Pc (hd i2.1 x3.Regs i2.2.1) (hd i2.p2 x3.Mem i2.p3) (hd i2.p4 x3.Stack i2.p5) x3.In (hd i2.p6 x3.Out i2.p7) x3.Code x3.Steps (hd i2.p8 x3.Cond i2.p9) (hd i2.p10 x3.Turns i2.q11)) x3) [OD (ownT 79) 79 (L i2.1 x3.Regs i2.2.1) x3.Regs,OD (ownT 79) 79 (L i2.p2 x3.Mem i2.p3) x3.Mem,sl3 (L i2.p4 x3.Stack i2.p5) x3.Stack,OD (ownT 79) 79 (L i2.p6 x3.Out i2.p7) x3.Out,OD (ownT 79) 79 (L i2.p8 x3.Cond i2.p9) x3.Cond,sl3 (L i2.p10 x3.Turns i2.q11) x3.Turns] [2,3,4,5,6,7] (fun A h=>Zez (x:=x3) h)
 refine Bd h fun x4 hx4 h=>Esetd 0 1 2 c hx4 fun _ _ _ c=>?_
 refine E1 (bk (tn (P1 [] c fun _ c=>Nx h ((List.set i1 (s1.1).toNat (Rw.Path.mk x3.Pc (hd i2.1 x3.Regs i2.2.1) (hd i2.p2 x3.Mem i2.p3) (hd i2.p4 x3.Stack i2.p5) x3.In (hd i2.p6 x3.Out i2.p7) x3.Code x3.Steps (hd i2.p8 x3.Cond i2.p9) (hd i2.p10 x3.Turns i2.q11)))) (c.rk [0,1] [0]))))
 refine wp_exit (te (te (be ?_)))
 obtain rfl:=hr1 _ (sk h)
 exact tn ⟨(i1),c.rk [0,1] [0]⟩
 refine P0 [] c fun _ c=>?_
 replace c:=c.odc 0 1
 obtain rfl:=sj h
 obtain ⟨he1,c⟩:=c.releno 0
 replace c:=c.eqs (v:=L a1 x1 c1) (u:=L a1 rl1 c1) 2 (by simp only [L,he1])
 exact wp_ret (Rt c (a1,c1) [0] [])
theorem Zbi {p0 p1 p2 r} (h:YP n p0 p1 p2 = some r):Con prog 11 [gV p0 ga0 gc1,pV p1 ga2 gc3 ga4 gc5 ga6 gc7 ga8 gc9 ga10 gc11 ga12 gc13,L ga14 p2 gc15] [] [lR ga0 p0.Code gc1,lR ga2 p1.Regs gc3,lR ga4 p1.Mem gc5,lR ga6 p1.Stack gc7,lR ga8 p1.Out gc9,lR ga10 p1.Cond gc11,lR ga12 p1.Turns gc13,lR ga14 p2 gc15,TBf prog] fun (i:Oh)=>([L i.1 r.1 i.2,.bool r.2],[OD (ownP 79 3) 42 (L i.1 r.1 i.2) r.1],[]):=by
 unfold YP at h
 refine En func11 rfl ntmps11 fun _ fr w c=>?_
 refine T0 (Ebx (gC p0 ga0 gc1) c fun b1 _ _ c=>?_)
 refine Ebx (pC p1 ga2 gc3 ga4 gc5 ga6 gc7 ga8 gc9 ga10 gc11 ga12 gc13) c fun b2 _ _ c=>?_
 refine Fp [] 2 c fun _ c=>E0 (T0 (Fp [(0,0),(1,1)] 3 c fun _ c=>Bd h fun x1 hx1 h=>Cg c (Zcz hx1) ⟨.f 0,.f 1,.f 2,.f 3,.f 4,.f 5,.f 6,.f 7,.f 8,tt⟩ call27 fun i1 _ _ c=>?_))
 refine Fp [] 5 c fun _ c=>E0 (S0 (P0 [] c fun _ c=>I0 c h (fun h=>?_) fun h=>?_))
 refine P0 [] c fun _ c=>?_
 replace c:=c.nilo (ownP 79 3) 42
 cases h
 exact wp_ret (tr (Rg c (none,0) [2] [] (.tmp (.tmp .nil))))
 refine K0 (T0 (Fp [] 1 c fun _ c=>Bd h fun x2 hx2 h=>Cb c (Zdn hx2) ⟨.f 9,tt⟩ call28 fun i2 _ _ c=>?_))
 refine Fp [] 2 c fun _ c=>E0 ?_
 cases h
 exact wp_ret (Rg c (i2.1,i2.2) [2] [] (.tmp (.tmp .nil)))
theorem Zbp (n:Nat):(∀ {p0 p1 ga0 gc1 ga2 gc3 r} (h:Zap n p0 p1 = some r),C0 51 [tV p0 ga0 gc1,tV p1 ga2 gc3] [lR ga0 p0.Kids gc1,lR ga2 p1.Kids gc3] (.bool r)) ∧
    (∀ {p0 p1 ga0 gc1 ga2 gc3 r} (h:Yn n p0 p1 = some r),C0 30 [L ga0 p0 gc1,L ga2 p1 gc3] [lR ga0 p0 gc1,lR ga2 p1 gc3] (.bool r)):=by
 induction n with
 | zero=>exact ⟨by intro p0 p1 ga0 gc1 ga2 gc3 r h; simp [Zap] at h,by intro p0 p1 ga0 gc1 ga2 gc3 r h; simp [Yn] at h⟩
 | succ n ih=>
 obtain ⟨ih0,ih1⟩:=ih
 refine ⟨?_,?_⟩
 · intro p0 p1 ga0 gc1 ga2 gc3 r h
   rw [Zap] at h
   refine En func51 rfl ntmps51 fun _ fr w c=>?_
   refine T0 (Ebx (tC p0 ga0 gc1) c fun b1 _ _ c=>?_)
   refine Ebx (tC p1 ga2 gc3) c fun b2 _ _ c=>?_
   refine Fp [] 1 c fun _ c=>E0 (S0 (P0 [(1,0),(3,1)] c fun _ c=>I0 c h (fun h=>P0 [] c fun _ c=>rE) fun h=>?_))
   refine K0 (S0 (P0 [(1,0),(3,1)] c fun _ c=>I0 c h (fun h=>P0 [] c fun _ c=>rE) fun h=>?_))
   refine K0 (S0 (P0 [(1,0),(3,1)] c fun _ c=>I0 c h (fun h=>P0 [] c fun _ c=>rE) fun h=>?_))
   refine K0 (S0 (P0 [(1,0),(3,1)] c fun _ c=>I0 c h (fun h=>P0 [] c fun _ c=>rE) fun h=>?_))
   refine K0 (S0 (T0 (Fp [(1,0),(3,1)] 4 c fun _ c=>Bd h fun x1 hx1 h=>Cb c (ih1 hx1) ⟨.f 0,.f 1,tt⟩ call30 fun _ _ _ c=>?_)))
   exact Fp [] 1 c fun _ c=>E0 (I0 c h (fun h=>P0 [] c fun _ c=>rE) fun h=>K0 (P0 [] c fun _ c=>rE))
 · intro p0 p1 ga0 gc1 ga2 gc3 r h
   rw [Yn] at h
   refine En func30 rfl ntmps30 fun _ fr w c=>?_
   refine P0 [] c fun _ c=>S0 (P0 [] c fun _ c=>I0 c h (fun h=>P0 [] c fun _ c=>rE) fun h=>?_)
   refine K0 (S0 (P0 [] c fun _ c=>Bd h fun rl1 hit1 h=>?_))
   have hk1:=h
   refine LpR (fun s1  (_:Unit)=>([(0,L ga0 p0 gc1),(1,L ga2 p1 gc3),(5,I s1)],id,[])) (fun s  (_:Unit)=>([],id,[])) hit1 c () (c.rk [] [0,1]) (fun s1 q1 _ _ _ c h hr1=>?_) fun s1r _ _ _ hrl c=>?_
   refine S0 (P0 [] c fun _ c=>I0 c h (fun h=>?_) fun h=>?_)
   refine K0 (S0 (wp_block (Bd h fun x1 hx1 h=>?_)))
   obtain ⟨ep1,u1,c⟩:=c.elp (.f 0) hx1
   obtain ⟨a1,c1,rfl,c⟩:=c.o_Term 3
   refine Bd h fun x2 hx2 h=>?_
   obtain ⟨ep2,u2,c⟩:=c.elp (.f 1) hx2
   obtain ⟨a2,c2,rfl,c⟩:=c.o_Term 6
   refine Bd h fun x3 hx3 h=>S0 (rZ [(2,.eq (.pointer (some ep1))),(3,.eq (tV x1 a1 c1)),(6,.eq (.pointer (some ep2))),(7,.eq (tV x2 a2 c2)),(8,.eq (.bool x3))] [] mix c ⟨Nie c 2,Nle c 2,Nie c 5,Nle c 5,Ncl c (kN (ih0 hx3)) ⟨.f 4,.f 7,tt⟩ call51,tt⟩ fun _ _ c=>I0 c h (fun h=>?_) fun h=>?_)
   refine P0 [] c fun _ c=>?_
   obtain rfl:=hr1 _ (sk h)
   obtain rfl:=sj hk1
   exact wp_ret (br (tr (tr (br (tr (Rt c () [] []))))))
   refine K1 (bk (tn (P1 [] c fun _ c=>Nx h () (c.rk [] [0,1]))))
   refine wp_exit (te (te (be ?_)))
   obtain rfl:=hr1 _ (sk h)
   exact tn ⟨_,(),rfl,c.rk [] [0,1]⟩
   subst hrl
   exact P0 [] c fun _ c=>rE
theorem Za6 {n:Nat}:∀ {p0 p1 ga0 gc1 ga2 gc3 r} (h:Yn n p0 p1 = some r),C0 30 [L ga0 p0 gc1,L ga2 p1 gc3] [lR ga0 p0 gc1,lR ga2 p1 gc3] (.bool r):=(Zbp n).2
theorem Zcv {p0 p1 r} (h:Zbd n p0 p1 = some r):C0 31 [L ga0 p0 gc1,L ga2 p1 gc3] [lR ga0 p0 gc1,lR ga2 p1 gc3] (.bool r):=by
 unfold Zbd at h
 refine En func31 rfl ntmps31 fun _ fr w c=>?_
 refine P0 [] c fun _ c=>S0 (P0 [] c fun _ c=>I0 c h (fun h=>P0 [] c fun _ c=>rE) fun h=>?_)
 refine K0 (S0 (P0 [] c fun _ c=>Bd h fun rl1 hit1 h=>?_))
 have hk1:=h
 refine LpR (fun s1  (_:Unit)=>([(0,L ga0 p0 gc1),(1,L ga2 p1 gc3),(5,I s1)],id,[])) (fun s  (_:Unit)=>([],id,[])) hit1 c () (c.rk [] [0,1]) (fun s1 q1 _ _ _ c h hr1=>?_) fun s1r _ _ _ hrl c=>?_
 refine S0 (P0 [] c fun _ c=>I0 c h (fun h=>?_) fun h=>?_)
 refine K0 (S0 (wp_block (Bd h fun x1 hx1 h=>Bd h fun x2 hx2 h=>S0 (rZ [(2,Pd.el (x1:Int)),(3,.eq (I x1)),(6,Pd.el (x2:Int)),(7,.eq (I x2))] [] mix c ⟨Nid c (.f 0) (kN hx1),Nld c 2 (q:=x1) (atN 2),Nid c (.f 1) (kN hx2),Nld c 6 (q:=x2) (atN 6),tt⟩ fun _ _ c=>I0 c h (fun h=>?_) fun h=>?_))))
 refine P0 [] c fun _ c=>?_
 obtain rfl:=hr1 _ (sk h)
 obtain rfl:=sj hk1
 exact wp_ret (br (tr (tr (br (tr (Rt c () [] []))))))
 refine K1 (bk (tn (P1 [] c fun _ c=>Nx h () (c.rk [] [0,1]))))
 refine wp_exit (te (te (be ?_)))
 obtain rfl:=hr1 _ (sk h)
 exact tn ⟨_,(),rfl,c.rk [] [0,1]⟩
 subst hrl
 exact P0 [] c fun _ c=>rE
theorem Zcu {p0 p1 r} (h:Zah n p0 p1 = some r):C0 14 [pV p0 ga0 gc1 ga2 gc3 ga4 gc5 ga6 gc7 ga8 gc9 ga10 gc11,pV p1 ga12 gc13 ga14 gc15 ga16 gc17 ga18 gc19 ga20 gc21 ga22 gc23] [lR ga0 p0.Regs gc1,lR ga2 p0.Mem gc3,lR ga4 p0.Stack gc5,lR ga6 p0.Out gc7,lR ga8 p0.Cond gc9,lR ga10 p0.Turns gc11,lR ga12 p1.Regs gc13,lR ga14 p1.Mem gc15,lR ga16 p1.Stack gc17,lR ga18 p1.Out gc19,lR ga20 p1.Cond gc21,lR ga22 p1.Turns gc23] (.bool r):=by
 unfold Zah at h
 refine En func14 rfl ntmps14 fun _ fr w c=>?_
 refine T0 (Ebx (pC p0 ga0 gc1 ga2 gc3 ga4 gc5 ga6 gc7 ga8 gc9 ga10 gc11) c fun b1 _ _ c=>?_)
 refine Ebx (pC p1 ga12 gc13 ga14 gc15 ga16 gc17 ga18 gc19 ga20 gc21 ga22 gc23) c fun b2 _ _ c=>?_
 refine Fp [] 1 c fun _ c=>E0 (S0 (P0 [(1,0),(3,1)] c fun _ c=>I0 c h (fun h=>P0 [] c fun _ c=>rE) fun h=>?_))
 refine K0 (S0 (T0 (Fp [(1,0),(3,1)] 4 c fun _ c=>Bd h fun x1 hx1 h=>Cb c (Za6 hx1) ⟨.f 0,.f 6,tt⟩ call30 fun _ _ _ c=>?_)))
 refine Fp [] 1 c fun _ c=>E0 (I0 c h (fun h=>P0 [] c fun _ c=>rE) fun h=>?_)
 refine K0 (S0 (T0 (Fp [(1,0),(3,1)] 4 c fun _ c=>Bd h fun x2 hx2 h=>Cb c (Za6 hx2) ⟨.f 1,.f 7,tt⟩ call30 fun _ _ _ c=>?_)))
 refine Fp [] 1 c fun _ c=>E0 (I0 c h (fun h=>P0 [] c fun _ c=>rE) fun h=>?_)
 refine K0 (S0 (T0 (Fp [(1,0),(3,1)] 4 c fun _ c=>Bd h fun x3 hx3 h=>Cb c (Zcv hx3) ⟨.f 2,.f 8,tt⟩ call31 fun _ _ _ c=>?_)))
 refine Fp [] 1 c fun _ c=>E0 (I0 c h (fun h=>P0 [] c fun _ c=>rE) fun h=>?_)
 refine K0 (S0 (P0 [(1,0),(3,1)] c fun _ c=>I0 c h (fun h=>P0 [] c fun _ c=>rE) fun h=>?_))
 refine K0 (S0 (T0 (Fp [(1,0),(3,1)] 4 c fun _ c=>?_)))
 replace c:=c.ng
 refine Bd h fun x4 hx4 h=>Cb c (Za6 hx4) ⟨.f 3,.f 9,tt⟩ call30 fun _ _ _ c=>?_
 refine Fp [] 1 c fun _ c=>E0 (I0 c h (fun h=>P0 [] c fun _ c=>rE) fun h=>?_)
 refine K0 (S0 (P0 [(1,0),(3,1)] c fun _ c=>I0 c h (fun h=>P0 [] c fun _ c=>rE) fun h=>?_))
 refine K0 (S0 (P0 [(1,0),(3,1)] c fun _ c=>I0 c h (fun h=>P0 [] c fun _ c=>rE) fun h=>?_))
 refine K0 (S0 (T0 (Fp [(1,0),(3,1)] 4 c fun _ c=>Bd h fun x5 hx5 h=>Cb c (Za6 hx5) ⟨.f 4,.f 10,tt⟩ call30 fun _ _ _ c=>?_)))
 refine Fp [] 1 c fun _ c=>E0 (I0 c h (fun h=>P0 [] c fun _ c=>rE) fun h=>?_)
 refine K0 (S0 (T0 (Fp [(1,0),(3,1)] 4 c fun _ c=>Bd h fun x6 hx6 h=>Cb c (Zcv hx6) ⟨.f 5,.f 11,tt⟩ call31 fun _ _ _ c=>?_)))
 exact Fp [] 1 c fun _ c=>E0 (I0 c h (fun h=>P0 [] c fun _ c=>rE) fun h=>K0 (P0 [] c fun _ c=>rE))
theorem Za3 {p0 p1 r} (h:Xm n p0 p1 = some r):C0 12 [L ga0 p0 gc1,L ga2 p1 gc3] [lR ga0 p0 gc1,lR ga2 p1 gc3] (.bool r):=by
 unfold Xm at h
 refine En func12 rfl ntmps12 fun _ fr w c=>?_
 refine P0 [] c fun _ c=>S0 (P0 [] c fun _ c=>I0 c h (fun h=>P0 [] c fun _ c=>rE) fun h=>?_)
 refine K0 (S0 (P0 [] c fun _ c=>Bd h fun rl1 hit1 h=>?_))
 have hk1:=h
 refine LpR (fun s1  (_:Unit)=>([(0,L ga0 p0 gc1),(1,L ga2 p1 gc3),(5,I s1)],id,[])) (fun s  (_:Unit)=>([],id,[])) hit1 c () (c.rk [] [0,1]) (fun s1 q1 _ _ _ c h hr1=>?_) fun s1r _ _ _ hrl c=>?_
 refine S0 (P0 [] c fun _ c=>I0 c h (fun h=>?_) fun h=>?_)
 refine K0 (S0 (wp_block (Bd h fun x1 hx1 h=>?_)))
 obtain ⟨ep1,u1,c⟩:=c.elp (.f 0) hx1
 obtain ⟨a1,c1,a2,c2,a3,c3,a4,c4,a5,c5,a6,c6,rfl,c⟩:=c.o_Path 3
 refine Bd h fun x2 hx2 h=>?_
 obtain ⟨ep2,u2,c⟩:=c.elp (.f 1) hx2
 obtain ⟨a7,c7,a8,c8,a9,c9,a10,c10,a11,c11,a12,c12,rfl,c⟩:=c.o_Path 11
 refine Bd h fun x3 hx3 h=>S0 (rZ [(2,.eq (.pointer (some ep1))),(3,.eq (pV x1 a1 c1 a2 c2 a3 c3 a4 c4 a5 c5 a6 c6)),(6,.eq (.pointer (some ep2))),(7,.eq (pV x2 a7 c7 a8 c8 a9 c9 a10 c10 a11 c11 a12 c12)),(8,.eq (.bool x3))] [] mix c ⟨Nie c 2,Nle c 2,Nie c 10,Nle c 10,Ncl c (kN (Zcu hx3)) ⟨.f 4,.f 5,.f 6,.f 7,.f 8,.f 9,.f 12,.f 13,.f 14,.f 15,.f 16,.f 17,tt⟩ call14,tt⟩ fun _ _ c=>I0 c h (fun h=>?_) fun h=>?_)
 refine P0 [] c fun _ c=>?_
 obtain rfl:=hr1 _ (sk h)
 obtain rfl:=sj hk1
 exact wp_ret (br (tr (tr (br (tr (Rt c () [] []))))))
 refine K1 (bk (tn (P1 [] c fun _ c=>Nx h () (c.rk [] [0,1]))))
 refine wp_exit (te (te (be ?_)))
 obtain rfl:=hr1 _ (sk h)
 exact tn ⟨_,(),rfl,c.rk [] [0,1]⟩
 subst hrl
 exact P0 [] c fun _ c=>rE
theorem Zfn {p0 p1 r} (h:ZbA p0 p1 = some r):C0 50 [nV p0,nV p1] [] (.bool r):=by
 unfold ZbA at h
 refine En func50 rfl ntmps50 fun _ fr w c=>?_
 refine T0 (Ebx (nC p0) c fun b1 _ _ c=>?_)
 refine Ebx (nC p1) c fun b2 _ _ c=>?_
 exact Fp [] 1 c fun _ c=>E0 (S0 (P0 [(1,0),(3,1)] c fun _ c=>I0 c h (fun h=>P0 [] c fun _ c=>rE) fun h=>K0 (S0 (P0 [(1,0),(3,1)] c fun _ c=>I0 c h (fun h=>P0 [] c fun _ c=>rE) fun h=>K0 (S0 (P0 [(1,0),(3,1)] c fun _ c=>I0 c h (fun h=>P0 [] c fun _ c=>rE) fun h=>K0 (S0 (P0 [(1,0),(3,1)] c fun _ c=>I0 c h (fun h=>P0 [] c fun _ c=>rE) fun h=>K0 (P0 [] c fun _ c=>rE)))))))))
theorem ZeQ {p0 p1 r} (h:Zbm n p0 p1 = some r):C0 29 [L ga0 p0 gc1,L ga2 p1 gc3] [lR ga0 p0 gc1,lR ga2 p1 gc3] (.bool r):=by
 unfold Zbm at h
 refine En func29 rfl ntmps29 fun _ fr w c=>?_
 refine P0 [] c fun _ c=>S0 (P0 [] c fun _ c=>I0 c h (fun h=>P0 [] c fun _ c=>rE) fun h=>?_)
 refine K0 (S0 (P0 [] c fun _ c=>Bd h fun rl1 hit1 h=>?_))
 have hk1:=h
 refine LpR (fun s1  (_:Unit)=>([(0,L ga0 p0 gc1),(1,L ga2 p1 gc3),(5,I s1)],id,[])) (fun s  (_:Unit)=>([],id,[])) hit1 c () (c.rk [] [0,1]) (fun s1 q1 _ _ _ c h hr1=>?_) fun s1r _ _ _ hrl c=>?_
 refine S0 (P0 [] c fun _ c=>I0 c h (fun h=>?_) fun h=>?_)
 refine K0 (S0 (wp_block (Bd h fun x1 hx1 h=>Bd h fun x2 hx2 h=>Bd h fun x3 hx3 h=>S0 (rZ [(2,Pd.el (x1:D.Ins)),(3,.eq (nV x1)),(6,Pd.el (x2:D.Ins)),(7,.eq (nV x2)),(8,.eq (.bool x3))] [] mix c ⟨Nid c (.f 0) (kN hx1),Nld c 2 (q:=x1) (atN 2),Nid c (.f 1) (kN hx2),Nld c 6 (q:=x2) (atN 6),Ncl c (kN (Zfn hx3)) tt call50,tt⟩ fun _ _ c=>I0 c h (fun h=>?_) fun h=>?_))))
 refine P0 [] c fun _ c=>?_
 obtain rfl:=hr1 _ (sk h)
 obtain rfl:=sj hk1
 exact wp_ret (br (tr (tr (br (tr (Rt c () [] []))))))
 refine K1 (bk (tn (P1 [] c fun _ c=>Nx h () (c.rk [] [0,1]))))
 refine wp_exit (te (te (be ?_)))
 obtain rfl:=hr1 _ (sk h)
 exact tn ⟨_,(),rfl,c.rk [] [0,1]⟩
 subst hrl
 exact P0 [] c fun _ c=>rE
theorem Zdz {p0 p1 r} (h:Zaj n p0 p1 = some r):C0 13 [gV p0 ga0 gc1,gV p1 ga2 gc3] [lR ga0 p0.Code gc1,lR ga2 p1.Code gc3] (.bool r):=by
 unfold Zaj at h
 refine En func13 rfl ntmps13 fun _ fr w c=>?_
 refine T0 (Ebx (gC p0 ga0 gc1) c fun b1 _ _ c=>?_)
 refine Ebx (gC p1 ga2 gc3) c fun b2 _ _ c=>?_
 refine Fp [] 1 c fun _ c=>E0 (S0 (P0 [(1,0),(3,1)] c fun _ c=>I0 c h (fun h=>P0 [] c fun _ c=>rE) fun h=>?_))
 refine K0 (S0 (P0 [(1,0),(3,1)] c fun _ c=>I0 c h (fun h=>P0 [] c fun _ c=>rE) fun h=>?_))
 refine K0 (S0 (P0 [(1,0),(3,1)] c fun _ c=>I0 c h (fun h=>P0 [] c fun _ c=>rE) fun h=>?_))
 refine K0 (S0 (T0 (Fp [(1,0),(3,1)] 4 c fun _ c=>Bd h fun x1 hx1 h=>Cb c (ZeQ hx1) ⟨.f 0,.f 1,tt⟩ call29 fun _ _ _ c=>?_)))
 exact Fp [] 1 c fun _ c=>E0 (I0 c h (fun h=>P0 [] c fun _ c=>rE) fun h=>K0 (P0 [] c fun _ c=>rE))
theorem ZdN {p0 p1 gn2 r} (h:Zax n p0 p1 = some r):Con prog 32 [.slice ga0 gn2 gc1,I p1] [sl57 (.slice ga0 gn2 gc1) p0] [] fun (_:Unit)=>([I r.1],[sl57 (.slice ga0 gn2 gc1) r.2],[]):=by
 unfold Zax at h
 refine En func32 rfl ntmps32 fun _ fr w c=>?_
 obtain ⟨rfl,c⟩:=c.relen 0
 refine P0 [] c fun _ c=>S0 (P0 [] c fun _ c=>Bd h fun rl1 hit1 h=>Lp (fun s1  (_:Unit)=>([(0,L ga0 p0 gc1),(1,I s1.1),(5,I s1.2.1)],fun Γ=>Γ.set 0 (sl57 (L ga0 p0 gc1) s1.q2),[])) (fun  (_:Unit)=>([(1,I rl1.1)],fun Γ=>Γ.set 0 (sl57 (L ga0 p0 gc1) rl1.2),[])) hit1 c () (c.rk [0] []) (fun s1 q1 _ _ _ c h hr1=>?_) fun _ _ _ c=>?_)
 refine S0 (P0 [] c fun _ c=>I0 c h (fun h=>?_) fun h=>?_)
 refine K0 (S0 (wp_block (T0 (Fp [] 3 c fun _ c=>Bd h fun x1 hx1 h=>Bd h fun x2 hx2 h=>Esf 0 (I s1.1) c hx1 hx2 fun _ _ _ _ c=>?_))))
 refine E0 (P0 [] c fun _ c=>T0 (Fp [] 3 c fun _ c=>Bd h fun x3 hx3 h=>Bd h fun x4 hx4 h=>Esf 0 (I (w64 (s1.1 + 1))) c hx3 hx4 fun _ _ _ _ c=>?_))
 refine E0 (P0 [] c fun _ c=>T0 (Fp [] 3 c fun _ c=>Bd h fun x5 hx5 h=>Bd h fun x6 hx6 h=>Esf 0 (I (w64 ((w64 (s1.1 + 1)) + 1))) c hx5 hx6 fun _ _ _ _ c=>?_))
 refine E0 (P0 [] c fun _ c=>T0 (Fp [] 3 c fun _ c=>Bd h fun x7 hx7 h=>Bd h fun x8 hx8 h=>Esf 0 (I (w64 ((w64 ((w64 (s1.1 + 1)) + 1)) + 1))) c hx7 hx8 fun _ _ _ _ c=>?_))
 refine E0 (Tq (P1 [] c fun _ c=>bk (tn (P1 [] c fun _ c=>Nx h () (c.rk [0] [])))))
 refine wp_exit (te (te (be ?_)))
 obtain rfl:=hr1 _ (sk h)
 exact tn ⟨(),c.rk [0] []⟩
 refine P0 [] c fun _ c=>?_
 cases h
 exact wp_ret (Rt c () [0] [])
theorem ZcR {p0 p1 gn2 r} (h:X3 n p0 p1 = some r):Con prog 15 [.agg #[I p0.W,I p0.Mem,I p0.In,.slice ga0 gn2 gc1],I p1] [sl57 (.slice ga0 gn2 gc1) p0.Code] [] fun (_:Unit)=>([I r.1],[sl57 (.slice ga0 gn2 gc1) r.2.Code],[]):=by
 unfold X3 at h
 refine En func15 rfl ntmps15 fun _ fr w c=>?_
 obtain ⟨rfl,c⟩:=c.relen 0
 refine T0 (Ebx (gC p0 ga0 gc1) c fun b1 _ _ c=>?_)
 refine Fp [] 1 c fun _ c=>E0 (T0 (Fp [(1,0)] 3 c fun _ c=>Bd h fun x1 hx1 h=>Ca [0] c (ZdN hx1) tt call32 fun _ _ _ c=>?_))
 refine Fp [] 1 c fun _ c=>E0 (P0 [] c fun _ c=>?_)
 cases h
 exact wp_ret (Rt c () [1] [])
theorem ZbX {p0 r} (h:ZV n p0 = some r):C0 52 [I p0] [] (Str.val r):=by
 unfold ZV at h
 refine En func52 rfl ntmps52 fun _ fr w c=>?_
 refine P0 [] c fun _ c=>S0 (P0 [] c fun _ c=>I0 c h (fun h=>P0 [] c fun _ c=>rE) fun h=>?_)
 refine K0 (P0 [] c fun _ c=>Bd h fun rl1 hit1 h=>S0 (Lp (fun s1  (_:Unit)=>([(0,I s1.1),(3,Str.val s1.2)],id,[])) (fun  (_:Unit)=>([(3,Str.val rl1)],id,[])) hit1 c () (c.rk [] []) (fun s1 q1 _ _ _ c h hr1=>?_) fun _ _ _ c=>?_))
 refine S0 (P0 [] c fun _ c=>I0 c h (fun h=>?_) fun h=>?_)
 refine K0 (wp_block (T0 (Fp [] 1 c fun _ c=>Bd h fun x1 hx1 h=>Erem c hx1 fun _ c=>?_)))
 refine Fp [] 2 c fun _ c=>Elt 5 ([(Byt.mk (IntKind.u8.wrap (w64 (48 + x1))))]:List Byt) c fun a1 c1 _ _ c=>?_
 refine Ebs c (.g 0) (fun _ c=>?_) Tryz.underlying102
 refine Fp [] 1 c fun _ c=>Bd h fun x2 hx2 h=>Ecat c hx2 fun _ c=>?_
 refine Fp [] 1 c fun _ c=>E0 (T1 (Fp [] 1 c fun _ c=>Bd h fun x3 hx3 h=>Equo c hx3 fun _ c=>?_))
 refine Fp [] 1 c fun _ c=>E1 (bk (tn (Nx h () (c.rk [] []))))
 refine wp_exit (te (te (be ?_)))
 obtain rfl:=hr1 _ (sk h)
 exact tn ⟨(),c.rk [] []⟩
 refine T0 (Fp [] 1 c fun _ c=>Bd h fun x4 hx4 h=>Ecat c hx4 fun _ c=>?_)
 exact Fp [] 1 c fun _ c=>E0 rE
theorem Yj {n:Nat}:∀ {p0 p1 ga0 gc1 gn2 r} (h:Zv n p0 p1 = some r),Con prog 33 [.slice ga0 gn2 gc1,I p1] [OD (ownT 79) 79 (.slice ga0 gn2 gc1) p0] [] fun (_:Unit)=>([I r.1],[OD (ownT 79) 79 (.slice ga0 gn2 gc1) r.2],[]):=by
 induction n with
 | zero=>intro p0 p1 ga0 gc1 gn2 r h; simp [Zv] at h
 | succ n ih=>
 intro p0 p1 ga0 gc1 gn2 r h
 rw [Zv] at h
 refine En func33 rfl ntmps33 fun _ fr w c=>?_
 obtain ⟨rfl,c⟩:=c.releno 0
 refine P0 [] c fun _ c=>S0 (P0 [] c fun _ c=>Bd h fun rl1 hit1 h=>Lp (fun s1  (_:Unit)=>([(0,L ga0 p0 gc1),(1,I s1.1),(5,I s1.2.1)],fun Γ=>Γ.set 0 (OD (ownT 79) 79 (L ga0 p0 gc1) s1.q2),[])) (fun  (_:Unit)=>([(1,I rl1.1)],fun Γ=>Γ.set 0 (OD (ownT 79) 79 (L ga0 p0 gc1) rl1.2),[])) hit1 c () (c.rk [0] []) (fun s1 q1 _ _ _ c h hr1=>?_) fun _ _ _ c=>?_)
 refine S0 (P0 [] c fun _ c=>I0 c h (fun h=>?_) fun h=>?_)
 refine K0 (S0 (wp_block (T0 (Fp [] 3 c fun _ c=>Bd h fun x1 hx1 h=>?_))))
 obtain ⟨a1,c1,c⟩:=c.fo_Term 0 hx1
 refine Eohs 0 (I s1.1) (Rw.Term.mk s1.1 x1.W x1.N x1.Name (hd a1 x1.Kids c1)) c fun _ _ _ _ c=>?_
 refine E0 (P0 [] c fun _ c=>T0 (Fp [] 3 c fun _ c=>Eohs 1 (I (w64 (s1.1 + 1))) (Rw.Term.mk s1.1 (w64 (s1.1 + 1)) x1.N x1.Name (hd a1 x1.Kids c1)) c fun _ _ _ _ c=>?_))
 refine E0 (P0 [] c fun _ c=>T0 (Fp [] 3 c fun _ c=>?_))
 replace c:=c.nf
 refine Eohs 1 (I (w64 ((w64 (s1.1 + 1)) + 1))) (Rw.Term.mk s1.1 (w64 (s1.1 + 1)) (w64 ((w64 (s1.1 + 1)) + 1)) x1.Name (hd a1 x1.Kids c1)) c fun _ _ _ _ c=>?_
 refine E0 (P0 [] c fun _ c=>T0 (Fp [] 3 c fun _ c=>Bd h fun x2 hx2 h=>Cb c (ZbX hx2) tt call52 fun _ _ _ c=>?_))
 refine Eohs 1 (Str.val x2) (Rw.Term.mk s1.1 (w64 (s1.1 + 1)) (w64 ((w64 (s1.1 + 1)) + 1)) x2 (hd a1 x1.Kids c1)) c fun _ _ _ _ c=>?_
 refine E0 (P0 [] c fun _ c=>T1 (Fp [] 2 c fun _ c=>?_))
 replace c:=c.nf
 refine Eohl 1 (L a1 x1.Kids c1) c fun _ _ _ c=>?_
 refine Fp [] 1 c fun _ c=>Bd h fun x3 hx3 h=>Ca [0] c (ih hx3) tt call33 fun _ _ _ c=>?_
 refine Fp [] 1 c fun _ c=>E1 (bk (tn (P1 [] c fun _ c=>Bd h fun x4 hx4 h=>?_)))
 replace c:=c.un_Term (E:=79) (v:=L ga0 p0 gc1) (y:=(D.Term.mk s1.1 (w64 (s1.1 + 1)) (w64 ((w64 (s1.1 + 1)) + 1)) x2 x3.2)) (b:=a1) (m:=List.length x1.Kids) (cp:=c1) 0 1 hx4
 replace c:=c.nf
 exact Nx h () (c.rk [0] [])
 refine wp_exit (te (te (be ?_)))
 obtain rfl:=hr1 _ (sk h)
 exact tn ⟨(),c.rk [0] []⟩
 refine P0 [] c fun _ c=>?_
 cases h
 exact wp_ret (Rt c () [0] [])
theorem Zat {p0 p1 gn2 r} (h:Yi n p0 p1 = some r):Con prog 34 [.slice ga0 gn2 gc1,I p1] [sl3 (.slice ga0 gn2 gc1) p0] [] fun (_:Unit)=>([I r.1],[sl3 (.slice ga0 gn2 gc1) r.2],[]):=by
 unfold Yi at h
 refine En func34 rfl ntmps34 fun _ fr w c=>?_
 obtain ⟨rfl,c⟩:=c.relen 0
 refine P0 [] c fun _ c=>S0 (P0 [] c fun _ c=>Bd h fun rl1 hit1 h=>Lp (fun s1  (_:Unit)=>([(0,L ga0 p0 gc1),(1,I s1.1),(5,I s1.2.1)],fun Γ=>Γ.set 0 (sl3 (L ga0 p0 gc1) s1.q2),[])) (fun  (_:Unit)=>([(1,I rl1.1)],fun Γ=>Γ.set 0 (sl3 (L ga0 p0 gc1) rl1.2),[])) hit1 c () (c.rk [0] []) (fun s1 q1 _ _ _ c h hr1=>?_) fun _ _ _ c=>?_)
 refine S0 (P0 [] c fun _ c=>I0 c h (fun h=>?_) fun h=>?_)
 refine K0 (S0 (wp_block (T0 (Fp [] 3 c fun _ c=>Bd h fun x1 hx1 h=>Eset 0 c hx1 fun _ _ _ c=>?_))))
 refine E0 (Tq (P1 [] c fun _ c=>bk (tn (P1 [] c fun _ c=>Nx h () (c.rk [0] [])))))
 refine wp_exit (te (te (be ?_)))
 obtain rfl:=hr1 _ (sk h)
 exact tn ⟨(),c.rk [0] []⟩
 refine P0 [] c fun _ c=>?_
 cases h
 exact wp_ret (Rt c () [0] [])
theorem ZdV {p0 p1 gn12 gn13 gn14 gn15 gn16 gn17 r} (h:Zay n p0 p1 = some r):Con prog 16 [.agg #[I p0.Pc,.slice ga0 gn12 gc1,.slice ga2 gn13 gc3,.slice ga4 gn14 gc5,I p0.In,.slice ga6 gn15 gc7,I p0.Code,I p0.Steps,.slice ga8 gn16 gc9,.slice ga10 gn17 gc11],I p1] [OD (ownT 79) 79 (.slice ga0 gn12 gc1) p0.Regs,OD (ownT 79) 79 (.slice ga2 gn13 gc3) p0.Mem,sl3 (.slice ga4 gn14 gc5) p0.Stack,OD (ownT 79) 79 (.slice ga6 gn15 gc7) p0.Out,OD (ownT 79) 79 (.slice ga8 gn16 gc9) p0.Cond,sl3 (.slice ga10 gn17 gc11) p0.Turns] [] fun (_:Unit)=>([I r.1],[OD (ownT 79) 79 (.slice ga0 gn12 gc1) r.2.Regs,OD (ownT 79) 79 (.slice ga2 gn13 gc3) r.2.Mem,sl3 (.slice ga4 gn14 gc5) r.2.Stack,OD (ownT 79) 79 (.slice ga6 gn15 gc7) r.2.Out,OD (ownT 79) 79 (.slice ga8 gn16 gc9) r.2.Cond,sl3 (.slice ga10 gn17 gc11) r.2.Turns],[]):=by
 unfold Zay at h
 refine En func16 rfl ntmps16 fun _ fr w c=>?_
 obtain ⟨rfl,c⟩:=c.releno 0
 obtain ⟨rfl,c⟩:=c.releno 1
 obtain ⟨rfl,c⟩:=c.relen 2
 obtain ⟨rfl,c⟩:=c.releno 3
 obtain ⟨rfl,c⟩:=c.releno 4
 obtain ⟨rfl,c⟩:=c.relen 5
 refine T0 (Ebx (pC p0 ga0 gc1 ga2 gc3 ga4 gc5 ga6 gc7 ga8 gc9 ga10 gc11) c fun b1 _ _ c=>?_)
 refine Fp [] 1 c fun _ c=>E0 (T0 (Fp [(1,0)] 3 c fun _ c=>Bd h fun x1 hx1 h=>Ca [0] c (Yj hx1) tt call33 fun _ _ _ c=>?_))
 refine Fp [] 1 c fun _ c=>E0 (T0 (Fp [(1,0)] 3 c fun _ c=>Bd h fun x2 hx2 h=>Ca [0] c (Yj hx2) tt call33 fun _ _ _ c=>?_))
 refine Fp [] 1 c fun _ c=>E0 (T0 (Fp [(1,0)] 3 c fun _ c=>?_))
 replace c:=c.nf
 refine Bd h fun x3 hx3 h=>Ca [0] c (Zat hx3) tt call34 fun _ _ _ c=>?_
 refine Fp [] 1 c fun _ c=>E0 (T0 (Fp [(1,0)] 3 c fun _ c=>Bd h fun x4 hx4 h=>Ca [0] c (Yj hx4) tt call33 fun _ _ _ c=>?_))
 refine Fp [] 1 c fun _ c=>E0 (T0 (Fp [(1,0)] 3 c fun _ c=>Bd h fun x5 hx5 h=>Ca [0] c (Yj hx5) tt call33 fun _ _ _ c=>?_))
 refine Fp [] 1 c fun _ c=>E0 (T0 (Fp [(1,0)] 3 c fun _ c=>?_))
 replace c:=c.nf
 refine Bd h fun x6 hx6 h=>Ca [0] c (Zat hx6) tt call34 fun _ _ _ c=>?_
 refine Fp [] 1 c fun _ c=>E0 (P0 [] c fun _ c=>?_)
 cases h
 exact wp_ret (Rt c () [1,2,3,4,5,6] [])
theorem ZbI {p0 p1 gn2 r} (h:YI n p0 p1 = some r):Con prog 17 [.slice ga0 gn2 gc1,I p1] [OD (ownP 79 3) 42 (.slice ga0 gn2 gc1) p0] [] fun (_:Unit)=>([I r.1],[OD (ownP 79 3) 42 (.slice ga0 gn2 gc1) r.2],[]):=by
 unfold YI at h
 refine En func17 rfl ntmps17 fun _ fr w c=>?_
 obtain ⟨rfl,c⟩:=c.releno 0
 refine P0 [] c fun _ c=>S0 (P0 [] c fun _ c=>Bd h fun rl1 hit1 h=>Lp (fun s1  (_:Unit)=>([(0,L ga0 p0 gc1),(1,I s1.1),(5,I s1.2.1)],fun Γ=>Γ.set 0 (OD (ownP 79 3) 42 (L ga0 p0 gc1) s1.q2),[])) (fun  (_:Unit)=>([(1,I rl1.1)],fun Γ=>Γ.set 0 (OD (ownP 79 3) 42 (L ga0 p0 gc1) rl1.2),[])) hit1 c () (c.rk [0] []) (fun s1 q1 _ _ _ c h hr1=>?_) fun _ _ _ c=>?_)
 refine S0 (P0 [] c fun _ c=>I0 c h (fun h=>?_) fun h=>?_)
 refine K0 (S0 (wp_block (T0 (Fp [] 3 c fun _ c=>Bd h fun x1 hx1 h=>?_))))
 obtain ⟨a1,c1,a2,c2,a3,c3,a4,c4,a5,c5,a6,c6,c⟩:=c.fo_Path 0 hx1
 refine Eohs 0 (I s1.1) (Rw.Path.mk s1.1 (hd a1 x1.Regs c1) (hd a2 x1.Mem c2) (hd a3 x1.Stack c3) x1.In (hd a4 x1.Out c4) x1.Code x1.Steps (hd a5 x1.Cond c5) (hd a6 x1.Turns c6)) c fun _ _ _ _ c=>?_
 refine E0 (P0 [] c fun _ c=>T0 (Fp [] 2 c fun _ c=>?_))
 replace c:=c.nf
 refine Eohl 6 (L a1 x1.Regs c1) c fun _ _ _ c=>?_
 refine Fp [] 1 c fun _ c=>?_
 replace c:=c.nf
 refine Bd h fun x2 hx2 h=>Ca [0] c (Yj hx2) tt call33 fun _ _ _ c=>?_
 refine Fp [] 1 c fun _ c=>E0 (T0 (Fp [] 2 c fun _ c=>Eohl 5 (L a2 x1.Mem c2) c fun _ _ _ c=>?_))
 refine Fp [] 1 c fun _ c=>?_
 replace c:=c.nf
 refine Bd h fun x3 hx3 h=>Ca [0] c (Yj hx3) tt call33 fun _ _ _ c=>?_
 refine Fp [] 1 c fun _ c=>E0 (T0 (Fp [] 2 c fun _ c=>Eohl 5 (L a3 x1.Stack c3) c fun _ _ _ c=>?_))
 refine Fp [] 1 c fun _ c=>?_
 replace c:=c.nf
 refine Bd h fun x4 hx4 h=>Ca [0] c (Zat hx4) tt call34 fun _ _ _ c=>?_
 refine Fp [] 1 c fun _ c=>E0 (T0 (Fp [] 3 c fun _ c=>Eohs 5 (I x4.1) (Rw.Path.mk s1.1 (hd a1 x1.Regs c1) (hd a2 x1.Mem c2) (hd a3 x1.Stack c3) x4.1 (hd a4 x1.Out c4) x1.Code x1.Steps (hd a5 x1.Cond c5) (hd a6 x1.Turns c6)) c fun _ _ _ _ c=>?_))
 refine E0 (P0 [] c fun _ c=>T0 (Fp [] 2 c fun _ c=>?_))
 replace c:=c.nf
 refine Eohl 6 (L a4 x1.Out c4) c fun _ _ _ c=>?_
 refine Fp [] 1 c fun _ c=>?_
 replace c:=c.nf
 refine Bd h fun x5 hx5 h=>Ca [0] c (Yj hx5) tt call33 fun _ _ _ c=>?_
 refine Fp [] 1 c fun _ c=>E0 (T0 (Fp [] 3 c fun _ c=>Eohs 5 (I x5.1) (Rw.Path.mk s1.1 (hd a1 x1.Regs c1) (hd a2 x1.Mem c2) (hd a3 x1.Stack c3) x4.1 (hd a4 x1.Out c4) x5.1 x1.Steps (hd a5 x1.Cond c5) (hd a6 x1.Turns c6)) c fun _ _ _ _ c=>?_))
 refine E0 (P0 [] c fun _ c=>T0 (Fp [] 3 c fun _ c=>?_))
 replace c:=c.nf
 refine Eohs 6 (I (w64 (x5.1 + 1))) (Rw.Path.mk s1.1 (hd a1 x1.Regs c1) (hd a2 x1.Mem c2) (hd a3 x1.Stack c3) x4.1 (hd a4 x1.Out c4) x5.1 (w64 (x5.1 + 1)) (hd a5 x1.Cond c5) (hd a6 x1.Turns c6)) c fun _ _ _ _ c=>?_
 refine E0 (P0 [] c fun _ c=>T0 (Fp [] 2 c fun _ c=>?_))
 replace c:=c.nf
 refine Eohl 6 (L a5 x1.Cond c5) c fun _ _ _ c=>?_
 refine Fp [] 1 c fun _ c=>?_
 replace c:=c.nf
 refine Bd h fun x6 hx6 h=>Ca [0] c (Yj hx6) tt call33 fun _ _ _ c=>?_
 refine Fp [] 1 c fun _ c=>E0 (T1 (Fp [] 2 c fun _ c=>Eohl 5 (L a6 x1.Turns c6) c fun _ _ _ c=>?_))
 refine Fp [] 1 c fun _ c=>?_
 replace c:=c.nf
 refine Bd h fun x7 hx7 h=>Ca [0] c (Zat hx7) tt call34 fun _ _ _ c=>?_
 refine Fp [] 1 c fun _ c=>E1 (bk (tn (P1 [] c fun _ c=>Bd h fun x8 hx8 h=>?_)))
 replace c:=c.un_Path (ET:=79) (EI:=3) (E:=42) (v:=L ga0 p0 gc1) (y:=(D.Path.mk s1.1 x2.2 x3.2 x4.2 x4.1 x5.2 x5.1 (w64 (x5.1 + 1)) x6.2 x7.2)) (b0:=a1) (m0:=List.length x1.Regs) (c0:=c1) (b1:=a2) (m1:=List.length x1.Mem) (c1:=c2) (b2:=a3) (m2:=List.length x1.Stack) (c2:=c3) (b3:=a4) (m3:=List.length x1.Out) (c3:=c4) (b4:=a5) (m4:=List.length x1.Cond) (c4:=c5) (b5:=a6) (m5:=List.length x1.Turns) (c5:=c6) 5 0 1 2 3 4 6 hx8
 replace c:=c.nf
 exact Nx h () (c.rk [0] [])
 refine wp_exit (te (te (be ?_)))
 obtain rfl:=hr1 _ (sk h)
 exact tn ⟨(),c.rk [0] []⟩
 refine P0 [] c fun _ c=>?_
 cases h
 exact wp_ret (Rt c () [0] [])
theorem XU {n:Nat}:∀ {p0 p1 ga0 gc1 r} (h:Z5 n p0 p1 = some r),C0 35 [L ga0 p0 gc1,I p1] [lR ga0 p0 gc1] (I r):=by
 induction n with
 | zero=>intro p0 p1 ga0 gc1 r h; simp [Z5] at h
 | succ n ih=>
 intro p0 p1 ga0 gc1 r h
 rw [Z5] at h
 refine En func35 rfl ntmps35 fun _ fr w c=>?_
 refine P0 [] c fun _ c=>S0 (P0 [] c fun _ c=>Bd h fun rl1 hit1 h=>?_)
 have hk1:=h
 refine LpR (fun s1  (_:Unit)=>([(0,L ga0 p0 gc1),(1,I s1.1),(5,I s1.2)],id,[])) (fun s  (_:Unit)=>([(1,I s)],id,[])) hit1 c () (c.rk [] [0]) (fun s1 q1 _ _ _ c h hr1=>?_) fun s1r _ _ _ hrl c=>?_
 refine S0 (P0 [] c fun _ c=>I0 c h (fun h=>?_) fun h=>?_)
 refine K0 (S0 (wp_block (S0 (T0 (Fp [] 2 c fun _ c=>Bd h fun x1 hx1 h=>Eef c (.f 0) hx1 ZiM fun _ _ _ c=>?_)))))
 refine Fp [] 2 c fun _ c=>E0 (I0 c h (fun h=>?_) fun h=>?_)
 refine P0 [] c fun _ c=>?_
 obtain rfl:=hr1 _ (sk h)
 obtain rfl:=sj hk1
 exact wp_ret (tr (br (tr (tr (br (tr (Rt c () [] [])))))))
 refine K0 (P0 [] c fun _ c=>S0 (T0 (Fp [] 2 c fun _ c=>Bd h fun x2 hx2 h=>Eef c (.f 0) hx2 Zbr fun _ _ _ c=>?_)))
 refine Fp [] 2 c fun _ c=>E0 (I0 c h (fun h=>?_) fun h=>?_)
 refine P0 [] c fun _ c=>?_
 obtain rfl:=hr1 _ (sk h)
 obtain rfl:=sj hk1
 exact wp_ret (tr (br (tr (tr (br (tr (Rt c () [] [])))))))
 refine K0 (P0 [] c fun _ c=>S0 (T0 (Fp [] 2 c fun _ c=>Bd h fun x3 hx3 h=>Eef c (.f 0) hx3 ZkS fun _ _ _ c=>?_)))
 refine Fp [] 2 c fun _ c=>E0 (I0 c h (fun h=>?_) fun h=>?_)
 refine P0 [] c fun _ c=>?_
 obtain rfl:=hr1 _ (sk h)
 obtain rfl:=sj hk1
 exact wp_ret (tr (br (tr (tr (br (tr (Rt c () [] [])))))))
 refine K0 (P0 [] c fun _ c=>S0 (Bd h fun x4 hx4 h=>?_))
 obtain ⟨ep1,u1,c⟩:=c.elp (.f 0) hx4
 obtain ⟨a1,c1,rfl,c⟩:=c.o_Term 2
 refine Bd h fun x5 hx5 h=>S0 (rZ [(2,.eq (.pointer (some ep1))),(4,.eq (Str.val x4.Name)),(6,.eq (Str.val x5))] [] mix c ⟨Nie c 1,Nlc c 1 3,Ncl c (kN (ZbX hx5)) tt call52,tt⟩ fun _ _ c=>I0 c h (fun h=>?_) fun h=>?_)
 refine P0 [] c fun _ c=>?_
 obtain rfl:=hr1 _ (sk h)
 obtain rfl:=sj hk1
 exact wp_ret (tr (br (tr (tr (br (tr (Rt c () [] [])))))))
 refine K0 (P0 [] c fun _ c=>T0 (Fp [] 2 c fun _ c=>Bd h fun x6 hx6 h=>Eemf c (.f 0) hx6 ZgP fun _ _ u2 _ c=>?_))
 obtain ⟨a2,c2,rfl⟩:=c.sl 4
 refine Fp [] 1 c fun _ c=>Bd h fun x7 hx7 h=>Cb c (ih hx7) ⟨.f 4,tt⟩ call35 fun _ _ _ c=>?_
 refine Fp [] 1 c fun _ c=>E0 (P0 [] c fun _ c=>I0 c h (fun h=>?_) fun h=>?_)
 refine P0 [] c fun _ c=>?_
 obtain rfl:=hr1 _ (sk h)
 obtain rfl:=sj hk1
 exact wp_ret (br (tr (tr (br (tr (Rt c () [] []))))))
 refine K1 (bk (tn (P1 [] c fun _ c=>Nx h () (c.rk [] [0]))))
 refine wp_exit (te (te (be ?_)))
 obtain rfl:=hr1 _ (sk h)
 exact tn ⟨_,(),rfl,c.rk [] [0]⟩
 subst hrl
 exact P0 [] c fun _ c=>rE
theorem ZbT {p0 p1 r} (h:Yz n p0 p1 = some r):C0 36 [L ga0 p0 gc1,I p1] [lR ga0 p0 gc1] (I r):=by
 unfold Yz at h
 refine En func36 rfl ntmps36 fun _ fr w c=>?_
 refine P0 [] c fun _ c=>S0 (P0 [] c fun _ c=>Bd h fun rl1 hit1 h=>?_)
 have hk1:=h
 refine LpR (fun s1  (_:Unit)=>([(0,L ga0 p0 gc1),(1,I s1.1),(5,I s1.2)],id,[])) (fun s  (_:Unit)=>([(1,I s)],id,[])) hit1 c () (c.rk [] [0]) (fun s1 q1 _ _ _ c h hr1=>?_) fun s1r _ _ _ hrl c=>?_
 refine S0 (P0 [] c fun _ c=>I0 c h (fun h=>?_) fun h=>?_)
 refine K0 (S0 (wp_block (S0 (T0 (Fp [] 2 c fun _ c=>Bd h fun x1 hx1 h=>Eel c (.f 0) hx1 fun _ _ c=>?_)))))
 refine Fp [] 2 c fun _ c=>E0 (I0 c h (fun h=>?_) fun h=>?_)
 refine P0 [] c fun _ c=>?_
 obtain rfl:=hr1 _ (sk h)
 obtain rfl:=sj hk1
 exact wp_ret (tr (br (tr (tr (br (tr (Rt c () [] [])))))))
 refine K0 (Tq (P1 [] c fun _ c=>bk (tn (P1 [] c fun _ c=>Nx h () (c.rk [] [0])))))
 refine wp_exit (te (te (be ?_)))
 obtain rfl:=hr1 _ (sk h)
 exact tn ⟨_,(),rfl,c.rk [] [0]⟩
 subst hrl
 exact P0 [] c fun _ c=>rE
theorem ZbO {p0 p1 r} (h:X5 n p0 p1 = some r):C0 18 [L ga0 p0 gc1,I p1] [lR ga0 p0 gc1] (I r):=by
 unfold X5 at h
 refine En func18 rfl ntmps18 fun _ fr w c=>?_
 refine P0 [] c fun _ c=>S0 (P0 [] c fun _ c=>Bd h fun rl1 hit1 h=>?_)
 have hk1:=h
 refine LpR (fun s1  (_:Unit)=>([(0,L ga0 p0 gc1),(1,I s1.1),(5,I s1.2)],id,[])) (fun s  (_:Unit)=>([(1,I s)],id,[])) hit1 c () (c.rk [] [0]) (fun s1 q1 _ _ _ c h hr1=>?_) fun s1r _ _ _ hrl c=>?_
 refine S0 (P0 [] c fun _ c=>I0 c h (fun h=>?_) fun h=>?_)
 refine K0 (S0 (wp_block (S0 (T0 (Fp [] 2 c fun _ c=>Bd h fun x1 hx1 h=>Eef c (.f 0) hx1 Zla fun _ _ _ c=>?_)))))
 refine Fp [] 2 c fun _ c=>E0 (I0 c h (fun h=>?_) fun h=>?_)
 refine P0 [] c fun _ c=>?_
 obtain rfl:=hr1 _ (sk h)
 obtain rfl:=sj hk1
 exact wp_ret (tr (br (tr (tr (br (tr (Rt c () [] [])))))))
 refine K0 (P0 [] c fun _ c=>T0 (Fp [] 2 c fun _ c=>Bd h fun x2 hx2 h=>Eemf c (.f 0) hx2 ZjC fun _ _ u1 _ c=>?_))
 obtain ⟨a1,c1,rfl⟩:=c.sl 1
 refine Fp [] 1 c fun _ c=>Bd h fun x3 hx3 h=>Cb c (XU hx3) ⟨.f 1,tt⟩ call35 fun _ _ _ c=>?_
 refine Fp [] 1 c fun _ c=>E0 (S0 (P0 [] c fun _ c=>I0 c h (fun h=>?_) fun h=>?_))
 refine P0 [] c fun _ c=>?_
 obtain rfl:=hr1 _ (sk h)
 obtain rfl:=sj hk1
 exact wp_ret (tr (br (tr (tr (br (tr (Rt c () [] [])))))))
 refine K0 (T0 (Fp [] 2 c fun _ c=>Bd h fun x4 hx4 h=>Eemf c (.f 0) hx4 ZjY fun _ _ u2 _ c=>?_))
 obtain ⟨a2,c2,rfl⟩:=c.sl 2
 refine Fp [] 1 c fun _ c=>Bd h fun x5 hx5 h=>Cb c (XU hx5) ⟨.f 2,tt⟩ call35 fun _ _ _ c=>?_
 refine Fp [] 1 c fun _ c=>E0 (S0 (P0 [] c fun _ c=>I0 c h (fun h=>?_) fun h=>?_))
 refine P0 [] c fun _ c=>?_
 obtain rfl:=hr1 _ (sk h)
 obtain rfl:=sj hk1
 exact wp_ret (tr (br (tr (tr (br (tr (Rt c () [] [])))))))
 refine K0 (T0 (Fp [] 2 c fun _ c=>Bd h fun x6 hx6 h=>Eemf c (.f 0) hx6 ZiZ fun _ _ u3 _ c=>?_))
 obtain ⟨a3,c3,rfl⟩:=c.sl 3
 refine Fp [] 1 c fun _ c=>Bd h fun x7 hx7 h=>Cb c (ZbT hx7) ⟨.f 3,tt⟩ call36 fun _ _ _ c=>?_
 refine Fp [] 1 c fun _ c=>E0 (S0 (P0 [] c fun _ c=>I0 c h (fun h=>?_) fun h=>?_))
 refine P0 [] c fun _ c=>?_
 obtain rfl:=hr1 _ (sk h)
 obtain rfl:=sj hk1
 exact wp_ret (tr (br (tr (tr (br (tr (Rt c () [] [])))))))
 refine K0 (S0 (T0 (Fp [] 2 c fun _ c=>Bd h fun x8 hx8 h=>Eef c (.f 0) hx8 ZkX fun _ _ _ c=>?_)))
 refine Fp [] 2 c fun _ c=>E0 (I0 c h (fun h=>?_) fun h=>?_)
 refine P0 [] c fun _ c=>?_
 obtain rfl:=hr1 _ (sk h)
 obtain rfl:=sj hk1
 exact wp_ret (tr (br (tr (tr (br (tr (Rt c () [] [])))))))
 refine K0 (P0 [] c fun _ c=>T0 (Fp [] 2 c fun _ c=>Bd h fun x9 hx9 h=>Eemf c (.f 0) hx9 ZiQ fun _ _ u4 _ c=>?_))
 obtain ⟨a4,c4,rfl⟩:=c.sl 4
 refine Fp [] 1 c fun _ c=>Bd h fun x10 hx10 h=>Cb c (XU hx10) ⟨.f 4,tt⟩ call35 fun _ _ _ c=>?_
 refine Fp [] 1 c fun _ c=>E0 (S0 (P0 [] c fun _ c=>I0 c h (fun h=>?_) fun h=>?_))
 refine P0 [] c fun _ c=>?_
 obtain rfl:=hr1 _ (sk h)
 obtain rfl:=sj hk1
 exact wp_ret (tr (br (tr (tr (br (tr (Rt c () [] [])))))))
 refine K0 (S0 (T0 (Fp [] 2 c fun _ c=>Bd h fun x11 hx11 h=>Eef c (.f 0) hx11 Zld fun _ _ _ c=>?_)))
 refine Fp [] 2 c fun _ c=>E0 (I0 c h (fun h=>?_) fun h=>?_)
 refine P0 [] c fun _ c=>?_
 obtain rfl:=hr1 _ (sk h)
 obtain rfl:=sj hk1
 exact wp_ret (tr (br (tr (tr (br (tr (Rt c () [] [])))))))
 refine K0 (P0 [] c fun _ c=>S0 (T0 (Fp [] 2 c fun _ c=>Bd h fun x12 hx12 h=>Eef c (.f 0) hx12 ZkU fun _ _ _ c=>?_)))
 refine Fp [] 2 c fun _ c=>E0 (I0 c h (fun h=>?_) fun h=>?_)
 refine P0 [] c fun _ c=>?_
 obtain rfl:=hr1 _ (sk h)
 obtain rfl:=sj hk1
 exact wp_ret (tr (br (tr (tr (br (tr (Rt c () [] [])))))))
 refine K0 (P0 [] c fun _ c=>T0 (Fp [] 2 c fun _ c=>Bd h fun x13 hx13 h=>Eemf c (.f 0) hx13 ZjH fun _ _ u5 _ c=>?_))
 obtain ⟨a5,c5,rfl⟩:=c.sl 5
 refine Fp [] 1 c fun _ c=>Bd h fun x14 hx14 h=>Cb c (XU hx14) ⟨.f 5,tt⟩ call35 fun _ _ _ c=>?_
 refine Fp [] 1 c fun _ c=>E0 (S0 (P0 [] c fun _ c=>I0 c h (fun h=>?_) fun h=>?_))
 refine P0 [] c fun _ c=>?_
 obtain rfl:=hr1 _ (sk h)
 obtain rfl:=sj hk1
 exact wp_ret (tr (br (tr (tr (br (tr (Rt c () [] [])))))))
 refine K0 (T0 (Fp [] 2 c fun _ c=>?_))
 replace c:=c.nf
 refine Bd h fun x15 hx15 h=>Eemf c (.f 0) hx15 Zj4 fun _ _ u6 _ c=>?_
 obtain ⟨a6,c6,rfl⟩:=c.sl 6
 refine Fp [] 1 c fun _ c=>Bd h fun x16 hx16 h=>Cb c (ZbT hx16) ⟨.f 6,tt⟩ call36 fun _ _ _ c=>?_
 refine Fp [] 1 c fun _ c=>E0 (P0 [] c fun _ c=>I0 c h (fun h=>?_) fun h=>?_)
 refine P0 [] c fun _ c=>?_
 obtain rfl:=hr1 _ (sk h)
 obtain rfl:=sj hk1
 exact wp_ret (br (tr (tr (br (tr (Rt c () [] []))))))
 refine K1 (bk (tn (P1 [] c fun _ c=>Nx h () (c.rk [] [0]))))
 refine wp_exit (te (te (be ?_)))
 obtain rfl:=hr1 _ (sk h)
 exact tn ⟨_,(),rfl,c.rk [] [0]⟩
 subst hrl
 exact P0 [] c fun _ c=>rE
theorem Zbv {p0 p1 p2 r} (h:YE n p0 p1 p2 = some r):C0 3 [gV p0 ga0 gc1,pV p1 ga2 gc3 ga4 gc5 ga6 gc7 ga8 gc9 ga10 gc11 ga12 gc13,L ga14 p2 gc15] [lR ga0 p0.Code gc1,lR ga2 p1.Regs gc3,lR ga4 p1.Mem gc5,lR ga6 p1.Stack gc7,lR ga8 p1.Out gc9,lR ga10 p1.Cond gc11,lR ga12 p1.Turns gc13,lR ga14 p2 gc15,TBf prog] (.bool r):=by
 unfold YE at h
 refine En func3 rfl ntmps3 fun _ fr w c=>?_
 refine T0 (Ebx (gC p0 ga0 gc1) c fun b1 _ _ c=>?_)
 refine Ebx (pC p1 ga2 gc3 ga4 gc5 ga6 gc7 ga8 gc9 ga10 gc11 ga12 gc13) c fun b2 _ _ c=>?_
 refine Fp [] 1 c fun _ c=>E0 (P0 [] c fun _ c=>T0 (Fp [(0,0)] 2 c fun _ c=>Bd h fun x1 hx1 h=>Cb c (Zd4 hx1) ⟨.f 0,tt⟩ call4 fun _ _ _ c=>?_))
 refine Fp [] 1 c fun _ c=>E0 (S0 (P0 [] c fun _ c=>I0 c h (fun h=>P0 [] c fun _ c=>rE) fun h=>?_))
 replace c:=c.ng
 refine K0 (T0 (Fp [(0,1)] 2 c fun _ c=>Bd h fun x2 hx2 h=>Cb c (Zct hx2) ⟨.f 1,.f 2,.f 3,.f 4,.f 5,.f 6,tt⟩ call5 fun _ _ _ c=>?_))
 refine Fp [] 1 c fun _ c=>E0 (S0 (P0 [] c fun _ c=>I0 c h (fun h=>P0 [] c fun _ c=>rE) fun h=>?_))
 replace c:=c.ng
 refine K0 (T0 (Fp [] 2 c fun _ c=>Bd h fun x3 hx3 h=>Cb c (Zeq hx3) ⟨.f 7,tt⟩ call6 fun _ _ _ c=>?_))
 refine Fp [] 1 c fun _ c=>E0 (S0 (P0 [] c fun _ c=>I0 c h (fun h=>P0 [] c fun _ c=>rE) fun h=>?_))
 replace c:=c.ng
 refine K0 (Bd h fun x4 hx4 h=>Bd h fun x5 hx5 h=>Bd h fun x6 hx6 h=>Bd h fun x7 hx7 h=>S0 (Jn (fun i:Oh=>([(2,L ga14 p2 gc15),(3,B b1 0),(4,B b2 0),(8,L i.1 x7.1 i.2),(9,.bool x7.2)],id,[lR i.1 x7.1 i.2])) c ?_ fun i9 _ _ c=>?_))
 refine As mix c fun _ c=>?_
 replace c:=Cx.frs [(2,L ga14 p2 gc15),(3,B b1 0),(4,B b2 0)] c
 refine Dq (fun i:Oh=>([(2,L ga14 p2 gc15),(3,B b1 0),(4,B b2 0),(42,.tuple #[L i.1 x7.1 i.2,.bool x7.2])],id,[lR i.1 x7.1 i.2])) (bN 12 127) (fun i=>[(7,35,.tuple #[L i.1 x7.1 i.2,.bool x7.2]),(8,43,L i.1 x7.1 i.2),(9,44,.bool x7.2),(10,8,L i.1 x7.1 i.2),(11,9,.bool x7.2)]) c (fun i8=>?_) fun hd4=>?_
 obtain ⟨a17,c17⟩:=i8
 refine qnE ⟨qP [],qP [],qP [],qP [],qP [],tt⟩ fun _ _ c=>?_
 exact nN (a17,c17) (c.rk [0,1] (rg 10))
 refine Dq (fun i:Ob (Ob (Hp))=>([(2,L ga14 p2 gc15),(3,B b1 0),(4,B b2 0),(37,gV x4 i.1 i.2.1),(39,pK x5 i.q2),(41,L i.p14 x6 i.q15)],fun Γ=>Γ ++ [sl57 (L i.1 x4.Code i.2.1) x4.Code,OD (ownT 79) 79 (L i.p2 x5.Regs i.p3) x5.Regs,OD (ownT 79) 79 (L i.p4 x5.Mem i.p5) x5.Mem,sl3 (L i.p6 x5.Stack i.p7) x5.Stack,OD (ownT 79) 79 (L i.p8 x5.Out i.p9) x5.Out,OD (ownT 79) 79 (L i.p10 x5.Cond i.p11) x5.Cond,sl3 (L i.p12 x5.Turns i.p13) x5.Turns,OD (ownP 79 3) 42 (L i.p14 x6 i.q15) x6],[])) (bN 12 63) (fun i=>[]) c (fun i6=>?_) fun hd3=>?_
 obtain ⟨a9,c9,a10,c10,a11,c11,a12,c12,a13,c13,a14,c14,a15,c15,a16,c16⟩:=i6
 refine qn [6] tt ⟨fun _ _ c=>?_,tt⟩
 refine Zc _ rfl rfl ?_
 replace c:=c.fz 2
 replace c:=c.fzo (YU 79) 2
 replace c:=c.fzo (YU 79) 2
 replace c:=c.fz 2
 replace c:=c.fzo (YU 79) 2
 replace c:=c.fzo (YU 79) 2
 replace c:=c.fz 2
 replace c:=c.fzo (ZbQ 79 3) 2
 replace c:=c.ng
 refine Cg c (Zc6 hx7) ⟨.f 9,.f 10,.f 11,.f 12,.f 13,.f 14,.f 15,.f 16,tt⟩ call7 fun i7 _ _ c=>?_
 refine E0 (nQ hd4 (i7.1,i7.2) (c.rk [0,1] [0,1,2,3,4,5,6,7,8,17]))
 refine Dq (fun i:Ob (Hp)=>([(2,L ga14 p2 gc15),(3,B b1 0),(4,B b2 0),(37,gV x4 i.1 i.2.1),(39,pJ x5 i.q2)],fun Γ=>Γ ++ [sl57 (L i.1 x4.Code i.2.1) x4.Code,OD (ownT 79) 79 (L i.p2 x5.Regs i.p3) x5.Regs,OD (ownT 79) 79 (L i.p4 x5.Mem i.p5) x5.Mem,sl3 (L i.p6 x5.Stack i.p7) x5.Stack,OD (ownT 79) 79 (L i.p8 x5.Out i.p9) x5.Out,OD (ownT 79) 79 (L i.p10 x5.Cond i.p11) x5.Cond,sl3 (L i.p12 x5.Turns i.q13) x5.Turns],[])) (bN 12 15) (fun i=>[(4,40,L ga14 p2 gc15)]) c (fun i4=>?_) fun hd2=>?_
 obtain ⟨a2,c2,a3,c3,a4,c4,a5,c5,a6,c6,a7,c7,a8,c8⟩:=i4
 refine qn [5] ⟨qP [],tt⟩ ⟨fun _ _ c=>?_,tt⟩
 refine Zc _ rfl rfl ?_
 replace c:=c.ng
 refine Cb c (Za4 hx6) ⟨.f 7,tt⟩ call10 fun i5 _ _ c=>?_
 refine E0 (nQ hd3 (a2,c2,a3,c3,a4,c4,a5,c5,a6,c6,a7,c7,a8,c8,i5.1,i5.2) (c.rk (rg 10) (rg 9)))
 refine Dq (fun i:Oh=>([(2,L ga14 p2 gc15),(3,B b1 0),(4,B b2 0),(37,gV x4 i.1 i.2)],fun Γ=>Γ ++ [sl57 (L i.1 x4.Code i.2) x4.Code],[])) (bN 12 3) (fun i=>[(2,38,pV p1 ga2 gc3 ga4 gc5 ga6 gc7 ga8 gc9 ga10 gc11 ga12 gc13),(4,40,L ga14 p2 gc15)]) c (fun i2=>?_) fun hd1=>?_
 obtain ⟨a1,c1⟩:=i2
 refine qn [3] ⟨qP [(0,1)],qP [],tt⟩ ⟨fun _ _ c=>?_,tt⟩
 refine Zc _ rfl rfl ?_
 replace c:=c.ng
 refine Cb c (Zal hx5) ⟨.f 1,.f 2,.f 3,.f 4,.f 5,.f 6,tt⟩ call9 fun i3 _ _ c=>?_
 refine E0 (nQ hd2 (a1,c1,i3.1,i3.2.1,i3.p2,i3.p3,i3.p4,i3.p5,i3.p6,i3.p7,i3.p8,i3.p9,i3.p10,i3.q11) (c.rk (rg 9) (rg 9)))
 refine q0 (qs:=[(0,36,gV p0 ga0 gc1),(2,38,pV p1 ga2 gc3 ga4 gc5 ga6 gc7 ga8 gc9 ga10 gc11 ga12 gc13),(4,40,L ga14 p2 gc15)]) c (qn [1] ⟨qP [(0,0)],qP [(0,1)],qP [],tt⟩ ⟨fun _ _ c=>?_,tt⟩)
 refine Zc _ rfl rfl ?_
 replace c:=c.ng
 refine Cb c (XV hx4) ⟨.f 0,tt⟩ call8 fun i1 _ _ c=>?_
 refine E0 (nQ hd1 (i1.1,i1.2) (c.rk [0,1,2] (rg 9)))
 obtain ⟨a18,c18⟩:=i9
 refine T0 (Fp [(0,0)] 1 c fun _ c=>Bd h fun x8 hx8 h=>Cb c (XV hx8) ⟨.f 0,tt⟩ call8 fun i10 _ _ c=>?_)
 refine Eal [I 0,I 0,I 0,L none ([]:List D.Ins) 0] c fun b3 _ _ c=>?_
 refine Ess 3 (gC x8 i10.1 i10.2) c fun _ c=>?_
 replace c:=c.ng
 refine E0 (T0 (Fp [(0,1)] 1 c fun _ c=>Bd h fun x9 hx9 h=>Cb c (Zal hx9) ⟨.f 1,.f 2,.f 3,.f 4,.f 5,.f 6,tt⟩ call9 fun i11 _ _ c=>?_))
 replace c:=c.ng
 refine Eal pZ c fun b4 _ _ c=>?_
 refine Ess 10 (pM x9 i11) c fun _ c=>?_
 refine E0 (T0 (Fp [] 1 c fun _ c=>?_))
 replace c:=c.ng
 refine Bd h fun x10 hx10 h=>Cb c (Za4 hx10) ⟨.f 7,tt⟩ call10 fun i12 _ _ c=>?_
 replace c:=c.ng
 refine Fp [] 1 c fun _ c=>E0 (T0 (Fp [(0,2),(1,3)] 3 c fun _ c=>Bd h fun x11 hx11 h=>Cb c (Zbi hx11) ⟨.g 2,.go (YU 79) 4,.go (YU 79) 5,.g 6,.go (YU 79) 7,.go (YU 79) 8,.g 9,.go (ZbQ 79 3) 11,.f 8,tt⟩ call11 fun i13 _ _ c=>?_))
 replace c:=c.ng
 refine Fp [] 5 c fun _ c=>E0 (S0 (Bd h fun x12 hx12 h=>S0 (rZ [(2,.eq (.bool x12))] [] mix c ⟨Ncl c (kN (Za3 hx12)) ⟨.go (ZbQ 79 3) 12,.f 9,tt⟩ call12,tt⟩ fun _ _ c=>I0 c h (fun h=>?_) fun h=>?_)))
 exact P0 [] c fun _ c=>rE
 replace c:=c.ng
 refine K0 (S0 (Bd h fun x13 hx13 h=>Bd h fun x14 hx14 h=>S0 (Jn (fun _:Unit=>([(2,L ga14 p2 gc15),(3,B b1 0),(4,B b2 0),(8,L a18 x7.1 c18),(9,.bool x7.2),(10,B b3 0),(11,B b4 0),(12,L i12.1 x10 i12.2),(13,L i13.1 x11.1 i13.2),(14,.bool x11.2),(71,.bool (!x14))],id,[])) c ?_ fun _ _ _ c=>?_)))
 refine As mix c fun _ c=>?_
 replace c:=Cx.frs [(2,L ga14 p2 gc15),(3,B b1 0),(4,B b2 0),(8,L a18 x7.1 c18),(9,.bool x7.2),(10,B b3 0),(11,B b4 0),(12,L i12.1 x10 i12.2),(13,L i13.1 x11.1 i13.2),(14,.bool x11.2)] c
 refine Dq (fun _:Unit=>([(2,L ga14 p2 gc15),(3,B b1 0),(4,B b2 0),(8,L a18 x7.1 c18),(9,.bool x7.2),(10,B b3 0),(11,B b4 0),(12,L i12.1 x10 i12.2),(13,L i13.1 x11.1 i13.2),(14,.bool x11.2),(70,.bool x14)],id,[])) (bN 5 15) (fun _=>[(4,71,.bool (!x14))]) c (fun _=>?_) fun hd6=>?_
 refine qnE ⟨qP [],tt⟩ fun _ _ c=>?_
 exact nN () (c.rk (rg 13) (rg 10))
 refine Dq (fun i:Oh=>([(2,L ga14 p2 gc15),(3,B b1 0),(4,B b2 0),(8,L a18 x7.1 c18),(9,.bool x7.2),(10,B b3 0),(11,B b4 0),(12,L i12.1 x10 i12.2),(13,L i13.1 x11.1 i13.2),(14,.bool x11.2),(69,gV x13 i.1 i.2)],fun Γ=>Γ ++ [sl57 (L i.1 x13.Code i.2) x13.Code],[])) (bN 5 6) (fun i=>[(0,67,gV x8 i10.1 i10.2)]) c (fun i15=>?_) fun hd5=>?_
 obtain ⟨a19,c19⟩:=i15
 refine qn [3] ⟨qP [(0,2)],tt⟩ ⟨fun _ _ c=>?_,tt⟩
 refine Zc _ rfl rfl ?_
 replace c:=c.ng
 refine Cb c (Zdz hx14) ⟨.g 2,.g 13,tt⟩ call13 fun _ _ _ c=>?_
 refine E0 (nQ hd6 () (c.rk (rg 13) (rg 10)))
 refine q0 (qs:=[(0,67,gV x8 i10.1 i10.2),(1,68,gV p0 ga0 gc1)]) c (qn [2] ⟨qP [(0,2)],qP [(0,0)],tt⟩ ⟨fun _ _ c=>?_,tt⟩)
 refine Zc _ rfl rfl ?_
 replace c:=c.ng
 refine Cb c (XV hx13) ⟨.f 0,tt⟩ call8 fun i14 _ _ c=>?_
 refine E0 (nQ hd5 (i14.1,i14.2) (c.rk (rg 14) (rg 10)))
 refine I0 c h (fun h=>P0 [] c fun _ c=>rE) fun h=>?_
 replace c:=c.ng
 refine K0 (S0 (Bd h fun x15 hx15 h=>Bd h fun x16 hx16 h=>S0 (Jn (fun _:Unit=>([(2,L ga14 p2 gc15),(3,B b1 0),(4,B b2 0),(8,L a18 x7.1 c18),(9,.bool x7.2),(10,B b3 0),(11,B b4 0),(12,L i12.1 x10 i12.2),(13,L i13.1 x11.1 i13.2),(14,.bool x11.2),(76,.bool (!x16))],id,[])) c ?_ fun _ _ _ c=>?_)))
 refine As mix c fun _ c=>?_
 replace c:=Cx.frs [(2,L ga14 p2 gc15),(3,B b1 0),(4,B b2 0),(8,L a18 x7.1 c18),(9,.bool x7.2),(10,B b3 0),(11,B b4 0),(12,L i12.1 x10 i12.2),(13,L i13.1 x11.1 i13.2),(14,.bool x11.2)] c
 refine Dq (fun _:Unit=>([(2,L ga14 p2 gc15),(3,B b1 0),(4,B b2 0),(8,L a18 x7.1 c18),(9,.bool x7.2),(10,B b3 0),(11,B b4 0),(12,L i12.1 x10 i12.2),(13,L i13.1 x11.1 i13.2),(14,.bool x11.2),(75,.bool x16)],id,[])) (bN 5 15) (fun _=>[(4,76,.bool (!x16))]) c (fun _=>?_) fun hd8=>?_
 refine qnE ⟨qP [],tt⟩ fun _ _ c=>?_
 exact nN () (c.rk (rg 13) (rg 10))
 refine Dq (fun i:Hp=>([(2,L ga14 p2 gc15),(3,B b1 0),(4,B b2 0),(8,L a18 x7.1 c18),(9,.bool x7.2),(10,B b3 0),(11,B b4 0),(12,L i12.1 x10 i12.2),(13,L i13.1 x11.1 i13.2),(14,.bool x11.2),(74,pJ x15 i)],fun Γ=>Γ ++ [OD (ownT 79) 79 (L i.1 x15.Regs i.2.1) x15.Regs,OD (ownT 79) 79 (L i.p2 x15.Mem i.p3) x15.Mem,sl3 (L i.p4 x15.Stack i.p5) x15.Stack,OD (ownT 79) 79 (L i.p6 x15.Out i.p7) x15.Out,OD (ownT 79) 79 (L i.p8 x15.Cond i.p9) x15.Cond,sl3 (L i.p10 x15.Turns i.q11) x15.Turns],[])) (bN 5 6) (fun i=>[(0,72,pJ x9 i11)]) c (fun i17=>?_) fun hd7=>?_
 obtain ⟨a20,c20,a21,c21,a22,c22,a23,c23,a24,c24,a25,c25⟩:=i17
 refine qn [3] ⟨qP [(0,3)],tt⟩ ⟨fun _ _ c=>?_,tt⟩
 refine Zc _ rfl rfl ?_
 replace c:=c.ng
 refine Cb c (Zcu hx16) ⟨.go (YU 79) 4,.go (YU 79) 5,.g 6,.go (YU 79) 7,.go (YU 79) 8,.g 9,.go (YU 79) 13,.go (YU 79) 14,.g 15,.go (YU 79) 16,.go (YU 79) 17,.g 18,tt⟩ call14 fun _ _ _ c=>?_
 refine E0 (nQ hd8 () (c.rk (rg 13) (rg 10)))
 refine q0 (qs:=[(0,72,pJ x9 i11),(1,73,pV p1 ga2 gc3 ga4 gc5 ga6 gc7 ga8 gc9 ga10 gc11 ga12 gc13)]) c (qn [2] ⟨qP [(0,3)],qP [(0,1)],tt⟩ ⟨fun _ _ c=>?_,tt⟩)
 refine Zc _ rfl rfl ?_
 replace c:=c.ng
 refine Cb c (Zal hx15) ⟨.f 1,.f 2,.f 3,.f 4,.f 5,.f 6,tt⟩ call9 fun i16 _ _ c=>?_
 refine E0 (nQ hd7 (i16.1,i16.2.1,i16.p2,i16.p3,i16.p4,i16.p5,i16.p6,i16.p7,i16.p8,i16.p9,i16.p10,i16.q11) (c.rk (rg 19) (rg 10)))
 refine I0 c h (fun h=>P0 [] c fun _ c=>rE) fun h=>?_
 replace c:=c.ng
 refine K0 (S0 (T0 (Fp [] 2 c fun _ c=>Bd h fun x17 hx17 h=>Cb c (Za4 hx17) ⟨.f 7,tt⟩ call10 fun i18 _ _ c=>?_)))
 replace c:=c.ng
 refine Bd h fun x18 hx18 h=>Cb c (Za3 hx18) ⟨.go (ZbQ 79 3) 11,.go (ZbQ 79 3) 13,tt⟩ call12 fun _ _ _ c=>?_
 refine Fp [] 1 c fun _ c=>E0 (I0 c h (fun h=>P0 [] c fun _ c=>rE) fun h=>?_)
 refine K0 (P0 [] c fun _ c=>T0 (Fp [(0,2)] 2 c fun _ c=>?_))
 replace c:=c.ng
 refine Bd h fun x19 hx19 h=>Ca [2] c (ZcR hx19) tt call15 fun _ _ _ c=>?_
 replace c:=c.ng
 refine Fp [] 1 c fun _ c=>E0 (T0 (Fp [(0,3)] 2 c fun _ c=>Bd h fun x20 hx20 h=>Ca [3,4,5,6,7,8] c (ZdV hx20) tt call16 fun _ _ _ c=>?_))
 refine Fp [] 1 c fun _ c=>E0 (T0 (Fp [] 2 c fun _ c=>?_))
 replace c:=c.ng
 refine Bd h fun x21 hx21 h=>Ca [4] c (ZbI hx21) tt call17 fun _ _ _ c=>?_
 replace c:=c.ng
 refine Fp [] 1 c fun _ c=>E0 (S0 (Bd h fun x22 hx22 h=>S0 (rZ [(5,.eq (.bool x22))] [] mix c ⟨Ncl c (fun hg=>Za3 (iteF (gcF hg) hx22)) ⟨.go (ZbQ 79 3) 4,.f 9,tt⟩ call12,tt⟩ fun _ _ c=>I0 c h (fun h=>?_) fun h=>?_)))
 exact P0 [] c fun _ c=>rE
 replace c:=c.ng
 refine K0 (P0 [] c fun _ c=>T0 (Fp [] 2 c fun _ c=>Bd h fun x23 hx23 h=>Ca [4] c (ZbI hx23) tt call17 fun _ _ _ c=>?_))
 refine Fp [] 1 c fun _ c=>E0 (P0 [] c fun _ c=>T0 (Fp [] 2 c fun _ c=>?_))
 replace c:=c.ng
 obtain ⟨he1,c⟩:=c.releno 13
 replace c:=c.eqs (v:=L i13.1 x11.1 i13.2) (u:=L i13.1 x23.2 i13.2) 13 (by simp only [L,he1])
 replace c:=c.eqs (v:=L i13.1 x11.1 i13.2) (u:=L i13.1 x23.2 i13.2) 107 (by simp only [L,he1])
 replace c:=c.ng
 refine Bd h fun x24 hx24 h=>Cb c (ZbO hx24) ⟨.go (ZbQ 79 3) 13,tt⟩ call18 fun _ _ _ c=>?_
 refine Fp [] 1 c fun _ c=>E0 (S0 (P0 [] c fun _ c=>I0 c h (fun h=>P0 [] c fun _ c=>rE) fun h=>?_))
 refine K0 (S0 (P0 [] c fun _ c=>I0 c h (fun h=>P0 [] c fun _ c=>rE) fun h=>?_))
 replace c:=c.ng
 refine K0 (Bd h fun x25 hx25 h=>Bd h fun x26 hx26 h=>Bd h fun x27 hx27 h=>Bd h fun x28 hx28 h=>S0 (Jn (fun i:Oh=>([(8,L a18 x7.1 c18),(9,.bool x7.2),(13,L i13.1 x23.2 i13.2),(16,I x23.1),(18,L i.1 x28.1 i.2),(19,.bool x28.2)],fun Γ=>Γ ++ [OD (ownP 79 3) 42 (L i.1 x28.1 i.2) x28.1],[])) c ?_ fun i27 _ _ c=>?_))
 refine As mix c fun _ c=>?_
 replace c:=Cx.frs [(2,L ga14 p2 gc15),(3,B b1 0),(4,B b2 0),(8,L a18 x7.1 c18),(9,.bool x7.2),(13,L i13.1 x23.2 i13.2),(16,I x23.1)] c
 refine Dq (fun i:Oh=>([(8,L a18 x7.1 c18),(9,.bool x7.2),(13,L i13.1 x23.2 i13.2),(16,I x23.1),(122,.tuple #[L i.1 x28.1 i.2,.bool x28.2])],fun Γ=>Γ ++ [OD (ownP 79 3) 42 (L i.1 x28.1 i.2) x28.1],[])) (bN 12 127) (fun i=>[(7,115,.tuple #[L i.1 x28.1 i.2,.bool x28.2]),(8,123,L i.1 x28.1 i.2),(9,124,.bool x28.2),(10,18,L i.1 x28.1 i.2),(11,19,.bool x28.2)]) c (fun i26=>?_) fun hd12=>?_
 obtain ⟨a42,c42⟩:=i26
 refine qnE ⟨qP [],qP [],qP [],qP [],qP [],tt⟩ fun _ _ c=>?_
 exact nN (a42,c42) (c.rk (rg 15) (rg 10))
 refine Dq (fun i:Ob (Ob (Hp))=>([(8,L a18 x7.1 c18),(9,.bool x7.2),(13,L i13.1 x23.2 i13.2),(16,I x23.1),(117,gV x25 i.1 i.2.1),(119,pK x26 i.q2),(121,L i.p14 x27 i.q15)],fun Γ=>Γ ++ [sl57 (L i.1 x25.Code i.2.1) x25.Code,OD (ownT 79) 79 (L i.p2 x26.Regs i.p3) x26.Regs,OD (ownT 79) 79 (L i.p4 x26.Mem i.p5) x26.Mem,sl3 (L i.p6 x26.Stack i.p7) x26.Stack,OD (ownT 79) 79 (L i.p8 x26.Out i.p9) x26.Out,OD (ownT 79) 79 (L i.p10 x26.Cond i.p11) x26.Cond,sl3 (L i.p12 x26.Turns i.p13) x26.Turns,OD (ownP 79 3) 42 (L i.p14 x27 i.q15) x27],[])) (bN 12 63) (fun i=>[]) c (fun i24=>?_) fun hd11=>?_
 obtain ⟨a34,c34,a35,c35,a36,c36,a37,c37,a38,c38,a39,c39,a40,c40,a41,c41⟩:=i24
 refine qn [6] tt ⟨fun _ _ c=>?_,tt⟩
 refine Zc _ rfl rfl ?_
 replace c:=c.ng
 refine Cb c (Zbi hx28) ⟨.g 14,.go (YU 79) 15,.go (YU 79) 16,.g 17,.go (YU 79) 18,.go (YU 79) 19,.g 20,.go (ZbQ 79 3) 21,.f 8,tt⟩ call11 fun i25 _ _ c=>?_
 refine E0 (nQ hd12 (i25.1,i25.2) (c.rk [0,1,2,3,4,5,6,7,8,9,10,11,12,13,22] (rg 10)))
 refine Dq (fun i:Ob (Hp)=>([(2,L ga14 p2 gc15),(8,L a18 x7.1 c18),(9,.bool x7.2),(13,L i13.1 x23.2 i13.2),(16,I x23.1),(117,gV x25 i.1 i.2.1),(119,pJ x26 i.q2)],fun Γ=>Γ ++ [sl57 (L i.1 x25.Code i.2.1) x25.Code,OD (ownT 79) 79 (L i.p2 x26.Regs i.p3) x26.Regs,OD (ownT 79) 79 (L i.p4 x26.Mem i.p5) x26.Mem,sl3 (L i.p6 x26.Stack i.p7) x26.Stack,OD (ownT 79) 79 (L i.p8 x26.Out i.p9) x26.Out,OD (ownT 79) 79 (L i.p10 x26.Cond i.p11) x26.Cond,sl3 (L i.p12 x26.Turns i.q13) x26.Turns],[])) (bN 12 15) (fun i=>[(4,120,L ga14 p2 gc15)]) c (fun i22=>?_) fun hd10=>?_
 obtain ⟨a27,c27,a28,c28,a29,c29,a30,c30,a31,c31,a32,c32,a33,c33⟩:=i22
 refine qn [5] ⟨qP [],tt⟩ ⟨fun _ _ c=>?_,tt⟩
 refine Zc _ rfl rfl ?_
 replace c:=c.ng
 refine Cb c (Za4 hx27) ⟨.f 7,tt⟩ call10 fun i23 _ _ c=>?_
 refine E0 (nQ hd11 (a27,c27,a28,c28,a29,c29,a30,c30,a31,c31,a32,c32,a33,c33,i23.1,i23.2) (c.rk (rg 22) (rg 10)))
 refine Dq (fun i:Oh=>([(2,L ga14 p2 gc15),(4,B b2 0),(8,L a18 x7.1 c18),(9,.bool x7.2),(13,L i13.1 x23.2 i13.2),(16,I x23.1),(117,gV x25 i.1 i.2)],fun Γ=>Γ ++ [sl57 (L i.1 x25.Code i.2) x25.Code],[])) (bN 12 3) (fun i=>[(2,118,pV p1 ga2 gc3 ga4 gc5 ga6 gc7 ga8 gc9 ga10 gc11 ga12 gc13),(4,120,L ga14 p2 gc15)]) c (fun i20=>?_) fun hd9=>?_
 obtain ⟨a26,c26⟩:=i20
 refine qn [3] ⟨qP [(0,1)],qP [],tt⟩ ⟨fun _ _ c=>?_,tt⟩
 refine Zc _ rfl rfl ?_
 replace c:=c.ng
 refine Cb c (Zal hx26) ⟨.f 1,.f 2,.f 3,.f 4,.f 5,.f 6,tt⟩ call9 fun i21 _ _ c=>?_
 refine E0 (nQ hd10 (a26,c26,i21.1,i21.2.1,i21.p2,i21.p3,i21.p4,i21.p5,i21.p6,i21.p7,i21.p8,i21.p9,i21.p10,i21.q11) (c.rk (rg 21) (rg 10)))
 refine q0 (qs:=[(0,116,gV p0 ga0 gc1),(2,118,pV p1 ga2 gc3 ga4 gc5 ga6 gc7 ga8 gc9 ga10 gc11 ga12 gc13),(4,120,L ga14 p2 gc15)]) c (qn [1] ⟨qP [(0,0)],qP [(0,1)],qP [],tt⟩ ⟨fun _ _ c=>?_,tt⟩)
 refine Zc _ rfl rfl ?_
 replace c:=c.ng
 refine Cb c (XV hx25) ⟨.f 0,tt⟩ call8 fun i19 _ _ c=>?_
 refine E0 (nQ hd9 (i19.1,i19.2) (c.rk (rg 15) (rg 10)))
 obtain ⟨a43,c43⟩:=i27
 refine S0 (Bd h fun x29 hx29 h=>S0 (rZ [(2,.eq (.bool x29))] [] mix c ⟨Ncl c (kN (Za3 hx29)) ⟨.go (ZbQ 79 3) 14,.f 9,tt⟩ call12,tt⟩ fun _ _ c=>I0 c h (fun h=>?_) fun h=>?_))
 exact P0 [] c fun _ c=>rE
 replace c:=c.ng
 refine K0 (P0 [] c fun _ c=>T0 (Fp [] 2 c fun _ c=>Bd h fun x30 hx30 h=>Cb c (ZbO hx30) ⟨.go (ZbQ 79 3) 13,tt⟩ call18 fun _ _ _ c=>?_))
 exact Fp [] 1 c fun _ c=>E0 (S0 (P0 [] c fun _ c=>I0 c h (fun h=>P0 [] c fun _ c=>rE) fun h=>K0 (S0 (P0 [] c fun _ c=>I0 c h (fun h=>P0 [] c fun _ c=>rE) fun h=>K0 (P0 [] c fun _ c=>rE)))))
end Go.Proofs.YtlkojmondogmlaaGreatDoor
