/- The walks, printed by a program. -/
import Derived.Test.YthilnjkcemdfeaaGreatWlkA
set_option linter.unusedVariables false
set_option linter.unusedSimpArgs false
set_option maxRecDepth 100000
set_option maxHeartbeats 40000000
namespace Go.Proofs.YthilnjkcemdfeaaGreat
open Go.GL Go.Maps Go.WideMaps Tryz
variable {n:Nat} {ga0 ga2:Option Addr} {gc1 gc3:Nat}
theorem XJ (n:Nat):(∀ {p0 p1 ga0 gc1 ga2 gc3 r} (h:YX n p0 p1 = some r),C0 52 [L ga0 p0 gc1,L ga2 p1 gc3] [lR ga0 p0 gc1,lR ga2 p1 gc3] (.bool r)) ∧
    (∀ {p0 p1 ga0 gc1 ga2 gc3 r} (h:Y7 n p0 p1 = some r),C0 17 [tV p0 ga0 gc1,tV p1 ga2 gc3] [lR ga0 p0.Kids gc1,lR ga2 p1.Kids gc3] (.bool r)):=by
 induction n with
 | zero=>exact ⟨by intro p0 p1 ga0 gc1 ga2 gc3 r h; simp [YX] at h,by intro p0 p1 ga0 gc1 ga2 gc3 r h; simp [Y7] at h⟩
 | succ n ih=>
 obtain ⟨ih0,ih1⟩:=ih
 refine ⟨?_,?_⟩
 · intro p0 p1 ga0 gc1 ga2 gc3 r h
   rw [YX] at h
   refine En func52 rfl ntmps52 fun _ fr w c=>?_
   refine P0 [] c fun _ c=>S0 (P0 [] c fun _ c=>I0 c h (fun h=>P0 [] c fun _ c=>rE) fun h=>?_)
   refine K0 (S0 (P0 [] c fun _ c=>Bd h fun rl1 hit1 h=>?_))
   have hk1:=h
   refine LpR (fun s1  (_:Unit)=>([(0,L ga0 p0 gc1),(1,L ga2 p1 gc3),(5,I s1)],id,[])) (fun s  (_:Unit)=>([],id,[])) hit1 c () (c.rk [] [0,1]) (fun s1 q1 _ _ _ c h hr1=>?_) fun s1r _ _ _ hrl c=>?_
   refine S0 (P0 [] c fun _ c=>I0 c h (fun h=>?_) fun h=>?_)
   refine K0 (S0 (wp_block (Bd h fun x1 hx1 h=>?_)))
   obtain ⟨ep1,u1,c⟩:=c.elp (.f 0) hx1
   obtain ⟨a1,c1,rfl,c⟩:=c.o_Term 3
   refine Bd h fun x2 hx2 h=>?_
   obtain ⟨ep2,u2,c⟩:=c.elp (.f 1) hx2
   obtain ⟨a2,c2,rfl,c⟩:=c.o_Term 6
   refine Bd h fun x3 hx3 h=>S0 (rZ [(2,.eq (.pointer (some ep1))),(3,.eq (tV x1 a1 c1)),(6,.eq (.pointer (some ep2))),(7,.eq (tV x2 a2 c2)),(8,.eq (.bool x3))] [] mix c ⟨Nie c 2,Nle c 2,Nie c 5,Nle c 5,Ncl c (kN (ih1 hx3)) ⟨.f 4,.f 7,tt⟩ call17,tt⟩ fun _ _ c=>I0 c h (fun h=>?_) fun h=>?_)
   refine P0 [] c fun _ c=>?_
   obtain rfl:=hr1 _ (sk h)
   obtain rfl:=sj hk1
   exact wp_ret (br (tr (tr (br (tr (Rt c () [] []))))))
   refine K1 (bk (tn (P1 [] c fun _ c=>Nx h () (c.rk [] [0,1]))))
   refine wp_exit (te (te (be ?_)))
   obtain rfl:=hr1 _ (sk h)
   exact tn ⟨_,(),rfl,c.rk [] [0,1]⟩
   subst hrl
   exact P0 [] c fun _ c=>rE
 · intro p0 p1 ga0 gc1 ga2 gc3 r h
   rw [Y7] at h
   refine En func17 rfl ntmps17 fun _ fr w c=>?_
   refine T0 (Ebx (tC p0 ga0 gc1) c fun b1 _ _ c=>?_)
   refine Ebx (tC p1 ga2 gc3) c fun b2 _ _ c=>?_
   refine Fp [] 1 c fun _ c=>E0 (S0 (P0 [(1,0),(3,1)] c fun _ c=>I0 c h (fun h=>P0 [] c fun _ c=>rE) fun h=>?_))
   refine K0 (S0 (P0 [(1,0),(3,1)] c fun _ c=>I0 c h (fun h=>P0 [] c fun _ c=>rE) fun h=>?_))
   refine K0 (S0 (P0 [(1,0),(3,1)] c fun _ c=>I0 c h (fun h=>P0 [] c fun _ c=>rE) fun h=>?_))
   refine K0 (S0 (P0 [(1,0),(3,1)] c fun _ c=>I0 c h (fun h=>P0 [] c fun _ c=>rE) fun h=>?_))
   refine K0 (S0 (T0 (Fp [(1,0),(3,1)] 4 c fun _ c=>Bd h fun x1 hx1 h=>Cb c (ih0 hx1) ⟨.f 0,.f 1,tt⟩ call52 fun _ _ _ c=>?_)))
   exact Fp [] 1 c fun _ c=>E0 (I0 c h (fun h=>P0 [] c fun _ c=>rE) fun h=>K0 (P0 [] c fun _ c=>rE))
theorem ZcS {n:Nat}:∀ {p0 p1 ga0 gc1 ga2 gc3 r} (h:Y7 n p0 p1 = some r),C0 17 [tV p0 ga0 gc1,tV p1 ga2 gc3] [lR ga0 p0.Kids gc1,lR ga2 p1.Kids gc3] (.bool r):=(XJ n).2
theorem ZbV {p0 r} (h:YN n p0 = some r):C0 97 [I p0] [] (Str.val r):=by
 unfold YN at h
 refine En func97 rfl ntmps97 fun _ fr w c=>?_
 refine P0 [] c fun _ c=>S0 (P0 [] c fun _ c=>I0 c h (fun h=>P0 [] c fun _ c=>rE) fun h=>?_)
 refine K0 (P0 [] c fun _ c=>Bd h fun rl1 hit1 h=>S0 (Lp (fun s1  (_:Unit)=>([(0,I s1.1),(3,Str.val s1.2)],id,[])) (fun  (_:Unit)=>([(3,Str.val rl1)],id,[])) hit1 c () (c.rk [] []) (fun s1 q1 _ _ _ c h hr1=>?_) fun _ _ _ c=>?_))
 refine S0 (P0 [] c fun _ c=>I0 c h (fun h=>?_) fun h=>?_)
 refine K0 (wp_block (T0 (Fp [] 1 c fun _ c=>Bd h fun x1 hx1 h=>Erem c hx1 fun _ c=>?_)))
 refine Fp [] 2 c fun _ c=>Elt 5 ([(Byt.mk (IntKind.u8.wrap (w64 (48 + x1))))]:List Byt) c fun a1 c1 _ _ c=>?_
 refine Ebs c (.g 0) (fun _ c=>?_) Tryz.underlying22
 refine Fp [] 1 c fun _ c=>Bd h fun x2 hx2 h=>Ecat c hx2 fun _ c=>?_
 refine Fp [] 1 c fun _ c=>E0 (T1 (Fp [] 1 c fun _ c=>Bd h fun x3 hx3 h=>Equo c hx3 fun _ c=>?_))
 refine Fp [] 1 c fun _ c=>E1 (bk (tn (Nx h () (c.rk [] []))))
 refine wp_exit (te (te (be ?_)))
 obtain rfl:=hr1 _ (sk h)
 exact tn ⟨(),c.rk [] []⟩
 refine T0 (Fp [] 1 c fun _ c=>Bd h fun x4 hx4 h=>Ecat c hx4 fun _ c=>?_)
 exact Fp [] 1 c fun _ c=>E0 rE
theorem ZbN {n:Nat}:∀ {p0 p1 ga0 gc1 gn2 r} (h:ZV n p0 p1 = some r),Con prog 53 [.slice ga0 gn2 gc1,I p1] [OD (ownT 25) 25 (.slice ga0 gn2 gc1) p0] [] fun (_:Unit)=>([I r.1],[OD (ownT 25) 25 (.slice ga0 gn2 gc1) r.2],[]):=by
 induction n with
 | zero=>intro p0 p1 ga0 gc1 gn2 r h; simp [ZV] at h
 | succ n ih=>
 intro p0 p1 ga0 gc1 gn2 r h
 rw [ZV] at h
 refine En func53 rfl ntmps53 fun _ fr w c=>?_
 obtain ⟨rfl,c⟩:=c.releno 0
 refine P0 [] c fun _ c=>S0 (P0 [] c fun _ c=>Bd h fun rl1 hit1 h=>Lp (fun s1  (_:Unit)=>([(0,L ga0 p0 gc1),(1,I s1.1),(5,I s1.2.1)],fun Γ=>Γ.set 0 (OD (ownT 25) 25 (L ga0 p0 gc1) s1.q2),[])) (fun  (_:Unit)=>([(1,I rl1.1)],fun Γ=>Γ.set 0 (OD (ownT 25) 25 (L ga0 p0 gc1) rl1.2),[])) hit1 c () (c.rk [0] []) (fun s1 q1 _ _ _ c h hr1=>?_) fun _ _ _ c=>?_)
 refine S0 (P0 [] c fun _ c=>I0 c h (fun h=>?_) fun h=>?_)
 refine K0 (S0 (wp_block (T0 (Fp [] 3 c fun _ c=>Bd h fun x1 hx1 h=>?_))))
 obtain ⟨a1,c1,c⟩:=c.fo_Term 0 hx1
 refine Eohs 0 (I s1.1) (Rw.Term.mk s1.1 x1.W x1.N x1.Name (hd a1 x1.Kids c1)) c fun _ _ _ _ c=>?_
 refine E0 (P0 [] c fun _ c=>T0 (Fp [] 3 c fun _ c=>Eohs 1 (I (w64 (s1.1 + 1))) (Rw.Term.mk s1.1 (w64 (s1.1 + 1)) x1.N x1.Name (hd a1 x1.Kids c1)) c fun _ _ _ _ c=>?_))
 refine E0 (P0 [] c fun _ c=>T0 (Fp [] 3 c fun _ c=>?_))
 replace c:=c.nf
 refine Eohs 1 (I (w64 ((w64 (s1.1 + 1)) + 1))) (Rw.Term.mk s1.1 (w64 (s1.1 + 1)) (w64 ((w64 (s1.1 + 1)) + 1)) x1.Name (hd a1 x1.Kids c1)) c fun _ _ _ _ c=>?_
 refine E0 (P0 [] c fun _ c=>T0 (Fp [] 3 c fun _ c=>Bd h fun x2 hx2 h=>Cb c (ZbV hx2) tt call97 fun _ _ _ c=>?_))
 refine Eohs 1 (Str.val x2) (Rw.Term.mk s1.1 (w64 (s1.1 + 1)) (w64 ((w64 (s1.1 + 1)) + 1)) x2 (hd a1 x1.Kids c1)) c fun _ _ _ _ c=>?_
 refine E0 (P0 [] c fun _ c=>T1 (Fp [] 2 c fun _ c=>?_))
 replace c:=c.nf
 refine Eohl 1 (L a1 x1.Kids c1) c fun _ _ _ c=>?_
 refine Fp [] 1 c fun _ c=>Bd h fun x3 hx3 h=>Ca [0] c (ih hx3) tt call53 fun _ _ _ c=>?_
 refine Fp [] 1 c fun _ c=>E1 (bk (tn (P1 [] c fun _ c=>Bd h fun x4 hx4 h=>?_)))
 replace c:=c.un_Term (E:=25) (v:=L ga0 p0 gc1) (y:=(D.Term.mk s1.1 (w64 (s1.1 + 1)) (w64 ((w64 (s1.1 + 1)) + 1)) x2 x3.2)) (b:=a1) (m:=List.length x1.Kids) (cp:=c1) 0 1 hx4
 replace c:=c.nf
 exact Nx h () (c.rk [0] [])
 refine wp_exit (te (te (be ?_)))
 obtain rfl:=hr1 _ (sk h)
 exact tn ⟨(),c.rk [0] []⟩
 refine P0 [] c fun _ c=>?_
 cases h
 exact wp_ret (Rt c () [0] [])
theorem ZbY {p0 p1 gn2 r} (h:Xc n p0 p1 = some r):Con prog 18 [.agg #[I p0.Op,I p0.W,I p0.N,Str.val p0.Name,.slice ga0 gn2 gc1],I p1] [OD (ownT 25) 25 (.slice ga0 gn2 gc1) p0.Kids] [] fun (_:Unit)=>([I r.1],[OD (ownT 25) 25 (.slice ga0 gn2 gc1) r.2.Kids],[]):=by
 unfold Xc at h
 refine En func18 rfl ntmps18 fun _ fr w c=>?_
 obtain ⟨rfl,c⟩:=c.releno 0
 refine T0 (Ebx (tC p0 ga0 gc1) c fun b1 _ _ c=>?_)
 refine Fp [] 1 c fun _ c=>E0 (T0 (Fp [(1,0)] 3 c fun _ c=>Bd h fun x1 hx1 h=>Ca [0] c (ZbN hx1) tt call53 fun _ _ _ c=>?_))
 refine Fp [] 1 c fun _ c=>E0 (P0 [] c fun _ c=>?_)
 cases h
 exact wp_ret (Rt c () [1] [])
theorem Zb7 {p0 p1 gn2 r} (h:YU n p0 p1 = some r):Con prog 54 [.slice ga0 gn2 gc1,I p1] [sl100 (.slice ga0 gn2 gc1) p0] [] fun (_:Unit)=>([I r.1],[sl100 (.slice ga0 gn2 gc1) r.2],[]):=by
 unfold YU at h
 refine En func54 rfl ntmps54 fun _ fr w c=>?_
 obtain ⟨rfl,c⟩:=c.relen 0
 refine P0 [] c fun _ c=>S0 (P0 [] c fun _ c=>Bd h fun rl1 hit1 h=>Lp (fun s1  (_:Unit)=>([(0,L ga0 p0 gc1),(1,I s1.1),(5,I s1.2.1)],fun Γ=>Γ.set 0 (sl100 (L ga0 p0 gc1) s1.q2),[])) (fun  (_:Unit)=>([(1,I rl1.1)],fun Γ=>Γ.set 0 (sl100 (L ga0 p0 gc1) rl1.2),[])) hit1 c () (c.rk [0] []) (fun s1 q1 _ _ _ c h hr1=>?_) fun _ _ _ c=>?_)
 refine S0 (P0 [] c fun _ c=>I0 c h (fun h=>?_) fun h=>?_)
 refine K0 (S0 (wp_block (T0 (Fp [] 3 c fun _ c=>Bd h fun x1 hx1 h=>Bd h fun x2 hx2 h=>Esf 0 (I s1.1) c hx1 hx2 fun _ _ _ _ c=>?_))))
 refine E0 (P0 [] c fun _ c=>T0 (Fp [] 3 c fun _ c=>Bd h fun x3 hx3 h=>Bd h fun x4 hx4 h=>Esf 0 (I (w64 (s1.1 + 1))) c hx3 hx4 fun _ _ _ _ c=>?_))
 refine E0 (Tq (P1 [] c fun _ c=>bk (tn (P1 [] c fun _ c=>Nx h () (c.rk [0] [])))))
 refine wp_exit (te (te (be ?_)))
 obtain rfl:=hr1 _ (sk h)
 exact tn ⟨(),c.rk [0] []⟩
 refine P0 [] c fun _ c=>?_
 cases h
 exact wp_ret (Rt c () [0] [])
theorem Zbk {p0 p1 gn2 r} (h:YA n p0 p1 = some r):Con prog 19 [.agg #[I p0.Inputs,.slice ga0 gn2 gc1],I p1] [sl100 (.slice ga0 gn2 gc1) p0.Gates] [] fun (_:Unit)=>([I r.1],[sl100 (.slice ga0 gn2 gc1) r.2.Gates],[]):=by
 unfold YA at h
 refine En func19 rfl ntmps19 fun _ fr w c=>?_
 obtain ⟨rfl,c⟩:=c.relen 0
 refine T0 (Ebx [I p0.Inputs,L ga0 p0.Gates gc1] c fun b1 _ _ c=>?_)
 refine Fp [] 1 c fun _ c=>E0 (T0 (Fp [(1,0)] 3 c fun _ c=>Bd h fun x1 hx1 h=>Ca [0] c (Zb7 hx1) tt call54 fun _ _ _ c=>?_))
 refine Fp [] 1 c fun _ c=>E0 (P0 [] c fun _ c=>?_)
 cases h
 exact wp_ret (Rt c () [1] [])
theorem Zci {p0 p1 gn2 r} (h:Y9 n p0 p1 = some r):Con prog 20 [.slice ga0 gn2 gc1,I p1] [sl3 (.slice ga0 gn2 gc1) p0] [] fun (_:Unit)=>([I r.1],[sl3 (.slice ga0 gn2 gc1) r.2],[]):=by
 unfold Y9 at h
 refine En func20 rfl ntmps20 fun _ fr w c=>?_
 obtain ⟨rfl,c⟩:=c.relen 0
 refine P0 [] c fun _ c=>S0 (P0 [] c fun _ c=>Bd h fun rl1 hit1 h=>Lp (fun s1  (_:Unit)=>([(0,L ga0 p0 gc1),(1,I s1.1),(5,I s1.2.1)],fun Γ=>Γ.set 0 (sl3 (L ga0 p0 gc1) s1.q2),[])) (fun  (_:Unit)=>([(1,I rl1.1)],fun Γ=>Γ.set 0 (sl3 (L ga0 p0 gc1) rl1.2),[])) hit1 c () (c.rk [0] []) (fun s1 q1 _ _ _ c h hr1=>?_) fun _ _ _ c=>?_)
 refine S0 (P0 [] c fun _ c=>I0 c h (fun h=>?_) fun h=>?_)
 refine K0 (S0 (wp_block (T0 (Fp [] 3 c fun _ c=>Bd h fun x1 hx1 h=>Eset 0 c hx1 fun _ _ _ c=>?_))))
 refine E0 (Tq (P1 [] c fun _ c=>bk (tn (P1 [] c fun _ c=>Nx h () (c.rk [0] [])))))
 refine wp_exit (te (te (be ?_)))
 obtain rfl:=hr1 _ (sk h)
 exact tn ⟨(),c.rk [0] []⟩
 refine P0 [] c fun _ c=>?_
 cases h
 exact wp_ret (Rt c () [0] [])
theorem ZbI {p0 p1 r} (h:YR n p0 p1 = some r):C0 55 [L ga0 p0 gc1,I p1] [lR ga0 p0 gc1] (I r):=by
 unfold YR at h
 refine En func55 rfl ntmps55 fun _ fr w c=>?_
 refine P0 [] c fun _ c=>S0 (P0 [] c fun _ c=>Bd h fun rl1 hit1 h=>?_)
 have hk1:=h
 refine LpR (fun s1  (_:Unit)=>([(0,L ga0 p0 gc1),(1,I s1.1),(5,I s1.2)],id,[])) (fun s  (_:Unit)=>([(1,I s)],id,[])) hit1 c () (c.rk [] [0]) (fun s1 q1 _ _ _ c h hr1=>?_) fun s1r _ _ _ hrl c=>?_
 refine S0 (P0 [] c fun _ c=>I0 c h (fun h=>?_) fun h=>?_)
 refine K0 (S0 (wp_block (S0 (T0 (Fp [] 2 c fun _ c=>Bd h fun x1 hx1 h=>Eef c (.f 0) hx1 ZiI fun _ _ _ c=>?_)))))
 refine Fp [] 2 c fun _ c=>E0 (I0 c h (fun h=>?_) fun h=>?_)
 refine P0 [] c fun _ c=>?_
 obtain rfl:=hr1 _ (sk h)
 obtain rfl:=sj hk1
 exact wp_ret (tr (br (tr (tr (br (tr (Rt c () [] [])))))))
 refine K0 (P0 [] c fun _ c=>S0 (T0 (Fp [] 2 c fun _ c=>Bd h fun x2 hx2 h=>Eef c (.f 0) hx2 Zim fun _ _ _ c=>?_)))
 refine Fp [] 2 c fun _ c=>E0 (I0 c h (fun h=>?_) fun h=>?_)
 refine P0 [] c fun _ c=>?_
 obtain rfl:=hr1 _ (sk h)
 obtain rfl:=sj hk1
 exact wp_ret (tr (br (tr (tr (br (tr (Rt c () [] [])))))))
 refine K0 (Tq (P1 [] c fun _ c=>bk (tn (P1 [] c fun _ c=>Nx h () (c.rk [] [0])))))
 refine wp_exit (te (te (be ?_)))
 obtain rfl:=hr1 _ (sk h)
 exact tn ⟨_,(),rfl,c.rk [] [0]⟩
 subst hrl
 exact P0 [] c fun _ c=>rE
theorem XP {p0 p1 r} (h:Yu n p0 p1 = some r):C0 21 [.agg #[I p0.Inputs,L ga0 p0.Gates gc1],I p1] [lR ga0 p0.Gates gc1] (I r):=by
 unfold Yu at h
 refine En func21 rfl ntmps21 fun _ fr w c=>?_
 refine T0 (Ebx [I p0.Inputs,L ga0 p0.Gates gc1] c fun b1 _ _ c=>?_)
 refine Fp [] 1 c fun _ c=>E0 (T0 (Fp [(1,0)] 3 c fun _ c=>Bd h fun x1 hx1 h=>Cb c (ZbI hx1) ⟨.f 0,tt⟩ call55 fun _ _ _ c=>?_))
 exact Fp [] 1 c fun _ c=>E0 (S0 (P0 [] c fun _ c=>I0 c h (fun h=>P0 [] c fun _ c=>rE) fun h=>K0 (P0 [] c fun _ c=>rE)))
theorem Zaw {p0 p1 r} (h:Yr n p0 p1 = some r):C0 22 [L ga0 p0 gc1,I p1] [lR ga0 p0 gc1] (I r):=by
 unfold Yr at h
 refine En func22 rfl ntmps22 fun _ fr w c=>?_
 refine P0 [] c fun _ c=>S0 (P0 [] c fun _ c=>Bd h fun rl1 hit1 h=>?_)
 have hk1:=h
 refine LpR (fun s1  (_:Unit)=>([(0,L ga0 p0 gc1),(1,I s1.1),(5,I s1.2)],id,[])) (fun s  (_:Unit)=>([(1,I s)],id,[])) hit1 c () (c.rk [] [0]) (fun s1 q1 _ _ _ c h hr1=>?_) fun s1r _ _ _ hrl c=>?_
 refine S0 (P0 [] c fun _ c=>I0 c h (fun h=>?_) fun h=>?_)
 refine K0 (S0 (wp_block (S0 (T0 (Fp [] 2 c fun _ c=>Bd h fun x1 hx1 h=>Eel c (.f 0) hx1 fun _ _ c=>?_)))))
 refine Fp [] 2 c fun _ c=>E0 (I0 c h (fun h=>?_) fun h=>?_)
 refine P0 [] c fun _ c=>?_
 obtain rfl:=hr1 _ (sk h)
 obtain rfl:=sj hk1
 exact wp_ret (tr (br (tr (tr (br (tr (Rt c () [] [])))))))
 refine K0 (Tq (P1 [] c fun _ c=>bk (tn (P1 [] c fun _ c=>Nx h () (c.rk [] [0])))))
 refine wp_exit (te (te (be ?_)))
 obtain rfl:=hr1 _ (sk h)
 exact tn ⟨_,(),rfl,c.rk [] [0]⟩
 subst hrl
 exact P0 [] c fun _ c=>rE
theorem Zaj {p0 r} (h:Yy n p0 = some r):C0 4 [tV p0 ga0 gc1] [lR ga0 p0.Kids gc1] (.bool r):=by
 unfold Yy at h
 refine En func4 rfl ntmps4 fun _ fr w c=>?_
 refine T0 (Ebx (tC p0 ga0 gc1) c fun b1 _ _ c=>?_)
 refine Fp [] 1 c fun _ c=>E0 (P0 [] c fun _ c=>T0 (Fp [(0,0)] 2 c fun _ c=>Bd h fun x1 hx1 h=>Cb c (ZcA hx1) ⟨.f 0,tt⟩ call11 fun _ _ _ c=>?_))
 refine Fp [] 1 c fun _ c=>E0 (S0 (P0 [] c fun _ c=>I0 c h (fun h=>P0 [] c fun _ c=>rE) fun h=>?_))
 refine K0 (T0 (Fp [(0,0)] 1 c fun _ c=>Bd h fun x2 hx2 h=>Cb c (Xw hx2) ⟨.f 0,tt⟩ call13 fun i1 _ _ c=>?_))
 refine Bd h fun x3 hx3 h=>Cb c (ZbF hx3) ⟨.go (Zda 25) 1,tt⟩ call12 fun i2 _ _ c=>?_
 refine Fp [] 4 c fun _ c=>Eal [I 0,L none ([]:List D.Gate) 0] c fun b2 _ _ c=>?_
 replace c:=c.ng
 refine Ess 4 [I x3.1.Inputs,L i2.1 x3.1.Gates i2.2.1] c fun _ c=>?_
 refine Fp [] 2 c fun _ c=>E0 (T0 (Fp [(0,0)] 1 c fun _ c=>Bd h fun x4 hx4 h=>Cb c (Xw hx4) ⟨.f 0,tt⟩ call13 fun i3 _ _ c=>?_))
 refine Eal tZ c fun b3 _ _ c=>?_
 replace c:=c.ng
 refine Ess 6 (tC x4 i3.1 i3.2) c fun _ c=>?_
 refine E0 (T0 (Fp [(0,2)] 1 c fun _ c=>Bd h fun x5 hx5 h=>Cb c (Zac hx5) ⟨.go (Zda 25) 5,tt⟩ call14 fun i4 _ _ c=>?_))
 refine Fp [] 4 c fun _ c=>?_
 replace c:=c.ng
 refine Eal [I 0,L none ([]:List D.Gate) 0] c fun b4 _ _ c=>?_
 refine Ess 9 [I x5.1.Inputs,L i4.1 x5.1.Gates i4.2.1] c fun _ c=>?_
 refine Fp [] 2 c fun _ c=>E0 (S0 (Bd h fun x6 hx6 h=>Bd h fun x7 hx7 h=>S0 (rZ [(2,.eq (.bool x6)),(7,.eq (.bool x7))] [(0,3),(1,1)] mix c ⟨Ncl c (kN (Xu hx6)) ⟨.g 7,.g 2,tt⟩ call15,Ncl c (fun hg=>XY (iteF (gcF hg) hx7)) ⟨.g 8,.g 3,tt⟩ call16,tt⟩ fun _ _ c=>I0 c h (fun h=>?_) fun h=>?_)))
 exact P0 [] c fun _ c=>rE
 refine K0 (S0 (Bd h fun x8 hx8 h=>Bd h fun x9 hx9 h=>S0 (Jn (fun _:Unit=>([(1,B b1 0),(4,B b2 0),(5,L i2.p2 x3.2.1 i2.q3),(6,.bool x3.q2),(7,B b3 0),(8,B b4 0),(9,L i4.p2 x5.2.1 i4.q3),(10,.bool x5.q2),(56,.bool (!x9))],id,[])) c ?_ fun _ _ _ c=>?_)))
 refine As mix c fun _ c=>?_
 replace c:=Cx.frs [(1,B b1 0),(4,B b2 0),(5,L i2.p2 x3.2.1 i2.q3),(6,.bool x3.q2),(7,B b3 0),(8,B b4 0),(9,L i4.p2 x5.2.1 i4.q3),(10,.bool x5.q2)] c
 refine Dq (fun _:Unit=>([(1,B b1 0),(4,B b2 0),(5,L i2.p2 x3.2.1 i2.q3),(6,.bool x3.q2),(7,B b3 0),(8,B b4 0),(9,L i4.p2 x5.2.1 i4.q3),(10,.bool x5.q2),(55,.bool x9)],id,[])) (bN 5 15) (fun _=>[(4,56,.bool (!x9))]) c (fun _=>?_) fun hd2=>?_
 refine qnE ⟨qP [],tt⟩ fun _ _ c=>?_
 exact nN () (c.rk (rg 10) [0])
 refine Dq (fun i:Oh=>([(1,B b1 0),(4,B b2 0),(5,L i2.p2 x3.2.1 i2.q3),(6,.bool x3.q2),(7,B b3 0),(8,B b4 0),(9,L i4.p2 x5.2.1 i4.q3),(10,.bool x5.q2),(54,tV x8 i.1 i.2)],fun Γ=>Γ ++ [OD (ownT 25) 25 (L i.1 x8.Kids i.2) x8.Kids],[])) (bN 5 6) (fun i=>[(0,52,tV x4 i3.1 i3.2)]) c (fun i6=>?_) fun hd1=>?_
 obtain ⟨a1,c1⟩:=i6
 refine qn [3] ⟨qP [(0,2)],tt⟩ ⟨fun _ _ c=>?_,tt⟩
 refine Zcn _ rfl rfl ?_
 refine Cb c (ZcS hx9) ⟨.go (Zda 25) 5,.go (Zda 25) 10,tt⟩ call17 fun _ _ _ c=>?_
 refine E0 (nQ hd2 () (c.rk (rg 10) [0]))
 refine q0 (qs:=[(0,52,tV x4 i3.1 i3.2),(1,53,tV p0 ga0 gc1)]) c (qn [2] ⟨qP [(0,2)],qP [(0,0)],tt⟩ ⟨fun _ _ c=>?_,tt⟩)
 refine Zcn _ rfl rfl ?_
 replace c:=c.ng
 refine Cb c (Xw hx8) ⟨.f 0,tt⟩ call13 fun i5 _ _ c=>?_
 refine E0 (nQ hd1 (i5.1,i5.2) (c.rk (rg 11) [0]))
 refine I0 c h (fun h=>P0 [] c fun _ c=>rE) fun h=>?_
 refine K0 (P0 [] c fun _ c=>T0 (Fp [(0,2)] 2 c fun _ c=>Bd h fun x10 hx10 h=>Ca [5] c (ZbY hx10) tt call18 fun _ _ _ c=>?_))
 refine Fp [] 1 c fun _ c=>E0 (S0 (Bd h fun x11 hx11 h=>Bd h fun x12 hx12 h=>S0 (rZ [(5,.eq (.bool x11)),(11,.eq (.bool x12))] [(3,3),(4,1)] mix c ⟨Ncl c (fun hg=>Xu (iteF (gcF hg) hx11)) ⟨.g 6,.g 2,tt⟩ call15,Ncl c (fun hg=>XY (iteF (gcF hg) hx12)) ⟨.g 7,.g 3,tt⟩ call16,tt⟩ fun _ _ c=>I0 c h (fun h=>?_) fun h=>?_)))
 exact P0 [] c fun _ c=>rE
 refine K0 (P0 [] c fun _ c=>T0 (Fp [(0,3)] 2 c fun _ c=>Bd h fun x13 hx13 h=>Ca [6] c (Zbk hx13) tt call19 fun _ _ _ c=>?_))
 refine Fp [] 1 c fun _ c=>E0 (T0 (Fp [] 2 c fun _ c=>?_))
 replace c:=c.nf
 refine Bd h fun x14 hx14 h=>Ca [6] c (Zci hx14) tt call20 fun _ _ _ c=>?_
 refine Fp [] 1 c fun _ c=>E0 (P0 [] c fun _ c=>T0 (Fp [(0,3)] 2 c fun _ c=>?_))
 obtain ⟨he1,c⟩:=c.relen 8
 replace c:=c.eqs (v:=.agg #[I x5.1.Inputs,L i4.1 x5.1.Gates i4.2.1]) (u:=.agg #[I x5.1.Inputs,L i4.1 x13.2.Gates i4.2.1]) 85 (by simp only [L,he1])
 replace c:=c.bxe (cs:=[I x5.1.Inputs,L i4.1 x5.1.Gates i4.2.1]) (cs':=[I x5.1.Inputs,L i4.1 x13.2.Gates i4.2.1]) 6 (by simp only [L,he1])
 refine Bd h fun x15 hx15 h=>Cb c (XP hx15) ⟨.g 8,tt⟩ call21 fun _ _ _ c=>?_
 refine Fp [] 1 c fun _ c=>E0 (S0 (P0 [] c fun _ c=>I0 c h (fun h=>P0 [] c fun _ c=>rE) fun h=>?_))
 refine K0 (T0 (Fp [] 2 c fun _ c=>?_))
 replace c:=c.nf
 obtain ⟨he2,c⟩:=c.relen 9
 replace c:=c.eqs (v:=L i4.p2 x5.2.1 i4.q3) (u:=L i4.p2 x14.2 i4.q3) 9 (by simp only [L,he2])
 replace c:=c.eqs (v:=L i4.p2 x5.2.1 i4.q3) (u:=L i4.p2 x14.2 i4.q3) 90 (by simp only [L,he2])
 refine Bd h fun x16 hx16 h=>Cb c (Zaw hx16) ⟨.g 9,tt⟩ call22 fun _ _ _ c=>?_
 refine Fp [] 1 c fun _ c=>E0 (S0 (P0 [] c fun _ c=>I0 c h (fun h=>P0 [] c fun _ c=>rE) fun h=>?_))
 refine K0 (S0 (P0 [] c fun _ c=>I0 c h (fun h=>P0 [] c fun _ c=>rE) fun h=>?_))
 refine K0 (T0 (Fp [(0,0)] 1 c fun _ c=>Bd h fun x17 hx17 h=>Cb c (Xw hx17) ⟨.f 0,tt⟩ call13 fun i7 _ _ c=>?_))
 replace c:=c.nf
 refine Bd h fun x18 hx18 h=>Cb c (Zac hx18) ⟨.go (Zda 25) 10,tt⟩ call14 fun i8 _ _ c=>?_
 refine Fp [] 4 c fun _ c=>Eal [I 0,L none ([]:List D.Gate) 0] c fun b5 _ _ c=>?_
 replace c:=c.ng
 refine Ess 13 [I x18.1.Inputs,L i8.1 x18.1.Gates i8.2.1] c fun _ c=>?_
 refine Fp [] 2 c fun _ c=>E0 (S0 (Bd h fun x19 hx19 h=>Bd h fun x20 hx20 h=>S0 (rZ [(2,.eq (.bool x19)),(7,.eq (.bool x20))] [(0,4),(1,1)] mix c ⟨Ncl c (kN (Xu hx19)) ⟨.g 11,.g 2,tt⟩ call15,Ncl c (fun hg=>XY (iteF (gcF hg) hx20)) ⟨.g 12,.g 3,tt⟩ call16,tt⟩ fun _ _ c=>I0 c h (fun h=>?_) fun h=>?_)))
 exact P0 [] c fun _ c=>rE
 refine K0 (P0 [] c fun _ c=>T0 (Fp [(0,3)] 2 c fun _ c=>Bd h fun x21 hx21 h=>Cb c (XP hx21) ⟨.g 8,tt⟩ call21 fun _ _ _ c=>?_))
 refine Fp [] 1 c fun _ c=>E0 (S0 (P0 [] c fun _ c=>I0 c h (fun h=>P0 [] c fun _ c=>rE) fun h=>?_))
 refine K0 (T0 (Fp [] 2 c fun _ c=>?_))
 replace c:=c.ng
 refine Bd h fun x22 hx22 h=>Cb c (Zaw hx22) ⟨.g 9,tt⟩ call22 fun _ _ _ c=>?_
 exact Fp [] 1 c fun _ c=>E0 (S0 (P0 [] c fun _ c=>I0 c h (fun h=>P0 [] c fun _ c=>rE) fun h=>K0 (S0 (P0 [] c fun _ c=>I0 c h (fun h=>P0 [] c fun _ c=>rE) fun h=>K0 (P0 [] c fun _ c=>rE)))))
end Go.Proofs.YthilnjkcemdfeaaGreat
