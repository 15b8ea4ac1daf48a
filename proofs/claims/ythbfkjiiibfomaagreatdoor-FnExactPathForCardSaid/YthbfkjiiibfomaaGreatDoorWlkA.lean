/- The walks, printed by a program. -/
import Derived.Test.YthbfkjiiibfomaaGreatDoorLib3
import Derived.Test.YthbfkjiiibfomaaGreatDoorLib2
import Derived.Test.YthbfkjiiibfomaaGreatDoorDefs
import Derived.Test.YthbfkjiiibfomaaGreatDoorProg
import Derived.KernelRfl
import Derived.DeepKeys4
import Derived.Test.YthbfkjiiibfomaaGreatDoorShelf
set_option linter.unusedVariables false
set_option linter.unusedSimpArgs false
set_option maxRecDepth 100000
set_option maxHeartbeats 40000000
namespace Go.Proofs.YthbfkjiiibfomaaGreatDoor
open Go.GL Go.Maps Go.WideMaps Tryz
abbrev C0 (f:FuncId) (a:List Value) (F:List RF) (v:Value):=Con prog f a [] F fun (_:Unit)=>([v],[],[])
abbrev Ct (f:FuncId) (a:List Value) (F:List RF) (r:D.Term):=Con prog f a [] F fun (i:Oh)=>([tV r i.1 i.2],[],[lR i.1 r.Kids i.2])
abbrev Cl {α:Type} [Rep α] (f:FuncId) (a:List Value) (F:List RF) (r:List α):=Con prog f a [] F fun (i:Oh)=>([L i.1 r i.2],[],[lR i.1 r i.2])
variable {n:Nat} {ga0 ga1 ga2 ga3 ga4 ga5 ga6 ga7 ga8 ga9 ga10 ga11 ga12 ga13 ga15 ga17:Option Addr} {gc1 gc2 gc3 gc4 gc5 gc6 gc7 gc8 gc9 gc10 gc11 gc12 gc13 gc14 gc16 gc18:Nat}
theorem mix:prog.follows .mixedOrders = true:=by kernel_rfl
abbrev sl29:Value → List Rw.Path → HP:=SL 29
abbrev sl3:Value → List Int → HP:=SL 3
abbrev sl5:Value → List Byt → HP:=SL 5
abbrev sl62:Value → List Rw.Term → HP:=SL 62
abbrev sl65:Value → List D.Ins → HP:=SL 65
abbrev sl87:Value → List D.Value → HP:=SL 87
theorem ZkR {q:D.Term} {w:World} {F:Nat → Prop} {cs:List Value} (h:Rep.ok w F cs q):cs[0]? = some (I q.Op):=ZkE h
theorem Zb3 {q:D.Term} {w:World} {F:Nat → Prop} {cs:List Value} (h:Rep.ok w F cs q):cs[1]? = some (I q.W):=Zkh h
theorem ZmK {q:D.Term} {w:World} {F:Nat → Prop} {cs:List Value} (h:Rep.ok w F cs q):cs[2]? = some (I q.N):=ZkW h
theorem Zlq {q:D.Value} {w:World} {F:Nat → Prop} {cs:List Value} (h:Rep.ok w F cs q):cs[0]? = some (Str.val q.Name):=ZjP h
theorem Zlw {q:D.Value} {w:World} {F:Nat → Prop} {cs:List Value} (h:Rep.ok w F cs q):cs[1]? = some (I q.W):=Zj7 h
theorem ZmI {q:D.Value} {w:World} {F:Nat → Prop} {cs:List Value} (h:Rep.ok w F cs q):cs[2]? = some (I q.N):=ZjS h
noncomputable abbrev map85:MapT prog 9 3 Str Int:=mapSI _ 9 3 Tryz.underlying9 Tryz.underlying3 (by kernel_rfl)
theorem ZfF {p0 p1 r} (h:Zbl p0 p1 = some r):C0 16 [L ga0 p0 gc1,I p1] [lR ga0 p0 gc1] (I r):=by
 unfold Zbl at h
 refine En func16 rfl ntmps16 fun _ fr w c=>?_
 exact P0 [] c fun _ c=>P0 [] c fun _ c=>S0 (P0 [] c fun _ c=>I0 c h (fun h=>P0 [] c fun _ c=>rE) fun h=>K0 (P0 [] c fun _ c=>rE))
theorem Zd4 {p0 p1 r} (h:Zai p0 p1 = some r):C0 4 [gV p0 ga0 gc1,I p1] [lR ga0 p0.Code gc1] (I r):=by
 unfold Zai at h
 refine En func4 rfl ntmps4 fun _ fr w c=>?_
 refine T0 (Ebx (gC p0 ga0 gc1) c fun b1 _ _ c=>?_)
 refine Fp [] 1 c fun _ c=>E0 (T0 (Fp [(1,0)] 3 c fun _ c=>Bd h fun x1 hx1 h=>Cb c (ZfF hx1) ⟨.f 0,tt⟩ call16 fun _ _ _ c=>?_))
 exact Fp [] 1 c fun _ c=>E0 (S0 (P0 [] c fun _ c=>I0 c h (fun h=>P0 [] c fun _ c=>rE) fun h=>K0 (P0 [] c fun _ c=>rE)))
theorem ZfP {p0 r} (h:ZcD p0 = some r):C0 46 [nV p0] [] (nV r):=by
 unfold ZcD at h
 refine En func46 rfl ntmps46 fun _ fr w c=>?_
 refine T0 (Ebx (nC p0) c fun b1 _ _ c=>?_)
 refine Eal [I 0,I 0,I 0,I 0] c fun b2 _ _ c=>?_
 refine E0 (T0 (Eal [I 0,I 0,I 0,I 0] c fun b3 _ _ c=>?_))
 refine E0 (T0 (Fp [(1,0)] 3 c fun _ c=>Esb 2 0 (I p0.Op) c fun _ c=>?_))
 refine E0 (T0 (Fp [(1,0)] 3 c fun _ c=>Esb 2 1 (I p0.A) c fun _ c=>?_))
 refine E0 (T0 (Fp [(1,0)] 3 c fun _ c=>?_))
 replace c:=c.ng
 refine Esb 2 2 (I p0.B) c fun _ c=>?_
 refine E0 (T0 (Fp [(1,0)] 3 c fun _ c=>Esb 2 3 (I p0.C) c fun _ c=>?_))
 refine E0 (T0 (Fp [(0,2)] 1 c fun _ c=>Ess 1 (nC p0) c fun _ c=>?_))
 refine E0 ?_
 obtain rfl:=sj h
 exact wp_ret (Rg c () [] [] (.cell (α:=Agg 3) kk (.b 1) .nil))
theorem Zff {p0 r} (h:Zbu n p0 = some r):Con prog 22 [L ga0 p0 gc1] [] [lR ga0 p0 gc1] fun (i:Oh)=>([L i.1 r i.2],[sl65 (L i.1 r i.2) r],[]):=by
 unfold Zbu at h
 refine En func22 rfl ntmps22 fun _ fr w c=>?_
 refine P0 [] c fun _ c=>T0 (Fp [] 2 c fun _ c=>Bd h fun x1 hx1 h=>Emk 65 c hx1 fun a1 c1 _ _ c=>?_)
 refine Fp [] 1 c fun _ c=>E0 (S0 (P0 [] c fun _ c=>Bd h fun rl1 hit1 h=>Lp (fun s1  (_:Unit)=>([(0,L ga0 p0 gc1),(3,L a1 x1 c1),(4,I s1.1)],fun Γ=>Γ.set 0 (sl65 (L a1 x1 c1) s1.2),[])) (fun  (_:Unit)=>([(3,L a1 x1 c1)],fun Γ=>Γ.set 0 (sl65 (L a1 x1 c1) rl1),[])) hit1 c () (c.rk [0] [0]) (fun s1 q1 _ _ _ c h hr1=>?_) fun _ _ _ c=>?_))
 refine S0 (P0 [] c fun _ c=>I0 c h (fun h=>?_) fun h=>?_)
 refine K0 (S0 (wp_block (T1 (Fp [] 4 c fun _ c=>Bd h fun x2 hx2 h=>Eel c (.f 0) hx2 fun _ _ c=>?_))))
 refine Bd h fun x3 hx3 h=>Cb c (ZfP hx3) tt call46 fun _ _ _ c=>?_
 refine Bd h fun x4 hx4 h=>Eset 0 c hx4 fun _ _ _ c=>?_
 refine E1 (bk (tn (P1 [] c fun _ c=>Nx h () (c.rk [0] [0]))))
 refine wp_exit (te (te (be ?_)))
 obtain rfl:=hr1 _ (sk h)
 exact tn ⟨(),c.rk [0] [0]⟩
 refine P0 [] c fun _ c=>?_
 obtain rfl:=sj h
 obtain ⟨he1,c⟩:=c.relen 0
 replace c:=c.eqs (v:=L a1 x1 c1) (u:=L a1 rl1 c1) 2 (by simp only [L,he1])
 exact wp_ret (Rt c (a1,c1) [0] [])
theorem XZ {p0 r} (h:YS n p0 = some r):Con prog 6 [gV p0 ga0 gc1] [] [lR ga0 p0.Code gc1] fun (i:Oh)=>([gV r i.1 i.2],[sl65 (L i.1 r.Code i.2) r.Code],[]):=by
 unfold YS at h
 refine En func6 rfl ntmps6 fun _ fr w c=>?_
 refine T0 (Ebx (gC p0 ga0 gc1) c fun b1 _ _ c=>?_)
 refine Eal [I 0,I 0,I 0,L none ([]:List D.Ins) 0] c fun b2 _ _ c=>?_
 refine E0 (T0 (Eal [I 0,I 0,I 0,L none ([]:List D.Ins) 0] c fun b3 _ _ c=>?_))
 refine E0 (T0 (Fp [(1,0)] 3 c fun _ c=>Esb 2 0 (I p0.W) c fun _ c=>?_))
 refine E0 (T0 (Fp [(1,0)] 3 c fun _ c=>Esb 2 1 (I p0.Mem) c fun _ c=>?_))
 refine E0 (T0 (Fp [(1,0)] 3 c fun _ c=>?_))
 replace c:=c.ng
 refine Esb 2 2 (I p0.In) c fun _ c=>?_
 refine E0 (T0 (Fp [(1,0)] 2 c fun _ c=>Bd h fun x1 hx1 h=>Cb c (Zff hx1) ⟨.f 0,tt⟩ call22 fun i1 _ _ c=>?_))
 refine Fp [] 1 c fun _ c=>Esb 2 3 (L i1.1 x1 i1.2) c fun _ c=>?_
 refine E0 (T0 (Fp [(0,2)] 1 c fun _ c=>Ess 1 [I p0.W,I p0.Mem,I p0.In,L i1.1 x1 i1.2] c fun _ c=>?_))
 refine E0 ?_
 cases h
 exact wp_ret (Rg c (i1.1,i1.2) [3] [] (.cell (α:=Agg 3) kk (.b 1) .nil))
theorem ZaZ {p0 r} (h:XC n p0 = some r):Con prog 7 [L ga0 p0 gc1] [] [lR ga0 p0 gc1] fun (i:Oh)=>([L i.1 r i.2],[sl3 (L i.1 r i.2) r],[]):=by
 unfold XC at h
 refine En func7 rfl ntmps7 fun _ fr w c=>?_
 refine P0 [] c fun _ c=>T0 (Fp [] 2 c fun _ c=>Bd h fun x1 hx1 h=>Emk 3 c hx1 fun a1 c1 _ _ c=>?_)
 refine Fp [] 1 c fun _ c=>E0 (S0 (P0 [] c fun _ c=>Bd h fun rl1 hit1 h=>Lp (fun s1  (_:Unit)=>([(0,L ga0 p0 gc1),(3,L a1 x1 c1),(4,I s1.1)],fun Γ=>Γ.set 0 (sl3 (L a1 x1 c1) s1.2),[])) (fun  (_:Unit)=>([(3,L a1 x1 c1)],fun Γ=>Γ.set 0 (sl3 (L a1 x1 c1) rl1),[])) hit1 c () (c.rk [0] [0]) (fun s1 q1 _ _ _ c h hr1=>?_) fun _ _ _ c=>?_))
 refine S0 (P0 [] c fun _ c=>I0 c h (fun h=>?_) fun h=>?_)
 refine K0 (S0 (wp_block (T1 (Fp [] 4 c fun _ c=>Bd h fun x2 hx2 h=>Eel c (.f 0) hx2 fun _ _ c=>?_))))
 refine Bd h fun x3 hx3 h=>Eset 0 c hx3 fun _ _ _ c=>?_
 refine E1 (bk (tn (P1 [] c fun _ c=>Nx h () (c.rk [0] [0]))))
 refine wp_exit (te (te (be ?_)))
 obtain rfl:=hr1 _ (sk h)
 exact tn ⟨(),c.rk [0] [0]⟩
 refine P0 [] c fun _ c=>?_
 obtain rfl:=sj h
 obtain ⟨he1,c⟩:=c.relen 0
 replace c:=c.eqs (v:=L a1 x1 c1) (u:=L a1 rl1 c1) 2 (by simp only [L,he1])
 exact wp_ret (Rt c (a1,c1) [0] [])
theorem Zt {p0 p1 p2 r} (h:Zk p0 p1 p2 = some r):C0 18 [I p0,I p1,I p2] [] (.bool r):=by
 unfold Zk at h
 refine En func18 rfl ntmps18 fun _ fr w c=>?_
 refine P0 [] c fun _ c=>S0 (Ry [] mix c fun _ _ c=>?_)
 exact rE
theorem Yj {p0 p1 r} (h:ZB p0 p1 = some r):C0 58 [I p0,I p1] [] (.bool r):=by
 unfold ZB at h
 refine En func58 rfl ntmps58 fun _ fr w c=>?_
 refine P0 [] c fun _ c=>Bd h fun x1 hx1 h=>Bd h fun x2 hx2 h=>Bd h fun x3 hx3 h=>S0 (rZ [(1,.eq (.bool x1)),(5,.eq (I x2)),(7,.eq (.bool x3))] [] mix c ⟨Ncl c (kN (Zt hx1)) tt call18,Nshl c (gT hx2),Ncl c (fun hg=>Zt (iteT (gcT hg) hx3)) tt call18,tt⟩ fun _ _ c=>?_)
 exact rE
theorem Xk {p0 r} (h:Y5 p0 = some r):C0 82 [I p0] [] (.bool r):=by
 unfold Y5 at h
 refine En func82 rfl ntmps82 fun _ fr w c=>?_
 refine P0 [] c fun _ c=>T0 (Fp [] 1 c fun _ c=>Bd h fun x1 hx1 h=>Cb c (Zt hx1) tt call18 fun _ _ _ c=>?_)
 exact Fp [] 1 c fun _ c=>E0 rE
theorem Zf1 {p0 p1 p2 r} (h:Xq p0 p1 p2 = some r):C0 59 [nV p0,I p1,I p2] [] (.bool r):=by
 unfold Xq at h
 refine En func59 rfl ntmps59 fun _ fr w c=>?_
 refine T0 (Ebx (nC p0) c fun b1 _ _ c=>?_)
 refine Fp [] 1 c fun _ c=>E0 (T0 (Fp [(1,0)] 3 c fun _ c=>Bd h fun x1 hx1 h=>Cb c (Zt hx1) tt call18 fun _ _ _ c=>?_))
 refine Fp [] 1 c fun _ c=>E0 (S0 (P0 [(1,0)] c fun _ c=>wp_block (P0 [] c fun _ c=>I0 c h (fun h=>?_) fun h=>?_)))
 refine Bd h fun x2 hx2 h=>Bd h fun x3 hx3 h=>S0 (rZ [(2,.eq (.bool x2)),(7,.eq (.bool x3))] [(1,0),(6,0),(11,0)] mix c ⟨Ncl c (kN (Xk hx2)) tt call82,Ncl c (fun hg=>Yj (iteT (gcT hg) hx3)) tt call58,tt⟩ fun _ _ c=>?_)
 exact rE
 refine S0 (P0 [] c fun _ c=>Bd h fun rl1 hit1 h=>?_)
 have hk1:=h
 refine Jr (fun s  (_:Unit)=>([(3,B b1 0),(7,.bool x1),(13,I p0.Op),(30,.bool s)],id,[])) hit1 c (fun h=>?_) fun s1r _ _ _ hrl c=>?_
 refine I0 c h (fun h=>?_) fun h=>?_
 refine K0 (⟨_,(),(sk h),c.rk [0] []⟩)
 refine P0 [] c fun _ c=>Mp (p0.Op == 7) [(30,.bool (p0.Op == 7))] [(30,.bool (p0.Op == 8))] [(30,.bool ((p0.Op == 7) || (p0.Op == 8)))] [30,33] c fun _ c=>⟨_,(),(sk h),c.rk [0] []⟩
 subst hrl
 refine I0 c h (fun h=>?_) fun h=>?_
 refine Bd h fun x4 hx4 h=>Bd h fun x5 hx5 h=>S0 (rZ [(2,.eq (.bool x4)),(6,.eq (.bool x5))] [(1,0),(5,0),(10,0)] mix c ⟨Ncl c (kN (Xk hx4)) tt call82,Ncl c (fun hg=>Xk (iteT (gcT hg) hx5)) tt call82,tt⟩ fun _ _ c=>?_)
 exact rE
 refine P0 [] c fun _ c=>I0 c h (fun h=>?_) fun h=>?_
 refine Bd h fun x6 hx6 h=>Bd h fun x7 hx7 h=>Bd h fun x8 hx8 h=>S0 (rZ [(2,.eq (.bool x6)),(6,.eq (.bool x7)),(11,.eq (.bool x8))] [(1,0),(5,0),(10,0)] mix c ⟨Ncl c (kN (Xk hx6)) tt call82,Ncl c (fun hg=>Xk (iteT (gcT hg) hx7)) tt call82,Ncl c (fun hg=>Zt (iteT (gcT hg) hx8)) tt call18,tt⟩ fun _ _ c=>?_)
 exact rE
 refine S0 (P0 [] c fun _ c=>Bd h fun rl2 hit2 h=>?_)
 have hk2:=h
 refine Jr (fun s  (_:Unit)=>([(3,B b1 0),(7,.bool x1),(13,I p0.Op),(62,.bool s)],id,[])) hit2 c (fun h=>?_) fun s2r _ _ _ hrl c=>?_
 refine I0 c h (fun h=>?_) fun h=>?_
 refine K0 (⟨_,(),(sk h),c.rk [0] []⟩)
 refine P0 [] c fun _ c=>I0 c h (fun h=>?_) fun h=>?_
 refine K0 (⟨_,(),(sk h),c.rk [0] []⟩)
 refine P0 [] c fun _ c=>Mp (p0.Op == 6) [(62,.bool (p0.Op == 6))] [(62,.bool (p0.Op == 13))] [(62,.bool ((p0.Op == 6) || (p0.Op == 13)))] [62,66] c fun _ c=>⟨_,(),(sk h),c.rk [0] []⟩
 subst hrl
 refine I0 c h (fun h=>?_) fun h=>?_
 refine Bd h fun x9 hx9 h=>S0 (rZ [(2,.eq (.bool x9))] [(1,0),(5,0),(10,0)] mix c ⟨Ncl c (kN (Xk hx9)) tt call82,tt⟩ fun _ _ c=>?_)
 exact rE
 refine S0 (P0 [] c fun _ c=>Mp (p0.Op == 9) [(80,.bool (p0.Op == 9))] [(80,.bool (p0.Op == 11))] [(80,.bool ((p0.Op == 9) || (p0.Op == 11)))] [80,82] c fun _ c=>I0 c h (fun h=>?_) fun h=>?_)
 refine S0 (Ry [(1,0),(8,0)] mix c fun _ _ c=>?_)
 exact rE
 refine P0 [] c fun _ c=>I0 c h (fun h=>?_) fun h=>?_
 refine Bd h fun x10 hx10 h=>S0 (rZ [(2,.eq (.bool x10))] [(1,0),(8,0)] mix c ⟨Ncl c (kN (Xk hx10)) tt call82,tt⟩ fun _ _ c=>?_)
 exact rE
 refine S0 (P0 [] c fun _ c=>Mp (p0.Op == 12) [(107,.bool (p0.Op == 12))] [(107,.bool (p0.Op == 14))] [(107,.bool ((p0.Op == 12) || (p0.Op == 14)))] [107,109] c fun _ c=>I0 c h (fun h=>?_) fun h=>K1 (bk (tn (P0 [] c fun _ c=>rE))))
 refine S0 (Ry [(1,0),(5,0),(10,0)] mix c fun _ _ c=>?_)
 exact rE
theorem ZaT {p0 r} (h:Xh n p0 = some r):C0 33 [gV p0 ga0 gc1] [lR ga0 p0.Code gc1] (.bool r):=by
 unfold Xh at h
 refine En func33 rfl ntmps33 fun _ fr w c=>?_
 refine T0 (Ebx (gC p0 ga0 gc1) c fun b1 _ _ c=>?_)
 refine Fp [] 1 c fun _ c=>E0 (S0 (Bd h fun x1 hx1 h=>Bd h fun x2 hx2 h=>Bd h fun x3 hx3 h=>Bd h fun x4 hx4 h=>Bd h fun x5 hx5 h=>S0 (rZ [(2,.eq (.bool x1)),(7,.eq (.bool x2)),(15,.eq (.bool x3)),(21,.eq (.bool x4)),(28,.eq (.bool x5))] [(1,0),(6,0),(12,0),(14,0),(20,0),(26,0)] mix c ⟨Ncl c (kN (Zt hx1)) tt call18,Ncl c (fun hg=>Zt (iteF (gcF hg) hx2)) tt call18,Ncl c (fun hg=>Yj (iteF (gcF hg) hx3)) tt call58,Ncl c (fun hg=>Zt (iteF (gcF hg) hx4)) tt call18,Ncl c (fun hg=>Zt (iteF (gcF hg) hx5)) tt call18,tt⟩ fun _ _ c=>I0 c h (fun h=>?_) fun h=>?_)))
 exact P0 [] c fun _ c=>rE
 refine K0 (S0 (P0 [(1,0)] c fun _ c=>Bd h fun rl1 hit1 h=>?_))
 have hk1:=h
 refine LpR (fun s1  (_:Unit)=>([(1,B b1 0),(37,L ga0 p0.Code gc1),(38,I (len p0.Code)),(39,I s1)],id,[])) (fun s  (_:Unit)=>([],id,[])) hit1 c () (c.rk [0] [0]) (fun s1 q1 _ _ _ c h hr1=>?_) fun s1r _ _ _ hrl c=>?_
 refine P0 [] c fun _ c=>S0 (I0 c h (fun h=>?_) fun h=>?_)
 refine K0 (S0 (wp_block (T0 (Bd h fun x6 hx6 h=>Eel c (.f 0) hx6 fun _ _ c=>?_))))
 refine Eal [I 0,I 0,I 0,I 0] c fun b2 _ _ c=>?_
 refine Ess 1 (nC x6) c fun _ c=>?_
 refine E0 (T0 (Fp [(0,1),(2,0),(4,0)] 6 c fun _ c=>Bd h fun x7 hx7 h=>Cb c (Zf1 hx7) tt call59 fun _ _ _ c=>?_))
 refine Fp [] 1 c fun _ c=>E0 (I0 c h (fun h=>?_) fun h=>?_)
 refine P0 [] c fun _ c=>?_
 obtain rfl:=hr1 _ (sk h)
 obtain rfl:=sj hk1
 exact wp_ret (br (tr (tr (br (tr (Rt c () [] []))))))
 refine K1 (bk (tn (P1 [] c fun _ c=>Nx h () (c.rk [0] [0]))))
 refine wp_exit (te (te (be ?_)))
 obtain rfl:=hr1 _ (sk h)
 exact tn ⟨_,(),rfl,c.rk [0] [0]⟩
 subst hrl
 exact P0 [] c fun _ c=>rE
theorem Zef {p0 p1 p2 r} (h:Za9 n p0 p1 p2 = some r):C0 34 [L ga0 p0 gc1,I p1,I p2] [lR ga0 p0 gc1] (.bool r):=by
 unfold Za9 at h
 refine En func34 rfl ntmps34 fun _ fr w c=>?_
 refine P0 [] c fun _ c=>S0 (P0 [] c fun _ c=>Bd h fun rl1 hit1 h=>?_)
 have hk1:=h
 refine LpR (fun s1  (_:Unit)=>([(0,L ga0 p0 gc1),(1,I p1),(2,I p2),(9,L ga0 p0 gc1),(10,I (len p0)),(11,I s1)],id,[])) (fun s  (_:Unit)=>([(0,L ga0 p0 gc1),(1,I p1)],id,[])) hit1 c () (c.rk [] [0]) (fun s1 q1 _ _ _ c h hr1=>?_) fun s1r _ _ _ hrl c=>?_
 refine P0 [] c fun _ c=>S0 (I0 c h (fun h=>?_) fun h=>?_)
 refine K0 (S0 (wp_block (T0 (Bd h fun x1 hx1 h=>Eel c (.f 0) hx1 fun _ _ c=>?_))))
 refine Fp [] 1 c fun _ c=>E0 (T0 (Fp [] 2 c fun _ c=>Bd h fun x2 hx2 h=>Cb c (Yj hx2) tt call58 fun _ _ _ c=>?_))
 refine Fp [] 1 c fun _ c=>E0 (I0 c h (fun h=>?_) fun h=>?_)
 refine P0 [] c fun _ c=>?_
 obtain rfl:=hr1 _ (sk h)
 obtain rfl:=sj hk1
 exact wp_ret (br (tr (tr (br (tr (Rt c () [] []))))))
 refine K1 (bk (tn (P1 [] c fun _ c=>Nx h () (c.rk [] [0]))))
 refine wp_exit (te (te (be ?_)))
 obtain rfl:=hr1 _ (sk h)
 exact tn ⟨_,(),rfl,c.rk [] [0]⟩
 subst hrl
 exact P0 [] c fun _ c=>rE
theorem Zcy {p0 p1 r} (h:XW n p0 p1 = some r):C0 17 [gV p0 ga0 gc1,L ga2 p1 gc3] [lR ga0 p0.Code gc1,lR ga2 p1 gc3] (.bool r):=by
 unfold XW at h
 refine En func17 rfl ntmps17 fun _ fr w c=>?_
 refine T0 (Ebx (gC p0 ga0 gc1) c fun b1 _ _ c=>?_)
 refine Fp [] 1 c fun _ c=>E0 (Bd h fun x1 hx1 h=>Bd h fun x2 hx2 h=>S0 (rZ [(1,.eq (.bool x1)),(8,.eq (.bool x2))] [(0,0),(5,0),(7,0)] mix c ⟨Ncl c (kN (ZaT hx1)) ⟨.f 0,tt⟩ call33,Ncl c (fun hg=>Zef (iteT (gcT hg) hx2)) ⟨.f 1,tt⟩ call34,tt⟩ fun _ _ c=>?_))
 exact rE
theorem Z7 {p0 p1 r} (h:Z9 p0 p1 = some r):Con prog 35 [I p0,I p1] [] [] fun (_:Unit)=>([.agg #[I r.Op,I r.W,I r.N,Str.val r.Name,L0]],[],[]):=by
 unfold Z9 at h
 refine En func35 rfl ntmps35 fun _ fr w c=>?_
 refine T0 (Eal tZ c fun b1 _ _ c=>?_)
 refine E0 (T0 (Fp [] 3 c fun _ c=>Ess 0 [I 0,I p0,I p1,Str.val ⟨[]⟩,L0] c fun _ c=>?_))
 refine E0 ?_
 cases h
 exact wp_ret (Rg c () [] [] (.cell (α:=Agg 4) kk (.b 0) .nil))
theorem ZdG {p0 r} (h:Zap n p0 = some r):Con prog 19 [gV p0 ga0 gc1] [] [lR ga0 p0.Code gc1] fun (i:Hp)=>([pJ r i],[],(pF r i)):=by
 unfold Zap at h
 refine En func19 rfl ntmps19 fun _ fr w c=>?_
 refine T0 (Ebx (gC p0 ga0 gc1) c fun b1 _ _ c=>?_)
 refine Eal pZ c fun b2 _ _ c=>?_
 refine E0 (S0 (T0 (Fp [(0,0)] 1 c fun _ c=>Bd h fun x1 hx1 h=>Cb c (ZaT hx1) ⟨.f 0,tt⟩ call33 fun _ _ _ c=>?_)))
 refine Fp [] 1 c fun _ c=>E0 (I0 c h (fun h=>?_) fun h=>?_)
 refine T0 (Fp [] 1 c fun _ c=>Ess 1 pZ c fun _ c=>?_)
 refine E0 ?_
 cases h
 replace c:=c.nilf (α:=D.Term)
 replace c:=c.nilf (α:=D.Term)
 replace c:=c.nilf (α:=Int)
 replace c:=c.nilf (α:=D.Term)
 replace c:=c.nilf (α:=D.Term)
 replace c:=c.nilf (α:=Int)
 exact wp_ret (tr (Rg c (none,0,none,0,none,0,none,0,none,0,none,0) [] [1,2,3,4,5,6] (.cell (α:=Agg 9) kk (.b 1) .nil)))
 refine K0 (T0 (Fp [] 1 c fun _ c=>Eal pZ c fun b3 _ _ c=>?_))
 refine Ess 2 pZ c fun _ c=>?_
 refine E0 (S0 (P0 [] c fun _ c=>?_))
 replace c:=(c.nil (α:=Rw.Term) 62).csn (ρ:=Rw.Term) (α:=D.Term)
 refine Bd h fun rl1 hit1 h=>Lp (fun s1  (i:List Rw.Term × Oh)=>([(1,B b1 0),(2,B b2 0),(3,B b3 0),(4,I s1.1)],fun Γ=>(Γ.set 2 (BX b3 29 [I 0,L i.2.1 s1.2 i.q2,L0,L none ([]:List Int) 0,I 0,L0,I 0,I 0,L0,L none ([]:List Int) 0])).set 3 (sl62 (L i.2.1 s1.2 i.q2) (i.1)),[CS (i.1) s1.2])) (fun  (i:List Rw.Term × Oh)=>([(1,B b1 0),(2,B b2 0),(3,B b3 0)],fun Γ=>(Γ.set 2 (BX b3 29 [I 0,L i.2.1 rl1 i.q2,L0,L none ([]:List Int) 0,I 0,L0,I 0,I 0,L0,L none ([]:List Int) 0])).set 3 (sl62 (L i.2.1 rl1 i.q2) (i.1)),[CS (i.1) rl1])) hit1 c (([]:List Rw.Term),none,0) (c.rk (rg 4) [0,1,1]) (fun s1 q1 i1 _ _ c h hr1=>?_) fun k1 _ _ c=>?_
 refine S0 (P0 [] c fun _ c=>I0 c h (fun h=>?_) fun h=>?_)
 refine K0 (S0 (wp_block (Bd h fun x2 hx2 h=>YH mix (rM 6 [(4,.eq (.agg #[I x2.Op,I x2.W,I x2.N,Str.val x2.Name,L0])),(5,Pd.nw c.wd 5 (fun i:Oh=>L i.1 [(t0 x2)] i.2) (fun i=>sl62 (L i.1 [(t0 x2)] i.2) [(u0 x2)]))] [(1,2),(3,0)] c (fun ow=>⟨ZG ow (Ncl c (kN (Z7 hx2)) tt call35),Nlt c [(u0 x2)],tt⟩) fun ow _ _ hE hc cq=>?_))))
 obtain ⟨i2,hi2⟩:=hE.nw 5 20
 replace c:=Cx.newt c hc cq [(5,20,_,_)] ⟨hi2,tt⟩
 replace c:=c.csl [(u0 x2)] [(t0 x2)] ⟨(Ava.mk_Term (t0 x2) (.nil)),tt⟩
 replace c:=c.nf
 replace c:=c.fzr 4 3
 refine Bd h fun x3 hx3 h=>Eapr 3 2 c (.f 4) hx3 fun rm1 a1 c1 _ _ c=>?_
 refine Fp [] 1 c fun _ c=>Esb 2 1 (L a1 x3 c1) c fun _ c=>?_
 refine E1 (bk (tn (P1 [] c fun _ c=>Nx h ((i1.1 ++ rm1),a1,c1) (c.rk (rg 4) [0,1,5]))))
 refine wp_exit (te (te (be ?_)))
 obtain rfl:=hr1 _ (sk h)
 exact tn ⟨(i1.1,i1.2.1,i1.q2),c.rk (rg 4) [0,1,2]⟩
 refine S0 (P0 [] c fun _ c=>?_)
 replace c:=(c.nil (α:=Rw.Term) 62).csn (ρ:=Rw.Term) (α:=D.Term)
 refine Bd h fun rl2 hit2 h=>Lp (fun s2  (i:List Rw.Term × Oh)=>([(1,B b1 0),(2,B b2 0),(3,B b3 0),(5,I s2.1)],fun Γ=>(Γ.set 2 (BX b3 29 [I 0,L k1.2.1 rl1 k1.q2,L i.2.1 s2.2 i.q2,L none ([]:List Int) 0,I 0,L0,I 0,I 0,L0,L none ([]:List Int) 0])).set 4 (sl62 (L i.2.1 s2.2 i.q2) (i.1)),[CS (i.1) s2.2])) (fun  (i:List Rw.Term × Oh)=>([(2,B b2 0),(3,B b3 0)],fun Γ=>(Γ.set 2 (BX b3 29 [I 0,L k1.2.1 rl1 k1.q2,L i.2.1 rl2 i.q2,L none ([]:List Int) 0,I 0,L0,I 0,I 0,L0,L none ([]:List Int) 0])).set 4 (sl62 (L i.2.1 rl2 i.q2) (i.1)),[CS (i.1) rl2])) hit2 c (([]:List Rw.Term),none,0) (c.rk (rg 5) [0,1,2,3,3]) (fun s2 q2 i3 _ _ c h hr2=>?_) fun k2 _ _ c=>?_
 refine S0 (P0 [(2,0)] c fun _ c=>I0 c h (fun h=>?_) fun h=>?_)
 refine K0 (S0 (wp_block (Bd h fun x4 hx4 h=>YH mix (rM 6 [(4,.eq (.agg #[I x4.Op,I x4.W,I x4.N,Str.val x4.Name,L0])),(5,Pd.nw c.wd 5 (fun i:Oh=>L i.1 [(t0 x4)] i.2) (fun i=>sl62 (L i.1 [(t0 x4)] i.2) [(u0 x4)]))] [(1,2),(3,0)] c (fun ow=>⟨ZG ow (Ncl c (kN (Z7 hx4)) tt call35),Nlt c [(u0 x4)],tt⟩) fun ow _ _ hE hc cq=>?_))))
 obtain ⟨i4,hi4⟩:=hE.nw 5 34
 replace c:=Cx.newt c hc cq [(5,34,_,_)] ⟨hi4,tt⟩
 replace c:=c.csl [(u0 x4)] [(t0 x4)] ⟨(Ava.mk_Term (t0 x4) (.nil)),tt⟩
 replace c:=c.nf
 replace c:=c.fzr 5 5
 refine Bd h fun x5 hx5 h=>Eapr 4 4 c (.f 6) hx5 fun rm2 a2 c2 _ _ c=>?_
 refine Fp [] 1 c fun _ c=>Esb 2 2 (L a2 x5 c2) c fun _ c=>?_
 refine E1 (bk (tn (P1 [] c fun _ c=>Nx h ((i3.1 ++ rm2),a2,c2) (c.rk (rg 5) [0,1,2,3,7]))))
 refine wp_exit (te (te (be ?_)))
 obtain rfl:=hr2 _ (sk h)
 exact tn ⟨(i3.1,i3.2.1,i3.q2),c.rk (rg 5) (rg 5)⟩
 refine T0 (Fp [(0,2)] 1 c fun _ c=>?_)
 replace c:=c.nf
 refine Ess 1 [I 0,L k1.2.1 rl1 k1.q2,L k2.2.1 rl2 k2.q2,L none ([]:List Int) 0,I 0,L0,I 0,I 0,L0,L none ([]:List Int) 0] c fun _ c=>?_
 refine E0 ?_
 replace c:=c.fzr 3 2
 replace c:=c.fzr 3 4
 cases h
 replace c:=c.nilf (α:=Int)
 replace c:=c.nilf (α:=D.Term)
 replace c:=c.nilf (α:=D.Term)
 replace c:=c.nilf (α:=Int)
 exact wp_ret (Rg c (k1.2.1,k1.q2,k2.2.1,k2.q2,none,0,none,0,none,0,none,0) [] [5,6,7,8,9,10] (.cell (α:=Agg 9) kk (.b 1) .nil))
theorem ZcH {n:Nat}:∀ {p0 ga0 gc1 r} (h:YF n p0 = some r),Ct 83 [tV p0 ga0 gc1] [lR ga0 p0.Kids gc1] r:=by
 induction n with
 | zero=>intro p0 ga0 gc1 r h; simp [YF] at h
 | succ n ih=>
 intro p0 ga0 gc1 r h
 rw [YF] at h
 refine En func83 rfl ntmps83 fun _ fr w c=>?_
 refine T0 (Ebx (tC p0 ga0 gc1) c fun b1 _ _ c=>?_)
 refine Eal tZ c fun b2 _ _ c=>?_
 refine E0 (T0 (Eltr 62 ([]:List Rw.Term) ([]:List D.Term) c tt fun a1 c1 _ _ c=>?_))
 refine Fp [] 1 c fun _ c=>E0 (S0 (P0 [(1,0)] c fun _ c=>Bd h fun rl1 hit1 h=>Lp (fun s1  (i:List Rw.Term × Oh)=>([(1,B b1 0),(2,B b2 0),(3,L i.2.1 s1.2 i.q2),(8,L ga0 p0.Kids gc1),(9,I (len p0.Kids)),(10,I s1.1)],fun Γ=>Γ.set 2 (sl62 (L i.2.1 s1.2 i.q2) (i.1)),[CS (i.1) s1.2])) (fun  (i:List Rw.Term × Oh)=>([(1,B b1 0),(2,B b2 0),(3,L i.2.1 rl1 i.q2)],fun Γ=>Γ.set 2 (sl62 (L i.2.1 rl1 i.q2) (i.1)),[CS (i.1) rl1])) hit1 c (([]:List Rw.Term),a1,c1) (c.rk [0,1,2] [0,1,1]) (fun s1 q1 i1 _ _ c h hr1=>?_) fun k1 _ _ c=>?_))
 refine P0 [] c fun _ c=>S0 (I0 c h (fun h=>?_) fun h=>?_)
 refine K0 (S0 (wp_block (T0 (Bd h fun x1 hx1 h=>Eem c (.f 0) hx1 fun _ u1 _ c=>?_))))
 obtain ⟨a2,c2,rfl,c⟩:=c.o_Term 3
 refine Eal tZ c fun b3 _ _ c=>?_
 replace c:=c.nf
 refine Ess 3 (tC x1 a2 c2) c fun _ c=>?_
 refine E0 (T1 (Fp [(1,2)] 2 c fun _ c=>Bd h fun x2 hx2 h=>Cg c (ih hx2) ⟨.f 4,tt⟩ call83 fun i2 _ _ c=>?_))
 refine Eltr 62 [(tR x2 i2.1 i2.2)] [x2] c ⟨(Ava.mk_Term x2 (.f 5)),tt⟩ fun a3 c3 _ _ c=>?_
 replace c:=c.fzr 4 6
 refine Bd h fun x3 hx3 h=>Eapr 2 2 c (.f 7) hx3 fun rm1 a4 c4 _ _ c=>?_
 refine Fp [] 1 c fun _ c=>E1 (bk (tn (P1 [] c fun _ c=>Nx h ((i1.1 ++ rm1),a4,c4) (c.rk [0,1,2] [0,1,8]))))
 refine wp_exit (te (te (be ?_)))
 obtain rfl:=hr1 _ (sk h)
 exact tn ⟨(i1.1,i1.2.1,i1.q2),c.rk [0,1,2] [0,1,2]⟩
 refine T0 (Fp [] 2 c fun _ c=>Esb 0 4 (L k1.2.1 rl1 k1.q2) c fun _ c=>?_)
 refine E0 (T0 (Fp [(0,0)] 1 c fun _ c=>Ess 1 [I p0.Op,I p0.W,I p0.N,Str.val p0.Name,L k1.2.1 rl1 k1.q2] c fun _ c=>?_))
 refine E0 ?_
 replace c:=c.fzr 2 2
 cases h
 exact wp_ret (Rg c (k1.2.1,k1.q2) [] [3] (.cell (α:=Agg 4) kk (.b 1) .nil))
theorem XM {p0 r} (h:YK n p0 = some r):Con prog 60 [L ga0 p0 gc1] [] [lR ga0 p0 gc1] fun (i:Ob (List Rw.Term))=>([L i.1 r i.2.1],[sl62 (L i.1 r i.2.1) (i.q2)],[CS i.q2 r]):=by
 unfold YK at h
 refine En func60 rfl ntmps60 fun _ fr w c=>?_
 refine P0 [] c fun _ c=>T0 (Eltr 62 ([]:List Rw.Term) ([]:List D.Term) c tt fun a1 c1 _ _ c=>?_)
 refine Fp [] 1 c fun _ c=>E0 (S0 (P0 [] c fun _ c=>Bd h fun rl1 hit1 h=>Lp (fun s1  (i:List Rw.Term × Oh)=>([(3,L i.2.1 s1.2 i.q2),(7,L ga0 p0 gc1),(8,I (len p0)),(9,I s1.1)],fun Γ=>Γ.set 0 (sl62 (L i.2.1 s1.2 i.q2) (i.1)),[CS (i.1) s1.2])) (fun  (i:List Rw.Term × Oh)=>([(3,L i.2.1 rl1 i.q2)],fun Γ=>Γ.set 0 (sl62 (L i.2.1 rl1 i.q2) (i.1)),[CS (i.1) rl1])) hit1 c (([]:List Rw.Term),a1,c1) (c.rk [0] [0,1,1]) (fun s1 q1 i1 _ _ c h hr1=>?_) fun k1 _ _ c=>?_))
 refine P0 [] c fun _ c=>S0 (I0 c h (fun h=>?_) fun h=>?_)
 refine K0 (S0 (wp_block (T0 (Bd h fun x1 hx1 h=>Eem c (.f 0) hx1 fun _ u1 _ c=>?_))))
 obtain ⟨a2,c2,rfl,c⟩:=c.o_Term 3
 refine Eal tZ c fun b1 _ _ c=>?_
 refine Ess 1 (tC x1 a2 c2) c fun _ c=>?_
 refine E0 (T1 (Fp [(1,0)] 2 c fun _ c=>Bd h fun x2 hx2 h=>Cg c (ZcH hx2) ⟨.f 4,tt⟩ call83 fun i2 _ _ c=>?_))
 replace c:=c.nf
 refine Eltr 62 [(tR x2 i2.1 i2.2)] [x2] c ⟨(Ava.mk_Term x2 (.f 5)),tt⟩ fun a3 c3 _ _ c=>?_
 replace c:=c.fzr 2 6
 refine Bd h fun x3 hx3 h=>Eapr 0 2 c (.f 7) hx3 fun rm1 a4 c4 _ _ c=>?_
 refine Fp [] 1 c fun _ c=>E1 (bk (tn (P1 [] c fun _ c=>Nx h ((i1.1 ++ rm1),a4,c4) (c.rk [0] [0,1,8]))))
 refine wp_exit (te (te (be ?_)))
 obtain rfl:=hr1 _ (sk h)
 exact tn ⟨(i1.1,i1.2.1,i1.q2),c.rk [0] [0,1,2]⟩
 refine P0 [] c fun _ c=>?_
 obtain rfl:=sj h
 exact wp_ret (Rt c (k1.2.1,k1.q2,k1.1) [0] [2])
theorem Xo {p0 r} (h:Yn n p0 = some r):Con prog 36 [pV p0 ga0 gc1 ga2 gc3 ga4 gc5 ga6 gc7 ga8 gc9 ga10 gc11] [] [lR ga0 p0.Regs gc1,lR ga2 p0.Mem gc3,lR ga4 p0.Stack gc5,lR ga6 p0.Out gc7,lR ga8 p0.Cond gc9,lR ga10 p0.Turns gc11] fun (i:Ob (List Rw.Term × Ob (List Rw.Term × Ob (Ob (List Rw.Term × Ob (List Rw.Term × Oh))))))=>([pV r i.1 i.2.1 i.p3 i.p4 i.p6 i.p7 i.p8 i.p9 i.p11 i.p12 i.p14 i.q15],[sl62 (L i.1 r.Regs i.2.1) (i.p2),sl62 (L i.p3 r.Mem i.p4) (i.p5),sl3 (L i.p6 r.Stack i.p7) r.Stack,sl62 (L i.p8 r.Out i.p9) (i.p10),sl62 (L i.p11 r.Cond i.p12) (i.p13),sl3 (L i.p14 r.Turns i.q15) r.Turns],[CS i.p2 r.Regs,CS i.p5 r.Mem,CS i.p10 r.Out,CS i.p13 r.Cond]):=by
 unfold Yn at h
 refine En func36 rfl ntmps36 fun _ fr w c=>?_
 refine T0 (Ebx (pC p0 ga0 gc1 ga2 gc3 ga4 gc5 ga6 gc7 ga8 gc9 ga10 gc11) c fun b1 _ _ c=>?_)
 refine Eal pZ c fun b2 _ _ c=>?_
 refine E0 (T0 (Fp [(1,0)] 2 c fun _ c=>Bd h fun x1 hx1 h=>Cg c (XM hx1) ⟨.f 0,tt⟩ call60 fun i1 _ _ c=>?_))
 refine Fp [] 1 c fun _ c=>Esb 0 1 (L i1.1 x1 i1.2.1) c fun _ c=>?_
 refine E0 (T0 (Fp [(1,0)] 2 c fun _ c=>Bd h fun x2 hx2 h=>Cg c (XM hx2) ⟨.f 1,tt⟩ call60 fun i2 _ _ c=>?_))
 refine Fp [] 1 c fun _ c=>?_
 replace c:=c.ng
 refine Esb 0 2 (L i2.1 x2 i2.2.1) c fun _ c=>?_
 refine E0 (T0 (Elt 3 ([]:List Int) c fun a1 c1 _ _ c=>?_))
 refine Fp [(2,0)] 2 c fun _ c=>Bd h fun x3 hx3 h=>Eap 4 c (.f 2) hx3 fun a2 c2 _ _ c=>?_
 refine Fp [] 1 c fun _ c=>Esb 0 3 (L a2 x3 c2) c fun _ c=>?_
 refine E0 (T0 (Fp [(1,0)] 2 c fun _ c=>Bd h fun x4 hx4 h=>Cg c (XM hx4) ⟨.f 3,tt⟩ call60 fun i3 _ _ c=>?_))
 refine Fp [] 1 c fun _ c=>?_
 replace c:=c.ng
 refine Esb 0 5 (L i3.1 x4 i3.2.1) c fun _ c=>?_
 refine E0 (T0 (Fp [(1,0)] 2 c fun _ c=>Bd h fun x5 hx5 h=>Cg c (XM hx5) ⟨.f 4,tt⟩ call60 fun i4 _ _ c=>?_))
 refine Fp [] 1 c fun _ c=>Esb 0 8 (L i4.1 x5 i4.2.1) c fun _ c=>?_
 refine E0 (T0 ?_)
 replace c:=c.ng
 refine Elt 3 ([]:List Int) c fun a3 c3 _ _ c=>?_
 refine Fp [(2,0)] 2 c fun _ c=>Bd h fun x6 hx6 h=>Eap 7 c (.f 5) hx6 fun a4 c4 _ _ c=>?_
 refine Fp [] 1 c fun _ c=>Esb 0 9 (L a4 x6 c4) c fun _ c=>?_
 refine E0 (T0 (Fp [(0,0)] 1 c fun _ c=>?_))
 replace c:=c.ng
 refine Ess 1 [I p0.Pc,L i1.1 x1 i1.2.1,L i2.1 x2 i2.2.1,L a2 x3 c2,I p0.In,L i3.1 x4 i3.2.1,I p0.Code,I p0.Steps,L i4.1 x5 i4.2.1,L a4 x6 c4] c fun _ c=>?_
 refine E0 ?_
 cases h
 exact wp_ret (Rg c (i1.1,i1.2.1,i1.q2,i2.1,i2.2.1,i2.q2,a2,c2,i3.1,i3.2.1,i3.q2,i4.1,i4.2.1,i4.q2,a4,c4) [2,3,4,5,6,7] [6,7,8,9] (.cell (α:=Agg 9) kk (.b 1) .nil))
theorem Zfe {n:Nat}:∀ {p0 p1 ga0 gc1 gb2 r} (h:XB n p0 p1 = some r),Con prog 104 [tV p0 ga0 gc1,B gb2 0] [BX gb2 3 [I p1]] [lR ga0 p0.Kids gc1] fun (_:Unit)=>([.bool r.1],[BX gb2 3 [I r.2]],[]):=by
 induction n with
 | zero=>intro p0 p1 ga0 gc1 gb2 r h; simp [XB] at h
 | succ n ih=>
 intro p0 p1 ga0 gc1 gb2 r h
 rw [XB] at h
 refine En func104 rfl ntmps104 fun _ fr w c=>?_
 refine T0 (Ebx (tC p0 ga0 gc1) c fun b1 _ _ c=>?_)
 refine Fp [] 1 c fun _ c=>E0 (T0 (Fp [(3,0)] 6 c fun _ c=>Esb 0 0 (I (w64 (p1 - 1))) c fun _ c=>?_))
 refine E0 (S0 (P0 [] c fun _ c=>Bd h fun rl1 hit1 h=>Lp (fun s1  (_:Unit)=>([(1,B gb2 0),(2,B b1 0),(5,I s1.1)],fun Γ=>Γ.set 0 (BX gb2 3 [I s1.2]),[])) (fun  (_:Unit)=>([(1,B gb2 0)],fun Γ=>Γ.set 0 (BX gb2 3 [I rl1]),[])) hit1 c () (c.rk [0,1] [0]) (fun s1 q1 _ _ _ c h hr1=>?_) fun _ _ _ c=>?_))
 refine S0 (S0 (Ry [(2,1),(8,0)] mix c fun _ _ c=>I0 c h (fun h=>?_) fun h=>?_))
 refine K0 (S0 (wp_block (T1 (Fp [(1,1)] 3 c fun _ c=>Bd h fun x1 hx1 h=>Eem c (.f 0) hx1 fun _ u1 _ c=>?_))))
 obtain ⟨a1,c1,rfl,c⟩:=c.o_Term 1
 refine Fp [] 1 c fun _ c=>Bd h fun x2 hx2 h=>Ca [0] c (ih hx2) ⟨.f 2,tt⟩ call104 fun _ _ _ c=>?_
 refine E1 (bk (tn (P1 [] c fun _ c=>Nx h () (c.rk [1,0] [0]))))
 refine wp_exit (te (te (be ?_)))
 obtain rfl:=hr1 _ (sk h)
 exact tn ⟨(),c.rk [0,1] [0]⟩
 refine P0 [(2,0)] c fun _ c=>?_
 cases h
 exact wp_ret (Rt c () [0] [])
theorem ZfC {p0 r} (h:ZaI n p0 = some r):C0 126 [Str.val p0] [] (.bool r):=by
 unfold ZaI at h
 refine En func126 rfl ntmps126 fun _ fr w c=>?_
 refine P0 [] c fun _ c=>S0 (P0 [] c fun _ c=>Bd h fun rl1 hit1 h=>?_)
 have hk1:=h
 refine LpR (fun s1  (_:Unit)=>([(0,Str.val p0),(3,I s1)],id,[])) (fun s  (_:Unit)=>([(0,Str.val p0)],id,[])) hit1 c () (c.rk [] []) (fun s1 q1 _ _ _ c h hr1=>?_) fun s1r _ _ _ hrl c=>?_
 refine S0 (P0 [] c fun _ c=>I0 c h (fun h=>?_) fun h=>?_)
 refine K0 (S0 (wp_block (T0 (Fp [] 2 c fun _ c=>Bd h fun x1 hx1 h=>Eix (kd:=.i64) c hx1 fun _ c=>?_))))
 refine Fp [] 1 c fun _ c=>Bd h fun x2 hx2 h=>Cb c (Zt hx2) tt call18 fun _ _ _ c=>?_
 refine Fp [] 1 c fun _ c=>E0 (Bd h fun x3 hx3 h=>Bd h fun x4 hx4 h=>S0 (rZ [(8,.eq (.int .u8 x3)),(10,.eq (.bool x4))] [] mix c ⟨Nix c (fun hg=>(iteT (gcT (g':=2) (gU 5 hg)) (iteF (gcF (g':=5) hg) hx3))),Ncl c (fun hg=>Zt ((iteT (gcT (g':=2) (gU 5 hg)) (iteF (gcF (g':=5) hg) hx4)))) tt call18,tt⟩ fun _ _ c=>I0 c h (fun h=>?_) fun h=>?_))
 refine P0 [] c fun _ c=>?_
 obtain rfl:=hr1 _ (sk h)
 obtain rfl:=sj hk1
 exact wp_ret (br (tr (tr (br (tr (Rt c () [] []))))))
 refine K1 (bk (tn (P1 [] c fun _ c=>Nx h () (c.rk [] []))))
 refine wp_exit (te (te (be ?_)))
 obtain rfl:=hr1 _ (sk h)
 exact tn ⟨_,(),rfl,c.rk [] []⟩
 subst hrl
 refine T0 (Fp [] 2 c fun _ c=>Bd h fun x5 hx5 h=>Cb c (Zt hx5) tt call18 fun _ _ _ c=>?_)
 exact Fp [] 1 c fun _ c=>E0 rE
theorem ZeC {n:Nat}:∀ {p0 ga0 gc1 r} (h:YD n p0 = some r),C0 105 [tV p0 ga0 gc1] [lR ga0 p0.Kids gc1] (.bool r):=by
 induction n with
 | zero=>intro p0 ga0 gc1 r h; simp [YD] at h
 | succ n ih=>
 intro p0 ga0 gc1 r h
 rw [YD] at h
 refine En func105 rfl ntmps105 fun _ fr w c=>?_
 refine T0 (Ebx (tC p0 ga0 gc1) c fun b1 _ _ c=>?_)
 refine Fp [] 1 c fun _ c=>E0 (P0 [(1,0)] c fun _ c=>S0 (Bd h fun x1 hx1 h=>S0 (rZ [(2,.eq (.bool x1))] [(1,0),(6,0),(10,0),(16,0),(20,0),(25,0)] mix c ⟨Ncl c (kN (Zt hx1)) tt call18,tt⟩ fun _ _ c=>I0 c h (fun h=>?_) fun h=>?_)))
 exact P0 [] c fun _ c=>rE
 refine K0 (S0 (P0 [(1,0)] c fun _ c=>Bd h fun rl1 hit1 h=>?_))
 have hk1:=h
 refine LpR (fun s1  (_:Unit)=>([(1,B b1 0),(3,I (len p0.Kids)),(41,L ga0 p0.Kids gc1),(42,I (len p0.Kids)),(43,I s1)],id,[])) (fun s  (_:Unit)=>([(1,B b1 0),(3,I (len p0.Kids))],id,[])) hit1 c () (c.rk [0] [0]) (fun s1 q1 _ _ _ c h hr1=>?_) fun s1r _ _ _ hrl c=>?_
 refine P0 [] c fun _ c=>S0 (I0 c h (fun h=>?_) fun h=>?_)
 refine K0 (S0 (wp_block (T0 (Bd h fun x2 hx2 h=>Eem c (.f 0) hx2 fun _ u1 _ c=>?_))))
 obtain ⟨a1,c1,rfl,c⟩:=c.o_Term 1
 refine Eal tZ c fun b2 _ _ c=>?_
 refine Ess 1 (tC x2 a1 c1) c fun _ c=>?_
 refine E0 (T0 (Fp [(0,1)] 1 c fun _ c=>Bd h fun x3 hx3 h=>Cb c (ih hx3) ⟨.f 2,tt⟩ call105 fun _ _ _ c=>?_))
 refine Fp [] 1 c fun _ c=>E0 (I0 c h (fun h=>?_) fun h=>?_)
 refine P0 [] c fun _ c=>?_
 obtain rfl:=hr1 _ (sk h)
 obtain rfl:=sj hk1
 exact wp_ret (br (tr (tr (br (tr (Rt c () [] []))))))
 refine K1 (bk (tn (P1 [] c fun _ c=>Nx h () (c.rk [0] [0]))))
 refine wp_exit (te (te (be ?_)))
 obtain rfl:=hr1 _ (sk h)
 exact tn ⟨_,(),rfl,c.rk [0] [0]⟩
 subst hrl
 refine T0 (Elt 3 ([0,0,0]:List Int) c fun a2 c2 _ _ c=>?_)
 refine Fp [] 1 c fun _ c=>E0 (S0 (P0 [] c fun _ c=>Bd h fun rl2 hit2 h=>Lp (fun s2  (_:Unit)=>([(1,B b1 0),(3,I (len p0.Kids)),(6,L a2 ([0,0,0]:List Int) c2),(7,I s2.1)],fun Γ=>Γ.set 1 (sl3 (L a2 ([0,0,0]:List Int) c2) s2.2),[])) (fun  (_:Unit)=>([(1,B b1 0),(3,I (len p0.Kids)),(6,L a2 ([0,0,0]:List Int) c2)],fun Γ=>Γ.set 1 (sl3 (L a2 ([0,0,0]:List Int) c2) rl2),[])) hit2 c () (c.rk [0,1] [0]) (fun s2 q2 _ _ _ c h hr2=>?_) fun _ _ _ c=>?_))
 refine S0 (S0 (Ry [] mix c fun _ _ c=>I0 c h (fun h=>?_) fun h=>?_))
 refine K0 (S0 (wp_block (T1 (Fp [(3,0)] 5 c fun _ c=>Bd h fun x4 hx4 h=>Eef c (.f 0) hx4 Zb3 fun _ _ _ c=>?_))))
 refine Bd h fun x5 hx5 h=>Eset 1 c hx5 fun _ _ _ c=>?_
 refine E1 (bk (tn (P1 [] c fun _ c=>Nx h () (c.rk [0,1] [0]))))
 refine wp_exit (te (te (be ?_)))
 obtain rfl:=hr2 _ (sk h)
 exact tn ⟨(),c.rk [0,1] [0]⟩
 refine S0 (wp_block (P0 [(1,0)] c fun _ c=>I0 c h (fun h=>?_) fun h=>?_))
 refine Bd h fun x6 hx6 h=>S0 (rZ [(7,.eq (.bool x6))] [(4,0),(6,0)] mix c ⟨Ncl c (fun hg=>Yj (iteT (gcT hg) hx6)) tt call58,tt⟩ fun _ _ c=>?_)
 exact rE
 refine P0 [(1,0)] c fun _ c=>I0 c h (fun h=>?_) fun h=>?_
 refine Bd h fun x7 hx7 h=>S0 (rZ [(5,.eq (.bool x7))] [(4,0)] mix c ⟨Ncl c (fun hg=>ZfC (iteT (gcT hg) hx7)) tt call126,tt⟩ fun _ _ c=>?_)
 exact rE
 refine T0 (Fp [(1,0)] 2 c fun _ c=>Bd h fun x8 hx8 h=>Cb c (Zt hx8) tt call18 fun _ _ _ c=>?_)
 refine Fp [] 1 c fun _ c=>E0 (I0 c h (fun h=>?_) fun h=>?_)
 refine Bd h fun x9 hx9 h=>S0 (rZ [(4,Pd.el (x9:Int)),(5,.eq (I x9))] [(7,0)] mix c ⟨Nid c (.g 1) (gT hx9),Nld c 4 (q:=x9) (atN 4),tt⟩ fun _ _ c=>?_)
 exact rE
 refine T0 (Fp [(1,0)] 2 c fun _ c=>Bd h fun x10 hx10 h=>Cb c (Zt hx10) tt call18 fun _ _ _ c=>?_)
 refine Fp [] 1 c fun _ c=>E0 (I0 c h (fun h=>?_) fun h=>?_)
 refine Bd h fun x11 hx11 h=>Bd h fun x12 hx12 h=>S0 (rZ [(4,Pd.el (x11:Int)),(5,.eq (I x11)),(12,Pd.el (x12:Int)),(13,.eq (I x12))] [(7,0),(15,0)] mix c ⟨Nid c (.g 1) (gT hx11),Nld c 4 (q:=x11) (atN 4),Nid c (.g 1) (gT hx12),Nld c 12 (q:=x12) (atN 12),tt⟩ fun _ _ c=>?_)
 exact rE
 refine T0 (Fp [(1,0)] 2 c fun _ c=>Bd h fun x13 hx13 h=>Cb c (Zt hx13) tt call18 fun _ _ _ c=>?_)
 refine Fp [] 1 c fun _ c=>E0 (I0 c h (fun h=>?_) fun h=>?_)
 refine Bd h fun x14 hx14 h=>Bd h fun x15 hx15 h=>S0 (rZ [(4,Pd.el (x14:Int)),(5,.eq (I x14)),(7,Pd.el (x15:Int)),(8,.eq (I x15))] [(13,0)] mix c ⟨Nid c (.g 1) (gT hx14),Nld c 4 (q:=x14) (atN 4),Nid c (.g 1) (gT hx15),Nld c 7 (q:=x15) (atN 7),tt⟩ fun _ _ c=>?_)
 exact rE
 refine P0 [(1,0)] c fun _ c=>I0 c h (fun h=>?_) fun h=>?_
 refine Bd h fun x16 hx16 h=>Bd h fun x17 hx17 h=>Bd h fun x18 hx18 h=>S0 (rZ [(4,Pd.el (x16:Int)),(5,.eq (I x16)),(10,Pd.el (x17:Int)),(11,.eq (I x17)),(18,Pd.el (x18:Int)),(19,.eq (I x18))] [(13,0),(21,0)] mix c ⟨Nid c (.g 1) (gT hx16),Nld c 4 (q:=x16) (atN 4),Nid c (.g 1) (gT hx17),Nld c 10 (q:=x17) (atN 10),Nid c (.g 1) (gT hx18),Nld c 18 (q:=x18) (atN 18),tt⟩ fun _ _ c=>?_)
 exact rE
 refine P0 [(1,0)] c fun _ c=>I0 c h (fun h=>?_) fun h=>?_
 refine Bd h fun x19 hx19 h=>Bd h fun x20 hx20 h=>S0 (rZ [(4,Pd.el (x19:Int)),(5,.eq (I x19)),(7,Pd.el (x20:Int)),(8,.eq (I x20))] [(11,0)] mix c ⟨Nid c (.g 1) (gT hx19),Nld c 4 (q:=x19) (atN 4),Nid c (.g 1) (gT hx20),Nld c 7 (q:=x20) (atN 7),tt⟩ fun _ _ c=>?_)
 exact rE
 refine P0 [(1,0)] c fun _ c=>I0 c h (fun h=>?_) fun h=>?_
 refine Bd h fun x21 hx21 h=>Bd h fun x22 hx22 h=>S0 (rZ [(5,.eq (.bool x21)),(14,Pd.el (x22:Int)),(15,.eq (I x22))] [(4,0),(9,0),(11,0)] mix c ⟨Ncl c (fun hg=>Zt (iteT (gcT hg) hx21)) tt call18,Nid c (.g 1) (gT hx22),Nld c 14 (q:=x22) (atN 14),tt⟩ fun _ _ c=>?_)
 exact rE
 refine K1 (bk (tn (Bd h fun x23 hx23 h=>Bd h fun x24 hx24 h=>S0 (rZ [(2,.eq (.bool x23)),(9,Pd.el (x24:Int)),(10,.eq (I x24))] [(1,0),(12,0)] mix c ⟨Ncl c (kN (Zt hx23)) tt call18,Nid c (.g 1) (gT hx24),Nld c 9 (q:=x24) (atN 9),tt⟩ fun _ _ c=>?_))))
 exact rE
theorem ZcG {n:Nat}:∀ {p0 p1 ga0 gc1 ga2 gc3 r} (h:Xb n p0 p1 = some r),Con prog 106 [tV p0 ga0 gc1,L ga2 p1 gc3] [] [lR ga0 p0.Kids gc1,lR ga2 p1 gc3] fun (i:Oh)=>([L i.1 r.1 i.2,.bool r.2],[],[lR i.1 r.1 i.2]):=by
 induction n with
 | zero=>intro p0 p1 ga0 gc1 ga2 gc3 r h; simp [Xb] at h
 | succ n ih=>
 intro p0 p1 ga0 gc1 ga2 gc3 r h
 rw [Xb] at h
 refine En func106 rfl ntmps106 fun _ fr w c=>?_
 refine T0 (Ebx (tC p0 ga0 gc1) c fun b1 _ _ c=>?_)
 refine Fp [] 2 c fun _ c=>E0 (S0 (P0 [(1,0)] c fun _ c=>I0 c h (fun h=>?_) fun h=>?_))
 refine P0 [] c fun _ c=>Bd h fun rl1 hit1 h=>S0 (Lp (fun s1  (_:Unit)=>([(1,L ga2 p1 gc3),(2,B b1 0),(6,I s1)],id,[])) (fun  (_:Unit)=>([(1,L ga2 p1 gc3),(2,B b1 0),(6,I rl1)],id,[])) hit1 c () (c.rk [0] [0,1]) (fun s1 q1 _ _ _ c h hr1=>?_) fun _ _ _ c=>?_)
 refine S0 (Bd h fun x1 hx1 h=>S0 (rZ [(7,Pd.el (x1:D.Value)),(8,Pd.fl (Str.val x1.Name)),(9,.eq (Str.val x1.Name))] [(11,0)] mix c ⟨Nid c (.f 1) (gT hx1),Nfa c 7 (atN 7) Zlq,Nlf c 8 (atN 8),tt⟩ fun _ _ c=>I0 c h (fun h=>?_) fun h=>?_))
 refine K0 (wp_block (Tq (P1 [] c fun _ c=>bk (tn (Nx h () (c.rk [0] [0,1]))))))
 refine wp_exit (te (te (be ?_)))
 obtain rfl:=hr1 _ (sk h)
 exact tn ⟨(),c.rk [0] [0,1]⟩
 refine S0 (Bd h fun x2 hx2 h=>S0 (rZ [(7,Pd.el (x2:D.Value)),(8,Pd.fl (Str.val x2.Name)),(9,.eq (Str.val x2.Name))] [(11,0)] mix c ⟨Nid c (.f 1) (gT hx2),Nfa c 7 (atN 7) Zlq,Nlf c 8 (atN 8),tt⟩ fun _ _ c=>I0 c h (fun h=>?_) fun h=>?_))
 refine Bd h fun x3 hx3 h=>S0 (rZ [(3,Pd.el (x3:D.Value)),(4,Pd.fl (I x3.W)),(5,.eq (I x3.W))] [(7,0)] mix c ⟨Nid c (.f 1) (kN hx3),Nfa c 3 (atN 3) Zlw,Nlf c 4 (atN 4),tt⟩ fun _ _ c=>?_)
 cases h
 exact wp_ret (tr (tr (Rg c (ga2,gc3) [] [1] (.tmp (.tmp .nil)))))
 refine K0 (T0 (Elt 87 ([]:List D.Value) c fun a1 c1 _ _ c=>?_))
 refine Fp [] 2 c fun _ c=>Bd h fun x4 hx4 h=>Esl 87 c (.f 1) hx4 fun u1 _ c=>?_
 obtain ⟨a2,c2,rfl⟩:=c.sl 2
 refine Bd h fun x5 hx5 h=>Eap 1 c (.f 2) hx5 fun a3 c3 _ _ c=>?_
 refine Fp [] 1 c fun _ c=>E0 (T0 (Fp [(2,0),(4,0)] 6 c fun _ c=>Elt 87 ([(D.Value.mk p0.Name p0.W 0)]:List D.Value) c fun a4 c4 _ _ c=>?_))
 refine Bd h fun x6 hx6 h=>Eap 1 c (.g 2) hx6 fun a5 c5 _ _ c=>?_
 refine Fp [] 1 c fun _ c=>E0 (T0 (Fp [] 3 c fun _ c=>?_))
 replace c:=c.nf
 refine Bd h fun x7 hx7 h=>Esl 87 c (.f 1) hx7 fun u2 _ c=>?_
 obtain ⟨a6,c6,rfl⟩:=c.sl 3
 refine Bd h fun x8 hx8 h=>Eap 1 c (.f 3) hx8 fun a7 c7 _ _ c=>?_
 refine Fp [] 2 c fun _ c=>E0 ?_
 replace c:=c.fz 1
 cases h
 exact wp_ret (tr (Rg c (a7,c7) [] [4] (.tmp (.tmp .nil))))
 refine K0 (S0 (P0 [(1,0)] c fun _ c=>Bd h fun rl2 hit2 h=>?_))
 have hk2:=h
 refine LpR (fun s2  (i:Oh)=>([(1,L i.1 s2.1 i.2),(73,L ga0 p0.Kids gc1),(74,I (len p0.Kids)),(75,I s2.2)],id,[lR i.1 s2.1 i.2])) (fun s  (i:Oh)=>([(1,L i.1 s i.2)],id,[lR i.1 s i.2])) hit2 c (ga2,gc3) (c.rk [0] [0,1,1]) (fun s2 q2 i1 _ _ c h hr2=>?_) fun s2r k1 _ _ hrl c=>?_
 refine P0 [] c fun _ c=>S0 (I0 c h (fun h=>?_) fun h=>?_)
 refine K0 (S0 (wp_block (T0 (Bd h fun x9 hx9 h=>Eem c (.f 0) hx9 fun _ u3 _ c=>?_))))
 obtain ⟨a8,c8,rfl,c⟩:=c.o_Term 3
 refine Eal tZ c fun b2 _ _ c=>?_
 refine Ess 1 (tC x9 a8 c8) c fun _ c=>?_
 refine E0 (T0 (Fp [(0,1)] 2 c fun _ c=>Bd h fun x10 hx10 h=>Cg c (ih hx10) ⟨.f 4,.f 2,tt⟩ call106 fun i2 _ _ c=>?_))
 refine Fp [] 5 c fun _ c=>E0 (S0 (P0 [] c fun _ c=>I0 c h (fun h=>?_) fun h=>?_))
 refine P0 [] c fun _ c=>?_
 obtain rfl:=hr2 _ (sk h)
 obtain rfl:=sj hk2
 replace c:=c.nilf (α:=D.Value)
 exact wp_ret (tr (br (tr (tr (br (tr (Rg c (none,0) [] [6] (.tmp (.tmp .nil)))))))))
 refine K0 (Tq (P1 [] c fun _ c=>bk (tn (P1 [] c fun _ c=>Nx h (i2.1,i2.2) (c.rk [0] [0,1,5])))))
 refine wp_exit (te (te (be ?_)))
 obtain rfl:=hr2 _ (sk h)
 exact tn ⟨_,(i1.1,i1.2),rfl,c.rk [0] [0,1,2]⟩
 subst hrl
 refine P0 [] c fun _ c=>?_
 cases h
 exact wp_ret (Rg c (k1.1,k1.2) [] [2] (.tmp (.tmp .nil)))
theorem ZcK {p0 r} (h:Zac n p0 = some r):C0 84 [tV p0 ga0 gc1] [lR ga0 p0.Kids gc1] (.bool r):=by
 unfold Zac at h
 refine En func84 rfl ntmps84 fun _ fr w c=>?_
 refine T0 (Ebx (tC p0 ga0 gc1) c fun b1 _ _ c=>?_)
 refine Fp [] 1 c fun _ c=>E0 (T0 (Eal [I 0] c fun b2 _ _ c=>?_))
 refine Esb 1 0 (I 240) c fun _ c=>?_
 refine E0 (S0 (T0 (Fp [(0,0)] 1 c fun _ c=>Bd h fun x1 hx1 h=>Ca [1] c (Zfe hx1) ⟨.f 0,tt⟩ call104 fun _ _ _ c=>?_)))
 refine Fp [] 1 c fun _ c=>Fp [] 1 c fun _ c=>?_
 rcases Zjr (b:=(!x1.1)) h with ⟨hg1,h⟩ | ⟨hg1,h⟩
 replace c:=c.eqs (v:=.bool (!x1.1)) (u:=.bool true) 9 (by rw [hg1])
 refine Gs c fun _ c=>Gs c fun _ c=>Gs c fun _ c=>Epk (b:=true) (v:=.bool true) c fun _ c=>E0 (I0 c h (fun h=>P0 [] c fun _ c=>rE) fun h=>?_)
 refine K0 (T0 (Fp [(0,0)] 1 c fun _ c=>Bd h fun x2 hx2 h=>Cg c (ZcG hx2) ⟨.f 0,.nil,tt⟩ call106 fun i1 _ _ c=>?_))
 exact Fp [] 5 c fun _ c=>E0 (P0 [] c fun _ c=>rE)
 replace c:=c.eqs (v:=.bool (!x1.1)) (u:=.bool false) 9 (by rw [hg1])
 refine Gt c ?_
 dsimp only [List.set]
 refine Fp [(4,0)] 1 c fun _ c=>Gt c ?_
 dsimp only [List.set]
 refine Bd h fun x3 hx3 h=>Cb c (ZeC hx3) ⟨.f 0,tt⟩ call105 fun _ _ _ c=>?_
 refine Gt c ?_
 dsimp only [List.set]
 refine Fp [] 1 c fun _ c=>Epk (b:=false) (v:=.bool (!x3)) c fun _ c=>E0 (I0 c h (fun h=>P0 [] c fun _ c=>rE) fun h=>?_)
 refine K0 (T0 (Fp [(0,0)] 1 c fun _ c=>?_))
 replace c:=c.nf
 refine Bd h fun x4 hx4 h=>Cg c (ZcG hx4) ⟨.f 0,.nil,tt⟩ call106 fun i2 _ _ c=>?_
 exact Fp [] 5 c fun _ c=>E0 (P0 [] c fun _ c=>rE)
theorem YR {p0 p1 r} (h:Ym p0 p1 = some r):C0 131 [I p0,I p1] [] (I r):=by
 unfold Ym at h
 refine En func131 rfl ntmps131 fun _ fr w c=>?_
 refine P0 [] c fun _ c=>S0 (T0 (Fp [] 1 c fun _ c=>Bd h fun x1 hx1 h=>Cb c (Zt hx1) tt call18 fun _ _ _ c=>?_))
 refine Fp [] 1 c fun _ c=>E0 (I0 c h (fun h=>P0 [] c fun _ c=>rE) fun h=>?_)
 refine K0 (T0 (Fp [] 2 c fun _ c=>Bd h fun x2 hx2 h=>Eshl c hx2 fun _ c=>?_))
 exact Fp [] 3 c fun _ c=>E0 rE
theorem Zd1 {p0 p1 p2 r} (h:YW p0 p1 p2 = some r):C0 111 [I p0,I p1,I p2] [] (I r):=by
 unfold YW at h
 refine En func111 rfl ntmps111 fun _ fr w c=>?_
 refine P0 [] c fun _ c=>S0 (wp_block (T0 (Fp [] 2 c fun _ c=>Bd h fun x1 hx1 h=>Cb c (Yj hx1) tt call58 fun _ _ _ c=>?_)))
 refine Fp [] 2 c fun _ c=>E0 (I0 c h (fun h=>P0 [] c fun _ c=>rE) fun h=>?_)
 refine P0 [] c fun _ c=>I0 c h (fun h=>?_) fun h=>?_
 refine T0 (Fp [] 1 c fun _ c=>Bd h fun x2 hx2 h=>Eshl c hx2 fun _ c=>?_)
 exact Fp [] 4 c fun _ c=>E0 rE
 refine P0 [] c fun _ c=>I0 c h (fun h=>?_) fun h=>K1 (bk (tn (P0 [] c fun _ c=>rE)))
 refine T0 (Fp [] 3 c fun _ c=>Bd h fun x3 hx3 h=>Cb c (YR hx3) tt call131 fun _ _ _ c=>?_)
 exact Fp [] 1 c fun _ c=>E0 rE
theorem Zax {p0 p1 r} (h:YB p0 p1 = some r):C0 132 [I p0,I p1] [] (I r):=by
 unfold YB at h
 refine En func132 rfl ntmps132 fun _ fr w c=>?_
 refine P0 [] c fun _ c=>S0 (T0 (Fp [] 2 c fun _ c=>Bd h fun x1 hx1 h=>Cb c (Yj hx1) tt call58 fun _ _ _ c=>?_))
 refine Fp [] 1 c fun _ c=>E0 (I0 c h (fun h=>P0 [] c fun _ c=>rE) fun h=>?_)
 refine K0 (S0 (T0 (Fp [] 3 c fun _ c=>Bd h fun x2 hx2 h=>Eshr c hx2 fun _ c=>?_)))
 refine Fp [] 1 c fun _ c=>E0 (I0 c h (fun h=>?_) fun h=>K0 (P0 [] c fun _ c=>rE))
 refine T0 (Fp [] 2 c fun _ c=>Bd h fun x3 hx3 h=>Eshl c hx3 fun _ c=>?_)
 exact Fp [] 2 c fun _ c=>E0 rE
theorem Zba {p0 r} (h:Xw p0 = some r):C0 133 [.bool p0] [] (I r):=by
 unfold Xw at h
 refine En func133 rfl ntmps133 fun _ fr w c=>?_
 exact P0 [] c fun _ c=>S0 (P0 [] c fun _ c=>I0 c h (fun h=>P0 [] c fun _ c=>rE) fun h=>K0 (P0 [] c fun _ c=>rE))
theorem Zb4 {p0 p1 p2 p3 r} (h:Yx p0 p1 p2 p3 = some r):C0 112 [I p0,I p1,I p2,I p3] [] (I r):=by
 unfold Yx at h
 refine En func112 rfl ntmps112 fun _ fr w c=>?_
 refine P0 [] c fun _ c=>S0 (Bd h fun x1 hx1 h=>Bd h fun x2 hx2 h=>S0 (rZ [(2,.eq (.bool x1)),(7,.eq (.bool x2))] [] mix c ⟨Ncl c (kN (Yj hx1)) tt call58,Ncl c (fun hg=>Yj (iteF (gcF hg) hx2)) tt call58,tt⟩ fun _ _ c=>I0 c h (fun h=>?_) fun h=>?_))
 exact P0 [] c fun _ c=>rE
 refine K0 (S0 (P0 [] c fun _ c=>wp_block (P0 [] c fun _ c=>I0 c h (fun h=>?_) fun h=>?_)))
 refine T0 (Fp [] 4 c fun _ c=>Bd h fun x3 hx3 h=>Cb c (YR hx3) tt call131 fun _ _ _ c=>?_)
 exact Fp [] 1 c fun _ c=>E0 rE
 refine P0 [] c fun _ c=>I0 c h (fun h=>?_) fun h=>?_
 refine T0 (Fp [] 4 c fun _ c=>Bd h fun x4 hx4 h=>Cb c (YR hx4) tt call131 fun _ _ _ c=>?_)
 exact Fp [] 1 c fun _ c=>E0 rE
 refine P0 [] c fun _ c=>I0 c h (fun h=>?_) fun h=>?_
 refine T0 (Fp [] 4 c fun _ c=>Bd h fun x5 hx5 h=>Cb c (YR hx5) tt call131 fun _ _ _ c=>?_)
 exact Fp [] 1 c fun _ c=>E0 rE
 refine P0 [] c fun _ c=>I0 c h (fun h=>?_) fun h=>?_
 refine S0 (P0 [] c fun _ c=>I0 c h (fun h=>?_) fun h=>?_)
 refine T0 (Fp [] 1 c fun _ c=>Bd h fun x6 hx6 h=>Eshl c hx6 fun _ c=>?_)
 exact Fp [] 2 c fun _ c=>E0 rE
 refine K0 (T0 (Fp [] 2 c fun _ c=>Bd h fun x7 hx7 h=>Equo c hx7 fun _ c=>?_))
 exact Fp [] 1 c fun _ c=>E0 rE
 refine P0 [] c fun _ c=>I0 c h (fun h=>?_) fun h=>?_
 refine S0 (P0 [] c fun _ c=>I0 c h (fun h=>P0 [] c fun _ c=>rE) fun h=>?_)
 refine K0 (T0 (Fp [] 2 c fun _ c=>Bd h fun x8 hx8 h=>Erem c hx8 fun _ c=>?_))
 exact Fp [] 1 c fun _ c=>E0 rE
 refine P0 [] c fun _ c=>I0 c h (fun h=>P0 [] c fun _ c=>rE) fun h=>?_
 refine P0 [] c fun _ c=>I0 c h (fun h=>P0 [] c fun _ c=>rE) fun h=>?_
 refine P0 [] c fun _ c=>I0 c h (fun h=>P0 [] c fun _ c=>rE) fun h=>?_
 refine P0 [] c fun _ c=>I0 c h (fun h=>?_) fun h=>?_
 refine S0 (P0 [] c fun _ c=>I0 c h (fun h=>P0 [] c fun _ c=>rE) fun h=>?_)
 refine K0 (T0 (Fp [] 3 c fun _ c=>Bd h fun x9 hx9 h=>Eshl c hx9 fun _ c=>?_))
 refine Bd h fun x10 hx10 h=>Cb c (YR hx10) tt call131 fun _ _ _ c=>?_
 exact Fp [] 1 c fun _ c=>E0 rE
 refine P0 [] c fun _ c=>I0 c h (fun h=>?_) fun h=>?_
 refine S0 (P0 [] c fun _ c=>I0 c h (fun h=>P0 [] c fun _ c=>rE) fun h=>?_)
 refine K0 (T0 (Fp [] 2 c fun _ c=>Bd h fun x11 hx11 h=>Eshr c hx11 fun _ c=>?_))
 exact Fp [] 1 c fun _ c=>E0 rE
 refine P0 [] c fun _ c=>I0 c h (fun h=>?_) fun h=>?_
 refine S0 (P0 [] c fun _ c=>Mp (decide (p3 ≥ p1)) [(3,I (w64 (p1 - 1)))] [(3,I p3)] [(3,I (cond (decide (p3 ≥ p1)) (w64 (p1 - 1)) p3))] [3,97,98] c fun _ c=>T0 (Fp [] 3 c fun _ c=>Bd h fun x12 hx12 h=>Cb c (Zax hx12) tt call132 fun _ _ _ c=>?_))
 refine Fp [] 1 c fun _ c=>Bd h fun x13 hx13 h=>Eshr c hx13 fun _ c=>?_
 refine Bd h fun x14 hx14 h=>Cb c (YR hx14) tt call131 fun _ _ _ c=>?_
 exact Fp [] 1 c fun _ c=>E0 rE
 refine P0 [] c fun _ c=>I0 c h (fun h=>?_) fun h=>?_
 refine T0 (Fp [] 3 c fun _ c=>Bd h fun x15 hx15 h=>Cb c (Zba hx15) tt call133 fun _ _ _ c=>?_)
 exact Fp [] 1 c fun _ c=>E0 rE
 refine P0 [] c fun _ c=>I0 c h (fun h=>?_) fun h=>?_
 refine T0 (Fp [] 3 c fun _ c=>Bd h fun x16 hx16 h=>Cb c (Zba hx16) tt call133 fun _ _ _ c=>?_)
 exact Fp [] 1 c fun _ c=>E0 rE
 refine P0 [] c fun _ c=>I0 c h (fun h=>?_) fun h=>K1 (bk (tn (P0 [] c fun _ c=>rE)))
 refine T0 (Fp [] 2 c fun _ c=>Bd h fun x17 hx17 h=>Cb c (Zax hx17) tt call132 fun _ _ _ c=>?_)
 refine Fp [] 2 c fun _ c=>Bd h fun x18 hx18 h=>Cb c (Zax hx18) tt call132 fun _ _ _ c=>?_
 refine Fp [] 1 c fun _ c=>Bd h fun x19 hx19 h=>Cb c (Zba hx19) tt call133 fun _ _ _ c=>?_
 exact Fp [] 1 c fun _ c=>E0 rE
theorem ZdU {p0 p1 p2 p3 r} (h:Xn p0 p1 p2 p3 = some r):C0 113 [I p0,I p1,I p2,I p3] [] (I r):=by
 unfold Xn at h
 refine En func113 rfl ntmps113 fun _ fr w c=>?_
 refine P0 [] c fun _ c=>S0 (Bd h fun x1 hx1 h=>Bd h fun x2 hx2 h=>S0 (rZ [(2,.eq (.bool x1)),(7,.eq (.bool x2))] [] mix c ⟨Ncl c (kN (Yj hx1)) tt call58,Ncl c (fun hg=>Yj (iteF (gcF hg) hx2)) tt call58,tt⟩ fun _ _ c=>I0 c h (fun h=>?_) fun h=>?_))
 exact P0 [] c fun _ c=>rE
 refine K0 (T0 (Fp [] 2 c fun _ c=>Bd h fun x3 hx3 h=>Eshl c hx3 fun _ c=>?_))
 exact Fp [] 3 c fun _ c=>E0 rE
theorem ZeI {p0 p1 p2 p3 r} (h:XG p0 p1 p2 p3 = some r):C0 114 [I p0,I p1,I p2,I p3] [] (I r):=by
 unfold XG at h
 refine En func114 rfl ntmps114 fun _ fr w c=>?_
 refine P0 [] c fun _ c=>S0 (Bd h fun x1 hx1 h=>S0 (rZ [(2,.eq (.bool x1))] [] mix c ⟨Ncl c (kN (Yj hx1)) tt call58,tt⟩ fun _ _ c=>I0 c h (fun h=>?_) fun h=>?_))
 exact P0 [] c fun _ c=>rE
 refine K0 (T0 (Fp [] 3 c fun _ c=>Bd h fun x2 hx2 h=>Eshr c hx2 fun _ c=>?_))
 refine Bd h fun x3 hx3 h=>Cb c (YR hx3) tt call131 fun _ _ _ c=>?_
 exact Fp [] 1 c fun _ c=>E0 rE
theorem ZdV {p0 p1 p2 p3 r} (h:Xl p0 p1 p2 p3 = some r):C0 115 [I p0,I p1,I p2,.bool p3] [] (I r):=by
 unfold Xl at h
 refine En func115 rfl ntmps115 fun _ fr w c=>?_
 refine P0 [] c fun _ c=>S0 (Bd h fun x1 hx1 h=>S0 (rZ [(2,.eq (.bool x1))] [] mix c ⟨Ncl c (kN (Yj hx1)) tt call58,tt⟩ fun _ _ c=>I0 c h (fun h=>?_) fun h=>?_))
 exact P0 [] c fun _ c=>rE
 refine K0 (S0 (P0 [] c fun _ c=>I0 c h (fun h=>?_) fun h=>K0 (P0 [] c fun _ c=>rE)))
 refine T0 (Fp [] 3 c fun _ c=>Bd h fun x2 hx2 h=>Cb c (Zax hx2) tt call132 fun _ _ _ c=>?_)
 refine Bd h fun x3 hx3 h=>Cb c (YR hx3) tt call131 fun _ _ _ c=>?_
 exact Fp [] 1 c fun _ c=>E0 rE
theorem Zc1 {p0 p1 r} (h:ZR p0 p1 = some r):C0 87 [tV p0 ga0 gc1,L ga2 p1 gc3] [lR ga0 p0.Kids gc1,lR ga2 p1 gc3] (I r):=by
 unfold ZR at h
 refine En func87 rfl ntmps87 fun _ fr w c=>?_
 refine T0 (Ebx (tC p0 ga0 gc1) c fun b1 _ _ c=>?_)
 refine Fp [] 1 c fun _ c=>E0 (S0 (wp_block (T0 (Fp [(1,0)] 2 c fun _ c=>Bd h fun x1 hx1 h=>Cb c (Zt hx1) tt call18 fun _ _ _ c=>?_))))
 refine Fp [] 1 c fun _ c=>E0 (I0 c h (fun h=>?_) fun h=>?_)
 refine Bd h fun x2 hx2 h=>Bd h fun x3 hx3 h=>S0 (rZ [(5,Pd.el (x2:Int)),(6,.eq (I x2)),(7,.eq (I x3))] [(1,0),(3,0)] mix c ⟨Nid c (.f 1) (kN hx2),Nld c 5 (q:=x2) (atN 5),Ncl c (kN (Zd1 hx3)) tt call111,tt⟩ fun _ _ c=>?_)
 exact rE
 refine T0 (Fp [(1,0)] 2 c fun _ c=>Bd h fun x4 hx4 h=>Cb c (Zt hx4) tt call18 fun _ _ _ c=>?_)
 refine Fp [] 1 c fun _ c=>E0 (I0 c h (fun h=>?_) fun h=>?_)
 refine Bd h fun x5 hx5 h=>?_
 obtain ⟨ep1,u1,c⟩:=c.elp (.f 0) hx5
 obtain ⟨a1,c1,rfl,c⟩:=c.o_Term 3
 refine Bd h fun x6 hx6 h=>Bd h fun x7 hx7 h=>Bd h fun x8 hx8 h=>S0 (rZ [(4,.eq (.pointer (some ep1))),(6,.eq (I x5.W)),(8,Pd.el (x6:Int)),(9,.eq (I x6)),(11,Pd.el (x7:Int)),(12,.eq (I x7)),(13,.eq (I x8))] [(1,0),(3,0)] mix c ⟨Nie c 2,Nlc c 2 1,Nid c (.f 1) (kN hx6),Nld c 8 (q:=x6) (atN 8),Nid c (.f 1) (kN hx7),Nld c 11 (q:=x7) (atN 11),Ncl c (kN (Zb4 hx8)) tt call112,tt⟩ fun _ _ c=>?_)
 exact rE
 refine P0 [(1,0)] c fun _ c=>I0 c h (fun h=>?_) fun h=>?_
 refine S0 (T0 (Fp [] 1 c fun _ c=>Bd h fun x9 hx9 h=>Eel c (.f 1) hx9 fun _ _ c=>?_))
 refine Fp [] 1 c fun _ c=>E0 (I0 c h (fun h=>?_) fun h=>?_)
 refine T0 (Fp [] 1 c fun _ c=>Bd h fun x10 hx10 h=>Eel c (.f 1) hx10 fun _ _ c=>?_)
 exact Fp [] 1 c fun _ c=>E0 rE
 refine K0 (T0 (Fp [] 1 c fun _ c=>Bd h fun x11 hx11 h=>Eel c (.f 1) hx11 fun _ _ c=>?_))
 exact Fp [] 1 c fun _ c=>E0 rE
 refine P0 [(1,0)] c fun _ c=>I0 c h (fun h=>?_) fun h=>?_
 refine Bd h fun x12 hx12 h=>?_
 obtain ⟨ep2,u2,c⟩:=c.elp (.f 0) hx12
 obtain ⟨a2,c2,rfl,c⟩:=c.o_Term 3
 refine Bd h fun x13 hx13 h=>Bd h fun x14 hx14 h=>?_
 obtain ⟨ep3,u3,c⟩:=c.elp (.f 0) hx14
 obtain ⟨a3,c3,rfl,c⟩:=c.o_Term 6
 refine Bd h fun x15 hx15 h=>Bd h fun x16 hx16 h=>S0 (rZ [(2,.eq (.pointer (some ep2))),(4,.eq (I x12.W)),(6,Pd.el (x13:Int)),(7,.eq (I x13)),(10,.eq (.pointer (some ep3))),(12,.eq (I x14.W)),(14,Pd.el (x15:Int)),(15,.eq (I x15)),(16,.eq (I x16))] [(1,0),(9,0)] mix c ⟨Nie c 2,Nlc c 2 1,Nid c (.f 1) (kN hx13),Nld c 6 (q:=x13) (atN 6),Nie c 5,Nlc c 5 1,Nid c (.f 1) (kN hx15),Nld c 14 (q:=x15) (atN 14),Ncl c (kN (ZdU hx16)) tt call113,tt⟩ fun _ _ c=>?_)
 exact rE
 refine P0 [(1,0)] c fun _ c=>I0 c h (fun h=>?_) fun h=>?_
 refine Bd h fun x17 hx17 h=>?_
 obtain ⟨ep4,u4,c⟩:=c.elp (.f 0) hx17
 obtain ⟨a4,c4,rfl,c⟩:=c.o_Term 3
 refine Bd h fun x18 hx18 h=>Bd h fun x19 hx19 h=>S0 (rZ [(2,.eq (.pointer (some ep4))),(4,.eq (I x17.W)),(6,Pd.el (x18:Int)),(7,.eq (I x18)),(12,.eq (I x19))] [(1,0),(9,0),(11,0)] mix c ⟨Nie c 2,Nlc c 2 1,Nid c (.f 1) (kN hx18),Nld c 6 (q:=x18) (atN 6),Ncl c (kN (ZeI hx19)) tt call114,tt⟩ fun _ _ c=>?_)
 exact rE
 refine K1 (bk (tn (Bd h fun x20 hx20 h=>?_)))
 obtain ⟨ep5,u5,c⟩:=c.elp (.f 0) hx20
 obtain ⟨a5,c5,rfl,c⟩:=c.o_Term 3
 refine Bd h fun x21 hx21 h=>Bd h fun x22 hx22 h=>S0 (rZ [(2,.eq (.pointer (some ep5))),(4,.eq (I x20.W)),(6,Pd.el (x21:Int)),(7,.eq (I x21)),(13,.eq (I x22))] [(1,0),(9,0),(11,0)] mix c ⟨Nie c 2,Nlc c 2 1,Nid c (.f 1) (kN hx21),Nld c 6 (q:=x21) (atN 6),Ncl c (kN (ZdV hx22)) tt call115,tt⟩ fun _ _ c=>?_)
 exact rE
theorem ZaC {p0 p1 r} (h:Xp p0 p1 = some r):C0 145 [I p0,I p1] [] (I r):=by
 unfold Xp at h
 refine En func145 rfl ntmps145 fun _ fr w c=>?_
 exact P0 [] c fun _ c=>S0 (P0 [] c fun _ c=>I0 c h (fun h=>P0 [] c fun _ c=>rE) fun h=>K0 (S0 (P0 [] c fun _ c=>I0 c h (fun h=>P0 [] c fun _ c=>rE) fun h=>K0 (P0 [] c fun _ c=>rE))))
theorem Zby {n:Nat}:∀ {p0 p1 ga0 gc1 ga2 gc3 r} (h:ZJ n p0 p1 = some r),C0 127 [tV p0 ga0 gc1,tV p1 ga2 gc3] [lR ga0 p0.Kids gc1,lR ga2 p1.Kids gc3] (I r):=by
 induction n with
 | zero=>intro p0 p1 ga0 gc1 ga2 gc3 r h; simp [ZJ] at h
 | succ n ih=>
 intro p0 p1 ga0 gc1 ga2 gc3 r h
 rw [ZJ] at h
 refine En func127 rfl ntmps127 fun _ fr w c=>?_
 refine T0 (Ebx (tC p0 ga0 gc1) c fun b1 _ _ c=>?_)
 refine Ebx (tC p1 ga2 gc3) c fun b2 _ _ c=>?_
 refine Fp [] 1 c fun _ c=>E0 (S0 (Bd h fun x1 hx1 h=>Bd h fun x2 hx2 h=>Bd h fun x3 hx3 h=>S0 (YH mix (rM 18 [(4,.eq (I x1)),(9,.eq (I x2)),(14,.eq (I x3)),(15,Pd.nw c.wd 15 (fun i:Oh=>L i.1 ([x1,x2,x3]:List Int) i.2) (fun i=>SL 3 (L i.1 ([x1,x2,x3]:List Int) i.2) ([x1,x2,x3]:List Int))),(16,.eq (I (len ([x1,x2,x3]:List Int))))] [(1,0),(3,1),(6,0),(8,1),(11,0),(13,1)] c (fun ow=>⟨ZG ow (Ncl c (kN (ZaC hx1)) tt call145),ZG ow (Ncl c (kN (ZaC hx2)) tt call145),ZG ow (Ncl c (kN (ZaC hx3)) tt call145),Nlt c ([x1,x2,x3]:List Int),ZG ow (Nln c 15 (atM 15)),tt⟩) fun ow _ _ hE hc cq=>?_))))
 obtain ⟨i1,hi1⟩:=hE.nw 15 25
 replace c:=Cx.newt c hc cq [(15,25,_,_)] ⟨hi1,tt⟩
 refine E0 (Bd h fun rl1 hit1 h=>?_)
 have hk1:=h
 refine LpR (fun s1  (_:Unit)=>([(2,B b1 0),(3,B b2 0),(25,L i1.1 ([x1,x2,x3]:List Int) i1.2),(26,I (len ([x1,x2,x3]:List Int))),(27,I s1)],id,[])) (fun s  (_:Unit)=>([(2,B b1 0),(3,B b2 0)],id,[])) hit1 c () (c.rk [0,1,2] [0,1]) (fun s1 q1 _ _ _ c h hr1=>?_) fun s1r _ _ _ hrl c=>?_
 refine P0 [] c fun _ c=>S0 (I0 c h (fun h=>?_) fun h=>?_)
 refine K0 (S0 (wp_block (T0 (Bd h fun x4 hx4 h=>Eel c (.g 2) hx4 fun _ _ c=>?_))))
 refine Fp [] 1 c fun _ c=>E0 (P0 [] c fun _ c=>I0 c h (fun h=>?_) fun h=>?_)
 refine P0 [] c fun _ c=>?_
 obtain rfl:=hr1 _ (sk h)
 obtain rfl:=sj hk1
 exact wp_ret (br (tr (tr (br (tr (Rt c () [] []))))))
 refine K1 (bk (tn (P1 [] c fun _ c=>Nx h () (c.rk [0,1,2] [0,1]))))
 refine wp_exit (te (te (be ?_)))
 obtain rfl:=hr1 _ (sk h)
 exact tn ⟨_,(),rfl,c.rk [0,1,2] [0,1]⟩
 subst hrl
 refine S0 (P0 [(1,0),(3,1)] c fun _ c=>I0 c h (fun h=>S0 (P0 [(1,0),(3,1)] c fun _ c=>I0 c h (fun h=>P0 [] c fun _ c=>rE) fun h=>K0 (P0 [] c fun _ c=>rE))) fun h=>?_)
 refine K0 (S0 (P0 [(1,0)] c fun _ c=>Bd h fun rl2 hit2 h=>?_))
 have hk2:=h
 refine LpR (fun s2  (_:Unit)=>([(2,B b1 0),(3,B b2 0),(46,L ga0 p0.Kids gc1),(47,I (len p0.Kids)),(48,I s2)],id,[])) (fun s  (_:Unit)=>([(2,B b1 0),(3,B b2 0)],id,[])) hit2 c () (c.rk [0,1,2] [0,1]) (fun s2 q2 _ _ _ c h hr2=>?_) fun s2r _ _ _ hrl c=>?_
 refine P0 [] c fun _ c=>S0 (I0 c h (fun h=>?_) fun h=>?_)
 refine K0 (S0 (wp_block (T0 (Fp [] 1 c fun _ c=>Bd h fun x5 hx5 h=>Eem c (.f 0) hx5 fun _ u1 _ c=>?_))))
 obtain ⟨a1,c1,rfl,c⟩:=c.o_Term 2
 refine Eal tZ c fun b3 _ _ c=>?_
 refine Fp [] 1 c fun _ c=>Ess 3 (tC x5 a1 c1) c fun _ c=>?_
 refine E0 (S0 (P0 [(2,1)] c fun _ c=>I0 c h (fun h=>?_) fun h=>?_))
 refine P0 [] c fun _ c=>?_
 obtain rfl:=hr2 _ (sk h)
 obtain rfl:=sj hk2
 exact wp_ret (tr (br (tr (tr (br (tr (Rt c () [] [])))))))
 refine K0 (Bd h fun x6 hx6 h=>?_)
 obtain ⟨ep1,u2,c⟩:=c.elp (.f 1) hx6
 obtain ⟨a2,c2,rfl,c⟩:=c.o_Term 5
 refine Bd h fun x7 hx7 h=>S0 (rZ [(4,.eq (.pointer (some ep1))),(5,.eq (tV x6 a2 c2)),(6,.eq (I x7))] [(0,2),(2,1)] mix c ⟨Nie c 4,Nle c 4,Ncl c (kN (ih hx7)) ⟨.f 3,.f 6,tt⟩ call127,tt⟩ fun _ _ c=>P0 [] c fun _ c=>I0 c h (fun h=>?_) fun h=>?_)
 refine P0 [] c fun _ c=>?_
 obtain rfl:=hr2 _ (sk h)
 obtain rfl:=sj hk2
 exact wp_ret (br (tr (tr (br (tr (Rt c () [] []))))))
 refine K1 (bk (tn (P1 [] c fun _ c=>Nx h () (c.rk [0,1,2] [0,1]))))
 refine wp_exit (te (te (be ?_)))
 obtain rfl:=hr2 _ (sk h)
 exact tn ⟨_,(),rfl,c.rk [0,1,2] [0,1]⟩
 subst hrl
 refine T0 (Fp [(1,0),(4,1)] 6 c fun _ c=>Bd h fun x8 hx8 h=>Cb c (ZaC hx8) tt call145 fun _ _ _ c=>?_)
 exact Fp [] 1 c fun _ c=>E0 rE
theorem YA {p0 p1 r} (h:Zr p0 p1 = some r):C0 38 [tV p0 ga0 gc1,I p1] [lR ga0 p0.Kids gc1] (.bool r):=by
 unfold Zr at h
 refine En func38 rfl ntmps38 fun _ fr w c=>?_
 refine T0 (Ebx (tC p0 ga0 gc1) c fun b1 _ _ c=>?_)
 refine Fp [] 1 c fun _ c=>E0 (S0 (Ry [(1,0),(5,0)] mix c fun _ _ c=>?_))
 exact rE
theorem Ze7 {p0 r} (h:ZaY p0 = some r):C0 146 [tV p0 ga0 gc1] [lR ga0 p0.Kids gc1] (.bool r):=by
 unfold ZaY at h
 refine En func146 rfl ntmps146 fun _ fr w c=>?_
 refine T0 (Ebx (tC p0 ga0 gc1) c fun b1 _ _ c=>?_)
 refine Fp [] 1 c fun _ c=>E0 (Bd h fun x1 hx1 h=>S0 (rZ [(8,.eq (I x1))] [(1,0),(5,0),(7,0)] mix c ⟨Nshl c (gT hx1),tt⟩ fun _ _ c=>?_))
 exact rE
theorem Zb0 {p0 p1 r} (h:Yo n p0 p1 = some r):C0 110 [tV p0 ga0 gc1,tV p1 ga2 gc3] [lR ga0 p0.Kids gc1,lR ga2 p1.Kids gc3] (.bool r):=by
 unfold Yo at h
 refine En func110 rfl ntmps110 fun _ fr w c=>?_
 refine T0 (Ebx (tC p0 ga0 gc1) c fun b1 _ _ c=>?_)
 refine Ebx (tC p1 ga2 gc3) c fun b2 _ _ c=>?_
 refine Fp [] 1 c fun _ c=>E0 (T0 (Fp [(0,0),(1,1)] 2 c fun _ c=>Bd h fun x1 hx1 h=>Cb c (Zby hx1) ⟨.f 0,.f 1,tt⟩ call127 fun _ _ _ c=>?_))
 exact Fp [] 2 c fun _ c=>E0 rE
theorem Zes {p0 r} (h:Zl p0 = some r):Con prog 129 [tV p0 ga0 gc1] [] [lR ga0 p0.Kids gc1] fun (i:Oh)=>([tV r.1 i.1 i.2,.bool r.2],[],[lR i.1 r.1.Kids i.2]):=by
 unfold Zl at h
 refine En func129 rfl ntmps129 fun _ fr w c=>?_
 refine T0 (Ebx (tC p0 ga0 gc1) c fun b1 _ _ c=>?_)
 refine Eal tZ c fun b2 _ _ c=>?_
 refine Fp [] 1 c fun _ c=>E0 (S0 (P0 [(1,0)] c fun _ c=>wp_block (S0 (P0 [] c fun _ c=>Mp (p0.Op == 8) [(6,.bool (p0.Op == 8))] [(6,.bool (p0.Op == 9))] [(6,.bool ((p0.Op == 8) || (p0.Op == 9)))] [6,8] c fun _ c=>I0 c h (fun h=>?_) fun h=>?_))))
 refine T0 (Fp [(1,0)] 2 c fun _ c=>Bd h fun x1 hx1 h=>Eem c (.f 0) hx1 fun _ u1 _ c=>?_)
 obtain ⟨a1,c1,rfl,c⟩:=c.o_Term 1
 refine Ess 1 (tC x1 a1 c1) c fun _ c=>?_
 refine Fp [] 1 c fun _ c=>E0 ?_
 cases h
 exact wp_ret (br (tr (Rg c (a1,c1) [] [2] (.cell (α:=Agg 4) kk (.b 1) (.tmp .nil)))))
 refine S0 (P0 [] c fun _ c=>Bd h fun rl1 hit1 h=>?_)
 have hk1:=h
 refine Jr (fun s  (_:Unit)=>([(1,B b1 0),(2,B b2 0),(5,I p0.Op),(13,.bool s)],id,[])) hit1 c (fun h=>?_) fun s1r _ _ _ hrl c=>?_
 refine I0 c h (fun h=>?_) fun h=>?_
 refine K0 (⟨_,(),(sk h),c.rk [0,1] [0]⟩)
 refine P0 [] c fun _ c=>I0 c h (fun h=>?_) fun h=>?_
 refine K0 (⟨_,(),(sk h),c.rk [0,1] [0]⟩)
 refine P0 [] c fun _ c=>Mp (p0.Op == 15) [(13,.bool (p0.Op == 15))] [(13,.bool (p0.Op == 16))] [(13,.bool ((p0.Op == 15) || (p0.Op == 16)))] [13,17] c fun _ c=>⟨_,(),(sk h),c.rk [0,1] [0]⟩
 subst hrl
 refine I0 c h (fun h=>?_) fun h=>?_
 refine T0 (Fp [(1,0)] 2 c fun _ c=>Bd h fun x2 hx2 h=>Cb c (Z7 hx2) tt call35 fun _ _ _ c=>?_)
 refine Ess 1 [I x2.Op,I x2.W,I x2.N,Str.val x2.Name,L0] c fun _ c=>?_
 refine Fp [] 1 c fun _ c=>E0 ?_
 cases h
 replace c:=c.nilf (α:=D.Term)
 exact wp_ret (br (tr (Rg c (none,0) [] [1] (.cell (α:=Agg 4) kk (.b 1) (.tmp .nil)))))
 refine P0 [] c fun _ c=>I0 c h (fun h=>?_) fun h=>?_
 refine T0 (Bd h fun x3 hx3 h=>Cb c (Z7 hx3) tt call35 fun _ _ _ c=>?_)
 refine Ess 1 [I x3.Op,I x3.W,I x3.N,Str.val x3.Name,L0] c fun _ c=>?_
 refine Fp [] 1 c fun _ c=>E0 ?_
 cases h
 replace c:=c.nilf (α:=D.Term)
 exact wp_ret (br (tr (Rg c (none,0) [] [1] (.cell (α:=Agg 4) kk (.b 1) (.tmp .nil)))))
 refine K1 (bk (tn (T0 (Fp [(0,0)] 1 c fun _ c=>Ess 1 (tC p0 ga0 gc1) c fun _ c=>?_))))
 refine Fp [] 1 c fun _ c=>E0 ?_
 cases h
 exact wp_ret (Rg c (ga0,gc1) [] [0] (.cell (α:=Agg 4) kk (.b 1) (.tmp .nil)))
theorem Yp (n:Nat):(∀ {p0 ga0 gc1 r} (h:Z0 n p0 = some r),Con prog 128 [tV p0 ga0 gc1] [] [lR ga0 p0.Kids gc1] fun (i:Oh)=>([tV r.1 i.1 i.2,.bool r.2],[],[lR i.1 r.1.Kids i.2])) ∧
    (∀ {p0 ga0 gc1 r} (h:Zz n p0 = some r),Ct 85 [tV p0 ga0 gc1] [lR ga0 p0.Kids gc1] r) ∧
    (∀ {p0 ga0 gc1 r} (h:Zh n p0 = some r),Ct 107 [tV p0 ga0 gc1] [lR ga0 p0.Kids gc1] r) ∧
    (∀ {p0 ga0 gc1 r} (h:YO n p0 = some r),Ct 108 [tV p0 ga0 gc1] [lR ga0 p0.Kids gc1] r) ∧
    (∀ {p0 ga0 gc1 r} (h:Y1 n p0 = some r),Ct 109 [tV p0 ga0 gc1] [lR ga0 p0.Kids gc1] r) ∧
    (∀ {p0 p1 p2 ga0 gc1 r} (h:Yy n p0 p1 p2 = some r),Ct 130 [I p0,tV p1 ga0 gc1,I p2] [lR ga0 p1.Kids gc1] r):=by
 induction n with
 | zero=>exact ⟨by intro p0 ga0 gc1 r h; simp [Z0] at h,by intro p0 ga0 gc1 r h; simp [Zz] at h,by intro p0 ga0 gc1 r h; simp [Zh] at h,by intro p0 ga0 gc1 r h; simp [YO] at h,by intro p0 ga0 gc1 r h; simp [Y1] at h,by intro p0 p1 p2 ga0 gc1 r h; simp [Yy] at h⟩
 | succ n ih=>
 obtain ⟨ih0,ih1,ih2,ih3,ih4,ih5⟩:=ih
 refine ⟨?_,?_,?_,?_,?_,?_⟩
 · intro p0 ga0 gc1 r h
   rw [Z0] at h
   refine En func128 rfl ntmps128 fun _ fr w c=>?_
   refine T0 (Ebx (tC p0 ga0 gc1) c fun b1 _ _ c=>?_)
   refine Eal tZ c fun b2 _ _ c=>?_
   refine Fp [] 1 c fun _ c=>E0 (T0 (Fp [(1,0)] 2 c fun _ c=>Bd h fun x1 hx1 h=>Eem c (.f 0) hx1 fun _ u1 _ c=>?_))
   obtain ⟨a1,c1,rfl,c⟩:=c.o_Term 1
   refine Eal tZ c fun b3 _ _ c=>?_
   refine Ess 2 (tC x1 a1 c1) c fun _ c=>?_
   refine E0 (T0 (Fp [(1,0)] 2 c fun _ c=>?_))
   replace c:=c.ng
   refine Bd h fun x2 hx2 h=>Eem c (.f 0) hx2 fun _ u2 _ c=>?_
   obtain ⟨a2,c2,rfl,c⟩:=c.o_Term 3
   refine Eal tZ c fun b4 _ _ c=>?_
   refine Ess 3 (tC x2 a2 c2) c fun _ c=>?_
   refine E0 (T0 (Fp [(0,2)] 1 c fun _ c=>Bd h fun x3 hx3 h=>Cb c (YA hx3) ⟨.f 2,tt⟩ call38 fun _ _ _ c=>?_))
   refine Fp [] 1 c fun _ c=>E0 (T0 (Fp [(0,2)] 1 c fun _ c=>Bd h fun x4 hx4 h=>Cb c (Ze7 hx4) ⟨.f 2,tt⟩ call146 fun _ _ _ c=>?_))
   refine Fp [] 1 c fun _ c=>E0 (S0 (wp_block (S0 (S0 (Ry [(1,0)] mix c fun _ _ c=>Bd h fun rl1 hit1 h=>?_)))))
   have hk1:=h
   refine Jr (fun s  (_:Unit)=>([(1,B b1 0),(2,B b2 0),(4,B b3 0),(5,B b4 0),(6,.bool x3),(7,.bool x4),(20,.bool s)],id,[])) hit1 c (fun h=>?_) fun s1r _ _ _ hrl c=>?_
   refine I0 c h (fun h=>?_) fun h=>?_
   refine K0 (⟨_,(),(sk h),c.rk (rg 4) (rg 5)⟩)
   refine S0 (Ry [(1,0)] mix c fun _ _ c=>I0 c h (fun h=>?_) fun h=>?_)
   refine K0 (⟨_,(),(sk h),c.rk (rg 4) (rg 5)⟩)
   refine Ry [(1,0)] mix c fun _ _ c=>?_
   exact ⟨_,(),(sk h),c.rk (rg 4) (rg 5)⟩
   subst hrl
   refine I0 c h (fun h=>?_) fun h=>?_
   refine T0 (Fp [(0,3)] 1 c fun _ c=>?_)
   replace c:=c.nf
   refine Ess 1 (tC x2 a2 c2) c fun _ c=>?_
   refine Fp [] 1 c fun _ c=>E0 ?_
   cases h
   exact wp_ret (br (tr (Rg c (a2,c2) [] [4] (.cell (α:=Agg 4) kk (.b 1) (.tmp .nil)))))
   refine S0 (S0 (Ry [(1,0)] mix c fun _ _ c=>Bd h fun rl2 hit2 h=>?_))
   have hk2:=h
   refine Jr (fun s  (_:Unit)=>([(1,B b1 0),(2,B b2 0),(4,B b3 0),(5,B b4 0),(7,.bool x4),(40,.bool s)],id,[])) hit2 c (fun h=>?_) fun s2r _ _ _ hrl c=>?_
   refine I0 c h (fun h=>?_) fun h=>?_
   refine K0 (⟨_,(),(sk h),c.rk (rg 4) (rg 5)⟩)
   refine S0 (Ry [(1,0)] mix c fun _ _ c=>I0 c h (fun h=>?_) fun h=>?_)
   refine K0 (⟨_,(),(sk h),c.rk (rg 4) (rg 5)⟩)
   refine Ry [(1,0)] mix c fun _ _ c=>?_
   exact ⟨_,(),(sk h),c.rk (rg 4) (rg 5)⟩
   subst hrl
   refine I0 c h (fun h=>?_) fun h=>?_
   refine T0 (Fp [(0,2)] 1 c fun _ c=>?_)
   replace c:=c.nf
   refine Ess 1 (tC x1 a1 c1) c fun _ c=>?_
   refine Fp [] 1 c fun _ c=>E0 ?_
   cases h
   exact wp_ret (br (tr (Rg c (a1,c1) [] [2] (.cell (α:=Agg 4) kk (.b 1) (.tmp .nil)))))
   refine S0 (S0 (Ry [(1,0),(5,2)] mix c fun _ _ c=>Bd h fun rl3 hit3 h=>?_))
   have hk3:=h
   refine Jr (fun s  (_:Unit)=>([(1,B b1 0),(2,B b2 0),(4,B b3 0),(5,B b4 0),(7,.bool x4),(60,.bool s)],id,[])) hit3 c (fun h=>?_) fun s3r _ _ _ hrl c=>?_
   refine I0 c h (fun h=>?_) fun h=>?_
   refine K0 (⟨_,(),(sk h),c.rk (rg 4) (rg 5)⟩)
   refine Ry [(1,0)] mix c fun _ _ c=>?_
   exact ⟨_,(),(sk h),c.rk (rg 4) (rg 5)⟩
   subst hrl
   refine I0 c h (fun h=>?_) fun h=>?_
   refine T0 (Fp [(0,3)] 1 c fun _ c=>?_)
   replace c:=c.nf
   refine Ess 1 (tC x2 a2 c2) c fun _ c=>?_
   refine Fp [] 1 c fun _ c=>E0 ?_
   cases h
   exact wp_ret (br (tr (Rg c (a2,c2) [] [4] (.cell (α:=Agg 4) kk (.b 1) (.tmp .nil)))))
   refine S0 (Ry [(1,0)] mix c fun _ _ c=>I0 c h (fun h=>?_) fun h=>?_)
   refine T0 (Fp [(1,0),(2,3)] 3 c fun _ c=>?_)
   replace c:=c.nf
   refine Eltr 62 [(tR x2 a2 c2)] [x2] c ⟨(Ava.mk_Term x2 (.f 4)),tt⟩ fun a3 c3 _ _ c=>?_
   refine Fp [] 1 c fun _ c=>?_
   replace c:=c.fzr 4 5
   refine Bd h fun x5 hx5 h=>Cg c (ih1 hx5) ⟨.f 6,tt⟩ call85 fun i1 _ _ c=>?_
   refine Ess 1 (tC x5 i1.1 i1.2) c fun _ c=>?_
   refine Fp [] 1 c fun _ c=>E0 ?_
   cases h
   exact wp_ret (br (tr (Rg c (i1.1,i1.2) [] [7] (.cell (α:=Agg 4) kk (.b 1) (.tmp .nil)))))
   refine S0 (Ry [(1,0),(5,2),(10,2)] mix c fun _ _ c=>I0 c h (fun h=>?_) fun h=>?_)
   refine T0 (Fp [(0,3)] 1 c fun _ c=>?_)
   replace c:=c.nf
   refine Ess 1 (tC x2 a2 c2) c fun _ c=>?_
   refine Fp [] 1 c fun _ c=>E0 ?_
   cases h
   exact wp_ret (br (tr (Rg c (a2,c2) [] [4] (.cell (α:=Agg 4) kk (.b 1) (.tmp .nil)))))
   refine S0 (Ry [(1,0),(5,2)] mix c fun _ _ c=>I0 c h (fun h=>?_) fun h=>?_)
   refine T0 (Fp [(0,3)] 1 c fun _ c=>?_)
   replace c:=c.nf
   refine Eltr 62 [(tR x2 a2 c2)] [x2] c ⟨(Ava.mk_Term x2 (.f 4)),tt⟩ fun a4 c4 _ _ c=>?_
   refine Fp [] 1 c fun _ c=>?_
   replace c:=c.fzr 4 5
   refine Bd h fun x6 hx6 h=>Cg c (ih1 hx6) ⟨.f 6,tt⟩ call85 fun i2 _ _ c=>?_
   refine Ess 1 (tC x6 i2.1 i2.2) c fun _ c=>?_
   refine Fp [] 1 c fun _ c=>E0 ?_
   cases h
   exact wp_ret (br (tr (Rg c (i2.1,i2.2) [] [7] (.cell (α:=Agg 4) kk (.b 1) (.tmp .nil)))))
   refine K1 (bk (tn (T0 (Fp [(0,0)] 1 c fun _ c=>?_))))
   replace c:=c.nf
   refine Ess 1 (tC p0 ga0 gc1) c fun _ c=>?_
   refine Fp [] 1 c fun _ c=>E0 ?_
   cases h
   exact wp_ret (Rg c (ga0,gc1) [] [0] (.cell (α:=Agg 4) kk (.b 1) (.tmp .nil)))
 · intro p0 ga0 gc1 r h
   rw [Zz] at h
   refine En func85 rfl ntmps85 fun _ fr w c=>?_
   refine T0 (Ebx (tC p0 ga0 gc1) c fun b1 _ _ c=>?_)
   refine Eal tZ c fun b2 _ _ c=>?_
   refine E0 (P0 [(1,0)] c fun _ c=>T0 (Elt 3 ([]:List Int) c fun a1 c1 _ _ c=>?_))
   refine Fp [] 1 c fun _ c=>E0 (S0 (P0 [(1,0)] c fun _ c=>Bd h fun rl1 hit1 h=>Lp (fun s1  (i:Oh)=>([(1,B b1 0),(2,B b2 0),(3,.bool s1.1),(4,L i.1 s1.q2 i.2),(16,L ga0 p0.Kids gc1),(17,I (len p0.Kids)),(18,I s1.2.1)],fun Γ=>Γ.set 2 (sl3 (L i.1 s1.q2 i.2) s1.q2),[])) (fun  (i:Oh)=>([(1,B b1 0),(2,B b2 0),(3,.bool rl1.1),(4,L i.1 rl1.2 i.2)],fun Γ=>Γ.set 2 (sl3 (L i.1 rl1.2 i.2) rl1.2),[])) hit1 c (a1,c1) (c.rk [0,1,2] [0]) (fun s1 q1 i1 _ _ c h hr1=>?_) fun k1 _ _ c=>?_))
   refine P0 [] c fun _ c=>S0 (I0 c h (fun h=>?_) fun h=>?_)
   refine K0 (S0 (wp_block (T0 (Bd h fun x1 hx1 h=>Eem c (.f 0) hx1 fun _ u1 _ c=>?_))))
   obtain ⟨a2,c2,rfl,c⟩:=c.o_Term 1
   refine Eal tZ c fun b3 _ _ c=>?_
   replace c:=c.nf
   refine Ess 3 (tC x1 a2 c2) c fun _ c=>?_
   refine E0 (S0 (Ry [(3,2)] mix c fun _ _ c=>T1 (Fp [(2,2)] 3 c fun _ c=>Elt 3 ([x1.N]:List Int) c fun a3 c3 _ _ c=>?_)))
   refine Bd h fun x2 hx2 h=>Eap 2 c (.g 4) hx2 fun a4 c4 _ _ c=>?_
   refine Fp [] 1 c fun _ c=>E1 (bk (tn (P1 [] c fun _ c=>Nx h (a4,c4) (c.rk [0,1,2] [0]))))
   refine wp_exit (te (te (be ?_)))
   obtain rfl:=hr1 _ (sk h)
   exact tn ⟨(i1.1,i1.2),c.rk [0,1,2] [0]⟩
   refine S0 (P0 [] c fun _ c=>I0 c h (fun h=>?_) fun h=>?_)
   refine Bd h fun x3 hx3 h=>S0 (YH mix (rM 5 [(4,.eq (I x3))] [(1,0),(2,0)] c (fun ow=>⟨ZG ow (Ncl c (kN (Zc1 hx3)) ⟨.f 0,.g 2,tt⟩ call87),tt⟩) fun _ _ _ _ _ c=>Bd h fun x4 hx4 h=>Cb c (Z7 hx4) tt call35 fun _ _ _ c=>?_))
   refine Ess 1 [I x4.Op,I x4.W,I x4.N,Str.val x4.Name,L0] c fun _ c=>?_
   refine E0 ?_
   cases h
   replace c:=c.nilf (α:=D.Term)
   exact wp_ret (tr (Rg c (none,0) [] [1] (.cell (α:=Agg 4) kk (.b 1) .nil)))
   refine K0 (S0 (T0 (Fp [(1,0)] 2 c fun _ c=>Bd h fun x5 hx5 h=>Cb c (Zt hx5) tt call18 fun _ _ _ c=>?_)))
   refine E0 (I0 c h (fun h=>?_) fun h=>?_)
   refine T0 (Fp [(0,0)] 1 c fun _ c=>Bd h fun x6 hx6 h=>Cg c (ih2 hx6) ⟨.f 0,tt⟩ call107 fun i2 _ _ c=>?_)
   replace c:=c.nf
   refine Ess 1 (tC x6 i2.1 i2.2) c fun _ c=>?_
   refine E0 ?_
   obtain rfl:=sj h
   exact wp_ret (tr (Rg c (i2.1,i2.2) [] [1] (.cell (α:=Agg 4) kk (.b 1) .nil)))
   refine K0 (S0 (P0 [(1,0)] c fun _ c=>wp_block (S0 (P0 [] c fun _ c=>Mp (p0.Op == 1) [(48,.bool (p0.Op == 1))] [(48,.bool (p0.Op == 2))] [(48,.bool ((p0.Op == 1) || (p0.Op == 2)))] [48,50] c fun _ c=>I0 c h (fun h=>?_) fun h=>?_))))
   refine Bd h fun x7 hx7 h=>?_
   obtain ⟨ep1,u2,c⟩:=c.elp (.f 0) hx7
   obtain ⟨a5,c5,rfl,c⟩:=c.o_Term 2
   refine S0 (rZ [(2,.eq (.pointer (some ep1))),(4,.eq (I x7.Op))] [(1,0),(6,0)] mix c ⟨Nie c 1,Nlc c 1 0,tt⟩ fun _ _ c=>I0 c h (fun h=>?_) fun h=>?_)
   refine T0 (Fp [(1,0)] 2 c fun _ c=>Bd h fun x8 hx8 h=>Eemf c (.f 0) hx8 ZgV fun _ _ u3 _ c=>?_)
   obtain ⟨a6,c6,rfl⟩:=c.sl 4
   refine Bd h fun x9 hx9 h=>Eem c (.f 4) hx9 fun _ u4 _ c=>?_
   obtain ⟨a7,c7,rfl,c⟩:=c.o_Term 5
   replace c:=c.nf
   refine Ess 1 (tC x9 a7 c7) c fun _ c=>?_
   refine E0 ?_
   obtain rfl:=sj h
   exact wp_ret (br (tr (Rg c (a7,c7) [] [6] (.cell (α:=Agg 4) kk (.b 1) .nil))))
   refine K1 (bk (tn (T0 (Fp [(0,0)] 1 c fun _ c=>Ess 1 (tC p0 ga0 gc1) c fun _ c=>?_))))
   refine E0 ?_
   obtain rfl:=sj h
   exact wp_ret (Rg c (ga0,gc1) [] [0] (.cell (α:=Agg 4) kk (.b 1) .nil))
   refine P0 [] c fun _ c=>I0 c h (fun h=>?_) fun h=>?_
   refine T0 (Fp [(0,0)] 1 c fun _ c=>Bd h fun x10 hx10 h=>Cg c (ih3 hx10) ⟨.f 0,tt⟩ call108 fun i3 _ _ c=>?_)
   replace c:=c.nf
   refine Ess 1 (tC x10 i3.1 i3.2) c fun _ c=>?_
   refine E0 ?_
   obtain rfl:=sj h
   exact wp_ret (br (tr (Rg c (i3.1,i3.2) [] [1] (.cell (α:=Agg 4) kk (.b 1) .nil))))
   refine P0 [] c fun _ c=>I0 c h (fun h=>?_) fun h=>?_
   refine T0 (Fp [(0,0)] 1 c fun _ c=>Bd h fun x11 hx11 h=>Cg c (ih4 hx11) ⟨.f 0,tt⟩ call109 fun i4 _ _ c=>?_)
   replace c:=c.nf
   refine Ess 1 (tC x11 i4.1 i4.2) c fun _ c=>?_
   refine E0 ?_
   obtain rfl:=sj h
   exact wp_ret (br (tr (Rg c (i4.1,i4.2) [] [1] (.cell (α:=Agg 4) kk (.b 1) .nil))))
   refine S0 (P0 [] c fun _ c=>Mp (p0.Op == 20) [(74,.bool (p0.Op == 20))] [(74,.bool (p0.Op == 21))] [(74,.bool ((p0.Op == 20) || (p0.Op == 21)))] [74,76] c fun _ c=>I0 c h (fun h=>?_) fun h=>?_)
   refine T0 (Fp [(1,0)] 2 c fun _ c=>Bd h fun x12 hx12 h=>Eem c (.f 0) hx12 fun _ u5 _ c=>?_)
   obtain ⟨a8,c8,rfl,c⟩:=c.o_Term 1
   replace c:=c.nf
   refine Eal tZ c fun b4 _ _ c=>?_
   refine Ess 3 (tC x12 a8 c8) c fun _ c=>?_
   refine E0 (S0 (P0 [(1,2),(3,0)] c fun _ c=>I0 c h (fun h=>?_) fun h=>?_))
   refine T0 (Fp [(0,2)] 1 c fun _ c=>Ess 1 (tC x12 a8 c8) c fun _ c=>?_)
   refine E0 ?_
   obtain rfl:=sj h
   exact wp_ret (tr (br (tr (Rg c (a8,c8) [] [2] (.cell (α:=Agg 4) kk (.b 1) .nil)))))
   refine K0 (P0 [(1,2),(3,0)] c fun _ c=>I0 c h (fun h=>?_) fun h=>?_)
   refine T0 (Fp [(1,0),(3,0),(5,2)] 7 c fun _ c=>Bd h fun x13 hx13 h=>Cg c (ih1 hx13) ⟨.f 2,tt⟩ call85 fun i5 _ _ c=>?_)
   refine Ess 1 (tC x13 i5.1 i5.2) c fun _ c=>?_
   refine E0 ?_
   obtain rfl:=sj h
   exact wp_ret (br (tr (Rg c (i5.1,i5.2) [] [3] (.cell (α:=Agg 4) kk (.b 1) .nil))))
   refine K1 (bk (tn (T0 (Fp [(0,0)] 1 c fun _ c=>Ess 1 (tC p0 ga0 gc1) c fun _ c=>?_))))
   refine E0 ?_
   obtain rfl:=sj h
   exact wp_ret (Rg c (ga0,gc1) [] [0] (.cell (α:=Agg 4) kk (.b 1) .nil))
   refine P0 [] c fun _ c=>I0 c h (fun h=>?_) fun h=>?_
   refine T0 (Fp [(1,0)] 2 c fun _ c=>Bd h fun x14 hx14 h=>Eem c (.f 0) hx14 fun _ u6 _ c=>?_)
   obtain ⟨a9,c9,rfl,c⟩:=c.o_Term 1
   replace c:=c.nf
   refine Eal tZ c fun b5 _ _ c=>?_
   refine Ess 3 (tC x14 a9 c9) c fun _ c=>?_
   refine E0 (T0 (Fp [(1,0)] 2 c fun _ c=>Bd h fun x15 hx15 h=>Eem c (.f 0) hx15 fun _ u7 _ c=>?_))
   obtain ⟨a10,c10,rfl,c⟩:=c.o_Term 3
   refine Eal tZ c fun b6 _ _ c=>?_
   refine Ess 4 (tC x15 a10 c10) c fun _ c=>?_
   refine E0 (Bd h fun x16 hx16 h=>Bd h fun x17 hx17 h=>Bd h fun x18 hx18 h=>S0 (rZ [(11,Pd.el (x16:D.Term)),(12,Pd.rd (x16:D.Term)),(15,Pd.el (x17:D.Term)),(16,Pd.rd (x17:D.Term)),(17,.eq (.bool x18))] [(1,2),(5,3),(10,2),(14,3),(21,2),(23,3),(25,3)] mix c ⟨Nid c (.f 2) (gT hx16),Nrd c 11 (atN 11),Nid c (.f 4) (gT hx17),Nrd c 15 (atN 15),Ncd (Ψ:=[]) [.r 12 (fun v=>RO v (x16:D.Term)),.r 16 (fun v=>RO v (x17:D.Term))] c ⟨(atN 12),(atN 16),tt⟩ tt (fun hg _ _ ga gp=>by obtain ⟨u1,_,rfl,g1,u2,_,rfl,g2,rfl⟩:=ga; obtain ⟨k1,rfl,f1⟩:=Opn.opn g1; obtain ⟨k2,rfl,f2⟩:=Opn.opn g2; exact ⟨_,(f1.join f2),Zb0 (iteT (gcT hg) hx18)⟩) call110,tt⟩ fun _ _ c=>I0 c h (fun h=>?_) fun h=>?_))
   refine T0 (Fp [(1,0),(3,3),(5,3)] 7 c fun _ c=>?_)
   replace c:=c.ng
   refine Bd h fun x19 hx19 h=>Cg c (ih1 hx19) ⟨.f 4,tt⟩ call85 fun i6 _ _ c=>?_
   refine Ess 1 (tC x19 i6.1 i6.2) c fun _ c=>?_
   refine E0 ?_
   obtain rfl:=sj h
   exact wp_ret (br (tr (Rg c (i6.1,i6.2) [] [5] (.cell (α:=Agg 4) kk (.b 1) .nil))))
   refine K1 (bk (tn (T0 (Fp [(0,0)] 1 c fun _ c=>?_))))
   replace c:=c.ng
   refine Ess 1 (tC p0 ga0 gc1) c fun _ c=>?_
   refine E0 ?_
   obtain rfl:=sj h
   exact wp_ret (Rg c (ga0,gc1) [] [0] (.cell (α:=Agg 4) kk (.b 1) .nil))
   refine K1 (bk (tn (T0 (Fp [(0,0)] 1 c fun _ c=>Ess 1 (tC p0 ga0 gc1) c fun _ c=>?_))))
   refine E0 ?_
   obtain rfl:=sj h
   exact wp_ret (Rg c (ga0,gc1) [] [0] (.cell (α:=Agg 4) kk (.b 1) .nil))
 · intro p0 ga0 gc1 r h
   rw [Zh] at h
   refine En func107 rfl ntmps107 fun _ fr w c=>?_
   refine T0 (Ebx (tC p0 ga0 gc1) c fun b1 _ _ c=>?_)
   refine Eal tZ c fun b2 _ _ c=>?_
   refine E0 (T0 (Fp [(1,0)] 2 c fun _ c=>Bd h fun x1 hx1 h=>Eem c (.f 0) hx1 fun _ u1 _ c=>?_))
   obtain ⟨a1,c1,rfl,c⟩:=c.o_Term 1
   refine Eal tZ c fun b3 _ _ c=>?_
   refine Ess 2 (tC x1 a1 c1) c fun _ c=>?_
   refine E0 (T0 (Fp [(1,0)] 2 c fun _ c=>?_))
   replace c:=c.ng
   refine Bd h fun x2 hx2 h=>Eem c (.f 0) hx2 fun _ u2 _ c=>?_
   obtain ⟨a2,c2,rfl,c⟩:=c.o_Term 3
   refine Eal tZ c fun b4 _ _ c=>?_
   refine Ess 3 (tC x2 a2 c2) c fun _ c=>?_
   refine E0 (Bd h fun x3 hx3 h=>S0 (rZ [(11,.eq (.bool x3))] [(1,0),(5,0),(10,0)] mix c ⟨Ncl c (fun hg=>Zt (iteF (gcF hg) hx3)) tt call18,tt⟩ fun _ _ c=>S0 (Bd h fun x4 hx4 h=>S0 (rZ [(9,.eq (I x4))] [(3,0),(7,2),(8,3)] mix c ⟨Ncl c (fun hg=>Zby (iteT (gcT hg) hx4)) ⟨.f 2,.f 4,tt⟩ call127,tt⟩ fun _ _ c=>I0 c h (fun h=>?_) fun h=>?_))))
   refine T0 (Fp [(0,3),(1,2)] 2 c fun _ c=>Eltr 62 [(tR x2 a2 c2),(tR x1 a1 c1)] [x2,x1] c ⟨(Ava.mk_Term x2 (.f 4)),(Ava.mk_Term x1 (.f 2)),tt⟩ fun a3 c3 _ _ c=>?_)
   refine Fp [] 1 c fun _ c=>Esb 0 4 (L a3 [x2,x1] c3) c fun _ c=>?_
   refine E0 (T0 (Fp [(0,0)] 1 c fun _ c=>?_))
   replace c:=c.ng
   replace c:=c.fzr 4 5
   refine Bd h fun x5 hx5 h=>Cg c (ih1 hx5) ⟨.f 6,tt⟩ call85 fun i1 _ _ c=>?_
   refine Ess 1 (tC x5 i1.1 i1.2) c fun _ c=>?_
   refine E0 ?_
   obtain rfl:=sj h
   exact wp_ret (tr (Rg c (i1.1,i1.2) [] [7] (.cell (α:=Agg 4) kk (.b 1) .nil)))
   refine K0 (S0 (P0 [(1,2)] c fun _ c=>Bd h fun rl1 hit1 h=>?_))
   have hk1:=h
   refine Jr (fun s  (_:Unit)=>([(1,B b1 0),(2,B b2 0),(3,B b3 0),(4,B b4 0),(5,.bool (((p0.Op == 3) || (p0.Op == 5)) || x3))],id,[])) hit1 c (fun h=>?_) fun s1r _ _ _ hrl c=>?_
   refine I0 c h (fun h=>?_) fun h=>?_
   refine T0 (Fp [(0,0)] 1 c fun _ c=>Bd h fun x6 hx6 h=>Cg c (ih0 hx6) ⟨.f 0,tt⟩ call128 fun i2 _ _ c=>?_)
   refine Fp [] 3 c fun _ c=>Eal tZ c fun b5 _ _ c=>?_
   replace c:=c.nf
   refine Ess 4 (tC x6.1 i2.1 i2.2) c fun _ c=>?_
   refine Fp [] 1 c fun _ c=>E0 (P0 [] c fun _ c=>I0 c h (fun h=>?_) fun h=>?_)
   refine T0 (Fp [(0,4)] 1 c fun _ c=>Ess 1 (tC x6.1 i2.1 i2.2) c fun _ c=>?_)
   refine E0 ?_
   obtain rfl:=sj h
   obtain rfl:=sj hk1
   exact wp_ret (tr (Rg c (i2.1,i2.2) [] [5] (.cell (α:=Agg 4) kk (.b 1) .nil)))
   refine K0 (⟨_,(),(sk h),c.rk (rg 4) (rg 5)⟩)
   refine K0 (⟨_,(),(sk h),c.rk (rg 4) (rg 5)⟩)
   subst hrl
   refine S0 (T0 (Fp [(0,3)] 1 c fun _ c=>Bd h fun x7 hx7 h=>Cb c (YA hx7) ⟨.f 4,tt⟩ call38 fun _ _ _ c=>?_))
   refine E0 (Bd h fun rl2 hit2 h=>?_)
   have hk2:=h
   refine Jr (fun s  (_:Unit)=>([(1,B b1 0),(2,B b2 0),(3,B b3 0),(4,B b4 0),(5,.bool (((p0.Op == 3) || (p0.Op == 5)) || x3))],id,[])) hit2 c (fun h=>?_) fun s2r _ _ _ hrl c=>?_
   refine I0 c h (fun h=>?_) fun h=>?_
   refine S0 (Bd h fun x8 hx8 h=>S0 (rZ [(6,.eq (.bool x8))] [(1,0),(5,0)] mix c ⟨Ncl c (fun hg=>Zt (iteF (gcF hg) hx8)) tt call18,tt⟩ fun _ _ c=>I0 c h (fun h=>?_) fun h=>?_))
   refine T0 (Fp [(0,2)] 1 c fun _ c=>Ess 1 (tC x1 a1 c1) c fun _ c=>?_)
   refine E0 ?_
   obtain rfl:=sj h
   obtain rfl:=sj hk2
   exact wp_ret (tr (tr (Rg c (a1,c1) [] [2] (.cell (α:=Agg 4) kk (.b 1) .nil))))
   refine K0 (P0 [(1,0)] c fun _ c=>I0 c h (fun h=>?_) fun h=>?_)
   refine T0 (Bd h fun x9 hx9 h=>Cb c (Z7 hx9) tt call35 fun _ _ _ c=>?_)
   replace c:=c.nf
   refine Ess 1 [I x9.Op,I x9.W,I x9.N,Str.val x9.Name,L0] c fun _ c=>?_
   refine E0 ?_
   obtain rfl:=sj h
   obtain rfl:=sj hk2
   replace c:=c.nilf (α:=D.Term)
   exact wp_ret (tr (Rg c (none,0) [] [5] (.cell (α:=Agg 4) kk (.b 1) .nil)))
   refine K0 (⟨_,(),(sk h),c.rk (rg 4) (rg 5)⟩)
   refine K0 (⟨_,(),(sk h),c.rk (rg 4) (rg 5)⟩)
   subst hrl
   refine S0 (T0 (Fp [(0,2),(1,3)] 2 c fun _ c=>Bd h fun x10 hx10 h=>Cb c (Zb0 hx10) ⟨.f 2,.f 4,tt⟩ call110 fun _ _ _ c=>?_))
   refine E0 (Bd h fun rl3 hit3 h=>?_)
   have hk3:=h
   refine Jr (fun s  (_:Unit)=>([(1,B b1 0),(2,B b2 0),(3,B b3 0),(4,B b4 0),(5,.bool (((p0.Op == 3) || (p0.Op == 5)) || x3))],id,[])) hit3 c (fun h=>?_) fun s3r _ _ _ hrl c=>?_
   refine I0 c h (fun h=>?_) fun h=>?_
   refine T0 (Fp [(0,0)] 1 c fun _ c=>?_)
   replace c:=c.nf
   refine Bd h fun x11 hx11 h=>Cg c (Zes hx11) ⟨.f 0,tt⟩ call129 fun i3 _ _ c=>?_
   refine Fp [] 3 c fun _ c=>Eal tZ c fun b6 _ _ c=>?_
   refine Ess 4 (tC x11.1 i3.1 i3.2) c fun _ c=>?_
   refine Fp [] 1 c fun _ c=>E0 (P0 [] c fun _ c=>I0 c h (fun h=>?_) fun h=>?_)
   refine T0 (Fp [(0,4)] 1 c fun _ c=>Ess 1 (tC x11.1 i3.1 i3.2) c fun _ c=>?_)
   refine E0 ?_
   obtain rfl:=sj h
   obtain rfl:=sj hk3
   exact wp_ret (tr (Rg c (i3.1,i3.2) [] [5] (.cell (α:=Agg 4) kk (.b 1) .nil)))
   refine K0 (⟨_,(),(sk h),c.rk (rg 4) (rg 5)⟩)
   refine K0 (⟨_,(),(sk h),c.rk (rg 4) (rg 5)⟩)
   subst hrl
   refine S0 (Bd h fun x12 hx12 h=>S0 (rZ [(16,Pd.el (x12:D.Term)),(17,Pd.fl (I x12.Op)),(18,.eq (I x12.Op))] [(3,2),(8,3),(10,0),(15,3)] mix c ⟨Nid c (.f 4) (gT hx12),Nfa c 16 (atN 16) ZkR,Nlf c 17 (atN 17),tt⟩ fun _ _ c=>I0 c h (fun h=>?_) fun h=>?_))
   refine Bd h fun x13 hx13 h=>?_
   obtain ⟨ep1,u3,c⟩:=c.elp (.f 4) hx13
   obtain ⟨a4,c4,rfl,c⟩:=c.o_Term 6
   refine Bd h fun x14 hx14 h=>S0 (rZ [(8,.eq (.pointer (some ep1))),(10,.eq (I x13.N)),(11,.eq (I x14))] [(1,0),(3,0),(5,2),(7,3)] mix c ⟨Nie c 5,Nlc c 5 2,Ncl c (kN (Zb4 hx14)) tt call112,tt⟩ fun _ _ c=>Bd h fun x15 hx15 h=>Bd h fun x16 hx16 h=>?_)
   obtain ⟨ep2,u4,c⟩:=c.elp (.f 4) hx16
   obtain ⟨a5,c5,rfl,c⟩:=c.o_Term 9
   refine S0 (YH mix (rM 13 [(7,.eq (.agg #[I x15.Op,I x15.W,I x15.N,Str.val x15.Name,L0])),(10,.eq (.pointer (some ep2))),(11,.eq (tV x16 a5 c5)),(12,Pd.nw c.wd 12 (fun i:Oh=>L i.1 [(t0 x15),x16] i.2) (fun i=>sl62 (L i.1 [(t0 x15),x16] i.2) [(u0 x15),(tR x16 a5 c5)]))] [(1,0),(3,0),(5,0),(9,3)] c (fun ow=>⟨ZG ow (Ncl c (kN (Z7 hx15)) tt call35),ZG ow (Nie c 8),ZG ow (Nle c 8),Nlt c [(u0 x15),(tR x16 a5 c5)],tt⟩) fun ow _ _ hE hc cq=>?_))
   obtain ⟨i4,hi4⟩:=hE.nw 12 130
   replace c:=Cx.newt c hc cq [(12,130,_,_)] ⟨hi4,tt⟩
   replace c:=c.csl [(u0 x15),(tR x16 a5 c5)] [(t0 x15),x16] ⟨(Ava.mk_Term (t0 x15) (.nil)),(Ava.mk_Term x16 (.f 10)),tt⟩
   refine Fp [] 1 c fun _ c=>?_
   replace c:=c.nf
   replace c:=c.fzr 4 11
   refine Bd h fun x17 hx17 h=>Cg c (ih1 hx17) ⟨.f 12,tt⟩ call85 fun i5 _ _ c=>?_
   refine Ess 1 (tC x17 i5.1 i5.2) c fun _ c=>?_
   refine E0 ?_
   obtain rfl:=sj h
   exact wp_ret (tr (Rg c (i5.1,i5.2) [] [13] (.cell (α:=Agg 4) kk (.b 1) .nil)))
   refine K0 (T0 (Fp [(0,0)] 1 c fun _ c=>?_))
   replace c:=c.nf
   refine Ess 1 (tC p0 ga0 gc1) c fun _ c=>?_
   refine E0 ?_
   obtain rfl:=sj h
   exact wp_ret (Rg c (ga0,gc1) [] [0] (.cell (α:=Agg 4) kk (.b 1) .nil))
 · intro p0 ga0 gc1 r h
   rw [YO] at h
   refine En func108 rfl ntmps108 fun _ fr w c=>?_
   refine T0 (Ebx (tC p0 ga0 gc1) c fun b1 _ _ c=>?_)
   refine Eal tZ c fun b2 _ _ c=>?_
   refine E0 (T0 (Fp [(1,0)] 2 c fun _ c=>Bd h fun x1 hx1 h=>Eem c (.f 0) hx1 fun _ u1 _ c=>?_))
   obtain ⟨a1,c1,rfl,c⟩:=c.o_Term 1
   refine Eal tZ c fun b3 _ _ c=>?_
   refine Ess 2 (tC x1 a1 c1) c fun _ c=>?_
   refine E0 (T0 (Fp [(1,0)] 2 c fun _ c=>?_))
   replace c:=c.ng
   refine Bd h fun x2 hx2 h=>Eem c (.f 0) hx2 fun _ u2 _ c=>?_
   obtain ⟨a2,c2,rfl,c⟩:=c.o_Term 3
   refine Eal tZ c fun b4 _ _ c=>?_
   refine Ess 3 (tC x2 a2 c2) c fun _ c=>?_
   refine E0 (T0 (Fp [(1,0)] 2 c fun _ c=>Bd h fun x3 hx3 h=>Eem c (.f 0) hx3 fun _ u3 _ c=>?_))
   obtain ⟨a3,c3,rfl,c⟩:=c.o_Term 5
   refine Eal tZ c fun b5 _ _ c=>?_
   replace c:=c.ng
   refine Ess 4 (tC x3 a3 c3) c fun _ c=>?_
   refine E0 (S0 (wp_block (T0 (Fp [(0,2)] 1 c fun _ c=>Bd h fun x4 hx4 h=>Cb c (YA hx4) ⟨.f 2,tt⟩ call38 fun _ _ _ c=>?_))))
   refine Fp [] 1 c fun _ c=>E0 (I0 c h (fun h=>?_) fun h=>?_)
   refine T0 (Fp [(0,3)] 1 c fun _ c=>Ess 1 (tC x2 a2 c2) c fun _ c=>?_)
   refine E0 ?_
   obtain rfl:=sj h
   exact wp_ret (br (tr (Rg c (a2,c2) [] [4] (.cell (α:=Agg 4) kk (.b 1) .nil))))
   refine T0 (Fp [(0,2)] 1 c fun _ c=>Bd h fun x5 hx5 h=>Cb c (YA hx5) ⟨.f 2,tt⟩ call38 fun _ _ _ c=>?_)
   refine Fp [] 1 c fun _ c=>E0 (I0 c h (fun h=>?_) fun h=>?_)
   refine T0 (Fp [(0,4)] 1 c fun _ c=>Ess 1 (tC x3 a3 c3) c fun _ c=>?_)
   refine E0 ?_
   obtain rfl:=sj h
   exact wp_ret (br (tr (Rg c (a3,c3) [] [6] (.cell (α:=Agg 4) kk (.b 1) .nil))))
   refine T0 (Fp [(0,3),(1,4)] 2 c fun _ c=>Bd h fun x6 hx6 h=>Cb c (Zb0 hx6) ⟨.f 4,.f 6,tt⟩ call110 fun _ _ _ c=>?_)
   refine Fp [] 1 c fun _ c=>E0 (I0 c h (fun h=>?_) fun h=>?_)
   refine T0 (Fp [(0,3)] 1 c fun _ c=>Ess 1 (tC x2 a2 c2) c fun _ c=>?_)
   refine E0 ?_
   obtain rfl:=sj h
   exact wp_ret (br (tr (Rg c (a2,c2) [] [4] (.cell (α:=Agg 4) kk (.b 1) .nil))))
   refine P0 [(1,2)] c fun _ c=>I0 c h (fun h=>?_) fun h=>?_
   refine Bd h fun x7 hx7 h=>?_
   obtain ⟨ep1,u4,c⟩:=c.elp (.f 2) hx7
   obtain ⟨a4,c4,rfl,c⟩:=c.o_Term 8
   refine S0 (YH mix (rM 9 [(4,.eq (.pointer (some ep1))),(5,.eq (tV x7 a4 c4)),(8,Pd.nw c.wd 8 (fun i:Oh=>L i.1 [x7,x3,x2] i.2) (fun i=>sl62 (L i.1 [x7,x3,x2] i.2) [(tR x7 a4 c4),(tR x3 a3 c3),(tR x2 a2 c2)]))] [(1,0),(3,2),(6,4),(7,3)] c (fun ow=>⟨ZG ow (Nie c 7),ZG ow (Nle c 7),Nlt c [(tR x7 a4 c4),(tR x3 a3 c3),(tR x2 a2 c2)],tt⟩) fun ow _ _ hE hc cq=>?_))
   obtain ⟨i1,hi1⟩:=hE.nw 8 43
   replace c:=Cx.newt c hc cq [(8,43,_,_)] ⟨hi1,tt⟩
   replace c:=c.csl [(tR x7 a4 c4),(tR x3 a3 c3),(tR x2 a2 c2)] [x7,x3,x2] ⟨(Ava.mk_Term x7 (.f 9)),(Ava.mk_Term x3 (.f 6)),(Ava.mk_Term x2 (.f 4)),tt⟩
   refine Fp [] 1 c fun _ c=>?_
   replace c:=c.ng
   replace c:=c.fzr 5 10
   refine Bd h fun x8 hx8 h=>Cg c (ih1 hx8) ⟨.f 11,tt⟩ call85 fun i2 _ _ c=>?_
   refine Ess 1 (tC x8 i2.1 i2.2) c fun _ c=>?_
   refine E0 ?_
   obtain rfl:=sj h
   exact wp_ret (br (tr (Rg c (i2.1,i2.2) [] [12] (.cell (α:=Agg 4) kk (.b 1) .nil))))
   refine Bd h fun x9 hx9 h=>Bd h fun x10 hx10 h=>S0 (rZ [(5,.eq (.bool x9)),(9,.eq (.bool x10))] [(1,0),(4,3),(8,4)] mix c ⟨Ncl c (fun hg=>YA (iteT (gcT hg) hx9)) ⟨.f 4,tt⟩ call38,Ncl c (fun hg=>YA (iteT (gcT hg) hx10)) ⟨.f 6,tt⟩ call38,tt⟩ fun _ _ c=>I0 c h (fun h=>?_) fun h=>?_)
   refine T0 (Fp [(0,2)] 1 c fun _ c=>Ess 1 (tC x1 a1 c1) c fun _ c=>?_)
   refine E0 ?_
   obtain rfl:=sj h
   exact wp_ret (br (tr (Rg c (a1,c1) [] [2] (.cell (α:=Agg 4) kk (.b 1) .nil))))
   refine Bd h fun x11 hx11 h=>Bd h fun x12 hx12 h=>S0 (rZ [(5,.eq (.bool x11)),(9,.eq (.bool x12))] [(1,0),(4,3),(8,4)] mix c ⟨Ncl c (fun hg=>YA (iteT (gcT hg) hx11)) ⟨.f 4,tt⟩ call38,Ncl c (fun hg=>YA (iteT (gcT hg) hx12)) ⟨.f 6,tt⟩ call38,tt⟩ fun _ _ c=>I0 c h (fun h=>?_) fun h=>?_)
   refine T0 (Fp [(0,2)] 1 c fun _ c=>Eltr 62 [(tR x1 a1 c1)] [x1] c ⟨(Ava.mk_Term x1 (.f 2)),tt⟩ fun a5 c5 _ _ c=>?_)
   refine Fp [] 1 c fun _ c=>?_
   replace c:=c.nf
   replace c:=c.fzr 5 7
   refine Bd h fun x13 hx13 h=>Cg c (ih1 hx13) ⟨.f 8,tt⟩ call85 fun i3 _ _ c=>?_
   refine Ess 1 (tC x13 i3.1 i3.2) c fun _ c=>?_
   refine E0 ?_
   obtain rfl:=sj h
   exact wp_ret (br (tr (Rg c (i3.1,i3.2) [] [9] (.cell (α:=Agg 4) kk (.b 1) .nil))))
   refine K1 (bk (tn (T0 (Fp [(0,0)] 1 c fun _ c=>Ess 1 (tC p0 ga0 gc1) c fun _ c=>?_))))
   refine E0 ?_
   obtain rfl:=sj h
   exact wp_ret (Rg c (ga0,gc1) [] [0] (.cell (α:=Agg 4) kk (.b 1) .nil))
 · intro p0 ga0 gc1 r h
   rw [Y1] at h
   refine En func109 rfl ntmps109 fun _ fr w c=>?_
   refine T0 (Ebx (tC p0 ga0 gc1) c fun b1 _ _ c=>?_)
   refine Eal tZ c fun b2 _ _ c=>?_
   refine E0 (T0 (Fp [(1,0)] 2 c fun _ c=>Bd h fun x1 hx1 h=>Eem c (.f 0) hx1 fun _ u1 _ c=>?_))
   obtain ⟨a1,c1,rfl,c⟩:=c.o_Term 1
   refine Eal tZ c fun b3 _ _ c=>?_
   refine Ess 2 (tC x1 a1 c1) c fun _ c=>?_
   refine E0 (S0 (wp_block (P0 [(1,0),(3,2)] c fun _ c=>I0 c h (fun h=>?_) fun h=>?_)))
   refine T0 (Fp [(0,2)] 1 c fun _ c=>?_)
   replace c:=c.ng
   refine Ess 1 (tC x1 a1 c1) c fun _ c=>?_
   refine E0 ?_
   obtain rfl:=sj h
   exact wp_ret (br (tr (Rg c (a1,c1) [] [2] (.cell (α:=Agg 4) kk (.b 1) .nil))))
   refine P0 [(1,2)] c fun _ c=>I0 c h (fun h=>?_) fun h=>?_
   refine Bd h fun x2 hx2 h=>?_
   obtain ⟨ep1,u2,c⟩:=c.elp (.f 2) hx2
   obtain ⟨a2,c2,rfl,c⟩:=c.o_Term 4
   refine S0 (YH mix (rM 11 [(4,.eq (.pointer (some ep1))),(5,.eq (tV x2 a2 c2))] [(1,0),(3,2),(7,0),(9,2)] c (fun ow=>⟨ZG ow (Nie c 3),ZG ow (Nle c 3),tt⟩) fun _ _ _ _ _ c=>?_))
   replace c:=c.ng
   refine Bd h fun x3 hx3 h=>Cg c (ih5 hx3) ⟨.f 5,tt⟩ call130 fun i1 _ _ c=>?_
   refine Ess 1 (tC x3 i1.1 i1.2) c fun _ c=>?_
   refine E0 ?_
   obtain rfl:=sj h
   exact wp_ret (br (tr (Rg c (i1.1,i1.2) [] [6] (.cell (α:=Agg 4) kk (.b 1) .nil))))
   refine Bd h fun x4 hx4 h=>S0 (rZ [(11,Pd.el (x4:D.Term)),(12,Pd.fl (I x4.W)),(13,.eq (I x4.W))] [(1,2),(5,0),(7,0),(10,2)] mix c ⟨Nid c (.f 2) (gT hx4),Nfa c 11 (atN 11) Zb3,Nlf c 12 (atN 12),tt⟩ fun _ _ c=>I0 c h (fun h=>?_) fun h=>?_)
   refine Bd h fun x5 hx5 h=>?_
   obtain ⟨ep2,u3,c⟩:=c.elp (.f 2) hx5
   obtain ⟨a3,c3,rfl,c⟩:=c.o_Term 4
   refine S0 (YH mix (rM 8 [(4,.eq (.pointer (some ep2))),(5,.eq (tV x5 a3 c3))] [(1,0),(3,2),(7,0)] c (fun ow=>⟨ZG ow (Nie c 3),ZG ow (Nle c 3),tt⟩) fun _ _ _ _ _ c=>?_))
   replace c:=c.ng
   refine Bd h fun x6 hx6 h=>Cg c (ih5 hx6) ⟨.f 5,tt⟩ call130 fun i2 _ _ c=>?_
   refine Ess 1 (tC x6 i2.1 i2.2) c fun _ c=>?_
   refine E0 ?_
   obtain rfl:=sj h
   exact wp_ret (br (tr (Rg c (i2.1,i2.2) [] [6] (.cell (α:=Agg 4) kk (.b 1) .nil))))
   refine Bd h fun x7 hx7 h=>S0 (rZ [(8,Pd.el (x7:D.Term)),(9,Pd.fl (I x7.W)),(10,.eq (I x7.W))] [(1,2),(5,0),(7,2)] mix c ⟨Nid c (.f 2) (gT hx7),Nfa c 8 (atN 8) Zb3,Nlf c 9 (atN 9),tt⟩ fun _ _ c=>I0 c h (fun h=>?_) fun h=>?_)
   refine Bd h fun x8 hx8 h=>?_
   obtain ⟨ep3,u4,c⟩:=c.elp (.f 2) hx8
   obtain ⟨a4,c4,rfl,c⟩:=c.o_Term 4
   refine Bd h fun x9 hx9 h=>?_
   obtain ⟨ep4,u5,c⟩:=c.elp (.f 2) hx9
   obtain ⟨a5,c5,rfl,c⟩:=c.o_Term 7
   refine S0 (YH mix (rM 14 [(4,.eq (.pointer (some ep3))),(5,.eq (tV x8 a4 c4)),(10,.eq (.pointer (some ep4))),(12,.eq (I x9.W))] [(1,0),(3,2),(7,0),(9,2)] c (fun ow=>⟨ZG ow (Nie c 3),ZG ow (Nle c 3),ZG ow (Nie c 6),ZG ow (Nlc c 6 1),tt⟩) fun _ _ _ _ _ c=>?_))
   replace c:=c.ng
   refine Bd h fun x10 hx10 h=>Cg c (ih5 hx10) ⟨.f 5,tt⟩ call130 fun i3 _ _ c=>?_
   refine Ess 1 (tC x10 i3.1 i3.2) c fun _ c=>?_
   refine E0 ?_
   obtain rfl:=sj h
   exact wp_ret (br (tr (Rg c (i3.1,i3.2) [] [9] (.cell (α:=Agg 4) kk (.b 1) .nil))))
   refine Bd h fun x11 hx11 h=>Bd h fun x12 hx12 h=>S0 (rZ [(2,.eq (.bool x11)),(11,Pd.el (x12:D.Term)),(12,Pd.fl (I x12.W)),(13,.eq (I x12.W))] [(1,2),(5,0),(7,0),(10,2)] mix c ⟨Ncl c (kN (Zt hx11)) tt call18,Nid c (.f 2) (gT hx12),Nfa c 11 (atN 11) Zb3,Nlf c 12 (atN 12),tt⟩ fun _ _ c=>I0 c h (fun h=>?_) fun h=>?_)
   refine Bd h fun x13 hx13 h=>?_
   obtain ⟨ep5,u6,c⟩:=c.elp (.f 2) hx13
   obtain ⟨a6,c6,rfl,c⟩:=c.o_Term 4
   refine S0 (YH mix (rM 8 [(4,.eq (.pointer (some ep5))),(5,.eq (tV x13 a6 c6))] [(1,0),(3,2),(7,0)] c (fun ow=>⟨ZG ow (Nie c 3),ZG ow (Nle c 3),tt⟩) fun _ _ _ _ _ c=>?_))
   replace c:=c.ng
   refine Bd h fun x14 hx14 h=>Cg c (ih5 hx14) ⟨.f 5,tt⟩ call130 fun i4 _ _ c=>?_
   refine Ess 1 (tC x14 i4.1 i4.2) c fun _ c=>?_
   refine E0 ?_
   obtain rfl:=sj h
   exact wp_ret (br (tr (Rg c (i4.1,i4.2) [] [6] (.cell (α:=Agg 4) kk (.b 1) .nil))))
   refine K1 (bk (tn (T0 (Fp [(0,0)] 1 c fun _ c=>?_))))
   replace c:=c.ng
   refine Ess 1 (tC p0 ga0 gc1) c fun _ c=>?_
   refine E0 ?_
   obtain rfl:=sj h
   exact wp_ret (Rg c (ga0,gc1) [] [0] (.cell (α:=Agg 4) kk (.b 1) .nil))
 · intro p0 p1 p2 ga0 gc1 r h
   rw [Yy] at h
   refine En func130 rfl ntmps130 fun _ fr w c=>?_
   refine T0 (Ebx (tC p1 ga0 gc1) c fun b1 _ _ c=>?_)
   refine Eal tZ c fun b2 _ _ c=>?_
   refine E0 (T0 (Fp [(2,0)] 3 c fun _ c=>Eltr 62 [(tR p1 ga0 gc1)] [p1] c ⟨(Ava.mk_Term p1 (.f 0)),tt⟩ fun a1 c1 _ _ c=>?_))
   refine Fp [] 1 c fun _ c=>?_
   replace c:=c.fzr 2 1
   refine Bd h fun x1 hx1 h=>Cg c (ih1 hx1) ⟨.f 2,tt⟩ call85 fun i1 _ _ c=>?_
   refine Ess 1 (tC x1 i1.1 i1.2) c fun _ c=>?_
   refine E0 ?_
   obtain rfl:=sj h
   exact wp_ret (Rg c (i1.1,i1.2) [] [3] (.cell (α:=Agg 4) kk (.b 1) .nil))
theorem ZeD {n:Nat}:∀ {p0 ga0 gc1 r} (h:Zz n p0 = some r),Ct 85 [tV p0 ga0 gc1] [lR ga0 p0.Kids gc1] r:=(Yp n).2.1
theorem Zeu {p0 p1 p2 p3 r} (h:Za0 n p0 p1 p2 p3 = some r):Con prog 65 [I p0,I p1,I p2,L ga0 p3 gc1] [] [lR ga0 p3 gc1] fun (i:Oh)=>([tV r.1 i.1 i.2,.bool r.2],[],[lR i.1 r.1.Kids i.2]):=by
 unfold Za0 at h
 refine En func65 rfl ntmps65 fun _ fr w c=>?_
 refine T0 (Eal tZ c fun b1 _ _ c=>?_)
 refine Fp [] 1 c fun _ c=>E0 (T0 (Fp [] 5 c fun _ c=>Eal tZ c fun b2 _ _ c=>?_))
 refine Ess 1 [I p0,I p1,I p2,Str.val ⟨[]⟩,L ga0 p3 gc1] c fun _ c=>?_
 refine E0 (S0 (T0 (Fp [(0,1)] 1 c fun _ c=>Bd h fun x1 hx1 h=>Cb c (ZcK hx1) ⟨.f 0,tt⟩ call84 fun _ _ _ c=>?_)))
 refine Fp [] 1 c fun _ c=>E0 (I0 c h (fun h=>?_) fun h=>?_)
 refine T0 (Fp [] 1 c fun _ c=>Ess 0 tZ c fun _ c=>?_)
 refine Fp [] 1 c fun _ c=>E0 ?_
 cases h
 replace c:=c.nilf (α:=D.Term)
 exact wp_ret (tr (Rg c (none,0) [] [1] (.cell (α:=Agg 4) kk (.b 0) (.tmp .nil))))
 refine K0 (T0 (Fp [(0,1)] 1 c fun _ c=>Bd h fun x2 hx2 h=>Cg c (ZeD hx2) ⟨.f 0,tt⟩ call85 fun i1 _ _ c=>?_))
 replace c:=c.ng
 refine Bd h fun x3 hx3 h=>Cg c (ZcH hx3) ⟨.f 1,tt⟩ call83 fun i2 _ _ c=>?_
 refine Ess 0 (tC x3 i2.1 i2.2) c fun _ c=>?_
 refine Fp [] 1 c fun _ c=>E0 ?_
 cases h
 exact wp_ret (Rg c (i2.1,i2.2) [] [2] (.cell (α:=Agg 4) kk (.b 0) (.tmp .nil)))
theorem Zo {p0 p1 p2 p3 gb0 r} (h:Zg n p0 p1 p2 p3 = some r):Con prog 41 [B gb0 0,I p1,I p2,L ga1 p3 gc2] [BX gb0 68 [.bool p0.bad]] [lR ga1 p3 gc2] fun (i:Oh)=>([tV r.1 i.1 i.2],[BX gb0 68 [.bool r.2.bad]],[lR i.1 r.1.Kids i.2]):=by
 unfold Zg at h
 refine En func41 rfl ntmps41 fun _ fr w c=>?_
 refine T0 (Eal tZ c fun b1 _ _ c=>?_)
 refine E0 (T0 (Fp [] 3 c fun _ c=>Bd h fun x1 hx1 h=>Cg c (Zeu hx1) ⟨.f 0,tt⟩ call65 fun i1 _ _ c=>?_))
 refine Fp [] 3 c fun _ c=>Eal tZ c fun b2 _ _ c=>?_
 refine Ess 2 (tC x1.1 i1.1 i1.2) c fun _ c=>?_
 refine Fp [] 1 c fun _ c=>E0 (S0 (P0 [] c fun _ c=>I0 c h (fun h=>?_) fun h=>?_))
 refine T1 (Fp [] 3 c fun _ c=>Esb 0 0 (.bool true) c fun _ c=>?_)
 refine E0 (T0 (Fp [(0,2)] 1 c fun _ c=>?_))
 replace c:=c.ng
 refine Ess 1 (tC x1.1 i1.1 i1.2) c fun _ c=>?_
 refine E0 ?_
 cases h
 exact wp_ret (Rg c (i1.1,i1.2) [0] [1] (.cell (α:=Agg 4) kk (.b 1) .nil))
 refine K0 (T0 (Fp [(0,2)] 1 c fun _ c=>Ess 1 (tC x1.1 i1.1 i1.2) c fun _ c=>?_))
 refine E0 ?_
 cases h
 exact wp_ret (Rg c (i1.1,i1.2) [0] [1] (.cell (α:=Agg 4) kk (.b 1) .nil))
theorem Zck {p0 p1 p2 p3 gb0 r} (h:Y7 n p0 p1 p2 p3 = some r):Con prog 37 [B gb0 0,gV p1 ga1 gc2,pV p2 ga3 gc4 ga5 gc6 ga7 gc8 ga9 gc10 ga11 gc12 ga13 gc14,nV p3] [BX gb0 68 [.bool p0.bad]] [lR ga1 p1.Code gc2,lR ga3 p2.Regs gc4] fun (i:Oh)=>([tV r.1 i.1 i.2,.bool r.2.1],[BX gb0 68 [.bool r.2.2.bad]],[lR i.1 r.1.Kids i.2]):=by
 unfold Y7 at h
 refine En func37 rfl ntmps37 fun _ fr w c=>?_
 refine T0 (Ebx (gC p1 ga1 gc2) c fun b1 _ _ c=>?_)
 refine Ebx (pC p2 ga3 gc4 ga5 gc6 ga7 gc8 ga9 gc10 ga11 gc12 ga13 gc14) c fun b2 _ _ c=>?_
 refine Ebx (nC p3) c fun b3 _ _ c=>?_
 refine Eal tZ c fun b4 _ _ c=>?_
 refine Fp [] 1 c fun _ c=>E0 (T0 (Fp [(1,1)] 2 c fun _ c=>Bd h fun x1 hx1 h=>Cb c (Z7 hx1) tt call35 fun _ _ _ c=>?_))
 replace c:=c.ng
 refine Eal tZ c fun b5 _ _ c=>?_
 refine Ess 5 [I x1.Op,I x1.W,I x1.N,Str.val x1.Name,L0] c fun _ c=>?_
 refine E0 (S0 (wp_block (S0 (Ry [(1,3),(5,3)] mix c fun _ _ c=>I0 c h (fun h=>?_) fun h=>?_))))
 refine Bd h fun x2 hx2 h=>?_
 obtain ⟨ep1,u1,c⟩:=c.elp (.f 1) hx2
 obtain ⟨a1,c1,rfl,c⟩:=c.o_Term 3
 refine S0 (YH mix (rM 9 [(6,.eq (.pointer (some ep1))),(7,.eq (tV x2 a1 c1)),(8,Pd.nw c.wd 8 (fun i:Oh=>L i.1 [(t0 x1),x2] i.2) (fun i=>sl62 (L i.1 [(t0 x1),x2] i.2) [(u0 x1),(tR x2 a1 c1)]))] [(1,5),(3,2),(5,3)] c (fun ow=>⟨ZG ow (Nie c 2),ZG ow (Nle c 2),Nlt c [(u0 x1),(tR x2 a1 c1)],tt⟩) fun ow _ _ hE hc cq=>?_))
 obtain ⟨i1,hi1⟩:=hE.nw 8 33
 replace c:=Cx.newt c hc cq [(8,33,_,_)] ⟨hi1,tt⟩
 replace c:=c.csl [(u0 x1),(tR x2 a1 c1)] [(t0 x1),x2] ⟨(Ava.mk_Term (t0 x1) (.nil)),(Ava.mk_Term x2 (.f 4)),tt⟩
 replace c:=c.fzr 6 5
 refine Bd h fun x3 hx3 h=>Cf [0] c (Zo hx3) ⟨.f 6,tt⟩ call41 fun i2 _ _ c=>?_
 replace c:=c.nf
 refine Ess 3 (tC x3.1 i2.1 i2.2) c fun _ c=>?_
 refine Fp [] 1 c fun _ c=>E0 ?_
 cases h
 exact wp_ret (br (tr (Rg c (i2.1,i2.2) [5] [7] (.cell (α:=Agg 4) kk (.b 3) (.tmp .nil)))))
 refine S0 (Ry [(1,3),(5,3),(9,3)] mix c fun _ _ c=>I0 c h (fun h=>?_) fun h=>?_)
 refine Bd h fun x4 hx4 h=>?_
 obtain ⟨ep2,u2,c⟩:=c.elp (.f 1) hx4
 obtain ⟨a2,c2,rfl,c⟩:=c.o_Term 3
 refine S0 (YH mix (rM 9 [(6,.eq (.pointer (some ep2))),(7,.eq (tV x4 a2 c2)),(8,Pd.nw c.wd 8 (fun i:Oh=>L i.1 [(t0 x1),x4] i.2) (fun i=>sl62 (L i.1 [(t0 x1),x4] i.2) [(u0 x1),(tR x4 a2 c2)]))] [(1,5),(3,2),(5,3)] c (fun ow=>⟨ZG ow (Nie c 2),ZG ow (Nle c 2),Nlt c [(u0 x1),(tR x4 a2 c2)],tt⟩) fun ow _ _ hE hc cq=>?_))
 obtain ⟨i3,hi3⟩:=hE.nw 8 57
 replace c:=Cx.newt c hc cq [(8,57,_,_)] ⟨hi3,tt⟩
 replace c:=c.csl [(u0 x1),(tR x4 a2 c2)] [(t0 x1),x4] ⟨(Ava.mk_Term (t0 x1) (.nil)),(Ava.mk_Term x4 (.f 4)),tt⟩
 replace c:=c.fzr 6 5
 refine Bd h fun x5 hx5 h=>Cf [0] c (Zo hx5) ⟨.f 6,tt⟩ call41 fun i4 _ _ c=>?_
 replace c:=c.nf
 refine Ess 3 (tC x5.1 i4.1 i4.2) c fun _ c=>?_
 refine Fp [] 1 c fun _ c=>E0 ?_
 cases h
 exact wp_ret (br (tr (Rg c (i4.1,i4.2) [5] [7] (.cell (α:=Agg 4) kk (.b 3) (.tmp .nil)))))
 refine S0 (Ry [(1,3),(5,3)] mix c fun _ _ c=>I0 c h (fun h=>?_) fun h=>?_)
 refine T0 (Fp [(1,2),(3,3)] 4 c fun _ c=>Bd h fun x6 hx6 h=>Eem c (.f 1) hx6 fun _ u3 _ c=>?_)
 obtain ⟨a3,c3,rfl,c⟩:=c.o_Term 2
 replace c:=c.nf
 refine Eal tZ c fun b6 _ _ c=>?_
 refine Ess 6 (tC x6 a3 c3) c fun _ c=>?_
 refine E0 (S0 (P0 [(1,3)] c fun _ c=>I0 c h (fun h=>?_) fun h=>?_))
 refine T1 (Fp [(1,2),(3,3)] 4 c fun _ c=>Bd h fun x7 hx7 h=>Eem c (.f 1) hx7 fun _ u4 _ c=>?_)
 obtain ⟨a4,c4,rfl,c⟩:=c.o_Term 4
 replace c:=c.ng
 refine Ess 6 (tC x7 a4 c4) c fun _ c=>?_
 refine E0 (Bd h fun x8 hx8 h=>Bd h fun x9 hx9 h=>S0 (Jn (fun i:Nat × Oh=>([(0,B gb0 0),(8,B b4 0),(12,B i.1 0)],fun Γ=>(Γ.set 0 (BX gb0 68 [.bool x9.2.bad])) ++ [BX i.1 62 (tC x9.1 i.2.1 i.q2)],[lR i.2.1 x9.1.Kids i.q2])) c ?_ fun i12 _ _ c=>?_))
 refine As mix c fun _ c=>?_
 replace c:=Cx.frs [(0,B gb0 0),(5,B b1 0),(8,B b4 0),(11,B b6 0)] c
 refine Dq (fun i:Nat × Oh=>([(0,B gb0 0),(8,B b4 0),(12,B i.1 0)],fun Γ=>(Γ.set 0 (BX gb0 68 [.bool x9.2.bad])) ++ [BX i.1 62 (tC x9.1 i.2.1 i.q2)],[lR i.2.1 x9.1.Kids i.q2])) (bN 11 2047) (fun i=>[]) c (fun i11=>?_) fun hd8=>?_
 obtain ⟨b15,a11,c11⟩:=i11
 refine qnE tt fun _ _ c=>?_
 exact nN (b15,a11,c11) (c.rk (rg 8) (rg 7))
 refine Dq (fun i:Nat × Oh=>([(0,B gb0 0),(8,B b4 0),(12,B i.1 0),(91,tV x9.1 i.2.1 i.q2)],fun Γ=>(Γ.set 0 (BX gb0 68 [.bool x9.2.bad])) ++ [BX i.1 62 tZ],[lR i.2.1 x9.1.Kids i.q2])) (bN 11 1023) (fun i=>[]) c (fun i9=>?_) fun hd7=>?_
 obtain ⟨b14,a10,c10⟩:=i9
 refine qn [10] tt ⟨fun _ _ c=>?_,tt⟩
 refine Zf _ rfl rfl ?_
 refine Ess 7 (tC x9.1 a10 c10) c fun _ c=>?_
 refine E0 (nQ hd8 (b14,a10,c10) (c.rk (rg 8) (rg 7)))
 refine Dq (fun i:Oh=>([(0,B gb0 0),(8,B b4 0),(91,tV x9.1 i.1 i.2)],fun Γ=>Γ.set 0 (BX gb0 68 [.bool x9.2.bad]),[lR i.1 x9.1.Kids i.2])) (bN 11 511) (fun i=>[]) c (fun i7=>?_) fun hd5=>?_
 obtain ⟨a7,c7⟩:=i7
 refine qn [9] tt ⟨fun _ _ c=>?_,tt⟩
 refine Zf _ rfl rfl ?_
 refine Eal tZ c fun b13 _ _ c=>?_
 refine E0 (nQ hd7 (b13,a7,c7) (c.rk (rg 8) (rg 7)))
 refine Dq (fun i:Nat × Oh=>([(0,B gb0 0),(8,B b4 0),(12,B i.1 0),(90,L i.2.1 [x7,(t0 x8)] i.q2)],fun Γ=>Γ ++ [BX i.1 62 tZ,sl62 (L i.2.1 [x7,(t0 x8)] i.q2) [(tR x7 a4 c4),(u0 x8)]],[CS [(tR x7 a4 c4),(u0 x8)] [x7,(t0 x8)]])) (bN 11 766) (fun i=>[(0,83,B gb0 0)]) c (fun i8=>?_) fun hd6=>?_
 obtain ⟨b12,a8,c8⟩:=i8
 refine qn [8] ⟨qP [],tt⟩ ⟨fun _ _ c=>?_,tt⟩
 refine Zf _ rfl rfl ?_
 replace c:=c.fzr 8 6
 refine Cf [0] c (Zo hx9) ⟨.f 7,tt⟩ call41 fun i10 _ _ c=>?_
 refine E0 (nQ hd7 (b12,i10.1,i10.2) (c.rk [7,0,1,2,3,4,5,6] [0,1,2,3,4,5,8]))
 refine Dq (fun i:Oh=>([(0,B gb0 0),(8,B b4 0),(90,L i.1 [x7,(t0 x8)] i.2)],fun Γ=>Γ ++ [sl62 (L i.1 [x7,(t0 x8)] i.2) [(tR x7 a4 c4),(u0 x8)]],[CS [(tR x7 a4 c4),(u0 x8)] [x7,(t0 x8)]])) (bN 11 254) (fun i=>[(0,83,B gb0 0)]) c (fun i5=>?_) fun hd3=>?_
 obtain ⟨a6,c6⟩:=i5
 refine qn [8,9] ⟨qP [],tt⟩ ⟨fun _ _ c=>?_,fun _ _ c=>?_,tt⟩
 refine Zf _ rfl rfl ?_
 replace c:=c.fzr 7 6
 refine Cf [0] c (Zo hx9) ⟨.f 7,tt⟩ call41 fun i6 _ _ c=>?_
 refine E0 (nQ hd5 (i6.1,i6.2) (c.rk [6,0,1,2,3,4,5] [0,1,2,3,4,5,8]))
 refine Zf _ rfl rfl ?_
 refine Eal tZ c fun b11 _ _ c=>?_
 refine E0 (nQ hd6 (b11,a6,c6) (c.rk [0,1,2,3,4,5,6,8,7] (rg 7)))
 refine Dq (fun i:Nat=>([(0,B gb0 0),(8,B b4 0),(11,B b6 0),(12,B i 0),(89,.agg #[I x8.Op,I x8.W,I x8.N,Str.val x8.Name,L0])],fun Γ=>Γ ++ [BX i 62 tZ],[])) (bN 11 636) (fun i=>[(0,83,B gb0 0),(1,84,tV x7 a4 c4)]) c (fun b10=>?_) fun hd4=>?_
 refine qn [7] ⟨qP [],qP [(0,6)],tt⟩ ⟨fun _ _ c=>?_,tt⟩
 refine Zf _ rfl rfl ?_
 refine Eltr 62 [(tR x7 a4 c4),(u0 x8)] [x7,(t0 x8)] c ⟨(Ava.mk_Term x7 (.f 5)),(Ava.mk_Term (t0 x8) (.nil)),tt⟩ fun a9 c9 _ _ c=>?_
 refine E0 (nQ hd6 (b10,a9,c9) (c.rk (rg 9) (rg 7)))
 refine Dq (fun _:Unit=>([(0,B gb0 0),(8,B b4 0),(11,B b6 0),(89,.agg #[I x8.Op,I x8.W,I x8.N,Str.val x8.Name,L0])],id,[])) (bN 11 124) (fun _=>[(0,83,B gb0 0),(1,84,tV x7 a4 c4)]) c (fun _=>?_) fun hd1=>?_
 refine qn [7,9] ⟨qP [],qP [(0,6)],tt⟩ ⟨fun _ _ c=>?_,fun _ _ c=>?_,tt⟩
 refine Zf _ rfl rfl ?_
 refine Eltr 62 [(tR x7 a4 c4),(u0 x8)] [x7,(t0 x8)] c ⟨(Ava.mk_Term x7 (.f 5)),(Ava.mk_Term (t0 x8) (.nil)),tt⟩ fun a5 c5 _ _ c=>?_
 refine E0 (nQ hd3 (a5,c5) (c.rk (rg 8) (rg 7)))
 refine Zf _ rfl rfl ?_
 refine Eal tZ c fun b9 _ _ c=>?_
 refine E0 (nQ hd4 (b9) (c.rk (rg 8) (rg 6)))
 refine Dq (fun i:Nat=>([(0,B gb0 0),(5,B b1 0),(8,B b4 0),(11,B b6 0),(12,B i 0)],fun Γ=>Γ ++ [BX i 62 tZ],[])) (bN 11 512) (fun i=>[(0,83,B gb0 0),(1,84,tV x7 a4 c4),(2,85,B b1 0),(3,86,I p1.W),(4,87,B b1 1),(5,88,I p1.Mem)]) c (fun b8=>?_) fun hd2=>?_
 refine qn [6] ⟨qP [],qP [(0,6)],qP [],qP [(0,1)],qP [],qP [(0,1)],tt⟩ ⟨fun _ _ c=>?_,tt⟩
 refine Zf _ rfl rfl ?_
 refine Cb c (Z7 hx8) tt call35 fun _ _ _ c=>?_
 refine E0 (nQ hd4 (b8) (c.rk (rg 8) (rg 6)))
 refine q0 (qs:=[(0,83,B gb0 0),(1,84,tV x7 a4 c4),(2,85,B b1 0),(3,86,I p1.W),(4,87,B b1 1),(5,88,I p1.Mem)]) c (qn [6,9] ⟨qP [],qP [(0,6)],qP [],qP [(0,1)],qP [],qP [(0,1)],tt⟩ ⟨fun _ _ c=>?_,fun _ _ c=>?_,tt⟩)
 refine Zf _ rfl rfl ?_
 refine Cb c (Z7 hx8) tt call35 fun _ _ _ c=>?_
 refine E0 (nQ hd1 () (c.rk (rg 7) (rg 6)))
 refine Zf _ rfl rfl ?_
 refine Eal tZ c fun b7 _ _ c=>?_
 refine E0 (nQ hd2 (b7) (c.rk (rg 8) (rg 6)))
 obtain ⟨b16,a12,c12⟩:=i12
 refine S0 (P0 [(3,0)] c fun _ c=>I0 c h (fun h=>?_) fun h=>?_)
 refine T0 (Fp [(0,7)] 1 c fun _ c=>Ess 4 (tC x9.1 a12 c12) c fun _ c=>?_)
 refine Fp [] 1 c fun _ c=>E0 ?_
 cases h
 exact wp_ret (tr (br (tr (Rg c (a12,c12) [0] [6] (.cell (α:=Agg 4) kk (.b 4) (.tmp .nil))))))
 refine K0 (T0 (Fp [(1,7)] 2 c fun _ c=>Eltr 62 [(tR x9.1 a12 c12)] [x9.1] c ⟨(Ava.mk_Term x9.1 (.f 6)),tt⟩ fun a13 c13 _ _ c=>?_))
 replace c:=c.fzr 8 7
 refine Bd h fun x10 hx10 h=>Cf [0] c (Zo hx10) ⟨.f 8,tt⟩ call41 fun i13 _ _ c=>?_
 refine Ess 3 (tC x10.1 i13.1 i13.2) c fun _ c=>?_
 refine Fp [] 1 c fun _ c=>E0 ?_
 cases h
 exact wp_ret (br (tr (Rg c (i13.1,i13.2) [7] [9] (.cell (α:=Agg 4) kk (.b 3) (.tmp .nil)))))
 refine K0 (Bd h fun x11 hx11 h=>Bd h fun x12 hx12 h=>S0 (Jn (fun i:Nat × Oh=>([(0,B gb0 0),(8,B b4 0),(12,B i.1 0)],fun Γ=>(Γ.set 0 (BX gb0 68 [.bool x12.2.bad])) ++ [BX i.1 62 (tC x12.1 i.2.1 i.q2)],[lR i.2.1 x12.1.Kids i.q2])) c ?_ fun i21 _ _ c=>?_))
 refine As mix c fun _ c=>?_
 replace c:=Cx.frs [(0,B gb0 0),(5,B b1 0),(8,B b4 0),(11,B b6 0)] c
 refine Dq (fun i:Nat × Oh=>([(0,B gb0 0),(8,B b4 0),(12,B i.1 0)],fun Γ=>(Γ.set 0 (BX gb0 68 [.bool x12.2.bad])) ++ [BX i.1 62 (tC x12.1 i.2.1 i.q2)],[lR i.2.1 x12.1.Kids i.q2])) (bN 11 2047) (fun i=>[]) c (fun i20=>?_) fun hd16=>?_
 obtain ⟨b25,a20,c20⟩:=i20
 refine qnE tt fun _ _ c=>?_
 exact nN (b25,a20,c20) (c.rk (rg 8) (rg 5))
 refine Dq (fun i:Nat × Oh=>([(0,B gb0 0),(8,B b4 0),(12,B i.1 0),(91,tV x12.1 i.2.1 i.q2)],fun Γ=>(Γ.set 0 (BX gb0 68 [.bool x12.2.bad])) ++ [BX i.1 62 tZ],[lR i.2.1 x12.1.Kids i.q2])) (bN 11 1023) (fun i=>[]) c (fun i18=>?_) fun hd15=>?_
 obtain ⟨b24,a19,c19⟩:=i18
 refine qn [10] tt ⟨fun _ _ c=>?_,tt⟩
 refine Zf _ rfl rfl ?_
 refine Ess 7 (tC x12.1 a19 c19) c fun _ c=>?_
 refine E0 (nQ hd16 (b24,a19,c19) (c.rk (rg 8) (rg 5)))
 refine Dq (fun i:Oh=>([(0,B gb0 0),(8,B b4 0),(91,tV x12.1 i.1 i.2)],fun Γ=>Γ.set 0 (BX gb0 68 [.bool x12.2.bad]),[lR i.1 x12.1.Kids i.2])) (bN 11 511) (fun i=>[]) c (fun i16=>?_) fun hd13=>?_
 obtain ⟨a16,c16⟩:=i16
 refine qn [9] tt ⟨fun _ _ c=>?_,tt⟩
 refine Zf _ rfl rfl ?_
 refine Eal tZ c fun b23 _ _ c=>?_
 refine E0 (nQ hd15 (b23,a16,c16) (c.rk (rg 8) (rg 5)))
 refine Dq (fun i:Nat × Oh=>([(0,B gb0 0),(8,B b4 0),(12,B i.1 0),(90,L i.2.1 [x6,(t0 x11)] i.q2)],fun Γ=>Γ ++ [BX i.1 62 tZ,sl62 (L i.2.1 [x6,(t0 x11)] i.q2) [(tR x6 a3 c3),(u0 x11)]],[CS [(tR x6 a3 c3),(u0 x11)] [x6,(t0 x11)]])) (bN 11 766) (fun i=>[(0,83,B gb0 0)]) c (fun i17=>?_) fun hd14=>?_
 obtain ⟨b22,a17,c17⟩:=i17
 refine qn [8] ⟨qP [],tt⟩ ⟨fun _ _ c=>?_,tt⟩
 refine Zf _ rfl rfl ?_
 replace c:=c.fzr 8 4
 refine Cf [0] c (Zo hx12) ⟨.f 5,tt⟩ call41 fun i19 _ _ c=>?_
 refine E0 (nQ hd15 (b22,i19.1,i19.2) (c.rk [7,0,1,2,3,4,5,6] [0,1,2,3,6]))
 refine Dq (fun i:Oh=>([(0,B gb0 0),(8,B b4 0),(90,L i.1 [x6,(t0 x11)] i.2)],fun Γ=>Γ ++ [sl62 (L i.1 [x6,(t0 x11)] i.2) [(tR x6 a3 c3),(u0 x11)]],[CS [(tR x6 a3 c3),(u0 x11)] [x6,(t0 x11)]])) (bN 11 254) (fun i=>[(0,83,B gb0 0)]) c (fun i14=>?_) fun hd11=>?_
 obtain ⟨a15,c15⟩:=i14
 refine qn [8,9] ⟨qP [],tt⟩ ⟨fun _ _ c=>?_,fun _ _ c=>?_,tt⟩
 refine Zf _ rfl rfl ?_
 replace c:=c.fzr 7 4
 refine Cf [0] c (Zo hx12) ⟨.f 5,tt⟩ call41 fun i15 _ _ c=>?_
 refine E0 (nQ hd13 (i15.1,i15.2) (c.rk [6,0,1,2,3,4,5] [0,1,2,3,6]))
 refine Zf _ rfl rfl ?_
 refine Eal tZ c fun b21 _ _ c=>?_
 refine E0 (nQ hd14 (b21,a15,c15) (c.rk [0,1,2,3,4,5,6,8,7] (rg 5)))
 refine Dq (fun i:Nat=>([(0,B gb0 0),(8,B b4 0),(11,B b6 0),(12,B i 0),(89,.agg #[I x11.Op,I x11.W,I x11.N,Str.val x11.Name,L0])],fun Γ=>Γ ++ [BX i 62 tZ],[])) (bN 11 636) (fun i=>[(0,83,B gb0 0),(1,84,tV x6 a3 c3)]) c (fun b20=>?_) fun hd12=>?_
 refine qn [7] ⟨qP [],qP [(0,6)],tt⟩ ⟨fun _ _ c=>?_,tt⟩
 refine Zf _ rfl rfl ?_
 refine Eltr 62 [(tR x6 a3 c3),(u0 x11)] [x6,(t0 x11)] c ⟨(Ava.mk_Term x6 (.f 3)),(Ava.mk_Term (t0 x11) (.nil)),tt⟩ fun a18 c18 _ _ c=>?_
 refine E0 (nQ hd14 (b20,a18,c18) (c.rk (rg 9) (rg 5)))
 refine Dq (fun _:Unit=>([(0,B gb0 0),(8,B b4 0),(11,B b6 0),(89,.agg #[I x11.Op,I x11.W,I x11.N,Str.val x11.Name,L0])],id,[])) (bN 11 124) (fun _=>[(0,83,B gb0 0),(1,84,tV x6 a3 c3)]) c (fun _=>?_) fun hd9=>?_
 refine qn [7,9] ⟨qP [],qP [(0,6)],tt⟩ ⟨fun _ _ c=>?_,fun _ _ c=>?_,tt⟩
 refine Zf _ rfl rfl ?_
 refine Eltr 62 [(tR x6 a3 c3),(u0 x11)] [x6,(t0 x11)] c ⟨(Ava.mk_Term x6 (.f 3)),(Ava.mk_Term (t0 x11) (.nil)),tt⟩ fun a14 c14 _ _ c=>?_
 refine E0 (nQ hd11 (a14,c14) (c.rk (rg 8) (rg 5)))
 refine Zf _ rfl rfl ?_
 refine Eal tZ c fun b19 _ _ c=>?_
 refine E0 (nQ hd12 (b19) (c.rk (rg 8) (rg 4)))
 refine Dq (fun i:Nat=>([(0,B gb0 0),(5,B b1 0),(8,B b4 0),(11,B b6 0),(12,B i 0)],fun Γ=>Γ ++ [BX i 62 tZ],[])) (bN 11 512) (fun i=>[(0,83,B gb0 0),(1,84,tV x6 a3 c3),(2,85,B b1 0),(3,86,I p1.W),(4,87,B b1 1),(5,88,I p1.Mem)]) c (fun b18=>?_) fun hd10=>?_
 refine qn [6] ⟨qP [],qP [(0,6)],qP [],qP [(0,1)],qP [],qP [(0,1)],tt⟩ ⟨fun _ _ c=>?_,tt⟩
 refine Zf _ rfl rfl ?_
 refine Cb c (Z7 hx11) tt call35 fun _ _ _ c=>?_
 refine E0 (nQ hd12 (b18) (c.rk (rg 8) (rg 4)))
 refine q0 (qs:=[(0,83,B gb0 0),(1,84,tV x6 a3 c3),(2,85,B b1 0),(3,86,I p1.W),(4,87,B b1 1),(5,88,I p1.Mem)]) c (qn [6,9] ⟨qP [],qP [(0,6)],qP [],qP [(0,1)],qP [],qP [(0,1)],tt⟩ ⟨fun _ _ c=>?_,fun _ _ c=>?_,tt⟩)
 refine Zf _ rfl rfl ?_
 refine Cb c (Z7 hx11) tt call35 fun _ _ _ c=>?_
 refine E0 (nQ hd9 () (c.rk (rg 7) (rg 4)))
 refine Zf _ rfl rfl ?_
 refine Eal tZ c fun b17 _ _ c=>?_
 refine E0 (nQ hd10 (b17) (c.rk (rg 8) (rg 4)))
 obtain ⟨b26,a21,c21⟩:=i21
 refine S0 (P0 [(3,0)] c fun _ c=>I0 c h (fun h=>?_) fun h=>?_)
 refine T0 (Fp [(0,7)] 1 c fun _ c=>Ess 4 (tC x12.1 a21 c21) c fun _ c=>?_)
 refine Fp [] 1 c fun _ c=>E0 ?_
 cases h
 exact wp_ret (tr (br (tr (Rg c (a21,c21) [0] [4] (.cell (α:=Agg 4) kk (.b 4) (.tmp .nil))))))
 refine K0 (T0 (Fp [(1,7)] 2 c fun _ c=>Eltr 62 [(tR x12.1 a21 c21)] [x12.1] c ⟨(Ava.mk_Term x12.1 (.f 4)),tt⟩ fun a22 c22 _ _ c=>?_))
 replace c:=c.fzr 8 5
 refine Bd h fun x13 hx13 h=>Cf [0] c (Zo hx13) ⟨.f 6,tt⟩ call41 fun i22 _ _ c=>?_
 refine Ess 3 (tC x13.1 i22.1 i22.2) c fun _ c=>?_
 refine Fp [] 1 c fun _ c=>E0 ?_
 cases h
 exact wp_ret (br (tr (Rg c (i22.1,i22.2) [7] [7] (.cell (α:=Agg 4) kk (.b 3) (.tmp .nil)))))
 refine K1 (bk (tn (T0 (Fp [] 1 c fun _ c=>Ess 4 tZ c fun _ c=>?_))))
 refine Fp [] 1 c fun _ c=>E0 ?_
 cases h
 replace c:=c.nilf (α:=D.Term)
 exact wp_ret (Rg c (none,0) [0] [2] (.cell (α:=Agg 4) kk (.b 4) (.tmp .nil)))
theorem ZT {p0 p1 r} (h:Xd p0 p1 = some r):C0 61 [I p0,I p1] [] (I r):=by
 unfold Xd at h
 refine En func61 rfl ntmps61 fun _ fr w c=>?_
 refine P0 [] c fun _ c=>S0 (wp_block (Bd h fun x1 hx1 h=>Bd h fun x2 hx2 h=>S0 (rZ [(1,.eq (.bool x1)),(5,.eq (.bool x2))] [] mix c ⟨Ncl c (kN (Zt hx1)) tt call18,Ncl c (fun hg=>Zt (iteF (gcF hg) hx2)) tt call18,tt⟩ fun _ _ c=>I0 c h (fun h=>?_) fun h=>?_)))
 exact P0 [] c fun _ c=>rE
 exact P0 [] c fun _ c=>I0 c h (fun h=>P0 [] c fun _ c=>rE) fun h=>K1 (bk (tn (P0 [] c fun _ c=>rE)))
theorem Zca {n:Nat}:∀ {p0 r} (h:Yf n p0 = some r),C0 68 [I p0] [] (Str.val r):=by
 induction n with
 | zero=>intro p0 r h; simp [Yf] at h
 | succ n ih=>
 intro p0 r h
 rw [Yf] at h
 refine En func68 rfl ntmps68 fun _ fr w c=>?_
 refine P0 [] c fun _ c=>S0 (P0 [] c fun _ c=>I0 c h (fun h=>?_) fun h=>?_)
 refine S0 (T0 (Fp [] 1 c fun _ c=>Bd h fun x1 hx1 h=>Equo c hx1 fun _ c=>?_))
 refine Fp [] 1 c fun _ c=>E0 (I0 c h (fun h=>?_) fun h=>?_)
 refine T0 (Fp [] 3 c fun _ c=>Elt 5 ([(Byt.mk (IntKind.u8.wrap (w64 (48 - p0))))]:List Byt) c fun a1 c1 _ _ c=>?_)
 refine Ebs c (.g 0) (fun _ c=>?_) Tryz.underlying108
 refine Bd h fun x2 hx2 h=>Ecat c hx2 fun _ c=>?_
 exact Fp [] 1 c fun _ c=>E0 rE
 refine K0 (Bd h fun x3 hx3 h=>Bd h fun x4 hx4 h=>Bd h fun x5 hx5 h=>Bd h fun x6 hx6 h=>S0 (Jn (fun _:Unit=>([(2,Str.val x6)],id,[])) c ?_ fun _ _ _ c=>?_))
 refine As mix c fun _ c=>?_
 replace c:=Cx.frs [(0,I p0)] c
 refine Dq (fun _:Unit=>([(24,Str.val x6)],id,[])) (bN 11 1023) (fun _=>[(10,2,Str.val x6)]) c (fun _=>?_) fun hd12=>?_
 refine qnE ⟨qP [],tt⟩ fun _ _ c=>?_
 exact nN () (c.rk [] [])
 refine Dq (fun _:Unit=>([(17,Str.val x4),(23,Str.val (strOf ([(Byt.mk (IntKind.u8.wrap (w64 (48 - x5))))]:List Byt)))],id,[])) (bN 11 511) (fun _=>[]) c (fun _=>?_) fun hd11=>?_
 refine qn [9] tt ⟨fun _ _ c=>?_,tt⟩
 refine Zf _ rfl rfl ?_
 refine Ecat c hx6 fun _ c=>?_
 refine E0 (nQ hd12 () (c.rk [] []))
 refine Dq (fun i:Oh=>([(17,Str.val x4),(22,L i.1 ([(Byt.mk (IntKind.u8.wrap (w64 (48 - x5))))]:List Byt) i.2)],fun Γ=>Γ ++ [sl5 (L i.1 ([(Byt.mk (IntKind.u8.wrap (w64 (48 - x5))))]:List Byt) i.2) ([(Byt.mk (IntKind.u8.wrap (w64 (48 - x5))))]:List Byt)],[])) (bN 11 255) (fun i=>[]) c (fun i3=>?_) fun hd9=>?_
 obtain ⟨a7,c7⟩:=i3
 refine qn [8] tt ⟨fun _ _ c=>?_,tt⟩
 refine Zf _ rfl rfl ?_
 refine Ebs c (.g 0) (fun _ c=>?_) Tryz.underlying108
 refine E0 (nQ hd11 () (c.rk [] []))
 refine Dq (fun _:Unit=>([(16,I x3),(23,Str.val (strOf ([(Byt.mk (IntKind.u8.wrap (w64 (48 - x5))))]:List Byt)))],id,[])) (bN 11 507) (fun _=>[]) c (fun _=>?_) fun hd10=>?_
 refine qn [2] tt ⟨fun _ _ c=>?_,tt⟩
 refine Zf _ rfl rfl ?_
 refine Cb c (ih hx4) tt call68 fun _ _ _ c=>?_
 refine E0 (nQ hd11 () (c.rk [] []))
 refine Dq (fun _:Unit=>([(17,Str.val x4),(19,I x5)],id,[])) (bN 11 31) (fun _=>[(5,20,I (w64 (48 - x5))),(6,21,.int .u8 (IntKind.u8.wrap (w64 (48 - x5))))]) c (fun _=>?_) fun hd6=>?_
 refine qn [7] ⟨qP [],qP [],tt⟩ ⟨fun _ _ c=>?_,tt⟩
 refine Zf _ rfl rfl ?_
 refine Elt 5 ([(Byt.mk (IntKind.u8.wrap (w64 (48 - x5))))]:List Byt) c fun a6 c6 _ _ c=>?_
 refine E0 (nQ hd9 (a6,c6) (c.rk [0] []))
 refine Dq (fun i:Oh=>([(16,I x3),(22,L i.1 ([(Byt.mk (IntKind.u8.wrap (w64 (48 - x5))))]:List Byt) i.2)],fun Γ=>Γ ++ [sl5 (L i.1 ([(Byt.mk (IntKind.u8.wrap (w64 (48 - x5))))]:List Byt) i.2) ([(Byt.mk (IntKind.u8.wrap (w64 (48 - x5))))]:List Byt)],[])) (bN 11 251) (fun i=>[]) c (fun i2=>?_) fun hd7=>?_
 obtain ⟨a5,c5⟩:=i2
 refine qn [2,8] tt ⟨fun _ _ c=>?_,fun _ _ c=>?_,tt⟩
 refine Zf _ rfl rfl ?_
 refine Cb c (ih hx4) tt call68 fun _ _ _ c=>?_
 refine E0 (nQ hd9 (a5,c5) (c.rk [0] []))
 refine Zf _ rfl rfl ?_
 refine Ebs c (.g 0) (fun _ c=>?_) Tryz.underlying108
 refine E0 (nQ hd10 () (c.rk [] []))
 refine Dq (fun _:Unit=>([(0,I p0),(23,Str.val (strOf ([(Byt.mk (IntKind.u8.wrap (w64 (48 - x5))))]:List Byt)))],id,[])) (bN 11 504) (fun _=>[(0,15,I p0)]) c (fun _=>?_) fun hd8=>?_
 refine qn [1] ⟨qP [],tt⟩ ⟨fun _ _ c=>?_,tt⟩
 refine Zf _ rfl rfl ?_
 refine Equo c hx3 fun _ c=>?_
 refine E0 (nQ hd10 () (c.rk [] []))
 refine Dq (fun _:Unit=>([(0,I p0),(17,Str.val x4)],id,[])) (bN 11 7) (fun _=>[(3,18,I p0)]) c (fun _=>?_) fun hd3=>?_
 refine qn [4] ⟨qP [],tt⟩ ⟨fun _ _ c=>?_,tt⟩
 refine Zf _ rfl rfl ?_
 refine Erem c hx5 fun _ c=>?_
 refine E0 (nQ hd6 () (c.rk [] []))
 refine Dq (fun _:Unit=>([(16,I x3),(19,I x5)],id,[])) (bN 11 27) (fun _=>[(5,20,I (w64 (48 - x5))),(6,21,.int .u8 (IntKind.u8.wrap (w64 (48 - x5))))]) c (fun _=>?_) fun hd4=>?_
 refine qn [2,7] ⟨qP [],qP [],tt⟩ ⟨fun _ _ c=>?_,fun _ _ c=>?_,tt⟩
 refine Zf _ rfl rfl ?_
 refine Cb c (ih hx4) tt call68 fun _ _ _ c=>?_
 refine E0 (nQ hd6 () (c.rk [] []))
 refine Zf _ rfl rfl ?_
 refine Elt 5 ([(Byt.mk (IntKind.u8.wrap (w64 (48 - x5))))]:List Byt) c fun a4 c4 _ _ c=>?_
 refine E0 (nQ hd7 (a4,c4) (c.rk [0] []))
 refine Dq (fun i:Oh=>([(0,I p0),(22,L i.1 ([(Byt.mk (IntKind.u8.wrap (w64 (48 - x5))))]:List Byt) i.2)],fun Γ=>Γ ++ [sl5 (L i.1 ([(Byt.mk (IntKind.u8.wrap (w64 (48 - x5))))]:List Byt) i.2) ([(Byt.mk (IntKind.u8.wrap (w64 (48 - x5))))]:List Byt)],[])) (bN 11 248) (fun i=>[(0,15,I p0)]) c (fun i1=>?_) fun hd5=>?_
 obtain ⟨a3,c3⟩:=i1
 refine qn [1,8] ⟨qP [],tt⟩ ⟨fun _ _ c=>?_,fun _ _ c=>?_,tt⟩
 refine Zf _ rfl rfl ?_
 refine Equo c hx3 fun _ c=>?_
 refine E0 (nQ hd7 (a3,c3) (c.rk [0] []))
 refine Zf _ rfl rfl ?_
 refine Ebs c (.g 0) (fun _ c=>?_) Tryz.underlying108
 refine E0 (nQ hd8 () (c.rk [] []))
 refine Dq (fun _:Unit=>([(0,I p0),(16,I x3)],id,[])) (bN 11 3) (fun _=>[(3,18,I p0)]) c (fun _=>?_) fun hd1=>?_
 refine qn [2,4] ⟨qP [],tt⟩ ⟨fun _ _ c=>?_,fun _ _ c=>?_,tt⟩
 refine Zf _ rfl rfl ?_
 refine Cb c (ih hx4) tt call68 fun _ _ _ c=>?_
 refine E0 (nQ hd3 () (c.rk [] []))
 refine Zf _ rfl rfl ?_
 refine Erem c hx5 fun _ c=>?_
 refine E0 (nQ hd4 () (c.rk [] []))
 refine Dq (fun _:Unit=>([(0,I p0),(19,I x5)],id,[])) (bN 11 24) (fun _=>[(0,15,I p0),(5,20,I (w64 (48 - x5))),(6,21,.int .u8 (IntKind.u8.wrap (w64 (48 - x5))))]) c (fun _=>?_) fun hd2=>?_
 refine qn [1,7] ⟨qP [],qP [],qP [],tt⟩ ⟨fun _ _ c=>?_,fun _ _ c=>?_,tt⟩
 refine Zf _ rfl rfl ?_
 refine Equo c hx3 fun _ c=>?_
 refine E0 (nQ hd4 () (c.rk [] []))
 refine Zf _ rfl rfl ?_
 refine Elt 5 ([(Byt.mk (IntKind.u8.wrap (w64 (48 - x5))))]:List Byt) c fun a2 c2 _ _ c=>?_
 refine E0 (nQ hd5 (a2,c2) (c.rk [0] []))
 refine q0 (qs:=[(0,15,I p0),(3,18,I p0)]) c (qn [1,4] ⟨qP [],qP [],tt⟩ ⟨fun _ _ c=>?_,fun _ _ c=>?_,tt⟩)
 refine Zf _ rfl rfl ?_
 refine Equo c hx3 fun _ c=>?_
 refine E0 (nQ hd1 () (c.rk [] []))
 refine Zf _ rfl rfl ?_
 refine Erem c hx5 fun _ c=>?_
 refine E0 (nQ hd2 () (c.rk [] []))
 exact rE
 refine K0 (P0 [] c fun _ c=>Bd h fun rl1 hit1 h=>S0 (Lp (fun s1  (_:Unit)=>([(0,I s1.1),(3,Str.val s1.2)],id,[])) (fun  (_:Unit)=>([(0,I rl1.1),(3,Str.val rl1.2)],id,[])) hit1 c () (c.rk [] []) (fun s1 q1 _ _ _ c h hr1=>?_) fun _ _ _ c=>?_))
 refine S0 (P0 [] c fun _ c=>I0 c h (fun h=>?_) fun h=>?_)
 refine K0 (wp_block (T0 (Fp [] 1 c fun _ c=>Bd h fun x7 hx7 h=>Erem c hx7 fun _ c=>?_)))
 refine Fp [] 2 c fun _ c=>Elt 5 ([(Byt.mk (IntKind.u8.wrap (w64 (48 + x7))))]:List Byt) c fun a8 c8 _ _ c=>?_
 refine Ebs c (.g 0) (fun _ c=>?_) Tryz.underlying108
 refine Fp [] 1 c fun _ c=>Bd h fun x8 hx8 h=>Ecat c hx8 fun _ c=>?_
 refine Fp [] 1 c fun _ c=>E0 (T1 (Fp [] 1 c fun _ c=>Bd h fun x9 hx9 h=>Equo c hx9 fun _ c=>?_))
 refine Fp [] 1 c fun _ c=>E1 (bk (tn (Nx h () (c.rk [] []))))
 refine wp_exit (te (te (be ?_)))
 obtain rfl:=hr1 _ (sk h)
 exact tn ⟨(),c.rk [] []⟩
 refine T0 (Fp [] 3 c fun _ c=>Elt 5 ([(Byt.mk (IntKind.u8.wrap (w64 (48 + rl1.1))))]:List Byt) c fun a9 c9 _ _ c=>?_)
 refine Ebs c (.g 0) (fun _ c=>?_) Tryz.underlying108
 refine Fp [] 1 c fun _ c=>Bd h fun x10 hx10 h=>Ecat c hx10 fun _ c=>?_
 exact Fp [] 1 c fun _ c=>E0 rE
theorem Zeg {p0 p1 r} (h:ZaA n p0 p1 = some r):Con prog 62 [gV p0 ga0 gc1,I p1] [] [lR ga0 p0.Code gc1] fun (_:Unit)=>([.agg #[I r.Op,I r.W,I r.N,Str.val r.Name,L0]],[],[]):=by
 unfold ZaA at h
 refine En func62 rfl ntmps62 fun _ fr w c=>?_
 refine T0 (Ebx (gC p0 ga0 gc1) c fun b1 _ _ c=>?_)
 refine Eal tZ c fun b2 _ _ c=>?_
 refine E0 (Bd h fun x1 hx1 h=>Bd h fun x2 hx2 h=>S0 (YH mix (rM 5 [(3,.eq (Str.val x1)),(4,.eq (Str.val x2))] [(1,0)] c (fun ow=>⟨ZG ow (Ncl c (kN (Zca hx1)) tt call68),ZG ow (Ncat c (kN hx2)),tt⟩) fun _ _ _ _ _ c=>Fp [] 1 c fun _ c=>Ess 1 [I 22,I p0.W,I 0,Str.val x2,L0] c fun _ c=>?_)))
 refine E0 ?_
 cases h
 exact wp_ret (Rg c () [] [] (.cell (α:=Agg 4) kk (.b 1) .nil))
theorem Zci {p0 p1 p2 p3 gb0 r} (h:YM n p0 p1 p2 p3 = some r):Con prog 63 [B gb0 0,gV p1 ga1 gc2,pV p2 ga3 gc4 ga5 gc6 ga7 gc8 ga9 gc10 ga11 gc12 ga13 gc14,tV p3 ga15 gc16] [BX gb0 68 [.bool p0.bad]] [lR ga1 p1.Code gc2,lR ga5 p2.Mem gc6,lR ga15 p3.Kids gc16] fun (i:Oh)=>([tV r.1 i.1 i.2],[BX gb0 68 [.bool r.2.bad]],[lR i.1 r.1.Kids i.2]):=by
 unfold YM at h
 refine En func63 rfl ntmps63 fun _ fr w c=>?_
 refine T0 (Ebx (gC p1 ga1 gc2) c fun b1 _ _ c=>?_)
 refine Ebx (pC p2 ga3 gc4 ga5 gc6 ga7 gc8 ga9 gc10 ga11 gc12 ga13 gc14) c fun b2 _ _ c=>?_
 refine Ebx (tC p3 ga15 gc16) c fun b3 _ _ c=>?_
 refine Eal tZ c fun b4 _ _ c=>?_
 refine E0 (S0 (P0 [(1,3)] c fun _ c=>I0 c h (fun h=>?_) fun h=>?_))
 refine T0 (Fp [(1,2),(3,3)] 4 c fun _ c=>Bd h fun x1 hx1 h=>Eem c (.f 1) hx1 fun _ u1 _ c=>?_)
 obtain ⟨a1,c1,rfl,c⟩:=c.o_Term 3
 replace c:=c.ng
 refine Ess 4 (tC x1 a1 c1) c fun _ c=>?_
 refine E0 ?_
 cases h
 exact wp_ret (tr (Rg c (a1,c1) [0] [4] (.cell (α:=Agg 4) kk (.b 4) .nil)))
 refine K0 (T0 (Fp [(1,2),(3,1)] 5 c fun _ c=>Bd h fun x2 hx2 h=>Eem c (.f 1) hx2 fun _ u2 _ c=>?_))
 obtain ⟨a2,c2,rfl,c⟩:=c.o_Term 3
 replace c:=c.ng
 refine Eal tZ c fun b5 _ _ c=>?_
 refine Ess 5 (tC x2 a2 c2) c fun _ c=>?_
 refine E0 (S0 (P0 [(1,1)] c fun _ c=>Bd h fun rl1 hit1 h=>Lp (fun s1  (i:Oh)=>([(0,B gb0 0),(5,B b1 0),(6,B b2 0),(7,B b3 0),(8,B b4 0),(9,B b5 0),(10,I s1.1)],fun Γ=>(Γ.set 0 (BX gb0 68 [.bool s1.2.1])).set 5 (BX b5 62 [I s1.p2,I s1.p3,I s1.p4,Str.val s1.p5,L i.1 s1.q6 i.2]),[lR i.1 s1.q6 i.2])) (fun  (i:Oh)=>([(8,B b4 0),(9,B b5 0)],fun Γ=>(Γ.set 0 (BX gb0 68 [.bool rl1.1])).set 5 (BX b5 62 [I rl1.2.1,I rl1.p2,I rl1.p3,Str.val rl1.p4,L i.1 rl1.q5 i.2]),[lR i.1 rl1.q5 i.2])) hit1 c (a2,c2) (c.rk (rg 6) [0,1,2,3,4,4]) (fun s1 q1 i1 _ _ c h hr1=>?_) fun k1 _ _ c=>?_))
 refine S0 (S0 (Ry [(6,0)] mix c fun _ _ c=>I0 c h (fun h=>?_) fun h=>?_))
 refine K0 (S0 (wp_block (Bd h fun x3 hx3 h=>Bd h fun x4 hx4 h=>S0 (Jn (fun i:Nat × Oh=>([(0,B gb0 0),(5,B b1 0),(6,B b2 0),(7,B b3 0),(8,B b4 0),(9,B b5 0),(10,I s1.1),(11,B i.1 0)],fun Γ=>(Γ.set 0 (BX gb0 68 [.bool x4.2.bad])) ++ [BX i.1 62 (tC x4.1 i.2.1 i.q2)],[lR i.2.1 x4.1.Kids i.q2])) c ?_ fun i9 _ _ c=>?_))))
 refine As mix c fun _ c=>?_
 replace c:=Cx.frs [(0,B gb0 0),(5,B b1 0),(6,B b2 0),(7,B b3 0),(8,B b4 0),(9,B b5 0),(10,I s1.1)] c
 refine Dq (fun i:Nat × Oh=>([(0,B gb0 0),(5,B b1 0),(6,B b2 0),(7,B b3 0),(8,B b4 0),(9,B b5 0),(10,I s1.1),(11,B i.1 0)],fun Γ=>(Γ.set 0 (BX gb0 68 [.bool x4.2.bad])) ++ [BX i.1 62 (tC x4.1 i.2.1 i.q2)],[lR i.2.1 x4.1.Kids i.q2])) (bN 10 1023) (fun i=>[]) c (fun i8=>?_) fun hd8=>?_
 obtain ⟨b14,a9,c9⟩:=i8
 refine qnE tt fun _ _ c=>?_
 exact nN (b14,a9,c9) (c.rk (rg 7) (rg 7))
 refine Dq (fun i:Nat × Oh=>([(0,B gb0 0),(5,B b1 0),(6,B b2 0),(7,B b3 0),(8,B b4 0),(9,B b5 0),(10,I s1.1),(11,B i.1 0),(49,tV x4.1 i.2.1 i.q2)],fun Γ=>(Γ.set 0 (BX gb0 68 [.bool x4.2.bad])) ++ [BX i.1 62 tZ],[lR i.2.1 x4.1.Kids i.q2])) (bN 10 511) (fun i=>[]) c (fun i6=>?_) fun hd7=>?_
 obtain ⟨b13,a8,c8⟩:=i6
 refine qn [9] tt ⟨fun _ _ c=>?_,tt⟩
 refine Zf _ rfl rfl ?_
 refine Ess 6 (tC x4.1 a8 c8) c fun _ c=>?_
 refine E0 (nQ hd8 (b13,a8,c8) (c.rk (rg 7) (rg 7)))
 refine Dq (fun i:Oh=>([(0,B gb0 0),(5,B b1 0),(6,B b2 0),(7,B b3 0),(8,B b4 0),(9,B b5 0),(10,I s1.1),(49,tV x4.1 i.1 i.2)],fun Γ=>Γ.set 0 (BX gb0 68 [.bool x4.2.bad]),[lR i.1 x4.1.Kids i.2])) (bN 10 255) (fun i=>[]) c (fun i4=>?_) fun hd5=>?_
 obtain ⟨a5,c5⟩:=i4
 refine qn [8] tt ⟨fun _ _ c=>?_,tt⟩
 refine Zf _ rfl rfl ?_
 refine Eal tZ c fun b12 _ _ c=>?_
 refine E0 (nQ hd7 (b12,a5,c5) (c.rk (rg 7) (rg 7)))
 refine Dq (fun i:Nat × Ob (List Rw.Term)=>([(0,B gb0 0),(5,B b1 0),(6,B b2 0),(7,B b3 0),(8,B b4 0),(9,B b5 0),(10,I s1.1),(11,B i.1 0),(48,L i.2.1 [(t0 x3),p3] i.p2)],fun Γ=>Γ ++ [BX i.1 62 tZ,sl62 (L i.2.1 [(t0 x3),p3] i.p2) (i.q3)],[CS (i.q3) [(t0 x3),p3]])) (bN 10 382) (fun i=>[(0,42,B gb0 0)]) c (fun i5=>?_) fun hd6=>?_
 obtain ⟨b11,a6,c6,rs2⟩:=i5
 refine qn [7] ⟨qP [],tt⟩ ⟨fun _ _ c=>?_,tt⟩
 refine Zf _ rfl rfl ?_
 replace c:=c.fzr 7 6
 refine Cf [0] c (Zo hx4) ⟨.f 7,tt⟩ call41 fun i7 _ _ c=>?_
 refine E0 (nQ hd7 (b11,i7.1,i7.2) (c.rk [6,0,1,2,3,4,5] [0,1,2,3,4,5,8]))
 refine Dq (fun i:Ob (List Rw.Term)=>([(0,B gb0 0),(5,B b1 0),(6,B b2 0),(7,B b3 0),(8,B b4 0),(9,B b5 0),(10,I s1.1),(48,L i.1 [(t0 x3),p3] i.2.1)],fun Γ=>Γ ++ [sl62 (L i.1 [(t0 x3),p3] i.2.1) (i.q2)],[CS (i.q2) [(t0 x3),p3]])) (bN 10 126) (fun i=>[(0,42,B gb0 0)]) c (fun i2=>?_) fun hd3=>?_
 obtain ⟨a4,c4,rs1⟩:=i2
 refine qn [7,8] ⟨qP [],tt⟩ ⟨fun _ _ c=>?_,fun _ _ c=>?_,tt⟩
 refine Zf _ rfl rfl ?_
 replace c:=c.fzr 6 6
 refine Cf [0] c (Zo hx4) ⟨.f 7,tt⟩ call41 fun i3 _ _ c=>?_
 refine E0 (nQ hd5 (i3.1,i3.2) (c.rk [5,0,1,2,3,4] [0,1,2,3,4,5,8]))
 refine Zf _ rfl rfl ?_
 refine Eal tZ c fun b10 _ _ c=>?_
 refine E0 (nQ hd6 (b10,a4,c4,rs1) (c.rk [0,1,2,3,4,5,7,6] (rg 7)))
 refine Dq (fun i:Nat=>([(0,B gb0 0),(5,B b1 0),(6,B b2 0),(7,B b3 0),(8,B b4 0),(9,B b5 0),(10,I s1.1),(11,B i 0),(46,.agg #[I x3.Op,I x3.W,I x3.N,Str.val x3.Name,L0])],fun Γ=>Γ ++ [BX i 62 tZ],[])) (bN 10 286) (fun i=>[(0,42,B gb0 0),(5,47,tV p3 ga15 gc16)]) c (fun b9=>?_) fun hd4=>?_
 refine qn [6] ⟨qP [],qP [(0,3)],tt⟩ ⟨fun _ _ c=>?_,tt⟩
 refine Zf _ rfl rfl ?_
 refine Eltr 62 [(u0 x3),(tR p3 ga15 gc16)] [(t0 x3),p3] c ⟨(Ava.mk_Term (t0 x3) (.nil)),(Ava.mk_Term p3 (.f 2)),tt⟩ fun a7 c7 _ _ c=>?_
 refine E0 (nQ hd6 (b9,a7,c7,[(u0 x3),(tR p3 ga15 gc16)]) (c.rk (rg 8) (rg 7)))
 refine Dq (fun _:Unit=>([(0,B gb0 0),(5,B b1 0),(6,B b2 0),(7,B b3 0),(8,B b4 0),(9,B b5 0),(10,I s1.1),(46,.agg #[I x3.Op,I x3.W,I x3.N,Str.val x3.Name,L0])],id,[])) (bN 10 30) (fun _=>[(0,42,B gb0 0),(5,47,tV p3 ga15 gc16)]) c (fun _=>?_) fun hd1=>?_
 refine qn [6,8] ⟨qP [],qP [(0,3)],tt⟩ ⟨fun _ _ c=>?_,fun _ _ c=>?_,tt⟩
 refine Zf _ rfl rfl ?_
 refine Eltr 62 [(u0 x3),(tR p3 ga15 gc16)] [(t0 x3),p3] c ⟨(Ava.mk_Term (t0 x3) (.nil)),(Ava.mk_Term p3 (.f 2)),tt⟩ fun a3 c3 _ _ c=>?_
 refine E0 (nQ hd3 (a3,c3,[(u0 x3),(tR p3 ga15 gc16)]) (c.rk (rg 7) (rg 7)))
 refine Zf _ rfl rfl ?_
 refine Eal tZ c fun b8 _ _ c=>?_
 refine E0 (nQ hd4 (b8) (c.rk (rg 7) (rg 6)))
 refine Dq (fun i:Nat=>([(0,B gb0 0),(5,B b1 0),(6,B b2 0),(7,B b3 0),(8,B b4 0),(9,B b5 0),(10,I s1.1),(11,B i 0)],fun Γ=>Γ ++ [BX i 62 tZ],[])) (bN 10 256) (fun i=>[(0,42,B gb0 0),(1,43,B b1 0),(2,44,I p1.W),(3,45,I s1.1),(5,47,tV p3 ga15 gc16)]) c (fun b7=>?_) fun hd2=>?_
 refine qn [4] ⟨qP [],qP [],qP [(0,1)],qP [],qP [(0,3)],tt⟩ ⟨fun _ _ c=>?_,tt⟩
 refine Zf _ rfl rfl ?_
 refine Cb c (Z7 hx3) tt call35 fun _ _ _ c=>?_
 refine E0 (nQ hd4 (b7) (c.rk (rg 7) (rg 6)))
 refine q0 (qs:=[(0,42,B gb0 0),(1,43,B b1 0),(2,44,I p1.W),(3,45,I s1.1),(5,47,tV p3 ga15 gc16)]) c (qn [4,8] ⟨qP [],qP [],qP [(0,1)],qP [],qP [(0,3)],tt⟩ ⟨fun _ _ c=>?_,fun _ _ c=>?_,tt⟩)
 refine Zf _ rfl rfl ?_
 refine Cb c (Z7 hx3) tt call35 fun _ _ _ c=>?_
 refine E0 (nQ hd1 () (c.rk (rg 6) (rg 6)))
 refine Zf _ rfl rfl ?_
 refine Eal tZ c fun b6 _ _ c=>?_
 refine E0 (nQ hd2 (b6) (c.rk (rg 7) (rg 6)))
 obtain ⟨b15,a10,c10⟩:=i9
 refine P0 [(3,0)] c fun _ c=>I0 c h (fun h=>?_) fun h=>?_
 refine Bd h fun x5 hx5 h=>?_
 obtain ⟨ep1,u3,c⟩:=c.elp (.f 1) hx5
 obtain ⟨a11,c11,rfl,c⟩:=c.o_Term 8
 refine YH mix (rM 11 [(7,.eq (.pointer (some ep1))),(8,.eq (tV x5 a11 c11)),(10,Pd.nw c.wd 10 (fun i:Oh=>L i.1 [x4.1,x5,(D.Term.mk s1.p2 s1.p3 s1.p4 s1.p5 s1.q6)] i.2) (fun i=>sl62 (L i.1 [x4.1,x5,(D.Term.mk s1.p2 s1.p3 s1.p4 s1.p5 s1.q6)] i.2) [(tR x4.1 a10 c10),(tR x5 a11 c11),(Rw.Term.mk s1.p2 s1.p3 s1.p4 s1.p5 (hd i1.1 s1.q6 i1.2))]))] [(2,1),(3,6),(5,2),(9,5)] c (fun ow=>⟨ZG ow (Nie c 7),ZG ow (Nle c 7),Nlt c [(tR x4.1 a10 c10),(tR x5 a11 c11),(Rw.Term.mk s1.p2 s1.p3 s1.p4 s1.p5 (hd i1.1 s1.q6 i1.2))],tt⟩) fun ow _ _ hE hc cq=>?_)
 obtain ⟨i10,hi10⟩:=hE.nw 10 65
 replace c:=Cx.newt c hc cq [(10,65,_,_)] ⟨hi10,tt⟩
 replace c:=c.csl [(tR x4.1 a10 c10),(tR x5 a11 c11),(Rw.Term.mk s1.p2 s1.p3 s1.p4 s1.p5 (hd i1.1 s1.q6 i1.2))] [x4.1,x5,(D.Term.mk s1.p2 s1.p3 s1.p4 s1.p5 s1.q6)] ⟨(Ava.mk_Term x4.1 (.f 6)),(Ava.mk_Term x5 (.f 9)),(Ava.mk_Term (D.Term.mk s1.p2 s1.p3 s1.p4 s1.p5 s1.q6) (.f 5)),tt⟩
 replace c:=c.fzr 7 10
 refine Bd h fun x6 hx6 h=>Cf [0] c (Zo hx6) ⟨.f 11,tt⟩ call41 fun i11 _ _ c=>?_
 refine Ess 4 (tC x6.1 i11.1 i11.2) c fun _ c=>?_
 refine E1 (bk (tn (P1 [] c fun _ c=>Nx h (i11.1,i11.2) (c.rk [6,0,1,2,3,4] [0,1,2,3,4,12]))))
 refine K1 (bk (tn (P1 [] c fun _ c=>Nx h (i1.1,i1.2) (c.rk (rg 6) (rg 6)))))
 refine wp_exit (te (te (be ?_)))
 obtain rfl:=hr1 _ (sk h)
 exact tn ⟨(i1.1,i1.2),c.rk (rg 6) (rg 6)⟩
 refine T0 (Fp [(0,5)] 1 c fun _ c=>Ess 4 [I rl1.2.1,I rl1.p2,I rl1.p3,Str.val rl1.p4,L k1.1 rl1.q5 k1.2] c fun _ c=>?_)
 refine E0 ?_
 cases h
 exact wp_ret (Rg c (k1.1,k1.2) [0] [5] (.cell (α:=Agg 4) kk (.b 4) .nil))
theorem ZbS {p0 p1 p2 p3 p4 gb0 r} (h:YC n p0 p1 p2 p3 p4 = some r):Con prog 64 [B gb0 0,gV p1 ga1 gc2,pV p2 ga3 gc4 ga5 gc6 ga7 gc8 ga9 gc10 ga11 gc12 ga13 gc14,tV p3 ga15 gc16,tV p4 ga17 gc18] [BX gb0 68 [.bool p0.bad]] [lR ga1 p1.Code gc2,lR ga5 p2.Mem gc6,lR ga15 p3.Kids gc16,lR ga17 p4.Kids gc18] fun (i:Oh)=>([L i.1 r.1 i.2],[BX gb0 68 [.bool r.2.bad]],[lR i.1 r.1 i.2]):=by
 unfold YC at h
 refine En func64 rfl ntmps64 fun _ fr w c=>?_
 refine T0 (Ebx (gC p1 ga1 gc2) c fun b1 _ _ c=>?_)
 refine Ebx (pC p2 ga3 gc4 ga5 gc6 ga7 gc8 ga9 gc10 ga11 gc12 ga13 gc14) c fun b2 _ _ c=>?_
 refine Ebx (tC p3 ga15 gc16) c fun b3 _ _ c=>?_
 refine Ebx (tC p4 ga17 gc18) c fun b4 _ _ c=>?_
 refine Fp [] 1 c fun _ c=>E0 (T0 (Eltr 62 ([]:List Rw.Term) ([]:List D.Term) c tt fun a1 c1 _ _ c=>?_))
 refine Fp [(2,2)] 2 c fun _ c=>?_
 replace c:=c.ng
 refine Bd h fun x1 hx1 h=>Eapr 5 4 c (.f 1) hx1 fun rm1 a2 c2 _ _ c=>?_
 refine Fp [] 1 c fun _ c=>E0 (S0 (P0 [(1,3)] c fun _ c=>I0 c h (fun h=>?_) fun h=>?_))
 refine T0 (Fp [(2,3),(3,4)] 4 c fun _ c=>Bd h fun x2 hx2 h=>Esetr (q:=(tR p4 ga17 gc18)) 5 5 c ((Ava.mk_Term p4 (.f 3))) hx2 fun _ _ _ c=>?_)
 refine E0 (P0 [] c fun _ c=>?_)
 obtain ⟨he1,c⟩:=c.relenr 5 6
 replace c:=c.eqs (v:=L a2 x1 c2) (u:=L a2 x2 c2) 10 (by simp only [L,he1])
 replace c:=c.fzr 5 6
 cases h
 exact wp_ret (tr (Rt c (a2,c2) [0] [7]))
 refine K0 (S0 (P0 [] c fun _ c=>Bd h fun rl1 hit1 h=>Lp (fun s1  (i:List Rw.Term)=>([(0,B gb0 0),(6,B b1 0),(7,B b2 0),(8,B b3 0),(9,B b4 0),(11,L a2 x1 c2),(12,I s1.1)],fun Γ=>(Γ.set 0 (BX gb0 68 [.bool s1.2.1])).set 5 (sl62 (L a2 x1 c2) (i)),[CS (i) s1.q2])) (fun  (i:List Rw.Term)=>([(11,L a2 x1 c2)],fun Γ=>(Γ.set 0 (BX gb0 68 [.bool rl1.1])).set 5 (sl62 (L a2 x1 c2) (i)),[CS (i) rl1.2])) hit1 c ((([]:List Rw.Term) ++ rm1)) (c.rk (rg 6) [0,1,2,3,4,5,5]) (fun s1 q1 i1 _ _ c h hr1=>?_) fun k1 _ _ c=>?_))
 refine S0 (S0 (Ry [(2,1),(8,0)] mix c fun _ _ c=>I0 c h (fun h=>?_) fun h=>?_))
 refine K0 (S0 (wp_block (Bd h fun x3 hx3 h=>Bd h fun x4 hx4 h=>S0 (Jn (fun i:Nat × Oh=>([(0,B gb0 0),(6,B b1 0),(7,B b2 0),(8,B b3 0),(9,B b4 0),(11,L a2 x1 c2),(12,I s1.1),(13,B i.1 0)],fun Γ=>(Γ.set 0 (BX gb0 68 [.bool x4.2.bad])) ++ [BX i.1 62 (tC x4.1 i.2.1 i.q2)],[lR i.2.1 x4.1.Kids i.q2])) c ?_ fun i9 _ _ c=>?_))))
 refine As mix c fun _ c=>?_
 replace c:=Cx.frs [(0,B gb0 0),(6,B b1 0),(7,B b2 0),(8,B b3 0),(9,B b4 0),(11,L a2 x1 c2),(12,I s1.1)] c
 refine Dq (fun i:Nat × Oh=>([(0,B gb0 0),(6,B b1 0),(7,B b2 0),(8,B b3 0),(9,B b4 0),(11,L a2 x1 c2),(12,I s1.1),(13,B i.1 0)],fun Γ=>(Γ.set 0 (BX gb0 68 [.bool x4.2.bad])) ++ [BX i.1 62 (tC x4.1 i.2.1 i.q2)],[lR i.2.1 x4.1.Kids i.q2])) (bN 10 1023) (fun i=>[]) c (fun i8=>?_) fun hd8=>?_
 obtain ⟨b13,a9,c9⟩:=i8
 refine qnE tt fun _ _ c=>?_
 exact nN (b13,a9,c9) (c.rk (rg 7) (rg 8))
 refine Dq (fun i:Nat × Oh=>([(0,B gb0 0),(6,B b1 0),(7,B b2 0),(8,B b3 0),(9,B b4 0),(11,L a2 x1 c2),(12,I s1.1),(13,B i.1 0),(47,tV x4.1 i.2.1 i.q2)],fun Γ=>(Γ.set 0 (BX gb0 68 [.bool x4.2.bad])) ++ [BX i.1 62 tZ],[lR i.2.1 x4.1.Kids i.q2])) (bN 10 511) (fun i=>[]) c (fun i6=>?_) fun hd7=>?_
 obtain ⟨b12,a8,c8⟩:=i6
 refine qn [9] tt ⟨fun _ _ c=>?_,tt⟩
 refine Zf _ rfl rfl ?_
 refine Ess 6 (tC x4.1 a8 c8) c fun _ c=>?_
 refine E0 (nQ hd8 (b12,a8,c8) (c.rk (rg 7) (rg 8)))
 refine Dq (fun i:Oh=>([(0,B gb0 0),(6,B b1 0),(7,B b2 0),(8,B b3 0),(9,B b4 0),(11,L a2 x1 c2),(12,I s1.1),(47,tV x4.1 i.1 i.2)],fun Γ=>Γ.set 0 (BX gb0 68 [.bool x4.2.bad]),[lR i.1 x4.1.Kids i.2])) (bN 10 255) (fun i=>[]) c (fun i4=>?_) fun hd5=>?_
 obtain ⟨a5,c5⟩:=i4
 refine qn [8] tt ⟨fun _ _ c=>?_,tt⟩
 refine Zf _ rfl rfl ?_
 refine Eal tZ c fun b11 _ _ c=>?_
 refine E0 (nQ hd7 (b11,a5,c5) (c.rk (rg 7) (rg 8)))
 refine Dq (fun i:Nat × Ob (List Rw.Term)=>([(0,B gb0 0),(6,B b1 0),(7,B b2 0),(8,B b3 0),(9,B b4 0),(11,L a2 x1 c2),(12,I s1.1),(13,B i.1 0),(46,L i.2.1 [(t0 x3),p3] i.p2)],fun Γ=>Γ ++ [BX i.1 62 tZ,sl62 (L i.2.1 [(t0 x3),p3] i.p2) (i.q3)],[CS (i.q3) [(t0 x3),p3]])) (bN 10 382) (fun i=>[(0,40,B gb0 0)]) c (fun i5=>?_) fun hd6=>?_
 obtain ⟨b10,a6,c6,rs2⟩:=i5
 refine qn [7] ⟨qP [],tt⟩ ⟨fun _ _ c=>?_,tt⟩
 refine Zf _ rfl rfl ?_
 replace c:=c.fzr 7 7
 refine Cf [0] c (Zo hx4) ⟨.f 8,tt⟩ call41 fun i7 _ _ c=>?_
 refine E0 (nQ hd7 (b10,i7.1,i7.2) (c.rk [6,0,1,2,3,4,5] [0,1,2,3,4,5,6,9]))
 refine Dq (fun i:Ob (List Rw.Term)=>([(0,B gb0 0),(6,B b1 0),(7,B b2 0),(8,B b3 0),(9,B b4 0),(11,L a2 x1 c2),(12,I s1.1),(46,L i.1 [(t0 x3),p3] i.2.1)],fun Γ=>Γ ++ [sl62 (L i.1 [(t0 x3),p3] i.2.1) (i.q2)],[CS (i.q2) [(t0 x3),p3]])) (bN 10 126) (fun i=>[(0,40,B gb0 0)]) c (fun i2=>?_) fun hd3=>?_
 obtain ⟨a4,c4,rs1⟩:=i2
 refine qn [7,8] ⟨qP [],tt⟩ ⟨fun _ _ c=>?_,fun _ _ c=>?_,tt⟩
 refine Zf _ rfl rfl ?_
 replace c:=c.fzr 6 7
 refine Cf [0] c (Zo hx4) ⟨.f 8,tt⟩ call41 fun i3 _ _ c=>?_
 refine E0 (nQ hd5 (i3.1,i3.2) (c.rk [5,0,1,2,3,4] [0,1,2,3,4,5,6,9]))
 refine Zf _ rfl rfl ?_
 refine Eal tZ c fun b9 _ _ c=>?_
 refine E0 (nQ hd6 (b9,a4,c4,rs1) (c.rk [0,1,2,3,4,5,7,6] (rg 8)))
 refine Dq (fun i:Nat=>([(0,B gb0 0),(6,B b1 0),(7,B b2 0),(8,B b3 0),(9,B b4 0),(11,L a2 x1 c2),(12,I s1.1),(13,B i 0),(44,.agg #[I x3.Op,I x3.W,I x3.N,Str.val x3.Name,L0])],fun Γ=>Γ ++ [BX i 62 tZ],[])) (bN 10 286) (fun i=>[(0,40,B gb0 0),(5,45,tV p3 ga15 gc16)]) c (fun b8=>?_) fun hd4=>?_
 refine qn [6] ⟨qP [],qP [(0,3)],tt⟩ ⟨fun _ _ c=>?_,tt⟩
 refine Zf _ rfl rfl ?_
 refine Eltr 62 [(u0 x3),(tR p3 ga15 gc16)] [(t0 x3),p3] c ⟨(Ava.mk_Term (t0 x3) (.nil)),(Ava.mk_Term p3 (.f 2)),tt⟩ fun a7 c7 _ _ c=>?_
 refine E0 (nQ hd6 (b8,a7,c7,[(u0 x3),(tR p3 ga15 gc16)]) (c.rk (rg 8) (rg 8)))
 refine Dq (fun _:Unit=>([(0,B gb0 0),(6,B b1 0),(7,B b2 0),(8,B b3 0),(9,B b4 0),(11,L a2 x1 c2),(12,I s1.1),(44,.agg #[I x3.Op,I x3.W,I x3.N,Str.val x3.Name,L0])],id,[])) (bN 10 30) (fun _=>[(0,40,B gb0 0),(5,45,tV p3 ga15 gc16)]) c (fun _=>?_) fun hd1=>?_
 refine qn [6,8] ⟨qP [],qP [(0,3)],tt⟩ ⟨fun _ _ c=>?_,fun _ _ c=>?_,tt⟩
 refine Zf _ rfl rfl ?_
 refine Eltr 62 [(u0 x3),(tR p3 ga15 gc16)] [(t0 x3),p3] c ⟨(Ava.mk_Term (t0 x3) (.nil)),(Ava.mk_Term p3 (.f 2)),tt⟩ fun a3 c3 _ _ c=>?_
 refine E0 (nQ hd3 (a3,c3,[(u0 x3),(tR p3 ga15 gc16)]) (c.rk (rg 7) (rg 8)))
 refine Zf _ rfl rfl ?_
 refine Eal tZ c fun b7 _ _ c=>?_
 refine E0 (nQ hd4 (b7) (c.rk (rg 7) (rg 7)))
 refine Dq (fun i:Nat=>([(0,B gb0 0),(6,B b1 0),(7,B b2 0),(8,B b3 0),(9,B b4 0),(11,L a2 x1 c2),(12,I s1.1),(13,B i 0)],fun Γ=>Γ ++ [BX i 62 tZ],[])) (bN 10 256) (fun i=>[(0,40,B gb0 0),(1,41,B b1 0),(2,42,I p1.W),(3,43,I s1.1),(5,45,tV p3 ga15 gc16)]) c (fun b6=>?_) fun hd2=>?_
 refine qn [4] ⟨qP [],qP [],qP [(0,1)],qP [],qP [(0,3)],tt⟩ ⟨fun _ _ c=>?_,tt⟩
 refine Zf _ rfl rfl ?_
 refine Cb c (Z7 hx3) tt call35 fun _ _ _ c=>?_
 refine E0 (nQ hd4 (b6) (c.rk (rg 7) (rg 7)))
 refine q0 (qs:=[(0,40,B gb0 0),(1,41,B b1 0),(2,42,I p1.W),(3,43,I s1.1),(5,45,tV p3 ga15 gc16)]) c (qn [4,8] ⟨qP [],qP [],qP [(0,1)],qP [],qP [(0,3)],tt⟩ ⟨fun _ _ c=>?_,fun _ _ c=>?_,tt⟩)
 refine Zf _ rfl rfl ?_
 refine Cb c (Z7 hx3) tt call35 fun _ _ _ c=>?_
 refine E0 (nQ hd1 () (c.rk (rg 6) (rg 7)))
 refine Zf _ rfl rfl ?_
 refine Eal tZ c fun b5 _ _ c=>?_
 refine E0 (nQ hd2 (b5) (c.rk (rg 7) (rg 7)))
 obtain ⟨b14,a10,c10⟩:=i9
 refine P0 [(3,0)] c fun _ c=>I0 c h (fun h=>?_) fun h=>?_
 refine YH mix ?_
 refine Rh 2 ?_
 refine Rh 1 ?_
 refine Rh 0 ?_
 refine Bd h fun x5 hx5 h=>?_
 obtain ⟨ep1,u1,c⟩:=c.elp (.f 1) hx5
 obtain ⟨a11,c11,rfl,c⟩:=c.o_Term 9
 refine rM 13 [(10,.eq (.pointer (some ep1))),(11,.eq (tV x5 a11 c11)),(12,Pd.nw c.wd 12 (fun i:Oh=>L i.1 [x4.1,p4,x5] i.2) (fun i=>sl62 (L i.1 [x4.1,p4,x5] i.2) [(tR x4.1 a10 c10),(tR p4 ga17 gc18),(tR x5 a11 c11)]))] [(4,1),(5,5),(6,4),(8,2)] c (fun ow=>⟨ZG ow (Nie c 8),ZG ow (Nle c 8),Nlt c [(tR x4.1 a10 c10),(tR p4 ga17 gc18),(tR x5 a11 c11)],tt⟩) fun ow _ _ hE hc cq=>?_
 obtain ⟨i10,hi10⟩:=hE.nw 12 65
 replace c:=Cx.newt c hc cq [(12,65,_,_)] ⟨hi10,tt⟩
 replace c:=c.csl [(tR x4.1 a10 c10),(tR p4 ga17 gc18),(tR x5 a11 c11)] [x4.1,p4,x5] ⟨(Ava.mk_Term x4.1 (.f 7)),(Ava.mk_Term p4 (.f 3)),(Ava.mk_Term x5 (.f 10)),tt⟩
 replace c:=c.fzr 7 11
 refine Bd h fun x6 hx6 h=>Cf [0] c (Zo hx6) ⟨.f 12,tt⟩ call41 fun i11 _ _ c=>?_
 refine Bd h fun x7 hx7 h=>Esetr (q:=(tR x6.1 i11.1 i11.2)) 4 6 c ((Ava.mk_Term x6.1 (.f 13))) hx7 fun _ _ _ c=>?_
 refine E1 (bk (tn (P1 [] c fun _ c=>Nx h ((List.set i1 (s1.1).toNat (tR x6.1 i11.1 i11.2))) (c.rk [6,0,1,2,3,4] [0,1,2,3,4,5,14]))))
 refine K1 (bk (tn (P1 [] c fun _ c=>Nx h (i1) (c.rk (rg 6) (rg 7)))))
 refine wp_exit (te (te (be ?_)))
 obtain rfl:=hr1 _ (sk h)
 exact tn ⟨(i1),c.rk (rg 6) (rg 7)⟩
 refine P0 [] c fun _ c=>?_
 obtain ⟨he2,c⟩:=c.relenr 5 6
 replace c:=c.eqs (v:=L a2 x1 c2) (u:=L a2 rl1.2 c2) 10 (by simp only [L,he2])
 replace c:=c.fzr 5 6
 cases h
 exact wp_ret (Rt c (a2,c2) [0] [7])
theorem XH {p0 p1 p2 p3 gb0 r} (h:ZN n p0 p1 p2 p3 = some r):Con prog 39 [B gb0 0,gV p1 ga1 gc2,pV p2 ga3 gc4 ga5 gc6 ga7 gc8 ga9 gc10 ga11 gc12 ga13 gc14,nV p3] [BX gb0 68 [.bool p0.bad]] [lR ga1 p1.Code gc2,lR ga3 p2.Regs gc4,lR ga5 p2.Mem gc6,lR ga7 p2.Stack gc8,lR ga9 p2.Out gc10,lR ga11 p2.Cond gc12,lR ga13 p2.Turns gc14] fun (i:Hp)=>([pJ r.1 i],[BX gb0 68 [.bool r.2.bad]],(pF r.1 i)):=by
 unfold ZN at h
 refine En func39 rfl ntmps39 fun _ fr w c=>?_
 refine T0 (Ebx (gC p1 ga1 gc2) c fun b1 _ _ c=>?_)
 refine Ebx (pC p2 ga3 gc4 ga5 gc6 ga7 gc8 ga9 gc10 ga11 gc12 ga13 gc14) c fun b2 _ _ c=>?_
 refine Ebx (nC p3) c fun b3 _ _ c=>?_
 refine Eal pZ c fun b4 _ _ c=>?_
 refine E0 (T0 (Fp [(0,2)] 1 c fun _ c=>Bd h fun x1 hx1 h=>Cg c (Xo hx1) ⟨.f 1,.f 2,.f 3,.f 4,.f 5,.f 6,tt⟩ call36 fun i1 _ _ c=>?_))
 replace c:=c.ng
 refine Ess 2 (pC x1 i1.1 i1.2.1 i1.p3 i1.p4 i1.p6 i1.p7 i1.p8 i1.p9 i1.p11 i1.p12 i1.p14 i1.q15) c fun _ c=>?_
 refine E0 (P0 [] c fun _ c=>Bd h fun rl1 hit1 h=>?_)
 have hk1:=h
 refine S0 (Jr (fun s  (_:Unit)=>([(0,B gb0 0),(5,B b1 0),(6,B b2 0),(7,B b3 0),(8,B b4 0),(9,I s)],id,[])) hit1 c (fun h=>?_) fun s1r _ _ _ hrl c=>?_)
 refine wp_block (S0 (Ry [(1,3),(5,2),(7,1)] mix c fun _ _ c=>I0 c h (fun h=>?_) fun h=>?_))
 refine Tq (P1 [] c fun _ c=>bk (tn (⟨_,(),(sk h),c.rk (rg 11) (rg 11)⟩)))
 refine S0 (Ry [(1,3),(5,2)] mix c fun _ _ c=>I0 c h (fun h=>?_) fun h=>?_)
 refine Tq (P1 [] c fun _ c=>bk (tn (⟨_,(),(sk h),c.rk (rg 11) (rg 11)⟩)))
 refine S0 (S0 (Ry [(1,3),(5,2)] mix c fun _ _ c=>I0 c h (fun h=>?_) fun h=>?_))
 refine K0 (I0 c h (fun h=>?_) fun h=>?_)
 refine Tq (P1 [] c fun _ c=>bk (tn (⟨_,(),(sk h),c.rk (rg 11) (rg 11)⟩)))
 refine P0 [(1,3)] c fun _ c=>Tq (Mp (p3.Op == 14) [(9,I 1)] [(9,I 0)] [(9,I (cond (p3.Op == 14) 1 0))] [9] c fun _ c=>bk (tn (⟨_,(),(sk h),c.rk (rg 11) (rg 11)⟩)))
 refine Ry [(1,3),(5,2)] mix c fun _ _ c=>?_
 refine I0 c h (fun h=>?_) fun h=>?_
 refine Tq (P1 [] c fun _ c=>bk (tn (⟨_,(),(sk h),c.rk (rg 11) (rg 11)⟩)))
 refine P0 [(1,3)] c fun _ c=>Tq (Mp (p3.Op == 14) [(9,I 1)] [(9,I 0)] [(9,I (cond (p3.Op == 14) 1 0))] [9] c fun _ c=>bk (tn (⟨_,(),(sk h),c.rk (rg 11) (rg 11)⟩)))
 subst hrl
 try simp only [l3,l4,l5,l6] at c
 refine T0 (Fp [] 2 c fun _ c=>Esb 2 6 (I s1r) c fun _ c=>?_)
 refine E0 (S0 (P0 [] c fun _ c=>I0 c h (fun h=>?_) fun h=>?_))
 refine T0 (Fp [(0,2)] 1 c fun _ c=>?_)
 replace c:=c.nf
 refine Ess 4 [I x1.Pc,L i1.1 x1.Regs i1.2.1,L i1.p3 x1.Mem i1.p4,L i1.p6 x1.Stack i1.p7,I x1.In,L i1.p8 x1.Out i1.p9,I s1r,I x1.Steps,L i1.p11 x1.Cond i1.p12,L i1.p14 x1.Turns i1.q15] c fun _ c=>?_
 refine E0 ?_
 replace c:=c.fzr 5 7
 replace c:=c.fzr 5 8
 replace c:=c.fz 5
 replace c:=c.fzr 5 9
 replace c:=c.fzr 5 10
 replace c:=c.fz 5
 cases h
 exact wp_ret (tr (Rg c (i1.1,i1.2.1,i1.p3,i1.p4,i1.p6,i1.p7,i1.p8,i1.p9,i1.p11,i1.p12,i1.p14,i1.q15) [0] [11,12,13,14,15,16] (.cell (α:=Agg 9) kk (.b 4) .nil)))
 refine K0 (T0 (Fp [(1,2)] 4 c fun _ c=>?_))
 replace c:=c.nf
 refine Esb 2 0 (I (w64 (x1.Pc + 1))) c fun _ c=>?_
 refine E0 (S0 (P0 [(1,3)] c fun _ c=>?_))
 replace c:=c.fzr 6 8
 refine Bd h fun rl2 hit2 h=>?_
 have hk2:=h
 refine Jr (fun s  (i:Ob (List Rw.Term × List Rw.Term × Ob Oh))=>([(6,B b2 0),(8,B b4 0)],fun Γ=>((((Γ.set 0 (BX gb0 68 [.bool s.1])).set 2 (BX b2 29 [I s.2.1,L i1.1 x1.Regs i1.2.1,L i.1 s.p2 i.2.1,L i.p4 s.p5 i.p5,I s.p3,L i.p6 s.q6 i.q7,I s1r,I x1.Steps,L i1.p11 x1.Cond i1.p12,L i1.p14 x1.Turns i1.q15])).set 5 (sl62 (L i1.1 x1.Regs i1.2.1) (i.p2))).set 6 (sl3 (L i.p4 s.p5 i.p5) s.p5)).set 7 (sl62 (L i.p6 s.q6 i.q7) (i.p3)),[lR i.1 s.p2 i.2.1,CS (i.p2) s.p4,CS (i.p3) s.q6])) hit2 c (fun h=>?_) fun s2r k1 _ _ hrl c=>?_
 refine wp_block (P0 [] c fun _ c=>I0 c h (fun h=>?_) fun h=>?_)
 refine Bd h fun x2 hx2 h=>YH mix (rM 9 [(8,.eq (.agg #[I x2.Op,I x2.W,I x2.N,Str.val x2.Name,L0]))] [(1,2),(3,3),(5,1),(7,3)] c (fun ow=>⟨ZG ow (Ncl c (kN (Z7 hx2)) tt call35),tt⟩) fun _ _ _ _ _ c=>?_)
 refine Bd h fun x3 hx3 h=>Esetr (q:=(u0 x2)) 5 7 c ((Ava.mk_Term (t0 x2) (.nil))) hx3 fun _ _ _ c=>?_
 refine E1 (bk (tn (⟨_,(i1.p3,i1.p4,(List.set i1.p2 (p3.A).toNat (u0 x2)),i1.p10,i1.p6,i1.p7,i1.p8,i1.p9),(sk h),c.rk (rg 10) [0,1,2,3,4,5,6,7,8,9,10,11,11,12,9]⟩)))
 refine P0 [] c fun _ c=>I0 c h (fun h=>?_) fun h=>?_
 refine Bd h fun x4 hx4 h=>?_
 obtain ⟨ep1,u1,he1,c⟩:=c.elo 5 7 hx4
 obtain ⟨a1,c1,rfl,c⟩:=c.o_Term 12
 refine YH mix (rM 10 [(8,.eq (.pointer (some ep1))),(9,.eq (tV x4 a1 c1))] [(1,2),(3,3),(5,2),(7,3)] c (fun ow=>⟨ZG ow (NieW c he1),ZG ow (NleW c he1),tt⟩) fun _ _ _ _ _ c=>?_)
 refine Bd h fun x5 hx5 h=>Esetr (q:=(tR x4 a1 c1)) 5 7 c ((Ava.mk_Term x4 (.f 13))) hx5 fun _ _ _ c=>?_
 refine E1 (bk (tn (⟨_,(i1.p3,i1.p4,(List.set i1.p2 (p3.A).toNat (tR x4 a1 c1)),i1.p10,i1.p6,i1.p7,i1.p8,i1.p9),(sk h),c.rk (rg 10) [0,1,2,3,4,5,6,7,8,9,10,11,11,14,9]⟩)))
 refine P0 [] c fun _ c=>I0 c h (fun h=>?_) fun h=>?_
 refine Bd h fun x6 hx6 h=>?_
 obtain ⟨ep2,he2⟩:=c.epo 5 7 hx6
 refine Bd h fun x7 hx7 h=>?_
 obtain ⟨ep3,he3⟩:=c.epo 5 7 hx7
 refine Bd h fun x8 hx8 h=>Bd h fun x9 hx9 h=>Bd h fun x10 hx10 h=>Bd h fun x11 hx11 h=>S0 (Jn (fun i:Nat × Oh=>([(0,B gb0 0),(5,B b1 0),(6,B b2 0),(7,B b3 0),(8,B b4 0),(10,B i.1 0)],fun Γ=>(Γ.set 0 (BX gb0 68 [.bool x11.2.bad])) ++ [BX i.1 62 (tC x11.1 i.2.1 i.q2)],[lR i.2.1 x11.1.Kids i.q2])) c ?_ fun i23 _ _ c=>?_)
 refine As mix c fun _ c=>?_
 replace c:=Cx.frs [(0,B gb0 0),(5,B b1 0),(6,B b2 0),(7,B b3 0),(8,B b4 0)] c
 refine Dq (fun i:Nat × Oh=>([(0,B gb0 0),(5,B b1 0),(6,B b2 0),(7,B b3 0),(8,B b4 0),(10,B i.1 0)],fun Γ=>(Γ.set 0 (BX gb0 68 [.bool x11.2.bad])) ++ [BX i.1 62 (tC x11.1 i.2.1 i.q2)],[lR i.2.1 x11.1.Kids i.q2])) (bN 24 16777215) (fun i=>[]) c (fun i22=>?_) fun hd22=>?_
 obtain ⟨b27,a44,c44⟩:=i22
 refine qnE tt fun _ _ c=>?_
 exact nN (b27,a44,c44) (c.rk (rg 11) (rg 13))
 refine Dq (fun i:Nat × Oh=>([(0,B gb0 0),(5,B b1 0),(6,B b2 0),(7,B b3 0),(8,B b4 0),(10,B i.1 0),(117,tV x11.1 i.2.1 i.q2)],fun Γ=>(Γ.set 0 (BX gb0 68 [.bool x11.2.bad])) ++ [BX i.1 62 tZ],[lR i.2.1 x11.1.Kids i.q2])) (bN 24 8388607) (fun i=>[]) c (fun i20=>?_) fun hd21=>?_
 obtain ⟨b26,a43,c43⟩:=i20
 refine qn [23] tt ⟨fun _ _ c=>?_,tt⟩
 refine Zf _ rfl rfl ?_
 try simp only [l3,l4,l5,l6] at c
 refine Ess 10 (tC x11.1 a43 c43) c fun _ c=>?_
 refine E0 (nQ hd22 (b26,a43,c43) (c.rk (rg 11) (rg 13)))
 refine Dq (fun i:Oh=>([(0,B gb0 0),(5,B b1 0),(6,B b2 0),(7,B b3 0),(8,B b4 0),(117,tV x11.1 i.1 i.2)],fun Γ=>Γ.set 0 (BX gb0 68 [.bool x11.2.bad]),[lR i.1 x11.1.Kids i.2])) (bN 24 4194303) (fun i=>[]) c (fun i18=>?_) fun hd19=>?_
 obtain ⟨a40,c40⟩:=i18
 refine qn [22] tt ⟨fun _ _ c=>?_,tt⟩
 refine Zf _ rfl rfl ?_
 try simp only [l3,l4,l5,l6] at c
 refine Eal tZ c fun b25 _ _ c=>?_
 refine E0 (nQ hd21 (b25,a40,c40) (c.rk (rg 11) (rg 13)))
 refine Dq (fun i:Nat × Ob (List Rw.Term)=>([(0,B gb0 0),(5,B b1 0),(6,B b2 0),(7,B b3 0),(8,B b4 0),(10,B i.1 0),(103,I x8),(116,L i.2.1 [x9,x10] i.p2)],fun Γ=>Γ ++ [BX i.1 62 tZ,sl62 (L i.2.1 [x9,x10] i.p2) (i.q3)],[CS (i.q3) [x9,x10]])) (bN 24 6291448) (fun i=>[(0,96,B gb0 0),(1,97,B b3 3),(2,98,I p3.C)]) c (fun i19=>?_) fun hd20=>?_
 obtain ⟨b24,a41,c41,rs4⟩:=i19
 refine qn [21] ⟨qP [],qP [],qP [(0,3)],tt⟩ ⟨fun _ _ c=>?_,tt⟩
 refine Zf _ rfl rfl ?_
 try simp only [l3,l4,l5,l6] at c
 replace c:=c.fzr 11 12
 refine Cf [0] c (Zo hx11) ⟨.f 13,tt⟩ call41 fun i21 _ _ c=>?_
 refine E0 (nQ hd21 (b24,i21.1,i21.2) (c.rk [10,0,1,2,3,4,5,6,7,8,9] [0,1,2,3,4,5,6,7,8,9,10,11,14]))
 refine Dq (fun i:Ob (List Rw.Term)=>([(0,B gb0 0),(5,B b1 0),(6,B b2 0),(7,B b3 0),(8,B b4 0),(103,I x8),(116,L i.1 [x9,x10] i.2.1)],fun Γ=>Γ ++ [sl62 (L i.1 [x9,x10] i.2.1) (i.q2)],[CS (i.q2) [x9,x10]])) (bN 24 2097144) (fun i=>[(0,96,B gb0 0),(1,97,B b3 3),(2,98,I p3.C)]) c (fun i14=>?_) fun hd16=>?_
 obtain ⟨a33,c33,rs2⟩:=i14
 refine qn [21,22] ⟨qP [],qP [],qP [(0,3)],tt⟩ ⟨fun _ _ c=>?_,fun _ _ c=>?_,tt⟩
 refine Zf _ rfl rfl ?_
 try simp only [l3,l4,l5,l6] at c
 replace c:=c.fzr 10 12
 refine Cf [0] c (Zo hx11) ⟨.f 13,tt⟩ call41 fun i17 _ _ c=>?_
 refine E0 (nQ hd19 (i17.1,i17.2) (c.rk [9,0,1,2,3,4,5,6,7,8] [0,1,2,3,4,5,6,7,8,9,10,11,14]))
 refine Zf _ rfl rfl ?_
 try simp only [l3,l4,l5,l6] at c
 refine Eal tZ c fun b23 _ _ c=>?_
 refine E0 (nQ hd20 (b23,a33,c33,rs2) (c.rk [0,1,2,3,4,5,6,7,8,9,11,10] (rg 13)))
 refine Dq (fun i:Nat × Ob Oh=>([(0,B gb0 0),(5,B b1 0),(6,B b2 0),(7,B b3 0),(8,B b4 0),(10,B i.1 0),(103,I x8),(109,tV x9 i.2.1 i.p2),(115,tV x10 i.p3 i.q4)],fun Γ=>Γ ++ [BX i.1 62 tZ],[lR i.2.1 x9.Kids i.p2,lR i.p3 x10.Kids i.q4])) (bN 24 5242872) (fun i=>[(0,96,B gb0 0),(1,97,B b3 3),(2,98,I p3.C)]) c (fun i15=>?_) fun hd17=>?_
 obtain ⟨b20,a34,c34,a35,c35⟩:=i15
 refine qn [20] ⟨qP [],qP [],qP [(0,3)],tt⟩ ⟨fun _ _ c=>?_,tt⟩
 refine Zf _ rfl rfl ?_
 try simp only [l3,l4,l5,l6] at c
 refine Eltr 62 [(tR x9 a34 c34),(tR x10 a35 c35)] [x9,x10] c ⟨(Ava.mk_Term x9 (.f 12)),(Ava.mk_Term x10 (.f 13)),tt⟩ fun a42 c42 _ _ c=>?_
 refine E0 (nQ hd20 (b20,a42,c42,[(tR x9 a34 c34),(tR x10 a35 c35)]) (c.rk (rg 12) [0,1,2,3,4,5,6,7,8,9,10,11,14]))
 refine Dq (fun i:Nat × Ob (List Rw.Term)=>([(0,B gb0 0),(5,B b1 0),(6,B b2 0),(7,B b3 0),(8,B b4 0),(10,B i.1 0),(116,L i.2.1 [x9,x10] i.p2)],fun Γ=>Γ ++ [BX i.1 62 tZ,sl62 (L i.2.1 [x9,x10] i.p2) (i.q3)],[CS (i.q3) [x9,x10]])) (bN 24 6291200) (fun i=>[(0,96,B gb0 0),(1,97,B b3 3),(2,98,I p3.C),(3,99,B b3 3),(4,100,I p3.C),(5,101,B b1 0),(6,102,I p1.W)]) c (fun i16=>?_) fun hd18=>?_
 obtain ⟨b22,a38,c38,rs3⟩:=i16
 refine qn [7] ⟨qP [],qP [],qP [(0,3)],qP [],qP [(0,3)],qP [],qP [(0,1)],tt⟩ ⟨fun _ _ c=>?_,tt⟩
 refine Zf _ rfl rfl ?_
 try simp only [l3,l4,l5,l6] at c
 refine Cb c (ZT hx8) tt call61 fun _ _ _ c=>?_
 refine E0 (nQ hd20 (b22,a38,c38,rs3) (c.rk (rg 12) (rg 13)))
 refine Dq (fun i:Ob Oh=>([(0,B gb0 0),(5,B b1 0),(6,B b2 0),(7,B b3 0),(8,B b4 0),(103,I x8),(109,tV x9 i.1 i.2.1),(115,tV x10 i.p2 i.q3)],id,[lR i.1 x9.Kids i.2.1,lR i.p2 x10.Kids i.q3])) (bN 24 1048568) (fun i=>[(0,96,B gb0 0),(1,97,B b3 3),(2,98,I p3.C)]) c (fun i9=>?_) fun hd11=>?_
 obtain ⟨a19,c19,a20,c20⟩:=i9
 refine qn [20,22] ⟨qP [],qP [],qP [(0,3)],tt⟩ ⟨fun _ _ c=>?_,fun _ _ c=>?_,tt⟩
 refine Zf _ rfl rfl ?_
 try simp only [l3,l4,l5,l6] at c
 refine Eltr 62 [(tR x9 a19 c19),(tR x10 a20 c20)] [x9,x10] c ⟨(Ava.mk_Term x9 (.f 12)),(Ava.mk_Term x10 (.f 13)),tt⟩ fun a32 c32 _ _ c=>?_
 refine E0 (nQ hd16 (a32,c32,[(tR x9 a19 c19),(tR x10 a20 c20)]) (c.rk (rg 11) [0,1,2,3,4,5,6,7,8,9,10,11,14]))
 refine Zf _ rfl rfl ?_
 try simp only [l3,l4,l5,l6] at c
 refine Eal tZ c fun b19 _ _ c=>?_
 refine E0 (nQ hd17 (b19,a19,c19,a20,c20) (c.rk (rg 11) (rg 14)))
 refine Dq (fun i:Nat × Oh=>([(0,B gb0 0),(5,B b1 0),(6,B b2 0),(7,B b3 0),(8,B b4 0),(10,B i.1 0),(103,I x8),(109,tV x9 i.2.1 i.q2)],fun Γ=>Γ ++ [BX i.1 62 tZ],[lR i.2.1 x9.Kids i.q2])) (bN 24 4210680) (fun i=>[(0,96,B gb0 0),(1,97,B b3 3),(2,98,I p3.C),(14,110,B b2 1),(15,111,L i1.1 x1.Regs i1.2.1),(16,112,B b3 2),(17,113,I p3.B),(18,114,.pointer (some ep3))]) c (fun i10=>?_) fun hd12=>?_
 obtain ⟨b14,a21,c21⟩:=i10
 refine qn [19] ⟨qP [],qP [],qP [(0,3)],qP [],qP [(0,2)],qP [],qP [(0,3)],qIo he3,tt⟩ ⟨fun _ _ c=>?_,tt⟩
 refine Zf _ rfl rfl ?_
 try simp only [l3,l4,l5,l6] at c
 refine Eldo 5 7 c he3 hx10 fun u16 _ c=>?_
 obtain ⟨a36,c36,rfl,c⟩:=c.o_Term 13
 refine E0 (nQ hd17 (b14,a21,c21,a36,c36) (c.rk (rg 11) [0,1,2,3,4,5,6,7,8,9,10,11,12,14]))
 refine Dq (fun i:Nat × Oh=>([(0,B gb0 0),(5,B b1 0),(6,B b2 0),(7,B b3 0),(8,B b4 0),(10,B i.1 0),(103,I x8),(115,tV x10 i.2.1 i.q2)],fun Γ=>Γ ++ [BX i.1 62 tZ],[lR i.2.1 x10.Kids i.q2])) (bN 24 5226744) (fun i=>[(0,96,B gb0 0),(1,97,B b3 3),(2,98,I p3.C),(8,104,B b2 1),(9,105,L i1.1 x1.Regs i1.2.1),(10,106,B b3 1),(11,107,I p3.A),(12,108,.pointer (some ep2))]) c (fun i11=>?_) fun hd13=>?_
 obtain ⟨b16,a23,c23⟩:=i11
 refine qn [13] ⟨qP [],qP [],qP [(0,3)],qP [],qP [(0,2)],qP [],qP [(0,3)],qIo he2,tt⟩ ⟨fun _ _ c=>?_,tt⟩
 refine Zf _ rfl rfl ?_
 try simp only [l3,l4,l5,l6] at c
 refine Eldo 5 7 c he2 hx9 fun u17 _ c=>?_
 obtain ⟨a37,c37,rfl,c⟩:=c.o_Term 13
 refine E0 (nQ hd17 (b16,a37,c37,a23,c23) (c.rk (rg 11) [0,1,2,3,4,5,6,7,8,9,10,11,14,12]))
 refine Dq (fun i:Ob (List Rw.Term)=>([(0,B gb0 0),(5,B b1 0),(6,B b2 0),(7,B b3 0),(8,B b4 0),(116,L i.1 [x9,x10] i.2.1)],fun Γ=>Γ ++ [sl62 (L i.1 [x9,x10] i.2.1) (i.q2)],[CS (i.q2) [x9,x10]])) (bN 24 2096896) (fun i=>[(0,96,B gb0 0),(1,97,B b3 3),(2,98,I p3.C),(3,99,B b3 3),(4,100,I p3.C),(5,101,B b1 0),(6,102,I p1.W)]) c (fun i12=>?_) fun hd14=>?_
 obtain ⟨a27,c27,rs1⟩:=i12
 refine qn [7,22] ⟨qP [],qP [],qP [(0,3)],qP [],qP [(0,3)],qP [],qP [(0,1)],tt⟩ ⟨fun _ _ c=>?_,fun _ _ c=>?_,tt⟩
 refine Zf _ rfl rfl ?_
 try simp only [l3,l4,l5,l6] at c
 refine Cb c (ZT hx8) tt call61 fun _ _ _ c=>?_
 refine E0 (nQ hd16 (a27,c27,rs1) (c.rk (rg 11) (rg 13)))
 refine Zf _ rfl rfl ?_
 try simp only [l3,l4,l5,l6] at c
 refine Eal tZ c fun b21 _ _ c=>?_
 refine E0 (nQ hd18 (b21,a27,c27,rs1) (c.rk [0,1,2,3,4,5,6,7,8,9,11,10] (rg 13)))
 refine Dq (fun i:Nat × Ob Oh=>([(0,B gb0 0),(5,B b1 0),(6,B b2 0),(7,B b3 0),(8,B b4 0),(10,B i.1 0),(109,tV x9 i.2.1 i.p2),(115,tV x10 i.p3 i.q4)],fun Γ=>Γ ++ [BX i.1 62 tZ],[lR i.2.1 x9.Kids i.p2,lR i.p3 x10.Kids i.q4])) (bN 24 5242624) (fun i=>[(0,96,B gb0 0),(1,97,B b3 3),(2,98,I p3.C),(3,99,B b3 3),(4,100,I p3.C),(5,101,B b1 0),(6,102,I p1.W)]) c (fun i13=>?_) fun hd15=>?_
 obtain ⟨b18,a28,c28,a29,c29⟩:=i13
 refine qn [7,20] ⟨qP [],qP [],qP [(0,3)],qP [],qP [(0,3)],qP [],qP [(0,1)],tt⟩ ⟨fun _ _ c=>?_,fun _ _ c=>?_,tt⟩
 refine Zf _ rfl rfl ?_
 try simp only [l3,l4,l5,l6] at c
 refine Cb c (ZT hx8) tt call61 fun _ _ _ c=>?_
 refine E0 (nQ hd17 (b18,a28,c28,a29,c29) (c.rk (rg 11) (rg 14)))
 refine Zf _ rfl rfl ?_
 try simp only [l3,l4,l5,l6] at c
 refine Eltr 62 [(tR x9 a28 c28),(tR x10 a29 c29)] [x9,x10] c ⟨(Ava.mk_Term x9 (.f 12)),(Ava.mk_Term x10 (.f 13)),tt⟩ fun a39 c39 _ _ c=>?_
 refine E0 (nQ hd18 (b18,a39,c39,[(tR x9 a28 c28),(tR x10 a29 c29)]) (c.rk (rg 12) [0,1,2,3,4,5,6,7,8,9,10,11,14]))
 refine Dq (fun i:Oh=>([(0,B gb0 0),(5,B b1 0),(6,B b2 0),(7,B b3 0),(8,B b4 0),(103,I x8),(109,tV x9 i.1 i.2)],id,[lR i.1 x9.Kids i.2])) (bN 24 16376) (fun i=>[(0,96,B gb0 0),(1,97,B b3 3),(2,98,I p3.C),(14,110,B b2 1),(15,111,L i1.1 x1.Regs i1.2.1),(16,112,B b3 2),(17,113,I p3.B),(18,114,.pointer (some ep3))]) c (fun i4=>?_) fun hd5=>?_
 obtain ⟨a7,c7⟩:=i4
 refine qn [19,22] ⟨qP [],qP [],qP [(0,3)],qP [],qP [(0,2)],qP [],qP [(0,3)],qIo he3,tt⟩ ⟨fun _ _ c=>?_,fun _ _ c=>?_,tt⟩
 refine Zf _ rfl rfl ?_
 try simp only [l3,l4,l5,l6] at c
 refine Eldo 5 7 c he3 hx10 fun u10 _ c=>?_
 obtain ⟨a18,c18,rfl,c⟩:=c.o_Term 13
 refine E0 (nQ hd11 (a7,c7,a18,c18) (c.rk (rg 10) [0,1,2,3,4,5,6,7,8,9,10,11,12,14]))
 refine Zf _ rfl rfl ?_
 try simp only [l3,l4,l5,l6] at c
 refine Eal tZ c fun b13 _ _ c=>?_
 refine E0 (nQ hd12 (b13,a7,c7) (c.rk (rg 11) (rg 13)))
 refine Dq (fun i:Oh=>([(0,B gb0 0),(5,B b1 0),(6,B b2 0),(7,B b3 0),(8,B b4 0),(103,I x8),(115,tV x10 i.1 i.2)],id,[lR i.1 x10.Kids i.2])) (bN 24 1032440) (fun i=>[(0,96,B gb0 0),(1,97,B b3 3),(2,98,I p3.C),(8,104,B b2 1),(9,105,L i1.1 x1.Regs i1.2.1),(10,106,B b3 1),(11,107,I p3.A),(12,108,.pointer (some ep2))]) c (fun i5=>?_) fun hd6=>?_
 obtain ⟨a9,c9⟩:=i5
 refine qn [13,22] ⟨qP [],qP [],qP [(0,3)],qP [],qP [(0,2)],qP [],qP [(0,3)],qIo he2,tt⟩ ⟨fun _ _ c=>?_,fun _ _ c=>?_,tt⟩
 refine Zf _ rfl rfl ?_
 try simp only [l3,l4,l5,l6] at c
 refine Eldo 5 7 c he2 hx9 fun u11 _ c=>?_
 obtain ⟨a22,c22,rfl,c⟩:=c.o_Term 13
 refine E0 (nQ hd11 (a22,c22,a9,c9) (c.rk (rg 10) [0,1,2,3,4,5,6,7,8,9,10,11,14,12]))
 refine Zf _ rfl rfl ?_
 try simp only [l3,l4,l5,l6] at c
 refine Eal tZ c fun b15 _ _ c=>?_
 refine E0 (nQ hd13 (b15,a9,c9) (c.rk (rg 11) (rg 13)))
 refine Dq (fun i:Nat=>([(0,B gb0 0),(5,B b1 0),(6,B b2 0),(7,B b3 0),(8,B b4 0),(10,B i 0),(103,I x8)],fun Γ=>Γ ++ [BX i 62 tZ],[])) (bN 24 4194552) (fun i=>[(0,96,B gb0 0),(1,97,B b3 3),(2,98,I p3.C),(8,104,B b2 1),(9,105,L i1.1 x1.Regs i1.2.1),(10,106,B b3 1),(11,107,I p3.A),(12,108,.pointer (some ep2)),(14,110,B b2 1),(15,111,L i1.1 x1.Regs i1.2.1),(16,112,B b3 2),(17,113,I p3.B),(18,114,.pointer (some ep3))]) c (fun b8=>?_) fun hd7=>?_
 refine qn [13,19] ⟨qP [],qP [],qP [(0,3)],qP [],qP [(0,2)],qP [],qP [(0,3)],qIo he2,qP [],qP [(0,2)],qP [],qP [(0,3)],qIo he3,tt⟩ ⟨fun _ _ c=>?_,fun _ _ c=>?_,tt⟩
 refine Zf _ rfl rfl ?_
 try simp only [l3,l4,l5,l6] at c
 refine Eldo 5 7 c he2 hx9 fun u12 _ c=>?_
 obtain ⟨a24,c24,rfl,c⟩:=c.o_Term 12
 refine E0 (nQ hd12 (b8,a24,c24) (c.rk (rg 11) [0,1,2,3,4,5,6,7,8,9,10,11,13]))
 refine Zf _ rfl rfl ?_
 try simp only [l3,l4,l5,l6] at c
 refine Eldo 5 7 c he3 hx10 fun u13 _ c=>?_
 obtain ⟨a25,c25,rfl,c⟩:=c.o_Term 12
 refine E0 (nQ hd13 (b8,a25,c25) (c.rk (rg 11) [0,1,2,3,4,5,6,7,8,9,10,11,13]))
 refine Dq (fun i:Ob Oh=>([(0,B gb0 0),(5,B b1 0),(6,B b2 0),(7,B b3 0),(8,B b4 0),(109,tV x9 i.1 i.2.1),(115,tV x10 i.p2 i.q3)],id,[lR i.1 x9.Kids i.2.1,lR i.p2 x10.Kids i.q3])) (bN 24 1048320) (fun i=>[(0,96,B gb0 0),(1,97,B b3 3),(2,98,I p3.C),(3,99,B b3 3),(4,100,I p3.C),(5,101,B b1 0),(6,102,I p1.W)]) c (fun i6=>?_) fun hd8=>?_
 obtain ⟨a11,c11,a12,c12⟩:=i6
 refine qn [7,20,22] ⟨qP [],qP [],qP [(0,3)],qP [],qP [(0,3)],qP [],qP [(0,1)],tt⟩ ⟨fun _ _ c=>?_,fun _ _ c=>?_,fun _ _ c=>?_,tt⟩
 refine Zf _ rfl rfl ?_
 try simp only [l3,l4,l5,l6] at c
 refine Cb c (ZT hx8) tt call61 fun _ _ _ c=>?_
 refine E0 (nQ hd11 (a11,c11,a12,c12) (c.rk (rg 10) (rg 14)))
 refine Zf _ rfl rfl ?_
 try simp only [l3,l4,l5,l6] at c
 refine Eltr 62 [(tR x9 a11 c11),(tR x10 a12 c12)] [x9,x10] c ⟨(Ava.mk_Term x9 (.f 12)),(Ava.mk_Term x10 (.f 13)),tt⟩ fun a26 c26 _ _ c=>?_
 refine E0 (nQ hd14 (a26,c26,[(tR x9 a11 c11),(tR x10 a12 c12)]) (c.rk (rg 11) [0,1,2,3,4,5,6,7,8,9,10,11,14]))
 refine Zf _ rfl rfl ?_
 try simp only [l3,l4,l5,l6] at c
 refine Eal tZ c fun b17 _ _ c=>?_
 refine E0 (nQ hd15 (b17,a11,c11,a12,c12) (c.rk (rg 11) (rg 14)))
 refine Dq (fun i:Nat × Oh=>([(0,B gb0 0),(5,B b1 0),(6,B b2 0),(7,B b3 0),(8,B b4 0),(10,B i.1 0),(109,tV x9 i.2.1 i.q2)],fun Γ=>Γ ++ [BX i.1 62 tZ],[lR i.2.1 x9.Kids i.q2])) (bN 24 4210432) (fun i=>[(0,96,B gb0 0),(1,97,B b3 3),(2,98,I p3.C),(3,99,B b3 3),(4,100,I p3.C),(5,101,B b1 0),(6,102,I p1.W),(14,110,B b2 1),(15,111,L i1.1 x1.Regs i1.2.1),(16,112,B b3 2),(17,113,I p3.B),(18,114,.pointer (some ep3))]) c (fun i7=>?_) fun hd9=>?_
 obtain ⟨b10,a13,c13⟩:=i7
 refine qn [7,19] ⟨qP [],qP [],qP [(0,3)],qP [],qP [(0,3)],qP [],qP [(0,1)],qP [],qP [(0,2)],qP [],qP [(0,3)],qIo he3,tt⟩ ⟨fun _ _ c=>?_,fun _ _ c=>?_,tt⟩
 refine Zf _ rfl rfl ?_
 try simp only [l3,l4,l5,l6] at c
 refine Cb c (ZT hx8) tt call61 fun _ _ _ c=>?_
 refine E0 (nQ hd12 (b10,a13,c13) (c.rk (rg 11) (rg 13)))
 refine Zf _ rfl rfl ?_
 try simp only [l3,l4,l5,l6] at c
 refine Eldo 5 7 c he3 hx10 fun u14 _ c=>?_
 obtain ⟨a30,c30,rfl,c⟩:=c.o_Term 13
 refine E0 (nQ hd15 (b10,a13,c13,a30,c30) (c.rk (rg 11) [0,1,2,3,4,5,6,7,8,9,10,11,12,14]))
 refine Dq (fun i:Nat × Oh=>([(0,B gb0 0),(5,B b1 0),(6,B b2 0),(7,B b3 0),(8,B b4 0),(10,B i.1 0),(115,tV x10 i.2.1 i.q2)],fun Γ=>Γ ++ [BX i.1 62 tZ],[lR i.2.1 x10.Kids i.q2])) (bN 24 5226496) (fun i=>[(0,96,B gb0 0),(1,97,B b3 3),(2,98,I p3.C),(3,99,B b3 3),(4,100,I p3.C),(5,101,B b1 0),(6,102,I p1.W),(8,104,B b2 1),(9,105,L i1.1 x1.Regs i1.2.1),(10,106,B b3 1),(11,107,I p3.A),(12,108,.pointer (some ep2))]) c (fun i8=>?_) fun hd10=>?_
 obtain ⟨b12,a15,c15⟩:=i8
 refine qn [7,13] ⟨qP [],qP [],qP [(0,3)],qP [],qP [(0,3)],qP [],qP [(0,1)],qP [],qP [(0,2)],qP [],qP [(0,3)],qIo he2,tt⟩ ⟨fun _ _ c=>?_,fun _ _ c=>?_,tt⟩
 refine Zf _ rfl rfl ?_
 try simp only [l3,l4,l5,l6] at c
 refine Cb c (ZT hx8) tt call61 fun _ _ _ c=>?_
 refine E0 (nQ hd13 (b12,a15,c15) (c.rk (rg 11) (rg 13)))
 refine Zf _ rfl rfl ?_
 try simp only [l3,l4,l5,l6] at c
 refine Eldo 5 7 c he2 hx9 fun u15 _ c=>?_
 obtain ⟨a31,c31,rfl,c⟩:=c.o_Term 13
 refine E0 (nQ hd15 (b12,a31,c31,a15,c15) (c.rk (rg 11) [0,1,2,3,4,5,6,7,8,9,10,11,14,12]))
 refine Dq (fun _:Unit=>([(0,B gb0 0),(5,B b1 0),(6,B b2 0),(7,B b3 0),(8,B b4 0),(103,I x8)],id,[])) (bN 24 248) (fun _=>[(0,96,B gb0 0),(1,97,B b3 3),(2,98,I p3.C),(8,104,B b2 1),(9,105,L i1.1 x1.Regs i1.2.1),(10,106,B b3 1),(11,107,I p3.A),(12,108,.pointer (some ep2)),(14,110,B b2 1),(15,111,L i1.1 x1.Regs i1.2.1),(16,112,B b3 2),(17,113,I p3.B),(18,114,.pointer (some ep3))]) c (fun _=>?_) fun hd1=>?_
 refine qn [13,19,22] ⟨qP [],qP [],qP [(0,3)],qP [],qP [(0,2)],qP [],qP [(0,3)],qIo he2,qP [],qP [(0,2)],qP [],qP [(0,3)],qIo he3,tt⟩ ⟨fun _ _ c=>?_,fun _ _ c=>?_,fun _ _ c=>?_,tt⟩
 refine Zf _ rfl rfl ?_
 try simp only [l3,l4,l5,l6] at c
 refine Eldo 5 7 c he2 hx9 fun u4 _ c=>?_
 obtain ⟨a6,c6,rfl,c⟩:=c.o_Term 12
 refine E0 (nQ hd5 (a6,c6) (c.rk (rg 10) [0,1,2,3,4,5,6,7,8,9,10,11,13]))
 refine Zf _ rfl rfl ?_
 try simp only [l3,l4,l5,l6] at c
 refine Eldo 5 7 c he3 hx10 fun u5 _ c=>?_
 obtain ⟨a8,c8,rfl,c⟩:=c.o_Term 12
 refine E0 (nQ hd6 (a8,c8) (c.rk (rg 10) [0,1,2,3,4,5,6,7,8,9,10,11,13]))
 refine Zf _ rfl rfl ?_
 try simp only [l3,l4,l5,l6] at c
 refine Eal tZ c fun b7 _ _ c=>?_
 refine E0 (nQ hd7 (b7) (c.rk (rg 11) (rg 12)))
 refine Dq (fun i:Oh=>([(0,B gb0 0),(5,B b1 0),(6,B b2 0),(7,B b3 0),(8,B b4 0),(109,tV x9 i.1 i.2)],id,[lR i.1 x9.Kids i.2])) (bN 24 16128) (fun i=>[(0,96,B gb0 0),(1,97,B b3 3),(2,98,I p3.C),(3,99,B b3 3),(4,100,I p3.C),(5,101,B b1 0),(6,102,I p1.W),(14,110,B b2 1),(15,111,L i1.1 x1.Regs i1.2.1),(16,112,B b3 2),(17,113,I p3.B),(18,114,.pointer (some ep3))]) c (fun i2=>?_) fun hd2=>?_
 obtain ⟨a3,c3⟩:=i2
 refine qn [7,19,22] ⟨qP [],qP [],qP [(0,3)],qP [],qP [(0,3)],qP [],qP [(0,1)],qP [],qP [(0,2)],qP [],qP [(0,3)],qIo he3,tt⟩ ⟨fun _ _ c=>?_,fun _ _ c=>?_,fun _ _ c=>?_,tt⟩
 refine Zf _ rfl rfl ?_
 try simp only [l3,l4,l5,l6] at c
 refine Cb c (ZT hx8) tt call61 fun _ _ _ c=>?_
 refine E0 (nQ hd5 (a3,c3) (c.rk (rg 10) (rg 13)))
 refine Zf _ rfl rfl ?_
 try simp only [l3,l4,l5,l6] at c
 refine Eldo 5 7 c he3 hx10 fun u6 _ c=>?_
 obtain ⟨a10,c10,rfl,c⟩:=c.o_Term 13
 refine E0 (nQ hd8 (a3,c3,a10,c10) (c.rk (rg 10) [0,1,2,3,4,5,6,7,8,9,10,11,12,14]))
 refine Zf _ rfl rfl ?_
 try simp only [l3,l4,l5,l6] at c
 refine Eal tZ c fun b9 _ _ c=>?_
 refine E0 (nQ hd9 (b9,a3,c3) (c.rk (rg 11) (rg 13)))
 refine Dq (fun i:Oh=>([(0,B gb0 0),(5,B b1 0),(6,B b2 0),(7,B b3 0),(8,B b4 0),(115,tV x10 i.1 i.2)],id,[lR i.1 x10.Kids i.2])) (bN 24 1032192) (fun i=>[(0,96,B gb0 0),(1,97,B b3 3),(2,98,I p3.C),(3,99,B b3 3),(4,100,I p3.C),(5,101,B b1 0),(6,102,I p1.W),(8,104,B b2 1),(9,105,L i1.1 x1.Regs i1.2.1),(10,106,B b3 1),(11,107,I p3.A),(12,108,.pointer (some ep2))]) c (fun i3=>?_) fun hd3=>?_
 obtain ⟨a5,c5⟩:=i3
 refine qn [7,13,22] ⟨qP [],qP [],qP [(0,3)],qP [],qP [(0,3)],qP [],qP [(0,1)],qP [],qP [(0,2)],qP [],qP [(0,3)],qIo he2,tt⟩ ⟨fun _ _ c=>?_,fun _ _ c=>?_,fun _ _ c=>?_,tt⟩
 refine Zf _ rfl rfl ?_
 try simp only [l3,l4,l5,l6] at c
 refine Cb c (ZT hx8) tt call61 fun _ _ _ c=>?_
 refine E0 (nQ hd6 (a5,c5) (c.rk (rg 10) (rg 13)))
 refine Zf _ rfl rfl ?_
 try simp only [l3,l4,l5,l6] at c
 refine Eldo 5 7 c he2 hx9 fun u7 _ c=>?_
 obtain ⟨a14,c14,rfl,c⟩:=c.o_Term 13
 refine E0 (nQ hd8 (a14,c14,a5,c5) (c.rk (rg 10) [0,1,2,3,4,5,6,7,8,9,10,11,14,12]))
 refine Zf _ rfl rfl ?_
 try simp only [l3,l4,l5,l6] at c
 refine Eal tZ c fun b11 _ _ c=>?_
 refine E0 (nQ hd10 (b11,a5,c5) (c.rk (rg 11) (rg 13)))
 refine Dq (fun i:Nat=>([(0,B gb0 0),(5,B b1 0),(6,B b2 0),(7,B b3 0),(8,B b4 0),(10,B i 0)],fun Γ=>Γ ++ [BX i 62 tZ],[])) (bN 24 4194304) (fun i=>[(0,96,B gb0 0),(1,97,B b3 3),(2,98,I p3.C),(3,99,B b3 3),(4,100,I p3.C),(5,101,B b1 0),(6,102,I p1.W),(8,104,B b2 1),(9,105,L i1.1 x1.Regs i1.2.1),(10,106,B b3 1),(11,107,I p3.A),(12,108,.pointer (some ep2)),(14,110,B b2 1),(15,111,L i1.1 x1.Regs i1.2.1),(16,112,B b3 2),(17,113,I p3.B),(18,114,.pointer (some ep3))]) c (fun b6=>?_) fun hd4=>?_
 refine qn [7,13,19] ⟨qP [],qP [],qP [(0,3)],qP [],qP [(0,3)],qP [],qP [(0,1)],qP [],qP [(0,2)],qP [],qP [(0,3)],qIo he2,qP [],qP [(0,2)],qP [],qP [(0,3)],qIo he3,tt⟩ ⟨fun _ _ c=>?_,fun _ _ c=>?_,fun _ _ c=>?_,tt⟩
 refine Zf _ rfl rfl ?_
 try simp only [l3,l4,l5,l6] at c
 refine Cb c (ZT hx8) tt call61 fun _ _ _ c=>?_
 refine E0 (nQ hd7 (b6) (c.rk (rg 11) (rg 12)))
 refine Zf _ rfl rfl ?_
 try simp only [l3,l4,l5,l6] at c
 refine Eldo 5 7 c he2 hx9 fun u8 _ c=>?_
 obtain ⟨a16,c16,rfl,c⟩:=c.o_Term 12
 refine E0 (nQ hd9 (b6,a16,c16) (c.rk (rg 11) [0,1,2,3,4,5,6,7,8,9,10,11,13]))
 refine Zf _ rfl rfl ?_
 try simp only [l3,l4,l5,l6] at c
 refine Eldo 5 7 c he3 hx10 fun u9 _ c=>?_
 obtain ⟨a17,c17,rfl,c⟩:=c.o_Term 12
 refine E0 (nQ hd10 (b6,a17,c17) (c.rk (rg 11) [0,1,2,3,4,5,6,7,8,9,10,11,13]))
 refine q0 (qs:=[(0,96,B gb0 0),(1,97,B b3 3),(2,98,I p3.C),(3,99,B b3 3),(4,100,I p3.C),(5,101,B b1 0),(6,102,I p1.W),(8,104,B b2 1),(9,105,L i1.1 x1.Regs i1.2.1),(10,106,B b3 1),(11,107,I p3.A),(12,108,.pointer (some ep2)),(14,110,B b2 1),(15,111,L i1.1 x1.Regs i1.2.1),(16,112,B b3 2),(17,113,I p3.B),(18,114,.pointer (some ep3))]) c (qn [7,13,19,22] ⟨qP [],qP [],qP [(0,3)],qP [],qP [(0,3)],qP [],qP [(0,1)],qP [],qP [(0,2)],qP [],qP [(0,3)],qIo he2,qP [],qP [(0,2)],qP [],qP [(0,3)],qIo he3,tt⟩ ⟨fun _ _ c=>?_,fun _ _ c=>?_,fun _ _ c=>?_,fun _ _ c=>?_,tt⟩)
 refine Zf _ rfl rfl ?_
 try simp only [l3,l4,l5,l6] at c
 refine Cb c (ZT hx8) tt call61 fun _ _ _ c=>?_
 refine E0 (nQ hd1 () (c.rk (rg 10) (rg 12)))
 refine Zf _ rfl rfl ?_
 try simp only [l3,l4,l5,l6] at c
 refine Eldo 5 7 c he2 hx9 fun u2 _ c=>?_
 obtain ⟨a2,c2,rfl,c⟩:=c.o_Term 12
 refine E0 (nQ hd2 (a2,c2) (c.rk (rg 10) [0,1,2,3,4,5,6,7,8,9,10,11,13]))
 refine Zf _ rfl rfl ?_
 try simp only [l3,l4,l5,l6] at c
 refine Eldo 5 7 c he3 hx10 fun u3 _ c=>?_
 obtain ⟨a4,c4,rfl,c⟩:=c.o_Term 12
 refine E0 (nQ hd3 (a4,c4) (c.rk (rg 10) [0,1,2,3,4,5,6,7,8,9,10,11,13]))
 refine Zf _ rfl rfl ?_
 try simp only [l3,l4,l5,l6] at c
 refine Eal tZ c fun b5 _ _ c=>?_
 refine E0 (nQ hd4 (b5) (c.rk (rg 11) (rg 12)))
 obtain ⟨b28,a45,c45⟩:=i23
 refine S0 (S0 (Ry [(1,3),(7,0)] mix c fun _ _ c=>I0 c h (fun h=>?_) fun h=>?_))
 refine T1 (Fp [(2,1),(3,5)] 4 c fun _ c=>Eltr 62 [(tR x11.1 a45 c45)] [x11.1] c ⟨(Ava.mk_Term x11.1 (.f 12)),tt⟩ fun a46 c46 _ _ c=>?_)
 replace c:=c.fzr 11 13
 refine Bd h fun x12 hx12 h=>Cf [0] c (Zo hx12) ⟨.f 14,tt⟩ call41 fun i24 _ _ c=>?_
 replace c:=c.nf
 refine Ess 9 (tC x12.1 i24.1 i24.2) c fun _ c=>?_
 refine E0 (T1 (Fp [(1,1),(3,2),(4,4)] 5 c fun _ c=>Bd h fun x13 hx13 h=>Esetr (q:=(tR x12.1 i24.1 i24.2)) 4 7 c ((Ava.mk_Term x12.1 (.f 15))) hx13 fun _ _ _ c=>?_))
 refine E1 (bk (tn (⟨_,(i1.p3,i1.p4,(List.set i1.p2 (p3.A).toNat (tR x12.1 i24.1 i24.2)),i1.p10,i1.p6,i1.p7,i1.p8,i1.p9),(sk h),c.rk [10,0,1,2,3,4,5,6,7,8] [0,1,2,3,4,5,6,7,8,9,10,11,11,16,9]⟩)))
 refine K0 (T1 (Fp [(1,2),(3,3),(4,5)] 5 c fun _ c=>Bd h fun x14 hx14 h=>Esetr (q:=(tR x11.1 a45 c45)) 5 7 c ((Ava.mk_Term x11.1 (.f 12))) hx14 fun _ _ _ c=>?_))
 refine E1 (bk (tn (⟨_,(i1.p3,i1.p4,(List.set i1.p2 (p3.A).toNat (tR x11.1 a45 c45)),i1.p10,i1.p6,i1.p7,i1.p8,i1.p9),(sk h),c.rk (rg 10) [0,1,2,3,4,5,6,7,8,9,10,11,11,13,9]⟩)))
 refine P0 [] c fun _ c=>I0 c h (fun h=>?_) fun h=>?_
 refine Bd h fun x15 hx15 h=>?_
 obtain ⟨ep4,he4⟩:=c.epo 5 7 hx15
 refine Bd h fun x16 hx16 h=>?_
 obtain ⟨ep5,he5⟩:=c.epo 5 7 hx16
 refine Bd h fun x17 hx17 h=>Bd h fun x18 hx18 h=>Bd h fun x19 hx19 h=>Tq (Jn (fun i:List Rw.Term=>([(6,B b2 0),(8,B b4 0)],fun Γ=>(Γ.set 0 (BX gb0 68 [.bool x18.2.bad])).set 5 (sl62 (L i1.1 x1.Regs i1.2.1) (i)),[CS (i) x19])) c ?_ fun rs7 _ _ c=>?_)
 refine As mix c fun _ c=>?_
 replace c:=Cx.frs [(0,B gb0 0),(5,B b1 0),(6,B b2 0),(7,B b3 0),(8,B b4 0)] c
 refine Dq (fun i:List Rw.Term=>([(6,B b2 0),(8,B b4 0)],fun Γ=>(Γ.set 0 (BX gb0 68 [.bool x18.2.bad])).set 5 (sl62 (L i1.1 x1.Regs i1.2.1) (i)),[CS (i) x19])) (bN 17 131071) (fun i=>[]) c (fun rs6=>?_) fun hd26=>?_
 refine qnE tt fun _ _ c=>?_
 exact nN (rs6) (c.rk (rg 10) (rg 13))
 refine Dq (fun i:Oh=>([(6,B b2 0),(7,B b3 0),(8,B b4 0),(156,tV x18.1 i.1 i.2)],fun Γ=>Γ.set 0 (BX gb0 68 [.bool x18.2.bad]),[lR i.1 x18.1.Kids i.2])) (bN 17 32752) (fun i=>[(0,142,B b2 1),(1,143,L i1.1 x1.Regs i1.2.1),(2,144,B b3 1),(3,145,I p3.A),(15,157,.pointer (some ep5))]) c (fun i28=>?_) fun hd25=>?_
 obtain ⟨a51,c51⟩:=i28
 refine qn [16] ⟨qP [],qP [(0,2)],qP [],qP [(0,3)],qIo he5,tt⟩ ⟨fun _ _ c=>?_,tt⟩
 refine Zf _ rfl rfl ?_
 try simp only [l3,l4,l5,l6] at c
 refine Esetp (q:=(tR x18.1 a51 c51)) 5 7 c he5 ((Ava.mk_Term x18.1 (.f 12))) hx19 fun _ _ c=>?_
 refine E0 (nQ hd26 ((List.set i1.p2 (p3.A).toNat (tR x18.1 a51 c51))) (c.rk (rg 10) [0,1,2,3,4,5,6,7,8,9,10,11,13]))
 refine Dq (fun i:Ob (List Rw.Term)=>([(0,B gb0 0),(5,B b1 0),(6,B b2 0),(7,B b3 0),(8,B b4 0),(155,L i.1 [x17] i.2.1)],fun Γ=>Γ ++ [sl62 (L i.1 [x17] i.2.1) (i.q2)],[CS (i.q2) [x17]])) (bN 17 16256) (fun i=>[(0,142,B b2 1),(1,143,L i1.1 x1.Regs i1.2.1),(2,144,B b3 1),(3,145,I p3.A),(4,146,B gb0 0),(5,147,B b1 0),(6,148,I p1.W)]) c (fun i26=>?_) fun hd24=>?_
 obtain ⟨a50,c50,rs5⟩:=i26
 refine qn [14] ⟨qP [],qP [(0,2)],qP [],qP [(0,3)],qP [],qP [],qP [(0,1)],tt⟩ ⟨fun _ _ c=>?_,tt⟩
 refine Zf _ rfl rfl ?_
 try simp only [l3,l4,l5,l6] at c
 replace c:=c.fzr 10 12
 refine Cf [0] c (Zo hx18) ⟨.f 13,tt⟩ call41 fun i27 _ _ c=>?_
 refine E0 (nQ hd25 (i27.1,i27.2) (c.rk [9,0,1,2,3,4,5,6,7,8] [0,1,2,3,4,5,6,7,8,9,10,11,14]))
 refine Dq (fun i:Oh=>([(0,B gb0 0),(5,B b1 0),(6,B b2 0),(7,B b3 0),(8,B b4 0),(154,tV x17 i.1 i.2)],id,[lR i.1 x17.Kids i.2])) (bN 17 8064) (fun i=>[(0,142,B b2 1),(1,143,L i1.1 x1.Regs i1.2.1),(2,144,B b3 1),(3,145,I p3.A),(4,146,B gb0 0),(5,147,B b1 0),(6,148,I p1.W)]) c (fun i25=>?_) fun hd23=>?_
 obtain ⟨a48,c48⟩:=i25
 refine qn [13] ⟨qP [],qP [(0,2)],qP [],qP [(0,3)],qP [],qP [],qP [(0,1)],tt⟩ ⟨fun _ _ c=>?_,tt⟩
 refine Zf _ rfl rfl ?_
 try simp only [l3,l4,l5,l6] at c
 refine Eltr 62 [(tR x17 a48 c48)] [x17] c ⟨(Ava.mk_Term x17 (.f 12)),tt⟩ fun a49 c49 _ _ c=>?_
 refine E0 (nQ hd24 (a49,c49,[(tR x17 a48 c48)]) (c.rk (rg 11) [0,1,2,3,4,5,6,7,8,9,10,11,13]))
 refine q0 (qs:=[(0,142,B b2 1),(1,143,L i1.1 x1.Regs i1.2.1),(2,144,B b3 1),(3,145,I p3.A),(4,146,B gb0 0),(5,147,B b1 0),(6,148,I p1.W),(7,149,B b2 1),(8,150,L i1.1 x1.Regs i1.2.1),(9,151,B b3 1),(10,152,I p3.A),(11,153,.pointer (some ep4))]) c (qn [12] ⟨qP [],qP [(0,2)],qP [],qP [(0,3)],qP [],qP [],qP [(0,1)],qP [],qP [(0,2)],qP [],qP [(0,3)],qIo he4,tt⟩ ⟨fun _ _ c=>?_,tt⟩)
 refine Zf _ rfl rfl ?_
 try simp only [l3,l4,l5,l6] at c
 refine Eldo 5 7 c he4 hx17 fun u18 _ c=>?_
 obtain ⟨a47,c47,rfl,c⟩:=c.o_Term 12
 refine E0 (nQ hd23 (a47,c47) (c.rk (rg 10) [0,1,2,3,4,5,6,7,8,9,10,11,13]))
 refine bk (tn (⟨_,(i1.p3,i1.p4,rs7,i1.p10,i1.p6,i1.p7,i1.p8,i1.p9),(sk h),c.rk (rg 10) [0,1,2,3,4,5,6,7,8,9,10,11,11,12,9]⟩))
 refine P0 [] c fun _ c=>I0 c h (fun h=>?_) fun h=>?_
 refine Bd h fun x20 hx20 h=>S0 (YH mix (rM 8 [(7,.eq (.agg #[I x20.Op,I x20.W,I x20.N,Str.val x20.Name,L0]))] [(1,2),(3,3),(4,1),(6,2)] c (fun ow=>⟨ZG ow (Ncl c (kN (Zeg hx20)) ⟨.f 0,tt⟩ call62),tt⟩) fun _ _ _ _ _ c=>Bd h fun x21 hx21 h=>Esetr (q:=(u0 x20)) 5 7 c ((Ava.mk_Term (t0 x20) (.nil))) hx21 fun _ _ _ c=>?_))
 refine E0 (T1 (Fp [(1,2)] 4 c fun _ c=>?_))
 replace c:=c.nf
 refine Esb 2 4 (I (w64 (x1.In + 1))) c fun _ c=>?_
 refine E1 (bk (tn (⟨_,(i1.p3,i1.p4,(List.set i1.p2 (p3.A).toNat (u0 x20)),i1.p10,i1.p6,i1.p7,i1.p8,i1.p9),(sk h),c.rk (rg 10) [0,1,2,3,4,5,6,7,8,9,10,11,11,12,9]⟩)))
 refine P0 [] c fun _ c=>I0 c h (fun h=>?_) fun h=>?_
 refine Bd h fun x22 hx22 h=>?_
 obtain ⟨ep6,u19,he6,c⟩:=c.elo 5 7 hx22
 obtain ⟨a52,c52,rfl,c⟩:=c.o_Term 12
 refine YH mix (rM 9 [(6,.eq (.pointer (some ep6))),(7,.eq (tV x22 a52 c52)),(8,Pd.nw c.wd 8 (fun i:Oh=>L i.1 [x22] i.2) (fun i=>sl62 (L i.1 [x22] i.2) [(tR x22 a52 c52)]))] [(1,2),(3,2),(5,3)] c (fun ow=>⟨ZG ow (NieW c he6),ZG ow (NleW c he6),Nlt c [(tR x22 a52 c52)],tt⟩) fun ow _ _ hE hc cq=>?_)
 obtain ⟨i29,hi29⟩:=hE.nw 8 183
 replace c:=Cx.newt c hc cq [(8,183,_,_)] ⟨hi29,tt⟩
 replace c:=c.csl [(tR x22 a52 c52)] [x22] ⟨(Ava.mk_Term x22 (.f 13)),tt⟩
 replace c:=c.fzr 10 14
 refine Bd h fun x23 hx23 h=>Eapr 7 9 c (.f 15) hx23 fun rm1 a53 c53 _ _ c=>?_
 refine Fp [] 1 c fun _ c=>?_
 replace c:=c.nf
 refine Esb 2 5 (L a53 x23 c53) c fun _ c=>?_
 refine E1 (bk (tn (⟨_,(i1.p3,i1.p4,i1.p2,(i1.p10 ++ rm1),i1.p6,i1.p7,a53,c53),(sk h),c.rk (rg 10) [0,1,2,3,4,5,6,7,8,9,10,11,11,7,16]⟩)))
 refine P0 [] c fun _ c=>I0 c h (fun h=>?_) fun h=>?_
 refine Bd h fun x24 hx24 h=>?_
 obtain ⟨ep7,he7⟩:=c.epo 5 7 hx24
 refine Bd h fun x25 hx25 h=>?_
 obtain ⟨ep8,he8⟩:=c.epo 5 7 hx25
 refine Bd h fun x26 hx26 h=>Bd h fun x27 hx27 h=>Bd h fun x28 hx28 h=>Tq (Jn (fun i:List Rw.Term=>([(6,B b2 0),(8,B b4 0)],fun Γ=>(Γ.set 0 (BX gb0 68 [.bool x27.2.bad])).set 5 (sl62 (L i1.1 x1.Regs i1.2.1) (i)),[CS (i) x28])) c ?_ fun rs9 _ _ c=>?_)
 refine As mix c fun _ c=>?_
 replace c:=Cx.frs [(0,B gb0 0),(5,B b1 0),(6,B b2 0),(7,B b3 0),(8,B b4 0)] c
 refine Dq (fun i:List Rw.Term=>([(6,B b2 0),(8,B b4 0)],fun Γ=>(Γ.set 0 (BX gb0 68 [.bool x27.2.bad])).set 5 (sl62 (L i1.1 x1.Regs i1.2.1) (i)),[CS (i) x28])) (bN 16 65535) (fun i=>[]) c (fun rs8=>?_) fun hd29=>?_
 refine qnE tt fun _ _ c=>?_
 exact nN (rs8) (c.rk (rg 10) (rg 13))
 refine Dq (fun i:Oh=>([(6,B b2 0),(7,B b3 0),(8,B b4 0),(201,tV x27.1 i.1 i.2)],fun Γ=>Γ.set 0 (BX gb0 68 [.bool x27.2.bad]),[lR i.1 x27.1.Kids i.2])) (bN 16 16368) (fun i=>[(0,188,B b2 1),(1,189,L i1.1 x1.Regs i1.2.1),(2,190,B b3 1),(3,191,I p3.A),(14,202,.pointer (some ep8))]) c (fun i32=>?_) fun hd28=>?_
 obtain ⟨a56,c56⟩:=i32
 refine qn [15] ⟨qP [],qP [(0,2)],qP [],qP [(0,3)],qIo he8,tt⟩ ⟨fun _ _ c=>?_,tt⟩
 refine Zf _ rfl rfl ?_
 try simp only [l3,l4,l5,l6] at c
 refine Esetp (q:=(tR x27.1 a56 c56)) 5 7 c he8 ((Ava.mk_Term x27.1 (.f 12))) hx28 fun _ _ c=>?_
 refine E0 (nQ hd29 ((List.set i1.p2 (p3.A).toNat (tR x27.1 a56 c56))) (c.rk (rg 10) [0,1,2,3,4,5,6,7,8,9,10,11,13]))
 refine Dq (fun i:Oh=>([(0,B gb0 0),(5,B b1 0),(6,B b2 0),(7,B b3 0),(8,B b4 0),(200,tV x26 i.1 i.2)],id,[lR i.1 x26.Kids i.2])) (bN 16 8064) (fun i=>[(0,188,B b2 1),(1,189,L i1.1 x1.Regs i1.2.1),(2,190,B b3 1),(3,191,I p3.A),(4,192,B gb0 0),(5,193,gV p1 ga1 gc2),(6,194,.agg #[I (w64 (x1.Pc + 1)),L i1.1 x1.Regs i1.2.1,L i1.p3 x1.Mem i1.p4,L i1.p6 x1.Stack i1.p7,I x1.In,L i1.p8 x1.Out i1.p9,I s1r,I x1.Steps,L i1.p11 x1.Cond i1.p12,L i1.p14 x1.Turns i1.q15])]) c (fun i30=>?_) fun hd27=>?_
 obtain ⟨a55,c55⟩:=i30
 refine qn [13] ⟨qP [],qP [(0,2)],qP [],qP [(0,3)],qP [],qP [(0,1)],qP [(0,2)],tt⟩ ⟨fun _ _ c=>?_,tt⟩
 refine Zf _ rfl rfl ?_
 try simp only [l3,l4,l5,l6] at c
 refine Cf [0] c (Zci (ga3:=i1.1) (gc4:=i1.2.1) (ga7:=i1.p6) (gc8:=i1.p7) (ga9:=i1.p8) (gc10:=i1.p9) (ga11:=i1.p11) (gc12:=i1.p12) (ga13:=i1.p14) (gc14:=i1.q15) hx27) ⟨.f 0,.f 11,.f 12,tt⟩ call63 fun i31 _ _ c=>?_
 refine E0 (nQ hd28 (i31.1,i31.2) (c.rk [9,0,1,2,3,4,5,6,7,8] [0,1,2,3,4,5,6,7,8,9,10,11,13]))
 refine q0 (qs:=[(0,188,B b2 1),(1,189,L i1.1 x1.Regs i1.2.1),(2,190,B b3 1),(3,191,I p3.A),(4,192,B gb0 0),(5,193,gV p1 ga1 gc2),(6,194,.agg #[I (w64 (x1.Pc + 1)),L i1.1 x1.Regs i1.2.1,L i1.p3 x1.Mem i1.p4,L i1.p6 x1.Stack i1.p7,I x1.In,L i1.p8 x1.Out i1.p9,I s1r,I x1.Steps,L i1.p11 x1.Cond i1.p12,L i1.p14 x1.Turns i1.q15]),(7,195,B b2 1),(8,196,L i1.1 x1.Regs i1.2.1),(9,197,B b3 2),(10,198,I p3.B),(11,199,.pointer (some ep7))]) c (qn [12] ⟨qP [],qP [(0,2)],qP [],qP [(0,3)],qP [],qP [(0,1)],qP [(0,2)],qP [],qP [(0,2)],qP [],qP [(0,3)],qIo he7,tt⟩ ⟨fun _ _ c=>?_,tt⟩)
 refine Zf _ rfl rfl ?_
 try simp only [l3,l4,l5,l6] at c
 refine Eldo 5 7 c he7 hx26 fun u20 _ c=>?_
 obtain ⟨a54,c54,rfl,c⟩:=c.o_Term 12
 refine E0 (nQ hd27 (a54,c54) (c.rk (rg 10) [0,1,2,3,4,5,6,7,8,9,10,11,13]))
 refine bk (tn (⟨_,(i1.p3,i1.p4,rs9,i1.p10,i1.p6,i1.p7,i1.p8,i1.p9),(sk h),c.rk (rg 10) [0,1,2,3,4,5,6,7,8,9,10,11,11,12,9]⟩))
 refine P0 [] c fun _ c=>I0 c h (fun h=>?_) fun h=>?_
 refine Bd h fun x29 hx29 h=>?_
 obtain ⟨ep9,u21,he9,c⟩:=c.elo 5 7 hx29
 obtain ⟨a57,c57,rfl,c⟩:=c.o_Term 12
 refine Bd h fun x30 hx30 h=>?_
 obtain ⟨ep10,u22,he10,c⟩:=c.elo 5 7 hx30
 obtain ⟨a58,c58,rfl,c⟩:=c.o_Term 14
 refine YH mix (rM 15 [(7,.eq (.pointer (some ep9))),(8,.eq (tV x29 a57 c57)),(13,.eq (.pointer (some ep10))),(14,.eq (tV x30 a58 c58))] [(1,1),(2,2),(4,2),(6,3),(10,2),(12,3)] c (fun ow=>⟨ZG ow (NieW c he9),ZG ow (NleW c he9),ZG ow (NieW c he10),ZG ow (NleW c he10),tt⟩) fun _ _ _ _ _ c=>?_)
 refine Bd h fun x31 hx31 h=>Cf [0] c (ZbS (ga3:=i1.1) (gc4:=i1.2.1) (ga7:=i1.p6) (gc8:=i1.p7) (ga9:=i1.p8) (gc10:=i1.p9) (ga11:=i1.p11) (gc12:=i1.p12) (ga13:=i1.p14) (gc14:=i1.q15) hx31) ⟨.f 0,.f 11,.f 13,.f 15,tt⟩ call64 fun i33 _ _ c=>?_
 refine Fp [] 1 c fun _ c=>?_
 replace c:=c.nf
 refine Esb 1 2 (L i33.1 x31.1 i33.2) c fun _ c=>?_
 refine E1 (bk (tn (⟨_,(i33.1,i33.2,i1.p2,i1.p10,i1.p6,i1.p7,i1.p8,i1.p9),(sk h),c.rk [9,0,1,2,3,4,5,6,7,8] [0,1,2,3,4,5,6,7,8,9,10,11,16,7,9]⟩)))
 refine P0 [] c fun _ c=>I0 c h (fun h=>?_) fun h=>?_
 refine T1 (Fp [(1,3)] 3 c fun _ c=>Esb 2 0 (I p3.B) c fun _ c=>?_)
 refine E1 (bk (tn (⟨_,(i1.p3,i1.p4,i1.p2,i1.p10,i1.p6,i1.p7,i1.p8,i1.p9),(sk h),c.rk (rg 10) [0,1,2,3,4,5,6,7,8,9,10,11,11,7,9]⟩)))
 refine P0 [] c fun _ c=>I0 c h (fun h=>?_) fun h=>?_
 refine T0 (Fp [(1,2),(3,2)] 4 c fun _ c=>Elt 3 ([(w64 (x1.Pc + 1))]:List Int) c fun a59 c59 _ _ c=>?_)
 replace c:=c.nf
 refine Bd h fun x32 hx32 h=>Eap 6 c (.g 10) hx32 fun a60 c60 _ _ c=>?_
 refine Fp [] 1 c fun _ c=>Esb 2 3 (L a60 x32 c60) c fun _ c=>?_
 refine E0 (T1 (Fp [(1,3)] 3 c fun _ c=>?_))
 replace c:=c.ng
 refine Esb 2 0 (I p3.B) c fun _ c=>?_
 refine E1 (bk (tn (⟨_,(i1.p3,i1.p4,i1.p2,i1.p10,a60,c60,i1.p8,i1.p9),(sk h),c.rk (rg 10) [0,1,2,3,4,5,6,7,8,9,10,11,11,7,9]⟩)))
 refine P0 [] c fun _ c=>I0 c h (fun h=>?_) fun h=>?_
 refine P0 [(1,2)] c fun _ c=>T0 (Fp [(1,2)] 3 c fun _ c=>Bd h fun x33 hx33 h=>Eel c (.g 6) hx33 fun _ _ c=>?_)
 refine Fp [] 1 c fun _ c=>Esb 2 0 (I x33) c fun _ c=>?_
 refine E0 (T1 (Fp [(1,2)] 3 c fun _ c=>?_))
 replace c:=c.nf
 refine Bd h fun x34 hx34 h=>Efr 6 c hx34 fun c61 _ _ c=>?_
 refine Fp [] 1 c fun _ c=>Esb 2 3 (L i1.p6 x34 c61) c fun _ c=>?_
 refine E1 (bk (tn (⟨_,(i1.p3,i1.p4,i1.p2,i1.p10,i1.p6,c61,i1.p8,i1.p9),(sk h),c.rk (rg 10) [0,1,2,3,4,5,6,7,8,9,10,11,11,7,9]⟩)))
 refine K1 (bk (tn (⟨_,(i1.p3,i1.p4,i1.p2,i1.p10,i1.p6,i1.p7,i1.p8,i1.p9),(sk h),c.rk (rg 10) [0,1,2,3,4,5,6,7,8,9,10,11,11,7,9]⟩)))
 subst hrl
 try simp only [l3,l4,l5,l6] at c
 refine T0 (Fp [(0,2)] 1 c fun _ c=>Ess 4 [I s2r.2.1,L i1.1 x1.Regs i1.2.1,L k1.1 s2r.p2 k1.2.1,L k1.p4 s2r.p5 k1.p5,I s2r.p3,L k1.p6 s2r.q6 k1.q7,I s1r,I x1.Steps,L i1.p11 x1.Cond i1.p12,L i1.p14 x1.Turns i1.q15] c fun _ c=>?_)
 refine E0 ?_
 replace c:=c.nf
 obtain ⟨he11,c⟩:=c.relenr 5 13
 replace c:=c.bxe (cs:=[I s2r.2.1,L i1.1 x1.Regs i1.2.1,L k1.1 s2r.p2 k1.2.1,L k1.p4 s2r.p5 k1.p5,I s2r.p3,L k1.p6 s2r.q6 k1.q7,I s1r,I x1.Steps,L i1.p11 x1.Cond i1.p12,L i1.p14 x1.Turns i1.q15]) (cs':=[I s2r.2.1,L i1.1 s2r.p4 i1.2.1,L k1.1 s2r.p2 k1.2.1,L k1.p4 s2r.p5 k1.p5,I s2r.p3,L k1.p6 s2r.q6 k1.q7,I s1r,I x1.Steps,L i1.p11 x1.Cond i1.p12,L i1.p14 x1.Turns i1.q15]) 2 (by simp only [L,he11])
 replace c:=c.bxe (cs:=[I s2r.2.1,L i1.1 x1.Regs i1.2.1,L k1.1 s2r.p2 k1.2.1,L k1.p4 s2r.p5 k1.p5,I s2r.p3,L k1.p6 s2r.q6 k1.q7,I s1r,I x1.Steps,L i1.p11 x1.Cond i1.p12,L i1.p14 x1.Turns i1.q15]) (cs':=[I s2r.2.1,L i1.1 s2r.p4 i1.2.1,L k1.1 s2r.p2 k1.2.1,L k1.p4 s2r.p5 k1.p5,I s2r.p3,L k1.p6 s2r.q6 k1.q7,I s1r,I x1.Steps,L i1.p11 x1.Cond i1.p12,L i1.p14 x1.Turns i1.q15]) 4 (by simp only [L,he11])
 replace c:=c.fzr 5 13
 replace c:=c.fz 5
 replace c:=c.fzr 5 14
 replace c:=c.fzr 5 10
 replace c:=c.fz 5
 cases h
 exact wp_ret (Rg c (i1.1,i1.2.1,k1.1,k1.2.1,k1.p4,k1.p5,k1.p6,k1.q7,i1.p11,i1.p12,i1.p14,i1.q15) [0] [15,12,16,17,18,19] (.cell (α:=Agg 9) kk (.b 4) .nil))
theorem ZcS {p0 p1 r} (h:XF p0 p1 = some r):Con prog 40 [pV p0 ga0 gc1 ga2 gc3 ga4 gc5 ga6 gc7 ga8 gc9 ga10 gc11,nV p1] [] [lR ga0 p0.Regs gc1,lR ga2 p0.Mem gc3,lR ga4 p0.Stack gc5,lR ga6 p0.Out gc7,lR ga8 p0.Cond gc9,lR ga10 p0.Turns gc11] fun (i:Hp)=>([pJ r i],[],(pF r i)):=by
 unfold XF at h
 refine En func40 rfl ntmps40 fun _ fr w c=>?_
 refine T0 (Ebx (pC p0 ga0 gc1 ga2 gc3 ga4 gc5 ga6 gc7 ga8 gc9 ga10 gc11) c fun b1 _ _ c=>?_)
 refine Ebx (nC p1) c fun b2 _ _ c=>?_
 refine Eal pZ c fun b3 _ _ c=>?_
 refine E0 (S0 (P0 [(1,1)] c fun _ c=>wp_block (P0 [] c fun _ c=>I0 c h (fun h=>?_) fun h=>?_)))
 refine T1 (Fp [(1,1)] 3 c fun _ c=>Esb 0 0 (I p1.B) c fun _ c=>?_)
 refine E1 (bk (tn (T0 (Fp [(0,0)] 1 c fun _ c=>Ess 2 [I p1.B,L ga0 p0.Regs gc1,L ga2 p0.Mem gc3,L ga4 p0.Stack gc5,I p0.In,L ga6 p0.Out gc7,I p0.Code,I p0.Steps,L ga8 p0.Cond gc9,L ga10 p0.Turns gc11] c fun _ c=>?_))))
 refine E0 ?_
 cases h
 exact wp_ret (Rg c (ga0,gc1,ga2,gc3,ga4,gc5,ga6,gc7,ga8,gc9,ga10,gc11) [] (rg 6) (.cell (α:=Agg 9) kk (.b 2) .nil))
 refine P0 [] c fun _ c=>I0 c h (fun h=>?_) fun h=>?_
 refine T1 (Fp [] 1 c fun _ c=>Esb 0 6 (I 8) c fun _ c=>?_)
 refine E1 (bk (tn (T0 (Fp [(0,0)] 1 c fun _ c=>Ess 2 [I p0.Pc,L ga0 p0.Regs gc1,L ga2 p0.Mem gc3,L ga4 p0.Stack gc5,I p0.In,L ga6 p0.Out gc7,I 8,I p0.Steps,L ga8 p0.Cond gc9,L ga10 p0.Turns gc11] c fun _ c=>?_))))
 refine E0 ?_
 cases h
 exact wp_ret (Rg c (ga0,gc1,ga2,gc3,ga4,gc5,ga6,gc7,ga8,gc9,ga10,gc11) [] (rg 6) (.cell (α:=Agg 9) kk (.b 2) .nil))
 refine P0 [] c fun _ c=>I0 c h (fun h=>?_) fun h=>?_
 refine T1 (Fp [] 1 c fun _ c=>Esb 0 6 (I 6) c fun _ c=>?_)
 refine E1 (bk (tn (T0 (Fp [(0,0)] 1 c fun _ c=>Ess 2 [I p0.Pc,L ga0 p0.Regs gc1,L ga2 p0.Mem gc3,L ga4 p0.Stack gc5,I p0.In,L ga6 p0.Out gc7,I 6,I p0.Steps,L ga8 p0.Cond gc9,L ga10 p0.Turns gc11] c fun _ c=>?_))))
 refine E0 ?_
 cases h
 exact wp_ret (Rg c (ga0,gc1,ga2,gc3,ga4,gc5,ga6,gc7,ga8,gc9,ga10,gc11) [] (rg 6) (.cell (α:=Agg 9) kk (.b 2) .nil))
 refine T1 (Fp [] 1 c fun _ c=>Esb 0 6 (I 5) c fun _ c=>?_)
 refine E1 (bk (tn (T0 (Fp [(0,0)] 1 c fun _ c=>Ess 2 [I p0.Pc,L ga0 p0.Regs gc1,L ga2 p0.Mem gc3,L ga4 p0.Stack gc5,I p0.In,L ga6 p0.Out gc7,I 5,I p0.Steps,L ga8 p0.Cond gc9,L ga10 p0.Turns gc11] c fun _ c=>?_))))
 refine E0 ?_
 cases h
 exact wp_ret (Rg c (ga0,gc1,ga2,gc3,ga4,gc5,ga6,gc7,ga8,gc9,ga10,gc11) [] (rg 6) (.cell (α:=Agg 9) kk (.b 2) .nil))
theorem Zb1 {p0 p1 p2 r} (h:Xt n p0 p1 p2 = some r):Con prog 42 [pV p0 ga0 gc1 ga2 gc3 ga4 gc5 ga6 gc7 ga8 gc9 ga10 gc11,tV p1 ga12 gc13,I p2] [] [lR ga0 p0.Regs gc1,lR ga2 p0.Mem gc3,lR ga4 p0.Stack gc5,lR ga6 p0.Out gc7,lR ga8 p0.Cond gc9,lR ga10 p0.Turns gc11,lR ga12 p1.Kids gc13] fun (i:Hp)=>([pJ r i],[],(pF r i)):=by
 unfold Xt at h
 refine En func42 rfl ntmps42 fun _ fr w c=>?_
 refine T0 (Ebx (pC p0 ga0 gc1 ga2 gc3 ga4 gc5 ga6 gc7 ga8 gc9 ga10 gc11) c fun b1 _ _ c=>?_)
 refine Ebx (tC p1 ga12 gc13) c fun b2 _ _ c=>?_
 refine Eal pZ c fun b3 _ _ c=>?_
 refine E0 (T0 (Fp [(0,0)] 1 c fun _ c=>Bd h fun x1 hx1 h=>Cg c (Xo hx1) ⟨.f 0,.f 1,.f 2,.f 3,.f 4,.f 5,tt⟩ call36 fun i1 _ _ c=>?_))
 replace c:=c.ng
 refine Ess 0 (pC x1 i1.1 i1.2.1 i1.p3 i1.p4 i1.p6 i1.p7 i1.p8 i1.p9 i1.p11 i1.p12 i1.p14 i1.q15) c fun _ c=>?_
 refine E0 (T0 (Fp [(1,0),(2,1)] 3 c fun _ c=>Eltr 62 [(tR p1 ga12 gc13)] [p1] c ⟨(Ava.mk_Term p1 (.f 6)),tt⟩ fun a1 c1 _ _ c=>?_))
 replace c:=c.ng
 replace c:=c.fzr 9 11
 refine Bd h fun x2 hx2 h=>Eapr 7 10 c (.f 12) hx2 fun rm1 a2 c2 _ _ c=>?_
 refine Fp [] 1 c fun _ c=>Esb 0 8 (L a2 x2 c2) c fun _ c=>?_
 refine E0 (T0 (Fp [(1,0)] 3 c fun _ c=>?_))
 replace c:=c.nf
 refine Elt 3 ([p2]:List Int) c fun a3 c3 _ _ c=>?_
 refine Bd h fun x3 hx3 h=>Eap 8 c (.g 9) hx3 fun a4 c4 _ _ c=>?_
 refine Fp [] 1 c fun _ c=>?_
 replace c:=c.ng
 refine Esb 0 9 (L a4 x3 c4) c fun _ c=>?_
 refine E0 (T0 (Fp [(0,0)] 1 c fun _ c=>Ess 2 [I x1.Pc,L i1.1 x1.Regs i1.2.1,L i1.p3 x1.Mem i1.p4,L i1.p6 x1.Stack i1.p7,I x1.In,L i1.p8 x1.Out i1.p9,I x1.Code,I x1.Steps,L a2 x2 c2,L a4 x3 c4] c fun _ c=>?_))
 refine E0 ?_
 replace c:=c.fzr 3 7
 replace c:=c.fzr 3 8
 replace c:=c.fz 3
 replace c:=c.fzr 3 9
 replace c:=c.fzr 3 13
 replace c:=c.fz 3
 cases h
 exact wp_ret (Rg c (i1.1,i1.2.1,i1.p3,i1.p4,i1.p6,i1.p7,i1.p8,i1.p9,a2,c2,a4,c4) [] [14,15,16,17,18,19] (.cell (α:=Agg 9) kk (.b 2) .nil))
end Go.Proofs.YthbfkjiiibfomaaGreatDoor
