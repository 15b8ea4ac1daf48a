/- The walks, printed by a program. -/
import Derived.Test.YtlkojmondogmlaaGreatDoorLib3
import Derived.Test.YtlkojmondogmlaaGreatDoorLib2
import Derived.Test.YtlkojmondogmlaaGreatDoorDefs
import Derived.Test.YtlkojmondogmlaaGreatDoorProg
import Derived.KernelRfl
import Derived.DeepKeys4
import Derived.Test.YtlkojmondogmlaaGreatDoorShelf
set_option linter.unusedVariables false
set_option linter.unusedSimpArgs false
set_option maxRecDepth 100000
set_option maxHeartbeats 40000000
namespace Go.Proofs.YtlkojmondogmlaaGreatDoor
open Go.GL Go.Maps Go.WideMaps Tryz
abbrev C0 (f:FuncId) (a:List Value) (F:List RF) (v:Value):=Con prog f a [] F fun (_:Unit)=>([v],[],[])
abbrev Ct (f:FuncId) (a:List Value) (F:List RF) (r:D.Term):=Con prog f a [] F fun (i:Oh)=>([tV r i.1 i.2],[],[lR i.1 r.Kids i.2])
abbrev Cl {α:Type} [Rep α] (f:FuncId) (a:List Value) (F:List RF) (r:List α):=Con prog f a [] F fun (i:Oh)=>([L i.1 r i.2],[],[lR i.1 r i.2])
variable {n:Nat} {ga0 ga2 ga4 ga6 ga8 ga10 ga12 ga14 ga16 ga18 ga20 ga22 ga24:Option Addr} {gc1 gc3 gc5 gc7 gc9 gc11 gc13 gc15 gc17 gc19 gc21 gc23 gc25:Nat}
theorem mix:prog.follows .mixedOrders = true:=by kernel_rfl
abbrev sl3:Value → List Int → HP:=SL 3
abbrev sl42:Value → List Rw.Path → HP:=SL 42
abbrev sl5:Value → List Byt → HP:=SL 5
abbrev sl57:Value → List D.Ins → HP:=SL 57
abbrev sl79:Value → List Rw.Term → HP:=SL 79
theorem Zla {q:D.Path} {w:World} {F:Nat → Prop} {cs:List Value} (h:Rep.ok w F cs q):cs[0]? = some (I q.Pc):=ZjF h
theorem ZkX {q:D.Path} {w:World} {F:Nat → Prop} {cs:List Value} (h:Rep.ok w F cs q):cs[4]? = some (I q.In):=Zjr h
theorem Zld {q:D.Path} {w:World} {F:Nat → Prop} {cs:List Value} (h:Rep.ok w F cs q):cs[6]? = some (I q.Code):=Zjk h
theorem ZkU {q:D.Path} {w:World} {F:Nat → Prop} {cs:List Value} (h:Rep.ok w F cs q):cs[7]? = some (I q.Steps):=Zka h
theorem Zjn {q:D.Ins} {w:World} {F:Nat → Prop} {cs:List Value} (h:Rep.ok w F cs q):cs[0]? = some (I q.Op):=Zk0 h
theorem ZiM {q:D.Term} {w:World} {F:Nat → Prop} {cs:List Value} (h:Rep.ok w F cs q):cs[0]? = some (I q.Op):=Zkc h
theorem Zbr {q:D.Term} {w:World} {F:Nat → Prop} {cs:List Value} (h:Rep.ok w F cs q):cs[1]? = some (I q.W):=Zja h
theorem ZkS {q:D.Term} {w:World} {F:Nat → Prop} {cs:List Value} (h:Rep.ok w F cs q):cs[2]? = some (I q.N):=Zjc h
theorem ZhS {q:D.Value} {w:World} {F:Nat → Prop} {cs:List Value} (h:Rep.ok w F cs q):cs[0]? = some (Str.val q.Name):=Ziz h
theorem Zks {q:D.Value} {w:World} {F:Nat → Prop} {cs:List Value} (h:Rep.ok w F cs q):cs[1]? = some (I q.W):=ZiI h
noncomputable abbrev map98:MapT prog 9 79 Str Rw.Term:=mapSV _ 9 79 (⟨0,0,0,⟨[]⟩,⟨none,0,0⟩⟩ : Rw.Term) Tryz.underlying9 (fun w=>Zkv (by kernel_rfl) w)
noncomputable abbrev map113:MapT prog 9 3 Str Int:=mapSI _ 9 3 Tryz.underlying9 Tryz.underlying3 (by kernel_rfl)
theorem Zfb {p0 p1 r} (h:Zbg p0 p1 = some r):C0 19 [L ga0 p0 gc1,I p1] [lR ga0 p0 gc1] (I r):=by
 unfold Zbg at h
 refine En func19 rfl ntmps19 fun _ fr w c=>?_
 exact P0 [] c fun _ c=>P0 [] c fun _ c=>S0 (P0 [] c fun _ c=>I0 c h (fun h=>P0 [] c fun _ c=>rE) fun h=>K0 (P0 [] c fun _ c=>rE))
theorem Zd4 {p0 p1 r} (h:Zae p0 p1 = some r):C0 4 [gV p0 ga0 gc1,I p1] [lR ga0 p0.Code gc1] (I r):=by
 unfold Zae at h
 refine En func4 rfl ntmps4 fun _ fr w c=>?_
 refine T0 (Ebx (gC p0 ga0 gc1) c fun b1 _ _ c=>?_)
 refine Fp [] 1 c fun _ c=>E0 (T0 (Fp [(1,0)] 3 c fun _ c=>Bd h fun x1 hx1 h=>Cb c (Zfb hx1) ⟨.f 0,tt⟩ call19 fun _ _ _ c=>?_))
 exact Fp [] 1 c fun _ c=>E0 (S0 (P0 [] c fun _ c=>I0 c h (fun h=>P0 [] c fun _ c=>rE) fun h=>K0 (P0 [] c fun _ c=>rE)))
theorem Zbn (n:Nat):(∀ {p0 p1 ga0 gc1 r} (h:Zai n p0 p1 = some r),C0 37 [tV p0 ga0 gc1,I p1] [lR ga0 p0.Kids gc1] (I r)) ∧
    (∀ {p0 p1 ga0 gc1 r} (h:Yr n p0 p1 = some r),C0 20 [L ga0 p0 gc1,I p1] [lR ga0 p0 gc1] (I r)):=by
 induction n with
 | zero=>exact ⟨by intro p0 p1 ga0 gc1 r h; simp [Zai] at h,by intro p0 p1 ga0 gc1 r h; simp [Yr] at h⟩
 | succ n ih=>
 obtain ⟨ih0,ih1⟩:=ih
 refine ⟨?_,?_⟩
 · intro p0 p1 ga0 gc1 r h
   rw [Zai] at h
   refine En func37 rfl ntmps37 fun _ fr w c=>?_
   refine T0 (Ebx (tC p0 ga0 gc1) c fun b1 _ _ c=>?_)
   refine Fp [] 1 c fun _ c=>E0 (P0 [(2,0)] c fun _ c=>S0 (P0 [] c fun _ c=>I0 c h (fun h=>P0 [] c fun _ c=>rE) fun h=>?_))
   refine K0 (T0 (Fp [(1,0)] 3 c fun _ c=>Bd h fun x1 hx1 h=>Cb c (ih1 hx1) ⟨.f 0,tt⟩ call20 fun _ _ _ c=>?_))
   exact Fp [] 1 c fun _ c=>E0 (S0 (P0 [] c fun _ c=>I0 c h (fun h=>P0 [] c fun _ c=>rE) fun h=>K0 (P0 [] c fun _ c=>rE)))
 · intro p0 p1 ga0 gc1 r h
   rw [Yr] at h
   refine En func20 rfl ntmps20 fun _ fr w c=>?_
   refine P0 [] c fun _ c=>P0 [] c fun _ c=>S0 (P0 [] c fun _ c=>I0 c h (fun h=>P0 [] c fun _ c=>rE) fun h=>?_)
   refine K0 (S0 (P0 [] c fun _ c=>Bd h fun rl1 hit1 h=>?_))
   have hk1:=h
   refine LpR (fun s1  (_:Unit)=>([(0,L ga0 p0 gc1),(1,I s1.1),(5,I s1.2)],id,[])) (fun s  (_:Unit)=>([(1,I s)],id,[])) hit1 c () (c.rk [] [0]) (fun s1 q1 _ _ _ c h hr1=>?_) fun s1r _ _ _ hrl c=>?_
   refine S0 (P0 [] c fun _ c=>I0 c h (fun h=>?_) fun h=>?_)
   refine K0 (S0 (wp_block (T0 (Fp [] 2 c fun _ c=>Bd h fun x1 hx1 h=>Eem c (.f 0) hx1 fun _ u1 _ c=>?_))))
   obtain ⟨a1,c1,rfl,c⟩:=c.o_Term 1
   refine Fp [] 1 c fun _ c=>Bd h fun x2 hx2 h=>Cb c (ih0 hx2) ⟨.f 2,tt⟩ call37 fun _ _ _ c=>?_
   refine Fp [] 1 c fun _ c=>E0 (P0 [] c fun _ c=>I0 c h (fun h=>?_) fun h=>?_)
   refine P0 [] c fun _ c=>?_
   obtain rfl:=hr1 _ (sk h)
   obtain rfl:=sj hk1
   exact wp_ret (br (tr (tr (br (tr (Rt c () [] []))))))
   refine K1 (bk (tn (P1 [] c fun _ c=>Nx h () (c.rk [] [0]))))
   refine wp_exit (te (te (be ?_)))
   obtain rfl:=hr1 _ (sk h)
   exact tn ⟨_,(),rfl,c.rk [] [0]⟩
   subst hrl
   exact P0 [] c fun _ c=>rE
theorem Za5 {n:Nat}:∀ {p0 p1 ga0 gc1 r} (h:Yr n p0 p1 = some r),C0 20 [L ga0 p0 gc1,I p1] [lR ga0 p0 gc1] (I r):=(Zbn n).2
theorem ZcB {p0 p1 r} (h:ZaD p0 p1 = some r):C0 21 [L ga0 p0 gc1,I p1] [lR ga0 p0 gc1] (I r):=by
 unfold ZaD at h
 refine En func21 rfl ntmps21 fun _ fr w c=>?_
 exact P0 [] c fun _ c=>P0 [] c fun _ c=>S0 (P0 [] c fun _ c=>I0 c h (fun h=>P0 [] c fun _ c=>rE) fun h=>K0 (P0 [] c fun _ c=>rE))
theorem Zct {p0 p1 r} (h:Zam n p0 p1 = some r):C0 5 [pV p0 ga0 gc1 ga2 gc3 ga4 gc5 ga6 gc7 ga8 gc9 ga10 gc11,I p1] [lR ga0 p0.Regs gc1,lR ga2 p0.Mem gc3,lR ga4 p0.Stack gc5,lR ga6 p0.Out gc7,lR ga8 p0.Cond gc9,lR ga10 p0.Turns gc11] (I r):=by
 unfold Zam at h
 refine En func5 rfl ntmps5 fun _ fr w c=>?_
 refine T0 (Ebx (pC p0 ga0 gc1 ga2 gc3 ga4 gc5 ga6 gc7 ga8 gc9 ga10 gc11) c fun b1 _ _ c=>?_)
 refine Fp [] 1 c fun _ c=>E0 (T0 (Fp [(1,0)] 3 c fun _ c=>Bd h fun x1 hx1 h=>Cb c (Za5 hx1) ⟨.f 0,tt⟩ call20 fun _ _ _ c=>?_))
 refine Fp [] 1 c fun _ c=>E0 (S0 (P0 [] c fun _ c=>I0 c h (fun h=>P0 [] c fun _ c=>rE) fun h=>?_))
 refine K0 (T0 (Fp [(1,0)] 3 c fun _ c=>Bd h fun x2 hx2 h=>Cb c (Za5 hx2) ⟨.f 1,tt⟩ call20 fun _ _ _ c=>?_))
 refine Fp [] 1 c fun _ c=>E0 (S0 (P0 [] c fun _ c=>I0 c h (fun h=>P0 [] c fun _ c=>rE) fun h=>?_))
 refine K0 (T0 (Fp [(1,0)] 3 c fun _ c=>Bd h fun x3 hx3 h=>Cb c (ZcB hx3) ⟨.f 2,tt⟩ call21 fun _ _ _ c=>?_))
 refine Fp [] 1 c fun _ c=>E0 (S0 (P0 [] c fun _ c=>I0 c h (fun h=>P0 [] c fun _ c=>rE) fun h=>?_))
 refine K0 (T0 (Fp [(1,0)] 3 c fun _ c=>Bd h fun x4 hx4 h=>Cb c (Za5 hx4) ⟨.f 3,tt⟩ call20 fun _ _ _ c=>?_))
 refine Fp [] 1 c fun _ c=>E0 (S0 (P0 [] c fun _ c=>I0 c h (fun h=>P0 [] c fun _ c=>rE) fun h=>?_))
 refine K0 (T0 (Fp [(1,0)] 3 c fun _ c=>?_))
 replace c:=c.ng
 refine Bd h fun x5 hx5 h=>Cb c (Za5 hx5) ⟨.f 4,tt⟩ call20 fun _ _ _ c=>?_
 refine Fp [] 1 c fun _ c=>E0 (S0 (P0 [] c fun _ c=>I0 c h (fun h=>P0 [] c fun _ c=>rE) fun h=>?_))
 refine K0 (T0 (Fp [(1,0)] 3 c fun _ c=>Bd h fun x6 hx6 h=>Cb c (ZcB hx6) ⟨.f 5,tt⟩ call21 fun _ _ _ c=>?_))
 exact Fp [] 1 c fun _ c=>E0 (S0 (P0 [] c fun _ c=>I0 c h (fun h=>P0 [] c fun _ c=>rE) fun h=>K0 (P0 [] c fun _ c=>rE)))
theorem Zeq {p0 p1 r} (h:ZaK n p0 p1 = some r):C0 6 [L ga0 p0 gc1,I p1] [lR ga0 p0 gc1] (I r):=by
 unfold ZaK at h
 refine En func6 rfl ntmps6 fun _ fr w c=>?_
 refine P0 [] c fun _ c=>P0 [] c fun _ c=>S0 (P0 [] c fun _ c=>I0 c h (fun h=>P0 [] c fun _ c=>rE) fun h=>?_)
 refine K0 (S0 (P0 [] c fun _ c=>Bd h fun rl1 hit1 h=>?_))
 have hk1:=h
 refine LpR (fun s1  (_:Unit)=>([(0,L ga0 p0 gc1),(1,I s1.1),(5,I s1.2)],id,[])) (fun s  (_:Unit)=>([(1,I s)],id,[])) hit1 c () (c.rk [] [0]) (fun s1 q1 _ _ _ c h hr1=>?_) fun s1r _ _ _ hrl c=>?_
 refine S0 (P0 [] c fun _ c=>I0 c h (fun h=>?_) fun h=>?_)
 refine K0 (S0 (wp_block (T0 (Fp [] 2 c fun _ c=>Bd h fun x1 hx1 h=>Eem c (.f 0) hx1 fun _ u1 _ c=>?_))))
 obtain ⟨a1,c1,a2,c2,a3,c3,a4,c4,a5,c5,a6,c6,rfl,c⟩:=c.o_Path 1
 refine Fp [] 1 c fun _ c=>Bd h fun x2 hx2 h=>Cb c (Zct hx2) ⟨.f 2,.f 3,.f 4,.f 5,.f 6,.f 7,tt⟩ call5 fun _ _ _ c=>?_
 refine Fp [] 1 c fun _ c=>E0 (P0 [] c fun _ c=>I0 c h (fun h=>?_) fun h=>?_)
 refine P0 [] c fun _ c=>?_
 obtain rfl:=hr1 _ (sk h)
 obtain rfl:=sj hk1
 exact wp_ret (br (tr (tr (br (tr (Rt c () [] []))))))
 refine K1 (bk (tn (P1 [] c fun _ c=>Nx h () (c.rk [] [0]))))
 refine wp_exit (te (te (be ?_)))
 obtain rfl:=hr1 _ (sk h)
 exact tn ⟨_,(),rfl,c.rk [] [0]⟩
 subst hrl
 exact P0 [] c fun _ c=>rE
theorem Zfi {p0 r} (h:Zci p0 = some r):C0 44 [nV p0] [] (nV r):=by
 unfold Zci at h
 refine En func44 rfl ntmps44 fun _ fr w c=>?_
 refine T0 (Ebx (nC p0) c fun b1 _ _ c=>?_)
 refine Eal [I 0,I 0,I 0,I 0] c fun b2 _ _ c=>?_
 refine E0 (T0 (Eal [I 0,I 0,I 0,I 0] c fun b3 _ _ c=>?_))
 refine E0 (T0 (Fp [(1,0)] 3 c fun _ c=>Esb 2 0 (I p0.Op) c fun _ c=>?_))
 refine E0 (T0 (Fp [(1,0)] 3 c fun _ c=>Esb 2 1 (I p0.A) c fun _ c=>?_))
 refine E0 (T0 (Fp [(1,0)] 3 c fun _ c=>?_))
 replace c:=c.ng
 refine Esb 2 2 (I p0.B) c fun _ c=>?_
 refine E0 (T0 (Fp [(1,0)] 3 c fun _ c=>Esb 2 3 (I p0.C) c fun _ c=>?_))
 refine E0 (T0 (Fp [(0,2)] 1 c fun _ c=>Ess 1 (nC p0) c fun _ c=>?_))
 refine E0 ?_
 obtain rfl:=sj h
 exact wp_ret (Rg c () [] [] (.cell (α:=Agg 3) kk (.b 1) .nil))
theorem ZeF {p0 r} (h:Zbj n p0 = some r):Con prog 24 [L ga0 p0 gc1] [] [lR ga0 p0 gc1] fun (i:Oh)=>([L i.1 r i.2],[sl57 (L i.1 r i.2) r],[]):=by
 unfold Zbj at h
 refine En func24 rfl ntmps24 fun _ fr w c=>?_
 refine P0 [] c fun _ c=>T0 (Fp [] 2 c fun _ c=>Bd h fun x1 hx1 h=>Emk 57 c hx1 fun a1 c1 _ _ c=>?_)
 refine Fp [] 1 c fun _ c=>E0 (S0 (P0 [] c fun _ c=>Bd h fun rl1 hit1 h=>Lp (fun s1  (_:Unit)=>([(0,L ga0 p0 gc1),(3,L a1 x1 c1),(4,I s1.1)],fun Γ=>Γ.set 0 (sl57 (L a1 x1 c1) s1.2),[])) (fun  (_:Unit)=>([(3,L a1 x1 c1)],fun Γ=>Γ.set 0 (sl57 (L a1 x1 c1) rl1),[])) hit1 c () (c.rk [0] [0]) (fun s1 q1 _ _ _ c h hr1=>?_) fun _ _ _ c=>?_))
 refine S0 (P0 [] c fun _ c=>I0 c h (fun h=>?_) fun h=>?_)
 refine K0 (S0 (wp_block (T1 (Fp [] 4 c fun _ c=>Bd h fun x2 hx2 h=>Eel c (.f 0) hx2 fun _ _ c=>?_))))
 refine Bd h fun x3 hx3 h=>Cb c (Zfi hx3) tt call44 fun _ _ _ c=>?_
 refine Bd h fun x4 hx4 h=>Eset 0 c hx4 fun _ _ _ c=>?_
 refine E1 (bk (tn (P1 [] c fun _ c=>Nx h () (c.rk [0] [0]))))
 refine wp_exit (te (te (be ?_)))
 obtain rfl:=hr1 _ (sk h)
 exact tn ⟨(),c.rk [0] [0]⟩
 refine P0 [] c fun _ c=>?_
 obtain rfl:=sj h
 obtain ⟨he1,c⟩:=c.relen 0
 replace c:=c.eqs (v:=L a1 x1 c1) (u:=L a1 rl1 c1) 2 (by simp only [L,he1])
 exact wp_ret (Rt c (a1,c1) [0] [])
theorem XV {p0 r} (h:YM n p0 = some r):Con prog 8 [gV p0 ga0 gc1] [] [lR ga0 p0.Code gc1] fun (i:Oh)=>([gV r i.1 i.2],[sl57 (L i.1 r.Code i.2) r.Code],[]):=by
 unfold YM at h
 refine En func8 rfl ntmps8 fun _ fr w c=>?_
 refine T0 (Ebx (gC p0 ga0 gc1) c fun b1 _ _ c=>?_)
 refine Eal [I 0,I 0,I 0,L none ([]:List D.Ins) 0] c fun b2 _ _ c=>?_
 refine E0 (T0 (Eal [I 0,I 0,I 0,L none ([]:List D.Ins) 0] c fun b3 _ _ c=>?_))
 refine E0 (T0 (Fp [(1,0)] 3 c fun _ c=>Esb 2 0 (I p0.W) c fun _ c=>?_))
 refine E0 (T0 (Fp [(1,0)] 3 c fun _ c=>Esb 2 1 (I p0.Mem) c fun _ c=>?_))
 refine E0 (T0 (Fp [(1,0)] 3 c fun _ c=>?_))
 replace c:=c.ng
 refine Esb 2 2 (I p0.In) c fun _ c=>?_
 refine E0 (T0 (Fp [(1,0)] 2 c fun _ c=>Bd h fun x1 hx1 h=>Cb c (ZeF hx1) ⟨.f 0,tt⟩ call24 fun i1 _ _ c=>?_))
 refine Fp [] 1 c fun _ c=>Esb 2 3 (L i1.1 x1 i1.2) c fun _ c=>?_
 refine E0 (T0 (Fp [(0,2)] 1 c fun _ c=>Ess 1 [I p0.W,I p0.Mem,I p0.In,L i1.1 x1 i1.2] c fun _ c=>?_))
 refine E0 ?_
 cases h
 exact wp_ret (Rg c (i1.1,i1.2) [3] [] (.cell (α:=Agg 3) kk (.b 1) .nil))
theorem Zbq (n:Nat):(∀ {p0 ga0 gc1 r} (h:XY n p0 = some r),Con prog 45 [tV p0 ga0 gc1] [] [lR ga0 p0.Kids gc1] fun (i:Oh)=>([tV r i.1 i.2],[OD (ownT 79) 79 (L i.1 r.Kids i.2) r.Kids],[])) ∧
    (∀ {p0 ga0 gc1 r} (h:Yq n p0 = some r),Con prog 25 [L ga0 p0 gc1] [] [lR ga0 p0 gc1] fun (i:Oh)=>([L i.1 r i.2],[OD (ownT 79) 79 (L i.1 r i.2) r],[])):=by
 induction n with
 | zero=>exact ⟨by intro p0 ga0 gc1 r h; simp [XY] at h,by intro p0 ga0 gc1 r h; simp [Yq] at h⟩
 | succ n ih=>
 obtain ⟨ih0,ih1⟩:=ih
 refine ⟨?_,?_⟩
 · intro p0 ga0 gc1 r h
   rw [XY] at h
   refine En func45 rfl ntmps45 fun _ fr w c=>?_
   refine T0 (Ebx (tC p0 ga0 gc1) c fun b1 _ _ c=>?_)
   refine Eal tZ c fun b2 _ _ c=>?_
   refine E0 (T0 (Eal tZ c fun b3 _ _ c=>?_))
   refine E0 (T0 (Fp [(1,0)] 3 c fun _ c=>Esb 2 0 (I p0.Op) c fun _ c=>?_))
   refine E0 (T0 (Fp [(1,0)] 3 c fun _ c=>Esb 2 1 (I p0.W) c fun _ c=>?_))
   refine E0 (T0 (Fp [(1,0)] 3 c fun _ c=>?_))
   replace c:=c.ng
   refine Esb 2 2 (I p0.N) c fun _ c=>?_
   refine E0 (T0 (Fp [(1,0)] 3 c fun _ c=>Esb 2 3 (Str.val p0.Name) c fun _ c=>?_))
   refine E0 (T0 (Fp [(1,0)] 2 c fun _ c=>Bd h fun x1 hx1 h=>Cb c (ih1 hx1) ⟨.f 0,tt⟩ call25 fun i1 _ _ c=>?_))
   refine Fp [] 1 c fun _ c=>Esb 2 4 (L i1.1 x1 i1.2) c fun _ c=>?_
   refine E0 (T0 (Fp [(0,2)] 1 c fun _ c=>Ess 1 [I p0.Op,I p0.W,I p0.N,Str.val p0.Name,L i1.1 x1 i1.2] c fun _ c=>?_))
   refine E0 ?_
   cases h
   exact wp_ret (Rg c (i1.1,i1.2) [3] [] (.cell (α:=Agg 4) kk (.b 1) .nil))
 · intro p0 ga0 gc1 r h
   rw [Yq] at h
   refine En func25 rfl ntmps25 fun _ fr w c=>?_
   refine P0 [] c fun _ c=>T0 (Fp [] 2 c fun _ c=>Bd h fun x1 hx1 h=>Emkd 79 (⟨0,0,0,⟨[]⟩,⟨none,0,0⟩⟩ : Rw.Term) (fun w=>Zfx 79 w) c hx1 fun a1 c1 _ _ c=>?_)
   refine Fp [] 1 c fun _ c=>E0 (S0 (P0 [] c fun _ c=>Bd h fun rl1 hit1 h=>Lp (fun s1  (i:List Rw.Term)=>([(0,L ga0 p0 gc1),(3,L a1 x1 c1),(4,I s1.1)],fun Γ=>(Γ.set 0 (sl79 (L a1 x1 c1) (i))).set 1 (HP.all (ownT 79) (i) s1.2),[])) (fun  (i:List Rw.Term)=>([(3,L a1 x1 c1)],fun Γ=>(Γ.set 0 (sl79 (L a1 x1 c1) (i))).set 1 (HP.all (ownT 79) (i) rl1),[])) hit1 c ((List.replicate (List.length x1) (⟨0,0,0,⟨[]⟩,⟨none,0,0⟩⟩ : Rw.Term))) (c.rk [0,1] [0]) (fun s1 q1 i1 _ _ c h hr1=>?_) fun k1 _ _ c=>?_))
   refine S0 (P0 [] c fun _ c=>I0 c h (fun h=>?_) fun h=>?_)
   refine K0 (S0 (wp_block (T1 (Fp [] 4 c fun _ c=>Bd h fun x2 hx2 h=>Eem c (.f 0) hx2 fun _ u1 _ c=>?_))))
   obtain ⟨a2,c2,rfl,c⟩:=c.o_Term 1
   refine Bd h fun x3 hx3 h=>Cb c (ih0 hx3) ⟨.f 2,tt⟩ call45 fun i2 _ _ c=>?_
   replace c:=c.pack (H:=ownT 79 (tR x3 i2.1 i2.2) x3) [OD (ownT 79) 79 (L i2.1 x3.Kids i2.2) x3.Kids] [2] (fun A h=>ZfW (x:=x3) (Sep.sole h))
   refine Bd h fun x4 hx4 h=>Esetd 0 1 2 c hx4 fun _ _ _ c=>?_
   refine E1 (bk (tn (P1 [] c fun _ c=>Nx h ((List.set i1 (s1.1).toNat (tR x3 i2.1 i2.2))) (c.rk [0,1] [0]))))
   refine wp_exit (te (te (be ?_)))
   obtain rfl:=hr1 _ (sk h)
   exact tn ⟨(i1),c.rk [0,1] [0]⟩
   refine P0 [] c fun _ c=>?_
   replace c:=c.odc 0 1
   obtain rfl:=sj h
   obtain ⟨he1,c⟩:=c.releno 0
   replace c:=c.eqs (v:=L a1 x1 c1) (u:=L a1 rl1 c1) 2 (by simp only [L,he1])
   exact wp_ret (Rt c (a1,c1) [0] [])
theorem Za7 {n:Nat}:∀ {p0 ga0 gc1 r} (h:Yq n p0 = some r),Con prog 25 [L ga0 p0 gc1] [] [lR ga0 p0 gc1] fun (i:Oh)=>([L i.1 r i.2],[OD (ownT 79) 79 (L i.1 r i.2) r],[]):=(Zbq n).2
theorem Zc2 {p0 r} (h:ZaE n p0 = some r):Con prog 26 [L ga0 p0 gc1] [] [lR ga0 p0 gc1] fun (i:Oh)=>([L i.1 r i.2],[sl3 (L i.1 r i.2) r],[]):=by
 unfold ZaE at h
 refine En func26 rfl ntmps26 fun _ fr w c=>?_
 refine P0 [] c fun _ c=>T0 (Fp [] 2 c fun _ c=>Bd h fun x1 hx1 h=>Emk 3 c hx1 fun a1 c1 _ _ c=>?_)
 refine Fp [] 1 c fun _ c=>E0 (S0 (P0 [] c fun _ c=>Bd h fun rl1 hit1 h=>Lp (fun s1  (_:Unit)=>([(0,L ga0 p0 gc1),(3,L a1 x1 c1),(4,I s1.1)],fun Γ=>Γ.set 0 (sl3 (L a1 x1 c1) s1.2),[])) (fun  (_:Unit)=>([(3,L a1 x1 c1)],fun Γ=>Γ.set 0 (sl3 (L a1 x1 c1) rl1),[])) hit1 c () (c.rk [0] [0]) (fun s1 q1 _ _ _ c h hr1=>?_) fun _ _ _ c=>?_))
 refine S0 (P0 [] c fun _ c=>I0 c h (fun h=>?_) fun h=>?_)
 refine K0 (S0 (wp_block (T1 (Fp [] 4 c fun _ c=>Bd h fun x2 hx2 h=>Eel c (.f 0) hx2 fun _ _ c=>?_))))
 refine Bd h fun x3 hx3 h=>Eset 0 c hx3 fun _ _ _ c=>?_
 refine E1 (bk (tn (P1 [] c fun _ c=>Nx h () (c.rk [0] [0]))))
 refine wp_exit (te (te (be ?_)))
 obtain rfl:=hr1 _ (sk h)
 exact tn ⟨(),c.rk [0] [0]⟩
 refine P0 [] c fun _ c=>?_
 obtain rfl:=sj h
 obtain ⟨he1,c⟩:=c.relen 0
 replace c:=c.eqs (v:=L a1 x1 c1) (u:=L a1 rl1 c1) 2 (by simp only [L,he1])
 exact wp_ret (Rt c (a1,c1) [0] [])
theorem Zal {p0 r} (h:YX n p0 = some r):Con prog 9 [pV p0 ga0 gc1 ga2 gc3 ga4 gc5 ga6 gc7 ga8 gc9 ga10 gc11] [] [lR ga0 p0.Regs gc1,lR ga2 p0.Mem gc3,lR ga4 p0.Stack gc5,lR ga6 p0.Out gc7,lR ga8 p0.Cond gc9,lR ga10 p0.Turns gc11] fun (i:Hp)=>([pJ r i],[OD (ownT 79) 79 (L i.1 r.Regs i.2.1) r.Regs,OD (ownT 79) 79 (L i.p2 r.Mem i.p3) r.Mem,sl3 (L i.p4 r.Stack i.p5) r.Stack,OD (ownT 79) 79 (L i.p6 r.Out i.p7) r.Out,OD (ownT 79) 79 (L i.p8 r.Cond i.p9) r.Cond,sl3 (L i.p10 r.Turns i.q11) r.Turns],[]):=by
 unfold YX at h
 refine En func9 rfl ntmps9 fun _ fr w c=>?_
 refine T0 (Ebx (pC p0 ga0 gc1 ga2 gc3 ga4 gc5 ga6 gc7 ga8 gc9 ga10 gc11) c fun b1 _ _ c=>?_)
 refine Eal pZ c fun b2 _ _ c=>?_
 refine E0 (T0 (Eal pZ c fun b3 _ _ c=>?_))
 refine E0 (T0 (Fp [(1,0)] 3 c fun _ c=>Esb 2 0 (I p0.Pc) c fun _ c=>?_))
 refine E0 (T0 (Fp [(1,0)] 2 c fun _ c=>Bd h fun x1 hx1 h=>Cb c (Za7 hx1) ⟨.f 0,tt⟩ call25 fun i1 _ _ c=>?_))
 refine Fp [] 1 c fun _ c=>?_
 replace c:=c.ng
 refine Esb 2 1 (L i1.1 x1 i1.2) c fun _ c=>?_
 refine E0 (T0 (Fp [(1,0)] 2 c fun _ c=>Bd h fun x2 hx2 h=>Cb c (Za7 hx2) ⟨.f 1,tt⟩ call25 fun i2 _ _ c=>?_))
 refine Fp [] 1 c fun _ c=>Esb 2 2 (L i2.1 x2 i2.2) c fun _ c=>?_
 refine E0 (T0 (Fp [(1,0)] 2 c fun _ c=>Bd h fun x3 hx3 h=>Cb c (Zc2 hx3) ⟨.f 2,tt⟩ call26 fun i3 _ _ c=>?_))
 refine Fp [] 1 c fun _ c=>?_
 replace c:=c.ng
 refine Esb 2 3 (L i3.1 x3 i3.2) c fun _ c=>?_
 refine E0 (T0 (Fp [(1,0)] 3 c fun _ c=>Esb 2 4 (I p0.In) c fun _ c=>?_))
 refine E0 (T0 (Fp [(1,0)] 2 c fun _ c=>Bd h fun x4 hx4 h=>Cb c (Za7 hx4) ⟨.f 3,tt⟩ call25 fun i4 _ _ c=>?_))
 refine Fp [] 1 c fun _ c=>?_
 replace c:=c.ng
 refine Esb 2 5 (L i4.1 x4 i4.2) c fun _ c=>?_
 refine E0 (T0 (Fp [(1,0)] 3 c fun _ c=>Esb 2 6 (I p0.Code) c fun _ c=>?_))
 refine E0 (T0 (Fp [(1,0)] 3 c fun _ c=>Esb 2 7 (I p0.Steps) c fun _ c=>?_))
 refine E0 (T0 (Fp [(1,0)] 2 c fun _ c=>?_))
 replace c:=c.ng
 refine Bd h fun x5 hx5 h=>Cb c (Za7 hx5) ⟨.f 4,tt⟩ call25 fun i5 _ _ c=>?_
 refine Fp [] 1 c fun _ c=>Esb 2 8 (L i5.1 x5 i5.2) c fun _ c=>?_
 refine E0 (T0 (Fp [(1,0)] 2 c fun _ c=>Bd h fun x6 hx6 h=>Cb c (Zc2 hx6) ⟨.f 5,tt⟩ call26 fun i6 _ _ c=>?_))
 refine Fp [] 1 c fun _ c=>?_
 replace c:=c.ng
 refine Esb 2 9 (L i6.1 x6 i6.2) c fun _ c=>?_
 refine E0 (T0 (Fp [(0,2)] 1 c fun _ c=>Ess 1 [I p0.Pc,L i1.1 x1 i1.2,L i2.1 x2 i2.2,L i3.1 x3 i3.2,I p0.In,L i4.1 x4 i4.2,I p0.Code,I p0.Steps,L i5.1 x5 i5.2,L i6.1 x6 i6.2] c fun _ c=>?_))
 refine E0 ?_
 cases h
 exact wp_ret (Rg c (i1.1,i1.2,i2.1,i2.2,i3.1,i3.2,i4.1,i4.2,i5.1,i5.2,i6.1,i6.2) [3,4,5,6,7,8] [] (.cell (α:=Agg 9) kk (.b 1) .nil))
theorem Za4 {p0 r} (h:Xq n p0 = some r):Con prog 10 [L ga0 p0 gc1] [] [lR ga0 p0 gc1] fun (i:Oh)=>([L i.1 r i.2],[OD (ownP 79 3) 42 (L i.1 r i.2) r],[]):=by
 unfold Xq at h
 refine En func10 rfl ntmps10 fun _ fr w c=>?_
 refine P0 [] c fun _ c=>T0 (Fp [] 2 c fun _ c=>Bd h fun x1 hx1 h=>Emkd 42 (⟨0,⟨none,0,0⟩,⟨none,0,0⟩,⟨none,0,0⟩,0,⟨none,0,0⟩,0,0,⟨none,0,0⟩,⟨none,0,0⟩⟩ : Rw.Path) (fun w=>Zfu 79 3 w) c hx1 fun a1 c1 _ _ c=>?_)
 refine Fp [] 1 c fun _ c=>E0 (S0 (P0 [] c fun _ c=>Bd h fun rl1 hit1 h=>Lp (fun s1  (i:List Rw.Path)=>([(0,L ga0 p0 gc1),(3,L a1 x1 c1),(4,I s1.1)],fun Γ=>(Γ.set 0 (sl42 (L a1 x1 c1) (i))).set 1 (HP.all (ownP 79 3) (i) s1.2),[])) (fun  (i:List Rw.Path)=>([(3,L a1 x1 c1)],fun Γ=>(Γ.set 0 (sl42 (L a1 x1 c1) (i))).set 1 (HP.all (ownP 79 3) (i) rl1),[])) hit1 c ((List.replicate (List.length x1) (⟨0,⟨none,0,0⟩,⟨none,0,0⟩,⟨none,0,0⟩,0,⟨none,0,0⟩,0,0,⟨none,0,0⟩,⟨none,0,0⟩⟩ : Rw.Path))) (c.rk [0,1] [0]) (fun s1 q1 i1 _ _ c h hr1=>?_) fun k1 _ _ c=>?_))
 refine S0 (P0 [] c fun _ c=>I0 c h (fun h=>?_) fun h=>?_)
 refine K0 (S0 (wp_block (T1 (Fp [] 4 c fun _ c=>Bd h fun x2 hx2 h=>Eem c (.f 0) hx2 fun _ u1 _ c=>?_))))
 obtain ⟨a2,c2,a3,c3,a4,c4,a5,c5,a6,c6,a7,c7,rfl,c⟩:=c.o_Path 1
 refine Bd h fun x3 hx3 h=>Cb c (Zal hx3) ⟨.f 2,.f 3,.f 4,.f 5,.f 6,.f 7,tt⟩ call9 fun i2 _ _ c=>?_
 replace c:=c.nf
 replace c:=c.pack (H:=ownP 79 3 (Rw.Path.mk x3.Pc (hd i2.1 x3.Regs i2.2.1) (hd i2.p2 x3.Mem i2.p3) (hd i2.p4 x3.Stack i2.p5) x3.In (hd i2.p6 x3.Out i2.p7) x3.Code x3.Steps (hd i2.p8 x3.Cond i2.p9) (hd i2.p10 x3.Turns i2.q11)) x3) [OD (ownT 79) 79 (L i2.1 x3.Regs i2.2.1) x3.Regs,OD (ownT 79) 79 (L i2.p2 x3.Mem i2.p3) x3.Mem,sl3 (L i2.p4 x3.Stack i2.p5) x3.Stack,OD (ownT 79) 79 (L i2.p6 x3.Out i2.p7) x3.Out,OD (ownT 79) 79 (L i2.p8 x3.Cond i2.p9) x3.Cond,sl3 (L i2.p10 x3.Turns i2.q11) x3.Turns] [2,3,4,5,6,7] (fun A h=>Zez (x:=x3) h)
 refine Bd h fun x4 hx4 h=>Esetd 0 1 2 c hx4 fun _ _ _ c=>?_
 refine E1 (bk (tn (P1 [] c fun _ c=>Nx h ((List.set i1 (s1.1).toNat (Rw.Path.mk x3.Pc (hd i2.1 x3.Regs i2.2.1) (hd i2.p2 x3.Mem i2.p3) (hd i2.p4 x3.Stack i2.p5) x3.In (hd i2.p6 x3.Out i2.p7) x3.Code x3.Steps (hd i2.p8 x3.Cond i2.p9) (hd i2.p10 x3.Turns i2.q11)))) (c.rk [0,1] [0]))))
 refine wp_exit (te (te (be ?_)))
 obtain rfl:=hr1 _ (sk h)
 exact tn ⟨(i1),c.rk [0,1] [0]⟩
 refine P0 [] c fun _ c=>?_
 replace c:=c.odc 0 1
 obtain rfl:=sj h
 obtain ⟨he1,c⟩:=c.releno 0
 replace c:=c.eqs (v:=L a1 x1 c1) (u:=L a1 rl1 c1) 2 (by simp only [L,he1])
 exact wp_ret (Rt c (a1,c1) [0] [])
theorem Zu {p0 p1 p2 r} (h:Zm p0 p1 p2 = some r):C0 39 [I p0,I p1,I p2] [] (.bool r):=by
 unfold Zm at h
 refine En func39 rfl ntmps39 fun _ fr w c=>?_
 refine P0 [] c fun _ c=>S0 (Ry [] mix c fun _ _ c=>?_)
 exact rE
theorem Yf {p0 p1 r} (h:ZF p0 p1 = some r):C0 53 [I p0,I p1] [] (.bool r):=by
 unfold ZF at h
 refine En func53 rfl ntmps53 fun _ fr w c=>?_
 refine P0 [] c fun _ c=>Bd h fun x1 hx1 h=>Bd h fun x2 hx2 h=>Bd h fun x3 hx3 h=>S0 (rZ [(1,.eq (.bool x1)),(5,.eq (I x2)),(7,.eq (.bool x3))] [] mix c ⟨Ncl c (kN (Zu hx1)) tt call39,Nshl c (gT hx2),Ncl c (fun hg=>Zu (iteT (gcT hg) hx3)) tt call39,tt⟩ fun _ _ c=>?_)
 exact rE
theorem Xg {p0 r} (h:YK p0 = some r):C0 71 [I p0] [] (.bool r):=by
 unfold YK at h
 refine En func71 rfl ntmps71 fun _ fr w c=>?_
 refine P0 [] c fun _ c=>T0 (Fp [] 1 c fun _ c=>Bd h fun x1 hx1 h=>Cb c (Zu hx1) tt call39 fun _ _ _ c=>?_)
 exact Fp [] 1 c fun _ c=>E0 rE
theorem Ze1 {p0 p1 p2 r} (h:X8 p0 p1 p2 = some r):C0 54 [nV p0,I p1,I p2] [] (.bool r):=by
 unfold X8 at h
 refine En func54 rfl ntmps54 fun _ fr w c=>?_
 refine T0 (Ebx (nC p0) c fun b1 _ _ c=>?_)
 refine Fp [] 1 c fun _ c=>E0 (T0 (Fp [(1,0)] 3 c fun _ c=>Bd h fun x1 hx1 h=>Cb c (Zu hx1) tt call39 fun _ _ _ c=>?_))
 refine Fp [] 1 c fun _ c=>E0 (S0 (P0 [(1,0)] c fun _ c=>wp_block (P0 [] c fun _ c=>I0 c h (fun h=>?_) fun h=>?_)))
 refine Bd h fun x2 hx2 h=>Bd h fun x3 hx3 h=>S0 (rZ [(2,.eq (.bool x2)),(7,.eq (.bool x3))] [(1,0),(6,0),(11,0)] mix c ⟨Ncl c (kN (Xg hx2)) tt call71,Ncl c (fun hg=>Yf (iteT (gcT hg) hx3)) tt call53,tt⟩ fun _ _ c=>?_)
 exact rE
 refine S0 (P0 [] c fun _ c=>Bd h fun rl1 hit1 h=>?_)
 have hk1:=h
 refine Jr (fun s  (_:Unit)=>([(3,B b1 0),(7,.bool x1),(13,I p0.Op),(30,.bool s)],id,[])) hit1 c (fun h=>?_) fun s1r _ _ _ hrl c=>?_
 refine I0 c h (fun h=>?_) fun h=>?_
 refine K0 (⟨_,(),(sk h),c.rk [0] []⟩)
 refine P0 [] c fun _ c=>Mp (p0.Op == 7) [(30,.bool (p0.Op == 7))] [(30,.bool (p0.Op == 8))] [(30,.bool ((p0.Op == 7) || (p0.Op == 8)))] [30,33] c fun _ c=>⟨_,(),(sk h),c.rk [0] []⟩
 subst hrl
 refine I0 c h (fun h=>?_) fun h=>?_
 refine Bd h fun x4 hx4 h=>Bd h fun x5 hx5 h=>S0 (rZ [(2,.eq (.bool x4)),(6,.eq (.bool x5))] [(1,0),(5,0),(10,0)] mix c ⟨Ncl c (kN (Xg hx4)) tt call71,Ncl c (fun hg=>Xg (iteT (gcT hg) hx5)) tt call71,tt⟩ fun _ _ c=>?_)
 exact rE
 refine P0 [] c fun _ c=>I0 c h (fun h=>?_) fun h=>?_
 refine Bd h fun x6 hx6 h=>Bd h fun x7 hx7 h=>Bd h fun x8 hx8 h=>S0 (rZ [(2,.eq (.bool x6)),(6,.eq (.bool x7)),(11,.eq (.bool x8))] [(1,0),(5,0),(10,0)] mix c ⟨Ncl c (kN (Xg hx6)) tt call71,Ncl c (fun hg=>Xg (iteT (gcT hg) hx7)) tt call71,Ncl c (fun hg=>Zu (iteT (gcT hg) hx8)) tt call39,tt⟩ fun _ _ c=>?_)
 exact rE
 refine S0 (P0 [] c fun _ c=>Bd h fun rl2 hit2 h=>?_)
 have hk2:=h
 refine Jr (fun s  (_:Unit)=>([(3,B b1 0),(7,.bool x1),(13,I p0.Op),(62,.bool s)],id,[])) hit2 c (fun h=>?_) fun s2r _ _ _ hrl c=>?_
 refine I0 c h (fun h=>?_) fun h=>?_
 refine K0 (⟨_,(),(sk h),c.rk [0] []⟩)
 refine P0 [] c fun _ c=>I0 c h (fun h=>?_) fun h=>?_
 refine K0 (⟨_,(),(sk h),c.rk [0] []⟩)
 refine P0 [] c fun _ c=>Mp (p0.Op == 6) [(62,.bool (p0.Op == 6))] [(62,.bool (p0.Op == 13))] [(62,.bool ((p0.Op == 6) || (p0.Op == 13)))] [62,66] c fun _ c=>⟨_,(),(sk h),c.rk [0] []⟩
 subst hrl
 refine I0 c h (fun h=>?_) fun h=>?_
 refine Bd h fun x9 hx9 h=>S0 (rZ [(2,.eq (.bool x9))] [(1,0),(5,0),(10,0)] mix c ⟨Ncl c (kN (Xg hx9)) tt call71,tt⟩ fun _ _ c=>?_)
 exact rE
 refine S0 (P0 [] c fun _ c=>Mp (p0.Op == 9) [(80,.bool (p0.Op == 9))] [(80,.bool (p0.Op == 11))] [(80,.bool ((p0.Op == 9) || (p0.Op == 11)))] [80,82] c fun _ c=>I0 c h (fun h=>?_) fun h=>?_)
 refine S0 (Ry [(1,0),(8,0)] mix c fun _ _ c=>?_)
 exact rE
 refine P0 [] c fun _ c=>I0 c h (fun h=>?_) fun h=>?_
 refine Bd h fun x10 hx10 h=>S0 (rZ [(2,.eq (.bool x10))] [(1,0),(8,0)] mix c ⟨Ncl c (kN (Xg hx10)) tt call71,tt⟩ fun _ _ c=>?_)
 exact rE
 refine S0 (P0 [] c fun _ c=>Mp (p0.Op == 12) [(107,.bool (p0.Op == 12))] [(107,.bool (p0.Op == 14))] [(107,.bool ((p0.Op == 12) || (p0.Op == 14)))] [107,109] c fun _ c=>I0 c h (fun h=>?_) fun h=>K1 (bk (tn (P0 [] c fun _ c=>rE))))
 refine S0 (Ry [(1,0),(5,0),(10,0)] mix c fun _ _ c=>?_)
 exact rE
theorem ZdD {p0 r} (h:Zao n p0 = some r):C0 38 [gV p0 ga0 gc1] [lR ga0 p0.Code gc1] (.bool r):=by
 unfold Zao at h
 refine En func38 rfl ntmps38 fun _ fr w c=>?_
 refine T0 (Ebx (gC p0 ga0 gc1) c fun b1 _ _ c=>?_)
 refine Fp [] 1 c fun _ c=>E0 (S0 (Bd h fun x1 hx1 h=>Bd h fun x2 hx2 h=>Bd h fun x3 hx3 h=>Bd h fun x4 hx4 h=>Bd h fun x5 hx5 h=>S0 (rZ [(2,.eq (.bool x1)),(7,.eq (.bool x2)),(15,.eq (.bool x3)),(21,.eq (.bool x4)),(28,.eq (.bool x5))] [(1,0),(6,0),(12,0),(14,0),(20,0),(26,0)] mix c ⟨Ncl c (kN (Zu hx1)) tt call39,Ncl c (fun hg=>Zu (iteF (gcF hg) hx2)) tt call39,Ncl c (fun hg=>Yf (iteF (gcF hg) hx3)) tt call53,Ncl c (fun hg=>Zu (iteF (gcF hg) hx4)) tt call39,Ncl c (fun hg=>Zu (iteF (gcF hg) hx5)) tt call39,tt⟩ fun _ _ c=>I0 c h (fun h=>?_) fun h=>?_)))
 exact P0 [] c fun _ c=>rE
 refine K0 (S0 (P0 [(1,0)] c fun _ c=>Bd h fun rl1 hit1 h=>?_))
 have hk1:=h
 refine LpR (fun s1  (_:Unit)=>([(1,B b1 0),(37,L ga0 p0.Code gc1),(38,I (len p0.Code)),(39,I s1)],id,[])) (fun s  (_:Unit)=>([],id,[])) hit1 c () (c.rk [0] [0]) (fun s1 q1 _ _ _ c h hr1=>?_) fun s1r _ _ _ hrl c=>?_
 refine P0 [] c fun _ c=>S0 (I0 c h (fun h=>?_) fun h=>?_)
 refine K0 (S0 (wp_block (T0 (Bd h fun x6 hx6 h=>Eel c (.f 0) hx6 fun _ _ c=>?_))))
 refine Eal [I 0,I 0,I 0,I 0] c fun b2 _ _ c=>?_
 refine Ess 1 (nC x6) c fun _ c=>?_
 refine E0 (T0 (Fp [(0,1),(2,0),(4,0)] 6 c fun _ c=>Bd h fun x7 hx7 h=>Cb c (Ze1 hx7) tt call54 fun _ _ _ c=>?_))
 refine Fp [] 1 c fun _ c=>E0 (I0 c h (fun h=>?_) fun h=>?_)
 refine P0 [] c fun _ c=>?_
 obtain rfl:=hr1 _ (sk h)
 obtain rfl:=sj hk1
 exact wp_ret (br (tr (tr (br (tr (Rt c () [] []))))))
 refine K1 (bk (tn (P1 [] c fun _ c=>Nx h () (c.rk [0] [0]))))
 refine wp_exit (te (te (be ?_)))
 obtain rfl:=hr1 _ (sk h)
 exact tn ⟨_,(),rfl,c.rk [0] [0]⟩
 subst hrl
 exact P0 [] c fun _ c=>rE
theorem ZeZ {n:Nat}:∀ {p0 p1 ga0 gc1 gb2 r} (h:X9 n p0 p1 = some r),Con prog 72 [tV p0 ga0 gc1,B gb2 0] [BX gb2 3 [I p1]] [lR ga0 p0.Kids gc1] fun (_:Unit)=>([.bool r.1],[BX gb2 3 [I r.2]],[]):=by
 induction n with
 | zero=>intro p0 p1 ga0 gc1 gb2 r h; simp [X9] at h
 | succ n ih=>
 intro p0 p1 ga0 gc1 gb2 r h
 rw [X9] at h
 refine En func72 rfl ntmps72 fun _ fr w c=>?_
 refine T0 (Ebx (tC p0 ga0 gc1) c fun b1 _ _ c=>?_)
 refine Fp [] 1 c fun _ c=>E0 (T0 (Fp [(3,0)] 6 c fun _ c=>Esb 0 0 (I (w64 (p1 - 1))) c fun _ c=>?_))
 refine E0 (S0 (P0 [] c fun _ c=>Bd h fun rl1 hit1 h=>Lp (fun s1  (_:Unit)=>([(1,B gb2 0),(2,B b1 0),(5,I s1.1)],fun Γ=>Γ.set 0 (BX gb2 3 [I s1.2]),[])) (fun  (_:Unit)=>([(1,B gb2 0)],fun Γ=>Γ.set 0 (BX gb2 3 [I rl1]),[])) hit1 c () (c.rk [0,1] [0]) (fun s1 q1 _ _ _ c h hr1=>?_) fun _ _ _ c=>?_))
 refine S0 (S0 (Ry [(2,1),(8,0)] mix c fun _ _ c=>I0 c h (fun h=>?_) fun h=>?_))
 refine K0 (S0 (wp_block (T1 (Fp [(1,1)] 3 c fun _ c=>Bd h fun x1 hx1 h=>Eem c (.f 0) hx1 fun _ u1 _ c=>?_))))
 obtain ⟨a1,c1,rfl,c⟩:=c.o_Term 1
 refine Fp [] 1 c fun _ c=>Bd h fun x2 hx2 h=>Ca [0] c (ih hx2) ⟨.f 2,tt⟩ call72 fun _ _ _ c=>?_
 refine E1 (bk (tn (P1 [] c fun _ c=>Nx h () (c.rk [1,0] [0]))))
 refine wp_exit (te (te (be ?_)))
 obtain rfl:=hr1 _ (sk h)
 exact tn ⟨(),c.rk [0,1] [0]⟩
 refine P0 [(2,0)] c fun _ c=>?_
 cases h
 exact wp_ret (Rt c () [0] [])
theorem ZeC {p0 r} (h:ZaB n p0 = some r):C0 88 [Str.val p0] [] (.bool r):=by
 unfold ZaB at h
 refine En func88 rfl ntmps88 fun _ fr w c=>?_
 refine P0 [] c fun _ c=>S0 (P0 [] c fun _ c=>Bd h fun rl1 hit1 h=>?_)
 have hk1:=h
 refine LpR (fun s1  (_:Unit)=>([(0,Str.val p0),(3,I s1)],id,[])) (fun s  (_:Unit)=>([(0,Str.val p0)],id,[])) hit1 c () (c.rk [] []) (fun s1 q1 _ _ _ c h hr1=>?_) fun s1r _ _ _ hrl c=>?_
 refine S0 (P0 [] c fun _ c=>I0 c h (fun h=>?_) fun h=>?_)
 refine K0 (S0 (wp_block (T0 (Fp [] 2 c fun _ c=>Bd h fun x1 hx1 h=>Eix (kd:=.i64) c hx1 fun _ c=>?_))))
 refine Fp [] 1 c fun _ c=>Bd h fun x2 hx2 h=>Cb c (Zu hx2) tt call39 fun _ _ _ c=>?_
 refine Fp [] 1 c fun _ c=>E0 (Bd h fun x3 hx3 h=>Bd h fun x4 hx4 h=>S0 (rZ [(8,.eq (.int .u8 x3)),(10,.eq (.bool x4))] [] mix c ⟨Nix c (fun hg=>(iteT (gcT (g':=2) (gU 5 hg)) (iteF (gcF (g':=5) hg) hx3))),Ncl c (fun hg=>Zu ((iteT (gcT (g':=2) (gU 5 hg)) (iteF (gcF (g':=5) hg) hx4)))) tt call39,tt⟩ fun _ _ c=>I0 c h (fun h=>?_) fun h=>?_))
 refine P0 [] c fun _ c=>?_
 obtain rfl:=hr1 _ (sk h)
 obtain rfl:=sj hk1
 exact wp_ret (br (tr (tr (br (tr (Rt c () [] []))))))
 refine K1 (bk (tn (P1 [] c fun _ c=>Nx h () (c.rk [] []))))
 refine wp_exit (te (te (be ?_)))
 obtain rfl:=hr1 _ (sk h)
 exact tn ⟨_,(),rfl,c.rk [] []⟩
 subst hrl
 refine T0 (Fp [] 2 c fun _ c=>Bd h fun x5 hx5 h=>Cb c (Zu hx5) tt call39 fun _ _ _ c=>?_)
 exact Fp [] 1 c fun _ c=>E0 rE
theorem Zer {n:Nat}:∀ {p0 ga0 gc1 r} (h:Y4 n p0 = some r),C0 73 [tV p0 ga0 gc1] [lR ga0 p0.Kids gc1] (.bool r):=by
 induction n with
 | zero=>intro p0 ga0 gc1 r h; simp [Y4] at h
 | succ n ih=>
 intro p0 ga0 gc1 r h
 rw [Y4] at h
 refine En func73 rfl ntmps73 fun _ fr w c=>?_
 refine T0 (Ebx (tC p0 ga0 gc1) c fun b1 _ _ c=>?_)
 refine Fp [] 1 c fun _ c=>E0 (P0 [(1,0)] c fun _ c=>S0 (Bd h fun x1 hx1 h=>S0 (rZ [(2,.eq (.bool x1))] [(1,0),(6,0),(10,0),(16,0),(20,0),(25,0)] mix c ⟨Ncl c (kN (Zu hx1)) tt call39,tt⟩ fun _ _ c=>I0 c h (fun h=>?_) fun h=>?_)))
 exact P0 [] c fun _ c=>rE
 refine K0 (S0 (P0 [(1,0)] c fun _ c=>Bd h fun rl1 hit1 h=>?_))
 have hk1:=h
 refine LpR (fun s1  (_:Unit)=>([(1,B b1 0),(3,I (len p0.Kids)),(41,L ga0 p0.Kids gc1),(42,I (len p0.Kids)),(43,I s1)],id,[])) (fun s  (_:Unit)=>([(1,B b1 0),(3,I (len p0.Kids))],id,[])) hit1 c () (c.rk [0] [0]) (fun s1 q1 _ _ _ c h hr1=>?_) fun s1r _ _ _ hrl c=>?_
 refine P0 [] c fun _ c=>S0 (I0 c h (fun h=>?_) fun h=>?_)
 refine K0 (S0 (wp_block (T0 (Bd h fun x2 hx2 h=>Eem c (.f 0) hx2 fun _ u1 _ c=>?_))))
 obtain ⟨a1,c1,rfl,c⟩:=c.o_Term 1
 refine Eal tZ c fun b2 _ _ c=>?_
 refine Ess 1 (tC x2 a1 c1) c fun _ c=>?_
 refine E0 (T0 (Fp [(0,1)] 1 c fun _ c=>Bd h fun x3 hx3 h=>Cb c (ih hx3) ⟨.f 2,tt⟩ call73 fun _ _ _ c=>?_))
 refine Fp [] 1 c fun _ c=>E0 (I0 c h (fun h=>?_) fun h=>?_)
 refine P0 [] c fun _ c=>?_
 obtain rfl:=hr1 _ (sk h)
 obtain rfl:=sj hk1
 exact wp_ret (br (tr (tr (br (tr (Rt c () [] []))))))
 refine K1 (bk (tn (P1 [] c fun _ c=>Nx h () (c.rk [0] [0]))))
 refine wp_exit (te (te (be ?_)))
 obtain rfl:=hr1 _ (sk h)
 exact tn ⟨_,(),rfl,c.rk [0] [0]⟩
 subst hrl
 refine T0 (Elt 3 ([0,0,0]:List Int) c fun a2 c2 _ _ c=>?_)
 refine Fp [] 1 c fun _ c=>E0 (S0 (P0 [] c fun _ c=>Bd h fun rl2 hit2 h=>Lp (fun s2  (_:Unit)=>([(1,B b1 0),(3,I (len p0.Kids)),(6,L a2 ([0,0,0]:List Int) c2),(7,I s2.1)],fun Γ=>Γ.set 1 (sl3 (L a2 ([0,0,0]:List Int) c2) s2.2),[])) (fun  (_:Unit)=>([(1,B b1 0),(3,I (len p0.Kids)),(6,L a2 ([0,0,0]:List Int) c2)],fun Γ=>Γ.set 1 (sl3 (L a2 ([0,0,0]:List Int) c2) rl2),[])) hit2 c () (c.rk [0,1] [0]) (fun s2 q2 _ _ _ c h hr2=>?_) fun _ _ _ c=>?_))
 refine S0 (S0 (Ry [] mix c fun _ _ c=>I0 c h (fun h=>?_) fun h=>?_))
 refine K0 (S0 (wp_block (T1 (Fp [(3,0)] 5 c fun _ c=>Bd h fun x4 hx4 h=>Eef c (.f 0) hx4 Zbr fun _ _ _ c=>?_))))
 refine Bd h fun x5 hx5 h=>Eset 1 c hx5 fun _ _ _ c=>?_
 refine E1 (bk (tn (P1 [] c fun _ c=>Nx h () (c.rk [0,1] [0]))))
 refine wp_exit (te (te (be ?_)))
 obtain rfl:=hr2 _ (sk h)
 exact tn ⟨(),c.rk [0,1] [0]⟩
 refine S0 (wp_block (P0 [(1,0)] c fun _ c=>I0 c h (fun h=>?_) fun h=>?_))
 refine Bd h fun x6 hx6 h=>S0 (rZ [(7,.eq (.bool x6))] [(4,0),(6,0)] mix c ⟨Ncl c (fun hg=>Yf (iteT (gcT hg) hx6)) tt call53,tt⟩ fun _ _ c=>?_)
 exact rE
 refine P0 [(1,0)] c fun _ c=>I0 c h (fun h=>?_) fun h=>?_
 refine Bd h fun x7 hx7 h=>S0 (rZ [(5,.eq (.bool x7))] [(4,0)] mix c ⟨Ncl c (fun hg=>ZeC (iteT (gcT hg) hx7)) tt call88,tt⟩ fun _ _ c=>?_)
 exact rE
 refine T0 (Fp [(1,0)] 2 c fun _ c=>Bd h fun x8 hx8 h=>Cb c (Zu hx8) tt call39 fun _ _ _ c=>?_)
 refine Fp [] 1 c fun _ c=>E0 (I0 c h (fun h=>?_) fun h=>?_)
 refine Bd h fun x9 hx9 h=>S0 (rZ [(4,Pd.el (x9:Int)),(5,.eq (I x9))] [(7,0)] mix c ⟨Nid c (.g 1) (gT hx9),Nld c 4 (q:=x9) (atN 4),tt⟩ fun _ _ c=>?_)
 exact rE
 refine T0 (Fp [(1,0)] 2 c fun _ c=>Bd h fun x10 hx10 h=>Cb c (Zu hx10) tt call39 fun _ _ _ c=>?_)
 refine Fp [] 1 c fun _ c=>E0 (I0 c h (fun h=>?_) fun h=>?_)
 refine Bd h fun x11 hx11 h=>Bd h fun x12 hx12 h=>S0 (rZ [(4,Pd.el (x11:Int)),(5,.eq (I x11)),(12,Pd.el (x12:Int)),(13,.eq (I x12))] [(7,0),(15,0)] mix c ⟨Nid c (.g 1) (gT hx11),Nld c 4 (q:=x11) (atN 4),Nid c (.g 1) (gT hx12),Nld c 12 (q:=x12) (atN 12),tt⟩ fun _ _ c=>?_)
 exact rE
 refine T0 (Fp [(1,0)] 2 c fun _ c=>Bd h fun x13 hx13 h=>Cb c (Zu hx13) tt call39 fun _ _ _ c=>?_)
 refine Fp [] 1 c fun _ c=>E0 (I0 c h (fun h=>?_) fun h=>?_)
 refine Bd h fun x14 hx14 h=>Bd h fun x15 hx15 h=>S0 (rZ [(4,Pd.el (x14:Int)),(5,.eq (I x14)),(7,Pd.el (x15:Int)),(8,.eq (I x15))] [(13,0)] mix c ⟨Nid c (.g 1) (gT hx14),Nld c 4 (q:=x14) (atN 4),Nid c (.g 1) (gT hx15),Nld c 7 (q:=x15) (atN 7),tt⟩ fun _ _ c=>?_)
 exact rE
 refine P0 [(1,0)] c fun _ c=>I0 c h (fun h=>?_) fun h=>?_
 refine Bd h fun x16 hx16 h=>Bd h fun x17 hx17 h=>Bd h fun x18 hx18 h=>S0 (rZ [(4,Pd.el (x16:Int)),(5,.eq (I x16)),(10,Pd.el (x17:Int)),(11,.eq (I x17)),(18,Pd.el (x18:Int)),(19,.eq (I x18))] [(13,0),(21,0)] mix c ⟨Nid c (.g 1) (gT hx16),Nld c 4 (q:=x16) (atN 4),Nid c (.g 1) (gT hx17),Nld c 10 (q:=x17) (atN 10),Nid c (.g 1) (gT hx18),Nld c 18 (q:=x18) (atN 18),tt⟩ fun _ _ c=>?_)
 exact rE
 refine P0 [(1,0)] c fun _ c=>I0 c h (fun h=>?_) fun h=>?_
 refine Bd h fun x19 hx19 h=>Bd h fun x20 hx20 h=>S0 (rZ [(4,Pd.el (x19:Int)),(5,.eq (I x19)),(7,Pd.el (x20:Int)),(8,.eq (I x20))] [(11,0)] mix c ⟨Nid c (.g 1) (gT hx19),Nld c 4 (q:=x19) (atN 4),Nid c (.g 1) (gT hx20),Nld c 7 (q:=x20) (atN 7),tt⟩ fun _ _ c=>?_)
 exact rE
 refine P0 [(1,0)] c fun _ c=>I0 c h (fun h=>?_) fun h=>?_
 refine Bd h fun x21 hx21 h=>Bd h fun x22 hx22 h=>S0 (rZ [(5,.eq (.bool x21)),(14,Pd.el (x22:Int)),(15,.eq (I x22))] [(4,0),(9,0),(11,0)] mix c ⟨Ncl c (fun hg=>Zu (iteT (gcT hg) hx21)) tt call39,Nid c (.g 1) (gT hx22),Nld c 14 (q:=x22) (atN 14),tt⟩ fun _ _ c=>?_)
 exact rE
 refine K1 (bk (tn (Bd h fun x23 hx23 h=>Bd h fun x24 hx24 h=>S0 (rZ [(2,.eq (.bool x23)),(9,Pd.el (x24:Int)),(10,.eq (I x24))] [(1,0),(12,0)] mix c ⟨Ncl c (kN (Zu hx23)) tt call39,Nid c (.g 1) (gT hx24),Nld c 9 (q:=x24) (atN 9),tt⟩ fun _ _ c=>?_))))
 exact rE
theorem Zcq {n:Nat}:∀ {p0 p1 ga0 gc1 ga2 gc3 r} (h:YT n p0 p1 = some r),Con prog 74 [tV p0 ga0 gc1,L ga2 p1 gc3] [] [lR ga0 p0.Kids gc1,lR ga2 p1 gc3] fun (i:Oh)=>([L i.1 r.1 i.2,.bool r.2],[],[lR i.1 r.1 i.2]):=by
 induction n with
 | zero=>intro p0 p1 ga0 gc1 ga2 gc3 r h; simp [YT] at h
 | succ n ih=>
 intro p0 p1 ga0 gc1 ga2 gc3 r h
 rw [YT] at h
 refine En func74 rfl ntmps74 fun _ fr w c=>?_
 refine T0 (Ebx (tC p0 ga0 gc1) c fun b1 _ _ c=>?_)
 refine Fp [] 2 c fun _ c=>E0 (S0 (P0 [(1,0)] c fun _ c=>I0 c h (fun h=>?_) fun h=>?_))
 refine P0 [] c fun _ c=>Bd h fun rl1 hit1 h=>S0 (Lp (fun s1  (_:Unit)=>([(1,L ga2 p1 gc3),(2,B b1 0),(6,I s1)],id,[])) (fun  (_:Unit)=>([(1,L ga2 p1 gc3),(2,B b1 0),(6,I rl1)],id,[])) hit1 c () (c.rk [0] [0,1]) (fun s1 q1 _ _ _ c h hr1=>?_) fun _ _ _ c=>?_)
 refine S0 (Bd h fun x1 hx1 h=>S0 (rZ [(7,Pd.el (x1:D.Value)),(8,Pd.fl (Str.val x1.Name)),(9,.eq (Str.val x1.Name))] [(11,0)] mix c ⟨Nid c (.f 1) (gT hx1),Nfa c 7 (atN 7) ZhS,Nlf c 8 (atN 8),tt⟩ fun _ _ c=>I0 c h (fun h=>?_) fun h=>?_))
 refine K0 (wp_block (Tq (P1 [] c fun _ c=>bk (tn (Nx h () (c.rk [0] [0,1]))))))
 refine wp_exit (te (te (be ?_)))
 obtain rfl:=hr1 _ (sk h)
 exact tn ⟨(),c.rk [0] [0,1]⟩
 refine S0 (Bd h fun x2 hx2 h=>S0 (rZ [(7,Pd.el (x2:D.Value)),(8,Pd.fl (Str.val x2.Name)),(9,.eq (Str.val x2.Name))] [(11,0)] mix c ⟨Nid c (.f 1) (gT hx2),Nfa c 7 (atN 7) ZhS,Nlf c 8 (atN 8),tt⟩ fun _ _ c=>I0 c h (fun h=>?_) fun h=>?_))
 refine Bd h fun x3 hx3 h=>S0 (rZ [(3,Pd.el (x3:D.Value)),(4,Pd.fl (I x3.W)),(5,.eq (I x3.W))] [(7,0)] mix c ⟨Nid c (.f 1) (kN hx3),Nfa c 3 (atN 3) Zks,Nlf c 4 (atN 4),tt⟩ fun _ _ c=>?_)
 cases h
 exact wp_ret (tr (tr (Rg c (ga2,gc3) [] [1] (.tmp (.tmp .nil)))))
 refine K0 (T0 (Elt 111 ([]:List D.Value) c fun a1 c1 _ _ c=>?_))
 refine Fp [] 2 c fun _ c=>Bd h fun x4 hx4 h=>Esl 111 c (.f 1) hx4 fun u1 _ c=>?_
 obtain ⟨a2,c2,rfl⟩:=c.sl 2
 refine Bd h fun x5 hx5 h=>Eap 1 c (.f 2) hx5 fun a3 c3 _ _ c=>?_
 refine Fp [] 1 c fun _ c=>E0 (T0 (Fp [(2,0),(4,0)] 6 c fun _ c=>Elt 111 ([(D.Value.mk p0.Name p0.W 0)]:List D.Value) c fun a4 c4 _ _ c=>?_))
 refine Bd h fun x6 hx6 h=>Eap 1 c (.g 2) hx6 fun a5 c5 _ _ c=>?_
 refine Fp [] 1 c fun _ c=>E0 (T0 (Fp [] 3 c fun _ c=>?_))
 replace c:=c.nf
 refine Bd h fun x7 hx7 h=>Esl 111 c (.f 1) hx7 fun u2 _ c=>?_
 obtain ⟨a6,c6,rfl⟩:=c.sl 3
 refine Bd h fun x8 hx8 h=>Eap 1 c (.f 3) hx8 fun a7 c7 _ _ c=>?_
 refine Fp [] 2 c fun _ c=>E0 ?_
 replace c:=c.fz 1
 cases h
 exact wp_ret (tr (Rg c (a7,c7) [] [4] (.tmp (.tmp .nil))))
 refine K0 (S0 (P0 [(1,0)] c fun _ c=>Bd h fun rl2 hit2 h=>?_))
 have hk2:=h
 refine LpR (fun s2  (i:Oh)=>([(1,L i.1 s2.1 i.2),(73,L ga0 p0.Kids gc1),(74,I (len p0.Kids)),(75,I s2.2)],id,[lR i.1 s2.1 i.2])) (fun s  (i:Oh)=>([(1,L i.1 s i.2)],id,[lR i.1 s i.2])) hit2 c (ga2,gc3) (c.rk [0] [0,1,1]) (fun s2 q2 i1 _ _ c h hr2=>?_) fun s2r k1 _ _ hrl c=>?_
 refine P0 [] c fun _ c=>S0 (I0 c h (fun h=>?_) fun h=>?_)
 refine K0 (S0 (wp_block (T0 (Bd h fun x9 hx9 h=>Eem c (.f 0) hx9 fun _ u3 _ c=>?_))))
 obtain ⟨a8,c8,rfl,c⟩:=c.o_Term 3
 refine Eal tZ c fun b2 _ _ c=>?_
 refine Ess 1 (tC x9 a8 c8) c fun _ c=>?_
 refine E0 (T0 (Fp [(0,1)] 2 c fun _ c=>Bd h fun x10 hx10 h=>Cg c (ih hx10) ⟨.f 4,.f 2,tt⟩ call74 fun i2 _ _ c=>?_))
 refine Fp [] 5 c fun _ c=>E0 (S0 (P0 [] c fun _ c=>I0 c h (fun h=>?_) fun h=>?_))
 refine P0 [] c fun _ c=>?_
 obtain rfl:=hr2 _ (sk h)
 obtain rfl:=sj hk2
 replace c:=c.nilf (α:=D.Value)
 exact wp_ret (tr (br (tr (tr (br (tr (Rg c (none,0) [] [6] (.tmp (.tmp .nil)))))))))
 refine K0 (Tq (P1 [] c fun _ c=>bk (tn (P1 [] c fun _ c=>Nx h (i2.1,i2.2) (c.rk [0] [0,1,5])))))
 refine wp_exit (te (te (be ?_)))
 obtain rfl:=hr2 _ (sk h)
 exact tn ⟨_,(i1.1,i1.2),rfl,c.rk [0] [0,1,2]⟩
 subst hrl
 refine P0 [] c fun _ c=>?_
 cases h
 exact wp_ret (Rg c (k1.1,k1.2) [] [2] (.tmp (.tmp .nil)))
theorem ZbB {p0 r} (h:Xl n p0 = some r):C0 55 [tV p0 ga0 gc1] [lR ga0 p0.Kids gc1] (.bool r):=by
 unfold Xl at h
 refine En func55 rfl ntmps55 fun _ fr w c=>?_
 refine T0 (Ebx (tC p0 ga0 gc1) c fun b1 _ _ c=>?_)
 refine Fp [] 1 c fun _ c=>E0 (T0 (Eal [I 0] c fun b2 _ _ c=>?_))
 refine Esb 1 0 (I 240) c fun _ c=>?_
 refine E0 (S0 (T0 (Fp [(0,0)] 1 c fun _ c=>Bd h fun x1 hx1 h=>Ca [1] c (ZeZ hx1) ⟨.f 0,tt⟩ call72 fun _ _ _ c=>?_)))
 refine Fp [] 1 c fun _ c=>Fp [] 1 c fun _ c=>?_
 rcases Zi7 (b:=(!x1.1)) h with ⟨hg1,h⟩ | ⟨hg1,h⟩
 replace c:=c.eqs (v:=.bool (!x1.1)) (u:=.bool true) 9 (by rw [hg1])
 refine Gs c fun _ c=>Gs c fun _ c=>Gs c fun _ c=>Epk (b:=true) (v:=.bool true) c fun _ c=>E0 (I0 c h (fun h=>P0 [] c fun _ c=>rE) fun h=>?_)
 refine K0 (T0 (Fp [(0,0)] 1 c fun _ c=>Bd h fun x2 hx2 h=>Cg c (Zcq hx2) ⟨.f 0,.nil,tt⟩ call74 fun i1 _ _ c=>?_))
 exact Fp [] 5 c fun _ c=>E0 (P0 [] c fun _ c=>rE)
 replace c:=c.eqs (v:=.bool (!x1.1)) (u:=.bool false) 9 (by rw [hg1])
 refine Gt c ?_
 dsimp only [List.set]
 refine Fp [(4,0)] 1 c fun _ c=>Gt c ?_
 dsimp only [List.set]
 refine Bd h fun x3 hx3 h=>Cb c (Zer hx3) ⟨.f 0,tt⟩ call73 fun _ _ _ c=>?_
 refine Gt c ?_
 dsimp only [List.set]
 refine Fp [] 1 c fun _ c=>Epk (b:=false) (v:=.bool (!x3)) c fun _ c=>E0 (I0 c h (fun h=>P0 [] c fun _ c=>rE) fun h=>?_)
 refine K0 (T0 (Fp [(0,0)] 1 c fun _ c=>?_))
 replace c:=c.nf
 refine Bd h fun x4 hx4 h=>Cg c (Zcq hx4) ⟨.f 0,.nil,tt⟩ call74 fun i2 _ _ c=>?_
 exact Fp [] 5 c fun _ c=>E0 (P0 [] c fun _ c=>rE)
theorem Zas {p0 p1 r} (h:YY n p0 p1 = some r):C0 40 [L ga0 p0 gc1,I p1] [lR ga0 p0 gc1] (.bool r):=by
 unfold YY at h
 refine En func40 rfl ntmps40 fun _ fr w c=>?_
 refine P0 [] c fun _ c=>S0 (P0 [] c fun _ c=>Bd h fun rl1 hit1 h=>?_)
 have hk1:=h
 refine LpR (fun s1  (_:Unit)=>([(1,I p1),(7,L ga0 p0 gc1),(8,I (len p0)),(9,I s1)],id,[])) (fun s  (_:Unit)=>([],id,[])) hit1 c () (c.rk [] [0]) (fun s1 q1 _ _ _ c h hr1=>?_) fun s1r _ _ _ hrl c=>?_
 refine P0 [] c fun _ c=>S0 (I0 c h (fun h=>?_) fun h=>?_)
 refine K0 (S0 (wp_block (T0 (Bd h fun x1 hx1 h=>Eem c (.f 0) hx1 fun _ u1 _ c=>?_))))
 obtain ⟨a1,c1,rfl,c⟩:=c.o_Term 1
 refine Eal tZ c fun b1 _ _ c=>?_
 refine Ess 0 (tC x1 a1 c1) c fun _ c=>?_
 refine E0 (Bd h fun x2 hx2 h=>S0 (rZ [(1,.eq (.bool x2))] [(0,0),(5,0)] mix c ⟨Ncl c (kN (ZbB hx2)) ⟨.f 2,tt⟩ call55,tt⟩ fun _ _ c=>I0 c h (fun h=>?_) fun h=>?_))
 refine P0 [] c fun _ c=>?_
 obtain rfl:=hr1 _ (sk h)
 obtain rfl:=sj hk1
 exact wp_ret (br (tr (tr (br (tr (Rt c () [] []))))))
 refine K1 (bk (tn (P1 [] c fun _ c=>Nx h () (c.rk [] [0]))))
 refine wp_exit (te (te (be ?_)))
 obtain rfl:=hr1 _ (sk h)
 exact tn ⟨_,(),rfl,c.rk [] [0]⟩
 subst hrl
 exact P0 [] c fun _ c=>rE
theorem Zx {p0 p1 r} (h:Xn n p0 p1 = some r):C0 22 [gV p0 ga0 gc1,pV p1 ga2 gc3 ga4 gc5 ga6 gc7 ga8 gc9 ga10 gc11 ga12 gc13] [lR ga0 p0.Code gc1,lR ga2 p1.Regs gc3,lR ga4 p1.Mem gc5,lR ga6 p1.Stack gc7,lR ga8 p1.Out gc9,lR ga10 p1.Cond gc11,lR ga12 p1.Turns gc13] (.bool r):=by
 unfold Xn at h
 refine En func22 rfl ntmps22 fun _ fr w c=>?_
 refine T0 (Ebx (gC p0 ga0 gc1) c fun b1 _ _ c=>?_)
 refine Ebx (pC p1 ga2 gc3 ga4 gc5 ga6 gc7 ga8 gc9 ga10 gc11 ga12 gc13) c fun b2 _ _ c=>?_
 refine Fp [] 1 c fun _ c=>E0 (S0 (Bd h fun x1 hx1 h=>Bd h fun x2 hx2 h=>Bd h fun x3 hx3 h=>Bd h fun x4 hx4 h=>Bd h fun x5 hx5 h=>S0 (rZ [(1,.eq (.bool x1)),(9,.eq (.bool x2)),(37,.eq (.bool x3)),(49,.eq (.bool x4)),(55,.eq (.bool x5))] [(0,0),(5,1),(7,0),(14,1),(20,1),(23,0),(28,1),(34,1),(36,0),(42,1),(48,1),(54,1),(60,1),(66,1)] mix c ⟨Ncl c (kN (ZdD hx1)) ⟨.f 0,tt⟩ call38,Ncl c (fun hg=>Zu (iteF (gcF hg) hx2)) tt call39,Ncl c (fun hg=>Zu (iteF (gcF hg) hx3)) tt call39,Ncl c (fun hg=>Zu (iteF (gcF hg) hx4)) tt call39,Ncl c (fun hg=>Zu (iteF (gcF hg) hx5)) tt call39,tt⟩ fun _ _ c=>I0 c h (fun h=>?_) fun h=>?_)))
 exact P0 [] c fun _ c=>rE
 refine K0 (S0 (P0 [(1,1)] c fun _ c=>Bd h fun rl1 hit1 h=>?_))
 have hk1:=h
 refine LpR (fun s1  (_:Unit)=>([(2,B b1 0),(3,B b2 0),(80,L ga6 p1.Stack gc7),(81,I (len p1.Stack)),(82,I s1)],id,[])) (fun s  (_:Unit)=>([(2,B b1 0),(3,B b2 0)],id,[])) hit1 c () (c.rk [0,1] (rg 7)) (fun s1 q1 _ _ _ c h hr1=>?_) fun s1r _ _ _ hrl c=>?_
 refine P0 [] c fun _ c=>S0 (I0 c h (fun h=>?_) fun h=>?_)
 refine K0 (S0 (wp_block (T0 (Bd h fun x6 hx6 h=>Eel c (.f 3) hx6 fun _ _ c=>?_))))
 refine Fp [] 1 c fun _ c=>E0 (T0 (Fp [(2,0)] 4 c fun _ c=>Bd h fun x7 hx7 h=>Cb c (Zu hx7) tt call39 fun _ _ _ c=>?_))
 refine Fp [] 1 c fun _ c=>E0 (I0 c h (fun h=>?_) fun h=>?_)
 refine P0 [] c fun _ c=>?_
 obtain rfl:=hr1 _ (sk h)
 obtain rfl:=sj hk1
 exact wp_ret (br (tr (tr (br (tr (Rt c () [] []))))))
 refine K1 (bk (tn (P1 [] c fun _ c=>Nx h () (c.rk [0,1] (rg 7)))))
 refine wp_exit (te (te (be ?_)))
 obtain rfl:=hr1 _ (sk h)
 exact tn ⟨_,(),rfl,c.rk [0,1] (rg 7)⟩
 subst hrl
 refine S0 (P0 [(1,1)] c fun _ c=>Bd h fun rl2 hit2 h=>?_)
 have hk2:=h
 refine LpR (fun s2  (_:Unit)=>([(2,B b1 0),(3,B b2 0),(94,L ga12 p1.Turns gc13),(95,I (len p1.Turns)),(96,I s2)],id,[])) (fun s  (_:Unit)=>([(2,B b1 0),(3,B b2 0)],id,[])) hit2 c () (c.rk [0,1] (rg 7)) (fun s2 q2 _ _ _ c h hr2=>?_) fun s2r _ _ _ hrl c=>?_
 refine P0 [] c fun _ c=>S0 (I0 c h (fun h=>?_) fun h=>?_)
 refine K0 (S0 (wp_block (T0 (Bd h fun x8 hx8 h=>Eel c (.f 6) hx8 fun _ _ c=>?_))))
 refine Fp [] 1 c fun _ c=>E0 (T0 (Fp [] 1 c fun _ c=>Bd h fun x9 hx9 h=>Cb c (Zu hx9) tt call39 fun _ _ _ c=>?_))
 refine Fp [] 1 c fun _ c=>E0 (I0 c h (fun h=>?_) fun h=>?_)
 refine P0 [] c fun _ c=>?_
 obtain rfl:=hr2 _ (sk h)
 obtain rfl:=sj hk2
 exact wp_ret (br (tr (tr (br (tr (Rt c () [] []))))))
 refine K1 (bk (tn (P1 [] c fun _ c=>Nx h () (c.rk [0,1] (rg 7)))))
 refine wp_exit (te (te (be ?_)))
 obtain rfl:=hr2 _ (sk h)
 exact tn ⟨_,(),rfl,c.rk [0,1] (rg 7)⟩
 subst hrl
 refine Bd h fun x10 hx10 h=>Bd h fun x11 hx11 h=>Bd h fun x12 hx12 h=>Bd h fun x13 hx13 h=>S0 (rZ [(4,.eq (.bool x10)),(10,.eq (.bool x11)),(17,.eq (.bool x12)),(22,.eq (.bool x13))] [(1,1),(3,0),(7,1),(9,0),(14,1),(16,0),(21,1)] mix c ⟨Ncl c (kN (Zas hx10)) ⟨.f 1,tt⟩ call40,Ncl c (fun hg=>Zas (iteT (gcT hg) hx11)) ⟨.f 2,tt⟩ call40,Ncl c (fun hg=>Zas (iteT (gcT hg) hx12)) ⟨.f 4,tt⟩ call40,Ncl c (fun hg=>Zas (iteT (gcT hg) hx13)) ⟨.f 5,tt⟩ call40,tt⟩ fun _ _ c=>?_)
 exact rE
theorem ZbP {n:Nat}:∀ {p0 r} (h:Ym n p0 = some r),C0 75 [I p0] [] (Str.val r):=by
 induction n with
 | zero=>intro p0 r h; simp [Ym] at h
 | succ n ih=>
 intro p0 r h
 rw [Ym] at h
 refine En func75 rfl ntmps75 fun _ fr w c=>?_
 refine P0 [] c fun _ c=>S0 (P0 [] c fun _ c=>I0 c h (fun h=>?_) fun h=>?_)
 refine S0 (T0 (Fp [] 1 c fun _ c=>Bd h fun x1 hx1 h=>Equo c hx1 fun _ c=>?_))
 refine Fp [] 1 c fun _ c=>E0 (I0 c h (fun h=>?_) fun h=>?_)
 refine T0 (Fp [] 3 c fun _ c=>Elt 5 ([(Byt.mk (IntKind.u8.wrap (w64 (48 - p0))))]:List Byt) c fun a1 c1 _ _ c=>?_)
 refine Ebs c (.g 0) (fun _ c=>?_) Tryz.underlying102
 refine Bd h fun x2 hx2 h=>Ecat c hx2 fun _ c=>?_
 exact Fp [] 1 c fun _ c=>E0 rE
 refine K0 (Bd h fun x3 hx3 h=>Bd h fun x4 hx4 h=>Bd h fun x5 hx5 h=>Bd h fun x6 hx6 h=>S0 (Jn (fun _:Unit=>([(2,Str.val x6)],id,[])) c ?_ fun _ _ _ c=>?_))
 refine As mix c fun _ c=>?_
 replace c:=Cx.frs [(0,I p0)] c
 refine Dq (fun _:Unit=>([(24,Str.val x6)],id,[])) (bN 11 1023) (fun _=>[(10,2,Str.val x6)]) c (fun _=>?_) fun hd12=>?_
 refine qnE ⟨qP [],tt⟩ fun _ _ c=>?_
 exact nN () (c.rk [] [])
 refine Dq (fun _:Unit=>([(17,Str.val x4),(23,Str.val (strOf ([(Byt.mk (IntKind.u8.wrap (w64 (48 - x5))))]:List Byt)))],id,[])) (bN 11 511) (fun _=>[]) c (fun _=>?_) fun hd11=>?_
 refine qn [9] tt ⟨fun _ _ c=>?_,tt⟩
 refine Zc _ rfl rfl ?_
 refine Ecat c hx6 fun _ c=>?_
 refine E0 (nQ hd12 () (c.rk [] []))
 refine Dq (fun i:Oh=>([(17,Str.val x4),(22,L i.1 ([(Byt.mk (IntKind.u8.wrap (w64 (48 - x5))))]:List Byt) i.2)],fun Γ=>Γ ++ [sl5 (L i.1 ([(Byt.mk (IntKind.u8.wrap (w64 (48 - x5))))]:List Byt) i.2) ([(Byt.mk (IntKind.u8.wrap (w64 (48 - x5))))]:List Byt)],[])) (bN 11 255) (fun i=>[]) c (fun i3=>?_) fun hd9=>?_
 obtain ⟨a7,c7⟩:=i3
 refine qn [8] tt ⟨fun _ _ c=>?_,tt⟩
 refine Zc _ rfl rfl ?_
 refine Ebs c (.g 0) (fun _ c=>?_) Tryz.underlying102
 refine E0 (nQ hd11 () (c.rk [] []))
 refine Dq (fun _:Unit=>([(16,I x3),(23,Str.val (strOf ([(Byt.mk (IntKind.u8.wrap (w64 (48 - x5))))]:List Byt)))],id,[])) (bN 11 507) (fun _=>[]) c (fun _=>?_) fun hd10=>?_
 refine qn [2] tt ⟨fun _ _ c=>?_,tt⟩
 refine Zc _ rfl rfl ?_
 refine Cb c (ih hx4) tt call75 fun _ _ _ c=>?_
 refine E0 (nQ hd11 () (c.rk [] []))
 refine Dq (fun _:Unit=>([(17,Str.val x4),(19,I x5)],id,[])) (bN 11 31) (fun _=>[(5,20,I (w64 (48 - x5))),(6,21,.int .u8 (IntKind.u8.wrap (w64 (48 - x5))))]) c (fun _=>?_) fun hd6=>?_
 refine qn [7] ⟨qP [],qP [],tt⟩ ⟨fun _ _ c=>?_,tt⟩
 refine Zc _ rfl rfl ?_
 refine Elt 5 ([(Byt.mk (IntKind.u8.wrap (w64 (48 - x5))))]:List Byt) c fun a6 c6 _ _ c=>?_
 refine E0 (nQ hd9 (a6,c6) (c.rk [0] []))
 refine Dq (fun i:Oh=>([(16,I x3),(22,L i.1 ([(Byt.mk (IntKind.u8.wrap (w64 (48 - x5))))]:List Byt) i.2)],fun Γ=>Γ ++ [sl5 (L i.1 ([(Byt.mk (IntKind.u8.wrap (w64 (48 - x5))))]:List Byt) i.2) ([(Byt.mk (IntKind.u8.wrap (w64 (48 - x5))))]:List Byt)],[])) (bN 11 251) (fun i=>[]) c (fun i2=>?_) fun hd7=>?_
 obtain ⟨a5,c5⟩:=i2
 refine qn [2,8] tt ⟨fun _ _ c=>?_,fun _ _ c=>?_,tt⟩
 refine Zc _ rfl rfl ?_
 refine Cb c (ih hx4) tt call75 fun _ _ _ c=>?_
 refine E0 (nQ hd9 (a5,c5) (c.rk [0] []))
 refine Zc _ rfl rfl ?_
 refine Ebs c (.g 0) (fun _ c=>?_) Tryz.underlying102
 refine E0 (nQ hd10 () (c.rk [] []))
 refine Dq (fun _:Unit=>([(0,I p0),(23,Str.val (strOf ([(Byt.mk (IntKind.u8.wrap (w64 (48 - x5))))]:List Byt)))],id,[])) (bN 11 504) (fun _=>[(0,15,I p0)]) c (fun _=>?_) fun hd8=>?_
 refine qn [1] ⟨qP [],tt⟩ ⟨fun _ _ c=>?_,tt⟩
 refine Zc _ rfl rfl ?_
 refine Equo c hx3 fun _ c=>?_
 refine E0 (nQ hd10 () (c.rk [] []))
 refine Dq (fun _:Unit=>([(0,I p0),(17,Str.val x4)],id,[])) (bN 11 7) (fun _=>[(3,18,I p0)]) c (fun _=>?_) fun hd3=>?_
 refine qn [4] ⟨qP [],tt⟩ ⟨fun _ _ c=>?_,tt⟩
 refine Zc _ rfl rfl ?_
 refine Erem c hx5 fun _ c=>?_
 refine E0 (nQ hd6 () (c.rk [] []))
 refine Dq (fun _:Unit=>([(16,I x3),(19,I x5)],id,[])) (bN 11 27) (fun _=>[(5,20,I (w64 (48 - x5))),(6,21,.int .u8 (IntKind.u8.wrap (w64 (48 - x5))))]) c (fun _=>?_) fun hd4=>?_
 refine qn [2,7] ⟨qP [],qP [],tt⟩ ⟨fun _ _ c=>?_,fun _ _ c=>?_,tt⟩
 refine Zc _ rfl rfl ?_
 refine Cb c (ih hx4) tt call75 fun _ _ _ c=>?_
 refine E0 (nQ hd6 () (c.rk [] []))
 refine Zc _ rfl rfl ?_
 refine Elt 5 ([(Byt.mk (IntKind.u8.wrap (w64 (48 - x5))))]:List Byt) c fun a4 c4 _ _ c=>?_
 refine E0 (nQ hd7 (a4,c4) (c.rk [0] []))
 refine Dq (fun i:Oh=>([(0,I p0),(22,L i.1 ([(Byt.mk (IntKind.u8.wrap (w64 (48 - x5))))]:List Byt) i.2)],fun Γ=>Γ ++ [sl5 (L i.1 ([(Byt.mk (IntKind.u8.wrap (w64 (48 - x5))))]:List Byt) i.2) ([(Byt.mk (IntKind.u8.wrap (w64 (48 - x5))))]:List Byt)],[])) (bN 11 248) (fun i=>[(0,15,I p0)]) c (fun i1=>?_) fun hd5=>?_
 obtain ⟨a3,c3⟩:=i1
 refine qn [1,8] ⟨qP [],tt⟩ ⟨fun _ _ c=>?_,fun _ _ c=>?_,tt⟩
 refine Zc _ rfl rfl ?_
 refine Equo c hx3 fun _ c=>?_
 refine E0 (nQ hd7 (a3,c3) (c.rk [0] []))
 refine Zc _ rfl rfl ?_
 refine Ebs c (.g 0) (fun _ c=>?_) Tryz.underlying102
 refine E0 (nQ hd8 () (c.rk [] []))
 refine Dq (fun _:Unit=>([(0,I p0),(16,I x3)],id,[])) (bN 11 3) (fun _=>[(3,18,I p0)]) c (fun _=>?_) fun hd1=>?_
 refine qn [2,4] ⟨qP [],tt⟩ ⟨fun _ _ c=>?_,fun _ _ c=>?_,tt⟩
 refine Zc _ rfl rfl ?_
 refine Cb c (ih hx4) tt call75 fun _ _ _ c=>?_
 refine E0 (nQ hd3 () (c.rk [] []))
 refine Zc _ rfl rfl ?_
 refine Erem c hx5 fun _ c=>?_
 refine E0 (nQ hd4 () (c.rk [] []))
 refine Dq (fun _:Unit=>([(0,I p0),(19,I x5)],id,[])) (bN 11 24) (fun _=>[(0,15,I p0),(5,20,I (w64 (48 - x5))),(6,21,.int .u8 (IntKind.u8.wrap (w64 (48 - x5))))]) c (fun _=>?_) fun hd2=>?_
 refine qn [1,7] ⟨qP [],qP [],qP [],tt⟩ ⟨fun _ _ c=>?_,fun _ _ c=>?_,tt⟩
 refine Zc _ rfl rfl ?_
 refine Equo c hx3 fun _ c=>?_
 refine E0 (nQ hd4 () (c.rk [] []))
 refine Zc _ rfl rfl ?_
 refine Elt 5 ([(Byt.mk (IntKind.u8.wrap (w64 (48 - x5))))]:List Byt) c fun a2 c2 _ _ c=>?_
 refine E0 (nQ hd5 (a2,c2) (c.rk [0] []))
 refine q0 (qs:=[(0,15,I p0),(3,18,I p0)]) c (qn [1,4] ⟨qP [],qP [],tt⟩ ⟨fun _ _ c=>?_,fun _ _ c=>?_,tt⟩)
 refine Zc _ rfl rfl ?_
 refine Equo c hx3 fun _ c=>?_
 refine E0 (nQ hd1 () (c.rk [] []))
 refine Zc _ rfl rfl ?_
 refine Erem c hx5 fun _ c=>?_
 refine E0 (nQ hd2 () (c.rk [] []))
 exact rE
 refine K0 (P0 [] c fun _ c=>Bd h fun rl1 hit1 h=>S0 (Lp (fun s1  (_:Unit)=>([(0,I s1.1),(3,Str.val s1.2)],id,[])) (fun  (_:Unit)=>([(0,I rl1.1),(3,Str.val rl1.2)],id,[])) hit1 c () (c.rk [] []) (fun s1 q1 _ _ _ c h hr1=>?_) fun _ _ _ c=>?_))
 refine S0 (P0 [] c fun _ c=>I0 c h (fun h=>?_) fun h=>?_)
 refine K0 (wp_block (T0 (Fp [] 1 c fun _ c=>Bd h fun x7 hx7 h=>Erem c hx7 fun _ c=>?_)))
 refine Fp [] 2 c fun _ c=>Elt 5 ([(Byt.mk (IntKind.u8.wrap (w64 (48 + x7))))]:List Byt) c fun a8 c8 _ _ c=>?_
 refine Ebs c (.g 0) (fun _ c=>?_) Tryz.underlying102
 refine Fp [] 1 c fun _ c=>Bd h fun x8 hx8 h=>Ecat c hx8 fun _ c=>?_
 refine Fp [] 1 c fun _ c=>E0 (T1 (Fp [] 1 c fun _ c=>Bd h fun x9 hx9 h=>Equo c hx9 fun _ c=>?_))
 refine Fp [] 1 c fun _ c=>E1 (bk (tn (Nx h () (c.rk [] []))))
 refine wp_exit (te (te (be ?_)))
 obtain rfl:=hr1 _ (sk h)
 exact tn ⟨(),c.rk [] []⟩
 refine T0 (Fp [] 3 c fun _ c=>Elt 5 ([(Byt.mk (IntKind.u8.wrap (w64 (48 + rl1.1))))]:List Byt) c fun a9 c9 _ _ c=>?_)
 refine Ebs c (.g 0) (fun _ c=>?_) Tryz.underlying102
 refine Fp [] 1 c fun _ c=>Bd h fun x10 hx10 h=>Ecat c hx10 fun _ c=>?_
 exact Fp [] 1 c fun _ c=>E0 rE
theorem Zeo {n:Nat}:∀ {p0 p1 ga0 gc1 ga2 gc3 ga4 gc5 ga6 gc7 ga8 gc9 ga10 gc11 ga12 gc13 r} (h:Yo n p0 p1 = some r),Ct 56 [tV p0 ga0 gc1,pV p1 ga2 gc3 ga4 gc5 ga6 gc7 ga8 gc9 ga10 gc11 ga12 gc13] [lR ga0 p0.Kids gc1,lR ga2 p1.Regs gc3,lR ga4 p1.Mem gc5,lR ga6 p1.Stack gc7,lR ga8 p1.Out gc9,lR ga10 p1.Cond gc11,lR ga12 p1.Turns gc13] r:=by
 induction n with
 | zero=>intro p0 p1 ga0 gc1 ga2 gc3 ga4 gc5 ga6 gc7 ga8 gc9 ga10 gc11 ga12 gc13 r h; simp [Yo] at h
 | succ n ih=>
 intro p0 p1 ga0 gc1 ga2 gc3 ga4 gc5 ga6 gc7 ga8 gc9 ga10 gc11 ga12 gc13 r h
 rw [Yo] at h
 refine En func56 rfl ntmps56 fun _ fr w c=>?_
 refine T0 (Ebx (tC p0 ga0 gc1) c fun b1 _ _ c=>?_)
 refine Ebx (pC p1 ga2 gc3 ga4 gc5 ga6 gc7 ga8 gc9 ga10 gc11 ga12 gc13) c fun b2 _ _ c=>?_
 refine Eal tZ c fun b3 _ _ c=>?_
 refine E0 (S0 (P0 [(1,0)] c fun _ c=>I0 c h (fun h=>?_) fun h=>?_))
 refine S0 (P0 [(1,1)] c fun _ c=>Bd h fun rl1 hit1 h=>?_)
 have hk1:=h
 refine LpR (fun s1  (_:Unit)=>([(2,B b1 0),(3,B b2 0),(4,B b3 0),(16,L ga2 p1.Regs gc3),(17,I (len p1.Regs)),(18,I s1)],id,[])) (fun s  (_:Unit)=>([(2,B b1 0),(3,B b2 0),(4,B b3 0)],id,[])) hit1 c () (c.rk [0,1,2] (rg 7)) (fun s1 q1 _ _ _ c h hr1=>?_) fun s1r _ _ _ hrl c=>?_
 refine P0 [] c fun _ c=>S0 (I0 c h (fun h=>?_) fun h=>?_)
 refine K0 (S0 (wp_block (T0 (Fp [] 1 c fun _ c=>Bd h fun x1 hx1 h=>Eem c (.f 1) hx1 fun _ u1 _ c=>?_))))
 obtain ⟨a1,c1,rfl,c⟩:=c.o_Term 7
 refine Eal tZ c fun b4 _ _ c=>?_
 refine Fp [] 1 c fun _ c=>?_
 replace c:=c.nf
 refine Ess 3 (tC x1 a1 c1) c fun _ c=>?_
 refine E0 (Bd h fun x2 hx2 h=>Bd h fun x3 hx3 h=>S0 (rZ [(3,.eq (Str.val x2)),(4,.eq (Str.val x3))] [(1,0)] mix c ⟨Ncl c (kN (ZbP hx2)) tt call75,Ncat c (kN hx3),tt⟩ fun _ _ c=>I0 c h (fun h=>?_) fun h=>?_))
 refine T0 (Fp [(0,3)] 1 c fun _ c=>Ess 2 (tC x1 a1 c1) c fun _ c=>?_)
 refine E0 ?_
 obtain rfl:=hr1 _ (sk h)
 obtain rfl:=sj hk1
 exact wp_ret (br (tr (tr (br (tr (tr (Rg c (a1,c1) [] [8] (.cell (α:=Agg 4) kk (.b 2) .nil))))))))
 refine K1 (bk (tn (P1 [] c fun _ c=>Nx h () (c.rk [0,1,2] (rg 7)))))
 refine wp_exit (te (te (be ?_)))
 obtain rfl:=hr1 _ (sk h)
 exact tn ⟨_,(),rfl,c.rk [0,1,2] (rg 7)⟩
 subst hrl
 refine S0 (P0 [(1,1)] c fun _ c=>Bd h fun rl2 hit2 h=>?_)
 have hk2:=h
 refine LpR (fun s2  (_:Unit)=>([(2,B b1 0),(4,B b3 0),(32,L ga4 p1.Mem gc5),(33,I (len p1.Mem)),(34,I s2)],id,[])) (fun s  (_:Unit)=>([(2,B b1 0),(4,B b3 0)],id,[])) hit2 c () (c.rk [0,1,2] (rg 7)) (fun s2 q2 _ _ _ c h hr2=>?_) fun s2r _ _ _ hrl c=>?_
 refine P0 [] c fun _ c=>S0 (I0 c h (fun h=>?_) fun h=>?_)
 refine K0 (S0 (wp_block (T0 (Fp [] 1 c fun _ c=>Bd h fun x4 hx4 h=>Eem c (.f 2) hx4 fun _ u2 _ c=>?_))))
 obtain ⟨a2,c2,rfl,c⟩:=c.o_Term 7
 refine Eal tZ c fun b5 _ _ c=>?_
 refine Fp [] 1 c fun _ c=>?_
 replace c:=c.nf
 refine Ess 3 (tC x4 a2 c2) c fun _ c=>?_
 refine E0 (Bd h fun x5 hx5 h=>Bd h fun x6 hx6 h=>S0 (rZ [(3,.eq (Str.val x5)),(4,.eq (Str.val x6))] [(1,0)] mix c ⟨Ncl c (kN (ZbP hx5)) tt call75,Ncat c (kN hx6),tt⟩ fun _ _ c=>I0 c h (fun h=>?_) fun h=>?_))
 refine T0 (Fp [(0,3)] 1 c fun _ c=>Ess 2 (tC x4 a2 c2) c fun _ c=>?_)
 refine E0 ?_
 obtain rfl:=hr2 _ (sk h)
 obtain rfl:=sj hk2
 exact wp_ret (br (tr (tr (br (tr (tr (Rg c (a2,c2) [] [8] (.cell (α:=Agg 4) kk (.b 2) .nil))))))))
 refine K1 (bk (tn (P1 [] c fun _ c=>Nx h () (c.rk [0,1,2] (rg 7)))))
 refine wp_exit (te (te (be ?_)))
 obtain rfl:=hr2 _ (sk h)
 exact tn ⟨_,(),rfl,c.rk [0,1,2] (rg 7)⟩
 subst hrl
 refine T0 (Fp [(0,0)] 1 c fun _ c=>Ess 2 (tC p0 ga0 gc1) c fun _ c=>?_)
 refine E0 ?_
 obtain rfl:=sj h
 exact wp_ret (tr (Rg c (ga0,gc1) [] [0] (.cell (α:=Agg 4) kk (.b 2) .nil)))
 refine K0 (T0 (Eltr 79 ([]:List Rw.Term) ([]:List D.Term) c tt fun a3 c3 _ _ c=>?_))
 refine Fp [] 1 c fun _ c=>E0 (S0 (P0 [(1,0)] c fun _ c=>Bd h fun rl3 hit3 h=>Lp (fun s3  (i:List Rw.Term × Oh)=>([(2,B b1 0),(3,B b2 0),(4,B b3 0),(9,L i.2.1 s3.2 i.q2),(50,L ga0 p0.Kids gc1),(51,I (len p0.Kids)),(52,I s3.1)],fun Γ=>Γ.set 3 (sl79 (L i.2.1 s3.2 i.q2) (i.1)),[CS (i.1) s3.2])) (fun  (i:List Rw.Term × Oh)=>([(2,B b1 0),(4,B b3 0),(9,L i.2.1 rl3 i.q2)],fun Γ=>Γ.set 3 (sl79 (L i.2.1 rl3 i.q2) (i.1)),[CS (i.1) rl3])) hit3 c (([]:List Rw.Term),a3,c3) (c.rk (rg 4) [0,1,2,3,4,5,6,7,7]) (fun s3 q3 i1 _ _ c h hr3=>?_) fun k1 _ _ c=>?_))
 refine P0 [] c fun _ c=>S0 (I0 c h (fun h=>?_) fun h=>?_)
 refine K0 (S0 (wp_block (T0 (Bd h fun x7 hx7 h=>Eem c (.f 0) hx7 fun _ u3 _ c=>?_))))
 obtain ⟨a4,c4,rfl,c⟩:=c.o_Term 9
 replace c:=c.nf
 refine Eal tZ c fun b6 _ _ c=>?_
 refine Ess 4 (tC x7 a4 c4) c fun _ c=>?_
 refine E0 (T1 (Fp [(1,3),(2,1)] 3 c fun _ c=>Bd h fun x8 hx8 h=>Cg c (ih hx8) ⟨.f 10,.f 1,.f 2,.f 3,.f 4,.f 5,.f 6,tt⟩ call56 fun i2 _ _ c=>?_))
 refine Eltr 79 [(tR x8 i2.1 i2.2)] [x8] c ⟨(Ava.mk_Term x8 (.f 11)),tt⟩ fun a5 c5 _ _ c=>?_
 replace c:=c.ng
 replace c:=c.fzr 5 12
 refine Bd h fun x9 hx9 h=>Eapr 3 8 c (.f 13) hx9 fun rm1 a6 c6 _ _ c=>?_
 refine Fp [] 1 c fun _ c=>E1 (bk (tn (P1 [] c fun _ c=>Nx h ((i1.1 ++ rm1),a6,c6) (c.rk (rg 4) [0,1,2,3,4,5,6,7,14]))))
 refine wp_exit (te (te (be ?_)))
 obtain rfl:=hr3 _ (sk h)
 exact tn ⟨(i1.1,i1.2.1,i1.q2),c.rk (rg 4) (rg 9)⟩
 refine T0 (Fp [] 2 c fun _ c=>Esb 0 4 (L k1.2.1 rl3 k1.q2) c fun _ c=>?_)
 refine E0 (T0 (Fp [(0,0)] 1 c fun _ c=>?_))
 replace c:=c.nf
 refine Ess 2 [I p0.Op,I p0.W,I p0.N,Str.val p0.Name,L k1.2.1 rl3 k1.q2] c fun _ c=>?_
 refine E0 ?_
 replace c:=c.fzr 3 8
 cases h
 exact wp_ret (Rg c (k1.2.1,k1.q2) [] [9] (.cell (α:=Agg 4) kk (.b 2) .nil))
theorem YL {p0 p1 r} (h:ZY p0 p1 = some r):C0 139 [I p0,I p1] [] (I r):=by
 unfold ZY at h
 refine En func139 rfl ntmps139 fun _ fr w c=>?_
 refine P0 [] c fun _ c=>S0 (T0 (Fp [] 1 c fun _ c=>Bd h fun x1 hx1 h=>Cb c (Zu hx1) tt call39 fun _ _ _ c=>?_))
 refine Fp [] 1 c fun _ c=>E0 (I0 c h (fun h=>P0 [] c fun _ c=>rE) fun h=>?_)
 refine K0 (T0 (Fp [] 2 c fun _ c=>Bd h fun x2 hx2 h=>Eshl c hx2 fun _ c=>?_))
 exact Fp [] 3 c fun _ c=>E0 rE
theorem ZcV {p0 p1 p2 r} (h:YR p0 p1 p2 = some r):C0 115 [I p0,I p1,I p2] [] (I r):=by
 unfold YR at h
 refine En func115 rfl ntmps115 fun _ fr w c=>?_
 refine P0 [] c fun _ c=>S0 (wp_block (T0 (Fp [] 2 c fun _ c=>Bd h fun x1 hx1 h=>Cb c (Yf hx1) tt call53 fun _ _ _ c=>?_)))
 refine Fp [] 2 c fun _ c=>E0 (I0 c h (fun h=>P0 [] c fun _ c=>rE) fun h=>?_)
 refine P0 [] c fun _ c=>I0 c h (fun h=>?_) fun h=>?_
 refine T0 (Fp [] 1 c fun _ c=>Bd h fun x2 hx2 h=>Eshl c hx2 fun _ c=>?_)
 exact Fp [] 4 c fun _ c=>E0 rE
 refine P0 [] c fun _ c=>I0 c h (fun h=>?_) fun h=>K1 (bk (tn (P0 [] c fun _ c=>rE)))
 refine T0 (Fp [] 3 c fun _ c=>Bd h fun x3 hx3 h=>Cb c (YL hx3) tt call139 fun _ _ _ c=>?_)
 exact Fp [] 1 c fun _ c=>E0 rE
theorem Zar {p0 p1 r} (h:Y0 p0 p1 = some r):C0 140 [I p0,I p1] [] (I r):=by
 unfold Y0 at h
 refine En func140 rfl ntmps140 fun _ fr w c=>?_
 refine P0 [] c fun _ c=>S0 (T0 (Fp [] 2 c fun _ c=>Bd h fun x1 hx1 h=>Cb c (Yf hx1) tt call53 fun _ _ _ c=>?_))
 refine Fp [] 1 c fun _ c=>E0 (I0 c h (fun h=>P0 [] c fun _ c=>rE) fun h=>?_)
 refine K0 (S0 (T0 (Fp [] 3 c fun _ c=>Bd h fun x2 hx2 h=>Eshr c hx2 fun _ c=>?_)))
 refine Fp [] 1 c fun _ c=>E0 (I0 c h (fun h=>?_) fun h=>K0 (P0 [] c fun _ c=>rE))
 refine T0 (Fp [] 2 c fun _ c=>Bd h fun x3 hx3 h=>Eshl c hx3 fun _ c=>?_)
 exact Fp [] 2 c fun _ c=>E0 rE
theorem ZaW {p0 r} (h:XR p0 = some r):C0 141 [.bool p0] [] (I r):=by
 unfold XR at h
 refine En func141 rfl ntmps141 fun _ fr w c=>?_
 exact P0 [] c fun _ c=>S0 (P0 [] c fun _ c=>I0 c h (fun h=>P0 [] c fun _ c=>rE) fun h=>K0 (P0 [] c fun _ c=>rE))
theorem Zbt {p0 p1 p2 p3 r} (h:Yv p0 p1 p2 p3 = some r):C0 116 [I p0,I p1,I p2,I p3] [] (I r):=by
 unfold Yv at h
 refine En func116 rfl ntmps116 fun _ fr w c=>?_
 refine P0 [] c fun _ c=>S0 (Bd h fun x1 hx1 h=>Bd h fun x2 hx2 h=>S0 (rZ [(2,.eq (.bool x1)),(7,.eq (.bool x2))] [] mix c ⟨Ncl c (kN (Yf hx1)) tt call53,Ncl c (fun hg=>Yf (iteF (gcF hg) hx2)) tt call53,tt⟩ fun _ _ c=>I0 c h (fun h=>?_) fun h=>?_))
 exact P0 [] c fun _ c=>rE
 refine K0 (S0 (P0 [] c fun _ c=>wp_block (P0 [] c fun _ c=>I0 c h (fun h=>?_) fun h=>?_)))
 refine T0 (Fp [] 4 c fun _ c=>Bd h fun x3 hx3 h=>Cb c (YL hx3) tt call139 fun _ _ _ c=>?_)
 exact Fp [] 1 c fun _ c=>E0 rE
 refine P0 [] c fun _ c=>I0 c h (fun h=>?_) fun h=>?_
 refine T0 (Fp [] 4 c fun _ c=>Bd h fun x4 hx4 h=>Cb c (YL hx4) tt call139 fun _ _ _ c=>?_)
 exact Fp [] 1 c fun _ c=>E0 rE
 refine P0 [] c fun _ c=>I0 c h (fun h=>?_) fun h=>?_
 refine T0 (Fp [] 4 c fun _ c=>Bd h fun x5 hx5 h=>Cb c (YL hx5) tt call139 fun _ _ _ c=>?_)
 exact Fp [] 1 c fun _ c=>E0 rE
 refine P0 [] c fun _ c=>I0 c h (fun h=>?_) fun h=>?_
 refine S0 (P0 [] c fun _ c=>I0 c h (fun h=>?_) fun h=>?_)
 refine T0 (Fp [] 1 c fun _ c=>Bd h fun x6 hx6 h=>Eshl c hx6 fun _ c=>?_)
 exact Fp [] 2 c fun _ c=>E0 rE
 refine K0 (T0 (Fp [] 2 c fun _ c=>Bd h fun x7 hx7 h=>Equo c hx7 fun _ c=>?_))
 exact Fp [] 1 c fun _ c=>E0 rE
 refine P0 [] c fun _ c=>I0 c h (fun h=>?_) fun h=>?_
 refine S0 (P0 [] c fun _ c=>I0 c h (fun h=>P0 [] c fun _ c=>rE) fun h=>?_)
 refine K0 (T0 (Fp [] 2 c fun _ c=>Bd h fun x8 hx8 h=>Erem c hx8 fun _ c=>?_))
 exact Fp [] 1 c fun _ c=>E0 rE
 refine P0 [] c fun _ c=>I0 c h (fun h=>P0 [] c fun _ c=>rE) fun h=>?_
 refine P0 [] c fun _ c=>I0 c h (fun h=>P0 [] c fun _ c=>rE) fun h=>?_
 refine P0 [] c fun _ c=>I0 c h (fun h=>P0 [] c fun _ c=>rE) fun h=>?_
 refine P0 [] c fun _ c=>I0 c h (fun h=>?_) fun h=>?_
 refine S0 (P0 [] c fun _ c=>I0 c h (fun h=>P0 [] c fun _ c=>rE) fun h=>?_)
 refine K0 (T0 (Fp [] 3 c fun _ c=>Bd h fun x9 hx9 h=>Eshl c hx9 fun _ c=>?_))
 refine Bd h fun x10 hx10 h=>Cb c (YL hx10) tt call139 fun _ _ _ c=>?_
 exact Fp [] 1 c fun _ c=>E0 rE
 refine P0 [] c fun _ c=>I0 c h (fun h=>?_) fun h=>?_
 refine S0 (P0 [] c fun _ c=>I0 c h (fun h=>P0 [] c fun _ c=>rE) fun h=>?_)
 refine K0 (T0 (Fp [] 2 c fun _ c=>Bd h fun x11 hx11 h=>Eshr c hx11 fun _ c=>?_))
 exact Fp [] 1 c fun _ c=>E0 rE
 refine P0 [] c fun _ c=>I0 c h (fun h=>?_) fun h=>?_
 refine S0 (P0 [] c fun _ c=>Mp (decide (p3 ≥ p1)) [(3,I (w64 (p1 - 1)))] [(3,I p3)] [(3,I (cond (decide (p3 ≥ p1)) (w64 (p1 - 1)) p3))] [3,97,98] c fun _ c=>T0 (Fp [] 3 c fun _ c=>Bd h fun x12 hx12 h=>Cb c (Zar hx12) tt call140 fun _ _ _ c=>?_))
 refine Fp [] 1 c fun _ c=>Bd h fun x13 hx13 h=>Eshr c hx13 fun _ c=>?_
 refine Bd h fun x14 hx14 h=>Cb c (YL hx14) tt call139 fun _ _ _ c=>?_
 exact Fp [] 1 c fun _ c=>E0 rE
 refine P0 [] c fun _ c=>I0 c h (fun h=>?_) fun h=>?_
 refine T0 (Fp [] 3 c fun _ c=>Bd h fun x15 hx15 h=>Cb c (ZaW hx15) tt call141 fun _ _ _ c=>?_)
 exact Fp [] 1 c fun _ c=>E0 rE
 refine P0 [] c fun _ c=>I0 c h (fun h=>?_) fun h=>?_
 refine T0 (Fp [] 3 c fun _ c=>Bd h fun x16 hx16 h=>Cb c (ZaW hx16) tt call141 fun _ _ _ c=>?_)
 exact Fp [] 1 c fun _ c=>E0 rE
 refine P0 [] c fun _ c=>I0 c h (fun h=>?_) fun h=>K1 (bk (tn (P0 [] c fun _ c=>rE)))
 refine T0 (Fp [] 2 c fun _ c=>Bd h fun x17 hx17 h=>Cb c (Zar hx17) tt call140 fun _ _ _ c=>?_)
 refine Fp [] 2 c fun _ c=>Bd h fun x18 hx18 h=>Cb c (Zar hx18) tt call140 fun _ _ _ c=>?_
 refine Fp [] 1 c fun _ c=>Bd h fun x19 hx19 h=>Cb c (ZaW hx19) tt call141 fun _ _ _ c=>?_
 exact Fp [] 1 c fun _ c=>E0 rE
theorem Zd3 {p0 p1 p2 p3 r} (h:Xe p0 p1 p2 p3 = some r):C0 117 [I p0,I p1,I p2,I p3] [] (I r):=by
 unfold Xe at h
 refine En func117 rfl ntmps117 fun _ fr w c=>?_
 refine P0 [] c fun _ c=>S0 (Bd h fun x1 hx1 h=>Bd h fun x2 hx2 h=>S0 (rZ [(2,.eq (.bool x1)),(7,.eq (.bool x2))] [] mix c ⟨Ncl c (kN (Yf hx1)) tt call53,Ncl c (fun hg=>Yf (iteF (gcF hg) hx2)) tt call53,tt⟩ fun _ _ c=>I0 c h (fun h=>?_) fun h=>?_))
 exact P0 [] c fun _ c=>rE
 refine K0 (T0 (Fp [] 2 c fun _ c=>Bd h fun x3 hx3 h=>Eshl c hx3 fun _ c=>?_))
 exact Fp [] 3 c fun _ c=>E0 rE
theorem Zek {p0 p1 p2 p3 r} (h:XH p0 p1 p2 p3 = some r):C0 118 [I p0,I p1,I p2,I p3] [] (I r):=by
 unfold XH at h
 refine En func118 rfl ntmps118 fun _ fr w c=>?_
 refine P0 [] c fun _ c=>S0 (Bd h fun x1 hx1 h=>S0 (rZ [(2,.eq (.bool x1))] [] mix c ⟨Ncl c (kN (Yf hx1)) tt call53,tt⟩ fun _ _ c=>I0 c h (fun h=>?_) fun h=>?_))
 exact P0 [] c fun _ c=>rE
 refine K0 (T0 (Fp [] 3 c fun _ c=>Bd h fun x2 hx2 h=>Eshr c hx2 fun _ c=>?_))
 refine Bd h fun x3 hx3 h=>Cb c (YL hx3) tt call139 fun _ _ _ c=>?_
 exact Fp [] 1 c fun _ c=>E0 rE
theorem Zd1 {p0 p1 p2 p3 r} (h:Xc p0 p1 p2 p3 = some r):C0 119 [I p0,I p1,I p2,.bool p3] [] (I r):=by
 unfold Xc at h
 refine En func119 rfl ntmps119 fun _ fr w c=>?_
 refine P0 [] c fun _ c=>S0 (Bd h fun x1 hx1 h=>S0 (rZ [(2,.eq (.bool x1))] [] mix c ⟨Ncl c (kN (Yf hx1)) tt call53,tt⟩ fun _ _ c=>I0 c h (fun h=>?_) fun h=>?_))
 exact P0 [] c fun _ c=>rE
 refine K0 (S0 (P0 [] c fun _ c=>I0 c h (fun h=>?_) fun h=>K0 (P0 [] c fun _ c=>rE)))
 refine T0 (Fp [] 3 c fun _ c=>Bd h fun x2 hx2 h=>Cb c (Zar hx2) tt call140 fun _ _ _ c=>?_)
 refine Bd h fun x3 hx3 h=>Cb c (YL hx3) tt call139 fun _ _ _ c=>?_
 exact Fp [] 1 c fun _ c=>E0 rE
theorem ZdW {p0 p1 r} (h:Y1 p0 p1 = some r):C0 97 [tV p0 ga0 gc1,L ga2 p1 gc3] [lR ga0 p0.Kids gc1,lR ga2 p1 gc3] (I r):=by
 unfold Y1 at h
 refine En func97 rfl ntmps97 fun _ fr w c=>?_
 refine T0 (Ebx (tC p0 ga0 gc1) c fun b1 _ _ c=>?_)
 refine Fp [] 1 c fun _ c=>E0 (S0 (wp_block (T0 (Fp [(1,0)] 2 c fun _ c=>Bd h fun x1 hx1 h=>Cb c (Zu hx1) tt call39 fun _ _ _ c=>?_))))
 refine Fp [] 1 c fun _ c=>E0 (I0 c h (fun h=>?_) fun h=>?_)
 refine Bd h fun x2 hx2 h=>Bd h fun x3 hx3 h=>S0 (rZ [(5,Pd.el (x2:Int)),(6,.eq (I x2)),(7,.eq (I x3))] [(1,0),(3,0)] mix c ⟨Nid c (.f 1) (kN hx2),Nld c 5 (q:=x2) (atN 5),Ncl c (kN (ZcV hx3)) tt call115,tt⟩ fun _ _ c=>?_)
 exact rE
 refine T0 (Fp [(1,0)] 2 c fun _ c=>Bd h fun x4 hx4 h=>Cb c (Zu hx4) tt call39 fun _ _ _ c=>?_)
 refine Fp [] 1 c fun _ c=>E0 (I0 c h (fun h=>?_) fun h=>?_)
 refine Bd h fun x5 hx5 h=>?_
 obtain ⟨ep1,u1,c⟩:=c.elp (.f 0) hx5
 obtain ⟨a1,c1,rfl,c⟩:=c.o_Term 3
 refine Bd h fun x6 hx6 h=>Bd h fun x7 hx7 h=>Bd h fun x8 hx8 h=>S0 (rZ [(4,.eq (.pointer (some ep1))),(6,.eq (I x5.W)),(8,Pd.el (x6:Int)),(9,.eq (I x6)),(11,Pd.el (x7:Int)),(12,.eq (I x7)),(13,.eq (I x8))] [(1,0),(3,0)] mix c ⟨Nie c 2,Nlc c 2 1,Nid c (.f 1) (kN hx6),Nld c 8 (q:=x6) (atN 8),Nid c (.f 1) (kN hx7),Nld c 11 (q:=x7) (atN 11),Ncl c (kN (Zbt hx8)) tt call116,tt⟩ fun _ _ c=>?_)
 exact rE
 refine P0 [(1,0)] c fun _ c=>I0 c h (fun h=>?_) fun h=>?_
 refine S0 (T0 (Fp [] 1 c fun _ c=>Bd h fun x9 hx9 h=>Eel c (.f 1) hx9 fun _ _ c=>?_))
 refine Fp [] 1 c fun _ c=>E0 (I0 c h (fun h=>?_) fun h=>?_)
 refine T0 (Fp [] 1 c fun _ c=>Bd h fun x10 hx10 h=>Eel c (.f 1) hx10 fun _ _ c=>?_)
 exact Fp [] 1 c fun _ c=>E0 rE
 refine K0 (T0 (Fp [] 1 c fun _ c=>Bd h fun x11 hx11 h=>Eel c (.f 1) hx11 fun _ _ c=>?_))
 exact Fp [] 1 c fun _ c=>E0 rE
 refine P0 [(1,0)] c fun _ c=>I0 c h (fun h=>?_) fun h=>?_
 refine Bd h fun x12 hx12 h=>?_
 obtain ⟨ep2,u2,c⟩:=c.elp (.f 0) hx12
 obtain ⟨a2,c2,rfl,c⟩:=c.o_Term 3
 refine Bd h fun x13 hx13 h=>Bd h fun x14 hx14 h=>?_
 obtain ⟨ep3,u3,c⟩:=c.elp (.f 0) hx14
 obtain ⟨a3,c3,rfl,c⟩:=c.o_Term 6
 refine Bd h fun x15 hx15 h=>Bd h fun x16 hx16 h=>S0 (rZ [(2,.eq (.pointer (some ep2))),(4,.eq (I x12.W)),(6,Pd.el (x13:Int)),(7,.eq (I x13)),(10,.eq (.pointer (some ep3))),(12,.eq (I x14.W)),(14,Pd.el (x15:Int)),(15,.eq (I x15)),(16,.eq (I x16))] [(1,0),(9,0)] mix c ⟨Nie c 2,Nlc c 2 1,Nid c (.f 1) (kN hx13),Nld c 6 (q:=x13) (atN 6),Nie c 5,Nlc c 5 1,Nid c (.f 1) (kN hx15),Nld c 14 (q:=x15) (atN 14),Ncl c (kN (Zd3 hx16)) tt call117,tt⟩ fun _ _ c=>?_)
 exact rE
 refine P0 [(1,0)] c fun _ c=>I0 c h (fun h=>?_) fun h=>?_
 refine Bd h fun x17 hx17 h=>?_
 obtain ⟨ep4,u4,c⟩:=c.elp (.f 0) hx17
 obtain ⟨a4,c4,rfl,c⟩:=c.o_Term 3
 refine Bd h fun x18 hx18 h=>Bd h fun x19 hx19 h=>S0 (rZ [(2,.eq (.pointer (some ep4))),(4,.eq (I x17.W)),(6,Pd.el (x18:Int)),(7,.eq (I x18)),(12,.eq (I x19))] [(1,0),(9,0),(11,0)] mix c ⟨Nie c 2,Nlc c 2 1,Nid c (.f 1) (kN hx18),Nld c 6 (q:=x18) (atN 6),Ncl c (kN (Zek hx19)) tt call118,tt⟩ fun _ _ c=>?_)
 exact rE
 refine K1 (bk (tn (Bd h fun x20 hx20 h=>?_)))
 obtain ⟨ep5,u5,c⟩:=c.elp (.f 0) hx20
 obtain ⟨a5,c5,rfl,c⟩:=c.o_Term 3
 refine Bd h fun x21 hx21 h=>Bd h fun x22 hx22 h=>S0 (rZ [(2,.eq (.pointer (some ep5))),(4,.eq (I x20.W)),(6,Pd.el (x21:Int)),(7,.eq (I x21)),(13,.eq (I x22))] [(1,0),(9,0),(11,0)] mix c ⟨Nie c 2,Nlc c 2 1,Nid c (.f 1) (kN hx21),Nld c 6 (q:=x21) (atN 6),Ncl c (kN (Zd1 hx22)) tt call119,tt⟩ fun _ _ c=>?_)
 exact rE
theorem X7 {p0 p1 r} (h:YV p0 p1 = some r):Con prog 96 [I p0,I p1] [] [] fun (_:Unit)=>([.agg #[I r.Op,I r.W,I r.N,Str.val r.Name,L0]],[],[]):=by
 unfold YV at h
 refine En func96 rfl ntmps96 fun _ fr w c=>?_
 refine T0 (Eal tZ c fun b1 _ _ c=>?_)
 refine E0 (T0 (Fp [] 3 c fun _ c=>Ess 0 [I 0,I p0,I p1,Str.val ⟨[]⟩,L0] c fun _ c=>?_))
 refine E0 ?_
 cases h
 exact wp_ret (Rg c () [] [] (.cell (α:=Agg 4) kk (.b 0) .nil))
theorem Za8 {p0 p1 r} (h:Xk p0 p1 = some r):C0 142 [I p0,I p1] [] (I r):=by
 unfold Xk at h
 refine En func142 rfl ntmps142 fun _ fr w c=>?_
 exact P0 [] c fun _ c=>S0 (P0 [] c fun _ c=>I0 c h (fun h=>P0 [] c fun _ c=>rE) fun h=>K0 (S0 (P0 [] c fun _ c=>I0 c h (fun h=>P0 [] c fun _ c=>rE) fun h=>K0 (P0 [] c fun _ c=>rE))))
theorem Zbf {n:Nat}:∀ {p0 p1 ga0 gc1 ga2 gc3 r} (h:ZB n p0 p1 = some r),C0 120 [tV p0 ga0 gc1,tV p1 ga2 gc3] [lR ga0 p0.Kids gc1,lR ga2 p1.Kids gc3] (I r):=by
 induction n with
 | zero=>intro p0 p1 ga0 gc1 ga2 gc3 r h; simp [ZB] at h
 | succ n ih=>
 intro p0 p1 ga0 gc1 ga2 gc3 r h
 rw [ZB] at h
 refine En func120 rfl ntmps120 fun _ fr w c=>?_
 refine T0 (Ebx (tC p0 ga0 gc1) c fun b1 _ _ c=>?_)
 refine Ebx (tC p1 ga2 gc3) c fun b2 _ _ c=>?_
 refine Fp [] 1 c fun _ c=>E0 (S0 (Bd h fun x1 hx1 h=>Bd h fun x2 hx2 h=>Bd h fun x3 hx3 h=>S0 (Zav mix (rM 18 [(4,.eq (I x1)),(9,.eq (I x2)),(14,.eq (I x3)),(15,Pd.nw c.wd 15 (fun i:Oh=>L i.1 ([x1,x2,x3]:List Int) i.2) (fun i=>SL 3 (L i.1 ([x1,x2,x3]:List Int) i.2) ([x1,x2,x3]:List Int))),(16,.eq (I (len ([x1,x2,x3]:List Int))))] [(1,0),(3,1),(6,0),(8,1),(11,0),(13,1)] c (fun ow=>⟨Yc ow (Ncl c (kN (Za8 hx1)) tt call142),Yc ow (Ncl c (kN (Za8 hx2)) tt call142),Yc ow (Ncl c (kN (Za8 hx3)) tt call142),Nlt c ([x1,x2,x3]:List Int),Yc ow (Nln c 15 (atM 15)),tt⟩) fun ow _ _ hE hc cq=>?_))))
 obtain ⟨i1,hi1⟩:=hE.nw 15 25
 replace c:=Cx.newt c hc cq [(15,25,_,_)] ⟨hi1,tt⟩
 refine E0 (Bd h fun rl1 hit1 h=>?_)
 have hk1:=h
 refine LpR (fun s1  (_:Unit)=>([(2,B b1 0),(3,B b2 0),(25,L i1.1 ([x1,x2,x3]:List Int) i1.2),(26,I (len ([x1,x2,x3]:List Int))),(27,I s1)],id,[])) (fun s  (_:Unit)=>([(2,B b1 0),(3,B b2 0)],id,[])) hit1 c () (c.rk [0,1,2] [0,1]) (fun s1 q1 _ _ _ c h hr1=>?_) fun s1r _ _ _ hrl c=>?_
 refine P0 [] c fun _ c=>S0 (I0 c h (fun h=>?_) fun h=>?_)
 refine K0 (S0 (wp_block (T0 (Bd h fun x4 hx4 h=>Eel c (.g 2) hx4 fun _ _ c=>?_))))
 refine Fp [] 1 c fun _ c=>E0 (P0 [] c fun _ c=>I0 c h (fun h=>?_) fun h=>?_)
 refine P0 [] c fun _ c=>?_
 obtain rfl:=hr1 _ (sk h)
 obtain rfl:=sj hk1
 exact wp_ret (br (tr (tr (br (tr (Rt c () [] []))))))
 refine K1 (bk (tn (P1 [] c fun _ c=>Nx h () (c.rk [0,1,2] [0,1]))))
 refine wp_exit (te (te (be ?_)))
 obtain rfl:=hr1 _ (sk h)
 exact tn ⟨_,(),rfl,c.rk [0,1,2] [0,1]⟩
 subst hrl
 refine S0 (P0 [(1,0),(3,1)] c fun _ c=>I0 c h (fun h=>S0 (P0 [(1,0),(3,1)] c fun _ c=>I0 c h (fun h=>P0 [] c fun _ c=>rE) fun h=>K0 (P0 [] c fun _ c=>rE))) fun h=>?_)
 refine K0 (S0 (P0 [(1,0)] c fun _ c=>Bd h fun rl2 hit2 h=>?_))
 have hk2:=h
 refine LpR (fun s2  (_:Unit)=>([(2,B b1 0),(3,B b2 0),(46,L ga0 p0.Kids gc1),(47,I (len p0.Kids)),(48,I s2)],id,[])) (fun s  (_:Unit)=>([(2,B b1 0),(3,B b2 0)],id,[])) hit2 c () (c.rk [0,1,2] [0,1]) (fun s2 q2 _ _ _ c h hr2=>?_) fun s2r _ _ _ hrl c=>?_
 refine P0 [] c fun _ c=>S0 (I0 c h (fun h=>?_) fun h=>?_)
 refine K0 (S0 (wp_block (T0 (Fp [] 1 c fun _ c=>Bd h fun x5 hx5 h=>Eem c (.f 0) hx5 fun _ u1 _ c=>?_))))
 obtain ⟨a1,c1,rfl,c⟩:=c.o_Term 2
 refine Eal tZ c fun b3 _ _ c=>?_
 refine Fp [] 1 c fun _ c=>Ess 3 (tC x5 a1 c1) c fun _ c=>?_
 refine E0 (S0 (P0 [(2,1)] c fun _ c=>I0 c h (fun h=>?_) fun h=>?_))
 refine P0 [] c fun _ c=>?_
 obtain rfl:=hr2 _ (sk h)
 obtain rfl:=sj hk2
 exact wp_ret (tr (br (tr (tr (br (tr (Rt c () [] [])))))))
 refine K0 (Bd h fun x6 hx6 h=>?_)
 obtain ⟨ep1,u2,c⟩:=c.elp (.f 1) hx6
 obtain ⟨a2,c2,rfl,c⟩:=c.o_Term 5
 refine Bd h fun x7 hx7 h=>S0 (rZ [(4,.eq (.pointer (some ep1))),(5,.eq (tV x6 a2 c2)),(6,.eq (I x7))] [(0,2),(2,1)] mix c ⟨Nie c 4,Nle c 4,Ncl c (kN (ih hx7)) ⟨.f 3,.f 6,tt⟩ call120,tt⟩ fun _ _ c=>P0 [] c fun _ c=>I0 c h (fun h=>?_) fun h=>?_)
 refine P0 [] c fun _ c=>?_
 obtain rfl:=hr2 _ (sk h)
 obtain rfl:=sj hk2
 exact wp_ret (br (tr (tr (br (tr (Rt c () [] []))))))
 refine K1 (bk (tn (P1 [] c fun _ c=>Nx h () (c.rk [0,1,2] [0,1]))))
 refine wp_exit (te (te (be ?_)))
 obtain rfl:=hr2 _ (sk h)
 exact tn ⟨_,(),rfl,c.rk [0,1,2] [0,1]⟩
 subst hrl
 refine T0 (Fp [(1,0),(4,1)] 6 c fun _ c=>Bd h fun x8 hx8 h=>Cb c (Za8 hx8) tt call142 fun _ _ _ c=>?_)
 exact Fp [] 1 c fun _ c=>E0 rE
theorem Y2 {p0 p1 r} (h:Zp p0 p1 = some r):C0 43 [tV p0 ga0 gc1,I p1] [lR ga0 p0.Kids gc1] (.bool r):=by
 unfold Zp at h
 refine En func43 rfl ntmps43 fun _ fr w c=>?_
 refine T0 (Ebx (tC p0 ga0 gc1) c fun b1 _ _ c=>?_)
 refine Fp [] 1 c fun _ c=>E0 (S0 (Ry [(1,0),(5,0)] mix c fun _ _ c=>?_))
 exact rE
theorem Zep {p0 r} (h:ZaP p0 = some r):C0 143 [tV p0 ga0 gc1] [lR ga0 p0.Kids gc1] (.bool r):=by
 unfold ZaP at h
 refine En func143 rfl ntmps143 fun _ fr w c=>?_
 refine T0 (Ebx (tC p0 ga0 gc1) c fun b1 _ _ c=>?_)
 refine Fp [] 1 c fun _ c=>E0 (Bd h fun x1 hx1 h=>S0 (rZ [(8,.eq (I x1))] [(1,0),(5,0),(7,0)] mix c ⟨Nshl c (gT hx1),tt⟩ fun _ _ c=>?_))
 exact rE
theorem Zbo {p0 p1 r} (h:Yb n p0 p1 = some r):C0 101 [tV p0 ga0 gc1,tV p1 ga2 gc3] [lR ga0 p0.Kids gc1,lR ga2 p1.Kids gc3] (.bool r):=by
 unfold Yb at h
 refine En func101 rfl ntmps101 fun _ fr w c=>?_
 refine T0 (Ebx (tC p0 ga0 gc1) c fun b1 _ _ c=>?_)
 refine Ebx (tC p1 ga2 gc3) c fun b2 _ _ c=>?_
 refine Fp [] 1 c fun _ c=>E0 (T0 (Fp [(0,0),(1,1)] 2 c fun _ c=>Bd h fun x1 hx1 h=>Cb c (Zbf hx1) ⟨.f 0,.f 1,tt⟩ call120 fun _ _ _ c=>?_))
 exact Fp [] 2 c fun _ c=>E0 rE
theorem ZdP {p0 r} (h:Zi p0 = some r):Con prog 122 [tV p0 ga0 gc1] [] [lR ga0 p0.Kids gc1] fun (i:Oh)=>([tV r.1 i.1 i.2,.bool r.2],[],[lR i.1 r.1.Kids i.2]):=by
 unfold Zi at h
 refine En func122 rfl ntmps122 fun _ fr w c=>?_
 refine T0 (Ebx (tC p0 ga0 gc1) c fun b1 _ _ c=>?_)
 refine Eal tZ c fun b2 _ _ c=>?_
 refine Fp [] 1 c fun _ c=>E0 (S0 (P0 [(1,0)] c fun _ c=>wp_block (S0 (P0 [] c fun _ c=>Mp (p0.Op == 8) [(6,.bool (p0.Op == 8))] [(6,.bool (p0.Op == 9))] [(6,.bool ((p0.Op == 8) || (p0.Op == 9)))] [6,8] c fun _ c=>I0 c h (fun h=>?_) fun h=>?_))))
 refine T0 (Fp [(1,0)] 2 c fun _ c=>Bd h fun x1 hx1 h=>Eem c (.f 0) hx1 fun _ u1 _ c=>?_)
 obtain ⟨a1,c1,rfl,c⟩:=c.o_Term 1
 refine Ess 1 (tC x1 a1 c1) c fun _ c=>?_
 refine Fp [] 1 c fun _ c=>E0 ?_
 cases h
 exact wp_ret (br (tr (Rg c (a1,c1) [] [2] (.cell (α:=Agg 4) kk (.b 1) (.tmp .nil)))))
 refine S0 (P0 [] c fun _ c=>Bd h fun rl1 hit1 h=>?_)
 have hk1:=h
 refine Jr (fun s  (_:Unit)=>([(1,B b1 0),(2,B b2 0),(5,I p0.Op),(13,.bool s)],id,[])) hit1 c (fun h=>?_) fun s1r _ _ _ hrl c=>?_
 refine I0 c h (fun h=>?_) fun h=>?_
 refine K0 (⟨_,(),(sk h),c.rk [0,1] [0]⟩)
 refine P0 [] c fun _ c=>I0 c h (fun h=>?_) fun h=>?_
 refine K0 (⟨_,(),(sk h),c.rk [0,1] [0]⟩)
 refine P0 [] c fun _ c=>Mp (p0.Op == 15) [(13,.bool (p0.Op == 15))] [(13,.bool (p0.Op == 16))] [(13,.bool ((p0.Op == 15) || (p0.Op == 16)))] [13,17] c fun _ c=>⟨_,(),(sk h),c.rk [0,1] [0]⟩
 subst hrl
 refine I0 c h (fun h=>?_) fun h=>?_
 refine T0 (Fp [(1,0)] 2 c fun _ c=>Bd h fun x2 hx2 h=>Cb c (X7 hx2) tt call96 fun _ _ _ c=>?_)
 refine Ess 1 [I x2.Op,I x2.W,I x2.N,Str.val x2.Name,L0] c fun _ c=>?_
 refine Fp [] 1 c fun _ c=>E0 ?_
 cases h
 replace c:=c.nilf (α:=D.Term)
 exact wp_ret (br (tr (Rg c (none,0) [] [1] (.cell (α:=Agg 4) kk (.b 1) (.tmp .nil)))))
 refine P0 [] c fun _ c=>I0 c h (fun h=>?_) fun h=>?_
 refine T0 (Bd h fun x3 hx3 h=>Cb c (X7 hx3) tt call96 fun _ _ _ c=>?_)
 refine Ess 1 [I x3.Op,I x3.W,I x3.N,Str.val x3.Name,L0] c fun _ c=>?_
 refine Fp [] 1 c fun _ c=>E0 ?_
 cases h
 replace c:=c.nilf (α:=D.Term)
 exact wp_ret (br (tr (Rg c (none,0) [] [1] (.cell (α:=Agg 4) kk (.b 1) (.tmp .nil)))))
 refine K1 (bk (tn (T0 (Fp [(0,0)] 1 c fun _ c=>Ess 1 (tC p0 ga0 gc1) c fun _ c=>?_))))
 refine Fp [] 1 c fun _ c=>E0 ?_
 cases h
 exact wp_ret (Rg c (ga0,gc1) [] [0] (.cell (α:=Agg 4) kk (.b 1) (.tmp .nil)))
theorem Ya (n:Nat):(∀ {p0 ga0 gc1 r} (h:Z6 n p0 = some r),Con prog 121 [tV p0 ga0 gc1] [] [lR ga0 p0.Kids gc1] fun (i:Oh)=>([tV r.1 i.1 i.2,.bool r.2],[],[lR i.1 r.1.Kids i.2])) ∧
    (∀ {p0 ga0 gc1 r} (h:Z4 n p0 = some r),Ct 89 [tV p0 ga0 gc1] [lR ga0 p0.Kids gc1] r) ∧
    (∀ {p0 ga0 gc1 r} (h:Zh n p0 = some r),Ct 98 [tV p0 ga0 gc1] [lR ga0 p0.Kids gc1] r) ∧
    (∀ {p0 ga0 gc1 r} (h:YD n p0 = some r),Ct 99 [tV p0 ga0 gc1] [lR ga0 p0.Kids gc1] r) ∧
    (∀ {p0 ga0 gc1 r} (h:Yu n p0 = some r),Ct 100 [tV p0 ga0 gc1] [lR ga0 p0.Kids gc1] r) ∧
    (∀ {p0 p1 p2 ga0 gc1 r} (h:Yl n p0 p1 p2 = some r),Ct 123 [I p0,tV p1 ga0 gc1,I p2] [lR ga0 p1.Kids gc1] r):=by
 induction n with
 | zero=>exact ⟨by intro p0 ga0 gc1 r h; simp [Z6] at h,by intro p0 ga0 gc1 r h; simp [Z4] at h,by intro p0 ga0 gc1 r h; simp [Zh] at h,by intro p0 ga0 gc1 r h; simp [YD] at h,by intro p0 ga0 gc1 r h; simp [Yu] at h,by intro p0 p1 p2 ga0 gc1 r h; simp [Yl] at h⟩
 | succ n ih=>
 obtain ⟨ih0,ih1,ih2,ih3,ih4,ih5⟩:=ih
 refine ⟨?_,?_,?_,?_,?_,?_⟩
 · intro p0 ga0 gc1 r h
   rw [Z6] at h
   refine En func121 rfl ntmps121 fun _ fr w c=>?_
   refine T0 (Ebx (tC p0 ga0 gc1) c fun b1 _ _ c=>?_)
   refine Eal tZ c fun b2 _ _ c=>?_
   refine Fp [] 1 c fun _ c=>E0 (T0 (Fp [(1,0)] 2 c fun _ c=>Bd h fun x1 hx1 h=>Eem c (.f 0) hx1 fun _ u1 _ c=>?_))
   obtain ⟨a1,c1,rfl,c⟩:=c.o_Term 1
   refine Eal tZ c fun b3 _ _ c=>?_
   refine Ess 2 (tC x1 a1 c1) c fun _ c=>?_
   refine E0 (T0 (Fp [(1,0)] 2 c fun _ c=>?_))
   replace c:=c.ng
   refine Bd h fun x2 hx2 h=>Eem c (.f 0) hx2 fun _ u2 _ c=>?_
   obtain ⟨a2,c2,rfl,c⟩:=c.o_Term 3
   refine Eal tZ c fun b4 _ _ c=>?_
   refine Ess 3 (tC x2 a2 c2) c fun _ c=>?_
   refine E0 (T0 (Fp [(0,2)] 1 c fun _ c=>Bd h fun x3 hx3 h=>Cb c (Y2 hx3) ⟨.f 2,tt⟩ call43 fun _ _ _ c=>?_))
   refine Fp [] 1 c fun _ c=>E0 (T0 (Fp [(0,2)] 1 c fun _ c=>Bd h fun x4 hx4 h=>Cb c (Zep hx4) ⟨.f 2,tt⟩ call143 fun _ _ _ c=>?_))
   refine Fp [] 1 c fun _ c=>E0 (S0 (wp_block (S0 (S0 (Ry [(1,0)] mix c fun _ _ c=>Bd h fun rl1 hit1 h=>?_)))))
   have hk1:=h
   refine Jr (fun s  (_:Unit)=>([(1,B b1 0),(2,B b2 0),(4,B b3 0),(5,B b4 0),(6,.bool x3),(7,.bool x4),(20,.bool s)],id,[])) hit1 c (fun h=>?_) fun s1r _ _ _ hrl c=>?_
   refine I0 c h (fun h=>?_) fun h=>?_
   refine K0 (⟨_,(),(sk h),c.rk (rg 4) (rg 5)⟩)
   refine S0 (Ry [(1,0)] mix c fun _ _ c=>I0 c h (fun h=>?_) fun h=>?_)
   refine K0 (⟨_,(),(sk h),c.rk (rg 4) (rg 5)⟩)
   refine Ry [(1,0)] mix c fun _ _ c=>?_
   exact ⟨_,(),(sk h),c.rk (rg 4) (rg 5)⟩
   subst hrl
   refine I0 c h (fun h=>?_) fun h=>?_
   refine T0 (Fp [(0,3)] 1 c fun _ c=>?_)
   replace c:=c.nf
   refine Ess 1 (tC x2 a2 c2) c fun _ c=>?_
   refine Fp [] 1 c fun _ c=>E0 ?_
   cases h
   exact wp_ret (br (tr (Rg c (a2,c2) [] [4] (.cell (α:=Agg 4) kk (.b 1) (.tmp .nil)))))
   refine S0 (S0 (Ry [(1,0)] mix c fun _ _ c=>Bd h fun rl2 hit2 h=>?_))
   have hk2:=h
   refine Jr (fun s  (_:Unit)=>([(1,B b1 0),(2,B b2 0),(4,B b3 0),(5,B b4 0),(7,.bool x4),(40,.bool s)],id,[])) hit2 c (fun h=>?_) fun s2r _ _ _ hrl c=>?_
   refine I0 c h (fun h=>?_) fun h=>?_
   refine K0 (⟨_,(),(sk h),c.rk (rg 4) (rg 5)⟩)
   refine S0 (Ry [(1,0)] mix c fun _ _ c=>I0 c h (fun h=>?_) fun h=>?_)
   refine K0 (⟨_,(),(sk h),c.rk (rg 4) (rg 5)⟩)
   refine Ry [(1,0)] mix c fun _ _ c=>?_
   exact ⟨_,(),(sk h),c.rk (rg 4) (rg 5)⟩
   subst hrl
   refine I0 c h (fun h=>?_) fun h=>?_
   refine T0 (Fp [(0,2)] 1 c fun _ c=>?_)
   replace c:=c.nf
   refine Ess 1 (tC x1 a1 c1) c fun _ c=>?_
   refine Fp [] 1 c fun _ c=>E0 ?_
   cases h
   exact wp_ret (br (tr (Rg c (a1,c1) [] [2] (.cell (α:=Agg 4) kk (.b 1) (.tmp .nil)))))
   refine S0 (S0 (Ry [(1,0),(5,2)] mix c fun _ _ c=>Bd h fun rl3 hit3 h=>?_))
   have hk3:=h
   refine Jr (fun s  (_:Unit)=>([(1,B b1 0),(2,B b2 0),(4,B b3 0),(5,B b4 0),(7,.bool x4),(60,.bool s)],id,[])) hit3 c (fun h=>?_) fun s3r _ _ _ hrl c=>?_
   refine I0 c h (fun h=>?_) fun h=>?_
   refine K0 (⟨_,(),(sk h),c.rk (rg 4) (rg 5)⟩)
   refine Ry [(1,0)] mix c fun _ _ c=>?_
   exact ⟨_,(),(sk h),c.rk (rg 4) (rg 5)⟩
   subst hrl
   refine I0 c h (fun h=>?_) fun h=>?_
   refine T0 (Fp [(0,3)] 1 c fun _ c=>?_)
   replace c:=c.nf
   refine Ess 1 (tC x2 a2 c2) c fun _ c=>?_
   refine Fp [] 1 c fun _ c=>E0 ?_
   cases h
   exact wp_ret (br (tr (Rg c (a2,c2) [] [4] (.cell (α:=Agg 4) kk (.b 1) (.tmp .nil)))))
   refine S0 (Ry [(1,0)] mix c fun _ _ c=>I0 c h (fun h=>?_) fun h=>?_)
   refine T0 (Fp [(1,0),(2,3)] 3 c fun _ c=>?_)
   replace c:=c.nf
   refine Eltr 79 [(tR x2 a2 c2)] [x2] c ⟨(Ava.mk_Term x2 (.f 4)),tt⟩ fun a3 c3 _ _ c=>?_
   refine Fp [] 1 c fun _ c=>?_
   replace c:=c.fzr 4 5
   refine Bd h fun x5 hx5 h=>Cg c (ih1 hx5) ⟨.f 6,tt⟩ call89 fun i1 _ _ c=>?_
   refine Ess 1 (tC x5 i1.1 i1.2) c fun _ c=>?_
   refine Fp [] 1 c fun _ c=>E0 ?_
   cases h
   exact wp_ret (br (tr (Rg c (i1.1,i1.2) [] [7] (.cell (α:=Agg 4) kk (.b 1) (.tmp .nil)))))
   refine S0 (Ry [(1,0),(5,2),(10,2)] mix c fun _ _ c=>I0 c h (fun h=>?_) fun h=>?_)
   refine T0 (Fp [(0,3)] 1 c fun _ c=>?_)
   replace c:=c.nf
   refine Ess 1 (tC x2 a2 c2) c fun _ c=>?_
   refine Fp [] 1 c fun _ c=>E0 ?_
   cases h
   exact wp_ret (br (tr (Rg c (a2,c2) [] [4] (.cell (α:=Agg 4) kk (.b 1) (.tmp .nil)))))
   refine S0 (Ry [(1,0),(5,2)] mix c fun _ _ c=>I0 c h (fun h=>?_) fun h=>?_)
   refine T0 (Fp [(0,3)] 1 c fun _ c=>?_)
   replace c:=c.nf
   refine Eltr 79 [(tR x2 a2 c2)] [x2] c ⟨(Ava.mk_Term x2 (.f 4)),tt⟩ fun a4 c4 _ _ c=>?_
   refine Fp [] 1 c fun _ c=>?_
   replace c:=c.fzr 4 5
   refine Bd h fun x6 hx6 h=>Cg c (ih1 hx6) ⟨.f 6,tt⟩ call89 fun i2 _ _ c=>?_
   refine Ess 1 (tC x6 i2.1 i2.2) c fun _ c=>?_
   refine Fp [] 1 c fun _ c=>E0 ?_
   cases h
   exact wp_ret (br (tr (Rg c (i2.1,i2.2) [] [7] (.cell (α:=Agg 4) kk (.b 1) (.tmp .nil)))))
   refine K1 (bk (tn (T0 (Fp [(0,0)] 1 c fun _ c=>?_))))
   replace c:=c.nf
   refine Ess 1 (tC p0 ga0 gc1) c fun _ c=>?_
   refine Fp [] 1 c fun _ c=>E0 ?_
   cases h
   exact wp_ret (Rg c (ga0,gc1) [] [0] (.cell (α:=Agg 4) kk (.b 1) (.tmp .nil)))
 · intro p0 ga0 gc1 r h
   rw [Z4] at h
   refine En func89 rfl ntmps89 fun _ fr w c=>?_
   refine T0 (Ebx (tC p0 ga0 gc1) c fun b1 _ _ c=>?_)
   refine Eal tZ c fun b2 _ _ c=>?_
   refine E0 (P0 [(1,0)] c fun _ c=>T0 (Elt 3 ([]:List Int) c fun a1 c1 _ _ c=>?_))
   refine Fp [] 1 c fun _ c=>E0 (S0 (P0 [(1,0)] c fun _ c=>Bd h fun rl1 hit1 h=>Lp (fun s1  (i:Oh)=>([(1,B b1 0),(2,B b2 0),(3,.bool s1.1),(4,L i.1 s1.q2 i.2),(16,L ga0 p0.Kids gc1),(17,I (len p0.Kids)),(18,I s1.2.1)],fun Γ=>Γ.set 2 (sl3 (L i.1 s1.q2 i.2) s1.q2),[])) (fun  (i:Oh)=>([(1,B b1 0),(2,B b2 0),(3,.bool rl1.1),(4,L i.1 rl1.2 i.2)],fun Γ=>Γ.set 2 (sl3 (L i.1 rl1.2 i.2) rl1.2),[])) hit1 c (a1,c1) (c.rk [0,1,2] [0]) (fun s1 q1 i1 _ _ c h hr1=>?_) fun k1 _ _ c=>?_))
   refine P0 [] c fun _ c=>S0 (I0 c h (fun h=>?_) fun h=>?_)
   refine K0 (S0 (wp_block (T0 (Bd h fun x1 hx1 h=>Eem c (.f 0) hx1 fun _ u1 _ c=>?_))))
   obtain ⟨a2,c2,rfl,c⟩:=c.o_Term 1
   refine Eal tZ c fun b3 _ _ c=>?_
   replace c:=c.nf
   refine Ess 3 (tC x1 a2 c2) c fun _ c=>?_
   refine E0 (S0 (Ry [(3,2)] mix c fun _ _ c=>T1 (Fp [(2,2)] 3 c fun _ c=>Elt 3 ([x1.N]:List Int) c fun a3 c3 _ _ c=>?_)))
   refine Bd h fun x2 hx2 h=>Eap 2 c (.g 4) hx2 fun a4 c4 _ _ c=>?_
   refine Fp [] 1 c fun _ c=>E1 (bk (tn (P1 [] c fun _ c=>Nx h (a4,c4) (c.rk [0,1,2] [0]))))
   refine wp_exit (te (te (be ?_)))
   obtain rfl:=hr1 _ (sk h)
   exact tn ⟨(i1.1,i1.2),c.rk [0,1,2] [0]⟩
   refine S0 (P0 [] c fun _ c=>I0 c h (fun h=>?_) fun h=>?_)
   refine Bd h fun x3 hx3 h=>S0 (Zav mix (rM 5 [(4,.eq (I x3))] [(1,0),(2,0)] c (fun ow=>⟨Yc ow (Ncl c (kN (ZdW hx3)) ⟨.f 0,.g 2,tt⟩ call97),tt⟩) fun _ _ _ _ _ c=>Bd h fun x4 hx4 h=>Cb c (X7 hx4) tt call96 fun _ _ _ c=>?_))
   refine Ess 1 [I x4.Op,I x4.W,I x4.N,Str.val x4.Name,L0] c fun _ c=>?_
   refine E0 ?_
   cases h
   replace c:=c.nilf (α:=D.Term)
   exact wp_ret (tr (Rg c (none,0) [] [1] (.cell (α:=Agg 4) kk (.b 1) .nil)))
   refine K0 (S0 (T0 (Fp [(1,0)] 2 c fun _ c=>Bd h fun x5 hx5 h=>Cb c (Zu hx5) tt call39 fun _ _ _ c=>?_)))
   refine E0 (I0 c h (fun h=>?_) fun h=>?_)
   refine T0 (Fp [(0,0)] 1 c fun _ c=>Bd h fun x6 hx6 h=>Cg c (ih2 hx6) ⟨.f 0,tt⟩ call98 fun i2 _ _ c=>?_)
   replace c:=c.nf
   refine Ess 1 (tC x6 i2.1 i2.2) c fun _ c=>?_
   refine E0 ?_
   obtain rfl:=sj h
   exact wp_ret (tr (Rg c (i2.1,i2.2) [] [1] (.cell (α:=Agg 4) kk (.b 1) .nil)))
   refine K0 (S0 (P0 [(1,0)] c fun _ c=>wp_block (S0 (P0 [] c fun _ c=>Mp (p0.Op == 1) [(48,.bool (p0.Op == 1))] [(48,.bool (p0.Op == 2))] [(48,.bool ((p0.Op == 1) || (p0.Op == 2)))] [48,50] c fun _ c=>I0 c h (fun h=>?_) fun h=>?_))))
   refine Bd h fun x7 hx7 h=>?_
   obtain ⟨ep1,u2,c⟩:=c.elp (.f 0) hx7
   obtain ⟨a5,c5,rfl,c⟩:=c.o_Term 2
   refine S0 (rZ [(2,.eq (.pointer (some ep1))),(4,.eq (I x7.Op))] [(1,0),(6,0)] mix c ⟨Nie c 1,Nlc c 1 0,tt⟩ fun _ _ c=>I0 c h (fun h=>?_) fun h=>?_)
   refine T0 (Fp [(1,0)] 2 c fun _ c=>Bd h fun x8 hx8 h=>Eemf c (.f 0) hx8 ZgP fun _ _ u3 _ c=>?_)
   obtain ⟨a6,c6,rfl⟩:=c.sl 4
   refine Bd h fun x9 hx9 h=>Eem c (.f 4) hx9 fun _ u4 _ c=>?_
   obtain ⟨a7,c7,rfl,c⟩:=c.o_Term 5
   replace c:=c.nf
   refine Ess 1 (tC x9 a7 c7) c fun _ c=>?_
   refine E0 ?_
   obtain rfl:=sj h
   exact wp_ret (br (tr (Rg c (a7,c7) [] [6] (.cell (α:=Agg 4) kk (.b 1) .nil))))
   refine K1 (bk (tn (T0 (Fp [(0,0)] 1 c fun _ c=>Ess 1 (tC p0 ga0 gc1) c fun _ c=>?_))))
   refine E0 ?_
   obtain rfl:=sj h
   exact wp_ret (Rg c (ga0,gc1) [] [0] (.cell (α:=Agg 4) kk (.b 1) .nil))
   refine P0 [] c fun _ c=>I0 c h (fun h=>?_) fun h=>?_
   refine T0 (Fp [(0,0)] 1 c fun _ c=>Bd h fun x10 hx10 h=>Cg c (ih3 hx10) ⟨.f 0,tt⟩ call99 fun i3 _ _ c=>?_)
   replace c:=c.nf
   refine Ess 1 (tC x10 i3.1 i3.2) c fun _ c=>?_
   refine E0 ?_
   obtain rfl:=sj h
   exact wp_ret (br (tr (Rg c (i3.1,i3.2) [] [1] (.cell (α:=Agg 4) kk (.b 1) .nil))))
   refine P0 [] c fun _ c=>I0 c h (fun h=>?_) fun h=>?_
   refine T0 (Fp [(0,0)] 1 c fun _ c=>Bd h fun x11 hx11 h=>Cg c (ih4 hx11) ⟨.f 0,tt⟩ call100 fun i4 _ _ c=>?_)
   replace c:=c.nf
   refine Ess 1 (tC x11 i4.1 i4.2) c fun _ c=>?_
   refine E0 ?_
   obtain rfl:=sj h
   exact wp_ret (br (tr (Rg c (i4.1,i4.2) [] [1] (.cell (α:=Agg 4) kk (.b 1) .nil))))
   refine S0 (P0 [] c fun _ c=>Mp (p0.Op == 20) [(74,.bool (p0.Op == 20))] [(74,.bool (p0.Op == 21))] [(74,.bool ((p0.Op == 20) || (p0.Op == 21)))] [74,76] c fun _ c=>I0 c h (fun h=>?_) fun h=>?_)
   refine T0 (Fp [(1,0)] 2 c fun _ c=>Bd h fun x12 hx12 h=>Eem c (.f 0) hx12 fun _ u5 _ c=>?_)
   obtain ⟨a8,c8,rfl,c⟩:=c.o_Term 1
   replace c:=c.nf
   refine Eal tZ c fun b4 _ _ c=>?_
   refine Ess 3 (tC x12 a8 c8) c fun _ c=>?_
   refine E0 (S0 (P0 [(1,2),(3,0)] c fun _ c=>I0 c h (fun h=>?_) fun h=>?_))
   refine T0 (Fp [(0,2)] 1 c fun _ c=>Ess 1 (tC x12 a8 c8) c fun _ c=>?_)
   refine E0 ?_
   obtain rfl:=sj h
   exact wp_ret (tr (br (tr (Rg c (a8,c8) [] [2] (.cell (α:=Agg 4) kk (.b 1) .nil)))))
   refine K0 (P0 [(1,2),(3,0)] c fun _ c=>I0 c h (fun h=>?_) fun h=>?_)
   refine T0 (Fp [(1,0),(3,0),(5,2)] 7 c fun _ c=>Bd h fun x13 hx13 h=>Cg c (ih1 hx13) ⟨.f 2,tt⟩ call89 fun i5 _ _ c=>?_)
   refine Ess 1 (tC x13 i5.1 i5.2) c fun _ c=>?_
   refine E0 ?_
   obtain rfl:=sj h
   exact wp_ret (br (tr (Rg c (i5.1,i5.2) [] [3] (.cell (α:=Agg 4) kk (.b 1) .nil))))
   refine K1 (bk (tn (T0 (Fp [(0,0)] 1 c fun _ c=>Ess 1 (tC p0 ga0 gc1) c fun _ c=>?_))))
   refine E0 ?_
   obtain rfl:=sj h
   exact wp_ret (Rg c (ga0,gc1) [] [0] (.cell (α:=Agg 4) kk (.b 1) .nil))
   refine P0 [] c fun _ c=>I0 c h (fun h=>?_) fun h=>?_
   refine T0 (Fp [(1,0)] 2 c fun _ c=>Bd h fun x14 hx14 h=>Eem c (.f 0) hx14 fun _ u6 _ c=>?_)
   obtain ⟨a9,c9,rfl,c⟩:=c.o_Term 1
   replace c:=c.nf
   refine Eal tZ c fun b5 _ _ c=>?_
   refine Ess 3 (tC x14 a9 c9) c fun _ c=>?_
   refine E0 (T0 (Fp [(1,0)] 2 c fun _ c=>Bd h fun x15 hx15 h=>Eem c (.f 0) hx15 fun _ u7 _ c=>?_))
   obtain ⟨a10,c10,rfl,c⟩:=c.o_Term 3
   refine Eal tZ c fun b6 _ _ c=>?_
   refine Ess 4 (tC x15 a10 c10) c fun _ c=>?_
   refine E0 (Bd h fun x16 hx16 h=>Bd h fun x17 hx17 h=>Bd h fun x18 hx18 h=>S0 (rZ [(11,Pd.el (x16:D.Term)),(12,Pd.rd (x16:D.Term)),(15,Pd.el (x17:D.Term)),(16,Pd.rd (x17:D.Term)),(17,.eq (.bool x18))] [(1,2),(5,3),(10,2),(14,3),(21,2),(23,3),(25,3)] mix c ⟨Nid c (.f 2) (gT hx16),Nrd c 11 (atN 11),Nid c (.f 4) (gT hx17),Nrd c 15 (atN 15),Ncd (Ψ:=[]) [.r 12 (fun v=>RO v (x16:D.Term)),.r 16 (fun v=>RO v (x17:D.Term))] c ⟨(atN 12),(atN 16),tt⟩ tt (fun hg _ _ ga gp=>by obtain ⟨u1,_,rfl,g1,u2,_,rfl,g2,rfl⟩:=ga; obtain ⟨k1,rfl,f1⟩:=Opn.opn g1; obtain ⟨k2,rfl,f2⟩:=Opn.opn g2; exact ⟨_,(f1.join f2),Zbo (iteT (gcT hg) hx18)⟩) call101,tt⟩ fun _ _ c=>I0 c h (fun h=>?_) fun h=>?_))
   refine T0 (Fp [(1,0),(3,3),(5,3)] 7 c fun _ c=>?_)
   replace c:=c.ng
   refine Bd h fun x19 hx19 h=>Cg c (ih1 hx19) ⟨.f 4,tt⟩ call89 fun i6 _ _ c=>?_
   refine Ess 1 (tC x19 i6.1 i6.2) c fun _ c=>?_
   refine E0 ?_
   obtain rfl:=sj h
   exact wp_ret (br (tr (Rg c (i6.1,i6.2) [] [5] (.cell (α:=Agg 4) kk (.b 1) .nil))))
   refine K1 (bk (tn (T0 (Fp [(0,0)] 1 c fun _ c=>?_))))
   replace c:=c.ng
   refine Ess 1 (tC p0 ga0 gc1) c fun _ c=>?_
   refine E0 ?_
   obtain rfl:=sj h
   exact wp_ret (Rg c (ga0,gc1) [] [0] (.cell (α:=Agg 4) kk (.b 1) .nil))
   refine K1 (bk (tn (T0 (Fp [(0,0)] 1 c fun _ c=>Ess 1 (tC p0 ga0 gc1) c fun _ c=>?_))))
   refine E0 ?_
   obtain rfl:=sj h
   exact wp_ret (Rg c (ga0,gc1) [] [0] (.cell (α:=Agg 4) kk (.b 1) .nil))
 · intro p0 ga0 gc1 r h
   rw [Zh] at h
   refine En func98 rfl ntmps98 fun _ fr w c=>?_
   refine T0 (Ebx (tC p0 ga0 gc1) c fun b1 _ _ c=>?_)
   refine Eal tZ c fun b2 _ _ c=>?_
   refine E0 (T0 (Fp [(1,0)] 2 c fun _ c=>Bd h fun x1 hx1 h=>Eem c (.f 0) hx1 fun _ u1 _ c=>?_))
   obtain ⟨a1,c1,rfl,c⟩:=c.o_Term 1
   refine Eal tZ c fun b3 _ _ c=>?_
   refine Ess 2 (tC x1 a1 c1) c fun _ c=>?_
   refine E0 (T0 (Fp [(1,0)] 2 c fun _ c=>?_))
   replace c:=c.ng
   refine Bd h fun x2 hx2 h=>Eem c (.f 0) hx2 fun _ u2 _ c=>?_
   obtain ⟨a2,c2,rfl,c⟩:=c.o_Term 3
   refine Eal tZ c fun b4 _ _ c=>?_
   refine Ess 3 (tC x2 a2 c2) c fun _ c=>?_
   refine E0 (Bd h fun x3 hx3 h=>S0 (rZ [(11,.eq (.bool x3))] [(1,0),(5,0),(10,0)] mix c ⟨Ncl c (fun hg=>Zu (iteF (gcF hg) hx3)) tt call39,tt⟩ fun _ _ c=>S0 (Bd h fun x4 hx4 h=>S0 (rZ [(9,.eq (I x4))] [(3,0),(7,2),(8,3)] mix c ⟨Ncl c (fun hg=>Zbf (iteT (gcT hg) hx4)) ⟨.f 2,.f 4,tt⟩ call120,tt⟩ fun _ _ c=>I0 c h (fun h=>?_) fun h=>?_))))
   refine T0 (Fp [(0,3),(1,2)] 2 c fun _ c=>Eltr 79 [(tR x2 a2 c2),(tR x1 a1 c1)] [x2,x1] c ⟨(Ava.mk_Term x2 (.f 4)),(Ava.mk_Term x1 (.f 2)),tt⟩ fun a3 c3 _ _ c=>?_)
   refine Fp [] 1 c fun _ c=>Esb 0 4 (L a3 [x2,x1] c3) c fun _ c=>?_
   refine E0 (T0 (Fp [(0,0)] 1 c fun _ c=>?_))
   replace c:=c.ng
   replace c:=c.fzr 4 5
   refine Bd h fun x5 hx5 h=>Cg c (ih1 hx5) ⟨.f 6,tt⟩ call89 fun i1 _ _ c=>?_
   refine Ess 1 (tC x5 i1.1 i1.2) c fun _ c=>?_
   refine E0 ?_
   obtain rfl:=sj h
   exact wp_ret (tr (Rg c (i1.1,i1.2) [] [7] (.cell (α:=Agg 4) kk (.b 1) .nil)))
   refine K0 (S0 (P0 [(1,2)] c fun _ c=>Bd h fun rl1 hit1 h=>?_))
   have hk1:=h
   refine Jr (fun s  (_:Unit)=>([(1,B b1 0),(2,B b2 0),(3,B b3 0),(4,B b4 0),(5,.bool (((p0.Op == 3) || (p0.Op == 5)) || x3))],id,[])) hit1 c (fun h=>?_) fun s1r _ _ _ hrl c=>?_
   refine I0 c h (fun h=>?_) fun h=>?_
   refine T0 (Fp [(0,0)] 1 c fun _ c=>Bd h fun x6 hx6 h=>Cg c (ih0 hx6) ⟨.f 0,tt⟩ call121 fun i2 _ _ c=>?_)
   refine Fp [] 3 c fun _ c=>Eal tZ c fun b5 _ _ c=>?_
   replace c:=c.nf
   refine Ess 4 (tC x6.1 i2.1 i2.2) c fun _ c=>?_
   refine Fp [] 1 c fun _ c=>E0 (P0 [] c fun _ c=>I0 c h (fun h=>?_) fun h=>?_)
   refine T0 (Fp [(0,4)] 1 c fun _ c=>Ess 1 (tC x6.1 i2.1 i2.2) c fun _ c=>?_)
   refine E0 ?_
   obtain rfl:=sj h
   obtain rfl:=sj hk1
   exact wp_ret (tr (Rg c (i2.1,i2.2) [] [5] (.cell (α:=Agg 4) kk (.b 1) .nil)))
   refine K0 (⟨_,(),(sk h),c.rk (rg 4) (rg 5)⟩)
   refine K0 (⟨_,(),(sk h),c.rk (rg 4) (rg 5)⟩)
   subst hrl
   refine S0 (T0 (Fp [(0,3)] 1 c fun _ c=>Bd h fun x7 hx7 h=>Cb c (Y2 hx7) ⟨.f 4,tt⟩ call43 fun _ _ _ c=>?_))
   refine E0 (Bd h fun rl2 hit2 h=>?_)
   have hk2:=h
   refine Jr (fun s  (_:Unit)=>([(1,B b1 0),(2,B b2 0),(3,B b3 0),(4,B b4 0),(5,.bool (((p0.Op == 3) || (p0.Op == 5)) || x3))],id,[])) hit2 c (fun h=>?_) fun s2r _ _ _ hrl c=>?_
   refine I0 c h (fun h=>?_) fun h=>?_
   refine S0 (Bd h fun x8 hx8 h=>S0 (rZ [(6,.eq (.bool x8))] [(1,0),(5,0)] mix c ⟨Ncl c (fun hg=>Zu (iteF (gcF hg) hx8)) tt call39,tt⟩ fun _ _ c=>I0 c h (fun h=>?_) fun h=>?_))
   refine T0 (Fp [(0,2)] 1 c fun _ c=>Ess 1 (tC x1 a1 c1) c fun _ c=>?_)
   refine E0 ?_
   obtain rfl:=sj h
   obtain rfl:=sj hk2
   exact wp_ret (tr (tr (Rg c (a1,c1) [] [2] (.cell (α:=Agg 4) kk (.b 1) .nil))))
   refine K0 (P0 [(1,0)] c fun _ c=>I0 c h (fun h=>?_) fun h=>?_)
   refine T0 (Bd h fun x9 hx9 h=>Cb c (X7 hx9) tt call96 fun _ _ _ c=>?_)
   replace c:=c.nf
   refine Ess 1 [I x9.Op,I x9.W,I x9.N,Str.val x9.Name,L0] c fun _ c=>?_
   refine E0 ?_
   obtain rfl:=sj h
   obtain rfl:=sj hk2
   replace c:=c.nilf (α:=D.Term)
   exact wp_ret (tr (Rg c (none,0) [] [5] (.cell (α:=Agg 4) kk (.b 1) .nil)))
   refine K0 (⟨_,(),(sk h),c.rk (rg 4) (rg 5)⟩)
   refine K0 (⟨_,(),(sk h),c.rk (rg 4) (rg 5)⟩)
   subst hrl
   refine S0 (T0 (Fp [(0,2),(1,3)] 2 c fun _ c=>Bd h fun x10 hx10 h=>Cb c (Zbo hx10) ⟨.f 2,.f 4,tt⟩ call101 fun _ _ _ c=>?_))
   refine E0 (Bd h fun rl3 hit3 h=>?_)
   have hk3:=h
   refine Jr (fun s  (_:Unit)=>([(1,B b1 0),(2,B b2 0),(3,B b3 0),(4,B b4 0),(5,.bool (((p0.Op == 3) || (p0.Op == 5)) || x3))],id,[])) hit3 c (fun h=>?_) fun s3r _ _ _ hrl c=>?_
   refine I0 c h (fun h=>?_) fun h=>?_
   refine T0 (Fp [(0,0)] 1 c fun _ c=>?_)
   replace c:=c.nf
   refine Bd h fun x11 hx11 h=>Cg c (ZdP hx11) ⟨.f 0,tt⟩ call122 fun i3 _ _ c=>?_
   refine Fp [] 3 c fun _ c=>Eal tZ c fun b6 _ _ c=>?_
   refine Ess 4 (tC x11.1 i3.1 i3.2) c fun _ c=>?_
   refine Fp [] 1 c fun _ c=>E0 (P0 [] c fun _ c=>I0 c h (fun h=>?_) fun h=>?_)
   refine T0 (Fp [(0,4)] 1 c fun _ c=>Ess 1 (tC x11.1 i3.1 i3.2) c fun _ c=>?_)
   refine E0 ?_
   obtain rfl:=sj h
   obtain rfl:=sj hk3
   exact wp_ret (tr (Rg c (i3.1,i3.2) [] [5] (.cell (α:=Agg 4) kk (.b 1) .nil)))
   refine K0 (⟨_,(),(sk h),c.rk (rg 4) (rg 5)⟩)
   refine K0 (⟨_,(),(sk h),c.rk (rg 4) (rg 5)⟩)
   subst hrl
   refine S0 (Bd h fun x12 hx12 h=>S0 (rZ [(16,Pd.el (x12:D.Term)),(17,Pd.fl (I x12.Op)),(18,.eq (I x12.Op))] [(3,2),(8,3),(10,0),(15,3)] mix c ⟨Nid c (.f 4) (gT hx12),Nfa c 16 (atN 16) ZiM,Nlf c 17 (atN 17),tt⟩ fun _ _ c=>I0 c h (fun h=>?_) fun h=>?_))
   refine Bd h fun x13 hx13 h=>?_
   obtain ⟨ep1,u3,c⟩:=c.elp (.f 4) hx13
   obtain ⟨a4,c4,rfl,c⟩:=c.o_Term 6
   refine Bd h fun x14 hx14 h=>S0 (rZ [(8,.eq (.pointer (some ep1))),(10,.eq (I x13.N)),(11,.eq (I x14))] [(1,0),(3,0),(5,2),(7,3)] mix c ⟨Nie c 5,Nlc c 5 2,Ncl c (kN (Zbt hx14)) tt call116,tt⟩ fun _ _ c=>Bd h fun x15 hx15 h=>Bd h fun x16 hx16 h=>?_)
   obtain ⟨ep2,u4,c⟩:=c.elp (.f 4) hx16
   obtain ⟨a5,c5,rfl,c⟩:=c.o_Term 9
   refine S0 (Zav mix (rM 13 [(7,.eq (.agg #[I x15.Op,I x15.W,I x15.N,Str.val x15.Name,L0])),(10,.eq (.pointer (some ep2))),(11,.eq (tV x16 a5 c5)),(12,Pd.nw c.wd 12 (fun i:Oh=>L i.1 [(t0 x15),x16] i.2) (fun i=>sl79 (L i.1 [(t0 x15),x16] i.2) [(u0 x15),(tR x16 a5 c5)]))] [(1,0),(3,0),(5,0),(9,3)] c (fun ow=>⟨Yc ow (Ncl c (kN (X7 hx15)) tt call96),Yc ow (Nie c 8),Yc ow (Nle c 8),Nlt c [(u0 x15),(tR x16 a5 c5)],tt⟩) fun ow _ _ hE hc cq=>?_))
   obtain ⟨i4,hi4⟩:=hE.nw 12 130
   replace c:=Cx.newt c hc cq [(12,130,_,_)] ⟨hi4,tt⟩
   replace c:=c.csl [(u0 x15),(tR x16 a5 c5)] [(t0 x15),x16] ⟨(Ava.mk_Term (t0 x15) (.nil)),(Ava.mk_Term x16 (.f 10)),tt⟩
   refine Fp [] 1 c fun _ c=>?_
   replace c:=c.nf
   replace c:=c.fzr 4 11
   refine Bd h fun x17 hx17 h=>Cg c (ih1 hx17) ⟨.f 12,tt⟩ call89 fun i5 _ _ c=>?_
   refine Ess 1 (tC x17 i5.1 i5.2) c fun _ c=>?_
   refine E0 ?_
   obtain rfl:=sj h
   exact wp_ret (tr (Rg c (i5.1,i5.2) [] [13] (.cell (α:=Agg 4) kk (.b 1) .nil)))
   refine K0 (T0 (Fp [(0,0)] 1 c fun _ c=>?_))
   replace c:=c.nf
   refine Ess 1 (tC p0 ga0 gc1) c fun _ c=>?_
   refine E0 ?_
   obtain rfl:=sj h
   exact wp_ret (Rg c (ga0,gc1) [] [0] (.cell (α:=Agg 4) kk (.b 1) .nil))
 · intro p0 ga0 gc1 r h
   rw [YD] at h
   refine En func99 rfl ntmps99 fun _ fr w c=>?_
   refine T0 (Ebx (tC p0 ga0 gc1) c fun b1 _ _ c=>?_)
   refine Eal tZ c fun b2 _ _ c=>?_
   refine E0 (T0 (Fp [(1,0)] 2 c fun _ c=>Bd h fun x1 hx1 h=>Eem c (.f 0) hx1 fun _ u1 _ c=>?_))
   obtain ⟨a1,c1,rfl,c⟩:=c.o_Term 1
   refine Eal tZ c fun b3 _ _ c=>?_
   refine Ess 2 (tC x1 a1 c1) c fun _ c=>?_
   refine E0 (T0 (Fp [(1,0)] 2 c fun _ c=>?_))
   replace c:=c.ng
   refine Bd h fun x2 hx2 h=>Eem c (.f 0) hx2 fun _ u2 _ c=>?_
   obtain ⟨a2,c2,rfl,c⟩:=c.o_Term 3
   refine Eal tZ c fun b4 _ _ c=>?_
   refine Ess 3 (tC x2 a2 c2) c fun _ c=>?_
   refine E0 (T0 (Fp [(1,0)] 2 c fun _ c=>Bd h fun x3 hx3 h=>Eem c (.f 0) hx3 fun _ u3 _ c=>?_))
   obtain ⟨a3,c3,rfl,c⟩:=c.o_Term 5
   refine Eal tZ c fun b5 _ _ c=>?_
   replace c:=c.ng
   refine Ess 4 (tC x3 a3 c3) c fun _ c=>?_
   refine E0 (S0 (wp_block (T0 (Fp [(0,2)] 1 c fun _ c=>Bd h fun x4 hx4 h=>Cb c (Y2 hx4) ⟨.f 2,tt⟩ call43 fun _ _ _ c=>?_))))
   refine Fp [] 1 c fun _ c=>E0 (I0 c h (fun h=>?_) fun h=>?_)
   refine T0 (Fp [(0,3)] 1 c fun _ c=>Ess 1 (tC x2 a2 c2) c fun _ c=>?_)
   refine E0 ?_
   obtain rfl:=sj h
   exact wp_ret (br (tr (Rg c (a2,c2) [] [4] (.cell (α:=Agg 4) kk (.b 1) .nil))))
   refine T0 (Fp [(0,2)] 1 c fun _ c=>Bd h fun x5 hx5 h=>Cb c (Y2 hx5) ⟨.f 2,tt⟩ call43 fun _ _ _ c=>?_)
   refine Fp [] 1 c fun _ c=>E0 (I0 c h (fun h=>?_) fun h=>?_)
   refine T0 (Fp [(0,4)] 1 c fun _ c=>Ess 1 (tC x3 a3 c3) c fun _ c=>?_)
   refine E0 ?_
   obtain rfl:=sj h
   exact wp_ret (br (tr (Rg c (a3,c3) [] [6] (.cell (α:=Agg 4) kk (.b 1) .nil))))
   refine T0 (Fp [(0,3),(1,4)] 2 c fun _ c=>Bd h fun x6 hx6 h=>Cb c (Zbo hx6) ⟨.f 4,.f 6,tt⟩ call101 fun _ _ _ c=>?_)
   refine Fp [] 1 c fun _ c=>E0 (I0 c h (fun h=>?_) fun h=>?_)
   refine T0 (Fp [(0,3)] 1 c fun _ c=>Ess 1 (tC x2 a2 c2) c fun _ c=>?_)
   refine E0 ?_
   obtain rfl:=sj h
   exact wp_ret (br (tr (Rg c (a2,c2) [] [4] (.cell (α:=Agg 4) kk (.b 1) .nil))))
   refine P0 [(1,2)] c fun _ c=>I0 c h (fun h=>?_) fun h=>?_
   refine Bd h fun x7 hx7 h=>?_
   obtain ⟨ep1,u4,c⟩:=c.elp (.f 2) hx7
   obtain ⟨a4,c4,rfl,c⟩:=c.o_Term 8
   refine S0 (Zav mix (rM 9 [(4,.eq (.pointer (some ep1))),(5,.eq (tV x7 a4 c4)),(8,Pd.nw c.wd 8 (fun i:Oh=>L i.1 [x7,x3,x2] i.2) (fun i=>sl79 (L i.1 [x7,x3,x2] i.2) [(tR x7 a4 c4),(tR x3 a3 c3),(tR x2 a2 c2)]))] [(1,0),(3,2),(6,4),(7,3)] c (fun ow=>⟨Yc ow (Nie c 7),Yc ow (Nle c 7),Nlt c [(tR x7 a4 c4),(tR x3 a3 c3),(tR x2 a2 c2)],tt⟩) fun ow _ _ hE hc cq=>?_))
   obtain ⟨i1,hi1⟩:=hE.nw 8 43
   replace c:=Cx.newt c hc cq [(8,43,_,_)] ⟨hi1,tt⟩
   replace c:=c.csl [(tR x7 a4 c4),(tR x3 a3 c3),(tR x2 a2 c2)] [x7,x3,x2] ⟨(Ava.mk_Term x7 (.f 9)),(Ava.mk_Term x3 (.f 6)),(Ava.mk_Term x2 (.f 4)),tt⟩
   refine Fp [] 1 c fun _ c=>?_
   replace c:=c.ng
   replace c:=c.fzr 5 10
   refine Bd h fun x8 hx8 h=>Cg c (ih1 hx8) ⟨.f 11,tt⟩ call89 fun i2 _ _ c=>?_
   refine Ess 1 (tC x8 i2.1 i2.2) c fun _ c=>?_
   refine E0 ?_
   obtain rfl:=sj h
   exact wp_ret (br (tr (Rg c (i2.1,i2.2) [] [12] (.cell (α:=Agg 4) kk (.b 1) .nil))))
   refine Bd h fun x9 hx9 h=>Bd h fun x10 hx10 h=>S0 (rZ [(5,.eq (.bool x9)),(9,.eq (.bool x10))] [(1,0),(4,3),(8,4)] mix c ⟨Ncl c (fun hg=>Y2 (iteT (gcT hg) hx9)) ⟨.f 4,tt⟩ call43,Ncl c (fun hg=>Y2 (iteT (gcT hg) hx10)) ⟨.f 6,tt⟩ call43,tt⟩ fun _ _ c=>I0 c h (fun h=>?_) fun h=>?_)
   refine T0 (Fp [(0,2)] 1 c fun _ c=>Ess 1 (tC x1 a1 c1) c fun _ c=>?_)
   refine E0 ?_
   obtain rfl:=sj h
   exact wp_ret (br (tr (Rg c (a1,c1) [] [2] (.cell (α:=Agg 4) kk (.b 1) .nil))))
   refine Bd h fun x11 hx11 h=>Bd h fun x12 hx12 h=>S0 (rZ [(5,.eq (.bool x11)),(9,.eq (.bool x12))] [(1,0),(4,3),(8,4)] mix c ⟨Ncl c (fun hg=>Y2 (iteT (gcT hg) hx11)) ⟨.f 4,tt⟩ call43,Ncl c (fun hg=>Y2 (iteT (gcT hg) hx12)) ⟨.f 6,tt⟩ call43,tt⟩ fun _ _ c=>I0 c h (fun h=>?_) fun h=>?_)
   refine T0 (Fp [(0,2)] 1 c fun _ c=>Eltr 79 [(tR x1 a1 c1)] [x1] c ⟨(Ava.mk_Term x1 (.f 2)),tt⟩ fun a5 c5 _ _ c=>?_)
   refine Fp [] 1 c fun _ c=>?_
   replace c:=c.nf
   replace c:=c.fzr 5 7
   refine Bd h fun x13 hx13 h=>Cg c (ih1 hx13) ⟨.f 8,tt⟩ call89 fun i3 _ _ c=>?_
   refine Ess 1 (tC x13 i3.1 i3.2) c fun _ c=>?_
   refine E0 ?_
   obtain rfl:=sj h
   exact wp_ret (br (tr (Rg c (i3.1,i3.2) [] [9] (.cell (α:=Agg 4) kk (.b 1) .nil))))
   refine K1 (bk (tn (T0 (Fp [(0,0)] 1 c fun _ c=>Ess 1 (tC p0 ga0 gc1) c fun _ c=>?_))))
   refine E0 ?_
   obtain rfl:=sj h
   exact wp_ret (Rg c (ga0,gc1) [] [0] (.cell (α:=Agg 4) kk (.b 1) .nil))
 · intro p0 ga0 gc1 r h
   rw [Yu] at h
   refine En func100 rfl ntmps100 fun _ fr w c=>?_
   refine T0 (Ebx (tC p0 ga0 gc1) c fun b1 _ _ c=>?_)
   refine Eal tZ c fun b2 _ _ c=>?_
   refine E0 (T0 (Fp [(1,0)] 2 c fun _ c=>Bd h fun x1 hx1 h=>Eem c (.f 0) hx1 fun _ u1 _ c=>?_))
   obtain ⟨a1,c1,rfl,c⟩:=c.o_Term 1
   refine Eal tZ c fun b3 _ _ c=>?_
   refine Ess 2 (tC x1 a1 c1) c fun _ c=>?_
   refine E0 (S0 (wp_block (P0 [(1,0),(3,2)] c fun _ c=>I0 c h (fun h=>?_) fun h=>?_)))
   refine T0 (Fp [(0,2)] 1 c fun _ c=>?_)
   replace c:=c.ng
   refine Ess 1 (tC x1 a1 c1) c fun _ c=>?_
   refine E0 ?_
   obtain rfl:=sj h
   exact wp_ret (br (tr (Rg c (a1,c1) [] [2] (.cell (α:=Agg 4) kk (.b 1) .nil))))
   refine P0 [(1,2)] c fun _ c=>I0 c h (fun h=>?_) fun h=>?_
   refine Bd h fun x2 hx2 h=>?_
   obtain ⟨ep1,u2,c⟩:=c.elp (.f 2) hx2
   obtain ⟨a2,c2,rfl,c⟩:=c.o_Term 4
   refine S0 (Zav mix (rM 11 [(4,.eq (.pointer (some ep1))),(5,.eq (tV x2 a2 c2))] [(1,0),(3,2),(7,0),(9,2)] c (fun ow=>⟨Yc ow (Nie c 3),Yc ow (Nle c 3),tt⟩) fun _ _ _ _ _ c=>?_))
   replace c:=c.ng
   refine Bd h fun x3 hx3 h=>Cg c (ih5 hx3) ⟨.f 5,tt⟩ call123 fun i1 _ _ c=>?_
   refine Ess 1 (tC x3 i1.1 i1.2) c fun _ c=>?_
   refine E0 ?_
   obtain rfl:=sj h
   exact wp_ret (br (tr (Rg c (i1.1,i1.2) [] [6] (.cell (α:=Agg 4) kk (.b 1) .nil))))
   refine Bd h fun x4 hx4 h=>S0 (rZ [(11,Pd.el (x4:D.Term)),(12,Pd.fl (I x4.W)),(13,.eq (I x4.W))] [(1,2),(5,0),(7,0),(10,2)] mix c ⟨Nid c (.f 2) (gT hx4),Nfa c 11 (atN 11) Zbr,Nlf c 12 (atN 12),tt⟩ fun _ _ c=>I0 c h (fun h=>?_) fun h=>?_)
   refine Bd h fun x5 hx5 h=>?_
   obtain ⟨ep2,u3,c⟩:=c.elp (.f 2) hx5
   obtain ⟨a3,c3,rfl,c⟩:=c.o_Term 4
   refine S0 (Zav mix (rM 8 [(4,.eq (.pointer (some ep2))),(5,.eq (tV x5 a3 c3))] [(1,0),(3,2),(7,0)] c (fun ow=>⟨Yc ow (Nie c 3),Yc ow (Nle c 3),tt⟩) fun _ _ _ _ _ c=>?_))
   replace c:=c.ng
   refine Bd h fun x6 hx6 h=>Cg c (ih5 hx6) ⟨.f 5,tt⟩ call123 fun i2 _ _ c=>?_
   refine Ess 1 (tC x6 i2.1 i2.2) c fun _ c=>?_
   refine E0 ?_
   obtain rfl:=sj h
   exact wp_ret (br (tr (Rg c (i2.1,i2.2) [] [6] (.cell (α:=Agg 4) kk (.b 1) .nil))))
   refine Bd h fun x7 hx7 h=>S0 (rZ [(8,Pd.el (x7:D.Term)),(9,Pd.fl (I x7.W)),(10,.eq (I x7.W))] [(1,2),(5,0),(7,2)] mix c ⟨Nid c (.f 2) (gT hx7),Nfa c 8 (atN 8) Zbr,Nlf c 9 (atN 9),tt⟩ fun _ _ c=>I0 c h (fun h=>?_) fun h=>?_)
   refine Bd h fun x8 hx8 h=>?_
   obtain ⟨ep3,u4,c⟩:=c.elp (.f 2) hx8
   obtain ⟨a4,c4,rfl,c⟩:=c.o_Term 4
   refine Bd h fun x9 hx9 h=>?_
   obtain ⟨ep4,u5,c⟩:=c.elp (.f 2) hx9
   obtain ⟨a5,c5,rfl,c⟩:=c.o_Term 7
   refine S0 (Zav mix (rM 14 [(4,.eq (.pointer (some ep3))),(5,.eq (tV x8 a4 c4)),(10,.eq (.pointer (some ep4))),(12,.eq (I x9.W))] [(1,0),(3,2),(7,0),(9,2)] c (fun ow=>⟨Yc ow (Nie c 3),Yc ow (Nle c 3),Yc ow (Nie c 6),Yc ow (Nlc c 6 1),tt⟩) fun _ _ _ _ _ c=>?_))
   replace c:=c.ng
   refine Bd h fun x10 hx10 h=>Cg c (ih5 hx10) ⟨.f 5,tt⟩ call123 fun i3 _ _ c=>?_
   refine Ess 1 (tC x10 i3.1 i3.2) c fun _ c=>?_
   refine E0 ?_
   obtain rfl:=sj h
   exact wp_ret (br (tr (Rg c (i3.1,i3.2) [] [9] (.cell (α:=Agg 4) kk (.b 1) .nil))))
   refine Bd h fun x11 hx11 h=>Bd h fun x12 hx12 h=>S0 (rZ [(2,.eq (.bool x11)),(11,Pd.el (x12:D.Term)),(12,Pd.fl (I x12.W)),(13,.eq (I x12.W))] [(1,2),(5,0),(7,0),(10,2)] mix c ⟨Ncl c (kN (Zu hx11)) tt call39,Nid c (.f 2) (gT hx12),Nfa c 11 (atN 11) Zbr,Nlf c 12 (atN 12),tt⟩ fun _ _ c=>I0 c h (fun h=>?_) fun h=>?_)
   refine Bd h fun x13 hx13 h=>?_
   obtain ⟨ep5,u6,c⟩:=c.elp (.f 2) hx13
   obtain ⟨a6,c6,rfl,c⟩:=c.o_Term 4
   refine S0 (Zav mix (rM 8 [(4,.eq (.pointer (some ep5))),(5,.eq (tV x13 a6 c6))] [(1,0),(3,2),(7,0)] c (fun ow=>⟨Yc ow (Nie c 3),Yc ow (Nle c 3),tt⟩) fun _ _ _ _ _ c=>?_))
   replace c:=c.ng
   refine Bd h fun x14 hx14 h=>Cg c (ih5 hx14) ⟨.f 5,tt⟩ call123 fun i4 _ _ c=>?_
   refine Ess 1 (tC x14 i4.1 i4.2) c fun _ c=>?_
   refine E0 ?_
   obtain rfl:=sj h
   exact wp_ret (br (tr (Rg c (i4.1,i4.2) [] [6] (.cell (α:=Agg 4) kk (.b 1) .nil))))
   refine K1 (bk (tn (T0 (Fp [(0,0)] 1 c fun _ c=>?_))))
   replace c:=c.ng
   refine Ess 1 (tC p0 ga0 gc1) c fun _ c=>?_
   refine E0 ?_
   obtain rfl:=sj h
   exact wp_ret (Rg c (ga0,gc1) [] [0] (.cell (α:=Agg 4) kk (.b 1) .nil))
 · intro p0 p1 p2 ga0 gc1 r h
   rw [Yl] at h
   refine En func123 rfl ntmps123 fun _ fr w c=>?_
   refine T0 (Ebx (tC p1 ga0 gc1) c fun b1 _ _ c=>?_)
   refine Eal tZ c fun b2 _ _ c=>?_
   refine E0 (T0 (Fp [(2,0)] 3 c fun _ c=>Eltr 79 [(tR p1 ga0 gc1)] [p1] c ⟨(Ava.mk_Term p1 (.f 0)),tt⟩ fun a1 c1 _ _ c=>?_))
   refine Fp [] 1 c fun _ c=>?_
   replace c:=c.fzr 2 1
   refine Bd h fun x1 hx1 h=>Cg c (ih1 hx1) ⟨.f 2,tt⟩ call89 fun i1 _ _ c=>?_
   refine Ess 1 (tC x1 i1.1 i1.2) c fun _ c=>?_
   refine E0 ?_
   obtain rfl:=sj h
   exact wp_ret (Rg c (i1.1,i1.2) [] [3] (.cell (α:=Agg 4) kk (.b 1) .nil))
theorem Zen {n:Nat}:∀ {p0 ga0 gc1 r} (h:Z4 n p0 = some r),Ct 89 [tV p0 ga0 gc1] [lR ga0 p0.Kids gc1] r:=(Ya n).2.1
theorem Zd5 {n:Nat}:∀ {p0 ga0 gc1 r} (h:ZR n p0 = some r),Ct 77 [tV p0 ga0 gc1] [lR ga0 p0.Kids gc1] r:=by
 induction n with
 | zero=>intro p0 ga0 gc1 r h; simp [ZR] at h
 | succ n ih=>
 intro p0 ga0 gc1 r h
 rw [ZR] at h
 refine En func77 rfl ntmps77 fun _ fr w c=>?_
 refine T0 (Ebx (tC p0 ga0 gc1) c fun b1 _ _ c=>?_)
 refine Eal tZ c fun b2 _ _ c=>?_
 refine E0 (T0 (Eltr 79 ([]:List Rw.Term) ([]:List D.Term) c tt fun a1 c1 _ _ c=>?_))
 refine Fp [] 1 c fun _ c=>E0 (S0 (P0 [(1,0)] c fun _ c=>Bd h fun rl1 hit1 h=>Lp (fun s1  (i:List Rw.Term × Oh)=>([(1,B b1 0),(2,B b2 0),(3,L i.2.1 s1.2 i.q2),(8,L ga0 p0.Kids gc1),(9,I (len p0.Kids)),(10,I s1.1)],fun Γ=>Γ.set 2 (sl79 (L i.2.1 s1.2 i.q2) (i.1)),[CS (i.1) s1.2])) (fun  (i:List Rw.Term × Oh)=>([(1,B b1 0),(2,B b2 0),(3,L i.2.1 rl1 i.q2)],fun Γ=>Γ.set 2 (sl79 (L i.2.1 rl1 i.q2) (i.1)),[CS (i.1) rl1])) hit1 c (([]:List Rw.Term),a1,c1) (c.rk [0,1,2] [0,1,1]) (fun s1 q1 i1 _ _ c h hr1=>?_) fun k1 _ _ c=>?_))
 refine P0 [] c fun _ c=>S0 (I0 c h (fun h=>?_) fun h=>?_)
 refine K0 (S0 (wp_block (T0 (Bd h fun x1 hx1 h=>Eem c (.f 0) hx1 fun _ u1 _ c=>?_))))
 obtain ⟨a2,c2,rfl,c⟩:=c.o_Term 3
 refine Eal tZ c fun b3 _ _ c=>?_
 replace c:=c.nf
 refine Ess 3 (tC x1 a2 c2) c fun _ c=>?_
 refine E0 (T1 (Fp [(1,2)] 2 c fun _ c=>Bd h fun x2 hx2 h=>Cg c (ih hx2) ⟨.f 4,tt⟩ call77 fun i2 _ _ c=>?_))
 refine Eltr 79 [(tR x2 i2.1 i2.2)] [x2] c ⟨(Ava.mk_Term x2 (.f 5)),tt⟩ fun a3 c3 _ _ c=>?_
 replace c:=c.fzr 4 6
 refine Bd h fun x3 hx3 h=>Eapr 2 2 c (.f 7) hx3 fun rm1 a4 c4 _ _ c=>?_
 refine Fp [] 1 c fun _ c=>E1 (bk (tn (P1 [] c fun _ c=>Nx h ((i1.1 ++ rm1),a4,c4) (c.rk [0,1,2] [0,1,8]))))
 refine wp_exit (te (te (be ?_)))
 obtain rfl:=hr1 _ (sk h)
 exact tn ⟨(i1.1,i1.2.1,i1.q2),c.rk [0,1,2] [0,1,2]⟩
 refine T0 (Fp [] 2 c fun _ c=>Esb 0 4 (L k1.2.1 rl1 k1.q2) c fun _ c=>?_)
 refine E0 (T0 (Fp [(0,0)] 1 c fun _ c=>?_))
 replace c:=c.fzr 2 2
 refine Bd h fun x4 hx4 h=>Cg c (Zen hx4) ⟨.f 3,tt⟩ call89 fun i3 _ _ c=>?_
 replace c:=c.nf
 refine Ess 1 (tC x4 i3.1 i3.2) c fun _ c=>?_
 refine E0 ?_
 obtain rfl:=sj h
 exact wp_ret (Rg c (i3.1,i3.2) [] [4] (.cell (α:=Agg 4) kk (.b 1) .nil))
theorem Zcp {n:Nat}:∀ {p0 ga0 gc1 r} (h:Y6 n p0 = some r),Ct 76 [tV p0 ga0 gc1] [lR ga0 p0.Kids gc1] r:=by
 induction n with
 | zero=>intro p0 ga0 gc1 r h; simp [Y6] at h
 | succ n ih=>
 intro p0 ga0 gc1 r h
 rw [Y6] at h
 refine En func76 rfl ntmps76 fun _ fr w c=>?_
 refine T0 (Ebx (tC p0 ga0 gc1) c fun b1 _ _ c=>?_)
 refine Eal tZ c fun b2 _ _ c=>?_
 refine E0 (T0 (Eltr 79 ([]:List Rw.Term) ([]:List D.Term) c tt fun a1 c1 _ _ c=>?_))
 refine Fp [] 1 c fun _ c=>E0 (S0 (P0 [(1,0)] c fun _ c=>Bd h fun rl1 hit1 h=>Lp (fun s1  (i:List Rw.Term × Oh)=>([(1,B b1 0),(2,B b2 0),(3,L i.2.1 s1.2 i.q2),(8,L ga0 p0.Kids gc1),(9,I (len p0.Kids)),(10,I s1.1)],fun Γ=>Γ.set 2 (sl79 (L i.2.1 s1.2 i.q2) (i.1)),[CS (i.1) s1.2])) (fun  (i:List Rw.Term × Oh)=>([(1,B b1 0),(2,B b2 0),(3,L i.2.1 rl1 i.q2)],fun Γ=>Γ.set 2 (sl79 (L i.2.1 rl1 i.q2) (i.1)),[CS (i.1) rl1])) hit1 c (([]:List Rw.Term),a1,c1) (c.rk [0,1,2] [0,1,1]) (fun s1 q1 i1 _ _ c h hr1=>?_) fun k1 _ _ c=>?_))
 refine P0 [] c fun _ c=>S0 (I0 c h (fun h=>?_) fun h=>?_)
 refine K0 (S0 (wp_block (T0 (Bd h fun x1 hx1 h=>Eem c (.f 0) hx1 fun _ u1 _ c=>?_))))
 obtain ⟨a2,c2,rfl,c⟩:=c.o_Term 3
 refine Eal tZ c fun b3 _ _ c=>?_
 replace c:=c.nf
 refine Ess 3 (tC x1 a2 c2) c fun _ c=>?_
 refine E0 (T1 (Fp [(1,2)] 2 c fun _ c=>Bd h fun x2 hx2 h=>Cg c (ih hx2) ⟨.f 4,tt⟩ call76 fun i2 _ _ c=>?_))
 refine Eltr 79 [(tR x2 i2.1 i2.2)] [x2] c ⟨(Ava.mk_Term x2 (.f 5)),tt⟩ fun a3 c3 _ _ c=>?_
 replace c:=c.fzr 4 6
 refine Bd h fun x3 hx3 h=>Eapr 2 2 c (.f 7) hx3 fun rm1 a4 c4 _ _ c=>?_
 refine Fp [] 1 c fun _ c=>E1 (bk (tn (P1 [] c fun _ c=>Nx h ((i1.1 ++ rm1),a4,c4) (c.rk [0,1,2] [0,1,8]))))
 refine wp_exit (te (te (be ?_)))
 obtain rfl:=hr1 _ (sk h)
 exact tn ⟨(i1.1,i1.2.1,i1.q2),c.rk [0,1,2] [0,1,2]⟩
 refine T0 (Fp [] 2 c fun _ c=>Esb 0 4 (L k1.2.1 rl1 k1.q2) c fun _ c=>?_)
 refine E0 (T0 (Fp [(0,0)] 1 c fun _ c=>Ess 1 [I p0.Op,I p0.W,I p0.N,Str.val p0.Name,L k1.2.1 rl1 k1.q2] c fun _ c=>?_))
 refine E0 ?_
 replace c:=c.fzr 2 2
 cases h
 exact wp_ret (Rg c (k1.2.1,k1.q2) [] [3] (.cell (α:=Agg 4) kk (.b 1) .nil))
theorem ZdO {p0 r} (h:Za2 n p0 = some r):Ct 57 [tV p0 ga0 gc1] [lR ga0 p0.Kids gc1] r:=by
 unfold Za2 at h
 refine En func57 rfl ntmps57 fun _ fr w c=>?_
 refine T0 (Ebx (tC p0 ga0 gc1) c fun b1 _ _ c=>?_)
 refine Eal tZ c fun b2 _ _ c=>?_
 refine E0 (S0 (T0 (Fp [(0,0)] 1 c fun _ c=>Bd h fun x1 hx1 h=>Cb c (ZbB hx1) ⟨.f 0,tt⟩ call55 fun _ _ _ c=>?_)))
 refine Fp [] 1 c fun _ c=>E0 (I0 c h (fun h=>?_) fun h=>?_)
 refine T0 (Fp [] 1 c fun _ c=>Ess 1 tZ c fun _ c=>?_)
 refine E0 ?_
 cases h
 replace c:=c.nilf (α:=D.Term)
 exact wp_ret (tr (Rg c (none,0) [] [1] (.cell (α:=Agg 4) kk (.b 1) .nil)))
 refine K0 (T0 (Fp [(0,0)] 1 c fun _ c=>Bd h fun x2 hx2 h=>Cg c (Zd5 hx2) ⟨.f 0,tt⟩ call77 fun i1 _ _ c=>?_))
 refine Bd h fun x3 hx3 h=>Cg c (Zcp hx3) ⟨.f 1,tt⟩ call76 fun i2 _ _ c=>?_
 replace c:=c.ng
 refine Ess 1 (tC x3 i2.1 i2.2) c fun _ c=>?_
 refine E0 ?_
 obtain rfl:=sj h
 exact wp_ret (Rg c (i2.1,i2.2) [] [2] (.cell (α:=Agg 4) kk (.b 1) .nil))
theorem ZaU {p0 p1 r} (h:Xv n p0 p1 = some r):Con prog 41 [L ga0 p0 gc1,pV p1 ga2 gc3 ga4 gc5 ga6 gc7 ga8 gc9 ga10 gc11 ga12 gc13] [] [lR ga0 p0 gc1,lR ga2 p1.Regs gc3,lR ga4 p1.Mem gc5,lR ga6 p1.Stack gc7,lR ga8 p1.Out gc9,lR ga10 p1.Cond gc11,lR ga12 p1.Turns gc13] fun (i:Oh)=>([L i.1 r.1 i.2,.bool r.2],[],[lR i.1 r.1 i.2]):=by
 unfold Xv at h
 refine En func41 rfl ntmps41 fun _ fr w c=>?_
 refine T0 (Ebx (pC p1 ga2 gc3 ga4 gc5 ga6 gc7 ga8 gc9 ga10 gc11 ga12 gc13) c fun b1 _ _ c=>?_)
 refine Fp [] 2 c fun _ c=>E0 (T0 (Eltr 79 ([]:List Rw.Term) ([]:List D.Term) c tt fun a1 c1 _ _ c=>?_))
 refine Fp [] 1 c fun _ c=>E0 (S0 (P0 [] c fun _ c=>Bd h fun rl1 hit1 h=>?_))
 have hk1:=h
 refine LpR (fun s1  (i:List Rw.Term × Oh)=>([(3,B b1 0),(6,L i.2.1 s1.2 i.q2),(11,L ga0 p0 gc1),(12,I (len p0)),(13,I s1.1)],fun Γ=>Γ.set 1 (sl79 (L i.2.1 s1.2 i.q2) (i.1)),[CS (i.1) s1.2])) (fun s  (i:List Rw.Term × Oh)=>([(6,L i.2.1 s i.q2)],fun Γ=>Γ.set 1 (sl79 (L i.2.1 s i.q2) (i.1)),[CS (i.1) s])) hit1 c (([]:List Rw.Term),a1,c1) (c.rk [0,1] [0,1,2,3,4,5,6,7,7]) (fun s1 q1 i1 _ _ c h hr1=>?_) fun s1r k1 _ _ hrl c=>?_
 refine P0 [] c fun _ c=>S0 (I0 c h (fun h=>?_) fun h=>?_)
 refine K0 (S0 (wp_block (T0 (Bd h fun x1 hx1 h=>Eem c (.f 0) hx1 fun _ u1 _ c=>?_))))
 obtain ⟨a2,c2,rfl,c⟩:=c.o_Term 9
 refine Eal tZ c fun b2 _ _ c=>?_
 refine Ess 2 (tC x1 a2 c2) c fun _ c=>?_
 refine E0 (T0 (Fp [(0,1),(1,0)] 2 c fun _ c=>?_))
 replace c:=c.nf
 refine Bd h fun x2 hx2 h=>Cg c (Zeo hx2) ⟨.f 10,.f 1,.f 2,.f 3,.f 4,.f 5,.f 6,tt⟩ call56 fun i2 _ _ c=>?_
 refine Eal tZ c fun b3 _ _ c=>?_
 refine Ess 3 (tC x2 i2.1 i2.2) c fun _ c=>?_
 refine E0 (S0 (T0 (Fp [(0,2)] 1 c fun _ c=>Bd h fun x3 hx3 h=>Cb c (ZbB hx3) ⟨.f 11,tt⟩ call55 fun _ _ _ c=>?_)))
 refine Fp [] 1 c fun _ c=>E0 (I0 c h (fun h=>?_) fun h=>?_)
 refine P0 [] c fun _ c=>?_
 obtain rfl:=hr1 _ (sk h)
 obtain rfl:=sj hk1
 replace c:=c.nilf (α:=D.Term)
 exact wp_ret (tr (br (tr (tr (br (tr (Rg c (none,0) [] [12] (.tmp (.tmp .nil)))))))))
 refine K0 (T1 (Fp [(1,2)] 2 c fun _ c=>Bd h fun x4 hx4 h=>Cg c (ZdO hx4) ⟨.f 11,tt⟩ call57 fun i3 _ _ c=>?_))
 replace c:=c.ng
 refine Eltr 79 [(tR x4 i3.1 i3.2)] [x4] c ⟨(Ava.mk_Term x4 (.f 12)),tt⟩ fun a3 c3 _ _ c=>?_
 replace c:=c.fzr 4 13
 refine Bd h fun x5 hx5 h=>Eapr 1 8 c (.f 14) hx5 fun rm1 a4 c4 _ _ c=>?_
 refine Fp [] 1 c fun _ c=>E1 (bk (tn (P1 [] c fun _ c=>Nx h ((i1.1 ++ rm1),a4,c4) (c.rk [0,1] [0,1,2,3,4,5,6,7,15]))))
 refine wp_exit (te (te (be ?_)))
 obtain rfl:=hr1 _ (sk h)
 exact tn ⟨_,(i1.1,i1.2.1,i1.q2),rfl,c.rk [0,1] (rg 9)⟩
 subst hrl
 refine P0 [] c fun _ c=>?_
 replace c:=c.fzr 1 8
 cases h
 exact wp_ret (Rg c (k1.2.1,k1.q2) [] [9] (.tmp (.tmp .nil)))
theorem XE {p0 r} (h:YA n p0 = some r):Con prog 58 [L ga0 p0 gc1] [] [lR ga0 p0 gc1] fun (i:Ob (List Rw.Term))=>([L i.1 r i.2.1],[sl79 (L i.1 r i.2.1) (i.q2)],[CS i.q2 r]):=by
 unfold YA at h
 refine En func58 rfl ntmps58 fun _ fr w c=>?_
 refine P0 [] c fun _ c=>T0 (Eltr 79 ([]:List Rw.Term) ([]:List D.Term) c tt fun a1 c1 _ _ c=>?_)
 refine Fp [] 1 c fun _ c=>E0 (S0 (P0 [] c fun _ c=>Bd h fun rl1 hit1 h=>Lp (fun s1  (i:List Rw.Term × Oh)=>([(3,L i.2.1 s1.2 i.q2),(7,L ga0 p0 gc1),(8,I (len p0)),(9,I s1.1)],fun Γ=>Γ.set 0 (sl79 (L i.2.1 s1.2 i.q2) (i.1)),[CS (i.1) s1.2])) (fun  (i:List Rw.Term × Oh)=>([(3,L i.2.1 rl1 i.q2)],fun Γ=>Γ.set 0 (sl79 (L i.2.1 rl1 i.q2) (i.1)),[CS (i.1) rl1])) hit1 c (([]:List Rw.Term),a1,c1) (c.rk [0] [0,1,1]) (fun s1 q1 i1 _ _ c h hr1=>?_) fun k1 _ _ c=>?_))
 refine P0 [] c fun _ c=>S0 (I0 c h (fun h=>?_) fun h=>?_)
 refine K0 (S0 (wp_block (T0 (Bd h fun x1 hx1 h=>Eem c (.f 0) hx1 fun _ u1 _ c=>?_))))
 obtain ⟨a2,c2,rfl,c⟩:=c.o_Term 3
 refine Eal tZ c fun b1 _ _ c=>?_
 refine Ess 1 (tC x1 a2 c2) c fun _ c=>?_
 refine E0 (T1 (Fp [(1,0)] 2 c fun _ c=>Bd h fun x2 hx2 h=>Cg c (Zcp hx2) ⟨.f 4,tt⟩ call76 fun i2 _ _ c=>?_))
 replace c:=c.nf
 refine Eltr 79 [(tR x2 i2.1 i2.2)] [x2] c ⟨(Ava.mk_Term x2 (.f 5)),tt⟩ fun a3 c3 _ _ c=>?_
 replace c:=c.fzr 2 6
 refine Bd h fun x3 hx3 h=>Eapr 0 2 c (.f 7) hx3 fun rm1 a4 c4 _ _ c=>?_
 refine Fp [] 1 c fun _ c=>E1 (bk (tn (P1 [] c fun _ c=>Nx h ((i1.1 ++ rm1),a4,c4) (c.rk [0] [0,1,8]))))
 refine wp_exit (te (te (be ?_)))
 obtain rfl:=hr1 _ (sk h)
 exact tn ⟨(i1.1,i1.2.1,i1.q2),c.rk [0] [0,1,2]⟩
 refine P0 [] c fun _ c=>?_
 obtain rfl:=sj h
 exact wp_ret (Rt c (k1.2.1,k1.q2,k1.1) [0] [2])
theorem Zz {p0 r} (h:XD n p0 = some r):Con prog 42 [pV p0 ga0 gc1 ga2 gc3 ga4 gc5 ga6 gc7 ga8 gc9 ga10 gc11] [] [lR ga0 p0.Regs gc1,lR ga2 p0.Mem gc3,lR ga4 p0.Stack gc5,lR ga6 p0.Out gc7,lR ga8 p0.Cond gc9,lR ga10 p0.Turns gc11] fun (i:Ob (List Rw.Term × Ob (List Rw.Term × Ob (Ob (List Rw.Term × Ob (List Rw.Term × Oh))))))=>([pV r i.1 i.2.1 i.p3 i.p4 i.p6 i.p7 i.p8 i.p9 i.p11 i.p12 i.p14 i.q15],[sl79 (L i.1 r.Regs i.2.1) (i.p2),sl79 (L i.p3 r.Mem i.p4) (i.p5),sl3 (L i.p6 r.Stack i.p7) r.Stack,sl79 (L i.p8 r.Out i.p9) (i.p10),sl79 (L i.p11 r.Cond i.p12) (i.p13),sl3 (L i.p14 r.Turns i.q15) r.Turns],[CS i.p2 r.Regs,CS i.p5 r.Mem,CS i.p10 r.Out,CS i.p13 r.Cond]):=by
 unfold XD at h
 refine En func42 rfl ntmps42 fun _ fr w c=>?_
 refine T0 (Ebx (pC p0 ga0 gc1 ga2 gc3 ga4 gc5 ga6 gc7 ga8 gc9 ga10 gc11) c fun b1 _ _ c=>?_)
 refine Eal pZ c fun b2 _ _ c=>?_
 refine E0 (T0 (Fp [(1,0)] 2 c fun _ c=>Bd h fun x1 hx1 h=>Cg c (XE hx1) ⟨.f 0,tt⟩ call58 fun i1 _ _ c=>?_))
 refine Fp [] 1 c fun _ c=>Esb 0 1 (L i1.1 x1 i1.2.1) c fun _ c=>?_
 refine E0 (T0 (Fp [(1,0)] 2 c fun _ c=>Bd h fun x2 hx2 h=>Cg c (XE hx2) ⟨.f 1,tt⟩ call58 fun i2 _ _ c=>?_))
 refine Fp [] 1 c fun _ c=>?_
 replace c:=c.ng
 refine Esb 0 2 (L i2.1 x2 i2.2.1) c fun _ c=>?_
 refine E0 (T0 (Elt 3 ([]:List Int) c fun a1 c1 _ _ c=>?_))
 refine Fp [(2,0)] 2 c fun _ c=>Bd h fun x3 hx3 h=>Eap 4 c (.f 2) hx3 fun a2 c2 _ _ c=>?_
 refine Fp [] 1 c fun _ c=>Esb 0 3 (L a2 x3 c2) c fun _ c=>?_
 refine E0 (T0 (Fp [(1,0)] 2 c fun _ c=>Bd h fun x4 hx4 h=>Cg c (XE hx4) ⟨.f 3,tt⟩ call58 fun i3 _ _ c=>?_))
 refine Fp [] 1 c fun _ c=>?_
 replace c:=c.ng
 refine Esb 0 5 (L i3.1 x4 i3.2.1) c fun _ c=>?_
 refine E0 (T0 (Fp [(1,0)] 2 c fun _ c=>Bd h fun x5 hx5 h=>Cg c (XE hx5) ⟨.f 4,tt⟩ call58 fun i4 _ _ c=>?_))
 refine Fp [] 1 c fun _ c=>Esb 0 8 (L i4.1 x5 i4.2.1) c fun _ c=>?_
 refine E0 (T0 ?_)
 replace c:=c.ng
 refine Elt 3 ([]:List Int) c fun a3 c3 _ _ c=>?_
 refine Fp [(2,0)] 2 c fun _ c=>Bd h fun x6 hx6 h=>Eap 7 c (.f 5) hx6 fun a4 c4 _ _ c=>?_
 refine Fp [] 1 c fun _ c=>Esb 0 9 (L a4 x6 c4) c fun _ c=>?_
 refine E0 (T0 (Fp [(0,0)] 1 c fun _ c=>?_))
 replace c:=c.ng
 refine Ess 1 [I p0.Pc,L i1.1 x1 i1.2.1,L i2.1 x2 i2.2.1,L a2 x3 c2,I p0.In,L i3.1 x4 i3.2.1,I p0.Code,I p0.Steps,L i4.1 x5 i4.2.1,L a4 x6 c4] c fun _ c=>?_
 refine E0 ?_
 cases h
 exact wp_ret (Rg c (i1.1,i1.2.1,i1.q2,i2.1,i2.2.1,i2.q2,a2,c2,i3.1,i3.2.1,i3.q2,i4.1,i4.2.1,i4.q2,a4,c4) [2,3,4,5,6,7] [6,7,8,9] (.cell (α:=Agg 9) kk (.b 1) .nil))
theorem ZdJ {p0 p1 p2 r} (h:XP n p0 p1 p2 = some r):Con prog 23 [gV p0 ga0 gc1,pV p1 ga2 gc3 ga4 gc5 ga6 gc7 ga8 gc9 ga10 gc11 ga12 gc13,pV p2 ga14 gc15 ga16 gc17 ga18 gc19 ga20 gc21 ga22 gc23 ga24 gc25] [] [lR ga0 p0.Code gc1,lR ga2 p1.Regs gc3,lR ga4 p1.Mem gc5,lR ga6 p1.Stack gc7,lR ga8 p1.Out gc9,lR ga10 p1.Cond gc11,lR ga12 p1.Turns gc13,lR ga14 p2.Regs gc15,lR ga16 p2.Mem gc17,lR ga18 p2.Stack gc19,lR ga20 p2.Out gc21,lR ga22 p2.Cond gc23,lR ga24 p2.Turns gc25] fun (i:Hp)=>([pJ r.1 i,.bool r.2.1,.bool r.2.2],[],(pF r.1 i)):=by
 unfold XP at h
 refine En func23 rfl ntmps23 fun _ fr w c=>?_
 refine T0 (Ebx (gC p0 ga0 gc1) c fun b1 _ _ c=>?_)
 refine Ebx (pC p1 ga2 gc3 ga4 gc5 ga6 gc7 ga8 gc9 ga10 gc11 ga12 gc13) c fun b2 _ _ c=>?_
 refine Ebx (pC p2 ga14 gc15 ga16 gc17 ga18 gc19 ga20 gc21 ga22 gc23 ga24 gc25) c fun b3 _ _ c=>?_
 refine Eal pZ c fun b4 _ _ c=>?_
 refine Fp [] 2 c fun _ c=>E0 (T0 (Fp [(1,2),(2,1)] 3 c fun _ c=>Bd h fun x1 hx1 h=>Cg c (ZaU hx1) ⟨.f 11,.f 1,.f 2,.f 3,.f 4,.f 5,.f 6,tt⟩ call41 fun i1 _ _ c=>?_))
 refine Fp [] 5 c fun _ c=>E0 (T0 (Fp [(1,2),(2,1)] 3 c fun _ c=>?_))
 replace c:=c.ng
 refine Bd h fun x2 hx2 h=>Cg c (ZaU hx2) ⟨.f 7,.f 1,.f 2,.f 3,.f 4,.f 5,.f 6,tt⟩ call41 fun i2 _ _ c=>?_
 refine Fp [] 5 c fun _ c=>E0 (T0 (Fp [(1,2),(2,1)] 3 c fun _ c=>Bd h fun x3 hx3 h=>Cg c (ZaU hx3) ⟨.f 8,.f 1,.f 2,.f 3,.f 4,.f 5,.f 6,tt⟩ call41 fun i3 _ _ c=>?_))
 refine Fp [] 5 c fun _ c=>E0 (S0 (S0 (Ry [] mix c fun _ _ c=>I0 c h (fun h=>?_) fun h=>?_)))
 refine T0 (Fp [] 1 c fun _ c=>Ess 3 pZ c fun _ c=>?_)
 refine Fp [] 2 c fun _ c=>E0 ?_
 cases h
 replace c:=c.nilf (α:=D.Term)
 replace c:=c.nilf (α:=D.Term)
 replace c:=c.nilf (α:=Int)
 replace c:=c.nilf (α:=D.Term)
 replace c:=c.nilf (α:=D.Term)
 replace c:=c.nilf (α:=Int)
 replace c:=c.ng
 exact wp_ret (tr (Rg c (none,0,none,0,none,0,none,0,none,0,none,0) [] [16,17,18,19,20,21] (.cell (α:=Agg 9) kk (.b 3) (.tmp (.tmp .nil)))))
 refine K0 (T0 (Fp [(0,1)] 1 c fun _ c=>Bd h fun x4 hx4 h=>Cg c (Zz hx4) ⟨.f 1,.f 2,.f 3,.f 4,.f 5,.f 6,tt⟩ call42 fun i4 _ _ c=>?_))
 replace c:=c.ng
 refine Ess 3 (pC x4 i4.1 i4.2.1 i4.p3 i4.p4 i4.p6 i4.p7 i4.p8 i4.p9 i4.p11 i4.p12 i4.p14 i4.q15) c fun _ c=>?_
 refine E0 (S0 (P0 [] c fun _ c=>Bd h fun rl1 hit1 h=>?_))
 have hk1:=h
 refine LpR (fun s1  (i:List Rw.Term × Ob Oh)=>([(3,B b1 0),(4,B b2 0),(5,B b3 0),(6,B b4 0),(11,L i2.1 x2.1 i2.2),(13,L i3.1 x3.1 i3.2),(51,L i1.1 x1.1 i1.2),(52,I (len x1.1)),(53,I s1.1)],fun Γ=>((Γ.set 3 (BX b4 42 [I x4.Pc,L i4.1 x4.Regs i4.2.1,L i4.p3 x4.Mem i4.p4,L i4.p6 x4.Stack i4.p7,I x4.In,L i4.p8 x4.Out i4.p9,I x4.Code,I x4.Steps,L i.2.1 s1.2.1 i.p2,L i.p3 s1.q2 i.q4])).set 8 (sl79 (L i.2.1 s1.2.1 i.p2) (i.1))).set 9 (sl3 (L i.p3 s1.q2 i.q4) s1.q2),[CS (i.1) s1.2.1])) (fun s  (i:List Rw.Term × Ob Oh)=>([(3,B b1 0),(4,B b2 0),(5,B b3 0),(6,B b4 0),(11,L i2.1 x2.1 i2.2),(13,L i3.1 x3.1 i3.2)],fun Γ=>((Γ.set 3 (BX b4 42 [I x4.Pc,L i4.1 x4.Regs i4.2.1,L i4.p3 x4.Mem i4.p4,L i4.p6 x4.Stack i4.p7,I x4.In,L i4.p8 x4.Out i4.p9,I x4.Code,I x4.Steps,L i.2.1 s.1 i.p2,L i.p3 s.2 i.q4])).set 8 (sl79 (L i.2.1 s.1 i.p2) (i.1))).set 9 (sl3 (L i.p3 s.2 i.q4) s.2),[CS (i.1) s.1])) hit1 c (i4.p13,i4.p11,i4.p12,i4.p14,i4.q15) (c.rk (rg 10) [0,1,2,3,4,5,6,7,8,9,10,11,12,13,14,15,16,17,18,19,19]) (fun s1 q1 i5 _ _ c h hr1=>?_) fun s1r k1 _ _ hrl c=>?_
 refine P0 [] c fun _ c=>S0 (I0 c h (fun h=>?_) fun h=>?_)
 refine K0 (S0 (wp_block (T0 (Fp [] 1 c fun _ c=>Bd h fun x5 hx5 h=>Eem c (.f 13) hx5 fun _ u1 _ c=>?_))))
 obtain ⟨a1,c1,rfl,c⟩:=c.o_Term 21
 replace c:=c.nf
 refine Eal tZ c fun b5 _ _ c=>?_
 refine Fp [] 1 c fun _ c=>Ess 10 (tC x5 a1 c1) c fun _ c=>?_
 refine E0 (S0 (T0 (Fp [(0,4)] 1 c fun _ c=>?_)))
 replace c:=c.ng
 refine Bd h fun x6 hx6 h=>Cb c (Y2 hx6) ⟨.f 22,tt⟩ call43 fun _ _ _ c=>?_
 refine E0 (I0 c h (fun h=>?_) fun h=>?_)
 refine T0 (Fp [] 1 c fun _ c=>Ess 3 pZ c fun _ c=>?_)
 refine Fp [] 2 c fun _ c=>E0 ?_
 obtain rfl:=hr1 _ (sk h)
 obtain rfl:=sj hk1
 replace c:=c.nilf (α:=D.Term)
 replace c:=c.nilf (α:=D.Term)
 replace c:=c.nilf (α:=Int)
 replace c:=c.nilf (α:=D.Term)
 replace c:=c.nilf (α:=D.Term)
 replace c:=c.nilf (α:=Int)
 replace c:=c.ng
 exact wp_ret (tr (br (tr (tr (br (tr (Rg c (none,0,none,0,none,0,none,0,none,0,none,0) [] [23,24,25,26,27,28] (.cell (α:=Agg 9) kk (.b 3) (.tmp (.tmp .nil))))))))))
 refine K0 (T0 (Fp [(0,4)] 1 c fun _ c=>Bd h fun x7 hx7 h=>Cb c (Y2 hx7) ⟨.f 22,tt⟩ call43 fun _ _ _ c=>?_))
 refine Fp [] 1 c fun _ c=>E0 (I0 c h (fun h=>?_) fun h=>?_)
 refine T0 (Fp [(1,3),(2,4)] 3 c fun _ c=>?_)
 replace c:=c.ng
 refine Eltr 79 [(tR x5 a1 c1)] [x5] c ⟨(Ava.mk_Term x5 (.f 22)),tt⟩ fun a2 c2 _ _ c=>?_
 replace c:=c.fzr 11 23
 refine Bd h fun x8 hx8 h=>Eapr 8 20 c (.f 24) hx8 fun rm1 a3 c3 _ _ c=>?_
 refine Fp [] 1 c fun _ c=>?_
 replace c:=c.nf
 refine Esb 3 8 (L a3 x8 c3) c fun _ c=>?_
 refine E0 (Bd h fun x9 hx9 h=>Zav mix (rM 8 [(5,Pd.el (x9:Int)),(6,.eq (I x9)),(7,Pd.nw c.wd 7 (fun i:Oh=>L i.1 ([x9]:List Int) i.2) (fun i=>SL 3 (L i.1 ([x9]:List Int) i.2) ([x9]:List Int)))] [(1,3),(3,2)] c (fun ow=>⟨Yc ow (Nid c (.f 12) (kN hx9)),Yc ow (Nld c 5 (q:=x9) (atM 5 (p:=.el (x9:Int)))),Nlt c ([x9]:List Int),tt⟩) fun ow _ _ hE hc cq=>?_))
 obtain ⟨i6,hi6⟩:=hE.nw 7 77
 replace c:=Cx.newt c hc cq [(7,77,_,_)] ⟨hi6,tt⟩
 refine Bd h fun x10 hx10 h=>Eap 9 c (.g 11) hx10 fun a4 c4 _ _ c=>?_
 refine Fp [] 1 c fun _ c=>?_
 replace c:=c.ng
 refine Esb 3 9 (L a4 x10 c4) c fun _ c=>?_
 refine E1 (bk (tn (P1 [] c fun _ c=>Nx h ((i5.1 ++ rm1),a3,c3,a4,c4) (c.rk (rg 10) [0,1,2,3,4,5,6,7,8,9,10,11,12,13,14,15,16,17,18,19,25]))))
 refine K1 (bk (tn (P1 [] c fun _ c=>Nx h (i5.1,i5.2.1,i5.p2,i5.p3,i5.q4) (c.rk (rg 10) (rg 21)))))
 refine wp_exit (te (te (be ?_)))
 obtain rfl:=hr1 _ (sk h)
 exact tn ⟨_,(i5.1,i5.2.1,i5.p2,i5.p3,i5.q4),rfl,c.rk (rg 10) (rg 21)⟩
 subst hrl
 try simp only [l3,l4,l5,l6] at c
 refine T0 (Fp [] 2 c fun _ c=>Esb 3 1 (L i2.1 x2.1 i2.2) c fun _ c=>?_)
 refine E0 (T0 (Fp [] 2 c fun _ c=>?_))
 replace c:=c.nf
 refine Esb 3 2 (L i3.1 x3.1 i3.2) c fun _ c=>?_
 refine E0 (T0 (Fp [(1,1)] 4 c fun _ c=>Esb 3 0 (I (w64 (p1.Pc + 1))) c fun _ c=>?_))
 refine E0 (T0 (Fp [(1,1),(3,2)] 7 c fun _ c=>?_))
 replace c:=c.ng
 refine Esb 3 7 (I (w64 ((w64 (p1.Steps + p2.Steps)) + 2))) c fun _ c=>?_
 refine E0 (S0 (P0 [(1,2)] c fun _ c=>I0 c h (fun h=>?_) fun h=>?_))
 refine T0 (Fp [(1,2)] 3 c fun _ c=>Esb 3 0 (I p2.Pc) c fun _ c=>?_)
 refine E0 (T0 (Fp [(1,2)] 3 c fun _ c=>?_))
 replace c:=c.ng
 refine Esb 3 6 (I p2.Code) c fun _ c=>?_
 refine E0 (T0 (Fp [(1,3),(3,1)] 5 c fun _ c=>Elt 3 ([(w64 (p1.Pc + 1))]:List Int) c fun a5 c5 _ _ c=>?_))
 replace c:=c.ng
 refine Bd h fun x11 hx11 h=>Eap 6 c (.g 10) hx11 fun a6 c6 _ _ c=>?_
 refine Fp [] 1 c fun _ c=>Esb 3 3 (L a6 x11 c6) c fun _ c=>?_
 refine E0 (T1 (Fp [(1,3)] 4 c fun _ c=>?_))
 replace c:=c.ng
 refine Esb 3 7 (I (w64 ((w64 ((w64 (p1.Steps + p2.Steps)) + 2)) - 1))) c fun _ c=>?_
 refine E0 (Bd h fun x12 hx12 h=>Bd h fun x13 hx13 h=>S0 (As mix c fun _ c=>Za (fuel:=7) [0,2,3] (by kernel_rfl) (by simp) ⟨?_,?_,?_,tt⟩))
 refine Zc _ rfl rfl ?_
 refine Fp [(0,3)] 1 c fun _ c=>E0 (Za (fuel:=6) [1,2,3] (by kernel_rfl) (by simp) ⟨?_,?_,?_,tt⟩)
 refine Zc _ rfl rfl ?_
 replace c:=c.fz 6
 replace c:=c.fzr 6 18
 replace c:=c.fzr 6 20
 replace c:=c.fz 6
 refine Cg c (Zz hx12) ⟨.f 14,.f 15,.f 21,.f 22,.f 23,.f 24,tt⟩ call42 fun i7 _ _ c=>?_
 refine E0 (Za (fuel:=5) [2,3] (by kernel_rfl) (by simp) ⟨?_,?_,tt⟩)
 refine Zc _ rfl rfl ?_
 refine Fp [(0,0)] 1 c fun _ c=>E0 (Za (fuel:=4) [3] (by kernel_rfl) (by simp) ⟨?_,tt⟩)
 refine Zc _ rfl rfl ?_
 refine Fp [(0,3)] 1 c fun _ c=>E0 (Za (fuel:=3) [4] (by kernel_rfl) (by simp) ⟨?_,tt⟩)
 refine Zc _ rfl rfl ?_
 replace c:=c.nf
 refine Cb c (Zx hx13) ⟨.f 0,.f 14,.f 15,.f 21,.f 22,.f 23,.f 24,tt⟩ call22 fun _ _ _ c=>?_
 refine E0 (Za (fuel:=2) [5] (by kernel_rfl) (by simp) ⟨?_,tt⟩)
 refine Zc _ rfl rfl ?_
 refine Ess 3 (pC x12 i7.1 i7.2.1 i7.p3 i7.p4 i7.p6 i7.p7 i7.p8 i7.p9 i7.p11 i7.p12 i7.p14 i7.q15) c fun _ c=>?_
 refine E0 (Za (fuel:=1) [6] (by kernel_rfl) (by simp) ⟨?_,tt⟩)
 refine Zc _ rfl rfl ?_
 refine Fp [] 1 c fun _ c=>E0 (Za (fuel:=0) [7] (by kernel_rfl) (by simp) ⟨?_,tt⟩)
 refine Zc _ rfl rfl ?_
 refine Fp [] 1 c fun _ c=>E0 (ZJ (by kernel_rfl) (tn ?_))
 replace c:=c.fzr 7 25
 replace c:=c.fzr 7 26
 replace c:=c.fz 7
 replace c:=c.fzr 7 27
 replace c:=c.fzr 7 28
 replace c:=c.fz 7
 cases h
 exact wp_ret (Rg c (i7.1,i7.2.1,i7.p3,i7.p4,i7.p6,i7.p7,i7.p8,i7.p9,i7.p11,i7.p12,i7.p14,i7.q15) [] [29,30,31,32,33,34] (.cell (α:=Agg 9) kk (.b 3) (.tmp (.tmp .nil))))
 refine Zc _ rfl rfl ?_
 refine Fp [(0,3)] 1 c fun _ c=>E0 (Za (fuel:=4) [2] (by kernel_rfl) (by simp) ⟨?_,tt⟩)
 refine Zc _ rfl rfl ?_
 refine Fp [(0,0)] 1 c fun _ c=>E0 (Za (fuel:=3) [4] (by kernel_rfl) (by simp) ⟨?_,tt⟩)
 refine Zc _ rfl rfl ?_
 replace c:=c.nf
 refine Cb c (Zx hx13) ⟨.f 0,.f 14,.f 15,.f 21,.f 22,.f 23,.f 24,tt⟩ call22 fun _ _ _ c=>?_
 refine E0 (Za (fuel:=2) [5] (by kernel_rfl) (by simp) ⟨?_,tt⟩)
 refine Zc _ rfl rfl ?_
 refine Ess 3 (pC x12 i7.1 i7.2.1 i7.p3 i7.p4 i7.p6 i7.p7 i7.p8 i7.p9 i7.p11 i7.p12 i7.p14 i7.q15) c fun _ c=>?_
 refine E0 (Za (fuel:=1) [6] (by kernel_rfl) (by simp) ⟨?_,tt⟩)
 refine Zc _ rfl rfl ?_
 refine Fp [] 1 c fun _ c=>E0 (Za (fuel:=0) [7] (by kernel_rfl) (by simp) ⟨?_,tt⟩)
 refine Zc _ rfl rfl ?_
 refine Fp [] 1 c fun _ c=>E0 (ZJ (by kernel_rfl) (tn ?_))
 replace c:=c.fzr 7 25
 replace c:=c.fzr 7 26
 replace c:=c.fz 7
 replace c:=c.fzr 7 27
 replace c:=c.fzr 7 28
 replace c:=c.fz 7
 cases h
 exact wp_ret (Rg c (i7.1,i7.2.1,i7.p3,i7.p4,i7.p6,i7.p7,i7.p8,i7.p9,i7.p11,i7.p12,i7.p14,i7.q15) [] [29,30,31,32,33,34] (.cell (α:=Agg 9) kk (.b 3) (.tmp (.tmp .nil))))
 refine Zc _ rfl rfl ?_
 refine Fp [(0,0)] 1 c fun _ c=>E0 (Za (fuel:=5) [1,3] (by kernel_rfl) (by simp) ⟨?_,?_,tt⟩)
 refine Zc _ rfl rfl ?_
 replace c:=c.fz 6
 replace c:=c.fzr 6 18
 replace c:=c.fzr 6 20
 replace c:=c.fz 6
 refine Cg c (Zz hx12) ⟨.f 14,.f 15,.f 21,.f 22,.f 23,.f 24,tt⟩ call42 fun i8 _ _ c=>?_
 refine E0 (Za (fuel:=4) [3] (by kernel_rfl) (by simp) ⟨?_,tt⟩)
 refine Zc _ rfl rfl ?_
 refine Fp [(0,3)] 1 c fun _ c=>E0 (Za (fuel:=3) [4] (by kernel_rfl) (by simp) ⟨?_,tt⟩)
 refine Zc _ rfl rfl ?_
 replace c:=c.nf
 refine Cb c (Zx hx13) ⟨.f 0,.f 14,.f 15,.f 21,.f 22,.f 23,.f 24,tt⟩ call22 fun _ _ _ c=>?_
 refine E0 (Za (fuel:=2) [5] (by kernel_rfl) (by simp) ⟨?_,tt⟩)
 refine Zc _ rfl rfl ?_
 refine Ess 3 (pC x12 i8.1 i8.2.1 i8.p3 i8.p4 i8.p6 i8.p7 i8.p8 i8.p9 i8.p11 i8.p12 i8.p14 i8.q15) c fun _ c=>?_
 refine E0 (Za (fuel:=1) [6] (by kernel_rfl) (by simp) ⟨?_,tt⟩)
 refine Zc _ rfl rfl ?_
 refine Fp [] 1 c fun _ c=>E0 (Za (fuel:=0) [7] (by kernel_rfl) (by simp) ⟨?_,tt⟩)
 refine Zc _ rfl rfl ?_
 refine Fp [] 1 c fun _ c=>E0 (ZJ (by kernel_rfl) (tn ?_))
 replace c:=c.fzr 7 25
 replace c:=c.fzr 7 26
 replace c:=c.fz 7
 replace c:=c.fzr 7 27
 replace c:=c.fzr 7 28
 replace c:=c.fz 7
 cases h
 exact wp_ret (Rg c (i8.1,i8.2.1,i8.p3,i8.p4,i8.p6,i8.p7,i8.p8,i8.p9,i8.p11,i8.p12,i8.p14,i8.q15) [] [29,30,31,32,33,34] (.cell (α:=Agg 9) kk (.b 3) (.tmp (.tmp .nil))))
 refine Zc _ rfl rfl ?_
 refine Fp [(0,3)] 1 c fun _ c=>E0 (Za (fuel:=4) [1] (by kernel_rfl) (by simp) ⟨?_,tt⟩)
 refine Zc _ rfl rfl ?_
 replace c:=c.fz 6
 replace c:=c.fzr 6 18
 replace c:=c.fzr 6 20
 replace c:=c.fz 6
 refine Cg c (Zz hx12) ⟨.f 14,.f 15,.f 21,.f 22,.f 23,.f 24,tt⟩ call42 fun i9 _ _ c=>?_
 refine E0 (Za (fuel:=3) [4] (by kernel_rfl) (by simp) ⟨?_,tt⟩)
 refine Zc _ rfl rfl ?_
 replace c:=c.nf
 refine Cb c (Zx hx13) ⟨.f 0,.f 14,.f 15,.f 21,.f 22,.f 23,.f 24,tt⟩ call22 fun _ _ _ c=>?_
 refine E0 (Za (fuel:=2) [5] (by kernel_rfl) (by simp) ⟨?_,tt⟩)
 refine Zc _ rfl rfl ?_
 refine Ess 3 (pC x12 i9.1 i9.2.1 i9.p3 i9.p4 i9.p6 i9.p7 i9.p8 i9.p9 i9.p11 i9.p12 i9.p14 i9.q15) c fun _ c=>?_
 refine E0 (Za (fuel:=1) [6] (by kernel_rfl) (by simp) ⟨?_,tt⟩)
 refine Zc _ rfl rfl ?_
 refine Fp [] 1 c fun _ c=>E0 (Za (fuel:=0) [7] (by kernel_rfl) (by simp) ⟨?_,tt⟩)
 refine Zc _ rfl rfl ?_
 refine Fp [] 1 c fun _ c=>E0 (ZJ (by kernel_rfl) (tn ?_))
 replace c:=c.fzr 7 25
 replace c:=c.fzr 7 26
 replace c:=c.fz 7
 replace c:=c.fzr 7 27
 replace c:=c.fzr 7 28
 replace c:=c.fz 7
 cases h
 exact wp_ret (Rg c (i9.1,i9.2.1,i9.p3,i9.p4,i9.p6,i9.p7,i9.p8,i9.p9,i9.p11,i9.p12,i9.p14,i9.q15) [] [29,30,31,32,33,34] (.cell (α:=Agg 9) kk (.b 3) (.tmp (.tmp .nil))))
 refine Zc _ rfl rfl ?_
 refine Fp [(0,3)] 1 c fun _ c=>E0 (Za (fuel:=5) [1,2] (by kernel_rfl) (by simp) ⟨?_,?_,tt⟩)
 refine Zc _ rfl rfl ?_
 replace c:=c.fz 6
 replace c:=c.fzr 6 18
 replace c:=c.fzr 6 20
 replace c:=c.fz 6
 refine Cg c (Zz hx12) ⟨.f 14,.f 15,.f 21,.f 22,.f 23,.f 24,tt⟩ call42 fun i10 _ _ c=>?_
 refine E0 (Za (fuel:=4) [2] (by kernel_rfl) (by simp) ⟨?_,tt⟩)
 refine Zc _ rfl rfl ?_
 refine Fp [(0,0)] 1 c fun _ c=>E0 (Za (fuel:=3) [4] (by kernel_rfl) (by simp) ⟨?_,tt⟩)
 refine Zc _ rfl rfl ?_
 replace c:=c.nf
 refine Cb c (Zx hx13) ⟨.f 0,.f 14,.f 15,.f 21,.f 22,.f 23,.f 24,tt⟩ call22 fun _ _ _ c=>?_
 refine E0 (Za (fuel:=2) [5] (by kernel_rfl) (by simp) ⟨?_,tt⟩)
 refine Zc _ rfl rfl ?_
 refine Ess 3 (pC x12 i10.1 i10.2.1 i10.p3 i10.p4 i10.p6 i10.p7 i10.p8 i10.p9 i10.p11 i10.p12 i10.p14 i10.q15) c fun _ c=>?_
 refine E0 (Za (fuel:=1) [6] (by kernel_rfl) (by simp) ⟨?_,tt⟩)
 refine Zc _ rfl rfl ?_
 refine Fp [] 1 c fun _ c=>E0 (Za (fuel:=0) [7] (by kernel_rfl) (by simp) ⟨?_,tt⟩)
 refine Zc _ rfl rfl ?_
 refine Fp [] 1 c fun _ c=>E0 (ZJ (by kernel_rfl) (tn ?_))
 replace c:=c.fzr 7 25
 replace c:=c.fzr 7 26
 replace c:=c.fz 7
 replace c:=c.fzr 7 27
 replace c:=c.fzr 7 28
 replace c:=c.fz 7
 cases h
 exact wp_ret (Rg c (i10.1,i10.2.1,i10.p3,i10.p4,i10.p6,i10.p7,i10.p8,i10.p9,i10.p11,i10.p12,i10.p14,i10.q15) [] [29,30,31,32,33,34] (.cell (α:=Agg 9) kk (.b 3) (.tmp (.tmp .nil))))
 refine Zc _ rfl rfl ?_
 refine Fp [(0,0)] 1 c fun _ c=>E0 (Za (fuel:=4) [1] (by kernel_rfl) (by simp) ⟨?_,tt⟩)
 refine Zc _ rfl rfl ?_
 replace c:=c.fz 6
 replace c:=c.fzr 6 18
 replace c:=c.fzr 6 20
 replace c:=c.fz 6
 refine Cg c (Zz hx12) ⟨.f 14,.f 15,.f 21,.f 22,.f 23,.f 24,tt⟩ call42 fun i11 _ _ c=>?_
 refine E0 (Za (fuel:=3) [4] (by kernel_rfl) (by simp) ⟨?_,tt⟩)
 refine Zc _ rfl rfl ?_
 replace c:=c.nf
 refine Cb c (Zx hx13) ⟨.f 0,.f 14,.f 15,.f 21,.f 22,.f 23,.f 24,tt⟩ call22 fun _ _ _ c=>?_
 refine E0 (Za (fuel:=2) [5] (by kernel_rfl) (by simp) ⟨?_,tt⟩)
 refine Zc _ rfl rfl ?_
 refine Ess 3 (pC x12 i11.1 i11.2.1 i11.p3 i11.p4 i11.p6 i11.p7 i11.p8 i11.p9 i11.p11 i11.p12 i11.p14 i11.q15) c fun _ c=>?_
 refine E0 (Za (fuel:=1) [6] (by kernel_rfl) (by simp) ⟨?_,tt⟩)
 refine Zc _ rfl rfl ?_
 refine Fp [] 1 c fun _ c=>E0 (Za (fuel:=0) [7] (by kernel_rfl) (by simp) ⟨?_,tt⟩)
 refine Zc _ rfl rfl ?_
 refine Fp [] 1 c fun _ c=>E0 (ZJ (by kernel_rfl) (tn ?_))
 replace c:=c.fzr 7 25
 replace c:=c.fzr 7 26
 replace c:=c.fz 7
 replace c:=c.fzr 7 27
 replace c:=c.fzr 7 28
 replace c:=c.fz 7
 cases h
 exact wp_ret (Rg c (i11.1,i11.2.1,i11.p3,i11.p4,i11.p6,i11.p7,i11.p8,i11.p9,i11.p11,i11.p12,i11.p14,i11.q15) [] [29,30,31,32,33,34] (.cell (α:=Agg 9) kk (.b 3) (.tmp (.tmp .nil))))
 refine Zc _ rfl rfl ?_
 refine Fp [(0,0)] 1 c fun _ c=>E0 (Za (fuel:=6) [0,3] (by kernel_rfl) (by simp) ⟨?_,?_,tt⟩)
 refine Zc _ rfl rfl ?_
 refine Fp [(0,3)] 1 c fun _ c=>E0 (Za (fuel:=5) [1,3] (by kernel_rfl) (by simp) ⟨?_,?_,tt⟩)
 refine Zc _ rfl rfl ?_
 replace c:=c.fz 6
 replace c:=c.fzr 6 18
 replace c:=c.fzr 6 20
 replace c:=c.fz 6
 refine Cg c (Zz hx12) ⟨.f 14,.f 15,.f 21,.f 22,.f 23,.f 24,tt⟩ call42 fun i12 _ _ c=>?_
 refine E0 (Za (fuel:=4) [3] (by kernel_rfl) (by simp) ⟨?_,tt⟩)
 refine Zc _ rfl rfl ?_
 refine Fp [(0,3)] 1 c fun _ c=>E0 (Za (fuel:=3) [4] (by kernel_rfl) (by simp) ⟨?_,tt⟩)
 refine Zc _ rfl rfl ?_
 replace c:=c.nf
 refine Cb c (Zx hx13) ⟨.f 0,.f 14,.f 15,.f 21,.f 22,.f 23,.f 24,tt⟩ call22 fun _ _ _ c=>?_
 refine E0 (Za (fuel:=2) [5] (by kernel_rfl) (by simp) ⟨?_,tt⟩)
 refine Zc _ rfl rfl ?_
 refine Ess 3 (pC x12 i12.1 i12.2.1 i12.p3 i12.p4 i12.p6 i12.p7 i12.p8 i12.p9 i12.p11 i12.p12 i12.p14 i12.q15) c fun _ c=>?_
 refine E0 (Za (fuel:=1) [6] (by kernel_rfl) (by simp) ⟨?_,tt⟩)
 refine Zc _ rfl rfl ?_
 refine Fp [] 1 c fun _ c=>E0 (Za (fuel:=0) [7] (by kernel_rfl) (by simp) ⟨?_,tt⟩)
 refine Zc _ rfl rfl ?_
 refine Fp [] 1 c fun _ c=>E0 (ZJ (by kernel_rfl) (tn ?_))
 replace c:=c.fzr 7 25
 replace c:=c.fzr 7 26
 replace c:=c.fz 7
 replace c:=c.fzr 7 27
 replace c:=c.fzr 7 28
 replace c:=c.fz 7
 cases h
 exact wp_ret (Rg c (i12.1,i12.2.1,i12.p3,i12.p4,i12.p6,i12.p7,i12.p8,i12.p9,i12.p11,i12.p12,i12.p14,i12.q15) [] [29,30,31,32,33,34] (.cell (α:=Agg 9) kk (.b 3) (.tmp (.tmp .nil))))
 refine Zc _ rfl rfl ?_
 refine Fp [(0,3)] 1 c fun _ c=>E0 (Za (fuel:=4) [1] (by kernel_rfl) (by simp) ⟨?_,tt⟩)
 refine Zc _ rfl rfl ?_
 replace c:=c.fz 6
 replace c:=c.fzr 6 18
 replace c:=c.fzr 6 20
 replace c:=c.fz 6
 refine Cg c (Zz hx12) ⟨.f 14,.f 15,.f 21,.f 22,.f 23,.f 24,tt⟩ call42 fun i13 _ _ c=>?_
 refine E0 (Za (fuel:=3) [4] (by kernel_rfl) (by simp) ⟨?_,tt⟩)
 refine Zc _ rfl rfl ?_
 replace c:=c.nf
 refine Cb c (Zx hx13) ⟨.f 0,.f 14,.f 15,.f 21,.f 22,.f 23,.f 24,tt⟩ call22 fun _ _ _ c=>?_
 refine E0 (Za (fuel:=2) [5] (by kernel_rfl) (by simp) ⟨?_,tt⟩)
 refine Zc _ rfl rfl ?_
 refine Ess 3 (pC x12 i13.1 i13.2.1 i13.p3 i13.p4 i13.p6 i13.p7 i13.p8 i13.p9 i13.p11 i13.p12 i13.p14 i13.q15) c fun _ c=>?_
 refine E0 (Za (fuel:=1) [6] (by kernel_rfl) (by simp) ⟨?_,tt⟩)
 refine Zc _ rfl rfl ?_
 refine Fp [] 1 c fun _ c=>E0 (Za (fuel:=0) [7] (by kernel_rfl) (by simp) ⟨?_,tt⟩)
 refine Zc _ rfl rfl ?_
 refine Fp [] 1 c fun _ c=>E0 (ZJ (by kernel_rfl) (tn ?_))
 replace c:=c.fzr 7 25
 replace c:=c.fzr 7 26
 replace c:=c.fz 7
 replace c:=c.fzr 7 27
 replace c:=c.fzr 7 28
 replace c:=c.fz 7
 cases h
 exact wp_ret (Rg c (i13.1,i13.2.1,i13.p3,i13.p4,i13.p6,i13.p7,i13.p8,i13.p9,i13.p11,i13.p12,i13.p14,i13.q15) [] [29,30,31,32,33,34] (.cell (α:=Agg 9) kk (.b 3) (.tmp (.tmp .nil))))
 refine Zc _ rfl rfl ?_
 refine Fp [(0,3)] 1 c fun _ c=>E0 (Za (fuel:=5) [0] (by kernel_rfl) (by simp) ⟨?_,tt⟩)
 refine Zc _ rfl rfl ?_
 refine Fp [(0,3)] 1 c fun _ c=>E0 (Za (fuel:=4) [1] (by kernel_rfl) (by simp) ⟨?_,tt⟩)
 refine Zc _ rfl rfl ?_
 replace c:=c.fz 6
 replace c:=c.fzr 6 18
 replace c:=c.fzr 6 20
 replace c:=c.fz 6
 refine Cg c (Zz hx12) ⟨.f 14,.f 15,.f 21,.f 22,.f 23,.f 24,tt⟩ call42 fun i14 _ _ c=>?_
 refine E0 (Za (fuel:=3) [4] (by kernel_rfl) (by simp) ⟨?_,tt⟩)
 refine Zc _ rfl rfl ?_
 replace c:=c.nf
 refine Cb c (Zx hx13) ⟨.f 0,.f 14,.f 15,.f 21,.f 22,.f 23,.f 24,tt⟩ call22 fun _ _ _ c=>?_
 refine E0 (Za (fuel:=2) [5] (by kernel_rfl) (by simp) ⟨?_,tt⟩)
 refine Zc _ rfl rfl ?_
 refine Ess 3 (pC x12 i14.1 i14.2.1 i14.p3 i14.p4 i14.p6 i14.p7 i14.p8 i14.p9 i14.p11 i14.p12 i14.p14 i14.q15) c fun _ c=>?_
 refine E0 (Za (fuel:=1) [6] (by kernel_rfl) (by simp) ⟨?_,tt⟩)
 refine Zc _ rfl rfl ?_
 refine Fp [] 1 c fun _ c=>E0 (Za (fuel:=0) [7] (by kernel_rfl) (by simp) ⟨?_,tt⟩)
 refine Zc _ rfl rfl ?_
 refine Fp [] 1 c fun _ c=>E0 (ZJ (by kernel_rfl) (tn ?_))
 replace c:=c.fzr 7 25
 replace c:=c.fzr 7 26
 replace c:=c.fz 7
 replace c:=c.fzr 7 27
 replace c:=c.fzr 7 28
 replace c:=c.fz 7
 cases h
 exact wp_ret (Rg c (i14.1,i14.2.1,i14.p3,i14.p4,i14.p6,i14.p7,i14.p8,i14.p9,i14.p11,i14.p12,i14.p14,i14.q15) [] [29,30,31,32,33,34] (.cell (α:=Agg 9) kk (.b 3) (.tmp (.tmp .nil))))
 refine Zc _ rfl rfl ?_
 refine Fp [(0,3)] 1 c fun _ c=>E0 (Za (fuel:=6) [0,2] (by kernel_rfl) (by simp) ⟨?_,?_,tt⟩)
 refine Zc _ rfl rfl ?_
 refine Fp [(0,3)] 1 c fun _ c=>E0 (Za (fuel:=5) [1,2] (by kernel_rfl) (by simp) ⟨?_,?_,tt⟩)
 refine Zc _ rfl rfl ?_
 replace c:=c.fz 6
 replace c:=c.fzr 6 18
 replace c:=c.fzr 6 20
 replace c:=c.fz 6
 refine Cg c (Zz hx12) ⟨.f 14,.f 15,.f 21,.f 22,.f 23,.f 24,tt⟩ call42 fun i15 _ _ c=>?_
 refine E0 (Za (fuel:=4) [2] (by kernel_rfl) (by simp) ⟨?_,tt⟩)
 refine Zc _ rfl rfl ?_
 refine Fp [(0,0)] 1 c fun _ c=>E0 (Za (fuel:=3) [4] (by kernel_rfl) (by simp) ⟨?_,tt⟩)
 refine Zc _ rfl rfl ?_
 replace c:=c.nf
 refine Cb c (Zx hx13) ⟨.f 0,.f 14,.f 15,.f 21,.f 22,.f 23,.f 24,tt⟩ call22 fun _ _ _ c=>?_
 refine E0 (Za (fuel:=2) [5] (by kernel_rfl) (by simp) ⟨?_,tt⟩)
 refine Zc _ rfl rfl ?_
 refine Ess 3 (pC x12 i15.1 i15.2.1 i15.p3 i15.p4 i15.p6 i15.p7 i15.p8 i15.p9 i15.p11 i15.p12 i15.p14 i15.q15) c fun _ c=>?_
 refine E0 (Za (fuel:=1) [6] (by kernel_rfl) (by simp) ⟨?_,tt⟩)
 refine Zc _ rfl rfl ?_
 refine Fp [] 1 c fun _ c=>E0 (Za (fuel:=0) [7] (by kernel_rfl) (by simp) ⟨?_,tt⟩)
 refine Zc _ rfl rfl ?_
 refine Fp [] 1 c fun _ c=>E0 (ZJ (by kernel_rfl) (tn ?_))
 replace c:=c.fzr 7 25
 replace c:=c.fzr 7 26
 replace c:=c.fz 7
 replace c:=c.fzr 7 27
 replace c:=c.fzr 7 28
 replace c:=c.fz 7
 cases h
 exact wp_ret (Rg c (i15.1,i15.2.1,i15.p3,i15.p4,i15.p6,i15.p7,i15.p8,i15.p9,i15.p11,i15.p12,i15.p14,i15.q15) [] [29,30,31,32,33,34] (.cell (α:=Agg 9) kk (.b 3) (.tmp (.tmp .nil))))
 refine Zc _ rfl rfl ?_
 refine Fp [(0,0)] 1 c fun _ c=>E0 (Za (fuel:=4) [1] (by kernel_rfl) (by simp) ⟨?_,tt⟩)
 refine Zc _ rfl rfl ?_
 replace c:=c.fz 6
 replace c:=c.fzr 6 18
 replace c:=c.fzr 6 20
 replace c:=c.fz 6
 refine Cg c (Zz hx12) ⟨.f 14,.f 15,.f 21,.f 22,.f 23,.f 24,tt⟩ call42 fun i16 _ _ c=>?_
 refine E0 (Za (fuel:=3) [4] (by kernel_rfl) (by simp) ⟨?_,tt⟩)
 refine Zc _ rfl rfl ?_
 replace c:=c.nf
 refine Cb c (Zx hx13) ⟨.f 0,.f 14,.f 15,.f 21,.f 22,.f 23,.f 24,tt⟩ call22 fun _ _ _ c=>?_
 refine E0 (Za (fuel:=2) [5] (by kernel_rfl) (by simp) ⟨?_,tt⟩)
 refine Zc _ rfl rfl ?_
 refine Ess 3 (pC x12 i16.1 i16.2.1 i16.p3 i16.p4 i16.p6 i16.p7 i16.p8 i16.p9 i16.p11 i16.p12 i16.p14 i16.q15) c fun _ c=>?_
 refine E0 (Za (fuel:=1) [6] (by kernel_rfl) (by simp) ⟨?_,tt⟩)
 refine Zc _ rfl rfl ?_
 refine Fp [] 1 c fun _ c=>E0 (Za (fuel:=0) [7] (by kernel_rfl) (by simp) ⟨?_,tt⟩)
 refine Zc _ rfl rfl ?_
 refine Fp [] 1 c fun _ c=>E0 (ZJ (by kernel_rfl) (tn ?_))
 replace c:=c.fzr 7 25
 replace c:=c.fzr 7 26
 replace c:=c.fz 7
 replace c:=c.fzr 7 27
 replace c:=c.fzr 7 28
 replace c:=c.fz 7
 cases h
 exact wp_ret (Rg c (i16.1,i16.2.1,i16.p3,i16.p4,i16.p6,i16.p7,i16.p8,i16.p9,i16.p11,i16.p12,i16.p14,i16.q15) [] [29,30,31,32,33,34] (.cell (α:=Agg 9) kk (.b 3) (.tmp (.tmp .nil))))
 refine Zc _ rfl rfl ?_
 refine Fp [(0,0)] 1 c fun _ c=>E0 (Za (fuel:=5) [0] (by kernel_rfl) (by simp) ⟨?_,tt⟩)
 refine Zc _ rfl rfl ?_
 refine Fp [(0,3)] 1 c fun _ c=>E0 (Za (fuel:=4) [1] (by kernel_rfl) (by simp) ⟨?_,tt⟩)
 refine Zc _ rfl rfl ?_
 replace c:=c.fz 6
 replace c:=c.fzr 6 18
 replace c:=c.fzr 6 20
 replace c:=c.fz 6
 refine Cg c (Zz hx12) ⟨.f 14,.f 15,.f 21,.f 22,.f 23,.f 24,tt⟩ call42 fun i17 _ _ c=>?_
 refine E0 (Za (fuel:=3) [4] (by kernel_rfl) (by simp) ⟨?_,tt⟩)
 refine Zc _ rfl rfl ?_
 replace c:=c.nf
 refine Cb c (Zx hx13) ⟨.f 0,.f 14,.f 15,.f 21,.f 22,.f 23,.f 24,tt⟩ call22 fun _ _ _ c=>?_
 refine E0 (Za (fuel:=2) [5] (by kernel_rfl) (by simp) ⟨?_,tt⟩)
 refine Zc _ rfl rfl ?_
 refine Ess 3 (pC x12 i17.1 i17.2.1 i17.p3 i17.p4 i17.p6 i17.p7 i17.p8 i17.p9 i17.p11 i17.p12 i17.p14 i17.q15) c fun _ c=>?_
 refine E0 (Za (fuel:=1) [6] (by kernel_rfl) (by simp) ⟨?_,tt⟩)
 refine Zc _ rfl rfl ?_
 refine Fp [] 1 c fun _ c=>E0 (Za (fuel:=0) [7] (by kernel_rfl) (by simp) ⟨?_,tt⟩)
 refine Zc _ rfl rfl ?_
 refine Fp [] 1 c fun _ c=>E0 (ZJ (by kernel_rfl) (tn ?_))
 replace c:=c.fzr 7 25
 replace c:=c.fzr 7 26
 replace c:=c.fz 7
 replace c:=c.fzr 7 27
 replace c:=c.fzr 7 28
 replace c:=c.fz 7
 cases h
 exact wp_ret (Rg c (i17.1,i17.2.1,i17.p3,i17.p4,i17.p6,i17.p7,i17.p8,i17.p9,i17.p11,i17.p12,i17.p14,i17.q15) [] [29,30,31,32,33,34] (.cell (α:=Agg 9) kk (.b 3) (.tmp (.tmp .nil))))
 refine K0 (Bd h fun x14 hx14 h=>Bd h fun x15 hx15 h=>S0 (As mix c fun _ c=>Za (fuel:=7) [0,2,3] (by kernel_rfl) (by simp) ⟨?_,?_,?_,tt⟩))
 refine Zc _ rfl rfl ?_
 refine Fp [(0,3)] 1 c fun _ c=>E0 (Za (fuel:=6) [1,2,3] (by kernel_rfl) (by simp) ⟨?_,?_,?_,tt⟩)
 refine Zc _ rfl rfl ?_
 replace c:=c.fz 6
 replace c:=c.fzr 6 18
 replace c:=c.fzr 6 20
 replace c:=c.fz 6
 refine Cg c (Zz hx14) ⟨.f 14,.f 15,.f 21,.f 22,.f 23,.f 24,tt⟩ call42 fun i18 _ _ c=>?_
 refine E0 (Za (fuel:=5) [2,3] (by kernel_rfl) (by simp) ⟨?_,?_,tt⟩)
 refine Zc _ rfl rfl ?_
 refine Fp [(0,0)] 1 c fun _ c=>E0 (Za (fuel:=4) [3] (by kernel_rfl) (by simp) ⟨?_,tt⟩)
 refine Zc _ rfl rfl ?_
 refine Fp [(0,3)] 1 c fun _ c=>E0 (Za (fuel:=3) [4] (by kernel_rfl) (by simp) ⟨?_,tt⟩)
 refine Zc _ rfl rfl ?_
 replace c:=c.nf
 refine Cb c (Zx hx15) ⟨.f 0,.f 14,.f 15,.f 21,.f 22,.f 23,.f 24,tt⟩ call22 fun _ _ _ c=>?_
 refine E0 (Za (fuel:=2) [5] (by kernel_rfl) (by simp) ⟨?_,tt⟩)
 refine Zc _ rfl rfl ?_
 refine Ess 3 (pC x14 i18.1 i18.2.1 i18.p3 i18.p4 i18.p6 i18.p7 i18.p8 i18.p9 i18.p11 i18.p12 i18.p14 i18.q15) c fun _ c=>?_
 refine E0 (Za (fuel:=1) [6] (by kernel_rfl) (by simp) ⟨?_,tt⟩)
 refine Zc _ rfl rfl ?_
 refine Fp [] 1 c fun _ c=>E0 (Za (fuel:=0) [7] (by kernel_rfl) (by simp) ⟨?_,tt⟩)
 refine Zc _ rfl rfl ?_
 refine Fp [] 1 c fun _ c=>E0 (ZJ (by kernel_rfl) (tn ?_))
 replace c:=c.fzr 6 25
 replace c:=c.fzr 6 26
 replace c:=c.fz 6
 replace c:=c.fzr 6 27
 replace c:=c.fzr 6 28
 replace c:=c.fz 6
 cases h
 exact wp_ret (Rg c (i18.1,i18.2.1,i18.p3,i18.p4,i18.p6,i18.p7,i18.p8,i18.p9,i18.p11,i18.p12,i18.p14,i18.q15) [] [29,30,31,32,33,34] (.cell (α:=Agg 9) kk (.b 3) (.tmp (.tmp .nil))))
 refine Zc _ rfl rfl ?_
 refine Fp [(0,3)] 1 c fun _ c=>E0 (Za (fuel:=4) [2] (by kernel_rfl) (by simp) ⟨?_,tt⟩)
 refine Zc _ rfl rfl ?_
 refine Fp [(0,0)] 1 c fun _ c=>E0 (Za (fuel:=3) [4] (by kernel_rfl) (by simp) ⟨?_,tt⟩)
 refine Zc _ rfl rfl ?_
 replace c:=c.nf
 refine Cb c (Zx hx15) ⟨.f 0,.f 14,.f 15,.f 21,.f 22,.f 23,.f 24,tt⟩ call22 fun _ _ _ c=>?_
 refine E0 (Za (fuel:=2) [5] (by kernel_rfl) (by simp) ⟨?_,tt⟩)
 refine Zc _ rfl rfl ?_
 refine Ess 3 (pC x14 i18.1 i18.2.1 i18.p3 i18.p4 i18.p6 i18.p7 i18.p8 i18.p9 i18.p11 i18.p12 i18.p14 i18.q15) c fun _ c=>?_
 refine E0 (Za (fuel:=1) [6] (by kernel_rfl) (by simp) ⟨?_,tt⟩)
 refine Zc _ rfl rfl ?_
 refine Fp [] 1 c fun _ c=>E0 (Za (fuel:=0) [7] (by kernel_rfl) (by simp) ⟨?_,tt⟩)
 refine Zc _ rfl rfl ?_
 refine Fp [] 1 c fun _ c=>E0 (ZJ (by kernel_rfl) (tn ?_))
 replace c:=c.fzr 6 25
 replace c:=c.fzr 6 26
 replace c:=c.fz 6
 replace c:=c.fzr 6 27
 replace c:=c.fzr 6 28
 replace c:=c.fz 6
 cases h
 exact wp_ret (Rg c (i18.1,i18.2.1,i18.p3,i18.p4,i18.p6,i18.p7,i18.p8,i18.p9,i18.p11,i18.p12,i18.p14,i18.q15) [] [29,30,31,32,33,34] (.cell (α:=Agg 9) kk (.b 3) (.tmp (.tmp .nil))))
 refine Zc _ rfl rfl ?_
 refine Fp [(0,0)] 1 c fun _ c=>E0 (Za (fuel:=5) [1,3] (by kernel_rfl) (by simp) ⟨?_,?_,tt⟩)
 refine Zc _ rfl rfl ?_
 replace c:=c.fz 6
 replace c:=c.fzr 6 18
 replace c:=c.fzr 6 20
 replace c:=c.fz 6
 refine Cg c (Zz hx14) ⟨.f 14,.f 15,.f 21,.f 22,.f 23,.f 24,tt⟩ call42 fun i19 _ _ c=>?_
 refine E0 (Za (fuel:=4) [3] (by kernel_rfl) (by simp) ⟨?_,tt⟩)
 refine Zc _ rfl rfl ?_
 refine Fp [(0,3)] 1 c fun _ c=>E0 (Za (fuel:=3) [4] (by kernel_rfl) (by simp) ⟨?_,tt⟩)
 refine Zc _ rfl rfl ?_
 replace c:=c.nf
 refine Cb c (Zx hx15) ⟨.f 0,.f 14,.f 15,.f 21,.f 22,.f 23,.f 24,tt⟩ call22 fun _ _ _ c=>?_
 refine E0 (Za (fuel:=2) [5] (by kernel_rfl) (by simp) ⟨?_,tt⟩)
 refine Zc _ rfl rfl ?_
 refine Ess 3 (pC x14 i19.1 i19.2.1 i19.p3 i19.p4 i19.p6 i19.p7 i19.p8 i19.p9 i19.p11 i19.p12 i19.p14 i19.q15) c fun _ c=>?_
 refine E0 (Za (fuel:=1) [6] (by kernel_rfl) (by simp) ⟨?_,tt⟩)
 refine Zc _ rfl rfl ?_
 refine Fp [] 1 c fun _ c=>E0 (Za (fuel:=0) [7] (by kernel_rfl) (by simp) ⟨?_,tt⟩)
 refine Zc _ rfl rfl ?_
 refine Fp [] 1 c fun _ c=>E0 (ZJ (by kernel_rfl) (tn ?_))
 replace c:=c.fzr 6 25
 replace c:=c.fzr 6 26
 replace c:=c.fz 6
 replace c:=c.fzr 6 27
 replace c:=c.fzr 6 28
 replace c:=c.fz 6
 cases h
 exact wp_ret (Rg c (i19.1,i19.2.1,i19.p3,i19.p4,i19.p6,i19.p7,i19.p8,i19.p9,i19.p11,i19.p12,i19.p14,i19.q15) [] [29,30,31,32,33,34] (.cell (α:=Agg 9) kk (.b 3) (.tmp (.tmp .nil))))
 refine Zc _ rfl rfl ?_
 refine Fp [(0,3)] 1 c fun _ c=>E0 (Za (fuel:=4) [1] (by kernel_rfl) (by simp) ⟨?_,tt⟩)
 refine Zc _ rfl rfl ?_
 replace c:=c.fz 6
 replace c:=c.fzr 6 18
 replace c:=c.fzr 6 20
 replace c:=c.fz 6
 refine Cg c (Zz hx14) ⟨.f 14,.f 15,.f 21,.f 22,.f 23,.f 24,tt⟩ call42 fun i20 _ _ c=>?_
 refine E0 (Za (fuel:=3) [4] (by kernel_rfl) (by simp) ⟨?_,tt⟩)
 refine Zc _ rfl rfl ?_
 replace c:=c.nf
 refine Cb c (Zx hx15) ⟨.f 0,.f 14,.f 15,.f 21,.f 22,.f 23,.f 24,tt⟩ call22 fun _ _ _ c=>?_
 refine E0 (Za (fuel:=2) [5] (by kernel_rfl) (by simp) ⟨?_,tt⟩)
 refine Zc _ rfl rfl ?_
 refine Ess 3 (pC x14 i20.1 i20.2.1 i20.p3 i20.p4 i20.p6 i20.p7 i20.p8 i20.p9 i20.p11 i20.p12 i20.p14 i20.q15) c fun _ c=>?_
 refine E0 (Za (fuel:=1) [6] (by kernel_rfl) (by simp) ⟨?_,tt⟩)
 refine Zc _ rfl rfl ?_
 refine Fp [] 1 c fun _ c=>E0 (Za (fuel:=0) [7] (by kernel_rfl) (by simp) ⟨?_,tt⟩)
 refine Zc _ rfl rfl ?_
 refine Fp [] 1 c fun _ c=>E0 (ZJ (by kernel_rfl) (tn ?_))
 replace c:=c.fzr 6 25
 replace c:=c.fzr 6 26
 replace c:=c.fz 6
 replace c:=c.fzr 6 27
 replace c:=c.fzr 6 28
 replace c:=c.fz 6
 cases h
 exact wp_ret (Rg c (i20.1,i20.2.1,i20.p3,i20.p4,i20.p6,i20.p7,i20.p8,i20.p9,i20.p11,i20.p12,i20.p14,i20.q15) [] [29,30,31,32,33,34] (.cell (α:=Agg 9) kk (.b 3) (.tmp (.tmp .nil))))
 refine Zc _ rfl rfl ?_
 refine Fp [(0,3)] 1 c fun _ c=>E0 (Za (fuel:=5) [1,2] (by kernel_rfl) (by simp) ⟨?_,?_,tt⟩)
 refine Zc _ rfl rfl ?_
 replace c:=c.fz 6
 replace c:=c.fzr 6 18
 replace c:=c.fzr 6 20
 replace c:=c.fz 6
 refine Cg c (Zz hx14) ⟨.f 14,.f 15,.f 21,.f 22,.f 23,.f 24,tt⟩ call42 fun i21 _ _ c=>?_
 refine E0 (Za (fuel:=4) [2] (by kernel_rfl) (by simp) ⟨?_,tt⟩)
 refine Zc _ rfl rfl ?_
 refine Fp [(0,0)] 1 c fun _ c=>E0 (Za (fuel:=3) [4] (by kernel_rfl) (by simp) ⟨?_,tt⟩)
 refine Zc _ rfl rfl ?_
 replace c:=c.nf
 refine Cb c (Zx hx15) ⟨.f 0,.f 14,.f 15,.f 21,.f 22,.f 23,.f 24,tt⟩ call22 fun _ _ _ c=>?_
 refine E0 (Za (fuel:=2) [5] (by kernel_rfl) (by simp) ⟨?_,tt⟩)
 refine Zc _ rfl rfl ?_
 refine Ess 3 (pC x14 i21.1 i21.2.1 i21.p3 i21.p4 i21.p6 i21.p7 i21.p8 i21.p9 i21.p11 i21.p12 i21.p14 i21.q15) c fun _ c=>?_
 refine E0 (Za (fuel:=1) [6] (by kernel_rfl) (by simp) ⟨?_,tt⟩)
 refine Zc _ rfl rfl ?_
 refine Fp [] 1 c fun _ c=>E0 (Za (fuel:=0) [7] (by kernel_rfl) (by simp) ⟨?_,tt⟩)
 refine Zc _ rfl rfl ?_
 refine Fp [] 1 c fun _ c=>E0 (ZJ (by kernel_rfl) (tn ?_))
 replace c:=c.fzr 6 25
 replace c:=c.fzr 6 26
 replace c:=c.fz 6
 replace c:=c.fzr 6 27
 replace c:=c.fzr 6 28
 replace c:=c.fz 6
 cases h
 exact wp_ret (Rg c (i21.1,i21.2.1,i21.p3,i21.p4,i21.p6,i21.p7,i21.p8,i21.p9,i21.p11,i21.p12,i21.p14,i21.q15) [] [29,30,31,32,33,34] (.cell (α:=Agg 9) kk (.b 3) (.tmp (.tmp .nil))))
 refine Zc _ rfl rfl ?_
 refine Fp [(0,0)] 1 c fun _ c=>E0 (Za (fuel:=4) [1] (by kernel_rfl) (by simp) ⟨?_,tt⟩)
 refine Zc _ rfl rfl ?_
 replace c:=c.fz 6
 replace c:=c.fzr 6 18
 replace c:=c.fzr 6 20
 replace c:=c.fz 6
 refine Cg c (Zz hx14) ⟨.f 14,.f 15,.f 21,.f 22,.f 23,.f 24,tt⟩ call42 fun i22 _ _ c=>?_
 refine E0 (Za (fuel:=3) [4] (by kernel_rfl) (by simp) ⟨?_,tt⟩)
 refine Zc _ rfl rfl ?_
 replace c:=c.nf
 refine Cb c (Zx hx15) ⟨.f 0,.f 14,.f 15,.f 21,.f 22,.f 23,.f 24,tt⟩ call22 fun _ _ _ c=>?_
 refine E0 (Za (fuel:=2) [5] (by kernel_rfl) (by simp) ⟨?_,tt⟩)
 refine Zc _ rfl rfl ?_
 refine Ess 3 (pC x14 i22.1 i22.2.1 i22.p3 i22.p4 i22.p6 i22.p7 i22.p8 i22.p9 i22.p11 i22.p12 i22.p14 i22.q15) c fun _ c=>?_
 refine E0 (Za (fuel:=1) [6] (by kernel_rfl) (by simp) ⟨?_,tt⟩)
 refine Zc _ rfl rfl ?_
 refine Fp [] 1 c fun _ c=>E0 (Za (fuel:=0) [7] (by kernel_rfl) (by simp) ⟨?_,tt⟩)
 refine Zc _ rfl rfl ?_
 refine Fp [] 1 c fun _ c=>E0 (ZJ (by kernel_rfl) (tn ?_))
 replace c:=c.fzr 6 25
 replace c:=c.fzr 6 26
 replace c:=c.fz 6
 replace c:=c.fzr 6 27
 replace c:=c.fzr 6 28
 replace c:=c.fz 6
 cases h
 exact wp_ret (Rg c (i22.1,i22.2.1,i22.p3,i22.p4,i22.p6,i22.p7,i22.p8,i22.p9,i22.p11,i22.p12,i22.p14,i22.q15) [] [29,30,31,32,33,34] (.cell (α:=Agg 9) kk (.b 3) (.tmp (.tmp .nil))))
 refine Zc _ rfl rfl ?_
 refine Fp [(0,0)] 1 c fun _ c=>E0 (Za (fuel:=6) [0,3] (by kernel_rfl) (by simp) ⟨?_,?_,tt⟩)
 refine Zc _ rfl rfl ?_
 refine Fp [(0,3)] 1 c fun _ c=>E0 (Za (fuel:=5) [1,3] (by kernel_rfl) (by simp) ⟨?_,?_,tt⟩)
 refine Zc _ rfl rfl ?_
 replace c:=c.fz 6
 replace c:=c.fzr 6 18
 replace c:=c.fzr 6 20
 replace c:=c.fz 6
 refine Cg c (Zz hx14) ⟨.f 14,.f 15,.f 21,.f 22,.f 23,.f 24,tt⟩ call42 fun i23 _ _ c=>?_
 refine E0 (Za (fuel:=4) [3] (by kernel_rfl) (by simp) ⟨?_,tt⟩)
 refine Zc _ rfl rfl ?_
 refine Fp [(0,3)] 1 c fun _ c=>E0 (Za (fuel:=3) [4] (by kernel_rfl) (by simp) ⟨?_,tt⟩)
 refine Zc _ rfl rfl ?_
 replace c:=c.nf
 refine Cb c (Zx hx15) ⟨.f 0,.f 14,.f 15,.f 21,.f 22,.f 23,.f 24,tt⟩ call22 fun _ _ _ c=>?_
 refine E0 (Za (fuel:=2) [5] (by kernel_rfl) (by simp) ⟨?_,tt⟩)
 refine Zc _ rfl rfl ?_
 refine Ess 3 (pC x14 i23.1 i23.2.1 i23.p3 i23.p4 i23.p6 i23.p7 i23.p8 i23.p9 i23.p11 i23.p12 i23.p14 i23.q15) c fun _ c=>?_
 refine E0 (Za (fuel:=1) [6] (by kernel_rfl) (by simp) ⟨?_,tt⟩)
 refine Zc _ rfl rfl ?_
 refine Fp [] 1 c fun _ c=>E0 (Za (fuel:=0) [7] (by kernel_rfl) (by simp) ⟨?_,tt⟩)
 refine Zc _ rfl rfl ?_
 refine Fp [] 1 c fun _ c=>E0 (ZJ (by kernel_rfl) (tn ?_))
 replace c:=c.fzr 6 25
 replace c:=c.fzr 6 26
 replace c:=c.fz 6
 replace c:=c.fzr 6 27
 replace c:=c.fzr 6 28
 replace c:=c.fz 6
 cases h
 exact wp_ret (Rg c (i23.1,i23.2.1,i23.p3,i23.p4,i23.p6,i23.p7,i23.p8,i23.p9,i23.p11,i23.p12,i23.p14,i23.q15) [] [29,30,31,32,33,34] (.cell (α:=Agg 9) kk (.b 3) (.tmp (.tmp .nil))))
 refine Zc _ rfl rfl ?_
 refine Fp [(0,3)] 1 c fun _ c=>E0 (Za (fuel:=4) [1] (by kernel_rfl) (by simp) ⟨?_,tt⟩)
 refine Zc _ rfl rfl ?_
 replace c:=c.fz 6
 replace c:=c.fzr 6 18
 replace c:=c.fzr 6 20
 replace c:=c.fz 6
 refine Cg c (Zz hx14) ⟨.f 14,.f 15,.f 21,.f 22,.f 23,.f 24,tt⟩ call42 fun i24 _ _ c=>?_
 refine E0 (Za (fuel:=3) [4] (by kernel_rfl) (by simp) ⟨?_,tt⟩)
 refine Zc _ rfl rfl ?_
 replace c:=c.nf
 refine Cb c (Zx hx15) ⟨.f 0,.f 14,.f 15,.f 21,.f 22,.f 23,.f 24,tt⟩ call22 fun _ _ _ c=>?_
 refine E0 (Za (fuel:=2) [5] (by kernel_rfl) (by simp) ⟨?_,tt⟩)
 refine Zc _ rfl rfl ?_
 refine Ess 3 (pC x14 i24.1 i24.2.1 i24.p3 i24.p4 i24.p6 i24.p7 i24.p8 i24.p9 i24.p11 i24.p12 i24.p14 i24.q15) c fun _ c=>?_
 refine E0 (Za (fuel:=1) [6] (by kernel_rfl) (by simp) ⟨?_,tt⟩)
 refine Zc _ rfl rfl ?_
 refine Fp [] 1 c fun _ c=>E0 (Za (fuel:=0) [7] (by kernel_rfl) (by simp) ⟨?_,tt⟩)
 refine Zc _ rfl rfl ?_
 refine Fp [] 1 c fun _ c=>E0 (ZJ (by kernel_rfl) (tn ?_))
 replace c:=c.fzr 6 25
 replace c:=c.fzr 6 26
 replace c:=c.fz 6
 replace c:=c.fzr 6 27
 replace c:=c.fzr 6 28
 replace c:=c.fz 6
 cases h
 exact wp_ret (Rg c (i24.1,i24.2.1,i24.p3,i24.p4,i24.p6,i24.p7,i24.p8,i24.p9,i24.p11,i24.p12,i24.p14,i24.q15) [] [29,30,31,32,33,34] (.cell (α:=Agg 9) kk (.b 3) (.tmp (.tmp .nil))))
 refine Zc _ rfl rfl ?_
 refine Fp [(0,3)] 1 c fun _ c=>E0 (Za (fuel:=5) [0] (by kernel_rfl) (by simp) ⟨?_,tt⟩)
 refine Zc _ rfl rfl ?_
 refine Fp [(0,3)] 1 c fun _ c=>E0 (Za (fuel:=4) [1] (by kernel_rfl) (by simp) ⟨?_,tt⟩)
 refine Zc _ rfl rfl ?_
 replace c:=c.fz 6
 replace c:=c.fzr 6 18
 replace c:=c.fzr 6 20
 replace c:=c.fz 6
 refine Cg c (Zz hx14) ⟨.f 14,.f 15,.f 21,.f 22,.f 23,.f 24,tt⟩ call42 fun i25 _ _ c=>?_
 refine E0 (Za (fuel:=3) [4] (by kernel_rfl) (by simp) ⟨?_,tt⟩)
 refine Zc _ rfl rfl ?_
 replace c:=c.nf
 refine Cb c (Zx hx15) ⟨.f 0,.f 14,.f 15,.f 21,.f 22,.f 23,.f 24,tt⟩ call22 fun _ _ _ c=>?_
 refine E0 (Za (fuel:=2) [5] (by kernel_rfl) (by simp) ⟨?_,tt⟩)
 refine Zc _ rfl rfl ?_
 refine Ess 3 (pC x14 i25.1 i25.2.1 i25.p3 i25.p4 i25.p6 i25.p7 i25.p8 i25.p9 i25.p11 i25.p12 i25.p14 i25.q15) c fun _ c=>?_
 refine E0 (Za (fuel:=1) [6] (by kernel_rfl) (by simp) ⟨?_,tt⟩)
 refine Zc _ rfl rfl ?_
 refine Fp [] 1 c fun _ c=>E0 (Za (fuel:=0) [7] (by kernel_rfl) (by simp) ⟨?_,tt⟩)
 refine Zc _ rfl rfl ?_
 refine Fp [] 1 c fun _ c=>E0 (ZJ (by kernel_rfl) (tn ?_))
 replace c:=c.fzr 6 25
 replace c:=c.fzr 6 26
 replace c:=c.fz 6
 replace c:=c.fzr 6 27
 replace c:=c.fzr 6 28
 replace c:=c.fz 6
 cases h
 exact wp_ret (Rg c (i25.1,i25.2.1,i25.p3,i25.p4,i25.p6,i25.p7,i25.p8,i25.p9,i25.p11,i25.p12,i25.p14,i25.q15) [] [29,30,31,32,33,34] (.cell (α:=Agg 9) kk (.b 3) (.tmp (.tmp .nil))))
 refine Zc _ rfl rfl ?_
 refine Fp [(0,3)] 1 c fun _ c=>E0 (Za (fuel:=6) [0,2] (by kernel_rfl) (by simp) ⟨?_,?_,tt⟩)
 refine Zc _ rfl rfl ?_
 refine Fp [(0,3)] 1 c fun _ c=>E0 (Za (fuel:=5) [1,2] (by kernel_rfl) (by simp) ⟨?_,?_,tt⟩)
 refine Zc _ rfl rfl ?_
 replace c:=c.fz 6
 replace c:=c.fzr 6 18
 replace c:=c.fzr 6 20
 replace c:=c.fz 6
 refine Cg c (Zz hx14) ⟨.f 14,.f 15,.f 21,.f 22,.f 23,.f 24,tt⟩ call42 fun i26 _ _ c=>?_
 refine E0 (Za (fuel:=4) [2] (by kernel_rfl) (by simp) ⟨?_,tt⟩)
 refine Zc _ rfl rfl ?_
 refine Fp [(0,0)] 1 c fun _ c=>E0 (Za (fuel:=3) [4] (by kernel_rfl) (by simp) ⟨?_,tt⟩)
 refine Zc _ rfl rfl ?_
 replace c:=c.nf
 refine Cb c (Zx hx15) ⟨.f 0,.f 14,.f 15,.f 21,.f 22,.f 23,.f 24,tt⟩ call22 fun _ _ _ c=>?_
 refine E0 (Za (fuel:=2) [5] (by kernel_rfl) (by simp) ⟨?_,tt⟩)
 refine Zc _ rfl rfl ?_
 refine Ess 3 (pC x14 i26.1 i26.2.1 i26.p3 i26.p4 i26.p6 i26.p7 i26.p8 i26.p9 i26.p11 i26.p12 i26.p14 i26.q15) c fun _ c=>?_
 refine E0 (Za (fuel:=1) [6] (by kernel_rfl) (by simp) ⟨?_,tt⟩)
 refine Zc _ rfl rfl ?_
 refine Fp [] 1 c fun _ c=>E0 (Za (fuel:=0) [7] (by kernel_rfl) (by simp) ⟨?_,tt⟩)
 refine Zc _ rfl rfl ?_
 refine Fp [] 1 c fun _ c=>E0 (ZJ (by kernel_rfl) (tn ?_))
 replace c:=c.fzr 6 25
 replace c:=c.fzr 6 26
 replace c:=c.fz 6
 replace c:=c.fzr 6 27
 replace c:=c.fzr 6 28
 replace c:=c.fz 6
 cases h
 exact wp_ret (Rg c (i26.1,i26.2.1,i26.p3,i26.p4,i26.p6,i26.p7,i26.p8,i26.p9,i26.p11,i26.p12,i26.p14,i26.q15) [] [29,30,31,32,33,34] (.cell (α:=Agg 9) kk (.b 3) (.tmp (.tmp .nil))))
 refine Zc _ rfl rfl ?_
 refine Fp [(0,0)] 1 c fun _ c=>E0 (Za (fuel:=4) [1] (by kernel_rfl) (by simp) ⟨?_,tt⟩)
 refine Zc _ rfl rfl ?_
 replace c:=c.fz 6
 replace c:=c.fzr 6 18
 replace c:=c.fzr 6 20
 replace c:=c.fz 6
 refine Cg c (Zz hx14) ⟨.f 14,.f 15,.f 21,.f 22,.f 23,.f 24,tt⟩ call42 fun i27 _ _ c=>?_
 refine E0 (Za (fuel:=3) [4] (by kernel_rfl) (by simp) ⟨?_,tt⟩)
 refine Zc _ rfl rfl ?_
 replace c:=c.nf
 refine Cb c (Zx hx15) ⟨.f 0,.f 14,.f 15,.f 21,.f 22,.f 23,.f 24,tt⟩ call22 fun _ _ _ c=>?_
 refine E0 (Za (fuel:=2) [5] (by kernel_rfl) (by simp) ⟨?_,tt⟩)
 refine Zc _ rfl rfl ?_
 refine Ess 3 (pC x14 i27.1 i27.2.1 i27.p3 i27.p4 i27.p6 i27.p7 i27.p8 i27.p9 i27.p11 i27.p12 i27.p14 i27.q15) c fun _ c=>?_
 refine E0 (Za (fuel:=1) [6] (by kernel_rfl) (by simp) ⟨?_,tt⟩)
 refine Zc _ rfl rfl ?_
 refine Fp [] 1 c fun _ c=>E0 (Za (fuel:=0) [7] (by kernel_rfl) (by simp) ⟨?_,tt⟩)
 refine Zc _ rfl rfl ?_
 refine Fp [] 1 c fun _ c=>E0 (ZJ (by kernel_rfl) (tn ?_))
 replace c:=c.fzr 6 25
 replace c:=c.fzr 6 26
 replace c:=c.fz 6
 replace c:=c.fzr 6 27
 replace c:=c.fzr 6 28
 replace c:=c.fz 6
 cases h
 exact wp_ret (Rg c (i27.1,i27.2.1,i27.p3,i27.p4,i27.p6,i27.p7,i27.p8,i27.p9,i27.p11,i27.p12,i27.p14,i27.q15) [] [29,30,31,32,33,34] (.cell (α:=Agg 9) kk (.b 3) (.tmp (.tmp .nil))))
 refine Zc _ rfl rfl ?_
 refine Fp [(0,0)] 1 c fun _ c=>E0 (Za (fuel:=5) [0] (by kernel_rfl) (by simp) ⟨?_,tt⟩)
 refine Zc _ rfl rfl ?_
 refine Fp [(0,3)] 1 c fun _ c=>E0 (Za (fuel:=4) [1] (by kernel_rfl) (by simp) ⟨?_,tt⟩)
 refine Zc _ rfl rfl ?_
 replace c:=c.fz 6
 replace c:=c.fzr 6 18
 replace c:=c.fzr 6 20
 replace c:=c.fz 6
 refine Cg c (Zz hx14) ⟨.f 14,.f 15,.f 21,.f 22,.f 23,.f 24,tt⟩ call42 fun i28 _ _ c=>?_
 refine E0 (Za (fuel:=3) [4] (by kernel_rfl) (by simp) ⟨?_,tt⟩)
 refine Zc _ rfl rfl ?_
 replace c:=c.nf
 refine Cb c (Zx hx15) ⟨.f 0,.f 14,.f 15,.f 21,.f 22,.f 23,.f 24,tt⟩ call22 fun _ _ _ c=>?_
 refine E0 (Za (fuel:=2) [5] (by kernel_rfl) (by simp) ⟨?_,tt⟩)
 refine Zc _ rfl rfl ?_
 refine Ess 3 (pC x14 i28.1 i28.2.1 i28.p3 i28.p4 i28.p6 i28.p7 i28.p8 i28.p9 i28.p11 i28.p12 i28.p14 i28.q15) c fun _ c=>?_
 refine E0 (Za (fuel:=1) [6] (by kernel_rfl) (by simp) ⟨?_,tt⟩)
 refine Zc _ rfl rfl ?_
 refine Fp [] 1 c fun _ c=>E0 (Za (fuel:=0) [7] (by kernel_rfl) (by simp) ⟨?_,tt⟩)
 refine Zc _ rfl rfl ?_
 refine Fp [] 1 c fun _ c=>E0 (ZJ (by kernel_rfl) (tn ?_))
 replace c:=c.fzr 6 25
 replace c:=c.fzr 6 26
 replace c:=c.fz 6
 replace c:=c.fzr 6 27
 replace c:=c.fzr 6 28
 replace c:=c.fz 6
 cases h
 exact wp_ret (Rg c (i28.1,i28.2.1,i28.p3,i28.p4,i28.p6,i28.p7,i28.p8,i28.p9,i28.p11,i28.p12,i28.p14,i28.q15) [] [29,30,31,32,33,34] (.cell (α:=Agg 9) kk (.b 3) (.tmp (.tmp .nil))))
theorem Zc6 {p0 p1 p2 r} (h:Xt n p0 p1 p2 = some r):Con prog 7 [gV p0 ga0 gc1,pV p1 ga2 gc3 ga4 gc5 ga6 gc7 ga8 gc9 ga10 gc11 ga12 gc13,L ga14 p2 gc15] [] [lR ga0 p0.Code gc1,lR ga2 p1.Regs gc3,lR ga4 p1.Mem gc5,lR ga6 p1.Stack gc7,lR ga8 p1.Out gc9,lR ga10 p1.Cond gc11,lR ga12 p1.Turns gc13,lR ga14 p2 gc15] fun (i:Oh)=>([L i.1 r.1 i.2,.bool r.2],[],[lR i.1 r.1 i.2]):=by
 unfold Xt at h
 refine En func7 rfl ntmps7 fun _ fr w c=>?_
 refine T0 (Ebx (gC p0 ga0 gc1) c fun b1 _ _ c=>?_)
 refine Ebx (pC p1 ga2 gc3 ga4 gc5 ga6 gc7 ga8 gc9 ga10 gc11 ga12 gc13) c fun b2 _ _ c=>?_
 refine Fp [] 2 c fun _ c=>E0 (S0 (Bd h fun x1 hx1 h=>S0 (rZ [(2,.eq (.bool x1))] [(0,0),(1,1),(6,1),(11,1),(13,0),(19,1)] mix c ⟨Ncl c (kN (Zx hx1)) ⟨.f 0,.f 1,.f 2,.f 3,.f 4,.f 5,.f 6,tt⟩ call22,tt⟩ fun _ _ c=>I0 c h (fun h=>?_) fun h=>?_)))
 refine P0 [] c fun _ c=>?_
 cases h
 replace c:=c.nilf (α:=D.Path)
 exact wp_ret (tr (Rg c (none,0) [] [8] (.tmp (.tmp .nil))))
 refine K0 (S0 (T0 (Fp [(1,0),(3,1)] 4 c fun _ c=>Bd h fun x2 hx2 h=>Eef c (.f 0) hx2 Zjn fun _ _ _ c=>?_)))
 refine Fp [] 1 c fun _ c=>E0 (I0 c h (fun h=>?_) fun h=>?_)
 refine P0 [] c fun _ c=>?_
 cases h
 replace c:=c.nilf (α:=D.Path)
 exact wp_ret (tr (Rg c (none,0) [] [8] (.tmp (.tmp .nil))))
 refine K0 (S0 (P0 [] c fun _ c=>Bd h fun rl1 hit1 h=>?_))
 have hk1:=h
 refine LpR (fun s1  (_:Unit)=>([(2,L ga14 p2 gc15),(3,B b1 0),(4,B b2 0),(47,L ga14 p2 gc15),(48,I (len p2)),(49,I s1)],id,[])) (fun s  (_:Unit)=>([(2,L ga14 p2 gc15),(3,B b1 0),(4,B b2 0)],id,[])) hit1 c () (c.rk [0,1] (rg 8)) (fun s1 q1 _ _ _ c h hr1=>?_) fun s1r _ _ _ hrl c=>?_
 refine P0 [] c fun _ c=>S0 (I0 c h (fun h=>?_) fun h=>?_)
 refine K0 (S0 (wp_block (T0 (Bd h fun x3 hx3 h=>Eem c (.f 7) hx3 fun _ u1 _ c=>?_))))
 obtain ⟨a1,c1,a2,c2,a3,c3,a4,c4,a5,c5,a6,c6,rfl,c⟩:=c.o_Path 8
 refine Eal pZ c fun b3 _ _ c=>?_
 refine Ess 2 (pC x3 a1 c1 a2 c2 a3 c3 a4 c4 a5 c5 a6 c6) c fun _ c=>?_
 refine E0 (Bd h fun x4 hx4 h=>S0 (rZ [(2,.eq (.bool x4))] [(0,0),(1,2),(6,2),(9,2)] mix c ⟨Ncl c (kN (Zx hx4)) ⟨.f 0,.f 9,.f 10,.f 11,.f 12,.f 13,.f 14,tt⟩ call22,tt⟩ fun _ _ c=>I0 c h (fun h=>?_) fun h=>?_))
 refine P0 [] c fun _ c=>?_
 obtain rfl:=hr1 _ (sk h)
 obtain rfl:=sj hk1
 replace c:=c.nilf (α:=D.Path)
 exact wp_ret (br (tr (tr (br (tr (Rg c (none,0) [] [15] (.tmp (.tmp .nil))))))))
 refine K1 (bk (tn (P1 [] c fun _ c=>Nx h () (c.rk [0,1] (rg 8)))))
 refine wp_exit (te (te (be ?_)))
 obtain rfl:=hr1 _ (sk h)
 exact tn ⟨_,(),rfl,c.rk [0,1] (rg 8)⟩
 subst hrl
 refine T0 (Eltr 42 ([]:List Rw.Path) ([]:List D.Path) c tt fun a7 c7 _ _ c=>?_)
 refine Fp [] 1 c fun _ c=>E0 (S0 (P0 [] c fun _ c=>Bd h fun rl2 hit2 h=>?_))
 have hk2:=h
 refine LpR (fun s2  (i:List Rw.Path × Oh)=>([(3,B b1 0),(4,B b2 0),(10,L i.2.1 s2.2 i.q2),(68,L ga14 p2 gc15),(69,I (len p2)),(70,I s2.1)],fun Γ=>Γ.set 2 (sl42 (L i.2.1 s2.2 i.q2) (i.1)),[CS (i.1) s2.2])) (fun s  (i:List Rw.Path × Oh)=>([(10,L i.2.1 s i.q2)],fun Γ=>Γ.set 2 (sl42 (L i.2.1 s i.q2) (i.1)),[CS (i.1) s])) hit2 c (([]:List Rw.Path),a7,c7) (c.rk [0,1,2] [0,1,2,3,4,5,6,7,8,8]) (fun s2 q2 i1 _ _ c h hr2=>?_) fun s2r k1 _ _ hrl c=>?_
 refine P0 [] c fun _ c=>S0 (I0 c h (fun h=>?_) fun h=>?_)
 refine K0 (S0 (wp_block (T0 (Bd h fun x5 hx5 h=>Eem c (.f 7) hx5 fun _ u2 _ c=>?_))))
 obtain ⟨a8,c8,a9,c9,a10,c10,a11,c11,a12,c12,a13,c13,rfl,c⟩:=c.o_Path 10
 refine Eal pZ c fun b4 _ _ c=>?_
 replace c:=c.nf
 refine Ess 3 (pC x5 a8 c8 a9 c9 a10 c10 a11 c11 a12 c12 a13 c13) c fun _ c=>?_
 refine E0 (T0 (Fp [(0,0),(1,1),(2,2)] 3 c fun _ c=>Bd h fun x6 hx6 h=>Cg c (ZdJ hx6) ⟨.f 0,.f 1,.f 2,.f 3,.f 4,.f 5,.f 6,.f 11,.f 12,.f 13,.f 14,.f 15,.f 16,tt⟩ call23 fun i2 _ _ c=>?_))
 refine Fp [] 4 c fun _ c=>Eal pZ c fun b5 _ _ c=>?_
 refine Ess 4 (pM x6.1 i2) c fun _ c=>?_
 refine Fp [] 2 c fun _ c=>E0 (S0 (P0 [] c fun _ c=>I0 c h (fun h=>?_) fun h=>?_))
 refine P0 [] c fun _ c=>?_
 obtain rfl:=hr2 _ (sk h)
 obtain rfl:=sj hk2
 replace c:=c.nilf (α:=D.Path)
 exact wp_ret (tr (br (tr (tr (br (tr (Rg c (none,0) [] [23] (.tmp (.tmp .nil)))))))))
 refine K0 (P0 [] c fun _ c=>I0 c h (fun h=>?_) fun h=>?_)
 refine T1 (Fp [(1,3)] 2 c fun _ c=>Eltr 42 ([(Rw.Path.mk x6.1.Pc (hd i2.1 x6.1.Regs i2.2.1) (hd i2.p2 x6.1.Mem i2.p3) (hd i2.p4 x6.1.Stack i2.p5) x6.1.In (hd i2.p6 x6.1.Out i2.p7) x6.1.Code x6.1.Steps (hd i2.p8 x6.1.Cond i2.p9) (hd i2.p10 x6.1.Turns i2.q11))]:List Rw.Path) ([x6.1]:List D.Path) c ⟨(Ava.mk_Path x6.1 (.f 17) (.f 18) (.f 19) (.f 20) (.f 21) (.f 22)),tt⟩ fun a14 c14 _ _ c=>?_)
 replace c:=c.ng
 replace c:=c.fzr 5 23
 refine Bd h fun x7 hx7 h=>Eapr 2 9 c (.f 24) hx7 fun rm1 a15 c15 _ _ c=>?_
 refine Fp [] 1 c fun _ c=>E1 (bk (tn (P1 [] c fun _ c=>Nx h ((i1.1 ++ rm1),a15,c15) (c.rk [0,1,2] [0,1,2,3,4,5,6,7,8,25]))))
 refine K1 (bk (tn (P1 [] c fun _ c=>Nx h (i1.1,i1.2.1,i1.q2) (c.rk [0,1,2] (rg 10)))))
 refine wp_exit (te (te (be ?_)))
 obtain rfl:=hr2 _ (sk h)
 exact tn ⟨_,(i1.1,i1.2.1,i1.q2),rfl,c.rk [0,1,2] (rg 10)⟩
 subst hrl
 try simp only [l3,l4,l5,l6] at c
 refine P0 [] c fun _ c=>?_
 replace c:=c.fzr 2 9
 cases h
 exact wp_ret (Rg c (k1.2.1,k1.q2) [] [10] (.tmp (.tmp .nil)))
theorem Zes {p0 p1 r} (h:Zbu p0 p1 = some r):C0 78 [I p0,I p1] [] (.bool r):=by
 unfold Zbu at h
 refine En func78 rfl ntmps78 fun _ fr w c=>?_
 refine P0 [] c fun _ c=>S0 (Ry [] mix c fun _ _ c=>?_)
 exact rE
theorem XM {p0 r} (h:ZQ p0 = some r):C0 90 [I p0] [] (.bool r):=by
 unfold ZQ at h
 refine En func90 rfl ntmps90 fun _ fr w c=>?_
 refine P0 [] c fun _ c=>S0 (Ry [] mix c fun _ _ c=>?_)
 exact rE
theorem ZT {p0 p1 r} (h:ZO p0 p1 = some r):C0 79 [I p0,I p1] [] (.bool r):=by
 unfold ZO at h
 refine En func79 rfl ntmps79 fun _ fr w c=>?_
 refine P0 [] c fun _ c=>Bd h fun x1 hx1 h=>Bd h fun x2 hx2 h=>S0 (rZ [(1,.eq (.bool x1)),(10,.eq (I x2))] [] mix c ⟨Ncl c (kN (XM hx1)) tt call90,Nshl c (gT hx2),tt⟩ fun _ _ c=>?_)
 exact rE
theorem Xu {p0 r} (h:Xf p0 = some r):C0 91 [I p0] [] (.bool r):=by
 unfold Xf at h
 refine En func91 rfl ntmps91 fun _ fr w c=>?_
 refine P0 [] c fun _ c=>S0 (Ry [] mix c fun _ _ c=>?_)
 exact rE
theorem ZcX {p0 r} (h:XN p0 = some r):C0 92 [I p0] [] (.bool r):=by
 unfold XN at h
 refine En func92 rfl ntmps92 fun _ fr w c=>?_
 refine P0 [] c fun _ c=>S0 (Ry [] mix c fun _ _ c=>?_)
 exact rE
theorem Zfk {p0 p1 p2 r} (h:ZaA p0 p1 p2 = some r):C0 80 [nV p0,I p1,I p2] [] (.bool r):=by
 unfold ZaA at h
 refine En func80 rfl ntmps80 fun _ fr w c=>?_
 refine T0 (Ebx (nC p0) c fun b1 _ _ c=>?_)
 refine Fp [] 1 c fun _ c=>E0 (S0 (Ry [(1,0),(5,0)] mix c fun _ _ c=>S0 (P0 [(1,0)] c fun _ c=>I0 c h (fun h=>?_) fun h=>?_)))
 refine Bd h fun x1 hx1 h=>Bd h fun x2 hx2 h=>Bd h fun x3 hx3 h=>S0 (rZ [(2,.eq (.bool x1)),(6,.eq (.bool x2)),(11,.eq (.bool x3))] [(1,0),(5,0),(10,0)] mix c ⟨Ncl c (kN (Xu hx1)) tt call91,Ncl c (fun hg=>Xu (iteT (gcT hg) hx2)) tt call91,Ncl c (fun hg=>ZcX (iteT (gcT hg) hx3)) tt call92,tt⟩ fun _ _ c=>?_)
 exact rE
 refine K0 (S0 (P0 [(1,0)] c fun _ c=>I0 c h (fun h=>P0 [] c fun _ c=>rE) fun h=>?_))
 refine K0 (S0 (P0 [(1,0)] c fun _ c=>wp_block (P0 [] c fun _ c=>I0 c h (fun h=>?_) fun h=>?_)))
 refine Bd h fun x4 hx4 h=>Bd h fun x5 hx5 h=>S0 (rZ [(2,.eq (.bool x4)),(7,.eq (.bool x5))] [(1,0),(6,0)] mix c ⟨Ncl c (kN (Xu hx4)) tt call91,Ncl c (fun hg=>ZT (iteT (gcT hg) hx5)) tt call79,tt⟩ fun _ _ c=>?_)
 exact rE
 refine S0 (P0 [] c fun _ c=>Bd h fun rl1 hit1 h=>?_)
 have hk1:=h
 refine Jr (fun s  (_:Unit)=>([(3,B b1 0),(7,.bool ((decide (p0.B ≥ 0)) && (decide (p0.B ≤ p2)))),(37,I p0.Op),(49,.bool s)],id,[])) hit1 c (fun h=>?_) fun s1r _ _ _ hrl c=>?_
 refine I0 c h (fun h=>?_) fun h=>?_
 refine K0 (⟨_,(),(sk h),c.rk [0] []⟩)
 refine P0 [] c fun _ c=>Mp (p0.Op == 7) [(49,.bool (p0.Op == 7))] [(49,.bool (p0.Op == 8))] [(49,.bool ((p0.Op == 7) || (p0.Op == 8)))] [49,52] c fun _ c=>⟨_,(),(sk h),c.rk [0] []⟩
 subst hrl
 refine I0 c h (fun h=>?_) fun h=>?_
 refine Bd h fun x6 hx6 h=>Bd h fun x7 hx7 h=>S0 (rZ [(2,.eq (.bool x6)),(6,.eq (.bool x7))] [(1,0),(5,0)] mix c ⟨Ncl c (kN (Xu hx6)) tt call91,Ncl c (fun hg=>Xu (iteT (gcT hg) hx7)) tt call91,tt⟩ fun _ _ c=>?_)
 exact rE
 refine S0 (P0 [] c fun _ c=>Bd h fun rl2 hit2 h=>?_)
 have hk2:=h
 refine Jr (fun s  (_:Unit)=>([(3,B b1 0),(7,.bool ((decide (p0.B ≥ 0)) && (decide (p0.B ≤ p2)))),(37,I p0.Op),(61,.bool s)],id,[])) hit2 c (fun h=>?_) fun s2r _ _ _ hrl c=>?_
 refine I0 c h (fun h=>?_) fun h=>?_
 refine K0 (⟨_,(),(sk h),c.rk [0] []⟩)
 refine P0 [] c fun _ c=>I0 c h (fun h=>?_) fun h=>?_
 refine K0 (⟨_,(),(sk h),c.rk [0] []⟩)
 refine P0 [] c fun _ c=>Mp (p0.Op == 6) [(61,.bool (p0.Op == 6))] [(61,.bool (p0.Op == 13))] [(61,.bool ((p0.Op == 6) || (p0.Op == 13)))] [61,65] c fun _ c=>⟨_,(),(sk h),c.rk [0] []⟩
 subst hrl
 refine I0 c h (fun h=>?_) fun h=>?_
 refine Bd h fun x8 hx8 h=>S0 (rZ [(2,.eq (.bool x8))] [(1,0),(5,0)] mix c ⟨Ncl c (kN (Xu hx8)) tt call91,tt⟩ fun _ _ c=>?_)
 exact rE
 refine S0 (P0 [] c fun _ c=>Mp (p0.Op == 9) [(74,.bool (p0.Op == 9))] [(74,.bool (p0.Op == 11))] [(74,.bool ((p0.Op == 9) || (p0.Op == 11)))] [74,76] c fun _ c=>I0 c h (fun h=>?_) fun h=>?_)
 refine S0 (Ry [(1,0)] mix c fun _ _ c=>?_)
 exact rE
 refine P0 [] c fun _ c=>I0 c h (fun h=>?_) fun h=>?_
 refine Bd h fun x9 hx9 h=>S0 (rZ [(2,.eq (.bool x9))] [(1,0)] mix c ⟨Ncl c (kN (Xu hx9)) tt call91,tt⟩ fun _ _ c=>?_)
 exact rE
 refine S0 (P0 [] c fun _ c=>Mp (p0.Op == 12) [(91,.bool (p0.Op == 12))] [(91,.bool (p0.Op == 14))] [(91,.bool ((p0.Op == 12) || (p0.Op == 14)))] [91,93] c fun _ c=>I0 c h (fun h=>?_) fun h=>K1 (bk (tn (P0 [] c fun _ c=>rE))))
 refine S0 (Ry [(1,0),(5,0)] mix c fun _ _ c=>?_)
 exact rE
theorem Zdy {p0 r} (h:Zad n p0 = some r):C0 59 [gV p0 ga0 gc1] [lR ga0 p0.Code gc1] (.bool r):=by
 unfold Zad at h
 refine En func59 rfl ntmps59 fun _ fr w c=>?_
 refine T0 (Ebx (gC p0 ga0 gc1) c fun b1 _ _ c=>?_)
 refine Fp [] 1 c fun _ c=>E0 (S0 (Bd h fun x1 hx1 h=>Bd h fun x2 hx2 h=>S0 (rZ [(5,.eq (.bool x1)),(22,.eq (.bool x2))] [(1,0),(3,0),(9,0),(14,0),(19,0),(21,0)] mix c ⟨Ncl c (kN (Zes hx1)) tt call78,Ncl c (fun hg=>ZT (iteF (gcF hg) hx2)) tt call79,tt⟩ fun _ _ c=>I0 c h (fun h=>?_) fun h=>?_)))
 exact P0 [] c fun _ c=>rE
 refine K0 (S0 (S0 (Ry [(1,0),(5,0)] mix c fun _ _ c=>I0 c h (fun h=>?_) fun h=>?_)))
 exact P0 [] c fun _ c=>rE
 refine K0 (S0 (P0 [(1,0)] c fun _ c=>Bd h fun rl1 hit1 h=>?_))
 have hk1:=h
 refine LpR (fun s1  (_:Unit)=>([(1,B b1 0),(39,L ga0 p0.Code gc1),(40,I (len p0.Code)),(41,I s1)],id,[])) (fun s  (_:Unit)=>([],id,[])) hit1 c () (c.rk [0] [0]) (fun s1 q1 _ _ _ c h hr1=>?_) fun s1r _ _ _ hrl c=>?_
 refine P0 [] c fun _ c=>S0 (I0 c h (fun h=>?_) fun h=>?_)
 refine K0 (S0 (wp_block (T0 (Bd h fun x3 hx3 h=>Eel c (.f 0) hx3 fun _ _ c=>?_))))
 refine Eal [I 0,I 0,I 0,I 0] c fun b2 _ _ c=>?_
 refine Ess 1 (nC x3) c fun _ c=>?_
 refine E0 (T0 (Fp [(0,1),(2,0),(4,0)] 6 c fun _ c=>Bd h fun x4 hx4 h=>Cb c (Zfk hx4) tt call80 fun _ _ _ c=>?_))
 refine Fp [] 1 c fun _ c=>E0 (I0 c h (fun h=>?_) fun h=>?_)
 refine P0 [] c fun _ c=>?_
 obtain rfl:=hr1 _ (sk h)
 obtain rfl:=sj hk1
 exact wp_ret (br (tr (tr (br (tr (Rt c () [] []))))))
 refine K1 (bk (tn (P1 [] c fun _ c=>Nx h () (c.rk [0] [0]))))
 refine wp_exit (te (te (be ?_)))
 obtain rfl:=hr1 _ (sk h)
 exact tn ⟨_,(),rfl,c.rk [0] [0]⟩
 subst hrl
 exact P0 [] c fun _ c=>rE
theorem Zco {p0 p1 r} (h:XG p0 p1 = some r):C0 60 [gV p0 ga0 gc1,I p1] [lR ga0 p0.Code gc1] (.bool r):=by
 unfold XG at h
 refine En func60 rfl ntmps60 fun _ fr w c=>?_
 refine T0 (Ebx (gC p0 ga0 gc1) c fun b1 _ _ c=>?_)
 refine Fp [] 1 c fun _ c=>E0 (S0 (Ry [(5,0)] mix c fun _ _ c=>?_))
 exact rE
theorem Ze7 {p0 r} (h:Zbe p0 = some r):C0 61 [I p0] [] (.bool r):=by
 unfold Zbe at h
 refine En func61 rfl ntmps61 fun _ fr w c=>?_
 refine P0 [] c fun _ c=>S0 (Ry [] mix c fun _ _ c=>?_)
 exact rE
theorem Zej {p0 r} (h:ZaM n p0 = some r):C0 62 [L ga0 p0 gc1] [lR ga0 p0 gc1] (.bool r):=by
 unfold ZaM at h
 refine En func62 rfl ntmps62 fun _ fr w c=>?_
 refine P0 [] c fun _ c=>S0 (P0 [] c fun _ c=>Bd h fun rl1 hit1 h=>?_)
 have hk1:=h
 refine LpR (fun s1  (_:Unit)=>([(5,L ga0 p0 gc1),(6,I (len p0)),(7,I s1)],id,[])) (fun s  (_:Unit)=>([],id,[])) hit1 c () (c.rk [] [0]) (fun s1 q1 _ _ _ c h hr1=>?_) fun s1r _ _ _ hrl c=>?_
 refine P0 [] c fun _ c=>S0 (I0 c h (fun h=>?_) fun h=>?_)
 refine K0 (S0 (wp_block (T0 (Bd h fun x1 hx1 h=>Eel c (.f 0) hx1 fun _ _ c=>?_))))
 refine Fp [] 1 c fun _ c=>E0 (S0 (Ry [] mix c fun _ _ c=>I0 c h (fun h=>?_) fun h=>?_))
 refine P0 [] c fun _ c=>?_
 obtain rfl:=hr1 _ (sk h)
 obtain rfl:=sj hk1
 exact wp_ret (br (tr (tr (br (tr (Rt c () [] []))))))
 refine K1 (bk (tn (P1 [] c fun _ c=>Nx h () (c.rk [] [0]))))
 refine wp_exit (te (te (be ?_)))
 obtain rfl:=hr1 _ (sk h)
 exact tn ⟨_,(),rfl,c.rk [] [0]⟩
 subst hrl
 exact P0 [] c fun _ c=>rE
theorem ZdS {p0 r} (h:YG p0 = some r):C0 102 [I p0] [] (I r):=by
 unfold YG at h
 refine En func102 rfl ntmps102 fun _ fr w c=>?_
 refine P0 [] c fun _ c=>S0 (wp_block (S0 (Ry [] mix c fun _ _ c=>I0 c h (fun h=>?_) fun h=>?_)))
 exact P0 [] c fun _ c=>rE
 refine S0 (Ry [] mix c fun _ _ c=>I0 c h (fun h=>?_) fun h=>?_)
 exact P0 [] c fun _ c=>rE
 refine S0 (Ry [] mix c fun _ _ c=>I0 c h (fun h=>?_) fun h=>?_)
 exact P0 [] c fun _ c=>rE
 exact P0 [] c fun _ c=>I0 c h (fun h=>P0 [] c fun _ c=>rE) fun h=>K1 (bk (tn (P0 [] c fun _ c=>rE)))
end Go.Proofs.YtlkojmondogmlaaGreatDoor
