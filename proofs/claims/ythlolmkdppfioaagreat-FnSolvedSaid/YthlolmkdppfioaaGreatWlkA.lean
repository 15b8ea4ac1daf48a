/- The walks, printed by a program. -/
import Derived.Test.YthlolmkdppfioaaGreatLib3
import Derived.Test.YthlolmkdppfioaaGreatLib4
import Derived.Test.YthlolmkdppfioaaGreatLib2
import Derived.Test.YthlolmkdppfioaaGreatDefs
import Derived.Test.YthlolmkdppfioaaGreatProg
import Derived.KernelRfl
import Derived.DeepKeys4
import Derived.Test.YthlolmkdppfioaaGreatShelf
import Derived.Lib.Strings
set_option linter.unusedVariables false
set_option linter.unusedSimpArgs false
set_option maxRecDepth 100000
set_option maxHeartbeats 40000000
namespace Go.Proofs.YthlolmkdppfioaaGreat
open Go.GL Go.Maps Go.WideMaps Tryz
abbrev C0 (f:FuncId) (a:List Value) (F:List RF) (v:Value):=Con prog f a [] F fun (_:Unit)=>([v],[],[])
abbrev Ct (f:FuncId) (a:List Value) (F:List RF) (r:D.Term):=Con prog f a [] F fun (i:Oh)=>([tV r i.1 i.2],[],[lR i.1 r.Kids i.2])
abbrev Cl {α:Type} [Rep α] (f:FuncId) (a:List Value) (F:List RF) (r:List α):=Con prog f a [] F fun (i:Oh)=>([L i.1 r i.2],[],[lR i.1 r i.2])
variable {n:Nat} {ga0 ga1 ga2 ga3 ga5 ga7:Option Addr} {gc1 gc2 gc3 gc4 gc6 gc8:Nat}
theorem mix:prog.follows .mixedOrders = true:=by kernel_rfl
abbrev sl27:Value → List Hd → HP:=SL 27
abbrev sl3:Value → List Int → HP:=SL 3
abbrev sl4:Value → List Bool → HP:=SL 4
abbrev sl45:Value → List D.Value → HP:=SL 45
abbrev sl5:Value → List Byt → HP:=SL 5
abbrev sl84:Value → List D.Gate → HP:=SL 84
theorem Zc4 {q:D.Term} {w:World} {F:Nat → Prop} {cs:List Value} (h:Rep.ok w F cs q):cs[1]? = some (I q.W):=Zkb h
theorem ZhD {q:D.Value} {w:World} {F:Nat → Prop} {cs:List Value} (h:Rep.ok w F cs q):cs[0]? = some (Str.val q.Name):=ZjH h
theorem Zdw {q:D.Value} {w:World} {F:Nat → Prop} {cs:List Value} (h:Rep.ok w F cs q):cs[1]? = some (I q.W):=Zjg h
theorem Zdo {q:D.Value} {w:World} {F:Nat → Prop} {cs:List Value} (h:Rep.ok w F cs q):cs[2]? = some (I q.N):=Zjl h
noncomputable abbrev map69:MapT prog 9 27 Str Hd:=mapSV _ 9 27 (⟨none,0,0⟩ : Hd) Tryz.underlying9 (ZlP (by kernel_rfl))
theorem laidOut:laidOutB prog = true:=by kernel_rfl
theorem keyed84:Keyed prog 84:=Keyed.of_law (deep_law_laid laidOut (m:=3) (by omega) (of_decide_eq_true (by kernel_rfl)) (by kernel_rfl) (by kernel_rfl))
theorem lits3 (n:Nat) {a:Int} (h:(Lit.int .i64 a).wf = true):prog.keyLits (n + 1) 3 [.int .i64 a] = some [.int .i64 a]:=by
  unfold Program.keyLits
  rw [Tryz.underlying3]
  simp [h]
theorem lits84 (n:Nat) (x:D.Gate) (hA:(Lit.int .i64 x.A).wf = true) (hB:(Lit.int .i64 x.B).wf = true):prog.keyLits (n + 1 + 1) 84 [.int .i64 x.A,.int .i64 x.B] = some [.int .i64 x.A,.int .i64 x.B]:=by
  have hc:prog.cellsOf 84 = 2:=by kernel_rfl
  have hc3:prog.cellsOf 3 = 1:=by kernel_rfl
  unfold Program.keyLits
  rw [Tryz.underlying84]
  simp [hc,hc3,lits3 n hA,lits3 n hB]
theorem key84 (x:D.Gate) (hA:(Lit.int .i64 x.A).wf = true) (hB:(Lit.int .i64 x.B).wf = true):keyOf prog 84 (.agg #[.int .i64 x.A,.int .i64 x.B]) = some (.string (keyBytes [.int .i64 x.A,.int .i64 x.B])):=by
  have h1:prog.keyType 84 = true:=by kernel_rfl
  have h2:∀ x:D.Gate,(Value.agg #[.int .i64 x.A,.int .i64 x.B]).formed prog 84 = true:=by intro x; kernel_rfl
  obtain ⟨n,hs⟩ : ∃ n,prog.types.size = n + 1:=⟨prog.types.size - 1,(Nat.succ_pred_eq_of_pos (of_decide_eq_true (by kernel_rfl))).symm⟩
  have hl:=lits84 n x hA hB
  unfold keyOf
  rw [Tryz.underlying84]
  simp only [h1,h2,ZqK,ZnV,hs,Value.cells]
  rw [hl]; rfl
theorem back3 (v:Value) (y:Int) (ps:List MemPlace) (h:plainElem (H:=Value) prog 3 v = some (.lit (.int .i64 y),ps)):v = .int .i64 y:=by
  obtain ⟨c,rfl,hc,_⟩:=plainElem_int_inv Tryz.underlying3 h
  simp only [Prod.mk.injEq,DataW.lit.injEq,Lit.int.injEq] at hc
  rw [hc.1.2]
noncomputable def map73:MapT prog 84 3 D.Gate Int where
  fit:=Z6
  lit x:=.string (keyBytes [.int .i64 x.A,.int .i64 x.B])
  dv y:=.lit (.int .i64 y)
  zero:=0
  efit:=fitZ
  zfit:=by kernel_rfl
  keyed:=keyed84
  key x h:=by
    simp only [Z6,fitZ,ZnB] at h
    exact key84 x h.1 h.2
  inj x y hx hy h:=by
    simp only [Z6,fitZ,ZnB] at hx hy
    have h1:=key84 x hx.1 hx.2
    have h2:=key84 y hy.1 hy.2
    rw [← h] at h2
    have h3:=keyed84.inj h1 h2
    cases x; cases y
    simpa using h3
  elem y h:=plainElem_int Tryz.underlying3 (by simpa [fitZ] using h)
  back v y ps h:=back3 v y ps h
  hz w:=by
    show (zeroValue 3).run prog w = .ok (.int .i64 0) w
    have hz:(prog.info? 3).map (·.zero) = some (some (.int .i64 0)):=by kernel_rfl
    cases hi:prog.info? 3 with
    | none=>rw [hi] at hz; cases hz
    | some i =>
      rw [hi] at hz
      simp only [ZnM,Option.some.injEq] at hz
      simp [zeroValue,typeInfo,hi,hz]
theorem back4 (v:Value) (y:Bool) (ps:List MemPlace) (h:plainElem (H:=Value) prog 4 v = some (.lit (.bool y),ps)):v = .bool y:=by
  unfold plainElem at h
  rw [Tryz.underlying4] at h
  split at h <;> simp_all
noncomputable def map82:MapT prog 84 4 D.Gate Bool where
  fit:=Z6
  lit x:=.string (keyBytes [.int .i64 x.A,.int .i64 x.B])
  dv y:=.lit (.bool y)
  zero:=false
  efit:=fun _=>true
  zfit:=by kernel_rfl
  keyed:=keyed84
  key x h:=by
    simp only [Z6,fitZ,ZnB] at h
    exact key84 x h.1 h.2
  inj x y hx hy h:=by
    simp only [Z6,fitZ,ZnB] at hx hy
    have h1:=key84 x hx.1 hx.2
    have h2:=key84 y hy.1 hy.2
    rw [← h] at h2
    have h3:=keyed84.inj h1 h2
    cases x; cases y
    simpa using h3
  elem y _:=plainElem_bool Tryz.underlying4 y
  back v y ps h:=back4 v y ps h
  hz w:=by
    show (zeroValue 4).run prog w = .ok (.bool false) w
    have hz:(prog.info? 4).map (·.zero) = some (some (.bool false)):=by kernel_rfl
    cases hi:prog.info? 4 with
    | none=>rw [hi] at hz; cases hz
    | some i =>
      rw [hi] at hz
      simp only [ZnM,Option.some.injEq] at hz
      simp [zeroValue,typeInfo,hi,hz]
noncomputable abbrev map107:MapT prog 9 3 Str Int:=mapSI _ 9 3 Tryz.underlying9 Tryz.underlying3 (by kernel_rfl)
theorem Zei {p0 r} (h:Zal n p0 = some r):Con prog 59 [L ga0 p0 gc1] [] [lR ga0 p0 gc1] fun (i:Nat × Oh)=>([B i.1 0],[BX i.1 102 [L i.2.1 r.b i.q2,I r.i,I r.h]],[lR i.2.1 r.b i.q2]):=by
 unfold Zal at h
 refine En func59 rfl ntmps59 fun _ fr w c=>?_
 refine P0 [] c fun _ c=>P0 [] c fun _ c=>S0 (P0 [] c fun _ c=>Bd h fun rl1 hit1 h=>Lp (fun s1  (_:Unit)=>([(0,L ga0 p0 gc1),(3,I s1.1),(4,I s1.2)],id,[])) (fun  (_:Unit)=>([(0,L ga0 p0 gc1),(3,I rl1)],id,[])) hit1 c () (c.rk [] [0]) (fun s1 q1 _ _ _ c h hr1=>?_) fun _ _ _ c=>?_)
 refine S0 (S0 (Ry [] mix c fun _ _ c=>I0 c h (fun h=>?_) fun h=>?_))
 refine K0 (S0 (wp_block (T1 (Fp [] 4 c fun _ c=>Bd h fun x1 hx1 h=>Eel c (.f 0) hx1 fun _ _ c=>?_))))
 refine Fp [] 5 c fun _ c=>E1 (bk (tn (P1 [] c fun _ c=>Nx h () (c.rk [] [0]))))
 refine wp_exit (te (te (be ?_)))
 obtain rfl:=hr1 _ (sk h)
 exact tn ⟨(),c.rk [] [0]⟩
 refine T0 (Fp [] 3 c fun _ c=>Ebx [L ga0 p0 gc1,I 0,I rl1] c fun b1 _ _ c=>?_)
 refine Fp [] 1 c fun _ c=>E0 ?_
 cases h
 exact wp_ret (Rt c (b1,ga0,gc1) [0] [0])
theorem ZeQ {p0 p1 r} (h:ZaH n p0 p1 = some r):Con prog 23 [L ga0 p0 gc1,I p1] [] [lR ga0 p0 gc1] fun (i:Nat × Oh)=>([B i.1 0],[BX i.1 102 [L i.2.1 r.b i.q2,I r.i,I r.h]],[lR i.2.1 r.b i.q2]):=by
 unfold ZaH at h
 refine En func23 rfl ntmps23 fun _ fr w c=>?_
 refine P0 [] c fun _ c=>T0 (Fp [] 1 c fun _ c=>Bd h fun x1 hx1 h=>Cg c (Zei hx1) ⟨.f 0,tt⟩ call59 fun i1 _ _ c=>?_)
 refine Fp [] 1 c fun _ c=>E0 (T0 (Fp [] 7 c fun _ c=>Esb 0 1 (I (imin p1 (len p0))) c fun _ c=>?_))
 refine E0 (T0 (Fp [(4,0)] 13 c fun _ c=>Esb 0 2 (I (band (w64 ((w64 ((w64 (x1.h * 31)) + (w64 (p1 * 7919)))) + 1)) 1073741823)) c fun _ c=>?_))
 refine E0 (P0 [] c fun _ c=>?_)
 cases h
 exact wp_ret (Rt c (i1.1,i1.2.1,i1.q2) [0] [1])
theorem ZdC {p0 gb0 r} (h:Zaa p0 = some r):Con prog 70 [B gb0 0] [BX gb0 102 [L ga1 p0.b gc2,I p0.i,I p0.h]] [lR ga1 p0.b gc2] fun (_:Unit)=>([I r.1],[BX gb0 102 [L ga1 p0.b gc2,I r.2.i,I r.2.h]],[]):=by
 unfold Zaa at h
 refine En func70 rfl ntmps70 fun _ fr w c=>?_
 refine P0 [] c fun _ c=>T0 (Fp [(4,0)] 9 c fun _ c=>Esb 0 2 (I (w64 ((w64 (p0.h * 6364136223846793005)) + 1442695040888963407))) c fun _ c=>?_)
 refine E0 (Bd h fun x1 hx1 h=>Bd h fun x2 hx2 h=>S0 (rZ [(4,.eq (I x1)),(9,.eq (I x2))] [(3,0),(8,0)] mix c ⟨Nshr c (kN hx1),Nshr c (kN hx2),tt⟩ fun _ _ c=>S0 (S0 (Ry [(3,0),(7,0)] mix c fun _ _ c=>I0 c h (fun h=>?_) fun h=>?_))))
 refine Bd h fun x3 hx3 h=>S0 (rZ [(9,Pd.el (x3:Byt)),(10,.eq (.int .u8 x3.n))] [(4,0),(8,0)] mix c ⟨Nid c (.f 0) (kN hx3),Nld c 9 (q:=x3) (atN 9),tt⟩ fun _ _ c=>T1 (Fp [(4,0)] 8 c fun _ c=>Esb 0 1 (I (w64 (p0.i + 1))) c fun _ c=>?_))
 refine E0 (P0 [] c fun _ c=>?_)
 cases h
 exact wp_ret (Rt c () [0] [])
 refine K0 (P0 [] c fun _ c=>?_)
 cases h
 exact wp_ret (Rt c () [0] [])
theorem Zq {p0 p1 gb0 r} (h:Zn p0 p1 = some r):Con prog 44 [B gb0 0,I p1] [BX gb0 102 [L ga1 p0.b gc2,I p0.i,I p0.h]] [lR ga1 p0.b gc2] fun (_:Unit)=>([I r.1],[BX gb0 102 [L ga1 p0.b gc2,I r.2.i,I r.2.h]],[]):=by
 unfold Zn at h
 refine En func44 rfl ntmps44 fun _ fr w c=>?_
 refine P0 [] c fun _ c=>S0 (P0 [] c fun _ c=>I0 c h (fun h=>?_) fun h=>?_)
 refine P0 [] c fun _ c=>?_
 cases h
 exact wp_ret (tr (Rt c () [0] []))
 refine K0 (T0 (Fp [] 1 c fun _ c=>Bd h fun x1 hx1 h=>Ca [0] c (ZdC hx1) ⟨.f 0,tt⟩ call70 fun _ _ _ c=>?_))
 refine Fp [] 1 c fun _ c=>Bd h fun x2 hx2 h=>Erem c hx2 fun _ c=>?_
 refine Fp [] 1 c fun _ c=>E0 ?_
 cases h
 exact wp_ret (Rt c () [0] [])
theorem Y2 {p0 p1 gb0 r} (h:Yb p0 p1 = some r):Con prog 55 [B gb0 0,I p1] [BX gb0 102 [L ga1 p0.b gc2,I p0.i,I p0.h]] [lR ga1 p0.b gc2] fun (_:Unit)=>([.bool r.1],[BX gb0 102 [L ga1 p0.b gc2,I r.2.i,I r.2.h]],[]):=by
 unfold Yb at h
 refine En func55 rfl ntmps55 fun _ fr w c=>?_
 refine P0 [] c fun _ c=>T0 (Fp [] 2 c fun _ c=>Bd h fun x1 hx1 h=>Ca [0] c (Zq hx1) ⟨.f 0,tt⟩ call44 fun _ _ _ c=>?_)
 refine Fp [] 2 c fun _ c=>E0 ?_
 cases h
 exact wp_ret (Rt c () [0] [])
theorem Zb1 {p0 p1 gb0 r} (h:Xa p0 p1 = some r):Con prog 57 [B gb0 0,L ga3 p1 gc4] [BX gb0 102 [L ga1 p0.b gc2,I p0.i,I p0.h]] [lR ga1 p0.b gc2,lR ga3 p1 gc4] fun (_:Unit)=>([I r.1],[BX gb0 102 [L ga1 p0.b gc2,I r.2.i,I r.2.h]],[]):=by
 unfold Xa at h
 refine En func57 rfl ntmps57 fun _ fr w c=>?_
 refine P0 [] c fun _ c=>T0 (Fp [] 4 c fun _ c=>Bd h fun x1 hx1 h=>Ca [0] c (Zq hx1) ⟨.f 0,tt⟩ call44 fun _ _ _ c=>?_)
 refine Bd h fun x2 hx2 h=>Eel c (.f 1) hx2 fun _ _ c=>?_
 refine Fp [] 1 c fun _ c=>E0 ?_
 cases h
 exact wp_ret (Rt c () [0] [])
theorem Zba {p0 p1 r} (h:YO p0 p1 = some r):Con prog 56 [I p0,I p1] [] [] fun (_:Unit)=>([.agg #[I r.Op,I r.W,I r.N,Str.val r.Name,L0]],[],[]):=by
 unfold YO at h
 refine En func56 rfl ntmps56 fun _ fr w c=>?_
 refine T0 (Eal tZ c fun b1 _ _ c=>?_)
 refine E0 (T0 (Fp [] 3 c fun _ c=>Ess 0 [I 0,I p0,I p1,Str.val ⟨[]⟩,L0] c fun _ c=>?_))
 refine E0 ?_
 cases h
 exact wp_ret (Rg c () [] [] (.cell (α:=Agg 4) kk (.b 0) .nil))
theorem Zex {p0 p1 gb0 r} (h:ZaO p0 p1 = some r):Con prog 99 [B gb0 0,L ga3 p1 gc4] [BX gb0 102 [L ga1 p0.b gc2,I p0.i,I p0.h]] [lR ga1 p0.b gc2,lR ga3 p1 gc4] fun (_:Unit)=>([Str.val r.1],[BX gb0 102 [L ga1 p0.b gc2,I r.2.i,I r.2.h]],[]):=by
 unfold ZaO at h
 refine En func99 rfl ntmps99 fun _ fr w c=>?_
 refine P0 [] c fun _ c=>T0 (Fp [] 4 c fun _ c=>Bd h fun x1 hx1 h=>Ca [0] c (Zq hx1) ⟨.f 0,tt⟩ call44 fun _ _ _ c=>?_)
 refine Bd h fun x2 hx2 h=>Eel c (.f 1) hx2 fun _ _ c=>?_
 refine Fp [] 1 c fun _ c=>E0 ?_
 cases h
 exact wp_ret (Rt c () [0] [])
theorem Zdf {n:Nat}:∀ {p0 r} (h:YE n p0 = some r),C0 100 [I p0] [] (Str.val r):=by
 induction n with
 | zero=>intro p0 r h; simp [YE] at h
 | succ n ih=>
 intro p0 r h
 rw [YE] at h
 refine En func100 rfl ntmps100 fun _ fr w c=>?_
 refine P0 [] c fun _ c=>S0 (P0 [] c fun _ c=>I0 c h (fun h=>?_) fun h=>?_)
 refine S0 (T0 (Fp [] 1 c fun _ c=>Bd h fun x1 hx1 h=>Equo c hx1 fun _ c=>?_))
 refine Fp [] 1 c fun _ c=>E0 (I0 c h (fun h=>?_) fun h=>?_)
 refine T0 (Fp [] 3 c fun _ c=>Elt 5 ([(Byt.mk (IntKind.u8.wrap (w64 (48 - p0))))]:List Byt) c fun a1 c1 _ _ c=>?_)
 refine Ebs c (.g 0) (fun _ c=>?_) Tryz.underlying22
 refine Bd h fun x2 hx2 h=>Ecat c hx2 fun _ c=>?_
 exact Fp [] 1 c fun _ c=>E0 rE
 refine K0 (Bd h fun x3 hx3 h=>Bd h fun x4 hx4 h=>Bd h fun x5 hx5 h=>Bd h fun x6 hx6 h=>S0 (Jn (fun _:Unit=>([(2,Str.val x6)],id,[])) c ?_ fun _ _ _ c=>?_))
 refine As mix c fun _ c=>?_
 replace c:=Cx.frs [(0,I p0)] c
 refine Dq (fun _:Unit=>([(24,Str.val x6)],id,[])) (bN 11 1023) (fun _=>[(10,2,Str.val x6)]) c (fun _=>?_) fun hd12=>?_
 refine qnE ⟨qP [],tt⟩ fun _ _ c=>?_
 exact nN () (c.rk [] [])
 refine Dq (fun _:Unit=>([(17,Str.val x4),(23,Str.val (strOf ([(Byt.mk (IntKind.u8.wrap (w64 (48 - x5))))]:List Byt)))],id,[])) (bN 11 511) (fun _=>[]) c (fun _=>?_) fun hd11=>?_
 refine qn [9] tt ⟨fun _ _ c=>?_,tt⟩
 refine ZM _ rfl rfl ?_
 refine Ecat c hx6 fun _ c=>?_
 refine E0 (nQ hd12 () (c.rk [] []))
 refine Dq (fun i:Oh=>([(17,Str.val x4),(22,L i.1 ([(Byt.mk (IntKind.u8.wrap (w64 (48 - x5))))]:List Byt) i.2)],fun Γ=>Γ ++ [sl5 (L i.1 ([(Byt.mk (IntKind.u8.wrap (w64 (48 - x5))))]:List Byt) i.2) ([(Byt.mk (IntKind.u8.wrap (w64 (48 - x5))))]:List Byt)],[])) (bN 11 255) (fun i=>[]) c (fun i3=>?_) fun hd9=>?_
 obtain ⟨a7,c7⟩:=i3
 refine qn [8] tt ⟨fun _ _ c=>?_,tt⟩
 refine ZM _ rfl rfl ?_
 refine Ebs c (.g 0) (fun _ c=>?_) Tryz.underlying22
 refine E0 (nQ hd11 () (c.rk [] []))
 refine Dq (fun _:Unit=>([(16,I x3),(23,Str.val (strOf ([(Byt.mk (IntKind.u8.wrap (w64 (48 - x5))))]:List Byt)))],id,[])) (bN 11 507) (fun _=>[]) c (fun _=>?_) fun hd10=>?_
 refine qn [2] tt ⟨fun _ _ c=>?_,tt⟩
 refine ZM _ rfl rfl ?_
 refine Cb c (ih hx4) tt call100 fun _ _ _ c=>?_
 refine E0 (nQ hd11 () (c.rk [] []))
 refine Dq (fun _:Unit=>([(17,Str.val x4),(19,I x5)],id,[])) (bN 11 31) (fun _=>[(5,20,I (w64 (48 - x5))),(6,21,.int .u8 (IntKind.u8.wrap (w64 (48 - x5))))]) c (fun _=>?_) fun hd6=>?_
 refine qn [7] ⟨qP [],qP [],tt⟩ ⟨fun _ _ c=>?_,tt⟩
 refine ZM _ rfl rfl ?_
 refine Elt 5 ([(Byt.mk (IntKind.u8.wrap (w64 (48 - x5))))]:List Byt) c fun a6 c6 _ _ c=>?_
 refine E0 (nQ hd9 (a6,c6) (c.rk [0] []))
 refine Dq (fun i:Oh=>([(16,I x3),(22,L i.1 ([(Byt.mk (IntKind.u8.wrap (w64 (48 - x5))))]:List Byt) i.2)],fun Γ=>Γ ++ [sl5 (L i.1 ([(Byt.mk (IntKind.u8.wrap (w64 (48 - x5))))]:List Byt) i.2) ([(Byt.mk (IntKind.u8.wrap (w64 (48 - x5))))]:List Byt)],[])) (bN 11 251) (fun i=>[]) c (fun i2=>?_) fun hd7=>?_
 obtain ⟨a5,c5⟩:=i2
 refine qn [2,8] tt ⟨fun _ _ c=>?_,fun _ _ c=>?_,tt⟩
 refine ZM _ rfl rfl ?_
 refine Cb c (ih hx4) tt call100 fun _ _ _ c=>?_
 refine E0 (nQ hd9 (a5,c5) (c.rk [0] []))
 refine ZM _ rfl rfl ?_
 refine Ebs c (.g 0) (fun _ c=>?_) Tryz.underlying22
 refine E0 (nQ hd10 () (c.rk [] []))
 refine Dq (fun _:Unit=>([(0,I p0),(23,Str.val (strOf ([(Byt.mk (IntKind.u8.wrap (w64 (48 - x5))))]:List Byt)))],id,[])) (bN 11 504) (fun _=>[(0,15,I p0)]) c (fun _=>?_) fun hd8=>?_
 refine qn [1] ⟨qP [],tt⟩ ⟨fun _ _ c=>?_,tt⟩
 refine ZM _ rfl rfl ?_
 refine Equo c hx3 fun _ c=>?_
 refine E0 (nQ hd10 () (c.rk [] []))
 refine Dq (fun _:Unit=>([(0,I p0),(17,Str.val x4)],id,[])) (bN 11 7) (fun _=>[(3,18,I p0)]) c (fun _=>?_) fun hd3=>?_
 refine qn [4] ⟨qP [],tt⟩ ⟨fun _ _ c=>?_,tt⟩
 refine ZM _ rfl rfl ?_
 refine Erem c hx5 fun _ c=>?_
 refine E0 (nQ hd6 () (c.rk [] []))
 refine Dq (fun _:Unit=>([(16,I x3),(19,I x5)],id,[])) (bN 11 27) (fun _=>[(5,20,I (w64 (48 - x5))),(6,21,.int .u8 (IntKind.u8.wrap (w64 (48 - x5))))]) c (fun _=>?_) fun hd4=>?_
 refine qn [2,7] ⟨qP [],qP [],tt⟩ ⟨fun _ _ c=>?_,fun _ _ c=>?_,tt⟩
 refine ZM _ rfl rfl ?_
 refine Cb c (ih hx4) tt call100 fun _ _ _ c=>?_
 refine E0 (nQ hd6 () (c.rk [] []))
 refine ZM _ rfl rfl ?_
 refine Elt 5 ([(Byt.mk (IntKind.u8.wrap (w64 (48 - x5))))]:List Byt) c fun a4 c4 _ _ c=>?_
 refine E0 (nQ hd7 (a4,c4) (c.rk [0] []))
 refine Dq (fun i:Oh=>([(0,I p0),(22,L i.1 ([(Byt.mk (IntKind.u8.wrap (w64 (48 - x5))))]:List Byt) i.2)],fun Γ=>Γ ++ [sl5 (L i.1 ([(Byt.mk (IntKind.u8.wrap (w64 (48 - x5))))]:List Byt) i.2) ([(Byt.mk (IntKind.u8.wrap (w64 (48 - x5))))]:List Byt)],[])) (bN 11 248) (fun i=>[(0,15,I p0)]) c (fun i1=>?_) fun hd5=>?_
 obtain ⟨a3,c3⟩:=i1
 refine qn [1,8] ⟨qP [],tt⟩ ⟨fun _ _ c=>?_,fun _ _ c=>?_,tt⟩
 refine ZM _ rfl rfl ?_
 refine Equo c hx3 fun _ c=>?_
 refine E0 (nQ hd7 (a3,c3) (c.rk [0] []))
 refine ZM _ rfl rfl ?_
 refine Ebs c (.g 0) (fun _ c=>?_) Tryz.underlying22
 refine E0 (nQ hd8 () (c.rk [] []))
 refine Dq (fun _:Unit=>([(0,I p0),(16,I x3)],id,[])) (bN 11 3) (fun _=>[(3,18,I p0)]) c (fun _=>?_) fun hd1=>?_
 refine qn [2,4] ⟨qP [],tt⟩ ⟨fun _ _ c=>?_,fun _ _ c=>?_,tt⟩
 refine ZM _ rfl rfl ?_
 refine Cb c (ih hx4) tt call100 fun _ _ _ c=>?_
 refine E0 (nQ hd3 () (c.rk [] []))
 refine ZM _ rfl rfl ?_
 refine Erem c hx5 fun _ c=>?_
 refine E0 (nQ hd4 () (c.rk [] []))
 refine Dq (fun _:Unit=>([(0,I p0),(19,I x5)],id,[])) (bN 11 24) (fun _=>[(0,15,I p0),(5,20,I (w64 (48 - x5))),(6,21,.int .u8 (IntKind.u8.wrap (w64 (48 - x5))))]) c (fun _=>?_) fun hd2=>?_
 refine qn [1,7] ⟨qP [],qP [],qP [],tt⟩ ⟨fun _ _ c=>?_,fun _ _ c=>?_,tt⟩
 refine ZM _ rfl rfl ?_
 refine Equo c hx3 fun _ c=>?_
 refine E0 (nQ hd4 () (c.rk [] []))
 refine ZM _ rfl rfl ?_
 refine Elt 5 ([(Byt.mk (IntKind.u8.wrap (w64 (48 - x5))))]:List Byt) c fun a2 c2 _ _ c=>?_
 refine E0 (nQ hd5 (a2,c2) (c.rk [0] []))
 refine q0 (qs:=[(0,15,I p0),(3,18,I p0)]) c (qn [1,4] ⟨qP [],qP [],tt⟩ ⟨fun _ _ c=>?_,fun _ _ c=>?_,tt⟩)
 refine ZM _ rfl rfl ?_
 refine Equo c hx3 fun _ c=>?_
 refine E0 (nQ hd1 () (c.rk [] []))
 refine ZM _ rfl rfl ?_
 refine Erem c hx5 fun _ c=>?_
 refine E0 (nQ hd2 () (c.rk [] []))
 exact rE
 refine K0 (P0 [] c fun _ c=>Bd h fun rl1 hit1 h=>S0 (Lp (fun s1  (_:Unit)=>([(0,I s1.1),(3,Str.val s1.2)],id,[])) (fun  (_:Unit)=>([(0,I rl1.1),(3,Str.val rl1.2)],id,[])) hit1 c () (c.rk [] []) (fun s1 q1 _ _ _ c h hr1=>?_) fun _ _ _ c=>?_))
 refine S0 (P0 [] c fun _ c=>I0 c h (fun h=>?_) fun h=>?_)
 refine K0 (wp_block (T0 (Fp [] 1 c fun _ c=>Bd h fun x7 hx7 h=>Erem c hx7 fun _ c=>?_)))
 refine Fp [] 2 c fun _ c=>Elt 5 ([(Byt.mk (IntKind.u8.wrap (w64 (48 + x7))))]:List Byt) c fun a8 c8 _ _ c=>?_
 refine Ebs c (.g 0) (fun _ c=>?_) Tryz.underlying22
 refine Fp [] 1 c fun _ c=>Bd h fun x8 hx8 h=>Ecat c hx8 fun _ c=>?_
 refine Fp [] 1 c fun _ c=>E0 (T1 (Fp [] 1 c fun _ c=>Bd h fun x9 hx9 h=>Equo c hx9 fun _ c=>?_))
 refine Fp [] 1 c fun _ c=>E1 (bk (tn (Nx h () (c.rk [] []))))
 refine wp_exit (te (te (be ?_)))
 obtain rfl:=hr1 _ (sk h)
 exact tn ⟨(),c.rk [] []⟩
 refine T0 (Fp [] 3 c fun _ c=>Elt 5 ([(Byt.mk (IntKind.u8.wrap (w64 (48 + rl1.1))))]:List Byt) c fun a9 c9 _ _ c=>?_)
 refine Ebs c (.g 0) (fun _ c=>?_) Tryz.underlying22
 refine Fp [] 1 c fun _ c=>Bd h fun x10 hx10 h=>Ecat c hx10 fun _ c=>?_
 exact Fp [] 1 c fun _ c=>E0 rE
theorem XW {p0 p1 gb0 r} (h:YK n p0 p1 = some r):Con prog 58 [B gb0 0,I p1] [BX gb0 102 [L ga1 p0.b gc2,I p0.i,I p0.h]] [lR ga1 p0.b gc2] fun (i:Oh)=>([tV r.1 i.1 i.2],[OD (ownT 25) 25 (L i.1 r.1.Kids i.2) r.1.Kids,BX gb0 102 [L ga1 p0.b gc2,I r.2.i,I r.2.h]],[]):=by
 unfold YK at h
 refine En func58 rfl ntmps58 fun _ fr w c=>?_
 refine T0 (Eal tZ c fun b1 _ _ c=>?_)
 refine E0 (T0 (Fp [] 2 c fun _ c=>Elt 9 ([⟨[97]⟩,⟨[98]⟩,⟨[120]⟩]:List Str) c fun a1 c1 _ _ c=>?_))
 refine Bd h fun x1 hx1 h=>Ca [0] c (Zex hx1) ⟨.f 0,.g 1,tt⟩ call99 fun _ _ _ c=>?_
 refine Fp [] 1 c fun _ c=>Bd h fun x2 hx2 h=>Cb c (Zdf hx2) tt call100 fun _ _ _ c=>?_
 refine Bd h fun x3 hx3 h=>Ecat c hx3 fun _ c=>?_
 refine Fp [] 1 c fun _ c=>Ess 0 [I 22,I p1,I 0,Str.val x3,L0] c fun _ c=>?_
 refine E0 ?_
 replace c:=c.nilo (ownT 25) 25
 cases h
 exact wp_ret (Rg c (none,0) [3,2] [] (.cell (α:=Agg 4) kk (.b 0) .nil))
theorem Zv {p0 p1 p2 r} (h:Zl p0 p1 p2 = some r):C0 51 [I p0,I p1,I p2] [] (.bool r):=by
 unfold Zl at h
 refine En func51 rfl ntmps51 fun _ fr w c=>?_
 refine P0 [] c fun _ c=>S0 (Ry [] mix c fun _ _ c=>?_)
 exact rE
theorem ZdL {n:Nat}:∀ {p0 p1 p2 gb0 ga1 gc2 r} (h:Zk n p0 p1 p2 = some r),Con prog 22 [B gb0 0,I p1,I p2] [BX gb0 102 [L ga1 p0.b gc2,I p0.i,I p0.h]] [lR ga1 p0.b gc2] fun (i:Oh)=>([tV r.1 i.1 i.2],[BX gb0 102 [L ga1 p0.b gc2,I r.2.i,I r.2.h]],[lR i.1 r.1.Kids i.2]):=by
 induction n with
 | zero=>intro p0 p1 p2 gb0 ga1 gc2 r h; simp [Zk] at h
 | succ n ih=>
 intro p0 p1 p2 gb0 ga1 gc2 r h
 rw [Zk] at h
 refine En func22 rfl ntmps22 fun _ fr w c=>?_
 refine T0 (Eal tZ c fun b1 _ _ c=>?_)
 refine E0 (S0 (T0 (Fp [] 1 c fun _ c=>Fp [] 1 c fun _ c=>Fp [] 1 c fun _ c=>?_)))
 rcases Zcj (b:=(decide (p2 < 1))) h with ⟨hg1,h⟩ | ⟨hg1,h⟩
 replace c:=c.eqs (v:=.bool (decide (p2 < 1))) (u:=.bool true) 14 (by rw [hg1])
 refine Gs c fun _ c=>Gs c fun _ c=>Epk (b:=true) (v:=.bool true) c fun _ c=>E0 (I0 c h (fun h=>?_) fun h=>?_)
 refine S0 (T0 (Fp [] 1 c fun _ c=>Bd h fun x1 hx1 h=>Ca [0] c (Y2 hx1) ⟨.f 0,tt⟩ call55 fun _ _ _ c=>?_))
 refine E0 (I0 c h (fun h=>?_) fun h=>?_)
 refine S0 (Yj mix (Rh 2 ?_))
 refine Rh 1 ?_
 refine Rh 0 ?_
 refine Bd h fun x2 hx2 h=>Bd h fun x3 hx3 h=>Bd h fun x4 hx4 h=>Bd h fun x5 hx5 h=>Ar c fun _ c=>?_
 refine AtZ 6 [0,1,2,3,4,5,6,7,11,12,13] [(1,p1,x2),(1,p1,x2),(1,p1,x2)] ⟨hx2,hx2,hx2,tt⟩ [(6,B b1 0),(20,I p1),(21,B gb0 0),(24,I (w64 ((x2) - 1))),(25,B gb0 0),(27,I x2),(33,I (w64 ((x2) - 1)))] c fun _ c=>?_
 refine Xe (fuel:=5) [8] (by kernel_rfl) (by simp) ⟨?_,tt⟩
 refine ZM _ rfl rfl ?_
 refine Ca [1] c (Zq hx3) ⟨.f 0,tt⟩ call44 fun _ _ _ c=>?_
 refine E0 (Xe (fuel:=4) [9] (by kernel_rfl) (by simp) ⟨?_,tt⟩)
 refine ZM _ rfl rfl ?_
 refine Elt 3 ([0,1,(w64 ((x2) - 1)),x3.1]:List Int) c fun a1 c1 _ _ c=>?_
 refine E0 (Xe (fuel:=3) [10] (by kernel_rfl) (by simp) ⟨?_,tt⟩)
 refine ZM _ rfl rfl ?_
 refine Ca [1] c (Zb1 hx4) ⟨.f 0,.g 1,tt⟩ call57 fun _ _ _ c=>?_
 refine E0 (Xe (fuel:=2) [14] (by kernel_rfl) (by simp) ⟨?_,tt⟩)
 refine ZM _ rfl rfl ?_
 refine Fp [] 1 c fun _ c=>E0 (Xe (fuel:=1) [15] (by kernel_rfl) (by simp) ⟨?_,tt⟩)
 refine ZM _ rfl rfl ?_
 replace c:=c.nf
 refine Cb c (Zba hx5) tt call56 fun _ _ _ c=>?_
 refine E0 (Xe (fuel:=0) [16] (by kernel_rfl) (by simp) ⟨?_,tt⟩)
 refine ZM _ rfl rfl ?_
 refine Ess 0 [I x5.Op,I x5.W,I x5.N,Str.val x5.Name,L0] c fun _ c=>?_
 refine E0 (Zgh (by kernel_rfl) (tn ?_))
 cases h
 replace c:=c.nilf (α:=D.Term)
 exact wp_ret (tr (tr (Rg c (none,0) [2] [1] (.cell (α:=Agg 4) kk (.b 0) .nil))))
 refine K0 (T0 (Fp [] 2 c fun _ c=>Bd h fun x6 hx6 h=>Ca [1] c (XW hx6) ⟨.f 0,tt⟩ call58 fun i1 _ _ c=>?_))
 refine Ess 0 (tC x6.1 i1.1 i1.2) c fun _ c=>?_
 refine E0 ?_
 replace c:=c.fzo (ZfJ 25) 1
 cases h
 exact wp_ret (tr (Rg c (i1.1,i1.2) [1] [1] (.cell (α:=Agg 4) kk (.b 0) .nil)))
 refine K0 (T0 (Fp [] 1 c fun _ c=>Bd h fun x7 hx7 h=>Ca [0] c (Zq hx7) ⟨.f 0,tt⟩ call44 fun _ _ _ c=>?_))
 refine Fp [] 2 c fun _ c=>E0 (T0 (Fp [] 3 c fun _ c=>Eal tZ c fun b2 _ _ c=>?_))
 refine Ess 2 [I (w64 (1 + x7.1)),I p1,I 0,Str.val ⟨[]⟩,L0] c fun _ c=>?_
 refine E0 (S0 (wp_block (T0 (Fp [] 1 c fun _ c=>Bd h fun x8 hx8 h=>Cb c (Zv hx8) tt call51 fun _ _ _ c=>?_))))
 refine Fp [] 1 c fun _ c=>E0 (I0 c h (fun h=>?_) fun h=>?_)
 refine T0 (Fp [] 1 c fun _ c=>?_)
 replace c:=c.nf
 refine Bd h fun x9 hx9 h=>Ca [1] c (Zq hx9) ⟨.f 0,tt⟩ call44 fun _ _ _ c=>?_
 refine Fp [] 2 c fun _ c=>E0 (T0 (Fp [] 1 c fun _ c=>Esb 1 1 (I 1) c fun _ c=>?_))
 refine E0 (T0 (Fp [] 4 c fun _ c=>Bd h fun x10 hx10 h=>Cf [2] c (ih hx10) ⟨.f 0,tt⟩ call22 fun i2 _ _ c=>?_))
 refine Fp [] 4 c fun _ c=>Bd h fun x11 hx11 h=>Cf [2] c (ih hx11) ⟨.f 0,tt⟩ call22 fun i3 _ _ c=>?_
 refine Eltr 25 [(tR x10.1 i2.1 i2.2),(tR x11.1 i3.1 i3.2)] [x10.1,x11.1] c ⟨(Ava.mk_Term x10.1 (.f 1)),(Ava.mk_Term x11.1 (.f 2)),tt⟩ fun a2 c2 _ _ c=>?_
 refine Fp [] 1 c fun _ c=>?_
 replace c:=c.nf
 refine Esb 1 4 (L a2 [x10.1,x11.1] c2) c fun _ c=>?_
 refine E0 (S0 (T0 (Fp [] 1 c fun _ c=>Bd h fun x12 hx12 h=>Ca [2] c (Y2 hx12) ⟨.f 0,tt⟩ call55 fun _ _ _ c=>?_)))
 refine E0 (I0 c h (fun h=>?_) fun h=>?_)
 refine Bd h fun x13 hx13 h=>?_
 obtain ⟨ep1,u1,he1,c⟩:=c.elo 2 3 hx13
 obtain ⟨a3,c3,rfl,c⟩:=c.o_Term 4
 refine Yj mix (rM 6 [(4,.eq (.pointer (some ep1))),(5,.eq (tV x13 a3 c3))] [(1,1),(3,1)] c (fun ow=>⟨Zj ow (NieW c he1),Zj ow (NleW c he1),tt⟩) fun _ _ _ _ _ c=>?_)
 refine Bd h fun x14 hx14 h=>Esetr (q:=(tR x13 a3 c3)) 2 3 c ((Ava.mk_Term x13 (.f 5))) hx14 fun _ _ _ c=>?_
 refine E0 (P0 [] c fun _ c=>I0 c h (fun h=>?_) fun h=>?_)
 refine T0 (Fp [(1,1)] 2 c fun _ c=>?_)
 obtain ⟨he2,c⟩:=c.relenr 2 6
 replace c:=c.eqs (v:=.agg #[I (w64 (1 + x7.1)),I 1,I 0,Str.val ⟨[]⟩,L a2 [x10.1,x11.1] c2]) (u:=.agg #[I (w64 (1 + x7.1)),I 1,I 0,Str.val ⟨[]⟩,L a2 x14 c2]) 79 (by simp only [L,he2])
 replace c:=c.bxe (cs:=[I (w64 (1 + x7.1)),I 1,I 0,Str.val ⟨[]⟩,L a2 [x10.1,x11.1] c2]) (cs':=[I (w64 (1 + x7.1)),I 1,I 0,Str.val ⟨[]⟩,L a2 x14 c2]) 1 (by simp only [L,he2])
 replace c:=c.fzr 2 6
 refine Eltr 25 [(Rw.Term.mk (w64 (1 + x7.1)) 1 0 ⟨[]⟩ (hd a2 x14 c2))] [(D.Term.mk (w64 (1 + x7.1)) 1 0 ⟨[]⟩ x14)] c ⟨(Ava.mk_Term (D.Term.mk (w64 (1 + x7.1)) 1 0 ⟨[]⟩ x14) (.f 7)),tt⟩ fun a4 c4 _ _ c=>?_
 refine Fp [] 1 c fun _ c=>Ess 0 [I 20,I p1,I 0,Str.val ⟨[]⟩,L a4 [(D.Term.mk (w64 (1 + x7.1)) 1 0 ⟨[]⟩ x14)] c4] c fun _ c=>?_
 refine E0 ?_
 replace c:=c.fzr 3 8
 cases h
 exact wp_ret (br (tr (Rg c (a4,c4) [2] [9] (.cell (α:=Agg 4) kk (.b 0) .nil))))
 refine K1 (bk (tn (T0 (Fp [(0,1)] 1 c fun _ c=>Ess 0 [I (w64 (1 + x7.1)),I 1,I 0,Str.val ⟨[]⟩,L a2 [x10.1,x11.1] c2] c fun _ c=>?_))))
 refine E0 ?_
 replace c:=c.nf
 obtain ⟨he3,c⟩:=c.relenr 2 6
 replace c:=c.bxe (cs:=[I (w64 (1 + x7.1)),I 1,I 0,Str.val ⟨[]⟩,L a2 [x10.1,x11.1] c2]) (cs':=[I (w64 (1 + x7.1)),I 1,I 0,Str.val ⟨[]⟩,L a2 x14 c2]) 0 (by simp only [L,he3])
 replace c:=c.bxe (cs:=[I (w64 (1 + x7.1)),I 1,I 0,Str.val ⟨[]⟩,L a2 [x10.1,x11.1] c2]) (cs':=[I (w64 (1 + x7.1)),I 1,I 0,Str.val ⟨[]⟩,L a2 x14 c2]) 1 (by simp only [L,he3])
 replace c:=c.fzr 2 6
 cases h
 exact wp_ret (Rg c (a2,c2) [2] [7] (.cell (α:=Agg 4) kk (.b 0) .nil))
 refine K0 (P0 [] c fun _ c=>I0 c h (fun h=>?_) fun h=>?_)
 refine T0 (Fp [(1,1)] 2 c fun _ c=>?_)
 replace c:=c.fzr 2 3
 refine Eltr 25 [(Rw.Term.mk (w64 (1 + x7.1)) 1 0 ⟨[]⟩ ⟨a2,List.length ([x10.1,x11.1]:List D.Term),c2⟩)] [(D.Term.mk (w64 (1 + x7.1)) 1 0 ⟨[]⟩ ([x10.1,x11.1]:List D.Term))] c ⟨(Ava.mk_Term (D.Term.mk (w64 (1 + x7.1)) 1 0 ⟨[]⟩ [x10.1,x11.1]) (.f 4)),tt⟩ fun a5 c5 _ _ c=>?_
 refine Fp [] 1 c fun _ c=>Ess 0 [I 20,I p1,I 0,Str.val ⟨[]⟩,L a5 [(D.Term.mk (w64 (1 + x7.1)) 1 0 ⟨[]⟩ ([x10.1,x11.1]:List D.Term))] c5] c fun _ c=>?_
 refine E0 ?_
 replace c:=c.fzr 3 5
 cases h
 exact wp_ret (br (tr (Rg c (a5,c5) [2] [6] (.cell (α:=Agg 4) kk (.b 0) .nil))))
 refine K1 (bk (tn (T0 (Fp [(0,1)] 1 c fun _ c=>Ess 0 [I (w64 (1 + x7.1)),I 1,I 0,Str.val ⟨[]⟩,L a2 [x10.1,x11.1] c2] c fun _ c=>?_))))
 refine E0 ?_
 replace c:=c.fzr 2 3
 cases h
 exact wp_ret (Rg c (a2,c2) [2] [4] (.cell (α:=Agg 4) kk (.b 0) .nil))
 refine T0 (Fp [] 1 c fun _ c=>?_)
 replace c:=c.nf
 refine Bd h fun x15 hx15 h=>Cb c (Zv hx15) tt call51 fun _ _ _ c=>?_
 refine Fp [] 1 c fun _ c=>E0 (I0 c h (fun h=>?_) fun h=>?_)
 refine T0 (Fp [] 4 c fun _ c=>Bd h fun x16 hx16 h=>Cf [1] c (ih hx16) ⟨.f 0,tt⟩ call22 fun i4 _ _ c=>?_)
 refine Fp [] 4 c fun _ c=>Bd h fun x17 hx17 h=>Cf [2] c (ih hx17) ⟨.f 0,tt⟩ call22 fun i5 _ _ c=>?_
 refine Eltr 25 [(tR x16.1 i4.1 i4.2),(tR x17.1 i5.1 i5.2)] [x16.1,x17.1] c ⟨(Ava.mk_Term x16.1 (.f 1)),(Ava.mk_Term x17.1 (.f 2)),tt⟩ fun a6 c6 _ _ c=>?_
 refine Fp [] 1 c fun _ c=>Esb 1 4 (L a6 [x16.1,x17.1] c6) c fun _ c=>?_
 refine E0 (T0 (Fp [] 1 c fun _ c=>?_))
 replace c:=c.nf
 refine Bd h fun x18 hx18 h=>Ca [2] c (Y2 hx18) ⟨.f 0,tt⟩ call55 fun _ _ _ c=>?_
 refine E0 (I0 c h (fun h=>?_) fun h=>?_)
 refine Bd h fun x19 hx19 h=>?_
 obtain ⟨ep2,u2,he4,c⟩:=c.elo 2 3 hx19
 obtain ⟨a7,c7,rfl,c⟩:=c.o_Term 4
 refine Yj mix (rM 6 [(4,.eq (.pointer (some ep2))),(5,.eq (tV x19 a7 c7))] [(1,1),(3,1)] c (fun ow=>⟨Zj ow (NieW c he4),Zj ow (NleW c he4),tt⟩) fun _ _ _ _ _ c=>?_)
 refine Bd h fun x20 hx20 h=>Esetr (q:=(tR x19 a7 c7)) 2 3 c ((Ava.mk_Term x19 (.f 5))) hx20 fun _ _ _ c=>?_
 refine E1 (bk (tn (T0 (Fp [(0,1)] 1 c fun _ c=>Ess 0 [I (w64 (1 + x7.1)),I p1,I 0,Str.val ⟨[]⟩,L a6 [x16.1,x17.1] c6] c fun _ c=>?_))))
 refine E0 ?_
 replace c:=c.nf
 obtain ⟨he5,c⟩:=c.relenr 2 6
 replace c:=c.bxe (cs:=[I (w64 (1 + x7.1)),I p1,I 0,Str.val ⟨[]⟩,L a6 [x16.1,x17.1] c6]) (cs':=[I (w64 (1 + x7.1)),I p1,I 0,Str.val ⟨[]⟩,L a6 x20 c6]) 0 (by simp only [L,he5])
 replace c:=c.bxe (cs:=[I (w64 (1 + x7.1)),I p1,I 0,Str.val ⟨[]⟩,L a6 [x16.1,x17.1] c6]) (cs':=[I (w64 (1 + x7.1)),I p1,I 0,Str.val ⟨[]⟩,L a6 x20 c6]) 1 (by simp only [L,he5])
 replace c:=c.fzr 2 6
 cases h
 exact wp_ret (Rg c (a6,c6) [2] [7] (.cell (α:=Agg 4) kk (.b 0) .nil))
 refine K1 (bk (tn (T0 (Fp [(0,1)] 1 c fun _ c=>Ess 0 [I (w64 (1 + x7.1)),I p1,I 0,Str.val ⟨[]⟩,L a6 [x16.1,x17.1] c6] c fun _ c=>?_))))
 refine E0 ?_
 replace c:=c.fzr 2 3
 cases h
 exact wp_ret (Rg c (a6,c6) [2] [4] (.cell (α:=Agg 4) kk (.b 0) .nil))
 refine P0 [] c fun _ c=>I0 c h (fun h=>?_) fun h=>?_
 refine T1 (Fp [] 4 c fun _ c=>Bd h fun x21 hx21 h=>Cf [1] c (ih hx21) ⟨.f 0,tt⟩ call22 fun i6 _ _ c=>?_)
 refine Eltr 25 [(tR x21.1 i6.1 i6.2)] [x21.1] c ⟨(Ava.mk_Term x21.1 (.f 1)),tt⟩ fun a8 c8 _ _ c=>?_
 refine Fp [] 1 c fun _ c=>Esb 1 4 (L a8 [x21.1] c8) c fun _ c=>?_
 refine E1 (bk (tn (T0 (Fp [(0,1)] 1 c fun _ c=>Ess 0 [I (w64 (1 + x7.1)),I p1,I 0,Str.val ⟨[]⟩,L a8 [x21.1] c8] c fun _ c=>?_))))
 refine E0 ?_
 replace c:=c.fzr 3 2
 cases h
 exact wp_ret (Rg c (a8,c8) [2] [3] (.cell (α:=Agg 4) kk (.b 0) .nil))
 refine P0 [] c fun _ c=>I0 c h (fun h=>?_) fun h=>?_
 refine T1 (Fp [] 3 c fun _ c=>Bd h fun x22 hx22 h=>Cf [1] c (ih hx22) ⟨.f 0,tt⟩ call22 fun i7 _ _ c=>?_)
 refine Fp [] 4 c fun _ c=>Bd h fun x23 hx23 h=>Cf [2] c (ih hx23) ⟨.f 0,tt⟩ call22 fun i8 _ _ c=>?_
 refine Fp [] 4 c fun _ c=>Bd h fun x24 hx24 h=>Cf [2] c (ih hx24) ⟨.f 0,tt⟩ call22 fun i9 _ _ c=>?_
 refine Eltr 25 [(tR x22.1 i7.1 i7.2),(tR x23.1 i8.1 i8.2),(tR x24.1 i9.1 i9.2)] [x22.1,x23.1,x24.1] c ⟨(Ava.mk_Term x22.1 (.f 1)),(Ava.mk_Term x23.1 (.f 2)),(Ava.mk_Term x24.1 (.f 3)),tt⟩ fun a9 c9 _ _ c=>?_
 refine Fp [] 1 c fun _ c=>?_
 replace c:=c.nf
 refine Esb 1 4 (L a9 [x22.1,x23.1,x24.1] c9) c fun _ c=>?_
 refine E1 (bk (tn (T0 (Fp [(0,1)] 1 c fun _ c=>Ess 0 [I (w64 (1 + x7.1)),I p1,I 0,Str.val ⟨[]⟩,L a9 [x22.1,x23.1,x24.1] c9] c fun _ c=>?_))))
 refine E0 ?_
 replace c:=c.fzr 3 4
 cases h
 exact wp_ret (Rg c (a9,c9) [2] [5] (.cell (α:=Agg 4) kk (.b 0) .nil))
 refine S0 (Ry [] mix c fun _ _ c=>I0 c h (fun h=>?_) fun h=>?_)
 refine T0 (Fp [] 3 c fun _ c=>Bd h fun x25 hx25 h=>Ca [1] c (Zq hx25) ⟨.f 0,tt⟩ call44 fun _ _ _ c=>?_)
 refine Fp [] 2 c fun _ c=>E0 (T1 (Fp [] 6 c fun _ c=>Bd h fun x26 hx26 h=>Cf [2] c (ih hx26) ⟨.f 0,tt⟩ call22 fun i10 _ _ c=>?_))
 refine Fp [] 4 c fun _ c=>Bd h fun x27 hx27 h=>Cf [2] c (ih hx27) ⟨.f 0,tt⟩ call22 fun i11 _ _ c=>?_
 refine Eltr 25 [(tR x26.1 i10.1 i10.2),(tR x27.1 i11.1 i11.2)] [x26.1,x27.1] c ⟨(Ava.mk_Term x26.1 (.f 1)),(Ava.mk_Term x27.1 (.f 2)),tt⟩ fun a10 c10 _ _ c=>?_
 refine Fp [] 1 c fun _ c=>?_
 replace c:=c.nf
 refine Esb 1 4 (L a10 [x26.1,x27.1] c10) c fun _ c=>?_
 refine E1 (bk (tn (T0 (Fp [(0,1)] 1 c fun _ c=>Ess 0 [I (w64 (1 + x7.1)),I p1,I 0,Str.val ⟨[]⟩,L a10 [x26.1,x27.1] c10] c fun _ c=>?_))))
 refine E0 ?_
 replace c:=c.fzr 3 3
 cases h
 exact wp_ret (Rg c (a10,c10) [2] [4] (.cell (α:=Agg 4) kk (.b 0) .nil))
 refine P0 [] c fun _ c=>I0 c h (fun h=>?_) fun h=>?_
 refine T0 (Fp [] 2 c fun _ c=>Bd h fun x28 hx28 h=>Ca [1] c (Zq hx28) ⟨.f 0,tt⟩ call44 fun _ _ _ c=>?_)
 refine Fp [] 2 c fun _ c=>E0 (T0 (Fp [] 5 c fun _ c=>Bd h fun x29 hx29 h=>Ca [2] c (Zq hx29) ⟨.f 0,tt⟩ call44 fun _ _ _ c=>?_))
 refine Fp [] 1 c fun _ c=>Esb 1 2 (I x29.1) c fun _ c=>?_
 refine E0 (T1 (Fp [] 4 c fun _ c=>Bd h fun x30 hx30 h=>Cf [2] c (ih hx30) ⟨.f 0,tt⟩ call22 fun i12 _ _ c=>?_))
 replace c:=c.nf
 refine Eltr 25 [(tR x30.1 i12.1 i12.2)] [x30.1] c ⟨(Ava.mk_Term x30.1 (.f 1)),tt⟩ fun a11 c11 _ _ c=>?_
 refine Fp [] 1 c fun _ c=>Esb 1 4 (L a11 [x30.1] c11) c fun _ c=>?_
 refine E1 (bk (tn (T0 (Fp [(0,1)] 1 c fun _ c=>Ess 0 [I (w64 (1 + x7.1)),I p1,I x29.1,Str.val ⟨[]⟩,L a11 [x30.1] c11] c fun _ c=>?_))))
 refine E0 ?_
 replace c:=c.fzr 3 2
 cases h
 exact wp_ret (Rg c (a11,c11) [2] [3] (.cell (α:=Agg 4) kk (.b 0) .nil))
 refine T0 (Fp [] 1 c fun _ c=>Bd h fun x31 hx31 h=>Cb c (Zv hx31) tt call51 fun _ _ _ c=>?_)
 refine Fp [] 1 c fun _ c=>E0 (I0 c h (fun h=>?_) fun h=>?_)
 refine T1 (Fp [] 3 c fun _ c=>Bd h fun x32 hx32 h=>Ca [1] c (Zq hx32) ⟨.f 0,tt⟩ call44 fun _ _ _ c=>?_)
 refine Fp [] 3 c fun _ c=>Bd h fun x33 hx33 h=>Cf [2] c (ih hx33) ⟨.f 0,tt⟩ call22 fun i13 _ _ c=>?_
 refine Eltr 25 [(tR x33.1 i13.1 i13.2)] [x33.1] c ⟨(Ava.mk_Term x33.1 (.f 1)),tt⟩ fun a12 c12 _ _ c=>?_
 refine Fp [] 1 c fun _ c=>?_
 replace c:=c.nf
 refine Esb 1 4 (L a12 [x33.1] c12) c fun _ c=>?_
 refine E1 (bk (tn (T0 (Fp [(0,1)] 1 c fun _ c=>Ess 0 [I (w64 (1 + x7.1)),I p1,I 0,Str.val ⟨[]⟩,L a12 [x33.1] c12] c fun _ c=>?_))))
 refine E0 ?_
 replace c:=c.fzr 3 2
 cases h
 exact wp_ret (Rg c (a12,c12) [2] [3] (.cell (α:=Agg 4) kk (.b 0) .nil))
 refine T0 (Fp [] 2 c fun _ c=>Bd h fun x34 hx34 h=>Ca [1] c (XW hx34) ⟨.f 0,tt⟩ call58 fun i14 _ _ c=>?_)
 refine Ess 0 (tC x34.1 i14.1 i14.2) c fun _ c=>?_
 refine E0 ?_
 replace c:=c.fzo (ZfJ 25) 2
 cases h
 exact wp_ret (br (tr (Rg c (i14.1,i14.2) [2] [1] (.cell (α:=Agg 4) kk (.b 0) .nil))))
 replace c:=c.eqs (v:=.bool (decide (p2 < 1))) (u:=.bool false) 14 (by rw [hg1])
 refine Gt c ?_
 dsimp only [List.set]
 refine Fp [] 1 c fun _ c=>Gt c ?_
 dsimp only [List.set]
 refine Bd h fun x35 hx35 h=>Ca [0] c (Y2 hx35) ⟨.f 0,tt⟩ call55 fun _ _ _ c=>?_
 refine Epk (b:=false) (v:=.bool x35.1) c fun _ c=>E0 (I0 c h (fun h=>?_) fun h=>?_)
 refine S0 (T0 (Fp [] 1 c fun _ c=>Bd h fun x36 hx36 h=>Ca [1] c (Y2 hx36) ⟨.f 0,tt⟩ call55 fun _ _ _ c=>?_))
 refine E0 (I0 c h (fun h=>?_) fun h=>?_)
 refine S0 (Yj mix (Rh 2 ?_))
 refine Rh 1 ?_
 refine Rh 0 ?_
 refine Bd h fun x37 hx37 h=>Bd h fun x38 hx38 h=>Bd h fun x39 hx39 h=>Bd h fun x40 hx40 h=>Ar c fun _ c=>?_
 refine AtZ 6 [0,1,2,3,4,5,6,7,11,12,13] [(1,p1,x37),(1,p1,x37),(1,p1,x37)] ⟨hx37,hx37,hx37,tt⟩ [(6,B b1 0),(20,I p1),(21,B gb0 0),(24,I (w64 ((x37) - 1))),(25,B gb0 0),(27,I x37),(33,I (w64 ((x37) - 1)))] c fun _ c=>?_
 refine Xe (fuel:=5) [8] (by kernel_rfl) (by simp) ⟨?_,tt⟩
 refine ZM _ rfl rfl ?_
 refine Ca [1] c (Zq hx38) ⟨.f 0,tt⟩ call44 fun _ _ _ c=>?_
 refine E0 (Xe (fuel:=4) [9] (by kernel_rfl) (by simp) ⟨?_,tt⟩)
 refine ZM _ rfl rfl ?_
 refine Elt 3 ([0,1,(w64 ((x37) - 1)),x38.1]:List Int) c fun a13 c13 _ _ c=>?_
 refine E0 (Xe (fuel:=3) [10] (by kernel_rfl) (by simp) ⟨?_,tt⟩)
 refine ZM _ rfl rfl ?_
 replace c:=c.nf
 refine Ca [1] c (Zb1 hx39) ⟨.f 0,.g 1,tt⟩ call57 fun _ _ _ c=>?_
 refine E0 (Xe (fuel:=2) [14] (by kernel_rfl) (by simp) ⟨?_,tt⟩)
 refine ZM _ rfl rfl ?_
 refine Fp [] 1 c fun _ c=>E0 (Xe (fuel:=1) [15] (by kernel_rfl) (by simp) ⟨?_,tt⟩)
 refine ZM _ rfl rfl ?_
 refine Cb c (Zba hx40) tt call56 fun _ _ _ c=>?_
 refine E0 (Xe (fuel:=0) [16] (by kernel_rfl) (by simp) ⟨?_,tt⟩)
 refine ZM _ rfl rfl ?_
 refine Ess 0 [I x40.Op,I x40.W,I x40.N,Str.val x40.Name,L0] c fun _ c=>?_
 refine E0 (Zgh (by kernel_rfl) (tn ?_))
 cases h
 replace c:=c.nilf (α:=D.Term)
 exact wp_ret (tr (tr (Rg c (none,0) [2] [1] (.cell (α:=Agg 4) kk (.b 0) .nil))))
 refine K0 (T0 (Fp [] 2 c fun _ c=>Bd h fun x41 hx41 h=>Ca [1] c (XW hx41) ⟨.f 0,tt⟩ call58 fun i15 _ _ c=>?_))
 refine Ess 0 (tC x41.1 i15.1 i15.2) c fun _ c=>?_
 refine E0 ?_
 replace c:=c.fzo (ZfJ 25) 1
 cases h
 exact wp_ret (tr (Rg c (i15.1,i15.2) [1] [1] (.cell (α:=Agg 4) kk (.b 0) .nil)))
 refine K0 (T0 (Fp [] 1 c fun _ c=>Bd h fun x42 hx42 h=>Ca [1] c (Zq hx42) ⟨.f 0,tt⟩ call44 fun _ _ _ c=>?_))
 refine Fp [] 2 c fun _ c=>E0 (T0 (Fp [] 3 c fun _ c=>Eal tZ c fun b3 _ _ c=>?_))
 refine Ess 2 [I (w64 (1 + x42.1)),I p1,I 0,Str.val ⟨[]⟩,L0] c fun _ c=>?_
 refine E0 (S0 (wp_block (T0 (Fp [] 1 c fun _ c=>?_))))
 replace c:=c.nf
 refine Bd h fun x43 hx43 h=>Cb c (Zv hx43) tt call51 fun _ _ _ c=>?_
 refine Fp [] 1 c fun _ c=>E0 (I0 c h (fun h=>?_) fun h=>?_)
 refine T0 (Fp [] 1 c fun _ c=>Bd h fun x44 hx44 h=>Ca [1] c (Zq hx44) ⟨.f 0,tt⟩ call44 fun _ _ _ c=>?_)
 refine Fp [] 2 c fun _ c=>E0 (T0 (Fp [] 1 c fun _ c=>Esb 1 1 (I 1) c fun _ c=>?_))
 refine E0 (T0 (Fp [] 4 c fun _ c=>Bd h fun x45 hx45 h=>Cf [2] c (ih hx45) ⟨.f 0,tt⟩ call22 fun i16 _ _ c=>?_))
 refine Fp [] 4 c fun _ c=>Bd h fun x46 hx46 h=>Cf [2] c (ih hx46) ⟨.f 0,tt⟩ call22 fun i17 _ _ c=>?_
 replace c:=c.nf
 refine Eltr 25 [(tR x45.1 i16.1 i16.2),(tR x46.1 i17.1 i17.2)] [x45.1,x46.1] c ⟨(Ava.mk_Term x45.1 (.f 1)),(Ava.mk_Term x46.1 (.f 2)),tt⟩ fun a14 c14 _ _ c=>?_
 refine Fp [] 1 c fun _ c=>Esb 1 4 (L a14 [x45.1,x46.1] c14) c fun _ c=>?_
 refine E0 (S0 (T0 (Fp [] 1 c fun _ c=>Bd h fun x47 hx47 h=>Ca [2] c (Y2 hx47) ⟨.f 0,tt⟩ call55 fun _ _ _ c=>?_)))
 refine E0 (I0 c h (fun h=>?_) fun h=>?_)
 refine Bd h fun x48 hx48 h=>?_
 obtain ⟨ep3,u3,he6,c⟩:=c.elo 2 3 hx48
 obtain ⟨a15,c15,rfl,c⟩:=c.o_Term 4
 refine Yj mix (rM 6 [(4,.eq (.pointer (some ep3))),(5,.eq (tV x48 a15 c15))] [(1,1),(3,1)] c (fun ow=>⟨Zj ow (NieW c he6),Zj ow (NleW c he6),tt⟩) fun _ _ _ _ _ c=>?_)
 refine Bd h fun x49 hx49 h=>Esetr (q:=(tR x48 a15 c15)) 2 3 c ((Ava.mk_Term x48 (.f 5))) hx49 fun _ _ _ c=>?_
 refine E0 (P0 [] c fun _ c=>I0 c h (fun h=>?_) fun h=>?_)
 refine T0 (Fp [(1,1)] 2 c fun _ c=>?_)
 obtain ⟨he7,c⟩:=c.relenr 2 6
 replace c:=c.eqs (v:=.agg #[I (w64 (1 + x42.1)),I 1,I 0,Str.val ⟨[]⟩,L a14 [x45.1,x46.1] c14]) (u:=.agg #[I (w64 (1 + x42.1)),I 1,I 0,Str.val ⟨[]⟩,L a14 x49 c14]) 79 (by simp only [L,he7])
 replace c:=c.bxe (cs:=[I (w64 (1 + x42.1)),I 1,I 0,Str.val ⟨[]⟩,L a14 [x45.1,x46.1] c14]) (cs':=[I (w64 (1 + x42.1)),I 1,I 0,Str.val ⟨[]⟩,L a14 x49 c14]) 1 (by simp only [L,he7])
 replace c:=c.fzr 2 6
 refine Eltr 25 [(Rw.Term.mk (w64 (1 + x42.1)) 1 0 ⟨[]⟩ (hd a14 x49 c14))] [(D.Term.mk (w64 (1 + x42.1)) 1 0 ⟨[]⟩ x49)] c ⟨(Ava.mk_Term (D.Term.mk (w64 (1 + x42.1)) 1 0 ⟨[]⟩ x49) (.f 7)),tt⟩ fun a16 c16 _ _ c=>?_
 refine Fp [] 1 c fun _ c=>?_
 replace c:=c.nf
 refine Ess 0 [I 20,I p1,I 0,Str.val ⟨[]⟩,L a16 [(D.Term.mk (w64 (1 + x42.1)) 1 0 ⟨[]⟩ x49)] c16] c fun _ c=>?_
 refine E0 ?_
 replace c:=c.fzr 3 8
 cases h
 exact wp_ret (br (tr (Rg c (a16,c16) [2] [9] (.cell (α:=Agg 4) kk (.b 0) .nil))))
 refine K1 (bk (tn (T0 (Fp [(0,1)] 1 c fun _ c=>Ess 0 [I (w64 (1 + x42.1)),I 1,I 0,Str.val ⟨[]⟩,L a14 [x45.1,x46.1] c14] c fun _ c=>?_))))
 refine E0 ?_
 replace c:=c.nf
 obtain ⟨he8,c⟩:=c.relenr 2 6
 replace c:=c.bxe (cs:=[I (w64 (1 + x42.1)),I 1,I 0,Str.val ⟨[]⟩,L a14 [x45.1,x46.1] c14]) (cs':=[I (w64 (1 + x42.1)),I 1,I 0,Str.val ⟨[]⟩,L a14 x49 c14]) 0 (by simp only [L,he8])
 replace c:=c.bxe (cs:=[I (w64 (1 + x42.1)),I 1,I 0,Str.val ⟨[]⟩,L a14 [x45.1,x46.1] c14]) (cs':=[I (w64 (1 + x42.1)),I 1,I 0,Str.val ⟨[]⟩,L a14 x49 c14]) 1 (by simp only [L,he8])
 replace c:=c.fzr 2 6
 cases h
 exact wp_ret (Rg c (a14,c14) [2] [7] (.cell (α:=Agg 4) kk (.b 0) .nil))
 refine K0 (P0 [] c fun _ c=>I0 c h (fun h=>?_) fun h=>?_)
 refine T0 (Fp [(1,1)] 2 c fun _ c=>?_)
 replace c:=c.fzr 2 3
 refine Eltr 25 [(Rw.Term.mk (w64 (1 + x42.1)) 1 0 ⟨[]⟩ ⟨a14,List.length ([x45.1,x46.1]:List D.Term),c14⟩)] [(D.Term.mk (w64 (1 + x42.1)) 1 0 ⟨[]⟩ ([x45.1,x46.1]:List D.Term))] c ⟨(Ava.mk_Term (D.Term.mk (w64 (1 + x42.1)) 1 0 ⟨[]⟩ [x45.1,x46.1]) (.f 4)),tt⟩ fun a17 c17 _ _ c=>?_
 refine Fp [] 1 c fun _ c=>Ess 0 [I 20,I p1,I 0,Str.val ⟨[]⟩,L a17 [(D.Term.mk (w64 (1 + x42.1)) 1 0 ⟨[]⟩ ([x45.1,x46.1]:List D.Term))] c17] c fun _ c=>?_
 refine E0 ?_
 replace c:=c.fzr 3 5
 cases h
 exact wp_ret (br (tr (Rg c (a17,c17) [2] [6] (.cell (α:=Agg 4) kk (.b 0) .nil))))
 refine K1 (bk (tn (T0 (Fp [(0,1)] 1 c fun _ c=>Ess 0 [I (w64 (1 + x42.1)),I 1,I 0,Str.val ⟨[]⟩,L a14 [x45.1,x46.1] c14] c fun _ c=>?_))))
 refine E0 ?_
 replace c:=c.fzr 2 3
 cases h
 exact wp_ret (Rg c (a14,c14) [2] [4] (.cell (α:=Agg 4) kk (.b 0) .nil))
 refine T0 (Fp [] 1 c fun _ c=>Bd h fun x50 hx50 h=>Cb c (Zv hx50) tt call51 fun _ _ _ c=>?_)
 refine Fp [] 1 c fun _ c=>E0 (I0 c h (fun h=>?_) fun h=>?_)
 refine T0 (Fp [] 4 c fun _ c=>Bd h fun x51 hx51 h=>Cf [1] c (ih hx51) ⟨.f 0,tt⟩ call22 fun i18 _ _ c=>?_)
 refine Fp [] 4 c fun _ c=>Bd h fun x52 hx52 h=>Cf [2] c (ih hx52) ⟨.f 0,tt⟩ call22 fun i19 _ _ c=>?_
 refine Eltr 25 [(tR x51.1 i18.1 i18.2),(tR x52.1 i19.1 i19.2)] [x51.1,x52.1] c ⟨(Ava.mk_Term x51.1 (.f 1)),(Ava.mk_Term x52.1 (.f 2)),tt⟩ fun a18 c18 _ _ c=>?_
 refine Fp [] 1 c fun _ c=>?_
 replace c:=c.nf
 refine Esb 1 4 (L a18 [x51.1,x52.1] c18) c fun _ c=>?_
 refine E0 (T0 (Fp [] 1 c fun _ c=>Bd h fun x53 hx53 h=>Ca [2] c (Y2 hx53) ⟨.f 0,tt⟩ call55 fun _ _ _ c=>?_))
 refine E0 (I0 c h (fun h=>?_) fun h=>?_)
 refine Bd h fun x54 hx54 h=>?_
 obtain ⟨ep4,u4,he9,c⟩:=c.elo 2 3 hx54
 obtain ⟨a19,c19,rfl,c⟩:=c.o_Term 4
 refine Yj mix (rM 6 [(4,.eq (.pointer (some ep4))),(5,.eq (tV x54 a19 c19))] [(1,1),(3,1)] c (fun ow=>⟨Zj ow (NieW c he9),Zj ow (NleW c he9),tt⟩) fun _ _ _ _ _ c=>?_)
 refine Bd h fun x55 hx55 h=>Esetr (q:=(tR x54 a19 c19)) 2 3 c ((Ava.mk_Term x54 (.f 5))) hx55 fun _ _ _ c=>?_
 refine E1 (bk (tn (T0 (Fp [(0,1)] 1 c fun _ c=>Ess 0 [I (w64 (1 + x42.1)),I p1,I 0,Str.val ⟨[]⟩,L a18 [x51.1,x52.1] c18] c fun _ c=>?_))))
 refine E0 ?_
 replace c:=c.nf
 obtain ⟨he10,c⟩:=c.relenr 2 6
 replace c:=c.bxe (cs:=[I (w64 (1 + x42.1)),I p1,I 0,Str.val ⟨[]⟩,L a18 [x51.1,x52.1] c18]) (cs':=[I (w64 (1 + x42.1)),I p1,I 0,Str.val ⟨[]⟩,L a18 x55 c18]) 0 (by simp only [L,he10])
 replace c:=c.bxe (cs:=[I (w64 (1 + x42.1)),I p1,I 0,Str.val ⟨[]⟩,L a18 [x51.1,x52.1] c18]) (cs':=[I (w64 (1 + x42.1)),I p1,I 0,Str.val ⟨[]⟩,L a18 x55 c18]) 1 (by simp only [L,he10])
 replace c:=c.fzr 2 6
 cases h
 exact wp_ret (Rg c (a18,c18) [2] [7] (.cell (α:=Agg 4) kk (.b 0) .nil))
 refine K1 (bk (tn (T0 (Fp [(0,1)] 1 c fun _ c=>Ess 0 [I (w64 (1 + x42.1)),I p1,I 0,Str.val ⟨[]⟩,L a18 [x51.1,x52.1] c18] c fun _ c=>?_))))
 refine E0 ?_
 replace c:=c.fzr 2 3
 cases h
 exact wp_ret (Rg c (a18,c18) [2] [4] (.cell (α:=Agg 4) kk (.b 0) .nil))
 refine P0 [] c fun _ c=>I0 c h (fun h=>?_) fun h=>?_
 refine T1 (Fp [] 4 c fun _ c=>Bd h fun x56 hx56 h=>Cf [1] c (ih hx56) ⟨.f 0,tt⟩ call22 fun i20 _ _ c=>?_)
 refine Eltr 25 [(tR x56.1 i20.1 i20.2)] [x56.1] c ⟨(Ava.mk_Term x56.1 (.f 1)),tt⟩ fun a20 c20 _ _ c=>?_
 refine Fp [] 1 c fun _ c=>Esb 1 4 (L a20 [x56.1] c20) c fun _ c=>?_
 refine E1 (bk (tn (T0 (Fp [(0,1)] 1 c fun _ c=>?_))))
 replace c:=c.nf
 refine Ess 0 [I (w64 (1 + x42.1)),I p1,I 0,Str.val ⟨[]⟩,L a20 [x56.1] c20] c fun _ c=>?_
 refine E0 ?_
 replace c:=c.fzr 3 2
 cases h
 exact wp_ret (Rg c (a20,c20) [2] [3] (.cell (α:=Agg 4) kk (.b 0) .nil))
 refine P0 [] c fun _ c=>I0 c h (fun h=>?_) fun h=>?_
 refine T1 (Fp [] 3 c fun _ c=>Bd h fun x57 hx57 h=>Cf [1] c (ih hx57) ⟨.f 0,tt⟩ call22 fun i21 _ _ c=>?_)
 refine Fp [] 4 c fun _ c=>Bd h fun x58 hx58 h=>Cf [2] c (ih hx58) ⟨.f 0,tt⟩ call22 fun i22 _ _ c=>?_
 refine Fp [] 4 c fun _ c=>Bd h fun x59 hx59 h=>Cf [2] c (ih hx59) ⟨.f 0,tt⟩ call22 fun i23 _ _ c=>?_
 replace c:=c.nf
 refine Eltr 25 [(tR x57.1 i21.1 i21.2),(tR x58.1 i22.1 i22.2),(tR x59.1 i23.1 i23.2)] [x57.1,x58.1,x59.1] c ⟨(Ava.mk_Term x57.1 (.f 1)),(Ava.mk_Term x58.1 (.f 2)),(Ava.mk_Term x59.1 (.f 3)),tt⟩ fun a21 c21 _ _ c=>?_
 refine Fp [] 1 c fun _ c=>Esb 1 4 (L a21 [x57.1,x58.1,x59.1] c21) c fun _ c=>?_
 refine E1 (bk (tn (T0 (Fp [(0,1)] 1 c fun _ c=>Ess 0 [I (w64 (1 + x42.1)),I p1,I 0,Str.val ⟨[]⟩,L a21 [x57.1,x58.1,x59.1] c21] c fun _ c=>?_))))
 refine E0 ?_
 replace c:=c.fzr 3 4
 cases h
 exact wp_ret (Rg c (a21,c21) [2] [5] (.cell (α:=Agg 4) kk (.b 0) .nil))
 refine S0 (Ry [] mix c fun _ _ c=>I0 c h (fun h=>?_) fun h=>?_)
 refine T0 (Fp [] 3 c fun _ c=>Bd h fun x60 hx60 h=>Ca [1] c (Zq hx60) ⟨.f 0,tt⟩ call44 fun _ _ _ c=>?_)
 refine Fp [] 2 c fun _ c=>E0 (T1 (Fp [] 6 c fun _ c=>Bd h fun x61 hx61 h=>Cf [2] c (ih hx61) ⟨.f 0,tt⟩ call22 fun i24 _ _ c=>?_))
 refine Fp [] 4 c fun _ c=>Bd h fun x62 hx62 h=>Cf [2] c (ih hx62) ⟨.f 0,tt⟩ call22 fun i25 _ _ c=>?_
 replace c:=c.nf
 refine Eltr 25 [(tR x61.1 i24.1 i24.2),(tR x62.1 i25.1 i25.2)] [x61.1,x62.1] c ⟨(Ava.mk_Term x61.1 (.f 1)),(Ava.mk_Term x62.1 (.f 2)),tt⟩ fun a22 c22 _ _ c=>?_
 refine Fp [] 1 c fun _ c=>Esb 1 4 (L a22 [x61.1,x62.1] c22) c fun _ c=>?_
 refine E1 (bk (tn (T0 (Fp [(0,1)] 1 c fun _ c=>Ess 0 [I (w64 (1 + x42.1)),I p1,I 0,Str.val ⟨[]⟩,L a22 [x61.1,x62.1] c22] c fun _ c=>?_))))
 refine E0 ?_
 replace c:=c.fzr 3 3
 cases h
 exact wp_ret (Rg c (a22,c22) [2] [4] (.cell (α:=Agg 4) kk (.b 0) .nil))
 refine P0 [] c fun _ c=>I0 c h (fun h=>?_) fun h=>?_
 refine T0 (Fp [] 2 c fun _ c=>Bd h fun x63 hx63 h=>Ca [1] c (Zq hx63) ⟨.f 0,tt⟩ call44 fun _ _ _ c=>?_)
 refine Fp [] 2 c fun _ c=>E0 (T0 (Fp [] 5 c fun _ c=>Bd h fun x64 hx64 h=>Ca [2] c (Zq hx64) ⟨.f 0,tt⟩ call44 fun _ _ _ c=>?_))
 refine Fp [] 1 c fun _ c=>Esb 1 2 (I x64.1) c fun _ c=>?_
 refine E0 (T1 (Fp [] 4 c fun _ c=>?_))
 replace c:=c.nf
 refine Bd h fun x65 hx65 h=>Cf [2] c (ih hx65) ⟨.f 0,tt⟩ call22 fun i26 _ _ c=>?_
 refine Eltr 25 [(tR x65.1 i26.1 i26.2)] [x65.1] c ⟨(Ava.mk_Term x65.1 (.f 1)),tt⟩ fun a23 c23 _ _ c=>?_
 refine Fp [] 1 c fun _ c=>Esb 1 4 (L a23 [x65.1] c23) c fun _ c=>?_
 refine E1 (bk (tn (T0 (Fp [(0,1)] 1 c fun _ c=>Ess 0 [I (w64 (1 + x42.1)),I p1,I x64.1,Str.val ⟨[]⟩,L a23 [x65.1] c23] c fun _ c=>?_))))
 refine E0 ?_
 replace c:=c.fzr 3 2
 cases h
 exact wp_ret (Rg c (a23,c23) [2] [3] (.cell (α:=Agg 4) kk (.b 0) .nil))
 refine T0 (Fp [] 1 c fun _ c=>Bd h fun x66 hx66 h=>Cb c (Zv hx66) tt call51 fun _ _ _ c=>?_)
 refine Fp [] 1 c fun _ c=>E0 (I0 c h (fun h=>?_) fun h=>?_)
 refine T1 (Fp [] 3 c fun _ c=>Bd h fun x67 hx67 h=>Ca [1] c (Zq hx67) ⟨.f 0,tt⟩ call44 fun _ _ _ c=>?_)
 refine Fp [] 3 c fun _ c=>Bd h fun x68 hx68 h=>Cf [2] c (ih hx68) ⟨.f 0,tt⟩ call22 fun i27 _ _ c=>?_
 replace c:=c.nf
 refine Eltr 25 [(tR x68.1 i27.1 i27.2)] [x68.1] c ⟨(Ava.mk_Term x68.1 (.f 1)),tt⟩ fun a24 c24 _ _ c=>?_
 refine Fp [] 1 c fun _ c=>Esb 1 4 (L a24 [x68.1] c24) c fun _ c=>?_
 refine E1 (bk (tn (T0 (Fp [(0,1)] 1 c fun _ c=>Ess 0 [I (w64 (1 + x42.1)),I p1,I 0,Str.val ⟨[]⟩,L a24 [x68.1] c24] c fun _ c=>?_))))
 refine E0 ?_
 replace c:=c.fzr 3 2
 cases h
 exact wp_ret (Rg c (a24,c24) [2] [3] (.cell (α:=Agg 4) kk (.b 0) .nil))
 refine T0 (Fp [] 2 c fun _ c=>Bd h fun x69 hx69 h=>Ca [1] c (XW hx69) ⟨.f 0,tt⟩ call58 fun i28 _ _ c=>?_)
 refine Ess 0 (tC x69.1 i28.1 i28.2) c fun _ c=>?_
 refine E0 ?_
 replace c:=c.fzo (ZfJ 25) 2
 cases h
 exact wp_ret (br (tr (Rg c (i28.1,i28.2) [2] [1] (.cell (α:=Agg 4) kk (.b 0) .nil))))
theorem Zd3 {p0 p1 p2 p3 r} (h:XE n p0 p1 p2 p3 = some r):Ct 6 [L ga0 p0 gc1,I p1,I p2,I p3] [lR ga0 p0 gc1] r:=by
 unfold XE at h
 refine En func6 rfl ntmps6 fun _ fr w c=>?_
 refine T0 (Eal tZ c fun b1 _ _ c=>?_)
 refine E0 (T0 (Fp [] 2 c fun _ c=>Bd h fun x1 hx1 h=>Cg c (ZeQ hx1) ⟨.f 0,tt⟩ call23 fun i1 _ _ c=>?_))
 refine Fp [] 2 c fun _ c=>Bd h fun x2 hx2 h=>Cf [1] c (ZdL hx2) ⟨.f 1,tt⟩ call22 fun i2 _ _ c=>?_
 refine Ess 0 (tC x2.1 i2.1 i2.2) c fun _ c=>?_
 refine E0 ?_
 cases h
 exact wp_ret (Rg c (i2.1,i2.2) [] [2] (.cell (α:=Agg 4) kk (.b 0) .nil))
theorem ZeK {n:Nat}:∀ {p0 p1 ga0 gc1 gb2 r} (h:YW n p0 p1 = some r),Con prog 60 [tV p0 ga0 gc1,B gb2 0] [BX gb2 3 [I p1]] [lR ga0 p0.Kids gc1] fun (_:Unit)=>([.bool r.1],[BX gb2 3 [I r.2]],[]):=by
 induction n with
 | zero=>intro p0 p1 ga0 gc1 gb2 r h; simp [YW] at h
 | succ n ih=>
 intro p0 p1 ga0 gc1 gb2 r h
 rw [YW] at h
 refine En func60 rfl ntmps60 fun _ fr w c=>?_
 refine T0 (Ebx (tC p0 ga0 gc1) c fun b1 _ _ c=>?_)
 refine Fp [] 1 c fun _ c=>E0 (T0 (Fp [(3,0)] 6 c fun _ c=>Esb 0 0 (I (w64 (p1 - 1))) c fun _ c=>?_))
 refine E0 (S0 (P0 [] c fun _ c=>Bd h fun rl1 hit1 h=>Lp (fun s1  (_:Unit)=>([(1,B gb2 0),(2,B b1 0),(5,I s1.1)],fun Γ=>Γ.set 0 (BX gb2 3 [I s1.2]),[])) (fun  (_:Unit)=>([(1,B gb2 0)],fun Γ=>Γ.set 0 (BX gb2 3 [I rl1]),[])) hit1 c () (c.rk [0,1] [0]) (fun s1 q1 _ _ _ c h hr1=>?_) fun _ _ _ c=>?_))
 refine S0 (S0 (Ry [(2,1),(8,0)] mix c fun _ _ c=>I0 c h (fun h=>?_) fun h=>?_))
 refine K0 (S0 (wp_block (T1 (Fp [(1,1)] 3 c fun _ c=>Bd h fun x1 hx1 h=>Eem c (.f 0) hx1 fun _ u1 _ c=>?_))))
 obtain ⟨a1,c1,rfl,c⟩:=c.o_Term 1
 refine Fp [] 1 c fun _ c=>Bd h fun x2 hx2 h=>Ca [0] c (ih hx2) ⟨.f 2,tt⟩ call60 fun _ _ _ c=>?_
 refine E1 (bk (tn (P1 [] c fun _ c=>Nx h () (c.rk [1,0] [0]))))
 refine wp_exit (te (te (be ?_)))
 obtain rfl:=hr1 _ (sk h)
 exact tn ⟨(),c.rk [0,1] [0]⟩
 refine P0 [(2,0)] c fun _ c=>?_
 cases h
 exact wp_ret (Rt c () [0] [])
theorem ZY {p0 p1 r} (h:Z9 p0 p1 = some r):C0 33 [I p0,I p1] [] (.bool r):=by
 unfold Z9 at h
 refine En func33 rfl ntmps33 fun _ fr w c=>?_
 refine P0 [] c fun _ c=>Bd h fun x1 hx1 h=>Bd h fun x2 hx2 h=>Bd h fun x3 hx3 h=>S0 (rZ [(1,.eq (.bool x1)),(5,.eq (I x2)),(7,.eq (.bool x3))] [] mix c ⟨Ncl c (kN (Zv hx1)) tt call51,Nshl c (gT hx2),Ncl c (fun hg=>Zv (iteT (gcT hg) hx3)) tt call51,tt⟩ fun _ _ c=>?_)
 exact rE
theorem Ze6 {p0 r} (h:XO n p0 = some r):C0 86 [Str.val p0] [] (.bool r):=by
 unfold XO at h
 refine En func86 rfl ntmps86 fun _ fr w c=>?_
 refine P0 [] c fun _ c=>S0 (P0 [] c fun _ c=>Bd h fun rl1 hit1 h=>?_)
 have hk1:=h
 refine LpR (fun s1  (_:Unit)=>([(0,Str.val p0),(3,I s1)],id,[])) (fun s  (_:Unit)=>([(0,Str.val p0)],id,[])) hit1 c () (c.rk [] []) (fun s1 q1 _ _ _ c h hr1=>?_) fun s1r _ _ _ hrl c=>?_
 refine S0 (P0 [] c fun _ c=>I0 c h (fun h=>?_) fun h=>?_)
 refine K0 (S0 (wp_block (T0 (Fp [] 2 c fun _ c=>Bd h fun x1 hx1 h=>Eix (kd:=.i64) c hx1 fun _ c=>?_))))
 refine Fp [] 1 c fun _ c=>Bd h fun x2 hx2 h=>Cb c (Zv hx2) tt call51 fun _ _ _ c=>?_
 refine Fp [] 1 c fun _ c=>E0 (Bd h fun x3 hx3 h=>Bd h fun x4 hx4 h=>S0 (rZ [(8,.eq (.int .u8 x3)),(10,.eq (.bool x4))] [] mix c ⟨Nix c (fun hg=>(iteT (gcT (g':=2) (gU 5 hg)) (iteF (gcF (g':=5) hg) hx3))),Ncl c (fun hg=>Zv ((iteT (gcT (g':=2) (gU 5 hg)) (iteF (gcF (g':=5) hg) hx4)))) tt call51,tt⟩ fun _ _ c=>I0 c h (fun h=>?_) fun h=>?_))
 refine P0 [] c fun _ c=>?_
 obtain rfl:=hr1 _ (sk h)
 obtain rfl:=sj hk1
 exact wp_ret (br (tr (tr (br (tr (Rt c () [] []))))))
 refine K1 (bk (tn (P1 [] c fun _ c=>Nx h () (c.rk [] []))))
 refine wp_exit (te (te (be ?_)))
 obtain rfl:=hr1 _ (sk h)
 exact tn ⟨_,(),rfl,c.rk [] []⟩
 subst hrl
 refine T0 (Fp [] 2 c fun _ c=>Bd h fun x5 hx5 h=>Cb c (Zv hx5) tt call51 fun _ _ _ c=>?_)
 exact Fp [] 1 c fun _ c=>E0 rE
theorem ZdH {n:Nat}:∀ {p0 ga0 gc1 r} (h:Yi n p0 = some r),C0 61 [tV p0 ga0 gc1] [lR ga0 p0.Kids gc1] (.bool r):=by
 induction n with
 | zero=>intro p0 ga0 gc1 r h; simp [Yi] at h
 | succ n ih=>
 intro p0 ga0 gc1 r h
 rw [Yi] at h
 refine En func61 rfl ntmps61 fun _ fr w c=>?_
 refine T0 (Ebx (tC p0 ga0 gc1) c fun b1 _ _ c=>?_)
 refine Fp [] 1 c fun _ c=>E0 (P0 [(1,0)] c fun _ c=>S0 (Bd h fun x1 hx1 h=>S0 (rZ [(2,.eq (.bool x1))] [(1,0),(6,0),(10,0),(16,0),(20,0),(25,0)] mix c ⟨Ncl c (kN (Zv hx1)) tt call51,tt⟩ fun _ _ c=>I0 c h (fun h=>?_) fun h=>?_)))
 exact P0 [] c fun _ c=>rE
 refine K0 (S0 (P0 [(1,0)] c fun _ c=>Bd h fun rl1 hit1 h=>?_))
 have hk1:=h
 refine LpR (fun s1  (_:Unit)=>([(1,B b1 0),(3,I (len p0.Kids)),(41,L ga0 p0.Kids gc1),(42,I (len p0.Kids)),(43,I s1)],id,[])) (fun s  (_:Unit)=>([(1,B b1 0),(3,I (len p0.Kids))],id,[])) hit1 c () (c.rk [0] [0]) (fun s1 q1 _ _ _ c h hr1=>?_) fun s1r _ _ _ hrl c=>?_
 refine P0 [] c fun _ c=>S0 (I0 c h (fun h=>?_) fun h=>?_)
 refine K0 (S0 (wp_block (T0 (Bd h fun x2 hx2 h=>Eem c (.f 0) hx2 fun _ u1 _ c=>?_))))
 obtain ⟨a1,c1,rfl,c⟩:=c.o_Term 1
 refine Eal tZ c fun b2 _ _ c=>?_
 refine Ess 1 (tC x2 a1 c1) c fun _ c=>?_
 refine E0 (T0 (Fp [(0,1)] 1 c fun _ c=>Bd h fun x3 hx3 h=>Cb c (ih hx3) ⟨.f 2,tt⟩ call61 fun _ _ _ c=>?_))
 refine Fp [] 1 c fun _ c=>E0 (I0 c h (fun h=>?_) fun h=>?_)
 refine P0 [] c fun _ c=>?_
 obtain rfl:=hr1 _ (sk h)
 obtain rfl:=sj hk1
 exact wp_ret (br (tr (tr (br (tr (Rt c () [] []))))))
 refine K1 (bk (tn (P1 [] c fun _ c=>Nx h () (c.rk [0] [0]))))
 refine wp_exit (te (te (be ?_)))
 obtain rfl:=hr1 _ (sk h)
 exact tn ⟨_,(),rfl,c.rk [0] [0]⟩
 subst hrl
 refine T0 (Elt 3 ([0,0,0]:List Int) c fun a2 c2 _ _ c=>?_)
 refine Fp [] 1 c fun _ c=>E0 (S0 (P0 [] c fun _ c=>Bd h fun rl2 hit2 h=>Lp (fun s2  (_:Unit)=>([(1,B b1 0),(3,I (len p0.Kids)),(6,L a2 ([0,0,0]:List Int) c2),(7,I s2.1)],fun Γ=>Γ.set 1 (sl3 (L a2 ([0,0,0]:List Int) c2) s2.2),[])) (fun  (_:Unit)=>([(1,B b1 0),(3,I (len p0.Kids)),(6,L a2 ([0,0,0]:List Int) c2)],fun Γ=>Γ.set 1 (sl3 (L a2 ([0,0,0]:List Int) c2) rl2),[])) hit2 c () (c.rk [0,1] [0]) (fun s2 q2 _ _ _ c h hr2=>?_) fun _ _ _ c=>?_))
 refine S0 (S0 (Ry [] mix c fun _ _ c=>I0 c h (fun h=>?_) fun h=>?_))
 refine K0 (S0 (wp_block (T1 (Fp [(3,0)] 5 c fun _ c=>Bd h fun x4 hx4 h=>Eef c (.f 0) hx4 Zc4 fun _ _ _ c=>?_))))
 refine Bd h fun x5 hx5 h=>Eset 1 c hx5 fun _ _ _ c=>?_
 refine E1 (bk (tn (P1 [] c fun _ c=>Nx h () (c.rk [0,1] [0]))))
 refine wp_exit (te (te (be ?_)))
 obtain rfl:=hr2 _ (sk h)
 exact tn ⟨(),c.rk [0,1] [0]⟩
 refine S0 (wp_block (P0 [(1,0)] c fun _ c=>I0 c h (fun h=>?_) fun h=>?_))
 refine Bd h fun x6 hx6 h=>S0 (rZ [(7,.eq (.bool x6))] [(4,0),(6,0)] mix c ⟨Ncl c (fun hg=>ZY (iteT (gcT hg) hx6)) tt call33,tt⟩ fun _ _ c=>?_)
 exact rE
 refine P0 [(1,0)] c fun _ c=>I0 c h (fun h=>?_) fun h=>?_
 refine Bd h fun x7 hx7 h=>S0 (rZ [(5,.eq (.bool x7))] [(4,0)] mix c ⟨Ncl c (fun hg=>Ze6 (iteT (gcT hg) hx7)) tt call86,tt⟩ fun _ _ c=>?_)
 exact rE
 refine T0 (Fp [(1,0)] 2 c fun _ c=>Bd h fun x8 hx8 h=>Cb c (Zv hx8) tt call51 fun _ _ _ c=>?_)
 refine Fp [] 1 c fun _ c=>E0 (I0 c h (fun h=>?_) fun h=>?_)
 refine Bd h fun x9 hx9 h=>S0 (rZ [(4,Pd.el (x9:Int)),(5,.eq (I x9))] [(7,0)] mix c ⟨Nid c (.g 1) (gT hx9),Nld c 4 (q:=x9) (atN 4),tt⟩ fun _ _ c=>?_)
 exact rE
 refine T0 (Fp [(1,0)] 2 c fun _ c=>Bd h fun x10 hx10 h=>Cb c (Zv hx10) tt call51 fun _ _ _ c=>?_)
 refine Fp [] 1 c fun _ c=>E0 (I0 c h (fun h=>?_) fun h=>?_)
 refine Bd h fun x11 hx11 h=>Bd h fun x12 hx12 h=>S0 (rZ [(4,Pd.el (x11:Int)),(5,.eq (I x11)),(12,Pd.el (x12:Int)),(13,.eq (I x12))] [(7,0),(15,0)] mix c ⟨Nid c (.g 1) (gT hx11),Nld c 4 (q:=x11) (atN 4),Nid c (.g 1) (gT hx12),Nld c 12 (q:=x12) (atN 12),tt⟩ fun _ _ c=>?_)
 exact rE
 refine T0 (Fp [(1,0)] 2 c fun _ c=>Bd h fun x13 hx13 h=>Cb c (Zv hx13) tt call51 fun _ _ _ c=>?_)
 refine Fp [] 1 c fun _ c=>E0 (I0 c h (fun h=>?_) fun h=>?_)
 refine Bd h fun x14 hx14 h=>Bd h fun x15 hx15 h=>S0 (rZ [(4,Pd.el (x14:Int)),(5,.eq (I x14)),(7,Pd.el (x15:Int)),(8,.eq (I x15))] [(13,0)] mix c ⟨Nid c (.g 1) (gT hx14),Nld c 4 (q:=x14) (atN 4),Nid c (.g 1) (gT hx15),Nld c 7 (q:=x15) (atN 7),tt⟩ fun _ _ c=>?_)
 exact rE
 refine P0 [(1,0)] c fun _ c=>I0 c h (fun h=>?_) fun h=>?_
 refine Bd h fun x16 hx16 h=>Bd h fun x17 hx17 h=>Bd h fun x18 hx18 h=>S0 (rZ [(4,Pd.el (x16:Int)),(5,.eq (I x16)),(10,Pd.el (x17:Int)),(11,.eq (I x17)),(18,Pd.el (x18:Int)),(19,.eq (I x18))] [(13,0),(21,0)] mix c ⟨Nid c (.g 1) (gT hx16),Nld c 4 (q:=x16) (atN 4),Nid c (.g 1) (gT hx17),Nld c 10 (q:=x17) (atN 10),Nid c (.g 1) (gT hx18),Nld c 18 (q:=x18) (atN 18),tt⟩ fun _ _ c=>?_)
 exact rE
 refine P0 [(1,0)] c fun _ c=>I0 c h (fun h=>?_) fun h=>?_
 refine Bd h fun x19 hx19 h=>Bd h fun x20 hx20 h=>S0 (rZ [(4,Pd.el (x19:Int)),(5,.eq (I x19)),(7,Pd.el (x20:Int)),(8,.eq (I x20))] [(11,0)] mix c ⟨Nid c (.g 1) (gT hx19),Nld c 4 (q:=x19) (atN 4),Nid c (.g 1) (gT hx20),Nld c 7 (q:=x20) (atN 7),tt⟩ fun _ _ c=>?_)
 exact rE
 refine P0 [(1,0)] c fun _ c=>I0 c h (fun h=>?_) fun h=>?_
 refine Bd h fun x21 hx21 h=>Bd h fun x22 hx22 h=>S0 (rZ [(5,.eq (.bool x21)),(14,Pd.el (x22:Int)),(15,.eq (I x22))] [(4,0),(9,0),(11,0)] mix c ⟨Ncl c (fun hg=>Zv (iteT (gcT hg) hx21)) tt call51,Nid c (.g 1) (gT hx22),Nld c 14 (q:=x22) (atN 14),tt⟩ fun _ _ c=>?_)
 exact rE
 refine K1 (bk (tn (Bd h fun x23 hx23 h=>Bd h fun x24 hx24 h=>S0 (rZ [(2,.eq (.bool x23)),(9,Pd.el (x24:Int)),(10,.eq (I x24))] [(1,0),(12,0)] mix c ⟨Ncl c (kN (Zv hx23)) tt call51,Nid c (.g 1) (gT hx24),Nld c 9 (q:=x24) (atN 9),tt⟩ fun _ _ c=>?_))))
 exact rE
theorem Zas {n:Nat}:∀ {p0 p1 ga0 gc1 ga2 gc3 gn4 r} (h:ZP n p0 p1 = some r),Con prog 45 [tV p0 ga0 gc1,.slice ga2 gn4 gc3] [sl45 (.slice ga2 gn4 gc3) p1] [lR ga0 p0.Kids gc1] fun (i:Oh)=>([L i.1 r.1 i.2,.bool r.2],[sl45 (L i.1 r.1 i.2) r.1],[]):=by
 induction n with
 | zero=>intro p0 p1 ga0 gc1 ga2 gc3 gn4 r h; simp [ZP] at h
 | succ n ih=>
 intro p0 p1 ga0 gc1 ga2 gc3 gn4 r h
 rw [ZP] at h
 refine En func45 rfl ntmps45 fun _ fr w c=>?_
 obtain ⟨rfl,c⟩:=c.relen 0
 refine T0 (Ebx (tC p0 ga0 gc1) c fun b1 _ _ c=>?_)
 refine Fp [] 2 c fun _ c=>E0 (S0 (P0 [(1,0)] c fun _ c=>I0 c h (fun h=>?_) fun h=>?_))
 refine P0 [] c fun _ c=>Bd h fun rl1 hit1 h=>S0 (Lp (fun s1  (_:Unit)=>([(1,L ga2 p1 gc3),(2,B b1 0),(6,I s1)],id,[])) (fun  (_:Unit)=>([(1,L ga2 p1 gc3),(2,B b1 0),(6,I rl1)],id,[])) hit1 c () (c.rk [0,1] [0]) (fun s1 q1 _ _ _ c h hr1=>?_) fun _ _ _ c=>?_)
 refine S0 (Bd h fun x1 hx1 h=>S0 (rZ [(7,Pd.el (x1:D.Value)),(8,Pd.fl (Str.val x1.Name)),(9,.eq (Str.val x1.Name))] [(11,0)] mix c ⟨Nid c (.g 0) (gT hx1),Nfa c 7 (atN 7) ZhD,Nlf c 8 (atN 8),tt⟩ fun _ _ c=>I0 c h (fun h=>?_) fun h=>?_))
 refine K0 (wp_block (Tq (P1 [] c fun _ c=>bk (tn (Nx h () (c.rk [0,1] [0]))))))
 refine wp_exit (te (te (be ?_)))
 obtain rfl:=hr1 _ (sk h)
 exact tn ⟨(),c.rk [0,1] [0]⟩
 refine S0 (Bd h fun x2 hx2 h=>S0 (rZ [(7,Pd.el (x2:D.Value)),(8,Pd.fl (Str.val x2.Name)),(9,.eq (Str.val x2.Name))] [(11,0)] mix c ⟨Nid c (.g 0) (gT hx2),Nfa c 7 (atN 7) ZhD,Nlf c 8 (atN 8),tt⟩ fun _ _ c=>I0 c h (fun h=>?_) fun h=>?_))
 refine Bd h fun x3 hx3 h=>S0 (rZ [(3,Pd.el (x3:D.Value)),(4,Pd.fl (I x3.W)),(5,.eq (I x3.W))] [(7,0)] mix c ⟨Nid c (.g 0) (kN hx3),Nfa c 3 (atN 3) Zdw,Nlf c 4 (atN 4),tt⟩ fun _ _ c=>?_)
 cases h
 exact wp_ret (tr (tr (Rg c (ga2,gc3) [0] [] (.tmp (.tmp .nil)))))
 refine K0 (T0 (Elt 45 ([]:List D.Value) c fun a1 c1 _ _ c=>?_))
 refine Fp [] 2 c fun _ c=>?_
 replace c:=c.fz 0
 refine Bd h fun x4 hx4 h=>Esl 45 c (.f 1) hx4 fun u1 _ c=>?_
 obtain ⟨a2,c2,rfl⟩:=c.sl 2
 refine Bd h fun x5 hx5 h=>Eap 1 c (.f 2) hx5 fun a3 c3 _ _ c=>?_
 refine Fp [] 1 c fun _ c=>E0 (T0 (Fp [(2,0),(4,0)] 6 c fun _ c=>Elt 45 ([(D.Value.mk p0.Name p0.W 0)]:List D.Value) c fun a4 c4 _ _ c=>?_))
 replace c:=c.nf
 refine Bd h fun x6 hx6 h=>Eap 1 c (.g 2) hx6 fun a5 c5 _ _ c=>?_
 refine Fp [] 1 c fun _ c=>E0 (T0 (Fp [] 3 c fun _ c=>Bd h fun x7 hx7 h=>Esl 45 c (.f 1) hx7 fun u2 _ c=>?_))
 obtain ⟨a6,c6,rfl⟩:=c.sl 3
 refine Bd h fun x8 hx8 h=>Eap 1 c (.f 3) hx8 fun a7 c7 _ _ c=>?_
 refine Fp [] 2 c fun _ c=>E0 ?_
 cases h
 exact wp_ret (tr (Rg c (a7,c7) [1] [] (.tmp (.tmp .nil))))
 refine K0 (S0 (P0 [(1,0)] c fun _ c=>Bd h fun rl2 hit2 h=>?_))
 have hk2:=h
 refine LpR (fun s2  (i:Oh)=>([(1,L i.1 s2.2 i.2),(73,L ga0 p0.Kids gc1),(74,I (len p0.Kids)),(75,I s2.1)],fun Γ=>Γ.set 0 (sl45 (L i.1 s2.2 i.2) s2.2),[])) (fun s  (i:Oh)=>([(1,L i.1 s i.2)],fun Γ=>Γ.set 0 (sl45 (L i.1 s i.2) s),[])) hit2 c (ga2,gc3) (c.rk [0,1] [0]) (fun s2 q2 i1 _ _ c h hr2=>?_) fun s2r k1 _ _ hrl c=>?_
 refine P0 [] c fun _ c=>S0 (I0 c h (fun h=>?_) fun h=>?_)
 refine K0 (S0 (wp_block (T0 (Bd h fun x9 hx9 h=>Eem c (.f 0) hx9 fun _ u3 _ c=>?_))))
 obtain ⟨a8,c8,rfl,c⟩:=c.o_Term 1
 refine Eal tZ c fun b2 _ _ c=>?_
 refine Ess 2 (tC x9 a8 c8) c fun _ c=>?_
 refine E0 (T0 (Fp [(0,1)] 2 c fun _ c=>Bd h fun x10 hx10 h=>Ca [0] c (ih hx10) ⟨.f 2,tt⟩ call45 fun i2 _ _ c=>?_))
 refine Fp [] 5 c fun _ c=>E0 (S0 (P0 [] c fun _ c=>I0 c h (fun h=>?_) fun h=>?_))
 refine P0 [] c fun _ c=>?_
 replace c:=c.nil (α:=D.Value) 45
 obtain rfl:=hr2 _ (sk h)
 obtain rfl:=sj hk2
 exact wp_ret (tr (br (tr (tr (br (tr (Rg c (none,0) [3] [] (.tmp (.tmp .nil)))))))))
 refine K0 (Tq (P1 [] c fun _ c=>bk (tn (P1 [] c fun _ c=>Nx h (i2.1,i2.2) (c.rk [2,0] [0])))))
 refine wp_exit (te (te (be ?_)))
 obtain rfl:=hr2 _ (sk h)
 exact tn ⟨_,(i1.1,i1.2),rfl,c.rk [0,1] [0]⟩
 subst hrl
 refine P0 [] c fun _ c=>?_
 cases h
 exact wp_ret (Rg c (k1.1,k1.2) [0] [] (.tmp (.tmp .nil)))
theorem ZbQ {p0 r} (h:XK n p0 = some r):C0 24 [tV p0 ga0 gc1] [lR ga0 p0.Kids gc1] (.bool r):=by
 unfold XK at h
 refine En func24 rfl ntmps24 fun _ fr w c=>?_
 refine T0 (Ebx (tC p0 ga0 gc1) c fun b1 _ _ c=>?_)
 refine Fp [] 1 c fun _ c=>E0 (T0 (Eal [I 0] c fun b2 _ _ c=>?_))
 refine Esb 1 0 (I 240) c fun _ c=>?_
 refine E0 (S0 (T0 (Fp [(0,0)] 1 c fun _ c=>Bd h fun x1 hx1 h=>Ca [1] c (ZeK hx1) ⟨.f 0,tt⟩ call60 fun _ _ _ c=>?_)))
 refine Fp [] 1 c fun _ c=>Fp [] 1 c fun _ c=>?_
 rcases Zcj (b:=(!x1.1)) h with ⟨hg1,h⟩ | ⟨hg1,h⟩
 replace c:=c.eqs (v:=.bool (!x1.1)) (u:=.bool true) 9 (by rw [hg1])
 refine Gs c fun _ c=>Gs c fun _ c=>Gs c fun _ c=>Epk (b:=true) (v:=.bool true) c fun _ c=>E0 (I0 c h (fun h=>P0 [] c fun _ c=>rE) fun h=>?_)
 refine K0 (T0 (Fp [(0,0)] 1 c fun _ c=>?_))
 replace c:=c.nil (α:=D.Value) 45
 refine Bd h fun x2 hx2 h=>Ca [2] c (Zas hx2) ⟨.f 0,tt⟩ call45 fun i1 _ _ c=>?_
 exact Fp [] 5 c fun _ c=>E0 (P0 [] c fun _ c=>rE)
 replace c:=c.eqs (v:=.bool (!x1.1)) (u:=.bool false) 9 (by rw [hg1])
 refine Gt c ?_
 dsimp only [List.set]
 refine Fp [(4,0)] 1 c fun _ c=>Gt c ?_
 dsimp only [List.set]
 refine Bd h fun x3 hx3 h=>Cb c (ZdH hx3) ⟨.f 0,tt⟩ call61 fun _ _ _ c=>?_
 refine Gt c ?_
 dsimp only [List.set]
 refine Fp [] 1 c fun _ c=>Epk (b:=false) (v:=.bool (!x3)) c fun _ c=>E0 (I0 c h (fun h=>P0 [] c fun _ c=>rE) fun h=>?_)
 refine K0 (T0 (Fp [(0,0)] 1 c fun _ c=>?_))
 replace c:=c.nf
 replace c:=c.nil (α:=D.Value) 45
 refine Bd h fun x4 hx4 h=>Ca [2] c (Zas hx4) ⟨.f 0,tt⟩ call45 fun i2 _ _ c=>?_
 exact Fp [] 5 c fun _ c=>E0 (P0 [] c fun _ c=>rE)
theorem ZaE {p0 r} (h:ZA n p0 = some r):Con prog 16 [tV p0 ga0 gc1] [] [lR ga0 p0.Kids gc1] fun (i:Oh)=>([L i.1 r i.2],[sl45 (L i.1 r i.2) r],[]):=by
 unfold ZA at h
 refine En func16 rfl ntmps16 fun _ fr w c=>?_
 refine T0 (Ebx (tC p0 ga0 gc1) c fun b1 _ _ c=>?_)
 refine Fp [] 1 c fun _ c=>E0 (S0 (T0 (Fp [(0,0)] 1 c fun _ c=>Bd h fun x1 hx1 h=>Cb c (ZbQ hx1) ⟨.f 0,tt⟩ call24 fun _ _ _ c=>?_)))
 refine Fp [] 1 c fun _ c=>E0 (I0 c h (fun h=>?_) fun h=>?_)
 refine P0 [] c fun _ c=>?_
 replace c:=c.nil (α:=D.Value) 45
 cases h
 exact wp_ret (tr (Rt c (none,0) [1] []))
 refine K0 (T0 (Fp [(0,0)] 1 c fun _ c=>?_))
 replace c:=c.nil (α:=D.Value) 45
 refine Bd h fun x2 hx2 h=>Ca [1] c (Zas hx2) ⟨.f 0,tt⟩ call45 fun i1 _ _ c=>?_
 refine Fp [] 5 c fun _ c=>E0 (P0 [] c fun _ c=>?_)
 cases h
 exact wp_ret (Rt c (i1.1,i1.2) [1] [])
theorem ZdD {p0 r} (h:XY n p0 = some r):C0 25 [L ga0 p0 gc1] [lR ga0 p0 gc1] (I r):=by
 unfold XY at h
 refine En func25 rfl ntmps25 fun _ fr w c=>?_
 refine P0 [] c fun _ c=>P0 [] c fun _ c=>S0 (P0 [] c fun _ c=>Bd h fun rl1 hit1 h=>Lp (fun s1  (_:Unit)=>([(3,I s1.1),(6,L ga0 p0 gc1),(7,I (len p0)),(8,I s1.2)],id,[])) (fun  (_:Unit)=>([(3,I rl1)],id,[])) hit1 c () (c.rk [] [0]) (fun s1 q1 _ _ _ c h hr1=>?_) fun _ _ _ c=>?_)
 refine P0 [] c fun _ c=>S0 (I0 c h (fun h=>?_) fun h=>?_)
 refine K0 (S0 (wp_block (T0 (Bd h fun x1 hx1 h=>Eel c (.f 0) hx1 fun _ _ c=>?_))))
 refine Eal [Str.val ⟨[]⟩,I 0,I 0] c fun b1 _ _ c=>?_
 refine Ess 0 (vC x1) c fun _ c=>?_
 refine E0 (Tq (P1 [(2,0)] c fun _ c=>bk (tn (P1 [] c fun _ c=>Nx h () (c.rk [] [0])))))
 refine wp_exit (te (te (be ?_)))
 obtain rfl:=hr1 _ (sk h)
 exact tn ⟨(),c.rk [] [0]⟩
 exact P0 [] c fun _ c=>rE
theorem ZdF {p0 p1 r} (h:Xy n p0 p1 = some r):C0 62 [L ga0 p0 gc1,Str.val p1] [lR ga0 p0 gc1] (I r):=by
 unfold Xy at h
 refine En func62 rfl ntmps62 fun _ fr w c=>?_
 refine P0 [] c fun _ c=>S0 (P0 [] c fun _ c=>Bd h fun rl1 hit1 h=>?_)
 have hk1:=h
 refine LpR (fun s1  (_:Unit)=>([(1,Str.val p1),(7,L ga0 p0 gc1),(8,I (len p0)),(9,I s1)],id,[])) (fun s  (_:Unit)=>([],id,[])) hit1 c () (c.rk [] [0]) (fun s1 q1 _ _ _ c h hr1=>?_) fun s1r _ _ _ hrl c=>?_
 refine P0 [] c fun _ c=>S0 (I0 c h (fun h=>?_) fun h=>?_)
 refine K0 (S0 (wp_block (T0 (Fp [] 1 c fun _ c=>Bd h fun x1 hx1 h=>Eel c (.f 0) hx1 fun _ _ c=>?_))))
 refine Eal [Str.val ⟨[]⟩,I 0,I 0] c fun b1 _ _ c=>?_
 refine Fp [] 1 c fun _ c=>Ess 0 (vC x1) c fun _ c=>?_
 refine E0 (P0 [(1,0)] c fun _ c=>I0 c h (fun h=>?_) fun h=>?_)
 refine P0 [] c fun _ c=>?_
 obtain rfl:=hr1 _ (sk h)
 obtain rfl:=sj hk1
 exact wp_ret (br (tr (tr (br (tr (Rt c () [] []))))))
 refine K1 (bk (tn (P1 [] c fun _ c=>Nx h () (c.rk [] [0]))))
 refine wp_exit (te (te (be ?_)))
 obtain rfl:=hr1 _ (sk h)
 exact tn ⟨_,(),rfl,c.rk [] [0]⟩
 subst hrl
 exact P0 [] c fun _ c=>rE
theorem Yx {p0 p1 r} (h:ZN p0 p1 = some r):C0 146 [I p0,I p1] [] (I r):=by
 unfold ZN at h
 refine En func146 rfl ntmps146 fun _ fr w c=>?_
 refine P0 [] c fun _ c=>S0 (T0 (Fp [] 1 c fun _ c=>Bd h fun x1 hx1 h=>Cb c (Zv hx1) tt call51 fun _ _ _ c=>?_))
 refine Fp [] 1 c fun _ c=>E0 (I0 c h (fun h=>P0 [] c fun _ c=>rE) fun h=>?_)
 refine K0 (T0 (Fp [] 2 c fun _ c=>Bd h fun x2 hx2 h=>Eshl c hx2 fun _ c=>?_))
 exact Fp [] 3 c fun _ c=>E0 rE
theorem Zcw {p0 p1 p2 r} (h:Y4 p0 p1 p2 = some r):C0 101 [I p0,I p1,I p2] [] (I r):=by
 unfold Y4 at h
 refine En func101 rfl ntmps101 fun _ fr w c=>?_
 refine P0 [] c fun _ c=>S0 (wp_block (T0 (Fp [] 2 c fun _ c=>Bd h fun x1 hx1 h=>Cb c (ZY hx1) tt call33 fun _ _ _ c=>?_)))
 refine Fp [] 2 c fun _ c=>E0 (I0 c h (fun h=>P0 [] c fun _ c=>rE) fun h=>?_)
 refine P0 [] c fun _ c=>I0 c h (fun h=>?_) fun h=>?_
 refine T0 (Fp [] 1 c fun _ c=>Bd h fun x2 hx2 h=>Eshl c hx2 fun _ c=>?_)
 exact Fp [] 4 c fun _ c=>E0 rE
 refine P0 [] c fun _ c=>I0 c h (fun h=>?_) fun h=>K1 (bk (tn (P0 [] c fun _ c=>rE)))
 refine T0 (Fp [] 3 c fun _ c=>Bd h fun x3 hx3 h=>Cb c (Yx hx3) tt call146 fun _ _ _ c=>?_)
 exact Fp [] 1 c fun _ c=>E0 rE
theorem X0 {p0 p1 r} (h:Yw p0 p1 = some r):C0 147 [I p0,I p1] [] (I r):=by
 unfold Yw at h
 refine En func147 rfl ntmps147 fun _ fr w c=>?_
 refine P0 [] c fun _ c=>S0 (T0 (Fp [] 2 c fun _ c=>Bd h fun x1 hx1 h=>Cb c (ZY hx1) tt call33 fun _ _ _ c=>?_))
 refine Fp [] 1 c fun _ c=>E0 (I0 c h (fun h=>P0 [] c fun _ c=>rE) fun h=>?_)
 refine K0 (S0 (T0 (Fp [] 3 c fun _ c=>Bd h fun x2 hx2 h=>Eshr c hx2 fun _ c=>?_)))
 refine Fp [] 1 c fun _ c=>E0 (I0 c h (fun h=>?_) fun h=>K0 (P0 [] c fun _ c=>rE))
 refine T0 (Fp [] 2 c fun _ c=>Bd h fun x3 hx3 h=>Eshl c hx3 fun _ c=>?_)
 exact Fp [] 2 c fun _ c=>E0 rE
theorem Zaf {p0 r} (h:YA p0 = some r):C0 98 [.bool p0] [] (I r):=by
 unfold YA at h
 refine En func98 rfl ntmps98 fun _ fr w c=>?_
 exact P0 [] c fun _ c=>S0 (P0 [] c fun _ c=>I0 c h (fun h=>P0 [] c fun _ c=>rE) fun h=>K0 (P0 [] c fun _ c=>rE))
theorem Zcq {p0 p1 p2 p3 r} (h:YR p0 p1 p2 p3 = some r):C0 102 [I p0,I p1,I p2,I p3] [] (I r):=by
 unfold YR at h
 refine En func102 rfl ntmps102 fun _ fr w c=>?_
 refine P0 [] c fun _ c=>S0 (Bd h fun x1 hx1 h=>Bd h fun x2 hx2 h=>S0 (rZ [(2,.eq (.bool x1)),(7,.eq (.bool x2))] [] mix c ⟨Ncl c (kN (ZY hx1)) tt call33,Ncl c (fun hg=>ZY (iteF (gcF hg) hx2)) tt call33,tt⟩ fun _ _ c=>I0 c h (fun h=>?_) fun h=>?_))
 exact P0 [] c fun _ c=>rE
 refine K0 (S0 (P0 [] c fun _ c=>wp_block (P0 [] c fun _ c=>I0 c h (fun h=>?_) fun h=>?_)))
 refine T0 (Fp [] 4 c fun _ c=>Bd h fun x3 hx3 h=>Cb c (Yx hx3) tt call146 fun _ _ _ c=>?_)
 exact Fp [] 1 c fun _ c=>E0 rE
 refine P0 [] c fun _ c=>I0 c h (fun h=>?_) fun h=>?_
 refine T0 (Fp [] 4 c fun _ c=>Bd h fun x4 hx4 h=>Cb c (Yx hx4) tt call146 fun _ _ _ c=>?_)
 exact Fp [] 1 c fun _ c=>E0 rE
 refine P0 [] c fun _ c=>I0 c h (fun h=>?_) fun h=>?_
 refine T0 (Fp [] 4 c fun _ c=>Bd h fun x5 hx5 h=>Cb c (Yx hx5) tt call146 fun _ _ _ c=>?_)
 exact Fp [] 1 c fun _ c=>E0 rE
 refine P0 [] c fun _ c=>I0 c h (fun h=>?_) fun h=>?_
 refine S0 (P0 [] c fun _ c=>I0 c h (fun h=>?_) fun h=>?_)
 refine T0 (Fp [] 1 c fun _ c=>Bd h fun x6 hx6 h=>Eshl c hx6 fun _ c=>?_)
 exact Fp [] 2 c fun _ c=>E0 rE
 refine K0 (T0 (Fp [] 2 c fun _ c=>Bd h fun x7 hx7 h=>Equo c hx7 fun _ c=>?_))
 exact Fp [] 1 c fun _ c=>E0 rE
 refine P0 [] c fun _ c=>I0 c h (fun h=>?_) fun h=>?_
 refine S0 (P0 [] c fun _ c=>I0 c h (fun h=>P0 [] c fun _ c=>rE) fun h=>?_)
 refine K0 (T0 (Fp [] 2 c fun _ c=>Bd h fun x8 hx8 h=>Erem c hx8 fun _ c=>?_))
 exact Fp [] 1 c fun _ c=>E0 rE
 refine P0 [] c fun _ c=>I0 c h (fun h=>P0 [] c fun _ c=>rE) fun h=>?_
 refine P0 [] c fun _ c=>I0 c h (fun h=>P0 [] c fun _ c=>rE) fun h=>?_
 refine P0 [] c fun _ c=>I0 c h (fun h=>P0 [] c fun _ c=>rE) fun h=>?_
 refine P0 [] c fun _ c=>I0 c h (fun h=>?_) fun h=>?_
 refine S0 (P0 [] c fun _ c=>I0 c h (fun h=>P0 [] c fun _ c=>rE) fun h=>?_)
 refine K0 (T0 (Fp [] 3 c fun _ c=>Bd h fun x9 hx9 h=>Eshl c hx9 fun _ c=>?_))
 refine Bd h fun x10 hx10 h=>Cb c (Yx hx10) tt call146 fun _ _ _ c=>?_
 exact Fp [] 1 c fun _ c=>E0 rE
 refine P0 [] c fun _ c=>I0 c h (fun h=>?_) fun h=>?_
 refine S0 (P0 [] c fun _ c=>I0 c h (fun h=>P0 [] c fun _ c=>rE) fun h=>?_)
 refine K0 (T0 (Fp [] 2 c fun _ c=>Bd h fun x11 hx11 h=>Eshr c hx11 fun _ c=>?_))
 exact Fp [] 1 c fun _ c=>E0 rE
 refine P0 [] c fun _ c=>I0 c h (fun h=>?_) fun h=>?_
 refine S0 (P0 [] c fun _ c=>Mp (decide (p3 ≥ p1)) [(3,I (w64 (p1 - 1)))] [(3,I p3)] [(3,I (cond (decide (p3 ≥ p1)) (w64 (p1 - 1)) p3))] [3,97,98] c fun _ c=>T0 (Fp [] 3 c fun _ c=>Bd h fun x12 hx12 h=>Cb c (X0 hx12) tt call147 fun _ _ _ c=>?_))
 refine Fp [] 1 c fun _ c=>Bd h fun x13 hx13 h=>Eshr c hx13 fun _ c=>?_
 refine Bd h fun x14 hx14 h=>Cb c (Yx hx14) tt call146 fun _ _ _ c=>?_
 exact Fp [] 1 c fun _ c=>E0 rE
 refine P0 [] c fun _ c=>I0 c h (fun h=>?_) fun h=>?_
 refine T0 (Fp [] 3 c fun _ c=>Bd h fun x15 hx15 h=>Cb c (Zaf hx15) tt call98 fun _ _ _ c=>?_)
 exact Fp [] 1 c fun _ c=>E0 rE
 refine P0 [] c fun _ c=>I0 c h (fun h=>?_) fun h=>?_
 refine T0 (Fp [] 3 c fun _ c=>Bd h fun x16 hx16 h=>Cb c (Zaf hx16) tt call98 fun _ _ _ c=>?_)
 exact Fp [] 1 c fun _ c=>E0 rE
 refine P0 [] c fun _ c=>I0 c h (fun h=>?_) fun h=>K1 (bk (tn (P0 [] c fun _ c=>rE)))
 refine T0 (Fp [] 2 c fun _ c=>Bd h fun x17 hx17 h=>Cb c (X0 hx17) tt call147 fun _ _ _ c=>?_)
 refine Fp [] 2 c fun _ c=>Bd h fun x18 hx18 h=>Cb c (X0 hx18) tt call147 fun _ _ _ c=>?_
 refine Fp [] 1 c fun _ c=>Bd h fun x19 hx19 h=>Cb c (Zaf hx19) tt call98 fun _ _ _ c=>?_
 exact Fp [] 1 c fun _ c=>E0 rE
theorem ZcQ {p0 p1 p2 p3 r} (h:Xr p0 p1 p2 p3 = some r):C0 103 [I p0,I p1,I p2,I p3] [] (I r):=by
 unfold Xr at h
 refine En func103 rfl ntmps103 fun _ fr w c=>?_
 refine P0 [] c fun _ c=>S0 (Bd h fun x1 hx1 h=>Bd h fun x2 hx2 h=>S0 (rZ [(2,.eq (.bool x1)),(7,.eq (.bool x2))] [] mix c ⟨Ncl c (kN (ZY hx1)) tt call33,Ncl c (fun hg=>ZY (iteF (gcF hg) hx2)) tt call33,tt⟩ fun _ _ c=>I0 c h (fun h=>?_) fun h=>?_))
 exact P0 [] c fun _ c=>rE
 refine K0 (T0 (Fp [] 2 c fun _ c=>Bd h fun x3 hx3 h=>Eshl c hx3 fun _ c=>?_))
 exact Fp [] 3 c fun _ c=>E0 rE
theorem ZdE {p0 p1 p2 p3 r} (h:XX p0 p1 p2 p3 = some r):C0 104 [I p0,I p1,I p2,I p3] [] (I r):=by
 unfold XX at h
 refine En func104 rfl ntmps104 fun _ fr w c=>?_
 refine P0 [] c fun _ c=>S0 (Bd h fun x1 hx1 h=>S0 (rZ [(2,.eq (.bool x1))] [] mix c ⟨Ncl c (kN (ZY hx1)) tt call33,tt⟩ fun _ _ c=>I0 c h (fun h=>?_) fun h=>?_))
 exact P0 [] c fun _ c=>rE
 refine K0 (T0 (Fp [] 3 c fun _ c=>Bd h fun x2 hx2 h=>Eshr c hx2 fun _ c=>?_))
 refine Bd h fun x3 hx3 h=>Cb c (Yx hx3) tt call146 fun _ _ _ c=>?_
 exact Fp [] 1 c fun _ c=>E0 rE
theorem ZcS {p0 p1 p2 p3 r} (h:YG p0 p1 p2 p3 = some r):C0 105 [I p0,I p1,I p2,.bool p3] [] (I r):=by
 unfold YG at h
 refine En func105 rfl ntmps105 fun _ fr w c=>?_
 refine P0 [] c fun _ c=>S0 (Bd h fun x1 hx1 h=>S0 (rZ [(2,.eq (.bool x1))] [] mix c ⟨Ncl c (kN (ZY hx1)) tt call33,tt⟩ fun _ _ c=>I0 c h (fun h=>?_) fun h=>?_))
 exact P0 [] c fun _ c=>rE
 refine K0 (S0 (P0 [] c fun _ c=>I0 c h (fun h=>?_) fun h=>K0 (P0 [] c fun _ c=>rE)))
 refine T0 (Fp [] 3 c fun _ c=>Bd h fun x2 hx2 h=>Cb c (X0 hx2) tt call147 fun _ _ _ c=>?_)
 refine Bd h fun x3 hx3 h=>Cb c (Yx hx3) tt call146 fun _ _ _ c=>?_
 exact Fp [] 1 c fun _ c=>E0 rE
theorem Zdx {p0 p1 r} (h:X8 p0 p1 = some r):C0 63 [tV p0 ga0 gc1,L ga2 p1 gc3] [lR ga0 p0.Kids gc1,lR ga2 p1 gc3] (I r):=by
 unfold X8 at h
 refine En func63 rfl ntmps63 fun _ fr w c=>?_
 refine T0 (Ebx (tC p0 ga0 gc1) c fun b1 _ _ c=>?_)
 refine Fp [] 1 c fun _ c=>E0 (S0 (wp_block (T0 (Fp [(1,0)] 2 c fun _ c=>Bd h fun x1 hx1 h=>Cb c (Zv hx1) tt call51 fun _ _ _ c=>?_))))
 refine Fp [] 1 c fun _ c=>E0 (I0 c h (fun h=>?_) fun h=>?_)
 refine Bd h fun x2 hx2 h=>Bd h fun x3 hx3 h=>S0 (rZ [(5,Pd.el (x2:Int)),(6,.eq (I x2)),(7,.eq (I x3))] [(1,0),(3,0)] mix c ⟨Nid c (.f 1) (kN hx2),Nld c 5 (q:=x2) (atN 5),Ncl c (kN (Zcw hx3)) tt call101,tt⟩ fun _ _ c=>?_)
 exact rE
 refine T0 (Fp [(1,0)] 2 c fun _ c=>Bd h fun x4 hx4 h=>Cb c (Zv hx4) tt call51 fun _ _ _ c=>?_)
 refine Fp [] 1 c fun _ c=>E0 (I0 c h (fun h=>?_) fun h=>?_)
 refine Bd h fun x5 hx5 h=>?_
 obtain ⟨ep1,u1,c⟩:=c.elp (.f 0) hx5
 obtain ⟨a1,c1,rfl,c⟩:=c.o_Term 3
 refine Bd h fun x6 hx6 h=>Bd h fun x7 hx7 h=>Bd h fun x8 hx8 h=>S0 (rZ [(4,.eq (.pointer (some ep1))),(6,.eq (I x5.W)),(8,Pd.el (x6:Int)),(9,.eq (I x6)),(11,Pd.el (x7:Int)),(12,.eq (I x7)),(13,.eq (I x8))] [(1,0),(3,0)] mix c ⟨Nie c 2,Nlc c 2 1,Nid c (.f 1) (kN hx6),Nld c 8 (q:=x6) (atN 8),Nid c (.f 1) (kN hx7),Nld c 11 (q:=x7) (atN 11),Ncl c (kN (Zcq hx8)) tt call102,tt⟩ fun _ _ c=>?_)
 exact rE
 refine P0 [(1,0)] c fun _ c=>I0 c h (fun h=>?_) fun h=>?_
 refine S0 (T0 (Fp [] 1 c fun _ c=>Bd h fun x9 hx9 h=>Eel c (.f 1) hx9 fun _ _ c=>?_))
 refine Fp [] 1 c fun _ c=>E0 (I0 c h (fun h=>?_) fun h=>?_)
 refine T0 (Fp [] 1 c fun _ c=>Bd h fun x10 hx10 h=>Eel c (.f 1) hx10 fun _ _ c=>?_)
 exact Fp [] 1 c fun _ c=>E0 rE
 refine K0 (T0 (Fp [] 1 c fun _ c=>Bd h fun x11 hx11 h=>Eel c (.f 1) hx11 fun _ _ c=>?_))
 exact Fp [] 1 c fun _ c=>E0 rE
 refine P0 [(1,0)] c fun _ c=>I0 c h (fun h=>?_) fun h=>?_
 refine Bd h fun x12 hx12 h=>?_
 obtain ⟨ep2,u2,c⟩:=c.elp (.f 0) hx12
 obtain ⟨a2,c2,rfl,c⟩:=c.o_Term 3
 refine Bd h fun x13 hx13 h=>Bd h fun x14 hx14 h=>?_
 obtain ⟨ep3,u3,c⟩:=c.elp (.f 0) hx14
 obtain ⟨a3,c3,rfl,c⟩:=c.o_Term 6
 refine Bd h fun x15 hx15 h=>Bd h fun x16 hx16 h=>S0 (rZ [(2,.eq (.pointer (some ep2))),(4,.eq (I x12.W)),(6,Pd.el (x13:Int)),(7,.eq (I x13)),(10,.eq (.pointer (some ep3))),(12,.eq (I x14.W)),(14,Pd.el (x15:Int)),(15,.eq (I x15)),(16,.eq (I x16))] [(1,0),(9,0)] mix c ⟨Nie c 2,Nlc c 2 1,Nid c (.f 1) (kN hx13),Nld c 6 (q:=x13) (atN 6),Nie c 5,Nlc c 5 1,Nid c (.f 1) (kN hx15),Nld c 14 (q:=x15) (atN 14),Ncl c (kN (ZcQ hx16)) tt call103,tt⟩ fun _ _ c=>?_)
 exact rE
 refine P0 [(1,0)] c fun _ c=>I0 c h (fun h=>?_) fun h=>?_
 refine Bd h fun x17 hx17 h=>?_
 obtain ⟨ep4,u4,c⟩:=c.elp (.f 0) hx17
 obtain ⟨a4,c4,rfl,c⟩:=c.o_Term 3
 refine Bd h fun x18 hx18 h=>Bd h fun x19 hx19 h=>S0 (rZ [(2,.eq (.pointer (some ep4))),(4,.eq (I x17.W)),(6,Pd.el (x18:Int)),(7,.eq (I x18)),(12,.eq (I x19))] [(1,0),(9,0),(11,0)] mix c ⟨Nie c 2,Nlc c 2 1,Nid c (.f 1) (kN hx18),Nld c 6 (q:=x18) (atN 6),Ncl c (kN (ZdE hx19)) tt call104,tt⟩ fun _ _ c=>?_)
 exact rE
 refine K1 (bk (tn (Bd h fun x20 hx20 h=>?_)))
 obtain ⟨ep5,u5,c⟩:=c.elp (.f 0) hx20
 obtain ⟨a5,c5,rfl,c⟩:=c.o_Term 3
 refine Bd h fun x21 hx21 h=>Bd h fun x22 hx22 h=>S0 (rZ [(2,.eq (.pointer (some ep5))),(4,.eq (I x20.W)),(6,Pd.el (x21:Int)),(7,.eq (I x21)),(13,.eq (I x22))] [(1,0),(9,0),(11,0)] mix c ⟨Nie c 2,Nlc c 2 1,Nid c (.f 1) (kN hx21),Nld c 6 (q:=x21) (atN 6),Ncl c (kN (ZcS hx22)) tt call105,tt⟩ fun _ _ c=>?_)
 exact rE
theorem ZdI {n:Nat}:∀ {p0 p1 ga0 gc1 ga2 gc3 r} (h:ZZ n p0 p1 = some r),Con prog 26 [tV p0 ga0 gc1,L ga2 p1 gc3] [] [lR ga0 p0.Kids gc1,lR ga2 p1 gc3] fun (_:Unit)=>([I r.1,.bool r.2],[],[]):=by
 induction n with
 | zero=>intro p0 p1 ga0 gc1 ga2 gc3 r h; simp [ZZ] at h
 | succ n ih=>
 intro p0 p1 ga0 gc1 ga2 gc3 r h
 rw [ZZ] at h
 refine En func26 rfl ntmps26 fun _ fr w c=>?_
 refine T0 (Ebx (tC p0 ga0 gc1) c fun b1 _ _ c=>?_)
 refine Fp [] 2 c fun _ c=>E0 (S0 (P0 [(1,0)] c fun _ c=>I0 c h (fun h=>?_) fun h=>?_))
 refine P0 [(1,0)] c fun _ c=>?_
 cases h
 exact wp_ret (tr (Rg c () [] [] (.tmp (.tmp .nil))))
 refine K0 (S0 (P0 [(1,0)] c fun _ c=>I0 c h (fun h=>?_) fun h=>?_))
 refine T0 (Fp [(2,0)] 3 c fun _ c=>Bd h fun x1 hx1 h=>Cb c (ZdF hx1) ⟨.f 1,tt⟩ call62 fun _ _ _ c=>?_)
 refine Fp [] 1 c fun _ c=>E0 (S0 (Bd h fun x2 hx2 h=>S0 (rZ [(5,Pd.el (x2:D.Value)),(6,Pd.fl (I x2.W)),(7,.eq (I x2.W))] [(9,0)] mix c ⟨Nid c (.f 1) (gF hx2),Nfa c 5 (atN 5) Zdw,Nlf c 6 (atN 6),tt⟩ fun _ _ c=>I0 c h (fun h=>?_) fun h=>?_)))
 refine P0 [] c fun _ c=>?_
 cases h
 exact wp_ret (tr (tr (Rg c () [] [] (.tmp (.tmp .nil)))))
 refine K0 (T0 (Fp [] 2 c fun _ c=>Bd h fun x3 hx3 h=>Eef c (.f 1) hx3 Zdo fun _ _ _ c=>?_))
 refine Fp [] 2 c fun _ c=>E0 ?_
 cases h
 exact wp_ret (tr (Rg c () [] [] (.tmp (.tmp .nil))))
 refine K0 (T0 (Elt 3 ([]:List Int) c fun a1 c1 _ _ c=>?_))
 refine Fp [] 1 c fun _ c=>E0 (S0 (P0 [(1,0)] c fun _ c=>Bd h fun rl1 hit1 h=>?_))
 have hk1:=h
 refine LpR (fun s1  (i:Oh)=>([(1,L ga2 p1 gc3),(2,B b1 0),(7,L i.1 s1.2 i.2),(43,L ga0 p0.Kids gc1),(44,I (len p0.Kids)),(45,I s1.1)],fun Γ=>Γ.set 1 (sl3 (L i.1 s1.2 i.2) s1.2),[])) (fun s  (i:Oh)=>([(2,B b1 0),(7,L i.1 s i.2)],fun Γ=>Γ.set 1 (sl3 (L i.1 s i.2) s),[])) hit1 c (a1,c1) (c.rk [0,1] [0,1]) (fun s1 q1 i1 _ _ c h hr1=>?_) fun s1r k1 _ _ hrl c=>?_
 refine P0 [] c fun _ c=>S0 (I0 c h (fun h=>?_) fun h=>?_)
 refine K0 (S0 (wp_block (T0 (Bd h fun x4 hx4 h=>Eem c (.f 0) hx4 fun _ u1 _ c=>?_))))
 obtain ⟨a2,c2,rfl,c⟩:=c.o_Term 2
 refine Eal tZ c fun b2 _ _ c=>?_
 refine Ess 2 (tC x4 a2 c2) c fun _ c=>?_
 refine E0 (T0 (Fp [(0,1)] 2 c fun _ c=>?_))
 replace c:=c.nf
 refine Bd h fun x5 hx5 h=>Cb c (ih hx5) ⟨.f 3,.f 1,tt⟩ call26 fun _ _ _ c=>?_
 refine Fp [] 5 c fun _ c=>E0 (S0 (P0 [] c fun _ c=>I0 c h (fun h=>?_) fun h=>?_))
 refine P0 [] c fun _ c=>?_
 obtain rfl:=hr1 _ (sk h)
 obtain rfl:=sj hk1
 exact wp_ret (tr (br (tr (tr (br (tr (Rg c () [] [] (.tmp (.tmp .nil)))))))))
 refine K0 (T1 (Fp [] 2 c fun _ c=>Elt 3 ([x5.1]:List Int) c fun a3 c3 _ _ c=>?_))
 refine Bd h fun x6 hx6 h=>Eap 1 c (.g 3) hx6 fun a4 c4 _ _ c=>?_
 refine Fp [] 1 c fun _ c=>E1 (bk (tn (P1 [] c fun _ c=>Nx h (a4,c4) (c.rk [0,1] [0,1]))))
 refine wp_exit (te (te (be ?_)))
 obtain rfl:=hr1 _ (sk h)
 exact tn ⟨_,(i1.1,i1.2),rfl,c.rk [0,1] [0,1]⟩
 subst hrl
 refine T0 (Fp [(0,0)] 2 c fun _ c=>Bd h fun x7 hx7 h=>Cb c (Zdx hx7) ⟨.f 0,.g 1,tt⟩ call63 fun _ _ _ c=>?_)
 refine Fp [] 2 c fun _ c=>E0 ?_
 cases h
 exact wp_ret (Rg c () [] [] (.tmp (.tmp .nil)))
theorem ZdK {p0 gn2 r} (h:X3 n p0 = some r):Con prog 27 [.slice ga0 gn2 gc1] [sl45 (.slice ga0 gn2 gc1) p0] [] fun (_:Unit)=>([.bool r.1],[sl45 (.slice ga0 gn2 gc1) r.2],[]):=by
 unfold X3 at h
 refine En func27 rfl ntmps27 fun _ fr w c=>?_
 obtain ⟨rfl,c⟩:=c.relen 0
 refine P0 [] c fun _ c=>S0 (P0 [] c fun _ c=>Bd h fun rl1 hit1 h=>?_)
 have hk1:=h
 refine LpR (fun s1  (_:Unit)=>([(0,L ga0 p0 gc1),(3,I s1.1)],fun Γ=>Γ.set 0 (sl45 (L ga0 p0 gc1) s1.2),[])) (fun s  (_:Unit)=>([],fun Γ=>Γ.set 0 (sl45 (L ga0 p0 gc1) s),[])) hit1 c () (c.rk [0] []) (fun s1 q1 _ _ _ c h hr1=>?_) fun s1r _ _ _ hrl c=>?_
 refine S0 (P0 [] c fun _ c=>I0 c h (fun h=>?_) fun h=>?_)
 refine K0 (S0 (wp_block (S0 (Bd h fun x1 hx1 h=>Bd h fun x2 hx2 h=>Bd h fun x3 hx3 h=>S0 (rZ [(2,Pd.el (x1:D.Value)),(3,Pd.fl (I x1.N)),(4,.eq (I x1.N)),(7,Pd.el (x2:D.Value)),(8,Pd.fl (I x2.W)),(9,.eq (I x2.W)),(10,.eq (I x3))] [] mix c ⟨Nid c (.g 0) (kN hx1),Nfa c 2 (atN 2) Zdo,Nlf c 3 (atN 3),Nid c (.g 0) (kN hx2),Nfa c 7 (atN 7) Zdw,Nlf c 8 (atN 8),Nshl c (kN hx3),tt⟩ fun _ _ c=>I0 c h (fun h=>?_) fun h=>?_)))))
 refine T0 (Fp [] 2 c fun _ c=>Bd h fun x4 hx4 h=>Eef c (.g 0) hx4 Zdo fun _ _ _ c=>?_)
 refine Fp [] 1 c fun _ c=>Bd h fun x5 hx5 h=>Bd h fun x6 hx6 h=>Esf 0 (I (w64 (x4.N + 1))) c hx5 hx6 fun _ _ _ _ c=>?_
 refine E0 (P0 [] c fun _ c=>?_)
 obtain rfl:=hr1 _ (sk h)
 obtain rfl:=sj hk1
 exact wp_ret (tr (br (tr (tr (br (tr (Rt c () [0] [])))))))
 refine K0 (T1 (Fp [] 2 c fun _ c=>Bd h fun x7 hx7 h=>Bd h fun x8 hx8 h=>Esf 0 (I 0) c hx7 hx8 fun _ _ _ _ c=>?_))
 refine E1 (bk (tn (P1 [] c fun _ c=>Nx h () (c.rk [0] []))))
 refine wp_exit (te (te (be ?_)))
 obtain rfl:=hr1 _ (sk h)
 exact tn ⟨_,(),rfl,c.rk [0] []⟩
 subst hrl
 refine P0 [] c fun _ c=>?_
 cases h
 exact wp_ret (Rt c () [0] [])
theorem ZdG {p0 r} (h:YZ n p0 = some r):Cl 7 [tV p0 ga0 gc1] [lR ga0 p0.Kids gc1] r:=by
 unfold YZ at h
 refine En func7 rfl ntmps7 fun _ fr w c=>?_
 refine T0 (Ebx (tC p0 ga0 gc1) c fun b1 _ _ c=>?_)
 refine Fp [] 1 c fun _ c=>E0 (T0 (Fp [(0,0)] 1 c fun _ c=>Bd h fun x1 hx1 h=>Cb c (ZaE hx1) ⟨.f 0,tt⟩ call16 fun i1 _ _ c=>?_))
 refine Fp [] 1 c fun _ c=>E0 (S0 (Bd h fun x2 hx2 h=>Bd h fun x3 hx3 h=>S0 (rZ [(1,.eq (.bool x2)),(5,.eq (I x3))] [(0,0)] mix c ⟨Ncl c (kN (ZbQ hx2)) ⟨.f 0,tt⟩ call24,Ncl c (fun hg=>ZdD (iteF (gcF hg) hx3)) ⟨.g 1,tt⟩ call25,tt⟩ fun _ _ c=>I0 c h (fun h=>?_) fun h=>?_)))
 refine P0 [] c fun _ c=>?_
 cases h
 replace c:=c.nilf (α:=Int)
 exact wp_ret (tr (Rt c (none,0) [] [1]))
 refine K0 (T0 (Elt 3 ([]:List Int) c fun a1 c1 _ _ c=>?_))
 refine Fp [] 1 c fun _ c=>E0 (Bd h fun rl1 hit1 h=>?_)
 have hk1:=h
 refine Tq (LpR (fun s1  (i:Ob Oh)=>([(1,B b1 0),(3,L i.1 s1.1 i.2.1),(4,L i.p2 s1.2 i.q3)],fun Γ=>(Γ.set 1 (sl45 (L i.1 s1.1 i.2.1) s1.1)).set 2 (sl3 (L i.p2 s1.2 i.q3) s1.2),[])) (fun s  (i:Ob (Ob Oh))=>([(2,L i.1 s.1 i.2.1)],fun Γ=>(Γ.set 1 (sl45 (L i.p2 s.2.1 i.p3) s.2.1)).set 2 (sl3 (L i.p4 s.q2 i.q5) s.q2),[lR i.1 s.1 i.2.1])) hit1 c (i1.1,i1.2,a1,c1) (c.rk [0,1,2] [0]) (fun s1 q1 i2 _ _ c h hr1=>?_) fun s1r k1 _ _ hrl c=>?_)
 refine wp_block (T0 (Fp [(0,0)] 2 c fun _ c=>Bd h fun x4 hx4 h=>Cb c (ZdI hx4) ⟨.f 0,.g 1,tt⟩ call26 fun _ _ _ c=>?_))
 refine Fp [] 5 c fun _ c=>E0 (T0 (Fp [] 2 c fun _ c=>Elt 3 ([x4.1]:List Int) c fun a2 c2 _ _ c=>?_))
 replace c:=c.nf
 refine Bd h fun x5 hx5 h=>Eap 2 c (.g 3) hx5 fun a3 c3 _ _ c=>?_
 refine Fp [] 1 c fun _ c=>E0 (T0 (Fp [] 1 c fun _ c=>Bd h fun x6 hx6 h=>Ca [1] c (ZdK hx6) tt call27 fun _ _ _ c=>?_))
 refine Fp [] 1 c fun _ c=>E0 (I0 c h (fun h=>?_) fun h=>?_)
 refine P0 [] c fun _ c=>?_
 replace c:=c.fz 1
 obtain rfl:=hr1 _ (sk h)
 obtain rfl:=sj hk1
 exact wp_ret (br (tr (br (tr (Rt c (a3,c3) [] [1])))))
 refine K1 (bk (tn ?_))
 obtain ⟨he1,c⟩:=c.relen 3
 replace c:=c.eqs (v:=L i2.1 s1.1 i2.2.1) (u:=L i2.1 x6.2 i2.2.1) 3 (by simp only [L,he1])
 exact Nx h (i2.1,i2.2.1,a3,c3) (c.rk [0,3,1] [0])
 subst hrl
 cases h
 exact (Zbe (Rt c (k1.1,k1.2.1) [] [1]))
theorem Zax {p0 r} (h:Yu p0 = some r):C0 106 [I p0] [] (.bool r):=by
 unfold Yu at h
 refine En func106 rfl ntmps106 fun _ fr w c=>?_
 refine P0 [] c fun _ c=>S0 (Ry [] mix c fun _ _ c=>?_)
 exact rE
theorem Zdz {p0 r} (h:Yv p0 = some r):C0 107 [I p0] [] (I r):=by
 unfold Yv at h
 refine En func107 rfl ntmps107 fun _ fr w c=>?_
 refine P0 [] c fun _ c=>S0 (wp_block (S0 (Ry [] mix c fun _ _ c=>I0 c h (fun h=>?_) fun h=>?_)))
 exact P0 [] c fun _ c=>rE
 refine S0 (Ry [] mix c fun _ _ c=>I0 c h (fun h=>?_) fun h=>?_)
 exact P0 [] c fun _ c=>rE
 refine S0 (Ry [] mix c fun _ _ c=>I0 c h (fun h=>?_) fun h=>?_)
 exact P0 [] c fun _ c=>rE
 exact P0 [] c fun _ c=>I0 c h (fun h=>P0 [] c fun _ c=>rE) fun h=>K1 (bk (tn (P0 [] c fun _ c=>rE)))
theorem Zdb {p0 r} (h:Xt p0 = some r):C0 108 [tV p0 ga0 gc1] [lR ga0 p0.Kids gc1] (.bool r):=by
 unfold Xt at h
 refine En func108 rfl ntmps108 fun _ fr w c=>?_
 refine T0 (Ebx (tC p0 ga0 gc1) c fun b1 _ _ c=>?_)
 refine Fp [] 1 c fun _ c=>E0 (P0 [(1,0)] c fun _ c=>S0 (wp_block (S0 (Ry [(1,0),(5,0)] mix c fun _ _ c=>I0 c h (fun h=>?_) fun h=>?_))))
 exact P0 [] c fun _ c=>rE
 refine S0 (Ry [(1,0),(5,0)] mix c fun _ _ c=>I0 c h (fun h=>?_) fun h=>?_)
 refine Bd h fun x1 hx1 h=>?_
 obtain ⟨ep1,u1,c⟩:=c.elp (.f 0) hx1
 obtain ⟨a1,c1,rfl,c⟩:=c.o_Term 2
 refine S0 (rZ [(1,.eq (.pointer (some ep1))),(3,.eq (I x1.W))] [(5,0)] mix c ⟨Nie c 1,Nlc c 1 1,tt⟩ fun _ _ c=>?_)
 exact rE
 refine S0 (Ry [(1,0),(5,0)] mix c fun _ _ c=>I0 c h (fun h=>?_) fun h=>?_)
 refine Bd h fun x2 hx2 h=>?_
 obtain ⟨ep2,u2,c⟩:=c.elp (.f 0) hx2
 obtain ⟨a2,c2,rfl,c⟩:=c.o_Term 2
 refine Bd h fun x3 hx3 h=>S0 (rZ [(1,.eq (.pointer (some ep2))),(3,.eq (I x2.W)),(9,Pd.el (x3:D.Term)),(10,Pd.fl (I x3.W)),(11,.eq (I x3.W))] [(5,0),(13,0)] mix c ⟨Nie c 1,Nlc c 1 1,Nid c (.f 0) (gT hx3),Nfa c 9 (atN 9) Zc4,Nlf c 10 (atN 10),tt⟩ fun _ _ c=>?_)
 exact rE
 refine S0 (Ry [(1,0),(5,0)] mix c fun _ _ c=>I0 c h (fun h=>?_) fun h=>?_)
 refine Bd h fun x4 hx4 h=>?_
 obtain ⟨ep3,u3,c⟩:=c.elp (.f 0) hx4
 obtain ⟨a3,c3,rfl,c⟩:=c.o_Term 2
 refine Bd h fun x5 hx5 h=>?_
 obtain ⟨ep4,u4,c⟩:=c.elp (.f 0) hx5
 obtain ⟨a4,c4,rfl,c⟩:=c.o_Term 5
 refine S0 (rZ [(1,.eq (.pointer (some ep3))),(3,.eq (I x4.W)),(5,.eq (.pointer (some ep4))),(7,.eq (I x5.W))] [(11,0)] mix c ⟨Nie c 1,Nlc c 1 1,Nie c 4,Nlc c 4 1,tt⟩ fun _ _ c=>?_)
 exact rE
 refine P0 [(1,0)] c fun _ c=>I0 c h (fun h=>?_) fun h=>?_
 refine Bd h fun x6 hx6 h=>?_
 obtain ⟨ep5,u5,c⟩:=c.elp (.f 0) hx6
 obtain ⟨a5,c5,rfl,c⟩:=c.o_Term 2
 refine Bd h fun x7 hx7 h=>Bd h fun x8 hx8 h=>S0 (rZ [(1,.eq (.pointer (some ep5))),(3,.eq (I x6.W)),(7,Pd.el (x7:D.Term)),(8,Pd.fl (I x7.W)),(9,.eq (I x7.W)),(16,Pd.el (x8:D.Term)),(17,Pd.fl (I x8.W)),(18,.eq (I x8.W))] [(11,0),(20,0)] mix c ⟨Nie c 1,Nlc c 1 1,Nid c (.f 0) (gT hx7),Nfa c 7 (atN 7) Zc4,Nlf c 8 (atN 8),Nid c (.f 0) (gT hx8),Nfa c 16 (atN 16) Zc4,Nlf c 17 (atN 17),tt⟩ fun _ _ c=>?_)
 exact rE
 refine P0 [(1,0)] c fun _ c=>I0 c h (fun h=>?_) fun h=>?_
 refine Bd h fun x9 hx9 h=>?_
 obtain ⟨ep6,u6,c⟩:=c.elp (.f 0) hx9
 obtain ⟨a6,c6,rfl,c⟩:=c.o_Term 2
 refine Bd h fun x10 hx10 h=>?_
 obtain ⟨ep7,u7,c⟩:=c.elp (.f 0) hx10
 obtain ⟨a7,c7,rfl,c⟩:=c.o_Term 5
 refine S0 (rZ [(1,.eq (.pointer (some ep6))),(3,.eq (I x9.W)),(5,.eq (.pointer (some ep7))),(7,.eq (I x10.W))] [(10,0)] mix c ⟨Nie c 1,Nlc c 1 1,Nie c 4,Nlc c 4 1,tt⟩ fun _ _ c=>?_)
 exact rE
 refine P0 [(1,0)] c fun _ c=>I0 c h (fun h=>?_) fun h=>?_
 refine Bd h fun x11 hx11 h=>S0 (rZ [(7,Pd.el (x11:D.Term)),(8,Pd.fl (I x11.W)),(9,.eq (I x11.W))] [(1,0),(5,0),(11,0)] mix c ⟨Nid c (.f 0) (gT hx11),Nfa c 7 (atN 7) Zc4,Nlf c 8 (atN 8),tt⟩ fun _ _ c=>?_)
 exact rE
 refine K1 (bk (tn (Bd h fun x12 hx12 h=>?_)))
 obtain ⟨ep8,u8,c⟩:=c.elp (.f 0) hx12
 obtain ⟨a8,c8,rfl,c⟩:=c.o_Term 2
 refine S0 (rZ [(1,.eq (.pointer (some ep8))),(3,.eq (I x12.W))] [(5,0)] mix c ⟨Nie c 1,Nlc c 1 1,tt⟩ fun _ _ c=>?_)
 exact rE
theorem Zev {p0 p1 r} (h:XQ p0 p1 = some r):C0 109 [I p0,I p1] [] (.bool r):=by
 unfold XQ at h
 refine En func109 rfl ntmps109 fun _ fr w c=>?_
 refine P0 [] c fun _ c=>Bd h fun x1 hx1 h=>Bd h fun x2 hx2 h=>S0 (rZ [(1,.eq (.bool x1)),(10,.eq (I x2))] [] mix c ⟨Ncl c (kN (Zax hx1)) tt call106,Nshl c (gT hx2),tt⟩ fun _ _ c=>?_)
 exact rE
theorem Zep {p0 r} (h:Zao n p0 = some r):C0 148 [Str.val p0] [] (.bool r):=by
 unfold Zao at h
 refine En func148 rfl ntmps148 fun _ fr w c=>?_
 refine P0 [] c fun _ c=>S0 (S0 (Ry [] mix c fun _ _ c=>I0 c h (fun h=>?_) fun h=>?_))
 exact P0 [] c fun _ c=>rE
 refine K0 (S0 (P0 [] c fun _ c=>Bd h fun rl1 hit1 h=>?_))
 have hk1:=h
 refine LpR (fun s1  (_:Unit)=>([(0,Str.val p0),(3,I s1)],id,[])) (fun s  (_:Unit)=>([],id,[])) hit1 c () (c.rk [] []) (fun s1 q1 _ _ _ c h hr1=>?_) fun s1r _ _ _ hrl c=>?_
 refine S0 (P0 [] c fun _ c=>I0 c h (fun h=>?_) fun h=>?_)
 refine K0 (S0 (wp_block (Bd h fun x1 hx1 h=>Bd h fun x2 hx2 h=>S0 (rZ [(2,.eq (.int .u8 x1)),(7,.eq (.int .u8 x2))] [] mix c ⟨Nix c (kN hx1),Nix c (gT hx2),tt⟩ fun _ _ c=>Bd h fun x3 hx3 h=>Bd h fun x4 hx4 h=>S0 (rZ [(2,.eq (.int .u8 x3)),(7,.eq (.int .u8 x4))] [] mix c ⟨Nix c (kN hx3),Nix c (gT hx4),tt⟩ fun _ _ c=>S0 (Ry [] mix c fun _ _ c=>I0 c h (fun h=>?_) fun h=>?_))))))
 refine P0 [] c fun _ c=>?_
 obtain rfl:=hr1 _ (sk h)
 obtain rfl:=sj hk1
 exact wp_ret (br (tr (tr (br (tr (Rt c () [] []))))))
 refine K1 (bk (tn (P1 [] c fun _ c=>Nx h () (c.rk [] []))))
 refine wp_exit (te (te (be ?_)))
 obtain rfl:=hr1 _ (sk h)
 exact tn ⟨_,(),rfl,c.rk [] []⟩
 subst hrl
 exact P0 [] c fun _ c=>rE
theorem ZaA {p0 p1 gb0 gu1 r} (h:Ye n p0 p1 = some r):Con prog 110 [B gb0 0,tV p1 ga2 gc3] [BX gb0 109 [I p0.count,gu1],OM map107 (gu1) p0.widths] [lR ga2 p1.Kids gc3] fun (i:Value)=>([.bool r.1],[BX gb0 109 [I r.2.count,i],OM map107 (i) r.2.widths],[]):=by
 unfold Ye at h
 refine En func110 rfl ntmps110 fun _ fr w c=>?_
 refine T0 (Ebx (tC p1 ga2 gc3) c fun b1 _ _ c=>?_)
 refine Fp [] 1 c fun _ c=>E0 (S0 (T0 (Fp [(1,1)] 2 c fun _ c=>Bd h fun x1 hx1 h=>Cb c (Zep hx1) tt call148 fun _ _ _ c=>?_)))
 refine Fp [] 1 c fun _ c=>E0 (I0 c h (fun h=>?_) fun h=>?_)
 refine P0 [] c fun _ c=>?_
 cases h
 exact wp_ret (tr (Rt c (gu1) [0,1] []))
 refine K0 (S0 (T0 (Fp [(3,0)] 4 c fun _ c=>Enm 1 c fun _ c=>?_)))
 refine E0 (If c (b:=(Option.isNone p0.widths)) (fun hb=>?_) fun hb=>?_)
 replace h:=iteT hb h
 obtain rfl:=c.nom 1 hb
 replace c:=c.dp [1]
 refine T1 (Fp [] 1 c fun _ c=>Emm map107 c fun b2 _ _ c=>?_)
 refine Fp [] 2 c fun _ c=>Esb 0 1 (.map (some b2)) c fun _ c=>?_
 refine E0 (S0 (Bd h fun x2 hx2 h=>S0 (rZ [(6,.eq (.tuple #[I x2.1,.bool x2.2]))] [(3,0),(5,1)] mix c ⟨Nmg2 2 c (kN hx2),tt⟩ fun _ _ c=>P0 [] c fun _ c=>I0 c h (fun h=>?_) fun h=>?_)))
 refine P0 [(2,1)] c fun _ c=>?_
 replace c:=c.om 2
 cases h
 exact wp_ret (tr (Rt c (.map (some b2)) [0,2] []))
 refine K0 (S0 (Yj mix (rM 8 [] [(3,0),(5,1),(7,1)] c (fun ow=>tt) fun _ _ _ _ _ c=>Bd h fun x3 hx3 h=>Emp 2 c hx3 fun _ c=>?_)))
 refine E0 (P0 [] c fun _ c=>?_)
 replace c:=c.om 2
 cases h
 exact wp_ret (Rt c (.map (some b2)) [0,2] [])
 replace h:=iteF hb h
 obtain ⟨b3,rfl,c⟩:=c.som 1 hb
 refine K0 (S0 (Bd h fun x4 hx4 h=>S0 (rZ [(6,.eq (.tuple #[I x4.1,.bool x4.2]))] [(3,0),(5,1)] mix c ⟨Nmg2 1 c (kN hx4),tt⟩ fun _ _ c=>P0 [] c fun _ c=>I0 c h (fun h=>?_) fun h=>?_)))
 refine P0 [(2,1)] c fun _ c=>?_
 replace c:=c.om 1
 cases h
 exact wp_ret (tr (Rt c (.map (some b3)) [0,1] []))
 refine K0 (S0 (Yj mix (rM 8 [] [(3,0),(5,1),(7,1)] c (fun ow=>tt) fun _ _ _ _ _ c=>Bd h fun x5 hx5 h=>Emp 1 c hx5 fun _ c=>?_)))
 refine E0 (P0 [] c fun _ c=>?_)
 replace c:=c.om 1
 cases h
 exact wp_ret (Rt c (.map (some b3)) [0,1] [])
theorem Zby {n:Nat}:∀ {p0 p1 gb0 gu1 ga2 gc3 r} (h:Zy n p0 p1 = some r),Con prog 64 [B gb0 0,tV p1 ga2 gc3] [BX gb0 109 [I p0.count,gu1],OM map107 (gu1) p0.widths] [lR ga2 p1.Kids gc3] fun (i:Value)=>([.bool r.1],[BX gb0 109 [I r.2.count,i],OM map107 (i) r.2.widths],[]):=by
 induction n with
 | zero=>intro p0 p1 gb0 gu1 ga2 gc3 r h; simp [Zy] at h
 | succ n ih=>
 intro p0 p1 gb0 gu1 ga2 gc3 r h
 rw [Zy] at h
 refine En func64 rfl ntmps64 fun _ fr w c=>?_
 refine T0 (Ebx (tC p1 ga2 gc3) c fun b1 _ _ c=>?_)
 refine Fp [] 1 c fun _ c=>E0 (T0 (Fp [(3,0)] 7 c fun _ c=>Esb 0 0 (I (w64 (p0.count + 1))) c fun _ c=>?_))
 refine E0 (S0 (Bd h fun x1 hx1 h=>Bd h fun x2 hx2 h=>S0 (rZ [(8,.eq (.bool x1)),(17,.eq (I x2))] [(3,0),(7,1),(13,1),(16,1)] mix c ⟨Ncl c (fun hg=>Zax (iteF (gcF hg) hx1)) tt call106,Ncl c (fun hg=>Zdz (iteF (gcF hg) hx2)) tt call107,tt⟩ fun _ _ c=>I0 c h (fun h=>?_) fun h=>?_)))
 refine P0 [] c fun _ c=>?_
 cases h
 exact wp_ret (tr (Rt c (gu1) [0,1] []))
 refine K0 (S0 (P0 [(1,1)] c fun _ c=>Bd h fun rl1 hit1 h=>?_))
 have hk1:=h
 refine LpR (fun s1  (_:Unit)=>([(0,B gb0 0),(3,B b1 0),(36,I (len p1.Kids)),(37,I s1)],id,[])) (fun s  (_:Unit)=>([(0,B gb0 0),(3,B b1 0)],id,[])) hit1 c () (c.rk [0,1,2] [0]) (fun s1 q1 _ _ _ c h hr1=>?_) fun s1r _ _ _ hrl c=>?_
 refine P0 [] c fun _ c=>S0 (I0 c h (fun h=>?_) fun h=>?_)
 refine K0 (S0 (wp_block (P0 [] c fun _ c=>T0 (Fp [(1,1)] 3 c fun _ c=>Bd h fun x3 hx3 h=>Eef c (.f 0) hx3 Zc4 fun _ _ _ c=>?_))))
 refine Bd h fun x4 hx4 h=>Cb c (Zax hx4) tt call106 fun _ _ _ c=>?_
 refine Fp [] 1 c fun _ c=>E0 (I0 c h (fun h=>?_) fun h=>?_)
 refine P0 [] c fun _ c=>?_
 obtain rfl:=hr1 _ (sk h)
 obtain rfl:=sj hk1
 exact wp_ret (br (tr (tr (br (tr (Rt c (gu1) [0,1] []))))))
 refine K1 (bk (tn (P1 [] c fun _ c=>Nx h () (c.rk [0,1,2] [0]))))
 refine wp_exit (te (te (be ?_)))
 obtain rfl:=hr1 _ (sk h)
 exact tn ⟨_,(),rfl,c.rk [0,1,2] [0]⟩
 subst hrl
 refine S0 (T0 (Fp [(0,1)] 1 c fun _ c=>Bd h fun x5 hx5 h=>Cb c (Zdb hx5) ⟨.f 0,tt⟩ call108 fun _ _ _ c=>?_))
 refine Fp [] 1 c fun _ c=>E0 (I0 c h (fun h=>?_) fun h=>?_)
 refine P0 [] c fun _ c=>?_
 cases h
 exact wp_ret (tr (Rt c (gu1) [0,1] []))
 refine K0 (S0 (Bd h fun x6 hx6 h=>S0 (rZ [(8,.eq (.bool x6))] [(1,1),(5,1),(7,1)] mix c ⟨Ncl c (fun hg=>Zev (iteT (gcT hg) hx6)) tt call109,tt⟩ fun _ _ c=>I0 c h (fun h=>?_) fun h=>?_)))
 refine P0 [] c fun _ c=>?_
 cases h
 exact wp_ret (tr (Rt c (gu1) [0,1] []))
 refine K0 (S0 (S0 (Ry [(1,1),(5,1),(10,1)] mix c fun _ _ c=>I0 c h (fun h=>?_) fun h=>?_)))
 refine P0 [] c fun _ c=>?_
 cases h
 exact wp_ret (tr (Rt c (gu1) [0,1] []))
 refine K0 (S0 (P0 [(1,1)] c fun _ c=>I0 c h (fun h=>?_) fun h=>?_))
 refine P0 [(1,1)] c fun _ c=>I0 c h (fun h=>?_) fun h=>?_
 refine P0 [] c fun _ c=>?_
 cases h
 exact wp_ret (tr (Rt c (gu1) [0,1] []))
 refine K0 (S0 (P0 [(1,1)] c fun _ c=>Bd h fun rl2 hit2 h=>?_))
 have hk2:=h
 refine LpR (fun s2  (i:Value)=>([(0,B gb0 0),(3,B b1 0),(88,I (len p1.Kids)),(89,I s2.1)],fun Γ=>(Γ.set 0 (BX gb0 109 [I s2.2.1,i])).set 1 (OM map107 (i) s2.q2),[])) (fun s  (i:Value)=>([],fun Γ=>(Γ.set 0 (BX gb0 109 [I s.1,i])).set 1 (OM map107 (i) s.2),[])) hit2 c (gu1) (c.rk [0,1,2] [0]) (fun s2 q2 i1 _ _ c h hr2=>?_) fun s2r k1 _ _ hrl c=>?_
 refine P0 [] c fun _ c=>S0 (I0 c h (fun h=>?_) fun h=>?_)
 refine K0 (S0 (wp_block (P0 [] c fun _ c=>T0 (Fp [(2,1)] 4 c fun _ c=>Bd h fun x7 hx7 h=>Eem c (.f 0) hx7 fun _ u1 _ c=>?_))))
 obtain ⟨a1,c1,rfl,c⟩:=c.o_Term 1
 refine Bd h fun x8 hx8 h=>Ca [0,1] c (ih hx8) ⟨.f 2,tt⟩ call64 fun i2 _ _ c=>?_
 refine Fp [] 1 c fun _ c=>E0 (I0 c h (fun h=>?_) fun h=>?_)
 refine P0 [] c fun _ c=>?_
 obtain rfl:=hr2 _ (sk h)
 obtain rfl:=sj hk2
 exact wp_ret (br (tr (tr (br (tr (Rt c (i2) [1,2] []))))))
 refine K1 (bk (tn (P1 [] c fun _ c=>Nx h (i2) (c.rk [1,2,0] [0]))))
 refine wp_exit (te (te (be ?_)))
 obtain rfl:=hr2 _ (sk h)
 exact tn ⟨_,(i1),rfl,c.rk [0,1,2] [0]⟩
 subst hrl
 refine P0 [] c fun _ c=>?_
 cases h
 exact wp_ret (Rt c (k1) [0,1] [])
 refine T0 (Fp [(1,1)] 2 c fun _ c=>Bd h fun x9 hx9 h=>Ca [0,1] c (ZaA hx9) ⟨.f 0,tt⟩ call110 fun i3 _ _ c=>?_)
 refine Fp [] 1 c fun _ c=>E0 (I0 c h (fun h=>?_) fun h=>?_)
 refine P0 [] c fun _ c=>?_
 cases h
 exact wp_ret (tr (Rt c (i3) [1,2] []))
 refine K0 (S0 (P0 [(1,0)] c fun _ c=>Bd h fun rl3 hit3 h=>?_))
 have hk3:=h
 refine LpR (fun s3  (i:Value)=>([(0,B gb0 0),(3,B b1 0),(88,I (len p1.Kids)),(89,I s3.1)],fun Γ=>(Γ.set 1 (BX gb0 109 [I s3.2.1,i])).set 2 (OM map107 (i) s3.q2),[])) (fun s  (i:Value)=>([],fun Γ=>(Γ.set 1 (BX gb0 109 [I s.1,i])).set 2 (OM map107 (i) s.2),[])) hit3 c (i3) (c.rk [0,1,2] [0]) (fun s3 q3 i4 _ _ c h hr3=>?_) fun s3r k2 _ _ hrl c=>?_
 refine P0 [] c fun _ c=>S0 (I0 c h (fun h=>?_) fun h=>?_)
 refine K0 (S0 (wp_block (P0 [] c fun _ c=>T0 (Fp [(2,0)] 4 c fun _ c=>Bd h fun x10 hx10 h=>Eem c (.f 0) hx10 fun _ u2 _ c=>?_))))
 obtain ⟨a2,c2,rfl,c⟩:=c.o_Term 1
 replace c:=c.nf
 refine Bd h fun x11 hx11 h=>Ca [1,2] c (ih hx11) ⟨.f 2,tt⟩ call64 fun i5 _ _ c=>?_
 refine Fp [] 1 c fun _ c=>E0 (I0 c h (fun h=>?_) fun h=>?_)
 refine P0 [] c fun _ c=>?_
 obtain rfl:=hr3 _ (sk h)
 obtain rfl:=sj hk3
 exact wp_ret (br (tr (tr (br (tr (Rt c (i5) [1,2] []))))))
 refine K1 (bk (tn (P1 [] c fun _ c=>Nx h (i5) (c.rk [0,1,2] [0]))))
 refine wp_exit (te (te (be ?_)))
 obtain rfl:=hr3 _ (sk h)
 exact tn ⟨_,(i4),rfl,c.rk [0,1,2] [0]⟩
 subst hrl
 refine P0 [] c fun _ c=>?_
 cases h
 exact wp_ret (Rt c (k2) [1,2] [])
theorem XU {p0 r} (h:YV n p0 = some r):C0 28 [tV p0 ga0 gc1] [lR ga0 p0.Kids gc1] (.bool r):=by
 unfold YV at h
 refine En func28 rfl ntmps28 fun _ fr w c=>?_
 refine T0 (Ebx (tC p0 ga0 gc1) c fun b1 _ _ c=>?_)
 refine Fp [] 1 c fun _ c=>E0 (T0 (Eal [I 0,.map none] c fun b2 _ _ c=>?_))
 refine E0 (T0 (Fp [(0,0)] 1 c fun _ c=>?_))
 replace c:=c.nilm map107
 refine Bd h fun x1 hx1 h=>Ca [1,2] c (Zby hx1) ⟨.f 0,tt⟩ call64 fun i1 _ _ c=>?_
 exact Fp [] 1 c fun _ c=>E0 rE
theorem Zav {p0 r} (h:Y9 p0 = some r):C0 29 [I p0] [] (.bool r):=by
 unfold Y9 at h
 refine En func29 rfl ntmps29 fun _ fr w c=>?_
 refine P0 [] c fun _ c=>S0 (Ry [] mix c fun _ _ c=>?_)
 exact rE
theorem Zcu {p0 r} (h:Xf p0 = some r):C0 71 [I p0] [] (.bool r):=by
 unfold Xf at h
 refine En func71 rfl ntmps71 fun _ fr w c=>?_
 refine P0 [] c fun _ c=>S0 (Ry [] mix c fun _ _ c=>?_)
 exact rE
theorem ZdJ {n:Nat}:∀ {p0 ga0 gc1 r} (h:YM n p0 = some r),C0 35 [tV p0 ga0 gc1] [lR ga0 p0.Kids gc1] (.bool r):=by
 induction n with
 | zero=>intro p0 ga0 gc1 r h; simp [YM] at h
 | succ n ih=>
 intro p0 ga0 gc1 r h
 rw [YM] at h
 refine En func35 rfl ntmps35 fun _ fr w c=>?_
 refine T0 (Ebx (tC p0 ga0 gc1) c fun b1 _ _ c=>?_)
 refine Fp [] 1 c fun _ c=>E0 (S0 (Bd h fun x1 hx1 h=>Bd h fun x2 hx2 h=>S0 (rZ [(6,.eq (.bool x1)),(11,Pd.el (x2:D.Term)),(12,Pd.fl (I x2.W)),(13,.eq (I x2.W))] [(1,0),(5,0),(10,0)] mix c ⟨Ncl c (fun hg=>Zcu (iteF (gcF hg) hx1)) tt call71,Nid c (.f 0) (gT hx2),Nfa c 11 (atN 11) Zc4,Nlf c 12 (atN 12),tt⟩ fun _ _ c=>I0 c h (fun h=>?_) fun h=>?_)))
 exact P0 [] c fun _ c=>rE
 refine K0 (S0 (P0 [(1,0)] c fun _ c=>Bd h fun rl1 hit1 h=>?_))
 have hk1:=h
 refine LpR (fun s1  (_:Unit)=>([(1,B b1 0),(22,I (len p0.Kids)),(23,I s1)],id,[])) (fun s  (_:Unit)=>([],id,[])) hit1 c () (c.rk [0] [0]) (fun s1 q1 _ _ _ c h hr1=>?_) fun s1r _ _ _ hrl c=>?_
 refine P0 [] c fun _ c=>S0 (I0 c h (fun h=>?_) fun h=>?_)
 refine K0 (S0 (wp_block (P0 [] c fun _ c=>T0 (Fp [(1,0)] 3 c fun _ c=>Bd h fun x3 hx3 h=>Eem c (.f 0) hx3 fun _ u1 _ c=>?_))))
 obtain ⟨a1,c1,rfl,c⟩:=c.o_Term 1
 refine Bd h fun x4 hx4 h=>Cb c (ih hx4) ⟨.f 2,tt⟩ call35 fun _ _ _ c=>?_
 refine E0 (I0 c h (fun h=>?_) fun h=>?_)
 refine P0 [] c fun _ c=>?_
 obtain rfl:=hr1 _ (sk h)
 obtain rfl:=sj hk1
 exact wp_ret (br (tr (tr (br (tr (Rt c () [] []))))))
 refine K1 (bk (tn (P1 [] c fun _ c=>Nx h () (c.rk [0] [0]))))
 refine wp_exit (te (te (be ?_)))
 obtain rfl:=hr1 _ (sk h)
 exact tn ⟨_,(),rfl,c.rk [0] [0]⟩
 subst hrl
 exact P0 [] c fun _ c=>rE
theorem Zcp {n:Nat}:∀ {p0 p1 ga0 gc1 gu2 r} (h:ZQ n p0 p1 = some r),Con prog 72 [tV p0 ga0 gc1,gu2] [OM map107 (gu2) p1] [lR ga0 p0.Kids gc1] fun (_:Unit)=>([],[OM map107 (gu2) r],[]):=by
 induction n with
 | zero=>intro p0 p1 ga0 gc1 gu2 r h; simp [ZQ] at h
 | succ n ih=>
 intro p0 p1 ga0 gc1 gu2 r h
 rw [ZQ] at h
 refine En func72 rfl ntmps72 fun _ fr w c=>?_
 refine T0 (Ebx (tC p0 ga0 gc1) c fun b1 _ _ c=>?_)
 refine E0 (S0 (P0 [(1,0)] c fun _ c=>I0 c h (fun h=>?_) fun h=>?_))
 refine T1 (Fp [(2,0),(4,0)] 5 c fun _ c=>Bd h fun x1 hx1 h=>?_)
 obtain ⟨b2,rfl,c⟩:=c.smx 0 hx1
 refine Bd h fun x2 hx2 h=>Emp 0 c hx2 fun _ c=>?_
 refine E0 (P0 [(1,0)] c fun _ c=>?_)
 replace c:=c.om 0
 refine Bd h fun rl1 hit1 h=>Tq (Lp (fun s1  (_:Unit)=>([(1,.map (some b2)),(2,B b1 0),(15,I (len p0.Kids)),(16,I s1.1)],fun Γ=>Γ.set 0 (OM map107 (.map (some b2)) s1.2),[])) (fun  (_:Unit)=>([],fun Γ=>Γ.set 0 (OM map107 (.map (some b2)) rl1),[])) hit1 c () (c.rk [0,1] [0]) (fun s1 q1 _ _ _ c h hr1=>?_) fun _ _ _ c=>?_)
 refine P0 [] c fun _ c=>S0 (I0 c h (fun h=>?_) fun h=>?_)
 refine K0 (S0 (wp_block (P0 [] c fun _ c=>T1 (Fp [(1,0)] 3 c fun _ c=>Bd h fun x3 hx3 h=>Eem c (.f 0) hx3 fun _ u1 _ c=>?_))))
 obtain ⟨a1,c1,rfl,c⟩:=c.o_Term 1
 refine Fp [] 1 c fun _ c=>Bd h fun x4 hx4 h=>Ca [0] c (ih hx4) ⟨.f 2,tt⟩ call72 fun _ _ _ c=>?_
 refine E1 (bk (tn (P1 [] c fun _ c=>Nx h () (c.rk [1,0] [0]))))
 refine wp_exit (te (te (be ?_)))
 obtain rfl:=hr1 _ (sk h)
 exact tn ⟨(),c.rk [0,1] [0]⟩
 obtain rfl:=sj h
 exact (Zbe (Rg c () [0] [] .nil))
 refine K0 (P0 [(1,0)] c fun _ c=>Bd h fun rl2 hit2 h=>Tq (Lp (fun s2  (_:Unit)=>([(1,gu2),(2,B b1 0),(15,I (len p0.Kids)),(16,I s2.1)],fun Γ=>Γ.set 0 (OM map107 (gu2) s2.2),[])) (fun  (_:Unit)=>([],fun Γ=>Γ.set 0 (OM map107 (gu2) rl2),[])) hit2 c () (c.rk [0,1] [0]) (fun s2 q2 _ _ _ c h hr2=>?_) fun _ _ _ c=>?_))
 refine P0 [] c fun _ c=>S0 (I0 c h (fun h=>?_) fun h=>?_)
 refine K0 (S0 (wp_block (P0 [] c fun _ c=>T1 (Fp [(1,0)] 3 c fun _ c=>Bd h fun x5 hx5 h=>Eem c (.f 0) hx5 fun _ u2 _ c=>?_))))
 obtain ⟨a2,c2,rfl,c⟩:=c.o_Term 1
 refine Fp [] 1 c fun _ c=>Bd h fun x6 hx6 h=>Ca [0] c (ih hx6) ⟨.f 2,tt⟩ call72 fun _ _ _ c=>?_
 refine E1 (bk (tn (P1 [] c fun _ c=>Nx h () (c.rk [1,0] [0]))))
 refine wp_exit (te (te (be ?_)))
 obtain rfl:=hr2 _ (sk h)
 exact tn ⟨(),c.rk [0,1] [0]⟩
 obtain rfl:=sj h
 exact (Zbe (Rg c () [0] [] .nil))
structure Gat (m:List (Str × Int)) (left:Lit → Bool) (l:List D.Value):Prop where
  nd:l.Pairwise fun a b=>a.Name ≠ b.Name
  mem:∀ v,v ∈ l ↔ m.lookup v.Name = some v.W ∧ v.N = 0 ∧ left (map107.lit v.Name) = false
theorem Zma (a b:Str):(map107.lit a).sameKey (map107.lit b) = decide (a = b):=by
  cases a; cases b
  show Lit.sameKey (.string _) (.string _) = _
  simp only [Lit.sameKey,Str.mk.injEq]
  exact Bool.beq_eq_decide_eq _ _
theorem ZmW {m:List (Str × Int)} (hf:∀ p ∈ m,map107.fit p.1 = true) {s w} (h:m.lookup s = some w):map107.fit s = true:=by
  induction m with
  | nil=>cases h
  | cons p m ih =>
    obtain ⟨u,y⟩:=p
    rw [Zoi] at h
    by_cases e:s = u
    · subst e; exact hf _ ZnR
    · have e' : (s == u) = false := by simpa using e
      rw [e'] at h
      exact ih (fun p hp=>hf p (ZnZ _ hp)) h
theorem Gat.start {m:List (Str × Int)} (hf:∀ p ∈ m,map107.fit p.1 = true):Gat m (Maps.has (map107.D m)) []:=⟨List.Pairwise.nil,fun v=>by
  constructor
  · intro h; cases h
  · rintro ⟨h1, _, h3⟩
    rw [MapT.has_ _ (ZmW hf h1) _ hf,h1] at h3
    cases h3⟩
theorem Gat.step {m left l} (h:Gat m left l) {u:Str} {z:Int} (hz:m.lookup u = some z) (hl:left (map107.lit u) = true):Gat m (fun q=>left q && !q.sameKey (map107.lit u)) (l ++ [⟨u,z,0⟩]):=by
  have hno:∀ v ∈ l,v.Name ≠ u:=fun v hv e=>by
    have:=((h.mem v).1 hv).2.2
    rw [e,hl] at this; cases this
  refine ⟨ZpA.2 ⟨h.nd,List.pairwise_singleton _ _,fun a ha b hb=>by rw [ZnX] at hb; subst hb; exact hno a ha⟩,fun v=>?_⟩
  rw [ZnS,ZnX,h.mem v,Zma]
  by_cases e:v.Name = u
  · subst e
    simp only [decide_true,ZnY,Zqs,ZrF,hl]
    rw [hz]
    constructor
    · rintro (⟨_, _, h3⟩ | h)
      · cases h3
      · rw [h]; exact ⟨rfl,rfl⟩
    · rintro ⟨h1, h2⟩
      right
      cases v; simp_all
  · have hne : v ≠ ⟨u, z, 0⟩ := fun h => e (by rw [h])
    simp [e,hne]
theorem Gat.done {m left l l'} (h:Gat m left l) (h0:∀ kl,left kl = false) (hp:l'.Perm l) (hs:l'.Pairwise fun x y=>Go.Proofs.ltOf cmpV y x = false):l' = vtab m:=by
  have hnd:l'.Pairwise fun a b=>a.Name ≠ b.Name:=(hp.pairwise_iff fun {a b} (hab:a.Name ≠ b.Name)=>hab.symm).2 h.nd
  refine ZkB ?_ (ZbB m) fun v=>?_
  · refine (hnd.and hs).imp fun {a b} hab => ?_
    obtain ⟨h1,h2⟩:=hab
    rw [Zeb] at h2
    exact ZfC h2 (Ne.symm h1)
  · rw [hp.mem_iff, h.mem v, ZbE]
    simp [h0]
theorem vnan (s:Str) (w:World):Calls prog 118 [Str.val s].toArray w fun e w'=>e = .returned (.bool false) ∧ w' = w:=by
  refine enter func118 rfl ntmps118 (by rfl) fun a hF=>?_
  have c:Cx ⟨w,Non,Non⟩ _ (args0 0 [Str.val s]) [] [] a w:=⟨hF,Non,Non,Mem.start (fun _ h=>h.elim) (fun _ h=>h.elim) (fun _ h=>h.elim),Sep.nil _ _,AllF.nil⟩
  refine P0 [] c fun _ c=>?_
  refine P0 [] c fun _ c=>?_
  refine wp_ret (ret1 rfl c.fr (v:=.bool (!(Str.eqb s s))) (by kernel_rfl) ⟨?_,rfl⟩)
  have:Str.eqb s s = true:=by unfold Str.eqb; simp
  rw [this]; rfl
theorem vcmp (s t:Str) (w:World):Calls prog 75 [Str.val s,Str.val t].toArray w fun e w'=>e = .returned (.int .i64 (cmpS s t)) ∧ w' = w:=by
  refine enter func75 rfl ntmps75 (by rfl) fun a hF=>?_
  have c:Cx ⟨w,Non,Non⟩ _ (args0 0 [Str.val s,Str.val t]) [] [] a w:=⟨hF,Non,Non,Mem.start (fun _ h=>h.elim) (fun _ h=>h.elim) (fun _ h=>h.elim),Sep.nil _ _,AllF.nil⟩
  clear hF
  refine P0 [] c fun _ c=>?_
  refine T0 ?_
  refine Fp [] 1 c fun _ c=>?_
  refine s_call [Str.val s] (R:=fun v w'=>v = .bool false ∧ w' = w) call118 rfl rfl c.fr (by kernel_rfl) ((vnan s w).mono fun e w' h=>⟨_,h.1,rfl,h.2⟩) fun v w' fr hR hF=>?_
  obtain ⟨rfl,rfl⟩:=hR
  replace c:=c.to hF
  refine Fp [] 1 c fun _ c=>?_
  refine E0 ?_
  refine T0 ?_
  refine Fp [] 1 c fun _ c=>?_
  refine s_call [Str.val t] (R:=fun v w1=>v = .bool false ∧ w1 = w') call118 rfl rfl c.fr (by kernel_rfl) ((vnan t w').mono fun e w1 h=>⟨_,h.1,rfl,h.2⟩) fun v w1 fr hR hF=>?_
  obtain ⟨rfl,rfl⟩:=hR
  replace c:=c.to hF
  refine Fp [] 1 c fun _ c=>?_
  refine E0 ?_
  refine S0 ?_
  refine P0 [] c fun _ c=>?_
  refine If (b:=false) c (fun h=>by cases h) fun _=>?_
  refine K0 ?_
  refine S0 ?_
  refine P0 [] c fun _ c=>?_
  refine If (b:=false) c (fun h=>by cases h) fun _=>?_
  refine K0 ?_
  refine S0 ?_
  refine P0 [] c fun _ c=>?_
  refine If (b:=Str.ltb s t) c (fun h1=>?_) fun h1=>?_
  · refine P0 [] c fun _ c => ?_
    exact wp_ret (tr (ret1 rfl c.fr (v:=I (-1)) (by kernel_rfl) ⟨by unfold cmpS; rw [h1]; rfl,rfl⟩))
  refine K0 ?_
  refine S0 ?_
  refine P0 [] c fun _ c=>?_
  refine If (b:=Str.gtb s t) c (fun h2=>?_) fun h2=>?_
  · refine P0 [] c fun _ c => ?_
    exact wp_ret (tr (ret1 rfl c.fr (v:=I 1) (by kernel_rfl) ⟨by unfold cmpS; rw [h1,h2]; rfl,rfl⟩))
  refine K0 ?_
  refine P0 [] c fun _ c=>?_
  exact wp_ret (ret1 rfl c.fr (v:=I 0) (by kernel_rfl) ⟨by unfold cmpS; rw [h1,h2]; rfl,rfl⟩)
theorem vclo (x y:D.Value) (W:World):Calls prog 74 #[.agg (Flat.enc x).toArray,.agg (Flat.enc y).toArray] W fun e w'=>e = .returned (.int .i64 (cmpV x y)) ∧ ∃ q os',w' = Go.Sort.grow (W.drewN q) os':=by
  have hcon:=fun W'=>vcmp x.Name y.Name W'
  unfold cmpV
  generalize cmpS x.Name y.Name = r at hcon ⊢
  obtain ⟨⟨nx⟩,wx,mx⟩:=x
  obtain ⟨⟨ny⟩,wy,my⟩:=y
  change ∀ W',Calls prog 75 #[.string ⟨nx.toArray⟩,.string ⟨ny.toArray⟩] _ _ at hcon
  change Calls prog 74 #[.agg #[.string ⟨nx.toArray⟩,.int .i64 wx,.int .i64 mx],.agg #[.string ⟨ny.toArray⟩,.int .i64 wy,.int .i64 my]] _ _
  go_enter func74,ntmps74
  go_wp2_with (go_at_call 75; refine (hcon _).mono ?_; rintro e w' ⟨rfl,rfl⟩)
  go_ret
  exact ⟨rfl,0,_,by rw [Go.Sort.alloc_eq_grow,Go.Sort.alloc_eq_grow,Go.Sort.grow_grow]; rfl⟩
theorem vback (key:Value) (x:Str) (h:keyOf prog 9 key = some (map107.lit x)):key = Rep.val Str (Flat.enc x):=by
  have hk:prog.underlying 9 = some .string:=by kernel_rfl
  have h2:keyOf prog 9 key = some (.string x.bytes):=h
  cases key <;> simp [keyOf,hk,mapKey] at h2
  rename_i s
  obtain ⟨_,h3⟩:=h2
  show Value.string s = .string ⟨x.bytes.toArray⟩
  rw [← h3]
theorem Zb8 {p0 r} (h:YU n p0 = some r):Con prog 36 [tV p0 ga0 gc1] [] [lR ga0 p0.Kids gc1] fun (i:Oh)=>([L i.1 r i.2],[sl45 (L i.1 r i.2) r],[]):=by
 unfold YU at h
 refine En func36 rfl ntmps36 fun Bb fr w c=>?_
 refine T0 ?_
 refine Ebx (tC p0 ga0 gc1) c fun b1 _ _ c=>?_
 refine Fp [] 1 c fun _ c=>?_
 refine E0 ?_
 refine S0 ?_
 refine T0 ?_
 refine Fp [(0,0)] 1 c fun _ c=>?_
 obtain ⟨x1,hx1,h⟩:=bindE h
 refine Cb c (XU hx1) ⟨.f 0,tt⟩ call28 fun _ _ _ c=>?_
 refine Fp [] 1 c fun _ c=>?_
 refine E0 ?_
 refine I0 c h (fun h=>?_) fun h=>?_
 · refine P0 [] c fun _ c => ?_
   obtain rfl:=sj h
   replace c:=c.nil (α:=D.Value) 45
   exact wp_ret (tr (Rt c (none,0) [1] []))
 refine K0 ?_
 refine T0 ?_
 refine Emm map107 c fun b2 _ _ c=>?_
 refine Fp [] 1 c fun _ c=>?_
 refine E0 ?_
 refine T0 ?_
 refine Fp [(0,0)] 2 c fun _ c=>?_
 replace c:=c.om 1
 obtain ⟨x2,hx2,h⟩:=bindE h
 refine Ca [1] c (Zcp hx2) ⟨.f 0,tt⟩ call72 fun _ _ _ c=>?_
 obtain ⟨x3,hx3,h⟩:=bindE h
 obtain ⟨b3,hb3,c⟩:=c.smx 1 hx3
 obtain rfl:b2 = b3:=by simpa using hb3
 clear hb3
 refine E0 ?_
 refine P0 [] c fun _ c=>?_
 refine S0 ?_
 refine T0 ?_
 refine Fp [] 1 c fun _ c=>?_
 obtain ⟨hlen,h⟩ : x3.length ≤ 1048576 ∧ some (vtab x3) = some r:=by
   by_cases hl:x3.length ≤ 1048576
   · rw [ZnC hl] at h; exact ⟨hl,h⟩
   · rw [ZnA hl] at h; cases h
 obtain rfl:=sj h
 clear h
 have hfit:∀ p ∈ x3,map107.fit p.1 = true:=by
   obtain ⟨_,S,F,_,hs,_⟩:=c
   exact (hs.mp 1 rfl).2
 refine Ern 1 c fun r1 _ _ c=>?_
 refine E0 ?_
 replace c:=c.nil (α:=D.Value) 45
 refine (LpW (fun cnt a w=>∃ left l a' c',Cx Bb 30 [(4,.slice a' (List.length l) c'),(15,.pointer (some ⟨r1,0,none⟩))] [RG map107 b2 r1 x3 left cnt,sl45 (.slice a' (List.length l) c') l] [] a w ∧ Gat x3 left l)
   (fun a w=>∃ left l a' c',Cx Bb 30 [(4,.slice a' (List.length l) c')] [sl45 (.slice a' (List.length l) c') l] [] a w ∧ Gat x3 left l ∧ ∀ kl,left kl = false)
   ⟨_,[],none,0,c.re [1,2] [],Gat.start hfit⟩ (fun cnt a w ⟨left,l,a',c',c,hG⟩=>?_) fun a w ⟨left,l,a',c',c,hG,h0⟩=>?_)
 · have hl1:l.length ≤ 1048576:=by
     have:=Zhy (l':=vtab x3) hG.nd fun v hv=>(ZbE v x3).2 ⟨((hG.mem v).1 hv).1,((hG.mem v).1 hv).2.1⟩
     have:=ZcO x3
     omega
   refine T0 ?_
   refine Enx 0 vback c (fun hl _ c=>?_) fun u z cnt' _ w1 hu hz hlk hlt hen c=>?_
   · refine Fp [] 1 c fun _ c => ?_
     refine E0 ?_
     refine S0 (If (b:=false) c (fun h=>by cases h) fun _=>?_)
     refine wp_exit (te (te (be ?_)))
     exact tn ⟨left,l,a',c',c.re [1] [],hG,hl⟩
   · refine Fp [] 1 c fun _ c => ?_
     refine E0 ?_
     refine S0 (If (b:=true) c (fun _=>?_) fun h=>by cases h)
     refine K0 ?_
     refine wp_block ?_
     refine T0 ?_
     refine Een c hen fun _ c=>?_
     refine Fp [] 4 c fun _ c=>?_
     refine E0 ?_
     refine T1 ?_
     refine Fp [] 4 c fun _ c=>?_
     refine Elt 45 ([⟨u,z,0⟩]:List D.Value) c fun a2 c2 _ _ c=>?_
     have hap:app? l ([⟨u,z,0⟩]:List D.Value) = some (l ++ [⟨u,z,0⟩]):=by unfold app?; rw [ZnC (by unfold room; simp; omega)]
     refine Eap 1 c (.g 2) hap fun a3 c3 _ _ c=>?_
     refine Fp [] 1 c fun _ c=>?_
     refine E1 ?_
     refine bk (tn ?_)
     exact ⟨cnt',hlt,_,l ++ [⟨u,z,0⟩],a3,c3,c.re [0,1] [],hG.step hz hlk⟩
 · refine T0 ?_
   refine Fp [] 1 c fun _ c=>?_
   have hl1:l.length ≤ 1048576:=by
     have:=Zhy (l':=vtab x3) hG.nd fun v hv=>(ZbE v x3).2 ⟨((hG.mem v).1 hv).1,((hG.mem v).1 hv).2.1⟩
     have:=ZcO x3
     omega
   refine Ca [0] c (Zjq (α:=D.Value) (l:=l) Tryz.sortV rfl Tryz.isAgg45 Tryz.sizeOf45 (by decide) (fun x v hv=>by
     have hv:v ∈ (vC x):=hv
     simp only [Zof,Zpy,or_false] at hv
     rcases hv with rfl | rfl | rfl <;> rfl) cmpV swoV (enters_of func74 (by kernel_rfl) rfl) vclo (by omega)) tt call73 fun i _ _ c=>?_
   refine E0 ?_
   obtain ⟨l',hp,hs⟩:=i
   obtain ⟨hl',c⟩:=c.relen 0
   obtain rfl:=hG.done h0 hp hs
   refine P0 [] c fun _ c=>?_
   replace c:=c.eqs (v:=L a' l c') (u:=L a' (vtab x3) c') 2 (by simp only [L,hl'])
   exact wp_ret (Rt c (a',c') [0] [])
theorem Yy {p0 r} (h:Z8 p0 = some r):Con prog 76 [L ga0 p0 gc1] [] [lR ga0 p0 gc1] fun (i:Oh)=>([L i.1 r i.2],[sl84 (L i.1 r i.2) r],[]):=by
 unfold Z8 at h
 refine En func76 rfl ntmps76 fun _ fr w c=>?_
 refine P0 [] c fun _ c=>S0 (T0 (Fp [] 1 c fun _ c=>Ebin (vx:=L ga0 p0 gc1) (vy:=.slice none 0 0) c (Zf1 _ _ _ _ _ _ _ _ _ _) (nil_eq Tryz.underlying35 ga0 _ gc1 _) fun _ c=>?_))
 refine E0 (If c (b:=(Option.isNone ga0)) (fun hb=>?_) fun hb=>?_)
 obtain ⟨_,hn⟩:=c.use (.f 0)
 replace h:=ZiL (Zlr hn (ZoM.1 hb)) h
 refine P0 [] c fun _ c=>?_
 replace c:=c.nil (α:=D.Gate) 84
 cases h
 exact wp_ret (tr (Rt c (none,0) [0] []))
 refine K0 (T0 (Elt 84 ([]:List D.Gate) c fun a1 c1 _ _ c=>?_))
 refine Fp [] 1 c fun _ c=>Bd h fun x1 hx1 h=>Eap 0 c (.f 0) hx1 fun a2 c2 _ _ c=>?_
 refine Fp [] 1 c fun _ c=>E0 ?_
 obtain rfl:=sj h
 exact wp_ret (Rt c (a2,c2) [0] [])
theorem Zc1 {p0 r} (h:Xd n p0 = some r):Con prog 37 [.agg #[I p0.Inputs,L ga0 p0.Gates gc1]] [] [lR ga0 p0.Gates gc1] fun (i:Nat × Ob Nat)=>([B i.1 0],[BX i.1 75 [I r.c.Inputs,L i.2.1 r.c.Gates i.p2,.map (some i.q3),.bool r.full],sl84 (L i.2.1 r.c.Gates i.p2) r.c.Gates,MP map73 i.q3 r.line],[]):=by
 unfold Xd at h
 refine En func37 rfl ntmps37 fun _ fr w c=>?_
 refine T0 (Ebx [I p0.Inputs,L ga0 p0.Gates gc1] c fun b1 _ _ c=>?_)
 refine Fp [] 1 c fun _ c=>E0 (Bd h fun x1 hx1 h=>S0 (Jn (fun i:Nat × Ob Nat=>([(1,B b1 0),(3,B i.1 0)],fun Γ=>Γ ++ [BX i.1 75 [I p0.Inputs,L i.2.1 x1 i.p2,.map (some i.q3),.bool false],sl84 (L i.2.1 x1 i.p2) x1,MP map73 i.q3 ([])],[])) c ?_ fun i6 _ _ c=>?_))
 refine As mix c fun _ c=>?_
 replace c:=Cx.frs [(1,B b1 0)] c
 refine Dq (fun i:Nat × Ob Nat=>([(1,B b1 0),(14,B i.1 0)],fun Γ=>Γ ++ [BX i.1 75 [I p0.Inputs,L i.2.1 x1 i.p2,.map (some i.q3),.bool false],sl84 (L i.2.1 x1 i.p2) x1,MP map73 i.q3 ([])],[])) (bN 10 511) (fun i=>[(9,3,B i.1 0)]) c (fun i5=>?_) fun hd4=>?_
 obtain ⟨b7,a3,c3,b8⟩:=i5
 refine qnE ⟨qP [],tt⟩ fun _ _ c=>?_
 exact nN (b7,a3,c3,b8) (c.rk (rg 4) [0])
 refine Dq (fun i:Ob Nat=>([(1,B b1 0),(10,L i.1 x1 i.2.1),(12,.map (some i.q2))],fun Γ=>Γ ++ [sl84 (L i.1 x1 i.2.1) x1,MP map73 i.q2 ([])],[])) (bN 10 92) (fun i=>[(0,6,B b1 0),(1,7,I p0.Inputs),(5,11,.agg #[I p0.Inputs,L i.1 x1 i.2.1]),(7,13,.agg #[I p0.Inputs,L i.1 x1 i.2.1,.map (some i.q2),.bool false])]) c (fun i3=>?_) fun hd3=>?_
 obtain ⟨a2,c2,b5⟩:=i3
 refine qn [8] ⟨qP [],qP [(0,0)],qP [],qP [],tt⟩ ⟨fun _ _ c=>?_,tt⟩
 refine ZM _ rfl rfl ?_
 refine Ebx [I p0.Inputs,L a2 x1 c2,.map (some b5),.bool false] c fun b6 _ _ c=>?_
 refine E0 (nQ hd4 (b6,a2,c2,b5) (c.rk [0,3,1,2] [0]))
 refine Dq (fun i:Oh=>([(1,B b1 0),(10,L i.1 x1 i.2)],fun Γ=>Γ ++ [sl84 (L i.1 x1 i.2) x1],[])) (bN 10 28) (fun i=>[(0,6,B b1 0),(1,7,I p0.Inputs),(5,11,.agg #[I p0.Inputs,L i.1 x1 i.2])]) c (fun i2=>?_) fun hd1=>?_
 obtain ⟨a1,c1⟩:=i2
 refine qn [6] ⟨qP [],qP [(0,0)],qP [],tt⟩ ⟨fun _ _ c=>?_,tt⟩
 refine ZM _ rfl rfl ?_
 refine Emm map73 c fun b4 _ _ c=>?_
 refine E0 (nQ hd3 (a1,c1,b4) (c.rk [0,1,2] [0]))
 refine Dq (fun i:Nat=>([(1,B b1 0),(12,.map (some i))],fun Γ=>Γ ++ [MP map73 i ([])],[])) (bN 10 64) (fun i=>[(0,6,B b1 0),(1,7,I p0.Inputs),(2,8,B b1 1),(3,9,L ga0 p0.Gates gc1)]) c (fun b3=>?_) fun hd2=>?_
 refine qn [4] ⟨qP [],qP [(0,0)],qP [],qP [(0,0)],tt⟩ ⟨fun _ _ c=>?_,tt⟩
 refine ZM _ rfl rfl ?_
 refine Cb c (Yy hx1) ⟨.f 0,tt⟩ call76 fun i4 _ _ c=>?_
 refine E0 (nQ hd3 (i4.1,i4.2,b3) (c.rk [0,2,1] [0]))
 refine q0 (qs:=[(0,6,B b1 0),(1,7,I p0.Inputs),(2,8,B b1 1),(3,9,L ga0 p0.Gates gc1)]) c (qn [4,6] ⟨qP [],qP [(0,0)],qP [],qP [(0,0)],tt⟩ ⟨fun _ _ c=>?_,fun _ _ c=>?_,tt⟩)
 refine ZM _ rfl rfl ?_
 refine Cb c (Yy hx1) ⟨.f 0,tt⟩ call76 fun i1 _ _ c=>?_
 refine E0 (nQ hd1 (i1.1,i1.2) (c.rk [0,1] [0]))
 refine ZM _ rfl rfl ?_
 refine Emm map73 c fun b2 _ _ c=>?_
 refine E0 (nQ hd2 (b2) (c.rk [0,1] [0]))
 obtain ⟨b9,a4,c4,b10⟩:=i6
 refine S0 (P0 [(1,0)] c fun _ c=>Bd h fun rl1 hit1 h=>Lp (fun s1  (_:Unit)=>([(1,B b1 0),(3,B b9 0),(16,L ga0 p0.Gates gc1),(17,I (len p0.Gates)),(18,I s1.1)],fun Γ=>Γ.set 3 (MP map73 b10 s1.2),[])) (fun  (_:Unit)=>([(3,B b9 0)],fun Γ=>Γ.set 3 (MP map73 b10 rl1),[])) hit1 c () (c.rk (rg 4) [0]) (fun s1 q1 _ _ _ c h hr1=>?_) fun _ _ _ c=>?_)
 refine P0 [] c fun _ c=>S0 (I0 c h (fun h=>?_) fun h=>?_)
 refine K0 (S0 (wp_block (T0 (Fp [] 1 c fun _ c=>Bd h fun x2 hx2 h=>Eel c (.f 0) hx2 fun _ _ c=>?_))))
 refine Eal [I 0,I 0] c fun b11 _ _ c=>?_
 refine Fp [] 1 c fun _ c=>Ess 4 [I x2.A,I x2.B] c fun _ c=>?_
 refine E0 (Yj mix (rM 10 [] [(3,1),(4,2),(6,0)] c (fun ow=>tt) fun _ _ _ _ _ c=>?_))
 refine Bd h fun x3 hx3 h=>Emp 3 c hx3 fun _ c=>?_
 refine E1 (bk (tn (P1 [] c fun _ c=>Nx h () (c.rk (rg 4) [0]))))
 refine wp_exit (te (te (be ?_)))
 obtain rfl:=hr1 _ (sk h)
 exact tn ⟨(),c.rk (rg 4) [0]⟩
 refine P0 [] c fun _ c=>?_
 cases h
 exact wp_ret (Rt c (b9,a4,c4,b10) [1,2,3] [])
theorem X4 {p0 p1 r} (h:ZW n p0 p1 = some r):Con prog 77 [I p0,I p1] [] [] fun (i:Oh)=>([L i.1 r i.2],[sl3 (L i.1 r i.2) r],[]):=by
 unfold ZW at h
 refine En func77 rfl ntmps77 fun _ fr w c=>?_
 refine P0 [] c fun _ c=>T0 (Fp [] 1 c fun _ c=>Bd h fun x1 hx1 h=>Emk 3 c hx1 fun a1 c1 _ _ c=>?_)
 refine Fp [] 1 c fun _ c=>E0 (S0 (P0 [] c fun _ c=>Bd h fun rl1 hit1 h=>Lp (fun s1  (_:Unit)=>([(1,I p1),(5,L a1 x1 c1),(10,I (len x1)),(11,I s1.1)],fun Γ=>Γ.set 0 (sl3 (L a1 x1 c1) s1.2),[])) (fun  (_:Unit)=>([(5,L a1 x1 c1)],fun Γ=>Γ.set 0 (sl3 (L a1 x1 c1) rl1),[])) hit1 c () (c.rk [0] []) (fun s1 q1 _ _ _ c h hr1=>?_) fun _ _ _ c=>?_))
 refine P0 [] c fun _ c=>S0 (I0 c h (fun h=>?_) fun h=>?_)
 refine K0 (S0 (wp_block (P0 [] c fun _ c=>T0 (Fp [] 2 c fun _ c=>Bd h fun x2 hx2 h=>Eset 0 c hx2 fun _ _ _ c=>?_))))
 refine E0 (T0 (Fp [] 3 c fun _ c=>Bd h fun x3 hx3 h=>Eshr c hx3 fun _ c=>?_))
 refine Fp [] 2 c fun _ c=>E0 (I0 c h (fun h=>?_) fun h=>?_)
 refine T1 (Fp [] 2 c fun _ c=>Bd h fun x4 hx4 h=>Eset 0 c hx4 fun _ _ _ c=>?_)
 refine E1 (bk (tn (P1 [] c fun _ c=>Nx h () (c.rk [0] []))))
 refine K1 (bk (tn (P1 [] c fun _ c=>Nx h () (c.rk [0] []))))
 refine wp_exit (te (te (be ?_)))
 obtain rfl:=hr1 _ (sk h)
 exact tn ⟨(),c.rk [0] []⟩
 refine P0 [] c fun _ c=>?_
 obtain rfl:=sj h
 obtain ⟨he1,c⟩:=c.relen 0
 replace c:=c.eqs (v:=L a1 x1 c1) (u:=L a1 rl1 c1) 4 (by simp only [L,he1])
 exact wp_ret (Rt c (a1,c1) [0] [])
theorem Zt {p0 r} (h:Zc p0 = some r):Con prog 39 [L ga0 p0 gc1] [] [lR ga0 p0 gc1] fun (i:Oh)=>([L i.1 r i.2],[sl3 (L i.1 r i.2) r],[]):=by
 unfold Zc at h
 refine En func39 rfl ntmps39 fun _ fr w c=>?_
 refine P0 [] c fun _ c=>S0 (T0 (Fp [] 1 c fun _ c=>Ebin (vx:=L ga0 p0 gc1) (vy:=.slice none 0 0) c (Zf1 _ _ _ _ _ _ _ _ _ _) (nil_eq Tryz.underlying27 ga0 _ gc1 _) fun _ c=>?_))
 refine E0 (If c (b:=(Option.isNone ga0)) (fun hb=>?_) fun hb=>?_)
 obtain ⟨_,hn⟩:=c.use (.f 0)
 replace h:=ZiL (Zlr hn (ZoM.1 hb)) h
 refine P0 [] c fun _ c=>?_
 replace c:=c.nil (α:=Int) 3
 cases h
 exact wp_ret (tr (Rt c (none,0) [0] []))
 refine K0 (T0 (Elt 3 ([]:List Int) c fun a1 c1 _ _ c=>?_))
 refine Fp [] 1 c fun _ c=>Bd h fun x1 hx1 h=>Eap 0 c (.f 0) hx1 fun a2 c2 _ _ c=>?_
 refine Fp [] 1 c fun _ c=>E0 ?_
 obtain rfl:=sj h
 exact wp_ret (Rt c (a2,c2) [0] [])
theorem Xm {p0 r} (h:Ym n p0 = some r):Con prog 78 [L ga0 p0 gc1] [] [lR ga0 p0 gc1] fun (i:Oh)=>([L i.1 r i.2],[sl3 (L i.1 r i.2) r],[]):=by
 unfold Ym at h
 refine En func78 rfl ntmps78 fun _ fr w c=>?_
 refine P0 [] c fun _ c=>T0 (Fp [] 2 c fun _ c=>Bd h fun x1 hx1 h=>Emk 3 c hx1 fun a1 c1 _ _ c=>?_)
 refine Fp [] 1 c fun _ c=>E0 (S0 (P0 [] c fun _ c=>Bd h fun rl1 hit1 h=>Lp (fun s1  (_:Unit)=>([(3,L a1 x1 c1),(9,L ga0 p0 gc1),(10,I (len p0)),(11,I s1.1)],fun Γ=>Γ.set 0 (sl3 (L a1 x1 c1) s1.2),[])) (fun  (_:Unit)=>([(3,L a1 x1 c1)],fun Γ=>Γ.set 0 (sl3 (L a1 x1 c1) rl1),[])) hit1 c () (c.rk [0] [0]) (fun s1 q1 _ _ _ c h hr1=>?_) fun _ _ _ c=>?_))
 refine P0 [] c fun _ c=>S0 (I0 c h (fun h=>?_) fun h=>?_)
 refine K0 (S0 (wp_block (T0 (Fp [] 1 c fun _ c=>Bd h fun x2 hx2 h=>Eel c (.f 0) hx2 fun _ _ c=>?_))))
 refine Fp [] 2 c fun _ c=>E0 (T1 (Fp [] 4 c fun _ c=>Bd h fun x3 hx3 h=>Eset 0 c hx3 fun _ _ _ c=>?_))
 refine E1 (bk (tn (P1 [] c fun _ c=>Nx h () (c.rk [0] [0]))))
 refine wp_exit (te (te (be ?_)))
 obtain rfl:=hr1 _ (sk h)
 exact tn ⟨(),c.rk [0] [0]⟩
 refine P0 [] c fun _ c=>?_
 obtain rfl:=sj h
 obtain ⟨he1,c⟩:=c.relen 0
 replace c:=c.eqs (v:=L a1 x1 c1) (u:=L a1 rl1 c1) 2 (by simp only [L,he1])
 exact wp_ret (Rt c (a1,c1) [0] [])
theorem Yh {p0 r} (h:ZR p0 = some r):C0 43 [I p0] [] (I r):=by
 unfold ZR at h
 refine En func43 rfl ntmps43 fun _ fr w c=>?_
 exact P0 [] c fun _ c=>S0 (P0 [] c fun _ c=>I0 c h (fun h=>P0 [] c fun _ c=>rE) fun h=>K0 (P0 [] c fun _ c=>rE))
theorem XG {p0 r} (h:ZO p0 = some r):C0 65 [.agg #[I p0.Inputs,L ga0 p0.Gates gc1]] [lR ga0 p0.Gates gc1] (I r):=by
 unfold ZO at h
 refine En func65 rfl ntmps65 fun _ fr w c=>?_
 refine T0 (Ebx [I p0.Inputs,L ga0 p0.Gates gc1] c fun b1 _ _ c=>?_)
 exact Fp [] 1 c fun _ c=>E0 (P0 [(1,0),(4,0)] c fun _ c=>rE)
theorem Z5 {p0 p1 p2 gb0 gb3 gn4 r} (h:Zi p0 p1 p2 = some r):Con prog 126 [B gb0 0,I p1,I p2] [BX gb0 75 [I p0.c.Inputs,.slice ga1 gn4 gc2,.map (some gb3),.bool p0.full],sl84 (.slice ga1 gn4 gc2) p0.c.Gates,MP map73 gb3 p0.line] [] fun (i:Oh)=>([I r.1],[BX gb0 75 [I r.2.c.Inputs,L i.1 r.2.c.Gates i.2,.map (some gb3),.bool r.2.full],sl84 (L i.1 r.2.c.Gates i.2) r.2.c.Gates,MP map73 gb3 r.2.line],[]):=by
 unfold Zi at h
 refine En func126 rfl ntmps126 fun _ fr w c=>?_
 obtain ⟨rfl,c⟩:=c.relen 1
 refine P0 [] c fun _ c=>S0 (wp_block (S0 (Ry [] mix c fun _ _ c=>I0 c h (fun h=>?_) fun h=>?_)))
 refine P0 [] c fun _ c=>?_
 cases h
 exact wp_ret (br (tr (Rt c (ga1,gc2) [0,1,2] [])))
 refine P0 [] c fun _ c=>I0 c h (fun h=>?_) fun h=>?_
 refine P0 [] c fun _ c=>?_
 cases h
 exact wp_ret (br (tr (Rt c (ga1,gc2) [0,1,2] [])))
 refine S0 (Ry [] mix c fun _ _ c=>I0 c h (fun h=>?_) fun h=>?_)
 refine P0 [] c fun _ c=>?_
 cases h
 exact wp_ret (br (tr (Rt c (ga1,gc2) [0,1,2] [])))
 refine K1 (bk (tn (T0 (Fp [] 3 c fun _ c=>Eal [I 0,I 0] c fun b1 _ _ c=>?_))))
 refine Ess 3 [I p1,I p2] c fun _ c=>?_
 refine E0 (S0 (T0 (Fp [] 1 c fun _ c=>Bd h fun x1 hx1 h=>Cb c (Yh hx1) tt call43 fun _ _ _ c=>?_)))
 refine Fp [] 1 c fun _ c=>Bd h fun x2 hx2 h=>Cb c (Yh hx2) tt call43 fun _ _ _ c=>?_
 refine Fp [] 1 c fun _ c=>E0 (I0 c h (fun h=>?_) fun h=>?_)
 refine T1 (Fp [] 3 c fun _ c=>Ess 3 [I p2,I p1] c fun _ c=>?_)
 refine E0 (S0 (Bd h fun x3 hx3 h=>S0 (rZ [(5,.eq (.tuple #[I x3.1,.bool x3.2]))] [(3,0),(4,1)] mix c ⟨Nmg2 2 c (kN hx3),tt⟩ fun _ _ c=>P0 [] c fun _ c=>I0 c h (fun h=>?_) fun h=>?_)))
 refine P0 [] c fun _ c=>?_
 cases h
 exact wp_ret (tr (Rt c (ga1,gc2) [0,1,2] []))
 refine K0 (S0 (P0 [(4,0)] c fun _ c=>I0 c h (fun h=>?_) fun h=>?_))
 refine T0 (Fp [] 3 c fun _ c=>?_)
 replace c:=c.nf
 refine Esb 0 3 (.bool true) c fun _ c=>?_
 refine E0 (P0 [] c fun _ c=>?_)
 cases h
 exact wp_ret (tr (Rt c (ga1,gc2) [0,1,2] []))
 refine K0 (S0 (Yj mix (Rh 1 ?_)))
 refine Rh 0 ?_
 refine rM 8 [(7,Pd.nw c.wd 7 (fun i:Oh=>L i.1 ([(D.Gate.mk p2 p1)]:List D.Gate) i.2) (fun i=>SL 84 (L i.1 ([(D.Gate.mk p2 p1)]:List D.Gate) i.2) ([(D.Gate.mk p2 p1)]:List D.Gate)))] [(5,0),(6,1)] c (fun ow=>⟨Nlt c ([(D.Gate.mk p2 p1)]:List D.Gate),tt⟩) fun ow _ _ hE hc cq=>?_
 obtain ⟨i1,hi1⟩:=hE.nw 7 76
 replace c:=Cx.newt c hc cq [(7,76,_,_)] ⟨hi1,tt⟩
 replace c:=c.nf
 refine Bd h fun x4 hx4 h=>Eap 1 c (.g 4) hx4 fun a1 c1 _ _ c=>?_
 refine Fp [] 3 c fun _ c=>Esb 0 1 (L a1 x4 c1) c fun _ c=>?_
 refine E0 (T0 (Fp [(3,0)] 4 c fun _ c=>Bd h fun x5 hx5 h=>Cb c (XG hx5) ⟨.g 1,tt⟩ call65 fun _ _ _ c=>?_))
 refine Fp [] 1 c fun _ c=>E0 (S0 (Yj mix (rM 6 [] [(3,0),(4,1)] c (fun ow=>tt) fun _ _ _ _ _ c=>Bd h fun x6 hx6 h=>Emp 2 c hx6 fun _ c=>?_)))
 refine E0 (P0 [] c fun _ c=>?_)
 cases h
 exact wp_ret (Rt c (a1,c1) [0,1,2] [])
 refine K0 (S0 (Bd h fun x7 hx7 h=>S0 (rZ [(5,.eq (.tuple #[I x7.1,.bool x7.2]))] [(3,0),(4,1)] mix c ⟨Nmg2 2 c (kN hx7),tt⟩ fun _ _ c=>P0 [] c fun _ c=>I0 c h (fun h=>?_) fun h=>?_)))
 refine P0 [] c fun _ c=>?_
 cases h
 exact wp_ret (tr (Rt c (ga1,gc2) [0,1,2] []))
 refine K0 (S0 (P0 [(4,0)] c fun _ c=>I0 c h (fun h=>?_) fun h=>?_))
 refine T0 (Fp [] 3 c fun _ c=>Esb 0 3 (.bool true) c fun _ c=>?_)
 refine E0 (P0 [] c fun _ c=>?_)
 cases h
 exact wp_ret (tr (Rt c (ga1,gc2) [0,1,2] []))
 refine K0 (S0 (Yj mix (Rh 1 ?_)))
 refine Rh 0 ?_
 refine rM 8 [(7,Pd.nw c.wd 7 (fun i:Oh=>L i.1 ([(D.Gate.mk p1 p2)]:List D.Gate) i.2) (fun i=>SL 84 (L i.1 ([(D.Gate.mk p1 p2)]:List D.Gate) i.2) ([(D.Gate.mk p1 p2)]:List D.Gate)))] [(5,0),(6,1)] c (fun ow=>⟨Nlt c ([(D.Gate.mk p1 p2)]:List D.Gate),tt⟩) fun ow _ _ hE hc cq=>?_
 obtain ⟨i2,hi2⟩:=hE.nw 7 76
 replace c:=Cx.newt c hc cq [(7,76,_,_)] ⟨hi2,tt⟩
 refine Bd h fun x8 hx8 h=>Eap 1 c (.g 4) hx8 fun a2 c2 _ _ c=>?_
 refine Fp [] 3 c fun _ c=>?_
 replace c:=c.nf
 refine Esb 0 1 (L a2 x8 c2) c fun _ c=>?_
 refine E0 (T0 (Fp [(3,0)] 4 c fun _ c=>Bd h fun x9 hx9 h=>Cb c (XG hx9) ⟨.g 1,tt⟩ call65 fun _ _ _ c=>?_))
 refine Fp [] 1 c fun _ c=>E0 (S0 (Yj mix (rM 6 [] [(3,0),(4,1)] c (fun ow=>tt) fun _ _ _ _ _ c=>Bd h fun x10 hx10 h=>Emp 2 c hx10 fun _ c=>?_)))
 refine E0 (P0 [] c fun _ c=>?_)
 cases h
 exact wp_ret (Rt c (a2,c2) [0,1,2] [])
theorem Yd {p0 p1 p2 gb0 gb3 gn4 r} (h:Zu p0 p1 p2 = some r):Con prog 127 [B gb0 0,I p1,I p2] [BX gb0 75 [I p0.c.Inputs,.slice ga1 gn4 gc2,.map (some gb3),.bool p0.full],sl84 (.slice ga1 gn4 gc2) p0.c.Gates,MP map73 gb3 p0.line] [] fun (i:Oh)=>([I r.1],[BX gb0 75 [I r.2.c.Inputs,L i.1 r.2.c.Gates i.2,.map (some gb3),.bool r.2.full],sl84 (L i.1 r.2.c.Gates i.2) r.2.c.Gates,MP map73 gb3 r.2.line],[]):=by
 unfold Zu at h
 refine En func127 rfl ntmps127 fun _ fr w c=>?_
 obtain ⟨rfl,c⟩:=c.relen 1
 refine P0 [] c fun _ c=>T0 (Fp [] 5 c fun _ c=>Bd h fun x1 hx1 h=>Ca [0,1,2] c (Z5 hx1) tt call126 fun i1 _ _ c=>?_)
 refine Fp [] 2 c fun _ c=>E0 ?_
 cases h
 exact wp_ret (Rt c (i1.1,i1.2) [0,1,2] [])
theorem Y8 {p0 p1 p2 gb0 gb3 gn4 r} (h:Zx p0 p1 p2 = some r):Con prog 128 [B gb0 0,I p1,I p2] [BX gb0 75 [I p0.c.Inputs,.slice ga1 gn4 gc2,.map (some gb3),.bool p0.full],sl84 (.slice ga1 gn4 gc2) p0.c.Gates,MP map73 gb3 p0.line] [] fun (i:Oh)=>([I r.1],[BX gb0 75 [I r.2.c.Inputs,L i.1 r.2.c.Gates i.2,.map (some gb3),.bool r.2.full],sl84 (L i.1 r.2.c.Gates i.2) r.2.c.Gates,MP map73 gb3 r.2.line],[]):=by
 unfold Zx at h
 refine En func128 rfl ntmps128 fun _ fr w c=>?_
 obtain ⟨rfl,c⟩:=c.relen 1
 refine P0 [] c fun _ c=>T0 (Fp [] 4 c fun _ c=>Bd h fun x1 hx1 h=>Ca [0,1,2] c (Z5 hx1) tt call126 fun i1 _ _ c=>?_)
 refine Fp [] 1 c fun _ c=>E0 (T0 (Fp [] 4 c fun _ c=>Bd h fun x2 hx2 h=>Ca [0,1,2] c (Z5 hx2) tt call126 fun i2 _ _ c=>?_))
 refine Fp [] 1 c fun _ c=>E0 (T0 (Fp [] 3 c fun _ c=>Bd h fun x3 hx3 h=>Ca [0,1,2] c (Yd hx3) tt call127 fun i3 _ _ c=>?_))
 refine Fp [] 1 c fun _ c=>E0 ?_
 cases h
 exact wp_ret (Rt c (i3.1,i3.2) [0,1,2] [])
theorem Y7 {p0 p1 p2 p3 gb0 gb3 gn4 r} (h:ZG n p0 p1 p2 p3 = some r):Con prog 119 [B gb0 0,L ga5 p1 gc6,L ga7 p2 gc8,I p3] [BX gb0 75 [I p0.c.Inputs,.slice ga1 gn4 gc2,.map (some gb3),.bool p0.full],sl84 (.slice ga1 gn4 gc2) p0.c.Gates,MP map73 gb3 p0.line] [lR ga5 p1 gc6,lR ga7 p2 gc8] fun (i:Ob Oh)=>([L i.1 r.1 i.2.1,I r.2.1],[sl3 (L i.1 r.1 i.2.1) r.1,BX gb0 75 [I r.2.2.c.Inputs,L i.p2 r.2.2.c.Gates i.q3,.map (some gb3),.bool r.2.2.full],sl84 (L i.p2 r.2.2.c.Gates i.q3) r.2.2.c.Gates,MP map73 gb3 r.2.2.line],[]):=by
 unfold ZG at h
 refine En func119 rfl ntmps119 fun _ fr w c=>?_
 obtain ⟨rfl,c⟩:=c.relen 1
 refine P0 [] c fun _ c=>T0 (Fp [] 2 c fun _ c=>Bd h fun x1 hx1 h=>Emk 3 c hx1 fun a1 c1 _ _ c=>?_)
 refine Fp [] 1 c fun _ c=>E0 (S0 (P0 [] c fun _ c=>Bd h fun rl1 hit1 h=>Lp (fun s1  (i:Oh)=>([(0,B gb0 0),(1,L ga5 p1 gc6),(2,L ga7 p2 gc8),(3,I s1.1),(10,L a1 x1 c1),(19,I (len p1)),(20,I s1.2.1)],fun Γ=>(((Γ.set 0 (BX gb0 75 [I s1.p3,L i.1 s1.p5 i.2,.map (some gb3),.bool s1.p4])).set 1 (sl84 (L i.1 s1.p5 i.2) s1.p5)).set 2 (MP map73 gb3 s1.q6)).set 3 (sl3 (L a1 x1 c1) s1.p2),[])) (fun  (i:Oh)=>([(3,I rl1.1),(10,L a1 x1 c1)],fun Γ=>(((Γ.set 0 (BX gb0 75 [I rl1.p2,L i.1 rl1.p4 i.2,.map (some gb3),.bool rl1.p3])).set 1 (sl84 (L i.1 rl1.p4 i.2) rl1.p4)).set 2 (MP map73 gb3 rl1.q5)).set 3 (sl3 (L a1 x1 c1) rl1.2.1),[])) hit1 c (ga1,gc2) (c.rk (rg 4) [0,1]) (fun s1 q1 i1 _ _ c h hr1=>?_) fun k1 _ _ c=>?_))
 refine P0 [] c fun _ c=>S0 (I0 c h (fun h=>?_) fun h=>?_)
 refine K0 (S0 (wp_block (P0 [] c fun _ c=>Bd h fun x2 hx2 h=>Bd h fun x3 hx3 h=>S0 (Yj mix (rM 9 [(3,Pd.el (x2:Int)),(4,.eq (I x2)),(7,Pd.el (x3:Int)),(8,.eq (I x3))] [] c (fun ow=>⟨Zj ow (Nid c (.f 0) (kN hx2)),Zj ow (Nld c 3 (q:=x2) (atM 3 (p:=.el (x2:Int)))),Zj ow (Nid c (.f 1) (kN hx3)),Zj ow (Nld c 7 (q:=x3) (atM 7 (p:=.el (x3:Int)))),tt⟩) fun _ _ _ _ _ c=>Bd h fun x4 hx4 h=>Ca [0,1,2] c (Y8 hx4) tt call128 fun i2 _ _ c=>?_)))))
 refine Fp [] 1 c fun _ c=>E0 (T0 (Fp [] 5 c fun _ c=>Bd h fun x5 hx5 h=>Ca [1,2,3] c (Y8 hx5) tt call128 fun i3 _ _ c=>?_))
 refine Bd h fun x6 hx6 h=>Eset 0 c hx6 fun _ _ _ c=>?_
 refine E0 (Bd h fun x7 hx7 h=>Bd h fun x8 hx8 h=>S0 (Yj mix (rM 9 [(3,Pd.el (x7:Int)),(4,.eq (I x7)),(7,Pd.el (x8:Int)),(8,.eq (I x8))] [] c (fun ow=>⟨Zj ow (Nid c (.f 0) (kN hx7)),Zj ow (Nld c 3 (q:=x7) (atM 3 (p:=.el (x7:Int)))),Zj ow (Nid c (.f 1) (kN hx8)),Zj ow (Nld c 7 (q:=x8) (atM 7 (p:=.el (x8:Int)))),tt⟩) fun _ _ _ _ _ c=>Bd h fun x9 hx9 h=>Ca [1,2,3] c (Z5 hx9) tt call126 fun i4 _ _ c=>?_)))
 refine Fp [] 1 c fun _ c=>E0 (T0 (Fp [] 3 c fun _ c=>?_))
 replace c:=c.nf
 refine Bd h fun x10 hx10 h=>Ca [1,2,3] c (Z5 hx10) tt call126 fun i5 _ _ c=>?_
 refine Fp [] 1 c fun _ c=>E0 (T1 (Fp [] 3 c fun _ c=>Bd h fun x11 hx11 h=>Ca [1,2,3] c (Yd hx11) tt call127 fun i6 _ _ c=>?_))
 refine Fp [] 1 c fun _ c=>E1 (bk (tn (P1 [] c fun _ c=>Nx h (i6.1,i6.2) (c.rk [1,2,3,0] [0,1]))))
 refine wp_exit (te (te (be ?_)))
 obtain rfl:=hr1 _ (sk h)
 exact tn ⟨(i1.1,i1.2),c.rk (rg 4) [0,1]⟩
 refine P0 [] c fun _ c=>?_
 cases h
 obtain ⟨he1,c⟩:=c.relen 3
 replace c:=c.eqs (v:=L a1 x1 c1) (u:=L a1 rl1.2.1 c1) 8 (by simp only [L,he1])
 exact wp_ret (Rg c (a1,c1,k1.1,k1.2) [3,0,1,2] [] (.tmp (.tmp .nil)))
theorem ZaR {p0 p1 p2 gb0 gb3 gn4 r} (h:Yq n p0 p1 p2 = some r):Con prog 120 [B gb0 0,L ga5 p1 gc6,L ga7 p2 gc8] [BX gb0 75 [I p0.c.Inputs,.slice ga1 gn4 gc2,.map (some gb3),.bool p0.full],sl84 (.slice ga1 gn4 gc2) p0.c.Gates,MP map73 gb3 p0.line] [lR ga5 p1 gc6,lR ga7 p2 gc8] fun (i:Ob Oh)=>([L i.1 r.1 i.2.1],[sl3 (L i.1 r.1 i.2.1) r.1,BX gb0 75 [I r.2.c.Inputs,L i.p2 r.2.c.Gates i.q3,.map (some gb3),.bool r.2.full],sl84 (L i.p2 r.2.c.Gates i.q3) r.2.c.Gates,MP map73 gb3 r.2.line],[]):=by
 unfold Yq at h
 refine En func120 rfl ntmps120 fun _ fr w c=>?_
 obtain ⟨rfl,c⟩:=c.relen 1
 refine P0 [] c fun _ c=>P0 [] c fun _ c=>T0 (Fp [] 1 c fun _ c=>Bd h fun x1 hx1 h=>Cb c (X4 hx1) tt call77 fun i1 _ _ c=>?_)
 refine Fp [] 1 c fun _ c=>E0 (S0 (P0 [] c fun _ c=>Bd h fun rl1 hit1 h=>Lp (fun s1  (i:Ob Oh)=>([(0,B gb0 0),(1,L ga5 p1 gc6),(2,L ga7 p2 gc8),(7,I (len p1)),(8,L i.p2 s1.2.1 i.q3),(19,I (len p2)),(20,I s1.1)],fun Γ=>(((Γ.set 0 (BX gb0 75 [I s1.p2,L i.1 s1.p4 i.2.1,.map (some gb3),.bool s1.p3])).set 1 (sl84 (L i.1 s1.p4 i.2.1) s1.p4)).set 2 (MP map73 gb3 s1.q5)).set 3 (sl3 (L i.p2 s1.2.1 i.q3) s1.2.1),[])) (fun  (i:Ob Oh)=>([(8,L i.p2 rl1.1 i.q3)],fun Γ=>(((Γ.set 0 (BX gb0 75 [I rl1.2.1,L i.1 rl1.p3 i.2.1,.map (some gb3),.bool rl1.p2])).set 1 (sl84 (L i.1 rl1.p3 i.2.1) rl1.p3)).set 2 (MP map73 gb3 rl1.q4)).set 3 (sl3 (L i.p2 rl1.1 i.q3) rl1.1),[])) hit1 c (ga1,gc2,i1.1,i1.2) (c.rk (rg 4) [0,1]) (fun s1 q1 i2 _ _ c h hr1=>?_) fun k1 _ _ c=>?_))
 refine P0 [] c fun _ c=>S0 (I0 c h (fun h=>?_) fun h=>?_)
 refine K0 (S0 (wp_block (P0 [] c fun _ c=>T0 (Fp [] 3 c fun _ c=>Bd h fun x2 hx2 h=>Emk 3 c hx2 fun a1 c1 _ _ c=>?_))))
 refine Fp [] 1 c fun _ c=>E0 (S0 (P0 [] c fun _ c=>Bd h fun rl2 hit2 h=>Lp (fun s2  (i:Oh)=>([(0,B gb0 0),(1,L ga5 p1 gc6),(2,L ga7 p2 gc8),(7,I (len p1)),(8,L i2.p2 s1.2.1 i2.q3),(9,I s1.1),(10,L a1 x2 c1),(19,I (len p2)),(20,I s1.1),(28,I (len x2)),(29,I s2.1)],fun Γ=>(((Γ.set 0 (BX gb0 75 [I s2.p2,L i.1 s2.p4 i.2,.map (some gb3),.bool s2.p3])).set 1 (sl84 (L i.1 s2.p4 i.2) s2.p4)).set 2 (MP map73 gb3 s2.q5)).set 4 (sl3 (L a1 x2 c1) s2.2.1),[])) (fun  (i:Oh)=>([(0,B gb0 0),(1,L ga5 p1 gc6),(2,L ga7 p2 gc8),(7,I (len p1)),(8,L i2.p2 s1.2.1 i2.q3),(9,I s1.1),(10,L a1 x2 c1),(19,I (len p2)),(20,I s1.1)],fun Γ=>(((Γ.set 0 (BX gb0 75 [I rl2.2.1,L i.1 rl2.p3 i.2,.map (some gb3),.bool rl2.p2])).set 1 (sl84 (L i.1 rl2.p3 i.2) rl2.p3)).set 2 (MP map73 gb3 rl2.q4)).set 4 (sl3 (L a1 x2 c1) rl2.1),[])) hit2 c (i2.1,i2.2.1) (c.rk (rg 5) [0,1]) (fun s2 q2 i3 _ _ c h hr2=>?_) fun k2 _ _ c=>?_))
 refine P0 [] c fun _ c=>S0 (I0 c h (fun h=>?_) fun h=>?_)
 refine K0 (S0 (wp_block (P0 [] c fun _ c=>Yj mix ?_)))
 refine Rh 1 ?_
 refine Rh 0 ?_
 refine Bd h fun x3 hx3 h=>Bd h fun x4 hx4 h=>rM 11 [(5,Pd.el (x3:Int)),(6,.eq (I x3)),(9,Pd.el (x4:Int)),(10,.eq (I x4))] [] c (fun ow=>⟨Zj ow (Nid c (.f 1) (kN hx3)),Zj ow (Nld c 5 (q:=x3) (atM 5 (p:=.el (x3:Int)))),Zj ow (Nid c (.f 0) (kN hx4)),Zj ow (Nld c 9 (q:=x4) (atM 9 (p:=.el (x4:Int)))),tt⟩) fun _ _ _ _ _ c=>?_
 refine Bd h fun x5 hx5 h=>Ca [0,1,2] c (Z5 hx5) tt call126 fun i4 _ _ c=>?_
 refine Bd h fun x6 hx6 h=>Eset 1 c hx6 fun _ _ _ c=>?_
 refine E1 (bk (tn (P1 [] c fun _ c=>Nx h (i4.1,i4.2) (c.rk [2,3,4,0,1] [0,1]))))
 refine wp_exit (te (te (be ?_)))
 obtain rfl:=hr2 _ (sk h)
 exact tn ⟨(i3.1,i3.2),c.rk (rg 5) [0,1]⟩
 refine T0 (Fp [] 3 c fun _ c=>Bd h fun x7 hx7 h=>Evw 3 c hx7 fun a2 c2 _ hv1 c=>?_)
 refine Fp [] 1 c fun _ c=>?_
 obtain ⟨he1,c⟩:=c.relen 4
 replace c:=c.eqs (v:=L a1 x2 c1) (u:=L a1 rl2.1 c1) 51 (by simp only [L,he1])
 refine Bd h fun x8 hx8 h=>Ca [0,1,2] c (Y7 hx8) ⟨.vw 0 hv1 hx7,.g 1,tt⟩ call119 fun i5 _ _ c=>?_
 refine Fp [] 5 c fun _ c=>E0 (T1 (Fp [] 2 c fun _ c=>?_))
 replace c:=c.nf
 refine Bd h fun x9 hx9 h=>Evw 0 c hx9 fun a3 c3 _ hv2 c=>?_
 refine Fp [] 1 c fun _ c=>Ecpv (m:=x8.1) 0 c hv2 hx9 (.g 2) fun _ _ _ c=>?_
 refine E1 (bk (tn (P1 [] c fun _ c=>?_)))
 obtain ⟨he2,c⟩:=c.relen 0
 replace c:=c.eqs (v:=L i2.p2 s1.2.1 i2.q3) (u:=L i2.p2 (vcopy s1.2.1 s1.1 (List.length x9) x8.1) i2.q3) 8 (by simp only [L,he2])
 exact Nx h (i5.p2,i5.q3,i2.p2,i2.q3) (c.rk [3,4,5,0] [0,1])
 refine wp_exit (te (te (be ?_)))
 obtain rfl:=hr1 _ (sk h)
 exact tn ⟨(i2.1,i2.2.1,i2.p2,i2.q3),c.rk (rg 4) [0,1]⟩
 refine P0 [] c fun _ c=>?_
 cases h
 exact wp_ret (Rt c (k1.p2,k1.q3,k1.1,k1.2.1) [3,0,1,2] [])
theorem Zo {p0 p1 p2 p3 gb0 gb3 gn4 r} (h:Zb p0 p1 p2 p3 = some r):Con prog 80 [B gb0 0,I p1,I p2,I p3] [BX gb0 75 [I p0.c.Inputs,.slice ga1 gn4 gc2,.map (some gb3),.bool p0.full],sl84 (.slice ga1 gn4 gc2) p0.c.Gates,MP map73 gb3 p0.line] [] fun (i:Oh)=>([I r.1],[BX gb0 75 [I r.2.c.Inputs,L i.1 r.2.c.Gates i.2,.map (some gb3),.bool r.2.full],sl84 (L i.1 r.2.c.Gates i.2) r.2.c.Gates,MP map73 gb3 r.2.line],[]):=by
 unfold Zb at h
 refine En func80 rfl ntmps80 fun _ fr w c=>?_
 obtain ⟨rfl,c⟩:=c.relen 1
 refine P0 [] c fun _ c=>T0 (Fp [] 3 c fun _ c=>Bd h fun x1 hx1 h=>Ca [0,1,2] c (Z5 hx1) tt call126 fun i1 _ _ c=>?_)
 refine Fp [] 1 c fun _ c=>E0 (T0 (Fp [] 4 c fun _ c=>Bd h fun x2 hx2 h=>Ca [0,1,2] c (Z5 hx2) tt call126 fun i2 _ _ c=>?_))
 refine Fp [] 1 c fun _ c=>E0 (T0 (Fp [] 3 c fun _ c=>Bd h fun x3 hx3 h=>Ca [0,1,2] c (Yd hx3) tt call127 fun i3 _ _ c=>?_))
 refine Fp [] 1 c fun _ c=>E0 ?_
 cases h
 exact wp_ret (Rt c (i3.1,i3.2) [0,1,2] [])
theorem Zab {p0 p1 p2 gb0 gb3 gn4 r} (h:Yo n p0 p1 p2 = some r):Con prog 121 [B gb0 0,L ga5 p1 gc6,L ga7 p2 gc8] [BX gb0 75 [I p0.c.Inputs,.slice ga1 gn4 gc2,.map (some gb3),.bool p0.full],sl84 (.slice ga1 gn4 gc2) p0.c.Gates,MP map73 gb3 p0.line] [lR ga5 p1 gc6,lR ga7 p2 gc8] fun (i:Ob (Ob Oh))=>([L i.1 r.1 i.2.1,L i.p2 r.2.1 i.p3],[sl3 (L i.1 r.1 i.2.1) r.1,sl3 (L i.p2 r.2.1 i.p3) r.2.1,BX gb0 75 [I r.2.2.c.Inputs,L i.p4 r.2.2.c.Gates i.q5,.map (some gb3),.bool r.2.2.full],sl84 (L i.p4 r.2.2.c.Gates i.q5) r.2.2.c.Gates,MP map73 gb3 r.2.2.line],[]):=by
 unfold Yo at h
 refine En func121 rfl ntmps121 fun _ fr w c=>?_
 obtain ⟨rfl,c⟩:=c.relen 1
 refine P0 [] c fun _ c=>P0 [] c fun _ c=>T0 (Fp [] 1 c fun _ c=>Bd h fun x1 hx1 h=>Emk 3 c hx1 fun a1 c1 _ _ c=>?_)
 refine Fp [] 1 c fun _ c=>E0 (T0 (Fp [] 1 c fun _ c=>Bd h fun x2 hx2 h=>Cb c (X4 hx2) tt call77 fun i1 _ _ c=>?_))
 refine Fp [] 1 c fun _ c=>E0 (T0 (Fp [] 1 c fun _ c=>Bd h fun x3 hx3 h=>Cb c (Xm hx3) ⟨.f 1,tt⟩ call78 fun i2 _ _ c=>?_))
 replace c:=c.nf
 refine Elt 3 ([1]:List Int) c fun a2 c2 _ _ c=>?_
 refine Bd h fun x4 hx4 h=>Eap 5 c (.g 6) hx4 fun a3 c3 _ _ c=>?_
 refine Fp [] 1 c fun _ c=>E0 (S0 (P0 [] c fun _ c=>Bd h fun rl1 hit1 h=>Lp (fun s1  (i:Oh)=>([(0,B gb0 0),(1,L ga5 p1 gc6),(9,L a1 x1 c1),(10,L i1.1 x2 i1.2),(11,L a3 x4 c3),(12,I s1.1)],fun Γ=>((((Γ.set 0 (BX gb0 75 [I s1.p3,L i.1 s1.p5 i.2,.map (some gb3),.bool s1.p4])).set 1 (sl84 (L i.1 s1.p5 i.2) s1.p5)).set 2 (MP map73 gb3 s1.q6)).set 3 (sl3 (L a1 x1 c1) s1.2.1)).set 4 (sl3 (L i1.1 x2 i1.2) s1.p2),[])) (fun  (i:Oh)=>([(9,L a1 x1 c1),(10,L i1.1 x2 i1.2)],fun Γ=>((((Γ.set 0 (BX gb0 75 [I rl1.p2,L i.1 rl1.p4 i.2,.map (some gb3),.bool rl1.p3])).set 1 (sl84 (L i.1 rl1.p4 i.2) rl1.p4)).set 2 (MP map73 gb3 rl1.q5)).set 3 (sl3 (L a1 x1 c1) rl1.1)).set 4 (sl3 (L i1.1 x2 i1.2) rl1.2.1),[])) hit1 c (ga1,gc2) (c.rk (rg 7) [0,1]) (fun s1 q1 i3 _ _ c h hr1=>?_) fun k1 _ _ c=>?_))
 refine S0 (P0 [] c fun _ c=>I0 c h (fun h=>?_) fun h=>?_)
 refine K0 (S0 (wp_block (T0 (Fp [] 2 c fun _ c=>Bd h fun x5 hx5 h=>Eel c (.f 0) hx5 fun _ _ c=>?_))))
 refine Elt 3 ([x5]:List Int) c fun a4 c4 _ _ c=>?_
 refine Fp [] 1 c fun _ c=>?_
 replace c:=c.nf
 refine Bd h fun x6 hx6 h=>Eap 7 c (.g 4) hx6 fun a5 c5 _ _ c=>?_
 refine Fp [] 1 c fun _ c=>E0 (T0 (Fp [] 3 c fun _ c=>Bd h fun x7 hx7 h=>Ca [0,1,2] c (Y7 hx7) ⟨.g 4,.g 2,tt⟩ call119 fun i4 _ _ c=>?_))
 refine Fp [] 5 c fun _ c=>E0 (T0 (Fp [] 3 c fun _ c=>?_))
 replace c:=c.nf
 refine Bd h fun x8 hx8 h=>Eset 0 c hx8 fun _ _ _ c=>?_
 refine E0 (P0 [] c fun _ c=>Bd h fun rl2 hit2 h=>Tq (Lp (fun s2  (i:Oh)=>([(0,B gb0 0),(1,L ga5 p1 gc6),(9,L a1 x1 c1),(10,L i1.1 x2 i1.2),(11,L a3 x4 c3),(12,I s1.1),(13,L a5 x6 c5),(14,L i4.1 x7.1 i4.2.1),(15,I x7.2.1),(52,I (len x2)),(53,I s2.1)],fun Γ=>(((Γ.set 1 (sl3 (L i1.1 x2 i1.2) s2.2.1)).set 6 (BX gb0 75 [I s2.p2,L i.1 s2.p4 i.2,.map (some gb3),.bool s2.p3])).set 7 (sl84 (L i.1 s2.p4 i.2) s2.p4)).set 8 (MP map73 gb3 s2.q5),[])) (fun  (i:Oh)=>([(0,B gb0 0),(1,L ga5 p1 gc6),(9,L a1 x1 c1),(10,L i1.1 x2 i1.2),(11,L a3 x4 c3),(12,I s1.1)],fun Γ=>(((Γ.set 1 (sl3 (L i1.1 x2 i1.2) rl2.1)).set 6 (BX gb0 75 [I rl2.2.1,L i.1 rl2.p3 i.2,.map (some gb3),.bool rl2.p2])).set 7 (sl84 (L i.1 rl2.p3 i.2) rl2.p3)).set 8 (MP map73 gb3 rl2.q4),[])) hit2 c (i4.p2,i4.q3) (c.rk (rg 9) [0,1]) (fun s2 q2 i5 _ _ c h hr2=>?_) fun k2 _ _ c=>?_))
 refine P0 [] c fun _ c=>S0 (I0 c h (fun h=>?_) fun h=>?_)
 refine K0 (S0 (wp_block (P0 [] c fun _ c=>Yj mix ?_)))
 refine Rh 1 ?_
 refine Rh 0 ?_
 refine Bd h fun x9 hx9 h=>Bd h fun x10 hx10 h=>rM 12 [(6,Pd.el (x9:Int)),(7,.eq (I x9)),(10,Pd.el (x10:Int)),(11,.eq (I x10))] [] c (fun ow=>⟨Zj ow (Nid c (.g 5) (kN hx9)),Zj ow (Nld c 6 (q:=x9) (atM 6 (p:=.el (x9:Int)))),Zj ow (Nid c (.g 4) (kN hx10)),Zj ow (Nld c 10 (q:=x10) (atM 10 (p:=.el (x10:Int)))),tt⟩) fun _ _ _ _ _ c=>?_
 refine Bd h fun x11 hx11 h=>Ca [6,7,8] c (Zo hx11) tt call80 fun i6 _ _ c=>?_
 replace c:=c.nf
 refine Bd h fun x12 hx12 h=>Eset 1 c hx12 fun _ _ _ c=>?_
 refine E1 (bk (tn (P1 [] c fun _ c=>Nx h (i6.1,i6.2) (c.rk (rg 9) [0,1]))))
 refine wp_exit (te (te (be ?_)))
 obtain rfl:=hr2 _ (sk h)
 exact tn ⟨(i5.1,i5.2),c.rk (rg 9) [0,1]⟩
 refine bk (tn (P1 [] c fun _ c=>Nx h (k2.1,k2.2) (c.rk [6,7,8,0,1,2,3] [0,1])))
 refine wp_exit (te (te (be ?_)))
 obtain rfl:=hr1 _ (sk h)
 exact tn ⟨(i3.1,i3.2),c.rk (rg 7) [0,1]⟩
 refine P0 [] c fun _ c=>?_
 cases h
 obtain ⟨he1,c⟩:=c.relen 3
 replace c:=c.eqs (v:=L a1 x1 c1) (u:=L a1 rl1.1 c1) 6 (by simp only [L,he1])
 obtain ⟨he2,c⟩:=c.relen 4
 replace c:=c.eqs (v:=L i1.1 x2 i1.2) (u:=L i1.1 rl1.2.1 i1.2) 7 (by simp only [L,he2])
 exact wp_ret (Rg c (a1,c1,i1.1,i1.2,k1.1,k1.2) [3,4,0,1,2] [] (.tmp (.tmp .nil)))
theorem Zad {p0 p1 p2 p3 gb0 gb3 gn4 r} (h:Yc n p0 p1 p2 p3 = some r):Con prog 122 [B gb0 0,I p1,L ga5 p2 gc6,L ga7 p3 gc8] [BX gb0 75 [I p0.c.Inputs,.slice ga1 gn4 gc2,.map (some gb3),.bool p0.full],sl84 (.slice ga1 gn4 gc2) p0.c.Gates,MP map73 gb3 p0.line] [lR ga5 p2 gc6,lR ga7 p3 gc8] fun (i:Ob Oh)=>([L i.1 r.1 i.2.1],[sl3 (L i.1 r.1 i.2.1) r.1,BX gb0 75 [I r.2.c.Inputs,L i.p2 r.2.c.Gates i.q3,.map (some gb3),.bool r.2.full],sl84 (L i.p2 r.2.c.Gates i.q3) r.2.c.Gates,MP map73 gb3 r.2.line],[]):=by
 unfold Yc at h
 refine En func122 rfl ntmps122 fun _ fr w c=>?_
 obtain ⟨rfl,c⟩:=c.relen 1
 refine P0 [] c fun _ c=>P0 [] c fun _ c=>P0 [] c fun _ c=>S0 (P0 [] c fun _ c=>I0 c h (fun h=>?_) fun h=>?_)
 refine T1 (Fp [] 3 c fun _ c=>Bd h fun x1 hx1 h=>Eel c (.f 0) hx1 fun _ _ c=>?_)
 refine Fp [] 1 c fun _ c=>E0 (T0 (Fp [] 1 c fun _ c=>Bd h fun x2 hx2 h=>Cb c (Zt hx2) ⟨.f 0,tt⟩ call39 fun i1 _ _ c=>?_))
 refine Fp [] 1 c fun _ c=>E0 (P0 [] c fun _ c=>Bd h fun rl1 hit1 h=>S0 (Lp (fun s1  (i:Ob Oh)=>([(0,B gb0 0),(1,I p1),(3,L ga7 p3 gc8),(9,I (len p2)),(10,I x1),(11,L i.p2 s1.2.1 i.q3),(12,I s1.1)],fun Γ=>(((Γ.set 0 (BX gb0 75 [I s1.p2,L i.1 s1.p4 i.2.1,.map (some gb3),.bool s1.p3])).set 1 (sl84 (L i.1 s1.p4 i.2.1) s1.p4)).set 2 (MP map73 gb3 s1.q5)).set 3 (sl3 (L i.p2 s1.2.1 i.q3) s1.2.1),[])) (fun  (i:Ob Oh)=>([(0,B gb0 0),(3,L ga7 p3 gc8),(9,I (len p2)),(10,I x1),(11,L i.p2 rl1.2.1 i.q3),(12,I rl1.1)],fun Γ=>(((Γ.set 0 (BX gb0 75 [I rl1.p2,L i.1 rl1.p4 i.2.1,.map (some gb3),.bool rl1.p3])).set 1 (sl84 (L i.1 rl1.p4 i.2.1) rl1.p4)).set 2 (MP map73 gb3 rl1.q5)).set 3 (sl3 (L i.p2 rl1.2.1 i.q3) rl1.2.1),[])) hit1 c (ga1,gc2,i1.1,i1.2) (c.rk (rg 4) [0,1]) (fun s1 q1 i2 _ _ c h hr1=>?_) fun k1 _ _ c=>?_))
 refine S0 (Bd h fun x3 hx3 h=>S0 (rZ [(6,.eq (I x3))] [] mix c ⟨Nshl c (gT hx3),tt⟩ fun _ _ c=>I0 c h (fun h=>?_) fun h=>?_))
 refine K0 (S0 (wp_block (T0 (Fp [] 1 c fun _ c=>Bd h fun x4 hx4 h=>Cb c (Zt hx4) ⟨.g 3,tt⟩ call39 fun i3 _ _ c=>?_))))
 refine Fp [] 1 c fun _ c=>E0 (P0 [] c fun _ c=>Bd h fun rl2 hit2 h=>Tq (Lp (fun s2  (i:Oh)=>([(0,B gb0 0),(1,I p1),(3,L ga7 p3 gc8),(9,I (len p2)),(10,I x1),(11,L i2.p2 s1.2.1 i2.q3),(12,I s1.1),(13,L i3.1 x4 i3.2),(45,I (len s1.2.1)),(46,I s2.1)],fun Γ=>(((Γ.set 0 (BX gb0 75 [I s2.p2,L i.1 s2.p4 i.2,.map (some gb3),.bool s2.p3])).set 1 (sl84 (L i.1 s2.p4 i.2) s2.p4)).set 2 (MP map73 gb3 s2.q5)).set 3 (sl3 (L i2.p2 s1.2.1 i2.q3) s2.2.1),[])) (fun  (i:Oh)=>([(0,B gb0 0),(1,I p1),(3,L ga7 p3 gc8),(9,I (len p2)),(10,I x1),(11,L i2.p2 s1.2.1 i2.q3),(12,I s1.1)],fun Γ=>(((Γ.set 0 (BX gb0 75 [I rl2.2.1,L i.1 rl2.p3 i.2,.map (some gb3),.bool rl2.p2])).set 1 (sl84 (L i.1 rl2.p3 i.2) rl2.p3)).set 2 (MP map73 gb3 rl2.q4)).set 3 (sl3 (L i2.p2 s1.2.1 i2.q3) rl2.1),[])) hit2 c (i2.1,i2.2.1) (c.rk (rg 5) [0,1]) (fun s2 q2 i4 _ _ c h hr2=>?_) fun k2 _ _ c=>?_))
 refine P0 [] c fun _ c=>S0 (I0 c h (fun h=>?_) fun h=>?_)
 refine K0 (S0 (wp_block (P0 [] c fun _ c=>T0 (Fp [] 3 c fun _ c=>Bd h fun x5 hx5 h=>Eshl c hx5 fun _ c=>?_))))
 refine Fp [] 2 c fun _ c=>E0 (S0 (P0 [] c fun _ c=>I0 c h (fun h=>?_) fun h=>?_))
 refine T1 (Fp [] 3 c fun _ c=>Bd h fun x6 hx6 h=>Eshl c hx6 fun _ c=>?_)
 refine Fp [] 2 c fun _ c=>E0 (P0 [] c fun _ c=>S0 (S0 (Ry [] mix c fun _ _ c=>I0 c h (fun h=>?_) fun h=>?_)))
 refine T1 (Fp [] 2 c fun _ c=>Bd h fun x7 hx7 h=>Eel c (.g 4) hx7 fun _ _ c=>?_)
 refine Fp [] 1 c fun _ c=>E0 (Yj mix ?_)
 refine Rh 1 ?_
 refine Rh 0 ?_
 refine Bd h fun x8 hx8 h=>Bd h fun x9 hx9 h=>rM 12 [(5,Pd.el (x8:Int)),(6,.eq (I x8)),(10,Pd.el (x9:Int)),(11,.eq (I x9))] [] c (fun ow=>⟨Zj ow (Nid c (.f 1) (kN hx8)),Zj ow (Nld c 5 (q:=x8) (atM 5 (p:=.el (x8:Int)))),Zj ow (Nid c (.g 4) (kN hx9)),Zj ow (Nld c 10 (q:=x9) (atM 10 (p:=.el (x9:Int)))),tt⟩) fun _ _ _ _ _ c=>?_
 refine Bd h fun x10 hx10 h=>Ca [0,1,2] c (Zo hx10) tt call80 fun i5 _ _ c=>?_
 refine Bd h fun x11 hx11 h=>Eset 0 c hx11 fun _ _ _ c=>?_
 refine E1 (bk (tn (P1 [] c fun _ c=>Nx h (i5.1,i5.2) (c.rk [2,3,4,0,1] [0,1]))))
 refine K0 (Yj mix ?_)
 refine Rh 1 ?_
 refine Rh 0 ?_
 refine Bd h fun x12 hx12 h=>Bd h fun x13 hx13 h=>rM 12 [(5,Pd.el (x12:Int)),(6,.eq (I x12)),(10,Pd.el (x13:Int)),(11,.eq (I x13))] [] c (fun ow=>⟨Zj ow (Nid c (.f 1) (kN hx12)),Zj ow (Nld c 5 (q:=x12) (atM 5 (p:=.el (x12:Int)))),Zj ow (Nid c (.g 4) (kN hx13)),Zj ow (Nld c 10 (q:=x13) (atM 10 (p:=.el (x13:Int)))),tt⟩) fun _ _ _ _ _ c=>?_
 refine Bd h fun x14 hx14 h=>Ca [0,1,2] c (Zo hx14) tt call80 fun i6 _ _ c=>?_
 refine Bd h fun x15 hx15 h=>Eset 0 c hx15 fun _ _ _ c=>?_
 refine E1 (bk (tn (P1 [] c fun _ c=>Nx h (i6.1,i6.2) (c.rk [2,3,4,0,1] [0,1]))))
 refine K0 (P0 [] c fun _ c=>S0 (S0 (Ry [] mix c fun _ _ c=>I0 c h (fun h=>?_) fun h=>?_)))
 refine T1 (Fp [] 2 c fun _ c=>Bd h fun x16 hx16 h=>Eel c (.g 4) hx16 fun _ _ c=>?_)
 refine Fp [] 1 c fun _ c=>E0 (Yj mix ?_)
 refine Rh 1 ?_
 refine Rh 0 ?_
 refine Bd h fun x17 hx17 h=>Bd h fun x18 hx18 h=>rM 12 [(5,Pd.el (x17:Int)),(6,.eq (I x17)),(10,Pd.el (x18:Int)),(11,.eq (I x18))] [] c (fun ow=>⟨Zj ow (Nid c (.f 1) (kN hx17)),Zj ow (Nld c 5 (q:=x17) (atM 5 (p:=.el (x17:Int)))),Zj ow (Nid c (.g 4) (kN hx18)),Zj ow (Nld c 10 (q:=x18) (atM 10 (p:=.el (x18:Int)))),tt⟩) fun _ _ _ _ _ c=>?_
 refine Bd h fun x19 hx19 h=>Ca [0,1,2] c (Zo hx19) tt call80 fun i7 _ _ c=>?_
 refine Bd h fun x20 hx20 h=>Eset 0 c hx20 fun _ _ _ c=>?_
 refine E1 (bk (tn (P1 [] c fun _ c=>Nx h (i7.1,i7.2) (c.rk [2,3,4,0,1] [0,1]))))
 refine K0 (Yj mix ?_)
 refine Rh 1 ?_
 refine Rh 0 ?_
 refine Bd h fun x21 hx21 h=>Bd h fun x22 hx22 h=>rM 12 [(5,Pd.el (x21:Int)),(6,.eq (I x21)),(10,Pd.el (x22:Int)),(11,.eq (I x22))] [] c (fun ow=>⟨Zj ow (Nid c (.f 1) (kN hx21)),Zj ow (Nld c 5 (q:=x21) (atM 5 (p:=.el (x21:Int)))),Zj ow (Nid c (.g 4) (kN hx22)),Zj ow (Nld c 10 (q:=x22) (atM 10 (p:=.el (x22:Int)))),tt⟩) fun _ _ _ _ _ c=>?_
 refine Bd h fun x23 hx23 h=>Ca [0,1,2] c (Zo hx23) tt call80 fun i8 _ _ c=>?_
 refine Bd h fun x24 hx24 h=>Eset 0 c hx24 fun _ _ _ c=>?_
 refine E1 (bk (tn (P1 [] c fun _ c=>Nx h (i8.1,i8.2) (c.rk [2,3,4,0,1] [0,1]))))
 refine wp_exit (te (te (be ?_)))
 obtain rfl:=hr2 _ (sk h)
 exact tn ⟨(i4.1,i4.2),c.rk (rg 5) [0,1]⟩
 refine bk (tn (P1 [] c fun _ c=>?_))
 obtain ⟨he1,c⟩:=c.relen 3
 replace c:=c.eqs (v:=L i2.p2 s1.2.1 i2.q3) (u:=L i2.p2 rl2.1 i2.q3) 11 (by simp only [L,he1])
 exact Nx h (k2.1,k2.2,i2.p2,i2.q3) (c.rk (rg 4) [0,1])
 refine wp_exit (te (te (be ?_)))
 obtain rfl:=hr1 _ (sk h)
 exact tn ⟨(i2.1,i2.2.1,i2.p2,i2.q3),c.rk (rg 4) [0,1]⟩
 refine S0 (P0 [] c fun _ c=>I0 c h (fun h=>?_) fun h=>?_)
 refine P0 [] c fun _ c=>Bd h fun rl3 hit3 h=>S0 (Lp (fun s3  (i:Oh)=>([(0,B gb0 0),(3,L ga7 p3 gc8),(9,I (len p2)),(10,I x1),(11,L k1.p2 rl1.2.1 k1.q3),(12,I s3.1),(17,I s3.2.1)],fun Γ=>((Γ.set 0 (BX gb0 75 [I s3.p2,L i.1 s3.p4 i.2,.map (some gb3),.bool s3.p3])).set 1 (sl84 (L i.1 s3.p4 i.2) s3.p4)).set 2 (MP map73 gb3 s3.q5),[])) (fun  (i:Oh)=>([(0,B gb0 0),(10,I x1),(11,L k1.p2 rl1.2.1 k1.q3),(17,I rl3.1)],fun Γ=>((Γ.set 0 (BX gb0 75 [I rl3.2.1,L i.1 rl3.p3 i.2,.map (some gb3),.bool rl3.p2])).set 1 (sl84 (L i.1 rl3.p3 i.2) rl3.p3)).set 2 (MP map73 gb3 rl3.q4),[])) hit3 c (k1.1,k1.2.1) (c.rk (rg 4) [0,1]) (fun s3 q3 i9 _ _ c h hr3=>?_) fun k3 _ _ c=>?_)
 refine S0 (P0 [] c fun _ c=>I0 c h (fun h=>?_) fun h=>?_)
 refine K0 (S0 (wp_block (T1 (Fp [] 4 c fun _ c=>Bd h fun x25 hx25 h=>Eel c (.f 1) hx25 fun _ _ c=>?_))))
 refine Bd h fun x26 hx26 h=>Ca [0,1,2] c (Yd hx26) tt call127 fun i10 _ _ c=>?_
 refine Fp [] 1 c fun _ c=>E1 (bk (tn (P1 [] c fun _ c=>Nx h (i10.1,i10.2) (c.rk [1,2,3,0] [0,1]))))
 refine wp_exit (te (te (be ?_)))
 obtain rfl:=hr3 _ (sk h)
 exact tn ⟨(i9.1,i9.2),c.rk (rg 4) [0,1]⟩
 refine P0 [] c fun _ c=>Bd h fun rl4 hit4 h=>Lp (fun s4  (i:Oh)=>([(0,B gb0 0),(10,I x1),(11,L k1.p2 rl1.2.1 k1.q3),(17,I rl3.1),(104,I (len rl1.2.1)),(105,I s4.1)],fun Γ=>(((Γ.set 0 (BX gb0 75 [I s4.p2,L i.1 s4.p4 i.2,.map (some gb3),.bool s4.p3])).set 1 (sl84 (L i.1 s4.p4 i.2) s4.p4)).set 2 (MP map73 gb3 s4.q5)).set 3 (sl3 (L k1.p2 rl1.2.1 k1.q3) s4.2.1),[])) (fun  (i:Oh)=>([(11,L k1.p2 rl1.2.1 k1.q3)],fun Γ=>(((Γ.set 0 (BX gb0 75 [I rl4.2.1,L i.1 rl4.p3 i.2,.map (some gb3),.bool rl4.p2])).set 1 (sl84 (L i.1 rl4.p3 i.2) rl4.p3)).set 2 (MP map73 gb3 rl4.q4)).set 3 (sl3 (L k1.p2 rl1.2.1 k1.q3) rl4.1),[])) hit4 c (k3.1,k3.2) (c.rk (rg 4) [0,1]) (fun s4 q4 i11 _ _ c h hr4=>?_) fun k4 _ _ c=>?_
 refine P0 [] c fun _ c=>S0 (I0 c h (fun h=>?_) fun h=>?_)
 refine K0 (S0 (wp_block (P0 [] c fun _ c=>T1 (Fp [] 7 c fun _ c=>Bd h fun x27 hx27 h=>Eel c (.g 3) hx27 fun _ _ c=>?_))))
 refine Bd h fun x28 hx28 h=>Ca [0,1,2] c (Zo hx28) tt call80 fun i12 _ _ c=>?_
 refine Bd h fun x29 hx29 h=>Eset 0 c hx29 fun _ _ _ c=>?_
 refine E1 (bk (tn (P1 [] c fun _ c=>Nx h (i12.1,i12.2) (c.rk [1,2,3,0] [0,1]))))
 refine wp_exit (te (te (be ?_)))
 obtain rfl:=hr4 _ (sk h)
 exact tn ⟨(i11.1,i11.2),c.rk (rg 4) [0,1]⟩
 refine P0 [] c fun _ c=>?_
 cases h
 obtain ⟨he2,c⟩:=c.relen 3
 replace c:=c.eqs (v:=L k1.p2 rl1.2.1 k1.q3) (u:=L k1.p2 rl4.1 k1.q3) 8 (by simp only [L,he2])
 exact wp_ret (Rt c (k1.p2,k1.q3,k4.1,k4.2) [3,0,1,2] [])
 refine K0 (P0 [] c fun _ c=>?_)
 cases h
 exact wp_ret (Rt c (k1.p2,k1.q3,k1.1,k1.2.1) [3,0,1,2] [])
 refine K0 (T0 (Fp [] 1 c fun _ c=>Bd h fun x30 hx30 h=>Cb c (Zt hx30) ⟨.f 0,tt⟩ call39 fun i13 _ _ c=>?_))
 refine Fp [] 1 c fun _ c=>E0 (P0 [] c fun _ c=>Bd h fun rl5 hit5 h=>S0 (Lp (fun s5  (i:Ob Oh)=>([(0,B gb0 0),(1,I p1),(3,L ga7 p3 gc8),(9,I (len p2)),(10,I (-1)),(11,L i.p2 s5.2.1 i.q3),(12,I s5.1)],fun Γ=>(((Γ.set 0 (BX gb0 75 [I s5.p2,L i.1 s5.p4 i.2.1,.map (some gb3),.bool s5.p3])).set 1 (sl84 (L i.1 s5.p4 i.2.1) s5.p4)).set 2 (MP map73 gb3 s5.q5)).set 3 (sl3 (L i.p2 s5.2.1 i.q3) s5.2.1),[])) (fun  (i:Ob Oh)=>([(0,B gb0 0),(3,L ga7 p3 gc8),(9,I (len p2)),(10,I (-1)),(11,L i.p2 rl5.2.1 i.q3),(12,I rl5.1)],fun Γ=>(((Γ.set 0 (BX gb0 75 [I rl5.p2,L i.1 rl5.p4 i.2.1,.map (some gb3),.bool rl5.p3])).set 1 (sl84 (L i.1 rl5.p4 i.2.1) rl5.p4)).set 2 (MP map73 gb3 rl5.q5)).set 3 (sl3 (L i.p2 rl5.2.1 i.q3) rl5.2.1),[])) hit5 c (ga1,gc2,i13.1,i13.2) (c.rk (rg 4) [0,1]) (fun s5 q5 i14 _ _ c h hr5=>?_) fun k5 _ _ c=>?_))
 refine S0 (Bd h fun x31 hx31 h=>S0 (rZ [(6,.eq (I x31))] [] mix c ⟨Nshl c (gT hx31),tt⟩ fun _ _ c=>I0 c h (fun h=>?_) fun h=>?_))
 refine K0 (S0 (wp_block (T0 (Fp [] 1 c fun _ c=>Bd h fun x32 hx32 h=>Cb c (Zt hx32) ⟨.g 3,tt⟩ call39 fun i15 _ _ c=>?_))))
 refine Fp [] 1 c fun _ c=>E0 (P0 [] c fun _ c=>Bd h fun rl6 hit6 h=>Tq (Lp (fun s6  (i:Oh)=>([(0,B gb0 0),(1,I p1),(3,L ga7 p3 gc8),(9,I (len p2)),(10,I (-1)),(11,L i14.p2 s5.2.1 i14.q3),(12,I s5.1),(13,L i15.1 x32 i15.2),(45,I (len s5.2.1)),(46,I s6.1)],fun Γ=>(((Γ.set 0 (BX gb0 75 [I s6.p2,L i.1 s6.p4 i.2,.map (some gb3),.bool s6.p3])).set 1 (sl84 (L i.1 s6.p4 i.2) s6.p4)).set 2 (MP map73 gb3 s6.q5)).set 3 (sl3 (L i14.p2 s5.2.1 i14.q3) s6.2.1),[])) (fun  (i:Oh)=>([(0,B gb0 0),(1,I p1),(3,L ga7 p3 gc8),(9,I (len p2)),(10,I (-1)),(11,L i14.p2 s5.2.1 i14.q3),(12,I s5.1)],fun Γ=>(((Γ.set 0 (BX gb0 75 [I rl6.2.1,L i.1 rl6.p3 i.2,.map (some gb3),.bool rl6.p2])).set 1 (sl84 (L i.1 rl6.p3 i.2) rl6.p3)).set 2 (MP map73 gb3 rl6.q4)).set 3 (sl3 (L i14.p2 s5.2.1 i14.q3) rl6.1),[])) hit6 c (i14.1,i14.2.1) (c.rk (rg 5) [0,1]) (fun s6 q6 i16 _ _ c h hr6=>?_) fun k6 _ _ c=>?_))
 refine P0 [] c fun _ c=>S0 (I0 c h (fun h=>?_) fun h=>?_)
 refine K0 (S0 (wp_block (P0 [] c fun _ c=>T0 (Fp [] 3 c fun _ c=>Bd h fun x33 hx33 h=>Eshl c hx33 fun _ c=>?_))))
 refine Fp [] 2 c fun _ c=>E0 (S0 (P0 [] c fun _ c=>I0 c h (fun h=>?_) fun h=>?_))
 refine T1 (Fp [] 3 c fun _ c=>Bd h fun x34 hx34 h=>Eshl c hx34 fun _ c=>?_)
 refine Fp [] 2 c fun _ c=>E0 (P0 [] c fun _ c=>S0 (S0 (Ry [] mix c fun _ _ c=>I0 c h (fun h=>?_) fun h=>?_)))
 refine T1 (Fp [] 2 c fun _ c=>Bd h fun x35 hx35 h=>Eel c (.g 4) hx35 fun _ _ c=>?_)
 refine Fp [] 1 c fun _ c=>E0 (Yj mix ?_)
 refine Rh 1 ?_
 refine Rh 0 ?_
 refine Bd h fun x36 hx36 h=>Bd h fun x37 hx37 h=>rM 12 [(5,Pd.el (x36:Int)),(6,.eq (I x36)),(10,Pd.el (x37:Int)),(11,.eq (I x37))] [] c (fun ow=>⟨Zj ow (Nid c (.f 1) (kN hx36)),Zj ow (Nld c 5 (q:=x36) (atM 5 (p:=.el (x36:Int)))),Zj ow (Nid c (.g 4) (kN hx37)),Zj ow (Nld c 10 (q:=x37) (atM 10 (p:=.el (x37:Int)))),tt⟩) fun _ _ _ _ _ c=>?_
 refine Bd h fun x38 hx38 h=>Ca [0,1,2] c (Zo hx38) tt call80 fun i17 _ _ c=>?_
 refine Bd h fun x39 hx39 h=>Eset 0 c hx39 fun _ _ _ c=>?_
 refine E1 (bk (tn (P1 [] c fun _ c=>Nx h (i17.1,i17.2) (c.rk [2,3,4,0,1] [0,1]))))
 refine K0 (Yj mix ?_)
 refine Rh 1 ?_
 refine Rh 0 ?_
 refine Bd h fun x40 hx40 h=>Bd h fun x41 hx41 h=>rM 12 [(5,Pd.el (x40:Int)),(6,.eq (I x40)),(10,Pd.el (x41:Int)),(11,.eq (I x41))] [] c (fun ow=>⟨Zj ow (Nid c (.f 1) (kN hx40)),Zj ow (Nld c 5 (q:=x40) (atM 5 (p:=.el (x40:Int)))),Zj ow (Nid c (.g 4) (kN hx41)),Zj ow (Nld c 10 (q:=x41) (atM 10 (p:=.el (x41:Int)))),tt⟩) fun _ _ _ _ _ c=>?_
 refine Bd h fun x42 hx42 h=>Ca [0,1,2] c (Zo hx42) tt call80 fun i18 _ _ c=>?_
 refine Bd h fun x43 hx43 h=>Eset 0 c hx43 fun _ _ _ c=>?_
 refine E1 (bk (tn (P1 [] c fun _ c=>Nx h (i18.1,i18.2) (c.rk [2,3,4,0,1] [0,1]))))
 refine K0 (P0 [] c fun _ c=>S0 (S0 (Ry [] mix c fun _ _ c=>I0 c h (fun h=>?_) fun h=>?_)))
 refine T1 (Fp [] 2 c fun _ c=>Bd h fun x44 hx44 h=>Eel c (.g 4) hx44 fun _ _ c=>?_)
 refine Fp [] 1 c fun _ c=>E0 (Yj mix ?_)
 refine Rh 1 ?_
 refine Rh 0 ?_
 refine Bd h fun x45 hx45 h=>Bd h fun x46 hx46 h=>rM 12 [(5,Pd.el (x45:Int)),(6,.eq (I x45)),(10,Pd.el (x46:Int)),(11,.eq (I x46))] [] c (fun ow=>⟨Zj ow (Nid c (.f 1) (kN hx45)),Zj ow (Nld c 5 (q:=x45) (atM 5 (p:=.el (x45:Int)))),Zj ow (Nid c (.g 4) (kN hx46)),Zj ow (Nld c 10 (q:=x46) (atM 10 (p:=.el (x46:Int)))),tt⟩) fun _ _ _ _ _ c=>?_
 refine Bd h fun x47 hx47 h=>Ca [0,1,2] c (Zo hx47) tt call80 fun i19 _ _ c=>?_
 refine Bd h fun x48 hx48 h=>Eset 0 c hx48 fun _ _ _ c=>?_
 refine E1 (bk (tn (P1 [] c fun _ c=>Nx h (i19.1,i19.2) (c.rk [2,3,4,0,1] [0,1]))))
 refine K0 (Yj mix ?_)
 refine Rh 1 ?_
 refine Rh 0 ?_
 refine Bd h fun x49 hx49 h=>Bd h fun x50 hx50 h=>rM 12 [(5,Pd.el (x49:Int)),(6,.eq (I x49)),(10,Pd.el (x50:Int)),(11,.eq (I x50))] [] c (fun ow=>⟨Zj ow (Nid c (.f 1) (kN hx49)),Zj ow (Nld c 5 (q:=x49) (atM 5 (p:=.el (x49:Int)))),Zj ow (Nid c (.g 4) (kN hx50)),Zj ow (Nld c 10 (q:=x50) (atM 10 (p:=.el (x50:Int)))),tt⟩) fun _ _ _ _ _ c=>?_
 refine Bd h fun x51 hx51 h=>Ca [0,1,2] c (Zo hx51) tt call80 fun i20 _ _ c=>?_
 refine Bd h fun x52 hx52 h=>Eset 0 c hx52 fun _ _ _ c=>?_
 refine E1 (bk (tn (P1 [] c fun _ c=>Nx h (i20.1,i20.2) (c.rk [2,3,4,0,1] [0,1]))))
 refine wp_exit (te (te (be ?_)))
 obtain rfl:=hr6 _ (sk h)
 exact tn ⟨(i16.1,i16.2),c.rk (rg 5) [0,1]⟩
 refine bk (tn (P1 [] c fun _ c=>?_))
 obtain ⟨he3,c⟩:=c.relen 3
 replace c:=c.eqs (v:=L i14.p2 s5.2.1 i14.q3) (u:=L i14.p2 rl6.1 i14.q3) 11 (by simp only [L,he3])
 exact Nx h (k6.1,k6.2,i14.p2,i14.q3) (c.rk (rg 4) [0,1])
 refine wp_exit (te (te (be ?_)))
 obtain rfl:=hr5 _ (sk h)
 exact tn ⟨(i14.1,i14.2.1,i14.p2,i14.q3),c.rk (rg 4) [0,1]⟩
 refine S0 (P0 [] c fun _ c=>I0 c h (fun h=>?_) fun h=>?_)
 refine P0 [] c fun _ c=>Bd h fun rl7 hit7 h=>S0 (Lp (fun s7  (i:Oh)=>([(0,B gb0 0),(3,L ga7 p3 gc8),(9,I (len p2)),(10,I (-1)),(11,L k5.p2 rl5.2.1 k5.q3),(12,I s7.1),(17,I s7.2.1)],fun Γ=>((Γ.set 0 (BX gb0 75 [I s7.p2,L i.1 s7.p4 i.2,.map (some gb3),.bool s7.p3])).set 1 (sl84 (L i.1 s7.p4 i.2) s7.p4)).set 2 (MP map73 gb3 s7.q5),[])) (fun  (i:Oh)=>([(0,B gb0 0),(10,I (-1)),(11,L k5.p2 rl5.2.1 k5.q3),(17,I rl7.1)],fun Γ=>((Γ.set 0 (BX gb0 75 [I rl7.2.1,L i.1 rl7.p3 i.2,.map (some gb3),.bool rl7.p2])).set 1 (sl84 (L i.1 rl7.p3 i.2) rl7.p3)).set 2 (MP map73 gb3 rl7.q4),[])) hit7 c (k5.1,k5.2.1) (c.rk (rg 4) [0,1]) (fun s7 q7 i21 _ _ c h hr7=>?_) fun k7 _ _ c=>?_)
 refine S0 (P0 [] c fun _ c=>I0 c h (fun h=>?_) fun h=>?_)
 refine K0 (S0 (wp_block (T1 (Fp [] 4 c fun _ c=>Bd h fun x53 hx53 h=>Eel c (.f 1) hx53 fun _ _ c=>?_))))
 refine Bd h fun x54 hx54 h=>Ca [0,1,2] c (Yd hx54) tt call127 fun i22 _ _ c=>?_
 refine Fp [] 1 c fun _ c=>E1 (bk (tn (P1 [] c fun _ c=>Nx h (i22.1,i22.2) (c.rk [1,2,3,0] [0,1]))))
 refine wp_exit (te (te (be ?_)))
 obtain rfl:=hr7 _ (sk h)
 exact tn ⟨(i21.1,i21.2),c.rk (rg 4) [0,1]⟩
 refine P0 [] c fun _ c=>Bd h fun rl8 hit8 h=>Lp (fun s8  (i:Oh)=>([(0,B gb0 0),(10,I (-1)),(11,L k5.p2 rl5.2.1 k5.q3),(17,I rl7.1),(104,I (len rl5.2.1)),(105,I s8.1)],fun Γ=>(((Γ.set 0 (BX gb0 75 [I s8.p2,L i.1 s8.p4 i.2,.map (some gb3),.bool s8.p3])).set 1 (sl84 (L i.1 s8.p4 i.2) s8.p4)).set 2 (MP map73 gb3 s8.q5)).set 3 (sl3 (L k5.p2 rl5.2.1 k5.q3) s8.2.1),[])) (fun  (i:Oh)=>([(11,L k5.p2 rl5.2.1 k5.q3)],fun Γ=>(((Γ.set 0 (BX gb0 75 [I rl8.2.1,L i.1 rl8.p3 i.2,.map (some gb3),.bool rl8.p2])).set 1 (sl84 (L i.1 rl8.p3 i.2) rl8.p3)).set 2 (MP map73 gb3 rl8.q4)).set 3 (sl3 (L k5.p2 rl5.2.1 k5.q3) rl8.1),[])) hit8 c (k7.1,k7.2) (c.rk (rg 4) [0,1]) (fun s8 q8 i23 _ _ c h hr8=>?_) fun k8 _ _ c=>?_
 refine P0 [] c fun _ c=>S0 (I0 c h (fun h=>?_) fun h=>?_)
 refine K0 (S0 (wp_block (P0 [] c fun _ c=>T1 (Fp [] 7 c fun _ c=>Bd h fun x55 hx55 h=>Eel c (.g 3) hx55 fun _ _ c=>?_))))
 refine Bd h fun x56 hx56 h=>Ca [0,1,2] c (Zo hx56) tt call80 fun i24 _ _ c=>?_
 refine Bd h fun x57 hx57 h=>Eset 0 c hx57 fun _ _ _ c=>?_
 refine E1 (bk (tn (P1 [] c fun _ c=>Nx h (i24.1,i24.2) (c.rk [1,2,3,0] [0,1]))))
 refine wp_exit (te (te (be ?_)))
 obtain rfl:=hr8 _ (sk h)
 exact tn ⟨(i23.1,i23.2),c.rk (rg 4) [0,1]⟩
 refine P0 [] c fun _ c=>?_
 cases h
 obtain ⟨he4,c⟩:=c.relen 3
 replace c:=c.eqs (v:=L k5.p2 rl5.2.1 k5.q3) (u:=L k5.p2 rl8.1 k5.q3) 8 (by simp only [L,he4])
 exact wp_ret (Rt c (k5.p2,k5.q3,k8.1,k8.2) [3,0,1,2] [])
 refine K0 (P0 [] c fun _ c=>?_)
 cases h
 exact wp_ret (Rt c (k5.p2,k5.q3,k5.1,k5.2.1) [3,0,1,2] [])
theorem Zac {p0 p1 p2 gb0 gb3 gn4 r} (h:Yt n p0 p1 p2 = some r):Con prog 123 [B gb0 0,L ga5 p1 gc6,L ga7 p2 gc8] [BX gb0 75 [I p0.c.Inputs,.slice ga1 gn4 gc2,.map (some gb3),.bool p0.full],sl84 (.slice ga1 gn4 gc2) p0.c.Gates,MP map73 gb3 p0.line] [lR ga5 p1 gc6,lR ga7 p2 gc8] fun (i:Oh)=>([I r.1],[BX gb0 75 [I r.2.c.Inputs,L i.1 r.2.c.Gates i.2,.map (some gb3),.bool r.2.full],sl84 (L i.1 r.2.c.Gates i.2) r.2.c.Gates,MP map73 gb3 r.2.line],[]):=by
 unfold Yt at h
 refine En func123 rfl ntmps123 fun _ fr w c=>?_
 obtain ⟨rfl,c⟩:=c.relen 1
 refine P0 [] c fun _ c=>P0 [] c fun _ c=>S0 (P0 [] c fun _ c=>Bd h fun rl1 hit1 h=>Lp (fun s1  (i:Oh)=>([(0,B gb0 0),(1,L ga5 p1 gc6),(2,L ga7 p2 gc8),(7,I s1.1),(11,I (len p1)),(12,I s1.2.1)],fun Γ=>((Γ.set 0 (BX gb0 75 [I s1.p2,L i.1 s1.p4 i.2,.map (some gb3),.bool s1.p3])).set 1 (sl84 (L i.1 s1.p4 i.2) s1.p4)).set 2 (MP map73 gb3 s1.q5),[])) (fun  (i:Oh)=>([(7,I rl1.1)],fun Γ=>((Γ.set 0 (BX gb0 75 [I rl1.2.1,L i.1 rl1.p3 i.2,.map (some gb3),.bool rl1.p2])).set 1 (sl84 (L i.1 rl1.p3 i.2) rl1.p3)).set 2 (MP map73 gb3 rl1.q4),[])) hit1 c (ga1,gc2) (c.rk [0,1,2] [0,1]) (fun s1 q1 i1 _ _ c h hr1=>?_) fun k1 _ _ c=>?_)
 refine P0 [] c fun _ c=>S0 (I0 c h (fun h=>?_) fun h=>?_)
 refine K0 (S0 (wp_block (P0 [] c fun _ c=>Bd h fun x1 hx1 h=>Bd h fun x2 hx2 h=>S0 (Yj mix (rM 9 [(3,Pd.el (x1:Int)),(4,.eq (I x1)),(7,Pd.el (x2:Int)),(8,.eq (I x2))] [] c (fun ow=>⟨Zj ow (Nid c (.f 0) (kN hx1)),Zj ow (Nld c 3 (q:=x1) (atM 3 (p:=.el (x1:Int)))),Zj ow (Nid c (.f 1) (kN hx2)),Zj ow (Nld c 7 (q:=x2) (atM 7 (p:=.el (x2:Int)))),tt⟩) fun _ _ _ _ _ c=>Bd h fun x3 hx3 h=>Ca [0,1,2] c (Y8 hx3) tt call128 fun i2 _ _ c=>?_)))))
 refine Fp [] 1 c fun _ c=>E0 (T1 (Fp [] 4 c fun _ c=>Bd h fun x4 hx4 h=>Ca [0,1,2] c (Z5 hx4) tt call126 fun i3 _ _ c=>?_))
 refine Fp [] 1 c fun _ c=>E1 (bk (tn (P1 [] c fun _ c=>Nx h (i3.1,i3.2) (c.rk [0,1,2] [0,1]))))
 refine wp_exit (te (te (be ?_)))
 obtain rfl:=hr1 _ (sk h)
 exact tn ⟨(i1.1,i1.2),c.rk [0,1,2] [0,1]⟩
 refine P0 [] c fun _ c=>?_
 cases h
 exact wp_ret (Rt c (k1.1,k1.2) [0,1,2] [])
theorem YN {p0 p1 p2 gb0 gb3 gn4 r} (h:ZT n p0 p1 p2 = some r):Con prog 124 [B gb0 0,L ga5 p1 gc6,L ga7 p2 gc8] [BX gb0 75 [I p0.c.Inputs,.slice ga1 gn4 gc2,.map (some gb3),.bool p0.full],sl84 (.slice ga1 gn4 gc2) p0.c.Gates,MP map73 gb3 p0.line] [lR ga5 p1 gc6,lR ga7 p2 gc8] fun (i:Oh)=>([I r.1],[BX gb0 75 [I r.2.c.Inputs,L i.1 r.2.c.Gates i.2,.map (some gb3),.bool r.2.full],sl84 (L i.1 r.2.c.Gates i.2) r.2.c.Gates,MP map73 gb3 r.2.line],[]):=by
 unfold ZT at h
 refine En func124 rfl ntmps124 fun _ fr w c=>?_
 obtain ⟨rfl,c⟩:=c.relen 1
 refine P0 [] c fun _ c=>T0 (Fp [] 3 c fun _ c=>Bd h fun x1 hx1 h=>Cb c (Xm hx1) ⟨.f 1,tt⟩ call78 fun i1 _ _ c=>?_)
 refine Bd h fun x2 hx2 h=>Ca [0,1,2] c (Y7 hx2) ⟨.f 0,.g 0,tt⟩ call119 fun i2 _ _ c=>?_
 refine Fp [] 5 c fun _ c=>E0 (P0 [] c fun _ c=>?_)
 cases h
 exact wp_ret (Rt c (i2.p2,i2.q3) [2,3,4] [])
theorem Xc {p0 r} (h:Yp p0 = some r):Con prog 125 [L ga0 p0 gc1] [] [lR ga0 p0 gc1] fun (i:Oh)=>([L i.1 r i.2],[sl3 (L i.1 r i.2) r],[]):=by
 unfold Yp at h
 refine En func125 rfl ntmps125 fun _ fr w c=>?_
 refine P0 [] c fun _ c=>T0 (Fp [] 1 c fun _ c=>Bd h fun x1 hx1 h=>Cb c (Zt hx1) ⟨.f 0,tt⟩ call39 fun i1 _ _ c=>?_)
 refine Fp [] 1 c fun _ c=>E0 (T0 (Fp [] 8 c fun _ c=>Bd h fun x2 hx2 h=>Eel c (.g 0) hx2 fun _ _ c=>?_))
 refine Fp [] 1 c fun _ c=>Bd h fun x3 hx3 h=>Eset 0 c hx3 fun _ _ _ c=>?_
 refine E0 (P0 [] c fun _ c=>?_)
 obtain rfl:=sj h
 obtain ⟨he1,c⟩:=c.relen 0
 replace c:=c.eqs (v:=L i1.1 x1 i1.2) (u:=L i1.1 x3 i1.2) 2 (by simp only [L,he1])
 exact wp_ret (Rt c (i1.1,i1.2) [0] [])
theorem XM {p0 p1 p2 p3 gb0 gb3 gn4 r} (h:Z7 n p0 p1 p2 p3 = some r):Con prog 79 [B gb0 0,I p1,L ga5 p2 gc6,L ga7 p3 gc8] [BX gb0 75 [I p0.c.Inputs,.slice ga1 gn4 gc2,.map (some gb3),.bool p0.full],sl84 (.slice ga1 gn4 gc2) p0.c.Gates,MP map73 gb3 p0.line] [lR ga5 p2 gc6,lR ga7 p3 gc8] fun (i:Ob Oh)=>([L i.1 r.1 i.2.1],[sl3 (L i.1 r.1 i.2.1) r.1,BX gb0 75 [I r.2.c.Inputs,L i.p2 r.2.c.Gates i.q3,.map (some gb3),.bool r.2.full],sl84 (L i.p2 r.2.c.Gates i.q3) r.2.c.Gates,MP map73 gb3 r.2.line],[]):=by
 unfold Z7 at h
 refine En func79 rfl ntmps79 fun _ fr w c=>?_
 obtain ⟨rfl,c⟩:=c.relen 1
 refine P0 [] c fun _ c=>S0 (P0 [] c fun _ c=>wp_block (P0 [] c fun _ c=>I0 c h (fun h=>?_) fun h=>?_))
 refine T0 (Fp [] 3 c fun _ c=>Bd h fun x1 hx1 h=>Ca [0,1,2] c (Y7 hx1) ⟨.f 0,.f 1,tt⟩ call119 fun i1 _ _ c=>?_)
 refine Fp [] 5 c fun _ c=>E0 (P0 [] c fun _ c=>?_)
 cases h
 exact wp_ret (br (tr (Rt c (i1.1,i1.2.1,i1.p2,i1.q3) (rg 4) [])))
 refine P0 [] c fun _ c=>I0 c h (fun h=>?_) fun h=>?_
 refine T0 (Fp [] 3 c fun _ c=>Bd h fun x2 hx2 h=>Cb c (Xm hx2) ⟨.f 1,tt⟩ call78 fun i2 _ _ c=>?_)
 refine Bd h fun x3 hx3 h=>Ca [0,1,2] c (Y7 hx3) ⟨.f 0,.g 0,tt⟩ call119 fun i3 _ _ c=>?_
 refine Fp [] 5 c fun _ c=>E0 (P0 [] c fun _ c=>?_)
 cases h
 exact wp_ret (br (tr (Rt c (i3.1,i3.2.1,i3.p2,i3.q3) [1,2,3,4] [])))
 refine P0 [] c fun _ c=>I0 c h (fun h=>?_) fun h=>?_
 refine T0 (Fp [] 3 c fun _ c=>Bd h fun x4 hx4 h=>Ca [0,1,2] c (ZaR hx4) ⟨.f 0,.f 1,tt⟩ call120 fun i4 _ _ c=>?_)
 refine Fp [] 1 c fun _ c=>E0 ?_
 cases h
 exact wp_ret (br (tr (Rt c (i4.1,i4.2.1,i4.p2,i4.q3) (rg 4) [])))
 refine P0 [] c fun _ c=>I0 c h (fun h=>?_) fun h=>?_
 refine T0 (Fp [] 3 c fun _ c=>Bd h fun x5 hx5 h=>Ca [0,1,2] c (Zab hx5) ⟨.f 0,.f 1,tt⟩ call121 fun i5 _ _ c=>?_)
 refine Fp [] 5 c fun _ c=>E0 (P0 [] c fun _ c=>?_)
 cases h
 exact wp_ret (br (tr (Rt c (i5.1,i5.2.1,i5.p4,i5.q5) [0,2,3,4] [])))
 refine P0 [] c fun _ c=>I0 c h (fun h=>?_) fun h=>?_
 refine T0 (Fp [] 3 c fun _ c=>Bd h fun x6 hx6 h=>Ca [0,1,2] c (Zab hx6) ⟨.f 0,.f 1,tt⟩ call121 fun i6 _ _ c=>?_)
 refine Fp [] 5 c fun _ c=>E0 (P0 [] c fun _ c=>?_)
 cases h
 exact wp_ret (br (tr (Rt c (i6.p2,i6.p3,i6.p4,i6.q5) [1,2,3,4] [])))
 refine S0 (P0 [] c fun _ c=>I0 c h (fun h=>?_) fun h=>?_)
 refine K0 (I0 c h (fun h=>?_) fun h=>?_)
 refine T0 (Fp [] 4 c fun _ c=>Bd h fun x7 hx7 h=>Ca [0,1,2] c (Zad hx7) ⟨.f 0,.f 1,tt⟩ call122 fun i7 _ _ c=>?_)
 refine Fp [] 1 c fun _ c=>E0 ?_
 cases h
 exact wp_ret (br (tr (Rt c (i7.1,i7.2.1,i7.p2,i7.q3) (rg 4) [])))
 refine P0 [] c fun _ c=>I0 c h (fun h=>?_) fun h=>?_
 refine T0 (Fp [] 3 c fun _ c=>Bd h fun x8 hx8 h=>Ca [0,1,2] c (Zac hx8) ⟨.f 0,.f 1,tt⟩ call123 fun i8 _ _ c=>?_)
 refine Elt 3 ([x8.1]:List Int) c fun a1 c1 _ _ c=>?_
 refine Fp [] 1 c fun _ c=>E0 ?_
 cases h
 exact wp_ret (br (tr (Rt c (a1,c1,i8.1,i8.2) [3,0,1,2] [])))
 refine P0 [] c fun _ c=>I0 c h (fun h=>?_) fun h=>?_
 refine T0 (Fp [] 3 c fun _ c=>Bd h fun x9 hx9 h=>Ca [0,1,2] c (YN hx9) ⟨.f 0,.f 1,tt⟩ call124 fun i9 _ _ c=>?_)
 refine Elt 3 ([x9.1]:List Int) c fun a2 c2 _ _ c=>?_
 refine Fp [] 1 c fun _ c=>E0 ?_
 cases h
 exact wp_ret (br (tr (Rt c (a2,c2,i9.1,i9.2) [3,0,1,2] [])))
 refine P0 [] c fun _ c=>I0 c h (fun h=>?_) fun h=>?_
 refine T0 (Fp [] 2 c fun _ c=>Bd h fun x10 hx10 h=>Cb c (Xc hx10) ⟨.f 0,tt⟩ call125 fun i10 _ _ c=>?_)
 refine Fp [] 1 c fun _ c=>Bd h fun x11 hx11 h=>Cb c (Xc hx11) ⟨.f 1,tt⟩ call125 fun i11 _ _ c=>?_
 refine Bd h fun x12 hx12 h=>Ca [0,1,2] c (YN hx12) ⟨.g 0,.g 1,tt⟩ call124 fun i12 _ _ c=>?_
 refine Elt 3 ([x12.1]:List Int) c fun a3 c3 _ _ c=>?_
 refine Fp [] 1 c fun _ c=>E0 ?_
 cases h
 exact wp_ret (br (tr (Rt c (a3,c3,i12.1,i12.2) [5,2,3,4] [])))
 refine K1 (bk (tn (T0 (Fp [] 2 c fun _ c=>Bd h fun x13 hx13 h=>Emk 3 c hx13 fun a4 c4 _ _ c=>?_))))
 refine Fp [] 1 c fun _ c=>E0 (S0 (P0 [] c fun _ c=>Bd h fun rl1 hit1 h=>Lp (fun s1  (i:Oh)=>([(0,B gb0 0),(1,I p1),(2,L ga5 p2 gc6),(3,L ga7 p3 gc8),(17,L a4 x13 c4),(103,I (len p2)),(104,I s1.1)],fun Γ=>(((Γ.set 0 (BX gb0 75 [I s1.p2,L i.1 s1.p4 i.2,.map (some gb3),.bool s1.p3])).set 1 (sl84 (L i.1 s1.p4 i.2) s1.p4)).set 2 (MP map73 gb3 s1.q5)).set 3 (sl3 (L a4 x13 c4) s1.2.1),[])) (fun  (i:Oh)=>([(17,L a4 x13 c4)],fun Γ=>(((Γ.set 0 (BX gb0 75 [I rl1.2.1,L i.1 rl1.p3 i.2,.map (some gb3),.bool rl1.p2])).set 1 (sl84 (L i.1 rl1.p3 i.2) rl1.p3)).set 2 (MP map73 gb3 rl1.q4)).set 3 (sl3 (L a4 x13 c4) rl1.1),[])) hit1 c (ga1,gc2) (c.rk (rg 4) [0,1]) (fun s1 q1 i13 _ _ c h hr1=>?_) fun k1 _ _ c=>?_))
 refine P0 [] c fun _ c=>S0 (I0 c h (fun h=>?_) fun h=>?_)
 refine K0 (S0 (wp_block (P0 [] c fun _ c=>P0 [] c fun _ c=>wp_block (P0 [] c fun _ c=>I0 c h (fun h=>?_) fun h=>?_))))
 refine Yj mix ?_
 refine Rh 1 ?_
 refine Rh 0 ?_
 refine Bd h fun x14 hx14 h=>Bd h fun x15 hx15 h=>rM 11 [(5,Pd.el (x14:Int)),(6,.eq (I x14)),(9,Pd.el (x15:Int)),(10,.eq (I x15))] [] c (fun ow=>⟨Zj ow (Nid c (.f 0) (kN hx14)),Zj ow (Nld c 5 (q:=x14) (atM 5 (p:=.el (x14:Int)))),Zj ow (Nid c (.f 1) (kN hx15)),Zj ow (Nld c 9 (q:=x15) (atM 9 (p:=.el (x15:Int)))),tt⟩) fun _ _ _ _ _ c=>?_
 refine Bd h fun x16 hx16 h=>Ca [0,1,2] c (Z5 hx16) tt call126 fun i14 _ _ c=>?_
 refine Bd h fun x17 hx17 h=>Eset 0 c hx17 fun _ _ _ c=>?_
 refine E1 (bk (bk (tn (P1 [] c fun _ c=>Nx h (i14.1,i14.2) (c.rk [1,2,3,0] [0,1])))))
 refine P0 [] c fun _ c=>I0 c h (fun h=>?_) fun h=>?_
 refine Yj mix ?_
 refine Rh 1 ?_
 refine Rh 0 ?_
 refine Bd h fun x18 hx18 h=>Bd h fun x19 hx19 h=>rM 11 [(5,Pd.el (x18:Int)),(6,.eq (I x18)),(9,Pd.el (x19:Int)),(10,.eq (I x19))] [] c (fun ow=>⟨Zj ow (Nid c (.f 0) (kN hx18)),Zj ow (Nld c 5 (q:=x18) (atM 5 (p:=.el (x18:Int)))),Zj ow (Nid c (.f 1) (kN hx19)),Zj ow (Nld c 9 (q:=x19) (atM 9 (p:=.el (x19:Int)))),tt⟩) fun _ _ _ _ _ c=>?_
 refine Bd h fun x20 hx20 h=>Ca [0,1,2] c (Yd hx20) tt call127 fun i15 _ _ c=>?_
 refine Bd h fun x21 hx21 h=>Eset 0 c hx21 fun _ _ _ c=>?_
 refine E1 (bk (bk (tn (P1 [] c fun _ c=>Nx h (i15.1,i15.2) (c.rk [1,2,3,0] [0,1])))))
 refine Yj mix ?_
 refine Rh 1 ?_
 refine Rh 0 ?_
 refine Bd h fun x22 hx22 h=>Bd h fun x23 hx23 h=>rM 11 [(5,Pd.el (x22:Int)),(6,.eq (I x22)),(9,Pd.el (x23:Int)),(10,.eq (I x23))] [] c (fun ow=>⟨Zj ow (Nid c (.f 0) (kN hx22)),Zj ow (Nld c 5 (q:=x22) (atM 5 (p:=.el (x22:Int)))),Zj ow (Nid c (.f 1) (kN hx23)),Zj ow (Nld c 9 (q:=x23) (atM 9 (p:=.el (x23:Int)))),tt⟩) fun _ _ _ _ _ c=>?_
 refine Bd h fun x24 hx24 h=>Ca [0,1,2] c (Y8 hx24) tt call128 fun i16 _ _ c=>?_
 refine Bd h fun x25 hx25 h=>Eset 0 c hx25 fun _ _ _ c=>?_
 refine E1 (bk (bk (tn (P1 [] c fun _ c=>Nx h (i16.1,i16.2) (c.rk [1,2,3,0] [0,1])))))
 refine wp_exit (te (te (be ?_)))
 obtain rfl:=hr1 _ (sk h)
 exact tn ⟨(i13.1,i13.2),c.rk (rg 4) [0,1]⟩
 refine P0 [] c fun _ c=>?_
 cases h
 obtain ⟨he1,c⟩:=c.relen 3
 replace c:=c.eqs (v:=L a4 x13 c4) (u:=L a4 rl1.1 c4) 8 (by simp only [L,he1])
 exact wp_ret (Rt c (a4,c4,k1.1,k1.2) [3,0,1,2] [])
 refine P0 [] c fun _ c=>Mp (p1 == 12) [(67,.bool (p1 == 12))] [(67,.bool (p1 == 13))] [(67,.bool ((p1 == 12) || (p1 == 13)))] [67,70] c fun _ c=>I0 c h (fun h=>?_) fun h=>?_
 refine T0 (Fp [] 4 c fun _ c=>Bd h fun x26 hx26 h=>Ca [0,1,2] c (Zad hx26) ⟨.f 0,.f 1,tt⟩ call122 fun i17 _ _ c=>?_)
 refine Fp [] 1 c fun _ c=>E0 ?_
 cases h
 exact wp_ret (br (tr (Rt c (i17.1,i17.2.1,i17.p2,i17.q3) (rg 4) [])))
 refine P0 [] c fun _ c=>I0 c h (fun h=>?_) fun h=>?_
 refine T0 (Fp [] 3 c fun _ c=>Bd h fun x27 hx27 h=>Ca [0,1,2] c (Zac hx27) ⟨.f 0,.f 1,tt⟩ call123 fun i18 _ _ c=>?_)
 refine Elt 3 ([x27.1]:List Int) c fun a5 c5 _ _ c=>?_
 refine Fp [] 1 c fun _ c=>E0 ?_
 cases h
 exact wp_ret (br (tr (Rt c (a5,c5,i18.1,i18.2) [3,0,1,2] [])))
 refine P0 [] c fun _ c=>I0 c h (fun h=>?_) fun h=>?_
 refine T0 (Fp [] 3 c fun _ c=>Bd h fun x28 hx28 h=>Ca [0,1,2] c (YN hx28) ⟨.f 0,.f 1,tt⟩ call124 fun i19 _ _ c=>?_)
 refine Elt 3 ([x28.1]:List Int) c fun a6 c6 _ _ c=>?_
 refine Fp [] 1 c fun _ c=>E0 ?_
 cases h
 exact wp_ret (br (tr (Rt c (a6,c6,i19.1,i19.2) [3,0,1,2] [])))
 refine P0 [] c fun _ c=>I0 c h (fun h=>?_) fun h=>?_
 refine T0 (Fp [] 2 c fun _ c=>Bd h fun x29 hx29 h=>Cb c (Xc hx29) ⟨.f 0,tt⟩ call125 fun i20 _ _ c=>?_)
 refine Fp [] 1 c fun _ c=>Bd h fun x30 hx30 h=>Cb c (Xc hx30) ⟨.f 1,tt⟩ call125 fun i21 _ _ c=>?_
 refine Bd h fun x31 hx31 h=>Ca [0,1,2] c (YN hx31) ⟨.g 0,.g 1,tt⟩ call124 fun i22 _ _ c=>?_
 refine Elt 3 ([x31.1]:List Int) c fun a7 c7 _ _ c=>?_
 refine Fp [] 1 c fun _ c=>E0 ?_
 cases h
 exact wp_ret (br (tr (Rt c (a7,c7,i22.1,i22.2) [5,2,3,4] [])))
 refine K1 (bk (tn (T0 (Fp [] 2 c fun _ c=>Bd h fun x32 hx32 h=>Emk 3 c hx32 fun a8 c8 _ _ c=>?_))))
 refine Fp [] 1 c fun _ c=>E0 (S0 (P0 [] c fun _ c=>Bd h fun rl2 hit2 h=>Lp (fun s2  (i:Oh)=>([(0,B gb0 0),(1,I p1),(2,L ga5 p2 gc6),(3,L ga7 p3 gc8),(17,L a8 x32 c8),(103,I (len p2)),(104,I s2.1)],fun Γ=>(((Γ.set 0 (BX gb0 75 [I s2.p2,L i.1 s2.p4 i.2,.map (some gb3),.bool s2.p3])).set 1 (sl84 (L i.1 s2.p4 i.2) s2.p4)).set 2 (MP map73 gb3 s2.q5)).set 3 (sl3 (L a8 x32 c8) s2.2.1),[])) (fun  (i:Oh)=>([(17,L a8 x32 c8)],fun Γ=>(((Γ.set 0 (BX gb0 75 [I rl2.2.1,L i.1 rl2.p3 i.2,.map (some gb3),.bool rl2.p2])).set 1 (sl84 (L i.1 rl2.p3 i.2) rl2.p3)).set 2 (MP map73 gb3 rl2.q4)).set 3 (sl3 (L a8 x32 c8) rl2.1),[])) hit2 c (ga1,gc2) (c.rk (rg 4) [0,1]) (fun s2 q2 i23 _ _ c h hr2=>?_) fun k2 _ _ c=>?_))
 refine P0 [] c fun _ c=>S0 (I0 c h (fun h=>?_) fun h=>?_)
 refine K0 (S0 (wp_block (P0 [] c fun _ c=>P0 [] c fun _ c=>wp_block (P0 [] c fun _ c=>I0 c h (fun h=>?_) fun h=>?_))))
 refine Yj mix ?_
 refine Rh 1 ?_
 refine Rh 0 ?_
 refine Bd h fun x33 hx33 h=>Bd h fun x34 hx34 h=>rM 11 [(5,Pd.el (x33:Int)),(6,.eq (I x33)),(9,Pd.el (x34:Int)),(10,.eq (I x34))] [] c (fun ow=>⟨Zj ow (Nid c (.f 0) (kN hx33)),Zj ow (Nld c 5 (q:=x33) (atM 5 (p:=.el (x33:Int)))),Zj ow (Nid c (.f 1) (kN hx34)),Zj ow (Nld c 9 (q:=x34) (atM 9 (p:=.el (x34:Int)))),tt⟩) fun _ _ _ _ _ c=>?_
 refine Bd h fun x35 hx35 h=>Ca [0,1,2] c (Z5 hx35) tt call126 fun i24 _ _ c=>?_
 refine Bd h fun x36 hx36 h=>Eset 0 c hx36 fun _ _ _ c=>?_
 refine E1 (bk (bk (tn (P1 [] c fun _ c=>Nx h (i24.1,i24.2) (c.rk [1,2,3,0] [0,1])))))
 refine P0 [] c fun _ c=>I0 c h (fun h=>?_) fun h=>?_
 refine Yj mix ?_
 refine Rh 1 ?_
 refine Rh 0 ?_
 refine Bd h fun x37 hx37 h=>Bd h fun x38 hx38 h=>rM 11 [(5,Pd.el (x37:Int)),(6,.eq (I x37)),(9,Pd.el (x38:Int)),(10,.eq (I x38))] [] c (fun ow=>⟨Zj ow (Nid c (.f 0) (kN hx37)),Zj ow (Nld c 5 (q:=x37) (atM 5 (p:=.el (x37:Int)))),Zj ow (Nid c (.f 1) (kN hx38)),Zj ow (Nld c 9 (q:=x38) (atM 9 (p:=.el (x38:Int)))),tt⟩) fun _ _ _ _ _ c=>?_
 refine Bd h fun x39 hx39 h=>Ca [0,1,2] c (Yd hx39) tt call127 fun i25 _ _ c=>?_
 refine Bd h fun x40 hx40 h=>Eset 0 c hx40 fun _ _ _ c=>?_
 refine E1 (bk (bk (tn (P1 [] c fun _ c=>Nx h (i25.1,i25.2) (c.rk [1,2,3,0] [0,1])))))
 refine Yj mix ?_
 refine Rh 1 ?_
 refine Rh 0 ?_
 refine Bd h fun x41 hx41 h=>Bd h fun x42 hx42 h=>rM 11 [(5,Pd.el (x41:Int)),(6,.eq (I x41)),(9,Pd.el (x42:Int)),(10,.eq (I x42))] [] c (fun ow=>⟨Zj ow (Nid c (.f 0) (kN hx41)),Zj ow (Nld c 5 (q:=x41) (atM 5 (p:=.el (x41:Int)))),Zj ow (Nid c (.f 1) (kN hx42)),Zj ow (Nld c 9 (q:=x42) (atM 9 (p:=.el (x42:Int)))),tt⟩) fun _ _ _ _ _ c=>?_
 refine Bd h fun x43 hx43 h=>Ca [0,1,2] c (Y8 hx43) tt call128 fun i26 _ _ c=>?_
 refine Bd h fun x44 hx44 h=>Eset 0 c hx44 fun _ _ _ c=>?_
 refine E1 (bk (bk (tn (P1 [] c fun _ c=>Nx h (i26.1,i26.2) (c.rk [1,2,3,0] [0,1])))))
 refine wp_exit (te (te (be ?_)))
 obtain rfl:=hr2 _ (sk h)
 exact tn ⟨(i23.1,i23.2),c.rk (rg 4) [0,1]⟩
 refine P0 [] c fun _ c=>?_
 cases h
 obtain ⟨he2,c⟩:=c.relen 3
 replace c:=c.eqs (v:=L a8 x32 c8) (u:=L a8 rl2.1 c8) 8 (by simp only [L,he2])
 exact wp_ret (Rt c (a8,c8,k2.1,k2.2) [3,0,1,2] [])
theorem Zbz {n:Nat}:∀ {p0 p1 p2 gb0 ga1 gc2 gb3 gn4 ga5 gc6 gu7 r} (h:ZF n p0 p1 p2 = some r),Con prog 38 [B gb0 0,tV p1 ga5 gc6,gu7] [BX gb0 75 [I p0.c.Inputs,.slice ga1 gn4 gc2,.map (some gb3),.bool p0.full],sl84 (.slice ga1 gn4 gc2) p0.c.Gates,MP map73 gb3 p0.line] [lR ga5 p1.Kids gc6,MV map69 (gu7) p2] fun (i:Ob Oh)=>([L i.1 r.1 i.2.1],[TL 3 (.slice i.1 (List.length r.1) i.2.1) r.1,BX gb0 75 [I r.2.c.Inputs,L i.p2 r.2.c.Gates i.q3,.map (some gb3),.bool r.2.full],sl84 (L i.p2 r.2.c.Gates i.q3) r.2.c.Gates,MP map73 gb3 r.2.line],[]):=by
 induction n with
 | zero=>intro p0 p1 p2 gb0 ga1 gc2 gb3 gn4 ga5 gc6 gu7 r h; simp [ZF] at h
 | succ n ih=>
 intro p0 p1 p2 gb0 ga1 gc2 gb3 gn4 ga5 gc6 gu7 r h
 rw [ZF] at h
 refine En func38 rfl ntmps38 fun _ fr w c=>?_
 obtain ⟨rfl,c⟩:=c.relen 1
 refine T0 (Ebx (tC p1 ga5 gc6) c fun b1 _ _ c=>?_)
 refine Fp [] 1 c fun _ c=>E0 (S0 (P0 [(1,1)] c fun _ c=>wp_block (P0 [] c fun _ c=>I0 c h (fun h=>?_) fun h=>?_)))
 refine T0 (Fp [(1,1),(3,1)] 4 c fun _ c=>Bd h fun x1 hx1 h=>Cb c (X4 hx1) tt call77 fun i1 _ _ c=>?_)
 refine Fp [] 1 c fun _ c=>E0 ?_
 replace c:=c.toT 4
 cases h
 exact wp_ret (br (tr (Rt c (i1.1,i1.2,ga1,gc2) [4,0,1,2] [])))
 refine P0 [] c fun _ c=>I0 c h (fun h=>?_) fun h=>?_
 refine T0 (Fp [(2,1)] 3 c fun _ c=>Bd h fun x2 hx2 h=>Erv c (.f 1) hx2 fun u1 _ c=>?_)
 obtain ⟨a1,c1,rfl⟩:=c.sl 2
 refine Bd h fun x3 hx3 h=>Cb c (Zt hx3) ⟨.f 2,tt⟩ call39 fun i2 _ _ c=>?_
 refine Fp [] 1 c fun _ c=>E0 ?_
 replace c:=c.toT 4
 cases h
 exact wp_ret (br (tr (Rt c (i2.1,i2.2,ga1,gc2) [4,0,1,2] [])))
 refine K1 (bk (tn (T0 (Fp [(1,1)] 3 c fun _ c=>Bd h fun x4 hx4 h=>Emkd 27 (⟨none,0,0⟩ : Hd) (fun w=>ZeX 3 w) c hx4 fun a2 c2 _ _ c=>?_))))
 refine Fp [] 1 c fun _ c=>E0 (S0 (P0 [(1,1)] c fun _ c=>Bd h fun rl1 hit1 h=>Lp (fun s1  (i:List Hd × Oh)=>([(0,B gb0 0),(2,gu7),(4,B b1 0),(7,L a2 x4 c2),(35,I (len p1.Kids)),(36,I s1.1)],fun Γ=>((((Γ.set 0 (BX gb0 75 [I s1.2.1,L i.2.1 s1.p3 i.q2,.map (some gb3),.bool s1.p2])).set 1 (sl84 (L i.2.1 s1.p3 i.q2) s1.p3)).set 2 (MP map73 gb3 s1.p4)).set 4 (sl27 (L a2 x4 c2) (i.1))).set 5 (HP.all (ownL 3) (i.1) s1.q5),[])) (fun  (i:List Hd × Oh)=>([(0,B gb0 0),(4,B b1 0),(7,L a2 x4 c2)],fun Γ=>((((Γ.set 0 (BX gb0 75 [I rl1.1,L i.2.1 rl1.p2 i.q2,.map (some gb3),.bool rl1.2.1])).set 1 (sl84 (L i.2.1 rl1.p2 i.q2) rl1.p2)).set 2 (MP map73 gb3 rl1.p3)).set 4 (sl27 (L a2 x4 c2) (i.1))).set 5 (HP.all (ownL 3) (i.1) rl1.q4),[])) hit1 c ((List.replicate (List.length x4) (⟨none,0,0⟩ : Hd)),ga1,gc2) (c.rk (rg 6) [0,1]) (fun s1 q1 i3 _ _ c h hr1=>?_) fun k1 _ _ c=>?_))
 refine P0 [] c fun _ c=>S0 (I0 c h (fun h=>?_) fun h=>?_)
 refine K0 (S0 (wp_block (P0 [] c fun _ c=>T1 (Fp [(4,1)] 6 c fun _ c=>Bd h fun x5 hx5 h=>Eem c (.f 0) hx5 fun _ u2 _ c=>?_))))
 obtain ⟨a3,c3,rfl,c⟩:=c.o_Term 2
 refine Fp [] 1 c fun _ c=>?_
 replace c:=c.nf
 refine Bd h fun x6 hx6 h=>Ca [0,1,2] c (ih hx6) ⟨.f 3,.f 1,tt⟩ call38 fun i4 _ _ c=>?_
 refine Bd h fun x7 hx7 h=>Esetd (q:=((hd i4.1 x6.1 i4.2.1):Hd)) (own:=(ownL 3)) 1 2 3 c hx7 fun _ _ _ c=>?_
 refine E1 (bk (tn (P1 [] c fun _ c=>Nx h ((List.set i3.1 (s1.1).toNat ((hd i4.1 x6.1 i4.2.1):Hd)),i4.p2,i4.q3) (c.rk [2,3,4,0,1,5] [0,1]))))
 refine wp_exit (te (te (be ?_)))
 obtain rfl:=hr1 _ (sk h)
 exact tn ⟨(i3.1,i3.2.1,i3.q2),c.rk (rg 6) [0,1]⟩
 refine T0 (Fp [] 1 c fun _ c=>Bd h fun x8 hx8 h=>Eall 4 5 c hx8 fun _ a4 c4 _ hr1 c=>?_)
 refine Fp [] 1 c fun _ c=>E0 (S0 (P0 [(1,1)] c fun _ c=>wp_block (P0 [] c fun _ c=>I0 c h (fun h=>?_) fun h=>?_)))
 refine T0 (Fp [] 1 c fun _ c=>?_)
 replace c:=c.nf
 refine Bd h fun x9 hx9 h=>Cb c (Xm hx9) ⟨.ae 5 hr1 hx8,tt⟩ call78 fun i5 _ _ c=>?_
 refine Fp [] 1 c fun _ c=>E0 ?_
 replace c:=c.toT 6
 cases h
 exact wp_ret (br (tr (Rt c (i5.1,i5.2,k1.2.1,k1.q2) [6,0,1,2] [])))
 refine P0 [] c fun _ c=>I0 c h (fun h=>?_) fun h=>?_
 refine T0 (Fp [(2,1)] 3 c fun _ c=>?_)
 replace c:=c.nf
 refine Bd h fun x10 hx10 h=>Cb c (X4 hx10) tt call77 fun i6 _ _ c=>?_
 refine Fp [] 1 c fun _ c=>Bd h fun x11 hx11 h=>Ca [0,1,2] c (XM hx11) ⟨.g 3,.ae 2 hr1 hx8,tt⟩ call79 fun i7 _ _ c=>?_
 refine Fp [] 1 c fun _ c=>E0 ?_
 replace c:=c.toT 4
 cases h
 exact wp_ret (br (tr (Rt c (i7.1,i7.2.1,i7.p2,i7.q3) [4,5,6,7] [])))
 refine P0 [] c fun _ c=>I0 c h (fun h=>?_) fun h=>?_
 refine T0 (Fp [(1,1)] 2 c fun _ c=>?_)
 replace c:=c.nf
 refine Bd h fun x12 hx12 h=>Emk 3 c hx12 fun a5 c5 _ _ c=>?_
 refine Fp [] 1 c fun _ c=>E0 (S0 (P0 [] c fun _ c=>?_))
 obtain ⟨he1,c⟩:=c.relend 4 5
 replace c:=c.eqs (v:=L a2 x4 c2) (u:=L a2 rl1.q4 c2) 7 (by simp only [L,he1])
 replace c:=c.fza 4 5 hr1 hx8
 refine Bd h fun rl2 hit2 h=>Lp (fun s2  (i:Oh)=>([(0,B gb0 0),(7,L a2 rl1.q4 c2),(9,L a4 x8 c4),(10,L a5 x12 c5),(74,I (len x12)),(75,I s2.1)],fun Γ=>(((Γ.set 0 (BX gb0 75 [I s2.p2,L i.1 s2.p4 i.2,.map (some gb3),.bool s2.p3])).set 1 (sl84 (L i.1 s2.p4 i.2) s2.p4)).set 2 (MP map73 gb3 s2.q5)).set 4 (sl3 (L a5 x12 c5) s2.2.1),[])) (fun  (i:Oh)=>([(10,L a5 x12 c5)],fun Γ=>(((Γ.set 0 (BX gb0 75 [I rl2.2.1,L i.1 rl2.p3 i.2,.map (some gb3),.bool rl2.p2])).set 1 (sl84 (L i.1 rl2.p3 i.2) rl2.p3)).set 2 (MP map73 gb3 rl2.q4)).set 4 (sl3 (L a5 x12 c5) rl2.1),[])) hit2 c (k1.2.1,k1.q2) (c.rk (rg 5) (rg 4)) (fun s2 q2 i8 _ _ c h hr2=>?_) fun k2 _ _ c=>?_
 refine P0 [] c fun _ c=>S0 (I0 c h (fun h=>?_) fun h=>?_)
 refine K0 (S0 (wp_block (P0 [] c fun _ c=>Yj mix ?_)))
 refine Rh 1 ?_
 refine Rh 0 ?_
 refine Bd h fun x13 hx13 h=>Bd h fun x14 hx14 h=>?_
 obtain ⟨ep1,u3,c⟩:=c.elp (.f 2) hx14
 obtain ⟨a6,c6,rfl⟩:=c.sl 5
 refine Bd h fun x15 hx15 h=>Bd h fun x16 hx16 h=>?_
 obtain ⟨ep2,u4,c⟩:=c.elp (.f 2) hx16
 obtain ⟨a7,c7,rfl⟩:=c.sl 7
 refine Bd h fun x17 hx17 h=>rM 18 [(4,Pd.el (x13:Int)),(5,.eq (I x13)),(7,.eq (.pointer (some ep1))),(8,.eq (L a6 x14 c6)),(10,Pd.el (x15:Int)),(11,.eq (I x15)),(13,.eq (.pointer (some ep2))),(14,.eq (L a7 x16 c7)),(16,Pd.el (x17:Int)),(17,.eq (I x17))] [] c (fun ow=>⟨Zj ow (Nid c (.f 3) (kN hx13)),Zj ow (Nld c 4 (q:=x13) (atM 4 (p:=.el (x13:Int)))),Zj ow (Nie c 4),Zj ow (Nle c 4),Zj ow (Nid c (.f 5) (kN hx15)),Zj ow (Nld c 10 (q:=x15) (atM 10 (p:=.el (x15:Int)))),Zj ow (Nie c 6),Zj ow (Nle c 6),Zj ow (Nid c (.f 7) (kN hx17)),Zj ow (Nld c 16 (q:=x17) (atM 16 (p:=.el (x17:Int)))),tt⟩) fun _ _ _ _ _ c=>?_
 refine Bd h fun x18 hx18 h=>Ca [0,1,2] c (Zo hx18) tt call80 fun i9 _ _ c=>?_
 refine Bd h fun x19 hx19 h=>Eset 1 c hx19 fun _ _ _ c=>?_
 refine E1 (bk (tn (P1 [] c fun _ c=>Nx h (i9.1,i9.2) (c.rk [2,3,4,0,1] (rg 4)))))
 refine wp_exit (te (te (be ?_)))
 obtain rfl:=hr2 _ (sk h)
 exact tn ⟨(i8.1,i8.2),c.rk (rg 5) (rg 4)⟩
 refine P0 [] c fun _ c=>?_
 replace c:=c.toT 4
 cases h
 obtain ⟨he2,c⟩:=c.relent 4
 replace c:=c.eqs (v:=L a5 x12 c5) (u:=L a5 rl2.1 c5) 6 (by simp only [L,he2])
 exact wp_ret (br (tr (Rt c (a5,c5,k2.1,k2.2) [4,0,1,2] [])))
 refine P0 [] c fun _ c=>I0 c h (fun h=>?_) fun h=>?_
 refine T0 (Fp [] 1 c fun _ c=>?_)
 replace c:=c.nf
 refine Bd h fun x20 hx20 h=>Eall 4 5 c hx20 fun _ a8 c8 _ hr2 c=>?_
 refine Fp [] 1 c fun _ c=>?_
 replace c:=c.tk2 5 hr2 hx20 hr1 hx8
 refine Bd h fun x21 hx21 h=>Eapt 5 c (.f 2) hx21 fun a9 c9 _ _ c=>?_
 refine Fp [] 1 c fun _ c=>E0 ?_
 cases h
 exact wp_ret (br (tr (Rt c (a9,c9,k1.2.1,k1.q2) [5,0,1,2] [])))
 refine P0 [] c fun _ c=>I0 c h (fun h=>?_) fun h=>?_
 refine T0 (Fp [(2,1),(4,1),(6,1)] 8 c fun _ c=>?_)
 replace c:=c.nf
 replace c:=c.tka 5 hr1 hx8
 refine Bd h fun x22 hx22 h=>Ecutt 5 c hx22 fun a10 c10 _ c=>?_
 refine Fp [] 1 c fun _ c=>E0 ?_
 cases h
 exact wp_ret (br (tr (Rt c (a10,c10,k1.2.1,k1.q2) [5,0,1,2] [])))
 refine S0 (P0 [] c fun _ c=>Mp (p1.Op == 20) [(118,.bool (p1.Op == 20))] [(118,.bool (p1.Op == 21))] [(118,.bool ((p1.Op == 20) || (p1.Op == 21)))] [118,120] c fun _ c=>I0 c h (fun h=>?_) fun h=>?_)
 refine P0 [] c fun _ c=>S0 (P0 [(1,1)] c fun _ c=>I0 c h (fun h=>?_) fun h=>?_)
 refine T1 (Fp [] 4 c fun _ c=>?_)
 replace c:=c.nf
 refine Bd h fun x23 hx23 h=>Eel c (.ae 5 hr1 hx8) hx23 fun _ _ c=>?_
 refine Fp [] 1 c fun _ c=>E0 ?_
 replace c:=c.tka 5 hr1 hx8
 refine Bd h fun rl3 hit3 h=>S0 (Lp (fun s3  (i:Oh)=>([(4,B b1 0),(9,L i.1 s3 i.2),(12,I x23)],fun Γ=>Γ.set 5 (TL 3 (.slice i.1 (List.length s3) i.2) s3),[])) (fun  (i:Oh)=>([(9,L i.1 rl3 i.2)],fun Γ=>Γ.set 5 (TL 3 (.slice i.1 (List.length rl3) i.2) rl3),[])) hit3 c (a4,c4) (c.rk (rg 6) [0,1]) (fun s3 q3 i10 _ _ c h hr3=>?_) fun k3 _ _ c=>?_)
 refine S0 (P0 [(3,1)] c fun _ c=>I0 c h (fun h=>?_) fun h=>?_)
 refine K0 (wp_block (T1 (Fp [] 2 c fun _ c=>Elt 3 ([x23]:List Int) c fun a11 c11 _ _ c=>?_)))
 refine Bd h fun x24 hx24 h=>Eapt 5 c (.g 6) hx24 fun a12 c12 _ _ c=>?_
 refine Fp [] 1 c fun _ c=>E1 (bk (tn (Nx h (a12,c12) (c.rk (rg 6) [0,1]))))
 refine wp_exit (te (te (be ?_)))
 obtain rfl:=hr3 _ (sk h)
 exact tn ⟨(i10.1,i10.2),c.rk (rg 6) [0,1]⟩
 refine P0 [] c fun _ c=>?_
 cases h
 exact wp_ret (br (tr (Rt c (k3.1,k3.2,k1.2.1,k1.q2) [5,0,1,2] [])))
 refine K0 ?_
 replace c:=c.tka 5 hr1 hx8
 refine Bd h fun rl4 hit4 h=>S0 (Lp (fun s4  (i:Oh)=>([(4,B b1 0),(9,L i.1 s4 i.2),(12,I (-1))],fun Γ=>Γ.set 5 (TL 3 (.slice i.1 (List.length s4) i.2) s4),[])) (fun  (i:Oh)=>([(9,L i.1 rl4 i.2)],fun Γ=>Γ.set 5 (TL 3 (.slice i.1 (List.length rl4) i.2) rl4),[])) hit4 c (a4,c4) (c.rk (rg 6) [0,1]) (fun s4 q4 i11 _ _ c h hr4=>?_) fun k4 _ _ c=>?_)
 refine S0 (P0 [(3,1)] c fun _ c=>I0 c h (fun h=>?_) fun h=>?_)
 refine K0 (wp_block (T1 (Fp [] 2 c fun _ c=>?_)))
 replace c:=c.nf
 refine Elt 3 ([(-1)]:List Int) c fun a13 c13 _ _ c=>?_
 refine Bd h fun x25 hx25 h=>Eapt 5 c (.g 6) hx25 fun a14 c14 _ _ c=>?_
 refine Fp [] 1 c fun _ c=>E1 (bk (tn (Nx h (a14,c14) (c.rk (rg 6) [0,1]))))
 refine wp_exit (te (te (be ?_)))
 obtain rfl:=hr4 _ (sk h)
 exact tn ⟨(i11.1,i11.2),c.rk (rg 6) [0,1]⟩
 refine P0 [] c fun _ c=>?_
 cases h
 exact wp_ret (br (tr (Rt c (k4.1,k4.2,k1.2.1,k1.q2) [5,0,1,2] [])))
 refine K1 (bk (tn ?_))
 obtain ⟨he3,c⟩:=c.relend 4 5
 replace c:=c.eqs (v:=L a2 x4 c2) (u:=L a2 rl1.q4 c2) 7 (by simp only [L,he3])
 replace c:=c.fza 4 5 hr1 hx8
 refine Bd h fun x26 hx26 h=>?_
 obtain ⟨ep3,u5,c⟩:=c.elp (.f 2) hx26
 obtain ⟨a15,c15,rfl⟩:=c.sl 5
 refine S0 (Yj mix (rM 7 [(5,.eq (.pointer (some ep3))),(6,.eq (L a15 x26 c15))] [(2,1)] c (fun ow=>⟨Zj ow (Nie c 4),Zj ow (Nle c 4),tt⟩) fun _ _ _ _ _ c=>Bd h fun x27 hx27 h=>Ca [0,1,2] c (XM hx27) ⟨.f 3,.f 5,tt⟩ call79 fun i12 _ _ c=>?_))
 refine Fp [] 1 c fun _ c=>E0 ?_
 replace c:=c.toT 1
 cases h
 exact wp_ret (Rt c (i12.1,i12.2.1,i12.p2,i12.q3) [1,2,3,4] [])
theorem ZcH {p0 r} (h:Xx n p0 = some r):Con prog 12 [tV p0 ga0 gc1] [] [lR ga0 p0.Kids gc1] fun (i:Ob Oh)=>([.agg #[I r.1.Inputs,L i.1 r.1.Gates i.2.1],L i.p2 r.2.1 i.q3,.bool r.2.2],[sl84 (L i.1 r.1.Gates i.2.1) r.1.Gates,sl3 (L i.p2 r.2.1 i.q3) r.2.1],[]):=by
 unfold Xx at h
 refine En func12 rfl ntmps12 fun _ fr w c=>?_
 refine T0 (Ebx (tC p0 ga0 gc1) c fun b1 _ _ c=>?_)
 refine Eal [I 0,L none ([]:List D.Gate) 0] c fun b2 _ _ c=>?_
 refine Fp [] 2 c fun _ c=>E0 (S0 (Bd h fun x1 hx1 h=>Bd h fun x2 hx2 h=>S0 (rZ [(1,.eq (.bool x1)),(5,.eq (.bool x2))] [(0,0),(4,0)] mix c ⟨Ncl c (kN (XU hx1)) ⟨.f 0,tt⟩ call28,Ncl c (fun hg=>ZdJ (iteF (gcF hg) hx2)) ⟨.f 0,tt⟩ call35,tt⟩ fun _ _ c=>I0 c h (fun h=>?_) fun h=>?_)))
 refine T0 (Fp [] 1 c fun _ c=>Ess 1 [I 0,L none ([]:List D.Gate) 0] c fun _ c=>?_)
 refine Fp [] 2 c fun _ c=>E0 ?_
 replace c:=c.nil (α:=D.Gate) 84
 replace c:=c.nil (α:=Int) 3
 cases h
 exact wp_ret (tr (Rg c (none,0,none,0) [2,3] [] (.cell (α:=Agg 1) kk (.b 1) (.tmp (.tmp .nil)))))
 refine K0 (T0 (Emmd map69 (ownL 3) c fun b3 _ _ c=>?_))
 refine Fp [] 1 c fun _ c=>E0 (P0 [] c fun _ c=>S0 (T0 (Fp [(0,0)] 1 c fun _ c=>Bd h fun x3 hx3 h=>Cb c (Zb8 hx3) ⟨.f 0,tt⟩ call36 fun i1 _ _ c=>?_)))
 refine Fp [] 2 c fun _ c=>E0 (Bd h fun rl1 hit1 h=>Lp (fun s1  (_:Unit)=>([(1,B b1 0),(2,B b2 0),(5,.map (some b3)),(6,I s1.1),(23,L i1.1 x3 i1.2),(24,I (len x3)),(25,I s1.2.1)],fun Γ=>Γ.set 2 (MD map69 (ownL 3) b3 s1.q2),[])) (fun  (_:Unit)=>([(1,B b1 0),(2,B b2 0),(5,.map (some b3)),(6,I rl1.1)],fun Γ=>Γ.set 2 (MD map69 (ownL 3) b3 rl1.2),[])) hit1 c () (c.rk (rg 4) [0]) (fun s1 q1 _ _ _ c h hr1=>?_) fun _ _ _ c=>?_)
 refine P0 [] c fun _ c=>S0 (I0 c h (fun h=>?_) fun h=>?_)
 refine K0 (S0 (wp_block (T0 (Bd h fun x4 hx4 h=>Eel c (.g 3) hx4 fun _ _ c=>?_))))
 refine Eal [Str.val ⟨[]⟩,I 0,I 0] c fun b4 _ _ c=>?_
 replace c:=c.nf
 refine Ess 4 (vC x4) c fun _ c=>?_
 refine E0 (T0 (Fp [(1,2)] 2 c fun _ c=>Bd h fun x5 hx5 h=>Emk 3 c hx5 fun a1 c1 _ _ c=>?_))
 refine Fp [] 1 c fun _ c=>E0 (S0 (P0 [(1,2)] c fun _ c=>Bd h fun rl2 hit2 h=>Lp (fun s2  (_:Unit)=>([(1,B b1 0),(2,B b2 0),(5,.map (some b3)),(6,I s2.1),(8,B b4 0),(9,L a1 x5 c1),(10,I s2.2.1),(23,L i1.1 x3 i1.2),(24,I (len x3)),(25,I s1.2.1)],fun Γ=>Γ.set 5 (sl3 (L a1 x5 c1) s2.q2),[])) (fun  (_:Unit)=>([(1,B b1 0),(2,B b2 0),(5,.map (some b3)),(6,I rl2.1),(8,B b4 0),(9,L a1 x5 c1),(23,L i1.1 x3 i1.2),(24,I (len x3)),(25,I s1.2.1)],fun Γ=>Γ.set 5 (sl3 (L a1 x5 c1) rl2.2),[])) hit2 c () (c.rk (rg 6) [0]) (fun s2 q2 _ _ _ c h hr2=>?_) fun _ _ _ c=>?_))
 refine S0 (P0 [] c fun _ c=>I0 c h (fun h=>?_) fun h=>?_)
 refine K0 (S0 (wp_block (T0 (Fp [] 4 c fun _ c=>Bd h fun x6 hx6 h=>Eset 5 c hx6 fun _ _ _ c=>?_))))
 refine E0 (Tq (P1 [] c fun _ c=>bk (tn (P1 [] c fun _ c=>Nx h () (c.rk (rg 6) [0])))))
 refine wp_exit (te (te (be ?_)))
 obtain rfl:=hr2 _ (sk h)
 exact tn ⟨(),c.rk (rg 6) [0]⟩
 refine T1 (Fp [(2,2)] 4 c fun _ c=>?_)
 obtain ⟨he1,c⟩:=c.relen 5
 replace c:=c.eqs (v:=L a1 x5 c1) (u:=L a1 rl2.2 c1) 49 (by simp only [L,he1])
 replace c:=c.toT 5
 refine Bd h fun x7 hx7 h=>Emd (r:=(hd a1 rl2.2 c1)) 2 5 c hx7 fun _ c=>?_
 refine E1 (bk (tn (P1 [] c fun _ c=>Nx h () (c.rk [0,1,4,2] [0]))))
 refine wp_exit (te (te (be ?_)))
 obtain rfl:=hr1 _ (sk h)
 exact tn ⟨(),c.rk (rg 4) [0]⟩
 refine S0 (P0 [] c fun _ c=>I0 c h (fun h=>?_) fun h=>?_)
 refine T0 (Fp [] 1 c fun _ c=>Ess 1 [I 0,L none ([]:List D.Gate) 0] c fun _ c=>?_)
 refine Fp [] 2 c fun _ c=>E0 ?_
 replace c:=c.nil (α:=D.Gate) 84
 replace c:=c.nil (α:=Int) 3
 cases h
 exact wp_ret (tr (Rg c (none,0,none,0) [4,5] [] (.cell (α:=Agg 1) kk (.b 1) (.tmp (.tmp .nil)))))
 refine K0 (T0 (Fp [] 2 c fun _ c=>Bd h fun x8 hx8 h=>Cb c (Zc1 hx8) ⟨.nil,tt⟩ call37 fun i2 _ _ c=>?_))
 refine Fp [] 1 c fun _ c=>E0 (T0 (Fp [(1,0)] 3 c fun _ c=>?_))
 replace c:=c.nf
 refine Bd h fun x9 hx9 h=>Ca [4,5,6] c (Zbz hx9) ⟨.f 0,.md (Zh2 3) 2,tt⟩ call38 fun i3 _ _ c=>?_
 refine Fp [] 1 c fun _ c=>E0 (S0 (P0 [(3,2)] c fun _ c=>I0 c h (fun h=>?_) fun h=>?_))
 refine T0 (Fp [] 1 c fun _ c=>Ess 1 [I 0,L none ([]:List D.Gate) 0] c fun _ c=>?_)
 refine Fp [] 2 c fun _ c=>E0 ?_
 replace c:=c.nil (α:=D.Gate) 84
 replace c:=c.nil (α:=Int) 3
 cases h
 exact wp_ret (tr (Rg c (none,0,none,0) [8,9] [] (.cell (α:=Agg 1) kk (.b 1) (.tmp (.tmp .nil)))))
 refine K0 (Bd h fun x10 hx10 h=>S0 (Yj mix (rM 6 [(5,Pd.nw c.wd 5 (fun i:Oh=>L i.1 x10 i.2) (fun i=>HP.sep [sl3 (L i.1 x10 i.2) x10]))] [(3,2)] c (fun ow=>⟨Ncn c (kN (Zt hx10)) ⟨.gt 4,tt⟩ call39,tt⟩) fun ow _ _ hE hc cq=>?_)))
 obtain ⟨i4,hi4⟩:=hE.nw 5 71
 replace c:=Cx.newt c hc cq [(5,71,_,_)] ⟨hi4,tt⟩
 replace c:=c.flat 8
 refine Ess 1 [I x9.2.c.Inputs,L i3.p2 x9.2.c.Gates i3.q3] c fun _ c=>?_
 refine Fp [] 2 c fun _ c=>E0 ?_
 cases h
 exact wp_ret (Rg c (i3.p2,i3.q3,i4.1,i4.2) [6,8] [] (.cell (α:=Agg 1) kk (.b 1) (.tmp (.tmp .nil))))
theorem Xl {p0 p1 r} (h:ZC p0 p1 = some r):C0 42 [I p0,I p1] [] (.bool r):=by
 unfold ZC at h
 refine En func42 rfl ntmps42 fun _ fr w c=>?_
 refine P0 [] c fun _ c=>S0 (Ry [] mix c fun _ _ c=>?_)
 exact rE
theorem ZcG {p0 r} (h:Xp n p0 = some r):C0 14 [.agg #[I p0.Inputs,L ga0 p0.Gates gc1]] [lR ga0 p0.Gates gc1] (.bool r):=by
 unfold Xp at h
 refine En func14 rfl ntmps14 fun _ fr w c=>?_
 refine T0 (Ebx [I p0.Inputs,L ga0 p0.Gates gc1] c fun b1 _ _ c=>?_)
 refine Fp [] 1 c fun _ c=>E0 (S0 (S0 (Ry [(1,0),(5,0),(10,0)] mix c fun _ _ c=>I0 c h (fun h=>?_) fun h=>?_)))
 exact P0 [] c fun _ c=>rE
 refine K0 (T0 (Emm map82 c fun b2 _ _ c=>?_))
 refine Fp [] 1 c fun _ c=>E0 (S0 (P0 [(1,0)] c fun _ c=>Bd h fun rl1 hit1 h=>?_))
 have hk1:=h
 refine LpR (fun s1  (_:Unit)=>([(1,B b1 0),(3,.map (some b2)),(23,L ga0 p0.Gates gc1),(24,I (len p0.Gates)),(25,I s1.1)],fun Γ=>Γ.set 1 (MP map82 b2 s1.2),[])) (fun s  (_:Unit)=>([],fun Γ=>Γ.set 1 (MP map82 b2 s),[])) hit1 c () (c.rk [0,1] [0]) (fun s1 q1 _ _ _ c h hr1=>?_) fun s1r _ _ _ hrl c=>?_
 refine P0 [] c fun _ c=>S0 (I0 c h (fun h=>?_) fun h=>?_)
 refine K0 (S0 (wp_block (T0 (Fp [] 1 c fun _ c=>Bd h fun x1 hx1 h=>Eel c (.f 0) hx1 fun _ _ c=>?_))))
 refine Eal [I 0,I 0] c fun b3 _ _ c=>?_
 refine Fp [] 1 c fun _ c=>Ess 2 [I x1.A,I x1.B] c fun _ c=>?_
 refine E0 (P0 [(1,0)] c fun _ c=>S0 (Bd h fun x2 hx2 h=>Bd h fun x3 hx3 h=>Bd h fun x4 hx4 h=>S0 (rZ [(3,.eq (.bool x2)),(9,.eq (.bool x3)),(15,.eq (.bool x4))] [(1,1),(7,1),(14,1)] mix c ⟨Ncl c (kN (Xl hx2)) tt call42,Ncl c (fun hg=>Xl (iteF (gcF hg) hx3)) tt call42,Nmg 1 c (gF hx4),tt⟩ fun _ _ c=>I0 c h (fun h=>?_) fun h=>?_)))
 refine P0 [] c fun _ c=>?_
 obtain rfl:=hr1 _ (sk h)
 obtain rfl:=sj hk1
 exact wp_ret (tr (br (tr (tr (br (tr (Rt c () [] [])))))))
 refine K0 (S0 (Bd h fun x5 hx5 h=>Bd h fun x6 hx6 h=>Bd h fun x7 hx7 h=>S0 (rZ [(2,.eq (I x5)),(7,.eq (I x6)),(10,.eq (I x7))] [(1,1),(6,1),(9,1)] mix c ⟨Ncl c (kN (Yh hx5)) tt call43,Ncl c (fun hg=>Yh (iteF (gcF hg) hx6)) tt call43,Ncl c (fun hg=>Yh (iteF (gcF hg) hx7)) tt call43,tt⟩ fun _ _ c=>I0 c h (fun h=>?_) fun h=>?_)))
 refine P0 [] c fun _ c=>?_
 obtain rfl:=hr1 _ (sk h)
 obtain rfl:=sj hk1
 exact wp_ret (tr (br (tr (tr (br (tr (Rt c () [] [])))))))
 refine K0 (T1 (Fp [(1,1)] 2 c fun _ c=>Bd h fun x8 hx8 h=>Empb 1 c hx8 fun _ c=>?_))
 refine E1 (bk (tn (P1 [] c fun _ c=>Nx h () (c.rk [0,1] [0]))))
 refine wp_exit (te (te (be ?_)))
 obtain rfl:=hr1 _ (sk h)
 exact tn ⟨_,(),rfl,c.rk [0,1] [0]⟩
 subst hrl
 exact P0 [] c fun _ c=>rE
theorem XI {p0 p1 r} (h:Ya n p0 p1 = some r):C0 68 [L ga0 p0 gc1,I p1] [lR ga0 p0 gc1] (.bool r):=by
 unfold Ya at h
 refine En func68 rfl ntmps68 fun _ fr w c=>?_
 refine P0 [] c fun _ c=>S0 (P0 [] c fun _ c=>Bd h fun rl1 hit1 h=>?_)
 have hk1:=h
 refine LpR (fun s1  (_:Unit)=>([(1,I p1),(7,L ga0 p0 gc1),(8,I (len p0)),(9,I s1)],id,[])) (fun s  (_:Unit)=>([],id,[])) hit1 c () (c.rk [] [0]) (fun s1 q1 _ _ _ c h hr1=>?_) fun s1r _ _ _ hrl c=>?_
 refine P0 [] c fun _ c=>S0 (I0 c h (fun h=>?_) fun h=>?_)
 refine K0 (S0 (wp_block (T0 (Bd h fun x1 hx1 h=>Eel c (.f 0) hx1 fun _ _ c=>?_))))
 refine Fp [] 1 c fun _ c=>E0 (T0 (Fp [] 2 c fun _ c=>Bd h fun x2 hx2 h=>Cb c (Xl hx2) tt call42 fun _ _ _ c=>?_))
 refine Fp [] 1 c fun _ c=>E0 (I0 c h (fun h=>?_) fun h=>?_)
 refine P0 [] c fun _ c=>?_
 obtain rfl:=hr1 _ (sk h)
 obtain rfl:=sj hk1
 exact wp_ret (br (tr (tr (br (tr (Rt c () [] []))))))
 refine K1 (bk (tn (P1 [] c fun _ c=>Nx h () (c.rk [] [0]))))
 refine wp_exit (te (te (be ?_)))
 obtain rfl:=hr1 _ (sk h)
 exact tn ⟨_,(),rfl,c.rk [] [0]⟩
 subst hrl
 exact P0 [] c fun _ c=>rE
theorem Zcx {p0 r} (h:Zat p0 = some r):C0 160 [.int .u64 p0] [] (I r):=by
 unfold Zat at h
 refine En func160 rfl ntmps160 fun _ fr w c=>?_
 refine P0 [] c fun _ c=>S0 (P0 [] c fun _ c=>I0 c h (fun h=>?_) fun h=>?_)
 refine T0 (Fp [] 1 c fun _ c=>Bd h fun x1 hx1 h=>Eshk c hx1 fun _ c=>?_)
 refine Fp [] 1 c fun _ c=>E0 (P1 [] c fun _ c=>S0 (P0 [] c fun _ c=>I0 c h (fun h=>?_) fun h=>?_))
 refine T0 (Fp [] 1 c fun _ c=>Bd h fun x2 hx2 h=>Eshk c hx2 fun _ c=>?_)
 refine Fp [] 1 c fun _ c=>E0 (P1 [] c fun _ c=>S0 (P0 [] c fun _ c=>I0 c h (fun h=>?_) fun h=>?_))
 refine T0 (Fp [] 1 c fun _ c=>Bd h fun x3 hx3 h=>Eshk c hx3 fun _ c=>?_)
 refine Fp [] 1 c fun _ c=>E0 (P1 [] c fun _ c=>T0 (Fp [] 3 c fun _ c=>Bd h fun x4 hx4 h=>Eix (kd:=.u8) c hx4 fun _ c=>?_))
 exact Fp [] 3 c fun _ c=>E0 rE
 refine K0 (T0 (Fp [] 3 c fun _ c=>Bd h fun x5 hx5 h=>Eix (kd:=.u8) c hx5 fun _ c=>?_))
 exact Fp [] 3 c fun _ c=>E0 rE
 refine K0 (S0 (P0 [] c fun _ c=>I0 c h (fun h=>?_) fun h=>?_))
 refine T0 (Fp [] 1 c fun _ c=>Bd h fun x6 hx6 h=>Eshk c hx6 fun _ c=>?_)
 refine Fp [] 1 c fun _ c=>E0 (P1 [] c fun _ c=>T0 (Fp [] 3 c fun _ c=>Bd h fun x7 hx7 h=>Eix (kd:=.u8) c hx7 fun _ c=>?_))
 exact Fp [] 3 c fun _ c=>E0 rE
 refine K0 (T0 (Fp [] 3 c fun _ c=>Bd h fun x8 hx8 h=>Eix (kd:=.u8) c hx8 fun _ c=>?_))
 exact Fp [] 3 c fun _ c=>E0 rE
 refine K0 (S0 (P0 [] c fun _ c=>I0 c h (fun h=>?_) fun h=>?_))
 refine T0 (Fp [] 1 c fun _ c=>Bd h fun x9 hx9 h=>Eshk c hx9 fun _ c=>?_)
 refine Fp [] 1 c fun _ c=>E0 (P1 [] c fun _ c=>S0 (P0 [] c fun _ c=>I0 c h (fun h=>?_) fun h=>?_))
 refine T0 (Fp [] 1 c fun _ c=>Bd h fun x10 hx10 h=>Eshk c hx10 fun _ c=>?_)
 refine Fp [] 1 c fun _ c=>E0 (P1 [] c fun _ c=>T0 (Fp [] 3 c fun _ c=>Bd h fun x11 hx11 h=>Eix (kd:=.u8) c hx11 fun _ c=>?_))
 exact Fp [] 3 c fun _ c=>E0 rE
 refine K0 (T0 (Fp [] 3 c fun _ c=>Bd h fun x12 hx12 h=>Eix (kd:=.u8) c hx12 fun _ c=>?_))
 exact Fp [] 3 c fun _ c=>E0 rE
 refine K0 (S0 (P0 [] c fun _ c=>I0 c h (fun h=>?_) fun h=>?_))
 refine T0 (Fp [] 1 c fun _ c=>Bd h fun x13 hx13 h=>Eshk c hx13 fun _ c=>?_)
 refine Fp [] 1 c fun _ c=>E0 (P1 [] c fun _ c=>T0 (Fp [] 3 c fun _ c=>Bd h fun x14 hx14 h=>Eix (kd:=.u8) c hx14 fun _ c=>?_))
 exact Fp [] 3 c fun _ c=>E0 rE
 refine K0 (T0 (Fp [] 3 c fun _ c=>Bd h fun x15 hx15 h=>Eix (kd:=.u8) c hx15 fun _ c=>?_))
 exact Fp [] 3 c fun _ c=>E0 rE
theorem Zdr {p0 r} (h:XA p0 = some r):C0 117 [.int .u64 p0] [] (I r):=by
 unfold XA at h
 refine En func117 rfl ntmps117 fun _ fr w c=>?_
 refine P0 [] c fun _ c=>S0 (I0 c h (fun h=>?_) fun h=>?_)
 cases h
 refine K0 (T0 (Fp [] 1 c fun _ c=>Bd h fun x1 hx1 h=>Cb c (Zcx hx1) tt call160 fun _ _ _ c=>?_))
 exact Fp [] 1 c fun _ c=>E0 rE
theorem ZaK {p0 r} (h:YS p0 = some r):C0 150 [I p0] [] (.bool r):=by
 unfold YS at h
 refine En func150 rfl ntmps150 fun _ fr w c=>?_
 exact P0 [] c fun _ c=>P0 [] c fun _ c=>rE
theorem Zay {p0 p1 r} (h:YB p0 p1 = some r):C0 113 [I p0,I p1] [] (I r):=by
 unfold YB at h
 refine En func113 rfl ntmps113 fun _ fr w c=>?_
 refine P0 [] c fun _ c=>T0 (Fp [] 1 c fun _ c=>Bd h fun x1 hx1 h=>Cb c (ZaK hx1) tt call150 fun _ _ _ c=>?_)
 refine Fp [] 1 c fun _ c=>E0 (T0 (Fp [] 1 c fun _ c=>Bd h fun x2 hx2 h=>Cb c (ZaK hx2) tt call150 fun _ _ _ c=>?_))
 exact Fp [] 1 c fun _ c=>E0 (S0 (P0 [] c fun _ c=>I0 c h (fun h=>S0 (P0 [] c fun _ c=>I0 c h (fun h=>P0 [] c fun _ c=>rE) fun h=>K0 (P0 [] c fun _ c=>rE))) fun h=>K0 (S0 (P0 [] c fun _ c=>I0 c h (fun h=>P0 [] c fun _ c=>rE) fun h=>K0 (S0 (P0 [] c fun _ c=>I0 c h (fun h=>P0 [] c fun _ c=>rE) fun h=>K0 (S0 (P0 [] c fun _ c=>I0 c h (fun h=>P0 [] c fun _ c=>rE) fun h=>K0 (P0 [] c fun _ c=>rE)))))))))
theorem ZbN {p0 p1 r} (h:Yn p0 p1 = some r):C0 112 [I p0,I p1] [] (I r):=by
 unfold Yn at h
 refine En func112 rfl ntmps112 fun _ fr w c=>?_
 refine P0 [] c fun _ c=>S0 (T0 (Fp [] 1 c fun _ c=>Bd h fun x1 hx1 h=>Cb c (Yh hx1) tt call43 fun _ _ _ c=>?_))
 refine Fp [] 1 c fun _ c=>Bd h fun x2 hx2 h=>Cb c (Yh hx2) tt call43 fun _ _ _ c=>?_
 refine Bd h fun x3 hx3 h=>Cb c (Zay hx3) tt call113 fun _ _ _ c=>?_
 refine Fp [] 1 c fun _ c=>E0 (P0 [] c fun _ c=>I0 c h (fun h=>P0 [] c fun _ c=>rE) fun h=>?_)
 refine K0 (T0 (Fp [] 2 c fun _ c=>Bd h fun x4 hx4 h=>Cb c (Zay hx4) tt call113 fun _ _ _ c=>?_))
 exact Fp [] 1 c fun _ c=>E0 rE
theorem Zau {p0 gn2 r} (h:Zw n p0 = some r):Con prog 114 [.slice ga0 gn2 gc1] [sl3 (.slice ga0 gn2 gc1) p0] [] fun (i:Oh)=>([L i.1 r i.2],[sl3 (L i.1 r i.2) r],[]):=by
 unfold Zw at h
 refine En func114 rfl ntmps114 fun _ fr w c=>?_
 obtain ⟨rfl,c⟩:=c.relen 0
 refine P0 [] c fun _ c=>S0 (P0 [] c fun _ c=>I0 c h (fun h=>?_) fun h=>?_)
 refine P0 [] c fun _ c=>?_
 obtain rfl:=sj h
 exact wp_ret (tr (Rt c (ga0,gc1) [0] []))
 refine K0 (S0 (P0 [] c fun _ c=>Bd h fun rl1 hit1 h=>?_))
 have hk1:=h
 refine LpR (fun s1  (_:Unit)=>([(0,L ga0 p0 gc1),(3,I s1)],id,[])) (fun s  (_:Unit)=>([(0,L ga0 p0 gc1)],id,[])) hit1 c () (c.rk [0] []) (fun s1 q1 _ _ _ c h hr1=>?_) fun s1r _ _ _ hrl c=>?_
 refine S0 (P0 [] c fun _ c=>I0 c h (fun h=>?_) fun h=>?_)
 refine K0 (S0 (wp_block (Bd h fun x1 hx1 h=>Bd h fun x2 hx2 h=>S0 (rZ [(2,Pd.el (x1:Int)),(3,.eq (I x1)),(7,Pd.el (x2:Int)),(8,.eq (I x2))] [] mix c ⟨Nid c (.g 0) (kN hx1),Nld c 2 (q:=x1) (atN 2),Nid c (.g 0) (kN hx2),Nld c 7 (q:=x2) (atN 7),tt⟩ fun _ _ c=>I0 c h (fun h=>?_) fun h=>?_))))
 cases h
 refine K1 (bk (tn (P1 [] c fun _ c=>Nx h () (c.rk [0] []))))
 refine wp_exit (te (te (be ?_)))
 obtain rfl:=hr1 _ (sk h)
 exact tn ⟨_,(),rfl,c.rk [0] []⟩
 subst hrl
 refine P0 [] c fun _ c=>?_
 obtain rfl:=sj h
 exact wp_ret (Rt c (ga0,gc1) [0] [])
theorem Zbl {p0 p1 r} (h:Yg n p0 p1 = some r):C0 115 [L ga0 p0 gc1,I p1] [lR ga0 p0 gc1] (.bool r):=by
 unfold Yg at h
 refine En func115 rfl ntmps115 fun _ fr w c=>?_
 refine P0 [] c fun _ c=>S0 (T0 (Fp [] 2 c fun _ c=>Bd h fun x1 hx1 h=>Cb c (XI hx1) ⟨.f 0,tt⟩ call68 fun _ _ _ c=>?_))
 refine Fp [] 1 c fun _ c=>E0 (I0 c h (fun h=>P0 [] c fun _ c=>rE) fun h=>?_)
 refine K0 (S0 (P0 [] c fun _ c=>Bd h fun rl1 hit1 h=>?_))
 have hk1:=h
 refine LpR (fun s1  (_:Unit)=>([(0,L ga0 p0 gc1),(5,I s1)],id,[])) (fun s  (_:Unit)=>([],id,[])) hit1 c () (c.rk [] [0]) (fun s1 q1 _ _ _ c h hr1=>?_) fun s1r _ _ _ hrl c=>?_
 refine S0 (P0 [] c fun _ c=>I0 c h (fun h=>?_) fun h=>?_)
 refine K0 (S0 (wp_block (Bd h fun x2 hx2 h=>Bd h fun x3 hx3 h=>Bd h fun x4 hx4 h=>Bd h fun x5 hx5 h=>S0 (rZ [(3,Pd.el (x2:Int)),(4,.eq (I x2)),(5,.eq (I x3)),(8,Pd.el (x4:Int)),(9,.eq (I x4)),(10,.eq (I x5))] [] mix c ⟨Nid c (.f 0) (kN hx2),Nld c 3 (q:=x2) (atN 3),Ncl c (kN (Yh hx3)) tt call43,Nid c (.f 0) (kN hx4),Nld c 8 (q:=x4) (atN 8),Ncl c (kN (Yh hx5)) tt call43,tt⟩ fun _ _ c=>I0 c h (fun h=>?_) fun h=>?_))))
 refine P0 [] c fun _ c=>?_
 obtain rfl:=hr1 _ (sk h)
 obtain rfl:=sj hk1
 exact wp_ret (br (tr (tr (br (tr (Rt c () [] []))))))
 refine K1 (bk (tn (P1 [] c fun _ c=>Nx h () (c.rk [] [0]))))
 refine wp_exit (te (te (be ?_)))
 obtain rfl:=hr1 _ (sk h)
 exact tn ⟨_,(),rfl,c.rk [] [0]⟩
 subst hrl
 exact P0 [] c fun _ c=>rE
theorem Y5 {p0 p1 p2 gn2 r} (h:Zg n p0 p1 p2 = some r):Con prog 161 [.slice ga0 gn2 gc1,I p1,I p2,.func (.func 112) #[] #[]] [sl3 (.slice ga0 gn2 gc1) p0] [] fun (_:Unit)=>([],[sl3 (.slice ga0 gn2 gc1) r],[]):=by
 unfold Zg at h
 refine En func161 rfl ntmps161 fun _ fr w c=>?_
 obtain ⟨rfl,c⟩:=c.relen 0
 refine P0 [] c fun _ c=>Bd h fun rl1 hit1 h=>Tq (Lp (fun s1  (_:Unit)=>([(0,L ga0 p0 gc1),(1,I p1),(2,I p2),(3,.func (.func 112) #[] #[]),(8,I s1.1)],fun Γ=>Γ.set 0 (sl3 (L ga0 p0 gc1) s1.2),[])) (fun  (_:Unit)=>([],fun Γ=>Γ.set 0 (sl3 (L ga0 p0 gc1) rl1),[])) hit1 c () (c.rk [0] []) (fun s1 q1 _ _ _ c h hr1=>?_) fun _ _ _ c=>?_)
 refine S0 (P0 [] c fun _ c=>I0 c h (fun h=>?_) fun h=>?_)
 refine K0 (S0 (wp_block (P0 [] c fun _ c=>Bd h fun rl2 hit2 h=>Tq (Lp (fun s2  (_:Unit)=>([(0,L ga0 p0 gc1),(1,I p1),(2,I p2),(3,.func (.func 112) #[] #[]),(8,I s1.1),(9,I s2.1)],fun Γ=>Γ.set 0 (sl3 (L ga0 p0 gc1) s2.2),[])) (fun  (_:Unit)=>([(0,L ga0 p0 gc1),(1,I p1),(2,I p2),(3,.func (.func 112) #[] #[]),(8,I s1.1)],fun Γ=>Γ.set 0 (sl3 (L ga0 p0 gc1) rl2),[])) hit2 c () (c.rk [0] []) (fun s2 q2 _ _ _ c h hr2=>?_) fun _ _ _ c=>?_))))
 refine S0 (Bd h fun x1 hx1 h=>Bd h fun x2 hx2 h=>Bd h fun x3 hx3 h=>S0 (rZ [(7,Pd.el (x1:Int)),(8,.eq (I x1)),(12,Pd.el (x2:Int)),(13,.eq (I x2)),(14,.eq (I x3))] [] mix c ⟨Nid c (.g 0) (gT hx1),Nld c 7 (q:=x1) (atN 7),Nid c (.g 0) (gT hx2),Nld c 12 (q:=x2) (atN 12),NclV c (fun hg=>ZbN (iteT (gcT hg) hx3)) tt call112,tt⟩ fun _ _ c=>I0 c h (fun h=>?_) fun h=>?_))
 refine K0 (S0 (wp_block (Yj mix ?_)))
 refine Rhs [2,3,4] c 15 ?_
 refine Bd h fun x4 hx4 h=>Bd h fun x5 hx5 h=>rM 14 [(8,Pd.el (x4:Int)),(9,.eq (I x4)),(12,Pd.el (x5:Int)),(13,.eq (I x5))] [] c (fun ow=>⟨Zj ow (Nid c (.g 0) (kN hx4)),Zj ow (Nld c 8 (q:=x4) (atM 8 (p:=.el (x4:Int)))),Zj ow (Nid c (.g 0) (kN hx5)),Zj ow (Nld c 12 (q:=x5) (atM 12 (p:=.el (x5:Int)))),tt⟩) fun _ _ _ _ _ c=>?_
 refine Bd h fun x6 hx6 h=>Eset 0 c hx6 fun _ _ _ c=>?_
 refine Bd h fun x7 hx7 h=>Eset 0 c hx7 fun _ _ _ c=>?_
 refine E1 (bk (tn (P1 [] c fun _ c=>Nx h () (c.rk [0] []))))
 refine wp_exit (te (te (be ?_)))
 obtain rfl:=hr2 _ (sk h)
 exact tn ⟨(),c.rk [0] []⟩
 refine bk (tn (P1 [] c fun _ c=>Nx h () (c.rk [0] [])))
 refine wp_exit (te (te (be ?_)))
 obtain rfl:=hr1 _ (sk h)
 exact tn ⟨(),c.rk [0] []⟩
 obtain rfl:=sj h
 exact (Zbe (Rg c () [0] [] .nil))
theorem YH {p0 p1 p2 p3 gn2 r} (h:Zp n p0 p1 p2 p3 = some r):Con prog 149 [.slice ga0 gn2 gc1,I p1,I p2,I p3,.func (.func 112) #[] #[]] [sl3 (.slice ga0 gn2 gc1) p0] [] fun (_:Unit)=>([],[sl3 (.slice ga0 gn2 gc1) r],[]):=by
 unfold Zp at h
 refine En func149 rfl ntmps149 fun _ fr w c=>?_
 obtain ⟨rfl,c⟩:=c.relen 0
 refine P0 [] c fun _ c=>P0 [] c fun _ c=>Bd h fun rl1 hit1 h=>?_
 have hk1:=h
 refine Tq (LpR (fun s1  (_:Unit)=>([(0,L ga0 p0 gc1),(1,I s1.1),(2,I s1.2.1),(3,I s1.p2),(4,.func (.func 112) #[] #[]),(10,.bool s1.p3),(11,.bool s1.q4)],id,[])) (fun s  (_:Unit)=>([],id,[])) hit1 c () (c.rk [0] []) (fun s1 q1 _ _ _ c h hr1=>?_) fun s1r _ _ _ hrl c=>?_)
 refine wp_block (P0 [] c fun _ c=>S0 (P0 [] c fun _ c=>I0 c h (fun h=>?_) fun h=>?_))
 refine T0 (Fp [] 4 c fun _ c=>Bd h fun x1 hx1 h=>Ca [0] c (Y5 hx1) tt call161 fun _ _ _ c=>?_)
 refine E0 ?_
 obtain rfl:=hr1 _ (sk h)
 obtain rfl:=sj hk1
 exact wp_ret (tr (br (tr (br (tr (Rg c () [0] [] .nil))))))
 refine K0 (S0 (P0 [] c fun _ c=>I0 c h (fun h=>?_) fun h=>?_))
 cases h
 refine K0 (S0 (P0 [] c fun _ c=>I0 c h (fun h=>?_) fun h=>?_))
 cases h
 cases h
 subst hrl
 obtain rfl:=sj h
 exact (Zbe (Rg c () [0] [] .nil))
theorem YI {p0 gn2 r} (h:Zf n p0 = some r):Con prog 111 [.slice ga0 gn2 gc1,.func (.func 112) #[] #[]] [sl3 (.slice ga0 gn2 gc1) p0] [] fun (_:Unit)=>([],[sl3 (.slice ga0 gn2 gc1) r],[]):=by
 unfold Zf at h
 refine En func111 rfl ntmps111 fun _ fr w c=>?_
 obtain ⟨rfl,c⟩:=c.relen 0
 refine P0 [] c fun _ c=>T1 (Fp [] 4 c fun _ c=>Bd h fun x1 hx1 h=>Cb c (Zdr hx1) tt call117 fun _ _ _ c=>?_)
 refine Fp [] 1 c fun _ c=>Bd h fun x2 hx2 h=>Ca [0] c (YH hx2) tt call149 fun _ _ _ c=>?_
 refine E1 ?_
 obtain rfl:=sj h
 exact (Zbe (Rg c () [0] [] .nil))
theorem Zcz {p0 r} (h:ZJ n p0 = some r):Con prog 66 [L ga0 p0 gc1] [] [lR ga0 p0 gc1] fun (i:Oh)=>([L i.1 r.1 i.2,.bool r.2],[sl3 (L i.1 r.1 i.2) r.1],[]):=by
 unfold ZJ at h
 refine En func66 rfl ntmps66 fun _ fr w c=>?_
 refine P0 [] c fun _ c=>S0 (T0 (Fp [] 1 c fun _ c=>Bd h fun x1 hx1 h=>Cb c (XI hx1) ⟨.f 0,tt⟩ call68 fun _ _ _ c=>?_))
 refine Fp [] 1 c fun _ c=>E0 (I0 c h (fun h=>?_) fun h=>?_)
 refine P0 [] c fun _ c=>?_
 replace c:=c.nil (α:=Int) 3
 cases h
 exact wp_ret (tr (Rg c (none,0) [0] [] (.tmp (.tmp .nil))))
 refine K0 (T0 (Fp [] 1 c fun _ c=>Bd h fun x2 hx2 h=>Cb c (Zt hx2) ⟨.f 0,tt⟩ call39 fun i1 _ _ c=>?_))
 refine Fp [] 1 c fun _ c=>E0 (T0 (Fp [] 1 c fun _ c=>Bd h fun x3 hx3 h=>Ca [0] c (YI hx3) tt call111 fun _ _ _ c=>?_))
 refine E0 (T0 (Fp [] 1 c fun _ c=>Bd h fun x4 hx4 h=>Ca [0] c (Zau hx4) tt call114 fun i2 _ _ c=>?_))
 refine Fp [] 1 c fun _ c=>E0 (S0 (T0 (Fp [] 1 c fun _ c=>Bd h fun x5 hx5 h=>Cb c (Zbl hx5) ⟨.g 0,tt⟩ call115 fun _ _ _ c=>?_)))
 refine Fp [] 1 c fun _ c=>E0 (I0 c h (fun h=>?_) fun h=>?_)
 refine P0 [] c fun _ c=>?_
 replace c:=c.nil (α:=Int) 3
 cases h
 exact wp_ret (tr (Rg c (none,0) [1] [] (.tmp (.tmp .nil))))
 refine K0 (P0 [] c fun _ c=>?_)
 cases h
 exact wp_ret (Rg c (i2.1,i2.2) [0] [] (.tmp (.tmp .nil)))
end Go.Proofs.YthlolmkdppfioaaGreat
