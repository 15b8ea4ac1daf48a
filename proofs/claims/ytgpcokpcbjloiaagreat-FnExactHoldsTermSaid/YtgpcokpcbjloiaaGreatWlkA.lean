/- The walks, printed by a program. -/
import Derived.Test.YtgpcokpcbjloiaaGreatLib3
import Derived.Test.YtgpcokpcbjloiaaGreatLib4
import Derived.Test.YtgpcokpcbjloiaaGreatLib2
import Derived.Test.YtgpcokpcbjloiaaGreatDefs
import Derived.Test.YtgpcokpcbjloiaaGreatProg
import Derived.KernelRfl
import Derived.DeepKeys4
import Derived.Test.YtgpcokpcbjloiaaGreatShelf
import Derived.Lib.Strings
set_option linter.unusedVariables false
set_option linter.unusedSimpArgs false
set_option maxRecDepth 100000
set_option maxHeartbeats 40000000
namespace Go.Proofs.YtgpcokpcbjloiaaGreat
open Go.GL Go.Maps Go.WideMaps Tryz
abbrev C0 (f:FuncId) (a:List Value) (F:List RF) (v:Value):=Con prog f a [] F fun (_:Unit)=>([v],[],[])
abbrev Cl {α:Type} [Rep α] (f:FuncId) (a:List Value) (F:List RF) (r:List α):=Con prog f a [] F fun (i:Oh)=>([L i.1 r i.2],[],[lR i.1 r i.2])
variable {n:Nat} {ga0 ga1 ga2 ga3 ga4 ga5 ga6 ga7:Option Addr} {gc1 gc2 gc3 gc4 gc5 gc6 gc7 gc8:Nat}
theorem mix:prog.follows .mixedOrders = true:=by kernel_rfl
abbrev sl3:Value → List Int → HP:=SL 3
abbrev sl30:Value → List Rw.Term → HP:=SL 30
abbrev sl4:Value → List Bool → HP:=SL 4
abbrev sl47:Value → List Hd → HP:=SL 47
abbrev sl72:Value → List D.Value → HP:=SL 72
abbrev sl88:Value → List D.Gate → HP:=SL 88
theorem Zl4 (d:Nat) (a c:Int) (w:World):(Op.equalIn (d + 1) 3 (.int .i64 a) (.int .i64 c)).run prog w = .ok (a == c) w:=by
  unfold Op.equalIn
  simp [run_underlying Tryz.underlying3]
theorem eqd88 (n:Nat) (x y:D.Gate) (w:World):(Op.equalIn (n + 1 + 1) 88 (.agg #[.int .i64 x.A,.int .i64 x.B]) (.agg #[.int .i64 y.A,.int .i64 y.B])).run prog w = .ok (decide (x = y)) w:=by
  have hs:prog.stoodInHeld 88 = false:=by kernel_rfl
  unfold Op.equalIn
  obtain ⟨x0,x1⟩:=x; obtain ⟨y0,y1⟩:=y
  simp only [D.Gate.mk.injEq]
  by_cases h0:x0 = y0 <;> by_cases h1:x1 = y1 <;> simp [run_underlying Tryz.underlying88,hs,Zl4,part,h0,h1]
theorem eq88 (x y:D.Gate) (w:World):(binOp .eql 88 (.agg #[.int .i64 x.A,.int .i64 x.B]) (.agg #[.int .i64 y.A,.int .i64 y.B])).run prog w = .ok (.bool (decide (x = y))) w:=by
  have h:=eqd88 9998 x y w
  simp only [binOp,Op.equal,Op.maxDepth,Sem.run_bind,Sem.run_pure]
  rw [h]; rfl
theorem eqg88 (x y:Operand) (a b:Array Value) (w:World):(eqGuard .eql 88 x y (.agg a) (.agg b)).run prog w = .ok () w:=by
  have hg:prog.eqGuardType prog.depth 88 = false:=by kernel_rfl
  simp [eqGuard,hg]
theorem ZcO {q:D.Term} {w:World} {F:Nat → Prop} {cs:List Value} (h:Rep.ok w F cs q):cs[1]? = some (I q.W):=Zkx h
theorem ZhO {q:D.Value} {w:World} {F:Nat → Prop} {cs:List Value} (h:Rep.ok w F cs q):cs[0]? = some (Str.val q.Name):=ZjB h
theorem Zis {q:D.Value} {w:World} {F:Nat → Prop} {cs:List Value} (h:Rep.ok w F cs q):cs[1]? = some (I q.W):=Zjf h
theorem Zlf {q:D.Value} {w:World} {F:Nat → Prop} {cs:List Value} (h:Rep.ok w F cs q):cs[2]? = some (I q.N):=Zj3 h
noncomputable abbrev map104:MapT prog 9 3 Str Int:=mapSI _ 9 3 Tryz.underlying9 Tryz.underlying3 (by kernel_rfl)
noncomputable abbrev map107:MapT prog 9 47 Str Hd:=mapSV _ 9 47 (⟨none,0,0⟩ : Hd) Tryz.underlying9 (Zly (by kernel_rfl))
theorem laidOut:laidOutB prog = true:=by kernel_rfl
theorem keyed88:Keyed prog 88:=Keyed.of_law (deep_law_laid laidOut (m:=3) (by omega) (of_decide_eq_true (by kernel_rfl)) (by kernel_rfl) (by kernel_rfl))
theorem lits3 (n:Nat) {a:Int} (h:(Lit.int .i64 a).wf = true):prog.keyLits (n + 1) 3 [.int .i64 a] = some [.int .i64 a]:=by
  unfold Program.keyLits
  rw [Tryz.underlying3]
  simp [h]
theorem lits88 (n:Nat) (x:D.Gate) (hA:(Lit.int .i64 x.A).wf = true) (hB:(Lit.int .i64 x.B).wf = true):prog.keyLits (n + 1 + 1) 88 [.int .i64 x.A,.int .i64 x.B] = some [.int .i64 x.A,.int .i64 x.B]:=by
  have hc:prog.cellsOf 88 = 2:=by kernel_rfl
  have hc3:prog.cellsOf 3 = 1:=by kernel_rfl
  unfold Program.keyLits
  rw [Tryz.underlying88]
  simp [hc,hc3,lits3 n hA,lits3 n hB]
theorem key88 (x:D.Gate) (hA:(Lit.int .i64 x.A).wf = true) (hB:(Lit.int .i64 x.B).wf = true):keyOf prog 88 (.agg #[.int .i64 x.A,.int .i64 x.B]) = some (.string (keyBytes [.int .i64 x.A,.int .i64 x.B])):=by
  have h1:prog.keyType 88 = true:=by kernel_rfl
  have h2:∀ x:D.Gate,(Value.agg #[.int .i64 x.A,.int .i64 x.B]).formed prog 88 = true:=by intro x; kernel_rfl
  obtain ⟨n,hs⟩ : ∃ n,prog.types.size = n + 1:=⟨prog.types.size - 1,(Nat.succ_pred_eq_of_pos (of_decide_eq_true (by kernel_rfl))).symm⟩
  have hl:=lits88 n x hA hB
  unfold keyOf
  rw [Tryz.underlying88]
  simp only [h1,h2,ZpI,Znl,hs,Value.cells]
  rw [hl]; rfl
theorem back3 (v:Value) (y:Int) (ps:List MemPlace) (h:plainElem (H:=Value) prog 3 v = some (.lit (.int .i64 y),ps)):v = .int .i64 y:=by
  obtain ⟨c,rfl,hc,_⟩:=plainElem_int_inv Tryz.underlying3 h
  simp only [Prod.mk.injEq,DataW.lit.injEq,Lit.int.injEq] at hc
  rw [hc.1.2]
noncomputable def map111:MapT prog 88 3 D.Gate Int where
  fit:=ZB
  lit x:=.string (keyBytes [.int .i64 x.A,.int .i64 x.B])
  dv y:=.lit (.int .i64 y)
  zero:=0
  efit:=fitZ
  zfit:=by kernel_rfl
  keyed:=keyed88
  key x h:=by
    simp only [ZB,fitZ,ZmK] at h
    exact key88 x h.1 h.2
  inj x y hx hy h:=by
    simp only [ZB,fitZ,ZmK] at hx hy
    have h1:=key88 x hx.1 hx.2
    have h2:=key88 y hy.1 hy.2
    rw [← h] at h2
    have h3:=keyed88.inj h1 h2
    cases x; cases y
    simpa using h3
  elem y h:=plainElem_int Tryz.underlying3 (by simpa [fitZ] using h)
  back v y ps h:=back3 v y ps h
  hz w:=by
    show (zeroValue 3).run prog w = .ok (.int .i64 0) w
    have hz:(prog.info? 3).map (·.zero) = some (some (.int .i64 0)):=by kernel_rfl
    cases hi:prog.info? 3 with
    | none=>rw [hi] at hz; cases hz
    | some i =>
      rw [hi] at hz
      simp only [ZmU,Option.some.injEq] at hz
      simp [zeroValue,typeInfo,hi,hz]
theorem back4 (v:Value) (y:Bool) (ps:List MemPlace) (h:plainElem (H:=Value) prog 4 v = some (.lit (.bool y),ps)):v = .bool y:=by
  unfold plainElem at h
  rw [Tryz.underlying4] at h
  split at h <;> simp_all
noncomputable def map138:MapT prog 88 4 D.Gate Bool where
  fit:=ZB
  lit x:=.string (keyBytes [.int .i64 x.A,.int .i64 x.B])
  dv y:=.lit (.bool y)
  zero:=false
  efit:=fun _=>true
  zfit:=by kernel_rfl
  keyed:=keyed88
  key x h:=by
    simp only [ZB,fitZ,ZmK] at h
    exact key88 x h.1 h.2
  inj x y hx hy h:=by
    simp only [ZB,fitZ,ZmK] at hx hy
    have h1:=key88 x hx.1 hx.2
    have h2:=key88 y hy.1 hy.2
    rw [← h] at h2
    have h3:=keyed88.inj h1 h2
    cases x; cases y
    simpa using h3
  elem y _:=plainElem_bool Tryz.underlying4 y
  back v y ps h:=back4 v y ps h
  hz w:=by
    show (zeroValue 4).run prog w = .ok (.bool false) w
    have hz:(prog.info? 4).map (·.zero) = some (some (.bool false)):=by kernel_rfl
    cases hi:prog.info? 4 with
    | none=>rw [hi] at hz; cases hz
    | some i =>
      rw [hi] at hz
      simp only [ZmU,Option.some.injEq] at hz
      simp [zeroValue,typeInfo,hi,hz]
theorem ZaS (n:Nat):(∀ {p0 p1 ga0 gc1 r} (h:XU n p0 p1 = some r),C0 19 [L ga0 p0 gc1,I p1] [lR ga0 p0 gc1] (I r)) ∧
    (∀ {p0 p1 ga0 gc1 r} (h:Xe n p0 p1 = some r),C0 6 [tV p0 ga0 gc1,I p1] [lR ga0 p0.Kids gc1] (I r)):=by
 induction n with
 | zero=>exact ⟨by intro p0 p1 ga0 gc1 r h; simp [XU] at h,by intro p0 p1 ga0 gc1 r h; simp [Xe] at h⟩
 | succ n ih=>
 obtain ⟨ih0,ih1⟩:=ih
 refine ⟨?_,?_⟩
 · intro p0 p1 ga0 gc1 r h
   rw [XU] at h
   refine En func19 rfl ntmps19 fun _ fr w c=>?_
   refine P0 [] c fun _ c=>P0 [] c fun _ c=>S0 (P0 [] c fun _ c=>I0 c h (fun h=>P0 [] c fun _ c=>rE) fun h=>?_)
   refine K0 (S0 (P0 [] c fun _ c=>Bd h fun rl1 hit1 h=>?_))
   have hk1:=h
   refine LpR (fun s1  (_:Unit)=>([(0,L ga0 p0 gc1),(1,I s1.1),(5,I s1.2)],id,[])) (fun s  (_:Unit)=>([(1,I s)],id,[])) hit1 c () (c.rk [] [0]) (fun s1 q1 _ _ _ c h hr1=>?_) fun s1r _ _ _ hrl c=>?_
   refine S0 (P0 [] c fun _ c=>I0 c h (fun h=>?_) fun h=>?_)
   refine K0 (S0 (wp_block (T0 (Fp [] 2 c fun _ c=>Bd h fun x1 hx1 h=>Eem c (.f 0) hx1 fun _ u1 _ c=>?_))))
   obtain ⟨a1,c1,rfl,c⟩:=c.o_Term 1
   refine Fp [] 1 c fun _ c=>Bd h fun x2 hx2 h=>Cb c (ih1 hx2) ⟨.f 2,tt⟩ call6 fun _ _ _ c=>?_
   refine Fp [] 1 c fun _ c=>E0 (P0 [] c fun _ c=>I0 c h (fun h=>?_) fun h=>?_)
   refine P0 [] c fun _ c=>?_
   obtain rfl:=hr1 _ (sk h)
   obtain rfl:=sj hk1
   exact wp_ret (br (tr (tr (br (tr (Rt c () [] []))))))
   refine K1 (bk (tn (P1 [] c fun _ c=>Nx h () (c.rk [] [0]))))
   refine wp_exit (te (te (be ?_)))
   obtain rfl:=hr1 _ (sk h)
   exact tn ⟨_,(),rfl,c.rk [] [0]⟩
   subst hrl
   exact P0 [] c fun _ c=>rE
 · intro p0 p1 ga0 gc1 r h
   rw [Xe] at h
   refine En func6 rfl ntmps6 fun _ fr w c=>?_
   refine T0 (Ebx (tC p0 ga0 gc1) c fun b1 _ _ c=>?_)
   refine Fp [] 1 c fun _ c=>E0 (P0 [(2,0)] c fun _ c=>S0 (P0 [] c fun _ c=>I0 c h (fun h=>P0 [] c fun _ c=>rE) fun h=>?_))
   refine K0 (T0 (Fp [(1,0)] 3 c fun _ c=>Bd h fun x1 hx1 h=>Cb c (ih0 hx1) ⟨.f 0,tt⟩ call19 fun _ _ _ c=>?_))
   exact Fp [] 1 c fun _ c=>E0 (S0 (P0 [] c fun _ c=>I0 c h (fun h=>P0 [] c fun _ c=>rE) fun h=>K0 (P0 [] c fun _ c=>rE)))
theorem Zfd {n:Nat}:∀ {p0 p1 ga0 gc1 r} (h:Xe n p0 p1 = some r),C0 6 [tV p0 ga0 gc1,I p1] [lR ga0 p0.Kids gc1] (I r):=(ZaS n).2
theorem ZaN (n:Nat):(∀ {p0 ga0 gc1 r} (h:XO n p0 = some r),Con prog 26 [L ga0 p0 gc1] [] [lR ga0 p0 gc1] fun (i:Oh)=>([L i.1 r i.2],[OD (ownT 30) 30 (L i.1 r i.2) r],[])) ∧
    (∀ {p0 ga0 gc1 r} (h:Y1 n p0 = some r),Con prog 8 [tV p0 ga0 gc1] [] [lR ga0 p0.Kids gc1] fun (i:Oh)=>([tV r i.1 i.2],[OD (ownT 30) 30 (L i.1 r.Kids i.2) r.Kids],[])):=by
 induction n with
 | zero=>exact ⟨by intro p0 ga0 gc1 r h; simp [XO] at h,by intro p0 ga0 gc1 r h; simp [Y1] at h⟩
 | succ n ih=>
 obtain ⟨ih0,ih1⟩:=ih
 refine ⟨?_,?_⟩
 · intro p0 ga0 gc1 r h
   rw [XO] at h
   refine En func26 rfl ntmps26 fun _ fr w c=>?_
   refine P0 [] c fun _ c=>T0 (Fp [] 2 c fun _ c=>Bd h fun x1 hx1 h=>Emkd 30 (⟨0,0,0,⟨[]⟩,⟨none,0,0⟩⟩ : Rw.Term) (fun w=>Zjg 30 w) c hx1 fun a1 c1 _ _ c=>?_)
   refine Fp [] 1 c fun _ c=>E0 (S0 (P0 [] c fun _ c=>Bd h fun rl1 hit1 h=>Lp (fun s1  (i:List Rw.Term)=>([(0,L ga0 p0 gc1),(3,L a1 x1 c1),(4,I s1.1)],fun Γ=>(Γ.set 0 (sl30 (L a1 x1 c1) (i))).set 1 (HP.all (ownT 30) (i) s1.2),[])) (fun  (i:List Rw.Term)=>([(3,L a1 x1 c1)],fun Γ=>(Γ.set 0 (sl30 (L a1 x1 c1) (i))).set 1 (HP.all (ownT 30) (i) rl1),[])) hit1 c ((List.replicate (List.length x1) (⟨0,0,0,⟨[]⟩,⟨none,0,0⟩⟩ : Rw.Term))) (c.rk [0,1] [0]) (fun s1 q1 i1 _ _ c h hr1=>?_) fun k1 _ _ c=>?_))
   refine S0 (P0 [] c fun _ c=>I0 c h (fun h=>?_) fun h=>?_)
   refine K0 (S0 (wp_block (T1 (Fp [] 4 c fun _ c=>Bd h fun x2 hx2 h=>Eem c (.f 0) hx2 fun _ u1 _ c=>?_))))
   obtain ⟨a2,c2,rfl,c⟩:=c.o_Term 1
   refine Bd h fun x3 hx3 h=>Cb c (ih1 hx3) ⟨.f 2,tt⟩ call8 fun i2 _ _ c=>?_
   replace c:=c.pack (H:=ownT 30 (tR x3 i2.1 i2.2) x3) [OD (ownT 30) 30 (L i2.1 x3.Kids i2.2) x3.Kids] [2] (fun A h=>ZiL (x:=x3) (Sep.sole h))
   refine Bd h fun x4 hx4 h=>Esetd 0 1 2 c hx4 fun _ _ _ c=>?_
   refine E1 (bk (tn (P1 [] c fun _ c=>Nx h ((List.set i1 (s1.1).toNat (tR x3 i2.1 i2.2))) (c.rk [0,1] [0]))))
   refine wp_exit (te (te (be ?_)))
   obtain rfl:=hr1 _ (sk h)
   exact tn ⟨(i1),c.rk [0,1] [0]⟩
   refine P0 [] c fun _ c=>?_
   replace c:=c.odc 0 1
   obtain rfl:=sj h
   obtain ⟨he1,c⟩:=c.releno 0
   replace c:=c.eqs (v:=L a1 x1 c1) (u:=L a1 rl1 c1) 2 (by simp only [L,he1])
   exact wp_ret (Rt c (a1,c1) [0] [])
 · intro p0 ga0 gc1 r h
   rw [Y1] at h
   refine En func8 rfl ntmps8 fun _ fr w c=>?_
   refine T0 (Ebx (tC p0 ga0 gc1) c fun b1 _ _ c=>?_)
   refine Eal tZ c fun b2 _ _ c=>?_
   refine E0 (T0 (Eal tZ c fun b3 _ _ c=>?_))
   refine E0 (T0 (Fp [(1,0)] 3 c fun _ c=>Esb 2 0 (I p0.Op) c fun _ c=>?_))
   refine E0 (T0 (Fp [(1,0)] 3 c fun _ c=>Esb 2 1 (I p0.W) c fun _ c=>?_))
   refine E0 (T0 (Fp [(1,0)] 3 c fun _ c=>?_))
   replace c:=c.ng
   refine Esb 2 2 (I p0.N) c fun _ c=>?_
   refine E0 (T0 (Fp [(1,0)] 3 c fun _ c=>Esb 2 3 (Str.val p0.Name) c fun _ c=>?_))
   refine E0 (T0 (Fp [(1,0)] 2 c fun _ c=>Bd h fun x1 hx1 h=>Cb c (ih0 hx1) ⟨.f 0,tt⟩ call26 fun i1 _ _ c=>?_))
   refine Fp [] 1 c fun _ c=>Esb 2 4 (L i1.1 x1 i1.2) c fun _ c=>?_
   refine E0 (T0 (Fp [(0,2)] 1 c fun _ c=>Ess 1 [I p0.Op,I p0.W,I p0.N,Str.val p0.Name,L i1.1 x1 i1.2] c fun _ c=>?_))
   refine E0 ?_
   cases h
   exact wp_ret (Rg c (i1.1,i1.2) [3] [] (.cell (α:=Agg 4) kk (.b 1) .nil))
theorem Zao {n:Nat}:∀ {p0 ga0 gc1 r} (h:Y1 n p0 = some r),Con prog 8 [tV p0 ga0 gc1] [] [lR ga0 p0.Kids gc1] fun (i:Oh)=>([tV r i.1 i.2],[OD (ownT 30) 30 (L i.1 r.Kids i.2) r.Kids],[]):=(ZaN n).2
theorem ZeT {n:Nat}:∀ {p0 p1 ga0 gc1 gb2 r} (h:Xu n p0 p1 = some r),Con prog 42 [tV p0 ga0 gc1,B gb2 0] [BX gb2 3 [I p1]] [lR ga0 p0.Kids gc1] fun (_:Unit)=>([.bool r.1],[BX gb2 3 [I r.2]],[]):=by
 induction n with
 | zero=>intro p0 p1 ga0 gc1 gb2 r h; simp [Xu] at h
 | succ n ih=>
 intro p0 p1 ga0 gc1 gb2 r h
 rw [Xu] at h
 refine En func42 rfl ntmps42 fun _ fr w c=>?_
 refine T0 (Ebx (tC p0 ga0 gc1) c fun b1 _ _ c=>?_)
 refine Fp [] 1 c fun _ c=>E0 (T0 (Fp [(3,0)] 6 c fun _ c=>Esb 0 0 (I (w64 (p1 - 1))) c fun _ c=>?_))
 refine E0 (S0 (P0 [] c fun _ c=>Bd h fun rl1 hit1 h=>Lp (fun s1  (_:Unit)=>([(1,B gb2 0),(2,B b1 0),(5,I s1.1)],fun Γ=>Γ.set 0 (BX gb2 3 [I s1.2]),[])) (fun  (_:Unit)=>([(1,B gb2 0)],fun Γ=>Γ.set 0 (BX gb2 3 [I rl1]),[])) hit1 c () (c.rk [0,1] [0]) (fun s1 q1 _ _ _ c h hr1=>?_) fun _ _ _ c=>?_))
 refine S0 (S0 (Ry [(2,1),(8,0)] mix c fun _ _ c=>I0 c h (fun h=>?_) fun h=>?_))
 refine K0 (S0 (wp_block (T1 (Fp [(1,1)] 3 c fun _ c=>Bd h fun x1 hx1 h=>Eem c (.f 0) hx1 fun _ u1 _ c=>?_))))
 obtain ⟨a1,c1,rfl,c⟩:=c.o_Term 1
 refine Fp [] 1 c fun _ c=>Bd h fun x2 hx2 h=>Ca [0] c (ih hx2) ⟨.f 2,tt⟩ call42 fun _ _ _ c=>?_
 refine E1 (bk (tn (P1 [] c fun _ c=>Nx h () (c.rk [1,0] [0]))))
 refine wp_exit (te (te (be ?_)))
 obtain rfl:=hr1 _ (sk h)
 exact tn ⟨(),c.rk [0,1] [0]⟩
 refine P0 [(2,0)] c fun _ c=>?_
 cases h
 exact wp_ret (Rt c () [0] [])
theorem Zt {p0 p1 p2 r} (h:Zg p0 p1 p2 = some r):C0 21 [I p0,I p1,I p2] [] (.bool r):=by
 unfold Zg at h
 refine En func21 rfl ntmps21 fun _ fr w c=>?_
 refine P0 [] c fun _ c=>S0 (Ry [] mix c fun _ _ c=>?_)
 exact rE
theorem ZeN {p0 p1 r} (h:Xr p0 p1 = some r):C0 73 [I p0,I p1] [] (.bool r):=by
 unfold Xr at h
 refine En func73 rfl ntmps73 fun _ fr w c=>?_
 refine P0 [] c fun _ c=>Bd h fun x1 hx1 h=>Bd h fun x2 hx2 h=>Bd h fun x3 hx3 h=>S0 (rZ [(1,.eq (.bool x1)),(5,.eq (I x2)),(7,.eq (.bool x3))] [] mix c ⟨Ncl c (kN (Zt hx1)) tt call21,Nshl c (gT hx2),Ncl c (fun hg=>Zt (iteT (gcT hg) hx3)) tt call21,tt⟩ fun _ _ c=>?_)
 exact rE
theorem Zey {p0 r} (h:Zam n p0 = some r):C0 74 [Str.val p0] [] (.bool r):=by
 unfold Zam at h
 refine En func74 rfl ntmps74 fun _ fr w c=>?_
 refine P0 [] c fun _ c=>S0 (P0 [] c fun _ c=>Bd h fun rl1 hit1 h=>?_)
 have hk1:=h
 refine LpR (fun s1  (_:Unit)=>([(0,Str.val p0),(3,I s1)],id,[])) (fun s  (_:Unit)=>([(0,Str.val p0)],id,[])) hit1 c () (c.rk [] []) (fun s1 q1 _ _ _ c h hr1=>?_) fun s1r _ _ _ hrl c=>?_
 refine S0 (P0 [] c fun _ c=>I0 c h (fun h=>?_) fun h=>?_)
 refine K0 (S0 (wp_block (T0 (Fp [] 2 c fun _ c=>Bd h fun x1 hx1 h=>Eix (kd:=.i64) c hx1 fun _ c=>?_))))
 refine Fp [] 1 c fun _ c=>Bd h fun x2 hx2 h=>Cb c (Zt hx2) tt call21 fun _ _ _ c=>?_
 refine Fp [] 1 c fun _ c=>E0 (Bd h fun x3 hx3 h=>Bd h fun x4 hx4 h=>S0 (rZ [(8,.eq (.int .u8 x3)),(10,.eq (.bool x4))] [] mix c ⟨Nix c (fun hg=>(iteT (gcT (g':=2) (gU 5 hg)) (iteF (gcF (g':=5) hg) hx3))),Ncl c (fun hg=>Zt ((iteT (gcT (g':=2) (gU 5 hg)) (iteF (gcF (g':=5) hg) hx4)))) tt call21,tt⟩ fun _ _ c=>I0 c h (fun h=>?_) fun h=>?_))
 refine P0 [] c fun _ c=>?_
 obtain rfl:=hr1 _ (sk h)
 obtain rfl:=sj hk1
 exact wp_ret (br (tr (tr (br (tr (Rt c () [] []))))))
 refine K1 (bk (tn (P1 [] c fun _ c=>Nx h () (c.rk [] []))))
 refine wp_exit (te (te (be ?_)))
 obtain rfl:=hr1 _ (sk h)
 exact tn ⟨_,(),rfl,c.rk [] []⟩
 subst hrl
 refine T0 (Fp [] 2 c fun _ c=>Bd h fun x5 hx5 h=>Cb c (Zt hx5) tt call21 fun _ _ _ c=>?_)
 exact Fp [] 1 c fun _ c=>E0 rE
theorem Zee {n:Nat}:∀ {p0 ga0 gc1 r} (h:Yw n p0 = some r),C0 43 [tV p0 ga0 gc1] [lR ga0 p0.Kids gc1] (.bool r):=by
 induction n with
 | zero=>intro p0 ga0 gc1 r h; simp [Yw] at h
 | succ n ih=>
 intro p0 ga0 gc1 r h
 rw [Yw] at h
 refine En func43 rfl ntmps43 fun _ fr w c=>?_
 refine T0 (Ebx (tC p0 ga0 gc1) c fun b1 _ _ c=>?_)
 refine Fp [] 1 c fun _ c=>E0 (P0 [(1,0)] c fun _ c=>S0 (Bd h fun x1 hx1 h=>S0 (rZ [(2,.eq (.bool x1))] [(1,0),(6,0),(10,0),(16,0),(20,0),(25,0)] mix c ⟨Ncl c (kN (Zt hx1)) tt call21,tt⟩ fun _ _ c=>I0 c h (fun h=>?_) fun h=>?_)))
 exact P0 [] c fun _ c=>rE
 refine K0 (S0 (P0 [(1,0)] c fun _ c=>Bd h fun rl1 hit1 h=>?_))
 have hk1:=h
 refine LpR (fun s1  (_:Unit)=>([(1,B b1 0),(3,I (len p0.Kids)),(41,L ga0 p0.Kids gc1),(42,I (len p0.Kids)),(43,I s1)],id,[])) (fun s  (_:Unit)=>([(1,B b1 0),(3,I (len p0.Kids))],id,[])) hit1 c () (c.rk [0] [0]) (fun s1 q1 _ _ _ c h hr1=>?_) fun s1r _ _ _ hrl c=>?_
 refine P0 [] c fun _ c=>S0 (I0 c h (fun h=>?_) fun h=>?_)
 refine K0 (S0 (wp_block (T0 (Bd h fun x2 hx2 h=>Eem c (.f 0) hx2 fun _ u1 _ c=>?_))))
 obtain ⟨a1,c1,rfl,c⟩:=c.o_Term 1
 refine Eal tZ c fun b2 _ _ c=>?_
 refine Ess 1 (tC x2 a1 c1) c fun _ c=>?_
 refine E0 (T0 (Fp [(0,1)] 1 c fun _ c=>Bd h fun x3 hx3 h=>Cb c (ih hx3) ⟨.f 2,tt⟩ call43 fun _ _ _ c=>?_))
 refine Fp [] 1 c fun _ c=>E0 (I0 c h (fun h=>?_) fun h=>?_)
 refine P0 [] c fun _ c=>?_
 obtain rfl:=hr1 _ (sk h)
 obtain rfl:=sj hk1
 exact wp_ret (br (tr (tr (br (tr (Rt c () [] []))))))
 refine K1 (bk (tn (P1 [] c fun _ c=>Nx h () (c.rk [0] [0]))))
 refine wp_exit (te (te (be ?_)))
 obtain rfl:=hr1 _ (sk h)
 exact tn ⟨_,(),rfl,c.rk [0] [0]⟩
 subst hrl
 refine T0 (Elt 3 ([0,0,0]:List Int) c fun a2 c2 _ _ c=>?_)
 refine Fp [] 1 c fun _ c=>E0 (S0 (P0 [] c fun _ c=>Bd h fun rl2 hit2 h=>Lp (fun s2  (_:Unit)=>([(1,B b1 0),(3,I (len p0.Kids)),(6,L a2 ([0,0,0]:List Int) c2),(7,I s2.1)],fun Γ=>Γ.set 1 (sl3 (L a2 ([0,0,0]:List Int) c2) s2.2),[])) (fun  (_:Unit)=>([(1,B b1 0),(3,I (len p0.Kids)),(6,L a2 ([0,0,0]:List Int) c2)],fun Γ=>Γ.set 1 (sl3 (L a2 ([0,0,0]:List Int) c2) rl2),[])) hit2 c () (c.rk [0,1] [0]) (fun s2 q2 _ _ _ c h hr2=>?_) fun _ _ _ c=>?_))
 refine S0 (S0 (Ry [] mix c fun _ _ c=>I0 c h (fun h=>?_) fun h=>?_))
 refine K0 (S0 (wp_block (T1 (Fp [(3,0)] 5 c fun _ c=>Bd h fun x4 hx4 h=>Eef c (.f 0) hx4 ZcO fun _ _ _ c=>?_))))
 refine Bd h fun x5 hx5 h=>Eset 1 c hx5 fun _ _ _ c=>?_
 refine E1 (bk (tn (P1 [] c fun _ c=>Nx h () (c.rk [0,1] [0]))))
 refine wp_exit (te (te (be ?_)))
 obtain rfl:=hr2 _ (sk h)
 exact tn ⟨(),c.rk [0,1] [0]⟩
 refine S0 (wp_block (P0 [(1,0)] c fun _ c=>I0 c h (fun h=>?_) fun h=>?_))
 refine Bd h fun x6 hx6 h=>S0 (rZ [(7,.eq (.bool x6))] [(4,0),(6,0)] mix c ⟨Ncl c (fun hg=>ZeN (iteT (gcT hg) hx6)) tt call73,tt⟩ fun _ _ c=>?_)
 exact rE
 refine P0 [(1,0)] c fun _ c=>I0 c h (fun h=>?_) fun h=>?_
 refine Bd h fun x7 hx7 h=>S0 (rZ [(5,.eq (.bool x7))] [(4,0)] mix c ⟨Ncl c (fun hg=>Zey (iteT (gcT hg) hx7)) tt call74,tt⟩ fun _ _ c=>?_)
 exact rE
 refine T0 (Fp [(1,0)] 2 c fun _ c=>Bd h fun x8 hx8 h=>Cb c (Zt hx8) tt call21 fun _ _ _ c=>?_)
 refine Fp [] 1 c fun _ c=>E0 (I0 c h (fun h=>?_) fun h=>?_)
 refine Bd h fun x9 hx9 h=>S0 (rZ [(4,Pd.el (x9:Int)),(5,.eq (I x9))] [(7,0)] mix c ⟨Nid c (.g 1) (gT hx9),Nld c 4 (q:=x9) (atN 4),tt⟩ fun _ _ c=>?_)
 exact rE
 refine T0 (Fp [(1,0)] 2 c fun _ c=>Bd h fun x10 hx10 h=>Cb c (Zt hx10) tt call21 fun _ _ _ c=>?_)
 refine Fp [] 1 c fun _ c=>E0 (I0 c h (fun h=>?_) fun h=>?_)
 refine Bd h fun x11 hx11 h=>Bd h fun x12 hx12 h=>S0 (rZ [(4,Pd.el (x11:Int)),(5,.eq (I x11)),(12,Pd.el (x12:Int)),(13,.eq (I x12))] [(7,0),(15,0)] mix c ⟨Nid c (.g 1) (gT hx11),Nld c 4 (q:=x11) (atN 4),Nid c (.g 1) (gT hx12),Nld c 12 (q:=x12) (atN 12),tt⟩ fun _ _ c=>?_)
 exact rE
 refine T0 (Fp [(1,0)] 2 c fun _ c=>Bd h fun x13 hx13 h=>Cb c (Zt hx13) tt call21 fun _ _ _ c=>?_)
 refine Fp [] 1 c fun _ c=>E0 (I0 c h (fun h=>?_) fun h=>?_)
 refine Bd h fun x14 hx14 h=>Bd h fun x15 hx15 h=>S0 (rZ [(4,Pd.el (x14:Int)),(5,.eq (I x14)),(7,Pd.el (x15:Int)),(8,.eq (I x15))] [(13,0)] mix c ⟨Nid c (.g 1) (gT hx14),Nld c 4 (q:=x14) (atN 4),Nid c (.g 1) (gT hx15),Nld c 7 (q:=x15) (atN 7),tt⟩ fun _ _ c=>?_)
 exact rE
 refine P0 [(1,0)] c fun _ c=>I0 c h (fun h=>?_) fun h=>?_
 refine Bd h fun x16 hx16 h=>Bd h fun x17 hx17 h=>Bd h fun x18 hx18 h=>S0 (rZ [(4,Pd.el (x16:Int)),(5,.eq (I x16)),(10,Pd.el (x17:Int)),(11,.eq (I x17)),(18,Pd.el (x18:Int)),(19,.eq (I x18))] [(13,0),(21,0)] mix c ⟨Nid c (.g 1) (gT hx16),Nld c 4 (q:=x16) (atN 4),Nid c (.g 1) (gT hx17),Nld c 10 (q:=x17) (atN 10),Nid c (.g 1) (gT hx18),Nld c 18 (q:=x18) (atN 18),tt⟩ fun _ _ c=>?_)
 exact rE
 refine P0 [(1,0)] c fun _ c=>I0 c h (fun h=>?_) fun h=>?_
 refine Bd h fun x19 hx19 h=>Bd h fun x20 hx20 h=>S0 (rZ [(4,Pd.el (x19:Int)),(5,.eq (I x19)),(7,Pd.el (x20:Int)),(8,.eq (I x20))] [(11,0)] mix c ⟨Nid c (.g 1) (gT hx19),Nld c 4 (q:=x19) (atN 4),Nid c (.g 1) (gT hx20),Nld c 7 (q:=x20) (atN 7),tt⟩ fun _ _ c=>?_)
 exact rE
 refine P0 [(1,0)] c fun _ c=>I0 c h (fun h=>?_) fun h=>?_
 refine Bd h fun x21 hx21 h=>Bd h fun x22 hx22 h=>S0 (rZ [(5,.eq (.bool x21)),(14,Pd.el (x22:Int)),(15,.eq (I x22))] [(4,0),(9,0),(11,0)] mix c ⟨Ncl c (fun hg=>Zt (iteT (gcT hg) hx21)) tt call21,Nid c (.g 1) (gT hx22),Nld c 14 (q:=x22) (atN 14),tt⟩ fun _ _ c=>?_)
 exact rE
 refine K1 (bk (tn (Bd h fun x23 hx23 h=>Bd h fun x24 hx24 h=>S0 (rZ [(2,.eq (.bool x23)),(9,Pd.el (x24:Int)),(10,.eq (I x24))] [(1,0),(12,0)] mix c ⟨Ncl c (kN (Zt hx23)) tt call21,Nid c (.g 1) (gT hx24),Nld c 9 (q:=x24) (atN 9),tt⟩ fun _ _ c=>?_))))
 exact rE
theorem ZaU {n:Nat}:∀ {p0 p1 ga0 gc1 ga2 gc3 r} (h:YA n p0 p1 = some r),Con prog 44 [tV p0 ga0 gc1,L ga2 p1 gc3] [] [lR ga0 p0.Kids gc1,lR ga2 p1 gc3] fun (i:Oh)=>([L i.1 r.1 i.2,.bool r.2],[],[lR i.1 r.1 i.2]):=by
 induction n with
 | zero=>intro p0 p1 ga0 gc1 ga2 gc3 r h; simp [YA] at h
 | succ n ih=>
 intro p0 p1 ga0 gc1 ga2 gc3 r h
 rw [YA] at h
 refine En func44 rfl ntmps44 fun _ fr w c=>?_
 refine T0 (Ebx (tC p0 ga0 gc1) c fun b1 _ _ c=>?_)
 refine Fp [] 2 c fun _ c=>E0 (S0 (P0 [(1,0)] c fun _ c=>I0 c h (fun h=>?_) fun h=>?_))
 refine P0 [] c fun _ c=>Bd h fun rl1 hit1 h=>S0 (Lp (fun s1  (_:Unit)=>([(1,L ga2 p1 gc3),(2,B b1 0),(6,I s1)],id,[])) (fun  (_:Unit)=>([(1,L ga2 p1 gc3),(2,B b1 0),(6,I rl1)],id,[])) hit1 c () (c.rk [0] [0,1]) (fun s1 q1 _ _ _ c h hr1=>?_) fun _ _ _ c=>?_)
 refine S0 (Bd h fun x1 hx1 h=>S0 (rZ [(7,Pd.el (x1:D.Value)),(8,Pd.fl (Str.val x1.Name)),(9,.eq (Str.val x1.Name))] [(11,0)] mix c ⟨Nid c (.f 1) (gT hx1),Nfa c 7 (atN 7) ZhO,Nlf c 8 (atN 8),tt⟩ fun _ _ c=>I0 c h (fun h=>?_) fun h=>?_))
 refine K0 (wp_block (Tq (P1 [] c fun _ c=>bk (tn (Nx h () (c.rk [0] [0,1]))))))
 refine wp_exit (te (te (be ?_)))
 obtain rfl:=hr1 _ (sk h)
 exact tn ⟨(),c.rk [0] [0,1]⟩
 refine S0 (Bd h fun x2 hx2 h=>S0 (rZ [(7,Pd.el (x2:D.Value)),(8,Pd.fl (Str.val x2.Name)),(9,.eq (Str.val x2.Name))] [(11,0)] mix c ⟨Nid c (.f 1) (gT hx2),Nfa c 7 (atN 7) ZhO,Nlf c 8 (atN 8),tt⟩ fun _ _ c=>I0 c h (fun h=>?_) fun h=>?_))
 refine Bd h fun x3 hx3 h=>S0 (rZ [(3,Pd.el (x3:D.Value)),(4,Pd.fl (I x3.W)),(5,.eq (I x3.W))] [(7,0)] mix c ⟨Nid c (.f 1) (kN hx3),Nfa c 3 (atN 3) Zis,Nlf c 4 (atN 4),tt⟩ fun _ _ c=>?_)
 cases h
 exact wp_ret (tr (tr (Rg c (ga2,gc3) [] [1] (.tmp (.tmp .nil)))))
 refine K0 (T0 (Elt 72 ([]:List D.Value) c fun a1 c1 _ _ c=>?_))
 refine Fp [] 2 c fun _ c=>Bd h fun x4 hx4 h=>Esl 72 c (.f 1) hx4 fun u1 _ c=>?_
 obtain ⟨a2,c2,rfl⟩:=c.sl 2
 refine Bd h fun x5 hx5 h=>Eap 1 c (.f 2) hx5 fun a3 c3 _ _ c=>?_
 refine Fp [] 1 c fun _ c=>E0 (T0 (Fp [(2,0),(4,0)] 6 c fun _ c=>Elt 72 ([(D.Value.mk p0.Name p0.W 0)]:List D.Value) c fun a4 c4 _ _ c=>?_))
 refine Bd h fun x6 hx6 h=>Eap 1 c (.g 2) hx6 fun a5 c5 _ _ c=>?_
 refine Fp [] 1 c fun _ c=>E0 (T0 (Fp [] 3 c fun _ c=>?_))
 replace c:=c.nf
 refine Bd h fun x7 hx7 h=>Esl 72 c (.f 1) hx7 fun u2 _ c=>?_
 obtain ⟨a6,c6,rfl⟩:=c.sl 3
 refine Bd h fun x8 hx8 h=>Eap 1 c (.f 3) hx8 fun a7 c7 _ _ c=>?_
 refine Fp [] 2 c fun _ c=>E0 ?_
 replace c:=c.fz 1
 cases h
 exact wp_ret (tr (Rg c (a7,c7) [] [4] (.tmp (.tmp .nil))))
 refine K0 (S0 (P0 [(1,0)] c fun _ c=>Bd h fun rl2 hit2 h=>?_))
 have hk2:=h
 refine LpR (fun s2  (i:Oh)=>([(1,L i.1 s2.1 i.2),(73,L ga0 p0.Kids gc1),(74,I (len p0.Kids)),(75,I s2.2)],id,[lR i.1 s2.1 i.2])) (fun s  (i:Oh)=>([(1,L i.1 s i.2)],id,[lR i.1 s i.2])) hit2 c (ga2,gc3) (c.rk [0] [0,1,1]) (fun s2 q2 i1 _ _ c h hr2=>?_) fun s2r k1 _ _ hrl c=>?_
 refine P0 [] c fun _ c=>S0 (I0 c h (fun h=>?_) fun h=>?_)
 refine K0 (S0 (wp_block (T0 (Bd h fun x9 hx9 h=>Eem c (.f 0) hx9 fun _ u3 _ c=>?_))))
 obtain ⟨a8,c8,rfl,c⟩:=c.o_Term 3
 refine Eal tZ c fun b2 _ _ c=>?_
 refine Ess 1 (tC x9 a8 c8) c fun _ c=>?_
 refine E0 (T0 (Fp [(0,1)] 2 c fun _ c=>Bd h fun x10 hx10 h=>Cg c (ih hx10) ⟨.f 4,.f 2,tt⟩ call44 fun i2 _ _ c=>?_))
 refine Fp [] 5 c fun _ c=>E0 (S0 (P0 [] c fun _ c=>I0 c h (fun h=>?_) fun h=>?_))
 refine P0 [] c fun _ c=>?_
 obtain rfl:=hr2 _ (sk h)
 obtain rfl:=sj hk2
 replace c:=c.nilf (α:=D.Value)
 exact wp_ret (tr (br (tr (tr (br (tr (Rg c (none,0) [] [6] (.tmp (.tmp .nil)))))))))
 refine K0 (Tq (P1 [] c fun _ c=>bk (tn (P1 [] c fun _ c=>Nx h (i2.1,i2.2) (c.rk [0] [0,1,5])))))
 refine wp_exit (te (te (be ?_)))
 obtain rfl:=hr2 _ (sk h)
 exact tn ⟨_,(i1.1,i1.2),rfl,c.rk [0] [0,1,2]⟩
 subst hrl
 refine P0 [] c fun _ c=>?_
 cases h
 exact wp_ret (Rg c (k1.1,k1.2) [] [2] (.tmp (.tmp .nil)))
theorem XG {p0 r} (h:YP n p0 = some r):C0 20 [tV p0 ga0 gc1] [lR ga0 p0.Kids gc1] (.bool r):=by
 unfold YP at h
 refine En func20 rfl ntmps20 fun _ fr w c=>?_
 refine T0 (Ebx (tC p0 ga0 gc1) c fun b1 _ _ c=>?_)
 refine Fp [] 1 c fun _ c=>E0 (T0 (Eal [I 0] c fun b2 _ _ c=>?_))
 refine Esb 1 0 (I 240) c fun _ c=>?_
 refine E0 (S0 (T0 (Fp [(0,0)] 1 c fun _ c=>Bd h fun x1 hx1 h=>Ca [1] c (ZeT hx1) ⟨.f 0,tt⟩ call42 fun _ _ _ c=>?_)))
 refine Fp [] 1 c fun _ c=>Fp [] 1 c fun _ c=>?_
 rcases ZdH (b:=(!x1.1)) h with ⟨hg1,h⟩ | ⟨hg1,h⟩
 replace c:=c.eqs (v:=.bool (!x1.1)) (u:=.bool true) 9 (by rw [hg1])
 refine Gs c fun _ c=>Gs c fun _ c=>Gs c fun _ c=>Epk (b:=true) (v:=.bool true) c fun _ c=>E0 (I0 c h (fun h=>P0 [] c fun _ c=>rE) fun h=>?_)
 refine K0 (T0 (Fp [(0,0)] 1 c fun _ c=>Bd h fun x2 hx2 h=>Cg c (ZaU hx2) ⟨.f 0,.nil,tt⟩ call44 fun i1 _ _ c=>?_))
 exact Fp [] 5 c fun _ c=>E0 (P0 [] c fun _ c=>rE)
 replace c:=c.eqs (v:=.bool (!x1.1)) (u:=.bool false) 9 (by rw [hg1])
 refine Gt c ?_
 dsimp only [List.set]
 refine Fp [(4,0)] 1 c fun _ c=>Gt c ?_
 dsimp only [List.set]
 refine Bd h fun x3 hx3 h=>Cb c (Zee hx3) ⟨.f 0,tt⟩ call43 fun _ _ _ c=>?_
 refine Gt c ?_
 dsimp only [List.set]
 refine Fp [] 1 c fun _ c=>Epk (b:=false) (v:=.bool (!x3)) c fun _ c=>E0 (I0 c h (fun h=>P0 [] c fun _ c=>rE) fun h=>?_)
 refine K0 (T0 (Fp [(0,0)] 1 c fun _ c=>?_))
 replace c:=c.nf
 refine Bd h fun x4 hx4 h=>Cg c (ZaU hx4) ⟨.f 0,.nil,tt⟩ call44 fun i2 _ _ c=>?_
 exact Fp [] 5 c fun _ c=>E0 (P0 [] c fun _ c=>rE)
theorem Zca {p0 r} (h:Yq n p0 = some r):Cl 36 [tV p0 ga0 gc1] [lR ga0 p0.Kids gc1] r:=by
 unfold Yq at h
 refine En func36 rfl ntmps36 fun _ fr w c=>?_
 refine T0 (Ebx (tC p0 ga0 gc1) c fun b1 _ _ c=>?_)
 refine Fp [] 1 c fun _ c=>E0 (S0 (T0 (Fp [(0,0)] 1 c fun _ c=>Bd h fun x1 hx1 h=>Cb c (XG hx1) ⟨.f 0,tt⟩ call20 fun _ _ _ c=>?_)))
 refine Fp [] 1 c fun _ c=>E0 (I0 c h (fun h=>?_) fun h=>?_)
 refine P0 [] c fun _ c=>?_
 cases h
 replace c:=c.nilf (α:=D.Value)
 exact wp_ret (tr (Rt c (none,0) [] [1]))
 refine K0 (T0 (Fp [(0,0)] 1 c fun _ c=>Bd h fun x2 hx2 h=>Cg c (ZaU hx2) ⟨.f 0,.nil,tt⟩ call44 fun i1 _ _ c=>?_))
 refine Fp [] 5 c fun _ c=>E0 (P0 [] c fun _ c=>?_)
 cases h
 exact wp_ret (Rt c (i1.1,i1.2) [] [1])
theorem ZbV {p0 r} (h:XR n p0 = some r):C0 45 [L ga0 p0 gc1] [lR ga0 p0 gc1] (I r):=by
 unfold XR at h
 refine En func45 rfl ntmps45 fun _ fr w c=>?_
 refine P0 [] c fun _ c=>P0 [] c fun _ c=>S0 (P0 [] c fun _ c=>Bd h fun rl1 hit1 h=>Lp (fun s1  (_:Unit)=>([(3,I s1.1),(6,L ga0 p0 gc1),(7,I (len p0)),(8,I s1.2)],id,[])) (fun  (_:Unit)=>([(3,I rl1)],id,[])) hit1 c () (c.rk [] [0]) (fun s1 q1 _ _ _ c h hr1=>?_) fun _ _ _ c=>?_)
 refine P0 [] c fun _ c=>S0 (I0 c h (fun h=>?_) fun h=>?_)
 refine K0 (S0 (wp_block (T0 (Bd h fun x1 hx1 h=>Eel c (.f 0) hx1 fun _ _ c=>?_))))
 refine Eal [Str.val ⟨[]⟩,I 0,I 0] c fun b1 _ _ c=>?_
 refine Ess 0 (vC x1) c fun _ c=>?_
 refine E0 (Tq (P1 [(2,0)] c fun _ c=>bk (tn (P1 [] c fun _ c=>Nx h () (c.rk [] [0])))))
 refine wp_exit (te (te (be ?_)))
 obtain rfl:=hr1 _ (sk h)
 exact tn ⟨(),c.rk [] [0]⟩
 exact P0 [] c fun _ c=>rE
theorem ZeQ {p0 r} (h:ZaI p0 = some r):Con prog 46 [.agg #[I p0.Inputs,L ga0 p0.Gates gc1]] [] [lR ga0 p0.Gates gc1] fun (i:Nat × Oh)=>([B i.1 0],[BX i.1 84 [I r.c.Inputs,L i.2.1 r.c.Gates i.q2,.bool r.full],sl88 (L i.2.1 r.c.Gates i.q2) r.c.Gates],[]):=by
 unfold ZaI at h
 refine En func46 rfl ntmps46 fun _ fr w c=>?_
 refine T0 (Ebx [I p0.Inputs,L ga0 p0.Gates gc1] c fun b1 _ _ c=>?_)
 refine Fp [] 1 c fun _ c=>E0 (Bd h fun x1 hx1 h=>S0 (ZI mix (rM 6 [(2,Pd.l0),(5,Pd.nw c.wd 5 (fun i:Oh=>L i.1 x1 i.2) (fun i=>SL 88 (L i.1 x1 i.2) x1))] [(1,0),(4,0)] c (fun ow=>⟨Zd ow (Nl0 88 c),Nap0 c 2 (atM 2 (p:=.l0)) (.f 0) (kN hx1),tt⟩) fun ow _ _ hE hc cq=>?_)))
 obtain ⟨i1,hi1⟩:=hE.nw 5 8
 replace c:=Cx.newt c hc cq [(5,8,_,_)] ⟨hi1,tt⟩
 refine Fp [] 2 c fun _ c=>Ebx [I p0.Inputs,L i1.1 x1 i1.2,.bool false] c fun b2 _ _ c=>?_
 refine Fp [] 1 c fun _ c=>E0 ?_
 cases h
 exact wp_ret (Rt c (b2,i1.1,i1.2) [2,1] [])
theorem ZbU {p0 p1 r} (h:Xy n p0 p1 = some r):Con prog 75 [I p0,I p1] [] [] fun (i:Oh)=>([L i.1 r i.2],[sl3 (L i.1 r i.2) r],[]):=by
 unfold Xy at h
 refine En func75 rfl ntmps75 fun _ fr w c=>?_
 refine P0 [] c fun _ c=>T0 (Elt 3 ([]:List Int) c fun a1 c1 _ _ c=>?_)
 refine Fp [] 1 c fun _ c=>E0 (S0 (P0 [] c fun _ c=>Bd h fun rl1 hit1 h=>Lp (fun s1  (i:Oh)=>([(0,I p0),(1,I p1),(5,L i.1 s1.2 i.2),(6,I s1.1)],fun Γ=>Γ.set 0 (sl3 (L i.1 s1.2 i.2) s1.2),[])) (fun  (i:Oh)=>([(5,L i.1 rl1 i.2)],fun Γ=>Γ.set 0 (sl3 (L i.1 rl1 i.2) rl1),[])) hit1 c (a1,c1) (c.rk [0] []) (fun s1 q1 i1 _ _ c h hr1=>?_) fun k1 _ _ c=>?_))
 refine S0 (P0 [] c fun _ c=>I0 c h (fun h=>?_) fun h=>?_)
 refine K0 (S0 (wp_block (T0 (Fp [] 2 c fun _ c=>Bd h fun x1 hx1 h=>Eshr c hx1 fun _ c=>?_))))
 refine Fp [] 2 c fun _ c=>E0 (I0 c h (fun h=>?_) fun h=>?_)
 refine T1 (Fp [] 1 c fun _ c=>Elt 3 ([1]:List Int) c fun a2 c2 _ _ c=>?_)
 refine Bd h fun x2 hx2 h=>Eap 0 c (.g 1) hx2 fun a3 c3 _ _ c=>?_
 refine Fp [] 1 c fun _ c=>E1 (bk (tn (P1 [] c fun _ c=>Nx h (a3,c3) (c.rk [0] []))))
 refine T1 (Fp [] 1 c fun _ c=>Elt 3 ([(-1)]:List Int) c fun a4 c4 _ _ c=>?_)
 refine Bd h fun x3 hx3 h=>Eap 0 c (.g 1) hx3 fun a5 c5 _ _ c=>?_
 refine Fp [] 1 c fun _ c=>E1 (bk (tn (P1 [] c fun _ c=>Nx h (a5,c5) (c.rk [0] []))))
 refine wp_exit (te (te (be ?_)))
 obtain rfl:=hr1 _ (sk h)
 exact tn ⟨(i1.1,i1.2),c.rk [0] []⟩
 refine P0 [] c fun _ c=>?_
 obtain rfl:=sj h
 exact wp_ret (Rt c (k1.1,k1.2) [0] [])
theorem Zau {p0 r} (h:Xf n p0 = some r):Con prog 76 [L ga0 p0 gc1] [] [lR ga0 p0 gc1] fun (i:Oh)=>([L i.1 r i.2],[sl3 (L i.1 r i.2) r],[]):=by
 unfold Xf at h
 refine En func76 rfl ntmps76 fun _ fr w c=>?_
 refine P0 [] c fun _ c=>T0 (Elt 3 ([]:List Int) c fun a1 c1 _ _ c=>?_)
 refine Fp [] 1 c fun _ c=>E0 (S0 (P0 [] c fun _ c=>Bd h fun rl1 hit1 h=>Lp (fun s1  (i:Oh)=>([(3,L i.1 s1.2 i.2),(7,L ga0 p0 gc1),(8,I (len p0)),(9,I s1.1)],fun Γ=>Γ.set 0 (sl3 (L i.1 s1.2 i.2) s1.2),[])) (fun  (i:Oh)=>([(3,L i.1 rl1 i.2)],fun Γ=>Γ.set 0 (sl3 (L i.1 rl1 i.2) rl1),[])) hit1 c (a1,c1) (c.rk [0] [0]) (fun s1 q1 i1 _ _ c h hr1=>?_) fun k1 _ _ c=>?_))
 refine P0 [] c fun _ c=>S0 (I0 c h (fun h=>?_) fun h=>?_)
 refine K0 (S0 (wp_block (T0 (Bd h fun x1 hx1 h=>Eel c (.f 0) hx1 fun _ _ c=>?_))))
 refine Fp [] 1 c fun _ c=>E0 (T1 (Fp [] 3 c fun _ c=>Elt 3 ([(w64 (0 - x1))]:List Int) c fun a2 c2 _ _ c=>?_))
 refine Bd h fun x2 hx2 h=>Eap 0 c (.g 1) hx2 fun a3 c3 _ _ c=>?_
 refine Fp [] 1 c fun _ c=>E1 (bk (tn (P1 [] c fun _ c=>Nx h (a3,c3) (c.rk [0] [0]))))
 refine wp_exit (te (te (be ?_)))
 obtain rfl:=hr1 _ (sk h)
 exact tn ⟨(i1.1,i1.2),c.rk [0] [0]⟩
 refine P0 [] c fun _ c=>?_
 obtain rfl:=sj h
 exact wp_ret (Rt c (k1.1,k1.2) [0] [])
theorem ZG {p0 r} (h:Zo p0 = some r):C0 80 [I p0] [] (I r):=by
 unfold Zo at h
 refine En func80 rfl ntmps80 fun _ fr w c=>?_
 exact P0 [] c fun _ c=>S0 (P0 [] c fun _ c=>I0 c h (fun h=>P0 [] c fun _ c=>rE) fun h=>K0 (P0 [] c fun _ c=>rE))
theorem Zr {p0 p1 p2 gb0 gn3 r} (h:Zk n p0 p1 p2 = some r):Con prog 109 [B gb0 0,I p1,I p2] [BX gb0 84 [I p0.c.Inputs,.slice ga1 gn3 gc2,.bool p0.full],sl88 (.slice ga1 gn3 gc2) p0.c.Gates] [] fun (i:Oh)=>([I r.1],[BX gb0 84 [I r.2.c.Inputs,L i.1 r.2.c.Gates i.2,.bool r.2.full],sl88 (L i.1 r.2.c.Gates i.2) r.2.c.Gates],[]):=by
 unfold Zk at h
 refine En func109 rfl ntmps109 fun _ fr w c=>?_
 obtain ⟨rfl,c⟩:=c.relen 1
 refine P0 [] c fun _ c=>S0 (wp_block (S0 (Ry [] mix c fun _ _ c=>I0 c h (fun h=>?_) fun h=>?_)))
 refine P0 [] c fun _ c=>?_
 cases h
 exact wp_ret (br (tr (Rt c (ga1,gc2) [0,1] [])))
 refine P0 [] c fun _ c=>I0 c h (fun h=>?_) fun h=>?_
 refine P0 [] c fun _ c=>?_
 cases h
 exact wp_ret (br (tr (Rt c (ga1,gc2) [0,1] [])))
 refine S0 (Ry [] mix c fun _ _ c=>I0 c h (fun h=>?_) fun h=>?_)
 refine P0 [] c fun _ c=>?_
 cases h
 exact wp_ret (br (tr (Rt c (ga1,gc2) [0,1] [])))
 refine K1 (bk (tn (S0 (T0 (Fp [] 1 c fun _ c=>Bd h fun x1 hx1 h=>Cb c (ZG hx1) tt call80 fun _ _ _ c=>?_)))))
 refine Fp [] 1 c fun _ c=>Bd h fun x2 hx2 h=>Cb c (ZG hx2) tt call80 fun _ _ _ c=>?_
 refine Fp [] 1 c fun _ c=>E0 (Mp (decide (x1 > x2)) [(1,I p2),(2,I p1)] [(1,I p1),(2,I p2)] [(1,I (cond (decide (x1 > x2)) p2 p1)),(2,I (cond (decide (x1 > x2)) p1 p2))] [1,2,41,42] c fun _ c=>T0 (Fp [] 3 c fun _ c=>Eal [I 0,I 0] c fun b1 _ _ c=>?_))
 refine Ess 2 [I (cond (decide (x1 > x2)) p2 p1),I (cond (decide (x1 > x2)) p1 p2)] c fun _ c=>?_
 refine E0 (S0 (P0 [(4,0)] c fun _ c=>Bd h fun rl1 hit1 h=>?_))
 have hk1:=h
 refine LpR (fun s1  (_:Unit)=>([(0,B gb0 0),(7,B b1 0),(50,L ga1 p0.c.Gates gc2),(51,I (len p0.c.Gates)),(52,I s1)],id,[])) (fun s  (_:Unit)=>([(0,B gb0 0),(7,B b1 0)],id,[])) hit1 c () (c.rk [0,1,2] []) (fun s1 q1 _ _ _ c h hr1=>?_) fun s1r _ _ _ hrl c=>?_
 refine P0 [] c fun _ c=>S0 (I0 c h (fun h=>?_) fun h=>?_)
 refine K0 (S0 (wp_block (T0 (Fp [] 1 c fun _ c=>Bd h fun x3 hx3 h=>Eel c (.g 1) hx3 fun _ _ c=>?_))))
 refine Eal [I 0,I 0] c fun b2 _ _ c=>?_
 refine Fp [] 1 c fun _ c=>?_
 replace c:=c.nf
 refine Ess 3 [I x3.A,I x3.B] c fun _ c=>?_
 refine E0 (T0 (Fp [(0,1),(1,2)] 2 c fun _ c=>Ebin c (eqg88 _ _ _ _ _) (eq88 (D.Gate.mk (cond (decide (x1 > x2)) p2 p1) (cond (decide (x1 > x2)) p1 p2)) x3 _) fun _ c=>?_))
 refine E0 (I0 c h (fun h=>?_) fun h=>?_)
 refine P0 [(4,0)] c fun _ c=>?_
 obtain rfl:=hr1 _ (sk h)
 obtain rfl:=sj hk1
 exact wp_ret (br (tr (tr (br (tr (Rt c (ga1,gc2) [0,1] []))))))
 refine K1 (bk (tn (P1 [] c fun _ c=>Nx h () (c.rk [0,1,2] []))))
 refine wp_exit (te (te (be ?_)))
 obtain rfl:=hr1 _ (sk h)
 exact tn ⟨_,(),rfl,c.rk [0,1,2] []⟩
 subst hrl
 refine S0 (P0 [(4,0)] c fun _ c=>I0 c h (fun h=>?_) fun h=>?_)
 refine T0 (Fp [] 3 c fun _ c=>Esb 0 2 (.bool true) c fun _ c=>?_)
 refine E0 (P0 [] c fun _ c=>?_)
 cases h
 exact wp_ret (tr (Rt c (ga1,gc2) [0,1] []))
 refine K0 (S0 (ZI mix (Rh 1 ?_)))
 refine Rh 0 ?_
 refine rM 8 [(7,Pd.nw c.wd 7 (fun i:Oh=>L i.1 ([(D.Gate.mk (cond (decide (x1 > x2)) p2 p1) (cond (decide (x1 > x2)) p1 p2))]:List D.Gate) i.2) (fun i=>SL 88 (L i.1 ([(D.Gate.mk (cond (decide (x1 > x2)) p2 p1) (cond (decide (x1 > x2)) p1 p2))]:List D.Gate) i.2) ([(D.Gate.mk (cond (decide (x1 > x2)) p2 p1) (cond (decide (x1 > x2)) p1 p2))]:List D.Gate)))] [(5,0),(6,1)] c (fun ow=>⟨Nlt c ([(D.Gate.mk (cond (decide (x1 > x2)) p2 p1) (cond (decide (x1 > x2)) p1 p2))]:List D.Gate),tt⟩) fun ow _ _ hE hc cq=>?_
 obtain ⟨i1,hi1⟩:=hE.nw 7 86
 replace c:=Cx.newt c hc cq [(7,86,_,_)] ⟨hi1,tt⟩
 refine Bd h fun x4 hx4 h=>Eap 1 c (.g 3) hx4 fun a1 c1 _ _ c=>?_
 refine Fp [] 3 c fun _ c=>?_
 replace c:=c.nf
 refine Esb 0 1 (L a1 x4 c1) c fun _ c=>?_
 refine E0 (S0 (Ry [(4,0),(10,0)] mix c fun _ _ c=>?_))
 cases h
 exact wp_ret (Rt c (a1,c1) [0,1] [])
theorem Ye {p0 p1 p2 gb0 gn3 r} (h:Zq n p0 p1 p2 = some r):Con prog 110 [B gb0 0,I p1,I p2] [BX gb0 84 [I p0.c.Inputs,.slice ga1 gn3 gc2,.bool p0.full],sl88 (.slice ga1 gn3 gc2) p0.c.Gates] [] fun (i:Oh)=>([I r.1],[BX gb0 84 [I r.2.c.Inputs,L i.1 r.2.c.Gates i.2,.bool r.2.full],sl88 (L i.1 r.2.c.Gates i.2) r.2.c.Gates],[]):=by
 unfold Zq at h
 refine En func110 rfl ntmps110 fun _ fr w c=>?_
 obtain ⟨rfl,c⟩:=c.relen 1
 refine P0 [] c fun _ c=>T0 (Fp [] 5 c fun _ c=>Bd h fun x1 hx1 h=>Ca [0,1] c (Zr hx1) tt call109 fun i1 _ _ c=>?_)
 refine Fp [] 2 c fun _ c=>E0 ?_
 cases h
 exact wp_ret (Rt c (i1.1,i1.2) [0,1] [])
theorem ZV {p0 p1 p2 p3 gb0 gn3 r} (h:Zl n p0 p1 p2 p3 = some r):Con prog 77 [B gb0 0,I p1,I p2,I p3] [BX gb0 84 [I p0.c.Inputs,.slice ga1 gn3 gc2,.bool p0.full],sl88 (.slice ga1 gn3 gc2) p0.c.Gates] [] fun (i:Oh)=>([I r.1],[BX gb0 84 [I r.2.c.Inputs,L i.1 r.2.c.Gates i.2,.bool r.2.full],sl88 (L i.1 r.2.c.Gates i.2) r.2.c.Gates],[]):=by
 unfold Zl at h
 refine En func77 rfl ntmps77 fun _ fr w c=>?_
 obtain ⟨rfl,c⟩:=c.relen 1
 refine P0 [] c fun _ c=>T0 (Fp [] 3 c fun _ c=>Bd h fun x1 hx1 h=>Ca [0,1] c (Zr hx1) tt call109 fun i1 _ _ c=>?_)
 refine Fp [] 1 c fun _ c=>E0 (T0 (Fp [] 4 c fun _ c=>Bd h fun x2 hx2 h=>Ca [0,1] c (Zr hx2) tt call109 fun i2 _ _ c=>?_))
 refine Fp [] 1 c fun _ c=>E0 (T0 (Fp [] 3 c fun _ c=>Bd h fun x3 hx3 h=>Ca [0,1] c (Ye hx3) tt call110 fun i3 _ _ c=>?_))
 refine Fp [] 1 c fun _ c=>E0 ?_
 cases h
 exact wp_ret (Rt c (i3.1,i3.2) [0,1] [])
theorem YJ {p0 p1 r} (h:ZX n p0 p1 = some r):Con prog 78 [I p0,I p1] [] [] fun (i:Oh)=>([L i.1 r i.2],[sl3 (L i.1 r i.2) r],[]):=by
 unfold ZX at h
 refine En func78 rfl ntmps78 fun _ fr w c=>?_
 refine P0 [] c fun _ c=>T0 (Elt 3 ([]:List Int) c fun a1 c1 _ _ c=>?_)
 refine Fp [] 1 c fun _ c=>E0 (S0 (P0 [] c fun _ c=>Bd h fun rl1 hit1 h=>Lp (fun s1  (i:Oh)=>([(0,I p0),(1,I p1),(5,L i.1 s1.2 i.2),(6,I s1.1)],fun Γ=>Γ.set 0 (sl3 (L i.1 s1.2 i.2) s1.2),[])) (fun  (i:Oh)=>([(5,L i.1 rl1 i.2)],fun Γ=>Γ.set 0 (sl3 (L i.1 rl1 i.2) rl1),[])) hit1 c (a1,c1) (c.rk [0] []) (fun s1 q1 i1 _ _ c h hr1=>?_) fun k1 _ _ c=>?_))
 refine S0 (P0 [] c fun _ c=>I0 c h (fun h=>?_) fun h=>?_)
 refine K0 (S0 (wp_block (T1 (Fp [] 2 c fun _ c=>Elt 3 ([p1]:List Int) c fun a2 c2 _ _ c=>?_))))
 refine Bd h fun x1 hx1 h=>Eap 0 c (.g 1) hx1 fun a3 c3 _ _ c=>?_
 refine Fp [] 1 c fun _ c=>E1 (bk (tn (P1 [] c fun _ c=>Nx h (a3,c3) (c.rk [0] []))))
 refine wp_exit (te (te (be ?_)))
 obtain rfl:=hr1 _ (sk h)
 exact tn ⟨(i1.1,i1.2),c.rk [0] []⟩
 refine P0 [] c fun _ c=>?_
 obtain rfl:=sj h
 exact wp_ret (Rt c (k1.1,k1.2) [0] [])
theorem ZM {p0 p1 p2 gb0 gn3 r} (h:Zn n p0 p1 p2 = some r):Con prog 114 [B gb0 0,I p1,I p2] [BX gb0 84 [I p0.c.Inputs,.slice ga1 gn3 gc2,.bool p0.full],sl88 (.slice ga1 gn3 gc2) p0.c.Gates] [] fun (i:Oh)=>([I r.1],[BX gb0 84 [I r.2.c.Inputs,L i.1 r.2.c.Gates i.2,.bool r.2.full],sl88 (L i.1 r.2.c.Gates i.2) r.2.c.Gates],[]):=by
 unfold Zn at h
 refine En func114 rfl ntmps114 fun _ fr w c=>?_
 obtain ⟨rfl,c⟩:=c.relen 1
 refine P0 [] c fun _ c=>T0 (Fp [] 4 c fun _ c=>Bd h fun x1 hx1 h=>Ca [0,1] c (Zr hx1) tt call109 fun i1 _ _ c=>?_)
 refine Fp [] 1 c fun _ c=>E0 (T0 (Fp [] 4 c fun _ c=>Bd h fun x2 hx2 h=>Ca [0,1] c (Zr hx2) tt call109 fun i2 _ _ c=>?_))
 refine Fp [] 1 c fun _ c=>E0 (T0 (Fp [] 3 c fun _ c=>Bd h fun x3 hx3 h=>Ca [0,1] c (Ye hx3) tt call110 fun i3 _ _ c=>?_))
 refine Fp [] 1 c fun _ c=>E0 ?_
 cases h
 exact wp_ret (Rt c (i3.1,i3.2) [0,1] [])
theorem Y6 {p0 p1 p2 p3 gb0 gn3 r} (h:ZH n p0 p1 p2 p3 = some r):Con prog 111 [B gb0 0,L ga4 p1 gc5,L ga6 p2 gc7,I p3] [BX gb0 84 [I p0.c.Inputs,.slice ga1 gn3 gc2,.bool p0.full],sl88 (.slice ga1 gn3 gc2) p0.c.Gates] [lR ga4 p1 gc5,lR ga6 p2 gc7] fun (i:Ob Oh)=>([L i.1 r.1 i.2.1,I r.2.1],[sl3 (L i.1 r.1 i.2.1) r.1,BX gb0 84 [I r.2.2.c.Inputs,L i.p2 r.2.2.c.Gates i.q3,.bool r.2.2.full],sl88 (L i.p2 r.2.2.c.Gates i.q3) r.2.2.c.Gates],[]):=by
 unfold ZH at h
 refine En func111 rfl ntmps111 fun _ fr w c=>?_
 obtain ⟨rfl,c⟩:=c.relen 1
 refine P0 [] c fun _ c=>T0 (Elt 3 ([]:List Int) c fun a1 c1 _ _ c=>?_)
 refine Fp [] 1 c fun _ c=>E0 (S0 (P0 [] c fun _ c=>Bd h fun rl1 hit1 h=>Lp (fun s1  (i:Ob Oh)=>([(0,B gb0 0),(1,L ga4 p1 gc5),(2,L ga6 p2 gc7),(3,I s1.1),(10,L i.p2 s1.p2 i.q3),(17,I (len p1)),(18,I s1.2.1)],fun Γ=>((Γ.set 0 (BX gb0 84 [I s1.p3,L i.1 s1.q5 i.2.1,.bool s1.p4])).set 1 (sl88 (L i.1 s1.q5 i.2.1) s1.q5)).set 2 (sl3 (L i.p2 s1.p2 i.q3) s1.p2),[])) (fun  (i:Ob Oh)=>([(3,I rl1.1),(10,L i.p2 rl1.2.1 i.q3)],fun Γ=>((Γ.set 0 (BX gb0 84 [I rl1.p2,L i.1 rl1.q4 i.2.1,.bool rl1.p3])).set 1 (sl88 (L i.1 rl1.q4 i.2.1) rl1.q4)).set 2 (sl3 (L i.p2 rl1.2.1 i.q3) rl1.2.1),[])) hit1 c (ga1,gc2,a1,c1) (c.rk [0,1,2] [0,1]) (fun s1 q1 i1 _ _ c h hr1=>?_) fun k1 _ _ c=>?_))
 refine P0 [] c fun _ c=>S0 (I0 c h (fun h=>?_) fun h=>?_)
 refine K0 (S0 (wp_block (P0 [] c fun _ c=>Bd h fun x1 hx1 h=>Bd h fun x2 hx2 h=>S0 (ZI mix (rM 9 [(3,Pd.el (x1:Int)),(4,.eq (I x1)),(7,Pd.el (x2:Int)),(8,.eq (I x2))] [] c (fun ow=>⟨Zd ow (Nid c (.f 0) (kN hx1)),Zd ow (Nld c 3 (q:=x1) (atM 3 (p:=.el (x1:Int)))),Zd ow (Nid c (.f 1) (kN hx2)),Zd ow (Nld c 7 (q:=x2) (atM 7 (p:=.el (x2:Int)))),tt⟩) fun _ _ _ _ _ c=>Bd h fun x3 hx3 h=>Ca [0,1] c (ZM hx3) tt call114 fun i2 _ _ c=>?_)))))
 refine Fp [] 1 c fun _ c=>E0 (T0 (Fp [] 4 c fun _ c=>Bd h fun x4 hx4 h=>Ca [1,2] c (ZM hx4) tt call114 fun i3 _ _ c=>?_))
 refine Elt 3 ([x4.1]:List Int) c fun a2 c2 _ _ c=>?_
 refine Bd h fun x5 hx5 h=>Eap 0 c (.g 3) hx5 fun a3 c3 _ _ c=>?_
 refine Fp [] 1 c fun _ c=>E0 (Bd h fun x6 hx6 h=>Bd h fun x7 hx7 h=>S0 (ZI mix (rM 9 [(3,Pd.el (x6:Int)),(4,.eq (I x6)),(7,Pd.el (x7:Int)),(8,.eq (I x7))] [] c (fun ow=>⟨Zd ow (Nid c (.f 0) (kN hx6)),Zd ow (Nld c 3 (q:=x6) (atM 3 (p:=.el (x6:Int)))),Zd ow (Nid c (.f 1) (kN hx7)),Zd ow (Nld c 7 (q:=x7) (atM 7 (p:=.el (x7:Int)))),tt⟩) fun _ _ _ _ _ c=>?_)))
 replace c:=c.nf
 refine Bd h fun x8 hx8 h=>Ca [1,2] c (Zr hx8) tt call109 fun i4 _ _ c=>?_
 refine Fp [] 1 c fun _ c=>E0 (T0 (Fp [] 3 c fun _ c=>Bd h fun x9 hx9 h=>Ca [2,3] c (Zr hx9) tt call109 fun i5 _ _ c=>?_))
 refine Fp [] 1 c fun _ c=>E0 (T1 (Fp [] 3 c fun _ c=>Bd h fun x10 hx10 h=>Ca [2,3] c (Ye hx10) tt call110 fun i6 _ _ c=>?_))
 refine Fp [] 1 c fun _ c=>E1 (bk (tn (P1 [] c fun _ c=>Nx h (i6.1,i6.2,a3,c3) (c.rk [2,3,0] [0,1]))))
 refine wp_exit (te (te (be ?_)))
 obtain rfl:=hr1 _ (sk h)
 exact tn ⟨(i1.1,i1.2.1,i1.p2,i1.q3),c.rk [0,1,2] [0,1]⟩
 refine P0 [] c fun _ c=>?_
 cases h
 exact wp_ret (Rg c (k1.p2,k1.q3,k1.1,k1.2.1) [2,0,1] [] (.tmp (.tmp .nil)))
theorem ZbW {p0 p1 p2 gb0 gn3 r} (h:YU n p0 p1 p2 = some r):Con prog 112 [B gb0 0,L ga4 p1 gc5,L ga6 p2 gc7] [BX gb0 84 [I p0.c.Inputs,.slice ga1 gn3 gc2,.bool p0.full],sl88 (.slice ga1 gn3 gc2) p0.c.Gates] [lR ga4 p1 gc5,lR ga6 p2 gc7] fun (i:Ob Oh)=>([L i.1 r.1 i.2.1],[sl3 (L i.1 r.1 i.2.1) r.1,BX gb0 84 [I r.2.c.Inputs,L i.p2 r.2.c.Gates i.q3,.bool r.2.full],sl88 (L i.p2 r.2.c.Gates i.q3) r.2.c.Gates],[]):=by
 unfold YU at h
 refine En func112 rfl ntmps112 fun _ fr w c=>?_
 obtain ⟨rfl,c⟩:=c.relen 1
 refine P0 [] c fun _ c=>P0 [] c fun _ c=>T0 (Fp [] 1 c fun _ c=>Bd h fun x1 hx1 h=>Cb c (YJ hx1) tt call78 fun i1 _ _ c=>?_)
 refine Fp [] 1 c fun _ c=>E0 (S0 (P0 [] c fun _ c=>Bd h fun rl1 hit1 h=>Lp (fun s1  (i:Ob Oh)=>([(0,B gb0 0),(1,L ga4 p1 gc5),(2,L ga6 p2 gc7),(7,I (len p1)),(8,L i.p2 s1.2.1 i.q3),(9,I s1.1)],fun Γ=>((Γ.set 0 (BX gb0 84 [I s1.p2,L i.1 s1.q4 i.2.1,.bool s1.p3])).set 1 (sl88 (L i.1 s1.q4 i.2.1) s1.q4)).set 2 (sl3 (L i.p2 s1.2.1 i.q3) s1.2.1),[])) (fun  (i:Ob Oh)=>([(8,L i.p2 rl1.1 i.q3)],fun Γ=>((Γ.set 0 (BX gb0 84 [I rl1.2.1,L i.1 rl1.q3 i.2.1,.bool rl1.p2])).set 1 (sl88 (L i.1 rl1.q3 i.2.1) rl1.q3)).set 2 (sl3 (L i.p2 rl1.1 i.q3) rl1.1),[])) hit1 c (ga1,gc2,i1.1,i1.2) (c.rk [0,1,2] [0,1]) (fun s1 q1 i2 _ _ c h hr1=>?_) fun k1 _ _ c=>?_))
 refine S0 (P0 [] c fun _ c=>I0 c h (fun h=>?_) fun h=>?_)
 refine K0 (S0 (wp_block (T0 (Elt 3 ([]:List Int) c fun a1 c1 _ _ c=>?_))))
 refine Fp [] 1 c fun _ c=>E0 (S0 (P0 [] c fun _ c=>Bd h fun rl2 hit2 h=>Lp (fun s2  (i:Ob Oh)=>([(0,B gb0 0),(1,L ga4 p1 gc5),(2,L ga6 p2 gc7),(7,I (len p1)),(8,L i2.p2 s1.2.1 i2.q3),(9,I s1.1),(10,L i.p2 s2.2.1 i.q3),(11,I s2.1)],fun Γ=>((Γ.set 0 (BX gb0 84 [I s2.p2,L i.1 s2.q4 i.2.1,.bool s2.p3])).set 1 (sl88 (L i.1 s2.q4 i.2.1) s2.q4)).set 3 (sl3 (L i.p2 s2.2.1 i.q3) s2.2.1),[])) (fun  (i:Ob Oh)=>([(0,B gb0 0),(1,L ga4 p1 gc5),(2,L ga6 p2 gc7),(7,I (len p1)),(8,L i2.p2 s1.2.1 i2.q3),(9,I s1.1),(10,L i.p2 rl2.1 i.q3)],fun Γ=>((Γ.set 0 (BX gb0 84 [I rl2.2.1,L i.1 rl2.q3 i.2.1,.bool rl2.p2])).set 1 (sl88 (L i.1 rl2.q3 i.2.1) rl2.q3)).set 3 (sl3 (L i.p2 rl2.1 i.q3) rl2.1),[])) hit2 c (i2.1,i2.2.1,a1,c1) (c.rk (rg 4) [0,1]) (fun s2 q2 i3 _ _ c h hr2=>?_) fun k2 _ _ c=>?_))
 refine S0 (P0 [] c fun _ c=>I0 c h (fun h=>?_) fun h=>?_)
 refine K0 (S0 (wp_block (ZI mix ?_)))
 refine Rh 0 ?_
 refine Bd h fun x2 hx2 h=>Bd h fun x3 hx3 h=>rM 10 [(4,Pd.el (x2:Int)),(5,.eq (I x2)),(8,Pd.el (x3:Int)),(9,.eq (I x3))] [] c (fun ow=>⟨Zd ow (Nid c (.f 1) (kN hx2)),Zd ow (Nld c 4 (q:=x2) (atM 4 (p:=.el (x2:Int)))),Zd ow (Nid c (.f 0) (kN hx3)),Zd ow (Nld c 8 (q:=x3) (atM 8 (p:=.el (x3:Int)))),tt⟩) fun _ _ _ _ _ c=>?_
 refine Bd h fun x4 hx4 h=>Ca [0,1] c (Zr hx4) tt call109 fun i4 _ _ c=>?_
 refine Elt 3 ([x4.1]:List Int) c fun a2 c2 _ _ c=>?_
 refine Bd h fun x5 hx5 h=>Eap 1 c (.g 4) hx5 fun a3 c3 _ _ c=>?_
 refine Fp [] 1 c fun _ c=>E1 (bk (tn (P1 [] c fun _ c=>Nx h (i4.1,i4.2,a3,c3) (c.rk [2,3,0,1] [0,1]))))
 refine wp_exit (te (te (be ?_)))
 obtain rfl:=hr2 _ (sk h)
 exact tn ⟨(i3.1,i3.2.1,i3.p2,i3.q3),c.rk (rg 4) [0,1]⟩
 refine T0 (Fp [] 3 c fun _ c=>?_)
 replace c:=c.fz 2
 refine Bd h fun x6 hx6 h=>Esl 3 c (.f 2) hx6 fun u1 _ c=>?_
 obtain ⟨a4,c4,rfl⟩:=c.sl 3
 refine Fp [] 1 c fun _ c=>Bd h fun x7 hx7 h=>Ca [0,1] c (Y6 hx7) ⟨.f 3,.g 0,tt⟩ call111 fun i5 _ _ c=>?_
 refine Fp [] 5 c fun _ c=>E0 (T1 (Elt 3 ([]:List Int) c fun a5 c5 _ _ c=>?_))
 refine Fp [] 2 c fun _ c=>?_
 replace c:=c.nf
 refine Bd h fun x8 hx8 h=>Esl 3 c (.f 2) hx8 fun u2 _ c=>?_
 obtain ⟨a6,c6,rfl⟩:=c.sl 4
 refine Bd h fun x9 hx9 h=>Eap 4 c (.f 4) hx9 fun a7 c7 _ _ c=>?_
 refine Fp [] 1 c fun _ c=>Bd h fun x10 hx10 h=>Eap 4 c (.g 1) hx10 fun a8 c8 _ _ c=>?_
 refine Fp [] 1 c fun _ c=>E1 (bk (tn (P1 [] c fun _ c=>Nx h (i5.p2,i5.q3,a8,c8) (c.rk [2,3,4] [0,1]))))
 refine wp_exit (te (te (be ?_)))
 obtain rfl:=hr1 _ (sk h)
 exact tn ⟨(i2.1,i2.2.1,i2.p2,i2.q3),c.rk [0,1,2] [0,1]⟩
 refine P0 [] c fun _ c=>?_
 cases h
 exact wp_ret (Rt c (k1.p2,k1.q3,k1.1,k1.2.1) [2,0,1] [])
theorem Zaw {p0 p1 p2 gb0 gn3 r} (h:Y7 n p0 p1 p2 = some r):Con prog 113 [B gb0 0,L ga4 p1 gc5,L ga6 p2 gc7] [BX gb0 84 [I p0.c.Inputs,.slice ga1 gn3 gc2,.bool p0.full],sl88 (.slice ga1 gn3 gc2) p0.c.Gates] [lR ga4 p1 gc5,lR ga6 p2 gc7] fun (i:Ob (Ob Oh))=>([L i.1 r.1 i.2.1,L i.p2 r.2.1 i.p3],[sl3 (L i.1 r.1 i.2.1) r.1,sl3 (L i.p2 r.2.1 i.p3) r.2.1,BX gb0 84 [I r.2.2.c.Inputs,L i.p4 r.2.2.c.Gates i.q5,.bool r.2.2.full],sl88 (L i.p4 r.2.2.c.Gates i.q5) r.2.2.c.Gates],[]):=by
 unfold Y7 at h
 refine En func113 rfl ntmps113 fun _ fr w c=>?_
 obtain ⟨rfl,c⟩:=c.relen 1
 refine P0 [] c fun _ c=>P0 [] c fun _ c=>T0 (Fp [] 1 c fun _ c=>Bd h fun x1 hx1 h=>Cb c (YJ hx1) tt call78 fun i1 _ _ c=>?_)
 refine Fp [] 1 c fun _ c=>E0 (T0 (Fp [] 1 c fun _ c=>Bd h fun x2 hx2 h=>Cb c (YJ hx2) tt call78 fun i2 _ _ c=>?_))
 refine Fp [] 1 c fun _ c=>E0 (T0 (Fp [] 1 c fun _ c=>Bd h fun x3 hx3 h=>Cb c (Zau hx3) ⟨.f 1,tt⟩ call76 fun i3 _ _ c=>?_))
 refine Elt 3 ([1]:List Int) c fun a1 c1 _ _ c=>?_
 replace c:=c.nf
 refine Bd h fun x4 hx4 h=>Eap 4 c (.g 5) hx4 fun a2 c2 _ _ c=>?_
 refine Fp [] 1 c fun _ c=>E0 (S0 (P0 [] c fun _ c=>Bd h fun rl1 hit1 h=>Lp (fun s1  (i:Ob Oh)=>([(0,B gb0 0),(1,L ga4 p1 gc5),(8,I (len p1)),(9,L i1.1 x1 i1.2),(10,L i.p2 s1.p2 i.q3),(11,L a2 x4 c2),(12,I s1.1)],fun Γ=>(((Γ.set 0 (BX gb0 84 [I s1.p3,L i.1 s1.q5 i.2.1,.bool s1.p4])).set 1 (sl88 (L i.1 s1.q5 i.2.1) s1.q5)).set 2 (sl3 (L i1.1 x1 i1.2) s1.2.1)).set 3 (sl3 (L i.p2 s1.p2 i.q3) s1.p2),[])) (fun  (i:Ob Oh)=>([(9,L i1.1 x1 i1.2),(10,L i.p2 rl1.2.1 i.q3)],fun Γ=>(((Γ.set 0 (BX gb0 84 [I rl1.p2,L i.1 rl1.q4 i.2.1,.bool rl1.p3])).set 1 (sl88 (L i.1 rl1.q4 i.2.1) rl1.q4)).set 2 (sl3 (L i1.1 x1 i1.2) rl1.1)).set 3 (sl3 (L i.p2 rl1.2.1 i.q3) rl1.2.1),[])) hit1 c (ga1,gc2,i2.1,i2.2) (c.rk (rg 6) [0,1]) (fun s1 q1 i4 _ _ c h hr1=>?_) fun k1 _ _ c=>?_))
 refine S0 (P0 [] c fun _ c=>I0 c h (fun h=>?_) fun h=>?_)
 refine K0 (S0 (wp_block (T0 (Fp [] 2 c fun _ c=>Bd h fun x5 hx5 h=>Eel c (.f 0) hx5 fun _ _ c=>?_))))
 refine Elt 3 ([x5]:List Int) c fun a3 c3 _ _ c=>?_
 refine Fp [] 1 c fun _ c=>Bd h fun x6 hx6 h=>Eap 6 c (.g 3) hx6 fun a4 c4 _ _ c=>?_
 refine Fp [] 1 c fun _ c=>E0 (T0 (Fp [] 3 c fun _ c=>?_))
 replace c:=c.nf
 refine Bd h fun x7 hx7 h=>Ca [0,1] c (Y6 hx7) ⟨.g 4,.g 2,tt⟩ call111 fun i5 _ _ c=>?_
 refine Fp [] 5 c fun _ c=>E0 (T0 (Fp [] 3 c fun _ c=>Bd h fun x8 hx8 h=>Eset 0 c hx8 fun _ _ _ c=>?_))
 refine E0 (T0 (Elt 3 ([]:List Int) c fun a5 c5 _ _ c=>?_))
 refine Fp [] 1 c fun _ c=>E0 (P0 [] c fun _ c=>Bd h fun rl2 hit2 h=>Tq (Lp (fun s2  (i:Ob Oh)=>([(0,B gb0 0),(1,L ga4 p1 gc5),(8,I (len p1)),(9,L i1.1 x1 i1.2),(10,L i.p2 s2.2.1 i.q3),(11,L a2 x4 c2),(12,I s1.1),(13,L a4 x6 c4),(14,L i5.1 x7.1 i5.2.1),(15,I x7.2.1),(16,I s2.1)],fun Γ=>((Γ.set 6 (BX gb0 84 [I s2.p2,L i.1 s2.q4 i.2.1,.bool s2.p3])).set 7 (sl88 (L i.1 s2.q4 i.2.1) s2.q4)).set 8 (sl3 (L i.p2 s2.2.1 i.q3) s2.2.1),[])) (fun  (i:Ob Oh)=>([(0,B gb0 0),(1,L ga4 p1 gc5),(8,I (len p1)),(9,L i1.1 x1 i1.2),(10,L i.p2 rl2.1 i.q3),(11,L a2 x4 c2),(12,I s1.1)],fun Γ=>((Γ.set 6 (BX gb0 84 [I rl2.2.1,L i.1 rl2.q3 i.2.1,.bool rl2.p2])).set 7 (sl88 (L i.1 rl2.q3 i.2.1) rl2.q3)).set 8 (sl3 (L i.p2 rl2.1 i.q3) rl2.1),[])) hit2 c (i5.p2,i5.q3,a5,c5) (c.rk (rg 9) [0,1]) (fun s2 q2 i6 _ _ c h hr2=>?_) fun k2 _ _ c=>?_))
 refine S0 (P0 [] c fun _ c=>I0 c h (fun h=>?_) fun h=>?_)
 refine K0 (S0 (wp_block (ZI mix ?_)))
 refine Rh 0 ?_
 refine Bd h fun x9 hx9 h=>Bd h fun x10 hx10 h=>rM 11 [(5,Pd.el (x9:Int)),(6,.eq (I x9)),(9,Pd.el (x10:Int)),(10,.eq (I x10))] [] c (fun ow=>⟨Zd ow (Nid c (.g 5) (kN hx9)),Zd ow (Nld c 5 (q:=x9) (atM 5 (p:=.el (x9:Int)))),Zd ow (Nid c (.g 4) (kN hx10)),Zd ow (Nld c 9 (q:=x10) (atM 9 (p:=.el (x10:Int)))),tt⟩) fun _ _ _ _ _ c=>?_
 replace c:=c.nf
 refine Bd h fun x11 hx11 h=>Ca [6,7] c (ZV hx11) tt call77 fun i7 _ _ c=>?_
 refine Elt 3 ([x11.1]:List Int) c fun a6 c6 _ _ c=>?_
 replace c:=c.nf
 refine Bd h fun x12 hx12 h=>Eap 6 c (.g 9) hx12 fun a7 c7 _ _ c=>?_
 refine Fp [] 1 c fun _ c=>E1 (bk (tn (P1 [] c fun _ c=>Nx h (i7.1,i7.2,a7,c7) (c.rk [0,1,2,3,4,5,7,8,6] [0,1]))))
 refine wp_exit (te (te (be ?_)))
 obtain rfl:=hr2 _ (sk h)
 exact tn ⟨(i6.1,i6.2.1,i6.p2,i6.q3),c.rk (rg 9) [0,1]⟩
 refine bk (tn (P1 [] c fun _ c=>Nx h (k2.1,k2.2.1,k2.p2,k2.q3) (c.rk [6,7,0,8,2,3] [0,1])))
 refine wp_exit (te (te (be ?_)))
 obtain rfl:=hr1 _ (sk h)
 exact tn ⟨(i4.1,i4.2.1,i4.p2,i4.q3),c.rk (rg 6) [0,1]⟩
 refine P0 [] c fun _ c=>?_
 cases h
 obtain ⟨he1,c⟩:=c.relen 2
 replace c:=c.eqs (v:=L i1.1 x1 i1.2) (u:=L i1.1 rl1.1 i1.2) 6 (by simp only [L,he1])
 exact wp_ret (Rg c (i1.1,i1.2,k1.p2,k1.q3,k1.1,k1.2.1) [2,3,0,1] [] (.tmp (.tmp .nil)))
theorem YF {p0 p1 p2 p3 gb0 gn3 r} (h:ZK n p0 p1 p2 p3 = some r):Con prog 115 [B gb0 0,I p1,L ga4 p2 gc5,L ga6 p3 gc7] [BX gb0 84 [I p0.c.Inputs,.slice ga1 gn3 gc2,.bool p0.full],sl88 (.slice ga1 gn3 gc2) p0.c.Gates] [lR ga4 p2 gc5,lR ga6 p3 gc7] fun (i:Ob Oh)=>([L i.1 r.1 i.2.1],[BX gb0 84 [I r.2.c.Inputs,L i.p2 r.2.c.Gates i.q3,.bool r.2.full],sl88 (L i.p2 r.2.c.Gates i.q3) r.2.c.Gates],[lR i.1 r.1 i.2.1]):=by
 unfold ZK at h
 refine En func115 rfl ntmps115 fun _ fr w c=>?_
 obtain ⟨rfl,c⟩:=c.relen 1
 refine P0 [] c fun _ c=>P0 [] c fun _ c=>P0 [] c fun _ c=>S0 (P0 [] c fun _ c=>I0 c h (fun h=>?_) fun h=>?_)
 refine T1 (Fp [] 3 c fun _ c=>Bd h fun x1 hx1 h=>Eel c (.f 0) hx1 fun _ _ c=>?_)
 refine Fp [] 1 c fun _ c=>E0 (P0 [] c fun _ c=>P0 [] c fun _ c=>P0 [] c fun _ c=>S0 (P0 [] c fun _ c=>Bd h fun rl1 hit1 h=>Lp (fun s1  (i:Ob Oh)=>([(0,B gb0 0),(1,I p1),(3,L ga6 p3 gc7),(9,I (len p2)),(10,I x1),(11,I s1.1),(12,.bool s1.2.1),(13,L i.1 s1.p2 i.2.1),(14,I s1.p3)],fun Γ=>(Γ.set 0 (BX gb0 84 [I s1.p4,L i.p2 s1.q6 i.q3,.bool s1.p5])).set 1 (sl88 (L i.p2 s1.q6 i.q3) s1.q6),[lR i.1 s1.p2 i.2.1])) (fun  (i:Ob Oh)=>([(0,B gb0 0),(9,I (len p2)),(10,I x1),(11,I rl1.1),(12,.bool rl1.2.1),(13,L i.1 rl1.p2 i.2.1)],fun Γ=>(Γ.set 0 (BX gb0 84 [I rl1.p3,L i.p2 rl1.q5 i.q3,.bool rl1.p4])).set 1 (sl88 (L i.p2 rl1.q5 i.q3) rl1.q5),[lR i.1 rl1.p2 i.2.1])) hit1 c (ga4,gc5,ga1,gc2) (c.rk [0,1] [0,1,0]) (fun s1 q1 i1 _ _ c h hr1=>?_) fun k1 _ _ c=>?_))
 refine S0 (P0 [] c fun _ c=>I0 c h (fun h=>?_) fun h=>?_)
 refine K0 (S0 (wp_block (T0 (Fp [] 1 c fun _ c=>Bd h fun x2 hx2 h=>Eshl c hx2 fun _ c=>?_))))
 refine Fp [] 1 c fun _ c=>E0 (S0 (P0 [] c fun _ c=>I0 c h (fun h=>?_) fun h=>?_))
 refine T0 (Fp [] 4 c fun _ c=>Bd h fun x3 hx3 h=>Eel c (.f 1) hx3 fun _ _ c=>?_)
 refine Bd h fun x4 hx4 h=>Ca [0,1] c (Ye hx4) tt call110 fun i2 _ _ c=>?_
 refine Fp [] 1 c fun _ c=>E0 (P0 [] c fun _ c=>wp_exit (te (be ?_)))
 refine tn (P1 [] c fun _ c=>Nx h (i1.1,i1.2.1,i2.1,i2.2) (c.rk [0,1] [0,1,2]))
 refine K0 (T0 (Elt 3 ([]:List Int) c fun a1 c1 _ _ c=>?_))
 refine Fp [] 1 c fun _ c=>E0 (S0 (P0 [] c fun _ c=>Bd h fun rl2 hit2 h=>Lp (fun s2  (i:Ob Oh)=>([(0,B gb0 0),(1,I p1),(3,L ga6 p3 gc7),(9,I (len p2)),(10,I x1),(11,I s1.1),(12,.bool s1.2.1),(13,L i1.1 s1.p2 i1.2.1),(14,I s1.p3),(15,I x2),(16,L i.p2 s2.2.1 i.q3),(17,I s2.1)],fun Γ=>((Γ.set 0 (BX gb0 84 [I s2.p2,L i.1 s2.q4 i.2.1,.bool s2.p3])).set 1 (sl88 (L i.1 s2.q4 i.2.1) s2.q4)).set 2 (sl3 (L i.p2 s2.2.1 i.q3) s2.2.1),[])) (fun  (i:Ob Oh)=>([(0,B gb0 0),(1,I p1),(3,L ga6 p3 gc7),(9,I (len p2)),(10,I x1),(11,I s1.1),(12,.bool s1.2.1),(14,I s1.p3),(16,L i.p2 rl2.1 i.q3)],fun Γ=>((Γ.set 0 (BX gb0 84 [I rl2.2.1,L i.1 rl2.q3 i.2.1,.bool rl2.p2])).set 1 (sl88 (L i.1 rl2.q3 i.2.1) rl2.q3)).set 2 (sl3 (L i.p2 rl2.1 i.q3) rl2.1),[])) hit2 c (i1.p2,i1.q3,a1,c1) (c.rk [0,1,2] [0,1,2]) (fun s2 q2 i3 _ _ c h hr2=>?_) fun k2 _ _ c=>?_))
 refine S0 (P0 [] c fun _ c=>I0 c h (fun h=>?_) fun h=>?_)
 refine K0 (S0 (wp_block (P0 [] c fun _ c=>S0 (P0 [] c fun _ c=>Mp (p1 == 11) [(18,I (w64 (s2.1 - x2)))] [(18,I (w64 (s2.1 + x2)))] [(18,I (cond (p1 == 11) (w64 (s2.1 - x2)) (w64 (s2.1 + x2))))] [18,60,61,62] c fun _ c=>P0 [] c fun _ c=>S0 (T0 (Fp [] 3 c fun _ c=>Bd h fun x5 hx5 h=>Cb c (Zt hx5) tt call21 fun _ _ _ c=>?_))))))
 refine E0 (I0 c h (fun h=>?_) fun h=>?_)
 refine T1 (Fp [] 2 c fun _ c=>Bd h fun x6 hx6 h=>Eel c (.f 2) hx6 fun _ _ c=>?_)
 refine Fp [] 1 c fun _ c=>E0 (ZI mix ?_)
 refine Rh 0 ?_
 refine Bd h fun x7 hx7 h=>Bd h fun x8 hx8 h=>rM 11 [(4,Pd.el (x7:Int)),(5,.eq (I x7)),(9,Pd.el (x8:Int)),(10,.eq (I x8))] [] c (fun ow=>⟨Zd ow (Nid c (.f 1) (kN hx7)),Zd ow (Nld c 4 (q:=x7) (atM 4 (p:=.el (x7:Int)))),Zd ow (Nid c (.f 2) (kN hx8)),Zd ow (Nld c 9 (q:=x8) (atM 9 (p:=.el (x8:Int)))),tt⟩) fun _ _ _ _ _ c=>?_
 refine Bd h fun x9 hx9 h=>Ca [0,1] c (ZV hx9) tt call77 fun i4 _ _ c=>?_
 refine Elt 3 ([x9.1]:List Int) c fun a2 c2 _ _ c=>?_
 refine Bd h fun x10 hx10 h=>Eap 0 c (.g 3) hx10 fun a3 c3 _ _ c=>?_
 refine Fp [] 1 c fun _ c=>E1 (bk (tn (P1 [] c fun _ c=>Nx h (i4.1,i4.2,a3,c3) (c.rk [1,2,0] [0,1,2]))))
 refine K0 (ZI mix ?_)
 refine Rh 0 ?_
 refine Bd h fun x11 hx11 h=>Bd h fun x12 hx12 h=>rM 11 [(4,Pd.el (x11:Int)),(5,.eq (I x11)),(9,Pd.el (x12:Int)),(10,.eq (I x12))] [] c (fun ow=>⟨Zd ow (Nid c (.f 1) (kN hx11)),Zd ow (Nld c 4 (q:=x11) (atM 4 (p:=.el (x11:Int)))),Zd ow (Nid c (.f 2) (kN hx12)),Zd ow (Nld c 9 (q:=x12) (atM 9 (p:=.el (x12:Int)))),tt⟩) fun _ _ _ _ _ c=>?_
 refine Bd h fun x13 hx13 h=>Ca [0,1] c (ZV hx13) tt call77 fun i5 _ _ c=>?_
 refine Elt 3 ([x13.1]:List Int) c fun a4 c4 _ _ c=>?_
 refine Bd h fun x14 hx14 h=>Eap 0 c (.g 3) hx14 fun a5 c5 _ _ c=>?_
 refine Fp [] 1 c fun _ c=>E1 (bk (tn (P1 [] c fun _ c=>Nx h (i5.1,i5.2,a5,c5) (c.rk [1,2,0] [0,1,2]))))
 refine wp_exit (te (te (be ?_)))
 obtain rfl:=hr2 _ (sk h)
 exact tn ⟨(i3.1,i3.2.1,i3.p2,i3.q3),c.rk [0,1,2] [0,1,2]⟩
 refine Tq (P1 [] c fun _ c=>bk (tn (P1 [] c fun _ c=>?_)))
 replace c:=c.fz 2
 exact Nx h (k2.p2,k2.q3,k2.1,k2.2.1) (c.rk [0,1] [0,1,3])
 refine wp_exit (te (te (be ?_)))
 obtain rfl:=hr1 _ (sk h)
 exact tn ⟨(i1.1,i1.2.1,i1.p2,i1.q3),c.rk [0,1] [0,1,2]⟩
 refine S0 (P0 [] c fun _ c=>I0 c h (fun h=>?_) fun h=>?_)
 refine P0 [] c fun _ c=>?_
 cases h
 exact wp_ret (tr (Rt c (k1.1,k1.2.1,k1.p2,k1.q3) [0,1] [2]))
 refine K0 (T0 (Elt 3 ([]:List Int) c fun a6 c6 _ _ c=>?_))
 refine Fp [] 1 c fun _ c=>E0 (S0 (P0 [] c fun _ c=>Bd h fun rl3 hit3 h=>Lp (fun s3  (i:Ob Oh)=>([(0,B gb0 0),(9,I (len p2)),(10,I x1),(11,I rl1.1),(13,L k1.1 rl1.p2 k1.2.1),(20,L i.p2 s3.2.1 i.q3),(21,I s3.1)],fun Γ=>((Γ.set 0 (BX gb0 84 [I s3.p2,L i.1 s3.q4 i.2.1,.bool s3.p3])).set 1 (sl88 (L i.1 s3.q4 i.2.1) s3.q4)).set 2 (sl3 (L i.p2 s3.2.1 i.q3) s3.2.1),[])) (fun  (i:Ob Oh)=>([(20,L i.p2 rl3.1 i.q3)],fun Γ=>((Γ.set 0 (BX gb0 84 [I rl3.2.1,L i.1 rl3.q3 i.2.1,.bool rl3.p2])).set 1 (sl88 (L i.1 rl3.q3 i.2.1) rl3.q3)).set 2 (sl3 (L i.p2 rl3.1 i.q3) rl3.1),[])) hit3 c (k1.p2,k1.q3,a6,c6) (c.rk [0,1,2] [0,1,2]) (fun s3 q3 i6 _ _ c h hr3=>?_) fun k3 _ _ c=>?_))
 refine S0 (P0 [] c fun _ c=>I0 c h (fun h=>?_) fun h=>?_)
 refine K0 (S0 (wp_block (T1 (Fp [] 6 c fun _ c=>Bd h fun x15 hx15 h=>Eel c (.f 2) hx15 fun _ _ c=>?_))))
 refine Bd h fun x16 hx16 h=>Ca [0,1] c (ZV hx16) tt call77 fun i7 _ _ c=>?_
 refine Elt 3 ([x16.1]:List Int) c fun a7 c7 _ _ c=>?_
 refine Bd h fun x17 hx17 h=>Eap 0 c (.g 3) hx17 fun a8 c8 _ _ c=>?_
 refine Fp [] 1 c fun _ c=>E1 (bk (tn (P1 [] c fun _ c=>Nx h (i7.1,i7.2,a8,c8) (c.rk [1,2,0] [0,1,2]))))
 refine wp_exit (te (te (be ?_)))
 obtain rfl:=hr3 _ (sk h)
 exact tn ⟨(i6.1,i6.2.1,i6.p2,i6.q3),c.rk [0,1,2] [0,1,2]⟩
 refine P0 [] c fun _ c=>?_
 replace c:=c.fz 2
 cases h
 exact wp_ret (Rt c (k3.p2,k3.q3,k3.1,k3.2.1) [0,1] [3])
 refine K0 (P0 [] c fun _ c=>P0 [] c fun _ c=>P0 [] c fun _ c=>S0 (P0 [] c fun _ c=>Bd h fun rl4 hit4 h=>Lp (fun s4  (i:Ob Oh)=>([(0,B gb0 0),(1,I p1),(3,L ga6 p3 gc7),(9,I (len p2)),(10,I (-1)),(11,I s4.1),(12,.bool s4.2.1),(13,L i.1 s4.p2 i.2.1),(14,I s4.p3)],fun Γ=>(Γ.set 0 (BX gb0 84 [I s4.p4,L i.p2 s4.q6 i.q3,.bool s4.p5])).set 1 (sl88 (L i.p2 s4.q6 i.q3) s4.q6),[lR i.1 s4.p2 i.2.1])) (fun  (i:Ob Oh)=>([(0,B gb0 0),(9,I (len p2)),(10,I (-1)),(11,I rl4.1),(12,.bool rl4.2.1),(13,L i.1 rl4.p2 i.2.1)],fun Γ=>(Γ.set 0 (BX gb0 84 [I rl4.p3,L i.p2 rl4.q5 i.q3,.bool rl4.p4])).set 1 (sl88 (L i.p2 rl4.q5 i.q3) rl4.q5),[lR i.1 rl4.p2 i.2.1])) hit4 c (ga4,gc5,ga1,gc2) (c.rk [0,1] [0,1,0]) (fun s4 q4 i8 _ _ c h hr4=>?_) fun k4 _ _ c=>?_))
 refine S0 (P0 [] c fun _ c=>I0 c h (fun h=>?_) fun h=>?_)
 refine K0 (S0 (wp_block (T0 (Fp [] 1 c fun _ c=>Bd h fun x18 hx18 h=>Eshl c hx18 fun _ c=>?_))))
 refine Fp [] 1 c fun _ c=>E0 (S0 (P0 [] c fun _ c=>I0 c h (fun h=>?_) fun h=>?_))
 refine T0 (Fp [] 4 c fun _ c=>Bd h fun x19 hx19 h=>Eel c (.f 1) hx19 fun _ _ c=>?_)
 refine Bd h fun x20 hx20 h=>Ca [0,1] c (Ye hx20) tt call110 fun i9 _ _ c=>?_
 refine Fp [] 1 c fun _ c=>E0 (P0 [] c fun _ c=>wp_exit (te (be ?_)))
 refine tn (P1 [] c fun _ c=>Nx h (i8.1,i8.2.1,i9.1,i9.2) (c.rk [0,1] [0,1,2]))
 refine K0 (T0 (Elt 3 ([]:List Int) c fun a9 c9 _ _ c=>?_))
 refine Fp [] 1 c fun _ c=>E0 (S0 (P0 [] c fun _ c=>Bd h fun rl5 hit5 h=>Lp (fun s5  (i:Ob Oh)=>([(0,B gb0 0),(1,I p1),(3,L ga6 p3 gc7),(9,I (len p2)),(10,I (-1)),(11,I s4.1),(12,.bool s4.2.1),(13,L i8.1 s4.p2 i8.2.1),(14,I s4.p3),(15,I x18),(16,L i.p2 s5.2.1 i.q3),(17,I s5.1)],fun Γ=>((Γ.set 0 (BX gb0 84 [I s5.p2,L i.1 s5.q4 i.2.1,.bool s5.p3])).set 1 (sl88 (L i.1 s5.q4 i.2.1) s5.q4)).set 2 (sl3 (L i.p2 s5.2.1 i.q3) s5.2.1),[])) (fun  (i:Ob Oh)=>([(0,B gb0 0),(1,I p1),(3,L ga6 p3 gc7),(9,I (len p2)),(10,I (-1)),(11,I s4.1),(12,.bool s4.2.1),(14,I s4.p3),(16,L i.p2 rl5.1 i.q3)],fun Γ=>((Γ.set 0 (BX gb0 84 [I rl5.2.1,L i.1 rl5.q3 i.2.1,.bool rl5.p2])).set 1 (sl88 (L i.1 rl5.q3 i.2.1) rl5.q3)).set 2 (sl3 (L i.p2 rl5.1 i.q3) rl5.1),[])) hit5 c (i8.p2,i8.q3,a9,c9) (c.rk [0,1,2] [0,1,2]) (fun s5 q5 i10 _ _ c h hr5=>?_) fun k5 _ _ c=>?_))
 refine S0 (P0 [] c fun _ c=>I0 c h (fun h=>?_) fun h=>?_)
 refine K0 (S0 (wp_block (P0 [] c fun _ c=>S0 (P0 [] c fun _ c=>Mp (p1 == 11) [(18,I (w64 (s5.1 - x18)))] [(18,I (w64 (s5.1 + x18)))] [(18,I (cond (p1 == 11) (w64 (s5.1 - x18)) (w64 (s5.1 + x18))))] [18,60,61,62] c fun _ c=>P0 [] c fun _ c=>S0 (T0 (Fp [] 3 c fun _ c=>Bd h fun x21 hx21 h=>Cb c (Zt hx21) tt call21 fun _ _ _ c=>?_))))))
 refine E0 (I0 c h (fun h=>?_) fun h=>?_)
 refine T1 (Fp [] 2 c fun _ c=>Bd h fun x22 hx22 h=>Eel c (.f 2) hx22 fun _ _ c=>?_)
 refine Fp [] 1 c fun _ c=>E0 (ZI mix ?_)
 refine Rh 0 ?_
 refine Bd h fun x23 hx23 h=>Bd h fun x24 hx24 h=>rM 11 [(4,Pd.el (x23:Int)),(5,.eq (I x23)),(9,Pd.el (x24:Int)),(10,.eq (I x24))] [] c (fun ow=>⟨Zd ow (Nid c (.f 1) (kN hx23)),Zd ow (Nld c 4 (q:=x23) (atM 4 (p:=.el (x23:Int)))),Zd ow (Nid c (.f 2) (kN hx24)),Zd ow (Nld c 9 (q:=x24) (atM 9 (p:=.el (x24:Int)))),tt⟩) fun _ _ _ _ _ c=>?_
 refine Bd h fun x25 hx25 h=>Ca [0,1] c (ZV hx25) tt call77 fun i11 _ _ c=>?_
 refine Elt 3 ([x25.1]:List Int) c fun a10 c10 _ _ c=>?_
 refine Bd h fun x26 hx26 h=>Eap 0 c (.g 3) hx26 fun a11 c11 _ _ c=>?_
 refine Fp [] 1 c fun _ c=>E1 (bk (tn (P1 [] c fun _ c=>Nx h (i11.1,i11.2,a11,c11) (c.rk [1,2,0] [0,1,2]))))
 refine K0 (ZI mix ?_)
 refine Rh 0 ?_
 refine Bd h fun x27 hx27 h=>Bd h fun x28 hx28 h=>rM 11 [(4,Pd.el (x27:Int)),(5,.eq (I x27)),(9,Pd.el (x28:Int)),(10,.eq (I x28))] [] c (fun ow=>⟨Zd ow (Nid c (.f 1) (kN hx27)),Zd ow (Nld c 4 (q:=x27) (atM 4 (p:=.el (x27:Int)))),Zd ow (Nid c (.f 2) (kN hx28)),Zd ow (Nld c 9 (q:=x28) (atM 9 (p:=.el (x28:Int)))),tt⟩) fun _ _ _ _ _ c=>?_
 refine Bd h fun x29 hx29 h=>Ca [0,1] c (ZV hx29) tt call77 fun i12 _ _ c=>?_
 refine Elt 3 ([x29.1]:List Int) c fun a12 c12 _ _ c=>?_
 refine Bd h fun x30 hx30 h=>Eap 0 c (.g 3) hx30 fun a13 c13 _ _ c=>?_
 refine Fp [] 1 c fun _ c=>E1 (bk (tn (P1 [] c fun _ c=>Nx h (i12.1,i12.2,a13,c13) (c.rk [1,2,0] [0,1,2]))))
 refine wp_exit (te (te (be ?_)))
 obtain rfl:=hr5 _ (sk h)
 exact tn ⟨(i10.1,i10.2.1,i10.p2,i10.q3),c.rk [0,1,2] [0,1,2]⟩
 refine Tq (P1 [] c fun _ c=>bk (tn (P1 [] c fun _ c=>?_)))
 replace c:=c.fz 2
 exact Nx h (k5.p2,k5.q3,k5.1,k5.2.1) (c.rk [0,1] [0,1,3])
 refine wp_exit (te (te (be ?_)))
 obtain rfl:=hr4 _ (sk h)
 exact tn ⟨(i8.1,i8.2.1,i8.p2,i8.q3),c.rk [0,1] [0,1,2]⟩
 refine S0 (P0 [] c fun _ c=>I0 c h (fun h=>?_) fun h=>?_)
 refine P0 [] c fun _ c=>?_
 cases h
 exact wp_ret (tr (Rt c (k4.1,k4.2.1,k4.p2,k4.q3) [0,1] [2]))
 refine K0 (T0 (Elt 3 ([]:List Int) c fun a14 c14 _ _ c=>?_))
 refine Fp [] 1 c fun _ c=>E0 (S0 (P0 [] c fun _ c=>Bd h fun rl6 hit6 h=>Lp (fun s6  (i:Ob Oh)=>([(0,B gb0 0),(9,I (len p2)),(10,I (-1)),(11,I rl4.1),(13,L k4.1 rl4.p2 k4.2.1),(20,L i.p2 s6.2.1 i.q3),(21,I s6.1)],fun Γ=>((Γ.set 0 (BX gb0 84 [I s6.p2,L i.1 s6.q4 i.2.1,.bool s6.p3])).set 1 (sl88 (L i.1 s6.q4 i.2.1) s6.q4)).set 2 (sl3 (L i.p2 s6.2.1 i.q3) s6.2.1),[])) (fun  (i:Ob Oh)=>([(20,L i.p2 rl6.1 i.q3)],fun Γ=>((Γ.set 0 (BX gb0 84 [I rl6.2.1,L i.1 rl6.q3 i.2.1,.bool rl6.p2])).set 1 (sl88 (L i.1 rl6.q3 i.2.1) rl6.q3)).set 2 (sl3 (L i.p2 rl6.1 i.q3) rl6.1),[])) hit6 c (k4.p2,k4.q3,a14,c14) (c.rk [0,1,2] [0,1,2]) (fun s6 q6 i13 _ _ c h hr6=>?_) fun k6 _ _ c=>?_))
 refine S0 (P0 [] c fun _ c=>I0 c h (fun h=>?_) fun h=>?_)
 refine K0 (S0 (wp_block (T1 (Fp [] 6 c fun _ c=>Bd h fun x31 hx31 h=>Eel c (.f 2) hx31 fun _ _ c=>?_))))
 refine Bd h fun x32 hx32 h=>Ca [0,1] c (ZV hx32) tt call77 fun i14 _ _ c=>?_
 refine Elt 3 ([x32.1]:List Int) c fun a15 c15 _ _ c=>?_
 refine Bd h fun x33 hx33 h=>Eap 0 c (.g 3) hx33 fun a16 c16 _ _ c=>?_
 refine Fp [] 1 c fun _ c=>E1 (bk (tn (P1 [] c fun _ c=>Nx h (i14.1,i14.2,a16,c16) (c.rk [1,2,0] [0,1,2]))))
 refine wp_exit (te (te (be ?_)))
 obtain rfl:=hr6 _ (sk h)
 exact tn ⟨(i13.1,i13.2.1,i13.p2,i13.q3),c.rk [0,1,2] [0,1,2]⟩
 refine P0 [] c fun _ c=>?_
 replace c:=c.fz 2
 cases h
 exact wp_ret (Rt c (k6.p2,k6.q3,k6.1,k6.2.1) [0,1] [3])
theorem ZL {p0 p1 p2 gb0 gn3 r} (h:Z6 n p0 p1 p2 = some r):Con prog 116 [B gb0 0,L ga4 p1 gc5,L ga6 p2 gc7] [BX gb0 84 [I p0.c.Inputs,.slice ga1 gn3 gc2,.bool p0.full],sl88 (.slice ga1 gn3 gc2) p0.c.Gates] [lR ga4 p1 gc5,lR ga6 p2 gc7] fun (i:Oh)=>([I r.1],[BX gb0 84 [I r.2.c.Inputs,L i.1 r.2.c.Gates i.2,.bool r.2.full],sl88 (L i.1 r.2.c.Gates i.2) r.2.c.Gates],[]):=by
 unfold Z6 at h
 refine En func116 rfl ntmps116 fun _ fr w c=>?_
 obtain ⟨rfl,c⟩:=c.relen 1
 refine P0 [] c fun _ c=>T0 (Fp [] 3 c fun _ c=>Bd h fun x1 hx1 h=>Cb c (Zau hx1) ⟨.f 1,tt⟩ call76 fun i1 _ _ c=>?_)
 refine Bd h fun x2 hx2 h=>Ca [0,1] c (Y6 hx2) ⟨.f 0,.g 0,tt⟩ call111 fun i2 _ _ c=>?_
 refine Fp [] 5 c fun _ c=>E0 (P0 [] c fun _ c=>?_)
 cases h
 exact wp_ret (Rt c (i2.p2,i2.q3) [2,3] [])
theorem Y3 {p0 r} (h:Ym p0 = some r):Con prog 117 [L ga0 p0 gc1] [] [lR ga0 p0 gc1] fun (i:Oh)=>([L i.1 r i.2],[sl3 (L i.1 r i.2) r],[]):=by
 unfold Ym at h
 refine En func117 rfl ntmps117 fun _ fr w c=>?_
 refine P0 [] c fun _ c=>T0 (Elt 3 ([]:List Int) c fun a1 c1 _ _ c=>?_)
 refine Fp [] 1 c fun _ c=>Bd h fun x1 hx1 h=>Eap 0 c (.f 0) hx1 fun a2 c2 _ _ c=>?_
 refine Fp [] 1 c fun _ c=>E0 (T0 (Fp [] 8 c fun _ c=>Bd h fun x2 hx2 h=>Eel c (.g 0) hx2 fun _ _ c=>?_))
 refine Fp [] 1 c fun _ c=>Bd h fun x3 hx3 h=>Eset 0 c hx3 fun _ _ _ c=>?_
 refine E0 (P0 [] c fun _ c=>?_)
 obtain rfl:=sj h
 obtain ⟨he1,c⟩:=c.relen 0
 replace c:=c.eqs (v:=L a2 x1 c2) (u:=L a2 x3 c2) 2 (by simp only [L,he1])
 exact wp_ret (Rt c (a2,c2) [0] [])
theorem ZaB {p0 p1 p2 p3 gb0 gn3 r} (h:ZT n p0 p1 p2 p3 = some r):Con prog 79 [B gb0 0,I p1,L ga4 p2 gc5,L ga6 p3 gc7] [BX gb0 84 [I p0.c.Inputs,.slice ga1 gn3 gc2,.bool p0.full],sl88 (.slice ga1 gn3 gc2) p0.c.Gates] [lR ga4 p2 gc5,lR ga6 p3 gc7] fun (i:Ob Oh)=>([L i.1 r.1 i.2.1],[BX gb0 84 [I r.2.c.Inputs,L i.p2 r.2.c.Gates i.q3,.bool r.2.full],sl88 (L i.p2 r.2.c.Gates i.q3) r.2.c.Gates],[lR i.1 r.1 i.2.1]):=by
 unfold ZT at h
 refine En func79 rfl ntmps79 fun _ fr w c=>?_
 obtain ⟨rfl,c⟩:=c.relen 1
 refine P0 [] c fun _ c=>T0 (Elt 3 ([]:List Int) c fun a1 c1 _ _ c=>?_)
 refine Fp [] 1 c fun _ c=>E0 (S0 (P0 [] c fun _ c=>wp_block (P0 [] c fun _ c=>I0 c h (fun h=>?_) fun h=>?_)))
 refine T1 (Fp [] 3 c fun _ c=>Bd h fun x1 hx1 h=>Ca [0,1] c (Y6 hx1) ⟨.f 0,.f 1,tt⟩ call111 fun i1 _ _ c=>?_)
 refine Fp [] 4 c fun _ c=>E1 (bk (tn (P0 [] c fun _ c=>?_)))
 replace c:=c.fz 1
 cases h
 exact wp_ret (Rt c (i1.1,i1.2.1,i1.p2,i1.q3) [1,2] [2])
 refine P0 [] c fun _ c=>I0 c h (fun h=>?_) fun h=>?_
 refine T1 (Fp [] 3 c fun _ c=>Bd h fun x2 hx2 h=>Cb c (Zau hx2) ⟨.f 1,tt⟩ call76 fun i2 _ _ c=>?_)
 refine Bd h fun x3 hx3 h=>Ca [0,1] c (Y6 hx3) ⟨.f 0,.g 1,tt⟩ call111 fun i3 _ _ c=>?_
 refine Fp [] 4 c fun _ c=>E1 (bk (tn (P0 [] c fun _ c=>?_)))
 replace c:=c.fz 2
 cases h
 exact wp_ret (Rt c (i3.1,i3.2.1,i3.p2,i3.q3) [2,3] [2])
 refine P0 [] c fun _ c=>I0 c h (fun h=>?_) fun h=>?_
 refine T1 (Fp [] 3 c fun _ c=>Bd h fun x4 hx4 h=>Ca [0,1] c (ZbW hx4) ⟨.f 0,.f 1,tt⟩ call112 fun i4 _ _ c=>?_)
 refine Fp [] 1 c fun _ c=>E1 (bk (tn (P0 [] c fun _ c=>?_)))
 replace c:=c.fz 1
 cases h
 exact wp_ret (Rt c (i4.1,i4.2.1,i4.p2,i4.q3) [1,2] [2])
 refine P0 [] c fun _ c=>I0 c h (fun h=>?_) fun h=>?_
 refine T1 (Fp [] 3 c fun _ c=>Bd h fun x5 hx5 h=>Ca [0,1] c (Zaw hx5) ⟨.f 0,.f 1,tt⟩ call113 fun i5 _ _ c=>?_)
 refine Fp [] 4 c fun _ c=>E1 (bk (tn (P0 [] c fun _ c=>?_)))
 replace c:=c.fz 1
 cases h
 exact wp_ret (Rt c (i5.1,i5.2.1,i5.p4,i5.q5) [2,3] [2])
 refine P0 [] c fun _ c=>I0 c h (fun h=>?_) fun h=>?_
 refine T1 (Fp [] 3 c fun _ c=>Bd h fun x6 hx6 h=>Ca [0,1] c (Zaw hx6) ⟨.f 0,.f 1,tt⟩ call113 fun i6 _ _ c=>?_)
 refine Fp [] 4 c fun _ c=>E1 (bk (tn (P0 [] c fun _ c=>?_)))
 replace c:=c.fz 2
 cases h
 exact wp_ret (Rt c (i6.p2,i6.p3,i6.p4,i6.q5) [2,3] [2])
 refine S0 (P0 [] c fun _ c=>I0 c h (fun h=>?_) fun h=>?_)
 refine K0 (I0 c h (fun h=>?_) fun h=>?_)
 refine P0 [] c fun _ c=>Bd h fun rl1 hit1 h=>Tq (Lp (fun s1  (i:Ob Oh)=>([(0,B gb0 0),(1,I p1),(2,L ga4 p2 gc5),(3,L ga6 p3 gc7),(9,L i.p2 s1.2.1 i.q3),(65,I (len p2)),(66,I s1.1)],fun Γ=>((Γ.set 0 (BX gb0 84 [I s1.p2,L i.1 s1.q4 i.2.1,.bool s1.p3])).set 1 (sl88 (L i.1 s1.q4 i.2.1) s1.q4)).set 2 (sl3 (L i.p2 s1.2.1 i.q3) s1.2.1),[])) (fun  (i:Ob Oh)=>([(9,L i.p2 rl1.1 i.q3)],fun Γ=>((Γ.set 0 (BX gb0 84 [I rl1.2.1,L i.1 rl1.q3 i.2.1,.bool rl1.p2])).set 1 (sl88 (L i.1 rl1.q3 i.2.1) rl1.q3)).set 2 (sl3 (L i.p2 rl1.1 i.q3) rl1.1),[])) hit1 c (ga1,gc2,a1,c1) (c.rk [0,1,2] [0,1]) (fun s1 q1 i7 _ _ c h hr1=>?_) fun k1 _ _ c=>?_)
 refine P0 [] c fun _ c=>S0 (I0 c h (fun h=>?_) fun h=>?_)
 refine K0 (S0 (wp_block (P0 [] c fun _ c=>P0 [] c fun _ c=>S0 (P0 [] c fun _ c=>wp_block (P0 [] c fun _ c=>I0 c h (fun h=>?_) fun h=>?_)))))
 refine Bd h fun x7 hx7 h=>Bd h fun x8 hx8 h=>ZI mix (rM 9 [(3,Pd.el (x7:Int)),(4,.eq (I x7)),(7,Pd.el (x8:Int)),(8,.eq (I x8))] [] c (fun ow=>⟨Zd ow (Nid c (.f 0) (kN hx7)),Zd ow (Nld c 3 (q:=x7) (atM 3 (p:=.el (x7:Int)))),Zd ow (Nid c (.f 1) (kN hx8)),Zd ow (Nld c 7 (q:=x8) (atM 7 (p:=.el (x8:Int)))),tt⟩) fun _ _ _ _ _ c=>?_)
 refine Bd h fun x9 hx9 h=>Ca [0,1] c (Zr hx9) tt call109 fun i8 _ _ c=>?_
 refine Fp [] 1 c fun _ c=>E1 (bk (tn (T1 (Fp [] 2 c fun _ c=>Elt 3 ([x9.1]:List Int) c fun a2 c2 _ _ c=>?_))))
 refine Bd h fun x10 hx10 h=>Eap 0 c (.g 3) hx10 fun a3 c3 _ _ c=>?_
 refine Fp [] 1 c fun _ c=>E1 (bk (tn (P1 [] c fun _ c=>Nx h (i8.1,i8.2,a3,c3) (c.rk [1,2,0] [0,1]))))
 refine P0 [] c fun _ c=>I0 c h (fun h=>?_) fun h=>?_
 refine Bd h fun x11 hx11 h=>Bd h fun x12 hx12 h=>ZI mix (rM 9 [(3,Pd.el (x11:Int)),(4,.eq (I x11)),(7,Pd.el (x12:Int)),(8,.eq (I x12))] [] c (fun ow=>⟨Zd ow (Nid c (.f 0) (kN hx11)),Zd ow (Nld c 3 (q:=x11) (atM 3 (p:=.el (x11:Int)))),Zd ow (Nid c (.f 1) (kN hx12)),Zd ow (Nld c 7 (q:=x12) (atM 7 (p:=.el (x12:Int)))),tt⟩) fun _ _ _ _ _ c=>?_)
 refine Bd h fun x13 hx13 h=>Ca [0,1] c (Ye hx13) tt call110 fun i9 _ _ c=>?_
 refine Fp [] 1 c fun _ c=>E1 (bk (tn (T1 (Fp [] 2 c fun _ c=>Elt 3 ([x13.1]:List Int) c fun a4 c4 _ _ c=>?_))))
 refine Bd h fun x14 hx14 h=>Eap 0 c (.g 3) hx14 fun a5 c5 _ _ c=>?_
 refine Fp [] 1 c fun _ c=>E1 (bk (tn (P1 [] c fun _ c=>Nx h (i9.1,i9.2,a5,c5) (c.rk [1,2,0] [0,1]))))
 refine Bd h fun x15 hx15 h=>Bd h fun x16 hx16 h=>ZI mix (rM 9 [(3,Pd.el (x15:Int)),(4,.eq (I x15)),(7,Pd.el (x16:Int)),(8,.eq (I x16))] [] c (fun ow=>⟨Zd ow (Nid c (.f 0) (kN hx15)),Zd ow (Nld c 3 (q:=x15) (atM 3 (p:=.el (x15:Int)))),Zd ow (Nid c (.f 1) (kN hx16)),Zd ow (Nld c 7 (q:=x16) (atM 7 (p:=.el (x16:Int)))),tt⟩) fun _ _ _ _ _ c=>?_)
 refine Bd h fun x17 hx17 h=>Ca [0,1] c (ZM hx17) tt call114 fun i10 _ _ c=>?_
 refine Fp [] 1 c fun _ c=>E1 (bk (tn (T1 (Fp [] 2 c fun _ c=>Elt 3 ([x17.1]:List Int) c fun a6 c6 _ _ c=>?_))))
 refine Bd h fun x18 hx18 h=>Eap 0 c (.g 3) hx18 fun a7 c7 _ _ c=>?_
 refine Fp [] 1 c fun _ c=>E1 (bk (tn (P1 [] c fun _ c=>Nx h (i10.1,i10.2,a7,c7) (c.rk [1,2,0] [0,1]))))
 refine wp_exit (te (te (be ?_)))
 obtain rfl:=hr1 _ (sk h)
 exact tn ⟨(i7.1,i7.2.1,i7.p2,i7.q3),c.rk [0,1,2] [0,1]⟩
 refine bk (tn (P0 [] c fun _ c=>?_))
 replace c:=c.fz 2
 cases h
 exact wp_ret (Rt c (k1.p2,k1.q3,k1.1,k1.2.1) [0,1] [2])
 refine S0 (P0 [] c fun _ c=>I0 c h (fun h=>?_) fun h=>?_)
 refine K0 (I0 c h (fun h=>?_) fun h=>?_)
 refine T1 (Fp [] 4 c fun _ c=>Bd h fun x19 hx19 h=>Cf [0,1] c (YF hx19) ⟨.f 0,.f 1,tt⟩ call115 fun i11 _ _ c=>?_)
 refine Fp [] 1 c fun _ c=>E1 (bk (tn (P0 [] c fun _ c=>?_)))
 cases h
 exact wp_ret (Rt c (i11.1,i11.2.1,i11.p2,i11.q3) [1,2] [2])
 refine P0 [] c fun _ c=>I0 c h (fun h=>?_) fun h=>?_
 refine P0 [] c fun _ c=>S0 (P0 [] c fun _ c=>Bd h fun rl2 hit2 h=>Lp (fun s2  (i:Oh)=>([(0,B gb0 0),(2,L ga4 p2 gc5),(3,L ga6 p3 gc7),(12,I s2.1),(121,I (len p2)),(122,I s2.2.1)],fun Γ=>(Γ.set 0 (BX gb0 84 [I s2.p2,L i.1 s2.q4 i.2,.bool s2.p3])).set 1 (sl88 (L i.1 s2.q4 i.2) s2.q4),[])) (fun  (i:Oh)=>([(12,I rl2.1)],fun Γ=>(Γ.set 0 (BX gb0 84 [I rl2.2.1,L i.1 rl2.q3 i.2,.bool rl2.p2])).set 1 (sl88 (L i.1 rl2.q3 i.2) rl2.q3),[])) hit2 c (ga1,gc2) (c.rk [0,1,2] [0,1]) (fun s2 q2 i12 _ _ c h hr2=>?_) fun k2 _ _ c=>?_)
 refine P0 [] c fun _ c=>S0 (I0 c h (fun h=>?_) fun h=>?_)
 refine K0 (S0 (wp_block (P0 [] c fun _ c=>Bd h fun x20 hx20 h=>Bd h fun x21 hx21 h=>S0 (ZI mix (rM 9 [(3,Pd.el (x20:Int)),(4,.eq (I x20)),(7,Pd.el (x21:Int)),(8,.eq (I x21))] [] c (fun ow=>⟨Zd ow (Nid c (.f 0) (kN hx20)),Zd ow (Nld c 3 (q:=x20) (atM 3 (p:=.el (x20:Int)))),Zd ow (Nid c (.f 1) (kN hx21)),Zd ow (Nld c 7 (q:=x21) (atM 7 (p:=.el (x21:Int)))),tt⟩) fun _ _ _ _ _ c=>Bd h fun x22 hx22 h=>Ca [0,1] c (ZM hx22) tt call114 fun i13 _ _ c=>?_)))))
 refine Fp [] 1 c fun _ c=>E0 (T1 (Fp [] 4 c fun _ c=>Bd h fun x23 hx23 h=>Ca [1,2] c (Zr hx23) tt call109 fun i14 _ _ c=>?_))
 refine Fp [] 1 c fun _ c=>E1 (bk (tn (P1 [] c fun _ c=>Nx h (i14.1,i14.2) (c.rk [1,2,0] [0,1]))))
 refine wp_exit (te (te (be ?_)))
 obtain rfl:=hr2 _ (sk h)
 exact tn ⟨(i12.1,i12.2),c.rk [0,1,2] [0,1]⟩
 refine T1 (Fp [] 1 c fun _ c=>Elt 3 ([rl2.1]:List Int) c fun a8 c8 _ _ c=>?_)
 refine Fp [] 1 c fun _ c=>E1 (bk (tn (P0 [] c fun _ c=>?_)))
 replace c:=c.fz 3
 cases h
 exact wp_ret (Rt c (a8,c8,k2.1,k2.2) [0,1] [2])
 refine P0 [] c fun _ c=>I0 c h (fun h=>?_) fun h=>?_
 refine T1 (Fp [] 3 c fun _ c=>Bd h fun x24 hx24 h=>Ca [0,1] c (ZL hx24) ⟨.f 0,.f 1,tt⟩ call116 fun i15 _ _ c=>?_)
 refine Elt 3 ([x24.1]:List Int) c fun a9 c9 _ _ c=>?_
 refine Fp [] 1 c fun _ c=>E1 (bk (tn (P0 [] c fun _ c=>?_)))
 replace c:=c.fz 3
 cases h
 exact wp_ret (Rt c (a9,c9,i15.1,i15.2) [1,2] [2])
 refine P0 [] c fun _ c=>I0 c h (fun h=>?_) fun h=>?_
 refine T1 (Fp [] 2 c fun _ c=>Bd h fun x25 hx25 h=>Cb c (Y3 hx25) ⟨.f 0,tt⟩ call117 fun i16 _ _ c=>?_)
 refine Fp [] 1 c fun _ c=>Bd h fun x26 hx26 h=>Cb c (Y3 hx26) ⟨.f 1,tt⟩ call117 fun i17 _ _ c=>?_
 refine Bd h fun x27 hx27 h=>Ca [0,1] c (ZL hx27) ⟨.g 1,.g 2,tt⟩ call116 fun i18 _ _ c=>?_
 refine Elt 3 ([x27.1]:List Int) c fun a10 c10 _ _ c=>?_
 refine Fp [] 1 c fun _ c=>E1 (bk (tn (P0 [] c fun _ c=>?_)))
 replace c:=c.fz 5
 cases h
 exact wp_ret (Rt c (a10,c10,i18.1,i18.2) [3,4] [2])
 refine K1 (bk (tn (P0 [] c fun _ c=>?_)))
 replace c:=c.fz 2
 cases h
 exact wp_ret (Rt c (a1,c1,ga1,gc2) [0,1] [2])
 refine P0 [] c fun _ c=>Mp (p1 == 12) [(109,.bool (p1 == 12))] [(109,.bool (p1 == 13))] [(109,.bool ((p1 == 12) || (p1 == 13)))] [109,112] c fun _ c=>I0 c h (fun h=>?_) fun h=>?_
 refine T1 (Fp [] 4 c fun _ c=>Bd h fun x28 hx28 h=>Cf [0,1] c (YF hx28) ⟨.f 0,.f 1,tt⟩ call115 fun i19 _ _ c=>?_)
 refine Fp [] 1 c fun _ c=>E1 (bk (tn (P0 [] c fun _ c=>?_)))
 cases h
 exact wp_ret (Rt c (i19.1,i19.2.1,i19.p2,i19.q3) [1,2] [2])
 refine P0 [] c fun _ c=>I0 c h (fun h=>?_) fun h=>?_
 refine P0 [] c fun _ c=>S0 (P0 [] c fun _ c=>Bd h fun rl3 hit3 h=>Lp (fun s3  (i:Oh)=>([(0,B gb0 0),(2,L ga4 p2 gc5),(3,L ga6 p3 gc7),(12,I s3.1),(121,I (len p2)),(122,I s3.2.1)],fun Γ=>(Γ.set 0 (BX gb0 84 [I s3.p2,L i.1 s3.q4 i.2,.bool s3.p3])).set 1 (sl88 (L i.1 s3.q4 i.2) s3.q4),[])) (fun  (i:Oh)=>([(12,I rl3.1)],fun Γ=>(Γ.set 0 (BX gb0 84 [I rl3.2.1,L i.1 rl3.q3 i.2,.bool rl3.p2])).set 1 (sl88 (L i.1 rl3.q3 i.2) rl3.q3),[])) hit3 c (ga1,gc2) (c.rk [0,1,2] [0,1]) (fun s3 q3 i20 _ _ c h hr3=>?_) fun k3 _ _ c=>?_)
 refine P0 [] c fun _ c=>S0 (I0 c h (fun h=>?_) fun h=>?_)
 refine K0 (S0 (wp_block (P0 [] c fun _ c=>Bd h fun x29 hx29 h=>Bd h fun x30 hx30 h=>S0 (ZI mix (rM 9 [(3,Pd.el (x29:Int)),(4,.eq (I x29)),(7,Pd.el (x30:Int)),(8,.eq (I x30))] [] c (fun ow=>⟨Zd ow (Nid c (.f 0) (kN hx29)),Zd ow (Nld c 3 (q:=x29) (atM 3 (p:=.el (x29:Int)))),Zd ow (Nid c (.f 1) (kN hx30)),Zd ow (Nld c 7 (q:=x30) (atM 7 (p:=.el (x30:Int)))),tt⟩) fun _ _ _ _ _ c=>Bd h fun x31 hx31 h=>Ca [0,1] c (ZM hx31) tt call114 fun i21 _ _ c=>?_)))))
 refine Fp [] 1 c fun _ c=>E0 (T1 (Fp [] 4 c fun _ c=>Bd h fun x32 hx32 h=>Ca [1,2] c (Zr hx32) tt call109 fun i22 _ _ c=>?_))
 refine Fp [] 1 c fun _ c=>E1 (bk (tn (P1 [] c fun _ c=>Nx h (i22.1,i22.2) (c.rk [1,2,0] [0,1]))))
 refine wp_exit (te (te (be ?_)))
 obtain rfl:=hr3 _ (sk h)
 exact tn ⟨(i20.1,i20.2),c.rk [0,1,2] [0,1]⟩
 refine T1 (Fp [] 1 c fun _ c=>Elt 3 ([rl3.1]:List Int) c fun a11 c11 _ _ c=>?_)
 refine Fp [] 1 c fun _ c=>E1 (bk (tn (P0 [] c fun _ c=>?_)))
 replace c:=c.fz 3
 cases h
 exact wp_ret (Rt c (a11,c11,k3.1,k3.2) [0,1] [2])
 refine P0 [] c fun _ c=>I0 c h (fun h=>?_) fun h=>?_
 refine T1 (Fp [] 3 c fun _ c=>Bd h fun x33 hx33 h=>Ca [0,1] c (ZL hx33) ⟨.f 0,.f 1,tt⟩ call116 fun i23 _ _ c=>?_)
 refine Elt 3 ([x33.1]:List Int) c fun a12 c12 _ _ c=>?_
 refine Fp [] 1 c fun _ c=>E1 (bk (tn (P0 [] c fun _ c=>?_)))
 replace c:=c.fz 3
 cases h
 exact wp_ret (Rt c (a12,c12,i23.1,i23.2) [1,2] [2])
 refine P0 [] c fun _ c=>I0 c h (fun h=>?_) fun h=>?_
 refine T1 (Fp [] 2 c fun _ c=>Bd h fun x34 hx34 h=>Cb c (Y3 hx34) ⟨.f 0,tt⟩ call117 fun i24 _ _ c=>?_)
 refine Fp [] 1 c fun _ c=>Bd h fun x35 hx35 h=>Cb c (Y3 hx35) ⟨.f 1,tt⟩ call117 fun i25 _ _ c=>?_
 refine Bd h fun x36 hx36 h=>Ca [0,1] c (ZL hx36) ⟨.g 1,.g 2,tt⟩ call116 fun i26 _ _ c=>?_
 refine Elt 3 ([x36.1]:List Int) c fun a13 c13 _ _ c=>?_
 refine Fp [] 1 c fun _ c=>E1 (bk (tn (P0 [] c fun _ c=>?_)))
 replace c:=c.fz 5
 cases h
 exact wp_ret (Rt c (a13,c13,i26.1,i26.2) [3,4] [2])
 refine K1 (bk (tn (P0 [] c fun _ c=>?_)))
 replace c:=c.fz 2
 cases h
 exact wp_ret (Rt c (a1,c1,ga1,gc2) [0,1] [2])
 refine P0 [] c fun _ c=>Mp (p1 == 9) [(60,.bool (p1 == 9))] [(60,.bool (p1 == 10))] [(60,.bool ((p1 == 9) || (p1 == 10)))] [60,63] c fun _ c=>I0 c h (fun h=>?_) fun h=>?_
 refine P0 [] c fun _ c=>Bd h fun rl4 hit4 h=>Tq (Lp (fun s4  (i:Ob Oh)=>([(0,B gb0 0),(1,I p1),(2,L ga4 p2 gc5),(3,L ga6 p3 gc7),(9,L i.p2 s4.2.1 i.q3),(65,I (len p2)),(66,I s4.1)],fun Γ=>((Γ.set 0 (BX gb0 84 [I s4.p2,L i.1 s4.q4 i.2.1,.bool s4.p3])).set 1 (sl88 (L i.1 s4.q4 i.2.1) s4.q4)).set 2 (sl3 (L i.p2 s4.2.1 i.q3) s4.2.1),[])) (fun  (i:Ob Oh)=>([(9,L i.p2 rl4.1 i.q3)],fun Γ=>((Γ.set 0 (BX gb0 84 [I rl4.2.1,L i.1 rl4.q3 i.2.1,.bool rl4.p2])).set 1 (sl88 (L i.1 rl4.q3 i.2.1) rl4.q3)).set 2 (sl3 (L i.p2 rl4.1 i.q3) rl4.1),[])) hit4 c (ga1,gc2,a1,c1) (c.rk [0,1,2] [0,1]) (fun s4 q4 i27 _ _ c h hr4=>?_) fun k4 _ _ c=>?_)
 refine P0 [] c fun _ c=>S0 (I0 c h (fun h=>?_) fun h=>?_)
 refine K0 (S0 (wp_block (P0 [] c fun _ c=>P0 [] c fun _ c=>S0 (P0 [] c fun _ c=>wp_block (P0 [] c fun _ c=>I0 c h (fun h=>?_) fun h=>?_)))))
 refine Bd h fun x37 hx37 h=>Bd h fun x38 hx38 h=>ZI mix (rM 9 [(3,Pd.el (x37:Int)),(4,.eq (I x37)),(7,Pd.el (x38:Int)),(8,.eq (I x38))] [] c (fun ow=>⟨Zd ow (Nid c (.f 0) (kN hx37)),Zd ow (Nld c 3 (q:=x37) (atM 3 (p:=.el (x37:Int)))),Zd ow (Nid c (.f 1) (kN hx38)),Zd ow (Nld c 7 (q:=x38) (atM 7 (p:=.el (x38:Int)))),tt⟩) fun _ _ _ _ _ c=>?_)
 refine Bd h fun x39 hx39 h=>Ca [0,1] c (Zr hx39) tt call109 fun i28 _ _ c=>?_
 refine Fp [] 1 c fun _ c=>E1 (bk (tn (T1 (Fp [] 2 c fun _ c=>Elt 3 ([x39.1]:List Int) c fun a14 c14 _ _ c=>?_))))
 refine Bd h fun x40 hx40 h=>Eap 0 c (.g 3) hx40 fun a15 c15 _ _ c=>?_
 refine Fp [] 1 c fun _ c=>E1 (bk (tn (P1 [] c fun _ c=>Nx h (i28.1,i28.2,a15,c15) (c.rk [1,2,0] [0,1]))))
 refine P0 [] c fun _ c=>I0 c h (fun h=>?_) fun h=>?_
 refine Bd h fun x41 hx41 h=>Bd h fun x42 hx42 h=>ZI mix (rM 9 [(3,Pd.el (x41:Int)),(4,.eq (I x41)),(7,Pd.el (x42:Int)),(8,.eq (I x42))] [] c (fun ow=>⟨Zd ow (Nid c (.f 0) (kN hx41)),Zd ow (Nld c 3 (q:=x41) (atM 3 (p:=.el (x41:Int)))),Zd ow (Nid c (.f 1) (kN hx42)),Zd ow (Nld c 7 (q:=x42) (atM 7 (p:=.el (x42:Int)))),tt⟩) fun _ _ _ _ _ c=>?_)
 refine Bd h fun x43 hx43 h=>Ca [0,1] c (Ye hx43) tt call110 fun i29 _ _ c=>?_
 refine Fp [] 1 c fun _ c=>E1 (bk (tn (T1 (Fp [] 2 c fun _ c=>Elt 3 ([x43.1]:List Int) c fun a16 c16 _ _ c=>?_))))
 refine Bd h fun x44 hx44 h=>Eap 0 c (.g 3) hx44 fun a17 c17 _ _ c=>?_
 refine Fp [] 1 c fun _ c=>E1 (bk (tn (P1 [] c fun _ c=>Nx h (i29.1,i29.2,a17,c17) (c.rk [1,2,0] [0,1]))))
 refine Bd h fun x45 hx45 h=>Bd h fun x46 hx46 h=>ZI mix (rM 9 [(3,Pd.el (x45:Int)),(4,.eq (I x45)),(7,Pd.el (x46:Int)),(8,.eq (I x46))] [] c (fun ow=>⟨Zd ow (Nid c (.f 0) (kN hx45)),Zd ow (Nld c 3 (q:=x45) (atM 3 (p:=.el (x45:Int)))),Zd ow (Nid c (.f 1) (kN hx46)),Zd ow (Nld c 7 (q:=x46) (atM 7 (p:=.el (x46:Int)))),tt⟩) fun _ _ _ _ _ c=>?_)
 refine Bd h fun x47 hx47 h=>Ca [0,1] c (ZM hx47) tt call114 fun i30 _ _ c=>?_
 refine Fp [] 1 c fun _ c=>E1 (bk (tn (T1 (Fp [] 2 c fun _ c=>Elt 3 ([x47.1]:List Int) c fun a18 c18 _ _ c=>?_))))
 refine Bd h fun x48 hx48 h=>Eap 0 c (.g 3) hx48 fun a19 c19 _ _ c=>?_
 refine Fp [] 1 c fun _ c=>E1 (bk (tn (P1 [] c fun _ c=>Nx h (i30.1,i30.2,a19,c19) (c.rk [1,2,0] [0,1]))))
 refine wp_exit (te (te (be ?_)))
 obtain rfl:=hr4 _ (sk h)
 exact tn ⟨(i27.1,i27.2.1,i27.p2,i27.q3),c.rk [0,1,2] [0,1]⟩
 refine bk (tn (P0 [] c fun _ c=>?_))
 replace c:=c.fz 2
 cases h
 exact wp_ret (Rt c (k4.p2,k4.q3,k4.1,k4.2.1) [0,1] [2])
 refine S0 (P0 [] c fun _ c=>I0 c h (fun h=>?_) fun h=>?_)
 refine K0 (I0 c h (fun h=>?_) fun h=>?_)
 refine T1 (Fp [] 4 c fun _ c=>Bd h fun x49 hx49 h=>Cf [0,1] c (YF hx49) ⟨.f 0,.f 1,tt⟩ call115 fun i31 _ _ c=>?_)
 refine Fp [] 1 c fun _ c=>E1 (bk (tn (P0 [] c fun _ c=>?_)))
 cases h
 exact wp_ret (Rt c (i31.1,i31.2.1,i31.p2,i31.q3) [1,2] [2])
 refine P0 [] c fun _ c=>I0 c h (fun h=>?_) fun h=>?_
 refine P0 [] c fun _ c=>S0 (P0 [] c fun _ c=>Bd h fun rl5 hit5 h=>Lp (fun s5  (i:Oh)=>([(0,B gb0 0),(2,L ga4 p2 gc5),(3,L ga6 p3 gc7),(12,I s5.1),(121,I (len p2)),(122,I s5.2.1)],fun Γ=>(Γ.set 0 (BX gb0 84 [I s5.p2,L i.1 s5.q4 i.2,.bool s5.p3])).set 1 (sl88 (L i.1 s5.q4 i.2) s5.q4),[])) (fun  (i:Oh)=>([(12,I rl5.1)],fun Γ=>(Γ.set 0 (BX gb0 84 [I rl5.2.1,L i.1 rl5.q3 i.2,.bool rl5.p2])).set 1 (sl88 (L i.1 rl5.q3 i.2) rl5.q3),[])) hit5 c (ga1,gc2) (c.rk [0,1,2] [0,1]) (fun s5 q5 i32 _ _ c h hr5=>?_) fun k5 _ _ c=>?_)
 refine P0 [] c fun _ c=>S0 (I0 c h (fun h=>?_) fun h=>?_)
 refine K0 (S0 (wp_block (P0 [] c fun _ c=>Bd h fun x50 hx50 h=>Bd h fun x51 hx51 h=>S0 (ZI mix (rM 9 [(3,Pd.el (x50:Int)),(4,.eq (I x50)),(7,Pd.el (x51:Int)),(8,.eq (I x51))] [] c (fun ow=>⟨Zd ow (Nid c (.f 0) (kN hx50)),Zd ow (Nld c 3 (q:=x50) (atM 3 (p:=.el (x50:Int)))),Zd ow (Nid c (.f 1) (kN hx51)),Zd ow (Nld c 7 (q:=x51) (atM 7 (p:=.el (x51:Int)))),tt⟩) fun _ _ _ _ _ c=>Bd h fun x52 hx52 h=>Ca [0,1] c (ZM hx52) tt call114 fun i33 _ _ c=>?_)))))
 refine Fp [] 1 c fun _ c=>E0 (T1 (Fp [] 4 c fun _ c=>Bd h fun x53 hx53 h=>Ca [1,2] c (Zr hx53) tt call109 fun i34 _ _ c=>?_))
 refine Fp [] 1 c fun _ c=>E1 (bk (tn (P1 [] c fun _ c=>Nx h (i34.1,i34.2) (c.rk [1,2,0] [0,1]))))
 refine wp_exit (te (te (be ?_)))
 obtain rfl:=hr5 _ (sk h)
 exact tn ⟨(i32.1,i32.2),c.rk [0,1,2] [0,1]⟩
 refine T1 (Fp [] 1 c fun _ c=>Elt 3 ([rl5.1]:List Int) c fun a20 c20 _ _ c=>?_)
 refine Fp [] 1 c fun _ c=>E1 (bk (tn (P0 [] c fun _ c=>?_)))
 replace c:=c.fz 3
 cases h
 exact wp_ret (Rt c (a20,c20,k5.1,k5.2) [0,1] [2])
 refine P0 [] c fun _ c=>I0 c h (fun h=>?_) fun h=>?_
 refine T1 (Fp [] 3 c fun _ c=>Bd h fun x54 hx54 h=>Ca [0,1] c (ZL hx54) ⟨.f 0,.f 1,tt⟩ call116 fun i35 _ _ c=>?_)
 refine Elt 3 ([x54.1]:List Int) c fun a21 c21 _ _ c=>?_
 refine Fp [] 1 c fun _ c=>E1 (bk (tn (P0 [] c fun _ c=>?_)))
 replace c:=c.fz 3
 cases h
 exact wp_ret (Rt c (a21,c21,i35.1,i35.2) [1,2] [2])
 refine P0 [] c fun _ c=>I0 c h (fun h=>?_) fun h=>?_
 refine T1 (Fp [] 2 c fun _ c=>Bd h fun x55 hx55 h=>Cb c (Y3 hx55) ⟨.f 0,tt⟩ call117 fun i36 _ _ c=>?_)
 refine Fp [] 1 c fun _ c=>Bd h fun x56 hx56 h=>Cb c (Y3 hx56) ⟨.f 1,tt⟩ call117 fun i37 _ _ c=>?_
 refine Bd h fun x57 hx57 h=>Ca [0,1] c (ZL hx57) ⟨.g 1,.g 2,tt⟩ call116 fun i38 _ _ c=>?_
 refine Elt 3 ([x57.1]:List Int) c fun a22 c22 _ _ c=>?_
 refine Fp [] 1 c fun _ c=>E1 (bk (tn (P0 [] c fun _ c=>?_)))
 replace c:=c.fz 5
 cases h
 exact wp_ret (Rt c (a22,c22,i38.1,i38.2) [3,4] [2])
 refine K1 (bk (tn (P0 [] c fun _ c=>?_)))
 replace c:=c.fz 2
 cases h
 exact wp_ret (Rt c (a1,c1,ga1,gc2) [0,1] [2])
 refine P0 [] c fun _ c=>Mp (p1 == 12) [(109,.bool (p1 == 12))] [(109,.bool (p1 == 13))] [(109,.bool ((p1 == 12) || (p1 == 13)))] [109,112] c fun _ c=>I0 c h (fun h=>?_) fun h=>?_
 refine T1 (Fp [] 4 c fun _ c=>Bd h fun x58 hx58 h=>Cf [0,1] c (YF hx58) ⟨.f 0,.f 1,tt⟩ call115 fun i39 _ _ c=>?_)
 refine Fp [] 1 c fun _ c=>E1 (bk (tn (P0 [] c fun _ c=>?_)))
 cases h
 exact wp_ret (Rt c (i39.1,i39.2.1,i39.p2,i39.q3) [1,2] [2])
 refine P0 [] c fun _ c=>I0 c h (fun h=>?_) fun h=>?_
 refine P0 [] c fun _ c=>S0 (P0 [] c fun _ c=>Bd h fun rl6 hit6 h=>Lp (fun s6  (i:Oh)=>([(0,B gb0 0),(2,L ga4 p2 gc5),(3,L ga6 p3 gc7),(12,I s6.1),(121,I (len p2)),(122,I s6.2.1)],fun Γ=>(Γ.set 0 (BX gb0 84 [I s6.p2,L i.1 s6.q4 i.2,.bool s6.p3])).set 1 (sl88 (L i.1 s6.q4 i.2) s6.q4),[])) (fun  (i:Oh)=>([(12,I rl6.1)],fun Γ=>(Γ.set 0 (BX gb0 84 [I rl6.2.1,L i.1 rl6.q3 i.2,.bool rl6.p2])).set 1 (sl88 (L i.1 rl6.q3 i.2) rl6.q3),[])) hit6 c (ga1,gc2) (c.rk [0,1,2] [0,1]) (fun s6 q6 i40 _ _ c h hr6=>?_) fun k6 _ _ c=>?_)
 refine P0 [] c fun _ c=>S0 (I0 c h (fun h=>?_) fun h=>?_)
 refine K0 (S0 (wp_block (P0 [] c fun _ c=>Bd h fun x59 hx59 h=>Bd h fun x60 hx60 h=>S0 (ZI mix (rM 9 [(3,Pd.el (x59:Int)),(4,.eq (I x59)),(7,Pd.el (x60:Int)),(8,.eq (I x60))] [] c (fun ow=>⟨Zd ow (Nid c (.f 0) (kN hx59)),Zd ow (Nld c 3 (q:=x59) (atM 3 (p:=.el (x59:Int)))),Zd ow (Nid c (.f 1) (kN hx60)),Zd ow (Nld c 7 (q:=x60) (atM 7 (p:=.el (x60:Int)))),tt⟩) fun _ _ _ _ _ c=>Bd h fun x61 hx61 h=>Ca [0,1] c (ZM hx61) tt call114 fun i41 _ _ c=>?_)))))
 refine Fp [] 1 c fun _ c=>E0 (T1 (Fp [] 4 c fun _ c=>Bd h fun x62 hx62 h=>Ca [1,2] c (Zr hx62) tt call109 fun i42 _ _ c=>?_))
 refine Fp [] 1 c fun _ c=>E1 (bk (tn (P1 [] c fun _ c=>Nx h (i42.1,i42.2) (c.rk [1,2,0] [0,1]))))
 refine wp_exit (te (te (be ?_)))
 obtain rfl:=hr6 _ (sk h)
 exact tn ⟨(i40.1,i40.2),c.rk [0,1,2] [0,1]⟩
 refine T1 (Fp [] 1 c fun _ c=>Elt 3 ([rl6.1]:List Int) c fun a23 c23 _ _ c=>?_)
 refine Fp [] 1 c fun _ c=>E1 (bk (tn (P0 [] c fun _ c=>?_)))
 replace c:=c.fz 3
 cases h
 exact wp_ret (Rt c (a23,c23,k6.1,k6.2) [0,1] [2])
 refine P0 [] c fun _ c=>I0 c h (fun h=>?_) fun h=>?_
 refine T1 (Fp [] 3 c fun _ c=>Bd h fun x63 hx63 h=>Ca [0,1] c (ZL hx63) ⟨.f 0,.f 1,tt⟩ call116 fun i43 _ _ c=>?_)
 refine Elt 3 ([x63.1]:List Int) c fun a24 c24 _ _ c=>?_
 refine Fp [] 1 c fun _ c=>E1 (bk (tn (P0 [] c fun _ c=>?_)))
 replace c:=c.fz 3
 cases h
 exact wp_ret (Rt c (a24,c24,i43.1,i43.2) [1,2] [2])
 refine P0 [] c fun _ c=>I0 c h (fun h=>?_) fun h=>?_
 refine T1 (Fp [] 2 c fun _ c=>Bd h fun x64 hx64 h=>Cb c (Y3 hx64) ⟨.f 0,tt⟩ call117 fun i44 _ _ c=>?_)
 refine Fp [] 1 c fun _ c=>Bd h fun x65 hx65 h=>Cb c (Y3 hx65) ⟨.f 1,tt⟩ call117 fun i45 _ _ c=>?_
 refine Bd h fun x66 hx66 h=>Ca [0,1] c (ZL hx66) ⟨.g 1,.g 2,tt⟩ call116 fun i46 _ _ c=>?_
 refine Elt 3 ([x66.1]:List Int) c fun a25 c25 _ _ c=>?_
 refine Fp [] 1 c fun _ c=>E1 (bk (tn (P0 [] c fun _ c=>?_)))
 replace c:=c.fz 5
 cases h
 exact wp_ret (Rt c (a25,c25,i46.1,i46.2) [3,4] [2])
 refine K1 (bk (tn (P0 [] c fun _ c=>?_)))
 replace c:=c.fz 2
 cases h
 exact wp_ret (Rt c (a1,c1,ga1,gc2) [0,1] [2])
theorem ZbN {n:Nat}:∀ {p0 p1 p2 gb0 ga1 gc2 gn3 ga4 gc5 ga6 gc7 r} (h:ZO n p0 p1 p2 = some r),Con prog 47 [B gb0 0,tV p1 ga4 gc5,L ga6 p2 gc7] [BX gb0 84 [I p0.c.Inputs,.slice ga1 gn3 gc2,.bool p0.full],sl88 (.slice ga1 gn3 gc2) p0.c.Gates] [lR ga4 p1.Kids gc5,lR ga6 p2 gc7] fun (i:Ob Oh)=>([L i.1 r.1 i.2.1],[BX gb0 84 [I r.2.c.Inputs,L i.p2 r.2.c.Gates i.q3,.bool r.2.full],sl88 (L i.p2 r.2.c.Gates i.q3) r.2.c.Gates],[lR i.1 r.1 i.2.1]):=by
 induction n with
 | zero=>intro p0 p1 p2 gb0 ga1 gc2 gn3 ga4 gc5 ga6 gc7 r h; simp [ZO] at h
 | succ n ih=>
 intro p0 p1 p2 gb0 ga1 gc2 gn3 ga4 gc5 ga6 gc7 r h
 rw [ZO] at h
 refine En func47 rfl ntmps47 fun _ fr w c=>?_
 obtain ⟨rfl,c⟩:=c.relen 1
 refine T0 (Ebx (tC p1 ga4 gc5) c fun b1 _ _ c=>?_)
 refine Fp [] 1 c fun _ c=>E0 (S0 (P0 [(1,1)] c fun _ c=>I0 c h (fun h=>?_) fun h=>?_))
 refine T0 (Fp [(1,1),(3,1)] 4 c fun _ c=>Bd h fun x1 hx1 h=>Cb c (ZbU hx1) tt call75 fun i1 _ _ c=>?_)
 refine Fp [] 1 c fun _ c=>E0 ?_
 replace c:=c.fz 3
 cases h
 exact wp_ret (tr (Rt c (i1.1,i1.2,ga1,gc2) [0,1] [2]))
 refine K0 (S0 (P0 [(1,1)] c fun _ c=>I0 c h (fun h=>?_) fun h=>?_))
 refine P0 [] c fun _ c=>S0 (P0 [] c fun _ c=>Bd h fun rl1 hit1 h=>Lp (fun s1  (_:Unit)=>([(4,B b1 0),(7,I s1.1),(30,L ga6 p2 gc7),(31,I (len p2)),(32,I s1.2)],id,[])) (fun  (_:Unit)=>([(4,B b1 0),(7,I rl1)],id,[])) hit1 c () (c.rk [0,1,2] [0,1]) (fun s1 q1 _ _ _ c h hr1=>?_) fun _ _ _ c=>?_)
 refine P0 [] c fun _ c=>S0 (I0 c h (fun h=>?_) fun h=>?_)
 refine K0 (S0 (wp_block (T0 (Bd h fun x2 hx2 h=>Eel c (.f 1) hx2 fun _ _ c=>?_))))
 refine Eal [Str.val ⟨[]⟩,I 0,I 0] c fun b2 _ _ c=>?_
 refine Ess 3 (vC x2) c fun _ c=>?_
 refine E0 (P0 [(2,2)] c fun _ c=>P0 [(1,2),(3,1)] c fun _ c=>I0 c h (fun h=>?_) fun h=>?_)
 refine wp_exit (bn (te (te (be ?_))))
 obtain rfl:=hr1 _ (sk h)
 exact tn ⟨(),c.rk [0,1,2] [0,1]⟩
 refine K1 (bk (tn (P1 [] c fun _ c=>Nx h () (c.rk [0,1,2] [0,1]))))
 refine wp_exit (te (te (be ?_)))
 obtain rfl:=hr1 _ (sk h)
 exact tn ⟨(),c.rk [0,1,2] [0,1]⟩
 refine T0 (Elt 3 ([]:List Int) c fun a1 c1 _ _ c=>?_)
 refine Fp [] 1 c fun _ c=>E0 (S0 (P0 [] c fun _ c=>Bd h fun rl2 hit2 h=>Lp (fun s2  (i:Oh)=>([(4,B b1 0),(7,I rl1),(10,L i.1 s2.2 i.2),(11,I s2.1)],fun Γ=>Γ.set 3 (sl3 (L i.1 s2.2 i.2) s2.2),[])) (fun  (i:Oh)=>([(10,L i.1 rl2 i.2)],fun Γ=>Γ.set 3 (sl3 (L i.1 rl2 i.2) rl2),[])) hit2 c (a1,c1) (c.rk (rg 4) [0,1]) (fun s2 q2 i2 _ _ c h hr2=>?_) fun k1 _ _ c=>?_))
 refine S0 (P0 [(2,1)] c fun _ c=>I0 c h (fun h=>?_) fun h=>?_)
 refine K0 (S0 (wp_block (T1 (Fp [] 4 c fun _ c=>Elt 3 ([(w64 (rl1 - s2.1))]:List Int) c fun a2 c2 _ _ c=>?_))))
 refine Bd h fun x3 hx3 h=>Eap 3 c (.g 4) hx3 fun a3 c3 _ _ c=>?_
 refine Fp [] 1 c fun _ c=>E1 (bk (tn (P1 [] c fun _ c=>Nx h (a3,c3) (c.rk (rg 4) [0,1]))))
 refine wp_exit (te (te (be ?_)))
 obtain rfl:=hr2 _ (sk h)
 exact tn ⟨(i2.1,i2.2),c.rk (rg 4) [0,1]⟩
 refine P0 [] c fun _ c=>?_
 replace c:=c.fz 3
 cases h
 exact wp_ret (tr (Rt c (k1.1,k1.2,ga1,gc2) [0,1] [2]))
 refine K0 (T0 (Eltr 47 ([]:List Hd) ([]:List (List Int)) c tt fun a4 c4 _ _ c=>?_))
 refine Fp [] 1 c fun _ c=>E0 (S0 (P0 [(1,1)] c fun _ c=>Bd h fun rl3 hit3 h=>Lp (fun s3  (i:List Hd × Ob Oh)=>([(0,B gb0 0),(2,L ga6 p2 gc7),(4,B b1 0),(12,L i.p3 s3.2.1 i.q4),(62,L ga4 p1.Kids gc5),(63,I (len p1.Kids)),(64,I s3.1)],fun Γ=>((Γ.set 0 (BX gb0 84 [I s3.p2,L i.2.1 s3.q4 i.p2,.bool s3.p3])).set 1 (sl88 (L i.2.1 s3.q4 i.p2) s3.q4)).set 3 (sl47 (L i.p3 s3.2.1 i.q4) (i.1)),[CS (i.1) s3.2.1])) (fun  (i:List Hd × Ob Oh)=>([(0,B gb0 0),(4,B b1 0),(12,L i.p3 rl3.1 i.q4)],fun Γ=>((Γ.set 0 (BX gb0 84 [I rl3.2.1,L i.2.1 rl3.q3 i.p2,.bool rl3.p2])).set 1 (sl88 (L i.2.1 rl3.q3 i.p2) rl3.q3)).set 3 (sl47 (L i.p3 rl3.1 i.q4) (i.1)),[CS (i.1) rl3.1])) hit3 c (([]:List Hd),ga1,gc2,a4,c4) (c.rk (rg 4) [0,1,2,2]) (fun s3 q3 i3 _ _ c h hr3=>?_) fun k2 _ _ c=>?_))
 refine P0 [] c fun _ c=>S0 (I0 c h (fun h=>?_) fun h=>?_)
 refine K0 (S0 (wp_block (T0 (Bd h fun x4 hx4 h=>Eem c (.f 0) hx4 fun _ u1 _ c=>?_))))
 obtain ⟨a5,c5,rfl,c⟩:=c.o_Term 4
 refine Eal tZ c fun b3 _ _ c=>?_
 refine Ess 4 (tC x4 a5 c5) c fun _ c=>?_
 refine E0 (T1 (Fp [(2,2)] 4 c fun _ c=>?_))
 replace c:=c.nf
 refine Bd h fun x5 hx5 h=>Cf [0,1] c (ih hx5) ⟨.f 5,.f 1,tt⟩ call47 fun i4 _ _ c=>?_
 refine Eltr 47 ([(hd i4.1 x5.1 i4.2.1)]:List Hd) ([x5.1]:List (List Int)) c ⟨.f 6,tt⟩ fun a6 c6 _ _ c=>?_
 replace c:=c.fzr 5 7
 refine Bd h fun x6 hx6 h=>Eapr 1 3 c (.f 8) hx6 fun rm1 a7 c7 _ _ c=>?_
 refine Fp [] 1 c fun _ c=>E1 (bk (tn (P1 [] c fun _ c=>Nx h ((i3.1 ++ rm1),i4.p2,i4.q3,a7,c7) (c.rk [3,4,0,1] [0,1,2,9]))))
 refine wp_exit (te (te (be ?_)))
 obtain rfl:=hr3 _ (sk h)
 exact tn ⟨(i3.1,i3.2.1,i3.p2,i3.p3,i3.q4),c.rk (rg 4) (rg 4)⟩
 refine T0 (Fp [] 1 c fun _ c=>Bd h fun x7 hx7 h=>Eemr 3 3 c hx7 fun _ u2 _ c=>?_)
 obtain ⟨a8,c8,rfl⟩:=c.sl 4
 refine Fp [] 1 c fun _ c=>E0 (S0 (P0 [(1,1)] c fun _ c=>wp_block (P0 [] c fun _ c=>I0 c h (fun h=>?_) fun h=>?_)))
 refine T0 (Fp [] 1 c fun _ c=>Bd h fun x8 hx8 h=>Cb c (Zau hx8) ⟨.f 4,tt⟩ call76 fun i5 _ _ c=>?_)
 refine Fp [] 1 c fun _ c=>E0 ?_
 replace c:=c.fz 4
 cases h
 exact wp_ret (br (tr (Rt c (i5.1,i5.2,k2.2.1,k2.p2) [0,1] [5])))
 refine P0 [] c fun _ c=>I0 c h (fun h=>?_) fun h=>?_
 refine T1 (Fp [(1,1)] 2 c fun _ c=>Bd h fun x9 hx9 h=>Cb c (ZbU hx9) tt call75 fun i6 _ _ c=>?_)
 refine Fp [] 1 c fun _ c=>?_
 replace c:=c.fz 4
 refine Eltr 47 ([(hd i6.1 x9 i6.2),(hd a8 x7 c8)]:List Hd) ([x9,x7]:List (List Int)) c ⟨.f 5,.f 4,tt⟩ fun a9 c9 _ _ c=>?_
 refine Fp [] 1 c fun _ c=>E1 (bk (tn (P0 [(1,1)] c fun _ c=>S0 (P0 [] c fun _ c=>Mp (p1.Op == 2) [(18,I 4)] [(18,I p1.Op)] [(18,I (cond (p1.Op == 2) 4 p1.Op))] [18] c fun _ c=>S0 (T0 (Fp [] 1 c fun _ c=>Bd h fun x10 hx10 h=>Eemr 4 6 c hx10 fun _ u3 _ c=>?_))))))
 obtain ⟨a10,c10,rfl⟩:=c.sl 7
 refine Fp [] 2 c fun _ c=>E0 (I0 c h (fun h=>?_) fun h=>?_)
 refine T0 (Fp [] 3 c fun _ c=>Esb 0 2 (.bool true) c fun _ c=>?_)
 refine E0 (T0 (Fp [(1,1)] 2 c fun _ c=>?_))
 replace c:=c.nf
 refine Bd h fun x11 hx11 h=>Cb c (YJ hx11) tt call78 fun i7 _ _ c=>?_
 refine Fp [] 1 c fun _ c=>E0 ?_
 replace c:=c.fz 5
 cases h
 exact wp_ret (tr (Rt c (i7.1,i7.2,k2.2.1,k2.p2) [0,1] [8]))
 refine K0 (Bd h fun x12 hx12 h=>?_)
 obtain ⟨ep1,u4,he1,c⟩:=c.elo 4 6 hx12
 obtain ⟨a11,c11,rfl⟩:=c.sl 8
 refine Bd h fun x13 hx13 h=>?_
 obtain ⟨ep2,u5,he2,c⟩:=c.elo 4 6 hx13
 obtain ⟨a12,c12,rfl⟩:=c.sl 9
 refine S0 (ZI mix (rM 8 [(3,.eq (.pointer (some ep1))),(4,.eq (L a11 x12 c11)),(6,.eq (.pointer (some ep2))),(7,.eq (L a12 x13 c12))] [] c (fun ow=>⟨Zd ow (NieW c he1),Zd ow (NleW c he1),Zd ow (NieW c he2),Zd ow (NleW c he2),tt⟩) fun _ _ _ _ _ c=>Bd h fun x14 hx14 h=>Cf [0,1] c (ZaB hx14) ⟨.f 8,.f 9,tt⟩ call79 fun i8 _ _ c=>?_))
 refine Fp [] 1 c fun _ c=>E0 ?_
 cases h
 exact wp_ret (Rt c (i8.1,i8.2.1,i8.p2,i8.q3) [3,4] [10])
 refine P0 [] c fun _ c=>I0 c h (fun h=>?_) fun h=>?_
 refine T0 (Elt 3 ([]:List Int) c fun a13 c13 _ _ c=>?_)
 refine Fp [] 1 c fun _ c=>E0 (S0 (P0 [] c fun _ c=>Bd h fun rl4 hit4 h=>Lp (fun s4  (i:Ob Oh)=>([(0,B gb0 0),(4,B b1 0),(12,L k2.p3 rl3.1 k2.q4),(15,L a8 x7 c8),(16,L i.p2 s4.2.1 i.q3),(17,I s4.1)],fun Γ=>((Γ.set 0 (BX gb0 84 [I s4.p2,L i.1 s4.q4 i.2.1,.bool s4.p3])).set 1 (sl88 (L i.1 s4.q4 i.2.1) s4.q4)).set 4 (sl3 (L i.p2 s4.2.1 i.q3) s4.2.1),[])) (fun  (i:Ob Oh)=>([(16,L i.p2 rl4.1 i.q3)],fun Γ=>((Γ.set 0 (BX gb0 84 [I rl4.2.1,L i.1 rl4.q3 i.2.1,.bool rl4.p2])).set 1 (sl88 (L i.1 rl4.q3 i.2.1) rl4.q3)).set 4 (sl3 (L i.p2 rl4.1 i.q3) rl4.1),[])) hit4 c (k2.2.1,k2.p2,a13,c13) (c.rk (rg 5) (rg 5)) (fun s4 q4 i9 _ _ c h hr4=>?_) fun k3 _ _ c=>?_))
 refine S0 (P0 [(2,1)] c fun _ c=>I0 c h (fun h=>?_) fun h=>?_)
 refine K0 (S0 (wp_block (ZI mix ?_)))
 refine Rh 0 ?_
 refine Bd h fun x15 hx15 h=>Bd h fun x16 hx16 h=>?_
 obtain ⟨ep3,u6,he3,c⟩:=c.elo 3 3 hx16
 obtain ⟨a14,c14,rfl⟩:=c.sl 5
 refine Bd h fun x17 hx17 h=>Bd h fun x18 hx18 h=>?_
 obtain ⟨ep4,u7,he4,c⟩:=c.elo 3 3 hx18
 obtain ⟨a15,c15,rfl⟩:=c.sl 6
 refine Bd h fun x19 hx19 h=>rM 17 [(3,Pd.el (x15:Int)),(4,.eq (I x15)),(6,.eq (.pointer (some ep3))),(7,.eq (L a14 x16 c14)),(9,Pd.el (x17:Int)),(10,.eq (I x17)),(12,.eq (.pointer (some ep4))),(13,.eq (L a15 x18 c15)),(15,Pd.el (x19:Int)),(16,.eq (I x19))] [] c (fun ow=>⟨Zd ow (Nid c (.f 4) (kN hx15)),Zd ow (Nld c 3 (q:=x15) (atM 3 (p:=.el (x15:Int)))),Zd ow (NieW c he3),Zd ow (NleW c he3),Zd ow (Nid c (.f 5) (kN hx17)),Zd ow (Nld c 9 (q:=x17) (atM 9 (p:=.el (x17:Int)))),Zd ow (NieW c he4),Zd ow (NleW c he4),Zd ow (Nid c (.f 6) (kN hx19)),Zd ow (Nld c 15 (q:=x19) (atM 15 (p:=.el (x19:Int)))),tt⟩) fun _ _ _ _ _ c=>?_
 refine Bd h fun x20 hx20 h=>Ca [0,1] c (ZV hx20) tt call77 fun i10 _ _ c=>?_
 refine Elt 3 ([x20.1]:List Int) c fun a16 c16 _ _ c=>?_
 replace c:=c.nf
 refine Bd h fun x21 hx21 h=>Eap 2 c (.g 5) hx21 fun a17 c17 _ _ c=>?_
 refine Fp [] 1 c fun _ c=>E1 (bk (tn (P1 [] c fun _ c=>Nx h (i10.1,i10.2,a17,c17) (c.rk [3,4,0,1,2] (rg 5)))))
 refine wp_exit (te (te (be ?_)))
 obtain rfl:=hr4 _ (sk h)
 exact tn ⟨(i9.1,i9.2.1,i9.p2,i9.q3),c.rk (rg 5) (rg 5)⟩
 refine P0 [] c fun _ c=>?_
 replace c:=c.fz 4
 cases h
 exact wp_ret (br (tr (Rt c (k3.p2,k3.q3,k3.1,k3.2.1) [0,1] [5])))
 refine P0 [] c fun _ c=>I0 c h (fun h=>?_) fun h=>?_
 refine T0 (Elt 3 ([]:List Int) c fun a18 c18 _ _ c=>?_)
 refine Fp [] 1 c fun _ c=>Bd h fun x22 hx22 h=>Eemr 3 3 c hx22 fun _ u8 _ c=>?_
 obtain ⟨a19,c19,rfl⟩:=c.sl 5
 refine Bd h fun x23 hx23 h=>Eap 4 c (.f 5) hx23 fun a20 c20 _ _ c=>?_
 refine Fp [] 1 c fun _ c=>Bd h fun x24 hx24 h=>Eap 4 c (.f 4) hx24 fun a21 c21 _ _ c=>?_
 refine Fp [] 1 c fun _ c=>E0 ?_
 replace c:=c.fz 4
 cases h
 exact wp_ret (br (tr (Rt c (a21,c21,k2.2.1,k2.p2) [0,1] [6])))
 refine P0 [] c fun _ c=>I0 c h (fun h=>?_) fun h=>?_
 refine T0 (Fp [(2,1),(4,1),(6,1)] 8 c fun _ c=>Bd h fun x25 hx25 h=>Esl 3 c (.f 4) hx25 fun u9 _ c=>?_)
 obtain ⟨a22,c22,rfl⟩:=c.sl 5
 refine Fp [] 1 c fun _ c=>E0 ?_
 cases h
 exact wp_ret (br (tr (Rt c (a22,c22,k2.2.1,k2.p2) [0,1] [5])))
 refine P0 [] c fun _ c=>I0 c h (fun h=>?_) fun h=>?_
 refine Bd h fun x26 hx26 h=>S0 (ZI mix (rM 8 [(0,Pd.l0),(2,Pd.nw c.wd 2 (fun i:Oh=>L i.1 x26 i.2) (fun i=>SL 3 (L i.1 x26 i.2) x26))] [(4,1)] c (fun ow=>⟨Zd ow (Nl0 3 c),Nap0 c 0 (atM 0 (p:=.l0)) (.f 4) (kN hx26),tt⟩) fun ow _ _ hE hc cq=>?_))
 obtain ⟨i11,hi11⟩:=hE.nw 2 146
 replace c:=Cx.newt c hc cq [(2,146,_,_)] ⟨hi11,tt⟩
 refine Bd h fun x27 hx27 h=>Cb c (YJ hx27) tt call78 fun i12 _ _ c=>?_
 replace c:=c.nf
 refine Bd h fun x28 hx28 h=>Eap 4 c (.g 5) hx28 fun a23 c23 _ _ c=>?_
 refine Fp [] 1 c fun _ c=>E0 ?_
 replace c:=c.fz 4
 cases h
 exact wp_ret (br (tr (Rt c (a23,c23,k2.2.1,k2.p2) [0,1] [5])))
 refine P0 [] c fun _ c=>I0 c h (fun h=>?_) fun h=>?_
 refine Bd h fun x29 hx29 h=>Bd h fun x30 hx30 h=>S0 (ZI mix (rM 14 [(0,Pd.l0),(2,Pd.nw c.wd 2 (fun i:Oh=>L i.1 x29 i.2) (fun i=>SL 3 (L i.1 x29 i.2) x29)),(12,Pd.el (x30:Int)),(13,.eq (I x30))] [(4,1)] c (fun ow=>⟨Zd ow (Nl0 3 c),Nap0 c 0 (atM 0 (p:=.l0)) (.f 4) (kN hx29),Zd ow (Nid c (.f 4) (kN hx30)),Zd ow (Nld c 12 (q:=x30) (atM 12 (p:=.el (x30:Int)))),tt⟩) fun ow _ _ hE hc cq=>?_))
 obtain ⟨i13,hi13⟩:=hE.nw 2 158
 replace c:=Cx.newt c hc cq [(2,158,_,_)] ⟨hi13,tt⟩
 refine Bd h fun x31 hx31 h=>Cb c (YJ hx31) tt call78 fun i14 _ _ c=>?_
 replace c:=c.nf
 refine Bd h fun x32 hx32 h=>Eap 4 c (.g 5) hx32 fun a24 c24 _ _ c=>?_
 refine Fp [] 1 c fun _ c=>E0 ?_
 replace c:=c.fz 4
 cases h
 exact wp_ret (br (tr (Rt c (a24,c24,k2.2.1,k2.p2) [0,1] [5])))
 refine K1 (bk (tn (P0 [(1,1)] c fun _ c=>S0 (P0 [] c fun _ c=>Mp (p1.Op == 2) [(18,I 4)] [(18,I p1.Op)] [(18,I (cond (p1.Op == 2) 4 p1.Op))] [18] c fun _ c=>S0 (T0 (Fp [] 1 c fun _ c=>Bd h fun x33 hx33 h=>Eemr 3 3 c hx33 fun _ u10 _ c=>?_))))))
 obtain ⟨a25,c25,rfl⟩:=c.sl 5
 refine Fp [] 2 c fun _ c=>E0 (I0 c h (fun h=>?_) fun h=>?_)
 refine T0 (Fp [] 3 c fun _ c=>Esb 0 2 (.bool true) c fun _ c=>?_)
 refine E0 (T0 (Fp [(1,1)] 2 c fun _ c=>Bd h fun x34 hx34 h=>Cb c (YJ hx34) tt call78 fun i15 _ _ c=>?_))
 refine Fp [] 1 c fun _ c=>E0 ?_
 replace c:=c.fz 4
 cases h
 exact wp_ret (tr (Rt c (i15.1,i15.2,k2.2.1,k2.p2) [0,1] [6]))
 refine K0 (Bd h fun x35 hx35 h=>?_)
 obtain ⟨ep5,u11,he5,c⟩:=c.elo 3 3 hx35
 obtain ⟨a26,c26,rfl⟩:=c.sl 6
 refine Bd h fun x36 hx36 h=>?_
 obtain ⟨ep6,u12,he6,c⟩:=c.elo 3 3 hx36
 obtain ⟨a27,c27,rfl⟩:=c.sl 7
 refine S0 (ZI mix (rM 8 [(3,.eq (.pointer (some ep5))),(4,.eq (L a26 x35 c26)),(6,.eq (.pointer (some ep6))),(7,.eq (L a27 x36 c27))] [] c (fun ow=>⟨Zd ow (NieW c he5),Zd ow (NleW c he5),Zd ow (NieW c he6),Zd ow (NleW c he6),tt⟩) fun _ _ _ _ _ c=>Bd h fun x37 hx37 h=>Cf [0,1] c (ZaB hx37) ⟨.f 6,.f 7,tt⟩ call79 fun i16 _ _ c=>?_))
 refine Fp [] 1 c fun _ c=>E0 ?_
 cases h
 exact wp_ret (Rt c (i16.1,i16.2.1,i16.p2,i16.q3) [2,3] [8])
theorem Zdh {p0 r} (h:XD n p0 = some r):Con prog 22 [tV p0 ga0 gc1] [] [lR ga0 p0.Kids gc1] fun (i:Ob Oh)=>([.agg #[I r.1.Inputs,L i.1 r.1.Gates i.2.1],L i.p2 r.2.1 i.q3,.bool r.2.2],[sl88 (L i.1 r.1.Gates i.2.1) r.1.Gates,sl3 (L i.p2 r.2.1 i.q3) r.2.1],[]):=by
 unfold XD at h
 refine En func22 rfl ntmps22 fun _ fr w c=>?_
 refine T0 (Ebx (tC p0 ga0 gc1) c fun b1 _ _ c=>?_)
 refine Eal [I 0,L none ([]:List D.Gate) 0] c fun b2 _ _ c=>?_
 refine Fp [] 2 c fun _ c=>E0 (T0 (Fp [(0,0)] 1 c fun _ c=>Bd h fun x1 hx1 h=>Cg c (Zca hx1) ⟨.f 0,tt⟩ call36 fun i1 _ _ c=>?_))
 refine Fp [] 1 c fun _ c=>E0 (S0 (Bd h fun x2 hx2 h=>Bd h fun x3 hx3 h=>S0 (rZ [(1,.eq (.bool x2)),(5,.eq (I x3))] [(0,0)] mix c ⟨Ncl c (kN (XG hx2)) ⟨.f 0,tt⟩ call20,Ncl c (fun hg=>ZbV (iteF (gcF hg) hx3)) ⟨.f 1,tt⟩ call45,tt⟩ fun _ _ c=>I0 c h (fun h=>?_) fun h=>?_)))
 refine T0 (Fp [] 1 c fun _ c=>Ess 1 [I 0,L none ([]:List D.Gate) 0] c fun _ c=>?_)
 refine Fp [] 2 c fun _ c=>E0 ?_
 replace c:=c.nil (α:=D.Gate) 88
 replace c:=c.nil (α:=Int) 3
 cases h
 exact wp_ret (tr (Rg c (none,0,none,0) [2,3] [] (.cell (α:=Agg 1) kk (.b 1) (.tmp (.tmp .nil)))))
 refine K0 (T0 (Fp [] 1 c fun _ c=>Bd h fun x4 hx4 h=>Cb c (ZbV hx4) ⟨.f 1,tt⟩ call45 fun _ _ _ c=>?_))
 refine Fp [] 1 c fun _ c=>Bd h fun x5 hx5 h=>Cb c (ZeQ hx5) ⟨.nil,tt⟩ call46 fun i2 _ _ c=>?_
 refine Fp [] 1 c fun _ c=>E0 (T0 (Fp [(1,0)] 3 c fun _ c=>?_))
 replace c:=c.ng
 refine Bd h fun x6 hx6 h=>Cf [2,3] c (ZbN hx6) ⟨.f 0,.f 1,tt⟩ call47 fun i3 _ _ c=>?_
 refine Fp [] 1 c fun _ c=>E0 (S0 (P0 [(3,2)] c fun _ c=>I0 c h (fun h=>?_) fun h=>?_))
 refine T0 (Fp [] 1 c fun _ c=>Ess 1 [I 0,L none ([]:List D.Gate) 0] c fun _ c=>?_)
 refine Fp [] 2 c fun _ c=>E0 ?_
 replace c:=c.nil (α:=D.Gate) 88
 replace c:=c.nil (α:=Int) 3
 cases h
 exact wp_ret (tr (Rg c (none,0,none,0) [4,5] [] (.cell (α:=Agg 1) kk (.b 1) (.tmp (.tmp .nil)))))
 refine K0 (Bd h fun x7 hx7 h=>S0 (ZI mix (rM 7 [(4,Pd.l0),(6,Pd.nw c.wd 6 (fun i:Oh=>L i.1 x7 i.2) (fun i=>SL 3 (L i.1 x7 i.2) x7))] [(3,2)] c (fun ow=>⟨Zd ow (Nl0 3 c),Nap0 c 4 (atM 4 (p:=.l0)) (.f 2) (kN hx7),tt⟩) fun ow _ _ hE hc cq=>?_)))
 obtain ⟨i4,hi4⟩:=hE.nw 6 38
 replace c:=Cx.newt c hc cq [(6,38,_,_)] ⟨hi4,tt⟩
 refine Ess 1 [I x6.2.c.Inputs,L i3.p2 x6.2.c.Gates i3.q3] c fun _ c=>?_
 refine Fp [] 2 c fun _ c=>E0 ?_
 cases h
 exact wp_ret (Rg c (i3.p2,i3.q3,i4.1,i4.2) [3,4] [] (.cell (α:=Agg 1) kk (.b 1) (.tmp (.tmp .nil))))
theorem Zdt {p0 r} (h:XC n p0 = some r):C0 48 [.agg #[I p0.Inputs,L ga0 p0.Gates gc1]] [lR ga0 p0.Gates gc1] (.bool r):=by
 unfold XC at h
 refine En func48 rfl ntmps48 fun _ fr w c=>?_
 refine T0 (Ebx [I p0.Inputs,L ga0 p0.Gates gc1] c fun b1 _ _ c=>?_)
 refine Fp [] 1 c fun _ c=>E0 (S0 (Bd h fun x1 hx1 h=>S0 (rZ [(2,.eq (.bool x1))] [(1,0),(6,0)] mix c ⟨Ncl c (kN (Zt hx1)) tt call21,tt⟩ fun _ _ c=>I0 c h (fun h=>?_) fun h=>?_)))
 exact P0 [] c fun _ c=>rE
 refine K0 (S0 (P0 [(1,0)] c fun _ c=>Bd h fun rl1 hit1 h=>?_))
 have hk1:=h
 refine LpR (fun s1  (_:Unit)=>([(1,B b1 0),(19,L ga0 p0.Gates gc1),(20,I (len p0.Gates)),(21,I s1)],id,[])) (fun s  (_:Unit)=>([],id,[])) hit1 c () (c.rk [0] [0]) (fun s1 q1 _ _ _ c h hr1=>?_) fun s1r _ _ _ hrl c=>?_
 refine P0 [] c fun _ c=>S0 (I0 c h (fun h=>?_) fun h=>?_)
 refine K0 (S0 (wp_block (T0 (Fp [] 1 c fun _ c=>Bd h fun x2 hx2 h=>Eel c (.f 0) hx2 fun _ _ c=>?_))))
 refine Eal [I 0,I 0] c fun b2 _ _ c=>?_
 refine Fp [] 1 c fun _ c=>Ess 1 [I x2.A,I x2.B] c fun _ c=>?_
 refine E0 (P0 [(1,0)] c fun _ c=>S0 (Bd h fun x3 hx3 h=>Bd h fun x4 hx4 h=>Bd h fun x5 hx5 h=>Bd h fun x6 hx6 h=>Bd h fun x7 hx7 h=>S0 (rZ [(5,.eq (.bool x3)),(13,.eq (.bool x4)),(19,.eq (I x5)),(25,.eq (I x6)),(28,.eq (I x7))] [(1,1),(9,1),(18,1),(24,1),(27,1)] mix c ⟨Ncl c (kN (Zt hx3)) tt call21,Ncl c (fun hg=>Zt (iteF (gcF hg) hx4)) tt call21,Ncl c (fun hg=>ZG (iteF (gcF hg) hx5)) tt call80,Ncl c (fun hg=>ZG (iteF (gcF hg) hx6)) tt call80,Ncl c (fun hg=>ZG (iteF (gcF hg) hx7)) tt call80,tt⟩ fun _ _ c=>I0 c h (fun h=>?_) fun h=>?_)))
 refine P0 [] c fun _ c=>?_
 obtain rfl:=hr1 _ (sk h)
 obtain rfl:=sj hk1
 exact wp_ret (tr (br (tr (tr (br (tr (Rt c () [] [])))))))
 refine K0 (T0 (Fp [(1,0)] 3 c fun _ c=>Bd h fun x8 hx8 h=>Esl 88 c (.f 0) hx8 fun u1 _ c=>?_))
 obtain ⟨a1,c1,rfl⟩:=c.sl 1
 refine Fp [] 2 c fun _ c=>E0 (Bd h fun rl2 hit2 h=>?_)
 have hk2:=h
 refine Tq (LpR (fun s2  (_:Unit)=>([(1,B b1 0),(4,B b2 0),(19,L ga0 p0.Gates gc1),(20,I (len p0.Gates)),(21,I s1),(65,L a1 x8 c1),(66,I (len x8)),(67,I s2)],id,[])) (fun s  (_:Unit)=>([(1,B b1 0),(19,L ga0 p0.Gates gc1),(20,I (len p0.Gates)),(21,I s1)],id,[])) hit2 c () (c.rk [0,1] [0,1]) (fun s2 q2 _ _ _ c h hr2=>?_) fun s2r _ _ _ hrl c=>?_)
 refine P0 [] c fun _ c=>S0 (I0 c h (fun h=>?_) fun h=>?_)
 refine K0 (S0 (wp_block (T0 (Bd h fun x9 hx9 h=>Eel c (.f 1) hx9 fun _ _ c=>?_))))
 refine Eal [I 0,I 0] c fun b3 _ _ c=>?_
 refine Ess 2 [I x9.A,I x9.B] c fun _ c=>?_
 refine E0 (T0 (Fp [(0,1),(1,2)] 2 c fun _ c=>?_))
 replace c:=c.nf
 refine Ebin c (eqg88 _ _ _ _ _) (eq88 x2 x9 _) fun _ c=>?_
 refine E0 (I0 c h (fun h=>?_) fun h=>?_)
 refine P0 [] c fun _ c=>?_
 obtain rfl:=hr2 _ (sk h)
 obtain rfl:=hr1 _ (sk hk2)
 obtain rfl:=sj hk1
 exact wp_ret (br (tr (tr (br (tr (br (tr (tr (br (tr (Rt c () [] [])))))))))))
 refine K1 (bk (tn (P1 [] c fun _ c=>Nx h () (c.rk [0,1] [0,1]))))
 refine wp_exit (te (te (be ?_)))
 obtain rfl:=hr2 _ (sk h)
 exact tn ⟨_,(),rfl,c.rk [0,1] [0,1]⟩
 subst hrl
 refine bk (tn (P1 [] c fun _ c=>Nx h () (c.rk [0] [0])))
 refine wp_exit (te (te (be ?_)))
 obtain rfl:=hr1 _ (sk h)
 exact tn ⟨_,(),rfl,c.rk [0] [0]⟩
 subst hrl
 exact P0 [] c fun _ c=>rE
theorem ZbS {p0 p1 r} (h:YN n p0 p1 = some r):C0 52 [L ga0 p0 gc1,I p1] [lR ga0 p0 gc1] (.bool r):=by
 unfold YN at h
 refine En func52 rfl ntmps52 fun _ fr w c=>?_
 refine P0 [] c fun _ c=>S0 (P0 [] c fun _ c=>Bd h fun rl1 hit1 h=>?_)
 have hk1:=h
 refine LpR (fun s1  (_:Unit)=>([(1,I p1),(7,L ga0 p0 gc1),(8,I (len p0)),(9,I s1)],id,[])) (fun s  (_:Unit)=>([],id,[])) hit1 c () (c.rk [] [0]) (fun s1 q1 _ _ _ c h hr1=>?_) fun s1r _ _ _ hrl c=>?_
 refine P0 [] c fun _ c=>S0 (I0 c h (fun h=>?_) fun h=>?_)
 refine K0 (S0 (wp_block (T0 (Bd h fun x1 hx1 h=>Eel c (.f 0) hx1 fun _ _ c=>?_))))
 refine Fp [] 1 c fun _ c=>E0 (Bd h fun x2 hx2 h=>S0 (rZ [(7,.eq (.bool x2))] [] mix c ⟨Ncl c (fun hg=>Zt (iteF (gcF hg) hx2)) tt call21,tt⟩ fun _ _ c=>I0 c h (fun h=>?_) fun h=>?_))
 refine P0 [] c fun _ c=>?_
 obtain rfl:=hr1 _ (sk h)
 obtain rfl:=sj hk1
 exact wp_ret (br (tr (tr (br (tr (Rt c () [] []))))))
 refine K1 (bk (tn (P1 [] c fun _ c=>Nx h () (c.rk [] [0]))))
 refine wp_exit (te (te (be ?_)))
 obtain rfl:=hr1 _ (sk h)
 exact tn ⟨_,(),rfl,c.rk [] [0]⟩
 subst hrl
 exact P0 [] c fun _ c=>rE
theorem Zeg {p0 p1 r} (h:Zan n p0 p1 = some r):C0 49 [.agg #[I p0.Inputs,L ga0 p0.Gates gc1],L ga2 p1 gc3] [lR ga0 p0.Gates gc1,lR ga2 p1 gc3] (.bool r):=by
 unfold Zan at h
 refine En func49 rfl ntmps49 fun _ fr w c=>?_
 refine T0 (Ebx [I p0.Inputs,L ga0 p0.Gates gc1] c fun b1 _ _ c=>?_)
 refine Fp [] 1 c fun _ c=>E0 (T0 (Fp [(2,0),(5,0)] 8 c fun _ c=>Bd h fun x1 hx1 h=>Cb c (ZbS hx1) ⟨.f 1,tt⟩ call52 fun _ _ _ c=>?_))
 exact Fp [] 1 c fun _ c=>E0 rE
theorem Zbn {p0 r} (h:ZP n p0 = some r):Con prog 50 [L ga0 p0 gc1] [] [lR ga0 p0 gc1] fun (i:Oh)=>([L i.1 r.1 i.2,.bool r.2],[sl3 (L i.1 r.1 i.2) r.1],[]):=by
 unfold ZP at h
 refine En func50 rfl ntmps50 fun _ fr w c=>?_
 refine P0 [] c fun _ c=>T0 (Elt 3 ([]:List Int) c fun a1 c1 _ _ c=>?_)
 refine Fp [] 1 c fun _ c=>E0 (S0 (P0 [] c fun _ c=>Bd h fun rl1 hit1 h=>?_))
 have hk1:=h
 refine LpR (fun s1  (i:Oh)=>([(4,L i.1 s1.2 i.2),(10,L ga0 p0 gc1),(11,I (len p0)),(12,I s1.1)],fun Γ=>Γ.set 0 (sl3 (L i.1 s1.2 i.2) s1.2),[])) (fun s  (i:Oh)=>([(4,L i.1 s i.2)],fun Γ=>Γ.set 0 (sl3 (L i.1 s i.2) s),[])) hit1 c (a1,c1) (c.rk [0] [0]) (fun s1 q1 i1 _ _ c h hr1=>?_) fun s1r k1 _ _ hrl c=>?_
 refine P0 [] c fun _ c=>S0 (I0 c h (fun h=>?_) fun h=>?_)
 refine K0 (S0 (wp_block (T0 (Bd h fun x1 hx1 h=>Eel c (.f 0) hx1 fun _ _ c=>?_))))
 refine Fp [] 1 c fun _ c=>E0 (S0 (Bd h fun x2 hx2 h=>S0 (rZ [(4,.eq (.bool x2))] [] mix c ⟨Ncl c (fun hg=>Zt (iteF (gcF hg) hx2)) tt call21,tt⟩ fun _ _ c=>I0 c h (fun h=>?_) fun h=>?_)))
 refine P0 [] c fun _ c=>?_
 replace c:=c.nil (α:=Int) 3
 obtain rfl:=hr1 _ (sk h)
 obtain rfl:=sj hk1
 exact wp_ret (tr (br (tr (tr (br (tr (Rg c (none,0) [1] [] (.tmp (.tmp .nil)))))))))
 refine K0 (P0 [] c fun _ c=>Bd h fun rl2 hit2 h=>S0 (Lp (fun s2  (_:Unit)=>([(4,L i1.1 s1.2 i1.2),(6,I x1),(7,I s2),(10,L ga0 p0 gc1),(11,I (len p0)),(12,I s1.1)],id,[])) (fun  (_:Unit)=>([(4,L i1.1 s1.2 i1.2),(6,I x1),(7,I rl2),(10,L ga0 p0 gc1),(11,I (len p0)),(12,I s1.1)],id,[])) hit2 c () (c.rk [0] [0]) (fun s2 q2 _ _ _ c h hr2=>?_) fun _ _ _ c=>?_))
 refine S0 (Bd h fun x3 hx3 h=>Bd h fun x4 hx4 h=>Bd h fun x5 hx5 h=>S0 (rZ [(7,Pd.el (x3:Int)),(8,.eq (I x3)),(9,.eq (I x4)),(11,.eq (I x5))] [] mix c ⟨Nid c (.g 0) (gT hx3),Nld c 7 (q:=x3) (atN 7),Ncl c (fun hg=>ZG (iteT (gcT hg) hx4)) tt call80,Ncl c (fun hg=>ZG (iteT (gcT hg) hx5)) tt call80,tt⟩ fun _ _ c=>I0 c h (fun h=>?_) fun h=>?_))
 refine K0 (wp_block (Tq (P1 [] c fun _ c=>bk (tn (Nx h () (c.rk [0] [0]))))))
 refine wp_exit (te (te (be ?_)))
 obtain rfl:=hr2 _ (sk h)
 exact tn ⟨(),c.rk [0] [0]⟩
 refine S0 (Bd h fun x6 hx6 h=>S0 (rZ [(7,Pd.el (x6:Int)),(8,.eq (I x6))] [] mix c ⟨Nid c (.g 0) (gT hx6),Nld c 7 (q:=x6) (atN 7),tt⟩ fun _ _ c=>I0 c h (fun h=>?_) fun h=>?_))
 refine wp_exit (te (be ?_))
 refine tn (P1 [] c fun _ c=>Nx h (i1.1,i1.2) (c.rk [0] [0]))
 refine K0 (S0 (Bd h fun x7 hx7 h=>S0 (rZ [(7,Pd.el (x7:Int)),(8,.eq (I x7))] [] mix c ⟨Nid c (.g 0) (gT hx7),Nld c 7 (q:=x7) (atN 7),tt⟩ fun _ _ c=>I0 c h (fun h=>?_) fun h=>?_)))
 refine P0 [] c fun _ c=>?_
 replace c:=c.nil (α:=Int) 3
 obtain rfl:=hr1 _ (sk h)
 obtain rfl:=sj hk1
 exact wp_ret (tr (br (tr (tr (br (tr (Rg c (none,0) [1] [] (.tmp (.tmp .nil)))))))))
 refine K0 (T0 (Elt 3 ([]:List Int) c fun a2 c2 _ _ c=>?_))
 refine Fp [] 2 c fun _ c=>?_
 replace c:=c.fz 0
 refine Bd h fun x8 hx8 h=>Esl 3 c (.f 1) hx8 fun u1 _ c=>?_
 obtain ⟨a3,c3,rfl⟩:=c.sl 2
 refine Bd h fun x9 hx9 h=>Eap 0 c (.f 2) hx9 fun a4 c4 _ _ c=>?_
 refine Fp [] 1 c fun _ c=>E0 (T0 (Fp [] 2 c fun _ c=>Elt 3 ([x1]:List Int) c fun a5 c5 _ _ c=>?_))
 replace c:=c.nf
 refine Bd h fun x10 hx10 h=>Eap 0 c (.g 1) hx10 fun a6 c6 _ _ c=>?_
 refine Fp [] 1 c fun _ c=>E0 (T1 (Fp [] 3 c fun _ c=>Bd h fun x11 hx11 h=>Esl 3 c (.f 1) hx11 fun u2 _ c=>?_))
 obtain ⟨a7,c7,rfl⟩:=c.sl 3
 refine Bd h fun x12 hx12 h=>Eap 0 c (.f 3) hx12 fun a8 c8 _ _ c=>?_
 refine Fp [] 1 c fun _ c=>E1 (bk (tn (P1 [] c fun _ c=>Nx h (a8,c8) (c.rk [0] [0]))))
 refine wp_exit (te (te (be ?_)))
 obtain rfl:=hr1 _ (sk h)
 exact tn ⟨_,(i1.1,i1.2),rfl,c.rk [0] [0]⟩
 subst hrl
 refine P0 [] c fun _ c=>?_
 cases h
 exact wp_ret (Rg c (k1.1,k1.2) [0] [] (.tmp (.tmp .nil)))
theorem Zbx {p0 p1 r} (h:XK n p0 p1 = some r):Con prog 23 [.agg #[I p0.Inputs,L ga0 p0.Gates gc1],I p1] [] [lR ga0 p0.Gates gc1] fun (i:Ob (List Hd))=>([.agg #[I r.1.Vars,L i.1 r.1.Clauses i.2.1],.bool r.2],[sl47 (L i.1 r.1.Clauses i.2.1) (i.q2)],[CS i.q2 r.1.Clauses]):=by
 unfold XK at h
 refine En func23 rfl ntmps23 fun _ fr w c=>?_
 refine T0 (Ebx [I p0.Inputs,L ga0 p0.Gates gc1] c fun b1 _ _ c=>?_)
 refine Eal [I 0,L none ([]:List (List Int)) 0] c fun b2 _ _ c=>?_
 refine Fp [] 1 c fun _ c=>E0 (S0 (T0 (Fp [(0,0)] 1 c fun _ c=>Bd h fun x1 hx1 h=>Cb c (Zdt hx1) ⟨.f 0,tt⟩ call48 fun _ _ _ c=>?_)))
 refine Fp [] 1 c fun _ c=>Fp [] 1 c fun _ c=>?_
 rcases ZdH (b:=(!x1)) h with ⟨hg1,h⟩ | ⟨hg1,h⟩
 replace c:=c.eqs (v:=.bool (!x1)) (u:=.bool true) 17 (by rw [hg1])
 refine Gs c fun _ c=>Gs c fun _ c=>Gs c fun _ c=>Gs c fun _ c=>Gs c fun _ c=>Epk (b:=true) (v:=.bool true) c fun _ c=>E0 (I0 c h (fun h=>?_) fun h=>?_)
 refine T0 (Fp [] 1 c fun _ c=>Ess 1 [I 0,L none ([]:List (List Int)) 0] c fun _ c=>?_)
 refine Fp [] 1 c fun _ c=>E0 ?_
 replace c:=(c.nil (α:=Hd) 47).csn (ρ:=Hd) (α:=List Int)
 cases h
 exact wp_ret (tr (Rg c (none,0,([]:List Hd)) [2] [1] (.cell (α:=Agg 1) kk (.b 1) (.tmp .nil))))
 refine K0 (T0 (Fp [(1,0),(4,0)] 7 c fun _ c=>Elt 3 ([1]:List Int) c fun a1 c1 _ _ c=>?_))
 replace c:=c.fz 2
 refine Eltr 47 ([⟨a1,List.length ([1]:List Int),c1⟩]:List Hd) ([([1]:List Int)]:List (List Int)) c ⟨.f 1,tt⟩ fun a2 c2 _ _ c=>?_
 refine Fp [] 1 c fun _ c=>?_
 replace c:=c.nf
 refine Eal [I 0,L none ([]:List (List Int)) 0] c fun b3 _ _ c=>?_
 refine Ess 3 [I (w64 ((w64 (p0.Inputs + 1)) + (len p0.Gates))),L a2 ([([1]:List Int)]:List (List Int)) c2] c fun _ c=>?_
 refine E0 (S0 (P0 [(1,0)] c fun _ c=>Bd h fun rl1 hit1 h=>Lp (fun s1  (i:List Hd × Oh)=>([(1,I p1),(2,B b1 0),(4,B b2 0),(6,B b3 0),(36,L ga0 p0.Gates gc1),(37,I (len p0.Gates)),(38,I s1.1)],fun Γ=>(Γ.set 2 (sl47 (L i.2.1 s1.2 i.q2) (i.1))).set 3 (BX b3 52 [I (w64 ((w64 (p0.Inputs + 1)) + (len p0.Gates))),L i.2.1 s1.2 i.q2]),[CS (i.1) s1.2])) (fun  (i:List Hd × Oh)=>([(1,I p1),(4,B b2 0),(6,B b3 0)],fun Γ=>(Γ.set 2 (sl47 (L i.2.1 rl1 i.q2) (i.1))).set 3 (BX b3 52 [I (w64 ((w64 (p0.Inputs + 1)) + (len p0.Gates))),L i.2.1 rl1 i.q2]),[CS (i.1) rl1])) hit1 c (([⟨a1,List.length ([1]:List Int),c1⟩]:List Hd),a2,c2) (c.rk (rg 4) [0,1,2,2]) (fun s1 q1 i1 _ _ c h hr1=>?_) fun k1 _ _ c=>?_))
 refine P0 [] c fun _ c=>S0 (I0 c h (fun h=>?_) fun h=>?_)
 refine K0 (S0 (wp_block (T0 (Fp [] 1 c fun _ c=>Bd h fun x2 hx2 h=>Eel c (.f 0) hx2 fun _ _ c=>?_))))
 refine Eal [I 0,I 0] c fun b4 _ _ c=>?_
 refine Fp [] 1 c fun _ c=>Ess 4 [I x2.A,I x2.B] c fun _ c=>?_
 refine E0 (P0 [(1,0)] c fun _ c=>T0 (Fp [(3,3)] 4 c fun _ c=>Elt 3 ([(w64 (0 - (w64 ((w64 (p0.Inputs + 2)) + s1.1)))),x2.A]:List Int) c fun a3 c3 _ _ c=>?_))
 refine Fp [(8,3)] 4 c fun _ c=>?_
 replace c:=c.nf
 refine Elt 3 ([(w64 (0 - (w64 ((w64 (p0.Inputs + 2)) + s1.1)))),x2.B]:List Int) c fun a4 c4 _ _ c=>?_
 refine Fp [(12,3),(15,3)] 7 c fun _ c=>Elt 3 ([(w64 ((w64 (p0.Inputs + 2)) + s1.1)),(w64 (0 - x2.A)),(w64 (0 - x2.B))]:List Int) c fun a5 c5 _ _ c=>?_
 replace c:=c.fz 5
 replace c:=c.fz 5
 replace c:=c.fz 5
 refine Eltr 47 ([⟨a3,List.length ([(w64 (0 - (w64 ((w64 (p0.Inputs + 2)) + s1.1)))),x2.A]:List Int),c3⟩,⟨a4,List.length ([(w64 (0 - (w64 ((w64 (p0.Inputs + 2)) + s1.1)))),x2.B]:List Int),c4⟩,⟨a5,List.length ([(w64 ((w64 (p0.Inputs + 2)) + s1.1)),(w64 (0 - x2.A)),(w64 (0 - x2.B))]:List Int),c5⟩]:List Hd) ([([(w64 (0 - (w64 ((w64 (p0.Inputs + 2)) + s1.1)))),x2.A]:List Int),([(w64 (0 - (w64 ((w64 (p0.Inputs + 2)) + s1.1)))),x2.B]:List Int),([(w64 ((w64 (p0.Inputs + 2)) + s1.1)),(w64 (0 - x2.A)),(w64 (0 - x2.B))]:List Int)]:List (List Int)) c ⟨.f 4,.f 5,.f 6,tt⟩ fun a6 c6 _ _ c=>?_
 refine Fp [] 2 c fun _ c=>E0 (Bd h fun rl2 hit2 h=>Tq (Lp (fun s2  (i:List Hd × Oh)=>([(1,I p1),(2,B b1 0),(4,B b2 0),(6,B b3 0),(36,L ga0 p0.Gates gc1),(37,I (len p0.Gates)),(38,I s1.1),(66,L a6 ([([(w64 (0 - (w64 ((w64 (p0.Inputs + 2)) + s1.1)))),x2.A]:List Int),([(w64 (0 - (w64 ((w64 (p0.Inputs + 2)) + s1.1)))),x2.B]:List Int),([(w64 ((w64 (p0.Inputs + 2)) + s1.1)),(w64 (0 - x2.A)),(w64 (0 - x2.B))]:List Int)]:List (List Int)) c6),(67,I (len ([([(w64 (0 - (w64 ((w64 (p0.Inputs + 2)) + s1.1)))),x2.A]:List Int),([(w64 (0 - (w64 ((w64 (p0.Inputs + 2)) + s1.1)))),x2.B]:List Int),([(w64 ((w64 (p0.Inputs + 2)) + s1.1)),(w64 (0 - x2.A)),(w64 (0 - x2.B))]:List Int)]:List (List Int)))),(68,I s2.1)],fun Γ=>(Γ.set 2 (sl47 (L i.2.1 s2.2 i.q2) (i.1))).set 3 (BX b3 52 [I (w64 ((w64 (p0.Inputs + 1)) + (len p0.Gates))),L i.2.1 s2.2 i.q2]),[CS (i.1) s2.2])) (fun  (i:List Hd × Oh)=>([(1,I p1),(2,B b1 0),(4,B b2 0),(6,B b3 0),(36,L ga0 p0.Gates gc1),(37,I (len p0.Gates)),(38,I s1.1)],fun Γ=>(Γ.set 2 (sl47 (L i.2.1 rl2 i.q2) (i.1))).set 3 (BX b3 52 [I (w64 ((w64 (p0.Inputs + 1)) + (len p0.Gates))),L i.2.1 rl2 i.q2]),[CS (i.1) rl2])) hit2 c (i1.1,i1.2.1,i1.q2) (c.rk (rg 6) [0,1,2,3,4,5,6,7,3]) (fun s2 q2 i2 _ _ c h hr2=>?_) fun k2 _ _ c=>?_))
 refine P0 [] c fun _ c=>S0 (I0 c h (fun h=>?_) fun h=>?_)
 refine K0 (S0 (wp_block (T0 ?_)))
 replace c:=c.nf
 refine Bd h fun x3 hx3 h=>Eemr 5 7 c hx3 fun _ u1 _ c=>?_
 obtain ⟨a7,c7,rfl⟩:=c.sl 9
 refine Fp [] 1 c fun _ c=>E0 (T0 (Fp [] 1 c fun _ c=>Bd h fun x4 hx4 h=>Cb c (Zbn hx4) ⟨.f 9,tt⟩ call50 fun i3 _ _ c=>?_))
 refine Fp [] 5 c fun _ c=>E0 (T1 (Fp [(1,2)] 3 c fun _ c=>?_))
 replace c:=c.fz 6
 refine Eltr 47 ([(hd i3.1 x4.1 i3.2)]:List Hd) ([x4.1]:List (List Int)) c ⟨.f 10,tt⟩ fun a8 c8 _ _ c=>?_
 replace c:=c.nf
 replace c:=c.fzr 6 11
 refine Bd h fun x5 hx5 h=>Eapr 2 8 c (.f 12) hx5 fun rm1 a9 c9 _ _ c=>?_
 refine Fp [] 1 c fun _ c=>Esb 3 1 (L a9 x5 c9) c fun _ c=>?_
 refine E1 (bk (tn (P1 [] c fun _ c=>Nx h ((i2.1 ++ rm1),a9,c9) (c.rk (rg 6) [0,1,2,3,4,5,6,7,13]))))
 refine wp_exit (te (te (be ?_)))
 obtain rfl:=hr2 _ (sk h)
 exact tn ⟨(i2.1,i2.2.1,i2.q2),c.rk (rg 6) (rg 9)⟩
 refine bk (tn (P1 [] c fun _ c=>Nx h (k2.1,k2.2.1,k2.q2) (c.rk (rg 4) [0,1,2,8])))
 refine wp_exit (te (te (be ?_)))
 obtain rfl:=hr1 _ (sk h)
 exact tn ⟨(i1.1,i1.2.1,i1.q2),c.rk (rg 4) (rg 4)⟩
 refine T0 (Fp [(1,2)] 3 c fun _ c=>Elt 3 ([p1]:List Int) c fun a10 c10 _ _ c=>?_)
 replace c:=c.fz 4
 refine Eltr 47 ([⟨a10,List.length ([p1]:List Int),c10⟩]:List Hd) ([([p1]:List Int)]:List (List Int)) c ⟨.f 4,tt⟩ fun a11 c11 _ _ c=>?_
 replace c:=c.fzr 4 5
 refine Bd h fun x6 hx6 h=>Eapr 2 3 c (.f 6) hx6 fun rm2 a12 c12 _ _ c=>?_
 refine Fp [] 1 c fun _ c=>?_
 replace c:=c.nf
 refine Esb 3 1 (L a12 x6 c12) c fun _ c=>?_
 refine E0 (T0 (Fp [(0,2)] 1 c fun _ c=>Ess 1 [I (w64 ((w64 (p0.Inputs + 1)) + (len p0.Gates))),L a12 x6 c12] c fun _ c=>?_))
 refine Fp [] 1 c fun _ c=>E0 ?_
 cases h
 exact wp_ret (Rg c (a12,c12,(k1.1 ++ rm2)) [2] [7] (.cell (α:=Agg 1) kk (.b 1) (.tmp .nil)))
 replace c:=c.eqs (v:=.bool (!x1)) (u:=.bool false) 17 (by rw [hg1])
 refine Gt c ?_
 dsimp only [List.set]
 refine Fp [(4,0)] 1 c fun _ c=>Gt c ?_
 dsimp only [List.set]
 refine Fp [] 1 c fun _ c=>Gt c ?_
 dsimp only [List.set]
 refine Elt 3 ([p1]:List Int) c fun a13 c13 _ _ c=>?_
 refine Gt c ?_
 dsimp only [List.set]
 refine Bd h fun x7 hx7 h=>Cb c (Zeg hx7) ⟨.f 0,.g 2,tt⟩ call49 fun _ _ _ c=>?_
 refine Gt c ?_
 dsimp only [List.set]
 refine Fp [] 1 c fun _ c=>Epk (b:=false) (v:=.bool (!x7)) c fun _ c=>E0 (I0 c h (fun h=>?_) fun h=>?_)
 refine T0 (Fp [] 1 c fun _ c=>?_)
 replace c:=c.nf
 refine Ess 1 [I 0,L none ([]:List (List Int)) 0] c fun _ c=>?_
 refine Fp [] 1 c fun _ c=>E0 ?_
 replace c:=(c.nil (α:=Hd) 47).csn (ρ:=Hd) (α:=List Int)
 cases h
 exact wp_ret (tr (Rg c (none,0,([]:List Hd)) [3] [1] (.cell (α:=Agg 1) kk (.b 1) (.tmp .nil))))
 refine K0 (T0 (Fp [(1,0),(4,0)] 7 c fun _ c=>?_))
 replace c:=c.nf
 refine Elt 3 ([1]:List Int) c fun a14 c14 _ _ c=>?_
 replace c:=c.fz 3
 refine Eltr 47 ([⟨a14,List.length ([1]:List Int),c14⟩]:List Hd) ([([1]:List Int)]:List (List Int)) c ⟨.f 1,tt⟩ fun a15 c15 _ _ c=>?_
 refine Fp [] 1 c fun _ c=>Eal [I 0,L none ([]:List (List Int)) 0] c fun b5 _ _ c=>?_
 refine Ess 4 [I (w64 ((w64 (p0.Inputs + 1)) + (len p0.Gates))),L a15 ([([1]:List Int)]:List (List Int)) c15] c fun _ c=>?_
 refine E0 (S0 (P0 [(1,0)] c fun _ c=>Bd h fun rl3 hit3 h=>Lp (fun s3  (i:List Hd × Oh)=>([(1,I p1),(2,B b1 0),(4,B b2 0),(6,B b5 0),(36,L ga0 p0.Gates gc1),(37,I (len p0.Gates)),(38,I s3.1)],fun Γ=>(Γ.set 3 (sl47 (L i.2.1 s3.2 i.q2) (i.1))).set 4 (BX b5 52 [I (w64 ((w64 (p0.Inputs + 1)) + (len p0.Gates))),L i.2.1 s3.2 i.q2]),[CS (i.1) s3.2])) (fun  (i:List Hd × Oh)=>([(1,I p1),(4,B b2 0),(6,B b5 0)],fun Γ=>(Γ.set 3 (sl47 (L i.2.1 rl3 i.q2) (i.1))).set 4 (BX b5 52 [I (w64 ((w64 (p0.Inputs + 1)) + (len p0.Gates))),L i.2.1 rl3 i.q2]),[CS (i.1) rl3])) hit3 c (([⟨a14,List.length ([1]:List Int),c14⟩]:List Hd),a15,c15) (c.rk (rg 5) [0,1,2,2]) (fun s3 q3 i4 _ _ c h hr3=>?_) fun k3 _ _ c=>?_))
 refine P0 [] c fun _ c=>S0 (I0 c h (fun h=>?_) fun h=>?_)
 refine K0 (S0 (wp_block (T0 (Fp [] 1 c fun _ c=>Bd h fun x8 hx8 h=>Eel c (.f 0) hx8 fun _ _ c=>?_))))
 refine Eal [I 0,I 0] c fun b6 _ _ c=>?_
 refine Fp [] 1 c fun _ c=>?_
 replace c:=c.nf
 refine Ess 5 [I x8.A,I x8.B] c fun _ c=>?_
 refine E0 (P0 [(1,0)] c fun _ c=>T0 (Fp [(3,3)] 4 c fun _ c=>Elt 3 ([(w64 (0 - (w64 ((w64 (p0.Inputs + 2)) + s3.1)))),x8.A]:List Int) c fun a16 c16 _ _ c=>?_))
 refine Fp [(8,3)] 4 c fun _ c=>Elt 3 ([(w64 (0 - (w64 ((w64 (p0.Inputs + 2)) + s3.1)))),x8.B]:List Int) c fun a17 c17 _ _ c=>?_
 refine Fp [(12,3),(15,3)] 7 c fun _ c=>?_
 replace c:=c.ng
 refine Elt 3 ([(w64 ((w64 (p0.Inputs + 2)) + s3.1)),(w64 (0 - x8.A)),(w64 (0 - x8.B))]:List Int) c fun a18 c18 _ _ c=>?_
 replace c:=c.fz 6
 replace c:=c.fz 6
 replace c:=c.fz 6
 refine Eltr 47 ([⟨a16,List.length ([(w64 (0 - (w64 ((w64 (p0.Inputs + 2)) + s3.1)))),x8.A]:List Int),c16⟩,⟨a17,List.length ([(w64 (0 - (w64 ((w64 (p0.Inputs + 2)) + s3.1)))),x8.B]:List Int),c17⟩,⟨a18,List.length ([(w64 ((w64 (p0.Inputs + 2)) + s3.1)),(w64 (0 - x8.A)),(w64 (0 - x8.B))]:List Int),c18⟩]:List Hd) ([([(w64 (0 - (w64 ((w64 (p0.Inputs + 2)) + s3.1)))),x8.A]:List Int),([(w64 (0 - (w64 ((w64 (p0.Inputs + 2)) + s3.1)))),x8.B]:List Int),([(w64 ((w64 (p0.Inputs + 2)) + s3.1)),(w64 (0 - x8.A)),(w64 (0 - x8.B))]:List Int)]:List (List Int)) c ⟨.f 4,.f 5,.f 6,tt⟩ fun a19 c19 _ _ c=>?_
 refine Fp [] 2 c fun _ c=>E0 (Bd h fun rl4 hit4 h=>Tq (Lp (fun s4  (i:List Hd × Oh)=>([(1,I p1),(2,B b1 0),(4,B b2 0),(6,B b5 0),(36,L ga0 p0.Gates gc1),(37,I (len p0.Gates)),(38,I s3.1),(66,L a19 ([([(w64 (0 - (w64 ((w64 (p0.Inputs + 2)) + s3.1)))),x8.A]:List Int),([(w64 (0 - (w64 ((w64 (p0.Inputs + 2)) + s3.1)))),x8.B]:List Int),([(w64 ((w64 (p0.Inputs + 2)) + s3.1)),(w64 (0 - x8.A)),(w64 (0 - x8.B))]:List Int)]:List (List Int)) c19),(67,I (len ([([(w64 (0 - (w64 ((w64 (p0.Inputs + 2)) + s3.1)))),x8.A]:List Int),([(w64 (0 - (w64 ((w64 (p0.Inputs + 2)) + s3.1)))),x8.B]:List Int),([(w64 ((w64 (p0.Inputs + 2)) + s3.1)),(w64 (0 - x8.A)),(w64 (0 - x8.B))]:List Int)]:List (List Int)))),(68,I s4.1)],fun Γ=>(Γ.set 3 (sl47 (L i.2.1 s4.2 i.q2) (i.1))).set 4 (BX b5 52 [I (w64 ((w64 (p0.Inputs + 1)) + (len p0.Gates))),L i.2.1 s4.2 i.q2]),[CS (i.1) s4.2])) (fun  (i:List Hd × Oh)=>([(1,I p1),(2,B b1 0),(4,B b2 0),(6,B b5 0),(36,L ga0 p0.Gates gc1),(37,I (len p0.Gates)),(38,I s3.1)],fun Γ=>(Γ.set 3 (sl47 (L i.2.1 rl4 i.q2) (i.1))).set 4 (BX b5 52 [I (w64 ((w64 (p0.Inputs + 1)) + (len p0.Gates))),L i.2.1 rl4 i.q2]),[CS (i.1) rl4])) hit4 c (i4.1,i4.2.1,i4.q2) (c.rk (rg 7) [0,1,2,3,4,5,6,7,3]) (fun s4 q4 i5 _ _ c h hr4=>?_) fun k4 _ _ c=>?_))
 refine P0 [] c fun _ c=>S0 (I0 c h (fun h=>?_) fun h=>?_)
 refine K0 (S0 (wp_block (T0 (Bd h fun x9 hx9 h=>Eemr 6 7 c hx9 fun _ u2 _ c=>?_))))
 obtain ⟨a20,c20,rfl⟩:=c.sl 9
 refine Fp [] 1 c fun _ c=>E0 (T0 (Fp [] 1 c fun _ c=>Bd h fun x10 hx10 h=>Cb c (Zbn hx10) ⟨.f 9,tt⟩ call50 fun i6 _ _ c=>?_))
 refine Fp [] 5 c fun _ c=>E0 (T1 (Fp [(1,2)] 3 c fun _ c=>?_))
 replace c:=c.nf
 replace c:=c.fz 7
 refine Eltr 47 ([(hd i6.1 x10.1 i6.2)]:List Hd) ([x10.1]:List (List Int)) c ⟨.f 10,tt⟩ fun a21 c21 _ _ c=>?_
 replace c:=c.fzr 7 11
 refine Bd h fun x11 hx11 h=>Eapr 3 8 c (.f 12) hx11 fun rm3 a22 c22 _ _ c=>?_
 refine Fp [] 1 c fun _ c=>Esb 4 1 (L a22 x11 c22) c fun _ c=>?_
 refine E1 (bk (tn (P1 [] c fun _ c=>Nx h ((i5.1 ++ rm3),a22,c22) (c.rk (rg 7) [0,1,2,3,4,5,6,7,13]))))
 refine wp_exit (te (te (be ?_)))
 obtain rfl:=hr4 _ (sk h)
 exact tn ⟨(i5.1,i5.2.1,i5.q2),c.rk (rg 7) (rg 9)⟩
 refine bk (tn (P1 [] c fun _ c=>Nx h (k4.1,k4.2.1,k4.q2) (c.rk (rg 5) [0,1,2,8])))
 refine wp_exit (te (te (be ?_)))
 obtain rfl:=hr3 _ (sk h)
 exact tn ⟨(i4.1,i4.2.1,i4.q2),c.rk (rg 5) (rg 4)⟩
 refine T0 (Fp [(1,2)] 3 c fun _ c=>Elt 3 ([p1]:List Int) c fun a23 c23 _ _ c=>?_)
 replace c:=c.nf
 replace c:=c.fz 5
 refine Eltr 47 ([⟨a23,List.length ([p1]:List Int),c23⟩]:List Hd) ([([p1]:List Int)]:List (List Int)) c ⟨.f 4,tt⟩ fun a24 c24 _ _ c=>?_
 replace c:=c.fzr 5 5
 refine Bd h fun x12 hx12 h=>Eapr 3 3 c (.f 6) hx12 fun rm4 a25 c25 _ _ c=>?_
 refine Fp [] 1 c fun _ c=>Esb 4 1 (L a25 x12 c25) c fun _ c=>?_
 refine E0 (T0 (Fp [(0,2)] 1 c fun _ c=>Ess 1 [I (w64 ((w64 (p0.Inputs + 1)) + (len p0.Gates))),L a25 x12 c25] c fun _ c=>?_))
 refine Fp [] 1 c fun _ c=>E0 ?_
 cases h
 exact wp_ret (Rg c (a25,c25,(k3.1 ++ rm4)) [3] [7] (.cell (α:=Agg 1) kk (.b 1) (.tmp .nil)))
theorem Zd4 {p0 p1 r} (h:XE n p0 p1 = some r):C0 81 [L ga0 p0 gc1,I p1] [lR ga0 p0 gc1] (.bool r):=by
 unfold XE at h
 refine En func81 rfl ntmps81 fun _ fr w c=>?_
 refine P0 [] c fun _ c=>P0 [] c fun _ c=>S0 (P0 [] c fun _ c=>Bd h fun rl1 hit1 h=>?_)
 have hk1:=h
 refine LpR (fun s1  (_:Unit)=>([(1,I p1),(5,I s1.1),(8,L ga0 p0 gc1),(9,I (len p0)),(10,I s1.2)],id,[])) (fun s  (_:Unit)=>([],id,[])) hit1 c () (c.rk [] [0]) (fun s1 q1 _ _ _ c h hr1=>?_) fun s1r _ _ _ hrl c=>?_
 refine P0 [] c fun _ c=>S0 (I0 c h (fun h=>?_) fun h=>?_)
 refine K0 (S0 (wp_block (T0 (Bd h fun x1 hx1 h=>Eel c (.f 0) hx1 fun _ _ c=>?_))))
 refine Fp [] 1 c fun _ c=>E0 (S0 (Bd h fun x2 hx2 h=>Bd h fun x3 hx3 h=>S0 (rZ [(4,.eq (.bool x2)),(8,.eq (I x3))] [] mix c ⟨Ncl c (kN (Zt hx2)) tt call21,Ncl c (fun hg=>ZG (iteF (gcF hg) hx3)) tt call80,tt⟩ fun _ _ c=>I0 c h (fun h=>?_) fun h=>?_)))
 refine P0 [] c fun _ c=>?_
 obtain rfl:=hr1 _ (sk h)
 obtain rfl:=sj hk1
 exact wp_ret (tr (br (tr (tr (br (tr (Rt c () [] [])))))))
 refine K0 (T1 (Fp [] 1 c fun _ c=>Bd h fun x4 hx4 h=>Cb c (ZG hx4) tt call80 fun _ _ _ c=>?_))
 refine Fp [] 1 c fun _ c=>E1 (bk (tn (P1 [] c fun _ c=>Nx h () (c.rk [] [0]))))
 refine wp_exit (te (te (be ?_)))
 obtain rfl:=hr1 _ (sk h)
 exact tn ⟨_,(),rfl,c.rk [] [0]⟩
 subst hrl
 exact P0 [] c fun _ c=>rE
theorem ZdA {p0 r} (h:YY n p0 = some r):C0 51 [.agg #[I p0.Vars,L ga0 p0.Clauses gc1]] [lR ga0 p0.Clauses gc1] (.bool r):=by
 unfold YY at h
 refine En func51 rfl ntmps51 fun _ fr w c=>?_
 refine T0 (Ebx [I p0.Vars,L ga0 p0.Clauses gc1] c fun b1 _ _ c=>?_)
 refine Fp [] 1 c fun _ c=>E0 (S0 (Bd h fun x1 hx1 h=>S0 (rZ [(2,.eq (.bool x1))] [(1,0),(6,0)] mix c ⟨Ncl c (kN (Zt hx1)) tt call21,tt⟩ fun _ _ c=>I0 c h (fun h=>?_) fun h=>?_)))
 exact P0 [] c fun _ c=>rE
 refine K0 (S0 (P0 [(1,0)] c fun _ c=>Bd h fun rl1 hit1 h=>?_))
 have hk1:=h
 refine LpR (fun s1  (_:Unit)=>([(1,B b1 0),(16,L ga0 p0.Clauses gc1),(17,I (len p0.Clauses)),(18,I s1)],id,[])) (fun s  (_:Unit)=>([],id,[])) hit1 c () (c.rk [0] [0]) (fun s1 q1 _ _ _ c h hr1=>?_) fun s1r _ _ _ hrl c=>?_
 refine P0 [] c fun _ c=>S0 (I0 c h (fun h=>?_) fun h=>?_)
 refine K0 (S0 (wp_block (T0 (Bd h fun x2 hx2 h=>Eem c (.f 0) hx2 fun _ u1 _ c=>?_))))
 obtain ⟨a1,c1,rfl⟩:=c.sl 1
 refine Fp [] 1 c fun _ c=>E0 (T0 (Fp [(2,0)] 3 c fun _ c=>Bd h fun x3 hx3 h=>Cb c (Zd4 hx3) ⟨.f 1,tt⟩ call81 fun _ _ _ c=>?_))
 refine Fp [] 1 c fun _ c=>E0 (I0 c h (fun h=>?_) fun h=>?_)
 refine P0 [] c fun _ c=>?_
 obtain rfl:=hr1 _ (sk h)
 obtain rfl:=sj hk1
 exact wp_ret (br (tr (tr (br (tr (Rt c () [] []))))))
 refine K1 (bk (tn (P1 [] c fun _ c=>Nx h () (c.rk [0] [0]))))
 refine wp_exit (te (te (be ?_)))
 obtain rfl:=hr1 _ (sk h)
 exact tn ⟨_,(),rfl,c.rk [0] [0]⟩
 subst hrl
 exact P0 [] c fun _ c=>rE
theorem ZeZ {p0 p1 r} (h:ZaH n p0 p1 = some r):Con prog 53 [I p0,L ga0 p1 gc1] [] [lR ga0 p1 gc1] fun (i:Oh)=>([L i.1 r.1 i.2,.bool r.2],[sl3 (L i.1 r.1 i.2) r.1],[]):=by
 unfold ZaH at h
 refine En func53 rfl ntmps53 fun _ fr w c=>?_
 refine P0 [] c fun _ c=>T0 (Fp [] 2 c fun _ c=>Bd h fun x1 hx1 h=>Emk 3 c hx1 fun a1 c1 _ _ c=>?_)
 refine Fp [] 1 c fun _ c=>E0 (S0 (P0 [] c fun _ c=>Bd h fun rl1 hit1 h=>?_))
 have hk1:=h
 refine LpR (fun s1  (_:Unit)=>([(6,L a1 x1 c1),(13,L ga0 p1 gc1),(14,I (len p1)),(15,I s1.1)],fun Γ=>Γ.set 0 (sl3 (L a1 x1 c1) s1.2),[])) (fun s  (_:Unit)=>([(6,L a1 x1 c1)],fun Γ=>Γ.set 0 (sl3 (L a1 x1 c1) s),[])) hit1 c () (c.rk [0] [0]) (fun s1 q1 _ _ _ c h hr1=>?_) fun s1r _ _ _ hrl c=>?_
 refine P0 [] c fun _ c=>S0 (I0 c h (fun h=>?_) fun h=>?_)
 refine K0 (S0 (wp_block (T0 (Bd h fun x2 hx2 h=>Eel c (.f 0) hx2 fun _ _ c=>?_))))
 refine Fp [] 1 c fun _ c=>E0 (T0 (Fp [] 2 c fun _ c=>Bd h fun x3 hx3 h=>Cb c (ZG hx3) tt call80 fun _ _ _ c=>?_))
 refine Bd h fun x4 hx4 h=>Equo c hx4 fun _ c=>?_
 refine Fp [] 1 c fun _ c=>E0 (S0 (T0 (Fp [] 2 c fun _ c=>Bd h fun x5 hx5 h=>Cb c (ZG hx5) tt call80 fun _ _ _ c=>?_)))
 refine Bd h fun x6 hx6 h=>Eel c (.g 0) hx6 fun _ _ c=>?_
 refine Fp [] 3 c fun _ c=>E0 (I0 c h (fun h=>?_) fun h=>?_)
 refine P0 [] c fun _ c=>?_
 replace c:=c.nil (α:=Int) 3
 obtain rfl:=hr1 _ (sk h)
 obtain rfl:=sj hk1
 exact wp_ret (tr (br (tr (tr (br (tr (Rg c (none,0) [1] [] (.tmp (.tmp .nil)))))))))
 refine K0 (T1 (Fp [] 2 c fun _ c=>Bd h fun x7 hx7 h=>Cb c (ZG hx7) tt call80 fun _ _ _ c=>?_))
 refine Fp [] 1 c fun _ c=>Bd h fun x8 hx8 h=>Eset 0 c hx8 fun _ _ _ c=>?_
 refine E1 (bk (tn (P1 [] c fun _ c=>Nx h () (c.rk [0] [0]))))
 refine wp_exit (te (te (be ?_)))
 obtain rfl:=hr1 _ (sk h)
 exact tn ⟨_,(),rfl,c.rk [0] [0]⟩
 subst hrl
 refine P0 [] c fun _ c=>?_
 cases h
 obtain ⟨he1,c⟩:=c.relen 0
 replace c:=c.eqs (v:=L a1 x1 c1) (u:=L a1 s1r c1) 4 (by simp only [L,he1])
 exact wp_ret (Rg c (a1,c1) [0] [] (.tmp (.tmp .nil)))
theorem Zdk {p0 p1 gn4 r} (h:YV n p0 p1 = some r):Con prog 82 [.agg #[I p0.Vars,L ga0 p0.Clauses gc1],.slice ga2 gn4 gc3] [sl3 (.slice ga2 gn4 gc3) p1] [lR ga0 p0.Clauses gc1] fun (_:Unit)=>([.bool r.1],[sl3 (.slice ga2 gn4 gc3) r.2],[]):=by
 unfold YV at h
 refine En func82 rfl ntmps82 fun _ fr w c=>?_
 obtain ⟨rfl,c⟩:=c.relen 0
 refine T0 (Ebx [I p0.Vars,L ga0 p0.Clauses gc1] c fun b1 _ _ c=>?_)
 refine Fp [] 1 c fun _ c=>E0 (S0 (P0 [] c fun _ c=>Bd h fun rl1 hit1 h=>?_))
 have hk1:=h
 refine LpR (fun s1  (_:Unit)=>([(1,L ga2 p1 gc3),(2,B b1 0),(5,.bool s1.1)],fun Γ=>Γ.set 0 (sl3 (L ga2 p1 gc3) s1.2),[])) (fun s  (_:Unit)=>([],fun Γ=>Γ.set 0 (sl3 (L ga2 p1 gc3) s),[])) hit1 c () (c.rk [0,1] [0]) (fun s1 q1 _ _ _ c h hr1=>?_) fun s1r _ _ _ hrl c=>?_
 refine S0 (P0 [] c fun _ c=>I0 c h (fun h=>?_) fun h=>?_)
 refine K0 (wp_block (P0 [] c fun _ c=>P0 [(1,0)] c fun _ c=>Bd h fun rl2 hit2 h=>?_))
 have hk2:=h
 refine Tq (LpR (fun s2  (_:Unit)=>([(1,L ga2 p1 gc3),(2,B b1 0),(5,.bool s2.1),(16,L ga0 p0.Clauses gc1),(17,I (len p0.Clauses)),(18,I s2.2.1)],fun Γ=>Γ.set 0 (sl3 (L ga2 p1 gc3) s2.q2),[])) (fun s  (_:Unit)=>([(1,L ga2 p1 gc3),(2,B b1 0),(5,.bool s.1)],fun Γ=>Γ.set 0 (sl3 (L ga2 p1 gc3) s.2),[])) hit2 c () (c.rk [0,1] [0]) (fun s2 q2 _ _ _ c h hr2=>?_) fun s2r _ _ _ hrl c=>?_)
 refine P0 [] c fun _ c=>S0 (I0 c h (fun h=>?_) fun h=>?_)
 refine K0 (S0 (wp_block (T0 (Bd h fun x1 hx1 h=>Eem c (.f 0) hx1 fun _ u1 _ c=>?_))))
 obtain ⟨a1,c1,rfl⟩:=c.sl 1
 refine Fp [] 1 c fun _ c=>E0 (P0 [] c fun _ c=>P0 [] c fun _ c=>P0 [] c fun _ c=>S0 (P0 [] c fun _ c=>Bd h fun rl3 hit3 h=>Lp (fun s3  (_:Unit)=>([(1,L ga2 p1 gc3),(2,B b1 0),(5,.bool s2.1),(8,I s3.1),(9,I s3.2.1),(10,.bool s3.p2),(16,L ga0 p0.Clauses gc1),(17,I (len p0.Clauses)),(18,I s2.2.1),(22,L a1 x1 c1),(23,I (len x1)),(24,I s3.q3)],id,[])) (fun  (_:Unit)=>([(1,L ga2 p1 gc3),(2,B b1 0),(5,.bool s2.1),(8,I rl3.1),(9,I rl3.2.1),(10,.bool rl3.q2),(16,L ga0 p0.Clauses gc1),(17,I (len p0.Clauses)),(18,I s2.2.1)],id,[])) hit3 c () (c.rk [0,1] [0,1]) (fun s3 q3 _ _ _ c h hr3=>?_) fun _ _ _ c=>?_))
 refine P0 [] c fun _ c=>S0 (I0 c h (fun h=>?_) fun h=>?_)
 refine K0 (S0 (wp_block (T0 (Bd h fun x2 hx2 h=>Eel c (.f 1) hx2 fun _ _ c=>?_))))
 refine Fp [] 1 c fun _ c=>E0 (T0 (Fp [] 2 c fun _ c=>Bd h fun x3 hx3 h=>Cb c (ZG hx3) tt call80 fun _ _ _ c=>?_))
 refine Bd h fun x4 hx4 h=>Eel c (.g 0) hx4 fun _ _ c=>?_
 refine Fp [] 1 c fun _ c=>E0 (S0 (P0 [] c fun _ c=>Mp (decide (x2 < 0)) [(13,I (w64 (0 - x4)))] [(13,I x4)] [(13,I (cond (decide (x2 < 0)) (w64 (0 - x4)) x4))] [13,35,36] c fun _ c=>S0 (Ry [] mix c fun _ _ c=>P0 [] c fun _ c=>I0 c h (fun h=>?_) fun h=>?_)))
 refine P0 [] c fun _ c=>Tq (P1 [] c fun _ c=>bk (tn (P1 [] c fun _ c=>Nx h () (c.rk [0,1] [0,1]))))
 refine K1 (bk (tn (P1 [] c fun _ c=>Nx h () (c.rk [0,1] [0,1]))))
 refine wp_exit (te (te (be ?_)))
 obtain rfl:=hr3 _ (sk h)
 exact tn ⟨(),c.rk [0,1] [0,1]⟩
 refine S0 (S0 (Ry [] mix c fun _ _ c=>I0 c h (fun h=>?_) fun h=>?_))
 refine wp_exit (te (be ?_))
 refine tn (P1 [] c fun _ c=>Nx h () (c.rk [0,1] [0]))
 refine K0 (S0 (P0 [] c fun _ c=>I0 c h (fun h=>?_) fun h=>?_))
 refine P0 [] c fun _ c=>?_
 obtain rfl:=hr2 _ (sk h)
 obtain rfl:=hr1 _ (sk hk2)
 obtain rfl:=sj hk1
 exact wp_ret (tr (br (tr (tr (br (tr (br (tr (br (tr (Rt c () [0] [])))))))))))
 refine K0 (P0 [] c fun _ c=>T1 (Fp [] 2 c fun _ c=>Bd h fun x5 hx5 h=>Cb c (ZG hx5) tt call80 fun _ _ _ c=>?_))
 refine Fp [] 2 c fun _ c=>Bd h fun x6 hx6 h=>Cb c (ZG hx6) tt call80 fun _ _ _ c=>?_
 refine Bd h fun x7 hx7 h=>Equo c hx7 fun _ c=>?_
 refine Bd h fun x8 hx8 h=>Eset 0 c hx8 fun _ _ _ c=>?_
 refine E1 (bk (tn (P1 [] c fun _ c=>Nx h () (c.rk [0,1] [0]))))
 refine wp_exit (te (te (be ?_)))
 obtain rfl:=hr2 _ (sk h)
 exact tn ⟨_,(),rfl,c.rk [0,1] [0]⟩
 subst hrl
 refine bk (tn (Nx h () (c.rk [0,1] [0])))
 refine wp_exit (te (te (be ?_)))
 obtain rfl:=hr1 _ (sk h)
 exact tn ⟨_,(),rfl,c.rk [0,1] [0]⟩
 subst hrl
 refine P0 [] c fun _ c=>?_
 cases h
 exact wp_ret (Rt c () [0] [])
theorem ZbQ {n:Nat}:∀ {p0 p1 gb0 ga1 gc2 ga3 gc4 gn5 r} (h:Zx n p0 p1 = some r),Con prog 54 [B gb0 0,.slice ga3 gn5 gc4] [BX gb0 96 [I p0.f.Vars,L ga1 p0.f.Clauses gc2,I p0.limit,I p0.made,.bool p0.opn],sl3 (.slice ga3 gn5 gc4) p1] [lR ga1 p0.f.Clauses gc2] fun (i:Ob (Int × Ob Nat))=>([L i.1 r.1 i.2.1,.agg #[I (i.p2),.slice i.p3 i.p4 i.q5],.bool r.2.2.1],[sl3 (L i.1 r.1 i.2.1) r.1,BX gb0 96 [I p0.f.Vars,L ga1 p0.f.Clauses gc2,I r.2.2.2.limit,I r.2.2.2.made,.bool r.2.2.2.opn]],[]):=by
 induction n with
 | zero=>intro p0 p1 gb0 ga1 gc2 ga3 gc4 gn5 r h; simp [Zx] at h
 | succ n ih=>
 intro p0 p1 gb0 ga1 gc2 ga3 gc4 gn5 r h
 rw [Zx] at h
 refine En func54 rfl ntmps54 fun _ fr w c=>?_
 obtain ⟨rfl,c⟩:=c.relen 1
 refine T0 (Fp [] 1 c fun _ c=>Eal [I 0,L none ([]:List D.Prf) 0] c fun b1 _ _ c=>?_)
 refine Fp [] 1 c fun _ c=>E0 (S0 (T0 (Fp [(3,0)] 5 c fun _ c=>Bd h fun x1 hx1 h=>Ca [1] c (Zdk hx1) ⟨.f 0,tt⟩ call82 fun _ _ _ c=>?_)))
 refine Fp [] 1 c fun _ c=>E0 (I0 c h (fun h=>?_) fun h=>?_)
 refine T0 (Fp [] 2 c fun _ c=>Ess 1 [I 0,L none ([]:List D.Prf) 0] c fun _ c=>?_)
 refine Fp [] 1 c fun _ c=>E0 ?_
 replace c:=c.nil (α:=Int) 3
 cases h
 exact wp_ret (tr (Rg c (none,0,0,none,(List.length ([]:List D.Prf)),0) [3,0] [] (.tmp (.cell (α:=Agg 1) kk (.b 1) (.tmp .nil)))))
 refine K0 (P0 [] c fun _ c=>Bd h fun rl1 hit1 h=>S0 (Lp (fun s1  (_:Unit)=>([(0,B gb0 0),(1,L ga3 p1 gc4),(5,B b1 0),(7,I s1)],id,[])) (fun  (_:Unit)=>([(0,B gb0 0),(1,L ga3 p1 gc4),(5,B b1 0),(7,I rl1)],id,[])) hit1 c () (c.rk [0,1,2] [0]) (fun s1 q1 _ _ _ c h hr1=>?_) fun _ _ _ c=>?_))
 refine S0 (Bd h fun x2 hx2 h=>S0 (rZ [(7,Pd.el (x2:Int)),(8,.eq (I x2))] [] mix c ⟨Nid c (.g 2) (gT hx2),Nld c 7 (q:=x2) (atN 7),tt⟩ fun _ _ c=>I0 c h (fun h=>?_) fun h=>?_))
 refine K0 (wp_block (Tq (P1 [] c fun _ c=>bk (tn (Nx h () (c.rk [0,1,2] [0]))))))
 refine wp_exit (te (te (be ?_)))
 obtain rfl:=hr1 _ (sk h)
 exact tn ⟨(),c.rk [0,1,2] [0]⟩
 refine S0 (P0 [] c fun _ c=>I0 c h (fun h=>?_) fun h=>?_)
 refine T0 (Fp [] 3 c fun _ c=>Ess 1 [I 0,L none ([]:List D.Prf) 0] c fun _ c=>?_)
 refine Fp [] 1 c fun _ c=>E0 ?_
 cases h
 obtain ⟨he1,c⟩:=c.relen 2
 replace c:=c.eqs (v:=L ga3 p1 gc4) (u:=L ga3 x1.2 gc4) 4 (by simp only [L,he1])
 exact wp_ret (tr (Rg c (ga3,gc4,0,none,(List.length ([]:List D.Prf)),0) [2,0] [] (.tmp (.cell (α:=Agg 1) kk (.b 1) (.tmp .nil)))))
 refine K0 (S0 (S0 (Ry [(3,0),(7,0)] mix c fun _ _ c=>I0 c h (fun h=>?_) fun h=>?_)))
 refine T0 (Fp [] 3 c fun _ c=>Esb 0 4 (.bool true) c fun _ c=>?_)
 refine E0 (T0 (Fp [] 2 c fun _ c=>Ess 1 [I 0,L none ([]:List D.Prf) 0] c fun _ c=>?_))
 refine Fp [] 1 c fun _ c=>E0 ?_
 replace c:=c.nil (α:=Int) 3
 cases h
 exact wp_ret (tr (Rg c (none,0,0,none,(List.length ([]:List D.Prf)),0) [3,0] [] (.tmp (.cell (α:=Agg 1) kk (.b 1) (.tmp .nil)))))
 refine K0 (T0 (Fp [(3,0)] 7 c fun _ c=>Esb 0 3 (I (w64 (p0.made + 1))) c fun _ c=>?_))
 refine E0 (T0 (Fp [] 2 c fun _ c=>Eal [I 0,L none ([]:List D.Prf) 0] c fun b2 _ _ c=>?_))
 refine Ess 3 [I rl1,L none ([]:List D.Prf) 0] c fun _ c=>?_
 refine E0 (S0 (T0 ?_))
 replace c:=c.nf
 refine Elt 3 ([(-1),1]:List Int) c fun a1 c1 _ _ c=>?_
 refine Fp [] 2 c fun _ c=>E0 ?_
 replace c:=c.pkn (β:=D.Prf) 99
 refine Bd h fun rl2 hit2 h=>?_
 have hk2:=h
 refine LpR (fun s2  (i:Oh)=>([(0,B gb0 0),(1,L ga3 p1 gc4),(5,B b1 0),(7,I rl1),(8,B b2 0),(64,L a1 ([(-1),1]:List Int) c1),(65,I (len ([(-1),1]:List Int))),(66,I s2.1)],fun Γ=>((Γ.set 0 (BX gb0 96 [I p0.f.Vars,L ga1 p0.f.Clauses gc2,I s2.2.1,I s2.p2,.bool s2.p3])).set 3 (BX b2 99 [I rl1,L i.1 s2.q4 i.2])).set 5 (PK 99 (L i.1 s2.q4 i.2) s2.q4),[])) (fun s  (i:Oh)=>([(5,B b1 0),(8,B b2 0)],fun Γ=>((Γ.set 0 (BX gb0 96 [I p0.f.Vars,L ga1 p0.f.Clauses gc2,I s.1,I s.2.1,.bool s.p2])).set 3 (BX b2 99 [I rl1,L i.1 s.q3 i.2])).set 5 (PK 99 (L i.1 s.q3 i.2) s.q3),[])) hit2 c (none,0) (c.rk (rg 6) [0]) (fun s2 q2 i1 _ _ c h hr2=>?_) fun s2r k1 _ _ hrl c=>?_
 refine P0 [] c fun _ c=>S0 (I0 c h (fun h=>?_) fun h=>?_)
 refine K0 (S0 (wp_block (T0 (Bd h fun x3 hx3 h=>Eel c (.g 4) hx3 fun _ _ c=>?_))))
 refine Fp [] 1 c fun _ c=>E0 (T0 (Elt 3 ([]:List Int) c fun a2 c2 _ _ c=>?_))
 refine Fp [] 1 c fun _ c=>Bd h fun x4 hx4 h=>Eap 6 c (.g 2) hx4 fun a3 c3 _ _ c=>?_
 refine Fp [] 1 c fun _ c=>E0 (T0 (Fp [] 3 c fun _ c=>?_))
 replace c:=c.nf
 refine Bd h fun x5 hx5 h=>Eset 6 c hx5 fun _ _ _ c=>?_
 refine E0 (T0 (Fp [] 2 c fun _ c=>Bd h fun x6 hx6 h=>Ca [0,6] c (ih hx6) ⟨.f 0,tt⟩ call54 fun i2 _ _ c=>?_))
 refine Fp [] 4 c fun _ c=>Eal [I 0,L none ([]:List D.Prf) 0] c fun b3 _ _ c=>?_
 refine Fp [] 1 c fun _ c=>?_
 replace c:=c.nf
 refine Ess 7 [I i2.p2,.slice i2.p3 i2.p4 i2.q5] c fun _ c=>?_
 refine Fp [] 1 c fun _ c=>E0 (S0 (S0 (Ry [(5,2)] mix c fun _ _ c=>I0 c h (fun h=>?_) fun h=>?_)))
 refine S0 (ZI mix (Rh 2 ?_))
 refine rM 4 [] [(1,1)] c (fun ow=>tt) fun _ _ _ _ _ c=>?_
 refine Ess 0 [I rl1,L i1.1 s2.q4 i1.2] c fun _ c=>?_
 refine Fp [] 1 c fun _ c=>E0 ?_
 obtain rfl:=hr2 _ (sk h)
 obtain rfl:=sj hk2
 exact wp_ret (tr (br (tr (tr (br (tr (Rg c (i2.1,i2.2.1,rl1,i1.1,(List.length s2.q4),i1.2) [5,6] [] (.tmp (.cell (α:=Agg 1) kk (.b 0) (.tmp .nil))))))))))
 refine K0 (T1 (Fp [(1,1),(2,3)] 3 c fun _ c=>Bd h fun x7 hx7 h=>Epk2 i2.p2 ⟨i2.p3,i2.p4,i2.q5⟩ 4 c hx7 fun _ a4 c4 _ _ c=>?_))
 refine Fp [] 1 c fun _ c=>Esb 2 1 (L a4 x7 c4) c fun _ c=>?_
 refine E1 (bk (tn (P1 [] c fun _ c=>Nx h (a4,c4) (c.rk [5,0,1,2,3,7] [0]))))
 refine wp_exit (te (te (be ?_)))
 obtain rfl:=hr2 _ (sk h)
 exact tn ⟨_,(i1.1,i1.2),rfl,c.rk (rg 6) [0]⟩
 subst hrl
 refine S0 (ZI mix (rM 2 [] [(0,2)] c (fun ow=>tt) fun _ _ _ _ _ c=>Ess 1 [I rl1,L k1.1 s2r.q3 k1.2] c fun _ c=>?_))
 refine Fp [] 1 c fun _ c=>E0 ?_
 replace c:=c.nil (α:=Int) 3
 cases h
 exact wp_ret (Rg c (none,0,rl1,k1.1,(List.length s2r.q3),k1.2) [6,0] [] (.tmp (.cell (α:=Agg 1) kk (.b 1) (.tmp .nil))))
theorem Zeu {p0 p1 p2 r} (h:ZaF n p0 p1 p2 = some r):Con prog 24 [.agg #[I p0.Vars,L ga0 p0.Clauses gc1],L ga2 p1 gc3,I p2] [] [lR ga0 p0.Clauses gc1,lR ga2 p1 gc3] fun (i:Oh)=>([I r.1,L i.1 r.2.1 i.2,I r.2.2],[sl4 (L i.1 r.2.1 i.2) r.2.1],[]):=by
 unfold ZaF at h
 refine En func24 rfl ntmps24 fun _ fr w c=>?_
 refine T0 (Ebx [I p0.Vars,L ga0 p0.Clauses gc1] c fun b1 _ _ c=>?_)
 refine Fp [] 3 c fun _ c=>E0 (S0 (Bd h fun x1 hx1 h=>Bd h fun x2 hx2 h=>Bd h fun x3 hx3 h=>S0 (rZ [(1,.eq (.bool x1)),(7,.eq (.bool x2)),(12,.eq (.bool x3))] [(0,0),(6,0)] mix c ⟨Ncl c (kN (ZdA hx1)) ⟨.f 0,tt⟩ call51,Ncl c (fun hg=>ZbS (iteF (gcF hg) hx2)) ⟨.f 1,tt⟩ call52,Ncl c (fun hg=>Zt (iteF (gcF hg) hx3)) tt call21,tt⟩ fun _ _ c=>I0 c h (fun h=>?_) fun h=>?_)))
 refine P0 [] c fun _ c=>?_
 replace c:=c.nil (α:=Bool) 4
 cases h
 exact wp_ret (tr (Rg c (none,0) [1] [] (.tmp (.tmp (.tmp .nil)))))
 refine K0 (T0 (Fp [(1,0)] 3 c fun _ c=>Bd h fun x4 hx4 h=>Cb c (ZeZ hx4) ⟨.f 1,tt⟩ call53 fun i1 _ _ c=>?_))
 refine Fp [] 5 c fun _ c=>E0 (S0 (P0 [] c fun _ c=>I0 c h (fun h=>?_) fun h=>?_))
 refine P0 [] c fun _ c=>?_
 replace c:=c.nil (α:=Bool) 4
 cases h
 exact wp_ret (tr (Rg c (none,0) [2] [] (.tmp (.tmp (.tmp .nil)))))
 refine K0 (T0 (Fp [(0,0)] 3 c fun _ c=>Ebx [I p0.Vars,L ga0 p0.Clauses gc1,I p2,I 0,.bool false] c fun b2 _ _ c=>?_))
 refine Fp [] 1 c fun _ c=>E0 (T0 (Fp [] 2 c fun _ c=>Bd h fun x5 hx5 h=>Ca [2,1] c (ZbQ hx5) ⟨.f 0,tt⟩ call54 fun i2 _ _ c=>?_))
 refine Fp [] 4 c fun _ c=>Eal [I 0,L none ([]:List D.Prf) 0] c fun b3 _ _ c=>?_
 refine Fp [] 1 c fun _ c=>?_
 replace c:=c.nf
 refine Ess 3 [I i2.p2,.slice i2.p3 i2.p4 i2.q5] c fun _ c=>?_
 refine Fp [] 1 c fun _ c=>E0 (S0 (P0 [] c fun _ c=>I0 c h (fun h=>?_) fun h=>?_))
 refine S0 (P0 [(3,1)] c fun _ c=>I0 c h (fun h=>?_) fun h=>?_)
 refine S0 (Ry [(3,1)] mix c fun _ _ c=>?_)
 replace c:=c.nil (α:=Bool) 4
 cases h
 exact wp_ret (tr (tr (Rg c (none,0) [4] [] (.tmp (.tmp (.tmp .nil))))))
 refine K0 (S0 (Ry [(3,1)] mix c fun _ _ c=>?_))
 replace c:=c.nil (α:=Bool) 4
 cases h
 exact wp_ret (tr (Rg c (none,0) [4] [] (.tmp (.tmp (.tmp .nil)))))
 refine K0 (T0 (Elt 4 ([]:List Bool) c fun a1 c1 _ _ c=>?_))
 refine Fp [] 1 c fun _ c=>E0 (S0 (T0 (Fp [] 1 c fun _ c=>?_)))
 replace c:=c.fz 1
 refine Bd h fun x6 hx6 h=>Esl 3 c (.f 2) hx6 fun u1 _ c=>?_
 obtain ⟨a2,c2,rfl⟩:=c.sl 3
 refine Fp [] 2 c fun _ c=>E0 (Bd h fun rl1 hit1 h=>Lp (fun s1  (i:Oh)=>([(11,B b2 0),(14,L i.1 s1.2 i.2),(68,L a2 x6 c2),(69,I (len x6)),(70,I s1.1)],fun Γ=>Γ.set 3 (sl4 (L i.1 s1.2 i.2) s1.2),[])) (fun  (i:Oh)=>([(11,B b2 0),(14,L i.1 rl1 i.2)],fun Γ=>Γ.set 3 (sl4 (L i.1 rl1 i.2) rl1),[])) hit1 c (a1,c1) (c.rk (rg 4) (rg 4)) (fun s1 q1 i3 _ _ c h hr1=>?_) fun k1 _ _ c=>?_)
 refine P0 [] c fun _ c=>S0 (I0 c h (fun h=>?_) fun h=>?_)
 refine K0 (S0 (wp_block (T0 (Bd h fun x7 hx7 h=>Eel c (.f 3) hx7 fun _ _ c=>?_))))
 refine Fp [] 1 c fun _ c=>E0 (T1 (Fp [] 3 c fun _ c=>Elt 4 ([(decide (x7 > 0))]:List Bool) c fun a3 c3 _ _ c=>?_))
 refine Bd h fun x8 hx8 h=>Eap 3 c (.g 4) hx8 fun a4 c4 _ _ c=>?_
 refine Fp [] 1 c fun _ c=>E1 (bk (tn (P1 [] c fun _ c=>Nx h (a4,c4) (c.rk (rg 4) (rg 4)))))
 refine wp_exit (te (te (be ?_)))
 obtain rfl:=hr1 _ (sk h)
 exact tn ⟨(i3.1,i3.2),c.rk (rg 4) (rg 4)⟩
 refine S0 (Ry [(4,1)] mix c fun _ _ c=>?_)
 cases h
 exact wp_ret (Rg c (k1.1,k1.2) [3] [] (.tmp (.tmp (.tmp .nil))))
theorem ZdO {p0 r} (h:Xk p0 = some r):C0 56 [.bool p0] [] (I r):=by
 unfold Xk at h
 refine En func56 rfl ntmps56 fun _ fr w c=>?_
 exact P0 [] c fun _ c=>S0 (P0 [] c fun _ c=>I0 c h (fun h=>P0 [] c fun _ c=>rE) fun h=>K0 (P0 [] c fun _ c=>rE))
theorem Zd3 {p0 p1 r} (h:XF n p0 p1 = some r):Con prog 35 [L ga0 p0 gc1,L ga2 p1 gc3] [] [lR ga0 p0 gc1,lR ga2 p1 gc3] fun (i:Oh)=>([L i.1 r i.2],[sl72 (L i.1 r i.2) r],[]):=by
 unfold XF at h
 refine En func35 rfl ntmps35 fun _ fr w c=>?_
 refine P0 [] c fun _ c=>T0 (Elt 72 ([]:List D.Value) c fun a1 c1 _ _ c=>?_)
 refine Fp [] 1 c fun _ c=>E0 (P0 [] c fun _ c=>S0 (P0 [] c fun _ c=>Bd h fun rl1 hit1 h=>Lp (fun s1  (i:Oh)=>([(1,L ga2 p1 gc3),(5,L i.1 s1.q2 i.2),(6,I s1.1),(12,L ga0 p0 gc1),(13,I (len p0)),(14,I s1.2.1)],fun Γ=>Γ.set 0 (sl72 (L i.1 s1.q2 i.2) s1.q2),[])) (fun  (i:Oh)=>([(5,L i.1 rl1 i.2)],fun Γ=>Γ.set 0 (sl72 (L i.1 rl1 i.2) rl1),[])) hit1 c (a1,c1) (c.rk [0] [0,1]) (fun s1 q1 i1 _ _ c h hr1=>?_) fun k1 _ _ c=>?_))
 refine P0 [] c fun _ c=>S0 (I0 c h (fun h=>?_) fun h=>?_)
 refine K0 (S0 (wp_block (T0 (Bd h fun x1 hx1 h=>Eel c (.f 0) hx1 fun _ _ c=>?_))))
 refine Eal [Str.val ⟨[]⟩,I 0,I 0] c fun b1 _ _ c=>?_
 refine Ess 1 (vC x1) c fun _ c=>?_
 refine E0 (P0 [] c fun _ c=>S0 (P0 [] c fun _ c=>Bd h fun rl2 hit2 h=>Lp (fun s2  (_:Unit)=>([(1,L ga2 p1 gc3),(5,L i1.1 s1.q2 i1.2),(6,I s2.1),(8,B b1 0),(9,I s2.2.1),(10,I s2.q2),(12,L ga0 p0 gc1),(13,I (len p0)),(14,I s1.2.1)],id,[])) (fun  (_:Unit)=>([(1,L ga2 p1 gc3),(5,L i1.1 s1.q2 i1.2),(6,I rl2.1),(8,B b1 0),(9,I rl2.2),(12,L ga0 p0 gc1),(13,I (len p0)),(14,I s1.2.1)],id,[])) hit2 c () (c.rk [0,1] [0,1]) (fun s2 q2 _ _ _ c h hr2=>?_) fun _ _ _ c=>?_))
 refine S0 (P0 [(2,0)] c fun _ c=>I0 c h (fun h=>?_) fun h=>?_)
 refine K0 (S0 (wp_block (T0 (Fp [] 4 c fun _ c=>Bd h fun x2 hx2 h=>Eel c (.f 1) hx2 fun _ _ c=>?_))))
 refine Bd h fun x3 hx3 h=>Cb c (ZdO hx3) tt call56 fun _ _ _ c=>?_
 refine Fp [] 2 c fun _ c=>E0 (Tq (P1 [] c fun _ c=>bk (tn (P1 [] c fun _ c=>Nx h () (c.rk [0,1] [0,1])))))
 refine wp_exit (te (te (be ?_)))
 obtain rfl:=hr2 _ (sk h)
 exact tn ⟨(),c.rk [0,1] [0,1]⟩
 refine T0 (Fp [] 2 c fun _ c=>Esb 1 2 (I rl2.2) c fun _ c=>?_)
 refine E0 (T1 (Fp [(1,0)] 2 c fun _ c=>Elt 72 ([(D.Value.mk x1.Name x1.W rl2.2)]:List D.Value) c fun a2 c2 _ _ c=>?_))
 replace c:=c.nf
 refine Bd h fun x4 hx4 h=>Eap 0 c (.g 2) hx4 fun a3 c3 _ _ c=>?_
 refine Fp [] 1 c fun _ c=>E1 (bk (tn (P1 [] c fun _ c=>Nx h (a3,c3) (c.rk [0] [0,1]))))
 refine wp_exit (te (te (be ?_)))
 obtain rfl:=hr1 _ (sk h)
 exact tn ⟨(i1.1,i1.2),c.rk [0] [0,1]⟩
 refine P0 [] c fun _ c=>?_
 obtain rfl:=sj h
 exact wp_ret (Rt c (k1.1,k1.2) [0] [])
theorem Zds {p0 p1 r} (h:Xp n p0 p1 = some r):Con prog 11 [tV p0 ga0 gc1,I p1] [] [lR ga0 p0.Kids gc1] fun (i:Oh)=>([I r.1,L i.1 r.2 i.2],[sl72 (L i.1 r.2 i.2) r.2],[]):=by
 unfold Xp at h
 refine En func11 rfl ntmps11 fun _ fr w c=>?_
 refine T0 (Ebx (tC p0 ga0 gc1) c fun b1 _ _ c=>?_)
 refine Fp [] 2 c fun _ c=>E0 (S0 (Bd h fun x1 hx1 h=>Bd h fun x2 hx2 h=>S0 (rZ [(1,.eq (.bool x1)),(10,.eq (.bool x2))] [(0,0),(5,0)] mix c ⟨Ncl c (kN (XG hx1)) ⟨.f 0,tt⟩ call20,Ncl c (fun hg=>Zt (iteF (gcF hg) hx2)) tt call21,tt⟩ fun _ _ c=>I0 c h (fun h=>?_) fun h=>?_)))
 refine P0 [] c fun _ c=>?_
 replace c:=c.nil (α:=D.Value) 72
 cases h
 exact wp_ret (tr (Rg c (none,0) [1] [] (.tmp (.tmp .nil))))
 refine K0 (T0 (Fp [(0,0)] 1 c fun _ c=>Bd h fun x3 hx3 h=>Cb c (Zdh hx3) ⟨.f 0,tt⟩ call22 fun i1 _ _ c=>?_))
 refine Fp [] 4 c fun _ c=>Eal [I 0,L none ([]:List D.Gate) 0] c fun b2 _ _ c=>?_
 refine Ess 3 [I x3.1.Inputs,L i1.1 x3.1.Gates i1.2.1] c fun _ c=>?_
 refine Fp [] 2 c fun _ c=>E0 (S0 (P0 [] c fun _ c=>I0 c h (fun h=>?_) fun h=>?_))
 refine P0 [] c fun _ c=>?_
 replace c:=c.nil (α:=D.Value) 72
 cases h
 exact wp_ret (tr (Rg c (none,0) [4] [] (.tmp (.tmp .nil))))
 refine K0 ?_
 replace c:=c.fz 1
 replace c:=c.fz 1
 refine Bd h fun x4 hx4 h=>?_
 obtain ⟨ep1,c⟩:=c.eli (.f 2) hx4
 refine Bd h fun x5 hx5 h=>S0 (Jn (fun i:Nat × Ob (List Hd)=>([(1,I p1),(2,B b1 0),(9,B i.1 0)],fun Γ=>Γ ++ [BX i.1 52 [I x5.1.Vars,L i.2.1 x5.1.Clauses i.p2],sl47 (L i.2.1 x5.1.Clauses i.p2) (i.q3)],[CS (i.q3) x5.1.Clauses])) c ?_ fun i7 _ _ c=>?_)
 refine As mix c fun _ c=>?_
 replace c:=Cx.frs [(1,I p1),(2,B b1 0),(6,B b2 0),(7,L i1.p2 x3.2.1 i1.q3)] c
 refine Dq (fun i:Nat × Ob (List Hd)=>([(1,I p1),(2,B b1 0),(9,B i.1 0),(35,.tuple #[.agg #[I x5.1.Vars,L i.2.1 x5.1.Clauses i.p2],.bool x5.2])],fun Γ=>Γ ++ [BX i.1 52 [I x5.1.Vars,L i.2.1 x5.1.Clauses i.p2],sl47 (L i.2.1 x5.1.Clauses i.p2) (i.q3)],[CS (i.q3) x5.1.Clauses])) (bN 11 895) (fun i=>[(7,42,.bool x5.2),(10,10,.bool x5.2)]) c (fun i6=>?_) fun hd4=>?_
 obtain ⟨b7,a3,c3,rs3⟩:=i6
 refine qnE ⟨qP [],qP [],tt⟩ fun _ _ c=>?_
 exact nN (b7,a3,c3,rs3) (c.rk (rg 4) (rg 5))
 refine Dq (fun i:Nat × Ob (List Hd)=>([(1,I p1),(2,B b1 0),(9,B i.1 0),(40,.tuple #[.agg #[I x5.1.Vars,L i.2.1 x5.1.Clauses i.p2],.bool x5.2])],fun Γ=>Γ ++ [BX i.1 52 [I 0,L none ([]:List (List Int)) 0],sl47 (L i.2.1 x5.1.Clauses i.p2) (i.q3)],[CS (i.q3) x5.1.Clauses])) (bN 11 287) (fun i=>[(5,35,.tuple #[.agg #[I x5.1.Vars,L i.2.1 x5.1.Clauses i.p2],.bool x5.2]),(6,41,.agg #[I x5.1.Vars,L i.2.1 x5.1.Clauses i.p2]),(7,42,.bool x5.2)]) c (fun i4=>?_) fun hd3=>?_
 obtain ⟨b6,a2,c2,rs2⟩:=i4
 refine qn [9] ⟨qP [],qP [],qP [],tt⟩ ⟨fun _ _ c=>?_,tt⟩
 refine X8 _ rfl rfl ?_
 refine Ess 2 [I x5.1.Vars,L a2 x5.1.Clauses c2] c fun _ c=>?_
 refine E0 (nQ hd4 (b6,a2,c2,rs2) (c.rk (rg 4) (rg 5)))
 refine Dq (fun i:Ob (List Hd)=>([(1,I p1),(2,B b1 0),(40,.tuple #[.agg #[I x5.1.Vars,L i.1 x5.1.Clauses i.2.1],.bool x5.2])],fun Γ=>Γ ++ [sl47 (L i.1 x5.1.Clauses i.2.1) (i.q2)],[CS (i.q2) x5.1.Clauses])) (bN 11 31) (fun i=>[(5,35,.tuple #[.agg #[I x5.1.Vars,L i.1 x5.1.Clauses i.2.1],.bool x5.2]),(6,41,.agg #[I x5.1.Vars,L i.1 x5.1.Clauses i.2.1]),(7,42,.bool x5.2)]) c (fun i3=>?_) fun hd1=>?_
 obtain ⟨a1,c1,rs1⟩:=i3
 refine qn [8] ⟨qP [],qP [],qP [],tt⟩ ⟨fun _ _ c=>?_,tt⟩
 refine X8 _ rfl rfl ?_
 refine Eal [I 0,L none ([]:List (List Int)) 0] c fun b5 _ _ c=>?_
 refine E0 (nQ hd3 (b5,a1,c1,rs1) (c.rk [0,1,3,2] (rg 5)))
 refine Dq (fun i:Nat=>([(1,I p1),(2,B b1 0),(6,B b2 0),(7,L i1.p2 x3.2.1 i1.q3),(9,B i 0)],fun Γ=>Γ ++ [BX i 52 [I 0,L none ([]:List (List Int)) 0]],[])) (bN 11 256) (fun i=>[(0,36,.agg #[I x3.1.Inputs,L i1.1 x3.1.Gates i1.2.1]),(1,37,L i1.p2 x3.2.1 i1.q3),(2,38,.pointer (some ep1)),(3,39,I x4)]) c (fun b4=>?_) fun hd2=>?_
 refine qn [4] ⟨qP [(0,1)],qP [],qI 3,qL 3,tt⟩ ⟨fun _ _ c=>?_,tt⟩
 refine X8 _ rfl rfl ?_
 refine Cg c (Zbx hx5) ⟨.f 1,tt⟩ call23 fun i5 _ _ c=>?_
 refine E0 (nQ hd3 (b4,i5.1,i5.2.1,i5.q2) (c.rk (rg 4) (rg 5)))
 refine q0 (qs:=[(0,36,.agg #[I x3.1.Inputs,L i1.1 x3.1.Gates i1.2.1]),(1,37,L i1.p2 x3.2.1 i1.q3),(2,38,.pointer (some ep1)),(3,39,I x4)]) c (qn [4,8] ⟨qP [(0,1)],qP [],qI 3,qL 3,tt⟩ ⟨fun _ _ c=>?_,fun _ _ c=>?_,tt⟩)
 refine X8 _ rfl rfl ?_
 refine Cg c (Zbx hx5) ⟨.f 1,tt⟩ call23 fun i2 _ _ c=>?_
 refine E0 (nQ hd1 (i2.1,i2.2.1,i2.q2) (c.rk [0,1,2] (rg 5)))
 refine X8 _ rfl rfl ?_
 refine Eal [I 0,L none ([]:List (List Int)) 0] c fun b3 _ _ c=>?_
 refine E0 (nQ hd2 (b3) (c.rk [0,1,2] (rg 4)))
 obtain ⟨b8,a4,c4,rs4⟩:=i7
 refine T0 (Fp [(0,2)] 2 c fun _ c=>Bd h fun x6 hx6 h=>Cb c (Zeu hx6) ⟨.gr 3 4,.nil,tt⟩ call24 fun i8 _ _ c=>?_)
 refine Fp [] 7 c fun _ c=>E0 (S0 (P0 [] c fun _ c=>I0 c h (fun h=>?_) fun h=>?_))
 refine P0 [] c fun _ c=>?_
 replace c:=c.nil (α:=D.Value) 72
 cases h
 exact wp_ret (tr (Rg c (none,0) [5] [] (.tmp (.tmp .nil))))
 refine K0 (T0 (Fp [(1,0)] 2 c fun _ c=>Bd h fun x7 hx7 h=>Cg c (Zca hx7) ⟨.f 0,tt⟩ call36 fun i9 _ _ c=>?_))
 refine Fp [] 1 c fun _ c=>Bd h fun x8 hx8 h=>Cb c (Zd3 hx8) ⟨.f 5,.g 4,tt⟩ call35 fun i10 _ _ c=>?_
 refine Fp [] 2 c fun _ c=>E0 ?_
 cases h
 exact wp_ret (Rg c (i10.1,i10.2) [5] [] (.tmp (.tmp .nil)))
theorem Zdc {p0 p1 r} (h:XI n p0 p1 = some r):Con prog 17 [tV p0 ga0 gc1,I p1] [] [lR ga0 p0.Kids gc1] fun (i:Oh)=>([I r.1,L i.1 r.2 i.2],[sl72 (L i.1 r.2 i.2) r.2],[]):=by
 unfold XI at h
 refine En func17 rfl ntmps17 fun _ fr w c=>?_
 refine T0 (Ebx (tC p0 ga0 gc1) c fun b1 _ _ c=>?_)
 refine Fp [] 2 c fun _ c=>E0 (S0 (Bd h fun x1 hx1 h=>Bd h fun x2 hx2 h=>S0 (rZ [(1,.eq (.bool x1)),(10,.eq (.bool x2))] [(0,0),(5,0)] mix c ⟨Ncl c (kN (XG hx1)) ⟨.f 0,tt⟩ call20,Ncl c (fun hg=>Zt (iteF (gcF hg) hx2)) tt call21,tt⟩ fun _ _ c=>I0 c h (fun h=>?_) fun h=>?_)))
 refine P0 [] c fun _ c=>?_
 replace c:=c.nil (α:=D.Value) 72
 cases h
 exact wp_ret (tr (Rg c (none,0) [1] [] (.tmp (.tmp .nil))))
 refine K0 (T0 (Fp [(0,0)] 1 c fun _ c=>Eltr 30 [(tR p0 ga0 gc1)] [p0] c ⟨(Ava.mk_Term p0 (.f 0)),tt⟩ fun a1 c1 _ _ c=>?_))
 refine Fp [] 1 c fun _ c=>Eal tZ c fun b2 _ _ c=>?_
 refine Ess 2 [I 1,I 1,I 0,Str.val ⟨[]⟩,L a1 [p0] c1] c fun _ c=>?_
 refine E0 (S0 (T0 (Fp [(0,1)] 1 c fun _ c=>Bd h fun x3 hx3 h=>Cb c (XG hx3) ⟨.gr 1 1,tt⟩ call20 fun _ _ _ c=>?_)))
 refine Fp [] 1 c fun _ c=>E0 (I0 c h (fun h=>?_) fun h=>?_)
 refine P0 [] c fun _ c=>?_
 replace c:=c.nil (α:=D.Value) 72
 cases h
 exact wp_ret (tr (Rg c (none,0) [3] [] (.tmp (.tmp .nil))))
 refine K0 (T0 (Fp [(0,1)] 2 c fun _ c=>?_))
 replace c:=c.ng
 refine Bd h fun x4 hx4 h=>Cb c (Zds hx4) ⟨.gr 1 1,tt⟩ call11 fun i1 _ _ c=>?_
 refine Fp [] 5 c fun _ c=>E0 (S0 (P0 [] c fun _ c=>wp_block (P0 [] c fun _ c=>I0 c h (fun h=>?_) fun h=>?_)))
 refine P0 [] c fun _ c=>?_
 cases h
 exact wp_ret (br (tr (Rg c (i1.1,i1.2) [3] [] (.tmp (.tmp .nil)))))
 refine P0 [] c fun _ c=>I0 c h (fun h=>?_) fun h=>?_
 refine P0 [] c fun _ c=>?_
 replace c:=c.nil (α:=D.Value) 72
 cases h
 exact wp_ret (br (tr (Rg c (none,0) [4] [] (.tmp (.tmp .nil)))))
 refine K1 (bk (tn (P0 [] c fun _ c=>?_)))
 replace c:=c.nil (α:=D.Value) 72
 cases h
 exact wp_ret (Rg c (none,0) [4] [] (.tmp (.tmp .nil)))
theorem ZaV {p0 r} (h:YB p0 = some r):C0 83 [I p0] [] (.bool r):=by
 unfold YB at h
 refine En func83 rfl ntmps83 fun _ fr w c=>?_
 refine P0 [] c fun _ c=>S0 (Ry [] mix c fun _ _ c=>?_)
 exact rE
theorem ZdQ {p0 r} (h:YC p0 = some r):C0 84 [I p0] [] (I r):=by
 unfold YC at h
 refine En func84 rfl ntmps84 fun _ fr w c=>?_
 refine P0 [] c fun _ c=>S0 (wp_block (S0 (Ry [] mix c fun _ _ c=>I0 c h (fun h=>?_) fun h=>?_)))
 exact P0 [] c fun _ c=>rE
 refine S0 (Ry [] mix c fun _ _ c=>I0 c h (fun h=>?_) fun h=>?_)
 exact P0 [] c fun _ c=>rE
 refine S0 (Ry [] mix c fun _ _ c=>I0 c h (fun h=>?_) fun h=>?_)
 exact P0 [] c fun _ c=>rE
 exact P0 [] c fun _ c=>I0 c h (fun h=>P0 [] c fun _ c=>rE) fun h=>K1 (bk (tn (P0 [] c fun _ c=>rE)))
theorem Zdj {p0 r} (h:XL p0 = some r):C0 85 [tV p0 ga0 gc1] [lR ga0 p0.Kids gc1] (.bool r):=by
 unfold XL at h
 refine En func85 rfl ntmps85 fun _ fr w c=>?_
 refine T0 (Ebx (tC p0 ga0 gc1) c fun b1 _ _ c=>?_)
 refine Fp [] 1 c fun _ c=>E0 (P0 [(1,0)] c fun _ c=>S0 (wp_block (S0 (Ry [(1,0),(5,0)] mix c fun _ _ c=>I0 c h (fun h=>?_) fun h=>?_))))
 exact P0 [] c fun _ c=>rE
 refine S0 (Ry [(1,0),(5,0)] mix c fun _ _ c=>I0 c h (fun h=>?_) fun h=>?_)
 refine Bd h fun x1 hx1 h=>?_
 obtain ⟨ep1,u1,c⟩:=c.elp (.f 0) hx1
 obtain ⟨a1,c1,rfl,c⟩:=c.o_Term 2
 refine S0 (rZ [(1,.eq (.pointer (some ep1))),(3,.eq (I x1.W))] [(5,0)] mix c ⟨Nie c 1,Nlc c 1 1,tt⟩ fun _ _ c=>?_)
 exact rE
 refine S0 (Ry [(1,0),(5,0)] mix c fun _ _ c=>I0 c h (fun h=>?_) fun h=>?_)
 refine Bd h fun x2 hx2 h=>?_
 obtain ⟨ep2,u2,c⟩:=c.elp (.f 0) hx2
 obtain ⟨a2,c2,rfl,c⟩:=c.o_Term 2
 refine Bd h fun x3 hx3 h=>S0 (rZ [(1,.eq (.pointer (some ep2))),(3,.eq (I x2.W)),(9,Pd.el (x3:D.Term)),(10,Pd.fl (I x3.W)),(11,.eq (I x3.W))] [(5,0),(13,0)] mix c ⟨Nie c 1,Nlc c 1 1,Nid c (.f 0) (gT hx3),Nfa c 9 (atN 9) ZcO,Nlf c 10 (atN 10),tt⟩ fun _ _ c=>?_)
 exact rE
 refine S0 (Ry [(1,0),(5,0)] mix c fun _ _ c=>I0 c h (fun h=>?_) fun h=>?_)
 refine Bd h fun x4 hx4 h=>?_
 obtain ⟨ep3,u3,c⟩:=c.elp (.f 0) hx4
 obtain ⟨a3,c3,rfl,c⟩:=c.o_Term 2
 refine Bd h fun x5 hx5 h=>?_
 obtain ⟨ep4,u4,c⟩:=c.elp (.f 0) hx5
 obtain ⟨a4,c4,rfl,c⟩:=c.o_Term 5
 refine S0 (rZ [(1,.eq (.pointer (some ep3))),(3,.eq (I x4.W)),(5,.eq (.pointer (some ep4))),(7,.eq (I x5.W))] [(11,0)] mix c ⟨Nie c 1,Nlc c 1 1,Nie c 4,Nlc c 4 1,tt⟩ fun _ _ c=>?_)
 exact rE
 refine P0 [(1,0)] c fun _ c=>I0 c h (fun h=>?_) fun h=>?_
 refine Bd h fun x6 hx6 h=>?_
 obtain ⟨ep5,u5,c⟩:=c.elp (.f 0) hx6
 obtain ⟨a5,c5,rfl,c⟩:=c.o_Term 2
 refine Bd h fun x7 hx7 h=>Bd h fun x8 hx8 h=>S0 (rZ [(1,.eq (.pointer (some ep5))),(3,.eq (I x6.W)),(7,Pd.el (x7:D.Term)),(8,Pd.fl (I x7.W)),(9,.eq (I x7.W)),(16,Pd.el (x8:D.Term)),(17,Pd.fl (I x8.W)),(18,.eq (I x8.W))] [(11,0),(20,0)] mix c ⟨Nie c 1,Nlc c 1 1,Nid c (.f 0) (gT hx7),Nfa c 7 (atN 7) ZcO,Nlf c 8 (atN 8),Nid c (.f 0) (gT hx8),Nfa c 16 (atN 16) ZcO,Nlf c 17 (atN 17),tt⟩ fun _ _ c=>?_)
 exact rE
 refine P0 [(1,0)] c fun _ c=>I0 c h (fun h=>?_) fun h=>?_
 refine Bd h fun x9 hx9 h=>?_
 obtain ⟨ep6,u6,c⟩:=c.elp (.f 0) hx9
 obtain ⟨a6,c6,rfl,c⟩:=c.o_Term 2
 refine Bd h fun x10 hx10 h=>?_
 obtain ⟨ep7,u7,c⟩:=c.elp (.f 0) hx10
 obtain ⟨a7,c7,rfl,c⟩:=c.o_Term 5
 refine S0 (rZ [(1,.eq (.pointer (some ep6))),(3,.eq (I x9.W)),(5,.eq (.pointer (some ep7))),(7,.eq (I x10.W))] [(10,0)] mix c ⟨Nie c 1,Nlc c 1 1,Nie c 4,Nlc c 4 1,tt⟩ fun _ _ c=>?_)
 exact rE
 refine P0 [(1,0)] c fun _ c=>I0 c h (fun h=>?_) fun h=>?_
 refine Bd h fun x11 hx11 h=>S0 (rZ [(7,Pd.el (x11:D.Term)),(8,Pd.fl (I x11.W)),(9,.eq (I x11.W))] [(1,0),(5,0),(11,0)] mix c ⟨Nid c (.f 0) (gT hx11),Nfa c 7 (atN 7) ZcO,Nlf c 8 (atN 8),tt⟩ fun _ _ c=>?_)
 exact rE
 refine K1 (bk (tn (Bd h fun x12 hx12 h=>?_)))
 obtain ⟨ep8,u8,c⟩:=c.elp (.f 0) hx12
 obtain ⟨a8,c8,rfl,c⟩:=c.o_Term 2
 refine S0 (rZ [(1,.eq (.pointer (some ep8))),(3,.eq (I x12.W))] [(5,0)] mix c ⟨Nie c 1,Nlc c 1 1,tt⟩ fun _ _ c=>?_)
 exact rE
theorem Zfe {p0 p1 r} (h:Zak p0 p1 = some r):C0 86 [I p0,I p1] [] (.bool r):=by
 unfold Zak at h
 refine En func86 rfl ntmps86 fun _ fr w c=>?_
 refine P0 [] c fun _ c=>Bd h fun x1 hx1 h=>Bd h fun x2 hx2 h=>S0 (rZ [(1,.eq (.bool x1)),(10,.eq (I x2))] [] mix c ⟨Ncl c (kN (ZaV hx1)) tt call83,Nshl c (gT hx2),tt⟩ fun _ _ c=>?_)
 exact rE
theorem Zex {p0 r} (h:ZaL n p0 = some r):C0 118 [Str.val p0] [] (.bool r):=by
 unfold ZaL at h
 refine En func118 rfl ntmps118 fun _ fr w c=>?_
 refine P0 [] c fun _ c=>S0 (S0 (Ry [] mix c fun _ _ c=>I0 c h (fun h=>?_) fun h=>?_))
 exact P0 [] c fun _ c=>rE
 refine K0 (S0 (P0 [] c fun _ c=>Bd h fun rl1 hit1 h=>?_))
 have hk1:=h
 refine LpR (fun s1  (_:Unit)=>([(0,Str.val p0),(3,I s1)],id,[])) (fun s  (_:Unit)=>([],id,[])) hit1 c () (c.rk [] []) (fun s1 q1 _ _ _ c h hr1=>?_) fun s1r _ _ _ hrl c=>?_
 refine S0 (P0 [] c fun _ c=>I0 c h (fun h=>?_) fun h=>?_)
 refine K0 (S0 (wp_block (Bd h fun x1 hx1 h=>Bd h fun x2 hx2 h=>S0 (rZ [(2,.eq (.int .u8 x1)),(7,.eq (.int .u8 x2))] [] mix c ⟨Nix c (kN hx1),Nix c (gT hx2),tt⟩ fun _ _ c=>Bd h fun x3 hx3 h=>Bd h fun x4 hx4 h=>S0 (rZ [(2,.eq (.int .u8 x3)),(7,.eq (.int .u8 x4))] [] mix c ⟨Nix c (kN hx3),Nix c (gT hx4),tt⟩ fun _ _ c=>S0 (Ry [] mix c fun _ _ c=>I0 c h (fun h=>?_) fun h=>?_))))))
 refine P0 [] c fun _ c=>?_
 obtain rfl:=hr1 _ (sk h)
 obtain rfl:=sj hk1
 exact wp_ret (br (tr (tr (br (tr (Rt c () [] []))))))
 refine K1 (bk (tn (P1 [] c fun _ c=>Nx h () (c.rk [] []))))
 refine wp_exit (te (te (be ?_)))
 obtain rfl:=hr1 _ (sk h)
 exact tn ⟨_,(),rfl,c.rk [] []⟩
 subst hrl
 exact P0 [] c fun _ c=>rE
theorem Zbj {p0 p1 gb0 gu1 r} (h:Yr n p0 p1 = some r):Con prog 87 [B gb0 0,tV p1 ga2 gc3] [BX gb0 106 [I p0.count,gu1],OM map104 (gu1) p0.widths] [lR ga2 p1.Kids gc3] fun (i:Value)=>([.bool r.1],[BX gb0 106 [I r.2.count,i],OM map104 (i) r.2.widths],[]):=by
 unfold Yr at h
 refine En func87 rfl ntmps87 fun _ fr w c=>?_
 refine T0 (Ebx (tC p1 ga2 gc3) c fun b1 _ _ c=>?_)
 refine Fp [] 1 c fun _ c=>E0 (S0 (T0 (Fp [(1,1)] 2 c fun _ c=>Bd h fun x1 hx1 h=>Cb c (Zex hx1) tt call118 fun _ _ _ c=>?_)))
 refine Fp [] 1 c fun _ c=>E0 (I0 c h (fun h=>?_) fun h=>?_)
 refine P0 [] c fun _ c=>?_
 cases h
 exact wp_ret (tr (Rt c (gu1) [0,1] []))
 refine K0 (S0 (T0 (Fp [(3,0)] 4 c fun _ c=>Enm 1 c fun _ c=>?_)))
 refine E0 (If c (b:=(Option.isNone p0.widths)) (fun hb=>?_) fun hb=>?_)
 replace h:=iteT hb h
 obtain rfl:=c.nom 1 hb
 replace c:=c.dp [1]
 refine T1 (Fp [] 1 c fun _ c=>Emm map104 c fun b2 _ _ c=>?_)
 refine Fp [] 2 c fun _ c=>Esb 0 1 (.map (some b2)) c fun _ c=>?_
 refine E0 (S0 (Bd h fun x2 hx2 h=>S0 (rZ [(6,.eq (.tuple #[I x2.1,.bool x2.2]))] [(3,0),(5,1)] mix c ⟨Nmg2 2 c (kN hx2),tt⟩ fun _ _ c=>P0 [] c fun _ c=>I0 c h (fun h=>?_) fun h=>?_)))
 refine P0 [(2,1)] c fun _ c=>?_
 replace c:=c.om 2
 cases h
 exact wp_ret (tr (Rt c (.map (some b2)) [0,2] []))
 refine K0 (S0 (ZI mix (rM 8 [] [(3,0),(5,1),(7,1)] c (fun ow=>tt) fun _ _ _ _ _ c=>Bd h fun x3 hx3 h=>Emp 2 c hx3 fun _ c=>?_)))
 refine E0 (P0 [] c fun _ c=>?_)
 replace c:=c.om 2
 cases h
 exact wp_ret (Rt c (.map (some b2)) [0,2] [])
 replace h:=iteF hb h
 obtain ⟨b3,rfl,c⟩:=c.som 1 hb
 refine K0 (S0 (Bd h fun x4 hx4 h=>S0 (rZ [(6,.eq (.tuple #[I x4.1,.bool x4.2]))] [(3,0),(5,1)] mix c ⟨Nmg2 1 c (kN hx4),tt⟩ fun _ _ c=>P0 [] c fun _ c=>I0 c h (fun h=>?_) fun h=>?_)))
 refine P0 [(2,1)] c fun _ c=>?_
 replace c:=c.om 1
 cases h
 exact wp_ret (tr (Rt c (.map (some b3)) [0,1] []))
 refine K0 (S0 (ZI mix (rM 8 [] [(3,0),(5,1),(7,1)] c (fun ow=>tt) fun _ _ _ _ _ c=>Bd h fun x5 hx5 h=>Emp 1 c hx5 fun _ c=>?_)))
 refine E0 (P0 [] c fun _ c=>?_)
 replace c:=c.om 1
 cases h
 exact wp_ret (Rt c (.map (some b3)) [0,1] [])
theorem ZbP {n:Nat}:∀ {p0 p1 gb0 gu1 ga2 gc3 r} (h:Z7 n p0 p1 = some r),Con prog 57 [B gb0 0,tV p1 ga2 gc3] [BX gb0 106 [I p0.count,gu1],OM map104 (gu1) p0.widths] [lR ga2 p1.Kids gc3] fun (i:Value)=>([.bool r.1],[BX gb0 106 [I r.2.count,i],OM map104 (i) r.2.widths],[]):=by
 induction n with
 | zero=>intro p0 p1 gb0 gu1 ga2 gc3 r h; simp [Z7] at h
 | succ n ih=>
 intro p0 p1 gb0 gu1 ga2 gc3 r h
 rw [Z7] at h
 refine En func57 rfl ntmps57 fun _ fr w c=>?_
 refine T0 (Ebx (tC p1 ga2 gc3) c fun b1 _ _ c=>?_)
 refine Fp [] 1 c fun _ c=>E0 (T0 (Fp [(3,0)] 7 c fun _ c=>Esb 0 0 (I (w64 (p0.count + 1))) c fun _ c=>?_))
 refine E0 (S0 (Bd h fun x1 hx1 h=>Bd h fun x2 hx2 h=>S0 (rZ [(8,.eq (.bool x1)),(17,.eq (I x2))] [(3,0),(7,1),(13,1),(16,1)] mix c ⟨Ncl c (fun hg=>ZaV (iteF (gcF hg) hx1)) tt call83,Ncl c (fun hg=>ZdQ (iteF (gcF hg) hx2)) tt call84,tt⟩ fun _ _ c=>I0 c h (fun h=>?_) fun h=>?_)))
 refine P0 [] c fun _ c=>?_
 cases h
 exact wp_ret (tr (Rt c (gu1) [0,1] []))
 refine K0 (S0 (P0 [(1,1)] c fun _ c=>Bd h fun rl1 hit1 h=>?_))
 have hk1:=h
 refine LpR (fun s1  (_:Unit)=>([(0,B gb0 0),(3,B b1 0),(36,I (len p1.Kids)),(37,I s1)],id,[])) (fun s  (_:Unit)=>([(0,B gb0 0),(3,B b1 0)],id,[])) hit1 c () (c.rk [0,1,2] [0]) (fun s1 q1 _ _ _ c h hr1=>?_) fun s1r _ _ _ hrl c=>?_
 refine P0 [] c fun _ c=>S0 (I0 c h (fun h=>?_) fun h=>?_)
 refine K0 (S0 (wp_block (P0 [] c fun _ c=>T0 (Fp [(1,1)] 3 c fun _ c=>Bd h fun x3 hx3 h=>Eef c (.f 0) hx3 ZcO fun _ _ _ c=>?_))))
 refine Bd h fun x4 hx4 h=>Cb c (ZaV hx4) tt call83 fun _ _ _ c=>?_
 refine Fp [] 1 c fun _ c=>E0 (I0 c h (fun h=>?_) fun h=>?_)
 refine P0 [] c fun _ c=>?_
 obtain rfl:=hr1 _ (sk h)
 obtain rfl:=sj hk1
 exact wp_ret (br (tr (tr (br (tr (Rt c (gu1) [0,1] []))))))
 refine K1 (bk (tn (P1 [] c fun _ c=>Nx h () (c.rk [0,1,2] [0]))))
 refine wp_exit (te (te (be ?_)))
 obtain rfl:=hr1 _ (sk h)
 exact tn ⟨_,(),rfl,c.rk [0,1,2] [0]⟩
 subst hrl
 refine S0 (T0 (Fp [(0,1)] 1 c fun _ c=>Bd h fun x5 hx5 h=>Cb c (Zdj hx5) ⟨.f 0,tt⟩ call85 fun _ _ _ c=>?_))
 refine Fp [] 1 c fun _ c=>E0 (I0 c h (fun h=>?_) fun h=>?_)
 refine P0 [] c fun _ c=>?_
 cases h
 exact wp_ret (tr (Rt c (gu1) [0,1] []))
 refine K0 (S0 (Bd h fun x6 hx6 h=>S0 (rZ [(8,.eq (.bool x6))] [(1,1),(5,1),(7,1)] mix c ⟨Ncl c (fun hg=>Zfe (iteT (gcT hg) hx6)) tt call86,tt⟩ fun _ _ c=>I0 c h (fun h=>?_) fun h=>?_)))
 refine P0 [] c fun _ c=>?_
 cases h
 exact wp_ret (tr (Rt c (gu1) [0,1] []))
 refine K0 (S0 (S0 (Ry [(1,1),(5,1),(10,1)] mix c fun _ _ c=>I0 c h (fun h=>?_) fun h=>?_)))
 refine P0 [] c fun _ c=>?_
 cases h
 exact wp_ret (tr (Rt c (gu1) [0,1] []))
 refine K0 (S0 (P0 [(1,1)] c fun _ c=>I0 c h (fun h=>?_) fun h=>?_))
 refine P0 [(1,1)] c fun _ c=>I0 c h (fun h=>?_) fun h=>?_
 refine P0 [] c fun _ c=>?_
 cases h
 exact wp_ret (tr (Rt c (gu1) [0,1] []))
 refine K0 (S0 (P0 [(1,1)] c fun _ c=>Bd h fun rl2 hit2 h=>?_))
 have hk2:=h
 refine LpR (fun s2  (i:Value)=>([(0,B gb0 0),(3,B b1 0),(88,I (len p1.Kids)),(89,I s2.1)],fun Γ=>(Γ.set 0 (BX gb0 106 [I s2.2.1,i])).set 1 (OM map104 (i) s2.q2),[])) (fun s  (i:Value)=>([],fun Γ=>(Γ.set 0 (BX gb0 106 [I s.1,i])).set 1 (OM map104 (i) s.2),[])) hit2 c (gu1) (c.rk [0,1,2] [0]) (fun s2 q2 i1 _ _ c h hr2=>?_) fun s2r k1 _ _ hrl c=>?_
 refine P0 [] c fun _ c=>S0 (I0 c h (fun h=>?_) fun h=>?_)
 refine K0 (S0 (wp_block (P0 [] c fun _ c=>T0 (Fp [(2,1)] 4 c fun _ c=>Bd h fun x7 hx7 h=>Eem c (.f 0) hx7 fun _ u1 _ c=>?_))))
 obtain ⟨a1,c1,rfl,c⟩:=c.o_Term 1
 refine Bd h fun x8 hx8 h=>Ca [0,1] c (ih hx8) ⟨.f 2,tt⟩ call57 fun i2 _ _ c=>?_
 refine Fp [] 1 c fun _ c=>E0 (I0 c h (fun h=>?_) fun h=>?_)
 refine P0 [] c fun _ c=>?_
 obtain rfl:=hr2 _ (sk h)
 obtain rfl:=sj hk2
 exact wp_ret (br (tr (tr (br (tr (Rt c (i2) [1,2] []))))))
 refine K1 (bk (tn (P1 [] c fun _ c=>Nx h (i2) (c.rk [1,2,0] [0]))))
 refine wp_exit (te (te (be ?_)))
 obtain rfl:=hr2 _ (sk h)
 exact tn ⟨_,(i1),rfl,c.rk [0,1,2] [0]⟩
 subst hrl
 refine P0 [] c fun _ c=>?_
 cases h
 exact wp_ret (Rt c (k1) [0,1] [])
 refine T0 (Fp [(1,1)] 2 c fun _ c=>Bd h fun x9 hx9 h=>Ca [0,1] c (Zbj hx9) ⟨.f 0,tt⟩ call87 fun i3 _ _ c=>?_)
 refine Fp [] 1 c fun _ c=>E0 (I0 c h (fun h=>?_) fun h=>?_)
 refine P0 [] c fun _ c=>?_
 cases h
 exact wp_ret (tr (Rt c (i3) [1,2] []))
 refine K0 (S0 (P0 [(1,0)] c fun _ c=>Bd h fun rl3 hit3 h=>?_))
 have hk3:=h
 refine LpR (fun s3  (i:Value)=>([(0,B gb0 0),(3,B b1 0),(88,I (len p1.Kids)),(89,I s3.1)],fun Γ=>(Γ.set 1 (BX gb0 106 [I s3.2.1,i])).set 2 (OM map104 (i) s3.q2),[])) (fun s  (i:Value)=>([],fun Γ=>(Γ.set 1 (BX gb0 106 [I s.1,i])).set 2 (OM map104 (i) s.2),[])) hit3 c (i3) (c.rk [0,1,2] [0]) (fun s3 q3 i4 _ _ c h hr3=>?_) fun s3r k2 _ _ hrl c=>?_
 refine P0 [] c fun _ c=>S0 (I0 c h (fun h=>?_) fun h=>?_)
 refine K0 (S0 (wp_block (P0 [] c fun _ c=>T0 (Fp [(2,0)] 4 c fun _ c=>Bd h fun x10 hx10 h=>Eem c (.f 0) hx10 fun _ u2 _ c=>?_))))
 obtain ⟨a2,c2,rfl,c⟩:=c.o_Term 1
 replace c:=c.nf
 refine Bd h fun x11 hx11 h=>Ca [1,2] c (ih hx11) ⟨.f 2,tt⟩ call57 fun i5 _ _ c=>?_
 refine Fp [] 1 c fun _ c=>E0 (I0 c h (fun h=>?_) fun h=>?_)
 refine P0 [] c fun _ c=>?_
 obtain rfl:=hr3 _ (sk h)
 obtain rfl:=sj hk3
 exact wp_ret (br (tr (tr (br (tr (Rt c (i5) [1,2] []))))))
 refine K1 (bk (tn (P1 [] c fun _ c=>Nx h (i5) (c.rk [0,1,2] [0]))))
 refine wp_exit (te (te (be ?_)))
 obtain rfl:=hr3 _ (sk h)
 exact tn ⟨_,(i4),rfl,c.rk [0,1,2] [0]⟩
 subst hrl
 refine P0 [] c fun _ c=>?_
 cases h
 exact wp_ret (Rt c (k2) [1,2] [])
theorem Zaq {p0 r} (h:Xt n p0 = some r):C0 27 [tV p0 ga0 gc1] [lR ga0 p0.Kids gc1] (.bool r):=by
 unfold Xt at h
 refine En func27 rfl ntmps27 fun _ fr w c=>?_
 refine T0 (Ebx (tC p0 ga0 gc1) c fun b1 _ _ c=>?_)
 refine Fp [] 1 c fun _ c=>E0 (T0 (Eal [I 0,.map none] c fun b2 _ _ c=>?_))
 refine E0 (T0 (Fp [(0,0)] 1 c fun _ c=>?_))
 replace c:=c.nilm map104
 refine Bd h fun x1 hx1 h=>Ca [1,2] c (ZbP hx1) ⟨.f 0,tt⟩ call57 fun i1 _ _ c=>?_
 exact Fp [] 1 c fun _ c=>E0 rE
theorem ZaP {p0 r} (h:YO p0 = some r):C0 28 [I p0] [] (.bool r):=by
 unfold YO at h
 refine En func28 rfl ntmps28 fun _ fr w c=>?_
 refine P0 [] c fun _ c=>S0 (Ry [] mix c fun _ _ c=>?_)
 exact rE
theorem ZcF {p0 r} (h:X5 p0 = some r):C0 88 [I p0] [] (.bool r):=by
 unfold X5 at h
 refine En func88 rfl ntmps88 fun _ fr w c=>?_
 refine P0 [] c fun _ c=>S0 (Ry [] mix c fun _ _ c=>?_)
 exact rE
theorem Zef {n:Nat}:∀ {p0 ga0 gc1 r} (h:Xg n p0 = some r),C0 58 [tV p0 ga0 gc1] [lR ga0 p0.Kids gc1] (.bool r):=by
 induction n with
 | zero=>intro p0 ga0 gc1 r h; simp [Xg] at h
 | succ n ih=>
 intro p0 ga0 gc1 r h
 rw [Xg] at h
 refine En func58 rfl ntmps58 fun _ fr w c=>?_
 refine T0 (Ebx (tC p0 ga0 gc1) c fun b1 _ _ c=>?_)
 refine Fp [] 1 c fun _ c=>E0 (S0 (Bd h fun x1 hx1 h=>Bd h fun x2 hx2 h=>S0 (rZ [(6,.eq (.bool x1)),(11,Pd.el (x2:D.Term)),(12,Pd.fl (I x2.W)),(13,.eq (I x2.W))] [(1,0),(5,0),(10,0)] mix c ⟨Ncl c (fun hg=>ZcF (iteF (gcF hg) hx1)) tt call88,Nid c (.f 0) (gT hx2),Nfa c 11 (atN 11) ZcO,Nlf c 12 (atN 12),tt⟩ fun _ _ c=>I0 c h (fun h=>?_) fun h=>?_)))
 exact P0 [] c fun _ c=>rE
 refine K0 (S0 (P0 [(1,0)] c fun _ c=>Bd h fun rl1 hit1 h=>?_))
 have hk1:=h
 refine LpR (fun s1  (_:Unit)=>([(1,B b1 0),(22,I (len p0.Kids)),(23,I s1)],id,[])) (fun s  (_:Unit)=>([],id,[])) hit1 c () (c.rk [0] [0]) (fun s1 q1 _ _ _ c h hr1=>?_) fun s1r _ _ _ hrl c=>?_
 refine P0 [] c fun _ c=>S0 (I0 c h (fun h=>?_) fun h=>?_)
 refine K0 (S0 (wp_block (P0 [] c fun _ c=>T0 (Fp [(1,0)] 3 c fun _ c=>Bd h fun x3 hx3 h=>Eem c (.f 0) hx3 fun _ u1 _ c=>?_))))
 obtain ⟨a1,c1,rfl,c⟩:=c.o_Term 1
 refine Bd h fun x4 hx4 h=>Cb c (ih hx4) ⟨.f 2,tt⟩ call58 fun _ _ _ c=>?_
 refine E0 (I0 c h (fun h=>?_) fun h=>?_)
 refine P0 [] c fun _ c=>?_
 obtain rfl:=hr1 _ (sk h)
 obtain rfl:=sj hk1
 exact wp_ret (br (tr (tr (br (tr (Rt c () [] []))))))
 refine K1 (bk (tn (P1 [] c fun _ c=>Nx h () (c.rk [0] [0]))))
 refine wp_exit (te (te (be ?_)))
 obtain rfl:=hr1 _ (sk h)
 exact tn ⟨_,(),rfl,c.rk [0] [0]⟩
 subst hrl
 exact P0 [] c fun _ c=>rE
theorem ZcC {n:Nat}:∀ {p0 p1 ga0 gc1 gu2 r} (h:Yh n p0 p1 = some r),Con prog 89 [tV p0 ga0 gc1,gu2] [OM map104 (gu2) p1] [lR ga0 p0.Kids gc1] fun (_:Unit)=>([],[OM map104 (gu2) r],[]):=by
 induction n with
 | zero=>intro p0 p1 ga0 gc1 gu2 r h; simp [Yh] at h
 | succ n ih=>
 intro p0 p1 ga0 gc1 gu2 r h
 rw [Yh] at h
 refine En func89 rfl ntmps89 fun _ fr w c=>?_
 refine T0 (Ebx (tC p0 ga0 gc1) c fun b1 _ _ c=>?_)
 refine E0 (S0 (P0 [(1,0)] c fun _ c=>I0 c h (fun h=>?_) fun h=>?_))
 refine T1 (Fp [(2,0),(4,0)] 5 c fun _ c=>Bd h fun x1 hx1 h=>?_)
 obtain ⟨b2,rfl,c⟩:=c.smx 0 hx1
 refine Bd h fun x2 hx2 h=>Emp 0 c hx2 fun _ c=>?_
 refine E0 (P0 [(1,0)] c fun _ c=>?_)
 replace c:=c.om 0
 refine Bd h fun rl1 hit1 h=>Tq (Lp (fun s1  (_:Unit)=>([(1,.map (some b2)),(2,B b1 0),(15,I (len p0.Kids)),(16,I s1.1)],fun Γ=>Γ.set 0 (OM map104 (.map (some b2)) s1.2),[])) (fun  (_:Unit)=>([],fun Γ=>Γ.set 0 (OM map104 (.map (some b2)) rl1),[])) hit1 c () (c.rk [0,1] [0]) (fun s1 q1 _ _ _ c h hr1=>?_) fun _ _ _ c=>?_)
 refine P0 [] c fun _ c=>S0 (I0 c h (fun h=>?_) fun h=>?_)
 refine K0 (S0 (wp_block (P0 [] c fun _ c=>T1 (Fp [(1,0)] 3 c fun _ c=>Bd h fun x3 hx3 h=>Eem c (.f 0) hx3 fun _ u1 _ c=>?_))))
 obtain ⟨a1,c1,rfl,c⟩:=c.o_Term 1
 refine Fp [] 1 c fun _ c=>Bd h fun x4 hx4 h=>Ca [0] c (ih hx4) ⟨.f 2,tt⟩ call89 fun _ _ _ c=>?_
 refine E1 (bk (tn (P1 [] c fun _ c=>Nx h () (c.rk [1,0] [0]))))
 refine wp_exit (te (te (be ?_)))
 obtain rfl:=hr1 _ (sk h)
 exact tn ⟨(),c.rk [0,1] [0]⟩
 obtain rfl:=sj h
 exact (Zcb (Rg c () [0] [] .nil))
 refine K0 (P0 [(1,0)] c fun _ c=>Bd h fun rl2 hit2 h=>Tq (Lp (fun s2  (_:Unit)=>([(1,gu2),(2,B b1 0),(15,I (len p0.Kids)),(16,I s2.1)],fun Γ=>Γ.set 0 (OM map104 (gu2) s2.2),[])) (fun  (_:Unit)=>([],fun Γ=>Γ.set 0 (OM map104 (gu2) rl2),[])) hit2 c () (c.rk [0,1] [0]) (fun s2 q2 _ _ _ c h hr2=>?_) fun _ _ _ c=>?_))
 refine P0 [] c fun _ c=>S0 (I0 c h (fun h=>?_) fun h=>?_)
 refine K0 (S0 (wp_block (P0 [] c fun _ c=>T1 (Fp [(1,0)] 3 c fun _ c=>Bd h fun x5 hx5 h=>Eem c (.f 0) hx5 fun _ u2 _ c=>?_))))
 obtain ⟨a2,c2,rfl,c⟩:=c.o_Term 1
 refine Fp [] 1 c fun _ c=>Bd h fun x6 hx6 h=>Ca [0] c (ih hx6) ⟨.f 2,tt⟩ call89 fun _ _ _ c=>?_
 refine E1 (bk (tn (P1 [] c fun _ c=>Nx h () (c.rk [1,0] [0]))))
 refine wp_exit (te (te (be ?_)))
 obtain rfl:=hr2 _ (sk h)
 exact tn ⟨(),c.rk [0,1] [0]⟩
 obtain rfl:=sj h
 exact (Zcb (Rg c () [0] [] .nil))
structure Gat (m:List (Str × Int)) (left:Lit → Bool) (l:List D.Value):Prop where
  nd:l.Pairwise fun a b=>a.Name ≠ b.Name
  mem:∀ v,v ∈ l ↔ m.lookup v.Name = some v.W ∧ v.N = 0 ∧ left (map104.lit v.Name) = false
theorem ZlU (a b:Str):(map104.lit a).sameKey (map104.lit b) = decide (a = b):=by
  cases a; cases b
  show Lit.sameKey (.string _) (.string _) = _
  simp only [Lit.sameKey,Str.mk.injEq]
  exact Bool.beq_eq_decide_eq _ _
theorem Zmr {m:List (Str × Int)} (hf:∀ p ∈ m,map104.fit p.1 = true) {s w} (h:m.lookup s = some w):map104.fit s = true:=by
  induction m with
  | nil=>cases h
  | cons p m ih =>
    obtain ⟨u,y⟩:=p
    rw [Znk] at h
    by_cases e:s = u
    · subst e; exact hf _ ZmV
    · have e' : (s == u) = false := by simpa using e
      rw [e'] at h
      exact ih (fun p hp=>hf p (ZmZ _ hp)) h
theorem Gat.start {m:List (Str × Int)} (hf:∀ p ∈ m,map104.fit p.1 = true):Gat m (Maps.has (map104.D m)) []:=⟨List.Pairwise.nil,fun v=>by
  constructor
  · intro h; cases h
  · rintro ⟨h1, _, h3⟩
    rw [MapT.has_ _ (Zmr hf h1) _ hf,h1] at h3
    cases h3⟩
theorem Gat.step {m left l} (h:Gat m left l) {u:Str} {z:Int} (hz:m.lookup u = some z) (hl:left (map104.lit u) = true):Gat m (fun q=>left q && !q.sameKey (map104.lit u)) (l ++ [⟨u,z,0⟩]):=by
  have hno:∀ v ∈ l,v.Name ≠ u:=fun v hv e=>by
    have:=((h.mem v).1 hv).2.2
    rw [e,hl] at this; cases this
  refine ⟨Zov.2 ⟨h.nd,List.pairwise_singleton _ _,fun a ha b hb=>by rw [Znm] at hb; subst hb; exact hno a ha⟩,fun v=>?_⟩
  rw [Znb,Znm,h.mem v,ZlU]
  by_cases e:v.Name = u
  · subst e
    simp only [decide_true,ZmT,Zp6,Zqc,hl]
    rw [hz]
    constructor
    · rintro (⟨_, _, h3⟩ | h)
      · cases h3
      · rw [h]; exact ⟨rfl,rfl⟩
    · rintro ⟨h1, h2⟩
      right
      cases v; simp_all
  · have hne : v ≠ ⟨u, z, 0⟩ := fun h => e (by rw [h])
    simp [e,hne]
theorem Gat.done {m left l l'} (h:Gat m left l) (h0:∀ kl,left kl = false) (hp:l'.Perm l) (hs:l'.Pairwise fun x y=>Go.Proofs.ltOf cmpV y x = false):l' = vtab m:=by
  have hnd:l'.Pairwise fun a b=>a.Name ≠ b.Name:=(hp.pairwise_iff fun {a b} (hab:a.Name ≠ b.Name)=>hab.symm).2 h.nd
  refine Zkt ?_ (ZbZ m) fun v=>?_
  · refine (hnd.and hs).imp fun {a b} hab => ?_
    obtain ⟨h1,h2⟩:=hab
    rw [Zep] at h2
    exact Zgr h2 (Ne.symm h1)
  · rw [hp.mem_iff, h.mem v, Zcj]
    simp [h0]
theorem vnan (s:Str) (w:World):Calls prog 121 [Str.val s].toArray w fun e w'=>e = .returned (.bool false) ∧ w' = w:=by
  refine enter func121 rfl ntmps121 (by rfl) fun a hF=>?_
  have c:Cx ⟨w,Non,Non⟩ _ (args0 0 [Str.val s]) [] [] a w:=⟨hF,Non,Non,Mem.start (fun _ h=>h.elim) (fun _ h=>h.elim) (fun _ h=>h.elim),Sep.nil _ _,AllF.nil⟩
  refine P0 [] c fun _ c=>?_
  refine P0 [] c fun _ c=>?_
  refine wp_ret (ret1 rfl c.fr (v:=.bool (!(Str.eqb s s))) (by kernel_rfl) ⟨?_,rfl⟩)
  have:Str.eqb s s = true:=by unfold Str.eqb; simp
  rw [this]; rfl
theorem vcmp (s t:Str) (w:World):Calls prog 92 [Str.val s,Str.val t].toArray w fun e w'=>e = .returned (.int .i64 (cmpS s t)) ∧ w' = w:=by
  refine enter func92 rfl ntmps92 (by rfl) fun a hF=>?_
  have c:Cx ⟨w,Non,Non⟩ _ (args0 0 [Str.val s,Str.val t]) [] [] a w:=⟨hF,Non,Non,Mem.start (fun _ h=>h.elim) (fun _ h=>h.elim) (fun _ h=>h.elim),Sep.nil _ _,AllF.nil⟩
  clear hF
  refine P0 [] c fun _ c=>?_
  refine T0 ?_
  refine Fp [] 1 c fun _ c=>?_
  refine s_call [Str.val s] (R:=fun v w'=>v = .bool false ∧ w' = w) call121 rfl rfl c.fr (by kernel_rfl) ((vnan s w).mono fun e w' h=>⟨_,h.1,rfl,h.2⟩) fun v w' fr hR hF=>?_
  obtain ⟨rfl,rfl⟩:=hR
  replace c:=c.to hF
  refine Fp [] 1 c fun _ c=>?_
  refine E0 ?_
  refine T0 ?_
  refine Fp [] 1 c fun _ c=>?_
  refine s_call [Str.val t] (R:=fun v w1=>v = .bool false ∧ w1 = w') call121 rfl rfl c.fr (by kernel_rfl) ((vnan t w').mono fun e w1 h=>⟨_,h.1,rfl,h.2⟩) fun v w1 fr hR hF=>?_
  obtain ⟨rfl,rfl⟩:=hR
  replace c:=c.to hF
  refine Fp [] 1 c fun _ c=>?_
  refine E0 ?_
  refine S0 ?_
  refine P0 [] c fun _ c=>?_
  refine If (b:=false) c (fun h=>by cases h) fun _=>?_
  refine K0 ?_
  refine S0 ?_
  refine P0 [] c fun _ c=>?_
  refine If (b:=false) c (fun h=>by cases h) fun _=>?_
  refine K0 ?_
  refine S0 ?_
  refine P0 [] c fun _ c=>?_
  refine If (b:=Str.ltb s t) c (fun h1=>?_) fun h1=>?_
  · refine P0 [] c fun _ c => ?_
    exact wp_ret (tr (ret1 rfl c.fr (v:=I (-1)) (by kernel_rfl) ⟨by unfold cmpS; rw [h1]; rfl,rfl⟩))
  refine K0 ?_
  refine S0 ?_
  refine P0 [] c fun _ c=>?_
  refine If (b:=Str.gtb s t) c (fun h2=>?_) fun h2=>?_
  · refine P0 [] c fun _ c => ?_
    exact wp_ret (tr (ret1 rfl c.fr (v:=I 1) (by kernel_rfl) ⟨by unfold cmpS; rw [h1,h2]; rfl,rfl⟩))
  refine K0 ?_
  refine P0 [] c fun _ c=>?_
  exact wp_ret (ret1 rfl c.fr (v:=I 0) (by kernel_rfl) ⟨by unfold cmpS; rw [h1,h2]; rfl,rfl⟩)
theorem vclo (x y:D.Value) (W:World):Calls prog 91 #[.agg (Flat.enc x).toArray,.agg (Flat.enc y).toArray] W fun e w'=>e = .returned (.int .i64 (cmpV x y)) ∧ ∃ q os',w' = Go.Sort.grow (W.drewN q) os':=by
  have hcon:=fun W'=>vcmp x.Name y.Name W'
  unfold cmpV
  generalize cmpS x.Name y.Name = r at hcon ⊢
  obtain ⟨⟨nx⟩,wx,mx⟩:=x
  obtain ⟨⟨ny⟩,wy,my⟩:=y
  change ∀ W',Calls prog 92 #[.string ⟨nx.toArray⟩,.string ⟨ny.toArray⟩] _ _ at hcon
  change Calls prog 91 #[.agg #[.string ⟨nx.toArray⟩,.int .i64 wx,.int .i64 mx],.agg #[.string ⟨ny.toArray⟩,.int .i64 wy,.int .i64 my]] _ _
  go_enter func91,ntmps91
  go_wp2_with (go_at_call 92; refine (hcon _).mono ?_; rintro e w' ⟨rfl,rfl⟩)
  go_ret
  exact ⟨rfl,0,_,by rw [Go.Sort.alloc_eq_grow,Go.Sort.alloc_eq_grow,Go.Sort.grow_grow]; rfl⟩
theorem vback (key:Value) (x:Str) (h:keyOf prog 9 key = some (map104.lit x)):key = Rep.val Str (Flat.enc x):=by
  have hk:prog.underlying 9 = some .string:=by kernel_rfl
  have h2:keyOf prog 9 key = some (.string x.bytes):=h
  cases key <;> simp [keyOf,hk,mapKey] at h2
  rename_i s
  obtain ⟨_,h3⟩:=h2
  show Value.string s = .string ⟨x.bytes.toArray⟩
  rw [← h3]
theorem Zcc {p0 r} (h:Xv n p0 = some r):Con prog 59 [tV p0 ga0 gc1] [] [lR ga0 p0.Kids gc1] fun (i:Oh)=>([L i.1 r i.2],[sl72 (L i.1 r i.2) r],[]):=by
 unfold Xv at h
 refine En func59 rfl ntmps59 fun Bb fr w c=>?_
 refine T0 ?_
 refine Ebx (tC p0 ga0 gc1) c fun b1 _ _ c=>?_
 refine Fp [] 1 c fun _ c=>?_
 refine E0 ?_
 refine S0 ?_
 refine T0 ?_
 refine Fp [(0,0)] 1 c fun _ c=>?_
 obtain ⟨x1,hx1,h⟩:=bindE h
 refine Cb c (Zaq hx1) ⟨.f 0,tt⟩ call27 fun _ _ _ c=>?_
 refine Fp [] 1 c fun _ c=>?_
 refine E0 ?_
 refine I0 c h (fun h=>?_) fun h=>?_
 · refine P0 [] c fun _ c => ?_
   obtain rfl:=sj h
   replace c:=c.nil (α:=D.Value) 72
   exact wp_ret (tr (Rt c (none,0) [1] []))
 refine K0 ?_
 refine T0 ?_
 refine Emm map104 c fun b2 _ _ c=>?_
 refine Fp [] 1 c fun _ c=>?_
 refine E0 ?_
 refine T0 ?_
 refine Fp [(0,0)] 2 c fun _ c=>?_
 replace c:=c.om 1
 obtain ⟨x2,hx2,h⟩:=bindE h
 refine Ca [1] c (ZcC hx2) ⟨.f 0,tt⟩ call89 fun _ _ _ c=>?_
 obtain ⟨x3,hx3,h⟩:=bindE h
 obtain ⟨b3,hb3,c⟩:=c.smx 1 hx3
 obtain rfl:b2 = b3:=by simpa using hb3
 clear hb3
 refine E0 ?_
 refine P0 [] c fun _ c=>?_
 refine S0 ?_
 refine T0 ?_
 refine Fp [] 1 c fun _ c=>?_
 obtain ⟨hlen,h⟩ : x3.length ≤ 1048576 ∧ some (vtab x3) = some r:=by
   by_cases hl:x3.length ≤ 1048576
   · rw [ZmJ hl] at h; exact ⟨hl,h⟩
   · rw [ZmI hl] at h; cases h
 obtain rfl:=sj h
 clear h
 have hfit:∀ p ∈ x3,map104.fit p.1 = true:=by
   obtain ⟨_,S,F,_,hs,_⟩:=c
   exact (hs.mp 1 rfl).2
 refine Ern 1 c fun r1 _ _ c=>?_
 refine E0 ?_
 replace c:=c.nil (α:=D.Value) 72
 refine (LpW (fun cnt a w=>∃ left l a' c',Cx Bb 30 [(4,.slice a' (List.length l) c'),(15,.pointer (some ⟨r1,0,none⟩))] [RG map104 b2 r1 x3 left cnt,sl72 (.slice a' (List.length l) c') l] [] a w ∧ Gat x3 left l)
   (fun a w=>∃ left l a' c',Cx Bb 30 [(4,.slice a' (List.length l) c')] [sl72 (.slice a' (List.length l) c') l] [] a w ∧ Gat x3 left l ∧ ∀ kl,left kl = false)
   ⟨_,[],none,0,c.re [1,2] [],Gat.start hfit⟩ (fun cnt a w ⟨left,l,a',c',c,hG⟩=>?_) fun a w ⟨left,l,a',c',c,hG,h0⟩=>?_)
 · have hl1:l.length ≤ 1048576:=by
     have:=ZhL (l':=vtab x3) hG.nd fun v hv=>(Zcj v x3).2 ⟨((hG.mem v).1 hv).1,((hG.mem v).1 hv).2.1⟩
     have:=Zdp x3
     omega
   refine T0 ?_
   refine Enx 0 vback c (fun hl _ c=>?_) fun u z cnt' _ w1 hu hz hlk hlt hen c=>?_
   · refine Fp [] 1 c fun _ c => ?_
     refine E0 ?_
     refine S0 (If (b:=false) c (fun h=>by cases h) fun _=>?_)
     refine wp_exit (te (te (be ?_)))
     exact tn ⟨left,l,a',c',c.re [1] [],hG,hl⟩
   · refine Fp [] 1 c fun _ c => ?_
     refine E0 ?_
     refine S0 (If (b:=true) c (fun _=>?_) fun h=>by cases h)
     refine K0 ?_
     refine wp_block ?_
     refine T0 ?_
     refine Een c hen fun _ c=>?_
     refine Fp [] 4 c fun _ c=>?_
     refine E0 ?_
     refine T1 ?_
     refine Fp [] 4 c fun _ c=>?_
     refine Elt 72 ([⟨u,z,0⟩]:List D.Value) c fun a2 c2 _ _ c=>?_
     have hap:app? l ([⟨u,z,0⟩]:List D.Value) = some (l ++ [⟨u,z,0⟩]):=by unfold app?; rw [ZmJ (by unfold room; simp; omega)]
     refine Eap 1 c (.g 2) hap fun a3 c3 _ _ c=>?_
     refine Fp [] 1 c fun _ c=>?_
     refine E1 ?_
     refine bk (tn ?_)
     exact ⟨cnt',hlt,_,l ++ [⟨u,z,0⟩],a3,c3,c.re [0,1] [],hG.step hz hlk⟩
 · refine T0 ?_
   refine Fp [] 1 c fun _ c=>?_
   have hl1:l.length ≤ 1048576:=by
     have:=ZhL (l':=vtab x3) hG.nd fun v hv=>(Zcj v x3).2 ⟨((hG.mem v).1 hv).1,((hG.mem v).1 hv).2.1⟩
     have:=Zdp x3
     omega
   refine Ca [0] c (Zjj (α:=D.Value) (l:=l) Tryz.sortV rfl Tryz.isAgg72 Tryz.sizeOf72 (by decide) (fun x v hv=>by
     have hv:v ∈ (vC x):=hv
     simp only [Zno,Zo3,or_false] at hv
     rcases hv with rfl | rfl | rfl <;> rfl) cmpV swoV (enters_of func91 (by kernel_rfl) rfl) vclo (by omega)) tt call90 fun i _ _ c=>?_
   refine E0 ?_
   obtain ⟨l',hp,hs⟩:=i
   obtain ⟨hl',c⟩:=c.relen 0
   obtain rfl:=hG.done h0 hp hs
   refine P0 [] c fun _ c=>?_
   replace c:=c.eqs (v:=L a' l c') (u:=L a' (vtab x3) c') 2 (by simp only [L,hl'])
   exact wp_ret (Rt c (a',c') [0] [])
theorem YD {p0 r} (h:ZE p0 = some r):Con prog 93 [L ga0 p0 gc1] [] [lR ga0 p0 gc1] fun (i:Oh)=>([L i.1 r i.2],[sl88 (L i.1 r i.2) r],[]):=by
 unfold ZE at h
 refine En func93 rfl ntmps93 fun _ fr w c=>?_
 refine P0 [] c fun _ c=>S0 (T0 (Fp [] 1 c fun _ c=>Ebin (vx:=L ga0 p0 gc1) (vy:=.slice none 0 0) c (Zfv _ _ _ _ _ _ _ _ _ _) (nil_eq Tryz.underlying44 ga0 _ gc1 _) fun _ c=>?_))
 refine E0 (If c (b:=(Option.isNone ga0)) (fun hb=>?_) fun hb=>?_)
 obtain ⟨_,hn⟩:=c.use (.f 0)
 replace h:=ZiB (Zkz hn (ZnF.1 hb)) h
 refine P0 [] c fun _ c=>?_
 replace c:=c.nil (α:=D.Gate) 88
 cases h
 exact wp_ret (tr (Rt c (none,0) [0] []))
 refine K0 (T0 (Elt 88 ([]:List D.Gate) c fun a1 c1 _ _ c=>?_))
 refine Fp [] 1 c fun _ c=>Bd h fun x1 hx1 h=>Eap 0 c (.f 0) hx1 fun a2 c2 _ _ c=>?_
 refine Fp [] 1 c fun _ c=>E0 ?_
 obtain rfl:=sj h
 exact wp_ret (Rt c (a2,c2) [0] [])
theorem ZcG {p0 r} (h:X4 n p0 = some r):Con prog 60 [.agg #[I p0.Inputs,L ga0 p0.Gates gc1]] [] [lR ga0 p0.Gates gc1] fun (i:Nat × Ob Nat)=>([B i.1 0],[BX i.1 113 [I r.c.Inputs,L i.2.1 r.c.Gates i.p2,.map (some i.q3),.bool r.full],sl88 (L i.2.1 r.c.Gates i.p2) r.c.Gates,MP map111 i.q3 r.line],[]):=by
 unfold X4 at h
 refine En func60 rfl ntmps60 fun _ fr w c=>?_
 refine T0 (Ebx [I p0.Inputs,L ga0 p0.Gates gc1] c fun b1 _ _ c=>?_)
 refine Fp [] 1 c fun _ c=>E0 (Bd h fun x1 hx1 h=>S0 (Jn (fun i:Nat × Ob Nat=>([(1,B b1 0),(3,B i.1 0)],fun Γ=>Γ ++ [BX i.1 113 [I p0.Inputs,L i.2.1 x1 i.p2,.map (some i.q3),.bool false],sl88 (L i.2.1 x1 i.p2) x1,MP map111 i.q3 ([])],[])) c ?_ fun i6 _ _ c=>?_))
 refine As mix c fun _ c=>?_
 replace c:=Cx.frs [(1,B b1 0)] c
 refine Dq (fun i:Nat × Ob Nat=>([(1,B b1 0),(14,B i.1 0)],fun Γ=>Γ ++ [BX i.1 113 [I p0.Inputs,L i.2.1 x1 i.p2,.map (some i.q3),.bool false],sl88 (L i.2.1 x1 i.p2) x1,MP map111 i.q3 ([])],[])) (bN 10 511) (fun i=>[(9,3,B i.1 0)]) c (fun i5=>?_) fun hd4=>?_
 obtain ⟨b7,a3,c3,b8⟩:=i5
 refine qnE ⟨qP [],tt⟩ fun _ _ c=>?_
 exact nN (b7,a3,c3,b8) (c.rk (rg 4) [0])
 refine Dq (fun i:Ob Nat=>([(1,B b1 0),(10,L i.1 x1 i.2.1),(12,.map (some i.q2))],fun Γ=>Γ ++ [sl88 (L i.1 x1 i.2.1) x1,MP map111 i.q2 ([])],[])) (bN 10 92) (fun i=>[(0,6,B b1 0),(1,7,I p0.Inputs),(5,11,.agg #[I p0.Inputs,L i.1 x1 i.2.1]),(7,13,.agg #[I p0.Inputs,L i.1 x1 i.2.1,.map (some i.q2),.bool false])]) c (fun i3=>?_) fun hd3=>?_
 obtain ⟨a2,c2,b5⟩:=i3
 refine qn [8] ⟨qP [],qP [(0,0)],qP [],qP [],tt⟩ ⟨fun _ _ c=>?_,tt⟩
 refine X8 _ rfl rfl ?_
 refine Ebx [I p0.Inputs,L a2 x1 c2,.map (some b5),.bool false] c fun b6 _ _ c=>?_
 refine E0 (nQ hd4 (b6,a2,c2,b5) (c.rk [0,3,1,2] [0]))
 refine Dq (fun i:Oh=>([(1,B b1 0),(10,L i.1 x1 i.2)],fun Γ=>Γ ++ [sl88 (L i.1 x1 i.2) x1],[])) (bN 10 28) (fun i=>[(0,6,B b1 0),(1,7,I p0.Inputs),(5,11,.agg #[I p0.Inputs,L i.1 x1 i.2])]) c (fun i2=>?_) fun hd1=>?_
 obtain ⟨a1,c1⟩:=i2
 refine qn [6] ⟨qP [],qP [(0,0)],qP [],tt⟩ ⟨fun _ _ c=>?_,tt⟩
 refine X8 _ rfl rfl ?_
 refine Emm map111 c fun b4 _ _ c=>?_
 refine E0 (nQ hd3 (a1,c1,b4) (c.rk [0,1,2] [0]))
 refine Dq (fun i:Nat=>([(1,B b1 0),(12,.map (some i))],fun Γ=>Γ ++ [MP map111 i ([])],[])) (bN 10 64) (fun i=>[(0,6,B b1 0),(1,7,I p0.Inputs),(2,8,B b1 1),(3,9,L ga0 p0.Gates gc1)]) c (fun b3=>?_) fun hd2=>?_
 refine qn [4] ⟨qP [],qP [(0,0)],qP [],qP [(0,0)],tt⟩ ⟨fun _ _ c=>?_,tt⟩
 refine X8 _ rfl rfl ?_
 refine Cb c (YD hx1) ⟨.f 0,tt⟩ call93 fun i4 _ _ c=>?_
 refine E0 (nQ hd3 (i4.1,i4.2,b3) (c.rk [0,2,1] [0]))
 refine q0 (qs:=[(0,6,B b1 0),(1,7,I p0.Inputs),(2,8,B b1 1),(3,9,L ga0 p0.Gates gc1)]) c (qn [4,6] ⟨qP [],qP [(0,0)],qP [],qP [(0,0)],tt⟩ ⟨fun _ _ c=>?_,fun _ _ c=>?_,tt⟩)
 refine X8 _ rfl rfl ?_
 refine Cb c (YD hx1) ⟨.f 0,tt⟩ call93 fun i1 _ _ c=>?_
 refine E0 (nQ hd1 (i1.1,i1.2) (c.rk [0,1] [0]))
 refine X8 _ rfl rfl ?_
 refine Emm map111 c fun b2 _ _ c=>?_
 refine E0 (nQ hd2 (b2) (c.rk [0,1] [0]))
 obtain ⟨b9,a4,c4,b10⟩:=i6
 refine S0 (P0 [(1,0)] c fun _ c=>Bd h fun rl1 hit1 h=>Lp (fun s1  (_:Unit)=>([(1,B b1 0),(3,B b9 0),(16,L ga0 p0.Gates gc1),(17,I (len p0.Gates)),(18,I s1.1)],fun Γ=>Γ.set 3 (MP map111 b10 s1.2),[])) (fun  (_:Unit)=>([(3,B b9 0)],fun Γ=>Γ.set 3 (MP map111 b10 rl1),[])) hit1 c () (c.rk (rg 4) [0]) (fun s1 q1 _ _ _ c h hr1=>?_) fun _ _ _ c=>?_)
 refine P0 [] c fun _ c=>S0 (I0 c h (fun h=>?_) fun h=>?_)
 refine K0 (S0 (wp_block (T0 (Fp [] 1 c fun _ c=>Bd h fun x2 hx2 h=>Eel c (.f 0) hx2 fun _ _ c=>?_))))
 refine Eal [I 0,I 0] c fun b11 _ _ c=>?_
 refine Fp [] 1 c fun _ c=>Ess 4 [I x2.A,I x2.B] c fun _ c=>?_
 refine E0 (ZI mix (rM 10 [] [(3,1),(4,2),(6,0)] c (fun ow=>tt) fun _ _ _ _ _ c=>?_))
 refine Bd h fun x3 hx3 h=>Emp 3 c hx3 fun _ c=>?_
 refine E1 (bk (tn (P1 [] c fun _ c=>Nx h () (c.rk (rg 4) [0]))))
 refine wp_exit (te (te (be ?_)))
 obtain rfl:=hr1 _ (sk h)
 exact tn ⟨(),c.rk (rg 4) [0]⟩
 refine P0 [] c fun _ c=>?_
 cases h
 exact wp_ret (Rt c (b9,a4,c4,b10) [1,2,3] [])
theorem XT {p0 p1 r} (h:Yl n p0 p1 = some r):Con prog 94 [I p0,I p1] [] [] fun (i:Oh)=>([L i.1 r i.2],[sl3 (L i.1 r i.2) r],[]):=by
 unfold Yl at h
 refine En func94 rfl ntmps94 fun _ fr w c=>?_
 refine P0 [] c fun _ c=>T0 (Fp [] 1 c fun _ c=>Bd h fun x1 hx1 h=>Emk 3 c hx1 fun a1 c1 _ _ c=>?_)
 refine Fp [] 1 c fun _ c=>E0 (S0 (P0 [] c fun _ c=>Bd h fun rl1 hit1 h=>Lp (fun s1  (_:Unit)=>([(1,I p1),(5,L a1 x1 c1),(10,I (len x1)),(11,I s1.1)],fun Γ=>Γ.set 0 (sl3 (L a1 x1 c1) s1.2),[])) (fun  (_:Unit)=>([(5,L a1 x1 c1)],fun Γ=>Γ.set 0 (sl3 (L a1 x1 c1) rl1),[])) hit1 c () (c.rk [0] []) (fun s1 q1 _ _ _ c h hr1=>?_) fun _ _ _ c=>?_))
 refine P0 [] c fun _ c=>S0 (I0 c h (fun h=>?_) fun h=>?_)
 refine K0 (S0 (wp_block (P0 [] c fun _ c=>T0 (Fp [] 2 c fun _ c=>Bd h fun x2 hx2 h=>Eset 0 c hx2 fun _ _ _ c=>?_))))
 refine E0 (T0 (Fp [] 3 c fun _ c=>Bd h fun x3 hx3 h=>Eshr c hx3 fun _ c=>?_))
 refine Fp [] 2 c fun _ c=>E0 (I0 c h (fun h=>?_) fun h=>?_)
 refine T1 (Fp [] 2 c fun _ c=>Bd h fun x4 hx4 h=>Eset 0 c hx4 fun _ _ _ c=>?_)
 refine E1 (bk (tn (P1 [] c fun _ c=>Nx h () (c.rk [0] []))))
 refine K1 (bk (tn (P1 [] c fun _ c=>Nx h () (c.rk [0] []))))
 refine wp_exit (te (te (be ?_)))
 obtain rfl:=hr1 _ (sk h)
 exact tn ⟨(),c.rk [0] []⟩
 refine P0 [] c fun _ c=>?_
 obtain rfl:=sj h
 obtain ⟨he1,c⟩:=c.relen 0
 replace c:=c.eqs (v:=L a1 x1 c1) (u:=L a1 rl1 c1) 4 (by simp only [L,he1])
 exact wp_ret (Rt c (a1,c1) [0] [])
theorem Zz {p0 r} (h:Ze p0 = some r):Con prog 62 [L ga0 p0 gc1] [] [lR ga0 p0 gc1] fun (i:Oh)=>([L i.1 r i.2],[sl3 (L i.1 r i.2) r],[]):=by
 unfold Ze at h
 refine En func62 rfl ntmps62 fun _ fr w c=>?_
 refine P0 [] c fun _ c=>S0 (T0 (Fp [] 1 c fun _ c=>Ebin (vx:=L ga0 p0 gc1) (vy:=.slice none 0 0) c (Zfv _ _ _ _ _ _ _ _ _ _) (nil_eq Tryz.underlying47 ga0 _ gc1 _) fun _ c=>?_))
 refine E0 (If c (b:=(Option.isNone ga0)) (fun hb=>?_) fun hb=>?_)
 obtain ⟨_,hn⟩:=c.use (.f 0)
 replace h:=ZiB (Zkz hn (ZnF.1 hb)) h
 refine P0 [] c fun _ c=>?_
 replace c:=c.nil (α:=Int) 3
 cases h
 exact wp_ret (tr (Rt c (none,0) [0] []))
 refine K0 (T0 (Elt 3 ([]:List Int) c fun a1 c1 _ _ c=>?_))
 refine Fp [] 1 c fun _ c=>Bd h fun x1 hx1 h=>Eap 0 c (.f 0) hx1 fun a2 c2 _ _ c=>?_
 refine Fp [] 1 c fun _ c=>E0 ?_
 obtain rfl:=sj h
 exact wp_ret (Rt c (a2,c2) [0] [])
theorem XA {p0 r} (h:Yy n p0 = some r):Con prog 95 [L ga0 p0 gc1] [] [lR ga0 p0 gc1] fun (i:Oh)=>([L i.1 r i.2],[sl3 (L i.1 r i.2) r],[]):=by
 unfold Yy at h
 refine En func95 rfl ntmps95 fun _ fr w c=>?_
 refine P0 [] c fun _ c=>T0 (Fp [] 2 c fun _ c=>Bd h fun x1 hx1 h=>Emk 3 c hx1 fun a1 c1 _ _ c=>?_)
 refine Fp [] 1 c fun _ c=>E0 (S0 (P0 [] c fun _ c=>Bd h fun rl1 hit1 h=>Lp (fun s1  (_:Unit)=>([(3,L a1 x1 c1),(9,L ga0 p0 gc1),(10,I (len p0)),(11,I s1.1)],fun Γ=>Γ.set 0 (sl3 (L a1 x1 c1) s1.2),[])) (fun  (_:Unit)=>([(3,L a1 x1 c1)],fun Γ=>Γ.set 0 (sl3 (L a1 x1 c1) rl1),[])) hit1 c () (c.rk [0] [0]) (fun s1 q1 _ _ _ c h hr1=>?_) fun _ _ _ c=>?_))
 refine P0 [] c fun _ c=>S0 (I0 c h (fun h=>?_) fun h=>?_)
 refine K0 (S0 (wp_block (T0 (Fp [] 1 c fun _ c=>Bd h fun x2 hx2 h=>Eel c (.f 0) hx2 fun _ _ c=>?_))))
 refine Fp [] 2 c fun _ c=>E0 (T1 (Fp [] 4 c fun _ c=>Bd h fun x3 hx3 h=>Eset 0 c hx3 fun _ _ _ c=>?_))
 refine E1 (bk (tn (P1 [] c fun _ c=>Nx h () (c.rk [0] [0]))))
 refine wp_exit (te (te (be ?_)))
 obtain rfl:=hr1 _ (sk h)
 exact tn ⟨(),c.rk [0] [0]⟩
 refine P0 [] c fun _ c=>?_
 obtain rfl:=sj h
 obtain ⟨he1,c⟩:=c.relen 0
 replace c:=c.eqs (v:=L a1 x1 c1) (u:=L a1 rl1 c1) 2 (by simp only [L,he1])
 exact wp_ret (Rt c (a1,c1) [0] [])
theorem Yu {p0 r} (h:Yi p0 = some r):C0 98 [I p0] [] (I r):=by
 unfold Yi at h
 refine En func98 rfl ntmps98 fun _ fr w c=>?_
 exact P0 [] c fun _ c=>S0 (P0 [] c fun _ c=>I0 c h (fun h=>P0 [] c fun _ c=>rE) fun h=>K0 (P0 [] c fun _ c=>rE))
theorem Zad {p0 r} (h:Yg p0 = some r):C0 65 [.agg #[I p0.Inputs,L ga0 p0.Gates gc1]] [lR ga0 p0.Gates gc1] (I r):=by
 unfold Yg at h
 refine En func65 rfl ntmps65 fun _ fr w c=>?_
 refine T0 (Ebx [I p0.Inputs,L ga0 p0.Gates gc1] c fun b1 _ _ c=>?_)
 exact Fp [] 1 c fun _ c=>E0 (P0 [(1,0),(4,0)] c fun _ c=>rE)
theorem ZA {p0 p1 p2 gb0 gb3 gn4 r} (h:Zm p0 p1 p2 = some r):Con prog 129 [B gb0 0,I p1,I p2] [BX gb0 113 [I p0.c.Inputs,.slice ga1 gn4 gc2,.map (some gb3),.bool p0.full],sl88 (.slice ga1 gn4 gc2) p0.c.Gates,MP map111 gb3 p0.line] [] fun (i:Oh)=>([I r.1],[BX gb0 113 [I r.2.c.Inputs,L i.1 r.2.c.Gates i.2,.map (some gb3),.bool r.2.full],sl88 (L i.1 r.2.c.Gates i.2) r.2.c.Gates,MP map111 gb3 r.2.line],[]):=by
 unfold Zm at h
 refine En func129 rfl ntmps129 fun _ fr w c=>?_
 obtain ⟨rfl,c⟩:=c.relen 1
 refine P0 [] c fun _ c=>S0 (wp_block (S0 (Ry [] mix c fun _ _ c=>I0 c h (fun h=>?_) fun h=>?_)))
 refine P0 [] c fun _ c=>?_
 cases h
 exact wp_ret (br (tr (Rt c (ga1,gc2) [0,1,2] [])))
 refine P0 [] c fun _ c=>I0 c h (fun h=>?_) fun h=>?_
 refine P0 [] c fun _ c=>?_
 cases h
 exact wp_ret (br (tr (Rt c (ga1,gc2) [0,1,2] [])))
 refine S0 (Ry [] mix c fun _ _ c=>I0 c h (fun h=>?_) fun h=>?_)
 refine P0 [] c fun _ c=>?_
 cases h
 exact wp_ret (br (tr (Rt c (ga1,gc2) [0,1,2] [])))
 refine K1 (bk (tn (T0 (Fp [] 3 c fun _ c=>Eal [I 0,I 0] c fun b1 _ _ c=>?_))))
 refine Ess 3 [I p1,I p2] c fun _ c=>?_
 refine E0 (S0 (T0 (Fp [] 1 c fun _ c=>Bd h fun x1 hx1 h=>Cb c (Yu hx1) tt call98 fun _ _ _ c=>?_)))
 refine Fp [] 1 c fun _ c=>Bd h fun x2 hx2 h=>Cb c (Yu hx2) tt call98 fun _ _ _ c=>?_
 refine Fp [] 1 c fun _ c=>E0 (I0 c h (fun h=>?_) fun h=>?_)
 refine T1 (Fp [] 3 c fun _ c=>Ess 3 [I p2,I p1] c fun _ c=>?_)
 refine E0 (S0 (Bd h fun x3 hx3 h=>S0 (rZ [(5,.eq (.tuple #[I x3.1,.bool x3.2]))] [(3,0),(4,1)] mix c ⟨Nmg2 2 c (kN hx3),tt⟩ fun _ _ c=>P0 [] c fun _ c=>I0 c h (fun h=>?_) fun h=>?_)))
 refine P0 [] c fun _ c=>?_
 cases h
 exact wp_ret (tr (Rt c (ga1,gc2) [0,1,2] []))
 refine K0 (S0 (P0 [(4,0)] c fun _ c=>I0 c h (fun h=>?_) fun h=>?_))
 refine T0 (Fp [] 3 c fun _ c=>?_)
 replace c:=c.nf
 refine Esb 0 3 (.bool true) c fun _ c=>?_
 refine E0 (P0 [] c fun _ c=>?_)
 cases h
 exact wp_ret (tr (Rt c (ga1,gc2) [0,1,2] []))
 refine K0 (S0 (ZI mix (Rh 1 ?_)))
 refine Rh 0 ?_
 refine rM 8 [(7,Pd.nw c.wd 7 (fun i:Oh=>L i.1 ([(D.Gate.mk p2 p1)]:List D.Gate) i.2) (fun i=>SL 88 (L i.1 ([(D.Gate.mk p2 p1)]:List D.Gate) i.2) ([(D.Gate.mk p2 p1)]:List D.Gate)))] [(5,0),(6,1)] c (fun ow=>⟨Nlt c ([(D.Gate.mk p2 p1)]:List D.Gate),tt⟩) fun ow _ _ hE hc cq=>?_
 obtain ⟨i1,hi1⟩:=hE.nw 7 76
 replace c:=Cx.newt c hc cq [(7,76,_,_)] ⟨hi1,tt⟩
 replace c:=c.nf
 refine Bd h fun x4 hx4 h=>Eap 1 c (.g 4) hx4 fun a1 c1 _ _ c=>?_
 refine Fp [] 3 c fun _ c=>Esb 0 1 (L a1 x4 c1) c fun _ c=>?_
 refine E0 (T0 (Fp [(3,0)] 4 c fun _ c=>Bd h fun x5 hx5 h=>Cb c (Zad hx5) ⟨.g 1,tt⟩ call65 fun _ _ _ c=>?_))
 refine Fp [] 1 c fun _ c=>E0 (S0 (ZI mix (rM 6 [] [(3,0),(4,1)] c (fun ow=>tt) fun _ _ _ _ _ c=>Bd h fun x6 hx6 h=>Emp 2 c hx6 fun _ c=>?_)))
 refine E0 (P0 [] c fun _ c=>?_)
 cases h
 exact wp_ret (Rt c (a1,c1) [0,1,2] [])
 refine K0 (S0 (Bd h fun x7 hx7 h=>S0 (rZ [(5,.eq (.tuple #[I x7.1,.bool x7.2]))] [(3,0),(4,1)] mix c ⟨Nmg2 2 c (kN hx7),tt⟩ fun _ _ c=>P0 [] c fun _ c=>I0 c h (fun h=>?_) fun h=>?_)))
 refine P0 [] c fun _ c=>?_
 cases h
 exact wp_ret (tr (Rt c (ga1,gc2) [0,1,2] []))
 refine K0 (S0 (P0 [(4,0)] c fun _ c=>I0 c h (fun h=>?_) fun h=>?_))
 refine T0 (Fp [] 3 c fun _ c=>Esb 0 3 (.bool true) c fun _ c=>?_)
 refine E0 (P0 [] c fun _ c=>?_)
 cases h
 exact wp_ret (tr (Rt c (ga1,gc2) [0,1,2] []))
 refine K0 (S0 (ZI mix (Rh 1 ?_)))
 refine Rh 0 ?_
 refine rM 8 [(7,Pd.nw c.wd 7 (fun i:Oh=>L i.1 ([(D.Gate.mk p1 p2)]:List D.Gate) i.2) (fun i=>SL 88 (L i.1 ([(D.Gate.mk p1 p2)]:List D.Gate) i.2) ([(D.Gate.mk p1 p2)]:List D.Gate)))] [(5,0),(6,1)] c (fun ow=>⟨Nlt c ([(D.Gate.mk p1 p2)]:List D.Gate),tt⟩) fun ow _ _ hE hc cq=>?_
 obtain ⟨i2,hi2⟩:=hE.nw 7 76
 replace c:=Cx.newt c hc cq [(7,76,_,_)] ⟨hi2,tt⟩
 refine Bd h fun x8 hx8 h=>Eap 1 c (.g 4) hx8 fun a2 c2 _ _ c=>?_
 refine Fp [] 3 c fun _ c=>?_
 replace c:=c.nf
 refine Esb 0 1 (L a2 x8 c2) c fun _ c=>?_
 refine E0 (T0 (Fp [(3,0)] 4 c fun _ c=>Bd h fun x9 hx9 h=>Cb c (Zad hx9) ⟨.g 1,tt⟩ call65 fun _ _ _ c=>?_))
 refine Fp [] 1 c fun _ c=>E0 (S0 (ZI mix (rM 6 [] [(3,0),(4,1)] c (fun ow=>tt) fun _ _ _ _ _ c=>Bd h fun x10 hx10 h=>Emp 2 c hx10 fun _ c=>?_)))
 refine E0 (P0 [] c fun _ c=>?_)
 cases h
 exact wp_ret (Rt c (a2,c2) [0,1,2] [])
theorem Yp {p0 p1 p2 gb0 gb3 gn4 r} (h:Z0 p0 p1 p2 = some r):Con prog 130 [B gb0 0,I p1,I p2] [BX gb0 113 [I p0.c.Inputs,.slice ga1 gn4 gc2,.map (some gb3),.bool p0.full],sl88 (.slice ga1 gn4 gc2) p0.c.Gates,MP map111 gb3 p0.line] [] fun (i:Oh)=>([I r.1],[BX gb0 113 [I r.2.c.Inputs,L i.1 r.2.c.Gates i.2,.map (some gb3),.bool r.2.full],sl88 (L i.1 r.2.c.Gates i.2) r.2.c.Gates,MP map111 gb3 r.2.line],[]):=by
 unfold Z0 at h
 refine En func130 rfl ntmps130 fun _ fr w c=>?_
 obtain ⟨rfl,c⟩:=c.relen 1
 refine P0 [] c fun _ c=>T0 (Fp [] 5 c fun _ c=>Bd h fun x1 hx1 h=>Ca [0,1,2] c (ZA hx1) tt call129 fun i1 _ _ c=>?_)
 refine Fp [] 2 c fun _ c=>E0 ?_
 cases h
 exact wp_ret (Rt c (i1.1,i1.2) [0,1,2] [])
theorem YL {p0 p1 p2 gb0 gb3 gn4 r} (h:Z5 p0 p1 p2 = some r):Con prog 131 [B gb0 0,I p1,I p2] [BX gb0 113 [I p0.c.Inputs,.slice ga1 gn4 gc2,.map (some gb3),.bool p0.full],sl88 (.slice ga1 gn4 gc2) p0.c.Gates,MP map111 gb3 p0.line] [] fun (i:Oh)=>([I r.1],[BX gb0 113 [I r.2.c.Inputs,L i.1 r.2.c.Gates i.2,.map (some gb3),.bool r.2.full],sl88 (L i.1 r.2.c.Gates i.2) r.2.c.Gates,MP map111 gb3 r.2.line],[]):=by
 unfold Z5 at h
 refine En func131 rfl ntmps131 fun _ fr w c=>?_
 obtain ⟨rfl,c⟩:=c.relen 1
 refine P0 [] c fun _ c=>T0 (Fp [] 4 c fun _ c=>Bd h fun x1 hx1 h=>Ca [0,1,2] c (ZA hx1) tt call129 fun i1 _ _ c=>?_)
 refine Fp [] 1 c fun _ c=>E0 (T0 (Fp [] 4 c fun _ c=>Bd h fun x2 hx2 h=>Ca [0,1,2] c (ZA hx2) tt call129 fun i2 _ _ c=>?_))
 refine Fp [] 1 c fun _ c=>E0 (T0 (Fp [] 3 c fun _ c=>Bd h fun x3 hx3 h=>Ca [0,1,2] c (Yp hx3) tt call130 fun i3 _ _ c=>?_))
 refine Fp [] 1 c fun _ c=>E0 ?_
 cases h
 exact wp_ret (Rt c (i3.1,i3.2) [0,1,2] [])
theorem YK {p0 p1 p2 p3 gb0 gb3 gn4 r} (h:ZR n p0 p1 p2 p3 = some r):Con prog 122 [B gb0 0,L ga5 p1 gc6,L ga7 p2 gc8,I p3] [BX gb0 113 [I p0.c.Inputs,.slice ga1 gn4 gc2,.map (some gb3),.bool p0.full],sl88 (.slice ga1 gn4 gc2) p0.c.Gates,MP map111 gb3 p0.line] [lR ga5 p1 gc6,lR ga7 p2 gc8] fun (i:Ob Oh)=>([L i.1 r.1 i.2.1,I r.2.1],[sl3 (L i.1 r.1 i.2.1) r.1,BX gb0 113 [I r.2.2.c.Inputs,L i.p2 r.2.2.c.Gates i.q3,.map (some gb3),.bool r.2.2.full],sl88 (L i.p2 r.2.2.c.Gates i.q3) r.2.2.c.Gates,MP map111 gb3 r.2.2.line],[]):=by
 unfold ZR at h
 refine En func122 rfl ntmps122 fun _ fr w c=>?_
 obtain ⟨rfl,c⟩:=c.relen 1
 refine P0 [] c fun _ c=>T0 (Fp [] 2 c fun _ c=>Bd h fun x1 hx1 h=>Emk 3 c hx1 fun a1 c1 _ _ c=>?_)
 refine Fp [] 1 c fun _ c=>E0 (S0 (P0 [] c fun _ c=>Bd h fun rl1 hit1 h=>Lp (fun s1  (i:Oh)=>([(0,B gb0 0),(1,L ga5 p1 gc6),(2,L ga7 p2 gc8),(3,I s1.1),(10,L a1 x1 c1),(19,I (len p1)),(20,I s1.2.1)],fun Γ=>(((Γ.set 0 (BX gb0 113 [I s1.p3,L i.1 s1.p5 i.2,.map (some gb3),.bool s1.p4])).set 1 (sl88 (L i.1 s1.p5 i.2) s1.p5)).set 2 (MP map111 gb3 s1.q6)).set 3 (sl3 (L a1 x1 c1) s1.p2),[])) (fun  (i:Oh)=>([(3,I rl1.1),(10,L a1 x1 c1)],fun Γ=>(((Γ.set 0 (BX gb0 113 [I rl1.p2,L i.1 rl1.p4 i.2,.map (some gb3),.bool rl1.p3])).set 1 (sl88 (L i.1 rl1.p4 i.2) rl1.p4)).set 2 (MP map111 gb3 rl1.q5)).set 3 (sl3 (L a1 x1 c1) rl1.2.1),[])) hit1 c (ga1,gc2) (c.rk (rg 4) [0,1]) (fun s1 q1 i1 _ _ c h hr1=>?_) fun k1 _ _ c=>?_))
 refine P0 [] c fun _ c=>S0 (I0 c h (fun h=>?_) fun h=>?_)
 refine K0 (S0 (wp_block (P0 [] c fun _ c=>Bd h fun x2 hx2 h=>Bd h fun x3 hx3 h=>S0 (ZI mix (rM 9 [(3,Pd.el (x2:Int)),(4,.eq (I x2)),(7,Pd.el (x3:Int)),(8,.eq (I x3))] [] c (fun ow=>⟨Zd ow (Nid c (.f 0) (kN hx2)),Zd ow (Nld c 3 (q:=x2) (atM 3 (p:=.el (x2:Int)))),Zd ow (Nid c (.f 1) (kN hx3)),Zd ow (Nld c 7 (q:=x3) (atM 7 (p:=.el (x3:Int)))),tt⟩) fun _ _ _ _ _ c=>Bd h fun x4 hx4 h=>Ca [0,1,2] c (YL hx4) tt call131 fun i2 _ _ c=>?_)))))
 refine Fp [] 1 c fun _ c=>E0 (T0 (Fp [] 5 c fun _ c=>Bd h fun x5 hx5 h=>Ca [1,2,3] c (YL hx5) tt call131 fun i3 _ _ c=>?_))
 refine Bd h fun x6 hx6 h=>Eset 0 c hx6 fun _ _ _ c=>?_
 refine E0 (Bd h fun x7 hx7 h=>Bd h fun x8 hx8 h=>S0 (ZI mix (rM 9 [(3,Pd.el (x7:Int)),(4,.eq (I x7)),(7,Pd.el (x8:Int)),(8,.eq (I x8))] [] c (fun ow=>⟨Zd ow (Nid c (.f 0) (kN hx7)),Zd ow (Nld c 3 (q:=x7) (atM 3 (p:=.el (x7:Int)))),Zd ow (Nid c (.f 1) (kN hx8)),Zd ow (Nld c 7 (q:=x8) (atM 7 (p:=.el (x8:Int)))),tt⟩) fun _ _ _ _ _ c=>Bd h fun x9 hx9 h=>Ca [1,2,3] c (ZA hx9) tt call129 fun i4 _ _ c=>?_)))
 refine Fp [] 1 c fun _ c=>E0 (T0 (Fp [] 3 c fun _ c=>?_))
 replace c:=c.nf
 refine Bd h fun x10 hx10 h=>Ca [1,2,3] c (ZA hx10) tt call129 fun i5 _ _ c=>?_
 refine Fp [] 1 c fun _ c=>E0 (T1 (Fp [] 3 c fun _ c=>Bd h fun x11 hx11 h=>Ca [1,2,3] c (Yp hx11) tt call130 fun i6 _ _ c=>?_))
 refine Fp [] 1 c fun _ c=>E1 (bk (tn (P1 [] c fun _ c=>Nx h (i6.1,i6.2) (c.rk [1,2,3,0] [0,1]))))
 refine wp_exit (te (te (be ?_)))
 obtain rfl:=hr1 _ (sk h)
 exact tn ⟨(i1.1,i1.2),c.rk (rg 4) [0,1]⟩
 refine P0 [] c fun _ c=>?_
 cases h
 obtain ⟨he1,c⟩:=c.relen 3
 replace c:=c.eqs (v:=L a1 x1 c1) (u:=L a1 rl1.2.1 c1) 8 (by simp only [L,he1])
 exact wp_ret (Rg c (a1,c1,k1.1,k1.2) [3,0,1,2] [] (.tmp (.tmp .nil)))
theorem Zbz {p0 p1 p2 gb0 gb3 gn4 r} (h:Y4 n p0 p1 p2 = some r):Con prog 123 [B gb0 0,L ga5 p1 gc6,L ga7 p2 gc8] [BX gb0 113 [I p0.c.Inputs,.slice ga1 gn4 gc2,.map (some gb3),.bool p0.full],sl88 (.slice ga1 gn4 gc2) p0.c.Gates,MP map111 gb3 p0.line] [lR ga5 p1 gc6,lR ga7 p2 gc8] fun (i:Ob Oh)=>([L i.1 r.1 i.2.1],[sl3 (L i.1 r.1 i.2.1) r.1,BX gb0 113 [I r.2.c.Inputs,L i.p2 r.2.c.Gates i.q3,.map (some gb3),.bool r.2.full],sl88 (L i.p2 r.2.c.Gates i.q3) r.2.c.Gates,MP map111 gb3 r.2.line],[]):=by
 unfold Y4 at h
 refine En func123 rfl ntmps123 fun _ fr w c=>?_
 obtain ⟨rfl,c⟩:=c.relen 1
 refine P0 [] c fun _ c=>P0 [] c fun _ c=>T0 (Fp [] 1 c fun _ c=>Bd h fun x1 hx1 h=>Cb c (XT hx1) tt call94 fun i1 _ _ c=>?_)
 refine Fp [] 1 c fun _ c=>E0 (S0 (P0 [] c fun _ c=>Bd h fun rl1 hit1 h=>Lp (fun s1  (i:Ob Oh)=>([(0,B gb0 0),(1,L ga5 p1 gc6),(2,L ga7 p2 gc8),(7,I (len p1)),(8,L i.p2 s1.2.1 i.q3),(19,I (len p2)),(20,I s1.1)],fun Γ=>(((Γ.set 0 (BX gb0 113 [I s1.p2,L i.1 s1.p4 i.2.1,.map (some gb3),.bool s1.p3])).set 1 (sl88 (L i.1 s1.p4 i.2.1) s1.p4)).set 2 (MP map111 gb3 s1.q5)).set 3 (sl3 (L i.p2 s1.2.1 i.q3) s1.2.1),[])) (fun  (i:Ob Oh)=>([(8,L i.p2 rl1.1 i.q3)],fun Γ=>(((Γ.set 0 (BX gb0 113 [I rl1.2.1,L i.1 rl1.p3 i.2.1,.map (some gb3),.bool rl1.p2])).set 1 (sl88 (L i.1 rl1.p3 i.2.1) rl1.p3)).set 2 (MP map111 gb3 rl1.q4)).set 3 (sl3 (L i.p2 rl1.1 i.q3) rl1.1),[])) hit1 c (ga1,gc2,i1.1,i1.2) (c.rk (rg 4) [0,1]) (fun s1 q1 i2 _ _ c h hr1=>?_) fun k1 _ _ c=>?_))
 refine P0 [] c fun _ c=>S0 (I0 c h (fun h=>?_) fun h=>?_)
 refine K0 (S0 (wp_block (P0 [] c fun _ c=>T0 (Fp [] 3 c fun _ c=>Bd h fun x2 hx2 h=>Emk 3 c hx2 fun a1 c1 _ _ c=>?_))))
 refine Fp [] 1 c fun _ c=>E0 (S0 (P0 [] c fun _ c=>Bd h fun rl2 hit2 h=>Lp (fun s2  (i:Oh)=>([(0,B gb0 0),(1,L ga5 p1 gc6),(2,L ga7 p2 gc8),(7,I (len p1)),(8,L i2.p2 s1.2.1 i2.q3),(9,I s1.1),(10,L a1 x2 c1),(19,I (len p2)),(20,I s1.1),(28,I (len x2)),(29,I s2.1)],fun Γ=>(((Γ.set 0 (BX gb0 113 [I s2.p2,L i.1 s2.p4 i.2,.map (some gb3),.bool s2.p3])).set 1 (sl88 (L i.1 s2.p4 i.2) s2.p4)).set 2 (MP map111 gb3 s2.q5)).set 4 (sl3 (L a1 x2 c1) s2.2.1),[])) (fun  (i:Oh)=>([(0,B gb0 0),(1,L ga5 p1 gc6),(2,L ga7 p2 gc8),(7,I (len p1)),(8,L i2.p2 s1.2.1 i2.q3),(9,I s1.1),(10,L a1 x2 c1),(19,I (len p2)),(20,I s1.1)],fun Γ=>(((Γ.set 0 (BX gb0 113 [I rl2.2.1,L i.1 rl2.p3 i.2,.map (some gb3),.bool rl2.p2])).set 1 (sl88 (L i.1 rl2.p3 i.2) rl2.p3)).set 2 (MP map111 gb3 rl2.q4)).set 4 (sl3 (L a1 x2 c1) rl2.1),[])) hit2 c (i2.1,i2.2.1) (c.rk (rg 5) [0,1]) (fun s2 q2 i3 _ _ c h hr2=>?_) fun k2 _ _ c=>?_))
 refine P0 [] c fun _ c=>S0 (I0 c h (fun h=>?_) fun h=>?_)
 refine K0 (S0 (wp_block (P0 [] c fun _ c=>ZI mix ?_)))
 refine Rh 1 ?_
 refine Rh 0 ?_
 refine Bd h fun x3 hx3 h=>Bd h fun x4 hx4 h=>rM 11 [(5,Pd.el (x3:Int)),(6,.eq (I x3)),(9,Pd.el (x4:Int)),(10,.eq (I x4))] [] c (fun ow=>⟨Zd ow (Nid c (.f 1) (kN hx3)),Zd ow (Nld c 5 (q:=x3) (atM 5 (p:=.el (x3:Int)))),Zd ow (Nid c (.f 0) (kN hx4)),Zd ow (Nld c 9 (q:=x4) (atM 9 (p:=.el (x4:Int)))),tt⟩) fun _ _ _ _ _ c=>?_
 refine Bd h fun x5 hx5 h=>Ca [0,1,2] c (ZA hx5) tt call129 fun i4 _ _ c=>?_
 refine Bd h fun x6 hx6 h=>Eset 1 c hx6 fun _ _ _ c=>?_
 refine E1 (bk (tn (P1 [] c fun _ c=>Nx h (i4.1,i4.2) (c.rk [2,3,4,0,1] [0,1]))))
 refine wp_exit (te (te (be ?_)))
 obtain rfl:=hr2 _ (sk h)
 exact tn ⟨(i3.1,i3.2),c.rk (rg 5) [0,1]⟩
 refine T0 (Fp [] 3 c fun _ c=>Bd h fun x7 hx7 h=>Evw 3 c hx7 fun a2 c2 _ hv1 c=>?_)
 refine Fp [] 1 c fun _ c=>?_
 obtain ⟨he1,c⟩:=c.relen 4
 replace c:=c.eqs (v:=L a1 x2 c1) (u:=L a1 rl2.1 c1) 51 (by simp only [L,he1])
 refine Bd h fun x8 hx8 h=>Ca [0,1,2] c (YK hx8) ⟨.vw 0 hv1 hx7,.g 1,tt⟩ call122 fun i5 _ _ c=>?_
 refine Fp [] 5 c fun _ c=>E0 (T1 (Fp [] 2 c fun _ c=>?_))
 replace c:=c.nf
 refine Bd h fun x9 hx9 h=>Evw 0 c hx9 fun a3 c3 _ hv2 c=>?_
 refine Fp [] 1 c fun _ c=>Ecpv (m:=x8.1) 0 c hv2 hx9 (.g 2) fun _ _ _ c=>?_
 refine E1 (bk (tn (P1 [] c fun _ c=>?_)))
 obtain ⟨he2,c⟩:=c.relen 0
 replace c:=c.eqs (v:=L i2.p2 s1.2.1 i2.q3) (u:=L i2.p2 (vcopy s1.2.1 s1.1 (List.length x9) x8.1) i2.q3) 8 (by simp only [L,he2])
 exact Nx h (i5.p2,i5.q3,i2.p2,i2.q3) (c.rk [3,4,5,0] [0,1])
 refine wp_exit (te (te (be ?_)))
 obtain rfl:=hr1 _ (sk h)
 exact tn ⟨(i2.1,i2.2.1,i2.p2,i2.q3),c.rk (rg 4) [0,1]⟩
 refine P0 [] c fun _ c=>?_
 cases h
 exact wp_ret (Rt c (k1.p2,k1.q3,k1.1,k1.2.1) [3,0,1,2] [])
theorem Zv {p0 p1 p2 p3 gb0 gb3 gn4 r} (h:Zc p0 p1 p2 p3 = some r):Con prog 97 [B gb0 0,I p1,I p2,I p3] [BX gb0 113 [I p0.c.Inputs,.slice ga1 gn4 gc2,.map (some gb3),.bool p0.full],sl88 (.slice ga1 gn4 gc2) p0.c.Gates,MP map111 gb3 p0.line] [] fun (i:Oh)=>([I r.1],[BX gb0 113 [I r.2.c.Inputs,L i.1 r.2.c.Gates i.2,.map (some gb3),.bool r.2.full],sl88 (L i.1 r.2.c.Gates i.2) r.2.c.Gates,MP map111 gb3 r.2.line],[]):=by
 unfold Zc at h
 refine En func97 rfl ntmps97 fun _ fr w c=>?_
 obtain ⟨rfl,c⟩:=c.relen 1
 refine P0 [] c fun _ c=>T0 (Fp [] 3 c fun _ c=>Bd h fun x1 hx1 h=>Ca [0,1,2] c (ZA hx1) tt call129 fun i1 _ _ c=>?_)
 refine Fp [] 1 c fun _ c=>E0 (T0 (Fp [] 4 c fun _ c=>Bd h fun x2 hx2 h=>Ca [0,1,2] c (ZA hx2) tt call129 fun i2 _ _ c=>?_))
 refine Fp [] 1 c fun _ c=>E0 (T0 (Fp [] 3 c fun _ c=>Bd h fun x3 hx3 h=>Ca [0,1,2] c (Yp hx3) tt call130 fun i3 _ _ c=>?_))
 refine Fp [] 1 c fun _ c=>E0 ?_
 cases h
 exact wp_ret (Rt c (i3.1,i3.2) [0,1,2] [])
theorem Zar {p0 p1 p2 gb0 gb3 gn4 r} (h:Y0 n p0 p1 p2 = some r):Con prog 124 [B gb0 0,L ga5 p1 gc6,L ga7 p2 gc8] [BX gb0 113 [I p0.c.Inputs,.slice ga1 gn4 gc2,.map (some gb3),.bool p0.full],sl88 (.slice ga1 gn4 gc2) p0.c.Gates,MP map111 gb3 p0.line] [lR ga5 p1 gc6,lR ga7 p2 gc8] fun (i:Ob (Ob Oh))=>([L i.1 r.1 i.2.1,L i.p2 r.2.1 i.p3],[sl3 (L i.1 r.1 i.2.1) r.1,sl3 (L i.p2 r.2.1 i.p3) r.2.1,BX gb0 113 [I r.2.2.c.Inputs,L i.p4 r.2.2.c.Gates i.q5,.map (some gb3),.bool r.2.2.full],sl88 (L i.p4 r.2.2.c.Gates i.q5) r.2.2.c.Gates,MP map111 gb3 r.2.2.line],[]):=by
 unfold Y0 at h
 refine En func124 rfl ntmps124 fun _ fr w c=>?_
 obtain ⟨rfl,c⟩:=c.relen 1
 refine P0 [] c fun _ c=>P0 [] c fun _ c=>T0 (Fp [] 1 c fun _ c=>Bd h fun x1 hx1 h=>Emk 3 c hx1 fun a1 c1 _ _ c=>?_)
 refine Fp [] 1 c fun _ c=>E0 (T0 (Fp [] 1 c fun _ c=>Bd h fun x2 hx2 h=>Cb c (XT hx2) tt call94 fun i1 _ _ c=>?_))
 refine Fp [] 1 c fun _ c=>E0 (T0 (Fp [] 1 c fun _ c=>Bd h fun x3 hx3 h=>Cb c (XA hx3) ⟨.f 1,tt⟩ call95 fun i2 _ _ c=>?_))
 replace c:=c.nf
 refine Elt 3 ([1]:List Int) c fun a2 c2 _ _ c=>?_
 refine Bd h fun x4 hx4 h=>Eap 5 c (.g 6) hx4 fun a3 c3 _ _ c=>?_
 refine Fp [] 1 c fun _ c=>E0 (S0 (P0 [] c fun _ c=>Bd h fun rl1 hit1 h=>Lp (fun s1  (i:Oh)=>([(0,B gb0 0),(1,L ga5 p1 gc6),(9,L a1 x1 c1),(10,L i1.1 x2 i1.2),(11,L a3 x4 c3),(12,I s1.1)],fun Γ=>((((Γ.set 0 (BX gb0 113 [I s1.p3,L i.1 s1.p5 i.2,.map (some gb3),.bool s1.p4])).set 1 (sl88 (L i.1 s1.p5 i.2) s1.p5)).set 2 (MP map111 gb3 s1.q6)).set 3 (sl3 (L a1 x1 c1) s1.2.1)).set 4 (sl3 (L i1.1 x2 i1.2) s1.p2),[])) (fun  (i:Oh)=>([(9,L a1 x1 c1),(10,L i1.1 x2 i1.2)],fun Γ=>((((Γ.set 0 (BX gb0 113 [I rl1.p2,L i.1 rl1.p4 i.2,.map (some gb3),.bool rl1.p3])).set 1 (sl88 (L i.1 rl1.p4 i.2) rl1.p4)).set 2 (MP map111 gb3 rl1.q5)).set 3 (sl3 (L a1 x1 c1) rl1.1)).set 4 (sl3 (L i1.1 x2 i1.2) rl1.2.1),[])) hit1 c (ga1,gc2) (c.rk (rg 7) [0,1]) (fun s1 q1 i3 _ _ c h hr1=>?_) fun k1 _ _ c=>?_))
 refine S0 (P0 [] c fun _ c=>I0 c h (fun h=>?_) fun h=>?_)
 refine K0 (S0 (wp_block (T0 (Fp [] 2 c fun _ c=>Bd h fun x5 hx5 h=>Eel c (.f 0) hx5 fun _ _ c=>?_))))
 refine Elt 3 ([x5]:List Int) c fun a4 c4 _ _ c=>?_
 refine Fp [] 1 c fun _ c=>?_
 replace c:=c.nf
 refine Bd h fun x6 hx6 h=>Eap 7 c (.g 4) hx6 fun a5 c5 _ _ c=>?_
 refine Fp [] 1 c fun _ c=>E0 (T0 (Fp [] 3 c fun _ c=>Bd h fun x7 hx7 h=>Ca [0,1,2] c (YK hx7) ⟨.g 4,.g 2,tt⟩ call122 fun i4 _ _ c=>?_))
 refine Fp [] 5 c fun _ c=>E0 (T0 (Fp [] 3 c fun _ c=>?_))
 replace c:=c.nf
 refine Bd h fun x8 hx8 h=>Eset 0 c hx8 fun _ _ _ c=>?_
 refine E0 (P0 [] c fun _ c=>Bd h fun rl2 hit2 h=>Tq (Lp (fun s2  (i:Oh)=>([(0,B gb0 0),(1,L ga5 p1 gc6),(9,L a1 x1 c1),(10,L i1.1 x2 i1.2),(11,L a3 x4 c3),(12,I s1.1),(13,L a5 x6 c5),(14,L i4.1 x7.1 i4.2.1),(15,I x7.2.1),(52,I (len x2)),(53,I s2.1)],fun Γ=>(((Γ.set 1 (sl3 (L i1.1 x2 i1.2) s2.2.1)).set 6 (BX gb0 113 [I s2.p2,L i.1 s2.p4 i.2,.map (some gb3),.bool s2.p3])).set 7 (sl88 (L i.1 s2.p4 i.2) s2.p4)).set 8 (MP map111 gb3 s2.q5),[])) (fun  (i:Oh)=>([(0,B gb0 0),(1,L ga5 p1 gc6),(9,L a1 x1 c1),(10,L i1.1 x2 i1.2),(11,L a3 x4 c3),(12,I s1.1)],fun Γ=>(((Γ.set 1 (sl3 (L i1.1 x2 i1.2) rl2.1)).set 6 (BX gb0 113 [I rl2.2.1,L i.1 rl2.p3 i.2,.map (some gb3),.bool rl2.p2])).set 7 (sl88 (L i.1 rl2.p3 i.2) rl2.p3)).set 8 (MP map111 gb3 rl2.q4),[])) hit2 c (i4.p2,i4.q3) (c.rk (rg 9) [0,1]) (fun s2 q2 i5 _ _ c h hr2=>?_) fun k2 _ _ c=>?_))
 refine P0 [] c fun _ c=>S0 (I0 c h (fun h=>?_) fun h=>?_)
 refine K0 (S0 (wp_block (P0 [] c fun _ c=>ZI mix ?_)))
 refine Rh 1 ?_
 refine Rh 0 ?_
 refine Bd h fun x9 hx9 h=>Bd h fun x10 hx10 h=>rM 12 [(6,Pd.el (x9:Int)),(7,.eq (I x9)),(10,Pd.el (x10:Int)),(11,.eq (I x10))] [] c (fun ow=>⟨Zd ow (Nid c (.g 5) (kN hx9)),Zd ow (Nld c 6 (q:=x9) (atM 6 (p:=.el (x9:Int)))),Zd ow (Nid c (.g 4) (kN hx10)),Zd ow (Nld c 10 (q:=x10) (atM 10 (p:=.el (x10:Int)))),tt⟩) fun _ _ _ _ _ c=>?_
 refine Bd h fun x11 hx11 h=>Ca [6,7,8] c (Zv hx11) tt call97 fun i6 _ _ c=>?_
 replace c:=c.nf
 refine Bd h fun x12 hx12 h=>Eset 1 c hx12 fun _ _ _ c=>?_
 refine E1 (bk (tn (P1 [] c fun _ c=>Nx h (i6.1,i6.2) (c.rk (rg 9) [0,1]))))
 refine wp_exit (te (te (be ?_)))
 obtain rfl:=hr2 _ (sk h)
 exact tn ⟨(i5.1,i5.2),c.rk (rg 9) [0,1]⟩
 refine bk (tn (P1 [] c fun _ c=>Nx h (k2.1,k2.2) (c.rk [6,7,8,0,1,2,3] [0,1])))
 refine wp_exit (te (te (be ?_)))
 obtain rfl:=hr1 _ (sk h)
 exact tn ⟨(i3.1,i3.2),c.rk (rg 7) [0,1]⟩
 refine P0 [] c fun _ c=>?_
 cases h
 obtain ⟨he1,c⟩:=c.relen 3
 replace c:=c.eqs (v:=L a1 x1 c1) (u:=L a1 rl1.1 c1) 6 (by simp only [L,he1])
 obtain ⟨he2,c⟩:=c.relen 4
 replace c:=c.eqs (v:=L i1.1 x2 i1.2) (u:=L i1.1 rl1.2.1 i1.2) 7 (by simp only [L,he2])
 exact wp_ret (Rg c (a1,c1,i1.1,i1.2,k1.1,k1.2) [3,4,0,1,2] [] (.tmp (.tmp .nil)))
end Go.Proofs.YtgpcokpcbjloiaaGreat
