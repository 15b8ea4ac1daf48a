/- The walks, printed by a program. -/
import Derived.Test.YtfkjefbonbinnaaLib3
import Derived.Test.YtfkjefbonbinnaaLib2
import Derived.Test.YtfkjefbonbinnaaDefs
import Derived.Test.YtfkjefbonbinnaaProg
import Derived.KernelRfl
import Derived.DeepKeys4
set_option linter.unusedVariables false
set_option linter.unusedSimpArgs false
set_option maxRecDepth 100000
set_option maxHeartbeats 40000000
namespace Go.Proofs.Ytfkjefbonbinnaa
open Go.GL Go.Maps Go.WideMaps Try
abbrev C0 (f:FuncId) (a:List Value) (F:List RF) (v:Value):=Con prog f a [] F fun (_:Unit)=>([v],[],[])
variable {n:Nat} {ga0 ga1 ga2 ga3 ga4 ga5 ga6 ga7 ga8 ga10 ga12:Option Addr} {gc1 gc2 gc3 gc4 gc5 gc6 gc7 gc8 gc9 gc11 gc13:Nat}
theorem mix:prog.follows .mixedOrders = true:=by kernel_rfl
abbrev sl3:Value → List Int → HP:=SL 3
abbrev sl39:Value → List Hd → HP:=SL 39
abbrev sl4:Value → List Bool → HP:=SL 4
abbrev sl52:Value → List D.Gate → HP:=SL 52
theorem Zfh (d:Nat) (a c:Int) (w:World):(Op.equalIn (d + 1) 3 (.int .i64 a) (.int .i64 c)).run prog w = .ok (a == c) w:=by
  unfold Op.equalIn
  simp [run_underlying Try.underlying3]
theorem eqd52 (n:Nat) (x y:D.Gate) (w:World):(Op.equalIn (n + 1 + 1) 52 (.agg #[.int .i64 x.A,.int .i64 x.B]) (.agg #[.int .i64 y.A,.int .i64 y.B])).run prog w = .ok (decide (x = y)) w:=by
  have hs:prog.stoodInHeld 52 = false:=by kernel_rfl
  unfold Op.equalIn
  obtain ⟨x0,x1⟩:=x; obtain ⟨y0,y1⟩:=y
  simp only [D.Gate.mk.injEq]
  by_cases h0:x0 = y0 <;> by_cases h1:x1 = y1 <;> simp [run_underlying Try.underlying52,hs,Zfh,part,h0,h1]
theorem eq52 (x y:D.Gate) (w:World):(binOp .eql 52 (.agg #[.int .i64 x.A,.int .i64 x.B]) (.agg #[.int .i64 y.A,.int .i64 y.B])).run prog w = .ok (.bool (decide (x = y))) w:=by
  have h:=eqd52 9998 x y w
  simp only [binOp,Op.equal,Op.maxDepth,Sem.run_bind,Sem.run_pure]
  rw [h]; rfl
theorem eqg52 (x y:Operand) (a b:Array Value) (w:World):(eqGuard .eql 52 x y (.agg a) (.agg b)).run prog w = .ok () w:=by
  have hg:prog.eqGuardType prog.depth 52 = false:=by kernel_rfl
  simp [eqGuard,hg]
theorem laidOut:laidOutB prog = true:=by kernel_rfl
theorem keyed52:Keyed prog 52:=Keyed.of_law (deep_law_laid laidOut (m:=3) (by omega) (of_decide_eq_true (by kernel_rfl)) (by kernel_rfl) (by kernel_rfl))
theorem lits3 (n:Nat) {a:Int} (h:(Lit.int .i64 a).wf = true):prog.keyLits (n + 1) 3 [.int .i64 a] = some [.int .i64 a]:=by
  unfold Program.keyLits
  rw [Try.underlying3]
  simp [h]
theorem lits52 (n:Nat) (x:D.Gate) (hA:(Lit.int .i64 x.A).wf = true) (hB:(Lit.int .i64 x.B).wf = true):prog.keyLits (n + 1 + 1) 52 [.int .i64 x.A,.int .i64 x.B] = some [.int .i64 x.A,.int .i64 x.B]:=by
  have hc:prog.cellsOf 52 = 2:=by kernel_rfl
  have hc3:prog.cellsOf 3 = 1:=by kernel_rfl
  unfold Program.keyLits
  rw [Try.underlying52]
  simp [hc,hc3,lits3 n hA,lits3 n hB]
theorem key52 (x:D.Gate) (hA:(Lit.int .i64 x.A).wf = true) (hB:(Lit.int .i64 x.B).wf = true):keyOf prog 52 (.agg #[.int .i64 x.A,.int .i64 x.B]) = some (.string (keyBytes [.int .i64 x.A,.int .i64 x.B])):=by
  have h1:prog.keyType 52 = true:=by kernel_rfl
  have h2:∀ x:D.Gate,(Value.agg #[.int .i64 x.A,.int .i64 x.B]).formed prog 52 = true:=by intro x; kernel_rfl
  obtain ⟨n,hs⟩ : ∃ n,prog.types.size = n + 1:=⟨prog.types.size - 1,(Nat.succ_pred_eq_of_pos (of_decide_eq_true (by kernel_rfl))).symm⟩
  have hl:=lits52 n x hA hB
  unfold keyOf
  rw [Try.underlying52]
  simp only [h1,h2,Bool.and_self,Zg6,hs,Value.cells]
  rw [hl]; rfl
theorem back4 (v:Value) (y:Bool) (ps:List MemPlace) (h:plainElem (H:=Value) prog 4 v = some (.lit (.bool y),ps)):v = .bool y:=by
  unfold plainElem at h
  rw [Try.underlying4] at h
  split at h <;> simp_all
noncomputable def map73:MapT prog 52 4 D.Gate Bool where
  fit:=ZT
  lit x:=.string (keyBytes [.int .i64 x.A,.int .i64 x.B])
  dv y:=.lit (.bool y)
  zero:=false
  efit:=fun _=>true
  zfit:=by kernel_rfl
  keyed:=keyed52
  key x h:=by
    simp only [ZT,fitZ,ZfZ] at h
    exact key52 x h.1 h.2
  inj x y hx hy h:=by
    simp only [ZT,fitZ,ZfZ] at hx hy
    have h1:=key52 x hx.1 hx.2
    have h2:=key52 y hy.1 hy.2
    rw [← h] at h2
    have h3:=keyed52.inj h1 h2
    cases x; cases y
    simpa using h3
  elem y _:=plainElem_bool Try.underlying4 y
  back v y ps h:=back4 v y ps h
  hz w:=by
    show (zeroValue 4).run prog w = .ok (.bool false) w
    have hz:(prog.info? 4).map (·.zero) = some (some (.bool false)):=by kernel_rfl
    cases hi:prog.info? 4 with
    | none=>rw [hi] at hz; cases hz
    | some i =>
      rw [hi] at hz
      simp only [Zgf,Option.some.injEq] at hz
      simp [zeroValue,typeInfo,hi,hz]
theorem ZaL {p0 r} (h:YC n p0 = some r):Con prog 34 [L ga0 p0 gc1] [] [lR ga0 p0 gc1] fun (i:Nat × Oh)=>([B i.1 0],[BX i.1 71 [L i.2.1 r.b i.q2,I r.i,I r.h]],[lR i.2.1 r.b i.q2]):=by
 unfold YC at h
 refine En func34 rfl ntmps34 fun _ fr w c=>?_
 refine P0 [] c fun _ c=>P0 [] c fun _ c=>S0 (P0 [] c fun _ c=>Bd h fun rl1 hit1 h=>Lp (fun s1  (_:Unit)=>([(0,L ga0 p0 gc1),(3,I s1.1),(4,I s1.2)],id,[])) (fun  (_:Unit)=>([(0,L ga0 p0 gc1),(3,I rl1)],id,[])) hit1 c () (c.rk [] [0]) (fun s1 q1 _ _ _ c h hr1=>?_) fun _ _ _ c=>?_)
 refine S0 (S0 (Ry [] mix c fun _ _ c=>I0 c h (fun h=>?_) fun h=>?_))
 refine K0 (S0 (wp_block (T1 (Fp [] 4 c fun _ c=>Bd h fun x1 hx1 h=>Eel c (.f 0) hx1 fun _ _ c=>?_))))
 refine Fp [] 5 c fun _ c=>E1 (bk (tn (P1 [] c fun _ c=>Nx h () (c.rk [] [0]))))
 refine wp_exit (te (te (be ?_)))
 obtain rfl:=hr1 _ (sk h)
 exact tn ⟨(),c.rk [] [0]⟩
 refine T0 (Fp [] 3 c fun _ c=>Ebx [L ga0 p0 gc1,I 0,I rl1] c fun b1 _ _ c=>?_)
 refine Fp [] 1 c fun _ c=>E0 ?_
 cases h
 exact wp_ret (Rt c (b1,ga0,gc1) [0] [0])
theorem XB {p0 p1 r} (h:Y5 n p0 p1 = some r):Con prog 15 [L ga0 p0 gc1,I p1] [] [lR ga0 p0 gc1] fun (i:Nat × Oh)=>([B i.1 0],[BX i.1 71 [L i.2.1 r.b i.q2,I r.i,I r.h]],[lR i.2.1 r.b i.q2]):=by
 unfold Y5 at h
 refine En func15 rfl ntmps15 fun _ fr w c=>?_
 refine P0 [] c fun _ c=>T0 (Fp [] 1 c fun _ c=>Bd h fun x1 hx1 h=>Cg c (ZaL hx1) ⟨.f 0,tt⟩ call34 fun i1 _ _ c=>?_)
 refine Fp [] 1 c fun _ c=>E0 (T0 (Fp [] 7 c fun _ c=>Esb 0 1 (I (imin p1 (len p0))) c fun _ c=>?_))
 refine E0 (T0 (Fp [(4,0)] 13 c fun _ c=>Esb 0 2 (I (band (w64 ((w64 ((w64 (x1.h * 31)) + (w64 (p1 * 7919)))) + 1)) 1073741823)) c fun _ c=>?_))
 refine E0 (P0 [] c fun _ c=>?_)
 cases h
 exact wp_ret (Rt c (i1.1,i1.2.1,i1.q2) [0] [1])
theorem Zav {p0 gb0 r} (h:Yx p0 = some r):Con prog 46 [B gb0 0] [BX gb0 71 [L ga1 p0.b gc2,I p0.i,I p0.h]] [lR ga1 p0.b gc2] fun (_:Unit)=>([I r.1],[BX gb0 71 [L ga1 p0.b gc2,I r.2.i,I r.2.h]],[]):=by
 unfold Yx at h
 refine En func46 rfl ntmps46 fun _ fr w c=>?_
 refine P0 [] c fun _ c=>T0 (Fp [(4,0)] 9 c fun _ c=>Esb 0 2 (I (w64 ((w64 (p0.h * 6364136223846793005)) + 1442695040888963407))) c fun _ c=>?_)
 refine E0 (Bd h fun x1 hx1 h=>Bd h fun x2 hx2 h=>S0 (rZ [(4,.eq (I x1)),(9,.eq (I x2))] [(3,0),(8,0)] mix c ⟨Nshr c (kN hx1),Nshr c (kN hx2),tt⟩ fun _ _ c=>S0 (S0 (Ry [(3,0),(7,0)] mix c fun _ _ c=>I0 c h (fun h=>?_) fun h=>?_))))
 refine Bd h fun x3 hx3 h=>S0 (rZ [(9,Pd.el (x3:Byt)),(10,.eq (.int .u8 x3.n))] [(4,0),(8,0)] mix c ⟨Nid c (.f 0) (kN hx3),Nld c 9 (q:=x3) (atN 9),tt⟩ fun _ _ c=>T1 (Fp [(4,0)] 8 c fun _ c=>Esb 0 1 (I (w64 (p0.i + 1))) c fun _ c=>?_))
 refine E0 (P0 [] c fun _ c=>?_)
 cases h
 exact wp_ret (Rt c () [0] [])
 refine K0 (P0 [] c fun _ c=>?_)
 cases h
 exact wp_ret (Rt c () [0] [])
theorem Yj {p0 p1 gb0 r} (h:Z9 p0 p1 = some r):Con prog 32 [B gb0 0,I p1] [BX gb0 71 [L ga1 p0.b gc2,I p0.i,I p0.h]] [lR ga1 p0.b gc2] fun (_:Unit)=>([I r.1],[BX gb0 71 [L ga1 p0.b gc2,I r.2.i,I r.2.h]],[]):=by
 unfold Z9 at h
 refine En func32 rfl ntmps32 fun _ fr w c=>?_
 refine P0 [] c fun _ c=>S0 (P0 [] c fun _ c=>I0 c h (fun h=>?_) fun h=>?_)
 refine P0 [] c fun _ c=>?_
 cases h
 exact wp_ret (tr (Rt c () [0] []))
 refine K0 (T0 (Fp [] 1 c fun _ c=>Bd h fun x1 hx1 h=>Ca [0] c (Zav hx1) ⟨.f 0,tt⟩ call46 fun _ _ _ c=>?_))
 refine Fp [] 1 c fun _ c=>Bd h fun x2 hx2 h=>Erem c hx2 fun _ c=>?_
 refine Fp [] 1 c fun _ c=>E0 ?_
 cases h
 exact wp_ret (Rt c () [0] [])
theorem ZaV {p0 r} (h:YA p0 = some r):Con prog 31 [.agg #[I p0.Inputs,L ga0 p0.Gates gc1]] [] [lR ga0 p0.Gates gc1] fun (i:Nat × Oh)=>([B i.1 0],[BX i.1 68 [I r.c.Inputs,L i.2.1 r.c.Gates i.q2,.bool r.full],sl52 (L i.2.1 r.c.Gates i.q2) r.c.Gates],[]):=by
 unfold YA at h
 refine En func31 rfl ntmps31 fun _ fr w c=>?_
 refine T0 (Ebx [I p0.Inputs,L ga0 p0.Gates gc1] c fun b1 _ _ c=>?_)
 refine Fp [] 1 c fun _ c=>E0 (Bd h fun x1 hx1 h=>S0 (Zbc mix (rM 6 [(2,Pd.l0),(5,Pd.nw c.wd 5 (fun i:Oh=>L i.1 x1 i.2) (fun i=>SL 52 (L i.1 x1 i.2) x1))] [(1,0),(4,0)] c (fun ow=>⟨ZaP ow (Nl0 52 c),Nap0 c 2 (atM 2 (p:=.l0)) (.f 0) (kN hx1),tt⟩) fun ow _ _ hE hc cq=>?_)))
 obtain ⟨i1,hi1⟩:=hE.nw 5 8
 replace c:=Cx.newt c hc cq [(5,8,_,_)] ⟨hi1,tt⟩
 refine Fp [] 2 c fun _ c=>Ebx [I p0.Inputs,L i1.1 x1 i1.2,.bool false] c fun b2 _ _ c=>?_
 refine Fp [] 1 c fun _ c=>E0 ?_
 cases h
 exact wp_ret (Rt c (b2,i1.1,i1.2) [2,1] [])
theorem Zaw {p0 p1 gb0 r} (h:Yw p0 p1 = some r):Con prog 35 [B gb0 0,I p1] [BX gb0 71 [L ga1 p0.b gc2,I p0.i,I p0.h]] [lR ga1 p0.b gc2] fun (_:Unit)=>([.bool r.1],[BX gb0 71 [L ga1 p0.b gc2,I r.2.i,I r.2.h]],[]):=by
 unfold Yw at h
 refine En func35 rfl ntmps35 fun _ fr w c=>?_
 refine P0 [] c fun _ c=>T0 (Fp [] 2 c fun _ c=>Bd h fun x1 hx1 h=>Ca [0] c (Yj hx1) ⟨.f 0,tt⟩ call32 fun _ _ _ c=>?_)
 refine Fp [] 2 c fun _ c=>E0 ?_
 cases h
 exact wp_ret (Rt c () [0] [])
theorem YQ {p0 p1 gb0 r} (h:Z6 p0 p1 = some r):Con prog 16 [B gb0 0,.agg #[I p1.Inputs,L ga3 p1.Gates gc4]] [BX gb0 71 [L ga1 p0.b gc2,I p0.i,I p0.h]] [lR ga1 p0.b gc2,lR ga3 p1.Gates gc4] fun (_:Unit)=>([I r.1],[BX gb0 71 [L ga1 p0.b gc2,I r.2.i,I r.2.h]],[]):=by
 unfold Z6 at h
 refine En func16 rfl ntmps16 fun _ fr w c=>?_
 refine T0 (Ebx [I p1.Inputs,L ga3 p1.Gates gc4] c fun b1 _ _ c=>?_)
 refine Fp [] 1 c fun _ c=>E0 (T0 (Fp [(2,1),(5,1)] 8 c fun _ c=>Bd h fun x1 hx1 h=>Ca [0] c (Yj hx1) ⟨.f 0,tt⟩ call32 fun _ _ _ c=>?_))
 refine Fp [] 2 c fun _ c=>E0 (S0 (T0 (Fp [] 1 c fun _ c=>Bd h fun x2 hx2 h=>Ca [1] c (Zaw hx2) ⟨.f 0,tt⟩ call35 fun _ _ _ c=>?_)))
 refine E0 (I0 c h (fun h=>?_) fun h=>?_)
 refine P0 [] c fun _ c=>?_
 cases h
 exact wp_ret (tr (Rt c () [1] []))
 refine K0 (P0 [] c fun _ c=>?_)
 cases h
 exact wp_ret (Rt c () [1] [])
theorem ZA {p0 r} (h:Zt p0 = some r):C0 43 [I p0] [] (I r):=by
 unfold Zt at h
 refine En func43 rfl ntmps43 fun _ fr w c=>?_
 exact P0 [] c fun _ c=>S0 (P0 [] c fun _ c=>I0 c h (fun h=>P0 [] c fun _ c=>rE) fun h=>K0 (P0 [] c fun _ c=>rE))
theorem Xm {p0 p1 p2 gb0 gn3 r} (h:Zx n p0 p1 p2 = some r):Con prog 33 [B gb0 0,I p1,I p2] [BX gb0 68 [I p0.c.Inputs,.slice ga1 gn3 gc2,.bool p0.full],sl52 (.slice ga1 gn3 gc2) p0.c.Gates] [] fun (i:Oh)=>([I r.1],[BX gb0 68 [I r.2.c.Inputs,L i.1 r.2.c.Gates i.2,.bool r.2.full],sl52 (L i.1 r.2.c.Gates i.2) r.2.c.Gates],[]):=by
 unfold Zx at h
 refine En func33 rfl ntmps33 fun _ fr w c=>?_
 obtain ⟨rfl,c⟩:=c.relen 1
 refine P0 [] c fun _ c=>S0 (wp_block (S0 (Ry [] mix c fun _ _ c=>I0 c h (fun h=>?_) fun h=>?_)))
 refine P0 [] c fun _ c=>?_
 cases h
 exact wp_ret (br (tr (Rt c (ga1,gc2) [0,1] [])))
 refine P0 [] c fun _ c=>I0 c h (fun h=>?_) fun h=>?_
 refine P0 [] c fun _ c=>?_
 cases h
 exact wp_ret (br (tr (Rt c (ga1,gc2) [0,1] [])))
 refine S0 (Ry [] mix c fun _ _ c=>I0 c h (fun h=>?_) fun h=>?_)
 refine P0 [] c fun _ c=>?_
 cases h
 exact wp_ret (br (tr (Rt c (ga1,gc2) [0,1] [])))
 refine K1 (bk (tn (S0 (T0 (Fp [] 1 c fun _ c=>Bd h fun x1 hx1 h=>Cb c (ZA hx1) tt call43 fun _ _ _ c=>?_)))))
 refine Fp [] 1 c fun _ c=>Bd h fun x2 hx2 h=>Cb c (ZA hx2) tt call43 fun _ _ _ c=>?_
 refine Fp [] 1 c fun _ c=>E0 (Mp (decide (x1 > x2)) [(1,I p2),(2,I p1)] [(1,I p1),(2,I p2)] [(1,I (cond (decide (x1 > x2)) p2 p1)),(2,I (cond (decide (x1 > x2)) p1 p2))] [1,2,41,42] c fun _ c=>T0 (Fp [] 3 c fun _ c=>Eal [I 0,I 0] c fun b1 _ _ c=>?_))
 refine Ess 2 [I (cond (decide (x1 > x2)) p2 p1),I (cond (decide (x1 > x2)) p1 p2)] c fun _ c=>?_
 refine E0 (S0 (P0 [(4,0)] c fun _ c=>Bd h fun rl1 hit1 h=>?_))
 have hk1:=h
 refine LpR (fun s1  (_:Unit)=>([(0,B gb0 0),(7,B b1 0),(50,L ga1 p0.c.Gates gc2),(51,I (len p0.c.Gates)),(52,I s1)],id,[])) (fun s  (_:Unit)=>([(0,B gb0 0),(7,B b1 0)],id,[])) hit1 c () (c.rk [0,1,2] []) (fun s1 q1 _ _ _ c h hr1=>?_) fun s1r _ _ _ hrl c=>?_
 refine P0 [] c fun _ c=>S0 (I0 c h (fun h=>?_) fun h=>?_)
 refine K0 (S0 (wp_block (T0 (Fp [] 1 c fun _ c=>Bd h fun x3 hx3 h=>Eel c (.g 1) hx3 fun _ _ c=>?_))))
 refine Eal [I 0,I 0] c fun b2 _ _ c=>?_
 refine Fp [] 1 c fun _ c=>?_
 replace c:=c.nf
 refine Ess 3 [I x3.A,I x3.B] c fun _ c=>?_
 refine E0 (T0 (Fp [(0,1),(1,2)] 2 c fun _ c=>Ebin c (eqg52 _ _ _ _ _) (eq52 (D.Gate.mk (cond (decide (x1 > x2)) p2 p1) (cond (decide (x1 > x2)) p1 p2)) x3 _) fun _ c=>?_))
 refine E0 (I0 c h (fun h=>?_) fun h=>?_)
 refine P0 [(4,0)] c fun _ c=>?_
 obtain rfl:=hr1 _ (sk h)
 obtain rfl:=sj hk1
 exact wp_ret (br (tr (tr (br (tr (Rt c (ga1,gc2) [0,1] []))))))
 refine K1 (bk (tn (P1 [] c fun _ c=>Nx h () (c.rk [0,1,2] []))))
 refine wp_exit (te (te (be ?_)))
 obtain rfl:=hr1 _ (sk h)
 exact tn ⟨_,(),rfl,c.rk [0,1,2] []⟩
 subst hrl
 refine S0 (P0 [(4,0)] c fun _ c=>I0 c h (fun h=>?_) fun h=>?_)
 refine T0 (Fp [] 3 c fun _ c=>Esb 0 2 (.bool true) c fun _ c=>?_)
 refine E0 (P0 [] c fun _ c=>?_)
 cases h
 exact wp_ret (tr (Rt c (ga1,gc2) [0,1] []))
 refine K0 (S0 (Zbc mix (Rh 1 ?_)))
 refine Rh 0 ?_
 refine rM 8 [(7,Pd.nw c.wd 7 (fun i:Oh=>L i.1 ([(D.Gate.mk (cond (decide (x1 > x2)) p2 p1) (cond (decide (x1 > x2)) p1 p2))]:List D.Gate) i.2) (fun i=>SL 52 (L i.1 ([(D.Gate.mk (cond (decide (x1 > x2)) p2 p1) (cond (decide (x1 > x2)) p1 p2))]:List D.Gate) i.2) ([(D.Gate.mk (cond (decide (x1 > x2)) p2 p1) (cond (decide (x1 > x2)) p1 p2))]:List D.Gate)))] [(5,0),(6,1)] c (fun ow=>⟨Nlt c ([(D.Gate.mk (cond (decide (x1 > x2)) p2 p1) (cond (decide (x1 > x2)) p1 p2))]:List D.Gate),tt⟩) fun ow _ _ hE hc cq=>?_
 obtain ⟨i1,hi1⟩:=hE.nw 7 86
 replace c:=Cx.newt c hc cq [(7,86,_,_)] ⟨hi1,tt⟩
 refine Bd h fun x4 hx4 h=>Eap 1 c (.g 3) hx4 fun a1 c1 _ _ c=>?_
 refine Fp [] 3 c fun _ c=>?_
 replace c:=c.nf
 refine Esb 0 1 (L a1 x4 c1) c fun _ c=>?_
 refine E0 (S0 (Ry [(4,0),(10,0)] mix c fun _ _ c=>?_))
 cases h
 exact wp_ret (Rt c (a1,c1) [0,1] [])
theorem Zax {p0 gb0 r} (h:Yi n p0 = some r):Con prog 14 [B gb0 0] [BX gb0 71 [L ga1 p0.b gc2,I p0.i,I p0.h]] [lR ga1 p0.b gc2] fun (i:Oh)=>([.agg #[I r.1.Inputs,L i.1 r.1.Gates i.2]],[sl52 (L i.1 r.1.Gates i.2) r.1.Gates,BX gb0 71 [L ga1 p0.b gc2,I r.2.i,I r.2.h]],[]):=by
 unfold Yi at h
 refine En func14 rfl ntmps14 fun _ fr w c=>?_
 refine T0 (Eal [I 0,L none ([]:List D.Gate) 0] c fun b1 _ _ c=>?_)
 refine E0 (T0 (Fp [] 1 c fun _ c=>Bd h fun x1 hx1 h=>Ca [0] c (Yj hx1) ⟨.f 0,tt⟩ call32 fun _ _ _ c=>?_))
 refine Fp [] 2 c fun _ c=>Bd h fun x2 hx2 h=>Cb c (ZaV hx2) ⟨.nil,tt⟩ call31 fun i1 _ _ c=>?_
 refine Fp [] 1 c fun _ c=>E0 (S0 (T0 (Fp [] 1 c fun _ c=>Bd h fun x3 hx3 h=>Ca [1] c (Yj hx3) ⟨.f 0,tt⟩ call32 fun _ _ _ c=>?_)))
 refine Fp [] 1 c fun _ c=>E0 (Bd h fun rl1 hit1 h=>Lp (fun s1  (i:Oh)=>([(0,B gb0 0),(2,B b1 0),(3,B i1.1 0),(4,I s1.1)],fun Γ=>((Γ.set 1 (BX i1.1 68 [I s1.2.1,L i.1 s1.p3 i.2,.bool s1.p2])).set 2 (sl52 (L i.1 s1.p3 i.2) s1.p3)).set 3 (BX gb0 71 [L ga1 p0.b gc2,I s1.p4,I s1.q5]),[])) (fun  (i:Oh)=>([(2,B b1 0),(3,B i1.1 0)],fun Γ=>((Γ.set 1 (BX i1.1 68 [I rl1.1,L i.1 rl1.p2 i.2,.bool rl1.2.1])).set 2 (sl52 (L i.1 rl1.p2 i.2) rl1.p2)).set 3 (BX gb0 71 [L ga1 p0.b gc2,I rl1.p3,I rl1.q4]),[])) hit1 c (i1.2.1,i1.q2) (c.rk (rg 4) [0]) (fun s1 q1 i2 _ _ c h hr1=>?_) fun k1 _ _ c=>?_)
 refine S0 (P0 [] c fun _ c=>I0 c h (fun h=>?_) fun h=>?_)
 refine K0 (S0 (wp_block (Bd h fun x4 hx4 h=>Bd h fun x5 hx5 h=>Bd h fun x6 hx6 h=>Tq (Jn (fun i:Oh=>([(0,B gb0 0),(2,B b1 0),(3,B i1.1 0),(4,I s1.1)],fun Γ=>((Γ.set 1 (BX i1.1 68 [I x6.2.c.Inputs,L i.1 x6.2.c.Gates i.2,.bool x6.2.full])).set 2 (sl52 (L i.1 x6.2.c.Gates i.2) x6.2.c.Gates)).set 3 (BX gb0 71 [L ga1 p0.b gc2,I x5.2.i,I x5.2.h]),[])) c ?_ fun i5 _ _ c=>?_))))
 refine As mix c fun _ c=>?_
 replace c:=Cx.frs [(0,B gb0 0),(2,B b1 0),(3,B i1.1 0),(4,I s1.1)] c
 refine Dq (fun i:Oh=>([(0,B gb0 0),(2,B b1 0),(3,B i1.1 0),(4,I s1.1)],fun Γ=>((Γ.set 1 (BX i1.1 68 [I x6.2.c.Inputs,L i.1 x6.2.c.Gates i.2,.bool x6.2.full])).set 2 (sl52 (L i.1 x6.2.c.Gates i.2) x6.2.c.Gates)).set 3 (BX gb0 71 [L ga1 p0.b gc2,I x5.2.i,I x5.2.h]),[])) (bN 14 16383) (fun i=>[]) c (fun i4=>?_) fun hd3=>?_
 obtain ⟨a1,c1⟩:=i4
 refine qnE tt fun _ _ c=>?_
 exact nN (a1,c1) (c.rk (rg 4) [0])
 refine Dq (fun _:Unit=>([(0,B gb0 0),(2,B b1 0),(3,B i1.1 0),(4,I s1.1),(22,I x4.1),(28,I x5.1)],fun Γ=>Γ.set 3 (BX gb0 71 [L ga1 p0.b gc2,I x5.2.i,I x5.2.h]),[])) (bN 14 8190) (fun _=>[(0,16,B i1.1 0)]) c (fun _=>?_) fun hd2=>?_
 refine qn [13] ⟨qP [],tt⟩ ⟨fun _ _ c=>?_,tt⟩
 refine Xi _ rfl rfl ?_
 refine Ca [1,2] c (Xm hx6) tt call33 fun i3 _ _ c=>?_
 refine E0 (nQ hd3 (i3.1,i3.2) (c.rk [0,2,3,1] [0]))
 refine Dq (fun _:Unit=>([(0,B gb0 0),(2,B b1 0),(3,B i1.1 0),(4,I s1.1),(22,I x4.1)],fun Γ=>Γ.set 3 (BX gb0 71 [L ga1 p0.b gc2,I x4.2.i,I x4.2.h]),[])) (bN 14 126) (fun _=>[(0,16,B i1.1 0),(7,23,B gb0 0),(8,24,B i1.1 0),(9,25,B i1.1 0),(10,26,B i1.1 0),(11,27,.agg #[I s1.2.1,L i2.1 s1.p3 i2.2])]) c (fun _=>?_) fun hd1=>?_
 refine qn [12] ⟨qP [],qP [],qP [],qP [],qP [],qP [(0,1)],tt⟩ ⟨fun _ _ c=>?_,tt⟩
 refine Xi _ rfl rfl ?_
 refine Ca [3] c (YQ hx5) ⟨.f 0,.g 2,tt⟩ call16 fun _ _ _ c=>?_
 refine E0 (nQ hd2 () (c.rk (rg 4) [0]))
 refine q0 (qs:=[(0,16,B i1.1 0),(1,17,B gb0 0),(2,18,B i1.1 0),(3,19,B i1.1 0),(4,20,B i1.1 0),(5,21,.agg #[I s1.2.1,L i2.1 s1.p3 i2.2]),(7,23,B gb0 0),(8,24,B i1.1 0),(9,25,B i1.1 0),(10,26,B i1.1 0),(11,27,.agg #[I s1.2.1,L i2.1 s1.p3 i2.2])]) c (qn [6] ⟨qP [],qP [],qP [],qP [],qP [],qP [(0,1)],qP [],qP [],qP [],qP [],qP [(0,1)],tt⟩ ⟨fun _ _ c=>?_,tt⟩)
 refine Xi _ rfl rfl ?_
 refine Ca [3] c (YQ hx4) ⟨.f 0,.g 2,tt⟩ call16 fun _ _ _ c=>?_
 refine E0 (nQ hd1 () (c.rk (rg 4) [0]))
 obtain ⟨a2,c2⟩:=i5
 refine bk (tn (P1 [] c fun _ c=>Nx h (a2,c2) (c.rk (rg 4) [0])))
 refine wp_exit (te (te (be ?_)))
 obtain rfl:=hr1 _ (sk h)
 exact tn ⟨(i2.1,i2.2),c.rk (rg 4) [0]⟩
 refine T0 (Fp [(3,1)] 4 c fun _ c=>Ess 0 [I rl1.1,L k1.1 rl1.p2 k1.2] c fun _ c=>?_)
 refine E0 ?_
 cases h
 exact wp_ret (Rg c (k1.1,k1.2) [2,3] [] (.cell (α:=Agg 1) kk (.b 0) .nil))
theorem X8 {p0 p1 r} (h:ZM n p0 p1 = some r):Con prog 4 [L ga0 p0 gc1,I p1] [] [lR ga0 p0 gc1] fun (i:Oh)=>([.agg #[I r.Inputs,L i.1 r.Gates i.2]],[sl52 (L i.1 r.Gates i.2) r.Gates],[]):=by
 unfold ZM at h
 refine En func4 rfl ntmps4 fun _ fr w c=>?_
 refine T0 (Eal [I 0,L none ([]:List D.Gate) 0] c fun b1 _ _ c=>?_)
 refine E0 (T0 (Fp [] 2 c fun _ c=>Bd h fun x1 hx1 h=>Cg c (XB hx1) ⟨.f 0,tt⟩ call15 fun i1 _ _ c=>?_))
 refine Bd h fun x2 hx2 h=>Ca [1] c (Zax hx2) ⟨.f 1,tt⟩ call14 fun i2 _ _ c=>?_
 refine Ess 0 [I x2.1.Inputs,L i2.1 x2.1.Gates i2.2] c fun _ c=>?_
 refine E0 ?_
 cases h
 exact wp_ret (Rg c (i2.1,i2.2) [1] [] (.cell (α:=Agg 1) kk (.b 0) .nil))
theorem Zat {p0 p1 p2 r} (h:Y0 n p0 p1 p2 = some r):C0 5 [L ga0 p0 gc1,I p1,.agg #[I p2.Inputs,L ga2 p2.Gates gc3]] [lR ga0 p0 gc1,lR ga2 p2.Gates gc3] (I r):=by
 unfold Y0 at h
 refine En func5 rfl ntmps5 fun _ fr w c=>?_
 refine T0 (Ebx [I p2.Inputs,L ga2 p2.Gates gc3] c fun b1 _ _ c=>?_)
 refine Fp [] 1 c fun _ c=>E0 (Bd h fun x1 hx1 h=>Bd h fun x2 hx2 h=>S0 (Jn (fun _:Unit=>([(6,I x2.1)],id,[])) c ?_ fun _ _ _ c=>?_))
 refine As mix c fun _ c=>?_
 replace c:=Cx.frs [(0,L ga0 p0 gc1),(1,I p1),(5,B b1 0)] c
 refine Dq (fun _:Unit=>([(11,I x2.1)],id,[])) (bN 6 31) (fun _=>[(5,6,I x2.1)]) c (fun _=>?_) fun hd2=>?_
 refine qnE ⟨qP [],tt⟩ fun _ _ c=>?_
 exact nN () (c.rk [0] [0,1])
 refine Dq (fun i:Nat × Oh=>([(5,B b1 0),(9,B i.1 0)],fun Γ=>Γ ++ [BX i.1 71 [L i.2.1 x1.b i.q2,I x1.i,I x1.h]],[lR i.2.1 x1.b i.q2])) (bN 6 7) (fun i=>[(3,10,.agg #[I p2.Inputs,L ga2 p2.Gates gc3])]) c (fun i2=>?_) fun hd1=>?_
 obtain ⟨b2,a1,c1⟩:=i2
 refine qn [4] ⟨qP [(0,0)],tt⟩ ⟨fun _ _ c=>?_,tt⟩
 refine Xi _ rfl rfl ?_
 refine Ca [1] c (YQ hx2) ⟨.f 2,.f 1,tt⟩ call16 fun _ _ _ c=>?_
 refine E0 (nQ hd2 () (c.rk [0] [0,1]))
 refine q0 (qs:=[(0,7,L ga0 p0 gc1),(1,8,I p1),(3,10,.agg #[I p2.Inputs,L ga2 p2.Gates gc3])]) c (qn [2] ⟨qP [],qP [],qP [(0,0)],tt⟩ ⟨fun _ _ c=>?_,tt⟩)
 refine Xi _ rfl rfl ?_
 refine Cg c (XB hx1) ⟨.f 0,tt⟩ call15 fun i1 _ _ c=>?_
 refine E0 (nQ hd1 (i1.1,i1.2.1,i1.q2) (c.rk [0,1] [0,1,2]))
 exact rE
theorem ZU {p0 p1 r} (h:Zm p0 p1 = some r):C0 18 [I p0,I p1] [] (.bool r):=by
 unfold Zm at h
 refine En func18 rfl ntmps18 fun _ fr w c=>?_
 refine P0 [] c fun _ c=>S0 (Ry [] mix c fun _ _ c=>?_)
 exact rE
theorem Z8 {p0 r} (h:Zp p0 = some r):C0 36 [I p0] [] (I r):=by
 unfold Zp at h
 refine En func36 rfl ntmps36 fun _ fr w c=>?_
 exact P0 [] c fun _ c=>S0 (P0 [] c fun _ c=>I0 c h (fun h=>P0 [] c fun _ c=>rE) fun h=>K0 (P0 [] c fun _ c=>rE))
theorem Zah {p0 r} (h:ZW n p0 = some r):C0 17 [.agg #[I p0.Inputs,L ga0 p0.Gates gc1]] [lR ga0 p0.Gates gc1] (.bool r):=by
 unfold ZW at h
 refine En func17 rfl ntmps17 fun _ fr w c=>?_
 refine T0 (Ebx [I p0.Inputs,L ga0 p0.Gates gc1] c fun b1 _ _ c=>?_)
 refine Fp [] 1 c fun _ c=>E0 (S0 (S0 (Ry [(1,0),(5,0),(10,0)] mix c fun _ _ c=>I0 c h (fun h=>?_) fun h=>?_)))
 exact P0 [] c fun _ c=>rE
 refine K0 (T0 (Emm map73 c fun b2 _ _ c=>?_))
 refine Fp [] 1 c fun _ c=>E0 (S0 (P0 [(1,0)] c fun _ c=>Bd h fun rl1 hit1 h=>?_))
 have hk1:=h
 refine LpR (fun s1  (_:Unit)=>([(1,B b1 0),(3,.map (some b2)),(23,L ga0 p0.Gates gc1),(24,I (len p0.Gates)),(25,I s1.1)],fun Γ=>Γ.set 1 (MP map73 b2 s1.2),[])) (fun s  (_:Unit)=>([],fun Γ=>Γ.set 1 (MP map73 b2 s),[])) hit1 c () (c.rk [0,1] [0]) (fun s1 q1 _ _ _ c h hr1=>?_) fun s1r _ _ _ hrl c=>?_
 refine P0 [] c fun _ c=>S0 (I0 c h (fun h=>?_) fun h=>?_)
 refine K0 (S0 (wp_block (T0 (Fp [] 1 c fun _ c=>Bd h fun x1 hx1 h=>Eel c (.f 0) hx1 fun _ _ c=>?_))))
 refine Eal [I 0,I 0] c fun b3 _ _ c=>?_
 refine Fp [] 1 c fun _ c=>Ess 2 [I x1.A,I x1.B] c fun _ c=>?_
 refine E0 (P0 [(1,0)] c fun _ c=>S0 (Bd h fun x2 hx2 h=>Bd h fun x3 hx3 h=>Bd h fun x4 hx4 h=>S0 (rZ [(3,.eq (.bool x2)),(9,.eq (.bool x3)),(15,.eq (.bool x4))] [(1,1),(7,1),(14,1)] mix c ⟨Ncl c (kN (ZU hx2)) tt call18,Ncl c (fun hg=>ZU (iteF (gcF hg) hx3)) tt call18,Nmg 1 c (gF hx4),tt⟩ fun _ _ c=>I0 c h (fun h=>?_) fun h=>?_)))
 refine P0 [] c fun _ c=>?_
 obtain rfl:=hr1 _ (sk h)
 obtain rfl:=sj hk1
 exact wp_ret (tr (br (tr (tr (br (tr (Rt c () [] [])))))))
 refine K0 (S0 (Bd h fun x5 hx5 h=>Bd h fun x6 hx6 h=>Bd h fun x7 hx7 h=>S0 (rZ [(2,.eq (I x5)),(7,.eq (I x6)),(10,.eq (I x7))] [(1,1),(6,1),(9,1)] mix c ⟨Ncl c (kN (Z8 hx5)) tt call36,Ncl c (fun hg=>Z8 (iteF (gcF hg) hx6)) tt call36,Ncl c (fun hg=>Z8 (iteF (gcF hg) hx7)) tt call36,tt⟩ fun _ _ c=>I0 c h (fun h=>?_) fun h=>?_)))
 refine P0 [] c fun _ c=>?_
 obtain rfl:=hr1 _ (sk h)
 obtain rfl:=sj hk1
 exact wp_ret (tr (br (tr (tr (br (tr (Rt c () [] [])))))))
 refine K0 (T1 (Fp [(1,1)] 2 c fun _ c=>Bd h fun x8 hx8 h=>Empb 1 c hx8 fun _ c=>?_))
 refine E1 (bk (tn (P1 [] c fun _ c=>Nx h () (c.rk [0,1] [0]))))
 refine wp_exit (te (te (be ?_)))
 obtain rfl:=hr1 _ (sk h)
 exact tn ⟨_,(),rfl,c.rk [0,1] [0]⟩
 subst hrl
 exact P0 [] c fun _ c=>rE
theorem Xj {p0 r} (h:Ye p0 = some r):C0 19 [.agg #[I p0.Inputs,L ga0 p0.Gates gc1]] [lR ga0 p0.Gates gc1] (I r):=by
 unfold Ye at h
 refine En func19 rfl ntmps19 fun _ fr w c=>?_
 refine T0 (Ebx [I p0.Inputs,L ga0 p0.Gates gc1] c fun b1 _ _ c=>?_)
 exact Fp [] 1 c fun _ c=>E0 (P0 [(1,0),(4,0)] c fun _ c=>rE)
theorem Yr {p0 p1 r} (h:Zw n p0 p1 = some r):C0 27 [L ga0 p0 gc1,I p1] [lR ga0 p0 gc1] (.bool r):=by
 unfold Zw at h
 refine En func27 rfl ntmps27 fun _ fr w c=>?_
 refine P0 [] c fun _ c=>S0 (P0 [] c fun _ c=>Bd h fun rl1 hit1 h=>?_)
 have hk1:=h
 refine LpR (fun s1  (_:Unit)=>([(1,I p1),(7,L ga0 p0 gc1),(8,I (len p0)),(9,I s1)],id,[])) (fun s  (_:Unit)=>([],id,[])) hit1 c () (c.rk [] [0]) (fun s1 q1 _ _ _ c h hr1=>?_) fun s1r _ _ _ hrl c=>?_
 refine P0 [] c fun _ c=>S0 (I0 c h (fun h=>?_) fun h=>?_)
 refine K0 (S0 (wp_block (T0 (Bd h fun x1 hx1 h=>Eel c (.f 0) hx1 fun _ _ c=>?_))))
 refine Fp [] 1 c fun _ c=>E0 (T0 (Fp [] 2 c fun _ c=>Bd h fun x2 hx2 h=>Cb c (ZU hx2) tt call18 fun _ _ _ c=>?_))
 refine Fp [] 1 c fun _ c=>E0 (I0 c h (fun h=>?_) fun h=>?_)
 refine P0 [] c fun _ c=>?_
 obtain rfl:=hr1 _ (sk h)
 obtain rfl:=sj hk1
 exact wp_ret (br (tr (tr (br (tr (Rt c () [] []))))))
 refine K1 (bk (tn (P1 [] c fun _ c=>Nx h () (c.rk [] [0]))))
 refine wp_exit (te (te (be ?_)))
 obtain rfl:=hr1 _ (sk h)
 exact tn ⟨_,(),rfl,c.rk [] [0]⟩
 subst hrl
 exact P0 [] c fun _ c=>rE
theorem Ya {p0 r} (h:Zl p0 = some r):Con prog 37 [L ga0 p0 gc1] [] [lR ga0 p0 gc1] fun (i:Oh)=>([L i.1 r i.2],[sl3 (L i.1 r i.2) r],[]):=by
 unfold Zl at h
 refine En func37 rfl ntmps37 fun _ fr w c=>?_
 refine P0 [] c fun _ c=>S0 (T0 (Fp [] 1 c fun _ c=>Ebin (vx:=L ga0 p0 gc1) (vy:=.slice none 0 0) c (Zdu _ _ _ _ _ _ _ _ _ _) (nil_eq Try.underlying39 ga0 _ gc1 _) fun _ c=>?_))
 refine E0 (If c (b:=(Option.isNone ga0)) (fun hb=>?_) fun hb=>?_)
 obtain ⟨_,hn⟩:=c.use (.f 0)
 replace h:=Zfb (Zf7 hn (ZgF.1 hb)) h
 refine P0 [] c fun _ c=>?_
 replace c:=c.nil (α:=Int) 3
 cases h
 exact wp_ret (tr (Rt c (none,0) [0] []))
 refine K0 (T0 (Elt 3 ([]:List Int) c fun a1 c1 _ _ c=>?_))
 refine Fp [] 1 c fun _ c=>Bd h fun x1 hx1 h=>Eap 0 c (.f 0) hx1 fun a2 c2 _ _ c=>?_
 refine Fp [] 1 c fun _ c=>E0 ?_
 obtain rfl:=sj h
 exact wp_ret (Rt c (a2,c2) [0] [])
theorem XF {p0 r} (h:YG p0 = some r):C0 64 [.int .u64 p0] [] (I r):=by
 unfold YG at h
 refine En func64 rfl ntmps64 fun _ fr w c=>?_
 refine P0 [] c fun _ c=>S0 (P0 [] c fun _ c=>I0 c h (fun h=>?_) fun h=>?_)
 refine T0 (Fp [] 1 c fun _ c=>Bd h fun x1 hx1 h=>Eshk c hx1 fun _ c=>?_)
 refine Fp [] 1 c fun _ c=>E0 (P1 [] c fun _ c=>S0 (P0 [] c fun _ c=>I0 c h (fun h=>?_) fun h=>?_))
 refine T0 (Fp [] 1 c fun _ c=>Bd h fun x2 hx2 h=>Eshk c hx2 fun _ c=>?_)
 refine Fp [] 1 c fun _ c=>E0 (P1 [] c fun _ c=>S0 (P0 [] c fun _ c=>I0 c h (fun h=>?_) fun h=>?_))
 refine T0 (Fp [] 1 c fun _ c=>Bd h fun x3 hx3 h=>Eshk c hx3 fun _ c=>?_)
 refine Fp [] 1 c fun _ c=>E0 (P1 [] c fun _ c=>T0 (Fp [] 3 c fun _ c=>Bd h fun x4 hx4 h=>Eix (kd:=.u8) c hx4 fun _ c=>?_))
 exact Fp [] 3 c fun _ c=>E0 rE
 refine K0 (T0 (Fp [] 3 c fun _ c=>Bd h fun x5 hx5 h=>Eix (kd:=.u8) c hx5 fun _ c=>?_))
 exact Fp [] 3 c fun _ c=>E0 rE
 refine K0 (S0 (P0 [] c fun _ c=>I0 c h (fun h=>?_) fun h=>?_))
 refine T0 (Fp [] 1 c fun _ c=>Bd h fun x6 hx6 h=>Eshk c hx6 fun _ c=>?_)
 refine Fp [] 1 c fun _ c=>E0 (P1 [] c fun _ c=>T0 (Fp [] 3 c fun _ c=>Bd h fun x7 hx7 h=>Eix (kd:=.u8) c hx7 fun _ c=>?_))
 exact Fp [] 3 c fun _ c=>E0 rE
 refine K0 (T0 (Fp [] 3 c fun _ c=>Bd h fun x8 hx8 h=>Eix (kd:=.u8) c hx8 fun _ c=>?_))
 exact Fp [] 3 c fun _ c=>E0 rE
 refine K0 (S0 (P0 [] c fun _ c=>I0 c h (fun h=>?_) fun h=>?_))
 refine T0 (Fp [] 1 c fun _ c=>Bd h fun x9 hx9 h=>Eshk c hx9 fun _ c=>?_)
 refine Fp [] 1 c fun _ c=>E0 (P1 [] c fun _ c=>S0 (P0 [] c fun _ c=>I0 c h (fun h=>?_) fun h=>?_))
 refine T0 (Fp [] 1 c fun _ c=>Bd h fun x10 hx10 h=>Eshk c hx10 fun _ c=>?_)
 refine Fp [] 1 c fun _ c=>E0 (P1 [] c fun _ c=>T0 (Fp [] 3 c fun _ c=>Bd h fun x11 hx11 h=>Eix (kd:=.u8) c hx11 fun _ c=>?_))
 exact Fp [] 3 c fun _ c=>E0 rE
 refine K0 (T0 (Fp [] 3 c fun _ c=>Bd h fun x12 hx12 h=>Eix (kd:=.u8) c hx12 fun _ c=>?_))
 exact Fp [] 3 c fun _ c=>E0 rE
 refine K0 (S0 (P0 [] c fun _ c=>I0 c h (fun h=>?_) fun h=>?_))
 refine T0 (Fp [] 1 c fun _ c=>Bd h fun x13 hx13 h=>Eshk c hx13 fun _ c=>?_)
 refine Fp [] 1 c fun _ c=>E0 (P1 [] c fun _ c=>T0 (Fp [] 3 c fun _ c=>Bd h fun x14 hx14 h=>Eix (kd:=.u8) c hx14 fun _ c=>?_))
 exact Fp [] 3 c fun _ c=>E0 rE
 refine K0 (T0 (Fp [] 3 c fun _ c=>Bd h fun x15 hx15 h=>Eix (kd:=.u8) c hx15 fun _ c=>?_))
 exact Fp [] 3 c fun _ c=>E0 rE
theorem Zap {p0 r} (h:Yl p0 = some r):C0 48 [.int .u64 p0] [] (I r):=by
 unfold Yl at h
 refine En func48 rfl ntmps48 fun _ fr w c=>?_
 refine P0 [] c fun _ c=>S0 (I0 c h (fun h=>?_) fun h=>?_)
 cases h
 refine K0 (T0 (Fp [] 1 c fun _ c=>Bd h fun x1 hx1 h=>Cb c (XF hx1) tt call64 fun _ _ _ c=>?_))
 exact Fp [] 1 c fun _ c=>E0 rE
theorem YR {p0 r} (h:ZN p0 = some r):C0 49 [I p0] [] (.bool r):=by
 unfold ZN at h
 refine En func49 rfl ntmps49 fun _ fr w c=>?_
 exact P0 [] c fun _ c=>P0 [] c fun _ c=>rE
theorem YI {p0 p1 r} (h:ZG p0 p1 = some r):C0 40 [I p0,I p1] [] (I r):=by
 unfold ZG at h
 refine En func40 rfl ntmps40 fun _ fr w c=>?_
 refine P0 [] c fun _ c=>T0 (Fp [] 1 c fun _ c=>Bd h fun x1 hx1 h=>Cb c (YR hx1) tt call49 fun _ _ _ c=>?_)
 refine Fp [] 1 c fun _ c=>E0 (T0 (Fp [] 1 c fun _ c=>Bd h fun x2 hx2 h=>Cb c (YR hx2) tt call49 fun _ _ _ c=>?_))
 exact Fp [] 1 c fun _ c=>E0 (S0 (P0 [] c fun _ c=>I0 c h (fun h=>S0 (P0 [] c fun _ c=>I0 c h (fun h=>P0 [] c fun _ c=>rE) fun h=>K0 (P0 [] c fun _ c=>rE))) fun h=>K0 (S0 (P0 [] c fun _ c=>I0 c h (fun h=>P0 [] c fun _ c=>rE) fun h=>K0 (S0 (P0 [] c fun _ c=>I0 c h (fun h=>P0 [] c fun _ c=>rE) fun h=>K0 (S0 (P0 [] c fun _ c=>I0 c h (fun h=>P0 [] c fun _ c=>rE) fun h=>K0 (P0 [] c fun _ c=>rE)))))))))
theorem Xo {p0 p1 r} (h:Z5 p0 p1 = some r):C0 39 [I p0,I p1] [] (I r):=by
 unfold Z5 at h
 refine En func39 rfl ntmps39 fun _ fr w c=>?_
 refine P0 [] c fun _ c=>S0 (T0 (Fp [] 1 c fun _ c=>Bd h fun x1 hx1 h=>Cb c (Z8 hx1) tt call36 fun _ _ _ c=>?_))
 refine Fp [] 1 c fun _ c=>Bd h fun x2 hx2 h=>Cb c (Z8 hx2) tt call36 fun _ _ _ c=>?_
 refine Bd h fun x3 hx3 h=>Cb c (YI hx3) tt call40 fun _ _ _ c=>?_
 refine Fp [] 1 c fun _ c=>E0 (P0 [] c fun _ c=>I0 c h (fun h=>P0 [] c fun _ c=>rE) fun h=>?_)
 refine K0 (T0 (Fp [] 2 c fun _ c=>Bd h fun x4 hx4 h=>Cb c (YI hx4) tt call40 fun _ _ _ c=>?_))
 exact Fp [] 1 c fun _ c=>E0 rE
theorem YH {p0 gn2 r} (h:Zi n p0 = some r):Con prog 41 [.slice ga0 gn2 gc1] [sl3 (.slice ga0 gn2 gc1) p0] [] fun (i:Oh)=>([L i.1 r i.2],[sl3 (L i.1 r i.2) r],[]):=by
 unfold Zi at h
 refine En func41 rfl ntmps41 fun _ fr w c=>?_
 obtain ⟨rfl,c⟩:=c.relen 0
 refine P0 [] c fun _ c=>S0 (P0 [] c fun _ c=>I0 c h (fun h=>?_) fun h=>?_)
 refine P0 [] c fun _ c=>?_
 obtain rfl:=sj h
 exact wp_ret (tr (Rt c (ga0,gc1) [0] []))
 refine K0 (S0 (P0 [] c fun _ c=>Bd h fun rl1 hit1 h=>?_))
 have hk1:=h
 refine LpR (fun s1  (_:Unit)=>([(0,L ga0 p0 gc1),(3,I s1)],id,[])) (fun s  (_:Unit)=>([(0,L ga0 p0 gc1)],id,[])) hit1 c () (c.rk [0] []) (fun s1 q1 _ _ _ c h hr1=>?_) fun s1r _ _ _ hrl c=>?_
 refine S0 (P0 [] c fun _ c=>I0 c h (fun h=>?_) fun h=>?_)
 refine K0 (S0 (wp_block (Bd h fun x1 hx1 h=>Bd h fun x2 hx2 h=>S0 (rZ [(2,Pd.el (x1:Int)),(3,.eq (I x1)),(7,Pd.el (x2:Int)),(8,.eq (I x2))] [] mix c ⟨Nid c (.g 0) (kN hx1),Nld c 2 (q:=x1) (atN 2),Nid c (.g 0) (kN hx2),Nld c 7 (q:=x2) (atN 7),tt⟩ fun _ _ c=>I0 c h (fun h=>?_) fun h=>?_))))
 cases h
 refine K1 (bk (tn (P1 [] c fun _ c=>Nx h () (c.rk [0] []))))
 refine wp_exit (te (te (be ?_)))
 obtain rfl:=hr1 _ (sk h)
 exact tn ⟨_,(),rfl,c.rk [0] []⟩
 subst hrl
 refine P0 [] c fun _ c=>?_
 obtain rfl:=sj h
 exact wp_ret (Rt c (ga0,gc1) [0] [])
theorem YV {p0 p1 r} (h:Z0 n p0 p1 = some r):C0 42 [L ga0 p0 gc1,I p1] [lR ga0 p0 gc1] (.bool r):=by
 unfold Z0 at h
 refine En func42 rfl ntmps42 fun _ fr w c=>?_
 refine P0 [] c fun _ c=>S0 (T0 (Fp [] 2 c fun _ c=>Bd h fun x1 hx1 h=>Cb c (Yr hx1) ⟨.f 0,tt⟩ call27 fun _ _ _ c=>?_))
 refine Fp [] 1 c fun _ c=>E0 (I0 c h (fun h=>P0 [] c fun _ c=>rE) fun h=>?_)
 refine K0 (S0 (P0 [] c fun _ c=>Bd h fun rl1 hit1 h=>?_))
 have hk1:=h
 refine LpR (fun s1  (_:Unit)=>([(0,L ga0 p0 gc1),(5,I s1)],id,[])) (fun s  (_:Unit)=>([],id,[])) hit1 c () (c.rk [] [0]) (fun s1 q1 _ _ _ c h hr1=>?_) fun s1r _ _ _ hrl c=>?_
 refine S0 (P0 [] c fun _ c=>I0 c h (fun h=>?_) fun h=>?_)
 refine K0 (S0 (wp_block (Bd h fun x2 hx2 h=>Bd h fun x3 hx3 h=>Bd h fun x4 hx4 h=>Bd h fun x5 hx5 h=>S0 (rZ [(3,Pd.el (x2:Int)),(4,.eq (I x2)),(5,.eq (I x3)),(8,Pd.el (x4:Int)),(9,.eq (I x4)),(10,.eq (I x5))] [] mix c ⟨Nid c (.f 0) (kN hx2),Nld c 3 (q:=x2) (atN 3),Ncl c (kN (Z8 hx3)) tt call36,Nid c (.f 0) (kN hx4),Nld c 8 (q:=x4) (atN 8),Ncl c (kN (Z8 hx5)) tt call36,tt⟩ fun _ _ c=>I0 c h (fun h=>?_) fun h=>?_))))
 refine P0 [] c fun _ c=>?_
 obtain rfl:=hr1 _ (sk h)
 obtain rfl:=sj hk1
 exact wp_ret (br (tr (tr (br (tr (Rt c () [] []))))))
 refine K1 (bk (tn (P1 [] c fun _ c=>Nx h () (c.rk [] [0]))))
 refine wp_exit (te (te (be ?_)))
 obtain rfl:=hr1 _ (sk h)
 exact tn ⟨_,(),rfl,c.rk [] [0]⟩
 subst hrl
 exact P0 [] c fun _ c=>rE
theorem ZC {p0 p1 p2 gn2 r} (h:Zb n p0 p1 p2 = some r):Con prog 55 [.slice ga0 gn2 gc1,I p1,I p2,.func (.func 39) #[] #[]] [sl3 (.slice ga0 gn2 gc1) p0] [] fun (_:Unit)=>([],[sl3 (.slice ga0 gn2 gc1) r],[]):=by
 unfold Zb at h
 refine En func55 rfl ntmps55 fun _ fr w c=>?_
 obtain ⟨rfl,c⟩:=c.relen 0
 refine P0 [] c fun _ c=>Bd h fun rl1 hit1 h=>Tq (Lp (fun s1  (_:Unit)=>([(0,L ga0 p0 gc1),(1,I p1),(2,I p2),(3,.func (.func 39) #[] #[]),(8,I s1.1)],fun Γ=>Γ.set 0 (sl3 (L ga0 p0 gc1) s1.2),[])) (fun  (_:Unit)=>([],fun Γ=>Γ.set 0 (sl3 (L ga0 p0 gc1) rl1),[])) hit1 c () (c.rk [0] []) (fun s1 q1 _ _ _ c h hr1=>?_) fun _ _ _ c=>?_)
 refine S0 (P0 [] c fun _ c=>I0 c h (fun h=>?_) fun h=>?_)
 refine K0 (S0 (wp_block (P0 [] c fun _ c=>Bd h fun rl2 hit2 h=>Tq (Lp (fun s2  (_:Unit)=>([(0,L ga0 p0 gc1),(1,I p1),(2,I p2),(3,.func (.func 39) #[] #[]),(8,I s1.1),(9,I s2.1)],fun Γ=>Γ.set 0 (sl3 (L ga0 p0 gc1) s2.2),[])) (fun  (_:Unit)=>([(0,L ga0 p0 gc1),(1,I p1),(2,I p2),(3,.func (.func 39) #[] #[]),(8,I s1.1)],fun Γ=>Γ.set 0 (sl3 (L ga0 p0 gc1) rl2),[])) hit2 c () (c.rk [0] []) (fun s2 q2 _ _ _ c h hr2=>?_) fun _ _ _ c=>?_))))
 refine S0 (Bd h fun x1 hx1 h=>Bd h fun x2 hx2 h=>Bd h fun x3 hx3 h=>S0 (rZ [(7,Pd.el (x1:Int)),(8,.eq (I x1)),(12,Pd.el (x2:Int)),(13,.eq (I x2)),(14,.eq (I x3))] [] mix c ⟨Nid c (.g 0) (gT hx1),Nld c 7 (q:=x1) (atN 7),Nid c (.g 0) (gT hx2),Nld c 12 (q:=x2) (atN 12),NclV c (fun hg=>Xo (iteT (gcT hg) hx3)) tt call39,tt⟩ fun _ _ c=>I0 c h (fun h=>?_) fun h=>?_))
 refine K0 (S0 (wp_block (Zbc mix ?_)))
 refine Rhs [2,3,4] c 15 ?_
 refine Bd h fun x4 hx4 h=>Bd h fun x5 hx5 h=>rM 14 [(8,Pd.el (x4:Int)),(9,.eq (I x4)),(12,Pd.el (x5:Int)),(13,.eq (I x5))] [] c (fun ow=>⟨ZaP ow (Nid c (.g 0) (kN hx4)),ZaP ow (Nld c 8 (q:=x4) (atM 8 (p:=.el (x4:Int)))),ZaP ow (Nid c (.g 0) (kN hx5)),ZaP ow (Nld c 12 (q:=x5) (atM 12 (p:=.el (x5:Int)))),tt⟩) fun _ _ _ _ _ c=>?_
 refine Bd h fun x6 hx6 h=>Eset 0 c hx6 fun _ _ _ c=>?_
 refine Bd h fun x7 hx7 h=>Eset 0 c hx7 fun _ _ _ c=>?_
 refine E1 (bk (tn (P1 [] c fun _ c=>Nx h () (c.rk [0] []))))
 refine wp_exit (te (te (be ?_)))
 obtain rfl:=hr2 _ (sk h)
 exact tn ⟨(),c.rk [0] []⟩
 refine bk (tn (P1 [] c fun _ c=>Nx h () (c.rk [0] [])))
 refine wp_exit (te (te (be ?_)))
 obtain rfl:=hr1 _ (sk h)
 exact tn ⟨(),c.rk [0] []⟩
 obtain rfl:=sj h
 exact (ZaO (Rg c () [0] [] .nil))
theorem ZI {p0 p1 p2 p3 gn2 r} (h:Zg n p0 p1 p2 p3 = some r):Con prog 47 [.slice ga0 gn2 gc1,I p1,I p2,I p3,.func (.func 39) #[] #[]] [sl3 (.slice ga0 gn2 gc1) p0] [] fun (_:Unit)=>([],[sl3 (.slice ga0 gn2 gc1) r],[]):=by
 unfold Zg at h
 refine En func47 rfl ntmps47 fun _ fr w c=>?_
 obtain ⟨rfl,c⟩:=c.relen 0
 refine P0 [] c fun _ c=>P0 [] c fun _ c=>Bd h fun rl1 hit1 h=>?_
 have hk1:=h
 refine Tq (LpR (fun s1  (_:Unit)=>([(0,L ga0 p0 gc1),(1,I s1.1),(2,I s1.2.1),(3,I s1.p2),(4,.func (.func 39) #[] #[]),(10,.bool s1.p3),(11,.bool s1.q4)],id,[])) (fun s  (_:Unit)=>([],id,[])) hit1 c () (c.rk [0] []) (fun s1 q1 _ _ _ c h hr1=>?_) fun s1r _ _ _ hrl c=>?_)
 refine wp_block (P0 [] c fun _ c=>S0 (P0 [] c fun _ c=>I0 c h (fun h=>?_) fun h=>?_))
 refine T0 (Fp [] 4 c fun _ c=>Bd h fun x1 hx1 h=>Ca [0] c (ZC hx1) tt call55 fun _ _ _ c=>?_)
 refine E0 ?_
 obtain rfl:=hr1 _ (sk h)
 obtain rfl:=sj hk1
 exact wp_ret (tr (br (tr (br (tr (Rg c () [0] [] .nil))))))
 refine K0 (S0 (P0 [] c fun _ c=>I0 c h (fun h=>?_) fun h=>?_))
 cases h
 refine K0 (S0 (P0 [] c fun _ c=>I0 c h (fun h=>?_) fun h=>?_))
 cases h
 cases h
 subst hrl
 obtain rfl:=sj h
 exact (ZaO (Rg c () [0] [] .nil))
theorem ZJ {p0 gn2 r} (h:Za n p0 = some r):Con prog 38 [.slice ga0 gn2 gc1,.func (.func 39) #[] #[]] [sl3 (.slice ga0 gn2 gc1) p0] [] fun (_:Unit)=>([],[sl3 (.slice ga0 gn2 gc1) r],[]):=by
 unfold Za at h
 refine En func38 rfl ntmps38 fun _ fr w c=>?_
 obtain ⟨rfl,c⟩:=c.relen 0
 refine P0 [] c fun _ c=>T1 (Fp [] 4 c fun _ c=>Bd h fun x1 hx1 h=>Cb c (Zap hx1) tt call48 fun _ _ _ c=>?_)
 refine Fp [] 1 c fun _ c=>Bd h fun x2 hx2 h=>Ca [0] c (ZI hx2) tt call47 fun _ _ _ c=>?_
 refine E1 ?_
 obtain rfl:=sj h
 exact (ZaO (Rg c () [0] [] .nil))
theorem XK {p0 r} (h:Zq n p0 = some r):Con prog 20 [L ga0 p0 gc1] [] [lR ga0 p0 gc1] fun (i:Oh)=>([L i.1 r.1 i.2,.bool r.2],[sl3 (L i.1 r.1 i.2) r.1],[]):=by
 unfold Zq at h
 refine En func20 rfl ntmps20 fun _ fr w c=>?_
 refine P0 [] c fun _ c=>S0 (T0 (Fp [] 1 c fun _ c=>Bd h fun x1 hx1 h=>Cb c (Yr hx1) ⟨.f 0,tt⟩ call27 fun _ _ _ c=>?_))
 refine Fp [] 1 c fun _ c=>E0 (I0 c h (fun h=>?_) fun h=>?_)
 refine P0 [] c fun _ c=>?_
 replace c:=c.nil (α:=Int) 3
 cases h
 exact wp_ret (tr (Rg c (none,0) [0] [] (.tmp (.tmp .nil))))
 refine K0 (T0 (Fp [] 1 c fun _ c=>Bd h fun x2 hx2 h=>Cb c (Ya hx2) ⟨.f 0,tt⟩ call37 fun i1 _ _ c=>?_))
 refine Fp [] 1 c fun _ c=>E0 (T0 (Fp [] 1 c fun _ c=>Bd h fun x3 hx3 h=>Ca [0] c (ZJ hx3) tt call38 fun _ _ _ c=>?_))
 refine E0 (T0 (Fp [] 1 c fun _ c=>Bd h fun x4 hx4 h=>Ca [0] c (YH hx4) tt call41 fun i2 _ _ c=>?_))
 refine Fp [] 1 c fun _ c=>E0 (S0 (T0 (Fp [] 1 c fun _ c=>Bd h fun x5 hx5 h=>Cb c (YV hx5) ⟨.g 0,tt⟩ call42 fun _ _ _ c=>?_)))
 refine Fp [] 1 c fun _ c=>E0 (I0 c h (fun h=>?_) fun h=>?_)
 refine P0 [] c fun _ c=>?_
 replace c:=c.nil (α:=Int) 3
 cases h
 exact wp_ret (tr (Rg c (none,0) [1] [] (.tmp (.tmp .nil))))
 refine K0 (P0 [] c fun _ c=>?_)
 cases h
 exact wp_ret (Rg c (i2.1,i2.2) [0] [] (.tmp (.tmp .nil)))
theorem Zab {p0 p1 r} (h:ZX n p0 p1 = some r):Con prog 6 [.agg #[I p0.Inputs,L ga0 p0.Gates gc1],I p1] [] [lR ga0 p0.Gates gc1] fun (i:Ob (List Hd))=>([.agg #[I r.1.Vars,L i.1 r.1.Clauses i.2.1],.bool r.2],[sl39 (L i.1 r.1.Clauses i.2.1) (i.q2)],[CS i.q2 r.1.Clauses]):=by
 unfold ZX at h
 refine En func6 rfl ntmps6 fun _ fr w c=>?_
 refine T0 (Ebx [I p0.Inputs,L ga0 p0.Gates gc1] c fun b1 _ _ c=>?_)
 refine Eal [I 0,L none ([]:List (List Int)) 0] c fun b2 _ _ c=>?_
 refine Fp [] 1 c fun _ c=>E0 (S0 (Bd h fun x1 hx1 h=>Bd h fun x2 hx2 h=>Bd h fun x3 hx3 h=>S0 (rZ [(1,.eq (.bool x1)),(6,.eq (I x2)),(7,.eq (.bool x3))] [(0,0),(5,0)] mix c ⟨Ncl c (kN (Zah hx1)) ⟨.f 0,tt⟩ call17,Ncl c (fun hg=>Xj (iteF (gcF hg) hx2)) ⟨.f 0,tt⟩ call19,Ncl c (fun hg=>ZU (iteF (gcF hg) hx3)) tt call18,tt⟩ fun _ _ c=>I0 c h (fun h=>?_) fun h=>?_)))
 refine T0 (Fp [] 1 c fun _ c=>Ess 1 [I 0,L none ([]:List (List Int)) 0] c fun _ c=>?_)
 refine Fp [] 1 c fun _ c=>E0 ?_
 replace c:=(c.nil (α:=Hd) 39).csn (ρ:=Hd) (α:=List Int)
 cases h
 exact wp_ret (tr (Rg c (none,0,([]:List Hd)) [2] [1] (.cell (α:=Agg 1) kk (.b 1) (.tmp .nil))))
 refine K0 (T0 (Fp [(0,0)] 1 c fun _ c=>Bd h fun x4 hx4 h=>Cb c (Xj hx4) ⟨.f 0,tt⟩ call19 fun _ _ _ c=>?_))
 refine Elt 3 ([1]:List Int) c fun a1 c1 _ _ c=>?_
 replace c:=c.fz 2
 refine Eltr 39 ([⟨a1,List.length ([1]:List Int),c1⟩]:List Hd) ([([1]:List Int)]:List (List Int)) c ⟨.f 1,tt⟩ fun a2 c2 _ _ c=>?_
 refine Fp [] 1 c fun _ c=>?_
 replace c:=c.nf
 refine Eal [I 0,L none ([]:List (List Int)) 0] c fun b3 _ _ c=>?_
 refine Ess 3 [I x4,L a2 ([([1]:List Int)]:List (List Int)) c2] c fun _ c=>?_
 refine E0 (S0 (P0 [(1,0)] c fun _ c=>Bd h fun rl1 hit1 h=>Lp (fun s1  (i:List Hd × Oh)=>([(1,I p1),(2,B b1 0),(4,B b2 0),(6,B b3 0),(31,L ga0 p0.Gates gc1),(32,I (len p0.Gates)),(33,I s1.1)],fun Γ=>(Γ.set 2 (sl39 (L i.2.1 s1.2 i.q2) (i.1))).set 3 (BX b3 30 [I x4,L i.2.1 s1.2 i.q2]),[CS (i.1) s1.2])) (fun  (i:List Hd × Oh)=>([(1,I p1),(4,B b2 0),(6,B b3 0)],fun Γ=>(Γ.set 2 (sl39 (L i.2.1 rl1 i.q2) (i.1))).set 3 (BX b3 30 [I x4,L i.2.1 rl1 i.q2]),[CS (i.1) rl1])) hit1 c (([⟨a1,List.length ([1]:List Int),c1⟩]:List Hd),a2,c2) (c.rk (rg 4) [0,1,2,2]) (fun s1 q1 i1 _ _ c h hr1=>?_) fun k1 _ _ c=>?_))
 refine P0 [] c fun _ c=>S0 (I0 c h (fun h=>?_) fun h=>?_)
 refine K0 (S0 (wp_block (T0 (Fp [] 1 c fun _ c=>Bd h fun x5 hx5 h=>Eel c (.f 0) hx5 fun _ _ c=>?_))))
 refine Eal [I 0,I 0] c fun b4 _ _ c=>?_
 refine Fp [] 1 c fun _ c=>Ess 4 [I x5.A,I x5.B] c fun _ c=>?_
 refine E0 (P0 [(1,0)] c fun _ c=>T0 (Fp [(3,3)] 4 c fun _ c=>Elt 3 ([(w64 (0 - (w64 ((w64 (2 + p0.Inputs)) + s1.1)))),x5.A]:List Int) c fun a3 c3 _ _ c=>?_))
 refine Fp [(8,3)] 4 c fun _ c=>?_
 replace c:=c.nf
 refine Elt 3 ([(w64 (0 - (w64 ((w64 (2 + p0.Inputs)) + s1.1)))),x5.B]:List Int) c fun a4 c4 _ _ c=>?_
 refine Fp [(12,3),(15,3)] 7 c fun _ c=>Elt 3 ([(w64 ((w64 (2 + p0.Inputs)) + s1.1)),(w64 (0 - x5.A)),(w64 (0 - x5.B))]:List Int) c fun a5 c5 _ _ c=>?_
 replace c:=c.fz 5
 replace c:=c.fz 5
 replace c:=c.fz 5
 refine Eltr 39 ([⟨a3,List.length ([(w64 (0 - (w64 ((w64 (2 + p0.Inputs)) + s1.1)))),x5.A]:List Int),c3⟩,⟨a4,List.length ([(w64 (0 - (w64 ((w64 (2 + p0.Inputs)) + s1.1)))),x5.B]:List Int),c4⟩,⟨a5,List.length ([(w64 ((w64 (2 + p0.Inputs)) + s1.1)),(w64 (0 - x5.A)),(w64 (0 - x5.B))]:List Int),c5⟩]:List Hd) ([([(w64 (0 - (w64 ((w64 (2 + p0.Inputs)) + s1.1)))),x5.A]:List Int),([(w64 (0 - (w64 ((w64 (2 + p0.Inputs)) + s1.1)))),x5.B]:List Int),([(w64 ((w64 (2 + p0.Inputs)) + s1.1)),(w64 (0 - x5.A)),(w64 (0 - x5.B))]:List Int)]:List (List Int)) c ⟨.f 4,.f 5,.f 6,tt⟩ fun a6 c6 _ _ c=>?_
 refine Fp [] 2 c fun _ c=>E0 (Bd h fun rl2 hit2 h=>Tq (Lp (fun s2  (i:List Hd × Oh)=>([(1,I p1),(2,B b1 0),(4,B b2 0),(6,B b3 0),(31,L ga0 p0.Gates gc1),(32,I (len p0.Gates)),(33,I s1.1),(61,L a6 ([([(w64 (0 - (w64 ((w64 (2 + p0.Inputs)) + s1.1)))),x5.A]:List Int),([(w64 (0 - (w64 ((w64 (2 + p0.Inputs)) + s1.1)))),x5.B]:List Int),([(w64 ((w64 (2 + p0.Inputs)) + s1.1)),(w64 (0 - x5.A)),(w64 (0 - x5.B))]:List Int)]:List (List Int)) c6),(62,I (len ([([(w64 (0 - (w64 ((w64 (2 + p0.Inputs)) + s1.1)))),x5.A]:List Int),([(w64 (0 - (w64 ((w64 (2 + p0.Inputs)) + s1.1)))),x5.B]:List Int),([(w64 ((w64 (2 + p0.Inputs)) + s1.1)),(w64 (0 - x5.A)),(w64 (0 - x5.B))]:List Int)]:List (List Int)))),(63,I s2.1)],fun Γ=>(Γ.set 2 (sl39 (L i.2.1 s2.2 i.q2) (i.1))).set 3 (BX b3 30 [I x4,L i.2.1 s2.2 i.q2]),[CS (i.1) s2.2])) (fun  (i:List Hd × Oh)=>([(1,I p1),(2,B b1 0),(4,B b2 0),(6,B b3 0),(31,L ga0 p0.Gates gc1),(32,I (len p0.Gates)),(33,I s1.1)],fun Γ=>(Γ.set 2 (sl39 (L i.2.1 rl2 i.q2) (i.1))).set 3 (BX b3 30 [I x4,L i.2.1 rl2 i.q2]),[CS (i.1) rl2])) hit2 c (i1.1,i1.2.1,i1.q2) (c.rk (rg 6) [0,1,2,3,4,5,6,7,3]) (fun s2 q2 i2 _ _ c h hr2=>?_) fun k2 _ _ c=>?_))
 refine P0 [] c fun _ c=>S0 (I0 c h (fun h=>?_) fun h=>?_)
 refine K0 (S0 (wp_block (T0 ?_)))
 replace c:=c.nf
 refine Bd h fun x6 hx6 h=>Eemr 5 7 c hx6 fun _ u1 _ c=>?_
 obtain ⟨a7,c7,rfl⟩:=c.sl 9
 refine Fp [] 1 c fun _ c=>E0 (T0 (Fp [] 1 c fun _ c=>Bd h fun x7 hx7 h=>Cb c (XK hx7) ⟨.f 9,tt⟩ call20 fun i3 _ _ c=>?_))
 refine Fp [] 5 c fun _ c=>E0 (T1 (Fp [(1,2)] 3 c fun _ c=>?_))
 replace c:=c.fz 6
 refine Eltr 39 ([(hd i3.1 x7.1 i3.2)]:List Hd) ([x7.1]:List (List Int)) c ⟨.f 10,tt⟩ fun a8 c8 _ _ c=>?_
 replace c:=c.nf
 replace c:=c.fzr 6 11
 refine Bd h fun x8 hx8 h=>Eapr 2 8 c (.f 12) hx8 fun rm1 a9 c9 _ _ c=>?_
 refine Fp [] 1 c fun _ c=>Esb 3 1 (L a9 x8 c9) c fun _ c=>?_
 refine E1 (bk (tn (P1 [] c fun _ c=>Nx h ((i2.1 ++ rm1),a9,c9) (c.rk (rg 6) [0,1,2,3,4,5,6,7,13]))))
 refine wp_exit (te (te (be ?_)))
 obtain rfl:=hr2 _ (sk h)
 exact tn ⟨(i2.1,i2.2.1,i2.q2),c.rk (rg 6) (rg 9)⟩
 refine bk (tn (P1 [] c fun _ c=>Nx h (k2.1,k2.2.1,k2.q2) (c.rk (rg 4) [0,1,2,8])))
 refine wp_exit (te (te (be ?_)))
 obtain rfl:=hr1 _ (sk h)
 exact tn ⟨(i1.1,i1.2.1,i1.q2),c.rk (rg 4) (rg 4)⟩
 refine T0 (Fp [(1,2)] 3 c fun _ c=>Elt 3 ([p1]:List Int) c fun a10 c10 _ _ c=>?_)
 replace c:=c.fz 4
 refine Eltr 39 ([⟨a10,List.length ([p1]:List Int),c10⟩]:List Hd) ([([p1]:List Int)]:List (List Int)) c ⟨.f 4,tt⟩ fun a11 c11 _ _ c=>?_
 replace c:=c.fzr 4 5
 refine Bd h fun x9 hx9 h=>Eapr 2 3 c (.f 6) hx9 fun rm2 a12 c12 _ _ c=>?_
 refine Fp [] 1 c fun _ c=>?_
 replace c:=c.nf
 refine Esb 3 1 (L a12 x9 c12) c fun _ c=>?_
 refine E0 (T0 (Fp [(0,2)] 1 c fun _ c=>Ess 1 [I x4,L a12 x9 c12] c fun _ c=>?_))
 refine Fp [] 1 c fun _ c=>E0 ?_
 cases h
 exact wp_ret (Rg c (a12,c12,(k1.1 ++ rm2)) [2] [7] (.cell (α:=Agg 1) kk (.b 1) (.tmp .nil)))
theorem Yn {p0 p1 p2 r} (h:ZE p0 p1 p2 = some r):C0 21 [I p0,I p1,I p2] [] (.bool r):=by
 unfold ZE at h
 refine En func21 rfl ntmps21 fun _ fr w c=>?_
 refine P0 [] c fun _ c=>S0 (Ry [] mix c fun _ _ c=>?_)
 exact rE
theorem XO {p0 p1 r} (h:ZY n p0 p1 = some r):C0 22 [L ga0 p0 gc1,I p1] [lR ga0 p0 gc1] (.bool r):=by
 unfold ZY at h
 refine En func22 rfl ntmps22 fun _ fr w c=>?_
 refine P0 [] c fun _ c=>P0 [] c fun _ c=>S0 (P0 [] c fun _ c=>Bd h fun rl1 hit1 h=>?_)
 have hk1:=h
 refine LpR (fun s1  (_:Unit)=>([(1,I p1),(5,I s1.1),(8,L ga0 p0 gc1),(9,I (len p0)),(10,I s1.2)],id,[])) (fun s  (_:Unit)=>([],id,[])) hit1 c () (c.rk [] [0]) (fun s1 q1 _ _ _ c h hr1=>?_) fun s1r _ _ _ hrl c=>?_
 refine P0 [] c fun _ c=>S0 (I0 c h (fun h=>?_) fun h=>?_)
 refine K0 (S0 (wp_block (T0 (Bd h fun x1 hx1 h=>Eel c (.f 0) hx1 fun _ _ c=>?_))))
 refine Fp [] 1 c fun _ c=>E0 (S0 (Bd h fun x2 hx2 h=>Bd h fun x3 hx3 h=>S0 (rZ [(4,.eq (.bool x2)),(8,.eq (I x3))] [] mix c ⟨Ncl c (kN (Yn hx2)) tt call21,Ncl c (fun hg=>ZA (iteF (gcF hg) hx3)) tt call43,tt⟩ fun _ _ c=>I0 c h (fun h=>?_) fun h=>?_)))
 refine P0 [] c fun _ c=>?_
 obtain rfl:=hr1 _ (sk h)
 obtain rfl:=sj hk1
 exact wp_ret (tr (br (tr (tr (br (tr (Rt c () [] [])))))))
 refine K0 (T1 (Fp [] 1 c fun _ c=>Bd h fun x4 hx4 h=>Cb c (ZA hx4) tt call43 fun _ _ _ c=>?_))
 refine Fp [] 1 c fun _ c=>E1 (bk (tn (P1 [] c fun _ c=>Nx h () (c.rk [] [0]))))
 refine wp_exit (te (te (be ?_)))
 obtain rfl:=hr1 _ (sk h)
 exact tn ⟨_,(),rfl,c.rk [] [0]⟩
 subst hrl
 exact P0 [] c fun _ c=>rE
theorem XV {p0 r} (h:ZL n p0 = some r):C0 7 [.agg #[I p0.Vars,L ga0 p0.Clauses gc1]] [lR ga0 p0.Clauses gc1] (.bool r):=by
 unfold ZL at h
 refine En func7 rfl ntmps7 fun _ fr w c=>?_
 refine T0 (Ebx [I p0.Vars,L ga0 p0.Clauses gc1] c fun b1 _ _ c=>?_)
 refine Fp [] 1 c fun _ c=>E0 (S0 (Bd h fun x1 hx1 h=>S0 (rZ [(2,.eq (.bool x1))] [(1,0),(6,0)] mix c ⟨Ncl c (kN (Yn hx1)) tt call21,tt⟩ fun _ _ c=>I0 c h (fun h=>?_) fun h=>?_)))
 exact P0 [] c fun _ c=>rE
 refine K0 (S0 (P0 [(1,0)] c fun _ c=>Bd h fun rl1 hit1 h=>?_))
 have hk1:=h
 refine LpR (fun s1  (_:Unit)=>([(1,B b1 0),(16,L ga0 p0.Clauses gc1),(17,I (len p0.Clauses)),(18,I s1)],id,[])) (fun s  (_:Unit)=>([],id,[])) hit1 c () (c.rk [0] [0]) (fun s1 q1 _ _ _ c h hr1=>?_) fun s1r _ _ _ hrl c=>?_
 refine P0 [] c fun _ c=>S0 (I0 c h (fun h=>?_) fun h=>?_)
 refine K0 (S0 (wp_block (T0 (Bd h fun x2 hx2 h=>Eem c (.f 0) hx2 fun _ u1 _ c=>?_))))
 obtain ⟨a1,c1,rfl⟩:=c.sl 1
 refine Fp [] 1 c fun _ c=>E0 (T0 (Fp [(2,0)] 3 c fun _ c=>Bd h fun x3 hx3 h=>Cb c (XO hx3) ⟨.f 1,tt⟩ call22 fun _ _ _ c=>?_))
 refine Fp [] 1 c fun _ c=>E0 (I0 c h (fun h=>?_) fun h=>?_)
 refine P0 [] c fun _ c=>?_
 obtain rfl:=hr1 _ (sk h)
 obtain rfl:=sj hk1
 exact wp_ret (br (tr (tr (br (tr (Rt c () [] []))))))
 refine K1 (bk (tn (P1 [] c fun _ c=>Nx h () (c.rk [0] [0]))))
 refine wp_exit (te (te (be ?_)))
 obtain rfl:=hr1 _ (sk h)
 exact tn ⟨_,(),rfl,c.rk [0] [0]⟩
 subst hrl
 exact P0 [] c fun _ c=>rE
theorem ZaZ {p0 p1 r} (h:Y4 n p0 p1 = some r):Con prog 9 [I p0,I p1] [] [] fun (i:Oh)=>([L i.1 r i.2],[sl4 (L i.1 r i.2) r],[]):=by
 unfold Y4 at h
 refine En func9 rfl ntmps9 fun _ fr w c=>?_
 refine P0 [] c fun _ c=>T0 (Elt 4 ([]:List Bool) c fun a1 c1 _ _ c=>?_)
 refine Fp [] 1 c fun _ c=>E0 (S0 (P0 [] c fun _ c=>Bd h fun rl1 hit1 h=>Lp (fun s1  (i:Oh)=>([(0,I p0),(1,I p1),(5,L i.1 s1.2 i.2),(6,I s1.1)],fun Γ=>Γ.set 0 (sl4 (L i.1 s1.2 i.2) s1.2),[])) (fun  (i:Oh)=>([(5,L i.1 rl1 i.2)],fun Γ=>Γ.set 0 (sl4 (L i.1 rl1 i.2) rl1),[])) hit1 c (a1,c1) (c.rk [0] []) (fun s1 q1 i1 _ _ c h hr1=>?_) fun k1 _ _ c=>?_))
 refine S0 (P0 [] c fun _ c=>I0 c h (fun h=>?_) fun h=>?_)
 refine K0 (S0 (wp_block (T1 (Fp [] 3 c fun _ c=>Bd h fun x1 hx1 h=>Eshr c hx1 fun _ c=>?_))))
 refine Fp [] 2 c fun _ c=>Elt 4 ([((band x1 1) == 1)]:List Bool) c fun a2 c2 _ _ c=>?_
 refine Bd h fun x2 hx2 h=>Eap 0 c (.g 1) hx2 fun a3 c3 _ _ c=>?_
 refine Fp [] 1 c fun _ c=>E1 (bk (tn (P1 [] c fun _ c=>Nx h (a3,c3) (c.rk [0] []))))
 refine wp_exit (te (te (be ?_)))
 obtain rfl:=hr1 _ (sk h)
 exact tn ⟨(i1.1,i1.2),c.rk [0] []⟩
 refine P0 [] c fun _ c=>?_
 obtain rfl:=sj h
 exact wp_ret (Rt c (k1.1,k1.2) [0] [])
theorem Zal {p0 r} (h:ZZ n p0 = some r):C0 23 [.agg #[I p0.Inputs,L ga0 p0.Gates gc1]] [lR ga0 p0.Gates gc1] (.bool r):=by
 unfold ZZ at h
 refine En func23 rfl ntmps23 fun _ fr w c=>?_
 refine T0 (Ebx [I p0.Inputs,L ga0 p0.Gates gc1] c fun b1 _ _ c=>?_)
 refine Fp [] 1 c fun _ c=>E0 (S0 (Bd h fun x1 hx1 h=>S0 (rZ [(2,.eq (.bool x1))] [(1,0),(6,0)] mix c ⟨Ncl c (kN (Yn hx1)) tt call21,tt⟩ fun _ _ c=>I0 c h (fun h=>?_) fun h=>?_)))
 exact P0 [] c fun _ c=>rE
 refine K0 (S0 (P0 [(1,0)] c fun _ c=>Bd h fun rl1 hit1 h=>?_))
 have hk1:=h
 refine LpR (fun s1  (_:Unit)=>([(1,B b1 0),(19,L ga0 p0.Gates gc1),(20,I (len p0.Gates)),(21,I s1)],id,[])) (fun s  (_:Unit)=>([],id,[])) hit1 c () (c.rk [0] [0]) (fun s1 q1 _ _ _ c h hr1=>?_) fun s1r _ _ _ hrl c=>?_
 refine P0 [] c fun _ c=>S0 (I0 c h (fun h=>?_) fun h=>?_)
 refine K0 (S0 (wp_block (T0 (Fp [] 1 c fun _ c=>Bd h fun x2 hx2 h=>Eel c (.f 0) hx2 fun _ _ c=>?_))))
 refine Eal [I 0,I 0] c fun b2 _ _ c=>?_
 refine Fp [] 1 c fun _ c=>Ess 1 [I x2.A,I x2.B] c fun _ c=>?_
 refine E0 (P0 [(1,0)] c fun _ c=>S0 (Bd h fun x3 hx3 h=>Bd h fun x4 hx4 h=>Bd h fun x5 hx5 h=>Bd h fun x6 hx6 h=>Bd h fun x7 hx7 h=>S0 (rZ [(5,.eq (.bool x3)),(13,.eq (.bool x4)),(19,.eq (I x5)),(25,.eq (I x6)),(28,.eq (I x7))] [(1,1),(9,1),(18,1),(24,1),(27,1)] mix c ⟨Ncl c (kN (Yn hx3)) tt call21,Ncl c (fun hg=>Yn (iteF (gcF hg) hx4)) tt call21,Ncl c (fun hg=>ZA (iteF (gcF hg) hx5)) tt call43,Ncl c (fun hg=>ZA (iteF (gcF hg) hx6)) tt call43,Ncl c (fun hg=>ZA (iteF (gcF hg) hx7)) tt call43,tt⟩ fun _ _ c=>I0 c h (fun h=>?_) fun h=>?_)))
 refine P0 [] c fun _ c=>?_
 obtain rfl:=hr1 _ (sk h)
 obtain rfl:=sj hk1
 exact wp_ret (tr (br (tr (tr (br (tr (Rt c () [] [])))))))
 refine K0 (T0 (Fp [(1,0)] 3 c fun _ c=>Bd h fun x8 hx8 h=>Esl 52 c (.f 0) hx8 fun u1 _ c=>?_))
 obtain ⟨a1,c1,rfl⟩:=c.sl 1
 refine Fp [] 2 c fun _ c=>E0 (Bd h fun rl2 hit2 h=>?_)
 have hk2:=h
 refine Tq (LpR (fun s2  (_:Unit)=>([(1,B b1 0),(4,B b2 0),(19,L ga0 p0.Gates gc1),(20,I (len p0.Gates)),(21,I s1),(65,L a1 x8 c1),(66,I (len x8)),(67,I s2)],id,[])) (fun s  (_:Unit)=>([(1,B b1 0),(19,L ga0 p0.Gates gc1),(20,I (len p0.Gates)),(21,I s1)],id,[])) hit2 c () (c.rk [0,1] [0,1]) (fun s2 q2 _ _ _ c h hr2=>?_) fun s2r _ _ _ hrl c=>?_)
 refine P0 [] c fun _ c=>S0 (I0 c h (fun h=>?_) fun h=>?_)
 refine K0 (S0 (wp_block (T0 (Bd h fun x9 hx9 h=>Eel c (.f 1) hx9 fun _ _ c=>?_))))
 refine Eal [I 0,I 0] c fun b3 _ _ c=>?_
 refine Ess 2 [I x9.A,I x9.B] c fun _ c=>?_
 refine E0 (T0 (Fp [(0,1),(1,2)] 2 c fun _ c=>?_))
 replace c:=c.nf
 refine Ebin c (eqg52 _ _ _ _ _) (eq52 x2 x9 _) fun _ c=>?_
 refine E0 (I0 c h (fun h=>?_) fun h=>?_)
 refine P0 [] c fun _ c=>?_
 obtain rfl:=hr2 _ (sk h)
 obtain rfl:=hr1 _ (sk hk2)
 obtain rfl:=sj hk1
 exact wp_ret (br (tr (tr (br (tr (br (tr (tr (br (tr (Rt c () [] [])))))))))))
 refine K1 (bk (tn (P1 [] c fun _ c=>Nx h () (c.rk [0,1] [0,1]))))
 refine wp_exit (te (te (be ?_)))
 obtain rfl:=hr2 _ (sk h)
 exact tn ⟨_,(),rfl,c.rk [0,1] [0,1]⟩
 subst hrl
 refine bk (tn (P1 [] c fun _ c=>Nx h () (c.rk [0] [0])))
 refine wp_exit (te (te (be ?_)))
 obtain rfl:=hr1 _ (sk h)
 exact tn ⟨_,(),rfl,c.rk [0] [0]⟩
 subst hrl
 exact P0 [] c fun _ c=>rE
theorem Xh {p0 p1 r} (h:Yh p0 p1 = some r):C0 24 [L ga0 p0 gc1,I p1] [lR ga0 p0 gc1] (.bool r):=by
 unfold Yh at h
 refine En func24 rfl ntmps24 fun _ fr w c=>?_
 refine P0 [] c fun _ c=>T0 (Fp [] 2 c fun _ c=>Bd h fun x1 hx1 h=>Cb c (ZA hx1) tt call43 fun _ _ _ c=>?_)
 refine Fp [] 1 c fun _ c=>Bd h fun x2 hx2 h=>Eel c (.f 0) hx2 fun _ _ c=>?_
 exact Fp [] 4 c fun _ c=>E0 rE
theorem X6 {p0 p1 r} (h:Z7 n p0 p1 = some r):Con prog 8 [.agg #[I p0.Inputs,L ga0 p0.Gates gc1],L ga2 p1 gc3] [] [lR ga0 p0.Gates gc1,lR ga2 p1 gc3] fun (i:Oh)=>([L i.1 r i.2],[sl4 (L i.1 r i.2) r],[]):=by
 unfold Z7 at h
 refine En func8 rfl ntmps8 fun _ fr w c=>?_
 refine T0 (Ebx [I p0.Inputs,L ga0 p0.Gates gc1] c fun b1 _ _ c=>?_)
 refine Fp [] 1 c fun _ c=>E0 (S0 (Bd h fun x1 hx1 h=>S0 (rZ [(1,.eq (.bool x1))] [(0,0),(7,0)] mix c ⟨Ncl c (kN (Zal hx1)) ⟨.f 0,tt⟩ call23,tt⟩ fun _ _ c=>I0 c h (fun h=>?_) fun h=>?_)))
 refine P0 [] c fun _ c=>?_
 replace c:=c.nil (α:=Bool) 4
 cases h
 exact wp_ret (tr (Rt c (none,0) [1] []))
 refine K0 (T0 (Elt 4 ([true]:List Bool) c fun a1 c1 _ _ c=>?_))
 refine Fp [] 1 c fun _ c=>Bd h fun x2 hx2 h=>Eap 1 c (.f 1) hx2 fun a2 c2 _ _ c=>?_
 refine Fp [] 1 c fun _ c=>E0 (S0 (P0 [(1,0)] c fun _ c=>Bd h fun rl1 hit1 h=>Lp (fun s1  (i:Oh)=>([(5,L i.1 s1.2 i.2),(22,L ga0 p0.Gates gc1),(23,I (len p0.Gates)),(24,I s1.1)],fun Γ=>Γ.set 1 (sl4 (L i.1 s1.2 i.2) s1.2),[])) (fun  (i:Oh)=>([(5,L i.1 rl1 i.2)],fun Γ=>Γ.set 1 (sl4 (L i.1 rl1 i.2) rl1),[])) hit1 c (a2,c2) (c.rk [0,1] [0,1]) (fun s1 q1 i1 _ _ c h hr1=>?_) fun k1 _ _ c=>?_))
 refine P0 [] c fun _ c=>S0 (I0 c h (fun h=>?_) fun h=>?_)
 refine K0 (S0 (wp_block (T0 (Bd h fun x3 hx3 h=>Eel c (.f 0) hx3 fun _ _ c=>?_))))
 refine Eal [I 0,I 0] c fun b2 _ _ c=>?_
 refine Ess 2 [I x3.A,I x3.B] c fun _ c=>?_
 refine E0 (T1 (Fp [] 1 c fun _ c=>Fp [] 1 c fun _ c=>Fp [] 1 c fun _ c=>Fp [(3,1)] 1 c fun _ c=>?_))
 replace c:=c.nf
 refine Bd h fun x4 hx4 h=>Cb c (Xh hx4) ⟨.g 1,tt⟩ call24 fun _ _ _ c=>?_
 refine Fp [] 1 c fun _ c=>?_
 rcases Zba (b:=x4) h with ⟨hg1,h⟩ | ⟨hg1,h⟩
 replace c:=c.eqs (v:=.bool x4) (u:=.bool true) 33 (by rw [hg1])
 refine Gt c ?_
 dsimp only [List.set]
 refine Fp [] 1 c fun _ c=>Gt c ?_
 dsimp only [List.set]
 refine Fp [] 1 c fun _ c=>Gt c ?_
 dsimp only [List.set]
 refine Fp [(8,1)] 1 c fun _ c=>Gt c ?_
 dsimp only [List.set]
 refine Bd h fun x5 hx5 h=>Cb c (Xh hx5) ⟨.g 1,tt⟩ call24 fun _ _ _ c=>?_
 refine Epk (b:=true) (v:=.bool x5) c fun _ c=>Elt 4 ([x5]:List Bool) c fun a3 c3 _ _ c=>?_
 refine Bd h fun x6 hx6 h=>Eap 1 c (.g 3) hx6 fun a4 c4 _ _ c=>?_
 refine Fp [] 1 c fun _ c=>E1 (bk (tn (P1 [] c fun _ c=>Nx h (a4,c4) (c.rk [0,1] [0,1]))))
 replace c:=c.eqs (v:=.bool x4) (u:=.bool false) 33 (by rw [hg1])
 refine Gs c fun _ c=>Gs c fun _ c=>Gs c fun _ c=>Gs c fun _ c=>Epk (b:=false) (v:=.bool false) c fun _ c=>Elt 4 ([false]:List Bool) c fun a5 c5 _ _ c=>?_
 refine Bd h fun x7 hx7 h=>Eap 1 c (.g 3) hx7 fun a6 c6 _ _ c=>?_
 refine Fp [] 1 c fun _ c=>E1 (bk (tn (P1 [] c fun _ c=>Nx h (a6,c6) (c.rk [0,1] [0,1]))))
 refine wp_exit (te (te (be ?_)))
 obtain rfl:=hr1 _ (sk h)
 exact tn ⟨(i1.1,i1.2),c.rk [0,1] [0,1]⟩
 refine P0 [] c fun _ c=>?_
 obtain rfl:=sj h
 exact wp_ret (Rt c (k1.1,k1.2) [1] [])
theorem Y1 {p0 r} (h:Zv n p0 = some r):C0 25 [.agg #[I p0.Vars,L ga0 p0.Clauses gc1]] [lR ga0 p0.Clauses gc1] (.bool r):=by
 unfold Zv at h
 refine En func25 rfl ntmps25 fun _ fr w c=>?_
 refine T0 (Ebx [I p0.Vars,L ga0 p0.Clauses gc1] c fun b1 _ _ c=>?_)
 refine Fp [] 1 c fun _ c=>E0 (S0 (S0 (Ry [(1,0),(5,0),(10,0)] mix c fun _ _ c=>I0 c h (fun h=>?_) fun h=>?_)))
 exact P0 [] c fun _ c=>rE
 refine K0 (S0 (P0 [(1,0)] c fun _ c=>Bd h fun rl1 hit1 h=>?_))
 have hk1:=h
 refine LpR (fun s1  (_:Unit)=>([(1,B b1 0),(20,L ga0 p0.Clauses gc1),(21,I (len p0.Clauses)),(22,I s1)],id,[])) (fun s  (_:Unit)=>([],id,[])) hit1 c () (c.rk [0] [0]) (fun s1 q1 _ _ _ c h hr1=>?_) fun s1r _ _ _ hrl c=>?_
 refine P0 [] c fun _ c=>S0 (I0 c h (fun h=>?_) fun h=>?_)
 refine K0 (S0 (wp_block (T0 (Bd h fun x1 hx1 h=>Eem c (.f 0) hx1 fun _ u1 _ c=>?_))))
 obtain ⟨a1,c1,rfl⟩:=c.sl 1
 refine Fp [] 1 c fun _ c=>E0 (T0 (Fp [(2,0)] 3 c fun _ c=>Bd h fun x2 hx2 h=>Cb c (YV hx2) ⟨.f 1,tt⟩ call42 fun _ _ _ c=>?_))
 refine Fp [] 1 c fun _ c=>E0 (I0 c h (fun h=>?_) fun h=>?_)
 refine P0 [] c fun _ c=>?_
 obtain rfl:=hr1 _ (sk h)
 obtain rfl:=sj hk1
 exact wp_ret (br (tr (tr (br (tr (Rt c () [] []))))))
 refine K1 (bk (tn (P1 [] c fun _ c=>Nx h () (c.rk [0] [0]))))
 refine wp_exit (te (te (be ?_)))
 obtain rfl:=hr1 _ (sk h)
 exact tn ⟨_,(),rfl,c.rk [0] [0]⟩
 subst hrl
 exact P0 [] c fun _ c=>rE
theorem Xg {p0 p1 r} (h:ZP n p0 p1 = some r):C0 26 [.agg #[I p0.Vars,L ga0 p0.Clauses gc1],L ga2 p1 gc3] [lR ga0 p0.Clauses gc1,lR ga2 p1 gc3] (.bool r):=by
 unfold ZP at h
 refine En func26 rfl ntmps26 fun _ fr w c=>?_
 refine T0 (Ebx [I p0.Vars,L ga0 p0.Clauses gc1] c fun b1 _ _ c=>?_)
 refine Fp [] 1 c fun _ c=>E0 (S0 (P0 [(1,0)] c fun _ c=>Bd h fun rl1 hit1 h=>?_))
 have hk1:=h
 refine LpR (fun s1  (_:Unit)=>([(1,L ga2 p1 gc3),(11,L ga0 p0.Clauses gc1),(12,I (len p0.Clauses)),(13,I s1)],id,[])) (fun s  (_:Unit)=>([],id,[])) hit1 c () (c.rk [0] [0,1]) (fun s1 q1 _ _ _ c h hr1=>?_) fun s1r _ _ _ hrl c=>?_
 refine P0 [] c fun _ c=>S0 (I0 c h (fun h=>?_) fun h=>?_)
 refine K0 (S0 (wp_block (T0 (Bd h fun x1 hx1 h=>Eem c (.f 0) hx1 fun _ u1 _ c=>?_))))
 obtain ⟨a1,c1,rfl⟩:=c.sl 2
 refine Fp [] 1 c fun _ c=>E0 (P0 [] c fun _ c=>S0 (P0 [] c fun _ c=>Bd h fun rl2 hit2 h=>Lp (fun s2  (_:Unit)=>([(1,L ga2 p1 gc3),(7,.bool s2.1),(11,L ga0 p0.Clauses gc1),(12,I (len p0.Clauses)),(13,I s1),(17,L a1 x1 c1),(18,I (len x1)),(19,I s2.2)],id,[])) (fun  (_:Unit)=>([(1,L ga2 p1 gc3),(7,.bool rl2),(11,L ga0 p0.Clauses gc1),(12,I (len p0.Clauses)),(13,I s1)],id,[])) hit2 c () (c.rk [0] [0,1,2]) (fun s2 q2 _ _ _ c h hr2=>?_) fun _ _ _ c=>?_))
 refine P0 [] c fun _ c=>S0 (I0 c h (fun h=>?_) fun h=>?_)
 refine K0 (S0 (wp_block (T0 (Bd h fun x2 hx2 h=>Eel c (.f 2) hx2 fun _ _ c=>?_))))
 refine Fp [] 1 c fun _ c=>E0 (T0 (Fp [] 2 c fun _ c=>Bd h fun x3 hx3 h=>Cb c (Z8 hx3) tt call36 fun _ _ _ c=>?_))
 refine Fp [] 1 c fun _ c=>Bd h fun x4 hx4 h=>Eel c (.f 1) hx4 fun _ _ c=>?_
 refine Fp [] 3 c fun _ c=>E0 (I0 c h (fun h=>?_) fun h=>?_)
 refine P0 [] c fun _ c=>wp_exit (bn (te (te (be ?_))))
 obtain rfl:=hr2 _ (sk h)
 exact tn ⟨(),c.rk [0] [0,1,2]⟩
 refine K1 (bk (tn (P1 [] c fun _ c=>Nx h () (c.rk [0] [0,1,2]))))
 refine wp_exit (te (te (be ?_)))
 obtain rfl:=hr2 _ (sk h)
 exact tn ⟨(),c.rk [0] [0,1,2]⟩
 refine P0 [] c fun _ c=>I0 c h (fun h=>?_) fun h=>?_
 refine P0 [] c fun _ c=>?_
 obtain rfl:=hr1 _ (sk h)
 obtain rfl:=sj hk1
 exact wp_ret (br (tr (tr (br (tr (Rt c () [] []))))))
 refine K1 (bk (tn (P1 [] c fun _ c=>Nx h () (c.rk [0] [0,1]))))
 refine wp_exit (te (te (be ?_)))
 obtain rfl:=hr1 _ (sk h)
 exact tn ⟨_,(),rfl,c.rk [0] [0,1]⟩
 subst hrl
 exact P0 [] c fun _ c=>rE
theorem X9 {p0 p1 r} (h:ZH n p0 p1 = some r):C0 10 [.agg #[I p0.Vars,L ga0 p0.Clauses gc1],L ga2 p1 gc3] [lR ga0 p0.Clauses gc1,lR ga2 p1 gc3] (.bool r):=by
 unfold ZH at h
 refine En func10 rfl ntmps10 fun _ fr w c=>?_
 refine T0 (Ebx [I p0.Vars,L ga0 p0.Clauses gc1] c fun b1 _ _ c=>?_)
 refine Fp [] 1 c fun _ c=>E0 (S0 (Bd h fun x1 hx1 h=>S0 (rZ [(1,.eq (.bool x1))] [(0,0),(7,0)] mix c ⟨Ncl c (kN (Y1 hx1)) ⟨.f 0,tt⟩ call25,tt⟩ fun _ _ c=>I0 c h (fun h=>?_) fun h=>?_)))
 exact P0 [] c fun _ c=>rE
 refine K0 (T0 (Fp [(0,0)] 2 c fun _ c=>Bd h fun x2 hx2 h=>Cb c (Xg hx2) ⟨.f 0,.f 1,tt⟩ call26 fun _ _ _ c=>?_))
 exact Fp [] 1 c fun _ c=>E0 rE
theorem XX {p0 p1 r} (h:Yg n p0 p1 = some r):C0 11 [L ga0 p0 gc1,L ga2 p1 gc3] [lR ga0 p0 gc1,lR ga2 p1 gc3] (I r):=by
 unfold Yg at h
 refine En func11 rfl ntmps11 fun _ fr w c=>?_
 refine P0 [] c fun _ c=>P0 [] c fun _ c=>S0 (P0 [] c fun _ c=>Bd h fun rl1 hit1 h=>?_)
 have hk1:=h
 refine LpR (fun s1  (_:Unit)=>([(0,L ga0 p0 gc1),(5,I s1.1),(9,L ga2 p1 gc3),(10,I (len p1)),(11,I s1.2)],id,[])) (fun s  (_:Unit)=>([(5,I s)],id,[])) hit1 c () (c.rk [] [0,1]) (fun s1 q1 _ _ _ c h hr1=>?_) fun s1r _ _ _ hrl c=>?_
 refine P0 [] c fun _ c=>S0 (I0 c h (fun h=>?_) fun h=>?_)
 refine K0 (S0 (wp_block (T0 (Fp [] 1 c fun _ c=>Bd h fun x1 hx1 h=>Eel c (.f 1) hx1 fun _ _ c=>?_))))
 refine Fp [] 2 c fun _ c=>E0 (P0 [] c fun _ c=>S0 (P0 [] c fun _ c=>Mp (decide (x1 < 0)) [(8,I (w64 (0 - x1)))] [(8,I x1)] [(8,I (cond (decide (x1 < 0)) (w64 (0 - x1)) x1))] [8,19,20] c fun _ c=>S0 (S0 (Ry [] mix c fun _ _ c=>I0 c h (fun h=>?_) fun h=>?_))))
 refine P0 [] c fun _ c=>?_
 obtain rfl:=hr1 _ (sk h)
 obtain rfl:=sj hk1
 exact wp_ret (tr (br (tr (tr (br (tr (Rt c () [] [])))))))
 refine K0 (T0 (Fp [] 3 c fun _ c=>Bd h fun x2 hx2 h=>Eel c (.f 0) hx2 fun _ _ c=>?_))
 refine Fp [] 3 c fun _ c=>E0 (I0 c h (fun h=>?_) fun h=>?_)
 refine T1 (Fp [] 2 c fun _ c=>Bd h fun x3 hx3 h=>Eshl c hx3 fun _ c=>?_)
 refine Fp [] 2 c fun _ c=>E1 (bk (tn (P1 [] c fun _ c=>Nx h () (c.rk [] [0,1]))))
 refine K1 (bk (tn (P1 [] c fun _ c=>Nx h () (c.rk [] [0,1]))))
 refine wp_exit (te (te (be ?_)))
 obtain rfl:=hr1 _ (sk h)
 exact tn ⟨_,(),rfl,c.rk [] [0,1]⟩
 subst hrl
 exact P0 [] c fun _ c=>rE
theorem X7 {p0 r} (h:Zy n p0 = some r):C0 12 [.agg #[I p0.Vars,L ga0 p0.Clauses gc1]] [lR ga0 p0.Clauses gc1] (I r):=by
 unfold Zy at h
 refine En func12 rfl ntmps12 fun _ fr w c=>?_
 refine T0 (Ebx [I p0.Vars,L ga0 p0.Clauses gc1] c fun b1 _ _ c=>?_)
 refine Fp [] 1 c fun _ c=>E0 (S0 (Bd h fun x1 hx1 h=>S0 (rZ [(1,.eq (.bool x1))] [(0,0),(5,0)] mix c ⟨Ncl c (kN (Y1 hx1)) ⟨.f 0,tt⟩ call25,tt⟩ fun _ _ c=>I0 c h (fun h=>?_) fun h=>?_)))
 exact P0 [] c fun _ c=>rE
 refine K0 (P0 [] c fun _ c=>T0 (Fp [(1,0)] 2 c fun _ c=>Bd h fun x2 hx2 h=>Emk 4 c hx2 fun a1 c1 _ _ c=>?_))
 refine Fp [] 1 c fun _ c=>E0 (S0 (P0 [] c fun _ c=>Bd h fun rl1 hit1 h=>Lp (fun s1  (i:Oh)=>([(1,B b1 0),(3,I s1.1),(4,L i.1 s1.q2 i.2),(5,I s1.2.1)],fun Γ=>Γ.set 1 (sl4 (L i.1 s1.q2 i.2) s1.q2),[])) (fun  (i:Oh)=>([(3,I rl1.1)],fun Γ=>Γ.set 1 (sl4 (L i.1 rl1.2 i.2) rl1.2),[])) hit1 c (a1,c1) (c.rk [0,1] [0]) (fun s1 q1 i1 _ _ c h hr1=>?_) fun k1 _ _ c=>?_))
 refine S0 (T0 (Fp [(2,0)] 4 c fun _ c=>Bd h fun x3 hx3 h=>Eshl c hx3 fun _ c=>?_))
 refine Fp [] 1 c fun _ c=>E0 (I0 c h (fun h=>?_) fun h=>?_)
 refine K0 (S0 (wp_block (S0 (P0 [] c fun _ c=>Bd h fun rl2 hit2 h=>Lp (fun s2  (_:Unit)=>([(1,B b1 0),(3,I s1.1),(4,L i1.1 s1.q2 i1.2),(5,I s1.2.1),(27,I (len s1.q2)),(28,I s2.1)],fun Γ=>Γ.set 1 (sl4 (L i1.1 s1.q2 i1.2) s2.2),[])) (fun  (_:Unit)=>([(1,B b1 0),(3,I s1.1),(4,L i1.1 s1.q2 i1.2),(5,I s1.2.1)],fun Γ=>Γ.set 1 (sl4 (L i1.1 s1.q2 i1.2) rl2),[])) hit2 c () (c.rk [0,1] [0]) (fun s2 q2 _ _ _ c h hr2=>?_) fun _ _ _ c=>?_))))
 refine P0 [] c fun _ c=>S0 (I0 c h (fun h=>?_) fun h=>?_)
 refine K0 (S0 (wp_block (P0 [] c fun _ c=>T1 (Fp [] 5 c fun _ c=>Bd h fun x4 hx4 h=>Eshr c hx4 fun _ c=>?_))))
 refine Fp [] 2 c fun _ c=>Bd h fun x5 hx5 h=>Eset 1 c hx5 fun _ _ _ c=>?_
 refine E1 (bk (tn (P1 [] c fun _ c=>Nx h () (c.rk [0,1] [0]))))
 refine wp_exit (te (te (be ?_)))
 obtain rfl:=hr2 _ (sk h)
 exact tn ⟨(),c.rk [0,1] [0]⟩
 refine T0 (Fp [(0,0)] 2 c fun _ c=>?_)
 obtain ⟨he1,c⟩:=c.relen 1
 replace c:=c.eqs (v:=L i1.1 s1.q2 i1.2) (u:=L i1.1 rl2 i1.2) 4 (by simp only [L,he1])
 replace c:=c.eqs (v:=L i1.1 s1.q2 i1.2) (u:=L i1.1 rl2 i1.2) 42 (by simp only [L,he1])
 refine Bd h fun x6 hx6 h=>Cb c (Xg hx6) ⟨.f 0,.g 1,tt⟩ call26 fun _ _ _ c=>?_
 refine E0 (Tq (Mp x6 [(3,I (w64 (s1.1 + 1)))] [(3,I s1.1)] [(3,I (cond x6 (w64 (s1.1 + 1)) s1.1))] [3,44,45] c fun _ c=>bk (tn (P1 [] c fun _ c=>Nx h (i1.1,i1.2) (c.rk [0,1] [0])))))
 refine wp_exit (te (te (be ?_)))
 obtain rfl:=hr1 _ (sk h)
 exact tn ⟨(i1.1,i1.2),c.rk [0,1] [0]⟩
 exact P0 [] c fun _ c=>rE
theorem Zau {p0 r} (h:Yy p0 = some r):C0 28 [I p0] [] (.bool r):=by
 unfold Yy at h
 refine En func28 rfl ntmps28 fun _ fr w c=>?_
 refine P0 [] c fun _ c=>S0 (Ry [] mix c fun _ _ c=>?_)
 exact rE
theorem XR {p0 r} (h:Yc n p0 = some r):Con prog 29 [.agg #[I p0.Vars,L ga0 p0.Clauses gc1]] [] [lR ga0 p0.Clauses gc1] fun (i:Nat × Ob Oh)=>([B i.1 0],[],[FX i.1 78 [I r.f.Vars,L i.2.1 r.f.Clauses i.p2,L i.p3 r.occ i.q4],lR i.2.1 r.f.Clauses i.p2,lR i.p3 r.occ i.q4]):=by
 unfold Yc at h
 refine En func29 rfl ntmps29 fun _ fr w c=>?_
 refine T0 (Ebx [I p0.Vars,L ga0 p0.Clauses gc1] c fun b1 _ _ c=>?_)
 refine Fp [] 1 c fun _ c=>E0 (Bd h fun x1 hx1 h=>S0 (Jn (fun i:Nat × Oh=>([(1,B b1 0),(3,B i.1 0)],fun Γ=>Γ ++ [BX i.1 78 [I p0.Vars,L ga0 p0.Clauses gc1,L i.2.1 x1 i.q2],sl39 (L i.2.1 x1 i.q2) (List.replicate (List.length x1) (⟨none,0,0⟩ : Hd)),HP.all (ownL 3) (List.replicate (List.length x1) (⟨none,0,0⟩ : Hd)) x1],[])) c ?_ fun i3 _ _ c=>?_))
 refine As mix c fun _ c=>?_
 replace c:=Cx.frs [(1,B b1 0)] c
 refine Dq (fun i:Nat × Oh=>([(1,B b1 0),(15,B i.1 0)],fun Γ=>Γ ++ [BX i.1 78 [I p0.Vars,L ga0 p0.Clauses gc1,L i.2.1 x1 i.q2],sl39 (L i.2.1 x1 i.q2) (List.replicate (List.length x1) (⟨none,0,0⟩ : Hd)),HP.all (ownL 3) (List.replicate (List.length x1) (⟨none,0,0⟩ : Hd)) x1],[])) (bN 9 255) (fun i=>[(8,3,B i.1 0)]) c (fun i2=>?_) fun hd2=>?_
 obtain ⟨b3,a3,c3⟩:=i2
 refine qnE ⟨qP [],tt⟩ fun _ _ c=>?_
 exact nN (b3,a3,c3) (c.rk (rg 4) [0])
 refine Dq (fun i:Oh=>([(1,B b1 0),(13,L i.1 x1 i.2)],fun Γ=>Γ ++ [sl39 (L i.1 x1 i.2) (List.replicate (List.length x1) (⟨none,0,0⟩ : Hd)),HP.all (ownL 3) (List.replicate (List.length x1) (⟨none,0,0⟩ : Hd)) x1],[])) (bN 9 62) (fun i=>[(0,8,.agg #[I p0.Vars,L ga0 p0.Clauses gc1]),(6,14,.agg #[I p0.Vars,L ga0 p0.Clauses gc1,L i.1 x1 i.2])]) c (fun i1=>?_) fun hd1=>?_
 obtain ⟨a2,c2⟩:=i1
 refine qn [7] ⟨qP [(0,0)],qP [],tt⟩ ⟨fun _ _ c=>?_,tt⟩
 refine Xi _ rfl rfl ?_
 refine Ebx [I p0.Vars,L ga0 p0.Clauses gc1,L a2 x1 c2] c fun b2 _ _ c=>?_
 refine E0 (nQ hd2 (b2,a2,c2) (c.rk [0,3,1,2] [0]))
 refine q0 (qs:=[(0,8,.agg #[I p0.Vars,L ga0 p0.Clauses gc1]),(1,9,B b1 0),(2,10,I p0.Vars),(3,11,I (w64 (2 * p0.Vars))),(4,12,I (w64 ((w64 (2 * p0.Vars)) + 1)))]) c (qn [5] ⟨qP [(0,0)],qP [],qP [(0,0)],qP [],qP [],tt⟩ ⟨fun _ _ c=>?_,tt⟩)
 refine Xi _ rfl rfl ?_
 refine Emkd 39 (⟨none,0,0⟩ : Hd) (fun w=>Zds 3 w) c hx1 fun a1 c1 _ _ c=>?_
 refine E0 (nQ hd1 (a1,c1) (c.rk [0,1,2] [0]))
 obtain ⟨b4,a4,c4⟩:=i3
 refine S0 (P0 [(1,0)] c fun _ c=>Bd h fun rl1 hit1 h=>Lp (fun s1  (i:List Hd)=>([(1,B b1 0),(3,B b4 0),(17,L ga0 p0.Clauses gc1),(18,I (len p0.Clauses)),(19,I s1.1)],fun Γ=>(Γ.set 2 (sl39 (L a4 x1 c4) (i))).set 3 (HP.all (ownL 3) (i) s1.2),[])) (fun  (i:List Hd)=>([(3,B b4 0)],fun Γ=>(Γ.set 2 (sl39 (L a4 x1 c4) (i))).set 3 (HP.all (ownL 3) (i) rl1),[])) hit1 c ((List.replicate (List.length x1) (⟨none,0,0⟩ : Hd))) (c.rk (rg 4) [0]) (fun s1 q1 i4 _ _ c h hr1=>?_) fun k1 _ _ c=>?_)
 refine P0 [] c fun _ c=>S0 (I0 c h (fun h=>?_) fun h=>?_)
 refine K0 (S0 (wp_block (T0 (Fp [] 1 c fun _ c=>Bd h fun x2 hx2 h=>Eem c (.f 0) hx2 fun _ u1 _ c=>?_))))
 obtain ⟨a5,c5,rfl⟩:=c.sl 1
 refine Fp [] 2 c fun _ c=>E0 (P0 [] c fun _ c=>Bd h fun rl2 hit2 h=>Tq (Lp (fun s2  (i:List Hd)=>([(1,B b1 0),(3,B b4 0),(4,I s1.1),(17,L ga0 p0.Clauses gc1),(18,I (len p0.Clauses)),(19,I s1.1),(24,L a5 x2 c5),(25,I (len x2)),(26,I s2.1)],fun Γ=>(Γ.set 2 (sl39 (L a4 x1 c4) (i))).set 3 (HP.all (ownL 3) (i) s2.2),[])) (fun  (i:List Hd)=>([(1,B b1 0),(3,B b4 0),(17,L ga0 p0.Clauses gc1),(18,I (len p0.Clauses)),(19,I s1.1)],fun Γ=>(Γ.set 2 (sl39 (L a4 x1 c4) (i))).set 3 (HP.all (ownL 3) (i) rl2),[])) hit2 c (i4) (c.rk (rg 4) [0,1]) (fun s2 q2 i5 _ _ c h hr2=>?_) fun k2 _ _ c=>?_))
 refine P0 [] c fun _ c=>S0 (I0 c h (fun h=>?_) fun h=>?_)
 refine K0 (S0 (wp_block (T0 (Bd h fun x3 hx3 h=>Eel c (.f 1) hx3 fun _ _ c=>?_))))
 refine Fp [] 1 c fun _ c=>E0 (Bd h fun x4 hx4 h=>?_)
 obtain ⟨a6,c6,p1,hr1,hl1,he1⟩:=c.fc0 2 3 hx4
 refine Bd h fun x5 hx5 h=>Bd h fun x6 hx6 h=>Tq (Jn (fun i:List Hd=>([(1,B b1 0),(3,B b4 0),(4,I s1.1),(17,L ga0 p0.Clauses gc1),(18,I (len p0.Clauses)),(19,I s1.1),(24,L a5 x2 c5),(25,I (len x2)),(26,I s2.1)],fun Γ=>(Γ.set 2 (sl39 (L a4 x1 c4) (i))).set 3 (HP.all (ownL 3) (i) x6),[])) c ?_ fun rs2 _ _ c=>?_)
 refine As mix c fun _ c=>?_
 replace c:=Cx.frs [(1,B b1 0),(3,B b4 0),(4,I s1.1),(7,I x3),(17,L ga0 p0.Clauses gc1),(18,I (len p0.Clauses)),(19,I s1.1),(24,L a5 x2 c5),(25,I (len x2)),(26,I s2.1)] c
 refine Dq (fun i:List Hd=>([(1,B b1 0),(3,B b4 0),(4,I s1.1),(17,L ga0 p0.Clauses gc1),(18,I (len p0.Clauses)),(19,I s1.1),(24,L a5 x2 c5),(25,I (len x2)),(26,I s2.1)],fun Γ=>(Γ.set 2 (sl39 (L a4 x1 c4) (i))).set 3 (HP.all (ownL 3) (i) x6),[])) (bN 23 8388607) (fun i=>[]) c (fun rs1=>?_) fun hd5=>?_
 refine qnE tt fun _ _ c=>?_
 exact nN (rs1) (c.rk (rg 4) [0,1])
 refine Dq (fun i:Oh=>([(1,B b1 0),(3,B b4 0),(4,I s1.1),(7,I x3),(17,L ga0 p0.Clauses gc1),(18,I (len p0.Clauses)),(19,I s1.1),(24,L a5 x2 c5),(25,I (len x2)),(26,I s2.1),(50,L i.1 x5 i.2)],fun Γ=>(Γ.set 3 (HP.but (ownL 3) ((w64 (x3 + p0.Vars))).toNat i5 s2.2)) ++ [TL 3 (.slice i.1 (List.length x5) i.2) x5],[])) (bN 23 2096896) (fun i=>[(0,30,B b4 0),(1,31,B b4 0),(2,32,B b4 2),(3,33,L a4 x1 c4),(4,34,I x3),(5,35,B b1 0),(6,36,I p0.Vars),(7,37,I (w64 (x3 + p0.Vars))),(21,51,.pointer (some p1))]) c (fun i7=>?_) fun hd4=>?_
 obtain ⟨a10,c10⟩:=i7
 refine qn [22] ⟨qP [],qP [],qP [],qP [(0,1)],qP [],qP [],qP [(0,0)],qP [],qIo he1,tt⟩ ⟨fun _ _ c=>?_,tt⟩
 refine Xi _ rfl rfl ?_
 refine Efst 2 3 4 c he1 hl1 hx6 fun _ _ c=>?_
 refine E0 (nQ hd5 ((List.set i5 ((w64 (x3 + p0.Vars))).toNat ((hd a10 x5 c10):Hd))) (c.rk (rg 4) [0,1]))
 refine Dq (fun i:Oh=>([(1,B b1 0),(3,B b4 0),(4,I s1.1),(7,I x3),(17,L ga0 p0.Clauses gc1),(18,I (len p0.Clauses)),(19,I s1.1),(24,L a5 x2 c5),(25,I (len x2)),(26,I s2.1),(49,L i.1 ([s1.1]:List Int) i.2)],fun Γ=>Γ ++ [sl3 (L i.1 ([s1.1]:List Int) i.2) ([s1.1]:List Int)],[])) (bN 23 786432) (fun i=>[(0,30,B b4 0),(1,31,B b4 0),(2,32,B b4 2),(3,33,L a4 x1 c4),(4,34,I x3),(5,35,B b1 0),(6,36,I p0.Vars),(7,37,I (w64 (x3 + p0.Vars))),(8,38,B b4 0),(9,39,B b4 0),(10,40,B b4 2),(11,41,L a4 x1 c4),(12,42,I x3),(13,43,B b1 0),(14,44,I p0.Vars),(15,45,I (w64 (x3 + p0.Vars))),(16,46,.pointer (some p1)),(17,47,L a6 x4 c6)]) c (fun i6=>?_) fun hd3=>?_
 obtain ⟨a8,c8⟩:=i6
 refine qn [20] ⟨qP [],qP [],qP [],qP [(0,1)],qP [],qP [],qP [(0,0)],qP [],qP [],qP [],qP [],qP [(0,1)],qP [],qP [],qP [(0,0)],qP [],qIo he1,qLh 2 he1 hr1,tt⟩ ⟨fun _ _ c=>?_,tt⟩
 refine Xi _ rfl rfl ?_
 refine Efap 3 3 c hx4 hr1 hx5 fun a9 c9 _ _ c=>?_
 refine E0 (nQ hd4 (a9,c9) (c.rk [0,1,2,4,5] [0,1]))
 refine q0 (qs:=[(0,30,B b4 0),(1,31,B b4 0),(2,32,B b4 2),(3,33,L a4 x1 c4),(4,34,I x3),(5,35,B b1 0),(6,36,I p0.Vars),(7,37,I (w64 (x3 + p0.Vars))),(8,38,B b4 0),(9,39,B b4 0),(10,40,B b4 2),(11,41,L a4 x1 c4),(12,42,I x3),(13,43,B b1 0),(14,44,I p0.Vars),(15,45,I (w64 (x3 + p0.Vars))),(16,46,.pointer (some p1)),(17,47,L a6 x4 c6),(18,48,I s1.1)]) c (qn [19] ⟨qP [],qP [],qP [],qP [(0,1)],qP [],qP [],qP [(0,0)],qP [],qP [],qP [],qP [],qP [(0,1)],qP [],qP [],qP [(0,0)],qP [],qIo he1,qLh 2 he1 hr1,qP [],tt⟩ ⟨fun _ _ c=>?_,tt⟩)
 refine Xi _ rfl rfl ?_
 refine Elt 3 ([s1.1]:List Int) c fun a7 c7 _ _ c=>?_
 refine E0 (nQ hd3 (a7,c7) (c.rk (rg 5) [0,1]))
 refine bk (tn (P1 [] c fun _ c=>Nx h (rs2) (c.rk (rg 4) [0,1])))
 refine wp_exit (te (te (be ?_)))
 obtain rfl:=hr2 _ (sk h)
 exact tn ⟨(i5),c.rk (rg 4) [0,1]⟩
 refine bk (tn (P1 [] c fun _ c=>Nx h (k2) (c.rk (rg 4) [0])))
 refine wp_exit (te (te (be ?_)))
 obtain rfl:=hr1 _ (sk h)
 exact tn ⟨(i4),c.rk (rg 4) [0]⟩
 refine P0 [] c fun _ c=>?_
 obtain ⟨he2,c⟩:=c.relend 2 3
 replace c:=c.bxe (cs:=[I p0.Vars,L ga0 p0.Clauses gc1,L a4 x1 c4]) (cs':=[I p0.Vars,L ga0 p0.Clauses gc1,L a4 rl1 c4]) 1 (by simp only [L,he2])
 replace c:=c.fzd (Zf0 3) 2 3
 replace c:=c.fzb 1
 cases h
 exact wp_ret (Rt c (b4,ga0,gc1,a4,c4) [] [2,0,1])
theorem ZO {p0 p1 gb0 gn5 gn6 r} (h:Zk p0 p1 = some r):Con prog 50 [B gb0 0,I p1] [BX gb0 89 [.slice ga1 gn5 gc2,.slice ga3 gn6 gc4],sl3 (.slice ga1 gn5 gc2) p0.val,sl3 (.slice ga3 gn6 gc4) p0.queue] [] fun (i:Ob Oh)=>([.bool r.1],[BX gb0 89 [L i.1 r.2.val i.2.1,L i.p2 r.2.queue i.q3],sl3 (L i.1 r.2.val i.2.1) r.2.val,sl3 (L i.p2 r.2.queue i.q3) r.2.queue],[]):=by
 unfold Zk at h
 refine En func50 rfl ntmps50 fun _ fr w c=>?_
 obtain ⟨rfl,c⟩:=c.relen 1
 obtain ⟨rfl,c⟩:=c.relen 2
 refine P0 [] c fun _ c=>P0 [] c fun _ c=>S0 (P0 [] c fun _ c=>Mp (decide (p1 < 0)) [(5,I (w64 (0 - p1))),(6,I (-1))] [(5,I p1),(6,I 1)] [(5,I (cond (decide (p1 < 0)) (w64 (0 - p1)) p1)),(6,I (cond (decide (p1 < 0)) (-1) 1))] [5,6,10,11] c fun _ c=>S0 (T0 (Fp [(3,0)] 5 c fun _ c=>Bd h fun x1 hx1 h=>Eel c (.g 1) hx1 fun _ _ c=>?_)))
 refine Fp [] 1 c fun _ c=>E0 (I0 c h (fun h=>?_) fun h=>?_)
 refine T0 (Fp [(3,0)] 5 c fun _ c=>Bd h fun x2 hx2 h=>Eel c (.g 1) hx2 fun _ _ c=>?_)
 refine Fp [] 3 c fun _ c=>E0 ?_
 cases h
 exact wp_ret (tr (Rt c (ga1,gc2,ga3,gc4) [0,1,2] []))
 refine K0 (T0 (Fp [(3,0)] 6 c fun _ c=>Bd h fun x3 hx3 h=>Eset 1 c hx3 fun _ _ _ c=>?_))
 refine E0 (T0 (Fp [(4,0)] 6 c fun _ c=>Elt 3 ([p1]:List Int) c fun a1 c1 _ _ c=>?_))
 refine Bd h fun x4 hx4 h=>Eap 2 c (.g 3) hx4 fun a2 c2 _ _ c=>?_
 refine Fp [] 2 c fun _ c=>Esb 0 1 (L a2 x4 c2) c fun _ c=>?_
 refine E0 (P0 [] c fun _ c=>?_)
 cases h
 obtain ⟨he1,c⟩:=c.relen 1
 replace c:=c.bxe (cs:=[L ga1 p0.val gc2,L a2 x4 c2]) (cs':=[L ga1 x3 gc2,L a2 x4 c2]) 0 (by simp only [L,he1])
 exact wp_ret (Rt c (ga1,gc2,a2,c2) [0,1,2] [])
theorem Yt {p0 p1 gb0 gn5 gn6 r} (h:Zf n p0 p1 = some r):Con prog 51 [B gb0 0,L ga7 p1 gc8] [BX gb0 89 [.slice ga1 gn5 gc2,.slice ga3 gn6 gc4],sl3 (.slice ga1 gn5 gc2) p0.val,sl3 (.slice ga3 gn6 gc4) p0.queue] [lR ga7 p1 gc8] fun (i:Ob Oh)=>([.bool r.1],[BX gb0 89 [L i.1 r.2.val i.2.1,L i.p2 r.2.queue i.q3],sl3 (L i.1 r.2.val i.2.1) r.2.val,sl3 (L i.p2 r.2.queue i.q3) r.2.queue],[]):=by
 unfold Zf at h
 refine En func51 rfl ntmps51 fun _ fr w c=>?_
 obtain ⟨rfl,c⟩:=c.relen 1
 obtain ⟨rfl,c⟩:=c.relen 2
 refine P0 [] c fun _ c=>P0 [] c fun _ c=>S0 (P0 [] c fun _ c=>Bd h fun rl1 hit1 h=>?_)
 have hk1:=h
 refine LpR (fun s1  (_:Unit)=>([(0,B gb0 0),(5,I s1.1),(6,I s1.2.1),(10,L ga7 p1 gc8),(11,I (len p1)),(12,I s1.q2)],id,[])) (fun s  (_:Unit)=>([(0,B gb0 0),(5,I s.1),(6,I s.2)],id,[])) hit1 c () (c.rk [0,1,2] [0]) (fun s1 q1 _ _ _ c h hr1=>?_) fun s1r _ _ _ hrl c=>?_
 refine P0 [] c fun _ c=>S0 (I0 c h (fun h=>?_) fun h=>?_)
 refine K0 (S0 (wp_block (T0 (Bd h fun x1 hx1 h=>Eel c (.f 0) hx1 fun _ _ c=>?_))))
 refine Fp [] 1 c fun _ c=>E0 (Bd h fun x2 hx2 h=>Bd h fun x3 hx3 h=>S0 (rZ [(5,.eq (I x2)),(6,Pd.el (x3:Int)),(7,.eq (I x3))] [(3,0)] mix c ⟨Ncl c (kN (Z8 hx2)) tt call36,Nid c (.g 1) (kN hx3),Nld c 6 (q:=x3) (atN 6),tt⟩ fun _ _ c=>P0 [] c fun _ c=>I0 c h (fun h=>?_) fun h=>?_))
 refine P0 [] c fun _ c=>Tq (P1 [] c fun _ c=>bk (tn (P1 [] c fun _ c=>Nx h () (c.rk [0,1,2] [0]))))
 refine P0 [] c fun _ c=>I0 c h (fun h=>?_) fun h=>?_
 refine P0 [] c fun _ c=>?_
 obtain rfl:=hr1 _ (sk h)
 obtain rfl:=sj hk1
 exact wp_ret (br (tr (tr (br (tr (Rt c (ga1,gc2,ga3,gc4) [0,1,2] []))))))
 refine K1 (bk (tn (P1 [] c fun _ c=>Nx h () (c.rk [0,1,2] [0]))))
 refine wp_exit (te (te (be ?_)))
 obtain rfl:=hr1 _ (sk h)
 exact tn ⟨_,(),rfl,c.rk [0,1,2] [0]⟩
 subst hrl
 refine S0 (P0 [] c fun _ c=>I0 c h (fun h=>?_) fun h=>?_)
 refine P0 [] c fun _ c=>?_
 cases h
 exact wp_ret (tr (Rt c (ga1,gc2,ga3,gc4) [0,1,2] []))
 refine K0 (S0 (P0 [] c fun _ c=>I0 c h (fun h=>?_) fun h=>?_))
 refine T0 (Fp [] 2 c fun _ c=>Bd h fun x4 hx4 h=>Ca [0,1,2] c (ZO hx4) tt call50 fun i1 _ _ c=>?_)
 refine Fp [] 1 c fun _ c=>E0 ?_
 cases h
 exact wp_ret (tr (Rt c (i1.1,i1.2.1,i1.p2,i1.q3) [0,1,2] []))
 refine K0 (P0 [] c fun _ c=>?_)
 cases h
 exact wp_ret (Rt c (ga1,gc2,ga3,gc4) [0,1,2] [])
theorem YB {p0 p1 gb0 gb5 gn10 gn11 r} (h:Zr n p0 p1 = some r):Con prog 52 [B gb0 0,B gb5 0] [BX gb5 89 [.slice ga6 gn10 gc7,.slice ga8 gn11 gc9],sl3 (.slice ga6 gn10 gc7) p1.val,sl3 (.slice ga8 gn11 gc9) p1.queue] [FX gb0 78 [I p0.f.Vars,L ga1 p0.f.Clauses gc2,L ga3 p0.occ gc4],lR ga1 p0.f.Clauses gc2,lR ga3 p0.occ gc4] fun (i:Ob Oh)=>([.bool r.1],[BX gb5 89 [L i.1 r.2.val i.2.1,L i.p2 r.2.queue i.q3],sl3 (L i.1 r.2.val i.2.1) r.2.val,sl3 (L i.p2 r.2.queue i.q3) r.2.queue],[]):=by
 unfold Zr at h
 refine En func52 rfl ntmps52 fun _ fr w c=>?_
 obtain ⟨rfl,c⟩:=c.relen 1
 obtain ⟨rfl,c⟩:=c.relen 2
 refine P0 [] c fun _ c=>Bd h fun rl1 hit1 h=>?_
 have hk1:=h
 refine S0 (LpR (fun s1  (i:Ob Oh)=>([(0,B gb0 0),(1,B gb5 0)],fun Γ=>((Γ.set 0 (BX gb5 89 [L i.1 s1.1 i.2.1,L i.p2 s1.2 i.q3])).set 1 (sl3 (L i.1 s1.1 i.2.1) s1.1)).set 2 (sl3 (L i.p2 s1.2 i.q3) s1.2),[])) (fun s  (i:Ob Oh)=>([],fun Γ=>((Γ.set 0 (BX gb5 89 [L i.1 s.1 i.2.1,L i.p2 s.2 i.q3])).set 1 (sl3 (L i.1 s.1 i.2.1) s.1)).set 2 (sl3 (L i.p2 s.2 i.q3) s.2),[])) hit1 c (ga6,gc7,ga8,gc9) (c.rk [0,1,2] [0,1,2]) (fun s1 q1 i1 _ _ c h hr1=>?_) fun s1r k1 _ _ hrl c=>?_)
 refine S0 (P0 [(3,0)] c fun _ c=>I0 c h (fun h=>?_) fun h=>?_)
 refine K0 (wp_block (Bd h fun x1 hx1 h=>S0 (rZ [(10,Pd.el (x1:Int)),(11,.eq (I x1))] [(3,0),(7,0)] mix c ⟨Nid c (.g 2) (kN hx1),Nld c 10 (q:=x1) (atN 10),tt⟩ fun _ _ c=>S0 (Zbc mix (Rh 0 ?_)))))
 refine rM 11 [] [(4,0),(8,0)] c (fun ow=>tt) fun _ _ _ _ _ c=>?_
 refine Bd h fun x2 hx2 h=>Efr 2 c hx2 fun c1 _ _ c=>?_
 refine Fp [] 2 c fun _ c=>Esb 0 1 (L i1.p2 x2 c1) c fun _ c=>?_
 refine E0 (Bd h fun x3 hx3 h=>?_)
 obtain ⟨ep1,u1,c⟩:=c.elp (.f 2) hx3
 obtain ⟨a1,c2,rfl⟩:=c.sl 4
 refine S0 (rZ [(11,.eq (.pointer (some ep1))),(12,.eq (L a1 x3 c2))] [(3,1),(8,1)] mix c ⟨Nie c 3,Nle c 3,tt⟩ fun _ _ c=>Bd h fun rl2 hit2 h=>?_)
 have hk2:=h
 refine Tq (LpR (fun s2  (i:Ob Oh)=>([(0,B gb0 0),(1,B gb5 0),(52,L a1 x3 c2),(53,I (len x3)),(54,I s2.1)],fun Γ=>((Γ.set 0 (BX gb5 89 [L i.1 s2.2.1 i.2.1,L i.p2 s2.q2 i.q3])).set 1 (sl3 (L i.1 s2.2.1 i.2.1) s2.2.1)).set 2 (sl3 (L i.p2 s2.q2 i.q3) s2.q2),[])) (fun s  (i:Ob Oh)=>([(0,B gb0 0),(1,B gb5 0)],fun Γ=>((Γ.set 0 (BX gb5 89 [L i.1 s.1 i.2.1,L i.p2 s.2 i.q3])).set 1 (sl3 (L i.1 s.1 i.2.1) s.1)).set 2 (sl3 (L i.p2 s.2 i.q3) s.2),[])) hit2 c (i1.1,i1.2.1,i1.p2,c1) (c.rk [0,1,2] (rg 5)) (fun s2 q2 i2 _ _ c h hr2=>?_) fun s2r k2 _ _ hrl c=>?_)
 refine P0 [] c fun _ c=>S0 (I0 c h (fun h=>?_) fun h=>?_)
 refine K0 (S0 (wp_block (T0 (Bd h fun x4 hx4 h=>Eel c (.f 4) hx4 fun _ _ c=>?_))))
 refine Fp [] 1 c fun _ c=>E0 (T0 (Fp [(5,1)] 7 c fun _ c=>Bd h fun x5 hx5 h=>Eem c (.f 1) hx5 fun _ u2 _ c=>?_))
 obtain ⟨a2,c3,rfl⟩:=c.sl 5
 refine Bd h fun x6 hx6 h=>Ca [0,1,2] c (Yt hx6) ⟨.f 5,tt⟩ call51 fun i3 _ _ c=>?_
 refine Fp [] 1 c fun _ c=>E0 (I0 c h (fun h=>?_) fun h=>?_)
 refine P0 [] c fun _ c=>?_
 obtain rfl:=hr2 _ (sk h)
 obtain rfl:=hr1 _ (sk hk2)
 obtain rfl:=sj hk1
 exact wp_ret (br (tr (tr (br (tr (br (tr (br (tr (Rt c (i3.1,i3.2.1,i3.p2,i3.q3) [0,1,2] []))))))))))
 refine K1 (bk (tn (P1 [] c fun _ c=>Nx h (i3.1,i3.2.1,i3.p2,i3.q3) (c.rk [0,1,2] (rg 5)))))
 refine wp_exit (te (te (be ?_)))
 obtain rfl:=hr2 _ (sk h)
 exact tn ⟨_,(i2.1,i2.2.1,i2.p2,i2.q3),rfl,c.rk [0,1,2] (rg 5)⟩
 subst hrl
 refine bk (tn (Nx h (k2.1,k2.2.1,k2.p2,k2.q3) (c.rk [0,1,2] [0,1,2])))
 refine wp_exit (te (te (be ?_)))
 obtain rfl:=hr1 _ (sk h)
 exact tn ⟨_,(i1.1,i1.2.1,i1.p2,i1.q3),rfl,c.rk [0,1,2] [0,1,2]⟩
 subst hrl
 refine P0 [] c fun _ c=>?_
 cases h
 exact wp_ret (Rt c (k1.1,k1.2.1,k1.p2,k1.q3) [0,1,2] [])
theorem Xr {p0 p1 gb0 r} (h:ZB n p0 p1 = some r):Con prog 44 [B gb0 0,L ga5 p1 gc6] [] [FX gb0 78 [I p0.f.Vars,L ga1 p0.f.Clauses gc2,L ga3 p0.occ gc4],lR ga1 p0.f.Clauses gc2,lR ga3 p0.occ gc4,lR ga5 p1 gc6] fun (i:Nat × Ob Oh)=>([oP r.2 i.1,.bool r.2],[HP.on r.2 [BX i.1 89 [L i.2.1 r.1.val i.p2,L i.p3 r.1.queue i.q4],sl3 (L i.2.1 r.1.val i.p2) r.1.val,sl3 (L i.p3 r.1.queue i.q4) r.1.queue]],[]):=by
 unfold ZB at h
 refine En func44 rfl ntmps44 fun _ fr w c=>?_
 refine P0 [] c fun _ c=>T0 (Fp [(4,0)] 6 c fun _ c=>Bd h fun x1 hx1 h=>Emk 3 c hx1 fun a1 c1 _ _ c=>?_)
 refine Fp [] 1 c fun _ c=>Ebx [L a1 x1 c1,L none ([]:List Int) 0] c fun b1 _ _ c=>?_
 refine Fp [] 1 c fun _ c=>E0 (S0 (P0 [] c fun _ c=>?_))
 replace c:=c.nil (α:=Int) 3
 refine Bd h fun rl1 hit1 h=>?_
 have hk1:=h
 refine LpR (fun s1  (i:Ob Oh)=>([(0,B gb0 0),(6,B b1 0),(20,L ga5 p1 gc6),(21,I (len p1)),(22,I s1.1)],fun Γ=>((Γ.set 0 (sl3 (L i.1 s1.2.1 i.2.1) s1.2.1)).set 1 (BX b1 89 [L i.1 s1.2.1 i.2.1,L i.p2 s1.q2 i.q3])).set 2 (sl3 (L i.p2 s1.q2 i.q3) s1.q2),[])) (fun s  (i:Ob Oh)=>([(0,B gb0 0),(6,B b1 0)],fun Γ=>((Γ.set 0 (sl3 (L i.1 s.1 i.2.1) s.1)).set 1 (BX b1 89 [L i.1 s.1 i.2.1,L i.p2 s.2 i.q3])).set 2 (sl3 (L i.p2 s.2 i.q3) s.2),[])) hit1 c (a1,c1,none,0) (c.rk [0,1,2] (rg 4)) (fun s1 q1 i1 _ _ c h hr1=>?_) fun s1r k1 _ _ hrl c=>?_
 refine P0 [] c fun _ c=>S0 (I0 c h (fun h=>?_) fun h=>?_)
 refine K0 (S0 (wp_block (T0 (Bd h fun x2 hx2 h=>Eel c (.f 3) hx2 fun _ _ c=>?_))))
 refine Fp [] 1 c fun _ c=>E0 (T0 (Fp [] 2 c fun _ c=>Bd h fun x3 hx3 h=>Ca [1,0,2] c (ZO hx3) tt call50 fun i2 _ _ c=>?_))
 refine Fp [] 1 c fun _ c=>E0 (I0 c h (fun h=>?_) fun h=>?_)
 refine P0 [] c fun _ c=>?_
 obtain rfl:=hr1 _ (sk h)
 obtain rfl:=sj hk1
 replace c:=c.onf
 exact wp_ret (br (tr (tr (br (tr (Rg c (0,none,0,none,0) [3] [] (.tmp (.tmp .nil))))))))
 refine K1 (bk (tn (P1 [] c fun _ c=>Nx h (i2.1,i2.2.1,i2.p2,i2.q3) (c.rk [1,0,2] (rg 4)))))
 refine wp_exit (te (te (be ?_)))
 obtain rfl:=hr1 _ (sk h)
 exact tn ⟨_,(i1.1,i1.2.1,i1.p2,i1.q3),rfl,c.rk [0,1,2] (rg 4)⟩
 subst hrl
 refine S0 (P0 [(4,1)] c fun _ c=>Bd h fun rl2 hit2 h=>?_)
 have hk2:=h
 refine LpR (fun s2  (i:Ob Oh)=>([(0,B gb0 0),(6,B b1 0),(35,L ga1 p0.f.Clauses gc2),(36,I (len p0.f.Clauses)),(37,I s2.1)],fun Γ=>((Γ.set 0 (sl3 (L i.1 s2.2.1 i.2.1) s2.2.1)).set 1 (BX b1 89 [L i.1 s2.2.1 i.2.1,L i.p2 s2.q2 i.q3])).set 2 (sl3 (L i.p2 s2.q2 i.q3) s2.q2),[])) (fun s  (i:Ob Oh)=>([(0,B gb0 0),(6,B b1 0)],fun Γ=>((Γ.set 0 (sl3 (L i.1 s.1 i.2.1) s.1)).set 1 (BX b1 89 [L i.1 s.1 i.2.1,L i.p2 s.2 i.q3])).set 2 (sl3 (L i.p2 s.2 i.q3) s.2),[])) hit2 c (k1.1,k1.2.1,k1.p2,k1.q3) (c.rk [0,1,2] (rg 4)) (fun s2 q2 i3 _ _ c h hr2=>?_) fun s2r k2 _ _ hrl c=>?_
 refine P0 [] c fun _ c=>S0 (I0 c h (fun h=>?_) fun h=>?_)
 refine K0 (S0 (wp_block (T0 (Bd h fun x4 hx4 h=>Eem c (.f 1) hx4 fun _ u1 _ c=>?_))))
 obtain ⟨a2,c2,rfl⟩:=c.sl 4
 refine Fp [] 1 c fun _ c=>E0 (T0 (Fp [] 2 c fun _ c=>Bd h fun x5 hx5 h=>Ca [1,0,2] c (Yt hx5) ⟨.f 4,tt⟩ call51 fun i4 _ _ c=>?_))
 refine Fp [] 1 c fun _ c=>E0 (I0 c h (fun h=>?_) fun h=>?_)
 refine P0 [] c fun _ c=>?_
 obtain rfl:=hr2 _ (sk h)
 obtain rfl:=sj hk2
 replace c:=c.onf
 exact wp_ret (br (tr (tr (br (tr (Rg c (0,none,0,none,0) [3] [] (.tmp (.tmp .nil))))))))
 refine K1 (bk (tn (P1 [] c fun _ c=>Nx h (i4.1,i4.2.1,i4.p2,i4.q3) (c.rk [1,0,2] (rg 4)))))
 refine wp_exit (te (te (be ?_)))
 obtain rfl:=hr2 _ (sk h)
 exact tn ⟨_,(i3.1,i3.2.1,i3.p2,i3.q3),rfl,c.rk [0,1,2] (rg 4)⟩
 subst hrl
 refine S0 (T0 (Fp [] 2 c fun _ c=>Bd h fun x6 hx6 h=>Ca [1,0,2] c (YB hx6) ⟨.f 0,.f 1,.f 2,tt⟩ call52 fun i5 _ _ c=>?_))
 refine Fp [] 1 c fun _ c=>E0 (I0 c h (fun h=>?_) fun h=>?_)
 refine P0 [] c fun _ c=>?_
 cases h
 replace c:=c.onf
 exact wp_ret (tr (Rg c (0,none,0,none,0) [3] [] (.tmp (.tmp .nil))))
 refine K0 (P0 [] c fun _ c=>?_)
 cases h
 replace c:=c.onp [BX b1 89 [L i5.1 x6.2.val i5.2.1,L i5.p2 x6.2.queue i5.q3],sl3 (L i5.1 x6.2.val i5.2.1) x6.2.val,sl3 (L i5.p2 x6.2.queue i5.q3) x6.2.queue] [0,1,2]
 exact wp_ret (Rg c (b1,i5.1,i5.2.1,i5.p2,i5.q3) [0] [] (.tmp (.tmp .nil)))
theorem YF {p0 gb0 r} (h:Zo n p0 = some r):C0 53 [B gb0 0] [FX gb0 89 [L ga1 p0.val gc2,L ga3 p0.queue gc4],lR ga1 p0.val gc2,lR ga3 p0.queue gc4] (I r):=by
 unfold Zo at h
 refine En func53 rfl ntmps53 fun _ fr w c=>?_
 refine P0 [] c fun _ c=>S0 (P0 [] c fun _ c=>Bd h fun rl1 hit1 h=>?_)
 have hk1:=h
 refine LpR (fun s1  (_:Unit)=>([(0,B gb0 0),(3,I s1)],id,[])) (fun s  (_:Unit)=>([],id,[])) hit1 c () (c.rk [] [0,1,2]) (fun s1 q1 _ _ _ c h hr1=>?_) fun s1r _ _ _ hrl c=>?_
 refine S0 (P0 [(4,0)] c fun _ c=>I0 c h (fun h=>?_) fun h=>?_)
 refine K0 (S0 (wp_block (T0 (Fp [(3,0)] 5 c fun _ c=>Bd h fun x1 hx1 h=>Eel c (.f 1) hx1 fun _ _ c=>?_))))
 refine Fp [] 1 c fun _ c=>E0 (I0 c h (fun h=>?_) fun h=>?_)
 refine P0 [] c fun _ c=>?_
 obtain rfl:=hr1 _ (sk h)
 obtain rfl:=sj hk1
 exact wp_ret (br (tr (tr (br (tr (Rt c () [] []))))))
 refine K1 (bk (tn (P1 [] c fun _ c=>Nx h () (c.rk [] [0,1,2]))))
 refine wp_exit (te (te (be ?_)))
 obtain rfl:=hr1 _ (sk h)
 exact tn ⟨_,(),rfl,c.rk [] [0,1,2]⟩
 subst hrl
 exact P0 [] c fun _ c=>rE
theorem Xk {p0 p1 p2 gb0 gb5 r} (h:Zh n p0 p1 p2 = some r):Con prog 54 [B gb0 0,B gb5 0,I p2] [] [FX gb0 78 [I p0.f.Vars,L ga1 p0.f.Clauses gc2,L ga3 p0.occ gc4],lR ga1 p0.f.Clauses gc2,lR ga3 p0.occ gc4,FX gb5 89 [L ga6 p1.val gc7,L ga8 p1.queue gc9],lR ga6 p1.val gc7,lR ga8 p1.queue gc9] fun (i:Nat × Ob Oh)=>([oP r.2 i.1,.bool r.2],[HP.on r.2 [BX i.1 89 [L i.2.1 r.1.val i.p2,L i.p3 r.1.queue i.q4],sl3 (L i.2.1 r.1.val i.p2) r.1.val,sl3 (L i.p3 r.1.queue i.q4) r.1.queue]],[]):=by
 unfold Zh at h
 refine En func54 rfl ntmps54 fun _ fr w c=>?_
 refine P0 [] c fun _ c=>T0 (Fp [(3,1)] 4 c fun _ c=>Bd h fun x1 hx1 h=>Cb c (Ya hx1) ⟨.f 4,tt⟩ call37 fun i1 _ _ c=>?_)
 refine Fp [] 1 c fun _ c=>Ebx [L i1.1 x1 i1.2,L none ([]:List Int) 0] c fun b1 _ _ c=>?_
 refine Fp [] 1 c fun _ c=>E0 (S0 (T0 (Fp [] 1 c fun _ c=>Fp [] 1 c fun _ c=>?_)))
 replace c:=c.nil (α:=Int) 3
 refine Bd h fun x2 hx2 h=>Ca [1,0,2] c (ZO hx2) tt call50 fun i2 _ _ c=>?_
 refine Fp [] 1 c fun _ c=>Fp [] 1 c fun _ c=>?_
 rcases Zba (b:=(!x2.1)) h with ⟨hg1,h⟩ | ⟨hg1,h⟩
 replace c:=c.eqs (v:=.bool (!x2.1)) (u:=.bool true) 20 (by rw [hg1])
 refine Gs c fun _ c=>Gs c fun _ c=>Gs c fun _ c=>Gs c fun _ c=>Epk (b:=true) (v:=.bool true) c fun _ c=>E0 (I0 c h (fun h=>?_) fun h=>?_)
 refine P0 [] c fun _ c=>?_
 cases h
 replace c:=c.onf
 exact wp_ret (tr (Rg c (0,none,0,none,0) [3] [] (.tmp (.tmp .nil))))
 refine K0 (P0 [] c fun _ c=>?_)
 cases h
 replace c:=c.onp [BX b1 89 [L i2.1 x2.2.val i2.2.1,L i2.p2 x2.2.queue i2.q3],sl3 (L i2.1 x2.2.val i2.2.1) x2.2.val,sl3 (L i2.p2 x2.2.queue i2.q3) x2.2.queue] [0,1,2]
 exact wp_ret (Rg c (b1,i2.1,i2.2.1,i2.p2,i2.q3) [0] [] (.tmp (.tmp .nil)))
 replace c:=c.eqs (v:=.bool (!x2.1)) (u:=.bool false) 20 (by rw [hg1])
 refine Gt c ?_
 dsimp only [List.set]
 refine Fp [] 1 c fun _ c=>Gt c ?_
 dsimp only [List.set]
 refine Fp [] 1 c fun _ c=>Gt c ?_
 dsimp only [List.set]
 refine Bd h fun x3 hx3 h=>Ca [0,1,2] c (YB hx3) ⟨.f 0,.f 1,.f 2,tt⟩ call52 fun i3 _ _ c=>?_
 refine Gt c ?_
 dsimp only [List.set]
 refine Fp [] 1 c fun _ c=>Epk (b:=false) (v:=.bool (!x3.1)) c fun _ c=>E0 (I0 c h (fun h=>?_) fun h=>?_)
 refine P0 [] c fun _ c=>?_
 cases h
 replace c:=c.onf
 exact wp_ret (tr (Rg c (0,none,0,none,0) [3] [] (.tmp (.tmp .nil))))
 refine K0 (P0 [] c fun _ c=>?_)
 cases h
 replace c:=c.onp [BX b1 89 [L i3.1 x3.2.val i3.2.1,L i3.p2 x3.2.queue i3.q3],sl3 (L i3.1 x3.2.val i3.2.1) x3.2.val,sl3 (L i3.p2 x3.2.queue i3.q3) x3.2.queue] [0,1,2]
 exact wp_ret (Rg c (b1,i3.1,i3.2.1,i3.p2,i3.q3) [0] [] (.tmp (.tmp .nil)))
theorem Xp {n:Nat}:∀ {p0 p1 gb0 ga1 gc2 gb3 ga4 gc5 ga6 gc7 gn8 gb9 ga10 gc11 ga12 gc13 r} (h:Zn n p0 p1 = some r),Con prog 45 [B gb0 0,B gb9 0] [BX gb0 83 [B gb3 0,I p0.limit,I p0.splits,.slice ga1 gn8 gc2],sl4 (.slice ga1 gn8 gc2) p0.model] [FX gb3 78 [I p0.s.f.Vars,L ga4 p0.s.f.Clauses gc5,L ga6 p0.s.occ gc7],lR ga4 p0.s.f.Clauses gc5,lR ga6 p0.s.occ gc7,FX gb9 89 [L ga10 p1.val gc11,L ga12 p1.queue gc13],lR ga10 p1.val gc11,lR ga12 p1.queue gc13] fun (i:Oh)=>([I r.1],[BX gb0 83 [B gb3 0,I r.2.limit,I r.2.splits,L i.1 r.2.model i.2],sl4 (L i.1 r.2.model i.2) r.2.model],[]):=by
 induction n with
 | zero=>intro p0 p1 gb0 ga1 gc2 gb3 ga4 gc5 ga6 gc7 gn8 gb9 ga10 gc11 ga12 gc13 r h; simp [Zn] at h
 | succ n ih=>
 intro p0 p1 gb0 ga1 gc2 gb3 ga4 gc5 ga6 gc7 gn8 gb9 ga10 gc11 ga12 gc13 r h
 rw [Zn] at h
 refine En func45 rfl ntmps45 fun _ fr w c=>?_
 obtain ⟨rfl,c⟩:=c.relen 1
 refine P0 [] c fun _ c=>T0 (Fp [] 1 c fun _ c=>Bd h fun x1 hx1 h=>Cb c (YF hx1) ⟨.f 3,.f 4,.f 5,tt⟩ call53 fun _ _ _ c=>?_)
 refine Fp [] 1 c fun _ c=>E0 (S0 (P0 [] c fun _ c=>I0 c h (fun h=>?_) fun h=>?_))
 refine T0 (Fp [(4,0),(8,1)] 9 c fun _ c=>Bd h fun x2 hx2 h=>Emk 4 c hx2 fun a1 c1 _ _ c=>?_)
 refine Fp [] 2 c fun _ c=>Esb 0 3 (L a1 x2 c1) c fun _ c=>?_
 refine E0 (S0 (P0 [(3,0)] c fun _ c=>Bd h fun rl1 hit1 h=>Lp (fun s1  (_:Unit)=>([(0,B gb0 0),(1,B gb9 0),(32,I (len x2)),(33,I s1.1)],fun Γ=>Γ.set 2 (sl4 (L a1 x2 c1) s1.2),[])) (fun  (_:Unit)=>([],fun Γ=>Γ.set 2 (sl4 (L a1 x2 c1) rl1),[])) hit1 c () (c.rk [0,1,2] (rg 6)) (fun s1 q1 _ _ _ c h hr1=>?_) fun _ _ _ c=>?_))
 refine P0 [] c fun _ c=>S0 (I0 c h (fun h=>?_) fun h=>?_)
 refine K0 (S0 (wp_block (P0 [] c fun _ c=>Bd h fun x3 hx3 h=>Zbc mix (rM 14 [(11,Pd.el (x3:Int)),(12,.eq (I x3))] [(3,0),(8,2)] c (fun ow=>⟨ZaP ow (Nid c (.f 4) (kN hx3)),ZaP ow (Nld c 11 (q:=x3) (atM 11 (p:=.el (x3:Int)))),tt⟩) fun _ _ _ _ _ c=>?_))))
 refine Bd h fun x4 hx4 h=>Eset 2 c hx4 fun _ _ _ c=>?_
 refine E1 (bk (tn (P1 [] c fun _ c=>Nx h () (c.rk [0,1,2] (rg 6)))))
 refine wp_exit (te (te (be ?_)))
 obtain rfl:=hr1 _ (sk h)
 exact tn ⟨(),c.rk [0,1,2] (rg 6)⟩
 refine P0 [] c fun _ c=>?_
 cases h
 obtain ⟨he1,c⟩:=c.relen 2
 replace c:=c.bxe (cs:=[B gb3 0,I p0.limit,I p0.splits,L a1 x2 c1]) (cs':=[B gb3 0,I p0.limit,I p0.splits,L a1 rl1 c1]) 0 (by simp only [L,he1])
 exact wp_ret (tr (Rt c (a1,c1) [0,2] []))
 refine K0 (S0 (S0 (Ry [(3,0),(7,0)] mix c fun _ _ c=>I0 c h (fun h=>?_) fun h=>?_)))
 refine P0 [] c fun _ c=>?_
 cases h
 exact wp_ret (tr (Rt c (ga1,gc2) [0,1] []))
 refine K0 (T0 (Fp [(3,0)] 7 c fun _ c=>Esb 0 2 (I (w64 (p0.splits + 1))) c fun _ c=>?_))
 refine E0 (S0 (T0 (Fp [] 3 c fun _ c=>Ebu (v:=.agg #[I (w64 (0 - x1)),I x1]) #[(0,I (w64 (0 - x1))),(1,I x1)] c fun _ c=>?_)))
 refine Fp [] 1 c fun _ c=>E0 (Bd h fun rl2 hit2 h=>?_)
 have hk2:=h
 refine LpR (fun s2  (i:Oh)=>([(0,B gb0 0),(1,B gb9 0),(71,.agg #[I (w64 (0 - x1)),I x1]),(72,I s2.1)],fun Γ=>(Γ.set 0 (BX gb0 83 [B gb3 0,I s2.2.1,I s2.p2,L i.1 s2.q3 i.2])).set 1 (sl4 (L i.1 s2.q3 i.2) s2.q3),[])) (fun s  (i:Oh)=>([],fun Γ=>(Γ.set 0 (BX gb0 83 [B gb3 0,I s.1,I s.2.1,L i.1 s.q2 i.2])).set 1 (sl4 (L i.1 s.q2 i.2) s.q2),[])) hit2 c (ga1,gc2) (c.rk [0,1] (rg 6)) (fun s2 q2 i1 _ _ c h hr2=>?_) fun s2r k1 _ _ hrl c=>?_
 refine P0 [] c fun _ c=>S0 (I0 c h (fun h=>?_) fun h=>?_)
 refine K0 (S0 (wp_block (T0 (Bd h fun x5 hx5 h=>Eai c hx5 fun _ c=>?_))))
 refine Fp [] 1 c fun _ c=>E0 (T0 (Fp [(3,0)] 6 c fun _ c=>Bd h fun x6 hx6 h=>Cb c (Xk hx6) ⟨.f 0,.f 1,.f 2,.f 3,.f 4,.f 5,tt⟩ call54 fun i2 _ _ c=>?_))
 refine Fp [] 5 c fun _ c=>E0 (S0 (P0 [] c fun _ c=>Ih c h (fun hb h=>?_) fun hb h=>?_))
 replace c:=c.dp [2]
 refine wp_exit (te (be ?_))
 refine tn (P1 [] c fun _ c=>Nx h (i1.1,i1.2) (c.rk [0,1] (rg 6)))
 replace c:=c.opn 2 (bT hb)
 replace c:=c.eqs (v:=oP x6.2 i2.1) (u:=B i2.1 0) 9 (by rw [(bT hb)]; rfl)
 refine K0 (T0 (Fp [] 2 c fun _ c=>Bd h fun x7 hx7 h=>Ca [0,1] c (ih hx7) ⟨.f 0,.f 1,.f 2,.b 0,.g 1,.g 2,tt⟩ call45 fun i3 _ _ c=>?_))
 refine Fp [] 1 c fun _ c=>E0 (P0 [] c fun _ c=>I0 c h (fun h=>?_) fun h=>?_)
 refine P0 [] c fun _ c=>?_
 obtain rfl:=hr2 _ (sk h)
 obtain rfl:=sj hk2
 exact wp_ret (br (tr (tr (br (tr (Rt c (i3.1,i3.2) [3,4] []))))))
 refine K1 (bk (tn (P1 [] c fun _ c=>Nx h (i3.1,i3.2) (c.rk [3,4] (rg 6)))))
 refine wp_exit (te (te (be ?_)))
 obtain rfl:=hr2 _ (sk h)
 exact tn ⟨_,(i1.1,i1.2),rfl,c.rk [0,1] (rg 6)⟩
 subst hrl
 refine P0 [] c fun _ c=>?_
 cases h
 exact wp_ret (Rt c (k1.1,k1.2) [0,1] [])
theorem Xl {p0 p1 p2 gb0 r} (h:ZQ n p0 p1 p2 = some r):Con prog 30 [B gb0 0,L ga5 p1 gc6,I p2] [] [FX gb0 78 [I p0.f.Vars,L ga1 p0.f.Clauses gc2,L ga3 p0.occ gc4],lR ga1 p0.f.Clauses gc2,lR ga3 p0.occ gc4,lR ga5 p1 gc6] fun (i:Oh)=>([I r.1,L i.1 r.2.1 i.2,I r.2.2],[sl4 (L i.1 r.2.1 i.2) r.2.1],[]):=by
 unfold ZQ at h
 refine En func30 rfl ntmps30 fun _ fr w c=>?_
 refine P0 [] c fun _ c=>T0 (Fp [] 2 c fun _ c=>Bd h fun x1 hx1 h=>Cb c (Xr hx1) ⟨.f 0,.f 1,.f 2,.f 3,tt⟩ call44 fun i1 _ _ c=>?_)
 refine Fp [] 5 c fun _ c=>E0 (S0 (P0 [] c fun _ c=>Ih c h (fun hb h=>?_) fun hb h=>?_))
 replace c:=c.dp [0]
 refine P0 [] c fun _ c=>?_
 replace c:=c.nil (α:=Bool) 4
 cases h
 exact wp_ret (tr (Rg c (none,0) [0] [] (.tmp (.tmp (.tmp .nil)))))
 replace c:=c.opn 0 (bT hb)
 replace c:=c.eqs (v:=oP x1.2 i1.1) (u:=B i1.1 0) 9 (by rw [(bT hb)]; rfl)
 refine K0 (T0 (Fp [] 3 c fun _ c=>Eal [.pointer none,I 0,I 0,L none ([]:List Bool) 0] c fun b1 _ _ c=>?_))
 refine Ess 3 [B gb0 0,I p2,I 0,L none ([]:List Bool) 0] c fun _ c=>?_
 refine E0 (T0 (Fp [] 1 c fun _ c=>?_))
 replace c:=c.nil (α:=Bool) 4
 refine Bd h fun x2 hx2 h=>Ca [3,4] c (Xp hx2) ⟨.f 0,.f 1,.f 2,.b 0,.g 1,.g 2,tt⟩ call45 fun i2 _ _ c=>?_
 refine Fp [] 1 c fun _ c=>E0 (S0 (Ry [(2,1),(4,1)] mix c fun _ _ c=>?_))
 cases h
 exact wp_ret (Rg c (i2.1,i2.2) [4] [] (.tmp (.tmp (.tmp .nil))))
theorem ZaE {p0 p1 p2 r} (h:Yd n p0 p1 p2 = some r):Con prog 13 [.agg #[I p0.Vars,L ga0 p0.Clauses gc1],L ga2 p1 gc3,I p2] [] [lR ga0 p0.Clauses gc1,lR ga2 p1 gc3] fun (i:Oh)=>([I r.1,L i.1 r.2.1 i.2,I r.2.2],[sl4 (L i.1 r.2.1 i.2) r.2.1],[]):=by
 unfold Yd at h
 refine En func13 rfl ntmps13 fun _ fr w c=>?_
 refine T0 (Ebx [I p0.Vars,L ga0 p0.Clauses gc1] c fun b1 _ _ c=>?_)
 refine Fp [] 3 c fun _ c=>E0 (S0 (Bd h fun x1 hx1 h=>Bd h fun x2 hx2 h=>Bd h fun x3 hx3 h=>S0 (rZ [(1,.eq (.bool x1)),(7,.eq (.bool x2)),(12,.eq (.bool x3))] [(0,0),(6,0)] mix c ⟨Ncl c (kN (Y1 hx1)) ⟨.f 0,tt⟩ call25,Ncl c (fun hg=>Yr (iteF (gcF hg) hx2)) ⟨.f 1,tt⟩ call27,Ncl c (fun hg=>Zau (iteF (gcF hg) hx3)) tt call28,tt⟩ fun _ _ c=>I0 c h (fun h=>?_) fun h=>?_)))
 refine P0 [] c fun _ c=>?_
 replace c:=c.nil (α:=Bool) 4
 cases h
 exact wp_ret (tr (Rg c (none,0) [1] [] (.tmp (.tmp (.tmp .nil)))))
 refine K0 (T0 (Fp [(0,0)] 1 c fun _ c=>Bd h fun x4 hx4 h=>Cg c (XR hx4) ⟨.f 0,tt⟩ call29 fun i1 _ _ c=>?_))
 refine Fp [] 2 c fun _ c=>Bd h fun x5 hx5 h=>Cb c (Xl hx5) ⟨.f 2,.f 3,.f 4,.f 1,tt⟩ call30 fun i2 _ _ c=>?_
 refine Fp [] 6 c fun _ c=>E0 ?_
 cases h
 exact wp_ret (Rg c (i2.1,i2.2) [1] [] (.tmp (.tmp (.tmp .nil))))
theorem XH {p0 r} (h:Yp n p0 = some r):C0 3 [L ga0 p0 gc1] [lR ga0 p0 gc1] (.bool r):=by
 unfold Yp at h
 refine En func3 rfl ntmps3 fun _ fr w c=>?_
 refine P0 [] c fun _ c=>S0 (P0 [] c fun _ c=>I0 c h (fun h=>P0 [] c fun _ c=>rE) fun h=>?_)
 refine K0 (T0 (Fp [] 1 c fun _ c=>Bd h fun x1 hx1 h=>Cb c (X8 hx1) ⟨.f 0,tt⟩ call4 fun i1 _ _ c=>?_))
 refine Eal [I 0,L none ([]:List D.Gate) 0] c fun b1 _ _ c=>?_
 refine Ess 1 [I x1.Inputs,L i1.1 x1.Gates i1.2] c fun _ c=>?_
 replace c:=c.ng
 refine E0 (T0 (Fp [(1,0)] 2 c fun _ c=>Bd h fun x2 hx2 h=>Cb c (Zat hx2) ⟨.f 0,.g 0,tt⟩ call5 fun _ _ _ c=>?_))
 refine Fp [] 1 c fun _ c=>E0 (T0 (Fp [(0,0)] 2 c fun _ c=>?_))
 replace c:=c.fz 0
 replace c:=c.ng
 refine Bd h fun x3 hx3 h=>Cg c (Zab hx3) ⟨.f 1,tt⟩ call6 fun i2 _ _ c=>?_
 refine Fp [] 3 c fun _ c=>?_
 replace c:=c.ng
 refine Eal [I 0,L none ([]:List (List Int)) 0] c fun b2 _ _ c=>?_
 refine Ess 2 [I x3.1.Vars,L i2.1 x3.1.Clauses i2.2.1] c fun _ c=>?_
 replace c:=c.ng
 refine Fp [] 1 c fun _ c=>E0 (S0 (Bd h fun x4 hx4 h=>S0 (rZ [(4,.eq (.bool x4))] [(3,1),(9,1),(11,0),(14,0)] mix c ⟨Ncl c (fun hg=>XV (iteF (gcF hg) hx4)) ⟨.gr 1 2,tt⟩ call7,tt⟩ fun _ _ c=>I0 c h (fun h=>?_) fun h=>?_)))
 exact P0 [] c fun _ c=>rE
 refine K0 (P0 [] c fun _ c=>S0 (P0 [] c fun _ c=>Bd h fun rl1 hit1 h=>?_))
 have hk1:=h
 refine LpR (fun s1  (_:Unit)=>([(3,B b1 0),(4,I x2),(5,B b2 0),(7,I s1.1),(8,I s1.2)],id,[])) (fun s  (_:Unit)=>([(5,B b2 0),(7,I s)],id,[])) hit1 c () (c.rk [0,1,2] [0,1,2]) (fun s1 q1 _ _ _ c h hr1=>?_) fun s1r _ _ _ hrl c=>?_
 refine S0 (T0 (Fp [(2,0)] 3 c fun _ c=>Bd h fun x5 hx5 h=>Eshl c hx5 fun _ c=>?_))
 refine Fp [] 1 c fun _ c=>E0 (I0 c h (fun h=>?_) fun h=>?_)
 replace c:=c.ng
 refine K0 (S0 (wp_block (Bd h fun x6 hx6 h=>S0 (Zbc mix (rM 5 [(4,Pd.nw c.wd 4 (fun i:Oh=>L i.1 x6 i.2) (fun i=>HP.sep [sl4 (L i.1 x6 i.2) x6]))] [(0,0),(2,0)] c (fun ow=>⟨Ncn c (kN (ZaZ hx6)) tt call9,tt⟩) fun ow _ _ hE hc cq=>?_)))))
 obtain ⟨i3,hi3⟩:=hE.nw 4 58
 replace c:=Cx.newt c hc cq [(4,58,_,_)] ⟨hi3,tt⟩
 replace c:=c.flat 3
 replace c:=c.ng
 refine Bd h fun x7 hx7 h=>Cb c (X6 hx7) ⟨.f 1,.g 3,tt⟩ call8 fun i4 _ _ c=>?_
 replace c:=c.ng
 refine Fp [] 1 c fun _ c=>E0 (S0 (T0 (Fp [(0,1)] 2 c fun _ c=>Bd h fun x8 hx8 h=>Cb c (X9 hx8) ⟨.gr 1 2,.g 4,tt⟩ call10 fun _ _ _ c=>?_)))
 refine Fp [] 2 c fun _ c=>Elt 3 ([x2]:List Int) c fun a1 c1 _ _ c=>?_
 replace c:=c.ng
 refine Bd h fun x9 hx9 h=>Cb c (XX hx9) ⟨.g 4,.g 5,tt⟩ call11 fun _ _ _ c=>?_
 refine Fp [] 2 c fun _ c=>E0 (I0 c h (fun h=>?_) fun h=>?_)
 refine P0 [] c fun _ c=>?_
 obtain rfl:=hr1 _ (sk h)
 obtain rfl:=sj hk1
 exact wp_ret (tr (br (tr (tr (br (tr (Rt c () [] [])))))))
 refine K0 (T1 (Fp [] 3 c fun _ c=>Elt 3 ([x2]:List Int) c fun a2 c2 _ _ c=>?_))
 replace c:=c.ng
 refine Bd h fun x10 hx10 h=>Cb c (XX hx10) ⟨.g 4,.g 6,tt⟩ call11 fun _ _ _ c=>?_
 refine Fp [] 2 c fun _ c=>E1 (bk (tn (P1 [] c fun _ c=>Nx h () (c.rk [0,1,2] [0,1,2]))))
 refine wp_exit (te (te (be ?_)))
 obtain rfl:=hr1 _ (sk h)
 exact tn ⟨_,(),rfl,c.rk [0,1,2] [0,1,2]⟩
 subst hrl
 refine T0 (Fp [(0,1)] 1 c fun _ c=>Bd h fun x11 hx11 h=>Cb c (X7 hx11) ⟨.gr 1 2,tt⟩ call12 fun _ _ _ c=>?_)
 replace c:=c.ng
 refine Fp [] 1 c fun _ c=>E0 (T0 (Fp [(0,1)] 1 c fun _ c=>Bd h fun x12 hx12 h=>Cb c (ZaE hx12) ⟨.gr 1 2,.nil,tt⟩ call13 fun i5 _ _ c=>?_))
 refine Fp [] 7 c fun _ c=>E0 (S0 (Ry [(8,1)] mix c fun _ _ c=>?_))
 exact rE
end Go.Proofs.Ytfkjefbonbinnaa
