/- THIS FILE PROVES Rows.FnExactTestsOfCardSaid (package-level tables hold what the program lays): for every input the law FnExactTestsOf returns true, and what it was given reads as it did. -/
import Derived.Test.YtjhiajehpjpibaaGreatDoorCards
import Derived.Test.YtjhiajehpjpibaaGreatDoorTie
import Derived.Deep.DeepHandedRow
import Derived.Lib.LaidTab
import Derived.Test.YtjhiajehpjpibaaGreatDoorWlk
import Derived.Test.YtjhiajehpjpibaaGreatDoorLib2
import Derived.Test.YtjhiajehpjpibaaGreatDoorTestsOf
import Derived.WalkKit
import Derived.ProofKit
import Derived.OpenShut
import Derived.ShutString
import Derived.ChangeOld
import Derived.Below
namespace Go.Proofs.YtjhiajehpjpibaaGreatDoor.fnExactTestsOf
open Go.GL Go.ChangeShapes Go.WideShapes Go.ChangeAt Go.RowKit
open Go.ChangeMaps (open_string shut_string)
set_option linter.unusedVariables false
set_option maxRecDepth 100000
theorem own:ownKnob Tryz.prog.godebug=none:=by kernel_rfl
theorem laidOut:laidOutB Tryz.prog=true:=by kernel_rfl
theorem Zbj:Opens Tryz.prog 69 D.Ins Zaa:=by
 intro H enc w base spare held fuel cs x h;obtain⟨xs,n,rfl,-,hl,hx,hf⟩:=DataW.trod_struct Tryz.underlying69 h
 replace hl:cs.length=4:=hl.trans aj
 obtain⟨a0,h0,f0⟩:=TT hf hx 0 _ 1 rfl (Ta Tryz.underlying3) aj;obtain⟨a1,h1,f1⟩:=TT hf hx 1 _ 1 rfl (Ta Tryz.underlying3) aj;obtain⟨a2,h2,f2⟩:=TT hf hx 2 _ 1 rfl (Ta Tryz.underlying3) aj;obtain⟨a3,h3,f3⟩:=TT hf hx 3 _ 1 rfl (Ta Tryz.underlying3) aj
 match cs,hl with
 |[c0,c1,c2,c3],_=>
  have h0:[c0]=[_]:=h0;obtain rfl:=ZgE h0;have h1:[c1]=[_]:=h1;obtain rfl:=ZgE h1;have h2:[c2]=[_]:=h2;obtain rfl:=ZgE h2;have h3:[c3]=[_]:=h3;obtain rfl:=ZgE h3;exact⟨⟨a0,a1,a2,a3⟩,rfl,f0,f1,f2,f3⟩
theorem IQ:Opens Tryz.prog 24 D.Program PT:=by
 intro H enc w base spare held fuel cs x h;obtain⟨xs,n,rfl,-,hl,hx,hf⟩:=DataW.trod_struct Tryz.underlying24 h
 replace hl:cs.length=4:=hl.trans aj
 obtain⟨a0,h0,f0⟩:=TT hf hx 0 _ 1 rfl (Ta Tryz.underlying3) aj;obtain⟨a1,h1,f1⟩:=TT hf hx 1 _ 1 rfl (Ta Tryz.underlying3) aj;obtain⟨a2,h2,f2⟩:=TT hf hx 2 _ 1 rfl (Ta Tryz.underlying3) aj;obtain⟨a3,h3,f3⟩:=TT hf hx 3 _ 1 rfl (Bw Tryz.underlying22 aj Zbj) aj
 match cs,hl with
 |[c0,c1,c2,c3],_=>
  have h0:[c0]=[_]:=h0;obtain rfl:=ZgE h0;have h1:[c1]=[_]:=h1;obtain rfl:=ZgE h1;have h2:[c2]=[_]:=h2;obtain rfl:=ZgE h2;exact⟨⟨a0,a1,a2,a3⟩,⟨_,rfl,h3⟩,f0,f1,f2,f3⟩
theorem Mg{P:Program}{x:String×DataW Unit}{rest:List (String×DataW Unit)}{W:World}(h:laidMet P (x::rest) W):laidMet P rest W:=by
 obtain⟨ps,⟨g,t,cs,fuel,p,q,hg,ht,hvar,hd,hrest,happ⟩,hnd,hc⟩:=h;subst happ;exact⟨q,hrest,(List.nodup_append.1 hnd).2.1,λb off hm=>hc b off (by simp[hm])⟩
theorem gTab:Tryz.prog.globalNamed "internal/strconv.uint64pow10" =some 0:=by kernel_rfl
theorem gTabType:(Tryz.prog.globals[0]?).map (·.type)=some 265:=by kernel_rfl
theorem cellsT:Tryz.prog.cellsOf 265=20:=by kernel_rfl
theorem cellsE:Tryz.prog.cellsOf 248=1:=by kernel_rfl
theorem tabD:(Rows.laid_internal_strconv_uint64pow10:DataW Unit)=Lib.tabData .u64 Lib.pow10Tab:=by kernel_rfl
theorem table{W:World}(h:laidMetH Tryz.prog Rows.fnExactTestsOfRow.laid W):Lib.TabIs Tryz.prog W "internal/strconv.uint64pow10" .u64 Lib.pow10Tab:=by
 have h:laidMet Tryz.prog Rows.fnExactTestsOfRow.laid W:=h;have h:laidMet Tryz.prog (("internal/strconv.uint64pow10",(Rows.laid_internal_strconv_uint64pow10:DataW Unit))::[]) W:=(Mg (Mg h));rw[tabD]at h;exact Lib.tabIs_of_head gTab gTabType Tryz.underlying265 Tryz.underlying248 cellsE cellsT h
set_option maxRecDepth 100000 in
theorem contract(H:Type)(enc:TypeId×Value->H)(W:World)(base:Nat)(args:Array Value)(ds gs:List (DataW H))(before:List MemPlace)
  (hval0:∀(j:Nat)t v,Tryz.f3.params[j]? =some t->args[j]? =some v->Value.okWide Tryz.prog W .any base t v)
  (hW:DataW.Whole enc Tryz.prog Tryz.f3.params.toList Rows.fnExactTestsOfSpec.vars false W args.toList ds gs before)(hL:laidMetH Tryz.prog Rows.fnExactTestsOfRow.laid W):
  Calls Tryz.prog 3 args W λe W'=>∃v,e= .returned v/\Rows.fnExactTestsOfSpec.post enc Tryz.prog Tryz.f3 false true false false W args v W':=by
 have hval:∀(j:Nat)t v,Tryz.f3.params[j]? =some t->args[j]? =some v->Value.okWide Tryz.prog W .any base t v:=hval0;have hW':=hW;obtain⟨p,q,hA0,hV,rfl,hfz,hnd⟩:=hW;have hA:DataW.TrodAll enc Tryz.prog W 0 (λ_=>true) true Tryz.f3.params.toList args.toList ds p:=hA0;rw[Tryz.params3]at hA hval;obtain⟨v0,vs0,d0,ds0,p0,q0,hargs,rfl,rfl,h0,r0⟩:=trodAll_cons hA;obtain⟨v1,vs1,d1,ds1,p1,q1,rfl,rfl,rfl,h1,r1⟩:=trodAll_cons r0;obtain⟨v2,vs2,d2,ds2,p2,q2,rfl,rfl,rfl,h2,r2⟩:=trodAll_cons r1;obtain⟨v3,vs3,d3,ds3,p3,q3,rfl,rfl,rfl,h3,r3⟩:=trodAll_cons r2;obtain⟨rfl,rfl,rfl⟩:=trodAll_nil r3;obtain rfl:args= #[v0,v1,v2,v3]:=by cases args;simp_all
 obtain⟨rfl,rfl⟩:=trodVars_none hV;have lt0:∀x∈p0,x.block<W.heap.size:=by obtain⟨m,hm⟩:=h0;exact DataW.trod_lt m _ _ _ hm
 obtain⟨x0,rv0,fit0⟩:=El Tryz.underlying24 rfl IQ (hval 0 24 v0 rfl rfl) h0;have lt1:∀x∈p1,x.block<W.heap.size:=by obtain⟨m,hm⟩:=h1;exact DataW.trod_lt m _ _ _ hm
 have k1:=h1;obtain⟨x1,rfl,rfl,rfl,w1⟩:=open_int Tryz.underlying3 (hval 1 3 v1 rfl rfl) k1;have fit1:fitInt x1:=by simp only[Lit.wf,ZfF,ZfN]at w1;exact w1
 have lt2:∀x∈p2,x.block<W.heap.size:=by obtain⟨m,hm⟩:=h2;exact DataW.trod_lt m _ _ _ hm
 have k2:=h2;obtain⟨x2,rfl,rfl,rfl,w2⟩:=open_int Tryz.underlying3 (hval 2 3 v2 rfl rfl) k2;have fit2:fitInt x2:=by simp only[Lit.wf,ZfF,ZfN]at w2;exact w2
 have lt3:∀x∈p3,x.block<W.heap.size:=by obtain⟨m,hm⟩:=h3;exact DataW.trod_lt m _ _ _ hm
 have k3:=h3;obtain⟨x3,rfl,rfl,rfl,w3⟩:=open_int Tryz.underlying3 (hval 3 3 v3 rfl rfl) k3;have fit3:fitInt x3:=by simp only[Lit.wf,ZfF,ZfN]at w3;exact w3
 clear hA0 hval0;obtain⟨n,hfin⟩:=fin_FnExactTestsOf x0 fit0 x1 fit1 x2 fit2 x3 fit3;obtain⟨u0_3,rfl,r0_3⟩:=RV.Program rv0;obtain⟨a0_3,c0_3,rfl,_⟩:=RV.slice r0_3;refine Calls.mono (Con.law (QX hfin) (AllF.of _ ⟨r0_3,(TB.of (table hL) (F:=λj=>j<W.heap.size) λ_ hj=>hj),trivial⟩) λ_ h=>h) λe W'⟨v,he,hv,hc⟩=>?_;subst he;subst hv;have bel:Below W.heap.size W W':=⟨hc.os,hc.tape,hc.output,hc.size,λk hk=>hc.block k hk id⟩;exact⟨_,rfl,_,_,_,[],_,[],hW',trodAll_mk1 (shut_bool Tryz.underlying4 _),(trodAll_cons_mk (Below.trod laidOut aj (of_decide_eq_true aj) h0 bel lt0) (trodAll_cons_mk (Below.trod laidOut aj (of_decide_eq_true aj) h1 bel lt1) (trodAll_cons_mk (Below.trod laidOut aj (of_decide_eq_true aj) h2 bel lt2) (trodAll_cons_mk (Below.trod laidOut aj (of_decide_eq_true aj) h3 bel lt3) trodAll_mk0)))),rfl,bel.frame _,λh=>by cases h⟩
noncomputable def laidWorld(os:Os):World:={World.holding Tryz.prog os ⟨#[],#[],[]⟩with heap:=((((World.holding Tryz.prog os ⟨#[],#[],[]⟩).heap.modify 2 λo=>match o with|.cells _ t frozen=>.cells #[.int .u8 0,.int .u8 1,.int .u8 28,.int .u8 2,.int .u8 29,.int .u8 14,.int .u8 24,.int .u8 3,.int .u8 30,.int .u8 22,.int .u8 20,.int .u8 15,.int .u8 25,.int .u8 17,.int .u8 4,.int .u8 8,.int .u8 31,.int .u8 27,.int .u8 13,.int .u8 23,.int .u8 21,.int .u8 19,.int .u8 16,.int .u8 7,.int .u8 26,.int .u8 12,.int .u8 18,.int .u8 6,.int .u8 11,.int .u8 5,.int .u8 10,.int .u8 9] t frozen|o=>o).modify 3 λo=>match o with|.cells _ t frozen=>.cells #[.int .u8 0,.int .u8 1,.int .u8 56,.int .u8 2,.int .u8 57,.int .u8 49,.int .u8 28,.int .u8 3,.int .u8 61,.int .u8 58,.int .u8 42,.int .u8 50,.int .u8 38,.int .u8 29,.int .u8 17,.int .u8 4,.int .u8 62,.int .u8 47,.int .u8 59,.int .u8 36,.int .u8 45,.int .u8 43,.int .u8 51,.int .u8 22,.int .u8 53,.int .u8 39,.int .u8 33,.int .u8 30,.int .u8 24,.int .u8 18,.int .u8 12,.int .u8 5,.int .u8 63,.int .u8 55,.int .u8 48,.int .u8 27,.int .u8 60,.int .u8 41,.int .u8 37,.int .u8 16,.int .u8 46,.int .u8 35,.int .u8 44,.int .u8 21,.int .u8 52,.int .u8 32,.int .u8 23,.int .u8 11,.int .u8 54,.int .u8 26,.int .u8 40,.int .u8 15,.int .u8 34,.int .u8 20,.int .u8 31,.int .u8 10,.int .u8 25,.int .u8 14,.int .u8 19,.int .u8 9,.int .u8 13,.int .u8 8,.int .u8 7,.int .u8 6] t frozen|o=>o).modify 0 λo=>match o with|.cells _ t frozen=>.cells #[.int .u64 1,.int .u64 10,.int .u64 100,.int .u64 1000,.int .u64 10000,.int .u64 100000,.int .u64 1000000,.int .u64 10000000,.int .u64 100000000,.int .u64 1000000000,.int .u64 10000000000,.int .u64 100000000000,.int .u64 1000000000000,.int .u64 10000000000000,.int .u64 100000000000000,.int .u64 1000000000000000,.int .u64 10000000000000000,.int .u64 100000000000000000,.int .u64 1000000000000000000,.int .u64 10000000000000000000] t frozen|o=>o)}
theorem ZcQ(os:Os):laidMet Tryz.prog Rows.fnExactTestsOfRow.laid ((laidWorld os).forCall (λ_ _=>0) ⟨#[],#[.agg #[.int .i64 0,.int .i64 0,.int .i64 0,.slice none 0 0],.int .i64 0,.int .i64 0,.int .i64 0],[]⟩).memory:=
 laidMet_of_run' 8 aj aj
theorem reads(os:Os){H:Type}(enc:TypeId×Value->H):∃places,DataW.whole enc Tryz.prog ((laidWorld os).forCall (λ_ _=>0) ⟨#[],#[.agg #[.int .i64 0,.int .i64 0,.int .i64 0,.slice none 0 0],.int .i64 0,.int .i64 0,.int .i64 0],[]⟩).memory Tryz.f3.params.toList Rows.fnExactTestsOfSpec.vars false (#[.agg #[.int .i64 0,.int .i64 0,.int .i64 0,.slice none 0 0],.int .i64 0,.int .i64 0,.int .i64 0]:Array Value).toList 8=some ([.agg [.lit (.int .i64 0),.lit (.int .i64 0),.lit (.int .i64 0),.nil],.lit (.int .i64 0),.lit (.int .i64 0),.lit (.int .i64 0)],[],places):=
 ⟨[],by kernel_rfl⟩
set_option maxRecDepth 100000 in
theorem lifted(os:Os)(started:os.Started)(H:Type)(enc:TypeId×Value->H)(F:Stop.Interp):
  ReturnsInHanded {} Tryz.checked os 3 .any ((OpenSpec.ofChange Rows.fnExactTestsOfSpec).preRow enc Tryz.prog Tryz.f3 Rows.fnExactTestsOfRow.domain false Rows.fnExactTestsOfRow.laid) (((OpenSpec.ofChange Rows.fnExactTestsOfSpec).at F).post enc Tryz.prog Tryz.f3 false true false false):=by
 obtain⟨places,hx⟩:=reads os enc;refine returnsInHanded_of_row (C:=Tryz.checked) (s:=OpenSpec.ofChange Rows.fnExactTestsOfSpec) own started aj Tryz.func3
  (witness_row_at (enc:=enc) (C:=Tryz.checked) false (laidWorld os) #[.agg #[.int .i64 0,.int .i64 0,.int .i64 0,.slice none 0 0],.int .i64 0,.int .i64 0,.int .i64 0] rfl aj aj aj
   (OpenSpec.preRow_of_cond 8 hx aj (λk hk=>by cases hk) aj (ZcQ os))) ?_
 intro W base args ds gs before hval hW _ _ _ hL _ _;exact contract H enc W base args ds gs before hval hW hL
theorem said:Rows.FnExactTestsOfSaid:=
 OpenClaim.holds_of_cond 3 Tryz.f3 rfl rfl rfl rfl rfl rfl rfl ⟨rfl,rfl,rfl,rfl,rfl⟩ rfl rfl rfl rfl rfl aj Tryz.func3 aj
  (of_decide_eq_true aj) (by unfold Func.isWrapper;first|(rw[ZfC (by decide+kernel)];kernel_rfl)|(rw[ZfD (by decide+kernel)];exact⟨rfl,rfl⟩))
  (λos started H enc _ F=>by rw[OpenClaim.pre_eq_preRow];exact lifted os started H enc F)
theorem plain(f:FuncId)(fn:Func)(hf:Tryz.pinned.checked.prog.funcNamed "loop.example/g03219/laws.FnExactTestsOf" =some f)(hfn:Tryz.pinned.checked.prog.funcs[f]? =some fn):
  false=Tryz.pinned.checked.prog.looks []/\∀(j:Nat)t,fn.params[j]? =some t->Tryz.pinned.checked.prog.wantsStandIn t=false:=by
 obtain rfl:f=3:=Option.some.inj ((show Tryz.prog.funcNamed "loop.example/g03219/laws.FnExactTestsOf" =some 3 by kernel_rfl).symm.trans hf) |>.symm;obtain rfl:fn=Tryz.f3:=(Option.some.inj (Tryz.func3.symm.trans hfn)).symm;refine⟨by kernel_rfl,λj t ht=>?_⟩;rw[Tryz.params3]at ht;have hm:t=24\/t=3:=by simpa using Array.mem_of_getElem? ht
 rcases hm with rfl|rfl
 ·exact(show Tryz.prog.wantsStandIn 24=false by kernel_rfl)
 ·exact(show Tryz.prog.wantsStandIn 3=false by kernel_rfl)
theorem proved:Rows.FnExactTestsOfCardSaid:=
 Claim7.holds_tied_plain_at .later [] _ _ _ _ said (λ_ h=>by cases h) aj (λ_ h=>by cases h) fnExactTestsOf_row_tie rfl ⟨rfl,rfl⟩ aj rfl plain aj
#print axioms proved
end Go.Proofs.YtjhiajehpjpibaaGreatDoor.fnExactTestsOf
