/- THIS FILE PROVES Rows.FnExactPathInputsCardSaid (package-level tables hold what the program lays): for every input the law FnExactPathInputs returns true, and what it was given reads as it did. -/
import Derived.Test.YtccamimfkohabaaGreatDoorCards
import Derived.Test.YtccamimfkohabaaGreatDoorTie
import Derived.Deep.DeepHandedRow
import Derived.Lib.LaidTab
import Derived.Test.YtccamimfkohabaaGreatDoorWlk
import Derived.Test.YtccamimfkohabaaGreatDoorLib3
import Derived.Test.YtccamimfkohabaaGreatDoorPathInputs
import Derived.WalkKit
import Derived.ProofKit
import Derived.OpenShut
import Derived.ShutString
import Derived.ChangeOld
import Derived.Below
namespace Go.Proofs.YtccamimfkohabaaGreatDoor.fnExactPathInputs
open Go.GL Go.ChangeShapes Go.WideShapes Go.ChangeAt Go.RowKit
open Go.ChangeMaps (open_string shut_string)
set_option linter.unusedVariables false
set_option maxRecDepth 100000
theorem own:ownKnob Tryz.prog.godebug=none:=by kernel_rfl
theorem laidOut:laidOutB Tryz.prog=true:=by kernel_rfl
theorem Ad:Opens Tryz.prog 97 D.Ins CB:=by
 intro H enc w base spare held fuel cs x h;obtain⟨xs,n,rfl,-,hl,hx,hf⟩:=DataW.trod_struct Tryz.underlying97 h
 replace hl:cs.length=4:=hl.trans Z
 obtain⟨a0,h0,f0⟩:=YU hf hx 0 _ 1 rfl (YL Tryz.underlying3) Z;obtain⟨a1,h1,f1⟩:=YU hf hx 1 _ 1 rfl (YL Tryz.underlying3) Z;obtain⟨a2,h2,f2⟩:=YU hf hx 2 _ 1 rfl (YL Tryz.underlying3) Z;obtain⟨a3,h3,f3⟩:=YU hf hx 3 _ 1 rfl (YL Tryz.underlying3) Z
 match cs,hl with
 |[c0,c1,c2,c3],_=>
  have h0:[c0]=[_]:=h0;obtain rfl:=Ze5 h0;have h1:[c1]=[_]:=h1;obtain rfl:=Ze5 h1;have h2:[c2]=[_]:=h2;obtain rfl:=Ze5 h2;have h3:[c3]=[_]:=h3;obtain rfl:=Ze5 h3;exact⟨⟨a0,a1,a2,a3⟩,rfl,f0,f1,f2,f3⟩
theorem JG:Opens Tryz.prog 24 D.Program PM:=by
 intro H enc w base spare held fuel cs x h;obtain⟨xs,n,rfl,-,hl,hx,hf⟩:=DataW.trod_struct Tryz.underlying24 h
 replace hl:cs.length=4:=hl.trans Z
 obtain⟨a0,h0,f0⟩:=YU hf hx 0 _ 1 rfl (YL Tryz.underlying3) Z;obtain⟨a1,h1,f1⟩:=YU hf hx 1 _ 1 rfl (YL Tryz.underlying3) Z;obtain⟨a2,h2,f2⟩:=YU hf hx 2 _ 1 rfl (YL Tryz.underlying3) Z;obtain⟨a3,h3,f3⟩:=YU hf hx 3 _ 1 rfl (Uu Tryz.underlying22 Z Ad) Z
 match cs,hl with
 |[c0,c1,c2,c3],_=>
  have h0:[c0]=[_]:=h0;obtain rfl:=Ze5 h0;have h1:[c1]=[_]:=h1;obtain rfl:=Ze5 h1;have h2:[c2]=[_]:=h2;obtain rfl:=Ze5 h2;exact⟨⟨a0,a1,a2,a3⟩,⟨_,rfl,h3⟩,f0,f1,f2,f3⟩
theorem Qt:Opens Tryz.prog 73 D.Term Xy:=
 DK Tryz.underlying73 Tryz.underlying3 Tryz.underlying9 Tryz.underlying25 Z ⟨_,rfl,rfl,rfl⟩ ⟨_,rfl,rfl,rfl⟩ ⟨_,rfl,rfl,rfl⟩ ⟨_,rfl,rfl,rfl⟩ ⟨_,rfl,rfl,rfl⟩ Z Z Z
theorem Dj:Opens Tryz.prog 28 D.Path NN:=by
 intro H enc w base spare held fuel cs x h;obtain⟨xs,n,rfl,-,hl,hx,hf⟩:=DataW.trod_struct Tryz.underlying28 h
 replace hl:cs.length=10:=hl.trans Z
 obtain⟨a0,h0,f0⟩:=YU hf hx 0 _ 1 rfl (YL Tryz.underlying3) Z;obtain⟨a1,h1,f1⟩:=YU hf hx 1 _ 1 rfl (Uu Tryz.underlying25 Z Qt) Z;obtain⟨a2,h2,f2⟩:=YU hf hx 2 _ 1 rfl (Uu Tryz.underlying25 Z Qt) Z;obtain⟨a3,h3,f3⟩:=YU hf hx 3 _ 1 rfl (Uu Tryz.underlying26 Z (YL Tryz.underlying3)) Z;obtain⟨a4,h4,f4⟩:=YU hf hx 4 _ 1 rfl (YL Tryz.underlying3) Z;obtain⟨a5,h5,f5⟩:=YU hf hx 5 _ 1 rfl (Uu Tryz.underlying25 Z Qt) Z;obtain⟨a6,h6,f6⟩:=YU hf hx 6 _ 1 rfl (YL Tryz.underlying3) Z;obtain⟨a7,h7,f7⟩:=YU hf hx 7 _ 1 rfl (YL Tryz.underlying3) Z;obtain⟨a8,h8,f8⟩:=YU hf hx 8 _ 1 rfl (Uu Tryz.underlying25 Z Qt) Z;obtain⟨a9,h9,f9⟩:=YU hf hx 9 _ 1 rfl (Uu Tryz.underlying26 Z (YL Tryz.underlying3)) Z
 match cs,hl with
 |[c0,c1,c2,c3,c4,c5,c6,c7,c8,c9],_=>
  have h0:[c0]=[_]:=h0;obtain rfl:=Ze5 h0;have h4:[c4]=[_]:=h4;obtain rfl:=Ze5 h4;have h6:[c6]=[_]:=h6;obtain rfl:=Ze5 h6;have h7:[c7]=[_]:=h7;obtain rfl:=Ze5 h7;exact⟨⟨a0,a1,a2,a3,a4,a5,a6,a7,a8,a9⟩,⟨_,_,_,_,_,_,rfl,h1,h2,h3,h5,h8,h9⟩,f0,f1,f2,f3,f4,f5,f6,f7,f8,f9⟩
theorem OO{P:Program}{x:String×DataW Unit}{rest:List (String×DataW Unit)}{W:World}(h:laidMet P (x::rest) W):laidMet P rest W:=by
 obtain⟨ps,⟨g,t,cs,fuel,p,q,hg,ht,hvar,hd,hrest,happ⟩,hnd,hc⟩:=h;subst happ;exact⟨q,hrest,(List.nodup_append.1 hnd).2.1,λb off hm=>hc b off (by simp[hm])⟩
theorem gTab:Tryz.prog.globalNamed "internal/strconv.uint64pow10" =some 0:=by kernel_rfl
theorem gTabType:(Tryz.prog.globals[0]?).map (·.type)=some 233:=by kernel_rfl
theorem cellsT:Tryz.prog.cellsOf 233=20:=by kernel_rfl
theorem cellsE:Tryz.prog.cellsOf 216=1:=by kernel_rfl
theorem tabD:(Rows.laid_internal_strconv_uint64pow10:DataW Unit)=Lib.tabData .u64 Lib.pow10Tab:=by kernel_rfl
theorem table{W:World}(h:laidMetH Tryz.prog Rows.fnExactPathInputsRow.laid W):Lib.TabIs Tryz.prog W "internal/strconv.uint64pow10" .u64 Lib.pow10Tab:=by
 have h:laidMet Tryz.prog Rows.fnExactPathInputsRow.laid W:=h;have h:laidMet Tryz.prog (("internal/strconv.uint64pow10",(Rows.laid_internal_strconv_uint64pow10:DataW Unit))::[]) W:=(OO (OO h));rw[tabD]at h;exact Lib.tabIs_of_head gTab gTabType Tryz.underlying233 Tryz.underlying216 cellsE cellsT h
set_option maxRecDepth 100000 in
theorem contract(H:Type)(enc:TypeId×Value->H)(W:World)(base:Nat)(args:Array Value)(ds gs:List (DataW H))(before:List MemPlace)
  (hval0:∀(j:Nat)t v,Tryz.f3.params[j]? =some t->args[j]? =some v->Value.okWide Tryz.prog W .any base t v)
  (hW:DataW.Whole enc Tryz.prog Tryz.f3.params.toList Rows.fnExactPathInputsSpec.vars false W args.toList ds gs before)(hL:laidMetH Tryz.prog Rows.fnExactPathInputsRow.laid W):
  Calls Tryz.prog 3 args W λe W'=>∃v,e= .returned v/\Rows.fnExactPathInputsSpec.post enc Tryz.prog Tryz.f3 false true false false W args v W':=by
 have hval:∀(j:Nat)t v,Tryz.f3.params[j]? =some t->args[j]? =some v->Value.okWide Tryz.prog W .any base t v:=hval0;have hW':=hW;obtain⟨p,q,hA0,hV,rfl,hfz,hnd⟩:=hW;have hA:DataW.TrodAll enc Tryz.prog W 0 (λ_=>true) true Tryz.f3.params.toList args.toList ds p:=hA0;rw[Tryz.params3]at hA hval;obtain⟨v0,vs0,d0,ds0,p0,q0,hargs,rfl,rfl,h0,r0⟩:=trodAll_cons hA;obtain⟨v1,vs1,d1,ds1,p1,q1,rfl,rfl,rfl,h1,r1⟩:=trodAll_cons r0;obtain⟨v2,vs2,d2,ds2,p2,q2,rfl,rfl,rfl,h2,r2⟩:=trodAll_cons r1;obtain⟨rfl,rfl,rfl⟩:=trodAll_nil r2;obtain rfl:args= #[v0,v1,v2]:=by cases args;simp_all
 obtain⟨rfl,rfl⟩:=trodVars_none hV;have lt0:∀x∈p0,x.block<W.heap.size:=by obtain⟨m,hm⟩:=h0;exact DataW.trod_lt m _ _ _ hm
 obtain⟨x0,rv0,fit0⟩:=MN Tryz.underlying24 rfl JG (hval 0 24 v0 rfl rfl) h0;have lt1:∀x∈p1,x.block<W.heap.size:=by obtain⟨m,hm⟩:=h1;exact DataW.trod_lt m _ _ _ hm
 obtain⟨x1,rv1,fit1⟩:=MN Tryz.underlying28 rfl Dj (hval 1 28 v1 rfl rfl) h1;have lt2:∀x∈p2,x.block<W.heap.size:=by obtain⟨m,hm⟩:=h2;exact DataW.trod_lt m _ _ _ hm
 have k2:=h2;obtain⟨x2,rfl,rfl,rfl,w2⟩:=open_int Tryz.underlying3 (hval 2 3 v2 rfl rfl) k2;have fit2:fitInt x2:=by simp only[Lit.wf,Zek,Zeq]at w2;exact w2
 clear hA0 hval0;obtain⟨n,hfin⟩:=fin_FnExactPathInputs x0 fit0 x1 fit1 x2 fit2;obtain⟨u0_3,rfl,r0_3⟩:=RV.Program rv0;obtain⟨a0_3,c0_3,rfl,_⟩:=RV.slice r0_3;obtain⟨u1_1,u1_2,u1_3,u1_5,u1_8,u1_9,rfl,r1_1,r1_2,r1_3,r1_5,r1_8,r1_9⟩:=RV.Path rv1;obtain⟨a1_1,c1_1,rfl,_⟩:=RV.slice r1_1;obtain⟨a1_2,c1_2,rfl,_⟩:=RV.slice r1_2;obtain⟨a1_3,c1_3,rfl,_⟩:=RV.slice r1_3;obtain⟨a1_5,c1_5,rfl,_⟩:=RV.slice r1_5;obtain⟨a1_8,c1_8,rfl,_⟩:=RV.slice r1_8;obtain⟨a1_9,c1_9,rfl,_⟩:=RV.slice r1_9;refine Calls.mono (Con.law (Rk hfin) (AllF.of _ ⟨r0_3,r1_1,r1_2,r1_3,r1_5,r1_8,r1_9,(TB.of (table hL) (F:=λj=>j<W.heap.size) λ_ hj=>hj),trivial⟩) λ_ h=>h) λe W'⟨v,he,hv,hc⟩=>?_;subst he;subst hv;have bel:=hc.to_below;exact⟨_,rfl,_,_,_,[],_,[],hW',trodAll_mk1 (shut_bool Tryz.underlying4 _),(trodAll_cons_mk (Below.trod laidOut Z (of_decide_eq_true Z) h0 bel lt0) (trodAll_cons_mk (Below.trod laidOut Z (of_decide_eq_true Z) h1 bel lt1) (trodAll_cons_mk (Below.trod laidOut Z (of_decide_eq_true Z) h2 bel lt2) trodAll_mk0))),rfl,bel.frame _,λh=>by cases h⟩
noncomputable def laidWorld(os:Os):World:={World.holding Tryz.prog os ⟨#[],#[],[]⟩with heap:=((((World.holding Tryz.prog os ⟨#[],#[],[]⟩).heap.modify 2 λo=>match o with|.cells _ t frozen=>.cells #[.int .u8 0,.int .u8 1,.int .u8 28,.int .u8 2,.int .u8 29,.int .u8 14,.int .u8 24,.int .u8 3,.int .u8 30,.int .u8 22,.int .u8 20,.int .u8 15,.int .u8 25,.int .u8 17,.int .u8 4,.int .u8 8,.int .u8 31,.int .u8 27,.int .u8 13,.int .u8 23,.int .u8 21,.int .u8 19,.int .u8 16,.int .u8 7,.int .u8 26,.int .u8 12,.int .u8 18,.int .u8 6,.int .u8 11,.int .u8 5,.int .u8 10,.int .u8 9] t frozen|o=>o).modify 3 λo=>match o with|.cells _ t frozen=>.cells #[.int .u8 0,.int .u8 1,.int .u8 56,.int .u8 2,.int .u8 57,.int .u8 49,.int .u8 28,.int .u8 3,.int .u8 61,.int .u8 58,.int .u8 42,.int .u8 50,.int .u8 38,.int .u8 29,.int .u8 17,.int .u8 4,.int .u8 62,.int .u8 47,.int .u8 59,.int .u8 36,.int .u8 45,.int .u8 43,.int .u8 51,.int .u8 22,.int .u8 53,.int .u8 39,.int .u8 33,.int .u8 30,.int .u8 24,.int .u8 18,.int .u8 12,.int .u8 5,.int .u8 63,.int .u8 55,.int .u8 48,.int .u8 27,.int .u8 60,.int .u8 41,.int .u8 37,.int .u8 16,.int .u8 46,.int .u8 35,.int .u8 44,.int .u8 21,.int .u8 52,.int .u8 32,.int .u8 23,.int .u8 11,.int .u8 54,.int .u8 26,.int .u8 40,.int .u8 15,.int .u8 34,.int .u8 20,.int .u8 31,.int .u8 10,.int .u8 25,.int .u8 14,.int .u8 19,.int .u8 9,.int .u8 13,.int .u8 8,.int .u8 7,.int .u8 6] t frozen|o=>o).modify 0 λo=>match o with|.cells _ t frozen=>.cells #[.int .u64 1,.int .u64 10,.int .u64 100,.int .u64 1000,.int .u64 10000,.int .u64 100000,.int .u64 1000000,.int .u64 10000000,.int .u64 100000000,.int .u64 1000000000,.int .u64 10000000000,.int .u64 100000000000,.int .u64 1000000000000,.int .u64 10000000000000,.int .u64 100000000000000,.int .u64 1000000000000000,.int .u64 10000000000000000,.int .u64 100000000000000000,.int .u64 1000000000000000000,.int .u64 10000000000000000000] t frozen|o=>o)}
theorem Zbb(os:Os):laidMet Tryz.prog Rows.fnExactPathInputsRow.laid ((laidWorld os).forCall (λ_ _=>0) ⟨#[],#[.agg #[.int .i64 0,.int .i64 0,.int .i64 0,.slice none 0 0],.agg #[.int .i64 0,.slice none 0 0,.slice none 0 0,.slice none 0 0,.int .i64 0,.slice none 0 0,.int .i64 0,.int .i64 0,.slice none 0 0,.slice none 0 0],.int .i64 0],[]⟩).memory:=
 laidMet_of_run' 8 Z Z
theorem reads(os:Os){H:Type}(enc:TypeId×Value->H):∃places,DataW.whole enc Tryz.prog ((laidWorld os).forCall (λ_ _=>0) ⟨#[],#[.agg #[.int .i64 0,.int .i64 0,.int .i64 0,.slice none 0 0],.agg #[.int .i64 0,.slice none 0 0,.slice none 0 0,.slice none 0 0,.int .i64 0,.slice none 0 0,.int .i64 0,.int .i64 0,.slice none 0 0,.slice none 0 0],.int .i64 0],[]⟩).memory Tryz.f3.params.toList Rows.fnExactPathInputsSpec.vars false (#[.agg #[.int .i64 0,.int .i64 0,.int .i64 0,.slice none 0 0],.agg #[.int .i64 0,.slice none 0 0,.slice none 0 0,.slice none 0 0,.int .i64 0,.slice none 0 0,.int .i64 0,.int .i64 0,.slice none 0 0,.slice none 0 0],.int .i64 0]:Array Value).toList 8=some ([.agg [.lit (.int .i64 0),.lit (.int .i64 0),.lit (.int .i64 0),.nil],.agg [.lit (.int .i64 0),.nil,.nil,.nil,.lit (.int .i64 0),.nil,.lit (.int .i64 0),.lit (.int .i64 0),.nil,.nil],.lit (.int .i64 0)],[],places):=
 ⟨[],by kernel_rfl⟩
set_option maxRecDepth 100000 in
theorem lifted(os:Os)(started:os.Started)(H:Type)(enc:TypeId×Value->H)(F:Stop.Interp):
  ReturnsInHanded {} Tryz.checked os 3 .any ((OpenSpec.ofChange Rows.fnExactPathInputsSpec).preRow enc Tryz.prog Tryz.f3 Rows.fnExactPathInputsRow.domain false Rows.fnExactPathInputsRow.laid) (((OpenSpec.ofChange Rows.fnExactPathInputsSpec).at F).post enc Tryz.prog Tryz.f3 false true false false):=by
 obtain⟨places,hx⟩:=reads os enc;refine returnsInHanded_of_row (C:=Tryz.checked) (s:=OpenSpec.ofChange Rows.fnExactPathInputsSpec) own started Z Tryz.func3
  (witness_row_at (enc:=enc) (C:=Tryz.checked) false (laidWorld os) #[.agg #[.int .i64 0,.int .i64 0,.int .i64 0,.slice none 0 0],.agg #[.int .i64 0,.slice none 0 0,.slice none 0 0,.slice none 0 0,.int .i64 0,.slice none 0 0,.int .i64 0,.int .i64 0,.slice none 0 0,.slice none 0 0],.int .i64 0] rfl Z Z Z
   (OpenSpec.preRow_of_cond 8 hx Z (λk hk=>by cases hk) Z (Zbb os))) ?_
 intro W base args ds gs before hval hW _ _ _ hL _ _;exact contract H enc W base args ds gs before hval hW hL
theorem said:Rows.FnExactPathInputsSaid:=
 OpenClaim.holds_of_cond 3 Tryz.f3 rfl rfl rfl rfl rfl rfl rfl ⟨rfl,rfl,rfl,rfl,rfl⟩ rfl rfl rfl rfl rfl Z Tryz.func3 Z
  (of_decide_eq_true Z) (by unfold Func.isWrapper;first|(rw[Zei (by decide+kernel)];kernel_rfl)|(rw[Zem (by decide+kernel)];exact⟨rfl,rfl⟩))
  (λos started H enc _ F=>by rw[OpenClaim.pre_eq_preRow];exact lifted os started H enc F)
theorem plain(f:FuncId)(fn:Func)(hf:Tryz.pinned.checked.prog.funcNamed "loop.example/g03219/laws.FnExactPathInputs" =some f)(hfn:Tryz.pinned.checked.prog.funcs[f]? =some fn):
  false=Tryz.pinned.checked.prog.looks []/\∀(j:Nat)t,fn.params[j]? =some t->Tryz.pinned.checked.prog.wantsStandIn t=false:=by
 obtain rfl:f=3:=Option.some.inj ((show Tryz.prog.funcNamed "loop.example/g03219/laws.FnExactPathInputs" =some 3 by kernel_rfl).symm.trans hf) |>.symm;obtain rfl:fn=Tryz.f3:=(Option.some.inj (Tryz.func3.symm.trans hfn)).symm;refine⟨by kernel_rfl,λj t ht=>?_⟩;rw[Tryz.params3]at ht;have hm:t=24\/t=28\/t=3:=by simpa using Array.mem_of_getElem? ht
 rcases hm with rfl|rfl|rfl
 ·exact(show Tryz.prog.wantsStandIn 24=false by kernel_rfl)
 ·exact(show Tryz.prog.wantsStandIn 28=false by kernel_rfl)
 ·exact(show Tryz.prog.wantsStandIn 3=false by kernel_rfl)
theorem proved:Rows.FnExactPathInputsCardSaid:=
 Claim7.holds_tied_plain_at .later [] _ _ _ _ said (λ_ h=>by cases h) Z (λ_ h=>by cases h) fnExactPathInputs_row_tie rfl ⟨rfl,rfl⟩ Z rfl plain Z
#print axioms proved
end Go.Proofs.YtccamimfkohabaaGreatDoor.fnExactPathInputs
