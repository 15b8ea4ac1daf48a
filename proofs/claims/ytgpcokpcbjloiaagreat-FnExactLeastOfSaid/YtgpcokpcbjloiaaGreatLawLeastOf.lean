/- THIS FILE PROVES Rows.FnExactLeastOfSaid: for every input the law FnExactLeastOf returns true, and what it was given reads as it did. -/
import Derived.Test.YtgpcokpcbjloiaaGreatRows
import Derived.Test.YtgpcokpcbjloiaaGreatWlk
import Derived.Test.YtgpcokpcbjloiaaGreatLib3
import Derived.Test.YtgpcokpcbjloiaaGreatLeastOf
import Derived.WalkKit
import Derived.ProofKit
import Derived.OpenShut
import Derived.ShutString
import Derived.ChangeOld
import Derived.Below
namespace Go.Proofs.YtgpcokpcbjloiaaGreat.fnExactLeastOf
open Go.GL Go.ChangeShapes Go.WideShapes Go.ChangeAt Go.RowKit
open Go.ChangeMaps (open_string shut_string)
set_option linter.unusedVariables false
set_option maxRecDepth 100000
theorem own:ownKnob Tryz.prog.godebug = none:=by kernel_rfl
theorem laidOut:laidOutB Tryz.prog = true:=by kernel_rfl
theorem ZeF:Opens Tryz.prog 24 D.Term Xg:=
 Zhn Tryz.underlying24 Tryz.underlying3 Tryz.underlying9 Tryz.underlying22 (by kernel_rfl) ⟨_,rfl,rfl,rfl⟩ ⟨_,rfl,rfl,rfl⟩ ⟨_,rfl,rfl,rfl⟩ ⟨_,rfl,rfl,rfl⟩ ⟨_,rfl,rfl,rfl⟩ (by kernel_rfl) (by kernel_rfl) (by kernel_rfl)
set_option maxRecDepth 100000 in
theorem lifted (os:Os) (started:os.Started) (H:Type) (enc:TypeId × Value → H) :
  ReturnsInHanded {} Tryz.checked os 3 .any (Rows.fnExactLeastOfSpec.pre6 enc Tryz.prog Tryz.f3 Rows.fnExactLeastOfRow.domain false) (Rows.fnExactLeastOfSpec.post enc Tryz.prog Tryz.f3 false true false false):=by
 refine returnsInHanded_of_change (C:=Tryz.checked) own started (by kernel_rfl) Tryz.func3
  (ChangeSpec.witness6 (enc:=enc) (C:=Tryz.checked) false ⟨#[],#[.agg #[.int .i64 0,.int .i64 0,.int .i64 0,.string ByteArray.empty,.slice none 0 0],.agg #[.int .i64 0,.int .i64 0,.int .i64 0,.string ByteArray.empty,.slice none 0 0],.int .i64 0],[]⟩ 8 (by kernel_rfl) (by kernel_rfl) (by kernel_rfl) (by kernel_rfl)) ?_
 intro W base args ds gs before hval0 hW hcnd _
 have hval:∀ (j:Nat) t v,Tryz.f3.params[j]? = some t → args[j]? = some v → Value.okWide Tryz.prog W .any base t v:=hval0
 have hW':=hW
 obtain ⟨p,q,hA0,hV,rfl,hfz,hnd⟩:=hW
 have hA:DataW.TrodAll enc Tryz.prog W 0 (fun _=>true) true Tryz.f3.params.toList args.toList ds p:=hA0
 rw [Tryz.params3] at hA hval
 obtain ⟨v0,vs0,d0,ds0,p0,q0,hargs,rfl,rfl,h0,r0⟩:=trodAll_cons hA
 obtain ⟨v1,vs1,d1,ds1,p1,q1,rfl,rfl,rfl,h1,r1⟩:=trodAll_cons r0
 obtain ⟨v2,vs2,d2,ds2,p2,q2,rfl,rfl,rfl,h2,r2⟩:=trodAll_cons r1
 obtain ⟨rfl,rfl,rfl⟩:=trodAll_nil r2
 obtain rfl:args = #[v0,v1,v2]:=by cases args; simp_all
 obtain ⟨rfl,rfl⟩:=trodVars_none hV
 have lt0:∀ x ∈ p0,x.block < W.heap.size:=by obtain ⟨m,hm⟩:=h0; exact DataW.trod_lt m _ _ _ hm
 obtain ⟨x0,rv0,fit0⟩:=ZdJ Tryz.underlying24 rfl ZeF (hval 0 24 v0 rfl rfl) h0
 have lt1:∀ x ∈ p1,x.block < W.heap.size:=by obtain ⟨m,hm⟩:=h1; exact DataW.trod_lt m _ _ _ hm
 obtain ⟨x1,rv1,fit1⟩:=ZdJ Tryz.underlying24 rfl ZeF (hval 1 24 v1 rfl rfl) h1
 have lt2:∀ x ∈ p2,x.block < W.heap.size:=by obtain ⟨m,hm⟩:=h2; exact DataW.trod_lt m _ _ _ hm
 have k2:=h2
 obtain ⟨x2,rfl,rfl,rfl,w2⟩:=open_int Tryz.underlying3 (hval 2 3 v2 rfl rfl) k2
 have fit2:fitInt x2:=by simp only [Lit.wf,Zml,Zmp] at w2; exact w2
 clear hA0 hval0
 obtain ⟨n,hfin⟩:=fin_FnExactLeastOf x0 fit0 x1 fit1 x2 fit2
 obtain ⟨u0_4,rfl,r0_4⟩:=RV.Term rv0
 obtain ⟨a0_4,c0_4,rfl,_⟩:=RV.slice r0_4
 obtain ⟨u1_4,rfl,r1_4⟩:=RV.Term rv1
 obtain ⟨a1_4,c1_4,rfl,_⟩:=RV.slice r1_4
 refine Calls.mono (Con.law (Zb5 hfin) (AllF.of _ ⟨r0_4,r1_4,trivial⟩) fun _ h=>h) fun e W' ⟨v,he,hv,hc⟩=>?_
 subst he
 subst hv
 have bel:=hc.to_below
 exact ⟨_,rfl,_,_,_,[],_,[],hW',trodAll_mk1 (shut_bool Tryz.underlying4 _),(trodAll_cons_mk (Below.trod laidOut (by kernel_rfl) (of_decide_eq_true (by kernel_rfl)) h0 bel lt0) (trodAll_cons_mk (Below.trod laidOut (by kernel_rfl) (of_decide_eq_true (by kernel_rfl)) h1 bel lt1) (trodAll_cons_mk (Below.trod laidOut (by kernel_rfl) (of_decide_eq_true (by kernel_rfl)) h2 bel lt2) trodAll_mk0))),rfl,bel.frame _,fun h=>by cases h⟩
theorem over:Rows.fnExactLeastOfRow.holds Tryz.pinned (OpenSpec.ofChange Rows.fnExactLeastOfSpec):=
 OpenClaim.holds_of_wide 3 Tryz.f3 rfl rfl rfl rfl rfl rfl rfl ⟨rfl,rfl,rfl,rfl,rfl⟩ rfl rfl rfl rfl rfl (by kernel_rfl) Tryz.func3 (by kernel_rfl)
  (of_decide_eq_true (by kernel_rfl)) (by unfold Func.isWrapper; first | (rw [Zmk (by decide +kernel)]; kernel_rfl) | (rw [Zmj (by decide +kernel)]; exact ⟨rfl,rfl⟩))
  (fun os started H enc _=>lifted os started H enc)
theorem proved:Rows.FnExactLeastOfSaid:=over
#print axioms proved
end Go.Proofs.YtgpcokpcbjloiaaGreat.fnExactLeastOf
