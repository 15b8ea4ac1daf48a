/- THIS FILE PROVES Rows.FnExactHoldsTermSaid: for every input the law FnExactHoldsTerm returns true, and what it was given reads as it did. -/
import Derived.Test.YtgpcokpcbjloiaaGreatRows
import Derived.Test.YtgpcokpcbjloiaaGreatWlk
import Derived.Test.YtgpcokpcbjloiaaGreatLib3
import Derived.Test.YtgpcokpcbjloiaaGreatHoldsTerm
import Derived.WalkKit
import Derived.ProofKit
import Derived.OpenShut
import Derived.ShutString
import Derived.ChangeOld
import Derived.Below
namespace Go.Proofs.YtgpcokpcbjloiaaGreat.fnExactHoldsTerm
open Go.GL Go.ChangeShapes Go.WideShapes Go.ChangeAt Go.RowKit
open Go.ChangeMaps (open_string shut_string)
set_option linter.unusedVariables false
set_option maxRecDepth 100000
theorem own:ownKnob Tryz.prog.godebug = none:=by kernel_rfl
theorem laidOut:laidOutB Tryz.prog = true:=by kernel_rfl
theorem Zim:Opens Tryz.prog 24 D.Term Xm:=
 Zin Tryz.underlying24 Tryz.underlying3 Tryz.underlying9 Tryz.underlying22 (by kernel_rfl) ⟨_,rfl,rfl,rfl⟩ ⟨_,rfl,rfl,rfl⟩ ⟨_,rfl,rfl,rfl⟩ ⟨_,rfl,rfl,rfl⟩ ⟨_,rfl,rfl,rfl⟩ (by kernel_rfl) (by kernel_rfl) (by kernel_rfl)
set_option maxRecDepth 100000 in
theorem lifted (os:Os) (started:os.Started) (H:Type) (enc:TypeId × Value → H) :
  ReturnsInHanded {} Tryz.checked os 5 .any (Rows.fnExactHoldsTermSpec.pre6 enc Tryz.prog Tryz.f5 Rows.fnExactHoldsTermRow.domain false) (Rows.fnExactHoldsTermSpec.post enc Tryz.prog Tryz.f5 false true false false):=by
 refine returnsInHanded_of_change (C:=Tryz.checked) own started (by kernel_rfl) Tryz.func5
  (ChangeSpec.witness6 (enc:=enc) (C:=Tryz.checked) false ⟨#[],#[.agg #[.int .i64 0,.int .i64 0,.int .i64 0,.string ByteArray.empty,.slice none 0 0],.int .i64 0],[]⟩ 8 (by kernel_rfl) (by kernel_rfl) (by kernel_rfl) (by kernel_rfl)) ?_
 intro W base args ds gs before hval0 hW hcnd _
 have hval:∀ (j:Nat) t v,Tryz.f5.params[j]? = some t → args[j]? = some v → Value.okWide Tryz.prog W .any base t v:=hval0
 have hW':=hW
 obtain ⟨p,q,hA0,hV,rfl,hfz,hnd⟩:=hW
 have hA:DataW.TrodAll enc Tryz.prog W 0 (fun _=>true) true Tryz.f5.params.toList args.toList ds p:=hA0
 rw [Tryz.params5] at hA hval
 obtain ⟨v0,vs0,d0,ds0,p0,q0,hargs,rfl,rfl,h0,r0⟩:=trodAll_cons hA
 obtain ⟨v1,vs1,d1,ds1,p1,q1,rfl,rfl,rfl,h1,r1⟩:=trodAll_cons r0
 obtain ⟨rfl,rfl,rfl⟩:=trodAll_nil r1
 obtain rfl:args = #[v0,v1]:=by cases args; simp_all
 obtain ⟨rfl,rfl⟩:=trodVars_none hV
 have lt0:∀ x ∈ p0,x.block < W.heap.size:=by obtain ⟨m,hm⟩:=h0; exact DataW.trod_lt m _ _ _ hm
 obtain ⟨x0,rv0,fit0⟩:=ZgJ Tryz.underlying24 rfl Zim (hval 0 24 v0 rfl rfl) h0
 have lt1:∀ x ∈ p1,x.block < W.heap.size:=by obtain ⟨m,hm⟩:=h1; exact DataW.trod_lt m _ _ _ hm
 have k1:=h1
 obtain ⟨x1,rfl,rfl,rfl,w1⟩:=open_int Tryz.underlying3 (hval 1 3 v1 rfl rfl) k1
 have fit1:fitInt x1:=by simp only [Lit.wf,ZmK,ZmN] at w1; exact w1
 clear hA0 hval0
 obtain ⟨n,hfin⟩:=fin_FnExactHoldsTerm x0 fit0 x1 fit1
 obtain ⟨u0_4,rfl,r0_4⟩:=RV.Term rv0
 obtain ⟨a0_4,c0_4,rfl,_⟩:=RV.slice r0_4
 refine Calls.mono (Con.law (Zby hfin) (AllF.of _ ⟨r0_4,trivial⟩) fun _ h=>h) fun e W' ⟨v,he,hv,hc⟩=>?_
 subst he
 subst hv
 have bel:=hc.to_below
 exact ⟨_,rfl,_,_,_,[],_,[],hW',trodAll_mk1 (shut_bool Tryz.underlying4 _),(trodAll_cons_mk (Below.trod laidOut (by kernel_rfl) (of_decide_eq_true (by kernel_rfl)) h0 bel lt0) (trodAll_cons_mk (Below.trod laidOut (by kernel_rfl) (of_decide_eq_true (by kernel_rfl)) h1 bel lt1) trodAll_mk0)),rfl,bel.frame _,fun h=>by cases h⟩
theorem over:Rows.fnExactHoldsTermRow.holds Tryz.pinned (OpenSpec.ofChange Rows.fnExactHoldsTermSpec):=
 OpenClaim.holds_of_wide 5 Tryz.f5 rfl rfl rfl rfl rfl rfl rfl ⟨rfl,rfl,rfl,rfl,rfl⟩ rfl rfl rfl rfl rfl (by kernel_rfl) Tryz.func5 (by kernel_rfl)
  (of_decide_eq_true (by kernel_rfl)) (by unfold Func.isWrapper; first | (rw [ZmJ (by decide +kernel)]; kernel_rfl) | (rw [ZmI (by decide +kernel)]; exact ⟨rfl,rfl⟩))
  (fun os started H enc _=>lifted os started H enc)
theorem proved:Rows.FnExactHoldsTermSaid:=over
#print axioms proved
end Go.Proofs.YtgpcokpcbjloiaaGreat.fnExactHoldsTerm
