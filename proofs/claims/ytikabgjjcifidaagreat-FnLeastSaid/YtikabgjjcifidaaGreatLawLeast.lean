/- THIS FILE PROVES Rows.FnLeastSaid: for every input the law FnLeast returns true, and what it was given reads as it did. -/
import Derived.Test.YtikabgjjcifidaaGreatRows
import Derived.Test.YtikabgjjcifidaaGreatWlk
import Derived.Test.YtikabgjjcifidaaGreatLib3
import Derived.Test.YtikabgjjcifidaaGreatFnLeast
import Derived.WalkKit
import Derived.ProofKit
import Derived.OpenShut
import Derived.ShutString
import Derived.ChangeOld
import Derived.Below
namespace Go.Proofs.YtikabgjjcifidaaGreat.fnLeast
open Go.GL Go.ChangeShapes Go.WideShapes Go.ChangeAt Go.RowKit
open Go.ChangeMaps (open_string shut_string)
set_option linter.unusedVariables false
set_option maxRecDepth 100000
theorem own:ownKnob Tryz.prog.godebug=none:=by kernel_rfl
theorem laidOut:laidOutB Tryz.prog=true:=by kernel_rfl
set_option maxRecDepth 100000 in
theorem lifted(os:Os)(started:os.Started)(H:Type)(enc:TypeId×Value->H):
  ReturnsInHanded {} Tryz.checked os 3 .any (Rows.fnLeastSpec.pre6 enc Tryz.prog Tryz.f3 Rows.fnLeastRow.domain false) (Rows.fnLeastSpec.post enc Tryz.prog Tryz.f3 false true false false):=by
 refine returnsInHanded_of_change (C:=Tryz.checked) own started (by kernel_rfl) Tryz.func3
  (ChangeSpec.witness6 (enc:=enc) (C:=Tryz.checked) false ⟨#[],#[.slice none 0 0],[]⟩ 8 (by kernel_rfl) (by kernel_rfl) (by kernel_rfl) (by kernel_rfl)) ?_
 intro W base args ds gs before hval0 hW hcnd _;have hval:∀(j:Nat)t v,Tryz.f3.params[j]? =some t->args[j]? =some v->Value.okWide Tryz.prog W .any base t v:=hval0;have hW':=hW;obtain⟨p,q,hA0,hV,rfl,hfz,hnd⟩:=hW;have hA:DataW.TrodAll enc Tryz.prog W 0 (λ_=>true) true Tryz.f3.params.toList args.toList ds p:=hA0;rw[Tryz.params3]at hA hval;obtain⟨v0,vs0,d0,ds0,p0,q0,hargs,rfl,rfl,h0,r0⟩:=trodAll_cons hA;obtain⟨rfl,rfl,rfl⟩:=trodAll_nil r0;obtain rfl:args= #[v0]:=by cases args;simp_all
 obtain⟨rfl,rfl⟩:=trodVars_none hV;have lt0:∀x∈p0,x.block<W.heap.size:=by obtain⟨m,hm⟩:=h0;exact DataW.trod_lt m _ _ _ hm
 obtain⟨x0,rv0,fit0⟩:=open_list Tryz.underlying22 (Jw Tryz.underlying22 (by kernel_rfl) (Ep Tryz.underlying5)) (hval 0 22 v0 rfl rfl) h0;clear hA0 hval0;obtain⟨n,hfin⟩:=fin_FnLeast x0 fit0;obtain⟨a0,c0,rfl,_⟩:=RV.slice rv0;refine Calls.mono (Con.law (Pv hfin) (AllF.of _ ⟨rv0,trivial⟩) λ_ h=>h) λe W'⟨v,he,hv,hc⟩=>?_;subst he;subst hv;have bel:=hc.to_below;exact⟨_,rfl,_,_,_,[],_,[],hW',trodAll_mk1 (shut_bool Tryz.underlying4 _),(trodAll_cons_mk (Below.trod laidOut (by kernel_rfl) (of_decide_eq_true (by kernel_rfl)) h0 bel lt0) trodAll_mk0),rfl,bel.frame _,λh=>by cases h⟩
theorem over:Rows.fnLeastRow.holds Tryz.pinned (OpenSpec.ofChange Rows.fnLeastSpec):=
 OpenClaim.holds_of_wide 3 Tryz.f3 rfl rfl rfl rfl rfl rfl rfl ⟨rfl,rfl,rfl,rfl,rfl⟩ rfl rfl rfl rfl rfl (by kernel_rfl) Tryz.func3 (by kernel_rfl)
  (of_decide_eq_true (by kernel_rfl)) (by unfold Func.isWrapper;first|(rw[Zbq (by decide+kernel)];kernel_rfl)|(rw[Zbv (by decide+kernel)];exact⟨rfl,rfl⟩))
  (λos started H enc _=>lifted os started H enc)
theorem proved:Rows.FnLeastSaid:=over
#print axioms proved
end Go.Proofs.YtikabgjjcifidaaGreat.fnLeast
