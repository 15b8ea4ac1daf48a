/- The plain law of this claim: the path of a test holds for it, is found again by its turns, and has the state of the run. No program in sight. -/
import Derived.Test.YtmhljhkhmdkdhaaGreatDoorPLib2
namespace Go.Proofs.YtmhljhkhmdkdhaaGreatDoor
open Go.GL
set_option linter.unusedSimpArgs false
set_option maxRecDepth 100000
theorem Ii{p:D.Program}{l:List Int}{s:D.Path}(hi:inB p l=true)(h:hP p l s):evalS p s l=(den (envI p.W l) s,true):=by
 obtain⟨hp,_,_,h3⟩:=XC hi;have k:=h.good.ok;have one:∀(w:Int)(ts:List D.Term),fw w ts->aL (InV p) ts->evs p l ts=(ts.map (vl (envI p.W l)),true):=λw ts hf ha=>by
  have hv:∀t∈ts,ev (vals p.W l) t=(vl (envI p.W l) t,true):=λt ht=>by
   have hft:=(hf t ht).1;obtain⟨r,_,h2,h4⟩:=SA hi hft (ha t ht);have g:KV (envI p.W l) t:=⟨hft.1,λq hq=>(QZ hi (SY hft (ha t ht) q hq)).1⟩;have:=g.val.2 241 (by have:=hft.2;omega);rw[h4,Option.some.inj ((h2 241 O).symm.trans this)]
  unfold evs;rw[Cr (Cs.2 λt ht=>by rw[hv t ht])];refine Prod.ext (List.map_congr_left λt ht=>by rw[hv t ht]) rfl
 unfold evalS;rw[Cr (by rw[Kr hi h.good];exact h.held),one _ _ k.rf h.good.vs.rg,one _ _ k.mf h.good.vs.mm,one _ _ k.of h.good.vs.ot];rfl
theorem Es{p:D.Program}{l:List Int}{f:Int}(hi:inB p l=true)(h3:p.W<=3)(hl:p.Code.length<=1048576)(hll:l.length<=1048576)(h0:0<=f)(hf:f<=400)(h9:(runF p l f.toNat (path0 p)).Code≠9):Xp fuel p l f=some (den (envI p.W l) (runF p l f.toNat (path0 p))):=by
 have hp:=(XC hi).1;have hm:=ZX hp;unfold Xp;rw[NG hl hll,hi];simp only[Cz,Cn,Cy,Cm,CY];rw[show Zd f 0 400=some true from by unfold Zd;simp[h0,hf]];simp only[Cz,Cn,Cy,Cm];unfold WX;rw[PX hl,hp];simp only[Cz,Cn,Cy,Cm];have hmk:∀n:Int,0<=n->n<=100->mk? n (0:Int)=some (List.replicate n.toNat 0):=λn a b=>by
  unfold mk?;rw[Cr ⟨a,by unfold room;omega⟩]
 rw[hmk 4 ag ag,hmk p.Mem O O];simp only[Cm];have hr:=Fs hi h3 hf f.toNat 0 (path0 p) fuel (hP0 hi) ag O aa h9;have e0:den (envI p.W l) (path0 p)=⟨0,List.replicate (4:Int).toNat 0,List.replicate p.Mem.toNat 0,[],0,[],0,0⟩:=by
  unfold path0 den;have:vl (envI p.W l) (kT p.W 0)=0:=Pj _ _;simp[List.map_replicate,this]
 rw[e0]at hr;rw[hr];rfl
theorem fin_FnPathFor(x:List Byt)(_:fitList fitByt x):∃n,Wm n x=some true:=by
 refine⟨fuel,?_⟩;unfold Wm;by_cases c0:x.length<=1048576
 ·rw[Cu ah];obtain⟨p,e1,hp,h3⟩:=Jv c0;obtain⟨f,e2,f0,f1⟩:=KQ c0 (m:=60) (lo:=0) (hi:=40) ag ag ag ag;obtain⟨l,e3,hw,hl⟩:=Em c0 hp;have hcl:p.Code.length<=1048576:=by
   have:=hp;unfold progB at this;simp only[Co,Cw]at this;omega
  have hin:=UL hp;have hll:l.length<=1048576:=by omega
  have hi:inB p l=true:=by unfold inB;rw[hp,hw,Zb,hl];simp
  rw[e1];simp only[Cm];rw[e2];simp only[Cm];rw[e3];simp only[Cm];rw[Lg hcl hll];simp only[Cm];have eF:pathF p l f=(runF p l f.toNat (path0 p),true):=by unfold pathF;rw[Cr ⟨hi,f0,by omega⟩]
  rw[eF];have hh:=Uf hi f.toNat _ (hP0 hi);obtain⟨ts,t1,t2⟩:=Tt hi f.toNat _ (hP0 hi);rw[show(path0 p).Turns=[]from rfl,Za5]at t1;have hfine:=hh.good.ok.fine hp;have hsm:=Mj hfine;have eW:pathW p (runF p l f.toNat (path0 p)).Turns f=(runF p l f.toNat (path0 p),true):=by
   have htb:tB (runF p l f.toNat (path0 p)).Turns=true:=by
    unfold tB;exact Cs.2 λt ht=>decide_eq_true (hh.good.tn t ht)
   unfold pathW;rw[Cr ⟨htb,hp,f0,by omega⟩,t1,t2];rfl
  rw[LG hcl (by have:=hh.good.ok.tl;show(runF p l f.toNat (path0 p)).Turns.length<=_;omega)];simp only[Cm];rw[eW,Lr hcl hsm hll,Ii hi hh];simp only[Cm,Cz,Cn,Cy];rw[Ox hcl hsm,hh.good.path hp];simp only[Cm,Cz,Ar,Cn,Cy];by_cases c9:(runF p l f.toNat (path0 p)).Code=9
  ·rw[Cr (by simpa using c9)]
  ·rw[Cu (by simpa using c9),Es hi h3 hcl hll f0 O c9,JB hsm];have hml:=hh.good.ok.ml;have hm:=ZX hp;have hrl:=hh.good.ok.rl;have hol:=hh.good.ok.ol;have hsl:=hh.good.ok.sl;have hst:=Ll (x:=den (envI p.W l) (runF p l f.toNat (path0 p))) ⟨by simp[den];omega,by simp[den];omega,by simp[den];omega,by simp[den];omega⟩;simp only[Cm,CF];rw[hst];rfl
 ·rw[Cr ah]
end Go.Proofs.YtmhljhkhmdkdhaaGreatDoor
