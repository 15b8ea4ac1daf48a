/- The plain law of this claim. No program in sight. -/
import Derived.Test.YtikabgjjcifidaaGreatPLib3
namespace Go.Proofs.YtikabgjjcifidaaGreat
open Go.GL
open Cc (vB Yz bi)
set_option linter.unusedSimpArgs false
set_option maxRecDepth 100000
def LG(T:List Int)(q a b:Int):Prop:=(a=-1/\b=-1/\∀x∈T,x<q)\/(0<=a/\0<=b/\a+q∈T/\b+q∈T/\∀x∈T,q<=x->a+q<=x/\x<=b+q)
theorem LG.snoc{T:List Int}{q a b x s m:Int}(h:LG T q a b)(hs:s=if q<=x then 1 else 0)(hm:q<=x->m=x-q):
  LG (T++[x]) q (cond ((s==1)&&((decide (a<0))||(decide (m<a)))) m a) (cond ((s==1)&&(decide (m>b))) m b):=by
 by_cases c:q<=x
 ·rw [Zbq c]at hs
  have hm:=hm c;subst hs;simp only[ZcY,Zcn];rcases h with⟨rfl,rfl,h⟩|⟨h1,h2,h3,h4,h5⟩
  ·rw[show decide ((-1:Int)<0)=true from rfl,Zdo,cond_true,decide_eq_true (show m>-1 by omega),cond_true];refine .inr ⟨by omega,by omega,by simp;omega,by simp;omega,λy hy hq=>?_⟩;rcases Zb7.1 hy with hy|hy
   ·have:=h y hy;omega
   ·rw[Zb3.1 hy];omega
  ·rw[decide_eq_false (show¬a<0 by omega),ZbL];have ha:cond (decide (m<a)) m a=if m<a then m else a:=by by_cases d:m<a<;>simp[d]
   have hb:cond (decide (m>b)) m b=if b<m then m else b:=by by_cases d:b<m<;>simp[d]
   rw[ha,hb];refine .inr ⟨by split<;>omega,by split<;>omega,?_,?_,λy hy hq=>?_⟩
   ·split
    ·rw[hm];simp
    ·simp[h3]
   ·split
    ·rw[hm];simp
    ·simp[h4]
   ·rcases Zb7.1 hy with hy|hy
    ·have:=h5 y hy hq;split<;>split<;>omega
    ·rw[Zb3.1 hy];split<;>split<;>omega
 ·rw[Zbv c]at hs;subst hs;simp only[show((0:Int)==1)=false from rfl,ZdS,cond_false];rcases h with⟨h1,h2,h⟩|⟨h1,h2,h3,h4,h5⟩
  ·refine .inl ⟨h1,h2,λy hy=> ?_⟩;rcases Zb7.1 hy with hy|hy
   ·exact h y hy
   ·rw[Zb3.1 hy];omega
  ·refine .inr ⟨h1,h2,by simp[h3],by simp[h4],λy hy hq=> ?_⟩;rcases Zb7.1 hy with hy|hy
   ·exact h5 y hy hq
   ·rw[Zb3.1 hy]at hq;exact absurd hq c
theorem EC{T:List Int}(hT:T.length<=1048576){W:Int}(h1:1<=W)(h2:W<=16):∃a b,iterN (λ(s1:Int×Int×Int)=>if(decide (s1.2.2<(len T)))then(get? T s1.2.2).bind λx5=>(shl? 1 W).bind λx6=>(shr? x5 W).bind λx7=>(shr? x5 W).bind λx8=>some (.inl ((cond ((x7==1)&&((decide (s1.1<0))||(decide ((band x5 (w64 (x6-1)))<s1.1)))) (band x5 (w64 (x6-1))) s1.1),(cond ((x8==1)&&(decide ((band x5 (w64 (x6-1)))>s1.2.1))) (band x5 (w64 (x6-1))) s1.2.1),(w64 (s1.2.2+1))))else some (.inr (s1.1,s1.2.1))) fuel ((-1),(-1),0)=some (a,b)/\((∀x∈T,0<=x/\x<2*2^W.toNat)->LG T (2^W.toNat) a b):=by
  obtain⟨k,hk⟩:∃k:Nat,W=k:=⟨W.toNat,by omega⟩;subst hk;have hk:k<=16:=by omega
  rw[ZbE];have hp:(2:Int)^k<=65536/\1<=(2:Int)^k:=by
    have h:=Zck (n:=2) (by decide) hk;have h':=Zc5 k;rw[cpow];omega
  have e6:shl? 1 (k:Int)=some (2^k):=by
    rw[JM _ (by omega),ZbE,Zcj (by omega),Int.one_mul,X4]
  have e7:∀x,shr? x (k:Int)=some (x/2^k):=λx=>by
    rw[QR _ (by omega),ZbE,Zcj (by omega),ZcR _ (by omega)]
  have e8:∀x,band x (w64 (2^k-1))=x%2^k:=λx=>by rw[X4,MH x hk]
  simp only[e6,e7,e8,Zbn]
  obtain ⟨r,g1,g2⟩:=Qo (B:=λ(s1:Int×Int×Int)=>if(decide (s1.2.2<(len T)))then(get? T s1.2.2).bind λx5=>some (.inl ((cond ((x5/2^k==1)&&((decide (s1.1<0))||(decide (x5%2^k<s1.1)))) (x5%2^k) s1.1),(cond ((x5/2^k==1)&&(decide (x5%2^k>s1.2.1))) (x5%2^k) s1.2.1),(w64 (s1.2.2+1))))else some (.inr (s1.1,s1.2.1)))
    (I:=λk' s=>s.2.2=(k':Int)/\((∀x∈T,0<=x/\x<2*2^k)->LG (T.take k') (2^k) s.1 s.2.1)) (m:=T.length) (R:=λ(r:Int×Int)=>(∀x∈T,0<=x/\x<2*2^k)->LG T (2^k) r.1 r.2)
    (λk' s hk'⟨h1,h2⟩=>by
      obtain⟨a,b,c⟩:=s;simp only at h1 h2⊢;subst h1;rw[Zbq (by rw[Za];simp;omega),get?_nat,Zbo hk'];refine .inl ⟨_,rfl,by simp only;rw[Zb];omega,λhb=>?_⟩;rw[Zby hk'];obtain⟨q1,q2⟩:=hb _ (ZbJ hk');have hd:=Int.emod_add_mul_ediv T[k'] (2^k);have hm0:=Int.emod_nonneg T[k'] (show(2:Int)^k≠0 by omega);have hm1:=Int.emod_lt_of_pos T[k'] (show(0:Int)<2^k by omega);have hv:T[k']/2^k=if(2:Int)^k<=T[k']then 1 else 0:=by
        split
        · rename_i c
          refine(Int.ediv_eq_iff_of_pos (by omega)).2 ?_;omega
        · exact Int.ediv_eq_zero_of_lt q1 (by omega)
      refine(h2 hb).snoc hv λc=>?_;rw[Zbq c]at hv
      rw[hv]at hd;omega)
    (λs⟨h1,h2⟩=>by
      obtain⟨a,b,c⟩:=s;simp only at h1 h2⊢;subst h1;rw[Zbv (by rw[Za];simp)];rw[Zc0]at h2
      exact⟨_,rfl,h2⟩) T.length 0 (-1,-1,0) (by omega) ⟨rfl,λ_=>.inl ⟨rfl,rfl,by simp⟩⟩ fuel lt_fuel
  exact⟨r.1,r.2,g1,g2⟩
theorem fin_FnLeast(code:List Byt)(_:fitList fitByt code):∃n,Ua n code=some true:=by
 refine⟨fuel,?_⟩;unfold Ua;by_cases c0:len code>1048576
 ·rw[Zbq (by simpa using c0)]
 rw[Zbv (by simpa using c0)];rw[Za]at c0;have hl:code.length<=1048576:=by omega
 obtain⟨p,ep,hp3,hpw⟩:=NI (fuel:=fuel) hl (m:=0) (w:=1) (by decide) (by decide) 2 (by decide);obtain⟨W,eW,hW1,hW3⟩:=Ei (fuel:=fuel) hl (m:=48) (lo:=1) (hi:=3) (by decide) (by decide) (by decide) (by decide);obtain⟨t,et,ht3,htw⟩:=NI (fuel:=fuel) hl (m:=50) (w:=W) (by decide) hW1 2 (by omega);rw[show(2:Int)=((2:Nat):Int)from rfl,ep];simp only[Zbn];rw[eW];simp only[Zbn];rw[et];simp only[Zbn];have hp2:msz p<=43:=hp3;have ht2:msz t<=43:=ht3;have hps:msz p<=1048576:=by omega
 have hts:msz t<=1048576:=by omega
 rw[show D.Term.mk 18 (w64 (1+t.W)) 0 ⟨[]⟩ ([p,t]:List D.Term)=bo p t from rfl];have hs:msz (bo p t)<=1048576:=by unfold bo;rw[XU,Y0,Y0,Xi];simp;omega
 have htab:∃T,YR fuel (bo p t)=some T/\(T=[]\/termB (bo p t)=true/\T.length<=1024/\∃L,ZP fuel (bo p t)=some L/\VL (bo p t) L/\(∀v∈L,1<=v.W/\v.W<=16)/\L.length<=10/\TblOk (bo p t) L T):=by
  by_cases hb:termB (bo p t)=true;rotate_left
  ·have h':termB (bo p t)=false:=by simpa using hb
   refine⟨[],?_,.inl rfl⟩;unfold YR;have eV:ZP fuel (bo p t)=some []:=by unfold ZP;rw[XX hs,h'];rfl
   rw[eV,XX hs,h'];rfl
  obtain⟨L,eL,hL,hn,hc,hw,hnm,hlen,hb0⟩:=Uk hb hs;obtain⟨T,eT,hT⟩:=Da hs hb eL hL hw hlen (AO eL);refine⟨T,eT,?_⟩;rcases hT with⟨-,rfl⟩|⟨hb10,h10,hT⟩
  ·exact .inl rfl
  have hil:=Oc (L:=L) (l:=L) rfl hw;have hp10:2^(inB L).length<=2^10:=Zck (by decide) (by omega);exact .inr ⟨hb,by rw[hT.len];omega,L,eL,hL,hw,h10,hT⟩
 obtain⟨T,eT,hT⟩:=htab;have hTl:T.length<=1048576:=by
  rcases hT with rfl|⟨-,h,-⟩
  ·simp
  ·omega
 obtain⟨a,b,e1,hLG⟩:=EC hTl (W:=t.W) (by omega) (by omega);rw[eT];simp only[Zbn];rw[e1];simp only[Zbn,Ir hps hts,JB hps hts];by_cases hk:(leaP p t 3000).2.2=true;rotate_left
 ·have hk':(leaP p t 3000).2.2=false:=by simpa using hk
  rw[hk'];by_cases c1:(len T==0)=true
  ·rw[Zbq c1,Zbq trivial,Zbq c1]
  ·rw[Zbv c1,Zbq (show(!false)=true from rfl),Zbv c1];rfl
 by_cases c1:(len T==0)=true
 ·rw[Zbq c1,Zbq trivial,Zbq c1]
 rw[Zbv c1,hk,ifn];rcases hT with rfl|⟨hb,hT10,L,eL,hL,hw,h10,hT⟩
 ·exact absurd rfl c1
 obtain⟨L',eL',hE⟩:=BI (p:=p) (t:=t) (limit:=3000) (a:=(leaP p t 3000).1) (b:=(leaP p t 3000).2.1) (by rw[<-hk]);rw[eL,Option.some.injEq]at eL';subst eL';have hat:∀l,Vls L l->val (bo p t) l∈T:=λl h=>by
  have hlt:=EY l;rw[QJ h.ky,<-hT.len]at hlt;obtain⟨l',h1,h2,h3⟩:=hT.get (num l) hlt;rw[Bu hb hL hw (by omega) h1 h (BO (h1.ky.trans h.ky.symm) h2)]at h3;exact Zcq.2 ⟨_,h3⟩
 have hplace:∀x∈T,∃l,Vls L l/\val (bo p t) l=x:=λx hx=>by
  obtain⟨i,h⟩:=Zcq.1 hx;obtain⟨l',h1,h2,h3⟩:=hT.get i ((Zbu.1 h).1);exact⟨l',h1,by rw[h]at h3;exact(Option.some.inj h3).symm⟩
 have hall:∀x∈T,(0<=x/\x<2^t.W.toNat)\/((leaP p t 3000).1+2^t.W.toNat<=x/\x<=(leaP p t 3000).2.1+2^t.W.toNat):=λx hx=>by
  obtain⟨l,h1,rfl⟩:=hplace x hx;exact hE.all l h1
 have ha0:=hE.a0;have hb1:=hE.b1;obtain⟨la,va1,va2⟩:=hE.ina;obtain⟨lb,vb1,vb2⟩:=hE.inb;have ma:=hat la va1;have mb:=hat lb vb1;rw[va2]at ma;rw[vb2]at mb;have hqp:(0:Int)<2^t.W.toNat:=by rw[cpow];have:=Zc5 t.W.toNat;omega
 have hlg:=hLG λx hx=>by rcases hall x hx with h|h<;>omega
 generalize (leaP p t 3000).1=a' at*;generalize (leaP p t 3000).2.1=b' at*;generalize (2:Int)^t.W.toNat=q at*;rcases hlg with⟨-,-,h⟩|⟨h1,h2,h3,h4,h5⟩
 ·have:=h _ ma;omega
 have r1:=h5 _ ma (by omega);have r4:=hall _ h3;have r5:=hall _ h4;have hab:a'<=b':=by rcases hall _ ma with h|h<;>omega
 have r2:=h5 _ mb (by omega);have e1:a'=a:=by omega
 have e2:b'=b:=by omega
 rw[e1,e2];simp
end Go.Proofs.YtikabgjjcifidaaGreat
