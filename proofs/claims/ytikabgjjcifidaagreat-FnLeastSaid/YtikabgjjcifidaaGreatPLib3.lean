/- Texts of this claim put into one: library or plain laws, without the program under test. -/
import Derived.Test.YtikabgjjcifidaaGreatPLib2
import Derived.Test.YtikabgjjcifidaaGreatPLib1
set_option linter.unusedSimpArgs false
set_option linter.unusedVariables false
set_option linter.defProp false
section
namespace Go.Proofs.YtikabgjjcifidaaGreat.Sv
open Go.GL
set_option maxRecDepth 100000
structure FmP(f:D.Formula)(m:Nat):Prop where
 vars:f.Vars=m
 small:m<=400
 num:f.Clauses.length<=1600
 cl:∀c∈f.Clauses,ClM m c/\c.length<=1000
def Sv(m:Nat)(v:List Int)(x:Int):Prop:=isL m x/\lv v x=1
def zer(v:List Int):Nat:=v.count 0
def Wm{σt ρt:Type}{B:σt->Option (σt⊕ρt)}{s s':σt}{n:Nat}(h:B s=some (.inl s')):iterN B (n+1) s=iterN B n s':=by
 rw[iterN,h]
section
variable{m:Nat}{a:List Int}{x:Int}
def WL{i:Nat}(h:i<a.length):a[i]? =some (a.getD i 0):=by
 rw[Zbr,Zbo h];rfl
def UB(hA:Asg m a)(hl:isL m x)(h0:lv a x=0):zer (stA a x)+1=zer a:=by
 obtain⟨l0,l1⟩:=hl;have hi:x.natAbs<a.length:=by have:=hA.len;omega
 have hg:a[x.natAbs]=0:=by
  have h1:=WL hi;rw[Zbo hi]at h1;have h2:=Option.some.inj h1;unfold lv at h0;rw[h2];split at h0<;>omega
 have hpos:0<a.count 0:=Zdy.2 (hg▸ZbJ hi);unfold zer stA;rw[List.count_set hi,hg];have hne:((if x<0 then(-1:Int)else 1)==0)=false:=by split<;>decide
 simp only[ZcY,Zb5,hne,Zbp,Zbx];omega
def Hr(hm:m<=400)(hl:isL m x):(if(decide (x<0))=true then some (w64 (0-x))else some x)=some (x.natAbs:Int):=by
 obtain⟨l0,l1⟩:=hl;by_cases h:x<0
 ·rw[Zbq (by simpa using h),Zb];congr 1;omega
 ·rw[Zbv (by simpa using h)];congr 1;omega
def YX(hm:m<=400)(hl:isL m x):Zq x=some (x.natAbs:Int):=Hr hm hl
def QG(hA:Asg m a)(hl:isL m x):get? a (x.natAbs:Int)=some (a.getD x.natAbs 0):=by
 rw[get?_nat];exact WL (by have:=hA.len;have:=hl.2;omega)
def Al(hA:Asg m a)(x:Int):(cond (decide (x<0)) (w64 (0-a.getD x.natAbs 0)) (a.getD x.natAbs 0))=lv a x:=by
 unfold lv;have:=hA.val x.natAbs;by_cases h:x<0
 ·rw[Zbq h,decide_eq_true h,cond_true,Zb];omega
 ·rw[Zbv h,decide_eq_false h,cond_false]
def lst(l:List Int):Int:=l.getLastD 0
def Qy(c d:List Int):free a (c++d)=free a c++free a d:=by unfold free;rw[List.filter_append]
def Gp(l:List Int)(y:Int):lst (l++[y])=y:=by unfold lst;simp
def FR(hA:Asg m a)(hm:m<=400){c:List Int}(hc:∀x∈c,isL m x)(hlen:c.length<=1000){n:Nat}(hn:2000<=n):iterN (λ(s3:Int×Int×Bool×Int)=>if(decide (s3.2.2.2<(len c)))then(get? c s3.2.2.2).bind λx2=>(Zq x2).bind λx3=>(get? a x3).bind λx4=>if((cond (decide (x2<0)) (w64 (0-x4)) x4)==0)then some (.inl ((w64 (s3.1+1)),x2,(s3.2.2.1||(decide ((cond (decide (x2<0)) (w64 (0-x4)) x4)>0))),(w64 (s3.2.2.2+1))))else some (.inl (s3.1,s3.2.1,(s3.2.2.1||(decide ((cond (decide (x2<0)) (w64 (0-x4)) x4)>0))),(w64 (s3.2.2.2+1))))else some (.inr (s3.1,s3.2.1,s3.2.2.1))) n (0,0,false,0)=some (((free a c).length:Int),lst (free a c),c.any λx=>lv a x==1):=by
  obtain ⟨r,g1,g2⟩:=Yn (l:=c) (n:=n) (Z:=Int×Int×Bool) (ρ:=Int×Int×Bool) (B:=λ(s3:Int×Int×Bool×Int)=>if(decide (s3.2.2.2<(len c)))then(get? c s3.2.2.2).bind λx2=>(Zq x2).bind λx3=>(get? a x3).bind λx4=>if((cond (decide (x2<0)) (w64 (0-x4)) x4)==0)then some (.inl ((w64 (s3.1+1)),x2,(s3.2.2.1||(decide ((cond (decide (x2<0)) (w64 (0-x4)) x4)>0))),(w64 (s3.2.2.2+1))))else some (.inl (s3.1,s3.2.1,(s3.2.2.1||(decide ((cond (decide (x2<0)) (w64 (0-x4)) x4)>0))),(w64 (s3.2.2.2+1))))else some (.inr (s3.1,s3.2.1,s3.2.2.1))) (λk q=>(q.1,q.2.1,q.2.2,(k:Int)))
    (λys q=>∃pre,pre++ys=c/\q=(((free a pre).length:Int),lst (free a pre),pre.any λx=>lv a x==1))
    (λr=>r=(((free a c).length:Int),lst (free a c),c.any λx=>lv a x==1))
    (λk x xs q hk hx hl⟨pre,h1,h2⟩=>by
      have hd:decide ((k:Int)<len c)=true:=by rw[Za];simp;omega
      have hlx:=hc x (Zbz hx);have hfl:(free a pre).length<=c.length:=by
        rw[<-h1];exact Zc9 (List.length_filter_le _ _) (by simp)
      subst h2;simp only[hd,Zb5,get?_nat,hx,Zbn];rw[YX hm hlx];simp only[Zbn];rw[QG hA hlx];simp only[Zbn,Al hA x];have hv:=lv_vals hA x;have hk1:w64 ((k:Int)+1)=((k+1:Nat):Int):=by rw[Zb];rfl
      have hany:((pre++[x]).any λx=>lv a x==1)=((pre.any λx=>lv a x==1)||decide (lv a x>0)):=by
        rw[ZeE];simp only[List.any_cons,List.any_nil,ZdX];congr 1;rcases hv with e|e|e<;>rw[e]<;>decide
      by_cases h0:lv a x=0
      · have hb:(lv a x==0)=true:=by simpa using h0
        refine .inl ⟨(((free a (pre++[x])).length:Int),lst (free a (pre++[x])),(pre++[x]).any λx=>lv a x==1),?_,pre++[x],by rw[ZbI];exact h1,rfl⟩;have hfr:free a (pre++[x])=free a pre++[x]:=by
          rw[Qy];congr 1;unfold free;simp[h0]
        rw[Zbq hb,hk1,hany,hfr,Gp,Zb];simp
      · have hb:(lv a x==0)=false:=by simpa using h0
        refine .inl ⟨(((free a (pre++[x])).length:Int),lst (free a (pre++[x])),(pre++[x]).any λx=>lv a x==1),?_,pre++[x],by rw[ZbI];exact h1,rfl⟩;have hfr:free a (pre++[x])=free a pre:=by
          rw[Qy];have:free a [x]=[]:=by unfold free;simp[h0]
          rw[this,Zcg]
        rw[Zbv (by rw[hb];decide),hk1,hany,hfr])
    (λq⟨pre,h1,h2⟩=>by
      have hd:decide ((c.length:Int)<len c)=false:=by rw[Za];simp
      simp only[hd,Zbp,Zbx];rw[Zcg]at h1;subst h1
      exact⟨_,rfl,h2⟩) (a:=(0,0,false)) ⟨[],rfl,rfl⟩ (by omega)
  rw[show((0:Nat):Int)=0 from rfl]at g1;rw[g1,g2]
def Nh(hm:m<=400)(hl:isL m x):quo? x (x.natAbs:Int)=some (if x<0 then-1 else 1):=by
 obtain⟨l0,l1⟩:=hl;unfold quo?;rw[ifn];by_cases h:x<0
 ·have e:(x.natAbs:Int)=-x:=by omega
  rw[Zbq h,e,Int.tdiv_neg,Int.tdiv_self l0];rfl
 ·have e:(x.natAbs:Int)=x:=by omega
  rw[Zbv h,e,Int.tdiv_self l0];rfl
def Lc(hA:Asg m a)(hl:isL m x):set? a (x.natAbs:Int) (if x<0 then-1 else 1)=some (stA a x):=by
 unfold set? stA;rw[Zbq ⟨by omega,by have:=hA.len;have:=hl.2;simp;omega⟩];simp
end
section
variable{f:D.Formula}{m:Nat}{S:Int->Prop}
structure Way(m:Nat)(cs:List (List Int))(S:Int->Prop)(a:List Int):Prop where
 asg:Asg m a
 ext:∀x,S x->lv a x=1
 snd:Snd m cs S a
def Way.unit{cs:List (List Int)}{a:List Int}(h:Way m cs S a)(hS:∀x,S x->isL m x){c:List Int}(hc:c∈cs)(hm:ClM m c)(hn:∀x∈c,lv a x≠1){l:Int}(hf:free a c=[l]):Way m cs S (stA a l)/\isL m l/\lv a l=0/\l∈c:=by
 obtain⟨h1,h2,h3,h4,h5⟩:=EZ h.asg h.snd hc hm hn hf;refine⟨⟨h4,λx hx=>?_,h5⟩,h1,h3,h2⟩;rw[lv_mono h.asg h1 h3 (hS x hx).1 (by rw[h.ext x hx];decide)];exact h.ext x hx
def Td{a:List Int}{c:List Int}:(c.any λx=>lv a x==1)=true↔∃x∈c,lv a x=1:=by
 rw[List.any_eq_true];simp
theorem Jk(hf:FmP f m)(hS:∀x,S x->isL m x){a:List Int}(hw:Way m f.Clauses S a){c:List Int}(hc:c∈f.Clauses):
  (((c.any λx=>lv a x==1)||decide (((free a c).length:Int)>1))=true/\good a c)\/
  (((c.any λx=>lv a x==1)||decide (((free a c).length:Int)>1))=false/\((((free a c).length:Int)==0)=true/\Bad f.Clauses S\/(((free a c).length:Int)==0)=false/\isL m (lst (free a c))/\Way m f.Clauses S (stA a (lst (free a c)))/\zer (stA a (lst (free a c)))+1=zer a)):=by
 have hcl:=(hf.cl c hc).1;cases hany:c.any λx=>lv a x==1 with
 |true=>exact .inl ⟨by simp,.inl (Td.1 hany)⟩
 | false=>
  have hn:∀x∈c,lv a x≠1:=λx hx e=>by
   have:=Td.2 ⟨x,hx,e⟩;rw[hany]at this;cases this
  match hfr:free a c with
  |[]=>exact .inr ⟨by simp,.inl ⟨by simp,Ny hw.asg hw.snd hc hcl hn hfr⟩⟩
  |[l]=>
   obtain⟨h1,h2,h3,_⟩:=hw.unit hS hc hcl hn hfr;exact .inr ⟨by simp,.inr ⟨by simp,h2,h1,UB hw.asg h2 h3⟩⟩
  |x::y::l=>exact .inl ⟨by simp;omega,OV hcl (by rw[hfr];simp)⟩
def OP(hf:FmP f m)(hS:∀x,S x->isL m x){v0:List Int}(hw:Way m f.Clauses S v0){n:Nat}(hn:2000<=n):
    ∃r,iterN (λ(s2:Bool×Int×(List Int))=>if (decide (s2.2.1<(len f.Clauses)))then(get? f.Clauses s2.2.1).bind λx1=>(iterN (λ(s3:Int×Int×Bool×Int)=>if(decide (s3.2.2.2<(len x1)))then(get? x1 s3.2.2.2).bind λx2=>(Zq x2).bind λx3=>(get? s2.2.2 x3).bind λx4=>if((cond (decide (x2<0)) (w64 (0-x4)) x4)==0)then some (.inl ((w64 (s3.1+1)),x2,(s3.2.2.1||(decide ((cond (decide (x2<0)) (w64 (0-x4)) x4)>0))),(w64 (s3.2.2.2+1))))else some (.inl (s3.1,s3.2.1,(s3.2.2.1||(decide ((cond (decide (x2<0)) (w64 (0-x4)) x4)>0))),(w64 (s3.2.2.2+1))))else some (.inr (s3.1,s3.2.1,s3.2.2.1))) n (0,0,false,0)).bind λ(rl3:Int×Int×Bool)=>if(rl3.2.2||(decide (rl3.1>1)))then some (.inl (s2.1,(w64 (s2.2.1+1)),s2.2.2))else if(rl3.1==0)then some (.inr (.inr (false,s2.2.2)))else(Zq rl3.2.1).bind λx5=>(Zq rl3.2.1).bind λx6=>(quo? rl3.2.1 x6).bind λx7=>(set? s2.2.2 x5 x7).bind λx8=>some (.inl (true,(w64 (s2.2.1+1)),x8))else some (.inr (.inl (s2.1,s2.2.2))):Bool×Int×(List Int)->Option ((Bool×Int×(List Int))⊕((Bool×(List Int))⊕(Bool×(List Int))))) n (false,0,v0)=some r/\
    ((∃b v,r= .inl (b,v)/\Way m f.Clauses S v/\(b=false->v=v0/\∀c∈f.Clauses,good v c)/\(b=true->zer v<zer v0))\/∃v,r= .inr (false,v)/\v.length=m+1/\Bad f.Clauses S):=by
  have hnum:=hf.num
  obtain ⟨r,g1,g2⟩:=Yn (l:=f.Clauses) (n:=n) (Z:=Bool×List Int) (ρ:=(Bool×(List Int))⊕(Bool×(List Int))) (B:=λ(s2:Bool×Int×(List Int))=>if (decide (s2.2.1<(len f.Clauses)))then(get? f.Clauses s2.2.1).bind λx1=>(iterN (λ(s3:Int×Int×Bool×Int)=>if(decide (s3.2.2.2<(len x1)))then(get? x1 s3.2.2.2).bind λx2=>(Zq x2).bind λx3=>(get? s2.2.2 x3).bind λx4=>if((cond (decide (x2<0)) (w64 (0-x4)) x4)==0)then some (.inl ((w64 (s3.1+1)),x2,(s3.2.2.1||(decide ((cond (decide (x2<0)) (w64 (0-x4)) x4)>0))),(w64 (s3.2.2.2+1))))else some (.inl (s3.1,s3.2.1,(s3.2.2.1||(decide ((cond (decide (x2<0)) (w64 (0-x4)) x4)>0))),(w64 (s3.2.2.2+1))))else some (.inr (s3.1,s3.2.1,s3.2.2.1))) n (0,0,false,0)).bind λ(rl3:Int×Int×Bool)=>if(rl3.2.2||(decide (rl3.1>1)))then some (.inl (s2.1,(w64 (s2.2.1+1)),s2.2.2))else if(rl3.1==0)then some (.inr (.inr (false,s2.2.2)))else(Zq rl3.2.1).bind λx5=>(Zq rl3.2.1).bind λx6=>(quo? rl3.2.1 x6).bind λx7=>(set? s2.2.2 x5 x7).bind λx8=>some (.inl (true,(w64 (s2.2.1+1)),x8))else some (.inr (.inl (s2.1,s2.2.2)))) (λk q=>(q.1,(k:Int),q.2))
    (λys q=>Way m f.Clauses S q.2/\(q.1=false->q.2=v0/\∃pre,pre++ys=f.Clauses/\∀c∈pre,good q.2 c)/\(q.1=true->zer q.2<zer v0))
    (λr=>(∃b v,r= .inl (b,v)/\Way m f.Clauses S v/\(b=false->v=v0/\∀c∈f.Clauses,good v c)/\(b=true->zer v<zer v0))\/∃v,r= .inr (false,v)/\v.length=m+1/\Bad f.Clauses S)
    (λk c xs q hk hx hl⟨i1,i2,i3⟩=>by
      have hd:decide ((k:Int)<len f.Clauses)=true:=by rw[Za];simp;omega
      have hcm:=Zbz hx;have hcl:=hf.cl c hcm;have hk1:w64 ((k:Int)+1)=((k+1:Nat):Int):=by rw[Zb];rfl
      have hsc:=FR i1.asg hf.small hcl.1.lit hcl.2 hn;simp only[hd,Zb5,get?_nat,hx,Zbn];rw[hsc];simp only[Zbn];rcases Jk hf hS i1 hcm with⟨e,hg⟩|⟨e,⟨e0,hb⟩|⟨e0,hl1,hw1,hz⟩⟩
      · refine .inl ⟨q,by rw[Zbq e,hk1],i1,λhq=> ?_,i3⟩
        obtain⟨j1,pre,j2,j3⟩:=i2 hq;refine⟨j1,pre++[c],by rw[ZbI];exact j2,λd hd=>?_⟩;rcases Zb7.1 hd with hd|hd
        · exact j3 d hd
        · rw[Zb3]at hd;subst hd;exact hg
      · exact .inr ⟨_,by rw[Zbv (by rw[e];decide),Zbq e0],.inr ⟨_,rfl,i1.asg.len,hb⟩⟩
      · refine .inl ⟨(true,stA q.2 (lst (free q.2 c))), ?_,hw1,λh=>(by cases h),λ_=> ?_⟩
        · rw[Zbv (by rw[e];decide),Zbv (by rw[e0];decide),YX hf.small hl1]
          simp only[Zbn];rw[Nh hf.small hl1];simp only[Zbn];rw[Lc i1.asg hl1];simp only[Zbn,hk1]
        · show zer (stA q.2 (lst (free q.2 c)))<zer v0
          cases hq:q.1
          · have:=(i2 hq).1;rw[this]at hz⊢;omega
          · have:=i3 hq;omega)
    (λq⟨i1,i2,i3⟩=>by
      have hd:decide ((f.Clauses.length:Int)<len f.Clauses)=false:=by rw[Za];simp
      simp only[hd,Zbp,Zbx];refine⟨_,rfl,.inl ⟨q.1,q.2,rfl,i1,λhq=>?_,i3⟩⟩;obtain⟨j1,pre,j2,j3⟩:=i2 hq;rw[Zcg]at j2
      exact⟨j1,j2▸j3⟩) (a:=(false,v0)) ⟨hw,λ_=>⟨rfl,[],rfl,λ_ h=>(by cases h)⟩,λh=>(by cases h)⟩ (by omega)
  exact⟨r,g1,g2⟩
def JR{a:List Int}(h:Asg m a):zer a<=m+1:=by
 rw[<-h.len];exact List.count_le_length
theorem Ku(hf:FmP f m)(hS:∀x,S x->isL m x){v:List Int}(hw:Way m f.Clauses S v){n:Nat}(hn:2000<=n):
    ∃b v',Xn n f v=some (b,v')/\v'.length=m+1/\(b=true->Okc m f.Clauses S v')/\(b=false->Bad f.Clauses S):=by
  have key:∀(z:Nat)(v:List Int)(k:Nat),zer v<=z->Way m f.Clauses S v->z+2<=k->∃r,iterN (λ(s1:Bool×(List Int))=>if s1.1 then(iterN (λ(s2:Bool×Int×(List Int))=>if (decide (s2.2.1<(len f.Clauses)))then(get? f.Clauses s2.2.1).bind λx1=>(iterN (λ(s3:Int×Int×Bool×Int)=>if(decide (s3.2.2.2<(len x1)))then(get? x1 s3.2.2.2).bind λx2=>(Zq x2).bind λx3=>(get? s2.2.2 x3).bind λx4=>if((cond (decide (x2<0)) (w64 (0-x4)) x4)==0)then some (.inl ((w64 (s3.1+1)),x2,(s3.2.2.1||(decide ((cond (decide (x2<0)) (w64 (0-x4)) x4)>0))),(w64 (s3.2.2.2+1))))else some (.inl (s3.1,s3.2.1,(s3.2.2.1||(decide ((cond (decide (x2<0)) (w64 (0-x4)) x4)>0))),(w64 (s3.2.2.2+1))))else some (.inr (s3.1,s3.2.1,s3.2.2.1))) n (0,0,false,0)).bind λ(rl3:Int×Int×Bool)=>if(rl3.2.2||(decide (rl3.1>1)))then some (.inl (s2.1,(w64 (s2.2.1+1)),s2.2.2))else if(rl3.1==0)then some (.inr (.inr (false,s2.2.2)))else(Zq rl3.2.1).bind λx5=>(Zq rl3.2.1).bind λx6=>(quo? rl3.2.1 x6).bind λx7=>(set? s2.2.2 x5 x7).bind λx8=>some (.inl (true,(w64 (s2.2.1+1)),x8))else some (.inr (.inl (s2.1,s2.2.2)))) n (false,0,s1.2)).bind λ(rl2:(Bool×(List Int))⊕(Bool×(List Int)))=>match rl2 with|.inl s2r=>some (.inl (s2r.1,s2r.2))|.inr v=>some (.inr (.inr v))else some (.inr (.inl (s1.2))):Bool×(List Int)->Option ((Bool×(List Int))⊕((List Int)⊕(Bool×(List Int))))) k (true,v)=some r/\((∃a,r= .inl a/\Okc m f.Clauses S a)\/∃a,r= .inr (false,a)/\a.length=m+1/\Bad f.Clauses S):=by
    intro z
    induction z with
    | zero=>
      intro v k hz hw hk;obtain⟨k,rfl⟩:∃q,k=q+2:=⟨k-2,by omega⟩;obtain⟨r,g1,g2⟩:=OP hf hS hw hn;rcases g2 with⟨b,a,rfl,h1,h2,h3⟩|⟨a,rfl,h1,h2⟩
      · cases b with
        |true=>have:=h3 rfl;omega
        | false=>
          obtain⟨e,hg⟩:=h2 rfl;refine⟨.inl a,?_,.inl ⟨a,rfl,⟨h1.asg,h1.ext,h1.snd,hg⟩⟩⟩;rw[show k+2=(k+1)+1 from rfl,Wm (s':=(false,a)) (by simp only[Zb5];rw[g1];rfl)];exact ZI rfl (by omega)
      · exact⟨.inr (false,a),ZI (by simp only[Zb5];rw[g1];rfl) (by omega),.inr ⟨a,rfl,h1,h2⟩⟩
    | succ z ih=>
      intro v k hz hw hk;obtain⟨k,rfl⟩:∃q,k=q+2:=⟨k-2,by omega⟩;obtain⟨r,g1,g2⟩:=OP hf hS hw hn;rcases g2 with⟨b,a,rfl,h1,h2,h3⟩|⟨a,rfl,h1,h2⟩
      · cases b with
        | true=>
          have:=h3 rfl;obtain⟨r,q1,q2⟩:=ih a (k+1) (by omega) h1 (by omega);refine⟨r,?_,q2⟩;rw[show k+2=(k+1)+1 from rfl,Wm (s':=(true,a)) (by simp only[Zb5];rw[g1];rfl)];exact q1
        | false=>
          obtain⟨e,hg⟩:=h2 rfl;refine⟨.inl a,?_,.inl ⟨a,rfl,⟨h1.asg,h1.ext,h1.snd,hg⟩⟩⟩;rw[show k+2=(k+1)+1 from rfl,Wm (s':=(false,a)) (by simp only[Zb5];rw[g1];rfl)];exact ZI rfl (by omega)
      · exact⟨.inr (false,a),ZI (by simp only[Zb5];rw[g1];rfl) (by omega),.inr ⟨a,rfl,h1,h2⟩⟩
  obtain⟨r,g1,g2⟩:=key (m+1) v n (JR hw.asg) hw (by have:=hf.small;omega);have G:∀q,r=q->Xn n f v=(match q with|.inl s1r=>some (true,s1r)|.inr v=>some v):=λq e=>by
    subst e;unfold Xn;exact congrArg (λo=>Option.bind o (λ(rl1:(List Int)⊕(Bool×(List Int)))=>match rl1 with|.inl s1r=>some (true,s1r)|.inr v=>some v)) g1
  rcases g2 with⟨a,e,h⟩|⟨a,e,h1,h2⟩
  · exact⟨true,a,G _ e,h.asg.len,λ_=>h,λh=>(by cases h)⟩
  · exact⟨false,a,G _ e,h1,λh=>(by cases h),λ_=>h2⟩
end
section
variable{f:D.Formula}{m:Nat}{S:Int->Prop}
theorem YY{x:Int}(hm:m<=400)(hl:isL m x):Yx x=some (x.natAbs:Int):=Hr hm hl
def KN{x:Int}(hm:m<=400)(hl:isL m x):(cond (decide (x<0)) (w64 (0-x)) x)=(x.natAbs:Int):=by
 obtain⟨l0,l1⟩:=hl;by_cases h:x<0
 ·rw[decide_eq_true h,cond_true,Zb];omega
 ·rw[decide_eq_false h,cond_false];omega
def Jl{x:Int}:(cond (decide (x<0)) (-1) 1:Int)=if x<0 then-1 else 1:=by
 by_cases h:x<0
 ·rw[decide_eq_true h,cond_true,Zbq h]
 ·rw[decide_eq_false h,cond_false,Zbv h]
def BR{U:Type}{l:List U}{x:U}(h:l.length<=1000000):app? l [x]=some (l++[x]):=by
 unfold app? room;rw[Zbq (by simp;omega)]
def Nj{a q:List Int}{l:Int}(hA:Asg m a)(hm:m<=400)(hl:isL m l)(h0:lv a l=0)(hq:q.length<=1000000):Z6 ⟨a,q⟩ l=some (true,⟨stA a l,q++[l]⟩):=by
 have hg:a.getD l.natAbs 0=0:=by unfold lv at h0;split at h0<;>omega
 unfold Z6;rw[KN hm hl,QG hA hl,hg];simp only[Zbn];rw[ifn,Jl,Lc hA hl];simp only[Zbn];rw[BR hq];rfl
def Eu{a q:List Int}{l:Int}(hA:Asg m a)(hm:m<=400)(hl:isL m l)(h0:lv a l≠0):Z6 ⟨a,q⟩ l=some (lv a l==1,⟨a,q⟩):=by
 have hv:=hA.val l.natAbs;unfold Z6;rw[KN hm hl,QG hA hl];simp only[Zbn];have hg:a.getD l.natAbs 0≠0:=λe=>h0 (by unfold lv;rw[e];split<;>rfl);rw[Zbq (by simpa using hg),Jl];congr 2;unfold lv;by_cases h:l<0
 ·rw[Zbq h,Zbq h];rcases hv with e|e|e<;>rw[e]<;>decide
 ·rw[Zbv h,Zbv h]
theorem Fh {a q:List Int}(hA:Asg m a)(hm:m<=400){c:List Int}(hc:∀x∈c,isL m x)(hlen:c.length<=1000)(hq:q.length<=1000000){n:Nat}(hn:2000<=n):
    ((c.any λx=>lv a x==1)=true/\Zn n ⟨a,q⟩ c=some (true,⟨a,q⟩))\/
    ((c.any λx=>lv a x==1)=false/\((free a c=[]/\Zn n ⟨a,q⟩ c=some (false,⟨a,q⟩))\/(∃l,free a c=[l]/\Zn n ⟨a,q⟩ c=some (true,⟨stA a l,q++[l]⟩))\/(2<=(free a c).length/\Zn n ⟨a,q⟩ c=some (true,⟨a,q⟩)))):=by
  obtain⟨r,g1,g2⟩:=Yn (l:=c) (n:=n) (Z:=Int×Int) (ρ:=(Int×Int)⊕(Bool×D.assignment)) (B:=λ(s1:Int×Int×Int)=>if (decide (s1.2.2<(len c)))then(get? c s1.2.2).bind λx1=>(Yx x1).bind λx2=>(get? a x2).bind λx3=>if(x3==0)then some (.inl ((w64 (s1.1+1)),x1,(w64 (s1.2.2+1))))else if((decide (x3>0))==(decide (x1>0)))then some (.inr (.inr (true,(⟨a,q⟩:D.assignment))))else some (.inl (s1.1,s1.2.1,(w64 (s1.2.2+1))))else some (.inr (.inl (s1.1,s1.2.1)))) (λk z=>(z.1,z.2,(k:Int)))
    (λys z=>∃pre,pre++ys=c/\z=(((free a pre).length:Int),lst (free a pre))/\(pre.any λx=>lv a x==1)=false)
    (λr=>(r= .inl (((free a c).length:Int),lst (free a c))/\(c.any λx=>lv a x==1)=false)\/(r= .inr (true,⟨a,q⟩)/\(c.any λx=>lv a x==1)=true))
    (λk x xs z hk hx hl⟨pre,h1,h2,h3⟩=>by
      have hd:decide ((k:Int)<len c)=true:=by rw[Za];simp;omega
      have hlx:=hc x (Zbz hx);have hfl:(free a pre).length<=c.length:=by
        rw[<-h1];exact Zc9 (List.length_filter_le _ _) (by simp)
      have hk1:w64 ((k:Int)+1)=((k+1:Nat):Int):=by rw[Zb];rfl
      have hv:=hA.val x.natAbs;have hx0:=hlx.1;subst h2;simp only[hd,Zb5,get?_nat,hx,Zbn];rw[YY hm hlx];simp only[Zbn];rw[QG hA hlx];simp only[Zbn];by_cases h0:a.getD x.natAbs 0=0
      · have hl0:lv a x=0:=by unfold lv;rw[h0];split<;>rfl
        have hfr:free a (pre++[x])=free a pre++[x]:=by
          rw[Qy];congr 1;unfold free;simp[hl0]
        refine .inl ⟨(((free a (pre++[x])).length:Int),lst (free a (pre++[x]))),?_,pre++[x],by rw[ZbI];exact h1,rfl,?_⟩
        · rw[Zbq (by simpa using h0),hk1,hfr,Gp,Zb];simp
        · rw[ZeE,h3];simp[hl0]
      · have hl0:lv a x≠0:=λe=>h0 (by unfold lv at e;split at e<;>omega)
        rw[Zbv (by simpa using h0)];by_cases h4:lv a x=1
        · refine .inr ⟨_, ?_,.inr ⟨rfl,Td.2 ⟨x,Zbz hx,h4⟩⟩⟩
          rw[Zbq];unfold lv at h4;by_cases hneg:x<0
          · rw[Zbq hneg]at h4
            have e1:a.getD x.natAbs 0=-1:=by omega
            rw[e1,decide_eq_false (show¬x>0 by omega)];decide
          · rw[Zbv hneg]at h4
            rw[h4,decide_eq_true (show x>0 by omega)];decide
        · have hfr:free a (pre++[x])=free a pre:=by
            rw[Qy];have:free a [x]=[]:=by unfold free;simp[hl0]
            rw[this,Zcg]
          refine .inl ⟨(((free a (pre++[x])).length:Int),lst (free a (pre++[x]))),?_,pre++[x],by rw[ZbI];exact h1,rfl,?_⟩
          · rw[Zbv,hk1,hfr]
            unfold lv at h4;by_cases hneg:x<0
            · rw[Zbq hneg]at h4
              have e1:a.getD x.natAbs 0=1:=by omega
              rw[e1,decide_eq_false (show¬x>0 by omega)];decide
            · rw[Zbv hneg]at h4
              have e1:a.getD x.natAbs 0=-1:=by omega
              rw[e1,decide_eq_true (show x>0 by omega)];decide
          · rw[ZeE,h3];simp[h4])
    (λz⟨pre,h1,h2,h3⟩=>by
      have hd:decide ((c.length:Int)<len c)=false:=by rw[Za];simp
      simp only[hd,Zbp,Zbx];rw[Zcg]at h1;subst h1
      exact⟨_,rfl,.inl ⟨by rw[h2],h3⟩⟩) (a:=(0,0)) ⟨[],rfl,rfl,rfl⟩ (by omega)
  have G:∀z,r=z->Zn n ⟨a,q⟩ c=(match z with|.inl s1r=>if(s1r.1==0)then some (false,⟨a,q⟩)else if(s1r.1==1)then(Z6 ⟨a,q⟩ s1r.2).bind λx4=>some (x4.1,x4.2)else some (true,⟨a,q⟩)|.inr v=>some v):=λz e=>by
    subst e;unfold Zn;exact congrArg (λo=>Option.bind o (λ(rl1:(Int×Int)⊕(Bool×D.assignment))=>match rl1 with|.inl s1r=>if(s1r.1==0)then some (false,⟨a,q⟩)else if(s1r.1==1)then(Z6 ⟨a,q⟩ s1r.2).bind λx4=>some (x4.1,x4.2)else some (true,⟨a,q⟩)|.inr v=>some v)) g1
  rcases g2 with⟨e,hany⟩|⟨e,hany⟩
  · refine .inr ⟨hany, ?_⟩
    have G:=G _ e
    match hfr:free a c with
    |[]=>exact .inl ⟨rfl,by rw[G,hfr];rfl⟩
    | [l]=>
      have hlm:l∈free a c:=by rw[hfr];simp
      rw[SF]at hlm;refine .inr (.inl ⟨l,rfl,?_⟩);rw[G,hfr];show((Z6 ⟨a,q⟩ l).bind λx4=>some (x4.1,x4.2))=_;rw[Nj hA hm (hc l hlm.1) hlm.2 hq];rfl
    | x::y::l=>
      refine .inr (.inr ⟨by simp,?_⟩);rw[G,hfr];simp only;rw[Zbv (by simp;omega),Zbv (by simp;omega)]
  · exact .inl ⟨hany,G _ e⟩
def pend(a q:List Int)(c:List Int):Prop:=∃x∈c,lv a x=-1∧-x∈q
structure Wq(m:Nat)(cs:List (List Int))(S:Int->Prop)(a q:List Int):Prop where
 way:Way m cs S a
 tru:∀l∈q,isL m l/\lv a l=1
 len:q.length+zer a<=1000
def NK(hf:FmP f m)(hS:∀x,S x->isL m x){a q:List Int}(hw:Wq m f.Clauses S a q){c:List Int}(hc:c∈f.Clauses)(P:List Int->Prop)(hJ:∀d∈f.Clauses,P d\/good a d\/pend a q d){n:Nat}(hn:2000<=n):
  (Zn n ⟨a,q⟩ c=some (false,⟨a,q⟩)/\Bad f.Clauses S)\/
  ∃a' q',Zn n ⟨a,q⟩ c=some (true,⟨a',q'⟩)/\Wq m f.Clauses S a' q'/\q'.length+2*zer a'<=q.length+2*zer a/\good a' c/\∀d∈f.Clauses,P d\/good a' d\/pend a' q' d:=by
 have hcl:=hf.cl c hc;have hA:=hw.way.asg;rcases Fh (q:=q) hA hf.small hcl.1.lit hcl.2 (by have:=hw.len;omega) hn with⟨h1,h2⟩|⟨h1,⟨h3,h2⟩|⟨l,h3,h2⟩|⟨h3,h2⟩⟩
 ·exact .inr ⟨a,q,h2,hw,Zb0 _,.inl (Td.1 h1),hJ⟩
 ·have hn1:∀x∈c,lv a x≠1:=λx hx e=>by
   have:=Td.2 ⟨x,hx,e⟩;rw[h1]at this;cases this
  exact .inl ⟨h2,Ny hA hw.way.snd hc hcl.1 hn1 h3⟩
 ·have hn1:∀x∈c,lv a x≠1:=λx hx e=>by
   have:=Td.2 ⟨x,hx,e⟩;rw[h1]at this;cases this
  obtain⟨k1,k2,k3,k4⟩:=hw.way.unit hS hc hcl.1 hn1 h3;have hz:=UB hA k2 k3;have hlen:=hw.len;refine .inr ⟨stA a l,q++[l],h2,⟨k1,λy hy=>?_,by rw[Zbw];simp;omega⟩,by rw[Zbw];simp;omega,.inl ⟨l,k4,by rw[lv_set hA.len k2 k2.1,Zbq rfl]⟩,λd hd=>?_⟩
  ·rcases Zb7.1 hy with hy|hy
   ·have:=hw.tru y hy;exact⟨this.1,by rw[lv_mono hA k2 k3 this.1.1 (by omega)];exact this.2⟩
   ·rw[Zb3]at hy;subst hy;exact⟨k2,by rw[lv_set hA.len k2 k2.1,Zbq rfl]⟩
  ·rcases hJ d hd with h|h|⟨x,hx,hx1,hx2⟩
   ·exact .inl h
   ·rcases KU hA k2 k3 (hf.cl d hd).1 h with h|h
    ·exact .inr (.inl h)
    ·exact .inr (.inr ⟨-l,h,by rw[lv_neg k2.1,lv_set hA.len k2 k2.1,Zbq rfl],by simp⟩)
   ·exact .inr (.inr ⟨x,hx,by rw[lv_mono hA k2 k3 ((hf.cl d hd).1.lit x hx).1 (by omega)];exact hx1,Zd4 _ hx2⟩)
 ·exact .inr ⟨a,q,h2,hw,Zb0 _,OV hcl.1 h3,hJ⟩
end
structure OccP(f:D.Formula)(m:Nat)(occ:List (List Int)):Prop where
 len:occ.length=2*m+1
 val:∀j,∀i∈occ.getD j [],0<=i/\i<(f.Clauses.length:Int)
 all:∀(i:Nat)(c:List Int),f.Clauses[i]? =some c->∀y∈c,(i:Int)∈occ.getD (y+m).toNat []
 small:∀j,(occ.getD j []).length<=1700000
def Hg{U:Type}{l:List U}{x:U}(h:l.length<=4000000):app? l [x]=some (l++[x]):=by
 unfold app? room;rw[Zbq (by simp;omega)]
def QD{l:List (List Int)}{i j:Nat}{v:List Int}(h:i<l.length):(l.set i v).getD j []=if j=i then v else l.getD j []:=by
 rw[Zbr,Zde,Zbr];by_cases e:i=j
 ·subst e;rw[Zbq rfl,Zbq h,Zbq rfl];rfl
 ·rw[Zbv e,Zbv (Ne.symm e)]
def Gb{l:List (List Int)}{i:Nat}(h:i<l.length):l[i]? =some (l.getD i []):=by
 rw[Zbr,Zbo h];rfl
section
variable{f:D.Formula}{m:Nat}{S:Int->Prop}{occ:List (List Int)}
def DC{y:Int}(hm:m<=400)(hl:isL m y):w64 (y+(m:Int))=(((y+m).toNat:Nat):Int)/\(y+m).toNat<2*m+1:=by
 obtain⟨l0,l1⟩:=hl;rw[Zb];omega
structure OccK(f:D.Formula)(m k:Nat)(pre:List Int)(occ:List (List Int)):Prop where
 len:occ.length=2*m+1
 val:∀j,∀i∈occ.getD j [],0<=i/\i<(f.Clauses.length:Int)
 all:∀(i:Nat)(c:List Int),i<k->f.Clauses[i]? =some c->∀y∈c,(i:Int)∈occ.getD (y+m).toNat []
 cur:∀y∈pre,(k:Int)∈occ.getD (y+m).toNat []
 small:∀j,(occ.getD j []).length<=1000*k+pre.length
def GV(hf:FmP f m){k:Nat}{c:List Int}(hk:f.Clauses[k]? =some c)(h:OccK f m k [] occ){n:Nat}(hn:4000000<=n):∃occ',iterN (λ(s2:Int×(List (List Int)))=>if(decide (s2.1<(len c)))then(get? c s2.1).bind λx3=>(get? s2.2 (w64 (x3+f.Vars))).bind λx4=>(app? x4 ([(k:Int)]:List Int)).bind λx5=>(set? s2.2 (w64 (x3+f.Vars)) x5).bind λx6=>some (.inl ((w64 (s2.1+1)),x6))else some (.inr (s2.2))) n (0,occ)=some occ'/\OccK f m k c occ':=by
  have hcl:=hf.cl c (Zbz hk);have hkl:k<f.Clauses.length:=(Zbu.1 hk).1;have hnum:=hf.num
  obtain ⟨r,g1,g2⟩:=Yn (l:=c) (n:=n) (Z:=List (List Int)) (ρ:=List (List Int)) (B:=λ(s2:Int×(List (List Int)))=>if(decide (s2.1<(len c)))then(get? c s2.1).bind λx3=>(get? s2.2 (w64 (x3+f.Vars))).bind λx4=>(app? x4 ([(k:Int)]:List Int)).bind λx5=>(set? s2.2 (w64 (x3+f.Vars)) x5).bind λx6=>some (.inl ((w64 (s2.1+1)),x6))else some (.inr (s2.2))) (λj a=>((j:Int),a)) (λys a=>∃pre,pre++ys=c/\OccK f m k pre a) (λr=>OccK f m k c r)
    (λj y ys a hj hy hl⟨pre,h1,h2⟩=>by
      have hd:decide ((j:Int)<len c)=true:=by rw[Za];simp;omega
      have hly:=hcl.1.lit y (Zbz hy);have hk1:w64 ((j:Int)+1)=((j+1:Nat):Int):=by rw[Zb];rfl
      obtain⟨e1,e2⟩:=DC hf.small hly;have hpl:pre.length<=c.length:=by rw[<-h1];simp
      have hsm:=h2.small (y+m).toNat;simp only[hd,Zb5,get?_nat,hy,Zbn];rw[hf.vars,e1,get?_nat,Gb (by rw[h2.len];exact e2)];simp only[Zbn];rw[Hg (by omega)];simp only[Zbn];have hst:set? a (((y+m).toNat:Nat):Int) (a.getD (y+m).toNat []++[(k:Int)])=some (a.set (y+m).toNat (a.getD (y+m).toNat []++[(k:Int)])):=by
        unfold set?;rw[Zbq ⟨by omega,by have:=h2.len;rw[ZbE];omega⟩,ZbE]
      rw[hst];have hlt:(y+m).toNat<a.length:=by rw[h2.len];exact e2
      have hmem:∀j' i,i∈a.getD j' []->i∈(a.set (y+m).toNat (a.getD (y+m).toNat []++[(k:Int)])).getD j' []:=λj' i hi=>by
        rw[QD hlt];split
        · rename_i e;subst e;exact Zd4 _ hi
        · exact hi
      refine .inl ⟨_,by simp only[Zbn,hk1],pre++[y],by rw[ZbI];exact h1,?_,λj' i hi=>?_,λi d hi hd' z hz=>hmem _ _ (h2.all i d hi hd' z hz),λz hz=>?_,λj'=>?_⟩
      · rw[ZdF];exact h2.len
      · rw[QD hlt]at hi
        split at hi
        · rcases Zb7.1 hi with hi|hi
          · exact h2.val _ i hi
          · rw[Zb3]at hi;subst hi;omega
        · exact h2.val _ i hi
      · rcases Zb7.1 hz with hz|hz
        · exact hmem _ _ (h2.cur z hz)
        · rw[Zb3]at hz;subst hz
          rw[QD hlt,Zbq rfl];simp
      · have e:(pre++[y]).length=pre.length+1:=by simp
        have h3:=h2.small j';rw[QD hlt,e];split
        · rw[Zbw,Zcb];omega
        · omega)
    (λa⟨pre,h1,h2⟩=>by
      have hd:decide ((c.length:Int)<len c)=false:=by rw[Za];simp
      simp only[hd,Zbp,Zbx];rw[Zcg]at h1;subst h1
      exact⟨_,rfl,h2⟩) (a:=occ) ⟨[],rfl,h⟩ (by omega)
  exact⟨r,g1,g2⟩
def MU{U:Type}{k:Nat}{z:U}(h:k<=100000):mk? (k:Int) z=some (List.replicate k z):=by
 unfold mk? room;rw[ifp];simp
def new_solver(hf:FmP f m){n:Nat}(hn:4000000<=n):∃occ,We n f=some ⟨f,occ⟩/\OccP f m occ:=by
  have hnum:=hf.num;have hm:=hf.small;have e0:w64 (w64 (2*f.Vars)+1)=((2*m+1:Nat):Int):=by rw[hf.vars,Zb (x:=2*(m:Int)),Zb];omega
  have hgl:∀j,(List.replicate (2*m+1) ([]:List Int)).getD j []=[]:=λj=>by
    rw[Zbr,ZcM];split<;>rfl
  obtain⟨r,g1,g2⟩:=Yn (l:=f.Clauses) (n:=n) (Z:=List (List Int)) (ρ:=List (List Int)) (B:=λ(s1:Int×(List (List Int)))=>if (decide (s1.1<(len f.Clauses)))then(get? f.Clauses s1.1).bind λx2=>(iterN (λ(s2:Int×(List (List Int)))=>if(decide (s2.1<(len x2)))then(get? x2 s2.1).bind λx3=>(get? s2.2 (w64 (x3+f.Vars))).bind λx4=>(app? x4 ([s1.1]:List Int)).bind λx5=>(set? s2.2 (w64 (x3+f.Vars)) x5).bind λx6=>some (.inl ((w64 (s2.1+1)),x6))else some (.inr (s2.2))) n (0,s1.2)).bind λ(rl2:(List (List Int)))=>some (.inl ((w64 (s1.1+1)),rl2))else some (.inr (s1.2))) (λj a=>((j:Int),a)) (λys a=>∃k,k+ys.length=f.Clauses.length/\OccK f m k [] a) (λr=>OccK f m f.Clauses.length [] r)
    (λj c xs a hj hx hl⟨k,h1,h2⟩=>by
      have hd:decide ((j:Int)<len f.Clauses)=true:=by rw[Za];simp;omega
      have hkj:k=j:=by omega
      subst hkj;have hk1:w64 ((k:Int)+1)=((k+1:Nat):Int):=by rw[Zb];rfl
      have hcl:=hf.cl c (Zbz hx);obtain⟨o',q1,q2⟩:=GV hf hx h2 hn;simp only[hd,Zb5,get?_nat,hx,Zbn];rw[q1];refine .inl ⟨o',by simp only[Zbn,hk1],k+1,by simp at h1;omega,q2.len,q2.val,λi d hi hd' y hy=>?_,λy hy=>(by cases hy),λj'=>?_⟩
      · by_cases e:i=k
        · subst e
          rw[hx]at hd';cases hd';exact q2.cur y hy
        · exact q2.all i d (by omega) hd' y hy
      · have h3:=q2.small j'
        have h4:=hcl.2;have e:([]:List Int).length=0:=rfl
        rw[e];omega)
    (λa⟨k,h1,h2⟩=>by
      have hd:decide ((f.Clauses.length:Int)<len f.Clauses)=false:=by rw[Za];simp
      simp only[hd,Zbp,Zbx];have:k=f.Clauses.length:=by simpa using h1
      subst this
      exact⟨_,rfl,h2⟩) (a:=List.replicate (2*m+1) []) ⟨0,by simp,by simp,λj i hi=>(by rw[hgl]at hi;cases hi),λi c hi=>(by omega),λy hy=>(by cases hy),λj=>(by rw[hgl];simp)⟩ (by omega)
  refine⟨r,?_,g2.len,g2.val,λi c hc y hy=>g2.all i c (Zbu.1 hc).1 hc y hy,λj=>?_⟩
  · unfold We
    rw[e0,MU (by omega)];simp only[Zbn];rw[show((0:Nat):Int)=0 from rfl]at g1;rw[g1];rfl
  · have h3:=g2.small j
    have e:([]:List Int).length=0:=rfl;rw[e]at h3;omega
theorem CG (hf:FmP f m)(hS:∀x,S x->isL m x)(ho:OccP f m occ){n:Nat}(hn:4000000<=n):∀(M:Nat)(a q:List Int)(k:Nat),q.length+2*zer a<=M->Wq m f.Clauses S a q->(∀d∈f.Clauses,good a d\/pend a q d)->M+1<=k->∃r,iterN (λ(s1:(List Int)×(List Int))=>if (decide ((len s1.2)>0))then(get? s1.2 (w64 ((len s1.2)-1))).bind λx1=>(cut? s1.2 0 (w64 ((len s1.2)-1))).bind λx2=>(get? occ (w64 (f.Vars-x1))).bind λx3=>(iterN (λ(s2:Int×(List Int)×(List Int))=>if(decide (s2.1<(len x3)))then(get? x3 s2.1).bind λx4=>(get? f.Clauses x4).bind λx5=>(Zn n (D.assignment.mk s2.2.1 s2.2.2) x5).bind λx6=>if(!x6.1)then some (.inr (.inr (false,x6.2)))else some (.inl ((w64 (s2.1+1)),x6.2.val,x6.2.queue))else some (.inr (.inl (s2.2.1,s2.2.2)))) n (0,s1.1,x2)).bind λ(rl2:((List Int)×(List Int))⊕(Bool×D.assignment))=>match rl2 with|.inl s2r=>some (.inl (s2r.1,s2r.2))|.inr v=>some (.inr (.inr v))else some (.inr (.inl (s1.1,s1.2))):(List Int)×(List Int)->Option (((List Int)×(List Int))⊕(((List Int)×(List Int))⊕(Bool×D.assignment)))) k (a,q)=some r/\((∃a',r= .inl (a',[])/\Okc m f.Clauses S a')\/∃x,r= .inr (false,x)/\Bad f.Clauses S):=by
  intro M
  induction M with
  | zero=>
    intro a q k hM hw hJ hk;have hq:q=[]:=Zcu (by omega);subst hq;refine⟨_,ZI rfl (by omega),.inl ⟨a,rfl,hw.way.asg,hw.way.ext,hw.way.snd,λd hd=>?_⟩⟩;rcases hJ d hd with h|⟨x,_,_,h⟩
    · exact h
    · cases h
  | succ M ih =>
    intro a q k hM hw hJ hk;obtain⟨k,rfl⟩:∃j,k=j+1:=⟨k-1,by omega⟩;rcases List.eq_nil_or_concat q with rfl|⟨q0,l,rfl⟩
    · refine⟨_,ZI rfl (by omega),.inl ⟨a,rfl,hw.way.asg,hw.way.ext,hw.way.snd,λd hd=> ?_⟩⟩
      rcases hJ d hd with h|⟨x,_,_,h⟩
      · exact h
      · cases h
    · have hlen:=hw.len
      rw[List.concat_eq_append]at*;rw[Zbw]at hlen hM;simp only[Zcb]at hlen hM;obtain⟨hl,hl1⟩:=hw.tru l (by simp);have hln:isL m (-l):=⟨by have:=hl.1;omega,by rw[Zd7];exact hl.2⟩;have e1:w64 (len (q0++[l])-1)=(q0.length:Int):=by rw[Za,Zbw];simp;exact Zb
      have e2:get? (q0++[l]) (q0.length:Int)=some l:=by rw[get?_nat,ZbB (Zb0 _)];simp
      have e3:cut? (q0++[l]) 0 (q0.length:Int)=some q0:=by
        unfold cut?;rw[Zbq ⟨ZbW _,by omega,by rw[Zbw,Zcb];omega⟩,ZbE];simp
      obtain⟨x1,x2⟩:=DC hf.small hln;have e4:get? occ (w64 (f.Vars-l))=some (occ.getD (-l+m).toNat []):=by
        rw[hf.vars,show((m:Int)-l)=-l+m by omega,x1,get?_nat,Gb (by rw[ho.len];exact x2)]
      have hgt:decide (len (q0++[l])>0)=true:=by rw[Za];exact decide_eq_true (by rw[Zbw,Zcb];omega)
      have hw0:Wq m f.Clauses S a q0:=⟨hw.way,λy hy=>hw.tru y (Zd4 _ hy),by omega⟩;have hsm:=ho.small (-l+m).toNat;obtain⟨r,g1,g2⟩:=Yn (l:=occ.getD (-l+m).toNat []) (n:=n) (Z:=List Int×List Int) (ρ:=((List Int)×(List Int))⊕(Bool×D.assignment)) (B:=λ(s2:Int×(List Int)×(List Int))=>if(decide (s2.1<(len (occ.getD (-l+m).toNat []))))then(get? (occ.getD (-l+m).toNat []) s2.1).bind λx4=>(get? f.Clauses x4).bind λx5=>(Zn n (D.assignment.mk s2.2.1 s2.2.2) x5).bind λx6=>if(!x6.1)then some (.inr (.inr (false,x6.2)))else some (.inl ((w64 (s2.1+1)),x6.2.val,x6.2.queue))else some (.inr (.inl (s2.2.1,s2.2.2)))) (λj z=>((j:Int),z.1,z.2))
        (λys z=>Wq m f.Clauses S z.1 z.2/\z.2.length+2*zer z.1<=M/\∀d∈f.Clauses,(∃i∈ys,f.Clauses[i.toNat]? =some d)\/good z.1 d\/pend z.1 z.2 d)
        (λr=>(∃z,r= .inl z/\Wq m f.Clauses S z.1 z.2/\z.2.length+2*zer z.1<=M/\∀d∈f.Clauses,good z.1 d\/pend z.1 z.2 d)\/∃x,r= .inr (false,x)/\Bad f.Clauses S)
        (λj i ys z hj hi hl'⟨i1,i2,i3⟩=>by
          have hd:decide ((j:Int)<len (occ.getD (-l+m).toNat []))=true:=by rw[Za];exact decide_eq_true (by omega)
          have hk1:w64 ((j:Int)+1)=((j+1:Nat):Int):=by rw[Zb];rfl
          have hiv:=ho.val _ i (Zbz hi);have hic:f.Clauses[i.toNat]? =some f.Clauses[i.toNat]:=Zbo (by omega);have hg:get? f.Clauses i=some f.Clauses[i.toNat]:=by unfold get?;rw[Zbq hiv.1];exact hic
          simp only[hd,Zb5,get?_nat,hi,Zbn];rw[hg];simp only[Zbn]
          rcases NK hf hS i1 (ZbJ (show i.toNat<f.Clauses.length by omega)) (λd=>(∃i∈ys,f.Clauses[i.toNat]? =some d)\/d=f.Clauses[i.toNat]) (λd hd'=>by
            rcases i3 d hd' with⟨i',h1,h2⟩|h|h
            · rcases ZbN.1 h1 with rfl|h1
              · rw[hic]at h2;exact .inl (.inr (Option.some.inj h2).symm)
              · exact .inl (.inl ⟨i',h1,h2⟩)
            · exact .inr (.inl h)
            · exact .inr (.inr h)) (n:=n) (by omega)with⟨h1,h2⟩|⟨a',q',h1,h2,h3,h4,h5⟩
          · rw[h1]
            exact .inr ⟨_,rfl,.inr ⟨_,rfl,h2⟩⟩
          · rw[h1]
            refine .inl ⟨(a',q'),by simp only[Zbn,hk1];rfl,h2,by simp only;omega,λd hd'=>?_⟩;rcases h5 d hd' with(h|h)|h|h
            · exact .inl h
            · exact .inr (.inl (h▸h4))
            · exact .inr (.inl h)
            · exact .inr (.inr h))
        (λz ⟨i1,i2,i3⟩=>by
          have hd:decide (((occ.getD (-l+m).toNat []).length:Int)<len (occ.getD (-l+m).toNat []))=false:=by rw[Za];simp
          simp only[hd,Zbp,Zbx];refine⟨_,rfl,.inl ⟨z,rfl,i1,i2,λd hd'=>?_⟩⟩;rcases i3 d hd' with⟨i',h1,_⟩|h
          · cases h1
          · exact h) (a:=(a,q0)) ⟨hw0,by simp only;omega,λd hd'=>by
            rcases hJ d hd' with h|⟨x,hx,hx1,hx2⟩
            · exact .inr (.inl h)
            · rcases Zb7.1 hx2 with h|h
              · exact .inr (.inr ⟨x,hx,hx1,h⟩)
              · rw[Zb3]at h
                obtain⟨i,hi⟩:=ZcZ hd';have hxl:x=-l:=by omega
                exact .inl ⟨(i:Int),ho.all i d hi (-l) (hxl▸hx),by simpa using hi⟩⟩ (by omega)
      rw[show((0:Nat):Int)=0 from rfl]at g1;rcases g2 with⟨z,rfl,h1,h2,h3⟩|⟨x,rfl,h1⟩
      · obtain⟨r',q1,q2⟩:=ih z.1 z.2 k (by omega) h1 h3 (by omega)
        refine⟨r',?_,q2⟩
        rw[Wm (s':=(z.1,z.2)) (by
          simp only[hgt,Zb5,e1,e2,e3,Zbn];rw[e4];simp only[Zbn]
          rw[g1];rfl)]
        exact q1
      · refine⟨_,ZI (r:=.inr (false,x)) (by
          simp only[hgt,Zb5,e1,e2,e3,Zbn];rw[e4];simp only[Zbn]
          rw[g1];rfl) (by omega),.inr ⟨x,rfl,h1⟩⟩
end
section
variable{f:D.Formula}{m:Nat}{S:Int->Prop}{occ:List (List Int)}
def RN{cs:List (List Int)}{a:List Int}(hA:Asg m a):Way m cs (Sv m a) a:=⟨hA,λ_ hx=>hx.2,λ_ h1 h2=>.base ⟨h1,h2⟩⟩
def Ov{a:List Int}:∀x,Sv m a x->isL m x:=λ_ h=>h.1
def FmP.cls(hf:FmP f m):∀c∈f.Clauses,ClM m c:=λc hc=>(hf.cl c hc).1
noncomputable def clo(m:Nat)(cs:List (List Int))(v:List Int):Option (List Int):=open Classical in if h:∃a,Okc m cs (Sv m v) a then some h.choose else none
def Lh{cs:List (List Int)}(hcs:∀c∈cs,ClM m c){v a:List Int}(h:Okc m cs (Sv m v) a):clo m cs v=some a:=by
 have hx:∃a,Okc m cs (Sv m v) a:=⟨a,h⟩;unfold clo;rw[dif_pos hx,DT hcs hx.choose_spec h]
def PN{cs:List (List Int)}(hcs:∀c∈cs,ClM m c){v:List Int}(h:Bad cs (Sv m v)):clo m cs v=none:=by
 unfold clo;rw[dif_neg (λ⟨a,ha⟩=>KC hcs ha h)]
def VG{cs:List (List Int)}{v a:List Int}(h:clo m cs v=some a):Okc m cs (Sv m v) a:=by
 unfold clo at h;split at h
 ·rename_i hx;rw[<-Option.some.inj h];exact hx.choose_spec
 ·cases h
theorem GU(hf:FmP f m){v:List Int}(hA:Asg m v){n:Nat}(hn:2000<=n):∃b v',Xn n f v=some (b,v')/\((b=true/\clo m f.Clauses v=some v')\/(b=false/\clo m f.Clauses v=none)):=by
 obtain⟨b,v',h1,h2,h3,h4⟩:=Ku hf Ov (RN (cs:=f.Clauses) hA) hn;refine⟨b,v',h1,?_⟩;cases b with
 |true=>exact .inl ⟨rfl,Lh hf.cls (h3 rfl)⟩
 |false=>exact .inr ⟨rfl,PN hf.cls (h4 rfl)⟩
def Ji(hf:FmP f m)(hS:∀x,S x->isL m x)(ho:OccP f m occ){n:Nat}(hn:4000000<=n){a q:List Int}(hw:Wq m f.Clauses S a q)(hJ:∀d∈f.Clauses,good a d\/pend a q d):
  ∃b a',ZM n ⟨f,occ⟩ ⟨a,q⟩=some (b,a')/\((b=true/\a'.queue=[]/\Okc m f.Clauses S a'.val)\/(b=false/\Bad f.Clauses S)):=by
 have hz:=hw.len;obtain⟨r,g1,g2⟩:=CG hf hS ho hn (q.length+2*zer a) a q n (Zb0 _) hw hJ (by omega);have G:∀z,r=z->ZM n ⟨f,occ⟩ ⟨a,q⟩=(match z with|.inl s1r=>some (true,(D.assignment.mk s1r.1 s1r.2))|.inr v=>some v):=λz e=>by
  subst e;unfold ZM;exact congrArg (λo=>Option.bind o (λ(rl1:((List Int)×(List Int))⊕(Bool×D.assignment))=>match rl1 with|.inl s1r=>some (true,(D.assignment.mk s1r.1 s1r.2))|.inr v=>some v)) g1
 rcases g2 with⟨a',e,h⟩|⟨x,e,h⟩
 ·exact⟨true,⟨a',[]⟩,G _ e,.inl ⟨rfl,rfl,h⟩⟩
 ·exact⟨false,x,G _ e,.inr ⟨rfl,h⟩⟩
def Zab{l:List Int}(h:l.length<=1000000):Ze l=some l:=by
 unfold Ze app? room;rw[Zbq (by simp;omega)];rfl
def Ev(hf:FmP f m)(ho:OccP f m occ){n:Nat}(hn:4000000<=n){a q:List Int}{l:Int}(hA:Asg m a)(hg:∀c∈f.Clauses,good a c)(hl:isL m l)(h0:lv a l=0):
  ∃a' b,Z5 n ⟨f,occ⟩ ⟨a,q⟩ l=some (a',b)/\((b=true/\a'.queue=[]/\clo m f.Clauses (stA a l)=some a'.val)\/(b=false/\clo m f.Clauses (stA a l)=none)):=by
 have hm:=hf.small;have hz:=JR hA;have hz1:=UB hA hl h0;have hA1:=asg_set hA hl
 have hw:Wq m f.Clauses (Sv m (stA a l)) (stA a l) [l]:=⟨RN hA1,λy hy=>by
  rw[Zb3]at hy;subst hy
  exact⟨hl,by rw[lv_set hA.len hl hl.1,Zbq rfl]⟩,by simp;omega⟩
 obtain⟨b,a',h1,h2⟩:=Ji hf Ov ho hn hw λd hd=>by
  rcases KU hA hl h0 (hf.cl d hd).1 (hg d hd)with h|h
  ·exact .inl h
  ·exact .inr ⟨-l,h,by rw[lv_neg hl.1,lv_set hA.len hl hl.1,Zbq rfl],by simp⟩
 unfold Z5;rw[Zab (l:=a) (by have:=hA.len;omega)];simp only[Zbn];rw[Nj hA hm hl h0 (by simp)];simp only[Zbn,Zb4,Zbp,Zbx,Zds];rw[h1];simp only[Zbn];rcases h2 with⟨rfl,h3,h4⟩|⟨rfl,h3⟩
 ·exact⟨a',true,rfl,.inl ⟨rfl,h3,Lh hf.cls h4⟩⟩
 ·exact⟨default,false,rfl,.inr ⟨rfl,PN hf.cls h3⟩⟩
def zeros_asg(m:Nat):Asg m (List.replicate (m+1) 0):=by
 have h:∀i,(List.replicate (m+1) (0:Int)).getD i 0=0:=λi=>by
  rw[Zbr,ZcM];split<;>rfl
 exact⟨by simp,λi=>by rw[h];omega,h 0⟩
def LF(a:List Int)(v:Nat):Prop:=(v=0/\∀i,1<=i->i<a.length->a.getD i 0≠0)\/(1<=v/\v<a.length/\a.getD v 0=0/\∀i,1<=i->i<v->a.getD i 0≠0)
def LF.uniq{a:List Int}{v w:Nat}(h:LF a v)(h':LF a w):v=w:=by
 rcases h with⟨h1,h2⟩|⟨h1,h2,h3,h4⟩<;>rcases h' with⟨k1,k2⟩|⟨k1,k2,k3,k4⟩
 ·omega
 ·exact absurd k3 (h2 w k1 k2)
 ·exact absurd h3 (k2 v h1 h2)
 ·by_cases e:v<w
  ·exact absurd h3 (k4 v h1 e)
  ·by_cases e':w<v
   ·exact absurd k3 (h4 w k1 e')
   ·omega
theorem He{a q:List Int}{n:Nat}(hl:1<=a.length/\a.length<=1000)(hn:2000<=n):∃v:Nat,LF a v/\Yg n ⟨a,q⟩=some (v:Int):=by
  have key:∀(d i k:Nat),i+d=a.length->1<=i->(∀j,1<=j->j<i->a.getD j 0≠0)->d<k->∃r:Unit⊕Int,iterN (λ(s1:Int)=>if(decide (s1<(len a)))then(get? a s1).bind λx1=>if(x1==0)then some (.inr (.inr s1))else some (.inl ((w64 (s1+1))))else some (.inr (.inl ()))) k (i:Int)=some r/\((r= .inl ()/\LF a 0)\/∃v:Nat,r= .inr (v:Int)/\LF a v):=by
    intro d
    induction d with
    | zero=>
      intro i k hi h1 hp hk;have hd:decide ((i:Int)<len a)=false:=by rw[Za];exact decide_eq_false (by omega)
      exact⟨.inl (),ZI (by simp only[hd,Zbp,Zbx]) (by omega),.inl ⟨rfl,.inl ⟨rfl,λj hj hj'=>hp j hj (by omega)⟩⟩⟩
    | succ d ih=>
      intro i k hi h1 hp hk;obtain⟨k,rfl⟩:∃j,k=j+1:=⟨k-1,by omega⟩;have hd:decide ((i:Int)<len a)=true:=by rw[Za];exact decide_eq_true (by omega)
      have hg:get? a (i:Int)=some (a.getD i 0):=by rw[get?_nat,WL (by omega)]
      by_cases h0:a.getD i 0=0
      · exact⟨.inr (i:Int),ZI (by simp only[hd,Zb5,hg,Zbn];rw[Zbq (by simpa using h0)]) (by omega),.inr ⟨i,rfl,.inr ⟨h1,by omega,h0,hp⟩⟩⟩
      · obtain⟨r,q1,q2⟩:=ih (i+1) k (by omega) (by omega) (λj hj hj'=>by
          by_cases e:j=i
          · subst e;exact h0
          · exact hp j hj (by omega)) (by omega)
        refine⟨r,?_,q2⟩
        rw[Wm (s':=((i+1:Nat):Int)) (by
          simp only[hd,Zb5,hg,Zbn]
          rw[Zbv (by simpa using h0),Zb];rfl)]
        exact q1
  obtain⟨r,g1,g2⟩:=key (a.length-1) 1 n (by omega) (by omega) (λj hj hj'=>by omega) (by omega);have G:∀z,r=z->Yg n ⟨a,q⟩=(match z with|.inl _=>some 0|.inr v=>some v):=λz e=>by
    subst e;unfold Yg;exact congrArg (λo=>Option.bind o (λ(rl1:Unit⊕Int)=>match rl1 with|.inl _=>some 0|.inr v=>some v)) g1
  rcases g2 with⟨e,h⟩|⟨v,e,h⟩
  · exact⟨0,h,G _ e⟩
  · exact⟨v,h,G _ e⟩
theorem Av{a:List Int}{n:Nat}{N:Int}(hN:N=(a.length:Int))(hl:1<=a.length/\a.length<=1000)(hn:2000<=n):∃v:Nat,LF a v/\iterN (λ(s1:Int)=>(if(decide (s1<N))then(get? a s1)else some default).bind λx2=>if((decide (s1<N))&&(x2 !=0))then some (.inl ((w64 (s1+1))))else some (.inr (s1))) n 1=some (if v=0 then N else(v:Int)):=by
  subst hN;have key:∀(d i k:Nat),i+d=a.length->1<=i->(∀j,1<=j->j<i->a.getD j 0≠0)->d<k->∃v:Nat,LF a v/\iterN (λ(s1:Int)=>(if(decide (s1<(a.length:Int)))then(get? a s1)else some default).bind λx2=>if((decide (s1<(a.length:Int)))&&(x2 !=0))then some (.inl ((w64 (s1+1))))else some (.inr (s1))) k (i:Int)=some (if v=0 then(a.length:Int)else(v:Int)):=by
    intro d
    induction d with
    | zero=>
      intro i k hi h1 hp hk;have hd:decide ((i:Int)<(a.length:Int))=false:=decide_eq_false (by omega);refine⟨0,.inl ⟨rfl,λj hj hj'=>hp j hj (by omega)⟩,?_⟩;rw[Zbq rfl,show(a.length:Int)=(i:Int) by omega];refine ZI ?_ (by omega);have hd:decide ((i:Int)<(i:Int))=false:=decide_eq_false (by omega);simp only[hd,Zbp,Zbx,Zbn,ZdS]
    | succ d ih=>
      intro i k hi h1 hp hk;obtain⟨k,rfl⟩:∃j,k=j+1:=⟨k-1,by omega⟩;have hd:decide ((i:Int)<(a.length:Int))=true:=decide_eq_true (by omega);have hg:get? a (i:Int)=some (a.getD i 0):=by rw[get?_nat,WL (by omega)]
      by_cases h0:a.getD i 0=0
      · refine⟨i,.inr ⟨h1,by omega,h0,hp⟩, ?_⟩
        rw[ifn];exact ZI (by simp only[hd,Zb5,hg,Zbn,Zcn];rw[Zbv (by rw[h0];decide)]) (by omega)
      · obtain⟨v,q1,q2⟩:=ih (i+1) k (by omega) (by omega) (λj hj hj'=>by
          by_cases e:j=i
          · subst e;exact h0
          · exact hp j hj (by omega)) (by omega)
        refine⟨v,q1,?_⟩
        rw[Wm (s':=((i+1:Nat):Int)) (by
          simp only[hd,Zb5,hg,Zbn,Zcn]
          rw[Zbq (by simpa using h0),Zb];rfl)]
        exact q2
  exact key (a.length-1) 1 n (by omega) (by omega) (λj hj hj'=>by omega) (by omega)
end
theorem Nl:∀(l l':List Int),l.length=l'.length->(∀i:Nat,l'[i]? =some (0:Int)->l[i]? =some (0:Int))->l'.count 0<=l.count 0
 |[],[],_,_=>Zb0 _
 | x::l,y::l',h,hi=>by
  have ih:=Nl l l' (by simpa using h) λi e=>by simpa using hi (i+1) (by simpa using e)
  rw[List.count_cons,List.count_cons];by_cases hy:y=0
  ·have:x=0:=by simpa[hy]using hi 0
   rw[hy,this];omega
  ·have:(y==0)=false:=by simpa using hy
   rw[this];simp only[Zbp,Zbx];omega
section
variable{f:D.Formula}{m:Nat}{occ:List (List Int)}{limit:Int}
def Nt{cs:List (List Int)}{v b:List Int}(hv:Asg m v)(h:Okc m cs (Sv m v) b):zer b<=zer v:=by
 refine Nl v b (hv.len.trans h.asg.len.symm) λi hi=>?_;have hlt:i<b.length:=(Zbu.1 hi).1;have hb0:b.getD i 0=0:=by
  have:=WL hlt;rw[hi]at this;exact(Option.some.inj this).symm
 rw[WL (by rw[hv.len,<-h.asg.len];exact hlt)];congr 1;by_cases h0:i=0
 ·subst h0;exact hv.nul
 have hlen:=h.asg.len;have e:∀c:List Int,lv c (i:Int)=c.getD i 0:=λc=>by unfold lv;rw[ifn];simp
 have en:∀c:List Int,lv c (-(i:Int))=-c.getD i 0:=λc=>by rw[lv_neg (by omega),e]
 rcases hv.val i with h1|h1|h1
 ·have:=h.ext (-(i:Int)) ⟨⟨by omega,by omega⟩,by rw[en,h1];rfl⟩;rw[en,hb0]at this;omega
 ·exact h1
 ·have:=h.ext (i:Int) ⟨⟨by omega,by omega⟩,by rw[e,h1]⟩;rw[e,hb0]at this;omega
noncomputable def lfr(a:List Int):Nat:=open Classical in if h:∃v,LF a v then h.choose else 0
def JA{a:List Int}{v:Nat}(h:LF a v):lfr a=v:=by
 have hx:∃v,LF a v:=⟨v,h⟩;unfold lfr;rw[dif_pos hx];exact hx.choose_spec.uniq h
noncomputable def srch(m:Nat)(cs:List (List Int))(limit:Int):Nat->List Int->Int->Int×List Int×Int
 |0,_,s=>(2,[],s)
 |d+1,a,s=>if lfr a=0 then(1,a,s)else if s=limit then(3,[],s)else
  let r:Int×List Int×Int:=match clo m cs (stA a (-(lfr a:Int)))with|none=>(2,[],s+1)|some b=>srch m cs limit d b (s+1)
  if r.1=2 then(match clo m cs (stA a (lfr a:Int))with|none=>(2,[],r.2.2)|some b=>srch m cs limit d b r.2.2)else r
noncomputable def brn(m:Nat)(cs:List (List Int))(limit:Int)(d:Nat)(v:List Int)(s:Int):Int×List Int×Int:=match clo m cs v with|none=>(2,[],s)|some b=>srch m cs limit d b s
def UY(m:Nat)(cs:List (List Int))(limit:Int)(d:Nat)(a:List Int)(s:Int):srch m cs limit (d+1) a s=if lfr a=0 then(1,a,s)else if s=limit then(3,[],s)else
  if(brn m cs limit d (stA a (-(lfr a:Int))) (s+1)).1=2 then brn m cs limit d (stA a (lfr a:Int)) (brn m cs limit d (stA a (-(lfr a:Int))) (s+1)).2.2 else brn m cs limit d (stA a (-(lfr a:Int))) (s+1):=by
 rw[srch];rfl
structure SOk(limit s:Int)(r:Int×List Int×Int):Prop where
 code:r.1=1\/r.1=2\/r.1=3
 nil:r.1≠1->r.2.1=[]
 lo:s<=r.2.2
 hi:r.2.2<=limit
theorem GJ(m:Nat)(cs:List (List Int))(limit:Int):∀(d:Nat)(a:List Int)(s:Int),s<=limit->SOk limit s (srch m cs limit d a s)
 |0,a,s,h=>⟨.inr (.inl rfl),λ_=>rfl,ZbW _,h⟩
 | d+1,a,s,h=>by
  have hb:∀v s',s'<=limit->SOk limit s' (brn m cs limit d v s'):=λv s' h'=>by
   unfold brn;cases clo m cs v with
   |none=>exact⟨.inr (.inl rfl),λ_=>rfl,ZbW _,h'⟩
   |some b=>exact GJ m cs limit d b s' h'
  rw[UY];by_cases c1:lfr a=0
  ·rw[Zbq c1];exact⟨.inl rfl,λh=>absurd rfl h,ZbW _,h⟩
  rw[Zbv c1];by_cases c2:s=limit
  ·rw[Zbq c2];exact⟨.inr (.inr rfl),λ_=>rfl,ZbW _,h⟩
  rw[Zbv c2];have h1:=hb (stA a (-(lfr a:Int))) (s+1) (by omega);by_cases c3:(brn m cs limit d (stA a (-(lfr a:Int))) (s+1)).1=2
  ·rw[Zbq c3];have h2:=hb (stA a (lfr a:Int)) _ h1.hi;exact⟨h2.code,h2.nil,by have:=h1.lo;have:=h2.lo;omega,h2.hi⟩
  ·rw[Zbv c3];exact⟨h1.code,h1.nil,by have:=h1.lo;omega,h1.hi⟩
theorem brn_ok(m:Nat)(cs:List (List Int))(limit:Int)(d:Nat)(v:List Int)(s:Int)(h:s<=limit):SOk limit s (brn m cs limit d v s):=by
 unfold brn;cases clo m cs v with
 |none=>exact⟨.inr (.inl rfl),λ_=>rfl,ZbW _,h⟩
 |some b=>exact GJ m cs limit d b s h
def bls(a:List Int):List Bool:=(a.drop 1).map λx=>decide (x>0)
def PM{a:List Int}(h:Asg m a):(bls a).length=m:=by unfold bls;rw[ZbK,ZbD,h.len];rfl
theorem Jr{a:List Int}(hA:Asg m a)(hm:m<=400){n:Nat}(hn:2000<=n):iterN (λ(s1:Int×(List Bool))=>if(decide (s1.1<(len (List.replicate m false))))then(get? a (w64 (s1.1+1))).bind λx3=>(set? s1.2 s1.1 (decide (x3>0))).bind λx4=>some (.inl ((w64 (s1.1+1)),x4))else some (.inr (s1.2))) n (0,List.replicate m false)=some (bls a):=by
  have hlen:=hA.len;have key:∀(d i k:Nat),i+d=m->d<k->iterN (λ(s1:Int×(List Bool))=>if(decide (s1.1<(len (List.replicate m false))))then(get? a (w64 (s1.1+1))).bind λx3=>(set? s1.2 s1.1 (decide (x3>0))).bind λx4=>some (.inl ((w64 (s1.1+1)),x4))else some (.inr (s1.2))) k ((i:Int),(bls a).take i++List.replicate d false)=some (bls a):=by
    intro d
    induction d with
    | zero=>
      intro i k hi hk;have hd:decide ((i:Int)<len (List.replicate m false))=false:=by rw[Za,ZbV];exact decide_eq_false (by omega)
      refine ZI ?_ (by omega);simp only[hd,Zbp,Zbx];rw[List.replicate_zero,Zcg,ZbX (by rw[PM hA];omega)]
    | succ d ih=>
      intro i k hi hk;obtain⟨k,rfl⟩:∃j,k=j+1:=⟨k-1,by omega⟩;have hd:decide ((i:Int)<len (List.replicate m false))=true:=by rw[Za,ZbV];exact decide_eq_true (by omega)
      have e1:w64 ((i:Int)+1)=((i+1:Nat):Int):=by rw[Zb];rfl
      have hil:i<(bls a).length:=by rw[PM hA];omega
      have e2:(bls a)[i]=decide (a.getD (i+1) 0>0):=by
        have e3:a.getD (i+1) 0=a[1+i]'(by omega):=by
          rw[Zbr,show i+1=1+i from Nat.add_comm _ _,Zbo (by omega)];rfl
        simp only[bls,Zdw,List.getElem_drop,e3]
      have hlt:((bls a).take i).length=i:=by rw[Zb2];omega
      rw[Wm (s':=(((i+1:Nat):Int),(bls a).take (i+1)++List.replicate d false)) (by
        simp only[hd,Zb5,e1];rw[get?_nat,WL (by omega)];simp only[Zbn];unfold set?;rw[Zbq ⟨by omega,by rw[ZbE,Zbw,hlt,ZbV];omega⟩,ZbE];simp only[Zbn];congr 3
        rw[ZcD _ _ (by omega),hlt,ZcG,Zdh,ZcX,Zby hil,e2,ZbI];rfl)]
      exact ih (i+1) k (by omega) (by omega)
  exact key m 0 n (by omega) (by omega)
def Nq{a:List Int}(hA:Asg m a){v:Nat}(h:LF a v)(h0:v≠0):isL m (v:Int)/\isL m (-(v:Int))/\lv a (v:Int)=0/\lv a (-(v:Int))=0:=by
 rcases h with⟨h1,_⟩|⟨h1,h2,h3,_⟩
 ·exact absurd h1 h0
 ·have:=hA.len;have e:lv a (v:Int)=0:=by unfold lv;rw[ifn];simpa using h3
  exact⟨⟨by omega,by omega⟩,⟨by omega,by omega⟩,e,by rw[lv_neg (by omega),e];rfl⟩
theorem ZaB (hf:FmP f m)(ho:OccP f m occ)(hl3:limit<=3000):∀(d:Nat)(a q:List Int)(s:Int)(mo:List Bool)(n:Nat),Asg m a->(∀c∈f.Clauses,good a c)->zer a<=d->4000000+d<=n->0<=s->s<=limit->
    Yd n ⟨⟨f,occ⟩,limit,s,mo⟩ ⟨a,q⟩=some ((srch m f.Clauses limit d a s).1,⟨⟨f,occ⟩,limit,(srch m f.Clauses limit d a s).2.2,if(srch m f.Clauses limit d a s).1=1 then bls (srch m f.Clauses limit d a s).2.1 else mo⟩):=by
  intro d
  induction d with
  | zero=>
    intro a q s mo n hA hg hz
    have:0<zer a:=Zdy.2 (by
      have h1:=hA.nul;have h2:=WL (a:=a) (i:=0) (by have:=hA.len;omega);rw[h1]at h2
      exact Zbz h2)
    omega
  | succ d ih =>
    intro a q s mo n hA hg hz hn h0 hs;obtain⟨n,rfl⟩:∃k,n=k+1:=⟨n-1,by omega⟩;have hm:=hf.small;have hlen:=hA.len;obtain⟨v,hv,e1⟩:=He (a:=a) (q:=q) (n:=n) (by omega) (by omega);rw[Yd,e1,UY,JA hv];simp only[Zbn];by_cases c1:v=0
    · rw[Zbq (by simpa using c1),Zbq c1]
      simp only[Zb5];rw[hf.vars,MU (by omega)];simp only[Zbn];rw[Jr hA hm (by omega)];rfl
    · rw [Zbv (by simpa using c1),Zbv c1]
      by_cases c2:s=limit
      · rw[Zbq (by simpa using c2),Zbq c2];rfl
      · rw [Zbv (by simpa using c2),Zbv c2]
        obtain⟨k1,k2,k3,k4⟩:=Nq hA hv c1;have e3:w64 (0-(v:Int))=-(v:Int):=by have:=k1.2;rw[Zb];omega
        have e4:w64 (s+1)=s+1:=Zb;have one:∀(l:Int),isL m l->lv a l=0->∀(s':Int)(mo':List Bool),0<=s'->s'<=limit->
            ∃ a' b,Z5 n ⟨f,occ⟩ ⟨a,q⟩ l=some (a',b)/\((b=false/\brn m f.Clauses limit d (stA a l) s'=(2,[],s'))\/(b=true/\Yd n ⟨⟨f,occ⟩,limit,s',mo'⟩ a'=some ((brn m f.Clauses limit d (stA a l) s').1,⟨⟨f,occ⟩,limit,(brn m f.Clauses limit d (stA a l) s').2.2,if(brn m f.Clauses limit d (stA a l) s').1=1 then bls (brn m f.Clauses limit d (stA a l) s').2.1 else mo'⟩))):=λl hl hl0 s' mo' hs0 hs1=>by
          obtain⟨a',b,g1,g2⟩:=Ev hf ho (n:=n) (by omega) (q:=q) hA hg hl hl0;refine⟨a',b,g1,?_⟩;rcases g2 with⟨rfl,g3,g4⟩|⟨rfl,g3⟩
          · have hok:=VG g4
            have hz1:=UB hA hl hl0;have hz2:=Nt (asg_set hA hl) hok;refine .inr ⟨rfl,?_⟩;have:=ih a'.val a'.queue s' mo' n hok.asg hok.cl (by omega) (by omega) hs0 hs1;unfold brn;rw[g4];exact this
          · exact .inl ⟨rfl,by unfold brn;rw[g3]⟩
        generalize hQ:(if(brn m f.Clauses limit d (stA a (-(v:Int))) (s+1)).1=2 then brn m f.Clauses limit d (stA a (v:Int)) (brn m f.Clauses limit d (stA a (-(v:Int))) (s+1)).2.2 else brn m f.Clauses limit d (stA a (-(v:Int))) (s+1))=Q;have hb1:=brn_ok m f.Clauses limit d (stA a (-(v:Int))) (s+1) (by omega);have key:∃r:(Int×Int×(List Bool))⊕(Int×D.searcher),iterN (λ(s2:Int×Int×Int×(List Bool))=>if (decide (s2.1<2))then(get? ([(w64 (0-(v:Int))),(v:Int)]:List Int) s2.1).bind λx5=>(Z5 n ⟨f,occ⟩ ⟨a,q⟩ x5).bind λx6=>if(!x6.2)then some (.inl ((w64 (s2.1+1)),s2.2.1,s2.2.2.1,s2.2.2.2))else(Yd n (D.searcher.mk ⟨f,occ⟩ s2.2.1 s2.2.2.1 s2.2.2.2) x6.1).bind λx7=>if(x7.1 !=2)then some (.inr (.inr (x7.1,(D.searcher.mk ⟨f,occ⟩ x7.2.limit x7.2.splits x7.2.model))))else some (.inl ((w64 (s2.1+1)),x7.2.limit,x7.2.splits,x7.2.model))else some (.inr (.inl (s2.2.1,s2.2.2.1,s2.2.2.2)))) n (0,limit,w64 (s+1),mo)=some r/\
          (match r with|.inl s2r=>some (2,(D.searcher.mk ⟨f,occ⟩ s2r.1 s2r.2.1 s2r.2.2))|.inr v=>some v)=some (Q.1,(⟨⟨f,occ⟩,limit,Q.2.2,if Q.1=1 then bls Q.2.1 else mo⟩:D.searcher)):=by
          rw[e3,e4];obtain⟨k,rfl⟩:∃j,n=j+3:=⟨n-3,by omega⟩;generalize hR1:brn m f.Clauses limit d (stA a (-(v:Int))) (s+1)=R1 at*;have second:∀s':Int,0<=s'->s'<=limit->∃r:(Int×Int×(List Bool))⊕(Int×D.searcher),iterN (λ(s2:Int×Int×Int×(List Bool))=>if (decide (s2.1<2))then(get? ([-(v:Int),(v:Int)]:List Int) s2.1).bind λx5=>(Z5 (k+3) ⟨f,occ⟩ ⟨a,q⟩ x5).bind λx6=>if(!x6.2)then some (.inl ((w64 (s2.1+1)),s2.2.1,s2.2.2.1,s2.2.2.2))else(Yd (k+3) (D.searcher.mk ⟨f,occ⟩ s2.2.1 s2.2.2.1 s2.2.2.2) x6.1).bind λx7=>if(x7.1 !=2)then some (.inr (.inr (x7.1,(D.searcher.mk ⟨f,occ⟩ x7.2.limit x7.2.splits x7.2.model))))else some (.inl ((w64 (s2.1+1)),x7.2.limit,x7.2.splits,x7.2.model))else some (.inr (.inl (s2.2.1,s2.2.2.1,s2.2.2.2)))) (k+2) (1,limit,s',mo)=some r/\
              (match r with|.inl s2r=>some (2,(D.searcher.mk ⟨f,occ⟩ s2r.1 s2r.2.1 s2r.2.2))|.inr v=>some v)=some ((brn m f.Clauses limit d (stA a (v:Int)) s').1,(⟨⟨f,occ⟩,limit,(brn m f.Clauses limit d (stA a (v:Int)) s').2.2,if(brn m f.Clauses limit d (stA a (v:Int)) s').1=1 then bls (brn m f.Clauses limit d (stA a (v:Int)) s').2.1 else mo⟩:D.searcher)):=λs' hs0 hs1=>by
            obtain⟨a',b,g1,g2⟩:=one (v:Int) k1 k3 s' mo hs0 hs1;have hw:w64 (1+1)=2:=by decide
            rcases g2 with⟨rfl,g3⟩|⟨rfl,g3⟩
            · refine⟨.inl (limit,s',mo), ?_,by rw[g3];rfl⟩
              rw[show k+2=(k+1)+1 from rfl,Wm (s':=(2,limit,s',mo)) (by
                show((Z5 (k+3) ⟨f,occ⟩ ⟨a,q⟩ (v:Int)).bind _)=_;rw[g1]
                simp only[Zbn,Zdb,Zb5,hw])]
              exact ZI rfl (by omega)
            · generalize brn m f.Clauses limit d (stA a (v:Int)) s'=R at*
              by_cases c:R.1=2
              · refine⟨.inl (limit,R.2.2,mo), ?_,by rw[c,ifn]⟩
                rw[show k+2=(k+1)+1 from rfl,Wm (s':=(2,limit,R.2.2,mo)) (by
                  show((Z5 (k+3) ⟨f,occ⟩ ⟨a,q⟩ (v:Int)).bind _)=_;rw[g1];simp only[Zbn,Zb4,Zbp,Zbx];rw[g3];simp only[Zbn]
                  rw[Zbv (by rw[c];decide),Zbv (show¬R.1=1 by omega),hw])]
                exact ZI rfl (by omega)
              · refine⟨.inr (R.1,⟨⟨f,occ⟩,limit,R.2.2,if R.1=1 then bls R.2.1 else mo⟩), ?_,rfl⟩
                refine ZI ?_ (by omega);show((Z5 (k+3) ⟨f,occ⟩ ⟨a,q⟩ (v:Int)).bind _)=_;rw[g1];simp only[Zbn,Zb4,Zbp,Zbx];rw[g3];simp only[Zbn];rw[Zbq (by simpa using c)]
          obtain⟨a',b,g1,g2⟩:=one (-(v:Int)) k2 k4 (s+1) mo (by omega) (by omega);rw[hR1]at g2;have hw:w64 (0+1)=1:=by decide
          rcases g2 with⟨rfl,g3⟩|⟨rfl,g3⟩
          · obtain⟨r,q1,q2⟩:=second (s+1) (by omega) (by omega)
            refine⟨r,?_,?_⟩
            · rw[show k+3=(k+2)+1 from rfl,Wm (s':=(1,limit,s+1,mo)) (by
                show((Z5 (k+3) ⟨f,occ⟩ ⟨a,q⟩ (-(v:Int))).bind _)=_;rw[g1]
                simp only[Zbn,Zdb,Zb5,hw])]
              exact q1
            · rw[<-hQ,g3,Zbq rfl];exact q2
          · by_cases c:R1.1=2
            · obtain⟨r,q1,q2⟩:=second R1.2.2 (by have:=hb1.lo;omega) hb1.hi
              refine⟨r,?_,?_⟩
              · rw[show k+3=(k+2)+1 from rfl,Wm (s':=(1,limit,R1.2.2,mo)) (by
                  show((Z5 (k+3) ⟨f,occ⟩ ⟨a,q⟩ (-(v:Int))).bind _)=_;rw[g1];simp only[Zbn,Zb4,Zbp,Zbx];rw[g3];simp only[Zbn]
                  rw[Zbv (by rw[c];decide),Zbv (show¬R1.1=1 by omega),hw])]
                exact q1
              · rw[<-hQ,Zbq c];exact q2
            · refine⟨.inr (R1.1,⟨⟨f,occ⟩,limit,R1.2.2,if R1.1=1 then bls R1.2.1 else mo⟩), ?_,by rw[<-hQ,Zbv c]⟩
              refine ZI ?_ (by omega);show((Z5 (k+3) ⟨f,occ⟩ ⟨a,q⟩ (-(v:Int))).bind _)=_;rw[g1];simp only[Zbn,Zb4,Zbp,Zbx];rw[g3];simp only[Zbn];rw[Zbq (by simpa using c)]
        obtain⟨r,q1,q2⟩:=key;refine Eq.trans ?_ q2;exact congrArg (λo=>Option.bind o (λ(rl2:(Int×Int×(List Bool))⊕(Int×D.searcher))=>match rl2 with|.inl s2r=>some (2,(D.searcher.mk ⟨f,occ⟩ s2r.1 s2r.2.1 s2r.2.2))|.inr v=>some v)) q1
end
section
variable{f:D.Formula}{m:Nat}{occ:List (List Int)}{limit:Int}
def CJ{l:List Int}(h:l.length<=1000000):app? ([]:List Int) l=some l:=by
 unfold app? room;rw[Zbq (by simp;omega)];rfl
def ZaR{a:List Int}(hA:Asg m a){v:Nat}(h1:1<=v)(h2:v<=m):set? a (v:Int) (-1)=some (stA a (-(v:Int)))/\set? a (v:Int) 1=some (stA a (v:Int)):=by
 have:=hA.len;have hb:0<=(v:Int)/\(v:Int).toNat<a.length:=⟨by omega,by rw[ZbE];omega⟩;unfold set? stA;constructor
 ·rw[Zbq hb,Zbq (show-(v:Int)<0 by omega),ZbE,Zd7];rfl
 ·rw[Zbq hb,Zbv (show¬(v:Int)<0 by omega),ZbE];rfl
theorem ZaJ (hf:FmP f m)(hl3:limit<=3000):∀(d:Nat)(v:List Int)(s:Int)(n:Nat),Asg m v->zer v<=d->4000000+d<=n->0<=s->s<=limit->
    Zz n ⟨f,limit,s,false⟩ v=some ((brn m f.Clauses limit d v s).2.1,D.Prf.mk,(brn m f.Clauses limit d v s).1==1,⟨f,limit,(brn m f.Clauses limit d v s).2.2,(brn m f.Clauses limit d v s).1==3⟩):=by
  intro d
  induction d with
  | zero=>
    intro v s n hA hz
    have:0<zer v:=Zdy.2 (by
      have h1:=hA.nul;have h2:=WL (a:=v) (i:=0) (by have:=hA.len;omega);rw[h1]at h2
      exact Zbz h2)
    omega
  | succ d ih=>
    intro v s n hA hz hn h0 hs;obtain⟨n,rfl⟩:∃k,n=k+1:=⟨n-1,by omega⟩;have hm:=hf.small;have hvl:=hA.len;obtain⟨b,a,e1,e2⟩:=GU hf hA (n:=n) (by omega);rw[Zz,e1];simp only[Zbn];rcases e2 with⟨rfl,e2⟩|⟨rfl,e2⟩;rotate_left
    · have hb:brn m f.Clauses limit (d+1) v s=(2,[],s):=by unfold brn;rw[e2]
      rw[ifp,hb];rfl
    have hb:brn m f.Clauses limit (d+1) v s=srch m f.Clauses limit (d+1) a s:=by unfold brn;rw[e2]
    have hok:=VG e2;have hza:=Nt hA hok;have hal:=hok.asg.len;rw[ifn,hb,UY];obtain⟨w,hw,e3⟩:=Av (a:=a) (n:=n) (N:=len v) (by rw[Za];omega) (by omega) (by omega);rw[e3,JA hw];simp only[Zbn];by_cases c1:w=0
    · rw[Zbq c1,ifp,Zbq c1];rfl
    rw[Zbv c1];obtain⟨k1,k2,k3,k4⟩:=Nq hok.asg hw c1;have hwm:1<=w/\w<=m:=by have:=k1.2;omega
    rw[Zbv (by rw[Za];simp;omega),Zbv c1];by_cases c2:s=limit
    · rw[Zbq (by simpa using c2),Zbq c2];rfl
    rw[Zbv (by simpa using c2),Zbv c2];have e4:w64 (s+1)=s+1:=Zb;obtain⟨t1,t2⟩:=ZaR hok.asg hwm.1 hwm.2;have one:∀(l:Int),isL m l->lv a l=0->∀s':Int,0<=s'->s'<=limit->Zz n ⟨f,limit,s',false⟩ (stA a l)=some ((brn m f.Clauses limit d (stA a l) s').2.1,D.Prf.mk,(brn m f.Clauses limit d (stA a l) s').1==1,⟨f,limit,(brn m f.Clauses limit d (stA a l) s').2.2,(brn m f.Clauses limit d (stA a l) s').1==3⟩):=λl hl hl0 s' hs0 hs1=>by
      have hz1:=UB hok.asg hl hl0;exact ih (stA a l) s' n (asg_set hok.asg hl) (by omega) (by omega) hs0 hs1
    generalize hQ:(if(brn m f.Clauses limit d (stA a (-(w:Int))) (s+1)).1=2 then brn m f.Clauses limit d (stA a (w:Int)) (brn m f.Clauses limit d (stA a (-(w:Int))) (s+1)).2.2 else brn m f.Clauses limit d (stA a (-(w:Int))) (s+1))=Q;have hb1:=brn_ok m f.Clauses limit d (stA a (-(w:Int))) (s+1) (by omega);have ha0:=CJ (l:=a) (by omega);have key:∃r:(Int×Int×Bool×(List D.Prf))⊕((List Int)×D.Prf×Bool×D.l03Work),iterN (λ(s2:Int×Int×Int×Bool×(List D.Prf))=>if(decide (s2.1<(len ([(-1),1]:List Int))))then(get? ([(-1),1]:List Int) s2.1).bind λx3=>(app? ([]:List Int) a).bind λx4=>(set? x4 (w:Int) x3).bind λx5=>(Zz n (D.l03Work.mk f s2.2.1 s2.2.2.1 s2.2.2.2.1) x5).bind λx6=>if(x6.2.2.1||x6.2.2.2.opn)then some (.inr (.inr (x6.1,D.Prf.mk,x6.2.2.1,(D.l03Work.mk f x6.2.2.2.limit x6.2.2.2.made x6.2.2.2.opn))))else(app? s2.2.2.2.2 [D.Prf.mk]).bind λx7=>some (.inl ((w64 (s2.1+1)),x6.2.2.2.limit,x6.2.2.2.made,x6.2.2.2.opn,x7))else some (.inr (.inl (s2.2.1,s2.2.2.1,s2.2.2.2.1,s2.2.2.2.2)))) n (0,limit,w64 (s+1),false,([]:List D.Prf))=some r/\
        (match r with|.inl s2r=>some (([]:List Int),D.Prf.mk,false,(D.l03Work.mk f s2r.1 s2r.2.1 s2r.2.2.1))|.inr v=>some v)=some (Q.2.1,D.Prf.mk,Q.1==1,(⟨f,limit,Q.2.2,Q.1==3⟩:D.l03Work)):=by
      rw[e4];obtain⟨k,rfl⟩:∃j,n=j+3:=⟨n-3,by omega⟩;generalize hR1:brn m f.Clauses limit d (stA a (-(w:Int))) (s+1)=R1 at*;have second:∀s':Int,0<=s'->s'<=limit->∃r:(Int×Int×Bool×(List D.Prf))⊕((List Int)×D.Prf×Bool×D.l03Work),iterN (λ(s2:Int×Int×Int×Bool×(List D.Prf))=>if(decide (s2.1<(len ([(-1),1]:List Int))))then(get? ([(-1),1]:List Int) s2.1).bind λx3=>(app? ([]:List Int) a).bind λx4=>(set? x4 (w:Int) x3).bind λx5=>(Zz (k+3) (D.l03Work.mk f s2.2.1 s2.2.2.1 s2.2.2.2.1) x5).bind λx6=>if(x6.2.2.1||x6.2.2.2.opn)then some (.inr (.inr (x6.1,D.Prf.mk,x6.2.2.1,(D.l03Work.mk f x6.2.2.2.limit x6.2.2.2.made x6.2.2.2.opn))))else(app? s2.2.2.2.2 [D.Prf.mk]).bind λx7=>some (.inl ((w64 (s2.1+1)),x6.2.2.2.limit,x6.2.2.2.made,x6.2.2.2.opn,x7))else some (.inr (.inl (s2.2.1,s2.2.2.1,s2.2.2.2.1,s2.2.2.2.2)))) (k+2) (1,limit,s',false,[D.Prf.mk])=some r/\
          (match r with|.inl s2r=>some (([]:List Int),D.Prf.mk,false,(D.l03Work.mk f s2r.1 s2r.2.1 s2r.2.2.1))|.inr v=>some v)=some ((brn m f.Clauses limit d (stA a (w:Int)) s').2.1,D.Prf.mk,(brn m f.Clauses limit d (stA a (w:Int)) s').1==1,(⟨f,limit,(brn m f.Clauses limit d (stA a (w:Int)) s').2.2,(brn m f.Clauses limit d (stA a (w:Int)) s').1==3⟩:D.l03Work)):=λs' hs0 hs1=>by
        have g:=one (w:Int) k1 k3 s' hs0 hs1;have hk:=brn_ok m f.Clauses limit d (stA a (w:Int)) s' hs1;generalize brn m f.Clauses limit d (stA a (w:Int)) s'=R at*;have hw2:w64 (1+1)=2:=by decide
        by_cases c:R.1=2
        · refine⟨.inl (limit,R.2.2,R.1==3,[D.Prf.mk,D.Prf.mk]), ?_,by rw[hk.nil (by omega),c];rfl⟩
          rw[show k+2=(k+1)+1 from rfl,Wm (s':=(2,limit,R.2.2,R.1==3,[D.Prf.mk,D.Prf.mk])) (by
            show((app? ([]:List Int) a).bind λx4=>(set? x4 (w:Int) 1).bind λx5=>(Zz (k+3) (D.l03Work.mk f limit s' false) x5).bind _)=_;rw[ha0];simp only[Zbn];rw[t2];simp only[Zbn];rw[g];simp only[Zbn]
            rw[Zbv (by rw[c];decide),hw2];rfl)]
          exact ZI rfl (by omega)
        · refine⟨.inr (R.2.1,D.Prf.mk,R.1==1,⟨f,limit,R.2.2,R.1==3⟩), ?_,rfl⟩
          refine ZI ?_ (by omega);show((app? ([]:List Int) a).bind λx4=>(set? x4 (w:Int) 1).bind λx5=>(Zz (k+3) (D.l03Work.mk f limit s' false) x5).bind _)=_;rw[ha0];simp only[Zbn];rw[t2];simp only[Zbn];rw[g];simp only[Zbn];rw[Zbq (by rcases hk.code with h|h|h<;>simp[h]at c⊢)]
      have g:=one (-(w:Int)) k2 k4 (s+1) (by omega) (by omega);rw[hR1]at g;have hw1:w64 (0+1)=1:=by decide
      by_cases c:R1.1=2
      · obtain⟨r,q1,q2⟩:=second R1.2.2 (by have:=hb1.lo;omega) hb1.hi
        refine⟨r,?_,?_⟩
        · rw[show k+3=(k+2)+1 from rfl,Wm (s':=(1,limit,R1.2.2,false,[D.Prf.mk])) (by
            show((app? ([]:List Int) a).bind λx4=>(set? x4 (w:Int) (-1)).bind λx5=>(Zz (k+3) (D.l03Work.mk f limit (s+1) false) x5).bind _)=_;rw[ha0];simp only[Zbn];rw[t1];simp only[Zbn];rw[g];simp only[Zbn]
            rw[Zbv (by rw[c];decide),hw1,c];rfl)]
          exact q1
        · rw[<-hQ,Zbq c];exact q2
      · refine⟨.inr (R1.2.1,D.Prf.mk,R1.1==1,⟨f,limit,R1.2.2,R1.1==3⟩), ?_,by rw[<-hQ,Zbv c]⟩
        refine ZI ?_ (by omega);show((app? ([]:List Int) a).bind λx4=>(set? x4 (w:Int) (-1)).bind λx5=>(Zz (k+3) (D.l03Work.mk f limit (s+1) false) x5).bind _)=_;rw[ha0];simp only[Zbn];rw[t1];simp only[Zbn];rw[g];simp only[Zbn];rw[Zbq (by rcases hb1.code with h|h|h<;>simp[h]at c⊢)]
    obtain⟨r,q1,q2⟩:=key;refine Eq.trans ?_ q2;exact congrArg (λo=>Option.bind o (λ(rl2:(Int×Int×Bool×(List D.Prf))⊕((List Int)×D.Prf×Bool×D.l03Work))=>match rl2 with|.inl s2r=>some (([]:List Int),D.Prf.mk,false,(D.l03Work.mk f s2r.1 s2r.2.1 s2r.2.2.1))|.inr v=>some v)) q1
end
section
variable{f:D.Formula}{m:Nat}{limit:Int}
def LA{a:List Int}(hA:Asg m a):zer a<=m+1:=by
 have:=List.count_le_length (a:=(0:Int)) (l:=a);have:=hA.len;unfold zer;omega
theorem DK{a:List Int}(hA:Asg m a)(hm:m<=400){n:Nat}(hn:2000<=n):iterN (λ(s1:Int×(List Bool))=>if(decide (s1.1<(len (a.drop 1))))then(get? (a.drop 1) s1.1).bind λx7=>(app? s1.2 ([(decide (x7>0))]:List Bool)).bind λx8=>some (.inl ((w64 (s1.1+1)),x8))else some (.inr (s1.2))) n (0,([]:List Bool))=some (bls a):=by
  have hlen:=hA.len;have hd:(a.drop 1).length=m:=by rw[ZbD];omega
  have key:∀(d i k:Nat),i+d=m->d<k->iterN (λ(s1:Int×(List Bool))=>if(decide (s1.1<(len (a.drop 1))))then(get? (a.drop 1) s1.1).bind λx7=>(app? s1.2 ([(decide (x7>0))]:List Bool)).bind λx8=>some (.inl ((w64 (s1.1+1)),x8))else some (.inr (s1.2))) k ((i:Int),(bls a).take i)=some (bls a):=by
    intro d
    induction d with
    | zero=>
      intro i k hi hk;have hd':decide ((i:Int)<len (a.drop 1))=false:=by rw[Za,hd];exact decide_eq_false (by omega)
      refine ZI ?_ (by omega);simp only[hd',Zbp,Zbx];rw[ZbX (by rw[PM hA];omega)]
    | succ d ih=>
      intro i k hi hk;obtain⟨k,rfl⟩:∃j,k=j+1:=⟨k-1,by omega⟩;have hd':decide ((i:Int)<len (a.drop 1))=true:=by rw[Za,hd];exact decide_eq_true (by omega)
      have e1:w64 ((i:Int)+1)=((i+1:Nat):Int):=by rw[Zb];rfl
      have hil:i<(bls a).length:=by rw[PM hA];omega
      have hig:i<(a.drop 1).length:=by omega
      rw[Wm (s':=(((i+1:Nat):Int),(bls a).take (i+1))) (by
        simp only[hd',Zb5,e1];rw[get?_nat,Zbo hig];simp only[Zbn];rw[Hg (by rw[Zb2];omega)];simp only[Zbn];rw[Zby hil]
        simp only[bls,Zdw])]
      exact ih (i+1) k (by omega) (by omega)
  exact key m 0 n (by omega) (by omega)
theorem LW{cs:List (List Int)}:∀(d:Nat)(a:List Int)(s:Int),Asg m a->(srch m cs limit d a s).1=1->Asg m (srch m cs limit d a s).2.1
 |0,_,_,_,h=>by simp[srch]at h
 | d+1,a,s,hA,h=>by
  have hb:∀(v:List Int)(s':Int),(brn m cs limit d v s').1=1->Asg m (brn m cs limit d v s').2.1:=λv s' h'=>by
   unfold brn at h'⊢;cases hc:clo m cs v with
   |none=>rw[hc]at h';simp at h'
   |some b=>rw[hc]at h';exact LW d b s' (VG hc).asg h'
  rw[UY]at h⊢;by_cases c1:lfr a=0
  ·rw[Zbq c1];exact hA
  rw[Zbv c1]at h⊢;by_cases c2:s=limit
  ·rw[Zbq c2]at h;simp at h
  rw[Zbv c2]at h⊢;by_cases c3:(brn m cs limit d (stA a (-(lfr a:Int))) (s+1)).1=2
  ·rw[Zbq c3]at h⊢;exact hb _ _ h
  ·rw[Zbv c3]at h⊢;exact hb _ _ h
theorem BL{cs:List (List Int)}(d:Nat)(v:List Int)(s:Int)(h:(brn m cs limit d v s).1=1):Asg m (brn m cs limit d v s).2.1:=by
 unfold brn at h⊢;cases hc:clo m cs v with
 |none=>rw[hc]at h;simp at h
 |some b=>rw[hc]at h;exact LW d b s (VG hc).asg h
end
end Go.Proofs.YtikabgjjcifidaaGreat.Sv
end
section
namespace Go.Proofs.YtikabgjjcifidaaGreat
open Go.GL
open Cc (BS LS CircP Grow GoodL Good litN lines negs seqP ifP opP net RelB FOk FU)
set_option maxRecDepth 100000
structure CircT(t:D.Term)(L:List D.Value):Prop where
 vars:ZP fuel t=some L
 ivars:WW fuel t=some (L.map zv)
 circ:CircP (circT t).1
 len:(circT t).2.1.length=t.W.toNat
 lits:∀x∈(circT t).2.1,litN (lines (circT t).1) x=true
 sum:(circT t).1.Inputs=(wsum L:Int)
 wid:∀v∈L,1<=v.W/\v.W<=16
 num:L.length<=1000
def Kq{t:D.Term}(h:termB t=true)(hs:msz t<=1048576)(h3:(circT t).2.2=true):∃L,CircT t L:=by
 obtain⟨L,e,hL,hn,hc,hw,hnm,hlen,hb0⟩:=Uk h hs;unfold circT at h3;rw[Zbq h]at h3;simp only[e,ZbY]at h3;have hE:circT t=(if bitsV L 0>30\/(nP L t (⟨bitsV L 0,[]⟩,false)).2.2=true then(c0,[],false)else((nP L t (⟨bitsV L 0,[]⟩,false)).2.1,(nP L t (⟨bitsV L 0,[]⟩,false)).1,true)):=by
  unfold circT;rw[Zbq h];simp only[e,ZbY]
 by_cases hb:bitsV L 0>30\/(nP L t (⟨bitsV L 0,[]⟩,false)).2.2=true
 ·rw[Zbq hb]at h3;cases h3
 ·rw[Zbv hb]at hE;have hC:=Sl hb0 (by omega);have hv:VF L (⟨bitsV L 0,[]⟩:D.Circuit):=⟨λv hv=>(hw v hv).1,rfl⟩;have g:=UC hL.nm _ t (⟨bitsV L 0,[]⟩,false) (Zb0 _) hn hL.all hC hv;refine⟨L,e,by rw[ND h hs,<-hL.eq],by rw[hE];exact g.circ,by rw[hE];exact g.len,by rw[hE];exact g.lits,?_,hw,hlen⟩;rw[hE];have:=g.grow.inputs;have:=SX L 0 hw;simp only at*;omega
def PZ(x:Int):Cc.iab x=(x.natAbs:Int):=by unfold Cc.iab;split<;>omega
section
variable{t:D.Term}{L:List D.Value}(hT:CircT t L)(hw1:t.W=1)
include hT hw1
end
def Zan(limit:Int):Zf limit 0 3000=some (decide (0<=limit/\limit<=3000)):=by
 unfold Zf;congr 1;rw[ZcI];simp
def AC(limit:Int):WX limit=some (decide (0<=limit/\limit<=3000)):=by
 unfold WX;congr 1;rw[ZcI];simp
end Go.Proofs.YtikabgjjcifidaaGreat
end
section
namespace Go.Proofs.YtikabgjjcifidaaGreat.Sv
open Go.GL
set_option maxRecDepth 100000
def tr(M:Nat->Bool)(x:Int):Bool:=if x<0 then !M x.natAbs else M x.natAbs
def tr_neg{M:Nat->Bool}{x:Int}(h:x≠0):tr M (-x)= !tr M x:=by
 unfold tr;rw[Zd7];by_cases c:x<0
 ·rw[ifn,Zbq c,Bool.not_not]
 ·rw[ifp,Zbv c]
def Sat(M:Nat->Bool)(cs:List (List Int)):Prop:=∀c∈cs,∃x∈c,tr M x=true
def Ext(m:Nat)(M:Nat->Bool)(a:List Int):Prop:=∀x,isL m x->lv a x=1->tr M x=true
section
variable{f:D.Formula}{m:Nat}{limit:Int}{M:Nat->Bool}{cs:List (List Int)}
theorem EN{S:Int->Prop}(hcs:∀c∈cs,ClM m c)(hM:Sat M cs)(hS:∀x,S x->tr M x=true){x:Int}(hd:Der cs S x):tr M x=true:=by
 induction hd with
 |base hx=>exact hS _ hx
 | @unit c x hc hx _ ih=>
  obtain⟨y,hy,hy1⟩:=hM c hc;by_cases e:y=x
  ·rw[<-e];exact hy1
  ·have:=ih y hy e;rw[tr_neg ((hcs c hc).lit y hy).1,hy1]at this;cases this
def ZaK{S:Int->Prop}(hcs:∀c∈cs,ClM m c)(hM:Sat M cs)(hS:∀x,S x->tr M x=true)(hb:Bad cs S):False:=by
 obtain⟨c,hc,h⟩:=hb;obtain⟨y,hy,hy1⟩:=hM c hc;have:=EN hcs hM hS (h y hy);rw[tr_neg ((hcs c hc).lit y hy).1,hy1]at this;cases this
def PY{v b:List Int}(hcs:∀c∈cs,ClM m c)(hM:Sat M cs)(hv:Ext m M v)(h:clo m cs v=some b):Ext m M b:=λx hx h1=>
 EN hcs hM (λy hy=>hv y hy.1 hy.2) ((VG h).snd x hx h1)
theorem Ap{S:Int->Prop}(hcs:∀c∈cs,ClM m c)(hS:∀x,S x->isL m x):∀(n:Nat)(a:List Int),zer a<=n->Way m cs S a->(∃b,Okc m cs S b)\/Bad cs S:=by
 intro n
 induction n with
 | zero=>
  intro a hz hw
  have:0<zer a:=Zdy.2 (by
   have h1:=hw.asg.nul;have h2:=WL (a:=a) (i:=0) (by have:=hw.asg.len;omega);rw[h1]at h2
   exact Zbz h2)
  omega
 | succ n ih=>
  intro a hz hw;by_cases h:∀c∈cs,good a c
  ·exact .inl ⟨a,hw.asg,hw.ext,hw.snd,h⟩
  ·obtain⟨c,hc⟩:=Classical.not_forall.1 h;obtain⟨hc,hg⟩:=Classical.not_imp.1 hc;have hm:=hcs c hc;have hn:∀x∈c,lv a x≠1:=λx hx e=>hg (.inl ⟨x,hx,e⟩);cases hfr:free a c with
   |nil=>exact .inr (Ny hw.asg hw.snd hc hm hn hfr)
   | cons l rest=>
    cases rest with
    |cons y r=>exact absurd (OV hm (by rw[hfr];simp)) hg
    |nil=>
     obtain⟨w1,hl,h0,-⟩:=hw.unit hS hc hm hn hfr;have:=UB hw.asg hl h0;exact ih _ (by omega) w1
def ET(hf:FmP f m){v:List Int}(hA:Asg m v)(h:clo m f.Clauses v=none)(hM:Sat M f.Clauses):¬Ext m M v:=λhv=>by
 rcases Ap hf.cls Ov _ v (Zb0 _) (RN (cs:=f.Clauses) hA)with⟨b,hb⟩|hb
 ·rw[Lh hf.cls hb]at h;cases h
 ·exact ZaK hf.cls hM (λy hy=>hv y hy.1 hy.2) hb
def ext_set{a:List Int}(hA:Asg m a)(hv:Ext m M a){l:Int}(hl:isL m l)(h0:lv a l=0)(h:tr M l=true):Ext m M (stA a l):=λx hx h1=>by
 rw[lv_set hA.len hl hx.1]at h1;split at h1
 ·rename_i e;rw[e];exact h
 ·split at h1
  ·cases h1
  ·exact hv x hx h1
def mdl(a:List Int)(v:Nat):Bool:=decide (a.getD v 0=1)
def Le(m:Nat)(M M':Nat->Bool):Prop:=(∀v,1<=v->v<=m->M v=M' v)\/∃v,1<=v/\v<=m/\(∀u,1<=u->u<v->M u=M' u)/\M v=false/\M' v=true
structure Full(m:Nat)(cs:List (List Int))(b:List Int):Prop where
 asg:Asg m b
 cl:∀c∈cs,good b c
 all:LF b 0
def Full.val{b:List Int}(h:Full m cs b){x:Int}(hx:isL m x):lv b x≠0:=by
 have hl:=h.asg.len;rcases h.all with⟨-,h1⟩|⟨h1,_⟩
 ·have:=h1 x.natAbs (by have:=hx.1;omega) (by have:=hx.2;omega);unfold lv;split<;>omega
 ·omega
def Full.tr{b:List Int}(h:Full m cs b){x:Int}(hx:isL m x):tr (mdl b) x=decide (lv b x=1):=by
 have h0:=h.val hx;have hv:=h.asg.val x.natAbs;unfold Sv.tr mdl;unfold lv at h0⊢;by_cases c:x<0
 ·rw[Zbq c]at h0⊢;rw[Zbq c];rcases hv with e|e|e<;>rw[e]at h0⊢<;>first|rfl|exact absurd rfl h0
 ·rw[Zbv c]at h0⊢;rw[Zbv c]
def Full.sat{b:List Int}(hcs:∀c∈cs,ClM m c)(h:Full m cs b):Sat (mdl b) cs:=λc hc=>by
 rcases h.cl c hc with⟨x,hx,h1⟩|⟨x,hx,y,hy,hne,h1,h2⟩
 ·exact⟨x,hx,by rw[h.tr ((hcs c hc).lit x hx),h1];rfl⟩
 ·exact absurd h1 (h.val ((hcs c hc).lit x hx))
structure First(m:Nat)(cs:List (List Int))(a:List Int)(r:Int×List Int×Int):Prop where
 yes:r.1=1->Full m cs r.2.1/\(∀x,isL m x->lv a x=1->lv r.2.1 x=1)/\∀M,Sat M cs->Ext m M a->Le m (mdl r.2.1) M
 no:r.1=2->∀M,Sat M cs->¬Ext m M a
def agree{a b:List Int}(hb:Full m cs b)(hx:∀x,isL m x->lv a x=1->lv b x=1)(hM:Ext m M a){u:Nat}(h1:1<=u)(h2:u<=m)(h0:a.getD u 0≠0)(hA:Asg m a):mdl b u=M u:=by
 have L1:isL m (u:Int):=⟨by omega,by omega⟩;have L2:isL m (-(u:Int)):=⟨by omega,by omega⟩;have e:∀c:List Int,lv c (u:Int)=c.getD u 0:=λc=>by unfold lv;rw[ifn];simp
 have t1:∀N:Nat->Bool,tr N (u:Int)=N u:=λN=>by unfold tr;rw[ifn];simp
 have t2:∀N:Nat->Bool,tr N (-(u:Int))= !N u:=λN=>by rw[tr_neg L1.1,t1]
 rcases hA.val u with h|h|h
 ·have a1:lv a (-(u:Int))=1:=by rw[lv_neg L1.1,e,h];rfl
  have a2:=hM _ L2 a1;have a3:=hb.tr L2;rw[hx _ L2 a1,t2]at a3;rw[t2]at a2;cases hq:mdl b u<;>cases hp:M u<;>simp[hq,hp]at a2 a3⊢
 ·exact absurd h h0
 ·have a1:lv a (u:Int)=1:=by rw[e,h]
  have a2:=hM _ L1 a1;have a3:=hb.tr L1;rw[hx _ L1 a1,t1]at a3;rw[t1]at a2;rw[a2,a3];rfl
theorem Ip(hf:FmP f m):∀(d:Nat)(a:List Int)(s:Int),Asg m a->(∀c∈f.Clauses,good a c)->zer a<=d->First m f.Clauses a (srch m f.Clauses limit d a s):=by
 intro d
 induction d with
 | zero=>
  intro a s hA hg hz
  have:0<zer a:=Zdy.2 (by
   have h1:=hA.nul;have h2:=WL (a:=a) (i:=0) (by have:=hA.len;omega);rw[h1]at h2
   exact Zbz h2)
  omega
 | succ d ih=>
  intro a s hA hg hz;obtain⟨w,hw,-⟩:=He (a:=a) (q:=[]) (n:=2000) (by have:=hA.len;have:=hf.small;omega) (Zb0 _);rw[UY,JA hw];by_cases c1:w=0
  ·rw[Zbq c1];subst c1;refine⟨λ_=>⟨⟨hA,hg,hw⟩,λ_ _ h=>h,λM _ hM=>.inl λv h1 h2=>?_⟩,λh=>(by cases h)⟩;have F:Full m f.Clauses a:=⟨hA,hg,hw⟩;have hv:=F.val (x:=(v:Int)) ⟨by omega,by omega⟩;exact agree F (λ_ _ h=>h) hM h1 h2 (by unfold lv at hv;rw[ifn]at hv;simpa using hv) hA
  rw[Zbv c1];by_cases c2:s=limit
  ·rw[Zbq c2];exact⟨λh=>(by cases h),λh=>(by cases h)⟩
  rw[Zbv c2];obtain⟨k1,k2,k3,k4⟩:=Nq hA hw c1;have hwm:1<=w/\w<=m:=by have:=k1.2;omega
  have t1:∀N:Nat->Bool,tr N (w:Int)=N w:=λN=>by unfold tr;rw[ifn];simp
  have t2:∀N:Nat->Bool,tr N (-(w:Int))= !N w:=λN=>by rw[tr_neg k1.1,t1]
  have below:∀u,1<=u->u<w->a.getD u 0≠0:=λu h1 h2=>by
   rcases hw with⟨h,_⟩|⟨_,_,_,h⟩
   ·exact absurd h c1
   ·exact h u h1 h2
  have one:∀(l:Int)(s':Int),isL m l->lv a l=0->First m f.Clauses (stA a l) (brn m f.Clauses limit d (stA a l) s')/\∀x,isL m x->lv a x=1->lv (stA a l) x=1:=λl s' hl h0=>by
   have hA1:=asg_set hA hl;have hz1:=UB hA hl h0;refine⟨?_,λx hx h=>by rw[lv_mono hA hl h0 hx.1 (by rw[h];decide)];exact h⟩;unfold brn;cases hc:clo m f.Clauses (stA a l)with
   |none=>exact⟨λh=>(by cases h),λ_ M hM=>ET hf hA1 hc hM⟩
   |some b=>
    have hok:=VG hc;have hz2:=Nt hA1 hok;obtain⟨i1,i2⟩:=ih b s' hok.asg hok.cl (by omega);refine⟨λh=>?_,λh M hM hv=>i2 h M hM (PY hf.cls hM hv hc)⟩;obtain⟨j1,j2,j3⟩:=i1 h;exact⟨j1,λx hx h1=>j2 x hx (hok.ext x ⟨hx,h1⟩),λM hM hv=>j3 M hM (PY hf.cls hM hv hc)⟩
  obtain⟨⟨p1,p2⟩,p3⟩:=one (-(w:Int)) (s+1) k2 k4;by_cases c:(brn m f.Clauses limit d (stA a (-(w:Int))) (s+1)).1=2
  ·rw[Zbq c];obtain⟨⟨q1,q2⟩,q3⟩:=one (w:Int) (brn m f.Clauses limit d (stA a (-(w:Int))) (s+1)).2.2 k1 k3;have must:∀M,Sat M f.Clauses->Ext m M a->Ext m M (stA a (w:Int)):=λM hM hv=>by
    refine ext_set hA hv k1 k3 ?_;cases h:tr M (w:Int)with
    |true=>rfl
    |false=>exact absurd (ext_set hA hv k2 k4 (by rw[tr_neg k1.1,h];rfl)) (p2 c M hM)
   refine⟨λh=>?_,λh M hM hv=>q2 h M hM (must M hM hv)⟩;obtain⟨j1,j2,j3⟩:=q1 h;exact⟨j1,λx hx h1=>j2 x hx (q3 x hx h1),λM hM hv=>j3 M hM (must M hM hv)⟩
  ·rw[Zbv c];refine⟨λh=>?_,λh=>absurd h c⟩;obtain⟨j1,j2,j3⟩:=p1 h;have ex:∀x,isL m x->lv a x=1->lv (brn m f.Clauses limit d (stA a (-(w:Int))) (s+1)).2.1 x=1:=λx hx h1=>j2 x hx (p3 x hx h1);refine⟨j1,ex,λM hM hv=>?_⟩;cases h:tr M (w:Int)with
   |false=>exact j3 M hM (ext_set hA hv k2 k4 (by rw[tr_neg k1.1,h];rfl))
   |true=>
    refine .inr ⟨w,hwm.1,hwm.2,λu h1 h2=>agree j1 ex hv h1 (by omega) (below u h1 h2) hA,?_,by rw[t1]at h;exact h⟩;have e1:lv (stA a (-(w:Int))) (-(w:Int))=1:=by rw[lv_set hA.len k2 k2.1,Zbq rfl]
    have e2:=j1.tr k2;rw[j2 _ k2 e1,t2]at e2;cases hq:mdl (brn m f.Clauses limit d (stA a (-(w:Int))) (s+1)).2.1 w with
    |false=>rfl
    |true=>rw[hq]at e2;cases e2
theorem brn_first(hf:FmP f m){v:List Int}(hA:Asg m v)(s:Int):First m f.Clauses v (brn m f.Clauses limit (m+1) v s):=by
 unfold brn;cases hc:clo m f.Clauses v with
 |none=>exact⟨λh=>(by cases h),λ_ M hM=>ET hf hA hc hM⟩
 |some b=>
  have hok:=VG hc;obtain⟨i1,i2⟩:=Ip (limit:=limit) hf (m+1) b s hok.asg hok.cl (LA hok.asg);refine⟨λh=>?_,λh M hM hv=>i2 h M hM (PY hf.cls hM hv hc)⟩;obtain⟨j1,j2,j3⟩:=i1 h;exact⟨j1,λx hx h1=>j2 x hx (hok.ext x ⟨hx,h1⟩),λM hM hv=>j3 M hM (PY hf.cls hM hv hc)⟩
end
open Cc (CircP lines litN iab accF stepF)
def vm(w:List Bool)(i:Nat):Bool:=w.getD (i-1) false
def Zaz{w u:List Bool}{i:Nat}(h1:1<=i)(h:i<=w.length):vm (w++u) i=vm w i:=by
 unfold vm;rw[Zbr,Zbr,ZbH (by omega)]
def Jv{w u:List Bool}{x:Int}(h0:x≠0)(h:x.natAbs<=w.length):tr (vm (w++u)) x=tr (vm w) x:=by
 unfold tr;rw[Zaz (by omega) h]
def evalG:List D.Gate->List Bool->List Bool
 |[],w=>w
 |g::gs,w=>evalG gs (w++[tr (vm w) g.A&&tr (vm w) g.B])
theorem Rs(g:D.Gate):∀(gs:List D.Gate)(w:List Bool),evalG (gs++[g]) w=evalG gs w++[tr (vm (evalG gs w)) g.A&&tr (vm (evalG gs w)) g.B]
 |[],_=>rfl
 |h::gs,w=>by rw[Zdk,evalG,Rs g gs];rfl
theorem ME:∀(gs:List D.Gate)(w:List Bool),(evalG gs w).length=w.length+gs.length
 |[],_=>rfl
 |h::gs,w=>by rw[evalG,ME gs,Zbw,Zb6];simp only[Zb6,Zcf];omega
theorem evalG_pre:∀(gs:List D.Gate)(w:List Bool),∃u,evalG gs w=w++u
 |[],w=>⟨[],by rw[evalG,Zcg]⟩
 |h::gs,w=>by
  obtain⟨u,e⟩:=evalG_pre gs (w++[tr (vm w) h.A&&tr (vm w) h.B]);exact⟨[tr (vm w) h.A&&tr (vm w) h.B]++u,by rw[evalG,e,ZbI]⟩
def Dj{M:Nat->Bool}{a b l:Int}(ha:a≠0)(hb:b≠0)(hl:l≠0):((∃x∈[a,-l],tr M x=true)/\(∃x∈[b,-l],tr M x=true)/\∃x∈[-a,-b,l],tr M x=true)↔tr M l=(tr M a&&tr M b):=by
 simp only[ZbN,Zdl,or_false,exists_eq_or_imp,exists_eq_left,tr_neg ha,tr_neg hb,tr_neg hl];cases tr M a<;>cases tr M b<;>cases tr M l<;>simp
theorem acc_sat{c:D.Circuit}(hc:CircP c){M:Nat->Bool}:∀k,k<=c.Gates.length->(Sat M (accF c k)↔M 1=true/\∀i(h:i<c.Gates.length),i<k->tr M (c.Inputs+2+(i:Int))=(tr M c.Gates[i].A&&tr M c.Gates[i].B)):=by
 intro k
 induction k with
 | zero=>
  intro _;have:tr M 1=M 1:=rfl;refine⟨λh=>?_,λh c hc=>?_⟩
  ·obtain⟨x,hx,h1⟩:=h [1] (by simp[accF]);rw[Zb3]at hx;rw[hx]at h1;exact⟨h1,λi _ h=>by omega⟩
  ·simp only[accF,Zb3]at hc;subst hc;exact⟨1,by simp,h.1⟩
 | succ k ih=>
  intro hk;have hkl:k<c.Gates.length:=by omega
  have eg:c.Gates.getD k ⟨0,0⟩=c.Gates[k]:=by rw[Zbr,Zbo hkl];rfl
  have o:=Cc.gate_ok hc (Zbo hkl);have na:c.Gates[k].A≠0:=λe=>by have:=(Cc.litN_iff.1 o.a).1;rw[e]at this;revert this;decide
  have nb:c.Gates[k].B≠0:=λe=>by have:=(Cc.litN_iff.1 o.b).1;rw[e]at this;revert this;decide
  have nl:c.Inputs+2+(k:Int)≠0:=by have:=hc.i0;omega
  have hS:Sat M (accF c (k+1))↔Sat M (accF c k)/\tr M (c.Inputs+2+(k:Int))=(tr M c.Gates[k].A&&tr M c.Gates[k].B):=by
   rw[<-Dj na nb nl];unfold Sat;rw[accF,eg];simp only[Zb7];constructor
   ·intro h;refine⟨λx hx=>h x (.inl hx),h _ (.inr ?_),h _ (.inr ?_),h _ (.inr ?_)⟩<;>unfold stepF<;>simp
   ·rintro⟨h1,h2,h3,h4⟩ x (hx|hx)
    ·exact h1 x hx
    ·unfold stepF at hx;simp only[ZbN,Zdl,or_false]at hx;rcases hx with rfl|rfl|rfl
     ·exact h2
     ·exact h3
     ·exact h4
  rw[hS,ih (by omega)];constructor
  ·rintro⟨⟨h1,h2⟩,h3⟩;refine⟨h1,λi hi hlt=>?_⟩;by_cases e:i=k
   ·subst e;exact h3
   ·exact h2 i hi (by omega)
  ·rintro⟨h1,h2⟩;exact⟨⟨h1,λi hi hlt=>h2 i hi (by omega)⟩,h2 k hkl (by omega)⟩
theorem lines_uniq{c:D.Circuit}(hc:CircP c){w:List Bool}(hw:(w.length:Int)=lines c):Sat (vm w) (accF c c.Gates.length)↔w=evalG c.Gates (true::(w.drop 1).take c.Inputs.toNat):=by
 have hi0:=hc.i0;have hL:(w.length:Int)=c.Inputs+1+c.Gates.length:=hw;have hI:((c.Inputs.toNat:Nat):Int)=c.Inputs:=by omega
 generalize hn:c.Inputs.toNat=I at hI⊢;rw[acc_sat hc _ (Zb0 _)];have len0:(true::(w.drop 1).take I).length=I+1:=by rw[Zb6,Zb2,ZbD];omega
 have lenk:∀k,k<=c.Gates.length->(evalG (c.Gates.take k) (true::(w.drop 1).take I)).length=I+1+k:=λk hk=>by rw[ME,len0,Zb2];omega
 have small:∀k(h:k<c.Gates.length),(c.Gates[k].A≠0/\c.Gates[k].A.natAbs<=I+1+k)/\c.Gates[k].B≠0/\c.Gates[k].B.natAbs<=I+1+k:=λk h=>by
  have o:=Cc.gate_ok hc (Zbo h);have a1:=(Cc.litN_iff.1 o.a).1;have b1:=(Cc.litN_iff.1 o.b).1;have a2:=o.al';have b2:=o.bl';rw[Cc.iab_neg]at a2 b2;have e1:iab (c.Inputs+2+(k:Int))=c.Inputs+2+(k:Int):=by unfold iab;rw[ifn]
  rw[e1]at a2 b2;have ia:∀x:Int,iab x=(x.natAbs:Int):=λx=>by unfold iab;split<;>omega
  rw[ia]at a1 b1 a2 b2;exact⟨⟨by omega,by omega⟩,by omega,by omega⟩
 constructor
 ·rintro⟨h1,h2⟩;have key:∀k,k<=c.Gates.length->evalG (c.Gates.take k) (true::(w.drop 1).take I)=w.take (I+1+k):=by
   intro k
   induction k with
   | zero=>
    intro _;rw[ZdR,evalG,ZcP];cases w with
    |nil=>simp at hL;omega
    |cons b u=>
     have:b=true:=h1;rw[this];simp
   | succ k ih=>
    intro hk;have hkl:k<c.Gates.length:=by omega
    have e:=ih (by omega);obtain⟨⟨a0,a1⟩,b0,b1⟩:=small k hkl;rw[Zby hkl,Rs,e,<-Zex,Zby (by omega)];congr 2;have hlt:(w.take (I+1+k)).length=I+1+k:=by rw[Zb2];omega
    have t:∀x:Int,x≠0->x.natAbs<=I+1+k->tr (vm (w.take (I+1+k))) x=tr (vm w) x:=λx h0 hx=>by
     have:=Jv (w:=w.take (I+1+k)) (u:=w.drop (I+1+k)) h0 (by omega);rw[Zcw]at this;exact this.symm
    rw[t _ a0 a1,t _ b0 b1,<-h2 k hkl hkl];unfold tr vm;rw[ifn,show(c.Inputs+2+(k:Int)).natAbs-1=I+1+k by omega,Zbr,Zbo (by omega)];rfl
  have:=key c.Gates.length (Zb0 _);have e2:w.take (I+1+c.Gates.length)=w:=ZbX (by omega);rw[Zc0,e2]at this;exact this.symm
 ·intro h;have pre:∀k,k<=c.Gates.length->∃u,w=evalG (c.Gates.take k) (true::(w.drop 1).take I)++u:=λk hk=>by
   obtain⟨u,e⟩:=evalG_pre (c.Gates.drop k) (evalG (c.Gates.take k) (true::(w.drop 1).take I));refine⟨u,?_⟩;rw[<-e];have app:∀(g1 g2:List D.Gate)(z:List Bool),evalG (g1++g2) z=evalG g2 (evalG g1 z):=λg1=>by
    induction g1 with
    |nil=>intro _ _;rfl
    |cons x g1 ih=>intro g2 z;rw[Zdk,evalG,ih];rfl
   rw[<-app,Zcw];exact h
  refine⟨?_,λi hi _=>?_⟩
  ·rw[h];obtain⟨u,e⟩:=evalG_pre c.Gates (true::(w.drop 1).take I);rw[e];rfl
  ·obtain⟨⟨a0,a1⟩,b0,b1⟩:=small i hi;obtain⟨u,e⟩:=pre (i+1) (by omega);obtain⟨u',e'⟩:=pre i (by omega);have l1:=lenk i (by omega);rw[Zby hi,Rs]at e;have tA:tr (vm w) c.Gates[i].A=tr (vm (evalG (c.Gates.take i) (true::(w.drop 1).take I))) c.Gates[i].A:=by
    conv=>lhs;rw[e']
    exact Jv a0 (by omega)
   have tB:tr (vm w) c.Gates[i].B=tr (vm (evalG (c.Gates.take i) (true::(w.drop 1).take I))) c.Gates[i].B:=by
    conv=>lhs;rw[e']
    exact Jv b0 (by omega)
   rw[tA,tB]
   conv=>lhs;rw[e]
   unfold tr vm;rw[ifn,show(c.Inputs+2+(i:Int)).natAbs-1=I+1+i by omega,Zbr,ZbH (by rw[Zbw,l1];simp),ZbB (by omega),l1,ZcG];rfl
end Go.Proofs.YtikabgjjcifidaaGreat.Sv
end
section
namespace Go.Proofs.YtikabgjjcifidaaGreat
open Go.GL
set_option maxRecDepth 100000
def Cj(x:D.Value)(xs:List D.Value)(s:Str):fnd (x::xs) s=if x.Name=s then some x else fnd xs s:=by
 unfold fnd;by_cases e:x.Name=s<;>simp[Zeb,e]
open Cc (BS LS CircP Grow GoodL litN lines litN_iff litV ev vB Yz opB bi)
def inB(l:List D.Value):List Bool:=l.flatMap λx=>(List.range x.W.toNat).reverse.map (bitI x.N)
def ky(v:D.Value):Str×Int:=(v.Name,v.W)
def Sz(v:D.Value)(l:List D.Value):inB (v::l)=(List.range v.W.toNat).reverse.map (bitI v.N)++inB l:=rfl
theorem MG:∀{vs ws:List D.Value}{a:Int}{s:Str},vs.map ky=ws.map ky->atV vs a s=atV ws a s
 |[],[],a,s,_=>rfl
 |v::vs,w::ws,a,s,h=>by
  simp only[Zb1,List.cons.injEq,ky,Prod.mk.injEq]at h;unfold atV;rw[h.1.1,h.1.2,MG (a:=a+w.W) h.2]
theorem Hf:∀(l:List D.Value)(a:Nat)(E:List Bool),(∀v∈l,1<=v.W)->(l.Pairwise λx y=>x.Name≠y.Name)->(∀j,j<(inB l).length->E[a+j]? =(inB l)[j]?)->∀x∈l,∀k,k<x.W.toNat->∃i:Nat,atV l (a:Int) x.Name=(i:Int)/\k+1<=i/\E[i-k-1]? =some (bitI x.N k)
 |[],_,_,_,_,_,x,hx,_,_=>by cases hx
 | v::l,a,E,h1,hp,hE,x,hx,k,hk=>by
  rw[ZcW]at hp;have hv:=h1 v (by simp);have hlen:((List.range v.W.toNat).reverse.map (bitI v.N)).length=v.W.toNat:=by simp
  rw[Sz]at hE;unfold atV;by_cases c:v.Name=x.Name
  ·rw[Zbq (by rw[c];exact OA _)];have hxv:x=v:=by
    rcases ZbN.1 hx with h|h
    ·exact h
    ·exact absurd c (hp.1 x h)
   subst hxv;refine⟨a+x.W.toNat,by omega,by omega,?_⟩;have:=hE (x.W.toNat-1-k) (by rw[Zbw,hlen];omega);rw[show a+x.W.toNat-k-1=a+(x.W.toNat-1-k) by omega,this,ZbH (by rw[hlen];omega),ZbO,List.getElem?_reverse (by simp;omega),ZdQ,Zdg (by omega),show x.W.toNat-1-(x.W.toNat-1-k)=k by omega];rfl
  ·rw[Zbv (by rw[Tm];simpa using c)];have hxl:x∈l:=(ZbN.1 hx).resolve_left λh=>c (by rw[h])
   obtain⟨i,g1,g2,g3⟩:=Hf l (a+v.W.toNat) E (λy hy=>h1 y (by simp[hy])) hp.2 (λj hj=>by
    have:=hE (v.W.toNat+j) (by rw[Zbw,hlen];omega)
    rw[show a+v.W.toNat+j=a+(v.W.toNat+j) by omega,this,ZbB (by rw[hlen];omega),hlen,show v.W.toNat+j-v.W.toNat=j by omega]) x hxl k hk
   refine⟨i,?_,g2,g3⟩;rw[<-g1];congr 1;omega
structure Vls(L l:List D.Value):Prop where
 ky:l.map ky=L.map ky
 word:∀x∈l,0<=x.N/\x.N<2^x.W.toNat
def JZ{L l:List D.Value}(h:l.map ky=L.map ky){x:D.Value}(hx:x∈l):∃v∈L,v.Name=x.Name/\v.W=x.W:=by
 have:Go.Proofs.YtikabgjjcifidaaGreat.ky x∈L.map Go.Proofs.YtikabgjjcifidaaGreat.ky:=h▸List.mem_map_of_mem hx;obtain⟨v,hv,e⟩:=ZcB.1 this;simp only[Go.Proofs.YtikabgjjcifidaaGreat.ky,Prod.mk.injEq]at e;exact⟨v,hv,e⟩
def ZaY{L l:List D.Value}(h:l.map ky=L.map ky){R:Str->Str->Prop}(hp:L.Pairwise λx y=>R x.Name y.Name):l.Pairwise λx y=>R x.Name y.Name:=by
 have h1:l.map (·.Name)=L.map (·.Name):=by
  have:=congrArg (List.map Prod.fst) h;rw[Zc2,Zc2]at this;exact this
 have h2:(L.map (·.Name)).Pairwise R:=Zew.2 hp;rw[<-h1]at h2;exact Zew.1 h2
theorem Za1{l:List D.Value}(hp:l.Pairwise λx y=>x.Name≠y.Name){x:D.Value}(hx:x∈l):fnd l x.Name=some x:=by
 induction l with
 |nil=>cases hx
 |cons y l ih=>
  rw[ZcW]at hp;rw[Cj];rcases ZbN.1 hx with rfl|hx
  ·rw[Zbq rfl]
  ·rw[Zbv (hp.1 x hx),ih hp.2 hx]
def Zah{t:D.Term}{L l:List D.Value}{E:List Bool}(hL:VL t L)(hw:∀v∈L,1<=v.W/\v.W<=16)(h:Vls L l)(hE:[true]++inB l<+:E):∀p∈vrs t,EV L l E p:=by
 intro p hp;obtain⟨v,hv,v1,v2⟩:=hL.all p hp;obtain⟨x,hx,e1,e2⟩:=JZ h.ky.symm hv;have hpl:=ZaY h.ky (R:=λa b=>a≠b) hL.nm;have hwl:∀y∈l,1<=y.W:=λy hy=>by
  obtain⟨z,hz,-,z2⟩:=JZ h.ky hy;have:=hw z hz;omega
 have hxw:=h.word x hx;refine⟨x,?_,by rw[e2,v2],hxw.1,hxw.2,?_⟩
 ·rw[<-v1,<-e1];exact Za1 hpl hx
 ·obtain⟨T,rfl⟩:=hE;unfold varL;rw[Zc2];refine Zcz λk hk=>?_;have hk:=ZbM.1 hk;simp only[Function.comp]
  obtain⟨i,g1,g2,g3⟩:=Hf l 1 ([true]++inB l++T) hwl hpl (λj hj=>by
   rw[ZbH (by simp;omega),ZbB (by simp),show 1+j-[true].length=j by simp]) x hx k (by rw[e2,v2];exact hk)
  rw[<-v1,<-e1,MG h.ky.symm];rw[show((1:Nat):Int)=1 from rfl]at g1;rw[g1];have hi:Cc.iab ((i:Int)-(k:Int))=(i:Int)-k:=by unfold Cc.iab;rw[ifn]
  unfold litV;rw[ifn,hi,show((i:Int)-(k:Int)-1).toNat=i-k-1 by omega,g3];rfl
theorem Oc{L l:List D.Value}(h:l.map ky=L.map ky)(hw:∀v∈L,1<=v.W/\v.W<=16):((inB l).length:Int)=bitsV L 0:=by
 have key:∀(l L:List D.Value)(a:Int),l.map ky=L.map ky->(∀v∈L,1<=v.W/\v.W<=16)->bitsV L a=a+((inB l).length:Int):=by
  intro l
  induction l with
  |nil=>intro L a h _;cases L with
   |nil=>simp[bitsV,inB]
   |cons v L=>simp at h
  | cons x l ih=>
   intro L a h hw;cases L with
   |nil=>simp at h
   |cons v L=>
    simp only[Zb1,List.cons.injEq,ky,Prod.mk.injEq]at h;have h1:=hw v (by simp);rw[Tk,ih L _ h.2 (λy hy=>hw y (by simp[hy])),Sz,Zbw,ZbK,Zdi,ZdQ,h.1.2];omega
 rw[key l L 0 h hw];omega
theorem Ec{t:D.Term}(hs:msz t<=1048576)(hok:(circT t).2.2=true):∃L,ZP fuel t=some L/\VL t L/\termB t=true/\(∀v∈L,1<=v.W/\v.W<=16)/\L.length<=30/\CircP (circT t).1/\(circT t).2.1.length=t.W.toNat/\(∀x∈(circT t).2.1,litN (lines (circT t).1) x=true)/\bitsV L 0=(circT t).1.Inputs/\bitsV L 0<=30/\
  ∀l,Vls L l->∀n:Nat,1048900<=n->Y4 n t l=some ((vB ((circT t).2.1.map (litV (ev (circT t).1 (inB l)))):Int),true):=by
 by_cases h:termB t=true
 ·obtain⟨L,e,hL,hn,hc,hw,hnm,hlen,hb0⟩:=Uk h hs;unfold circT at hok⊢;rw[Zbq h,e]at hok;rw[Zbq h,e];simp only[ZbY]at hok⊢;by_cases hf:bitsV L 0>30\/(nP L t (⟨bitsV L 0,[]⟩,false)).2.2=true
  ·rw[Zbq hf]at hok;cases hok
  rw[Zbv hf];have hf1:¬bitsV L 0>30:=λq=>hf (.inl q);have hf2:(nP L t (⟨bitsV L 0,[]⟩,false)).2.2=false:=by
   cases q:(nP L t (⟨bitsV L 0,[]⟩,false)).2.2
   ·rfl
   ·exact absurd (.inr q) hf
  have hC:=Sl hb0 (by omega);have hv:VF L (⟨bitsV L 0,[]⟩:D.Circuit):=⟨λv hv=>(hw v hv).1,rfl⟩;have g:=UC hL.nm _ t (⟨bitsV L 0,[]⟩,false) (Zb0 _) hn hL.all hC hv;have f:=Zbi hL.nm _ t (⟨bitsV L 0,[]⟩,false) (Zb0 _) hn hL.all hC hv;generalize nP L t (⟨bitsV L 0,[]⟩,false)=r at g f hf2;have hin:r.2.1.Inputs=bitsV L 0:=g.grow.1;have hlen30:L.length<=30:=by
   have:∀(M:List D.Value)(a:Int),(∀v∈M,1<=v.W/\v.W<=16)->a+(M.length:Int)<=bitsV M a:=by
    intro M
    induction M with
    |nil=>intro a _;simp[bitsV]
    |cons v M ih=>
     intro a hM;have:=ih (a+v.W) (λy hy=>hM y (by simp[hy]));have:=(hM v (by simp)).1;rw[Tk,Zb6];omega
   have:=this L 0 hw;omega
  refine⟨L,rfl,hL,h,hw,hlen30,g.circ,g.len,g.lits,hin.symm,by omega,λl hl n hn'=>?_⟩;have hil:=Oc hl.ky hw;have hsem:=f.sem hf2 r.2.1 g.circ (Grow.refl _) (inB l) (by rw[hil,hin]);rw[hsem];have hll:l.length<=30:=by
   have:=congrArg List.length hl.ky;rw[ZbK,ZbK]at this;omega
  have hpre:[true]++inB l<+:ev r.2.1 (inB l):=by
   have:=Cc.outV_pre (c:=r.2.1) (v:=inB l) (k:=0) (ZcA _);simpa[Cc.outV']using this
  exact(Ga (vs:=L) (l:=l) (E:=ev r.2.1 (inB l)) hll (cnt t) t (Zb0 _) hn (Zah hL hw hl hpre) n (by omega)).1
 ·unfold circT at hok;rw[Zbv h]at hok;cases hok
end Go.Proofs.YtikabgjjcifidaaGreat
end
section
namespace Go.Proofs.YtikabgjjcifidaaGreat.Cc
open Go.GL
variable{fuel:Nat}[FU fuel]
theorem Nn{σt ρt:Type}{B:σt->Option (σt⊕ρt)}{I:Nat->σt->Prop}{m:Nat}{R:ρt->Prop}(hs:∀k s,k<m->I k s->∃s',B s=some (.inl s')/\I (k+1) s')(hf:∀s,I m s->∃r,B s=some (.inr r)/\R r):
  ∀(d k:Nat)(s:σt),k+d=m->I k s->∀n,d<n->∃r,iterN B n s=some r/\R r
 |0,k,s,hk,hi,n,hn=>by
  obtain⟨n,rfl⟩:∃j,n=j+1:=⟨n-1,by omega⟩;obtain rfl:k=m:=by omega
  obtain⟨r,h1,h2⟩:=hf s hi;exact⟨r,by unfold iterN;rw[h1],h2⟩
 |d+1,k,s,hk,hi,n,hn=>by
  obtain⟨n,rfl⟩:∃j,n=j+1:=⟨n-1,by omega⟩;obtain⟨s',h1,h2⟩:=hs k s (by omega) hi;obtain⟨r,h3,h4⟩:=Nn hs hf d (k+1) s' (by omega) h2 n (by omega);exact⟨r,by unfold iterN;rw[h1];exact h3,h4⟩
structure CurOk(c:D.l01Cur):Prop where
 i0:0<=c.i
 len:c.b.length<=1048576
def band255(x:Int):0<=band x 255/\band x 255<=255:=by
 unfold band;have h:(BitVec.ofInt 64 x&&& BitVec.ofInt 64 255).toNat<=255:=by
  rw[BitVec.toNat_and];exact Nat.and_le_right
 rw[Zb];omega
def Od{c:D.l01Cur}(h:CurOk c):∃x i h',XJ c=some (x,⟨c.b,i,h'⟩)/\0<=x/\x<=255/\CurOk ⟨c.b,i,h'⟩:=by
 unfold XJ;have hs:∀(z:Int)(k:Nat),shr? z (k:Int)=some (z.fdiv (2^min k 64)):=λz k=>by unfold shr?;rw[ifn];simp
 have h33:∀z:Int,∃y,shr? z 33=some y:=λz=>⟨_,hs z 33⟩;have h45:∀z:Int,∃y,shr? z 45=some y:=λz=>⟨_,hs z 45⟩;obtain⟨y1,e1⟩:=h33 (w64 ((w64 (c.h*6364136223846793005))+1442695040888963407));obtain⟨y2,e2⟩:=h45 (w64 ((w64 (c.h*6364136223846793005))+1442695040888963407));rw[e1,e2];simp only[Zbn];have h0:=h.i0;have hl:=h.len;by_cases hlt:c.i<(c.b.length:Int)
 ·rw[Zbq (by rw[Za];simpa using hlt)];have hi:get? c.b c.i=some (c.b[c.i.toNat]'(by omega)):=by
   unfold get?;rw[Zbq h0,Zbo]
  rw[hi];exact⟨_,_,_,rfl,(band255 _).1,(band255 _).2,⟨by simp only;rw[Zb];omega,hl⟩⟩
 ·rw[Zbv (by rw[Za];simpa using hlt)];exact⟨_,_,_,rfl,(band255 _).1,(band255 _).2,⟨h0,hl⟩⟩
def Wn{c:D.l01Cur}(h:CurOk c){n:Int}(hn:0<n):∃x i h',Zw c n=some (x,⟨c.b,i,h'⟩)/\0<=x/\x<n/\CurOk ⟨c.b,i,h'⟩:=by
 unfold Zw;obtain⟨x,i,h',e,x0,x1,ok⟩:=Od h;rw[Zbv (by simp;omega),e];simp only[Zbn];have hr:rem? x n=some (x.tmod n):=by unfold rem?;rw[ifn]
 rw[hr];exact⟨_,_,_,rfl,Int.tmod_nonneg _ x0,Int.tmod_lt_of_pos _ hn,ok⟩
def Dk{code:List Byt}(hl:code.length<=1048576){n:Int}(h0:0<=n):∃i h,Vu fuel code n=some ⟨code,i,h⟩/\CurOk ⟨code,i,h⟩:=by
 have hnew:∃h,VB fuel code=some ⟨code,0,h⟩:=by
  unfold VB;have key:∃r,iterN (λ(s1:Int×Int)=>if((decide (s1.2<(Go.GL.len code)))&&(decide (s1.2<4000)))then(get? code s1.2).bind λx1=>some (.inl ((band (w64 ((w64 ((w64 (s1.1*131))+(w64 x1.n)))+7)) 1073741823),(w64 (s1.2+1))))else some (.inr (s1.1))) fuel ((w64 (55127+(Go.GL.len code))),0)=some r/\True:=by
   refine Nn (I:=λk s=>s.2=(k:Int)) (m:=min code.length 4000) (λk s hk hs=>?_) (λs hs=>?_) (min code.length 4000) 0 _ (by omega) rfl fuel lt_fuel
   ·obtain⟨z,y⟩:=s;simp only at hs;subst hs;simp only;rw[Zbq (by rw[Za];simp;omega),get?_nat,Zbo (by omega)];exact⟨_,rfl,by simp only;rw[Zb];omega⟩
   ·obtain⟨z,y⟩:=s;simp only at hs;subst hs;simp only;rw[Zbv (by rw[Za];simp;omega)];exact⟨_,rfl,trivial⟩
  obtain⟨r,e,-⟩:=key;rw[e];exact⟨r,rfl⟩
 obtain⟨h,e⟩:=hnew;unfold Vu;rw[e];refine⟨_,_,rfl,?_,hl⟩;simp only;unfold imin;rw[Za];split<;>omega
end Go.Proofs.YtikabgjjcifidaaGreat.Cc
end
section
namespace Go.Proofs.YtikabgjjcifidaaGreat
open Go.GL
open Cc (CurOk Wn Od Dk FU)
set_option maxRecDepth 100000
def itS5{σt ρt:Type}{B:σt->Option (σt⊕ρt)}{s s':σt}{n:Nat}(h:B s=some (.inl s')):iterN B (n+1) s=iterN B n s':=by
 rw[iterN,h]
def itE5{σt ρt:Type}{B:σt->Option (σt⊕ρt)}{s:σt}{r:ρt}{n:Nat}(h:B s=some (.inr r))(hn:0<n):iterN B n s=some r:=by
 obtain⟨n,rfl⟩:∃k,n=k+1:=⟨n-1,by omega⟩;rw[iterN,h]
def UR(b:Byt):(strOf [b]).bytes.length=1:=by simp[strOf]
def PW{a b:Str}(h:a.bytes.length+b.bytes.length<=1000):cat? a b=some ⟨a.bytes++b.bytes⟩:=by unfold cat?;rw[ifp]
def Za6{w:Int}(h0:0<=w)(h1:w<=99){n:Nat}(hn:4<=n):∃s,Xo n w=some s/\s.bytes.length<=2:=by
 obtain⟨n,rfl⟩:∃j,n=j+3:=⟨n-3,by omega⟩;rw[Xo,Zbv (by simp;omega)];by_cases c:w<=9
 ·rw[itE5 (r:=(w,⟨[]⟩)) (by simp only;rw[Zbv (by simp;omega)]) (by omega)];simp only[Zbn];rw[PW (by rw[UR];simp)];exact⟨_,rfl,by simp[UR]⟩
 ·have hr:rem? w 10=some (w.tmod 10):=by unfold rem?;rw[ifn]
  have hq:quo? w 10=some (w/10):=by unfold quo?;rw[ifn,Zeh h0,Zb]
  rw[itS5 (s':=(w/10,⟨(strOf [Byt.mk (IntKind.u8.wrap (w64 (48+w.tmod 10)))]).bytes++[]⟩)) (by
   simp only;rw[Zbq (by simp;omega),hr];simp only[Zbn];rw[PW (by rw[UR];simp)];simp only[Zbn]
   rw[hq];rfl)]
  rw[itE5 (r:=(w/10,⟨(strOf [Byt.mk (IntKind.u8.wrap (w64 (48+w.tmod 10)))]).bytes++[]⟩)) (by simp only;rw[Zbv (by simp;omega)]) (by omega)];simp only[Zbn];rw[PW (by simp[UR])];exact⟨_,rfl,by simp[UR]⟩
def Drw(c:D.l01Cur)(w:Int)(B:Nat)(r:Option (D.Term×D.l01Cur)):Prop:=∃t i h,r=some (t,⟨c.b,i,h⟩)/\CurOk ⟨c.b,i,h⟩/\msz t<=B/\t.W=w
def once6{c:D.l01Cur}(h:CurOk c){n:Int}(hn:0<n):∃x i h',Y3 c n=some (x,⟨c.b,i,h'⟩)/\CurOk ⟨c.b,i,h'⟩:=by
 unfold Y3;obtain⟨x,i,h',e,-,-,ok⟩:=Wn h hn;rw[e];exact⟨_,_,_,rfl,ok⟩
def Kk{c:D.l01Cur}(h:CurOk c){w:Int}(h1:1<=w)(h2:w<=16){n:Nat}(hn:4<=n):Drw c w 3 (Xx n c w):=by
 unfold Xx UD;obtain⟨x,i,h',e,x0,x1,ok⟩:=Wn h (n:=3) (by decide);rw[show len ([⟨[97]⟩,⟨[98]⟩,⟨[120]⟩]:List Str)=3 from rfl,e];obtain⟨k,rfl⟩:=ZdN x0;have hk:k<3:=by omega
 obtain⟨s,hs,hl⟩:∃s:Str,get? ([⟨[97]⟩,⟨[98]⟩,⟨[120]⟩]:List Str) (k:Int)=some s/\s.bytes.length=1:=by
  have:k=0\/k=1\/k=2:=by omega
  rcases this with rfl|rfl|rfl<;>exact⟨_,rfl,rfl⟩
 obtain⟨f,hf,hfl⟩:=Za6 (w:=w) (by omega) (by omega) hn;simp only[Zbn,hs,hf];rw[PW (by omega)];exact⟨_,_,_,rfl,ok,by rw[UH];simp[Xi];omega,rfl⟩
def IC{c:D.l01Cur}(h:CurOk c){w:Int}(h1:1<=w)(h2:w<=16):Drw c w 3 ((shl? 1 w).bind λx2=>(Zw c x2).bind λx3=>(XN (D.l01Cur.mk c.b x3.2.i x3.2.h) ([0,1,(w64 ((x2)-1)),x3.1]:List Int)).bind λx4=>(X5 w (band x4.1 (w64 ((x2)-1)))).bind λx5=>some ((D.Term.mk x5.Op x5.W x5.N x5.Name ([]:List D.Term)),(D.l01Cur.mk c.b x4.2.i x4.2.h))):=by
 obtain⟨m,hm,-,-⟩:=Gu h1 h2;have hm0:0<m:=by
  unfold shl? at hm;rw[ifn,Option.some.injEq]at hm;have:w=1\/w=2\/w=3\/w=4\/w=5\/w=6\/w=7\/w=8\/w=9\/w=10\/w=11\/w=12\/w=13\/w=14\/w=15\/w=16:=by omega
  rcases this with rfl|rfl|rfl|rfl|rfl|rfl|rfl|rfl|rfl|rfl|rfl|rfl|rfl|rfl|rfl|rfl<;>(rw[<-hm];decide)
 rw[hm];simp only[Zbn];obtain⟨x,i,h',e,x0,x1,ok⟩:=Wn h hm0;rw[e];unfold XN;simp only[Zbn];obtain⟨y,j,h2',e2,y0,y1,ok2⟩:=Wn ok (n:=4) (by decide);rw[show∀a b c d:Int,len ([a,b,c,d]:List Int)=4 from λ_ _ _ _=>rfl,e2];obtain⟨k,rfl⟩:=ZdN y0;obtain⟨z,hz⟩:∃z,get? ([0,1,w64 (m-1),x]:List Int) (k:Int)=some z:=by
  have:k=0\/k=1\/k=2\/k=3:=by omega
  rcases this with rfl|rfl|rfl|rfl<;>exact⟨_,rfl⟩
 simp only[Zbn,hz,X5];exact⟨_,_,_,rfl,ok2,by rw[UH];simp[Xi],rfl⟩
def Drw.le{c:D.l01Cur}{w:Int}{B B':Nat}{r:Option (D.Term×D.l01Cur)}(h:Drw c w B r)(hB:B<=B'):Drw c w B' r:=by
 obtain⟨t,i,h',e,ok,hs,hW⟩:=h;exact⟨t,i,h',e,ok,by omega,hW⟩
def XU{op w m:Int}{ks:List D.Term}:msz ⟨op,w,m,⟨[]⟩,ks⟩=ks.length+mszs ks:=by rw[msz];simp
def QY{c:D.l01Cur}(h:CurOk c){w:Int}(h1:1<=w)(h2:w<=16){n:Nat}(hn:4<=n):Drw c w 3 ((Y3 c 3).bind λx1=>if x1.1 then(shl? 1 w).bind λx2=>(Zw (D.l01Cur.mk c.b x1.2.i x1.2.h) x2).bind λx3=>(XN (D.l01Cur.mk c.b x3.2.i x3.2.h) ([0,1,(w64 ((x2)-1)),x3.1]:List Int)).bind λx4=>(X5 w (band x4.1 (w64 ((x2)-1)))).bind λx5=>some ((D.Term.mk x5.Op x5.W x5.N x5.Name ([]:List D.Term)),(D.l01Cur.mk c.b x4.2.i x4.2.h))else(Xx n (D.l01Cur.mk c.b x1.2.i x1.2.h) w).bind λx6=>some (x6.1,(D.l01Cur.mk c.b x6.2.i x6.2.h))):=by
  obtain⟨x,i,h',e,ok⟩:=once6 h (n:=3) (by decide);rw[e];simp only[Zbn];cases x
  · rw[ifn]
    obtain⟨t,j,hh,e2,ok2,hs,hW⟩:=Kk ok h1 h2 hn;rw[e2];exact⟨t,j,hh,rfl,ok2,hs,hW⟩
  · rw[Zbq rfl]
    exact IC ok h1 h2
theorem FN:∀(d:Nat)(n:Nat)(c:D.l01Cur)(w most:Int),d+10<=n->CurOk c->1<=w->w+2*d<=16->most<=d->Drw c w (5*3^d-2) (Zp n c w most):=by
 intro d
 induction d with
 |zero=>
  intro n c w most hn h h1 h2 hm;obtain⟨n,rfl⟩:∃j,n=j+1:=⟨n-1,by omega⟩;rw[Zp,Zbq (by simp;omega),Zbq rfl];exact(QY h h1 (by omega) (by omega)).le (by omega)
 | succ d ih=>
  intro n c w most hn h h1 h2 hm;obtain⟨n,rfl⟩:∃j,n=j+1:=⟨n-1,by omega⟩;have h3:0<3^d:=Nat.pow_pos (by decide);have hB:5*3^(d+1)-2=3*(5*3^d-2)+4:=by rw[ZcU];omega
  have hB1:3<=5*3^d-2:=by omega
  rw[hB];generalize 5*3^d-2=B at ih hB1⊢;rw[Zp];by_cases c0:most<1
  ·rw[Zbq (by simpa using c0),Zbq rfl];exact(QY h h1 (by omega) (by omega)).le (by omega)
  rw[Zbv (by simpa using c0)];obtain⟨x,i,h',e,ok⟩:=once6 h (n:=6) (by decide);rw[e];simp only[Zbn];cases x
  ·rw [ifn]
   obtain⟨x,i2,h2',e2,x0,x1,ok2⟩:=Wn ok (n:=21) (by decide);rw[e2];simp only[Zbn,Sd];have hx:w64 (1+x)=1+x:=Zb;have hmo:w64 (most-1)=most-1\/True:=.inr trivial;have hm1:w64 (most-1)<=d:=by
    by_cases q:most<=9223372036854775807
    ·rw[Zb];omega
    ·omega
   rw[hx];by_cases c1:14<=1+x/\1+x<=16
   ·rw[Zbq (by simpa using c1)];obtain⟨v,i3,h3',e3,v0,v1,ok3⟩:=Wn ok2 (n:=4) (by decide);rw[e3];have hv:w64 (1+v)=1+v:=Zb;simp only[Zbn,hv];obtain⟨t1,i4,h4',e4,ok4,s4,-⟩:=ih n ⟨c.b,i3,h3'⟩ (1+v) (w64 (most-1)) (by omega) ok3 (by omega) (by omega) hm1;rw[e4];simp only[Zbn];obtain⟨t2,i5,h5',e5,ok5,s5,-⟩:=ih n ⟨c.b,i4,h4'⟩ (1+v) (w64 (most-1)) (by omega) ok4 (by omega) (by omega) hm1;rw[e5];simp only[Zbn];obtain⟨y,i6,h6',e6,ok6⟩:=once6 ok5 (n:=6) (by decide);rw[e6];simp only[Zbn];cases y
    ·rw[ifn];split
     ·exact⟨_,_,_,rfl,ok6,by simp only[XU,Y0,Xi,Zb6,Zcf];omega,rfl⟩
     ·rename_i hw0;have hw0:¬w>1:=by simpa using hw0
      exact⟨_,_,_,rfl,ok6,by simp only[XU,Y0,Xi,Zb6,Zcf];omega,by show(1:Int)=w;omega⟩
    ·rw[Zbq rfl,show get? ([t1,t2]:List D.Term) 0=some t1 from rfl];simp only[Zbn];rw[show set? ([t1,t2]:List D.Term) 1 t1=some [t1,t1]from rfl];simp only[Zbn];split
     ·exact⟨_,_,_,rfl,ok6,by simp only[XU,Y0,Xi,Zb6,Zcf];omega,rfl⟩
     ·rename_i hw0;have hw0:¬w>1:=by simpa using hw0
      exact⟨_,_,_,rfl,ok6,by simp only[XU,Y0,Xi,Zb6,Zcf];omega,by show(1:Int)=w;omega⟩
   rw[Zbv (by simpa using c1)];by_cases c2:3<=1+x/\1+x<=13
   ·rw[Zbq (by simpa using c2)];obtain⟨t1,i4,h4',e4,ok4,s4,-⟩:=ih n ⟨c.b,i2,h2'⟩ w (w64 (most-1)) (by omega) ok2 h1 (by omega) hm1;rw[e4];simp only[Zbn];obtain⟨t2,i5,h5',e5,ok5,s5,-⟩:=ih n ⟨c.b,i4,h4'⟩ w (w64 (most-1)) (by omega) ok4 h1 (by omega) hm1;rw[e5];simp only[Zbn];obtain⟨y,i6,h6',e6,ok6⟩:=once6 ok5 (n:=8) (by decide);rw[e6];simp only[Zbn];cases y
    ·rw[ifn];exact⟨_,_,_,rfl,ok6,by simp only[XU,Y0,Xi,Zb6,Zcf];omega,rfl⟩
    ·rw[Zbq rfl,show get? ([t1,t2]:List D.Term) 0=some t1 from rfl];simp only[Zbn];rw[show set? ([t1,t2]:List D.Term) 1 t1=some [t1,t1]from rfl];exact⟨_,_,_,rfl,ok6,by simp only[XU,Y0,Xi,Zb6,Zcf];omega,rfl⟩
   rw[Zbv (by simpa using c2)];by_cases c3:1+x<=2
   ·rw[Zbq (by simpa using c3)];obtain⟨t1,i4,h4',e4,ok4,s4,-⟩:=ih n ⟨c.b,i2,h2'⟩ w (w64 (most-1)) (by omega) ok2 h1 (by omega) hm1;rw[e4];exact⟨_,_,_,rfl,ok4,by simp only[XU,Y0,Xi,Zb6,Zcf];omega,rfl⟩
   rw[Zbv (by simpa using c3)];by_cases c4:1+x=17
   ·rw[Zbq (by simpa using c4)];obtain⟨t1,i4,h4',e4,ok4,s4,-⟩:=ih n ⟨c.b,i2,h2'⟩ 1 (w64 (most-1)) (by omega) ok2 (by omega) (by omega) hm1;rw[e4];simp only[Zbn];obtain⟨t2,i5,h5',e5,ok5,s5,-⟩:=ih n ⟨c.b,i4,h4'⟩ w (w64 (most-1)) (by omega) ok4 h1 (by omega) hm1;rw[e5];simp only[Zbn];obtain⟨t3,i6,h6',e6,ok6,s6,-⟩:=ih n ⟨c.b,i5,h5'⟩ w (w64 (most-1)) (by omega) ok5 h1 (by omega) hm1;rw[e6];exact⟨_,_,_,rfl,ok6,by simp only[XU,Y0,Xi,Zb6,Zcf];omega,rfl⟩
   rw[Zbv (by simpa using c4)];by_cases c5:1+x=18/\w>1
   ·rw[Zbq (by simpa using c5)];have hw1:w64 (w-1)=w-1:=Zb;rw[hw1];obtain⟨v,i3,h3',e3,v0,v1,ok3⟩:=Wn ok2 (n:=w-1) (by omega);rw[e3];have hv:w64 (1+v)=1+v:=Zb;have hv2:w64 (w-(1+v))=w-(1+v):=Zb;simp only[Zbn,hv,hv2];obtain⟨t1,i4,h4',e4,ok4,s4,-⟩:=ih n ⟨c.b,i3,h3'⟩ (w-(1+v)) (w64 (most-1)) (by omega) ok3 (by omega) (by omega) hm1;rw[e4];simp only[Zbn];obtain⟨t2,i5,h5',e5,ok5,s5,-⟩:=ih n ⟨c.b,i4,h4'⟩ (1+v) (w64 (most-1)) (by omega) ok4 (by omega) (by omega) hm1;rw[e5];exact⟨_,_,_,rfl,ok5,by simp only[XU,Y0,Xi,Zb6,Zcf];omega,rfl⟩
   rw[Zbv (by simpa using c5)];by_cases c6:1+x=19
   ·rw[Zbq (by simpa using c6)];obtain⟨v,i3,h3',e3,v0,v1,ok3⟩:=Wn ok2 (n:=3) (by decide);rw[e3];have hv:w64 (w+v)=w+v:=Zb;have hv2:w64 (w+v-w)=v:=by rw[Zb];omega
    have hv3:w64 (v+1)=v+1:=Zb;simp only[Zbn,hv,hv2,hv3];obtain⟨u,i4,h4',e4,u0,u1,ok4⟩:=Wn ok3 (n:=v+1) (by omega);rw[e4];simp only[Zbn];obtain⟨t1,i5,h5',e5,ok5,s5,-⟩:=ih n ⟨c.b,i4,h4'⟩ (w+v) (w64 (most-1)) (by omega) ok4 (by omega) (by omega) hm1;rw[e5];exact⟨_,_,_,rfl,ok5,by simp only[XU,Y0,Xi,Zb6,Zcf];omega,rfl⟩
   rw[Zbv (by simpa using c6)];by_cases c7:20<=1+x/\1+x<=21
   ·rw[Zbq (by simpa using c7)];obtain⟨v,i3,h3',e3,v0,v1,ok3⟩:=Wn ok2 (n:=w) (by omega);rw[e3];have hv:w64 (1+v)=1+v:=Zb;simp only[Zbn,hv];obtain⟨t1,i5,h5',e5,ok5,s5,-⟩:=ih n ⟨c.b,i3,h3'⟩ (1+v) (w64 (most-1)) (by omega) ok3 (by omega) (by omega) hm1;rw[e5];exact⟨_,_,_,rfl,ok5,by simp only[XU,Y0,Xi,Zb6,Zcf];omega,rfl⟩
   rw[Zbv (by simpa using c7)];obtain⟨t,j,hh,e4,ok4,hs,hW⟩:=Kk ok2 (w:=w) h1 (by omega) (n:=n) (by omega);rw[e4];exact⟨t,j,hh,rfl,ok4,by omega,hW⟩
  ·rw[Zbq rfl];exact(QY ok h1 (by omega) (by omega)).le (by omega)
def NI{fuel:Nat}[FU fuel]{code:List Byt}(hl:code.length<=1048576){m w:Int}(h0:0<=m)(h1:1<=w)(d:Nat)(h2:w+2*d<=16):∃t,XV fuel code m w (d:Int)=some t/\msz t<=5*3^d-2/\t.W=w:=by
 unfold XV;obtain⟨i,h,e,ok⟩:=Dk (fuel:=fuel) hl h0;rw[e];have hf:d+10<=fuel:=by have:=(inferInstance:FU fuel).le;omega
 obtain⟨t,j,hh,e2,-,hs,hW⟩:=FN d fuel ⟨code,i,h⟩ w d hf ok h1 h2 (ZbW _);simp only[Zbn];rw[e2];exact⟨t,rfl,hs,hW⟩
def Ei{fuel:Nat}[FU fuel]{code:List Byt}(hl:code.length<=1048576){m lo hi:Int}(h0:0<=m)(h1:0<=lo)(h2:lo<=hi)(h3:hi<=1000):∃r,WI fuel code m lo hi=some r/\lo<=r/\r<=hi:=by
 unfold WI VV;obtain⟨i,h,e,ok⟩:=Dk (fuel:=fuel) hl h0;rw[e];simp only[Zbn];obtain⟨x,i2,h2',e2,x0,x1,ok2⟩:=Od ok;rw[e2];simp only[Zbn];obtain⟨y,i3,h3',e3,y0,y1,ok3⟩:=Od ok2;rw[e3];simp only[Zbn];rw[Zb (x:=256*x),Zb (x:=256*x+y),Zb (x:=hi-lo),Zb (x:=hi-lo+1)];have hr:rem? (256*x+y) (hi-lo+1)=some ((256*x+y).tmod (hi-lo+1)):=by unfold rem?;rw[ifn]
 rw[hr];have hn0:0<=(256*x+y).tmod (hi-lo+1):=Int.tmod_nonneg _ (by omega);have hn1:(256*x+y).tmod (hi-lo+1)<hi-lo+1:=Int.tmod_lt_of_pos _ (by omega);simp only[Zbn];rw[Zb];exact⟨_,rfl,by omega,by omega⟩
open Cc (vB Yz bi)
theorem Qo{σt ρt:Type}{B:σt->Option (σt⊕ρt)}{I:Nat->σt->Prop}{m:Nat}{R:ρt->Prop}(hs:∀k s,k<m->I k s->(∃s',B s=some (.inl s')/\I (k+1) s')\/∃r,B s=some (.inr r)/\R r)(hf:∀s,I m s->∃r,B s=some (.inr r)/\R r):
  ∀(d k:Nat)(s:σt),k+d=m->I k s->∀n,d<n->∃r,iterN B n s=some r/\R r
 |0,k,s,hk,hi,n,hn=>by
  obtain⟨n,rfl⟩:∃j,n=j+1:=⟨n-1,by omega⟩;obtain rfl:k=m:=by omega
  obtain⟨r,h1,h2⟩:=hf s hi;exact⟨r,by unfold iterN;rw[h1],h2⟩
 | d+1,k,s,hk,hi,n,hn=>by
  obtain⟨n,rfl⟩:∃j,n=j+1:=⟨n-1,by omega⟩;rcases hs k s (by omega) hi with⟨s',h1,h2⟩|⟨r,h1,h2⟩
  ·obtain⟨r,h3,h4⟩:=Qo hs hf d (k+1) s' (by omega) h2 n (by omega);exact⟨r,by unfold iterN;rw[h1];exact h3,h4⟩
  ·exact⟨r,by unfold iterN;rw[h1],h2⟩
def num(l:List D.Value):Nat:=vB (inB l).reverse
def Hz(a b:List D.Value):inB (a++b)=inB a++inB b:=by unfold inB;rw[List.flatMap_append]
def SY(a b:List D.Value):num (a++b)=num a*2^(inB b).length+num b:=by
 unfold num;rw[Hz,Zed,Cc.vB_app,Zdi,Zcl];omega
def Ab(x:D.Value):(inB [x]).reverse=(List.range x.W.toNat).map (bitI x.N):=by
 unfold inB;simp[<-List.map_reverse]
def LU(x:D.Value):(inB [x]).length=x.W.toNat:=by unfold inB;simp
def PP{x:D.Value}(hw:x.W<=16)(h0:0<=x.N)(h1:x.N<2^x.W.toNat):(num [x]:Int)=x.N:=by
 unfold num;rw[Ab];exact Oy (by omega) h0 h1
def EY(l:List D.Value):num l<2^(inB l).length:=by
 have:=Yz (inB l).reverse
 rwa [Zdi]at this
theorem QJ:∀{l l':List D.Value},l.map ky=l'.map ky->(inB l).length=(inB l').length
 |[],[],_=>rfl
 |x::l,y::l',h=>by
  simp only[Zb1,List.cons.injEq,ky,Prod.mk.injEq]at h;rw[Sz,Sz,Zbw,Zbw,QJ h.2];simp[h.1.2]
def BO{l l':List D.Value}(h:l.map ky=l'.map ky)(e:num l=num l'):inB l=inB l':=by
 have h1:=QJ h;have:=Cc.vB_inj (a:=(inB l).reverse) (b:=(inB l').reverse) (by simpa using h1) e;exact List.reverse_inj.1 this
def zN(v:D.Value):D.Value:=⟨v.Name,v.W,0⟩
def ZaH(l:List D.Value):(l.map zN).map ky=l.map ky:=by rw[Zc2];rfl
theorem Ch:∀l:List D.Value,(∀v∈l,1<=v.W/\v.W<=16)->num (l.map zN)=0
 |[],_=>by simp[num,inB,vB]
 |v::l,h=>by
  have hv:=h v (by simp);have ih:=Ch l λx hx=>h x (by simp[hx]);have hp:=Zc5 v.W.toNat;rw[Zb1,show zN v::l.map zN=[zN v]++l.map zN from rfl,SY,ih];have:=PP (x:=zN v) hv.2 (ZbW _) (by show(0:Int)<2^v.W.toNat;rw[cpow];omega);have:num [zN v]=0:=by have h0:(zN v).N=0:=rfl;omega
  rw[this];simp
def mx(v:D.Value):Prop:=v.N=2^v.W.toNat-1
theorem JY:∀l:List D.Value,(∀v∈l,(1<=v.W/\v.W<=16)/\mx v)->num l+1=2^(inB l).length
 |[],_=>rfl
 |v::l,h=>by
  obtain⟨hv,hm⟩:=h v (by simp);have ih:=JY l λx hx=>h x (by simp[hx]);have hp:=Zc5 v.W.toNat;unfold mx at hm;rw[cpow]at hm;have h1:=PP (x:=v) hv.2 (by omega) (by rw[cpow];omega);rw[show v::l=[v]++l from rfl,SY,Hz,Zbw,LU,ZdC];have h2:num [v]+1=2^v.W.toNat:=by omega
  rw[<-h2,Zdv,ZdA,<-ih];omega
def Vls.len{L l:List D.Value}(h:Vls L l):l.length=L.length:=by
 have:=congrArg List.length h.ky
 rwa [ZbK,ZbK]at this
def Vls.wid{L l:List D.Value}(h:Vls L l)(hw:∀v∈L,1<=v.W/\v.W<=16):∀v∈l,1<=v.W/\v.W<=16:=λv hv=>by
 obtain⟨z,hz,-,z2⟩:=JZ h.ky hv;have:=hw z hz;omega
def AQ {L l:List D.Value}(h:Vls L l)(hw:∀v∈L,1<=v.W/\v.W<=16)(h30:L.length<=1000):∃b l',Wx fuel l=some (b,l')/\(b=true->Vls L l'/\num l'=num l+1)/\(b=false->num l+1=2^(inB l).length):=by
  have hll:=h.len;have hwl:=h.wid hw;unfold Wx
  obtain ⟨r,g1,g2⟩:=Qo (B:=λ(s1:Int×(List D.Value))=>if(decide (s1.1>=0))then(get? s1.2 s1.1).bind λx1=>(get? s1.2 s1.1).bind λx2=>(shl? 1 x2.W).bind λx3=>if(decide (x1.N<(w64 (x3-1))))then(get? s1.2 s1.1).bind λx4=>(get? s1.2 s1.1).bind λx5=>(set? s1.2 s1.1 ({x5 with N:=(w64 (x4.N+1))}:D.Value)).bind λx6=>some (.inr (.inr (true,x6)))else(get? s1.2 s1.1).bind λx7=>(set? s1.2 s1.1 ({x7 with N:=0}:D.Value)).bind λx8=>some (.inl ((w64 (s1.1-1)),x8))else some (.inr (.inl (s1.2))))
    (I:=λk s=>s=((l.length:Int)-1-(k:Int),l.take (l.length-k)++(l.drop (l.length-k)).map zN)/\∀v∈l.drop (l.length-k),mx v) (m:=l.length)
    (R:=λ(r:List D.Value⊕(Bool×List D.Value))=>(∃l',r= .inr (true,l')/\Vls L l'/\num l'=num l+1)\/∃l',r= .inl l'/\num l+1=2^(inB l).length)
    (λk s hk⟨hs,hm⟩=>by
      subst hs;generalize hj:l.length-k-1=j at*;have hjl:j<l.length:=by omega
      have ej:l.length-k=j+1:=by omega
      rw[ej]at hm⊢;have hsp:l.take (j+1)++(l.drop (j+1)).map zN=l.take j++(l[j]::(l.drop (j+1)).map zN):=by
        rw[Zby hjl,ZbI];rfl
      have hspl:l=l.take j++([l[j]]++l.drop (j+1)):=by
        have:=(Zcw j l).symm
        rwa [ZbT hjl]at this
      have hd:(l.length:Int)-1-(k:Int)=(j:Int):=by omega
      have hx:l[j]∈l:=ZbJ hjl;have hxw:=hwl _ hx;have hxn:=h.word _ hx;obtain⟨a1,_,a3,_,a5⟩:=SN hxw.1 hxw.2;have htl:(l.take j).length=j:=by rw[Zb2];omega
      have hget:get? (l.take j++(l[j]::(l.drop (j+1)).map zN)) (j:Int)=some l[j]:=by
        rw[get?_nat,ZbB (by omega),htl,ZcG];rfl
      have hset:∀y:D.Value,set? (l.take j++(l[j]::(l.drop (j+1)).map zN)) (j:Int) y=some (l.take j++(y::(l.drop (j+1)).map zN)):=λy=>by
        have hln:j<(l.take j++(l[j]::(l.drop (j+1)).map zN)).length:=by simp;omega
        unfold set?;rw[Zbq ⟨by omega,by omega⟩,ZbE,ZcD _ _ (by omega),htl,ZcG];rfl
      simp only;rw[hd,hsp,ifp,hget];simp only[Zbn,a1];rw[a3];have hpost:num (l.drop (j+1))+1=2^(inB (l.drop (j+1))).length:=JY _ λv hv=>⟨hwl v (Zco hv),hm v hv⟩;have hzl:(inB ((l.drop (j+1)).map zN)).length=(inB (l.drop (j+1))).length:=QJ (ZaH _);have hz0:num ((l.drop (j+1)).map zN)=0:=Ch _ λv hv=>hwl v (Zco hv);have hnl:num l=(num (l.take j)*2^l[j].W.toNat+num [l[j]])*2^(inB (l.drop (j+1))).length+num (l.drop (j+1)):=by
        conv=>lhs;rw[hspl]
        rw[<-ZbI,SY,SY,LU]
      have h1:=PP (x:=l[j]) hxw.2 hxn.1 hxn.2;by_cases c:l[j].N<2^l[j].W.toNat-1
      · refine .inr ⟨_,by rw[Zbq (by simpa using c),hset];rfl,.inl ⟨_,rfl,⟨?_, ?_⟩, ?_⟩⟩
        · rw[<-h.ky]
          conv=>rhs;rw[hspl]
          simp only[Zce,Zb1,Zch,ZaH];rfl
        · intro y hy
          rcases Zb7.1 hy with hy|hy
          · exact h.word y (Zc8 hy)
          rcases ZbN.1 hy with rfl|hy
          · simp only
            rw[Zb];omega
          · obtain⟨z,hz,rfl⟩:=ZcB.1 hy
            have hzw:=hwl z (Zco hz);exact⟨ZbW _,by show(0:Int)<2^z.W.toNat;rw[cpow];have:=Zc5 z.W.toNat;omega⟩
        · rw[show l.take j++((⟨l[j].Name,l[j].W,w64 (l[j].N+1)⟩:D.Value)::(l.drop (j+1)).map zN)=(l.take j++[(⟨l[j].Name,l[j].W,w64 (l[j].N+1)⟩:D.Value)])++(l.drop (j+1)).map zN by simp,SY,SY,hz0,hzl,LU,hnl]
          have h2:=PP (x:=(⟨l[j].Name,l[j].W,w64 (l[j].N+1)⟩:D.Value)) hxw.2 (by simp only;rw[Zb];omega) (by simp only;rw[Zb];omega);simp only at h2⊢;rw[Zb]at h2⊢;have h3:num [(⟨l[j].Name,l[j].W,l[j].N+1⟩:D.Value)]=num [l[j]]+1:=by omega
          rw[h3,<-hpost,<-Zex,Zdv _ 1];omega
      · refine .inl ⟨_,by rw[Zbv (by simpa using c),hset];rfl, ?_, ?_⟩
        · skip
          rw[Zb,ZbT hjl,Zb1,show(j:Int)-1=(l.length:Int)-1-((k+1:Nat):Int) by omega];rfl
        · skip
          rw[ZbT hjl];intro v hv;rcases ZbN.1 hv with rfl|hv
          · unfold mx;omega
          · exact hm v hv)
    (λs⟨hs,hm⟩=>by
      subst hs;simp only;rw[Zbv (by simp;omega)];rw[ZcG,ZcT]at hm
      exact⟨_,rfl,.inr ⟨_,rfl,JY l λv hv=>⟨hwl v hv,hm v hv⟩⟩⟩) l.length 0 (w64 (len l-1),l) (by omega) ⟨by rw[Za,Zb];simp,by simp⟩ fuel lt_fuel
  rw[g1];rcases g2 with⟨l',rfl,h1,h2⟩|⟨l',rfl,h1⟩
  · exact⟨true,l',rfl,λ_=>⟨h1,h2⟩,λh=>(by cases h)⟩
  · exact⟨false,l',rfl,λh=>(by cases h),λ_=>h1⟩
def val(t:D.Term)(l:List D.Value):Int:=((Y4 fuel t l).getD (0,false)).1
structure TblOk(t:D.Term)(L:List D.Value)(T:List Int):Prop where
 len:T.length=2^(inB L).length
 get:∀i,i<T.length->∃l,Vls L l/\num l=i/\T[i]? =some (val t l)
def Iq{t:D.Term}(h:termB t=true):cnt t<=240/\nodeB t=true:=by
 unfold termB at h;simp only[Zbt,Zb8]at h;exact h.1
def Ig{t:D.Term}{L l:List D.Value}(ht:termB t=true)(hL:VL t L)(hw:∀v∈L,1<=v.W/\v.W<=16)(h30:L.length<=30)(h:Vls L l){E:List Bool}(hE:[true]++inB l<+:E):Y4 fuel t l=some (val t l,true)/\val t l=(vB (tB L E t):Int):=by
 obtain⟨hc,hn⟩:=Iq ht;have e:=(Ga (vs:=L) (l:=l) (E:=E) (by rw[h.len];exact h30) (cnt t) t (Zb0 _) hn (Zah hL hw h hE) fuel (by unfold fuel;omega)).1;have hv:val t l=(vB (tB L E t):Int):=by unfold val;rw[e];rfl
 exact⟨by rw[hv];exact e,hv⟩
def CE(L:List D.Value):Vls L (L.map zN):=⟨ZaH L,λx hx=>by
 obtain⟨v,hv,rfl⟩:=ZcB.1 hx
 exact⟨ZbW _,by show(0:Int)<2^v.W.toNat;rw[cpow];have:=Zc5 v.W.toNat;omega⟩⟩
theorem Da{t:D.Term}(hs:msz t<=1048576)(ht:termB t=true){L:List D.Value}(e:ZP fuel t=some L)(hL:VL t L)(hw:∀v∈L,1<=v.W/\v.W<=16)(h1000:L.length<=1000)(hz:∀v∈L,v.N=0):∃T,YR fuel t=some T/\((bitsV L 0>10/\T=[])\/bitsV L 0<=10/\L.length<=10/\TblOk t L T):=by
  unfold YR;rw[e,XX hs,ht];simp only[Zbn,Zb4,Zbp,Zbx,ZbL];rw[Mv h1000 hw];simp only[Zbn];by_cases c:bitsV L 0>10
  · rw[Zbq (by simpa using c)]
    exact⟨[],rfl,.inl ⟨c,rfl⟩⟩
  rw[Zbv (by simpa using c)];have h10:L.length<=10:=by
    have:∀(M:List D.Value)(a:Int),(∀v∈M,1<=v.W/\v.W<=16)->a+(M.length:Int)<=bitsV M a:=by
      intro M
      induction M with
      |nil=>intro a _;simp[bitsV]
      | cons v M ih=>
        intro a hM;have:=ih (a+v.W) (λy hy=>hM y (by simp[hy]));have:=(hM v (by simp)).1;rw[Tk,Zb6];omega
    have:=this L 0 hw;omega
  have hil:=Oc (L:=L) (l:=L) rfl hw;have hnb:(inB L).length<=10:=by omega
  have hpw:2^(inB L).length<=2^10:=Zck (by decide) hnb;have hpp:=Zc5 (inB L).length;have hLz:L=L.map zN:=by
    conv=>lhs;rw[<-List.map_id L]
    refine Zcz λv hv=>?_;have:=hz v hv;cases v;simp only at this;subst this;rfl
  have hL0:Vls L L:=by
    have:=CE L
    rwa [<-hLz]at this
  have hn0:num L=0:=by
    have:=Ch L hw
    rwa [<-hLz]at this
  obtain ⟨r,g1,g2⟩:=Qo (B:=λ(s1:(List D.Value)×(List Int))=>(Y4 fuel t s1.1).bind λx4=>(app? s1.2 ([x4.1]:List Int)).bind λx5=>(Wx fuel s1.1).bind λx6=>if(!x6.1)then some (.inr (.inr x5))else some (.inl (x6.2,x5)))
    (I:=λk s=>Vls L s.1/\num s.1=k/\s.2.length=k/\∀i,i<k->∃l,Vls L l/\num l=i/\s.2[i]? =some (val t l)) (m:=2^(inB L).length)
    (R:=λ(r:((List Int)×(List D.Value)×(List Int))⊕(List Int))=>∃T,r= .inr T/\TblOk t L T)
    (λk s hk⟨h1,h2,h3,h4⟩=>by
      obtain⟨l,out⟩:=s;simp only at h1 h2 h3 h4⊢;rw[(Ig ht hL hw (by omega) h1 (Ze5 _)).1];simp only[Zbn];rw[Ho (by simp;omega)];obtain⟨b,l',e6,t1,t2⟩:=AQ h1 hw h1000;simp only[Zbn];rw[e6];have hget':∀i,i<k+1->∃l2,Vls L l2/\num l2=i/\(out++[val t l])[i]? =some (val t l2):=by
        intro i hi;by_cases ci:i<k
        · obtain⟨l2,q1,q2,q3⟩:=h4 i ci
          exact⟨l2,q1,q2,by rw[ZbH (by omega)];exact q3⟩
        · have:i=k:=by omega
          subst this;exact⟨l,h1,h2,by rw[ZbB (by omega),h3,ZcG];rfl⟩
      cases b
      · have hlast:=t2 rfl
        rw[h2,QJ h1.ky]at hlast;refine .inr ⟨_,rfl,_,rfl,⟨by simp[h3,hlast],λi hi=>hget' i (by simp[h3]at hi;omega)⟩⟩
      · obtain⟨q1,q2⟩:=t1 rfl
        exact .inl ⟨_,rfl,q1,by simp only;rw[q2,h2],by simp[h3],hget'⟩)
    (λs⟨h1,h2,h3,h4⟩=>by
      have:=EY s.1;rw[QJ h1.ky]at this
      omega) (2^(inB L).length) 0 (L,[]) (by omega) ⟨hL0,hn0,rfl,λi hi=>by omega⟩ fuel lt_fuel
  rw[g1];obtain⟨T,rfl,hT⟩:=g2;exact⟨T,rfl,.inr ⟨by omega,h10,hT⟩⟩
open Cc (BS LS CircP Grow litN lines litN_iff litV ev vB Yz bi)
def PH(w:List Bool)(x:Int):litV w x=Sv.tr (Sv.vm w) x:=by
 have ia:Cc.iab x=(x.natAbs:Int):=by unfold Cc.iab;split<;>omega
 unfold litV Sv.tr Sv.vm;rw[ia,Zbr,show((x.natAbs:Int)-1).toNat=x.natAbs-1 by omega]
theorem OY:∀(gs:List D.Gate)(w:List Bool),gs.foldl Cc.stepV w=Sv.evalG gs w
 |[],_=>rfl
 |g::gs,w=>by rw[Zcx,Sv.evalG,OY gs];unfold Cc.stepV;rw[PH,PH]
def Zba(c:D.Circuit)(v:List Bool):ev c v=Sv.evalG c.Gates (true::v):=by
 unfold ev Cc.outV';rw[Zc0,OY];rfl
theorem HZ:∀(l:List Bool),l.length<=16->wrd l.reverse=(vB l:Int)
 |[],_=>rfl
 |b::l,h=>by
  rw[Zb6]at h;have hv:=Yz l;have hp:=(p16 (w:=l.length) (by omega)).1;have hb:bit b=(bi b:Int):=by cases b<;>rfl
  have hb1:=Cc.bi_le b;rw[List.reverse_cons,Cm,HZ l (by omega),hb,vB,X4 (a:=2*(vB l:Int)) (by omega) (by omega),X4];omega
def Au(l:List Bool)(h:l.length<=16):wrd l=(vB l.reverse:Int):=by
 have:=HZ l.reverse (by simpa using h)
 rwa [List.reverse_reverse]at this
def Fq{m:List Bool}{w:Nat}(h:m.length=w)(hw:w<=16):(List.range w).map (bitI (vB m:Int))=m:=by
 have hv:=Yz m;rw[h]at hv;have hp:=(p16 hw).1;refine Zd8 (by simp[h]) λi h1 h2=>?_;simp only[Zdw,ZdL];rw[Kb (by omega) i (by omega),VS,Zbr,Zbo h2];rfl
theorem GI{w:List Bool}:∀(L:List D.Value)(off:Nat),(∀v∈L,1<=v.W/\v.W<=16)->off+wsum L<=w.length->Vls L (valsP w off L)/\inB (valsP w off L)=(w.drop off).take (wsum L)
 |[],off,_,_=>⟨⟨rfl,λx hx=>by cases hx⟩,by simp[valsP,inB,wsum]⟩
 | v::L,off,hw,hl=>by
  have hv:=hw v (by simp);have hs:wsum (v::L)=v.W.toNat+wsum L:=by unfold wsum;rw[Zb1,List.sum_cons]
  rw[hs]at hl⊢;obtain⟨h1,h2⟩:=GI (w:=w) L (off+v.W.toNat) (λx hx=>hw x (by simp[hx])) (by omega);have hbl:((w.drop off).take v.W.toNat).length=v.W.toNat:=by rw[Zb2,ZbD];omega
  have hn:=Au ((w.drop off).take v.W.toNat) (by omega);have hlt:=Yz ((w.drop off).take v.W.toNat).reverse;rw[Zdi,hbl]at hlt;refine⟨⟨?_,λx hx=>?_⟩,?_⟩
  ·rw[valsP,Zb1,Zb1,h1.ky];rfl
  ·rw[valsP]at hx;rcases ZbN.1 hx with rfl|hx
   ·simp only;rw[hn,cpow];omega
   ·exact h1.word x hx
  ·rw[valsP,Sz,h2];simp only;have e:(List.range v.W.toNat).reverse.map (bitI (wrd ((w.drop off).take v.W.toNat)))=(w.drop off).take v.W.toNat:=by
    rw[List.map_reverse,hn,Fq (by rw[Zdi,hbl]) (by omega),List.reverse_reverse]
   rw[e,<-ZeM,List.take_add]
def Hq{m:Nat}{M M':Nat->Bool}(h:∀i,1<=i->i<=m->M i=M' i){x:Int}(hx:Sv.isL m x):Sv.tr M x=Sv.tr M' x:=by
 unfold Sv.tr;rw[h x.natAbs (by have:=hx.1;omega) hx.2]
def Dl{m:Nat}{M M':Nat->Bool}{cs:List (List Int)}(hcs:∀c∈cs,Sv.ClM m c)(h:∀i,1<=i->i<=m->M i=M' i)(hM:Sv.Sat M cs):Sv.Sat M' cs:=λc hc=>by
 obtain⟨x,hx,ht⟩:=hM c hc;exact⟨x,hx,by rw[<-Hq h ((hcs c hc).lit x hx)];exact ht⟩
def KF{m:Nat}(M:Nat->Bool):Sv.Ext m M (List.replicate (m+1) 0):=λx _ h=>by
 have:∀k,(List.replicate (m+1) (0:Int)).getD k 0=0:=λk=>by
  rw[Zbr,ZcM];split<;>rfl
 unfold Sv.lv at h;rw[this]at h;split at h<;>omega
def CK{L l:List D.Value}(h:l.map ky=L.map ky)(hw:∀v∈L,1<=v.W/\v.W<=16):(inB l).length=wsum L:=by
 have h1:=Oc h hw;have h2:=SX L 0 hw;omega
theorem Mo{σt ρt:Type}{B:σt->Option (σt⊕ρt)}{I:σt->Prop}{R:ρt->Prop}(h:∀s q,I s->B s=some q->(∀s',q= .inl s'->I s')/\∀r,q= .inr r->R r):∀(n:Nat)(s:σt)(r:ρt),I s->iterN B n s=some r->R r
 |0,_,_,_,e=>by cases e
 | n+1,s,r,hi,e=>by
  unfold iterN at e;cases hb:B s with
  |none=>rw[hb]at e;cases e
  |some q=>
   rw[hb]at e;obtain⟨h1,h2⟩:=h s q hi hb;cases q with
   |inl s'=>exact Mo h n s' r (h1 s' rfl) e
   |inr r'=>exact h2 r (by simpa using e)
def Z0(l:List D.Value):Prop:=∀v∈l,v.N=0
def Gl{l r:List D.Value}{a b:Int}(h:cut? l a b=some r):∀v∈r,v∈l:=λv hv=>by
 unfold cut? at h;split at h
 ·rw[<-Option.some.inj h]at hv;exact Zc8 (Zco hv)
 ·cases h
def Io{U:Type}{l m r:List U}(h:app? l m=some r):r=l++m:=by
 unfold app? at h;split at h
 ·exact(Option.some.inj h).symm
 ·cases h
theorem NR:∀(n:Nat)(t:D.Term)(l:List D.Value)(r:List D.Value×Bool),Yt n t l=some r->Z0 l->Z0 r.1
 |0,_,_,_,h,_=>by rw[Yt]at h;cases h
 | n +1,t,l,r,h,hl=>by
  rw[Yt]at h;split at h
  ·obtain⟨k,-,h⟩:=ZbG.1 h;obtain⟨x2,-,h⟩:=ZbG.1 h;split at h
   ·obtain⟨x3,-,h⟩:=ZbG.1 h;rw[<-Option.some.inj h];exact hl
   ·obtain⟨x4,h4,h⟩:=ZbG.1 h;obtain⟨x5,h5,h⟩:=ZbG.1 h;obtain⟨x6,h6,h⟩:=ZbG.1 h;obtain⟨x7,h7,h⟩:=ZbG.1 h;obtain⟨x8,h8,h⟩:=ZbG.1 h;rw[<-Option.some.inj h,Io h8,Io h6,Io h5];intro v hv;simp only[Zds,Zb7,Zb3]at hv;rcases hv with(hv|rfl)|hv
    ·exact hl v (Gl h4 v hv)
    ·rfl
    ·exact hl v (Gl h7 v hv)
  ·obtain⟨q,hq,h⟩:=ZbG.1 h
   have:=Mo (I:=λs=>Z0 s.2) (R:=λq:List D.Value⊕(List D.Value×Bool)=>match q with|.inl l=>Z0 l|.inr p=>Z0 p.1) (λs q hs hB=>by
    split at hB
    ·obtain⟨x9,h9,hB⟩:=ZbG.1 hB;obtain⟨x10,h10,hB⟩:=ZbG.1 hB;split at hB
     ·rw[<-Option.some.inj hB];exact⟨λs' h=>(by cases h),λr h=>by rw[<-Sum.inr.inj h];exact λv hv=>(by cases hv)⟩
     ·rw[<-Option.some.inj hB];exact⟨λs' h=>by rw[<-Sum.inl.inj h];exact NR n x9 s.2 x10 h10 hs,λr h=>(by cases h)⟩
    ·rw[<-Option.some.inj hB]
     exact⟨λs' h=>(by cases h),λr h=>by rw[<-Sum.inr.inj h];exact hs⟩) n (0,l) q hl hq
   cases q with
   |inl s=>rw[<-Option.some.inj h];exact this
   |inr v=>rw[<-Option.some.inj h];exact this
def AO{t:D.Term}{L:List D.Value}(h:ZP fuel t=some L):∀v∈L,v.N=0:=by
 unfold ZP at h;obtain⟨b,-,h⟩:=ZbG.1 h;split at h
 ·rw[<-Option.some.inj h];intro v hv;cases hv
 ·obtain⟨x,hx,h⟩:=ZbG.1 h;rw[<-Option.some.inj h];exact NR fuel t [] x hx λv hv=>(by cases hv)
def Bu{t:D.Term}{L l l':List D.Value}(ht:termB t=true)(hL:VL t L)(hw:∀v∈L,1<=v.W/\v.W<=16)(h30:L.length<=30)(h:Vls L l)(h':Vls L l')(e:inB l=inB l'):val t l=val t l':=by
 rw[(Ig ht hL hw h30 h (Ze5 _)).2,(Ig ht hL hw h30 h' (E:=[true]++inB l) (by rw[e];exact Ze5 _)).2]
section
variable{t:D.Term}(ht:termB t=true)(hw1:t.W=1)
include ht hw1
end
def BA{t:D.Term}(h:nodeB t=true):t.Name.bytes.length<=8:=by
 by_cases ho:t.Op=22
 ·exact(Ot h ho).1
 ·obtain⟨op,w,m,nm,ks⟩:=t;obtain⟨-,hs⟩:=Y6 h;have hne:¬op=22:=ho;show nm.bytes.length<=8;have:nm=⟨[]⟩:=by
   rcases hs with⟨_,_,e,_⟩|⟨e,_⟩|⟨_,_,e,_⟩|⟨_,_,_,e,_⟩|⟨_,_,e,_⟩|⟨_,_,e,_⟩|⟨_,e,_⟩|⟨_,_,e,_⟩
   ·exact e
   ·exact absurd e hne
   all_goals exact e
  rw[this];simp
theorem DX:∀(n:Nat)(t:D.Term),cnt t<=n->nodeB t=true->msz t+1<=10*cnt t:=by
 intro n
 induction n with
 |zero=>intro t h;have:=X8 t;omega
 | succ n ih=>
  intro t h hb;have hl:∀l:List D.Term,(∀x∈l,nodeB x=true)->cnts l<=n->l.length+mszs l<=10*cnts l:=λl=>by
   induction l with
   |nil=>intro _ _;simp[Xi]
   |cons x l ihl=>
    intro hx hc;rw[UV]at hc⊢;rw[Y0,Zb6];have:=ihl (λy hy=>hx y (by simp[hy])) (by omega);have:=ih x (by omega) (hx x (by simp));omega
  have h1:=X8 t;have h2:=hl t.Kids (nodeK hb) (by omega);have h3:=BA hb;have h4:=UH t;omega
end Go.Proofs.YtikabgjjcifidaaGreat
end
section
namespace Go.Proofs.YtikabgjjcifidaaGreat.Sv
open Go.GL
set_option maxRecDepth 100000
section
variable{f:D.Formula}{m:Nat}{occ:List (List Int)}{limit:Int}
def DL(hf:FmP f m)(ho:OccP f m occ){n:Nat}(hn:4000000<=n){v q:List Int}(hA:Asg m v)(hq:∀y∈q,isL m y/\lv v y=1)(hlen:q.length+zer v<=1000):
    ∃a' b,(iterN (λ(s2:Int×(List Int)×(List Int))=>if(decide (s2.1<(len f.Clauses)))then(get? f.Clauses s2.1).bind λx4=>(Zn n (D.assignment.mk s2.2.1 s2.2.2) x4).bind λx5=>if(!x5.1)then some (.inr (.inr ((default:D.assignment),false)))else some (.inl ((w64 (s2.1+1)),x5.2.val,x5.2.queue))else some (.inr (.inl (s2.2.1,s2.2.2)))) n (0,v,q)).bind (λ(rl2:((List Int)×(List Int))⊕(D.assignment×Bool))=>match rl2 with|.inl s2r=>(ZM n ⟨f,occ⟩ (D.assignment.mk s2r.1 s2r.2)).bind λx6=>if(!x6.1)then some (default,false)else some (x6.2,true)|.inr v=>some v)=some (a',b)/\((b=true/\a'.queue=[]/\clo m f.Clauses v=some a'.val)\/(b=false/\clo m f.Clauses v=none)):=by
  have hm:=hf.small;have hnum:=hf.num;have hw:Wq m f.Clauses (Sv m v) v q:=⟨RN hA,hq,hlen⟩
  obtain ⟨r,g1,g2⟩:=Yn (l:=f.Clauses) (n:=n) (Z:=List Int×List Int) (ρ:=((List Int)×(List Int))⊕(D.assignment×Bool)) (B:=λ(s2:Int×(List Int)×(List Int))=>if(decide (s2.1<(len f.Clauses)))then(get? f.Clauses s2.1).bind λx4=>(Zn n (D.assignment.mk s2.2.1 s2.2.2) x4).bind λx5=>if(!x5.1)then some (.inr (.inr (default,false)))else some (.inl ((w64 (s2.1+1)),x5.2.val,x5.2.queue))else some (.inr (.inl (s2.2.1,s2.2.2)))) (λj z=>((j:Int),z.1,z.2))
    (λys z=>Wq m f.Clauses (Sv m v) z.1 z.2/\∀d∈f.Clauses,d∈ys\/good z.1 d\/pend z.1 z.2 d)
    (λr=>(∃z,r= .inl z/\Wq m f.Clauses (Sv m v) z.1 z.2/\∀d∈f.Clauses,good z.1 d\/pend z.1 z.2 d)\/r= .inr (default,false)/\Bad f.Clauses (Sv m v))
    (λj c ys z hj hx hl⟨i1,i2⟩=>by
      have hd:decide ((j:Int)<len f.Clauses)=true:=by rw[Za];exact decide_eq_true (by omega)
      have hk1:w64 ((j:Int)+1)=((j+1:Nat):Int):=by rw[Zb];rfl
      simp only[hd,Zb5,get?_nat,hx,Zbn]
      rcases NK hf Ov i1 (Zbz hx) (λd=>d∈ys\/d=c) (λd hd'=>by
        rcases i2 d hd' with h|h|h
        · rcases ZbN.1 h with h|h
          · exact .inl (.inr h)
          · exact .inl (.inl h)
        · exact .inr (.inl h)
        · exact .inr (.inr h)) (n:=n) (by omega)with⟨h1,h2⟩|⟨a',q',h1,h2,h3,h4,h5⟩
      · rw[h1]
        exact .inr ⟨_,rfl,.inr ⟨rfl,h2⟩⟩
      · rw[h1]
        refine .inl ⟨(a',q'),by simp only[Zbn,hk1];rfl,h2,λd hd'=>?_⟩;rcases h5 d hd' with(h|h)|h|h
        · exact .inl h
        · exact .inr (.inl (h▸h4))
        · exact .inr (.inl h)
        · exact .inr (.inr h))
    (λz⟨i1,i2⟩=>by
      have hd:decide ((f.Clauses.length:Int)<len f.Clauses)=false:=by rw[Za];simp
      simp only[hd,Zbp,Zbx];refine⟨_,rfl,.inl ⟨z,rfl,i1,λd hd'=>?_⟩⟩;rcases i2 d hd' with h|h
      · cases h
      · exact h) (a:=(v,q)) ⟨hw,λd hd=>.inl hd⟩ (by omega)
  rw[show((0:Nat):Int)=0 from rfl]at g1;have G:∀z,r=z->(iterN (λ(s2:Int×(List Int)×(List Int))=>if(decide (s2.1<(len f.Clauses)))then(get? f.Clauses s2.1).bind λx4=>(Zn n (D.assignment.mk s2.2.1 s2.2.2) x4).bind λx5=>if(!x5.1)then some (.inr (.inr ((default:D.assignment),false)))else some (.inl ((w64 (s2.1+1)),x5.2.val,x5.2.queue))else some (.inr (.inl (s2.2.1,s2.2.2)))) n (0,v,q)).bind (λ(rl2:((List Int)×(List Int))⊕(D.assignment×Bool))=>match rl2 with|.inl s2r=>(ZM n ⟨f,occ⟩ (D.assignment.mk s2r.1 s2r.2)).bind λx6=>if(!x6.1)then some (default,false)else some (x6.2,true)|.inr v=>some v)=(match z with|.inl s2r=>(ZM n ⟨f,occ⟩ (D.assignment.mk s2r.1 s2r.2)).bind λx6=>if(!x6.1)then some (default,false)else some (x6.2,true)|.inr v=>some v):=λz e=>by
    subst e;exact congrArg (λo=>Option.bind o (λ(rl2:((List Int)×(List Int))⊕(D.assignment×Bool))=>match rl2 with|.inl s2r=>(ZM n ⟨f,occ⟩ (D.assignment.mk s2r.1 s2r.2)).bind λx6=>if(!x6.1)then some (default,false)else some (x6.2,true)|.inr v=>some v)) g1
  rcases g2 with⟨z,e,h1,h2⟩|⟨e,h⟩
  · obtain⟨b,a',k1,k2⟩:=Ji hf Ov ho hn h1 h2
    have G:=G _ e;simp only at G;rw[k1]at G;rcases k2 with⟨rfl,k3,k4⟩|⟨rfl,k3⟩
    · exact⟨a',true,G,.inl ⟨rfl,k3,Lh hf.cls k4⟩⟩
    · exact⟨default,false,G,.inr ⟨rfl,PN hf.cls k3⟩⟩
  · exact⟨default,false,G _ e,.inr ⟨rfl,PN hf.cls h⟩⟩
def setL(a:List Int):List Int->Option (List Int)
 |[]=>some a
 |l::ls=>if lv a l=-1 then none else setL (if lv a l=1 then a else stA a l) ls
def CQ{a:List Int}{l:Int}(hA:Asg m a)(hl:isL m l)(h:lv a l=1):stA a l=a:=by
 have h1:=hA.len;have h2:=hl.2;have hi:l.natAbs<a.length:=by omega
 unfold stA;have e:a[l.natAbs]=if l<0 then-1 else 1:=by
  have h3:=WL hi;rw[Zbo hi]at h3;have h4:=Option.some.inj h3;unfold lv at h;rw[h4];split at h<;>rename_i h5
  ·rw[Zbq h5];omega
  ·rw[Zbv h5];omega
 rw[<-e,List.set_getElem_self]
theorem FE (hm:m<=400){lits:List Int}(hl:∀x∈lits,isL m x)(hn:lits.length<=1000):∀(rest pre a q:List Int)(n:Nat),pre++rest=lits->Asg m a->(∀y∈q,isL m y/\lv a y=1)->q.length+zer a<=1000->rest.length<n->
    ∃r:((List Int)×(List Int))⊕(D.assignment×Bool),iterN (λ(s1:Int×(List Int)×(List Int))=>if(decide (s1.1<(len lits)))then(get? lits s1.1).bind λx2=>(Z6 (D.assignment.mk s1.2.1 s1.2.2) x2).bind λx3=>if(!x3.1)then some (.inr (.inr (default,false)))else some (.inl ((w64 (s1.1+1)),x3.2.val,x3.2.queue))else some (.inr (.inl (s1.2.1,s1.2.2)))) n ((pre.length:Int),a,q)=some r/\((∃v q',setL a rest=some v/\r= .inl (v,q')/\Asg m v/\(∀y∈q',isL m y/\lv v y=1)/\q'.length+zer v<=1000)\/(setL a rest=none/\r= .inr (default,false))):=by
  intro rest
  induction rest with
  | nil=>
    intro pre a q n he hA hq hlen hk;have hd:decide ((pre.length:Int)<len lits)=false:=by rw[Za,<-he,Zcg];simp
    refine⟨.inl (a,q),ZI (by simp only[hd,Zbp,Zbx]) (by omega),.inl ⟨a,q,rfl,rfl,hA,hq,hlen⟩⟩
  | cons l rest ih=>
    intro pre a q n he hA hq hlen hk;simp only[Zb6]at hk;obtain⟨n,rfl⟩:∃j,n=j+1:=⟨n-1,by omega⟩;have hll:pre.length+(rest.length+1)=lits.length:=by rw[<-he];simp
    have hd:decide ((pre.length:Int)<len lits)=true:=by rw[Za];exact decide_eq_true (by omega)
    have hx:lits[pre.length]? =some l:=by rw[<-he];simp
    have hL:=hl l (by rw[<-he];simp);have e1:w64 ((pre.length:Int)+1)=((pre++[l]).length:Int):=by rw[Zb];simp
    have he':(pre++[l])++rest=lits:=by rw[ZbI];exact he
    by_cases h0:lv a l=0
    · have hz:=UB hA hL h0
      have hA1:=asg_set hA hL
      obtain⟨r,g1,g2⟩:=ih (pre++[l]) (stA a l) (q++[l]) n he' hA1 (λy hy=>by
        rcases Zb7.1 hy with hy|hy
        · have h:=hq y hy
          exact⟨h.1,by rw[lv_mono hA hL h0 h.1.1 (by rw[h.2];decide)];exact h.2⟩
        · rw[Zb3.1 hy]
          exact⟨hL,by rw[lv_set hA.len hL hL.1,Zbq rfl]⟩) (by rw[Zbw,Zcb];omega) (by omega)
      refine⟨r,?_,?_⟩
      · rw[Wm (s':=(((pre++[l]).length:Int),stA a l,q++[l])) (by
          simp only[hd,Zb5,get?_nat,hx,Zbn];rw[Nj hA hm hL h0 (by omega)]
          simp only[Zbn,Zb4,Zbp,Zbx,e1])]
        exact g1
      · rw[setL,ifn,ifn];exact g2
    · have hs:=Eu (q:=q) hA hm hL h0
      rcases lv_vals hA l with h1|h1|h1
      · refine⟨.inr (default,false),ZI ?_ (by omega),.inr ⟨by rw[setL,Zbq h1],rfl⟩⟩
        simp only[hd,Zb5,get?_nat,hx,Zbn];rw[hs,h1];rfl
      · exact absurd h1 h0
      · obtain⟨r,g1,g2⟩:=ih (pre++[l]) a q n he' hA hq hlen (by omega)
        refine⟨r,?_,?_⟩
        · rw[Wm (s':=(((pre++[l]).length:Int),a,q)) (by
            simp only[hd,Zb5,get?_nat,hx,Zbn];rw[hs,h1]
            simp only[Zbn,e1];rfl)]
          exact g1
        · rw[setL,ifn,Zbq h1];exact g2
theorem FC(hm:m<=400){lits:List Int}(hl:∀x∈lits,isL m x)(hn:lits.length<=1000):∀(rest pre a:List Int)(n:Nat),pre++rest=lits->Asg m a->rest.length<n->
    ∃r:(List Int)⊕((List Int)×Bool),iterN (λ(s1:Int×(List Int))=>if(decide (s1.1<(len lits)))then(get? lits s1.1).bind λx2=>(Zq x2).bind λx3=>(quo? x2 x3).bind λx4=>(Zq x2).bind λx5=>(get? s1.2 x5).bind λx6=>if(x6==(w64 (0-x4)))then some (.inr (.inr (([]:List Int),false)))else(Zq x2).bind λx7=>(set? s1.2 x7 x4).bind λx8=>some (.inl ((w64 (s1.1+1)),x8))else some (.inr (.inl (s1.2)))) n ((pre.length:Int),a)=some r/\((∃v,setL a rest=some v/\r= .inl v/\Asg m v)\/(setL a rest=none/\r= .inr ([],false))):=by
  intro rest
  induction rest with
  | nil=>
    intro pre a n he hA hk;have hd:decide ((pre.length:Int)<len lits)=false:=by rw[Za,<-he,Zcg];simp
    exact⟨.inl a,ZI (by simp only[hd,Zbp,Zbx]) (by omega),.inl ⟨a,rfl,rfl,hA⟩⟩
  | cons l rest ih=>
    intro pre a n he hA hk;simp only[Zb6]at hk;obtain⟨n,rfl⟩:∃j,n=j+1:=⟨n-1,by omega⟩;have hll:pre.length+(rest.length+1)=lits.length:=by rw[<-he];simp
    have hd:decide ((pre.length:Int)<len lits)=true:=by rw[Za];exact decide_eq_true (by omega)
    have hx:lits[pre.length]? =some l:=by rw[<-he];simp
    have hL:=hl l (by rw[<-he];simp);have e1:w64 ((pre.length:Int)+1)=((pre++[l]).length:Int):=by rw[Zb];simp
    have he':(pre++[l])++rest=lits:=by rw[ZbI];exact he
    have hw:w64 (0-(if l<0 then(-1:Int)else 1))=if l<0 then 1 else-1:=by split<;>decide
    have hv:lv a l=-1↔a.getD l.natAbs 0=if l<0 then 1 else-1:=by unfold lv;split<;>omega
    by_cases h1:lv a l=-1
    · refine⟨.inr ([],false),ZI ?_ (by omega),.inr ⟨by rw[setL,Zbq h1],rfl⟩⟩
      simp only[hd,Zb5,get?_nat,hx,Zbn];rw[YX hm hL];simp only[Zbn];rw[Nh hm hL];simp only[Zbn];rw[QG hA hL];simp only[Zbn];rw[hw,Zbq (by simpa using hv.1 h1)]
    · have hst:stA a l=if lv a l=1 then a else stA a l:=by
        split
        · rename_i h;exact CQ hA hL h
        · rfl
      obtain⟨r,g1,g2⟩:=ih (pre++[l]) (stA a l) n he' (asg_set hA hL) (by omega);refine⟨r,?_,?_⟩
      · rw[Wm (s':=(((pre++[l]).length:Int),stA a l)) (by
          simp only[hd,Zb5,get?_nat,hx,Zbn];rw[YX hm hL];simp only[Zbn];rw[Nh hm hL];simp only[Zbn];rw[QG hA hL];simp only[Zbn];rw[hw,Zbv (by simpa using λh=>h1 (hv.2 h)),Lc hA hL]
          simp only[Zbn,e1])]
        exact g1
      · rw[setL,Zbv h1,<-hst];exact g2
noncomputable def serL(f:D.Formula)(m:Nat)(limit:Int)(lits:List Int):Int×List Bool×Int:=
 match setL (List.replicate (m+1) 0) lits with
 |none=>(2,[],0)
 |some v=>((brn m f.Clauses limit (m+1) v 0).1,if(brn m f.Clauses limit (m+1) v 0).1=1 then bls (brn m f.Clauses limit (m+1) v 0).2.1 else[],(brn m f.Clauses limit (m+1) v 0).2.2)
def impl_searchL(hf:FmP f m)(ho:OccP f m occ)(h0:0<=limit)(hl3:limit<=3000){n:Nat}(hn:4002000<=n){lits:List Int}(hl:∀x∈lits,isL m x)(hll:lits.length<=1000):Yi n ⟨f,occ⟩ lits limit=some (serL f m limit lits):=by
  have hm:=hf.small;have e0:w64 (f.Vars+1)=((m+1:Nat):Int):=by rw[hf.vars,Zb];rfl
  have hz:=zeros_asg m;have hzl:=JR hz;obtain⟨r,g1,g2⟩:=FE hm hl hll lits [] (List.replicate (m+1) 0) [] n rfl hz (λy hy=>(by cases hy)) (by rw[Zcf];omega) (by omega);have G:∀z,r=z->Xw n ⟨f,occ⟩ lits=(match z with|.inl s1r=>(iterN (λ(s2:Int×(List Int)×(List Int))=>if(decide (s2.1<(len f.Clauses)))then(get? f.Clauses s2.1).bind λx4=>(Zn n (D.assignment.mk s2.2.1 s2.2.2) x4).bind λx5=>if(!x5.1)then some (.inr (.inr ((default:D.assignment),false)))else some (.inl ((w64 (s2.1+1)),x5.2.val,x5.2.queue))else some (.inr (.inl (s2.2.1,s2.2.2)))) n (0,s1r.1,s1r.2)).bind (λ(rl2:((List Int)×(List Int))⊕(D.assignment×Bool))=>match rl2 with|.inl s2r=>(ZM n ⟨f,occ⟩ (D.assignment.mk s2r.1 s2r.2)).bind λx6=>if(!x6.1)then some (default,false)else some (x6.2,true)|.inr v=>some v)|.inr v=>some v):=λz e=>by
    subst e;unfold Xw;rw[e0,MU (by omega)];simp only[Zbn];refine(congrArg (λo=>Option.bind o _) g1).trans ?_;rfl
  unfold Yi serL;rcases g2 with⟨v,q',s1,e,hA,hq,hlen⟩|⟨s1,e⟩
  · have G:=G _ e
    simp only at G;obtain⟨a',b,k1,k2⟩:=DL hf ho (n:=n) (by omega) hA hq hlen;have G2:=G.trans k1;rw[G2,s1];simp only[Zbn];unfold brn;rcases k2 with⟨rfl,k3,k4⟩|⟨rfl,k4⟩
    · have hok:=VG k4
      rw[ifn,k4];have:=ZaB hf ho hl3 (m+1) a'.val a'.queue 0 [] n hok.asg hok.cl (LA hok.asg) (by omega) (by omega) h0;rw[show a'=⟨a'.val,a'.queue⟩from rfl,this];rfl
    · rw[ifp,k4];rfl
  · have G:=G _ e
    simp only at G;rw[G,s1];rfl
def spec_searchL(hf:FmP f m)(h0:0<=limit)(hl3:limit<=3000){n:Nat}(hn:4002000<=n){lits:List Int}(hl:∀x∈lits,isL m x)(hll:lits.length<=1000)(hk:YU n f=some true)(hkl:YO n lits f.Vars=some true):YW n f lits limit=some (serL f m limit lits):=by
 have hm:=hf.small;have e2:Zf limit 0 3000=some true:=by unfold Zf;simp;omega
 have hz:=zeros_asg m;unfold YW;rw[hk];simp only[Zbn,Zb4,Zbp,Zbx,ZbL,hkl,e2];obtain⟨r,g1,g2⟩:=FC hm hl hll lits [] (List.replicate (m+1) 0) n rfl hz (by omega);have G:∀z,r=z->VH n (m:Int) lits=(match z with|.inl s1r=>some (s1r,true)|.inr v=>some v):=λz e=>by
  subst e;unfold VH;rw[Zb,show((m:Int)+1)=((m+1:Nat):Int)from rfl,MU (by omega)];simp only[Zbn];exact congrArg (λo=>Option.bind o (λ(rl1:((List Int))⊕((List Int)×Bool))=>match rl1 with|.inl s1r=>some (s1r,true)|.inr v=>some v)) g1
 rw[hf.vars];unfold serL;rcases g2 with⟨v,s1,e,hA⟩|⟨s1,e⟩;rotate_left
 ·have G:=G _ e;simp only at G;rw[G,s1];rfl
 have G:=G _ e;simp only at G;rw[G,s1];simp only[Zbn,Zb4,Zbp,Zbx];rw[ZaJ hf hl3 (m+1) _ 0 n hA (LA hA) (by omega) (by omega) h0];simp only[Zbn];have hb:=brn_ok m f.Clauses limit (m+1) v 0 h0;have hasg:(brn m f.Clauses limit (m+1) v 0).1=1->Asg m (brn m f.Clauses limit (m+1) v 0).2.1:=λh=>BL _ _ _ h;generalize brn m f.Clauses limit (m+1) v 0=R at*;by_cases c:R.1=1
 ·have hA:=hasg c;have hlen:=hA.len;rw[Zbv (by rw[c];decide),Zbq c,c];have e4:cut? R.2.1 1 (len R.2.1)=some (R.2.1.drop 1):=by
   unfold cut?;rw[Za,ifp,ZbE,Zc0];rfl
  rw[e4];simp only[Zbn];rw[DK hA hm (by omega)];rfl
 ·rw[Zbq (by simpa using c),Zbv c];rcases hb.code with h|h|h
  ·exact absurd h c
  ·rw[Zbv (by rw[h];decide),h]
  ·rw[Zbq (by rw[h];decide),h]
end
end Go.Proofs.YtikabgjjcifidaaGreat.Sv
end
section
namespace Go.Proofs.YtikabgjjcifidaaGreat
open Go.GL
open Cc (BS LS CircP Grow GoodL Good litN lines negs seqP ifP opP net RelB FOk FU)
set_option maxRecDepth 100000
def formG(c:D.Circuit)(lit:Int):D.Formula:=⟨lines c,Cc.accF c c.Gates.length++[[lit]]⟩
def Li{n x:Int}(h:litN n x=true):Sv.isL n.toNat x:=by
 have:=Cc.litN_iff.1 h;rw[PZ]at this;exact⟨by omega,by omega⟩
structure FormG(c:D.Circuit)(lit:Int):Prop where
 eq:Cc.formP c lit=(formG c lit,true)
 fm:Sv.FmP (formG c lit) (lines c).toNat
 spec:YU fuel (formG c lit)=some true
def KS{c:D.Circuit}(hC:CircP c){lit:Int}(hl:litN (lines c) lit=true):FormG c lit:=by
 have h0:=hC.lines0;have h1:=hC.lines1;have hg:=hC.len;have hi:=Cc.form_inc hC hl;have hn:(formG c lit).Clauses.length<=1600:=by unfold formG;simp only[Zbw,Cc.accF_len,Zb6,Zcf];omega
 have hv:(formG c lit).Vars=lines c:=rfl;refine⟨by unfold Cc.formP formG;rw[Cc.circP_iff.2 hC,hl];rfl,⟨by rw[hv];omega,by omega,hn,λx hx=>?_⟩,Cc.spec_fok (by rw[hv];omega) (by rw[hv];omega) hn λx hx=>⟨(hi x hx).1,by have:=(hi x hx).2;omega⟩⟩;obtain⟨⟨a1,a2⟩,a3⟩:=hi x hx;refine⟨⟨λy hy=>Li (a1 y hy),a2.imp λh=>?_⟩,by omega⟩;rw[PZ,PZ]at h;intro e;rw[e]at h;omega
noncomputable def endP(f:D.Formula)(m:Nat)(limit:Int)(bits:List Int)(g:Bool):Nat->List Int->Int->Int×Bool
 |0,_,r=>(r,true)
 | k+1,lits,r=>
  let x:=if g=true then bits.getD k 0 else-bits.getD k 0
  let c:=(Sv.serL f m limit (lits++[x])).1
  if c=3 then(0,false)else
   let y:=if c=2 then-x else x
   endP f m limit bits g k (lits++[y]) (w64 (w64 (2*r)+bit (y==bits.getD k 0)))
section
variable{f:D.Formula}{m:Nat}{limit:Int}{bits:List Int}
def Zam{l:List Int}(h:l.length<=1000):app? ([]:List Int) l=some l:=by
 unfold app? room;rw[Zbq (by simp;omega)];rfl
def EQ{l:List Int}{x:Int}(h:l.length<=1000):app? l [x]=some (l++[x]):=by
 unfold app? room;rw[Zbq (by simp;omega)]
def MM{l:List Int}{x:Int}(h:l.length<=1000):Ym l x=some (l++[x]):=by
 unfold Ym;rw[Zam h];simp only[Zbn];rw[EQ h];rfl
def Fj{l:List Int}{x:Int}(h:l.length<=1000):Vr l x=some (l++[x]):=by
 unfold Vr Ze;rw[Zam h];simp only[Zbn];rw[EQ h];rfl
def Gg(hm:m<=400){l:List Int}(h:∀x∈l,Sv.isL m x)(hl:l.length<=1000):YO fuel l (m:Int)=some true:=by
 rw[Cc.spec_lits (by omega) (by omega) (by omega)];congr 1;refine ZbC.2 λx hx=>Cc.litN_iff.2 ?_;have:=h x hx;rw[PZ];exact⟨by have:=this.1;omega,by have:=this.2;omega⟩
def Qw{x:Int}(h:Sv.isL m x):Sv.isL m (-x):=⟨by have:=h.1;omega,by have:=h.2;omega⟩
def Cr(hm:m<=400){x:Int}(h:Sv.isL m x):w64 (0-x)=-x:=by
 have:=h.2;rw[Zb];omega
def Ux{l:List Int}{x:Int}(h:∀y∈l,Sv.isL m y)(hx:Sv.isL m x):∀y∈l++[x],Sv.isL m y:=λy hy=>by
 rcases Zb7.1 hy with hy|hy
 ·exact h y hy
 ·rw[Zb3.1 hy];exact hx
def GK(b:Bool):Yc b=some (bit b):=by unfold Yc bit;split<;>rfl
def AL(b:Bool):XW b=some (bit b):=by unfold XW bit;split<;>rfl
def Ci{c:Int}{x:Int}(hm:m<=400)(h:Sv.isL m x):cond (c==2) (w64 (0-x)) x=if c=2 then-x else x:=by
 rw[Cr hm h];by_cases hc:c=2
 ·rw[Zbq hc,hc];rfl
 ·rw[Zbv hc,show(c==2)=false by simpa using hc];rfl
def KZ{c:Int}{x:Int}(h:Sv.isL m x):Sv.isL m (if c=2 then-x else x):=by split;exact Qw h;exact h
theorem Bf (hf:Sv.FmP f m)(hfk:YU fuel f=some true)(h0:0<=limit)(hl3:limit<=3000)(hb:∀x∈bits,Sv.isL m x)(hbl:bits.length<=100)(g:Bool){lits:List Int}(hL:∀x∈lits,Sv.isL m x)(hLl:lits.length<=100):Wl fuel f lits bits g limit=some (endP f m limit bits g bits.length lits 0):=by
  have hm:=hf.small;have key:∀(k:Nat)(lits:List Int)(r:Int)(n:Nat),k<=bits.length->(∀x∈lits,Sv.isL m x)->lits.length+k<=1000->k<n->∃z:Int⊕(Int×Bool),iterN (λ(s1:(List Int)×Int×Int)=>if (decide (s1.2.2>=0))then(get? bits s1.2.2).bind λx1=>if g then(get? bits s1.2.2).bind λx2=>(Ym s1.1 x2).bind λx3=>(YW fuel f x3 limit).bind λx4=>if(x4.1==3)then some (.inr (.inr (0,false)))else(Ym s1.1 (cond (x4.1==2) (w64 (0-x2)) x2)).bind λx5=>(get? bits s1.2.2).bind λx6=>(Yc ((cond (x4.1==2) (w64 (0-x2)) x2)==x6)).bind λx7=>some (.inl (x5,(w64 ((w64 (2*s1.2.1))+x7)),(w64 (s1.2.2-1))))else(Ym s1.1 (w64 (0-x1))).bind λx8=>(YW fuel f x8 limit).bind λx9=>if(x9.1==3)then some (.inr (.inr (0,false)))else(Ym s1.1 (cond (x9.1==2) (w64 (0-(w64 (0-x1)))) (w64 (0-x1)))).bind λx10=>(get? bits s1.2.2).bind λx11=>(Yc ((cond (x9.1==2) (w64 (0-(w64 (0-x1)))) (w64 (0-x1)))==x11)).bind λx12=>some (.inl (x10,(w64 ((w64 (2*s1.2.1))+x12)),(w64 (s1.2.2-1))))else some (.inr (.inl (s1.2.1)))) n (lits,r,(k:Int)-1)=some z/\(match z with|.inl s1r=>some (s1r,true)|.inr v=>some v)=some (endP f m limit bits g k lits r):=by
    intro k
    induction k with
    | zero=>
      intro lits r n _ hL hLl hn;exact⟨.inl r,itE rfl hn,rfl⟩
    | succ k ih=>
      intro lits r n hk hL hLl hn;obtain⟨n,rfl⟩:∃j,n=j+1:=⟨n-1,by omega⟩;have hkl:k<bits.length:=by omega
      have hd:decide ((k:Int)>=0)=true:=decide_eq_true (by omega);obtain⟨b,hg,eb,hbk⟩:∃b,get? bits (k:Int)=some b/\bits.getD k 0=b/\Sv.isL m b:=⟨bits[k],by rw[get?_nat,Zbo hkl],by rw[Zbr,Zbo hkl];rfl,hb _ (ZbJ hkl)⟩;have ek:(((k+1:Nat):Int)-1)=(k:Int):=by omega
      have ew:w64 ((k:Int)-1)=(k:Int)-1:=Zb;rw[ek,endP,eb];dsimp only;have fin:∀x:Int,Sv.isL m x->∃R:Int×List Bool×Int,Sv.serL f m limit (lits++[x])=R/\Ym lits x=some (lits++[x])/\YW fuel f (lits++[x]) limit=some R/\cond (R.1==2) (w64 (0-x)) x=(if R.1=2 then-x else x)/\Ym lits (if R.1=2 then-x else x)=some (lits++[if R.1=2 then-x else x])/\∀y∈lits++[if R.1=2 then-x else x],Sv.isL m y:=λx hx=>⟨_,rfl,MM (by omega),Sv.spec_searchL hf h0 hl3 (by unfold fuel;omega) (Ux hL hx) (by rw[Zbw,Zcb];omega) hfk (by rw[hf.vars];exact Gg hm (Ux hL hx) (by rw[Zbw,Zcb];omega)),Ci hm hx,MM (by omega),Ux hL (KZ hx)⟩;cases g
      · obtain⟨R,e1,e2,e3,e4,e5,e6⟩:=fin (-b) (Qw hbk)
        simp only[Zbp,Zbx,e1];by_cases h3:R.1=3
        · refine⟨.inr (0,false),itE ?_ (by omega),by rw[Zbq h3]⟩
          simp only[hd,Zb5,hg,Zbn,Zbp,Zbx];rw[Cr hm hbk,e2];simp only[Zbn,e3];rw[Zbq (by simpa using h3)]
        · obtain⟨z,g1,g2⟩:=ih (lits++[if R.1=2 then- -b else-b]) (w64 (w64 (2*r)+bit ((if R.1=2 then- -b else-b)==b))) n (by omega) e6 (by rw[Zbw,Zcb];omega) (by omega)
          refine⟨z,?_,by rw[Zbv h3];exact g2⟩
          rw[itS (s':=(lits++[if R.1=2 then- -b else-b],w64 (w64 (2*r)+bit ((if R.1=2 then- -b else-b)==b)),(k:Int)-1)) (by
            simp only[hd,Zb5,hg,Zbn,Zbp,Zbx];rw[Cr hm hbk,e2];simp only[Zbn,e3];rw[Zbv (by simpa using h3),e4,e5]
            simp only[Zbn,GK,ew])]
          exact g1
      · obtain⟨R,e1,e2,e3,e4,e5,e6⟩:=fin b hbk
        simp only[Zb5,e1];by_cases h3:R.1=3
        · refine⟨.inr (0,false),itE ?_ (by omega),by rw[Zbq h3]⟩
          simp only[hd,Zb5,hg,Zbn,e2,e3];rw[Zbq (by simpa using h3)]
        · obtain⟨z,g1,g2⟩:=ih (lits++[if R.1=2 then-b else b]) (w64 (w64 (2*r)+bit ((if R.1=2 then-b else b)==b))) n (by omega) e6 (by rw[Zbw,Zcb];omega) (by omega)
          refine⟨z,?_,by rw[Zbv h3];exact g2⟩
          rw[itS (s':=(lits++[if R.1=2 then-b else b],w64 (w64 (2*r)+bit ((if R.1=2 then-b else b)==b)),(k:Int)-1)) (by
            simp only[hd,Zb5,hg,Zbn,e2,e3];rw[Zbv (by simpa using h3),e4,e5]
            simp only[Zbn,GK,ew])]
          exact g1
  have el:w64 (len bits-1)=(bits.length:Int)-1:=by rw[Za,Zb]
  obtain⟨z,g1,g2⟩:=key bits.length lits 0 fuel (Zb0 _) hL (by omega) lt_fuel;unfold Wl;rw[el];refine Eq.trans ?_ g2;exact congrArg (λo=>Option.bind o (λ(rl1:(Int)⊕(Int×Bool))=>match rl1 with|.inl s1r=>some (s1r,true)|.inr v=>some v)) g1
theorem Cy{occ:List (List Int)}(hf:Sv.FmP f m)(ho:Sv.OccP f m occ)(h0:0<=limit)(hl3:limit<=3000)(hb:∀x∈bits,Sv.isL m x)(hbl:bits.length<=100)(g:Bool){w:Int}(hw:w=if g=true then 1 else-1){top:Int}(hT:Sv.isL m top):Yv fuel ⟨f,occ⟩ top bits w limit=some (endP f m limit bits g bits.length [top] 0):=by
  have hm:=hf.small;have key:∀(k:Nat)(lits:List Int)(r:Int)(n:Nat),k<=bits.length->(∀x∈lits,Sv.isL m x)->lits.length+k<=1000->k<n->∃z:(Int×(List Int))⊕(Int×Bool),iterN (λ(s1:Int×Int×(List Int))=>if(decide (s1.2.1>=0))then(get? bits s1.2.1).bind λx1=>(Vr s1.2.2 (w64 (w*x1))).bind λx2=>(Yi fuel ⟨f,occ⟩ x2 limit).bind λx3=>if(x3.1==3)then some (.inr (.inr (0,false)))else(get? bits s1.2.1).bind λx4=>(app? s1.2.2 ([(cond (x3.1==2) (w64 (0-(w64 (w*x4)))) (w64 (w*x4)))]:List Int)).bind λx5=>(get? bits s1.2.1).bind λx6=>(XW ((cond (x3.1==2) (w64 (0-(w64 (w*x4)))) (w64 (w*x4)))==x6)).bind λx7=>some (.inl ((w64 ((w64 (2*s1.1))+x7)),(w64 (s1.2.1-1)),x5))else some (.inr (.inl (s1.1,s1.2.2)))) n (r,(k:Int)-1,lits)=some z/\(match z with|.inl s1r=>some (s1r.1,true)|.inr v=>some v)=some (endP f m limit bits g k lits r):=by
    intro k
    induction k with
    | zero=>
      intro lits r n _ hL hLl hn;exact⟨.inl (r,lits),itE rfl hn,rfl⟩
    | succ k ih=>
      intro lits r n hk hL hLl hn;obtain⟨n,rfl⟩:∃j,n=j+1:=⟨n-1,by omega⟩;have hkl:k<bits.length:=by omega
      have hd:decide ((k:Int)>=0)=true:=decide_eq_true (by omega);obtain⟨b,hg,eb,hbk⟩:∃b,get? bits (k:Int)=some b/\bits.getD k 0=b/\Sv.isL m b:=⟨bits[k],by rw[get?_nat,Zbo hkl],by rw[Zbr,Zbo hkl];rfl,hb _ (ZbJ hkl)⟩;have ek:(((k+1:Nat):Int)-1)=(k:Int):=by omega
      have ew:w64 ((k:Int)-1)=(k:Int)-1:=Zb;rw[ek,endP,eb];dsimp only;have hx:Sv.isL m (if g=true then b else-b):=by split;exact hbk;exact Qw hbk
      have hwx:w64 (w*b)=if g=true then b else-b:=by
        have:=hbk.2;rw[hw];cases g
        · rw[ifn,ifn,Zb];omega
        · rw[Zbq rfl,Zbq rfl,Zb];omega
      generalize (if g=true then b else-b)=x at hx hwx⊢;obtain⟨R,e1⟩:∃R,Sv.serL f m limit (lits++[x])=R:=⟨_,rfl⟩;have e3:Yi fuel ⟨f,occ⟩ (lits++[x]) limit=some R:=by rw[<-e1];exact Sv.impl_searchL hf ho h0 hl3 (by unfold fuel;omega) (Ux hL hx) (by rw[Zbw,Zcb];omega)
      have e4:=Ci (c:=R.1) hm hx;have e2:Vr lits x=some (lits++[x]):=Fj (by omega);rw[e1];by_cases h3:R.1=3
      · refine⟨.inr (0,false),itE ?_ (by omega),by rw[Zbq h3]⟩
        simp only[hd,Zb5,hg,Zbn,hwx,e2,e3];rw[Zbq (by simpa using h3)]
      · obtain⟨z,g1,g2⟩:=ih (lits++[if R.1=2 then-x else x]) (w64 (w64 (2*r)+bit ((if R.1=2 then-x else x)==b))) n (by omega) (Ux hL (KZ hx)) (by rw[Zbw,Zcb];omega) (by omega)
        refine⟨z,?_,by rw[Zbv h3];exact g2⟩
        rw[itS (s':=(w64 (w64 (2*r)+bit ((if R.1=2 then-x else x)==b)),(k:Int)-1,lits++[if R.1=2 then-x else x])) (by
          simp only[hd,Zb5,hg,Zbn,hwx,e2,e3];rw[Zbv (by simpa using h3),e4,EQ (by omega)]
          simp only[Zbn,AL,ew])]
        exact g1
  have el:w64 (len bits-1)=(bits.length:Int)-1:=by rw[Za,Zb]
  obtain⟨z,g1,g2⟩:=key bits.length [top] 0 fuel (Zb0 _) (λy hy=>by rw[Zb3.1 hy];exact hT) (by rw[Zcb];omega) lt_fuel;unfold Yv;rw[el];refine Eq.trans ?_ g2;exact congrArg (λo=>Option.bind o (λ(rl1:(Int×(List Int))⊕(Int×Bool))=>match rl1 with|.inl s1r=>some (s1r.1,true)|.inr v=>some v)) g1
end
def bo(p t:D.Term):D.Term:=D.Term.mk 18 (w64 (1+t.W)) 0 ⟨[]⟩ ([p,t]:List D.Term)
def TZ{p t:D.Term}(h1:termB p=true)(h2:termB t=true):msz (bo p t)<=1048576:=by
 unfold termB at h1 h2;simp only[Zbt,Zb8]at h1 h2;have:=DX _ p (Zb0 _) h1.1.2;have:=DX _ t (Zb0 _) h2.1.2;rw[UH];show(0:Nat)+2+mszs [p,t]<=_;rw[Y0,Y0,Xi];omega
def leF(p t:D.Term):D.Formula:=formG (circT (bo p t)).1 1
def leM(p t:D.Term):Nat:=(lines (circT (bo p t)).1).toNat
def leT(p t:D.Term):Int:=(circT (bo p t)).2.1.getD t.W.toNat 0
def leB(p t:D.Term):List Int:=(circT (bo p t)).2.1.take t.W.toNat
noncomputable def leE(p t:D.Term)(limit:Int)(g:Bool):Int×Bool:=endP (leF p t) (leM p t) limit (leB p t) g (leB p t).length [leT p t] 0
structure LeOk(p t:D.Term):Prop where
 fg:FormG (circT (bo p t)).1 1
 circ:CircP (circT (bo p t)).1
 top:get? (circT (bo p t)).2.1 t.W=some (leT p t)
 topL:Sv.isL (leM p t) (leT p t)
 cut:cut? (circT (bo p t)).2.1 0 t.W=some (leB p t)
 bits:∀x∈leB p t,Sv.isL (leM p t) x
 blen:(leB p t).length<=100
def Cw{p t:D.Term}(h1:termB p=true)(h2:termB t=true)(hb:termB (bo p t)=true)(h3:(circT (bo p t)).2.2=true):LeOk p t:=by
 obtain⟨L,hT⟩:=Kq hb (TZ h1 h2) h3;have hn:nodeB t=true:=by
  unfold termB at h2;simp only[Zbt]at h2;exact h2.1.2
 have hw:=ZY hn;have hlen:(circT (bo p t)).2.1.length=t.W.toNat+1:=by
  rw[hT.len];show(w64 (1+t.W)).toNat=_;rw[Zb];omega
 have h0:=hT.circ.lines0;have hwn:((t.W.toNat:Nat):Int)=t.W:=by omega
 have hk:t.W.toNat<(circT (bo p t)).2.1.length:=by omega
 have eT:leT p t=(circT (bo p t)).2.1[t.W.toNat]:=by unfold leT;rw[Zbr,Zbo hk];rfl
 refine⟨KS hT.circ (Cc.litN_iff.2 (by unfold Cc.iab;simp;omega)),hT.circ,?_,?_,?_,λx hx=>Li (hT.lits x (Zc8 hx)),by unfold leB;rw[Zb2];omega⟩
 ·unfold get?;rw[ifp,eT,Zbo hk]
 ·rw[eT];exact Li (hT.lits _ (ZbJ hk))
 ·unfold cut? leB;rw[ifp];rfl
noncomputable def leaP(p t:D.Term)(limit:Int):Int×Int×Bool:=
 if termB p=true/\termB t=true/\p.W=1/\termB (bo p t)=true/\0<=limit/\limit<=3000 then
  if(circT (bo p t)).2.2=true then
   if(Sv.serL (leF p t) (leM p t) limit [leT p t]).1=1 then
    if(leE p t limit false).2=true/\(leE p t limit true).2=true then((leE p t limit false).1,(leE p t limit true).1,true)else(0,0,false)
   else(0,0,false)
  else(0,0,false)
 else(0,0,false)
section
variable{p t:D.Term}{limit:Int}
def Ui(h:¬(termB p=true/\termB t=true/\p.W=1/\termB (bo p t)=true/\0<=limit/\limit<=3000)):leaP p t limit=(0,0,false):=by unfold leaP;rw[Zbv h]
def JV(h:termB p=true/\termB t=true/\p.W=1/\termB (bo p t)=true/\0<=limit/\limit<=3000):leaP p t limit=if(circT (bo p t)).2.2=true then
   if(Sv.serL (leF p t) (leM p t) limit [leT p t]).1=1 then
    if(leE p t limit false).2=true/\(leE p t limit true).2=true then((leE p t limit false).1,(leE p t limit true).1,true)else(0,0,false)
   else(0,0,false)
  else(0,0,false):=by unfold leaP;rw[Zbq h]
variable(hp:msz p<=1048576)(ht:msz t<=1048576)
include hp ht
theorem JB:Wz fuel p t limit=some (leaP p t limit):=by
 unfold Wz;rw[XX hp];simp only[Zbn];by_cases h1:termB p=true;rotate_left
 ·rw[Ui (λq=>h1 q.1)];have h':termB p=false:=by simpa using h1
  rw[h'];rfl
 rw[h1,XX ht];simp only[Zb4,ZbL,Zbp,Zbx,Zbn];by_cases h2:termB t=true;rotate_left
 ·rw[Ui (λq=>h2 q.2.1)];have h':termB t=false:=by simpa using h2
  rw[h'];rfl
 by_cases hw:p.W=1;rotate_left
 ·rw[Ui (λq=>hw q.2.2.1),h2,show(p.W !=1)=true by simpa using hw];rfl
 have hm:=TZ h1 h2;have e1:YZ fuel (D.Term.mk 18 (w64 (1+t.W)) 0 ⟨[]⟩ ([p,t]:List D.Term))=some (termB (bo p t)):=XX hm;rw[h2,show(p.W !=1)=false by simpa using hw,e1,Zan];simp only[Zb4,ZbL,Zbp,Zbx,Zbn];by_cases hb:termB (bo p t)=true;rotate_left
 ·rw[Ui (λq=>hb q.2.2.2.1)];have h':termB (bo p t)=false:=by simpa using hb
  rw[h'];rfl
 rw[hb];simp only[Zb4,ZbL,Zbp,Zbx,Zbn];by_cases hl:0<=limit/\limit<=3000;rotate_left
 ·rw[Ui (λq=>hl q.2.2.2.2),decide_eq_false hl];rfl
 have e2:XF fuel (D.Term.mk 18 (w64 (1+t.W)) 0 ⟨[]⟩ ([p,t]:List D.Term))=some (circT (bo p t)):=Ij hm;rw[decide_eq_true hl,e2,JV ⟨h1,h2,hw,hb,hl⟩];simp only[Zb4,Zbp,Zbx,Zbn];by_cases h3:(circT (bo p t)).2.2=true;rotate_left
 ·rw[Zbv h3,Zbq (by simpa using h3)]
 rw[Zbq h3,Zbv (by rw[h3];decide)];obtain⟨fg,hC,k1,k2,k3,k4,k5⟩:=Cw h1 h2 hb h3;have hg:=hC.len;have hsm:=fg.fm.small;have hv:(leF p t).Vars=((leM p t:Nat):Int):=fg.fm.vars;rw[k1];simp only[Zbn];rw[Cc.spec_FormulaOf_eq hC.fit (by omega),fg.eq];simp only[Zbn];have hone:∀x∈[leT p t],Sv.isL (leM p t) x:=λx hx=>by rw[Zb3.1 hx];exact k2
 have e3:YW fuel (formG (circT (bo p t)).1 1) [leT p t] limit=some (Sv.serL (leF p t) (leM p t) limit [leT p t]):=Sv.spec_searchL fg.fm hl.1 hl.2 (by unfold fuel;omega) hone (by simp) fg.spec (by
  show YO fuel [leT p t] (leF p t).Vars=_
  rw[hv];exact Gg hsm hone (by simp))
 rw[e3];simp only[Zbn];by_cases h4:(Sv.serL (leF p t) (leM p t) limit [leT p t]).1=1;rotate_left
 ·rw[Zbv h4,Zbq (by simpa using h4)]
 rw[Zbq h4,Zbv (by simpa using h4),k3];simp only[Zbn];have e4:∀g,Wl fuel (formG (circT (bo p t)).1 1) [leT p t] (leB p t) g limit=some (leE p t limit g):=λg=>Bf fg.fm fg.spec hl.1 hl.2 k4 k5 g hone (by simp);rw[e4,e4];simp only[Zbn];cases(leE p t limit false).2<;>cases(leE p t limit true).2<;>simp
theorem Ir:Vb fuel p t limit=some (leaP p t limit):=by
 unfold Vb;rw[UN hp];simp only[Zbn];by_cases h1:termB p=true;rotate_left
 ·rw[Ui (λq=>h1 q.1)];have h':termB p=false:=by simpa using h1
  rw[h'];rfl
 rw[h1,UN ht];simp only[Zb4,ZbL,Zbp,Zbx,Zbn];by_cases h2:termB t=true;rotate_left
 ·rw[Ui (λq=>h2 q.2.1)];have h':termB t=false:=by simpa using h2
  rw[h'];rfl
 by_cases hw:p.W=1;rotate_left
 ·rw[Ui (λq=>hw q.2.2.1),h2,show(p.W !=1)=true by simpa using hw];rfl
 have hm:=TZ h1 h2;have e1:Xk fuel (D.Term.mk 18 (w64 (1+t.W)) 0 ⟨[]⟩ ([p,t]:List D.Term))=some (termB (bo p t)):=UN hm;rw[h2,show(p.W !=1)=false by simpa using hw,AC];simp only[Zb4,ZbL,Zbp,Zbx,Zbn];by_cases hl:0<=limit/\limit<=3000;rotate_left
 ·rw[Ui (λq=>hl q.2.2.2.2),decide_eq_false hl];rfl
 rw[decide_eq_true hl,e1];simp only[Zb4,ZbL,Zbp,Zbx,Zbn];by_cases hb:termB (bo p t)=true;rotate_left
 ·rw[Ui (λq=>hb q.2.2.2.1)];have h':termB (bo p t)=false:=by simpa using hb
  rw[h'];rfl
 have e2:XB fuel (D.Term.mk 18 (w64 (1+t.W)) 0 ⟨[]⟩ ([p,t]:List D.Term))=some (circT (bo p t)):=JJ hm;rw[hb,e2,JV ⟨h1,h2,hw,hb,hl⟩];simp only[Zb4,Zbp,Zbx,Zbn];by_cases h3:(circT (bo p t)).2.2=true;rotate_left
 ·rw[Zbv h3,Zbq (by simpa using h3)]
 rw[Zbq h3,Zbv (by rw[h3];decide)];obtain⟨fg,hC,k1,k2,k3,k4,k5⟩:=Cw h1 h2 hb h3;have hg:=hC.len;have hsm:=fg.fm.small;rw[Cc.impl_FormulaOf_eq hC.fit (by omega),fg.eq];simp only[Zbn,Zb4,Zbp,Zbx];obtain⟨occ,e5,ho⟩:=Sv.new_solver fg.fm (n:=fuel) (by unfold fuel;omega);rw[e5];simp only[Zbn];rw[k1,k3];simp only[Zbn];have hone:∀x∈[leT p t],Sv.isL (leM p t) x:=λx hx=>by rw[Zb3.1 hx];exact k2
 have e3:Yi fuel ⟨formG (circT (bo p t)).1 1,occ⟩ [leT p t] limit=some (Sv.serL (leF p t) (leM p t) limit [leT p t]):=Sv.impl_searchL fg.fm ho hl.1 hl.2 (by unfold fuel;omega) hone (by simp);rw[e3];simp only[Zbn];by_cases h4:(Sv.serL (leF p t) (leM p t) limit [leT p t]).1=1;rotate_left
 ·rw[Zbv h4,Zbq (by simpa using h4)]
 rw[Zbq h4,Zbv (by simpa using h4)];have e4:∀(g:Bool)(w:Int),w=(if g=true then 1 else-1)->Yv fuel ⟨formG (circT (bo p t)).1 1,occ⟩ (leT p t) (leB p t) w limit=some (leE p t limit g):=λg w hw=>Cy fg.fm ho hl.1 hl.2 k4 k5 g hw k2;rw[e4 false (-1) rfl,e4 true 1 rfl];simp only[Zbn];cases(leE p t limit false).2<;>cases(leE p t limit true).2<;>simp
end
open Cc (vB Yz bi)
def Tru(M:Nat->Bool)(l:List Int):Prop:=∀x∈l,Sv.tr M x=true
section
variable{m:Nat}{M:Nat->Bool}
def GA{a:List Int}(hA:Sv.Asg m a){l:Int}(hl:Sv.isL m l)(h0:Sv.lv a l≠-1):Sv.Ext m M (if Sv.lv a l=1 then a else Sv.stA a l)↔Sv.Ext m M a/\Sv.tr M l=true:=by
 by_cases c:Sv.lv a l=1
 ·rw[Zbq c];exact⟨λh=>⟨h,h l hl c⟩,λh=>h.1⟩
 ·rw[Zbv c];have h00:Sv.lv a l=0:=by(rcases Sv.lv_vals hA l with h|h|h;exact absurd h h0;exact h;exact absurd h c)
  refine⟨λh=>⟨λx hx h1=>h x hx ?_,h l hl ?_⟩,λh=>Sv.ext_set hA h.1 hl h00 h.2⟩
  ·rw[Sv.lv_mono hA hl h00 hx.1 (by omega)];exact h1
  ·rw[Sv.lv_set hA.len hl hl.1,Zbq rfl]
def Hl{a:List Int}(hA:Sv.Asg m a){l:Int}(hl:Sv.isL m l):Sv.Asg m (if Sv.lv a l=1 then a else Sv.stA a l):=by
 split
 ·exact hA
 ·exact Sv.asg_set hA hl
theorem MK:∀(lits a:List Int),Sv.Asg m a->(∀x∈lits,Sv.isL m x)->Sv.setL a lits=none->Sv.Ext m M a->¬Tru M lits
 |[],a,_,_,h,_,_=>by cases h
 | l::ls,a,hA,hl,h,hE,hT=>by
  have h1:=hl l (by simp);rw[Sv.setL]at h;by_cases c:Sv.lv a l=-1
  ·have:=hE (-l) ⟨by have:=h1.1;omega,by have:=h1.2;omega⟩ (by rw[Sv.lv_neg h1.1,c];rfl);rw[Sv.tr_neg h1.1,hT l (by simp)]at this;cases this
  ·rw[Zbv c]at h;exact MK ls _ (Hl hA h1) (λx hx=>hl x (by simp[hx])) h ((GA hA h1 c).2 ⟨hE,hT l (by simp)⟩) λx hx=>hT x (by simp[hx])
theorem Ml:∀(lits a v:List Int),Sv.Asg m a->(∀x∈lits,Sv.isL m x)->Sv.setL a lits=some v->Sv.Asg m v/\∀M,Sv.Ext m M v↔Sv.Ext m M a/\Tru M lits
 |[],a,v,hA,_,h=>by
  rw[Sv.setL,Option.some.injEq]at h;subst h;exact⟨hA,λM=>⟨λh=>⟨h,λx hx=>by cases hx⟩,λh=>h.1⟩⟩
 | l::ls,a,v,hA,hl,h=>by
  have h1:=hl l (by simp);rw[Sv.setL]at h;by_cases c:Sv.lv a l=-1
  ·rw[Zbq c]at h;cases h
  ·rw[Zbv c]at h;obtain⟨g1,g2⟩:=Ml ls _ v (Hl hA h1) (λx hx=>hl x (by simp[hx])) h;refine⟨g1,λM=>?_⟩;rw[g2 M,GA hA h1 c];constructor
   ·rintro⟨⟨q1,q2⟩,q3⟩;refine⟨q1,λx hx=>?_⟩;rcases ZbN.1 hx with rfl|hx
    ·exact q2
    ·exact q3 x hx
   ·rintro⟨q1,q2⟩;exact⟨⟨q1,q2 l (by simp)⟩,λx hx=>q2 x (by simp[hx])⟩
end
structure SerOk(f:D.Formula)(lits:List Int)(r:Int):Prop where
 code:r=1\/r=2\/r=3
 yes:r=1->∃M,Sv.Sat M f.Clauses/\Tru M lits
 no:r=2->∀M,Sv.Sat M f.Clauses->¬Tru M lits
theorem Gi{f:D.Formula}{m:Nat}{limit:Int}(hf:Sv.FmP f m)(h0:0<=limit){lits:List Int}(hl:∀x∈lits,Sv.isL m x):SerOk f lits (Sv.serL f m limit lits).1:=by
 have hcs:∀c∈f.Clauses,Sv.ClM m c:=λc hc=>(hf.cl c hc).1;unfold Sv.serL;cases e:Sv.setL (List.replicate (m+1) 0) lits with
 |none=>exact⟨.inr (.inl rfl),λh=>(by cases h),λ_ M _=>MK lits _ (Sv.zeros_asg m) hl e (KF M)⟩
 |some v=>
  obtain⟨hA,hE⟩:=Ml lits _ v (Sv.zeros_asg m) hl e;have hF:=Sv.brn_first (limit:=limit) hf hA 0;have hS:=Sv.brn_ok m f.Clauses limit (m+1) v 0 h0;refine⟨hS.code,λh=>?_,λh M hM hT=>hF.no h M hM ((hE M).2 ⟨KF M,hT⟩)⟩;obtain⟨hFull,hx,-⟩:=hF.yes h;refine⟨_,hFull.sat hcs,((hE _).1 λx hx' h1=>?_).2⟩;rw[hFull.tr hx',hx x hx' h1];rfl
def wd(M:Nat->Bool)(l:List Int):Int:=(vB (l.map (Sv.tr M)):Int)
def BZ{bits:List Int}{k:Nat}(hk:k<bits.length)(M:Nat->Bool):wd M (bits.drop k)=bit (Sv.tr M (bits.getD k 0))+2*wd M (bits.drop (k+1)):=by
 unfold wd;rw[ZbT hk,Zb1,vB,Zbr,Zbo hk];have hb:∀b:Bool,bit b=(bi b:Int):=λb=>by cases b<;>rfl
 rw[ZbY,hb];omega
def Zaf{l:List Int}(h:l.length<=16)(M:Nat->Bool):0<=wd M l/\wd M l<65536:=by
 have:=Yz (l.map (Sv.tr M));rw[ZbK]at this;have hp:2^l.length<=2^16:=Zck (by decide) h;unfold wd;omega
structure EndOk(f:D.Formula)(top:Int)(bits:List Int)(g:Bool)(r:Int):Prop where
 is:∃M,Sv.Sat M f.Clauses/\Sv.tr M top=true/\wd M bits=r
 le:∀M,Sv.Sat M f.Clauses->Sv.tr M top=true->if g=true then wd M bits<=r else r<=wd M bits
theorem Ll{f:D.Formula}{m:Nat}{limit top:Int}{bits:List Int}{g:Bool}(hf:Sv.FmP f m)(h0:0<=limit)(hb:∀x∈bits,Sv.isL m x)(hbl:bits.length<=16):∀(k:Nat)(lits:List Int)(r:Int),k<=bits.length->(∀x∈lits,Sv.isL m x)->
  (∀M,Tru M lits↔Sv.tr M top=true/\wd M (bits.drop k)=r)->EndOk f top (bits.drop k) g r->(endP f m limit bits g k lits r).2=true->EndOk f top bits g (endP f m limit bits g k lits r).1
 |0,lits,r,_,_,_,h,_=>by rw[endP];exact h
 | k+1,lits,r,hk,hl,hT,hE,hok=>by
  have hkl:k<bits.length:=by omega
  have hbk:Sv.isL m (bits.getD k 0):=by rw[Zbr,Zbo hkl];exact hb _ (ZbJ hkl)
  have hd:=λM=>BZ hkl M;rw[endP]at hok⊢;dsimp only at hok⊢;generalize bits.getD k 0=b at hbk hd hok⊢;have hx:Sv.isL m (if g=true then b else-b):=by split;exact hbk;exact Qw hbk
  have htx:∀M,Sv.tr M (if g=true then b else-b)=(Sv.tr M b==g):=λM=>by
   cases g
   ·rw[ifn,Sv.tr_neg hbk.1];cases Sv.tr M b<;>rfl
   ·rw[Zbq rfl];cases Sv.tr M b<;>rfl
  have hxb:((if g=true then b else-b)==b)=g:=by
   have:=hbk.1;cases g
   ·rw[ifn];simp;omega
   ·rw[Zbq rfl];simp
  have hxb':(-(if g=true then b else-b)==b)= !g:=by
   have:=hbk.1;cases g
   ·rw[ifn];simp
   ·rw[Zbq rfl];simp;omega
  generalize (if g=true then b else-b)=x at hx htx hxb hxb' hok⊢;have hS:=Gi (limit:=limit) hf h0 (Ux hl hx);generalize (Sv.serL f m limit (lits++[x])).1=c at hS hok⊢;by_cases c3:c=3
  ·rw[Zbq c3]at hok;cases hok
  rw[Zbv c3]at hok⊢;have hbd:∀M,0<=wd M (bits.drop k)/\wd M (bits.drop k)<65536:=λM=>Zaf (by rw[ZbD];omega) M;have hbt:∀z:Bool,bit z=if z=true then 1 else 0:=λz=>by cases z<;>rfl
  obtain⟨M0,s1,s2,s3⟩:=hE.is;have hr:∀z:Bool,w64 (w64 (2*r)+bit z)=2*r+bit z:=λz=>by
   have:=hbd M0;rw[hd M0,s3]at this;have h1:0<=r/\r<65536:=by rw[<-s3];exact Zaf (by rw[ZbD];omega) M0
   rw[Zb (x:=2*r),Zb (by rw[hbt];split<;>omega) (by rw[hbt];split<;>omega)]
  have happ:∀(M:Nat->Bool)(y:Int),Tru M (lits++[y])↔Tru M lits/\Sv.tr M y=true:=λM y=>by
   unfold Tru;constructor
   ·intro h;exact⟨λz hz=>h z (by simp[hz]),h y (by simp)⟩
   ·rintro⟨h1,h2⟩ z hz;rcases Zb7.1 hz with hz|hz
    ·exact h1 z hz
    ·rw[Zb3.1 hz];exact h2
  have eqg:∀M,Tru M (lits++[x])↔Sv.tr M top=true/\wd M (bits.drop k)=2*r+bit g:=λM=>by
   rw[happ,hT M,htx,hd M,and_assoc];refine and_congr_right λ_=>?_;cases Sv.tr M b<;>cases g<;>simp[bit]<;>omega
  have eqn:∀M,Tru M (lits++[-x])↔Sv.tr M top=true/\wd M (bits.drop k)=2*r+bit (!g):=λM=>by
   rw[happ,hT M,Sv.tr_neg hx.1,htx,hd M,and_assoc];refine and_congr_right λ_=>?_;cases Sv.tr M b<;>cases g<;>simp[bit]<;>omega
  by_cases c2:c=2
  ·rw[Zbq c2]at hok⊢;rw[hxb',hr]at hok⊢;have hno:=hS.no c2;have hne:∀M,Sv.Sat M f.Clauses->Sv.tr M top=true->wd M (bits.drop k)≠2*r+bit g:=λM h1 h2 h3=>hno M h1 ((eqg M).2 ⟨h2,h3⟩);refine Ll hf h0 hb hbl k _ _ (by omega) (Ux hl (Qw hx)) eqn ⟨⟨M0,s1,s2,?_⟩,λM h1 h2=>?_⟩ hok
   ·have:=hne M0 s1 s2;rw[hd M0,s3]at this⊢;cases g<;>cases hz:Sv.tr M0 b<;>simp[bit,hz]at this⊢<;>omega
   ·have h3:=hE.le M h1 h2;have h4:=hne M h1 h2;rw[hd M]at h4⊢;cases g<;>cases hz:Sv.tr M b<;>simp[bit,hz]at h3 h4⊢<;>omega
  ·rw[Zbv c2]at hok⊢;have c1:c=1:=by(rcases hS.code with h|h|h;exact h;exact absurd h c2;exact absurd h c3)
   rw[hxb,hr]at hok⊢;obtain⟨M1,q1,q2⟩:=hS.yes c1;have q3:=(eqg M1).1 q2;refine Ll hf h0 hb hbl k _ _ (by omega) (Ux hl hx) eqg ⟨⟨M1,q1,q3.1,q3.2⟩,λM h1 h2=>?_⟩ hok;have h3:=hE.le M h1 h2;rw[hd M];cases g<;>cases Sv.tr M b<;>simp[bit]at h3⊢<;>omega
open Cc (BS LS CircP Grow litN lines litN_iff litV ev vB Yz bi)
structure MV(t:D.Term)(L:List D.Value):Prop where
 to:∀l,Vls L l->Sv.Sat (Sv.vm (ev (circT t).1 (inB l))) (Cc.accF (circT t).1 (circT t).1.Gates.length)
 fro:∀M,Sv.Sat M (Cc.accF (circT t).1 (circT t).1.Gates.length)->∃l,Vls L l/\∀x,litN (lines (circT t).1) x=true->Sv.tr M x=litV (ev (circT t).1 (inB l)) x
def Zbg{t:D.Term}(hs:msz t<=1048576)(hok:(circT t).2.2=true):∃L,ZP fuel t=some L/\VL t L/\(∀v∈L,1<=v.W/\v.W<=16)/\L.length<=30/\MV t L/\(∀l,Vls L l->val t l=(vB ((circT t).2.1.map (litV (ev (circT t).1 (inB l)))):Int)):=by
 obtain⟨L,eL,hL,ht,hw,h30,hC,hlen,hlit,hin,hb30,hev⟩:=Ec hs hok;have hb:=SX L 0 hw;have hL1:lines (circT t).1=(circT t).1.Inputs+1+((circT t).1.Gates.length:Int):=rfl;have hi0:=hC.i0;refine⟨L,eL,hL,hw,h30,⟨λl hl=>?_,λM hM=>?_⟩,λl hl=>?_⟩
 ·have hil:=CK hl.ky hw;have hel:=Cc.ev_len (c:=(circT t).1) (v:=inB l) (by omega);refine(Sv.lines_uniq hC hel).2 ?_;obtain⟨u,hu⟩:=Sv.evalG_pre (circT t).1.Gates (true::inB l);rw[Zba,hu];simp only[Zdk,List.drop_succ_cons,ZcT];rw[List.take_left' (by omega),hu];rfl
 ·obtain⟨w,hwd⟩:∃w,w=(List.range (lines (circT t).1).toNat).map λi=>M (i+1):=⟨_,rfl⟩;have hwl:w.length=(lines (circT t).1).toNat:=by rw[hwd];simp
  have hvm:∀i,1<=i->i<=(lines (circT t).1).toNat->Sv.vm w i=M i:=λi h1 h2=>by
   unfold Sv.vm;rw[hwd,Zbr,ZbO,Zdg (by omega)];simp only[ZbF,ZbY];rw[show i-1+1=i by omega]
  have hfm:=(KS hC (lit:=1) (litN_iff.2 (by unfold Cc.iab;simp;omega))).fm;have hcs:∀c∈Cc.accF (circT t).1 (circT t).1.Gates.length,Sv.ClM (lines (circT t).1).toNat c:=λc hc=>(hfm.cl c (Zb7.2 (.inl hc))).1;have hacc:Sv.Sat (Sv.vm w) (Cc.accF (circT t).1 (circT t).1.Gates.length):=Dl hcs (λi h1 h2=>(hvm i h1 h2).symm) hM;have hwL:(w.length:Int)=lines (circT t).1:=by omega
  obtain⟨v1,v2⟩:=GI (w:=w) L 1 hw (by omega);have hev2:w=ev (circT t).1 (inB (valsP w 1 L)):=by
   rw[Zba,v2,show wsum L=(circT t).1.Inputs.toNat by omega];exact(Sv.lines_uniq hC hwL).1 hacc
  refine⟨_,v1,λx hx=>?_⟩;rw[<-hev2,PH];exact Hq (λi h1 h2=>(hvm i h1 h2).symm) (Li hx)
 ·have:=hev l hl fuel (by unfold fuel;decide);unfold val;rw[this];rfl
structure Ends(p t:D.Term)(L:List D.Value)(a b:Int):Prop where
 ina:∃l,Vls L l/\val (bo p t) l=a+2^t.W.toNat
 inb:∃l,Vls L l/\val (bo p t) l=b+2^t.W.toNat
 all:∀l,Vls L l->(0<=val (bo p t) l/\val (bo p t) l<2^t.W.toNat)\/(a+2^t.W.toNat<=val (bo p t) l/\val (bo p t) l<=b+2^t.W.toNat)
 a0:0<=a
 b1:b<2^t.W.toNat
def BI{p t:D.Term}{limit a b:Int}(h:leaP p t limit=(a,b,true)):∃L,ZP fuel (bo p t)=some L/\Ends p t L a b:=by
 by_cases hc:termB p=true/\termB t=true/\p.W=1/\termB (bo p t)=true/\0<=limit/\limit<=3000;rotate_left
 ·rw[Ui hc]at h;cases h
 rw[JV hc]at h;obtain⟨h1,h2,hpw,hb,hl0,hl1⟩:=hc;by_cases h3:(circT (bo p t)).2.2=true;rotate_left
 ·rw[Zbv h3]at h;cases h
 rw[Zbq h3]at h;by_cases h4:(Sv.serL (leF p t) (leM p t) limit [leT p t]).1=1;rotate_left
 ·rw[Zbv h4]at h;cases h
 rw[Zbq h4]at h;by_cases h5:(leE p t limit false).2=true/\(leE p t limit true).2=true;rotate_left
 ·rw[Zbv h5]at h;cases h
 rw[Zbq h5,Prod.mk.injEq,Prod.mk.injEq]at h;obtain⟨rfl,rfl,-⟩:=h;obtain⟨fg,hC,k1,k2,k3,k4,k5⟩:=Cw h1 h2 hb h3;obtain⟨L,eL,hL,hw,h30,hV,hval⟩:=Zbg (TZ h1 h2) h3;have hn:nodeB t=true:=by
  unfold termB at h2;simp only[Zbt]at h2;exact h2.1.2
 have htw:=ZY hn;obtain⟨L',hT⟩:=Kq hb (TZ h1 h2) h3;have hlen:(circT (bo p t)).2.1.length=t.W.toNat+1:=by
  rw[hT.len];show(w64 (1+t.W)).toNat=_;rw[Zb];omega
 have hlits:∀x∈(circT (bo p t)).2.1,litN (lines (circT (bo p t)).1) x=true:=λx hx=>hT.lits x hx;have hblen:(leB p t).length=t.W.toNat:=by unfold leB;rw[Zb2];omega
 have hsplit:(circT (bo p t)).2.1=leB p t++[leT p t]:=by
  unfold leB leT;have hk:t.W.toNat<(circT (bo p t)).2.1.length:=by omega
  rw[Zbr,Zbo hk,ZbY];have:=Zby hk;rw[<-this,ZbX (by omega)]
 have hS0:=(Gi (limit:=limit) fg.fm hl0 (lits:=[leT p t]) (λx hx=>by rw[Zb3.1 hx];exact k2)).yes h4;obtain⟨M0,m1,m2⟩:=hS0;have hone:∀M,Tru M [leT p t]↔Sv.tr M (leT p t)=true:=λM=>by unfold Tru;simp
 have hend:∀g,(leE p t limit g).2=true->EndOk (leF p t) (leT p t) (leB p t) g (leE p t limit g).1:=λg hg=>by
  refine Ll (f:=leF p t) fg.fm hl0 k4 (by omega) (leB p t).length [leT p t] 0 (Zb0 _) (λx hx=>by rw[Zb3.1 hx];exact k2) (λM=>?_) ⟨⟨M0,m1,(hone M0).1 m2,?_⟩,λM _ _=>?_⟩ hg
  ·rw[hone,Ze6];exact⟨λh=>⟨h,rfl⟩,λh=>h.1⟩
  ·rw[Ze6];rfl
  ·rw[Ze6];split<;>exact ZbW _
 have hword:∀(M:Nat->Bool)(l:List D.Value),Vls L l->(∀x,litN (lines (circT (bo p t)).1) x=true->Sv.tr M x=litV (ev (circT (bo p t)).1 (inB l)) x)->val (bo p t) l=wd M (leB p t)+2^t.W.toNat*bit (Sv.tr M (leT p t)):=λM l hl hM=>by
  rw[hval l hl];have e:(circT (bo p t)).2.1.map (litV (ev (circT (bo p t)).1 (inB l)))=(leB p t).map (Sv.tr M)++[Sv.tr M (leT p t)]:=by
   rw[<-List.map_singleton,<-Zce,<-hsplit];exact Zcz λx hx=>(hM x (hlits x hx)).symm
  rw[e,Cc.vB_app,ZbK,hblen];unfold wd;have hb:∀b:Bool,bit b=(vB [b]:Int):=λb=>by cases b<;>rfl
  rw[hb,Int.natCast_add,ZdM,cpow]
 have hf1:∀M,Sv.Sat M (leF p t).Clauses->Sv.Sat M (Cc.accF (circT (bo p t)).1 (circT (bo p t)).1.Gates.length):=λM hM c hc=>hM c (Zb7.2 (.inl hc));have hf2:∀M,Sv.Sat M (Cc.accF (circT (bo p t)).1 (circT (bo p t)).1.Gates.length)->Sv.Sat M (leF p t).Clauses:=λM hM c hc=>by
  rcases Zb7.1 hc with hc|hc
  ·exact hM c hc
  ·rw[Zb3.1 hc];exact⟨1,by simp,by have:=((Sv.acc_sat hC (M:=M) _ (Zb0 _)).1 hM).1;unfold Sv.tr;simpa using this⟩
 have hin:∀g,(leE p t limit g).2=true->∃l,Vls L l/\val (bo p t) l=(leE p t limit g).1+2^t.W.toNat:=λg hg=>by
  obtain⟨M,q1,q2,q3⟩:=(hend g hg).is;obtain⟨l,v1,v2⟩:=hV.fro M (hf1 M q1);refine⟨l,v1,?_⟩;rw[hword M l v1 v2,q2,q3];show _+2^t.W.toNat*(1:Int)=_;omega
 have hbnd:∀M,0<=wd M (leB p t)/\wd M (leB p t)<2^t.W.toNat:=λM=>by
  have:=Yz ((leB p t).map (Sv.tr M));rw[ZbK,hblen]at this;unfold wd;rw[cpow];omega
 refine⟨L,eL,hin false h5.1,hin true h5.2,λl hl=>?_,?_,?_⟩
 ·have hM:=hV.to l hl;have hw2:=hword (Sv.vm (ev (circT (bo p t)).1 (inB l))) l hl (λx _=>(PH _ x).symm);have hb2:=hbnd (Sv.vm (ev (circT (bo p t)).1 (inB l)));cases ht:Sv.tr (Sv.vm (ev (circT (bo p t)).1 (inB l))) (leT p t)
  ·left;rw[hw2,ht];show 0<=_+2^t.W.toNat*(0:Int)/\_+2^t.W.toNat*(0:Int)<_;omega
  ·right;have e1:=(hend false h5.1).le _ (hf2 _ hM) ht;have e2:=(hend true h5.2).le _ (hf2 _ hM) ht;rw[ifn]at e1;rw[Zbq rfl]at e2;rw[hw2,ht];show _<=_+2^t.W.toNat*(1:Int)/\_+2^t.W.toNat*(1:Int)<=_;omega
 ·obtain⟨M,q1,q2,q3⟩:=(hend false h5.1).is;rw[<-q3];exact(hbnd M).1
 ·obtain⟨M,q1,q2,q3⟩:=(hend true h5.2).is;rw[<-q3];exact(hbnd M).2
end Go.Proofs.YtikabgjjcifidaaGreat
end
