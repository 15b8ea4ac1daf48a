/- Texts of this claim put into one: library or plain laws, without the program under test. -/
import Derived.Test.YtbidabmbbieeiacGreatDoorPLib1
import Derived.Lib.ItoaNum
set_option linter.unusedSimpArgs false
set_option linter.unusedVariables false
section
namespace Go.Proofs.YtbidabmbbieeiacGreatDoor
open Go.GL
set_option linter.unusedSimpArgs false
set_option maxRecDepth 100000
theorem Zw{k:Nat}{op w:Int}{a b:D.Term}(h3:3≤op)(h16:op≤16)(hc:(a.Op==0&&b.Op==0)=false):ZE (k+8) ⟨op,w,0,⟨[]⟩,[a,b]⟩=Za (k+7) ⟨op,w,0,⟨[]⟩,[a,b]⟩:=by
 rw[Yx (by simp) (by simp) (by simpa using hc)];rw[show((op==1)||(op==2))=false by simp;omega,show(op==17)=false by simp;omega,show(op==19)=false by simp;omega,show((op==20)||(op==21))=false by simp;omega,show(op==18)=false by simp;omega];rfl
theorem Zv{k:Nat}{op w:Int}{a b:D.Term}(h3:3≤op)(h16:op≤16)(hc:(a.Op==0&&b.Op==0)=false):Z4 (k+8) ⟨op,w,0,⟨[]⟩,[a,b]⟩=Zh (k+7) ⟨op,w,0,⟨[]⟩,[a,b]⟩:=by
 rw[Yv (by simp) (by rw[show([a,b].all fun x=>x.Op==0)=false by simpa using hc];simp)];rw[show decide (3≤op∧op≤16)=true by simp;omega];rfl
theorem Zeg{w:Int}(h1:1≤w)(h2:w≤16):wordB w 0=true:=by
 obtain⟨p1,p2,p3⟩:=ZeD h1 h2;rw[Yf h1 h2,p1];omega
theorem Zkp{op w:Int}{a b:D.Term}(ho:op=3∨op=5∨op=8∨op=9∨op=10∨op=14)(ha:nodeB a=true)(hb:nodeB b=true)(hw:a.W=b.W)(h1:op≤13→a.W=w)(h2:14≤op→w=1)
  (hc:(a.Op==0&&b.Op==0)=false)(hn:cnt a≤240)(hs:ctm a b=1):Stp ⟨op,w,0,⟨[]⟩,[a,b]⟩:=by
 have hma:=Zcq ha;have i1:∀k,1100000≤k→ZL (k+6) a b=some (ctm a b):=fun k hk=>Zdg _ _ _ (by omega) (by omega);have s1:∀k,1100000≤k→ZK (k+6) a b=some (ctm a b):=fun k hk=>Zdj _ _ _ (by omega) (by omega);refine .go 5 6 (u:=⟨op,w,0,⟨[]⟩,[b,a]⟩) ⟨ZeW (by omega) (by omega) hb ha hw.symm (fun o=>by have:=h1 o;omega) h2,rfl,by rw[cnt2,cnt2];omega,?_⟩ (fun k hk=>?_) (fun k hk=>?_)
 ·have e:ctm b a=-1:=by rw[Znz,hs]
  unfold mea swp;rw[cnt2,cnt2];simp[e,hs];omega
 ·rw[Zw (by omega) (by omega) hc];rcases ho with rfl|rfl|rfl|rfl|rfl|rfl<;>simp[Za,Zo,Zg,Ze,get0,get1,i1 k hk,hs]
 ·rw[Zv (by omega) (by omega) hc];rcases ho with rfl|rfl|rfl|rfl|rfl|rfl<;>simp[Zh,Zg,get0,get1,s1 k hk,hs,Zk]
theorem Zcn{op w:Int}{a b:D.Term}(ho:op=3∨op=5∨op=8∨op=9∨op=10)(ha:nodeB a=true)(hb:nodeB b=true)(hw:a.W=b.W)(h1:a.W=w)
  (ha0:a.Op=0)(hb0:b.Op≠0)(hn:cnt a≤240)(hs:ctm a b≠1)(hs2:ctm a b≠0)
  (f1:∀k,1100000≤k→∃x,Zu (k+6) op w a b=some (x,false))(f2:∀k,1100000≤k→∃x,Z8 (k+6) ⟨op,w,0,⟨[]⟩,[a,b]⟩=some (x,false)):Stp ⟨op,w,0,⟨[]⟩,[a,b]⟩:=by
 have hma:=Zcq ha;have hc:(a.Op==0&&b.Op==0)=false:=by simp[hb0]
 have gt:¬0<ctm a b:=by have:=Zgh a b;omega
 have i1:∀k,1100000≤k→ZL (k+6) a b=some (ctm a b):=fun k hk=>Zdg _ _ _ (by omega) (by omega);have s1:∀k,1100000≤k→ZK (k+6) a b=some (ctm a b):=fun k hk=>Zdj _ _ _ (by omega) (by omega);have i2:∀k,1100000≤k→ZO (k+6) a b=some (ctm a b==0):=fun k hk=>Zbu (by omega) (by omega);have s2:∀k,1100000≤k→ZN (k+6) a b=some (ctm a b==0):=fun k hk=>Zbw (by omega) (by omega);have me:nodeB ⟨op,w,0,⟨[]⟩,[a,b]⟩=true:=ZeW (by omega) (by omega) ha hb hw (fun _=>h1) (fun o=>by omega);obtain⟨ea,va⟩:=Xf ha ha0;by_cases e1:b.Op=op;rotate_left
 ·refine .fin me rfl (ZoH _) (fun k hk=> ?_) (fun k hk=> ?_)
  ·obtain⟨x,f⟩:=f1 k hk;rw[Zw (by omega) (by omega) hc];rcases ho with rfl|rfl|rfl|rfl|rfl<;>simp[Za,Zg,Ze,Zp,Zc,get0,get1,i1 k hk,i2 k hk,hs,hs2,ha0,hb0,f,e1]
  ·obtain⟨x,f⟩:=f2 k hk;rw[Zv (by omega) (by omega) hc];rcases ho with rfl|rfl|rfl|rfl|rfl<;>simp[Zh,Zg,Zq,get0,get1,s1 k hk,s2 k hk,gt,hs2,ha0,hb0,f,e1,Zk]
 obtain⟨c,d,eb,hcc,hd,hcd,hcw⟩:=Znr hb e1 (by omega) (by omega);have ekb:b.Kids=[c,d]:=by rw[eb]
 by_cases e2:c.Op=0;rotate_left
 ·refine .fin me rfl (ZoH _) (fun k hk=> ?_) (fun k hk=> ?_)
  ·obtain⟨x,f⟩:=f1 k hk;rw[Zw (by omega) (by omega) hc];rcases ho with rfl|rfl|rfl|rfl|rfl<;>simp[Za,Zg,Ze,Zp,Zc,get0,get1,i1 k hk,i2 k hk,hs,hs2,ha0,hb0,f,e1,ekb,e2]
  ·obtain⟨x,f⟩:=f2 k hk;rw[Zv (by omega) (by omega) hc];rcases ho with rfl|rfl|rfl|rfl|rfl<;>simp[Zh,Zg,Zq,get0,get1,s1 k hk,s2 k hk,gt,hs2,ha0,hb0,f,e1,Zk,ekb,e2]
 obtain⟨ec,vc⟩:=Xf hcc e2;obtain⟨r,q1,q2⟩:=Zdq op w a.N c.N;have vr:wordB w r=true:=(Zlr q1 (by rw[←h1];exact va) (by rw[←h1,hw,←hcw (by omega)];exact vc)).1 ⟨by omega,by omega⟩;have gw:=Yp vr
 refine .go 5 6 (u:=⟨op,w,0,⟨[]⟩,[⟨0,w,r,⟨[]⟩,[]⟩,d]⟩) (XI (ZeW (by omega) (by omega) (ZaO vr) hd (by show w=d.W;have:=hcw (by omega);omega) (fun _=>rfl) (fun o=>by omega)) rfl (by
  have pa:=Zcp a;have pc:=Zcp c
  rw[eb,cnt2,cnt2,cnt2,cnt0];omega)) (fun k hk=>?_) (fun k hk=>?_)
 ·obtain⟨x,f⟩:=f1 k hk;rw[Zw (by omega) (by omega) hc];rcases ho with rfl|rfl|rfl|rfl|rfl<;>simp[Za,Zo,Zg,Ze,Zp,Zc,get0,get1,i1 k hk,i2 k hk,hs,hs2,ha0,hb0,f,e1,ekb,e2,q2,ZZ vr]
 ·obtain⟨x,f⟩:=f2 k hk;rw[Zv (by omega) (by omega) hc];rcases ho with rfl|rfl|rfl|rfl|rfl<;>simp[Zh,Zg,Zq,get0,get1,s1 k hk,s2 k hk,gt,hs2,ha0,hb0,f,e1,Zk,ekb,e2,q1,Zi]
theorem ZjI{a:D.Term}(ha:nodeB a=true)(ha0:a.Op=0):∃o,ZbI a.W=some o∧Zbo a=some (a.N==o)∧1≤o∧wordB a.W o=true:=by
 have g:=YM ha;obtain⟨a1,a2,a3,a4,a5⟩:=Zb3 g.1 g.2;refine⟨2^a.W.toNat-1,?_,?_,by omega,by rw[Yf g.1 g.2];omega⟩
 ·unfold ZbI;rw[a2];simp only[Zo8];rw[a3]
 ·unfold Zbo;simp only[ha0,Zpw,ZoO,a1,Zo8,Zpa];rw[a3]
theorem Zjz{op w:Int}{a b:D.Term}(ho:op=3∨op=5∨op=8∨op=9∨op=10∨op=14)(ha:nodeB a=true)(hb:nodeB b=true)(hw:a.W=b.W)(h1:op≤13→a.W=w)(h2:14≤op→w=1)
  (ha0:a.Op=0)(hb0:b.Op≠0)(hn:cnt a≤240)(hs:ctm a b≠1):Stp ⟨op,w,0,⟨[]⟩,[a,b]⟩:=by
 have hma:=Zcq ha;have hc:(a.Op==0&&b.Op==0)=false:=by simp[hb0]
 have gt:¬0<ctm a b:=by have:=Zgh a b;omega
 have hs2:ctm a b≠0:=fun e=>by
  rw[Zdf]at e;by_cases q:sg a.Op b.Op=0
  ·unfold sg at q;split at q<;>(try split at q)<;>omega
  ·simp[q]at e
 have i1:∀k,1100000≤k→ZL (k+6) a b=some (ctm a b):=fun k hk=>Zdg _ _ _ (by omega) (by omega);have s1:∀k,1100000≤k→ZK (k+6) a b=some (ctm a b):=fun k hk=>Zdj _ _ _ (by omega) (by omega);have i2:∀k,1100000≤k→ZO (k+6) a b=some (ctm a b==0):=fun k hk=>Zbu (by omega) (by omega);have s2:∀k,1100000≤k→ZN (k+6) a b=some (ctm a b==0):=fun k hk=>Zbw (by omega) (by omega);have me:nodeB ⟨op,w,0,⟨[]⟩,[a,b]⟩=true:=ZeW (by omega) (by omega) ha hb hw h1 h2;obtain⟨o,o1,o2,o3,o4⟩:=ZjI ha ha0;obtain⟨ea,va⟩:=Xf ha ha0;have ga:=YM ha;have tb:cnt b≤cnt ⟨op,w,0,⟨[]⟩,[a,b]⟩:=by rw[cnt2];omega
 have tc:∀v,cnt ⟨0,w,v,⟨[]⟩,[]⟩≤cnt ⟨op,w,0,⟨[]⟩,[a,b]⟩:=fun v=>by rw[cnt2,cnt0];omega
 have ea0:op≤13→a.N=0→a=⟨0,w,0,⟨[]⟩,[]⟩:=fun q e=>by rw[ea,e,h1 q]
 have eao:op≤13→a.N=o→a=⟨0,w,o,⟨[]⟩,[]⟩:=fun q e=>by rw[ea,e,h1 q]
 rcases ho with rfl|rfl|rfl|rfl|rfl|rfl
 ·by_cases e0:a.N=0
  ·refine .fin hb (by show b.W=w;have:=h1 (by omega);omega) tb (fun k hk=> ?_) (fun k hk=> ?_)
   ·rw[Zw (by omega) (by omega) hc];simp[Za,Zu,Zo,Zg,Ze,Zp,Zc,get0,get1,i1 k hk,i2 k hk,hs,hs2,ha0,hb0,o1,e0]
   ·rw[Zv (by omega) (by omega) hc];simp[Zh,Z8,Zg,Zq,Zi,get0,get1,s1 k hk,s2 k hk,gt,hs2,ha0,hb0,o2,Zk,e0]
  refine Zcn (by simp) ha hb hw (h1 (by omega)) ha0 hb0 hn hs hs2 (fun k hk=>?_) (fun k hk=>?_)
  ·exact⟨⟨0,0,0,⟨[]⟩,[]⟩,by simp[Zu,ha0,o1,e0]⟩
  ·exact⟨_,by simp[Z8,Zq,get0,get1,ha0,o2,e0];rfl⟩
 ·by_cases e0:a.N=1
  ·refine .fin hb (by show b.W=w;have:=h1 (by omega);omega) tb (fun k hk=> ?_) (fun k hk=> ?_)
   ·rw[Zw (by omega) (by omega) hc];simp[Za,Zu,Zo,Zg,Ze,Zp,Zc,get0,get1,i1 k hk,i2 k hk,hs,hs2,ha0,hb0,o1,e0]
   ·rw[Zv (by omega) (by omega) hc];simp[Zh,Z8,Zg,Zq,Zi,get0,get1,s1 k hk,s2 k hk,gt,hs2,ha0,hb0,o2,Zk,e0]
  by_cases e1:a.N=0
  ·refine .fin ha (h1 (by omega)) (by rw[cnt2];omega) (fun k hk=> ?_) (fun k hk=> ?_)
   ·rw[Zw (by omega) (by omega) hc];simp[Za,Zu,Zo,Zg,Ze,Zp,Zc,get0,get1,i1 k hk,i2 k hk,hs,hs2,ha0,hb0,o1,e0,e1,ZZ (w:=w) (v:=0) (by have:=h1 (by omega);exact Zeg (by omega) (by omega))];exact(ea0 (by omega) (by assumption)).symm
   ·rw[Zv (by omega) (by omega) hc];simp[Zh,Z8,Zg,Zq,Zi,get0,get1,s1 k hk,s2 k hk,gt,hs2,ha0,hb0,o2,Zk,e0,e1,ZZ (w:=w) (v:=0) (by have:=h1 (by omega);exact Zeg (by omega) (by omega))]
  refine Zcn (by simp) ha hb hw (h1 (by omega)) ha0 hb0 hn hs hs2 (fun k hk=>?_) (fun k hk=>?_)
  ·exact⟨⟨0,0,0,⟨[]⟩,[]⟩,by simp[Zu,ha0,o1,e0,e1]⟩
  ·exact⟨_,by simp[Z8,Zq,get0,get1,ha0,o2,e0,e1];rfl⟩
 ·by_cases e0:a.N=o
  ·refine .fin hb (by show b.W=w;have:=h1 (by omega);omega) tb (fun k hk=> ?_) (fun k hk=> ?_)
   ·rw[Zw (by omega) (by omega) hc];simp[Za,Zu,Zo,Zg,Ze,Zp,Zc,get0,get1,i1 k hk,i2 k hk,hs,hs2,ha0,hb0,o1,e0,show¬o=0 by omega]
   ·rw[Zv (by omega) (by omega) hc];simp[Zh,Z8,Zg,Zq,Zi,get0,get1,s1 k hk,s2 k hk,gt,hs2,ha0,hb0,o2,Zk,e0,show¬o=0 by omega]
  by_cases e1:a.N=0
  ·refine .fin ha (h1 (by omega)) (by rw[cnt2];omega) (fun k hk=> ?_) (fun k hk=> ?_)
   ·rw[Zw (by omega) (by omega) hc];simp[Za,Zu,Zo,Zg,Ze,Zp,Zc,get0,get1,i1 k hk,i2 k hk,hs,hs2,ha0,hb0,o1,e0,e1,ZZ (w:=w) (v:=0) (by have:=h1 (by omega);exact Zeg (by omega) (by omega)),show¬0=o by omega];exact(ea0 (by omega) (by assumption)).symm
   ·rw[Zv (by omega) (by omega) hc];simp[Zh,Z8,Zg,Zq,Zi,get0,get1,s1 k hk,s2 k hk,gt,hs2,ha0,hb0,o2,Zk,e0,e1,ZZ (w:=w) (v:=0) (by have:=h1 (by omega);exact Zeg (by omega) (by omega)),show¬0=o by omega]
  refine Zcn (by simp) ha hb hw (h1 (by omega)) ha0 hb0 hn hs hs2 (fun k hk=>?_) (fun k hk=>?_)
  ·exact⟨⟨0,0,0,⟨[]⟩,[]⟩,by simp[Zu,ha0,o1,e0,e1]⟩
  ·exact⟨_,by simp[Z8,Zq,get0,get1,ha0,o2,e0,e1];rfl⟩
 ·by_cases e0:a.N=0
  ·refine .fin hb (by show b.W=w;have:=h1 (by omega);omega) tb (fun k hk=> ?_) (fun k hk=> ?_)
   ·rw[Zw (by omega) (by omega) hc];simp[Za,Zu,Zo,Zg,Ze,Zp,Zc,get0,get1,i1 k hk,i2 k hk,hs,hs2,ha0,hb0,o1,e0]
   ·rw[Zv (by omega) (by omega) hc];simp[Zh,Z8,Zg,Zq,Zi,get0,get1,s1 k hk,s2 k hk,gt,hs2,ha0,hb0,o2,Zk,e0]
  by_cases e1:a.N=o
  ·refine .fin ha (h1 (by omega)) (by rw[cnt2];omega) (fun k hk=> ?_) (fun k hk=> ?_)
   ·rw[Zw (by omega) (by omega) hc];simp[Za,Zu,Zo,Zg,Ze,Zp,Zc,get0,get1,i1 k hk,i2 k hk,hs,hs2,ha0,hb0,o1,e0,e1,ZZ (w:=w) (v:=o) (by have:=h1 (by omega);rw[←this];exact o4),show¬o=0 by omega];exact(eao (by omega) (by assumption)).symm
   ·rw[Zv (by omega) (by omega) hc];simp[Zh,Z8,Zg,Zq,Zi,get0,get1,s1 k hk,s2 k hk,gt,hs2,ha0,hb0,o2,Zk,e0,e1,ZZ (w:=w) (v:=o) (by have:=h1 (by omega);rw[←this];exact o4),show¬o=0 by omega]
  refine Zcn (by simp) ha hb hw (h1 (by omega)) ha0 hb0 hn hs hs2 (fun k hk=>?_) (fun k hk=>?_)
  ·exact⟨⟨0,0,0,⟨[]⟩,[]⟩,by simp[Zu,ha0,o1,e0,e1]⟩
  ·exact⟨_,by simp[Z8,Zq,get0,get1,ha0,o2,e0,e1];rfl⟩
 ·by_cases e0:a.N=0
  ·refine .fin hb (by show b.W=w;have:=h1 (by omega);omega) tb (fun k hk=> ?_) (fun k hk=> ?_)
   ·rw[Zw (by omega) (by omega) hc];simp[Za,Zu,Zo,Zg,Ze,Zp,Zc,get0,get1,i1 k hk,i2 k hk,hs,hs2,ha0,hb0,o1,e0]
   ·rw[Zv (by omega) (by omega) hc];simp[Zh,Z8,Zg,Zq,Zi,get0,get1,s1 k hk,s2 k hk,gt,hs2,ha0,hb0,o2,Zk,e0]
  by_cases e1:a.N=o
  ·refine .go 4 5 (u:=⟨1,w,0,⟨[]⟩,[b]⟩) (XI (Zhs (.inl rfl) hb (by have:=h1 (by omega);omega)) rfl (by have:=Zcp a;rw[cnt1,cnt2];omega)) (fun k hk=> ?_) (fun k hk=> ?_)
   ·rw[Zw (by omega) (by omega) hc];simp[Za,Zu,Zo,Zg,Ze,Zp,Zc,get0,get1,i1 k hk,i2 k hk,hs,hs2,ha0,hb0,o1,e0,e1,show¬o=0 by omega];generalize ZE (k+4) _=z;cases z<;>simp
   ·rw[Zv (by omega) (by omega) hc];simp[Zh,Z8,Zg,Zq,Zi,get0,get1,s1 k hk,s2 k hk,gt,hs2,ha0,hb0,o2,Zk,e0,e1,show¬o=0 by omega];generalize Z4 (k+5) _=z;cases z<;>simp
  refine Zcn (by simp) ha hb hw (h1 (by omega)) ha0 hb0 hn hs hs2 (fun k hk=>?_) (fun k hk=>?_)
  ·exact⟨⟨0,0,0,⟨[]⟩,[]⟩,by simp[Zu,ha0,o1,e0,e1]⟩
  ·exact⟨_,by simp[Z8,Zq,get0,get1,ha0,o2,e0,e1];rfl⟩
 ·have hw1:=h2 (by omega);by_cases q:a.W=1
  ·rw[q]at va o1;have hv:=(Yf (by omega) (by omega) a.N).1 va;have hv2:a.N=0∨a.N=1:=by
    have:(2:Int)^(1:Int).toNat=2:=rfl;omega
   rcases hv2 with e|e
   ·refine .go 4 5 (u:=⟨1,1,0,⟨[]⟩,[b]⟩) (XI (Zhs (.inl rfl) hb (by omega)) hw1.symm (by have:=Zcp a;rw[cnt1,cnt2];omega)) (fun k hk=> ?_) (fun k hk=> ?_)
    ·rw[Zw (by omega) (by omega) hc];simp[Za,Zu,Zo,Zg,Ze,Zp,Zc,get0,get1,i1 k hk,i2 k hk,hs,hs2,ha0,hb0,o1,e,q,hw1];generalize ZE (k+4) _=z;cases z<;>simp
    ·rw[Zv (by omega) (by omega) hc];simp[Zh,Z8,Zg,Zq,Zi,get0,get1,s1 k hk,s2 k hk,gt,hs2,ha0,hb0,o2,Zk,e,q,hw1];generalize Z4 (k+5) _=z;cases z<;>simp
   ·refine .fin hb (by show b.W=w;omega) tb (fun k hk=> ?_) (fun k hk=> ?_)
    ·rw[Zw (by omega) (by omega) hc];simp[Za,Zu,Zo,Zg,Ze,Zp,Zc,get0,get1,i1 k hk,i2 k hk,hs,hs2,ha0,hb0,o1,e,q]
    ·rw[Zv (by omega) (by omega) hc];simp[Zh,Z8,Zg,Zq,Zi,get0,get1,s1 k hk,s2 k hk,gt,hs2,ha0,hb0,o2,Zk,e,q]
  ·refine .fin me rfl (ZoH _) (fun k hk=> ?_) (fun k hk=> ?_)
   ·rw[Zw (by omega) (by omega) hc];simp[Za,Zu,Zo,Zg,Ze,Zp,Zc,get0,get1,i1 k hk,i2 k hk,hs,hs2,ha0,hb0,o1,q]
   ·rw[Zv (by omega) (by omega) hc];simp[Zh,Z8,Zg,Zq,Zi,get0,get1,s1 k hk,s2 k hk,gt,hs2,ha0,hb0,o2,Zk,q]
theorem Zik{op w:Int}{a b:D.Term}(ho:op=4∨op=6∨op=7∨op=11∨op=12∨op=13∨op=15∨op=16)(ha:nodeB a=true)(hb:nodeB b=true)(hw:a.W=b.W)(h1:op≤13→a.W=w)(h2:14≤op→w=1)
  (ha0:a.Op=0)(hb0:b.Op≠0)(hn:cnt a≤240):Stp ⟨op,w,0,⟨[]⟩,[a,b]⟩:=by
 have hma:=Zcq ha;have hc:(a.Op==0&&b.Op==0)=false:=by simp[hb0]
 have hs2:ctm a b≠0:=fun e=>by
  rw[Zdf]at e;by_cases q:sg a.Op b.Op=0
  ·unfold sg at q;split at q<;>(try split at q)<;>omega
  ·simp[q]at e
 have i2:∀k,1100000≤k→ZO (k+6) a b=some (ctm a b==0):=fun k hk=>Zbu (by omega) (by omega);have s2:∀k,1100000≤k→ZN (k+6) a b=some (ctm a b==0):=fun k hk=>Zbw (by omega) (by omega);have me:nodeB ⟨op,w,0,⟨[]⟩,[a,b]⟩=true:=ZeW (by omega) (by omega) ha hb hw h1 h2;obtain⟨o,o1,o2,o3,o4⟩:=ZjI ha ha0;refine .fin me rfl (ZoH _) (fun k hk=>?_) (fun k hk=>?_)
 ·rw[Zw (by omega) (by omega) hc];rcases ho with rfl|rfl|rfl|rfl|rfl|rfl|rfl|rfl<;>simp[Za,Zu,Zg,Ze,Zp,Zc,get0,get1,i2 k hk,hs2,ha0,hb0,o1]
 ·rw[Zv (by omega) (by omega) hc];rcases ho with rfl|rfl|rfl|rfl|rfl|rfl|rfl|rfl<;>simp[Zh,Z8,Zg,Zq,get0,get1,s2 k hk,hs2,ha0,hb0,o2,Zk]
theorem Zhj{op w:Int}{a b:D.Term}(h3:3≤op)(h16:op≤16)(ha:nodeB a=true)(hb:nodeB b=true)(hw:a.W=b.W)(h1:op≤13→a.W=w)(h2:14≤op→w=1)
  (ha0:a.Op≠0)(hn:cnt a≤240)(hs:op=3∨op=5∨op=8∨op=9∨op=10∨op=14→ctm a b≠1):Stp ⟨op,w,0,⟨[]⟩,[a,b]⟩:=by
 have hma:=Zcq ha;have hc:(a.Op==0&&b.Op==0)=false:=by simp[ha0]
 have ga:=YM ha;have i1:∀k,1100000≤k→ZL (k+6) a b=some (ctm a b):=fun k hk=>Zdg _ _ _ (by omega) (by omega);have s1:∀k,1100000≤k→ZK (k+6) a b=some (ctm a b):=fun k hk=>Zdj _ _ _ (by omega) (by omega);have i2:∀k,1100000≤k→ZO (k+6) a b=some (ctm a b==0):=fun k hk=>Zbu (by omega) (by omega);have s2:∀k,1100000≤k→ZN (k+6) a b=some (ctm a b==0):=fun k hk=>Zbw (by omega) (by omega);have me:nodeB ⟨op,w,0,⟨[]⟩,[a,b]⟩=true:=ZeW (by omega) (by omega) ha hb hw h1 h2;have hw1:1≤w∧w≤16:=by omega
 have hz:=Zeg hw1.1 hw1.2;have ta:cnt a≤cnt ⟨op,w,0,⟨[]⟩,[a,b]⟩:=by rw[cnt2];omega
 have tc:∀v,cnt ⟨0,w,v,⟨[]⟩,[]⟩≤cnt ⟨op,w,0,⟨[]⟩,[a,b]⟩:=fun v=>by rw[cnt2,cnt0];omega
 have hop:op=3∨op=4∨op=5∨op=6∨op=7∨op=8∨op=9∨op=10∨op=11∨op=12∨op=13∨op=14∨op=15∨op=16:=by omega
 have gt:op=3∨op=5∨op=8∨op=9∨op=10∨op=14→¬0<ctm a b:=fun o=>by have:=Zgh a b;have:=hs o;omega
 by_cases z:b.Op=0∧b.N=0
 ·have c1:Zp b 0=some true:=by simp[Zp,z.1,z.2]
  have c2:Zq b 0=some true:=by simp[Zq,z.1,z.2]
  have hs2:ctm a b≠0:=fun e=>by
   rw[Zdf]at e;by_cases q:sg a.Op b.Op=0
   ·unfold sg at q;split at q<;>(try split at q)<;>omega
   ·simp[q]at e
  rcases hop with rfl|rfl|rfl|rfl|rfl|rfl|rfl|rfl|rfl|rfl|rfl|rfl|rfl|rfl
  ·refine .fin me rfl (ZoH _) (fun k hk=> ?_) (fun k hk=> ?_)
   ·rw[Zw (by omega) (by omega) hc];simp[Za,Zg,Ze,Zc,get0,get1,i1 k hk,i2 k hk,ha0,c1,hs2,hs (by simp)]
   ·rw[Zv (by omega) (by omega) hc];simp[Zh,Zl,Zg,Zi,get0,get1,s1 k hk,s2 k hk,ha0,c2,Zk,hs2,gt (by simp)]
  ·refine .fin ha (h1 (by omega)) ta (fun k hk=> ?_) (fun k hk=> ?_)
   ·rw[Zw (by omega) (by omega) hc];simp[Za,Zg,Ze,Zc,get0,get1,i1 k hk,i2 k hk,ha0,c1]
   ·rw[Zv (by omega) (by omega) hc];simp[Zh,Zl,Zg,Zi,get0,get1,s1 k hk,s2 k hk,ha0,c2,Zk]
  ·refine .fin me rfl (ZoH _) (fun k hk=> ?_) (fun k hk=> ?_)
   ·rw[Zw (by omega) (by omega) hc];simp[Za,Zg,Ze,Zc,get0,get1,i1 k hk,i2 k hk,ha0,c1,hs2,hs (by simp)]
   ·rw[Zv (by omega) (by omega) hc];simp[Zh,Zl,Zg,Zi,get0,get1,s1 k hk,s2 k hk,ha0,c2,Zk,hs2,gt (by simp)]
  ·refine .fin me rfl (ZoH _) (fun k hk=> ?_) (fun k hk=> ?_)
   ·rw[Zw (by omega) (by omega) hc];simp[Za,Zg,Ze,Zc,get0,get1,i1 k hk,i2 k hk,ha0,c1,hs2]
   ·rw[Zv (by omega) (by omega) hc];simp[Zh,Zl,Zg,Zi,get0,get1,s1 k hk,s2 k hk,ha0,c2,Zk,hs2]
  ·refine .fin me rfl (ZoH _) (fun k hk=> ?_) (fun k hk=> ?_)
   ·rw[Zw (by omega) (by omega) hc];simp[Za,Zg,Ze,Zc,get0,get1,i1 k hk,i2 k hk,ha0,c1,hs2]
   ·rw[Zv (by omega) (by omega) hc];simp[Zh,Zl,Zg,Zi,get0,get1,s1 k hk,s2 k hk,ha0,c2,Zk,hs2]
  ·refine .fin me rfl (ZoH _) (fun k hk=> ?_) (fun k hk=> ?_)
   ·rw[Zw (by omega) (by omega) hc];simp[Za,Zg,Ze,Zc,get0,get1,i1 k hk,i2 k hk,ha0,c1,hs2,hs (by simp)]
   ·rw[Zv (by omega) (by omega) hc];simp[Zh,Zl,Zg,Zi,get0,get1,s1 k hk,s2 k hk,ha0,c2,Zk,hs2,gt (by simp)]
  ·refine .fin me rfl (ZoH _) (fun k hk=> ?_) (fun k hk=> ?_)
   ·rw[Zw (by omega) (by omega) hc];simp[Za,Zg,Ze,Zc,get0,get1,i1 k hk,i2 k hk,ha0,c1,hs2,hs (by simp)]
   ·rw[Zv (by omega) (by omega) hc];simp[Zh,Zl,Zg,Zi,get0,get1,s1 k hk,s2 k hk,ha0,c2,Zk,hs2,gt (by simp)]
  ·refine .fin me rfl (ZoH _) (fun k hk=> ?_) (fun k hk=> ?_)
   ·rw[Zw (by omega) (by omega) hc];simp[Za,Zg,Ze,Zc,get0,get1,i1 k hk,i2 k hk,ha0,c1,hs2,hs (by simp)]
   ·rw[Zv (by omega) (by omega) hc];simp[Zh,Zl,Zg,Zi,get0,get1,s1 k hk,s2 k hk,ha0,c2,Zk,hs2,gt (by simp)]
  ·refine .fin ha (h1 (by omega)) ta (fun k hk=> ?_) (fun k hk=> ?_)
   ·rw[Zw (by omega) (by omega) hc];simp[Za,Zg,Ze,Zc,get0,get1,i1 k hk,i2 k hk,ha0,c1]
   ·rw[Zv (by omega) (by omega) hc];simp[Zh,Zl,Zg,Zi,get0,get1,s1 k hk,s2 k hk,ha0,c2,Zk]
  ·refine .fin ha (h1 (by omega)) ta (fun k hk=> ?_) (fun k hk=> ?_)
   ·rw[Zw (by omega) (by omega) hc];simp[Za,Zg,Ze,Zc,get0,get1,i1 k hk,i2 k hk,ha0,c1]
   ·rw[Zv (by omega) (by omega) hc];simp[Zh,Zl,Zg,Zi,get0,get1,s1 k hk,s2 k hk,ha0,c2,Zk]
  ·refine .fin ha (h1 (by omega)) ta (fun k hk=> ?_) (fun k hk=> ?_)
   ·rw[Zw (by omega) (by omega) hc];simp[Za,Zg,Ze,Zc,get0,get1,i1 k hk,i2 k hk,ha0,c1]
   ·rw[Zv (by omega) (by omega) hc];simp[Zh,Zl,Zg,Zi,get0,get1,s1 k hk,s2 k hk,ha0,c2,Zk]
  ·refine .fin me rfl (ZoH _) (fun k hk=> ?_) (fun k hk=> ?_)
   ·rw[Zw (by omega) (by omega) hc];simp[Za,Zg,Ze,Zc,get0,get1,i1 k hk,i2 k hk,ha0,c1,hs2,hs (by simp)]
   ·rw[Zv (by omega) (by omega) hc];simp[Zh,Zl,Zg,Zi,get0,get1,s1 k hk,s2 k hk,ha0,c2,Zk,hs2,gt (by simp)]
  ·obtain rfl:=h2 (by omega);refine .fin (ZaO (w:=1) (v:=0) (hz)) rfl (tc _) (fun k hk=>?_) (fun k hk=>?_)
   ·rw[Zw (by omega) (by omega) hc];simp[Za,Zg,Ze,Zc,get0,get1,i1 k hk,i2 k hk,ha0,c1,ZZ hz]
   ·rw[Zv (by omega) (by omega) hc];simp[Zh,Zl,Zg,Zi,get0,get1,s1 k hk,s2 k hk,ha0,c2,Zk]
  ·refine .fin me rfl (ZoH _) (fun k hk=> ?_) (fun k hk=> ?_)
   ·rw[Zw (by omega) (by omega) hc];simp[Za,Zg,Ze,Zc,get0,get1,i1 k hk,i2 k hk,ha0,c1,hs2]
   ·rw[Zv (by omega) (by omega) hc];simp[Zh,Zl,Zg,Zi,get0,get1,s1 k hk,s2 k hk,ha0,c2,Zk,hs2]
 ·have c1:Zp b 0=some false:=by
   unfold Zp;cases h:(b.Op==0&&b.N==0)
   ·rfl
   ·rw[ZoB,Zpf,Zpf]at h;exact absurd h z
  have c2:Zq b 0=some false:=by
   unfold Zq;cases h:(b.Op==0&&b.N==0)
   ·rfl
   ·rw[ZoB,Zpf,Zpf]at h;exact absurd h z
  by_cases e:ctm a b=0
  ·rcases hop with rfl|rfl|rfl|rfl|rfl|rfl|rfl|rfl|rfl|rfl|rfl|rfl|rfl|rfl
   ·refine .fin me rfl (ZoH _) (fun k hk=> ?_) (fun k hk=> ?_)
    ·rw[Zw (by omega) (by omega) hc];simp[Za,Zg,Ze,Zc,get0,get1,i1 k hk,i2 k hk,ha0,c1,e]
    ·rw[Zv (by omega) (by omega) hc];simp[Zh,Zl,Zg,Zi,get0,get1,s1 k hk,s2 k hk,ha0,c2,Zk,e]
   ·refine .fin (ZaO (w:=w) (v:=0) (hz)) rfl (tc _) (fun k hk=> ?_) (fun k hk=> ?_)
    ·rw[Zw (by omega) (by omega) hc];simp[Za,Zg,Ze,Zc,get0,get1,i1 k hk,i2 k hk,ha0,c1,e,ZZ hz]
    ·rw[Zv (by omega) (by omega) hc];simp[Zh,Zl,Zg,Zi,get0,get1,s1 k hk,s2 k hk,ha0,c2,Zk,e]
   ·refine .fin me rfl (ZoH _) (fun k hk=> ?_) (fun k hk=> ?_)
    ·rw[Zw (by omega) (by omega) hc];simp[Za,Zg,Ze,Zc,get0,get1,i1 k hk,i2 k hk,ha0,c1,e]
    ·rw[Zv (by omega) (by omega) hc];simp[Zh,Zl,Zg,Zi,get0,get1,s1 k hk,s2 k hk,ha0,c2,Zk,e]
   ·refine .fin me rfl (ZoH _) (fun k hk=> ?_) (fun k hk=> ?_)
    ·rw[Zw (by omega) (by omega) hc];simp[Za,Zg,Ze,Zc,get0,get1,i1 k hk,i2 k hk,ha0,c1,e]
    ·rw[Zv (by omega) (by omega) hc];simp[Zh,Zl,Zg,Zi,get0,get1,s1 k hk,s2 k hk,ha0,c2,Zk,e]
   ·refine .fin me rfl (ZoH _) (fun k hk=> ?_) (fun k hk=> ?_)
    ·rw[Zw (by omega) (by omega) hc];simp[Za,Zg,Ze,Zc,get0,get1,i1 k hk,i2 k hk,ha0,c1,e]
    ·rw[Zv (by omega) (by omega) hc];simp[Zh,Zl,Zg,Zi,get0,get1,s1 k hk,s2 k hk,ha0,c2,Zk,e]
   ·refine .fin ha (h1 (by omega)) ta (fun k hk=> ?_) (fun k hk=> ?_)
    ·rw[Zw (by omega) (by omega) hc];simp[Za,Zg,Ze,Zc,get0,get1,i1 k hk,i2 k hk,ha0,c1,e]
    ·rw[Zv (by omega) (by omega) hc];simp[Zh,Zl,Zg,Zi,get0,get1,s1 k hk,s2 k hk,ha0,c2,Zk,e]
   ·refine .fin ha (h1 (by omega)) ta (fun k hk=> ?_) (fun k hk=> ?_)
    ·rw[Zw (by omega) (by omega) hc];simp[Za,Zg,Ze,Zc,get0,get1,i1 k hk,i2 k hk,ha0,c1,e]
    ·rw[Zv (by omega) (by omega) hc];simp[Zh,Zl,Zg,Zi,get0,get1,s1 k hk,s2 k hk,ha0,c2,Zk,e]
   ·refine .fin (ZaO (w:=w) (v:=0) (hz)) rfl (tc _) (fun k hk=> ?_) (fun k hk=> ?_)
    ·rw[Zw (by omega) (by omega) hc];simp[Za,Zg,Ze,Zc,get0,get1,i1 k hk,i2 k hk,ha0,c1,e,ZZ hz]
    ·rw[Zv (by omega) (by omega) hc];simp[Zh,Zl,Zg,Zi,get0,get1,s1 k hk,s2 k hk,ha0,c2,Zk,e]
   ·refine .fin me rfl (ZoH _) (fun k hk=> ?_) (fun k hk=> ?_)
    ·rw[Zw (by omega) (by omega) hc];simp[Za,Zg,Ze,Zc,get0,get1,i1 k hk,i2 k hk,ha0,c1,e]
    ·rw[Zv (by omega) (by omega) hc];simp[Zh,Zl,Zg,Zi,get0,get1,s1 k hk,s2 k hk,ha0,c2,Zk,e]
   ·refine .fin me rfl (ZoH _) (fun k hk=> ?_) (fun k hk=> ?_)
    ·rw[Zw (by omega) (by omega) hc];simp[Za,Zg,Ze,Zc,get0,get1,i1 k hk,i2 k hk,ha0,c1,e]
    ·rw[Zv (by omega) (by omega) hc];simp[Zh,Zl,Zg,Zi,get0,get1,s1 k hk,s2 k hk,ha0,c2,Zk,e]
   ·refine .fin me rfl (ZoH _) (fun k hk=> ?_) (fun k hk=> ?_)
    ·rw[Zw (by omega) (by omega) hc];simp[Za,Zg,Ze,Zc,get0,get1,i1 k hk,i2 k hk,ha0,c1,e]
    ·rw[Zv (by omega) (by omega) hc];simp[Zh,Zl,Zg,Zi,get0,get1,s1 k hk,s2 k hk,ha0,c2,Zk,e]
   ·obtain rfl:=h2 (by omega);refine .fin (ZaO (w:=1) (v:=1) (by decide)) rfl (tc _) (fun k hk=>?_) (fun k hk=>?_)
    ·rw[Zw (by omega) (by omega) hc];simp[Za,Zg,Ze,Zc,get0,get1,i1 k hk,i2 k hk,ha0,c1,e,ZZ (w:=1) (v:=1) (by decide)]
    ·rw[Zv (by omega) (by omega) hc];simp[Zh,Zl,Zg,Zi,get0,get1,s1 k hk,s2 k hk,ha0,c2,Zk,e]
   ·refine .fin (ZaO (w:=w) (v:=0) (hz)) rfl (tc _) (fun k hk=> ?_) (fun k hk=> ?_)
    ·rw[Zw (by omega) (by omega) hc];simp[Za,Zg,Ze,Zc,get0,get1,i1 k hk,i2 k hk,ha0,c1,e,ZZ hz]
    ·rw[Zv (by omega) (by omega) hc];simp[Zh,Zl,Zg,Zi,get0,get1,s1 k hk,s2 k hk,ha0,c2,Zk,e]
   ·refine .fin (ZaO (w:=w) (v:=0) (hz)) rfl (tc _) (fun k hk=> ?_) (fun k hk=> ?_)
    ·rw[Zw (by omega) (by omega) hc];simp[Za,Zg,Ze,Zc,get0,get1,i1 k hk,i2 k hk,ha0,c1,e,ZZ hz]
    ·rw[Zv (by omega) (by omega) hc];simp[Zh,Zl,Zg,Zi,get0,get1,s1 k hk,s2 k hk,ha0,c2,Zk,e]
  ·rcases hop with rfl|rfl|rfl|rfl|rfl|rfl|rfl|rfl|rfl|rfl|rfl|rfl|rfl|rfl
   ·refine .fin me rfl (ZoH _) (fun k hk=> ?_) (fun k hk=> ?_)
    ·rw[Zw (by omega) (by omega) hc];simp[Za,Zg,Ze,Zc,get0,get1,i1 k hk,i2 k hk,ha0,c1,e,hs (by simp)]
    ·rw[Zv (by omega) (by omega) hc];simp[Zh,Zl,Zg,Zi,get0,get1,s1 k hk,s2 k hk,ha0,c2,Zk,e,gt (by simp)]
   ·refine .fin me rfl (ZoH _) (fun k hk=> ?_) (fun k hk=> ?_)
    ·rw[Zw (by omega) (by omega) hc];simp[Za,Zg,Ze,Zc,get0,get1,i1 k hk,i2 k hk,ha0,c1,e]
    ·rw[Zv (by omega) (by omega) hc];simp[Zh,Zl,Zg,Zi,get0,get1,s1 k hk,s2 k hk,ha0,c2,Zk,e]
   ·refine .fin me rfl (ZoH _) (fun k hk=> ?_) (fun k hk=> ?_)
    ·rw[Zw (by omega) (by omega) hc];simp[Za,Zg,Ze,Zc,get0,get1,i1 k hk,i2 k hk,ha0,c1,e,hs (by simp)]
    ·rw[Zv (by omega) (by omega) hc];simp[Zh,Zl,Zg,Zi,get0,get1,s1 k hk,s2 k hk,ha0,c2,Zk,e,gt (by simp)]
   ·refine .fin me rfl (ZoH _) (fun k hk=> ?_) (fun k hk=> ?_)
    ·rw[Zw (by omega) (by omega) hc];simp[Za,Zg,Ze,Zc,get0,get1,i1 k hk,i2 k hk,ha0,c1,e]
    ·rw[Zv (by omega) (by omega) hc];simp[Zh,Zl,Zg,Zi,get0,get1,s1 k hk,s2 k hk,ha0,c2,Zk,e]
   ·refine .fin me rfl (ZoH _) (fun k hk=> ?_) (fun k hk=> ?_)
    ·rw[Zw (by omega) (by omega) hc];simp[Za,Zg,Ze,Zc,get0,get1,i1 k hk,i2 k hk,ha0,c1,e]
    ·rw[Zv (by omega) (by omega) hc];simp[Zh,Zl,Zg,Zi,get0,get1,s1 k hk,s2 k hk,ha0,c2,Zk,e]
   ·refine .fin me rfl (ZoH _) (fun k hk=> ?_) (fun k hk=> ?_)
    ·rw[Zw (by omega) (by omega) hc];simp[Za,Zg,Ze,Zc,get0,get1,i1 k hk,i2 k hk,ha0,c1,e,hs (by simp)]
    ·rw[Zv (by omega) (by omega) hc];simp[Zh,Zl,Zg,Zi,get0,get1,s1 k hk,s2 k hk,ha0,c2,Zk,e,gt (by simp)]
   ·refine .fin me rfl (ZoH _) (fun k hk=> ?_) (fun k hk=> ?_)
    ·rw[Zw (by omega) (by omega) hc];simp[Za,Zg,Ze,Zc,get0,get1,i1 k hk,i2 k hk,ha0,c1,e,hs (by simp)]
    ·rw[Zv (by omega) (by omega) hc];simp[Zh,Zl,Zg,Zi,get0,get1,s1 k hk,s2 k hk,ha0,c2,Zk,e,gt (by simp)]
   ·refine .fin me rfl (ZoH _) (fun k hk=> ?_) (fun k hk=> ?_)
    ·rw[Zw (by omega) (by omega) hc];simp[Za,Zg,Ze,Zc,get0,get1,i1 k hk,i2 k hk,ha0,c1,e,hs (by simp)]
    ·rw[Zv (by omega) (by omega) hc];simp[Zh,Zl,Zg,Zi,get0,get1,s1 k hk,s2 k hk,ha0,c2,Zk,e,gt (by simp)]
   ·refine .fin me rfl (ZoH _) (fun k hk=> ?_) (fun k hk=> ?_)
    ·rw[Zw (by omega) (by omega) hc];simp[Za,Zg,Ze,Zc,get0,get1,i1 k hk,i2 k hk,ha0,c1,e]
    ·rw[Zv (by omega) (by omega) hc];simp[Zh,Zl,Zg,Zi,get0,get1,s1 k hk,s2 k hk,ha0,c2,Zk,e]
   ·refine .fin me rfl (ZoH _) (fun k hk=> ?_) (fun k hk=> ?_)
    ·rw[Zw (by omega) (by omega) hc];simp[Za,Zg,Ze,Zc,get0,get1,i1 k hk,i2 k hk,ha0,c1,e]
    ·rw[Zv (by omega) (by omega) hc];simp[Zh,Zl,Zg,Zi,get0,get1,s1 k hk,s2 k hk,ha0,c2,Zk,e]
   ·refine .fin me rfl (ZoH _) (fun k hk=> ?_) (fun k hk=> ?_)
    ·rw[Zw (by omega) (by omega) hc];simp[Za,Zg,Ze,Zc,get0,get1,i1 k hk,i2 k hk,ha0,c1,e]
    ·rw[Zv (by omega) (by omega) hc];simp[Zh,Zl,Zg,Zi,get0,get1,s1 k hk,s2 k hk,ha0,c2,Zk,e]
   ·refine .fin me rfl (ZoH _) (fun k hk=> ?_) (fun k hk=> ?_)
    ·rw[Zw (by omega) (by omega) hc];simp[Za,Zg,Ze,Zc,get0,get1,i1 k hk,i2 k hk,ha0,c1,e,hs (by simp)]
    ·rw[Zv (by omega) (by omega) hc];simp[Zh,Zl,Zg,Zi,get0,get1,s1 k hk,s2 k hk,ha0,c2,Zk,e,gt (by simp)]
   ·refine .fin me rfl (ZoH _) (fun k hk=> ?_) (fun k hk=> ?_)
    ·rw[Zw (by omega) (by omega) hc];simp[Za,Zg,Ze,Zc,get0,get1,i1 k hk,i2 k hk,ha0,c1,e]
    ·rw[Zv (by omega) (by omega) hc];simp[Zh,Zl,Zg,Zi,get0,get1,s1 k hk,s2 k hk,ha0,c2,Zk,e]
   ·refine .fin me rfl (ZoH _) (fun k hk=> ?_) (fun k hk=> ?_)
    ·rw[Zw (by omega) (by omega) hc];simp[Za,Zg,Ze,Zc,get0,get1,i1 k hk,i2 k hk,ha0,c1,e]
    ·rw[Zv (by omega) (by omega) hc];simp[Zh,Zl,Zg,Zi,get0,get1,s1 k hk,s2 k hk,ha0,c2,Zk,e]
theorem ZlH{op w:Int}{a b:D.Term}(h3:3≤op)(h16:op≤16)(ha:nodeB a=true)(hb:nodeB b=true)(hw:a.W=b.W)(h1:op≤13→a.W=w)(h2:14≤op→w=1)(hc:(a.Op==0&&b.Op==0)=false)(hn:cnt a≤240):Stp ⟨op,w,0,⟨[]⟩,[a,b]⟩:=by
 by_cases ho:op=3∨op=5∨op=8∨op=9∨op=10∨op=14
 ·by_cases hs:ctm a b=1
  ·exact Zkp ho ha hb hw h1 h2 hc hn hs
  by_cases ha0:a.Op=0
  ·exact Zjz ho ha hb hw h1 h2 ha0 (fun e=>by simp[ha0,e]at hc) hn hs
  ·exact Zhj h3 h16 ha hb hw h1 h2 ha0 hn fun _=>hs
 ·by_cases ha0:a.Op=0
  ·exact Zik (by omega) ha hb hw h1 h2 ha0 (fun e=>by simp[ha0,e]at hc) hn
  ·exact Zhj h3 h16 ha hb hw h1 h2 ha0 hn fun o=>absurd o ho
theorem step{t:D.Term}(h:nodeB t=true)(hn:cnt t≤240):Stp t:=by
 obtain⟨op,w,m,nm,ks⟩:=t;obtain⟨⟨w1,w2⟩,hs⟩:=XU h;by_cases hc:ks≠[]∧(ks.all fun x=>x.Op==0)=true
 ·refine Zjy h hc.1 ?_ hc.2;rcases hs with⟨_,rfl,_⟩|⟨_,rfl,_⟩|⟨_,_,_,a,rfl,_⟩|⟨_,_,_,_,a,b,rfl,_⟩|⟨_,_,_,a,b,c,rfl,_⟩|⟨_,_,_,a,b,rfl,_⟩|⟨_,_,_,_,a,rfl,_⟩|⟨_,_,_,a,rfl,_⟩<;>simp
 have hc:ks≠[]→(ks.all fun x=>x.Op==0)=false:=fun e=>by
  cases q:ks.all fun x=>x.Op==0
  ·rfl
  ·exact absurd ⟨e,q⟩ hc
 rcases hs with⟨ho,rfl,rfl,hv⟩|⟨ho,rfl,rfl⟩|⟨ho,rfl,rfl,a,rfl,ha,hw⟩|⟨h3,h16,rfl,rfl,a,b,rfl,ha,hb,hab,e1,e2⟩|⟨rfl,rfl,rfl,a,b,c,rfl,ha,hb,hcc,aw,bw,cw⟩|⟨rfl,rfl,rfl,a,b,rfl,ha,hb,hab⟩|⟨rfl,rfl,m0,m16,a,rfl,ha,haw⟩|⟨ho,rfl,rfl,a,rfl,ha,haw⟩
 ·exact Zhg h (.inl ho)
 ·exact Zhg h (.inr ho)
 ·exact Zn7 ho ha hw (by have:=hc (by simp);simpa using this)
 ·rw[cnt2]at hn;exact ZlH h3 h16 ha hb hab e1 e2 (by have:=hc (by simp);simpa using this) (by omega)
 ·rw[cnt3]at hn;exact Zn3 ha hb hcc aw bw cw (by have:=hc (by simp);simpa using this) (by omega)
 ·rw[cnt2]at hn;exact ZkL ha hb hab w2 (by have:=hc (by simp);simpa using this) (by omega)
 ·exact ZlT ha m0 m16 w1 haw (by have:=hc (by simp);simpa using this)
 ·exact ZlQ ho ha haw w2 (by have:=hc (by simp);simpa using this)
theorem simpler:∀(d:Nat)(t:D.Term),mea t≤d→nodeB t=true→cnt t≤240→∃r,nodeB r=true∧r.W=t.W∧cnt r≤cnt t∧(∀n,1100000+8*(d+1)≤n→ZE n t=some r)∧∀n,1100000+8*(d+1)≤n→Z4 n t=some r:=by
 intro d
 induction d with
 |zero=>
  intro t h;have:=Zcp t;unfold mea at h;omega
 | succ d ih=>
  intro t hm h hn;obtain⟨s,hg,h1,h2⟩:=step h hn;cases s with
  | inl r=>
   refine⟨r,hg.1,hg.2.1,hg.2.2,fun n hn=>?_,fun n hn=>?_⟩
   ·obtain⟨k,rfl⟩:∃k,n=k+8:=⟨n-8,by omega⟩;obtain⟨k',_,e⟩:=h1 k (by omega);exact e
   ·obtain⟨k,rfl⟩:∃k,n=k+8:=⟨n-8,by omega⟩;obtain⟨k',_,e⟩:=h2 k (by omega);exact e
  | inr u=>
   obtain⟨g1,g2,g3,g4⟩:=hg;obtain⟨r,q1,q2,q3,q4,q5⟩:=ih u (by omega) g1 (by omega);refine⟨r,q1,by rw[q2,g2],by omega,fun n hn=>?_,fun n hn=>?_⟩
   ·obtain⟨k,rfl⟩:∃k,n=k+8:=⟨n-8,by omega⟩;obtain⟨k',hk',e⟩:=h1 k (by omega);rw[e];exact q4 k' (by omega)
   ·obtain⟨k,rfl⟩:∃k,n=k+8:=⟨n-8,by omega⟩;obtain⟨k',hk',e⟩:=h2 k (by omega);rw[e];exact q5 k' (by omega)
theorem simple{t:D.Term}(h:nodeB t=true)(hn:cnt t≤240):∃r,nodeB r=true∧r.W=t.W∧cnt r≤cnt t∧ZE fuel t=some r∧Z4 fuel t=some r:=by
 obtain⟨r,q1,q2,q3,q4,q5⟩:=simpler (mea t) t (ZoH _) h hn;have:=Zmy t;have e:mea t=2*cnt t+swp t:=rfl;exact⟨r,q1,q2,q3,q4 _ (by unfold fuel;omega),q5 _ (by unfold fuel;omega)⟩
theorem Zk8:∀(n:Nat)(t:D.Term),msz t≤1048576→1048580+cnt t≤n→YC n t=some t:=by
 intro n
 induction n with
 |zero=>intro t _ h;omega
 | succ n ih=>
  intro t hs hn;have hz:=ZaV t;have hc:=Za3 t;rw[YC];obtain⟨r,g1,g2⟩:=ZT (l:=t.Kids) (n:=n) (σ:=List D.Term) (ρ:=List D.Term) (B:=fun(s1:Int×(List D.Term))=>if(decide (s1.1<(len t.Kids)))then(get? t.Kids s1.1).bind fun x1=>(YC n x1).bind fun x2=>(app? s1.2 ([x2]:List D.Term)).bind fun x3=>some (.inl ((w64 (s1.1+1)),x3))else some (.inr (s1.2))) (fun j a=>((j:Int),a)) (fun ys a=>a++ys=t.Kids∧(∀x∈ys,x∈t.Kids)) (fun r=>r=t.Kids)
   (fun j x xs a hj hx hlen⟨h1,h2⟩=>by
    have hd:decide ((j:Int)<len t.Kids)=true:=by rw[Zb];simp;omega
    have hm:=h2 x (by simp);have m1:=Zax hm;have m2:=ZcI hm;have hl:=congrArg List.length h1;simp only[ZoT,ZoP]at hl;simp only[hd,ZoO,get?_nat,hx,Zo8,ih x (by omega) (by omega)];rw[XW (by simp;omega)]
    exact .inl ⟨a++[x],by simp only[Zo8];rw[Zm (by omega) (by omega)];rfl,by simp[←h1],fun y hy=>h2 y (by simp[hy])⟩)
   (fun a⟨h1,_⟩=>by
    have hd:decide ((t.Kids.length:Int)<len t.Kids)=false:=by rw[Zb];simp
    simp only[hd,Zo9,ZoG]
    exact⟨_,rfl,by simpa using h1⟩) (a:=[]) ⟨rfl,fun _ h=>h⟩ (by omega)
  rw[show((0:Nat):Int)=0 from rfl]at g1;rw[g1,g2];cases t;rfl
theorem ZkD:∀n:Nat,(∀t:D.Term,msz t≤1048576→1048580+2*msz t+1≤n→XB n t=some t)∧(∀l:List D.Term,sml l→1048580+2*(l.length+mszs l)≤n→Yj n l=some l):=by
 intro n
 induction n with
 |zero=>exact⟨fun t _ _=>by omega,fun l _ _=>by omega⟩
 | succ n ih=>
  refine⟨fun t h hn=>?_,fun l h hn=>?_⟩
  ·have:=ZaV t;unfold XB;rw[ih.2 t.Kids (by unfold sml;omega) (by omega)];cases t;rfl
  ·unfold sml at h;unfold Yj;by_cases c0:l.length=0
   ·have:l=[]:=Zp5.1 c0;subst this;rfl
   rw[ZoC (by rw[Zb];simp;exact fun e=>c0 (by simp[e])),mk?_len (by unfold room;omega)];simp only[Zo8];obtain⟨r,g1,g2⟩:=ZT (l:=l) (n:=n) (σ:=List D.Term) (ρ:=List D.Term) (B:=fun(s1:Int×(List D.Term))=>if(decide (s1.1<(len l)))then(get? l s1.1).bind fun x2=>(XB n x2).bind fun x3=>(set? s1.2 s1.1 x3).bind fun x4=>some (.inl ((w64 (s1.1+1)),x4))else some (.inr (s1.2))) (fun k(a:List D.Term)=>((k:Int),a)) (fun ys a=>(∃pre zs:List D.Term,pre++ys=l∧a=pre++zs∧zs.length=ys.length)∧∀x∈ys,x∈l) (fun r=>r=l)
     (fun k x xs a hk' hx hlen⟨⟨pre,zs,h1,hz,hz'⟩,hm⟩=>by
      have hxl:=hm x (by simp);have:=Zax hxl;have hl:=congrArg List.length h1;simp only[ZoP,ZoT]at hlen hz' hl;simp only[get?_nat,hx,Zo8,Zb];rw[ZoD (by simpa using hk'),ih.1 x (by omega) (by omega)];simp only[Zo8];obtain⟨z,zs,rfl⟩:∃z zs',zs=z::zs':=by cases zs with|nil=>simp at hz'|cons z zs=>exact⟨_,_,rfl⟩
      have e1:pre.length=k:=by omega
      subst hz;rw[set?_nat (by simp;omega)];refine .inl ⟨(pre++z::zs).set k x,by simp only[Zo8];rw[Zm (by omega) (by omega)];rfl,⟨pre++[x],zs,by simp[←h1],?_,by simpa using hz'⟩,fun y hy=>hm y (by simp[hy])⟩
      rw[ZpR _ _ (by omega),e1,ZpJ];simp)
     (fun a⟨⟨pre,zs,h1,h2,h3⟩,_⟩=>by
      have hd:decide ((l.length:Int)<len l)=false:=by rw[Zb];simp
      simp only[hd,Zo9,ZoG];simp only[Zpv,Zp5]at h3;subst h3
      exact⟨_,rfl,by rw[h2];simpa using h1⟩) (a:=List.replicate l.length _) ⟨⟨[],_,rfl,rfl,by simp⟩,fun _ h=>h⟩ (by omega)
   rw[show((0:Nat):Int)=0 from rfl]at g1;rw[g1,g2];rfl
theorem Zgw{t:D.Term}(h:nodeB t=true)(hn:cnt t≤240):msz t≤2640:=by
 have:=Zcq h;omega
theorem ZjN{t:D.Term}(h:nodeB t=true)(hn:cnt t≤240):YC fuel t=some t:=Zk8 _ _ (by have:=Zgw h hn;omega) (by unfold fuel;omega)
def t0:D.Term:=⟨0,0,0,⟨[]⟩,[]⟩
noncomputable def simp1(t:D.Term):D.Term:=(ZE fuel t).getD t0
theorem ZdY{t:D.Term}(h:nodeB t=true)(hn:cnt t≤240):nodeB (simp1 t)=true∧(simp1 t).W=t.W∧cnt (simp1 t)≤cnt t∧ZE fuel t=some (simp1 t)∧Z4 fuel t=some (simp1 t):=by
 obtain⟨r,q1,q2,q3,q4,q5⟩:=simple h hn;have e:simp1 t=r:=by unfold simp1;rw[q4];rfl
 rw[e];exact⟨q1,q2,q3,q4,q5⟩
theorem ZbD{t:D.Term}(h:termB t=true):nodeB t=true∧cnt t≤240:=by
 unfold termB at h;simp only[ZoB,ZoJ]at h;exact⟨h.1.2,h.1.1⟩
noncomputable def mkT(op w m:Int)(ks:List D.Term):D.Term×Bool:=if termB ⟨op,w,m,⟨[]⟩,ks⟩=true then(simp1 ⟨op,w,m,⟨[]⟩,ks⟩,true)else(t0,false)
theorem ZnG{op w m:Int}{ks:List D.Term}(h:sml ks):msz ⟨op,w,m,⟨[]⟩,ks⟩≤1048576:=by
 rw[ZaV];unfold sml at h;simp;omega
theorem Zf4{op w m:Int}{ks:List D.Term}(h:sml ks):XA fuel op w m ks=some (mkT op w m ks):=by
 unfold XA mkT;rw[ZeI (ZnG h)];simp only[Zo8];cases c:termB ⟨op,w,m,⟨[]⟩,ks⟩
 ·rfl
 ·obtain⟨a,b⟩:=ZbD c;obtain⟨q1,q2,q3,q4,q5⟩:=ZdY a b;simp only[ZoF,Zo9,ZoG,ZoO,q5,Zo8,ZjN q1 (by omega)]
theorem ZaR{op w m:Int}{ks:List D.Term}(h:sml ks):ZA fuel op w m ks=some (mkT op w m ks):=by
 unfold ZA mkT;rw[ZeX (ZnG h)];simp only[Zo8];cases c:termB ⟨op,w,m,⟨[]⟩,ks⟩
 ·rfl
 ·obtain⟨a,b⟩:=ZbD c;obtain⟨q1,q2,q3,q4,q5⟩:=ZdY a b;simp only[ZoF,Zo9,ZoG,ZoO,q4,Zo8]
def fine(t:D.Term):Prop:=nodeB t=true∧cnt t≤240
theorem ZeA{t:D.Term}(h:termB t=true):fine t:=ZbD h
theorem Yz{op w m:Int}{ks:List D.Term}(h:(mkT op w m ks).2=true):fine (mkT op w m ks).1∧(mkT op w m ks).1.W=w:=by
 unfold mkT at h⊢;cases c:termB ⟨op,w,m,⟨[]⟩,ks⟩
 ·rw[c]at h;simp at h
 ·obtain⟨a,b⟩:=ZbD c;obtain⟨q1,q2,q3,q4,q5⟩:=ZdY a b;simp only[ZoO];exact⟨⟨q1,by omega⟩,q2⟩
theorem YZ{t:D.Term}(h:fine t):msz t≤2640:=Zgw h.1 h.2
theorem sml2{a b:D.Term}(ha:msz a≤2640)(hb:msz b≤1000000):sml [a,b]:=by
 unfold sml;rw[Xj,Xj,ZcH];simp;omega
noncomputable def andT:D.Term→List D.Term→D.Term×Bool
 |a,[]=>(a,true)
 |a,x::l=>if(mkT 8 1 0 [a,x]).2=true then andT (mkT 8 1 0 [a,x]).1 l else(t0,false)
theorem Zm8(a:D.Term):andT a []=(a,true):=by rw[andT]
theorem ZhV{p:D.Term×Bool}(h:p.2=true):(D.Term.mk p.1.Op p.1.W p.1.N p.1.Name p.1.Kids,true)=p:=by
 obtain⟨⟨a,b,c,d,e⟩,q⟩:=p;cases h;rfl
theorem ZgM:∀{l:List D.Term}{a:D.Term},fine a→(andT a l).2=true→fine (andT a l).1
 |[],a,ha,_=>ha
 |x::l,a,ha,h=>by
  unfold andT at h⊢;by_cases c:(mkT 8 1 0 [a,x]).2=true
  ·rw[ZoD c]at h⊢;exact ZgM (Yz c).1 h
  ·rw[ZoC c]at h;cases h
theorem Zi1{mk:Int→Int→Int→List D.Term→Option (D.Term×Bool)}(hmk:∀ks,sml ks→mk 8 1 0 ks=some (mkT 8 1 0 ks)){l:List D.Term}{a:D.Term}(ha:fine a)(hl:l.length≤1048576)(hs:∀x∈l,msz x≤2640):
    iterN (fun(s2:Int×Int×Int×Int×Str×(List D.Term))=>if (decide (s2.1<(len l)))then(get? l s2.1).bind fun x4=>(mk 8 1 0 ([(D.Term.mk s2.2.1 s2.2.2.1 s2.2.2.2.1 s2.2.2.2.2.1 s2.2.2.2.2.2),x4]:List D.Term)).bind fun x5=>if(!x5.2)then some (.inr (.inr ((D.Term.mk 0 0 0 ⟨[]⟩ ([]:List D.Term)),false)))else some (.inl ((w64 (s2.1+1)),x5.1.Op,x5.1.W,x5.1.N,x5.1.Name,x5.1.Kids))else some (.inr (.inl (s2.2.1,s2.2.2.1,s2.2.2.2.1,s2.2.2.2.2.1,s2.2.2.2.2.2))):Int×Int×Int×Int×Str×(List D.Term)→Option ((Int×Int×Int×Int×Str×(List D.Term))⊕((Int×Int×Int×Str×(List D.Term))⊕(D.Term×Bool)))) fuel (0,a.Op,a.W,a.N,a.Name,a.Kids)=some (if(andT a l).2=true then(.inl ((andT a l).1.Op,(andT a l).1.W,(andT a l).1.N,(andT a l).1.Name,(andT a l).1.Kids):((Int×Int×Int×Str×(List D.Term))⊕(D.Term×Bool)))else .inr (t0,false)):=by
  obtain ⟨r,g1,g2⟩:=ZT (l:=l) (n:=fuel) (σ:=D.Term) (ρ:=(Int×Int×Int×Str×(List D.Term))⊕(D.Term×Bool)) (B:=fun(s2:Int×Int×Int×Int×Str×(List D.Term))=>if (decide (s2.1<(len l)))then(get? l s2.1).bind fun x4=>(mk 8 1 0 ([(D.Term.mk s2.2.1 s2.2.2.1 s2.2.2.2.1 s2.2.2.2.2.1 s2.2.2.2.2.2),x4]:List D.Term)).bind fun x5=>if(!x5.2)then some (.inr (.inr ((D.Term.mk 0 0 0 ⟨[]⟩ ([]:List D.Term)),false)))else some (.inl ((w64 (s2.1+1)),x5.1.Op,x5.1.W,x5.1.N,x5.1.Name,x5.1.Kids))else some (.inr (.inl (s2.2.1,s2.2.2.1,s2.2.2.2.1,s2.2.2.2.2.1,s2.2.2.2.2.2)))) (fun k a=>((k:Int),a.Op,a.W,a.N,a.Name,a.Kids))
    (fun ys b=>fine b∧andT b ys=andT a l∧∀x∈ys,msz x≤2640) (fun r=>r=if(andT a l).2=true then(.inl ((andT a l).1.Op,(andT a l).1.W,(andT a l).1.N,(andT a l).1.Name,(andT a l).1.Kids):((Int×Int×Int×Str×(List D.Term))⊕(D.Term×Bool)))else .inr (t0,false))
    (fun k x xs b hk hx hlen⟨h1,h2,h3⟩=>by
      have hd:decide ((k:Int)<len l)=true:=by rw[Zb];simp;omega
      have hsz:=YZ h1;have e:(D.Term.mk b.Op b.W b.N b.Name b.Kids)=b:=by cases b;rfl
      simp only[hd,ZoO,get?_nat,hx,Zo8,e];rw[hmk [b,x] (sml2 hsz (by have:=h3 x (by simp);omega))];simp only[Zo8];by_cases c:(mkT 8 1 0 [b,x]).2=true
      · rw[ZoC (by rw[c];simp)]
        refine .inl ⟨(mkT 8 1 0 [b,x]).1,by rw[Zm (by omega) (by omega)];rfl,(Yz c).1,?_,fun y hy=>h3 y (by simp[hy])⟩;rw[←h2]
        conv=>rhs;unfold andT
        rw[ZoD c]
      · rw[ZoD (by simp[c])]
        refine .inr ⟨_,rfl,?_⟩;have:andT a l=(t0,false):=by
          rw[←h2];unfold andT;rw[ZoC c]
        rw[this];rfl)
    (fun b⟨h1,h2,_⟩=>by
      have hd:decide ((l.length:Int)<len l)=false:=by rw[Zb];simp
      simp only[hd,Zo9,ZoG];rw[Zm8]at h2;rw[←h2]
      exact⟨_,rfl,rfl⟩) (a:=a) ⟨ha,rfl,hs⟩ (Yb hl)
  rw[show((0:Nat):Int)=0 from rfl]at g1;rw[g1,g2]
def c11:D.Term:=⟨0,1,1,⟨[]⟩,[]⟩
theorem ZfG:fine c11:=⟨ZaO (by decide),by unfold c11;rw[cnt0];omega⟩
noncomputable def allT(l:List D.Term):D.Term×Bool:=if tsB l 1=true then andT c11 l else(t0,false)
theorem Zer{l:List D.Term}{w:Int}(h:tsB l w=true){x:D.Term}(hx:x∈l):termB x=true∧x.W=w:=by
 unfold tsB at h;rw[ZoK]at h;have:=h x hx;simpa using this
theorem Zh8:∀{l:List D.Term}{a:D.Term},(andT a l).2=false→andT a l=(t0,false)
 |[],a,h=>by cases h
 |x::l,a,h=>by
  unfold andT at h⊢;by_cases c:(mkT 8 1 0 [a,x]).2=true
  ·rw[ZoD c]at h⊢;exact Zh8 h
  ·rw[ZoC c]
theorem ZiI{α ρ:Type}{l:List α}{b:α→Bool}{z:ρ}(G:α→Int→Option (Int⊕(Unit⊕ρ)))(hG:∀(k:Nat)(x:α),l[k]? =some x→G x k=if b x=true then some (.inl (w64 ((k:Int)+1)))else some (.inr (.inr z)))(hb:l.length≤1048576){n:Nat}(hn:l.length<n):
  iterN (fun(s1:Int)=>if(decide (s1<(len l)))then(get? l s1).bind fun x1=>G x1 s1 else some (.inr (.inl ()))) n 0=some (if l.all b=true then(.inl ():Unit⊕ρ)else .inr z):=by
 obtain⟨r,g1,g2⟩:=ZT (l:=l) (n:=n) (σ:=Unit) (ρ:=Unit⊕ρ) (B:=fun(s1:Int)=>if(decide (s1<(len l)))then(get? l s1).bind fun x1=>G x1 s1 else some (.inr (.inl ())))
  (fun k _=>(k:Int)) (fun ys _=>ys.all b=l.all b) (fun r=>r=if l.all b=true then(.inl ():Unit⊕ρ)else .inr z)
  (fun k x xs a hk' hx hlen hi=>by
   have hd:decide ((k:Int)<len l)=true:=by rw[Zb];simp;omega
   simp only[hd,ZoO,get?_nat,hx,Zo8];rw[hG k x hx];rw[Zqp]at hi;cases c:b x
   ·rw[c,Zpk]at hi;exact .inr ⟨_,rfl,by rw[←hi];rfl⟩
   ·rw[c,Zpa]at hi
    exact .inl ⟨(),by rw[Zm (by omega) (by omega)];rfl,hi⟩)
  (fun a hi=>by
   have hd:decide ((l.length:Int)<len l)=false:=by rw[Zb];simp
   simp only[hd,Zo9,ZoG]
   exact⟨_,rfl,by rw[←hi];rfl⟩) (a:=()) rfl hn
 rw[show((0:Nat):Int)=0 from rfl]at g1;rw[g1,g2]
theorem Zia{l:List D.Term}(h:sml l):Zbx fuel l=some (allT l):=by
 unfold Zbx allT
 have hl:=ZiI (l:=l) (b:=fun t=>termB t&&t.W==1) (z:=((D.Term.mk 0 0 0 ⟨[]⟩ ([]:List D.Term)),false)) (fun x1 s1=>(X5 fuel x1).bind fun x2=>if((!x2)||(x1.W !=1))then some (.inr (.inr ((D.Term.mk 0 0 0 ⟨[]⟩ ([]:List D.Term)),false)))else some (.inl ((w64 (s1+1))))) (fun k x hx=>by
  simp only[ZeI (Zf7 h (Zpd hx)),Zo8]
  cases termB x<;>by_cases c:x.W=1<;>simp[c]) (Zb4 h) (Yb (Zb4 h))
 rw[hl];simp only[Zo8];cases c:tsB l 1
 ·unfold tsB at c;rw[c];rfl
 have hm:=fun x hx=>YZ (ZeA (Zer c (x:=x) hx).1);unfold tsB at c;rw[c];simp only[ZoO,Zi,Zo8];have:=Zi1 (mk:=XA fuel) (fun ks hk=>Zf4 hk) ZfG (Zb4 h) hm;unfold c11 at this;simp only at this;rw[this];simp only[Zo8];cases e:(andT ⟨0,1,1,⟨[]⟩,[]⟩ l).2
 ·rw[show andT c11 l=(t0,false)from Zh8 e];rfl
 ·simp only[ZoO];exact congrArg some (ZhV e)
theorem Zha{l:List D.Term}(h:sml l):Zbv fuel l=some (allT l):=by
 unfold Zbv allT;rw[ZZ (by decide)];simp only[Zo8]
 have hl:=ZiI (l:=l) (b:=fun t=>termB t&&t.W==1) (z:=((D.Term.mk 0 0 0 ⟨[]⟩ ([]:List D.Term)),false)) (fun x2 s1=>(X3 fuel x2).bind fun x3=>(if(!x3)then some default else(get? l s1)).bind fun x4=>if((!x3)||(x4.W !=1))then some (.inr (.inr ((D.Term.mk 0 0 0 ⟨[]⟩ ([]:List D.Term)),false)))else some (.inl ((w64 (s1+1))))) (fun k x hx=>by
  simp only[ZeX (Zf7 h (Zpd hx)),Zo8,get?_nat,hx]
  cases termB x<;>by_cases c:x.W=1<;>simp[c]) (Zb4 h) (Yb (Zb4 h))
 rw[hl];simp only[Zo8];cases c:tsB l 1
 ·unfold tsB at c;rw[c];rfl
 have hm:=fun x hx=>YZ (ZeA (Zer c (x:=x) hx).1);unfold tsB at c;rw[c];simp only[ZoO];have:=Zi1 (mk:=ZA fuel) (fun ks hk=>ZaR hk) ZfG (Zb4 h) hm;unfold c11 at this;simp only at this;rw[this];simp only[Zo8];cases e:(andT ⟨0,1,1,⟨[]⟩,[]⟩ l).2
 ·rw[show andT c11 l=(t0,false)from Zh8 e];rfl
 ·simp only[ZoO];exact congrArg some (ZhV e)
theorem ZdA{l:List D.Term}(h:(allT l).2=true):fine (allT l).1:=by
 unfold allT at h⊢;split at h
 ·rename_i c;rw[ZoD c];exact ZgM ZfG h
 ·cases h
theorem YV{σt ρt:Type}{B:σt→Option (σt⊕ρt)}{s s':σt}{n:Nat}(h:B s=some (.inl s')):iterN B (n+1) s=iterN B n s':=by
 conv=>lhs;unfold iterN
 rw[h]
def fineL(l:List D.Term):Prop:=l.length≤100∧∀x∈l,fine x
theorem Zgv{m:Nat}:∀{l:List D.Term},(∀x∈l,msz x≤m)→mszs l≤l.length*m
 |[],_=>by rw[ZcH];simp
 |x::l,h=>by
  have h1:=h x (by simp);have h2:=Zgv (l:=l) fun y hy=>h y (by simp[hy]);rw[Xj,ZoP,ZqE];omega
theorem Zah{l:List D.Term}(h:fineL l):sml l:=by
 have h1:=Zgv (m:=2640) fun x hx=>YZ (h.2 x hx);have h2:=h.1;unfold sml;have:l.length*2640≤100*2640:=ZpS _ h2;omega
theorem Zc1{l:List D.Term}(h:fineL l):YH fuel l=some l:=by
 unfold YH;have hl:=h.1;obtain⟨r,g1,g2⟩:=ZT (l:=l) (n:=fuel) (σ:=List D.Term) (ρ:=List D.Term) (B:=fun(s1:Int×(List D.Term))=>if(decide (s1.1<(len l)))then(get? l s1.1).bind fun x1=>(YC fuel x1).bind fun x2=>(app? s1.2 ([x2]:List D.Term)).bind fun x3=>some (.inl ((w64 (s1.1+1)),x3))else some (.inr (s1.2))) (fun j a=>((j:Int),a)) (fun ys a=>a++ys=l∧∀x∈ys,x∈l) (fun r=>r=l)
  (fun j x xs a hj hx hlen⟨h1,h2⟩=>by
   have hd:decide ((j:Int)<len l)=true:=by rw[Zb];simp;omega
   have hm:=h2 x (by simp);have hc:=congrArg List.length h1;simp only[ZoT,ZoP]at hc;simp only[hd,ZoO,get?_nat,hx,Zo8,ZjN (h.2 x hm).1 (h.2 x hm).2];rw[XW (by simp;omega)]
   exact .inl ⟨a++[x],by simp only[Zo8];rw[Zm (by omega) (by omega)];rfl,by simp[←h1],fun y hy=>h2 y (by simp[hy])⟩)
  (fun a⟨h1,_⟩=>by
   have hd:decide ((l.length:Int)<len l)=false:=by rw[Zb];simp
   simp only[hd,Zo9,ZoG]
   exact⟨_,rfl,by simpa using h1⟩) (a:=[]) ⟨rfl,fun _ h=>h⟩ (by unfold fuel;omega)
 rw[show((0:Nat):Int)=0 from rfl]at g1;rw[g1,g2];rfl
theorem Zcv{l:List D.Term}(h:fineL l):Yj fuel l=some l:=(ZkD fuel).2 l (Zah h) (by
 have:=Zah h;unfold sml at this
 unfold fuel;omega)
def fineP(s:D.Path):Prop:=fineL s.Regs∧fineL s.Mem∧s.Stack.length≤100∧fineL s.Out∧fineL s.Cond∧s.Turns.length≤100
theorem Zb9{s:D.Path}(h:fineP s):smallP s:=⟨Zah h.1,Zah h.2.1,by have:=h.2.2.1;omega,Zah h.2.2.2.1,Zah h.2.2.2.2.1,by have:=h.2.2.2.2.2;omega⟩
theorem ZfQ{l:List Int}(h:l.length≤100):app? ([]:List Int) l=some l:=by
 rw[XW (by simp;omega)];rfl
theorem ZjZ{l:List D.Term}(h:l.length≤1000):app? ([]:List D.Term) l=some l:=by
 rw[XW (by simp;omega)];rfl
theorem Za5{s:D.Path}(h:fineP s):ZV fuel s=some s:=by
 obtain⟨h1,h2,h3,h4,h5,h6⟩:=h;unfold ZV;simp only[Zc1 h1,Zc1 h2,ZfQ h3,Zc1 h4,Zc1 h5,ZfQ h6,Zo8]
theorem Zmq{s:D.Path}(h:fineP s):Zaj fuel s=some s:=by
 obtain⟨h1,h2,h3,h4,h5,h6⟩:=h;unfold Zaj Z5;simp only[Zcv h1,Zcv h2,ZfQ h3,Zcv h4,Zcv h5,ZfQ h6,Zo8]
theorem Ze8{l:List D.Term}{w:Int}(h:tsB l w=true)(hl:l.length≤100):fineL l:=⟨hl,fun _ hx=>ZeA (Zer h hx).1⟩
theorem ZcL{p:D.Program}(h:progB p=true):1≤p.W∧p.W≤16∧0≤p.Mem∧p.Mem≤6∧0≤p.In∧p.In≤3:=by
 unfold progB at h;simp only[ZoB,ZoJ]at h;omega
theorem ZfU{p:D.Program}{s:D.Path}(h:pathB p s=true):fineP s∧progB p=true∧s.Regs.length=4∧(s.Mem.length:Int)=p.Mem∧s.Out.length≤6∧s.Cond.length≤60∧s.Turns.length≤60:=by
 unfold pathB at h;simp only[ZoB,ZoJ,Zpf,Zb]at h;have e1:progB p=true:=by grind
 have e2:(s.Regs.length:Int)=4:=by grind
 have e3:(s.Mem.length:Int)=p.Mem:=by grind
 have e4:(s.Stack.length:Int)≤3:=by grind
 have e5:(s.Out.length:Int)≤6:=by grind
 have e6:(s.Cond.length:Int)≤60:=by grind
 have e7:(s.Turns.length:Int)≤60:=by grind
 have t1:tsB s.Regs p.W=true:=by grind
 have t2:tsB s.Mem p.W=true:=by grind
 have t3:tsB s.Out p.W=true:=by grind
 have t4:tsB s.Cond 1=true:=by grind
 have hp:=ZcL e1;exact⟨⟨Ze8 t1 (by omega),Ze8 t2 (by omega),by omega,Ze8 t3 (by omega),Ze8 t4 (by omega),by omega⟩,e1,by omega,e3,by omega,by omega,by omega⟩
def cmn{α:Type}(e:α→α→Bool):List α→List α→Nat
 |x::l,y::m=>if e x y=true then 1+cmn e l m else 0
 |_,_=>0
theorem ZfD{α:Type}(e:α→α→Bool):∀l m:List α,cmn e l m≤l.length∧cmn e l m≤m.length
 |[],m=>by simp[cmn]
 |x::l,[]=>by simp[cmn]
 |x::l,y::m=>by
  have:=ZfD e l m;unfold cmn;split<;>simp<;>omega
theorem Zgq{α:Type}[Inhabited α](e:α→α→Bool){F:Bool→α→α→Option Bool}{a b:List α}(hF:∀x∈a,∀y∈b,F true x y=some (e x y))(hF0:∀x y,∃z,F false x y=some z)(ha:a.length≤1000):∀(d k n:Nat),k+d=a.length→d<n→
  iterN (fun(s1:Int)=>(if((decide (s1<(len a)))&&(decide (s1<(len b))))then(get? a s1)else some default).bind fun x4=>(if((decide (s1<(len a)))&&(decide (s1<(len b))))then(get? b s1)else some default).bind fun x5=>(F ((decide (s1<(len a)))&&(decide (s1<(len b)))) x4 x5).bind fun x6=>if(((decide (s1<(len a)))&&(decide (s1<(len b))))&&x6)then some (.inl ((w64 (s1+1))))else some (.inr (s1))) n (k:Int)=some ((k+cmn e (a.drop k) (b.drop k):Nat):Int):=by
 have stop:∀(k n:Nat),¬(k<a.length∧k<b.length)→0<n→iterN (fun(s1:Int)=>(if((decide (s1<(len a)))&&(decide (s1<(len b))))then(get? a s1)else some default).bind fun x4=>(if((decide (s1<(len a)))&&(decide (s1<(len b))))then(get? b s1)else some default).bind fun x5=>(F ((decide (s1<(len a)))&&(decide (s1<(len b)))) x4 x5).bind fun x6=>if(((decide (s1<(len a)))&&(decide (s1<(len b))))&&x6)then some (.inl ((w64 (s1+1))))else some (.inr (s1))) n (k:Int)=some (k:Int):=by
  intro k n hk hn;have hc:((decide ((k:Int)<(len a)))&&(decide ((k:Int)<(len b))))=false:=by
   rw[Zb,Zb];simp only[Bool.and_eq_false_iff,decide_eq_false_iff_not];omega
  obtain⟨z,hz⟩:=hF0 default default;refine Yw ?_ hn;simp only[hc,Zo9,ZoG,Zo8,hz,Zpk]
 intro d
 induction d with
 |zero=>
  intro k n hk hn;rw[stop k n (by omega) hn,ZpV (by omega)];simp[cmn]
 | succ d ih=>
  intro k n hk hn;by_cases hb:k<b.length
  ·have hc:((decide ((k:Int)<(len a)))&&(decide ((k:Int)<(len b))))=true:=by
    rw[Zb,Zb];simp;omega
   have ga:a[k]? =some a[k]:=ZoE (by omega);have gb:b[k]? =some b[k]:=ZoE hb;rw[ZoN (by omega:k<a.length),ZoN hb];obtain⟨n,rfl⟩:∃m,n=m+1:=⟨n-1,by omega⟩;have hf:=hF a[k] (Zph _) b[k] (Zph _);unfold cmn;by_cases q:e a[k] b[k]=true
   ·rw[ZoD q,YV (s':=((k+1:Nat):Int)),ih (k+1) n (by omega) (by omega)]
    ·congr 2;omega
    ·simp only[hc,ZoO,get?_nat,ga,gb,Zo8,hf,q,Zp6];rw[Zm (by omega) (by omega)];rfl
   ·rw[ZoC q];refine Yw ?_ (by omega);have q':e a[k] b[k]=false:=by simpa using q
    simp only[hc,ZoO,get?_nat,ga,gb,Zo8,hf,q',Zq6,Zo9,ZoG];rfl
  ·rw[stop k n (by omega) (by omega),@ZpV _ b _ (by omega)];cases a.drop k<;>simp[cmn]
def sameB(x y:D.Term):Bool:=ctm x y==0
theorem Zc9{x y:D.Term}(h:fine x):ZN fuel x y=some (sameB x y):=Zbw (by have:=YZ h;omega) (by have:=h.2;unfold fuel;omega)
theorem Zd8{x y:D.Term}(h:fine x):ZO fuel x y=some (sameB x y):=Zbu (by have:=YZ h;omega) (by have:=h.2;unfold fuel;omega)
noncomputable def mwT(x:D.Term):List D.Term→List D.Term→Option (List D.Term)
 |t::a,u::b=>if sameB t u=true then(mwT x a b).map fun l=>t::l else if(mkT 17 t.W 0 [x,t,u]).2=true then(mwT x a b).map fun l=>(mkT 17 t.W 0 [x,t,u]).1::l else none
 |_,_=>some []
theorem Zg7{x:D.Term}:∀{a b l:List D.Term},mwT x a b=some l→(∀t∈a,fine t)→a.length≤b.length→(∀t∈l,fine t)∧l.length=a.length
 |[],_,l,h,_,_=>by
  unfold mwT at h;cases h;simp
 |t::a,[],l,h,_,hl=>by simp at hl
 | t ::a,u::b,l,h,hf,hl=>by
  unfold mwT at h;simp only[ZoP]at hl;split at h
  ·obtain⟨m,hm,rfl⟩:=Zp8.1 h;obtain⟨g1,g2⟩:=Zg7 hm (fun y hy=>hf y (by simp[hy])) (by omega)
   exact⟨fun y hy=>by
    rcases Zpc.1 hy with rfl|hy
    ·exact hf _ (by simp)
    ·exact g1 y hy,by simp[g2]⟩
  ·split at h
   ·rename_i c;obtain⟨m,hm,rfl⟩:=Zp8.1 h;obtain⟨g1,g2⟩:=Zg7 hm (fun y hy=>hf y (by simp[hy])) (by omega)
    exact⟨fun y hy=>by
     rcases Zpc.1 hy with rfl|hy
     ·exact(Yz c).1
     ·exact g1 y hy,by simp[g2]⟩
   ·cases h
theorem sml3'{a b c:D.Term}(ha:msz a≤2640)(hb:msz b≤2640)(hc:msz c≤2640):sml [a,b,c]:=by
 unfold sml;rw[Xj,Xj,Xj,ZcH];simp;omega
theorem Zoj{α:Type}{pre zs:List α}{z x:α}{k:Nat}(h:pre.length=k):(pre++z::zs).set k x=(pre++[x])++zs:=by
 rw[ZpR _ _ (by omega),h,ZpJ];simp
theorem ZhD{x:D.Term}{a b:List D.Term}(hx:fine x)(ha:fineL a)(hb:fineL b)(hl:a.length=b.length):Xe fuel x a b=some (match mwT x a b with|some l=>(l,true)|none=>([],false)):=by
 unfold Xe;have hal:=ha.1;rw[mk?_len (by unfold room;omega)];simp only[Zo8]
 have main:∀(d k n:Nat)(pre zs:List D.Term),k+d=a.length→d<n→pre.length=k→zs.length=d→
   iterN (fun(s1:Int×(List D.Term))=>if (decide (s1.1<(len a)))then(get? a s1.1).bind fun x2=>(get? b s1.1).bind fun x3=>(ZO fuel x2 x3).bind fun x4=>if x4 then(get? a s1.1).bind fun x5=>(set? s1.2 s1.1 x5).bind fun x6=>some (.inl ((w64 (s1.1+1)),x6))else(get? a s1.1).bind fun x7=>(get? a s1.1).bind fun x8=>(get? b s1.1).bind fun x9=>(ZA fuel 17 x7.W 0 ([x,x8,x9]:List D.Term)).bind fun x10=>if(!x10.2)then some (.inr (.inr (([]:List D.Term),false)))else(set? s1.2 s1.1 x10.1).bind fun x11=>some (.inl ((w64 (s1.1+1)),x11))else some (.inr (.inl (s1.2))):Int×List D.Term→Option ((Int×List D.Term)⊕(List D.Term⊕(List D.Term×Bool)))) n ((k:Int),pre++zs)=some (match mwT x (a.drop k) (b.drop k)with|some l=>(.inl (pre++l):List D.Term⊕(List D.Term×Bool))|none=>.inr ([],false)):=by
  intro d
  induction d with
  |zero=>
   intro k n pre zs hk hn hp hz;refine Yw ?_ hn;have hd:decide ((k:Int)<len a)=false:=by rw[Zb];simp;omega
   rw[ZpV (by omega:a.length≤k)];simp only[hd,Zo9,ZoG];have:zs=[]:=ZpN hz;subst this;unfold mwT;rfl
  | succ d ih=>
   intro k n pre zs hk hn hp hz;obtain⟨n,rfl⟩:∃m,n=m+1:=⟨n-1,by omega⟩;have hd:decide ((k:Int)<len a)=true:=by rw[Zb];simp;omega
   have ga:a[k]? =some a[k]:=ZoE (by omega);have gb:b[k]? =some b[k]:=ZoE (by omega);have fa:=ha.2 a[k] (Zph _);have fb:=hb.2 b[k] (Zph _);obtain⟨z,zs,rfl⟩:∃z zs',zs=z::zs':=by cases zs with|nil=>simp at hz|cons z zs=>exact⟨_,_,rfl⟩
   simp only[ZoP]at hz;have em:=ZaR (op:=17) (w:=a[k].W) (m:=0) (ks:=[x,a[k],b[k]]) (sml3' (YZ hx) (YZ fa) (YZ fb));have hset:∀y,set? (pre++z::zs) (k:Int) y=some ((pre++[y])++zs):=fun y=>by
    rw[set?_nat (by simp;omega),Zoj hp]
   rw[ZoN (by omega:k<a.length),ZoN (by omega:k<b.length)]
   conv=>rhs;unfold mwT
   by_cases q:sameB a[k] b[k]=true
   ·rw[ZoD q,YV (s':=(((k+1:Nat):Int),(pre++[a[k]])++zs)),ih (k+1) n _ zs (by omega) (by omega) (by simp[hp]) (by omega)]
    ·cases mwT x (a.drop (k+1)) (b.drop (k+1))<;>simp
    ·simp only[hd,ZoO,get?_nat,ga,gb,Zo8,Zd8 fa,q,hset];rw[Zm (by omega) (by omega)];rfl
   ·have q':sameB a[k] b[k]=false:=by simpa using q
    rw[ZoC q];by_cases r:(mkT 17 a[k].W 0 [x,a[k],b[k]]).2=true
    ·rw[ZoD r,YV (s':=(((k+1:Nat):Int),(pre++[(mkT 17 a[k].W 0 [x,a[k],b[k]]).1])++zs)),ih (k+1) n _ zs (by omega) (by omega) (by simp[hp]) (by omega)]
     ·cases mwT x (a.drop (k+1)) (b.drop (k+1))<;>simp
     ·simp only[hd,ZoO,get?_nat,ga,gb,Zo8,Zd8 fa,q',Zo9,ZoG,em,r,ZoF,hset];rw[Zm (by omega) (by omega)];rfl
    ·rw[ZoC r];refine Yw ?_ (by omega);have r':(mkT 17 a[k].W 0 [x,a[k],b[k]]).2=false:=by simpa using r
     simp only[hd,ZoO,get?_nat,ga,gb,Zo8,Zd8 fa,q',Zo9,ZoG,em,r',Zpr]
 have:=main a.length 0 fuel [] (List.replicate a.length (D.Term.mk 0 0 0 ⟨[]⟩ [])) (by omega) (by unfold fuel;omega) rfl (by simp);simp only[Zqq,Zpp]at this;rw[show((0:Nat):Int)=0 from rfl]at this;rw[this];cases mwT x a b<;>rfl
theorem ZhN{x:D.Term}{a b:List D.Term}(m:Bool)(hx:fine x)(ha:fineL a)(hb:fineL b)(hl:a.length=b.length):∃l,Ye fuel ⟨m⟩ x a b=some (l,⟨m||(mwT x a b).isNone⟩)∧(m=false→∀l',mwT x a b=some l'→l=l'):=by
 unfold Ye;have hal:=ha.1
 have main:∀(d k n:Nat)(pre:List D.Term)(m:Bool),k+d=a.length→d<n→pre.length=k→
   ∃ l,iterN (fun(s1:Int×Bool×(List D.Term))=>if(decide (s1.1<(len a)))then(get? a s1.1).bind fun x1=>(get? b s1.1).bind fun x2=>(ZN fuel x1 x2).bind fun x3=>if((!x3)&&(!s1.2.1))then(get? b s1.1).bind fun x4=>(Zf fuel (D.l06Maker.mk s1.2.1) 17 x1.W ([x,x1,x4]:List D.Term)).bind fun x5=>(app? s1.2.2 ([x5.1]:List D.Term)).bind fun x6=>some (.inl ((w64 (s1.1+1)),x5.2.bad,x6))else(app? s1.2.2 ([x1]:List D.Term)).bind fun x7=>some (.inl ((w64 (s1.1+1)),s1.2.1,x7))else some (.inr (s1.2.1,s1.2.2)):Int×Bool×List D.Term→Option ((Int×Bool×List D.Term)⊕(Bool×List D.Term))) n ((k:Int),m,pre)=some ((m||(mwT x (a.drop k) (b.drop k)).isNone),l)∧(m=false→∀l',mwT x (a.drop k) (b.drop k)=some l'→l=pre++l'):=by
  intro d
  induction d with
  |zero=>
   intro k n pre m hk hn hp;have hd:decide ((k:Int)<len a)=false:=by rw[Zb];simp;omega
   rw[ZpV (by omega:a.length≤k)];have e:∀y,mwT x [] y=some []:=fun y=>by unfold mwT;rfl
   refine⟨pre,?_,fun _ l' h=>by rw[e]at h;cases h;simp⟩;refine Yw ?_ hn;simp only[hd,Zo9,ZoG];rw[e];simp
  | succ d ih=>
   intro k n pre m hk hn hp;obtain⟨n,rfl⟩:∃m,n=m+1:=⟨n-1,by omega⟩;have hd:decide ((k:Int)<len a)=true:=by rw[Zb];simp;omega
   have ga:a[k]? =some a[k]:=ZoE (by omega);have gb:b[k]? =some b[k]:=ZoE (by omega);have fa:=ha.2 a[k] (Zph _);have fb:=hb.2 b[k] (Zph _);have em:=Zf4 (op:=17) (w:=a[k].W) (m:=0) (ks:=[x,a[k],b[k]]) (sml3' (YZ hx) (YZ fa) (YZ fb));have happ:∀y,app? pre [y]=some (pre++[y]):=fun y=>XW (by simp;omega);rw[ZoN (by omega:k<a.length),ZoN (by omega:k<b.length)];have hm:∀y z u v,mwT x (y::z) (u::v)=if sameB y u=true then(mwT x z v).map fun l=>y::l else if(mkT 17 y.W 0 [x,y,u]).2=true then(mwT x z v).map fun l=>(mkT 17 y.W 0 [x,y,u]).1::l else none:=fun y z u v=>by
    conv=>lhs;unfold mwT
   rw[hm];by_cases q:sameB a[k] b[k]=true
   ·obtain⟨l,h1,h2⟩:=ih (k+1) n (pre++[a[k]]) m (by omega) (by omega) (by simp[hp]);refine⟨l,?_,fun hm0 l' h=>?_⟩
    ·rw[ZoD q,YV (s':=(((k+1:Nat):Int),m,pre++[a[k]])),h1]
     ·cases mwT x (a.drop (k+1)) (b.drop (k+1))<;>simp
     ·simp only[hd,ZoO,get?_nat,ga,gb,Zo8,Zc9 fa,q,ZoF,Zpk,Zo9,ZoG,happ];rw[Zm (by omega) (by omega)];rfl
    ·rw[ZoD q]at h;obtain⟨y,hy,rfl⟩:=Zp8.1 h;rw[h2 hm0 y hy];simp
   ·have q':sameB a[k] b[k]=false:=by simpa using q
    cases m with
    | true=>
     obtain⟨l,h1,h2⟩:=ih (k+1) n (pre++[a[k]]) true (by omega) (by omega) (by simp[hp]);refine⟨l,?_,fun hm0=>by cases hm0⟩;rw[YV (s':=(((k+1:Nat):Int),true,pre++[a[k]])),h1]
     ·simp
     ·simp only[hd,ZoO,get?_nat,ga,gb,Zo8,Zc9 fa,q',ZoF,Zq6,Zo9,ZoG,happ];rw[Zm (by omega) (by omega)];rfl
    | false=>
     by_cases r:(mkT 17 a[k].W 0 [x,a[k],b[k]]).2=true
     ·obtain⟨l,h1,h2⟩:=ih (k+1) n (pre++[(mkT 17 a[k].W 0 [x,a[k],b[k]]).1]) false (by omega) (by omega) (by simp[hp]);refine⟨l,?_,fun hm0 l' h=>?_⟩
      ·rw[ZoC q,ZoD r,YV (s':=(((k+1:Nat):Int),false,pre++[(mkT 17 a[k].W 0 [x,a[k],b[k]]).1])),h1]
       ·cases mwT x (a.drop (k+1)) (b.drop (k+1))<;>simp
       ·simp only[hd,ZoO,get?_nat,ga,gb,Zo8,Zc9 fa,q',Zpr,Zp6,Zf,em,r,ZoF,Zo9,ZoG,happ];rw[Zm (by omega) (by omega)];rfl
      ·rw[ZoC q,ZoD r]at h;obtain⟨y,hy,rfl⟩:=Zp8.1 h;rw[h2 rfl y hy];simp
     ·have r':(mkT 17 a[k].W 0 [x,a[k],b[k]]).2=false:=by simpa using r
      obtain⟨l,h1,h2⟩:=ih (k+1) n (pre++[(mkT 17 a[k].W 0 [x,a[k],b[k]]).1]) true (by omega) (by omega) (by simp[hp]);refine⟨l,?_,fun hm0 l' h=>?_⟩
      ·rw[ZoC q,ZoC r,YV (s':=(((k+1:Nat):Int),true,pre++[(mkT 17 a[k].W 0 [x,a[k],b[k]]).1])),h1]
       ·simp
       ·simp only[hd,ZoO,get?_nat,ga,gb,Zo8,Zc9 fa,q',Zpr,Zp6,Zf,em,r',happ];rw[Zm (by omega) (by omega)];rfl
      ·rw[ZoC q,ZoC r]at h;cases h
 obtain⟨l,h1,h2⟩:=main a.length 0 fuel [] m (by omega) (by unfold fuel;omega) rfl;simp only[Zqq,Zpp]at h1 h2;rw[show((0:Nat):Int)=0 from rfl]at h1;exact⟨l,by rw[h1];rfl,h2⟩
theorem Ze2{α:Type}{l:List α}{k:Nat}(h:k≤l.length):cut? l (k:Int) (len l)=some (l.drop k):=by
 unfold cut?;rw[Zb,ZoD (by omega)];simp
theorem Zev{α:Type}{l:List α}{k:Nat}(h:k≤l.length):cut? l 0 (k:Int)=some (l.take k):=by
 unfold cut?;rw[ZoD (by omega)];simp
theorem ZcQ{l:List D.Term}(h:fineL l)(k:Nat):fineL (l.drop k):=⟨by have:=h.1;simp;omega,fun x hx=>h.2 x (List.mem_of_mem_drop hx)⟩
theorem Zg6{l:List D.Term}(h:fineL l)(k:Nat):fineL (l.take k):=⟨by have:=h.1;simp;omega,fun x hx=>h.2 x (Zqf hx)⟩
theorem Zov{l m:List Int}(h:l.length≤100):Xa fuel l m=some (decide (l=m)):=Ze4 (by omega) (Yb (by omega))
theorem Znb{l m:List Int}(h:l.length≤100):ZbT fuel l m=some (decide (l=m)):=Ze4 (by omega) (Yb (by omega))
def pz:D.Path:=⟨0,[],[],[],0,[],0,0,[],[]⟩
def alk(a b:D.Path):Bool:=(((a.Pc==b.Pc)&&decide (a.Stack=b.Stack))&&(a.In==b.In))&&(len a.Out==len b.Out)
def shp(a b:D.Path):Bool:=alk a b&&(a.Code==b.Code)
theorem Zi7{a b:D.Path}(h:a.Stack.length≤100):Zag fuel a b=some (alk a b):=by
 unfold Zag alk;rw[Znb h];by_cases c:a.Pc=b.Pc
 ·simp[c]
 ·have:(a.Pc==b.Pc)=false:=by simpa using c
  simp[this]
theorem Zlk{a b:D.Path}(h:a.Stack.length≤100):Zav fuel a b=some (shp a b):=by
 unfold Zav shp alk;rw[Zov h];by_cases c:a.Pc=b.Pc
 ·simp only[c,Zpw,ZoO,Zo8,Zpa];cases decide (a.Stack=b.Stack)<;>cases(a.In==b.In)<;>cases(a.Code==b.Code)<;>cases(len a.Out==len b.Out)<;>rfl
 ·have:(a.Pc==b.Pc)=false:=by simpa using c
  simp[this]
theorem Zj3{a b:D.Path}(h:alk a b=true):a.Out.length=b.Out.length:=by
 unfold alk at h;simp only[ZoB,Zpf,Zb]at h;omega
theorem Zmd{a b:List D.Term}(ha:fineL a):iterN (fun(s1:Int)=>(if((decide (s1<(len a)))&&(decide (s1<(len b))))then(get? a s1)else some default).bind fun x4=>(if((decide (s1<(len a)))&&(decide (s1<(len b))))then(get? b s1)else some default).bind fun x5=>(if((decide (s1<(len a)))&&(decide (s1<(len b))))then(ZN fuel x4 x5)else some default).bind fun x6=>if(((decide (s1<(len a)))&&(decide (s1<(len b))))&&x6)then some (.inl ((w64 (s1+1))))else some (.inr (s1))) fuel (0)=some (((cmn sameB a b):Nat):Int):=by
  have hl:=ha.1;have:=Zgq sameB (F:=fun c x y=>if c then ZN fuel x y else some default) (a:=a) (b:=b) (fun x hx y _=>by simp[Zc9 (ha.2 x hx)]) (fun x y=>⟨_,by simp;rfl⟩) (by omega) a.length 0 fuel (by omega) (by unfold fuel;omega);simp only[ZpX,Zpp]at this;exact this
theorem Zm0{a b:List D.Term}(ha:fineL a):XJ fuel a b=some (((cmn sameB a b):Nat):Int):=by
 have hl:=ha.1;have:=Zgq sameB (F:=fun c x y=>if c then ZO fuel x y else some default) (a:=a) (b:=b) (fun x hx y _=>by simp[Zd8 (ha.2 x hx)]) (fun x y=>⟨_,by simp;rfl⟩) (by omega) a.length 0 fuel (by omega) (by unfold fuel;omega);simp only[ZpX,Zpp]at this;unfold XJ;rw[show((0:Nat):Int)=0 from rfl]at this;rw[this];rfl
theorem ZiH{a b:List Int}(hl:a.length≤100):iterN (fun(s4:Int)=>(if((decide (s4<(len a)))&&(decide (s4<(len b))))then(get? a s4)else some default).bind fun x20=>(if((decide (s4<(len a)))&&(decide (s4<(len b))))then(get? b s4)else some default).bind fun x21=>if(((decide (s4<(len a)))&&(decide (s4<(len b))))&&(x20==x21))then some (.inl ((w64 (s4+1))))else some (.inr (s4))) fuel (0)=some (((cmn (fun x y=>x==y) a b):Nat):Int):=by
  have:=Zgq (fun x y:Int=>x==y) (F:=fun _ x y=>some (x==y)) (a:=a) (b:=b) (fun x hx y _=>rfl) (fun x y=>⟨_,rfl⟩) (by omega) a.length 0 fuel (by omega) (by unfold fuel;omega);simp only[ZpX,Zpp,Zo8]at this;exact this
def is1(t:D.Term):Bool:=(t.Op==0)&&(t.N==1)
def cnd(a:D.Path)(n:Nat)(e:D.Term):List D.Term:=if is1 e=true then a.Cond.take n else a.Cond.take n++[e]
def mgo(a b:D.Path)(n:Nat)(e:D.Term)(R M O:List D.Term):D.Path:=
 ⟨a.Pc,R,M,a.Stack,a.In,O,a.Code,imax a.Steps b.Steps,cnd a n e,a.Turns.take (cmn (fun x y=>x==y) a.Turns b.Turns)⟩
noncomputable def mgP(p:D.Program)(a b:D.Path):D.Path×Bool:=
 if shp a b=true then
  if (allT (a.Cond.drop (cmn sameB a.Cond b.Cond))).2=true∧(allT (b.Cond.drop (cmn sameB a.Cond b.Cond))).2=true then
   if (mkT 9 1 0 [(allT (a.Cond.drop (cmn sameB a.Cond b.Cond))).1,(allT (b.Cond.drop (cmn sameB a.Cond b.Cond))).1]).2=true then
    match mwT (allT (a.Cond.drop (cmn sameB a.Cond b.Cond))).1 a.Regs b.Regs,mwT (allT (a.Cond.drop (cmn sameB a.Cond b.Cond))).1 a.Mem b.Mem,mwT (allT (a.Cond.drop (cmn sameB a.Cond b.Cond))).1 a.Out b.Out with
    | some R,some M,some O=>
     (mgo a b (cmn sameB a.Cond b.Cond) (mkT 9 1 0 [(allT (a.Cond.drop (cmn sameB a.Cond b.Cond))).1,(allT (b.Cond.drop (cmn sameB a.Cond b.Cond))).1]).1 R M O,pathB p (mgo a b (cmn sameB a.Cond b.Cond) (mkT 9 1 0 [(allT (a.Cond.drop (cmn sameB a.Cond b.Cond))).1,(allT (b.Cond.drop (cmn sameB a.Cond b.Cond))).1]).1 R M O))
    |_,_,_=>(pz,false)
   else(pz,false)
  else(pz,false)
 else(pz,false)
theorem Zic{a b:D.Path}{n:Nat}{e:D.Term}{R M O:List D.Term}(ha:fineP a)(hc:a.Cond.length≤60)(he:fine e)(hR:fineL R)(hM:fineL M)(hO:fineL O):fineP (mgo a b n e R M O):=by
 obtain⟨h1,h2,h3,h4,h5,h6⟩:=ha;refine⟨hR,hM,h3,hO,?_,by unfold mgo;simp;omega⟩;show fineL (cnd a n e);unfold cnd;split
 ·exact Zg6 h5 n
 ·refine⟨by simp;omega,fun x hx=> ?_⟩;rcases ZoZ.1 hx with hx|hx
  ·exact(Zg6 h5 n).2 x hx
  ·rw[ZoM]at hx;subst hx;exact he
theorem sml2'{a b:D.Term}(ha:fine a)(hb:fine b):sml [a,b]:=sml2 (YZ ha) (by have:=YZ hb;omega)
theorem ZbY{x:D.Term}{a b l:List D.Term}(h:mwT x a b=some l)(ha:fineL a)(hl:a.length=b.length):fineL l:=by
 obtain⟨g1,g2⟩:=Zg7 h ha.2 (by omega);exact⟨by have:=ha.1;omega,g1⟩
theorem ZiD{p:D.Program}{a b:D.Path}(hp:p.Code.length≤1048576)(ha:fineP a)(hb:fineP b)(hr:a.Regs.length=b.Regs.length)(hm:a.Mem.length=b.Mem.length)(hc:a.Cond.length≤60):YL fuel p a b=some (mgP p a b):=by
 obtain⟨a1,a2,a3,a4,a5,a6⟩:=id ha;obtain⟨b1,b2,b3,b4,b5,b6⟩:=id hb;unfold YL mgP;rw[Zlk a3];simp only[Zo8];cases sh:shp a b
 ·rfl
 have ho:a.Out.length=b.Out.length:=Zj3 (by unfold shp at sh;simp only[ZoB]at sh;exact sh.1);obtain⟨n1,n2⟩:=ZfD sameB a.Cond b.Cond;obtain⟨t1,t2⟩:=ZfD (fun x y:Int=>x==y) a.Turns b.Turns;simp only[ZoF,Zo9,ZoG,ZoO,Zm0 a5,Zo8,Ze2 n1,Ze2 n2,Zev n1,Zha (Zah (ZcQ a5 _)),Zha (Zah (ZcQ b5 _))];generalize hn:cmn sameB a.Cond b.Cond=n at*;generalize hX:allT (a.Cond.drop n)=X;generalize hY:allT (b.Cond.drop n)=Y;by_cases c1:X.2=true;rotate_left
 ·simp[c1];rfl
 by_cases c2:Y.2=true;rotate_left
 ·simp[c1,c2];rfl
 have fx:fine X.1:=hX▸ZdA (by rw[hX];exact c1);have fy:fine Y.1:=hY▸ZdA (by rw[hY];exact c2);simp only[c1,c2,ZoF,ZpL,Zo9,ZoG,and_self,ZoO,ZaR (sml2' fx fy),Zo8];generalize hE:mkT 9 1 0 [X.1,Y.1]=E;by_cases c3:E.2=true;rotate_left
 ·simp[c3];rfl
 have fe:fine E.1:=(hE▸Yz (by rw[hE];exact c3):fine E.1∧E.1.W=1).1;have hcl:Zy (a.Cond.take n)=some (a.Cond.take n):=by
  unfold Zy;rw[ZjZ (by simp;omega)];rfl
 have hmo:XF (a.Cond.take n) E.1=some (a.Cond.take n++[E.1]):=by
  unfold XF ZU;rw[hcl];simp only[Zo8];rw[XW (by simp;omega)];rfl
 have hcn:(if(!is1 E.1)then(XF (a.Cond.take n) E.1).bind fun x11=>some (.inl (x11))else some (.inl (a.Cond.take n)):Option (List D.Term⊕(D.Path×Bool)))=some (.inl (cnd a n E.1)):=by
  unfold cnd;rw[hmo];cases is1 E.1<;>rfl
 have hi:Zp E.1 1=some (is1 E.1):=rfl;simp only[c3,ZoF,Zo9,ZoG,ZoO,hcl,Zo8,hi,hcn,ZhD fx a1 b1 hr,ZhD fx a2 b2 hm,ZhD fx a4 b4 ho];cases m1:mwT X.1 a.Regs b.Regs
 ·simp;rfl
 rename_i R;cases m2:mwT X.1 a.Mem b.Mem
 ·simp;rfl
 rename_i M;cases m3:mwT X.1 a.Out b.Out
 ·simp;rfl
 rename_i O;have fo:=Zic (b:=b) (n:=n) ha hc fe (ZbY m1 a1 hr) (ZbY m2 a2 hm) (ZbY m3 a4 ho);have htk:Z5 (a.Turns.take (cmn (fun x y=>x==y) a.Turns b.Turns))=some (a.Turns.take (cmn (fun x y=>x==y) a.Turns b.Turns)):=by
  unfold Z5;rw[ZfQ (by simp;omega)];rfl
 simp only[ZoF,ZpL,Zo9,ZoG,ZiH a6,Zo8,Zev t1,htk];have:=ZkH hp (Zb9 fo);unfold mgo at this⊢;rw[this];rfl
theorem Zja{p:D.Program}{a b:D.Path}(h:shp a b=false):mgP p a b=(pz,false):=by unfold mgP;rw[h];rfl
theorem ZmF{p:D.Program}{a b:D.Path}(h:(mgP p a b).2=true):pathB p (mgP p a b).1=true:=by
 unfold mgP at h⊢
 repeat' split at h
 all_goals first|(cases h;done)|skip
 rename_i c1 c2 c3 _ _ _ _ _ _ m1 m2 m3;rw[ZoD c1,ZoD c2,ZoD c3,m1,m2,m3]at*;exact h
noncomputable def mgR(p:D.Program)(a b:D.Path):D.Path×Bool:=
 if pathB p a=true∧pathB p b=true∧(mgP p a b).2=true then((mgP p a b).1,true)else(pz,false)
theorem Zjk{p:D.Program}{a b:D.Path}(hp:p.Code.length≤1048576)(sa:smallP a)(sb:smallP b):YK fuel p a b=some (mgR p a b):=by
 unfold YK mgR;rw[ZeG hp sa,ZeG hp sb];simp only[Zo8,Zds];cases c1:pathB p a
 ·simp;rfl
 cases c2:pathB p b
 ·simp;rfl
 obtain⟨fa,-,ra,ma,-,ca,-⟩:=ZfU c1;obtain⟨fb,-,rb,mb,-,-,-⟩:=ZfU c2;obtain⟨a1,a2,a3,a4,a5,a6⟩:=id fa;obtain⟨b1,b2,b3,b4,b5,b6⟩:=id fb;rw[Zi7 a3];simp only[ZoF,Zo9,ZoG,ZpL,Zo8,ZoW];cases al:alk a b
 ·have:shp a b=false:=by unfold shp;rw[al];rfl
  rw[Zja this];simp;rfl
 by_cases cc:a.Code=b.Code;rotate_left
 ·have e1:(a.Code==b.Code)=false:=by simpa using cc
  have e2:(a.Code !=b.Code)=true:=by simpa using cc
  have:shp a b=false:=by unfold shp;rw[al,e1];rfl
  rw[Zja this,e2];simp;rfl
 have hs:shp a b=true:=by unfold shp;rw[al,cc];simp
 have e2:(a.Code !=b.Code)=false:=by simpa using cc
 have ho:=Zj3 al;obtain⟨n1,n2⟩:=ZfD sameB a.Cond b.Cond;obtain⟨t1,t2⟩:=ZfD (fun x y:Int=>x==y) a.Turns b.Turns;simp only[e2,ZoF,ZpL,Zo9,ZoG];rw[Zmd a5];simp only[Zo8,Ze2 n1,Ze2 n2,Zev n1,Zia (Zah (ZcQ a5 _)),Zia (Zah (ZcQ b5 _))];unfold mgP;rw[hs];simp only[ZoO];generalize hn:cmn sameB a.Cond b.Cond=n at*;generalize hX:allT (a.Cond.drop n)=X;generalize hY:allT (b.Cond.drop n)=Y;by_cases d1:X.2=true;rotate_left
 ·simp[d1];rfl
 by_cases d2:Y.2=true;rotate_left
 ·simp[d1,d2];rfl
 have fx:fine X.1:=hX▸ZdA (by rw[hX];exact d1);have fy:fine Y.1:=hY▸ZdA (by rw[hY];exact d2);have hmk:Zf fuel (D.l06Maker.mk false) 9 1 [X.1,Y.1]=some ((mkT 9 1 0 [X.1,Y.1]).1,⟨!(mkT 9 1 0 [X.1,Y.1]).2⟩):=by
  unfold Zf;rw[Zf4 (sml2' fx fy)];simp only[Zo8];cases(mkT 9 1 0 [X.1,Y.1]).2<;>rfl
 simp only[d1,d2,ZoF,ZpL,Zo9,ZoG,and_self,ZoO,hmk,Zo8,Za5 fa,ZjZ (show(a.Cond.take n).length≤1000 by simp;omega)];generalize hE:mkT 9 1 0 [X.1,Y.1]=E;have hi:Zq E.1 1=some (is1 E.1):=rfl;have hcn:(if(!is1 E.1)then(app? (a.Cond.take n) [E.1]).bind fun x16=>some (.inl (x16))else some (.inl (a.Cond.take n)):Option (List D.Term⊕(D.Path×Bool)))=some (.inl (cnd a n E.1)):=by
  unfold cnd;rw[XW (by simp;omega)];cases is1 E.1<;>rfl
 have hst:(if(decide (b.Steps>a.Steps))then some (.inl (b.Steps))else some (.inl (a.Steps)):Option (Int⊕(D.Path×Bool)))=some (.inl (imax a.Steps b.Steps)):=by
  unfold imax;by_cases c:b.Steps>a.Steps
  ·rw[ZoD (by simpa using c)];congr 2;split<;>omega
  ·rw[ZoC (by simpa using c)];congr 2;split<;>omega
 obtain⟨R,r1,r2⟩:=ZhN (!E.2) fx a1 b1 (by omega);obtain⟨M,m1,m2⟩:=ZhN (!E.2||(mwT X.1 a.Regs b.Regs).isNone) fx a2 b2 (by omega);obtain⟨O,o1,o2⟩:=ZhN ((!E.2||(mwT X.1 a.Regs b.Regs).isNone)||(mwT X.1 a.Mem b.Mem).isNone) fx a4 b4 ho;simp only[hi,Zo8,hcn,r1,m1,o1,hst,ZiH a6,Zev t1];by_cases c3:E.2=true;rotate_left
 ·have:(!E.2)=true:=by simpa using c3
  simp[c3,this];rfl
 have fe:fine E.1:=(hE▸Yz (by rw[hE];exact c3):fine E.1∧E.1.W=1).1;cases q1:mwT X.1 a.Regs b.Regs with
 |none=>simp[c3,q1];rfl
 |some R'=>
 cases q2:mwT X.1 a.Mem b.Mem with
 |none=>simp[c3,q1,q2];rfl
 |some M'=>
 cases q3:mwT X.1 a.Out b.Out with
 |none=>simp[c3,q1,q2,q3];rfl
 |some O'=>
 have e3:(!E.2)=false:=by simpa using c3
 obtain rfl:=r2 e3 _ q1;obtain rfl:=m2 (by rw[e3,q1];rfl) _ q2;obtain rfl:=o2 (by rw[e3,q1,q2];rfl) _ q3;have fo:=Zic (b:=b) (n:=n) fa ca fe (ZbY q1 a1 (by omega)) (ZbY q2 a2 (by omega)) (ZbY q3 a4 ho);have hpo:=ZeG hp (Zb9 fo);have hcp:=Za5 fo;unfold mgo at hpo hcp⊢;simp only[c3,e3,Option.isNone_some,ZpL,Zo9,ZoG,ZoO,hpo,Zo8,ZoW,Zrk];rw[hcp];generalize D.Path.mk a.Pc R M a.Stack a.In O a.Code (imax a.Steps b.Steps) (cnd a n E.1) (a.Turns.take (cmn (fun x y=>x==y) a.Turns b.Turns))=o;cases pathB p o
 ·simp;rfl
 ·simp
def fw(w:Int)(l:List D.Term):Prop:=∀t∈l,fine t∧t.W=w
structure okP(p:D.Program)(s:D.Path):Prop where
 pc:0≤s.Pc∧s.Pc≤len p.Code
 rl:s.Regs.length=4
 rf:fw p.W s.Regs
 ml:(s.Mem.length:Int)=p.Mem
 mf:fw p.W s.Mem
 sl:s.Stack.length≤3
 sp:∀x∈s.Stack,0≤x∧x≤len p.Code
 inn:0≤s.In∧s.In≤p.In
 ol:s.Out.length≤6
 of:fw p.W s.Out
 cd:0≤s.Code∧s.Code≤9
 st:0≤s.Steps∧s.Steps≤400
 cl:s.Cond.length≤60
 cf:fw 1 s.Cond
 tl:s.Turns.length≤60
theorem ZfB{w:Int}{l:List D.Term}(h:fw w l)(hl:l.length≤100):fineL l:=⟨hl,fun x hx=>(h x hx).1⟩
theorem okP.fine{p:D.Program}{s:D.Path}(h:okP p s)(hp:progB p=true):fineP s:=by
 have hm:=ZcL hp;have:=h.ml;exact⟨ZfB h.rf (by have:=h.rl;omega),ZfB h.mf (by omega),by have:=h.sl;omega,ZfB h.of (by have:=h.ol;omega),ZfB h.cf (by have:=h.cl;omega),by have:=h.tl;omega⟩
theorem ZlJ{w:Int}{l:List D.Term}(h:fw w l){k:Nat}{t:D.Term}(ht:fine t∧t.W=w):fw w (l.set k t):=fun x hx=>by
 rcases Zqg hx with hx|rfl
 ·exact h x hx
 ·exact ht
theorem Zmu{w:Int}{l:List D.Term}(h:fw w l){t:D.Term}(ht:fine t∧t.W=w):fw w (l++[t]):=fun x hx=>by
 rcases ZoZ.1 hx with hx|hx
 ·exact h x hx
 ·rw[ZoM]at hx;subst hx;exact ht
def rg(l:List D.Term)(k:Int):D.Term:=(l[k.toNat]?).getD t0
theorem Zc2{l:List D.Term}{k:Int}(h0:0≤k)(h1:k<l.length):get? l k=some (rg l k):=by
 obtain⟨j,rfl⟩:∃j:Nat,k=(j:Int):=⟨k.toNat,by omega⟩;unfold rg;rw[get?_nat,Zq8,ZoE (by omega)];rfl
theorem ZcK{w:Int}{l:List D.Term}{k:Int}(h:fw w l)(h0:0≤k)(h1:k<l.length):fine (rg l k)∧(rg l k).W=w:=by
 unfold rg;rw[ZoE (by omega)];exact h _ (Zph _)
theorem ZiR{α:Type}{l:List α}{k:Int}(h0:0≤k)(h1:k<l.length)(x:α):set? l k x=some (l.set k.toNat x):=by
 obtain⟨j,rfl⟩:∃j:Nat,k=(j:Int):=⟨k.toNat,by omega⟩;rw[set?_nat (by omega),Zq8]
theorem Zkd{l:List D.Term}(h:l.length≤1000):Zy l=some l:=by
 unfold Zy;rw[ZjZ h];rfl
theorem put_eq{l:List D.Term}{k:Int}{t:D.Term}(hl:l.length≤1000)(h0:0≤k)(h1:k<l.length):Zac l k t=some (l.set k.toNat t):=by
 unfold Zac;rw[Zkd hl];simp only[Zo8];rw[ZiR h0 h1];rfl
theorem Zh6{l:List D.Term}{t:D.Term}(hl:l.length≤1000):XF l t=some (l++[t]):=by
 unfold XF ZU;rw[Zkd hl];simp only[Zo8];rw[XW (by simp;omega)];rfl
theorem Zh4{l:List Int}{x:Int}(hl:l.length≤100):Zb0 l x=some (l++[x]):=by
 unfold Zb0 Z5;rw[ZfQ hl];simp only[Zo8];rw[XW (by simp;omega)];rfl
def kT(w v:Int):D.Term:=⟨0,w,v,⟨[]⟩,[]⟩
theorem Zct{w v:Int}(h:wordB w v=true):fine (kT w v):=⟨ZaO h,by unfold kT;rw[cnt0];omega⟩
theorem Yq{p:D.Program}(hp:progB p=true):wordB p.W p.Mem=true∧2≤p.W∧p.W≤8∧1≤p.Mem∧p.Mem≤6:=by
 unfold progB at hp;simp only[ZoB,ZoJ]at hp;exact⟨by simp[hp],by omega,by omega,by omega,by omega⟩
theorem ZcG{p:D.Program}(hp:progB p=true){k:Int}(h0:0≤k)(h1:k≤p.Mem):wordB p.W k=true:=by
 obtain⟨m1,m2,m3,m4,m5⟩:=Yq hp;rw[Yf (by omega) (by omega)]at m1⊢;omega
theorem sml2f{a b:D.Term}(ha:fine a)(hb:fine b):sml [a,b]:=sml2 (YZ ha) (by have:=YZ hb;omega)
theorem sml1f{a:D.Term}(ha:fine a):sml [a]:=by
 have:=YZ ha;unfold sml;rw[Xj,ZcH];simp;omega
theorem sml3f{a b c:D.Term}(ha:fine a)(hb:fine b)(hc:fine c):sml [a,b,c]:=sml3' (YZ ha) (YZ hb) (YZ hc)
noncomputable def cel(w k:Int)(x a b:D.Term):D.Term×Bool:=
 if(mkT 14 1 0 [kT w k,x]).2=true then mkT 17 w 0 [(mkT 14 1 0 [kT w k,x]).1,a,b]else(t0,false)
theorem ZnU{op w m:Int}{ks:List D.Term}(h:(mkT op w m ks).2=false):mkT op w m ks=(t0,false):=by
 unfold mkT at h⊢;split
 ·rename_i c;rw[ZoD c]at h;cases h
 ·rfl
theorem Zgk{w k:Int}{x a b:D.Term}(h:(cel w k x a b).2=true):fine (cel w k x a b).1∧(cel w k x a b).1.W=w:=by
 unfold cel at h⊢;split at h
 ·rename_i c;rw[ZoD c];exact Yz h
 ·cases h
theorem Zin{p:D.Program}{k:Int}{x a b:D.Term}(hw:wordB p.W k=true)(hx:fine x)(ha:fine a)(hb:fine b):XN fuel p k x a b=some (cel p.W k x a b):=by
 unfold XN cel;rw[ZZ hw];simp only[Zo8];show((ZA fuel 14 1 0 [kT p.W k,x]).bind _)=_;rw[ZaR (sml2f (Zct hw) hx)];simp only[Zo8];by_cases c:(mkT 14 1 0 [kT p.W k,x]).2=true
 ·rw[ZoC (by rw[c];simp),ZoD c,ZaR (sml3f (Yz c).1 ha hb)];rfl
 ·rw[ZoD (by simpa using c),ZoC c];rfl
theorem XH{b:Bool}{op w:Int}{ks:List D.Term}(h:sml ks):Zf fuel ⟨b⟩ op w ks=some ((mkT op w 0 ks).1,⟨b|| !(mkT op w 0 ks).2⟩):=by
 unfold Zf;rw[Zf4 h];simp only[Zo8];cases(mkT op w 0 ks).2<;>cases b<;>rfl
noncomputable def ldT(w:Int)(x:D.Term)(mem:List D.Term):Nat→D.Term→D.Term×Bool
 |0,t=>(t,true)
 |j+1,t=>if(cel w (j:Int) x (rg mem j) t).2=true then ldT w x mem j (cel w (j:Int) x (rg mem j) t).1 else(t0,false)
theorem ZhR{w:Int}{x:D.Term}{mem:List D.Term}:∀{j:Nat}{t:D.Term},fine t∧t.W=w→(ldT w x mem j t).2=true→fine (ldT w x mem j t).1∧(ldT w x mem j t).1.W=w
 |0,t,ht,_=>ht
 |j+1,t,ht,h=>by
  unfold ldT at h⊢;split at h
  ·rename_i c;rw[ZoD c];exact ZhR (Zgk c) h
  ·cases h
theorem Zm1{w:Int}{x:D.Term}{mem:List D.Term}:∀{j:Nat}{t:D.Term},(ldT w x mem j t).2=false→ldT w x mem j t=(t0,false)
 |0,t,h=>by cases h
 |j+1,t,h=>by
  unfold ldT at h⊢;split at h
  ·rename_i c;rw[ZoD c];exact Zm1 h
  ·rename_i c;rw[ZoC c]
noncomputable def load(w:Int)(mem:List D.Term)(x:D.Term):D.Term×Bool:=if x.Op=0 then(rg mem x.N,true)else ldT w x mem (mem.length-1) (rg mem ((mem.length-1:Nat):Int))
abbrev T5:=Int×Int×Int×Str×(List D.Term)
abbrev tup5(t:D.Term):T5:=(t.Op,t.W,t.N,t.Name,t.Kids)
theorem ZeK(t:D.Term):(D.Term.mk t.Op t.W t.N t.Name t.Kids)=t:=by cases t;rfl
theorem Zn6{p:D.Program}{mem:List D.Term}{x:D.Term}(hp:progB p=true)(hm:(mem.length:Int)=p.Mem)(hf:fw p.W mem)(hx:fine x):∀(j:Nat)(t:D.Term)(n:Nat),fine t∧t.W=p.W→j≤mem.length→j<n→
    iterN (fun(s1:Int×Int×Int×Int×Str×(List D.Term))=>if(decide (s1.1≥0))then(get? mem s1.1).bind fun x4=>(XN fuel p s1.1 x x4 (D.Term.mk s1.2.1 s1.2.2.1 s1.2.2.2.1 s1.2.2.2.2.1 s1.2.2.2.2.2)).bind fun x5=>if(!x5.2)then some (.inr (.inr ((D.Term.mk 0 0 0 ⟨[]⟩ ([]:List D.Term)),false)))else some (.inl ((w64 (s1.1-1)),x5.1.Op,x5.1.W,x5.1.N,x5.1.Name,x5.1.Kids))else some (.inr (.inl (s1.2.1,s1.2.2.1,s1.2.2.2.1,s1.2.2.2.2.1,s1.2.2.2.2.2))):Int×T5→Option ((Int×T5)⊕(T5⊕(D.Term×Bool))))
     n ((j:Int)-1,tup5 t)=some (if(ldT p.W x mem j t).2=true then(.inl (tup5 (ldT p.W x mem j t).1):T5⊕(D.Term×Bool))else .inr (t0,false)):=by
  intro j
  induction j with
  | zero=>
    intro t n ht _ hn;refine Yw ?_ hn;simp only;rw[ZoC (by simp)];rfl
  | succ j ih=>
    intro t n ht hj hn;obtain⟨n,rfl⟩:∃m,n=m+1:=⟨n-1,by omega⟩;have hm6:=Yq hp;have e1:((j+1:Nat):Int)-1=(j:Int):=by omega
    have eg:=Zc2 (l:=mem) (k:=(j:Int)) (by omega) (by omega);have ec:=Zin (p:=p) (k:=(j:Int)) (x:=x) (a:=rg mem j) (b:=t) (ZcG hp (by omega) (by omega)) hx (ZcK hf (by omega) (by omega)).1 ht.1;rw[e1];unfold ldT;by_cases c:(cel p.W (j:Int) x (rg mem j) t).2=true
    · rw[ZoD c,←ih _ n (Zgk c) (by omega) (by omega)]
      refine YV ?_;simp only[tup5,eg,Zo8,ZeK,ec,c];rw[ZoD (by simp),ZoC (by simp),Zm (by omega) (by omega)]
    · rw[ZoC c]
      refine Yw ?_ (by omega);simp only[tup5,eg,Zo8,ZeK,ec];rw[ZoD (by simp),ZoD (by simpa using c)];rfl
theorem Zkz{p:D.Program}{s:D.Path}{x:D.Term}(hp:progB p=true)(hm:(s.Mem.length:Int)=p.Mem)(hf:fw p.W s.Mem)(hx:fine x)(hc:x.Op=0→0≤x.N∧x.N<p.Mem):Zb8 fuel p s x=some (load p.W s.Mem x):=by
 have hm6:=Yq hp;unfold Zb8 load Zc;simp only[Zo8];by_cases c:x.Op=0
 ·obtain⟨n0,n1⟩:=hc c;rw[ZoD (by simpa using c),ZoD c,Zc2 n0 (by omega)];rfl
 ·rw[ZoC (by simpa using c),ZoC c];have e1:w64 (p.Mem-1)=((s.Mem.length-1:Nat):Int):=by rw[Zm (by omega) (by omega)];omega
  have e2:w64 (p.Mem-2)=((s.Mem.length-1:Nat):Int)-1:=by rw[Zm (by omega) (by omega)];omega
  rw[e1,e2,Zc2 (by omega) (by omega)];simp only[Zo8];have:=Zn6 hp hm hf hx (s.Mem.length-1) (rg s.Mem ((s.Mem.length-1:Nat):Int)) fuel (ZcK hf (by omega) (by omega)) (by omega) (by unfold fuel;omega);rw[this];simp only[Zo8];cases h:(ldT p.W x s.Mem (s.Mem.length-1) (rg s.Mem ((s.Mem.length-1:Nat):Int))).2
  ·rw[Zm1 h];simp
  ·simp only[ZoO,ZeK];simp[←h]
theorem ZmY{p:D.Program}{mem:List D.Term}{x:D.Term}(hp:progB p=true)(hm:(mem.length:Int)=p.Mem)(hf:fw p.W mem)(hx:fine x):∀(j:Nat)(t:D.Term)(n:Nat),fine t∧t.W=p.W→j≤mem.length→j+1<n→
    ∃t',iterN (fun(s1:Int×Bool×Int×Int×Int×Str×(List D.Term))=>if((decide (s1.1≥0))&&(!s1.2.1))then(ZC p.W s1.1).bind fun x3=>(Zf fuel (D.l06Maker.mk s1.2.1) 14 1 ([(D.Term.mk x3.Op x3.W x3.N x3.Name ([]:List D.Term)),x]:List D.Term)).bind fun x4=>if(!x4.2.bad)then(get? mem s1.1).bind fun x5=>(Zf fuel x4.2 17 p.W ([x4.1,x5,(D.Term.mk s1.2.2.1 s1.2.2.2.1 s1.2.2.2.2.1 s1.2.2.2.2.2.1 s1.2.2.2.2.2.2)]:List D.Term)).bind fun x6=>some (.inl ((w64 (s1.1-1)),x6.2.bad,x6.1.Op,x6.1.W,x6.1.N,x6.1.Name,x6.1.Kids))else some (.inl ((w64 (s1.1-1)),x4.2.bad,s1.2.2.1,s1.2.2.2.1,s1.2.2.2.2.1,s1.2.2.2.2.2.1,s1.2.2.2.2.2.2))else some (.inr (s1.2.1,s1.2.2.1,s1.2.2.2.1,s1.2.2.2.2.1,s1.2.2.2.2.2.1,s1.2.2.2.2.2.2)):Int×Bool×T5→Option ((Int×Bool×T5)⊕(Bool×T5))) n ((j:Int)-1,false,tup5 t)=some (!(ldT p.W x mem j t).2,tup5 t')∧((ldT p.W x mem j t).2=true→t'=(ldT p.W x mem j t).1):=by
  intro j
  induction j with
  | zero=>
    intro t n ht _ hn;refine⟨t,Yw ?_ (by omega),fun _=>rfl⟩;simp only;rw[ZoC (by simp)];rfl
  | succ j ih=>
    intro t n ht hj hn;obtain⟨n,rfl⟩:∃m,n=m+1:=⟨n-1,by omega⟩;have hm6:=Yq hp;have e1:((j+1:Nat):Int)-1=(j:Int):=by omega
    have eg:=Zc2 (l:=mem) (k:=(j:Int)) (by omega) (by omega);have hw:=ZcG hp (k:=(j:Int)) (by omega) (by omega);have em:=XH (b:=false) (op:=14) (w:=1) (ks:=[kT p.W j,x]) (sml2f (Zct hw) hx);unfold kT at em;rw[e1];have stop:∀u:D.Term,∀i:Int,0<n→iterN (fun(s1:Int×Bool×Int×Int×Int×Str×(List D.Term))=>if((decide (s1.1≥0))&&(!s1.2.1))then(ZC p.W s1.1).bind fun x3=>(Zf fuel (D.l06Maker.mk s1.2.1) 14 1 ([(D.Term.mk x3.Op x3.W x3.N x3.Name ([]:List D.Term)),x]:List D.Term)).bind fun x4=>if(!x4.2.bad)then(get? mem s1.1).bind fun x5=>(Zf fuel x4.2 17 p.W ([x4.1,x5,(D.Term.mk s1.2.2.1 s1.2.2.2.1 s1.2.2.2.2.1 s1.2.2.2.2.2.1 s1.2.2.2.2.2.2)]:List D.Term)).bind fun x6=>some (.inl ((w64 (s1.1-1)),x6.2.bad,x6.1.Op,x6.1.W,x6.1.N,x6.1.Name,x6.1.Kids))else some (.inl ((w64 (s1.1-1)),x4.2.bad,s1.2.2.1,s1.2.2.2.1,s1.2.2.2.2.1,s1.2.2.2.2.2.1,s1.2.2.2.2.2.2))else some (.inr (s1.2.1,s1.2.2.1,s1.2.2.2.1,s1.2.2.2.2.1,s1.2.2.2.2.2.1,s1.2.2.2.2.2.2)):Int×Bool×T5→Option ((Int×Bool×T5)⊕(Bool×T5))) n (i,true,tup5 u)=some (true,tup5 u):=fun u i h0=>by
      refine Yw ?_ h0;simp
    have hd:decide ((j:Int)≥0)=true:=by simp
    by_cases c1:(mkT 14 1 0 [⟨0,p.W,(j:Int),⟨[]⟩,[]⟩,x]).2=true
    · have hf1:fine (mkT 14 1 0 [⟨0,p.W,(j:Int),⟨[]⟩,[]⟩,x]).1:=(Yz c1).1
      have em2:=XH (b:=false) (op:=17) (w:=p.W) (ks:=[(mkT 14 1 0 [⟨0,p.W,(j:Int),⟨[]⟩,[]⟩,x]).1,rg mem j,t]) (sml3f hf1 (ZcK hf (by omega) (by omega)).1 ht.1);have ecel:cel p.W (j:Int) x (rg mem j) t=mkT 17 p.W 0 [(mkT 14 1 0 [⟨0,p.W,(j:Int),⟨[]⟩,[]⟩,x]).1,rg mem j,t]:=by unfold cel kT;rw[ZoD c1]
      by_cases c2:(mkT 17 p.W 0 [(mkT 14 1 0 [⟨0,p.W,(j:Int),⟨[]⟩,[]⟩,x]).1,rg mem j,t]).2=true
      · obtain⟨t',h1,h2⟩:=ih (mkT 17 p.W 0 [(mkT 14 1 0 [⟨0,p.W,(j:Int),⟨[]⟩,[]⟩,x]).1,rg mem j,t]).1 n (Yz c2) (by omega) (by omega)
        have hl:ldT p.W x mem (j+1) t=ldT p.W x mem j (mkT 17 p.W 0 [(mkT 14 1 0 [⟨0,p.W,(j:Int),⟨[]⟩,[]⟩,x]).1,rg mem j,t]).1:=by
          conv=>lhs;unfold ldT
          rw[ecel,ZoD c2]
        rw[hl];refine⟨t',?_,h2⟩;rw[←h1];refine YV ?_;simp only[tup5,hd,Zpz,ZoO,Zi,Zo8,em,c1,ZoF,Zqd,Zpr,Zpz,eg,ZeK,em2,c2];rw[Zm (by omega) (by omega)]
      · have hl:ldT p.W x mem (j+1) t=(t0,false):=by
          conv=>lhs;unfold ldT
          rw[ecel,ZoC c2]
        have c2':(mkT 17 p.W 0 [(mkT 14 1 0 [⟨0,p.W,(j:Int),⟨[]⟩,[]⟩,x]).1,rg mem j,t]).2=false:=by simpa using c2
        rw[hl];refine⟨(mkT 17 p.W 0 [(mkT 14 1 0 [⟨0,p.W,(j:Int),⟨[]⟩,[]⟩,x]).1,rg mem j,t]).1,?_,fun h=>by cases h⟩;rw[YV (s':=(w64 ((j:Int)-1),true,tup5 (mkT 17 p.W 0 [(mkT 14 1 0 [⟨0,p.W,(j:Int),⟨[]⟩,[]⟩,x]).1,rg mem j,t]).1)),stop _ _ (by omega)]
        · rfl
        · simp only[tup5,hd,Zpz,ZoO,Zi,Zo8,em,c1,ZoF,Zqd,Zpr,eg,ZeK,em2,c2',ZoW]
    · have c1':(mkT 14 1 0 [⟨0,p.W,(j:Int),⟨[]⟩,[]⟩,x]).2=false:=by simpa using c1
      have hl:ldT p.W x mem (j+1) t=(t0,false):=by
        conv=>lhs;unfold ldT
        have:cel p.W (j:Int) x (rg mem j) t=(t0,false):=by unfold cel kT;rw[ZoC c1]
        rw[this];rfl
      rw[hl];refine⟨t,?_,fun h=>by cases h⟩;rw[YV (s':=(w64 ((j:Int)-1),true,tup5 t)),stop _ _ (by omega)]
      · rfl
      · simp only[tup5,hd,Zpz,ZoO,Zi,Zo8,em,c1',Zpr,Bool.or_true,ZoF,Zo9,ZoG,ZoW]
theorem Zk0{p:D.Program}{s:D.Path}{x:D.Term}(hp:progB p=true)(hm:(s.Mem.length:Int)=p.Mem)(hf:fw p.W s.Mem)(hx:fine x)(hc:x.Op=0→0≤x.N∧x.N<p.Mem):
  ∃t',YO fuel ⟨false⟩ p s x=some (t',⟨!(load p.W s.Mem x).2⟩)∧((load p.W s.Mem x).2=true→t'=(load p.W s.Mem x).1):=by
 have hm6:=Yq hp;unfold YO load;by_cases c:x.Op=0
 ·obtain⟨n0,n1⟩:=hc c;refine⟨rg s.Mem x.N,?_,fun _=>by rw[ZoD c]⟩;rw[ZoD (by simpa using c),ZoD c,Zc2 n0 (by omega)];rfl
 ·have e1:w64 (p.Mem-1)=((s.Mem.length-1:Nat):Int):=by rw[Zm (by omega) (by omega)];omega
  have e2:w64 (p.Mem-2)=((s.Mem.length-1:Nat):Int)-1:=by rw[Zm (by omega) (by omega)];omega
  obtain⟨t',h1,h2⟩:=ZmY hp hm hf hx (s.Mem.length-1) (rg s.Mem ((s.Mem.length-1:Nat):Int)) fuel (ZcK hf (by omega) (by omega)) (by omega) (by unfold fuel;omega);refine⟨t',?_,fun h=>by rw[ZoC c]at h⊢;exact h2 h⟩;rw[ZoC (by simpa using c),ZoC c,e1,e2,Zc2 (by omega) (by omega)];simp only[Zo8];rw[h1];simp only[Zo8,ZeK]
theorem ZkZ{p:D.Program}{s:D.Path}{x:D.Term}(hp:progB p=true)(hm:(s.Mem.length:Int)=p.Mem)(hf:fw p.W s.Mem)(hc:x.Op=0→0≤x.N∧x.N<p.Mem)(h:(load p.W s.Mem x).2=true):fine (load p.W s.Mem x).1∧(load p.W s.Mem x).1.W=p.W:=by
 have hm6:=Yq hp;unfold load at h⊢;by_cases c:x.Op=0
 ·rw[ZoD c];obtain⟨n0,n1⟩:=hc c;exact ZcK hf n0 (by omega)
 ·rw[ZoC c]at h⊢;exact ZhR (ZcK hf (by omega) (by omega)) h
theorem Zke{α:Type}{m1 m2:List α}{t:α}{i:Int}(h:i=(m1.length:Int)):get? (m1++t::m2) i=some t:=by
 subst h;rw[get?_nat];simp
theorem set_mid{α:Type}{m1 m2:List α}{t u:α}{i:Int}(h:i=(m1.length:Int)):set? (m1++t::m2) i u=some (m1++u::m2):=by
 subst h;rw[set?_nat (by simp)];simp
noncomputable def stG(w:Int)(x v:D.Term):Nat→List D.Term→List D.Term×Bool
 |_,[]=>([],true)
 |i,t::l=>if(cel w (i:Int) x v t).2=true then((cel w (i:Int) x v t).1::(stG w x v (i+1) l).1,(stG w x v (i+1) l).2)else([],false)
theorem Zkf{w:Int}{x v:D.Term}:∀{l:List D.Term}{i:Nat},(stG w x v i l).2=true→(stG w x v i l).1.length=l.length
 |[],i,_=>rfl
 |t::l,i,h=>by
  unfold stG at h⊢;split at h
  ·rename_i c;rw[ZoD c];simp only[ZoP,Zkf (l:=l) (i:=i+1) h]
  ·cases h
theorem Zm9{w:Int}{x v:D.Term}:∀{l:List D.Term}{i:Nat},(stG w x v i l).2=true→fw w (stG w x v i l).1
 |[],i,_=>fun t ht=>by cases ht
 | t::l,i,h=>by
  unfold stG at h⊢;split at h
  ·rename_i c;rw[ZoD c];intro y hy;rcases Zpc.1 hy with rfl|hy
   ·exact Zgk c
   ·exact Zm9 (l:=l) (i:=i+1) h y hy
  ·cases h
theorem Zns{p:D.Program}{mem x3:List D.Term}{x v:D.Term}(hp:progB p=true)(hm:(mem.length:Int)=p.Mem)(hf:fw p.W mem)(hx:fine x)(hv:fine v)(h3:len x3=(mem.length:Int)):∀(m2 m1 done rest:List D.Term)(n:Nat),mem=m1++m2→done.length=m1.length→rest.length=m2.length→m2.length<n→
    iterN (fun(s1:Int×(List D.Term))=>if(decide (s1.1<(len x3)))then(get? mem s1.1).bind fun x4=>(XN fuel p s1.1 x v x4).bind fun x5=>if(!x5.2)then some (.inr (.inr (([]:List D.Term),false)))else(set? s1.2 s1.1 x5.1).bind fun x6=>some (.inl ((w64 (s1.1+1)),x6))else some (.inr (.inl (s1.2))):Int×List D.Term→Option ((Int×List D.Term)⊕(List D.Term⊕(List D.Term×Bool))))
     n ((m1.length:Int),done++rest)=some (if(stG p.W x v m1.length m2).2=true then(.inl (done++(stG p.W x v m1.length m2).1):List D.Term⊕(List D.Term×Bool))else .inr ([],false)):=by
  have hm6:=Yq hp;intro m2
  induction m2 with
  | nil=>
    intro m1 done rest n he hd hr hn;have:rest=[]:=Zp5.1 hr;subst this;refine Yw ?_ (by omega);have hml:(m1.length:Int)=mem.length:=by rw[he];simp
    simp only;rw[ZoC (by rw[h3];simp;omega)];simp[stG]
  | cons t m2 ih=>
    intro m1 done rest n he hd hr hn;obtain⟨n,rfl⟩:∃m,n=m+1:=⟨n-1,by simp at hn;omega⟩;obtain⟨r,rest,rfl⟩:∃r l,rest=r::l:=by
      cases rest with
      |nil=>simp at hr
      |cons r l=>exact⟨r,l,rfl⟩
    have hml:(mem.length:Int)=m1.length+(m2.length+1):=by rw[he];simp
    have ht:fine t∧t.W=p.W:=hf t (by rw[he];simp);have hg:get? mem (m1.length:Int)=some t:=by rw[he];exact Zke rfl
    have ec:=Zin (p:=p) (k:=(m1.length:Int)) (x:=x) (a:=v) (b:=t) (ZcG hp (by omega) (by omega)) hx hv ht.1;have hc:decide ((m1.length:Int)<len x3)=true:=by rw[h3];simp;omega
    have e1:w64 ((m1.length:Int)+1)=((m1++[t]).length:Int):=by rw[Zm (by omega) (by omega)];simp
    unfold stG;by_cases c:(cel p.W (m1.length:Int) x v t).2=true
    · rw[ZoD c]
      have:=ih (m1++[t]) (done++[(cel p.W (m1.length:Int) x v t).1]) rest n (by rw[he];simp) (by simp[hd]) (by simpa using hr) (by simp at hn;omega);have el:(m1++[t]).length=m1.length+1:=by simp
      rw[el]at this;simp only[ZpI,ZpK]at this;rw[←this];refine YV ?_;simp only[hc,hg,Zo8,ec,c,ZoO,ZoF,Zo9,ZoG];rw[set_mid (by rw[hd])];simp only[Zo8,e1,el]
    · rw[ZoC c]
      refine Yw ?_ (by omega);simp only[hc,hg,Zo8,ec,ZoO];rw[ZoD (by simpa using c)];rfl
noncomputable def store(w:Int)(mem:List D.Term)(x v:D.Term):List D.Term×Bool:=if x.Op=0 then(mem.set x.N.toNat v,true)else if(stG w x v 0 mem).2=true then((stG w x v 0 mem).1,true)else([],false)
theorem Zjf{p:D.Program}{s:D.Path}{x v:D.Term}(hp:progB p=true)(hm:(s.Mem.length:Int)=p.Mem)(hf:fw p.W s.Mem)(hx:fine x)(hv:fine v)(hc:x.Op=0→0≤x.N∧x.N<p.Mem):ZbH fuel p s x v=some (store p.W s.Mem x v):=by
 have hm6:=Yq hp;unfold ZbH store Zc;simp only[Zo8];by_cases c:x.Op=0
 ·obtain⟨n0,n1⟩:=hc c;rw[ZoD (by simpa using c),ZoD c,put_eq (by omega) n0 (by omega)];rfl
 ·rw[ZoC (by simpa using c),ZoC c];obtain⟨x3,e3,l3⟩:∃x3,mk? p.Mem (D.Term.mk 0 0 0 ⟨[]⟩ ([]:List D.Term))=some x3∧x3.length=s.Mem.length:=by
   refine⟨List.replicate p.Mem.toNat (D.Term.mk 0 0 0 ⟨[]⟩ ([]:List D.Term)),?_,by simp;omega⟩;unfold mk?;rw[ZoD ⟨by omega,by unfold room;omega⟩]
  rw[e3];simp only[Zo8];have:=Zns hp hm hf hx hv (x3:=x3) (by unfold len;omega) s.Mem [] [] x3 fuel rfl rfl l3 (by unfold fuel;omega);simp only[Zpv,Zqq]at this;rw[show((0:Nat):Int)=0 from rfl]at this;rw[this];simp only[Zo8];cases h:(stG p.W x v 0 s.Mem).2<;>simp
theorem Znf{p:D.Program}{mem:List D.Term}{x v:D.Term}(hp:progB p=true)(hm:(mem.length:Int)=p.Mem)(hf:fw p.W mem)(hx:fine x)(hv:fine v):∀(m2 m1 done rest:List D.Term)(n:Nat),mem=m1++m2→done.length=m1.length→rest.length=m2.length→m2.length+1<n→
    ∃l',iterN (fun(s1:Int×Bool×(List D.Term))=>if((decide (s1.1<p.Mem))&&(!s1.2.1))then(ZC p.W s1.1).bind fun x3=>(Zf fuel (D.l06Maker.mk s1.2.1) 14 1 ([(D.Term.mk x3.Op x3.W x3.N x3.Name ([]:List D.Term)),x]:List D.Term)).bind fun x4=>if(!x4.2.bad)then(get? mem s1.1).bind fun x5=>(Zf fuel x4.2 17 p.W ([x4.1,v,x5]:List D.Term)).bind fun x6=>(set? s1.2.2 s1.1 x6.1).bind fun x7=>some (.inl ((w64 (s1.1+1)),x6.2.bad,x7))else some (.inl ((w64 (s1.1+1)),x4.2.bad,s1.2.2))else some (.inr (s1.2.1,s1.2.2)):Int×Bool×List D.Term→Option ((Int×Bool×List D.Term)⊕(Bool×List D.Term)))
     n ((m1.length:Int),false,done++rest)=some (!(stG p.W x v m1.length m2).2,l')∧l'.length=mem.length∧((stG p.W x v m1.length m2).2=true→l'=done++(stG p.W x v m1.length m2).1):=by
  have hm6:=Yq hp;intro m2
  induction m2 with
  | nil=>
    intro m1 done rest n he hd hr hn;have:rest=[]:=Zp5.1 hr;subst this;have hml:(m1.length:Int)=mem.length:=by rw[he];simp
    refine⟨done,?_,by omega,fun _=>by simp[stG]⟩;refine Yw ?_ (by omega);simp only;rw[ZoC (by simp;omega)];simp[stG]
  | cons t m2 ih=>
    intro m1 done rest n he hd hr hn;obtain⟨n,rfl⟩:∃m,n=m+1:=⟨n-1,by simp at hn;omega⟩;obtain⟨r,rest,rfl⟩:∃r l,rest=r::l:=by
      cases rest with
      |nil=>simp at hr
      |cons r l=>exact⟨r,l,rfl⟩
    simp only[ZoP]at hr hn;have hml:(mem.length:Int)=m1.length+(m2.length+1):=by rw[he];simp
    have hmn:mem.length=m1.length+(m2.length+1):=by omega
    have ht:fine t∧t.W=p.W:=hf t (by rw[he];simp);have hg:get? mem (m1.length:Int)=some t:=by rw[he];exact Zke rfl
    have hw:=ZcG hp (k:=(m1.length:Int)) (by omega) (by omega);have em:=XH (b:=false) (op:=14) (w:=1) (ks:=[kT p.W m1.length,x]) (sml2f (Zct hw) hx);unfold kT at em;have hc:decide ((m1.length:Int)<p.Mem)=true:=by simp;omega
    have e1:w64 ((m1.length:Int)+1)=((m1++[t]).length:Int):=by rw[Zm (by omega) (by omega)];simp
    have el:(m1++[t]).length=m1.length+1:=by simp
    have stop:∀u:List D.Term,∀i:Int,0<n→iterN (fun(s1:Int×Bool×(List D.Term))=>if((decide (s1.1<p.Mem))&&(!s1.2.1))then(ZC p.W s1.1).bind fun x3=>(Zf fuel (D.l06Maker.mk s1.2.1) 14 1 ([(D.Term.mk x3.Op x3.W x3.N x3.Name ([]:List D.Term)),x]:List D.Term)).bind fun x4=>if(!x4.2.bad)then(get? mem s1.1).bind fun x5=>(Zf fuel x4.2 17 p.W ([x4.1,v,x5]:List D.Term)).bind fun x6=>(set? s1.2.2 s1.1 x6.1).bind fun x7=>some (.inl ((w64 (s1.1+1)),x6.2.bad,x7))else some (.inl ((w64 (s1.1+1)),x4.2.bad,s1.2.2))else some (.inr (s1.2.1,s1.2.2)):Int×Bool×List D.Term→Option ((Int×Bool×List D.Term)⊕(Bool×List D.Term))) n (i,true,u)=some (true,u):=fun u i h0=>by
      refine Yw ?_ h0;simp
    by_cases c1:(mkT 14 1 0 [⟨0,p.W,(m1.length:Int),⟨[]⟩,[]⟩,x]).2=true
    · have hf1:fine (mkT 14 1 0 [⟨0,p.W,(m1.length:Int),⟨[]⟩,[]⟩,x]).1:=(Yz c1).1
      have em2:=XH (b:=false) (op:=17) (w:=p.W) (ks:=[(mkT 14 1 0 [⟨0,p.W,(m1.length:Int),⟨[]⟩,[]⟩,x]).1,v,t]) (sml3f hf1 hv ht.1);have ecel:cel p.W (m1.length:Int) x v t=mkT 17 p.W 0 [(mkT 14 1 0 [⟨0,p.W,(m1.length:Int),⟨[]⟩,[]⟩,x]).1,v,t]:=by unfold cel kT;rw[ZoD c1]
      by_cases c2:(mkT 17 p.W 0 [(mkT 14 1 0 [⟨0,p.W,(m1.length:Int),⟨[]⟩,[]⟩,x]).1,v,t]).2=true
      · have hl:stG p.W x v m1.length (t::m2)=((mkT 17 p.W 0 [(mkT 14 1 0 [⟨0,p.W,(m1.length:Int),⟨[]⟩,[]⟩,x]).1,v,t]).1::(stG p.W x v (m1.length+1) m2).1,(stG p.W x v (m1.length+1) m2).2):=by
          conv=>lhs;unfold stG
          rw[ecel,ZoD c2]
        obtain⟨l',h1,h2,h3⟩:=ih (m1++[t]) (done++[(mkT 17 p.W 0 [(mkT 14 1 0 [⟨0,p.W,(m1.length:Int),⟨[]⟩,[]⟩,x]).1,v,t]).1]) rest n (by rw[he];simp) (by simp[hd]) (by omega) (by omega);rw[el]at h1 h3;simp only[ZpI,ZpK]at h1 h3;rw[hl];refine⟨l',?_,h2,h3⟩;rw[←h1];refine YV ?_;simp only[hc,Zpz,ZoO,Zi,Zo8,em,c1,ZoF,Zqd,Zpr,hg,em2,c2];rw[set_mid (by rw[hd])];simp only[Zo8,e1,el]
      · have c2':(mkT 17 p.W 0 [(mkT 14 1 0 [⟨0,p.W,(m1.length:Int),⟨[]⟩,[]⟩,x]).1,v,t]).2=false:=by simpa using c2
        have hl:stG p.W x v m1.length (t::m2)=([],false):=by
          conv=>lhs;unfold stG
          rw[ecel,ZoC c2]
        rw[hl];refine⟨done++(mkT 17 p.W 0 [(mkT 14 1 0 [⟨0,p.W,(m1.length:Int),⟨[]⟩,[]⟩,x]).1,v,t]).1::rest,?_,by simp;omega,fun h=>by cases h⟩;rw[YV (s':=(w64 ((m1.length:Int)+1),true,done++(mkT 17 p.W 0 [(mkT 14 1 0 [⟨0,p.W,(m1.length:Int),⟨[]⟩,[]⟩,x]).1,v,t]).1::rest)),stop _ _ (by omega)]
        · rfl
        · simp only[hc,Zpz,ZoO,Zi,Zo8,em,c1,ZoF,Zqd,Zpr,hg,em2,c2',ZoW]
          rw[set_mid (by rw[hd])];simp only[Zo8]
    · have c1':(mkT 14 1 0 [⟨0,p.W,(m1.length:Int),⟨[]⟩,[]⟩,x]).2=false:=by simpa using c1
      have hl:stG p.W x v m1.length (t::m2)=([],false):=by
        conv=>lhs;unfold stG
        have:cel p.W (m1.length:Int) x v t=(t0,false):=by unfold cel kT;rw[ZoC c1]
        rw[this];rfl
      rw[hl];refine⟨done++r::rest,?_,by simp;omega,fun h=>by cases h⟩;rw[YV (s':=(w64 ((m1.length:Int)+1),true,done++r::rest)),stop _ _ (by omega)]
      · rfl
      · simp only[hc,Zpz,ZoO,Zi,Zo8,em,c1',Zpr,Bool.or_true,ZoF,Zo9,ZoG,ZoW]
theorem Zjr{p:D.Program}{s:D.Path}{x v:D.Term}(hp:progB p=true)(hm:(s.Mem.length:Int)=p.Mem)(hf:fw p.W s.Mem)(hx:fine x)(hv:fine v)(hc:x.Op=0→0≤x.N∧x.N<p.Mem):
  ∃l',YE fuel ⟨false⟩ p s x v=some (l',⟨!(store p.W s.Mem x v).2⟩)∧l'.length=s.Mem.length∧((store p.W s.Mem x v).2=true→l'=(store p.W s.Mem x v).1):=by
 have hm6:=Yq hp;unfold YE store;rw[ZjZ (by omega)];simp only[Zo8];by_cases c:x.Op=0
 ·obtain⟨n0,n1⟩:=hc c;refine⟨s.Mem.set x.N.toNat v,?_,by simp,fun _=>by rw[ZoD c]⟩;rw[ZoD (by simpa using c),ZoD c,ZiR n0 (by omega)];rfl
 ·obtain⟨l',h1,h2,h3⟩:=Znf hp hm hf hx hv s.Mem [] [] s.Mem fuel rfl rfl rfl (by unfold fuel;omega);simp only[Zpv,Zqq]at h1 h3;rw[show((0:Nat):Int)=0 from rfl]at h1;refine⟨l',?_,h2,fun h=>?_⟩
  ·rw[ZoC (by simpa using c),ZoC c,h1];simp only[Zo8];cases h:(stG p.W x v 0 s.Mem).2<;>simp
  ·rw[ZoC c]at h⊢;by_cases d:(stG p.W x v 0 s.Mem).2=true
   ·rw[ZoD d];exact h3 d
   ·rw[ZoC d]at h;cases h
theorem Zjl{p:D.Program}{s:D.Path}{x v:D.Term}(hf:fw p.W s.Mem)(hv:fine v∧v.W=p.W)(h:(store p.W s.Mem x v).2=true):fw p.W (store p.W s.Mem x v).1∧(store p.W s.Mem x v).1.length=s.Mem.length:=by
 unfold store at h⊢;by_cases c:x.Op=0
 ·rw[ZoD c];exact⟨ZlJ hf hv,by simp⟩
 ·rw[ZoC c]at h⊢;by_cases d:(stG p.W x v 0 s.Mem).2=true
  ·rw[ZoD d];exact⟨Zm9 d,Zkf d⟩
  ·rw[ZoC d]at h;cases h
structure insF(w n:Int)(i:D.Ins):Prop where
 op:1≤i.Op∧i.Op≤14
 a:i.Op≠9→i.Op≠11→i.Op≠12→i.Op≠14→0≤i.A∧i.A<4
 b:i.Op=2∨i.Op=3∨i.Op=7∨i.Op=8→0≤i.B∧i.B<4
 v:i.Op=1→wordB w i.B=true
 c:i.Op=3→3≤i.C∧i.C≤16
 t:i.Op=9∨i.Op=10∨i.Op=11→0≤i.B∧i.B≤n
theorem Zo4(a:Int):Y3 a=some (decide (0≤a∧a<4)):=by
 unfold Y3 Zj;by_cases h:0≤a∧a<4
 ·have h1:=h.1;have h2:a≤3:=by omega
  simp[h1,h2,h]
 ·have:¬(0≤a∧a≤3):=by omega
  simp only[decide_eq_false h,Option.some.injEq];simp;omega
theorem ZkY{w n:Int}{i:D.Ins}(h:insB w n i=true):insF w n i:=by
 unfold insB X7 Zj at h;simp only[Zo4,Xb,Zo8]at h;by_cases c:1≤i.Op∧i.Op≤14
 ·have:i.Op=1∨i.Op=2∨i.Op=3∨i.Op=4∨i.Op=5∨i.Op=6∨i.Op=7∨i.Op=8∨i.Op=9∨i.Op=10∨i.Op=11∨i.Op=12∨i.Op=13∨i.Op=14:=by omega
  rcases this with c|c|c|c|c|c|c|c|c|c|c|c|c|c<;>simp[c,Zj]at h
  all_goals(by_cases ha:0≤i.A∧i.A<4)
  all_goals(by_cases hb:0≤i.B∧i.B<4)
  all_goals(try simp[ha,hb]at h)
  all_goals(first
   |(exfalso;omega)
   |exact⟨by omega,fun _ _ _ _=>by omega,fun _=>by omega,fun e=>by first|omega|exact h.1|exact h.2.1|simp_all,fun _=>by omega,fun _=>by omega⟩)
 ·exfalso;have n1:∀k:Int,1≤k→k≤14→i.Op≠k:=fun k h1 h2 e=>c (by omega);simp[n1 1,n1 2,n1 3,n1 4,n1 5,n1 6,n1 7,n1 8,n1 9,n1 10,n1 11,n1 12,n1 13,n1 14]at h
theorem ZfF{p:D.Program}(hp:progB p=true){i:D.Ins}(hi:i∈p.Code):insF p.W p.Code.length i:=by
 unfold progB at hp;simp only[ZoB,ZoK]at hp;exact ZkY (hp.2 i hi)
noncomputable def qad(p:D.Program)(x:D.Term):D.Term×Bool×Bool:=
 if(mkT 15 1 0 [x,kT p.W p.Mem]).2=true then((mkT 1 1 0 [(mkT 15 1 0 [x,kT p.W p.Mem]).1]).1,true,(mkT 1 1 0 [(mkT 15 1 0 [x,kT p.W p.Mem]).1]).2)else(t0,true,false)
noncomputable def qze(p:D.Program)(x:D.Term):D.Term×Bool×Bool:=((mkT 14 1 0 [kT p.W 0,x]).1,true,(mkT 14 1 0 [kT p.W 0,x]).2)
noncomputable def qst(p:D.Program)(rs:List D.Term)(i:D.Ins):D.Term×Bool×Bool:=
 if i.Op=10∨i.Op=13 then qze p (rg rs i.A)
 else if i.Op=3 then(if i.C=6∨i.C=7 then qze p (rg rs i.B)else(t0,false,true))
 else if i.Op=7 then qad p (rg rs i.B)
 else if i.Op=8 then qad p (rg rs i.A)
 else(t0,false,true)
theorem ZcM{p:D.Program}(hp:progB p=true):wordB p.W 0=true:=ZcG hp (by omega) (by have:=Yq hp;omega)
theorem ZhZ{p:D.Program}(hp:progB p=true){x:D.Term}(hx:fine x):ZA fuel 14 1 0 [⟨0,p.W,0,⟨[]⟩,[]⟩,x]=some ((qze p x).1,(qze p x).2.2):=ZaR (sml2f (Zct (ZcM hp)) hx)
theorem ZgK{p:D.Program}{s:D.Path}{i:D.Ins}(hp:progB p=true)(hs:okP p s)(hi:insF p.W p.Code.length i):ZaK fuel p s i=some (qst p s.Regs i):=by
 have hz:=ZcM hp;have hm:=(Yq hp).1;have hr:∀k:Int,0≤k∧k<4→get? s.Regs k=some (rg s.Regs k)∧fine (rg s.Regs k):=fun k hk=>⟨Zc2 hk.1 (by have:=hs.rl;omega),(ZcK hs.rf hk.1 (by have:=hs.rl;omega)).1⟩;have had:∀x:D.Term,fine x→((ZA fuel 15 1 0 [x,⟨0,p.W,p.Mem,⟨[]⟩,[]⟩]).bind fun x8=>if(!x8.2)then some ((D.Term.mk 0 0 0 ⟨[]⟩ ([]:List D.Term)),true,false)else(ZA fuel 1 1 0 ([x8.1]:List D.Term)).bind fun x9=>some (x9.1,true,x9.2))=some (qad p x):=by
  intro x hx;have:=ZaR (op:=15) (w:=1) (m:=0) (sml2f hx (Zct hm));unfold kT at this;rw[this];simp only[Zo8];unfold qad kT;by_cases c:(mkT 15 1 0 [x,⟨0,p.W,p.Mem,⟨[]⟩,[]⟩]).2=true
  ·rw[ZoD c,ZoC (by rw[c];simp),ZaR (sml1f (Yz c).1)];rfl
  ·rw[ZoC c,ZoD (by simpa using c)];rfl
 unfold ZaK qst;rw[ZZ hz];simp only[Zo8];by_cases c1:i.Op=10∨i.Op=13
 ·obtain⟨g,f⟩:=hr i.A (hi.a (by omega) (by omega) (by omega) (by omega));rw[ZoD (by simpa using c1),ZoD c1,g];simp only[Zo8];rw[ZhZ hp f];rfl
 ·rw [ZoC (by simpa using c1),ZoC c1]
  by_cases c2:i.Op=3
  ·rw[ZoD (by simpa using c2),ZoD c2];by_cases c3:i.C=6∨i.C=7
   ·obtain⟨g,f⟩:=hr i.B (hi.b (by omega));rw[ZoC (by simp;omega),ZoD c3,g];simp only[Zo8];rw[ZhZ hp f];rfl
   ·rw[ZoD (by simp;omega),ZoC c3];rfl
  ·rw[ZoC (by simpa using c2),ZoC c2];by_cases c4:i.Op=7
   ·obtain⟨g,f⟩:=hr i.B (hi.b (by omega));rw[ZoD (by simpa using c4),ZoD c4];simp only[Zo8];rw[g,ZZ hm];simp only[Zo8];exact had _ f
   ·rw[ZoC (by simpa using c4),ZoC c4];by_cases c5:i.Op=8
    ·obtain⟨g,f⟩:=hr i.A (hi.a (by omega) (by omega) (by omega) (by omega));rw[ZoD (by simpa using c5),ZoD c5];simp only[Zo8];rw[g,ZZ hm];simp only[Zo8];exact had _ f
    ·rw[ZoC (by simpa using c5),ZoC c5];rfl
theorem ZgD{p:D.Program}{s:D.Path}{i:D.Ins}(hp:progB p=true)(hs:okP p s)(hi:insF p.W p.Code.length i):
  ∃t',Y6 fuel ⟨false⟩ p s i=some (t',(qst p s.Regs i).2.1,⟨!(qst p s.Regs i).2.2⟩)∧((qst p s.Regs i).2.2=true→t'=(qst p s.Regs i).1):=by
 have hz:=ZcM hp;have hm:=(Yq hp).1;have hr:∀k:Int,0≤k∧k<4→get? s.Regs k=some (rg s.Regs k)∧fine (rg s.Regs k):=fun k hk=>⟨Zc2 hk.1 (by have:=hs.rl;omega),(ZcK hs.rf hk.1 (by have:=hs.rl;omega)).1⟩;have hqz:∀x:D.Term,fine x→Zf fuel ⟨false⟩ 14 1 [⟨0,p.W,0,⟨[]⟩,[]⟩,x]=some ((qze p x).1,⟨!(qze p x).2.2⟩):=fun x hx=>by
  rw[XH (b:=false) (sml2f (a:=⟨0,p.W,0,⟨[]⟩,[]⟩) (Zct hz) hx)];rfl
 have had:∀x:D.Term,fine x→∃t',((Zf fuel ⟨false⟩ 15 1 [x,⟨0,p.W,p.Mem,⟨[]⟩,[]⟩]).bind fun x9=>if x9.2.bad then some (x9.1,true,x9.2)else(Zf fuel x9.2 1 1 ([x9.1]:List D.Term)).bind fun x10=>some (x10.1,true,x10.2))=some (t',true,⟨!(qad p x).2.2⟩)∧(qad p x).2.1=true∧((qad p x).2.2=true→t'=(qad p x).1):=by
  intro x hx;rw[XH (b:=false) (sml2f (b:=⟨0,p.W,p.Mem,⟨[]⟩,[]⟩) hx (Zct hm))];simp only[Zo8];unfold qad kT;by_cases c:(mkT 15 1 0 [x,⟨0,p.W,p.Mem,⟨[]⟩,[]⟩]).2=true
  ·refine⟨(mkT 1 1 0 [(mkT 15 1 0 [x,⟨0,p.W,p.Mem,⟨[]⟩,[]⟩]).1]).1, ?_,by rw[ZoD c],fun _=>by rw[ZoD c]⟩;rw[ZoC (by rw[c];simp),c,ZoD rfl];rw[show(false|| !true)=false from rfl,XH (b:=false) (sml1f (Yz c).1)];rfl
  ·refine⟨(mkT 15 1 0 [x,⟨0,p.W,p.Mem,⟨[]⟩,[]⟩]).1, ?_,by rw[ZoC c],fun h=>by rw[ZoC c]at h;cases h⟩;have c':(mkT 15 1 0 [x,⟨0,p.W,p.Mem,⟨[]⟩,[]⟩]).2=false:=by simpa using c
   rw[c',ZoD (by simp),ZoC (by simp)];rfl
 unfold Y6 qst;rw[Zi];simp only[Zo8];by_cases c1:i.Op=10∨i.Op=13
 ·obtain⟨g,f⟩:=hr i.A (hi.a (by omega) (by omega) (by omega) (by omega));rw[ZoD (by simpa using c1),ZoD c1,g];simp only[Zo8];rw[hqz _ f];exact⟨_,rfl,fun _=>rfl⟩
 ·rw [ZoC (by simpa using c1),ZoC c1]
  by_cases c2:i.Op=3
  ·rw[ZoD c2];by_cases c3:i.C=6∨i.C=7
   ·obtain⟨g,f⟩:=hr i.B (hi.b (by omega));rw[ZoD (by simp;omega),ZoD c3,g];simp only[Zo8];rw[hqz _ f];exact⟨_,rfl,fun _=>rfl⟩
   ·rw[ZoC (by simp;omega),ZoC (by simp;omega),ZoC c3];exact⟨_,rfl,fun _=>rfl⟩
  ·rw[ZoC (by simp;omega),ZoC c2];by_cases c4:i.Op=7
   ·obtain⟨g,f⟩:=hr i.B (hi.b (by omega));rw[ZoD (by simp;omega),ZoD c4,g,Zi];simp only[Zo8];rw[ZoC (by simp;omega)];obtain⟨t',h1,h2,h3⟩:=had _ f;rw[h1,h2];exact⟨t',rfl,h3⟩
   ·rw[ZoC c4];by_cases c5:i.Op=8
    ·obtain⟨g,f⟩:=hr i.A (hi.a (by omega) (by omega) (by omega) (by omega));obtain⟨g2,f2⟩:=hr i.B (hi.b (by omega));rw[ZoD (by simp;omega),ZoD c5,g,g2,Zi];simp only[Zo8];rw[ZoD (by simp;omega)];obtain⟨t',h1,h2,h3⟩:=had _ f;rw[h1,h2];exact⟨t',rfl,h3⟩
    ·rw[ZoC (by simp;omega),ZoC c5];exact⟨_,rfl,fun _=>rfl⟩
theorem ZiA{op w m:Int}{ks:List D.Term}(h:(mkT op w m ks).2=true)(hne:ks≠[])(hl:ks.length≤3)(hc:(ks.all fun x=>x.Op==0)=true):∃v,Yh ⟨op,w,m,⟨[]⟩,ks⟩ (ks.map (·.N))=some v∧mkT op w m ks=(kT w v,true):=by
 unfold mkT at h⊢;split at h
 ·rename_i c;rw[ZoD c];obtain⟨a,b⟩:=ZbD c;obtain⟨v,hv,h1,h2⟩:=known a hne hc;refine⟨v,h1,?_⟩;have e:ZE fuel ⟨op,w,m,⟨[]⟩,ks⟩=some (kT w v):=by
   obtain⟨k,hk,hk2⟩:∃k,fuel=k+1∧1000≤k:=⟨fuel-1,by unfold fuel;omega,by unfold fuel;omega⟩;rw[hk,ZE,ZoC (by rw[Zb];simpa using hne),ZdM (ks:=ks) (n:=k) (by omega) (by omega),hc];simp only[Zo8,ZoO,h2 k (by omega),ZZ hv];rfl
  unfold simp1;rw[e];rfl
 ·cases h
theorem Zhk{p:D.Program}{x:D.Term}(hp:progB p=true)(hx:fine x)(hw:x.W=p.W)(h0:x.Op=0)(hok:(qad p x).2.2=true)(hn:¬((qad p x).1.Op=0∧(qad p x).1.N=1)):0≤x.N∧x.N<p.Mem:=by
 obtain⟨ex,vx⟩:=Xf hx.1 (by simp[h0]);have hm:=Yq hp;have hx0:0≤x.N:=by
  rw[hw,Yf (by omega) (by omega)]at vx;omega
 refine⟨hx0,?_⟩;unfold qad at hok hn;split at hok
 ·rename_i c;rw[ZoD c]at hn;obtain⟨v,a1,a2⟩:=ZiA c (by simp) (by simp) (by simp[h0,kT]);rw[a2]at hok hn;obtain⟨u,b1,b2⟩:=ZiA hok (by simp) (by simp) (by simp[kT]);rw[b2]at hn;refine Decidable.byContradiction fun hlt=>hn ⟨rfl,?_⟩;have ev:v=0:=by
   have:Yh ⟨15,1,0,⟨[]⟩,[x,kT p.W p.Mem]⟩ ([x,kT p.W p.Mem].map (·.N))=some 0:=by
    have e1:ZI x.W x.N=some true:=by rw[Xb,vx]
    have e2:ZI x.W p.Mem=some true:=by rw[Xb,hw,hm.1]
    simp[Yh,Zj,kT,get?,Yu,e1,e2,X8,hlt]
   rw[this]at a1;exact(Option.some.inj a1).symm
  subst ev;have:Yh ⟨1,1,0,⟨[]⟩,[kT 1 0]⟩ ([kT 1 0].map (·.N))=some 1:=by decide+kernel
  rw[this]at b1;exact(Option.some.inj b1).symm
 ·cases hok
theorem ZcT{p:D.Program}{s:D.Path}{i:D.Ins}(hp:progB p=true)(hs:okP p s)(hi:insF p.W p.Code.length i)(hok:(qst p s.Regs i).2.2=true)(hn:¬((qst p s.Regs i).1.Op=0∧(qst p s.Regs i).1.N=1)):
  (i.Op=7→(rg s.Regs i.B).Op=0→0≤(rg s.Regs i.B).N∧(rg s.Regs i.B).N<p.Mem)∧(i.Op=8→(rg s.Regs i.A).Op=0→0≤(rg s.Regs i.A).N∧(rg s.Regs i.A).N<p.Mem):=by
 constructor
 ·intro c h0;unfold qst at hok hn;rw[ZoC (by omega),ZoC (by omega),ZoD c]at hok hn;obtain⟨b0,b1⟩:=hi.b (by omega);have:=ZcK hs.rf b0 (by have:=hs.rl;omega);exact Zhk hp this.1 this.2 h0 hok hn
 ·intro c h0;unfold qst at hok hn;rw[ZoC (by omega),ZoC (by omega),ZoC (by omega),ZoD c]at hok hn;obtain⟨b0,b1⟩:=hi.a (by omega) (by omega) (by omega) (by omega);have:=ZcK hs.rf b0 (by have:=hs.rl;omega);exact Zhk hp this.1 this.2 h0 hok hn
def rwd(c w:Int):Int:=if 14≤c then 1 else w
theorem ZfT{c w:Int}(hw:1≤w∧w≤16)(hc:1≤c∧c≤16):Xk c w=some (rwd c w):=by
 unfold Xk Zj rwd;have h1:=hw.1;have h2:=hw.2;have h3:=hc.1;have h4:=hc.2;by_cases h:14≤c<;>simp[h1,h2,h3,h4,h]
theorem ZmA{c w:Int}(hw:1≤w∧w≤16)(hc:1≤c∧c≤16):XE c w=some (rwd c w):=by
 unfold XE ZM rwd;have h1:=hw.1;have h2:=hw.2;have h3:¬c<1:=by omega
 have h4:¬16<c:=by omega
 by_cases h:14≤c<;>simp[h1,h2,h3,h4,h]
noncomputable def opd(p:D.Program)(c:Int)(a b:D.Term):D.Term×Bool:=
 if(mkT c (rwd c p.W) 0 [a,b]).2=true∧14≤c then mkT 20 p.W 0 [(mkT c (rwd c p.W) 0 [a,b]).1]else mkT c (rwd c p.W) 0 [a,b]
theorem ZmD{p:D.Program}{c:Int}{a b:D.Term}(h:(opd p c a b).2=true):fine (opd p c a b).1∧(opd p c a b).1.W=p.W:=by
 unfold opd at h⊢;split at h
 ·rename_i e;rw[ZoD e];exact Yz h
 ·rename_i e;rw[ZoC e];have:=Yz h;refine⟨this.1,this.2.trans ?_⟩;unfold rwd;rw[ZoC (fun h14=>e ⟨h,h14⟩)]
theorem ZlG{p:D.Program}{c:Int}{a b:D.Term}(hp:progB p=true)(hc:3≤c∧c≤16)(ha:fine a)(hb:fine b):ZaN fuel p c a b=some (opd p c a b):=by
 have hm:=Yq hp;unfold ZaN opd;rw[ZmA (by omega) (by omega)];simp only[Zo8];rw[ZaR (sml2f ha hb)];simp only[Zo8];by_cases h:(mkT c (rwd c p.W) 0 [a,b]).2=true
 ·by_cases h14:14≤c
  ·rw[ZoC (by rw[h];simp;omega),ZoD ⟨h,h14⟩,ZaR (sml1f (Yz h).1)];rfl
  ·rw[ZoD (by rw[h];simp;omega),ZoC (fun e=>h14 e.2)]
 ·rw[ZoD (by simp;left;simpa using h),ZoC (fun e=>h e.1)]
theorem ZmO{p:D.Program}{c:Int}{a b:D.Term}(hp:progB p=true)(hc:3≤c∧c≤16)(ha:fine a)(hb:fine b){β:Type}(f:D.Term→D.l06Maker→Option β):
  ((Xk c p.W).bind fun x8=>(Zf fuel ⟨false⟩ c x8 [a,b]).bind fun x11=>if((decide (c≥14))&&(!x11.2.bad))then(Zf fuel x11.2 20 p.W ([x11.1]:List D.Term)).bind fun x12=>f x12.1 x12.2 else f x11.1 x11.2)=f (opd p c a b).1 ⟨!(opd p c a b).2⟩:=by
 have hm:=Yq hp;rw[ZfT (by omega) (by omega)];simp only[Zo8];rw[XH (sml2f ha hb)];simp only[Zo8];unfold opd;by_cases h:(mkT c (rwd c p.W) 0 [a,b]).2=true
 ·by_cases h14:14≤c
  ·rw[ZoD (by rw[h];simp;omega),ZoD ⟨h,h14⟩,h,show(false|| !true)=false from rfl,XH (sml1f (Yz h).1)];rfl
  ·rw[ZoC (by rw[h];simp;omega),ZoC (fun e=>h14 e.2)];rfl
 ·have h':(mkT c (rwd c p.W) 0 [a,b]).2=false:=by simpa using h
  rw[ZoC (by rw[h'];simp),ZoC (fun e=>h e.1)];rfl
theorem Zks{k:Int}(h0:0≤k)(h9:k≤9):Xv fuel k=cat? (strOf [Byt.mk (IntKind.u8.wrap (w64 (48+k)))]) ⟨[]⟩:=by
 obtain⟨n,hn⟩:∃n,fuel=n+2:=⟨fuel-2,by unfold fuel;omega⟩;rw[hn,Xv,ZoC (by simp;omega),Yw (r:=(k,⟨[]⟩)) (by simp;omega) (by omega)];simp only[Zo8];exact Zg _
def inT(w k:Int):D.Term:=⟨22,w,0,if k=0 then⟨[105,48]⟩else if k=1 then⟨[105,49]⟩else⟨[105,50]⟩,[]⟩
theorem Zn8{p:D.Program}{k:Int}(h0:0≤k)(h2:k≤2):ZaG fuel p k=some (inT p.W k):=by
 unfold ZaG inT;rw[Zks h0 (by omega)];have:k=0∨k=1∨k=2:=by omega
 rcases this with rfl|rfl|rfl
 ·rw[show cat? (strOf [Byt.mk (IntKind.u8.wrap (w64 (48+0)))]) ⟨[]⟩=some ⟨[48]⟩from by decide+kernel];simp only[Zo8];rw[show cat? ⟨[105]⟩ ⟨[48]⟩=some ⟨[105,48]⟩from by decide+kernel];rfl
 ·rw[show cat? (strOf [Byt.mk (IntKind.u8.wrap (w64 (48+1)))]) ⟨[]⟩=some ⟨[49]⟩from by decide+kernel];simp only[Zo8];rw[show cat? ⟨[105]⟩ ⟨[49]⟩=some ⟨[105,49]⟩from by decide+kernel];rfl
 ·rw[show cat? (strOf [Byt.mk (IntKind.u8.wrap (w64 (48+2)))]) ⟨[]⟩=some ⟨[50]⟩from by decide+kernel];simp only[Zo8];rw[show cat? ⟨[105]⟩ ⟨[50]⟩=some ⟨[105,50]⟩from by decide+kernel];rfl
theorem ZnB{p:D.Program}(hp:progB p=true){k:Int}(h0:0≤k)(h2:k≤2):((YU k).bind fun x12=>(cat? ⟨[105]⟩ x12).bind fun x13=>XR fuel p.W x13)=some (inT p.W k):=by
 have hm:=Yq hp;have hw:ZM p.W=some true:=by
  unfold ZM;have h1:1≤p.W:=by omega
  have h2:p.W≤16:=by omega
  simp[h1,h2]
 unfold inT;have:k=0∨k=1∨k=2:=by omega
 have hv:∀s:Str,s.bytes.length≤100→nameB s=true→XR fuel p.W s=some ⟨22,p.W,0,s,[]⟩:=fun s hl hn=>by
  unfold XR;rw[hw];simp only[Zo8,ZoF,Zo9,ZoG];rw[Zhl (by omega) (by unfold fuel;omega),hn];rfl
 rcases this with rfl|rfl|rfl
 ·rw[show YU 0=some ⟨[48]⟩from by decide+kernel];simp only[Zo8];rw[show cat? ⟨[105]⟩ ⟨[48]⟩=some ⟨[105,48]⟩from by decide+kernel];simp only[Zo8];rw[hv _ (by decide) (by decide+kernel)];rfl
 ·rw[show YU 1=some ⟨[49]⟩from by decide+kernel];simp only[Zo8];rw[show cat? ⟨[105]⟩ ⟨[49]⟩=some ⟨[105,49]⟩from by decide+kernel];simp only[Zo8];rw[hv _ (by decide) (by decide+kernel)];rfl
 ·rw[show YU 2=some ⟨[50]⟩from by decide+kernel];simp only[Zo8];rw[show cat? ⟨[105]⟩ ⟨[50]⟩=some ⟨[105,50]⟩from by decide+kernel];simp only[Zo8];rw[hv _ (by decide) (by decide+kernel)];rfl
theorem ZlF{p:D.Program}(hp:progB p=true){k:Int}:fine (inT p.W k)∧(inT p.W k).W=p.W:=by
 have hm:=Yq hp;refine⟨⟨?_,by unfold inT;rw[Za3];simp only[Zau];omega⟩,rfl⟩;have w1:1≤p.W:=by omega
 have w2:p.W≤16:=by omega
 have hn:nameB (inT p.W k).Name=true:=by
  unfold inT;by_cases c:k=0
  ·simp only[c,ZoO];decide+kernel
  ·by_cases d:k=1
   ·simp only[d,ZoO];decide+kernel
   ·simp only[c,d,ZoG];decide+kernel
 rw[X6,Yc];simp only[locB,shB,hn];simp[inT,w1,w2]
def stk(p:D.Program)(s:D.Path)(i:D.Ins):Int:=
 if i.Op=5∧s.In=p.In then 3 else if i.Op=6∧s.Out.length=6 then 4 else if i.Op=11∧s.Stack.length=3 then 7 else if i.Op=12∧s.Stack.length=0 then 7 else 0
noncomputable def flw(p:D.Program)(s:D.Path)(i:D.Ins):D.Path×Bool:=
 if i.Op=1 then({s with Pc:=s.Pc+1,Regs:=s.Regs.set i.A.toNat (kT p.W i.B)},true)
 else if i.Op=2 then({s with Pc:=s.Pc+1,Regs:=s.Regs.set i.A.toNat (rg s.Regs i.B)},true)
 else if i.Op=3 then({s with Pc:=s.Pc+1,Regs:=s.Regs.set i.A.toNat (opd p i.C (rg s.Regs i.A) (rg s.Regs i.B)).1},(opd p i.C (rg s.Regs i.A) (rg s.Regs i.B)).2)
 else if i.Op=4 then({s with Pc:=s.Pc+1,Regs:=s.Regs.set i.A.toNat (mkT 1 p.W 0 [rg s.Regs i.A]).1},(mkT 1 p.W 0 [rg s.Regs i.A]).2)
 else if i.Op=5 then({s with Pc:=s.Pc+1,Regs:=s.Regs.set i.A.toNat (inT p.W s.In),In:=s.In+1},true)
 else if i.Op=6 then({s with Pc:=s.Pc+1,Out:=s.Out++[rg s.Regs i.A]},true)
 else if i.Op=7 then({s with Pc:=s.Pc+1,Regs:=s.Regs.set i.A.toNat (load p.W s.Mem (rg s.Regs i.B)).1},(load p.W s.Mem (rg s.Regs i.B)).2)
 else if i.Op=8 then({s with Pc:=s.Pc+1,Mem:=(store p.W s.Mem (rg s.Regs i.A) (rg s.Regs i.B)).1},(store p.W s.Mem (rg s.Regs i.A) (rg s.Regs i.B)).2)
 else if i.Op=9 then({s with Pc:=i.B},true)
 else if i.Op=11 then({s with Pc:=i.B,Stack:=s.Stack++[s.Pc+1]},true)
 else if i.Op=12 then({s with Pc:=(s.Stack[s.Stack.length-1]?).getD 0,Stack:=s.Stack.take (s.Stack.length-1)},true)
 else if i.Op=14 then({s with Code:=1},true)
 else({s with Pc:=s.Pc+1},true)
theorem ZjC{l:List Int}(h:0<l.length)(h9:l.length≤9):get? l (w64 (len l-1))=some ((l[l.length-1]?).getD 0)∧cut? l 0 (w64 (len l-1))=some (l.take (l.length-1)):=by
 have e:w64 (len l-1)=((l.length-1:Nat):Int):=by rw[Zb,Zm (by omega) (by omega)];omega
 rw[e];constructor
 ·rw[get?_nat,ZoE (by omega)];rfl
 ·unfold cut?;rw[ZoD (by omega)];simp
theorem Znx{l:List Int}(h:l.length≤100):Z5 l=some l:=by
 unfold Z5;rw[ZfQ h];rfl
theorem Zix{p:D.Program}{s:D.Path}{i:D.Ins}(hp:progB p=true)(hs:okP p s)(hi:insF p.W p.Code.length i)(hpc:s.Pc<p.Code.length)(hk:stk p s i=0)
  (h7:i.Op=7→(rg s.Regs i.B).Op=0→0≤(rg s.Regs i.B).N∧(rg s.Regs i.B).N<p.Mem)(h8:i.Op=8→(rg s.Regs i.A).Op=0→0≤(rg s.Regs i.A).N∧(rg s.Regs i.A).N<p.Mem):Zbd fuel p s i=some (flw p s i):=by
 have hm:=Yq hp;have hl:=hs.rl;have hcl:(p.Code.length:Int)≤40:=by
  unfold progB at hp;simp only[ZoB,ZoJ]at hp;omega
 have hin:=ZcL hp;have e1:w64 (s.Pc+1)=s.Pc+1:=Zm (by have:=hs.pc.1;omega) (by omega);have e2:w64 (s.In+1)=s.In+1:=Zm (by have:=hs.inn;omega) (by have:=hs.inn;omega);have hr:∀k:Int,0≤k∧k<4→get? s.Regs k=some (rg s.Regs k)∧fine (rg s.Regs k):=fun k hk=>⟨Zc2 hk.1 (by omega),(ZcK hs.rf hk.1 (by omega)).1⟩;have hput:∀t:D.Term,0≤i.A∧i.A<4→Zac s.Regs i.A t=some (s.Regs.set i.A.toNat t):=fun t ha=>put_eq (by omega) ha.1 (by omega);have hop:=hi.op;have hc:i.Op=1∨i.Op=2∨i.Op=3∨i.Op=4∨i.Op=5∨i.Op=6∨i.Op=7∨i.Op=8∨i.Op=9∨i.Op=10∨i.Op=11∨i.Op=12∨i.Op=13∨i.Op=14:=by omega
 have hA:=hi.a;have hB:=hi.b;unfold Zbd flw;rcases hc with c|c|c|c|c|c|c|c|c|c|c|c|c|c<;>simp only[c,Int.reduceBEq,Int.reduceEq,reduceIte,Zo9,e1,e2]
 ·rw[ZZ (hi.v c)];simp only[Zo8];rw[hput _ (hA (by omega) (by omega) (by omega) (by omega))];rfl
 ·rw[(hr _ (hB (by omega))).1];simp only[Zo8];rw[hput _ (hA (by omega) (by omega) (by omega) (by omega))];rfl
 ·obtain⟨a1,a2⟩:=hr _ (hA (by omega) (by omega) (by omega) (by omega));obtain⟨b1,b2⟩:=hr _ (hB (by omega));rw[a1,b1];simp only[Zo8];rw[ZlG hp (hi.c c) a2 b2];simp only[Zo8];rw[hput _ (hA (by omega) (by omega) (by omega) (by omega))];rfl
 ·obtain⟨a1,a2⟩:=hr _ (hA (by omega) (by omega) (by omega) (by omega));rw[a1];simp only[Zo8];rw[ZaR (sml1f a2)];simp only[Zo8];rw[hput _ (hA (by omega) (by omega) (by omega) (by omega))];rfl
 ·have hk3:s.In≠p.In:=fun e=>by unfold stk at hk;rw[ZoD ⟨c,e⟩]at hk;cases hk
  have:=ZnB hp (k:=s.In) hs.inn.1 (by have:=hs.inn.2;omega);have hf:∀{β:Type}(f:D.Term→Option β),((YU s.In).bind fun x12=>(cat? ⟨[105]⟩ x12).bind fun x13=>(XR fuel p.W x13).bind f)=f (inT p.W s.In):=fun f=>by
   rw[←Zo8 (inT p.W s.In) f,←this];simp only[Option.bind_assoc]
  rw[hf,hput _ (hA (by omega) (by omega) (by omega) (by omega))];rfl
 ·rw[(hr _ (hA (by omega) (by omega) (by omega) (by omega))).1];simp only[Zo8];rw[Zh6 (by have:=hs.ol;omega)];rfl
 ·obtain⟨b1,b2⟩:=hr _ (hB (by omega));rw[b1];simp only[Zo8];rw[Zkz hp hs.ml hs.mf b2 (h7 c)];simp only[Zo8];rw[hput _ (hA (by omega) (by omega) (by omega) (by omega))];rfl
 ·obtain⟨a1,a2⟩:=hr _ (hA (by omega) (by omega) (by omega) (by omega));obtain⟨b1,b2⟩:=hr _ (hB (by omega));rw[a1,b1];simp only[Zo8];rw[Zjf hp hs.ml hs.mf a2 b2 (h8 c)];rfl
 ·rw[Zh4 (by have:=hs.sl;omega)];rfl
 ·have hk0:s.Stack.length≠0:=fun e=>by unfold stk at hk;rw[ZoC (by omega),ZoC (by omega),ZoC (by omega),ZoD ⟨c,e⟩]at hk;cases hk
  obtain⟨g1,g2⟩:=ZjC (l:=s.Stack) (by omega) (by have:=hs.sl;omega);rw[g1,g2];simp only[Zo8];rw[Znx (by simp;have:=hs.sl;omega)];rfl
theorem Zkb{p:D.Program}{s:D.Path}{i:D.Ins}(hp:progB p=true)(hs:okP p s)(h0:s.Code=0)(hi:insF p.W p.Code.length i)(hpc:s.Pc<p.Code.length)(hk:stk p s i=0)
  (h7:i.Op=7→(rg s.Regs i.B).Op=0→0≤(rg s.Regs i.B).N∧(rg s.Regs i.B).N<p.Mem)(h8:i.Op=8→(rg s.Regs i.A).Op=0→0≤(rg s.Regs i.A).N∧(rg s.Regs i.A).N<p.Mem):
  ∃s',ZP fuel ⟨false⟩ p s i=some (s',⟨!(flw p s i).2⟩)∧((flw p s i).2=true→s'=(flw p s i).1):=by
 have hm:=Yq hp;have hl:=hs.rl;have hcl:(p.Code.length:Int)≤40:=by
  unfold progB at hp;simp only[ZoB,ZoJ]at hp;omega
 have hin:=ZcL hp;have e1:w64 (s.Pc+1)=s.Pc+1:=Zm (by have:=hs.pc.1;omega) (by omega);have e2:w64 (s.In+1)=s.In+1:=Zm (by have:=hs.inn;omega) (by have:=hs.inn;omega);have hr:∀k:Int,0≤k∧k<4→get? s.Regs k=some (rg s.Regs k)∧fine (rg s.Regs k):=fun k hk=>⟨Zc2 hk.1 (by omega),(ZcK hs.rf hk.1 (by omega)).1⟩;have hput:∀t:D.Term,0≤i.A∧i.A<4→set? s.Regs i.A t=some (s.Regs.set i.A.toNat t):=fun t ha=>ZiR ha.1 (by omega) t;have hop:=hi.op;have hc:i.Op=1∨i.Op=2∨i.Op=3∨i.Op=4∨i.Op=5∨i.Op=6∨i.Op=7∨i.Op=8∨i.Op=9∨i.Op=10∨i.Op=11∨i.Op=12∨i.Op=13∨i.Op=14:=by omega
 have hA:=hi.a;have hB:=hi.b;have k5:i.Op=5→(s.In==p.In)=false:=fun c=>by
  have:s.In≠p.In:=fun e=>by unfold stk at hk;rw[ZoD ⟨c,e⟩]at hk;cases hk
  simpa using this
 have k6:i.Op=6→(len s.Out==6)=false:=fun c=>by
  have:s.Out.length≠6:=fun e=>by unfold stk at hk;rw[ZoC (by omega),ZoD ⟨c,e⟩]at hk;cases hk
  rw[Zb];simp;omega
 have k11:i.Op=11→(len s.Stack==3)=false:=fun c=>by
  have:s.Stack.length≠3:=fun e=>by unfold stk at hk;rw[ZoC (by omega),ZoC (by omega),ZoD ⟨c,e⟩]at hk;cases hk
  rw[Zb];simp;omega
 have k12:i.Op=12→(len s.Stack==0)=false∧0<s.Stack.length:=fun c=>by
  have:s.Stack.length≠0:=fun e=>by unfold stk at hk;rw[ZoC (by omega),ZoC (by omega),ZoC (by omega),ZoD ⟨c,e⟩]at hk;cases hk
  exact⟨by rw[Zb];simp;intro e;exact this (by rw[e];rfl),by omega⟩
 unfold ZP;rw[Za5 (hs.fine hp)];simp only[Zo8];unfold flw;rcases hc with c|c|c|c|c|c|c|c|c|c|c|c|c|c
 all_goals simp only[c,Int.reduceBEq,Int.reduceEq,Int.reduceBNe,reduceIte,Zo9,Zpk,Zpa,cond_true,cond_false,k5,k6,k11,k12,Zo8,bne_self_eq_false,e1,e2]
 ·rw[Zi];simp only[Zo8];rw[hput _ (hA (by omega) (by omega) (by omega) (by omega))];exact⟨_,rfl,fun _=>by rw[h0];rfl⟩
 ·rw[(hr _ (hB (by omega))).1];simp only[Zo8];rw[hput _ (hA (by omega) (by omega) (by omega) (by omega))];exact⟨_,rfl,fun _=>by rw[h0]⟩
 ·obtain⟨a1,a2⟩:=hr _ (hA (by omega) (by omega) (by omega) (by omega));obtain⟨b1,b2⟩:=hr _ (hB (by omega));rw[a1,b1];simp only[Zo8];have q:=ZmO (p:=p) hp (hi.c c) a2 b2 (fun t m=>(set? s.Regs i.A t).bind fun x13=>(some (.inl (m.bad,s.Pc+1,s.Mem,s.In,x13,s.Stack,s.Out)):Option ((Bool×Int×List D.Term×Int×List D.Term×List Int×List D.Term)⊕(D.Path×D.l06Maker))));have hcc:=hi.c c;rw[ZfT (by omega) (by omega)]at q;rw[ZfT (by omega) (by omega)];simp only[Zo8]at q⊢;rw[q,hput _ (hA (by omega) (by omega) (by omega) (by omega))];exact⟨_,rfl,fun _=>by rw[h0]⟩
 ·obtain⟨a1,a2⟩:=hr _ (hA (by omega) (by omega) (by omega) (by omega));rw[a1];simp only[Zo8];rw[XH (sml1f a2)];simp only[Zo8];rw[hput _ (hA (by omega) (by omega) (by omega) (by omega))];exact⟨_,rfl,fun _=>by rw[h0]⟩
 ·have hk3:s.In≠p.In:=fun e=>by have:=k5 c;rw[e]at this;simp at this
  rw[Zn8 (p:=p) hs.inn.1 (by have:=hs.inn.2;omega)];simp only[Zo8];rw[hput _ (hA (by omega) (by omega) (by omega) (by omega))];exact⟨_,rfl,fun _=>by rw[h0];rfl⟩
 ·rw[(hr _ (hA (by omega) (by omega) (by omega) (by omega))).1];simp only[Zo8];rw[XW (by simp;have:=hs.ol;omega)];exact⟨_,rfl,fun _=>by rw[h0]⟩
 ·obtain⟨a1,a2⟩:=hr _ (hA (by omega) (by omega) (by omega) (by omega));obtain⟨b1,b2⟩:=hr _ (hB (by omega));rw[a1,b1];simp only[Zo8];obtain⟨t',q1,q2⟩:=Zk0 (s:=D.Path.mk (s.Pc+1) s.Regs s.Mem s.Stack s.In s.Out 0 s.Steps s.Cond s.Turns) (x:=rg s.Regs i.B) hp hs.ml hs.mf b2 (h7 c);rw[q1];simp only[Zo8];rw[hput _ (hA (by omega) (by omega) (by omega) (by omega))];exact⟨_,rfl,fun h=>by rw[h0,q2 h]⟩
 ·obtain⟨a1,a2⟩:=hr _ (hA (by omega) (by omega) (by omega) (by omega));obtain⟨b1,b2⟩:=hr _ (hB (by omega));rw[a1,b1];simp only[Zo8];obtain⟨t',q1,-,q2⟩:=Zjr (s:=D.Path.mk (s.Pc+1) s.Regs s.Mem s.Stack s.In s.Out 0 s.Steps s.Cond s.Turns) (x:=rg s.Regs i.A) (v:=rg s.Regs i.B) hp hs.ml hs.mf a2 b2 (h8 c);rw[q1];simp only[Zo8];exact⟨_,rfl,fun h=>by rw[h0,q2 h]⟩
 ·exact⟨_,rfl,fun _=>by rw[h0]⟩
 ·exact⟨_,rfl,fun _=>by rw[h0]⟩
 ·rw[XW (by simp;have:=hs.sl;omega)];exact⟨_,rfl,fun _=>by rw[h0]⟩
 ·obtain⟨g1,g2⟩:=ZjC (l:=s.Stack) (k12 c).2 (by have:=hs.sl;omega);rw[g1,g2];exact⟨_,rfl,fun _=>by rw[h0]⟩
 ·exact⟨_,rfl,fun _=>by rw[h0]⟩
 ·exact⟨_,rfl,fun _=>rfl⟩
theorem Zlg{p:D.Program}{s:D.Path}{i:D.Ins}(hp:progB p=true)(hs:okP p s)(hk:stk p s i≠0):ZP fuel ⟨false⟩ p s i=some ({s with Code:=stk p s i},⟨false⟩):=by
 unfold ZP;rw[Za5 (hs.fine hp)];simp only[Zo8];unfold stk at hk⊢;by_cases c5:i.Op=5∧s.In=p.In
 ·simp only[c5,and_self,ZoO,Int.reduceBEq,Zp6,BEq.rfl,Zo8,Int.reduceBNe]
 ·rw [ZoC c5]at hk⊢
  have d5:((i.Op==5)&&(s.In==p.In))=false:=by simpa using c5
  by_cases c6:i.Op=6∧s.Out.length=6
  ·have:len s.Out=6:=by rw[Zb];omega
   simp only[d5,c6,this,and_self,ZoO,Int.reduceBEq,Zp6,Zo9,ZoG,Zpk,Zo8,Int.reduceBNe]
  ·rw[ZoC c6]at hk⊢;have d6:((i.Op==6)&&(len s.Out==6))=false:=by
    rw[Zb];simp;intro e h;exact c6 ⟨e,by omega⟩
   by_cases c11:i.Op=11∧s.Stack.length=3
   ·have:len s.Stack=3:=by rw[Zb];omega
    simp only[d5,d6,c11,this,and_self,ZoO,Int.reduceBEq,Zp6,Zo9,ZoG,Zpk,Zo8,Int.reduceBNe]
   ·rw[ZoC c11]at hk⊢;have d11:((i.Op==11)&&(len s.Stack==3))=false:=by
     rw[Zb];simp;intro e h;exact c11 ⟨e,by omega⟩
    by_cases c12:i.Op=12∧s.Stack.length=0
    ·have:len s.Stack=0:=by rw[Zb];omega
     simp only[d5,d6,d11,c12,this,and_self,ZoO,Int.reduceBEq,Zp6,Zo9,ZoG,Zpk,Zo8,Int.reduceBNe]
    ·rw[ZoC c12]at hk;exact absurd rfl hk
theorem ZiN{p:D.Program}{s:D.Path}{i:D.Ins}(hs:okP p s):Zcg p s i=some (stk p s i):=by
 have h1:=hs.inn.2;have h2:=hs.ol;have h3:=hs.sl;unfold Zcg stk;by_cases c5:i.Op=5∧s.In=p.In
 ·rw[ZoD c5,ZoD (by simp;omega)]
 ·rw[ZoC c5,ZoC (by simp;omega)];by_cases c6:i.Op=6∧s.Out.length=6
  ·rw[ZoD c6,ZoD (by rw[Zb];simp;omega)]
  ·rw[ZoC c6,ZoC (by rw[Zb];simp;omega)];by_cases c11:i.Op=11∧s.Stack.length=3
   ·rw[ZoD c11,ZoD (by rw[Zb];simp;omega)]
   ·rw[ZoC c11,ZoC (by rw[Zb];simp;omega)];by_cases c12:i.Op=12∧s.Stack.length=0
    ·rw[ZoD c12,ZoD (by rw[Zb,c12.2];simp[c12.1])]
    ·rw[ZoC c12,ZoC (by rw[Zb];simp only[ZoB,Zpf];omega)]
theorem ZnI{w v:Int}(h:wordB w v=true):fine (kT w v)∧(kT w v).W=w:=⟨Zct h,rfl⟩
theorem Zd1{p:D.Program}{s:D.Path}(hs:okP p s)(hpc:s.Pc<p.Code.length){k:Nat}{t:D.Term}(ht:fine t∧t.W=p.W):okP p {s with Pc:=s.Pc+1,Regs:=s.Regs.set k t}:=
 ⟨⟨by have:=hs.pc.1;show 0≤s.Pc+1;omega,by show s.Pc+1≤_;rw[Zb];omega⟩,by show(s.Regs.set k t).length=4;rw[ZqF,hs.rl],ZlJ hs.rf ht,hs.ml,hs.mf,hs.sl,hs.sp,hs.inn,hs.ol,hs.of,hs.cd,hs.st,hs.cl,hs.cf,hs.tl⟩
theorem ZhB{p:D.Program}{s:D.Path}{i:D.Ins}(hp:progB p=true)(hs:okP p s)(hi:insF p.W p.Code.length i)(hpc:s.Pc<p.Code.length)(hk:stk p s i=0)
  (h7:i.Op=7→(rg s.Regs i.B).Op=0→0≤(rg s.Regs i.B).N∧(rg s.Regs i.B).N<p.Mem)(hok:(flw p s i).2=true):okP p (flw p s i).1:=by
 have hop:=hi.op;have hl:=hs.rl;have hr:∀k:Int,0≤k∧k<4→fine (rg s.Regs k)∧(rg s.Regs k).W=p.W:=fun k hk=>ZcK hs.rf hk.1 (by omega);have hc:i.Op=1∨i.Op=2∨i.Op=3∨i.Op=4∨i.Op=5∨i.Op=6∨i.Op=7∨i.Op=8∨i.Op=9∨i.Op=10∨i.Op=11∨i.Op=12∨i.Op=13∨i.Op=14:=by omega
 have hA:=hi.a;have hB:=hi.b;have hT:=hi.t;have hn:0≤s.Pc+1∧s.Pc+1≤len p.Code:=⟨by have:=hs.pc.1;omega,by rw[Zb];omega⟩;unfold flw at hok⊢;rcases hc with c|c|c|c|c|c|c|c|c|c|c|c|c|c<;>simp only[c,Int.reduceEq,reduceIte]at hok⊢
 ·exact Zd1 hs hpc (ZnI (hi.v c))
 ·exact Zd1 hs hpc (hr _ (hB (by omega)))
 ·exact Zd1 hs hpc (ZmD hok)
 ·exact Zd1 hs hpc (Yz hok)
 ·have h5:s.In≠p.In:=fun e=>by unfold stk at hk;rw[ZoD ⟨c,e⟩]at hk;cases hk
  have:=Zd1 hs hpc (k:=i.A.toNat) (ZlF hp (k:=s.In));exact⟨this.pc,this.rl,this.rf,this.ml,this.mf,this.sl,this.sp,⟨by have:=hs.inn.1;show 0≤s.In+1;omega,by have:=hs.inn.2;show s.In+1≤p.In;omega⟩,this.ol,this.of,this.cd,this.st,this.cl,this.cf,this.tl⟩
 ·have h6:s.Out.length≠6:=fun e=>by unfold stk at hk;rw[ZoC (by omega),ZoD ⟨c,e⟩]at hk;cases hk
  exact⟨hn,hs.rl,hs.rf,hs.ml,hs.mf,hs.sl,hs.sp,hs.inn,by have:=hs.ol;show(s.Out++_).length≤6;rw[ZoT];simp;omega,Zmu hs.of (hr _ (hA (by omega) (by omega) (by omega) (by omega))),hs.cd,hs.st,hs.cl,hs.cf,hs.tl⟩
 ·exact Zd1 hs hpc (ZkZ hp hs.ml hs.mf (h7 c) hok)
 ·obtain⟨q1,q2⟩:=Zjl (p:=p) (s:=s) hs.mf (hr _ (hB (by omega))) hok;exact⟨hn,hs.rl,hs.rf,by show((store _ _ _ _).1.length:Int)=_;rw[q2];exact hs.ml,q1,hs.sl,hs.sp,hs.inn,hs.ol,hs.of,hs.cd,hs.st,hs.cl,hs.cf,hs.tl⟩
 ·exact⟨by rw[Zb];exact hT (by omega),hs.rl,hs.rf,hs.ml,hs.mf,hs.sl,hs.sp,hs.inn,hs.ol,hs.of,hs.cd,hs.st,hs.cl,hs.cf,hs.tl⟩
 ·exact⟨hn,hs.rl,hs.rf,hs.ml,hs.mf,hs.sl,hs.sp,hs.inn,hs.ol,hs.of,hs.cd,hs.st,hs.cl,hs.cf,hs.tl⟩
 ·have h11:s.Stack.length≠3:=fun e=>by unfold stk at hk;rw[ZoC (by omega),ZoC (by omega),ZoD ⟨c,e⟩]at hk;cases hk
  refine⟨by rw[Zb];exact hT (by omega),hs.rl,hs.rf,hs.ml,hs.mf,by have:=hs.sl;show(s.Stack++_).length≤3;rw[ZoT];simp;omega,fun x hx=>?_,hs.inn,hs.ol,hs.of,hs.cd,hs.st,hs.cl,hs.cf,hs.tl⟩;rcases ZoZ.1 hx with hx|hx
  ·exact hs.sp x hx
  ·rw[ZoM]at hx;subst hx;exact hn
 ·have h12:s.Stack.length≠0:=fun e=>by unfold stk at hk;rw[ZoC (by omega),ZoC (by omega),ZoC (by omega),ZoD ⟨c,e⟩]at hk;cases hk
  refine⟨?_,hs.rl,hs.rf,hs.ml,hs.mf,by have:=hs.sl;show(s.Stack.take _).length≤3;rw[Zpq];omega,fun x hx=>hs.sp x (Zqf hx),hs.inn,hs.ol,hs.of,hs.cd,hs.st,hs.cl,hs.cf,hs.tl⟩;rw[ZoE (by omega)];exact hs.sp _ (Zph _)
 ·exact⟨hn,hs.rl,hs.rf,hs.ml,hs.mf,hs.sl,hs.sp,hs.inn,hs.ol,hs.of,hs.cd,hs.st,hs.cl,hs.cf,hs.tl⟩
 ·exact⟨hs.pc,hs.rl,hs.rf,hs.ml,hs.mf,hs.sl,hs.sp,hs.inn,hs.ol,hs.of,by show(0:Int)≤1∧(1:Int)≤9;omega,hs.st,hs.cl,hs.cf,hs.tl⟩
theorem Ze5{p:D.Program}{s:D.Path}{i:D.Ins}{c:List D.Term}{t:List Int}:flw p {s with Cond:=c,Turns:=t} i=({(flw p s i).1 with Cond:=c,Turns:=t},(flw p s i).2):=by
 unfold flw;by_cases c1:i.Op=1
 ·simp only[c1,reduceIte]
 by_cases c2:i.Op=2
 ·simp only[c2,Int.reduceEq,reduceIte]
 by_cases c3:i.Op=3
 ·simp only[c3,Int.reduceEq,reduceIte]
 by_cases c4:i.Op=4
 ·simp only[c4,Int.reduceEq,reduceIte]
 by_cases c5:i.Op=5
 ·simp only[c5,Int.reduceEq,reduceIte]
 by_cases c6:i.Op=6
 ·simp only[c6,Int.reduceEq,reduceIte]
 by_cases c7:i.Op=7
 ·simp only[c7,Int.reduceEq,reduceIte]
 by_cases c8:i.Op=8
 ·simp only[c8,Int.reduceEq,reduceIte]
 by_cases c9:i.Op=9
 ·simp only[c9,Int.reduceEq,reduceIte]
 by_cases c11:i.Op=11
 ·simp only[c11,Int.reduceEq,reduceIte]
 by_cases c12:i.Op=12
 ·simp only[c12,Int.reduceEq,reduceIte]
 by_cases c14:i.Op=14
 ·simp only[c14,Int.reduceEq,reduceIte]
 simp only[c1,c2,c3,c4,c5,c6,c7,c8,c9,c11,c12,c14,reduceIte]
def nmd(s:D.Path)(i:D.Ins):D.Path:=
 if i.Op=10 then{s with Pc:=i.B}else if i.Op=13 then{s with Code:=8}else if i.Op=3 then{s with Code:=6}else{s with Code:=5}
theorem Zgf(s:D.Path)(i:D.Ins):Zbz s i=some (nmd s i):=by
 unfold Zbz nmd;by_cases c1:i.Op=10
 ·simp[c1]
 by_cases c2:i.Op=13
 ·simp[c2]
 by_cases c3:i.Op=3
 ·simp[c3]
 simp[c1,c2,c3]
theorem Zi4(s:D.Path)(i:D.Ins):XP s i=some (nmd s i):=by
 unfold XP nmd;by_cases c1:i.Op=10
 ·simp[c1]
 by_cases c2:i.Op=13
 ·simp[c2]
 by_cases c3:i.Op=3
 ·simp[c3]
 simp[c1,c2,c3]
theorem ZbS{p:D.Program}{s:D.Path}(hs:okP p s){k:Int}(hk:0≤k∧k≤9):okP p {s with Code:=k}:=⟨hs.pc,hs.rl,hs.rf,hs.ml,hs.mf,hs.sl,hs.sp,hs.inn,hs.ol,hs.of,hk,hs.st,hs.cl,hs.cf,hs.tl⟩
theorem ZlV{p:D.Program}{s:D.Path}{i:D.Ins}(hs:okP p s)(hi:insF p.W p.Code.length i):okP p (nmd s i):=by
 unfold nmd;split
 ·rename_i c;exact⟨by rw[Zb];exact hi.t (by omega),hs.rl,hs.rf,hs.ml,hs.mf,hs.sl,hs.sp,hs.inn,hs.ol,hs.of,hs.cd,hs.st,hs.cl,hs.cf,hs.tl⟩
 ·split
  ·exact ZbS hs (by omega)
  ·split
   ·exact ZbS hs (by omega)
   ·exact ZbS hs (by omega)
theorem Zho{p:D.Program}{s:D.Path}(hs:okP p s){t:D.Term}{k:Int}(ht:fine t∧t.W=1){c:List D.Term}{l:List Int}(hc:fw 1 c)(hcl:c.length<60)(hl:l.length<60):okP p {s with Cond:=c++[t],Turns:=l++[k]}:=
 ⟨hs.pc,hs.rl,hs.rf,hs.ml,hs.mf,hs.sl,hs.sp,hs.inn,hs.ol,hs.of,hs.cd,hs.st,by show(c++[t]).length≤60;rw[ZoT];simp;omega,Zmu hc ht,by show(l++[k]).length≤60;rw[ZoT];simp;omega⟩
theorem Zji{p:D.Program}{rs:List D.Term}{i:D.Ins}(h:(qst p rs i).2.1=false):(qst p rs i).1=t0:=by
 unfold qst at h⊢;by_cases c1:i.Op=10∨i.Op=13
 ·rw[ZoD c1]at h;cases h
 rw[ZoC c1]at h⊢;by_cases c2:i.Op=3
 ·rw[ZoD c2]at h⊢;by_cases c3:i.C=6∨i.C=7
  ·rw[ZoD c3]at h;cases h
  ·rw[ZoC c3]
 rw[ZoC c2]at h⊢;have hq:∀x:D.Term,(qad p x).2.1=true:=fun x=>by unfold qad;split<;>rfl
 by_cases c4:i.Op=7
 ·rw[ZoD c4,hq]at h;cases h
 rw[ZoC c4]at h⊢;by_cases c5:i.Op=8
 ·rw[ZoD c5,hq]at h;cases h
 rw[ZoC c5]
theorem Zel{p:D.Program}{rs:List D.Term}{i:D.Ins}(h:(qst p rs i).2.1=true)(hok:(qst p rs i).2.2=true):fine (qst p rs i).1∧(qst p rs i).1.W=1:=by
 have hz:∀x:D.Term,(qze p x).2.2=true→fine (qze p x).1∧(qze p x).1.W=1:=fun x h=>Yz h;have hq:∀x:D.Term,(qad p x).2.2=true→fine (qad p x).1∧(qad p x).1.W=1:=fun x h=>by
  unfold qad at h⊢;split at h
  ·rename_i c;rw[ZoD c];exact Yz h
  ·cases h
 unfold qst at h hok⊢;by_cases c1:i.Op=10∨i.Op=13
 ·rw[ZoD c1]at h hok⊢;exact hz _ hok
 rw[ZoC c1]at h hok⊢;by_cases c2:i.Op=3
 ·rw[ZoD c2]at h hok⊢;by_cases c3:i.C=6∨i.C=7
  ·rw[ZoD c3]at h hok⊢;exact hz _ hok
  ·rw[ZoC c3]at h;cases h
 rw[ZoC c2]at h hok⊢;by_cases c4:i.Op=7
 ·rw[ZoD c4]at h hok⊢;exact hq _ hok
 rw[ZoC c4]at h hok⊢;by_cases c5:i.Op=8
 ·rw[ZoD c5]at h hok⊢;exact hq _ hok
 rw[ZoC c5]at h;cases h
noncomputable def dvd(p:D.Program)(s:D.Path)(i:D.Ins):List D.Path:=
 if(qst p s.Regs i).2.2=false then[{s with Code:=9}]
 else if(qst p s.Regs i).2.1=true∧(qst p s.Regs i).1.Op=0∧(qst p s.Regs i).1.N=1 then[nmd s i]
 else if(flw p s i).2=false then[{s with Code:=9}]
 else if(qst p s.Regs i).2.1=false∨(qst p s.Regs i).1.Op=0 then[(flw p s i).1]
 else if(mkT 1 1 0 [(qst p s.Regs i).1]).2=false∨s.Cond.length=60∨s.Turns.length=60 then[{s with Code:=9}]
 else[{nmd s i with Cond:=s.Cond++[(qst p s.Regs i).1],Turns:=s.Turns++[1]},{(flw p s i).1 with Cond:=s.Cond++[(mkT 1 1 0 [(qst p s.Regs i).1]).1],Turns:=s.Turns++[0]}]
theorem ZiJ{p:D.Program}{s:D.Path}{i:D.Ins}(hp:progB p=true)(hs:okP p s)(hi:insF p.W p.Code.length i)(hpc:s.Pc<p.Code.length)(hk:stk p s i=0):ZbG fuel p s i=some (dvd p s i):=by
 unfold ZbG dvd;rw[ZgK hp hs hi];simp only[Zo8];by_cases q1:(qst p s.Regs i).2.2=true
 ·have hfl:¬((qst p s.Regs i).2.1=true∧(qst p s.Regs i).1.Op=0∧(qst p s.Regs i).1.N=1)→Zbd fuel p s i=some (flw p s i):=fun hn=>by
   have:=ZcT hp hs hi q1 (fun e=>by
    cases ha:(qst p s.Regs i).2.1
    ·rw[Zji ha]at e;exact absurd e.2 (by decide)
    ·exact hn ⟨ha,e⟩)
   exact Zix hp hs hi hpc hk this.1 this.2
  rw[ZoC (show¬(!(qst p s.Regs i).2.2)=true by rw[q1];simp),ZoC (show¬(qst p s.Regs i).2.2=false by rw[q1];simp)];by_cases q2:(qst p s.Regs i).2.1=true∧(qst p s.Regs i).1.Op=0∧(qst p s.Regs i).1.N=1
  ·rw[ZoD q2,ZoD q2.1];unfold Zp;simp only[Zo8];rw[ZoD (by simp[q2]),Zgf];rfl
  ·rw [ZoC q2]
   have e:∀{β:Type}(x y:Option β),((if(qst p s.Regs i).2.1=true then Zp (qst p s.Regs i).1 1 else some default).bind fun x2=>if((qst p s.Regs i).2.1&&x2)=true then x else y)=y:=fun x y=>by
    cases ha:(qst p s.Regs i).2.1
    ·rfl
    ·unfold Zp;simp only[ZoO,Zo8];rw[ZoC (by simp;intro h1 h2;exact q2 ⟨ha,h1,h2⟩)]
   rw[e,hfl q2];simp only[Zo8];by_cases q3:(flw p s i).2=true
   ·rw[ZoC (show¬(!(flw p s i).2)=true by rw[q3];simp),ZoC (show¬(flw p s i).2=false by rw[q3];simp)];cases ha:(qst p s.Regs i).2.1
    ·simp
    ·obtain⟨f1,f2⟩:=Zel ha q1;unfold Zc;simp only[ZoF,Zo9,ZoG,Zo8,ZoW,false_or];by_cases q4:(qst p s.Regs i).1.Op=0
     ·simp[q4]
     ·rw[ZoC (by simpa using q4),ZoC (by simp;exact q4),ZaR (sml1f f1)];simp only[Zo8];have hcl:=hs.cl;have htl:=hs.tl;by_cases q5:(mkT 1 1 0 [(qst p s.Regs i).1]).2=false∨s.Cond.length=60∨s.Turns.length=60
      ·rw[ZoD q5,ZoD (by rw[Zb,Zb];simp;rcases q5 with h|h|h<;>simp[h])]
      ·rw[ZoC q5,ZoC (by rw[Zb,Zb];simp at q5⊢;exact⟨⟨q5.1,by omega⟩,by omega⟩),Zgf,Zh6 (by omega),Zh6 (by omega),Zh4 (by omega),Zh4 (by omega)];rfl
   ·rw[ZoD (by simpa using q3),ZoD (by simpa using q3)]
 ·rw[ZoD (by simpa using q1),ZoD (by simpa using q1)]
def insAt(p:D.Program)(k:Int):D.Ins:=(p.Code[k.toNat]?).getD ⟨0,0,0,0⟩
theorem ZeY{p:D.Program}{k:Int}(h0:0≤k)(h1:k<p.Code.length):get? p.Code k=some (insAt p k)∧insAt p k∈p.Code:=by
 obtain⟨j,rfl⟩:∃j:Nat,k=(j:Int):=⟨k.toNat,by omega⟩;unfold insAt;rw[get?_nat,Zq8,ZoE (by omega)];exact⟨rfl,Zph _⟩
theorem Zgr{p:D.Program}{s:D.Path}(hs:okP p s)(h:s.Steps<400):okP p {s with Steps:=s.Steps+1}:=⟨hs.pc,hs.rl,hs.rf,hs.ml,hs.mf,hs.sl,hs.sp,hs.inn,hs.ol,hs.of,hs.cd,by have:=hs.st;show 0≤s.Steps+1∧s.Steps+1≤400;omega,hs.cl,hs.cf,hs.tl⟩
noncomputable def stp1(p:D.Program)(s:D.Path):List D.Path:=
 if s.Code≠0∨s.Steps=400 then[]
 else if s.Pc=len p.Code then[{s with Code:=2}]
 else if stk p {s with Steps:=s.Steps+1} (insAt p s.Pc)≠0 then[{s with Steps:=s.Steps+1,Code:=stk p {s with Steps:=s.Steps+1} (insAt p s.Pc)}]
 else dvd p {s with Steps:=s.Steps+1} (insAt p s.Pc)
theorem ZkA{p:D.Program}{s:D.Path}(hp:progB p=true)(hs:okP p s):ZaY fuel p s=some (stp1 p s):=by
 have hst:=hs.st;have hpc:=hs.pc;rw[Zb]at hpc;unfold ZaY stp1;by_cases c1:s.Code≠0∨s.Steps=400
 ·rw[ZoD c1,ZoD (by simp;rcases c1 with h|h;exact .inl h;right;omega)]
 ·have d1:s.Code=0∧s.Steps<400:=by omega
  rw[ZoC c1,ZoC (by simp;omega)];by_cases c2:s.Pc=len p.Code
  ·rw[ZoD c2,ZoD (by simpa using c2)]
  ·rw[ZoC c2,ZoC (by simpa using c2)];rw[Zb]at c2;obtain⟨g1,g2⟩:=ZeY (p:=p) (k:=s.Pc) hpc.1 (by omega);have hs1:=Zgr hs d1.2;rw[g1];simp only[Zo8];rw[Zm (by omega) (by omega),ZiN hs1];simp only[Zo8];by_cases c3:stk p {s with Steps:=s.Steps+1} (insAt p s.Pc)=0
   ·rw[ZoC (by rw[c3];simp),ZoC (by rw[c3];simp),ZiJ hp hs1 (ZfF hp g2) (by show s.Pc<_;omega) c3];rfl
   ·rw[ZoD (by simpa using c3),ZoD c3]
theorem ZhS{s:D.Path}{i:D.Ins}{c:List D.Term}{t:List Int}:nmd {s with Cond:=c,Turns:=t} i={nmd s i with Cond:=c,Turns:=t}:=by
 unfold nmd;by_cases c1:i.Op=10
 ·simp only[c1,reduceIte]
 by_cases c2:i.Op=13
 ·simp only[c2,Int.reduceEq,reduceIte]
 by_cases c3:i.Op=3
 ·simp only[c3,Int.reduceEq,reduceIte]
 simp only[c1,c2,c3,reduceIte]
theorem Zln{p:D.Program}{s:D.Path}{i:D.Ins}(h:stk p s i≠0):qst p s.Regs i=(t0,false,true):=by
 have:i.Op=5∨i.Op=6∨i.Op=11∨i.Op=12:=by
  unfold stk at h;by_cases a:i.Op=5∧s.In=p.In
  ·exact .inl a.1
  rw[ZoC a]at h;by_cases b:i.Op=6∧s.Out.length=6
  ·exact .inr (.inl b.1)
  rw[ZoC b]at h;by_cases c:i.Op=11∧s.Stack.length=3
  ·exact .inr (.inr (.inl c.1))
  rw[ZoC c]at h;by_cases d:i.Op=12∧s.Stack.length=0
  ·exact .inr (.inr (.inr d.1))
  rw[ZoC d]at h;exact absurd rfl h
 unfold qst;rw[ZoC (by omega),ZoC (by omega),ZoC (by omega),ZoC (by omega)]
theorem ZgP{p:D.Program}{s:D.Path}{t:D.Term}{k:Int}(hp:progB p=true)(hs:okP p s):Xz fuel s t k=some {s with Cond:=s.Cond++[t],Turns:=s.Turns++[k]}:=by
 unfold Xz;rw[Za5 (hs.fine hp)];simp only[Zo8];rw[XW (by simp;have:=hs.cl;omega)];simp only[Zo8];rw[XW (by simp;have:=hs.tl;omega)];rfl
theorem Zle{q:D.Term}(hf:fine q∧q.W=1)(h0:q.Op=0):q.N=0∨q.N=1:=by
 obtain⟨e,hv⟩:=Xf hf.1.1 (by simp[h0]);rw[hf.2,Yf (by omega) (by omega)]at hv;have:q.N<2:=by simpa using hv.2
 omega
theorem ZlY {p:D.Program}{u:D.Path}{i:D.Ins}(hp:progB p=true)(hs:okP p u)(h0:u.Code=0)(hi:insF p.W p.Code.length i)(hpc:u.Pc<p.Code.length):
    ((ZV fuel u).bind fun x2=>(Y6 fuel (D.l06Maker.mk false) p u i).bind fun x4=>if x4.2.2.bad then some ([(D.Path.mk x2.Pc x2.Regs x2.Mem x2.Stack x2.In x2.Out 9 x2.Steps x2.Cond x2.Turns)]:List D.Path)else(if(!x4.2.1)then some default else(Zq x4.1 0)).bind fun x5=>if((!x4.2.1)||x5)then(ZP fuel x4.2.2 p u i).bind fun x6=>if x6.2.bad then some ([(D.Path.mk x2.Pc x2.Regs x2.Mem x2.Stack x2.In x2.Out 9 x2.Steps x2.Cond x2.Turns)]:List D.Path)else(ZV fuel x6.1).bind fun x7=>some ([x7]:List D.Path)else(Zq x4.1 1).bind fun x8=>if x8 then(XP u i).bind fun x9=>some ([x9]:List D.Path)else(Zf fuel x4.2.2 1 1 ([x4.1]:List D.Term)).bind fun x10=>if((x10.2.bad||((len u.Cond)==60))||((len u.Turns)==60))then some ([(D.Path.mk x2.Pc x2.Regs x2.Mem x2.Stack x2.In x2.Out 9 x2.Steps x2.Cond x2.Turns)]:List D.Path)else(Xz fuel u x10.1 0).bind fun x11=>(ZP fuel x10.2 p x11 i).bind fun x12=>if x12.2.bad then some ([(D.Path.mk x2.Pc x2.Regs x2.Mem x2.Stack x2.In x2.Out 9 x2.Steps x2.Cond x2.Turns)]:List D.Path)else(Xz fuel u x4.1 1).bind fun x13=>(XP x13 i).bind fun x14=>(ZV fuel x12.1).bind fun x15=>some ([x14,x15]:List D.Path))=some (if stk p u i≠0 then[{u with Code:=stk p u i}]else dvd p u i):=by
  rw[Za5 (hs.fine hp)];obtain⟨t',h1,h2⟩:=ZgD hp hs hi;rw[h1];simp only[Zo8];by_cases hk:stk p u i=0
  · rw [ZoC (show¬(stk p u i≠0)from fun h=>h hk)]
    unfold dvd;by_cases q1:(qst p u.Regs i).2.2=true
    · have ht :=h2 q1
      subst ht;rw[ZoC (show¬(!(qst p u.Regs i).2.2)=true by rw[q1];simp),ZoC (show¬(qst p u.Regs i).2.2=false by rw[q1];simp),q1]
      have hfc:¬((qst p u.Regs i).2.1=true∧(qst p u.Regs i).1.Op=0∧(qst p u.Regs i).1.N=1)→_:=fun hn=>ZcT hp hs hi q1 (fun e=>by
        cases ha:(qst p u.Regs i).2.1
        · rw[Zji ha]at e;exact absurd e.2 (by decide)
        · exact hn ⟨ha,e⟩)
      have hno:¬((qst p u.Regs i).2.1=true∧(qst p u.Regs i).1.Op=0∧(qst p u.Regs i).1.N=1)→((ZP fuel ⟨!true⟩ p u i).bind fun x6=>if x6.2.bad then some ([(D.Path.mk u.Pc u.Regs u.Mem u.Stack u.In u.Out 9 u.Steps u.Cond u.Turns)]:List D.Path)else(ZV fuel x6.1).bind fun x7=>some ([x7]:List D.Path))=some (if(flw p u i).2=false then[{u with Code:=9}]else[(flw p u i).1]):=fun hn=>by
        obtain⟨f7,f8⟩:=hfc hn;obtain⟨s',e1,e2⟩:=Zkb hp hs h0 hi hpc hk f7 f8;rw[show(!true)=false from rfl,e1];simp only[Zo8];cases hb:(flw p u i).2
        · simp
        · have:=e2 hb
          subst this;simp only[ZoF,Zo9,ZoG];rw[Za5 ((ZhB hp hs hi hpc hk f7 hb).fine hp)];simp
      cases ha:(qst p u.Regs i).2.1
      · rw[ha]at hno
        simp only[Zpr,ZoO,Zo8,Zq2];rw[hno (by simp)];cases(flw p u i).2<;>simp
      · have hf:=Zel ha q1
        rw[ha]at hno hfc;simp only[ZoF,Zo9,ZoG,ZoW,Zq,Zo8];by_cases z:(qst p u.Regs i).1.Op=0
        · rcases Zle hf z with n0|n1
          · have r1:¬(true=true∧(qst p u.Regs i).1.Op=0∧(qst p u.Regs i).1.N=1):=by rw[n0];simp
            rw[ZoD (show((qst p u.Regs i).1.Op==0&&(qst p u.Regs i).1.N==0)=true by simp[z,n0]),ZoC (fun h=>r1 ⟨rfl,h.2⟩:¬(True∧(qst p u.Regs i).1.Op=0∧(qst p u.Regs i).1.N=1))];have:=hno r1;simp only[ZoF]at this;rw[this];cases(flw p u i).2<;>simp[z]
          · rw[ZoC (show¬((qst p u.Regs i).1.Op==0&&(qst p u.Regs i).1.N==0)=true by simp[z,n1]),ZoD (show((qst p u.Regs i).1.Op==0&&(qst p u.Regs i).1.N==1)=true by simp[z,n1]),ZoD (⟨trivial,z,n1⟩:True∧(qst p u.Regs i).1.Op=0∧(qst p u.Regs i).1.N=1),Zi4];rfl
        · have r1:¬(true=true∧(qst p u.Regs i).1.Op=0∧(qst p u.Regs i).1.N=1):=fun h=>z h.2.1
          rw[ZoC (show¬((qst p u.Regs i).1.Op==0&&(qst p u.Regs i).1.N==0)=true by simp[z]),ZoC (show¬((qst p u.Regs i).1.Op==0&&(qst p u.Regs i).1.N==1)=true by simp[z]),ZoC (fun h=>r1 ⟨rfl,h.2⟩:¬(True∧(qst p u.Regs i).1.Op=0∧(qst p u.Regs i).1.N=1)),XH (sml1f hf.1)];simp only[Zo8,ZoW];have hcl:=hs.cl;have htl:=hs.tl;by_cases q5:(mkT 1 1 0 [(qst p u.Regs i).1]).2=false∨u.Cond.length=60∨u.Turns.length=60
          · rw[ZoD (show(!(mkT 1 1 0 [(qst p u.Regs i).1]).2||len u.Cond==60||len u.Turns==60)=true by rw[Zb,Zb];simp;rcases q5 with h|h|h<;>simp[h])]
            cases(flw p u i).2
            · simp
            · simp[z,q5]
          · have q6:(mkT 1 1 0 [(qst p u.Regs i).1]).2=true∧u.Cond.length≠60∧u.Turns.length≠60:=by simpa using q5
            rw[ZoC (show¬(!(mkT 1 1 0 [(qst p u.Regs i).1]).2||len u.Cond==60||len u.Turns==60)=true by rw[Zb,Zb,q6.1];simp;omega),ZgP hp hs];simp only[Zo8];obtain⟨f7,f8⟩:=hfc r1;have hs':okP p {u with Cond:=u.Cond++[(mkT 1 1 0 [(qst p u.Regs i).1]).1],Turns:=u.Turns++[0]}:=Zho hs (Yz q6.1) hs.cf (by omega) (by omega);obtain⟨s',e1,e2⟩:=Zkb (s:={u with Cond:=u.Cond++[(mkT 1 1 0 [(qst p u.Regs i).1]).1],Turns:=u.Turns++[0]}) hp hs' h0 hi hpc hk f7 f8;rw[q6.1,show(!true)=false from rfl,e1];simp only[Zo8];rw[Ze5]at e2⊢;cases hb:(flw p u i).2
            · simp
            · have hfo:=ZhB (s:={u with Cond:=u.Cond++[(mkT 1 1 0 [(qst p u.Regs i).1]).1],Turns:=u.Turns++[0]}) hp hs' hi hpc hk f7 (by rw[Ze5];exact hb)
              rw[Ze5]at hfo;have:=e2 hb;subst this;simp only[ZoF,Zo9,ZoG];rw[ZgP hp hs];simp only[Zo8];rw[Zi4,ZhS];simp only[Zo8];rw[Za5 (hfo.fine hp)];simp[z,q6]
    · rw[ZoD (show(!(qst p u.Regs i).2.2)=true by simpa using q1),ZoD (show(qst p u.Regs i).2.2=false by simpa using q1)]
  · have hq:=Zln hk
    have h9:0≤stk p u i∧stk p u i≤9:=by
      unfold stk
      repeat' split
      all_goals omega
    rw[hq,ZoD hk];simp only[ZoF,Zo9,ZoG,Zpr,ZoO,Zo8,Zq2];rw[Zlg hp hs hk];simp only[Zo8,Zo9,ZoG];rw[Za5 ((ZbS hs h9).fine hp)];rfl
theorem Zkk{p:D.Program}{s:D.Path}(hp:progB p=true)(hs:okP p s):ZaB fuel p s=some (stp1 p s):=by
 have hst:=hs.st;have hpc:=hs.pc;rw[Zb]at hpc;unfold ZaB stp1;by_cases c1:s.Code≠0∨s.Steps=400
 ·rw[ZoD c1,ZoD (by simpa using c1)]
 have d1:s.Code=0∧s.Steps<400:=by omega
 rw[ZoC c1,ZoC (by simp;omega),Za5 (hs.fine hp)];simp only[Zo8];by_cases c2:s.Pc=len p.Code
 ·rw[ZoD c2,ZoD (by simpa using c2)]
 rw[ZoC c2,ZoC (by simpa using c2)];rw[Zb]at c2;obtain⟨g1,g2⟩:=ZeY (p:=p) (k:=s.Pc) hpc.1 (by omega);have hi:=ZfF hp g2;have hs1:=Zgr hs d1.2;rw[g1,Zm (by omega) (by omega)];have hz:({s with Steps:=s.Steps+1}:D.Path).Code=0:=d1.1;have:=ZlY (u:={s with Steps:=s.Steps+1}) hp hs1 hz hi (by show s.Pc<_;omega);simp only[Zo8];refine Eq.trans ?_ (this.trans ?_)
 ·rfl
 ·split<;>rfl
theorem ZnT{p:D.Program}{s:D.Path}{i:D.Ins}(hp:progB p=true)(hs:okP p s)(hi:insF p.W p.Code.length i)(hpc:s.Pc<p.Code.length)(hk:stk p s i=0):∀x∈dvd p s i,okP p x:=by
 intro x hx;unfold dvd at hx;by_cases q1:(qst p s.Regs i).2.2=false
 ·rw[ZoD q1,ZoM]at hx;subst hx;exact ZbS hs (by omega)
 rw[ZoC q1]at hx;have q1':(qst p s.Regs i).2.2=true:=by simpa using q1
 by_cases q2:(qst p s.Regs i).2.1=true∧(qst p s.Regs i).1.Op=0∧(qst p s.Regs i).1.N=1
 ·rw[ZoD q2,ZoM]at hx;subst hx;exact ZlV hs hi
 rw[ZoC q2]at hx
 have hfc:=ZcT hp hs hi q1' (fun e=>by
  cases ha:(qst p s.Regs i).2.1
  ·rw[Zji ha]at e;exact absurd e.2 (by decide)
  ·exact q2 ⟨ha,e⟩)
 by_cases q3:(flw p s i).2=false
 ·rw[ZoD q3,ZoM]at hx;subst hx;exact ZbS hs (by omega)
 rw[ZoC q3]at hx;have q3':(flw p s i).2=true:=by simpa using q3
 by_cases q4:(qst p s.Regs i).2.1=false∨(qst p s.Regs i).1.Op=0
 ·rw[ZoD q4,ZoM]at hx;subst hx;exact ZhB hp hs hi hpc hk hfc.1 q3'
 rw[ZoC q4]at hx;by_cases q5:(mkT 1 1 0 [(qst p s.Regs i).1]).2=false∨s.Cond.length=60∨s.Turns.length=60
 ·rw[ZoD q5,ZoM]at hx;subst hx;exact ZbS hs (by omega)
 rw[ZoC q5]at hx;have q6:(mkT 1 1 0 [(qst p s.Regs i).1]).2=true∧s.Cond.length≠60∧s.Turns.length≠60:=by simpa using q5
 have hcl:=hs.cl;have htl:=hs.tl;have ha:(qst p s.Regs i).2.1=true:=by
  cases h:(qst p s.Regs i).2.1
  ·exact absurd (.inl h) q4
  ·rfl
 rcases Zpc.1 hx with rfl|hx
 ·exact Zho (ZlV hs hi) (Zel ha q1') hs.cf (by omega) (by omega)
 ·rw[ZoM]at hx;subst hx;exact Zho (ZhB hp hs hi hpc hk hfc.1 q3') (Yz q6.1) hs.cf (by omega) (by omega)
theorem Znh(p:D.Program)(s:D.Path)(i:D.Ins):(dvd p s i).length=1∨(dvd p s i).length=2:=by
 unfold dvd
 repeat' split
 all_goals first|exact .inl rfl|exact .inr rfl
theorem ZjS(p:D.Program)(s:D.Path):(stp1 p s).length≤2:=by
 unfold stp1;split
 ·simp
 ·split
  ·simp
  ·split
   ·simp
   ·rcases Znh p {s with Steps:=s.Steps+1} (insAt p s.Pc)with h|h<;>omega
theorem Zob{p:D.Program}{s:D.Path}(hp:progB p=true)(hs:okP p s):∀x∈stp1 p s,okP p x:=by
 have hst:=hs.st;have hpc:=hs.pc;rw[Zb]at hpc;intro x hx;unfold stp1 at hx;by_cases c1:s.Code≠0∨s.Steps=400
 ·rw[ZoD c1]at hx;cases hx
 rw[ZoC c1]at hx;by_cases c2:s.Pc=len p.Code
 ·rw[ZoD c2,ZoM]at hx;subst hx;exact ZbS hs (by omega)
 rw[ZoC c2]at hx;rw[Zb]at c2;have hs1:=Zgr hs (by omega);obtain⟨g1,g2⟩:=ZeY (p:=p) (k:=s.Pc) hpc.1 (by omega);by_cases c3:stk p {s with Steps:=s.Steps+1} (insAt p s.Pc)=0
 ·rw[ZoC (fun h=>h c3)]at hx;exact ZnT hp hs1 (ZfF hp g2) (by show s.Pc<_;omega) c3 x hx
 ·rw[ZoD c3,ZoM]at hx;subst hx;refine ZbS hs1 ?_;unfold stk
  repeat' split
  all_goals omega
theorem Zhi{w b:Int}{m:Nat}(hb:b=(m:Int))(hm:m≤100):∀(k j n:Nat),j+k=m→k<n→iterN (fun(s1:Int×(List D.Term))=>if(decide (s1.1<b))then(ZC w 0).bind fun x2=>(app? s1.2 ([(D.Term.mk x2.Op x2.W x2.N x2.Name ([]:List D.Term))]:List D.Term)).bind fun x3=>some (.inl ((w64 (s1.1+1)),x3))else some (.inr (s1.2)):Int×List D.Term→Option ((Int×List D.Term)⊕List D.Term)) n ((j:Int),List.replicate j (kT w 0))=some (List.replicate m (kT w 0)):=by
  intro k
  induction k with
  | zero=>
    intro j n hj hn;refine Yw ?_ hn;simp only;rw[ZoC (by simp;omega),show j=m by omega]
  | succ k ih=>
    intro j n hj hn;obtain⟨n,rfl⟩:∃q,n=q+1:=⟨n-1,by omega⟩;rw[←ih (j+1) n (by omega) (by omega)];refine YV ?_;simp only[Zi,Zo8];rw[ZoD (by simp;omega),XW (by simp;omega)];simp only[Zo8];rw[Zm (by omega) (by omega),List.replicate_succ'];rfl
theorem ZgV{w b:Int}{m:Nat}{z:D.Term}(hw:wordB w 0=true)(hb:b=(m:Int))(hm:m≤100):∀(k j n:Nat),j+k=m→k<n→iterN (fun(s1:Int×(List D.Term))=>if(decide (s1.1<b))then(Z9 w 0).bind fun x3=>(set? s1.2 s1.1 (D.Term.mk x3.Op x3.W x3.N x3.Name ([]:List D.Term))).bind fun x4=>some (.inl ((w64 (s1.1+1)),x4))else some (.inr (s1.2)):Int×List D.Term→Option ((Int×List D.Term)⊕List D.Term)) n ((j:Int),List.replicate j (kT w 0)++List.replicate k z)=some (List.replicate m (kT w 0)):=by
  intro k
  induction k with
  | zero=>
    intro j n hj hn;refine Yw ?_ hn;simp only;rw[ZoC (by simp;omega),show j=m by omega];simp
  | succ k ih=>
    intro j n hj hn;obtain⟨n,rfl⟩:∃q,n=q+1:=⟨n-1,by omega⟩;rw[←ih (j+1) n (by omega) (by omega)];refine YV ?_;simp only[ZZ hw,Zo8];rw[ZoD (by simp;omega),List.replicate_succ (n:=k),set_mid (by simp)];simp only[Zo8];rw[Zm (by omega) (by omega),List.replicate_succ' (n:=j)];simp only[ZpI,ZpK];rfl
def path0(p:D.Program):D.Path:=⟨0,List.replicate 4 (kT p.W 0),List.replicate p.Mem.toNat (kT p.W 0),[],0,[],0,0,[],[]⟩
theorem ZlO{p:D.Program}(hp:progB p=true):okP p (path0 p):=by
 have hm:=Yq hp;have hq:=ZcL hp;have hz:=ZnI (ZcM hp);refine⟨⟨by show(0:Int)≤0;omega,by show(0:Int)≤_;rw[Zb];omega⟩,rfl,fun x hx=>?_,by show((List.replicate p.Mem.toNat (kT p.W 0)).length:Int)=_;simp;omega,fun x hx=>?_,by show(0:Nat)≤3;omega,fun x hx=>(by cases hx),⟨by show(0:Int)≤0;omega,by show(0:Int)≤_;omega⟩,by show(0:Nat)≤6;omega,fun x hx=>(by cases hx),by show(0:Int)≤0∧(0:Int)≤9;omega,by show(0:Int)≤0∧(0:Int)≤400;omega,by show(0:Nat)≤60;omega,fun x hx=>(by cases hx),by show(0:Nat)≤60;omega⟩
 ·rw[(Zq3.1 hx).2];exact hz
 ·rw[(Zq3.1 hx).2];exact hz
theorem Zjs{p:D.Program}(hp:progB p=true)(hl:p.Code.length≤1048576):Za4 fuel p=some (path0 p):=by
 have hm:=Yq hp;unfold Za4;rw[ZeT hl,hp];simp only[Zo8,ZoF,Zo9,ZoG];have h1:=Zhi (w:=p.W) (b:=4) (m:=4) rfl (by omega) 4 0 fuel rfl (by unfold fuel;omega);have h2:=Zhi (w:=p.W) (b:=p.Mem) (m:=p.Mem.toNat) (by omega) (by omega) p.Mem.toNat 0 fuel (by omega) (by unfold fuel;omega);rw[show((0:Nat):Int)=0 from rfl,List.replicate_zero]at h1 h2;rw[h1];simp only[Zo8];rw[h2];rfl
theorem ZiX{p:D.Program}(hp:progB p=true):Zap fuel p=some (path0 p):=by
 have hm:=Yq hp;have hz:=ZcM hp;unfold Zap;have m1:mk? 4 (D.Term.mk 0 0 0 ⟨[]⟩ ([]:List D.Term))=some (List.replicate 4 t0):=by
  unfold mk?;rw[ZoD ⟨by omega,by unfold room;decide⟩];rfl
 have m2:mk? p.Mem (D.Term.mk 0 0 0 ⟨[]⟩ ([]:List D.Term))=some (List.replicate p.Mem.toNat t0):=by
  unfold mk?;rw[ZoD ⟨by omega,by unfold room;omega⟩];rfl
 rw[m1,m2];simp only[Zo8];have h1:=ZgV (z:=t0) (b:=len (List.replicate 4 t0)) (m:=4) hz (by rw[Zb];simp) (by omega) 4 0 fuel rfl (by unfold fuel;omega);have h2:=ZgV (z:=t0) (b:=len (List.replicate p.Mem.toNat t0)) (m:=p.Mem.toNat) hz (by rw[Zb];simp) (by omega) p.Mem.toNat 0 fuel (by omega) (by unfold fuel;omega);rw[show((0:Nat):Int)=0 from rfl,List.replicate_zero,Zqq]at h1 h2;rw[h1];simp only[Zo8];rw[h2];rfl
theorem Zei{l:List D.Term}{k:Int}(h:sml l)(h0:0≤k)(h1:k≤10000000000000000):∃k' r,ZQ fuel l k=some (k',r)∧k≤k'∧k'≤k+4194304∧Zz fuel r k=some k':=by
 unfold sml at h;obtain⟨⟨k',r⟩,e,a,b,c⟩:=ZkW fuel l k h (by unfold fuel;omega) h0 (by omega);exact⟨k',r,e,a,by simp only at b;omega,c fuel (by unfold fuel;omega)⟩
def smallPS(l:List D.Path):Prop:=l.length≤1048576∧∀x∈l,smallP x
theorem ZhL{l:List D.Path}(h:smallPS l):Zaa fuel l l=some true:=by
 obtain⟨hl,hk⟩:=h;unfold Zaa;rw[ZoC (by simp)];obtain⟨r,g1,g2⟩:=ZT (l:=l) (n:=fuel) (σ:=Unit) (ρ:=Unit⊕Bool) (B:=fun(s1:Int)=>if(decide (s1<(len l)))then(get? l s1).bind fun x1=>(get? l s1).bind fun x2=>(Zbe fuel x1 x2).bind fun x3=>if(!x3)then some (.inr (.inr false))else some (.inl ((w64 (s1+1))))else some (.inr (.inl ()))) (fun k _=>(k:Int)) (fun _ _=>True) (fun r=>r= .inl ())
  (fun k x xs a hk' hx hlen _=>by
   have hd:decide ((k:Int)<len l)=true:=by rw[Zb];simp;omega
   simp only[hd,ZoO,get?_nat,hx,Zo8,ZiG (hk x (Zpd hx)),ZoF,Zo9,ZoG]
   exact .inl ⟨(),by rw[Zm (by omega) (by omega)];rfl,trivial⟩)
  (fun a _=>by
   have hd:decide ((l.length:Int)<len l)=false:=by rw[Zb];simp
   simp only[hd,Zo9,ZoG]
   exact⟨_,rfl,rfl⟩) (a:=()) trivial (Yb hl)
 rw[show((0:Nat):Int)=0 from rfl]at g1;rw[g1,g2];rfl
set_option maxHeartbeats 2000000
def ElP(q:Int)(x:D.Path)(q':Int):Prop:=0≤q∧q≤10000000000000000∧x.Pc=q∧∃k1 k2 k4 k5,Zz fuel x.Regs (q+1)=some k1∧0≤k1∧Zz fuel x.Mem k1=some k2∧0≤k2∧Yt fuel x.Stack k2=some x.In∧0≤x.In∧x.In≤10000000000000000∧
 Zz fuel x.Out (x.In+1)=some k4∧0≤k4∧k4≤10000000000000000∧x.Code=k4∧x.Steps=k4+1∧Zz fuel x.Cond (k4+1+1)=some k5∧0≤k5∧Yt fuel x.Turns k5=some q'∧0≤q'
theorem ZnQ{q k1 k2 k3 k4 k5 q':Int}{r1 r2 r4 r5:List D.Term}{st tn:List Int}(h0:0≤q)(h1:q≤10000000000000000)(e1:Zz fuel r1 (q+1)=some k1)(c1:0≤k1)(e2:Zz fuel r2 k1=some k2)(c2:0≤k2)(e3:Yt fuel st k2=some k3)(c3:0≤k3∧k3≤10000000000000000)
  (e4:Zz fuel r4 (k3+1)=some k4)(c4:0≤k4∧k4≤10000000000000000)(e5:Zz fuel r5 (k4+1+1)=some k5)(c5:0≤k5)(e6:Yt fuel tn k5=some q')(c6:0≤q'):ElP q (D.Path.mk q r1 r2 st k3 r4 k4 (k4+1) r5 tn) q':=
 ⟨h0,h1,rfl,k1,k2,k4,k5,e1,c1,e2,c2,e3,c3.1,c3.2,e4,c4.1,c4.2,rfl,rfl,e5,c5,e6,c6⟩
def ChP:Int→List D.Path→Int→Prop
 |q,[],e=>q=e
 |q,x::l,e=>∃q',ElP q x q'∧ChP q' l e
theorem ChP.snoc{x:D.Path}{e e':Int}(h':ElP e x e'):∀{l:List D.Path}{q:Int},ChP q l e→ChP q (l++[x]) e'
 |[],q,h=>by cases h;exact⟨e',h',rfl⟩
 |y::l,q,⟨q',h1,h2⟩=>⟨q',h1,h2.snoc h'⟩
theorem ZmE {l:List D.Path}{k e:Int}(h:ChP k l e)(hl:l.length≤1048576):Xx fuel l k=some e:=by
  unfold Xx;obtain⟨r,g1,g2⟩:=ZT (l:=l) (n:=fuel) (σ:=Int) (ρ:=Int⊕Int) (B:=fun(s1:Int×Int)=>if (decide (s1.2<(len l)))then(get? l s1.2).bind fun x1=>if(x1.Pc !=s1.1)then some (.inr (.inr (-1)))else(get? l s1.2).bind fun x2=>(Zz fuel x2.Regs (w64 (s1.1+1))).bind fun x3=>if(decide (x3<0))then some (.inr (.inr (-1)))else(get? l s1.2).bind fun x4=>(Zz fuel x4.Mem x3).bind fun x5=>if(decide (x5<0))then some (.inr (.inr (-1)))else(get? l s1.2).bind fun x6=>(Yt fuel x6.Stack x5).bind fun x7=>if(decide (x7<0))then some (.inr (.inr (-1)))else(get? l s1.2).bind fun x8=>if(x8.In !=x7)then some (.inr (.inr (-1)))else(get? l s1.2).bind fun x9=>(Zz fuel x9.Out (w64 (x7+1))).bind fun x10=>if(decide (x10<0))then some (.inr (.inr (-1)))else(get? l s1.2).bind fun x11=>if(x11.Code !=x10)then some (.inr (.inr (-1)))else(get? l s1.2).bind fun x12=>if(x12.Steps !=(w64 (x10+1)))then some (.inr (.inr (-1)))else(get? l s1.2).bind fun x13=>(Zz fuel x13.Cond (w64 ((w64 (x10+1))+1))).bind fun x14=>if(decide (x14<0))then some (.inr (.inr (-1)))else(get? l s1.2).bind fun x15=>(Yt fuel x15.Turns x14).bind fun x16=>if(decide (x16<0))then some (.inr (.inr (-1)))else some (.inl (x16,(w64 (s1.2+1))))else some (.inr (.inl (s1.1)))) (fun j a=>(a,(j:Int))) (fun ys a=>ChP a ys e) (fun r=>r= .inl e)
    (fun j x xs a hj hx hlen hch=>by
      obtain⟨q',⟨q0,q1,h1,k1,k2,k4,k5,e1,c1,e2,c2,e3,c3,c3',e4,c4,c4',h5,h6,e5,c5,e6,c6⟩,hc⟩:=hch;have hd:decide ((j:Int)<len l)=true:=by rw[Zb];simp;omega
      have n1:¬k1<0:=by omega
      have n2:¬k2<0:=by omega
      have n3:¬x.In<0:=by omega
      have n4:¬k4<0:=by omega
      have n5:¬k5<0:=by omega
      have n6:¬q'<0:=by omega
      simp only[hd,ZoO,get?_nat,hx,Zo8];rw[Zm (x:=a+1) (by omega) (by omega)];simp only[h1,e1,e2,e3,Zo8,bne_self_eq_false,Zo9,ZoG,n1,n2,n3,decide_false];rw[Zm (x:=x.In+1) (by omega) (by omega)];simp only[e4,Zo8];rw[Zm (x:=k4+1) (by omega) (by omega),Zm (x:=k4+1+1) (by omega) (by omega)];simp only[h5,h6,e5,e6,Zo8,bne_self_eq_false,Zo9,ZoG,n4,n5,n6,decide_false]
      exact .inl ⟨q',by rw[Zm (by omega) (by omega)];rfl,hc⟩)
    (fun a hch=>by
      have hd:decide ((l.length:Int)<len l)=false:=by rw[Zb];simp
      simp only[hd,Zo9,ZoG]
      exact⟨_,rfl,by rw[show a=e from hch]⟩) (a:=k) h (Yb hl)
  rw[show((0:Nat):Int)=0 from rfl]at g1;rw[g1,g2];rfl
theorem Zi8{l:List D.Path}{k:Int}(hl:l.length≤1000000)(hk:∀x∈l,smallP x)(h0:0≤k)(h1:k≤10000000000):∃k' r,Za6 fuel l k=some (k',r)∧0≤k'∧Xx fuel r k=some k':=by
 unfold Za6;obtain⟨r,g1,g2,g3,g4⟩:=ZT (l:=l) (n:=fuel) (σ:=Int×List D.Path) (ρ:=Int×List D.Path) (B:=fun(s1:Int×Int×(List D.Path))=>if(decide (s1.2.1<(len l)))then(get? s1.2.2 s1.2.1).bind fun x1=>(ZQ fuel x1.Regs (w64 (s1.1+1))).bind fun x2=>(ZQ fuel x1.Mem x2.1).bind fun x3=>(Xh fuel x1.Stack x3.1).bind fun x4=>(ZQ fuel x1.Out (w64 (x4.1+1))).bind fun x5=>(ZQ fuel x1.Cond (w64 ((w64 (x5.1+1))+1))).bind fun x6=>(Xh fuel x1.Turns x6.1).bind fun x7=>(set? s1.2.2 s1.2.1 (D.Path.mk s1.1 x2.2 x3.2 x4.2 x4.1 x5.2 x5.1 (w64 (x5.1+1)) x6.2 x7.2)).bind fun x8=>some (.inl (x7.1,(w64 (s1.2.1+1)),x8))else some (.inr (s1.1,s1.2.2))) (fun j a=>(a.1,(j:Int),a.2)) (fun ys a=>(∃pre,a.2=pre++ys∧pre.length+ys.length=l.length∧ChP k pre a.1)∧(∀x∈ys,smallP x)∧k≤a.1∧a.1+40000000*(ys.length:Int)≤k+40000000*(l.length:Int))
   (fun r=>0≤r.1∧ChP k r.2 r.1∧r.2.length=l.length)
   (fun j x xs a hj hx hlen⟨⟨pre,i1,i2,i6⟩,i3,i4,i5⟩=>by
    obtain⟨q,z⟩:=a;simp only at i1 i4 i5 i6⊢;simp only[ZoP]at i2 i5 hlen;have hp:pre.length=j:=by omega
    have hd:decide ((j:Int)<len l)=true:=by rw[Zb];simp;omega
    have hg:z[j]? =some x:=by rw[i1,ZoX (by omega),hp,ZpJ];rfl
    obtain⟨s1,s2,s3,s4,s5,s6⟩:=i3 x (by simp);have hb:q≤50000000000000:=by omega
    obtain⟨k1,r1,e1,a1,b1,d1⟩:=Zei (k:=q+1) s1 (by omega) (by omega);obtain⟨k2,r2,e2,a2,b2,d2⟩:=Zei (k:=k1) s2 (by omega) (by omega);have e3:=Zfj (p:=x.Stack) (k:=k2) (by omega) (by omega) s3;have d3:=Zfk (L:=x.Stack.length) (k:=k2) (by omega) (by omega) s3;obtain⟨k4,r4,e4,a4,b4,d4⟩:=Zei (k:=k2+x.Stack.length+1) s4 (by omega) (by omega);obtain⟨k5,r5,e5,a5,b5,d5⟩:=Zei (k:=k4+1+1) s5 (by omega) (by omega);have e6:=Zfj (p:=x.Turns) (k:=k5) (by omega) (by omega) s6;have d6:=Zfk (L:=x.Turns.length) (k:=k5) (by omega) (by omega) s6;simp only[hd,ZoO,get?_nat,hg,Zo8];rw[Zm (x:=q+1) (by omega) (by omega),e1];simp only[Zo8,e2,e3];rw[Zm (x:=k2+(x.Stack.length:Int)+1) (by omega) (by omega),e4];simp only[Zo8];rw[Zm (x:=k4+1) (by omega) (by omega),Zm (x:=k4+1+1) (by omega) (by omega),e5];simp only[Zo8,e6];rw[set?_nat (by rw[i1];simp;omega)];refine .inl ⟨(k5+x.Turns.length,z.set j _),by simp only[Zo8];rw[Zm (by omega) (by omega)];rfl,⟨pre++[D.Path.mk q r1 r2 (upI k2 x.Stack.length) (k2+x.Stack.length) r4 k4 (k4+1) r5 (upI k5 x.Turns.length)],?_,by simp;omega,?_⟩,fun y hy=>i3 y (by simp[hy]),by show k≤k5+_;omega,by show k5+_+_≤_;omega⟩
    ·show z.set j _=_;rw[i1,ZpR _ _ (by omega),hp,ZpJ];simp
    ·exact ChP.snoc (ZnQ (by omega) (by omega) d1 (by omega) d2 (by omega) d3 (by omega) d4 (by omega) d5 (by omega) d6 (by omega)) i6)
   (fun a⟨⟨pre,j1,j2,j3⟩,_,i4,i5⟩=>by
    have hd:decide ((l.length:Int)<len l)=false:=by rw[Zb];simp
    simp only[hd,Zo9,ZoG];rw[ZpD]at j1
    exact⟨_,rfl,by show 0≤a.1;omega,by show ChP k a.2 a.1;rw[j1];exact j3,by show a.2.length=_;rw[j1];simpa using j2⟩) (a:=(k,l)) ⟨⟨[],rfl,by simp,rfl⟩,hk,by show k≤k;omega,by show k+_≤_;omega⟩ (Yb (by omega))
 rw[show((0:Nat):Int)=0 from rfl]at g1;rw[g1];exact⟨_,_,rfl,g2,ZmE g3 (by omega)⟩
theorem Zla{l:List D.Path}(hl:l.length≤1048576)(hk:∀x∈l,fineP x):Zas fuel l=some l:=by
 unfold Zas;rw[Zb,show(l.length:Int)=len l from(Zb l).symm,mk?_len (by unfold room;omega)];simp only[Zo8];obtain⟨r,g1,g2⟩:=ZT (l:=l) (n:=fuel) (σ:=List D.Path) (ρ:=List D.Path) (B:=fun(s1:Int×(List D.Path))=>if(decide (s1.1<(len l)))then(get? l s1.1).bind fun x2=>(Zaj fuel x2).bind fun x3=>(set? s1.2 s1.1 x3).bind fun x4=>some (.inl ((w64 (s1.1+1)),x4))else some (.inr (s1.2))) (fun k(a:List D.Path)=>((k:Int),a)) (fun ys a=>∃pre zs,pre++ys=l∧a=pre++zs∧zs.length=ys.length) (fun r=>r=l)
  (fun k x xs a hk' hx hlen⟨pre,zs,i1,i2,i3⟩=>by
   have hd:decide ((k:Int)<len l)=true:=by rw[Zb];simp;omega
   have hp:pre.length=k:=by
    have:=congrArg List.length i1;simp at this hlen;omega
   simp only[hd,ZoO,get?_nat,hx,Zo8,Zmq (hk x (Zpd hx))];obtain⟨z,zs,rfl⟩:∃z zs',zs=z::zs':=by cases zs with|nil=>simp at i3|cons z zs=>exact⟨_,_,rfl⟩
   rw[set?_nat (by rw[i2];simp;omega)];refine .inl ⟨a.set k x,by simp only[Zo8];rw[Zm (by omega) (by omega)];rfl,pre++[x],zs,by rw[ZpI];exact i1,?_,by simpa using i3⟩
   rw[i2,ZpR _ _ (by omega),hp,ZpJ];simp)
  (fun a⟨pre,zs,i1,i2,i3⟩=>by
   have hd:decide ((l.length:Int)<len l)=false:=by rw[Zb];simp
   simp only[hd,Zo9,ZoG];simp at i3;subst i3;rw[ZpD]at i1 i2
   exact⟨_,rfl,by rw[i2,i1]⟩) (a:=List.replicate l.length _) ⟨[],_,rfl,by simp;rfl,by simp⟩ (Yb hl)
 rw[show((0:Nat):Int)=0 from rfl]at g1;rw[g1,g2];rfl
theorem Zmz{p:D.Program}(h:progB p=true):0≤p.In∧p.In≤3:=by
 unfold progB at h;simp only[ZoB,ZoJ]at h;exact h.1.1.2
def vn(k:Nat):Str:=⟨[105,UInt8.ofNat (48+k)]⟩
def vals(w:Int)(l:List Int):List D.Value:=l.mapIdx fun k x=>⟨vn k,w,x⟩
end Go.Proofs.YtbidabmbbieeiacGreatDoor
end
section
namespace Go.Proofs.YtbidabmbbieeiacGreatDoor
open Go.GL
set_option linter.unusedSimpArgs false
set_option maxRecDepth 100000
mutual
def aV(A:Str→Int→Prop):D.Term→Prop
 |⟨o,w,_,s,k⟩=>(o=22→k=[]→A s w)∧aVs A k
def aVs(A:Str→Int→Prop):List D.Term→Prop
 |[]=>True
 |x::l=>aV A x∧aVs A l
end
section
variable{A:Str→Int→Prop}{α β:Type}
theorem ZnK(t:D.Term):aV A t↔(t.Op=22→t.Kids=[]→A t.Name t.W)∧aVs A t.Kids:=by cases t;rw[aV]
theorem Zh9:∀l:List D.Term,aVs A l↔∀x∈l,aV A x
 |[]=>by rw[aVs];simp
 |x::l=>by rw[aVs,Zh9 l];simp
theorem ZmU{t:D.Term}(h:aV A t):∀x∈t.Kids,aV A x:=(Zh9 _).1 ((ZnK t).1 h).2
theorem ZnH{o w m:Int}{s:Str}{x:D.Term}{l:List D.Term}(h:∀y∈x::l,aV A y):aV A ⟨o,w,m,s,x::l⟩:=by
 rw[aV];exact⟨fun _ e=>(List.cons_ne_nil _ _ e).elim,(Zh9 _).2 h⟩
theorem ZeF{o w m:Int}{s:Str}(h:o=0):aV A ⟨o,w,m,s,[]⟩:=by
 rw[aV,aVs];exact⟨fun e=>by omega,trivial⟩
def Po(Q:α→Prop)(e:Option α):Prop:=∀r,e=some r→Q r
theorem Po.b{Q:β→Prop}{e:Option α}{f:α→Option β}(R:α→Prop)(h1:Po R e)(h2:∀x,R x→Po Q (f x)):Po Q (e.bind f):=fun r h=>by
 obtain⟨x,e1,e2⟩:=Zp3.1 h;exact h2 x (h1 x e1) r e2
theorem Po.n{Q:β→Prop}{e:Option α}{f:α→Option β}(h2:∀x,Po Q (f x)):Po Q (e.bind f):=fun r h=>by
 obtain⟨x,e1,e2⟩:=Zp3.1 h;exact h2 x r e2
theorem Po.i{Q:α→Prop}{c:Prop}[Decidable c]{a b:Option α}(h1:Po Q a)(h2:Po Q b):Po Q (if c then a else b):=by
 split
 ·exact h1
 ·exact h2
theorem Po.s{Q:α→Prop}{x:α}(h:Q x):Po Q (some x):=fun r e=>by cases e;exact h
theorem Po.kid{t:D.Term}{n:Int}(h:aV A t):Po (aV A) (get? t.Kids n):=fun r e=>ZmU h r (Zpd (get?_at e))
theorem Po.con{w v:Int}:Po (fun x:D.Term=>x.Op=0) (Z9 w v):=by
 unfold Z9;exact .n fun _=>.i (.s rfl) (.s rfl)
def AB(A:Str→Int→Prop):α⊕D.Term→Prop
 |.inl _=>True
 |.inr t=>aV A t
theorem Po.l{s:α}:Po (AB A) (some (.inl s:α⊕D.Term)):=fun r e=>by cases e;exact True.intro
theorem Po.r{t:D.Term}(h:aV A t):Po (AB A) (some (.inr t:α⊕D.Term)):=fun r e=>by cases e;exact h
structure RedV(A:Str→Int→Prop)(n:Nat):Prop where
 red:∀t,aV A t→Po (aV A) (ZE n t)
 rem:∀o w m x l,(∀y∈x::l,aV A y)→Po (aV A) (Zo n o w m (x::l))
 bin:∀t,aV A t→Po (aV A) (Za n t)
 fst:∀o w a b,aV A b→Po (fun r=>aV A r.1) (Zu n o w a b)
 rif:∀t,aV A t→Po (aV A) (ZW n t)
 cut:∀t,aV A t→Po (aV A) (ZR n t)
 wid:∀t,aV A t→Po (aV A) (Yg n t)
 joi:∀t,aV A t→Po (aV A) (Yd n t)
theorem all1{a:D.Term}(h:aV A a):∀y∈[a],aV A y:=fun y hy=>by rw[ZoM]at hy;exact hy▸h
theorem all2{a b:D.Term}(h:aV A a)(h':aV A b):∀y∈[a,b],aV A y:=fun y hy=>by
 rcases Zpc.1 hy with rfl|hy
 ·exact h
 ·exact all1 h' y hy
theorem all3{a b c:D.Term}(h:aV A a)(h':aV A b)(h'':aV A c):∀y∈[a,b,c],aV A y:=fun y hy=>by
 rcases Zpc.1 hy with rfl|hy
 ·exact h
 ·exact all2 h' h'' y hy
theorem redV:∀n,RedV A n:=by
 intro n
 induction n with
 |zero=>
  refine⟨fun t _=>?_,fun _ _ _ _ _ _=>?_,fun t _=>?_,fun _ _ _ _ _=>?_,fun t _=>?_,fun t _=>?_,fun t _=>?_,fun t _=>?_⟩
  ·unfold ZE;exact fun _ h=>by cases h
  ·unfold Zo;exact fun _ h=>by cases h
  ·unfold Za;exact fun _ h=>by cases h
  ·unfold Zu;exact fun _ h=>by cases h
  ·unfold ZW;exact fun _ h=>by cases h
  ·unfold ZR;exact fun _ h=>by cases h
  ·unfold Yg;exact fun _ h=>by cases h
  ·unfold Yd;exact fun _ h=>by cases h
 | succ n ih=>
  have R:∀{o w m x l},(∀y∈x::l,aV A y)→Po (aV A) ((Zo n o w m (x::l)).bind fun y=>some y):=fun h=>.b _ (ih.rem _ _ _ _ _ h) fun _ h=>.s h;refine⟨fun t h=>?_,fun o w m x l h=>?_,fun t h=>?_,fun o w a b h=>?_,fun t h=>?_,fun t h=>?_,fun t h=>?_,fun t h=>?_⟩
  ·unfold ZE;refine .i (.s h) (.n fun r=>.i (.n fun _=>.b _ .con fun x hx=>.s (ZeF hx)) (.i (.b _ ?_ fun _ h=>.s h) (.i (.b _ (ih.rif t h) fun _ h=>.s h) (.i (.b _ (ih.cut t h) fun _ h=>.s h) (.i (.b _ (ih.wid t h) fun _ h=>.s h) (.i (.b _ (ih.joi t h) fun _ h=>.s h) (.b _ (ih.bin t h) fun _ h=>.s h)))))));unfold YQ;exact .b _ (.kid h) fun x1 a1=>.i (.b _ (.kid a1) fun _ h=>.s h) (.s h)
  ·unfold Zo;exact .b _ (ih.red _ (ZnH h)) fun _ h=>.s h
  ·unfold Za;refine .b _ (.kid h) fun x1 a1=>.b _ (.kid h) fun x2 a2=>.n fun _=>.n fun _=>.i (R (all2 a2 a1)) (.n fun x6=>.b (AB A) (.i (.b _ (ih.fst _ _ x1 x2 a2) fun x7 a7=>.i (.r a7) .l) .l) fun rl1 b1=>?_);cases rl1 with
   |inr v=>exact .s b1
   | inl s1=>
    refine .n fun x8=>.b (AB A) (.i (.b (AB A) (.i .l (.i .l .l)) fun rl3 b3=>?_) .l) fun rl2 b2=>?_
    ·cases rl3 with
     |inr v=>exact .r b3
     |inl s3=>exact .i (.r a1) (.i (.b _ .con fun x hx=>.r (ZeF hx)) .l)
    ·cases rl2 with
     |inr v=>exact .s b2
     | inl s2=>
      refine .n fun x10=>.b (AB A) (.i (.i (.r a1) (.b (AB A) (.i .l (.i .l .l)) fun rl5 b5=>?_)) .l) fun rl4 b4=>?_
      ·cases rl5 with
       |inr v=>exact .r b5
       |inl s5=>exact .i (.b _ .con fun x hx=>.r (ZeF hx)) (.i (.b _ .con fun x hx=>.r (ZeF hx)) .l)
      ·cases rl4 with
       |inr v=>exact .s b4
       |inl s4=>exact .n fun _=>.n fun _=>.n fun _=>.n fun _=>.i (.n fun _=>.n fun _=>.b _ .con fun x hx=>.b _ (.kid a2) fun x20 a20=>R (all2 (ZeF hx) a20)) (.s h)
  ·unfold Zu;refine .n fun x1=>.b (fun r=>r.isLeft=true) ?_ fun r hr=>?_
   ·exact .i (.s rfl) (.i (.s rfl) (.i (.s rfl) (.i (.s rfl) (.i (.s rfl) (.s rfl)))))
   ·cases r with
    |inr v=>cases hr
    |inl s=>
     refine .i (.s h) (.b (fun r=>r.isLeft=true) (.i (.s rfl) (.s rfl)) fun r hr=>?_);cases r with
     |inr v=>cases hr
     |inl s=>exact .i (.b _ .con fun x hx=>.s (ZeF hx)) (.i (.b _ .con fun x hx=>.s (ZeF hx)) (.i (.i (.b _ (ih.rem _ _ _ _ _ (all1 h)) fun _ h=>.s h) (.s (ZeF rfl))) (.i (.b _ (ih.rem _ _ _ _ _ (all1 h)) fun _ h=>.s h) (.s (ZeF rfl)))))
  ·unfold ZW;exact .b _ (.kid h) fun x1 a1=>.b _ (.kid h) fun x2 a2=>.b _ (.kid h) fun x3 a3=>.n fun _=>.i (.s a2) (.n fun _=>.i (.s a3) (.n fun _=>.i (.s a2) (.i (.b _ (.kid a1) fun x7 a7=>R (all3 a7 a3 a2)) (.n fun _=>.n fun _=>.i (.s a1) (.n fun _=>.n fun _=>.i (R (all1 a1)) (.s h))))))
  ·unfold ZR;exact .b _ (.kid h) fun x1 a1=>.i (.s a1) (.i (.b _ (.kid a1) fun x2 a2=>R (all1 a2)) (.i (.b _ (.kid a1) fun x4 a4=>.i (R (all1 a4)) (.i (.b _ (.kid a1) fun x6 a6=>R (all1 a6)) (.s h))) (.i (.b _ (.kid a1) fun x8 a8=>.i (.b _ (.kid a1) fun x9 a9=>R (all1 a9)) (.s h)) (.s h))))
  ·unfold Yg;exact .b _ (.kid h) fun x1 a1=>.i (.s a1) (.i (.b _ (.kid a1) fun x2 a2=>R (all1 a2)) (.s h))
  ·unfold Yd;exact .b _ (.kid h) fun x1 a1=>.b _ (.kid h) fun x2 a2=>.n fun _=>.n fun _=>.n fun _=>.i (.b _ (.kid a2) fun x6 a6=>R (all1 a6)) (.s h)
theorem Zl4{op w m:Int}{x:D.Term}{l:List D.Term}(h:∀y∈x::l,aV A y)(hm:(mkT op w m (x::l)).2=true):aV A (mkT op w m (x::l)).1:=by
 unfold mkT at hm⊢;split at hm
 ·rename_i hb;rw[ZoD hb];have hf:=ZeA hb;exact(redV fuel).red _ (ZnH h) _ (ZdY hf.1 hf.2).2.2.2.1
 ·cases hm
theorem ZnR:∀n:Nat,(∀t:D.Term,msz t<n→nodeB t=true→aV A t→∀v∈vrs t,A v.1 v.2)∧∀l:List D.Term,l.length+mszs l<n→nodesB l=true→aVs A l→∀v∈vrss l,A v.1 v.2:=by
 intro n
 induction n with
 |zero=>exact⟨fun t h=>by omega,fun l h=>by omega⟩
 | succ n ih=>
  have hL:∀l:List D.Term,l.length+mszs l<n+1→nodesB l=true→aVs A l→∀v∈vrss l,A v.1 v.2:=fun l hl hb h v hv=>by
   cases l with
   |nil=>rw[Zdp]at hv;cases hv
   |cons x l=>
    rw[ZcN,ZoZ]at hv;rw[aVs]at h;rw[Xj,ZoP]at hl;rw[Yc,ZoK]at hb;rcases hv with hv|hv
    ·exact ih.1 x (by omega) (hb x (by simp)) h.1 v hv
    ·exact ih.2 l (by omega) (by rw[Yc,ZoK];exact fun y hy=>hb y (by simp[hy])) h.2 v hv
  refine⟨fun t ht hb h v hv=>?_,hL⟩;have hz:=ZaV t;have hn:=hb;rw[X6,ZoB]at hb;rw[ZnK]at h;rw[ZeM]at hv;by_cases ho:t.Op=22
  ·rw[ZoD ho,ZoM]at hv;subst hv;refine h.1 ho ?_;rcases ZgX hb.1 with h|h|h|h|h|h|h|h
   ·omega
   ·exact h.2
   all_goals omega
  ·rw[ZoC ho]at hv;exact hL t.Kids (by omega) hb.2 h.2 v hv
end
end Go.Proofs.YtbidabmbbieeiacGreatDoor
end
section
namespace Go.Proofs.YtbidabmbbieeiacGreatDoor
open Go.GL
set_option linter.unusedSimpArgs false
set_option maxRecDepth 100000
section
variable{A:Str→Int→Prop}
def aL(A:Str→Int→Prop)(l:List D.Term):Prop:=∀t∈l,aV A t
theorem ZcJ{op w m:Int}{x:D.Term}{l:List D.Term}(h:∀y∈x::l,aV A y):aV A (mkT op w m (x::l)).1:=by
 cases hb:(mkT op w m (x::l)).2
 ·rw[ZnU hb];exact ZeF rfl
 ·exact Zl4 h hb
theorem ZlL{w v:Int}:aV A (kT w v):=ZeF rfl
theorem Zfh:aV A t0:=ZeF rfl
theorem Zci{l:List D.Term}(h:aL A l)(k:Int):aV A (rg l k):=by
 unfold rg;cases hk:l[k.toNat]? with
 |none=>exact Zfh
 |some x=>exact h x (Zpd hk)
theorem Zls{w k:Int}{x a b:D.Term}(hx:aV A x)(ha:aV A a)(hb:aV A b):aV A (cel w k x a b).1:=by
 unfold cel;split
 ·exact ZcJ (all3 (ZcJ (all2 ZlL hx)) ha hb)
 ·exact Zfh
theorem Zmf{w:Int}{x:D.Term}{mem:List D.Term}(hx:aV A x)(hm:aL A mem):∀(j:Nat)(t:D.Term),aV A t→aV A (ldT w x mem j t).1
 |0,t,h=>by unfold ldT;exact h
 |j+1,t,h=>by
  unfold ldT;split
  ·exact Zmf hx hm j _ (Zls hx (Zci hm _) h)
  ·exact Zfh
theorem Zn5{w:Int}{mem:List D.Term}{x:D.Term}(hm:aL A mem)(hx:aV A x):aV A (load w mem x).1:=by
 unfold load;split
 ·exact Zci hm _
 ·exact Zmf hx hm _ _ (Zci hm _)
theorem ZdK{l:List D.Term}{k:Nat}{t:D.Term}(h:aL A l)(ht:aV A t):aL A (l.set k t):=fun x hx=>by
 rcases Zqg hx with hx|rfl
 ·exact h x hx
 ·exact ht
theorem Zh5{l:List D.Term}{t:D.Term}(h:aL A l)(ht:aV A t):aL A (l++[t]):=fun x hx=>by
 rcases ZoZ.1 hx with hx|hx
 ·exact h x hx
 ·rw[ZoM]at hx;subst hx;exact ht
theorem ZdP:aL A []:=fun _ h=>by cases h
theorem Zl2{w:Int}{x v:D.Term}(hx:aV A x)(hv:aV A v):∀(l:List D.Term)(i:Nat),aL A l→aL A (stG w x v i l).1
 |[],i,_=>by unfold stG;exact ZdP
 | t::l,i,h=>by
  unfold stG;split
  ·intro y hy;rcases Zpc.1 hy with rfl|hy
   ·exact Zls hx hv (h t (by simp))
   ·exact Zl2 hx hv l (i+1) (fun z hz=>h z (by simp[hz])) y hy
  ·exact ZdP
theorem Zmc{w:Int}{mem:List D.Term}{x v:D.Term}(hm:aL A mem)(hx:aV A x)(hv:aV A v):aL A (store w mem x v).1:=by
 unfold store;split
 ·exact ZdK hm hv
 ·split
  ·exact Zl2 hx hv _ _ hm
  ·exact ZdP
theorem Zoc{p:D.Program}{c:Int}{a b:D.Term}(ha:aV A a)(hb:aV A b):aV A (opd p c a b).1:=by
 unfold opd;split
 ·exact ZcJ (all1 (ZcJ (all2 ha hb)))
 ·exact ZcJ (all2 ha hb)
theorem ZlP{p:D.Program}{x:D.Term}(hx:aV A x):aV A (qze p x).1:=ZcJ (all2 ZlL hx)
theorem Zly{p:D.Program}{x:D.Term}(hx:aV A x):aV A (qad p x).1:=by
 unfold qad;split
 ·exact ZcJ (all1 (ZcJ (all2 hx ZlL)))
 ·exact Zfh
theorem Zok{p:D.Program}{rs:List D.Term}{i:D.Ins}(h:aL A rs):aV A (qst p rs i).1:=by
 unfold qst;split
 ·exact ZlP (Zci h _)
 ·split
  ·split
   ·exact ZlP (Zci h _)
   ·exact Zfh
  ·split
   ·exact Zly (Zci h _)
   ·split
    ·exact Zly (Zci h _)
    ·exact Zfh
structure vP(A:Str→Int→Prop)(s:D.Path):Prop where
 rg:aL A s.Regs
 mm:aL A s.Mem
 ot:aL A s.Out
 cd:aL A s.Cond
theorem ZnY{p:D.Program}{s:D.Path}{i:D.Ins}(h:vP A s)(h5:i.Op=5→aV A (inT p.W s.In)):vP A (flw p s i).1:=by
 unfold flw;by_cases c1:i.Op=1
 ·rw[ZoD c1];exact⟨ZdK h.rg ZlL,h.mm,h.ot,h.cd⟩
 rw[ZoC c1];by_cases c2:i.Op=2
 ·rw[ZoD c2];exact⟨ZdK h.rg (Zci h.rg _),h.mm,h.ot,h.cd⟩
 rw[ZoC c2];by_cases c3:i.Op=3
 ·rw[ZoD c3];exact⟨ZdK h.rg (Zoc (Zci h.rg _) (Zci h.rg _)),h.mm,h.ot,h.cd⟩
 rw[ZoC c3];by_cases c4:i.Op=4
 ·rw[ZoD c4];exact⟨ZdK h.rg (ZcJ (all1 (Zci h.rg _))),h.mm,h.ot,h.cd⟩
 rw[ZoC c4];by_cases c5:i.Op=5
 ·rw[ZoD c5];exact⟨ZdK h.rg (h5 c5),h.mm,h.ot,h.cd⟩
 rw[ZoC c5];by_cases c6:i.Op=6
 ·rw[ZoD c6];exact⟨h.rg,h.mm,Zh5 h.ot (Zci h.rg _),h.cd⟩
 rw[ZoC c6];by_cases c7:i.Op=7
 ·rw[ZoD c7];exact⟨ZdK h.rg (Zn5 h.mm (Zci h.rg _)),h.mm,h.ot,h.cd⟩
 rw[ZoC c7];by_cases c8:i.Op=8
 ·rw[ZoD c8];exact⟨h.rg,Zmc h.mm (Zci h.rg _) (Zci h.rg _),h.ot,h.cd⟩
 rw[ZoC c8]
 repeat' split
 all_goals exact⟨h.rg,h.mm,h.ot,h.cd⟩
theorem ZnP{s:D.Path}{i:D.Ins}(h:vP A s):vP A (nmd s i):=by
 unfold nmd
 repeat' split
 all_goals exact⟨h.rg,h.mm,h.ot,h.cd⟩
theorem Zos{p:D.Program}{s:D.Path}{i:D.Ins}(h:vP A s)(h5:i.Op=5→aV A (inT p.W s.In)):∀x∈dvd p s i,vP A x:=by
 have one:∀{y x:D.Path},x∈[y]→vP A y→vP A x:=fun hx h=>by rw[ZoM]at hx;subst hx;exact h
 have hq:=Zok (p:=p) (i:=i) h.rg;have hf:=ZnY (p:=p) (i:=i) h h5;have hn:=ZnP (i:=i) h;intro x hx;unfold dvd at hx;split at hx
 ·exact one hx ⟨h.rg,h.mm,h.ot,h.cd⟩
 ·split at hx
  ·exact one hx hn
  ·split at hx
   ·exact one hx ⟨h.rg,h.mm,h.ot,h.cd⟩
   ·split at hx
    ·exact one hx hf
    ·split at hx
     ·exact one hx ⟨h.rg,h.mm,h.ot,h.cd⟩
     ·rcases Zpc.1 hx with rfl|hx
      ·exact⟨hn.rg,hn.mm,hn.ot,Zh5 h.cd hq⟩
      ·exact one hx ⟨hf.rg,hf.mm,hf.ot,Zh5 h.cd (ZcJ (all1 hq))⟩
end
def InV(p:D.Program)(nm:Str)(w:Int):Prop:=∃k:Nat,(k:Int)<p.In∧nm=vn k∧w=p.W
theorem Zol{p:D.Program}{k:Int}(h0:0≤k)(h1:k<p.In)(h3:p.In≤3):aV (InV p) (inT p.W k):=by
 unfold inT;rw[aV,aVs];refine⟨fun _ _=>⟨k.toNat,by omega,?_,rfl⟩,trivial⟩;have hk:k=0∨k=1∨k=2:=by omega
 rcases hk with rfl|rfl|rfl<;>decide
theorem Zon{p:D.Program}{s:D.Path}(hp:progB p=true)(hs:okP p s)(h:vP (InV p) s):∀x∈stp1 p s,vP (InV p) x:=by
 intro x hx;unfold stp1 at hx;by_cases c1:s.Code≠0∨s.Steps=400
 ·rw[ZoD c1]at hx;cases hx
 rw[ZoC c1]at hx;by_cases c2:s.Pc=len p.Code
 ·rw[ZoD c2,ZoM]at hx;subst hx;exact⟨h.rg,h.mm,h.ot,h.cd⟩
 rw[ZoC c2]at hx;by_cases c3:stk p {s with Steps:=s.Steps+1} (insAt p s.Pc)=0
 ·rw[ZoC (fun h=>h c3)]at hx;refine Zos (s:={s with Steps:=s.Steps+1}) ⟨h.rg,h.mm,h.ot,h.cd⟩ (fun c5=>?_) x hx;have h5:s.In≠p.In:=fun e=>by unfold stk at c3;rw[ZoD ⟨c5,e⟩]at c3;cases c3
  have:=hs.inn;exact Zol this.1 (by show s.In<p.In;omega) (Zmz hp).2
 ·rw[ZoD c3,ZoM]at hx;subst hx;exact⟨h.rg,h.mm,h.ot,h.cd⟩
theorem Zga{w:Int}:∀(l g:List (Str×Int)),(∀s v,g.lookup s=some v→v=w)→(∀q∈l,q.2=w)→(runV g l).isSome=true
 |[],g,_,_=>rfl
 | q::l,g,hg,hl=>by
  unfold runV stp;have hq:=hl q (by simp);cases e:g.lookup q.1 with
  |some v=>
   simp only;rw[ZoD ((hg _ _ e).trans hq.symm),Zo8];exact Zga l g hg fun y hy=>hl y (by simp[hy])
  |none=>
   rw[Zo8];refine Zga l (q::g) (fun s v h=>?_) fun y hy=>hl y (by simp[hy]);rw[Zpl]at h;split at h
   ·exact(Option.some.inj h).symm.trans hq
   ·exact hg _ _ h
theorem Znl{p:D.Program}{t:D.Term}(hf:fine t)(ha:aV (InV p) t):∀q∈vrs t,InV p q.1 q.2:=(ZnR (msz t+1)).1 t (by omega) hf.1 ha
theorem Zml{p:D.Program}{t:D.Term}(hf:fine t)(ha:aV (InV p) t):termB t=true:=by
 unfold termB
 rw[hf.1,Zga (w:=p.W) (vrs t) [] (fun s v h=>by cases h) fun q hq=>by
  obtain⟨k,_,_,e⟩:=Znl hf ha q hq
  exact e]
 simp[hf.2]
structure gP(p:D.Program)(s:D.Path):Prop where
 ok:okP p s
 vs:vP (InV p) s
 tn:∀x∈s.Turns,0≤x∧x≤1
theorem ZhM{p:D.Program}{w:Int}{l:List D.Term}(hf:fw w l)(ha:aL (InV p) l):tsB l w=true:=by
 unfold tsB;rw[ZoK];intro t ht;rw[Zml (hf t ht).1 (ha t ht),(hf t ht).2];simp
theorem gP.path{p:D.Program}{s:D.Path}(hp:progB p=true)(h:gP p s):pathB p s=true:=by
 have k:=h.ok;unfold pathB;have e1:(s.Stack.all fun x=>decide (0≤x∧x≤len p.Code))=true:=ZoK.2 fun x hx=>by simpa using k.sp x hx
 have e2:(s.Turns.all fun x=>decide (0≤x∧x≤1))=true:=ZoK.2 fun x hx=>by simpa using h.tn x hx
 rw[hp,e1,e2,ZhM k.rf h.vs.rg,ZhM k.mf h.vs.mm,ZhM k.of h.vs.ot,ZhM k.cf h.vs.cd];have a1:=k.pc;have a2:=k.rl;have a3:=k.ml;have a4:=k.sl;have a5:=k.inn;have a6:=k.ol;have a7:=k.cd;have a8:=k.st;have a9:=k.cl;have a10:=k.tl;simp only[Zb]at a1⊢;simp only[Zpz,Zpa,ZoB,ZoJ,Zpf]
 and_intros<;>first|exact decide_eq_true (by omega)|omega|trivial
theorem ZmC(p:D.Program)(s:D.Path)(i:D.Ins):(flw p s i).1.Cond=s.Cond∧(flw p s i).1.Turns=s.Turns:=by
 have h:=Ze5 (p:=p) (s:=s) (i:=i) (c:=s.Cond) (t:=s.Turns);exact⟨congrArg (fun q:D.Path×Bool=>q.1.Cond) h,congrArg (fun q:D.Path×Bool=>q.1.Turns) h⟩
theorem Zmw(s:D.Path)(i:D.Ins):(nmd s i).Cond=s.Cond∧(nmd s i).Turns=s.Turns:=by
 have h:=ZhS (s:=s) (i:=i) (c:=s.Cond) (t:=s.Turns);have h1:=congrArg D.Path.Cond h;have h2:=congrArg D.Path.Turns h;exact⟨h1,h2⟩
theorem Zkq{p:D.Program}{s:D.Path}{i:D.Ins}:(∃t,dvd p s i=[t]∧t.Cond=s.Cond∧t.Turns=s.Turns)∨
  ∃t u c,dvd p s i=[t,u]∧t.Cond=s.Cond++[c]∧u.Cond=s.Cond++[(mkT 1 1 0 [c]).1]∧t.Turns=s.Turns++[1]∧u.Turns=s.Turns++[0]∧fine c∧c.W=1∧c.Op≠0∧(mkT 1 1 0 [c]).2=true:=by
 unfold dvd;split
 ·exact .inl ⟨_,rfl,rfl,rfl⟩
 rename_i q1;split
 ·exact .inl ⟨_,rfl,Zmw s i⟩
 split
 ·exact .inl ⟨_,rfl,rfl,rfl⟩
 split
 ·exact .inl ⟨_,rfl,ZmC p s i⟩
 rename_i q4;split
 ·exact .inl ⟨_,rfl,rfl,rfl⟩
 rename_i q5;have q1':(qst p s.Regs i).2.2=true:=by simpa using q1
 have q6:(mkT 1 1 0 [(qst p s.Regs i).1]).2=true∧s.Cond.length≠60∧s.Turns.length≠60:=by simpa using q5
 have ha:(qst p s.Regs i).2.1=true:=by
  cases h:(qst p s.Regs i).2.1
  ·exact absurd (.inl h) q4
  ·rfl
 have hf:=Zel ha q1';exact .inr ⟨_,_,(qst p s.Regs i).1,rfl,rfl,rfl,rfl,rfl,hf.1,hf.2,fun h=>q4 (.inr h),q6.1⟩
theorem ZkF{p:D.Program}{s:D.Path}:stp1 p s=[]∨(∃t,stp1 p s=[t]∧t.Cond=s.Cond∧t.Turns=s.Turns)∨
  ∃t u c,stp1 p s=[t,u]∧t.Cond=s.Cond++[c]∧u.Cond=s.Cond++[(mkT 1 1 0 [c]).1]∧t.Turns=s.Turns++[1]∧u.Turns=s.Turns++[0]∧fine c∧c.W=1∧c.Op≠0∧(mkT 1 1 0 [c]).2=true:=by
 unfold stp1;split
 ·exact .inl rfl
 split
 ·exact .inr (.inl ⟨_,rfl,rfl,rfl⟩)
 split
 ·exact .inr (.inl ⟨_,rfl,rfl,rfl⟩)
 ·exact .inr (Zkq (s:={s with Steps:=s.Steps+1}))
theorem gP.step{p:D.Program}{s:D.Path}(hp:progB p=true)(h:gP p s):∀x∈stp1 p s,gP p x:=by
 intro x hx;refine⟨Zob hp h.ok x hx,Zon hp h.ok h.vs x hx,?_⟩;have app:∀k:Int,0≤k∧k≤1→∀y∈s.Turns++[k],0≤y∧y≤1:=fun k hk y hy=>by
  rcases ZoZ.1 hy with hy|hy
  ·exact h.tn y hy
  ·rw[ZoM]at hy;subst hy;exact hk
 rcases ZkF (p:=p) (s:=s)with e|⟨t,e,-,e2⟩|⟨t,u,c,e,-,-,e3,e4,-⟩
 ·rw[e]at hx;cases hx
 ·rw[e,ZoM]at hx;subst hx;rw[e2];exact h.tn
 ·rw[e]at hx;rcases Zpc.1 hx with rfl|hx
  ·rw[e3];exact app 1 (by omega)
  ·rw[ZoM]at hx;subst hx;rw[e4];exact app 0 (by omega)
end Go.Proofs.YtbidabmbbieeiacGreatDoor
end
