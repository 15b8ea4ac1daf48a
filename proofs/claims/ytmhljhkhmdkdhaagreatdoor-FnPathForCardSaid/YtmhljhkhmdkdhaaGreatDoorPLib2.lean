/- Texts of this claim put into one: library or plain laws, without the program under test. -/
import Derived.Test.YtmhljhkhmdkdhaaGreatDoorPLib1
import Derived.Lib.ItoaNum
set_option linter.unusedSimpArgs false
set_option linter.unusedVariables false
set_option linter.defProp false
section
namespace Go.Proofs.YtmhljhkhmdkdhaaGreatDoor
open Go.GL
set_option maxRecDepth 100000
structure insF(w n:Int)(i:D.Ins):Prop where
 op:1<=i.Op/\i.Op<=14
 a:i.Op≠9->i.Op≠11->i.Op≠12->i.Op≠14->0<=i.A/\i.A<4
 b:i.Op=2\/i.Op=3\/i.Op=7\/i.Op=8->0<=i.B/\i.B<4
 v:i.Op=1->wordB w i.B=true
 c:i.Op=3->3<=i.C/\i.C<=16
 t:i.Op=9\/i.Op=10\/i.Op=11->0<=i.B/\i.B<=n
def DF(a:Int):ZO a=some (decide (0<=a/\a<4)):=by
 unfold ZO Zd;by_cases h:0<=a/\a<4
 ·have h1:=h.1;have h2:a<=3:=by omega
  simp[h1,h2,h]
 ·have:¬(0<=a/\a<=3):=by omega
  simp only[decide_eq_false h,Option.some.injEq];simp;omega
theorem Jo{w n:Int}{i:D.Ins}(h:insB w n i=true):insF w n i:=by
 unfold insB Ym Zd at h;simp only[DF,Yq,Cm]at h;by_cases c:1<=i.Op/\i.Op<=14
 ·have:i.Op=1\/i.Op=2\/i.Op=3\/i.Op=4\/i.Op=5\/i.Op=6\/i.Op=7\/i.Op=8\/i.Op=9\/i.Op=10\/i.Op=11\/i.Op=12\/i.Op=13\/i.Op=14:=by omega
  rcases this with c|c|c|c|c|c|c|c|c|c|c|c|c|c<;>simp[c,Zd]at h
  all_goals(by_cases ha:0<=i.A/\i.A<4)
  all_goals(by_cases hb:0<=i.B/\i.B<4)
  all_goals(try simp[ha,hb]at h)
  all_goals(first
   |(exfalso;omega)
   |exact⟨by omega,λ_ _ _ _=>by omega,λ_=>by omega,λe=>by first|omega|exact h.1|exact h.2.1|simp_all,λ_=>by omega,λ_=>by omega⟩)
 ·exfalso;have n1:∀k:Int,1<=k->k<=14->i.Op≠k:=λk h1 h2 e=>c O;simp[n1 1,n1 2,n1 3,n1 4,n1 5,n1 6,n1 7,n1 8,n1 9,n1 10,n1 11,n1 12,n1 13,n1 14]at h
def Pk{p:D.Program}(hp:progB p=true){i:D.Ins}(hi:i∈p.Code):insF p.W p.Code.length i:=by
 unfold progB at hp;simp only[Co,Cs]at hp;exact Jo (hp.2 i hi)
noncomputable def qad(p:D.Program)(x:D.Term):D.Term×Bool×Bool:=
 if(mkT 15 1 0 [x,kT p.W p.Mem]).2=true then((mkT 1 1 0 [(mkT 15 1 0 [x,kT p.W p.Mem]).1]).1,true,(mkT 1 1 0 [(mkT 15 1 0 [x,kT p.W p.Mem]).1]).2)else(t0,true,false)
noncomputable def qze(p:D.Program)(x:D.Term):D.Term×Bool×Bool:=((mkT 14 1 0 [kT p.W 0,x]).1,true,(mkT 14 1 0 [kT p.W 0,x]).2)
noncomputable def qst(p:D.Program)(rs:List D.Term)(i:D.Ins):D.Term×Bool×Bool:=
 if i.Op=10\/i.Op=13 then qze p (rg rs i.A)
 else if i.Op=3 then(if i.C=6\/i.C=7 then qze p (rg rs i.B)else(t0,false,true))
 else if i.Op=7 then qad p (rg rs i.B)
 else if i.Op=8 then qad p (rg rs i.A)
 else(t0,false,true)
def VZ{p:D.Program}(hp:progB p=true):wordB p.W 0=true:=Ui hp O (by have:=ZX hp;omega)
def Mt{p:D.Program}(hp:progB p=true){x:D.Term}(hx:fine x):Zy fuel 14 1 0 [⟨0,p.W,0,⟨[]⟩,[]⟩,x]=some ((qze p x).1,(qze p x).2.2):=Vt (sml2f (Sj (VZ hp)) hx)
def PN{p:D.Program}{s:D.Path}{i:D.Ins}(hp:progB p=true)(hs:okP p s)(hi:insF p.W p.Code.length i):XW fuel p s i=some (qst p s.Regs i):=by
 have hz:=VZ hp;have hm:=(ZX hp).1;have hr:∀k:Int,0<=k/\k<4->get? s.Regs k=some (rg s.Regs k)/\fine (rg s.Regs k):=λk hk=>⟨UX hk.1 az,(TD hs.rf hk.1 az).1⟩;have had:∀x:D.Term,fine x->((Zy fuel 15 1 0 [x,⟨0,p.W,p.Mem,⟨[]⟩,[]⟩]).bind λx8=>if(!x8.2)then some ((D.Term.mk 0 0 0 ⟨[]⟩ ([]:List D.Term)),true,false)else(Zy fuel 1 1 0 ([x8.1]:List D.Term)).bind λx9=>some (x9.1,true,x9.2))=some (qad p x):=by
  intro x hx;have:=Vt (op:=15) (w:=1) (m:=0) (sml2f hx (Sj hm));unfold kT at this;rw[this];simp only[Cm];unfold qad kT;by_cases c:(mkT 15 1 0 [x,⟨0,p.W,p.Mem,⟨[]⟩,[]⟩]).2=true
  ·rw[Cr c,Cu (by rw[c];simp),Vt (sml1f (Xd c).1)];rfl
  ·rw[Cu c,Cr ao];rfl
 unfold XW qst;rw[Yt hz];simp only[Cm];by_cases c1:i.Op=10\/i.Op=13
 ·obtain⟨g,f⟩:=hr i.A (hi.a O O O O);rw[Cr (by simpa using c1),Cr c1,g];simp only[Cm];rw[Mt hp f];rfl
 ·rw [Cu (by simpa using c1),Cu c1]
  by_cases c2:i.Op=3
  ·rw[Cr av,Cr c2];by_cases c3:i.C=6\/i.C=7
   ·obtain⟨g,f⟩:=hr i.B (hi.b O);rw[Cu ab,Cr c3,g];simp only[Cm];rw[Mt hp f];rfl
   ·rw[Cr ab,Cu c3];rfl
  ·rw[Cu av,Cu c2];by_cases c4:i.Op=7
   ·obtain⟨g,f⟩:=hr i.B (hi.b O);rw[Cr (by simpa using c4),Cr c4];simp only[Cm];rw[g,Yt hm];simp only[Cm];exact had _ f
   ·rw[Cu (by simpa using c4),Cu c4];by_cases c5:i.Op=8
    ·obtain⟨g,f⟩:=hr i.A (hi.a O O O O);rw[Cr (by simpa using c5),Cr c5];simp only[Cm];rw[g,Yt hm];simp only[Cm];exact had _ f
    ·rw[Cu (by simpa using c5),Cu c5];rfl
def NT{op w m:Int}{ks:List D.Term}(h:(mkT op w m ks).2=true)(hne:ks≠[])(hl:ks.length<=3)(hc:(ks.all λx=>x.Op==0)=true):∃v,ZE ⟨op,w,m,⟨[]⟩,ks⟩ (ks.map (·.N))=some v/\mkT op w m ks=(kT w v,true):=by
 unfold mkT at h⊢;split at h
 ·rename_i c;rw[Cr c];obtain⟨a,b⟩:=VR c;obtain⟨v,hv,h1,h2⟩:=known a hne hc;refine⟨v,h1,?_⟩;have e:Zu fuel ⟨op,w,m,⟨[]⟩,ks⟩=some (kT w v):=by
   obtain⟨k,hk,hk2⟩:∃k,fuel=k+1/\1000<=k:=⟨fuel-1,by unfold fuel;omega,by unfold fuel;omega⟩;rw[hk,Zu,Cu (by rw[Zb];simpa using hne),TQ (ks:=ks) (n:=k) O O,hc];simp only[Cm,CF,h2 k O,Yt hv];rfl
  unfold simp1;rw[e];rfl
 ·cases h
def Ow{p:D.Program}{x:D.Term}(hp:progB p=true)(hx:fine x)(hw:x.W=p.W)(h0:x.Op=0)(hok:(qad p x).2.2=true)(hn:¬((qad p x).1.Op=0/\(qad p x).1.N=1)):0<=x.N/\x.N<p.Mem:=by
 obtain⟨ex,vx⟩:=Yi hx.1 (by simp[h0]);have hm:=ZX hp;have hx0:0<=x.N:=by
  rw[hw,Zv O O]at vx;omega
 refine⟨hx0,?_⟩;unfold qad at hok hn;split at hok
 ·rename_i c;rw[Cr c]at hn;obtain⟨v,a1,a2⟩:=NT c U U (by simp[h0,kT]);rw[a2]at hok hn;obtain⟨u,b1,b2⟩:=NT hok U U (by simp[kT]);rw[b2]at hn;refine Decidable.byContradiction λhlt=>hn ⟨rfl,?_⟩;have ev:v=0:=by
   have:ZE ⟨15,1,0,⟨[]⟩,[x,kT p.W p.Mem]⟩ ([x,kT p.W p.Mem].map (·.N))=some 0:=by
    have e1:Zw x.W x.N=some true:=by rw[Yq,vx]
    have e2:Zw x.W p.Mem=some true:=by rw[Yq,hw,hm.1]
    simp[ZE,Zd,kT,get?,Z9,e1,e2,YW,hlt]
   rw[this]at a1;exact(Option.some.inj a1).symm
  subst ev;have:ZE ⟨1,1,0,⟨[]⟩,[kT 1 0]⟩ ([kT 1 0].map (·.N))=some 1:=by decide+kernel
  rw[this]at b1;exact(Option.some.inj b1).symm
 ·cases hok
def Rc{p:D.Program}{s:D.Path}{i:D.Ins}(hp:progB p=true)(hs:okP p s)(hi:insF p.W p.Code.length i)(hok:(qst p s.Regs i).2.2=true)(hn:¬((qst p s.Regs i).1.Op=0/\(qst p s.Regs i).1.N=1)):
  (i.Op=7->(rg s.Regs i.B).Op=0->0<=(rg s.Regs i.B).N/\(rg s.Regs i.B).N<p.Mem)/\(i.Op=8->(rg s.Regs i.A).Op=0->0<=(rg s.Regs i.A).N/\(rg s.Regs i.A).N<p.Mem):=by
 constructor
 ·intro c h0;unfold qst at hok hn;rw[ifn,ifn,Cr c]at hok hn;obtain⟨b0,b1⟩:=hi.b O;have:=TD hs.rf b0 az;exact Ow hp this.1 this.2 h0 hok hn
 ·intro c h0;unfold qst at hok hn;rw[ifn,ifn,ifn,Cr c]at hok hn;obtain⟨b0,b1⟩:=hi.a O O O O;have:=TD hs.rf b0 az;exact Ow hp this.1 this.2 h0 hok hn
def rwd(c w:Int):Int:=if 14<=c then 1 else w
def Gy{c w:Int}(hw:1<=w/\w<=16)(hc:1<=c/\c<=16):Xe c w=some (rwd c w):=by
 unfold Xe Zp rwd;have h1:=hw.1;have h2:=hw.2;have h3:¬c<1:=by omega
 have h4:¬16<c:=by omega
 by_cases h:14<=c<;>simp[h1,h2,h3,h4,h]
noncomputable def opd(p:D.Program)(c:Int)(a b:D.Term):D.Term×Bool:=
 if(mkT c (rwd c p.W) 0 [a,b]).2=true/\14<=c then mkT 20 p.W 0 [(mkT c (rwd c p.W) 0 [a,b]).1]else mkT c (rwd c p.W) 0 [a,b]
def IU{p:D.Program}{c:Int}{a b:D.Term}(h:(opd p c a b).2=true):fine (opd p c a b).1/\(opd p c a b).1.W=p.W:=by
 unfold opd at h⊢;split at h
 ·rename_i e;rw[Cr e];exact Xd h
 ·rename_i e;rw[Cu e];have:=Xd h;refine⟨this.1,this.2.trans ?_⟩;unfold rwd;rw[Cu (λh14=>e ⟨h,h14⟩)]
def HY{p:D.Program}{c:Int}{a b:D.Term}(hp:progB p=true)(hc:3<=c/\c<=16)(ha:fine a)(hb:fine b):XO fuel p c a b=some (opd p c a b):=by
 have hm:=ZX hp;unfold XO opd;rw[Gy O O];simp only[Cm];rw[Vt (sml2f ha hb)];simp only[Cm];by_cases h:(mkT c (rwd c p.W) 0 [a,b]).2=true
 ·by_cases h14:14<=c
  ·rw[Cu (by rw[h];simp;omega),Cr ⟨h,h14⟩,Vt (sml1f (Xd h).1)];rfl
  ·rw[Cr (by rw[h];simp;omega),Cu (λe=>h14 e.2)]
 ·rw[Cr (by simp;left;simpa using h),Cu (λe=>h e.1)]
def inT(w k:Int):D.Term:=⟨22,w,0,if k=0 then⟨[105,48]⟩else if k=1 then⟨[105,49]⟩else⟨[105,50]⟩,[]⟩
def FN{p:D.Program}(hp:progB p=true){k:Int}(h0:0<=k)(h2:k<=2):((ZI k).bind λx12=>(cat? ⟨[105]⟩ x12).bind λx13=>Xk fuel p.W x13)=some (inT p.W k):=by
 have hm:=ZX hp;have hw:Zp p.W=some true:=by
  unfold Zp;have h1:1<=p.W:=by omega
  have h2:p.W<=16:=by omega
  simp[h1,h2]
 unfold inT;have:k=0\/k=1\/k=2:=by omega
 have hv:∀s:Str,s.bytes.length<=100->nameB s=true->Xk fuel p.W s=some ⟨22,p.W,0,s,[]⟩:=λs hl hn=>by
  unfold Xk;rw[hw];simp only[Cm,Cz,Cn,Cy];rw[RD O aa,hn];rfl
 rcases this with rfl|rfl|rfl
 ·rw[show ZI 0=some ⟨[48]⟩from by decide+kernel];simp only[Cm];rw[show cat? ⟨[105]⟩ ⟨[48]⟩=some ⟨[105,48]⟩from by decide+kernel];simp only[Cm];rw[hv _ ag aB];rfl
 ·rw[show ZI 1=some ⟨[49]⟩from by decide+kernel];simp only[Cm];rw[show cat? ⟨[105]⟩ ⟨[49]⟩=some ⟨[105,49]⟩from by decide+kernel];simp only[Cm];rw[hv _ ag aB];rfl
 ·rw[show ZI 2=some ⟨[50]⟩from by decide+kernel];simp only[Cm];rw[show cat? ⟨[105]⟩ ⟨[50]⟩=some ⟨[105,50]⟩from by decide+kernel];simp only[Cm];rw[hv _ ag aB];rfl
def Hw{p:D.Program}(hp:progB p=true){k:Int}:fine (inT p.W k)/\(inT p.W k).W=p.W:=by
 have hm:=ZX hp;refine⟨⟨?_,by unfold inT;rw[X3];simp only[X7];omega⟩,rfl⟩;have w1:1<=p.W:=by omega
 have w2:p.W<=16:=by omega
 have hn:nameB (inT p.W k).Name=true:=by
  unfold inT;by_cases c:k=0
  ·simp only[c,CF];decide+kernel
  ·by_cases d:k=1
   ·simp only[d,CF];decide+kernel
   ·simp only[c,d,Cy];decide+kernel
 rw[Yo,Zz];simp only[locB,shB,hn];simp[inT,w1,w2]
def stk(p:D.Program)(s:D.Path)(i:D.Ins):Int:=
 if i.Op=5/\s.In=p.In then 3 else if i.Op=6/\s.Out.length=6 then 4 else if i.Op=11/\s.Stack.length=3 then 7 else if i.Op=12/\s.Stack.length=0 then 7 else 0
noncomputable def flw(p:D.Program)(s:D.Path)(i:D.Ins):D.Path×Bool:=
 if i.Op=1 then({s with Pc:=s.Pc+1,Regs:=s.Regs.set i.A.toNat (kT p.W i.B)},true)
 else if i.Op=2 then({s with Pc:=s.Pc+1,Regs:=s.Regs.set i.A.toNat (rg s.Regs i.B)},true)
 else if i.Op=3 then({s with Pc:=s.Pc+1,Regs:=s.Regs.set i.A.toNat (opd p i.C (rg s.Regs i.A) (rg s.Regs i.B)).1},(opd p i.C (rg s.Regs i.A) (rg s.Regs i.B)).2)
 else if i.Op=4 then({s with Pc:=s.Pc+1,Regs:=s.Regs.set i.A.toNat (mkT 1 p.W 0 [rg s.Regs i.A]).1},(mkT 1 p.W 0 [rg s.Regs i.A]).2)
 else if i.Op=5 then({s with Pc:=s.Pc+1,Regs:=s.Regs.set i.A.toNat (inT p.W s.In),In:=s.In+1},true)
 else if i.Op=6 then({s with Pc:=s.Pc+1,Out:=s.Out++[rg s.Regs i.A]},true)
 else if i.Op=7 then({s with Pc:=s.Pc+1,Regs:=s.Regs.set i.A.toNat (load p.W s.Mem (rg s.Regs i.B)).1},(load p.W s.Mem (rg s.Regs i.B)).2)
 else if i.Op=8 then({s with Pc:=s.Pc+1,Mem:=(store p.W s.Mem (rg s.Regs i.A) (rg s.Regs i.B)).1},(store p.W s.Mem (rg s.Regs i.A) (rg s.Regs i.B)).2)
 else if i.Op=9 then({s with Pc:=i.B},true)
 else if i.Op=11 then({s with Pc:=i.B,Stack:=s.Stack++[s.Pc+1]},true)
 else if i.Op=12 then({s with Pc:=(s.Stack[s.Stack.length-1]?).getD 0,Stack:=s.Stack.take (s.Stack.length-1)},true)
 else if i.Op=14 then({s with Code:=1},true)
 else({s with Pc:=s.Pc+1},true)
def Kw{l:List Int}(h:0<l.length)(h9:l.length<=9):get? l (w64 (len l-1))=some ((l[l.length-1]?).getD 0)/\cut? l 0 (w64 (len l-1))=some (l.take (l.length-1)):=by
 have e:w64 (len l-1)=((l.length-1:Nat):Int):=by rw[Zb,Zf];omega
 rw[e];constructor
 ·rw[get?_nat,Cv O];rfl
 ·unfold cut?;rw[ifp];simp
def FT{l:List Int}(h:l.length<=100):Zi l=some l:=by
 unfold Zi;rw[Km h];rfl
def Mg{p:D.Program}{s:D.Path}{i:D.Ins}(hp:progB p=true)(hs:okP p s)(hi:insF p.W p.Code.length i)(hpc:s.Pc<p.Code.length)(hk:stk p s i=0)
  (h7:i.Op=7->(rg s.Regs i.B).Op=0->0<=(rg s.Regs i.B).N/\(rg s.Regs i.B).N<p.Mem)(h8:i.Op=8->(rg s.Regs i.A).Op=0->0<=(rg s.Regs i.A).N/\(rg s.Regs i.A).N<p.Mem):Wj fuel p s i=some (flw p s i):=by
 have hm:=ZX hp;have hl:=hs.rl;have hcl:(p.Code.length:Int)<=40:=by
  unfold progB at hp;simp only[Co,Cw]at hp;omega
 have hin:=Ro hp;have e1:w64 (s.Pc+1)=s.Pc+1:=Zf (by have:=hs.pc.1;omega) O;have e2:w64 (s.In+1)=s.In+1:=Zf (by have:=hs.inn;omega) (by have:=hs.inn;omega);have hr:∀k:Int,0<=k/\k<4->get? s.Regs k=some (rg s.Regs k)/\fine (rg s.Regs k):=λk hk=>⟨UX hk.1 O,(TD hs.rf hk.1 O).1⟩;have hput:∀t:D.Term,0<=i.A/\i.A<4->Xn s.Regs i.A t=some (s.Regs.set i.A.toNat t):=λt ha=>put_eq O ha.1 O;have hop:=hi.op;have hc:i.Op=1\/i.Op=2\/i.Op=3\/i.Op=4\/i.Op=5\/i.Op=6\/i.Op=7\/i.Op=8\/i.Op=9\/i.Op=10\/i.Op=11\/i.Op=12\/i.Op=13\/i.Op=14:=by omega
 have hA:=hi.a;have hB:=hi.b;unfold Wj flw;rcases hc with c|c|c|c|c|c|c|c|c|c|c|c|c|c<;>simp only[c,Int.reduceBEq,Int.reduceEq,reduceIte,Cn,e1,e2]
 ·rw[Yt (hi.v c)];simp only[Cm];rw[hput _ (hA O O O O)];rfl
 ·rw[(hr _ (hB O)).1];simp only[Cm];rw[hput _ (hA O O O O)];rfl
 ·obtain⟨a1,a2⟩:=hr _ (hA O O O O);obtain⟨b1,b2⟩:=hr _ (hB O);rw[a1,b1];simp only[Cm];rw[HY hp (hi.c c) a2 b2];simp only[Cm];rw[hput _ (hA O O O O)];rfl
 ·obtain⟨a1,a2⟩:=hr _ (hA O O O O);rw[a1];simp only[Cm];rw[Vt (sml1f a2)];simp only[Cm];rw[hput _ (hA O O O O)];rfl
 ·have hk3:s.In≠p.In:=λe=>by unfold stk at hk;rw[Cr ⟨c,e⟩]at hk;cases hk
  have:=FN hp (k:=s.In) hs.inn.1 (by have:=hs.inn.2;omega);have hf:∀{β:Type}(f:D.Term->Option β),((ZI s.In).bind λx12=>(cat? ⟨[105]⟩ x12).bind λx13=>(Xk fuel p.W x13).bind f)=f (inT p.W s.In):=λf=>by
   rw[<-Cm (inT p.W s.In) f,<-this];simp only[Option.bind_assoc]
  rw[hf,hput _ (hA O O O O)];rfl
 ·rw[(hr _ (hA O O O O)).1];simp only[Cm];rw[Np (by have:=hs.ol;omega)];rfl
 ·obtain⟨b1,b2⟩:=hr _ (hB O);rw[b1];simp only[Cm];rw[KY hp hs.ml hs.mf b2 (h7 c)];simp only[Cm];rw[hput _ (hA O O O O)];rfl
 ·obtain⟨a1,a2⟩:=hr _ (hA O O O O);obtain⟨b1,b2⟩:=hr _ (hB O);rw[a1,b1];simp only[Cm];rw[Lm hp hs.ml hs.mf a2 b2 (h8 c)];rfl
 ·rw[OO (by have:=hs.sl;omega)];rfl
 ·have hk0:s.Stack.length≠0:=λe=>by unfold stk at hk;rw[ifn,ifn,ifn,Cr ⟨c,e⟩]at hk;cases hk
  obtain⟨g1,g2⟩:=Kw (l:=s.Stack) O (by have:=hs.sl;omega);rw[g1,g2];simp only[Cm];rw[FT (by simp;have:=hs.sl;omega)];rfl
def MN{p:D.Program}{s:D.Path}{i:D.Ins}(hs:okP p s):Vx p s i=some (stk p s i):=by
 have h1:=hs.inn.2;have h2:=hs.ol;have h3:=hs.sl;unfold Vx stk;by_cases c5:i.Op=5/\s.In=p.In
 ·rw[Cr c5,Cr ab]
 ·rw[Cu c5,Cu ab];by_cases c6:i.Op=6/\s.Out.length=6
  ·rw[Cr c6,Cr ah]
  ·rw[Cu c6,Cu ah];by_cases c11:i.Op=11/\s.Stack.length=3
   ·rw[Cr c11,Cr ah]
   ·rw[Cu c11,Cu ah];by_cases c12:i.Op=12/\s.Stack.length=0
    ·rw[Cr c12,Cr (by rw[Zb,c12.2];simp[c12.1])]
    ·rw[Cu c12,Cu (by rw[Zb];simp only[Co,Bl];omega)]
def EN{w v:Int}(h:wordB w v=true):fine (kT w v)/\(kT w v).W=w:=⟨Sj h,rfl⟩
def Ta{p:D.Program}{s:D.Path}(hs:okP p s)(hpc:s.Pc<p.Code.length){k:Nat}{t:D.Term}(ht:fine t/\t.W=p.W):okP p {s with Pc:=s.Pc+1,Regs:=s.Regs.set k t}:=
 ⟨⟨by have:=hs.pc.1;show 0<=s.Pc+1;omega,by show s.Pc+1<=_;rw[Zb];omega⟩,by show(s.Regs.set k t).length=4;rw[List.length_set,hs.rl],Ig hs.rf ht,hs.ml,hs.mf,hs.sl,hs.sp,hs.inn,hs.ol,hs.of,hs.cd,hs.st,hs.cl,hs.cf,hs.tl⟩
def Hy{p:D.Program}{s:D.Path}{i:D.Ins}(hp:progB p=true)(hs:okP p s)(hi:insF p.W p.Code.length i)(hpc:s.Pc<p.Code.length)(hk:stk p s i=0)
  (h7:i.Op=7->(rg s.Regs i.B).Op=0->0<=(rg s.Regs i.B).N/\(rg s.Regs i.B).N<p.Mem)(hok:(flw p s i).2=true):okP p (flw p s i).1:=by
 have hop:=hi.op;have hl:=hs.rl;have hr:∀k:Int,0<=k/\k<4->fine (rg s.Regs k)/\(rg s.Regs k).W=p.W:=λk hk=>TD hs.rf hk.1 O;have hc:i.Op=1\/i.Op=2\/i.Op=3\/i.Op=4\/i.Op=5\/i.Op=6\/i.Op=7\/i.Op=8\/i.Op=9\/i.Op=10\/i.Op=11\/i.Op=12\/i.Op=13\/i.Op=14:=by omega
 have hA:=hi.a;have hB:=hi.b;have hT:=hi.t;have hn:0<=s.Pc+1/\s.Pc+1<=len p.Code:=⟨by have:=hs.pc.1;omega,by rw[Zb];omega⟩;unfold flw at hok⊢;rcases hc with c|c|c|c|c|c|c|c|c|c|c|c|c|c<;>simp only[c,Int.reduceEq,reduceIte]at hok⊢
 ·exact Ta hs hpc (EN (hi.v c))
 ·exact Ta hs hpc (hr _ (hB O))
 ·exact Ta hs hpc (IU hok)
 ·exact Ta hs hpc (Xd hok)
 ·have h5:s.In≠p.In:=λe=>by unfold stk at hk;rw[Cr ⟨c,e⟩]at hk;cases hk
  have:=Ta hs hpc (k:=i.A.toNat) (Hw hp (k:=s.In));exact⟨this.pc,this.rl,this.rf,this.ml,this.mf,this.sl,this.sp,⟨by have:=hs.inn.1;show 0<=s.In+1;omega,by have:=hs.inn.2;show s.In+1<=p.In;omega⟩,this.ol,this.of,this.cd,this.st,this.cl,this.cf,this.tl⟩
 ·have h6:s.Out.length≠6:=λe=>by unfold stk at hk;rw[ifn,Cr ⟨c,e⟩]at hk;cases hk
  exact⟨hn,hs.rl,hs.rf,hs.ml,hs.mf,hs.sl,hs.sp,hs.inn,by have:=hs.ol;show(s.Out++_).length<=6;rw[Ba];simp;omega,Gx hs.of (hr _ (hA O O O O)),hs.cd,hs.st,hs.cl,hs.cf,hs.tl⟩
 ·exact Ta hs hpc (JI hp hs.ml hs.mf (h7 c) hok)
 ·obtain⟨q1,q2⟩:=LJ (p:=p) (s:=s) hs.mf (hr _ (hB O)) hok;exact⟨hn,hs.rl,hs.rf,by show((store _ _ _ _).1.length:Int)=_;rw[q2];exact hs.ml,q1,hs.sl,hs.sp,hs.inn,hs.ol,hs.of,hs.cd,hs.st,hs.cl,hs.cf,hs.tl⟩
 ·exact⟨by rw[Zb];exact hT O,hs.rl,hs.rf,hs.ml,hs.mf,hs.sl,hs.sp,hs.inn,hs.ol,hs.of,hs.cd,hs.st,hs.cl,hs.cf,hs.tl⟩
 ·exact⟨hn,hs.rl,hs.rf,hs.ml,hs.mf,hs.sl,hs.sp,hs.inn,hs.ol,hs.of,hs.cd,hs.st,hs.cl,hs.cf,hs.tl⟩
 ·have h11:s.Stack.length≠3:=λe=>by unfold stk at hk;rw[ifn,ifn,Cr ⟨c,e⟩]at hk;cases hk
  refine⟨by rw[Zb];exact hT O,hs.rl,hs.rf,hs.ml,hs.mf,by have:=hs.sl;show(s.Stack++_).length<=3;rw[Ba];simp;omega,λx hx=>?_,hs.inn,hs.ol,hs.of,hs.cd,hs.st,hs.cl,hs.cf,hs.tl⟩;rcases CQ.1 hx with hx|hx
  ·exact hs.sp x hx
  ·rw[CB]at hx;subst hx;exact hn
 ·have h12:s.Stack.length≠0:=λe=>by unfold stk at hk;rw[ifn,ifn,ifn,Cr ⟨c,e⟩]at hk;cases hk
  refine⟨?_,hs.rl,hs.rf,hs.ml,hs.mf,by have:=hs.sl;show(s.Stack.take _).length<=3;rw[BN];omega,λx hx=>hs.sp x (List.mem_of_mem_take hx),hs.inn,hs.ol,hs.of,hs.cd,hs.st,hs.cl,hs.cf,hs.tl⟩;rw[Cv O];exact hs.sp _ (BI _)
 ·exact⟨hn,hs.rl,hs.rf,hs.ml,hs.mf,hs.sl,hs.sp,hs.inn,hs.ol,hs.of,hs.cd,hs.st,hs.cl,hs.cf,hs.tl⟩
 ·exact⟨hs.pc,hs.rl,hs.rf,hs.ml,hs.mf,hs.sl,hs.sp,hs.inn,hs.ol,hs.of,by show(0:Int)<=1/\(1:Int)<=9;omega,hs.st,hs.cl,hs.cf,hs.tl⟩
def GK{p:D.Program}{s:D.Path}{i:D.Ins}{c:List D.Term}{t:List Int}:flw p {s with Cond:=c,Turns:=t} i=({(flw p s i).1 with Cond:=c,Turns:=t},(flw p s i).2):=by
 unfold flw;by_cases c1:i.Op=1
 ·simp only[c1,reduceIte]
 by_cases c2:i.Op=2
 ·simp only[c2,Int.reduceEq,reduceIte]
 by_cases c3:i.Op=3
 ·simp only[c3,Int.reduceEq,reduceIte]
 by_cases c4:i.Op=4
 ·simp only[c4,Int.reduceEq,reduceIte]
 by_cases c5:i.Op=5
 ·simp only[c5,Int.reduceEq,reduceIte]
 by_cases c6:i.Op=6
 ·simp only[c6,Int.reduceEq,reduceIte]
 by_cases c7:i.Op=7
 ·simp only[c7,Int.reduceEq,reduceIte]
 by_cases c8:i.Op=8
 ·simp only[c8,Int.reduceEq,reduceIte]
 by_cases c9:i.Op=9
 ·simp only[c9,Int.reduceEq,reduceIte]
 by_cases c11:i.Op=11
 ·simp only[c11,Int.reduceEq,reduceIte]
 by_cases c12:i.Op=12
 ·simp only[c12,Int.reduceEq,reduceIte]
 by_cases c14:i.Op=14
 ·simp only[c14,Int.reduceEq,reduceIte]
 simp only[c1,c2,c3,c4,c5,c6,c7,c8,c9,c11,c12,c14,reduceIte]
def nmd(s:D.Path)(i:D.Ins):D.Path:=
 if i.Op=10 then{s with Pc:=i.B}else if i.Op=13 then{s with Code:=8}else if i.Op=3 then{s with Code:=6}else{s with Code:=5}
def Ph(s:D.Path)(i:D.Ins):WO s i=some (nmd s i):=by
 unfold WO nmd;by_cases c1:i.Op=10
 ·simp[c1]
 by_cases c2:i.Op=13
 ·simp[c2]
 by_cases c3:i.Op=3
 ·simp[c3]
 simp[c1,c2,c3]
def VH{p:D.Program}{s:D.Path}(hs:okP p s){k:Int}(hk:0<=k/\k<=9):okP p {s with Code:=k}:=⟨hs.pc,hs.rl,hs.rf,hs.ml,hs.mf,hs.sl,hs.sp,hs.inn,hs.ol,hs.of,hk,hs.st,hs.cl,hs.cf,hs.tl⟩
def Gj{p:D.Program}{s:D.Path}{i:D.Ins}(hs:okP p s)(hi:insF p.W p.Code.length i):okP p (nmd s i):=by
 unfold nmd;split
 ·rename_i c;exact⟨by rw[Zb];exact hi.t O,hs.rl,hs.rf,hs.ml,hs.mf,hs.sl,hs.sp,hs.inn,hs.ol,hs.of,hs.cd,hs.st,hs.cl,hs.cf,hs.tl⟩
 ·split
  ·exact VH hs O
  ·split
   ·exact VH hs O
   ·exact VH hs O
def Ko{p:D.Program}{s:D.Path}(hs:okP p s){t:D.Term}{k:Int}(ht:fine t/\t.W=1){c:List D.Term}{l:List Int}(hc:fw 1 c)(hcl:c.length<60)(hl:l.length<60):okP p {s with Cond:=c++[t],Turns:=l++[k]}:=
 ⟨hs.pc,hs.rl,hs.rf,hs.ml,hs.mf,hs.sl,hs.sp,hs.inn,hs.ol,hs.of,hs.cd,hs.st,by show(c++[t]).length<=60;rw[Ba];simp;omega,Gx hc ht,by show(l++[k]).length<=60;rw[Ba];simp;omega⟩
def JQ{p:D.Program}{rs:List D.Term}{i:D.Ins}(h:(qst p rs i).2.1=false):(qst p rs i).1=t0:=by
 unfold qst at h⊢;by_cases c1:i.Op=10\/i.Op=13
 ·rw[Cr c1]at h;cases h
 rw[Cu c1]at h⊢;by_cases c2:i.Op=3
 ·rw[Cr c2]at h⊢;by_cases c3:i.C=6\/i.C=7
  ·rw[Cr c3]at h;cases h
  ·rw[Cu c3]
 rw[Cu c2]at h⊢;have hq:∀x:D.Term,(qad p x).2.1=true:=λx=>by unfold qad;split<;>rfl
 by_cases c4:i.Op=7
 ·rw[Cr c4,hq]at h;cases h
 rw[Cu c4]at h⊢;by_cases c5:i.Op=8
 ·rw[Cr c5,hq]at h;cases h
 rw[Cu c5]
def UM{p:D.Program}{rs:List D.Term}{i:D.Ins}(h:(qst p rs i).2.1=true)(hok:(qst p rs i).2.2=true):fine (qst p rs i).1/\(qst p rs i).1.W=1:=by
 have hz:∀x:D.Term,(qze p x).2.2=true->fine (qze p x).1/\(qze p x).1.W=1:=λx h=>Xd h;have hq:∀x:D.Term,(qad p x).2.2=true->fine (qad p x).1/\(qad p x).1.W=1:=λx h=>by
  unfold qad at h⊢;split at h
  ·rename_i c;rw[Cr c];exact Xd h
  ·cases h
 unfold qst at h hok⊢;by_cases c1:i.Op=10\/i.Op=13
 ·rw[Cr c1]at h hok⊢;exact hz _ hok
 rw[Cu c1]at h hok⊢;by_cases c2:i.Op=3
 ·rw[Cr c2]at h hok⊢;by_cases c3:i.C=6\/i.C=7
  ·rw[Cr c3]at h hok⊢;exact hz _ hok
  ·rw[Cu c3]at h;cases h
 rw[Cu c2]at h hok⊢;by_cases c4:i.Op=7
 ·rw[Cr c4]at h hok⊢;exact hq _ hok
 rw[Cu c4]at h hok⊢;by_cases c5:i.Op=8
 ·rw[Cr c5]at h hok⊢;exact hq _ hok
 rw[Cu c5]at h;cases h
noncomputable def dvd(p:D.Program)(s:D.Path)(i:D.Ins):List D.Path:=
 if(qst p s.Regs i).2.2=false then[{s with Code:=9}]
 else if(qst p s.Regs i).2.1=true/\(qst p s.Regs i).1.Op=0/\(qst p s.Regs i).1.N=1 then[nmd s i]
 else if(flw p s i).2=false then[{s with Code:=9}]
 else if(qst p s.Regs i).2.1=false\/(qst p s.Regs i).1.Op=0 then[(flw p s i).1]
 else if(mkT 1 1 0 [(qst p s.Regs i).1]).2=false\/s.Cond.length=60\/s.Turns.length=60 then[{s with Code:=9}]
 else[{nmd s i with Cond:=s.Cond++[(qst p s.Regs i).1],Turns:=s.Turns++[1]},{(flw p s i).1 with Cond:=s.Cond++[(mkT 1 1 0 [(qst p s.Regs i).1]).1],Turns:=s.Turns++[0]}]
def Ma{p:D.Program}{s:D.Path}{i:D.Ins}(hp:progB p=true)(hs:okP p s)(hi:insF p.W p.Code.length i)(hpc:s.Pc<p.Code.length)(hk:stk p s i=0):WZ fuel p s i=some (dvd p s i):=by
 unfold WZ dvd;rw[PN hp hs hi];simp only[Cm];by_cases q1:(qst p s.Regs i).2.2=true
 ·have hfl:¬((qst p s.Regs i).2.1=true/\(qst p s.Regs i).1.Op=0/\(qst p s.Regs i).1.N=1)->Wj fuel p s i=some (flw p s i):=λhn=>by
   have:=Rc hp hs hi q1 (λe=>by
    cases ha:(qst p s.Regs i).2.1
    ·rw[JQ ha]at e;exact absurd e.2 ag
    ·exact hn ⟨ha,e⟩)
   exact Mg hp hs hi hpc hk this.1 this.2
  rw[Cu (show¬(!(qst p s.Regs i).2.2)=true by rw[q1];simp),Cu (show¬(qst p s.Regs i).2.2=false by rw[q1];simp)];by_cases q2:(qst p s.Regs i).2.1=true/\(qst p s.Regs i).1.Op=0/\(qst p s.Regs i).1.N=1
  ·rw[Cr q2,Cr q2.1];unfold Z8;simp only[Cm];rw[Cr (by simp[q2]),Ph];rfl
  ·rw [Cu q2]
   have e:∀{β:Type}(x y:Option β),((if(qst p s.Regs i).2.1=true then Z8 (qst p s.Regs i).1 1 else some default).bind λx2=>if((qst p s.Regs i).2.1&&x2)=true then x else y)=y:=λx y=>by
    cases ha:(qst p s.Regs i).2.1
    ·rfl
    ·unfold Z8;simp only[CF,Cm];rw[Cu (by simp;intro h1 h2;exact q2 ⟨ha,h1,h2⟩)]
   rw[e,hfl q2];simp only[Cm];by_cases q3:(flw p s i).2=true
   ·rw[Cu (show¬(!(flw p s i).2)=true by rw[q3];simp),Cu (show¬(flw p s i).2=false by rw[q3];simp)];cases ha:(qst p s.Regs i).2.1
    ·simp
    ·obtain⟨f1,f2⟩:=UM ha q1;unfold Zx;simp only[Cz,Cn,Cy,Cm,CY,false_or];by_cases q4:(qst p s.Regs i).1.Op=0
     ·simp[q4]
     ·rw[Cu (by simpa using q4),Cu (by simp;exact q4),Vt (sml1f f1)];simp only[Cm];have hcl:=hs.cl;have htl:=hs.tl;by_cases q5:(mkT 1 1 0 [(qst p s.Regs i).1]).2=false\/s.Cond.length=60\/s.Turns.length=60
      ·rw[Cr q5,Cr (by rw[Zb,Zb];simp;rcases q5 with h|h|h<;>simp[h])]
      ·rw[Cu q5,Cu (by rw[Zb,Zb];simp at q5⊢;exact⟨⟨q5.1,by omega⟩,by omega⟩),Ph,Np O,Np O,OO O,OO O];rfl
   ·rw[Cr (by simpa using q3),Cr (by simpa using q3)]
 ·rw[Cr (by simpa using q1),Cr (by simpa using q1)]
def insAt(p:D.Program)(k:Int):D.Ins:=(p.Code[k.toNat]?).getD ⟨0,0,0,0⟩
def Qa{p:D.Program}{k:Int}(h0:0<=k)(h1:k<p.Code.length):get? p.Code k=some (insAt p k)/\insAt p k∈p.Code:=by
 obtain⟨j,rfl⟩:∃j:Nat,k=(j:Int):=⟨k.toNat,by omega⟩;unfold insAt;rw[get?_nat,AX,Cv O];exact⟨rfl,BI _⟩
def Pf{p:D.Program}{s:D.Path}(hs:okP p s)(h:s.Steps<400):okP p {s with Steps:=s.Steps+1}:=⟨hs.pc,hs.rl,hs.rf,hs.ml,hs.mf,hs.sl,hs.sp,hs.inn,hs.ol,hs.of,hs.cd,by have:=hs.st;show 0<=s.Steps+1/\s.Steps+1<=400;omega,hs.cl,hs.cf,hs.tl⟩
noncomputable def stp1(p:D.Program)(s:D.Path):List D.Path:=
 if s.Code≠0\/s.Steps=400 then[]
 else if s.Pc=len p.Code then[{s with Code:=2}]
 else if stk p {s with Steps:=s.Steps+1} (insAt p s.Pc)≠0 then[{s with Steps:=s.Steps+1,Code:=stk p {s with Steps:=s.Steps+1} (insAt p s.Pc)}]
 else dvd p {s with Steps:=s.Steps+1} (insAt p s.Pc)
def Oe{p:D.Program}{s:D.Path}(hp:progB p=true)(hs:okP p s):Yl fuel p s=some (stp1 p s):=by
 have hst:=hs.st;have hpc:=hs.pc;rw[Zb]at hpc;unfold Yl stp1;by_cases c1:s.Code≠0\/s.Steps=400
 ·rw[Cr c1,Cr (by simp;rcases c1 with h|h;exact .inl h;right;omega)]
 ·have d1:s.Code=0/\s.Steps<400:=by omega
  rw[Cu c1,Cu ab];by_cases c2:s.Pc=len p.Code
  ·rw[Cr c2,Cr av]
  ·rw[Cu c2,Cu av];rw[Zb]at c2;obtain⟨g1,g2⟩:=Qa (p:=p) (k:=s.Pc) hpc.1 O;have hs1:=Pf hs d1.2;rw[g1];simp only[Cm];rw[Zf,MN hs1];simp only[Cm];by_cases c3:stk p {s with Steps:=s.Steps+1} (insAt p s.Pc)=0
   ·rw[Cu (by rw[c3];simp),Cu (by rw[c3];simp),Ma hp hs1 (Pk hp g2) (by show s.Pc<_;omega) c3];rfl
   ·rw[Cr (by simpa using c3),Cr c3]
def Ib{s:D.Path}{i:D.Ins}{c:List D.Term}{t:List Int}:nmd {s with Cond:=c,Turns:=t} i={nmd s i with Cond:=c,Turns:=t}:=by
 unfold nmd;by_cases c1:i.Op=10
 ·simp only[c1,reduceIte]
 by_cases c2:i.Op=13
 ·simp only[c2,Int.reduceEq,reduceIte]
 by_cases c3:i.Op=3
 ·simp only[c3,Int.reduceEq,reduceIte]
 simp only[c1,c2,c3,reduceIte]
def ES{p:D.Program}{s:D.Path}{i:D.Ins}(hp:progB p=true)(hs:okP p s)(hi:insF p.W p.Code.length i)(hpc:s.Pc<p.Code.length)(hk:stk p s i=0):∀x∈dvd p s i,okP p x:=by
 intro x hx;unfold dvd at hx;by_cases q1:(qst p s.Regs i).2.2=false
 ·rw[Cr q1,CB]at hx;subst hx;exact VH hs O
 rw[Cu q1]at hx;have q1':(qst p s.Regs i).2.2=true:=by simpa using q1
 by_cases q2:(qst p s.Regs i).2.1=true/\(qst p s.Regs i).1.Op=0/\(qst p s.Regs i).1.N=1
 ·rw[Cr q2,CB]at hx;subst hx;exact Gj hs hi
 rw[Cu q2]at hx
 have hfc:=Rc hp hs hi q1' (λe=>by
  cases ha:(qst p s.Regs i).2.1
  ·rw[JQ ha]at e;exact absurd e.2 ag
  ·exact q2 ⟨ha,e⟩)
 by_cases q3:(flw p s i).2=false
 ·rw[Cr q3,CB]at hx;subst hx;exact VH hs O
 rw[Cu q3]at hx;have q3':(flw p s i).2=true:=by simpa using q3
 by_cases q4:(qst p s.Regs i).2.1=false\/(qst p s.Regs i).1.Op=0
 ·rw[Cr q4,CB]at hx;subst hx;exact Hy hp hs hi hpc hk hfc.1 q3'
 rw[Cu q4]at hx;by_cases q5:(mkT 1 1 0 [(qst p s.Regs i).1]).2=false\/s.Cond.length=60\/s.Turns.length=60
 ·rw[Cr q5,CB]at hx;subst hx;exact VH hs O
 rw[Cu q5]at hx;have q6:(mkT 1 1 0 [(qst p s.Regs i).1]).2=true/\s.Cond.length≠60/\s.Turns.length≠60:=by simpa using q5
 have hcl:=hs.cl;have htl:=hs.tl;have ha:(qst p s.Regs i).2.1=true:=by
  cases h:(qst p s.Regs i).2.1
  ·exact absurd (.inl h) q4
  ·rfl
 rcases CW.1 hx with rfl|hx
 ·exact Ko (Gj hs hi) (UM ha q1') hs.cf O O
 ·rw[CB]at hx;subst hx;exact Ko (Hy hp hs hi hpc hk hfc.1 q3') (Xd q6.1) hs.cf O O
def Fy(p:D.Program)(s:D.Path)(i:D.Ins):(dvd p s i).length=1\/(dvd p s i).length=2:=by
 unfold dvd
 repeat' split
 all_goals first|exact .inl rfl|exact .inr rfl
def Kh(p:D.Program)(s:D.Path):(stp1 p s).length<=2:=by
 unfold stp1;split
 ·simp
 ·split
  ·simp
  ·split
   ·simp
   ·rcases Fy p {s with Steps:=s.Steps+1} (insAt p s.Pc)with h|h<;>omega
def Lc{p:D.Program}{s:D.Path}(hp:progB p=true)(hs:okP p s):∀x∈stp1 p s,okP p x:=by
 have hst:=hs.st;have hpc:=hs.pc;rw[Zb]at hpc;intro x hx;unfold stp1 at hx;by_cases c1:s.Code≠0\/s.Steps=400
 ·rw[Cr c1]at hx;cases hx
 rw[Cu c1]at hx;by_cases c2:s.Pc=len p.Code
 ·rw[Cr c2,CB]at hx;subst hx;exact VH hs O
 rw[Cu c2]at hx;rw[Zb]at c2;have hs1:=Pf hs O;obtain⟨g1,g2⟩:=Qa (p:=p) (k:=s.Pc) hpc.1 O;by_cases c3:stk p {s with Steps:=s.Steps+1} (insAt p s.Pc)=0
 ·rw[Cu (λh=>h c3)]at hx;exact ES hp hs1 (Pk hp g2) (by show s.Pc<_;omega) c3 x hx
 ·rw[Cr c3,CB]at hx;subst hx;refine VH hs1 ?_;unfold stk
  repeat' split
  all_goals omega
theorem Oz{w b:Int}{m:Nat}{z:D.Term}(hw:wordB w 0=true)(hb:b=(m:Int))(hm:m<=100):∀(k j n:Nat),j+k=m->k<n->iterN (λ(s1:Int×(List D.Term))=>if(decide (s1.1<b))then(Zk w 0).bind λx3=>(set? s1.2 s1.1 (D.Term.mk x3.Op x3.W x3.N x3.Name ([]:List D.Term))).bind λx4=>some (.inl ((w64 (s1.1+1)),x4))else some (.inr (s1.2)):Int×List D.Term->Option ((Int×List D.Term)⊕List D.Term)) n ((j:Int),List.replicate j (kT w 0)++List.replicate k z)=some (List.replicate m (kT w 0)):=by
  intro k
  induction k with
  | zero=>
    intro j n hj hn;refine YG ?_ hn;simp only;rw[Cu ab,show j=m by omega];simp
  | succ k ih=>
    intro j n hj hn;obtain⟨n,rfl⟩:∃q,n=q+1:=⟨n-1,by omega⟩;rw[<-ih (j+1) n O O];refine XM ?_;simp only[Yt hw,Cm];rw[Cr ab,Zak (n:=k),set_mid U];simp only[Cm];rw[Zf,List.replicate_succ' (n:=j)];simp only[Bo,BR];rfl
def path0(p:D.Program):D.Path:=⟨0,List.replicate 4 (kT p.W 0),List.replicate p.Mem.toNat (kT p.W 0),[],0,[],0,0,[],[]⟩
def PI{p:D.Program}(hp:progB p=true):okP p (path0 p):=by
 have hm:=ZX hp;have hq:=Ro hp;have hz:=EN (VZ hp);refine⟨⟨by show(0:Int)<=0;omega,by show(0:Int)<=_;rw[Zb];omega⟩,rfl,λx hx=>?_,by show((List.replicate p.Mem.toNat (kT p.W 0)).length:Int)=_;simp;omega,λx hx=>?_,by show(0:Nat)<=3;omega,λx hx=>(by cases hx),⟨by show(0:Int)<=0;omega,by show(0:Int)<=_;omega⟩,by show(0:Nat)<=6;omega,λx hx=>(by cases hx),by show(0:Int)<=0/\(0:Int)<=9;omega,by show(0:Int)<=0/\(0:Int)<=400;omega,by show(0:Nat)<=60;omega,λx hx=>(by cases hx),by show(0:Nat)<=60;omega⟩
 ·rw[(AU.1 hx).2];exact hz
 ·rw[(AU.1 hx).2];exact hz
def QV{p:D.Program}(hp:progB p=true):Xa fuel p=some (path0 p):=by
 have hm:=ZX hp;have hz:=VZ hp;unfold Xa;have m1:mk? 4 (D.Term.mk 0 0 0 ⟨[]⟩ ([]:List D.Term))=some (List.replicate 4 t0):=by
  unfold mk?;rw[Cr ⟨by omega,by unfold room;decide⟩];rfl
 have m2:mk? p.Mem (D.Term.mk 0 0 0 ⟨[]⟩ ([]:List D.Term))=some (List.replicate p.Mem.toNat t0):=by
  unfold mk?;rw[Cr ⟨by omega,by unfold room;omega⟩];rfl
 rw[m1,m2];simp only[Cm];have h1:=Oz (z:=t0) (b:=len (List.replicate 4 t0)) (m:=4) hz aF O 4 0 fuel rfl aa;have h2:=Oz (z:=t0) (b:=len (List.replicate p.Mem.toNat t0)) (m:=p.Mem.toNat) hz aF O p.Mem.toNat 0 fuel O aa;rw[show((0:Nat):Int)=0 from rfl,List.replicate_zero,Za5]at h1 h2;rw[h1];simp only[Cm];rw[h2];rfl
noncomputable def run(p:D.Program):Nat->List Int->D.Path->List Int×D.Path
 |0,ts,s=>(ts,s)
 |k+1,ts,s=>
  if(stp1 p s).length=0\/((stp1 p s).length=2/\ts.length=0)then(ts,s)
  else if(stp1 p s).length=2 then run p k (ts.drop 1) (((stp1 p s)[(1-ts.headD 0).toNat]?).getD s)
  else run p k ts (((stp1 p s)[0]?).getD s)
abbrev TP:=Int×(List D.Term)×(List D.Term)×(List Int)×Int×(List D.Term)×Int×Int×(List D.Term)×(List Int)
abbrev tupP(s:D.Path):TP:=(s.Pc,s.Regs,s.Mem,s.Stack,s.In,s.Out,s.Code,s.Steps,s.Cond,s.Turns)
theorem Ng(p:D.Program):∀(k:Nat)(ts:List Int)(s:D.Path),(run p k ts s).1.length<=ts.length
 |0,ts,s=>CK _
 | k+1,ts,s=>by
  unfold run;split
  ·exact CK _
  ·split
   ·exact BD (Ng p k _ _) U
   ·exact Ng p k _ _
theorem IQ{p:D.Program}{f:Int}{all:List Int}(hp:progB p=true)(hf:f<=400)(ht:∀t∈all,t=0\/t=1)(ha:all.length<=1048576):∀(k:Nat)(j:Int)(i:Nat)(s:D.Path)(n:Nat),okP p s->0<=j->j+k=f->i<=all.length->k<n->
    iterN (λ(s1:Int×Int×TP)=>if (decide (s1.2.1<f))then(Yl fuel p (D.Path.mk s1.2.2.1 s1.2.2.2.1 s1.2.2.2.2.1 s1.2.2.2.2.2.1 s1.2.2.2.2.2.2.1 s1.2.2.2.2.2.2.2.1 s1.2.2.2.2.2.2.2.2.1 s1.2.2.2.2.2.2.2.2.2.1 s1.2.2.2.2.2.2.2.2.2.2.1 s1.2.2.2.2.2.2.2.2.2.2.2)).bind λx2=>if(((len x2)==0)||(((len x2)==2)&&(s1.1==(len all))))then some (.inr (s1.1,s1.2.2.1,s1.2.2.2.1,s1.2.2.2.2.1,s1.2.2.2.2.2.1,s1.2.2.2.2.2.2.1,s1.2.2.2.2.2.2.2.1,s1.2.2.2.2.2.2.2.2.1,s1.2.2.2.2.2.2.2.2.2.1,s1.2.2.2.2.2.2.2.2.2.2.1,s1.2.2.2.2.2.2.2.2.2.2.2))else if((len x2)==1)then(get? x2 0).bind λx3=>some (.inl (s1.1,(w64 (s1.2.1+1)),x3.Pc,x3.Regs,x3.Mem,x3.Stack,x3.In,x3.Out,x3.Code,x3.Steps,x3.Cond,x3.Turns))else(get? all s1.1).bind λx4=>(get? x2 (w64 (1-x4))).bind λx5=>some (.inl ((w64 (s1.1+1)),(w64 (s1.2.1+1)),x5.Pc,x5.Regs,x5.Mem,x5.Stack,x5.In,x5.Out,x5.Code,x5.Steps,x5.Cond,x5.Turns))else some (.inr (s1.1,s1.2.2.1,s1.2.2.2.1,s1.2.2.2.2.1,s1.2.2.2.2.2.1,s1.2.2.2.2.2.2.1,s1.2.2.2.2.2.2.2.1,s1.2.2.2.2.2.2.2.2.1,s1.2.2.2.2.2.2.2.2.2.1,s1.2.2.2.2.2.2.2.2.2.2.1,s1.2.2.2.2.2.2.2.2.2.2.2)):Int×Int×TP->Option ((Int×Int×TP)⊕(Int×TP))) n ((i:Int),j,tupP s)=some ((all.length:Int)-((run p k (all.drop i) s).1.length:Int),tupP (run p k (all.drop i) s).2):=by
  intro k
  induction k with
  | zero=>
    intro j i s n hs hj hjk hi hn;refine YG ?_ hn;simp only;rw[Cu ab];have:(i:Int)=(all.length:Int)-((all.drop i).length:Int):=by rw[AA];omega
    rw[this];rfl
  | succ k ih=>
    intro j i s n hs hj hjk hi hn;obtain⟨n,rfl⟩:∃q,n=q+1:=⟨n-1,by omega⟩;have hok:=Lc hp hs;have hst:=Oe hp hs;have hl2:=Kh p s;have hd:decide (j<f)=true:=by simp;omega
    have hdl:(all.drop i).length=all.length-i:=AA;unfold run;by_cases c1:(stp1 p s).length=0\/((stp1 p s).length=2/\(all.drop i).length=0)
    · rw[Cr c1]
      refine YG ?_ O;simp only[tupP,hd,CF];rw[show Yl fuel p (D.Path.mk s.Pc s.Regs s.Mem s.Stack s.In s.Out s.Code s.Steps s.Cond s.Turns)=some (stp1 p s)from hst];simp only[Cm];rw[Cr (by rw[Zb,Zb];simp only[Bq,Co,Bl];omega)];have:(i:Int)=(all.length:Int)-((all.drop i).length:Int):=by rw[hdl];omega
      rw[<-this]
    · rw [Cu c1]
      have hcc:¬(((len (stp1 p s))==0)||(((len (stp1 p s))==2)&&((i:Int)==(len all))))=true:=by
        rw[Zb,Zb];simp only[Bq,Co,Bl];omega
      by_cases c2:(stp1 p s).length=2
      · rw[Cr c2]
        have hil:i<all.length:=by omega
        have hgt:get? all (i:Int)=some all[i]:=by rw[get?_nat,Cv hil]
        have hhd:(all.drop i).headD 0=all[i]:=by rw[Bf hil];rfl
        have hdd:(all.drop i).drop 1=all.drop (i+1):=by rw[Za9]
        have ht0:=ht all[i] (BI _);rw[hhd,hdd];generalize all[i]=t at*;have e1:w64 (1-t)=(((1-t).toNat:Nat):Int):=by rw[Zf];omega
        have hx:(1-t).toNat<(stp1 p s).length:=by omega
        have hg1:get? (stp1 p s) (w64 (1-t))=some (((stp1 p s)[(1-t).toNat]?).getD s):=by
          rw[e1,get?_nat,Cv hx];rfl
        have hso:okP p (((stp1 p s)[(1-t).toNat]?).getD s):=by
          rw[Cv hx];exact hok _ (BI _)
        rw[<-ih (j+1) (i+1) _ n hso O O O O];refine XM ?_;simp only[tupP,hd,CF];rw[show Yl fuel p (D.Path.mk s.Pc s.Regs s.Mem s.Stack s.In s.Out s.Code s.Steps s.Cond s.Turns)=some (stp1 p s)from hst];simp only[Cm];rw[Cu hcc,Cu (by rw[Zb,c2];decide),hgt];simp only[Cm];rw[hg1];simp only[Cm];rw[Zf,Zf];rfl
      · rw[Cu c2]
        have hg0:get? (stp1 p s) 0=some (((stp1 p s)[0]?).getD s):=by
          rw[show(0:Int)=((0:Nat):Int)from rfl,get?_nat,Cv O];rfl
        have hso:okP p (((stp1 p s)[0]?).getD s):=by
          rw[Cv O];exact hok _ (BI _)
        rw[<-ih (j+1) i _ n hso O O hi O];refine XM ?_;simp only[tupP,hd,CF];rw[show Yl fuel p (D.Path.mk s.Pc s.Regs s.Mem s.Stack s.In s.Out s.Code s.Steps s.Cond s.Turns)=some (stp1 p s)from hst];simp only[Cm];rw[Cu hcc,Cr ah,hg0];simp only[Cm];rw[Zf]
def tB(ts:List Int):Bool:=ts.all λt=>decide (0<=t/\t<=1)
def JV{ts:List Int}(h:tB ts=true):∀t∈ts,t=0\/t=1:=λt ht=>by
 unfold tB at h;rw[Cs]at h;have:=h t ht;simp only[Cw]at this;omega
abbrev pz:D.Path:=D.Path.mk 0 ([]:List D.Term) ([]:List D.Term) ([]:List Int) 0 ([]:List D.Term) 0 0 ([]:List D.Term) ([]:List Int)
noncomputable def pathW(p:D.Program)(ts:List Int)(f:Int):D.Path×Bool:=
 if tB ts=true/\progB p=true/\0<=f/\f<=400 then(if(run p f.toNat ts (path0 p)).1.length=0 then((run p f.toNat ts (path0 p)).2,true)else(pz,false))else(pz,false)
theorem Lu{p:D.Program}(hp:progB p=true):∀(k:Nat)(ts:List Int)(s:D.Path),(∀t∈ts,t=0\/t=1)->okP p s->okP p (run p k ts s).2
 |0,ts,s,_,hs=>hs
 | k+1,ts,s,ht,hs=>by
  have hok:=Lc hp hs;have hl2:=Kh p s;unfold run;by_cases c1:(stp1 p s).length=0\/((stp1 p s).length=2/\ts.length=0)
  ·rw[Cr c1];exact hs
  ·rw[Cu c1];have hg:∀j:Nat,okP p (((stp1 p s)[j]?).getD s):=λj=>by
    cases h:(stp1 p s)[j]? with
    |none=>exact hs
    |some x=>exact hok x (CV h)
   by_cases c2:(stp1 p s).length=2
   ·rw[Cr c2];exact Lu hp k _ _ (λt h=>ht t (List.mem_of_mem_drop h)) (hg _)
   ·rw[Cu c2];exact Lu hp k _ _ ht (hg _)
def LG{p:D.Program}{ts:List Int}{f:Int}(hl:p.Code.length<=1048576)(hts:ts.length<=1048576):XV fuel p ts f=some (pathW p ts f):=by
 unfold XV YR;rw[RL hl];simp only[Cm];by_cases c2:progB p=true
 ·rw [c2]
  simp only[Cz,Cn,Cy,Cm,CY];by_cases c3:0<=f/\f<=400
  ·rw[Cu ab,Pe hts];simp only[Cm];by_cases c1:tB ts=true
   ·rw[Cu (by rw[show(ts.all λx=>decide (0<=x/\x<=1))=true from c1];simp;omega)];unfold WV pathW;rw[QV c2,Cr ⟨c1,c2,c3⟩];simp only[Cm];have hr:=IQ (all:=ts) c2 c3.2 (JV c1) hts f.toNat 0 0 (path0 p) fuel (PI c2) O O O aa;rw[BV,show(tupP (path0 p))=((path0 p).Pc,(path0 p).Regs,(path0 p).Mem,(path0 p).Stack,(path0 p).In,(path0 p).Out,(path0 p).Code,(path0 p).Steps,(path0 p).Cond,(path0 p).Turns)from rfl]at hr;rw[show((0:Nat):Int)=0 from rfl]at hr;rw[hr];have hf:=(Lu c2 f.toNat ts (path0 p) (JV c1) (PI c2)).fine c2;have hle:=Ng p f.toNat ts (path0 p);simp only[Cm,tupP];by_cases c4:(run p f.toNat ts (path0 p)).1.length=0
    ·rw[Cr c4,Cu (show¬(!((ts.length:Int)-((run p f.toNat ts (path0 p)).1.length:Int)==len ts))=true by rw[Zb,c4];simp)];have:=NC hf;rw[show Y9 fuel (D.Path.mk (run p f.toNat ts (path0 p)).2.Pc (run p f.toNat ts (path0 p)).2.Regs (run p f.toNat ts (path0 p)).2.Mem (run p f.toNat ts (path0 p)).2.Stack (run p f.toNat ts (path0 p)).2.In (run p f.toNat ts (path0 p)).2.Out (run p f.toNat ts (path0 p)).2.Code (run p f.toNat ts (path0 p)).2.Steps (run p f.toNat ts (path0 p)).2.Cond (run p f.toNat ts (path0 p)).2.Turns)=_ from this];rfl
    ·rw[Cu c4,Cr (show(!((ts.length:Int)-((run p f.toNat ts (path0 p)).1.length:Int)==len ts))=true by rw[Zb];simp;omega)]
   ·rw[Cr (by rw[show(ts.all λx=>decide (0<=x/\x<=1))=false by simpa[tB]using c1];simp)];unfold pathW;rw[Cu (λh=>c1 h.1)]
  ·have e:(!(decide (f>=0)&&decide (f<=400)))=true:=by simp;omega
   rw[Cr e];simp only[Cm,e,Za3,CF];unfold pathW;rw[Cu (λh=>c3 h.2.2)]
 ·have c2':progB p=false:=by simpa using c2
  rw[c2',show pathW p ts f=(pz,false)from by unfold pathW;exact Cu (λh=>c2 h.2.1)];rfl
def inB(p:D.Program)(l:List Int):Bool:=progB p&&(l.all (wordB p.W)&&(len l==p.In))
def UL{p:D.Program}(h:progB p=true):0<=p.In/\p.In<=3:=by
 unfold progB at h;simp only[Co,Cw]at h;exact h.1.1.2
def NG{p:D.Program}{l:List Int}(hp:p.Code.length<=1048576)(hl:l.length<=1048576):XR fuel p l=some (inB p l):=by
 have h1:XT fuel l p.In p.W=some (l.all (wordB p.W)&&(len l==p.In)):=by
  unfold XT
  have hl:=Tg (l:=l) (b:=wordB p.W) (λx1 s1=>(Zw p.W x1).bind λx2=>if(!x2)then some (.inr (.inr false))else some (.inl ((w64 (s1+1))))) (λk x hx=>by
   simp only[Yq,Cm]
   cases wordB p.W x<;>simp) hl (WW hl)
  rw[hl];cases l.all (wordB p.W)<;>rfl
 unfold XR inB;rw[PX hp];cases progB p
 ·rfl
 ·simp only[Cm,CF,h1]
def Qm{p:D.Program}{l:List Int}(hp:p.Code.length<=1048576)(hl:l.length<=1048576):Xt fuel p l=some (inB p l):=by
 have h1:Wn fuel p.W l=some (l.all (wordB p.W)):=by
  unfold Wn
  have hl:=Tg (l:=l) (b:=wordB p.W) (λx1 s1=>(Z0 p.W x1).bind λx2=>if(!x2)then some (.inr (.inr false))else some (.inl ((w64 (s1+1))))) (λk x hx=>by
   simp only[YB,Cm]
   cases wordB p.W x<;>simp) hl (WW hl)
  rw[hl];cases l.all (wordB p.W)<;>rfl
 unfold Xt inB;rw[RL hp];cases progB p
 ·rfl
 ·simp only[Cm,Bi];cases len l==p.In
  ·simp
  ·simp[h1]
def vn(k:Nat):Str:=⟨[105,UInt8.ofNat (48+k)]⟩
def IJ{k:Nat}(h:k<=2):ZI (k:Int)=some ⟨[UInt8.ofNat (48+k)]⟩:=by
 unfold ZI strconv_Itoa;rw[ifp,Lib.itoa,ifn];have e:((k:Int)).toNat=k:=by omega
 rw[e,Lib.decDigits,dif_pos O];rfl
def DN(k:Nat):cat? ⟨[105]⟩ ⟨[UInt8.ofNat (48+k)]⟩=some (vn k):=by
 unfold cat?;rw[Cr (by simp[room])];rfl
def vals(w:Int)(l:List Int):List D.Value:=l.mapIdx λk x=>⟨vn k,w,x⟩
def SH(w:Int)(l:List Int):(vals w l).length=l.length:=by unfold vals;simp
def Iy(w:Int)(l:List Int)(x:Int):vals w (l++[x])=vals w l++[⟨vn l.length,w,x⟩]:=by unfold vals;rw[List.mapIdx_append];simp
def Rv{p:D.Program}{l:List Int}(hl:l.length<=3):Yu fuel p l=some (vals p.W l):=by
 unfold Yu;have hm:mk? (len l) (⟨⟨[]⟩,0,0⟩:D.Value)=some (List.replicate l.length ⟨⟨[]⟩,0,0⟩):=by
  unfold mk?;rw[Zb,Cr aD];simp
 rw[hm];simp only[Cm];obtain⟨r,g1,g2⟩:=Yg (l:=l) (n:=fuel) (σ:=List D.Value) (ρ:=List D.Value) (B:=λ(s1:Int×(List D.Value))=>if(decide (s1.1<(len l)))then(get? l s1.1).bind λx2=>(ZI s1.1).bind λx3=>(cat? ⟨[105]⟩ x3).bind λx4=>(set? s1.2 s1.1 (D.Value.mk x4 p.W x2)).bind λx5=>some (.inl ((w64 (s1.1+1)),x5))else some (.inr (s1.2))) (λk a=>((k:Int),a)) (λys a=>∃pre,pre++ys=l/\a=vals p.W pre++List.replicate ys.length ⟨⟨[]⟩,0,0⟩) (λr=>r=vals p.W l)
  (λk x xs a hk' hx hlen⟨pre,h1,h2⟩=>by
   have hd:decide ((k:Int)<len l)=true:=by rw[Zb];simp;omega
   have hpl:pre.length=k:=by
    have:=congrArg List.length h1;simp at this hlen;omega
   simp only[hd,CF,get?_nat,hx,Cm,IJ (show k<=2 by omega),DN];have hs:set? a (k:Int) (D.Value.mk (vn k) p.W x)=some (vals p.W (pre++[x])++List.replicate xs.length ⟨⟨[]⟩,0,0⟩):=by
    unfold set?;rw[Cr ⟨by omega,by rw[h2];simp[SH];omega⟩,h2,Iy,hpl];have e:((k:Int)).toNat=(vals p.W pre).length:=by rw[SH,hpl];omega
    rw[e,Zac _ _ (CK _),AJ];simp[Zak]
   rw[hs]
   exact .inl ⟨vals p.W (pre++[x])++List.replicate xs.length ⟨⟨[]⟩,0,0⟩,by simp only[Cm];rw[Zf];rfl,pre++[x],by rw[Bo];exact h1,rfl⟩)
  (λa⟨pre,h1,h2⟩=>by
   have hd:decide ((l.length:Int)<len l)=false:=by rw[Zb];simp
   simp only[hd,Cn,Cy];rw[Bj]at h1
   exact⟨_,rfl,by rw[h2,h1];simp⟩) (a:=List.replicate l.length ⟨⟨[]⟩,0,0⟩) ⟨[],rfl,rfl⟩ aa
 rw[show((0:Nat):Int)=0 from rfl]at g1;rw[g1,g2];rfl
theorem Sv{w:Int}{l:List Int}(hl:l.length<=3)(hw:l.all (wordB w)=true):ValsOk (vals w l):=by
 rw[Cs]at hw
 match l,hl with
 |[],_=>exact⟨BP _,(λx hx=>(by cases hx)),(λx hx=>(by cases hx)),List.Pairwise.nil⟩
 |[a],_=>
  refine⟨by simp[vals],λx hx=>?_,λx hx=>?_,by simp[vals]⟩<;>(simp[vals]at hx;subst hx)
  ·exact(by decide:nameB (vn 0)=true)
  ·exact hw a U
 |[a,b],_=>
  refine⟨by simp[vals],λx hx=>?_,λx hx=>?_,by simp[vals];decide⟩<;>(simp[vals]at hx;rcases hx with rfl|rfl)
  ·exact(by decide:nameB (vn 0)=true)
  ·exact(by decide:nameB (vn 1)=true)
  ·exact hw a U
  ·exact hw b U
 |[a,b,c],_=>
  refine⟨by simp[vals],λx hx=>?_,λx hx=>?_,by simp[vals];decide⟩<;>(simp[vals]at hx;rcases hx with rfl|rfl|rfl)
  ·exact(by decide:nameB (vn 0)=true)
  ·exact(by decide:nameB (vn 1)=true)
  ·exact(by decide:nameB (vn 2)=true)
  ·exact hw a U
  ·exact hw b U
  ·exact hw c U
def Cc{k:Nat}(h:k+1<=2):Str.geb (vn k) (vn (k+1))=false:=by
 have:k=0\/k=1:=by omega
 rcases this with rfl|rfl<;>decide+kernel
theorem MC{w:Int}{l:List Int}{k:Nat}{x:D.Value}(h:(vals w l)[k]? =some x):x.Name=vn k:=by
 unfold vals at h;rw[List.getElem?_mapIdx]at h;cases hk:l[k]? with
 |none=>rw[hk]at h;cases h
 |some y=>rw[hk]at h;rw[<-Option.some.inj h]
theorem NY{w:Int}{l:List Int}(hl:l.length<=3)(hw:l.all (wordB w)=true):Xv fuel (vals w l)=some true:=by
 have hv:=Sv hl hw;have hlen:(vals w l).length<=3:=by rw[SH];exact hl
 unfold Xv;have hd:decide (len (vals w l)>30)=false:=by rw[Zb];simp;omega
 simp only[hd,Cn,Cy]
 have hlp:=Tg (l:=vals w l) (b:=λ_=>true) (λx1 s1=>(YO fuel x1.Name).bind λx2=>(if(!x2)then some default else(Z0 x1.W x1.N)).bind λx3=>if((!x2)||(!x3))then some (.inr (.inr false))else(if(decide (s1>0))then(get? (vals w l) (w64 (s1-1)))else some default).bind λx4=>if((decide (s1>0))&&(Str.geb x4.Name x1.Name))then some (.inr (.inr false))else some (.inl ((w64 (s1+1))))) (λk x hx=>by
  have hm:=CV hx;have hk:k<(vals w l).length:=(CG.1 hx).1;have hn:=hv.name x hm;have hin:YO fuel x.Name=some true:=by
   have:=Oc hn;rw[RD O aa,hn]
  simp only[hin,Cm,Cz,Cn,Cy,YB,hv.word x hm,Ar,CF];cases k with
  |zero=>simp
  |succ k=>
   have e:w64 (((k+1:Nat):Int)-1)=(k:Int):=by rw[Zf];omega
   have h1:(vals w l)[k]? =some (vals w l)[k]:=Cv (Nat.lt_of_succ_lt hk);have hp:decide (((k+1:Nat):Int)>0)=true:=by simp
   simp only[hp,CF,e,get?_nat,h1,Cm];rw[MC h1,MC hx,Cc O]
   rfl) O WW
 rw[hlp];simp
def ev(v:List D.Value)(t:D.Term):Int×Bool:=(ZT fuel t v).getD (0,false)
def Kl{p:D.Program}{l:List Int}(hl:l.length<=3)(hw:l.all (wordB p.W)=true){t:D.Term}(ht:termB t=true)(hs:msz t<=1048576):ZT fuel t (vals p.W l)=some (ev (vals p.W l) t)/\Ye fuel t (vals p.W l)=some (ev (vals p.W l) t):=by
 obtain⟨r,b,h1,h2⟩:=KX ht hs (Sv hl hw) (NY hl hw);unfold ev;rw[h1,h2];exact⟨rfl,rfl⟩
def holdB(p:D.Program)(s:D.Path)(l:List Int):Bool:=pathB p s&&inB p l&&s.Cond.all λt=>(ev (vals p.W l) t).2&&(ev (vals p.W l) t).1==1
def MZ{p:D.Program}{s:D.Path}(h:pathB p s=true):tsB s.Cond 1=true/\s.Cond.length<=60:=by
 unfold pathB at h;simp only[Co,Cw,Zb]at h;refine⟨by grind,by grind⟩
def OH{p:D.Program}{l:List Int}(h:inB p l=true):l.all (wordB p.W)=true/\l.length<=3:=by
 unfold inB at h;simp only[Co,Zb,Bl]at h;have:=UL h.1;exact⟨h.2.1,by omega⟩
def Ld{p:D.Program}{s:D.Path}{l:List Int}(hp:p.Code.length<=1048576)(hs:smallP s)(hl:l.length<=1048576):X5 fuel p s l=some (holdB p s l):=by
 unfold X5 holdB;rw[Ox hp hs];simp only[Cm];cases hpb:pathB p s
 ·rfl
 simp only[Cz,Cn,Cy,Qm hp hl,Cm,CY,Bi];cases hib:inB p l
 ·rfl
 obtain⟨h1,h2⟩:=MZ hpb;obtain⟨h3,h4⟩:=OH hib;obtain⟨_,_,_,_,s5,_⟩:=hs;simp only[Cz,Cn,Cy,Rv h4,Cm,Bi]
 have hlp:=Tg (l:=s.Cond) (b:=λt=>(ev (vals p.W l) t).2&&(ev (vals p.W l) t).1==1) (λx4 s1=>(Ye fuel x4 (vals p.W l)).bind λx5=>if((!x5.2)||(x5.1 !=1))then some (.inr (.inr false))else some (.inl ((w64 (s1+1))))) (λk x hx=>by
  have hx:=CV hx;have ht:termB x=true:=by
   unfold tsB at h1;rw[Cs]at h1;have:=h1 x hx;simp only[Co]at this;exact this.1
  simp only[(Kl h4 h3 ht (OV s5 hx)).2,Cm]
  cases(ev (vals p.W l) x).2<;>by_cases c:(ev (vals p.W l) x).1=1<;>simp[c]) O WW
 rw[hlp];cases s.Cond.all λt=>(ev (vals p.W l) t).2&&(ev (vals p.W l) t).1==1<;>rfl
end Go.Proofs.YtmhljhkhmdkdhaaGreatDoor
end
section
namespace Go.Proofs.YtmhljhkhmdkdhaaGreatDoor
open Go.GL
set_option maxRecDepth 100000
mutual
def aV(A:Str->Int->Prop):D.Term->Prop
 |⟨o,w,_,s,k⟩=>(o=22->k=[]->A s w)/\aVs A k
def aVs(A:Str->Int->Prop):List D.Term->Prop
 |[]=>True
 |x::l=>aV A x/\aVs A l
end
section
variable{A:Str->Int->Prop}{α β:Type}
def EE(t:D.Term):aV A t↔(t.Op=22->t.Kids=[]->A t.Name t.W)/\aVs A t.Kids:=by cases t;rw[aV]
theorem OG:∀l:List D.Term,aVs A l↔∀x∈l,aV A x
 |[]=>by rw[aVs];simp
 |x::l=>by rw[aVs,OG l];simp
def Fw{t:D.Term}(h:aV A t):∀x∈t.Kids,aV A x:=(OG _).1 ((EE t).1 h).2
def EC{o w m:Int}{s:Str}{x:D.Term}{l:List D.Term}(h:∀y∈x::l,aV A y):aV A ⟨o,w,m,s,x::l⟩:=by
 rw[aV];exact⟨λ_ e=>(List.cons_ne_nil _ _ e).elim,(OG _).2 h⟩
def QA{o w m:Int}{s:Str}(h:o=0):aV A ⟨o,w,m,s,[]⟩:=by
 rw[aV,aVs];exact⟨λe=>by omega,trivial⟩
def Po(Q:α->Prop)(e:Option α):Prop:=∀r,e=some r->Q r
def Po.b{Q:β->Prop}{e:Option α}{f:α->Option β}(R:α->Prop)(h1:Po R e)(h2:∀x,R x->Po Q (f x)):Po Q (e.bind f):=λr h=>by
 obtain⟨x,e1,e2⟩:=Bz.1 h;exact h2 x (h1 x e1) r e2
def Po.n{Q:β->Prop}{e:Option α}{f:α->Option β}(h2:∀x,Po Q (f x)):Po Q (e.bind f):=λr h=>by
 obtain⟨x,e1,e2⟩:=Bz.1 h;exact h2 x r e2
def Po.i{Q:α->Prop}{c:Prop}[Decidable c]{a b:Option α}(h1:Po Q a)(h2:Po Q b):Po Q (if c then a else b):=by
 split
 ·exact h1
 ·exact h2
def Po.s{Q:α->Prop}{x:α}(h:Q x):Po Q (some x):=λr e=>by cases e;exact h
def Po.kid{t:D.Term}{n:Int}(h:aV A t):Po (aV A) (get? t.Kids n):=λr e=>Fw h r (CV (get?_at e))
def Po.con{w v:Int}:Po (λx:D.Term=>x.Op=0) (Zk w v):=by
 unfold Zk;exact .n λ_=>.i (.s rfl) (.s rfl)
def AB(A:Str->Int->Prop):α⊕D.Term->Prop
 |.inl _=>True
 |.inr t=>aV A t
def Po.l{s:α}:Po (AB A) (some (.inl s:α⊕D.Term)):=λr e=>by cases e;exact True.intro
def Po.r{t:D.Term}(h:aV A t):Po (AB A) (some (.inr t:α⊕D.Term)):=λr e=>by cases e;exact h
structure RedV(A:Str->Int->Prop)(n:Nat):Prop where
 red:∀t,aV A t->Po (aV A) (Zu n t)
 rem:∀o w m x l,(∀y∈x::l,aV A y)->Po (aV A) (Zm n o w m (x::l))
 bin:∀t,aV A t->Po (aV A) (Z5 n t)
 fst:∀o w a b,aV A b->Po (λr=>aV A r.1) (ZJ n o w a b)
 rif:∀t,aV A t->Po (aV A) (Yv n t)
 cut:∀t,aV A t->Po (aV A) (Yh n t)
 wid:∀t,aV A t->Po (aV A) (ZR n t)
 joi:∀t,aV A t->Po (aV A) (ZQ n t)
def all1{a:D.Term}(h:aV A a):∀y∈[a],aV A y:=λy hy=>by rw[CB]at hy;exact hy▸h
def all2{a b:D.Term}(h:aV A a)(h':aV A b):∀y∈[a,b],aV A y:=λy hy=>by
 rcases CW.1 hy with rfl|hy
 ·exact h
 ·exact all1 h' y hy
def all3{a b c:D.Term}(h:aV A a)(h':aV A b)(h'':aV A c):∀y∈[a,b,c],aV A y:=λy hy=>by
 rcases CW.1 hy with rfl|hy
 ·exact h
 ·exact all2 h' h'' y hy
theorem redV:∀n,RedV A n:=by
 intro n
 induction n with
 |zero=>
  refine⟨λt _=>?_,λ_ _ _ _ _ _=>?_,λt _=>?_,λ_ _ _ _ _=>?_,λt _=>?_,λt _=>?_,λt _=>?_,λt _=>?_⟩
  ·unfold Zu;exact λ_ h=>by cases h
  ·unfold Zm;exact λ_ h=>by cases h
  ·unfold Z5;exact λ_ h=>by cases h
  ·unfold ZJ;exact λ_ h=>by cases h
  ·unfold Yv;exact λ_ h=>by cases h
  ·unfold Yh;exact λ_ h=>by cases h
  ·unfold ZR;exact λ_ h=>by cases h
  ·unfold ZQ;exact λ_ h=>by cases h
 | succ n ih=>
  have R:∀{o w m x l},(∀y∈x::l,aV A y)->Po (aV A) ((Zm n o w m (x::l)).bind λy=>some y):=λh=>.b _ (ih.rem _ _ _ _ _ h) λ_ h=>.s h;refine⟨λt h=>?_,λo w m x l h=>?_,λt h=>?_,λo w a b h=>?_,λt h=>?_,λt h=>?_,λt h=>?_,λt h=>?_⟩
  ·unfold Zu;refine .i (.s h) (.n λr=>.i (.n λ_=>.b _ .con λx hx=>.s (QA hx)) (.i (.b _ ?_ λ_ h=>.s h) (.i (.b _ (ih.rif t h) λ_ h=>.s h) (.i (.b _ (ih.cut t h) λ_ h=>.s h) (.i (.b _ (ih.wid t h) λ_ h=>.s h) (.i (.b _ (ih.joi t h) λ_ h=>.s h) (.b _ (ih.bin t h) λ_ h=>.s h)))))));unfold Yr;exact .b _ (.kid h) λx1 a1=>.i (.b _ (.kid a1) λ_ h=>.s h) (.s h)
  ·unfold Zm;exact .b _ (ih.red _ (EC h)) λ_ h=>.s h
  ·unfold Z5;refine .b _ (.kid h) λx1 a1=>.b _ (.kid h) λx2 a2=>.n λ_=>.n λ_=>.i (R (all2 a2 a1)) (.n λx6=>.b (AB A) (.i (.b _ (ih.fst _ _ x1 x2 a2) λx7 a7=>.i (.r a7) .l) .l) λrl1 b1=>?_);cases rl1 with
   |inr v=>exact .s b1
   | inl s1=>
    refine .n λx8=>.b (AB A) (.i (.b (AB A) (.i .l (.i .l .l)) λrl3 b3=>?_) .l) λrl2 b2=>?_
    ·cases rl3 with
     |inr v=>exact .r b3
     |inl s3=>exact .i (.r a1) (.i (.b _ .con λx hx=>.r (QA hx)) .l)
    ·cases rl2 with
     |inr v=>exact .s b2
     | inl s2=>
      refine .n λx10=>.b (AB A) (.i (.i (.r a1) (.b (AB A) (.i .l (.i .l .l)) λrl5 b5=>?_)) .l) λrl4 b4=>?_
      ·cases rl5 with
       |inr v=>exact .r b5
       |inl s5=>exact .i (.b _ .con λx hx=>.r (QA hx)) (.i (.b _ .con λx hx=>.r (QA hx)) .l)
      ·cases rl4 with
       |inr v=>exact .s b4
       |inl s4=>exact .n λ_=>.n λ_=>.n λ_=>.n λ_=>.i (.n λ_=>.n λ_=>.b _ .con λx hx=>.b _ (.kid a2) λx20 a20=>R (all2 (QA hx) a20)) (.s h)
  ·unfold ZJ;refine .n λx1=>.b (λr=>r.isLeft=true) ?_ λr hr=>?_
   ·exact .i (.s rfl) (.i (.s rfl) (.i (.s rfl) (.i (.s rfl) (.i (.s rfl) (.s rfl)))))
   ·cases r with
    |inr v=>cases hr
    |inl s=>
     refine .i (.s h) (.b (λr=>r.isLeft=true) (.i (.s rfl) (.s rfl)) λr hr=>?_);cases r with
     |inr v=>cases hr
     |inl s=>exact .i (.b _ .con λx hx=>.s (QA hx)) (.i (.b _ .con λx hx=>.s (QA hx)) (.i (.i (.b _ (ih.rem _ _ _ _ _ (all1 h)) λ_ h=>.s h) (.s (QA rfl))) (.i (.b _ (ih.rem _ _ _ _ _ (all1 h)) λ_ h=>.s h) (.s (QA rfl)))))
  ·unfold Yv;exact .b _ (.kid h) λx1 a1=>.b _ (.kid h) λx2 a2=>.b _ (.kid h) λx3 a3=>.n λ_=>.i (.s a2) (.n λ_=>.i (.s a3) (.n λ_=>.i (.s a2) (.i (.b _ (.kid a1) λx7 a7=>R (all3 a7 a3 a2)) (.n λ_=>.n λ_=>.i (.s a1) (.n λ_=>.n λ_=>.i (R (all1 a1)) (.s h))))))
  ·unfold Yh;exact .b _ (.kid h) λx1 a1=>.i (.s a1) (.i (.b _ (.kid a1) λx2 a2=>R (all1 a2)) (.i (.b _ (.kid a1) λx4 a4=>.i (R (all1 a4)) (.i (.b _ (.kid a1) λx6 a6=>R (all1 a6)) (.s h))) (.i (.b _ (.kid a1) λx8 a8=>.i (.b _ (.kid a1) λx9 a9=>R (all1 a9)) (.s h)) (.s h))))
  ·unfold ZR;exact .b _ (.kid h) λx1 a1=>.i (.s a1) (.i (.b _ (.kid a1) λx2 a2=>R (all1 a2)) (.s h))
  ·unfold ZQ;exact .b _ (.kid h) λx1 a1=>.b _ (.kid h) λx2 a2=>.n λ_=>.n λ_=>.n λ_=>.i (.b _ (.kid a2) λx6 a6=>R (all1 a6)) (.s h)
def Ho{op w m:Int}{x:D.Term}{l:List D.Term}(h:∀y∈x::l,aV A y)(hm:(mkT op w m (x::l)).2=true):aV A (mkT op w m (x::l)).1:=by
 unfold mkT at hm⊢;split at hm
 ·rename_i hb;rw[Cr hb];have hf:=OP hb;exact(redV fuel).red _ (EC h) _ (Rb hf.1 hf.2).2.2.2.1
 ·cases hm
theorem Dv:∀n:Nat,(∀t:D.Term,msz t<n->nodeB t=true->aV A t->∀v∈vrs t,A v.1 v.2)/\∀l:List D.Term,l.length+mszs l<n->nodesB l=true->aVs A l->∀v∈vrss l,A v.1 v.2:=by
 intro n
 induction n with
 |zero=>exact⟨λt h=>by omega,λl h=>by omega⟩
 | succ n ih=>
  have hL:∀l:List D.Term,l.length+mszs l<n+1->nodesB l=true->aVs A l->∀v∈vrss l,A v.1 v.2:=λl hl hb h v hv=>by
   cases l with
   |nil=>rw[Y5]at hv;cases hv
   |cons x l=>
    rw[ZL,CQ]at hv;rw[aVs]at h;rw[Y1,Bp]at hl;rw[Zz,Cs]at hb;rcases hv with hv|hv
    ·exact ih.1 x O (hb x U) h.1 v hv
    ·exact ih.2 l O (by rw[Zz,Cs];exact λy hy=>hb y aq) h.2 v hv
  refine⟨λt ht hb h v hv=>?_,hL⟩;have hz:=Wd t;have hn:=hb;rw[Yo,Co]at hb;rw[EE]at h;rw[Wv]at hv;by_cases ho:t.Op=22
  ·rw[Cr ho,CB]at hv;subst hv;refine h.1 ho ?_;rcases VY hb.1 with h|h|h|h|h|h|h|h
   ·omega
   ·exact h.2
   all_goals omega
  ·rw[Cu ho]at hv;exact hL t.Kids O hb.2 h.2 v hv
end
end Go.Proofs.YtmhljhkhmdkdhaaGreatDoor
end
section
namespace Go.Proofs.YtmhljhkhmdkdhaaGreatDoor
open Go.GL
set_option maxRecDepth 100000
section
variable{A:Str->Int->Prop}
def aL(A:Str->Int->Prop)(l:List D.Term):Prop:=∀t∈l,aV A t
def UW{op w m:Int}{x:D.Term}{l:List D.Term}(h:∀y∈x::l,aV A y):aV A (mkT op w m (x::l)).1:=by
 cases hb:(mkT op w m (x::l)).2
 ·rw[Dc hb];exact QA rfl
 ·exact Ho h hb
def Ni{w v:Int}:aV A (kT w v):=QA rfl
def Ot:aV A t0:=QA rfl
theorem Vo{l:List D.Term}(h:aL A l)(k:Int):aV A (rg l k):=by
 unfold rg;cases hk:l[k.toNat]? with
 |none=>exact Ot
 |some x=>exact h x (CV hk)
def Gd{w k:Int}{x a b:D.Term}(hx:aV A x)(ha:aV A a)(hb:aV A b):aV A (cel w k x a b).1:=by
 unfold cel;split
 ·exact UW (all3 (UW (all2 Ni hx)) ha hb)
 ·exact Ot
theorem JZ{w:Int}{x:D.Term}{mem:List D.Term}(hx:aV A x)(hm:aL A mem):∀(j:Nat)(t:D.Term),aV A t->aV A (ldT w x mem j t).1
 |0,t,h=>by unfold ldT;exact h
 |j+1,t,h=>by
  unfold ldT;split
  ·exact JZ hx hm j _ (Gd hx (Vo hm _) h)
  ·exact Ot
def Ef{w:Int}{mem:List D.Term}{x:D.Term}(hm:aL A mem)(hx:aV A x):aV A (load w mem x).1:=by
 unfold load;split
 ·exact Vo hm _
 ·exact JZ hx hm _ _ (Vo hm _)
def TI{l:List D.Term}{k:Nat}{t:D.Term}(h:aL A l)(ht:aV A t):aL A (l.set k t):=λx hx=>by
 rcases Ae hx with hx|rfl
 ·exact h x hx
 ·exact ht
def Lh{l:List D.Term}{t:D.Term}(h:aL A l)(ht:aV A t):aL A (l++[t]):=λx hx=>by
 rcases CQ.1 hx with hx|hx
 ·exact h x hx
 ·rw[CB]at hx;subst hx;exact ht
def QR:aL A []:=λ_ h=>by cases h
theorem GV{w:Int}{x v:D.Term}(hx:aV A x)(hv:aV A v):∀(l:List D.Term)(i:Nat),aL A l->aL A (stG w x v i l).1
 |[],i,_=>by unfold stG;exact QR
 | t::l,i,h=>by
  unfold stG;split
  ·intro y hy;rcases CW.1 hy with rfl|hy
   ·exact Gd hx hv (h t U)
   ·exact GV hx hv l (i+1) (λz hz=>h z (by simp[hz])) y hy
  ·exact QR
def JX{w:Int}{mem:List D.Term}{x v:D.Term}(hm:aL A mem)(hx:aV A x)(hv:aV A v):aL A (store w mem x v).1:=by
 unfold store;split
 ·exact TI hm hv
 ·split
  ·exact GV hx hv _ _ hm
  ·exact QR
def Dt{p:D.Program}{c:Int}{a b:D.Term}(ha:aV A a)(hb:aV A b):aV A (opd p c a b).1:=by
 unfold opd;split
 ·exact UW (all1 (UW (all2 ha hb)))
 ·exact UW (all2 ha hb)
def Ic{p:D.Program}{x:D.Term}(hx:aV A x):aV A (qze p x).1:=UW (all2 Ni hx)
def GR{p:D.Program}{x:D.Term}(hx:aV A x):aV A (qad p x).1:=by
 unfold qad;split
 ·exact UW (all1 (UW (all2 hx Ni)))
 ·exact Ot
def IV{p:D.Program}{rs:List D.Term}{i:D.Ins}(h:aL A rs):aV A (qst p rs i).1:=by
 unfold qst;split
 ·exact Ic (Vo h _)
 ·split
  ·split
   ·exact Ic (Vo h _)
   ·exact Ot
  ·split
   ·exact GR (Vo h _)
   ·split
    ·exact GR (Vo h _)
    ·exact Ot
structure vP(A:Str->Int->Prop)(s:D.Path):Prop where
 rg:aL A s.Regs
 mm:aL A s.Mem
 ot:aL A s.Out
 cd:aL A s.Cond
def Dw{p:D.Program}{s:D.Path}{i:D.Ins}(h:vP A s)(h5:i.Op=5->aV A (inT p.W s.In)):vP A (flw p s i).1:=by
 unfold flw;by_cases c1:i.Op=1
 ·rw[Cr c1];exact⟨TI h.rg Ni,h.mm,h.ot,h.cd⟩
 rw[Cu c1];by_cases c2:i.Op=2
 ·rw[Cr c2];exact⟨TI h.rg (Vo h.rg _),h.mm,h.ot,h.cd⟩
 rw[Cu c2];by_cases c3:i.Op=3
 ·rw[Cr c3];exact⟨TI h.rg (Dt (Vo h.rg _) (Vo h.rg _)),h.mm,h.ot,h.cd⟩
 rw[Cu c3];by_cases c4:i.Op=4
 ·rw[Cr c4];exact⟨TI h.rg (UW (all1 (Vo h.rg _))),h.mm,h.ot,h.cd⟩
 rw[Cu c4];by_cases c5:i.Op=5
 ·rw[Cr c5];exact⟨TI h.rg (h5 c5),h.mm,h.ot,h.cd⟩
 rw[Cu c5];by_cases c6:i.Op=6
 ·rw[Cr c6];exact⟨h.rg,h.mm,Lh h.ot (Vo h.rg _),h.cd⟩
 rw[Cu c6];by_cases c7:i.Op=7
 ·rw[Cr c7];exact⟨TI h.rg (Ef h.mm (Vo h.rg _)),h.mm,h.ot,h.cd⟩
 rw[Cu c7];by_cases c8:i.Op=8
 ·rw[Cr c8];exact⟨h.rg,JX h.mm (Vo h.rg _) (Vo h.rg _),h.ot,h.cd⟩
 rw[Cu c8]
 repeat' split
 all_goals exact⟨h.rg,h.mm,h.ot,h.cd⟩
def Dr{s:D.Path}{i:D.Ins}(h:vP A s):vP A (nmd s i):=by
 unfold nmd
 repeat' split
 all_goals exact⟨h.rg,h.mm,h.ot,h.cd⟩
def Dl{p:D.Program}{s:D.Path}{i:D.Ins}(h:vP A s)(h5:i.Op=5->aV A (inT p.W s.In)):∀x∈dvd p s i,vP A x:=by
 have one:∀{y x:D.Path},x∈[y]->vP A y->vP A x:=λhx h=>by rw[CB]at hx;subst hx;exact h
 have hq:=IV (p:=p) (i:=i) h.rg;have hf:=Dw (p:=p) (i:=i) h h5;have hn:=Dr (i:=i) h;intro x hx;unfold dvd at hx;split at hx
 ·exact one hx ⟨h.rg,h.mm,h.ot,h.cd⟩
 ·split at hx
  ·exact one hx hn
  ·split at hx
   ·exact one hx ⟨h.rg,h.mm,h.ot,h.cd⟩
   ·split at hx
    ·exact one hx hf
    ·split at hx
     ·exact one hx ⟨h.rg,h.mm,h.ot,h.cd⟩
     ·rcases CW.1 hx with rfl|hx
      ·exact⟨hn.rg,hn.mm,hn.ot,Lh h.cd hq⟩
      ·exact one hx ⟨hf.rg,hf.mm,hf.ot,Lh h.cd (UW (all1 hq))⟩
end
def InV(p:D.Program)(nm:Str)(w:Int):Prop:=∃k:Nat,(k:Int)<p.In/\nm=vn k/\w=p.W
def EO{p:D.Program}{k:Int}(h0:0<=k)(h1:k<p.In)(h3:p.In<=3):aV (InV p) (inT p.W k):=by
 unfold inT;rw[aV,aVs];refine⟨λ_ _=>⟨k.toNat,by omega,?_,rfl⟩,trivial⟩;have hk:k=0\/k=1\/k=2:=by omega
 rcases hk with rfl|rfl|rfl<;>decide
def Dy{p:D.Program}{s:D.Path}(hp:progB p=true)(hs:okP p s)(h:vP (InV p) s):∀x∈stp1 p s,vP (InV p) x:=by
 intro x hx;unfold stp1 at hx;by_cases c1:s.Code≠0\/s.Steps=400
 ·rw[Cr c1]at hx;cases hx
 rw[Cu c1]at hx;by_cases c2:s.Pc=len p.Code
 ·rw[Cr c2,CB]at hx;subst hx;exact⟨h.rg,h.mm,h.ot,h.cd⟩
 rw[Cu c2]at hx;by_cases c3:stk p {s with Steps:=s.Steps+1} (insAt p s.Pc)=0
 ·rw[Cu (λh=>h c3)]at hx;refine Dl (s:={s with Steps:=s.Steps+1}) ⟨h.rg,h.mm,h.ot,h.cd⟩ (λc5=>?_) x hx;have h5:s.In≠p.In:=λe=>by unfold stk at c3;rw[Cr ⟨c5,e⟩]at c3;cases c3
  have:=hs.inn;exact EO this.1 (by show s.In<p.In;omega) (UL hp).2
 ·rw[Cr c3,CB]at hx;subst hx;exact⟨h.rg,h.mm,h.ot,h.cd⟩
theorem QC{env:List (Str×Int)}:∀(d:Nat)(t:D.Term),cnt t<=d->nodeB t=true->(∀q∈vrs t,∃x,env.lookup q.1=some x/\wordB q.2 x=true)->∃r,wordB t.W r=true/\∀m:Nat,d+1<=m->Za m t (some env)=some r:=by
 intro d
 induction d with
 |zero=>intro t h;have:=VQ t;omega
 | succ d ih=>
  intro t hc hb hv;obtain⟨op,w,m,nm,ks⟩:=t;have hsz:=Tj hb;rw[Wv]at hv;obtain⟨⟨w1,w2⟩,h⟩:=Yy hb;rcases h with⟨rfl,rfl,hw⟩|⟨rfl,rfl,hw⟩|⟨ho,rfl,rfl,a,rfl,ha,rfl⟩|⟨o3,o16,rfl,rfl,a,b,rfl,ha,hb',hab,e1,e2⟩|⟨rfl,rfl,rfl,a,b,c,rfl,ha,hb',hcc,aw,bw,cw⟩|⟨rfl,rfl,rfl,a,b,rfl,ha,hb',hab⟩|⟨rfl,rfl,m0,m16,a,rfl,ha,haw⟩|⟨ho,rfl,rfl,a,rfl,ha,haw⟩
  ·exact⟨m,hw.2,λk hk=>by obtain⟨k,rfl⟩:∃j,k=j+1:=⟨k-1,by omega⟩;simp[Za]⟩
  ·obtain⟨x,hx,hwx⟩:=hv (nm,w) U;refine⟨x,hwx,λk hk=>?_⟩;have h1:=X3 ⟨22,w,m,nm,[]⟩;rw[X7]at h1;rw[Wd,h1]at hsz;obtain⟨k,rfl⟩:∃j,k=j+1:=⟨k-1,by omega⟩;unfold Za;simp only[Int.reduceBEq,Cn,Cy,BB,CF];rw[geto (by simp only at hsz;omega),hx];rfl
  ·rw[Cu (show¬op=22 by omega),ZL,Y5,Bj]at hv;rw[cnt1]at hc;obtain⟨x,hx,ex⟩:=ih a O ha hv;obtain⟨r,s1,s2⟩:=WU op a.W x;refine⟨r,EK s1 ho hx,λk hk=>?_⟩;obtain⟨k,rfl⟩:∃j,k=j+1:=⟨k-1,by omega⟩;unfold Za;rcases ho with rfl|rfl<;>simp[get0,ex k O,s2]
  ·rw[Cu (show¬op=22 by omega),ZL,ZL,Y5,Bj]at hv;rw[cnt2]at hc;obtain⟨x,hx,ex⟩:=ih a O ha (λq hq=>hv q (Ag _ hq));obtain⟨y,hy,ey⟩:=ih b O hb' (λq hq=>hv q (BK _ hq));obtain⟨r,s1,s2⟩:=YK op a.W x y;have hr:=QU s1 hx (hab▸hy);refine⟨r,?_,λk hk=>?_⟩
   ·by_cases o:op<=13
    ·show wordB w r=true;rw[<-e1 o];exact hr.1 ⟨o3,o⟩
    ·show wordB w r=true;rw[e2 O];exact hr.2 ⟨by omega,o16⟩
   ·obtain⟨k,rfl⟩:∃j,k=j+1:=⟨k-1,by omega⟩;unfold Za;simp[get0,get1,ex k O,ey k O,s2,show¬op=0 by omega,show¬op=22 by omega,show¬op=17 by omega,show¬op=1 by omega,show¬op=2 by omega,show¬op=19 by omega,show¬op=20 by omega,show¬op=21 by omega,show¬op=18 by omega]
  ·rw[ifn,ZL,ZL,ZL,Y5,Bj]at hv;rw[cnt3]at hc;obtain⟨x,hx,ex⟩:=ih a O ha (λq hq=>hv q (Ag _ hq));obtain⟨y,hy,ey⟩:=ih b O hb' (λq hq=>hv q (BK _ (Ag _ hq)));obtain⟨z,hz,ez⟩:=ih c O hcc (λq hq=>hv q (BK _ (BK _ hq)));refine⟨if x=1 then y else z,?_,λk hk=>?_⟩
   ·show wordB w _=true;split
    ·rw[<-bw];exact hy
    ·rw[<-cw];exact hz
   ·obtain⟨k,rfl⟩:∃j,k=j+1:=⟨k-1,by omega⟩;unfold Za;by_cases e:x=1<;>simp[get0,get1,get2',ex k O,ey k O,ez k O,e]
  ·rw[ifn,ZL,ZL,Y5,Bj]at hv;rw[cnt2]at hc;obtain⟨x,hx,ex⟩:=ih a O ha (λq hq=>hv q (Ag _ hq));obtain⟨y,hy,ey⟩:=ih b O hb' (λq hq=>hv q (BK _ hq));obtain⟨r,s1,s2⟩:=Uo a.W x b.W y;refine⟨r,by show wordB w r=true;rw[<-hab];exact Kk s1 hx hy O,λk hk=>?_⟩;obtain⟨k,rfl⟩:∃j,k=j+1:=⟨k-1,by omega⟩;unfold Za;simp[get0,get1,ex k O,ey k O,s2]
  ·rw[ifn,ZL,Y5,Bj]at hv;rw[cnt1]at hc;obtain⟨x,hx,ex⟩:=ih a O ha hv;obtain⟨r,s1,s2⟩:=TL (w:=a.W) (a:=x) (l:=m) (n:=w) O O;refine⟨r,II s1 hx m0 w1 haw,λk hk=>?_⟩;obtain⟨k,rfl⟩:∃j,k=j+1:=⟨k-1,by omega⟩;unfold Za;simp[get0,ex k O,s2]
  ·rw[Cu (show¬op=22 by omega),ZL,Y5,Bj]at hv;rw[cnt1]at hc;obtain⟨x,hx,ex⟩:=ih a O ha hv;obtain⟨r,s1,s2⟩:=Us a.W x w (op==21);refine⟨r,Mq s1 hx haw w2,λk hk=>?_⟩;obtain⟨k,rfl⟩:∃j,k=j+1:=⟨k-1,by omega⟩;unfold Za;rcases ho with rfl|rfl<;>simp at s2<;>simp[get0,ex k O,s2]
def JH{c:D.Term}(hf:fine c)(h0:c.Op≠0)(hw:c.W=1)(hok:(mkT 1 1 0 [c]).2=true):(∃e,c=⟨1,1,0,⟨[]⟩,[e]⟩/\nodeB e=true/\e.W=1/\(mkT 1 1 0 [c]).1=e)\/(mkT 1 1 0 [c]).1=⟨1,1,0,⟨[]⟩,[c]⟩:=by
 unfold mkT at hok⊢;split at hok
 case isFalse=>cases hok
 rename_i hb;rw[Cr hb];have hn:=OP hb;have hr:=(Rb hn.1 hn.2).2.2.2.1;rw[show fuel=(fuel-8)+8 from by unfold fuel;rfl,Ux U U (by simp[h0])]at hr;simp only[BB,Za3,CF]at hr;unfold Yr at hr;simp only[get0,Cm]at hr;by_cases e:c.Op=1
 ·obtain⟨d,ec,hd,hdw⟩:=Si hf.1 e;rw[hw]at ec hdw;rw[Cr ap,show c.Kids=[d] by rw[ec]]at hr;simp only[get0,Cm,Option.some.injEq]at hr;exact .inl ⟨d,ec,hd,hdw,hr.symm⟩
 ·rw[Cu ap]at hr;exact .inr (Option.some.inj hr).symm
def Uq{x:Int}(h:wordB 1 x=true):(x=0\/x=1)/\ZZ 1 1 x=some (1-x):=by
 have hx:=(Zv O O x).1 h;have hx':x=0\/x=1:=by
  have:(2:Int)^(1:Int).toNat=2:=by decide
  omega
 refine⟨hx',?_⟩;unfold ZZ;rw[YB,h];rcases hx' with rfl|rfl<;>rfl
def Eb{env:List (Str×Int)}{c:D.Term}{x:Int}(hf:fine c)(h0:c.Op≠0)(hw:c.W=1)(hok:(mkT 1 1 0 [c]).2=true)(hv:∀q∈vrs c,∃x,env.lookup q.1=some x/\wordB q.2 x=true)
  (hx:∀m:Nat,241<=m->Za m c (some env)=some x):∀m:Nat,242<=m->Za m (mkT 1 1 0 [c]).1 (some env)=some (1-x):=by
 intro m hm;rcases JH hf h0 hw hok with⟨e,ec,he,hew,ed⟩|ed
 ·have hce:cnt e<=240:=by have:=hf.2;rw[ec,cnt1]at this;omega
  have hve:∀q∈vrs e,∃x,env.lookup q.1=some x/\wordB q.2 x=true:=λq hq=>hv q (by rw[ec,Wv,ifn,ZL,Y5,Bj];exact hq);obtain⟨y,hy,ey⟩:=QC 240 e hce he hve;rw[hew]at hy;obtain⟨hy',hu⟩:=Uq hy;have h1:=hx 242 O;rw[ec]at h1;unfold Za at h1;simp[get0,ey 241 O,hew,hu]at h1;rw[ed,ey m O,<-h1];congr 1;omega
 ·obtain⟨y,hy,ey⟩:=QC 240 c hf.2 hf.1 hv;have hxy:x=y:=Option.some.inj ((hx 241 O).symm.trans (ey 241 O));rw[hw]at hy;obtain⟨hy',hu⟩:=Uq hy;rw[ed,hxy];obtain⟨m,rfl⟩:∃j,m=j+1:=⟨m-1,by omega⟩;unfold Za;simp[get0,ey m O,hw,hu]
def envI(w:Int)(l:List Int):List (Str×Int):=((vals w l).map λx=>(x.Name,x.N)).reverse
theorem JS{w:Int}{l:List Int}(hl:l.length<=3){k:Nat}(hk:k<l.length):∃x,fnd (vals w l) (vn k)=some ⟨vn k,w,x⟩/\x∈l:=by
 have n01:decide (vn 0=vn 1)=false:=by decide
 have n02:decide (vn 0=vn 2)=false:=by decide
 have n12:decide (vn 1=vn 2)=false:=by decide
 have e:∀j,decide (vn j=vn j)=true:=λj=>by simp
 match l,hl,hk with
 |[a],_,hk=>
  obtain rfl:k=0:=by simp at hk;omega
  exact⟨a,by simp[vals,fnd],by simp⟩
 |[a,b],_,hk=>
  have:k=0\/k=1:=by simp at hk;omega
  rcases this with rfl|rfl
  ·exact⟨a,by simp[vals,fnd],by simp⟩
  ·exact⟨b,by simp[vals,fnd,List.find?,n01],by simp⟩
 |[a,b,c],_,hk=>
  have:k=0\/k=1\/k=2:=by simp at hk;omega
  rcases this with rfl|rfl|rfl
  ·exact⟨a,by simp[vals,fnd],by simp⟩
  ·exact⟨b,by simp[vals,fnd,List.find?,n01],by simp⟩
  ·exact⟨c,by simp[vals,fnd,List.find?,n02,n12],by simp⟩
def XC{p:D.Program}{l:List Int}(h:inB p l=true):progB p=true/\l.all (wordB p.W)=true/\(l.length:Int)=p.In/\l.length<=3:=by
 have h3:=OH h;unfold inB at h;simp only[Co,Bl,Zb]at h;exact⟨h.1,h3.1,h.2.2,h3.2⟩
def QZ{p:D.Program}{l:List Int}(h:inB p l=true){q:Str×Int}(hq:InV p q.1 q.2):(∃x,(envI p.W l).lookup q.1=some x/\wordB q.2 x=true)/\okV (vals p.W l) q=true:=by
 obtain⟨_,hw,hn,h3⟩:=XC h;obtain⟨k,hk,e1,e2⟩:=hq;obtain⟨x,hx,hm⟩:=JS (w:=p.W) h3 (k:=k) O;rw[Cs]at hw;unfold okV envI;rw[Nk (·.N) (Sv h3 (Cs.2 hw)).nd,e1,e2,hx];exact⟨⟨x,rfl,hw x hm⟩,by simp⟩
theorem PL{w:Int}:∀(l g:List (Str×Int)),(∀s v,g.lookup s=some v->v=w)->(∀q∈l,q.2=w)->(runV g l).isSome=true
 |[],g,_,_=>rfl
 | q::l,g,hg,hl=>by
  unfold runV stp;have hq:=hl q U;cases e:g.lookup q.1 with
  |some v=>
   simp only;rw[Cr ((hg _ _ e).trans hq.symm),Cm];exact PL l g hg λy hy=>hl y aq
  |none=>
   rw[Cm];refine PL l (q::g) (λs v h=>?_) λy hy=>hl y aq;rw[CO]at h;split at h
   ·exact(Option.some.inj h).symm.trans hq
   ·exact hg _ _ h
def SY{p:D.Program}{t:D.Term}(hf:fine t)(ha:aV (InV p) t):∀q∈vrs t,InV p q.1 q.2:=(Dv (msz t+1)).1 t O hf.1 ha
def GX{p:D.Program}{t:D.Term}(hf:fine t)(ha:aV (InV p) t):termB t=true:=by
 unfold termB
 rw[hf.1,PL (w:=p.W) (vrs t) [] (λs v h=>by cases h) λq hq=>by
  obtain⟨k,_,_,e⟩:=SY hf ha q hq
  exact e]
 simp[hf.2]
def SA{p:D.Program}{l:List Int}(h:inB p l=true){t:D.Term}(hf:fine t)(ha:aV (InV p) t):∃r,wordB t.W r=true/\(∀m:Nat,241<=m->Za m t (some (envI p.W l))=some r)/\ev (vals p.W l) t=(r,true):=by
 obtain⟨_,hw,hn,h3⟩:=XC h;have hv:=SY hf ha;obtain⟨r,hr,er⟩:=QC (env:=envI p.W l) 240 t hf.2 hf.1 λq hq=>(QZ h (hv q hq)).1;refine⟨r,hr,er,?_⟩;have henv:EnvOf (vals p.W l) (envI p.W l):=λs=>Nk (·.N) (Sv h3 hw).nd s;obtain⟨r',e1,e2,e3⟩:=OE (by rw[SH];omega) henv 240 t hf.2 hf.1 (by have:=VM hf;omega) fuel 241 aa O;have hall:(vrs t).all (okV (vals p.W l))=true:=Cs.2 λq hq=>(QZ h (hv q hq)).2;have:=e3 hall;rw[er 241 O]at this;unfold ev;rw[e1,hall,Option.some.inj this];rfl
structure gP(p:D.Program)(s:D.Path):Prop where
 ok:okP p s
 vs:vP (InV p) s
 tn:∀x∈s.Turns,0<=x/\x<=1
def Nj{p:D.Program}{w:Int}{l:List D.Term}(hf:fw w l)(ha:aL (InV p) l):tsB l w=true:=by
 unfold tsB;rw[Cs];intro t ht;rw[GX (hf t ht).1 (ha t ht),(hf t ht).2];simp
def gP.path{p:D.Program}{s:D.Path}(hp:progB p=true)(h:gP p s):pathB p s=true:=by
 have k:=h.ok;unfold pathB;have e1:(s.Stack.all λx=>decide (0<=x/\x<=len p.Code))=true:=Cs.2 λx hx=>by simpa using k.sp x hx
 have e2:(s.Turns.all λx=>decide (0<=x/\x<=1))=true:=Cs.2 λx hx=>by simpa using h.tn x hx
 rw[hp,e1,e2,Nj k.rf h.vs.rg,Nj k.mf h.vs.mm,Nj k.of h.vs.ot,Nj k.cf h.vs.cd];have a1:=k.pc;have a2:=k.rl;have a3:=k.ml;have a4:=k.sl;have a5:=k.inn;have a6:=k.ol;have a7:=k.cd;have a8:=k.st;have a9:=k.cl;have a10:=k.tl;simp only[Zb]at a1⊢;simp only[Ad,Bi,Co,Cw,Bl]
 and_intros<;>first|exact decide_eq_true O|omega|trivial
def Ih(p:D.Program)(s:D.Path)(i:D.Ins):(flw p s i).1.Cond=s.Cond/\(flw p s i).1.Turns=s.Turns:=by
 have h:=GK (p:=p) (s:=s) (i:=i) (c:=s.Cond) (t:=s.Turns);exact⟨congrArg (λq:D.Path×Bool=>q.1.Cond) h,congrArg (λq:D.Path×Bool=>q.1.Turns) h⟩
def Ie(s:D.Path)(i:D.Ins):(nmd s i).Cond=s.Cond/\(nmd s i).Turns=s.Turns:=by
 have h:=Ib (s:=s) (i:=i) (c:=s.Cond) (t:=s.Turns);have h1:=congrArg D.Path.Cond h;have h2:=congrArg D.Path.Turns h;exact⟨h1,h2⟩
def Ja{p:D.Program}{s:D.Path}{i:D.Ins}:(∃t,dvd p s i=[t]/\t.Cond=s.Cond/\t.Turns=s.Turns)\/
  ∃t u c,dvd p s i=[t,u]/\t.Cond=s.Cond++[c]/\u.Cond=s.Cond++[(mkT 1 1 0 [c]).1]/\t.Turns=s.Turns++[1]/\u.Turns=s.Turns++[0]/\fine c/\c.W=1/\c.Op≠0/\(mkT 1 1 0 [c]).2=true:=by
 unfold dvd;split
 ·exact .inl ⟨_,rfl,rfl,rfl⟩
 rename_i q1;split
 ·exact .inl ⟨_,rfl,Ie s i⟩
 split
 ·exact .inl ⟨_,rfl,rfl,rfl⟩
 split
 ·exact .inl ⟨_,rfl,Ih p s i⟩
 rename_i q4;split
 ·exact .inl ⟨_,rfl,rfl,rfl⟩
 rename_i q5;have q1':(qst p s.Regs i).2.2=true:=by simpa using q1
 have q6:(mkT 1 1 0 [(qst p s.Regs i).1]).2=true/\s.Cond.length≠60/\s.Turns.length≠60:=by simpa using q5
 have ha:(qst p s.Regs i).2.1=true:=by
  cases h:(qst p s.Regs i).2.1
  ·exact absurd (.inl h) q4
  ·rfl
 have hf:=UM ha q1';exact .inr ⟨_,_,(qst p s.Regs i).1,rfl,rfl,rfl,rfl,rfl,hf.1,hf.2,λh=>q4 (.inr h),q6.1⟩
def Tv{p:D.Program}{s:D.Path}:stp1 p s=[]\/(∃t,stp1 p s=[t]/\t.Cond=s.Cond/\t.Turns=s.Turns)\/
  ∃t u c,stp1 p s=[t,u]/\t.Cond=s.Cond++[c]/\u.Cond=s.Cond++[(mkT 1 1 0 [c]).1]/\t.Turns=s.Turns++[1]/\u.Turns=s.Turns++[0]/\fine c/\c.W=1/\c.Op≠0/\(mkT 1 1 0 [c]).2=true:=by
 unfold stp1;split
 ·exact .inl rfl
 split
 ·exact .inr (.inl ⟨_,rfl,rfl,rfl⟩)
 split
 ·exact .inr (.inl ⟨_,rfl,rfl,rfl⟩)
 ·exact .inr (Ja (s:={s with Steps:=s.Steps+1}))
def gP.step{p:D.Program}{s:D.Path}(hp:progB p=true)(h:gP p s):∀x∈stp1 p s,gP p x:=by
 intro x hx;refine⟨Lc hp h.ok x hx,Dy hp h.ok h.vs x hx,?_⟩;have app:∀k:Int,0<=k/\k<=1->∀y∈s.Turns++[k],0<=y/\y<=1:=λk hk y hy=>by
  rcases CQ.1 hy with hy|hy
  ·exact h.tn y hy
  ·rw[CB]at hy;subst hy;exact hk
 rcases Tv (p:=p) (s:=s)with e|⟨t,e,-,e2⟩|⟨t,u,c,e,-,-,e3,e4,-⟩
 ·rw[e]at hx;cases hx
 ·rw[e,CB]at hx;subst hx;rw[e2];exact h.tn
 ·rw[e]at hx;rcases CW.1 hx with rfl|hx
  ·rw[e3];exact app 1 O
  ·rw[CB]at hx;subst hx;rw[e4];exact app 0 O
def one(v:List D.Value)(c:D.Term):Bool:=(ev v c).2&&(ev v c).1==1
structure hP(p:D.Program)(l:List Int)(s:D.Path):Prop where
 good:gP p s
 held:s.Cond.all (one (vals p.W l))=true
def Kr{p:D.Program}{l:List Int}{s:D.Path}(hi:inB p l=true)(h:gP p s):holdB p s l=s.Cond.all (one (vals p.W l)):=by
 unfold holdB;rw[h.path (XC hi).1,hi];rfl
def nxt(p:D.Program)(l:List Int)(s:D.Path):List D.Path->Option D.Path
 |[]=>none
 |[t]=>some t
 |t::u::_=>if(t.Cond.drop s.Cond.length).all (one (vals p.W l))=true then some t else some u
noncomputable def runF(p:D.Program)(l:List Int):Nat->D.Path->D.Path
 |0,s=>s
 |k+1,s=>match nxt p l s (stp1 p s)with
  |none=>s
  |some t=>runF p l k t
def FQ{p:D.Program}{l:List Int}(hi:inB p l=true){c:D.Term}(hf:fine c)(ha:aV (InV p) c){r:Int}(hr:∀m:Nat,241<=m->Za m c (some (envI p.W l))=some r):one (vals p.W l) c=(r==1):=by
 obtain⟨r',_,h2,h3⟩:=SA hi hf ha;have:r=r':=Option.some.inj ((hr 241 O).symm.trans (h2 241 O));unfold one;rw[h3,this];rfl
def GG{p:D.Program}{l:List Int}{s:D.Path}(hi:inB p l=true)(h:hP p l s):stp1 p s=[]\/(∃t,stp1 p s=[t]/\hP p l t)\/
  ∃t u c r,stp1 p s=[t,u]/\gP p t/\gP p u/\t.Cond=s.Cond++[c]/\(∀m:Nat,241<=m->Za m c (some (envI p.W l))=some r)/\t.Cond.all (one (vals p.W l))=(r==1)/\u.Cond.all (one (vals p.W l))= !(r==1):=by
 have hp:=(XC hi).1;have hg:=h.good.step hp;rcases Tv (p:=p) (s:=s)with e|⟨t,e,e2,-⟩|⟨t,u,c,e,e2,e3,-,-,hf,hw,h0,hok⟩
 ·exact .inl e
 ·exact .inr (.inl ⟨t,e,hg t (by rw[e];simp),by rw[e2];exact h.held⟩)
 ·have gt:=hg t (by rw[e];simp);have gu:=hg u (by rw[e];simp);have ha:aV (InV p) c:=gt.vs.cd c (by rw[e2];simp);obtain⟨r,hr,er,hv⟩:=SA hi hf ha;have hn:=Eb hf h0 hw hok (λq hq=>(QZ hi (SY hf ha q hq)).1) er;have hfn:fine (mkT 1 1 0 [c]).1:=(Xd hok).1;have han:aV (InV p) (mkT 1 1 0 [c]).1:=gu.vs.cd _ (by rw[e3];simp);have hb:=(Uq (hw▸hr)).1;obtain⟨r2,hr2,er2,hv2⟩:=SA hi hfn han;have h2:r2=1-r:=Option.some.inj ((er2 242 O).symm.trans (hn 242 O));refine .inr (.inr ⟨t,u,c,r,e,gt,gu,e2,er,?_,?_⟩)
  ·rw[e2,Ah,h.held];simp[one,hv]
  ·rw[e3,Ah,h.held];simp only[BQ,List.all_nil,Ad,Bi,one,hv2,h2];rcases hb with rfl|rfl<;>decide
def UI{p:D.Program}{l:List Int}{s:D.Path}(hi:inB p l=true)(h:hP p l s):(stp1 p s=[]/\nxt p l s (stp1 p s)=none)\/
  (∃t,stp1 p s=[t]/\nxt p l s (stp1 p s)=some t/\hP p l t)\/
  ∃t u c r,stp1 p s=[t,u]/\gP p t/\gP p u/\t.Cond=s.Cond++[c]/\(∀m:Nat,241<=m->Za m c (some (envI p.W l))=some r)/\((r=1/\nxt p l s (stp1 p s)=some t/\hP p l t)\/(r≠1/\holdB p t l=false/\nxt p l s (stp1 p s)=some u/\hP p l u)):=by
 rcases GG hi h with e|⟨t,e,ht⟩|⟨t,u,c,r,e,gt,gu,e2,er,h1,h2⟩
 ·exact .inl ⟨e,by rw[e];rfl⟩
 ·exact .inr (.inl ⟨t,e,by rw[e];rfl,ht⟩)
 ·have h3:(t.Cond.drop s.Cond.length).all (one (vals p.W l))=(r==1):=by
   rw[e2,Ah,h.held,Bi]at h1;rw[e2,List.drop_left];exact h1
  refine .inr (.inr ⟨t,u,c,r,e,gt,gu,e2,er,?_⟩);by_cases hr:r=1
  ·have hb:(r==1)=true:=by simpa using hr
   rw[hb]at h1 h3;exact .inl ⟨hr,by rw[e];exact Cr h3,gt,h1⟩
  ·have hb:(r==1)=false:=by simpa using hr
   rw[hb]at h1 h2 h3;exact .inr ⟨hr,by rw[Kr hi gt];exact h1,by rw[e];exact Cu (by rw[h3];decide),gu,h2⟩
theorem Uf{p:D.Program}{l:List Int}(hi:inB p l=true):∀(k:Nat)(s:D.Path),hP p l s->hP p l (runF p l k s)
 |0,s,h=>h
 |k+1,s,h=>by
  unfold runF;rcases UI hi h with⟨_,e⟩|⟨t,_,e,ht⟩|⟨t,u,c,r,_,_,_,_,_,⟨_,e,ht⟩|⟨_,_,e,hu⟩⟩
  ·rw[e];exact h
  ·rw[e];exact Uf hi k t ht
  ·rw[e];exact Uf hi k t ht
  ·rw[e];exact Uf hi k u hu
def hP0{p:D.Program}{l:List Int}(hi:inB p l=true):hP p l (path0 p):=by
 have hp:=(XC hi).1;refine⟨⟨PI hp,⟨?_,?_,QR,QR⟩,λx hx=>by cases hx⟩,rfl⟩
 ·intro t ht;rw[(AU.1 ht).2];exact Ni
 ·intro t ht;rw[(AU.1 ht).2];exact Ni
def Jf{v:List D.Value}(h:ValsOk v){n:Nat}(hn:1000<=n):iterN (λ(s1:Int×(List (Str×Int)))=>if(decide (s1.1<(len v)))then(get? v s1.1).bind λx2=>(mputE? fitS fitZ s1.2 x2.Name x2.N).bind λx3=>some (.inl ((w64 (s1.1+1)),x3))else some (.inr (s1.2))) n (0,[])=some (v.map λx=>(x.Name,x.N)).reverse:=by
  have hlv:=h.len;obtain⟨r,g1,g2⟩:=Yg (l:=v) (n:=n) (σ:=List (Str×Int)) (ρ:=List (Str×Int)) (B:=λ(s1:Int×(List (Str×Int)))=>if(decide (s1.1<(len v)))then(get? v s1.1).bind λx2=>(mputE? fitS fitZ s1.2 x2.Name x2.N).bind λx3=>some (.inl ((w64 (s1.1+1)),x3))else some (.inr (s1.2))) (λk a=>((k:Int),a)) (λys a=>∃pre,pre++ys=v/\a=(pre.map λx=>(x.Name,x.N)).reverse)
      (λr=>r=(v.map λx=>(x.Name,x.N)).reverse)
      (λk x xs a hk' hx hlen⟨pre,h1,h2⟩=>by
        have hd:decide ((k:Int)<len v)=true:=by rw[Zb];simp;omega
        have hpl:pre.length<=v.length:=by rw[<-h1];simp
        have hxv:=CV hx;have hw:=h.word x hxv;obtain⟨b1,b2⟩:=Sz hw;subst h2;simp only[hd,CF,get?_nat,hx,Cm];rw[MV (h.name x hxv) b1 b2 ab]
        refine .inl ⟨(x.Name,x.N)::(pre.map λx=>(x.Name,x.N)).reverse,by simp only[Cm];rw[Zf];rfl,pre++[x],by rw[Bo];exact h1,by simp⟩)
      (λa⟨pre,h1,h2⟩=>by
        have hd:decide ((v.length:Int)<len v)=false:=by rw[Zb];simp
        simp only[hd,Cn,Cy];rw[Bj]at h1;subst h1
        exact⟨_,rfl,h2⟩) (a:=[]) ⟨[],rfl,rfl⟩ O
  rw[show((0:Nat):Int)=0 from rfl]at g1;rw[g1,g2]
theorem Ip{p:D.Program}{l:List Int}{f:Int}(hi:inB p l=true)(hf:f<=400):∀(k:Nat)(j:Int)(s:D.Path)(n:Nat),hP p l s->0<=j->j+k=f->k<n->
    ∃q,iterN (λ(s2:Int×TP)=>if (decide (s2.1<f))then(Yl fuel p (D.Path.mk s2.2.1 s2.2.2.1 s2.2.2.2.1 s2.2.2.2.2.1 s2.2.2.2.2.2.1 s2.2.2.2.2.2.2.1 s2.2.2.2.2.2.2.2.1 s2.2.2.2.2.2.2.2.2.1 s2.2.2.2.2.2.2.2.2.2.1 s2.2.2.2.2.2.2.2.2.2.2)).bind λx5=>if((len x5)==0)then some (.inr (.inr (D.Path.mk s2.2.1 s2.2.2.1 s2.2.2.2.1 s2.2.2.2.2.1 s2.2.2.2.2.2.1 s2.2.2.2.2.2.2.1 s2.2.2.2.2.2.2.2.1 s2.2.2.2.2.2.2.2.2.1 s2.2.2.2.2.2.2.2.2.2.1 s2.2.2.2.2.2.2.2.2.2.2)))else(if((len x5)==2)then(get? x5 0)else some default).bind λx6=>(if((len x5)==2)then(get? x6.Cond (len s2.2.2.2.2.2.2.2.2.2.1))else some default).bind λx7=>(if((len x5)==2)then(Za fuel x7 (some (envI p.W l)))else some default).bind λx8=>if(((len x5)==2)&&(x8 !=1))then(get? x5 1).bind λx9=>some (.inl ((w64 (s2.1+1)),x9.Pc,x9.Regs,x9.Mem,x9.Stack,x9.In,x9.Out,x9.Code,x9.Steps,x9.Cond,x9.Turns))else(get? x5 0).bind λx10=>some (.inl ((w64 (s2.1+1)),x10.Pc,x10.Regs,x10.Mem,x10.Stack,x10.In,x10.Out,x10.Code,x10.Steps,x10.Cond,x10.Turns))else some (.inr (.inl (s2.2.1,s2.2.2.1,s2.2.2.2.1,s2.2.2.2.2.1,s2.2.2.2.2.2.1,s2.2.2.2.2.2.2.1,s2.2.2.2.2.2.2.2.1,s2.2.2.2.2.2.2.2.2.1,s2.2.2.2.2.2.2.2.2.2.1,s2.2.2.2.2.2.2.2.2.2.2))):Int×TP->Option ((Int×TP)⊕(TP⊕D.Path))) n (j,tupP s)=some q/\(q= .inl (tupP (runF p l k s))\/q= .inr (runF p l k s)):=by
  have hp:=(XC hi).1;intro k
  induction k with
  | zero=>
    intro j s n hs hj hjk hn;refine⟨_,YG ?_ hn,.inl rfl⟩;simp only;rw[Cu ab];rfl
  | succ k ih=>
    intro j s n hs hj hjk hn;obtain⟨n,rfl⟩:∃q,n=q+1:=⟨n-1,by omega⟩;have hst:=Oe hp hs.good.ok;have hd:decide (j<f)=true:=by simp;omega
    have wj:w64 (j+1)=j+1:=Zf;have hst':Yl fuel p (D.Path.mk s.Pc s.Regs s.Mem s.Stack s.In s.Out s.Code s.Steps s.Cond s.Turns)=some (stp1 p s):=hst;have two:∀{t u:D.Path},stp1 p s=[t,u]->(len (stp1 p s)==0)=false/\(len (stp1 p s)==2)=true:=λe=>by rw[e];exact⟨rfl,rfl⟩
    unfold runF;rcases UI hi hs with⟨e,e2⟩|⟨t,e,e2,ht⟩|⟨t,u,c,r,e,gt,gu,ec,er,hor⟩
    · rw[e2]
      refine⟨_,YG ?_ (by omega:0<n+1),.inr rfl⟩;simp only[tupP,hd,CF];rw[hst',e];rfl
    · rw[e2]
      simp only;obtain⟨q,g1,g2⟩:=ih (j+1) t n ht O O O;refine⟨q,?_,g2⟩;rw[<-g1];refine XM ?_;simp only[tupP,hd,CF];rw[hst',e,wj];rfl
    · have hcond:get? t.Cond (len s.Cond)=some c:=by
        rw[ec,Zb,get?_nat,Bg (CK _)];simp
      have hev:=er fuel aa;obtain⟨z1,z2⟩:=two e;rcases hor with⟨hr,e2,ht⟩|⟨hr,hnt,e2,hu⟩
      · rw[e2]
        simp only;obtain⟨q,g1,g2⟩:=ih (j+1) t n ht O O O;refine⟨q,?_,g2⟩;rw[<-g1];refine XM ?_;simp only[tupP,hd,CF];rw[hst'];simp only[Cm,z1,z2,Cn,Cy,CF,Bi];rw[e,show get? [t,u] 0=some t from rfl];simp only[Cm];rw[hcond];simp only[Cm];rw[hev];simp only[Cm];rw[Cu (by simp[hr]),wj]
      · rw[e2]
        simp only;obtain⟨q,g1,g2⟩:=ih (j+1) u n hu O O O;refine⟨q,?_,g2⟩;rw[<-g1];refine XM ?_;simp only[tupP,hd,CF];rw[hst'];simp only[Cm,z1,z2,Cn,Cy,CF,Bi];rw[e,show get? [t,u] 0=some t from rfl];simp only[Cm];rw[hcond];simp only[Cm];rw[hev];simp only[Cm];rw[Cr (by simp[hr]),wj];rfl
noncomputable def pathF(p:D.Program)(l:List Int)(f:Int):D.Path×Bool:=if inB p l=true/\0<=f/\f<=400 then(runF p l f.toNat (path0 p),true)else(pz,false)
def Lg{p:D.Program}{l:List Int}{f:Int}(hl:p.Code.length<=1048576)(hll:l.length<=1048576):Wx fuel p l f=some (pathF p l f):=by
 unfold Wx pathF YR;rw[Qm hl hll];simp only[Cm];by_cases c1:inB p l=true
 ·rw[c1];simp only[Cz,Cn,Cy,Cm,CY];by_cases c3:0<=f/\f<=400
  ·rw[Cu ab,Cr ⟨trivial,c3⟩];obtain⟨hp,hw,_,h3⟩:=XC c1;unfold Vp;rw[Rv h3];simp only[Cm];rw[Jf (Sv h3 hw) aa,QV hp];simp only[Cm];obtain⟨q,hr,hq⟩:=Ip c1 c3.2 f.toNat 0 (path0 p) fuel (hP0 c1) O O aa;have hf:=(Uf c1 f.toNat _ (hP0 c1)).good.ok.fine hp;rw[show(tupP (path0 p))=((path0 p).Pc,(path0 p).Regs,(path0 p).Mem,(path0 p).Stack,(path0 p).In,(path0 p).Out,(path0 p).Code,(path0 p).Steps,(path0 p).Cond,(path0 p).Turns)from rfl]at hr;have hr':=hr;unfold envI at hr';rw[hr'];have hc:=NC hf;rcases hq with rfl|rfl
   ·simp only[Cm,tupP];rw[show Y9 fuel (D.Path.mk (runF p l f.toNat (path0 p)).Pc (runF p l f.toNat (path0 p)).Regs (runF p l f.toNat (path0 p)).Mem (runF p l f.toNat (path0 p)).Stack (runF p l f.toNat (path0 p)).In (runF p l f.toNat (path0 p)).Out (runF p l f.toNat (path0 p)).Code (runF p l f.toNat (path0 p)).Steps (runF p l f.toNat (path0 p)).Cond (runF p l f.toNat (path0 p)).Turns)=_ from hc];rfl
   ·simp only[Cm];rw[hc];rfl
  ·have e:(!(decide (f>=0)&&decide (f<=400)))=true:=by simp;omega
   rw[Cr e,Cu (λh=>c3 h.2)]
 ·have c1':inB p l=false:=by simpa using c1
  rw[Cu (show¬(inB p l=true/\0<=f/\f<=400)from λh=>c1 h.1),c1'];rfl
def TR{p:D.Program}{l:List Int}(hl:l.length<=3)(hw:l.all (wordB p.W)=true){ts:List D.Term}{w:Int}(hts:tsB ts w=true)(hs:sml ts)(hlen:ts.length<=1000):
  YC fuel ts (vals p.W l)=some (if ts.all (λt=>(ev (vals p.W l) t).2)=true then(ts.map λt=>(ev (vals p.W l) t).1,true)else([],false)):=by
 have hev:∀t∈ts,Ye fuel t (vals p.W l)=some (ev (vals p.W l) t):=λt ht=>by
  unfold tsB at hts;rw[Cs]at hts;have:=hts t ht;simp only[Co]at this;exact(Kl hl hw this.1 (OV hs ht)).2
 unfold YC;have hm:mk? (len ts) (0:Int)=some (List.replicate ts.length 0):=by
  unfold mk?;rw[Zb,Cr aD];simp
 rw[hm];simp only[Cm];obtain⟨r,g1,g2⟩:=Yg (l:=ts) (n:=fuel) (σ:=List Int) (ρ:=(List Int)⊕((List Int)×Bool)) (B:=λ(s1:Int×(List Int))=>if(decide (s1.1<(len ts)))then(get? ts s1.1).bind λx2=>(Ye fuel x2 (vals p.W l)).bind λx3=>if(!x3.2)then some (.inr (.inr (([]:List Int),false)))else(set? s1.2 s1.1 x3.1).bind λx4=>some (.inl ((w64 (s1.1+1)),x4))else some (.inr (.inl (s1.2)))) (λk a=>((k:Int),a)) (λys a=>∃pre,pre++ys=ts/\a=(pre.map λt=>(ev (vals p.W l) t).1)++List.replicate ys.length 0/\pre.all (λt=>(ev (vals p.W l) t).2)=true)
  (λr=>r=if ts.all (λt=>(ev (vals p.W l) t).2)=true then(.inl (ts.map λt=>(ev (vals p.W l) t).1):(List Int)⊕((List Int)×Bool))else .inr ([],false))
  (λk x xs a hk' hx hlen'⟨pre,h1,h2,h3⟩=>by
   have hd:decide ((k:Int)<len ts)=true:=by rw[Zb];simp;omega
   have hpl:pre.length=k:=by
    have:=congrArg List.length h1;simp at this hlen';omega
   simp only[hd,CF,get?_nat,hx,Cm,hev x (CV hx)];cases c:(ev (vals p.W l) x).2
   ·refine .inr ⟨_,rfl, ?_⟩;have:ts.all (λt=>(ev (vals p.W l) t).2)=false:=by rw[<-h1,Ah,BQ,c];simp
    rw[this];rfl
   ·simp only[Cz,Cn,Cy];rw[set?_nat (by rw[h2];simp;omega)];refine .inl ⟨(pre++[x]).map (λt=>(ev (vals p.W l) t).1)++List.replicate xs.length 0,?_,pre++[x],by rw[Bo];exact h1,rfl,by simp[h3,c]⟩;simp only[Cm];rw[Zf,h2];have e:(pre.map λt=>(ev (vals p.W l) t).1).length=k:=by simp[hpl]
    rw[Zac _ _ O,e,AJ]
    simp[Zak])
  (λa⟨pre,h1,h2,h3⟩=>by
   have hd:decide ((ts.length:Int)<len ts)=false:=by rw[Zb];simp
   simp only[hd,Cn,Cy];rw[Bj]at h1;subst h1
   exact⟨_,rfl,by rw[h3,h2];simp⟩) (a:=List.replicate ts.length 0) ⟨[],rfl,rfl,rfl⟩ aa
 rw[show((0:Nat):Int)=0 from rfl]at g1;rw[g1,g2];cases ts.all (λt=>(ev (vals p.W l) t).2)<;>rfl
def st0:D.State:=⟨0,[],[],[],0,[],0,0⟩
def evs(p:D.Program)(l:List Int)(ts:List D.Term):List Int×Bool:=if ts.all (λt=>(ev (vals p.W l) t).2)=true then(ts.map λt=>(ev (vals p.W l) t).1,true)else([],false)
def evalS(p:D.Program)(s:D.Path)(l:List Int):D.State×Bool:=
 if holdB p s l=true then
  if(((!(evs p l s.Regs).2)||(!(evs p l s.Mem).2))||(!(evs p l s.Out).2))=true then(st0,false)
  else(⟨s.Pc,(evs p l s.Regs).1,(evs p l s.Mem).1,s.Stack,s.In,(evs p l s.Out).1,s.Code,s.Steps⟩,true)
 else(st0,false)
def Mw{p:D.Program}{s:D.Path}(h:pathB p s=true):tsB s.Regs p.W=true/\tsB s.Mem p.W=true/\tsB s.Out p.W=true/\s.Regs.length<=1000/\s.Mem.length<=1000/\s.Out.length<=1000/\s.Stack.length<=1000:=by
 have hm:progB p=true/\len s.Mem=p.Mem:=by
  unfold pathB at h;simp only[Co,Cw,Bl]at h;exact⟨by grind,by grind⟩
 have hp:p.Mem<=6:=by
  have:=hm.1;unfold progB at this;simp only[Co,Cw]at this;omega
 have hml:=hm.2;rw[Zb]at hml;unfold pathB at h;simp only[Co,Cw,Bl,Zb]at h;have h1:(s.Regs.length:Int)=4:=by grind
 have h2:(s.Out.length:Int)<=6:=by grind
 have h3:(s.Stack.length:Int)<=3:=by grind
 exact⟨by grind,by grind,by grind,by omega,by omega,by omega,by omega⟩
def MF{p:D.Program}{s:D.Path}{l:List Int}(h:holdB p s l=true):pathB p s=true/\inB p l=true:=by
 unfold holdB at h;simp only[Co]at h;exact h.1
def FV{l:List Int}(h:l.length<=1048576):app? ([]:List Int) l=some l:=by
 rw[Wu (by simpa using h)];rfl
def Lr{p:D.Program}{s:D.Path}{l:List Int}(hp:p.Code.length<=1048576)(hs:smallP s)(hl:l.length<=1048576):XU fuel p s l=some (evalS p s l):=by
 unfold XU evalS;rw[Ld hp hs hl];simp only[Cm];cases hh:holdB p s l
 ·rfl
 obtain⟨h1,h2⟩:=MF hh;obtain⟨t1,t2,t3,n1,n2,n3,n4⟩:=Mw h1;obtain⟨h3,h4⟩:=OH h2;obtain⟨s1,s2,_,s4,_,_⟩:=hs;unfold Zi;simp only[Cz,Cn,Cy,CF,Rv h4,Cm,TR h4 h3 t1 s1 n1,TR h4 h3 t2 s2 n2,TR h4 h3 t3 s4 n3,FV (show s.Stack.length<=1048576 by omega)];show(if(((!(evs p l s.Regs).2)||(!(evs p l s.Mem).2))||(!(evs p l s.Out).2))=true then _ else _)=_;split<;>rfl
def apB(op w a b:Int):Int:=(ZA op w a b).getD 0
def apU(op w a:Int):Int:=(ZZ op w a).getD 0
def Nc(op w a b:Int):ZA op w a b=some (apB op w a b)/\Z9 op w a b=some (apB op w a b):=by
 obtain⟨r,h1,h2⟩:=YK op w a b;unfold apB;rw[h1,h2];exact⟨rfl,rfl⟩
def RX(op w a:Int):ZZ op w a=some (apU op w a)/\ZY op w a=some (apU op w a):=by
 obtain⟨r,h1,h2⟩:=WU op w a;unfold apU;rw[h1,h2];exact⟨rfl,rfl⟩
abbrev i8:List Int:=[0,1,2,3,4,5,6,7]
def law2(w a b:Int):Bool:=
 ([3,5,8,9,10,14].all λo=>apB o w a b==apB o w b a)&&apB 3 w 0 b==b&&apB 5 w 1 b==b&&apB 8 w (ons w) b==b&&apB 9 w 0 b==b&&apB 10 w 0 b==b&&apB 5 w 0 b==0&&apB 8 w 0 b==0
 &&apB 9 w (ons w) b==ons w&&apB 10 w (ons w) b==apU 1 w b&&(w !=1||apB 14 1 1 b==b&&apB 14 1 0 b==apU 1 1 b)&&([4,11,12,13].all λo=>apB o w b 0==b)&&apB 15 w b 0==0
 &&apB 8 w b b==b&&apB 9 w b b==b&&([4,10,15,16].all λo=>apB o w b b==0)&&apB 14 w b b==1&&apU 1 w (apU 1 w b)==b&&apB 14 w a b==(if a=b then 1 else 0)&&apB 15 w a b==(if a<b then 1 else 0)
def law3(w a b c:Int):Bool:=[3,5,8,9,10].all λo=>apB o w a (apB o w b c)==apB o w (apB o w a b) c
def Ki:([1,2,3].all λw=>i8.all λa=>!wordB w a||i8.all λb=>!wordB w b||(law2 w a b&&i8.all λc=>!wordB w c||law3 w a b c))=true:=by decide+kernel
def w3{w:Int}(h1:1<=w)(h3:w<=3):w∈[1,2,3]:=by
 have:w=1\/w=2\/w=3:=by omega
 rcases this with rfl|rfl|rfl<;>simp
def in8{w a:Int}(h3:w<=3)(h:wordB w a=true):a∈i8:=by
 have g:=Zh h;have h1:=(Zv g.1 g.2 a).1 h;have:(2:Int)^w.toNat<=8:=by
  have:w=1\/w=2\/w=3:=by omega
  rcases this with rfl|rfl|rfl<;>decide
 have:a=0\/a=1\/a=2\/a=3\/a=4\/a=5\/a=6\/a=7:=by omega
 rcases this with rfl|rfl|rfl|rfl|rfl|rfl|rfl|rfl<;>simp
def laws2{w a b:Int}(h3:w<=3)(ha:wordB w a=true)(hb:wordB w b=true):law2 w a b=true:=by
 have h:=Ki;simp only[Cs]at h;have:=h w (w3 (Zh ha).1 h3) a (in8 h3 ha);rw[ha,Cz,CY,Cs]at this;have:=this b (in8 h3 hb);rw[hb,Cz,CY,Co]at this;exact this.1
def laws3{w a b c:Int}(h3:w<=3)(ha:wordB w a=true)(hb:wordB w b=true)(hc:wordB w c=true):law3 w a b c=true:=by
 have h:=Ki;simp only[Cs]at h;have:=h w (w3 (Zh ha).1 h3) a (in8 h3 ha);rw[ha,Cz,CY,Cs]at this;have:=this b (in8 h3 hb);rw[hb,Cz,CY,Co,Cs]at this;have:=this.2 c (in8 h3 hc)
 rwa [hc,Cz,CY]at this
theorem Il:∀n:Nat,(∀a b:D.Term,msz a<n->ctm a b=0->a=b)/\∀l m:List D.Term,l.length+mszs l<n->cts l m=0->l=m:=by
 have sg0:∀a b:Int,sg a b=0->a=b:=λa b h=>by
  unfold sg at h;split at h<;>(try split at h)<;>omega
 have ss0:∀a b:Str,ss a b=0->a=b:=λa b h=>by
  unfold ss at h;split at h
  ·assumption
  ·split at h<;>omega
 intro n
 induction n with
 |zero=>exact⟨λ_ _ h=>by omega,λ_ _ h=>by omega⟩
 | succ n ih=>
  have hl:∀l m:List D.Term,l.length+mszs l<n+1->cts l m=0->l=m:=λl m h e=>by
   cases l with
   |nil=>
    rw[Tf]at e;have:=sg0 _ _ e;exact(BF.1 O).symm
   | cons x l=>
    cases m with
    |nil=>rw[SQ]at e;cases e
    | cons y m=>
     rw[Y1,Bp]at h;rw[UK]at e;by_cases q:ctm x y=0
     ·simp only[q,ne_eq,not_true_eq_false,Cy]at e;rw[ih.1 x y O q,ih.2 l m O e]
     ·simp only[ne_eq,q,not_false_eq_true,CF]at e
  refine⟨λa b h e=>?_,hl⟩;rw[Wd]at h;rw[Qc]at e;by_cases q1:sg a.Op b.Op=0
  ·by_cases q2:sg a.W b.W=0
   ·by_cases q3:sg a.N b.N=0
    ·by_cases q4:ss a.Name b.Name=0
     ·simp only[q1,q2,q3,q4,ne_eq,not_true_eq_false,Cy]at e;obtain⟨a1,a2,a3,a4,a5⟩:=a;obtain⟨b1,b2,b3,b4,b5⟩:=b;have:=hl _ _ (by simp only at h⊢;omega) e;simp only at q1 q2 q3 q4 this;rw[sg0 _ _ q1,sg0 _ _ q2,sg0 _ _ q3,ss0 _ _ q4,this]
     ·simp[q1,q2,q3,q4]at e
    ·simp[q1,q2,q3]at e
   ·simp[q1,q2]at e
  ·simp[q1]at e
def LQ{a b:D.Term}(h:ctm a b=0):a=b:=(Il (msz a+1)).1 a b O h
section
variable{E:List (Str×Int)}
def vl(E:List (Str×Int))(t:D.Term):Int:=(Za (cnt t+1) t (some E)).getD 0
structure KV(E:List (Str×Int))(t:D.Term):Prop where
 nd:nodeB t=true
 kv:∀q∈vrs t,∃x,E.lookup q.1=some x/\wordB q.2 x=true
def KV.val{t:D.Term}(h:KV E t):wordB t.W (vl E t)=true/\∀m,cnt t+1<=m->Za m t (some E)=some (vl E t):=by
 obtain⟨r,h1,h2⟩:=QC (env:=E) (cnt t) t (CK _) h.nd h.kv;unfold vl;rw[h2 _ (CK _)];exact⟨h1,h2⟩
theorem KV.kid{o w m:Int}{nm:Str}{ks:List D.Term}(h:KV E ⟨o,w,m,nm,ks⟩)(ho:o≠22):∀x∈ks,KV E x:=λx hx=>by
 obtain⟨h1,h2⟩:=h;rw[Yo,Zz,Co,Cs]at h1;refine⟨h1.2 x hx,λq hq=>h2 q ?_⟩;rw[Wv,Cu ho];have:∀l:List D.Term,x∈l->q∈vrss l:=λl=>by
  induction l with
  |nil=>intro h;cases h
  |cons y l ih=>
   intro h;rw[ZL,CQ];rcases CW.1 h with rfl|h
   ·exact .inl hq
   ·exact .inr (ih h)
 exact this _ hx
theorem KV.node{o w m:Int}{nm:Str}{ks:List D.Term}(h:nodeB ⟨o,w,m,nm,ks⟩=true)(ho:o≠22)(hk:∀x∈ks,KV E x):KV E ⟨o,w,m,nm,ks⟩:=by
 refine⟨h,λq hq=>?_⟩;rw[Wv,Cu ho]at hq;have:∀l:List D.Term,q∈vrss l->∃x∈l,q∈vrs x:=λl=>by
  induction l with
  |nil=>intro h;rw[Y5]at h;cases h
  | cons y l ih=>
   intro h;rw[ZL,CQ]at h;rcases h with h|h
   ·exact⟨y,by simp,h⟩
   ·obtain⟨x,h1,h2⟩:=ih h;exact⟨x,by simp[h1],h2⟩
 obtain⟨x,h1,h2⟩:=this _ hq;exact(hk x h1).kv q h2
def KV.c{w v:Int}(h:wordB w v=true):KV E ⟨0,w,v,⟨[]⟩,[]⟩:=.node (VE h) ag λx hx=>by cases hx
def Pj(w v:Int):vl E ⟨0,w,v,⟨[]⟩,[]⟩=v:=by unfold vl;rw[Xq];rfl
def Qg{w:Int}{a:D.Term}(h:KV E a):vl E ⟨1,w,0,⟨[]⟩,[a]⟩=apU 1 a.W (vl E a):=by
 have:=h.val.2 (1+cnt a) O;rw[vl,cnt1];unfold Za;simp[get0,this,(RX 1 a.W _).1]
def TF{op w:Int}{a b:D.Term}(h3:3<=op)(h16:op<=16)(ha:KV E a)(hb:KV E b):vl E ⟨op,w,0,⟨[]⟩,[a,b]⟩=apB op a.W (vl E a) (vl E b):=by
 have h1:=ha.val.2 (1+cnt a+cnt b) O;have h2:=hb.val.2 (1+cnt a+cnt b) O;rw[vl,cnt2];unfold Za;simp[get0,get1,h1,h2,(Nc op a.W _ _).1,show¬op=0 by omega,show¬op=22 by omega,show¬op=17 by omega,show¬op=1 by omega,show¬op=2 by omega,show¬op=19 by omega,show¬op=20 by omega,show¬op=21 by omega,show¬op=18 by omega]
def NL{w:Int}{a b c:D.Term}(ha:KV E a)(hb:KV E b)(hc:KV E c):vl E ⟨17,w,0,⟨[]⟩,[a,b,c]⟩=if vl E a=1 then vl E b else vl E c:=by
 have h1:=ha.val.2 (1+cnt a+cnt b+cnt c) O;have h2:=hb.val.2 (1+cnt a+cnt b+cnt c) O;have h3:=hc.val.2 (1+cnt a+cnt b+cnt c) O;rw[vl,cnt3];unfold Za;by_cases e:vl E a=1<;>simp[get0,get1,get2',h1,h2,h3,e]
def Ka{a w x:Int}(hv:wordB a x=true)(hw:a<=w)(h16:w<=16):Yz a x w false=some x:=by
 have g:=Zh hv;unfold Yz;rw[YB,hv];have hi:Zp w=some (decide (1<=w/\w<=16)):=by simp[Zp]
 simp[hi,show 1<=w by omega,h16,show¬w<a by omega]
def Tm{w:Int}{a:D.Term}(ha:KV E a)(hw:a.W<=w)(h16:w<=16):vl E ⟨20,w,0,⟨[]⟩,[a]⟩=vl E a:=by
 have h1:=ha.val.2 (1+cnt a) O;rw[vl,cnt1];unfold Za;simp[get0,h1,Ka ha.val.1 hw h16]
end
set_option maxHeartbeats 4000000
section
variable{E:List (Str×Int)}
def al(t:D.Term):Prop:=(t.Op=1\/3<=t.Op/\t.Op<=17\/t.Op=20)/\∀x∈t.Kids,x.W<=3
def Qv(E:List (Str×Int))(v:Int):D.Term⊕D.Term->Prop
 |.inl r=>vl E r=v
 |.inr u=>al u/\(∀x∈u.Kids,KV E x)/\vl E u=v
def X8{a:D.Term}(h:KV E a)(e:a.Op=0):vl E a=a.N:=by
 rw[(Yi h.nd e).1];exact Pj _ _
def al1{op w:Int}{a:D.Term}(ho:op=1\/op=20)(ha:KV E a)(hs:a.W<=3):al ⟨op,w,0,⟨[]⟩,[a]⟩/\∀x∈[a],KV E x:=by
 refine⟨⟨by simp only;omega,λx hx=>?_⟩,λx hx=>?_⟩<;>(obtain rfl:=CB.1 hx;assumption)
def al2{op w:Int}{a b:D.Term}(h3:3<=op)(h16:op<=16)(ha:KV E a)(hb:KV E b)(hs:a.W<=3)(hw:a.W=b.W):al ⟨op,w,0,⟨[]⟩,[a,b]⟩/\∀x∈[a,b],KV E x:=by
 refine⟨⟨by simp only;omega,λx hx=>?_⟩,λx hx=>?_⟩<;>simp only[CW,Ab,or_false]at hx<;>rcases hx with rfl|rfl<;>first|assumption|omega
def Dk{op w:Int}{a b:D.Term}(h3:3<=op)(h16:op<=16)(ha:KV E a)(hb:KV E b)(hw:a.W=b.W)(h1:op<=13->a.W=w)(h2:14<=op->w=1)(hs:a.W<=3):Qv E (apB op a.W (vl E a) (vl E b)) (rdB op w a b):=by
 have va:=ha.val.1;have vb:=hb.val.1;rw[<-hw]at vb;have L:=laws2 hs va vb;have M:=laws2 hs vb va;simp[law2]at L M;have ca:=λe=>X8 (E:=E) ha e;have cb:=λe=>X8 (E:=E) hb e;have w1:a.W=1->a.Op=0->a.N=0\/a.N=1:=λe e0=>by
  rw[e,ca e0]at va;exact(Uq va).1
 have hs':sws op=true->op=3\/op=5\/op=8\/op=9\/op=10\/op=14:=λe=>by simpa[sws,or_assoc]using e
 unfold rdB
 repeat' split
 ·rename_i h;have:=hs' h.1;obtain⟨q1,q2⟩:=al2 (w:=w) h3 h16 hb ha O hw.symm;refine⟨q1,q2,?_⟩;rw[TF h3 h16 hb ha,<-hw];grind
 ·show vl E b=_;grind
 ·show vl E a=_;grind
 ·rename_i h;obtain⟨q1,q2⟩:=al1 (op:=1) (w:=w) (.inl rfl) hb O;refine⟨q1,q2,?_⟩;rw[Qg hb,<-hw];grind
 ·show vl E a=_;rw[show vl E b=0 by grind];grind
 ·show vl E _=_;rw[Pj,show vl E b=0 by grind];grind
 ·rename_i h;obtain rfl:=LQ h.1;show vl E a=_;grind
 ·rename_i h;obtain rfl:=LQ h.1;show vl E _=_;rw[Pj];grind
 ·rename_i h;obtain rfl:=LQ h.1;show vl E _=_;rw[Pj];grind
 ·rename_i h;obtain⟨q1,q2,q3,q4,q5⟩:=h;have:=hs' q1;obtain⟨c,d,eb,hcc,hd,hcd,hcw⟩:=QF hb.nd q4 h3 h16;rw[show kd b 0=c by rw[eb];rfl]at q5⊢;rw[show kd b 1=d by rw[eb];rfl];have kc:KV E c:=KV.kid (eb▸hb) O c U;have kd':KV E d:=KV.kid (eb▸hb) O d U;have o:op<=13:=by omega
  have e1:=h1 o;have e2:=hcw o;have vc:=kc.val.1;have vd:=kd'.val.1;have L3:=laws3 (w:=a.W) hs va (b:=vl E c) (c:=vl E d) (by rw[hw,<-e2];exact vc) (by rw[hw,<-e2,hcd];exact vd);simp[law3]at L3;have eg:(ZA op w a.N c.N).getD 0=apB op a.W (vl E a) (vl E c):=by rw[<-e1,ca q3,X8 kc q5];rfl
  rw[eg];have vr:wordB w (apB op a.W (vl E a) (vl E c))=true:=by
   rw[<-e1];exact(QU (Nc op a.W (vl E a) (vl E c)).2 va (by rw[hw,<-e2];exact vc)).1 ⟨h3,o⟩
  have kn:KV E ⟨0,w,apB op a.W (vl E a) (vl E c),⟨[]⟩,[]⟩:=.c vr;obtain⟨p1,p2⟩:=al2 (w:=w) h3 h16 kn kd' (by show w<=3;omega) (by show w=d.W;omega);refine⟨p1,p2,?_⟩;rw[TF h3 h16 kn kd',Pj];show apB op w _ _=_;have:vl E b=apB op a.W (vl E c) (vl E d):=by
   rw[eb,TF h3 h16 kc kd',e2,hw]
  rw[this,<-e1];grind
 ·exact TF h3 h16 ha hb
def Ci{w:Int}{a b c:D.Term}(ha:KV E a)(hb:KV E b)(hc:KV E c)(h1:a.W=1)(h2:b.W=w)(h3:c.W=w)(hs:w<=3):Qv E (if vl E a=1 then vl E b else vl E c) (rdI w a b c):=by
 have va:=ha.val.1;rw[h1]at va;have vb:=hb.val.1;have vc:=hc.val.1;have ca:=λe=>X8 (E:=E) ha e;have cb:=λe=>X8 (E:=E) hb e;have cc:=λe=>X8 (E:=E) hc e;have bit:=(Uq va).1;have ub:=(Uq va).2;generalize hv:(if vl E a=1 then vl E b else vl E c)=v;unfold rdI
 repeat' split
 ·show vl E b=v;grind
 ·show vl E c=v;grind
 ·rename_i h;obtain rfl:=LQ h;show vl E b=v;grind
 ·rename_i h;obtain⟨d,ea,hd,hdw⟩:=Si ha.nd h;rw[show kd a 0=d by rw[ea];rfl];have kd':KV E d:=KV.kid (ea▸ha) O d U;have e:vl E a=1-vl E d:=by
   rw[ea,Qg kd',hdw,h1];have:=(Uq (show wordB 1 (vl E d)=true by rw[<-h1,<-hdw];exact kd'.val.1)).2;exact Option.some.inj ((RX 1 1 _).1.symm.trans this)
  have bd:=(Uq (show wordB 1 (vl E d)=true by rw[<-h1,<-hdw];exact kd'.val.1)).1;refine⟨⟨by simp only;omega,λx hx=>?_⟩,λx hx=>?_,by rw[NL kd' hc hb];grind⟩<;>simp only[CW,Ab,or_false]at hx<;>rcases hx with rfl|rfl|rfl<;>first|assumption|omega
 ·show vl E a=v;grind
 ·rename_i h;obtain⟨q1,q2⟩:=al1 (op:=1) (w:=1) (.inl rfl) ha O;refine⟨q1,q2,?_⟩;rw[Qg ha,h1,Option.some.inj ((RX 1 1 _).1.symm.trans ub)];grind
 ·rw[<-hv];exact NL ha hb hc
def DD{w:Int}{a:D.Term}(ha:KV E a)(hs:a.W<=3):Qv E (apU 1 a.W (vl E a)) (rdU 1 w a):=by
 unfold rdU;split
 ·rename_i h;obtain⟨d,ea,hd,hdw⟩:=Si ha.nd h;rw[show kd a 0=d by rw[ea];rfl];have kd':KV E d:=KV.kid (ea▸ha) O d U;show vl E d=_;have L:=laws2 (a:=vl E d) (b:=vl E d) (w:=a.W) hs (by rw[<-hdw];exact kd'.val.1) (by rw[<-hdw];exact kd'.val.1);simp[law2]at L;have:vl E a=apU 1 a.W (vl E d):=by
   have:=Qg (w:=a.W) kd';rw[hdw]at this;rw[<-this];exact congrArg _ ea
  grind
 ·exact Qg ha
def EU{w:Int}{a:D.Term}(ha:KV E a)(hw:a.W<=w)(h16:w<=16)(hs:a.W<=3):Qv E (vl E a) (rdW 20 w a):=by
 unfold rdW
 repeat' split
 ·exact rfl
 ·rename_i h;obtain⟨d,ea,hd,hdw⟩:=SV ha.nd h (.inl rfl);have g:=YN ha.nd;rw[show kd a 0=d by rw[ea];rfl];have kd':KV E d:=KV.kid (ea▸ha) O d U;obtain⟨q1,q2⟩:=al1 (op:=20) (w:=w) (.inr rfl) kd' O;refine⟨q1,q2,?_⟩;rw[Tm kd' O h16];have:=Tm (w:=a.W) kd' hdw O;rw[<-this];exact congrArg _ ea.symm
 ·exact Tm ha hw h16
def EJ{t:D.Term}(h:KV E t)(hal:al t):Qv E (vl E t) (rd t):=by
 obtain⟨op,w,m,nm,ks⟩:=t;obtain⟨hop,hks⟩:=hal;have hkk:=KV.kid h (by simp only at hop;omega);obtain⟨⟨w1,w2⟩,hs⟩:=Yy h.nd;simp only at hop hks;by_cases hc:ks≠[]/\(ks.all λx=>x.Op==0)=true
 ·obtain⟨v,hv,h1,h2⟩:=known h.nd hc.1 hc.2;have h2:=h2 2 (CK _);rw[rd,Cr hc,h2,Bh];show vl E _=_;rw[Pj];have e0:∀x∈ks,x.Op=0:=λx hx=>by simpa using Cs.1 hc.2 x hx
  have hn:∀x∈ks,Za 1 x none=some (vl E x):=λx hx=>by
   rw[X8 (hkk x hx) (e0 x hx),(Yi (hkk x hx).nd (e0 x hx)).1];exact Xq 0 _ _ _
  unfold Za at h2;rcases hs with⟨_,hh,_⟩|⟨_,hh,_⟩|⟨ho,rfl,rfl,a,rfl,ha,hw⟩|⟨h3,h16,rfl,rfl,a,b,rfl,ha,hb,hab,e1,e2⟩|⟨rfl,rfl,rfl,a,b,c,rfl,ha,hb,hcc,aw,bw,cw⟩|⟨hh,_⟩|⟨hh,_⟩|⟨ho,rfl,rfl,a,rfl,ha,haw⟩
  ·exact absurd hh hc.1
  ·exact absurd hh hc.1
  ·obtain rfl:op=1:=by omega
   rw[Qg (hkk a U)];simp[get0,hn a U,(RX 1 a.W _).1]at h2;exact h2.symm
  ·rw[TF h3 h16 (hkk a U) (hkk b U)];simp[get0,get1,hn a U,hn b U,(Nc op a.W _ _).1,show¬op=0 by omega,show¬op=22 by omega,show¬op=17 by omega,show¬op=1 by omega,show¬op=2 by omega,show¬op=19 by omega,show¬op=20 by omega,show¬op=21 by omega,show¬op=18 by omega]at h2;exact h2.symm
  ·rw[NL (hkk a U) (hkk b U) (hkk c U)];by_cases e:vl E a=1<;>simp[get0,get1,get2',hn a U,hn b U,hn c U,e]at h2⊢<;>exact h2.symm
  ·omega
  ·omega
  ·obtain rfl:op=20:=by omega
   rw[Tm (hkk a U) haw w2];have hva:=(hkk a U).val.1;have g:=Zh hva;have hg:Yz a.W (vl E a) w false=some (vl E a):=Ka hva haw w2;simp[get0,hn a U,hg]at h2;exact h2.symm
 rw[rd,Cu hc];rcases hs with⟨ho,rfl,rfl,hv⟩|⟨ho,rfl,rfl⟩|⟨ho,rfl,rfl,a,rfl,ha,hw⟩|⟨h3,h16,rfl,rfl,a,b,rfl,ha,hb,hab,e1,e2⟩|⟨rfl,rfl,rfl,a,b,c,rfl,ha,hb,hcc,aw,bw,cw⟩|⟨hh,_⟩|⟨hh,_⟩|⟨ho,rfl,rfl,a,rfl,ha,haw⟩
 ·exact rfl
 ·exact rfl
 ·obtain rfl:op=1:=by omega
  rw[Qg (hkk a U)];exact DD (hkk a U) (hks a U)
 ·rw[TF h3 h16 (hkk a U) (hkk b U)];show Qv E _ (if op=18 then _ else _);rw[Cu O];exact Dk h3 h16 (hkk a U) (hkk b U) hab e1 e2 (hks a U)
 ·rw[NL (hkk a U) (hkk b U) (hkk c U)];exact Ci (hkk a U) (hkk b U) (hkk c U) aw bw cw (by rw[<-bw];exact hks b U)
 ·omega
 ·omega
 ·obtain rfl:op=20:=by omega
  rw[Tm (hkk a U) haw w2];exact EU (hkk a U) haw w2 (hks a U)
theorem Du{t r:D.Term}(hr:Rch t r):KV E t->al t->cnt t<=240->vl E r=vl E t:=by
 induction hr with
 |fin e=>
  intro h ha hn;have:=EJ h ha;rw[e]at this;exact this
 | @go t u r e _ ih=>
  intro h ha hn;have q:=EJ h ha;have g:=(step h.nd hn).1;rw[e]at q g;obtain⟨q1,q2,q3⟩:=q;have hc:=g.2.2.1;have hu:KV E u:=by
   cases u;exact .node g.1 (by have:=q1.1;simp only at this;omega) q2
  rw[ih hu q1 O,q3]
def Jq{t:D.Term}(h:nodeB t=true)(hn:cnt t<=240):Rch t (simp1 t):=by
 obtain⟨r,-,-,-,h1,h2,-⟩:=simple' h hn;unfold simp1;rw[h2];exact h1
def OX{op w m:Int}{ks:List D.Term}(h:(mkT op w m ks).2=true)(ha:al ⟨op,w,m,⟨[]⟩,ks⟩)(hk:∀x∈ks,KV E x):vl E (mkT op w m ks).1=vl E ⟨op,w,m,⟨[]⟩,ks⟩:=by
 unfold mkT at h⊢;split at h
 case isFalse=>cases h
 rename_i hb;rw[Cr hb];have hn:=OP hb;exact Du (Jq hn.1 hn.2) (.node hn.1 (by have:=ha.1;simp only at this;omega) hk) ha hn.2
end
structure gt(p:D.Program)(w:Int)(t:D.Term):Prop where
 f:fine t
 w:t.W=w
 v:aV (InV p) t
section
variable{p:D.Program}{l:List Int}(hi:inB p l=true)(h3:p.W<=3)
include hi
theorem gt.kv{w:Int}{t:D.Term}(h:gt p w t):KV (envI p.W l) t:=⟨h.f.1,λq hq=>(QZ hi (SY h.f h.v q hq)).1⟩
theorem VS{w:Int}{t:D.Term}(h:gt p w t):wordB w (vl (envI p.W l) t)=true:=h.w▸(h.kv hi).val.1
omit hi in
theorem LV{op w m:Int}{x:D.Term}{ks:List D.Term}(h:(mkT op w m (x::ks)).2=true)(ha:∀y∈x::ks,aV (InV p) y):gt p w (mkT op w m (x::ks)).1:=⟨(Xd h).1,(Xd h).2,UW ha⟩
omit hi in
theorem Dx{v:Int}(h:wordB p.W v=true):gt p p.W (kT p.W v):=⟨Sj h,rfl,Ni⟩
theorem Nr{op w v:Int}{a b:D.Term}(ho:3<=op/\op<=16)(ha:gt p v a)(hb:gt p v b)(hv:v<=3)(h:(mkT op w 0 [a,b]).2=true):vl (envI p.W l) (mkT op w 0 [a,b]).1=apB op v (vl (envI p.W l) a) (vl (envI p.W l) b):=by
 obtain⟨q1,q2⟩:=al2 (w:=w) ho.1 ho.2 (ha.kv hi) (hb.kv hi) (by rw[ha.w];exact hv) (by rw[ha.w,hb.w]);rw[OX h q1 q2,TF ho.1 ho.2 (ha.kv hi) (hb.kv hi),ha.w]
theorem JM{w:Int}{a:D.Term}(ha:gt p w a)(hv:w<=3)(h:(mkT 1 w 0 [a]).2=true):vl (envI p.W l) (mkT 1 w 0 [a]).1=apU 1 w (vl (envI p.W l) a):=by
 obtain⟨q1,q2⟩:=al1 (op:=1) (w:=w) (.inl rfl) (ha.kv hi) (by rw[ha.w];exact hv);rw[OX h q1 q2,Qg (ha.kv hi),ha.w]
include h3
theorem EF{a b:D.Term}(ha:gt p p.W a)(hb:gt p p.W b)(h:(mkT 14 1 0 [a,b]).2=true):vl (envI p.W l) (mkT 14 1 0 [a,b]).1=if vl (envI p.W l) a=vl (envI p.W l) b then 1 else 0:=by
 rw[Nr hi O ha hb h3 h];have L:=laws2 h3 (VS hi ha) (VS hi hb);simp[law2]at L;grind
theorem DZ{a b:D.Term}(ha:gt p p.W a)(hb:gt p p.W b)(h:(mkT 15 1 0 [a,b]).2=true):vl (envI p.W l) (mkT 15 1 0 [a,b]).1=if vl (envI p.W l) a<vl (envI p.W l) b then 1 else 0:=by
 rw[Nr hi O ha hb h3 h];have L:=laws2 h3 (VS hi ha) (VS hi hb);simp[law2]at L;grind
theorem JW{k:Int}{x a b:D.Term}(hk:wordB p.W k=true)(hx:gt p p.W x)(ha:gt p p.W a)(hb:gt p p.W b)(h:(cel p.W k x a b).2=true):gt p p.W (cel p.W k x a b).1/\vl (envI p.W l) (cel p.W k x a b).1=if vl (envI p.W l) x=k then vl (envI p.W l) a else vl (envI p.W l) b:=by
 unfold cel at h⊢;split at h
 case isFalse=>cases h
 rename_i c;rw[Cr c];have gc:=LV (p:=p) c (all2 (Ni) hx.v);refine⟨LV h (all3 gc.v ha.v hb.v),?_⟩;have q2:∀y∈[(mkT 14 1 0 [kT p.W k,x]).1,a,b],KV (envI p.W l) y:=λy hy=>by
  simp only[CW,Ab,or_false]at hy;rcases hy with rfl|rfl|rfl
  ·exact gc.kv hi
  ·exact ha.kv hi
  ·exact hb.kv hi
 have q1:al ⟨17,p.W,0,⟨[]⟩,[(mkT 14 1 0 [kT p.W k,x]).1,a,b]⟩:=⟨by simp,λy hy=>by
  simp only[CW,Ab,or_false]at hy;rcases hy with rfl|rfl|rfl
  ·rw[gc.w];omega
  ·rw[ha.w];exact h3
  ·rw[hb.w];exact h3⟩
 rw[OX h q1 q2,NL (gc.kv hi) (ha.kv hi) (hb.kv hi),EF hi h3 (Dx hk) hx c];have:vl (envI p.W l) (kT p.W k)=k:=Pj _ _;rw[this];by_cases e:k=vl (envI p.W l) x
 ·simp[e]
 ·rw[Cu e,Cu ag,Cu λh=>e (Eq.symm h)]
theorem JY{mem:List D.Term}{x:D.Term}(hm:(mem.length:Int)=p.Mem)(hg:∀t∈mem,gt p p.W t)(hx:gt p p.W x):∀(j:Nat)(t:D.Term),j<=mem.length->gt p p.W t->((j:Int)<=vl (envI p.W l) x->vl (envI p.W l) t=vl (envI p.W l) (rg mem (vl (envI p.W l) x)))->(ldT p.W x mem j t).2=true->
  vl (envI p.W l) (ldT p.W x mem j t).1=vl (envI p.W l) (rg mem (vl (envI p.W l) x))
 |0,t,_,_,h,_=>h (by
  have:=VS hi hx;rw[Zv (Zh this).1 (Zh this).2]at this
  omega)
 | j+1,t,hj,ht,h,hok=>by
  have hp:=(XC hi).1;unfold ldT at hok⊢;split at hok
  case isFalse=>cases hok
  rename_i c;rw[Cr c];have gm:gt p p.W (rg mem j):=by
   have:rg mem (j:Int)∈mem:=by
    have:=UX (l:=mem) (k:=(j:Int)) O O;exact CV (get?_at this)
   exact hg _ this
  obtain⟨c1,c2⟩:=JW hi h3 (Ui hp O O) hx gm ht c;refine JY hm hg hx j _ O c1 (λhle=>?_) hok;rw[c2];by_cases e:vl (envI p.W l) x=(j:Int)
  ·rw[Cr e,e]
  ·rw[Cu e];exact h O
theorem Ee{mem:List D.Term}{x:D.Term}(hm:(mem.length:Int)=p.Mem)(hg:∀t∈mem,gt p p.W t)(hx:gt p p.W x)(hlt:vl (envI p.W l) x<p.Mem)(hok:(load p.W mem x).2=true):
  vl (envI p.W l) (load p.W mem x).1=vl (envI p.W l) (rg mem (vl (envI p.W l) x)):=by
 have hp:=(XC hi).1;have hm1:=(ZX hp).2.2.2.1;have h0:0<=vl (envI p.W l) x:=by
  have:=VS hi hx;rw[Zv (Zh this).1 (Zh this).2]at this;exact this.1
 unfold load at hok⊢;split
 ·rename_i e;rw[X8 (hx.kv hi) e]
 ·rename_i e;rw[Cu e]at hok;have gl:gt p p.W (rg mem ((mem.length-1:Nat):Int)):=by
   have:=UX (l:=mem) (k:=((mem.length-1:Nat):Int)) O O;exact hg _ (CV (get?_at this))
  refine JY hi h3 hm hg hx _ _ O gl (λhle=>?_) hok;rw[show vl (envI p.W l) x=((mem.length-1:Nat):Int) by omega]
theorem Ff{x v:D.Term}(hx:gt p p.W x)(hv:gt p p.W v):∀(m:List D.Term)(i:Nat),(∀t∈m,gt p p.W t)->((i+m.length:Nat):Int)<=p.Mem->(stG p.W x v i m).2=true->
  (stG p.W x v i m).1.map (vl (envI p.W l))=if(i:Int)<=vl (envI p.W l) x then(m.map (vl (envI p.W l))).set (vl (envI p.W l) x-i).toNat (vl (envI p.W l) v)else m.map (vl (envI p.W l))
 |[],i,_,_,_=>by unfold stG;simp
 | t::m,i,hg,hl,hok=>by
  have hp:=(XC hi).1;unfold stG at hok⊢;split at hok
  case isFalse=>cases hok
  rename_i c;rw[Cr c];simp only[Bp]at hl;obtain⟨c1,c2⟩:=JW hi h3 (Ui hp (k:=(i:Int)) O O) hx hv (hg t U) c;have ih:=Ff hx hv m (i+1) (λy hy=>hg y aq) O hok;simp only[Bn,ih,c2];by_cases e:vl (envI p.W l) x=(i:Int)
  ·rw[Cr e,Cu O,Cr O,e];simp
  ·rw[Cu e];by_cases q:(i:Int)<=vl (envI p.W l) x
   ·rw[Cr O,Cr q];obtain⟨k,hk⟩:∃k:Nat,vl (envI p.W l) x=((i+1+k:Nat):Int):=⟨(vl (envI p.W l) x-i-1).toNat,by omega⟩;rw[hk,show((((i+1+k:Nat):Int))-(((i+1:Nat)):Int)).toNat=k by omega,show((((i+1+k:Nat):Int))-(i:Int)).toNat=k+1 by omega];simp
   ·rw[Cu O,Cu q]
theorem Fb{mem:List D.Term}{x v:D.Term}(hm:(mem.length:Int)=p.Mem)(hg:∀t∈mem,gt p p.W t)(hx:gt p p.W x)(hv:gt p p.W v)(hok:(store p.W mem x v).2=true):
  (store p.W mem x v).1.map (vl (envI p.W l))=(mem.map (vl (envI p.W l))).set (vl (envI p.W l) x).toNat (vl (envI p.W l) v):=by
 have h0:0<=vl (envI p.W l) x:=by
  have:=VS hi hx;rw[Zv (Zh this).1 (Zh this).2]at this;exact this.1
 unfold store at hok⊢;split
 ·rename_i e;rw[X8 (hx.kv hi) e,AL]
 ·rename_i e;rw[Cu e]at hok;split at hok
  ·rename_i c;rw[Cr c];have:=Ff hi h3 hx hv mem 0 hg ab c;rw[this];simp[h0]
  ·cases hok
end
abbrev den(E:List (Str×Int))(s:D.Path):D.State:=⟨s.Pc,s.Regs.map (vl E),s.Mem.map (vl E),s.Stack,s.In,s.Out.map (vl E),s.Code,s.Steps⟩
def OT{E:List (Str×Int)}{m:List D.Term}{k:Int}(h0:0<=k)(h1:k<m.length):get? (m.map (vl E)) k=some (vl E (rg m k)):=by
 obtain⟨j,rfl⟩:∃j:Nat,k=(j:Int):=⟨k.toNat,by omega⟩;have:=get?_at (UX (l:=m) (k:=(j:Int)) O h1);rw[AX]at this;rw[get?_nat,Bt,this];rfl
def Kc{E:List (Str×Int)}{m:List D.Term}{k x:Int}(h0:0<=k)(h1:k<m.length):set? (m.map (vl E)) k x=some ((m.map (vl E)).set k.toNat x):=IR h0 (by simpa using h1) x
section
variable{p:D.Program}{l:List Int}(hi:inB p l=true)(h3:p.W<=3){s:D.Path}
include hi
omit hi in
theorem XY(h:gP p s){k:Int}(h0:0<=k)(h1:k<4):gt p p.W (rg s.Regs k):=by
 have hr:=TD h.ok.rf h0 (by have:=h.ok.rl;omega);exact⟨hr.1,hr.2,Vo h.vs.rg k⟩
omit hi in
theorem IL(h:gP p s):∀t∈s.Mem,gt p p.W t:=λt ht=>⟨(h.ok.mf t ht).1,(h.ok.mf t ht).2,h.vs.mm t ht⟩
def yes(p:D.Program)(E:List (Str×Int))(s:D.Path)(i:D.Ins):Prop:=
 (i.Op=10\/i.Op=13)/\vl E (rg s.Regs i.A)=0\/i.Op=3/\(i.C=6\/i.C=7)/\vl E (rg s.Regs i.B)=0\/i.Op=7/\p.Mem<=vl E (rg s.Regs i.B)\/i.Op=8/\p.Mem<=vl E (rg s.Regs i.A)
omit hi in
instance yesD{p:D.Program}{E:List (Str×Int)}{s:D.Path}{i:D.Ins}:Decidable (yes p E s i):=by unfold yes;infer_instance
omit hi in
theorem Dm{E:List (Str×Int)}{i:D.Ins}(h:(qst p s.Regs i).2.1=false):¬yes p E s i:=by
 unfold qst qad qze at h;unfold yes;grind
include h3
theorem Hz{x:D.Term}(hx:gt p p.W x)(hok:(qze p x).2.2=true):vl (envI p.W l) (qze p x).1=if vl (envI p.W l) x=0 then 1 else 0:=by
 have hp:=(XC hi).1;unfold qze at hok⊢;rw[EF hi h3 (Dx (VZ hp)) hx hok,show vl (envI p.W l) (kT p.W 0)=0 from Pj _ _];by_cases e:vl (envI p.W l) x=0
 ·simp[e]
 ·rw[Cu λh=>e (Eq.symm h),Cu e]
theorem IP{x:D.Term}(hx:gt p p.W x)(hok:(qad p x).2.2=true):vl (envI p.W l) (qad p x).1=if p.Mem<=vl (envI p.W l) x then 1 else 0:=by
 have hp:=(XC hi).1;have hm:=(ZX hp).1;unfold qad at hok⊢;split at hok
 case isFalse=>cases hok
 rename_i c;rw[Cr c];have gc:=LV (p:=p) c (all2 hx.v Ni);have b:=(Uq (VS hi gc)).2;rw[JM hi gc O hok,Option.some.inj ((RX 1 1 _).1.symm.trans b),DZ hi h3 hx (Dx hm) c,show vl (envI p.W l) (kT p.W p.Mem)=p.Mem from Pj _ _];by_cases e:p.Mem<=vl (envI p.W l) x
 ·rw[Cu O,Cr e];rfl
 ·rw[Cr O,Cu e];rfl
theorem LB{i:D.Ins}(h:gP p s)(hf:insF p.W p.Code.length i)(ha:(qst p s.Regs i).2.1=true)(hok:(qst p s.Regs i).2.2=true):gt p 1 (qst p s.Regs i).1/\(vl (envI p.W l) (qst p s.Regs i).1=1↔yes p (envI p.W l) s i):=by
 refine⟨⟨(UM ha hok).1,(UM ha hok).2,IV h.vs.rg⟩,?_⟩;have hop:=hf.op;have hA:=hf.a;have hB:=hf.b;unfold qst at ha hok⊢;unfold yes;by_cases c1:i.Op=10\/i.Op=13
 ·rw[Cr c1]at hok⊢;have a:=hA O O O O;rw[Hz hi h3 (XY h a.1 a.2) hok];grind
 rw[Cu c1]at ha hok⊢;by_cases c2:i.Op=3
 ·rw[Cr c2]at ha hok⊢;by_cases c3:i.C=6\/i.C=7
  ·rw[Cr c3]at hok⊢;have b:=hB O;rw[Hz hi h3 (XY h b.1 b.2) hok];grind
  ·rw[Cu c3]at ha;cases ha
 rw[Cu c2]at ha hok⊢;by_cases c4:i.Op=7
 ·rw[Cr c4]at hok⊢;have b:=hB O;rw[IP hi h3 (XY h b.1 b.2) hok];grind
 rw[Cu c4]at ha hok⊢;by_cases c5:i.Op=8
 ·rw[Cr c5]at hok⊢;have a:=hA O O O O;rw[IP hi h3 (XY h a.1 a.2) hok];grind
 rw[Cu c5]at ha;cases ha
theorem Fj{i:D.Ins}{t:D.Path}(h:gP p s)(hf:insF p.W p.Code.length i)(e:nxt p l s (dvd p s i)=some t)(h9:t.Code≠9):
  yes p (envI p.W l) s i/\den (envI p.W l) t=den (envI p.W l) (nmd s i)\/¬yes p (envI p.W l) s i/\(flw p s i).2=true/\den (envI p.W l) t=den (envI p.W l) (flw p s i).1:=by
 unfold dvd at e;split at e
 ·obtain rfl:=Option.some.inj e;exact absurd rfl h9
 rename_i q1;have q1:(qst p s.Regs i).2.2=true:=by simpa using q1
 split at e
 ·rename_i q2;obtain rfl:=Option.some.inj e;obtain⟨g,y⟩:=LB hi h3 h hf q2.1 q1;exact .inl ⟨y.1 (by rw[X8 (g.kv hi) q2.2.1,q2.2.2]),rfl⟩
 rename_i q2;split at e
 ·obtain rfl:=Option.some.inj e;exact absurd rfl h9
 rename_i q3;have q3:(flw p s i).2=true:=by simpa using q3
 split at e
 ·rename_i q4;obtain rfl:=Option.some.inj e;refine .inr ⟨?_,q3,rfl⟩;cases ha:(qst p s.Regs i).2.1
  ·exact Dm ha
  ·obtain⟨g,y⟩:=LB hi h3 h hf ha q1;intro hy;have e0:(qst p s.Regs i).1.Op=0:=by simpa[ha]using q4
   have:=y.2 hy;rw[X8 (g.kv hi) e0]at this;exact q2 ⟨ha,e0,this⟩
 rename_i q4;split at e
 ·obtain rfl:=Option.some.inj e;exact absurd rfl h9
 have ha:(qst p s.Regs i).2.1=true:=by
  cases h:(qst p s.Regs i).2.1
  ·exact absurd (.inl h) q4
  ·rfl
 obtain⟨g,y⟩:=LB hi h3 h hf ha q1;have hv:one (vals p.W l) (qst p s.Regs i).1=(vl (envI p.W l) (qst p s.Regs i).1==1):=FQ hi g.f g.v λm hm=>by
  have:=g.f.2;exact(g.kv hi).val.2 m O
 unfold nxt at e;simp only[List.drop_left,BQ,List.all_nil,Ad,hv,Bl]at e;split at e
 ·rename_i c;obtain rfl:=Option.some.inj e;exact .inl ⟨y.1 c,rfl⟩
 ·rename_i c;obtain rfl:=Option.some.inj e;exact .inr ⟨λhy=>c (y.2 hy),q3,rfl⟩
end
section
variable{p:D.Program}{l:List Int}(hi:inB p l=true)(h3:p.W<=3){s:D.Path}
include hi
theorem DX{k:Int}(h0:0<=k)(h1:k<p.In):get? l k=some (vl (envI p.W l) (inT p.W k)):=by
 obtain⟨hp,hw,hn,hl⟩:=XC hi;have h2:=(UL hp).2;have hv:∀x:Int,(envI p.W l).lookup (inT p.W k).Name=some x->vl (envI p.W l) (inT p.W k)=x:=λx hx=>by
  unfold vl Za;have h2:(inT p.W k).Name.bytes.length<=1048576:=by unfold inT;simp only;split<;>(try split)<;>simp
  rw[show(inT p.W k).Op=22 from rfl];simp only[Int.reduceBEq,Cn,Cy,BB,CF];rw[geto h2,hx];rfl
 have n01:(vn 0==vn 1)=false:=by decide
 have n02:(vn 0==vn 2)=false:=by decide
 have n12:(vn 1==vn 2)=false:=by decide
 have n10:(vn 1==vn 0)=false:=by decide
 have n20:(vn 2==vn 0)=false:=by decide
 have n21:(vn 2==vn 1)=false:=by decide
 have i0:inT p.W 0=⟨22,p.W,0,vn 0,[]⟩:=rfl;have i1:inT p.W 1=⟨22,p.W,0,vn 1,[]⟩:=rfl;have i2:inT p.W 2=⟨22,p.W,0,vn 2,[]⟩:=rfl
 match l,hn,hl with
 |[],hn,_=>simp at hn;omega
 |[a],hn,_=>
  obtain rfl:k=0:=by simp at hn;omega
  rw[hv a (by simp[i0,envI,vals])];rfl
 |[a,b],hn,_=>
  have:k=0\/k=1:=by simp at hn;omega
  rcases this with rfl|rfl
  ·rw[hv a (by simp[i0,envI,vals,CO,n01])];rfl
  ·rw[hv b (by simp[i1,envI,vals,CO])];rfl
 |[a,b,c],hn,_=>
  have:k=0\/k=1\/k=2:=by simp at hn;omega
  rcases this with rfl|rfl|rfl
  ·rw[hv a (by simp[i0,envI,vals,CO,n01,n02])];rfl
  ·rw[hv b (by simp[i1,envI,vals,CO,n12])];rfl
  ·rw[hv c (by simp[i2,envI,vals,CO])];rfl
include h3
theorem EX{c:Int}{a b:D.Term}(hc:3<=c/\c<=16)(ha:gt p p.W a)(hb:gt p p.W b)(hok:(opd p c a b).2=true):vl (envI p.W l) (opd p c a b).1=apB c p.W (vl (envI p.W l) a) (vl (envI p.W l) b):=by
 have hp:=(XC hi).1;have hm:=ZX hp;unfold opd at hok⊢;split
 ·rename_i e;rw[Cr e]at hok;have g:=LV (p:=p) e.1 (all2 ha.v hb.v);have hr:rwd c p.W=1:=by unfold rwd;rw[Cr e.2]
  obtain⟨q1,q2⟩:=al1 (op:=20) (w:=p.W) (.inr rfl) (g.kv hi) (by rw[g.w,hr];omega);rw[OX hok q1 q2,Tm (g.kv hi) (by rw[g.w,hr];omega) O,Nr hi hc ha hb h3 e.1]
 ·rename_i e;rw[Cu e]at hok;rw[Nr hi hc ha hb h3 hok]
theorem JU{t:D.Path}(h:hP p l s)(e:nxt p l s (stp1 p s)=some t)(h9:t.Code≠9):YQ p (den (envI p.W l) s) l=some (den (envI p.W l) t):=by
 have hp:=(XC hi).1;have hm:=ZX hp;have hin:=UL hp;have k:=h.good.ok;have hpc:=k.pc;have hst:=k.st;have hcl:(p.Code.length:Int)<=40:=by
  unfold progB at hp;simp only[Co,Cw]at hp;omega
 rw[Zb]at hpc;unfold stp1 at e;unfold YQ;simp only[den];by_cases c1:s.Code≠0\/s.Steps=400
 ·rw[Cr c1]at e;cases e
 rw[Cu c1]at e;have d1:s.Code=0/\s.Steps<400:=by have:=k.st;omega
 rw[Cu ab];by_cases c2:s.Pc=len p.Code
 ·rw[Cr c2]at e;obtain rfl:=Option.some.inj e;rw[Cr av]
 rw[Cu c2]at e;rw[Cu av];rw[Zb]at c2;obtain⟨g1,g2⟩:=Qa (p:=p) (k:=s.Pc) hpc.1 O;have hf:=Pk hp g2;rw[g1];simp only[Cm];rw[Zf (x:=s.Steps+1),Zf (x:=s.Pc+1)];have hs1:=Pf k d1.2;have hg1:gP p {s with Steps:=s.Steps+1}:=⟨hs1,⟨h.good.vs.rg,h.good.vs.mm,h.good.vs.ot,h.good.vs.cd⟩,h.good.tn⟩;generalize insAt p s.Pc=i at*;have hop:=hf.op;have hA:=hf.a;have hB:=hf.b;have rA:i.Op≠9->i.Op≠11->i.Op≠12->i.Op≠14->get? (s.Regs.map (vl (envI p.W l))) i.A=some (vl (envI p.W l) (rg s.Regs i.A)):=λa b c d=>OT (hA a b c d).1 (by have:=k.rl;have:=(hA a b c d).2;omega);have rB:i.Op=2\/i.Op=3\/i.Op=7\/i.Op=8->get? (s.Regs.map (vl (envI p.W l))) i.B=some (vl (envI p.W l) (rg s.Regs i.B)):=λa=>OT (hB a).1 (by have:=k.rl;have:=(hB a).2;omega);have hwhy:Vd p ⟨s.Pc,s.Regs.map (vl (envI p.W l)),s.Mem.map (vl (envI p.W l)),s.Stack,s.In,s.Out.map (vl (envI p.W l)),s.Code,s.Steps+1⟩ i=some (if stk p {s with Steps:=s.Steps+1} i≠0 then stk p {s with Steps:=s.Steps+1} i else if i.Op=14 then 1 else(if yes p (envI p.W l) s i then(if i.Op=10 then 0 else if i.Op=13 then 8 else if i.Op=3 then 6 else 5)else 0)):=by
  have hc:i.Op=1\/i.Op=2\/i.Op=3\/i.Op=4\/i.Op=5\/i.Op=6\/i.Op=7\/i.Op=8\/i.Op=9\/i.Op=10\/i.Op=11\/i.Op=12\/i.Op=13\/i.Op=14:=by omega
  unfold Vd stk yes;rcases hc with c|c|c|c|c|c|c|c|c|c|c|c|c|c<;>simp[c,Zb]at rA rB⊢
  all_goals grind
 rw[hwhy];simp only[Cm];have hc:i.Op=1\/i.Op=2\/i.Op=3\/i.Op=4\/i.Op=5\/i.Op=6\/i.Op=7\/i.Op=8\/i.Op=9\/i.Op=10\/i.Op=11\/i.Op=12\/i.Op=13\/i.Op=14:=by omega
 by_cases c3:stk p {s with Steps:=s.Steps+1} i=0;rotate_left
 ·rw[Cr c3]at e;obtain rfl:=Option.some.inj e;simp only[ne_eq,c3,not_false_eq_true,CF];rw[Cr (by simpa using c3)]
 rw[Cu (by rw[c3];simp)]at e;simp only[ne_eq,c3,not_true_eq_false,Cy];rcases Fj hi h3 hg1 hf e h9 with⟨hy,hd⟩|⟨hy,hk,hd⟩<;>refine Eq.trans ?_ (congrArg some hd.symm)
 ·have hy':yes p (envI p.W l) s i:=hy;simp only[Cr hy'];have h14:i.Op≠14:=λe=>by unfold yes at hy;omega
  have h5:i.Op=10\/i.Op=13\/i.Op=3\/i.Op=7\/i.Op=8:=by unfold yes at hy;omega
  unfold nmd;rcases h5 with c|c|c|c|c
  ·have:vl (envI p.W l) (rg s.Regs i.A)=0:=by unfold yes at hy';simp[c]at hy';exact hy'
   simp[c,rA,this,d1.1]
  all_goals simp[c]
 ·have hy':¬yes p (envI p.W l) s i:=hy;simp only[Cu hy'];have hset:∀x:Int,0<=i.A/\i.A<4->set? (s.Regs.map (vl (envI p.W l))) i.A x=some ((s.Regs.map (vl (envI p.W l))).set i.A.toNat x):=λx a=>Kc a.1 (by have:=k.rl;omega);unfold flw at hk⊢;have ha:=hA;rcases hc with c|c|c|c|c|c|c|c|c|c|c|c|c|c<;>simp[c]at rA rB ha hk⊢
  ·rw[hset _ ha];simp[AL,show vl (envI p.W l) (kT p.W i.B)=i.B from Pj _ _,d1.1]
  ·rw[rB,Cm,hset _ ha];simp[AL,d1.1]
  ·have b:=hB O;rw[rA,rB,Cm,Cm,(Nc _ _ _ _).2,Cm,hset _ ha,<-EX hi h3 (hf.c c) (XY h.good ha.1 ha.2) (XY h.good b.1 b.2) hk];simp[AL,d1.1]
  ·rw[rA,Cm,(RX _ _ _).2,Cm,hset _ ha,<-JM hi (XY h.good ha.1 ha.2) h3 hk];simp[AL,d1.1]
  ·have h5:s.In≠p.In:=λe=>by unfold stk at c3;rw[Cr ⟨c,e⟩]at c3;cases c3
   have:=k.inn;rw[DX hi this.1 O,Cm,hset _ ha,Zf];simp[AL,d1.1]
  ·have:=k.ol;rw[rA,Cm,Wu ab];simp[d1.1]
  ·have b:=hB O;have hlt:vl (envI p.W l) (rg s.Regs i.B)<p.Mem:=by unfold yes at hy';simp[c]at hy';exact hy'
   have hw:=VS hi (XY h.good b.1 b.2);have h0:=((Zv (Zh hw).1 (Zh hw).2 _).1 hw).1;have hml:=k.ml;rw[rB,Cm,OT h0 O,Cm,hset _ ha,<-Ee hi h3 k.ml (IL h.good) (XY h.good b.1 b.2) hlt hk];simp[AL,d1.1]
  ·have b:=hB O;have hlt:vl (envI p.W l) (rg s.Regs i.A)<p.Mem:=by unfold yes at hy';simp[c]at hy';exact hy'
   have hw:=VS hi (XY h.good ha.1 ha.2);have h0:=((Zv (Zh hw).1 (Zh hw).2 _).1 hw).1;have hml:=k.ml;rw[rA,rB,Cm,Cm,Kc h0 O,Cm];simp[den,Fb hi h3 k.ml (IL h.good) (XY h.good ha.1 ha.2) (XY h.good b.1 b.2) hk,d1.1]
  ·exact d1.1.symm
  ·have hne:¬vl (envI p.W l) (rg s.Regs i.A)=0:=by unfold yes at hy';simpa[c]using hy'
   rw[rA,Cm,Cu hne];simp[d1.1]
  ·have:=k.sl;rw[Wu ab];simp[d1.1]
  ·have hl:0<s.Stack.length:=by
    rcases Nat.eq_zero_or_pos s.Stack.length with h|h
    ·unfold stk at c3;simp[c,h]at c3
    ·exact h
   obtain⟨e1,e2⟩:=Kw hl (by have:=k.sl;omega);rw[e1,e2];simp[d1.1]
  ·exact d1.1.symm
omit hi h3 in
theorem GM(h:s.Code≠0):stp1 p s=[]:=by unfold stp1;rw[Cr (.inl h)]
omit hi h3 in
theorem PS{k:Nat}(h:s.Code≠0):runF p l k s=s:=by
 cases k with
 |zero=>rfl
 |succ k=>unfold runF;rw[GM h];rfl
omit hi h3 in
theorem Jk{E:List (Str×Int)}(h:stp1 p s=[]):YQ p (den E s) l=some (den E s):=by
 have:s.Code≠0\/s.Steps=400:=by
  unfold stp1 dvd at h;by_cases c:s.Code≠0\/s.Steps=400
  ·exact c
  ·rw[Cu c]at h
   repeat' split at h
   all_goals cases h
 unfold YQ;rw[Cr (by simpa using this)]
abbrev T8:=(List Int)×(List Int)×(List Int)×(List Int)×Int×Int×Int×Int
abbrev tup8(x:D.State):T8:=(x.Regs,x.Mem,x.Stack,x.Out,x.Pc,x.In,x.Code,x.Steps)
theorem Fs{f:Int}(hf:f<=400):∀(k:Nat)(j:Int)(s:D.Path)(n:Nat),hP p l s->0<=j->j+k=f->k<n->(runF p l k s).Code≠9->
    iterN (λ(s1:Int×T8)=>if((decide (s1.1<f))&&(s1.2.2.2.2.2.2.2.1==0))then(YQ p (D.State.mk s1.2.2.2.2.2.1 s1.2.1 s1.2.2.1 s1.2.2.2.1 s1.2.2.2.2.2.2.1 s1.2.2.2.2.1 s1.2.2.2.2.2.2.2.1 s1.2.2.2.2.2.2.2.2) l).bind λx4=>some (.inl ((w64 (s1.1+1)),x4.Regs,x4.Mem,x4.Stack,x4.Out,x4.Pc,x4.In,x4.Code,x4.Steps))else some (.inr (s1.2.1,s1.2.2.1,s1.2.2.2.1,s1.2.2.2.2.1,s1.2.2.2.2.2.1,s1.2.2.2.2.2.2.1,s1.2.2.2.2.2.2.2.1,s1.2.2.2.2.2.2.2.2))) n (j,tup8 (den (envI p.W l) s))=some (tup8 (den (envI p.W l) (runF p l k s))):=by
  intro k
  induction k with
  | zero=>
    intro j s n _ _ hj hn _;refine YG ?_ O;unfold runF;simp[show¬j<f by omega]
  | succ k ih=>
    intro j s n h h0 hj hn h9;obtain⟨n,rfl⟩:∃m,n=m+1:=⟨n-1,by omega⟩;by_cases c:s.Code=0
    · have ht:(∃t,nxt p l s (stp1 p s)=some t/\hP p l t)\/nxt p l s (stp1 p s)=none:=by
        rcases UI hi h with⟨_,e⟩|⟨t,_,e,ht⟩|⟨t,u,c,r,_,_,_,_,_,⟨_,e,ht⟩|⟨_,_,e,hu⟩⟩
        · exact .inr e
        · exact .inl ⟨t,e,ht⟩
        · exact .inl ⟨t,e,ht⟩
        · exact .inl ⟨u,e,hu⟩
      have hd:(decide (j<f)&&((den (envI p.W l) s).Code==0))=true:=by simp[c];omega
      rcases ht with⟨t,e,ht⟩|e
      · have er:runF p l (k+1) s=runF p l k t:=by conv=>lhs;unfold runF;rw[e]
        rw[er]at h9⊢;have h9':t.Code≠9:=λe9=>h9 (by rw[PS O];exact e9);rw[<-ih (j+1) t n ht O O O h9];refine XM ?_;simp only[tup8,hd,CF];rw[show(D.State.mk (den (envI p.W l) s).Pc (den (envI p.W l) s).Regs (den (envI p.W l) s).Mem (den (envI p.W l) s).Stack (den (envI p.W l) s).In (den (envI p.W l) s).Out (den (envI p.W l) s).Code (den (envI p.W l) s).Steps)=den (envI p.W l) s from rfl,JU hi h3 h e h9'];simp only[Cm];rw[Zf]
      · have hs:stp1 p s=[]:=by
          rcases UI hi h with⟨q,_⟩|⟨t,_,e',_⟩|⟨t,u,c,r,_,_,_,_,_,⟨_,e',_⟩|⟨_,_,e',_⟩⟩
          · exact q
          all_goals(rw[e]at e';cases e')
        have er:∀k,runF p l k s=s:=λk=>by
          cases k with
          |zero=>rfl
          |succ k=>unfold runF;rw[e]
        rw[er]at h9⊢;have:=ih (j+1) s n h O O O (by rw[er];exact h9);rw[er]at this;rw[<-this];refine XM ?_;simp only[tup8,hd,CF];rw[Jk hs];simp only[Cm];rw[Zf]
    · rw[PS c]
      refine YG ?_ O;simp[den,c]
end
theorem Tt{p:D.Program}{l:List Int}(hi:inB p l=true):∀(k:Nat)(s:D.Path),hP p l s->∃ts,(runF p l k s).Turns=s.Turns++ts/\run p k ts s=([],runF p l k s)
 |0,s,_=>⟨[],by unfold runF;simp,rfl⟩
 | k +1,s,h=>by
  rcases UI hi h with⟨e0,e⟩|⟨t,e0,e,ht⟩|⟨t,u,c,r,e0,_,_,_,_,hh⟩
  ·refine⟨[],by unfold runF;rw[e];simp, ?_⟩;unfold run runF;rw[e,e0];simp
  ·obtain⟨ts,h1,h2⟩:=Tt hi k t ht;have et:t.Turns=s.Turns:=by
    rcases Tv (p:=p) (s:=s)with q|⟨t',q,_,q2⟩|⟨t',u',c,q,_⟩
    ·rw[e0]at q;cases q
    ·rw[e0]at q;cases q;exact q2
    ·rw[e0]at q;cases q
   refine⟨ts,?_,?_⟩
   ·conv=>lhs;unfold runF;rw[e]
    rw[h1,et]
   ·unfold run runF;rw[e,e0];simpa using h2
  ·obtain⟨q1,q2⟩:t.Turns=s.Turns++[1]/\u.Turns=s.Turns++[0]:=by
    rcases Tv (p:=p) (s:=s)with q|⟨t',q,_,_⟩|⟨t',u',c,q,_,_,q1,q2,_⟩
    ·rw[e0]at q;cases q
    ·rw[e0]at q;cases q
    ·rw[e0]at q;cases q;exact⟨q1,q2⟩
   rcases hh with⟨_,e,ht⟩|⟨_,_,e,hu⟩
   ·obtain⟨ts,h1,h2⟩:=Tt hi k t ht;refine⟨1::ts,?_,?_⟩
    ·conv=>lhs;unfold runF;rw[e]
     rw[h1,q1];simp
    ·unfold run runF;rw[e,e0];simpa using h2
   ·obtain⟨ts,h1,h2⟩:=Tt hi k u hu;refine⟨0::ts,?_,?_⟩
    ·conv=>lhs;unfold runF;rw[e]
     rw[h1,q2];simp
    ·unfold run runF;rw[e,e0];simpa using h2
def Vv{l:List Int}(hl:l.length<=1048576):Xw fuel l l=some true:=by
  unfold Xw;obtain⟨r,g1,g2⟩:=Yg (l:=l) (n:=fuel) (σ:=Unit) (ρ:=Unit⊕Bool) (B:=λ(s1:Int)=>if(decide (s1<(len l)))then(get? l s1).bind λx1=>(if(decide (s1>=(len l)))then some default else(get? l s1)).bind λx2=>if((decide (s1>=(len l)))||(x2 !=x1))then some (.inr (.inr false))else some (.inl ((w64 (s1+1))))else some (.inr (.inl ()))) (λk(_:Unit)=>(k:Int)) (λ_ _=>True) (λr=>r=(.inl ():Unit⊕Bool))
    (λk x xs a hk hx hlen _=>by
      have hd:decide ((k:Int)<len l)=true:=by rw[Zb];simpa using hk
      have hd2:decide ((k:Int)>=len l)=false:=by rw[Zb];simpa using hk
      simp only[hd,hd2,CF,get?_nat,hx,Cm,Cn,Cy,CY,bne_self_eq_false]
      exact .inl ⟨(),by rw[Zf];rfl,trivial⟩)
    (λa _=>by
      rw[Cu aF]
      exact⟨_,rfl,rfl⟩) (a:=()) trivial (WW hl)
  rw[show((0:Nat):Int)=0 from rfl]at g1;rw[g1,g2];simp
theorem Ji:∀n:Nat,(∀t:D.Term,msz t<=1048576->1048580+2*msz t+1<=n->WJ n t t=some true)/\(∀l:List D.Term,sml l->1048580+2*(l.length+mszs l)<=n->Xm n l l=some true):=by
  intro n
  induction n with
  |zero=>exact⟨λt _ _=>by omega,λl _ _=>by omega⟩
  | succ n ih=>
    refine⟨λt h hn=>?_,λl h hn=>?_⟩
    · have:=Wd t
      unfold WJ;rw[ih.2 t.Kids (by unfold sml;omega) O];simp[WF]
    · unfold sml at h
      unfold Xm;obtain⟨r,g1,g2⟩:=Yg (l:=l) (n:=n) (σ:=Unit) (ρ:=Unit⊕Bool) (B:=λ(s1:Int)=>if(decide (s1<(len l)))then(get? l s1).bind λx1=>(if(decide (s1>=(len l)))then some default else(get? l s1)).bind λx2=>(if(decide (s1>=(len l)))then some default else(WJ n x1 x2)).bind λx3=>if((decide (s1>=(len l)))||(!x3))then some (.inr (.inr false))else some (.inl ((w64 (s1+1))))else some (.inr (.inl ()))) (λk(_:Unit)=>(k:Int)) (λys _=>∀x∈ys,x∈l) (λr=>r=(.inl ():Unit⊕Bool))
          (λk x xs a hk hx hlen hm=>by
            have hxl:=hm x U;have:=Wl hxl;have hpos:0<l.length:=by omega
            have hd:decide ((k:Int)<len l)=true:=by rw[Zb];simpa using hk
            have hd2:decide ((k:Int)>=len l)=false:=by rw[Zb];simpa using hk
            simp only[hd,hd2,CF,get?_nat,hx,Cm,Cn,Cy,CY,ih.1 x O O,Cz]
            exact .inl ⟨(),by rw[Zf];rfl,λy hy=>hm y aq⟩)
          (λa _=>by
            rw[Cu aF]
            exact⟨_,rfl,rfl⟩) (a:=()) (λx hx=>hx) O
      rw[show((0:Nat):Int)=0 from rfl]at g1;rw[g1,g2];simp
def SK{l:List D.Term}(h:sml l):Xm fuel l l=some true:=(Ji fuel).2 l h (by unfold sml at h;unfold fuel;omega)
def JB{s:D.Path}(h:smallP s):VX fuel s s=some true:=by
 obtain⟨h1,h2,h3,h4,h5,h6⟩:=h;unfold VX;rw[SK h1,SK h2,Vv h3,SK h4,SK h5,Vv h6];simp
def Ll{x:D.State}(h:x.Regs.length<=1000/\x.Mem.length<=1000/\x.Stack.length<=1000/\x.Out.length<=1000):Vb fuel x x=some true:=by
 unfold Vb;rw[Vv O,Vv O,Vv O,Vv O];simp
theorem Vz{σt ρt:Type}{B:σt->Option (σt⊕ρt)}{I:Nat->σt->Prop}{m:Nat}{R:ρt->Prop}(hs:∀k s,k<m->I k s->∃s',B s=some (.inl s')/\I (k+1) s')(hf:∀s,I m s->∃r,B s=some (.inr r)/\R r):
  ∀(d k:Nat)(s:σt),k+d=m->I k s->∀n,d<n->∃r,iterN B n s=some r/\R r
 |0,k,s,hk,hi,n,hn=>by
  obtain⟨n,rfl⟩:∃j,n=j+1:=⟨n-1,by omega⟩;obtain rfl:k=m:=by omega
  obtain⟨r,h1,h2⟩:=hf s hi;exact⟨r,by unfold iterN;rw[h1],h2⟩
 |d+1,k,s,hk,hi,n,hn=>by
  obtain⟨n,rfl⟩:∃j,n=j+1:=⟨n-1,by omega⟩;obtain⟨s',h1,h2⟩:=hs k s O hi;obtain⟨r,h3,h4⟩:=Vz hs hf d (k+1) s' O h2 n O;exact⟨r,by unfold iterN;rw[h1];exact h3,h4⟩
structure CurOk(c:D.l01Cur):Prop where
 i0:0<=c.i
 len:c.b.length<=1048576
def band255(x:Int):0<=band x 255/\band x 255<=255:=by
 unfold band;have h:(BitVec.ofInt 64 x&&& BitVec.ofInt 64 255).toNat<=255:=by
  rw[BitVec.toNat_and];exact Nat.and_le_right
 rw[Zf];omega
def Na{c:D.l01Cur}(h:CurOk c):∃x i h',Xj c=some (x,⟨c.b,i,h'⟩)/\0<=x/\x<=255/\CurOk ⟨c.b,i,h'⟩:=by
 unfold Xj;have hs:∀(z:Int)(k:Nat),shr? z (k:Int)=some (z.fdiv (2^min k 64)):=λz k=>by unfold shr?;rw[ifn];simp
 have h33:∀z:Int,∃y,shr? z 33=some y:=λz=>⟨_,hs z 33⟩;have h45:∀z:Int,∃y,shr? z 45=some y:=λz=>⟨_,hs z 45⟩;obtain⟨y1,e1⟩:=h33 (w64 ((w64 (c.h*6364136223846793005))+1442695040888963407));obtain⟨y2,e2⟩:=h45 (w64 ((w64 (c.h*6364136223846793005))+1442695040888963407));rw[e1,e2];simp only[Cm];have h0:=h.i0;have hl:=h.len;by_cases hlt:c.i<(c.b.length:Int)
 ·rw[Cr (by rw[Zb];simpa using hlt)];have hi:get? c.b c.i=some (c.b[c.i.toNat]' O):=by
   unfold get?;rw[Cr h0,Cv]
  rw[hi];exact⟨_,_,_,rfl,(band255 _).1,(band255 _).2,⟨by simp only;rw[Zf];omega,hl⟩⟩
 ·rw[Cu (by rw[Zb];simpa using hlt)];exact⟨_,_,_,rfl,(band255 _).1,(band255 _).2,⟨h0,hl⟩⟩
def YM{c:D.l01Cur}(h:CurOk c){n:Int}(hn:0<n):∃x i h',Zj c n=some (x,⟨c.b,i,h'⟩)/\0<=x/\x<n/\CurOk ⟨c.b,i,h'⟩:=by
 unfold Zj;obtain⟨x,i,h',e,x0,x1,ok⟩:=Na h;rw[Cu ab,e];simp only[Cm];have hr:rem? x n=some (x.tmod n):=by unfold rem?;rw[ifn]
 rw[hr];exact⟨_,_,_,rfl,Za4 _ x0,Zar _ hn,ok⟩
def Nq{c:D.l01Cur}(h:CurOk c){n:Int}(hn:0<n):∃x i h',Y8 c n=some (x,⟨c.b,i,h'⟩)/\CurOk ⟨c.b,i,h'⟩:=by
 unfold Y8;obtain⟨x,i,h',e,_,_,ok⟩:=YM h hn;rw[e];exact⟨_,_,_,rfl,ok⟩
def KH{c:D.l01Cur}(h:CurOk c){l:List Int}(hl:0<l.length):∃x i h',XE c l=some (x,⟨c.b,i,h'⟩)/\x∈l/\CurOk ⟨c.b,i,h'⟩:=by
 unfold XE;obtain⟨x,i,h',e,x0,x1,ok⟩:=YM h (n:=len l) (by rw[Zb];omega);rw[Zb]at x1;rw[e];obtain⟨k,rfl⟩:=Int.eq_ofNat_of_zero_le x0;simp only[Cm];rw[get?_nat,Cv O];exact⟨_,_,_,rfl,BI _,ok⟩
def GI{code:List Byt}(hl:code.length<=1048576){n:Int}(h0:0<=n):∃i h,We fuel code n=some ⟨code,i,h⟩/\CurOk ⟨code,i,h⟩:=by
 have hnew:∃h,WY fuel code=some ⟨code,0,h⟩:=by
  unfold WY;have key:∃r,iterN (λ(s1:Int×Int)=>if((decide (s1.2<(Go.GL.len code)))&&(decide (s1.2<4000)))then(get? code s1.2).bind λx1=>some (.inl ((band (w64 ((w64 ((w64 (s1.1*131))+(w64 x1.n)))+7)) 1073741823),(w64 (s1.2+1))))else some (.inr (s1.1))) fuel ((w64 (55127+(Go.GL.len code))),0)=some r/\True:=by
   refine Vz (I:=λk s=>s.2=(k:Int)) (m:=min code.length 4000) (λk s hk hs=>?_) (λs hs=>?_) (min code.length 4000) 0 _ O rfl fuel aa
   ·obtain⟨z,y⟩:=s;simp only at hs;subst hs;simp only;rw[Cr ah,get?_nat,Cv O];exact⟨_,rfl,by simp only;rw[Zf];omega⟩
   ·obtain⟨z,y⟩:=s;simp only at hs;subst hs;simp only;rw[Cu ah];exact⟨_,rfl,trivial⟩
  obtain⟨r,e,-⟩:=key;rw[e];exact⟨r,rfl⟩
 obtain⟨h,e⟩:=hnew;unfold We;rw[e];refine⟨_,_,rfl,?_,hl⟩;simp only;unfold imin;rw[Zb];split<;>omega
def KQ{code:List Byt}(hl:code.length<=1048576){m lo hi:Int}(h0:0<=m)(h1:0<=lo)(h2:lo<=hi)(h3:hi<=1000):∃r,XQ fuel code m lo hi=some r/\lo<=r/\r<=hi:=by
 unfold XQ Vr;obtain⟨i,h,e,ok⟩:=GI hl h0;rw[e];simp only[Cm];obtain⟨x,i2,h2',e2,x0,x1,ok2⟩:=Na ok;rw[e2];simp only[Cm];obtain⟨y,i3,h3',e3,y0,y1,ok3⟩:=Na ok2;rw[e3];simp only[Cm];rw[Zf (x:=256*x),Zf (x:=256*x+y),Zf (x:=hi-lo),Zf (x:=hi-lo+1)];have hr:rem? (256*x+y) (hi-lo+1)=some ((256*x+y).tmod (hi-lo+1)):=by unfold rem?;rw[ifn]
 rw[hr];have hn0:0<=(256*x+y).tmod (hi-lo+1):=Za4 _ O;have hn1:(256*x+y).tmod (hi-lo+1)<hi-lo+1:=Zar _ O;simp only[Cm];refine⟨_,rfl,?_⟩;rw[Zf];omega
def OJ{a:Int}(h0:0<=a)(h1:a<4):ZO a=some true:=by
 unfold ZO Zd;simp[h0,show a<=3 by omega]
def EG{a b:Int}(h0:0<=a)(h1:a<=b):Zd a 0 b=some true:=by
 unfold Zd;simp[h0,h1]
def Df{c:D.l01Cur}(h:CurOk c){w n k:Int}(hw:w=2\/w=3)(h0:0<=k)(hk:k<n)(hn:n<=40):∃x i h',YU c w n k=some (x,⟨c.b,i,h'⟩)/\insB w n x=true/\CurOk ⟨c.b,i,h'⟩:=by
 unfold YU;obtain⟨x1,i1,h1,e1,a1,b1,ok1⟩:=YM h (n:=4) ag;rw[e1];simp only[Cm];obtain⟨x2,i2,h2,e2,a2,b2,ok2⟩:=YM ok1 (n:=4) ag;rw[e2];simp only[Cm];rw[Zf (x:=n+1)];obtain⟨x3,i3,h3,e3,a3,b3,ok3⟩:=YM ok2 (n:=n+1) O;rw[e3];simp only[Cm];obtain⟨x4,i4,h4,e4,ok4⟩:=Nq ok3 (n:=2) ag;rw[e4];simp only[Cm];have key:∃z i h',(if x4=true then(Zj (D.l01Cur.mk c.b i4 h4) (w64 (n-k))).bind λx5=>some (.inl ((w64 ((w64 (k+1))+x5.1)),x5.2.i,x5.2.h))else some (.inl (x3,i4,h4)))=(some (.inl (z,i,h')):Option ((Int×Int×Int)⊕(D.Ins×D.l01Cur)))/\0<=z/\z<=n/\CurOk ⟨c.b,i,h'⟩:=by
  cases x4
  ·exact⟨_,_,_,rfl,a3,by omega,ok4⟩
  ·obtain⟨x5,i5,h5,e5,a5,b5,ok5⟩:=YM ok4 (n:=n-k) O;rw[Cr rfl,Zf (x:=n-k),e5];simp only[Cm];rw[Zf (x:=k+1),Zf (x:=k+1+x5)];exact⟨_,_,_,rfl,by omega,by omega,ok5⟩
 obtain⟨z,i5,h5,e5,a5,b5,ok5⟩:=key;rw[e5];simp only[Cm];obtain⟨x6,i6,h6,e6,a6,b6,ok6⟩:=YM ok5 (n:=22) ag;rw[e6];simp only[Cm];have r1:=OJ a1 b1;have r2:=OJ a2 b2;have q:=EG a5 b5;have q0:=EG (a:=0) (b:=n) ag O;have hx6:x6=0\/x6=1\/x6=2\/x6=3\/x6=4\/x6=5\/x6=6\/x6=7\/x6=8\/x6=9\/x6=10\/x6=11\/x6=12\/x6=13\/x6=14\/x6=15\/x6=16\/x6=17\/x6=18\/x6=19\/x6=20\/x6=21:=by omega
 obtain⟨x7,i7,h7,e7,a7,b7,ok7⟩:=YM ok6 (n:=256) ag;obtain⟨x8,i8,h8,e8,-,ok8⟩:=KH ok7 (l:=[0,1,2,3,255,x7]) U;obtain⟨x9,i9,h9,e9,m9,ok9⟩:=KH ok6 (l:=[3,4,5,6,7,8,9,10,11,12,13,14,15,16]) U;have c9:Zd x9 3 16=some true:=by
  simp only[CW,Ab,or_false]at m9;unfold Zd;rw[decide_eq_true (show x9>=3 by omega),decide_eq_true (show x9<=16 by omega)];rfl
 have qq:∀a b c,Zd a b c=some (decide (a>=b)&&decide (a<=c)):=λ_ _ _=>rfl;have hwd:=Xu (w:=w) O O x8;rcases hx6 with rfl|rfl|rfl|rfl|rfl|rfl|rfl|rfl|rfl|rfl|rfl|rfl|rfl|rfl|rfl|rfl|rfl|rfl|rfl|rfl|rfl|rfl
 all_goals simp[e7,e8,e9,ZF]
 all_goals refine⟨_,_,_,⟨rfl,rfl,rfl⟩,?_,by assumption⟩
 all_goals(unfold insB Ym;rw[qq];simp[r1,r2,c9,Yq,hwd];try omega)
structure DP(z:Int)(p:D.Program):Prop where
 w:p.W=2\/p.W=3
 m:1<=p.Mem/\p.Mem<=3
 i:0<=p.In/\p.In<=2
 n:p.In<z/\z<=40
 l:(p.Code.length:Int)=z
 c:∀x∈p.Code,insB p.W z x=true
def DP.ok{n:Int}{p:D.Program}(h:DP n p):progB p=true:=by
 have hm:wordB p.W p.Mem=true:=by
  have:=h.m;have hw:=h.w;rw[Zv O O];rcases hw with e|e<;>rw[e]
  ·have:(2:Int)^(2:Int).toNat=4:=rfl;omega
  ·have:(2:Int)^(3:Int).toNat=8:=rfl;omega
 have hc:p.Code.all (insB p.W p.Code.length)=true:=Cs.2 λx hx=>by rw[h.l];exact h.c x hx
 have:=h.w;have:=h.m;have:=h.i;have:=h.n;have:=h.l;unfold progB;rw[hm,hc,decide_eq_true O,decide_eq_true O,decide_eq_true O,decide_eq_true O];rfl
def Eg{c:D.l01Cur}(h:CurOk c):∃p i h' n,WA fuel c 10=some (p,⟨c.b,i,h'⟩)/\DP n p/\CurOk ⟨c.b,i,h'⟩:=by
  unfold WA;obtain⟨x1,i1,h1,e1,a1,b1,ok1⟩:=YM h (n:=2) ag;rw[e1];simp only[Cm];obtain⟨x2,i2,h2,e2,a2,b2,ok2⟩:=YM ok1 (n:=3) ag;rw[e2];simp only[Cm];obtain⟨x3,i3,h3,e3,a3,b3,ok3⟩:=YM ok2 (n:=3) ag;rw[e3];simp only[Cm];obtain⟨x4,i4,h4,e4,a4,b4,ok4⟩:=YM ok3 (n:=10) ag;rw[e4];simp only[Cm];rw[Zf (x:=x3+2),Zf (x:=x3+2+x4),Zf (x:=2+x1),Zf (x:=1+x2)];obtain⟨n,hn⟩:∃n:Nat,x3+2+x4=(n:Int):=⟨(x3+2+x4).toNat,by omega⟩;rw[hn];have hw:2+x1=2\/2+x1=3:=by omega
  generalize 2+x1=w at hw⊢;have key:=Vz (m:=n) (B:=λ(s1:Int×Int×Int×(List D.Ins))=>if (decide (s1.1<(n:Int)))then if(decide (s1.1<x3))then(Y8 (D.l01Cur.mk c.b s1.2.1 s1.2.2.1) 8).bind λx5=>if(!x5.1)then(app? s1.2.2.2 ([(D.Ins.mk 5 s1.1 0 0)]:List D.Ins)).bind λx6=>some (.inl ((w64 (s1.1+1)),x5.2.i,x5.2.h,x6))else(YU (D.l01Cur.mk c.b x5.2.i x5.2.h) w (n:Int) s1.1).bind λx7=>(app? s1.2.2.2 ([x7.1]:List D.Ins)).bind λx8=>some (.inl ((w64 (s1.1+1)),x7.2.i,x7.2.h,x8))else if false then(app? s1.2.2.2 ([(D.Ins.mk 5 s1.1 0 0)]:List D.Ins)).bind λx9=>some (.inl ((w64 (s1.1+1)),s1.2.1,s1.2.2.1,x9))else(YU (D.l01Cur.mk c.b s1.2.1 s1.2.2.1) w (n:Int) s1.1).bind λx10=>(app? s1.2.2.2 ([x10.1]:List D.Ins)).bind λx11=>some (.inl ((w64 (s1.1+1)),x10.2.i,x10.2.h,x11))else some (.inr (s1.2.1,s1.2.2.1,s1.2.2.2)))
    (I:=λk s=>∃i h l,s=((k:Int),i,h,l)/\CurOk ⟨c.b,i,h⟩/\l.length=k/\∀x∈l,insB w n x=true) (R:=λr=>CurOk ⟨c.b,r.1,r.2.1⟩/\r.2.2.length=n/\∀x∈r.2.2,insB w n x=true)
    (λk s hk⟨i,h',l,es,ok,hl,hc⟩=>by
      subst es;have hlt:decide ((k:Int)<(n:Int))=true:=by simpa using hk
      have happ:∀x:D.Ins,app? l [x]=some (l++[x]):=λx=>Wu ab;have hmem:∀x:D.Ins,insB w n x=true->∀y∈l++[x],insB w n y=true:=λx hx y hy=>by
        rcases CQ.1 hy with hy|hy
        · exact hc y hy
        · rw[CB]at hy;subst hy;exact hx
      simp only[hlt,CF];have one:∀i h',CurOk ⟨c.b,i,h'⟩->∃s',((YU (D.l01Cur.mk c.b i h') w (n:Int) (k:Int)).bind λx10=>(app? l ([x10.1]:List D.Ins)).bind λx11=>some (.inl ((w64 ((k:Int)+1)),x10.2.i,x10.2.h,x11)))=(some (.inl s'):Option ((Int×Int×Int×List D.Ins)⊕(Int×Int×List D.Ins)))/\∃i h l,s'=(((k+1:Nat):Int),i,h,l)/\CurOk ⟨c.b,i,h⟩/\l.length=k+1/\∀x∈l,insB w n x=true:=λi h' ok=>by
        obtain⟨x,i5,h5,e5,q5,ok5⟩:=Df ok (w:=w) (n:=(n:Int)) (k:=(k:Int)) hw O O O;rw[e5];simp only[Cm,happ];exact⟨_,rfl,i5,h5,l++[x],by rw[Zf];rfl,ok5,by simp[hl],hmem x q5⟩
      by_cases h3:(k:Int)<x3
      · rw[Cr (by simpa using h3)]
        obtain⟨b,i5,h5,e5,ok5⟩:=Nq ok (n:=8) ag;rw[e5];simp only[Cm];cases b
        · simp only[AY,CF,happ,Cm]
          refine⟨_,rfl,i5,h5,_,by rw[Zf];rfl,ok5,by simp[hl],hmem _ ?_⟩;have r1:=OJ (a:=(k:Int)) O O;unfold insB Ym;rw[show∀a b c,Zd a b c=some (decide (a>=b)&&decide (a<=c))from λ_ _ _=>rfl];simp[r1]
        · simp only[Cz,Cn,Cy]
          exact one _ _ ok5
      · rw[Cu (by simpa using h3)]
        simp only[Cn,Cy]
        exact one _ _ ok)
    (λs⟨i,h',l,es,ok,hl,hc⟩=>by
      subst es;rw[Cu U]
      exact⟨_,rfl,ok,hl,hc⟩) n 0 (0,i4,h4,[]) O ⟨i4,h4,[],rfl,ok4,rfl,λx hx=>by cases hx⟩ fuel aa
  obtain⟨r,e,ok,hl,hc⟩:=key;rw[e];exact⟨_,_,_,(n:Int),rfl,⟨hw,by simp only;omega,by simp only;omega,by simp only;omega,by simp only;rw[hl],hc⟩,ok⟩
def Jv{code:List Byt}(hl:code.length<=1048576):∃p,Xc fuel code 0=some p/\progB p=true/\p.W<=3:=by
 unfold Xc;obtain⟨i,h,e,ok⟩:=GI hl (n:=0) ag;rw[e];simp only[Cm];obtain⟨p,i2,h2,n,e2,dp,ok2⟩:=Eg ok;rw[e2];simp only[Cm];obtain⟨m,hm⟩:∃m:Nat,n=(m:Int):=⟨n.toNat,by have:=dp.n;have:=dp.i;omega⟩;obtain⟨j,hj⟩:∃j:Nat,p.In=(j:Int):=⟨p.In.toNat,by have:=dp.i;omega⟩;have d1:=dp.n;have d2:=dp.l;have key:=Vz (m:=m) (B:=λ(s1:Int×(List D.Ins)×Int×Int)=>if(decide (s1.1<(len p.Code)))then(Y8 (D.l01Cur.mk code s1.2.2.1 s1.2.2.2) 4).bind λx3=>if x3.1 then(get? s1.2.1 s1.1).bind λx4=>(Zj (D.l01Cur.mk code x3.2.i x3.2.h) 3).bind λx5=>(Zj (D.l01Cur.mk code x5.2.i x5.2.h) (w64 ((len p.Code)-s1.1))).bind λx6=>(set? s1.2.1 s1.1 (D.Ins.mk 10 x5.1 (w64 ((w64 (s1.1+1))+x6.1)) 0)).bind λx7=>some (.inl ((w64 (s1.1+1)),x7,x6.2.i,x6.2.h))else some (.inl ((w64 (s1.1+1)),s1.2.1,x3.2.i,x3.2.h))else some (.inr (s1.2.1,s1.2.2.1,s1.2.2.2)))
  (I:=λk s=>∃l i h,s=((k:Int),l,i,h)/\CurOk ⟨code,i,h⟩/\l.length=m/\∀x∈l,insB p.W n x=true) (R:=λr=>r.1.length=m/\∀x∈r.1,insB p.W n x=true)
  (λk s hk⟨l,i,h',es,ok,hl,hc⟩=>by
   subst es;have hlt:decide ((k:Int)<len p.Code)=true:=by rw[Zb];simp;omega
   simp only[hlt,CF];obtain⟨b,i5,h5,e5,ok5⟩:=Nq ok (n:=4) ag;rw[e5];simp only[Cm];cases b
   ·exact⟨_,rfl,l,i5,h5,by rw[Zf];rfl,ok5,hl,hc⟩
   ·simp only[CF];obtain⟨x5,i6,h6,e6,a6,b6,ok6⟩:=YM ok5 (n:=3) ag;obtain⟨x6,i7,h7,e7,a7,b7,ok7⟩:=YM ok6 (n:=(m:Int)-k) O;rw[get?_nat,Cv O,e6];simp only[Cm];rw[Zb,d2,hm,Zf (x:=(m:Int)-k),e7];simp only[Cm];rw[set?_nat O,Zf (x:=(k:Int)+1),Zf (x:=(k:Int)+1+x6)];simp only[Cm];refine⟨_,rfl,_,i7,h7,rfl,ok7,by simp[hl],λx hx=>?_⟩;rcases Ae hx with hx|rfl
    ·rw[<-hm];exact hc x hx
    ·have r1:=OJ a6 O;unfold insB Ym;rw[show∀a b c,Zd a b c=some (decide (a>=b)&&decide (a<=c))from λ_ _ _=>rfl]
     simp[r1];omega)
  (λs⟨l,i,h',es,ok,hl,hc⟩=>by
   subst es;rw[Cu ah]
   exact⟨_,rfl,hl,hc⟩) (m-j) j ((j:Int),p.Code,i2,h2) O ⟨p.Code,i2,h2,rfl,ok2,by omega,dp.c⟩ fuel aa
 obtain⟨r,e3,hl3,hc3⟩:=key;rw[hj,e3];simp only[Cm];have dq:DP n (D.Program.mk p.W p.Mem p.In r.1):=⟨dp.w,dp.m,dp.i,dp.n,by simp only;omega,hc3⟩;rw[<-hj];exact⟨_,rfl,dq.ok,by have:=dp.w;simp only;omega⟩
def Em{code:List Byt}(hl:code.length<=1048576){p:D.Program}(hp:progB p=true):∃l,Xl fuel code 62 p=some l/\l.all (wordB p.W)=true/\(l.length:Int)=p.In:=by
  have hpp:=hp;unfold progB at hpp;simp only[Co,Cw]at hpp;unfold Xl;obtain⟨i,h,e,ok⟩:=GI hl (n:=62) ag;rw[e];simp only[Cm];obtain⟨j,hj⟩:∃j:Nat,p.In=(j:Int):=⟨p.In.toNat,by omega⟩;have key:=Vz (m:=j) (B:=λ(s1:Int×Int×Int×(List Int))=>if(decide (s1.1<p.In))then(Zj (D.l01Cur.mk code s1.2.1 s1.2.2.1) 256).bind λx2=>(Z6 p.W x2.1).bind λx3=>(app? s1.2.2.2 ([x3]:List Int)).bind λx4=>some (.inl ((w64 (s1.1+1)),x2.2.i,x2.2.h,x4))else some (.inr (s1.2.1,s1.2.2.1,s1.2.2.2)))
    (I:=λk s=>∃i h l,s=((k:Int),i,h,l)/\CurOk ⟨code,i,h⟩/\l.length=k/\∀x∈l,wordB p.W x=true) (R:=λr=>r.2.2.length=j/\∀x∈r.2.2,wordB p.W x=true)
    (λk s hk⟨i,h',l,es,ok,hl,hc⟩=>by
      subst es;rw[Cr ab];obtain⟨x,i6,h6,e6,a6,b6,ok6⟩:=YM ok (n:=256) ag;rw[e6];simp only[Cm,ZF];rw[Wu ab];simp only[Cm];refine⟨_,rfl,i6,h6,_,by rw[Zf];rfl,ok6,by simp[hl],λy hy=>?_⟩;rcases CQ.1 hy with hy|hy
      · exact hc y hy
      · rw[CB]at hy;subst hy;exact Xu O O _)
    (λs⟨i,h',l,es,ok,hl,hc⟩=>by
      subst es;rw[Cu ab]
      exact⟨_,rfl,hl,hc⟩) j 0 (0,i,h,[]) O ⟨i,h,[],rfl,ok,rfl,λx hx=>by cases hx⟩ fuel aa
  obtain⟨r,e3,hl3,hc3⟩:=key;rw[e3];exact⟨_,rfl,Cs.2 hc3,by omega⟩
end Go.Proofs.YtmhljhkhmdkdhaaGreatDoor
end
