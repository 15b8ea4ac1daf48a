/- The plain law of this claim: a path's inputs. No program in sight. -/
import Derived.Test.YtccamimfkohabaaGreatDoorPLib3
import Derived.Test.YtccamimfkohabaaGreatDoorPLib2
namespace Go.Proofs.YtccamimfkohabaaGreatDoor
open Go.GL
set_option linter.unusedSimpArgs false
set_option maxRecDepth 100000
def nmI(k:Nat):Str:=⟨[105,UInt8.ofNat (48+k)]⟩
theorem AP{n k:Nat}(h:k<=9)(hn:2<=n):Xh n (k:Int)=some ⟨[UInt8.ofNat (48+k)]⟩:=by
 obtain⟨n,rfl⟩:∃m,n=m+1:=⟨n-1,by omega⟩;rw[Xh];have hd:decide ((k:Int)<0)=false:=by simp
 simp only[hd,Zeg,Zen];have hk:decide ((k:Int)>9)=false:=by simp;omega
 rw[ZV (n:=n) (r:=((k:Int),(⟨[]⟩:Str))) (by simp only[hk,Zeg,Zen]) O];have:k=0\/k=1\/k=2\/k=3\/k=4\/k=5\/k=6\/k=7\/k=8\/k=9:=by omega
 rcases this with rfl|rfl|rfl|rfl|rfl|rfl|rfl|rfl|rfl|rfl<;>decide
theorem BB{k:Nat}(h:k<=9):Vw (k:Int)=some ⟨[UInt8.ofNat (48+k)]⟩:=by
 unfold Vw strconv_Itoa;rw[ifp,Lib.itoa,ifn];have e:((k:Int)).toNat=k:=by omega
 rw[e,Lib.decDigits,dif_pos O];rfl
theorem CO(k:Nat):cat? ⟨[105]⟩ ⟨[UInt8.ofNat (48+k)]⟩=some (nmI k):=by
 unfold cat?;rw[ifp];rfl
def updV(W:Int)(o:Option D.Value)(k:Nat)(b:List Int):List Int:=
 match o with
 |some v=>if(v.W==W)=true then b.set k v.N else b
 |none=>b
def insI(W:Int)(vs:List D.Value)(m:Nat):Nat->List Int
 |0=>List.replicate m 0
 |k+1=>updV W (vs.find? λv=>Str.eqb v.Name (nmI k)) k (insI W vs m k)
theorem Zcq{W:Int}{o:Option D.Value}{k:Nat}{b:List Int}:(updV W o k b).length=b.length:=by
 unfold updV;split
 ·split<;>simp
 ·rfl
theorem NE{W:Int}{vs:List D.Value}{m:Nat}:∀k,(insI W vs m k).length=m
 |0=>by simp[insI]
 |k+1=>by rw[insI,Zcq,NE k]
section
variable{vs:List D.Value}(hl:vs.length<=100000)
include hl
theorem find_ok(s:Str):∃r:Int,VU fuel vs s=some r/\((r=-1/\vs.find? (λv=>Str.eqb v.Name s)=none)\/∃(k:Nat)(v:D.Value),r=k/\vs[k]? =some v/\vs.find? (λv=>Str.eqb v.Name s)=some v):=by
  unfold VU;obtain⟨r,g1,g2⟩:=Wx (l:=vs) (n:=fuel) (σ:=Unit) (ρ:=Unit⊕Int) (B:=λ(s1:Int)=>if(decide (s1<(len vs)))then(get? vs s1).bind λx1=>if(Str.eqb x1.Name s)then some (.inr (.inr s1))else some (.inl ((w64 (s1+1))))else some (.inr (.inl ())))
    (λk _=>(k:Int)) (λxs _=>vs.find? (λv=>Str.eqb v.Name s)=xs.find? (λv=>Str.eqb v.Name s)) (λr=>(r= .inl ()/\vs.find? (λv=>Str.eqb v.Name s)=none)\/∃(k:Nat)(v:D.Value),r= .inr (k:Int)/\vs[k]? =some v/\vs.find? (λv=>Str.eqb v.Name s)=some v)
    (λk x xs a hk hx hlen hi=>by
      have hd:decide ((k:Int)<len vs)=true:=by rw[Za];simp;omega
      simp only[hd,Ze2,get?_nat,hx,Zee];rw[ZgE]at hi;cases c:Str.eqb x.Name s
      · rw[c]at hi
        exact .inl ⟨(),by rw[ifn,Zb];rfl,hi⟩
      · rw[c]at hi
        exact .inr ⟨_,rfl,.inr ⟨k,x,rfl,hx,hi⟩⟩)
    (λa hi=>by
      have hd:decide ((vs.length:Int)<len vs)=false:=by rw[Za];simp
      simp only[hd,Zeg,Zen]
      exact⟨_,rfl,.inl ⟨rfl,hi⟩⟩) (a:=()) rfl al
  rw[show((0:Nat):Int)=0 from rfl]at g1;rw[g1];rcases g2 with⟨rfl,h⟩|⟨k,v,rfl,h⟩
  · exact⟨_,rfl,.inl ⟨rfl,h⟩⟩
  · exact⟨_,rfl,.inr ⟨k,v,rfl,h⟩⟩
theorem AO{p:D.Program}{m:Nat}(hm:m<=9):(iterN (λ(s1:Int×(List Int))=>if(decide (s1.1<(len (List.replicate m (0:Int)))))then(Xh fuel s1.1).bind λx6=>(cat? ⟨[105]⟩ x6).bind λx7=>(VU fuel vs x7).bind λx8=>(if(decide (x8>=0))then(get? vs x8)else some default).bind λx9=>if((decide (x8>=0))&&(x9.W==p.W))then(get? vs x8).bind λx10=>(set? s1.2 s1.1 x10.N).bind λx11=>some (.inl ((w64 (s1.1+1)),x11))else some (.inl ((w64 (s1.1+1)),s1.2))else some (.inr (s1.2))) fuel (0,List.replicate m (0:Int)))=some (insI p.W vs m m):=by
  refine Z5 (I:=λk s=>s=((k:Int),insI p.W vs m k)) (m:=m) (λk s hk hs=>?_) (λs hs=>?_) m 0 _ O rfl fuel al
  · subst hs
    refine⟨_,?_,rfl⟩;have hset:∀x,set? (insI p.W vs m k) (k:Int) x=some ((insI p.W vs m k).set k x):=λx=>set?_nat (by rw[NE];exact hk);simp only;rw[Zei ah,AP O al];simp only[Zee,CO];rw[insI,Zb];obtain⟨r,e,⟨rfl,hf⟩|⟨j,v,rfl,hv,hf⟩⟩:=find_ok hl (nmI k)
    · rw[e,hf];rfl
    · rw[e,hf]
      have hd:decide ((j:Int)>=0)=true:=by simp
      simp only[Zee,hd,Ze2,get?_nat,hv,ZeJ,updV];cases v.W==p.W
      · rfl
      · simp only[Ze2,hset,Zee];rfl
  · subst hs
    simp only;rw[Zem ao]
theorem AR{p:D.Program}{m:Nat}(hm:m<=9)(hn:vs.Pairwise λx y=>x.Name≠y.Name)(hp:p.In=(m:Int)):Uk fuel p vs=some (insI p.W vs m m):=by
 unfold Uk;have e0:mk? p.In (0:Int)=some (List.replicate m 0):=by
  rw[hp];unfold mk?;rw[Zei av];simp
 rw[e0];simp only[Zee];rw[Z5 (I:=λk s=>s=((k:Int),insI p.W vs m k)) (m:=m) (r:=insI p.W vs m m) (λk s hk hs=>?_) (λs hs=>?_) m 0 (0,List.replicate m 0) O rfl fuel al]
 ·rfl
 ·subst hs;refine⟨_,?_,rfl⟩;have hb:=NE (W:=p.W) (vs:=vs) (m:=m) k;simp only;rw[Zei ah,insI];generalize insI p.W vs m k=b at hb⊢;rw[Z5 (I:=λj s=>s=((j:Int),updV p.W ((vs.take j).find? λv=>Str.eqb v.Name (nmI k)) k b)) (m:=vs.length) (r:=updV p.W (vs.find? λv=>Str.eqb v.Name (nmI k)) k b) (λj s hj hs=>?_) (λs hs=>?_) vs.length 0 (0,b) O rfl fuel al]
  ·simp only[Zee];rw[Zb];rfl
  ·subst hs;refine⟨_,?_,rfl⟩;simp only;rw[Zei ah,get?_nat,Zef hj];simp only[Zee];rw[BB O];simp only[Zee,CO];rw[Zet hj,List.find?_append,Zb];have hset:∀x,set? b (k:Int) x=some (b.set k x):=λx=>set?_nat (by rw[hb];exact hk);cases c:Str.eqb vs[j].Name (nmI k)
   ·rw[show[vs[j]].find? (λv=>Str.eqb v.Name (nmI k))=none by simp[c],Option.or_none];rfl
   ·have hno:(vs.take j).find? (λv=>Str.eqb v.Name (nmI k))=none:=by
     refine List.find?_eq_none.2 λu hu hq=>?_;rw[<-Zfy j vs,Ze8 hj]at hn;refine(ZfC.1 hn).2.2 u hu vs[j] (.head _) ?_;rw[Sw]at hq c;rw[of_decide_eq_true hq,of_decide_eq_true c]
    rw[hno,show[vs[j]].find? (λv=>Str.eqb v.Name (nmI k))=some vs[j] by simp[c],Option.none_or];simp only[ZeJ,updV];cases vs[j].W==p.W
    ·rfl
    ·simp only[Ze2,hset,Zee];rfl
  ·subst hs;simp only;rw[Zem ao,Zf1]
 ·subst hs;simp only;rw[Zem ao]
end
theorem FC(model:List Bool):∀(L:List D.Value)(off:Nat),(valsP model off L).map (·.Name)=L.map (·.Name)
 |[],_=>rfl
 |v::L,off=>by rw[valsP,ZeQ,ZeQ,FC model L]
theorem Zc8{t:D.Term}{limit:Int}(hs:msz t<=1048576):(solP t limit).2.Pairwise λx y=>x.Name≠y.Name:=by
 unfold solP;split
 ·rename_i h;split
  ·split
   ·obtain⟨L,eL,hL,-⟩:=Qw h.1 hs;rw[eL];have h2:=hL.nm;rw[<-List.pairwise_map (R:=λx y:Str=>x≠y)]at h2⊢;rw[ZeF,FC];exact h2
   ·simp
  ·simp
 ·simp
theorem Jo{p:D.Program}{s:D.Path}(h:pathB p s=true):0<=p.In/\p.In<=3:=by
 unfold pathB progB at h;simp only[Zek,Zeq]at h;omega
noncomputable def pinP(p:D.Program)(s:D.Path)(limit:Int):Int×List Int:=
 if pathB p s=true/\0<=limit/\limit<=3000 then
  if(allT s.Cond).2=true then
   if(solP (allT s.Cond).1 limit).1=1 then(1,insI p.W (solP (allT s.Cond).1 limit).2 p.In.toNat p.In.toNat)else((solP (allT s.Cond).1 limit).1,[])
  else(3,[])
 else(0,[])
theorem Zbl{p:D.Program}{s:D.Path}{limit:Int}:(pinP p s limit).2.length<=1000:=by
 unfold pinP;split
 ·rename_i h;have:=Jo h.1;split
  ·split
   ·simp only[NE];omega
   ·simp
  ·simp
 ·simp
section
variable{p:D.Program}{s:D.Path}{limit:Int}(hp:p.Code.length<=1048576)(hs:smallP s)
include hp hs
theorem ZaA:WX fuel p s limit=some (pinP p s limit):=by
 unfold WX pinP;rw[Zaj hp hs];simp only[Zee];cases h1:pathB p s
 ·rfl
 have hin:=Jo h1;have e1:Zc limit 0 3000=some (decide (0<=limit/\limit<=3000)):=by simp[Zc]
 simp only[Zep,Zeg,Zen,e1,Zee,ZeN,Zha];by_cases hl:0<=limit/\limit<=3000;rotate_left
 ·rw[decide_eq_false hl,Zem hl];rfl
 rw[decide_eq_true hl,Zei hl];have a1:Uj fuel s=some (allT s.Cond):=by unfold Uj;rw[ZaN hs.2.2.2.2.1];rfl
 obtain⟨z1,z2⟩:=Bc s.Cond;simp only[Zep,Zeg,Zen,a1,Zee];cases h2:(allT s.Cond).2
 ·rfl
 simp only[Zep,Zeg,Zen,Ze2,Ci z1,Zee];by_cases h3:(solP (allT s.Cond).1 limit).1=1;rotate_left
 ·rw[Zei aK,Zem h3]
 rw[Zem aK,Zei h3];obtain⟨m,hm⟩:∃m:Nat,p.In=m:=⟨p.In.toNat,by omega⟩;have e0:mk? p.In (0:Int)=some (List.replicate m 0):=by
  rw[hm];unfold mk?;rw[Zei av];simp
 rw[e0];simp only[Zee];rw[AO (Ew z1) (p:=p) (m:=m) O];simp only[Zee];rw[h3,hm,ZeS]
theorem Zcd:XY fuel p s limit=some (pinP p s limit):=by
 unfold XY pinP;rw[Zas hp hs];simp only[Zee];cases h1:pathB p s
 ·rfl
 have hin:=Jo h1;have e1:YG limit=some (decide (0<=limit/\limit<=3000)):=by simp[YG]
 simp only[Zep,Zeg,Zen,e1,Zee,ZeN,Zha];by_cases hl:0<=limit/\limit<=3000;rotate_left
 ·rw[decide_eq_false hl,Zem hl];rfl
 rw[decide_eq_true hl,Zei hl];unfold Un;obtain⟨z1,z2⟩:=Bc s.Cond;simp only[Zep,Zeg,Zen,Af hs.2.2.2.2.1,Zee];cases h2:(allT s.Cond).2
 ·rfl
 simp only[Zep,Zeg,Zen,Ze2,EQ z1,Zee];by_cases h3:(solP (allT s.Cond).1 limit).1=1;rotate_left
 ·rw[Zei aK,Zem h3];rfl
 rw[Zem aK,Zei h3];obtain⟨m,hm⟩:∃m:Nat,p.In=m:=⟨p.In.toNat,by omega⟩;rw[AR (Ew z1) O (Zc8 z1) hm,hm,ZeS];rfl
end
theorem fin_FnExactPathInputs(x:D.Program)(hx:PM x)(y:D.Path)(hy:NN y)(z:Int)(_:fitInt z):∃n,X3 n x y z=some true:=by
 refine⟨fuel,?_⟩;unfold X3;obtain⟨r1,h1,c1⟩:=Gm (m:=1048576) hx O O;rw[h1];simp only[Zee];rcases c1 with c1|⟨c1,c1',s1⟩
 ·rw[Zei (by simpa using c1)]
 rw[Zem aa];obtain⟨r2,h2,c2⟩:=BD (m:=r1) hy c1 c1';rw[h2];simp only[Zee];rcases c2 with c2|⟨c2,s2⟩
 ·rw[Zei aT]
 rw[Zem aa];have hl:=Zbl (p:=x) (s:=y) (limit:=z);obtain⟨k1,q1,m1,b1,b1'⟩:=KD (x:=x) (k:=1) O O s1;obtain⟨k2,q2,m2,b2,b2'⟩:=Aa (x:=y) (k:=k1) s2 O O;have m4:=Rl (p:=(pinP x y z).2) (k:=1) O O O;have m5:=MI (L:=(pinP x y z).2.length) (k:=1) O O O;have m6:=Mt (p:=(pinP x y z).2) (q:=(pinP x y z).2) O;have e1:¬k2<0:=by omega
 have e2:¬(1:Int)+((pinP x y z).2.length:Int)<0:=by omega
 simp[IW s1,BA s2,ZaA s1 s2,Zcd s1 s2,Kk s1,FJ s2,m1,m2,m4,m5,m6,e1,e2]
end Go.Proofs.YtccamimfkohabaaGreatDoor
