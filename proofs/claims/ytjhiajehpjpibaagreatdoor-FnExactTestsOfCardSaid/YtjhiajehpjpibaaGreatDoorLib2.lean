/- Texts of this claim put into one: library or plain laws, without the program under test. -/
import Derived.Test.YtjhiajehpjpibaaGreatDoorLib1
import Derived.ArgAppend
import Derived.Laws.BytesString
import Derived.Lib.LaidTab
import Derived.Shelf.Strconv.Itoa3
import Derived.Lib.AppendStr
import Derived.Lib.Builder
import Derived.Lib.Split
import Derived.Lib.SplitLaws
import Derived.Lib.SmallJoins
import Derived.KernelRfl
import Derived.ChangeArms
import Derived.ChangeOld
import Derived.WideShapes
set_option linter.unusedSimpArgs false
set_option linter.unusedVariables false
set_option linter.defProp false
section
namespace Go.GL
open Go.RowKit
def Sep.swapT{w:World}{S:Nat->Prop}{L:List HP}{Q Q':HP}(i:Nat)(h:Sep L w S)(hi:L[i]? =some Q)(f:∀A,Q.ok w A->Q'.ok w A):Sep (L.set i Q') w S:=by
 obtain⟨g,h1,h2⟩:=h;refine⟨g,λj R hj=>?_,h2⟩;grind
def TL(E:TypeId)(v:Value)(l:List Int):HP where
 ok w A:=(∃g c lo a' c' base,OwnS w E (some g) A Non (.slice (some ⟨g,0,none⟩) base.length c) base/\VW 1 (some ⟨g,0,none⟩) c lo a' c'/\lo.toNat+l.length=base.length/\l=base.drop lo.toNat/\v= .slice a' l.length c')\/(l=[]/\∃a,v= .slice a 0 0)
 mono:=λh hA=>by
  rcases h with⟨g,c,lo,a',c',base,h,r⟩|h
  ·exact .inl ⟨g,c,lo,a',c',base,h.regard hA,r⟩
  simp_all
 keep:=λh hc hT=>by
  rcases h with⟨g,c,lo,a',c',base,h,r⟩|h
  ·exact .inl ⟨g,c,lo,a',c',base,h.chg hc (λk _ hk=>hT k hk) (λ_ h=>h.elim),r⟩
  simp_all
def VW.zero{b:Option Addr}{c:Nat}:VW 1 b c 0 b c:=by
 refine⟨Zgm _,?_,by simp⟩;simp[Addr.add]
def ZcY{E:TypeId}{v:Value}{l:List Int}{w:World}{A:Nat->Prop}(h:(SL E v l).ok w A):(TL E v l).ok w A:=by
 rcases h with⟨go,h⟩|h
 ·have h':=h;obtain⟨F,css,h1,h2,h3,h4,h5⟩:=h';rcases h2.2 with⟨hn,hz⟩|⟨g,cap,cur,hv,rest⟩
  ·exact .inr ⟨Zg7 hz,_,hn⟩
  ·subst hv;have hgo:go=some g:=by rw[<-h3];rfl
   subst hgo;exact .inl ⟨g,cap,0,_,cap,l,h,VW.zero,by simp,by simp,rfl⟩
 ·exact .inr h
def Ht{E:TypeId}{v:Value}{l:List Int}{w:World}{A:Nat->Prop}(h:(TL E v l).ok w A):RV w A v l:=by
 rcases h with⟨g,c,lo,a',c',base,h1,h2,h3,h4,rfl⟩|⟨rfl,a,rfl⟩
 ·have hr:=h1.rv.sub (F':=A) λk _ hk=>hk.elim (λhk=>hk.2) λhk=>hk.elim;have:=Ai (n:=l.length) hr h2 O;grind[vcut,List.take_length]
 ·exact RV.mk_slice (l:=([]:List Int)) (ZfP _) (Zg9 _) λh=>absurd rfl h
def ZeR{E:TypeId}{w:World}{A:Nat->Prop}{b a':Option Addr}{n c c':Nat}{l r:List Int}{m:Int}(h:(TL E (.slice b n c) l).ok w A)(hv:VW 1 b c m a' c')(hm:m.toNat+r.length=l.length)(hr:r=l.drop m.toNat):(TL E (.slice a' r.length c') r).ok w A:=by
 obtain⟨Z,hadd,hcap⟩:=hv;by_cases e:c=m.toNat
 ·
  have hrn:r.length=0:=by
   rcases h with⟨g,c0,lo,a0,c1,base,h1,h2,h3,h4,h5⟩|⟨rfl,a,h5⟩
   ·simp only[Value.slice.injEq]at h5;obtain⟨rfl,rfl,rfl⟩:=h5;have hb:=h1.rv.slice;obtain⟨_,cc,hq,hle,_⟩:=hb;simp only[Value.slice.injEq]at hq;obtain⟨_,_,rfl⟩:=hq;have:=h2.cap;omega
   simp_all
  have:r=[]:=Zg7 hrn;subst this;exact .inr ⟨rfl,a',by simp_all⟩
 ·rcases h with⟨g,c0,lo,a0,c1,base,h1,h2,h3,h4,h5⟩|⟨rfl,a,h5⟩
  ·simp only[Value.slice.injEq]at h5;obtain⟨k0,kadd,kcap⟩:=h2;have hlo:(lo+m).toNat=lo.toNat+m.toNat:=by omega
   refine .inl ⟨g,c0,lo+m,a',c',base,h1,⟨by omega,?_,by omega⟩,by omega,by simp_all,rfl⟩;by_cases e2:c0=lo.toNat
   ·
    obtain⟨_,cc,hq,hle,_⟩:=h1.rv.slice;grind
   ·grind[add_add,Nat.add_mul]
  grind
theorem SI(l:List Int):(l.map Flat.enc).flatten=l.map (Value.int .i64):=by
 induction l with
 |nil=>rfl
 |cons x l ih=>rw[Zgu,ZgZ,ih];rfl
def EJ{w:World}{F:Nat->Prop}{css:List (List Value)}{l:List Int}(h1:Css w F css l):css=l.map Flat.enc:=by
 apply Zgy;intro i;rw[Zgp];by_cases hi:i<l.length
 ·have hi':i<css.length:=by rw[h1.1];exact hi
  rw[ZfA hi,ZfA hi'];exact congrArg some (Flat.iff.1 (h1.2 i css[i] l[i] (ZfA hi') (ZfA hi)))
 ·rw[Zgd (by rw[h1.1];omega),Zgd O];rfl
def cell_of{w:World}{g:Nat}{cur:Array Value}{E:TypeId}(hg:w.heap[g]? =some (.cells cur E (0,0)))(j:Nat):w.cell? ⟨g,j,none⟩=cur[j]?:=by simp_all[World.cell?]
theorem Za3{P:Program}{t ty E:TypeId}{w:World}{A:Nat->Prop}{v u:Value}{l m:List Int}(h:(TL E v l).ok w A)(ht:P.underlying t=some (.slice E))(hE:ElT P E Int){Fr:Nat->Prop}(hu:RV w Fr u m)(hroom:l.length+m.length<=room):
  ∃a' c' w' T,(Builtin.append_ #[t,t] ty #[v,u]).run P w= .ok (.slice a' (l++m).length c') w'/\(TL E (.slice a' (l++m).length c') (l++m)).ok w' (λk=>A k\/w.heap.size<=k)/\Chg T w w'/\∀k,T k->A k:=by
 rcases h with⟨g,c,lo,a',c',base,ho,hv,h3,h4,rfl⟩|⟨rfl,b,rfl⟩
 ·obtain⟨F,css,h1,h2,hob,hgo,h5⟩:=ho;have hcss:=EJ h1;subst hcss;have hsI:Rep.sz Int=1:=rfl;rcases h2.2 with⟨hn0,_⟩|⟨g0,cap,cur,hv0,hb,hg,hnc,hcm,hcs,htake⟩
  ·cases hn0
  simp only[Value.slice.injEq,Option.some.injEq,Addr.mk.injEq]at hv0;obtain⟨⟨rfl,_⟩,_,rfl⟩:=hv0;rw[hsI,ZhR]at hcs;rw[hsI,ZhR,SI]at htake;obtain⟨i,z,hi,hz,hsz,hzs,hby⟩:=hE.out;obtain⟨ua,ucap,rfl,hcap,hmax,hcells⟩:=hu.slice;obtain⟨v0,vadd,vcap⟩:=hv;unfold room at hroom;obtain⟨off,ha',hoff⟩:∃off,a'=some ⟨g,off,none⟩/\(c≠lo.toNat->off=lo.toNat):=by
   by_cases e:c=lo.toNat
   ·simp_all
   ·refine⟨lo.toNat, ?_,λ_=>rfl⟩;rw[vadd,ZfD e];grind[Addr.add]
  subst ha';by_cases hm:m=[]
  ·subst hm;refine⟨some ⟨g,off,none⟩,c',w,Non,?_,?_,Chg.refl _ _,λk hk=>hk.elim⟩
   ·have hle:l.length<=c':=by omega
    cases ua with
    |none=>simp[Builtin.append_,run_underlying ht,sizeOf,typeInfo,hi,Builtin.lenOf,Builtin.firstCells,storeCells,hle]
    |some ad=>simp[Builtin.append_,run_underlying ht,sizeOf,typeInfo,hi,Builtin.lenOf,Builtin.firstCells,storeCells,loadCells,loadCellsFrom,hle]
   ·rw[Zgb];refine .inl ⟨g,c,lo,_,c',base,?_,⟨v0,vadd,vcap⟩,h3,h4,rfl⟩;exact OwnS.regard (G:=A) ⟨F,_,h1,h2,hob,hgo,h5⟩ λk _ hk=>.inl hk
  ·obtain⟨ad,rfl,_,he⟩:=hcells hm;obtain⟨cssm,g1,g2⟩:=Um he;have hcm2:=EJ g1;subst hcm2;rw[SI]at g2;have hpos:0<m.length:=List.length_pos_iff.2 hm;have hl1:(m.map (Value.int .i64)).length=m.length*i.size:=by rw[hsz,hsI];simp
   have hone:∀u∈m.map (Value.int .i64),u.oneCell'=true:=λu hu=>by
    obtain⟨x,_,rfl⟩:=Zg5.1 hu;rfl
   have hnews:∀j u,(m.map (Value.int .i64))[j]? =some u->w.cell? (ad.add j)=some u:=λj u hu=>by simpa using g2 j u hu
   by_cases hr:l.length+m.length<=c'
   ·have hne:c≠lo.toNat:=by omega
    obtain rfl:=hoff hne;have hfc:=run_firstCells_some (P:=P) w i.size m.length ad m.length ucap (m.map (Value.int .i64)) hl1 hnews;have hst:=run_storeCells_at (P:=P) g (lo.toNat+l.length) E (m.map (Value.int .i64)) 0 cur w hg aa hone;simp only[Zij]at hst;have hoffs:lo.toNat+l.length*i.size=lo.toNat+l.length:=by rw[hsz,hsI,ZhR]
    refine⟨some ⟨g,lo.toNat,none⟩,c',w.setRow g (List.take (lo.toNat+l.length) cur.toList++m.map (Value.int .i64)++List.drop (lo.toNat+l.length+(m.map (Value.int .i64)).length) cur.toList).toArray,λk=>k=g,?_,?_,⟨rfl,rfl,rfl,by simp,λk _ hn=>setRow_other w g k _ λe=>hn (by rw[e])⟩,λk hk=>hk▸(hgo g rfl).1⟩
    ·rw[ZfI];simp[Builtin.append_,run_underlying ht,sizeOf,typeInfo,hi,Builtin.lenOf,hr,hfc,Addr.add_lit,hoffs,hst]
    ·have hbm:(base++m).length=base.length+m.length:=ZfI;refine .inl ⟨g,c,lo,_,c',base++m,⟨Non,(base++m).map Flat.enc,Oa _,⟨?_,.inr ⟨g,c,_,rfl,hb,setRow_heap w g cur _ E _ hg,by omega,hcm,?_,?_⟩⟩,rfl,λg' hg'=>⟨.inl ?_,id⟩,λ_ h=>h.elim⟩,⟨v0,vadd,vcap⟩,by rw[hbm,ZfI];omega,?_,rfl⟩
     ·rw[SI,hsI,ZhR,ZhG]
     ·rw[hsI];simp;omega
     ·rw[hsI,ZhR,SI,ZgA,hbm,h3,<-htake];have hlt:(cur.toList.take base.length).length=base.length:=by simp;omega
      simp only[ZfO];rw[List.take_append,hlt];simp[List.take_take]
     ·obtain rfl:=Option.some.inj hg';exact(hgo _ rfl).1
     ·rw[h4,List.drop_append_of_le_length O]
   ·obtain⟨v',w',hrun,hrow,hgr⟩:=run_append_arg_grows (P:=P) w t ty E i z (Rep.sz Int) i.bytes ht hi hz hsz rfl hzs Rep.pos ⟨g,off,none⟩ l.length c' (l.map (Value.int .i64)) (by rw[hsI];simp) (λj u hu=>by
      have hj:j<l.length:=by simpa using(ZfE.1 hu).1
      have hne:c≠lo.toNat:=by
       have:=hnc;omega
      obtain rfl:=hoff hne;have hadd:(⟨g,lo.toNat,none⟩:Addr).add j=⟨g,lo.toNat+j,none⟩:=by unfold Addr.add;split<;>simp_all
      rw[hadd,cell_of hg];have:=congrArg (λx=>x[lo.toNat+j]?) htake;simp only[Zhj (show lo.toNat+j<base.length by omega),Zhw]at this
      rw[this,<-hu,h4,Zgp,Zgp,Zg1]) ad m.length ucap (m.map (Value.int .i64)) (by rw[hsI];simp) hnews O (by simp only[maxLen];omega) (by
      have:(l.length+m.length)*i.bytes<=4294967296*32768:=ZhY hroom hby
      omega)
    have hrow':=hrow;rcases hrow.2 with⟨_,Z⟩|⟨g',cap',cur',rfl,hb',rest⟩
    ·omega
    ·have hlm:l.length+m.length=(l++m).length:=ZfI.symm;rw[hlm]at hrun hrow';refine⟨_,cap',w',Non,hrun,ZcY (.inl ⟨some g',Non,(l++m).map Flat.enc,Oa _,⟨?_,.inr ⟨g',cap',cur',rfl,Zg9 _,?_⟩⟩,rfl,λg'' hg''=>⟨.inr ?_,id⟩,λ_ h=>h.elim⟩),⟨hgr.os,hgr.tape,hgr.output,hgr.size,λk hk _=>hgr.block k hk U⟩,λk hk=>hk.elim⟩
     ·rw[SI,hsI,ZhR,ZhG]
     ·rw[SI,ZgA,<-hlm];exact rest
     ·obtain rfl:=Option.some.inj hg'';exact hb'
 ·obtain⟨v',w',hrun,hok,hc⟩:=Tg (P:=P) (ty:=ty) (v:=b) ht hE hu (by simpa using hroom);have hsl:∃a' c',v'= .slice a' (List.length m) c':=by
   rcases hok with⟨go,ho⟩|⟨rfl,a',rfl⟩
   ·exact ho.slice
   ·exact⟨a',0,rfl⟩
  obtain⟨a',c',rfl⟩:=hsl;exact⟨a',c',w',Non,by simpa using hrun,by simpa using(TL E _ m).mono (ZcY hok) λk _ hk=>.inr hk,hc,λk hk=>hk.elim⟩
section
variable{P:Program}{ops:Array Oper}{Q:Exit->Act->World->Prop}{a:Act}{w w0:World}{S S0 F F0:Nat->Prop}{N:Nat}{σ:List (Nat×Value)}{k d:Nat}{t t' ty E:TypeId}{x y:Operand}{pos:String}{af:Array Edge}
  {L:List HP}
def Zbd{y':Operand}{Fr:Nat->Prop}{v u:Value}{l m:List Int}(i:Nat)(hs:Sep L w S)(hM:Mem w0 S0 F0 w S F)(hL:L[i]? =some (TL E v l))(ht:P.underlying t=some (.slice E))(hE:ElT P E Int)
  (hop:ops[k]? =some ⟨some d,.call ⟨.builtin .append,#[x,y'],#[t,t']⟩,ty,pos,af,none⟩)(htt:t'=t)(hd:Nat.blt d N=true)(hF:FrS N σ a)(hx:opd σ x=some v)(hy:opd σ y'=some u)(hu:RV w Fr u m)
  {r:List Int}(hr:app? l m=some r)
  (h:∀a' c' w' S' fr,Sep (L.set i (TL E (.slice a' (List.length r) c') r)) w' S'->Stp w S w' S'->FrS N ((d,.slice a' (List.length r) c')::σ) fr->wpFrom P ops Q (k+1) fr w'):wpFrom P ops Q k a w:=by
 obtain⟨A,hok,hup⟩:=hs.upd i hL hM;subst htt;unfold app? at hr;split at hr
 ·rename_i hroom;obtain⟨a',c',w',T,hrun,hok',hc,hT⟩:=Za3 (ty:=ty) hok ht hE hu hroom;refine Zp hF hop rfl rfl (ZfW.mp hd) (R:=λz w1=>z= .slice a' (List.length (l++m)) c'/\w1=w') (Zh ?_ ⟨rfl,rfl⟩) λz w1 fr hz hF'=>?_
  ·simp[execOp,resolve,invoke,builtin,Zd hF hx,Zd hF hy,hrun]
  ·obtain⟨S',hp,hs'⟩:=hup (hc.mono hT) hok';grind
 ·cases hr
theorem JE{t j:Nat}{b:Bool}{o:Oper}(hF:FrS N σ a)(ho:ops[j]? =some o)(hd:o.dst=some t)(ht:Nat.blt t N=true)(hv:opd σ (.tmp t)=some (.bool b)):yielded ops a.tmps j=some b:=by
 have h1:=Zd hF hv;have h2:=hF.size;simp_all[bool,Zgt,Act.eval,yielded,Zf9]
theorem CO{ops ops':Array Oper}(hy:∀j:Nat,(ops[j]?).bind (·.dst)=(ops'[j]?).bind (·.dst)):∀(l:List Oper),wpList P ops Q l=wpList P ops' Q l:=by
 intro l
 induction l with
 |nil=>rfl
 | cons o l ih=>
  funext a w;have:yielded ops a.tmps=yielded ops' a.tmps:=by
   grind[yielded]
  simp_all[wpList]
def ZaN{g t:Nat}{want:Bool}{o og:Oper}(hF:FrS N σ a)(ho:ops[k]? =some o)(hg:o.guard=some (g,want))(hog:ops[g]? =some og)(ht:og.dst=some t)(htN:Nat.blt t N=true)(hv:opd σ (.tmp t)=some (.bool want))
  (h:wpFrom P (ops.toList.set k {o with guard:=none}).toArray Q k a w):wpFrom P ops Q k a w:=by
 have hk:k<ops.toList.length:=by grind
 have e:ops.toList[k]=o:=by
  grind
 have hw:Region.wanted o (yielded ops a.tmps)=true:=by
  grind[Region.wanted,JE]
 unfold wpFrom at h⊢;have hy:∀j:Nat,(ops[j]?).bind (·.dst)=((ops.toList.set k {o with guard:=none}).toArray[j]?).bind (·.dst):=λj=>by
  grind
 have hdrop:(ops.toList.set k {o with guard:=none}).toArray.toList.drop k={o with guard:=none}::ops.toList.drop (k+1):=by
  grind[List.drop_eq_getElem_cons,List.drop_set_of_lt]
 rw[hdrop]at h;rw[Zgc hk,e];unfold wpList at h⊢;rw[ZfC hw];rw[ZfC ap,<-CO hy]at h;exact h
def BI{l:List Oper}{g t:Nat}{want:Bool}{o og:Oper}(hF:FrS N σ a)(ho:l[k]? =some o)(hg:o.guard=some (g,want))(hog:l[g]? =some og)(ht:og.dst=some t)(htN:Nat.blt t N=true)(hv:opd σ (.tmp t)=some (.bool want))
  (h:wpFrom P (l.set k {o with guard:=none}).toArray Q k a w):wpFrom P l.toArray Q k a w:=
 ZaN hF ah hg ah ht htN hv h
def Zaw{g t d:Nat}{want b:Bool}{o og:Oper}(hF:FrS N σ a)(ho:ops[k]? =some o)(hg:o.guard=some (g,want))(hog:ops[g]? =some og)(ht:og.dst=some t)(htN:Nat.blt t N=true)(hv:opd σ (.tmp t)=some (.bool b))(hb:(b==want)=false)
  (hd:o.dst=some d)(hdN:Nat.blt d N=true)(h:∀fr,FrS N ((d,undef)::σ) fr->wpFrom P ops Q (k+1) fr w):wpFrom P ops Q k a w:=by
 have hk:k<ops.toList.length:=by grind
 have e:ops.toList[k]=o:=by
  grind
 have hw:Region.wanted o (yielded ops a.tmps)=false:=by
  simpa[Region.wanted,hg,JE hF hog ht htN hv]using hb
 unfold wpFrom at h⊢;rw[Zgc hk,e];unfold wpList;have:=h _ (hF.put (ZfW.mp hdN) undef);simp_all
def Lh{β:Type}{b:Bool}{x y r:β}(h:(if b=true then x else y)=r):(b=true/\x=r)\/(b=false/\y=r):=by
 grind
def Zal{b:Bool}{c:Operand}{v:Value}(ho:ops[k]? =some ⟨some d,.pick c x y,ty,pos,af,none⟩)(hd:Nat.blt d N=true)(hF:FrS N σ a)(hc:opd σ c=some (.bool b))(hv:opd σ (if b then x else y)=some v)
  (h:∀fr,FrS N ((d,v)::σ) fr->wpFrom P ops Q (k+1) fr w):wpFrom P ops Q k a w:=by
 refine Zp hF ho rfl rfl (ZfW.mp hd) (R:=λz w'=>z=v/\w'=w) (Zh (v:=v) (w':=w) ?_ ⟨rfl,rfl⟩) λz w' fr hz hF'=>?_
 ·have h1:=Zd hF hc;have h2:=Zd hF hv;cases b<;>simp_all[execOp,asBool]
 simp_all
end
def ZdY{P:Program}{a b c:Str}(h:cat? a b=some c)(t:TypeId)(w:World):(binOp .add t a.val b.val).run P w= .ok c.val w:=by
 unfold cat? at h;split at h
 ·have e:(⟨a.bytes.toArray⟩:ByteArray)++(⟨b.bytes.toArray⟩:ByteArray)=⟨(a.bytes++b.bytes).toArray⟩:=by
   rfl
  simp_all[ByteArray.size,Str.val,binOp,Op.stringOp,ZfD]<;>grind
 ·cases h
section
variable{P:Program}{ops:Array Oper}{Q:Exit->Act->World->Prop}{a:Act}{w:World}{N:Nat}{σ:List (Nat×Value)}{k d:Nat}{t t' yt ty E:TypeId}{x y:Operand}{pos:String}{af:Array Edge}{s1 s2 s3:Str}{F:Nat->Prop}
def Zf5(ho:ops[k]? =some ⟨some d,.binOp .add t x y yt,ty,pos,af,none⟩)(hd:Nat.blt d N=true)(hF:FrS N σ a)(hx:opd σ x=some s1.val)(hy:opd σ y=some s2.val)(hz:cat? s1 s2=some s3)
  (h:∀fr,FrS N ((d,s3.val)::σ) fr->wpFrom P ops Q (k+1) fr w):wpFrom P ops Q k a w:=Ka ho hd hF hx hy ap (ZdY hz _ _) h
theorem BO(l:List Byt):∀s:ByteArray,(l.map (·.n)).foldl (λr n=>r.push (UInt8.ofNat n.toNat)) s=⟨(s.data.toList++(strOf l).bytes).toArray⟩:=by
 induction l with
 |nil=>simp[strOf]
 |cons b l ih=>
  simp_all[Zgu,Zhk,strOf,ByteArray.push]
theorem ZaL{v:Value}{l:List Byt}(ht:P.underlying t=some (.slice E))(hE:P.underlying E=some (.int .u8))(ht':P.underlying t'=some .string)(hl:RV w F v l):(convert t t' v).run P w= .ok (strOf l).val w:=by
 obtain⟨ad,cap,rfl,hcap,hmax,hcells⟩:=hl.slice;rw[run_convert_bytes_string w t t' E ad l.length cap ht hE ht'];by_cases hm:l=[]
 ·subst hm;cases ad with
  |none=>rfl
  |some ad=>
   rfl
 ·obtain⟨a',rfl,_,he⟩:=hcells hm;obtain⟨css,g1,g2⟩:=Um he;have hcss:css=l.map Flat.enc:=by
   apply Zgy;intro i;rw[Zgp];by_cases hi:i<l.length
   ·have hi':i<css.length:=by rw[g1.1];exact hi
    rw[ZfA hi,ZfA hi'];exact congrArg some (Flat.iff.1 (g1.2 i css[i] l[i] (ZfA hi') (ZfA hi)))
   ·rw[Zgd (by rw[g1.1];omega),Zgd O];rfl
  subst hcss;have hfl:(l.map Flat.enc).flatten=(l.map (·.n)).map (Value.int .u8):=by
   clear g1 g2 he hcells hm hcap hl
   induction l with
   |nil=>rfl
   |cons b l ih=>rw[Zgu,ZgZ,ih];rfl
  have hc:∀j u,((l.map (·.n)).map (Value.int .u8))[j]? =some u->w.cell? (a'.add j)=some u:=λj u hu=>by grind
  have:=run_loadCells_list (P:=P) w a' _ hc;have hlen:((l.map (·.n)).map (Value.int .u8)).length=l.length:=by simp
  rw[hlen]at this;rw[run_bytesToString w a' _ cap (l.map (·.n)) this,BO];rfl
def BM{v:Value}{l:List Byt}(ht:P.underlying t=some (.slice E))(hE:P.underlying E=some (.int .u8))(ht':P.underlying t'=some .string)(ho:ops[k]? =some ⟨some d,.convert t t' x,ty,pos,af,none⟩)(hd:Nat.blt d N=true)(hF:FrS N σ a)(hx:opd σ x=some v)(hl:RV w F v l)
  (h:∀fr,FrS N ((d,(strOf l).val)::σ) fr->wpFrom P ops Q (k+1) fr w):wpFrom P ops Q k a w:=by
 refine Zp hF ho rfl rfl (ZfW.mp hd) (R:=λz w'=>z=(strOf l).val/\w'=w) (Zh (v:=(strOf l).val) (w':=w) ?_ ⟨rfl,rfl⟩) λz w' fr hz hF'=>?_
 ·simp[execOp,Zd hF hx,ZaL ht hE ht' hl]
 simp_all
end
section
variable{P:Program}{draw:Bool}{ms:List Nat}{ops:Array Oper}{a0:Act}{w0:World}{Q:Exit->Act->World->Prop}{σ:List (Nat×Value)}{N j:Nat}{dst:Option Tmp}{g:Option (Nat×Bool)}
  {t yt ty:TypeId}{x y:Operand}{pos:String}{af:Array Edge}{s1 s2 s3:Str}
end
open Go.RowKit Go.Sort
structure TB(P:Program)(name:String)(k:IntKind)(zs:List Int)(w:World)(F:Nat->Prop):Prop where
 tab:Lib.TabIs P w name k zs
 blk:∃g,P.globalNamed name=some g/\F g
section
variable{P:Program}{name:String}{k:IntKind}{zs:List Int}{w w' w0:World}{S S0 S' F F0 F':Nat->Prop}
def TB.lt(h:TB P name k zs w F){g:Nat}(hg:P.globalNamed name=some g):g<w.heap.size:=by
 have h1:=h.tab;grind[Lib.TabIs,World.var?,Array.getElem?_eq_none]
def TB.chg(h:TB P name k zs w F)(hc:Chg S w w')(hd:∀j,F j->¬S j):TB P name k zs w' F:=by
 obtain⟨g,hg,hF⟩:=h.blk;refine⟨?_,g,hg,hF⟩;have h1:=h.tab;unfold Lib.TabIs World.var? at h1⊢;rw[hg,Zf9]at h1⊢;rw[hc.block g (h.lt hg) (hd g hF)];exact h1
def TB.sub(h:TB P name k zs w F)(hf:∀j,j<w.heap.size->F j->F' j):TB P name k zs w F':=by
 obtain⟨g,hg,hF⟩:=h.blk;exact⟨h.tab,g,hg,hf g (h.lt hg) hF⟩
theorem TB.of(h:Lib.TabIs P w name k zs)(hF:∀j,j<w.heap.size->F j):TB P name k zs w F:=by
 have h1:=h;unfold Lib.TabIs World.var? at h1;cases hg:P.globalNamed name with
 |none=>simp_all
 |some g=>
  have key:TB P name k zs w (λ_=>True):=⟨h,g,hg,trivial⟩;exact⟨h,g,hg,hF g (key.lt hg)⟩
def ZbC(w:World)(k:Nat)(os:Array Obj):Chg Non w (grow (w.drewN k) os):=
 ⟨rfl,rfl,rfl,by simp,λj hj _=>by
  show(w.heap++os)[j]? =w.heap[j]?
  grind⟩
end
section
variable{P:Program}{draw:Bool}{ms:List Nat}{ops:Array Oper}{a0:Act}{w0:World}{Q:Exit->Act->World->Prop}{σ:List (Nat×Value)}{N j:Nat}{dst:Option Tmp}{g:Option (Nat×Bool)}
  {t t' E ty:TypeId}{pos:String}{af:Array Edge}{ow:Nat->Nat}
end
instance:Rep D.Gate where
 sz:=2
 agg:=true
 ok:=λ_ _ cs x=>cs=[.int .i64 x.A,.int .i64 x.B]
 len:=by simp
 one:=by rintro w F cs x rfl u hu;simp at hu;rcases hu with rfl|rfl<;>rfl
 pos:=by decide
 sgl:=λh=>by cases h
 keep:=λh _=>h
instance:Flat D.Gate where
 enc:=λx=>[.int .i64 x.A,.int .i64 x.B]
 iff:=Iff.rfl
instance:Rep D.Circuit where
 sz:=2
 agg:=true
 ok:=λw F cs x=>∃v1:Value,cs=[.int .i64 x.Inputs,v1]/\Rep.ok w F [v1] x.Gates
 len:=by simp_all
 one:=by
  rintro w F cs x ⟨v1,rfl,h1⟩ u hu;simp at hu;rcases hu with rfl|rfl
  ·rfl
  grind[Rep.one]
 pos:=by decide
 sgl:=λh=>by cases h
 keep:=by
  rintro w w' F F' cs x ⟨v1,rfl,h1⟩ hk;exact⟨v1,rfl,Rep.keep h1 hk⟩
instance:Rep D.Formula where
 sz:=2
 agg:=true
 ok:=λw F cs x=>∃v1:Value,cs=[.int .i64 x.Vars,v1]/\Rep.ok w F [v1] x.Clauses
 len:=by simp_all
 one:=by
  rintro w F cs x ⟨v1,rfl,h1⟩ u hu;simp at hu;rcases hu with rfl|rfl
  ·rfl
  grind[Rep.one]
 pos:=by decide
 sgl:=λh=>by cases h
 keep:=by
  rintro w w' F F' cs x ⟨v1,rfl,h1⟩ hk;exact⟨v1,rfl,Rep.keep h1 hk⟩
instance:Rep D.Ins where
 sz:=4
 agg:=true
 ok:=λ_ _ cs x=>cs=[.int .i64 x.Op,.int .i64 x.A,.int .i64 x.B,.int .i64 x.C]
 len:=by simp
 one:=by rintro w F cs x rfl u hu;simp at hu;rcases hu with rfl|rfl|rfl|rfl<;>rfl
 pos:=by decide
 sgl:=λh=>by cases h
 keep:=λh _=>h
instance:Flat D.Ins where
 enc:=λx=>[.int .i64 x.Op,.int .i64 x.A,.int .i64 x.B,.int .i64 x.C]
 iff:=Iff.rfl
instance:Rep D.Program where
 sz:=4
 agg:=true
 ok:=λw F cs x=>∃v3:Value,cs=[.int .i64 x.W,.int .i64 x.Mem,.int .i64 x.In,v3]/\Rep.ok w F [v3] x.Code
 len:=by simp_all
 one:=by
  rintro w F cs x ⟨v3,rfl,h3⟩ u hu;simp at hu;rcases hu with rfl|rfl|rfl|rfl
  ·rfl
  ·rfl
  ·rfl
  grind[Rep.one]
 pos:=by decide
 sgl:=λh=>by cases h
 keep:=by
  rintro w w' F F' cs x ⟨v3,rfl,h3⟩ hk;exact⟨v3,rfl,Rep.keep h3 hk⟩
def RV.Program{w:World}{F:Nat->Prop}{v:Value}{x:D.Program}(h:RV w F v x):∃v3:Value,v= .agg #[.int .i64 x.W,.int .i64 x.Mem,.int .i64 x.In,v3]/\RV w F v3 x.Code:=by
 obtain⟨cs,⟨v3,rfl,h3⟩,rfl⟩:=h;exact⟨v3,rfl,RV.of_one rfl h3⟩
instance:Rep D.Value where
 sz:=3
 agg:=true
 ok:=λ_ _ cs x=>cs=[(Str.val x.Name),.int .i64 x.W,.int .i64 x.N]
 len:=by simp
 one:=by rintro w F cs x rfl u hu;simp at hu;rcases hu with rfl|rfl|rfl<;>rfl
 pos:=by decide
 sgl:=λh=>by cases h
 keep:=λh _=>h
instance:Flat D.Value where
 enc:=λx=>[(Str.val x.Name),.int .i64 x.W,.int .i64 x.N]
 iff:=Iff.rfl
mutual
def okTerm(w:World)(F:Nat->Prop)(cs:List Value):D.Term->Prop
 |⟨y0,y1,y2,y3,kids⟩=>∃(a:Option Addr)(cp:Nat),cs=[.int .i64 y0,.int .i64 y1,.int .i64 y2,(Str.val y3),.slice a kids.length cp]/\kids.length<=cp/\cp<=maxLen/\(kids≠[]->∃ad,a=some ad/\F ad.block/\elsTerm w F ad 0 kids)
def elsTerm(w:World)(F:Nat->Prop)(ad:Addr)(i:Nat):List D.Term->Prop
 |[]=>True
 |x::xs=>(∃cs,okTerm w F cs x/\Cells w (ad.add (i*5)) cs)/\elsTerm w F ad (i+1) xs
end
theorem Ni{w:World}{F:Nat->Prop}{cs:List Value}:∀{t:D.Term},okTerm w F cs t->cs.length=5
 |⟨y0,y1,y2,y3,kids⟩,h=>by
  obtain⟨a,cp,rfl,_⟩:=h;rfl
mutual
theorem LK{w w':World}{F F':Nat->Prop}(hk:∀k,k<w.heap.size->F k->w'.heap[k]? =w.heap[k]? /\F' k){cs:List Value}:∀(t:D.Term),okTerm w F cs t->okTerm w' F' cs t
 | ⟨y0,y1,y2,y3,kids⟩,h=>by
  unfold okTerm at h⊢;obtain⟨a,cp,rfl,h1,h2,h3⟩:=h;refine⟨a,cp,rfl,h1,h2,λhn=>?_⟩;obtain⟨ad,rfl,hF,he⟩:=h3 hn;have hlt:ad.block<w.heap.size:=by
   cases kids with
   |nil=>exact absurd rfl hn
   |cons x xs=>
    unfold elsTerm at he;obtain⟨⟨cs,h4,h5⟩,_⟩:=he;have:=h5.lt (by intro e;have:=Ni h4;rw[e]at this;cases this)
    rwa [add_block]at this
  exact⟨ad,rfl,(hk _ hlt hF).2,NL hk ad hF kids 0 he⟩
theorem NL{w w':World}{F F':Nat->Prop}(hk:∀k,k<w.heap.size->F k->w'.heap[k]? =w.heap[k]? /\F' k)(ad:Addr)(hF:F ad.block):∀(l:List D.Term)(i:Nat),elsTerm w F ad i l->elsTerm w' F' ad i l
 |[],_,_=>by unfold elsTerm;trivial
 | x::xs,i,h=>by
  unfold elsTerm at h⊢;obtain⟨⟨cs,h1,h2⟩,h3⟩:=h;have hlt:ad.block<w.heap.size:=by
   have:=h2.lt (by intro e;have:=Ni h1;rw[e]at this;cases this)
   rwa [add_block]at this
  exact⟨⟨cs,LK hk x h1,h2.keep λ_=>by rw[add_block];exact(hk _ hlt hF).1⟩,NL hk ad hF xs (i+1) h3⟩
end
instance:Rep D.Term where
 sz:=5
 agg:=true
 ok:=λw F cs x=>okTerm w F cs x
 len:=Ni
 one:=by
  rintro w F cs ⟨y0,y1,y2,y3,kids⟩ h u hu;obtain⟨a,cp,rfl,_⟩:=h;simp at hu;rcases hu with rfl|rfl|rfl|rfl|rfl<;>rfl
 pos:=by decide
 sgl:=λh=>by cases h
 keep:=λh hk=>LK hk _ h
theorem PX{w:World}{F:Nat->Prop}{ad:Addr}:∀{l:List D.Term}{i:Nat},elsTerm w F ad i l↔elems w F ad i l
 |[],i=>by rfl
 |x::xs,i=>by
  unfold elsTerm elems;rw[PX (l:=xs)];exact Iff.rfl
def RV.Term{w:World}{F:Nat->Prop}{v:Value}{x:D.Term}(h:RV w F v x):∃v4:Value,v= .agg #[.int .i64 x.Op,.int .i64 x.W,.int .i64 x.N,(Str.val x.Name),v4]/\RV w F v4 x.Kids:=by
 obtain⟨cs,h,rfl⟩:=h;obtain⟨y0,y1,y2,y3,kids⟩:=x;obtain⟨a,cp,rfl,h1,h2,h3⟩:=h;refine⟨_,rfl,RV.mk_slice h1 h2 λhn=>?_⟩;simp_all[PX]
def RV.mk_Term{w:World}{F:Nat->Prop}(x:D.Term){v4:Value}(h:RV w F v4 x.Kids):RV w F (.agg #[.int .i64 x.Op,.int .i64 x.W,.int .i64 x.N,(Str.val x.Name),v4]) x:=by
 obtain⟨y0,y1,y2,y3,kids⟩:=x;obtain⟨a,cp,rfl,h1,h2,h3⟩:=RV.slice h;refine⟨_,show okTerm w F [.int .i64 y0,.int .i64 y1,.int .i64 y2,(Str.val y3),.slice a kids.length cp] ⟨y0,y1,y2,y3,kids⟩from ?_,rfl⟩;refine⟨a,cp,rfl,h1,h2,λhn=>?_⟩;simp_all[PX]
instance:Rep D.Path where
 sz:=10
 agg:=true
 ok:=λw F cs x=>∃v1 v2 v3 v5 v8 v9:Value,cs=[.int .i64 x.Pc,v1,v2,v3,.int .i64 x.In,v5,.int .i64 x.Code,.int .i64 x.Steps,v8,v9]/\Rep.ok w F [v1] x.Regs/\Rep.ok w F [v2] x.Mem/\Rep.ok w F [v3] x.Stack/\Rep.ok w F [v5] x.Out/\Rep.ok w F [v8] x.Cond/\Rep.ok w F [v9] x.Turns
 len:=by simp_all
 one:=by
  rintro w F cs x ⟨v1,v2,v3,v5,v8,v9,rfl,h1,h2,h3,h5,h8,h9⟩ u hu;simp at hu;rcases hu with rfl|rfl|rfl|rfl|rfl|rfl|rfl|rfl|rfl|rfl
  ·rfl
  ·grind[Rep.one]
  ·grind[Rep.one]
  ·grind[Rep.one]
  ·rfl
  ·grind[Rep.one]
  ·rfl
  ·rfl
  all_goals grind[Rep.one]
 pos:=by decide
 sgl:=λh=>by cases h
 keep:=by
  rintro w w' F F' cs x ⟨v1,v2,v3,v5,v8,v9,rfl,h1,h2,h3,h5,h8,h9⟩ hk;exact⟨v1,v2,v3,v5,v8,v9,rfl,Rep.keep h1 hk,Rep.keep h2 hk,Rep.keep h3 hk,Rep.keep h5 hk,Rep.keep h8 hk,Rep.keep h9 hk⟩
def RV.Path{w:World}{F:Nat->Prop}{v:Value}{x:D.Path}(h:RV w F v x):∃v1 v2 v3 v5 v8 v9:Value,v= .agg #[.int .i64 x.Pc,v1,v2,v3,.int .i64 x.In,v5,.int .i64 x.Code,.int .i64 x.Steps,v8,v9]/\RV w F v1 x.Regs/\RV w F v2 x.Mem/\RV w F v3 x.Stack/\RV w F v5 x.Out/\RV w F v8 x.Cond/\RV w F v9 x.Turns:=by
 obtain⟨cs,⟨v1,v2,v3,v5,v8,v9,rfl,h1,h2,h3,h5,h8,h9⟩,rfl⟩:=h;exact⟨v1,v2,v3,v5,v8,v9,rfl,RV.of_one rfl h1,RV.of_one rfl h2,RV.of_one rfl h3,RV.of_one rfl h5,RV.of_one rfl h8,RV.of_one rfl h9⟩
def RV.mk_Path{w:World}{F:Nat->Prop}(x:D.Path){v1 v2 v3 v5 v8 v9:Value}(h1:RV w F v1 x.Regs)(h2:RV w F v2 x.Mem)(h3:RV w F v3 x.Stack)(h5:RV w F v5 x.Out)(h8:RV w F v8 x.Cond)(h9:RV w F v9 x.Turns):RV w F (.agg #[.int .i64 x.Pc,v1,v2,v3,.int .i64 x.In,v5,.int .i64 x.Code,.int .i64 x.Steps,v8,v9]) x:=
 ⟨[.int .i64 x.Pc,v1,v2,v3,.int .i64 x.In,v5,.int .i64 x.Code,.int .i64 x.Steps,v8,v9],⟨v1,v2,v3,v5,v8,v9,rfl,RV.one rfl h1,RV.one rfl h2,RV.one rfl h3,RV.one rfl h5,RV.one rfl h8,RV.one rfl h9⟩,rfl⟩
structure Agg(n:Nat)where
 cs:List Value
instance{n:Nat}:Rep (Agg n)where
 sz:=n+1
 agg:=true
 ok:=λ_ _ cs _=>cs.length=n+1/\∀u∈cs,u.oneCell'=true
 len:=λh=>h.1
 one:=λh=>h.2
 pos:=Nat.succ_pos n
 sgl:=λh=>by cases h
 keep:=λh _=>h
def cellN(P:Program)(t:TypeId):Option (Nat×Bool):=
 match P.info? t,P.underlying t with
 |some i,some (.struct _)=>some (i.size,true)
 |some i,some (.array _ _)=>none
 |some i,some _=>some (i.size,false)
 |_,_=>none
def loadV(P:Program)(t:TypeId)(off:Nat)(cs:List Value):Option Value:=
 match cellN P t with
 |some (n+1,true)=>if Nat.beq ((cs.drop off).take (n+1)).length (n+1)then some (.agg ((cs.drop off).take (n+1)).toArray)else none
 |some (1,false)=>cs[off]?
 |_=>none
theorem Hm{P:Program}{t:TypeId}{off b:Nat}{bt:TypeId}{cs:List Value}{v:Value}{w:World}(h:loadV P t off cs=some v)(hb:Box w b bt cs):(loadVar t ⟨b,off,none⟩).run P w= .ok v w:=by
 unfold loadV cellN at h;cases hi:P.info? t with
 |none=>simp_all
 | some i=>
  cases hu:P.underlying t with
  |none=>simp_all
  | some dd=>
   have key:∀(n:Nat),i.size=n+1->(P.underlying t=some dd)->(match P.underlying t with|some (.struct _)=>true|some (.array _ _)=>true|some _=>false|none=>!true)=true->Ty P t (Agg n):=λn hn _ ha=>⟨by rw[hi];exact congrArg some hn,ha⟩;have agg:∀n,i.size=n+1->Ty P t (Agg n)->(if Nat.beq ((cs.drop off).take (n+1)).length (n+1)then some (Value.agg ((cs.drop off).take (n+1)).toArray)else none)=some v->(loadVar t ⟨b,off,none⟩).run P w= .ok v w:=by
    intro n hn hT h;split at h
    ·rename_i hlen;have hlen:=Zg2 hlen;obtain rfl:=Option.some.inj h;have hp:=hb.part (off:=off) (ps:=(cs.drop off).take (n+1)) (by rw[hlen]);exact YO hT hlen hp
    ·cases h
   cases dd with
   |struct fs=>
    grind
   |array _ _=>simp_all
   | _=>
    simp only[hi,hu]at h;have hT:i.size=1->Ty P t Int:=λh1=>⟨by rw[hi];exact congrArg some h1,by rw[hu];rfl⟩;split at h
    ·simp_all
    ·rename_i heq;simp only[Option.some.injEq,Prod.mk.injEq,Zh6]at heq;have hc:Cells w ⟨b,off,none⟩ [v]:=λj u hj=>by
      cases j with
      |zero=>
       simp only[Zgz,Option.some.injEq]at hj;subst hj;have:(⟨b,off,none⟩:Addr).add 0=⟨b,off,none⟩:=by rfl
       rw[this,hb.cell];exact h
      |succ j=>simp at hj
     exact YO (hT heq) (cs:=[v]) rfl hc
    ·cases h
abbrev Bxs:=List (Nat×List Value)
def Bxs.at(bx:Bxs)(w:World):Prop:=∀p∈bx,∃t,Box w p.1 t p.2
def evB(P:Program)(bx:Bxs)(ρ:Operand->Option Value)(h:Option Nat)(o:Op):Option (Value×List (Nat×Nat)):=
 match h with
 |none=>(pe P ρ o).map λv=>(v,[])
 | some i=>
  match o with
  |.load t x=>
   match ρ x,bx[i]? with
   |some (.pointer (some ⟨b,off,none⟩)),some (b',cs)=>(loadV P t off cs).map λv=>(v,[(b,b')])
   |_,_=>none
  |_=>none
def seqB(P:Program)(N:Nat)(bx:Bxs)(hs:List (Nat×Nat)):Nat->List Oper->List (Nat×Value)->Option (List (Nat×Value)×List (Nat×Nat))
 |_,[],σ=>some (σ,[])
 |j,o::os,σ=>
  match o.guard,o.dst,evB P bx (opd σ) (hs.lookup j) o.op with
  |none,some d,some (v,e)=>if d<N then(seqB P N bx hs (j+1) os ((d,v)::σ)).map λr=>(r.1,e++r.2)else none
  |_,_,_=>none
def okB{α:Type}(o:Option (α×List (Nat×Nat))):Prop:=o.map (λr=>r.2.map (·.1))=some ((o.map (λr=>r.2.map (·.2))).getD [])
theorem Ab{α:Type}{o:Option (α×List (Nat×Nat))}(h:okB o):∃x e,o=some (x,e)/\∀p∈e,p.1=p.2:=by
 unfold okB at h;cases o with
 |none=>cases h
 |some r=>
  obtain⟨x,e⟩:=r;simp only[Zgh,Zg8,Option.some.injEq]at h;exact⟨x,e,rfl,λp hp=>ZgH.1 h p hp⟩
section
variable{P:Program}{ops:Array Oper}{Q:Exit->Act->World->Prop}{a:Act}{w:World}{N:Nat}{σ:List (Nat×Value)}{bx:Bxs}{hs:List (Nat×Nat)}
theorem Zcg{ρ:Operand->Option Value}{o:Oper}{h:Option Nat}{v:Value}{e:List (Nat×Nat)}{K:Act->World->Prop}(hρ:∀x v,ρ x=some v->a.eval x=v)(hbx:bx.at w)(he:evB P bx ρ h o.op=some (v,e))(heq:∀p∈e,p.1=p.2)
  (hK:K (a.put o.dst v) w):o.wp P a w K Q:=by
 unfold evB at he;cases h with
 | none=>
  cases hp:pe P ρ o.op with
  |none=>simp_all
  |some u=>
   rw[hp]at he;obtain⟨rfl,rfl⟩:=he;unfold Oper.wp;rw[MN (P:=P) (ρ':=a.eval) hρ hp w];exact hK
 | some i=>
  simp only at he;split at he
  ·rename_i t x ho;split at he
   ·rename_i b off b' cs hx hi;cases hl:loadV P t off cs with
    |none=>simp_all
    | some u=>
     rw[hl]at he;simp only[Zgh,Option.some.injEq,Prod.mk.injEq]at he;obtain⟨rfl,rfl⟩:=he;obtain⟨bt,hB⟩:=hbx _ (ZfH hi);have hr:=Hm hl hB;unfold Oper.wp;have:(execOp a.eval o).run P w= .ok (.value u) w:=by
      simp_all[execOp,Instr.loadAt,Instr.sureAddr]
     rw[this];exact hK
   ·cases he
  ·cases he
theorem Ns{rest:List Oper}(hbx:bx.at w):∀{l:List Oper}{j:Nat}{σ σ1:List (Nat×Value)}{e:List (Nat×Nat)}{a:Act},FrS N σ a->seqB P N bx hs j l σ=some (σ1,e)->(∀p∈e,p.1=p.2)->(∀a',FrS N σ1 a'->wpList P ops Q rest a' w)->wpList P ops Q (l++rest) a w
 |[],j,σ,σ1,e,a,hF,hs,_,h=>by
  simp_all[seqB,Option.some.injEq,Prod.mk.injEq]
 | o ::l,j,σ,σ1,e,a,hF,hs,he,h=>by
  unfold seqB at hs;split at hs
  ·rename_i d v e1 hg hd hv;split at hs
   ·rename_i hdN;cases hr:seqB P N bx _ (j+1) l ((d,v)::σ)with
    |none=>rw[hr]at hs;cases hs
    |some r=>
     rw[hr]at hs;obtain⟨rfl,rfl⟩:=hs;refine wpList_plain hg λK hK=>Zcg (λx u hx=>Zd hF hx) hbx hv (λp hp=>he p (ZfG.2 (.inl hp))) (hK _ _ ?_);rw[hd];exact Ns hbx (hF.put hdN v) hr (λp hp=>he p (ZfG.2 (.inr hp))) h
   ·cases hs
  ·cases hs
end
section
variable{P:Program}{bx:Bxs}{hs:List (Nat×Nat)}{ops:Array Oper}{σ:List (Nat×Value)}{m:Nat}
theorem Vg{t:Nat}{v:Value}{f:Nat->Bool}:∀{σ:List (Nat×Value)},(σ.filter λp=>f p.1).lookup t=some v->f t=true/\σ.lookup t=some v
 |[],h=>by cases h
 | (k,u)::σ,h=>by
  rw[List.filter_cons]at h;by_cases e:t=k
  ·subst e;by_cases hf:f t=true
   ·simp_all
   ·rw[ZfD O]at h;exact absurd (Vg h).1 hf
  ·have e':(t==k)=false:=by simpa using e
   have h2:(σ.filter λp=>f p.1).lookup t=some v:=by
    grind
   rw[ZfZ,e'];exact Vg h2
variable{N:Nat}{a:Act}{w:World}{Q:Exit->Act->World->Prop}{draw:Bool}{ms:List Nat}
end
structure RF where
 ok:World->(Nat->Prop)->Prop
 sub:∀{w:World}{F F':Nat->Prop},ok w F->(∀k,k<w.heap.size->F k->F' k)->ok w F'
 chg:∀{w w':World}{F T:Nat->Prop},ok w F->Chg T w w'->(∀k,F k->¬T k)->ok w' F
 box:Option (Nat×List Value):=none
 isb:∀{w:World}{F:Nat->Prop}{p:Nat×List Value},box=some p->ok w F->∃t,Box w p.1 t p.2:=by intro _ _ _ h;cases h
def RO{α:Type}[Rep α](v:Value)(x:α):RF where
 ok w F:=RV w F v x
 sub h hs:=RV.sub h hs
 chg h hc ht:=RV.chg h hc ht
def FX(b:Nat)(t:TypeId)(cs:List Value):RF where
 ok w F:=Box w b t cs/\F b
 sub h hs:=⟨h.1,hs b h.1.lt h.2⟩
 chg h hc ht:=⟨h.1.chg hc (ht b h.2),h.2⟩
 box:=some (b,cs)
 isb h hok:=by grind
def CS{ρ α:Type}[Flat ρ][Rep α](rs:List ρ)(xs:List α):RF where
 ok w F:=Css w F (rs.map Flat.enc) xs
 sub h hs:=⟨h.1,λi cs x hi hx=>Rep.keep (h.2 i cs x hi hx) λk hk hf=>⟨rfl,hs k hk hf⟩⟩
 chg h hc ht:=⟨h.1,λi cs x hi hx=>Rep.keep (h.2 i cs x hi hx) λk hk hf=>⟨hc.block k hk (ht k hf),hf⟩⟩
def AllF(Φ:List RF)(w:World)(F:Nat->Prop):Prop:=∀R∈Φ,R.ok w F
section
variable{w w':World}{F F' T:Nat->Prop}{Φ Ψ:List RF}{R:RF}
def AllF.sub(h:AllF Φ w F)(hs:∀k,k<w.heap.size->F k->F' k):AllF Φ w F':=λR hR=>R.sub (h R hR) hs
def AllF.chg(h:AllF Φ w F)(hc:Chg T w w')(ht:∀k,F k->¬T k):AllF Φ w' F:=λR hR=>R.chg (h R hR) hc ht
def AllF.nil:AllF [] w F:=λR hR=>by cases hR
def AllF.add(h:AllF Φ w F)(hR:R.ok w F):AllF (Φ++[R]) w F:=λR' h'=>by
 rcases ZfG.1 h' with h'|h'
 ·exact h R' h'
 simp_all
def AllF.join(h:AllF Φ w F)(h':AllF Ψ w F):AllF (Φ++Ψ) w F:=λR hR=>(ZfG.1 hR).elim (h R) (h' R)
def AllF.get(h:AllF Φ w F){i:Nat}(hi:Φ[i]? =some R):R.ok w F:=h R (ZfH hi)
theorem AllF.pick(fs:List Nat)(h:AllF Φ w F)(hf:fs.map (λi=>Φ[i]?)=Ψ.map some):AllF Ψ w F:=λR hR=>by
 obtain⟨j,hj,hR⟩:=List.mem_iff_getElem.1 hR;have h1:(fs.map λi=>Φ[i]?)[j]? =some (some R):=by simp_all
 rw[Zgp]at h1;cases hi:fs[j]? with
 |none=>simp_all
 |some i=>rw[hi]at h1;exact h.get (by simpa using h1)
end
structure Bs where
 w:World
 S:Nat->Prop
 F:Nat->Prop
structure Cx(B:Bs)(N:Nat)(σ:List (Nat×Value))(Γ:List HP)(Φ:List RF)(a:Act)(w:World):Prop where
 fr:FrS N σ a
 me:∃S F,Mem B.w B.S B.F w S F/\Sep Γ w S/\AllF Φ w F
def Gl(B:Bs)(N:Nat)(H:Prop)(σ:List (Nat×Value))(Γ:List HP)(Φ:List RF)(T:Act->World->Prop):Prop:=H->∀{a w},Cx B N σ Γ Φ a w->T a w
def gap{B:Bs}{N:Nat}{H:Prop}{σ:List (Nat×Value)}{Γ:List HP}{Φ:List RF}{T:Act->World->Prop}(h:Gl B N H σ Γ Φ T)(e:H)(a:Act)(w:World)(c:Cx B N σ Γ Φ a w):T a w:=h e c
def bds{α:Type}{e:Option α}{x:α}(h:e=some x):e.bind some=some x:=by rw[h];rfl
def bxsOf(Γ:List HP)(Φ:List RF):Bxs:=Γ.filterMap (·.box)++Φ.filterMap (·.box)
def Cx.bxs{B:Bs}{N:Nat}{σ:List (Nat×Value)}{Γ:List HP}{Φ:List RF}{a:Act}{w:World}(c:Cx B N σ Γ Φ a w):(bxsOf Γ Φ).at w:=λp hp=>by
 obtain⟨_,S,F,_,hs,hf⟩:=c;rcases ZfG.1 hp with hp|hp
 ·rw[ZgT]at hp;obtain⟨H,hH,hb⟩:=hp;obtain⟨i,hi⟩:=ZgW hH;obtain⟨A,h1,_⟩:=hs.get i hi;exact H.isb hb h1
 ·rw[ZgT]at hp;obtain⟨R,hR,hb⟩:=hp;exact R.isb hb (hf R hR)
def Ava(Γ:List HP)(Φ:List RF)(w:World)(R:RF):Prop:=∀S F,Sep Γ w S->AllF Φ w F->R.ok w (λk=>F k\/S k)
def AvaL(Γ:List HP)(Φ:List RF)(w:World):List RF->Prop
 |[]=>True
 |R::Ψ=>Ava Γ Φ w R/\AvaL Γ Φ w Ψ
section
variable{Γ:List HP}{Φ Ψ:List RF}{w:World}
def Ava.f(i:Nat){R:RF}(h:Φ[i]? =some R:=by rfl):Ava Γ Φ w R:=λ_ _ _ hf=>R.sub (hf.get h) λ_ _ h=>.inl h
def Ava.g{α:Type}[Rep α]{E:TypeId}{v:Value}{l:List α}(i:Nat)(h:Γ[i]? =some (SL E v l):=by rfl):Ava Γ Φ w (RO v l):=λ_ _ hs _=>RV.sub (hs.rv i h) λ_ _ h=>.inr h
def Ava.b{b:Nat}{t:TypeId}{cs:List Value}(i:Nat)(h:Γ[i]? =some (BX b t cs):=by rfl):Ava Γ Φ w (FX b t cs):=λ_ _ hs _=>by
 obtain⟨A,h1,h2⟩:=hs.get i h;exact⟨h1.1,.inr (h2 b h1.2)⟩
def Ava.nil{α:Type}[Rep α]:Ava Γ Φ w (RO (.slice none 0 0) ([]:List α)):=λ_ _ _ _=>RV.nil
theorem AvaL.all{S F:Nat->Prop}:∀{Ψ:List RF},AvaL Γ Φ w Ψ->Sep Γ w S->AllF Φ w F->AllF Ψ w (λk=>F k\/S k)
 |[],_,_,_=>AllF.nil
 |R::Ψ,h,hs,hf=>λR' hR=>by
  rcases ZfY.1 hR with rfl|hR
  ·exact h.1 S F hs hf
  ·exact AvaL.all h.2 hs hf R' hR
end
def tup:List Value->Value
 |[v]=>v
 |vs=>.tuple vs.toArray
abbrev Res:=List Value×List HP×List RF
def Con(P:Program)(f:FuncId)(args:List Value)(Γ:List HP)(Φ:List RF){ι:Type}(R:ι->Res):Prop:=
 ∀(w:World)(S F:Nat->Prop),Sep Γ w S->AllF Φ w F->(∀k,S k->k<w.heap.size)->(∀k,F k->k<w.heap.size)->(∀k,S k->F k->False)->
  Calls P f args.toArray w λe w'=>∃i S' F',e= .returned (tup (R i).1)/\Mem w S F w' S' F'/\Sep (R i).2.1 w' S'/\AllF (R i).2.2 w' F'
def Rp(B:Bs){ι:Type}(R:ι->Res):Ending->World->Prop:=λe w'=>∃i S' F',e= .returned (tup (R i).1)/\Mem B.w B.S B.F w' S' F'/\Sep (R i).2.1 w' S'/\AllF (R i).2.2 w' F'
section
variable{P:Program}{B:Bs}{N:Nat}{σ:List (Nat×Value)}{Γ:List HP}{Φ:List RF}{a a':Act}{w w':World}{Q:Exit->Act->World->Prop}{K:Act->World->Prop}{ι:Type}{R:ι->Res}{fn:Func}
def En{f:FuncId}{c:Code}{args:List Value}(hf:P.funcs[f]? =some fn)(hb:fn.body=some c)(hN:fn.ntmps=N)
  (h:∀B a w,Cx B N (args0 0 args) Γ Φ a w->c.wp P (bodyPost P fn (Rp B R)) a w)(hle:Nat.ble args.length N=true:=by rfl):Con P f args Γ Φ R:=
 λw S F hs hf' hS hF hd=>enter hf hb hN hle λa hF'=>h ⟨w,S,F⟩ a w ⟨hF',S,F,Mem.start hS hF hd,hs,hf'⟩
def Cx.to{σ':List (Nat×Value)}(c:Cx B N σ Γ Φ a w)(h:FrS N σ' a'):Cx B N σ' Γ Φ a' w:=⟨h,c.me⟩
def Cx.ext(c:Cx B N σ Γ Φ a w)(hc:Chg Non w w'):Cx B N σ Γ Φ a w':=by
 obtain⟨h,S,F,h1,h2,h3⟩:=c;exact⟨h,S,F,h1.ext hc,h2.ext hc,h3.chg hc λ_ _ h=>h.elim⟩
def Cx.use{Rf:RF}(c:Cx B N σ Γ Φ a w)(h:Ava Γ Φ w Rf):∃F,Rf.ok w F:=by
 obtain⟨_,S,F,_,h2,h3⟩:=c;exact⟨_,h S F h2 h3⟩
def Cx.add{Rf:RF}(c:Cx B N σ Γ Φ a w)(h:Ava [] Φ w Rf):Cx B N σ Γ (Φ++[Rf]) a w:=by
 obtain⟨hF,S,F,h1,h2,h3⟩:=c;exact⟨hF,S,F,h1,h2,h3.add (Rf.sub (h Non F (Sep.nil w Non) h3) λ_ _ h=>h.elim id λh=>h.elim)⟩
def rg:Nat->List Nat
 |0=>[]
 |n+1=>rg n++[n]
def Cx.re{σ':List (Nat×Value)}{Γ':List HP}{Φ':List RF}(c:Cx B N σ Γ Φ a w)(gs fs:List Nat)(hg:gs.map (λi=>Γ[i]?)=Γ'.map some:=by rfl)(hf:fs.map (λi=>Φ[i]?)=Φ'.map some:=by rfl)
  (hn:gs.Nodup:=by decide)(hσ:σ'.map (λp=>σ.lookup p.1)=σ'.map λp=>some p.2:=by kernel_rfl):Cx B N σ' Γ' Φ' a w:=by
 obtain⟨h,S,F,h1,h2,h3⟩:=c;exact⟨h.sub σ' hσ,S,F,h1,h2.pick gs hn hg,h3.pick fs hf⟩
def Cx.frs(σ':List (Nat×Value))(c:Cx B N σ Γ Φ a w)(hσ:σ'.map (λp=>σ.lookup p.1)=σ'.map λp=>some p.2:=by kernel_rfl):Cx B N σ' Γ Φ a w:=⟨c.fr.sub σ' hσ,c.me⟩
def Cx.gam{Γ':List HP}(c:Cx B N σ Γ Φ a w)(f:∀S,Sep Γ w S->Sep Γ' w S):Cx B N σ Γ' Φ a w:=by
 obtain⟨h,S,F,h1,h2,h3⟩:=c;exact⟨h,S,F,h1,f S h2,h3⟩
theorem Zn{Γ2:List HP}{S:Nat->Prop}(h:Sep (Γ2++Γ) w S):Sep (Γ++Γ2) w S:=by
 obtain⟨A,R,h1,h2,h3,h4,h5⟩:=h.split;grind[Sep.join]
def Cx.relen{α:Type}[Rep α]{E:TypeId}{b:Option Addr}{n cp:Nat}{l:List α}(i:Nat)(c:Cx B N σ Γ Φ a w)(hi:Γ[i]? =some (SL E (.slice b n cp) l):=by rfl):n=l.length/\Cx B N σ (Γ.set i (SL E (.slice b l.length cp) l)) Φ a w:=by
 obtain⟨h,S,F,h1,h2,h3⟩:=c;obtain⟨he,hs⟩:=h2.relen i hi;exact⟨he,h,S,F,h1,hs,h3⟩
def Cx.eqs{v u:Value}(t:Nat)(c:Cx B N σ Γ Φ a w)(he:v=u)(hv:σ.lookup t=some v:=by kernel_rfl):Cx B N ((t,u)::σ) Γ Φ a w:=⟨c.fr.cons (he▸c.fr.get t v hv),c.me⟩
def Fp{ops:Array Oper}{k:Nat}(hs:List (Nat×Nat))(m:Nat)(c:Cx B N σ Γ Φ a w)(h:∀fr,Cx B N ((seqB P N (bxsOf Γ Φ) hs k ((ops.toList.drop k).take m) σ).getD ([],[])).1 Γ Φ fr w->wpFrom P ops Q (k+m) fr w)
  (hk:(seqB P N (bxsOf Γ Φ) hs k ((ops.toList.drop k).take m) σ).map (λr=>r.2.map (·.1))=some (((seqB P N (bxsOf Γ Φ) hs k ((ops.toList.drop k).take m) σ).map (λr=>r.2.map (·.2))).getD []):=by kernel_rfl):wpFrom P ops Q k a w:=by
 obtain⟨σ',e,hσ,he⟩:=Ab hk;rw[hσ]at h;unfold wpFrom at h⊢;have:ops.toList.drop k=(ops.toList.drop k).take m++ops.toList.drop (k+m):=by
  grind[List.drop_drop,List.take_append_drop]
 rw[this];exact Ns c.bxs c.fr hσ he λa' hF'=>h a' (c.to hF')
def P1{id:Nat}{ops:Array Oper}(hs:List (Nat×Nat))(c:Cx B N σ Γ Φ a w)(h:∀fr,Cx B N ((seqB P N (bxsOf Γ Φ) hs 0 ops.toList σ).getD ([],[])).1 Γ Φ fr w->K fr w)
  (hk:(seqB P N (bxsOf Γ Φ) hs 0 ops.toList σ).map (λr=>r.2.map (·.1))=some (((seqB P N (bxsOf Γ Φ) hs 0 ops.toList σ).map (λr=>r.2.map (·.2))).getD []):=by kernel_rfl):(Code.region id ops false).wp P (Exit.then K Q) a w:=by
 obtain⟨σ',e,hσ,he⟩:=Ab hk;rw[hσ]at h;refine Fb ?_;unfold wpFrom;rw[ZgN,<-Zgb ops.toList];exact Ns c.bxs c.fr hσ he λa' hF'=>wpList_nil (h a' (c.to hF'))
def P0{id:Nat}{ops:Array Oper}{b:Code}(hs:List (Nat×Nat))(c:Cx B N σ Γ Φ a w)(h:∀fr,Cx B N ((seqB P N (bxsOf Γ Φ) hs 0 ops.toList σ).getD ([],[])).1 Γ Φ fr w->b.wp P Q fr w)
  (hk:(seqB P N (bxsOf Γ Φ) hs 0 ops.toList σ).map (λr=>r.2.map (·.1))=some (((seqB P N (bxsOf Γ Φ) hs 0 ops.toList σ).map (λr=>r.2.map (·.2))).getD []):=by kernel_rfl):(Code.seq (.region id ops false) b).wp P Q a w:=wp_seq (P1 hs c h hk)
def Tq{x:Code}(h:x.wp P (Exit.then (λa w=>Q .normal a w) Q) a w):x.wp P Q a w:=wp_cut' h λ_ _ h=>h
def T0{id:Nat}{l:List Oper}{b:Code}(h:wpFrom P l.toArray (Exit.then (λa w=>b.wp P Q a w) Q) 0 a w):(Code.seq (.region id l.toArray false) b).wp P Q a w:=wp_seq (Jz h)
def T1{id:Nat}{l:List Oper}(h:wpFrom P l.toArray Q 0 a w):(Code.region id l.toArray false).wp P Q a w:=Jz h
def E0{ops:Array Oper}{k:Nat}(h:K a w)(hk:ops.size=k:=by rfl):wpFrom P ops (Exit.then K Q) k a w:=Es hk (Oo h)
def E1{ops:Array Oper}{k:Nat}(h:Q .normal a w)(hk:ops.size=k:=by rfl):wpFrom P ops Q k a w:=Es hk h
def S0{x:Code}{b:Code}(h:x.wp P (Exit.then (λa w=>b.wp P Q a w) Q) a w):(Code.seq x b).wp P Q a w:=wp_seq h
def K0(h:K a w):Code.skip.wp P (Exit.then K Q) a w:=wp_skip (Oo h)
def K1(h:Q .normal a w):Code.skip.wp P Q a w:=wp_skip h
def I0{x y:Code}{o:Operand}{β:Type}{X Y:Option β}{r:Option β}{b:Bool}(c:Cx B N σ Γ Φ a w)(h:(if b=true then X else Y)=r)(ht:X=r->x.wp P Q a w)(hf:Y=r->y.wp P Q a w)(hb:opd σ o=some (.bool b):=by kernel_rfl):
  (Code.cond o x y).wp P Q a w:=AR c.fr hb (λhb=>ht (iteT hb h)) λhb=>hf (iteF hb h)
abbrev Lpt:=List (Nat×Value)×(List HP->List HP)×List RF
abbrev CxL(B:Bs)(N:Nat)(Γ:List HP)(Φ:List RF)(J:Lpt)(a:Act)(w:World):Prop:=Cx B N J.1 (J.2.1 Γ) (Φ++J.2.2) a w
def Nx{σt ρt ι':Type}{J:σt->ι'->Lpt}{s:σt}{q:σt⊕ρt}(h:some (Sum.inl s)=some q)(i:ι')(c:CxL B N Γ Φ (J s i) a w):∃s' i',q= .inl s'/\CxL B N Γ Φ (J s' i') a w:=⟨s,i,(Option.some.inj h).symm,c⟩
def tn(h:K a w):Exit.then K Q .normal a w:=h
def tr(h:Q .ret a w):Exit.then K Q .ret a w:=h
def te{i:Nat}(h:Q (.exit i) a w):Exit.then K Q (.exit i) a w:=h
def bk{i:Nat}(h:Q .normal a w):Exit.inBlock i Q .normal a w:=h
def be{i:Nat}(h:Q .normal a w):Exit.inBlock i Q (.exit i) a w:=DZ h
def Cx.out(c:Cx B N σ Γ Φ a w)(i:ι)(gs fs:List Nat)(hg:gs.map (λj=>Γ[j]?)=(R i).2.1.map some)(hf:fs.map (λj=>Φ[j]?)=(R i).2.2.map some)(hn:gs.Nodup):Rp B R (.returned (tup (R i).1)) w:=by
 obtain⟨_,S,F,h1,h2,h3⟩:=c;exact⟨i,S,F,rfl,h1,h2.pick gs hn hg,h3.pick fs hf⟩
def Rt{t:Tmp}{v:Value}(c:Cx B N σ Γ Φ a w)(i:ι)(gs fs:List Nat)(hr:fn.results= #[.tmp t]:=by rfl)(hv:(R i).1=[v]:=by rfl)(hl:σ.lookup t=some v:=by kernel_rfl)(hg:gs.map (λj=>Γ[j]?)=(R i).2.1.map some:=by rfl)(hf:fs.map (λj=>Φ[j]?)=(R i).2.2.map some:=by rfl)
  (hn:gs.Nodup:=by decide):bodyPost P fn (Rp B R) .ret a w:=
 ret1 hr c.fr hl (by have:=c.out (R:=R) i gs fs hg hf hn;rw[hv]at this;exact this)
theorem Zfm:∀vs:List Value,(if h:vs.toArray.size=1 then vs.toArray[0]else .tuple vs.toArray)=tup vs
 |[]=>rfl
 |[_]=>rfl
 |_::_::_=>rfl
end
def memN:List Nat->Nat->Bool
 |[],_=>false
 |x::l,j=>Nat.beq x j||memN l j
def restG(gs:List Nat):Nat->List HP->List HP
 |_,[]=>[]
 |j,x::l=>cond (memN gs j) (restG gs (j+1) l) (x::restG gs (j+1) l)
def rest(gs:List Nat)(Γ:List HP):List HP:=restG gs 0 Γ
theorem KH(gs:List Nat)(j:Nat):memN gs j=gs.contains j:=by
 induction gs with
 |nil=>rfl
 |cons x l ih=>
  unfold memN;by_cases h:x=j
  ·subst h;simp
  grind[Nat.beq,absurd,Nat.eq_of_beq_eq_true]
theorem Av(gs:List Nat)(Γ:List HP):rest gs Γ=((List.range Γ.length).filter λi=>!gs.contains i).filterMap λi=>Γ[i]?:=by
 have key:∀(l pre:List HP),restG gs pre.length l=((List.range' pre.length l.length).filter λi=>!gs.contains i).filterMap λi=>(pre++l)[i]?:=by
  intro l
  induction l with
  |nil=>intro pre;rfl
  |cons x l ih=>
   intro pre;have h:=ih (pre++[x]);simp only[ZfI,ZgB,ZfO,Zgq]at h;grind[restG,KH,List.length_cons,List.range'_succ]
 have:=key Γ [];simp_all[rest,List.range_eq_range']
theorem Sep.part{Γ Γ1:List HP}{w:World}{S:Nat->Prop}(gs:List Nat)(h:Sep Γ w S)(hg:gs.map (λi=>Γ[i]?)=Γ1.map some)(hn:gs.Nodup):Sep (Γ1++rest gs Γ) w S:=by
 let is:=gs++(List.range Γ.length).filter λi=>!gs.contains i
 have hd:is.Nodup:=List.nodup_append.2 ⟨hn,(List.nodup_range).filter _,λa ha b hb e=>by
  simp_all⟩
 refine h.pick is hd ?_;rw[ZgA,ZgA,hg];rw[Av];have key:∀l:List Nat,(∀i∈l,i<Γ.length)->l.map (λi=>Γ[i]?)=(l.filterMap λi=>Γ[i]?).map some:=by
  intro l
  induction l with
  |nil=>intro _;rfl
  |cons i l ih=>
   simp_all
 simp_all
section
variable{P:Program}{B:Bs}{N:Nat}{σ:List (Nat×Value)}{Γ Γ1:List HP}{Φ Φ1:List RF}{a:Act}{w:World}{Q:Exit->Act->World->Prop}{ι:Type}{R:ι->Res}{args caps:List Value}{f:FuncId}
  {ops:Array Oper}{k d:Nat}{ty:TypeId}{pos:String}{af:Array Edge}{x:Operand}{xs:Array Operand}{ts:Array TypeId}
def Cx.calls(c:Cx B N σ Γ Φ a w)(gs:List Nat)(hcon:Con P f args Γ1 Φ1 R)(ro:AvaL (rest gs Γ) Φ w Φ1)(hg:gs.map (λi=>Γ[i]?)=Γ1.map some)(hn:gs.Nodup):
  Calls P f args.toArray w λe w'=>∃i,e= .returned (tup (R i).1)/\∀a' σ',FrS N σ' a'->Cx B N σ' (rest gs Γ++(R i).2.1) Φ a' w':=by
 obtain⟨_,S,F,hM,hs,hf⟩:=c;obtain⟨A,Rm,h1,h2,h3,h4,h5⟩:=(hs.part gs hg hn).split;have hfd:∀k,A k->¬(F k\/Rm k):=λk ha hf=>hf.elim (hM.dj k (h4 k ha)) (h3 k ha);refine(hcon w A (λk=>F k\/Rm k) h1 (AvaL.all ro h2 hf) (λk hk=>hM.bd k (h4 k hk)) (λk hk=>hk.elim (hM.bdF k) λhk=>hM.bd k (h5 k hk)) hfd).mono ?_;rintro e w' ⟨i,S',F',rfl,hM',hs',_⟩;refine⟨i,rfl,λa' σ' hF=>⟨hF,λk=>S' k\/Rm k,F,?_,?_,?_⟩⟩
 ·refine⟨hM.chg.trans' hM'.chg λk hk=>hM.sub k (h4 k hk),λk hk=>hk.elim (λhk=>(hM'.sub k hk).elim (λhk=>hM.sub k (h4 k hk)) λhk=>.inr (ZgY hM.chg.size hk)) λhk=>hM.sub k (h5 k hk),λk hk=>hk.elim (hM'.bd k) λhk=>ZfQ (hM.bd k (h5 k hk)) hM'.chg.size,λk hk=>ZfQ (hM.bdF k hk) hM'.chg.size,λk hk hf=>hk.elim (λhk=>?_) λhk=>hM.dj k (h5 k hk) hf,hM.dj0,hM.fz,hM.fsub⟩;rcases hM'.sub k hk with ha|ha
  ·simp_all
  ·exact Zh0 _ (ZfQ (hM.bdF k hf) ha)
 ·refine Sep.join (h2.keep hM'.chg λk hr ha=>h3 k ha hr) hs' (λk _ hr ha=> ?_) (λk _ h=>.inr h) λk _ h=>.inl h;rcases hM'.sub k ha with h|h
  ·simp_all
  ·exact Zh0 _ (ZfQ (hM.bd k (h5 k hr)) h)
 ·exact hf.chg hM'.chg λk hk ha=>hM.dj k (h4 k ha) hk
def Cx.callsF(c:Cx B N σ Γ Φ a w)(gs:List Nat)(hcon:Con P f args Γ1 Φ1 R)(ro:AvaL [] Φ w Φ1)(hg:gs.map (λi=>Γ[i]?)=Γ1.map some)(hn:gs.Nodup):
  Calls P f args.toArray w λe w'=>∃i,e= .returned (tup (R i).1)/\∀a' σ',FrS N σ' a'->Cx B N σ' (rest gs Γ++(R i).2.1) (Φ++(R i).2.2) a' w':=by
 obtain⟨_,S,F,hM,hs,hf⟩:=c;obtain⟨A,Rm,h1,h2,h3,h4,h5⟩:=(hs.part gs hg hn).split;have hfd:∀k,A k->¬F k:=λk ha hf=>hM.dj k (h4 k ha) hf;refine(hcon w A F h1 ((AvaL.all ro (Sep.nil w Non) hf).sub λ_ _ h=>h.elim id λh=>h.elim) (λk hk=>hM.bd k (h4 k hk)) hM.bdF hfd).mono ?_;rintro e w' ⟨i,S',F',rfl,hM',hs',hf'⟩;have hrn:∀k,Rm k->¬(A k\/w.heap.size<=k):=λk hr h=>h.elim (λha=>h3 k ha hr) λh=>Zh0 _ (ZfQ (hM.bd k (h5 k hr)) h);refine⟨i,rfl,λa' σ' hF=>⟨hF,λk=>S' k\/Rm k,F',?_,?_,?_⟩⟩
 ·refine⟨hM.chg.trans' hM'.chg λk hk=>hM.sub k (h4 k hk),λk hk=>hk.elim (λhk=>(hM'.sub k hk).elim (λhk=>hM.sub k (h4 k hk)) λhk=>.inr (ZgY hM.chg.size hk)) λhk=>hM.sub k (h5 k hk),λk hk=>hk.elim (hM'.bd k) λhk=>ZfQ (hM.bd k (h5 k hk)) hM'.chg.size,hM'.bdF,λk hk hf=>hk.elim (λhk=>hM'.dj k hk hf) λhk=>?_,hM.dj0,λk hk=>hM'.fz k (hM.fz k hk),λk hk=>?_⟩
  ·rcases hM'.fsub k hf with h|h
   ·exact hM.dj k (h5 k hk) h
   grind
  ·rcases hM'.fsub k hk with h|h|h
   ·exact hM.fsub k h
   ·exact .inr (hM.sub k (h4 k h))
   ·exact .inr (.inr (ZgY hM.chg.size h))
 ·refine Sep.join (h2.keep hM'.chg λk hr ha=>h3 k ha hr) hs' (λk _ hr ha=>hrn k hr (hM'.sub k ha)) (λk _ h=>.inr h) λk _ h=>.inl h
 ·exact((hf.chg hM'.chg λk hk ha=>hM.dj k (h4 k ha) hk).sub λk _ hk=>hM'.fz k hk).join hf'
def Ca(gs:List Nat)(c:Cx B N σ Γ Φ a w)(hcon:Con P f args Γ1 Φ1 R)(ro:AvaL (rest gs Γ) Φ w Φ1)(hf:∀(args:Array Value)(w:World),(callFunc f args).run P w= .ok (.enter f args) w)
  (h:∀i fr w',Cx B N ((d,tup (R i).1)::σ) (rest gs Γ++(R i).2.1) Φ fr w'->wpFrom P ops Q (k+1) fr w')
  (ho:ops[k]? =some ⟨some d,.call ⟨.value (.func f),xs,ts⟩,ty,pos,af,none⟩:=by rfl)(hd:Nat.blt d N=true:=by rfl)(hg:gs.map (λi=>Γ[i]?)=Γ1.map some:=by rfl)(hn:gs.Nodup:=by decide)
  (hargs:xs.toList.map (opd σ)=args.map some:=by kernel_rfl):wpFrom P ops Q k a w:=
 s_call args (R:=λv w'=>∃i,v=tup (R i).1/\∀a' σ',FrS N σ' a'->Cx B N σ' (rest gs Γ++(R i).2.1) Φ a' w') hf ho hd c.fr hargs ((c.calls gs hcon ro hg hn).mono λe w'⟨i,h1,h2⟩=>⟨_,h1,i,rfl,h2⟩)
  λv w' fr hR hF=>by grind
def Cf(gs:List Nat)(c:Cx B N σ Γ Φ a w)(hcon:Con P f args Γ1 Φ1 R)(ro:AvaL [] Φ w Φ1)(hf:∀(args:Array Value)(w:World),(callFunc f args).run P w= .ok (.enter f args) w)
  (h:∀i fr w',Cx B N ((d,tup (R i).1)::σ) (rest gs Γ++(R i).2.1) (Φ++(R i).2.2) fr w'->wpFrom P ops Q (k+1) fr w')
  (ho:ops[k]? =some ⟨some d,.call ⟨.value (.func f),xs,ts⟩,ty,pos,af,none⟩:=by rfl)(hd:Nat.blt d N=true:=by rfl)(hg:gs.map (λi=>Γ[i]?)=Γ1.map some:=by rfl)(hn:gs.Nodup:=by decide)
  (hargs:xs.toList.map (opd σ)=args.map some:=by kernel_rfl):wpFrom P ops Q k a w:=
 s_call args (R:=λv w'=>∃i,v=tup (R i).1/\∀a' σ',FrS N σ' a'->Cx B N σ' (rest gs Γ++(R i).2.1) (Φ++(R i).2.2) a' w') hf ho hd c.fr hargs ((c.callsF gs hcon ro hg hn).mono λe w'⟨i,h1,h2⟩=>⟨_,h1,i,rfl,h2⟩)
  λv w' fr hR hF=>by grind
def Cx.fz{α:Type}[Rep α]{E:TypeId}{v:Value}{l:List α}(i:Nat)(c:Cx B N σ Γ Φ a w)(hi:Γ[i]? =some (SL E v l):=by rfl):Cx B N σ (rest [i] Γ) (Φ++[RO v l]) a w:=by
 obtain⟨h,S,F,h1,h2,h3⟩:=c;have hp:=h2.part [i] (Γ1:=[SL E v l]) aH U;obtain⟨S',F',hM,hs,hr,hfz⟩:=Sep.freeze (L:=rest [i] Γ) hp h1;exact⟨h,S',F',hM,hs,(h3.sub λk _ hk=>hfz k hk).add (SL.rv hr)⟩
def Cx.fzb{b:Nat}{t:TypeId}{cs:List Value}(i:Nat)(c:Cx B N σ Γ Φ a w)(hi:Γ[i]? =some (BX b t cs):=by rfl):Cx B N σ (rest [i] Γ) (Φ++[FX b t cs]) a w:=by
 obtain⟨h,S,F,h1,h2,h3⟩:=c;have hp:=h2.part [i] (Γ1:=[BX b t cs]) aH U;obtain⟨S',F',hM,hs,hr,hfz⟩:=Sep.freeze (L:=rest [i] Γ) hp h1;exact⟨h,S',F',hM,hs,(h3.sub λk _ hk=>hfz k hk).add hr⟩
theorem Cx.dp(gs:List Nat)(c:Cx B N σ Γ Φ a w):Cx B N σ (rest gs Γ) Φ a w:=by
 obtain⟨h,S,F,h1,h2,h3⟩:=c;refine⟨h,S,F,h1,?_,h3⟩;rw[Av];refine h2.pick ((List.range Γ.length).filter λi=>!gs.contains i) ((List.nodup_range).filter _) ?_;have key:∀l:List Nat,(∀i∈l,i<Γ.length)->l.map (λi=>Γ[i]?)=(l.filterMap λi=>Γ[i]?).map some:=by
  intro l
  induction l with
  |nil=>intro _;rfl
  |cons i l ih=>
   simp_all
 simp_all
def Cx.nil{α:Type}[Rep α](E:TypeId)(c:Cx B N σ Γ Φ a w):Cx B N σ (Γ++[SL E (.slice none 0 0) ([]:List α)]) Φ a w:=c.gam λS h=>Zn (Γ2:=[SL E (.slice none 0 0) ([]:List α)]) (h.cons_nil E)
end
section
variable{P:Program}{B:Bs}{N:Nat}{σ:List (Nat×Value)}{Γ:List HP}{Φ:List RF}{a:Act}{w:World}{Q:Exit->Act->World->Prop}
variable{H:Prop}{β0:Type}{z0:β0}
  {ops:Array Oper}{k d d2 d3:Nat}{t t' s' ty ty' ty2 yt:TypeId}{pos pos' pos2:String}{af af' af2:Array Edge}{x y y' z:Operand}{kd kk:IntKind}
def numOf:Option Value->Option Int
 |some (.int _ n)=>some n
 |_=>none
def loN(σ:List (Nat×Value)):Option Operand->Option Int
 |none=>some 0
 |some y=>numOf (opd σ y)
def hiN(n:Int)(σ:List (Nat×Value)):Option Operand->Option Int
 |none=>some n
 |some y=>numOf (opd σ y)
theorem Y7{o:Option Value}{n:Int}(h:numOf o=some n):∃kd,o=some (.int kd n):=by
 unfold numOf at h;grind
def Eix{s:Str}{n:Int}{f0:Int->Option β0}(ho:ops[k]? =some ⟨some d,.index t x y,ty,pos,af,none⟩:=by rfl)(hd:Nat.blt d N=true:=by rfl)(ht:P.underlying t=some .string:=by kernel_rfl)(hx:opd σ x=some s.val:=by kernel_rfl)(hy:numOf (opd σ y)=some n:=by kernel_rfl)(Z:∀r,Gl B N (f0 r=some z0) ((d,.int .u8 r)::σ) Γ Φ (wpFrom P ops Q (k+1))):Gl B N ((sidx? s n).bind f0=some z0) σ Γ Φ (wpFrom P ops Q k):=by
 intro e9 a w c;obtain⟨r,hz,e9⟩:=bindE e9;obtain⟨kd',hy⟩:=Y7 hy;have h:=λfr=>gap (Z r) e9 fr w;exact Zex ht ho hd c.fr hx hy hz λfr hF=>h fr (c.to hF)
def Ecat{s1 s2:Str}{f0:Str->Option β0}(ho:ops[k]? =some ⟨some d,.binOp .add t x y yt,ty,pos,af,none⟩:=by rfl)(hd:Nat.blt d N=true:=by rfl)(hx:opd σ x=some s1.val:=by kernel_rfl)(hy:opd σ y=some s2.val:=by kernel_rfl)(Z:∀s3,Gl B N (f0 s3=some z0) ((d,s3.val)::σ) Γ Φ (wpFrom P ops Q (k+1))):Gl B N ((cat? s1 s2).bind f0=some z0) σ Γ Φ (wpFrom P ops Q k):=by
 intro e9 a w c;obtain⟨s3,hz,e9⟩:=bindE e9;have h:=λfr=>gap (Z s3) e9 fr w;exact Zf5 ho hd c.fr hx hy hz λfr hF=>h fr (c.to hF)
def Ebs{E:TypeId}{v:Value}{l:List Byt}(hl:∀{w},Ava Γ Φ w (RO v l))(ht:P.underlying t=some (.slice E))(ho:ops[k]? =some ⟨some d,.convert t t' x,ty,pos,af,none⟩:=by rfl)(hd:Nat.blt d N=true:=by rfl)(hE:P.underlying E=some (.int .u8):=by kernel_rfl)(ht':P.underlying t'=some .string:=by kernel_rfl)(hx:opd σ x=some v:=by kernel_rfl)(Z:Gl B N H ((d,(strOf l).val)::σ) Γ Φ (wpFrom P ops Q (k+1))):Gl B N H σ Γ Φ (wpFrom P ops Q k):=by
 intro e9 a w c;have h:=λfr=>gap Z e9 fr w;obtain⟨F,hl⟩:=c.use hl;exact BM ht hE ht' ho hd c.fr hx hl λfr hF=>h fr (c.to hF)
def Eshk{m n:Int}{f0:Int->Option β0}(ho:ops[k]? =some ⟨some d,.binOp .shr t x y yt,ty,pos,af,none⟩:=by rfl)(hd:Nat.blt d N=true:=by rfl)(hx:opd σ x=some (.int kk m):=by kernel_rfl)(hy:numOf (opd σ y)=some n:=by kernel_rfl)(Z:∀r,Gl B N (f0 r=some z0) ((d,.int kk r)::σ) Γ Φ (wpFrom P ops Q (k+1))):Gl B N ((shrK? kk m n).bind f0=some z0) σ Γ Φ (wpFrom P ops Q k):=by
 intro e9 a w c;obtain⟨r,hz,e9⟩:=bindE e9;have h:=λfr=>gap (Z r) e9 fr w;obtain⟨kd,hy⟩:=Y7 hy;exact Zfe ho hd c.fr hx hy hz λfr hF=>h fr (c.to hF)
def Eshl{m n:Int}{f0:Int->Option β0}(ho:ops[k]? =some ⟨some d,.binOp .shl t x y yt,ty,pos,af,none⟩:=by rfl)(hd:Nat.blt d N=true:=by rfl)(hx:opd σ x=some (.int .i64 m):=by kernel_rfl)(hy:numOf (opd σ y)=some n:=by kernel_rfl)(Z:∀r,Gl B N (f0 r=some z0) ((d,.int .i64 r)::σ) Γ Φ (wpFrom P ops Q (k+1))):Gl B N ((shl? m n).bind f0=some z0) σ Γ Φ (wpFrom P ops Q k):=by
 intro e9 a w c;obtain⟨r,hz,e9⟩:=bindE e9;have h:=λfr=>gap (Z r) e9 fr w;obtain⟨kd,hy⟩:=Y7 hy;exact Zf1 ho hd c.fr hx hy hz λfr hF=>h fr (c.to hF)
def Eshr{m n:Int}{f0:Int->Option β0}(ho:ops[k]? =some ⟨some d,.binOp .shr t x y yt,ty,pos,af,none⟩:=by rfl)(hd:Nat.blt d N=true:=by rfl)(hx:opd σ x=some (.int .i64 m):=by kernel_rfl)(hy:numOf (opd σ y)=some n:=by kernel_rfl)(Z:∀r,Gl B N (f0 r=some z0) ((d,.int .i64 r)::σ) Γ Φ (wpFrom P ops Q (k+1))):Gl B N ((shr? m n).bind f0=some z0) σ Γ Φ (wpFrom P ops Q k):=by
 intro e9 a w c;obtain⟨r,hz,e9⟩:=bindE e9;have h:=λfr=>gap (Z r) e9 fr w;obtain⟨kd,hy⟩:=Y7 hy;exact Zf4 ho hd c.fr hx hy hz λfr hF=>h fr (c.to hF)
def Equo{m n:Int}{f0:Int->Option β0}(ho:ops[k]? =some ⟨some d,.binOp .quo t x y yt,ty,pos,af,none⟩:=by rfl)(hd:Nat.blt d N=true:=by rfl)(hx:opd σ x=some (.int .i64 m):=by kernel_rfl)(hy:opd σ y=some (.int .i64 n):=by kernel_rfl)(Z:∀r,Gl B N (f0 r=some z0) ((d,.int .i64 r)::σ) Γ Φ (wpFrom P ops Q (k+1))):Gl B N ((quo? m n).bind f0=some z0) σ Γ Φ (wpFrom P ops Q k):=by
 intro e9 a w c;obtain⟨r,hz,e9⟩:=bindE e9;have h:=λfr=>gap (Z r) e9 fr w;exact Zfx ho hd c.fr hx hy hz λfr hF=>h fr (c.to hF)
def Erem{m n:Int}{f0:Int->Option β0}(ho:ops[k]? =some ⟨some d,.binOp .rem t x y yt,ty,pos,af,none⟩:=by rfl)(hd:Nat.blt d N=true:=by rfl)(hx:opd σ x=some (.int .i64 m):=by kernel_rfl)(hy:opd σ y=some (.int .i64 n):=by kernel_rfl)(Z:∀r,Gl B N (f0 r=some z0) ((d,.int .i64 r)::σ) Γ Φ (wpFrom P ops Q (k+1))):Gl B N ((rem? m n).bind f0=some z0) σ Γ Φ (wpFrom P ops Q k):=by
 intro e9 a w c;obtain⟨r,hz,e9⟩:=bindE e9;have h:=λfr=>gap (Z r) e9 fr w;exact Zf2 ho hd c.fr hx hy hz λfr hF=>h fr (c.to hF)
def Ebin{op:BinOp}{vx vy u:Value}(c:Cx B N σ Γ Φ a w)(hg:(eqGuard op t x y vx vy).run P w= .ok () w)(hr:(binOp op t vx vy).run P w= .ok u w)(h:∀fr,Cx B N ((d,u)::σ) Γ Φ fr w->wpFrom P ops Q (k+1) fr w)
  (ho:ops[k]? =some ⟨some d,.binOp op t x y yt,ty,pos,af,none⟩:=by rfl)(hd:Nat.blt d N=true:=by rfl)(hx:opd σ x=some vx:=by kernel_rfl)(hy:opd σ y=some vy:=by kernel_rfl):wpFrom P ops Q k a w:=
 Ka ho hd c.fr hx hy hg hr λfr hF=>h fr (c.to hF)
def Epk{b:Bool}{p:Operand}{v:Value}(ho:ops[k]? =some ⟨some d,.pick p x y,ty,pos,af,none⟩:=by rfl)(hd:Nat.blt d N=true:=by rfl)(hc:opd σ p=some (.bool b):=by kernel_rfl)(hv:opd σ (if b then x else y)=some v:=by kernel_rfl)(Z:Gl B N H ((d,v)::σ) Γ Φ (wpFrom P ops Q (k+1))):Gl B N H σ Γ Φ (wpFrom P ops Q k):=by
 intro e9 a w c;have h:=λfr=>gap Z e9 fr w;exact Zal ho hd c.fr hc hv λfr hF=>h fr (c.to hF)
theorem Ebx(cs:List Value)(hv:(opd σ x).map (λv=>v.cells.toList)=some cs:=by kernel_rfl)(ho:ops[k]? =some ⟨some d,.box t x,ty,pos,af,none⟩:=by rfl)(hd:Nat.blt d N=true:=by rfl)(Z:∀b,Gl B N H ((d,.pointer (some ⟨b,0,none⟩))::σ) (Γ++[BX b t cs]) Φ (wpFrom P ops Q (k+1))):Gl B N H σ Γ Φ (wpFrom P ops Q k):=by
 intro e9 a w c;have h:=λb=>gap (Z b) e9;obtain⟨hF,S,F,hM,hs,hf⟩:=c;cases hx:opd σ x with
 |none=>simp_all
 |some v=>
  exact Zfr hs hM cs ho hd hF hx ah λb w' S' fr hs' hp hF'=>h b fr w' ⟨hF',S',F,hM.stp hp,Zn (Γ2:=[_]) hs',hf.chg hp.chg λk hk hS=>hM.dj k hS hk⟩
theorem Eal(cs:List Value)(ho:ops[k]? =some ⟨some d,.alloc t,ty,pos,af,none⟩:=by rfl)(hd:Nat.blt d N=true:=by rfl)(hz:(P.info? t).map (λi=>i.zero.map λz=>z.cells.toList)=some (some cs):=by kernel_rfl)(Z:∀b,Gl B N H ((d,.pointer (some ⟨b,0,none⟩))::σ) (Γ++[BX b t cs]) Φ (wpFrom P ops Q (k+1))):Gl B N H σ Γ Φ (wpFrom P ops Q k):=by
 intro e9 a w c;have h:=λb=>gap (Z b) e9;obtain⟨hF,S,F,hM,hs,hf⟩:=c;cases hi:P.info? t with
 |none=>simp_all
 | some i=>
  rw[hi]at hz;cases hzz:i.zero with
  |none=>simp_all
  |some z=>
   simp only[Zgh,hzz,Option.some.injEq]at hz;exact Ze3 (z:=z) hs hM cs ho hd hF ah hz λb w' S' fr hs' hp hF'=>h b fr w' ⟨hF',S',F,hM.stp hp,Zn (Γ2:=[_]) hs',hf.chg hp.chg λk hk hS=>hM.dj k hS hk⟩
def Esb{b bt:Nat}{cs:List Value}(i n:Nat)(u:Value)(hi:Γ[i]? =some (BX b bt cs):=by rfl)(ho:ops[k]? =some ⟨none,.store t x y,ty,pos,af,none⟩:=by rfl)(hn:Nat.blt n cs.length=true:=by rfl)(h1:u.oneCell'=true:=by rfl)(ht:(P.info? t).map (·.size)=some 1:=by kernel_rfl)(hx:opd σ x=some (.pointer (some ⟨b,n,none⟩)):=by kernel_rfl)(hy:opd σ y=some u:=by kernel_rfl)(Z:Gl B N H σ (Γ.set i (BX b bt (cs.set n u))) Φ (wpFrom P ops Q (k+1))):Gl B N H σ Γ Φ (wpFrom P ops Q k):=by
 intro e9 a w c;have h:=λw'=>gap Z e9 a w';obtain⟨hF,S,F,hM,hs,hf⟩:=c;exact Bz i hs hM hi (cs.set n u) ho hF hx hy ht hn h1 rfl λw' S' hs' hp hF'=>h w' ⟨hF',S',F,hM.stp hp,hs',hf.chg hp.chg λk hk hS=>hM.dj k hS hk⟩
theorem Ess{b bt:Nat}{cs:List Value}(i:Nat)(cs':List Value)(hi:Γ[i]? =some (BX b bt cs):=by rfl)(ho:ops[k]? =some ⟨none,.store t x y,ty,pos,af,none⟩:=by rfl)(hl:cs'.length=cs.length:=by rfl)(h1:(cs'.all λz=>z.oneCell')=true:=by rfl)(ht:(P.info? t).map (·.size)=some cs'.length:=by kernel_rfl)(hx:opd σ x=some (.pointer (some ⟨b,0,none⟩)):=by kernel_rfl)(hy:(opd σ y).map (λv=>v.cells.toList)=some cs':=by kernel_rfl)(Z:Gl B N H σ (Γ.set i (BX b bt cs')) Φ (wpFrom P ops Q (k+1))):Gl B N H σ Γ Φ (wpFrom P ops Q k):=by
 intro e9 a w c;have h:=λw'=>gap Z e9 a w';obtain⟨hF,S,F,hM,hs,hf⟩:=c;cases hx':opd σ y with
 |none=>simp_all
 |some v=>
  exact Em i hs hM hi cs' ho hF hx hx' ht hl ah h1 λw' S' hs' hp hF'=>h w' ⟨hF',S',F,hM.stp hp,hs',hf.chg hp.chg λk hk hS=>hM.dj k hS hk⟩
section
variable{α:Type}{E:TypeId}{v:Value}{l m r:List α}
def Eel[Flat α]{n:Int}{f0:α->Option β0}(hl:∀{w},Ava Γ Φ w (RO v l))(ho:ops[k]? =some ⟨some d,.indexAddr t x y,ty,pos,af,none⟩:=by rfl)(ho':ops[k+1]? =some ⟨some d2,.load t' (.tmp d),ty',pos',af',none⟩:=by rfl)(hd:Nat.blt d N=true:=by rfl)(hd':Nat.blt d2 N=true:=by rfl)(he:Ty P t' α:=by constructor<;>kernel_rfl)(ht:P.underlying t=some (.slice t'):=by kernel_rfl)(hx:opd σ x=some v:=by kernel_rfl)(hy:numOf (opd σ y)=some n:=by kernel_rfl)(Z:∀q p,Gl B N (f0 q=some z0) ((d2,Rep.val α (Flat.enc q))::(d,p)::σ) Γ Φ (wpFrom P ops Q (k+2))):Gl B N ((get? l n).bind f0=some z0) σ Γ Φ (wpFrom P ops Q k):=by
 intro e9 a w c;obtain⟨q,hz,e9⟩:=bindE e9;have h:=λp fr=>gap (Z q p) e9 fr w;obtain⟨F,hl⟩:=c.use hl;obtain⟨kd,hy⟩:=Y7 hy;exact Ze4 _ he ht ho ho' rfl hd hd' c.fr hx hl hy (get?_nn hz) (get?_at hz) rfl λp fr hF=>h p fr (c.to hF)
def Eem[Rep α]{n:Int}{f0:α->Option β0}(hl:∀{w},Ava [] Φ w (RO v l))(ho:ops[k]? =some ⟨some d,.indexAddr t x y,ty,pos,af,none⟩:=by rfl)(ho':ops[k+1]? =some ⟨some d2,.load t' (.tmp d),ty',pos',af',none⟩:=by rfl)(hd:Nat.blt d N=true:=by rfl)(hd':Nat.blt d2 N=true:=by rfl)(he:Ty P t' α:=by constructor<;>kernel_rfl)(ht:P.underlying t=some (.slice t'):=by kernel_rfl)(hx:opd σ x=some v:=by kernel_rfl)(hy:numOf (opd σ y)=some n:=by kernel_rfl)(Z:∀q p u,Gl B N (f0 q=some z0) ((d2,u)::(d,p)::σ) Γ (Φ++[RO u q]) (wpFrom P ops Q (k+2))):Gl B N ((get? l n).bind f0=some z0) σ Γ Φ (wpFrom P ops Q k):=by
 intro e9 a w c;obtain⟨q,hz,e9⟩:=bindE e9;have h:=λp u fr=>gap (Z q p u) e9 fr w;obtain⟨hF,S,F,hM,hs,hf⟩:=c;obtain⟨kd,hy⟩:=Y7 hy;have hl':=hl Non F (Sep.nil w Non) hf;exact ZcB he ht ho ho' rfl hd hd' hF hx hl' hy (get?_nn hz) (get?_at hz) λp u fr hr hF'=>h p u fr ⟨hF',S,F,hM,hs,hf.add (RV.sub hr λ_ _ h=>h.elim id λh=>h.elim)⟩
theorem Eef[Rep α]{n:Int}{q:α}{u:Value}{fl off:Nat}(hl:∀{w},Ava Γ Φ w (RO v l))(hz:get? l n=some q)(hu:∀{w:World}{F:Nat->Prop}{cs:List Value},Rep.ok w F cs q->cs[off]? =some u)(ho:ops[k]? =some ⟨some d,.indexAddr t x y,ty,pos,af,none⟩:=by rfl)(ho2:ops[k+1]? =some ⟨some d2,.fieldAddr s' (.tmp d) fl,ty2,pos2,af2,none⟩:=by rfl)(ho':ops[k+2]? =some ⟨some d3,.load t' (.tmp d2),ty',pos',af',none⟩:=by rfl)(hd:Nat.blt d N=true:=by rfl)(hd2:Nat.blt d2 N=true:=by rfl)(hd3:Nat.blt d3 N=true:=by rfl)(he:Ty P s' α:=by constructor<;>kernel_rfl)(ht:P.underlying t=some (.slice s'):=by kernel_rfl)(hT:Ty P t' Int:=by constructor<;>kernel_rfl)(hoff:fieldOff P s' fl=some off:=by kernel_rfl)(hx:opd σ x=some v:=by kernel_rfl)(hy:numOf (opd σ y)=some n:=by kernel_rfl)(Z:∀p p2,Gl B N H ((d3,u)::(d2,p2)::(d,p)::σ) Γ Φ (wpFrom P ops Q (k+3))):Gl B N H σ Γ Φ (wpFrom P ops Q k):=by
 intro e9 a w c;have h:=λp p2 fr=>gap (Z p p2) e9 fr w;obtain⟨F,hl⟩:=c.use hl;obtain⟨kd,hy⟩:=Y7 hy;refine Zp c.fr ho rfl rfl (ZfW.mp hd) (Nt rfl ht he (Zd c.fr hx) hl (Zd c.fr hy) (get?_nn hz) (get?_at hz)) λp w1 fr1 hpw hF1=>?_;obtain⟨⟨ad,cs,rfl,hFb,hok,hc⟩,rfl⟩:=hpw;have hp1:=hF1.get d (.pointer (some ad)) U
 refine Zp hF1 ho2 rfl rfl (ZfW.mp hd2) (R:=λp w2=>p= .pointer (some (ad.add off))/\w1=w2) (Zh (MN (P:=P) (ρ:=λy=>match y with|.tmp s=>if s=d then some (.pointer (some ad))else none|_=>none) (λy z hy=>by
  grind) aW w1) ⟨rfl,rfl⟩) λp2 w2 fr2 hp2 hF2=>?_
 obtain⟨rfl,rfl⟩:=hp2;have hc1:Cells w1 (ad.add off) [u]:=λj q' hq=>by
  cases j with
  |zero=>
   simp only[Zgz,Option.some.injEq]at hq;subst hq;exact hc off u (hu hok)
  |succ j=>simp at hq
 refine Zp hF2 ho' rfl rfl (ZfW.mp hd3) (R:=λz w3=>z=u/\w1=w3) (Zh (v:=u) (w':=w1) ?_ ⟨rfl,rfl⟩) λz w3 fr3 hz3 hF3=>?_
 ·have hd1:=hF2.get d2 (.pointer (some (ad.add off))) U;have:=YO hT (cs:=[u]) rfl hc1;have hv:Rep.val Int [u]=u:=rfl;simp_all[execOp,Instr.loadAt,Instr.sureAddr]
 ·obtain⟨rfl,rfl⟩:=hz3;exact h _ _ fr3 (c.to hF3)
theorem Esl[Rep α]{lo hi:Option Operand}{m n:Int}{f0:List α->Option β0}(E:TypeId)(hl:∀{w},Ava [] Φ w (RO v l))(ho:ops[k]? =some ⟨some d,.slice t x lo hi none,ty,pos,af,none⟩:=by rfl)(hd:Nat.blt d N=true:=by rfl)(he:Ty P E α:=by constructor<;>kernel_rfl)(ht:P.underlying t=some (.slice E):=by kernel_rfl)(hx:opd σ x=some v:=by kernel_rfl)(hlo:loN σ lo=some m:=by kernel_rfl)(hhi:hiN (len l) σ hi=some n:=by kernel_rfl)(Z:∀r u,Gl B N (f0 r=some z0) ((d,u)::σ) Γ (Φ++[RO u r]) (wpFrom P ops Q (k+1))):Gl B N ((cut? l m n).bind f0=some z0) σ Γ Φ (wpFrom P ops Q k):=by
 intro e9 a w c;obtain⟨r,hr,e9⟩:=bindE e9;have h:=λu fr=>gap (Z r u) e9 fr w;obtain⟨hF,S,F,hM,hs,hf⟩:=c;have hl':=hl Non F (Sep.nil w Non) hf;refine Ze0 he ht ho hd hF hx hl' (m:=m) (n:=n) ?_ ?_ hr λu fr hr hF'=>h u fr ⟨hF',S,F,hM,hs,hf.add (RV.sub hr λ_ _ h=>h.elim id λh=>h.elim)⟩
 ·unfold loN at hlo;grind[Option.some.inj,Y7]
 ·unfold hiN at hhi;cases hi with
  |none=>exact(Option.some.inj hhi).symm
  |some y=>simp_all[Y7]
end
section
variable{α:Type}[Flat α]{E:TypeId}{v u:Value}{l m r:List α}
def Eset{n:Int}{q:α}{f0:List α->Option β0}(i:Nat)(hi:Γ[i]? =some (SL E v l):=by rfl)(ho:ops[k]? =some ⟨some d,.indexAddr t x y,ty,pos,af,none⟩:=by rfl)(ho':ops[k+1]? =some ⟨none,.store t' (.tmp d) z,ty',pos',af',none⟩:=by rfl)(hte:t'=E:=by rfl)(hd:Nat.blt d N=true:=by rfl)(hz:z≠ .tmp d:=by simp)(he:Ty P E α:=by constructor<;>kernel_rfl)(ht:P.underlying t=some (.slice E):=by kernel_rfl)(hx:opd σ x=some v:=by kernel_rfl)(hy:numOf (opd σ y)=some n:=by kernel_rfl)(hq:opd σ z=some (Rep.val α (Flat.enc q)):=by kernel_rfl)(Z:∀r p,Gl B N (f0 r=some z0) ((d,p)::σ) (Γ.set i (SL E v r)) Φ (wpFrom P ops Q (k+2))):Gl B N ((set? l n q).bind f0=some z0) σ Γ Φ (wpFrom P ops Q k):=by
 intro e9 a w c;obtain⟨r,hr,e9⟩:=bindE e9;have h:=λp=>gap (Z r p) e9;obtain⟨hF,S,F,hM,hs,hf⟩:=c;obtain⟨kd,hy⟩:=Y7 hy;exact Zfy i hs hM hi ht he ho ho' hte hd hF hx hy hz hq rfl hr λw' S' fr p hs' hp hF'=>h p fr w' ⟨hF',S',F,hM.stp hp,hs',hf.chg hp.chg λk hk hS=>hM.dj k hS hk⟩
def Esf{n:Int}{q q':α}{fl off:Nat}(i:Nat)(u:Value)(hq:get? l n=some q)(hr:set? l n q'=some r)(hi:Γ[i]? =some (SL E v l):=by rfl)(hop:ops[k]? =some ⟨some d,.indexAddr t x y,ty,pos,af,none⟩:=by rfl)(hop2:ops[k+1]? =some ⟨some d2,.fieldAddr s' (.tmp d) fl,ty2,pos2,af2,none⟩:=by rfl)(hop':ops[k+2]? =some ⟨none,.store t' (.tmp d2) z,ty',pos',af',none⟩:=by rfl)(hd:Nat.blt d N=true:=by rfl)(hd2:Nat.blt d2 N=true:=by rfl)(hz:(match z with|.tmp s=>s !=d&&s !=d2|_=>true)=true:=by rfl)(hoff:fieldOff P s' fl=some off:=by rfl)(hlt:Nat.blt off (Rep.sz α)=true:=by rfl)(h1:u.oneCell'=true:=by rfl)(hu:Flat.enc q'=(Flat.enc q).set off u:=by rfl)(he:Ty P E α:=by constructor<;>kernel_rfl)(ht:P.underlying t=some (.slice E):=by kernel_rfl)(hT:(P.info? t').map (·.size)=some 1:=by kernel_rfl)(hx:opd σ x=some v:=by kernel_rfl)(hy:numOf (opd σ y)=some n:=by kernel_rfl)(hzu:opd σ z=some u:=by kernel_rfl)(Z:∀p p2,Gl B N H ((d2,p2)::(d,p)::σ) (Γ.set i (SL E v r)) Φ (wpFrom P ops Q (k+3))):Gl B N H σ Γ Φ (wpFrom P ops Q k):=by
 intro e9 a w c;have h:=λp p2=>gap (Z p p2) e9;obtain⟨hF,S,F,hM,hs,hf⟩:=c;obtain⟨kd,hy⟩:=Y7 hy;exact Cm i hs hM hi ht he hop hop2 hop' hd hd2 hF hx hy hz hzu hoff hlt hT h1 hq hu hr λw' S' fr p p2 hs' hp hF'=>h p p2 fr w' ⟨hF',S',F,hM.stp hp,hs',hf.chg hp.chg λk hk hS=>hM.dj k hS hk⟩
def Emk{n:Int}{zc:α}{f0:List α->Option β0}(E:TypeId)(ho:ops[k]? =some ⟨some d,.makeSlice t x y,ty,pos,af,none⟩:=by rfl)(hd:Nat.blt d N=true:=by rfl)(he:ElT P E α:=by refine elT ?_;kernel_rfl)(ht:P.underlying t=some (.slice E):=by kernel_rfl)(hz:(P.info? E).map (λi=>i.zero.map λz=>z.cells.toList)=some (some (Flat.enc zc)):=by kernel_rfl)(hx:opd σ x=some (.int .i64 n):=by kernel_rfl)(hy:opd σ y=some (.int .i64 n):=by kernel_rfl)(Z:∀r a' c',Gl B N (f0 r=some z0) ((d,.slice a' (List.length r) c')::σ) (Γ++[SL E (.slice a' (List.length r) c') r]) Φ (wpFrom P ops Q (k+1))):Gl B N ((mk? n zc).bind f0=some z0) σ Γ Φ (wpFrom P ops Q k):=by
 intro e9 a w c;obtain⟨r,hr,e9⟩:=bindE e9;have h:=λa' c'=>gap (Z r a' c') e9;obtain⟨hF,S,F,hM,hs,hf⟩:=c;exact Zfn hs hM ht he (ZaR _ hz) ho hd hF hx hy hr λa' c' w' S' fr hs' hp hF'=>h a' c' fr w' ⟨hF',S',F,hM.stp hp,Zn (Γ2:=[_]) hs',hf.chg hp.chg λk hk hS=>hM.dj k hS hk⟩
def Elt{n:Nat}{parts:Array (Nat×Operand)}(E:TypeId)(l:List α)(ho:ops[k]? =some ⟨some d,.buildSlice t n parts,ty,pos,af,none⟩:=by rfl)(hd:Nat.blt d N=true:=by rfl)(hln:l.length=n:=by rfl)(hmax:Nat.ble l.length room=true:=by rfl)(hv:parts.toList.map (λp=>opd σ p.2)=(l.map λx=>Rep.val α (Flat.enc x)).map some:=by kernel_rfl)(hrun:∀w,(Instr.buildSlice t n ((parts.toList.map (·.1)).zip (l.map λx=>Rep.val α (Flat.enc x))).toArray).run P w= .ok (.slice (some ⟨w.heap.size,0,none⟩) n n) (w.alloc (.cells (l.map Flat.enc).flatten.toArray E)):=by intro _;kernel_rfl)(Z:∀a' c',Gl B N H ((d,.slice a' (List.length l) c')::σ) (Γ++[SL E (.slice a' (List.length l) c') l]) Φ (wpFrom P ops Q (k+1))):Gl B N H σ Γ Φ (wpFrom P ops Q k):=by
 intro e9 a w c;have h:=λa' c'=>gap (Z a' c') e9;obtain⟨hF,S,F,hM,hs,hf⟩:=c;exact Zf0 hs hM (l.map Flat.enc).flatten (l.map Flat.enc) l ho hd hF _ hv hrun (Oa _) rfl hln hmax λa' c' w' S' fr hs' hp hF'=>h a' c' fr w' ⟨hF',S',F,hM.stp hp,Zn (Γ2:=[_]) hs',hf.chg hp.chg λk hk hS=>hM.dj k hS hk⟩
def Eap{f0:List α->Option β0}(i:Nat)(hu:∀{w},Ava Γ Φ w (RO u m))(hi:Γ[i]? =some (SL E v l):=by rfl)(ho:ops[k]? =some ⟨some d,.call ⟨.builtin .append,#[x,y],#[t,t']⟩,ty,pos,af,none⟩:=by rfl)(htt:t'=t:=by rfl)(hd:Nat.blt d N=true:=by rfl)(he:ElT P E α:=by refine elT ?_;kernel_rfl)(ht:P.underlying t=some (.slice E):=by kernel_rfl)(hx:opd σ x=some v:=by kernel_rfl)(hy:opd σ y=some u:=by kernel_rfl)(Z:∀r a' c',Gl B N (f0 r=some z0) ((d,.slice a' (List.length r) c')::σ) (Γ.set i (SL E (.slice a' (List.length r) c') r)) Φ (wpFrom P ops Q (k+1))):Gl B N ((app? l m).bind f0=some z0) σ Γ Φ (wpFrom P ops Q k):=by
 intro e9 a w c;obtain⟨r,hr,e9⟩:=bindE e9;have h:=λa' c'=>gap (Z r a' c') e9;obtain⟨F',hu⟩:=c.use hu;obtain⟨hF,S,F,hM,hs,hf⟩:=c;exact ZbA i hs hM hi ht he ho htt hd hF hx hy hu hr λa' c' w' S' fr hs' hp hF'=>h a' c' fr w' ⟨hF',S',F,hM.stp hp,hs',hf.chg hp.chg λk hk hS=>hM.dj k hS hk⟩
def Efr{lo:Option Operand}{hi':Operand}{b:Option Addr}{cp len0:Nat}{n:Int}{f0:List α->Option β0}(i:Nat)(hi:Γ[i]? =some (SL E (.slice b len0 cp) l):=by rfl)(ho:ops[k]? =some ⟨some d,.slice t x lo (some hi') none,ty,pos,af,none⟩:=by rfl)(hd:Nat.blt d N=true:=by rfl)(he:Ty P E α:=by constructor<;>kernel_rfl)(ht:P.underlying t=some (.slice E):=by kernel_rfl)(hx:opd σ x=some (.slice b len0 cp):=by kernel_rfl)(hlo:loN σ lo=some 0:=by kernel_rfl)(hhi:numOf (opd σ hi')=some n:=by kernel_rfl)(Z:∀r c',Gl B N (f0 r=some z0) ((d,.slice b (List.length r) c')::σ) (Γ.set i (SL E (.slice b (List.length r) c') r)) Φ (wpFrom P ops Q (k+1))):Gl B N ((cut? l 0 n).bind f0=some z0) σ Γ Φ (wpFrom P ops Q k):=by
 intro e9 a w c;obtain⟨r,hr,e9⟩:=bindE e9;have h:=λc'=>gap (Z r c') e9;obtain⟨hF,S,F,hM,hs,hf⟩:=c;obtain⟨kd,hhi⟩:=Y7 hhi;unfold loN at hlo;exact ZdX i hs hM hi ht he ho hd hF hx (by grind[Y7]) hhi hr λc' w' S' fr hs' hp hF'=>h c' fr w' ⟨hF',S',F,hM.stp hp,hs',hf.chg hp.chg λk hk hS=>hM.dj k hS hk⟩
end
section
variable{K V:TypeId}{κ β:Type}[Flat κ][Flat β][DecidableEq κ]{T:MapT P K V κ β}{b:Nat}{m:List (κ×β)}
def Emm(T:MapT P K V κ β)(ho:ops[k]? =some ⟨some d,.makeMap t none,ty,pos,af,none⟩:=by rfl)(hd:Nat.blt d N=true:=by rfl)(hm:∀w,(Instr.makeMap t none).run P w= .ok (.map (some w.heap.size)) (w.alloc (.map #[] 0)):=by exact λw=>by simp[Instr.makeMap,run_newObj_alloc])(Z:∀b,Gl B N H ((d,.map (some b))::σ) (Γ++[MP T b []]) Φ (wpFrom P ops Q (k+1))):Gl B N H σ Γ Φ (wpFrom P ops Q k):=by
 intro e9 a w c;have h:=λb=>gap (Z b) e9;obtain⟨hF,S,F,hM,hs,hf⟩:=c;exact GR T hs hM hm ho hd hF λb w' S' fr hs' hp hF'=>h b fr w' ⟨hF',S',F,hM.stp hp,Zn (Γ2:=[_]) hs',hf.chg hp.chg λk hk hS=>hM.dj k hS hk⟩
def Emg{q:κ}{fit:κ->Bool}{zz:β}{f0:β->Option β0}(i:Nat)(hi:Γ[i]? =some (MP T b m):=by rfl)(hfit:T.fit=fit:=by rfl)(hzz:T.zero=zz:=by rfl)(ho:ops[k]? =some ⟨some d,.lookup t x y false,ty,pos,af,none⟩:=by rfl)(hd:Nat.blt d N=true:=by rfl)(ht:P.underlying t=some (.map K V):=by kernel_rfl)(hx:opd σ x=some (.map (some b)):=by kernel_rfl)(hy:opd σ y=some (Rep.val κ (Flat.enc q)):=by kernel_rfl)(Z:∀r,Gl B N (f0 r=some z0) ((d,Rep.val β (Flat.enc r))::σ) Γ Φ (wpFrom P ops Q (k+1))):Gl B N ((mget? fit zz m q).bind f0=some z0) σ Γ Φ (wpFrom P ops Q k):=by
 intro e9 a w c;obtain⟨r,hr,e9⟩:=bindE e9;have h:=λfr=>gap (Z r) e9 fr w;obtain⟨S,F,hM,hs,hf⟩:=c.me;subst hfit;subst hzz;exact JZ T i hs hi ht ho hd c.fr (u:=q) (mget?_fit hr) hx hy rfl (congrArg (λy=>Rep.val β (Flat.enc y)) (mget?_val hr)) λfr hF=>h fr (c.to hF)
def Emg2{q:κ}{fit:κ->Bool}{zz:β}{f0:β×Bool->Option β0}(i:Nat)(hi:Γ[i]? =some (MP T b m):=by rfl)(hfit:T.fit=fit:=by rfl)(hzz:T.zero=zz:=by rfl)(ho:ops[k]? =some ⟨some d,.lookup t x y true,ty,pos,af,none⟩:=by rfl)(hd:Nat.blt d N=true:=by rfl)(ht:P.underlying t=some (.map K V):=by kernel_rfl)(hx:opd σ x=some (.map (some b)):=by kernel_rfl)(hy:opd σ y=some (Rep.val κ (Flat.enc q)):=by kernel_rfl)(Z:∀r,Gl B N (f0 r=some z0) ((d,.tuple #[Rep.val β (Flat.enc r.1),.bool r.2])::σ) Γ Φ (wpFrom P ops Q (k+1))):Gl B N ((mget2? fit zz m q).bind f0=some z0) σ Γ Φ (wpFrom P ops Q k):=by
 intro e9 a w c;obtain⟨r,hr,e9⟩:=bindE e9;have h:=λfr=>gap (Z r) e9 fr w;obtain⟨S,F,hM,hs,hf⟩:=c.me;subst hfit;subst hzz;exact Zaj T i hs hi ht ho hd c.fr (u:=q) (mget2?_fit hr) hx hy rfl (mget2?_val hr) rfl λfr hF=>h fr (c.to hF)
def Emp{q:κ}{e:β}{fit:κ->Bool}{efit:β->Bool}{f0:List (κ×β)->Option β0}(i:Nat)(hi:Γ[i]? =some (MP T b m):=by rfl)(hfit:T.fit=fit:=by rfl)(hzz:T.efit=efit:=by rfl)(ho:ops[k]? =some ⟨none,.mapUpdate t x y z,ty,pos,af,none⟩:=by rfl)(ht:P.underlying t=some (.map K V):=by kernel_rfl)(hx:opd σ x=some (.map (some b)):=by kernel_rfl)(hy:opd σ y=some (Rep.val κ (Flat.enc q)):=by kernel_rfl)(hz:opd σ z=some (Rep.val β (Flat.enc e)):=by kernel_rfl)(Z:∀m',Gl B N (f0 m'=some z0) σ (Γ.set i (MP T b m')) Φ (wpFrom P ops Q (k+1))):Gl B N ((mputE? fit efit m q e).bind f0=some z0) σ Γ Φ (wpFrom P ops Q k):=by
 intro e9 a w c;obtain⟨m',hr,e9⟩:=bindE e9;have h:=λw'=>gap (Z m') e9 a w';obtain⟨hF,S,F,hM,hs,hf⟩:=c;subst hfit;subst hzz;exact JI T i hs hM hi ht ho hF (u:=q) (mputE?_fit hr) e (mputE?_efit hr) (mputE?_len hr) hx hy rfl hz rfl λw' S' hs' hp hF'=>h w' ⟨hF',S',F,hM.stp hp,by grind[mputE?_val],hf.chg hp.chg λk hk hS=>hM.dj k hS hk⟩
def Empb{q:κ}{T:MapT P K V κ Bool}{m:List (κ×Bool)}{e:Bool}{fit:κ->Bool}{f0:List (κ×Bool)->Option β0}(i:Nat)(hi:Γ[i]? =some (MP T b m):=by rfl)(hfit:T.fit=fit:=by rfl)(hzz:T.efit=λ_=>true:=by rfl)(ho:ops[k]? =some ⟨none,.mapUpdate t x y z,ty,pos,af,none⟩:=by rfl)(ht:P.underlying t=some (.map K V):=by kernel_rfl)(hx:opd σ x=some (.map (some b)):=by kernel_rfl)(hy:opd σ y=some (Rep.val κ (Flat.enc q)):=by kernel_rfl)(hz:opd σ z=some (.bool e):=by kernel_rfl)(Z:∀m',Gl B N (f0 m'=some z0) σ (Γ.set i (MP T b m')) Φ (wpFrom P ops Q (k+1))):Gl B N ((mput? fit m q e).bind f0=some z0) σ Γ Φ (wpFrom P ops Q k):=by
 intro e9 a w c;obtain⟨m',hr,e9⟩:=bindE e9;have h:=λw'=>gap (Z m') e9 a w';obtain⟨hF,S,F,hM,hs,hf⟩:=c;subst hfit;exact JI T i hs hM hi ht ho hF (u:=q) (mput?_fit hr) e (by rw[hzz]) (mput?_len hr) hx hy rfl hz rfl λw' S' hs' hp hF'=>h w' ⟨hF',S',F,hM.stp hp,by grind[mput?_val],hf.chg hp.chg λk hk hS=>hM.dj k hS hk⟩
end
end
section
variable{P:Program}{B:Bs}{N:Nat}{σ:List (Nat×Value)}{Γ:List HP}{Φ:List RF}{a a':Act}{w w':World}{Q:Exit->Act->World->Prop}{K:Act->World->Prop}
variable{H:Prop}{β0:Type}{z0:β0}
def Cx.swap{H H':HP}(i:Nat)(c:Cx B N σ Γ Φ a w)(f:∀A,H.ok w A->H'.ok w A)(hi:Γ[i]? =some H:=by rfl):Cx B N σ (Γ.set i H') Φ a w:=by
 obtain⟨h,S,F,h1,h2,h3⟩:=c;exact⟨h,S,F,h1,h2.swapT i hi f,h3⟩
def Cx.bxe{b t:Nat}{cs cs':List Value}(i:Nat)(c:Cx B N σ Γ Φ a w)(he:cs=cs')(hi:Γ[i]? =some (BX b t cs):=by rfl):Cx B N σ (Γ.set i (BX b t cs')) Φ a w:=c.swap i (λ_ h=>he▸h) hi
def Cx.nilf{α:Type}[Rep α](c:Cx B N σ Γ Φ a w):Cx B N σ Γ (Φ++[RO (.slice none 0 0) ([]:List α)]) a w:=c.add Ava.nil
def Cx.sl{α:Type}[Rep α]{v:Value}{l:List α}(i:Nat)(c:Cx B N σ Γ Φ a w)(hi:Φ[i]? =some (RO v l):=by rfl):∃b cp,v= .slice b l.length cp:=by
 obtain⟨F,h⟩:=c.use (Ava.f i hi);obtain⟨b,cp,h,_⟩:=RV.slice h;simp_all
def Cx.flat{L:List HP}(i:Nat)(c:Cx B N σ Γ Φ a w)(hi:Γ[i]? =some (HP.sep L):=by rfl):Cx B N σ (rest [i] Γ++L) Φ a w:=c.gam λS h=>by
 have:=h.part [i] (Γ1:=[HP.sep L]) aH U;simp_all[Zn,Sep.flat]
def Cx.fzd{ρ α:Type}[Flat ρ][Rep α]{own:ρ->α->HP}{E:TypeId}{v:Value}{rs:List ρ}{xs:List α}(ho:Owns own)(i j:Nat)(c:Cx B N σ Γ Φ a w)(hi:Γ[i]? =some (SL E v rs):=by rfl)(hj:Γ[j]? =some (HP.all own rs xs):=by rfl)(hne:[i,j].Nodup:=by decide):
  Cx B N σ (rest [i,j] Γ) (Φ++[RO v xs]) a w:=by
 obtain⟨h,S,F,h1,h2,h3⟩:=c;have hp:=h2.part [i,j] (Γ1:=[SL E v rs,HP.all own rs xs]) aR hne;obtain⟨S',F',hM,hs,hr,hfz⟩:=Sep.freezeD (L:=rest [i,j] Γ) ho hp h1;exact⟨h,S',F',hM,hs,(h3.sub λk _ hk=>hfz k hk).add hr⟩
def Cx.relend{ρ α:Type}[Flat ρ]{own:ρ->α->HP}{E:TypeId}{b:Option Addr}{n cp:Nat}{rs:List ρ}{xs:List α}(i j:Nat)(c:Cx B N σ Γ Φ a w)(hi:Γ[i]? =some (SL E (.slice b n cp) rs):=by rfl)(hj:Γ[j]? =some (HP.all own rs xs):=by rfl):
  n=xs.length/\Cx B N σ (Γ.set i (SL E (.slice b xs.length cp) rs)) Φ a w:=by
 obtain⟨h,S,F,h1,h2,h3⟩:=c;obtain⟨he,hs⟩:=Sep.relenD i j h2 hi hj;exact⟨he,h,S,F,h1,hs,h3⟩
def If{x y:Code}{o:Operand}{b:Bool}(c:Cx B N σ Γ Φ a w)(ht:b=true->x.wp P Q a w)(hf:b=false->y.wp P Q a w)(hb:opd σ o=some (.bool b):=by kernel_rfl):(Code.cond o x y).wp P Q a w:=AR c.fr hb ht hf
def As{id:Nat}{l:List Oper}(hmix:P.follows .mixedOrders=true)(c:Cx B N σ Γ Φ a w)(h:∀w',Cx B N σ Γ Φ a w'->wpAny P .any l.toArray Q l.toArray.size (Array.replicate l.toArray.size false) a w'):(Code.region id l.toArray true).wp P Q a w:=
 ZaQ hmix λw' hc=>h w' (c.ext hc)
def Gt{l:List Oper}{k g t:Nat}{want:Bool}{o og:Oper}(c:Cx B N σ Γ Φ a w)(h:wpFrom P (l.set k {o with guard:=none}).toArray Q k a w)(ho:l[k]? =some o:=by rfl)(hg:o.guard=some (g,want):=by rfl)(hog:l[g]? =some og:=by rfl)(ht:og.dst=some t:=by rfl)
  (htN:Nat.blt t N=true:=by rfl)(hv:opd σ (.tmp t)=some (.bool want):=by kernel_rfl):wpFrom P l.toArray Q k a w:=BI c.fr ho hg hog ht htN hv h
def Gs{ops:Array Oper}{k g t d:Nat}{want:Bool}{o og:Oper}(ho:ops[k]? =some o:=by rfl)(hg:o.guard=some (g,want):=by rfl)(hog:ops[g]? =some og:=by rfl)(ht:og.dst=some t:=by rfl)(hd:o.dst=some d:=by rfl)(htN:Nat.blt t N=true:=by rfl)(hdN:Nat.blt d N=true:=by rfl)(hv:opd σ (.tmp t)=some (.bool (!want)):=by kernel_rfl)(Z:Gl B N H ((d,undef)::σ) Γ Φ (wpFrom P ops Q (k+1))):Gl B N H σ Γ Φ (wpFrom P ops Q k):=by
 intro e9 a w c;have h:=λfr=>gap Z e9 fr w;exact Zaw c.fr ho hg hog ht htN hv U hd hdN λfr hF=>h fr (c.to hF)
def pureC(P:Program)(N:Nat)(σ:List (Nat×Value)):Code->Option (List (Nat×Value))
 |.skip=>some σ
 |.region _ ops false=>seqV P N ops.toList σ
 |_=>none
def dstC:Code->List Nat
 |.region _ ops _=>ops.toList.filterMap (·.dst)
 |_=>[]
theorem Iw{t:Nat}:∀{l:List Oper}{σ σ':List (Nat×Value)},seqV P N l σ=some σ'->t∉l.filterMap (·.dst)->σ'.lookup t=σ.lookup t
 |[],σ,σ',h,_=>by simp_all[seqV,Option.some.injEq]
 | o::l,σ,σ',h,ht=>by
  unfold seqV at h;split at h
  ·rename_i d v hg hd hv;split at h
   ·rw[List.filterMap_cons,hd]at ht;have h1:=Iw h λhm=>ht (ZfT _ hm);grind
   ·cases h
  ·cases h
theorem Qd{t:Nat}{v:Value}:∀{τ σ:List (Nat×Value)},(τ++σ).lookup t=some v->(t,v)∈τ\/σ.lookup t=some v
 |[],_,h=>.inr h
 | (k,u)::τ,σ,h=>by
  rw[List.cons_append,ZfZ]at h;by_cases e:t=k
  ·simp_all
  ·have:(t==k)=false:=by simpa using e
   rw[this]at h;exact(Qd h).imp (ZfT _) id
theorem EQ{x:Code}{τ:List (Nat×Value)}{D:List Nat}(hF:FrS N σ a)(h:(pureC P N σ x).map (λs=>τ.map λp=>s.lookup p.1)=some (τ.map λp=>some p.2))(hD:((dstC x).all (memN D))=true):
  x.wp P (λe a' w'=>e= .normal/\w'=w/\FrS N (τ++σ.filter λp=>!memN D p.1) a') a w:=by
 have fin:∀(s:List (Nat×Value))(a':Act),FrS N s a'->(∀p∈τ,s.lookup p.1=some p.2)->(∀t,memN D t=false->s.lookup t=σ.lookup t)->FrS N (τ++σ.filter λp=>!memN D p.1) a':=λs a' hs h1 h2=>
  ⟨hs.defers,hs.size,λt v hv=>by
   rcases Qd hv with hv|hv
   ·exact hs.get t v (h1 _ hv)
   ·obtain⟨g1,g2⟩:=Vg (f:=λk=> !memN D k) hv
    exact hs.get t v ah⟩
 cases x with
 |skip=>
  simp only[pureC,Zgh,Option.some.injEq]at h;exact wp_skip ⟨rfl,rfl,fin σ a hF (λp hp=>ZgH.1 h p hp) λ_ _=>rfl⟩
 | region id ops draw=>
  cases draw with
  |true=>simp_all[pureC]
  | false=>
   simp only[pureC]at h;cases hq:seqV P N ops.toList σ with
   |none=>simp_all
   |some s=>
    rw[hq]at h;simp only[Zgh,Option.some.injEq]at h;refine Fb ?_;unfold wpFrom;rw[ZgN,<-Zgb ops.toList];refine GK hF hq λa' hF'=>wpList_nil ⟨rfl,rfl,fin s a' hF' (λp hp=>ZgH.1 h p hp) λt ht=>Iw hq λhm=>?_⟩;grind[List.all_eq_true,dstC]
 |_=>simp_all[pureC]
def Mp{x y:Code}{o:Operand}(b:Bool)(τ1 τ2 τ:List (Nat×Value))(D:List Nat)(c:Cx B N σ Γ Φ a w)(h:∀fr,Cx B N (τ++σ.filter λp=>!memN D p.1) Γ Φ fr w->K fr w)(hb:opd σ o=some (.bool b):=by kernel_rfl)
  (h1:(pureC P N σ x).map (λs=>τ1.map λp=>s.lookup p.1)=some (τ1.map λp=>some p.2):=by kernel_rfl)(h2:(pureC P N σ y).map (λs=>τ2.map λp=>s.lookup p.1)=some (τ2.map λp=>some p.2):=by kernel_rfl)
  (hx:((dstC x).all (memN D))=true:=by kernel_rfl)(hy:((dstC y).all (memN D))=true:=by kernel_rfl)(e1:b=true->τ1=τ:=by intro hb;first|rfl|(simp only[hb];done)|(simp only[hb];rfl)|(simp[hb];done))
  (e2:b=false->τ2=τ:=by intro hb;first|rfl|(simp only[hb];done)|(simp only[hb];rfl)|(simp[hb];done)):(Code.cond o x y).wp P (Exit.then K Q) a w:=
 ZbV (τ++σ.filter λp=>!memN D p.1) c.fr hb (λhb=>by rw[<-e1 hb];exact EQ c.fr h1 hx) (λhb=>by rw[<-e2 hb];exact EQ c.fr h2 hy) λa' hF=>Oo (h a' (c.to hF))
def ndN:List Nat->Bool
 |[]=>true
 |x::l=>!(memN l x)&&ndN l
theorem La:∀{l:List Nat},ndN l=true->l.Nodup
 |[],_=>Zia
 |x::l,h=>by
  unfold ndN at h;rw[ZfF,Zhi,KH]at h;exact ZhH.2 ⟨λhm=>by simp_all,La h.2⟩
end
section
variable{P:Program}{B:Bs}{N:Nat}{σ:List (Nat×Value)}{Γ:List HP}{Φ Φ1:List RF}{a:Act}{w:World}{Q:Exit->Act->World->Prop}
variable{H:Prop}{β0:Type}{z0:β0}
  {draw:Bool}{ms:List Nat}{ops:Array Oper}{j d:Nat}{dst:Option Tmp}{g:Option (Nat×Bool)}{t ty yt:TypeId}{x y:Operand}{pos:String}{af:Array Edge}{ow:Nat->Nat}
end
class RawOf(ρ α:Type)[Flat ρ][Rep α]:Prop where
 sz:Rep.sz ρ=Rep.sz α
 agg:Rep.agg ρ=Rep.agg α
 ex:∀{w:World}{F:Nat->Prop}{cs:List Value}{x:α},Rep.ok w F cs x->∃q:ρ,cs=Flat.enc q
def FacL(w:World)(F:Nat->Prop):List RF->Prop
 |[]=>True
 |R::l=>R.ok w F/\FacL w F l
theorem AllF.of{w:World}{F:Nat->Prop}:∀(Ψ:List RF),FacL w F Ψ->AllF Ψ w F
 |[],_=>AllF.nil
 |R::l,h=>λR' hR=>by
  rcases ZfY.1 hR with rfl|hR
  ·exact h.1
  ·exact AllF.of l h.2 R' hR
deriving instance Inhabited for Hd
section
variable{B:Bs}{N:Nat}{σ:List (Nat×Value)}{Γ:List HP}{Φ:List RF}{a:Act}{w:World}
def Zbm{q:D.Value}{w:World}{F:Nat->Prop}{cs:List Value}(h:Rep.ok w F cs q):cs[0]? =some ((Str.val q.Name)):=by rw[Flat.iff.1 h];rfl
def Zbl{q:D.Value}{w:World}{F:Nat->Prop}{cs:List Value}(h:Rep.ok w F cs q):cs[1]? =some (.int .i64 q.W):=by rw[Flat.iff.1 h];rfl
def Za8{q:D.Value}{w:World}{F:Nat->Prop}{cs:List Value}(h:Rep.ok w F cs q):cs[2]? =some (.int .i64 q.N):=by rw[Flat.iff.1 h];rfl
def Ava.mk_Term(x:D.Term){v4:Value}(h4:Ava Γ Φ w (RO v4 x.Kids)):Ava Γ Φ w (RO (.agg #[.int .i64 x.Op,.int .i64 x.W,.int .i64 x.N,(Str.val x.Name),v4]) x):=λS F hs hf=>RV.mk_Term x (h4 S F hs hf)
def Cx.o_Term{v:Value}{x:D.Term}(i:Nat)(c:Cx B N σ Γ Φ a w)(hi:Φ[i]? =some (RO v x):=by rfl):∃(a4:Option Addr)(c4:Nat),v= .agg #[.int .i64 x.Op,.int .i64 x.W,.int .i64 x.N,(Str.val x.Name),.slice a4 x.Kids.length c4]/\Cx B N σ Γ (Φ++[RO (.slice a4 x.Kids.length c4) x.Kids]) a w:=by
 obtain⟨hF,S,F,hM,hs,hf⟩:=c;obtain⟨v4,rfl,h4⟩:=RV.Term (hf.get hi);obtain⟨a4,c4,rfl,_⟩:=RV.slice h4;exact⟨a4,c4,rfl,hF,S,F,hM,hs,hf.join (AllF.of [_] ⟨h4,trivial⟩)⟩
def ZbX{q:D.Term}{w:World}{F:Nat->Prop}{cs:List Value}(h:Rep.ok w F cs q):cs[0]? =some (.int .i64 q.Op):=by
 obtain⟨y0,y1,y2,y3,y4⟩:=q;have h:okTerm w F cs ⟨y0,y1,y2,y3,y4⟩:=h;grind[okTerm]
def ZbL{q:D.Term}{w:World}{F:Nat->Prop}{cs:List Value}(h:Rep.ok w F cs q):cs[1]? =some (.int .i64 q.W):=by
 obtain⟨y0,y1,y2,y3,y4⟩:=q;have h:okTerm w F cs ⟨y0,y1,y2,y3,y4⟩:=h;grind[okTerm]
structure Rw.Term where
 Op:Int
 W:Int
 N:Int
 Name:Str
 Kids:Hd
deriving Inhabited
instance:Rep Rw.Term where
 sz:=5
 agg:=true
 ok:=λ_ _ cs x=>cs=[.int .i64 x.Op,.int .i64 x.W,.int .i64 x.N,(Str.val x.Name),x.Kids.v]
 len:=by simp
 one:=by rintro w F cs x rfl u hu;simp at hu;rcases hu with rfl|rfl|rfl|rfl|rfl<;>rfl
 pos:=by decide
 sgl:=λh=>by cases h
 keep:=λh _=>h
instance:Flat Rw.Term where
 enc:=λx=>[.int .i64 x.Op,.int .i64 x.W,.int .i64 x.N,(Str.val x.Name),x.Kids.v]
 iff:=Iff.rfl
def Zev(w:World)(F:Nat->Prop):Rep.ok w F (Flat.enc (⟨0,0,0,⟨[]⟩,⟨none,0,0⟩⟩:Rw.Term)) (⟨0,0,0,⟨[]⟩,[]⟩:D.Term):=by
 exact⟨none,0,rfl,ZfP _,Zg9 _,λh=>absurd rfl h⟩
instance:RawOf Rw.Term D.Term where
 sz:=rfl
 agg:=rfl
 ex:=by
  rintro w F cs ⟨y0,y1,y2,y3,kids⟩ h;obtain⟨a,cp,rfl,_⟩:=h;exact⟨⟨y0,y1,y2,y3,⟨a,kids.length,cp⟩⟩,rfl⟩
def Ava.mk_Path(x:D.Path){v1 v2 v3 v5 v8 v9:Value}(h1:Ava Γ Φ w (RO v1 x.Regs))(h2:Ava Γ Φ w (RO v2 x.Mem))(h3:Ava Γ Φ w (RO v3 x.Stack))(h5:Ava Γ Φ w (RO v5 x.Out))(h8:Ava Γ Φ w (RO v8 x.Cond))(h9:Ava Γ Φ w (RO v9 x.Turns)):Ava Γ Φ w (RO (.agg #[.int .i64 x.Pc,v1,v2,v3,.int .i64 x.In,v5,.int .i64 x.Code,.int .i64 x.Steps,v8,v9]) x):=λS F hs hf=>RV.mk_Path x (h1 S F hs hf) (h2 S F hs hf) (h3 S F hs hf) (h5 S F hs hf) (h8 S F hs hf) (h9 S F hs hf)
def Cx.o_Path{v:Value}{x:D.Path}(i:Nat)(c:Cx B N σ Γ Φ a w)(hi:Φ[i]? =some (RO v x):=by rfl):∃(a1:Option Addr)(c1:Nat)(a2:Option Addr)(c2:Nat)(a3:Option Addr)(c3:Nat)(a5:Option Addr)(c5:Nat)(a8:Option Addr)(c8:Nat)(a9:Option Addr)(c9:Nat),v= .agg #[.int .i64 x.Pc,.slice a1 x.Regs.length c1,.slice a2 x.Mem.length c2,.slice a3 x.Stack.length c3,.int .i64 x.In,.slice a5 x.Out.length c5,.int .i64 x.Code,.int .i64 x.Steps,.slice a8 x.Cond.length c8,.slice a9 x.Turns.length c9]/\Cx B N σ Γ (Φ++[RO (.slice a1 x.Regs.length c1) x.Regs,RO (.slice a2 x.Mem.length c2) x.Mem,RO (.slice a3 x.Stack.length c3) x.Stack,RO (.slice a5 x.Out.length c5) x.Out,RO (.slice a8 x.Cond.length c8) x.Cond,RO (.slice a9 x.Turns.length c9) x.Turns]) a w:=by
 obtain⟨hF,S,F,hM,hs,hf⟩:=c;obtain⟨v1,v2,v3,v5,v8,v9,rfl,h1,h2,h3,h5,h8,h9⟩:=RV.Path (hf.get hi);obtain⟨a1,c1,rfl,_⟩:=RV.slice h1;obtain⟨a2,c2,rfl,_⟩:=RV.slice h2;obtain⟨a3,c3,rfl,_⟩:=RV.slice h3;obtain⟨a5,c5,rfl,_⟩:=RV.slice h5;obtain⟨a8,c8,rfl,_⟩:=RV.slice h8;obtain⟨a9,c9,rfl,_⟩:=RV.slice h9;exact⟨a1,c1,a2,c2,a3,c3,a5,c5,a8,c8,a9,c9,rfl,hF,S,F,hM,hs,hf.join (AllF.of [_,_,_,_,_,_] ⟨h1,h2,h3,h5,h8,h9,trivial⟩)⟩
structure Rw.Path where
 Pc:Int
 Regs:Hd
 Mem:Hd
 Stack:Hd
 In:Int
 Out:Hd
 Code:Int
 Steps:Int
 Cond:Hd
 Turns:Hd
deriving Inhabited
instance:Rep Rw.Path where
 sz:=10
 agg:=true
 ok:=λ_ _ cs x=>cs=[.int .i64 x.Pc,x.Regs.v,x.Mem.v,x.Stack.v,.int .i64 x.In,x.Out.v,.int .i64 x.Code,.int .i64 x.Steps,x.Cond.v,x.Turns.v]
 len:=by simp
 one:=by rintro w F cs x rfl u hu;simp at hu;rcases hu with rfl|rfl|rfl|rfl|rfl|rfl|rfl|rfl|rfl|rfl<;>rfl
 pos:=by decide
 sgl:=λh=>by cases h
 keep:=λh _=>h
instance:Flat Rw.Path where
 enc:=λx=>[.int .i64 x.Pc,x.Regs.v,x.Mem.v,x.Stack.v,.int .i64 x.In,x.Out.v,.int .i64 x.Code,.int .i64 x.Steps,x.Cond.v,x.Turns.v]
 iff:=Iff.rfl
instance:RawOf Rw.Path D.Path where
 sz:=rfl
 agg:=rfl
 ex:=by
  rintro w F cs x ⟨v1,v2,v3,v5,v8,v9,rfl,h1,h2,h3,h5,h8,h9⟩;obtain⟨a1,c1,e1,_⟩:=h1;simp only[List.cons.injEq,Zh6]at e1;subst e1;obtain⟨a2,c2,e2,_⟩:=h2;simp only[List.cons.injEq,Zh6]at e2;subst e2;obtain⟨a3,c3,e3,_⟩:=h3;simp only[List.cons.injEq,Zh6]at e3;subst e3;obtain⟨a5,c5,e5,_⟩:=h5;simp only[List.cons.injEq,Zh6]at e5;subst e5;obtain⟨a8,c8,e8,_⟩:=h8;simp only[List.cons.injEq,Zh6]at e8;subst e8;obtain⟨a9,c9,e9,_⟩:=h9;simp only[List.cons.injEq,Zh6]at e9;subst e9;exact⟨⟨x.Pc,⟨a1,x.Regs.length,c1⟩,⟨a2,x.Mem.length,c2⟩,⟨a3,x.Stack.length,c3⟩,x.In,⟨a5,x.Out.length,c5⟩,x.Code,x.Steps,⟨a8,x.Cond.length,c8⟩,⟨a9,x.Turns.length,c9⟩⟩,rfl⟩
end
section
variable{P:Program}{B:Bs}{N:Nat}{σ:List (Nat×Value)}{Γ:List HP}{Φ:List RF}{a:Act}{w:World}{Q:Exit->Act->World->Prop}
variable{H:Prop}{β0:Type}{z0:β0}
  {ops:Array Oper}{k d d2 d3:Nat}{t t' s' ty ty' ty2 yt:TypeId}{pos pos' pos2:String}{af af' af2:Array Edge}{x y y' z:Operand}{kd kk:IntKind}
def Cx.fad{Rf:RF}(c:Cx B N σ Γ Φ a w)(h:∀F,AllF Φ w F->Rf.ok w F):Cx B N σ Γ (Φ++[Rf]) a w:=by
 obtain⟨hF,S,F,h1,h2,h3⟩:=c;exact⟨hF,S,F,h1,h2,h3.add (h F h3)⟩
def Ava.ro{Rf:RF}{F:Nat->Prop}(h:Ava [] Φ w Rf)(hf:AllF Φ w F):Rf.ok w F:=Rf.sub (h Non F (Sep.nil w Non) hf) λ_ _ h=>h.elim id λh=>h.elim
end
section
variable{P:Program}{B:Bs}{N:Nat}{σ:List (Nat×Value)}{Γ:List HP}{Φ Φ1 Ψ:List RF}{a:Act}{w:World}{Q:Exit->Act->World->Prop}
variable{H:Prop}{β0:Type}{z0:β0}
  {draw:Bool}{ms:List Nat}{ops:Array Oper}{j d:Nat}{dst:Option Tmp}{g:Option (Nat×Bool)}{t ty yt:TypeId}{x y:Operand}{pos:String}{af:Array Edge}{ow:Nat->Nat}
end
def mapSI(P:Program)(k e:TypeId)(hk:P.underlying k=some .string)(he:P.underlying e=some (.int .i64))(hzero:(P.info? e).map (·.zero)=some (some (.int .i64 0))):MapT P k e Str Int where
 fit:=fitS
 lit x:=.string x.bytes
 dv y:=.lit (.int .i64 y)
 zero:=0
 efit:=fitZ
 zfit:=rfl
 keyed:=Maps.string_keyed hk
 key x h:=by
  have h:x.bytes.length<=9223372036854775807:=of_decide_eq_true h;have h2:(Rep.val Str (Flat.enc x))= .string ⟨x.bytes.toArray⟩:=rfl;unfold keyOf;rw[hk,h2];simp only[mapKey,hk];have h3:(ByteArray.mk x.bytes.toArray).size<=maxLen:=by show x.bytes.toArray.size<=_;simp_all[maxLen]
  simp[h3]
 inj x y _ _ h:=by
  cases x;simp_all
 elem y h:=plainElem_int he (by grind[fitZ])
 back v y ps h:=by
  obtain⟨c,rfl,hc,_⟩:=plainElem_int_inv he h;simp only[Prod.mk.injEq,DataW.lit.injEq,Lit.int.injEq]at hc;rw[hc.1.2];rfl
 hz w:=by
  show(zeroValue e).run P w= .ok (.int .i64 0) w;cases hi:P.info? e with
  |none=>simp_all
  |some i=>
   simp_all[Zgh,Option.some.injEq,zeroValue,typeInfo]
section
variable{P:Program}{K V:TypeId}{κ β:Type}[Flat κ][Flat β]
variable{H:Prop}{β0:Type}{z0:β0}
def OM(T:MapT P K V κ β)(v:Value)(m:Option (List (κ×β))):HP where
 ok w A:=match m with
  |none=>v= .map none
  |some l=>∃b,v= .map (some b)/\OwnM T w b l/\A b
 mono:=λ{w A A'}h hA=>by
  grind[OwnM.lt]
 keep:=λ{w w' A T'}h hc hT=>by
  cases m with
  |none=>exact h
  |some l=>obtain⟨b,h1,h2,h3⟩:=h;exact⟨b,h1,h2.chg T hc (hT b h3),h3⟩
def MO(T:MapT P K V κ β)(v:Value)(m:Option (List (κ×β))):RF where
 ok w F:=(OM T v m).ok w F
 sub:=λh hs=>(OM T v m).mono h hs
 chg:=λh hc ht=>(OM T v m).keep h hc ht
variable{B:Bs}{N:Nat}{σ:List (Nat×Value)}{Γ:List HP}{Φ:List RF}{a:Act}{w:World}{Q:Exit->Act->World->Prop}{T:MapT P K V κ β}
  {ops:Array Oper}{k d b:Nat}{t ty yt:TypeId}{pos:String}{af:Array Edge}{x y z:Operand}{v:Value}{m:Option (List (κ×β))}{l:List (κ×β)}
def Cx.om[DecidableEq κ](i:Nat)(c:Cx B N σ Γ Φ a w)(hi:Γ[i]? =some (MP T b l):=by rfl):Cx B N σ (Γ.set i (OM T (.map (some b)) (some l))) Φ a w:=c.swap (H:=MP T b l) (H':=OM T (.map (some b)) (some l)) i (λA h=>(⟨b,rfl,h.1,h.2⟩:(OM T (.map (some b)) (some l)).ok w A)) hi
def Cx.nilm(T:MapT P K V κ β)(c:Cx B N σ Γ Φ a w):Cx B N σ (Γ++[OM T (.map none) none]) Φ a w:=c.gam λS h=>Zn (Γ2:=[OM T (.map none) none]) (Sep.emp _ h rfl)
theorem Cx.som[DecidableEq κ](i:Nat)(c:Cx B N σ Γ Φ a w)(hm:m.isNone=false)(hi:Γ[i]? =some (OM T v m):=by rfl):∃b,v= .map (some b)/\Cx B N σ (Γ.set i (MP T b (m.getD []))) Φ a w:=by
 cases m with
 |none=>cases hm
 | some l=>
  have:∃b,v= .map (some b):=by
   obtain⟨_,S,F,_,hs,_⟩:=c;obtain⟨A,h,_⟩:=hs.get i hi;obtain⟨b,h,_⟩:=h;simp_all
  obtain⟨b,rfl⟩:=this;exact⟨b,rfl,c.swap (H:=OM T (.map (some b)) (some l)) (H':=MP T b l) i (λA h=>by obtain⟨b',h1,h2,h3⟩:=h;cases h1;exact⟨h2,h3⟩) hi⟩
def Cx.smx[DecidableEq κ](i:Nat)(c:Cx B N σ Γ Φ a w)(hm:m=some l)(hi:Γ[i]? =some (OM T v m):=by rfl):∃b,v= .map (some b)/\Cx B N σ (Γ.set i (MP T b l)) Φ a w:=by
 subst hm;exact c.som i rfl hi
theorem Cx.nom(i:Nat)(c:Cx B N σ Γ Φ a w)(hm:m.isNone=true)(hi:Γ[i]? =some (OM T v m):=by rfl):v= .map none:=by
 cases m with
 |some l=>cases hm
 |none=>
  obtain⟨_,S,F,_,hs,_⟩:=c;obtain⟨A,h,_⟩:=hs.get i hi;exact h
def Ava.mn:Ava Γ Φ w (MO T (.map none) none):=λS F hs _=>rfl
def ZaZ{t:TypeId}(ht:P.underlying t=some (.map K V))(o:Option Nat)(w:World):(binOp .eql t (.map o) (.map none)).run P w= .ok (.bool o.isNone) w:=by
 unfold binOp Op.equal Op.maxDepth Op.equalIn;cases o<;>simp[run_underlying ht]
theorem Enm(i:Nat)(hi:Γ[i]? =some (OM T v m):=by rfl)(ho:ops[k]? =some ⟨some d,.binOp .eql t x y yt,ty,pos,af,none⟩:=by rfl)(hd:Nat.blt d N=true:=by rfl)(ht:P.underlying t=some (.map K V):=by kernel_rfl)(hx:opd σ x=some v:=by kernel_rfl)(hy:opd σ y=some (.map none):=by kernel_rfl)(Z:Gl B N H ((d,.bool m.isNone)::σ) Γ Φ (wpFrom P ops Q (k+1))):Gl B N H σ Γ Φ (wpFrom P ops Q k):=by
 intro e9 a w c;have h:=λfr=>gap Z e9 fr w;obtain⟨S,F,hM,hs,hf⟩:=c.me;obtain⟨A,hA,_⟩:=hs.get i hi;have:∃o:Option Nat,v= .map o/\o.isNone=m.isNone:=by
  cases m with
  |none=>exact⟨none,hA,rfl⟩
  |some l=>obtain⟨b,h1,_⟩:=hA;simp_all
 obtain⟨o,rfl,ho'⟩:=this;exact Ka ho hd c.fr hx hy ap (ZaZ ht o w) λfr hF=>h fr (c.to ah)
theorem Erg[DecidableEq κ]{q:κ}{fit:κ->Bool}{zz:β}{f0:β->Option β0}(hl:∀{w},Ava Γ Φ w (MO T v m))(hfit:T.fit=fit:=by rfl)(hzz:T.zero=zz:=by rfl)(ho:ops[k]? =some ⟨some d,.lookup t x y false,ty,pos,af,none⟩:=by rfl)(hd:Nat.blt d N=true:=by rfl)(ht:P.underlying t=some (.map K V):=by kernel_rfl)(hx:opd σ x=some v:=by kernel_rfl)(hy:opd σ y=some (Rep.val κ (Flat.enc q)):=by kernel_rfl)(Z:∀r,Gl B N (f0 r=some z0) ((d,Rep.val β (Flat.enc r))::σ) Γ Φ (wpFrom P ops Q (k+1))):Gl B N ((mgeto? fit zz m q).bind f0=some z0) σ Γ Φ (wpFrom P ops Q k):=by
 intro e9 a w c;obtain⟨r,hr,e9⟩:=bindE e9;have h:=λfr=>gap (Z r) e9 fr w;obtain⟨F,hl⟩:=c.use hl;subst hfit;subst hzz;cases m with
 |some l=>
  obtain⟨b,rfl,h1,h2⟩:=hl;have hs:Sep [MP T b l] w F:=Sep.of_ok (A:=F) ⟨h1,h2⟩;exact JZ T 0 hs rfl ht ho hd c.fr (u:=q) (mget?_fit hr) hx hy rfl (congrArg (λy=>Rep.val β (Flat.enc y)) (mget?_val hr)) λfr hF=>h fr (c.to hF)
 | none=>
  obtain rfl:v= .map none:=hl;have hrz:r=T.zero:=by
   simp_all[mgeto?,mget?]
  subst hrz;refine Zp c.fr ho rfl rfl (ZfW.mp hd) (R:=λz w1=>z=Rep.val β (Flat.enc T.zero)/\w1=w) (Zh ?_ ⟨rfl,rfl⟩) λz w1 fr hz hF'=>?_
  ·have hkey:=T.key q (mget?_fit hr);have hck:=T.keyed.check w true hkey;have hfd:(Instr.findKey K (Rep.val κ (Flat.enc q)) []).run P w= .ok none w:=by
    rcases T.keyed.find w hkey [] (λe he=>by cases he)with h|⟨j,e,_,h,_⟩
    all_goals grind
   simp[execOp,Instr.lookup,Zd c.fr hx,Zd c.fr hy,run_underlying ht,hck,hfd,Result.andThen,T.hz]
  ·obtain⟨rfl,rfl⟩:=hz;exact h fr (c.to hF')
end
def TBn(P:Program)(name:String)(k:IntKind)(zs:List Int):RF where
 ok w F:=TB P name k zs w F
 sub h hs:=h.sub hs
 chg h hc ht:=h.chg hc ht
abbrev TBf(P:Program):RF:=TBn P "internal/strconv.uint64pow10" .u64 Lib.pow10Tab
def Con.lib{P:Program}{f:FuncId}{args:List Value}{Φ:List RF}{v:Value}(h:∀(w:World)(F:Nat->Prop),AllF Φ w F->Calls P f args.toArray w λe w'=>e= .returned v/\Chg Non w w'):Con P f args [] Φ λ(_:Unit)=>([v],[],[]):=by
 intro w S F hs hF hS hf hd;refine(h w F hF).mono ?_;rintro e w' ⟨rfl,hc⟩;obtain⟨S',hM,hs'⟩:∃S',Mem w S F w' S' F/\Sep [] w' S':=⟨S,(Mem.start hS hf hd).ext hc,Sep.nil _ _⟩;exact⟨(),S',F,rfl,hM,hs',λ_ h=>by cases h⟩
section
variable{ρ α:Type}[Flat ρ][Rep α][RawOf ρ α]{w:World}{F:Nat->Prop}{v:Value}
omit[RawOf ρ α]in
theorem Zeg{cs cs':List Value}(ha:Rep.agg ρ=Rep.agg α)(hs:Rep.sz ρ=Rep.sz α)(hl:cs.length=Rep.sz ρ)(hl':cs'.length=Rep.sz α)(h:Rep.val ρ cs=Rep.val α cs'):cs=cs':=by
 unfold Rep.val at h;rw[<-ha]at h;cases hb:Rep.agg ρ with
 |true=>
  rw[hb]at h;simp only[ZfR,Value.agg.injEq]at h;simpa using congrArg Array.toList h
 | false=>
  rw[hb]at h;have h1:=Rep.sgl hb;simp only[ZfB,ZfK]at h;cases cs with
  |nil=>simp[h1]at hl
  | cons u us=>
   cases cs' with
   |nil=>rw[<-hs,h1]at hl';simp at hl'
   |cons u' us'=>
    rw[h1]at hl;rw[<-hs,h1]at hl';simp only[ZfS,Nat.add_eq_right,Zhq]at hl hl';subst hl;subst hl';simpa using h
def Bu{q:ρ}{x:α}(h:RV w F (Rep.val ρ (Flat.enc q)) x):Rep.ok w F (Flat.enc q) x:=by
 obtain⟨cs,h1,h2⟩:=h;have:=Zeg (ρ:=ρ) (α:=α) (RawOf.agg) (RawOf.sz) (Rep.len (w:=w) (F:=F) (Flat.iff.2 rfl:Rep.ok w F (Flat.enc q) q)) (Rep.len h1) h2;simp_all
theorem Gg{ad:Addr}:∀{xs:List α}{i:Nat},elems w F ad i xs->∃rs:List ρ,elems w F ad i rs/\Css w F (rs.map Flat.enc) xs
 |[],i,_=>⟨[],trivial,rfl,λi cs x h=>by simp at h⟩
 |x::xs,i,h=>by
  obtain⟨⟨cs,h1,h2⟩,h3⟩:=h;obtain⟨q,rfl⟩:=RawOf.ex (ρ:=ρ) h1;obtain⟨rs,g1,g2⟩:=Gg h3;refine⟨q::rs,⟨⟨Flat.enc q,Flat.iff.2 rfl,by grind[RawOf.sz]⟩,g1⟩,by simp[g2.1],λj cs y hj hy=>?_⟩;cases j with
  |zero=>simp_all
  |succ j=>exact g2.2 j cs y ah ah
def Ik{xs:List α}(h:RV w F v xs):∃rs:List ρ,RV w F v rs/\Css w F (rs.map Flat.enc) xs:=by
 obtain⟨a,cp,rfl,h1,h2,h3⟩:=RV.slice h;by_cases hn:xs=[]
 ·subst hn;exact⟨[],RV.mk_slice (l:=([]:List ρ)) h1 h2 (λh=>absurd rfl h),rfl,λi cs x h=>by simp at h⟩
 ·obtain⟨ad,rfl,hF,he⟩:=h3 hn;obtain⟨rs,g1,g2⟩:=Gg (ρ:=ρ) he;have hl:rs.length=xs.length:=by simpa using g2.1
  exact⟨rs,by rw[<-hl];exact RV.mk_slice O h2 (λ_=>⟨ad,rfl,hF,g1⟩),g2⟩
theorem Hg{ad:Addr}:∀{rs:List ρ}{xs:List α}{i:Nat},elems w F ad i rs->Css w F (rs.map Flat.enc) xs->elems w F ad i xs
 |[],[],_,_,_=>trivial
 |[],x::xs,_,_,h=>by have:=h.1;simp at this
 |q::rs,[],_,_,h=>by have:=h.1;simp at this
 |q::rs,x::xs,i,h,hc=>by
  obtain⟨⟨cs,h1,h2⟩,h3⟩:=h;obtain rfl:=Flat.iff.1 h1;refine⟨⟨_,hc.2 0 _ _ rfl rfl,by grind[RawOf.sz]⟩,Hg h3 ⟨by simpa using hc.1,λj cs y hj hy=>hc.2 (j+1) cs y ah ah⟩⟩
def Ji{rs:List ρ}{xs:List α}(h:RV w F v rs)(hc:Css w F (rs.map Flat.enc) xs):RV w F v xs:=by
 obtain⟨a,cp,rfl,h1,h2,h3⟩:=RV.slice h;have hl:rs.length=xs.length:=by simpa using hc.1
 rw[hl];refine RV.mk_slice O h2 λhn=>?_;obtain⟨ad,rfl,hF,he⟩:=h3 al;exact⟨ad,rfl,hF,Hg he hc⟩
omit [RawOf ρ α]in
def FJ{rs:List ρ}{xs:List α}(hc:Css w F (rs.map Flat.enc) xs){i:Nat}{x:α}(hx:xs[i]? =some x):∃q,rs[i]? =some q/\Rep.ok w F (Flat.enc q) x:=by
 have hl:rs.length=xs.length:=by simpa using hc.1
 have hlt:=(ZfE.1 hx).1;have hq:rs[i]? =some rs[i]:=by simp[hl,hlt]
 exact⟨rs[i],hq,hc.2 i _ x (by rw[Zgp,hq];rfl) hx⟩
omit [RawOf ρ α]in
def Zd2{rs:List ρ}{xs:List α}{n:Nat}{q:ρ}{x:α}(hc:Css w F (rs.map Flat.enc) xs)(hq:Rep.ok w F (Flat.enc q) x):Css w F ((rs.set n q).map Flat.enc) (xs.set n x):=by
 refine⟨by simpa using hc.1,λi cs y hi hy=>?_⟩;rw[Zgp,Zha]at hi;rw[Zha]at hy;have hl:rs.length=xs.length:=by simpa using hc.1
 by_cases e:n=i
 ·subst e;by_cases hlt:n<rs.length
  ·simp only[ZfR,hlt,Zgh,Option.some.injEq]at hi;rw[hl]at hlt;simp only[ZfR,hlt,Option.some.injEq]at hy;subst hi;subst hy;exact hq
  ·simp[hlt]at hi
 ·rw[ZfD e]at hi hy;exact hc.2 i cs y (by rw[Zgp];exact hi) hy
omit [RawOf ρ α]in
def Je{rs rs':List ρ}{xs xs':List α}(hc:Css w F (rs.map Flat.enc) xs)(hc':Css w F (rs'.map Flat.enc) xs'):Css w F ((rs++rs').map Flat.enc) (xs++xs'):=by
 have hl:rs.length=xs.length:=by simpa using hc.1
 refine⟨by simp[hl,(show rs'.length=xs'.length by simpa using hc'.1)],λi cs y hi hy=>?_⟩;rw[ZgA,Zh2,ZhG]at hi;rw[Zh2,<-hl]at hy;split at hi
 ·rename_i h;rw[ZfC h]at hy;exact hc.2 i cs y hi hy
 ·rename_i h;rw[ZfD h]at hy;exact hc'.2 _ cs y hi hy
omit [RawOf ρ α]in
def Zdy{n:Nat}{q:ρ}{x:α}(hq:Rep.ok w F (Flat.enc q) x):Css w F ((List.replicate n q).map Flat.enc) (List.replicate n x):=
 ⟨by simp,λi cs y hi hy=>by
  rw[Zgp,Zho]at hi;rw[Zho]at hy;split at hi
  ·rename_i h;rw[ZfC h]at hy;simp only[Zgh,Option.some.injEq]at hi hy;subst hi;subst hy;exact hq
  ·cases hi⟩
end
section
variable{ρ α:Type}[Flat ρ][Rep α]
def LitA(Φ:List RF)(w:World):List ρ->List α->Prop
 |[],[]=>True
 |q::rs,x::xs=>Ava [] Φ w (RO (Rep.val ρ (Flat.enc q)) x)/\LitA Φ w rs xs
 |_,_=>False
theorem LitA.css[RawOf ρ α]{Φ:List RF}{w:World}{F:Nat->Prop}(hf:AllF Φ w F):∀{rs:List ρ}{xs:List α},LitA Φ w rs xs->Css w F (rs.map Flat.enc) xs
 |[],[],_=>⟨rfl,λi cs x h=>by simp at h⟩
 |[],_::_,h=>h.elim
 |_::_,[],h=>h.elim
 |q::rs,x::xs,h=>by
  have h2:=LitA.css hf h.2;refine⟨by simpa using h2.1,λi cs y hi hy=>?_⟩;cases i with
  |zero=>simp only[Zgu,Zgz,Option.some.injEq]at hi hy;subst hi;subst hy;exact Bu (h.1.ro hf)
  |succ i=>exact h2.2 i cs y ah ah
variable{P:Program}{B:Bs}{N:Nat}{σ:List (Nat×Value)}{Γ:List HP}{Φ:List RF}{a:Act}{w:World}{Q:Exit->Act->World->Prop}
variable{H:Prop}{β0:Type}{z0:β0}
  {ops:Array Oper}{k d d2:Nat}{t t' ty ty':TypeId}{pos pos':String}{af af':Array Edge}{x y z:Operand}{E:TypeId}{v u:Value}{rs:List ρ}{xs ms r:List α}
def Ava.gr[RawOf ρ α](i j:Nat)(hi:Γ[i]? =some (SL E v rs):=by rfl)(hj:Φ[j]? =some (CS rs xs):=by rfl):Ava Γ Φ w (RO v xs):=λS F hs hf=>by
 have h1:=RV.sub (F':=λk=>F k\/S k) (hs.rv i hi) λ_ _ h=>.inr h;have h2:=(CS rs xs).sub (F':=λk=>F k\/S k) (hf.get hj) λ_ _ h=>.inl h;exact Ji h1 h2
def Cx.csn(c:Cx B N σ Γ Φ a w):Cx B N σ Γ (Φ++[CS ([]:List ρ) ([]:List α)]) a w:=c.fad λF _=>⟨rfl,λi cs x h=>by simp at h⟩
def Cx.relenr{b:Option Addr}{n cp:Nat}(i j:Nat)(c:Cx B N σ Γ Φ a w)(hi:Γ[i]? =some (SL E (.slice b n cp) rs):=by rfl)(hj:Φ[j]? =some (CS rs xs):=by rfl):n=xs.length/\Cx B N σ (Γ.set i (SL E (.slice b xs.length cp) rs)) Φ a w:=by
 obtain⟨he,c⟩:=c.relen i hi;obtain⟨F,h⟩:=c.use (Ava.f j hj);have hl:rs.length=xs.length:=by simpa using h.1
 simp_all
def Cx.fzr[RawOf ρ α](i j:Nat)(c:Cx B N σ Γ Φ a w)(hi:Γ[i]? =some (SL E v rs):=by rfl)(hj:Φ[j]? =some (CS rs xs):=by rfl):Cx B N σ (rest [i] Γ) (Φ++[RO v xs]) a w:=by
 obtain⟨h,S,F,h1,h2,h3⟩:=c;have hp:=h2.part [i] (Γ1:=[SL E v rs]) aH U;obtain⟨S',F',hM,hs,hr,hfz⟩:=Sep.freeze (L:=rest [i] Γ) hp h1;have h3':=h3.sub (F':=F') λk _ hk=>hfz k hk;exact⟨h,S',F',hM,hs,h3'.add (Ji (SL.rv hr) (h3'.get hj))⟩
def Emkr{n:Int}{zx:α}{f0:List α->Option β0}(E:TypeId)(zr:ρ)(hzr:∀(w:World)(F:Nat->Prop),Rep.ok w F (Flat.enc zr) zx)(ho:ops[k]? =some ⟨some d,.makeSlice t x y,ty,pos,af,none⟩:=by rfl)(hd:Nat.blt d N=true:=by rfl)(he:ElT P E ρ:=by refine elT ?_;kernel_rfl)(ht:P.underlying t=some (.slice E):=by kernel_rfl)(hz:(P.info? E).map (λi=>i.zero.map λz=>z.cells.toList)=some (some (Flat.enc zr)):=by kernel_rfl)(hx:opd σ x=some (.int .i64 n):=by kernel_rfl)(hy:opd σ y=some (.int .i64 n):=by kernel_rfl)(Z:∀r a' c',Gl B N (f0 r=some z0) ((d,.slice a' r.length c')::σ) (Γ++[SL E (.slice a' r.length c') (List.replicate r.length zr)]) (Φ++[CS (List.replicate r.length zr) r]) (wpFrom P ops Q (k+1))):Gl B N ((mk? n zx).bind f0=some z0) σ Γ Φ (wpFrom P ops Q k):=by
 intro e9 a w c;obtain⟨r,hr,e9⟩:=bindE e9;have h:=λa' c'=>gap (Z r a' c') e9;obtain⟨h1,h2⟩:=mk?_raw (z':=zr) hr;refine Emk (f0:=some) E (Z:=λr' a' c' e'{fr w'}c=>?_) ho hd he ht hz hx hy (bds h1) c;obtain rfl:=Option.some.inj e';have c:=c.fad (Rf:=CS (List.replicate r.length zr) r) λF _=>by
  have:=Zdy (n:=r.length) (hzr w' F);rw[<-h2]at this;exact this
 grind
def Eltr[RawOf ρ α]{n:Nat}{parts:Array (Nat×Operand)}(E:TypeId)(rs:List ρ)(xs:List α)(hx:∀{w},LitA Φ w rs xs)(ho:ops[k]? =some ⟨some d,.buildSlice t n parts,ty,pos,af,none⟩:=by rfl)(hd:Nat.blt d N=true:=by rfl)(hln:rs.length=n:=by rfl)(hmax:Nat.ble rs.length room=true:=by rfl)(hv:parts.toList.map (λp=>opd σ p.2)=(rs.map λx=>Rep.val ρ (Flat.enc x)).map some:=by kernel_rfl)(hrun:∀w,(Instr.buildSlice t n ((parts.toList.map (·.1)).zip (rs.map λx=>Rep.val ρ (Flat.enc x))).toArray).run P w= .ok (.slice (some ⟨w.heap.size,0,none⟩) n n) (w.alloc (.cells (rs.map Flat.enc).flatten.toArray E)):=by intro _;kernel_rfl)(Z:∀a' c',Gl B N H ((d,.slice a' xs.length c')::σ) (Γ++[SL E (.slice a' xs.length c') rs]) (Φ++[CS rs xs]) (wpFrom P ops Q (k+1))):Gl B N H σ Γ Φ (wpFrom P ops Q k):=by
 intro e9 a w c;have h:=λa' c'=>gap (Z a' c') e9;have c:=c.fad (Rf:=CS rs xs) λF hf=>hx.css hf;have hl:rs.length=xs.length:=by
  obtain⟨_,_,_,_,_,hf⟩:=c;simpa using(hf (CS rs xs) (ZfG.2 (.inr (ZfL.2 rfl)))).1
 refine Elt E rs (Z:=λa' c' _{fr w'}c=>?_) ho hd hln hmax hv hrun trivial c;grind
def Esetr[RawOf ρ α]{n:Int}{q:ρ}{e:α}{f0:List α->Option β0}(i j:Nat)(hx:∀{w},Ava [] Φ w (RO (Rep.val ρ (Flat.enc q)) e))(hi:Γ[i]? =some (SL E v rs):=by rfl)(hj:Φ[j]? =some (CS rs xs):=by rfl)(ho:ops[k]? =some ⟨some d,.indexAddr t x y,ty,pos,af,none⟩:=by rfl)(ho':ops[k+1]? =some ⟨none,.store t' (.tmp d) z,ty',pos',af',none⟩:=by rfl)(hte:t'=E:=by rfl)(hd:Nat.blt d N=true:=by rfl)(hz:z≠ .tmp d:=by simp)(he:Ty P E ρ:=by constructor<;>kernel_rfl)(ht:P.underlying t=some (.slice E):=by kernel_rfl)(hxv:opd σ x=some v:=by kernel_rfl)(hy:numOf (opd σ y)=some n:=by kernel_rfl)(hq:opd σ z=some (Rep.val ρ (Flat.enc q)):=by kernel_rfl)(Z:∀r p,Gl B N (f0 r=some z0) ((d,p)::σ) (Γ.set i (SL E v (rs.set n.toNat q))) (Φ++[CS (rs.set n.toNat q) r]) (wpFrom P ops Q (k+2))):Gl B N ((set? xs n e).bind f0=some z0) σ Γ Φ (wpFrom P ops Q k):=by
 intro e9 a w c;obtain⟨r,hr,e9⟩:=bindE e9;have h:=λp=>gap (Z r p) e9;obtain⟨F0,Z⟩:=c.use (Ava.f j hj);have hl:rs.length=xs.length:=by simpa using Z.1
 obtain⟨h1,h2,h3⟩:=set?_raw q hr hl;have c:=c.fad (Rf:=CS (rs.set n.toNat q) r) λF hf=>by
  rw[h2];exact Zd2 (hf.get hj) (Bu (hx.ro hf))
 refine Eset (f0:=some) i (Z:=λr' p e'{fr w'}c=>?_) hi ho ho' hte hd hz he ht hxv hy hq (bds h1) c;obtain rfl:=Option.some.inj e';exact h p fr w' c
def Eapr[RawOf ρ α]{f0:List α->Option β0}(i j:Nat)(hu:∀{w},Ava [] Φ w (RO u ms))(hi:Γ[i]? =some (SL E v rs):=by rfl)(hj:Φ[j]? =some (CS rs xs):=by rfl)(ho:ops[k]? =some ⟨some d,.call ⟨.builtin .append,#[x,y],#[t,t']⟩,ty,pos,af,none⟩:=by rfl)(htt:t'=t:=by rfl)(hd:Nat.blt d N=true:=by rfl)(he:ElT P E ρ:=by refine elT ?_;kernel_rfl)(ht:P.underlying t=some (.slice E):=by kernel_rfl)(hx:opd σ x=some v:=by kernel_rfl)(hy:opd σ y=some u:=by kernel_rfl)(Z:∀r(rm:List ρ)a' c',Gl B N (f0 r=some z0) ((d,.slice a' r.length c')::σ) (Γ.set i (SL E (.slice a' r.length c') (rs++rm))) (Φ++[CS (rs++rm) r]) (wpFrom P ops Q (k+1))):Gl B N ((app? xs ms).bind f0=some z0) σ Γ Φ (wpFrom P ops Q k):=by
 intro e9 a w c;obtain⟨r,hr,e9⟩:=bindE e9;have h:=λ(rm:List ρ)a' c'=>gap (Z r rm a' c') e9;obtain⟨hF,S,F,hM,hs,hf⟩:=c;obtain⟨rm,g1,g2⟩:=Ik (ρ:=ρ) (hu.ro hf);have hc:=Je (hf.get hj) g2;have hl:rs.length=xs.length:=by simpa using(hf.get hj).1
 have hl':rm.length=ms.length:=by simpa using g2.1
 obtain⟨h1,h2⟩:=app?_raw (l':=rs) (m':=rm) hr hl hl';rw[<-h2]at hc;have c:Cx B N σ Γ (Φ++[RO u rm]++[CS (rs++rm) r]) a w:=⟨hF,S,F,hM,hs,(hf.add (R:=RO u rm) g1).add (R:=CS (rs++rm) r) hc⟩;have hlen:(rs++rm).length=r.length:=by simp_all
 refine Eap (f0:=some) i (Ava.f Φ.length U) (Z:=λr' a' c' e'{fr w'}c=>?_) hi ho htt hd he ht hx hy (bds h1) c;obtain rfl:=Option.some.inj e';rw[hlen]at c;refine h rm a' c' fr w' ?_;obtain⟨q1,q2,q3,q4,q5,q6⟩:=c;exact⟨q1,q2,q3,q4,q5,λR hR=>q6 R ((ZfG.1 hR).elim (λh=>ZfG.2 (.inl (ZfG.2 (.inl h)))) λh=>ZfG.2 (.inr h))⟩
def Eemr[RawOf ρ α]{n:Int}{f0:α->Option β0}(i j:Nat)(hi:Γ[i]? =some (SL E v rs):=by rfl)(hj:Φ[j]? =some (CS rs xs):=by rfl)(ho:ops[k]? =some ⟨some d,.indexAddr t x y,ty,pos,af,none⟩:=by rfl)(ho':ops[k+1]? =some ⟨some d2,.load t' (.tmp d),ty',pos',af',none⟩:=by rfl)(hd:Nat.blt d N=true:=by rfl)(hd':Nat.blt d2 N=true:=by rfl)(he:Ty P t' ρ:=by constructor<;>kernel_rfl)(ht:P.underlying t=some (.slice t'):=by kernel_rfl)(hx:opd σ x=some v:=by kernel_rfl)(hy:numOf (opd σ y)=some n:=by kernel_rfl)(Z:∀q p u,Gl B N (f0 q=some z0) ((d2,u)::(d,p)::σ) Γ (Φ++[RO u q]) (wpFrom P ops Q (k+2))):Gl B N ((get? xs n).bind f0=some z0) σ Γ Φ (wpFrom P ops Q k):=by
 intro e9 a w c;obtain⟨q,hz,e9⟩:=bindE e9;have h:=λp u=>gap (Z q p u) e9;obtain⟨F0,Z⟩:=c.use (Ava.f j hj);obtain⟨q',g1,_⟩:=FJ Z (get?_at hz);have hz':get? rs n=some q':=by simp_all[get?,ZfC,get?_nn]
 refine Eel (f0:=some) (Ava.g i hi) (Z:=λr' p e'{fr w'}c=>?_) ho ho' hd hd' he ht hx hy (bds hz') c;obtain rfl:=Option.some.inj e';refine h p _ fr w' (c.fad λF hf=>?_);have hc:=hf.get hj;exact⟨Flat.enc r',hc.2 _ _ q ah (get?_at hz),by grind[Rep.val,RawOf.agg]⟩
end
def Opens(P:Program)(t:TypeId)(α:Type)[Rep α](fit:α->Prop):Prop:=
 ∀(H:Type)(enc:TypeId×Value->H)(w:World)(base:Nat)(spare:Nat->Bool)(held:Bool)(fuel:Nat)(cs:List Value)(x:DataW H×List MemPlace),
  DataW.trod enc P w base spare held fuel t cs=some x->∃a:α,Rep.ok w (λk=>k<w.heap.size) cs a/\fit a
section
variable{P:Program}{t e:TypeId}
def Ta(ht:P.underlying t=some (.int .i64)):Opens P t Int fitInt:=by
 intro H enc w base spare held fuel cs x h;obtain⟨n,rfl,-,hn⟩:=DataW.trod_int ht h;refine⟨n,rfl,?_⟩;simp only[Lit.wf,ZfF,ZfN]at hn;exact hn
theorem BV{α:Type}{p:Nat->α->Prop}:∀n,(∀i,i<n->∃y,p i y)->∃l:List α,l.length=n/\∀i y,l[i]? =some y->p i y
 |0,_=>⟨[],rfl,by simp⟩
 |n+1,h=>by
  obtain⟨l,hl,hp⟩:=BV n λi hi=>h i O;obtain⟨y,hy⟩:=h n O;refine⟨l++[y],by simp[hl],λi z hz=>?_⟩;grind
def Bw{α:Type}[Rep α]{fit:α->Prop}(ht:P.underlying t=some (.slice e))(hs:P.cellsOf e=Rep.sz α)(he:Opens P e α fit):Opens P t (List α) (fitList fit):=by
 intro H enc w base spare held fuel cs x h;rcases DataW.trod_slice ht h with⟨rfl,_⟩|⟨a,len,cap,elems',rest,n,rfl,rfl,_,hb,hl,hc,hlen,hel,_⟩
 ·exact⟨[],⟨none,0,rfl,ZfP _,Zg9 _,λh=>absurd rfl h⟩,Zg9 _,by simp⟩
 ·have key:∀i,i<len->∃y:α,(∃cs',Rep.ok w (λk=>k<w.heap.size) cs' y/\Cells w (a.add (i*Rep.sz α)) cs')/\fit y:=by
   intro i hi;have h1:=hel i hi;obtain⟨z,hz⟩:∃z,elems'[i]? =some z:=⟨_,ZfA O⟩;rw[hz,Zgf]at h1;obtain⟨cs',hc1,hc2⟩:=h1;obtain⟨y,hy,hf⟩:=he _ _ _ _ _ _ _ _ _ hc2;obtain⟨_,hl1,hc3⟩:=World.cells?_some hc1;refine⟨y,⟨cs',hy,λj u hu=>?_⟩,hf⟩;grind
  obtain⟨l,hll,hp⟩:=BV len key;have hE:elems w (λk=>k<w.heap.size) a 0 l:=Mh λi x hx=>by simp_all
  refine⟨l,⟨some a,cap,by rw[hll],by omega,hc,λhne=>⟨a,rfl,?_,hE⟩⟩,by grind[maxLen],λx hx=>?_⟩
  ·exact Dm hE hne
  grind[List.mem_iff_getElem?]
def TT{H:Type}{enc:TypeId×Value->H}{w:World}{base:Nat}{spare:Nat->Bool}{held:Bool}{n:Nat}{cs:List Value}{xs:List (DataW H×List MemPlace)}{fs:Array Field}{α:Type}[Rep α]{fit:α->Prop}
  (hf:∀(i:Nat)(f:Field),fs[i]? =some f->DataW.trod enc P w base spare held n f.type ((cs.drop f.offset).take (P.cellsOf f.type))=xs[i]?)(hx:xs.length=fs.size)(i:Nat)(f:Field)(m:Nat)(hfi:fs[i]? =some f)
  (hop:Opens P f.type α fit)(hc:P.cellsOf f.type=m):∃a:α,Rep.ok w (λk=>k<w.heap.size) ((cs.drop f.offset).take m) a/\fit a:=by
 have h1:=hf i f hfi;obtain⟨hi,-⟩:=Zgg.1 hfi;rw[ZfA O,hc]at h1;exact hop _ _ _ _ _ _ _ _ _ h1
def El{H:Type}{enc:TypeId×Value->H}{w:World}{base:Nat}{spare:Nat->Bool}{held:Bool}{v:Value}{d:DataW H}{ps:List MemPlace}{fs:Array Field}{α:Type}[Rep α]{fit:α->Prop}{r:Reach}{b:Nat}
  (ht:P.underlying t=some (.struct fs))(ha:Rep.agg α=true)(hop:Opens P t α fit)(hv:Value.okWide P w r b t v)(h:DataW.Trod enc P w base spare held t v d ps):∃a:α,RV w (λk=>k<w.heap.size) v a/\fit a:=by
 obtain⟨cs,rfl,_⟩:=WideShapes.okWide_struct ht hv;obtain⟨fuel,hf⟩:=h;obtain⟨a,h1,h2⟩:=hop _ _ _ _ _ _ _ _ _ hf;exact⟨a,⟨_,h1,by simp_all[Rep.val,Value.cells]⟩,h2⟩
end
end Go.GL
end
section
namespace Go.GL
theorem Zb{x:Int}(h1:-9223372036854775808<=x:=by omega)(h2:x<=9223372036854775807:=by omega):w64 x=x:=by
 simp_all[w64,IntKind.wrap_i64]<;>grind
def ifn{c:Prop}[Decidable c]{α:Sort _}{x y:α}(h:¬c:=by first|omega|decide|simp):ite c x y=y:=ZfD h
def ifp{c:Prop}[Decidable c]{α:Sort _}{x y:α}(h:c:=by first|omega|decide|simp):ite c x y=x:=ZfC h
theorem Za{α:Type}(l:List α):len l=(l.length:Int):=rfl
theorem get?_nat{α:Type}{l:List α}{i:Nat}:get? l (i:Int)=l[i]?:=by
 rfl
theorem set?_nat{α:Type}{l:List α}{i:Nat}{x:α}(h:i<l.length):set? l (i:Int) x=some (l.set i x):=by
 simp_all[set?,ZfC]
theorem ZG{σt ρt:Type}{B:σt->Option (σt⊕ρt)}{I:Nat->σt->Prop}{m:Nat}{r:ρt}(hs:∀k s,k<m->I k s->∃s',B s=some (.inl s')/\I (k+1) s')(hf:∀s,I m s->B s=some (.inr r)):
  ∀(d k:Nat)(s:σt),k+d=m->I k s->∀n,d<n->iterN B n s=some r
 |0,k,s,hk,hi,n,hn=>by
  obtain⟨n,rfl⟩:∃j,n=j+1:=⟨n-1,by omega⟩;simp_all[iterN]
 |d+1,k,s,hk,hi,n,hn=>by
  obtain⟨n,rfl⟩:∃j,n=j+1:=⟨n-1,by omega⟩;obtain⟨s',h1,h2⟩:=hs k s O hi;unfold iterN;rw[h1];exact ZG hs hf d (k+1) s' O h2 n O
theorem Af{α:Type}[DecidableEq α]{p q:List α}(hl:p.length=q.length)(hb:p.length<=9223372036854775807):∀(d i:Nat),i+d=p.length->∀n,d<n->
  iterN (λ(s1:Int)=>if(decide (s1<(len p)))then(get? p s1).bind λx1=>(get? q s1).bind λx2=>if(x1 !=x2)then some (.inr (.inr false))else some (.inl ((w64 (s1+1))))else some (.inr (.inl ()))) n (i:Int)=some (if p.drop i=q.drop i then(.inl ():Unit⊕Bool)else .inr false)
 |0,i,hi,n,hn=>by
  obtain⟨n,rfl⟩:∃j,n=j+1:=⟨n-1,by omega⟩;simp_all[iterN,ZfD,Za,ZgK]
 | d+1,i,hi,n,hn=>by
  obtain⟨n,rfl⟩:∃j,n=j+1:=⟨n-1,by omega⟩;have hp:i<p.length:=by omega
  have hq:i<q.length:=by omega
  unfold iterN;rw[ZfC ak,get?_nat,get?_nat,ZfA hp,ZfA hq];simp only[Zf9];rw[Zgc hp,Zgc hq];by_cases h:p[i]=q[i]
  ·rw[ZfD (by simp[h])];simp only;rw[Zb O O,show((i:Int)+1)=((i+1:Nat):Int) by omega,Af hl hb d (i+1) O n O];grind
  grind
def KX{α:Type}[DecidableEq α]{p q:List α}(hb:p.length<=9223372036854775807){n:Nat}(hn:p.length<n):
 (if((len p)!=(len q))then some false else(iterN (λ(s1:Int)=>if(decide (s1<(len p)))then(get? p s1).bind λx1=>(get? q s1).bind λx2=>if(x1 !=x2)then some (.inr (.inr false))else some (.inl ((w64 (s1+1))))else some (.inr (.inl ()))) n (0)).bind λ(rl1:(Unit)⊕Bool)=>match rl1 with|.inl _=>some true|.inr v=>some v)=some (decide (p=q)):=by
 by_cases hl:p.length=q.length
 ·rw[ZfD ak,show(0:Int)=((0:Nat):Int)from rfl,Af hl hb p.length 0 O n hn];grind
 ·rw[ZfC aq];have:p≠q:=λh=>hl (by rw[h]);simp[this]
def mk?_len{α β:Type}{l:List α}{z:β}(h:l.length<=room):mk? (len l) z=some (List.replicate l.length z):=by
 simp_all[mk?,Za,ZfC]
end Go.GL
namespace Go.GL
def CP{α:Type}{l:List α}{z:α}(hb:l.length<=9223372036854775807){n:Nat}(hn:l.length<n):
  iterN (λ(s1:Int×(List α))=>if(decide (s1.1<(len l)))then(get? l s1.1).bind λx2=>(set? s1.2 s1.1 x2).bind λx3=>some (.inl ((w64 (s1.1+1)),x3))else some (.inr (s1.2))) n (0,List.replicate l.length z)=some l:=by
 refine ZG (I:=λk s=>s=((k:Int),l.take k++List.replicate (l.length-k) z)) (m:=l.length) (λk s hk hs=>?_) (λs hs=>?_) l.length 0 _ O U n hn
 ·subst hs;refine⟨_,?_,rfl⟩;rw[ZfC ak,get?_nat,ZfA hk];simp only[Zf9];rw[set?_nat aa];simp only[Zf9,Option.some.injEq,Sum.inl.injEq,Prod.mk.injEq];refine⟨by grind[Zb],?_⟩;apply Zgy;grind
 simp_all[ZfD,Za]
def pre{α:Type}(f:Nat->α)(p:List α)(i:Nat):List α:=(List.range i).map f++p.drop i
theorem FM{α:Type}{f:Nat->α}{p:List α}{i:Nat}(h:i<=p.length):(pre f p i).length=p.length:=by grind[pre]
def KS{α:Type}{f:Nat->α}{p:List α}:pre f p 0=p:=by simp[pre]
def FC{α:Type}{f:Nat->α}{p:List α}:pre f p p.length=(List.range p.length).map f:=by simp[pre]
def ZdE{α:Type}{f:Nat->α}{p:List α}{i:Nat}(h:i<p.length):(pre f p i)[i]? =p[i]?:=by
 simp[pre,Zgo,Zg1]
def Fx{α:Type}{f:Nat->α}{p:List α}{i:Nat}(h:i<p.length):(pre f p i).set i (f i)=pre f p (i+1):=by
 apply Zgy;simp_all[pre,Zha,Zh2,ZfI,ZhG,List.length_range,ZfX,Zg1,Zgp,List.getElem?_range',List.getElem?_range]<;>grind
end Go.GL
namespace Go.GL
theorem Uo{σt ρt:Type}{B:σt->Option (σt⊕ρt)}{I:Nat->σt->Prop}{m:Nat}{ok:Nat->Bool}{r r':ρt}(hs:∀k s,k<m->I k s->ok k=true->∃s',B s=some (.inl s')/\I (k+1) s')(hn:∀k s,k<m->I k s->ok k=false->B s=some (.inr r'))
  (hf:∀s,I m s->B s=some (.inr r)):∀(d k:Nat)(s:σt),k+d=m->I k s->∀n,d<n->iterN B n s=some (if(List.range' k d).all ok=true then r else r')
 |0,k,s,hk,hi,n,hn'=>by
  obtain⟨n,rfl⟩:∃j,n=j+1:=⟨n-1,by omega⟩;simp_all[iterN]
 | d+1,k,s,hk,hi,n,hn'=>by
  obtain⟨n,rfl⟩:∃j,n=j+1:=⟨n-1,by omega⟩;unfold iterN;rw[ZhP];cases hok:ok k with
  |true=>
   obtain⟨s',h1,h2⟩:=hs k s O hi hok;rw[h1];simp only;rw[Uo hs hn hf d (k+1) s' O h2 n O,ZhQ,hok,Zgk]
  |false=>
   grind
end Go.GL
end
section
namespace Go.GL
open Go.RowKit
def Con.law{P:Program}{f:FuncId}{args:List Value}{Φ:List RF}{r:Bool}{w:World}{F:Nat->Prop}(hc:Con P f args [] Φ λ(_:Unit)=>([.bool r],[],[]))(hF:AllF Φ w F)(hl:∀k,F k->k<w.heap.size):
  Calls P f args.toArray w λe w'=>∃v,e= .returned v/\v= .bool r/\Chg Non w w':=by
 refine(hc w Non F (Sep.nil _ _) hF (λ_ h=>h.elim) hl (λ_ h=>h.elim)).mono ?_;rintro e w'' ⟨i,S',F',rfl,hM',_,_⟩;exact⟨_,rfl,rfl,hM'.chg⟩
def sj{α:Type}{a b:α}(h:some a=some b):a=b:=Option.some.inj h
def kN{p q:Prop}(h:p):q->p:=λ_=>h
section
variable{P:Program}{B:Bs}{N:Nat}{σ:List (Nat×Value)}{Γ:List HP}{Φ:List RF}{a:Act}{w:World}{K:Act->World->Prop}{Q:Exit->Act->World->Prop}{ops:Array Oper}{j:Nat}
def EA(α:Type)[Rep α](v:Value)(n:Int)(p:Addr)(u:Value):RF where
 ok w F:=(∃ad len cap,v= .slice (some ad) len cap/\p=ad.add (n.toNat*Rep.sz α)/\0<=n/\n<(len:Int))/\∃cs,u=Rep.val α cs/\cs.length=Rep.sz α/\Cells w p cs/\F p.block/\p.block<w.heap.size
 sub h hs:=⟨h.1,h.2.imp λ_ h=>⟨h.1,h.2.1,h.2.2.1,hs _ h.2.2.2.2 h.2.2.2.1,h.2.2.2.2⟩⟩
 chg h hc ht:=⟨h.1,h.2.imp λ_ h=>⟨h.1,h.2.1,h.2.2.1.keep λ_=>hc.block _ h.2.2.2.2 (ht _ h.2.2.2.1),h.2.2.2.1,ZfQ h.2.2.2.2 hc.size⟩⟩
def Cx.elp{α:Type}[Rep α]{v:Value}{l:List α}{n:Int}{x:α}(c:Cx B N σ Γ Φ a w)(hl:Ava [] Φ w (RO v l))(hx:get? l n=some x):∃p u,Cx B N σ Γ (Φ++[EA α v n p u,RO u x]) a w:=by
 obtain⟨hF,S,F,h1,h2,h3⟩:=c;have hr:RV w F v l:=hl.ro h3;obtain⟨b,cap,rfl,g1,g2,g3⟩:=hr.slice;have hn:=get?_nn hx;have hat:=get?_at hx;have hlt:n.toNat<l.length:=(ZfE.1 hat).1;obtain⟨ad,rfl,hFb,hel⟩:=g3 al;obtain⟨cs,hok,hc⟩:=Ui hel hat;have hc:Cells w (ad.add (n.toNat*Rep.sz α)) cs:=by simp_all
 have hne:cs≠[]:=by
  have h4:=Rep.len hok;grind[Rep.pos]
 have hb:(ad.add (n.toNat*Rep.sz α)).block<w.heap.size:=hc.lt hne;exact⟨ad.add (n.toNat*Rep.sz α),Rep.val α cs,hF,S,F,h1,h2,h3.join (AllF.of [EA α _ n _ _,RO _ x] ⟨⟨⟨ad,_,_,rfl,rfl,hn,by omega⟩,cs,rfl,Rep.len hok,hc,by simp_all[add_block],hb⟩,⟨cs,hok,rfl⟩,trivial⟩)⟩
def Cx.rk{σ':List (Nat×Value)}{Γ':List HP}{Φ':List RF}(c:Cx B N σ Γ Φ a w)(gs fs:List Nat)(hg:gs.map (λi=>Γ[i]?)=Γ'.map some:=by kernel_rfl)(hf:fs.map (λi=>Φ[i]?)=Φ'.map some:=by kernel_rfl)
  (hn:gs.Nodup:=by decide)(hσ:σ'.map (λp=>σ.lookup p.1)=σ'.map λp=>some p.2:=by kernel_rfl):Cx B N σ' Γ' Φ' a w:=c.re gs fs hg hf hn hσ
end
abbrev I(x:Int):Value:=.int .i64 x
abbrev L{α:Type}(a:Option Addr)(l:List α)(c:Nat):Value:=.slice a (List.length l) c
abbrev B(b n:Nat):Value:=.pointer (some ⟨b,n,none⟩)
abbrev Oh:=Option Addr×Nat
abbrev Ob(α:Type):=Option Addr×Nat×α
abbrev lR{α:Type}[Rep α](a:Option Addr)(l:List α)(c:Nat):RF:=RO (L a l c) l
abbrev tV(x:D.Term)(a:Option Addr)(c:Nat):Value:=.agg #[I x.Op,I x.W,I x.N,Str.val x.Name,L a x.Kids c]
abbrev tC(x:D.Term)(a:Option Addr)(c:Nat):List Value:=[I x.Op,I x.W,I x.N,Str.val x.Name,L a x.Kids c]
abbrev tR(x:D.Term)(a:Option Addr)(c:Nat):Rw.Term:=Rw.Term.mk x.Op x.W x.N x.Name ⟨a,List.length x.Kids,c⟩
abbrev tZ:List Value:=[I 0,I 0,I 0,Str.val ⟨[]⟩,L none ([]:List D.Term) 0]
abbrev pV(x:D.Path)(a:Option Addr)(c:Nat)(a1:Option Addr)(c1:Nat)(a2:Option Addr)(c2:Nat)(a3:Option Addr)(c3:Nat)(a4:Option Addr)(c4:Nat)(a5:Option Addr)(c5:Nat):Value:=
 .agg #[I x.Pc,L a x.Regs c,L a1 x.Mem c1,L a2 x.Stack c2,I x.In,L a3 x.Out c3,I x.Code,I x.Steps,L a4 x.Cond c4,L a5 x.Turns c5]
abbrev pC(x:D.Path)(a:Option Addr)(c:Nat)(a1:Option Addr)(c1:Nat)(a2:Option Addr)(c2:Nat)(a3:Option Addr)(c3:Nat)(a4:Option Addr)(c4:Nat)(a5:Option Addr)(c5:Nat):List Value:=
 [I x.Pc,L a x.Regs c,L a1 x.Mem c1,L a2 x.Stack c2,I x.In,L a3 x.Out c3,I x.Code,I x.Steps,L a4 x.Cond c4,L a5 x.Turns c5]
abbrev pZ:List Value:=[I 0,L none ([]:List D.Term) 0,L none ([]:List D.Term) 0,L none ([]:List Int) 0,I 0,L none ([]:List D.Term) 0,I 0,I 0,L none ([]:List D.Term) 0,L none ([]:List Int) 0]
abbrev gV(x:D.Program)(a:Option Addr)(c:Nat):Value:=.agg #[I x.W,I x.Mem,I x.In,L a x.Code c]
abbrev gC(x:D.Program)(a:Option Addr)(c:Nat):List Value:=[I x.W,I x.Mem,I x.In,L a x.Code c]
abbrev nV(x:D.Ins):Value:=.agg #[I x.Op,I x.A,I x.B,I x.C]
abbrev nC(x:D.Ins):List Value:=[I x.Op,I x.A,I x.B,I x.C]
abbrev vC(x:D.Value):List Value:=[Str.val x.Name,I x.W,I x.N]
abbrev Hp:=Ob (Ob (Ob (Ob (Ob Oh))))
abbrev pJ(x:D.Path)(i:Hp):Value:=pV x i.1 i.2.1 i.2.2.1 i.2.2.2.1 i.2.2.2.2.1 i.2.2.2.2.2.1 i.2.2.2.2.2.2.1 i.2.2.2.2.2.2.2.1 i.2.2.2.2.2.2.2.2.1 i.2.2.2.2.2.2.2.2.2.1 i.2.2.2.2.2.2.2.2.2.2.1 i.2.2.2.2.2.2.2.2.2.2.2
abbrev pM(x:D.Path)(i:Hp):List Value:=pC x i.1 i.2.1 i.2.2.1 i.2.2.2.1 i.2.2.2.2.1 i.2.2.2.2.2.1 i.2.2.2.2.2.2.1 i.2.2.2.2.2.2.2.1 i.2.2.2.2.2.2.2.2.1 i.2.2.2.2.2.2.2.2.2.1 i.2.2.2.2.2.2.2.2.2.2.1 i.2.2.2.2.2.2.2.2.2.2.2
abbrev pF(x:D.Path)(i:Hp):List RF:=[lR i.1 x.Regs i.2.1,lR i.2.2.1 x.Mem i.2.2.2.1,lR i.2.2.2.2.1 x.Stack i.2.2.2.2.2.1,lR i.2.2.2.2.2.2.1 x.Out i.2.2.2.2.2.2.2.1,lR i.2.2.2.2.2.2.2.2.1 x.Cond i.2.2.2.2.2.2.2.2.2.1,lR i.2.2.2.2.2.2.2.2.2.2.1 x.Turns i.2.2.2.2.2.2.2.2.2.2.2]
abbrev _root_.Prod.p2{a b c d:Type}(X:a×b×c×d):=X.2.2.1
abbrev _root_.Prod.q2{a b c:Type}(X:a×b×c):=X.2.2
abbrev _root_.Prod.p3{a b c d e:Type}(X:a×b×c×d×e):=X.2.2.2.1
abbrev _root_.Prod.q3{a b c d:Type}(X:a×b×c×d):=X.2.2.2
abbrev _root_.Prod.p4{a b c d e f:Type}(X:a×b×c×d×e×f):=X.2.2.2.2.1
abbrev _root_.Prod.q4{a b c d e:Type}(X:a×b×c×d×e):=X.2.2.2.2
abbrev _root_.Prod.p5{a b c d e f g:Type}(X:a×b×c×d×e×f×g):=X.2.2.2.2.2.1
abbrev _root_.Prod.q5{a b c d e f:Type}(X:a×b×c×d×e×f):=X.2.2.2.2.2
abbrev _root_.Prod.p6{a b c d e f g h:Type}(X:a×b×c×d×e×f×g×h):=X.2.2.2.2.2.2.1
abbrev _root_.Prod.q6{a b c d e f g:Type}(X:a×b×c×d×e×f×g):=X.2.2.2.2.2.2
abbrev _root_.Prod.p7{a b c d e f g h i:Type}(X:a×b×c×d×e×f×g×h×i):=X.2.2.2.2.2.2.2.1
abbrev _root_.Prod.q7{a b c d e f g h:Type}(X:a×b×c×d×e×f×g×h):=X.2.2.2.2.2.2.2
abbrev _root_.Prod.p8{a b c d e f g h i j:Type}(X:a×b×c×d×e×f×g×h×i×j):=X.2.2.2.2.2.2.2.2.1
abbrev _root_.Prod.p9{a b c d e f g h i j k:Type}(X:a×b×c×d×e×f×g×h×i×j×k):=X.2.2.2.2.2.2.2.2.2.1
abbrev _root_.Prod.p10{a b c d e f g h i j k l:Type}(X:a×b×c×d×e×f×g×h×i×j×k×l):=X.2.2.2.2.2.2.2.2.2.2.1
abbrev _root_.Prod.p11{a b c d e f g h i j k l m:Type}(X:a×b×c×d×e×f×g×h×i×j×k×l×m):=X.2.2.2.2.2.2.2.2.2.2.2.1
abbrev _root_.Prod.q11{a b c d e f g h i j k l:Type}(X:a×b×c×d×e×f×g×h×i×j×k×l):=X.2.2.2.2.2.2.2.2.2.2.2
abbrev _root_.Prod.p12{a b c d e f g h i j k l m n:Type}(X:a×b×c×d×e×f×g×h×i×j×k×l×m×n):=X.2.2.2.2.2.2.2.2.2.2.2.2.1
abbrev _root_.Prod.p13{a b c d e f g h i j k l m n o:Type}(X:a×b×c×d×e×f×g×h×i×j×k×l×m×n×o):=X.2.2.2.2.2.2.2.2.2.2.2.2.2.1
abbrev _root_.Prod.p14{a b c d e f g h i j k l m n o p:Type}(X:a×b×c×d×e×f×g×h×i×j×k×l×m×n×o×p):=X.2.2.2.2.2.2.2.2.2.2.2.2.2.2.1
abbrev _root_.Prod.q15{a b c d e f g h i j k l m n o p:Type}(X:a×b×c×d×e×f×g×h×i×j×k×l×m×n×o×p):=X.2.2.2.2.2.2.2.2.2.2.2.2.2.2.2
abbrev t0(x:D.Term):D.Term:=D.Term.mk x.Op x.W x.N x.Name ([]:List D.Term)
abbrev hd{α:Type}(a:Option Addr)(l:List α)(c:Nat):Hd:=⟨a,List.length l,c⟩
abbrev Z:Hd:=⟨none,List.length ([]:List D.Term),0⟩
abbrev L0:Value:=L none ([]:List D.Term) 0
abbrev u0(x:D.Term):Rw.Term:=Rw.Term.mk x.Op x.W x.N x.Name Z
def tt:True:=trivial
def l1{α:Type}(x y:α)(l:List α):(x::l).set 0 y=y::l:=rfl
def l2{α:Type}(x y:α)(l:List α)(n:Nat):(x::l).set (n+1) y=x::l.set n y:=rfl
def l3{α:Type}(x:α)(l m:List α):(x::l)++m=x::(l++m):=rfl
def l4{α:Type}(l:List α):[]++l=l:=rfl
def l5{α:Type}(l m n:List α):(l++m)++n=l++(m++n):=ZfO l m n
def l6{α:Type}(l:List α):l++[]=l:=Zgb l
theorem l7(Γ:List HP):rest [] Γ=Γ:=by
 unfold rest;generalize 0=j
 induction Γ generalizing j with
 |nil=>rfl
 |cons x l ih=>show x::restG [] (j+1) l=_;rw[ih]
theorem UC(gs:List Nat):∀(l:List HP)(j:Nat),restG (gs.map (· +1)) (j+1) l=restG gs j l
 |[],_=>rfl
 | x::l,j=>by
  have e:memN (gs.map (· +1)) (j+1)=memN gs j:=by
   simp[KH,Zgu,List.contains_cons]
  unfold restG;rw[e,UC gs l (j+1)]
theorem r0(x:HP)(l:List HP):rest [0] (x::l)=l:=by
 have h:∀(l:List HP)(j:Nat),restG [0] (j+1) l=l:=by
  intro l
  induction l with
  |nil=>intro _;rfl
  |cons y l ih=>intro j;show y::restG [0] (j+1+1) l=_;rw[ih]
 exact h l 0
def r1(x:HP)(l:List HP)(n:Nat):rest [n+1] (x::l)=x::rest [n] l:=congrArg (x:: ·) (UC [n] l 0)
def r2(x:HP)(l:List HP)(n m:Nat):rest [n+1,m+1] (x::l)=x::rest [n,m] l:=congrArg (x:: ·) (UC [n,m] l 0)
theorem r3(x:HP)(l:List HP)(m:Nat):rest [0,m+1] (x::l)=rest [m] l:=by
 have h:∀(l:List HP)(j:Nat),restG [0,m+1] (j+1) l=restG [m+1] (j+1) l:=by
  intro l
  induction l with
  |nil=>intro _;rfl
  |cons y l ih=>intro j;show cond (memN [m+1] (j+1)) _ _=cond (memN [m+1] (j+1)) _ _;simp_all
 exact(h l 0).trans (UC [m] l 0)
theorem KE(gs:List Nat)(l:List HP)(j:Nat):restG (0::gs.map (· +1)) (j+1) l=restG gs j l:=by
 have h:∀(l:List HP)(j:Nat),restG (0::gs.map (· +1)) (j+1) l=restG (gs.map (· +1)) (j+1) l:=by
  intro l
  induction l with
  |nil=>intro _;rfl
  |cons y l ih=>intro j;show cond (memN (gs.map (· +1)) (j+1)) _ _=cond (memN (gs.map (· +1)) (j+1)) _ _;simp_all
 simp_all[trans,UC]
def r4(x:HP)(l:List HP)(a b c:Nat):rest [a+1,b+1,c+1] (x::l)=x::rest [a,b,c] l:=congrArg (x:: ·) (UC [a,b,c] l 0)
def r5(x:HP)(l:List HP)(b c:Nat):rest [0,b+1,c+1] (x::l)=rest [b,c] l:=KE [b,c] l 0
def r6(x:HP)(l:List HP)(a b c d:Nat):rest [a+1,b+1,c+1,d+1] (x::l)=x::rest [a,b,c,d] l:=congrArg (x:: ·) (UC [a,b,c,d] l 0)
def r7(x:HP)(l:List HP)(b c d:Nat):rest [0,b+1,c+1,d+1] (x::l)=rest [b,c,d] l:=KE [b,c,d] l 0
def r8(x:HP)(l:List HP)(a b c d e:Nat):rest [a+1,b+1,c+1,d+1,e+1] (x::l)=x::rest [a,b,c,d,e] l:=congrArg (x:: ·) (UC [a,b,c,d,e] l 0)
def r9(x:HP)(l:List HP)(b c d e:Nat):rest [0,b+1,c+1,d+1,e+1] (x::l)=rest [b,c,d,e] l:=KE [b,c,d,e] l 0
def rA(x:HP)(l:List HP)(a b c d e f:Nat):rest [a+1,b+1,c+1,d+1,e+1,f+1] (x::l)=x::rest [a,b,c,d,e,f] l:=congrArg (x:: ·) (UC [a,b,c,d,e,f] l 0)
def rB(x:HP)(l:List HP)(b c d e f:Nat):rest [0,b+1,c+1,d+1,e+1,f+1] (x::l)=rest [b,c,d,e,f] l:=KE [b,c,d,e,f] l 0
section
variable{P:Program}{B:Bs}{N:Nat}{σ:List (Nat×Value)}{Γ:List HP}{Φ Φ1:List RF}{a:Act}{w:World}{Q:Exit->Act->World->Prop}{ι:Type}{R:ι->Res}{args:List Value}{f:FuncId}
variable{ops:Array Oper}{k d:Nat}{ty:TypeId}{xs:Array Operand}{ts:Array TypeId}{pos:String}{af:Array Edge}
def Cb(c:Cx B N σ Γ Φ a w)(hcon:Con P f args [] Φ1 R)(ro:AvaL Γ Φ w Φ1)(hf:∀(args:Array Value)(w:World),(callFunc f args).run P w= .ok (.enter f args) w)
  (h:∀i fr w',Cx B N ((d,tup (R i).1)::σ) (Γ++(R i).2.1) Φ fr w'->wpFrom P ops Q (k+1) fr w')
  (ho:ops[k]? =some ⟨some d,.call ⟨.value (.func f),xs,ts⟩,ty,pos,af,none⟩:=by rfl)(hd:Nat.blt d N=true:=by rfl)
  (hargs:xs.toList.map (opd σ)=args.map some:=by kernel_rfl):wpFrom P ops Q k a w:=
 Ca [] c hcon (by simp_all[l7]) hf (λi fr w' c=>h i fr w' (by simp_all[l7])) ho hd rfl Zia hargs
def Cg(c:Cx B N σ Γ Φ a w)(hcon:Con P f args [] Φ1 R)(ro:AvaL [] Φ w Φ1)(hf:∀(args:Array Value)(w:World),(callFunc f args).run P w= .ok (.enter f args) w)
  (h:∀i fr w',Cx B N ((d,tup (R i).1)::σ) (Γ++(R i).2.1) (Φ++(R i).2.2) fr w'->wpFrom P ops Q (k+1) fr w')
  (ho:ops[k]? =some ⟨some d,.call ⟨.value (.func f),xs,ts⟩,ty,pos,af,none⟩:=by rfl)(hd:Nat.blt d N=true:=by rfl)
  (hargs:xs.toList.map (opd σ)=args.map some:=by kernel_rfl):wpFrom P ops Q k a w:=
 Cf [] c hcon ro hf (λi fr w' c=>h i fr w' (by simp_all[l7])) ho hd rfl Zia hargs
end
section
variable{P:Program}{B:Bs}{N:Nat}{σ:List (Nat×Value)}{Γ Γ':List HP}{Φ Φ':List RF}{a:Act}{w:World}
def Cx.nf(c:Cx B N σ Γ Φ a w)(h:Γ=Γ':=by first|(simp only[id_eq,Zgu,List.map_nil,l1,l2,l3,l4,l5,l6,l7,r0,r1,r2,r3,r4,r5,r6,r7,r8,r9,rA,rB];rfl)|rfl):Cx B N σ Γ' Φ a w:=h▸c
def Cx.ng(c:Cx B N σ Γ Φ a w)(h:Γ=Γ':=by first|(simp only[id_eq,Zgu,List.map_nil,l1,l2,l3,l4,l5,l6,l7,r0,r1,r2,r3,r4,r5,r6,r7,r8,r9,rA,rB];rfl)|rfl)(h':Φ=Φ':=by first|(simp only[l3,l4,l5,l6];rfl)|rfl):Cx B N σ Γ' Φ' a w:=h▸h'▸c
end
def sk{α:Type}{a b:α}(h:some a=some b):b=a:=(Option.some.inj h).symm
def OD{R α:Type}[Flat R](own:R->α->HP)(E:TypeId)(v:Value)(xs:List α):HP:=.ex λrs:List R=>.two (SL E v rs) (.all own rs xs)
section
variable{R α:Type}[Flat R]{own own':R->α->HP}{E:TypeId}{v:Value}{rs:List R}{xs:List α}{w:World}{A:Nat->Prop}
def OD.len(h:(OD own E v xs).ok w A):∃a c,v= .slice a xs.length c:=by
 obtain⟨rs,h⟩:=h;grind[ZbJ]
def OD.rv[Rep α](ho:Owns own)(h:(OD own E v xs).ok w A):RV w A v xs:=by
 obtain⟨rs,h⟩:=h;grind[Ea]
def OD.nil(own:R->α->HP)(E:TypeId)(w:World):(OD own E (.slice none 0 0) []).ok w Non:=⟨[],QY (.inr ⟨rfl,none,rfl⟩) trivial⟩
omit [Flat R]in
theorem FI(hi:∀r x A,(own r x).ok w A->(own' r x).ok w A):∀{rs:List R}{xs:List α}{A:Nat->Prop},(HP.all own rs xs).ok w A->(HP.all own' rs xs).ok w A
 |[],[],_,h=>h
 |[],_::_,_,h=>h.elim
 |_::_,[],_,h=>h.elim
 |_::_,_::_,_,h=>QW (λ_ h=>hi _ _ _ h) (λ_ h=>FI hi h) h
def OD.imp(hi:∀r x A,(own r x).ok w A->(own' r x).ok w A)(h:(OD own E v xs).ok w A):(OD own' E v xs).ok w A:=by
 obtain⟨rs,h⟩:=h;exact⟨rs,QW (λ_ h=>h) (λ_ h=>FI hi h) h⟩
end
def ownTn(E:TypeId):Nat->Rw.Term->D.Term->HP
 |0,_,_=>.pure False
 |n+1,r,t=>.two (.pure (r.Op=t.Op/\r.W=t.W/\r.N=t.N/\r.Name=t.Name)) (OD (ownTn E n) E r.Kids.v t.Kids)
def ownT(E:TypeId)(r:Rw.Term)(t:D.Term):HP:=.ex λn=>ownTn E n r t
section
variable{E:TypeId}{r:Rw.Term}{t:D.Term}{w:World}{A:Nat->Prop}
theorem Dj{w:World}:∀(n:Nat)(r:Rw.Term)(t:D.Term)(A:Nat->Prop),(ownTn E n r t).ok w A->(ownTn E (n+1) r t).ok w A
 |0,_,_,_,h=>h.elim
 |n+1,_,_,_,h=>QW (λ_ h=>h) (λ_ h=>OD.imp (Dj n) h) h
theorem Ez{w:World}{m n:Nat}(h:n<=m){r:Rw.Term}{t:D.Term}{A:Nat->Prop}(ht:(ownTn E n r t).ok w A):(ownTn E m r t).ok w A:=by
 induction h with
 |refl=>exact ht
 |step _ ih=>simp_all[Dj]
theorem ZbF{w:World}:∀{rs:List Rw.Term}{xs:List D.Term}{A:Nat->Prop},(HP.all (ownT E) rs xs).ok w A->∃n,(HP.all (ownTn E n) rs xs).ok w A
 |[],[],_,h=>⟨0,h⟩
 |[],_::_,_,h=>h.elim
 |_::_,[],_,h=>h.elim
 |r::rs,x::xs,A,⟨B,C,⟨n,h1⟩,h2,h3,h4⟩=>by
  obtain⟨m,h2⟩:=ZbF h2;exact⟨max n m,B,C,Ez (Nat.le_max_left _ _) h1,FI (λ_ _ _ h=>Ez (Nat.le_max_right _ _) h) h2,h3,h4⟩
theorem Er:(ownT E r t).ok w A↔(r.Op=t.Op/\r.W=t.W/\r.N=t.N/\r.Name=t.Name)/\(OD (ownT E) E r.Kids.v t.Kids).ok w A:=by
 constructor
 ·rintro⟨n,h⟩;cases n with
  |zero=>exact h.elim
  |succ n=>
   have h1:=Tv h;have h2:=SE h;exact⟨h2,OD.imp (λ_ _ _ h=>⟨n,h⟩) h1⟩
 ·rintro⟨h1,rs,h2⟩;obtain⟨B,C,a,b,c,d⟩:=h2;obtain⟨n,b⟩:=ZbF b;exact⟨n+1,FZ ⟨rs,B,C,a,b,c,d⟩ h1⟩
theorem Et{w:World}:∀(n:Nat)(A:Nat->Prop)(r:Rw.Term)(t:D.Term),(ownTn E n r t).ok w A->Rep.ok w A (Flat.enc r) t
 |0,_,_,_,h=>h.elim
 | n +1,A,r,t,h=>by
  obtain⟨e1,e2,e3,e4⟩:=(SE h:(HP.pure _).ok w A);have h2:RV w A r.Kids.v t.Kids:=by
   obtain⟨rs,h⟩:=Tv h;obtain⟨B,C,h1,h2,h3,h4⟩:=h;have hl:=UX h2
   have hcss:∀k:Nat->Prop,Css w C (rs.map Flat.enc) t.Kids:=λ_=>⟨by simp[hl],λi cs x hcs hx=>by
    rw[Zgp]at hcs;cases hr:rs[i]? with
    |none=>simp_all
    |some q=>
     rw[hr]at hcs;obtain rfl:=Option.some.inj hcs
     exact Et n C q x (Tz h2 hr hx)⟩
   have h1':RV w A r.Kids.v rs:=RV.sub (SL.rv h1) λk _ hk=>h4 k (.inl hk);have hc':Css w A (rs.map Flat.enc) t.Kids:=⟨(hcss A).1,λi cs x hi hx=>Rep.keep ((hcss A).2 i cs x hi hx) λk _ hk=>⟨rfl,h4 k (.inr hk)⟩⟩;exact Ji h1' hc'
  have:=RV.mk_Term t h2;refine Bu (ρ:=Rw.Term) (α:=D.Term) (q:=r) ?_;show RV w A (.agg #[.int .i64 r.Op,.int .i64 r.W,.int .i64 r.N,Str.val r.Name,r.Kids.v]) t;simp_all
def FY(E:TypeId):Owns (ownT E):=⟨rfl,rfl,λw A r x⟨n,h⟩=>Et n A r x h⟩
def Am{x:D.Term}{a:Option Addr}{cp:Nat}(h:(OD (ownT E) E (.slice a x.Kids.length cp) x.Kids).ok w A):(ownT E ⟨x.Op,x.W,x.N,x.Name,⟨a,x.Kids.length,cp⟩⟩ x).ok w A:=Er.2 ⟨⟨rfl,rfl,rfl,rfl⟩,h⟩
def Gh(E:TypeId)(w:World):(ownT E ⟨0,0,0,⟨[]⟩,⟨none,0,0⟩⟩ ⟨0,0,0,⟨[]⟩,[]⟩).ok w Non:=Er.2 ⟨⟨rfl,rfl,rfl,rfl⟩,OD.nil _ _ _⟩
end
section
variable{P:Program}{B:Bs}{N:Nat}{σ:List (Nat×Value)}{Γ:List HP}{Φ:List RF}{a:Act}{w:World}{Q:Exit->Act->World->Prop}
variable{H:Prop}{β0:Type}{z0:β0}
  {R α:Type}[Flat R]{own:R->α->HP}{E:TypeId}{v:Value}{rs:List R}{xs:List α}
def Ava.go[Rep α](ho:Owns own)(i:Nat)(hi:Γ[i]? =some (OD own E v xs):=by rfl):Ava Γ Φ w (RO v xs):=λS F hs hf=>by
 obtain⟨A,h1,h2⟩:=hs.get i hi;exact RV.sub (OD.rv ho h1) λk _ hk=>.inr (h2 k hk)
def Cx.releno{b:Option Addr}{n cp:Nat}(i:Nat)(c:Cx B N σ Γ Φ a w)(hi:Γ[i]? =some (OD own E (.slice b n cp) xs):=by rfl):n=xs.length/\Cx B N σ (Γ.set i (OD own E (.slice b xs.length cp) xs)) Φ a w:=by
 obtain⟨_,S,F,_,hs,_⟩:=id c;obtain⟨A,h1,_⟩:=hs.get i hi;obtain⟨a',c',he⟩:=OD.len h1;have he:n=xs.length:=by simp_all
 subst he;exact⟨rfl,c.swap i (λ_ h=>h) hi⟩
def Cx.fzo[Rep α](ho:Owns own)(i:Nat)(c:Cx B N σ Γ Φ a w)(hi:Γ[i]? =some (OD own E v xs):=by rfl):Cx B N σ (rest [i] Γ) (Φ++[RO v xs]) a w:=by
 obtain⟨h,S,F,h1,h2,h3⟩:=c;have hp:=h2.part [i] (Γ1:=[OD own E v xs]) aH U;obtain⟨S',F',hM,hs,hr,hfz⟩:=Sep.freeze (L:=rest [i] Γ) hp h1;exact⟨h,S',F',hM,hs,(h3.sub λk _ hk=>hfz k hk).add (OD.rv ho hr)⟩
def Cx.nilo(own:R->α->HP)(E:TypeId)(c:Cx B N σ Γ Φ a w):Cx B N σ (Γ++[OD own E (.slice none 0 0) []]) Φ a w:=c.gam λS h=>Zn (Γ2:=[_]) (h.emp _ (OD.nil own E w))
def Cx.odo(i:Nat)(c:Cx B N σ Γ Φ a w)(hi:Γ[i]? =some (OD own E v xs):=by rfl):∃rs:List R,Cx B N σ (rest [i] Γ++[SL E v rs,HP.all own rs xs]) Φ a w:=by
 obtain⟨h,S,F,h1,h2,h3⟩:=c;obtain⟨rs,hp⟩:=Sep.open (L:=rest [i] Γ) (h2.part [i] (Γ1:=[OD own E v xs]) aH U);exact⟨rs,h,S,F,h1,Zn (Γ2:=[_,_]) hp.two,h3⟩
def Cx.odc(i j:Nat)(c:Cx B N σ Γ Φ a w)(hi:Γ[i]? =some (SL E v rs):=by rfl)(hj:Γ[j]? =some (HP.all own rs xs):=by rfl)(hne:[i,j].Nodup:=by decide):Cx B N σ (rest [i,j] Γ++[OD own E v xs]) Φ a w:=c.gam λS h=>
 Zn (Γ2:=[_]) (Sep.shut rs (h.part [i,j] (Γ1:=[SL E v rs,HP.all own rs xs]) aR hne).join2)
def Cx.pack{H:HP}(L:List HP)(gs:List Nat)(c:Cx B N σ Γ Φ a w)(hi:∀A,Sep L w A->H.ok w A)(hL:gs.map (λi=>Γ[i]?)=L.map some:=by rfl)(hn:gs.Nodup:=by decide):Cx B N σ (rest gs Γ++[H]) Φ a w:=c.gam λS h=>by
 obtain⟨A,R,h1,h2,h3,h4,h5⟩:=Sep.split (L1:=L) (h.part gs hL hn);grind[Zn,Sep.mk_cons]
end
section
variable{P:Program}{B:Bs}{N:Nat}{σ:List (Nat×Value)}{Γ:List HP}{Φ:List RF}{a:Act}{w:World}{Q:Exit->Act->World->Prop}
variable{H:Prop}{β0:Type}{z0:β0}
  {R α:Type}[Flat R]{own:R->α->HP}{ops:Array Oper}{k d d2:Nat}{t t' ty ty':TypeId}{pos pos':String}{af af':Array Edge}{x y z:Operand}{E:TypeId}{v u:Value}{rs:List R}{xs r:List α}
def Emkd{n:Int}{zx:α}{f0:List α->Option β0}(E:TypeId)(zr:R)(hz0:∀w,(own zr zx).ok w Non)(ho:ops[k]? =some ⟨some d,.makeSlice t x y,ty,pos,af,none⟩:=by rfl)(hd:Nat.blt d N=true:=by rfl)(he:ElT P E R:=by refine elT ?_;kernel_rfl)(ht:P.underlying t=some (.slice E):=by kernel_rfl)(hz:(P.info? E).map (λi=>i.zero.map λz=>z.cells.toList)=some (some (Flat.enc zr)):=by kernel_rfl)(hx:opd σ x=some (.int .i64 n):=by kernel_rfl)(hy:opd σ y=some (.int .i64 n):=by kernel_rfl)(Z:∀r a' c',Gl B N (f0 r=some z0) ((d,.slice a' r.length c')::σ) (Γ++[SL E (.slice a' r.length c') (List.replicate r.length zr),HP.all own (List.replicate r.length zr) r]) Φ (wpFrom P ops Q (k+1))):Gl B N ((mk? n zx).bind f0=some z0) σ Γ Φ (wpFrom P ops Q k):=by
 intro e9 a w c;obtain⟨r,hr,e9⟩:=bindE e9;have h:=λa' c'=>gap (Z r a' c') e9;obtain⟨h1,h2⟩:=mk?_raw (z':=zr) hr;refine Emk (f0:=some) E (Z:=λr' a' c' e'{fr w'}c=>?_) ho hd he ht hz hx hy (bds h1) c;obtain rfl:=Option.some.inj e';simp only[Zg0]at c;have c:=c.gam (Γ':=Γ++[SL E (.slice a' r.length c') (List.replicate r.length zr),HP.all own (List.replicate r.length zr) r]) λS hs=>by
  have h3:(HP.all own (List.replicate r.length zr) r).ok w' Non:=by
   grind[Zbk]
  have:=Zn (Γ:=Γ++[SL E (.slice a' r.length c') (List.replicate r.length zr)]) (Γ2:=[_]) (hs.emp _ h3);grind
 grind
def Esetd{n:Int}{q:R}{e:α}{f0:List α->Option β0}(i j m:Nat)(hi:Γ[i]? =some (SL E v rs):=by rfl)(hj:Γ[j]? =some (HP.all own rs xs):=by rfl)(hm:Γ[m]? =some (own q e):=by rfl)(hne:[i,j,m].Nodup:=by decide)(ho:ops[k]? =some ⟨some d,.indexAddr t x y,ty,pos,af,none⟩:=by rfl)(ho':ops[k+1]? =some ⟨none,.store t' (.tmp d) z,ty',pos',af',none⟩:=by rfl)(hte:t'=E:=by rfl)(hd:Nat.blt d N=true:=by rfl)(hz:z≠ .tmp d:=by simp)(he:Ty P E R:=by constructor<;>kernel_rfl)(ht:P.underlying t=some (.slice E):=by kernel_rfl)(hx:opd σ x=some v:=by kernel_rfl)(hy:numOf (opd σ y)=some n:=by kernel_rfl)(hq:opd σ z=some (Rep.val R (Flat.enc q)):=by kernel_rfl)(Z:∀r p,Gl B N (f0 r=some z0) ((d,p)::σ) (rest [j,m] (Γ.set i (SL E v (rs.set n.toNat q)))++[HP.all own (rs.set n.toNat q) r]) Φ (wpFrom P ops Q (k+2))):Gl B N ((set? xs n e).bind f0=some z0) σ Γ Φ (wpFrom P ops Q k):=by
 intro e9 a w c;obtain⟨r,hr,e9⟩:=bindE e9;have h:=λp=>gap (Z r p) e9;have hl:rs.length=xs.length:=by
  obtain⟨_,S,F,_,hs,_⟩:=id c;exact hs.dlen j hj
 obtain⟨h1,h2,h3⟩:=set?_raw (l':=rs) q hr hl;refine Eset (f0:=some) i (Z:=λr' p e'{fr w'}c=>?_) hi ho ho' hte hd hz he ht hx hy hq (bds h1) c;obtain rfl:=Option.some.inj e';refine h p fr w' (c.gam λS hs=>?_);simp only[ZhH,ZfY,Zh7,or_false,not_or,not_false_eq_true,Zia,Zh6]at hne;have hp:=hs.part [j,m] (Γ1:=[HP.all own rs xs,own q e]) ah (by simp[hne.2]);grind[Zn,Sep.merge,Zec,Qw]
end
end Go.GL
end
section
namespace Go.GL
open Go.RowKit
def Sep.sole{X:HP}{w:World}{S:Nat->Prop}(h:Sep [X] w S):X.ok w S:=by
 obtain⟨A,B,h1,_,_,h2,_⟩:=h.cons_ok;exact X.big h1 h2
section
variable{P:Program}{B:Bs}{N:Nat}{σ:List (Nat×Value)}{Γ L:List HP}{Φ:List RF}{a:Act}{w:World}{S:Nat->Prop}{Q:Exit->Act->World->Prop}
variable{H:Prop}{β0:Type}{z0:β0}
  {R α:Type}[Flat R]{own:R->α->HP}{E:TypeId}{v:Value}{n:Int}{r:R}{x y:α}{xs ys:List α}
end
section
variable{P:Program}{B:Bs}{N:Nat}{σ:List (Nat×Value)}{Γ:List HP}{Φ:List RF}{a:Act}{w:World}{Q:Exit->Act->World->Prop}{E:TypeId}{v:Value}{n:Int}
variable{H:Prop}{β0:Type}{z0:β0}
def ZbS{q:D.Term}{w:World}{F:Nat->Prop}{cs:List Value}(h:Rep.ok w F cs q):∃u,cs[4]? =some u/\(RO u q.Kids).ok w F:=by
 obtain⟨v4,e,h4⟩:=RV.Term ⟨cs,h,rfl⟩;have e:=congrArg Array.toList (Value.agg.inj (show Value.agg cs.toArray=_ from e));subst e;exact⟨_,rfl,h4⟩
end
section
variable{P:Program}{B:Bs}{N:Nat}{σ:List (Nat×Value)}{Γ:List HP}{Φ:List RF}{a:Act}{w:World}{Q:Exit->Act->World->Prop}
variable{H:Prop}{β0:Type}{z0:β0}
  {R α:Type}[Flat R]{own:R->α->HP}{ops:Array Oper}{k d d2 d3:Nat}{t t' s' ty ty' ty2:TypeId}{pos pos' pos2:String}{af af' af2:Array Edge}{x y z:Operand}{E:TypeId}{v:Value}{xs:List α}{r:R}{fl off:Nat}{n:Int}
theorem Eemf{α β:Type}[Rep α][Rep β]{l:List α}{q:α}{z:β}(hl:∀{w},Ava [] Φ w (RO v l))(hz:get? l n=some q)(hu:∀{w:World}{F:Nat->Prop}{cs:List Value},Rep.ok w F cs q->∃u,cs[off]? =some u/\(RO u z).ok w F)(ho:ops[k]? =some ⟨some d,.indexAddr t x y,ty,pos,af,none⟩:=by rfl)(ho2:ops[k+1]? =some ⟨some d2,.fieldAddr s' (.tmp d) fl,ty2,pos2,af2,none⟩:=by rfl)(ho':ops[k+2]? =some ⟨some d3,.load t' (.tmp d2),ty',pos',af',none⟩:=by rfl)(hd:Nat.blt d N=true:=by rfl)(hd2:Nat.blt d2 N=true:=by rfl)(hd3:Nat.blt d3 N=true:=by rfl)(he:Ty P s' α:=by constructor<;>kernel_rfl)(ht:P.underlying t=some (.slice s'):=by kernel_rfl)(hT:Ty P t' Int:=by constructor<;>kernel_rfl)(hoff:fieldOff P s' fl=some off:=by kernel_rfl)(hx:opd σ x=some v:=by kernel_rfl)(hy:numOf (opd σ y)=some n:=by kernel_rfl)(Z:∀p p2 u,Gl B N H ((d3,u)::(d2,p2)::(d,p)::σ) Γ (Φ++[RO u z]) (wpFrom P ops Q (k+3))):Gl B N H σ Γ Φ (wpFrom P ops Q k):=by
 intro e9 a w c;have h:=λp p2 u fr=>gap (Z p p2 u) e9 fr w;obtain⟨hF,S,F,hM,hs,hf⟩:=c;obtain⟨kd,hy⟩:=Y7 hy;have hl':=hl Non F (Sep.nil w Non) hf;refine Zp hF ho rfl rfl (ZfW.mp hd) (Nt rfl ht he (Zd hF hx) hl' (Zd hF hy) (get?_nn hz) (get?_at hz)) λp w1 fr1 hpw hF1=>?_;obtain⟨⟨ad,cs,rfl,hFb,hok,hc⟩,rfl⟩:=hpw;obtain⟨u,hcs,hru⟩:=hu hok;have hp1:=hF1.get d (.pointer (some ad)) U
 refine Zp hF1 ho2 rfl rfl (ZfW.mp hd2) (R:=λp w2=>p= .pointer (some (ad.add off))/\w1=w2) (Zh (MN (P:=P) (ρ:=λy=>match y with|.tmp s=>if s=d then some (.pointer (some ad))else none|_=>none) (λy z hy=>by
  grind) aW w1) ⟨rfl,rfl⟩) λp2 w2 fr2 hp2 hF2=>?_
 obtain⟨rfl,rfl⟩:=hp2;have hc1:Cells w1 (ad.add off) [u]:=λj q' hq=>by
  cases j with
  |zero=>
   simp only[Zgz,Option.some.injEq]at hq;subst hq;exact hc off u hcs
  |succ j=>simp at hq
 refine Zp hF2 ho' rfl rfl (ZfW.mp hd3) (R:=λz w3=>z=u/\w1=w3) (Zh (v:=u) (w':=w1) ?_ ⟨rfl,rfl⟩) λz w3 fr3 hz3 hF3=>?_
 ·have hd1:=hF2.get d2 (.pointer (some (ad.add off))) U;have:=YO hT (cs:=[u]) rfl hc1;have hv:Rep.val Int [u]=u:=rfl;simp_all[execOp,Instr.loadAt,Instr.sureAddr]
 ·obtain⟨rfl,rfl⟩:=hz3;exact h _ _ _ fr3 ⟨hF3,S,F,hM,hs,hf.add (RF.sub _ hru λ_ _ h=>h.elim id λh=>h.elim)⟩
end
end Go.GL
end
section
end
section
namespace Go.GL
open Go.RowKit
def waits(ops:Array Oper)(i:Nat):List Nat:=((ops[i]?).map λo=>(o.after.toList.filter λe=>Region.binds .any e).map (·.on)).getD []
def mem_ready{ops:Array Oper}{L:Array Bool}{i:Nat}:i∈Region.ready .any ops L↔i<ops.size/\L.getD i true=false/\∀e∈waits ops i,L.getD e false=true:=by
 unfold Region.ready;rw[Zgv,Zh5];refine and_congr_right λhi=>?_;have ho:ops[i]? =some ops[i]:=Zgt hi;unfold waits;rw[ho];simp only[Zgh,Zg8,ZfF,Zhi];rw[<-Array.all_toList,ZfV];grind
theorem CB{P:Program}{ops:Array Oper}{Q:Exit->Act->World->Prop}{i:Nat}{o:Oper}{K:Act->World->Prop}{a:Act}{w:World}(ho:ops[i]? =some o)(h:wpOp P ops Q i K a w):
  wpOp P ops Q i (λa' w'=>K a' w'/\∀t,o.dst≠some t->a'.eval (.tmp t)=a.eval (.tmp t)) a w:=by
 have hput:∀(b:Act)v t,o.dst≠some t->(b.tmps=a.tmps)->(b.put o.dst v).eval (.tmp t)=a.eval (.tmp t):=by
  cases hd:o.dst with
  |none=>simp_all[Act.put,Act.eval]
  |some d=>
   simp_all[Act.put,Act.eval,ZfM]
 unfold wpOp at*;simp only[ho]at h⊢;split
 ·unfold Oper.wp at*;generalize (execOp a.eval o).run P w=r at*;cases r with
  | ok n w'=>
   cases n<;>simp only[Oper.upon]at h⊢<;>
    first
     |simp_all
     |exact Calls.mono h (λe w'' he=>by cases e<;>first|exact⟨he,λt ht=>hput _ _ t ht rfl⟩|exact he)
     |exact Rows.mono h (λ_ _ he=>⟨he,λt ht=>hput _ _ t ht rfl⟩)
  |halt x w'=>simp_all[Oper.upon]
 simp_all
def Zes{m:Array Bool}{k:Nat}(h:k<m.size):m.getD k true=m.getD k false:=by
 simp_all
def acyc(ops:Array Oper):Bool:=(List.range ops.size).all λi=>(waits ops i).all λe=>Nat.blt e i
theorem FO{ops:Array Oper}(h:acyc ops=true){i e:Nat}(hi:i<ops.size)(he:e∈waits ops i):e<i:=by
 simp_all[acyc,ZfV,Zh5]
theorem Zds{ops:Array Oper}{m:Array Bool}(hac:acyc ops=true)(hs:m.size=ops.size)(hr:Region.ready .any ops m=[]):∀k,k<ops.size->m.getD k false=true:=by
 intro k
 induction k using Nat.strongRecOn with
 | _ k ih=>
  intro hk;cases hm:m.getD k false with
  |true=>rfl
  | false=>
   have:k∈Region.ready .any ops m:=mem_ready.2 ⟨hk,by simp_all,λe he=>by
    grind[FO]⟩
   simp_all
theorem X0{l:List Nat}{k:Nat}:memN l k=true↔k∈l:=by
 induction l with
 |nil=>exact⟨(λh=>ay),(λh=>ay)⟩
 |cons x l ih=>
  rw[memN,Zgx,ih,ZfY];exact or_congr ⟨λh=>(Zg2 h).symm,λh=>by simp_all⟩ Iff.rfl
theorem cntL:∀{l:List Bool}{i:Nat},l[i]? =some false->(l.set i true).count false+1=l.count false
 |[],_,h=>by simp at h
 |x::l,0,h=>by
  simp_all
 |x::l,i+1,h=>by
  grind
def cntS{m:Array Bool}{i:Nat}(hi:i<m.size)(h:m.getD i false=false):(m.setIfInBounds i true).toList.count false+1=m.toList.count false:=by
 simp_all[Array.toList_setIfInBounds,cntL,ZfM,Zgt]
section
variable{P:Program}{ops:Array Oper}{Q:Exit->Act->World->Prop}{B:Bs}{N:Nat}{σ:List (Nat×Value)}{Γ:List HP}{Φ:List RF}{mE:Array Bool}
def qV{S:List (Nat×Value)}{i d:Nat}{v:Value}{o:Oper}(ho:ops[i]? =some o)(hg:o.guard=none)(hd:o.dst=some d)(hdN:Nat.blt d N=true){a:Act}{w:World}(c:Cx B N S Γ Φ a w)(hv:Does P o a w λv' w'=>v'=v/\w'=w):wpOp P ops Q i (λa' w'=>Cx B N ((d,v)::S) Γ Φ a' w') a w:=
 Zc6 o ho hg (Le (ops:=#[o]) (k:=0) (o:=o) rfl hg hv λv' w' hw=>by
  obtain⟨rfl,rfl⟩:=hw;rw[hd]
  exact c.to (c.fr.put (ZfW.mp hdN) _))
section
variable{S:List (Nat×Value)}{i d:Nat}{dst:Option Tmp}{t ty:TypeId}{pos:String}{af:Array Edge}{x y:Operand}{α:Type}[Rep α]{e:TypeId}{v u:Value}{n:Int}{p:Addr}
def qI(k:Nat)(hk:Φ[k]? =some (EA α v n p u):=by rfl)(ho:ops[i]? =some ⟨some d,.indexAddr t x y,ty,pos,af,none⟩:=by rfl)(hdN:Nat.blt d N=true:=by rfl)(ht:P.underlying t=some (.slice e):=by rfl)(he:Ty P e α:=by constructor<;>kernel_rfl)(hx:opd S x=some v:=by kernel_rfl)(hy:numOf (opd S y)=some n:=by kernel_rfl)
  (a:Act)(w:World)(c:Cx B N S Γ Φ a w):wpOp P ops Q i (λa' w'=>Cx B N ((d,.pointer (some p))::S) Γ Φ a' w') a w:=by
 obtain⟨F,⟨ad,len,cap,rfl,rfl,hn,hlt⟩,_⟩:=c.use (Ava.f k hk);obtain⟨kd,hy⟩:=Y7 hy;have h1:=Zd c.fr hx;have h2:=Zd c.fr hy;refine qV ho rfl rfl hdN c (Zh (v:=.pointer (some (ad.add (n.toNat*Rep.sz α)))) (w':=w) ?_ ⟨rfl,rfl⟩);simp[execOp,Instr.indexAt,h1,h2,asIntOf,run_underlying ht,hn,hlt,he.sizeOf]
def qL(k:Nat)(hk:Φ[k]? =some (EA α v n p u):=by rfl)(ho:ops[i]? =some ⟨some d,.load t x,ty,pos,af,none⟩:=by rfl)(hdN:Nat.blt d N=true:=by rfl)(ht:Ty P t α:=by constructor<;>kernel_rfl)(hx:opd S x=some (.pointer (some p)):=by kernel_rfl)
  (a:Act)(w:World)(c:Cx B N S Γ Φ a w):wpOp P ops Q i (λa' w'=>Cx B N ((d,u)::S) Γ Φ a' w') a w:=by
 obtain⟨F,_,cs,rfl,hl,hc,_⟩:=c.use (Ava.f k hk);have h1:=Zd c.fr hx;refine qV ho rfl rfl hdN c (Zh (v:=Rep.val α cs) (w':=w) ?_ ⟨rfl,rfl⟩);simp[execOp,Instr.loadAt,h1,Instr.sureAddr,YO ht hl hc]
theorem qC{z:Value}(k off:Nat)(hk:Φ[k]? =some (EA α v n p u):=by rfl)(hz:u.cells.toList[off]? =some z:=by rfl)(hag:Rep.agg α=true:=by rfl)(ho:ops[i]? =some ⟨some d,.load t x,ty,pos,af,none⟩:=by rfl)(hdN:Nat.blt d N=true:=by rfl)(ht:Ty P t Int:=by constructor<;>kernel_rfl)(hx:opd S x=some (.pointer (some (p.add off))):=by kernel_rfl)
  (a:Act)(w:World)(c:Cx B N S Γ Φ a w):wpOp P ops Q i (λa' w'=>Cx B N ((d,z)::S) Γ Φ a' w') a w:=by
 obtain⟨F,_,cs,rfl,hl,hc,_⟩:=c.use (Ava.f k hk);have hz':cs[off]? =some z:=by
  simp_all[Rep.val,ZfC,Value.cells]
 have hc1:Cells w (p.add off) [z]:=λi q' hq=>by
  cases i with
  |zero=>
   simp only[Zgz,Option.some.injEq]at hq;subst hq;exact hc off z hz'
  |succ i=>simp at hq
 have h1:=Zd c.fr hx;refine qV ho rfl rfl hdN c (Zh (v:=z) (w':=w) ?_ ⟨rfl,rfl⟩);have:=YO ht (cs:=[z]) rfl hc1;have hv':Rep.val Int [z]=z:=rfl;simp_all[execOp,Instr.loadAt,Instr.sureAddr]
end
end
section
variable{P:Program}{B:Bs}{N:Nat}{σ:List (Nat×Value)}{Γ:List HP}{Φ:List RF}{a:Act}{w:World}{Q:Exit->Act->World->Prop}{ops:Array Oper}{k d:Nat}{t t' ty:TypeId}{x y:Operand}{pos:String}{af:Array Edge}
variable{H:Prop}{β0:Type}{z0:β0}
def Ecl{α:Type}[Rep α]{hi mx:Operand}{b:Option Addr}{cp:Nat}{l:List α}(E:TypeId)(hl:∀{w},Ava [] Φ w (RO (.slice b l.length cp) l))(ho:ops[k]? =some ⟨some d,.slice t x none (some hi) (some mx),ty,pos,af,none⟩:=by rfl)(hd:Nat.blt d N=true:=by rfl)(he:Ty P E α:=by constructor<;>kernel_rfl)(ht:P.underlying t=some (.slice E):=by kernel_rfl)(hx:opd σ x=some (.slice b l.length cp):=by kernel_rfl)(hhi:opd σ hi=some (.int .i64 (len l)):=by kernel_rfl)(hmx:opd σ mx=some (.int .i64 (len l)):=by kernel_rfl)(Z:Gl B N H ((d,.slice b l.length l.length)::σ) Γ (Φ++[RO (.slice b l.length l.length) l]) (wpFrom P ops Q (k+1))):Gl B N H σ Γ Φ (wpFrom P ops Q k):=by
 intro e9 a w c;have h:=λfr=>gap Z e9 fr w;obtain⟨hF,S,F,hM,hs,hf⟩:=c;have hl':=hl Non F (Sep.nil w Non) hf;obtain⟨b',cap,e,hc1,hc2,hc3⟩:=RV.slice hl';obtain⟨rfl,_,rfl⟩:=Value.slice.inj e;have e0:∀ad:Addr,ad.add 0=ad:=λad=>by rfl
 have hln:len l=((l.length:Nat):Int):=rfl;refine Zp hF ho rfl rfl (ZfW.mp hd) (R:=λz w1=>z= .slice b l.length l.length/\w1=w) (Zh ?_ ⟨rfl,rfl⟩) λz w1 fr hz hF'=>?_
 ·simp[execOp,Instr.sliceAt,Instr.slice,Instr.sliceBounds,Instr.sliceBound,asIntOf,Zd hF hx,Zd hF hhi,Zd hF hmx,run_underlying ht,he.sizeOf,hln,hc1,e0]
 ·obtain⟨rfl,rfl⟩:=hz
  exact h fr ⟨hF',S,F,hM,hs,hf.add (RV.mk_slice (ZfP _) (ZgY hc1 hc2) λhne=>by
   obtain⟨ad,e1,e2,e3⟩:=hc3 hne
   exact⟨ad,e1,e2.elim id λh=>h.elim,Nr (λk _ h=>⟨rfl,h.elim id λh=>h.elim⟩) e2 e3⟩)⟩
end
section
variable{α:Type}[Flat α]{w:World}{E:TypeId}
def Kt{P:Program}{t ty:TypeId}(ht:P.underlying t=some (.slice E))(hE:ElT P E α){Fl Fr:Nat->Prop}{b:Option Addr}{u:Value}{l m:List α}(hl:RV w Fl (.slice b l.length l.length) l)(hu:RV w Fr u m)(hm:m≠[])(hroom:l.length+m.length<=room):
  ∃a' c' w',(Builtin.append_ #[t,t] ty #[.slice b l.length l.length,u]).run P w= .ok (.slice a' (l++m).length c') w'/\(SL E (.slice a' (l++m).length c') (l++m)).ok w' (λk=>w.heap.size<=k)/\Chg Non w w':=by
 by_cases hl0:l=[]
 ·subst hl0;obtain⟨v',w',hrun,hok',hc⟩:=Tg (P:=P) (ty:=ty) (v:=b) ht hE hu O;have hsl:∃a' c',v'= .slice a' m.length c':=by
   rcases hok' with⟨go,ho⟩|⟨rfl,a',rfl⟩
   ·exact ho.slice
   simp
  grind
 obtain⟨i,z,hi,hz,hsz,hzs,hby⟩:=hE.out;obtain⟨b',cap',e,hc1,hc2,hc3⟩:=hl.slice;obtain⟨rfl,_,rfl⟩:=Value.slice.inj e;obtain⟨bd,rfl,_,he⟩:=hc3 hl0;obtain⟨css,g1,g2⟩:=Um he;obtain⟨ad,cap,rfl,hcap,hmax,hcells⟩:=hu.slice;obtain⟨ad,rfl,_,he'⟩:=hcells hm;obtain⟨cssm,k1,k2⟩:=Um he';have hpos:0<m.length:=by
  grind
 unfold room at hroom;have hb1:(l.length+m.length)*i.bytes<=4294967296*32768:=ZhY hroom hby;have hfl:css.flatten.length=l.length*i.size:=by rw[hsz];exact g1.flat_len
 have hfm:cssm.flatten.length=m.length*i.size:=by rw[hsz];exact k1.flat_len
 have e2:=run_append_grow (P:=P) w t ty E i z ht hi hz bd l.length l.length css.flatten hfl (λj x hx=>by simp_all) ad m.length cap cssm.flatten hfm (λj x hx=>by simp_all) O O
  (growslice_fits O O)
 have hge:=grownCap_ge w (l.length+m.length) l.length E;have hcm:grownCap w (l.length+m.length) l.length E<=maxLen:=grownCap_le_maxLen w (l.length+m.length) l.length E (by grind[maxLen]);have hlen:(l++m).length=l.length+m.length:=ZfI;refine⟨some ⟨w.heap.size,0,none⟩,grownCap w (l.length+m.length) l.length E,_,by rw[hlen];exact e2,.inl ⟨some w.heap.size,λ_=>False,css++cssm,?_,⟨?_,.inr ⟨w.heap.size,_,_,rfl,Zg9 _,heap_alloc_new w.drew _,by omega,hcm,?_,?_⟩⟩,rfl,?_,λk hk=>hk.elim⟩,?_⟩
 ·exact Css.append ⟨g1.1,λi cs x hi hx=>Flat.iff.2 (Flat.iff.1 (g1.2 i cs x hi hx))⟩ ⟨k1.1,λi cs x hi hx=>Flat.iff.2 (Flat.iff.1 (k1.2 i cs x hi hx))⟩
 ·grind
 ·simp only[Array.size_append,Zhz,size_zeroCells,hfl,hfm,hsz,hzs,<-Zh9];simp_all
 ·grind[Array.toList_append,List.append_assoc,List.flatten_append,Nat.add_mul,List.length_append,List.take_left]
 ·simp
 ·exact⟨rfl,rfl,rfl,by simp,λk hk _=>heap_alloc_old w.drew _ hk⟩
end
section
variable{ρ α:Type}[Flat ρ][Rep α]
variable{P:Program}{B:Bs}{N:Nat}{σ:List (Nat×Value)}{Γ:List HP}{Φ:List RF}{a:Act}{w:World}{Q:Exit->Act->World->Prop}{ops:Array Oper}{k d:Nat}{t t' ty:TypeId}{x y:Operand}{pos:String}{af:Array Edge}
variable{H:Prop}{β0:Type}{z0:β0}
def Eapf[RawOf ρ α]{b:Option Addr}{u:Value}{xs ms:List α}{f0:List α->Option β0}(E:TypeId)(hl:∀{w},Ava [] Φ w (RO (.slice b xs.length xs.length) xs))(hu:∀{w},Ava [] Φ w (RO u ms))(hm:ms≠[]:=by exact List.cons_ne_nil _ _)(ho:ops[k]? =some ⟨some d,.call ⟨.builtin .append,#[x,y],#[t,t']⟩,ty,pos,af,none⟩:=by rfl)(htt:t'=t:=by rfl)(hd:Nat.blt d N=true:=by rfl)(he:ElT P E ρ:=by refine elT ?_;kernel_rfl)(ht:P.underlying t=some (.slice E):=by kernel_rfl)(hx:opd σ x=some (.slice b xs.length xs.length):=by kernel_rfl)(hy:opd σ y=some u:=by kernel_rfl)(Z:∀r(rs:List ρ)a' c',Gl B N (f0 r=some z0) ((d,.slice a' r.length c')::σ) (Γ++[SL E (.slice a' r.length c') rs]) (Φ++[CS rs r]) (wpFrom P ops Q (k+1))):Gl B N ((app? xs ms).bind f0=some z0) σ Γ Φ (wpFrom P ops Q k):=by
 intro e9 a w c;obtain⟨r,hr,e9⟩:=bindE e9;have h:=λ(rs:List ρ)a' c'=>gap (Z r rs a' c') e9;obtain⟨hF,S,F,hM,hs,hf⟩:=c;subst htt;obtain⟨rl,f1,f2⟩:=Ik (ρ:=ρ) (hl.ro hf);obtain⟨rm,g1,g2⟩:=Ik (ρ:=ρ) (hu.ro hf);have hl1:rl.length=xs.length:=by simpa using f2.1
 have hl2:rm.length=ms.length:=by simpa using g2.1
 obtain⟨h1,h2⟩:=app?_raw (l':=rl) (m':=rm) hr hl1 hl2;unfold app? at h1;split at h1
 ·rename_i hroom;have hne:rm≠[]:=λe=>by grind
  rw[<-hl1]at f1 hx;obtain⟨a',c',w',hrun,hok,hc⟩:=Kt (P:=P) (ty:=ty) ht he f1 g1 hne hroom;obtain⟨S',hp,hs'⟩:=hs.new hM hc hok;have hlen:(rl++rm).length=r.length:=by simp_all
  have hcs:=Je f2 g2;rw[<-h2]at hcs;have hcs':Css w' F ((rl++rm).map Flat.enc) r:=hcs.keep λk hk hf=>⟨hp.chg.block k hk λhS=>hM.dj k hS hf,hf⟩;refine Zp hF ho rfl rfl (ZfW.mp hd) (R:=λz w1=>z= .slice a' (rl++rm).length c'/\w1=w') (Zh ?_ ⟨rfl,rfl⟩) λz w1 fr hz hF'=>?_
  ·simp[execOp,resolve,invoke,builtin,Zd hF hx,Zd hF hy,hrun]
  ·obtain⟨rfl,rfl⟩:=hz;rw[hlen]at hs' hF';exact h (rl++rm) a' c' fr _ ⟨hF',S',F,hM.stp hp,Zn (Γ2:=[_]) hs',(hf.chg hp.chg λk hk hS=>hM.dj k hS hk).add (R:=CS (rl++rm) r) hcs'⟩
 ·cases h1
end
section
def EW(w:World)(α:Type)[Rep α](v:Value)(n:Int)(p:Addr)(u:Value):Prop:=∃F,(EA α v n p u).ok w F
variable{ρ α:Type}[Flat ρ][Rep α]
variable{P:Program}{B:Bs}{N:Nat}{σ:List (Nat×Value)}{Γ:List HP}{Φ:List RF}{a:Act}{w:World}{K:Act->World->Prop}{Q:Exit->Act->World->Prop}{ops:Array Oper}{j:Nat}
variable{H:Prop}{β0:Type}{z0:β0}
def Cx.elo[RawOf ρ α]{E:TypeId}{v:Value}{rs:List ρ}{xs:List α}{n:Int}{x:α}(i k:Nat)(c:Cx B N σ Γ Φ a w)(hx:get? xs n=some x)(hi:Γ[i]? =some (SL E v rs):=by rfl)(hk:Φ[k]? =some (CS rs xs):=by rfl):∃p u,EW w α v n p u/\Cx B N σ Γ (Φ++[RO u x]) a w:=by
 obtain⟨hF,S,F,h1,h2,h3⟩:=c;have hc:=h3.get hk;obtain⟨q',g1,_⟩:=FJ hc (get?_at hx);have hz':get? rs n=some q':=by simp_all[get?,ZfC,get?_nn]
 have hr:=(h2.rv i hi);obtain⟨b,cap,rfl,e1,e2,e3⟩:=RV.slice hr;have hn:=get?_nn hx;have hat:=get?_at hz';have hlt:n.toNat<rs.length:=(ZfE.1 hat).1;obtain⟨ad,rfl,hFb,hel⟩:=e3 al;obtain⟨cs,hok,hcl⟩:=Ui hel hat;have hcl:Cells w (ad.add (n.toNat*Rep.sz ρ)) cs:=by simp_all
 have ecs:cs=Flat.enc q':=Flat.iff.1 hok;have hok':Rep.ok w F (Flat.enc q') x:=hc.2 _ _ x ah (get?_at hx);have hne:cs≠[]:=by
  have h4:=Rep.len hok;grind[Rep.pos]
 have hb:(ad.add (n.toNat*Rep.sz ρ)).block<w.heap.size:=hcl.lt hne;subst ecs;rw[RawOf.sz (ρ:=ρ) (α:=α)]at hcl hb;exact⟨ad.add (n.toNat*Rep.sz α),Rep.val α (Flat.enc q'),⟨λ_=>True,⟨ad,_,_,rfl,rfl,hn,by omega⟩,_,rfl,Rep.len hok',hcl,trivial,hb⟩,hF,S,F,h1,h2,h3.add (R:=RO _ x) ⟨_,hok',rfl⟩⟩
end
section
def EP(α:Type)[Rep α](v:Value)(n:Int)(p:Addr):Prop:=∃ad len cap,v= .slice (some ad) len cap/\p=ad.add (n.toNat*Rep.sz α)/\0<=n/\n<((len:Nat):Int)
variable{ρ α:Type}[Flat ρ][Rep α]
variable{P:Program}{B:Bs}{N:Nat}{σ:List (Nat×Value)}{Γ:List HP}{Φ:List RF}{a:Act}{w:World}{Q:Exit->Act->World->Prop}{ops:Array Oper}{j k d i:Nat}{t t' ty:TypeId}{x y z:Operand}{pos:String}{af:Array Edge}{v:Value}{n:Int}{p:Addr}{E:TypeId}
variable{H:Prop}{β0:Type}{z0:β0}
def EP.one{p':Addr}(h:EP α v n p)(h':EP α v n p'):p=p':=by
 obtain⟨ad,len,cap,rfl,rfl,_⟩:=h;obtain⟨ad',len',cap',e,rfl,_⟩:=h';simp_all
def Cx.epo[RawOf ρ α]{rs:List ρ}{xs:List α}{x:α}(i k:Nat)(c:Cx B N σ Γ Φ a w)(hx:get? xs n=some x)(hi:Γ[i]? =some (SL E v rs):=by rfl)(hk:Φ[k]? =some (CS rs xs):=by rfl):∃p,EP α v n p:=by
 obtain⟨p,u,⟨F,h,_⟩,_⟩:=c.elo i k hx hi hk;exact⟨p,h⟩
def qIo{S:List (Nat×Value)}(h:EP α v n p)(ho:ops[i]? =some ⟨some d,.indexAddr t x y,ty,pos,af,none⟩:=by rfl)(hdN:Nat.blt d N=true:=by rfl)(ht:P.underlying t=some (.slice E):=by rfl)(he:Ty P E α:=by constructor<;>kernel_rfl)(hx:opd S x=some v:=by kernel_rfl)(hy:numOf (opd S y)=some n:=by kernel_rfl)
  (a:Act)(w:World)(c:Cx B N S Γ Φ a w):wpOp P ops Q i (λa' w'=>Cx B N ((d,.pointer (some p))::S) Γ Φ a' w') a w:=by
 obtain⟨ad,len,cap,rfl,rfl,hn,hlt⟩:=h;obtain⟨kd,hy⟩:=Y7 hy;have h1:=Zd c.fr hx;have h2:=Zd c.fr hy;refine qV ho rfl rfl hdN c (Zh (v:=.pointer (some (ad.add (n.toNat*Rep.sz α)))) (w':=w) ?_ ⟨rfl,rfl⟩);simp[execOp,Instr.indexAt,h1,h2,asIntOf,run_underlying ht,hn,hlt,he.sizeOf]
def Eldo[RawOf ρ α]{rs:List ρ}{xs:List α}{f0:α->Option β0}(i j:Nat)(he:EP α v n p)(hi:Γ[i]? =some (SL E v rs):=by rfl)(hj:Φ[j]? =some (CS rs xs):=by rfl)(ho:ops[k]? =some ⟨some d,.load t x,ty,pos,af,none⟩:=by rfl)(hd:Nat.blt d N=true:=by rfl)(ht:Ty P t α:=by constructor<;>kernel_rfl)(hx:opd σ x=some (.pointer (some p)):=by kernel_rfl)(Z:∀q u,Gl B N (f0 q=some z0) ((d,u)::σ) Γ (Φ++[RO u q]) (wpFrom P ops Q (k+1))):Gl B N ((get? xs n).bind f0=some z0) σ Γ Φ (wpFrom P ops Q k):=by
 intro e9 a w c;obtain⟨q,hz,e9⟩:=bindE e9;have h:=λu fr=>gap (Z q u) e9 fr w;obtain⟨p',u,⟨F,hep,cs,rfl,hl,hc,_⟩,c⟩:=c.elo i j hz hi hj;obtain rfl:=he.one hep;refine Zp c.fr ho rfl rfl (ZfW.mp hd) (R:=λz w1=>z=Rep.val α cs/\w1=w) (Zh ?_ ⟨rfl,rfl⟩) λz w1 fr hz hF'=>?_
 ·simp[execOp,Instr.loadAt,Zd c.fr hx,Instr.sureAddr,YO ht hl hc]
 ·obtain⟨rfl,rfl⟩:=hz;exact h _ fr (c.to hF')
end
section
variable{P:Program}{B:Bs}{N:Nat}{σ:List (Nat×Value)}{Γ:List HP}{Φ:List RF}{a:Act}{w:World}{Q:Exit->Act->World->Prop}
variable{H:Prop}{β0:Type}{z0:β0}
  {draw:Bool}{ms:List Nat}{ops:Array Oper}{j:Nat}{dst:Option Tmp}{g:Option (Nat×Bool)}{t ty:TypeId}{y:Operand}{pos:String}{af:Array Edge}
end
end Go.GL
end
