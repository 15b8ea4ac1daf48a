/- Texts of this claim put into one: library or plain laws, without the program under test. -/
import Derived.Test.YtjhiajehpjpibaaGreatDoorLib2
import Derived.Maps.RangeWalk
import Derived.Shelf.SlSortCmp.NoneTotal
import Derived.Lib.Strings
set_option linter.unusedSimpArgs false
set_option linter.unusedVariables false
set_option linter.defProp false
section
namespace Go.GL
open Go.RowKit
instance{α:Type}[Rep α]:RawOf Hd (List α)where
 sz:=rfl
 agg:=rfl
 ex:=λ{w F cs x}h=>by
  have h1:RV w F (Rep.val (List α) cs) x:=⟨cs,h,rfl⟩;obtain⟨a,c,e,_⟩:=RV.slice h1;have hl:=Rep.len h
  match cs,hl with
  |[u],_=>exact⟨⟨a,x.length,c⟩,by rw[show u= .slice a x.length c from e];rfl⟩
def mapSV(P:Program)(k e:TypeId){ρ:Type}[Flat ρ](z0:ρ)(hk:P.underlying k=some .string)(hzero:∀w,(zeroValue e).run P w= .ok (Rep.val ρ (Flat.enc z0)) w):MapT P k e Str ρ where
 R v:=some (.held v,[])
 fit:=fitS
 lit x:=.string x.bytes
 dv y:=.held (Rep.val ρ (Flat.enc y))
 zero:=z0
 efit:=λ_=>true
 zfit:=rfl
 keyed:=Maps.string_keyed hk
 key x h:=by
  have h:x.bytes.length<=9223372036854775807:=of_decide_eq_true h;have h2:(Rep.val Str (Flat.enc x))= .string ⟨x.bytes.toArray⟩:=rfl;unfold keyOf;rw[hk,h2];simp only[mapKey,hk];have h3:(ByteArray.mk x.bytes.toArray).size<=maxLen:=by show x.bytes.toArray.size<=_;simp_all[maxLen]
  simp[h3]
 inj x y _ _ h:=by
  cases x;simp_all
 elem y _:=rfl
 back v y ps h:=by
  simp_all
 hz:=hzero
theorem Zea{P:Program}{e:TypeId}(h:(P.info? e).map (·.zero)=some (some (.slice none 0 0)))(w:World):(zeroValue e).run P w= .ok (Rep.val Hd (Flat.enc (⟨none,0,0⟩:Hd))) w:=by
 show(zeroValue e).run P w= .ok (.slice none 0 0) w;cases hi:P.info? e with
 |none=>simp_all
 |some i=>
  simp_all[Zgh,Option.some.injEq,zeroValue,typeInfo]
section
variable{P:Program}{K V:TypeId}{κ ρ α:Type}[Flat κ][Flat ρ][Rep α][RawOf ρ α][DecidableEq κ]
variable{H:Prop}{β0:Type}{z0:β0}
def CM(w:World)(F:Nat->Prop)(rs:List (κ×ρ))(xs:List (κ×α)):Prop:=rs.map (·.1)=xs.map (·.1)/\Css w F ((rs.map (·.2)).map Flat.enc) (xs.map (·.2))
def MV(T:MapT P K V κ ρ)(v:Value)(m:Option (List (κ×α))):RF where
 ok w F:=∃m':Option (List (κ×ρ)),(OM T v m').ok w F/\CM w F (m'.getD []) (m.getD [])
 sub:=λ⟨m',h1,h2,h3⟩hs=>⟨m',(OM T v m').mono h1 hs,h2,h3.keep λk hk hf=>⟨rfl,hs k hk hf⟩⟩
 chg:=λ⟨m',h1,h2,h3⟩hc ht=>⟨m',(OM T v m').keep h1 hc ht,h2,h3.keep λk hk hf=>⟨hc.block k hk (ht k hf),hf⟩⟩
def MD(T:MapT P K V κ ρ)(own:ρ->α->HP)(b:Nat)(xs:List (κ×α)):HP:=.ex λrs:List (κ×ρ)=>.two (MP T b rs) (.two (.pure (rs.map (·.1)=xs.map (·.1))) (.all own (rs.map (·.2)) (xs.map (·.2))))
omit [RawOf ρ α]in
theorem ZdI{own:ρ->α->HP}(ho:Owns own){w:World}{A:Nat->Prop}{rs:List ρ}{xs:List α}(h:(HP.all own rs xs).ok w A):Css w A (rs.map Flat.enc) xs:=by
 have hl:=UX h;refine⟨by simp[hl],λi cs x hcs hx=>?_⟩;rw[Zgp]at hcs;cases hr:rs[i]? with
 |none=>rw[hr]at hcs;cases hcs
 |some q=>
  rw[hr]at hcs;obtain rfl:=Option.some.inj hcs;exact ho.rv _ _ _ _ (Tz h hr hx)
omit [RawOf ρ α] [Flat κ]in
theorem Zb7{w:World}{F:Nat->Prop}{z:ρ}{zx:α}(hz:Rep.ok w F (Flat.enc z) zx){q:κ}:∀{rs:List (κ×ρ)}{xs:List (κ×α)},CM w F rs xs->Rep.ok w F (Flat.enc (mget z rs q)) (mget zx xs q)
 |[],[],_=>hz
 |[],_::_,h=>by have:=h.1;simp at this
 |_::_,[],h=>by have:=h.1;simp at this
 | (a,r)::rs,(b,x)::xs,h=>by
  have h1:a=b/\rs.map (·.1)=xs.map (·.1):=by have:=h.1;simpa using this
  obtain⟨rfl,h2⟩:=h1;have hh:Rep.ok w F (Flat.enc r) x:=h.2.2 0 _ _ rfl rfl;have ht:CM w F rs xs:=⟨h2,by have:=h.2.1;simpa using this,λi cs y hc hy=>h.2.2 (i+1) cs y (by simpa using hc) (by simpa using hy)⟩;unfold mget;by_cases c:q=a
  ·subst c;simpa[List.lookup]using hh
  ·have c':(q==a)=false:=by simpa using c
   simp only[List.lookup,c'];exact Zb7 hz ht
variable{B:Bs}{N:Nat}{σ:List (Nat×Value)}{Γ:List HP}{Φ:List RF}{a:Act}{w:World}{Q:Exit->Act->World->Prop}{T:MapT P K V κ ρ}{own:ρ->α->HP}
  {ops:Array Oper}{k d b:Nat}{t ty:TypeId}{pos:String}{af:Array Edge}{x y z:Operand}{v:Value}
omit[RawOf ρ α]in
def MD.mv(ho:Owns own){A:Nat->Prop}{xs:List (κ×α)}(h:(MD T own b xs).ok w A):(MV T (.map (some b)) (some xs)).ok w A:=by
 obtain⟨rs,h⟩:=h;have h1:=SE h;have h2:=Tv h;exact⟨some rs,⟨b,rfl,h1.1,h1.2⟩,SE h2,ZdI ho (Tv h2)⟩
omit [RawOf ρ α]in
def Ava.md(ho:Owns own){xs:List (κ×α)}(i:Nat)(hi:Γ[i]? =some (MD T own b xs):=by rfl):Ava Γ Φ w (MV T (.map (some b)) (some xs)):=λS F hs hf=>by
 obtain⟨A,h1,h2⟩:=hs.get i hi;exact(MV T (.map (some b)) (some xs)).sub (MD.mv ho h1) λk _ hk=>.inr (h2 k hk)
omit [RawOf ρ α] [Rep α]in
def Emmd(T:MapT P K V κ ρ)(own:ρ->α->HP)(ho:ops[k]? =some ⟨some d,.makeMap t none,ty,pos,af,none⟩:=by rfl)(hd:Nat.blt d N=true:=by rfl)(hm:∀w,(Instr.makeMap t none).run P w= .ok (.map (some w.heap.size)) (w.alloc (.map #[] 0)):=by exact λw=>by simp[Instr.makeMap,run_newObj_alloc])(Z:∀b,Gl B N H ((d,.map (some b))::σ) (Γ++[MD T own b []]) Φ (wpFrom P ops Q (k+1))):Gl B N H σ Γ Φ (wpFrom P ops Q k):=by
 intro e9 a w c;have h:=λb=>gap (Z b) e9;obtain⟨hF,S,F,hM,hs,hf⟩:=c;refine GR T hs hM hm ho hd hF λb w' S' fr hs' hp hF'=>h b fr w' ⟨hF',S',F,hM.stp hp,Zn (Γ2:=[_]) (Sep.imp hs' λA hA=>?_),hf.chg hp.chg λk hk hS=>hM.dj k hS hk⟩;exact⟨[],QY hA (QY (rfl:(HP.pure _).ok w' Non) trivial)⟩
omit [Rep α] [RawOf ρ α]in
def Emd{q:κ}{r:ρ}{e:α}{m:List (κ×α)}{fit:κ->Bool}{f0:List (κ×α)->Option β0}(i j:Nat)(hi:Γ[i]? =some (MD T own b m):=by rfl)(hj:Γ[j]? =some (own r e):=by rfl)(hne:[i,j].Nodup:=by decide)(hfit:T.fit=fit:=by rfl)(hzz:∀y,T.efit y=true:=by exact λ_=>rfl)(ho:ops[k]? =some ⟨none,.mapUpdate t x y z,ty,pos,af,none⟩:=by rfl)(ht:P.underlying t=some (.map K V):=by kernel_rfl)(hx:opd σ x=some (.map (some b)):=by kernel_rfl)(hy:opd σ y=some (Rep.val κ (Flat.enc q)):=by kernel_rfl)(hz:opd σ z=some (Rep.val ρ (Flat.enc r)):=by kernel_rfl)(Z:∀m',Gl B N (f0 m'=some z0) σ (rest [i,j] Γ++[MD T own b m']) Φ (wpFrom P ops Q (k+1))):Gl B N ((mput? fit m q e).bind f0=some z0) σ Γ Φ (wpFrom P ops Q k):=by
 intro e9 a w c;obtain⟨m',hr,e9⟩:=bindE e9;have h:=λw'=>gap (Z m') e9 a w';obtain⟨hF,S,F,hM,hs,hf⟩:=c;subst hfit;have hp:=hs.part [i,j] (Γ1:=[MD T own b m,own r e]) aR hne;obtain⟨rs,hp⟩:=Sep.open (L:=own r e::rest [i,j] Γ) hp;have hl:rs.length=m.length:=by
  have:=hp.two.get 1 rfl;obtain⟨A,hA,_⟩:=this;have:=UX (Tv hA);simpa using this
 refine JI T 0 hp.two hM rfl ht ho hF (u:=q) (mput?_fit hr) r (hzz r) (by rw[hl];exact mput?_len hr) hx hy rfl hz rfl λw' S' hs' hpp hF'=>h w' ⟨hF',S',F,hM.stp hpp,Zn (Γ2:=[_]) ?_,hf.chg hpp.chg λk hk hS=>hM.dj k hS hk⟩;have hs':Sep (MP T b ((q,r)::rs)::(HP.two (.pure (rs.map (·.1)=m.map (·.1))) (.all own (rs.map (·.2)) (m.map (·.2))))::own r e::rest [i,j] Γ) w' S':=hs';obtain⟨A,B',h1,h2,h3,h4,h5⟩:=hs'.cons_ok;obtain⟨he,h2⟩:=(h2.two).fact;have h6:=Sep.merge (R:=HP.all own (r::rs.map (·.2)) (e::m.map (·.2))) h2 λA hA=>Qw hA;have h7:=Sep.mk_cons (S:=S') h1 h6 h3 h4 h5;refine Sep.merge h7 λA hA=>?_;rw[mput?_val hr];obtain⟨B1,C1,g1,g2,g3,g4⟩:=hA;exact⟨(q,r)::rs,B1,C1,g1,FZ g2 (show(HP.pure _).ok w' Non by show List.map _ _=List.map _ _;simp[he]),g3,g4⟩
omit [Flat κ] [Flat ρ] [RawOf ρ α] [DecidableEq κ]in
def Zfj{w:World}{F:Nat->Prop}:Rep.ok w F [.slice none 0 0] ([]:List α):=RV.one rfl (RV.mk_slice (l:=([]:List α)) (ZfP _) (Zg9 _) λh=>absurd rfl h)
omit [Flat κ] [DecidableEq κ]in
def Zfc{w:World}{F:Nat->Prop}{r:ρ}{x:α}(h:Rep.ok w F (Flat.enc r) x):RV w F (Rep.val ρ (Flat.enc r)) x:=⟨_,h,by unfold Rep.val;rw[RawOf.agg (ρ:=ρ) (α:=α)]⟩
theorem Erv{q:κ}{m:Option (List (κ×α))}{fit:κ->Bool}{zz:α}{f0:α->Option β0}(hl:∀{w},Ava [] Φ w (MV T v m))(hfit:T.fit=fit:=by rfl)(hzz:∀w F,Rep.ok w F (Flat.enc T.zero) zz:=by intro w F;exact Zfj)(ho:ops[k]? =some ⟨some d,.lookup t x y false,ty,pos,af,none⟩:=by rfl)(hd:Nat.blt d N=true:=by rfl)(ht:P.underlying t=some (.map K V):=by kernel_rfl)(hx:opd σ x=some v:=by kernel_rfl)(hy:opd σ y=some (Rep.val κ (Flat.enc q)):=by kernel_rfl)(Z:∀r u,Gl B N (f0 r=some z0) ((d,u)::σ) Γ (Φ++[RO u r]) (wpFrom P ops Q (k+1))):Gl B N ((mgeto? fit zz m q).bind f0=some z0) σ Γ Φ (wpFrom P ops Q k):=by
 intro e9 a w c;obtain⟨r,hr,e9⟩:=bindE e9;have h:=λu fr=>gap (Z r u) e9 fr w;subst hfit;obtain⟨hF,S,F,hM,hs,hf⟩:=c;obtain⟨m',h1,h2⟩:=Ava.ro hl hf;have hrv:Rep.ok w F (Flat.enc (mget T.zero (m'.getD []) q)) r:=by rw[<-mget?_val hr];simp_all[Zb7]
 have go:∀fr,FrS N ((d,Rep.val ρ (Flat.enc (mget T.zero (m'.getD []) q)))::σ) fr->wpFrom P ops Q (k+1) fr w:=λfr hF'=>h _ fr ⟨hF',S,F,hM,hs,hf.add (Zfc hrv)⟩;cases m' with
 |some l=>
  obtain⟨b,rfl,g1,g2⟩:=h1;exact JZ T 0 (Sep.of_ok (A:=F) (P:=MP T b l) ⟨g1,g2⟩) rfl ht ho hd hF (u:=q) (mget?_fit hr) hx hy rfl rfl go
 | none=>
  obtain rfl:v= .map none:=h1;refine Zp hF ho rfl rfl (ZfW.mp hd) (R:=λz w1=>z=Rep.val ρ (Flat.enc T.zero)/\w1=w) (Zh ?_ ⟨rfl,rfl⟩) λz w1 fr hz hF'=>?_
  ·have hkey:=T.key q (mget?_fit hr);have hck:=T.keyed.check w true hkey;have hfd:(Instr.findKey K (Rep.val κ (Flat.enc q)) []).run P w= .ok none w:=by
    rcases T.keyed.find w hkey [] (λe he=>by cases he)with h|⟨j,e,_,h,_⟩
    all_goals grind
   simp[execOp,Instr.lookup,Zd hF hx,Zd hF hy,run_underlying ht,hck,hfd,Result.andThen,T.hz]
  ·obtain⟨rfl,rfl⟩:=hz;exact go fr hF'
end
section
variable{P:Program}{B:Bs}{N:Nat}{σ:List (Nat×Value)}{Γ:List HP}{Φ:List RF}{a:Act}{w:World}{Q:Exit->Act->World->Prop}
variable{H:Prop}{β0:Type}{z0:β0}
  {ops:Array Oper}{k d:Nat}{t t' ty:TypeId}{pos:String}{af:Array Edge}{x y:Operand}{α:Type}[Flat α]{E:TypeId}{l r m:List α}{b a':Option Addr}{n0 cp c':Nat}{lo n:Int}{u:Value}
omit[Flat α]in
def ED(h:cut? l lo n=some r):r=vcut l lo r.length/\lo.toNat+r.length<=l.length:=by
 unfold cut? at h;split at h
 ·rename_i hb;obtain rfl:=Option.some.inj h;unfold vcut;refine⟨?_,by rw[ZfX,Zga];omega⟩;rw[ZfX,Zga,<-ZhZ,Nat.min_eq_left O]
 ·cases h
theorem Evw{lw hw:Option Operand}(i:Nat)(c:Cx B N σ Γ Φ a w)(hr:cut? l lo n=some r)(h:∀a' c' fr,VW (Rep.sz α) b cp lo a' c'->Cx B N ((d,.slice a' r.length c')::σ) Γ Φ fr w->wpFrom P ops Q (k+1) fr w)(hi:Γ[i]? =some (SL E (.slice b n0 cp) l):=by rfl)
  (ho:ops[k]? =some ⟨some d,.slice t x lw hw none,ty,pos,af,none⟩:=by rfl)(hd:Nat.blt d N=true:=by rfl)(he:Ty P E α:=by constructor<;>kernel_rfl)(ht:P.underlying t=some (.slice E):=by kernel_rfl)(hx:opd σ x=some (.slice b n0 cp):=by kernel_rfl)
  (hlo:(match lw with|none=>some 0|some y=>numOf (opd σ y))=some lo:=by kernel_rfl)(hhi:(match hw with|none=>some (len l)|some y=>numOf (opd σ y))=some n:=by kernel_rfl):wpFrom P ops Q k a w:=by
 obtain⟨hF,S,F,hM,hs,hf⟩:=c;obtain⟨A,hA,_⟩:=hs.get i hi;refine Zcv he ht ho hd hF hx (SL.rv hA) (m:=lo) (n:=n) ?_ ?_ hr λa' c' fr hv _ hF'=>h a' c' fr hv ⟨hF',S,F,hM,hs,hf⟩
 ·grind[Option.some.inj,Y7]
 ·cases hw with
  |none=>exact(Option.some.inj hhi).symm
  |some y=>simp_all[Y7]
def Ava.vw(i:Nat)(hv:VW (Rep.sz α) b cp lo a' c')(hr:cut? l lo n=some r)(hi:Γ[i]? =some (SL E (.slice b n0 cp) l):=by rfl):Ava Γ Φ w (RO (.slice a' r.length c') r):=λS F hs hf=>by
 obtain⟨A,h1,h2⟩:=hs.get i hi;obtain⟨e1,e2⟩:=ED hr;have:=Ai (RV.sub (SL.rv h1) λk _ hk=>(.inr (h2 k hk):F k\/S k)) hv e2;rw[<-e1]at this;exact this
def Ecpv(i:Nat)(hv:VW (Rep.sz α) b cp lo a' c')(hr:cut? l lo n=some r)(hu:∀{w},Ava Γ Φ w (RO u m))(hi:Γ[i]? =some (SL E (.slice b n0 cp) l):=by rfl)(ho:ops[k]? =some ⟨some d,.call ⟨.builtin .copy,#[x,y],#[t,t']⟩,ty,pos,af,none⟩:=by rfl)(hd:Nat.blt d N=true:=by rfl)(he:Ty P E α:=by constructor<;>kernel_rfl)(ht:P.underlying t=some (.slice E):=by kernel_rfl)(hx:opd σ x=some (.slice a' r.length c'):=by kernel_rfl)(hy:opd σ y=some u:=by kernel_rfl)(Z:∀q,Gl B N H ((d,q)::σ) (Γ.set i (SL E (.slice b n0 cp) (vcopy l lo r.length m))) Φ (wpFrom P ops Q (k+1))):Gl B N H σ Γ Φ (wpFrom P ops Q k):=by
 intro e9 a w c;have h:=λq=>gap (Z q) e9;obtain⟨F',hu⟩:=c.use hu;obtain⟨hF,S,F,hM,hs,hf⟩:=c;exact Zd4 i hs hM hi ht he ho hd hF hx hy hu hv (ED hr).2 λw' S' fr q hs' hp hF'=>h q fr w' ⟨hF',S',F,hM.stp hp,hs',hf.chg hp.chg λk hk hS=>hM.dj k hS hk⟩
end
section
variable{E:TypeId}{w:World}{A:Nat->Prop}{b a':Option Addr}{n c c' k:Nat}{l r:List Int}{m hi:Int}
def Bq{v:Value}(h:(TL E v l).ok w A):∃a c,v= .slice a l.length c:=by
 rcases h with⟨g,c,lo,a',c',base,h1,h2,h3,h4,rfl⟩|⟨rfl,a,rfl⟩
 all_goals simp
def Zdk(h:(TL E (.slice b n c) l).ok w A)(hk:k<=l.length):(TL E (.slice b k c) (l.take k)).ok w A:=by
 rcases h with⟨g,c0,lo,a0,c1,base,h1,h2,h3,h4,h5⟩|⟨rfl,a,h5⟩
 ·obtain⟨rfl,rfl,rfl⟩:=h5;have hb:lo.toNat+k<=base.length:=by omega
  have e:(base.take (lo.toNat+k)).length=lo.toNat+k:=by simp_all
  have e2:(l.take k).length=k:=by simp_all
  refine .inl ⟨g,c0,lo,b,c,base.take (lo.toNat+k),by rw[e];exact h1.front hb,h2,by rw[e,e2],?_,by rw[e2]⟩;simp_all[ZhZ]
 ·obtain⟨rfl,rfl,rfl⟩:=h5;obtain rfl:k=0:=by simp_all
  exact .inr ⟨rfl,b,rfl⟩
def Zep(h:(TL E (.slice b n c) l).ok w A)(hv:VW 1 b c m a' c')(hr:cut? l m hi=some r):(TL E (.slice a' r.length c') r).ok w A:=by
 unfold cut? at hr;split at hr
 ·obtain rfl:=Option.some.inj hr;have h1:=Zdk (k:=hi.toNat) h O;exact ZeR h1 hv al rfl
 ·cases hr
end
abbrev ownL(E:TypeId):Hd->List Int->HP:=λh xs=>TL E h.v xs
def Bg(E:TypeId):Owns (ownL E):=⟨rfl,rfl,λw A r x h=>RV.one rfl (Ht h)⟩
def Gp(E:TypeId)(w:World):(ownL E ⟨none,0,0⟩ []).ok w Non:=.inr ⟨rfl,none,rfl⟩
section
variable{P:Program}{B:Bs}{N:Nat}{σ:List (Nat×Value)}{Γ:List HP}{Φ:List RF}{a:Act}{w:World}{Q:Exit->Act->World->Prop}
variable{H:Prop}{β0:Type}{z0:β0}
  {ops:Array Oper}{k d d2:Nat}{t t' ty ty':TypeId}{pos pos':String}{af af':Array Edge}{x y:Operand}{E E':TypeId}{l r m:List Int}{v u:Value}{rs:List Hd}{xs:List (List Int)}
def Cx.toT(i:Nat)(c:Cx B N σ Γ Φ a w)(hi:Γ[i]? =some (SL E v l):=by rfl):Cx B N σ (Γ.set i (TL E v l)) Φ a w:=c.swap i (λ_ h=>ZcY h) hi
def Ava.gt(i:Nat)(hi:Γ[i]? =some (TL E v l):=by rfl):Ava Γ Φ w (RO v l):=λS F hs hf=>by
 obtain⟨A,h1,h2⟩:=hs.get i hi;exact RV.sub (Ht h1) λk _ hk=>.inr (h2 k hk)
def Cx.relent{b:Option Addr}{n cp:Nat}(i:Nat)(c:Cx B N σ Γ Φ a w)(hi:Γ[i]? =some (TL E (.slice b n cp) l):=by rfl):n=l.length/\Cx B N σ (Γ.set i (TL E (.slice b l.length cp) l)) Φ a w:=by
 obtain⟨_,S,F,_,hs,_⟩:=id c;obtain⟨A,h1,_⟩:=hs.get i hi;obtain⟨a',c',he⟩:=Bq h1;have he:n=l.length:=by simp_all
 subst he;exact⟨rfl,c.swap i (λ_ h=>h) hi⟩
def Eapt{f0:List Int->Option β0}(i:Nat)(hu:∀{w},Ava Γ Φ w (RO u m))(hi:Γ[i]? =some (TL E v l):=by rfl)(ho:ops[k]? =some ⟨some d,.call ⟨.builtin .append,#[x,y],#[t,t']⟩,ty,pos,af,none⟩:=by rfl)(htt:t'=t:=by rfl)(hd:Nat.blt d N=true:=by rfl)(he:ElT P E Int:=by refine elT ?_;kernel_rfl)(ht:P.underlying t=some (.slice E):=by kernel_rfl)(hx:opd σ x=some v:=by kernel_rfl)(hy:opd σ y=some u:=by kernel_rfl)(Z:∀r a' c',Gl B N (f0 r=some z0) ((d,.slice a' (List.length r) c')::σ) (Γ.set i (TL E (.slice a' (List.length r) c') r)) Φ (wpFrom P ops Q (k+1))):Gl B N ((app? l m).bind f0=some z0) σ Γ Φ (wpFrom P ops Q k):=by
 intro e9 a w c;obtain⟨r,hr,e9⟩:=bindE e9;have h:=λa' c'=>gap (Z r a' c') e9;obtain⟨F',hu⟩:=c.use hu;obtain⟨hF,S,F,hM,hs,hf⟩:=c;exact Zbd i hs hM hi ht he ho htt hd hF hx hy hu hr λa' c' w' S' fr hs' hp hF'=>h a' c' fr w' ⟨hF',S',F,hM.stp hp,hs',hf.chg hp.chg λk hk hS=>hM.dj k hS hk⟩
theorem Ecutt{lw hw:Option Operand}{b:Option Addr}{n0 cp:Nat}{lo n:Int}{f0:List Int->Option β0}(i:Nat)(hi:Γ[i]? =some (TL E (.slice b n0 cp) l):=by rfl)(ho:ops[k]? =some ⟨some d,.slice t x lw hw none,ty,pos,af,none⟩:=by rfl)(hd:Nat.blt d N=true:=by rfl)(he:Ty P E Int:=by constructor<;>kernel_rfl)(ht:P.underlying t=some (.slice E):=by kernel_rfl)(hx:opd σ x=some (.slice b n0 cp):=by kernel_rfl)(hlo:(match lw with|none=>some 0|some y=>numOf (opd σ y))=some lo:=by kernel_rfl)(hhi:(match hw with|none=>some (len l)|some y=>numOf (opd σ y))=some n:=by kernel_rfl)(Z:∀r a' c',Gl B N (f0 r=some z0) ((d,.slice a' r.length c')::σ) (Γ.set i (TL E (.slice a' r.length c') r)) Φ (wpFrom P ops Q (k+1))):Gl B N ((cut? l lo n).bind f0=some z0) σ Γ Φ (wpFrom P ops Q k):=by
 intro e9 a w c;obtain⟨r,hr,e9⟩:=bindE e9;have h:=λa' c' fr=>gap (Z r a' c') e9 fr w;obtain⟨hF,S,F,hM,hs,hf⟩:=c;obtain⟨A,hA,_⟩:=hs.get i hi;refine Zcv he ht ho hd hF hx (Ht hA) (m:=lo) (n:=n) ?_ ?_ hr λa' c' fr hv _ hF'=>h a' c' fr ⟨hF',S,F,hM,hs.swapT i hi λA hA=>Zep hA hv hr,hf⟩
 ·grind[Option.some.inj,Y7]
 ·cases hw with
  |none=>exact(Option.some.inj hhi).symm
  |some y=>simp_all[Y7]
def Eall{q:List Int}{n:Int}(i j:Nat)(hz:get? xs n=some q)(hi:Γ[i]? =some (SL E v rs):=by rfl)(hj:Γ[j]? =some (HP.all (ownL E') rs xs):=by rfl)(ho:ops[k]? =some ⟨some d,.indexAddr t x y,ty,pos,af,none⟩:=by rfl)(ho':ops[k+1]? =some ⟨some d2,.load t' (.tmp d),ty',pos',af',none⟩:=by rfl)(hd:Nat.blt d N=true:=by rfl)(hd':Nat.blt d2 N=true:=by rfl)(he:Ty P t' Hd:=by constructor<;>kernel_rfl)(ht:P.underlying t=some (.slice t'):=by kernel_rfl)(hx:opd σ x=some v:=by kernel_rfl)(hy:numOf (opd σ y)=some n:=by kernel_rfl)(Z:∀p a' c',rs[n.toNat]? =some ⟨a',q.length,c'⟩->Gl B N H ((d2,.slice a' q.length c')::(d,p)::σ) Γ Φ (wpFrom P ops Q (k+2))):Gl B N H σ Γ Φ (wpFrom P ops Q k):=by
 intro e9 a w c;obtain⟨_,S,F,_,hs,_⟩:=id c;obtain⟨A,hA,_⟩:=hs.get j hj;have hl:=UX hA;have hq:=get?_at hz;have hlt:=(ZfE.1 hq).1;have hr:rs[n.toNat]? =some rs[n.toNat]:=ZfA O;obtain⟨a',c',e⟩:=Bq (E:=E') (v:=(rs[n.toNat]).v) (l:=q) (Tz hA hr hq:(ownL E' rs[n.toNat] q).ok w A);have e':rs[n.toNat]=⟨a',q.length,c'⟩:=by
  generalize rs[n.toNat]=z at e;cases z;simp_all[Hd.v,Value.slice.injEq]
 have hg:get? rs n=some ⟨a',q.length,c'⟩:=by
  simp_all[get?,ZfC]
 refine Eel (α:=Hd) (f0:=some) (.g i hi) (Z:=λr2 p e2{fr w'}c=>?_) ho ho' hd hd' he ht hx hy (bds hg) c;obtain rfl:=Option.some.inj e2;exact Z p a' c' (by rw[hr,e']) e9 c
def Ava.ae{a':Option Addr}{c':Nat}{q:List Int}{n:Int}(j:Nat)(hr:rs[n.toNat]? =some ⟨a',q.length,c'⟩)(hz:get? xs n=some q)(hj:Γ[j]? =some (HP.all (ownL E) rs xs):=by rfl):Ava Γ Φ w (RO (.slice a' q.length c') q):=λS F hs hf=>by
 obtain⟨A,h1,h2⟩:=hs.get j hj;exact RV.sub (Ht (E:=E) ((Tz h1 hr (get?_at hz):(ownL E ⟨a',q.length,c'⟩ q).ok w A):(TL E (.slice a' q.length c') q).ok w A)) λk _ hk=>.inr (h2 k hk)
def Cx.tka{a':Option Addr}{c':Nat}{q:List Int}{n:Int}(j:Nat)(c:Cx B N σ Γ Φ a w)(hr:rs[n.toNat]? =some ⟨a',q.length,c'⟩)(hz:get? xs n=some q)(hj:Γ[j]? =some (HP.all (ownL E) rs xs):=by rfl):Cx B N σ (rest [j] Γ++[TL E (.slice a' q.length c') q]) Φ a w:=
 c.pack [HP.all (ownL E) rs xs] [j] (λA h=>(Tz (Sep.sole h) hr (get?_at hz):(ownL E ⟨a',q.length,c'⟩ q).ok w A)) (by simp[hj]) U
def Cx.fza{a':Option Addr}{c':Nat}{q:List Int}{n:Int}(i j:Nat)(c:Cx B N σ Γ Φ a w)(hr:rs[n.toNat]? =some ⟨a',q.length,c'⟩)(hz:get? xs n=some q)(hi:Γ[i]? =some (SL E' v rs):=by rfl)(hj:Γ[j]? =some (HP.all (ownL E) rs xs):=by rfl)(hne:[i,j].Nodup:=by decide):Cx B N σ (rest [i,j] Γ) (Φ++[RO v xs,RO (.slice a' q.length c') q]) a w:=by
 obtain⟨h,S,F,h1,h2,h3⟩:=c;have hp:=h2.part [i,j] (Γ1:=[SL E' v rs,HP.all (ownL E) rs xs]) aR hne;obtain⟨S',F',hM,hs,hb,hfz⟩:=Sep.freeze hp.join2 h1;refine⟨h,S',F',hM,hs,(h3.sub λk _ hk=>hfz k hk).join (AllF.of [RO v xs,RO (.slice a' q.length c') q] ⟨Ea (Bg E) hb,Ht (E:=E) ((Tz (Tv hb) hr (get?_at hz):(ownL E ⟨a',q.length,c'⟩ q).ok w F'):(TL E (.slice a' q.length c') q).ok w F'),trivial⟩)⟩
def Cx.tk2{a' a2:Option Addr}{c' c2:Nat}{q q2:List Int}{n n2:Int}(j:Nat)(c:Cx B N σ Γ Φ a w)(hr:rs[n.toNat]? =some ⟨a',q.length,c'⟩)(hz:get? xs n=some q)(hr2:rs[n2.toNat]? =some ⟨a2,q2.length,c2⟩)(hz2:get? xs n2=some q2)(hne:n2.toNat<n.toNat:=by decide)(hj:Γ[j]? =some (HP.all (ownL E) rs xs):=by rfl):
  Cx B N σ (rest [j] Γ++[TL E (.slice a' q.length c') q]) (Φ++[RO (.slice a2 q2.length c2) q2]) a w:=by
 obtain⟨h,S,F,h1,h2,h3⟩:=c;have hp:=h2.part [j] (Γ1:=[HP.all (ownL E) rs xs]) (by simp[hj]) U;have h4:Sep (HP.two (ownL E ⟨a',q.length,c'⟩ q) (.but (ownL E) n.toNat rs xs)::rest [j] Γ) w S:=Sep.imp hp λA hA=>QB hA hr (get?_at hz);have h5:=h4.two;have h6:Sep (HP.but (ownL E) n.toNat rs xs::(rest [j] Γ++[TL E (.slice a' q.length c') q])) w S:=by
  have:=Zn (Γ2:=[ownL E ⟨a',q.length,c'⟩ q]) h5;exact this
 obtain⟨S',F',hM,hs,hb,hfz⟩:=Sep.freeze h6 h1;refine⟨h,S',F',hM,hs,(h3.sub λk _ hk=>hfz k hk).add ?_⟩;have hb1:(HP.all (ownL E) (rs.take n.toNat) (xs.take n.toNat)).ok w F':=SE hb;have hb2:(ownL E ⟨a2,q2.length,c2⟩ q2).ok w F':=Tz hb1 (i:=n2.toNat) ah (by simp_all[Zgw,ZfC,get?_at]);exact Ht (E:=E) (hb2:(TL E (.slice a2 q2.length c2) q2).ok w F')
end
section
variable{P:Program}{B:Bs}{N:Nat}{σ:List (Nat×Value)}{Γ:List HP}{Φ Φ1:List RF}{a:Act}{w:World}{Q:Exit->Act->World->Prop}
variable{H:Prop}{β0:Type}{z0:β0}
  {draw:Bool}{ms:List Nat}{ops:Array Oper}{j:Nat}{dst:Option Tmp}{g:Option (Nat×Bool)}{ty:TypeId}{x:Operand}{pos:String}{af:Array Edge}
end
open Go.RowKit Go.Maps
def Bv{H:Type}{P:Program}{k:TypeId}{R:Value->Option (DataW H×List MemPlace)}{w w':World}{S:Nat->Prop}{b r n cnt:Nat}{D:DataW H}{left:Lit->Bool}
  (h:w.ranges P k R b r n D left cnt)(hc:Chg S w w')(hb:¬S b)(hr:¬S r):w'.ranges P k R b r n D left cnt:=by
 have h1:=h.owns.lt;have h2:=h.lt;obtain⟨es,clock,since,seen,c0,hb',F,hs,hD,hr',rest⟩:=h;exact⟨es,clock,since,seen,c0,(hc.block b h1 hb).trans hb',F,hs,hD,(hc.block r h2 hr).trans hr',rest⟩
def Chg.of_grownN{w w':World}(h:w.grownBy w' none):Chg Non w w':=⟨h.os,h.tape,h.output,h.size,λk hk _=>h.block k hk U⟩
section
variable{P:Program}{K V:TypeId}{κ β:Type}[Flat κ][Flat β][DecidableEq κ]
variable{H:Prop}{β0:Type}{z0:β0}
def RG(T:MapT P K V κ β)(b r:Nat)(m:List (κ×β))(left:Lit->Bool)(cnt:Nat):HP where
 ok w A:=(∃n,w.ranges P K T.R b r n (T.D m) left cnt)/\(∀p∈m,T.fit p.1=true)/\A b/\A r
 mono:=λ⟨⟨n,h⟩,hf,hb,hr⟩hA=>⟨⟨n,h⟩,hf,hA _ h.owns.lt hb,hA _ h.lt hr⟩
 keep:=λ⟨⟨n,h⟩,hf,hb,hr⟩hc hT=>⟨⟨n,Bv h hc (hT _ hb) (hT _ hr)⟩,hf,hb,hr⟩
omit [DecidableEq κ]in
theorem MapT.none_(T:MapT P K V κ β){kl:Lit}(z:DataW Value):∀m:List (κ×β),(∀p∈m,T.lit p.1≠kl)->(T.D m).atKey kl z=z
 |[],_=>rfl
 |(u,y)::m,h=>by
  rw[MapT.D,atKey_put_other (λe=>h (u,y) Zgi e.symm)];exact MapT.none_ T z m λp hp=>h p (ZfT _ hp)
omit [Flat κ] [Flat β]in
theorem LW{x:κ}:∀{m:List (κ×β)},(∃p∈m,p.1=x)->∃y,m.lookup x=some y
 |[],⟨p,hp,_⟩=>by cases hp
 | (u,y)::m,h=>by
  by_cases e:x=u
  ·subst e;exact⟨y,by simp[List.lookup]⟩
  ·have e':(x==u)=false:=by simpa using e
   obtain⟨p,hp,rfl⟩:=h;rcases ZfY.1 hp with rfl|hp
   ·exact absurd rfl e
   ·obtain⟨z,hz⟩:=LW (x:=p.1) ⟨p,hp,rfl⟩;exact⟨z,by rw[ZfZ,e'];exact hz⟩
def MapT.came(T:MapT P K V κ β){m:List (κ×β)}(hf:∀p∈m,T.fit p.1=true){kl:Lit}{v:Value}{y:DataW Value×List MemPlace}(hv:T.R v=some y)(hat:∀zd,(T.D m).atKey kl zd=y.1):
  ∃x z,T.fit x=true/\T.lit x=kl/\m.lookup x=some z/\v=Rep.val β (Flat.enc z):=by
 by_cases hk:∃p∈m,T.lit p.1=kl
 ·obtain⟨p,hp,rfl⟩:=hk;have hfit:=hf p hp;obtain⟨z,hz⟩:=LW (x:=p.1) ⟨p,hp,rfl⟩;refine⟨p.1,z,hfit,rfl,hz,?_⟩;have h1:=hat (.map []);rw[T.at_ hfit _ m hf,hz]at h1;simp only at h1;obtain⟨y1,ps⟩:=y;simp only at h1;subst h1;exact T.back v z ps hv
 ·exfalso;have hn:∀p∈m,T.lit p.1≠kl:=λp hp e=>hk ⟨p,hp,e⟩;have h1:=hat (.lit (.bool true));have h2:=hat (.lit (.bool false));rw[T.none_ _ m hn]at h1 h2;rw[<-h2]at h1;cases h1
end
section
variable{P:Program}{B:Bs}{N:Nat}{σ:List (Nat×Value)}{Γ:List HP}{Φ:List RF}{a:Act}{w:World}{Q:Exit->Act->World->Prop}{K':Act->World->Prop}
variable{H:Prop}{β0:Type}{z0:β0}
  {ops:Array Oper}{k d:Nat}{t t' ty yt:TypeId}{pos:String}{af:Array Edge}{x y:Operand}
  {K V:TypeId}{κ β:Type}[Flat κ][Flat β][DecidableEq κ]{T:MapT P K V κ β}{b r:Nat}{m:List (κ×β)}{left:Lit->Bool}{cnt:Nat}
def Ern(i:Nat)(hi:Γ[i]? =some (MP T b m):=by rfl)(ho:ops[k]? =some ⟨some d,.range t x,ty,pos,af,none⟩:=by rfl)(hd:Nat.blt d N=true:=by rfl)(ht:P.underlying t=some (.map K V):=by kernel_rfl)(hx:opd σ x=some (.map (some b)):=by kernel_rfl)(Z:∀r,Gl B N H ((d,.pointer (some ⟨r,0,none⟩))::σ) (Γ.set i (RG T b r m (Maps.has (T.D m)) (Maps.size (T.D m)))) Φ (wpFrom P ops Q (k+1))):Gl B N H σ Γ Φ (wpFrom P ops Q k):=by
 intro e9 a w c;have h:=λr=>gap (Z r) e9;obtain⟨hF,S,F,hM,hs,hf⟩:=c;obtain⟨A,⟨hown,hA⟩,hup⟩:=hs.upd i hi hM;obtain⟨w',hrun,hrg,hg,hsz⟩:=hown.1.range T.keyed ht;refine Zp hF ho rfl rfl (ZfW.mp hd) (R:=λz w1=>z= .pointer (some ⟨w.heap.size,0,none⟩)/\w1=w') (Zh ?_ ⟨rfl,rfl⟩) λz w1 fr hz hF'=>?_
 ·simp[execOp,Zd hF hx,hrun]
 ·obtain⟨rfl,rfl⟩:=hz;obtain⟨S',hp,hs'⟩:=hup (P':=RG T b w.heap.size m (Maps.has (T.D m)) (Maps.size (T.D m))) (Chg.of (Chg.of_grownN hg)) ⟨⟨_,hrg⟩,hown.2,.inl hA,.inr (ZfP _)⟩;exact h _ fr w1 ⟨hF',S',F,hM.stp hp,hs',hf.chg hp.chg λk hk hS=>hM.dj k hS hk⟩
def Enx(i:Nat)(hback:∀key x,keyOf P K key=some (T.lit x)->key=Rep.val κ (Flat.enc x))(c:Cx B N σ Γ Φ a w)
  (Z:(∀kl,left kl=false)->∀fr,Cx B N ((d,.tuple #[.bool false])::σ) Γ Φ fr w->wpFrom P ops Q (k+1) fr w)
  (h1:∀(u:κ)(z:β)cnt' fr w',T.fit u=true->m.lookup u=some z->left (T.lit u)=true->cnt'<cnt->(Instr.entry (.pointer (some ⟨r,0,none⟩))).run P w'= .ok (.tuple #[Rep.val κ (Flat.enc u),Rep.val β (Flat.enc z)]) w'->Cx B N ((d,.tuple #[.bool true,Rep.val κ (Flat.enc u),Rep.val β (Flat.enc z)])::σ) (Γ.set i (RG T b r m (λq=>left q&& !q.sameKey (T.lit u)) cnt')) Φ fr w'->wpFrom P ops Q (k+1) fr w')
  (hi:Γ[i]? =some (RG T b r m left cnt):=by rfl)(ho:ops[k]? =some ⟨some d,.next x false,ty,pos,af,none⟩:=by rfl)(hd:Nat.blt d N=true:=by rfl)(hx:opd σ x=some (.pointer (some ⟨r,0,none⟩)):=by kernel_rfl):wpFrom P ops Q k a w:=by
 obtain⟨hF,S,F,hM,hs,hf⟩:=c;obtain⟨A,⟨⟨n,hrg⟩,hfit,hAb,hAr⟩,hup⟩:=hs.upd i hi hM;rcases hrg.next T.keyed ty with⟨_,hl,hrun⟩|⟨key,v,kl,y,w',cnt',hkey,hlk,hv,hat,hrun,hrg',hlt,hgr,hsz,hen⟩
 ·refine Zp hF ho rfl rfl (ZfW.mp hd) (R:=λz w1=>z= .tuple #[.bool false]/\w=w1) (Zh ?_ ⟨rfl,rfl⟩) λz w1 fr hz hF'=> ?_
  ·simp[execOp,Zd hF hx,hrun]
  ·obtain⟨rfl,rfl⟩:=hz;exact Z hl fr ⟨hF',S,F,hM,hs,hf⟩
 ·obtain⟨u,z,hu,rfl,hz,rfl⟩:=T.came hfit hv hat;obtain rfl:=hback key u hkey;refine Zp hF ho rfl rfl (ZfW.mp hd) (R:=λq w1=>q= .tuple #[.bool true,Rep.val κ (Flat.enc u),Rep.val β (Flat.enc z)]/\w1=w') (Zh ?_ ⟨rfl,rfl⟩) λq w1 fr hq hF'=>?_
  ·simp[execOp,Zd hF hx,hrun]
  ·obtain⟨rfl,rfl⟩:=hq;have hc:Chg A w w1:=(Chg.of_grown hgr).mono λk hk=>by subst hk;exact hAr
   obtain⟨S',hp,hs'⟩:=hup (P':=RG T b r m (λq=>left q&& !q.sameKey (T.lit u)) cnt') hc ⟨⟨n,hrg'⟩,hfit,.inl hAb,.inl hAr⟩;exact h1 u z cnt' fr w1 hu hz hlk hlt hen ⟨hF',S',F,hM.stp hp,hs',hf.chg hp.chg λk hk hS=>hM.dj k hS hk⟩
def Een{v:Value}(c:Cx B N σ Γ Φ a w)(hen:(Instr.entry (.pointer (some ⟨r,0,none⟩))).run P w= .ok v w)(h:∀fr,Cx B N ((d,v)::σ) Γ Φ fr w->wpFrom P ops Q (k+1) fr w)
  (ho:ops[k]? =some ⟨some d,.entry x,ty,pos,af,none⟩:=by rfl)(hd:Nat.blt d N=true:=by rfl)(hx:opd σ x=some (.pointer (some ⟨r,0,none⟩)):=by kernel_rfl):wpFrom P ops Q k a w:=
 Zp c.fr ho rfl rfl (ZfW.mp hd) (R:=λq w1=>q=v/\w=w1) (Zh (by simp[execOp,Zd c.fr hx,hen]) ⟨rfl,rfl⟩) λq w1 fr hq hF'=>by
  obtain⟨rfl,rfl⟩:=hq;exact h fr (c.to hF')
theorem Zer{c:Code}(I:Nat->Act->World->Prop){n:Nat}(Z:I n a w)(round:∀n a w,I n a w->c.wp P (Exit.then (λa' w'=>∃n',n'<n/\I n' a' w') Q) a w):(Code.loop c).wp P Q a w:=by
 have key:∀n a w,I n a w->∀(b:Frame)(K:List Item)(cs:List Frame),
   ∃e a' w',Q e a' w'/\Arrives P (lone (b.at a (.code c:: .inLoop c::K)) cs w) b K cs e a' w':=by
  intro n
  induction n using Nat.strongRecOn with
  | ind n ih=>
   intro a w hI b K cs;obtain⟨e,a₁,w₁,hq,harr⟩:=round n a w hI b (.inLoop c::K) cs;cases e with
   |normal=>
    obtain⟨n',hn,hI'⟩:=hq;obtain⟨e₂,a₂,w₂,hq₂,harr₂⟩:=ih n' hn a₁ w₁ hI' b K cs;exact⟨e₂,a₂,w₂,hq₂,.of_steps (Steps.trans harr (.one step_inLoop)) harr₂⟩
   |exit id=>exact⟨_,a₁,w₁,hq,.pass (x:=.inLoop c) rfl (λ_ _=>.inl U) harr⟩
   |goto l=>exact⟨_,a₁,w₁,hq,.pass (x:=.inLoop c) rfl (λ_ _=>.inl U) harr⟩
   |ret=>exact⟨_,a₁,w₁,hq,.pass (x:=.inLoop c) rfl (λ_ _=>.inl U) harr⟩
   |panic ch=>exact⟨_,a₁,w₁,hq,.pass (x:=.inLoop c) rfl (λ_ _=>.inl U) harr⟩
   |outgrown=>exact⟨_,a₁,w₁,hq,.pass (x:=.inLoop c) rfl (λ_ _=>.inl U) harr⟩
 intro b K cs;obtain⟨e,a',w',hq,harr⟩:=key n a w Z b K cs;exact⟨e,a',w',hq,.of_steps (.one step_loop) harr⟩
def LpW{id:Nat}{bd:Code}(I:Nat->Act->World->Prop)(M:Act->World->Prop){n:Nat}(Z:I n a w)
  (round:∀n a w,I n a w->bd.wp P (Exit.then (λa' w'=>∃n',n'<n/\I n' a' w') (Exit.inBlock id (Exit.then M Q))) a w)(cont:∀a w,M a w->K' a w):(Code.block id (.loop bd)).wp P (Exit.then K' Q) a w:=
 wp_cut (wp_block (Zer I Z round)) cont
end
open Go.RowKit Go.Shelf Go.Sort Go.Proofs Go.Lib
def Fy{w:World}{g:Nat}{cur:Array Value}{e:TypeId}{F:Array Value}(hb:w.heap[g]? =some (.cells cur e (0,0)))(ht:cur.toList.take F.size=F.toList):Holds id w g 0 F:=by
 intro j hj;refine⟨?_,by simp_all[World.frozen?]⟩;have h1:(cur.toList.take F.size)[j]? =F.toList[j]?:=by rw[ht]
 rw[Zhj hj]at h1;simp_all[World.cell?,Zhl,ZhV,ZfB,ZfK,Zhw]
def Ed{w:World}{g n:Nat}{os:Array Obj}{cur:Array Value}{e:TypeId}{fr:Nat×Nat}(F:Array Value)(hb:w.heap[g]? =some (.cells cur e fr)):
  (grow (putRow id (Sort.ahead w n) g 0 F) os).heap[g]? =some (.cells (putCells id 0 F cur) e fr):=by
 grind[Array.getElem?_eq_some_iff,heap_grow_old,putRow,mapBlock,Sort.ahead,onCells]
def Kk{w:World}{g n:Nat}{os:Array Obj}(F:Array Value):w.grownBy (grow (putRow id (Sort.ahead w n) g 0 F) os) (some g):=by
 refine⟨rfl,rfl,rfl,by simp,λk hk hne=>?_⟩;grind[heap_grow_old,putRow,mapBlock,Sort.ahead]
def KW(cur F:Array Value)(h:F.size<=cur.size):(putCells id 0 F cur).toList.take F.size=F.toList:=by
 apply Zgy;grind[List.getElem?_take_of_lt,putCells,List.getElem?_take_eq_none,List.getElem?_eq_none]
section
variable{α:Type}[Flat α][Inhabited α]
omit[Inhabited α]in
def AU(x:α):(Flat.enc x).length=Rep.sz α:=Rep.len (w:=default) (F:=Non) (Flat.iff.2 rfl:Rep.ok default Non (Flat.enc x) x)
omit [Inhabited α]in
def De{w:World}{F:Nat->Prop}{css:List (List Value)}{l:List α}(h1:Css w F css l):css=l.map Flat.enc:=by
 apply Zgy;intro i;rw[Zgp];by_cases hi:i<l.length
 ·have hc:i<css.length:=by rw[h1.1];exact hi
  have:=h1.2 i css[i] l[i] (ZfA hc) (ZfA hi);rw[ZfA hc,ZfA hi,Flat.iff.1 this];rfl
 ·rw[Zgd (by rw[h1.1];omega),Zgd O];rfl
omit [Flat α] [Inhabited α]in
theorem AX{k:Nat}(enc:α->List Value)(hk:∀x,(enc x).length=k)(Z:0<k):∀(l:List α)(t:Nat),(l.map enc).flatten[t]? =(l[t/k]?).bind λx=>(enc x)[t%k]?
 |[],t=>by simp
 | x::l,t=>by
  rw[Zgu,ZgZ];by_cases h:t<k
  ·rw[Zgs (by rw[hk];exact h),Nat.div_eq_of_lt h,Nat.mod_eq_of_lt h];rfl
  ·rw[Zgo (by rw[hk];omega),hk,AX enc hk Z l];obtain⟨u,rfl⟩:∃u,t=u+k:=⟨t-k,by omega⟩;rw[Nat.add_sub_cancel,Nat.add_div_right _ Z,Nat.add_mod_right];rfl
omit [Flat α]in
theorem Bn{k:Nat}(enc:α->List Value)(hk:∀x,(enc x).length=k)(Z:0<k)(l:List α):(flatK enc k l.toArray).toList=(l.map enc).flatten:=by
 have hlen:(l.map enc).flatten.length=l.length*k:=by
  clear Z
  induction l with
  |nil=>simp
  |cons x l ih=>rw[Zgu,ZgZ,ZfI,hk,ih,ZfS,Zh9,Nat.one_mul,Nat.add_comm]
 apply Zgy;intro t;by_cases ht:t<l.length*k
 ·rw[AX enc hk Z];have hq:t/k<l.length:=Nat.div_lt_of_lt_mul (by rw[Nat.mul_comm];exact ht);have hm:t%k<k:=Nat.mod_lt _ Z;have h1:=get_flatK enc k l.toArray t (by simpa using ht);have h2:t<(flatK enc k l.toArray).size:=by simpa using ht
  rw[Zhw,Zgt h2];rw[getElem!_pos _ t h2]at h1;rw[h1];have h3:l.toArray[t/k]! =l[t/k]:=by simp[hq]
  rw[h3,ZfA hq];simp only[Zf9];rw[ZfA (by rw[hk];exact hm),getElem!_pos _ _ (by rw[hk];exact hm)]
 ·rw[Zgd (by simpa using ht),Zgd (by rw[hlen];omega)]
def OwnS.sortedF{w:World}{E:TypeId}{go:Option Nat}{G:Nat->Prop}{a:Option Addr}{n c:Nat}{l:List α}(h:OwnS w E go G Non (.slice a n c) l)(hl:n≠0)(Z:0<Rep.sz α):
  n=l.length/\∃g,a=some ⟨g,0,none⟩/\g<w.heap.size/\HoldsK Flat.enc (Rep.sz α) w g 0 l.toArray/\
   ∀k os(l':List α),l'.length=l.length->OwnS (grow (putRowK Flat.enc (Rep.sz α) (Sort.ahead w k) g 0 l'.toArray) os) E go G Non (.slice a n c) l'/\Chg (λk=>go=some k) w (grow (putRowK Flat.enc (Rep.sz α) (Sort.ahead w k) g 0 l'.toArray) os):=by
 obtain⟨F,css,h1,h2,h3,h4,h5⟩:=h;rcases h2.2 with⟨hn,hz⟩|⟨g,cap,cur,hv,hb,hg,hnc,hcm,hcs,htake⟩
 ·simp_all
 obtain⟨rfl,rfl,rfl⟩:=hv;obtain rfl:=De h1;have hgo:go=some g:=by rw[<-h3];rfl
 have hgs:g<w.heap.size:=(Zgg.1 hg).1;have hfl:∀l':List α,(flatK Flat.enc (Rep.sz α) l'.toArray).toList=(l'.map Flat.enc).flatten:=λl'=>Bn _ AU Z l';have hsz:∀l':List α,(flatK Flat.enc (Rep.sz α) l'.toArray).size=l'.length*Rep.sz α:=λl'=>by simp
 refine⟨rfl,g,rfl,hgs,Fy hg ah,λk os l' hlen=>?_⟩;have hgr:=Kk (w:=w) (g:=g) (n:=k) (os:=os) (flatK Flat.enc (Rep.sz α) l'.toArray);have hchg:Chg (λk=>go=some k) w (grow (putRowK Flat.enc (Rep.sz α) (Sort.ahead w k) g 0 l'.toArray) os):=
  ⟨hgr.os,hgr.tape,hgr.output,hgr.size,λk hk hn=>hgr.block k hk λe=>hn ah⟩
 have htk:=KW cur (flatK Flat.enc (Rep.sz α) l'.toArray) (by simp_all[ZgF]);rw[hsz,hfl]at htk;refine⟨⟨Non,l'.map Flat.enc,Oa _,⟨?_,.inr ⟨g,c,_,by rw[hlen],hb,Ed _ hg,by omega,hcm,by simp_all[putCells],htk⟩⟩,h3,λg' hg'=>⟨(h4 g' hg').1,id⟩,λ_ h=>h.elim⟩,hchg⟩;grind
def SrtP(cf:α->α->Int)(l l':List α):Prop:=l'.Perm l/\l'.Pairwise λx y=>ltOf cf y x=false
omit [Flat α]in
def ZeW{cf:α->α->Int}{l:List α}{d':Array α}(hp:PermIn 0 l.toArray.size l.toArray d')(hs:SortedIn (ltOf cf) 0 l.toArray.size d'):SrtP cf l d'.toList:=by
 obtain⟨h1,_,h3⟩:=hp;have e:d'.extract 0 l.toArray.size=d':=by rw[<-h1];simp
 rw[e]at h3;refine⟨by simpa using h3,ZgM.2 λi j hi hj hij=>?_⟩;have h:=hs i j (Zg9 _) hij (by rw[<-h1];simpa using hj);rw[getElem!_pos d' i (by simpa using hi),getElem!_pos d' j (by simpa using hj)]at h;simpa using h
def Zbf{P:Program}{ρ:Ren}(Ly:SlLaysF0.n6 P ρ){f g:Nat}(hf:ρ.f 6=f)(aE:∀w,(isAgg (ρ.t 24)).run P w= .ok true w)(zE:∀w,(Go.sizeOf (ρ.t 24)).run P w= .ok (Rep.sz α) w)(Z:0<Rep.sz α)(h1:∀x:α,∀v∈Flat.enc x,v.oneCell'=true)
  (cf:α->α->Int)(hO:SWO (ltOf cf))(eg:∀args w,(callFunc g args).run P w= .ok (.enter g args) w)
  (hcmp:∀(x y:α)W,Calls P g #[.agg (Flat.enc x).toArray,.agg (Flat.enc y).toArray] W λe w'=>e= .returned (.int .i64 (cf x y))/\∃q os',w'=grow (W.drewN q) os')
  {E:TypeId}{l:List α}(hl:l.length<4611686018427387904){a:Option Addr}{n c:Nat}:
  Con P f [.slice a n c,.func (.func g) #[] #[]] [SL E (.slice a n c) l] [] λ(i:{l':List α//SrtP cf l l'})=>([],[SL E (.slice a n c) i.1],[]):=by
 subst hf;intro w S F hs hfx hS hF hd;have hM:Mem w S F w S F:=Mem.start hS hF hd;obtain⟨hn,_⟩:=hs.relen 0 rfl;obtain⟨A,hok,hup⟩:=hs.upd 0 rfl hM;by_cases hz:n=0
 ·have hnil:l=[]:=Zg7 O;subst hz hnil;refine(AnyF.slices_SortFunc_none Ly a c (.func (.func g) #[] #[]) w).mono ?_;rintro e w' ⟨rfl,rfl⟩;exact⟨⟨[],List.Perm.nil,List.Pairwise.nil⟩,S,F,rfl,hM,hs,λR hR=>by cases hR⟩
 ·rcases hok with⟨go,ho⟩|⟨rfl,q,hq⟩
  ·obtain⟨rfl,b,rfl,hb,hH,hnext⟩:=ho.sortedF hz Z;have hc:CmpLays P g #[] Flat.enc (Rep.sz α) cf b 0 l.toArray.size w:=λm os dk _ x y=>hcmp x y _;refine(AnyQ.slices_SortFunc Ly (Rep.sz α) aE zE Flat.enc AU h1 cf hO g #[] b 0 c l.toArray w eg hc hH hb O).mono ?_;rintro e w' ⟨rfl,d',m,os,hp,hsd,rfl⟩;have hsr:=ZeW hp hsd;obtain⟨g1,g2⟩:=hnext m os d'.toList (by simpa using hp.1);obtain⟨S',hp',hs'⟩:=hup (P':=SL E (.slice (some ⟨b,0,none⟩) l.length c) d'.toList) (g2.mono λk hk=>ho.inG hk) (.inl ⟨go,g1.regard λk _ hk=>.inl hk⟩);refine⟨⟨d'.toList,hsr⟩,S',F,rfl,?_,?_,λR hR=>by cases hR⟩
   ·simpa[sortWorldK]using hM.stp hp'
   simp_all[sortWorldK]
  simp_all
end
theorem Gq:∀x:List UInt8,Op.bytesLess x x=false
 |[]=>rfl
 |a::x=>by simp[Op.bytesLess,Gq x]
theorem LZ:∀x y z:List UInt8,Op.bytesLess x y=true->Op.bytesLess y z=true->Op.bytesLess x z=true
 |_,_,[]=>by simp[Op.bytesLess]
 |_,[],_::_=>by simp[Op.bytesLess]
 |[],_::_,_::_=>by intro _ _;rfl
 | a::x,b::y,c::z=>by
  intro h1 h2;simp only[Op.bytesLess,Zgx,ZfN,ZfF,Zhc]at h1 h2⊢;rcases h1 with h1|⟨rfl,h1⟩
  ·grind
  ·rcases h2 with h2|⟨rfl,h2⟩
   ·exact .inl h2
   ·exact .inr ⟨rfl,LZ x y z h1 h2⟩
theorem Gy:∀x y:List UInt8,Op.bytesLess x y=false->x≠y->Op.bytesLess y x=true
 |[],[]=>λ_ h=>absurd rfl h
 |_::_,[]=>λ_ _=>rfl
 |[],_::_=>λh _=>by simp_all[Op.bytesLess]
 | a::x,b::y=>by
  intro h1 h2;simp only[Op.bytesLess,Zhe,decide_eq_false_iff_not,Zgx,ZfN,ZfF,Zhc]at h1⊢;by_cases e:a=b
  ·subst e;have:Op.bytesLess x y=false:=by simp_all
   exact .inr ⟨rfl,Gy x y this (λh=>h2 (by rw[h]))⟩
  grind
theorem Zdp(a b:Str):Str.ltb a b=Op.bytesLess a.bytes b.bytes:=by simp[Str.ltb,Go.Lib.toList_data]
theorem QV(a:Str):Str.ltb a a=false:=by simp[Zdp,Gq]
theorem Qv{a b c:Str}(h1:Str.ltb a b=true)(h2:Str.ltb b c=true):Str.ltb a c=true:=by grind[Zdp,LZ]
theorem GU{a b:Str}(h1:Str.ltb a b=false)(h2:a≠b):Str.ltb b a=true:=by
 exact Gy _ _ h1 λe=>h2 (by cases a;simp_all)
abbrev ltV(a b:D.Value):Prop:=Str.ltb a.Name b.Name=true
theorem Oj:∀m:List (Str×Int),(vtab m).Pairwise ltV
 |[]=>List.Pairwise.nil
 |(s,w)::m=>by
  have ih:=Oj m;unfold vtab;rw[ZfO,Zhf];refine⟨ih.filter _,?_,λa ha b hb=>?_⟩
  ·grind
  ·all_goals grind[Qv]
theorem Qo(v:D.Value):∀m:List (Str×Int),v∈vtab m↔m.lookup v.Name=some v.W/\v.N=0
 |[]=>by simp[vtab]
 | (s,w)::m=>by
  have ih:=Qo v m;unfold vtab;simp only[ZfG,Zgv,ZfL,ih,ZfZ];by_cases e:v.Name=s
  ·subst e;simp only[QV,ZfB,and_false,false_or,or_false,Zh8,Option.some.injEq];constructor
   ·grind
   ·cases v;simp_all
  ·have e':(v.Name==s)=false:=by simpa using e
   rw[e'];have hne:v≠⟨s,w,0⟩:=λh=>e (by rw[h]);by_cases h:Str.ltb v.Name s=true
   all_goals simp_all[Zh6,or_false,id,GU]
theorem Zcq:∀{l l':List D.Value},l.Pairwise ltV->l'.Pairwise ltV->(∀v,v∈l↔v∈l')->l=l'
 |[],[],_,_,_=>rfl
 |[],y::l',_,_,h=>by grind[List.mem_cons_self]
 |x::l,[],_,_,h=>by grind[List.mem_cons_self]
 | x::l,y::l',h1,h2,h=>by
  rw[Zhs]at h1 h2;have hxy:x=y:=by
   grind[List.mem_cons_self,Qv,QV]
  congr 1;refine Zcq h1.2 h2.2 λv=>?_;have:=h v;simp only[ZfY]at this;constructor
  ·intro hv;rcases this.1 (.inr hv)with e|hv'
   ·have h3:=h1.1 v hv;simp_all[ltV,QV]
   ·exact hv'
  ·intro hv;rcases this.2 (.inr hv)with e|hv'
   ·have h3:=h2.1 v hv;simp_all[ltV,QV]
   ·exact hv'
def cmpS(a b:Str):Int:=if Str.ltb a b then-1 else if Str.gtb a b then 1 else 0
def cmpV(x y:D.Value):Int:=cmpS x.Name y.Name
theorem ZeP(a b:Str):Str.gtb a b=Str.ltb b a:=by
 have h:Str.gtb a b= !(Str.ltb a b||Str.eqb a b):=rfl;by_cases e:a=b
 ·simp_all[QV,Str.eqb]
 ·have he:Str.eqb a b=false:=by
   unfold Str.eqb;have:a.bytes≠b.bytes:=λh=>e (by cases a;simp_all);simp_all
  grind[Str.ltb,Qv,QV,GU]
theorem KN(x y:D.Value):Go.Proofs.ltOf cmpV x y=Str.ltb x.Name y.Name:=by
 grind[Go.Proofs.ltOf,cmpV,cmpS,ZeP,Str.ltb]
def swoV:Go.Sort.SWO (Go.Proofs.ltOf cmpV)where
 irrefl x:=by simp[KN,QV]
 trans x y z h1 h2:=by grind[KN,Qv]
 ntrans x y z h1 h2:=by
  grind[KN,Str.ltb,GU,Qv]
theorem Cu:∀{l l':List D.Value},(l.Pairwise λa b=>a.Name≠b.Name)->(∀v∈l,v∈l')->l.length<=l'.length
 |[],_,_,_=>Zg9 _
 | x::l,l',hn,h=>by
  rw[Zhs]at hn;obtain⟨s,t,rfl⟩:=List.append_of_mem (h x Zgi);have:=Cu (l:=l) (l':=s++t) hn.2 λv hv=>by
   grind
  grind
theorem Md:∀m:List (Str×Int),(vtab m).length<=m.length
 |[]=>ZfP _
 | (s,w)::m=>by
  have ih:=Md m;have key:∀l:List D.Value,(l.filter λv=>Str.ltb v.Name s).length+(l.filter λv=>Str.ltb s v.Name).length<=l.length:=by
   intro l
   induction l with
   |nil=>simp
   |cons v l ihl=>
    grind[Str.ltb,Qv,QV]
  grind[vtab]
def oP(b:Bool)(k:Nat):Value:=cond b (B k 0) (.pointer none)
def HP.on(b:Bool)(l:List HP):HP:=cond b (HP.sep l) (HP.pure True)
section
variable{P:Program}{B:Bs}{N:Nat}{σ:List (Nat×Value)}{Γ:List HP}{Φ:List RF}{a:Act}{w:World}{K:Act->World->Prop}{Q:Exit->Act->World->Prop}{ops:Array Oper}{k d:Nat}{ty t:TypeId}{pos:String}{af:Array Edge}
variable{H:Prop}{β0:Type}{z0:β0}
def Cx.opn{b:Bool}{l:List HP}(i:Nat)(hb:b=true)(c:Cx B N σ Γ Φ a w)(hi:Γ[i]? =some (HP.on b l):=by rfl):Cx B N σ (rest [i] Γ++l) Φ a w:=by
 subst hb;exact c.flat i hi
def Cx.onf(c:Cx B N σ Γ Φ a w):Cx B N σ (Γ++[HP.pure True]) Φ a w:=c.gam λS h=>Zn (Γ2:=[HP.pure True]) (Γ:=Γ) (by
 exact Sep.mk_cons (P:=HP.pure True) (A:=Non) (B:=S) True.intro h (λ_ h _=>h.elim) (λ_ h=>h.elim) λ_ h=>h)
def Cx.onp(l:List HP)(gs:List Nat)(c:Cx B N σ Γ Φ a w)(hL:gs.map (λi=>Γ[i]?)=l.map some:=by rfl)(hn:gs.Nodup:=by decide):Cx B N σ (rest gs Γ++[HP.on true l]) Φ a w:=c.pack (H:=HP.sep l) l gs (λ_ h=>h) hL hn
def Cx.eli{v:Value}{l:List Int}{n x:Int}(c:Cx B N σ Γ Φ a w)(hl:Ava [] Φ w (RO v l))(hx:get? l n=some x):∃p,Cx B N σ Γ (Φ++[EA Int v n p (.int .i64 x)]) a w:=by
 obtain⟨p,u,hF,S,F,h1,h2,h3⟩:=c.elp hl hx;have hr:RV w F u x:=h3 (RO u x) U;have e:u= .int .i64 x:=hr.flat;refine⟨p,hF,S,F,h1,h2,λR hR=>h3 R ?_⟩;grind
def Ih{x y:Code}{o:Operand}{β:Type}{X Y:Option β}{r:Option β}{b:Bool}(c:Cx B N σ Γ Φ a w)(h:(if b=true then X else Y)=r)(ht:b=true->X=r->x.wp P Q a w)(hf:b=false->Y=r->y.wp P Q a w)(hb:opd σ o=some (.bool b):=by kernel_rfl):
  (Code.cond o x y).wp P Q a w:=AR c.fr hb (λhb=>ht hb (iteT hb h)) λhb=>hf hb (iteF hb h)
def bT{b:Bool}(h:(!b)=false):b=true:=by simpa using h
theorem Ebu{v:Value}{parts:Array (Nat×Operand)}(vs:Array (Nat×Value))(ho:ops[k]? =some ⟨some d,.build t parts,ty,pos,af,none⟩:=by rfl)(hd:Nat.blt d N=true:=by rfl)(hp:parts.toList.map (λp=>(p.1,opd σ p.2))=vs.toList.map (λp=>(p.1,some p.2)):=by kernel_rfl)(hr:∀w,(Instr.build t vs).run P w= .ok v w:=by intro _;kernel_rfl)(Z:Gl B N H ((d,v)::σ) Γ Φ (wpFrom P ops Q (k+1))):Gl B N H σ Γ Φ (wpFrom P ops Q k):=by
 intro e9 a w c;have h:=λfr=>gap Z e9 fr w;have hpv:parts.map (λp=>(p.1,a.eval p.2))=vs:=by
  apply Array.ext';rw[Array.toList_map];have:∀(l:List (Nat×Operand))(m:List (Nat×Value)),l.map (λp=>(p.1,opd σ p.2))=m.map (λp=>(p.1,some p.2))->l.map (λp=>(p.1,a.eval p.2))=m:=by
   intro l
   induction l with
   |nil=>simp
   | cons p l ih=>
    intro m hm;cases m with
    |nil=>cases hm
    |cons q m=>
     simp only[Zgu,List.cons.injEq,Prod.mk.injEq]at hm;obtain⟨⟨h1,h2⟩,h3⟩:=hm;rw[Zgu,ih m h3,Zd c.fr h2,h1]
  grind
 exact Zp c.fr ho rfl rfl (ZfW.mp hd) (R:=λq w1=>q=v/\w=w1) (Zh (by simp_all[execOp]) ⟨rfl,rfl⟩) λq w1 fr hq hF'=>by
  obtain⟨rfl,rfl⟩:=hq;exact h fr (c.to hF')
def Eai{x y:Operand}{u v n:Int}{f0:Int->Option β0}(ho:ops[k]? =some ⟨some d,.index t x y,ty,pos,af,none⟩:=by rfl)(hd:Nat.blt d N=true:=by rfl)(hx:opd σ x=some (.agg #[.int .i64 u,.int .i64 v]):=by kernel_rfl)(hy:opd σ y=some (.int .i64 n):=by kernel_rfl)(g0:∀w,(Instr.index t (.agg #[.int .i64 u,.int .i64 v]) (.int .i64 0)).run P w= .ok (.int .i64 u) w:=by intro _;kernel_rfl)(g1:∀w,(Instr.index t (.agg #[.int .i64 u,.int .i64 v]) (.int .i64 1)).run P w= .ok (.int .i64 v) w:=by intro _;kernel_rfl)(Z:∀r,Gl B N (f0 r=some z0) ((d,.int .i64 r)::σ) Γ Φ (wpFrom P ops Q (k+1))):Gl B N ((get? [u,v] n).bind f0=some z0) σ Γ Φ (wpFrom P ops Q k):=by
 intro e9 a w c;obtain⟨r,hz,e9⟩:=bindE e9;have h:=λfr=>gap (Z r) e9 fr w;have hn:=get?_nn hz;have hat:=get?_at hz;have hr:(Instr.index t (.agg #[.int .i64 u,.int .i64 v]) (.int .i64 n)).run P w= .ok (.int .i64 r) w:=by
  grind
 exact Zp c.fr ho rfl rfl (ZfW.mp hd) (R:=λq w1=>q= .int .i64 r/\w=w1) (Zh (by simp only[execOp];rw[Zd c.fr hx,Zd c.fr hy];simp[hr]) ⟨rfl,rfl⟩) λq w1 fr hq hF'=>by
  obtain⟨rfl,rfl⟩:=hq;exact h fr (c.to hF')
end
structure JP where
 z:Int
 h:Hd
instance:Rep JP where
 sz:=2
 agg:=true
 ok:=λw F cs x=>cs=[.int .i64 x.z,x.h.v]
 len:=by simp
 one:=by rintro w F cs x rfl u hu;simp at hu;rcases hu with rfl|rfl<;>rfl
 pos:=by decide
 sgl:=λh=>by cases h
 keep:=λh _=>h
instance:Flat JP where
 enc:=λx=>[.int .i64 x.z,x.h.v]
 iff:=Iff.rfl
def PK(E:TypeId)(v:Value){β:Type}(xs:List β):HP:=.ex λraws:List JP=>.two (.pure (raws.length=xs.length)) (SL E v raws)
theorem PK.intro{E:TypeId}{v:Value}{β:Type}{xs:List β}{raws:List JP}{L:List HP}{w:World}{S:Nat->Prop}(hl:raws.length=xs.length)(h:Sep (SL E v raws::L) w S):Sep (PK E v xs::L) w S:=
 h.imp λA hA=>⟨raws,Non,A,hl,hA,λ_ h _=>h.elim,λ_ h=>h.elim (λh=>h.elim) id⟩
def PK.elim{E:TypeId}{v:Value}{β:Type}{xs:List β}{L:List HP}{w:World}{S:Nat->Prop}(h:Sep (PK E v xs::L) w S):∃raws:List JP,raws.length=xs.length/\Sep (SL E v raws::L) w S:=by
 obtain⟨A,R,⟨raws,B,C,h1,h2,h3,h4⟩,k2,k3,k4,k5⟩:=h.cons_ok;exact⟨raws,h1,Sep.mk_cons h2 k2 (λk hc hr=>k3 k (h4 k (.inr hc)) hr) (λk hc=>k4 k (h4 k (.inr hc))) k5⟩
section
variable{P:Program}{B:Bs}{N:Nat}{σ:List (Nat×Value)}{Γ:List HP}{Φ:List RF}{a:Act}{w:World}{K:Act->World->Prop}{Q:Exit->Act->World->Prop}{ops:Array Oper}{k d d2:Nat}{ty ty2 t t1 t':TypeId}{pos pos2:String}{af af2:Array Edge}
variable{H:Prop}{β0:Type}{z0:β0}
theorem Cx.pkn{β:Type}(E:TypeId)(c:Cx B N σ Γ Φ a w):Cx B N σ (Γ++[PK E (.slice none 0 0) ([]:List β)]) Φ a w:=(c.nil (α:=JP) E).gam λS h=>by
 have h2:=h.part [Γ.length] (Γ1:=[SL E (.slice none 0 0) ([]:List JP)]) U U;have h3:=PK.intro (xs:=([]:List β)) rfl h2;have h4:rest [Γ.length] (Γ++[SL E (.slice none 0 0) ([]:List JP)])=Γ:=by
  have h:∀(L:List HP)(j:Nat)(x:HP),restG [j+L.length] j (L++[x])=L:=by
   intro L
   induction L with
   |nil=>simp[cond,memN,Nat.beq_refl,restG]
   |cons y L ih=>
    intro j x;have e:memN [j+(y::L).length] j=false:=by simp[KH]
    show cond (memN [j+(y::L).length] j) _ _=_;rw[e];show y::restG [j+(y::L).length] (j+1) (L++[x])=y::L;rw[show j+(y::L).length=(j+1)+L.length from by simp;omega,ih]
  have:=h Γ 0 (SL E (.slice none 0 0) ([]:List JP));rw[Zhl]at this;exact this
 simp_all[Zn,PK]
def Cx.pke{β:Type}{E:TypeId}{v:Value}{xs:List β}(i:Nat)(c:Cx B N σ Γ Φ a w)(hi:Γ[i]? =some (PK E v xs)):∃raws:List JP,raws.length=xs.length/\Cx B N σ (SL E v raws::rest [i] Γ) Φ a w:=by
 obtain⟨h,S,F,h1,h2,h3⟩:=c;have hp:=h2.part [i] (Γ1:=[PK E v xs]) aH U;obtain⟨raws,e,hs⟩:=PK.elim hp;exact⟨raws,e,h,S,F,h1,hs,h3⟩
def ZcJ{β:Type}{xs r:List β}{q:β}{raws:List JP}{j:JP}(hl:raws.length=xs.length)(hr:app? xs [q]=some r):app? raws [j]=some (raws++[j])/\(raws++[j]).length=r.length:=by
 grind[app?]
theorem Epk2{β:Type}{E:TypeId}{v:Value}{xs:List β}{q:β}{f0:List β->Option β0}(z:Int)(hdr:Hd){parts:Array (Nat×Operand)}{x:Operand}(i:Nat)(hi:Γ[i]? =some (PK E v xs):=by rfl)(ho:ops[k]? =some ⟨some d,.buildSlice t 1 parts,ty,pos,af,none⟩:=by rfl)(hd:Nat.blt d N=true:=by rfl)(hv:parts.toList.map (λp=>opd σ p.2)=[some (.agg #[.int .i64 z,hdr.v])]:=by kernel_rfl)(hrun:∀w,(Instr.buildSlice t 1 ((parts.toList.map (·.1)).zip [Value.agg #[.int .i64 z,hdr.v]]).toArray).run P w= .ok (.slice (some ⟨w.heap.size,0,none⟩) 1 1) (w.alloc (.cells #[.int .i64 z,hdr.v] E)):=by intro _;kernel_rfl)(ho2:ops[k+1]? =some ⟨some d2,.call ⟨.builtin .append,#[x,.tmp d],#[t1,t']⟩,ty2,pos2,af2,none⟩:=by rfl)(htt:t'=t1:=by rfl)(hd2:Nat.blt d2 N=true:=by rfl)(hx0:(match x with|.tmp s=>s !=d|_=>true)=true:=by rfl)(he:ElT P E JP:=by refine elT ?_;kernel_rfl)(ht:P.underlying t1=some (.slice E):=by kernel_rfl)(hx:opd σ x=some v:=by kernel_rfl)(Z:∀r u a' c',Gl B N (f0 r=some z0) ((d2,.slice a' (List.length r) c')::(d,u)::σ) (rest [i] Γ++[PK E (.slice a' (List.length r) c') r]) Φ (wpFrom P ops Q (k+2))):Gl B N ((app? xs [q]).bind f0=some z0) σ Γ Φ (wpFrom P ops Q k):=by
 intro e9 a w c;obtain⟨r,hr,e9⟩:=bindE e9;have h:=λu a' c'=>gap (Z r u a' c') e9;obtain⟨raws,hl,c⟩:=c.pke i hi;obtain⟨g1,g2⟩:=ZcJ (j:=(⟨z,hdr⟩:JP)) hl hr;have e1:([(⟨z,hdr⟩:JP)].map λx=>Rep.val JP (Flat.enc x))=[Value.agg #[.int .i64 z,hdr.v]]:=rfl;have e2:([(⟨z,hdr⟩:JP)].map Flat.enc).flatten.toArray= #[.int .i64 z,hdr.v]:=rfl;have hv':parts.toList.map (λp=>opd σ p.2)=([(⟨z,hdr⟩:JP)].map λx=>Rep.val JP (Flat.enc x)).map some:=by simp_all
 have hrun':∀w,(Instr.buildSlice t 1 ((parts.toList.map (·.1)).zip ([(⟨z,hdr⟩:JP)].map λx=>Rep.val JP (Flat.enc x))).toArray).run P w= .ok (.slice (some ⟨w.heap.size,0,none⟩) 1 1) (w.alloc (.cells ([(⟨z,hdr⟩:JP)].map Flat.enc).flatten.toArray E)):=by
  simp_all
 refine Elt (α:=JP) (H:=True) E [⟨z,hdr⟩] (Z:=λa1 c1 _{fr w1}c=>?_) ho hd rfl rfl hv' hrun' trivial c;have hx':opd ((d,Value.slice a1 (List.length [(⟨z,hdr⟩:JP)]) c1)::σ) x=some v:=by
  cases x with
  |tmp s=>
   have hne:(s==d)=false:=by simp_all
   show List.lookup s ((d,_)::σ)=_;rw[ZfZ,hne];exact hx
  |_=>exact hx
 refine Eap (α:=JP) (E:=E) (v:=v) (l:=raws) (m:=[⟨z,hdr⟩]) (f0:=some) 0 (Ava.g (E:=E) (v:=Value.slice a1 (List.length [(⟨z,hdr⟩:JP)]) c1) (l:=[(⟨z,hdr⟩:JP)]) ((SL E v raws::rest [i] Γ).length) U) (Z:=λr' a2 c2 e'{fr w2}c=>?_) rfl ho2 htt hd2 he ht hx' (u:=Value.slice a1 (List.length [(⟨z,hdr⟩:JP)]) c1) (by show List.lookup d ((d,Value.slice a1 (List.length [(⟨z,hdr⟩:JP)]) c1)::σ)=some _;simp) (bds g1) c;obtain rfl:=Option.some.inj e';rw[g2]at c;refine h _ a2 c2 fr w2 (c.gam λS hs=>Zn (Γ2:=[PK E (.slice a2 (List.length r) c2) r]) ?_);obtain⟨A,R,h1,h2,h3,h4,h5⟩:=hs.cons_ok;obtain⟨A',R',k1,k2,k3,k4,k5⟩:=Sep.split (L1:=rest [i] Γ) h2;grind[PK.intro,Sep.mk_cons]
end
end Go.GL
end
section
namespace Go.GL
open Go.RowKit
section
variable{P:Program}{B:Bs}{N:Nat}{σ:List (Nat×Value)}{Γ:List HP}{Φ:List RF}{a:Act}{w:World}{Q:Exit->Act->World->Prop}{ops:Array Oper}{k d i:Nat}{ty t t' E E':TypeId}{pos:String}{af:Array Edge}{x y z:Operand}{v:Value}{n:Int}{p:Addr}{rs:List Hd}{xs ys:List (List Int)}
variable{H:Prop}{β0:Type}{z0:β0}
def Cx.fc0{q:List Int}(i j:Nat)(c:Cx B N σ Γ Φ a w)(hz:get? xs n=some q)(hi:Γ[i]? =some (SL E v rs):=by rfl)(hj:Γ[j]? =some (HP.all (ownL E') rs xs):=by rfl):∃a' c' p,rs[n.toNat]? =some ⟨a',q.length,c'⟩/\rs.length=xs.length/\EP Hd v n p:=by
 obtain⟨_,S,F,_,hs,_⟩:=id c;obtain⟨A,hA,_⟩:=hs.get j hj;have hl:=UX hA;have hn:=get?_nn hz;have hq:=get?_at hz;have hlt:=(ZfE.1 hq).1;have hr:rs[n.toNat]? =some rs[n.toNat]:=ZfA O;obtain⟨a',c',e⟩:=Bq (E:=E') (v:=(rs[n.toNat]).v) (l:=q) (Tz hA hr hq:(ownL E' rs[n.toNat] q).ok w A);have e':rs[n.toNat]=⟨a',q.length,c'⟩:=by
  generalize rs[n.toNat]=z at e;cases z;simp_all[Hd.v,Value.slice.injEq]
 obtain⟨b,cap,rfl,e1,e2,e3⟩:=RV.slice (hs.rv i hi);obtain⟨ad,rfl,hFb,hel⟩:=e3 al;exact⟨a',c',_,by rw[hr,e'],hl,ad,rs.length,cap,rfl,rfl,hn,by omega⟩
def qLh{S:List (Nat×Value)}{h:Hd}(j:Nat)(he:EP Hd v n p)(hr:rs[n.toNat]? =some h)(hj:Γ[j]? =some (SL E v rs):=by rfl)(ho:ops[i]? =some ⟨some d,.load t x,ty,pos,af,none⟩:=by rfl)(hdN:Nat.blt d N=true:=by rfl)(ht:Ty P t Hd:=by constructor<;>kernel_rfl)(hx:opd S x=some (.pointer (some p)):=by kernel_rfl)
  (a:Act)(w:World)(c:Cx B N S Γ Φ a w):wpOp P ops Q i (λa' w'=>Cx B N ((d,h.v)::S) Γ Φ a' w') a w:=by
 obtain⟨_,S',F,_,hs,_⟩:=id c;obtain⟨b,cap,rfl,e1,e2,e3⟩:=RV.slice (hs.rv j hj);obtain⟨ad,rfl,hFb,hel⟩:=e3 al;obtain⟨ad',len,cap',e4,rfl,_⟩:=he;obtain⟨e5,_,_⟩:=Value.slice.inj e4;cases e5;obtain⟨cs,hok,hcl⟩:=Ui hel hr;have hcl:Cells w (ad.add (n.toNat*Rep.sz Hd)) cs:=by simp_all
 have ecs:cs=Flat.enc h:=Flat.iff.1 hok;subst ecs;have h1:=Zd c.fr hx;refine qV ho rfl rfl hdN c (Zh (v:=Rep.val Hd (Flat.enc h)) (w':=w) ?_ ⟨rfl,rfl⟩);simp[execOp,Instr.loadAt,h1,Instr.sureAddr,YO ht (Rep.len hok) hcl]
def Efap{q m r:List Int}{u:Value}{a':Option Addr}{c':Nat}(j l:Nat)(hz:get? xs n=some q)(hr:rs[n.toNat]? =some ⟨a',q.length,c'⟩)(hap:app? q m=some r)(hj:Γ[j]? =some (HP.all (ownL E') rs xs):=by rfl)(hl:(rest [j] Γ)[l]? =some (SL E' u m):=by rfl)(ho:ops[k]? =some ⟨some d,.call ⟨.builtin .append,#[x,y],#[t,t']⟩,ty,pos,af,none⟩:=by rfl)(htt:t'=t:=by rfl)(hd:Nat.blt d N=true:=by rfl)(he:ElT P E' Int:=by refine elT ?_;kernel_rfl)(ht:P.underlying t=some (.slice E'):=by kernel_rfl)(hx:opd σ x=some (.slice a' q.length c'):=by kernel_rfl)(hy:opd σ y=some u:=by kernel_rfl)(Z:∀a2 c2,Gl B N H ((d,.slice a2 (List.length r) c2)::σ) (rest [j] Γ++[HP.but (ownL E') n.toNat rs xs,TL E' (.slice a2 (List.length r) c2) r]) Φ (wpFrom P ops Q (k+1))):Gl B N H σ Γ Φ (wpFrom P ops Q k):=by
 intro e9 a w c;have h:=λa2 c2=>gap (Z a2 c2) e9;have c2:Cx B N σ (rest [j] Γ++[HP.but (ownL E') n.toNat rs xs,TL E' (.slice a' q.length c') q]) Φ a w:=c.gam λS hs=>by
  have hp:=hs.part [j] (Γ1:=[HP.all (ownL E') rs xs]) (by simp[hj]) U;have h4:Sep (HP.two (ownL E' ⟨a',q.length,c'⟩ q) (.but (ownL E') n.toNat rs xs)::rest [j] Γ) w S:=Sep.imp hp λA hA=>QB hA hr (get?_at hz);have h5:=h4.two;exact Zn (Γ2:=[_,_]) h5.swap
 refine Eapt (f0:=some) ((rest [j] Γ).length+1) (Ava.g (E:=E') l ?_) (Z:=λr' a2 c2 e'{fr w'}c=>?_) U ho htt hd he ht hx hy (bds hap) c2
 ·grind
 obtain rfl:=Option.some.inj e';refine h a2 c2 fr w' ?_;simp_all
def Za0{α:Type}{l r:List α}{n:Int}{q:α}(h:set? l n q=some r):n.toNat<l.length/\r=l.set n.toNat q:=by
 grind[set?,Option.some.inj]
def Efst{r:List Int}{a2:Option Addr}{c2:Nat}{f0:List (List Int)->Option β0}(i j l:Nat)(hep:EP Hd v n p)(hl0:rs.length=xs.length)(hi:Γ[i]? =some (SL E v rs):=by rfl)(hj:Γ[j]? =some (HP.but (ownL E') n.toNat rs xs):=by rfl)(hl:Γ[l]? =some (TL E' (.slice a2 (List.length r) c2) r):=by rfl)(hne:[i,j,l].Nodup:=by decide)(ho:ops[k]? =some ⟨none,.store E x z,ty,pos,af,none⟩:=by rfl)(he:Ty P E Hd:=by constructor<;>kernel_rfl)(hp:opd σ x=some (.pointer (some p)):=by kernel_rfl)(hq:opd σ z=some (.slice a2 (List.length r) c2):=by kernel_rfl)(Z:∀ys,Gl B N (f0 ys=some z0) σ (rest [i,j,l] Γ++[SL E v (rs.set n.toNat ⟨a2,List.length r,c2⟩),HP.all (ownL E') (rs.set n.toNat ⟨a2,List.length r,c2⟩) ys]) Φ (wpFrom P ops Q (k+1))):Gl B N ((set? xs n r).bind f0=some z0) σ Γ Φ (wpFrom P ops Q k):=by
 intro e9 a w c;obtain⟨ys,hz,e9⟩:=bindE e9;have h:=gap (Z ys) e9;obtain⟨hlt,rfl⟩:=Za0 hz;obtain⟨hF,S,F,hM,hs,hf⟩:=c;have hs:=hs.part [i,j,l] (Γ1:=[SL E v rs,HP.but (ownL E') n.toNat rs xs,TL E' (.slice a2 (List.length r) c2) r]) ah hne;obtain⟨A,hok,hup⟩:=Sep.upd 0 hs rfl hM;rcases hok with⟨go,hown⟩|⟨rfl,_,_⟩
 ·obtain⟨g,w',hgo,⟨cc,hv⟩,hrun,g1,g2⟩:=hown.set_run (P:=P) he (Fr:=Non) (u:=Rep.val Hd (Flat.enc (⟨a2,List.length r,c2⟩:Hd))) (x:=(⟨a2,List.length r,c2⟩:Hd)) ⟨_,Flat.iff.2 rfl,rfl⟩ (Fu:=Non) Re (λ_ _ h=>h.elim) (n:=n.toNat) O;obtain⟨ad,len,cap,e1,rfl,_⟩:=hep;rw[hv]at e1;obtain⟨e2,_,_⟩:=Value.slice.inj e1;cases e2;obtain⟨S',hpp,hs'⟩:=hup (P':=SL E v (rs.set n.toNat ⟨a2,List.length r,c2⟩)) (g2.mono λk hk=>hown.inG hk) (.inl ⟨go,g1.regard λk _ hk=>.inl hk⟩);refine Rh hF ho rfl rfl (R:=λ_ w2=>w2=w') (Tn ?_ rfl) λw2 hw2 hF2=>?_
  ·have hq':opd σ z=some (Rep.val Hd (Flat.enc (⟨a2,List.length r,c2⟩:Hd))):=hq;simp[execOp,Instr.storeAt,Zd hF hp,Zd hF hq',Instr.sureAddr,hrun]
  ·obtain⟨_,rfl⟩:=hw2;refine h _ _ ⟨hF2,S',F,hM.stp hpp,Zn (Γ2:=[_,_]) ?_,hf.chg hpp.chg λk hk hS=>hM.dj k hS hk⟩;have eb:HP.but (ownL E') n.toNat rs xs=HP.but (ownL E') n.toNat (rs.set n.toNat ⟨a2,List.length r,c2⟩) xs:=by
    simp[HP.but,List.take_set_of_le,ZfP,List.drop_set_of_lt]
   rw[eb]at hs';exact hs'.under λ_ h=>h.swap.fill (by rw[Zhv];exact hl0) (by rw[Zhr O]) O
 grind
end
end Go.GL
end
section
end
section
end
section
namespace Go.GL
open Go.RowKit
section
variable{P:Program}{K V:TypeId}{κ ρ α:Type}[Flat κ][Flat ρ][Rep α][RawOf ρ α][DecidableEq κ]
variable{H:Prop}{β0:Type}{z0:β0}
variable{B:Bs}{N:Nat}{σ:List (Nat×Value)}{Γ:List HP}{Φ:List RF}{a:Act}{w:World}{Q:Exit->Act->World->Prop}{T:MapT P K V κ ρ}
  {ops:Array Oper}{k d b:Nat}{t ty:TypeId}{pos:String}{af:Array Edge}{x y z:Operand}{v:Value}
end
end Go.GL
end
section
namespace Go.GL
open Go.RowKit
section
variable{P:Program}{B:Bs}{N:Nat}{σ:List (Nat×Value)}{Γ Γ1:List HP}{Φ Φ1:List RF}{a:Act}{w:World}{Q:Exit->Act->World->Prop}{ops:Array Oper}{k d:Nat}{ty:TypeId}{pos:String}{af:Array Edge}{f:FuncId}{xs:Array Operand}{ts:Array TypeId}{args:List Value}{ι:Type}{R:ι->Res}{x y:Operand}
def CfV(caps:List Value)(gs:List Nat)(c:Cx B N σ Γ Φ a w)(hcon:Con P f (args++caps) Γ1 Φ1 R)(ro:AvaL [] Φ w Φ1)(hf:∀(args:Array Value)(w:World),(callFunc f args).run P w= .ok (.enter f args) w)
  (h:∀i fr w',Cx B N ((d,tup (R i).1)::σ) (rest gs Γ++(R i).2.1) (Φ++(R i).2.2) fr w'->wpFrom P ops Q (k+1) fr w')
  (ho:ops[k]? =some ⟨some d,.call ⟨.value x,xs,ts⟩,ty,pos,af,none⟩:=by rfl)(hd:Nat.blt d N=true:=by rfl)(hg:gs.map (λi=>Γ[i]?)=Γ1.map some:=by rfl)(hn:gs.Nodup:=by decide)
  (hx:opd σ x=some (.func (.func f) #[] caps.toArray):=by kernel_rfl)(hargs:xs.toList.map (opd σ)=args.map some:=by kernel_rfl):wpFrom P ops Q k a w:=
 ZdJ args caps (R:=λv w'=>∃i,v=tup (R i).1/\∀a' σ',FrS N σ' a'->Cx B N σ' (rest gs Γ++(R i).2.1) (Φ++(R i).2.2) a' w') hf ho hd c.fr hx hargs ((c.callsF gs hcon ro hg hn).mono λe w'⟨i,h1,h2⟩=>⟨_,h1,i,rfl,h2⟩)
  λv w' fr hR hF=>by obtain⟨i,rfl,hR⟩:=hR;exact h i fr w' (hR fr _ hF)
end
def fnB:Value->Option Bool
 |.nilFunc=>some true
 |.func ..=>some false
 |_=>none
theorem Zf6{P:Program}{t:TypeId}(ht:(P.underlying t).map (λu=>match u with|.func ..=>true|_=>false)=some true){v:Value}{b:Bool}(hb:fnB v=some b)(w:World):(binOp .eql t v .nilFunc).run P w= .ok (.bool b) w:=by
 have ht':∃a b c,P.underlying t=some (.func a b c):=by
  cases h:P.underlying t with
  |none=>rw[h]at ht;cases ht
  |some u=>
   rw[h]at ht;cases u with
   |func a b c=>exact⟨a,b,c,rfl⟩
   |_=>cases ht
 obtain⟨_,_,_,ht'⟩:=ht';have h:(Op.equalIn (9999+1) t v .nilFunc).run P w= .ok b w:=by
  unfold Op.equalIn;cases v<;>simp only[fnB,Option.some.injEq,reduceCtorEq]at hb<;>subst hb<;>simp[run_underlying ht']
 simp only[binOp,Op.equal,Op.maxDepth,Sem.run_bind,Sem.run_pure];rw[h];rfl
def Zcy{P:Program}{t:TypeId}{x y:Operand}{v:Value}{b:Bool}(hb:fnB v=some b)(w:World):(eqGuard .eql t x y v .nilFunc).run P w= .ok () w:=by
 cases v<;>simp only[fnB,Option.some.injEq,reduceCtorEq]at hb<;>simp[eqGuard]
section
variable{P:Program}{B:Bs}{N:Nat}{σ:List (Nat×Value)}{Γ:List HP}{Φ:List RF}{a:Act}{w:World}{Q:Exit->Act->World->Prop}
  {draw:Bool}{ms:List Nat}{ops:Array Oper}{j:Nat}{dst:Option Tmp}{g:Option (Nat×Bool)}{t yt ty:TypeId}{x y:Operand}{pos:String}{af:Array Edge}
end
end Go.GL
end
section
end
section
namespace Go.GL
open Go.RowKit
section
variable{α:Type}[Flat α]{P:Program}{B:Bs}{N:Nat}{σ:List (Nat×Value)}{Γ:List HP}{Φ:List RF}{a:Act}{w:World}{Q:Exit->Act->World->Prop}{ops:Array Oper}{k:Nat}{ty:TypeId}{x z:Operand}{pos:String}{af:Array Edge}{v:Value}{n:Int}{p:Addr}{E:TypeId}
variable{H:Prop}{β0:Type}{z0:β0}
def Cx.epq{l:List α}{q:α}(i:Nat)(c:Cx B N σ Γ Φ a w)(hx:get? l n=some q)(hi:Γ[i]? =some (SL E v l):=by rfl)(he:Ty P E α:=by constructor<;>kernel_rfl):∃p,EP α v n p:=by
 obtain⟨hF,S,F,hM,hs,hf⟩:=c;obtain⟨A,hok,hup⟩:=hs.upd i hi hM;unfold get? at hx;split at hx
 ·rename_i Z;have hl:n.toNat<l.length:=(ZfE.1 hx).1;rcases hok with⟨go,hown⟩|⟨rfl,_,_⟩
  ·obtain⟨g,w',hgo,⟨cc,hv⟩,-⟩:=hown.set_run (P:=P) he (Fr:=Non) (u:=Rep.val α (Flat.enc q)) (x:=q) ⟨_,Flat.iff.2 rfl,rfl⟩ (Fu:=Non) Re (λ_ _ h=>h.elim) (n:=n.toNat) hl;exact⟨_,_,_,_,hv,rfl,Z,by omega⟩
  ·simp at hl
 ·cases hx
def Esetq{l:List α}{q:α}{f0:List α->Option β0}(i:Nat)(hep:EP α v n p)(hi:Γ[i]? =some (SL E v l):=by rfl)(ho:ops[k]? =some ⟨none,.store E x z,ty,pos,af,none⟩:=by rfl)(he:Ty P E α:=by constructor<;>kernel_rfl)(hp:opd σ x=some (.pointer (some p)):=by kernel_rfl)(hq:opd σ z=some (Rep.val α (Flat.enc q)):=by kernel_rfl)(Z:∀r,Gl B N (f0 r=some z0) σ (Γ.set i (SL E v r)) Φ (wpFrom P ops Q (k+1))):Gl B N ((set? l n q).bind f0=some z0) σ Γ Φ (wpFrom P ops Q k):=by
 intro e9 a w c;obtain⟨r,hr,e9⟩:=bindE e9;have h:=gap (Z r) e9;unfold set? at hr;split at hr
 ·rename_i hn;cases hr;obtain⟨hF,S,F,hM,hs,hf⟩:=c;obtain⟨A,hok,hup⟩:=hs.upd i hi hM;rcases hok with⟨go,hown⟩|⟨rfl,_,_⟩
  ·obtain⟨g,w',hgo,⟨cc,hv⟩,hrun,g1,g2⟩:=hown.set_run (P:=P) he (Fr:=Non) (u:=Rep.val α (Flat.enc q)) (x:=q) ⟨_,Flat.iff.2 rfl,rfl⟩ (Fu:=Non) Re (λ_ _ h=>h.elim) (n:=n.toNat) hn.2;obtain⟨ad,len,cap,e1,rfl,_⟩:=hep;rw[hv]at e1;obtain⟨e2,_,_⟩:=Value.slice.inj e1;cases e2;obtain⟨S',hpp,hs'⟩:=hup (P':=SL E v (l.set n.toNat q)) (g2.mono λk hk=>hown.inG hk) (.inl ⟨go,g1.regard λk _ hk=>.inl hk⟩);refine Rh hF ho rfl rfl (R:=λ_ w2=>w2=w') (Tn ?_ rfl) λw2 hw2 hF2=>?_
   ·simp[execOp,Instr.storeAt,Zd hF hp,Zd hF hq,Instr.sureAddr,hrun]
   ·obtain⟨_,rfl⟩:=hw2;exact h _ _ ⟨hF2,S',F,hM.stp hpp,hs',hf.chg hpp.chg λk hk hS=>hM.dj k hS hk⟩
  ·simp at hn
 ·cases hr
end
structure Nq{σt ρt ι':Type}(B:Bs)(N:Nat)(Γ:List HP)(Φ:List RF)(J:σt->ι'->Lpt)(q:σt⊕ρt)(a:Act)(w:World):Prop where
 h:∃s i,q= .inl s/\CxL B N Γ Φ (J s i) a w
structure Mq{ρt κ τ:Type}(B:Bs)(N:Nat)(Γ:List HP)(Φ:List RF)(M:ρt->κ->Lpt)(K:ρt->Option τ)(z:τ)(a:Act)(w:World):Prop where
 h:∃v k,K v=some z/\CxL B N Γ Φ (M v k) a w
structure RtP{ι:Type}(P:Program)(fn:Func)(B:Bs)(R:ι->Res)(a:Act)(w:World):Prop where
 h:bodyPost P fn (Rp B R) .ret a w
def Qb{ι:Type}(P:Program)(fn:Func)(B:Bs)(R:ι->Res):Exit->Act->World->Prop
 |.normal,a,w|.ret,a,w=>RtP P fn B R a w
 |e,a,w=>bodyPost P fn (Rp B R) e a w
def Qb.out{ι:Type}{P:Program}{fn:Func}{B:Bs}{R:ι->Res}{e:Exit}{a:Act}{w:World}(h:Qb P fn B R e a w):bodyPost P fn (Rp B R) e a w:=by
 cases e<;>first|exact h.h|exact h
def clB(P:Program)(f:FuncId):Bool:=match P.funcs[f]? with
 |some fn=>(fn.name != "runtime.NumGoroutine")&&fn.body.isSome
 |none=>false
def Oq{P:Program}{f:FuncId}(h:clB P f=true)(args:Array Value)(w:World):(callFunc f args).run P w= .ok (.enter f args) w:=by
 unfold clB at h;split at h
 ·rename_i fn hf;simp only[ZfF,bne_iff_ne,ne_eq]at h;obtain⟨c,hc⟩:=ZhC.1 h.2;simp[callFunc,hf,h.1,hc]
 ·cases h
section
variable{P:Program}{B:Bs}{N:Nat}{H:Prop}{σ:List (Nat×Value)}{Γ Γ1:List HP}{Φ Φ1:List RF}{a a':Act}{w w':World}{Q:Exit->Act->World->Prop}{K T:Act->World->Prop}{ι α β:Type}{R:ι->Res}{fn:Func}{ops:Array Oper}{k d id:Nat}{z:β}
def zEn{f:FuncId}{c:Code}{args:List Value}(h:∀{B},Gl B N H (args0 0 args) Γ Φ (c.wp P (Qb P fn B R)))(e:H)(hf:P.funcs[f]? =some fn:=by rfl)(hb:fn.body=some c:=by rfl)(hN:fn.ntmps=N:=by rfl)(hle:Nat.ble args.length N=true:=by rfl):Con P f args Γ Φ R:=
 En hf hb hN (λB a w c=>wp_mono (h e c) λ_ _ _ h=>h.out) hle
def zBd{e:Option α}{f:α->Option β}(h:∀x,e=some x->Gl B N (f x=some z) σ Γ Φ T):Gl B N (e.bind f=some z) σ Γ Φ T:=λe a w c=>by
 obtain⟨x,h1,h2⟩:=bindE e;exact h x h1 h2 c
def zI0{x y:Code}{o:Operand}{X Y:Option β}{b:Bool}{r:Option β}(ht:Gl B N (X=r) σ Γ Φ (x.wp P Q))(hf:Gl B N (Y=r) σ Γ Φ (y.wp P Q))(hb:opd σ o=some (.bool b):=by kernel_rfl):Gl B N ((if b=true then X else Y)=r) σ Γ Φ ((Code.cond o x y).wp P Q):=
 λh a w c=>I0 c h (λh=>ht h c) (λh=>hf h c) hb
def zc{σ':List (Nat×Value)}{Γ':List HP}{Φ':List RF}(f:∀{a w},Cx B N σ Γ Φ a w->Cx B N σ' Γ' Φ' a w)(h:Gl B N H σ' Γ' Φ' T):Gl B N H σ Γ Φ T:=λe a w c=>h e (f c)
def zag(e:H)(c:Cx B N σ Γ Φ a w)(h:Gl B N H σ Γ Φ T):T a w:=h e c
def zE0(h:Gl B N H σ Γ Φ K)(hk:ops.size=k:=by rfl):Gl B N H σ Γ Φ (wpFrom P ops (Exit.then K Q) k):=λe a w c=>E0 (h e c) hk
def zE1(h:Gl B N H σ Γ Φ (Q .normal))(hk:ops.size=k:=by rfl):Gl B N H σ Γ Φ (wpFrom P ops Q k):=λe a w c=>E1 (h e c) hk
def zS0{x b:Code}(h:Gl B N H σ Γ Φ (x.wp P (Exit.then (b.wp P Q) Q))):Gl B N H σ Γ Φ ((Code.seq x b).wp P Q):=λe a w c=>wp_seq (h e c)
def zT0{l:List Oper}{b:Code}(h:Gl B N H σ Γ Φ (wpFrom P l.toArray (Exit.then (b.wp P Q) Q) 0)):Gl B N H σ Γ Φ ((Code.seq (.region id l.toArray false) b).wp P Q):=λe a w c=>T0 (h e c)
def zT1{l:List Oper}(h:Gl B N H σ Γ Φ (wpFrom P l.toArray Q 0)):Gl B N H σ Γ Φ ((Code.region id l.toArray false).wp P Q):=λe a w c=>T1 (h e c)
def zK0(h:Gl B N H σ Γ Φ K):Gl B N H σ Γ Φ (Code.skip.wp P (Exit.then K Q)):=λe a w c=>K0 (h e c)
def zK1(h:Gl B N H σ Γ Φ (Q .normal)):Gl B N H σ Γ Φ (Code.skip.wp P Q):=λe a w c=>K1 (h e c)
def zTq{x:Code}(h:Gl B N H σ Γ Φ (x.wp P (Exit.then (Q .normal) Q))):Gl B N H σ Γ Φ (x.wp P Q):=λe a w c=>Tq (h e c)
def zwb{x:Code}(h:Gl B N H σ Γ Φ (x.wp P (Exit.inBlock id Q))):Gl B N H σ Γ Φ ((Code.block id x).wp P Q):=λe a w c=>wp_block (h e c)
def zbk(h:Gl B N H σ Γ Φ (Q .normal)):Gl B N H σ Γ Φ (Exit.inBlock id Q .normal):=λe a w c=>bk (h e c)
def ztn(h:Gl B N H σ Γ Φ K):Gl B N H σ Γ Φ (Exit.then K Q .normal):=λe a w c=>tn (h e c)
def zFi(hs:List (Nat×Nat))(m:Nat)(h:Gl B N H ((seqB P N (bxsOf Γ Φ) hs k ((ops.toList.drop k).take m) σ).getD ([],[])).1 Γ Φ (wpFrom P ops Q (k+m)))
  (hk:(seqB P N (bxsOf Γ Φ) hs k ((ops.toList.drop k).take m) σ).map (λr=>r.2.map (·.1))=some (((seqB P N (bxsOf Γ Φ) hs k ((ops.toList.drop k).take m) σ).map (λr=>r.2.map (·.2))).getD []):=by kernel_rfl):Gl B N H σ Γ Φ (wpFrom P ops Q k):=λe a w c=>Fp hs m c (λ_ c=>h e c) hk
def zFe(m:Nat)(h:Gl B N H ((seqB P N (bxsOf Γ Φ) [] k ((ops.toList.drop k).take m) σ).getD ([],[])).1 Γ Φ (wpFrom P ops Q (k+m)))
  (hk:(seqB P N (bxsOf Γ Φ) [] k ((ops.toList.drop k).take m) σ).map (λr=>r.2.map (·.1))=some (((seqB P N (bxsOf Γ Φ) [] k ((ops.toList.drop k).take m) σ).map (λr=>r.2.map (·.2))).getD []):=by kernel_rfl):Gl B N H σ Γ Φ (wpFrom P ops Q k):=zFi [] m h hk
def zF1(h:Gl B N H ((seqB P N (bxsOf Γ Φ) [] k ((ops.toList.drop k).take 1) σ).getD ([],[])).1 Γ Φ (wpFrom P ops Q (k+1)))
  (hk:(seqB P N (bxsOf Γ Φ) [] k ((ops.toList.drop k).take 1) σ).map (λr=>r.2.map (·.1))=some (((seqB P N (bxsOf Γ Φ) [] k ((ops.toList.drop k).take 1) σ).map (λr=>r.2.map (·.2))).getD []):=by kernel_rfl):Gl B N H σ Γ Φ (wpFrom P ops Q k):=zFi [] 1 h hk
def zPj(hs:List (Nat×Nat))(h:Gl B N H ((seqB P N (bxsOf Γ Φ) hs 0 ops.toList σ).getD ([],[])).1 Γ Φ K)
  (hk:(seqB P N (bxsOf Γ Φ) hs 0 ops.toList σ).map (λr=>r.2.map (·.1))=some (((seqB P N (bxsOf Γ Φ) hs 0 ops.toList σ).map (λr=>r.2.map (·.2))).getD []):=by kernel_rfl):Gl B N H σ Γ Φ ((Code.region id ops false).wp P (Exit.then K Q)):=λe a w c=>P1 hs c (λ_ c=>h e c) hk
def zPi{b:Code}(hs:List (Nat×Nat))(h:Gl B N H ((seqB P N (bxsOf Γ Φ) hs 0 ops.toList σ).getD ([],[])).1 Γ Φ (b.wp P Q))
  (hk:(seqB P N (bxsOf Γ Φ) hs 0 ops.toList σ).map (λr=>r.2.map (·.1))=some (((seqB P N (bxsOf Γ Φ) hs 0 ops.toList σ).map (λr=>r.2.map (·.2))).getD []):=by kernel_rfl):Gl B N H σ Γ Φ ((Code.seq (.region id ops false) b).wp P Q):=zS0 (zPj hs h hk)
def zPe{b:Code}(h:Gl B N H ((seqB P N (bxsOf Γ Φ) [] 0 ops.toList σ).getD ([],[])).1 Γ Φ (b.wp P Q))
  (hk:(seqB P N (bxsOf Γ Φ) [] 0 ops.toList σ).map (λr=>r.2.map (·.1))=some (((seqB P N (bxsOf Γ Φ) [] 0 ops.toList σ).map (λr=>r.2.map (·.2))).getD []):=by kernel_rfl):Gl B N H σ Γ Φ ((Code.seq (.region id ops false) b).wp P Q):=zPi [] h hk
def zFE(h:Gl B N H ((seqB P N (bxsOf Γ Φ) [] k ((ops.toList.drop k).take 1) σ).getD ([],[])).1 Γ Φ K)(hk:(seqB P N (bxsOf Γ Φ) [] k ((ops.toList.drop k).take 1) σ).map (λr=>r.2.map (·.1))=some (((seqB P N (bxsOf Γ Φ) [] k ((ops.toList.drop k).take 1) σ).map (λr=>r.2.map (·.2))).getD []):=by kernel_rfl)(hz:ops.size=k+1:=by rfl):Gl B N H σ Γ Φ (wpFrom P ops (Exit.then K Q) k):=zF1 (zE0 h hz) hk
def zTi{l:List Oper}{b:Code}(hs:List (Nat×Nat))(m:Nat)(h:Gl B N H ((seqB P N (bxsOf Γ Φ) hs 0 ((l.toArray.toList.drop 0).take m) σ).getD ([],[])).1 Γ Φ (wpFrom P l.toArray (Exit.then (b.wp P Q) Q) (0+m)))(hk:(seqB P N (bxsOf Γ Φ) hs 0 ((l.toArray.toList.drop 0).take m) σ).map (λr=>r.2.map (·.1))=some (((seqB P N (bxsOf Γ Φ) hs 0 ((l.toArray.toList.drop 0).take m) σ).map (λr=>r.2.map (·.2))).getD []):=by kernel_rfl):Gl B N H σ Γ Φ ((Code.seq (.region id l.toArray false) b).wp P Q):=zT0 (zFi hs m h hk)
def zTe{l:List Oper}{b:Code}(m:Nat)(h:Gl B N H ((seqB P N (bxsOf Γ Φ) [] 0 ((l.toArray.toList.drop 0).take m) σ).getD ([],[])).1 Γ Φ (wpFrom P l.toArray (Exit.then (b.wp P Q) Q) (0+m)))(hk:(seqB P N (bxsOf Γ Φ) [] 0 ((l.toArray.toList.drop 0).take m) σ).map (λr=>r.2.map (·.1))=some (((seqB P N (bxsOf Γ Φ) [] 0 ((l.toArray.toList.drop 0).take m) σ).map (λr=>r.2.map (·.2))).getD []):=by kernel_rfl):Gl B N H σ Γ Φ ((Code.seq (.region id l.toArray false) b).wp P Q):=zT0 (zFe m h hk)
def zbp{i j:Nat}{Q1 Q2:Exit->Act->World->Prop}(h:Gl B N H ((seqB P N (bxsOf Γ Φ) [] 0 ops.toList σ).getD ([],[])).1 Γ Φ K)(hk:(seqB P N (bxsOf Γ Φ) [] 0 ops.toList σ).map (λr=>r.2.map (·.1))=some (((seqB P N (bxsOf Γ Φ) [] 0 ops.toList σ).map (λr=>r.2.map (·.2))).getD []):=by kernel_rfl):Gl B N H σ Γ Φ (Exit.inBlock i (Exit.then ((Code.region j ops false).wp P (Exit.then K Q1)) Q2) .normal):=zbk (ztn (zPj [] h hk))
def zKw{x b:Code}{i:Nat}{Q1:Exit->Act->World->Prop}(h:Gl B N H σ Γ Φ (x.wp P (Exit.inBlock i (Exit.then (b.wp P Q) Q)))):Gl B N H σ Γ Φ (Code.skip.wp P (Exit.then ((Code.seq (Code.block i x) b).wp P Q) Q1)):=zK0 (zS0 (zwb h))
def zPI{i:Nat}{x y:Code}{o:Operand}{X Y:Option β}{b:Bool}{r:Option β}(ht:Gl B N (X=r) ((seqB P N (bxsOf Γ Φ) [] 0 ops.toList σ).getD ([],[])).1 Γ Φ (x.wp P Q))(hf:Gl B N (Y=r) ((seqB P N (bxsOf Γ Φ) [] 0 ops.toList σ).getD ([],[])).1 Γ Φ (y.wp P Q))(hk:(seqB P N (bxsOf Γ Φ) [] 0 ops.toList σ).map (λr=>r.2.map (·.1))=some (((seqB P N (bxsOf Γ Φ) [] 0 ops.toList σ).map (λr=>r.2.map (·.2))).getD []):=by kernel_rfl)(hb:opd ((seqB P N (bxsOf Γ Φ) [] 0 ops.toList σ).getD ([],[])).1 o=some (.bool b):=by kernel_rfl):Gl B N ((if b=true then X else Y)=r) σ Γ Φ ((Code.seq (.region i ops false) (Code.cond o x y)).wp P Q):=zPe (zI0 ht hf hb) hk
def zCa{g:Option α}{f0:α->Option β}{R:α->ι->Res}{f:FuncId}{args:List Value}{ty:TypeId}{pos:String}{af:Array Edge}{xs:Array Operand}{ts:Array TypeId}(gs:List Nat)(hcon:∀{x},g=some x->Con P f args Γ1 Φ1 (R x))(ro:∀{w},AvaL (rest gs Γ) Φ w Φ1)(ho:ops[k]? =some ⟨some d,.call ⟨.value (.func f),xs,ts⟩,ty,pos,af,none⟩:=by rfl)(hf:clB P f=true:=by kernel_rfl)(hd:Nat.blt d N=true:=by rfl)(hg:gs.map (λi=>Γ[i]?)=Γ1.map some:=by rfl)(hn:gs.Nodup:=by decide)(hargs:xs.toList.map (opd σ)=args.map some:=by kernel_rfl)(Z:∀x i,Gl B N (f0 x=some z) ((d,tup (R x i).1)::σ) (rest gs Γ++(R x i).2.1) Φ (wpFrom P ops Q (k+1))):Gl B N (g.bind f0=some z) σ Γ Φ (wpFrom P ops Q k):=λe a w c=>by
 obtain⟨x,hx,e⟩:=bindE e;exact Ca gs c (hcon hx) ro (Oq hf) (λi fr w' c=>Z x i e c) ho hd hg hn hargs
def zCf{g:Option α}{f0:α->Option β}{R:α->ι->Res}{f:FuncId}{args:List Value}{ty:TypeId}{pos:String}{af:Array Edge}{xs:Array Operand}{ts:Array TypeId}(gs:List Nat)(hcon:∀{x},g=some x->Con P f args Γ1 Φ1 (R x))(ro:∀{w},AvaL [] Φ w Φ1)(ho:ops[k]? =some ⟨some d,.call ⟨.value (.func f),xs,ts⟩,ty,pos,af,none⟩:=by rfl)(hf:clB P f=true:=by kernel_rfl)(hd:Nat.blt d N=true:=by rfl)(hg:gs.map (λi=>Γ[i]?)=Γ1.map some:=by rfl)(hn:gs.Nodup:=by decide)(hargs:xs.toList.map (opd σ)=args.map some:=by kernel_rfl)(Z:∀x i,Gl B N (f0 x=some z) ((d,tup (R x i).1)::σ) (rest gs Γ++(R x i).2.1) (Φ++(R x i).2.2) (wpFrom P ops Q (k+1))):Gl B N (g.bind f0=some z) σ Γ Φ (wpFrom P ops Q k):=λe a w c=>by
 obtain⟨x,hx,e⟩:=bindE e;exact Cf gs c (hcon hx) ro (Oq hf) (λi fr w' c=>Z x i e c) ho hd hg hn hargs
def zCb{g:Option α}{f0:α->Option β}{R:α->ι->Res}{f:FuncId}{args:List Value}{ty:TypeId}{pos:String}{af:Array Edge}{xs:Array Operand}{ts:Array TypeId}(hcon:∀{x},g=some x->Con P f args [] Φ1 (R x))(ro:∀{w},AvaL Γ Φ w Φ1)(ho:ops[k]? =some ⟨some d,.call ⟨.value (.func f),xs,ts⟩,ty,pos,af,none⟩:=by rfl)(hf:clB P f=true:=by kernel_rfl)(hd:Nat.blt d N=true:=by rfl)(hargs:xs.toList.map (opd σ)=args.map some:=by kernel_rfl)(Z:∀x i,Gl B N (f0 x=some z) ((d,tup (R x i).1)::σ) (Γ++(R x i).2.1) Φ (wpFrom P ops Q (k+1))):Gl B N (g.bind f0=some z) σ Γ Φ (wpFrom P ops Q k):=λe a w c=>by
 obtain⟨x,hx,e⟩:=bindE e;exact Cb c (hcon hx) ro (Oq hf) (λi fr w' c=>Z x i e c) ho hd hargs
def zCg{g:Option α}{f0:α->Option β}{R:α->ι->Res}{f:FuncId}{args:List Value}{ty:TypeId}{pos:String}{af:Array Edge}{xs:Array Operand}{ts:Array TypeId}(hcon:∀{x},g=some x->Con P f args [] Φ1 (R x))(ro:∀{w},AvaL [] Φ w Φ1)(ho:ops[k]? =some ⟨some d,.call ⟨.value (.func f),xs,ts⟩,ty,pos,af,none⟩:=by rfl)(hf:clB P f=true:=by kernel_rfl)(hd:Nat.blt d N=true:=by rfl)(hargs:xs.toList.map (opd σ)=args.map some:=by kernel_rfl)(Z:∀x i,Gl B N (f0 x=some z) ((d,tup (R x i).1)::σ) (Γ++(R x i).2.1) (Φ++(R x i).2.2) (wpFrom P ops Q (k+1))):Gl B N (g.bind f0=some z) σ Γ Φ (wpFrom P ops Q k):=λe a w c=>by
 obtain⟨x,hx,e⟩:=bindE e;exact Cg c (hcon hx) ro (Oq hf) (λi fr w' c=>Z x i e c) ho hd hargs
def zNo{r:α}:Gl B N (none=some r) σ Γ Φ T:=λe=>by cases e
def kp(ks:List Nat)(σ:List (Nat×Value)):List (Nat×Value):=ks.filterMap λk=>(σ.lookup k).map λv=>(k,v)
def kL(ks:List Nat)(σ:List (Nat×Value))(p:Lpt):Lpt:=(kp ks σ++p.1,p.2)
def nc0{ρ ι:Type}(_:ρ)(_:ι):List (Nat×Value):=[]
def uL(l:List (Nat×Value)):Lpt:=(l,λΓ=>Γ,[])
section
variable{σt ρt ρ1 ρ2 ι' κ τ:Type}{b:Code}{n:Nat}{s0 s:σt}{z:τ}
theorem zLp{F:σt->Option (σt⊕ρt)}{L:ρt->Option τ}(ks k2:List Nat)(f:ρt->σt)(i0:ι')(J:σt->ι'->Lpt)(ch:ρt->ι'->List (Nat×Value))
  (round:∀{q}s i,(∀r,q= .inr r->L r=some z)->Gl B N (F s=some q) (kp ks σ++(J s i).1) ((J s i).2.1 Γ) (Φ++(J s i).2.2) (b.wp P (Exit.then (Nq B N Γ Φ (λs i=>kL ks σ (J s i)) q) (Exit.inBlock id (Exit.then (Mq B N Γ Φ (λv k=>kL k2 σ (ch v k,(J (f v) k).2)) L z) Q)))))
  (cont:∀v k,Gl B N (L v=some z) (kp k2 σ++ch v k) ((J (f v) k).2.1 Γ) (Φ++(J (f v) k).2.2) K)
  (hσ:(kp ks σ++(J s0 i0).1).map (λp=>σ.lookup p.1)=(kp ks σ++(J s0 i0).1).map λp=>some p.2:=by kernel_rfl)(hΓ:Γ=(J s0 i0).2.1 Γ:=by kernel_rfl)(hΦ:Φ=Φ++(J s0 i0).2.2:=by kernel_rfl):
  Gl B N ((iterN F n s0).bind L=some z) σ Γ Φ ((Code.block id (.loop b)).wp P (Exit.then K Q)):=λe a w c=>by
 obtain⟨r,hit,hL⟩:=bindE e;have c0:CxL B N Γ Φ (kL ks σ (J s0 i0)) a w:=by
  show Cx B N (kp ks σ++(J s0 i0).1) ((J s0 i0).2.1 Γ) (Φ++(J s0 i0).2.2) a w;rw[<-hΓ,<-hΦ];exact c.frs _ hσ
 refine wp_cut (M:=Mq B N Γ Φ (λv k=>kL k2 σ (ch v k,(J (f v) k).2)) L z) (wp_block (KL (Inv:=λs a w=>∃i,CxL B N Γ Φ (kL ks σ (J s i)) a w) hit ⟨i0,c0⟩ λs q a w hI hF hr=>?_)) λa w hI=>?_
 ·obtain⟨i,hi⟩:=hI;refine wp_mono (round (q:=q) s i (λr0 h=>by rw[hr r0 h];exact hL) hF hi) λe a w he=>?_;cases e with
  |normal=>obtain⟨s',i',h1,h2⟩:=he.h;exact⟨s',h1,i',h2⟩
  |_=>exact he
 ·obtain⟨v,k,h1,h2⟩:=hI.h;exact cont v k h1 h2
theorem zLpf{F:σt->Option (σt⊕ρt)}{L:ρt->Option τ}(ks k2:List Nat)(fs:List Nat)(f:ρt->σt)(i0:ι')(J:σt->ι'->Lpt)(ch:ρt->ι'->List (Nat×Value))
  (round:∀{q}s i,(∀r,q= .inr r->L r=some z)->Gl B N (F s=some q) (kp ks σ++(J s i).1) ((J s i).2.1 Γ) (Φ++(J s i).2.2) (b.wp P (Exit.then (Nq B N Γ Φ (λs i=>kL ks σ (J s i)) q) (Exit.inBlock id (Exit.then (Mq B N Γ Φ (λv k=>kL k2 σ (ch v k,(J (f v) k).2)) L z) Q)))))
  (cont:∀v k,Gl B N (L v=some z) (kp k2 σ++ch v k) ((J (f v) k).2.1 Γ) (Φ++(J (f v) k).2.2) K)
  (hσ:(kp ks σ++(J s0 i0).1).map (λp=>σ.lookup p.1)=(kp ks σ++(J s0 i0).1).map λp=>some p.2:=by kernel_rfl)(hΓ:Γ=(J s0 i0).2.1 Γ:=by kernel_rfl)(hΦ:fs.map (λi=>Φ[i]?)=(Φ++(J s0 i0).2.2).map some:=by kernel_rfl):
  Gl B N ((iterN F n s0).bind L=some z) σ Γ Φ ((Code.block id (.loop b)).wp P (Exit.then K Q)):=λe a w c=>by
 obtain⟨r,hit,hL⟩:=bindE e;have c0:CxL B N Γ Φ (kL ks σ (J s0 i0)) a w:=by
  obtain⟨h,S,F,h1,h2,h3⟩:=c.frs _ hσ;exact⟨h,S,F,h1,hΓ▸h2,h3.pick fs hΦ⟩
 refine wp_cut (M:=Mq B N Γ Φ (λv k=>kL k2 σ (ch v k,(J (f v) k).2)) L z) (wp_block (KL (Inv:=λs a w=>∃i,CxL B N Γ Φ (kL ks σ (J s i)) a w) hit ⟨i0,c0⟩ λs q a w hI hF hr=>?_)) λa w hI=>?_
 ·obtain⟨i,hi⟩:=hI;refine wp_mono (round (q:=q) s i (λr0 h=>by rw[hr r0 h];exact hL) hF hi) λe a w he=>?_;cases e with
  |normal=>obtain⟨s',i',h1,h2⟩:=he.h;exact⟨s',h1,i',h2⟩
  |_=>exact he
 ·obtain⟨v,k,h1,h2⟩:=hI.h;exact cont v k h1 h2
theorem zLR{F:σt->Option (σt⊕(ρ1⊕ρ2))}{L:ρ1⊕ρ2->Option τ}(ks k2:List Nat)(f:ρ1->σt)(i0:ι')(J:σt->ι'->Lpt)(ch:ρ1->ι'->List (Nat×Value))
  (round:∀{q}s i,(∀r,q= .inr r->L r=some z)->Gl B N (F s=some q) (kp ks σ++(J s i).1) ((J s i).2.1 Γ) (Φ++(J s i).2.2) (b.wp P (Exit.then (Nq B N Γ Φ (λs i=>kL ks σ (J s i)) q) (Exit.inBlock id (Exit.then (Mq B N Γ Φ (λv k=>kL k2 σ (ch v k,(J (f v) k).2)) (λv=>L (.inl v)) z) Q)))))
  (cont:∀v k,Gl B N (L (.inl v)=some z) (kp k2 σ++ch v k) ((J (f v) k).2.1 Γ) (Φ++(J (f v) k).2.2) K)
  (hσ:(kp ks σ++(J s0 i0).1).map (λp=>σ.lookup p.1)=(kp ks σ++(J s0 i0).1).map λp=>some p.2:=by kernel_rfl)(hΓ:Γ=(J s0 i0).2.1 Γ:=by kernel_rfl)(hΦ:Φ=Φ++(J s0 i0).2.2:=by kernel_rfl):
  Gl B N ((iterN F n s0).bind L=some z) σ Γ Φ ((Code.block id (.loop b)).wp P (Exit.then K Q)):=λe a w c=>by
 obtain⟨r,hit,hL⟩:=bindE e;have c0:CxL B N Γ Φ (kL ks σ (J s0 i0)) a w:=by
  show Cx B N (kp ks σ++(J s0 i0).1) ((J s0 i0).2.1 Γ) (Φ++(J s0 i0).2.2) a w;rw[<-hΓ,<-hΦ];exact c.frs _ hσ
 refine wp_cut (M:=Mq B N Γ Φ (λv k=>kL k2 σ (ch v k,(J (f v) k).2)) (λv=>L (.inl v)) z) (wp_block (KL (Inv:=λs a w=>∃i,CxL B N Γ Φ (kL ks σ (J s i)) a w) hit ⟨i0,c0⟩ λs q a w hI hF hr=>?_)) λa w hI=>?_
 ·obtain⟨i,hi⟩:=hI;refine wp_mono (round (q:=q) s i (λr0 h=>by rw[hr r0 h];exact hL) hF hi) λe a w he=>?_;cases e with
  |normal=>obtain⟨s',i',h1,h2⟩:=he.h;exact⟨s',h1,i',h2⟩
  |_=>exact he
 ·obtain⟨v,k,h1,h2⟩:=hI.h;exact cont v k h1 h2
theorem zLRf{F:σt->Option (σt⊕(ρ1⊕ρ2))}{L:ρ1⊕ρ2->Option τ}(ks k2:List Nat)(fs:List Nat)(f:ρ1->σt)(i0:ι')(J:σt->ι'->Lpt)(ch:ρ1->ι'->List (Nat×Value))
  (round:∀{q}s i,(∀r,q= .inr r->L r=some z)->Gl B N (F s=some q) (kp ks σ++(J s i).1) ((J s i).2.1 Γ) (Φ++(J s i).2.2) (b.wp P (Exit.then (Nq B N Γ Φ (λs i=>kL ks σ (J s i)) q) (Exit.inBlock id (Exit.then (Mq B N Γ Φ (λv k=>kL k2 σ (ch v k,(J (f v) k).2)) (λv=>L (.inl v)) z) Q)))))
  (cont:∀v k,Gl B N (L (.inl v)=some z) (kp k2 σ++ch v k) ((J (f v) k).2.1 Γ) (Φ++(J (f v) k).2.2) K)
  (hσ:(kp ks σ++(J s0 i0).1).map (λp=>σ.lookup p.1)=(kp ks σ++(J s0 i0).1).map λp=>some p.2:=by kernel_rfl)(hΓ:Γ=(J s0 i0).2.1 Γ:=by kernel_rfl)(hΦ:fs.map (λi=>Φ[i]?)=(Φ++(J s0 i0).2.2).map some:=by kernel_rfl):
  Gl B N ((iterN F n s0).bind L=some z) σ Γ Φ ((Code.block id (.loop b)).wp P (Exit.then K Q)):=λe a w c=>by
 obtain⟨r,hit,hL⟩:=bindE e;have c0:CxL B N Γ Φ (kL ks σ (J s0 i0)) a w:=by
  obtain⟨h,S,F,h1,h2,h3⟩:=c.frs _ hσ;exact⟨h,S,F,h1,hΓ▸h2,h3.pick fs hΦ⟩
 refine wp_cut (M:=Mq B N Γ Φ (λv k=>kL k2 σ (ch v k,(J (f v) k).2)) (λv=>L (.inl v)) z) (wp_block (KL (Inv:=λs a w=>∃i,CxL B N Γ Φ (kL ks σ (J s i)) a w) hit ⟨i0,c0⟩ λs q a w hI hF hr=>?_)) λa w hI=>?_
 ·obtain⟨i,hi⟩:=hI;refine wp_mono (round (q:=q) s i (λr0 h=>by rw[hr r0 h];exact hL) hF hi) λe a w he=>?_;cases e with
  |normal=>obtain⟨s',i',h1,h2⟩:=he.h;exact⟨s',h1,i',h2⟩
  |_=>exact he
 ·obtain⟨v,k,h1,h2⟩:=hI.h;exact cont v k h1 h2
def zNx{J:σt->ι'->Lpt}{q:σt⊕ρt}{Γ0:List HP}{Φ0:List RF}(i:ι')(gs fs:List Nat)(hg:gs.map (λi=>Γ[i]?)=((J s i).2.1 Γ0).map some:=by kernel_rfl)(hf:fs.map (λi=>Φ[i]?)=(Φ0++(J s i).2.2).map some:=by kernel_rfl)
  (hn:gs.Nodup:=by decide)(hσ:(J s i).1.map (λp=>σ.lookup p.1)=(J s i).1.map λp=>some p.2:=by kernel_rfl):Gl B N (some (Sum.inl s)=some q) σ Γ Φ (Nq B N Γ0 Φ0 J q):=λe _ _ c=>⟨s,i,(Option.some.inj e).symm,c.re gs fs hg hf hn hσ⟩
def zXe{q:σt⊕ρt}{L:ρt->Option τ}{M:ρt->κ->Lpt}{v:ρt}{Γ0:List HP}{Φ0:List RF}(J1:∀r,q= .inr r->L r=some z)(i:κ)(gs fs:List Nat)(hq:∀a w,Mq B N Γ0 Φ0 M L z a w->Q (.exit id) a w:=by exact λ_ _ h=>h)
  (hg:gs.map (λi=>Γ[i]?)=((M v i).2.1 Γ0).map some:=by kernel_rfl)(hf:fs.map (λi=>Φ[i]?)=(Φ0++(M v i).2.2).map some:=by kernel_rfl)
  (hn:gs.Nodup:=by decide)(hσ:(M v i).1.map (λp=>σ.lookup p.1)=(M v i).1.map λp=>some p.2:=by kernel_rfl):Gl B N (some (Sum.inr v)=some q) σ Γ Φ ((Code.exit id).wp P Q):=
 λe a w c=>wp_exit (hq _ _ ⟨v,i,J1 v (Option.some.inj e).symm,c.re gs fs hg hf hn hσ⟩)
def zXR{q:σt⊕(ρ1⊕ρ2)}{L:ρ1⊕ρ2->Option τ}{M:ρ1->κ->Lpt}{v:ρ1}{Γ0:List HP}{Φ0:List RF}(J1:∀r,q= .inr r->L r=some z)(i:κ)(gs fs:List Nat)(hq:∀a w,Mq B N Γ0 Φ0 M (λv=>L (.inl v)) z a w->Q (.exit id) a w:=by exact λ_ _ h=>h)
  (hg:gs.map (λi=>Γ[i]?)=((M v i).2.1 Γ0).map some:=by kernel_rfl)(hf:fs.map (λi=>Φ[i]?)=(Φ0++(M v i).2.2).map some:=by kernel_rfl)
  (hn:gs.Nodup:=by decide)(hσ:(M v i).1.map (λp=>σ.lookup p.1)=(M v i).1.map λp=>some p.2:=by kernel_rfl):Gl B N (some (Sum.inr (Sum.inl v))=some q) σ Γ Φ ((Code.exit id).wp P Q):=
 λe a w c=>wp_exit (hq _ _ ⟨v,i,J1 (.inl v) (Option.some.inj e).symm,c.re gs fs hg hf hn hσ⟩)
end
def evR(P:Program)(σ:List (Nat×Value))(Γ:List HP):List ResultVar->List Nat->Option (List Value×List (Nat×Nat))
 |[],_=>some ([],[])
 |.tmp t::rs,bs=>(σ.lookup t).bind λv=>(evR P σ Γ rs bs).map λr=>(v::r.1,r.2)
 |.cell t ty::rs,b::bs=>match σ.lookup t,(Γ[b]?).bind (·.box)with
  |some (.pointer (some ⟨p,0,none⟩)),some (p',cs)=>(loadV P ty 0 cs).bind λv=>(evR P σ Γ rs bs).map λr=>(v::r.1,(p,p')::r.2)
  |_,_=>none
 |_,_=>none
theorem Fg:∀{rs:List ResultVar}{bs:List Nat}{vs:List Value}{es:List (Nat×Nat)},Cx B N σ Γ Φ a w->evR P σ Γ rs bs=some (vs,es)->(∀p∈es,p.1=p.2)->(rs.mapM (getRes a)).run P w= .ok vs w
 |[],_,_,_,_,h,_=>by cases h;simp
 | .tmp t::rs,bs,vs,es,c,h,he=>by
  unfold evR at h;obtain⟨v,h1,h⟩:=bindE h;cases h2:evR P σ Γ rs bs with
  |none=>rw[h2]at h;cases h
  |some r=>
   rw[h2]at h;cases h;have h3:=Fg c h2 he;have h4:=c.fr.get _ _ h1;simp_all[Act.eval,ZhX,getRes]
 |.cell t ty::rs,[],_,_,_,h,_=>by cases h
 | .cell t ty::rs,b::bs,vs,es,c,h,he=>by
  unfold evR at h;split at h
  ·rename_i p p' cs g1 g2;obtain⟨v,h1,h⟩:=bindE h;cases h2:evR P σ Γ rs bs with
   |none=>rw[h2]at h;cases h
   |some r=>
    rw[h2]at h;cases h;have h3:=Fg c h2 λp hp=>he p (ZfT _ hp);have h4:=c.fr.get _ _ g1;obtain⟨i,hi,hb⟩:=bindE g2;obtain⟨_,S,F,_,hs,_⟩:=c;obtain⟨A,hA,_⟩:=hs.get _ hi;obtain⟨bt,hB⟩:=i.isb hb hA;have h5:=Hm h1 hB;have h6:=he _ Zgi;simp_all[Act.eval,ZhX,getRes,asAddr]
  ·cases h
def retM{R:Ending->World->Prop}{vs:List Value}{v:Value}{b:List ResultVar}(hr:fn.results=b.toArray)(hd:a.defers=[])(hv:(b.mapM (getRes a)).run P w= .ok vs w)(hval:tup vs=v)(h:R (.returned v) w):bodyPost P fn R .ret a w:=by
 refine⟨hd,v,?_,h⟩;have e:(results fn a.tmps).run P w=((b.toArray.mapM (getRes a)).run P w).andThen λvs w=>(pure (if h:vs.size=1 then vs[0]else .tuple vs):Sem Value).run P w:=by
  unfold results;rw[hr,Sem.run_bind];rfl
 rw[<-Zfm]at hval;simp_all
def Rq(P:Program)(fn:Func)(σ:List (Nat×Value))(Γ:List HP)(Φ:List RF)(gs fs bs:List Nat)(r:Res):Prop:=
 (evR P σ Γ fn.results.toList bs).map (λp=>(p.1,p.2.map (·.1)))=some (r.1,((evR P σ Γ fn.results.toList bs).map λp=>p.2.map (·.2)).getD [])/\gs.map (λj=>Γ[j]?)=r.2.1.map some/\fs.map (λj=>Φ[j]?)=r.2.2.map some/\ndN gs=true
theorem zRq{r y:α}(i:ι)(gs fs bs:List Nat)(hq:∀a w,RtP P fn B R a w->T a w:=by first|exact λ_ _ h=>wp_ret h|exact λ_ _ h=>h)(hv:y=r->Rq P fn σ Γ Φ gs fs bs (R i):=by intro e;subst e;exact⟨by kernel_rfl,by kernel_rfl,by kernel_rfl,by kernel_rfl⟩):
  Gl B N (some y=some r) σ Γ Φ T:=λe a w c=>by
 obtain⟨h1,h2,h3,h4⟩:=hv (Option.some.inj e);cases h5:evR P σ Γ fn.results.toList bs with
 |none=>rw[h5]at h1;cases h1
 |some p=>
  obtain⟨vs,es⟩:=p;rw[h5]at h1;simp only[Zgh,Zg8,Option.some.injEq,Prod.mk.injEq]at h1;obtain⟨rfl,h1⟩:=h1;exact hq _ _ ⟨retM U c.fr.defers (Fg c h5 λp hp=>ZgH.1 h1 p hp) rfl (c.out i gs fs h2 h3 (La h4))⟩
def zMp{x y:Code}{o:Operand}(b:Bool)(τ1 τ2 τ:List (Nat×Value))(D:List Nat)(h:Gl B N H (τ++σ.filter λp=>!memN D p.1) Γ Φ K)(hb:opd σ o=some (.bool b):=by kernel_rfl)
  (h1:(pureC P N σ x).map (λs=>τ1.map λp=>s.lookup p.1)=some (τ1.map λp=>some p.2):=by kernel_rfl)(h2:(pureC P N σ y).map (λs=>τ2.map λp=>s.lookup p.1)=some (τ2.map λp=>some p.2):=by kernel_rfl)
  (hx:((dstC x).all (memN D))=true:=by kernel_rfl)(hy:((dstC y).all (memN D))=true:=by kernel_rfl)(e1:b=true->τ1=τ:=by intro hb;first|rfl|(simp only[hb];done)|(simp only[hb];rfl)|(simp[hb];done))
  (e2:b=false->τ2=τ:=by intro hb;first|rfl|(simp only[hb];done)|(simp only[hb];rfl)|(simp[hb];done)):Gl B N H σ Γ Φ ((Code.cond o x y).wp P (Exit.then K Q)):=λe a w c=>Mp b τ1 τ2 τ D c (λ_ c=>h e c) hb h1 h2 hx hy e1 e2
def zRl{r y:α}(e:H->some y=some r)(i:ι)(gs fs bs:List Nat)(hq:∀a w,RtP P fn B R a w->T a w:=by first|exact λ_ _ h=>wp_ret h|exact λ_ _ h=>h)(hv:y=r->Rq P fn σ Γ Φ gs fs bs (R i):=by intro e;subst e;exact⟨by kernel_rfl,by kernel_rfl,by kernel_rfl,by kernel_rfl⟩):
  Gl B N H σ Γ Φ T:=λh a w c=>zRq i gs fs bs hq hv (e h) c
def zRo(i:ι)(gs fs bs:List Nat)(hq:∀a w,RtP P fn B R a w->T a w:=by first|exact λ_ _ h=>wp_ret h|exact λ_ _ h=>h)(hv:Rq P fn σ Γ Φ gs fs bs (R i):=by exact⟨by kernel_rfl,by kernel_rfl,by kernel_rfl,by kernel_rfl⟩):Gl B N H σ Γ Φ T:=λ_ _ _ c=>zRq (y:=()) (r:=()) i gs fs bs hq (λ_=>hv) rfl c
def zrE{R:Unit->Res}{r y:α}(hq:∀a w,RtP P fn B R a w->T a w:=by first|exact λ_ _ h=>wp_ret h|exact λ_ _ h=>h)(hv:y=r->Rq P fn σ Γ Φ [] [] [] (R ()):=by intro e;subst e;exact⟨by kernel_rfl,by kernel_rfl,by kernel_rfl,by kernel_rfl⟩):
  Gl B N (some y=some r) σ Γ Φ T:=zRq () [] [] [] hq hv
section
variable{ρ1 ρ2 κ τ:Type}{x:Code}{z:τ}{Γ0:List HP}{Φ0:List RF}
theorem zJr{e:Option (ρ1⊕ρ2)}{L:ρ1⊕ρ2->Option τ}(M:ρ1->κ->Lpt)(h1:∀{r},(∀v,r=v->L v=some z)->Gl B N (e=some r) σ Γ Φ (x.wp P (Exit.then (Mq B N Γ Φ M (λv=>L (.inl v)) z) Q)))
  (h2:∀v k,Gl B N (L (.inl v)=some z) (M v k).1 ((M v k).2.1 Γ) (Φ++(M v k).2.2) K):Gl B N (e.bind L=some z) σ Γ Φ (x.wp P (Exit.then K Q)):=λe a w c=>by
 obtain⟨r,hr,hL⟩:=bindE e;refine wp_mono (h1 (λv h=>h▸hL) hr c) λe a w he=>?_;cases e with
 |normal=>obtain⟨v,k,g1,g2⟩:=he.h;exact h2 v k g1 g2
 |_=>exact he
theorem zJp{e:Option α}{L:α->Option τ}(M:α->κ->Lpt)(h1:∀{r},(∀v,r=v->L v=some z)->Gl B N (e=some r) σ Γ Φ (x.wp P (Exit.then (Mq B N Γ Φ M L z) Q)))
  (h2:∀v k,Gl B N (L v=some z) (M v k).1 ((M v k).2.1 Γ) (Φ++(M v k).2.2) K):Gl B N (e.bind L=some z) σ Γ Φ (x.wp P (Exit.then K Q)):=λe a w c=>by
 obtain⟨r,hr,hL⟩:=bindE e;refine wp_mono (h1 (λv h=>h▸hL) hr c) λe a w he=>?_;cases e with
 |normal=>obtain⟨v,k,g1,g2⟩:=he.h;exact h2 v k g1 g2
 |_=>exact he
def zJe{L:α->Option τ}{M:α->κ->Lpt}{r v:α}(J1:∀v,r=v->L v=some z)(i:κ)(gs fs:List Nat)(hg:gs.map (λi=>Γ[i]?)=((M v i).2.1 Γ0).map some:=by kernel_rfl)(hf:fs.map (λi=>Φ[i]?)=(Φ0++(M v i).2.2).map some:=by kernel_rfl)
  (hn:gs.Nodup:=by decide)(hσ:(M v i).1.map (λp=>σ.lookup p.1)=(M v i).1.map λp=>some p.2:=by kernel_rfl):Gl B N (some v=some r) σ Γ Φ (Mq B N Γ0 Φ0 M L z):=λe _ _ c=>⟨v,i,J1 v (Option.some.inj e).symm,c.re gs fs hg hf hn hσ⟩
def zJR{L:ρ1⊕ρ2->Option τ}{M:ρ1->κ->Lpt}{r:ρ1⊕ρ2}{v:ρ1}(J1:∀v,r=v->L v=some z)(i:κ)(gs fs:List Nat)(hg:gs.map (λi=>Γ[i]?)=((M v i).2.1 Γ0).map some:=by kernel_rfl)(hf:fs.map (λi=>Φ[i]?)=(Φ0++(M v i).2.2).map some:=by kernel_rfl)
  (hn:gs.Nodup:=by decide)(hσ:(M v i).1.map (λp=>σ.lookup p.1)=(M v i).1.map λp=>some p.2:=by kernel_rfl):Gl B N (some (Sum.inl v)=some r) σ Γ Φ (Mq B N Γ0 Φ0 M (λv=>L (.inl v)) z):=λe _ _ c=>⟨v,i,J1 _ (Option.some.inj e).symm,c.re gs fs hg hf hn hσ⟩
end
class Vu(α:Type)[Rep α]where
 V:α->Option Addr->Nat->Value
 F:α->Option Addr->Nat->List RF
 out {B:Bs} {N:Nat} {σ:List (Nat×Value)} {Γ:List HP} {Φ:List RF} {a:Act} {w:World} {u:Value} {x:α}:Cx B N σ Γ (Φ++[RO u x]) a w->∃b n,u=V x b n/\Cx B N σ Γ (Φ++[RO u x]++F x b n) a w
instance:Vu D.Term where
 V:=tV
 F x b n:=[lR b x.Kids n]
 out {B N σ Γ Φ a w u x} c:=c.o_Term Φ.length U
instance{α:Type}[Rep α]:Vu (List α)where
 V l b n:=L b l n
 F _ _ _:=[]
 out {B N σ Γ Φ a w u x} c:=by
  obtain⟨b,n,h⟩:=c.sl (l:=x) (v:=u) Φ.length U;exact⟨b,n,h,by simpa using c⟩
section
variable{E:TypeId}{v:Value}{t t' ty ty':TypeId}{pos pos':String}{af af':Array Edge}{x y:Operand}{d2:Nat}{n m:Int}
def EemV[Rep α][Vu α]{l:List α}{f0:α->Option β}(hl:∀{w},Ava [] Φ w (RO v l))(ho:ops[k]? =some ⟨some d,.indexAddr t x y,ty,pos,af,none⟩:=by rfl)(ho':ops[k+1]? =some ⟨some d2,.load t' (.tmp d),ty',pos',af',none⟩:=by rfl)(hd:Nat.blt d N=true:=by rfl)(hd':Nat.blt d2 N=true:=by rfl)(he:Ty P t' α:=by constructor<;>kernel_rfl)(ht:P.underlying t=some (.slice t'):=by kernel_rfl)(hx:opd σ x=some v:=by kernel_rfl)(hy:numOf (opd σ y)=some n:=by kernel_rfl)(Z:∀q p b j,Gl B N (f0 q=some z) ((d2,Vu.V q b j)::(d,p)::σ) Γ (Φ++[RO (Vu.V q b j) q]++Vu.F q b j) (wpFrom P ops Q (k+2))):Gl B N ((get? l n).bind f0=some z) σ Γ Φ (wpFrom P ops Q k):=
 Eem hl (Z:=λq p u e{_ _}c=>by obtain⟨b,j,rfl,c⟩:=Vu.out c;exact Z q p b j e c) ho ho' hd hd' he ht hx hy
def zel[Rep α]{l:List α}{f0:α->Option β}(hl:∀{w},Ava [] Φ w (RO v l))(h:∀q p u,Gl B N (f0 q=some z) σ Γ (Φ++[EA α v n p u,RO u q]) T):Gl B N ((get? l n).bind f0=some z) σ Γ Φ T:=λe a w c=>by
 obtain⟨q,hq,e⟩:=bindE e;obtain⟨p,u,c⟩:=c.elp hl hq;exact h q p u e c
def zelV[Rep α][Vu α]{l:List α}{f0:α->Option β}(hl:∀{w},Ava [] Φ w (RO v l))(h:∀q p b j,Gl B N (f0 q=some z) σ Γ (Φ++[EA α v n p (Vu.V q b j),RO (Vu.V q b j) q]++Vu.F q b j) T):Gl B N ((get? l n).bind f0=some z) σ Γ Φ T:=
 zel hl λq p u e{_ _}c=>by
  obtain⟨b,j,rfl,c⟩:=Vu.out (Φ:=Φ++[EA α v n p u]) an;exact h q p b j e an
def EslV[Rep α]{l:List α}{f0:List α->Option β}{lo hi:Option Operand}(E:TypeId)(hl:∀{w},Ava [] Φ w (RO v l))(ho:ops[k]? =some ⟨some d,.slice t x lo hi none,ty,pos,af,none⟩:=by rfl)(hd:Nat.blt d N=true:=by rfl)(he:Ty P E α:=by constructor<;>kernel_rfl)(ht:P.underlying t=some (.slice E):=by kernel_rfl)(hx:opd σ x=some v:=by kernel_rfl)(hlo:loN σ lo=some m:=by kernel_rfl)(hhi:hiN (len l) σ hi=some n:=by kernel_rfl)(Z:∀r b j,Gl B N (f0 r=some z) ((d,L b r j)::σ) Γ (Φ++[lR b r j]) (wpFrom P ops Q (k+1))):Gl B N ((cut? l m n).bind f0=some z) σ Γ Φ (wpFrom P ops Q k):=
 Esl E hl (Z:=λr u e{_ _}c=>by
  obtain⟨b,j,hb⟩:=c.sl (l:=r) (v:=u) Φ.length U;subst hb
  exact Z r b j e c) ho hd he ht hx hlo hhi
end
end
structure Rc where
 val:Value
 gs:List (Nat×Option HP)
 fs:List RF
structure Sp where
 κ:Type
 d:κ
 pr:List Nat
 ps:List Nat
 f:κ->(Nat->Value)->Value×List (Option HP)×List RF
def Sp.rc(s:Sp)(g:s.κ)(V:Nat->Value):Rc:=⟨(s.f g V).1,s.ps.zip (s.f g V).2.1,(s.f g V).2.2⟩
abbrev Sps:=List (Nat×Sp)
abbrev Rr:=Nat->(Nat->Value)->Rc
def sP{κ:Type}[Inhabited κ](pr ps:List Nat)(f:κ->(Nat->Value)->Value×List HP×List RF):Sp:=⟨κ,default,pr,ps,λg V=>((f g V).1,(f g V).2.1.map some,(f g V).2.2)⟩
def sC{κ:Type}[Inhabited κ](pr ps:List Nat)(f:κ->(Nat->Value)->Value×List HP×List RF):Sp:=⟨κ,default,pr,ps,λg V=>((f g V).1,(f g V).2.1.map some++List.replicate ps.length none,(f g V).2.2)⟩
def sV(pr:List Nat)(v:Value):Sp:=sP (κ:=Unit) pr [] λ_ _=>(v,[],[])
def pb:Value->Nat
 |.pointer (some a)=>a.block
 |.map (some b)=>b
 |_=>0
def sa(v:Value)(q:Nat):Option Addr:=match v with
 |.agg cs=>match cs.toList[q]? with
  |some (.slice a _ _)=>a
  |_=>none
 |.slice a _ _=>a
 |_=>none
def sc(v:Value)(q:Nat):Nat:=match v with
 |.agg cs=>match cs.toList[q]? with
  |some (.slice _ _ c)=>c
  |_=>0
 |.slice _ _ c=>c
 |_=>0
def AllR:Sps->(Rr->Prop)->Prop
 |[],T=>T λ_ _=>⟨undef,[],[]⟩
 |ks::l,T=>∀g:ks.2.κ,AllR l λr=>T λj=>cond (Nat.beq j ks.1) (ks.2.rc g) (r j)
def Vd:Sps->Rr->Prop
 |[],r=>r=λ_ _=>⟨undef,[],[]⟩
 |ks::l,r=>∃g r',Vd l r'/\r=λj=>cond (Nat.beq j ks.1) (ks.2.rc g) (r' j)
theorem AllR.at:∀{l:Sps}{T:Rr->Prop}{r:Rr},AllR l T->Vd l r->T r
 |[],_,_,h,v=>by cases v;exact h
 |_::_,_,_,h,⟨g,_,v,e⟩=>by subst e;exact(h g).at v
theorem AllR.imp:∀{l:Sps}{T T':Rr->Prop},AllR l T->(∀r,T r->T' r)->AllR l T'
 |[],_,_,h,f=>f _ h
 |_::_,_,_,h,f=>λg=>AllR.imp (h g) λ_=>f _
theorem Vd.mk:∀l:Sps,∃r,Vd l r
 |[]=>⟨_,rfl⟩
 |ks::l=>let ⟨r,h⟩:=Vd.mk l;⟨_,ks.2.d,r,h,rfl⟩
theorem Vd.upd{i:Nat}{s:Sp}:∀{l:Sps}{r:Rr},Vd l r->l.lookup i=some s->∀g:s.κ,∃r',Vd l r'/\r' i=s.rc g/\∀j,j≠i->r' j=r j
 |[],_,_,h,_=>by cases h
 | ks::l,r,⟨g0,r0,v,e⟩,h,g=>by
  rw[ZfZ]at h;by_cases hi:i=ks.1
  ·subst hi;simp only[Zh8,Option.some.injEq]at h;subst h;refine⟨_,⟨g,r0,v,rfl⟩,by simp,λj hj=>?_⟩;have:Nat.beq j ks.1=false:=by rw[Zhb];exact λh=>hj (Zg2 h)
   simp[e,this]
  ·have hb:(i==ks.1)=false:=by simpa using hi
   rw[hb]at h;obtain⟨r1,v1,h1,h2⟩:=v.upd h g;refine⟨_,⟨g0,r1,v1,rfl⟩,?_,λj hj=>?_⟩
   ·have:Nat.beq i ks.1=false:=by rw[Zhb];exact λh=>hi (Zg2 h)
    simp[this,h1]
   ·simp only[e,h2 j hj]
def wm(ops:Array Oper)(j:Nat):Nat:=(waits ops j).foldl (λs e=>s|||2^e) 0
def clm(ops:Array Oper):Nat->Nat->Nat
 |0,s=>s
 |n+1,s=>clm ops n (cond (s.testBit n) (s|||wm ops n) s)
def cl(ops:Array Oper)(i:Nat):List Nat:=(rg i).filter λk=>(clm ops i (wm ops i)).testBit k
theorem Cz{e:Nat}:∀{l:List Nat}{s:Nat},(l.foldl (λs e=>s|||2^e) s).testBit e=true->s.testBit e=true\/e∈l
 |[],_,h=>.inl h
 | x::l,s,h=>by
  rcases Cz (l:=l) h with h|h
  ·rw[Nat.testBit_or,Zgx,Nat.testBit_two_pow]at h;rcases h with h|h
   ·exact .inl h
   ·exact .inr ah
  ·exact .inr (ZfT _ h)
theorem ES{ops:Array Oper}{D:Nat->Prop}(hc:∀k,k<ops.size->D k->∀e∈waits ops k,D e):∀(n s:Nat),n<=ops.size->(∀e,s.testBit e=true->D e)->∀e,(clm ops n s).testBit e=true->D e
 |0,_,_,h=>h
 | n+1,s,hn,h=>by
  refine ES hc n _ O λe he=>?_;cases hb:s.testBit n with
  |false=>rw[hb]at he;exact h e he
  |true=>
   rw[hb,cond_true,Nat.testBit_or,Zgx]at he;rcases he with he|he
   ·exact h e he
   ·exact hc n hn (h n hb) e ((Cz he).resolve_left U)
theorem ZeC:∀{n k:Nat},k∈rg n->k<n
 |n+1,k,h=>by
  unfold rg at h;rcases ZfG.1 h with h|h
  ·have:=ZeC h;omega
  ·simp at h;omega
def KY{ops:Array Oper}{i k:Nat}(hk:k∈cl ops i):k<i:=ZeC (Zgv.1 hk).1
def Fs{ops:Array Oper}{m:Array Bool}{i:Nat}(hi:i<ops.size)(hc:∀k,k<ops.size->m.getD k false=true->∀e∈waits ops k,m.getD e false=true)(hm:∀k∈waits ops i,m.getD k false=true):∀k∈cl ops i,m.getD k false=true:=λk hk=>
 ES (D:=λk=>m.getD k false=true) hc i _ O (λe he=>hm e ((Cz he).resolve_left U)) k (Zgv.1 hk).2
def dstN(ops:Array Oper)(i:Nat):Option Nat:=(ops[i]?).bind (·.dst)
def sgF(ops:Array Oper)(vs:Nat->Value)(σ:List (Nat×Value)):List Nat->List (Nat×Value)
 |[]=>σ
 |j::l=>match dstN ops j with
  |some d=>(d,vs j)::sgF ops vs σ l
  |none=>sgF ops vs σ l
def exc(ops:Array Oper)(V:Nat->Value):Nat->Nat->Prop
 |0,_=>False
 |n+1,j=>match guardOf ops j with
  |none=>True
  |some (g,b)=>exc ops V n g/\V g= .bool b
def cg(ops:Array Oper)(i:Nat):List Nat:=(cl ops i).filter λj=>okG ops ops.size i j
def cb(ops:Array Oper)(i:Nat)(g:Option Nat)(b:Bool):List Nat:=(cl ops i).filter λj=>okG ops ops.size i j||(g.isSome&&guardOf ops j==g.map (·,b))
def qev(P:Program)(bx:Bxs)(hs:List (Nat×Nat))(ops:Array Oper)(vs:Nat->Value)(σ:List (Nat×Value))(n:Nat):Option (Value×List (Nat×Nat)):=
 match ops[n]? with
 |none=>none
 | some o=>match o.op with
  | .pick c a b=>match c,opd (sgF ops vs σ (cg ops n)) c with
   |.tmp t,some (.bool x)=>match opd (sgF ops vs σ (cb ops n (lastW ops t ops.size) true)) a,opd (sgF ops vs σ (cb ops n (lastW ops t ops.size) false)) b with
    |some u,some v=>some (pickV x u v,[])
    |_,_=>none
   |_,_=>none
  |op=>evB P bx (opd (sgF ops vs σ (cg ops n))) (hs.lookup n) op
def rgu(ops:Array Oper)(m:Nat):List Nat:=(rg m).filter λj=>(guardOf ops j).isNone
def isE(sps:Sps)(n:Nat):Bool:=memN (sps.map (·.1)) n
def mkV(ops:Array Oper)(n:Nat)(vs:Nat->Value)(j:Nat):Value:=cond (memN (cl ops n) j) (vs j) undef
def vals(P:Program)(bx:Bxs)(hs:List (Nat×Nat))(ops:Array Oper)(sps:Sps)(r:Rr)(σ:List (Nat×Value)):Nat->Nat->Value
 |0,_=>undef
 |n+1,j=>cond (Nat.beq j n) (cond (isE sps n) (r n (mkV ops n (vals P bx hs ops sps r σ n))).val (((qev P bx hs ops (vals P bx hs ops sps r σ n) σ n).map (·.1)).getD undef)) (vals P bx hs ops sps r σ n j)
def wrE(r:Nat->Rc)(S:Nat->Bool)(p k:Nat):Option (Option HP):=cond (S k) ((r k).gs.lookup p) none
def ver(e:Nat->Option (Option HP)):Sps->Option HP->Option HP
 |[],acc=>acc
 |ks::l,acc=>ver e l ((e ks.1).getD acc)
def okp(sps:Sps)(i:Nat)(s:Sp)(p:Nat):Bool:=sps.all λks=>!memN ks.2.ps p||Nat.beq ks.1 i||memN s.pr ks.1||memN ks.2.pr i
def gamF(f:Nat->Option HP):Nat->Nat->List HP
 |_,0=>[]
 |k,n+1=>match f k with
  |some h=>h::gamF f (k+1) n
  |none=>gamF f (k+1) n
def fac(r:Nat->Rc)(S:Nat->Bool):Sps->List RF
 |[]=>[]
 |ks::l=>cond (S ks.1) ((r ks.1).fs++fac r S l) (fac r S l)
def mx(Γ:List HP)(sps:Sps):Nat:=sps.foldl (λa ks=>ks.2.ps.foldl (λa p=>cond (Nat.blt p a) a (p+1)) a) Γ.length
def dsts(ops:Array Oper):List Nat:=ops.toList.filterMap (·.dst)
def cutS(m:Nat)(ops:Array Oper)(σ:List (Nat×Value)):List (Nat×Value):=σ.filter λp=>!memN ((ops.toList.take m).filterMap (·.dst)) p.1
def stG(sps:Sps)(Γ:List HP):List HP:=gamF (λp=>cond (sps.any λks=>memN ks.2.ps p) none Γ[p]?) 0 Γ.length
section
variable(P:Program)(N:Nat)(hs:List (Nat×Nat))(ops:Array Oper)(sps:Sps)(σ:List (Nat×Value))(Γ:List HP)(Φ:List RF)(r:Rr)
def vl(j:Nat):Value:=vals P (bxsOf (stG sps Γ) Φ) hs ops sps r σ ops.size j
def rcs(k:Nat):Rc:=r k (mkV ops k (vl P hs ops sps σ Γ Φ r))
def Γi(R:Nat->Rc)(i:Nat)(s:Sp)(q:Nat->Option (Option HP)):List HP:=gamF (λp=>cond (okp sps i s p) ((q p).getD (ver (wrE R (memN s.pr) p) sps Γ[p]?)) none) 0 (mx Γ sps)
structure PsE(B:Bs)(R:Nat->Rc)(i:Nat)(s:Sp)(V:Nat->Value)(a:Act)(w:World):Prop where
 h:∃g,Cx B N (sgF ops (λ_=>(s.rc g V).val) [] [i]) (Γi sps Γ R i s λp=>(s.rc g V).gs.lookup p) (s.rc g V).fs a w
def ObE(B:Bs)(Q:Exit->Act->World->Prop)(i:Nat)(s:Sp):Prop:=match ops[i]? with
 | some o=>match o.guard with
  |none=>Gl B N True (sgF ops (vl P hs ops sps σ Γ Φ r) σ (cg ops i)) (Γi sps Γ (rcs P hs ops sps σ Γ Φ r) i s λ_=>none) (Φ++fac (rcs P hs ops sps σ Γ Φ r) (memN s.pr) sps)
   (wpFrom P #[{o with guard:=none}] (Exit.then (PsE N ops sps Γ B (rcs P hs ops sps σ Γ Φ r) i s (mkV ops i (vl P hs ops sps σ Γ Φ r))) Q) 0)
  |some _=>Gl B N (exc ops (vl P hs ops sps σ Γ Φ r) ops.size i) (sgF ops (vl P hs ops sps σ Γ Φ r) σ (cg ops i)) (Γi sps Γ (rcs P hs ops sps σ Γ Φ r) i s λ_=>none) (Φ++fac (rcs P hs ops sps σ Γ Φ r) (memN s.pr) sps)
   (wpFrom P #[{o with guard:=none}] (Exit.then (PsE N ops sps Γ B (rcs P hs ops sps σ Γ Φ r) i s (mkV ops i (vl P hs ops sps σ Γ Φ r))) Q) 0)
 |none=>True
def Obs(B:Bs)(Q:Exit->Act->World->Prop):Sps->Prop
 |[]=>True
 |[ks]=>ObE P N hs ops sps σ Γ Φ r B Q ks.1 ks.2
 |ks::l=>ObE P N hs ops sps σ Γ Φ r B Q ks.1 ks.2/\Obs B Q l
def gdE(ks:Nat×Sp):Bool:=(guardOf ops ks.1).isNone||((rcs P hs ops sps σ Γ Φ r ks.1).gs.isEmpty&&(rcs P hs ops sps σ Γ Φ r ks.1).fs.isEmpty)
def gdQ(n:Nat):Bool:=(dstN ops n).isSome
def gdS:Bool:=(rg ops.size).all λn=>match guardOf ops n with
 |none=>true
 |some (g,_)=>memN (waits ops n) g&&(dstN ops g).isSome
def qv(n:Nat):Option (Value×List (Nat×Nat)):=qev P (bxsOf (stG sps Γ) Φ) hs ops (vl P hs ops sps σ Γ Φ r) σ n
def quietI(m0:Nat):List Nat:=(rg m0).filter λn=>!isE sps n
def ascN:List Nat->Bool
 |[]=>true
 |x::l=>l.all (λy=>Nat.blt x y)&&ascN l
def StP(m0:Nat):Bool:=gdS ops&&sufB ops m0&&acyc ops&&ndN (dsts ops)&&(dsts ops).all (λd=>Nat.blt d N)&&ascN (sps.map (·.1))&&sps.all (λks=>Nat.blt ks.1 m0&&ks.2.ps.all (okp sps ks.1 ks.2)&&sps.all λk2=>memN ks.2.pr k2.1==memN (cl ops ks.1) k2.1)&&(quietI sps m0).all (gdQ ops)&&Nat.ble Γ.length (mx Γ sps)
end
section
variable{e e':Nat->Option (Option HP)}{f f':Nat->Option HP}{w:World}{S:Nat->Prop}{ops:Array Oper}{vs vs':Nat->Value}{σ:List (Nat×Value)}{N:Nat}{a:Act}{sps:Sps}
theorem Qz:∀{l:Sps}{acc:Option HP},(∀ks∈l,e ks.1=e' ks.1)->ver e l acc=ver e' l acc
 |[],_,_=>rfl
 |ks::l,_,h=>by
  unfold ver;rw[h ks Zgi];exact Qz λk hk=>h k (ZfT _ hk)
theorem Qx:∀{l:Sps}{acc:Option HP},(∀ks∈l,e ks.1=none)->ver e l acc=acc
 |[],_,_=>rfl
 |ks::l,_,h=>by
  unfold ver;rw[h ks Zgi];exact Qx λk hk=>h k (ZfT _ hk)
theorem BQ{i:Nat}{s:Sp}:∀{l:Sps}{acc:Option HP},ascN (l.map (·.1))=true->(i,s)∈l->e i=none->(∀ks∈l,ks.1≠i->e' ks.1=e ks.1)->(∀ks∈l,i<ks.1->e ks.1=none)->ver e' l acc=(e' i).getD (ver e l acc)
 |[],_,_,h,_,_,_=>by cases h
 | ks::l,acc,ha,hm,hi,he,hl=>by
  simp only[Zgu,ascN,ZfF,ZfV,Zg5]at ha;obtain⟨ha,hb⟩:=ha;unfold ver;by_cases h:ks.1=i
  ·have hgt:∀k∈l,i<k.1:=λk hk=>by have:=ha k.1 ⟨k,hk,rfl⟩;rw[h]at this;exact ZfW.mp this
   rw[h,hi,Qx (l:=l) (e:=e) λk hk=>hl k (ZfT _ hk) (hgt k hk),Qx (l:=l) (e:=e') λk hk=>by
    have:=hgt k hk
    rw[he k (ZfT _ hk) O];exact hl k (ZfT _ hk) this]
   rfl
  ·rw[he ks Zgi h];refine BQ (s:=s) hb ?_ hi (λk hk=>he k (ZfT _ hk)) λk hk=>hl k (ZfT _ hk);rcases ZfY.1 hm with h1|h1
   ·subst h1;exact absurd rfl h
   ·exact h1
theorem Wj:∀{n k:Nat},(∀p,f p=f' p)->gamF f k n=gamF f' k n
 |0,_,_=>rfl
 |n+1,k,h=>by
  unfold gamF;rw[h k,Wj (n:=n) h]
theorem Dn{h:HP}:∀{n k:Nat}(p:Nat),k<=p->p<k+n->f p=some h->h∈gamF f k n
 |0,_,_,h1,h2,_=>by omega
 | n+1,k,p,h1,h2,h3=>by
  unfold gamF;by_cases hk:k=p
  ·subst hk;rw[h3];exact Zgi
  ·have:=Dn (n:=n) (k:=k+1) p O O h3;split
   ·exact ZfT _ this
   ·exact this
theorem JY{h:HP}:∀{n k:Nat},h∈gamF f k n->∃p,k<=p/\p<k+n/\f p=some h
 |0,_,h1=>by cases h1
 | n+1,k,h1=>by
  unfold gamF at h1;split at h1
  ·rename_i h2 h3;rcases ZfY.1 h1 with rfl|h1
   ·exact⟨k,by omega,by omega,h3⟩
   ·obtain⟨p,g1,g2,g3⟩:=JY h1;exact⟨p,by omega,by omega,g3⟩
  ·obtain⟨p,g1,g2,g3⟩:=JY h1;exact⟨p,by omega,by omega,g3⟩
def Sep.midl{P:HP}{A R:List HP}(h:Sep (P::(A++R)) w S):Sep (A++P::R) w S:=by
 have h:=Zn (Γ2:=[P]) (Γ:=A++R) h;rw[ZfO]at h;obtain⟨X,Y,h1,h2,h3,h4,h5⟩:=h.split;exact Sep.join h1 (Zn (Γ2:=R) (Γ:=[P]) h2) (λk _=>h3 k) (λk _=>h4 k) λk _=>h5 k
def Sep.midr{P:HP}{A R:List HP}(h:Sep (A++P::R) w S):Sep (P::(A++R)) w S:=by
 obtain⟨X,Y,h1,h2,h3,h4,h5⟩:=h.split;have h2:=Zn (Γ2:=[P]) (Γ:=R) h2;have h:=Sep.join h1 h2 (λk _=>h3 k) (λk _=>h4 k) λk _=>h5 k;rw[<-ZfO]at h;exact Zn (Γ2:=A++R) (Γ:=[P]) h
def Sep.cons2{P:HP}{A R:List HP}(f:∀{S:Nat->Prop},Sep A w S->Sep R w S)(h:Sep (P::A) w S):Sep (P::R) w S:=by
 obtain⟨X,Y,h1,h2,h3,h4,h5⟩:=Sep.split (L1:=[P]) h;exact Sep.join (L1:=[P]) h1 (f h2) (λk _=>h3 k) (λk _=>h4 k) λk _=>h5 k
theorem MR(ok:Nat->Bool):∀{n k:Nat}{S:Nat->Prop},Sep (gamF f k n) w S->Sep (gamF (λp=>cond (ok p) (f p) none) k n++gamF (λp=>cond (ok p) none (f p)) k n) w S
 |0,_,_,h=>h
 | n+1,k,_,h=>by
  unfold gamF at h⊢;cases hf:f k with
  |none=>rw[hf]at h;cases hk:ok k<;>exact MR ok h
  |some x=>
   rw[hf]at h;have h:=Sep.cons2 (MR ok) h;cases hk:ok k with
   |true=>simpa[hk,hf]using h
   |false=>simpa[hk,hf]using h.midl
theorem Mj(ok:Nat->Bool):∀{n k:Nat}{S:Nat->Prop},Sep (gamF (λp=>cond (ok p) (f p) none) k n++gamF (λp=>cond (ok p) none (f p)) k n) w S->Sep (gamF f k n) w S
 |0,_,_,h=>h
 | n+1,k,_,h=>by
  unfold gamF at h⊢;cases hf:f k with
  |none=>simp only[hf]at h;cases hk:ok k<;>simp only[hk]at h<;>exact Mj ok h
  |some x=>
   cases hk:ok k with
   |true=>simp only[hk,hf,cond_true]at h;exact Sep.cons2 (Mj ok) h
   |false=>simp only[hk,hf,cond_false]at h;exact Sep.cons2 (Mj ok) h.midr
theorem TJ(r:Nat->Rc){R:RF}{T:Nat->Bool}:∀{l:Sps},R∈fac r T l↔∃ks∈l,T ks.1=true/\R∈(r ks.1).fs
 |[]=>by simp[fac]
 |ks::l=>by
  unfold fac;have:=TJ r (R:=R) (T:=T) (l:=l);cases h:T ks.1<;>simp_all
theorem MM:∀{l:List Nat},(∀j∈l,vs j=vs' j)->sgF ops vs σ l=sgF ops vs' σ l
 |[],_=>rfl
 |j::l,h=>by
  unfold sgF;rw[h j Zgi,MM λk hk=>h k (ZfT _ hk)]
theorem Zcu(h:FrS N σ a):∀{l:List Nat},(∀j∈l,∀d,dstN ops j=some d->a.eval (.tmp d)=vs j)->FrS N (sgF ops vs σ l) a
 |[],_=>h
 |j::l,hl=>by
  have:=Zcu h λk hk=>hl k (ZfT _ hk);unfold sgF;split
  ·rename_i d hd;exact this.cons (hl j Zgi d hd)
  ·exact this
theorem Mr{α:Type}{p:Nat}:∀{l:List Nat}{m:List α},memN l p=false->(l.zip m).lookup p=none
 |[],_,_=>rfl
 |_::_,[],_=>rfl
 | x::l,y::m,h=>by
  simp only[memN,Zhe]at h;have:(p==x)=false:=by
   have h1:=h.1;rw[Zhb]at h1⊢;intro h2;exact h1 (by simpa using(eq_of_beq h2).symm)
  rw[List.zip_cons_cons,ZfZ,this];exact Mr h.2
theorem Vd.get:∀{l:Sps}{r:Rr},Vd l r->ascN (l.map (·.1))=true->∀ks∈l,∃g,r ks.1=ks.2.rc g
 |[],_,_,_,_,h=>by cases h
 | k0::l,_,⟨g,r1,v,e⟩,ha,ks,hm=>by
  subst e;simp only[Zgu,ascN,ZfF,ZfV,Zg5]at ha;rcases ZfY.1 hm with rfl|hm
  ·exact⟨g,by simp⟩
  ·obtain⟨g',hg⟩:=Vd.get v ha.2 ks hm;have:=ZfW.mp (ha.1 ks.1 ⟨ks,hm,rfl⟩);have hb:Nat.beq ks.1 k0.1=false:=by
    rw[Zhb];intro h;have:=Zg2 h;omega
   exact⟨g',by simp[hb,hg]⟩
theorem JR:∀{l:Sps},ascN (l.map (·.1))=true->∀ks∈l,l.lookup ks.1=some ks.2
 |[],_,_,h=>by cases h
 | k0::l,ha,ks,hm=>by
  simp only[Zgu,ascN,ZfF,ZfV,Zg5]at ha;rw[ZfZ];rcases ZfY.1 hm with rfl|hm
  ·simp
  ·have:=ZfW.mp (ha.1 ks.1 ⟨ks,hm,rfl⟩);have hb:(ks.1==k0.1)=false:=by
    rw[Zhb];intro h;have:=eq_of_beq h;omega
   rw[hb];exact JR ha.2 ks hm
end
section
variable{P:Program}{bx:Bxs}{hs:List (Nat×Nat)}{ops:Array Oper}{sps:Sps}{r r':Rr}{σ:List (Nat×Value)}{vs vs':Nat->Value}
def ZeQ{n j:Nat}(h:j∈cg ops n):j∈cl ops n:=(Zgv.1 h).1
def Zfb{n j:Nat}{g:Option Nat}{b:Bool}(h:j∈cb ops n g b):j∈cl ops n:=(Zgv.1 h).1
def Gx{n:Nat}(h:∀j∈cl ops n,vs j=vs' j):qev P bx hs ops vs σ n=qev P bx hs ops vs' σ n:=by
 have h1:sgF ops vs σ (cg ops n)=sgF ops vs' σ (cg ops n):=MM λj hj=>h j (ZeQ hj);have h2:∀g b,sgF ops vs σ (cb ops n g b)=sgF ops vs' σ (cb ops n g b):=λg b=>MM λj hj=>h j (Zfb hj);unfold qev;simp only[h1,h2]
theorem Gj{m:Nat->Bool}(hw:∀j g b,guardOf ops j=some (g,b)->m j=true->m g=true)(h:∀j,m j=true->vs j=vs' j):∀n j,m j=true->(exc ops vs n j↔exc ops vs' n j)
 |0,_,_=>Iff.rfl
 | n+1,j,hj=>by
  unfold exc;cases hg:guardOf ops j with
  |none=>exact Iff.rfl
  |some p=>
   have h1:=hw j p.1 p.2 hg hj;simp only[Gj hw h n p.1 h1,h p.1 h1]
theorem Mm(hg:∀j g b,guardOf ops j=some (g,b)->g<j):∀n m j,j<n->j<m->exc ops vs n j->exc ops vs m j
 |0,_,_,h,_,_=>by omega
 |n+1,0,_,_,h,_=>by omega
 | n+1,m+1,j,h1,h2,h=>by
  unfold exc at h⊢;cases hj:guardOf ops j with
  |none=>trivial
  |some p=>
   obtain⟨g,b⟩:=p;rw[hj]at h;have:=hg j g b hj;exact⟨Mm hg n m g O O h.1,h.2⟩
theorem GV(hg:∀j g b,guardOf ops j=some (g,b)->g<j):∀n j i,okG ops n j i=true->∀m,j<m->i<m->exc ops vs m j->exc ops vs m i
 |0,j,i,h,m,_,him,_=>by
  obtain⟨m,rfl⟩:∃k,m=k+1:=⟨m-1,by omega⟩;simp_all[okG,exc,ZgO]
 | n+1,j,i,h,m,hjm,him,hj=>by
  obtain⟨m,rfl⟩:∃k,m=k+1:=⟨m-1,by omega⟩;unfold okG at h;simp only[Zgx,ZgO,Zhc]at h;rcases h with((h|h)|h)|h
  ·simp_all[exc]
  ·simp_all[exc]
  ·simp_all
  ·cases hgj:guardOf ops j with
   |none=>simp_all
   |some p=>
    obtain⟨g,b⟩:=p;rw[hgj]at h;have hlt:=hg j g b hgj;unfold exc at hj;rw[hgj]at hj;exact GV hg n g i h (m+1) O him (Mm hg m (m+1) g O O hj.1)
theorem OI{n:Nat}(h:∀j∈cl ops n,vs j=vs' j):mkV ops n vs=mkV ops n vs':=by
 funext j;unfold mkV;cases hj:memN (cl ops n) j with
 |false=>rfl
 |true=>exact h j (X0.1 hj)
def Zd7{n:Nat}:vals P bx hs ops sps r σ (n+1) n=cond (isE sps n) (r n (mkV ops n (vals P bx hs ops sps r σ n))).val (((qev P bx hs ops (vals P bx hs ops sps r σ n) σ n).map (·.1)).getD undef):=by
 rw[vals,Nat.beq_refl];rfl
theorem NV{j:Nat}:∀{n:Nat},j<n->vals P bx hs ops sps r σ n j=vals P bx hs ops sps r σ (j+1) j
 |0,h=>by omega
 | n+1,h=>by
  by_cases e:j=n
  ·subst e;rfl
  ·have hb:Nat.beq j n=false:=by rw[Zhb];exact λh=>e (Zg2 h)
   rw[vals,hb,cond_false];exact NV O
def Mv(hac:acyc ops=true){n j:Nat}(hn:n=ops.size)(h:j<n):vals P bx hs ops sps r σ n j=cond (isE sps j) (r j (mkV ops j (vals P bx hs ops sps r σ n))).val (((qev P bx hs ops (vals P bx hs ops sps r σ n) σ j).map (·.1)).getD undef):=by
 rw[NV h,Zd7];have key:∀i∈cl ops j,vals P bx hs ops sps r σ j i=vals P bx hs ops sps r σ n i:=λi hi=>by
  have:=KY (i:=j) hi;rw[NV (n:=j) this,NV (n:=n) (j:=i) O]
 rw[Gx key,OI key]
theorem Be(hac:acyc ops=true){n:Nat}(hn:n=ops.size){m:Nat->Bool}(hm:∀k,k<n->m k=true->∀j∈cl ops k,m j=true)(hr:∀k,m k=true->r k=r' k):∀k,k<n->m k=true->vals P bx hs ops sps r σ n k=vals P bx hs ops sps r' σ n k:=by
 intro k
 induction k using Nat.strongRecOn with
 | _ k ih=>
  intro hk hmk;have key:∀j∈cl ops k,vals P bx hs ops sps r σ n j=vals P bx hs ops sps r' σ n j:=λj hj=>by
   have:=KY (i:=k) hj;exact ih j this O (hm k hk hmk j hj)
  rw[Mv hac hn hk,Mv hac hn hk,hr k hmk,Gx key,OI key]
end
section
variable{P:Program}{B:Bs}{N:Nat}{hs:List (Nat×Nat)}{ops:Array Oper}{sps:Sps}{σ:List (Nat×Value)}{Γ:List HP}{Φ:List RF}{r r':Rr}{m:Array Bool}{a:Act}{w:World}{Q:Exit->Act->World->Prop}
structure PI(P:Program)(B:Bs)(N:Nat)(hs:List (Nat×Nat))(ops:Array Oper)(sps:Sps)(σ:List (Nat×Value))(Γ:List HP)(Φ:List RF)(r:Rr)(m:Array Bool)(a:Act)(w:World):Prop where
 vd:Vd sps r
 size:m.size=ops.size
 closed:∀k,k<ops.size->m.getD k false=true->∀e∈waits ops k,m.getD e false=true
 fr:FrS N σ a
 vs:∀k,k<ops.size->m.getD k false=true->∀d,dstN ops k=some d->(exc ops (vl P hs ops sps σ Γ Φ r) ops.size k->a.eval (.tmp d)=vl P hs ops sps σ Γ Φ r k)/\(¬exc ops (vl P hs ops sps σ Γ Φ r) ops.size k->a.eval (.tmp d)=undef)
 me:∃S F,Mem B.w B.S B.F w S F/\Sep (gamF (λp=>ver (wrE (rcs P hs ops sps σ Γ Φ r) (m.getD · false) p) sps Γ[p]?) 0 (mx Γ sps)) w S/\AllF (Φ++fac (rcs P hs ops sps σ Γ Φ r) (m.getD · false) sps) w F
theorem Zbu{d k m:Nat}(hk:k<m)(h:dstN ops k=some d):(cutS m ops σ).lookup d=none:=by
 unfold cutS;cases h1:(σ.filter λp=>!memN ((ops.toList.take m).filterMap (·.dst)) p.1).lookup d with
 |none=>rfl
 | some v=>
  have:=(Vg (f:=λk=>!memN ((ops.toList.take m).filterMap (·.dst)) k) h1).1;have hm:d∈(ops.toList.take m).filterMap (·.dst):=by
   unfold dstN at h;obtain⟨o,ho,hd⟩:=Zgf.1 h;exact ZgT.2 ⟨o,Zg3.2 ⟨k,by rw[Zhj hk];simpa using ho⟩,hd⟩
  rw[X0.2 hm]at this;cases this
theorem Ag(hn:ndN (dsts ops)=true){i k d:Nat}(hi:dstN ops i=some d)(hk:dstN ops k=some d):i=k:=by
 have hn:=La hn;unfold dsts at hn;unfold dstN at hi hk;obtain⟨o,ho,hd⟩:=Zgf.1 hi;obtain⟨o',ho',hd'⟩:=Zgf.1 hk;have key:∀(l:List Oper)(i k:Nat)(o o':Oper),(l.filterMap (·.dst)).Nodup->l[i]? =some o->l[k]? =some o'->o.dst=some d->o'.dst=some d->i=k:=by
  intro l
  induction l with
  |nil=>intro i k o o' _ h;simp at h
  | cons x l ih=>
   intro i k o o' hn h1 h2 h3 h4;have tl:∀(j:Nat)(q:Oper),l[j]? =some q->q.dst=some d->d∈l.filterMap (·.dst):=λj q hq hd=>ZgT.2 ⟨q,ZfH hq,hd⟩;have hn2:(l.filterMap (·.dst)).Nodup:=by
    cases hx:x.dst with
    |none=>rw[List.filterMap_cons_none hx]at hn;exact hn
    |some y=>rw[ZhD hx]at hn;exact(ZhH.1 hn).2
   cases i with
   | zero=>
    cases k with
    |zero=>rfl
    |succ k=>
     simp at h1 h2;subst h1;rw[ZhD h3]at hn;exact absurd (tl k o' h2 h4) (ZhH.1 hn).1
   | succ i=>
    cases k with
    |zero=>
     simp at h1 h2;subst h2;rw[ZhD h4]at hn;exact absurd (tl i o h1 h3) (ZhH.1 hn).1
    |succ k=>simp at h1 h2;rw[ih i k o o' hn2 h1 h2 h3 h4]
 exact key ops.toList i k o o' hn (by simpa using ho) (by simpa using ho') hd hd'
def KA(hv:Vd sps r)(ha:ascN (sps.map (·.1))=true){ks:Nat×Sp}(hm:ks∈sps){p:Nat}(hp:memN ks.2.ps p=false){T:Nat->Bool}:wrE (rcs P hs ops sps σ Γ Φ r) T p ks.1=none:=by
 obtain⟨g,hg⟩:=hv.get ha ks hm;unfold wrE rcs;rw[hg];unfold Sp.rc;simp only[Mr hp];cases T ks.1<;>rfl
theorem Zfz(h:PI P B N hs ops sps σ Γ Φ r m a w)(ha:ascN (sps.map (·.1))=true)(hM:Γ.length<=mx Γ sps):(bxsOf (stG sps Γ) Φ).at w:=λp hp=>by
 obtain⟨S,F,_,hsp,hf⟩:=h.me;rcases ZfG.1 hp with hp|hp
 ·obtain⟨H,hH,hb⟩:=ZgT.1 hp;unfold stG at hH;obtain⟨q,_,hq,hH⟩:=JY hH;cases hw:(sps.any λks=>memN ks.2.ps q)with
  |true=>rw[hw]at hH;cases hH
  | false=>
   rw[hw]at hH;simp only[cond_false]at hH
   have:H∈gamF (λp=>ver (wrE (rcs P hs ops sps σ Γ Φ r) (m.getD · false) p) sps Γ[p]?) 0 (mx Γ sps):=Dn q O O (by
    rw[Qx λks hks=>KA h.vd ha hks (by
     rw[List.any_eq_false]at hw
     simpa using hw ks hks)]
    exact hH)
   obtain⟨i,hi⟩:=ZgW this;obtain⟨A,h1,_⟩:=hsp.get i hi;exact H.isb hb h1
 ·obtain⟨R,hR,hb⟩:=ZgT.1 hp;exact R.isb hb (hf R (ZfG.2 (.inl hR)))
structure StQ(N:Nat)(ops:Array Oper)(sps:Sps)(σ:List (Nat×Value))(Γ:List HP)(m0:Nat):Prop where
 cn:∀{k d:Nat},k<m0->dstN ops k=some d->σ.lookup d=none
 su:sufB ops m0=true
 le:m0<=ops.size
 ac:acyc ops=true
 nd:ndN (dsts ops)=true
 lt:∀k d,dstN ops k=some d->d<N
 asc:ascN (sps.map (·.1))=true
 key:∀ks∈sps,ks.1<m0/\∀p,memN ks.2.ps p=true->okp sps ks.1 ks.2 p=true
 pr:∀ks∈sps,∀k2∈sps,memN ks.2.pr k2.1=memN (cl ops ks.1) k2.1
 gq:∀n,n<m0->isE sps n=false->gdQ ops n=true
 gs:∀n g b,guardOf ops n=some (g,b)->g∈waits ops n/\∃d,dstN ops g=some d
 hM:Γ.length<=mx Γ sps
theorem Jh:∀{n k:Nat},k<n->k∈rg n
 |n+1,k,h=>by
  unfold rg;by_cases e:k=n
  ·subst e;simp
  ·exact ZfG.2 (.inl (Jh O))
def StP.out{m0:Nat}(h:StP N ops sps Γ m0=true):StQ N ops sps (cutS m0 ops σ) Γ m0:=by
 unfold StP at h;simp only[ZfF]at h;obtain⟨⟨⟨⟨⟨⟨⟨⟨hg,Z⟩,h1⟩,h2⟩,h3⟩,h4⟩,h5⟩,h6⟩,h7⟩:=h;refine⟨λhk hd=>Zbu hk hd,Z,by unfold sufB at Z;simp only[ZfF,ZfN]at Z;exact Z.1,h1,h2,λk d hd=>?_,h4,λks hks=>?_,λks hks k2 hk2=>?_,λn hn he=>?_,λn g b hgd=>?_,ZhM h7⟩
 ·unfold dstN at hd;obtain⟨o,ho,hd⟩:=Zgf.1 hd;exact ZfW.mp (ZfV.1 h3 d (ZgT.2 ⟨o,by simpa using Array.mem_of_getElem? ho,hd⟩))
 ·have:=ZfV.1 h5 ks hks;rw[ZfF,ZfF]at this;exact⟨ZfW.mp this.1.1,λp hp=>ZfV.1 this.1.2 p (X0.1 hp)⟩
 ·have:=ZfV.1 h5 ks hks;rw[ZfF]at this;exact eq_of_beq (ZfV.1 this.2 k2 hk2)
 ·exact ZfV.1 h6 n (Zgv.2 ⟨Jh hn,by rw[he];rfl⟩)
 ·have hn:n<ops.size:=by
   unfold guardOf at hgd;obtain⟨o,ho,_⟩:=Zgf.1 hgd;exact(Zgg.1 ho).1
  have:=ZfV.1 hg n (Jh hn);simp only[hgd,ZfF]at this;exact⟨X0.1 this.1,ZhC.1 this.2⟩
end
section
variable{P:Program}{B:Bs}{N:Nat}{hs:List (Nat×Nat)}{ops:Array Oper}{sps:Sps}{σ:List (Nat×Value)}{Γ:List HP}{Φ:List RF}{r r':Rr}{m:Array Bool}{a:Act}{w:World}{Q:Exit->Act->World->Prop}
def StQ.glt{m0:Nat}(st:StQ N ops sps σ Γ m0):∀j g b,guardOf ops j=some (g,b)->g<j:=λj g b h=>by
 have hn:j<ops.size:=by
  unfold guardOf at h;obtain⟨o,ho,_⟩:=Zgf.1 h;exact(Zgg.1 ho).1
 exact FO st.ac hn (st.gs j g b h).1
def KD{m0:Nat}(st:StQ N ops sps σ Γ m0){V:Nat->Value}{j g:Nat}{b:Bool}(hj:j<ops.size)(h:guardOf ops j=some (g,b)):exc ops V ops.size j↔exc ops V ops.size g/\V g= .bool b:=by
 obtain⟨n,hn⟩:∃n,ops.size=n+1:=⟨ops.size-1,by omega⟩;have hlt:=st.glt j g b h;constructor
 ·intro hx;rw[hn]at hx;unfold exc at hx;rw[h]at hx;exact⟨Mm st.glt n ops.size g O O hx.1,hx.2⟩
 ·intro hx;rw[hn];unfold exc;rw[h];exact⟨Mm st.glt ops.size n g O O hx.1,hx.2⟩
def PO{V:Nat->Value}{j:Nat}(hj:j<ops.size)(h:guardOf ops j=none):exc ops V ops.size j:=by
 obtain⟨n,hn⟩:∃n,ops.size=n+1:=⟨ops.size-1,by omega⟩;rw[hn];unfold exc;rw[h];trivial
theorem PI.want(h:PI P B N hs ops sps σ Γ Φ r m a w){m0:Nat}(st:StQ N ops sps σ Γ m0){i:Nat}{o:Oper}(ho:ops[i]? =some o)(hm:∀k∈waits ops i,m.getD k false=true):Region.wanted o (yielded ops a.tmps)=true↔exc ops (vl P hs ops sps σ Γ Φ r) ops.size i:=by
 have hi:i<ops.size:=(Zgg.1 ho).1;cases hgd:o.guard with
 |none=>
  have hg:guardOf ops i=none:=by unfold guardOf;rw[ho];exact hgd
  exact⟨λ_=>PO hi hg,λ_=>by simp[Region.wanted,hgd]⟩
 | some p=>
  obtain⟨g,b⟩:=p;have hg:guardOf ops i=some (g,b):=by unfold guardOf;rw[ho];exact hgd
  obtain⟨hgw,d,hd⟩:=st.gs i g b hg;have hlt:=st.glt i g b hg;obtain⟨v1,v2⟩:=h.vs g O (hm g hgw) d hd;have hdN:=st.lt g d hd;have hsz:=h.fr.size;have e4:∀u,a.eval (.tmp d)=u->a.tmps[d]? =some u:=λu hu=>by
   have:d<a.tmps.size:=by omega
   simp_all[Act.eval,ZfM,Zgt]
  unfold dstN at hd;rw[KD st hi hg];have hw:Region.wanted o (yielded ops a.tmps)=(yielded ops a.tmps g==some b):=by simp[Region.wanted,hgd]
  rw[hw];unfold yielded;rw[hd];simp only[Zf9];by_cases hx:exc ops (vl P hs ops sps σ Γ Φ r) ops.size g
  ·rw[e4 _ (v1 hx)];simp only[hx,Zi5];cases hV:vl P hs ops sps σ Γ Φ r g<;>simp
  ·rw[e4 _ (v2 hx)];simp[hx,undef]
def Zfg{i:Nat}{o:Oper}{K:Act->World->Prop}(ho:ops[i]? =some o)(hw:Region.wanted o (yielded ops a.tmps)=true)(h:wpFrom P #[{o with guard:=none}] (Exit.then K Q) 0 a w):wpOp P ops Q i K a w:=by
 have h2:=Zc6 (P:=P) (ops:=#[{o with guard:=none}]) (i:=0) (Q:=Q) (K:=K) _ rfl rfl h;have hw2:∀y,Region.wanted {o with guard:=none} y=true:=λy=>by simp[Region.wanted]
 unfold wpOp at h2⊢;simp only[ho];rw[ZfC hw];simp only[ZhN,Zgz]at h2;rw[ZfC (hw2 _)]at h2;exact h2
def PI.fg(h:PI P B N hs ops sps σ Γ Φ r m a w){m0:Nat}(st:StQ N ops sps σ Γ m0){l:List Nat}(hl:∀j∈l,j<ops.size/\m.getD j false=true/\exc ops (vl P hs ops sps σ Γ Φ r) ops.size j):FrS N (sgF ops (vl P hs ops sps σ Γ Φ r) σ l) a:=
 Zcu h.fr λj hj d hd=>(h.vs j (hl j hj).1 (hl j hj).2.1 d hd).1 (hl j hj).2.2
def PI.clm(h:PI P B N hs ops sps σ Γ Φ r m a w){m0:Nat}(st:StQ N ops sps σ Γ m0){i:Nat}(hi:i<ops.size)(hm:∀k∈waits ops i,m.getD k false=true):∀k∈cl ops i,m.getD k false=true/\k<i:=λk hk=>
 ⟨Fs hi h.closed hm k hk,KY hk⟩
def PI.fi(h:PI P B N hs ops sps σ Γ Φ r m a w){m0:Nat}(st:StQ N ops sps σ Γ m0){i:Nat}(hi:i<ops.size)(hm:∀k∈waits ops i,m.getD k false=true)(hx:exc ops (vl P hs ops sps σ Γ Φ r) ops.size i):FrS N (sgF ops (vl P hs ops sps σ Γ Φ r) σ (cg ops i)) a:=
 h.fg st λj hj=>by
  obtain⟨h1,h2⟩:=Zgv.1 hj;obtain⟨h3,h4⟩:=h.clm st hi hm j h1;exact⟨by omega,h3,GV st.glt _ _ _ h2 _ hi O hx⟩
theorem PI.qrun(h:PI P B N hs ops sps σ Γ Φ r m a w){m0:Nat}(st:StQ N ops sps σ Γ m0){i:Nat}{o:Oper}{v:Value}{e:List (Nat×Nat)}{K:Act->World->Prop}(ho:ops[i]? =some o)(hm:∀k∈waits ops i,m.getD k false=true)(hx:exc ops (vl P hs ops sps σ Γ Φ r) ops.size i)
  (hv:qv P hs ops sps σ Γ Φ r i=some (v,e))(he:∀p∈e,p.1=p.2)(hK:K (a.put o.dst v) w):wpOp P ops Q i K a w:=by
 have hi:i<ops.size:=(Zgg.1 ho).1;have hF:=h.fi st hi hm hx;unfold wpOp;simp only[ho];rw[ZfC ((h.want st ho hm).2 hx)];unfold qv qev at hv;rw[ho]at hv;simp only at hv;split at hv
 ·rename_i c x y hop;split at hv
  ·rename_i t z hc;split at hv
   ·rename_i u1 u2 h1 h2;simp only[Option.some.injEq,Prod.mk.injEq]at hv;obtain⟨rfl,-⟩:=hv;have hct:=Zd hF hc;have br:∀(b:Bool)(q:Operand)(u:Value),z=b->opd (sgF ops (vl P hs ops sps σ Γ Φ r) σ (cb ops i (lastW ops t ops.size) b)) q=some u->a.eval q=u:=λb q u hzb hq=>by
     refine Zd (h.fg st λj hj=>?_) hq;obtain⟨g1,g2⟩:=Zgv.1 hj;obtain⟨g3,g4⟩:=h.clm st hi hm j g1;refine⟨by omega,g3,?_⟩;rw[Zgx]at g2;rcases g2 with g2|g2
     ·exact GV st.glt _ _ _ g2 _ hi O hx
     ·cases hl:lastW ops t ops.size with
      |none=>rw[hl]at g2;cases g2
      | some g=>
       rw[hl]at g2;simp only[Option.isSome_some,Zgk,Zgh,Zhc]at g2;have hjs:j<ops.size:=by omega
       have hgj:=st.glt j g b g2;have hgw:=(st.gs j g b g2).1;have hgm:=h.closed j hjs g3 g hgw;have hwr:=(EF hl).2;have hdg:dstN ops g=some t:=eq_of_beq hwr;obtain⟨v1,v2⟩:=h.vs g O hgm t hdg;rw[KD st hjs g2];by_cases hgx:exc ops (vl P hs ops sps σ Γ Φ r) ops.size g
       ·exact⟨hgx,by rw[<-v1 hgx,hct,hzb]⟩
       ·have:=v2 hgx;rw[hct]at this;cases this
    refine .inl ?_;unfold Oper.wp;obtain⟨dst,op,ty,pos,af,gd⟩:=o;simp only at hop;subst hop;rw[Zcr]at hK;cases z with
    |true=>
     have e1:=br true _ _ rfl h1;simp only[ZfR]at hK;simpa[execOp,hct,e1,Oper.upon,asBool,Result.andThen]using hK
    |false=>
     have e1:=br false _ _ rfl h2;simp only[ZfB,ZfK]at hK;simpa[execOp,hct,e1,Oper.upon,asBool,Result.andThen]using hK
   ·cases hv
  ·cases hv
 ·exact .inl (Zcg (λx u hx=>Zd hF hx) (Zfz h st.asc st.hM) hv he hK)
theorem PI.all(h:PI P B N hs ops sps σ Γ Φ r m a w){m0:Nat}(st:StQ N ops sps σ Γ m0)(hm:∀k,k<m0->m.getD k false=true):Cx B N (sgF ops (vl P hs ops sps σ Γ Φ r) σ (rgu ops m0)) (gamF (λp=>ver (wrE (rcs P hs ops sps σ Γ Φ r) (λ_=>true) p) sps Γ[p]?) 0 (mx Γ sps)) (Φ++fac (rcs P hs ops sps σ Γ Φ r) (λ_=>true) sps) a w:=by
 obtain⟨S,F,h1,h2,h3⟩:=h.me;have e:∀ks∈sps,m.getD ks.1 false=true:=λks hks=>hm _ (st.key ks hks).1;have rl:∀{n k:Nat},k∈rg n->k<n:=by
  intro n
  induction n with
  |zero=>intro k h;cases h
  |succ n ih=>
   intro k h;unfold rg at h;rcases ZfG.1 h with h|h
   ·have:=ih h;omega
   ·simp at h;omega
 have hu:∀j∈rgu ops m0,j<m0/\guardOf ops j=none:=λj hj=>by
  obtain⟨h1,h2⟩:=Zgv.1 hj;exact⟨rl h1,by simpa using h2⟩
 refine⟨h.fg st (λj hj=>⟨ZfQ (hu j hj).1 st.le,hm j (hu j hj).1,PO (ZfQ (hu j hj).1 st.le) (hu j hj).2⟩),S,F,h1,?_,λR hR=>h3 R ?_⟩
 ·rw[Wj λp=>Qz (e':=wrE (rcs P hs ops sps σ Γ Φ r) (λk=>m.getD k false) p) λks hks=>by simp only[wrE,e ks hks]];exact h2
 ·rcases ZfG.1 hR with hR|hR
  ·exact ZfG.2 (.inl hR)
  ·obtain⟨ks,g1,_,g3⟩:=(TJ (rcs P hs ops sps σ Γ Φ r)).1 hR;exact ZfG.2 (.inr ((TJ (rcs P hs ops sps σ Γ Φ r)).2 ⟨ks,g1,e ks g1,g3⟩))
theorem ZcF{o:Option Tmp}{v:Value}{t:Nat}(h:o≠some t):(a.put o v).eval (.tmp t)=a.eval (.tmp t):=by
 cases o with
 |none=>rfl
 |some d=>exact Act.eval_put_ne _ _ _ _ al
def PI.put{i:Nat}{o:Oper}{v:Value}(h:PI P B N hs ops sps σ Γ Φ r m a w){m0:Nat}(st:StQ N ops sps σ Γ m0)(hi0:i<m0)(ho:ops[i]? =some o)(hm:∀k∈waits ops i,m.getD k false=true)
  (hv:(exc ops (vl P hs ops sps σ Γ Φ r) ops.size i->v=vl P hs ops sps σ Γ Φ r i)/\(¬exc ops (vl P hs ops sps σ Γ Φ r) ops.size i->v=undef))(hn:∀ks∈sps,ks.1=i->(rcs P hs ops sps σ Γ Φ r i).gs=[]/\(rcs P hs ops sps σ Γ Φ r i).fs=[]):PI P B N hs ops sps σ Γ Φ r (m.setIfInBounds i true) (a.put o.dst v) w:=by
 have hi:i<ops.size:=(Zgg.1 ho).1;have him:i<m.size:=by rw[h.size];exact hi
 have hget:∀k,k≠i->(m.setIfInBounds i true).getD k false=m.getD k false:=λk hk=>by
  simp[ZfM,ZgL (Ne.symm hk)]
 have hgeti:(m.setIfInBounds i true).getD i false=true:=by simp[ZfM,him]
 have hdi:dstN ops i=o.dst:=by unfold dstN;rw[ho];rfl
 obtain⟨S,F,h1,h2,h3⟩:=h.me;refine⟨h.vd,by simpa using h.size,λk hk hkm x hx=>?_,⟨by cases o.dst<;>exact h.fr.defers,by rw[Act.size_put];exact h.fr.size,λt u hu=>?_⟩,λk hk hkm t ht=>?_,S,F,h1,?_,λR hR=>h3 R ?_⟩
 ·by_cases ex:x=i
  ·rw[ex];exact hgeti
  ·rw[hget x ex];by_cases ek:k=i
   ·rw[ek]at hx;exact hm x hx
   ·rw[hget k ek]at hkm;exact h.closed k hk hkm x hx
 ·have:o.dst≠some t:=λe=>by rw[st.cn hi0 (hdi.trans e)]at hu;cases hu
  rw[ZcF this];exact h.fr.get t u hu
 ·by_cases ek:k=i
  ·subst ek;rw[hdi]at ht;rw[ht,Act.eval_put_eq _ _ _ (by rw[h.fr.size];exact st.lt k t (hdi.trans ht))];exact hv
  ·rw[hget k ek]at hkm;have:o.dst≠some t:=λe=>ek (Ag st.nd ht (hdi.trans e));rw[ZcF this];exact h.vs k hk hkm t ht
 ·rw[Wj λp=>Qz (e':=wrE (rcs P hs ops sps σ Γ Φ r) (λk=>m.getD k false) p) λks hks=>by
   by_cases ek:ks.1=i
   ·have:=(hn ks hks ek).1;rw[ek];simp only[wrE,this,List.lookup_nil];cases(m.setIfInBounds i true).getD i false<;>cases m.getD i false<;>rfl
   ·simp only[wrE,hget _ ek]]
  exact h2
 ·rcases ZfG.1 hR with hR|hR
  ·exact ZfG.2 (.inl hR)
  ·obtain⟨ks,g1,g2,g3⟩:=(TJ (rcs P hs ops sps σ Γ Φ r)).1 hR;by_cases ek:ks.1=i
   ·rw[ek,(hn ks g1 ek).2]at g3;cases g3
   ·rw[hget _ ek]at g2;exact ZfG.2 (.inr ((TJ (rcs P hs ops sps σ Γ Φ r)).2 ⟨ks,g1,g2,g3⟩))
def PI.skip{i:Nat}{o:Oper}{K:Act->World->Prop}(h:PI P B N hs ops sps σ Γ Φ r m a w){m0:Nat}(st:StQ N ops sps σ Γ m0)(hi0:i<m0)(ho:ops[i]? =some o)(hm:∀k∈waits ops i,m.getD k false=true)(hx:¬exc ops (vl P hs ops sps σ Γ Φ r) ops.size i)
  (hn:∀ks∈sps,ks.1=i->(rcs P hs ops sps σ Γ Φ r i).gs=[]/\(rcs P hs ops sps σ Γ Φ r i).fs=[])(hK:PI P B N hs ops sps σ Γ Φ r (m.setIfInBounds i true) (a.put o.dst undef) w->K (a.put o.dst undef) w):wpOp P ops Q i K a w:=by
 unfold wpOp;simp only[ho];rw[ZfD λhw=>hx ((h.want st ho hm).1 hw)];exact hK (h.put st hi0 ho hm ⟨λh=>absurd h hx,λ_=>rfl⟩ hn)
end
section
variable{P:Program}{B:Bs}{N:Nat}{hs:List (Nat×Nat)}{ops:Array Oper}{sps:Sps}{σ:List (Nat×Value)}{Γ:List HP}{Φ:List RF}{r r':Rr}{m:Array Bool}{a:Act}{w:World}{Q:Exit->Act->World->Prop}
theorem PI.eff{i:Nat}{s:Sp}(h:PI P B N hs ops sps σ Γ Φ r m a w){m0:Nat}(st:StQ N ops sps σ Γ m0)(hs':(i,s)∈sps)(hmi:m.getD i false=false)(hm:∀k∈waits ops i,m.getD k false=true)(hob:∀B Q,ObE P N hs ops sps σ Γ Φ r B Q i s)(hgd:gdE P hs ops sps σ Γ Φ r (i,s)=true){K:Act->World->Prop}
  (hK:∀r' a' w',PI P B N hs ops sps σ Γ Φ r' (m.setIfInBounds i true) a' w'->K a' w'):wpOp P ops Q i K a w:=by
 obtain⟨hi,hps⟩:=st.key _ hs';simp only at hi hps;have hi:=ZfQ hi st.le;obtain⟨o,ho⟩:∃o,ops[i]? =some o:=⟨ops[i],Zgt hi⟩;have him:i<m.size:=by rw[h.size];exact hi
 have hget:∀k,k≠i->(m.setIfInBounds i true).getD k false=m.getD k false:=λk hk=>by
  simp[ZfM,ZgL (Ne.symm hk)]
 have hgeti:(m.setIfInBounds i true).getD i false=true:=by simp[ZfM,him]
 have hcl:∀k∈cl ops i,m.getD k false=true:=Fs hi h.closed hm;have hclk:∀k,k<ops.size->m.getD k false=true->∀j∈cl ops k,m.getD j false=true:=λk hk hkm=>Fs hk h.closed (h.closed k hk hkm);by_cases hx:exc ops (vl P hs ops sps σ Γ Φ r) ops.size i;rotate_left
 ·refine h.skip st (st.key _ hs').1 ho hm hx (λks hks e=> ?_) λh=>hK _ _ _ h;unfold gdE at hgd;rw[Zgx]at hgd;rcases hgd with hgd|hgd
  ·exact absurd (PO hi (by simpa using hgd)) hx
  ·rw[ZfF,Zie,Zie]at hgd;exact hgd
 have hF:=h.fi st hi hm hx;obtain⟨S,F,h1,h2,h3⟩:=h.me;have hpr:∀ks∈sps,memN s.pr ks.1=memN (cl ops i) ks.1:=λks hks=>st.pr _ hs' ks hks;have hpr2:∀ks∈sps,memN ks.2.pr i=memN (cl ops ks.1) i:=λks hks=>st.pr _ hks _ hs';have hnc:i∉cl ops i:=λhc=>by have:=KY hc;omega
 have ea:∀p,okp sps i s p=true->ver (wrE (rcs P hs ops sps σ Γ Φ r) (λk=>m.getD k false) p) sps Γ[p]? =ver (wrE (rcs P hs ops sps σ Γ Φ r) (memN s.pr) p) sps Γ[p]?:=λp hp=>Qz λks hks=>by
  cases hw:memN ks.2.ps p with
  |false=>rw[KA h.vd st.asc hks hw,KA h.vd st.asc hks hw]
  | true=>
   have:=ZfV.1 hp ks hks;rw[hw]at this;simp only[ZfJ,Zgl,Zgx]at this;rw[hpr ks hks,hpr2 ks hks]at this;have e:m.getD ks.1 false=memN s.pr ks.1:=by
    rw[hpr ks hks];rcases this with(this|this)|this
    ·have:=Zg2 this;rw[this,hmi];cases hx:memN (cl ops i) i with
     |false=>rfl
     |true=>exact absurd (X0.1 hx) hnc
    ·rw[this];exact hcl _ (X0.1 this)
    ·have hk:=ZfQ (st.key ks hks).1 st.le;cases hx:m.getD ks.1 false with
     |true=>rw[hclk _ hk hx i (X0.1 this)]at hmi;cases hmi
     |false=>
      cases hy:memN (cl ops i) ks.1 with
      |false=>rfl
      |true=>rw[hcl _ (X0.1 hy)]at hx;cases hx
   simp only[wrE,e]
 have h2':=MR (okp sps i s) h2
 rw[Wj (f':=λp=>cond (okp sps i s p) ((none:Option (Option HP)).getD (ver (wrE (rcs P hs ops sps σ Γ Φ r) (memN s.pr) p) sps Γ[p]?)) none) λp=>by
  cases hp:okp sps i s p with
  |true=>simp only[cond_true,Option.getD_none];exact ea p hp
  |false=>rfl]at h2'
 obtain⟨A,Rm,g1,g2,g3,g4,g5⟩:=h2'.split;have hwp:wpFrom P #[{o with guard:=none}] (Exit.then (PsE N ops sps Γ ⟨w,A,F⟩ (rcs P hs ops sps σ Γ Φ r) i s (mkV ops i (vl P hs ops sps σ Γ Φ r))) Q) 0 a w:=by
  have this:=hob ⟨w,A,F⟩ Q
  have cx:Cx ⟨w,A,F⟩ N _ _ _ a w:=⟨hF,A,F,Mem.start (λk hk=>h1.bd k (g4 k hk)) h1.bdF (λk hk=>h1.dj k (g4 k hk)),g1,λR hR=>h3 R (by
  rcases ZfG.1 hR with hR|hR
  ·exact ZfG.2 (.inl hR)
  ·obtain⟨ks,x1,x2,x3⟩:=(TJ (rcs P hs ops sps σ Γ Φ r)).1 hR
   exact ZfG.2 (.inr ((TJ (rcs P hs ops sps σ Γ Φ r)).2 ⟨ks,x1,hcl _ (X0.1 (hpr ks x1▸x2)),x3⟩)))⟩
  unfold ObE at this;rw[ho]at this;simp only at this;cases hgo:o.guard with
  |none=>rw[hgo]at this;exact this trivial cx
  |some p=>rw[hgo]at this;exact this hx cx
 refine wpOp_mono (λa' w'⟨⟨g,c⟩,hfr⟩=>?_) (CB ho (Zfg ho ((h.want st ho hm).2 hx) hwp));obtain⟨r',v',hri,hrk⟩:=h.vd.upd (JR st.asc _ hs') g;obtain⟨cf,S',F',hM',hs2,hf2⟩:=c;have hrm:∀k,m.getD k false=true->r k=r' k:=λk hk=>(hrk k λe=>by rw[e,hmi]at hk;cases hk).symm;have hV:∀k,m.getD k false=true->k<ops.size->vl P hs ops sps σ Γ Φ r k=vl P hs ops sps σ Γ Φ r' k:=λk hk hlt=>Be st.ac rfl (m:=λk=>m.getD k false) hclk hrm k hlt hk;have hmki:mkV ops i (vl P hs ops sps σ Γ Φ r')=mkV ops i (vl P hs ops sps σ Γ Φ r):=OI λj hj=>by
  have:=KY hj;exact(hV j (hcl j hj) O).symm
 have exc_all:∀k,(m.getD k false=true\/k=i)->(exc ops (vl P hs ops sps σ Γ Φ r) ops.size k↔exc ops (vl P hs ops sps σ Γ Φ r') ops.size k):=by
  have old:∀n k,m.getD k false=true->(exc ops (vl P hs ops sps σ Γ Φ r) n k↔exc ops (vl P hs ops sps σ Γ Φ r') n k):=λn k hk=>by
   have hks:k<ops.size:=by
    rcases ZhU k ops.size with h1|h1
    ·exact h1
    ·have:¬k<m.size:=by rw[h.size];omega
     rw[ZfM,Array.getElem?_eq_none O]at hk;cases hk
   refine Gj (m:=λk=>m.getD k false&&Nat.blt k ops.size) (λj g b hg hj=>?_) (λj hj=>?_) n k ?_
   ·simp only[ZfF]at hj⊢;have hlt:=ZfW.mp hj.2;have:=st.glt j g b hg;exact⟨h.closed j hlt hj.1 g (st.gs j g b hg).1,ZfW.mpr O⟩
   ·simp only[ZfF]at hj;exact hV j hj.1 (ZfW.mp hj.2)
   ·simp only[ZfF];exact⟨hk,ZfW.mpr hks⟩
  intro k hk;rcases hk with hk|rfl
  ·exact old _ k hk
  ·cases hg:guardOf ops k with
   |none=>exact⟨λ_=>PO hi hg,λ_=>PO hi hg⟩
   |some p=>
    have hgw:=(st.gs k p.1 p.2 hg).1;have hlt:=st.glt k p.1 p.2 hg;rw[KD st hi hg,KD st hi hg,old _ _ (hm _ hgw),hV _ (hm _ hgw) O]
 have hRk:∀k,m.getD k false=true->k<ops.size->rcs P hs ops sps σ Γ Φ r' k=rcs P hs ops sps σ Γ Φ r k:=λk hk hlt=>by
  unfold rcs
  rw[hrm k hk,OI λj hj=>by
   have:=KY hj
   exact(hV j (hclk k hlt hk j hj) O).symm]
 have hRi:rcs P hs ops sps σ Γ Φ r' i=s.rc g (mkV ops i (vl P hs ops sps σ Γ Φ r)):=by
  unfold rcs;rw[hri,hmki]
 have hdis:∀k,Rm k->¬(A k\/w.heap.size<=k):=λk hr h=>h.elim (λha=>g3 k ha hr) λh=>Zh0 _ (ZfQ (h1.bd k (g5 k hr)) h);refine hK r' a' w' ⟨v',by simpa using h.size,λk hk hkm x hx=>?_,⟨cf.defers,cf.size,λt u hu=>?_⟩,λk hk hkm t ht=>?_,λk=>S' k\/Rm k,F',?_,?_,?_⟩
 ·by_cases ex:x=i
  ·rw[ex];exact hgeti
  ·rw[hget x ex];by_cases ek:k=i
   ·rw[ek]at hx;exact hm x hx
   ·rw[hget k ek]at hkm;exact h.closed k hk hkm x hx
 ·have:o.dst≠some t:=λe=>by
   rw[st.cn (k:=i) (st.key _ hs').1 (by unfold dstN;rw[ho];exact e)]at hu;cases hu
  rw[hfr t this];exact h.fr.get t u hu
 ·by_cases ek:k=i
  ·subst ek;have e1:vl P hs ops sps σ Γ Φ r' k=(rcs P hs ops sps σ Γ Φ r' k).val:=by
    conv=>lhs;unfold vl
    rw[Mv st.ac rfl hi,show isE sps k=true from X0.2 (Zg5.2 ⟨_,hs',rfl⟩)];rfl
   have hx':exc ops (vl P hs ops sps σ Γ Φ r') ops.size k:=(exc_all k (.inr rfl)).1 hx;refine⟨λ_=>?_,λhn=>absurd hx' hn⟩;rw[e1,hRi];refine cf.get t _ ?_;simp[sgF,ht]
  ·rw[hget k ek]at hkm;have hne:o.dst≠some t:=λe=>ek (Ag st.nd ht (by unfold dstN;rw[ho];exact e));rw[hfr t hne];have Z:=h.vs k hk hkm t ht;rw[<-hV k hkm hk,<-exc_all k (.inl hkm)];exact Z
 ·refine⟨h1.chg.trans' hM'.chg λk hk=>h1.sub k (g4 k hk),λk hk=>hk.elim (λhk=>(hM'.sub k hk).elim (λhk=>h1.sub k (g4 k hk)) λhk=>.inr (ZgY h1.chg.size hk)) λhk=>h1.sub k (g5 k hk),λk hk=>hk.elim (hM'.bd k) λhk=>ZfQ (h1.bd k (g5 k hk)) hM'.chg.size,hM'.bdF,λk hk hf=>hk.elim (λhk=>hM'.dj k hk hf) λhk=>?_,h1.dj0,λk hk=>hM'.fz k (h1.fz k hk),λk hk=>?_⟩
  ·rcases hM'.fsub k hf with h|h
   ·exact h1.dj k (g5 k hk) h
   ·exact hdis k hk h
  ·rcases hM'.fsub k hk with h|h|h
   ·exact h1.fsub k h
   ·exact .inr (h1.sub k (g4 k h))
   ·exact .inr (.inr (ZgY h1.chg.size h))
 ·
  have hwi:∀p,wrE (rcs P hs ops sps σ Γ Φ r') (λk=>(m.setIfInBounds i true).getD k false) p i=(s.rc g (mkV ops i (vl P hs ops sps σ Γ Φ r))).gs.lookup p:=λp=>by
   simp only[wrE,hgeti,hRi,cond_true]
  have hwk:∀p k,k≠i->k<ops.size->wrE (rcs P hs ops sps σ Γ Φ r') (λk=>(m.setIfInBounds i true).getD k false) p k=wrE (rcs P hs ops sps σ Γ Φ r) (λk=>m.getD k false) p k:=λp k hk hlt=>by
   simp only[wrE,hget k hk];cases hx:m.getD k false with
   |false=>rfl
   |true=>rw[hRk k hx hlt]
  have hwi0:∀p,wrE (rcs P hs ops sps σ Γ Φ r) (λk=>m.getD k false) p i=none:=λp=>by simp only[wrE,hmi,cond_false]
  have em:∀p,ver (wrE (rcs P hs ops sps σ Γ Φ r') (λk=>(m.setIfInBounds i true).getD k false) p) sps Γ[p]? =((s.rc g (mkV ops i (vl P hs ops sps σ Γ Φ r))).gs.lookup p).getD (ver (wrE (rcs P hs ops sps σ Γ Φ r) (λk=>m.getD k false) p) sps Γ[p]?):=λp=>by
   cases hx:(s.rc g (mkV ops i (vl P hs ops sps σ Γ Φ r))).gs.lookup p with
   |none=>
    rw[Option.getD_none];refine Qz λks hks=>?_;by_cases ek:ks.1=i
    ·rw[ek,hwi,hx,hwi0]
    ·exact hwk p _ ek (ZfQ (st.key ks hks).1 st.le)
   | some y=>
    rw[BQ (s:=s) st.asc hs' (hwi0 p) (λks hks hk=>hwk p _ hk (ZfQ (st.key ks hks).1 st.le)) λks hks hlt=>?_,hwi,hx];cases hw:memN ks.2.ps p with
    |false=>exact KA h.vd st.asc hks hw
    | true=>
     have hp:memN s.ps p=true:=by
      cases hp:memN s.ps p with
      |true=>rfl
      |false=>unfold Sp.rc at hx;simp only[Mr hp]at hx;cases hx
     have:=ZfV.1 (hps p hp) ks hks;rw[hw]at this;simp only[ZfJ,Zgl,Zgx]at this;rw[hpr ks hks,hpr2 ks hks]at this;rcases this with(this|this)|this
     ·have:=Zg2 this;omega
     ·have:=KY (X0.1 this);omega
     ·have hk:=ZfQ (st.key ks hks).1 st.le;cases hx:m.getD ks.1 false with
      |true=>rw[hclk _ hk hx i (X0.1 this)]at hmi;cases hmi
      |false=>simp only[wrE,hx,cond_false]
  refine Mj (okp sps i s) ?_;refine Sep.join (L1:=gamF _ 0 (mx Γ sps)) (L2:=gamF _ 0 (mx Γ sps)) (A:=S') (R:=Rm) ?_ ?_ (λk _ ha hr=>hdis k hr (hM'.sub k ha)) (λk _ h=>.inl h) λk _ h=>.inr h
  ·unfold Γi at hs2
   rw[Wj (f':=λp=>cond (okp sps i s p) (((s.rc g (mkV ops i (vl P hs ops sps σ Γ Φ r))).gs.lookup p).getD (ver (wrE (rcs P hs ops sps σ Γ Φ r) (memN s.pr) p) sps Γ[p]?)) none) λp=>by
    rw[em p];cases hp:okp sps i s p with
    |true=>rw[ea p hp]
    |false=>rfl]
   exact hs2
  ·rw [Wj (f':=λp=>cond (okp sps i s p) none (ver (wrE (rcs P hs ops sps σ Γ Φ r) (λk=>m.getD k false) p) sps Γ[p]?)) λp=>by
    cases hp:okp sps i s p with
    |true=>rfl
    | false=>
     simp only[cond_false];rw[em p];have:memN s.ps p=false:=by
      cases hx:memN s.ps p with
      |false=>rfl
      |true=>rw[hps p hx]at hp;cases hp
     unfold Sp.rc;simp only[Mr this];rfl]
   exact g2.keep hM'.chg λk hr ha=>g3 k ha hr
 ·have hold:AllF (Φ++fac (rcs P hs ops sps σ Γ Φ r) (λk=>m.getD k false) sps) w' F':=((h3.chg hM'.chg λk hk ha=>h1.dj k (g4 k ha) hk).sub λk _ hk=>hM'.fz k hk);intro R hR;rcases ZfG.1 hR with hR|hR
  ·exact hold R (ZfG.2 (.inl hR))
  ·obtain⟨ks,x1,x2,x3⟩:=(TJ (rcs P hs ops sps σ Γ Φ r')).1 hR;by_cases ek:ks.1=i
   ·rw[ek,hRi]at x3;exact hf2 R x3
   ·rw[hget _ ek]at x2;rw[hRk _ x2 (ZfQ (st.key ks x1).1 st.le)]at x3;exact hold R (ZfG.2 (.inr ((TJ (rcs P hs ops sps σ Γ Φ r)).2 ⟨ks,x1,x2,x3⟩)))
theorem Aj{m0:Nat}(st:StQ N ops sps σ Γ m0)(hob:∀r,Vd sps r->∀ks∈sps,∀B Q,ObE P N hs ops sps σ Γ Φ r B Q ks.1 ks.2)(hgd:∀r,Vd sps r->∀ks∈sps,gdE P hs ops sps σ Γ Φ r ks=true)
  (hq:∀r,Vd sps r->∀n,n<m0->isE sps n=false->∃v e,qv P hs ops sps σ Γ Φ r n=some (v,e)/\∀p∈e,p.1=p.2)
  (hend:∀r a w,Vd sps r->Cx B N (sgF ops (vl P hs ops sps σ Γ Φ r) σ (rgu ops m0)) (gamF (λp=>ver (wrE (rcs P hs ops sps σ Γ Φ r) (λ_=>true) p) sps Γ[p]?) 0 (mx Γ sps)) (Φ++fac (rcs P hs ops sps σ Γ Φ r) (λ_=>true) sps) a w->wpFrom P ops Q m0 a w):
  ∀f(r:Rr)m a w,PI P B N hs ops sps σ Γ Φ r m a w->(∀k,m0<=k->m.getD k false=false)->m.toList.count false<=f->wpAny P .any ops Q f m a w:=by
 have over:∀f(r:Rr)m a w,PI P B N hs ops sps σ Γ Φ r m a w->(∀k,m0<=k->m.getD k false=false)->m.toList.count false<=f->(∀k,k<m0->m.getD k false=true)->wpAny P .any ops Q f m a w:=λf r m a w h hlo hf hall=>by
  refine ZaJ st.su f m0 m a w O h.size (λi=>⟨λhi=>?_,hall i⟩) st.le ?_ (hend r a w h.vd (h.all st hall))
  ·rcases ZhU i m0 with h1|h1
   ·exact h1
   ·rw[hlo i h1]at hi;cases hi
  ·have e:m.toList.drop m0=List.replicate (ops.size-m0) false:=Zgy λi=>by
    rw[Zg1,Zho];have h1:=hlo (m0+i) O;by_cases hlt:m0+i<m.size
    ·have:i<ops.size-m0:=by rw[h.size]at hlt;omega
     rw[ZfC this];rw[ZfM,Zgt hlt]at h1;simp only[Zg8]at h1;rw[Zhw,Zgt hlt,h1]
    ·have:¬i<ops.size-m0:=by rw[h.size]at hlt;omega
     rw[ZfD this,Zgd aa]
   have h2:(m.toList.drop m0).count false<=m.toList.count false:=(List.drop_sublist m0 m.toList).count_le false;rw[e,List.count_replicate_self]at h2;omega
 intro f
 induction f with
 | zero=>
  intro r m a w h hlo hf;refine over 0 r m a w h hlo hf λk hk=>?_;cases hm:m.getD k false with
  |true=>rfl
  |false=>
   have h1:k<m.size:=by rw[h.size];have:=st.le;omega
   have:=cntS h1 hm;omega
 | succ f ih=>
  intro r m a w h hlo hf;by_cases hall:∀k,k<m0->m.getD k false=true
  ·exact over (f+1) r m a w h hlo hf hall
  refine⟨λhn=>absurd (λk hk=>Zds st.ac h.size hn k (ZfQ hk st.le)) hall,λi hi=>?_⟩;obtain⟨h1,h2,h3⟩:=mem_ready.1 hi;have him:i<m.size:=by rw[h.size];exact h1
  rw[Zes him]at h2;have hcnt:=cntS him h2;have hi0:i<m0:=by
   rcases ZhU i m0 with hlt|hge
   ·exact hlt
   ·refine absurd (λk hk=> ?_) hall;have hs:=st.su;unfold sufB at hs;simp only[ZfF,ZfV,Zh5,ZfN,Zgx]at hs;have hb:=(hs.2 i h1).2.resolve_left O k O;rw[Rn ops ops.size i h1]at hb;refine LV m (λj o hj ho e he hb=>?_) k i h1 hb λe he hb=>?_
    ·have hjs:j<ops.size:=(Zgg.1 ho).1;exact h.closed j hjs hj e.on aB
    ·have ho:ops[i]? =some (ops.getD i default):=by simp[ZfM,h1]
     exact h3 e.on aB
  have hlo':∀k,m0<=k->(m.setIfInBounds i true).getD k false=false:=λk hk=>by
   have:(m.setIfInBounds i true).getD k false=m.getD k false:=by
    simp[ZfM,ZgL (show i≠k by omega)]
   rw[this];exact hlo k hk
  cases hE:isE sps i with
  | false=>
   obtain⟨v,e,hv,he⟩:=hq r h.vd i hi0 hE;obtain⟨o,ho⟩:∃o,ops[i]? =some o:=⟨ops[i],Zgt h1⟩;have hn:∀ks∈sps,ks.1=i->(rcs P hs ops sps σ Γ Φ r i).gs=[]/\(rcs P hs ops sps σ Γ Φ r i).fs=[]:=λks hks e=>by
    have:isE sps i=true:=X0.2 (Zg5.2 ⟨ks,hks,e⟩);rw[hE]at this;cases this
   by_cases hx:exc ops (vl P hs ops sps σ Γ Φ r) ops.size i
   ·have hvl:v=vl P hs ops sps σ Γ Φ r i:=by
     unfold vl;rw[Mv st.ac rfl h1,hE];unfold qv vl at hv;rw[hv];rfl
    exact h.qrun st ho h3 hx hv he (ih r _ _ _ (h.put st hi0 ho h3 ⟨λ_=>hvl,λh=>absurd hx h⟩ hn) hlo' O)
   ·exact h.skip st hi0 ho h3 hx hn λh=>ih r _ _ _ h hlo' O
  |true=>
   obtain⟨ks,hks,rfl⟩:=Zg5.1 (X0.1 hE);exact h.eff st (s:=ks.2) hks h2 h3 (hob r h.vd ks hks) (hgd r h.vd ks hks) λr' a' w' h'=>ih r' _ _ _ h' hlo' O
end
section
variable{P:Program}{B:Bs}{N:Nat}{H:Prop}{ops:Array Oper}{σ:List (Nat×Value)}{Γ:List HP}{Φ:List RF}{K:Act->World->Prop}{Q:Exit->Act->World->Prop}{T:Act->World->Prop}{id:Nat}
theorem Obs.out {hs:List (Nat×Nat)}{sps:Sps}{r:Rr}{B:Bs}{Q:Exit->Act->World->Prop}:∀{l:Sps},Obs P N hs ops sps σ Γ Φ r B Q l->∀ks∈l,ObE P N hs ops sps σ Γ Φ r B Q ks.1 ks.2
  |[],_,_,h=>by cases h
  | [ks], h, k, hk => by rcases ZfY.1 hk with rfl|hk
                         · exact h
                         · cases hk
  |ks::k2::l,h,k,hk=>(ZfY.1 hk).elim (λe=>e▸h.1) (Obs.out h.2 k)
theorem zPm{l:List Oper}(m:Nat)(hs:List (Nat×Nat))(sps:Sps)(hst:StP N l.toArray sps Γ m=true:=by kernel_rfl)
  (hgd:AllR sps (λr=>sps.all (gdE P hs l.toArray sps (cutS m l.toArray σ) Γ Φ r)=true):=by(repeat refine λ_=>?_);change _=_;kernel_rfl)
  (hq:AllR sps (λr=>(quietI sps m).map (λn=>(qv P hs l.toArray sps (cutS m l.toArray σ) Γ Φ r n).map λp=>p.2.map (·.1))=(quietI sps m).map λn=>some (((qv P hs l.toArray sps (cutS m l.toArray σ) Γ Φ r n).map λp=>p.2.map (·.2)).getD [])):=by(repeat refine λ_=>?_);change _=_;kernel_rfl)
  (hmix:P.follows .mixedOrders=true:=by exact mix)
  (Z:AllR sps λr=>(∀B Q,Obs P N hs l.toArray sps (cutS m l.toArray σ) Γ Φ r B Q sps)/\Gl B N H (sgF l.toArray (vl P hs l.toArray sps (cutS m l.toArray σ) Γ Φ r) (cutS m l.toArray σ) (rgu l.toArray m)) (gamF (λp=>ver (wrE (rcs P hs l.toArray sps (cutS m l.toArray σ) Γ Φ r) (λ_=>true) p) sps Γ[p]?) 0 (mx Γ sps)) (Φ++fac (rcs P hs l.toArray sps (cutS m l.toArray σ) Γ Φ r) (λ_=>true) sps) (wpFrom P l.toArray Q m)):
  Gl B N H σ Γ Φ ((Code.region id l.toArray true).wp P Q):=λe a w c=>by
 have st:=StP.out (σ:=σ) hst;refine As hmix c λw' c=>?_;obtain⟨r,v⟩:=Vd.mk sps;have hz:∀k,(Array.replicate l.toArray.size false).getD k false=false:=λk=>by
  rw[ZfM,Zib];split<;>rfl
 have hw0:∀p,ver (wrE (rcs P hs l.toArray sps (cutS m l.toArray σ) Γ Φ r) (λk=>(Array.replicate l.toArray.size false).getD k false) p) sps Γ[p]? =Γ[p]?:=λp=>Qx λks _=>by simp only[wrE,hz,cond_false]
 obtain⟨hf,S,F,h1,h2,h3⟩:=c;refine Aj (B:=B) (σ:=cutS m l.toArray σ) (Γ:=Γ) (Φ:=Φ) st (λr v ks hks B Q=>((Z.at v).1 B Q).out ks hks) (λr v ks hks=>ZfV.1 (hgd.at v) ks hks) (λr v n hn hE=>?_) (λr a w v c=>(Z.at v).2 e an) _ r _ _ _
  ⟨v,by simp,λk _ hk=>by(rw[hz]at hk;cases hk),⟨hf.defers,hf.size,λt v hv=>?_⟩,λk _ hk=>by(rw[hz]at hk;cases hk),S,F,h1,?_,λR hR=>h3 R ?_⟩ (λk _=>hz k) U
 ·have hm:n∈quietI sps m:=Zgv.2 ⟨Jh hn,by rw[hE];rfl⟩;have:=ZgH.1 (hq.at v) n hm;cases hx:qv P hs l.toArray sps (cutS m l.toArray σ) Γ Φ r n with
  |none=>rw[hx]at this;cases this
  |some p=>
   rw[hx]at this;simp only[Zgh,Zg8,Option.some.injEq]at this;exact⟨p.1,p.2,rfl,λq hq=>ZgH.1 this q hq⟩
 ·unfold cutS at hv;exact hf.get t v (Vg (f:=λk=>!memN ((l.toArray.toList.take m).filterMap (·.dst)) k) hv).2
 ·rw[Wj hw0];have key:∀(L pre:List HP)(n:Nat),n=L.length->gamF (λp=>(pre++L)[p]?) pre.length n=L:=by
   intro L
   induction L with
   |nil=>intro pre n hn;subst hn;rfl
   |cons x L ih=>
    intro pre n hn;subst hn;simp only[ZfS];have e:(pre++x::L)[pre.length]? =some x:=by simp
    unfold gamF;have h:=ih (pre++[x]) _ rfl;rw[ZfO,ZfI]at h;simp only[e];exact congrArg (x:: ·) h
  have more:∀(n k:Nat),Γ.length<=k->gamF (λp=>Γ[p]?) k n=[]:=by
   intro n
   induction n with
   |zero=>intro k _;rfl
   |succ n ih=>intro k hk;unfold gamF;rw[Zgd hk];exact ih (k+1) O
  have suc:∀(n k:Nat),gamF (λp=>Γ[p]?) k (n+1)=(Γ[k]?).toList++gamF (λp=>Γ[p]?) (k+1) n:=λn k=>by
   conv=>lhs;unfold gamF
   cases Γ[k]? <;>rfl
  have app:∀(n n2 k:Nat),gamF (λp=>Γ[p]?) k (n+n2)=gamF (λp=>Γ[p]?) k n++gamF (λp=>Γ[p]?) (k+n) n2:=by
   intro n
   induction n with
   |zero=>intro n2 k;rw[Zhl];rfl
   |succ n ih=>
    intro n2 k;rw[show n+1+n2=(n+n2)+1 by omega,suc,suc,ih,ZfO,show k+1+n=k+(n+1) by omega]
  obtain⟨d,hd⟩:∃d,mx Γ sps=Γ.length+d:=⟨mx Γ sps-Γ.length,by have:=st.hM;omega⟩;have:=key Γ [] _ rfl;simp only[Zhx,ZgR]at this;rw[hd,app,this,Zhl,more _ _ (ZfP _),Zgb];exact h2
 ·rcases ZfG.1 hR with hR|hR
  ·exact hR
  ·obtain⟨ks,_,x2,_⟩:=(TJ (rcs P hs l.toArray sps (cutS m l.toArray σ) Γ Φ r)).1 hR;rw[hz]at x2;cases x2
def zPr{l:List Oper}(hs:List (Nat×Nat))(sps:Sps)(hst:StP N l.toArray sps Γ l.length=true:=by kernel_rfl)
  (hgd:AllR sps (λr=>sps.all (gdE P hs l.toArray sps (cutS l.length l.toArray σ) Γ Φ r)=true):=by(repeat refine λ_=>?_);change _=_;kernel_rfl)
  (hq:AllR sps (λr=>(quietI sps l.length).map (λn=>(qv P hs l.toArray sps (cutS l.length l.toArray σ) Γ Φ r n).map λp=>p.2.map (·.1))=(quietI sps l.length).map λn=>some (((qv P hs l.toArray sps (cutS l.length l.toArray σ) Γ Φ r n).map λp=>p.2.map (·.2)).getD [])):=by(repeat refine λ_=>?_);change _=_;kernel_rfl)
  (hmix:P.follows .mixedOrders=true:=by exact mix)
  (Z:AllR sps λr=>(∀B Q,Obs P N hs l.toArray sps (cutS l.length l.toArray σ) Γ Φ r B Q sps)/\Gl B N H (sgF l.toArray (vl P hs l.toArray sps (cutS l.length l.toArray σ) Γ Φ r) (cutS l.length l.toArray σ) (rgu l.toArray l.length)) (gamF (λp=>ver (wrE (rcs P hs l.toArray sps (cutS l.length l.toArray σ) Γ Φ r) (λ_=>true) p) sps Γ[p]?) 0 (mx Γ sps)) (Φ++fac (rcs P hs l.toArray sps (cutS l.length l.toArray σ) Γ Φ r) (λ_=>true) sps) K):
  Gl B N H σ Γ Φ ((Code.region id l.toArray true).wp P (Exit.then K Q)):=zPm l.length hs sps hst hgd hq hmix (AllR.imp Z λ_ h=>⟨h.1,zE0 h.2 U⟩)
def zpE{sps:Sps}{R:Nat->Rc}{B':Bs}{i:Nat}{s:Sp}{V:Nat->Value}{Γ0:List HP}(g:s.κ)(gs fs:List Nat)(hg:gs.map (λj=>Γ[j]?)=(Γi sps Γ0 R i s λp=>(s.rc g V).gs.lookup p).map some:=by kernel_rfl)(hf:fs.map (λj=>Φ[j]?)=(s.rc g V).fs.map some:=by kernel_rfl)
  (hn:gs.Nodup:=by decide)(hσ:(sgF ops (λ_=>(s.rc g V).val) [] [i]).map (λp=>σ.lookup p.1)=(sgF ops (λ_=>(s.rc g V).val) [] [i]).map λp=>some p.2:=by kernel_rfl):Gl B' N H σ Γ Φ (PsE N ops sps Γ0 B' R i s V):=λ_ _ _ c=>⟨g,c.re gs fs hg hf hn hσ⟩
def NFl{α:Type}(l l':List α):Prop:=l=l'
def nf0{α:Type}:NFl ([]:List α) []:=rfl
def nfc{α:Type}{x:α}{l l':List α}(h:NFl l l'):NFl (x::l) (x::l'):=congrArg (x:: ·) h
def zN{Γ':List HP}{Φ':List RF}(hΓ:NFl Γ Γ':=by repeat(first|apply nfc|exact nf0))(hΦ:NFl Φ Φ':=by repeat(first|apply nfc|exact nf0))(Z:Gl B N H σ Γ' Φ' T):Gl B N H σ Γ Φ T:=by
 cases hΓ;cases hΦ;exact Z
def sB(l:List (Nat×Nat)):List (Nat×Value):=l.map λp=>(p.1,.pointer (some ⟨p.2,0,none⟩))
def zK{Γ':List HP}{Φ':List RF}(σ':List (Nat×Value))(hk:σ'.map (λp=>σ.lookup p.1)=σ'.map λp=>some p.2:=by kernel_rfl)(hΓ:NFl Γ Γ':=by repeat(first|apply nfc|exact nf0))(hΦ:NFl Φ Φ':=by repeat(first|apply nfc|exact nf0))(Z:Gl B N H σ' Γ' Φ' T):Gl B N H σ Γ Φ T:=λe a w c=>by
 cases hΓ;cases hΦ;exact Z e (c.frs _ hk)
def zM{m:Nat}{vs:Nat->Value}{is:List Nat}{σ':List (Nat×Value)}{Γ':List HP}{Φ':List RF}(τ:List (Nat×Value))(hσ:NFl (cutS m ops σ) σ':=by repeat(first|apply nfc|exact nf0))(hτ:(τ++σ').map (λp=>(sgF ops vs (cutS m ops σ) is).lookup p.1)=(τ++σ').map λp=>some p.2:=by kernel_rfl)
  (hΓ:NFl Γ Γ':=by repeat(first|apply nfc|exact nf0))(hΦ:NFl Φ Φ':=by repeat(first|apply nfc|exact nf0))(Z:Gl B N H (τ++σ') Γ' Φ' T):Gl B N H (sgF ops vs (cutS m ops σ) is) Γ Φ T:=λe a w c=>by
 cases hΓ;cases hΦ;exact Z e (c.frs _ hτ)
def zq{o:Oper}{d:Nat}{v:Value}(h:∀a w,Cx B N σ Γ Φ a w->wpOp P #[o] (Exit.then K Q) 0 (λa' w'=>Cx B N ((d,v)::σ) Γ Φ a' w') a w)(Z:Gl B N H ((d,v)::σ) Γ Φ K):Gl B N H σ Γ Φ (wpFrom P #[o] (Exit.then K Q) 0):=λe a w c=>by
 have h1:=wpOp_mono (λa' w' c'=>Z e c') (h a w c);unfold wpOp at h1;simp only[ZhN,Zgz]at h1;unfold wpFrom;simp only[ZgN];unfold wpList;exact h1
end
section
variable{P:Program}{B:Bs}{N:Nat}{σ:List (Nat×Value)}{Γ:List HP}{Φ:List RF}{a:Act}{w:World}{K:Act->World->Prop}{Q:Exit->Act->World->Prop}{ops:Array Oper}{k d d2:Nat}{ty ty2 t t1 t':TypeId}{pos pos2:String}{af af2:Array Edge}
variable{H:Prop}{β0:Type}{z0:β0}
def ZeV{β:Type}{xs r:List β}{q:β}{raws:List Hd}{j:Hd}(hl:raws.length=xs.length)(hr:app? xs [q]=some r):app? raws [j]=some (raws++[j])/\(raws++[j]).length=r.length/\r=xs++[q]:=by
 grind[app?]
theorem Eapd{β:Type}{own:Hd->β->HP}{E:TypeId}{v:Value}{rs:List Hd}{xs:List β}{q:β}{f0:List β->Option β0}(hdr:Hd){parts:Array (Nat×Operand)}{x:Operand}(i j l:Nat)(hi:Γ[i]? =some (SL E v rs):=by rfl)(hj:Γ[j]? =some (HP.all own rs xs):=by rfl)(hl:Γ[l]? =some (own hdr q):=by rfl)(ho:ops[k]? =some ⟨some d,.buildSlice t 1 parts,ty,pos,af,none⟩:=by rfl)(hd:Nat.blt d N=true:=by rfl)(hv:parts.toList.map (λp=>opd σ p.2)=[some hdr.v]:=by kernel_rfl)(hrun:∀w,(Instr.buildSlice t 1 ((parts.toList.map (·.1)).zip [hdr.v]).toArray).run P w= .ok (.slice (some ⟨w.heap.size,0,none⟩) 1 1) (w.alloc (.cells #[hdr.v] E)):=by intro _;kernel_rfl)(ho2:ops[k+1]? =some ⟨some d2,.call ⟨.builtin .append,#[x,.tmp d],#[t1,t']⟩,ty2,pos2,af2,none⟩:=by rfl)(htt:t'=t1:=by rfl)(hd2:Nat.blt d2 N=true:=by rfl)(hx0:(match x with|.tmp s=>s !=d|_=>true)=true:=by rfl)(he:ElT P E Hd:=by refine elT ?_;kernel_rfl)(ht:P.underlying t1=some (.slice E):=by kernel_rfl)(hx:opd σ x=some v:=by kernel_rfl)(hn:[i,j,l].Nodup:=by decide)(Z:∀r u a' c',Gl B N (f0 r=some z0) ((d2,.slice a' (List.length r) c')::(d,u)::σ) (rest [i,j,l] Γ++[SL E (.slice a' (List.length r) c') (rs++[hdr]),HP.all own (rs++[hdr]) r]) Φ (wpFrom P ops Q (k+2))):Gl B N ((app? xs [q]).bind f0=some z0) σ Γ Φ (wpFrom P ops Q k):=by
 intro e9 a w c;obtain⟨r,hr,e9⟩:=bindE e9;have h:=λu a' c'=>gap (Z r u a' c') e9;have hlen:rs.length=xs.length:=by
  obtain⟨_,S,F,_,hs,_⟩:=c;obtain⟨A,h1,_⟩:=hs.get j hj;exact UX h1
 obtain⟨g1,g2,g3⟩:=ZeV (j:=hdr) hlen hr;have c:=c.gam λS hs=>hs.part [i,j,l] (Γ1:=[SL E v rs,HP.all own rs xs,own hdr q]) (by simp[hi,hj,hl]) hn;have e1:([hdr].map λx=>Rep.val Hd (Flat.enc x))=[hdr.v]:=rfl;have e2:([hdr].map Flat.enc).flatten.toArray= #[hdr.v]:=rfl;have hv':parts.toList.map (λp=>opd σ p.2)=([hdr].map λx=>Rep.val Hd (Flat.enc x)).map some:=by simp_all
 have hrun':∀w,(Instr.buildSlice t 1 ((parts.toList.map (·.1)).zip ([hdr].map λx=>Rep.val Hd (Flat.enc x))).toArray).run P w= .ok (.slice (some ⟨w.heap.size,0,none⟩) 1 1) (w.alloc (.cells ([hdr].map Flat.enc).flatten.toArray E)):=by
  simp_all
 refine Elt (α:=Hd) (H:=True) E [hdr] (Z:=λa1 c1 _{fr w1}c=>?_) ho hd rfl rfl hv' hrun' trivial c;have hx':opd ((d,Value.slice a1 (List.length [hdr]) c1)::σ) x=some v:=by
  cases x with
  |tmp s=>
   have hne:(s==d)=false:=by simp_all
   show List.lookup s ((d,_)::σ)=_;rw[ZfZ,hne];exact hx
  |_=>exact hx
 refine Eap (α:=Hd) (E:=E) (v:=v) (l:=rs) (m:=[hdr]) (f0:=some) 0 (Ava.g (E:=E) (v:=Value.slice a1 (List.length [hdr]) c1) (l:=[hdr]) (([SL E v rs,HP.all own rs xs,own hdr q]++rest [i,j,l] Γ).length) U) (Z:=λr' a2 c2 e'{fr w2}c=>?_) rfl ho2 htt hd2 he ht hx' (u:=Value.slice a1 (List.length [hdr]) c1) (by show List.lookup d ((d,Value.slice a1 (List.length [hdr]) c1)::σ)=some _;simp) (bds g1) c;obtain rfl:=Option.some.inj e';rw[g2]at c;subst g3;refine h _ a2 c2 fr w2 (c.gam λS hs=>?_);have h1:Sep ((SL E (.slice a2 (xs++[q]).length c2) (rs++[hdr])::HP.all own (rs++[hdr]) (xs++[q])::rest [i,j,l] Γ)++[SL E (Value.slice a1 (List.length [hdr]) c1) [hdr]]) _ S:=Sep.under hs λ_ h=>(Sep.join2 h).imp λ_ h=>all_append (QW (λ_ h=>h) (λ_ h=>Ze2 h) h);obtain⟨A,R,h2,_,_,h4,_⟩:=h1.split;exact Zn (Γ2:=[_,_]) (h2.mono λk _=>h4 k)
def Cx.tkf{β:Type}{own:Hd->β->HP}{rs:List Hd}{xs:List β}{q:β}{r:Hd}{n:Int}(j:Nat)(c:Cx B N σ Γ Φ a w)(hr:rs[n.toNat]? =some r)(hz:get? xs n=some q)(hj:Γ[j]? =some (HP.all own rs xs):=by rfl):Cx B N σ (rest [j] Γ++[own r q,HP.but own n.toNat rs xs]) Φ a w:=c.gam λS h=>
 Zn (Γ2:=[_,_]) (Sep.focus (h.part [j] (Γ1:=[HP.all own rs xs]) (by simp[hj]) U) hr hz)
def Cx.tkp{β:Type}{own:Hd->β->HP}{rs:List Hd}{xs:List β}{q z:β}{r:Hd}{n:Int}(i j:Nat)(c:Cx B N σ Γ Φ a w)(hr:rs[n.toNat]? =some r)(hz:get? xs n=some q)(hi:Γ[i]? =some (HP.but own n.toNat rs xs):=by rfl)(hj:Γ[j]? =some (own r z):=by rfl)(hn:[j,i].Nodup:=by decide):Cx B N σ (rest [j,i] Γ++[HP.all own rs (xs.set n.toNat z)]) Φ a w:=c.gam λS h=>
 Zn (Γ2:=[_]) (by
  have h:=h.part [j,i] (Γ1:=[own r z,HP.but own n.toNat rs xs]) aR hn;obtain⟨hlt,e⟩:=ZfE.1 hr;have e:rs.set n.toNat r=rs:=by rw[<-e];simp
  have hx:=(ZfE.1 (get?_at hz)).1;have:=Sep.merge h λA h=>Io hlt hx h
  rwa [e]at this)
abbrev ownS(E:TypeId):Hd->List Int->HP:=λh xs=>SL E h.v xs
def Jk(E:TypeId):Owns (ownS E):=Zeu Int E
def Zfk{E:TypeId}{v:Value}{l:List Int}{A:Nat->Prop}(h:(SL E v l).ok w A):∃a c,v= .slice a l.length c:=by
 obtain⟨b,cap,e,_⟩:=(SL.rv h).slice;exact⟨b,cap,e⟩
variable{ty':TypeId}{pos':String}{af':Array Edge}{E E':TypeId}{rs:List Hd}{xs:List (List Int)}{v:Value}{x y:Operand}
def Eals{q:List Int}{n:Int}(i j:Nat)(hz:get? xs n=some q)(hi:Γ[i]? =some (SL E v rs):=by rfl)(hj:Γ[j]? =some (HP.all (ownS E') rs xs):=by rfl)(ho:ops[k]? =some ⟨some d,.indexAddr t x y,ty,pos,af,none⟩:=by rfl)(ho':ops[k+1]? =some ⟨some d2,.load t' (.tmp d),ty',pos',af',none⟩:=by rfl)(hd:Nat.blt d N=true:=by rfl)(hd':Nat.blt d2 N=true:=by rfl)(he:Ty P t' Hd:=by constructor<;>kernel_rfl)(ht:P.underlying t=some (.slice t'):=by kernel_rfl)(hx:opd σ x=some v:=by kernel_rfl)(hy:numOf (opd σ y)=some n:=by kernel_rfl)(Z:∀p a' c',rs[n.toNat]? =some ⟨a',q.length,c'⟩->Gl B N H ((d2,.slice a' q.length c')::(d,p)::σ) Γ Φ (wpFrom P ops Q (k+2))):Gl B N H σ Γ Φ (wpFrom P ops Q k):=by
 intro e9 a w c;obtain⟨_,S,F,_,hs,_⟩:=id c;obtain⟨A,hA,_⟩:=hs.get j hj;have hl:=UX hA;have hq:=get?_at hz;have hlt:=(ZfE.1 hq).1;have hr:rs[n.toNat]? =some rs[n.toNat]:=ZfA O;obtain⟨a',c',e⟩:=Zfk (E:=E') (v:=(rs[n.toNat]).v) (l:=q) (Tz hA hr hq:(ownS E' rs[n.toNat] q).ok w A);have e':rs[n.toNat]=⟨a',q.length,c'⟩:=by
  generalize rs[n.toNat]=z at e;cases z;simp_all[Hd.v,Value.slice.injEq]
 have hg:get? rs n=some ⟨a',q.length,c'⟩:=by
  simp_all[get?,ZfC]
 refine Eel (α:=Hd) (f0:=some) (.g i hi) (Z:=λr2 p e2{fr w'}c=>?_) ho ho' hd hd' he ht hx hy (bds hg) c;obtain rfl:=Option.some.inj e2;exact Z p a' c' (by rw[hr,e']) e9 c
end
end Go.GL
end
