/- Texts of this claim put into one: library or plain laws, without the program under test. -/
import Derived.Test.YtccamimfkohabaaGreatDoorLib3
import Derived.Maps.RangeWalk
import Derived.Shelf.SlSortCmp.NoneTotal
import Derived.Lib.Strings
import Derived.Test.YtccamimfkohabaaGreatDoorLib2
set_option linter.unusedSimpArgs false
set_option linter.unusedVariables false
set_option linter.defProp false
section
namespace Go.GL
open Go.RowKit Go.Maps
def Di{H:Type}{P:Program}{k:TypeId}{R:Value->Option (DataW H×List MemPlace)}{w w':World}{S:Nat->Prop}{b r n cnt:Nat}{D:DataW H}{left:Lit->Bool}
  (h:w.ranges P k R b r n D left cnt)(hc:Chg S w w')(hb:¬S b)(hr:¬S r):w'.ranges P k R b r n D left cnt:=by
 have h1:=h.owns.lt;have h2:=h.lt;obtain⟨es,clock,since,seen,c0,hb',F,hs,hD,hr',rest⟩:=h;exact⟨es,clock,since,seen,c0,(hc.block b h1 hb).trans hb',F,hs,hD,(hc.block r h2 hr).trans hr',rest⟩
def Chg.of_grownN{w w':World}(h:w.grownBy w' none):Chg Non w w':=⟨h.os,h.tape,h.output,h.size,λk hk _=>h.block k hk U⟩
section
variable{P:Program}{K V:TypeId}{κ β:Type}[Flat κ][Flat β][DecidableEq κ]
def RG(T:MapT P K V κ β)(b r:Nat)(m:List (κ×β))(left:Lit->Bool)(cnt:Nat):HP where
 ok w A:=(∃n,w.ranges P K T.R b r n (T.D m) left cnt)/\(∀p∈m,T.fit p.1=true)/\A b/\A r
 mono:=λ⟨⟨n,h⟩,hf,hb,hr⟩hA=>⟨⟨n,h⟩,hf,hA _ h.owns.lt hb,hA _ h.lt hr⟩
 keep:=λ⟨⟨n,h⟩,hf,hb,hr⟩hc hT=>⟨⟨n,Di h hc (hT _ hb) (hT _ hr)⟩,hf,hb,hr⟩
omit [DecidableEq κ]in
theorem MapT.none_(T:MapT P K V κ β){kl:Lit}(z:DataW Value):∀m:List (κ×β),(∀p∈m,T.lit p.1≠kl)->(T.D m).atKey kl z=z
 |[],_=>rfl
 |(u,y)::m,h=>by
  rw[MapT.D,atKey_put_other (λe=>h (u,y) ZeK e.symm)];exact MapT.none_ T z m λp hp=>h p (ZeB _ hp)
omit [Flat κ] [Flat β]in
theorem MR{x:κ}:∀{m:List (κ×β)},(∃p∈m,p.1=x)->∃y,m.lookup x=some y
 |[],⟨p,hp,_⟩=>by cases hp
 | (u,y)::m,h=>by
  by_cases e:x=u
  ·subst e;exact⟨y,by simp[List.lookup]⟩
  ·have e':(x==u)=false:=by simpa using e
   obtain⟨p,hp,rfl⟩:=h;rcases ZeR.1 hp with rfl|hp
   ·exact absurd rfl e
   ·obtain⟨z,hz⟩:=MR (x:=p.1) ⟨p,hp,rfl⟩;exact⟨z,by rw[ZeG,e'];exact hz⟩
def MapT.came(T:MapT P K V κ β){m:List (κ×β)}(hf:∀p∈m,T.fit p.1=true){kl:Lit}{v:Value}{y:DataW Value×List MemPlace}(hv:T.R v=some y)(hat:∀zd,(T.D m).atKey kl zd=y.1):
  ∃x z,T.fit x=true/\T.lit x=kl/\m.lookup x=some z/\v=Rep.val β (Flat.enc z):=by
 by_cases hk:∃p∈m,T.lit p.1=kl
 ·obtain⟨p,hp,rfl⟩:=hk;have hfit:=hf p hp;obtain⟨z,hz⟩:=MR (x:=p.1) ⟨p,hp,rfl⟩;refine⟨p.1,z,hfit,rfl,hz,?_⟩;have h1:=hat (.map []);rw[T.at_ hfit _ m hf,hz]at h1;simp only at h1;obtain⟨y1,ps⟩:=y;simp only at h1;subst h1;exact T.back v z ps hv
 ·exfalso;have hn:∀p∈m,T.lit p.1≠kl:=λp hp e=>hk ⟨p,hp,e⟩;have h1:=hat (.lit (.bool true));have h2:=hat (.lit (.bool false));rw[T.none_ _ m hn]at h1 h2;rw[<-h2]at h1;cases h1
end
section
variable{P:Program}{B:Bs}{N:Nat}{σ:List (Nat×Value)}{Γ:List HP}{Φ:List RF}{a:Act}{w:World}{Q:Exit->Act->World->Prop}{K':Act->World->Prop}
  {ops:Array Oper}{k d:Nat}{t t' ty yt:TypeId}{pos:String}{af:Array Edge}{x y:Operand}
  {K V:TypeId}{κ β:Type}[Flat κ][Flat β][DecidableEq κ]{T:MapT P K V κ β}{b r:Nat}{m:List (κ×β)}{left:Lit->Bool}{cnt:Nat}
def Ern(i:Nat)(c:Cx B N σ Γ Φ a w)
  (h:∀r fr w',Cx B N ((d,.pointer (some ⟨r,0,none⟩))::σ) (Γ.set i (RG T b r m (Maps.has (T.D m)) (Maps.size (T.D m)))) Φ fr w'->wpFrom P ops Q (k+1) fr w')(hi:Γ[i]? =some (MP T b m):=by rfl)
  (ho:ops[k]? =some ⟨some d,.range t x,ty,pos,af,none⟩:=by rfl)(hd:Nat.blt d N=true:=by rfl)(ht:P.underlying t=some (.map K V):=by kernel_rfl)(hx:opd σ x=some (.map (some b)):=by kernel_rfl):wpFrom P ops Q k a w:=by
 obtain⟨hF,S,F,hM,hs,hf⟩:=c;obtain⟨A,⟨hown,hA⟩,hup⟩:=hs.upd i hi hM;obtain⟨w',hrun,hrg,hg,hsz⟩:=hown.1.range T.keyed ht;refine Zu hF ho rfl rfl (Ze4.mp hd) (R:=λz w1=>z= .pointer (some ⟨w.heap.size,0,none⟩)/\w1=w') (Zh ?_ ⟨rfl,rfl⟩) λz w1 fr hz hF'=>?_
 ·simp[execOp,Zd hF hx,hrun]
 ·obtain⟨rfl,rfl⟩:=hz;obtain⟨S',hp,hs'⟩:=hup (P':=RG T b w.heap.size m (Maps.has (T.D m)) (Maps.size (T.D m))) (Chg.of (Chg.of_grownN hg)) ⟨⟨_,hrg⟩,hown.2,.inl hA,.inr (Zes _)⟩;exact h _ fr w1 ⟨hF',S',F,hM.stp hp,hs',hf.chg hp.chg λk hk hS=>hM.dj k hS hk⟩
def Enx(i:Nat)(hback:∀key x,keyOf P K key=some (T.lit x)->key=Rep.val κ (Flat.enc x))(c:Cx B N σ Γ Φ a w)
  (h0:(∀kl,left kl=false)->∀fr,Cx B N ((d,.tuple #[.bool false])::σ) Γ Φ fr w->wpFrom P ops Q (k+1) fr w)
  (h1:∀(u:κ)(z:β)cnt' fr w',T.fit u=true->m.lookup u=some z->left (T.lit u)=true->cnt'<cnt->(Instr.entry (.pointer (some ⟨r,0,none⟩))).run P w'= .ok (.tuple #[Rep.val κ (Flat.enc u),Rep.val β (Flat.enc z)]) w'->Cx B N ((d,.tuple #[.bool true,Rep.val κ (Flat.enc u),Rep.val β (Flat.enc z)])::σ) (Γ.set i (RG T b r m (λq=>left q&& !q.sameKey (T.lit u)) cnt')) Φ fr w'->wpFrom P ops Q (k+1) fr w')
  (hi:Γ[i]? =some (RG T b r m left cnt):=by rfl)(ho:ops[k]? =some ⟨some d,.next x false,ty,pos,af,none⟩:=by rfl)(hd:Nat.blt d N=true:=by rfl)(hx:opd σ x=some (.pointer (some ⟨r,0,none⟩)):=by kernel_rfl):wpFrom P ops Q k a w:=by
 obtain⟨hF,S,F,hM,hs,hf⟩:=c;obtain⟨A,⟨⟨n,hrg⟩,hfit,hAb,hAr⟩,hup⟩:=hs.upd i hi hM;rcases hrg.next T.keyed ty with⟨_,hl,hrun⟩|⟨key,v,kl,y,w',cnt',hkey,hlk,hv,hat,hrun,hrg',hlt,hgr,hsz,hen⟩
 ·refine Zu hF ho rfl rfl (Ze4.mp hd) (R:=λz w1=>z= .tuple #[.bool false]/\w=w1) (Zh ?_ ⟨rfl,rfl⟩) λz w1 fr hz hF'=> ?_
  ·simp[execOp,Zd hF hx,hrun]
  ·obtain⟨rfl,rfl⟩:=hz;exact h0 hl fr ⟨hF',S,F,hM,hs,hf⟩
 ·obtain⟨u,z,hu,rfl,hz,rfl⟩:=T.came hfit hv hat;obtain rfl:=hback key u hkey;refine Zu hF ho rfl rfl (Ze4.mp hd) (R:=λq w1=>q= .tuple #[.bool true,Rep.val κ (Flat.enc u),Rep.val β (Flat.enc z)]/\w1=w') (Zh ?_ ⟨rfl,rfl⟩) λq w1 fr hq hF'=>?_
  ·simp[execOp,Zd hF hx,hrun]
  ·obtain⟨rfl,rfl⟩:=hq;have hc:Chg A w w1:=(Chg.of_grown hgr).mono λk hk=>by subst hk;exact hAr
   obtain⟨S',hp,hs'⟩:=hup (P':=RG T b r m (λq=>left q&& !q.sameKey (T.lit u)) cnt') hc ⟨⟨n,hrg'⟩,hfit,.inl hAb,.inl hAr⟩;exact h1 u z cnt' fr w1 hu hz hlk hlt hen ⟨hF',S',F,hM.stp hp,hs',hf.chg hp.chg λk hk hS=>hM.dj k hS hk⟩
def Een{v:Value}(c:Cx B N σ Γ Φ a w)(hen:(Instr.entry (.pointer (some ⟨r,0,none⟩))).run P w= .ok v w)(h:∀fr,Cx B N ((d,v)::σ) Γ Φ fr w->wpFrom P ops Q (k+1) fr w)
  (ho:ops[k]? =some ⟨some d,.entry x,ty,pos,af,none⟩:=by rfl)(hd:Nat.blt d N=true:=by rfl)(hx:opd σ x=some (.pointer (some ⟨r,0,none⟩)):=by kernel_rfl):wpFrom P ops Q k a w:=
 Zu c.fr ho rfl rfl (Ze4.mp hd) (R:=λq w1=>q=v/\w=w1) (Zh (by simp[execOp,Zd c.fr hx,hen]) ⟨rfl,rfl⟩) λq w1 fr hq hF'=>by
  obtain⟨rfl,rfl⟩:=hq;exact h fr (c.to hF')
theorem Zcv{c:Code}(I:Nat->Act->World->Prop){n:Nat}(h0:I n a w)(round:∀n a w,I n a w->c.wp P (Exit.then (λa' w'=>∃n',n'<n/\I n' a' w') Q) a w):(Code.loop c).wp P Q a w:=by
 have key:∀n a w,I n a w->∀(b:Frame)(K:List Item)(cs:List Frame),
   ∃e a' w',Q e a' w'/\Arrives P (lone (b.at a (.code c:: .inLoop c::K)) cs w) b K cs e a' w':=by
  intro n
  induction n using Nat.strongRecOn with
  | ind n ih=>
   intro a w hI b K cs;obtain⟨e,a₁,w₁,hq,harr⟩:=round n a w hI b (.inLoop c::K) cs;cases e with
   |normal=>
    obtain⟨n',hn,hI'⟩:=hq;obtain⟨e₂,a₂,w₂,hq₂,harr₂⟩:=ih n' hn a₁ w₁ hI' b K cs;exact⟨e₂,a₂,w₂,hq₂,.of_steps (Steps.trans harr (.one step_inLoop)) harr₂⟩
   |exit id=>exact⟨_,a₁,w₁,hq,.pass (x:=.inLoop c) rfl (λ_ _=>.inl U) harr⟩
   |goto l=>exact⟨_,a₁,w₁,hq,.pass (x:=.inLoop c) rfl (λ_ _=>.inl U) harr⟩
   |ret=>exact⟨_,a₁,w₁,hq,.pass (x:=.inLoop c) rfl (λ_ _=>.inl U) harr⟩
   |panic ch=>exact⟨_,a₁,w₁,hq,.pass (x:=.inLoop c) rfl (λ_ _=>.inl U) harr⟩
   |outgrown=>exact⟨_,a₁,w₁,hq,.pass (x:=.inLoop c) rfl (λ_ _=>.inl U) harr⟩
 intro b K cs;obtain⟨e,a',w',hq,harr⟩:=key n a w h0 b K cs;exact⟨e,a',w',hq,.of_steps (.one step_loop) harr⟩
def LpW{id:Nat}{bd:Code}(I:Nat->Act->World->Prop)(M:Act->World->Prop){n:Nat}(h0:I n a w)
  (round:∀n a w,I n a w->bd.wp P (Exit.then (λa' w'=>∃n',n'<n/\I n' a' w') (Exit.inBlock id (Exit.then M Q))) a w)(cont:∀a w,M a w->K' a w):(Code.block id (.loop bd)).wp P (Exit.then K' Q) a w:=
 wp_cut (wp_block (Zcv I h0 round)) cont
end
open Go.RowKit Go.Shelf Go.Sort Go.Proofs Go.Lib
def Ga{w:World}{g:Nat}{cur:Array Value}{e:TypeId}{F:Array Value}(hb:w.heap[g]? =some (.cells cur e (0,0)))(ht:cur.toList.take F.size=F.toList):Holds id w g 0 F:=by
 intro j hj;refine⟨?_,by simp_all[World.frozen?]⟩;have h1:(cur.toList.take F.size)[j]? =F.toList[j]?:=by rw[ht]
 rw[ZfW hj]at h1;simp_all[World.cell?,ZfV,Zgr,Zeg,Zen,ZfH]
def Hl{w:World}{g n:Nat}{os:Array Obj}{cur:Array Value}{e:TypeId}{fr:Nat×Nat}(F:Array Value)(hb:w.heap[g]? =some (.cells cur e fr)):
  (grow (putRow id (Sort.ahead w n) g 0 F) os).heap[g]? =some (.cells (putCells id 0 F cur) e fr):=by
 grind[Array.getElem?_eq_some_iff,heap_grow_old,putRow,mapBlock,Sort.ahead,onCells]
def MZ{w:World}{g n:Nat}{os:Array Obj}(F:Array Value):w.grownBy (grow (putRow id (Sort.ahead w n) g 0 F) os) (some g):=by
 refine⟨rfl,rfl,rfl,by simp,λk hk hne=>?_⟩;grind[heap_grow_old,putRow,mapBlock,Sort.ahead]
def Jq(cur F:Array Value)(h:F.size<=cur.size):(putCells id 0 F cur).toList.take F.size=F.toList:=by
 apply ZeU;grind[List.getElem?_take_of_lt,putCells,List.getElem?_take_eq_none,List.getElem?_eq_none]
section
variable{α:Type}[Flat α][Inhabited α]
omit[Inhabited α]in
def CL(x:α):(Flat.enc x).length=Rep.sz α:=Rep.len (w:=default) (F:=Non) (Flat.iff.2 rfl:Rep.ok default Non (Flat.enc x) x)
omit [Inhabited α]in
def Fs{w:World}{F:Nat->Prop}{css:List (List Value)}{l:List α}(h1:Css w F css l):css=l.map Flat.enc:=by
 apply ZeU;intro i;rw[ZeL];by_cases hi:i<l.length
 ·have hc:i<css.length:=by rw[h1.1];exact hi
  have:=h1.2 i css[i] l[i] (Zef hc) (Zef hi);rw[Zef hc,Zef hi,Flat.iff.1 this];rfl
 ·rw[ZeC (by rw[h1.1];omega),ZeC O];rfl
omit [Flat α] [Inhabited α]in
theorem Cq{k:Nat}(enc:α->List Value)(hk:∀x,(enc x).length=k)(h0:0<k):∀(l:List α)(t:Nat),(l.map enc).flatten[t]? =(l[t/k]?).bind λx=>(enc x)[t%k]?
 |[],t=>by simp
 | x::l,t=>by
  rw[ZeQ,Zf3];by_cases h:t<k
  ·rw[ZeD (by rw[hk];exact h),Nat.div_eq_of_lt h,Nat.mod_eq_of_lt h];rfl
  ·rw[ZeE (by rw[hk];omega),hk,Cq enc hk h0 l];obtain⟨u,rfl⟩:∃u,t=u+k:=⟨t-k,by omega⟩;rw[Nat.add_sub_cancel,Nat.add_div_right _ h0,Nat.add_mod_right];rfl
omit [Flat α]in
theorem Dx{k:Nat}(enc:α->List Value)(hk:∀x,(enc x).length=k)(h0:0<k)(l:List α):(flatK enc k l.toArray).toList=(l.map enc).flatten:=by
 have hlen:(l.map enc).flatten.length=l.length*k:=by
  clear h0
  induction l with
  |nil=>simp
  |cons x l ih=>rw[ZeQ,Zf3,Zeo,hk,ih,Ze3,Zgi,Nat.one_mul,Nat.add_comm]
 apply ZeU;intro t;by_cases ht:t<l.length*k
 ·rw[Cq enc hk h0];have hq:t/k<l.length:=Nat.div_lt_of_lt_mul (by rw[Nat.mul_comm];exact ht);have hm:t%k<k:=Nat.mod_lt _ h0;have h1:=get_flatK enc k l.toArray t (by simpa using ht);have h2:t<(flatK enc k l.toArray).size:=by simpa using ht
  rw[ZfH,Zff h2];rw[getElem!_pos _ t h2]at h1;rw[h1];have h3:l.toArray[t/k]! =l[t/k]:=by simp[hq]
  rw[h3,Zef hq];simp only[Zee];rw[Zef (by rw[hk];exact hm),getElem!_pos _ _ (by rw[hk];exact hm)]
 ·rw[ZeC (by simpa using ht),ZeC (by rw[hlen];omega)]
def OwnS.sortedF{w:World}{E:TypeId}{go:Option Nat}{G:Nat->Prop}{a:Option Addr}{n c:Nat}{l:List α}(h:OwnS w E go G Non (.slice a n c) l)(hl:n≠0)(h0:0<Rep.sz α):
  n=l.length/\∃g,a=some ⟨g,0,none⟩/\g<w.heap.size/\HoldsK Flat.enc (Rep.sz α) w g 0 l.toArray/\
   ∀k os(l':List α),l'.length=l.length->OwnS (grow (putRowK Flat.enc (Rep.sz α) (Sort.ahead w k) g 0 l'.toArray) os) E go G Non (.slice a n c) l'/\Chg (λk=>go=some k) w (grow (putRowK Flat.enc (Rep.sz α) (Sort.ahead w k) g 0 l'.toArray) os):=by
 obtain⟨F,css,h1,h2,h3,h4,h5⟩:=h;rcases h2.2 with⟨hn,hz⟩|⟨g,cap,cur,hv,hb,hg,hnc,hcm,hcs,htake⟩
 ·simp_all
 obtain⟨rfl,rfl,rfl⟩:=hv;obtain rfl:=Fs h1;have hgo:go=some g:=by rw[<-h3];rfl
 have hgs:g<w.heap.size:=(Zey.1 hg).1;have hfl:∀l':List α,(flatK Flat.enc (Rep.sz α) l'.toArray).toList=(l'.map Flat.enc).flatten:=λl'=>Dx _ CL h0 l';have hsz:∀l':List α,(flatK Flat.enc (Rep.sz α) l'.toArray).size=l'.length*Rep.sz α:=λl'=>by simp
 refine⟨rfl,g,rfl,hgs,Ga hg ag,λk os l' hlen=>?_⟩;have hgr:=MZ (w:=w) (g:=g) (n:=k) (os:=os) (flatK Flat.enc (Rep.sz α) l'.toArray);have hchg:Chg (λk=>go=some k) w (grow (putRowK Flat.enc (Rep.sz α) (Sort.ahead w k) g 0 l'.toArray) os):=
  ⟨hgr.os,hgr.tape,hgr.output,hgr.size,λk hk hn=>hgr.block k hk λe=>hn ag⟩
 have htk:=Jq cur (flatK Flat.enc (Rep.sz α) l'.toArray) (by simp_all[Zfu]);rw[hsz,hfl]at htk;refine⟨⟨Non,l'.map Flat.enc,Qd _,⟨?_,.inr ⟨g,c,_,by rw[hlen],hb,Hl _ hg,by omega,hcm,by simp_all[putCells],htk⟩⟩,h3,λg' hg'=>⟨(h4 g' hg').1,id⟩,λ_ h=>h.elim⟩,hchg⟩;grind
def SrtP(cf:α->α->Int)(l l':List α):Prop:=l'.Perm l/\l'.Pairwise λx y=>ltOf cf y x=false
omit [Flat α]in
def ZdB{cf:α->α->Int}{l:List α}{d':Array α}(hp:PermIn 0 l.toArray.size l.toArray d')(hs:SortedIn (ltOf cf) 0 l.toArray.size d'):SrtP cf l d'.toList:=by
 obtain⟨h1,_,h3⟩:=hp;have e:d'.extract 0 l.toArray.size=d':=by rw[<-h1];simp
 rw[e]at h3;refine⟨by simpa using h3,Zfx.2 λi j hi hj hij=>?_⟩;have h:=hs i j (Zfi _) hij (by rw[<-h1];simpa using hj);rw[getElem!_pos d' i (by simpa using hi),getElem!_pos d' j (by simpa using hj)]at h;simpa using h
def BO{P:Program}{ρ:Ren}(Ly:SlLaysF0.n6 P ρ){f g:Nat}(hf:ρ.f 6=f)(aE:∀w,(isAgg (ρ.t 24)).run P w= .ok true w)(zE:∀w,(Go.sizeOf (ρ.t 24)).run P w= .ok (Rep.sz α) w)(h0:0<Rep.sz α)(h1:∀x:α,∀v∈Flat.enc x,v.oneCell'=true)
  (cf:α->α->Int)(hO:SWO (ltOf cf))(eg:∀args w,(callFunc g args).run P w= .ok (.enter g args) w)
  (hcmp:∀(x y:α)W,Calls P g #[.agg (Flat.enc x).toArray,.agg (Flat.enc y).toArray] W λe w'=>e= .returned (.int .i64 (cf x y))/\∃q os',w'=grow (W.drewN q) os')
  {E:TypeId}{l:List α}(hl:l.length<4611686018427387904){a:Option Addr}{n c:Nat}:
  Con P f [.slice a n c,.func (.func g) #[] #[]] [SL E (.slice a n c) l] [] λ(i:{l':List α//SrtP cf l l'})=>([],[SL E (.slice a n c) i.1],[]):=by
 subst hf;intro w S F hs hfx hS hF hd;have hM:Mem w S F w S F:=Mem.start hS hF hd;obtain⟨hn,_⟩:=hs.relen 0 rfl;obtain⟨A,hok,hup⟩:=hs.upd 0 rfl hM;by_cases hz:n=0
 ·have hnil:l=[]:=Zfd O;subst hz hnil;refine(AnyF.slices_SortFunc_none Ly a c (.func (.func g) #[] #[]) w).mono ?_;rintro e w' ⟨rfl,rfl⟩;exact⟨⟨[],List.Perm.nil,List.Pairwise.nil⟩,S,F,rfl,hM,hs,λR hR=>by cases hR⟩
 ·rcases hok with⟨go,ho⟩|⟨rfl,q,hq⟩
  ·obtain⟨rfl,b,rfl,hb,hH,hnext⟩:=ho.sortedF hz h0;have hc:CmpLays P g #[] Flat.enc (Rep.sz α) cf b 0 l.toArray.size w:=λm os dk _ x y=>hcmp x y _;refine(AnyQ.slices_SortFunc Ly (Rep.sz α) aE zE Flat.enc CL h1 cf hO g #[] b 0 c l.toArray w eg hc hH hb O).mono ?_;rintro e w' ⟨rfl,d',m,os,hp,hsd,rfl⟩;have hsr:=ZdB hp hsd;obtain⟨g1,g2⟩:=hnext m os d'.toList (by simpa using hp.1);obtain⟨S',hp',hs'⟩:=hup (P':=SL E (.slice (some ⟨b,0,none⟩) l.length c) d'.toList) (g2.mono λk hk=>ho.inG hk) (.inl ⟨go,g1.regard λk _ hk=>.inl hk⟩);refine⟨⟨d'.toList,hsr⟩,S',F,rfl,?_,?_,λR hR=>by cases hR⟩
   ·simpa[sortWorldK]using hM.stp hp'
   simp_all[sortWorldK]
  simp_all
end
theorem IG:∀x:List UInt8,Op.bytesLess x x=false
 |[]=>rfl
 |a::x=>by simp[Op.bytesLess,IG x]
theorem MS:∀x y z:List UInt8,Op.bytesLess x y=true->Op.bytesLess y z=true->Op.bytesLess x z=true
 |_,_,[]=>by simp[Op.bytesLess]
 |_,[],_::_=>by simp[Op.bytesLess]
 |[],_::_,_::_=>by intro _ _;rfl
 | a::x,b::y,c::z=>by
  intro h1 h2;simp only[Op.bytesLess,ZeX,Zeq,Zek,Zft]at h1 h2⊢;rcases h1 with h1|⟨rfl,h1⟩
  ·grind
  ·rcases h2 with h2|⟨rfl,h2⟩
   ·exact .inl h2
   ·exact .inr ⟨rfl,MS x y z h1 h2⟩
theorem IB:∀x y:List UInt8,Op.bytesLess x y=false->x≠y->Op.bytesLess y x=true
 |[],[]=>λ_ h=>absurd rfl h
 |_::_,[]=>λ_ _=>rfl
 |[],_::_=>λh _=>by simp_all[Op.bytesLess]
 | a::x,b::y=>by
  intro h1 h2;simp only[Op.bytesLess,ZfP,decide_eq_false_iff_not,ZeX,Zeq,Zek,Zft]at h1⊢;by_cases e:a=b
  ·subst e;have:Op.bytesLess x y=false:=by simp_all
   exact .inr ⟨rfl,IB x y this (λh=>h2 (by rw[h]))⟩
  grind
theorem Zbf(a b:Str):Str.ltb a b=Op.bytesLess a.bytes b.bytes:=by simp[Str.ltb,Go.Lib.toList_data]
theorem QF(a:Str):Str.ltb a a=false:=by simp[Zbf,IG]
theorem Qh{a b c:Str}(h1:Str.ltb a b=true)(h2:Str.ltb b c=true):Str.ltb a c=true:=by grind[Zbf,MS]
theorem HV{a b:Str}(h1:Str.ltb a b=false)(h2:a≠b):Str.ltb b a=true:=by
 exact IB _ _ h1 λe=>h2 (by cases a;simp_all)
abbrev ltV(a b:D.Value):Prop:=Str.ltb a.Name b.Name=true
theorem PG:∀m:List (Str×Int),(vtab m).Pairwise ltV
 |[]=>List.Pairwise.nil
 |(s,w)::m=>by
  have ih:=PG m;unfold vtab;rw[Zez,ZfC];refine⟨ih.filter _,?_,λa ha b hb=>?_⟩
  ·grind
  ·all_goals grind[Qh]
theorem QW(v:D.Value):∀m:List (Str×Int),v∈vtab m↔m.lookup v.Name=some v.W/\v.N=0
 |[]=>by simp[vtab]
 | (s,w)::m=>by
  have ih:=QW v m;unfold vtab;simp only[Zew,Ze6,ZeA,ih,ZeG];by_cases e:v.Name=s
  ·subst e;simp only[QF,Zeg,and_false,false_or,or_false,ZfS,Option.some.injEq];constructor
   ·grind
   ·cases v;simp_all
  ·have e':(v.Name==s)=false:=by simpa using e
   rw[e'];have hne:v≠⟨s,w,0⟩:=λh=>e (by rw[h]);by_cases h:Str.ltb v.Name s=true
   all_goals simp_all[ZgK,or_false,id,HV]
theorem ZbO:∀{l l':List D.Value},l.Pairwise ltV->l'.Pairwise ltV->(∀v,v∈l↔v∈l')->l=l'
 |[],[],_,_,_=>rfl
 |[],y::l',_,_,h=>by grind[List.mem_cons_self]
 |x::l,[],_,_,h=>by grind[List.mem_cons_self]
 | x::l,y::l',h1,h2,h=>by
  rw[ZfE]at h1 h2;have hxy:x=y:=by
   grind[List.mem_cons_self,Qh,QF]
  congr 1;refine ZbO h1.2 h2.2 λv=>?_;have:=h v;simp only[ZeR]at this;constructor
  ·intro hv;rcases this.1 (.inr hv)with e|hv'
   ·have h3:=h1.1 v hv;simp_all[ltV,QF]
   ·exact hv'
  ·intro hv;rcases this.2 (.inr hv)with e|hv'
   ·have h3:=h2.1 v hv;simp_all[ltV,QF]
   ·exact hv'
def cmpS(a b:Str):Int:=if Str.ltb a b then-1 else if Str.gtb a b then 1 else 0
def cmpV(x y:D.Value):Int:=cmpS x.Name y.Name
theorem ZdH(a b:Str):Str.gtb a b=Str.ltb b a:=by
 have h:Str.gtb a b= !(Str.ltb a b||Str.eqb a b):=rfl;by_cases e:a=b
 ·simp_all[QF,Str.eqb]
 ·have he:Str.eqb a b=false:=by
   unfold Str.eqb;have:a.bytes≠b.bytes:=λh=>e (by cases a;simp_all);simp_all
  grind[Str.ltb,Qh,QF,HV]
theorem LJ(x y:D.Value):Go.Proofs.ltOf cmpV x y=Str.ltb x.Name y.Name:=by
 grind[Go.Proofs.ltOf,cmpV,cmpS,ZdH,Str.ltb]
def swoV:Go.Sort.SWO (Go.Proofs.ltOf cmpV)where
 irrefl x:=by simp[LJ,QF]
 trans x y z h1 h2:=by grind[LJ,Qh]
 ntrans x y z h1 h2:=by
  grind[LJ,Str.ltb,HV,Qh]
theorem DI:∀{l l':List D.Value},(l.Pairwise λa b=>a.Name≠b.Name)->(∀v∈l,v∈l')->l.length<=l'.length
 |[],_,_,_=>Zfi _
 | x::l,l',hn,h=>by
  rw[ZfE]at hn;obtain⟨s,t,rfl⟩:=List.append_of_mem (h x ZeK);have:=DI (l:=l) (l':=s++t) hn.2 λv hv=>by
   grind
  grind
theorem NB:∀m:List (Str×Int),(vtab m).length<=m.length
 |[]=>Zes _
 | (s,w)::m=>by
  have ih:=NB m;have key:∀l:List D.Value,(l.filter λv=>Str.ltb v.Name s).length+(l.filter λv=>Str.ltb s v.Name).length<=l.length:=by
   intro l
   induction l with
   |nil=>simp
   |cons v l ihl=>
    grind[Str.ltb,Qh,QF]
  grind[vtab]
open Go.RowKit
def oP(b:Bool)(k:Nat):Value:=cond b (B k 0) (.pointer none)
def HP.on(b:Bool)(l:List HP):HP:=cond b (HP.sep l) (HP.pure True)
section
variable{P:Program}{B:Bs}{N:Nat}{σ:List (Nat×Value)}{Γ:List HP}{Φ:List RF}{a:Act}{w:World}{K:Act->World->Prop}{Q:Exit->Act->World->Prop}{ops:Array Oper}{k d:Nat}{ty t:TypeId}{pos:String}{af:Array Edge}
def Cx.opn{b:Bool}{l:List HP}(i:Nat)(hb:b=true)(c:Cx B N σ Γ Φ a w)(hi:Γ[i]? =some (HP.on b l):=by rfl):Cx B N σ (rest [i] Γ++l) Φ a w:=by
 subst hb;exact c.flat i hi
def Cx.onf(c:Cx B N σ Γ Φ a w):Cx B N σ (Γ++[HP.pure True]) Φ a w:=c.gam λS h=>Zn (Γ2:=[HP.pure True]) (Γ:=Γ) (by
 exact Sep.mk_cons (P:=HP.pure True) (A:=Non) (B:=S) True.intro h (λ_ h _=>h.elim) (λ_ h=>h.elim) λ_ h=>h)
def Cx.onp(l:List HP)(gs:List Nat)(c:Cx B N σ Γ Φ a w)(hL:gs.map (λi=>Γ[i]?)=l.map some:=by rfl)(hn:gs.Nodup:=by decide):Cx B N σ (rest gs Γ++[HP.on true l]) Φ a w:=c.pack (H:=HP.sep l) l gs (λ_ h=>h) hL hn
def Cx.eli{v:Value}{l:List Int}{n x:Int}(c:Cx B N σ Γ Φ a w)(hl:Ava [] Φ w (RO v l))(hx:get? l n=some x):∃p,Cx B N σ Γ (Φ++[EA Int v n p (.int .i64 x)]) a w:=by
 obtain⟨p,u,hF,S,F,h1,h2,h3⟩:=c.elp hl hx;have hr:RV w F u x:=h3 (RO u x) U;have e:u= .int .i64 x:=hr.flat;refine⟨p,hF,S,F,h1,h2,λR hR=>h3 R ?_⟩;grind
def Ih{x y:Code}{o:Operand}{β:Type}{X Y:Option β}{r:Option β}{b:Bool}(c:Cx B N σ Γ Φ a w)(h:(if b=true then X else Y)=r)(ht:b=true->X=r->x.wp P Q a w)(hf:b=false->Y=r->y.wp P Q a w)(hb:opd σ o=some (.bool b):=by kernel_rfl):
  (Code.cond o x y).wp P Q a w:=Bw c.fr hb (λhb=>ht hb (iteT hb h)) λhb=>hf hb (iteF hb h)
def bT{b:Bool}(h:(!b)=false):b=true:=by simpa using h
theorem Ebu{v:Value}{parts:Array (Nat×Operand)}(vs:Array (Nat×Value))(c:Cx B N σ Γ Φ a w)(h:∀fr,Cx B N ((d,v)::σ) Γ Φ fr w->wpFrom P ops Q (k+1) fr w)(ho:ops[k]? =some ⟨some d,.build t parts,ty,pos,af,none⟩:=by rfl)(hd:Nat.blt d N=true:=by rfl)
  (hp:parts.toList.map (λp=>(p.1,opd σ p.2))=vs.toList.map (λp=>(p.1,some p.2)):=by kernel_rfl)(hr:∀w,(Instr.build t vs).run P w= .ok v w:=by intro _;kernel_rfl):wpFrom P ops Q k a w:=by
 have hpv:parts.map (λp=>(p.1,a.eval p.2))=vs:=by
  apply Array.ext';rw[Array.toList_map];have:∀(l:List (Nat×Operand))(m:List (Nat×Value)),l.map (λp=>(p.1,opd σ p.2))=m.map (λp=>(p.1,some p.2))->l.map (λp=>(p.1,a.eval p.2))=m:=by
   intro l
   induction l with
   |nil=>simp
   | cons p l ih=>
    intro m hm;cases m with
    |nil=>cases hm
    |cons q m=>
     simp only[ZeQ,List.cons.injEq,Prod.mk.injEq]at hm;obtain⟨⟨h1,h2⟩,h3⟩:=hm;rw[ZeQ,ih m h3,Zd c.fr h2,h1]
  grind
 exact Zu c.fr ho rfl rfl (Ze4.mp hd) (R:=λq w1=>q=v/\w=w1) (Zh (by simp_all[execOp]) ⟨rfl,rfl⟩) λq w1 fr hq hF'=>by
  obtain⟨rfl,rfl⟩:=hq;exact h fr (c.to hF')
def Eai{x y:Operand}{u v r n:Int}(c:Cx B N σ Γ Φ a w)(hz:get? [u,v] n=some r)(h:∀fr,Cx B N ((d,.int .i64 r)::σ) Γ Φ fr w->wpFrom P ops Q (k+1) fr w)(ho:ops[k]? =some ⟨some d,.index t x y,ty,pos,af,none⟩:=by rfl)(hd:Nat.blt d N=true:=by rfl)
  (hx:opd σ x=some (.agg #[.int .i64 u,.int .i64 v]):=by kernel_rfl)(hy:opd σ y=some (.int .i64 n):=by kernel_rfl)(h0:∀w,(Instr.index t (.agg #[.int .i64 u,.int .i64 v]) (.int .i64 0)).run P w= .ok (.int .i64 u) w:=by intro _;kernel_rfl)
  (h1:∀w,(Instr.index t (.agg #[.int .i64 u,.int .i64 v]) (.int .i64 1)).run P w= .ok (.int .i64 v) w:=by intro _;kernel_rfl):wpFrom P ops Q k a w:=by
 have hn:=get?_nn hz;have hat:=get?_at hz;have hr:(Instr.index t (.agg #[.int .i64 u,.int .i64 v]) (.int .i64 n)).run P w= .ok (.int .i64 r) w:=by
  grind
 exact Zu c.fr ho rfl rfl (Ze4.mp hd) (R:=λq w1=>q= .int .i64 r/\w=w1) (Zh (by simp only[execOp];rw[Zd c.fr hx,Zd c.fr hy];simp[hr]) ⟨rfl,rfl⟩) λq w1 fr hq hF'=>by
  obtain⟨rfl,rfl⟩:=hq;exact h fr (c.to hF')
end
structure JP where
 z:Int
 h:Hd
instance:Rep JP where
 sz:=2
 agg:=true
 ok:=λw F cs x=>cs=[.int .i64 x.z,x.h.v]
 len:=by simp
 one:=by rintro w F cs x rfl u hu;simp at hu;rcases hu with rfl|rfl<;>rfl
 pos:=by decide
 sgl:=λh=>by cases h
 keep:=λh _=>h
instance:Flat JP where
 enc:=λx=>[.int .i64 x.z,x.h.v]
 iff:=Iff.rfl
def PK(E:TypeId)(v:Value){β:Type}(xs:List β):HP:=.ex λraws:List JP=>.two (.pure (raws.length=xs.length)) (SL E v raws)
theorem PK.intro{E:TypeId}{v:Value}{β:Type}{xs:List β}{raws:List JP}{L:List HP}{w:World}{S:Nat->Prop}(hl:raws.length=xs.length)(h:Sep (SL E v raws::L) w S):Sep (PK E v xs::L) w S:=
 h.imp λA hA=>⟨raws,Non,A,hl,hA,λ_ h _=>h.elim,λ_ h=>h.elim (λh=>h.elim) id⟩
def PK.elim{E:TypeId}{v:Value}{β:Type}{xs:List β}{L:List HP}{w:World}{S:Nat->Prop}(h:Sep (PK E v xs::L) w S):∃raws:List JP,raws.length=xs.length/\Sep (SL E v raws::L) w S:=by
 obtain⟨A,R,⟨raws,B,C,h1,h2,h3,h4⟩,k2,k3,k4,k5⟩:=h.cons_ok;exact⟨raws,h1,Sep.mk_cons h2 k2 (λk hc hr=>k3 k (h4 k (.inr hc)) hr) (λk hc=>k4 k (h4 k (.inr hc))) k5⟩
section
variable{P:Program}{B:Bs}{N:Nat}{σ:List (Nat×Value)}{Γ:List HP}{Φ:List RF}{a:Act}{w:World}{K:Act->World->Prop}{Q:Exit->Act->World->Prop}{ops:Array Oper}{k d d2:Nat}{ty ty2 t t1 t':TypeId}{pos pos2:String}{af af2:Array Edge}
theorem Cx.pkn{β:Type}(E:TypeId)(c:Cx B N σ Γ Φ a w):Cx B N σ (Γ++[PK E (.slice none 0 0) ([]:List β)]) Φ a w:=(c.nil (α:=JP) E).gam λS h=>by
 have h2:=h.part [Γ.length] (Γ1:=[SL E (.slice none 0 0) ([]:List JP)]) U U;have h3:=PK.intro (xs:=([]:List β)) rfl h2;have h4:rest [Γ.length] (Γ++[SL E (.slice none 0 0) ([]:List JP)])=Γ:=by
  have h:∀(L:List HP)(j:Nat)(x:HP),restG [j+L.length] j (L++[x])=L:=by
   intro L
   induction L with
   |nil=>simp[cond,memN,Nat.beq_refl,restG]
   |cons y L ih=>
    intro j x;have e:memN [j+(y::L).length] j=false:=by simp[Lu]
    show cond (memN [j+(y::L).length] j) _ _=_;rw[e];show y::restG [j+(y::L).length] (j+1) (L++[x])=y::L;rw[show j+(y::L).length=(j+1)+L.length from by simp;omega,ih]
  have:=h Γ 0 (SL E (.slice none 0 0) ([]:List JP));rw[ZfV]at this;exact this
 simp_all[Zn,PK]
def Cx.pke{β:Type}{E:TypeId}{v:Value}{xs:List β}(i:Nat)(c:Cx B N σ Γ Φ a w)(hi:Γ[i]? =some (PK E v xs)):∃raws:List JP,raws.length=xs.length/\Cx B N σ (SL E v raws::rest [i] Γ) Φ a w:=by
 obtain⟨h,S,F,h1,h2,h3⟩:=c;have hp:=h2.part [i] (Γ1:=[PK E v xs]) aH U;obtain⟨raws,e,hs⟩:=PK.elim hp;exact⟨raws,e,h,S,F,h1,hs,h3⟩
def Zcb{β:Type}{xs r:List β}{q:β}{raws:List JP}{j:JP}(hl:raws.length=xs.length)(hr:app? xs [q]=some r):app? raws [j]=some (raws++[j])/\(raws++[j]).length=r.length:=by
 grind[app?]
theorem Epk2{β:Type}{E:TypeId}{v:Value}{xs r:List β}{q:β}(z:Int)(hdr:Hd){parts:Array (Nat×Operand)}{x:Operand}(i:Nat)(c:Cx B N σ Γ Φ a w)(hr:app? xs [q]=some r)
  (h:∀u a' c' fr w',Cx B N ((d2,.slice a' (List.length r) c')::(d,u)::σ) (rest [i] Γ++[PK E (.slice a' (List.length r) c') r]) Φ fr w'->wpFrom P ops Q (k+2) fr w')(hi:Γ[i]? =some (PK E v xs):=by rfl)
  (ho:ops[k]? =some ⟨some d,.buildSlice t 1 parts,ty,pos,af,none⟩:=by rfl)(hd:Nat.blt d N=true:=by rfl)(hv:parts.toList.map (λp=>opd σ p.2)=[some (.agg #[.int .i64 z,hdr.v])]:=by kernel_rfl)
  (hrun:∀w,(Instr.buildSlice t 1 ((parts.toList.map (·.1)).zip [Value.agg #[.int .i64 z,hdr.v]]).toArray).run P w= .ok (.slice (some ⟨w.heap.size,0,none⟩) 1 1) (w.alloc (.cells #[.int .i64 z,hdr.v] E)):=by intro _;kernel_rfl)
  (ho2:ops[k+1]? =some ⟨some d2,.call ⟨.builtin .append,#[x,.tmp d],#[t1,t']⟩,ty2,pos2,af2,none⟩:=by rfl)(htt:t'=t1:=by rfl)(hd2:Nat.blt d2 N=true:=by rfl)(hx0:(match x with|.tmp s=>s !=d|_=>true)=true:=by rfl)
  (he:ElT P E JP:=by refine elT ?_;kernel_rfl)(ht:P.underlying t1=some (.slice E):=by kernel_rfl)(hx:opd σ x=some v:=by kernel_rfl):wpFrom P ops Q k a w:=by
 obtain⟨raws,hl,c⟩:=c.pke i hi;obtain⟨g1,g2⟩:=Zcb (j:=(⟨z,hdr⟩:JP)) hl hr;have e1:([(⟨z,hdr⟩:JP)].map λx=>Rep.val JP (Flat.enc x))=[Value.agg #[.int .i64 z,hdr.v]]:=rfl;have e2:([(⟨z,hdr⟩:JP)].map Flat.enc).flatten.toArray= #[.int .i64 z,hdr.v]:=rfl;have hv':parts.toList.map (λp=>opd σ p.2)=([(⟨z,hdr⟩:JP)].map λx=>Rep.val JP (Flat.enc x)).map some:=by simp_all
 have hrun':∀w,(Instr.buildSlice t 1 ((parts.toList.map (·.1)).zip ([(⟨z,hdr⟩:JP)].map λx=>Rep.val JP (Flat.enc x))).toArray).run P w= .ok (.slice (some ⟨w.heap.size,0,none⟩) 1 1) (w.alloc (.cells ([(⟨z,hdr⟩:JP)].map Flat.enc).flatten.toArray E)):=by
  simp_all
 refine Elt (α:=JP) E [⟨z,hdr⟩] c (λa1 c1 fr w1 c=>?_) ho hd rfl rfl hv' hrun';have hx':opd ((d,Value.slice a1 (List.length [(⟨z,hdr⟩:JP)]) c1)::σ) x=some v:=by
  cases x with
  |tmp s=>
   have hne:(s==d)=false:=by simp_all
   show List.lookup s ((d,_)::σ)=_;rw[ZeG,hne];exact hx
  |_=>exact hx
 refine Eap (α:=JP) (E:=E) (v:=v) (l:=raws) (m:=[⟨z,hdr⟩]) (r:=raws++[⟨z,hdr⟩]) 0 c (Ava.g (E:=E) (v:=Value.slice a1 (List.length [(⟨z,hdr⟩:JP)]) c1) (l:=[(⟨z,hdr⟩:JP)]) ((SL E v raws::rest [i] Γ).length) U) g1 (λa2 c2 fr w2 c=>?_) rfl ho2 htt hd2 he ht hx' (u:=Value.slice a1 (List.length [(⟨z,hdr⟩:JP)]) c1) (by show List.lookup d ((d,Value.slice a1 (List.length [(⟨z,hdr⟩:JP)]) c1)::σ)=some _;simp);rw[g2]at c;refine h _ a2 c2 fr w2 (c.gam λS hs=>Zn (Γ2:=[PK E (.slice a2 (List.length r) c2) r]) ?_);obtain⟨A,R,h1,h2,h3,h4,h5⟩:=hs.cons_ok;obtain⟨A',R',k1,k2,k3,k4,k5⟩:=Sep.split (L1:=rest [i] Γ) h2;grind[PK.intro,Sep.mk_cons]
end
section
variable{P:Program}{B:Bs}{N:Nat}{σ:List (Nat×Value)}{Γ:List HP}{Φ:List RF}{a:Act}{w:World}{Q:Exit->Act->World->Prop}{ops:Array Oper}{k d i:Nat}{ty t t' E E':TypeId}{pos:String}{af:Array Edge}{x y z:Operand}{v:Value}{n:Int}{p:Addr}{rs:List Hd}{xs ys:List (List Int)}
def Cx.fc0{q:List Int}(i j:Nat)(c:Cx B N σ Γ Φ a w)(hz:get? xs n=some q)(hi:Γ[i]? =some (SL E v rs):=by rfl)(hj:Γ[j]? =some (HP.all (ownL E') rs xs):=by rfl):∃a' c' p,rs[n.toNat]? =some ⟨a',q.length,c'⟩/\rs.length=xs.length/\EP Hd v n p:=by
 obtain⟨_,S,F,_,hs,_⟩:=id c;obtain⟨A,hA,_⟩:=hs.get j hj;have hl:=Sz hA;have hn:=get?_nn hz;have hq:=get?_at hz;have hlt:=(Zej.1 hq).1;have hr:rs[n.toNat]? =some rs[n.toNat]:=Zef O;obtain⟨a',c',e⟩:=EJ (E:=E') (v:=(rs[n.toNat]).v) (l:=q) (Sy hA hr hq:(ownL E' rs[n.toNat] q).ok w A);have e':rs[n.toNat]=⟨a',q.length,c'⟩:=by
  generalize rs[n.toNat]=z at e;cases z;simp_all[Hd.v,Value.slice.injEq]
 obtain⟨b,cap,rfl,e1,e2,e3⟩:=RV.slice (hs.rv i hi);obtain⟨ad,rfl,hFb,hel⟩:=e3 an;exact⟨a',c',_,by rw[hr,e'],hl,ad,rs.length,cap,rfl,rfl,hn,by omega⟩
def qLh{S:List (Nat×Value)}{h:Hd}(j:Nat)(he:EP Hd v n p)(hr:rs[n.toNat]? =some h)(hj:Γ[j]? =some (SL E v rs):=by rfl)(ho:ops[i]? =some ⟨some d,.load t x,ty,pos,af,none⟩:=by rfl)(hdN:Nat.blt d N=true:=by rfl)(ht:Ty P t Hd:=by constructor<;>kernel_rfl)(hx:opd S x=some (.pointer (some p)):=by kernel_rfl)
  (a:Act)(w:World)(c:Cx B N S Γ Φ a w):wpOp P ops Q i (λa' w'=>Cx B N ((d,h.v)::S) Γ Φ a' w') a w:=by
 obtain⟨_,S',F,_,hs,_⟩:=id c;obtain⟨b,cap,rfl,e1,e2,e3⟩:=RV.slice (hs.rv j hj);obtain⟨ad,rfl,hFb,hel⟩:=e3 an;obtain⟨ad',len,cap',e4,rfl,_⟩:=he;obtain⟨e5,_,_⟩:=Value.slice.inj e4;cases e5;obtain⟨cs,hok,hcl⟩:=Tk hel hr;have hcl:Cells w (ad.add (n.toNat*Rep.sz Hd)) cs:=by simp_all
 have ecs:cs=Flat.enc h:=Flat.iff.1 hok;subst ecs;have h1:=Zd c.fr hx;refine qV ho rfl rfl hdN c (Zh (v:=Rep.val Hd (Flat.enc h)) (w':=w) ?_ ⟨rfl,rfl⟩);simp[execOp,Instr.loadAt,h1,Instr.sureAddr,YO ht (Rep.len hok) hcl]
def Efap{q m r:List Int}{u:Value}{a':Option Addr}{c':Nat}(j l:Nat)(c:Cx B N σ Γ Φ a w)(hz:get? xs n=some q)(hr:rs[n.toNat]? =some ⟨a',q.length,c'⟩)(hap:app? q m=some r)
  (h:∀a2 c2 fr w',Cx B N ((d,.slice a2 (List.length r) c2)::σ) (rest [j] Γ++[HP.but (ownL E') n.toNat rs xs,TL E' (.slice a2 (List.length r) c2) r]) Φ fr w'->wpFrom P ops Q (k+1) fr w')(hj:Γ[j]? =some (HP.all (ownL E') rs xs):=by rfl)(hl:(rest [j] Γ)[l]? =some (SL E' u m):=by rfl)
  (ho:ops[k]? =some ⟨some d,.call ⟨.builtin .append,#[x,y],#[t,t']⟩,ty,pos,af,none⟩:=by rfl)(htt:t'=t:=by rfl)(hd:Nat.blt d N=true:=by rfl)(he:ElT P E' Int:=by refine elT ?_;kernel_rfl)(ht:P.underlying t=some (.slice E'):=by kernel_rfl)
  (hx:opd σ x=some (.slice a' q.length c'):=by kernel_rfl)(hy:opd σ y=some u:=by kernel_rfl):wpFrom P ops Q k a w:=by
 have c2:Cx B N σ (rest [j] Γ++[HP.but (ownL E') n.toNat rs xs,TL E' (.slice a' q.length c') q]) Φ a w:=c.gam λS hs=>by
  have hp:=hs.part [j] (Γ1:=[HP.all (ownL E') rs xs]) (by simp[hj]) U;have h4:Sep (HP.two (ownL E' ⟨a',q.length,c'⟩ q) (.but (ownL E') n.toNat rs xs)::rest [j] Γ) w S:=Sep.imp hp λA hA=>Qc hA hr (get?_at hz);have h5:=h4.two;exact Zn (Γ2:=[_,_]) h5.swap
 refine Eapt ((rest [j] Γ).length+1) c2 (Ava.g (E:=E') l ?_) hap (λa2 c2 fr w' c=>h a2 c2 fr w' ?_) U ho htt hd he ht hx hy
 ·grind
 simp_all
def Zah{α:Type}{l r:List α}{n:Int}{q:α}(h:set? l n q=some r):n.toNat<l.length/\r=l.set n.toNat q:=by
 grind[set?,Option.some.inj]
def Efst{r:List Int}{a2:Option Addr}{c2:Nat}(i j l:Nat)(c:Cx B N σ Γ Φ a w)(hep:EP Hd v n p)(hl0:rs.length=xs.length)(hz:set? xs n r=some ys)
  (h:∀fr w',Cx B N σ (rest [i,j,l] Γ++[SL E v (rs.set n.toNat ⟨a2,List.length r,c2⟩),HP.all (ownL E') (rs.set n.toNat ⟨a2,List.length r,c2⟩) ys]) Φ fr w'->wpFrom P ops Q (k+1) fr w')(hi:Γ[i]? =some (SL E v rs):=by rfl)(hj:Γ[j]? =some (HP.but (ownL E') n.toNat rs xs):=by rfl)(hl:Γ[l]? =some (TL E' (.slice a2 (List.length r) c2) r):=by rfl)
  (hne:[i,j,l].Nodup:=by decide)(ho:ops[k]? =some ⟨none,.store E x z,ty,pos,af,none⟩:=by rfl)(he:Ty P E Hd:=by constructor<;>kernel_rfl)(hp:opd σ x=some (.pointer (some p)):=by kernel_rfl)(hq:opd σ z=some (.slice a2 (List.length r) c2):=by kernel_rfl):wpFrom P ops Q k a w:=by
 obtain⟨hlt,rfl⟩:=Zah hz;obtain⟨hF,S,F,hM,hs,hf⟩:=c;have hs:=hs.part [i,j,l] (Γ1:=[SL E v rs,HP.but (ownL E') n.toNat rs xs,TL E' (.slice a2 (List.length r) c2) r]) ag hne;obtain⟨A,hok,hup⟩:=Sep.upd 0 hs rfl hM;rcases hok with⟨go,hown⟩|⟨rfl,_,_⟩
 ·obtain⟨g,w',hgo,⟨cc,hv⟩,hrun,g1,g2⟩:=hown.set_run (P:=P) he (Fr:=Non) (u:=Rep.val Hd (Flat.enc (⟨a2,List.length r,c2⟩:Hd))) (x:=(⟨a2,List.length r,c2⟩:Hd)) ⟨_,Flat.iff.2 rfl,rfl⟩ (Fu:=Non) Pq (λ_ _ h=>h.elim) (n:=n.toNat) O;obtain⟨ad,len,cap,e1,rfl,_⟩:=hep;rw[hv]at e1;obtain⟨e2,_,_⟩:=Value.slice.inj e1;cases e2;obtain⟨S',hpp,hs'⟩:=hup (P':=SL E v (rs.set n.toNat ⟨a2,List.length r,c2⟩)) (g2.mono λk hk=>hown.inG hk) (.inl ⟨go,g1.regard λk _ hk=>.inl hk⟩);refine Qj hF ho rfl rfl (R:=λ_ w2=>w2=w') (SK ?_ rfl) λw2 hw2 hF2=>?_
  ·have hq':opd σ z=some (Rep.val Hd (Flat.enc (⟨a2,List.length r,c2⟩:Hd))):=hq;simp[execOp,Instr.storeAt,Zd hF hp,Zd hF hq',Instr.sureAddr,hrun]
  ·obtain⟨_,rfl⟩:=hw2;refine h _ _ ⟨hF2,S',F,hM.stp hpp,Zn (Γ2:=[_,_]) ?_,hf.chg hpp.chg λk hk hS=>hM.dj k hS hk⟩;have eb:HP.but (ownL E') n.toNat rs xs=HP.but (ownL E') n.toNat (rs.set n.toNat ⟨a2,List.length r,c2⟩) xs:=by
    simp[HP.but,List.take_set_of_le,Zes,List.drop_set_of_lt]
   rw[eb]at hs';exact hs'.under λ_ h=>h.swap.fill (by rw[ZfX];exact hl0) (by rw[Zf7 O]) O
 grind
end
end Go.GL
end
section
namespace Go.GL
open Go.RowKit
section
variable{α:Type}[Rep α]{w:World}{F:Nat->Prop}{b:Option Addr}{n0 c:Nat}{l r:List α}{n:Int}
def ZbH(h:RV w F (.slice b n0 c) l)(hr:cut? l 0 n=some r):RV w F (.slice b (List.length r) c) r/\0<=n/\n<=(c:Int)/\r.length=n.toNat:=by
 unfold cut? at hr;split at hr
 ·rename_i hn;simp only[ZgP,Zfr,Option.some.injEq]at hr;obtain⟨_,hn1,hn2⟩:=hn;have hlen:r.length=n.toNat:=by rw[<-hr,Ze1];omega
  obtain⟨a',c',hv,h1,h2,h3⟩:=h.slice;simp only[Value.slice.injEq]at hv;obtain⟨rfl,rfl,rfl⟩:=hv;refine⟨RV.mk_slice O h2 λhl=>?_,hn1,by omega,hlen⟩;obtain⟨ad,e1,e2,e3⟩:=h3 λe=>hl (by rw[<-hr,e];simp);refine⟨ad,e1,e2,Qg λi x hx=>Tk e3 ?_⟩;rw[<-hr,ZeO]at hx;split at hx
  ·exact hx
  ·cases hx
 ·cases hr
end
section
variable{P:Program}{B:Bs}{N:Nat}{σ:List (Nat×Value)}{Γ:List HP}{Φ:List RF}{a:Act}{w:World}{Q:Exit->Act->World->Prop}{draw:Bool}{ms:List Nat}{ops:Array Oper}{pds:List Pd}{j:Nat}{dst:Option Tmp}{t ty:TypeId}{x:Operand}{pos:String}{af:Array Edge}{g:Option (Nat×Bool)}
def Ava.front{α:Type}[Rep α]{b:Option Addr}{n0 cp:Nat}{l r:List α}{n:Int}(hr:cut? l 0 n=some r)(h:Ava Γ Φ w (RO (.slice b n0 cp) l)):Ava Γ Φ w (RO (L b r cp) r):=λS F hs hf=>(ZbH (h S F hs hf) hr).1
end
end Go.GL
end
section
end
section
namespace Go.GL
open Go.RowKit
section
variable{P:Program}{K V:TypeId}{κ ρ α:Type}[Flat κ][Flat ρ][Rep α][RawOf ρ α][DecidableEq κ]
variable{B:Bs}{N:Nat}{σ:List (Nat×Value)}{Γ:List HP}{Φ:List RF}{a:Act}{w:World}{Q:Exit->Act->World->Prop}{T:MapT P K V κ ρ}
  {ops:Array Oper}{k d b:Nat}{t ty:TypeId}{pos:String}{af:Array Edge}{x y z:Operand}{v:Value}
end
section
variable{P:Program}{B:Bs}{N:Nat}{σ:List (Nat×Value)}{Γ:List HP}{Φ:List RF}{a:Act}{w:World}{Q:Exit->Act->World->Prop}
  {draw:Bool}{ms:List Nat}{ops:Array Oper}{pds:List Pd}{j:Nat}{dst:Option Tmp}{g:Option (Nat×Bool)}{t yt ty:TypeId}{x y:Operand}{pos:String}{af:Array Edge}
end
section
variable{P:Program}{B:Bs}{N:Nat}{σ:List (Nat×Value)}{Γ:List HP}{Φ:List RF}{a a':Act}{w w':World}{Q:Exit->Act->World->Prop}{K:Act->World->Prop}{ι:Type}{R:ι->Res}{fn:Func}
def Pi{id:Nat}{ops:Array Oper}{b:Code}(hs:List (Nat×Nat))(c:Cx B N σ Γ Φ a w)(h:∀{fr},Cx B N ((seqB P N (bxsOf Γ Φ) hs 0 ops.toList σ).getD ([],[])).1 Γ Φ fr w->b.wp P Q fr w)
  (hk:(seqB P N (bxsOf Γ Φ) hs 0 ops.toList σ).map (λr=>r.2.map (·.1))=some (((seqB P N (bxsOf Γ Φ) hs 0 ops.toList σ).map (λr=>r.2.map (·.2))).getD []):=by kernel_rfl):(Code.seq (.region id ops false) b).wp P Q a w:=P0 hs c (λ_=>h) hk
def Pe{id:Nat}{ops:Array Oper}{b:Code}(c:Cx B N σ Γ Φ a w)(h:∀{fr},Cx B N ((seqB P N (bxsOf Γ Φ) [] 0 ops.toList σ).getD ([],[])).1 Γ Φ fr w->b.wp P Q fr w)
  (hk:(seqB P N (bxsOf Γ Φ) [] 0 ops.toList σ).map (λr=>r.2.map (·.1))=some (((seqB P N (bxsOf Γ Φ) [] 0 ops.toList σ).map (λr=>r.2.map (·.2))).getD []):=by kernel_rfl):(Code.seq (.region id ops false) b).wp P Q a w:=P0 [] c (λ_=>h) hk
def Pj{id:Nat}{ops:Array Oper}(hs:List (Nat×Nat))(c:Cx B N σ Γ Φ a w)(h:∀{fr},Cx B N ((seqB P N (bxsOf Γ Φ) hs 0 ops.toList σ).getD ([],[])).1 Γ Φ fr w->K fr w)
  (hk:(seqB P N (bxsOf Γ Φ) hs 0 ops.toList σ).map (λr=>r.2.map (·.1))=some (((seqB P N (bxsOf Γ Φ) hs 0 ops.toList σ).map (λr=>r.2.map (·.2))).getD []):=by kernel_rfl):(Code.region id ops false).wp P (Exit.then K Q) a w:=P1 hs c (λ_=>h) hk
def Fi{ops:Array Oper}{k:Nat}(hs:List (Nat×Nat))(m:Nat)(c:Cx B N σ Γ Φ a w)(h:∀{fr},Cx B N ((seqB P N (bxsOf Γ Φ) hs k ((ops.toList.drop k).take m) σ).getD ([],[])).1 Γ Φ fr w->wpFrom P ops Q (k+m) fr w)
  (hk:(seqB P N (bxsOf Γ Φ) hs k ((ops.toList.drop k).take m) σ).map (λr=>r.2.map (·.1))=some (((seqB P N (bxsOf Γ Φ) hs k ((ops.toList.drop k).take m) σ).map (λr=>r.2.map (·.2))).getD []):=by kernel_rfl):wpFrom P ops Q k a w:=Fp hs m c (λ_=>h) hk
def Fe{ops:Array Oper}{k:Nat}(m:Nat)(c:Cx B N σ Γ Φ a w)(h:∀{fr},Cx B N ((seqB P N (bxsOf Γ Φ) [] k ((ops.toList.drop k).take m) σ).getD ([],[])).1 Γ Φ fr w->wpFrom P ops Q (k+m) fr w)
  (hk:(seqB P N (bxsOf Γ Φ) [] k ((ops.toList.drop k).take m) σ).map (λr=>r.2.map (·.1))=some (((seqB P N (bxsOf Γ Φ) [] k ((ops.toList.drop k).take m) σ).map (λr=>r.2.map (·.2))).getD []):=by kernel_rfl):wpFrom P ops Q k a w:=Fp [] m c (λ_=>h) hk
def F1{ops:Array Oper}{k:Nat}(c:Cx B N σ Γ Φ a w)(h:∀{fr},Cx B N ((seqB P N (bxsOf Γ Φ) [] k ((ops.toList.drop k).take 1) σ).getD ([],[])).1 Γ Φ fr w->wpFrom P ops Q (k+1) fr w)
  (hk:(seqB P N (bxsOf Γ Φ) [] k ((ops.toList.drop k).take 1) σ).map (λr=>r.2.map (·.1))=some (((seqB P N (bxsOf Γ Φ) [] k ((ops.toList.drop k).take 1) σ).map (λr=>r.2.map (·.2))).getD []):=by kernel_rfl):wpFrom P ops Q k a w:=Fp [] 1 c (λ_=>h) hk
def Wt{t:Tmp}{v:Value}(c:Cx B N σ Γ Φ a w)(i:ι)(gs fs:List Nat)(hr:fn.results= #[.tmp t]:=by rfl)(hv:(R i).1=[v]:=by rfl)(hl:σ.lookup t=some v:=by kernel_rfl)(hg:gs.map (λj=>Γ[j]?)=(R i).2.1.map some:=by rfl)(hf:fs.map (λj=>Φ[j]?)=(R i).2.2.map some:=by rfl)
  (hn:gs.Nodup:=by decide):Code.ret.wp P (bodyPost P fn (Rp B R)) a w:=wp_ret (Rt c i gs fs hr hv hl hg hf hn)
end
theorem Jp{P:Program}{B:Bs}{N:Nat}{σ:List (Nat×Value)}{Γ:List HP}{Φ:List RF}{a:Act}{w:World}{K:Act->World->Prop}{Q:Exit->Act->World->Prop}{x:Code}{ρ κ:Type}{F:Option ρ}{r:ρ}(M:κ->Lpt)(hit:F=some r)(c:Cx B N σ Γ Φ a w)
  (h1:F=some r->x.wp P (Exit.then (λa' w'=>∃k,CxL B N Γ Φ (M k) a' w') Q) a w)(cont:∀k a' w',CxL B N Γ Φ (M k) a' w'->K a' w'):x.wp P (Exit.then K Q) a w:=
 wp_mono (h1 hit) λe a' w' he=>by
  cases e with
  |normal=>obtain⟨k,h⟩:=he;exact cont k a' w' h
  |_=>exact he
end Go.GL
end
